import Derived.Test.YtadhjooghfdloaaNStatelessTellsc
namespace Go.Vm.Code
open Go Go.Vm Go.Proofs
def τ0:Operand:=.tmp 0
def τ1:Operand:=.tmp 1
def τ2:Operand:=.tmp 2
def τ3:Operand:=.tmp 3
def τ4:Operand:=.tmp 4
def τ5:Operand:=.tmp 5
def τ6:Operand:=.tmp 6
def τ7:Operand:=.tmp 7
def τ8:Operand:=.tmp 8
def τ9:Operand:=.tmp 9
def τ10:Operand:=.tmp 10
def τ11:Operand:=.tmp 11
def τ12:Operand:=.tmp 12
def τ13:Operand:=.tmp 13
def τ14:Operand:=.tmp 14
def τ15:Operand:=.tmp 15
def τ16:Operand:=.tmp 16
def τ17:Operand:=.tmp 17
def τ18:Operand:=.tmp 18
def τ19:Operand:=.tmp 19
def τ20:Operand:=.tmp 20
def τ21:Operand:=.tmp 21
def τ22:Operand:=.tmp 22
def τ23:Operand:=.tmp 23
def τ24:Operand:=.tmp 24
def τ25:Operand:=.tmp 25
def τ26:Operand:=.tmp 26
def τ27:Operand:=.tmp 27
def τ28:Operand:=.tmp 28
def τ29:Operand:=.tmp 29
def τ30:Operand:=.tmp 30
def τ31:Operand:=.tmp 31
def τ32:Operand:=.tmp 32
def τ33:Operand:=.tmp 33
def τ34:Operand:=.tmp 34
def τ35:Operand:=.tmp 35
def τ36:Operand:=.tmp 36
def τ37:Operand:=.tmp 37
def τ38:Operand:=.tmp 38
def τ39:Operand:=.tmp 39
def τ40:Operand:=.tmp 40
def τ41:Operand:=.tmp 41
def τ42:Operand:=.tmp 42
def τ43:Operand:=.tmp 43
def τ44:Operand:=.tmp 44
def τ45:Operand:=.tmp 45
def τ46:Operand:=.tmp 46
def τ47:Operand:=.tmp 47
def τ48:Operand:=.tmp 48
def τ49:Operand:=.tmp 49
def τ50:Operand:=.tmp 50
def τ51:Operand:=.tmp 51
def τ52:Operand:=.tmp 52
def τ53:Operand:=.tmp 53
def τ54:Operand:=.tmp 54
def τ55:Operand:=.tmp 55
def τ56:Operand:=.tmp 56
def τ57:Operand:=.tmp 57
def τ58:Operand:=.tmp 58
def τ59:Operand:=.tmp 59
def τ60:Operand:=.tmp 60
def τ61:Operand:=.tmp 61
def τ62:Operand:=.tmp 62
def τ63:Operand:=.tmp 63
def τ64:Operand:=.tmp 64
def τ65:Operand:=.tmp 65
def τ66:Operand:=.tmp 66
def τ67:Operand:=.tmp 67
def τ68:Operand:=.tmp 68
def τ69:Operand:=.tmp 69
def τ70:Operand:=.tmp 70
def τ71:Operand:=.tmp 71
def τ72:Operand:=.tmp 72
def τ73:Operand:=.tmp 73
def τ74:Operand:=.tmp 74
def τ75:Operand:=.tmp 75
def τ76:Operand:=.tmp 76
def τ77:Operand:=.tmp 77
def τ78:Operand:=.tmp 78
def τ79:Operand:=.tmp 79
def τ80:Operand:=.tmp 80
def τ81:Operand:=.tmp 81
def τ82:Operand:=.tmp 82
def τ83:Operand:=.tmp 83
def τ84:Operand:=.tmp 84
def τ85:Operand:=.tmp 85
def τ86:Operand:=.tmp 86
def τ87:Operand:=.tmp 87
def τ88:Operand:=.tmp 88
def τ89:Operand:=.tmp 89
def τ90:Operand:=.tmp 90
def τ91:Operand:=.tmp 91
def τ92:Operand:=.tmp 92
def τ93:Operand:=.tmp 93
def τ94:Operand:=.tmp 94
def τ95:Operand:=.tmp 95
def τ96:Operand:=.tmp 96
def τ97:Operand:=.tmp 97
def τ98:Operand:=.tmp 98
def τ99:Operand:=.tmp 99
def τ100:Operand:=.tmp 100
def τ101:Operand:=.tmp 101
def τ102:Operand:=.tmp 102
def τ103:Operand:=.tmp 103
def τ104:Operand:=.tmp 104
def τ105:Operand:=.tmp 105
def τ106:Operand:=.tmp 106
def τ107:Operand:=.tmp 107
def τ108:Operand:=.tmp 108
def τ109:Operand:=.tmp 109
def τ110:Operand:=.tmp 110
def τ111:Operand:=.tmp 111
def τ112:Operand:=.tmp 112
def τ113:Operand:=.tmp 113
def τ114:Operand:=.tmp 114
def τ115:Operand:=.tmp 115
def τ116:Operand:=.tmp 116
def τ117:Operand:=.tmp 117
def τ118:Operand:=.tmp 118
def τ119:Operand:=.tmp 119
def τ120:Operand:=.tmp 120
def τ121:Operand:=.tmp 121
def τ122:Operand:=.tmp 122
def τ123:Operand:=.tmp 123
def τ124:Operand:=.tmp 124
def τ125:Operand:=.tmp 125
def τ126:Operand:=.tmp 126
def τ127:Operand:=.tmp 127
def τ128:Operand:=.tmp 128
def τ129:Operand:=.tmp 129
def τ130:Operand:=.tmp 130
def τ131:Operand:=.tmp 131
def τ132:Operand:=.tmp 132
def τ133:Operand:=.tmp 133
def τ134:Operand:=.tmp 134
def τ135:Operand:=.tmp 135
def τ136:Operand:=.tmp 136
def τ137:Operand:=.tmp 137
def τ138:Operand:=.tmp 138
def τ139:Operand:=.tmp 139
def τ140:Operand:=.tmp 140
def τ141:Operand:=.tmp 141
def τ142:Operand:=.tmp 142
def τ143:Operand:=.tmp 143
def τ144:Operand:=.tmp 144
def τ145:Operand:=.tmp 145
def τ146:Operand:=.tmp 146
def τ147:Operand:=.tmp 147
def τ148:Operand:=.tmp 148
def τ149:Operand:=.tmp 149
def τ150:Operand:=.tmp 150
def τ151:Operand:=.tmp 151
def τ152:Operand:=.tmp 152
def τ153:Operand:=.tmp 153
def τ154:Operand:=.tmp 154
def τ155:Operand:=.tmp 155
def τ156:Operand:=.tmp 156
def τ157:Operand:=.tmp 157
def τ158:Operand:=.tmp 158
def τ159:Operand:=.tmp 159
def oD (n:Nat) (o:VOp):VOper:=⟨some n,o,none⟩
def oN (o:VOp):VOper:=⟨none,o,none⟩
def oM (n:Nat) (x:Operand):VOper:=⟨some n,.mv x,none⟩
def oG (n:Nat) (o:VOp) (j:Nat) (b:Bool):VOper:=⟨some n,o,some (j,b)⟩
def oE (n i:Nat) (x:Operand):VOper:=⟨some n,.extract i x,none⟩
def k12_0 : VC := .reg [oD 6 (.box τ0),oD 7 (.box τ1),oD 8 (.box τ2),oD 12 (.mv (.const (.bool false)))]
def k12_1 : VC := .reg [oM 30 τ5,oD 31 (.lenL τ30),oD 32 (.bin .gtr τ31 (.const (.int .i64 30))),oM 33 τ32,oG 34 (.fieldA 14 τ6) 33 false,oG 35 (.load1 .str τ34) 33 false,oG 36 (.lenS τ35) 33 false,oG 37 (.bin .gtr τ36 (.const (.int .i64 40))) 33 false,oD 38 (.pick τ33 (.const (.bool true)) τ37)]
def k12_2 : VC := .reg [oD 39 (.callF 61 []),oM 12 τ39]
def k12_3 : VC := .seq k12_2 .ret
def k12_4 : VC := .cond τ38 k12_3 .skip
def k12_5 : VC := .seq k12_1 k12_4
def k12_6 : VC := .regD [oD 40 (.loadN [(.int .i64), .bool, (.int .u64), (.int .u64), .bool, (.int .u64), (.int .u64), (.int .i64), (.int .i64), (.int .i64), .bool, (.int .u32), (.int .u32), .bool, .str, (.int .i64)] τ6),oD 41 (.callF 62 [τ40]),oD 42 (.loadN [(.int .i64), .bool, (.int .u64), (.int .u64), .bool, (.int .u64), (.int .u64), (.int .i64), (.int .i64), (.int .i64), .bool, (.int .u32), (.int .u32), .bool, .str, (.int .i64)] τ6),oD 43 (.callF 63 [τ42]),oD 13 (.alloc [(.bool false), (.bool false), (.int .u64 0)]),oD 14 (.alloc [(.bool false), (.bool false), (.int .u64 0)])] [(0, 4), (0, 5), (1, 2), (1, 4), (1, 5), (2, 4), (2, 5), (3, 4), (3, 5), (4, 5)] [oN (.store 3 τ13 τ41),oN (.store 3 τ14 τ43)]
def k12_7 : VC := .regD [oD 44 (.fieldA 0 τ13),oD 45 (.load1 .bool τ44),oD 46 (.fieldA 0 τ14),oD 47 (.load1 .bool τ46),oD 48 (.eqB true τ45 τ47),oM 49 τ48,oG 50 (.fieldA 1 τ13) 49 false,oG 51 (.load1 .bool τ50) 49 false,oG 52 (.fieldA 1 τ14) 49 false,oG 53 (.load1 .bool τ52) 49 false,oG 54 (.eqB true τ51 τ53) 49 false,oD 55 (.pick τ49 (.const (.bool true)) τ54),oM 56 τ55,oG 57 (.fieldA 2 τ13) 56 false,oG 58 (.load1 (.int .u64) τ57) 56 false,oG 59 (.fieldA 2 τ14) 56 false,oG 60 (.load1 (.int .u64) τ59) 56 false,oG 61 (.bin .neq τ58 τ60) 56 false,oD 62 (.pick τ56 (.const (.bool true)) τ61),oM 63 τ62,oG 64 (.loadN [(.int .u64), (.int .u64)] τ7) 63 false,oG 65 (.loadN [(.int .i64), .bool, (.int .u64), (.int .u64), .bool, (.int .u64), (.int .u64), (.int .i64), (.int .i64)] τ8) 63 false,oG 66 (.mv τ3) 63 false,oG 67 (.callF 64 [τ64, τ65, τ66]) 63 false,oG 68 (.loadN [(.int .u64), (.int .u64)] τ7) 63 false,oG 69 (.loadN [(.int .i64), .bool, (.int .u64), (.int .u64), .bool, (.int .u64), (.int .u64), (.int .i64), (.int .i64)] τ8) 63 false,oG 70 (.mv τ3) 63 false] [(23, 24), (23, 25)] [oG 71 (.callF 38 [τ68, τ69, τ70]) 63 false,oG 72 (.bin .neq τ67 τ71) 63 false,oD 73 (.pick τ63 (.const (.bool true)) τ72)]
def k12_8 : VC := .reg [oD 12 (.mv (.const (.bool false)))]
def k12_9 : VC := .seq k12_8 .ret
def k12_10 : VC := .cond τ73 k12_9 .skip
def k12_11 : VC := .seq k12_7 k12_10
def k12_12 : VC := .reg [oD 75 (.loadN [(.int .u64), (.int .u64)] τ7),oD 76 (.loadN [(.int .i64), .bool, (.int .u64), (.int .u64), .bool, (.int .u64), (.int .u64), (.int .i64), (.int .i64)] τ8),oM 77 τ4,oD 78 (.callF 65 [τ75, τ76, τ77]),oM 74 τ78,oE 79 0 τ74,oE 80 1 τ74,oM 15 τ79,oM 16 τ80]
def k12_13 : VC := .reg [oD 82 (.loadN [(.int .u64), (.int .u64)] τ7),oD 83 (.loadN [(.int .i64), .bool, (.int .u64), (.int .u64), .bool, (.int .u64), (.int .u64), (.int .i64), (.int .i64)] τ8),oM 84 τ4,oD 85 (.callF 46 [τ82, τ83, τ84]),oM 81 τ85,oE 86 0 τ81,oE 87 1 τ81,oM 17 τ86,oM 18 τ87]
def k12_14 : VC := .reg [oM 89 τ5,oD 90 (.callF 66 [τ89]),oM 88 τ90,oE 91 0 τ88,oE 92 1 τ88,oM 19 τ91,oM 20 τ92]
def k12_15 : VC := .reg [oM 94 τ19,oD 95 (.loadN [(.int .u64), (.int .u64)] τ7),oD 96 (.loadN [(.int .i64), .bool, (.int .u64), (.int .u64), .bool, (.int .u64), (.int .u64), (.int .i64), (.int .i64)] τ8),oM 97 τ4,oD 98 (.callF 67 [τ94, τ95, τ96, τ97]),oM 93 τ98,oE 99 0 τ93,oE 100 1 τ93,oD 21 (.alloc [(.int .i64 0), (.int .i64 0), (.int .i64 0), (.bool false), (.int .u64 0), (.int .u64 0)]),oN (.store 6 τ21 τ99),oM 22 τ100]
def k12_16 : VC := .reg [oM 102 τ20,oD 103 (.loadN [(.int .u64), (.int .u64)] τ7),oD 104 (.loadN [(.int .i64), .bool, (.int .u64), (.int .u64), .bool, (.int .u64), (.int .u64), (.int .i64), (.int .i64)] τ8),oM 105 τ4,oD 106 (.callF 68 [τ102, τ103, τ104, τ105]),oM 101 τ106,oE 107 0 τ101,oE 108 1 τ101,oD 23 (.alloc [(.int .i64 0), (.int .i64 0), (.int .i64 0), (.bool false), (.int .u64 0), (.int .u64 0)]),oN (.store 6 τ23 τ107),oM 24 τ108]
def k12_17 : VC := .reg [oD 109 (.loadN [(.int .u64), (.int .u64)] τ7),oD 110 (.loadN [(.int .i64), .bool, (.int .u64), (.int .u64), .bool, (.int .u64), (.int .u64), (.int .i64), (.int .i64)] τ8),oM 111 τ3,oD 112 (.callF 64 [τ109, τ110, τ111]),oM 25 τ112]
def k12_18 : VC := .reg [oM 114 τ19,oD 115 (.loadN [(.int .u64), (.int .u64)] τ7),oD 116 (.loadN [(.int .i64), .bool, (.int .u64), (.int .u64), .bool, (.int .u64), (.int .u64), (.int .i64), (.int .i64)] τ8),oM 117 τ25,oD 118 (.callF 67 [τ114, τ115, τ116, τ117]),oM 113 τ118,oE 119 0 τ113,oE 120 1 τ113,oD 26 (.alloc [(.int .i64 0), (.int .i64 0), (.int .i64 0), (.bool false), (.int .u64 0), (.int .u64 0)]),oN (.store 6 τ26 τ119),oM 27 τ120]
def k12_19 : VC := .reg [oM 122 τ20,oD 123 (.loadN [(.int .u64), (.int .u64)] τ7),oD 124 (.loadN [(.int .i64), .bool, (.int .u64), (.int .u64), .bool, (.int .u64), (.int .u64), (.int .i64), (.int .i64)] τ8),oM 125 τ25,oD 126 (.callF 68 [τ122, τ123, τ124, τ125]),oM 121 τ126,oE 127 0 τ121,oE 128 1 τ121,oD 28 (.alloc [(.int .i64 0), (.int .i64 0), (.int .i64 0), (.bool false), (.int .u64 0), (.int .u64 0)]),oN (.store 6 τ28 τ127),oM 29 τ128]
def k12_20 : VC := .reg [oM 129 τ15,oM 130 τ17,oD 131 (.bin .eql τ129 τ130),oM 132 τ131,oG 133 (.mv τ16) 132 true,oG 134 (.mv τ18) 132 true,oG 135 (.eqB false τ133 τ134) 132 true,oD 136 (.pick τ132 τ135 (.const (.bool false))),oM 137 τ136,oG 138 (.loadN [(.int .i64), (.int .i64), (.int .i64), .bool, (.int .u64), (.int .u64)] τ21) 137 true,oG 139 (.loadN [(.int .i64), (.int .i64), (.int .i64), .bool, (.int .u64), (.int .u64)] τ23) 137 true,oG 140 (.eqAgg false [(0, (.int .i64)), (1, (.int .i64)), (2, (.int .i64)), (3, .bool), (4, (.int .u64)), (5, (.int .u64))] τ138 τ139) 137 true,oD 141 (.pick τ137 τ140 (.const (.bool false))),oM 142 τ141,oG 143 (.mv τ22) 142 true,oG 144 (.mv τ24) 142 true,oG 145 (.eqB false τ143 τ144) 142 true,oD 146 (.pick τ142 τ145 (.const (.bool false))),oM 147 τ146,oG 148 (.loadN [(.int .i64), (.int .i64), (.int .i64), .bool, (.int .u64), (.int .u64)] τ26) 147 true,oG 149 (.loadN [(.int .i64), (.int .i64), (.int .i64), .bool, (.int .u64), (.int .u64)] τ28) 147 true,oG 150 (.eqAgg false [(0, (.int .i64)), (1, (.int .i64)), (2, (.int .i64)), (3, .bool), (4, (.int .u64)), (5, (.int .u64))] τ148 τ149) 147 true,oD 151 (.pick τ147 τ150 (.const (.bool false))),oM 152 τ151,oG 153 (.mv τ27) 152 true,oG 154 (.mv τ29) 152 true,oG 155 (.eqB false τ153 τ154) 152 true,oD 156 (.pick τ152 τ155 (.const (.bool false))),oM 157 τ156,oG 158 (.callF 61 []) 157 true,oD 159 (.pick τ157 τ158 (.const (.bool false))),oM 12 τ159]
def k12_21 : VC := .seq k12_20 .ret
def k12_22 : VC := .seq k12_19 k12_21
def k12_23 : VC := .seq k12_18 k12_22
def k12_24 : VC := .seq k12_17 k12_23
def k12_25 : VC := .seq k12_16 k12_24
def k12_26 : VC := .seq k12_15 k12_25
def k12_27 : VC := .seq k12_14 k12_26
def k12_28 : VC := .seq k12_13 k12_27
def k12_29 : VC := .seq k12_12 k12_28
def k12_30 : VC := .seq k12_11 k12_29
def k12_31 : VC := .seq k12_6 k12_30
def k12_32 : VC := .seq k12_5 k12_31
def k12_33 : VC := .seq k12_0 k12_32
def fn12 : VFn := ⟨160, k12_33, [.tmp 12]⟩
def k61_0 : VC := .reg [oD 0 (.mv (.const (.bool false)))]
def k61_1 : VC := .reg [oD 5 (.build [(.int .i64 0), (.bool false), (.int .u64 0), (.int .u64 0), (.bool false), (.int .u64 0), (.int .u64 0), (.int .i64 0), (.int .i64 0)] [(0, 1, (.const (.int .i64 6)))]),oD 6 (.build [(.int .i64 0), (.bool false), (.int .u64 0), (.int .u64 0), (.bool false), (.int .u64 0), (.int .u64 0), (.int .i64 0), (.int .i64 0), (.int .i64 0), (.bool false), (.int .u32 0), (.int .u32 0), (.bool false), (.string ⟨⟨[]⟩⟩), (.int .i64 0)] [(0, 9, τ5), (9, 1, (.const (.int .i64 16))), (10, 1, (.const (.bool true))), (12, 1, (.const (.int .u32 65536)))]),oD 7 (.callF 62 [τ6]),oD 1 (.alloc [(.bool false), (.bool false), (.int .u64 0)]),oN (.store 3 τ1 τ7)]
def k61_2 : VC := .reg [oD 8 (.build [(.int .i64 0), (.bool false), (.int .u64 0), (.int .u64 0), (.bool false), (.int .u64 0), (.int .u64 0), (.int .i64 0), (.int .i64 0)] [(0, 1, (.const (.int .i64 17)))]),oD 9 (.build [(.int .i64 0), (.bool false), (.int .u64 0), (.int .u64 0), (.bool false), (.int .u64 0), (.int .u64 0), (.int .i64 0), (.int .i64 0), (.int .i64 0), (.bool false), (.int .u32 0), (.int .u32 0), (.bool false), (.string ⟨⟨[]⟩⟩), (.int .i64 0)] [(0, 9, τ8), (13, 1, (.const (.bool true))), (14, 1, (.const (.string ⟨⟨[97]⟩⟩)))]),oD 10 (.callF 62 [τ9]),oD 2 (.alloc [(.bool false), (.bool false), (.int .u64 0)]),oN (.store 3 τ2 τ10)]
def k61_3 : VC := .reg [oD 12 (.build [(.int .u64 0), (.int .u64 0)] []),oD 13 (.build [(.int .i64 0), (.bool false), (.int .u64 0), (.int .u64 0), (.bool false), (.int .u64 0), (.int .u64 0), (.int .i64 0), (.int .i64 0)] []),oD 14 (.callF 67 [(.const (.pointer none)), τ12, τ13, (.const (.int .u64 0))]),oM 11 τ14,oE 15 0 τ11,oE 16 1 τ11,oD 3 (.alloc [(.int .i64 0), (.int .i64 0), (.int .i64 0), (.bool false), (.int .u64 0), (.int .u64 0)]),oN (.store 6 τ3 τ15),oM 4 τ16]
def k61_4 : VC := .reg [oD 17 (.fieldA 0 τ1),oD 18 (.load1 .bool τ17),oD 19 (.not τ18),oM 20 τ19,oG 21 (.fieldA 1 τ1) 20 true,oG 22 (.load1 .bool τ21) 20 true,oD 23 (.pick τ20 τ22 (.const (.bool false))),oM 24 τ23,oG 25 (.fieldA 2 τ1) 24 true,oG 26 (.load1 (.int .u64) τ25) 24 true,oG 27 (.bin .eql τ26 (.const (.int .u64 1))) 24 true,oD 28 (.pick τ24 τ27 (.const (.bool false))),oM 29 τ28,oG 30 (.fieldA 0 τ2) 29 true,oG 31 (.load1 .bool τ30) 29 true,oD 32 (.pick τ29 τ31 (.const (.bool false))),oM 33 τ32,oG 34 (.fieldA 1 τ2) 33 true,oG 35 (.load1 .bool τ34) 33 true,oG 36 (.not τ35) 33 true,oD 37 (.pick τ33 τ36 (.const (.bool false))),oM 38 τ37,oG 39 (.mv τ4) 38 true,oG 40 (.not τ39) 38 true,oD 41 (.pick τ38 τ40 (.const (.bool false))),oM 42 τ41,oG 43 (.build [(.int .u64 0), (.int .u64 0)] []) 42 true,oG 44 (.build [(.int .i64 0), (.bool false), (.int .u64 0), (.int .u64 0), (.bool false), (.int .u64 0), (.int .u64 0), (.int .i64 0), (.int .i64 0)] []) 42 true,oG 45 (.callF 64 [τ43, τ44, (.const (.int .i64 0))]) 42 true,oG 46 (.bin .eql τ45 (.const (.int .u64 0))) 42 true,oD 47 (.pick τ42 τ46 (.const (.bool false))),oM 0 τ47]
def k61_5 : VC := .seq k61_4 .ret
def k61_6 : VC := .seq k61_3 k61_5
def k61_7 : VC := .seq k61_2 k61_6
def k61_8 : VC := .seq k61_1 k61_7
def k61_9 : VC := .seq k61_0 k61_8
def fn61 : VFn := ⟨48, k61_9, [.tmp 0]⟩
def k62_0 : VC := .reg [oD 1 (.box τ0),oD 2 (.alloc [(.bool false), (.bool false), (.int .u64 0)])]
def k62_1 : VC := .reg [oD 6 (.fieldA 0 τ1),oD 7 (.fieldA 0 τ6),oD 8 (.load1 (.int .i64) τ7),oD 9 (.bin .eql τ8 (.const (.int .i64 6))),oM 10 τ9,oG 11 (.fieldA 9 τ1) 10 true,oG 12 (.load1 (.int .i64) τ11) 10 true,oG 13 (.callF 117 [(.const (.int .i64 6)), τ12]) 10 true,oD 14 (.pick τ10 τ13 (.const (.bool false))),oM 5 τ14]
def k62_2 : VC := .reg [oD 15 (.build [(.bool false), (.bool false), (.int .u64 0)] [(0, 1, (.const (.bool true)))]),oN (.store 3 τ2 τ15)]
def k62_3 : VC := .seq k62_2 .ret
def k62_4 : VC := .reg [oD 17 (.fieldA 0 τ1),oD 18 (.fieldA 0 τ17),oD 19 (.load1 (.int .i64) τ18),oD 20 (.bin .eql τ19 (.const (.int .i64 6))),oM 21 τ20,oG 22 (.fieldA 10 τ1) 21 true,oG 23 (.load1 .bool τ22) 21 true,oD 24 (.pick τ21 τ23 (.const (.bool false))),oM 16 τ24]
def k62_5 : VC := .reg [oD 25 (.fieldA 12 τ1),oD 26 (.load1 (.int .u32) τ25),oD 27 (.bin .shr τ26 (.const (.int .u64 16))),oD 28 (.conv .u64 τ27),oD 29 (.build [(.bool false), (.bool false), (.int .u64 0)] [(1, 1, (.const (.bool true))), (2, 1, τ28)]),oN (.store 3 τ2 τ29)]
def k62_6 : VC := .seq k62_5 .ret
def k62_7 : VC := .reg [oD 31 (.fieldA 0 τ1),oD 32 (.fieldA 0 τ31),oD 33 (.load1 (.int .i64) τ32),oD 34 (.bin .eql τ33 (.const (.int .i64 17))),oM 35 τ34,oG 36 (.fieldA 14 τ1) 35 true,oG 37 (.load1 .str τ36) 35 true,oG 38 (.bin .neq τ37 (.const (.string ⟨⟨[]⟩⟩))) 35 true,oD 39 (.pick τ35 τ38 (.const (.bool false))),oM 30 τ39]
def k62_8 : VC := .reg [oD 41 (.fieldA 14 τ1),oD 42 (.load1 .str τ41),oD 43 (.fieldA 14 τ1),oD 44 (.load1 .str τ43),oD 45 (.lenS τ44),oD 46 (.callF 99 [τ42, (.const (.int .i64 0)), τ45]),oM 40 τ46,oE 47 0 τ40,oE 48 1 τ40,oM 3 τ47,oM 4 τ48]
def k62_9 : VC := .reg [oD 49 (.fieldA 14 τ1),oD 50 (.load1 .str τ49),oD 51 (.lenS τ50),oD 52 (.bin .neq τ51 (.const (.int .i64 8)))]
def k62_10 : VC := .reg [oD 3 (.mv (.const (.int .u64 0))),oD 4 (.mv (.const (.bool false)))]
def k62_11 : VC := .cond τ52 k62_10 .skip
def k62_12 : VC := .seq k62_9 k62_11
def k62_13 : VC := .reg [oD 53 (.fieldA 13 τ1),oD 54 (.load1 .bool τ53),oM 55 τ4,oM 56 τ3,oD 57 (.build [(.bool false), (.bool false), (.int .u64 0)] [(0, 1, τ54), (1, 1, τ55), (2, 1, τ56)]),oN (.store 3 τ2 τ57)]
def k62_14 : VC := .seq k62_13 .ret
def k62_15 : VC := .seq k62_12 k62_14
def k62_16 : VC := .seq k62_8 k62_15
def k62_17 : VC := .cond τ30 k62_16 .skip
def k62_18 : VC := .seq k62_7 k62_17
def k62_19 : VC := .cond τ16 k62_6 k62_18
def k62_20 : VC := .seq k62_4 k62_19
def k62_21 : VC := .cond τ5 k62_3 k62_20
def k62_22 : VC := .seq k62_1 k62_21
def k62_23 : VC := .block 0 k62_22
def k62_24 : VC := .reg [oD 58 (.build [(.bool false), (.bool false), (.int .u64 0)] []),oN (.store 3 τ2 τ58)]
def k62_25 : VC := .seq k62_24 .ret
def k62_26 : VC := .seq k62_23 k62_25
def k62_27 : VC := .seq k62_0 k62_26
def fn62 : VFn := ⟨59, k62_27, [.cell 2 [.bool, .bool, (.int .u64)] true]⟩
def k117_0 : VC := .reg [oD 4 (.mv (.const (.bool false)))]
def k117_1 : VC := .reg [oM 6 τ1,oM 5 τ6]
def k117_2 : VC := .reg [oM 7 τ0,oD 8 (.bin .eql τ7 (.const (.int .i64 6))),oM 9 τ8,oG 10 (.mv τ5) 9 true,oG 11 (.callF 140 [τ10, (.const (.int .i64 2))]) 9 true,oD 12 (.pick τ9 τ11 (.const (.bool false))),oM 13 τ12,oG 14 (.mv τ5) 13 true,oG 15 (.callF 141 [τ14, (.const (.int .i64 21))]) 13 true,oG 16 (.not τ15) 13 true,oD 17 (.pick τ13 τ16 (.const (.bool false))),oM 4 τ17]
def k117_3 : VC := .seq k117_2 .ret
def k117_4 : VC := .seq k117_1 k117_3
def k117_5 : VC := .seq k117_0 k117_4
def fn117 : VFn := ⟨18, k117_5, [.tmp 4]⟩
def k140_0 : VC := .reg [oD 4 (.mv (.const (.bool false)))]
def k140_1 : VC := .reg [oM 5 τ0,oM 6 τ1,oD 7 (.bin .and τ5 τ6),oM 8 τ1,oD 9 (.bin .eql τ7 τ8),oM 4 τ9]
def k140_2 : VC := .seq k140_1 .ret
def k140_3 : VC := .seq k140_0 k140_2
def fn140 : VFn := ⟨10, k140_3, [.tmp 4]⟩
def k141_0 : VC := .reg [oD 4 (.mv (.const (.bool false)))]
def k141_1 : VC := .reg [oM 5 τ0,oM 6 τ1,oD 7 (.bin .and τ5 τ6),oD 8 (.bin .neq τ7 (.const (.int .i64 0))),oM 4 τ8]
def k141_2 : VC := .seq k141_1 .ret
def k141_3 : VC := .seq k141_0 k141_2
def fn141 : VFn := ⟨9, k141_3, [.tmp 4]⟩
def k99_0 : VC := .reg [oD 6 (.mv (.const (.int .u64 0))),oD 7 (.mv (.const (.bool false)))]
def k99_1 : VC := .reg [oM 11 τ2,oD 12 (.bin .lss τ11 (.const (.int .i64 1))),oM 13 τ12,oG 14 (.mv τ2) 13 false,oG 15 (.bin .gtr τ14 (.const (.int .i64 8))) 13 false,oD 16 (.pick τ13 (.const (.bool true)) τ15),oM 17 τ16,oG 18 (.mv τ1) 17 false,oG 19 (.bin .lss τ18 (.const (.int .i64 0))) 17 false,oD 20 (.pick τ17 (.const (.bool true)) τ19),oM 21 τ20,oG 22 (.mv τ0) 21 false,oG 23 (.lenS τ22) 21 false,oG 24 (.mv τ2) 21 false,oG 25 (.bin .sub τ23 τ24) 21 false,oG 26 (.mv τ1) 21 false,oG 27 (.bin .lss τ25 τ26) 21 false,oD 28 (.pick τ21 (.const (.bool true)) τ27)]
def k99_2 : VC := .reg [oD 6 (.mv (.const (.int .u64 0))),oD 7 (.mv (.const (.bool false)))]
def k99_3 : VC := .seq k99_2 .ret
def k99_4 : VC := .cond τ28 k99_3 .skip
def k99_5 : VC := .seq k99_1 k99_4
def k99_6 : VC := .reg [oD 8 (.mv (.const (.int .u64 0)))]
def k99_7 : VC := .reg [oM 29 τ0,oM 30 τ1,oM 31 τ1,oM 32 τ2,oD 33 (.bin .add τ31 τ32),oD 34 (.sliceS τ29 (some τ30) (some τ33)),oD 35 (.s2b τ34),oD 36 (.lenL τ35),oD 37 (.mv (.const (.int .i64 0)))]
def k99_8 : VC := .reg [oD 38 (.bin .lss τ37 τ36)]
def k99_9 : VC := .cond τ38 .skip (.exit 0)
def k99_10 : VC := .reg [oD 39 (.idxAL 1 τ35 τ37),oD 40 (.load1 (.int .u8) τ39),oM 10 τ40]
def k99_11 : VC := .reg [oM 41 τ8,oD 42 (.bin .shl τ41 (.const (.int .u64 8))),oM 43 τ10,oD 44 (.conv .u64 τ43),oD 45 (.bin .or τ42 τ44),oM 8 τ45]
def k99_12 : VC := .seq k99_10 k99_11
def k99_13 : VC := .block 1 k99_12
def k99_14 : VC := .reg [oD 46 (.bin .add τ37 (.const (.int .i64 1))),oM 37 τ46]
def k99_15 : VC := .seq k99_13 k99_14
def k99_16 : VC := .seq k99_9 k99_15
def k99_17 : VC := .seq k99_8 k99_16
def k99_18 : VC := .loop k99_17
def k99_19 : VC := .block 0 k99_18
def k99_20 : VC := .seq k99_7 k99_19
def k99_21 : VC := .reg [oM 47 τ8,oM 6 τ47,oD 7 (.mv (.const (.bool true)))]
def k99_22 : VC := .seq k99_21 .ret
def k99_23 : VC := .seq k99_20 k99_22
def k99_24 : VC := .seq k99_6 k99_23
def k99_25 : VC := .seq k99_5 k99_24
def k99_26 : VC := .seq k99_0 k99_25
def fn99 : VFn := ⟨48, k99_26, [.tmp 6, .tmp 7]⟩
def k67_0 : VC := .reg [oD 5 (.box τ1),oD 6 (.box τ2),oD 8 (.alloc [(.int .i64 0), (.int .i64 0), (.int .i64 0), (.bool false), (.int .u64 0), (.int .u64 0)]),oD 9 (.mv (.const (.bool false)))]
def k67_1 : VC := .reg [oD 15 (.loadN [(.int .u64), (.int .u64)] τ5),oD 16 (.loadN [(.int .i64), .bool, (.int .u64), (.int .u64), .bool, (.int .u64), (.int .u64), (.int .i64), (.int .i64)] τ6),oM 17 τ3,oD 18 (.callF 65 [τ15, τ16, τ17]),oM 14 τ18,oE 19 0 τ14,oE 20 1 τ14,oM 10 τ19,oM 11 τ20]
def k67_2 : VC := .reg [oM 21 τ11,oD 22 (.not τ21)]
def k67_3 : VC := .reg [oD 23 (.build [(.int .i64 0), (.int .i64 0), (.int .i64 0), (.bool false), (.int .u64 0), (.int .u64 0)] []),oN (.store 6 τ8 τ23),oD 9 (.mv (.const (.bool false)))]
def k67_4 : VC := .seq k67_3 .ret
def k67_5 : VC := .cond τ22 k67_4 .skip
def k67_6 : VC := .seq k67_2 k67_5
def k67_7 : VC := .reg [oM 25 τ0,oM 26 τ10,oD 27 (.callF 18 [τ25, τ26]),oM 24 τ27,oE 28 0 τ24,oE 29 1 τ24,oD 12 (.alloc [(.int .i64 0), (.int .i64 0), (.int .i64 0), (.bool false), (.int .u64 0), (.int .u64 0)]),oN (.store 6 τ12 τ28),oM 13 τ29]
def k67_8 : VC := .reg [oM 30 τ13,oD 31 (.not τ30),oM 32 τ31,oG 33 (.fieldA 2 τ12) 32 false,oG 34 (.load1 (.int .i64) τ33) 32 false,oG 35 (.bin .eql τ34 (.const (.int .i64 4))) 32 false,oD 36 (.pick τ32 (.const (.bool true)) τ35)]
def k67_9 : VC := .reg [oD 37 (.build [(.int .i64 0), (.int .i64 0), (.int .i64 0), (.bool false), (.int .u64 0), (.int .u64 0)] []),oN (.store 6 τ8 τ37),oD 9 (.mv (.const (.bool false)))]
def k67_10 : VC := .seq k67_9 .ret
def k67_11 : VC := .cond τ36 k67_10 .skip
def k67_12 : VC := .seq k67_8 k67_11
def k67_13 : VC := .reg [oD 38 (.loadN [(.int .i64), (.int .i64), (.int .i64), .bool, (.int .u64), (.int .u64)] τ12),oN (.store 6 τ8 τ38),oD 9 (.mv (.const (.bool true)))]
def k67_14 : VC := .seq k67_13 .ret
def k67_15 : VC := .seq k67_12 k67_14
def k67_16 : VC := .seq k67_7 k67_15
def k67_17 : VC := .seq k67_6 k67_16
def k67_18 : VC := .seq k67_1 k67_17
def k67_19 : VC := .seq k67_0 k67_18
def fn67 : VFn := ⟨39, k67_19, [.cell 8 [(.int .i64), (.int .i64), (.int .i64), .bool, (.int .u64), (.int .u64)] true, .tmp 9]⟩
def k65_0 : VC := .reg [oD 3 (.box τ0),oD 4 (.box τ1),oD 6 (.mv (.const (.int .i64 0))),oD 7 (.mv (.const (.bool false)))]
def k65_1 : VC := .reg [oD 9 (.loadN [(.int .u64), (.int .u64)] τ3),oD 10 (.loadN [(.int .i64), .bool, (.int .u64), (.int .u64), .bool, (.int .u64), (.int .u64), (.int .i64), (.int .i64)] τ4),oM 11 τ2,oD 12 (.callF 120 [τ9, τ10, τ11]),oM 8 τ12]
def k65_2 : VC := .reg [oM 13 τ8,oD 14 (.callF 119 [τ13]),oD 15 (.not τ14),oM 16 τ15,oG 17 (.loadN [(.int .u64), (.int .u64)] τ3) 16 false,oG 18 (.loadN [(.int .i64), .bool, (.int .u64), (.int .u64), .bool, (.int .u64), (.int .u64), (.int .i64), (.int .i64)] τ4) 16 false,oG 19 (.mv τ8) 16 false,oG 20 (.callF 120 [τ17, τ18, τ19]) 16 false,oG 21 (.mv τ2) 16 false,oG 22 (.bin .neq τ20 τ21) 16 false,oD 23 (.pick τ16 (.const (.bool true)) τ22)]
def k65_3 : VC := .reg [oD 6 (.mv (.const (.int .i64 0))),oD 7 (.mv (.const (.bool false)))]
def k65_4 : VC := .seq k65_3 .ret
def k65_5 : VC := .cond τ23 k65_4 .skip
def k65_6 : VC := .seq k65_2 k65_5
def k65_7 : VC := .reg [oM 24 τ8,oD 25 (.conv .i64 τ24),oM 6 τ25,oD 7 (.mv (.const (.bool true)))]
def k65_8 : VC := .seq k65_7 .ret
def k65_9 : VC := .seq k65_6 k65_8
def k65_10 : VC := .seq k65_1 k65_9
def k65_11 : VC := .seq k65_0 k65_10
def fn65 : VFn := ⟨26, k65_11, [.tmp 6, .tmp 7]⟩
def k120_0 : VC := .reg [oD 3 (.box τ0),oD 4 (.box τ1),oD 6 (.mv (.const (.int .u64 0)))]
def k120_1 : VC := .reg [oD 7 (.fieldA 0 τ4),oD 8 (.load1 (.int .i64) τ7),oD 9 (.bin .neq τ8 (.const (.int .i64 6))),oD 10 (.build [(.bool false), (.int .i64 0), (.int .i64 0)] [(0, 1, τ9)]),oD 11 (.loadN [(.int .u64), (.int .u64)] τ3),oD 12 (.loadN [(.int .i64), .bool, (.int .u64), (.int .u64), .bool, (.int .u64), (.int .u64), (.int .i64), (.int .i64)] τ4),oM 13 τ2,oD 14 (.callF 143 [τ10, τ11, τ12, τ13]),oM 6 τ14]
def k120_2 : VC := .seq k120_1 .ret
def k120_3 : VC := .seq k120_0 k120_2
def fn120 : VFn := ⟨15, k120_3, [.tmp 6]⟩
def k143_0 : VC := .reg [oD 4 (.box τ0),oD 5 (.box τ1),oD 6 (.box τ2),oD 8 (.mv (.const (.int .u64 0)))]
def k143_1 : VC := .reg [oD 10 (.loadN [(.int .u64), (.int .u64)] τ5),oD 11 (.callF 132 [τ10]),oM 9 τ11]
def k143_2 : VC := .reg [oM 12 τ9,oD 13 (.loadN [(.int .i64), .bool, (.int .u64), (.int .u64), .bool, (.int .u64), (.int .u64), (.int .i64), (.int .i64)] τ6),oD 14 (.callF 150 [τ13]),oD 15 (.callF 133 [τ12, τ14])]
def k143_3 : VC := .regD [oM 16 τ3,oM 17 τ9,oD 18 (.callF 134 [τ17]),oD 19 (.bin .xor τ16 τ18),oD 20 (.loadN [.bool, (.int .i64), (.int .i64)] τ4),oD 21 (.callF 152 [τ20]),oD 22 (.callF 151 [τ21])] [(2, 4)] [oD 23 (.bin .and τ19 τ22),oM 8 τ23]
def k143_4 : VC := .seq k143_3 .ret
def k143_5 : VC := .seq k143_2 k143_4
def k143_6 : VC := .seq k143_1 k143_5
def k143_7 : VC := .seq k143_0 k143_6
def fn143 : VFn := ⟨24, k143_7, [.tmp 8]⟩
def k132_0 : VC := .reg [oD 1 (.box τ0),oD 2 (.mv (.const (.pointer none)))]
def k132_1 : VC := .reg [oD 3 (.fieldA 0 τ1),oD 4 (.load1 (.int .u64) τ3),oD 5 (.bin .xor (.const (.int .u64 8317987319222330741)) τ4),oD 6 (.fieldA 1 τ1),oD 7 (.load1 (.int .u64) τ6),oD 8 (.bin .xor (.const (.int .u64 7237128888997146477)) τ7),oD 9 (.fieldA 0 τ1),oD 10 (.load1 (.int .u64) τ9),oD 11 (.bin .xor (.const (.int .u64 7816392313619706465)) τ10),oD 12 (.fieldA 1 τ1),oD 13 (.load1 (.int .u64) τ12),oD 14 (.bin .xor (.const (.int .u64 8387220255154660723)) τ13),oD 15 (.build [(.int .u64 0), (.int .u64 0), (.int .u64 0), (.int .u64 0)] [(0, 1, τ5), (1, 1, τ8), (2, 1, τ11), (3, 1, τ14)]),oD 16 (.build [(.bool false), (.int .u64 0), (.int .u64 0), (.int .u64 0), (.int .u64 0), (.int .u64 0), (.int .i64 0)] [(0, 1, (.const (.bool true))), (1, 4, τ15)]),oD 17 (.box τ16),oM 2 τ17]
def k132_2 : VC := .seq k132_1 .ret
def k132_3 : VC := .seq k132_0 k132_2
def fn132 : VFn := ⟨18, k132_3, [.tmp 2]⟩
def k150_0 : VC := .reg [oD 1 (.box τ0),oD 2 (.mv (.const (.string ⟨⟨[]⟩⟩)))]
def k150_1 : VC := .reg [oD 3 (.loadN [(.int .i64), .bool, (.int .u64), (.int .u64), .bool, (.int .u64), (.int .u64), (.int .i64), (.int .i64)] τ1),oD 4 (.callF 155 [τ3]),oD 5 (.not τ4)]
def k150_2 : VC := .reg [oD 2 (.mv (.const (.string ⟨⟨[]⟩⟩)))]
def k150_3 : VC := .seq k150_2 .ret
def k150_4 : VC := .cond τ5 k150_3 .skip
def k150_5 : VC := .seq k150_1 k150_4
def k150_6 : VC := .regD [oD 6 (.fieldA 1 τ1),oD 7 (.fieldA 0 τ6),oD 8 (.load1 .bool τ7),oD 9 (.callF 156 [τ8]),oD 10 (.bin .shl τ9 (.const (.int .u64 8))),oD 11 (.fieldA 0 τ1),oD 12 (.load1 (.int .i64) τ11),oD 13 (.bin .or τ10 τ12),oD 14 (.conv .u64 τ13),oD 15 (.callF 109 [τ14, (.const (.int .i64 2))]),oD 16 (.fieldA 1 τ1),oD 17 (.loadN [.bool, (.int .u64), (.int .u64)] τ16),oD 18 (.callF 110 [τ17]),oD 19 (.bin .add τ15 τ18),oD 20 (.fieldA 4 τ1),oD 21 (.loadN [.bool, (.int .u64), (.int .u64)] τ20),oD 22 (.callF 110 [τ21]),oD 23 (.bin .add τ19 τ22),oD 24 (.fieldA 7 τ1),oD 25 (.load1 (.int .i64) τ24),oD 26 (.conv .u64 τ25),oD 27 (.bin .shl τ26 (.const (.int .u64 16))),oD 28 (.fieldA 8 τ1),oD 29 (.load1 (.int .i64) τ28),oD 30 (.conv .u64 τ29),oD 31 (.bin .or τ27 τ30),oD 32 (.callF 109 [τ31, (.const (.int .i64 4))])] [(3, 6), (3, 11), (3, 15), (3, 19), (3, 23), (9, 11), (9, 15), (9, 19), (9, 23), (12, 15), (12, 19), (12, 23), (16, 19), (16, 23)] [oD 33 (.bin .add τ23 τ32),oM 2 τ33]
def k150_7 : VC := .seq k150_6 .ret
def k150_8 : VC := .seq k150_5 k150_7
def k150_9 : VC := .seq k150_0 k150_8
def fn150 : VFn := ⟨34, k150_9, [.tmp 2]⟩
def k155_0 : VC := .reg [oD 1 (.box τ0),oD 2 (.mv (.const (.bool false)))]
def k155_1 : VC := .reg [oD 3 (.fieldA 0 τ1),oD 4 (.load1 (.int .i64) τ3),oD 5 (.buildSl 1 1 [(.int .i64 0)] [(0, 1, τ4)]),oD 6 (.callF 160 [(.const (.int .i64 255)), τ5]),oM 7 τ6,oG 8 (.fieldA 7 τ1) 7 true,oG 9 (.load1 (.int .i64) τ8) 7 true,oG 10 (.fieldA 8 τ1) 7 true,oG 11 (.load1 (.int .i64) τ10) 7 true,oG 12 (.buildSl 2 1 [(.int .i64 0), (.int .i64 0)] [(0, 1, τ9), (1, 1, τ11)]) 7 true,oG 13 (.callF 160 [(.const (.int .i64 65535)), τ12]) 7 true,oD 14 (.pick τ7 τ13 (.const (.bool false))),oM 15 τ14,oG 16 (.fieldA 1 τ1) 15 true,oG 17 (.loadN [.bool, (.int .u64), (.int .u64)] τ16) 15 true,oG 18 (.callF 82 [τ17]) 15 true,oD 19 (.pick τ15 τ18 (.const (.bool false))),oM 20 τ19,oG 21 (.fieldA 4 τ1) 20 true,oG 22 (.loadN [.bool, (.int .u64), (.int .u64)] τ21) 20 true,oG 23 (.callF 82 [τ22]) 20 true,oD 24 (.pick τ20 τ23 (.const (.bool false))),oM 25 τ24,oG 26 (.fieldA 1 τ1) 25 true,oG 27 (.fieldA 0 τ26) 25 true,oG 28 (.load1 .bool τ27) 25 true,oG 29 (.fieldA 4 τ1) 25 true,oG 30 (.fieldA 0 τ29) 25 true,oG 31 (.load1 .bool τ30) 25 true,oG 32 (.eqB false τ28 τ31) 25 true,oD 33 (.pick τ25 τ32 (.const (.bool false))),oM 2 τ33]
def k155_2 : VC := .seq k155_1 .ret
def k155_3 : VC := .seq k155_0 k155_2
def fn155 : VFn := ⟨34, k155_3, [.tmp 2]⟩
def k160_0 : VC := .reg [oD 4 (.mv (.const (.bool false)))]
def k160_1 : VC := .reg [oM 7 τ1,oD 8 (.lenL τ7),oD 9 (.mv (.const (.int .i64 0)))]
def k160_2 : VC := .reg [oD 10 (.bin .lss τ9 τ8)]
def k160_3 : VC := .cond τ10 .skip (.exit 0)
def k160_4 : VC := .reg [oD 11 (.idxAL 1 τ7 τ9),oD 12 (.load1 (.int .i64) τ11),oM 6 τ12]
def k160_5 : VC := .reg [oM 13 τ6,oD 14 (.bin .lss τ13 (.const (.int .i64 0))),oM 15 τ14,oG 16 (.mv τ6) 15 false,oG 17 (.mv τ0) 15 false,oG 18 (.bin .gtr τ16 τ17) 15 false,oD 19 (.pick τ15 (.const (.bool true)) τ18)]
def k160_6 : VC := .reg [oD 4 (.mv (.const (.bool false)))]
def k160_7 : VC := .seq k160_6 .ret
def k160_8 : VC := .cond τ19 k160_7 .skip
def k160_9 : VC := .seq k160_5 k160_8
def k160_10 : VC := .seq k160_4 k160_9
def k160_11 : VC := .block 1 k160_10
def k160_12 : VC := .reg [oD 20 (.bin .add τ9 (.const (.int .i64 1))),oM 9 τ20]
def k160_13 : VC := .seq k160_11 k160_12
def k160_14 : VC := .seq k160_3 k160_13
def k160_15 : VC := .seq k160_2 k160_14
def k160_16 : VC := .loop k160_15
def k160_17 : VC := .block 0 k160_16
def k160_18 : VC := .seq k160_1 k160_17
def k160_19 : VC := .reg [oD 4 (.mv (.const (.bool true)))]
def k160_20 : VC := .seq k160_19 .ret
def k160_21 : VC := .seq k160_18 k160_20
def k160_22 : VC := .seq k160_0 k160_21
def fn160 : VFn := ⟨21, k160_22, [.tmp 4]⟩
def k82_0 : VC := .reg [oD 1 (.box τ0),oD 2 (.mv (.const (.bool false)))]
def k82_1 : VC := .reg [oD 3 (.fieldA 0 τ1),oD 4 (.load1 .bool τ3),oM 5 τ4,oG 6 (.fieldA 1 τ1) 5 false,oG 7 (.load1 (.int .u64) τ6) 5 false,oG 8 (.bin .eql τ7 (.const (.int .u64 0))) 5 false,oG 9 (.mv τ8) 5 false,oG 10 (.fieldA 2 τ1) 9 true,oG 11 (.load1 (.int .u64) τ10) 9 true,oG 12 (.bin .lss τ11 (.const (.int .u64 4294967296))) 9 true,oG 13 (.pick τ9 τ12 (.const (.bool false))) 5 false,oD 14 (.pick τ5 (.const (.bool true)) τ13),oM 2 τ14]
def k82_2 : VC := .seq k82_1 .ret
def k82_3 : VC := .seq k82_0 k82_2
def fn82 : VFn := ⟨15, k82_3, [.tmp 2]⟩
def k156_0 : VC := .reg [oD 2 (.mv (.const (.int .i64 0)))]
def k156_1 : VC := .reg [oM 3 τ0]
def k156_2 : VC := .reg [oD 2 (.mv (.const (.int .i64 6)))]
def k156_3 : VC := .seq k156_2 .ret
def k156_4 : VC := .cond τ3 k156_3 .skip
def k156_5 : VC := .seq k156_1 k156_4
def k156_6 : VC := .reg [oD 2 (.mv (.const (.int .i64 4)))]
def k156_7 : VC := .seq k156_6 .ret
def k156_8 : VC := .seq k156_5 k156_7
def k156_9 : VC := .seq k156_0 k156_8
def fn156 : VFn := ⟨4, k156_9, [.tmp 2]⟩
def k109_0 : VC := .reg [oD 4 (.mv (.const (.string ⟨⟨[]⟩⟩)))]
def k109_1 : VC := .reg [oM 7 τ1,oD 8 (.bin .lss τ7 (.const (.int .i64 1))),oM 9 τ8,oG 10 (.mv τ1) 9 false,oG 11 (.bin .gtr τ10 (.const (.int .i64 8))) 9 false,oD 12 (.pick τ9 (.const (.bool true)) τ11)]
def k109_2 : VC := .reg [oD 4 (.mv (.const (.string ⟨⟨[]⟩⟩)))]
def k109_3 : VC := .seq k109_2 .ret
def k109_4 : VC := .cond τ12 k109_3 .skip
def k109_5 : VC := .seq k109_1 k109_4
def k109_6 : VC := .reg [oM 13 τ1,oD 14 (.mkSl 1 1 [(.int .u8 0)] τ13 τ13),oM 5 τ14]
def k109_7 : VC := .reg [oM 15 τ5,oD 16 (.lenL τ15),oD 17 (.mv (.const (.int .i64 0)))]
def k109_8 : VC := .reg [oD 18 (.bin .lss τ17 τ16)]
def k109_9 : VC := .cond τ18 .skip (.exit 0)
def k109_10 : VC := .reg [oM 19 τ17,oM 6 τ19]
def k109_11 : VC := .reg [oM 20 τ5,oM 21 τ6,oM 22 τ0,oM 23 τ1,oD 24 (.bin .sub τ23 (.const (.int .i64 1))),oM 25 τ6,oD 26 (.bin .sub τ24 τ25),oD 27 (.bin .mul (.const (.int .i64 8)) τ26),oD 28 (.bin .shr τ22 τ27),oD 29 (.conv .u8 τ28),oD 30 (.idxAL 1 τ20 τ21),oN (.store 1 τ30 τ29)]
def k109_12 : VC := .seq k109_10 k109_11
def k109_13 : VC := .block 1 k109_12
def k109_14 : VC := .reg [oD 31 (.bin .add τ17 (.const (.int .i64 1))),oM 17 τ31]
def k109_15 : VC := .seq k109_13 k109_14
def k109_16 : VC := .seq k109_9 k109_15
def k109_17 : VC := .seq k109_8 k109_16
def k109_18 : VC := .loop k109_17
def k109_19 : VC := .block 0 k109_18
def k109_20 : VC := .seq k109_7 k109_19
def k109_21 : VC := .reg [oM 32 τ5,oD 33 (.b2s τ32),oM 4 τ33]
def k109_22 : VC := .seq k109_21 .ret
def k109_23 : VC := .seq k109_20 k109_22
def k109_24 : VC := .seq k109_6 k109_23
def k109_25 : VC := .seq k109_5 k109_24
def k109_26 : VC := .seq k109_0 k109_25
def fn109 : VFn := ⟨34, k109_26, [.tmp 4]⟩
def k110_0 : VC := .reg [oD 1 (.box τ0),oD 2 (.mv (.const (.string ⟨⟨[]⟩⟩)))]
def k110_1 : VC := .reg [oD 4 (.loadN [.bool, (.int .u64), (.int .u64)] τ1),oD 5 (.callF 82 [τ4]),oD 6 (.not τ5),oM 3 τ6]
def k110_2 : VC := .reg [oD 2 (.mv (.const (.string ⟨⟨[]⟩⟩)))]
def k110_3 : VC := .seq k110_2 .ret
def k110_4 : VC := .reg [oD 8 (.fieldA 0 τ1),oD 9 (.load1 .bool τ8),oM 7 τ9]
def k110_5 : VC := .regD [oD 10 (.fieldA 1 τ1),oD 11 (.load1 (.int .u64) τ10),oD 12 (.callF 109 [τ11, (.const (.int .i64 8))]),oD 13 (.fieldA 2 τ1),oD 14 (.load1 (.int .u64) τ13)] [(2, 4)] [oD 15 (.callF 109 [τ14, (.const (.int .i64 8))]),oD 16 (.bin .add τ12 τ15),oM 2 τ16]
def k110_6 : VC := .seq k110_5 .ret
def k110_7 : VC := .cond τ7 k110_6 .skip
def k110_8 : VC := .seq k110_4 k110_7
def k110_9 : VC := .cond τ3 k110_3 k110_8
def k110_10 : VC := .seq k110_1 k110_9
def k110_11 : VC := .block 0 k110_10
def k110_12 : VC := .reg [oD 17 (.fieldA 2 τ1),oD 18 (.load1 (.int .u64) τ17),oD 19 (.callF 109 [τ18, (.const (.int .i64 4))]),oM 2 τ19]
def k110_13 : VC := .seq k110_12 .ret
def k110_14 : VC := .seq k110_11 k110_13
def k110_15 : VC := .seq k110_0 k110_14
def fn110 : VFn := ⟨20, k110_15, [.tmp 2]⟩
def k133_0 : VC := .reg [oM 6 τ0,oD 7 (.isNil 0 false τ6),oM 8 τ7,oG 9 (.mv τ0) 8 false,oG 10 (.nilCheck τ9) 8 false,oG 11 (.fieldA 0 τ10) 8 false,oG 12 (.load1 .bool τ11) 8 false,oG 13 (.not τ12) 8 false,oD 14 (.pick τ8 (.const (.bool true)) τ13)]
def k133_1 : VC := .cond τ14 .ret .skip
def k133_2 : VC := .seq k133_0 k133_1
def k133_3 : VC := .reg [oM 15 τ1,oD 16 (.s2b τ15),oD 17 (.lenL τ16),oD 18 (.mv (.const (.int .i64 0)))]
def k133_4 : VC := .reg [oD 19 (.bin .lss τ18 τ17)]
def k133_5 : VC := .cond τ19 .skip (.exit 0)
def k133_6 : VC := .reg [oD 20 (.idxAL 1 τ16 τ18),oD 21 (.load1 (.int .u8) τ20),oM 5 τ21]
def k133_7 : VC := .regD [oM 22 τ0,oD 23 (.nilCheck τ22),oD 24 (.fieldA 5 τ23),oD 25 (.load1 (.int .u64) τ24),oM 26 τ5,oD 27 (.conv .u64 τ26),oM 28 τ0,oD 29 (.nilCheck τ28),oD 30 (.fieldA 6 τ29),oD 31 (.load1 (.int .i64) τ30),oD 32 (.bin .rem τ31 (.const (.int .i64 8))),oD 33 (.bin .mul (.const (.int .i64 8)) τ32),oD 34 (.bin .shl τ27 τ33)] [] [oD 35 (.bin .or τ25 τ34),oD 36 (.nilCheck τ22),oD 37 (.fieldA 5 τ36),oN (.store 1 τ37 τ35)]
def k133_8 : VC := .reg [oM 38 τ0,oD 39 (.nilCheck τ38),oD 40 (.fieldA 6 τ39),oD 41 (.load1 (.int .i64) τ40),oD 42 (.bin .add τ41 (.const (.int .i64 1))),oD 43 (.nilCheck τ38),oD 44 (.fieldA 6 τ43),oN (.store 1 τ44 τ42)]
def k133_9 : VC := .reg [oM 45 τ0,oD 46 (.nilCheck τ45),oD 47 (.fieldA 6 τ46),oD 48 (.load1 (.int .i64) τ47),oD 49 (.bin .rem τ48 (.const (.int .i64 8))),oD 50 (.bin .eql τ49 (.const (.int .i64 0)))]
def k133_10 : VC := .regD [oM 51 τ0,oD 52 (.nilCheck τ51),oD 53 (.fieldA 1 τ52),oM 54 τ0,oD 55 (.nilCheck τ54),oD 56 (.fieldA 5 τ55),oD 57 (.load1 (.int .u64) τ56)] [] [oD 58 (.callF 147 [τ53, τ57])]
def k133_11 : VC := .reg [oM 59 τ0,oD 60 (.nilCheck τ59),oD 61 (.fieldA 5 τ60),oN (.store 1 τ61 (.const (.int .u64 0)))]
def k133_12 : VC := .seq k133_10 k133_11
def k133_13 : VC := .cond τ50 k133_12 .skip
def k133_14 : VC := .seq k133_9 k133_13
def k133_15 : VC := .seq k133_8 k133_14
def k133_16 : VC := .seq k133_7 k133_15
def k133_17 : VC := .seq k133_6 k133_16
def k133_18 : VC := .block 1 k133_17
def k133_19 : VC := .reg [oD 62 (.bin .add τ18 (.const (.int .i64 1))),oM 18 τ62]
def k133_20 : VC := .seq k133_18 k133_19
def k133_21 : VC := .seq k133_5 k133_20
def k133_22 : VC := .seq k133_4 k133_21
def k133_23 : VC := .loop k133_22
def k133_24 : VC := .block 0 k133_23
def k133_25 : VC := .seq k133_3 k133_24
def k133_26 : VC := .seq k133_2 k133_25
def fn133 : VFn := ⟨63, k133_26, []⟩
def k147_0 : VC := .regD [oM 4 τ0,oD 5 (.nilCheck τ4),oD 6 (.idxAA 4 1 τ5 (.const (.int .i64 3))),oD 7 (.load1 (.int .u64) τ6),oM 8 τ1,oD 9 (.bin .xor τ7 τ8),oD 10 (.nilCheck τ4)] [] [oD 11 (.idxAA 4 1 τ10 (.const (.int .i64 3))),oN (.store 1 τ11 τ9)]
def k147_1 : VC := .reg [oM 12 τ0,oD 13 (.callF 148 [τ12, (.const (.int .i64 2))])]
def k147_2 : VC := .regD [oM 14 τ0,oD 15 (.nilCheck τ14),oD 16 (.idxAA 4 1 τ15 (.const (.int .i64 0))),oD 17 (.load1 (.int .u64) τ16),oM 18 τ1,oD 19 (.bin .xor τ17 τ18),oD 20 (.nilCheck τ14)] [] [oD 21 (.idxAA 4 1 τ20 (.const (.int .i64 0))),oN (.store 1 τ21 τ19)]
def k147_3 : VC := .seq k147_1 k147_2
def k147_4 : VC := .seq k147_0 k147_3
def fn147 : VFn := ⟨22, k147_4, []⟩
def k148_0 : VC := .reg [oM 4 τ1,oD 5 (.minmax false [τ4, (.const (.int .i64 64))]),oD 6 (.minmax true [(.const (.int .i64 0)), τ5]),oD 7 (.mv (.const (.int .i64 0)))]
def k148_1 : VC := .reg [oD 8 (.bin .lss τ7 τ6)]
def k148_2 : VC := .cond τ8 .skip (.exit 0)
def k148_3 : VC := .reg [oM 9 τ0,oD 10 (.callF 154 [τ9])]
def k148_4 : VC := .block 1 k148_3
def k148_5 : VC := .reg [oD 11 (.bin .add τ7 (.const (.int .i64 1))),oM 7 τ11]
def k148_6 : VC := .seq k148_4 k148_5
def k148_7 : VC := .seq k148_2 k148_6
def k148_8 : VC := .seq k148_1 k148_7
def k148_9 : VC := .loop k148_8
def k148_10 : VC := .block 0 k148_9
def k148_11 : VC := .seq k148_0 k148_10
def fn148 : VFn := ⟨12, k148_11, []⟩
def k154_0 : VC := .regD [oM 2 τ0,oD 3 (.nilCheck τ2),oD 4 (.idxAA 4 1 τ3 (.const (.int .i64 0))),oD 5 (.load1 (.int .u64) τ4),oM 6 τ0,oD 7 (.nilCheck τ6),oD 8 (.idxAA 4 1 τ7 (.const (.int .i64 1))),oD 9 (.load1 (.int .u64) τ8),oD 10 (.bin .add τ5 τ9),oD 11 (.nilCheck τ2)] [] [oD 12 (.idxAA 4 1 τ11 (.const (.int .i64 0))),oN (.store 1 τ12 τ10)]
def k154_1 : VC := .regD [oM 13 τ0,oM 14 τ0,oD 15 (.nilCheck τ14),oD 16 (.idxAA 4 1 τ15 (.const (.int .i64 1))),oD 17 (.load1 (.int .u64) τ16),oD 18 (.callF 159 [τ17, (.const (.int .i64 13))]),oM 19 τ0,oD 20 (.nilCheck τ19),oD 21 (.idxAA 4 1 τ20 (.const (.int .i64 0))),oD 22 (.load1 (.int .u64) τ21),oD 23 (.bin .xor τ18 τ22),oD 24 (.nilCheck τ13)] [(5, 9)] [oD 25 (.idxAA 4 1 τ24 (.const (.int .i64 1))),oN (.store 1 τ25 τ23)]
def k154_2 : VC := .regD [oM 26 τ0,oM 27 τ0,oD 28 (.nilCheck τ27),oD 29 (.idxAA 4 1 τ28 (.const (.int .i64 0))),oD 30 (.load1 (.int .u64) τ29),oD 31 (.callF 159 [τ30, (.const (.int .i64 32))]),oD 32 (.nilCheck τ26)] [] [oD 33 (.idxAA 4 1 τ32 (.const (.int .i64 0))),oN (.store 1 τ33 τ31)]
def k154_3 : VC := .regD [oM 34 τ0,oD 35 (.nilCheck τ34),oD 36 (.idxAA 4 1 τ35 (.const (.int .i64 2))),oD 37 (.load1 (.int .u64) τ36),oM 38 τ0,oD 39 (.nilCheck τ38),oD 40 (.idxAA 4 1 τ39 (.const (.int .i64 3))),oD 41 (.load1 (.int .u64) τ40),oD 42 (.bin .add τ37 τ41),oD 43 (.nilCheck τ34)] [] [oD 44 (.idxAA 4 1 τ43 (.const (.int .i64 2))),oN (.store 1 τ44 τ42)]
def k154_4 : VC := .regD [oM 45 τ0,oM 46 τ0,oD 47 (.nilCheck τ46),oD 48 (.idxAA 4 1 τ47 (.const (.int .i64 3))),oD 49 (.load1 (.int .u64) τ48),oD 50 (.callF 159 [τ49, (.const (.int .i64 16))]),oM 51 τ0,oD 52 (.nilCheck τ51),oD 53 (.idxAA 4 1 τ52 (.const (.int .i64 2))),oD 54 (.load1 (.int .u64) τ53),oD 55 (.bin .xor τ50 τ54),oD 56 (.nilCheck τ45)] [(5, 9)] [oD 57 (.idxAA 4 1 τ56 (.const (.int .i64 3))),oN (.store 1 τ57 τ55)]
def k154_5 : VC := .regD [oM 58 τ0,oD 59 (.nilCheck τ58),oD 60 (.idxAA 4 1 τ59 (.const (.int .i64 0))),oD 61 (.load1 (.int .u64) τ60),oM 62 τ0,oD 63 (.nilCheck τ62),oD 64 (.idxAA 4 1 τ63 (.const (.int .i64 3))),oD 65 (.load1 (.int .u64) τ64),oD 66 (.bin .add τ61 τ65),oD 67 (.nilCheck τ58)] [] [oD 68 (.idxAA 4 1 τ67 (.const (.int .i64 0))),oN (.store 1 τ68 τ66)]
def k154_6 : VC := .regD [oM 69 τ0,oM 70 τ0,oD 71 (.nilCheck τ70),oD 72 (.idxAA 4 1 τ71 (.const (.int .i64 3))),oD 73 (.load1 (.int .u64) τ72),oD 74 (.callF 159 [τ73, (.const (.int .i64 21))]),oM 75 τ0,oD 76 (.nilCheck τ75),oD 77 (.idxAA 4 1 τ76 (.const (.int .i64 0))),oD 78 (.load1 (.int .u64) τ77),oD 79 (.bin .xor τ74 τ78),oD 80 (.nilCheck τ69)] [(5, 9)] [oD 81 (.idxAA 4 1 τ80 (.const (.int .i64 3))),oN (.store 1 τ81 τ79)]
def k154_7 : VC := .regD [oM 82 τ0,oD 83 (.nilCheck τ82),oD 84 (.idxAA 4 1 τ83 (.const (.int .i64 2))),oD 85 (.load1 (.int .u64) τ84),oM 86 τ0,oD 87 (.nilCheck τ86),oD 88 (.idxAA 4 1 τ87 (.const (.int .i64 1))),oD 89 (.load1 (.int .u64) τ88),oD 90 (.bin .add τ85 τ89),oD 91 (.nilCheck τ82)] [] [oD 92 (.idxAA 4 1 τ91 (.const (.int .i64 2))),oN (.store 1 τ92 τ90)]
def k154_8 : VC := .regD [oM 93 τ0,oM 94 τ0,oD 95 (.nilCheck τ94),oD 96 (.idxAA 4 1 τ95 (.const (.int .i64 1))),oD 97 (.load1 (.int .u64) τ96),oD 98 (.callF 159 [τ97, (.const (.int .i64 17))]),oM 99 τ0,oD 100 (.nilCheck τ99),oD 101 (.idxAA 4 1 τ100 (.const (.int .i64 2))),oD 102 (.load1 (.int .u64) τ101),oD 103 (.bin .xor τ98 τ102),oD 104 (.nilCheck τ93)] [(5, 9)] [oD 105 (.idxAA 4 1 τ104 (.const (.int .i64 1))),oN (.store 1 τ105 τ103)]
def k154_9 : VC := .regD [oM 106 τ0,oM 107 τ0,oD 108 (.nilCheck τ107),oD 109 (.idxAA 4 1 τ108 (.const (.int .i64 2))),oD 110 (.load1 (.int .u64) τ109),oD 111 (.callF 159 [τ110, (.const (.int .i64 32))]),oD 112 (.nilCheck τ106)] [] [oD 113 (.idxAA 4 1 τ112 (.const (.int .i64 2))),oN (.store 1 τ113 τ111)]
def k154_10 : VC := .seq k154_8 k154_9
def k154_11 : VC := .seq k154_7 k154_10
def k154_12 : VC := .seq k154_6 k154_11
def k154_13 : VC := .seq k154_5 k154_12
def k154_14 : VC := .seq k154_4 k154_13
def k154_15 : VC := .seq k154_3 k154_14
def k154_16 : VC := .seq k154_2 k154_15
def k154_17 : VC := .seq k154_1 k154_16
def k154_18 : VC := .seq k154_0 k154_17
def fn154 : VFn := ⟨114, k154_18, []⟩
def k159_0 : VC := .reg [oD 4 (.mv (.const (.int .u64 0)))]
def k159_1 : VC := .reg [oM 6 τ1,oD 7 (.conv .u64 τ6),oD 8 (.bin .and τ7 (.const (.int .u64 63))),oM 5 τ8]
def k159_2 : VC := .reg [oM 9 τ0,oM 10 τ5,oD 11 (.bin .shl τ9 τ10),oM 12 τ0,oM 13 τ5,oD 14 (.bin .sub (.const (.int .u64 64)) τ13),oD 15 (.bin .shr τ12 τ14),oD 16 (.bin .or τ11 τ15),oM 4 τ16]
def k159_3 : VC := .seq k159_2 .ret
def k159_4 : VC := .seq k159_1 k159_3
def k159_5 : VC := .seq k159_0 k159_4
def fn159 : VFn := ⟨17, k159_5, [.tmp 4]⟩
def k134_0 : VC := .reg [oD 2 (.mv (.const (.int .u64 0)))]
def k134_1 : VC := .reg [oM 4 τ0,oD 5 (.isNil 0 false τ4),oM 6 τ5,oG 7 (.mv τ0) 6 false,oG 8 (.nilCheck τ7) 6 false,oG 9 (.fieldA 0 τ8) 6 false,oG 10 (.load1 .bool τ9) 6 false,oG 11 (.not τ10) 6 false,oD 12 (.pick τ6 (.const (.bool true)) τ11)]
def k134_2 : VC := .reg [oD 2 (.mv (.const (.int .u64 0)))]
def k134_3 : VC := .seq k134_2 .ret
def k134_4 : VC := .cond τ12 k134_3 .skip
def k134_5 : VC := .seq k134_1 k134_4
def k134_6 : VC := .reg [oM 13 τ0,oD 14 (.nilCheck τ13),oD 15 (.fieldA 1 τ14),oD 16 (.loadN [(.int .u64), (.int .u64), (.int .u64), (.int .u64)] τ15),oD 3 (.alloc [(.int .u64 0), (.int .u64 0), (.int .u64 0), (.int .u64 0)]),oN (.store 4 τ3 τ16)]
def k134_7 : VC := .regD [oM 17 τ0,oD 18 (.nilCheck τ17),oD 19 (.fieldA 5 τ18),oD 20 (.load1 (.int .u64) τ19),oM 21 τ0,oD 22 (.nilCheck τ21),oD 23 (.fieldA 6 τ22),oD 24 (.load1 (.int .i64) τ23),oD 25 (.conv .u64 τ24),oD 26 (.bin .shl τ25 (.const (.int .u64 56)))] [] [oD 27 (.bin .or τ20 τ26),oD 28 (.callF 147 [τ3, τ27])]
def k134_8 : VC := .reg [oD 29 (.idxAA 4 1 τ3 (.const (.int .i64 2))),oD 30 (.load1 (.int .u64) τ29),oD 31 (.bin .xor τ30 (.const (.int .u64 255))),oD 32 (.idxAA 4 1 τ3 (.const (.int .i64 2))),oN (.store 1 τ32 τ31)]
def k134_9 : VC := .reg [oD 33 (.callF 148 [τ3, (.const (.int .i64 4))])]
def k134_10 : VC := .reg [oD 34 (.idxAA 4 1 τ3 (.const (.int .i64 0))),oD 35 (.load1 (.int .u64) τ34),oD 36 (.idxAA 4 1 τ3 (.const (.int .i64 1))),oD 37 (.load1 (.int .u64) τ36),oD 38 (.bin .xor τ35 τ37),oD 39 (.idxAA 4 1 τ3 (.const (.int .i64 2))),oD 40 (.load1 (.int .u64) τ39),oD 41 (.bin .xor τ38 τ40),oD 42 (.idxAA 4 1 τ3 (.const (.int .i64 3))),oD 43 (.load1 (.int .u64) τ42),oD 44 (.bin .xor τ41 τ43),oM 2 τ44]
def k134_11 : VC := .seq k134_10 .ret
def k134_12 : VC := .seq k134_9 k134_11
def k134_13 : VC := .seq k134_8 k134_12
def k134_14 : VC := .seq k134_7 k134_13
def k134_15 : VC := .seq k134_6 k134_14
def k134_16 : VC := .seq k134_5 k134_15
def k134_17 : VC := .seq k134_0 k134_16
def fn134 : VFn := ⟨45, k134_17, [.tmp 2]⟩
def k152_0 : VC := .reg [oD 1 (.box τ0),oD 2 (.mv (.const (.int .i64 0)))]
def k152_1 : VC := .reg [oD 3 (.loadN [.bool, (.int .i64), (.int .i64)] τ1),oD 4 (.callF 157 [τ3]),oD 5 (.not τ4)]
def k152_2 : VC := .reg [oD 2 (.mv (.const (.int .i64 0)))]
def k152_3 : VC := .seq k152_2 .ret
def k152_4 : VC := .cond τ5 k152_3 .skip
def k152_5 : VC := .seq k152_1 k152_4
def k152_6 : VC := .reg [oD 6 (.loadN [.bool, (.int .i64), (.int .i64)] τ1),oD 7 (.build [(.bool false), (.int .i64 0), (.int .i64 0)] [(0, 3, τ6)]),oD 8 (.callF 158 [τ7]),oM 2 τ8]
def k152_7 : VC := .seq k152_6 .ret
def k152_8 : VC := .seq k152_5 k152_7
def k152_9 : VC := .seq k152_0 k152_8
def fn152 : VFn := ⟨9, k152_9, [.tmp 2]⟩
def k157_0 : VC := .reg [oD 1 (.box τ0),oD 2 (.mv (.const (.bool false)))]
def k157_1 : VC := .reg [oD 3 (.loadN [.bool, (.int .i64), (.int .i64)] τ1),oD 4 (.build [(.bool false), (.int .i64 0), (.int .i64 0)] [(0, 3, τ3)]),oD 5 (.callF 161 [τ4]),oM 2 τ5]
def k157_2 : VC := .seq k157_1 .ret
def k157_3 : VC := .seq k157_0 k157_2
def fn157 : VFn := ⟨6, k157_3, [.tmp 2]⟩
def k161_0 : VC := .reg [oD 1 (.box τ0),oD 2 (.mv (.const (.bool false)))]
def k161_1 : VC := .reg [oD 3 (.fieldA 0 τ1),oD 4 (.fieldA 1 τ3),oD 5 (.load1 (.int .i64) τ4),oD 6 (.bin .lss τ5 (.const (.int .i64 0))),oM 7 τ6,oG 8 (.fieldA 0 τ1) 7 false,oG 9 (.fieldA 1 τ8) 7 false,oG 10 (.load1 (.int .i64) τ9) 7 false,oG 11 (.bin .gtr τ10 (.const (.int .i64 12))) 7 false,oD 12 (.pick τ7 (.const (.bool true)) τ11),oM 13 τ12,oG 14 (.fieldA 0 τ1) 13 false,oG 15 (.fieldA 2 τ14) 13 false,oG 16 (.load1 (.int .i64) τ15) 13 false,oG 17 (.bin .lss τ16 (.const (.int .i64 0))) 13 false,oD 18 (.pick τ13 (.const (.bool true)) τ17)]
def k161_2 : VC := .reg [oD 2 (.mv (.const (.bool false)))]
def k161_3 : VC := .seq k161_2 .ret
def k161_4 : VC := .cond τ18 k161_3 .skip
def k161_5 : VC := .seq k161_1 k161_4
def k161_6 : VC := .regD [oD 19 (.fieldA 0 τ1),oD 20 (.fieldA 2 τ19),oD 21 (.load1 (.int .i64) τ20),oD 22 (.loadN [.bool, (.int .i64), (.int .i64)] τ1),oD 23 (.callF 158 [τ22]),oD 24 (.minmax false [τ23, (.const (.int .i64 63))]),oD 25 (.fieldA 0 τ1),oD 26 (.fieldA 1 τ25),oD 27 (.load1 (.int .i64) τ26),oD 28 (.bin .sub τ24 τ27)] [(2, 4), (4, 8)] [oD 29 (.bin .leq τ21 τ28),oM 2 τ29]
def k161_7 : VC := .seq k161_6 .ret
def k161_8 : VC := .seq k161_5 k161_7
def k161_9 : VC := .seq k161_0 k161_8
def fn161 : VFn := ⟨30, k161_9, [.tmp 2]⟩
def k158_0 : VC := .reg [oD 1 (.box τ0),oD 2 (.mv (.const (.int .i64 0)))]
def k158_1 : VC := .reg [oD 3 (.fieldA 0 τ1),oD 4 (.fieldA 0 τ3),oD 5 (.load1 .bool τ4)]
def k158_2 : VC := .reg [oD 2 (.mv (.const (.int .i64 64)))]
def k158_3 : VC := .seq k158_2 .ret
def k158_4 : VC := .cond τ5 k158_3 .skip
def k158_5 : VC := .seq k158_1 k158_4
def k158_6 : VC := .reg [oD 2 (.mv (.const (.int .i64 16)))]
def k158_7 : VC := .seq k158_6 .ret
def k158_8 : VC := .seq k158_5 k158_7
def k158_9 : VC := .seq k158_0 k158_8
def fn158 : VFn := ⟨6, k158_9, [.tmp 2]⟩
def k151_0 : VC := .reg [oD 2 (.mv (.const (.int .u64 0)))]
def k151_1 : VC := .reg [oM 3 τ0,oD 4 (.bin .lss τ3 (.const (.int .i64 0))),oM 5 τ4,oG 6 (.mv τ0) 5 false,oG 7 (.bin .gtr τ6 (.const (.int .i64 64))) 5 false,oD 8 (.pick τ5 (.const (.bool true)) τ7)]
def k151_2 : VC := .reg [oD 2 (.mv (.const (.int .u64 0)))]
def k151_3 : VC := .seq k151_2 .ret
def k151_4 : VC := .cond τ8 k151_3 .skip
def k151_5 : VC := .seq k151_1 k151_4
def k151_6 : VC := .reg [oM 9 τ0,oD 10 (.bin .shl (.const (.int .u64 18446744073709551615)) τ9),oD 11 (.cmpl τ10),oM 2 τ11]
def k151_7 : VC := .seq k151_6 .ret
def k151_8 : VC := .seq k151_5 k151_7
def k151_9 : VC := .seq k151_0 k151_8
def fn151 : VFn := ⟨12, k151_9, [.tmp 2]⟩
def k119_0 : VC := .reg [oD 2 (.mv (.const (.bool false)))]
def k119_1 : VC := .reg [oM 3 τ0,oD 4 (.bin .geq τ3 (.const (.int .u64 1))),oM 5 τ4,oG 6 (.mv τ0) 5 true,oG 7 (.bin .leq τ6 (.const (.int .u64 65535))) 5 true,oD 8 (.pick τ5 τ7 (.const (.bool false))),oM 2 τ8]
def k119_2 : VC := .seq k119_1 .ret
def k119_3 : VC := .seq k119_0 k119_2
def fn119 : VFn := ⟨9, k119_3, [.tmp 2]⟩
def k18_0 : VC := .reg [oD 4 (.alloc [(.int .i64 0), (.int .i64 0), (.int .i64 0), (.bool false), (.int .u64 0), (.int .u64 0)]),oD 5 (.mv (.const (.bool false)))]
def k18_1 : VC := .reg [oM 8 τ0,oD 9 (.callF 70 [τ8]),oD 10 (.not τ9)]
def k18_2 : VC := .reg [oD 11 (.build [(.int .i64 0), (.int .i64 0), (.int .i64 0), (.bool false), (.int .u64 0), (.int .u64 0)] []),oN (.store 6 τ4 τ11),oD 5 (.mv (.const (.bool false)))]
def k18_3 : VC := .seq k18_2 .ret
def k18_4 : VC := .cond τ10 k18_3 .skip
def k18_5 : VC := .seq k18_1 k18_4
def k18_6 : VC := .reg [oM 13 τ0,oM 14 τ1,oD 15 (.callF 71 [τ13, τ14]),oM 12 τ15,oE 16 0 τ12,oE 17 1 τ12,oM 6 τ16,oM 7 τ17]
def k18_7 : VC := .reg [oM 18 τ7]
def k18_8 : VC := .reg [oM 19 τ0,oD 20 (.nilCheck τ19),oD 21 (.fieldA 2 τ20),oD 22 (.load1 .oth τ21),oM 23 τ6,oD 24 (.idxAL 9 τ22 τ23),oD 25 (.loadN [(.int .i64), (.int .i64), (.int .i64), .bool, (.int .u64), (.int .u64), .bool, .bool, (.int .i64)] τ24),oD 26 (.callF 72 [τ25]),oN (.store 6 τ4 τ26),oD 5 (.mv (.const (.bool true)))]
def k18_9 : VC := .seq k18_8 .ret
def k18_10 : VC := .cond τ18 k18_9 .skip
def k18_11 : VC := .seq k18_7 k18_10
def k18_12 : VC := .seq k18_6 k18_11
def k18_13 : VC := .reg [oM 27 τ1,oD 28 (.bin .lss τ27 (.const (.int .i64 1))),oM 29 τ28,oG 30 (.mv τ1) 29 false,oG 31 (.mv τ0) 29 false,oG 32 (.nilCheck τ31) 29 false,oG 33 (.fieldA 3 τ32) 29 false,oG 34 (.load1 (.int .i64) τ33) 29 false,oG 35 (.bin .gtr τ30 τ34) 29 false,oD 36 (.pick τ29 (.const (.bool true)) τ35)]
def k18_14 : VC := .reg [oD 37 (.build [(.int .i64 0), (.int .i64 0), (.int .i64 0), (.bool false), (.int .u64 0), (.int .u64 0)] []),oN (.store 6 τ4 τ37),oD 5 (.mv (.const (.bool false)))]
def k18_15 : VC := .seq k18_14 .ret
def k18_16 : VC := .cond τ36 k18_15 .skip
def k18_17 : VC := .seq k18_13 k18_16
def k18_18 : VC := .reg [oM 38 τ1,oD 39 (.build [(.int .i64 0), (.int .i64 0), (.int .i64 0), (.bool false), (.int .u64 0), (.int .u64 0)] [(0, 1, τ38), (2, 1, (.const (.int .i64 4)))]),oN (.store 6 τ4 τ39),oD 5 (.mv (.const (.bool true)))]
def k18_19 : VC := .seq k18_18 .ret
def k18_20 : VC := .seq k18_17 k18_19
def k18_21 : VC := .seq k18_12 k18_20
def k18_22 : VC := .seq k18_5 k18_21
def k18_23 : VC := .seq k18_0 k18_22
def fn18 : VFn := ⟨40, k18_23, [.cell 4 [(.int .i64), (.int .i64), (.int .i64), .bool, (.int .u64), (.int .u64)] true, .tmp 5]⟩
def k70_0 : VC := .reg [oD 2 (.mv (.const (.bool false)))]
def k70_1 : VC := .reg [oM 3 τ0,oD 4 (.isNil 0 true τ3),oM 5 τ4,oG 6 (.mv τ0) 5 true,oG 7 (.nilCheck τ6) 5 true,oG 8 (.fieldA 0 τ7) 5 true,oG 9 (.loadN [(.int .i64), (.int .i64)] τ8) 5 true,oG 10 (.callF 69 [τ9]) 5 true,oD 11 (.pick τ5 τ10 (.const (.bool false))),oM 2 τ11]
def k70_2 : VC := .seq k70_1 .ret
def k70_3 : VC := .seq k70_0 k70_2
def fn70 : VFn := ⟨12, k70_3, [.tmp 2]⟩
def k69_0 : VC := .reg [oD 1 (.box τ0),oD 2 (.mv (.const (.bool false)))]
def k69_1 : VC := .reg [oD 3 (.fieldA 0 τ1),oD 4 (.load1 (.int .i64) τ3),oD 5 (.callF 121 [τ4, (.const (.int .i64 1)), (.const (.int .i64 100))]),oM 6 τ5,oG 7 (.fieldA 1 τ1) 6 true,oG 8 (.load1 (.int .i64) τ7) 6 true,oG 9 (.callF 121 [τ8, (.const (.int .i64 1)), (.const (.int .i64 100))]) 6 true,oD 10 (.pick τ6 τ9 (.const (.bool false))),oM 2 τ10]
def k69_2 : VC := .seq k69_1 .ret
def k69_3 : VC := .seq k69_0 k69_2
def fn69 : VFn := ⟨11, k69_3, [.tmp 2]⟩
def k121_0 : VC := .reg [oD 6 (.mv (.const (.bool false)))]
def k121_1 : VC := .reg [oM 7 τ1,oM 8 τ0,oD 9 (.bin .leq τ7 τ8),oM 10 τ9,oG 11 (.mv τ0) 10 true,oG 12 (.mv τ2) 10 true,oG 13 (.bin .leq τ11 τ12) 10 true,oD 14 (.pick τ10 τ13 (.const (.bool false))),oM 6 τ14]
def k121_2 : VC := .seq k121_1 .ret
def k121_3 : VC := .seq k121_0 k121_2
def fn121 : VFn := ⟨15, k121_3, [.tmp 6]⟩
def k71_0 : VC := .reg [oD 4 (.mv (.const (.int .i64 0))),oD 5 (.mv (.const (.bool false)))]
def k71_1 : VC := .reg [oM 6 τ0,oD 7 (.nilCheck τ6),oD 8 (.fieldA 2 τ7),oD 9 (.load1 .oth τ8),oM 10 τ1,oD 11 (.callF 122 [τ9, τ10, (.func 123)]),oE 12 0 τ11,oE 13 1 τ11,oM 4 τ12,oM 5 τ13]
def k71_2 : VC := .seq k71_1 .ret
def k71_3 : VC := .seq k71_0 k71_2
def fn71 : VFn := ⟨14, k71_3, [.tmp 4, .tmp 5]⟩
def k122_0 : VC := .reg [oD 6 (.mv (.const (.int .i64 0))),oD 7 (.mv (.const (.bool false)))]
def k122_1 : VC := .reg [oM 12 τ0,oD 13 (.lenL τ12),oM 8 τ13]
def k122_2 : VC := .reg [oM 14 τ8,oD 9 (.mv (.const (.int .i64 0))),oM 10 τ14]
def k122_3 : VC := .reg [oM 15 τ9,oM 16 τ10,oD 17 (.bin .lss τ15 τ16)]
def k122_4 : VC := .cond τ17 .skip (.exit 0)
def k122_5 : VC := .seq k122_3 k122_4
def k122_6 : VC := .reg [oM 18 τ9,oM 19 τ10,oD 20 (.bin .add τ18 τ19),oD 21 (.conv .u64 τ20),oD 22 (.bin .shr τ21 (.const (.int .u64 1))),oD 23 (.conv .i64 τ22),oM 11 τ23]
def k122_7 : VC := .reg [oM 24 τ2,oM 25 τ0,oM 26 τ11,oD 27 (.idxAL 9 τ25 τ26),oD 28 (.loadN [(.int .i64), (.int .i64), (.int .i64), .bool, (.int .u64), (.int .u64), .bool, .bool, (.int .i64)] τ27),oM 29 τ1,oD 30 (.callV τ24 [τ28, τ29]),oD 31 (.bin .lss τ30 (.const (.int .i64 0)))]
def k122_8 : VC := .reg [oM 32 τ11,oD 33 (.bin .add τ32 (.const (.int .i64 1))),oM 9 τ33]
def k122_9 : VC := .reg [oM 34 τ11,oM 10 τ34]
def k122_10 : VC := .cond τ31 k122_8 k122_9
def k122_11 : VC := .seq k122_7 k122_10
def k122_12 : VC := .seq k122_6 k122_11
def k122_13 : VC := .block 1 k122_12
def k122_14 : VC := .seq k122_5 k122_13
def k122_15 : VC := .loop k122_14
def k122_16 : VC := .block 0 k122_15
def k122_17 : VC := .reg [oM 35 τ9,oM 36 τ9,oM 37 τ8,oD 38 (.bin .lss τ36 τ37),oM 39 τ38,oG 40 (.mv τ2) 39 true,oG 41 (.mv τ0) 39 true,oG 42 (.mv τ9) 39 true,oG 43 (.idxAL 9 τ41 τ42) 39 true,oG 44 (.loadN [(.int .i64), (.int .i64), (.int .i64), .bool, (.int .u64), (.int .u64), .bool, .bool, (.int .i64)] τ43) 39 true,oG 45 (.mv τ1) 39 true,oG 46 (.callV τ40 [τ44, τ45]) 39 true,oG 47 (.bin .eql τ46 (.const (.int .i64 0))) 39 true,oD 48 (.pick τ39 τ47 (.const (.bool false))),oM 6 τ35,oM 7 τ48]
def k122_18 : VC := .seq k122_17 .ret
def k122_19 : VC := .seq k122_16 k122_18
def k122_20 : VC := .seq k122_2 k122_19
def k122_21 : VC := .seq k122_1 k122_20
def k122_22 : VC := .seq k122_0 k122_21
def fn122 : VFn := ⟨49, k122_22, [.tmp 6, .tmp 7]⟩
def k123_0 : VC := .reg [oD 2 (.box τ0),oD 4 (.mv (.const (.int .i64 0)))]
def k123_1 : VC := .reg [oD 5 (.fieldA 0 τ2),oD 6 (.fieldA 0 τ5),oD 7 (.load1 (.int .i64) τ6),oM 8 τ1,oD 9 (.minmax false [τ8, (.const (.int .i64 65536))]),oD 10 (.minmax true [(.const (.int .i64 0)), τ9]),oD 11 (.bin .sub τ7 τ10),oM 4 τ11]
def k123_2 : VC := .seq k123_1 .ret
def k123_3 : VC := .seq k123_0 k123_2
def fn123 : VFn := ⟨12, k123_3, [.tmp 4]⟩
def k72_0 : VC := .reg [oD 1 (.box τ0),oD 2 (.alloc [(.int .i64 0), (.int .i64 0), (.int .i64 0), (.bool false), (.int .u64 0), (.int .u64 0)])]
def k72_1 : VC := .reg [oD 4 (.fieldA 0 τ1),oD 5 (.loadN [(.int .i64), (.int .i64), (.int .i64), .bool, (.int .u64), (.int .u64)] τ4),oD 3 (.alloc [(.int .i64 0), (.int .i64 0), (.int .i64 0), (.bool false), (.int .u64 0), (.int .u64 0)]),oN (.store 6 τ3 τ5)]
def k72_2 : VC := .reg [oD 8 (.fieldA 6 τ1),oD 9 (.load1 .bool τ8),oM 7 τ9]
def k72_3 : VC := .reg [oD 10 (.fieldA 2 τ3),oN (.store 1 τ10 (.const (.int .i64 3)))]
def k72_4 : VC := .reg [oD 12 (.fieldA 7 τ1),oD 13 (.fieldA 0 τ12),oD 14 (.load1 .bool τ13),oM 11 τ14]
def k72_5 : VC := .reg [oD 15 (.fieldA 2 τ3),oN (.store 1 τ15 (.const (.int .i64 1)))]
def k72_6 : VC := .reg [oD 6 (.fieldA 2 τ3),oN (.store 1 τ6 (.const (.int .i64 2)))]
def k72_7 : VC := .cond τ11 k72_5 k72_6
def k72_8 : VC := .seq k72_4 k72_7
def k72_9 : VC := .cond τ7 k72_3 k72_8
def k72_10 : VC := .seq k72_2 k72_9
def k72_11 : VC := .block 0 k72_10
def k72_12 : VC := .reg [oD 16 (.loadN [(.int .i64), (.int .i64), (.int .i64), .bool, (.int .u64), (.int .u64)] τ3),oN (.store 6 τ2 τ16)]
def k72_13 : VC := .seq k72_12 .ret
def k72_14 : VC := .seq k72_11 k72_13
def k72_15 : VC := .seq k72_1 k72_14
def k72_16 : VC := .seq k72_0 k72_15
def fn72 : VFn := ⟨17, k72_16, [.cell 2 [(.int .i64), (.int .i64), (.int .i64), .bool, (.int .u64), (.int .u64)] true]⟩
def k64_0 : VC := .reg [oD 3 (.box τ0),oD 4 (.box τ1),oD 6 (.mv (.const (.int .u64 0)))]
def k64_1 : VC := .reg [oM 7 τ2,oD 8 (.bin .lss τ7 (.const (.int .i64 0))),oM 9 τ8,oG 10 (.mv τ2) 9 false,oG 11 (.conv .u64 τ10) 9 false,oG 12 (.callF 119 [τ11]) 9 false,oG 13 (.not τ12) 9 false,oD 14 (.pick τ9 (.const (.bool true)) τ13)]
def k64_2 : VC := .reg [oD 6 (.mv (.const (.int .u64 0)))]
def k64_3 : VC := .seq k64_2 .ret
def k64_4 : VC := .cond τ14 k64_3 .skip
def k64_5 : VC := .seq k64_1 k64_4
def k64_6 : VC := .reg [oD 15 (.loadN [(.int .u64), (.int .u64)] τ3),oD 16 (.loadN [(.int .i64), .bool, (.int .u64), (.int .u64), .bool, (.int .u64), (.int .u64), (.int .i64), (.int .i64)] τ4),oM 17 τ2,oD 18 (.conv .u64 τ17),oD 19 (.callF 120 [τ15, τ16, τ18]),oM 6 τ19]
def k64_7 : VC := .seq k64_6 .ret
def k64_8 : VC := .seq k64_5 k64_7
def k64_9 : VC := .seq k64_0 k64_8
def fn64 : VFn := ⟨20, k64_9, [.tmp 6]⟩
def k63_0 : VC := .reg [oD 1 (.box τ0),oD 2 (.alloc [(.bool false), (.bool false), (.int .u64 0)])]
def k63_1 : VC := .reg [oD 6 (.fieldA 0 τ1),oD 7 (.fieldA 0 τ6),oD 8 (.load1 (.int .i64) τ7),oD 9 (.bin .eql τ8 (.const (.int .i64 6)))]
def k63_2 : VC := .reg [oD 10 (.fieldA 9 τ1),oD 11 (.load1 (.int .i64) τ10),oD 12 (.callF 118 [(.const (.int .i64 6)), τ11])]
def k63_3 : VC := .reg [oD 13 (.build [(.bool false), (.bool false), (.int .u64 0)] [(0, 1, (.const (.bool true)))]),oN (.store 3 τ2 τ13)]
def k63_4 : VC := .seq k63_3 .ret
def k63_5 : VC := .cond τ12 k63_4 .skip
def k63_6 : VC := .seq k63_2 k63_5
def k63_7 : VC := .reg [oD 14 (.fieldA 10 τ1),oD 15 (.load1 .bool τ14)]
def k63_8 : VC := .reg [oD 16 (.fieldA 12 τ1),oD 17 (.load1 (.int .u32) τ16),oD 18 (.conv .u64 τ17),oD 19 (.bin .quo τ18 (.const (.int .u64 65536))),oD 20 (.build [(.bool false), (.bool false), (.int .u64 0)] [(1, 1, (.const (.bool true))), (2, 1, τ19)]),oN (.store 3 τ2 τ20)]
def k63_9 : VC := .seq k63_8 .ret
def k63_10 : VC := .cond τ15 k63_9 .skip
def k63_11 : VC := .seq k63_7 k63_10
def k63_12 : VC := .reg [oD 21 (.build [(.bool false), (.bool false), (.int .u64 0)] []),oN (.store 3 τ2 τ21)]
def k63_13 : VC := .seq k63_12 .ret
def k63_14 : VC := .seq k63_11 k63_13
def k63_15 : VC := .seq k63_6 k63_14
def k63_16 : VC := .cond τ9 k63_15 .skip
def k63_17 : VC := .seq k63_1 k63_16
def k63_18 : VC := .reg [oD 22 (.fieldA 0 τ1),oD 23 (.fieldA 0 τ22),oD 24 (.load1 (.int .i64) τ23),oD 25 (.bin .neq τ24 (.const (.int .i64 17))),oM 26 τ25,oG 27 (.fieldA 14 τ1) 26 false,oG 28 (.load1 .str τ27) 26 false,oG 29 (.bin .eql τ28 (.const (.string ⟨⟨[]⟩⟩))) 26 false,oD 30 (.pick τ26 (.const (.bool true)) τ29)]
def k63_19 : VC := .reg [oD 31 (.build [(.bool false), (.bool false), (.int .u64 0)] []),oN (.store 3 τ2 τ31)]
def k63_20 : VC := .seq k63_19 .ret
def k63_21 : VC := .cond τ30 k63_20 .skip
def k63_22 : VC := .seq k63_18 k63_21
def k63_23 : VC := .reg [oD 32 (.fieldA 13 τ1),oD 33 (.load1 .bool τ32),oD 34 (.build [(.bool false), (.bool false), (.int .u64 0)] [(0, 1, τ33)]),oD 3 (.alloc [(.bool false), (.bool false), (.int .u64 0)]),oN (.store 3 τ3 τ34)]
def k63_24 : VC := .reg [oD 35 (.fieldA 14 τ1),oD 36 (.load1 .str τ35),oD 37 (.lenS τ36),oD 38 (.bin .eql τ37 (.const (.int .i64 8)))]
def k63_25 : VC := .reg [oD 40 (.fieldA 14 τ1),oD 41 (.load1 .str τ40),oD 42 (.callF 105 [τ41, (.const (.int .i64 0)), (.const (.int .i64 8))]),oM 39 τ42,oE 43 0 τ39,oE 44 1 τ39,oM 4 τ43,oM 5 τ44]
def k63_26 : VC := .reg [oD 45 (.fieldA 1 τ3),oN (.store 1 τ45 (.const (.bool true)))]
def k63_27 : VC := .reg [oM 46 τ4,oD 47 (.fieldA 2 τ3),oN (.store 1 τ47 τ46)]
def k63_28 : VC := .seq k63_26 k63_27
def k63_29 : VC := .seq k63_25 k63_28
def k63_30 : VC := .cond τ38 k63_29 .skip
def k63_31 : VC := .seq k63_24 k63_30
def k63_32 : VC := .reg [oD 48 (.loadN [.bool, .bool, (.int .u64)] τ3),oN (.store 3 τ2 τ48)]
def k63_33 : VC := .seq k63_32 .ret
def k63_34 : VC := .seq k63_31 k63_33
def k63_35 : VC := .seq k63_23 k63_34
def k63_36 : VC := .seq k63_22 k63_35
def k63_37 : VC := .seq k63_17 k63_36
def k63_38 : VC := .seq k63_0 k63_37
def fn63 : VFn := ⟨49, k63_38, [.cell 2 [.bool, .bool, (.int .u64)] true]⟩
def k118_0 : VC := .reg [oD 4 (.mv (.const (.bool false)))]
def k118_1 : VC := .reg [oM 5 τ0,oD 6 (.bin .eql τ5 (.const (.int .i64 6))),oM 7 τ6,oG 8 (.mv τ1) 7 true,oG 9 (.callF 142 [τ8, (.const (.int .i64 2))]) 7 true,oD 10 (.pick τ7 τ9 (.const (.bool false))),oM 11 τ10,oG 12 (.mv τ1) 11 true,oG 13 (.callF 142 [τ12, (.const (.int .i64 16))]) 11 true,oG 14 (.not τ13) 11 true,oD 15 (.pick τ11 τ14 (.const (.bool false))),oM 16 τ15,oG 17 (.mv τ1) 16 true,oG 18 (.callF 142 [τ17, (.const (.int .i64 4))]) 16 true,oG 19 (.not τ18) 16 true,oD 20 (.pick τ16 τ19 (.const (.bool false))),oM 21 τ20,oG 22 (.mv τ1) 21 true,oG 23 (.callF 142 [τ22, (.const (.int .i64 1))]) 21 true,oG 24 (.not τ23) 21 true,oD 25 (.pick τ21 τ24 (.const (.bool false))),oM 4 τ25]
def k118_2 : VC := .seq k118_1 .ret
def k118_3 : VC := .seq k118_0 k118_2
def fn118 : VFn := ⟨26, k118_3, [.tmp 4]⟩
def k142_0 : VC := .reg [oD 4 (.mv (.const (.bool false)))]
def k142_1 : VC := .reg [oM 5 τ0,oM 6 τ1,oD 7 (.bin .and τ5 τ6),oM 8 τ1,oD 9 (.bin .eql τ7 τ8),oM 4 τ9]
def k142_2 : VC := .seq k142_1 .ret
def k142_3 : VC := .seq k142_0 k142_2
def fn142 : VFn := ⟨10, k142_3, [.tmp 4]⟩
def k105_0 : VC := .reg [oD 6 (.mv (.const (.int .u64 0))),oD 7 (.mv (.const (.bool false)))]
def k105_1 : VC := .reg [oM 10 τ2,oD 11 (.bin .lss τ10 (.const (.int .i64 1))),oM 12 τ11,oG 13 (.mv τ2) 12 false,oG 14 (.bin .gtr τ13 (.const (.int .i64 8))) 12 false,oD 15 (.pick τ12 (.const (.bool true)) τ14),oM 16 τ15,oG 17 (.mv τ1) 16 false,oG 18 (.bin .lss τ17 (.const (.int .i64 0))) 16 false,oD 19 (.pick τ16 (.const (.bool true)) τ18),oM 20 τ19,oG 21 (.mv τ1) 20 false,oG 22 (.mv τ0) 20 false,oG 23 (.lenS τ22) 20 false,oG 24 (.bin .gtr τ21 τ23) 20 false,oD 25 (.pick τ20 (.const (.bool true)) τ24),oM 26 τ25,oG 27 (.mv τ2) 26 false,oG 28 (.mv τ0) 26 false,oG 29 (.lenS τ28) 26 false,oG 30 (.mv τ1) 26 false,oG 31 (.bin .sub τ29 τ30) 26 false,oG 32 (.bin .gtr τ27 τ31) 26 false,oD 33 (.pick τ26 (.const (.bool true)) τ32)]
def k105_2 : VC := .reg [oD 6 (.mv (.const (.int .u64 0))),oD 7 (.mv (.const (.bool false)))]
def k105_3 : VC := .seq k105_2 .ret
def k105_4 : VC := .cond τ33 k105_3 .skip
def k105_5 : VC := .seq k105_1 k105_4
def k105_6 : VC := .reg [oD 8 (.mv (.const (.int .u64 0)))]
def k105_7 : VC := .reg [oD 9 (.mv (.const (.int .i64 0)))]
def k105_8 : VC := .reg [oM 34 τ9,oM 35 τ2,oD 36 (.bin .lss τ34 τ35)]
def k105_9 : VC := .cond τ36 .skip (.exit 0)
def k105_10 : VC := .seq k105_8 k105_9
def k105_11 : VC := .reg [oM 39 τ8,oD 40 (.bin .mul τ39 (.const (.int .u64 256))),oM 41 τ0,oM 42 τ1,oM 43 τ9,oD 44 (.bin .add τ42 τ43),oD 45 (.idxS τ41 τ44),oD 46 (.conv .u64 τ45),oD 47 (.bin .add τ40 τ46),oM 8 τ47]
def k105_12 : VC := .block 1 k105_11
def k105_13 : VC := .reg [oM 37 τ9,oD 38 (.bin .add τ37 (.const (.int .i64 1))),oM 9 τ38]
def k105_14 : VC := .seq k105_12 k105_13
def k105_15 : VC := .seq k105_10 k105_14
def k105_16 : VC := .loop k105_15
def k105_17 : VC := .block 0 k105_16
def k105_18 : VC := .seq k105_7 k105_17
def k105_19 : VC := .reg [oM 48 τ8,oM 6 τ48,oD 7 (.mv (.const (.bool true)))]
def k105_20 : VC := .seq k105_19 .ret
def k105_21 : VC := .seq k105_18 k105_20
def k105_22 : VC := .seq k105_6 k105_21
def k105_23 : VC := .seq k105_5 k105_22
def k105_24 : VC := .seq k105_0 k105_23
def fn105 : VFn := ⟨49, k105_24, [.tmp 6, .tmp 7]⟩
def k38_0 : VC := .reg [oD 3 (.box τ0),oD 4 (.box τ1),oD 6 (.mv (.const (.int .u64 0)))]
def k38_1 : VC := .reg [oM 7 τ2,oD 8 (.bin .lss τ7 (.const (.int .i64 1))),oM 9 τ8,oG 10 (.mv τ2) 9 false,oG 11 (.bin .gtr τ10 (.const (.int .i64 65535))) 9 false,oD 12 (.pick τ9 (.const (.bool true)) τ11)]
def k38_2 : VC := .reg [oD 6 (.mv (.const (.int .u64 0)))]
def k38_3 : VC := .seq k38_2 .ret
def k38_4 : VC := .cond τ12 k38_3 .skip
def k38_5 : VC := .seq k38_1 k38_4
def k38_6 : VC := .regD [oD 13 (.loadN [(.int .i64), .bool, (.int .u64), (.int .u64), .bool, (.int .u64), (.int .u64), (.int .i64), (.int .i64)] τ4),oD 14 (.callF 93 [τ13]),oD 15 (.loadN [(.int .u64), (.int .u64)] τ3),oD 16 (.loadN [(.int .i64), .bool, (.int .u64), (.int .u64), .bool, (.int .u64), (.int .u64), (.int .i64), (.int .i64)] τ4),oM 17 τ2,oD 18 (.conv .u64 τ17)] [(1, 2), (1, 3)] [oD 19 (.callF 92 [τ14, τ15, τ16, τ18]),oM 6 τ19]
def k38_7 : VC := .seq k38_6 .ret
def k38_8 : VC := .seq k38_5 k38_7
def k38_9 : VC := .seq k38_0 k38_8
def fn38 : VFn := ⟨20, k38_9, [.tmp 6]⟩
def k93_0 : VC := .reg [oD 1 (.box τ0),oD 2 (.alloc [(.bool false), (.int .i64 0), (.int .i64 0)])]
def k93_1 : VC := .reg [oD 3 (.fieldA 0 τ1),oD 4 (.load1 (.int .i64) τ3),oD 5 (.bin .neq τ4 (.const (.int .i64 6))),oD 6 (.build [(.bool false), (.int .i64 0), (.int .i64 0)] [(0, 1, τ5)]),oN (.store 3 τ2 τ6)]
def k93_2 : VC := .seq k93_1 .ret
def k93_3 : VC := .seq k93_0 k93_2
def fn93 : VFn := ⟨7, k93_3, [.cell 2 [.bool, (.int .i64), (.int .i64)] true]⟩
def k92_0 : VC := .reg [oD 4 (.box τ0),oD 5 (.box τ1),oD 6 (.box τ2),oD 8 (.mv (.const (.int .u64 0)))]
def k92_1 : VC := .regD [oM 9 τ3,oD 10 (.loadN [(.int .u64), (.int .u64)] τ5),oD 11 (.loadN [(.int .i64), .bool, (.int .u64), (.int .u64), .bool, (.int .u64), (.int .u64), (.int .i64), (.int .i64)] τ6),oD 12 (.callF 129 [τ11]),oD 13 (.callF 95 [τ10, τ12]),oD 14 (.bin .xor τ9 τ13),oD 15 (.loadN [.bool, (.int .i64), (.int .i64)] τ4),oD 16 (.callF 131 [τ15]),oD 17 (.callF 130 [τ16])] [(1, 3), (3, 6), (4, 6)] [oD 18 (.bin .and τ14 τ17),oM 8 τ18]
def k92_2 : VC := .seq k92_1 .ret
def k92_3 : VC := .seq k92_0 k92_2
def fn92 : VFn := ⟨19, k92_3, [.tmp 8]⟩
def k129_0 : VC := .reg [oD 1 (.box τ0),oD 2 (.mv (.const (.string ⟨⟨[]⟩⟩)))]
def k129_1 : VC := .reg [oD 4 (.loadN [(.int .i64), .bool, (.int .u64), (.int .u64), .bool, (.int .u64), (.int .u64), (.int .i64), (.int .i64)] τ1),oD 5 (.callF 145 [τ4]),oD 6 (.not τ5)]
def k129_2 : VC := .reg [oD 2 (.mv (.const (.string ⟨⟨[]⟩⟩)))]
def k129_3 : VC := .seq k129_2 .ret
def k129_4 : VC := .cond τ6 k129_3 .skip
def k129_5 : VC := .seq k129_1 k129_4
def k129_6 : VC := .reg [oD 3 (.mv (.const (.int .u64 4)))]
def k129_7 : VC := .reg [oD 7 (.fieldA 1 τ1),oD 8 (.fieldA 0 τ7),oD 9 (.load1 .bool τ8)]
def k129_8 : VC := .reg [oD 3 (.mv (.const (.int .u64 6)))]
def k129_9 : VC := .cond τ9 k129_8 .skip
def k129_10 : VC := .seq k129_7 k129_9
def k129_11 : VC := .regD [oM 10 τ3,oD 11 (.callF 104 [τ10, (.const (.int .i64 1))]),oD 12 (.fieldA 0 τ1),oD 13 (.load1 (.int .i64) τ12),oD 14 (.conv .u64 τ13),oD 15 (.callF 104 [τ14, (.const (.int .i64 1))]),oD 16 (.bin .add τ11 τ15),oD 17 (.fieldA 1 τ1),oD 18 (.loadN [.bool, (.int .u64), (.int .u64)] τ17),oD 19 (.callF 112 [τ18]),oD 20 (.bin .add τ16 τ19),oD 21 (.fieldA 4 τ1),oD 22 (.loadN [.bool, (.int .u64), (.int .u64)] τ21),oD 23 (.callF 112 [τ22]),oD 24 (.bin .add τ20 τ23),oD 25 (.fieldA 7 τ1),oD 26 (.load1 (.int .i64) τ25),oD 27 (.conv .u64 τ26),oD 28 (.callF 104 [τ27, (.const (.int .i64 2))]),oD 29 (.bin .add τ24 τ28),oD 30 (.fieldA 8 τ1),oD 31 (.load1 (.int .i64) τ30),oD 32 (.conv .u64 τ31),oD 33 (.callF 104 [τ32, (.const (.int .i64 2))])] [(1, 3), (1, 8), (1, 12), (1, 16), (1, 21), (5, 8), (5, 12), (5, 16), (5, 21), (9, 12), (9, 16), (9, 21), (13, 16), (13, 21), (18, 21)] [oD 34 (.bin .add τ29 τ33),oM 2 τ34]
def k129_12 : VC := .seq k129_11 .ret
def k129_13 : VC := .seq k129_10 k129_12
def k129_14 : VC := .seq k129_6 k129_13
def k129_15 : VC := .seq k129_5 k129_14
def k129_16 : VC := .seq k129_0 k129_15
def fn129 : VFn := ⟨35, k129_16, [.tmp 2]⟩
def k145_0 : VC := .reg [oD 1 (.box τ0),oD 2 (.mv (.const (.bool false)))]
def k145_1 : VC := .reg [oD 3 (.fieldA 0 τ1),oD 4 (.load1 (.int .i64) τ3),oD 5 (.callF 153 [τ4, (.const (.int .i64 255))]),oM 6 τ5,oG 7 (.fieldA 1 τ1) 6 true,oG 8 (.loadN [.bool, (.int .u64), (.int .u64)] τ7) 6 true,oG 9 (.callF 115 [τ8]) 6 true,oD 10 (.pick τ6 τ9 (.const (.bool false))),oM 11 τ10,oG 12 (.fieldA 4 τ1) 11 true,oG 13 (.loadN [.bool, (.int .u64), (.int .u64)] τ12) 11 true,oG 14 (.callF 115 [τ13]) 11 true,oD 15 (.pick τ11 τ14 (.const (.bool false))),oM 16 τ15,oG 17 (.fieldA 1 τ1) 16 true,oG 18 (.fieldA 0 τ17) 16 true,oG 19 (.load1 .bool τ18) 16 true,oG 20 (.fieldA 4 τ1) 16 true,oG 21 (.fieldA 0 τ20) 16 true,oG 22 (.load1 .bool τ21) 16 true,oG 23 (.eqB false τ19 τ22) 16 true,oD 24 (.pick τ16 τ23 (.const (.bool false))),oM 25 τ24,oG 26 (.fieldA 7 τ1) 25 true,oG 27 (.load1 (.int .i64) τ26) 25 true,oG 28 (.callF 153 [τ27, (.const (.int .i64 65535))]) 25 true,oD 29 (.pick τ25 τ28 (.const (.bool false))),oM 30 τ29,oG 31 (.fieldA 8 τ1) 30 true,oG 32 (.load1 (.int .i64) τ31) 30 true,oG 33 (.callF 153 [τ32, (.const (.int .i64 65535))]) 30 true,oD 34 (.pick τ30 τ33 (.const (.bool false))),oM 2 τ34]
def k145_2 : VC := .seq k145_1 .ret
def k145_3 : VC := .seq k145_0 k145_2
def fn145 : VFn := ⟨35, k145_3, [.tmp 2]⟩
def k153_0 : VC := .reg [oD 4 (.mv (.const (.bool false)))]
def k153_1 : VC := .reg [oM 5 τ0,oD 6 (.bin .geq τ5 (.const (.int .i64 0))),oM 7 τ6,oG 8 (.mv τ0) 7 true,oG 9 (.mv τ1) 7 true,oG 10 (.bin .leq τ8 τ9) 7 true,oD 11 (.pick τ7 τ10 (.const (.bool false))),oM 4 τ11]
def k153_2 : VC := .seq k153_1 .ret
def k153_3 : VC := .seq k153_0 k153_2
def fn153 : VFn := ⟨12, k153_3, [.tmp 4]⟩
def k115_0 : VC := .reg [oD 1 (.box τ0),oD 2 (.mv (.const (.bool false)))]
def k115_1 : VC := .reg [oD 3 (.fieldA 0 τ1),oD 4 (.load1 .bool τ3),oM 5 τ4,oG 6 (.fieldA 1 τ1) 5 false,oG 7 (.load1 (.int .u64) τ6) 5 false,oG 8 (.bin .eql τ7 (.const (.int .u64 0))) 5 false,oG 9 (.mv τ8) 5 false,oG 10 (.fieldA 2 τ1) 9 true,oG 11 (.load1 (.int .u64) τ10) 9 true,oG 12 (.bin .lss τ11 (.const (.int .u64 4294967296))) 9 true,oG 13 (.pick τ9 τ12 (.const (.bool false))) 5 false,oD 14 (.pick τ5 (.const (.bool true)) τ13),oM 2 τ14]
def k115_2 : VC := .seq k115_1 .ret
def k115_3 : VC := .seq k115_0 k115_2
def fn115 : VFn := ⟨15, k115_3, [.tmp 2]⟩
def k104_0 : VC := .reg [oD 4 (.mv (.const (.string ⟨⟨[]⟩⟩)))]
def k104_1 : VC := .reg [oD 5 (.mv (.const (.string ⟨⟨[]⟩⟩)))]
def k104_2 : VC := .reg [oD 6 (.mv (.const (.int .i64 0)))]
def k104_3 : VC := .reg [oM 7 τ6,oM 8 τ1,oD 9 (.bin .lss τ7 τ8),oM 10 τ9,oG 11 (.mv τ1) 10 true,oG 12 (.bin .leq τ11 (.const (.int .i64 8))) 10 true,oD 13 (.pick τ10 τ12 (.const (.bool false)))]
def k104_4 : VC := .cond τ13 .skip (.exit 0)
def k104_5 : VC := .seq k104_3 k104_4
def k104_6 : VC := .reg [oM 16 τ0,oD 17 (.bin .rem τ16 (.const (.int .u64 256))),oD 18 (.conv .u8 τ17),oD 19 (.buildSl 1 1 [(.int .u8 0)] [(0, 1, τ18)]),oD 20 (.b2s τ19),oM 21 τ5,oD 22 (.bin .add τ20 τ21),oM 5 τ22]
def k104_7 : VC := .reg [oM 23 τ0,oD 24 (.bin .quo τ23 (.const (.int .u64 256))),oM 0 τ24]
def k104_8 : VC := .seq k104_6 k104_7
def k104_9 : VC := .block 1 k104_8
def k104_10 : VC := .reg [oM 14 τ6,oD 15 (.bin .add τ14 (.const (.int .i64 1))),oM 6 τ15]
def k104_11 : VC := .seq k104_9 k104_10
def k104_12 : VC := .seq k104_5 k104_11
def k104_13 : VC := .loop k104_12
def k104_14 : VC := .block 0 k104_13
def k104_15 : VC := .seq k104_2 k104_14
def k104_16 : VC := .reg [oM 25 τ5,oM 4 τ25]
def k104_17 : VC := .seq k104_16 .ret
def k104_18 : VC := .seq k104_15 k104_17
def k104_19 : VC := .seq k104_1 k104_18
def k104_20 : VC := .seq k104_0 k104_19
def fn104 : VFn := ⟨26, k104_20, [.tmp 4]⟩
def k112_0 : VC := .reg [oD 1 (.box τ0),oD 2 (.mv (.const (.string ⟨⟨[]⟩⟩)))]
def k112_1 : VC := .reg [oD 3 (.loadN [.bool, (.int .u64), (.int .u64)] τ1),oD 4 (.callF 115 [τ3]),oD 5 (.not τ4)]
def k112_2 : VC := .reg [oD 2 (.mv (.const (.string ⟨⟨[]⟩⟩)))]
def k112_3 : VC := .seq k112_2 .ret
def k112_4 : VC := .cond τ5 k112_3 .skip
def k112_5 : VC := .seq k112_1 k112_4
def k112_6 : VC := .reg [oD 6 (.fieldA 0 τ1),oD 7 (.load1 .bool τ6)]
def k112_7 : VC := .regD [oD 8 (.fieldA 1 τ1),oD 9 (.load1 (.int .u64) τ8),oD 10 (.callF 104 [τ9, (.const (.int .i64 8))]),oD 11 (.fieldA 2 τ1),oD 12 (.load1 (.int .u64) τ11)] [(2, 4)] [oD 13 (.callF 104 [τ12, (.const (.int .i64 8))]),oD 14 (.bin .add τ10 τ13),oM 2 τ14]
def k112_8 : VC := .seq k112_7 .ret
def k112_9 : VC := .cond τ7 k112_8 .skip
def k112_10 : VC := .seq k112_6 k112_9
def k112_11 : VC := .reg [oD 15 (.fieldA 2 τ1),oD 16 (.load1 (.int .u64) τ15),oD 17 (.callF 104 [τ16, (.const (.int .i64 4))]),oM 2 τ17]
def k112_12 : VC := .seq k112_11 .ret
def k112_13 : VC := .seq k112_10 k112_12
def k112_14 : VC := .seq k112_5 k112_13
def k112_15 : VC := .seq k112_0 k112_14
def fn112 : VFn := ⟨18, k112_15, [.tmp 2]⟩
def k95_0 : VC := .reg [oD 2 (.box τ0),oD 4 (.mv (.const (.int .u64 0)))]
def k95_1 : VC := .regD [oD 14 (.fieldA 0 τ2),oD 15 (.load1 (.int .u64) τ14),oD 16 (.bin .xor (.const (.int .u64 8317987319222330741)) τ15),oD 17 (.fieldA 1 τ2),oD 18 (.load1 (.int .u64) τ17),oD 19 (.bin .xor (.const (.int .u64 7237128888997146477)) τ18),oM 5 τ16] [] [oM 6 τ19]
def k95_2 : VC := .regD [oD 20 (.fieldA 0 τ2),oD 21 (.load1 (.int .u64) τ20),oD 22 (.bin .xor (.const (.int .u64 7816392313619706465)) τ21),oD 23 (.fieldA 1 τ2),oD 24 (.load1 (.int .u64) τ23),oD 25 (.bin .xor (.const (.int .u64 8387220255154660723)) τ24),oM 7 τ22] [] [oM 8 τ25]
def k95_3 : VC := .reg [oM 26 τ1,oD 27 (.lenS τ26),oD 28 (.bin .quo τ27 (.const (.int .i64 8))),oD 29 (.bin .mul τ28 (.const (.int .i64 8))),oM 9 τ29]
def k95_4 : VC := .reg [oD 10 (.mv (.const (.int .i64 0)))]
def k95_5 : VC := .reg [oM 30 τ10,oM 31 τ9,oD 32 (.bin .leq τ30 τ31)]
def k95_6 : VC := .cond τ32 .skip (.exit 0)
def k95_7 : VC := .seq k95_5 k95_6
def k95_8 : VC := .reg [oM 35 τ1,oM 36 τ10,oM 37 τ10,oD 38 (.bin .add τ37 (.const (.int .i64 8))),oM 39 τ1,oD 40 (.lenS τ39),oD 41 (.minmax false [τ38, τ40]),oD 42 (.sliceS τ35 (some τ36) (some τ41)),oD 43 (.callF 135 [τ42]),oM 11 τ43]
def k95_9 : VC := .reg [oM 44 τ10,oM 45 τ9,oD 46 (.bin .eql τ44 τ45)]
def k95_10 : VC := .reg [oM 47 τ1,oM 48 τ10,oD 49 (.sliceS τ47 (some τ48) none),oD 50 (.callF 135 [τ49]),oM 51 τ1,oD 52 (.lenS τ51),oD 53 (.bin .rem τ52 (.const (.int .i64 256))),oD 54 (.conv .u64 τ53),oD 55 (.bin .shl τ54 (.const (.int .u64 56))),oD 56 (.bin .add τ50 τ55),oM 11 τ56]
def k95_11 : VC := .cond τ46 k95_10 .skip
def k95_12 : VC := .seq k95_9 k95_11
def k95_13 : VC := .reg [oM 57 τ8,oM 58 τ11,oD 59 (.bin .xor τ57 τ58),oM 8 τ59]
def k95_14 : VC := .reg [oD 12 (.mv (.const (.int .i64 0)))]
def k95_15 : VC := .reg [oM 60 τ12,oD 61 (.bin .lss τ60 (.const (.int .i64 2)))]
def k95_16 : VC := .cond τ61 .skip (.exit 2)
def k95_17 : VC := .seq k95_15 k95_16
def k95_18 : VC := .reg [oM 65 τ5,oM 66 τ6,oM 67 τ7,oM 68 τ8,oD 69 (.callF 136 [τ65, τ66, τ67, τ68]),oM 64 τ69,oE 70 0 τ64,oE 71 1 τ64,oE 72 2 τ64,oE 73 3 τ64,oM 5 τ70,oM 6 τ71,oM 7 τ72,oM 8 τ73]
def k95_19 : VC := .block 3 k95_18
def k95_20 : VC := .reg [oM 62 τ12,oD 63 (.bin .add τ62 (.const (.int .i64 1))),oM 12 τ63]
def k95_21 : VC := .seq k95_19 k95_20
def k95_22 : VC := .seq k95_17 k95_21
def k95_23 : VC := .loop k95_22
def k95_24 : VC := .block 2 k95_23
def k95_25 : VC := .seq k95_14 k95_24
def k95_26 : VC := .reg [oM 74 τ5,oM 75 τ11,oD 76 (.bin .xor τ74 τ75),oM 5 τ76]
def k95_27 : VC := .seq k95_25 k95_26
def k95_28 : VC := .seq k95_13 k95_27
def k95_29 : VC := .seq k95_12 k95_28
def k95_30 : VC := .seq k95_8 k95_29
def k95_31 : VC := .block 1 k95_30
def k95_32 : VC := .reg [oM 33 τ10,oD 34 (.bin .add τ33 (.const (.int .i64 8))),oM 10 τ34]
def k95_33 : VC := .seq k95_31 k95_32
def k95_34 : VC := .seq k95_7 k95_33
def k95_35 : VC := .loop k95_34
def k95_36 : VC := .block 0 k95_35
def k95_37 : VC := .seq k95_4 k95_36
def k95_38 : VC := .reg [oM 77 τ7,oD 78 (.bin .xor τ77 (.const (.int .u64 255))),oM 7 τ78]
def k95_39 : VC := .reg [oM 79 τ5,oM 80 τ6,oM 81 τ7,oM 82 τ8,oD 83 (.callF 137 [τ79, τ80, τ81, τ82, (.const (.int .i64 4))]),oD 13 (.alloc [(.int .u64 0), (.int .u64 0), (.int .u64 0), (.int .u64 0)]),oN (.store 4 τ13 τ83)]
def k95_40 : VC := .reg [oD 84 (.idxAA 4 1 τ13 (.const (.int .i64 0))),oD 85 (.load1 (.int .u64) τ84),oD 86 (.idxAA 4 1 τ13 (.const (.int .i64 1))),oD 87 (.load1 (.int .u64) τ86),oD 88 (.bin .xor τ85 τ87),oD 89 (.idxAA 4 1 τ13 (.const (.int .i64 2))),oD 90 (.load1 (.int .u64) τ89),oD 91 (.bin .xor τ88 τ90),oD 92 (.idxAA 4 1 τ13 (.const (.int .i64 3))),oD 93 (.load1 (.int .u64) τ92),oD 94 (.bin .xor τ91 τ93),oM 4 τ94]
def k95_41 : VC := .seq k95_40 .ret
def k95_42 : VC := .seq k95_39 k95_41
def k95_43 : VC := .seq k95_38 k95_42
def k95_44 : VC := .seq k95_37 k95_43
def k95_45 : VC := .seq k95_3 k95_44
def k95_46 : VC := .seq k95_2 k95_45
def k95_47 : VC := .seq k95_1 k95_46
def k95_48 : VC := .seq k95_0 k95_47
def fn95 : VFn := ⟨95, k95_48, [.tmp 4]⟩
def k135_0 : VC := .reg [oD 2 (.mv (.const (.int .u64 0)))]
def k135_1 : VC := .reg [oD 3 (.mv (.const (.int .u64 0)))]
def k135_2 : VC := .reg [oM 5 τ0,oD 6 (.lenS τ5),oD 7 (.bin .sub τ6 (.const (.int .i64 1))),oM 4 τ7]
def k135_3 : VC := .reg [oM 8 τ4,oD 9 (.bin .geq τ8 (.const (.int .i64 0)))]
def k135_4 : VC := .cond τ9 .skip (.exit 0)
def k135_5 : VC := .seq k135_3 k135_4
def k135_6 : VC := .reg [oM 12 τ3,oD 13 (.bin .shl τ12 (.const (.int .u64 8))),oM 14 τ0,oM 15 τ4,oD 16 (.idxS τ14 τ15),oD 17 (.conv .u64 τ16),oD 18 (.bin .add τ13 τ17),oM 3 τ18]
def k135_7 : VC := .block 1 k135_6
def k135_8 : VC := .reg [oM 10 τ4,oD 11 (.bin .sub τ10 (.const (.int .i64 1))),oM 4 τ11]
def k135_9 : VC := .seq k135_7 k135_8
def k135_10 : VC := .seq k135_5 k135_9
def k135_11 : VC := .loop k135_10
def k135_12 : VC := .block 0 k135_11
def k135_13 : VC := .seq k135_2 k135_12
def k135_14 : VC := .reg [oM 19 τ3,oM 2 τ19]
def k135_15 : VC := .seq k135_14 .ret
def k135_16 : VC := .seq k135_13 k135_15
def k135_17 : VC := .seq k135_1 k135_16
def k135_18 : VC := .seq k135_0 k135_17
def fn135 : VFn := ⟨20, k135_18, [.tmp 2]⟩
def k136_0 : VC := .reg [oD 8 (.mv (.const (.int .u64 0))),oD 9 (.mv (.const (.int .u64 0))),oD 10 (.mv (.const (.int .u64 0))),oD 11 (.mv (.const (.int .u64 0)))]
def k136_1 : VC := .reg [oM 12 τ0,oM 13 τ1,oD 14 (.bin .add τ12 τ13),oM 0 τ14]
def k136_2 : VC := .reg [oM 15 τ1,oD 16 (.callF 149 [τ15, (.const (.int .i64 13))]),oM 17 τ0,oD 18 (.bin .xor τ16 τ17),oM 1 τ18]
def k136_3 : VC := .reg [oM 19 τ0,oD 20 (.callF 149 [τ19, (.const (.int .i64 32))]),oM 0 τ20]
def k136_4 : VC := .reg [oM 21 τ2,oM 22 τ3,oD 23 (.bin .add τ21 τ22),oM 2 τ23]
def k136_5 : VC := .reg [oM 24 τ3,oD 25 (.callF 149 [τ24, (.const (.int .i64 16))]),oM 26 τ2,oD 27 (.bin .xor τ25 τ26),oM 3 τ27]
def k136_6 : VC := .reg [oM 28 τ0,oM 29 τ3,oD 30 (.bin .add τ28 τ29),oM 0 τ30]
def k136_7 : VC := .reg [oM 31 τ3,oD 32 (.callF 149 [τ31, (.const (.int .i64 21))]),oM 33 τ0,oD 34 (.bin .xor τ32 τ33),oM 3 τ34]
def k136_8 : VC := .reg [oM 35 τ2,oM 36 τ1,oD 37 (.bin .add τ35 τ36),oM 2 τ37]
def k136_9 : VC := .reg [oM 38 τ1,oD 39 (.callF 149 [τ38, (.const (.int .i64 17))]),oM 40 τ2,oD 41 (.bin .xor τ39 τ40),oM 1 τ41]
def k136_10 : VC := .reg [oM 42 τ2,oD 43 (.callF 149 [τ42, (.const (.int .i64 32))]),oM 2 τ43]
def k136_11 : VC := .reg [oM 44 τ0,oM 45 τ1,oM 46 τ2,oM 47 τ3,oM 8 τ44,oM 9 τ45,oM 10 τ46,oM 11 τ47]
def k136_12 : VC := .seq k136_11 .ret
def k136_13 : VC := .seq k136_10 k136_12
def k136_14 : VC := .seq k136_9 k136_13
def k136_15 : VC := .seq k136_8 k136_14
def k136_16 : VC := .seq k136_7 k136_15
def k136_17 : VC := .seq k136_6 k136_16
def k136_18 : VC := .seq k136_5 k136_17
def k136_19 : VC := .seq k136_4 k136_18
def k136_20 : VC := .seq k136_3 k136_19
def k136_21 : VC := .seq k136_2 k136_20
def k136_22 : VC := .seq k136_1 k136_21
def k136_23 : VC := .seq k136_0 k136_22
def fn136 : VFn := ⟨48, k136_23, [.tmp 8, .tmp 9, .tmp 10, .tmp 11]⟩
def k149_0 : VC := .reg [oD 4 (.mv (.const (.int .u64 0)))]
def k149_1 : VC := .regD [oM 5 τ0,oM 6 τ1,oD 7 (.bin .shl τ5 τ6),oM 8 τ0,oM 9 τ1,oD 10 (.bin .sub (.const (.int .i64 64)) τ9),oD 11 (.bin .shr τ8 τ10)] [] [oD 12 (.bin .or τ7 τ11),oM 4 τ12]
def k149_2 : VC := .seq k149_1 .ret
def k149_3 : VC := .seq k149_0 k149_2
def fn149 : VFn := ⟨13, k149_3, [.tmp 4]⟩
def k137_0 : VC := .reg [oD 10 (.alloc [(.int .u64 0), (.int .u64 0), (.int .u64 0), (.int .u64 0)])]
def k137_1 : VC := .reg [oD 11 (.mv (.const (.int .i64 0)))]
def k137_2 : VC := .reg [oM 12 τ11,oM 13 τ4,oD 14 (.bin .lss τ12 τ13),oM 15 τ14,oG 16 (.mv τ11) 15 true,oG 17 (.bin .lss τ16 (.const (.int .i64 64))) 15 true,oD 18 (.pick τ15 τ17 (.const (.bool false)))]
def k137_3 : VC := .cond τ18 .skip (.exit 0)
def k137_4 : VC := .seq k137_2 k137_3
def k137_5 : VC := .reg [oM 22 τ0,oM 23 τ1,oM 24 τ2,oM 25 τ3,oD 26 (.callF 136 [τ22, τ23, τ24, τ25]),oM 21 τ26,oE 27 0 τ21,oE 28 1 τ21,oE 29 2 τ21,oE 30 3 τ21,oM 0 τ27,oM 1 τ28,oM 2 τ29,oM 3 τ30]
def k137_6 : VC := .block 1 k137_5
def k137_7 : VC := .reg [oM 19 τ11,oD 20 (.bin .add τ19 (.const (.int .i64 1))),oM 11 τ20]
def k137_8 : VC := .seq k137_6 k137_7
def k137_9 : VC := .seq k137_4 k137_8
def k137_10 : VC := .loop k137_9
def k137_11 : VC := .block 0 k137_10
def k137_12 : VC := .seq k137_1 k137_11
def k137_13 : VC := .reg [oM 31 τ0,oM 32 τ1,oM 33 τ2,oM 34 τ3,oD 35 (.build [(.int .u64 0), (.int .u64 0), (.int .u64 0), (.int .u64 0)] [(0, 1, τ31), (1, 1, τ32), (2, 1, τ33), (3, 1, τ34)]),oN (.store 4 τ10 τ35)]
def k137_14 : VC := .seq k137_13 .ret
def k137_15 : VC := .seq k137_12 k137_14
def k137_16 : VC := .seq k137_0 k137_15
def fn137 : VFn := ⟨36, k137_16, [.cell 10 [(.int .u64), (.int .u64), (.int .u64), (.int .u64)] true]⟩
def k131_0 : VC := .reg [oD 1 (.box τ0),oD 2 (.mv (.const (.int .i64 0)))]
def k131_1 : VC := .reg [oD 3 (.loadN [.bool, (.int .i64), (.int .i64)] τ1),oD 4 (.callF 146 [τ3]),oD 5 (.not τ4)]
def k131_2 : VC := .reg [oD 2 (.mv (.const (.int .i64 0)))]
def k131_3 : VC := .seq k131_2 .ret
def k131_4 : VC := .cond τ5 k131_3 .skip
def k131_5 : VC := .seq k131_1 k131_4
def k131_6 : VC := .reg [oD 6 (.fieldA 0 τ1),oD 7 (.load1 .bool τ6)]
def k131_7 : VC := .reg [oD 2 (.mv (.const (.int .i64 64)))]
def k131_8 : VC := .seq k131_7 .ret
def k131_9 : VC := .cond τ7 k131_8 .skip
def k131_10 : VC := .seq k131_6 k131_9
def k131_11 : VC := .reg [oD 2 (.mv (.const (.int .i64 16)))]
def k131_12 : VC := .seq k131_11 .ret
def k131_13 : VC := .seq k131_10 k131_12
def k131_14 : VC := .seq k131_5 k131_13
def k131_15 : VC := .seq k131_0 k131_14
def fn131 : VFn := ⟨8, k131_15, [.tmp 2]⟩
def k146_0 : VC := .reg [oD 1 (.box τ0),oD 2 (.mv (.const (.bool false)))]
def k146_1 : VC := .reg [oD 3 (.mv (.const (.int .i64 16)))]
def k146_2 : VC := .reg [oD 4 (.fieldA 0 τ1),oD 5 (.load1 .bool τ4)]
def k146_3 : VC := .reg [oD 3 (.mv (.const (.int .i64 63)))]
def k146_4 : VC := .cond τ5 k146_3 .skip
def k146_5 : VC := .seq k146_2 k146_4
def k146_6 : VC := .reg [oD 6 (.fieldA 1 τ1),oD 7 (.load1 (.int .i64) τ6),oD 8 (.bin .geq τ7 (.const (.int .i64 0))),oM 9 τ8,oG 10 (.fieldA 1 τ1) 9 true,oG 11 (.load1 (.int .i64) τ10) 9 true,oG 12 (.bin .leq τ11 (.const (.int .i64 12))) 9 true,oD 13 (.pick τ9 τ12 (.const (.bool false))),oM 14 τ13,oG 15 (.fieldA 2 τ1) 14 true,oG 16 (.load1 (.int .i64) τ15) 14 true,oG 17 (.bin .geq τ16 (.const (.int .i64 0))) 14 true,oD 18 (.pick τ14 τ17 (.const (.bool false))),oM 19 τ18,oG 20 (.fieldA 2 τ1) 19 true,oG 21 (.load1 (.int .i64) τ20) 19 true,oG 22 (.mv τ3) 19 true,oG 23 (.fieldA 1 τ1) 19 true,oG 24 (.load1 (.int .i64) τ23) 19 true,oG 25 (.bin .sub τ22 τ24) 19 true,oG 26 (.bin .leq τ21 τ25) 19 true,oD 27 (.pick τ19 τ26 (.const (.bool false))),oM 2 τ27]
def k146_7 : VC := .seq k146_6 .ret
def k146_8 : VC := .seq k146_5 k146_7
def k146_9 : VC := .seq k146_1 k146_8
def k146_10 : VC := .seq k146_0 k146_9
def fn146 : VFn := ⟨28, k146_10, [.tmp 2]⟩
def k130_0 : VC := .reg [oD 2 (.mv (.const (.int .u64 0)))]
def k130_1 : VC := .reg [oD 3 (.mv (.const (.int .u64 0)))]
def k130_2 : VC := .reg [oD 4 (.mv (.const (.int .i64 0)))]
def k130_3 : VC := .reg [oM 5 τ4,oM 6 τ0,oD 7 (.bin .lss τ5 τ6),oM 8 τ7,oG 9 (.mv τ0) 8 true,oG 10 (.bin .leq τ9 (.const (.int .i64 64))) 8 true,oD 11 (.pick τ8 τ10 (.const (.bool false)))]
def k130_4 : VC := .cond τ11 .skip (.exit 0)
def k130_5 : VC := .seq k130_3 k130_4
def k130_6 : VC := .reg [oM 14 τ3,oD 15 (.bin .shl τ14 (.const (.int .u64 1))),oD 16 (.bin .or τ15 (.const (.int .u64 1))),oM 3 τ16]
def k130_7 : VC := .block 1 k130_6
def k130_8 : VC := .reg [oM 12 τ4,oD 13 (.bin .add τ12 (.const (.int .i64 1))),oM 4 τ13]
def k130_9 : VC := .seq k130_7 k130_8
def k130_10 : VC := .seq k130_5 k130_9
def k130_11 : VC := .loop k130_10
def k130_12 : VC := .block 0 k130_11
def k130_13 : VC := .seq k130_2 k130_12
def k130_14 : VC := .reg [oM 17 τ3,oM 2 τ17]
def k130_15 : VC := .seq k130_14 .ret
def k130_16 : VC := .seq k130_13 k130_15
def k130_17 : VC := .seq k130_1 k130_16
def k130_18 : VC := .seq k130_0 k130_17
def fn130 : VFn := ⟨18, k130_18, [.tmp 2]⟩
def k46_0 : VC := .reg [oD 3 (.box τ0),oD 4 (.box τ1),oD 6 (.mv (.const (.int .i64 0))),oD 7 (.mv (.const (.bool false)))]
def k46_1 : VC := .regD [oD 9 (.loadN [(.int .i64), .bool, (.int .u64), (.int .u64), .bool, (.int .u64), (.int .u64), (.int .i64), (.int .i64)] τ4),oD 10 (.callF 93 [τ9]),oD 11 (.loadN [(.int .u64), (.int .u64)] τ3),oD 12 (.loadN [(.int .i64), .bool, (.int .u64), (.int .u64), .bool, (.int .u64), (.int .u64), (.int .i64), (.int .i64)] τ4),oM 13 τ2] [(1, 2), (1, 3)] [oD 14 (.callF 92 [τ10, τ11, τ12, τ13]),oM 8 τ14]
def k46_2 : VC := .reg [oM 15 τ8,oD 16 (.bin .lss τ15 (.const (.int .u64 1))),oM 17 τ16,oG 18 (.mv τ8) 17 false,oG 19 (.bin .gtr τ18 (.const (.int .u64 65535))) 17 false,oD 20 (.pick τ17 (.const (.bool true)) τ19),oM 21 τ20,oG 22 (.loadN [(.int .u64), (.int .u64)] τ3) 21 false,oG 23 (.loadN [(.int .i64), .bool, (.int .u64), (.int .u64), .bool, (.int .u64), (.int .u64), (.int .i64), (.int .i64)] τ4) 21 false,oG 24 (.mv τ8) 21 false,oG 25 (.conv .i64 τ24) 21 false,oG 26 (.callF 38 [τ22, τ23, τ25]) 21 false,oG 27 (.mv τ2) 21 false,oG 28 (.bin .neq τ26 τ27) 21 false,oD 29 (.pick τ21 (.const (.bool true)) τ28)]
def k46_3 : VC := .reg [oD 6 (.mv (.const (.int .i64 0))),oD 7 (.mv (.const (.bool false)))]
def k46_4 : VC := .seq k46_3 .ret
def k46_5 : VC := .cond τ29 k46_4 .skip
def k46_6 : VC := .seq k46_2 k46_5
def k46_7 : VC := .reg [oM 30 τ8,oD 31 (.conv .i64 τ30),oM 6 τ31,oD 7 (.mv (.const (.bool true)))]
def k46_8 : VC := .seq k46_7 .ret
def k46_9 : VC := .seq k46_6 k46_8
def k46_10 : VC := .seq k46_1 k46_9
def k46_11 : VC := .seq k46_0 k46_10
def fn46 : VFn := ⟨32, k46_11, [.tmp 6, .tmp 7]⟩
def k66_0 : VC := .reg [oD 2 (.mv (.const (.pointer none))),oD 3 (.mv (.const (.pointer none)))]
def k66_1 : VC := .reg [oD 9 (.build [(.int .i64 0), (.int .i64 0)] [(0, 1, (.const (.int .i64 1))), (1, 1, (.const (.int .i64 1)))]),oD 10 (.callF 16 [τ9]),oM 8 τ10,oE 11 0 τ8,oE 12 1 τ8,oM 4 τ11,oM 5 τ12]
def k66_2 : VC := .reg [oD 13 (.build [(.int .i64 0), (.int .i64 0)] [(0, 1, (.const (.int .i64 1))), (1, 1, (.const (.int .i64 1)))]),oD 14 (.callF 17 [τ13]),oM 6 τ14]
def k66_3 : VC := .reg [oD 7 (.mv (.const (.int .i64 0)))]
def k66_4 : VC := .reg [oM 15 τ7,oM 16 τ0,oD 17 (.lenL τ16),oD 18 (.bin .lss τ15 τ17)]
def k66_5 : VC := .cond τ18 .skip (.exit 0)
def k66_6 : VC := .seq k66_4 k66_5
def k66_7 : VC := .reg [oM 21 τ0,oM 22 τ7,oD 23 (.idxAL 7 τ21 τ22),oD 24 (.fieldA 0 τ23),oD 25 (.load1 (.int .i64) τ24)]
def k66_8 : VC := .reg [oD 27 (.bin .eql τ25 (.const (.int .i64 0))),oM 26 τ27]
def k66_9 : VC := .regD [oM 28 τ4,oM 29 τ0,oM 30 τ7,oD 31 (.idxAL 7 τ29 τ30),oD 32 (.fieldA 2 τ31),oD 33 (.load1 (.int .i64) τ32),oM 34 τ0,oM 35 τ7,oD 36 (.idxAL 7 τ34 τ35),oD 37 (.fieldA 3 τ36),oD 38 (.loadN [.bool, (.int .u64), (.int .u64)] τ37)] [] [oD 39 (.callF 26 [τ28, τ33, τ38])]
def k66_10 : VC := .regD [oM 40 τ6,oM 41 τ0,oM 42 τ7,oD 43 (.idxAL 7 τ41 τ42),oD 44 (.fieldA 2 τ43),oD 45 (.load1 (.int .i64) τ44),oM 46 τ0,oM 47 τ7,oD 48 (.idxAL 7 τ46 τ47),oD 49 (.fieldA 3 τ48),oD 50 (.loadN [.bool, (.int .u64), (.int .u64)] τ49)] [] [oD 51 (.callF 75 [τ40, τ45, τ50])]
def k66_11 : VC := .seq k66_9 k66_10
def k66_12 : VC := .reg [oD 53 (.bin .eql τ25 (.const (.int .i64 1))),oM 52 τ53]
def k66_13 : VC := .reg [oM 54 τ4,oM 55 τ0,oM 56 τ7,oD 57 (.idxAL 7 τ55 τ56),oD 58 (.fieldA 1 τ57),oD 59 (.load1 (.int .i64) τ58),oD 60 (.callF 27 [τ54, τ59])]
def k66_14 : VC := .reg [oM 61 τ6,oM 62 τ0,oM 63 τ7,oD 64 (.idxAL 7 τ62 τ63),oD 65 (.fieldA 1 τ64),oD 66 (.load1 (.int .i64) τ65),oD 67 (.callF 76 [τ61, τ66])]
def k66_15 : VC := .seq k66_13 k66_14
def k66_16 : VC := .reg [oD 69 (.bin .eql τ25 (.const (.int .i64 2))),oM 68 τ69]
def k66_17 : VC := .regD [oM 70 τ4,oM 71 τ0,oM 72 τ7,oD 73 (.idxAL 7 τ71 τ72),oD 74 (.fieldA 1 τ73),oD 75 (.load1 (.int .i64) τ74),oM 76 τ0,oM 77 τ7,oD 78 (.idxAL 7 τ76 τ77),oD 79 (.fieldA 6 τ78),oD 80 (.load1 .bool τ79)] [] [oD 81 (.callF 28 [τ70, τ75, τ80])]
def k66_18 : VC := .regD [oM 82 τ6,oM 83 τ0,oM 84 τ7,oD 85 (.idxAL 7 τ83 τ84),oD 86 (.fieldA 1 τ85),oD 87 (.load1 (.int .i64) τ86),oM 88 τ0,oM 89 τ7,oD 90 (.idxAL 7 τ88 τ89),oD 91 (.fieldA 6 τ90),oD 92 (.load1 .bool τ91)] [] [oD 93 (.callF 77 [τ82, τ87, τ92])]
def k66_19 : VC := .seq k66_17 k66_18
def k66_20 : VC := .cond τ68 k66_19 .skip
def k66_21 : VC := .seq k66_16 k66_20
def k66_22 : VC := .cond τ52 k66_15 k66_21
def k66_23 : VC := .seq k66_12 k66_22
def k66_24 : VC := .cond τ26 k66_11 k66_23
def k66_25 : VC := .seq k66_8 k66_24
def k66_26 : VC := .block 2 k66_25
def k66_27 : VC := .seq k66_7 k66_26
def k66_28 : VC := .block 1 k66_27
def k66_29 : VC := .reg [oM 19 τ7,oD 20 (.bin .add τ19 (.const (.int .i64 1))),oM 7 τ20]
def k66_30 : VC := .seq k66_28 k66_29
def k66_31 : VC := .seq k66_6 k66_30
def k66_32 : VC := .loop k66_31
def k66_33 : VC := .block 0 k66_32
def k66_34 : VC := .seq k66_3 k66_33
def k66_35 : VC := .reg [oM 94 τ4,oM 95 τ6,oM 2 τ94,oM 3 τ95]
def k66_36 : VC := .seq k66_35 .ret
def k66_37 : VC := .seq k66_34 k66_36
def k66_38 : VC := .seq k66_2 k66_37
def k66_39 : VC := .seq k66_1 k66_38
def k66_40 : VC := .seq k66_0 k66_39
def fn66 : VFn := ⟨96, k66_40, [.tmp 2, .tmp 3]⟩
def k16_0 : VC := .reg [oD 1 (.box τ0),oD 2 (.mv (.const (.pointer none))),oD 3 (.mv (.const (.int .i64 0)))]
def k16_1 : VC := .reg [oD 4 (.loadN [(.int .i64), (.int .i64)] τ1),oD 5 (.callF 69 [τ4]),oD 6 (.not τ5)]
def k16_2 : VC := .reg [oD 2 (.mv (.const (.pointer none))),oD 3 (.mv (.const (.int .i64 1)))]
def k16_3 : VC := .seq k16_2 .ret
def k16_4 : VC := .cond τ6 k16_3 .skip
def k16_5 : VC := .seq k16_1 k16_4
def k16_6 : VC := .reg [oD 7 (.loadN [(.int .i64), (.int .i64)] τ1),oD 8 (.build [(.int .i64 0), (.int .i64 0), (.slice none 0 0), (.int .i64 0), (.int .i64 0)] [(0, 2, τ7)]),oD 9 (.box τ8),oM 2 τ9,oD 3 (.mv (.const (.int .i64 0)))]
def k16_7 : VC := .seq k16_6 .ret
def k16_8 : VC := .seq k16_5 k16_7
def k16_9 : VC := .seq k16_0 k16_8
def fn16 : VFn := ⟨10, k16_9, [.tmp 2, .tmp 3]⟩
def k17_0 : VC := .reg [oD 1 (.box τ0),oD 2 (.mv (.const (.pointer none)))]
def k17_1 : VC := .reg [oD 3 (.loadN [(.int .i64), (.int .i64)] τ1),oD 4 (.callF 25 [τ3]),oD 5 (.not τ4)]
def k17_2 : VC := .reg [oD 2 (.mv (.const (.pointer none)))]
def k17_3 : VC := .seq k17_2 .ret
def k17_4 : VC := .cond τ5 k17_3 .skip
def k17_5 : VC := .seq k17_1 k17_4
def k17_6 : VC := .reg [oD 6 (.loadN [(.int .i64), (.int .i64)] τ1),oD 7 (.build [(.int .i64 0), (.int .i64 0), (.slice none 0 0), (.int .i64 0), (.int .i64 0)] [(0, 2, τ6)]),oD 8 (.box τ7),oM 2 τ8]
def k17_7 : VC := .seq k17_6 .ret
def k17_8 : VC := .seq k17_5 k17_7
def k17_9 : VC := .seq k17_0 k17_8
def fn17 : VFn := ⟨9, k17_9, [.tmp 2]⟩
def k25_0 : VC := .reg [oD 1 (.box τ0),oD 2 (.mv (.const (.bool false)))]
def k25_1 : VC := .reg [oD 3 (.fieldA 0 τ1),oD 4 (.load1 (.int .i64) τ3),oD 5 (.bin .geq τ4 (.const (.int .i64 1))),oM 6 τ5,oG 7 (.fieldA 0 τ1) 6 true,oG 8 (.load1 (.int .i64) τ7) 6 true,oG 9 (.bin .leq τ8 (.const (.int .i64 100))) 6 true,oD 10 (.pick τ6 τ9 (.const (.bool false))),oM 11 τ10,oG 12 (.fieldA 1 τ1) 11 true,oG 13 (.load1 (.int .i64) τ12) 11 true,oG 14 (.bin .geq τ13 (.const (.int .i64 1))) 11 true,oD 15 (.pick τ11 τ14 (.const (.bool false))),oM 16 τ15,oG 17 (.fieldA 1 τ1) 16 true,oG 18 (.load1 (.int .i64) τ17) 16 true,oG 19 (.bin .leq τ18 (.const (.int .i64 100))) 16 true,oD 20 (.pick τ16 τ19 (.const (.bool false))),oM 2 τ20]
def k25_2 : VC := .seq k25_1 .ret
def k25_3 : VC := .seq k25_0 k25_2
def fn25 : VFn := ⟨21, k25_3, [.tmp 2]⟩
def k26_0 : VC := .reg [oD 5 (.box τ2),oD 6 (.mv (.const (.int .i64 0))),oD 7 (.mv (.const (.int .i64 0)))]
def k26_1 : VC := .reg [oM 9 τ0,oD 10 (.callF 70 [τ9]),oD 11 (.not τ10),oM 12 τ11,oG 13 (.mv τ1) 12 false,oG 14 (.callF 81 [τ13]) 12 false,oG 15 (.not τ14) 12 false,oD 16 (.pick τ12 (.const (.bool true)) τ15),oM 17 τ16,oG 18 (.loadN [.bool, (.int .u64), (.int .u64)] τ5) 17 false,oG 19 (.callF 82 [τ18]) 17 false,oG 20 (.not τ19) 17 false,oD 21 (.pick τ17 (.const (.bool true)) τ20),oM 8 τ21]
def k26_2 : VC := .reg [oD 6 (.mv (.const (.int .i64 0))),oD 7 (.mv (.const (.int .i64 1)))]
def k26_3 : VC := .seq k26_2 .ret
def k26_4 : VC := .reg [oM 23 τ0,oD 24 (.nilCheck τ23),oD 25 (.fieldA 2 τ24),oD 26 (.load1 .oth τ25),oD 27 (.lenL τ26),oD 28 (.bin .eql τ27 (.const (.int .i64 64))),oM 29 τ28,oG 30 (.mv τ0) 29 false,oG 31 (.nilCheck τ30) 29 false,oG 32 (.fieldA 3 τ31) 29 false,oG 33 (.load1 (.int .i64) τ32) 29 false,oG 34 (.bin .eql τ33 (.const (.int .i64 65535))) 29 false,oD 35 (.pick τ29 (.const (.bool true)) τ34),oM 22 τ35]
def k26_5 : VC := .reg [oD 6 (.mv (.const (.int .i64 0))),oD 7 (.mv (.const (.int .i64 9)))]
def k26_6 : VC := .seq k26_5 .ret
def k26_7 : VC := .cond τ22 k26_6 .skip
def k26_8 : VC := .seq k26_4 k26_7
def k26_9 : VC := .cond τ8 k26_3 k26_8
def k26_10 : VC := .seq k26_1 k26_9
def k26_11 : VC := .block 0 k26_10
def k26_12 : VC := .reg [oM 36 τ0,oD 37 (.nilCheck τ36),oD 38 (.fieldA 3 τ37),oD 39 (.load1 (.int .i64) τ38),oD 40 (.bin .add τ39 (.const (.int .i64 1))),oD 41 (.nilCheck τ36),oD 42 (.fieldA 3 τ41),oN (.store 1 τ42 τ40)]
def k26_13 : VC := .reg [oM 43 τ0,oD 44 (.nilCheck τ43),oD 45 (.fieldA 4 τ44),oD 46 (.load1 (.int .i64) τ45),oD 47 (.bin .add τ46 (.const (.int .i64 1))),oD 48 (.nilCheck τ43),oD 49 (.fieldA 4 τ48),oN (.store 1 τ49 τ47)]
def k26_14 : VC := .regD [oM 50 τ0,oM 51 τ0,oD 52 (.nilCheck τ51),oD 53 (.fieldA 2 τ52),oD 54 (.load1 .oth τ53),oM 55 τ0,oD 56 (.nilCheck τ55),oD 57 (.fieldA 3 τ56),oD 58 (.load1 (.int .i64) τ57),oM 59 τ1,oD 60 (.loadN [.bool, (.int .u64), (.int .u64)] τ5),oD 61 (.build [(.int .i64 0), (.int .i64 0), (.int .i64 0), (.bool false), (.int .u64 0), (.int .u64 0)] [(0, 1, τ58), (1, 1, τ59), (3, 3, τ60)]),oD 62 (.build [(.bool false), (.int .i64 0)] [(0, 1, (.const (.bool true)))]),oD 63 (.build [(.int .i64 0), (.int .i64 0), (.int .i64 0), (.bool false), (.int .u64 0), (.int .u64 0), (.bool false), (.bool false), (.int .i64 0)] [(0, 6, τ61), (7, 2, τ62)]),oD 64 (.buildSl 1 9 [(.int .i64 0), (.int .i64 0), (.int .i64 0), (.bool false), (.int .u64 0), (.int .u64 0), (.bool false), (.bool false), (.int .i64 0)] [(0, 9, τ63)]),oD 65 (.app 130 9 72 τ54 τ64)] [(4, 14)] [oD 66 (.nilCheck τ50),oD 67 (.fieldA 2 τ66),oN (.store 1 τ67 τ65)]
def k26_15 : VC := .reg [oM 68 τ0,oD 69 (.nilCheck τ68),oD 70 (.fieldA 3 τ69),oD 71 (.load1 (.int .i64) τ70),oM 6 τ71,oD 7 (.mv (.const (.int .i64 0)))]
def k26_16 : VC := .seq k26_15 .ret
def k26_17 : VC := .seq k26_14 k26_16
def k26_18 : VC := .seq k26_13 k26_17
def k26_19 : VC := .seq k26_12 k26_18
def k26_20 : VC := .seq k26_11 k26_19
def k26_21 : VC := .seq k26_0 k26_20
def fn26 : VFn := ⟨72, k26_21, [.tmp 6, .tmp 7]⟩
def k81_0 : VC := .reg [oD 2 (.mv (.const (.bool false)))]
def k81_1 : VC := .reg [oM 3 τ0,oD 4 (.bin .leq (.const (.int .i64 0)) τ3),oM 5 τ4,oG 6 (.mv τ0) 5 true,oG 7 (.bin .leq τ6 (.const (.int .i64 1000))) 5 true,oD 8 (.pick τ5 τ7 (.const (.bool false))),oM 2 τ8]
def k81_2 : VC := .seq k81_1 .ret
def k81_3 : VC := .seq k81_0 k81_2
def fn81 : VFn := ⟨9, k81_3, [.tmp 2]⟩
def k75_0 : VC := .reg [oD 5 (.box τ2),oD 6 (.mv (.const (.int .i64 0))),oD 7 (.mv (.const (.int .i64 0)))]
def k75_1 : VC := .reg [oM 8 τ1,oD 9 (.callF 124 [τ8]),oD 10 (.not τ9),oM 11 τ10,oG 12 (.loadN [.bool, (.int .u64), (.int .u64)] τ5) 11 false,oG 13 (.callF 115 [τ12]) 11 false,oG 14 (.not τ13) 11 false,oD 15 (.pick τ11 (.const (.bool true)) τ14)]
def k75_2 : VC := .reg [oD 6 (.mv (.const (.int .i64 0))),oD 7 (.mv (.const (.int .i64 1)))]
def k75_3 : VC := .seq k75_2 .ret
def k75_4 : VC := .cond τ15 k75_3 .skip
def k75_5 : VC := .seq k75_1 k75_4
def k75_6 : VC := .reg [oM 16 τ0,oD 17 (.nilCheck τ16),oD 18 (.fieldA 2 τ17),oD 19 (.load1 .oth τ18),oD 20 (.lenL τ19),oD 21 (.bin .geq τ20 (.const (.int .i64 64))),oM 22 τ21,oG 23 (.mv τ0) 22 false,oG 24 (.nilCheck τ23) 22 false,oG 25 (.fieldA 3 τ24) 22 false,oG 26 (.load1 (.int .i64) τ25) 22 false,oG 27 (.bin .geq τ26 (.const (.int .i64 65535))) 22 false,oD 28 (.pick τ22 (.const (.bool true)) τ27)]
def k75_7 : VC := .reg [oD 6 (.mv (.const (.int .i64 0))),oD 7 (.mv (.const (.int .i64 9)))]
def k75_8 : VC := .seq k75_7 .ret
def k75_9 : VC := .cond τ28 k75_8 .skip
def k75_10 : VC := .seq k75_6 k75_9
def k75_11 : VC := .reg [oM 29 τ0,oD 30 (.nilCheck τ29),oD 31 (.fieldA 3 τ30),oD 32 (.load1 (.int .i64) τ31),oD 33 (.bin .add τ32 (.const (.int .i64 1))),oD 34 (.nilCheck τ29),oD 35 (.fieldA 3 τ34),oN (.store 1 τ35 τ33)]
def k75_12 : VC := .reg [oM 36 τ0,oD 37 (.nilCheck τ36),oD 38 (.fieldA 4 τ37),oD 39 (.load1 (.int .i64) τ38),oD 40 (.bin .add τ39 (.const (.int .i64 1))),oD 41 (.nilCheck τ36),oD 42 (.fieldA 4 τ41),oN (.store 1 τ42 τ40)]
def k75_13 : VC := .regD [oM 43 τ0,oM 44 τ0,oD 45 (.nilCheck τ44),oD 46 (.fieldA 2 τ45),oD 47 (.load1 .oth τ46),oM 48 τ0,oD 49 (.nilCheck τ48),oD 50 (.fieldA 3 τ49),oD 51 (.load1 (.int .i64) τ50),oM 52 τ1,oD 53 (.loadN [.bool, (.int .u64), (.int .u64)] τ5),oD 54 (.build [(.bool false), (.int .i64 0)] [(0, 1, (.const (.bool true)))]),oD 55 (.build [(.int .i64 0), (.int .i64 0), (.bool false), (.int .u64 0), (.int .u64 0), (.bool false), (.bool false), (.int .i64 0)] [(0, 1, τ51), (1, 1, τ52), (2, 3, τ53), (6, 2, τ54)]),oD 56 (.buildSl 1 8 [(.int .i64 0), (.int .i64 0), (.bool false), (.int .u64 0), (.int .u64 0), (.bool false), (.bool false), (.int .i64 0)] [(0, 8, τ55)]),oD 57 (.app 136 8 64 τ47 τ56)] [(4, 13)] [oD 58 (.nilCheck τ43),oD 59 (.fieldA 2 τ58),oN (.store 1 τ59 τ57)]
def k75_14 : VC := .reg [oM 60 τ0,oD 61 (.nilCheck τ60),oD 62 (.fieldA 3 τ61),oD 63 (.load1 (.int .i64) τ62),oM 6 τ63,oD 7 (.mv (.const (.int .i64 0)))]
def k75_15 : VC := .seq k75_14 .ret
def k75_16 : VC := .seq k75_13 k75_15
def k75_17 : VC := .seq k75_12 k75_16
def k75_18 : VC := .seq k75_11 k75_17
def k75_19 : VC := .seq k75_10 k75_18
def k75_20 : VC := .seq k75_5 k75_19
def k75_21 : VC := .seq k75_0 k75_20
def fn75 : VFn := ⟨64, k75_21, [.tmp 6, .tmp 7]⟩
def k124_0 : VC := .reg [oD 2 (.mv (.const (.bool false)))]
def k124_1 : VC := .reg [oM 3 τ0,oD 4 (.bin .geq τ3 (.const (.int .i64 0))),oM 5 τ4,oG 6 (.mv τ0) 5 true,oG 7 (.bin .leq τ6 (.const (.int .i64 1000))) 5 true,oD 8 (.pick τ5 τ7 (.const (.bool false))),oM 2 τ8]
def k124_2 : VC := .seq k124_1 .ret
def k124_3 : VC := .seq k124_0 k124_2
def fn124 : VFn := ⟨9, k124_3, [.tmp 2]⟩
def k27_0 : VC := .reg [oD 3 (.box τ1),oD 4 (.mv (.const (.int .i64 0)))]
def k27_1 : VC := .reg [oM 6 τ0,oD 7 (.load1 (.int .i64) τ3),oD 8 (.callF 83 [τ6, τ7, (.func 84)]),oM 5 τ8]
def k27_2 : VC := .reg [oM 9 τ5,oD 10 (.bin .eql τ9 (.const (.int .i64 0)))]
def k27_3 : VC := .reg [oM 11 τ0,oM 12 τ0,oD 13 (.nilCheck τ12),oD 14 (.fieldA 2 τ13),oD 15 (.load1 .oth τ14),oD 16 (.mkFunc 86 [] [τ3]),oD 17 (.callF 85 [τ15, τ16]),oD 18 (.nilCheck τ11),oD 19 (.fieldA 2 τ18),oN (.store 1 τ19 τ17)]
def k27_4 : VC := .cond τ10 k27_3 .skip
def k27_5 : VC := .seq k27_2 k27_4
def k27_6 : VC := .reg [oM 20 τ5,oM 4 τ20]
def k27_7 : VC := .seq k27_6 .ret
def k27_8 : VC := .seq k27_5 k27_7
def k27_9 : VC := .seq k27_1 k27_8
def k27_10 : VC := .seq k27_0 k27_9
def fn27 : VFn := ⟨21, k27_10, [.tmp 4]⟩
def k83_0 : VC := .reg [oD 6 (.mv (.const (.int .i64 0)))]
def k83_1 : VC := .reg [oM 10 τ0,oD 11 (.callF 70 [τ10]),oD 12 (.not τ11)]
def k83_2 : VC := .reg [oD 6 (.mv (.const (.int .i64 1)))]
def k83_3 : VC := .seq k83_2 .ret
def k83_4 : VC := .cond τ12 k83_3 .skip
def k83_5 : VC := .seq k83_1 k83_4
def k83_6 : VC := .reg [oM 14 τ0,oM 15 τ1,oD 16 (.callF 71 [τ14, τ15]),oM 13 τ16,oE 17 0 τ13,oE 18 1 τ13,oM 7 τ17,oM 8 τ18]
def k83_7 : VC := .reg [oM 19 τ8,oD 20 (.not τ19)]
def k83_8 : VC := .reg [oD 6 (.mv (.const (.int .i64 13)))]
def k83_9 : VC := .seq k83_8 .ret
def k83_10 : VC := .cond τ20 k83_9 .skip
def k83_11 : VC := .seq k83_7 k83_10
def k83_12 : VC := .reg [oM 21 τ2,oM 22 τ0,oD 23 (.nilCheck τ22),oD 24 (.fieldA 2 τ23),oD 25 (.load1 .oth τ24),oM 26 τ7,oD 27 (.idxAL 9 τ25 τ26),oD 28 (.callV τ21 [τ27]),oM 9 τ28]
def k83_13 : VC := .reg [oM 29 τ9,oD 30 (.bin .eql τ29 (.const (.int .i64 0)))]
def k83_14 : VC := .reg [oM 31 τ0,oD 32 (.nilCheck τ31),oD 33 (.fieldA 4 τ32),oD 34 (.load1 (.int .i64) τ33),oD 35 (.bin .add τ34 (.const (.int .i64 1))),oD 36 (.nilCheck τ31),oD 37 (.fieldA 4 τ36),oN (.store 1 τ37 τ35)]
def k83_15 : VC := .cond τ30 k83_14 .skip
def k83_16 : VC := .seq k83_13 k83_15
def k83_17 : VC := .reg [oM 38 τ9,oM 6 τ38]
def k83_18 : VC := .seq k83_17 .ret
def k83_19 : VC := .seq k83_16 k83_18
def k83_20 : VC := .seq k83_12 k83_19
def k83_21 : VC := .seq k83_11 k83_20
def k83_22 : VC := .seq k83_6 k83_21
def k83_23 : VC := .seq k83_5 k83_22
def k83_24 : VC := .seq k83_0 k83_23
def fn83 : VFn := ⟨39, k83_24, [.tmp 6]⟩
def k84_0 : VC := .reg [oD 2 (.mv (.const (.int .i64 0)))]
def k84_1 : VC := .reg [oD 2 (.mv (.const (.int .i64 0)))]
def k84_2 : VC := .seq k84_1 .ret
def k84_3 : VC := .seq k84_0 k84_2
def fn84 : VFn := ⟨3, k84_3, [.tmp 2]⟩
def k86_0 : VC := .reg [oD 2 (.box τ0),oD 3 (.mv (.const (.bool false)))]
def k86_1 : VC := .reg [oD 4 (.fieldA 0 τ2),oD 5 (.fieldA 0 τ4),oD 6 (.load1 (.int .i64) τ5),oD 7 (.load1 (.int .i64) τ1),oD 8 (.bin .eql τ6 τ7),oM 3 τ8]
def k86_2 : VC := .seq k86_1 .ret
def k86_3 : VC := .seq k86_0 k86_2
def fn86 : VFn := ⟨9, k86_3, [.tmp 3]⟩
def k85_0 : VC := .reg [oD 4 (.mv (.const (.slice none 0 0)))]
def k85_1 : VC := .reg [oM 8 τ0,oM 9 τ1,oD 10 (.callF 127 [τ8, τ9]),oM 5 τ10]
def k85_2 : VC := .reg [oM 11 τ5,oD 12 (.bin .eql τ11 (.const (.int .i64 (-1))))]
def k85_3 : VC := .reg [oM 13 τ0,oM 4 τ13]
def k85_4 : VC := .seq k85_3 .ret
def k85_5 : VC := .cond τ12 k85_4 .skip
def k85_6 : VC := .seq k85_2 k85_5
def k85_7 : VC := .reg [oM 14 τ5,oD 15 (.bin .add τ14 (.const (.int .i64 1))),oM 6 τ15]
def k85_8 : VC := .reg [oM 16 τ6,oM 17 τ0,oD 18 (.lenL τ17),oD 19 (.bin .lss τ16 τ18)]
def k85_9 : VC := .cond τ19 .skip (.exit 0)
def k85_10 : VC := .seq k85_8 k85_9
def k85_11 : VC := .reg [oM 22 τ0,oM 23 τ6,oD 24 (.idxAL 9 τ22 τ23),oD 25 (.loadN [(.int .i64), (.int .i64), (.int .i64), .bool, (.int .u64), (.int .u64), .bool, .bool, (.int .i64)] τ24),oD 7 (.alloc [(.int .i64 0), (.int .i64 0), (.int .i64 0), (.bool false), (.int .u64 0), (.int .u64 0), (.bool false), (.bool false), (.int .i64 0)]),oN (.store 9 τ7 τ25)]
def k85_12 : VC := .reg [oM 26 τ1,oD 27 (.loadN [(.int .i64), (.int .i64), (.int .i64), .bool, (.int .u64), (.int .u64), .bool, .bool, (.int .i64)] τ7),oD 28 (.callV τ26 [τ27]),oD 29 (.not τ28)]
def k85_13 : VC := .reg [oM 30 τ0,oM 31 τ5,oD 32 (.loadN [(.int .i64), (.int .i64), (.int .i64), .bool, (.int .u64), (.int .u64), .bool, .bool, (.int .i64)] τ7),oD 33 (.idxAL 9 τ30 τ31),oN (.store 9 τ33 τ32)]
def k85_14 : VC := .reg [oM 34 τ5,oD 35 (.bin .add τ34 (.const (.int .i64 1))),oM 5 τ35]
def k85_15 : VC := .seq k85_13 k85_14
def k85_16 : VC := .cond τ29 k85_15 .skip
def k85_17 : VC := .seq k85_12 k85_16
def k85_18 : VC := .seq k85_11 k85_17
def k85_19 : VC := .block 1 k85_18
def k85_20 : VC := .reg [oM 20 τ6,oD 21 (.bin .add τ20 (.const (.int .i64 1))),oM 6 τ21]
def k85_21 : VC := .seq k85_19 k85_20
def k85_22 : VC := .seq k85_10 k85_21
def k85_23 : VC := .loop k85_22
def k85_24 : VC := .block 0 k85_23
def k85_25 : VC := .seq k85_7 k85_24
def k85_26 : VC := .reg [oM 36 τ0,oM 37 τ5,oD 38 (.sliceL 9 τ36 (some τ37) none),oN (.clr 9 τ38)]
def k85_27 : VC := .reg [oM 39 τ0,oM 40 τ5,oD 41 (.sliceL 9 τ39 none (some τ40)),oM 4 τ41]
def k85_28 : VC := .seq k85_27 .ret
def k85_29 : VC := .seq k85_26 k85_28
def k85_30 : VC := .seq k85_25 k85_29
def k85_31 : VC := .seq k85_6 k85_30
def k85_32 : VC := .seq k85_1 k85_31
def k85_33 : VC := .seq k85_0 k85_32
def fn85 : VFn := ⟨42, k85_33, [.tmp 4]⟩
def k127_0 : VC := .reg [oD 4 (.mv (.const (.int .i64 0)))]
def k127_1 : VC := .reg [oM 6 τ0,oD 7 (.lenL τ6),oD 8 (.mv (.const (.int .i64 0)))]
def k127_2 : VC := .reg [oD 9 (.bin .lss τ8 τ7)]
def k127_3 : VC := .cond τ9 .skip (.exit 0)
def k127_4 : VC := .reg [oM 10 τ8,oM 5 τ10]
def k127_5 : VC := .reg [oM 11 τ1,oM 12 τ0,oM 13 τ5,oD 14 (.idxAL 9 τ12 τ13),oD 15 (.loadN [(.int .i64), (.int .i64), (.int .i64), .bool, (.int .u64), (.int .u64), .bool, .bool, (.int .i64)] τ14),oD 16 (.callV τ11 [τ15])]
def k127_6 : VC := .reg [oM 17 τ5,oM 4 τ17]
def k127_7 : VC := .seq k127_6 .ret
def k127_8 : VC := .cond τ16 k127_7 .skip
def k127_9 : VC := .seq k127_5 k127_8
def k127_10 : VC := .seq k127_4 k127_9
def k127_11 : VC := .block 1 k127_10
def k127_12 : VC := .reg [oD 18 (.bin .add τ8 (.const (.int .i64 1))),oM 8 τ18]
def k127_13 : VC := .seq k127_11 k127_12
def k127_14 : VC := .seq k127_3 k127_13
def k127_15 : VC := .seq k127_2 k127_14
def k127_16 : VC := .loop k127_15
def k127_17 : VC := .block 0 k127_16
def k127_18 : VC := .seq k127_1 k127_17
def k127_19 : VC := .reg [oD 4 (.mv (.const (.int .i64 (-1))))]
def k127_20 : VC := .seq k127_19 .ret
def k127_21 : VC := .seq k127_18 k127_20
def k127_22 : VC := .seq k127_0 k127_21
def fn127 : VFn := ⟨19, k127_22, [.tmp 4]⟩
def k76_0 : VC := .reg [oD 4 (.mv (.const (.int .i64 0)))]
def k76_1 : VC := .reg [oM 7 τ0,oM 8 τ1,oD 9 (.callF 73 [τ7, τ8]),oM 5 τ9]
def k76_2 : VC := .reg [oM 10 τ5,oD 11 (.bin .lss τ10 (.const (.int .i64 0)))]
def k76_3 : VC := .reg [oD 4 (.mv (.const (.int .i64 13)))]
def k76_4 : VC := .seq k76_3 .ret
def k76_5 : VC := .cond τ11 k76_4 .skip
def k76_6 : VC := .seq k76_2 k76_5
def k76_7 : VC := .reg [oD 6 (.mv (.const (.slice none 0 0)))]
def k76_8 : VC := .reg [oM 12 τ6,oM 13 τ0,oD 14 (.nilCheck τ13),oD 15 (.fieldA 2 τ14),oD 16 (.load1 .oth τ15),oM 17 τ5,oD 18 (.sliceL 8 τ16 none (some τ17)),oD 19 (.app 136 8 64 τ12 τ18),oM 6 τ19]
def k76_9 : VC := .reg [oM 20 τ0,oM 21 τ6,oM 22 τ0,oD 23 (.nilCheck τ22),oD 24 (.fieldA 2 τ23),oD 25 (.load1 .oth τ24),oM 26 τ5,oD 27 (.bin .add τ26 (.const (.int .i64 1))),oD 28 (.sliceL 8 τ25 (some τ27) none),oD 29 (.app 136 8 64 τ21 τ28),oD 30 (.nilCheck τ20),oD 31 (.fieldA 2 τ30),oN (.store 1 τ31 τ29)]
def k76_10 : VC := .reg [oM 32 τ0,oD 33 (.nilCheck τ32),oD 34 (.fieldA 4 τ33),oD 35 (.load1 (.int .i64) τ34),oD 36 (.bin .add τ35 (.const (.int .i64 1))),oD 37 (.nilCheck τ32),oD 38 (.fieldA 4 τ37),oN (.store 1 τ38 τ36)]
def k76_11 : VC := .reg [oD 4 (.mv (.const (.int .i64 0)))]
def k76_12 : VC := .seq k76_11 .ret
def k76_13 : VC := .seq k76_10 k76_12
def k76_14 : VC := .seq k76_9 k76_13
def k76_15 : VC := .seq k76_8 k76_14
def k76_16 : VC := .seq k76_7 k76_15
def k76_17 : VC := .seq k76_6 k76_16
def k76_18 : VC := .seq k76_1 k76_17
def k76_19 : VC := .seq k76_0 k76_18
def fn76 : VFn := ⟨39, k76_19, [.tmp 4]⟩
def k73_0 : VC := .reg [oD 4 (.mv (.const (.int .i64 0)))]
def k73_1 : VC := .reg [oD 5 (.mv (.const (.int .i64 0)))]
def k73_2 : VC := .reg [oM 6 τ5,oM 7 τ0,oD 8 (.nilCheck τ7),oD 9 (.fieldA 2 τ8),oD 10 (.load1 .oth τ9),oD 11 (.lenL τ10),oD 12 (.bin .lss τ6 τ11)]
def k73_3 : VC := .cond τ12 .skip (.exit 0)
def k73_4 : VC := .seq k73_2 k73_3
def k73_5 : VC := .reg [oM 15 τ0,oD 16 (.nilCheck τ15),oD 17 (.fieldA 2 τ16),oD 18 (.load1 .oth τ17),oM 19 τ5,oD 20 (.idxAL 8 τ18 τ19),oD 21 (.fieldA 0 τ20),oD 22 (.load1 (.int .i64) τ21),oM 23 τ1,oD 24 (.bin .eql τ22 τ23)]
def k73_6 : VC := .reg [oM 25 τ5,oM 4 τ25]
def k73_7 : VC := .seq k73_6 .ret
def k73_8 : VC := .cond τ24 k73_7 .skip
def k73_9 : VC := .seq k73_5 k73_8
def k73_10 : VC := .block 1 k73_9
def k73_11 : VC := .reg [oM 13 τ5,oD 14 (.bin .add τ13 (.const (.int .i64 1))),oM 5 τ14]
def k73_12 : VC := .seq k73_10 k73_11
def k73_13 : VC := .seq k73_4 k73_12
def k73_14 : VC := .loop k73_13
def k73_15 : VC := .block 0 k73_14
def k73_16 : VC := .seq k73_1 k73_15
def k73_17 : VC := .reg [oD 4 (.mv (.const (.int .i64 (-1))))]
def k73_18 : VC := .seq k73_17 .ret
def k73_19 : VC := .seq k73_16 k73_18
def k73_20 : VC := .seq k73_0 k73_19
def fn73 : VFn := ⟨26, k73_20, [.tmp 4]⟩
def k28_0 : VC := .reg [oD 5 (.box τ2),oD 6 (.mv (.const (.int .i64 0)))]
def k28_1 : VC := .reg [oM 7 τ0,oM 8 τ1,oD 9 (.mkFunc 87 [] [τ5]),oD 10 (.callF 83 [τ7, τ8, τ9]),oM 6 τ10]
def k28_2 : VC := .seq k28_1 .ret
def k28_3 : VC := .seq k28_0 k28_2
def fn28 : VFn := ⟨11, k28_3, [.tmp 6]⟩
def k87_0 : VC := .reg [oD 3 (.mv (.const (.int .i64 0)))]
def k87_1 : VC := .regD [oM 4 τ0,oD 5 (.nilCheck τ4),oD 6 (.fieldA 6 τ5),oD 7 (.load1 .bool τ6),oD 8 (.load1 .bool τ1)] [] [oD 9 (.eqB false τ7 τ8)]
def k87_2 : VC := .reg [oD 3 (.mv (.const (.int .i64 11)))]
def k87_3 : VC := .seq k87_2 .ret
def k87_4 : VC := .cond τ9 k87_3 .skip
def k87_5 : VC := .seq k87_1 k87_4
def k87_6 : VC := .reg [oM 10 τ0,oD 11 (.load1 .bool τ1),oD 12 (.nilCheck τ10),oD 13 (.fieldA 6 τ12),oN (.store 1 τ13 τ11)]
def k87_7 : VC := .reg [oD 3 (.mv (.const (.int .i64 0)))]
def k87_8 : VC := .seq k87_7 .ret
def k87_9 : VC := .seq k87_6 k87_8
def k87_10 : VC := .seq k87_5 k87_9
def k87_11 : VC := .seq k87_0 k87_10
def fn87 : VFn := ⟨14, k87_11, [.tmp 3]⟩
def k77_0 : VC := .reg [oD 6 (.mv (.const (.int .i64 0)))]
def k77_1 : VC := .reg [oM 9 τ0,oM 10 τ1,oD 11 (.callF 73 [τ9, τ10]),oM 7 τ11]
def k77_2 : VC := .reg [oM 12 τ7,oD 13 (.bin .lss τ12 (.const (.int .i64 0)))]
def k77_3 : VC := .reg [oD 6 (.mv (.const (.int .i64 13)))]
def k77_4 : VC := .seq k77_3 .ret
def k77_5 : VC := .cond τ13 k77_4 .skip
def k77_6 : VC := .seq k77_2 k77_5
def k77_7 : VC := .reg [oM 14 τ0,oD 15 (.nilCheck τ14),oD 16 (.fieldA 2 τ15),oD 17 (.load1 .oth τ16),oM 18 τ7,oD 19 (.idxAL 8 τ17 τ18),oD 20 (.loadN [(.int .i64), (.int .i64), .bool, (.int .u64), (.int .u64), .bool, .bool, (.int .i64)] τ19),oD 8 (.alloc [(.int .i64 0), (.int .i64 0), (.bool false), (.int .u64 0), (.int .u64 0), (.bool false), (.bool false), (.int .i64 0)]),oN (.store 8 τ8 τ20)]
def k77_8 : VC := .reg [oD 21 (.fieldA 5 τ8),oD 22 (.load1 .bool τ21),oM 23 τ2,oD 24 (.eqB false τ22 τ23)]
def k77_9 : VC := .reg [oD 6 (.mv (.const (.int .i64 11)))]
def k77_10 : VC := .seq k77_9 .ret
def k77_11 : VC := .cond τ24 k77_10 .skip
def k77_12 : VC := .seq k77_8 k77_11
def k77_13 : VC := .reg [oM 25 τ2,oD 26 (.fieldA 5 τ8),oN (.store 1 τ26 τ25)]
def k77_14 : VC := .reg [oM 27 τ0,oM 28 τ7,oD 29 (.loadN [(.int .i64), (.int .i64), .bool, (.int .u64), (.int .u64), .bool, .bool, (.int .i64)] τ8),oD 30 (.callF 125 [τ27, τ28, τ29])]
def k77_15 : VC := .reg [oD 6 (.mv (.const (.int .i64 0)))]
def k77_16 : VC := .seq k77_15 .ret
def k77_17 : VC := .seq k77_14 k77_16
def k77_18 : VC := .seq k77_13 k77_17
def k77_19 : VC := .seq k77_12 k77_18
def k77_20 : VC := .seq k77_7 k77_19
def k77_21 : VC := .seq k77_6 k77_20
def k77_22 : VC := .seq k77_1 k77_21
def k77_23 : VC := .seq k77_0 k77_22
def fn77 : VFn := ⟨31, k77_23, [.tmp 6]⟩
def k125_0 : VC := .reg [oD 5 (.box τ2)]
def k125_1 : VC := .reg [oD 6 (.mv (.const (.slice none 0 0)))]
def k125_2 : VC := .reg [oD 7 (.mv (.const (.int .i64 0)))]
def k125_3 : VC := .reg [oM 8 τ7,oM 9 τ0,oD 10 (.nilCheck τ9),oD 11 (.fieldA 2 τ10),oD 12 (.load1 .oth τ11),oD 13 (.lenL τ12),oD 14 (.bin .lss τ8 τ13)]
def k125_4 : VC := .cond τ14 .skip (.exit 0)
def k125_5 : VC := .seq k125_3 k125_4
def k125_6 : VC := .reg [oM 17 τ7,oM 18 τ1,oD 19 (.bin .eql τ17 τ18)]
def k125_7 : VC := .reg [oM 20 τ6,oD 21 (.loadN [(.int .i64), (.int .i64), .bool, (.int .u64), (.int .u64), .bool, .bool, (.int .i64)] τ5),oD 22 (.buildSl 1 8 [(.int .i64 0), (.int .i64 0), (.bool false), (.int .u64 0), (.int .u64 0), (.bool false), (.bool false), (.int .i64 0)] [(0, 8, τ21)]),oD 23 (.app 136 8 64 τ20 τ22),oM 6 τ23]
def k125_8 : VC := .reg [oM 24 τ6,oM 25 τ0,oD 26 (.nilCheck τ25),oD 27 (.fieldA 2 τ26),oD 28 (.load1 .oth τ27),oM 29 τ7,oD 30 (.idxAL 8 τ28 τ29),oD 31 (.loadN [(.int .i64), (.int .i64), .bool, (.int .u64), (.int .u64), .bool, .bool, (.int .i64)] τ30),oD 32 (.buildSl 1 8 [(.int .i64 0), (.int .i64 0), (.bool false), (.int .u64 0), (.int .u64 0), (.bool false), (.bool false), (.int .i64 0)] [(0, 8, τ31)]),oD 33 (.app 136 8 64 τ24 τ32),oM 6 τ33]
def k125_9 : VC := .cond τ19 k125_7 k125_8
def k125_10 : VC := .seq k125_6 k125_9
def k125_11 : VC := .block 1 k125_10
def k125_12 : VC := .reg [oM 15 τ7,oD 16 (.bin .add τ15 (.const (.int .i64 1))),oM 7 τ16]
def k125_13 : VC := .seq k125_11 k125_12
def k125_14 : VC := .seq k125_5 k125_13
def k125_15 : VC := .loop k125_14
def k125_16 : VC := .block 0 k125_15
def k125_17 : VC := .seq k125_2 k125_16
def k125_18 : VC := .reg [oM 34 τ0,oM 35 τ6,oD 36 (.nilCheck τ34),oD 37 (.fieldA 2 τ36),oN (.store 1 τ37 τ35)]
def k125_19 : VC := .reg [oM 38 τ0,oD 39 (.nilCheck τ38),oD 40 (.fieldA 4 τ39),oD 41 (.load1 (.int .i64) τ40),oD 42 (.bin .add τ41 (.const (.int .i64 1))),oD 43 (.nilCheck τ38),oD 44 (.fieldA 4 τ43),oN (.store 1 τ44 τ42)]
def k125_20 : VC := .seq k125_18 k125_19
def k125_21 : VC := .seq k125_17 k125_20
def k125_22 : VC := .seq k125_1 k125_21
def k125_23 : VC := .seq k125_0 k125_22
def fn125 : VFn := ⟨45, k125_23, []⟩
def k68_0 : VC := .reg [oD 5 (.box τ1),oD 6 (.box τ2),oD 8 (.alloc [(.int .i64 0), (.int .i64 0), (.int .i64 0), (.bool false), (.int .u64 0), (.int .u64 0)]),oD 9 (.mv (.const (.bool false)))]
def k68_1 : VC := .reg [oD 15 (.loadN [(.int .u64), (.int .u64)] τ5),oD 16 (.loadN [(.int .i64), .bool, (.int .u64), (.int .u64), .bool, (.int .u64), (.int .u64), (.int .i64), (.int .i64)] τ6),oM 17 τ3,oD 18 (.callF 46 [τ15, τ16, τ17]),oM 14 τ18,oE 19 0 τ14,oE 20 1 τ14,oM 10 τ19,oM 11 τ20]
def k68_2 : VC := .reg [oM 21 τ11,oD 22 (.not τ21)]
def k68_3 : VC := .reg [oD 23 (.build [(.int .i64 0), (.int .i64 0), (.int .i64 0), (.bool false), (.int .u64 0), (.int .u64 0)] []),oN (.store 6 τ8 τ23),oD 9 (.mv (.const (.bool false)))]
def k68_4 : VC := .seq k68_3 .ret
def k68_5 : VC := .cond τ22 k68_4 .skip
def k68_6 : VC := .seq k68_2 k68_5
def k68_7 : VC := .reg [oM 25 τ0,oM 26 τ10,oD 27 (.callF 19 [τ25, τ26]),oM 24 τ27,oE 28 0 τ24,oE 29 1 τ24,oD 12 (.alloc [(.int .i64 0), (.int .i64 0), (.int .i64 0), (.bool false), (.int .u64 0), (.int .u64 0)]),oN (.store 6 τ12 τ28),oM 13 τ29]
def k68_8 : VC := .reg [oM 30 τ13,oD 31 (.not τ30),oM 32 τ31,oG 33 (.fieldA 2 τ12) 32 false,oG 34 (.load1 (.int .i64) τ33) 32 false,oG 35 (.bin .eql τ34 (.const (.int .i64 4))) 32 false,oD 36 (.pick τ32 (.const (.bool true)) τ35)]
def k68_9 : VC := .reg [oD 37 (.build [(.int .i64 0), (.int .i64 0), (.int .i64 0), (.bool false), (.int .u64 0), (.int .u64 0)] []),oN (.store 6 τ8 τ37),oD 9 (.mv (.const (.bool false)))]
def k68_10 : VC := .seq k68_9 .ret
def k68_11 : VC := .cond τ36 k68_10 .skip
def k68_12 : VC := .seq k68_8 k68_11
def k68_13 : VC := .reg [oD 38 (.loadN [(.int .i64), (.int .i64), (.int .i64), .bool, (.int .u64), (.int .u64)] τ12),oN (.store 6 τ8 τ38),oD 9 (.mv (.const (.bool true)))]
def k68_14 : VC := .seq k68_13 .ret
def k68_15 : VC := .seq k68_12 k68_14
def k68_16 : VC := .seq k68_7 k68_15
def k68_17 : VC := .seq k68_6 k68_16
def k68_18 : VC := .seq k68_1 k68_17
def k68_19 : VC := .seq k68_0 k68_18
def fn68 : VFn := ⟨39, k68_19, [.cell 8 [(.int .i64), (.int .i64), (.int .i64), .bool, (.int .u64), (.int .u64)] true, .tmp 9]⟩
def k19_0 : VC := .reg [oD 4 (.alloc [(.int .i64 0), (.int .i64 0), (.int .i64 0), (.bool false), (.int .u64 0), (.int .u64 0)]),oD 5 (.mv (.const (.bool false)))]
def k19_1 : VC := .reg [oM 7 τ0,oM 8 τ1,oD 9 (.callF 73 [τ7, τ8]),oM 6 τ9]
def k19_2 : VC := .reg [oM 10 τ6,oD 11 (.bin .geq τ10 (.const (.int .i64 0)))]
def k19_3 : VC := .reg [oM 12 τ0,oD 13 (.nilCheck τ12),oD 14 (.fieldA 2 τ13),oD 15 (.load1 .oth τ14),oM 16 τ6,oD 17 (.idxAL 8 τ15 τ16),oD 18 (.loadN [(.int .i64), (.int .i64), .bool, (.int .u64), (.int .u64), .bool, .bool, (.int .i64)] τ17),oD 19 (.callF 74 [τ18]),oN (.store 6 τ4 τ19),oD 5 (.mv (.const (.bool true)))]
def k19_4 : VC := .seq k19_3 .ret
def k19_5 : VC := .cond τ11 k19_4 .skip
def k19_6 : VC := .seq k19_2 k19_5
def k19_7 : VC := .reg [oM 20 τ1,oD 21 (.bin .geq τ20 (.const (.int .i64 1))),oM 22 τ21,oG 23 (.mv τ1) 22 true,oG 24 (.mv τ0) 22 true,oG 25 (.nilCheck τ24) 22 true,oG 26 (.fieldA 3 τ25) 22 true,oG 27 (.load1 (.int .i64) τ26) 22 true,oG 28 (.bin .leq τ23 τ27) 22 true,oD 29 (.pick τ22 τ28 (.const (.bool false)))]
def k19_8 : VC := .reg [oM 30 τ1,oD 31 (.build [(.int .i64 0), (.int .i64 0), (.int .i64 0), (.bool false), (.int .u64 0), (.int .u64 0)] [(0, 1, τ30), (2, 1, (.const (.int .i64 4)))]),oN (.store 6 τ4 τ31),oD 5 (.mv (.const (.bool true)))]
def k19_9 : VC := .seq k19_8 .ret
def k19_10 : VC := .cond τ29 k19_9 .skip
def k19_11 : VC := .seq k19_7 k19_10
def k19_12 : VC := .reg [oD 32 (.build [(.int .i64 0), (.int .i64 0), (.int .i64 0), (.bool false), (.int .u64 0), (.int .u64 0)] []),oN (.store 6 τ4 τ32),oD 5 (.mv (.const (.bool false)))]
def k19_13 : VC := .seq k19_12 .ret
def k19_14 : VC := .seq k19_11 k19_13
def k19_15 : VC := .seq k19_6 k19_14
def k19_16 : VC := .seq k19_1 k19_15
def k19_17 : VC := .seq k19_0 k19_16
def fn19 : VFn := ⟨33, k19_17, [.cell 4 [(.int .i64), (.int .i64), (.int .i64), .bool, (.int .u64), (.int .u64)] true, .tmp 5]⟩
def k74_0 : VC := .reg [oD 1 (.box τ0),oD 2 (.alloc [(.int .i64 0), (.int .i64 0), (.int .i64 0), (.bool false), (.int .u64 0), (.int .u64 0)])]
def k74_1 : VC := .reg [oD 4 (.fieldA 0 τ1),oD 5 (.load1 (.int .i64) τ4),oD 6 (.fieldA 1 τ1),oD 7 (.load1 (.int .i64) τ6),oD 8 (.fieldA 2 τ1),oD 9 (.loadN [.bool, (.int .u64), (.int .u64)] τ8),oD 10 (.build [(.int .i64 0), (.int .i64 0), (.int .i64 0), (.bool false), (.int .u64 0), (.int .u64 0)] [(0, 1, τ5), (1, 1, τ7), (3, 3, τ9), (2, 1, (.const (.int .i64 2)))]),oD 3 (.alloc [(.int .i64 0), (.int .i64 0), (.int .i64 0), (.bool false), (.int .u64 0), (.int .u64 0)]),oN (.store 6 τ3 τ10)]
def k74_2 : VC := .reg [oD 11 (.fieldA 6 τ1),oD 12 (.fieldA 0 τ11),oD 13 (.load1 .bool τ12)]
def k74_3 : VC := .reg [oD 14 (.fieldA 2 τ3),oN (.store 1 τ14 (.const (.int .i64 1)))]
def k74_4 : VC := .cond τ13 k74_3 .skip
def k74_5 : VC := .seq k74_2 k74_4
def k74_6 : VC := .reg [oD 15 (.fieldA 5 τ1),oD 16 (.load1 .bool τ15)]
def k74_7 : VC := .reg [oD 17 (.fieldA 2 τ3),oN (.store 1 τ17 (.const (.int .i64 3)))]
def k74_8 : VC := .cond τ16 k74_7 .skip
def k74_9 : VC := .seq k74_6 k74_8
def k74_10 : VC := .reg [oD 18 (.loadN [(.int .i64), (.int .i64), (.int .i64), .bool, (.int .u64), (.int .u64)] τ3),oN (.store 6 τ2 τ18)]
def k74_11 : VC := .seq k74_10 .ret
def k74_12 : VC := .seq k74_9 k74_11
def k74_13 : VC := .seq k74_5 k74_12
def k74_14 : VC := .seq k74_1 k74_13
def k74_15 : VC := .seq k74_0 k74_14
def fn74 : VFn := ⟨19, k74_15, [.cell 2 [(.int .i64), (.int .i64), (.int .i64), .bool, (.int .u64), (.int .u64)] true]⟩
def k13_0 : VC := .reg [oD 5 (.box τ0),oD 6 (.box τ1),oD 10 (.mv (.const (.bool false)))]
def k13_1 : VC := .reg [oD 23 (.fieldA 0 τ6),oN (.store 1 τ23 (.const (.int .i64 6)))]
def k13_2 : VC := .reg [oM 24 τ4,oD 25 (.lenL τ24),oD 26 (.bin .gtr τ25 (.const (.int .i64 30)))]
def k13_3 : VC := .reg [oD 27 (.callF 61 []),oM 10 τ27]
def k13_4 : VC := .seq k13_3 .ret
def k13_5 : VC := .cond τ26 k13_4 .skip
def k13_6 : VC := .seq k13_2 k13_5
def k13_7 : VC := .reg [oD 29 (.loadN [(.int .u64), (.int .u64)] τ5),oD 30 (.loadN [(.int .i64), .bool, (.int .u64), (.int .u64), .bool, (.int .u64), (.int .u64), (.int .i64), (.int .i64)] τ6),oM 31 τ2,oD 32 (.conv .u64 τ31),oD 33 (.callF 65 [τ29, τ30, τ32]),oM 28 τ33,oE 34 0 τ28,oE 35 1 τ28,oM 11 τ34,oM 12 τ35]
def k13_8 : VC := .reg [oD 37 (.loadN [(.int .u64), (.int .u64)] τ5),oD 38 (.loadN [(.int .i64), .bool, (.int .u64), (.int .u64), .bool, (.int .u64), (.int .u64), (.int .i64), (.int .i64)] τ6),oM 39 τ3,oD 40 (.conv .u64 τ39),oD 41 (.callF 65 [τ37, τ38, τ40]),oM 36 τ41,oE 42 0 τ36,oE 43 1 τ36,oM 13 τ42,oM 14 τ43]
def k13_9 : VC := .reg [oD 45 (.loadN [(.int .u64), (.int .u64)] τ5),oD 46 (.loadN [(.int .i64), .bool, (.int .u64), (.int .u64), .bool, (.int .u64), (.int .u64), (.int .i64), (.int .i64)] τ6),oM 47 τ2,oD 48 (.conv .u64 τ47),oD 49 (.bin .add τ48 (.const (.int .u64 65536))),oD 50 (.callF 65 [τ45, τ46, τ49]),oM 44 τ50,oE 51 0 τ44,oE 52 1 τ44,oM 15 τ51,oM 16 τ52]
def k13_10 : VC := .reg [oM 53 τ16,oM 54 τ53,oG 55 (.mv τ2) 54 false,oG 56 (.mv τ3) 54 false,oG 57 (.bin .neq τ55 τ56) 54 false,oG 58 (.mv τ57) 54 false,oG 59 (.mv τ12) 58 true,oG 60 (.not τ59) 58 true,oG 61 (.mv τ60) 58 true,oG 62 (.mv τ14) 61 true,oG 63 (.not τ62) 61 true,oG 64 (.pick τ61 τ63 (.const (.bool false))) 58 true,oG 65 (.mv τ64) 58 true,oG 66 (.mv τ12) 65 false,oG 67 (.mv τ66) 65 false,oG 68 (.mv τ14) 67 true,oG 69 (.pick τ67 τ68 (.const (.bool false))) 65 false,oG 70 (.mv τ69) 65 false,oG 71 (.mv τ11) 70 true,oG 72 (.mv τ13) 70 true,oG 73 (.bin .eql τ71 τ72) 70 true,oG 74 (.pick τ70 τ73 (.const (.bool false))) 65 false,oG 75 (.pick τ65 (.const (.bool true)) τ74) 58 true,oG 76 (.pick τ58 τ75 (.const (.bool false))) 54 false,oD 77 (.pick τ54 (.const (.bool true)) τ76),oM 78 τ77,oG 79 (.mv τ12) 78 false,oG 80 (.mv τ11) 78 false,oG 81 (.bin .gtr τ80 (.const (.int .i64 0))) 78 false,oG 82 (.eqB true τ79 τ81) 78 false,oD 83 (.pick τ78 (.const (.bool true)) τ82),oM 84 τ83,oG 85 (.mv τ11) 84 false,oG 86 (.bin .lss τ85 (.const (.int .i64 0))) 84 false,oD 87 (.pick τ84 (.const (.bool true)) τ86),oM 88 τ87,oG 89 (.mv τ11) 88 false,oG 90 (.bin .gtr τ89 (.const (.int .i64 65535))) 88 false,oD 91 (.pick τ88 (.const (.bool true)) τ90)]
def k13_11 : VC := .reg [oD 10 (.mv (.const (.bool false)))]
def k13_12 : VC := .seq k13_11 .ret
def k13_13 : VC := .cond τ91 k13_12 .skip
def k13_14 : VC := .seq k13_10 k13_13
def k13_15 : VC := .reg [oM 92 τ12,oM 93 τ92,oG 94 (.loadN [(.int .u64), (.int .u64)] τ5) 93 true,oG 95 (.loadN [(.int .i64), .bool, (.int .u64), (.int .u64), .bool, (.int .u64), (.int .u64), (.int .i64), (.int .i64)] τ6) 93 true,oG 96 (.mv τ11) 93 true,oG 97 (.callF 64 [τ94, τ95, τ96]) 93 true,oG 98 (.mv τ2) 93 true,oG 99 (.conv .u64 τ98) 93 true,oG 100 (.bin .neq τ97 τ99) 93 true,oD 101 (.pick τ93 τ100 (.const (.bool false)))]
def k13_16 : VC := .reg [oD 10 (.mv (.const (.bool false)))]
def k13_17 : VC := .seq k13_16 .ret
def k13_18 : VC := .cond τ101 k13_17 .skip
def k13_19 : VC := .seq k13_15 k13_18
def k13_20 : VC := .reg [oM 103 τ4,oD 104 (.callF 66 [τ103]),oM 102 τ104,oE 105 0 τ102,oE 106 1 τ102,oM 17 τ105,oM 18 τ106]
def k13_21 : VC := .reg [oM 108 τ17,oD 109 (.loadN [(.int .u64), (.int .u64)] τ5),oD 110 (.loadN [(.int .i64), .bool, (.int .u64), (.int .u64), .bool, (.int .u64), (.int .u64), (.int .i64), (.int .i64)] τ6),oM 111 τ2,oD 112 (.conv .u64 τ111),oD 113 (.callF 67 [τ108, τ109, τ110, τ112]),oM 107 τ113,oE 114 0 τ107,oE 115 1 τ107,oD 19 (.alloc [(.int .i64 0), (.int .i64 0), (.int .i64 0), (.bool false), (.int .u64 0), (.int .u64 0)]),oN (.store 6 τ19 τ114),oM 20 τ115]
def k13_22 : VC := .reg [oM 117 τ17,oM 118 τ11,oD 119 (.callF 18 [τ117, τ118]),oM 116 τ119,oE 120 0 τ116,oE 121 1 τ116,oD 21 (.alloc [(.int .i64 0), (.int .i64 0), (.int .i64 0), (.bool false), (.int .u64 0), (.int .u64 0)]),oN (.store 6 τ21 τ120),oM 22 τ121]
def k13_23 : VC := .reg [oM 122 τ20,oM 123 τ12,oM 124 τ123,oG 125 (.mv τ22) 124 true,oD 126 (.pick τ124 τ125 (.const (.bool false))),oM 127 τ126,oG 128 (.fieldA 2 τ21) 127 true,oG 129 (.load1 (.int .i64) τ128) 127 true,oG 130 (.bin .neq τ129 (.const (.int .i64 4))) 127 true,oD 131 (.pick τ127 τ130 (.const (.bool false))),oD 132 (.eqB false τ122 τ131),oM 133 τ132,oG 134 (.mv τ20) 133 true,oG 135 (.not τ134) 133 true,oG 136 (.mv τ135) 133 true,oG 137 (.loadN [(.int .i64), (.int .i64), (.int .i64), .bool, (.int .u64), (.int .u64)] τ19) 136 true,oG 138 (.build [(.int .i64 0), (.int .i64 0), (.int .i64 0), (.bool false), (.int .u64 0), (.int .u64 0)] []) 136 true,oG 139 (.eqAgg false [(0, (.int .i64)), (1, (.int .i64)), (2, (.int .i64)), (3, .bool), (4, (.int .u64)), (5, (.int .u64))] τ137 τ138) 136 true,oG 140 (.pick τ136 τ139 (.const (.bool false))) 133 true,oG 141 (.mv τ140) 133 true,oG 142 (.mv τ20) 141 false,oG 143 (.mv τ142) 141 false,oG 144 (.loadN [(.int .i64), (.int .i64), (.int .i64), .bool, (.int .u64), (.int .u64)] τ19) 143 true,oG 145 (.loadN [(.int .i64), (.int .i64), (.int .i64), .bool, (.int .u64), (.int .u64)] τ21) 143 true,oG 146 (.eqAgg false [(0, (.int .i64)), (1, (.int .i64)), (2, (.int .i64)), (3, .bool), (4, (.int .u64)), (5, (.int .u64))] τ144 τ145) 143 true,oG 147 (.pick τ143 τ146 (.const (.bool false))) 141 false,oG 148 (.pick τ141 (.const (.bool true)) τ147) 133 true,oD 149 (.pick τ133 τ148 (.const (.bool false))),oM 150 τ149,oG 151 (.callF 61 []) 150 true,oD 152 (.pick τ150 τ151 (.const (.bool false))),oM 10 τ152]
def k13_24 : VC := .seq k13_23 .ret
def k13_25 : VC := .seq k13_22 k13_24
def k13_26 : VC := .seq k13_21 k13_25
def k13_27 : VC := .seq k13_20 k13_26
def k13_28 : VC := .seq k13_19 k13_27
def k13_29 : VC := .seq k13_14 k13_28
def k13_30 : VC := .seq k13_9 k13_29
def k13_31 : VC := .seq k13_8 k13_30
def k13_32 : VC := .seq k13_7 k13_31
def k13_33 : VC := .seq k13_6 k13_32
def k13_34 : VC := .seq k13_1 k13_33
def k13_35 : VC := .seq k13_0 k13_34
def fn13 : VFn := ⟨153, k13_35, [.tmp 10]⟩
def k14_0 : VC := .reg [oD 5 (.box τ0),oD 6 (.box τ1),oD 10 (.mv (.const (.bool false)))]
def k14_1 : VC := .reg [oM 24 τ4,oD 25 (.lenL τ24),oD 26 (.bin .gtr τ25 (.const (.int .i64 30)))]
def k14_2 : VC := .reg [oD 27 (.callF 61 []),oM 10 τ27]
def k14_3 : VC := .seq k14_2 .ret
def k14_4 : VC := .cond τ26 k14_3 .skip
def k14_5 : VC := .seq k14_1 k14_4
def k14_6 : VC := .reg [oM 28 τ2,oD 29 (.conv .i64 τ28),oD 30 (.minmax true [(.const (.int .i64 1)), τ29]),oM 31 τ3,oD 32 (.conv .i64 τ31),oD 33 (.minmax true [(.const (.int .i64 1)), τ32]),oM 11 τ30,oM 12 τ33]
def k14_7 : VC := .regD [oD 34 (.loadN [(.int .u64), (.int .u64)] τ5),oD 35 (.loadN [(.int .i64), .bool, (.int .u64), (.int .u64), .bool, (.int .u64), (.int .u64), (.int .i64), (.int .i64)] τ6),oM 36 τ11,oD 37 (.callF 64 [τ34, τ35, τ36]),oD 38 (.loadN [(.int .u64), (.int .u64)] τ5),oD 39 (.loadN [(.int .i64), .bool, (.int .u64), (.int .u64), .bool, (.int .u64), (.int .u64), (.int .i64), (.int .i64)] τ6),oM 40 τ12] [(3, 4), (3, 5)] [oD 41 (.callF 64 [τ38, τ39, τ40]),oM 13 τ37,oM 14 τ41]
def k14_8 : VC := .reg [oD 43 (.loadN [(.int .u64), (.int .u64)] τ5),oD 44 (.loadN [(.int .i64), .bool, (.int .u64), (.int .u64), .bool, (.int .u64), (.int .u64), (.int .i64), (.int .i64)] τ6),oM 45 τ13,oD 46 (.callF 65 [τ43, τ44, τ45]),oM 42 τ46,oE 47 0 τ42,oE 48 1 τ42,oM 15 τ47,oM 16 τ48]
def k14_9 : VC := .reg [oM 49 τ16,oD 50 (.not τ49),oM 51 τ50,oG 52 (.mv τ15) 51 false,oG 53 (.mv τ11) 51 false,oG 54 (.bin .neq τ52 τ53) 51 false,oD 55 (.pick τ51 (.const (.bool true)) τ54),oM 56 τ55,oG 57 (.mv τ13) 56 false,oG 58 (.mv τ14) 56 false,oG 59 (.bin .eql τ57 τ58) 56 false,oG 60 (.mv τ11) 56 false,oG 61 (.mv τ12) 56 false,oG 62 (.bin .eql τ60 τ61) 56 false,oG 63 (.eqB true τ59 τ62) 56 false,oD 64 (.pick τ56 (.const (.bool true)) τ63),oM 65 τ64,oG 66 (.fieldA 0 τ6) 65 false,oG 67 (.load1 (.int .i64) τ66) 65 false,oG 68 (.bin .eql τ67 (.const (.int .i64 6))) 65 false,oG 69 (.mv τ68) 65 false,oG 70 (.mv τ13) 69 true,oG 71 (.bin .gtr τ70 (.const (.int .u64 65535))) 69 true,oG 72 (.pick τ69 τ71 (.const (.bool false))) 65 false,oD 73 (.pick τ65 (.const (.bool true)) τ72)]
def k14_10 : VC := .reg [oD 10 (.mv (.const (.bool false)))]
def k14_11 : VC := .seq k14_10 .ret
def k14_12 : VC := .cond τ73 k14_11 .skip
def k14_13 : VC := .seq k14_9 k14_12
def k14_14 : VC := .reg [oM 75 τ4,oD 76 (.callF 66 [τ75]),oM 74 τ76,oE 77 0 τ74,oE 78 1 τ74,oM 17 τ77,oM 18 τ78]
def k14_15 : VC := .reg [oM 79 τ17,oD 80 (.callF 22 [τ79]),oM 19 τ80]
def k14_16 : VC := .reg [oD 20 (.mv (.const (.bool false)))]
def k14_17 : VC := .reg [oD 21 (.mv (.const (.int .i64 0)))]
def k14_18 : VC := .reg [oM 81 τ21,oM 82 τ19,oD 83 (.lenL τ82),oD 84 (.bin .lss τ81 τ83)]
def k14_19 : VC := .cond τ84 .skip (.exit 0)
def k14_20 : VC := .seq k14_18 k14_19
def k14_21 : VC := .reg [oM 87 τ20,oM 88 τ87,oG 89 (.mv τ19) 88 false,oG 90 (.mv τ21) 88 false,oG 91 (.idxAL 6 τ89 τ90) 88 false,oG 92 (.fieldA 0 τ91) 88 false,oG 93 (.load1 (.int .i64) τ92) 88 false,oG 94 (.mv τ11) 88 false,oG 95 (.bin .eql τ93 τ94) 88 false,oD 96 (.pick τ88 (.const (.bool true)) τ95),oM 20 τ96]
def k14_22 : VC := .block 1 k14_21
def k14_23 : VC := .reg [oM 85 τ21,oD 86 (.bin .add τ85 (.const (.int .i64 1))),oM 21 τ86]
def k14_24 : VC := .seq k14_22 k14_23
def k14_25 : VC := .seq k14_20 k14_24
def k14_26 : VC := .loop k14_25
def k14_27 : VC := .block 0 k14_26
def k14_28 : VC := .seq k14_17 k14_27
def k14_29 : VC := .reg [oM 98 τ17,oD 99 (.loadN [(.int .u64), (.int .u64)] τ5),oD 100 (.loadN [(.int .i64), .bool, (.int .u64), (.int .u64), .bool, (.int .u64), (.int .u64), (.int .i64), (.int .i64)] τ6),oM 101 τ13,oD 102 (.callF 67 [τ98, τ99, τ100, τ101]),oM 97 τ102,oE 103 0 τ97,oE 104 1 τ97,oD 22 (.alloc [(.int .i64 0), (.int .i64 0), (.int .i64 0), (.bool false), (.int .u64 0), (.int .u64 0)]),oN (.store 6 τ22 τ103),oM 23 τ104]
def k14_30 : VC := .reg [oM 105 τ23,oM 106 τ20,oD 107 (.eqB false τ105 τ106),oM 108 τ107,oG 109 (.mv τ23) 108 true,oG 110 (.not τ109) 108 true,oG 111 (.mv τ110) 108 true,oG 112 (.fieldA 0 τ22) 111 false,oG 113 (.load1 (.int .i64) τ112) 111 false,oG 114 (.mv τ11) 111 false,oG 115 (.bin .eql τ113 τ114) 111 false,oG 116 (.pick τ111 (.const (.bool true)) τ115) 108 true,oD 117 (.pick τ108 τ116 (.const (.bool false))),oM 118 τ117,oG 119 (.callF 61 []) 118 true,oD 120 (.pick τ118 τ119 (.const (.bool false))),oM 10 τ120]
def k14_31 : VC := .seq k14_30 .ret
def k14_32 : VC := .seq k14_29 k14_31
def k14_33 : VC := .seq k14_28 k14_32
def k14_34 : VC := .seq k14_16 k14_33
def k14_35 : VC := .seq k14_15 k14_34
def k14_36 : VC := .seq k14_14 k14_35
def k14_37 : VC := .seq k14_13 k14_36
def k14_38 : VC := .seq k14_8 k14_37
def k14_39 : VC := .seq k14_7 k14_38
def k14_40 : VC := .seq k14_6 k14_39
def k14_41 : VC := .seq k14_5 k14_40
def k14_42 : VC := .seq k14_0 k14_41
def fn14 : VFn := ⟨121, k14_42, [.tmp 10]⟩
def k22_0 : VC := .reg [oD 2 (.mv (.const (.slice none 0 0)))]
def k22_1 : VC := .reg [oM 6 τ0,oD 7 (.callF 70 [τ6]),oD 8 (.not τ7)]
def k22_2 : VC := .reg [oD 2 (.mv (.const (.slice none 0 0)))]
def k22_3 : VC := .seq k22_2 .ret
def k22_4 : VC := .cond τ8 k22_3 .skip
def k22_5 : VC := .seq k22_1 k22_4
def k22_6 : VC := .reg [oD 3 (.mv (.const (.slice none 0 0)))]
def k22_7 : VC := .reg [oM 9 τ0,oD 10 (.nilCheck τ9),oD 11 (.fieldA 2 τ10),oD 12 (.load1 .oth τ11),oD 13 (.lenL τ12),oD 14 (.mv (.const (.int .i64 0)))]
def k22_8 : VC := .reg [oD 15 (.bin .lss τ14 τ13)]
def k22_9 : VC := .cond τ15 .skip (.exit 0)
def k22_10 : VC := .reg [oD 16 (.idxAL 9 τ12 τ14),oD 17 (.loadN [(.int .i64), (.int .i64), (.int .i64), .bool, (.int .u64), (.int .u64), .bool, .bool, (.int .i64)] τ16),oD 5 (.alloc [(.int .i64 0), (.int .i64 0), (.int .i64 0), (.bool false), (.int .u64 0), (.int .u64 0), (.bool false), (.bool false), (.int .i64 0)]),oN (.store 9 τ5 τ17)]
def k22_11 : VC := .reg [oM 18 τ3,oD 19 (.loadN [(.int .i64), (.int .i64), (.int .i64), .bool, (.int .u64), (.int .u64), .bool, .bool, (.int .i64)] τ5),oD 20 (.callF 72 [τ19]),oD 21 (.buildSl 1 6 [(.int .i64 0), (.int .i64 0), (.int .i64 0), (.bool false), (.int .u64 0), (.int .u64 0)] [(0, 6, τ20)]),oD 22 (.app 37 6 48 τ18 τ21),oM 3 τ22]
def k22_12 : VC := .seq k22_10 k22_11
def k22_13 : VC := .block 1 k22_12
def k22_14 : VC := .reg [oD 23 (.bin .add τ14 (.const (.int .i64 1))),oM 14 τ23]
def k22_15 : VC := .seq k22_13 k22_14
def k22_16 : VC := .seq k22_9 k22_15
def k22_17 : VC := .seq k22_8 k22_16
def k22_18 : VC := .loop k22_17
def k22_19 : VC := .block 0 k22_18
def k22_20 : VC := .seq k22_7 k22_19
def k22_21 : VC := .reg [oM 24 τ3,oM 2 τ24]
def k22_22 : VC := .seq k22_21 .ret
def k22_23 : VC := .seq k22_20 k22_22
def k22_24 : VC := .seq k22_6 k22_23
def k22_25 : VC := .seq k22_5 k22_24
def k22_26 : VC := .seq k22_0 k22_25
def fn22 : VFn := ⟨25, k22_26, [.tmp 2]⟩
theorem fn12_ok : (Try.prog.funcs[12]?).bind (compFn Try.prog) = some fn12 := by kernel_rfl
theorem fn61_ok : (Try.prog.funcs[61]?).bind (compFn Try.prog) = some fn61 := by kernel_rfl
theorem fn62_ok : (Try.prog.funcs[62]?).bind (compFn Try.prog) = some fn62 := by kernel_rfl
theorem fn117_ok : (Try.prog.funcs[117]?).bind (compFn Try.prog) = some fn117 := by kernel_rfl
theorem fn140_ok : (Try.prog.funcs[140]?).bind (compFn Try.prog) = some fn140 := by kernel_rfl
theorem fn141_ok : (Try.prog.funcs[141]?).bind (compFn Try.prog) = some fn141 := by kernel_rfl
theorem fn99_ok : (Try.prog.funcs[99]?).bind (compFn Try.prog) = some fn99 := by kernel_rfl
theorem fn67_ok : (Try.prog.funcs[67]?).bind (compFn Try.prog) = some fn67 := by kernel_rfl
theorem fn65_ok : (Try.prog.funcs[65]?).bind (compFn Try.prog) = some fn65 := by kernel_rfl
theorem fn120_ok : (Try.prog.funcs[120]?).bind (compFn Try.prog) = some fn120 := by kernel_rfl
theorem fn143_ok : (Try.prog.funcs[143]?).bind (compFn Try.prog) = some fn143 := by kernel_rfl
theorem fn132_ok : (Try.prog.funcs[132]?).bind (compFn Try.prog) = some fn132 := by kernel_rfl
theorem fn150_ok : (Try.prog.funcs[150]?).bind (compFn Try.prog) = some fn150 := by kernel_rfl
theorem fn155_ok : (Try.prog.funcs[155]?).bind (compFn Try.prog) = some fn155 := by kernel_rfl
theorem fn160_ok : (Try.prog.funcs[160]?).bind (compFn Try.prog) = some fn160 := by kernel_rfl
theorem fn82_ok : (Try.prog.funcs[82]?).bind (compFn Try.prog) = some fn82 := by kernel_rfl
theorem fn156_ok : (Try.prog.funcs[156]?).bind (compFn Try.prog) = some fn156 := by kernel_rfl
theorem fn109_ok : (Try.prog.funcs[109]?).bind (compFn Try.prog) = some fn109 := by kernel_rfl
theorem fn110_ok : (Try.prog.funcs[110]?).bind (compFn Try.prog) = some fn110 := by kernel_rfl
theorem fn133_ok : (Try.prog.funcs[133]?).bind (compFn Try.prog) = some fn133 := by kernel_rfl
theorem fn147_ok : (Try.prog.funcs[147]?).bind (compFn Try.prog) = some fn147 := by kernel_rfl
theorem fn148_ok : (Try.prog.funcs[148]?).bind (compFn Try.prog) = some fn148 := by kernel_rfl
theorem fn154_ok : (Try.prog.funcs[154]?).bind (compFn Try.prog) = some fn154 := by kernel_rfl
theorem fn159_ok : (Try.prog.funcs[159]?).bind (compFn Try.prog) = some fn159 := by kernel_rfl
theorem fn134_ok : (Try.prog.funcs[134]?).bind (compFn Try.prog) = some fn134 := by kernel_rfl
theorem fn152_ok : (Try.prog.funcs[152]?).bind (compFn Try.prog) = some fn152 := by kernel_rfl
theorem fn157_ok : (Try.prog.funcs[157]?).bind (compFn Try.prog) = some fn157 := by kernel_rfl
theorem fn161_ok : (Try.prog.funcs[161]?).bind (compFn Try.prog) = some fn161 := by kernel_rfl
theorem fn158_ok : (Try.prog.funcs[158]?).bind (compFn Try.prog) = some fn158 := by kernel_rfl
theorem fn151_ok : (Try.prog.funcs[151]?).bind (compFn Try.prog) = some fn151 := by kernel_rfl
theorem fn119_ok : (Try.prog.funcs[119]?).bind (compFn Try.prog) = some fn119 := by kernel_rfl
theorem fn18_ok : (Try.prog.funcs[18]?).bind (compFn Try.prog) = some fn18 := by kernel_rfl
theorem fn70_ok : (Try.prog.funcs[70]?).bind (compFn Try.prog) = some fn70 := by kernel_rfl
theorem fn69_ok : (Try.prog.funcs[69]?).bind (compFn Try.prog) = some fn69 := by kernel_rfl
theorem fn121_ok : (Try.prog.funcs[121]?).bind (compFn Try.prog) = some fn121 := by kernel_rfl
theorem fn71_ok : (Try.prog.funcs[71]?).bind (compFn Try.prog) = some fn71 := by kernel_rfl
theorem fn122_ok : (Try.prog.funcs[122]?).bind (compFn Try.prog) = some fn122 := by kernel_rfl
theorem fn123_ok : (Try.prog.funcs[123]?).bind (compFn Try.prog) = some fn123 := by kernel_rfl
theorem fn72_ok : (Try.prog.funcs[72]?).bind (compFn Try.prog) = some fn72 := by kernel_rfl
theorem fn64_ok : (Try.prog.funcs[64]?).bind (compFn Try.prog) = some fn64 := by kernel_rfl
theorem fn63_ok : (Try.prog.funcs[63]?).bind (compFn Try.prog) = some fn63 := by kernel_rfl
theorem fn118_ok : (Try.prog.funcs[118]?).bind (compFn Try.prog) = some fn118 := by kernel_rfl
theorem fn142_ok : (Try.prog.funcs[142]?).bind (compFn Try.prog) = some fn142 := by kernel_rfl
theorem fn105_ok : (Try.prog.funcs[105]?).bind (compFn Try.prog) = some fn105 := by kernel_rfl
theorem fn38_ok : (Try.prog.funcs[38]?).bind (compFn Try.prog) = some fn38 := by kernel_rfl
theorem fn93_ok : (Try.prog.funcs[93]?).bind (compFn Try.prog) = some fn93 := by kernel_rfl
theorem fn92_ok : (Try.prog.funcs[92]?).bind (compFn Try.prog) = some fn92 := by kernel_rfl
theorem fn129_ok : (Try.prog.funcs[129]?).bind (compFn Try.prog) = some fn129 := by kernel_rfl
theorem fn145_ok : (Try.prog.funcs[145]?).bind (compFn Try.prog) = some fn145 := by kernel_rfl
theorem fn153_ok : (Try.prog.funcs[153]?).bind (compFn Try.prog) = some fn153 := by kernel_rfl
theorem fn115_ok : (Try.prog.funcs[115]?).bind (compFn Try.prog) = some fn115 := by kernel_rfl
theorem fn104_ok : (Try.prog.funcs[104]?).bind (compFn Try.prog) = some fn104 := by kernel_rfl
theorem fn112_ok : (Try.prog.funcs[112]?).bind (compFn Try.prog) = some fn112 := by kernel_rfl
theorem fn95_ok : (Try.prog.funcs[95]?).bind (compFn Try.prog) = some fn95 := by kernel_rfl
theorem fn135_ok : (Try.prog.funcs[135]?).bind (compFn Try.prog) = some fn135 := by kernel_rfl
theorem fn136_ok : (Try.prog.funcs[136]?).bind (compFn Try.prog) = some fn136 := by kernel_rfl
theorem fn149_ok : (Try.prog.funcs[149]?).bind (compFn Try.prog) = some fn149 := by kernel_rfl
theorem fn137_ok : (Try.prog.funcs[137]?).bind (compFn Try.prog) = some fn137 := by kernel_rfl
theorem fn131_ok : (Try.prog.funcs[131]?).bind (compFn Try.prog) = some fn131 := by kernel_rfl
theorem fn146_ok : (Try.prog.funcs[146]?).bind (compFn Try.prog) = some fn146 := by kernel_rfl
theorem fn130_ok : (Try.prog.funcs[130]?).bind (compFn Try.prog) = some fn130 := by kernel_rfl
theorem fn46_ok : (Try.prog.funcs[46]?).bind (compFn Try.prog) = some fn46 := by kernel_rfl
theorem fn66_ok : (Try.prog.funcs[66]?).bind (compFn Try.prog) = some fn66 := by kernel_rfl
theorem fn16_ok : (Try.prog.funcs[16]?).bind (compFn Try.prog) = some fn16 := by kernel_rfl
theorem fn17_ok : (Try.prog.funcs[17]?).bind (compFn Try.prog) = some fn17 := by kernel_rfl
theorem fn25_ok : (Try.prog.funcs[25]?).bind (compFn Try.prog) = some fn25 := by kernel_rfl
theorem fn26_ok : (Try.prog.funcs[26]?).bind (compFn Try.prog) = some fn26 := by kernel_rfl
theorem fn81_ok : (Try.prog.funcs[81]?).bind (compFn Try.prog) = some fn81 := by kernel_rfl
theorem fn75_ok : (Try.prog.funcs[75]?).bind (compFn Try.prog) = some fn75 := by kernel_rfl
theorem fn124_ok : (Try.prog.funcs[124]?).bind (compFn Try.prog) = some fn124 := by kernel_rfl
theorem fn27_ok : (Try.prog.funcs[27]?).bind (compFn Try.prog) = some fn27 := by kernel_rfl
theorem fn83_ok : (Try.prog.funcs[83]?).bind (compFn Try.prog) = some fn83 := by kernel_rfl
theorem fn84_ok : (Try.prog.funcs[84]?).bind (compFn Try.prog) = some fn84 := by kernel_rfl
theorem fn86_ok : (Try.prog.funcs[86]?).bind (compFn Try.prog) = some fn86 := by kernel_rfl
theorem fn85_ok : (Try.prog.funcs[85]?).bind (compFn Try.prog) = some fn85 := by kernel_rfl
theorem fn127_ok : (Try.prog.funcs[127]?).bind (compFn Try.prog) = some fn127 := by kernel_rfl
theorem fn76_ok : (Try.prog.funcs[76]?).bind (compFn Try.prog) = some fn76 := by kernel_rfl
theorem fn73_ok : (Try.prog.funcs[73]?).bind (compFn Try.prog) = some fn73 := by kernel_rfl
theorem fn28_ok : (Try.prog.funcs[28]?).bind (compFn Try.prog) = some fn28 := by kernel_rfl
theorem fn87_ok : (Try.prog.funcs[87]?).bind (compFn Try.prog) = some fn87 := by kernel_rfl
theorem fn77_ok : (Try.prog.funcs[77]?).bind (compFn Try.prog) = some fn77 := by kernel_rfl
theorem fn125_ok : (Try.prog.funcs[125]?).bind (compFn Try.prog) = some fn125 := by kernel_rfl
theorem fn68_ok : (Try.prog.funcs[68]?).bind (compFn Try.prog) = some fn68 := by kernel_rfl
theorem fn19_ok : (Try.prog.funcs[19]?).bind (compFn Try.prog) = some fn19 := by kernel_rfl
theorem fn74_ok : (Try.prog.funcs[74]?).bind (compFn Try.prog) = some fn74 := by kernel_rfl
theorem fn13_ok : (Try.prog.funcs[13]?).bind (compFn Try.prog) = some fn13 := by kernel_rfl
theorem fn14_ok : (Try.prog.funcs[14]?).bind (compFn Try.prog) = some fn14 := by kernel_rfl
theorem fn22_ok : (Try.prog.funcs[22]?).bind (compFn Try.prog) = some fn22 := by kernel_rfl
def tab : List (Nat × VFn) := [(12, fn12), (61, fn61), (62, fn62), (117, fn117), (140, fn140), (141, fn141), (99, fn99), (67, fn67), (65, fn65), (120, fn120), (143, fn143), (132, fn132), (150, fn150), (155, fn155), (160, fn160), (82, fn82), (156, fn156), (109, fn109), (110, fn110), (133, fn133), (147, fn147), (148, fn148), (154, fn154), (159, fn159), (134, fn134), (152, fn152), (157, fn157), (161, fn161), (158, fn158), (151, fn151), (119, fn119), (18, fn18), (70, fn70), (69, fn69), (121, fn121), (71, fn71), (122, fn122), (123, fn123), (72, fn72), (64, fn64), (63, fn63), (118, fn118), (142, fn142), (105, fn105), (38, fn38), (93, fn93), (92, fn92), (129, fn129), (145, fn145), (153, fn153), (115, fn115), (104, fn104), (112, fn112), (95, fn95), (135, fn135), (136, fn136), (149, fn149), (137, fn137), (131, fn131), (146, fn146), (130, fn130), (46, fn46), (66, fn66), (16, fn16), (17, fn17), (25, fn25), (26, fn26), (81, fn81), (75, fn75), (124, fn124), (27, fn27), (83, fn83), (84, fn84), (86, fn86), (85, fn85), (127, fn127), (76, fn76), (73, fn73), (28, fn28), (87, fn87), (77, fn77), (125, fn125), (68, fn68), (19, fn19), (74, fn74), (13, fn13), (14, fn14), (22, fn22)]
theorem tab_ok : FnsOK Try.prog (aget tab) := FnsOK.of_tab ⟨fn12_ok, fn61_ok, fn62_ok, fn117_ok, fn140_ok, fn141_ok, fn99_ok, fn67_ok, fn65_ok, fn120_ok, fn143_ok, fn132_ok, fn150_ok, fn155_ok, fn160_ok, fn82_ok, fn156_ok, fn109_ok, fn110_ok, fn133_ok, fn147_ok, fn148_ok, fn154_ok, fn159_ok, fn134_ok, fn152_ok, fn157_ok, fn161_ok, fn158_ok, fn151_ok, fn119_ok, fn18_ok, fn70_ok, fn69_ok, fn121_ok, fn71_ok, fn122_ok, fn123_ok, fn72_ok, fn64_ok, fn63_ok, fn118_ok, fn142_ok, fn105_ok, fn38_ok, fn93_ok, fn92_ok, fn129_ok, fn145_ok, fn153_ok, fn115_ok, fn104_ok, fn112_ok, fn95_ok, fn135_ok, fn136_ok, fn149_ok, fn137_ok, fn131_ok, fn146_ok, fn130_ok, fn46_ok, fn66_ok, fn16_ok, fn17_ok, fn25_ok, fn26_ok, fn81_ok, fn75_ok, fn124_ok, fn27_ok, fn83_ok, fn84_ok, fn86_ok, fn85_ok, fn127_ok, fn76_ok, fn73_ok, fn28_ok, fn87_ok, fn77_ok, fn125_ok, fn68_ok, fn19_ok, fn74_ok, fn13_ok, fn14_ok, fn22_ok, trivial⟩
end Go.Vm.Code
namespace Go.Vm.Code
open Go Go.Vm Go.Proofs
set_option maxRecDepth 100000
set_option maxHeartbeats 4000000
set_option linter.unusedVariables false
@[ext] structure api_Addr where
  V6 : Bool
  Hi : Int
  Lo : Int
  deriving DecidableEq
@[ext] structure api_Tuple where
  Proto : Int
  Src : api_Addr
  Dst : api_Addr
  SPort : Int
  DPort : Int
  deriving DecidableEq
@[ext] structure api_Packet where
  Tuple : api_Tuple
  Flags : Int
  Stamped : Bool
  Val : Int
  Echo : Int
  Long : Bool
  CID : List UInt8
  Size : Int
  deriving DecidableEq
@[ext] structure api_Key where
  A : Int
  B : Int
  deriving DecidableEq
@[ext] structure R23_Step where
  Kind : Int
  ID : Int
  N : Int
  Addr : api_Addr
  On : Bool
  deriving DecidableEq
@[ext] structure stateless_Clue where
  First : Bool
  Has : Bool
  Cookie : Int
  deriving DecidableEq
@[ext] structure health_Rule where
  Rise : Int
  Fall : Int
  deriving DecidableEq
@[ext] structure api_Backend where
  ID : Int
  Weight : Int
  State : Int
  Addr : api_Addr
  deriving DecidableEq
@[ext] structure health_State where
  Up : Bool
  Run : Int
  deriving DecidableEq
@[ext] structure registry_row where
  Backend : api_Backend
  drains : Bool
  health : health_State
  deriving DecidableEq
@[ext] structure registry_Registry where
  rule : health_Rule
  rows : List registry_row
  last : Int
  version : Int
  deriving DecidableEq
@[ext] structure api_Layout where
  Wide : Bool
  Slot : Int
  Gen : Int
  deriving DecidableEq
@[ext] structure Arr4_Int where
  e0 : Int
  e1 : Int
  e2 : Int
  e3 : Int
  deriving DecidableEq
@[ext] structure sip_Hasher where
  made : Bool
  s : Arr4_Int
  last : Int
  count : Int
  deriving DecidableEq
@[ext] structure cookie_layout where
  Layout : api_Layout
  deriving DecidableEq
@[ext] structure R23_Row where
  ID : Int
  Weight : Int
  Addr : api_Addr
  Drain : Bool
  Health : health_State
  deriving DecidableEq
@[ext] structure R23_Registry where
  Rule : health_Rule
  L : List R23_Row
  Last : Int
  Version : Int
  deriving DecidableEq
def capi_Addr (x : api_Addr) : List Value := [.bool x.V6, .int .u64 x.Hi, .int .u64 x.Lo]
theorem capi_Addr_len (x : api_Addr) : (capi_Addr x).length = 3 := rfl
theorem capi_Addr_flat (x : api_Addr) : flatV.flatL (capi_Addr x) = true := rfl
theorem capi_Addr_one (x : api_Addr) : (capi_Addr x).all oneC = true := rfl
@[simp] theorem capi_Addr_lens (xs : List api_Addr) : (vT capi_Addr xs).length = xs.length * 3 := vT_len capi_Addr_len xs
@[simp] theorem capi_Addr_take (xs : List api_Addr) (n : Nat) : (vT capi_Addr xs).take (n * 3) = vT capi_Addr (xs.take n) := vT_take capi_Addr_len xs n
@[simp] theorem capi_Addr_drop (xs : List api_Addr) (n : Nat) : (vT capi_Addr xs).drop (n * 3) = vT capi_Addr (xs.drop n) := vT_drop capi_Addr_len xs n
def unapi_Addr : List Value → Option api_Addr
  | [.bool a1, .int .u64 a2, .int .u64 a3] => some (api_Addr.mk a1 a2 a3)
  | _ => none
theorem unapi_Addr_eq (cs : List Value) (x : api_Addr) (h : unapi_Addr cs = some x) : cs = capi_Addr x := by
  unfold unapi_Addr at h; split at h
  · cases h; rfl
  · cases h
def uvapi_Addr : Value → Option api_Addr
  | .agg ⟨cs⟩ => unapi_Addr cs
  | _ => none
theorem uvapi_Addr_eq (v : Value) (x : api_Addr) (h : uvapi_Addr v = some x) : v = .agg ⟨capi_Addr x⟩ := by
  unfold uvapi_Addr at h; split at h
  · rw [unapi_Addr_eq _ _ h]
  · cases h
theorem uvapi_Addr_c (x : api_Addr) : uvapi_Addr (.agg ⟨capi_Addr x⟩) = some x := rfl
def capi_Tuple (x : api_Tuple) : List Value := [.int .i64 x.Proto, .bool x.Src.V6, .int .u64 x.Src.Hi, .int .u64 x.Src.Lo, .bool x.Dst.V6, .int .u64 x.Dst.Hi, .int .u64 x.Dst.Lo, .int .i64 x.SPort, .int .i64 x.DPort]
theorem capi_Tuple_len (x : api_Tuple) : (capi_Tuple x).length = 9 := rfl
theorem capi_Tuple_flat (x : api_Tuple) : flatV.flatL (capi_Tuple x) = true := rfl
theorem capi_Tuple_one (x : api_Tuple) : (capi_Tuple x).all oneC = true := rfl
@[simp] theorem capi_Tuple_lens (xs : List api_Tuple) : (vT capi_Tuple xs).length = xs.length * 9 := vT_len capi_Tuple_len xs
@[simp] theorem capi_Tuple_take (xs : List api_Tuple) (n : Nat) : (vT capi_Tuple xs).take (n * 9) = vT capi_Tuple (xs.take n) := vT_take capi_Tuple_len xs n
@[simp] theorem capi_Tuple_drop (xs : List api_Tuple) (n : Nat) : (vT capi_Tuple xs).drop (n * 9) = vT capi_Tuple (xs.drop n) := vT_drop capi_Tuple_len xs n
def unapi_Tuple : List Value → Option api_Tuple
  | [.int .i64 a1, .bool a2, .int .u64 a3, .int .u64 a4, .bool a5, .int .u64 a6, .int .u64 a7, .int .i64 a8, .int .i64 a9] => some (api_Tuple.mk a1 (api_Addr.mk a2 a3 a4) (api_Addr.mk a5 a6 a7) a8 a9)
  | _ => none
theorem unapi_Tuple_eq (cs : List Value) (x : api_Tuple) (h : unapi_Tuple cs = some x) : cs = capi_Tuple x := by
  unfold unapi_Tuple at h; split at h
  · cases h; rfl
  · cases h
def uvapi_Tuple : Value → Option api_Tuple
  | .agg ⟨cs⟩ => unapi_Tuple cs
  | _ => none
theorem uvapi_Tuple_eq (v : Value) (x : api_Tuple) (h : uvapi_Tuple v = some x) : v = .agg ⟨capi_Tuple x⟩ := by
  unfold uvapi_Tuple at h; split at h
  · rw [unapi_Tuple_eq _ _ h]
  · cases h
theorem uvapi_Tuple_c (x : api_Tuple) : uvapi_Tuple (.agg ⟨capi_Tuple x⟩) = some x := rfl
def capi_Packet (x : api_Packet) : List Value := [.int .i64 x.Tuple.Proto, .bool x.Tuple.Src.V6, .int .u64 x.Tuple.Src.Hi, .int .u64 x.Tuple.Src.Lo, .bool x.Tuple.Dst.V6, .int .u64 x.Tuple.Dst.Hi, .int .u64 x.Tuple.Dst.Lo, .int .i64 x.Tuple.SPort, .int .i64 x.Tuple.DPort, .int .i64 x.Flags, .bool x.Stamped, .int .u32 x.Val, .int .u32 x.Echo, .bool x.Long, .string ⟨⟨x.CID⟩⟩, .int .i64 x.Size]
theorem capi_Packet_len (x : api_Packet) : (capi_Packet x).length = 16 := rfl
theorem capi_Packet_flat (x : api_Packet) : flatV.flatL (capi_Packet x) = true := rfl
theorem capi_Packet_one (x : api_Packet) : (capi_Packet x).all oneC = true := rfl
@[simp] theorem capi_Packet_lens (xs : List api_Packet) : (vT capi_Packet xs).length = xs.length * 16 := vT_len capi_Packet_len xs
@[simp] theorem capi_Packet_take (xs : List api_Packet) (n : Nat) : (vT capi_Packet xs).take (n * 16) = vT capi_Packet (xs.take n) := vT_take capi_Packet_len xs n
@[simp] theorem capi_Packet_drop (xs : List api_Packet) (n : Nat) : (vT capi_Packet xs).drop (n * 16) = vT capi_Packet (xs.drop n) := vT_drop capi_Packet_len xs n
def unapi_Packet : List Value → Option api_Packet
  | [.int .i64 a1, .bool a2, .int .u64 a3, .int .u64 a4, .bool a5, .int .u64 a6, .int .u64 a7, .int .i64 a8, .int .i64 a9, .int .i64 a10, .bool a11, .int .u32 a12, .int .u32 a13, .bool a14, .string ⟨⟨a15⟩⟩, .int .i64 a16] => some (api_Packet.mk (api_Tuple.mk a1 (api_Addr.mk a2 a3 a4) (api_Addr.mk a5 a6 a7) a8 a9) a10 a11 a12 a13 a14 a15 a16)
  | _ => none
theorem unapi_Packet_eq (cs : List Value) (x : api_Packet) (h : unapi_Packet cs = some x) : cs = capi_Packet x := by
  unfold unapi_Packet at h; split at h
  · cases h; rfl
  · cases h
def uvapi_Packet : Value → Option api_Packet
  | .agg ⟨cs⟩ => unapi_Packet cs
  | _ => none
theorem uvapi_Packet_eq (v : Value) (x : api_Packet) (h : uvapi_Packet v = some x) : v = .agg ⟨capi_Packet x⟩ := by
  unfold uvapi_Packet at h; split at h
  · rw [unapi_Packet_eq _ _ h]
  · cases h
theorem uvapi_Packet_c (x : api_Packet) : uvapi_Packet (.agg ⟨capi_Packet x⟩) = some x := rfl
def capi_Key (x : api_Key) : List Value := [.int .u64 x.A, .int .u64 x.B]
theorem capi_Key_len (x : api_Key) : (capi_Key x).length = 2 := rfl
theorem capi_Key_flat (x : api_Key) : flatV.flatL (capi_Key x) = true := rfl
theorem capi_Key_one (x : api_Key) : (capi_Key x).all oneC = true := rfl
@[simp] theorem capi_Key_lens (xs : List api_Key) : (vT capi_Key xs).length = xs.length * 2 := vT_len capi_Key_len xs
@[simp] theorem capi_Key_take (xs : List api_Key) (n : Nat) : (vT capi_Key xs).take (n * 2) = vT capi_Key (xs.take n) := vT_take capi_Key_len xs n
@[simp] theorem capi_Key_drop (xs : List api_Key) (n : Nat) : (vT capi_Key xs).drop (n * 2) = vT capi_Key (xs.drop n) := vT_drop capi_Key_len xs n
def unapi_Key : List Value → Option api_Key
  | [.int .u64 a1, .int .u64 a2] => some (api_Key.mk a1 a2)
  | _ => none
theorem unapi_Key_eq (cs : List Value) (x : api_Key) (h : unapi_Key cs = some x) : cs = capi_Key x := by
  unfold unapi_Key at h; split at h
  · cases h; rfl
  · cases h
def uvapi_Key : Value → Option api_Key
  | .agg ⟨cs⟩ => unapi_Key cs
  | _ => none
theorem uvapi_Key_eq (v : Value) (x : api_Key) (h : uvapi_Key v = some x) : v = .agg ⟨capi_Key x⟩ := by
  unfold uvapi_Key at h; split at h
  · rw [unapi_Key_eq _ _ h]
  · cases h
theorem uvapi_Key_c (x : api_Key) : uvapi_Key (.agg ⟨capi_Key x⟩) = some x := rfl
def cR23_Step (x : R23_Step) : List Value := [.int .i64 x.Kind, .int .i64 x.ID, .int .i64 x.N, .bool x.Addr.V6, .int .u64 x.Addr.Hi, .int .u64 x.Addr.Lo, .bool x.On]
theorem cR23_Step_len (x : R23_Step) : (cR23_Step x).length = 7 := rfl
theorem cR23_Step_flat (x : R23_Step) : flatV.flatL (cR23_Step x) = true := rfl
theorem cR23_Step_one (x : R23_Step) : (cR23_Step x).all oneC = true := rfl
@[simp] theorem cR23_Step_lens (xs : List R23_Step) : (vT cR23_Step xs).length = xs.length * 7 := vT_len cR23_Step_len xs
@[simp] theorem cR23_Step_take (xs : List R23_Step) (n : Nat) : (vT cR23_Step xs).take (n * 7) = vT cR23_Step (xs.take n) := vT_take cR23_Step_len xs n
@[simp] theorem cR23_Step_drop (xs : List R23_Step) (n : Nat) : (vT cR23_Step xs).drop (n * 7) = vT cR23_Step (xs.drop n) := vT_drop cR23_Step_len xs n
def unR23_Step : List Value → Option R23_Step
  | [.int .i64 a1, .int .i64 a2, .int .i64 a3, .bool a4, .int .u64 a5, .int .u64 a6, .bool a7] => some (R23_Step.mk a1 a2 a3 (api_Addr.mk a4 a5 a6) a7)
  | _ => none
theorem unR23_Step_eq (cs : List Value) (x : R23_Step) (h : unR23_Step cs = some x) : cs = cR23_Step x := by
  unfold unR23_Step at h; split at h
  · cases h; rfl
  · cases h
theorem unR23_Step_c (x : R23_Step) : unR23_Step (cR23_Step x) = some x := rfl
def cstateless_Clue (x : stateless_Clue) : List Value := [.bool x.First, .bool x.Has, .int .u64 x.Cookie]
theorem cstateless_Clue_len (x : stateless_Clue) : (cstateless_Clue x).length = 3 := rfl
theorem cstateless_Clue_flat (x : stateless_Clue) : flatV.flatL (cstateless_Clue x) = true := rfl
theorem cstateless_Clue_one (x : stateless_Clue) : (cstateless_Clue x).all oneC = true := rfl
@[simp] theorem cstateless_Clue_lens (xs : List stateless_Clue) : (vT cstateless_Clue xs).length = xs.length * 3 := vT_len cstateless_Clue_len xs
@[simp] theorem cstateless_Clue_take (xs : List stateless_Clue) (n : Nat) : (vT cstateless_Clue xs).take (n * 3) = vT cstateless_Clue (xs.take n) := vT_take cstateless_Clue_len xs n
@[simp] theorem cstateless_Clue_drop (xs : List stateless_Clue) (n : Nat) : (vT cstateless_Clue xs).drop (n * 3) = vT cstateless_Clue (xs.drop n) := vT_drop cstateless_Clue_len xs n
def chealth_Rule (x : health_Rule) : List Value := [.int .i64 x.Rise, .int .i64 x.Fall]
theorem chealth_Rule_len (x : health_Rule) : (chealth_Rule x).length = 2 := rfl
theorem chealth_Rule_flat (x : health_Rule) : flatV.flatL (chealth_Rule x) = true := rfl
theorem chealth_Rule_one (x : health_Rule) : (chealth_Rule x).all oneC = true := rfl
@[simp] theorem chealth_Rule_lens (xs : List health_Rule) : (vT chealth_Rule xs).length = xs.length * 2 := vT_len chealth_Rule_len xs
@[simp] theorem chealth_Rule_take (xs : List health_Rule) (n : Nat) : (vT chealth_Rule xs).take (n * 2) = vT chealth_Rule (xs.take n) := vT_take chealth_Rule_len xs n
@[simp] theorem chealth_Rule_drop (xs : List health_Rule) (n : Nat) : (vT chealth_Rule xs).drop (n * 2) = vT chealth_Rule (xs.drop n) := vT_drop chealth_Rule_len xs n
def unhealth_Rule : List Value → Option health_Rule
  | [.int .i64 a1, .int .i64 a2] => some (health_Rule.mk a1 a2)
  | _ => none
theorem unhealth_Rule_eq (cs : List Value) (x : health_Rule) (h : unhealth_Rule cs = some x) : cs = chealth_Rule x := by
  unfold unhealth_Rule at h; split at h
  · cases h; rfl
  · cases h
def uvhealth_Rule : Value → Option health_Rule
  | .agg ⟨cs⟩ => unhealth_Rule cs
  | _ => none
theorem uvhealth_Rule_eq (v : Value) (x : health_Rule) (h : uvhealth_Rule v = some x) : v = .agg ⟨chealth_Rule x⟩ := by
  unfold uvhealth_Rule at h; split at h
  · rw [unhealth_Rule_eq _ _ h]
  · cases h
theorem uvhealth_Rule_c (x : health_Rule) : uvhealth_Rule (.agg ⟨chealth_Rule x⟩) = some x := rfl
def capi_Backend (x : api_Backend) : List Value := [.int .i64 x.ID, .int .i64 x.Weight, .int .i64 x.State, .bool x.Addr.V6, .int .u64 x.Addr.Hi, .int .u64 x.Addr.Lo]
theorem capi_Backend_len (x : api_Backend) : (capi_Backend x).length = 6 := rfl
theorem capi_Backend_flat (x : api_Backend) : flatV.flatL (capi_Backend x) = true := rfl
theorem capi_Backend_one (x : api_Backend) : (capi_Backend x).all oneC = true := rfl
@[simp] theorem capi_Backend_lens (xs : List api_Backend) : (vT capi_Backend xs).length = xs.length * 6 := vT_len capi_Backend_len xs
@[simp] theorem capi_Backend_take (xs : List api_Backend) (n : Nat) : (vT capi_Backend xs).take (n * 6) = vT capi_Backend (xs.take n) := vT_take capi_Backend_len xs n
@[simp] theorem capi_Backend_drop (xs : List api_Backend) (n : Nat) : (vT capi_Backend xs).drop (n * 6) = vT capi_Backend (xs.drop n) := vT_drop capi_Backend_len xs n
def chealth_State (x : health_State) : List Value := [.bool x.Up, .int .i64 x.Run]
theorem chealth_State_len (x : health_State) : (chealth_State x).length = 2 := rfl
theorem chealth_State_flat (x : health_State) : flatV.flatL (chealth_State x) = true := rfl
theorem chealth_State_one (x : health_State) : (chealth_State x).all oneC = true := rfl
@[simp] theorem chealth_State_lens (xs : List health_State) : (vT chealth_State xs).length = xs.length * 2 := vT_len chealth_State_len xs
@[simp] theorem chealth_State_take (xs : List health_State) (n : Nat) : (vT chealth_State xs).take (n * 2) = vT chealth_State (xs.take n) := vT_take chealth_State_len xs n
@[simp] theorem chealth_State_drop (xs : List health_State) (n : Nat) : (vT chealth_State xs).drop (n * 2) = vT chealth_State (xs.drop n) := vT_drop chealth_State_len xs n
def cregistry_row (x : registry_row) : List Value := [.int .i64 x.Backend.ID, .int .i64 x.Backend.Weight, .int .i64 x.Backend.State, .bool x.Backend.Addr.V6, .int .u64 x.Backend.Addr.Hi, .int .u64 x.Backend.Addr.Lo, .bool x.drains, .bool x.health.Up, .int .i64 x.health.Run]
theorem cregistry_row_len (x : registry_row) : (cregistry_row x).length = 9 := rfl
theorem cregistry_row_flat (x : registry_row) : flatV.flatL (cregistry_row x) = true := rfl
theorem cregistry_row_one (x : registry_row) : (cregistry_row x).all oneC = true := rfl
@[simp] theorem cregistry_row_lens (xs : List registry_row) : (vT cregistry_row xs).length = xs.length * 9 := vT_len cregistry_row_len xs
@[simp] theorem cregistry_row_take (xs : List registry_row) (n : Nat) : (vT cregistry_row xs).take (n * 9) = vT cregistry_row (xs.take n) := vT_take cregistry_row_len xs n
@[simp] theorem cregistry_row_drop (xs : List registry_row) (n : Nat) : (vT cregistry_row xs).drop (n * 9) = vT cregistry_row (xs.drop n) := vT_drop cregistry_row_len xs n
def unregistry_row : List Value → Option registry_row
  | [.int .i64 a1, .int .i64 a2, .int .i64 a3, .bool a4, .int .u64 a5, .int .u64 a6, .bool a7, .bool a8, .int .i64 a9] => some (registry_row.mk (api_Backend.mk a1 a2 a3 (api_Addr.mk a4 a5 a6)) a7 (health_State.mk a8 a9))
  | _ => none
theorem unregistry_row_eq (cs : List Value) (x : registry_row) (h : unregistry_row cs = some x) : cs = cregistry_row x := by
  unfold unregistry_row at h; split at h
  · cases h; rfl
  · cases h
theorem unregistry_row_c (x : registry_row) : unregistry_row (cregistry_row x) = some x := rfl
def uvregistry_row : Value → Option registry_row
  | .agg ⟨cs⟩ => unregistry_row cs
  | _ => none
theorem uvregistry_row_eq (v : Value) (x : registry_row) (h : uvregistry_row v = some x) : v = .agg ⟨cregistry_row x⟩ := by
  unfold uvregistry_row at h; split at h
  · rw [unregistry_row_eq _ _ h]
  · cases h
theorem uvregistry_row_c (x : registry_row) : uvregistry_row (.agg ⟨cregistry_row x⟩) = some x := rfl
def capi_Layout (x : api_Layout) : List Value := [.bool x.Wide, .int .i64 x.Slot, .int .i64 x.Gen]
theorem capi_Layout_len (x : api_Layout) : (capi_Layout x).length = 3 := rfl
theorem capi_Layout_flat (x : api_Layout) : flatV.flatL (capi_Layout x) = true := rfl
theorem capi_Layout_one (x : api_Layout) : (capi_Layout x).all oneC = true := rfl
@[simp] theorem capi_Layout_lens (xs : List api_Layout) : (vT capi_Layout xs).length = xs.length * 3 := vT_len capi_Layout_len xs
@[simp] theorem capi_Layout_take (xs : List api_Layout) (n : Nat) : (vT capi_Layout xs).take (n * 3) = vT capi_Layout (xs.take n) := vT_take capi_Layout_len xs n
@[simp] theorem capi_Layout_drop (xs : List api_Layout) (n : Nat) : (vT capi_Layout xs).drop (n * 3) = vT capi_Layout (xs.drop n) := vT_drop capi_Layout_len xs n
def unapi_Layout : List Value → Option api_Layout
  | [.bool a1, .int .i64 a2, .int .i64 a3] => some (api_Layout.mk a1 a2 a3)
  | _ => none
theorem unapi_Layout_eq (cs : List Value) (x : api_Layout) (h : unapi_Layout cs = some x) : cs = capi_Layout x := by
  unfold unapi_Layout at h; split at h
  · cases h; rfl
  · cases h
def uvapi_Layout : Value → Option api_Layout
  | .agg ⟨cs⟩ => unapi_Layout cs
  | _ => none
theorem uvapi_Layout_eq (v : Value) (x : api_Layout) (h : uvapi_Layout v = some x) : v = .agg ⟨capi_Layout x⟩ := by
  unfold uvapi_Layout at h; split at h
  · rw [unapi_Layout_eq _ _ h]
  · cases h
theorem uvapi_Layout_c (x : api_Layout) : uvapi_Layout (.agg ⟨capi_Layout x⟩) = some x := rfl
def cArr4_Int (x : Arr4_Int) : List Value := [.int .u64 x.e0, .int .u64 x.e1, .int .u64 x.e2, .int .u64 x.e3]
theorem cArr4_Int_len (x : Arr4_Int) : (cArr4_Int x).length = 4 := rfl
theorem cArr4_Int_flat (x : Arr4_Int) : flatV.flatL (cArr4_Int x) = true := rfl
theorem cArr4_Int_one (x : Arr4_Int) : (cArr4_Int x).all oneC = true := rfl
@[simp] theorem cArr4_Int_lens (xs : List Arr4_Int) : (vT cArr4_Int xs).length = xs.length * 4 := vT_len cArr4_Int_len xs
@[simp] theorem cArr4_Int_take (xs : List Arr4_Int) (n : Nat) : (vT cArr4_Int xs).take (n * 4) = vT cArr4_Int (xs.take n) := vT_take cArr4_Int_len xs n
@[simp] theorem cArr4_Int_drop (xs : List Arr4_Int) (n : Nat) : (vT cArr4_Int xs).drop (n * 4) = vT cArr4_Int (xs.drop n) := vT_drop cArr4_Int_len xs n
def unArr4_Int : List Value → Option Arr4_Int
  | [.int .u64 a1, .int .u64 a2, .int .u64 a3, .int .u64 a4] => some (Arr4_Int.mk a1 a2 a3 a4)
  | _ => none
theorem unArr4_Int_eq (cs : List Value) (x : Arr4_Int) (h : unArr4_Int cs = some x) : cs = cArr4_Int x := by
  unfold unArr4_Int at h; split at h
  · cases h; rfl
  · cases h
theorem unArr4_Int_c (x : Arr4_Int) : unArr4_Int (cArr4_Int x) = some x := rfl
def csip_Hasher (x : sip_Hasher) : List Value := [.bool x.made, .int .u64 x.s.e0, .int .u64 x.s.e1, .int .u64 x.s.e2, .int .u64 x.s.e3, .int .u64 x.last, .int .i64 x.count]
theorem csip_Hasher_len (x : sip_Hasher) : (csip_Hasher x).length = 7 := rfl
theorem csip_Hasher_flat (x : sip_Hasher) : flatV.flatL (csip_Hasher x) = true := rfl
theorem csip_Hasher_one (x : sip_Hasher) : (csip_Hasher x).all oneC = true := rfl
@[simp] theorem csip_Hasher_lens (xs : List sip_Hasher) : (vT csip_Hasher xs).length = xs.length * 7 := vT_len csip_Hasher_len xs
@[simp] theorem csip_Hasher_take (xs : List sip_Hasher) (n : Nat) : (vT csip_Hasher xs).take (n * 7) = vT csip_Hasher (xs.take n) := vT_take csip_Hasher_len xs n
@[simp] theorem csip_Hasher_drop (xs : List sip_Hasher) (n : Nat) : (vT csip_Hasher xs).drop (n * 7) = vT csip_Hasher (xs.drop n) := vT_drop csip_Hasher_len xs n
def unsip_Hasher : List Value → Option sip_Hasher
  | [.bool a1, .int .u64 a2, .int .u64 a3, .int .u64 a4, .int .u64 a5, .int .u64 a6, .int .i64 a7] => some (sip_Hasher.mk a1 (Arr4_Int.mk a2 a3 a4 a5) a6 a7)
  | _ => none
theorem unsip_Hasher_eq (cs : List Value) (x : sip_Hasher) (h : unsip_Hasher cs = some x) : cs = csip_Hasher x := by
  unfold unsip_Hasher at h; split at h
  · cases h; rfl
  · cases h
theorem unsip_Hasher_c (x : sip_Hasher) : unsip_Hasher (csip_Hasher x) = some x := rfl
def ccookie_layout (x : cookie_layout) : List Value := [.bool x.Layout.Wide, .int .i64 x.Layout.Slot, .int .i64 x.Layout.Gen]
theorem ccookie_layout_len (x : cookie_layout) : (ccookie_layout x).length = 3 := rfl
theorem ccookie_layout_flat (x : cookie_layout) : flatV.flatL (ccookie_layout x) = true := rfl
theorem ccookie_layout_one (x : cookie_layout) : (ccookie_layout x).all oneC = true := rfl
@[simp] theorem ccookie_layout_lens (xs : List cookie_layout) : (vT ccookie_layout xs).length = xs.length * 3 := vT_len ccookie_layout_len xs
@[simp] theorem ccookie_layout_take (xs : List cookie_layout) (n : Nat) : (vT ccookie_layout xs).take (n * 3) = vT ccookie_layout (xs.take n) := vT_take ccookie_layout_len xs n
@[simp] theorem ccookie_layout_drop (xs : List cookie_layout) (n : Nat) : (vT ccookie_layout xs).drop (n * 3) = vT ccookie_layout (xs.drop n) := vT_drop ccookie_layout_len xs n
def uncookie_layout : List Value → Option cookie_layout
  | [.bool a1, .int .i64 a2, .int .i64 a3] => some (cookie_layout.mk (api_Layout.mk a1 a2 a3))
  | _ => none
theorem uncookie_layout_eq (cs : List Value) (x : cookie_layout) (h : uncookie_layout cs = some x) : cs = ccookie_layout x := by
  unfold uncookie_layout at h; split at h
  · cases h; rfl
  · cases h
def uvcookie_layout : Value → Option cookie_layout
  | .agg ⟨cs⟩ => uncookie_layout cs
  | _ => none
theorem uvcookie_layout_eq (v : Value) (x : cookie_layout) (h : uvcookie_layout v = some x) : v = .agg ⟨ccookie_layout x⟩ := by
  unfold uvcookie_layout at h; split at h
  · rw [uncookie_layout_eq _ _ h]
  · cases h
theorem uvcookie_layout_c (x : cookie_layout) : uvcookie_layout (.agg ⟨ccookie_layout x⟩) = some x := rfl
def cR23_Row (x : R23_Row) : List Value := [.int .i64 x.ID, .int .i64 x.Weight, .bool x.Addr.V6, .int .u64 x.Addr.Hi, .int .u64 x.Addr.Lo, .bool x.Drain, .bool x.Health.Up, .int .i64 x.Health.Run]
theorem cR23_Row_len (x : R23_Row) : (cR23_Row x).length = 8 := rfl
theorem cR23_Row_flat (x : R23_Row) : flatV.flatL (cR23_Row x) = true := rfl
theorem cR23_Row_one (x : R23_Row) : (cR23_Row x).all oneC = true := rfl
@[simp] theorem cR23_Row_lens (xs : List R23_Row) : (vT cR23_Row xs).length = xs.length * 8 := vT_len cR23_Row_len xs
@[simp] theorem cR23_Row_take (xs : List R23_Row) (n : Nat) : (vT cR23_Row xs).take (n * 8) = vT cR23_Row (xs.take n) := vT_take cR23_Row_len xs n
@[simp] theorem cR23_Row_drop (xs : List R23_Row) (n : Nat) : (vT cR23_Row xs).drop (n * 8) = vT cR23_Row (xs.drop n) := vT_drop cR23_Row_len xs n
def unR23_Row : List Value → Option R23_Row
  | [.int .i64 a1, .int .i64 a2, .bool a3, .int .u64 a4, .int .u64 a5, .bool a6, .bool a7, .int .i64 a8] => some (R23_Row.mk a1 a2 (api_Addr.mk a3 a4 a5) a6 (health_State.mk a7 a8))
  | _ => none
theorem unR23_Row_eq (cs : List Value) (x : R23_Row) (h : unR23_Row cs = some x) : cs = cR23_Row x := by
  unfold unR23_Row at h; split at h
  · cases h; rfl
  · cases h
theorem unR23_Row_c (x : R23_Row) : unR23_Row (cR23_Row x) = some x := rfl
def uvR23_Row : Value → Option R23_Row
  | .agg ⟨cs⟩ => unR23_Row cs
  | _ => none
theorem uvR23_Row_eq (v : Value) (x : R23_Row) (h : uvR23_Row v = some x) : v = .agg ⟨cR23_Row x⟩ := by
  unfold uvR23_Row at h; split at h
  · rw [unR23_Row_eq _ _ h]
  · cases h
theorem uvR23_Row_c (x : R23_Row) : uvR23_Row (.agg ⟨cR23_Row x⟩) = some x := rfl
def udregistry_Registry (k : Nat) : Value → List (Option (List Value)) → Option registry_Registry
  | .pointer (some ⟨k0, 0, none⟩), [some [.int .i64 a1, .int .i64 a2, .slice (some ⟨k1, 0, none⟩) n1 s1, .int .i64 a3, .int .i64 a4], some c1] => match (unR 9 unregistry_row) c1 with | some x1 => (if k0 = k + 0 ∧ k1 = k + 1 ∧ n1 = x1.length ∧ s1 = 9 then some (registry_Registry.mk (health_Rule.mk a1 a2) x1 a3 a4) else none) | none => none
  | _, _ => none
theorem udregistry_Registry_eq {k : Nat} {v : Value} {cs : List (Option (List Value))} {x : registry_Registry} (h : udregistry_Registry k v cs = some x) : v = .pointer (some ⟨k + 0, 0, none⟩) ∧ cs = [some [.int .i64 x.rule.Rise, .int .i64 x.rule.Fall, .slice (some ⟨k + 1, 0, none⟩) x.rows.length 9, .int .i64 x.last, .int .i64 x.version], some (vT cregistry_row x.rows)] := by
  unfold udregistry_Registry at h; split at h <;> try (cases h; done)
  split at h <;> try (cases h; done)
  rename_i x1 e1
  split at h <;> cases h
  rename_i hk
  obtain ⟨rfl, rfl, rfl, rfl⟩ := hk
  obtain rfl := unT_eq unregistry_row_eq e1
  exact ⟨rfl, rfl⟩
theorem udregistry_Registry_c (k : Nat) (x : registry_Registry) : udregistry_Registry k (.pointer (some ⟨k + 0, 0, none⟩)) [some [.int .i64 x.rule.Rise, .int .i64 x.rule.Fall, .slice (some ⟨k + 1, 0, none⟩) x.rows.length 9, .int .i64 x.last, .int .i64 x.version], some (vT cregistry_row x.rows)] = some x := by
  simp only [udregistry_Registry, unR_vT cregistry_row_len (by decide) unregistry_row_c]; simp
def udR23_Registry (k : Nat) : Value → List (Option (List Value)) → Option R23_Registry
  | .pointer (some ⟨k0, 0, none⟩), [some [.int .i64 a1, .int .i64 a2, .slice (some ⟨k1, 0, none⟩) n1 s1, .int .i64 a3, .int .i64 a4], some c1] => match (unR 8 unR23_Row) c1 with | some x1 => (if k0 = k + 0 ∧ k1 = k + 1 ∧ n1 = x1.length ∧ s1 = 8 then some (R23_Registry.mk (health_Rule.mk a1 a2) x1 a3 a4) else none) | none => none
  | _, _ => none
theorem udR23_Registry_eq {k : Nat} {v : Value} {cs : List (Option (List Value))} {x : R23_Registry} (h : udR23_Registry k v cs = some x) : v = .pointer (some ⟨k + 0, 0, none⟩) ∧ cs = [some [.int .i64 x.Rule.Rise, .int .i64 x.Rule.Fall, .slice (some ⟨k + 1, 0, none⟩) x.L.length 8, .int .i64 x.Last, .int .i64 x.Version], some (vT cR23_Row x.L)] := by
  unfold udR23_Registry at h; split at h <;> try (cases h; done)
  split at h <;> try (cases h; done)
  rename_i x1 e1
  split at h <;> cases h
  rename_i hk
  obtain ⟨rfl, rfl, rfl, rfl⟩ := hk
  obtain rfl := unT_eq unR23_Row_eq e1
  exact ⟨rfl, rfl⟩
theorem udR23_Registry_c (k : Nat) (x : R23_Registry) : udR23_Registry k (.pointer (some ⟨k + 0, 0, none⟩)) [some [.int .i64 x.Rule.Rise, .int .i64 x.Rule.Fall, .slice (some ⟨k + 1, 0, none⟩) x.L.length 8, .int .i64 x.Last, .int .i64 x.Version], some (vT cR23_Row x.L)] = some x := by
  simp only [udR23_Registry, unR_vT cR23_Row_len (by decide) unR23_Row_c]; simp
def health_withinF (n : Int) (low : Int) (high : Int) : Option Bool :=
  cond (decide (low ≤ n))
    (
    some (decide (n ≤ high)))
    (
    some (false))
def rx121 (x : Bool) : SRes := ⟨.bool x, [], []⟩
def r121 (g : Int → Int → Int → Option Bool) : Dec := dV (asI .i64) fun (y0 : Int) => dV (asI .i64) fun (y1 : Int) => dV (asI .i64) fun (y2 : Int) => dEnd (ofG (g y0 y1 y2) rx121)
theorem r121_c {g : Int → Int → Int → Option Bool} {y0 : Int} {y1 : Int} {y2 : Int} {x : Bool} (hx : g y0 y1 y2 = some x) : r121 g [.int .i64 y0, .int .i64 y1, .int .i64 y2] [] = some (rx121 x) := (dV_eq (asI_c _)).trans ((dV_eq (asI_c _)).trans ((dV_eq (asI_c _)).trans (ofG_eq hx)))
def s121 (g : Int → Int → Int → Option Bool) : Summ := ⟨[.v, .v, .v], r121 g⟩
theorem r121_eq {g : Int → Int → Int → Option Bool} {y0 : Int} {y1 : Int} {y2 : Int} {x : Bool} (hx : g y0 y1 y2 = some x) : (s121 g).run [.int .i64 y0, .int .i64 y1, .int .i64 y2] [] = some (rx121 x) := r121_c hx
abbrev sums121 : List (Nat × Summ) := []
theorem leads121 (hS : SumsOK Try.prog (aget (sums121))) (n : Int) (low : Int) (high : Int) (res : Bool) (h : health_withinF n low high = some res) :
    Leads Try.prog 121 0 ⟨⟨121, 15, [(0, .int .i64 n), (1, .int .i64 low), (2, .int .i64 high)], [.code k121_3], [], false, none⟩, [], [], 0⟩ (fun v H _ => Res 0 (rx121 res) v H) := by
  unfold health_withinF at h
  refine ev_ok tab_ok hS true 3000 ?_
  conv => whnf
  refine br.h h ?_ ?_ ?_
  · rfl
  · clear h; intro hb h; conv => whnf
    all_goals (cases h; exact Res.z rfl rfl rfl)
  clear h; intro hb h; conv => whnf
  all_goals (cases h; exact Res.z rfl rfl rfl)
theorem ok121 (hS : SumsOK Try.prog (aget (sums121))) : SumOK Try.prog 121 (s121 (health_withinF)) := by
  refine SumOK.of_leads tab_ok (fun ar os r ha hr => ?_) ⟨Try.f121, rfl, by decide, rfl⟩
  replace hr : r121 (health_withinF) ar (conts os) = some r := hr
  unfold r121 at hr
  generalize hc : conts os = C at hr
  replace hr := dV.elim hr; obtain ⟨v0, l1, y0, rfl, e0, hr⟩ := hr; obtain rfl := asI_eq _ _ _ e0
  replace hr := dV.elim hr; obtain ⟨v1, l2, y1, rfl, e1, hr⟩ := hr; obtain rfl := asI_eq _ _ _ e1
  replace hr := dV.elim hr; obtain ⟨v2, l3, y2, rfl, e2, hr⟩ := hr; obtain rfl := asI_eq _ _ _ e2
  replace hr := dFin hr; obtain ⟨rfl, rfl, x, h, rfl⟩ := hr
  obtain rfl := kinds_nil hc
  exact ⟨_, rfl, leads121 hS _ _ _ x h⟩
def health_within : Int → Int → Int → Option Bool := health_withinF
theorem lift121 : SumOK Try.prog 121 (s121 health_within) := ok121 (SumsOK.of_tab trivial)
def health_RightF (health_within : Int → Int → Int → Option Bool) (ra0 : health_Rule) : Option Bool :=
  (health_within ra0.Rise 1 100).bind fun w =>
  cond (w)
    (
    (health_within ra0.Fall 1 100).bind fun w1 =>
    some (w1))
    (
    some (false))
def rx69 (x : Bool) : SRes := ⟨.bool x, [], []⟩
def r69 (g : health_Rule → Option Bool) : Dec := dV uvhealth_Rule fun (y0 : health_Rule) => dEnd (ofG (g y0) rx69)
theorem r69_c {g : health_Rule → Option Bool} {y0 : health_Rule} {x : Bool} (hx : g y0 = some x) : r69 g [.agg ⟨[.int .i64 y0.Rise, .int .i64 y0.Fall]⟩] [] = some (rx69 x) := (dV_eq (uvhealth_Rule_c _)).trans (ofG_eq hx)
def s69 (g : health_Rule → Option Bool) : Summ := ⟨[.v], r69 g⟩
theorem r69_eq {g : health_Rule → Option Bool} {y0 : health_Rule} {x : Bool} (hx : g y0 = some x) : (s69 g).run [.agg ⟨[.int .i64 y0.Rise, .int .i64 y0.Fall]⟩] [] = some (rx69 x) := r69_c hx
abbrev sums69 (health_within : Int → Int → Int → Option Bool) : List (Nat × Summ) := [(121, s121 health_within)]
theorem leads69 (health_within : Int → Int → Int → Option Bool) (hS : SumsOK Try.prog (aget (sums69 health_within))) (ra0 : health_Rule) (res : Bool) (h : health_RightF health_within ra0 = some res) :
    Leads Try.prog 69 0 ⟨⟨69, 11, [(0, .agg ⟨[.int .i64 ra0.Rise, .int .i64 ra0.Fall]⟩)], [.code k69_3], [], false, none⟩, [], [], 0⟩ (fun v H _ => Res 0 (rx69 res) v H) := by
  unfold health_RightF at h
  refine ev_ok tab_ok hS true 3000 ?_
  conv => whnf
  replace h := obind.elim h; obtain ⟨w, hy, h⟩ := h
  refine sumK.q rfl rfl (r121_eq hy) rfl rfl rfl ?_
  conv => whnf
  refine br.h2 h ?_ ?_ ?_
  · rfl
  · clear h; intro hb h; conv => whnf
    all_goals (cases h; exact Res.z rfl rfl rfl)
  clear h; intro hb h; conv => whnf
  replace h := obind.elim h; obtain ⟨w1, hy, h⟩ := h
  refine sumK.q rfl rfl (r121_eq hy) rfl rfl rfl ?_
  conv => whnf
  all_goals (cases h; exact Res.z rfl rfl rfl)
theorem ok69 (health_within : Int → Int → Int → Option Bool) (hS : SumsOK Try.prog (aget (sums69 health_within))) : SumOK Try.prog 69 (s69 (health_RightF health_within)) := by
  refine SumOK.of_leads tab_ok (fun ar os r ha hr => ?_) ⟨Try.f69, rfl, by decide, rfl⟩
  replace hr : r69 (health_RightF health_within) ar (conts os) = some r := hr
  unfold r69 at hr
  generalize hc : conts os = C at hr
  replace hr := dV.elim hr; obtain ⟨v0, l1, y0, rfl, e0, hr⟩ := hr; obtain rfl := uvhealth_Rule_eq _ _ e0
  replace hr := dFin hr; obtain ⟨rfl, rfl, x, h, rfl⟩ := hr
  obtain rfl := kinds_nil hc
  exact ⟨_, rfl, leads69 health_within hS _ x h⟩
def health_Right : health_Rule → Option Bool := health_RightF health_within
theorem lift69 : SumOK Try.prog 69 (s69 health_Right) := ok69 health_within (SumsOK.of_tab ⟨lift121, trivial⟩)
def registry_Registry_given_nilF : Option Bool :=
  some (false)
def rx70n (x : Bool) : SRes := ⟨.bool x, [], [none, none]⟩
def r70n (g : Option Bool) : Dec := dNl 2 <| dEnd (ofG (g) rx70n)
theorem r70n_c {g : Option Bool} {x : Bool} (hx : g = some x) : r70n g [.pointer none] [none, none] = some (rx70n x) := (dNl_2).trans (ofG_eq hx)
abbrev sums70n : List (Nat × Summ) := []
theorem leads70n (hS : SumsOK Try.prog (aget (sums70n))) (res : Bool) (h : registry_Registry_given_nilF = some res) :
    Leads Try.prog 70 2 ⟨⟨70, 12, [(0, .pointer none)], [.code k70_3], [], false, none⟩, [], [], 2⟩ (fun v H _ => Res 2 (rx70n res) v H) := by
  unfold registry_Registry_given_nilF at h
  refine ev_ok tab_ok hS true 3000 ?_
  conv => whnf
  all_goals (cases h)
  all_goals exact Res.of [] rfl nw_0 (by decide) js_0 (wr_n (wr_n wr_0))
def registry_Registry_givenF (health_Right : health_Rule → Option Bool) (ga0 : registry_Registry) : Option Bool :=
  (health_Right ga0.rule).bind fun xr =>
  some (xr)
def rx70 (x : Bool) : SRes := ⟨.bool x, [], [none, none]⟩
def r70 (g : registry_Registry → Option Bool) : Dec := dTr 2 (udregistry_Registry 0) fun (y0 : registry_Registry) => dEnd (ofG (g y0) rx70)
theorem r70_c {g : registry_Registry → Option Bool} {y0 : registry_Registry} {x : Bool} (hx : g y0 = some x) : r70 g [.pointer (some ⟨0, 0, none⟩)] [some [.int .i64 y0.rule.Rise, .int .i64 y0.rule.Fall, .slice (some ⟨1, 0, none⟩) y0.rows.length 9, .int .i64 y0.last, .int .i64 y0.version], some (vT cregistry_row y0.rows)] = some (rx70 x) := (dTr_eq rfl rfl (udregistry_Registry_c 0 _)).trans (ofG_eq hx)
def s70 (g : registry_Registry → Option Bool) (g2 : Option Bool) : Summ := ⟨[.tr [⟨none, 0, 0, 0, none⟩, ⟨some 0, 2, 0, 0, some 9⟩]], pickN 0 (r70 g) (r70n g2)⟩
theorem r70_eq {g : registry_Registry → Option Bool} {g2 : Option Bool} {y0 : registry_Registry} {x : Bool} (hx : g y0 = some x) : (s70 g g2).run [.pointer (some ⟨0, 0, none⟩)] [some [.int .i64 y0.rule.Rise, .int .i64 y0.rule.Fall, .slice (some ⟨1, 0, none⟩) y0.rows.length 9, .int .i64 y0.last, .int .i64 y0.version], some (vT cregistry_row y0.rows)] = some (rx70 x) := r70_c hx
theorem r70n_eq {g2 : registry_Registry → Option Bool} {g : Option Bool} {x : Bool} (hx : g = some x) : (s70 g2 g).run [.pointer none] [none, none] = some (rx70n x) := r70n_c hx
abbrev sums70 (health_Right : health_Rule → Option Bool) : List (Nat × Summ) := [(69, s69 health_Right)]
theorem leads70 (health_Right : health_Rule → Option Bool) (hS : SumsOK Try.prog (aget (sums70 health_Right))) (ga0 : registry_Registry) (res : Bool) (h : registry_Registry_givenF health_Right ga0 = some res) :
    Leads Try.prog 70 2 ⟨⟨70, 12, [(0, .pointer (some ⟨0, 0, none⟩))], [.code k70_3], [], false, none⟩, [], [(0, .row false [.int .i64 ga0.rule.Rise, .int .i64 ga0.rule.Fall, .slice (some ⟨1, 0, none⟩) ga0.rows.length 9, .int .i64 ga0.last, .int .i64 ga0.version]), (1, .row false (vT cregistry_row ga0.rows))], 2⟩ (fun v H _ => Res 2 (rx70 res) v H) := by
  unfold registry_Registry_givenF at h
  refine ev_ok tab_ok hS true 3000 ?_
  conv => whnf
  replace h := obind.elim h; obtain ⟨xr, hy, h⟩ := h
  refine sumK.q rfl rfl (r69_eq hy) rfl rfl rfl ?_
  conv => whnf
  all_goals (cases h)
  all_goals exact Res.of [] rfl nw_0 (by decide) js_0 (wr_n (wr_n wr_0))
theorem ok70 (health_Right : health_Rule → Option Bool) (hS : SumsOK Try.prog (aget (sums70 health_Right))) (hS2 : SumsOK Try.prog (aget (sums70n))) : SumOK Try.prog 70 (s70 (registry_Registry_givenF health_Right) (registry_Registry_given_nilF)) := by
  refine SumOK.of_leads tab_ok (fun ar os r ha hr => ?_) ⟨Try.f70, rfl, by decide, rfl⟩
  have hp := pickN.elim hr; clear hr; rcases hp with hr | hr
  · skip
    replace hr : r70 (registry_Registry_givenF health_Right) ar (conts os) = some r := hr
    unfold r70 at hr
    generalize hc : conts os = C at hr
    have hq := dTr.elim hr; clear hr; obtain ⟨v0, l1, c0, C, y0, rfl, rfl, e0, hr⟩ := hq; obtain ⟨rfl, rfl⟩ := udregistry_Registry_eq e0; simp only [List.nil_append, List.cons_append] at hc
    replace hr := dFin hr; obtain ⟨rfl, rfl, x, h, rfl⟩ := hr
    obtain ⟨os, rfl, ha, hc⟩ := kinds_some ha hc
    obtain ⟨os, rfl, ha, hc⟩ := kinds_some ha hc
    obtain rfl := kinds_nil hc
    exact ⟨_, rfl, leads70 health_Right hS _ x h⟩
  · skip
    replace hr : r70n (registry_Registry_given_nilF) ar (conts os) = some r := hr
    unfold r70n at hr
    generalize hc : conts os = C at hr
    have hq := dNl.elim hr; clear hr; obtain ⟨l1, C, rfl, rfl, hr⟩ := hq; simp only [List.replicate, List.nil_append, List.cons_append] at hc
    replace hr := dFin hr; obtain ⟨rfl, rfl, x, h, rfl⟩ := hr
    obtain ⟨os, rfl, ha, hc⟩ := kinds_none ha hc
    obtain ⟨os, rfl, ha, hc⟩ := kinds_none ha hc
    obtain rfl := kinds_nil hc
    exact ⟨_, rfl, leads70n hS2 x h⟩
def registry_Registry_given : registry_Registry → Option Bool := registry_Registry_givenF health_Right
def registry_Registry_given_nil : Option Bool := registry_Registry_given_nilF
theorem lift70 : SumOK Try.prog 70 (s70 registry_Registry_given registry_Registry_given_nil) := ok70 health_Right (SumsOK.of_tab ⟨lift69, trivial⟩) (SumsOK.of_tab trivial)
def registry_weighsF (n : Int) : Option Bool :=
  cond (decide (0 ≤ n))
    (
    some (decide (n ≤ 1000)))
    (
    some (false))
def rx81 (x : Bool) : SRes := ⟨.bool x, [], []⟩
def r81 (g : Int → Option Bool) : Dec := dV (asI .i64) fun (y0 : Int) => dEnd (ofG (g y0) rx81)
theorem r81_c {g : Int → Option Bool} {y0 : Int} {x : Bool} (hx : g y0 = some x) : r81 g [.int .i64 y0] [] = some (rx81 x) := (dV_eq (asI_c _)).trans (ofG_eq hx)
def s81 (g : Int → Option Bool) : Summ := ⟨[.v], r81 g⟩
theorem r81_eq {g : Int → Option Bool} {y0 : Int} {x : Bool} (hx : g y0 = some x) : (s81 g).run [.int .i64 y0] [] = some (rx81 x) := r81_c hx
abbrev sums81 : List (Nat × Summ) := []
theorem leads81 (hS : SumsOK Try.prog (aget (sums81))) (n : Int) (res : Bool) (h : registry_weighsF n = some res) :
    Leads Try.prog 81 0 ⟨⟨81, 9, [(0, .int .i64 n)], [.code k81_3], [], false, none⟩, [], [], 0⟩ (fun v H _ => Res 0 (rx81 res) v H) := by
  unfold registry_weighsF at h
  refine ev_ok tab_ok hS true 3000 ?_
  conv => whnf
  refine br.h h ?_ ?_ ?_
  · rfl
  · clear h; intro hb h; conv => whnf
    all_goals (cases h; exact Res.z rfl rfl rfl)
  clear h; intro hb h; conv => whnf
  all_goals (cases h; exact Res.z rfl rfl rfl)
theorem ok81 (hS : SumsOK Try.prog (aget (sums81))) : SumOK Try.prog 81 (s81 (registry_weighsF)) := by
  refine SumOK.of_leads tab_ok (fun ar os r ha hr => ?_) ⟨Try.f81, rfl, by decide, rfl⟩
  replace hr : r81 (registry_weighsF) ar (conts os) = some r := hr
  unfold r81 at hr
  generalize hc : conts os = C at hr
  replace hr := dV.elim hr; obtain ⟨v0, l1, y0, rfl, e0, hr⟩ := hr; obtain rfl := asI_eq _ _ _ e0
  replace hr := dFin hr; obtain ⟨rfl, rfl, x, h, rfl⟩ := hr
  obtain rfl := kinds_nil hc
  exact ⟨_, rfl, leads81 hS _ x h⟩
def registry_weighs : Int → Option Bool := registry_weighsF
theorem lift81 : SumOK Try.prog 81 (s81 registry_weighs) := ok81 (SumsOK.of_tab trivial)
def addr_RightF (a : api_Addr) : Option Bool :=
  cond (a.V6)
    (
    some (true))
    (
    cond (a.Hi == 0)
      (
      some (decide (a.Lo < 4294967296)))
      (
      some (false)))
def rx82 (x : Bool) : SRes := ⟨.bool x, [], []⟩
def r82 (g : api_Addr → Option Bool) : Dec := dV uvapi_Addr fun (y0 : api_Addr) => dEnd (ofG (g y0) rx82)
theorem r82_c {g : api_Addr → Option Bool} {y0 : api_Addr} {x : Bool} (hx : g y0 = some x) : r82 g [.agg ⟨[.bool y0.V6, .int .u64 y0.Hi, .int .u64 y0.Lo]⟩] [] = some (rx82 x) := (dV_eq (uvapi_Addr_c _)).trans (ofG_eq hx)
def s82 (g : api_Addr → Option Bool) : Summ := ⟨[.v], r82 g⟩
theorem r82_eq {g : api_Addr → Option Bool} {y0 : api_Addr} {x : Bool} (hx : g y0 = some x) : (s82 g).run [.agg ⟨[.bool y0.V6, .int .u64 y0.Hi, .int .u64 y0.Lo]⟩] [] = some (rx82 x) := r82_c hx
abbrev sums82 : List (Nat × Summ) := []
theorem leads82 (hS : SumsOK Try.prog (aget (sums82))) (a : api_Addr) (res : Bool) (h : addr_RightF a = some res) :
    Leads Try.prog 82 0 ⟨⟨82, 15, [(0, .agg ⟨[.bool a.V6, .int .u64 a.Hi, .int .u64 a.Lo]⟩)], [.code k82_3], [], false, none⟩, [], [], 0⟩ (fun v H _ => Res 0 (rx82 res) v H) := by
  unfold addr_RightF at h
  refine ev_ok tab_ok hS true 3000 ?_
  conv => whnf
  refine br.h h ?_ ?_ ?_
  · rfl
  · clear h; intro hb h; conv => whnf
    all_goals (cases h; exact Res.z rfl rfl rfl)
  clear h; intro hb h; conv => whnf
  refine br.h h ?_ ?_ ?_
  · rfl
  · clear h; intro hb h; conv => whnf
    all_goals (cases h; exact Res.z rfl rfl rfl)
  clear h; intro hb h; conv => whnf
  all_goals (cases h; exact Res.z rfl rfl rfl)
theorem ok82 (hS : SumsOK Try.prog (aget (sums82))) : SumOK Try.prog 82 (s82 (addr_RightF)) := by
  refine SumOK.of_leads tab_ok (fun ar os r ha hr => ?_) ⟨Try.f82, rfl, by decide, rfl⟩
  replace hr : r82 (addr_RightF) ar (conts os) = some r := hr
  unfold r82 at hr
  generalize hc : conts os = C at hr
  replace hr := dV.elim hr; obtain ⟨v0, l1, y0, rfl, e0, hr⟩ := hr; obtain rfl := uvapi_Addr_eq _ _ e0
  replace hr := dFin hr; obtain ⟨rfl, rfl, x, h, rfl⟩ := hr
  obtain rfl := kinds_nil hc
  exact ⟨_, rfl, leads82 hS _ x h⟩
def addr_Right : api_Addr → Option Bool := addr_RightF
theorem lift82 : SumOK Try.prog 82 (s82 addr_Right) := ok82 (SumsOK.of_tab trivial)
def registry_Registry_AddF (addr_Right : api_Addr → Option Bool) (registry_Registry_given : registry_Registry → Option Bool) (registry_Registry_given_nil : Option Bool) (registry_weighs : Int → Option Bool) (ga0 : registry_Registry) (weight : Int) (a : api_Addr) : Option (Int × Int × registry_Registry) :=
  (registry_Registry_given ga0).bind fun xg =>
  cond (!xg)
    (
    some ((0, 1, ga0)))
    (
    (registry_weighs weight).bind fun w =>
    cond (!w)
      (
      some ((0, 1, ga0)))
      (
      (addr_Right a).bind fun xr =>
      cond (!xr)
        (
        some ((0, 1, ga0)))
        (
        cond ((ga0.rows.length : Int) == 64)
          (
          some ((0, 9, ga0)))
          (
          cond (ga0.last == 65535)
            (
            some ((0, 9, ga0)))
            (
            oreq (decide ((ga0.rows.length + 1) * 72 ≤ 2 ^ 47)) <|
            let row := ga0.rows ++ [registry_row.mk (api_Backend.mk (wI .i64 (ga0.last + 1)) weight 0 a) false (health_State.mk true 0)]
            some ((wI .i64 (ga0.last + 1), 0, registry_Registry.mk ga0.rule row (wI .i64 (ga0.last + 1)) (wI .i64 (ga0.version + 1)))))))))
def rx26 (x : Int × Int × registry_Registry) : SRes := ⟨.tuple ⟨[.int .i64 x.1, .int .i64 x.2.1]⟩, [(vT cregistry_row x.2.2.rows)], [some [.int .i64 x.2.2.rule.Rise, .int .i64 x.2.2.rule.Fall, .slice (some ⟨0, 0, none⟩) x.2.2.rows.length 9, .int .i64 x.2.2.last, .int .i64 x.2.2.version], none]⟩
def r26 (g : registry_Registry → Int → api_Addr → Option (Int × Int × registry_Registry)) : Dec := dTr 2 (udregistry_Registry 0) fun (y0 : registry_Registry) => dV (asI .i64) fun (y1 : Int) => dV uvapi_Addr fun (y2 : api_Addr) => dEnd (ofG (g y0 y1 y2) rx26)
theorem r26_c {g : registry_Registry → Int → api_Addr → Option (Int × Int × registry_Registry)} {y0 : registry_Registry} {y1 : Int} {y2 : api_Addr} {x : Int × Int × registry_Registry} (hx : g y0 y1 y2 = some x) : r26 g [.pointer (some ⟨0, 0, none⟩), .int .i64 y1, .agg ⟨[.bool y2.V6, .int .u64 y2.Hi, .int .u64 y2.Lo]⟩] [some [.int .i64 y0.rule.Rise, .int .i64 y0.rule.Fall, .slice (some ⟨1, 0, none⟩) y0.rows.length 9, .int .i64 y0.last, .int .i64 y0.version], some (vT cregistry_row y0.rows)] = some (rx26 x) := (dTr_eq rfl rfl (udregistry_Registry_c 0 _)).trans ((dV_eq (asI_c _)).trans ((dV_eq (uvapi_Addr_c _)).trans (ofG_eq hx)))
def s26 (g : registry_Registry → Int → api_Addr → Option (Int × Int × registry_Registry)) : Summ := ⟨[.tr [⟨none, 0, 0, 1, none⟩, ⟨some 0, 2, 0, 2, some 9⟩], .v, .v], r26 g⟩
theorem r26_eq {g : registry_Registry → Int → api_Addr → Option (Int × Int × registry_Registry)} {y0 : registry_Registry} {y1 : Int} {y2 : api_Addr} {x : Int × Int × registry_Registry} (hx : g y0 y1 y2 = some x) : (s26 g).run [.pointer (some ⟨0, 0, none⟩), .int .i64 y1, .agg ⟨[.bool y2.V6, .int .u64 y2.Hi, .int .u64 y2.Lo]⟩] [some [.int .i64 y0.rule.Rise, .int .i64 y0.rule.Fall, .slice (some ⟨1, 0, none⟩) y0.rows.length 9, .int .i64 y0.last, .int .i64 y0.version], some (vT cregistry_row y0.rows)] = some (rx26 x) := r26_c hx
abbrev sums26 (addr_Right : api_Addr → Option Bool) (registry_Registry_given : registry_Registry → Option Bool) (registry_Registry_given_nil : Option Bool) (registry_weighs : Int → Option Bool) : List (Nat × Summ) := [(82, s82 addr_Right), (70, s70 registry_Registry_given registry_Registry_given_nil), (81, s81 registry_weighs)]
theorem leads26 (addr_Right : api_Addr → Option Bool) (registry_Registry_given : registry_Registry → Option Bool) (registry_Registry_given_nil : Option Bool) (registry_weighs : Int → Option Bool) (hS : SumsOK Try.prog (aget (sums26 addr_Right registry_Registry_given registry_Registry_given_nil registry_weighs))) (ga0 : registry_Registry) (weight : Int) (a : api_Addr) (res : Int × Int × registry_Registry) (h : registry_Registry_AddF addr_Right registry_Registry_given registry_Registry_given_nil registry_weighs ga0 weight a = some res) :
    Leads Try.prog 26 2 ⟨⟨26, 72, [(0, .pointer (some ⟨0, 0, none⟩)), (1, .int .i64 weight), (2, .agg ⟨[.bool a.V6, .int .u64 a.Hi, .int .u64 a.Lo]⟩)], [.code k26_21], [], false, none⟩, [], [(0, .cells [.int .i64 ga0.rule.Rise, .int .i64 ga0.rule.Fall, .slice (some ⟨1, 0, none⟩) ga0.rows.length 9, .int .i64 ga0.last, .int .i64 ga0.version]), (1, .row true (vT cregistry_row ga0.rows))], 2⟩ (fun v H _ => Res 2 (rx26 res) v H) := by
  unfold registry_Registry_AddF at h
  refine ev_ok tab_ok hS true 3000 ?_
  conv => whnf
  replace h := obind.elim h; obtain ⟨xg, hy, h⟩ := h
  refine sumK.introF [] (sumRun_of (aqs := [.pointer (some ⟨0, 0, none⟩)]) (ws := [.blk 0 false, .blk 1 false]) (n := 0) (m := 0) (t' := 3) (ra_cons (ra_tr rfl rfl (vp_at rfl rfl rfl rfl (vp_at rfl rfl (rn_T cregistry_row_flat) rfl vp_nil)) rfl) rfl ra_nil) rfl (by rfl) (r70_eq hy) rfl rfl rfl rfl (wb_skip rfl (wb_skip rfl wb_nil)) an_nil rfl) ?_
  conv => whnf
  refine br.h h ?_ ?_ ?_
  · rfl
  · clear h; intro hb h; conv => whnf
    all_goals (cases h)
    all_goals exact Res.of [1] rfl (nw_s (rn_T cregistry_row_flat) (hs_row rfl) nw_0) (by decide) (js_r rfl js_0) (wr_s (rfl) (hs_cells rfl) (wr_n wr_0))
  clear h; intro hb h; conv => whnf
  replace h := obind.elim h; obtain ⟨w, hy, h⟩ := h
  refine sumK.q rfl rfl (r81_eq hy) rfl rfl rfl ?_
  conv => whnf
  refine br.h h ?_ ?_ ?_
  · rfl
  · clear h; intro hb h; conv => whnf
    all_goals (cases h)
    all_goals exact Res.of [1] rfl (nw_s (rn_T cregistry_row_flat) (hs_row rfl) nw_0) (by decide) (js_r rfl js_0) (wr_s (rfl) (hs_cells rfl) (wr_n wr_0))
  clear h; intro hb h; conv => whnf
  replace h := obind.elim h; obtain ⟨xr, hy, h⟩ := h
  refine sumK.q rfl rfl (r82_eq hy) rfl rfl rfl ?_
  conv => whnf
  refine br.h h ?_ ?_ ?_
  · rfl
  · clear h; intro hb h; conv => whnf
    all_goals (cases h)
    all_goals exact Res.of [1] rfl (nw_s (rn_T cregistry_row_flat) (hs_row rfl) nw_0) (by decide) (js_r rfl js_0) (wr_s (rfl) (hs_cells rfl) (wr_n wr_0))
  clear h; intro hb h; conv => whnf
  refine br.h h ?_ ?_ ?_
  · rfl
  · clear h; intro hb h; conv => whnf
    all_goals (cases h)
    all_goals exact Res.of [1] rfl (nw_s (rn_T cregistry_row_flat) (hs_row rfl) nw_0) (by decide) (js_r rfl js_0) (wr_s (rfl) (hs_cells rfl) (wr_n wr_0))
  clear h; intro hb h; conv => whnf
  refine br.h h ?_ ?_ ?_
  · rfl
  · clear h; intro hb h; conv => whnf
    all_goals (cases h)
    all_goals exact Res.of [1] rfl (nw_s (rn_T cregistry_row_flat) (hs_row rfl) nw_0) (by decide) (js_r rfl js_0) (wr_s (rfl) (hs_cells rfl) (wr_n wr_0))
  clear h; intro hb h; conv => whnf
  replace h := oreq.elim h; obtain ⟨hb, h⟩ := h
  refine req.intro (ap_req (of_decide_eq_true hb) (by first | rfl | omega | (simp; done) | (simp; omega) | (simp at *; omega)) rfl (by first | rfl | omega | (simp; done) | (simp; omega) | (simp at *; omega)) (by first | rfl | exact vI_one _ _ | exact vS_one _ | exact vB_one _ | exact vT_one (by first | exact capi_Addr_one | exact capi_Tuple_one | exact capi_Packet_one | exact capi_Key_one | exact cR23_Step_one | exact cstateless_Clue_one | exact chealth_Rule_one | exact capi_Backend_one | exact chealth_State_one | exact cregistry_row_one | exact capi_Layout_one | exact cArr4_Int_one | exact csip_Hasher_one | exact ccookie_layout_one | exact cR23_Row_one) _ | (rw [ofBytes_vI]; exact vI_one _ _) | (simp [vI_one, vS_one, vB_one, vI_drop, vI_take, vS_drop, vS_take]; done) | (simp; exact List.all_eq_true.1 (vT_one (by first | exact capi_Addr_one | exact capi_Tuple_one | exact capi_Packet_one | exact capi_Key_one | exact cR23_Step_one | exact cstateless_Clue_one | exact chealth_Rule_one | exact capi_Backend_one | exact chealth_State_one | exact cregistry_row_one | exact capi_Layout_one | exact cArr4_Int_one | exact csip_Hasher_one | exact ccookie_layout_one | exact cR23_Row_one) _))) rfl) ?_
  conv => whnf
  let row : List registry_row := ga0.rows ++ [registry_row.mk (api_Backend.mk (wI .i64 (ga0.last + 1)) weight 0 a) false (health_State.mk true 0)]
  refine pk_apT cregistry_row_len (xs := ga0.rows) (ys := [registry_row.mk (api_Backend.mk (wI .i64 (ga0.last + 1)) weight 0 a) false (health_State.mk true 0)]) rfl (by first | rfl | omega) (by first | rfl | omega | (simp; done) | (simp; omega) | (simp at *; omega)) (by first | rfl | omega | (simp; done) | (simp; omega) | (simp at *; omega)) ?_
  conv => whnf
  all_goals (cases h)
  all_goals exact Res.of [19] rfl (nw_s (rn_T cregistry_row_flat) (hs_row rfl) nw_0) (by decide) (js_l (by decide) js_0) (wr_s (rfl) (hs_cells rfl) (wr_n wr_0))
theorem ok26 (addr_Right : api_Addr → Option Bool) (registry_Registry_given : registry_Registry → Option Bool) (registry_Registry_given_nil : Option Bool) (registry_weighs : Int → Option Bool) (hS : SumsOK Try.prog (aget (sums26 addr_Right registry_Registry_given registry_Registry_given_nil registry_weighs))) : SumOK Try.prog 26 (s26 (registry_Registry_AddF addr_Right registry_Registry_given registry_Registry_given_nil registry_weighs)) := by
  refine SumOK.of_leads tab_ok (fun ar os r ha hr => ?_) ⟨Try.f26, rfl, by decide, rfl⟩
  replace hr : r26 (registry_Registry_AddF addr_Right registry_Registry_given registry_Registry_given_nil registry_weighs) ar (conts os) = some r := hr
  unfold r26 at hr
  generalize hc : conts os = C at hr
  have hq := dTr.elim hr; clear hr; obtain ⟨v0, l1, c0, C, y0, rfl, rfl, e0, hr⟩ := hq; obtain ⟨rfl, rfl⟩ := udregistry_Registry_eq e0; simp only [List.nil_append, List.cons_append] at hc
  replace hr := dV.elim hr; obtain ⟨v1, l2, y1, rfl, e1, hr⟩ := hr; obtain rfl := asI_eq _ _ _ e1
  replace hr := dV.elim hr; obtain ⟨v2, l3, y2, rfl, e2, hr⟩ := hr; obtain rfl := uvapi_Addr_eq _ _ e2
  replace hr := dFin hr; obtain ⟨rfl, rfl, x, h, rfl⟩ := hr
  obtain ⟨os, rfl, ha, hc⟩ := kinds_some ha hc
  obtain ⟨os, rfl, ha, hc⟩ := kinds_some ha hc
  obtain rfl := kinds_nil hc
  exact ⟨_, rfl, leads26 addr_Right registry_Registry_given registry_Registry_given_nil registry_weighs hS _ _ _ x h⟩
def registry_Registry_Add : registry_Registry → Int → api_Addr → Option (Int × Int × registry_Registry) := registry_Registry_AddF addr_Right registry_Registry_given registry_Registry_given_nil registry_weighs
theorem lift26 : SumOK Try.prog 26 (s26 registry_Registry_Add) := ok26 addr_Right registry_Registry_given registry_Registry_given_nil registry_weighs (SumsOK.of_tab ⟨lift82, lift70, lift81, trivial⟩)
def registry_Registry_find_1F (ra0 : registry_row) (ida1 : Int) : Option Int :=
  let t := if (if 65536 < ida1 then 65536 else ida1) > 0 then if 65536 < ida1 then 65536 else ida1 else 0
  some (wI .i64 (ra0.Backend.ID - t))
def rx123 (x : Int) : SRes := ⟨.int .i64 x, [], []⟩
def r123 (g : registry_row → Int → Option Int) : Dec := dV uvregistry_row fun (y0 : registry_row) => dV (asI .i64) fun (y1 : Int) => dEnd (ofG (g y0 y1) rx123)
theorem r123_c {g : registry_row → Int → Option Int} {y0 : registry_row} {y1 : Int} {x : Int} (hx : g y0 y1 = some x) : r123 g [.agg ⟨[.int .i64 y0.Backend.ID, .int .i64 y0.Backend.Weight, .int .i64 y0.Backend.State, .bool y0.Backend.Addr.V6, .int .u64 y0.Backend.Addr.Hi, .int .u64 y0.Backend.Addr.Lo, .bool y0.drains, .bool y0.health.Up, .int .i64 y0.health.Run]⟩, .int .i64 y1] [] = some (rx123 x) := (dV_eq (uvregistry_row_c _)).trans ((dV_eq (asI_c _)).trans (ofG_eq hx))
def s123 (g : registry_row → Int → Option Int) : Summ := ⟨[.v, .v], r123 g⟩
theorem r123_eq {g : registry_row → Int → Option Int} {y0 : registry_row} {y1 : Int} {x : Int} (hx : g y0 y1 = some x) : (s123 g).run [.agg ⟨[.int .i64 y0.Backend.ID, .int .i64 y0.Backend.Weight, .int .i64 y0.Backend.State, .bool y0.Backend.Addr.V6, .int .u64 y0.Backend.Addr.Hi, .int .u64 y0.Backend.Addr.Lo, .bool y0.drains, .bool y0.health.Up, .int .i64 y0.health.Run]⟩, .int .i64 y1] [] = some (rx123 x) := r123_c hx
abbrev sums123 : List (Nat × Summ) := []
theorem leads123 (hS : SumsOK Try.prog (aget (sums123))) (ra0 : registry_row) (ida1 : Int) (res : Int) (h : registry_Registry_find_1F ra0 ida1 = some res) :
    Leads Try.prog 123 0 ⟨⟨123, 12, [(0, .agg ⟨[.int .i64 ra0.Backend.ID, .int .i64 ra0.Backend.Weight, .int .i64 ra0.Backend.State, .bool ra0.Backend.Addr.V6, .int .u64 ra0.Backend.Addr.Hi, .int .u64 ra0.Backend.Addr.Lo, .bool ra0.drains, .bool ra0.health.Up, .int .i64 ra0.health.Run]⟩), (1, .int .i64 ida1)], [.code k123_3], [], false, none⟩, [], [], 0⟩ (fun v H _ => Res 0 (rx123 res) v H) := by
  unfold registry_Registry_find_1F at h
  refine ev_ok tab_ok hS true 3000 ?_
  conv => whnf
  let t : Int := if (if 65536 < ida1 then 65536 else ida1) > 0 then if 65536 < ida1 then 65536 else ida1 else 0
  all_goals (cases h; exact Res.z rfl rfl rfl)
theorem ok123 (hS : SumsOK Try.prog (aget (sums123))) : SumOK Try.prog 123 (s123 (registry_Registry_find_1F)) := by
  refine SumOK.of_leads tab_ok (fun ar os r ha hr => ?_) ⟨Try.f123, rfl, by decide, rfl⟩
  replace hr : r123 (registry_Registry_find_1F) ar (conts os) = some r := hr
  unfold r123 at hr
  generalize hc : conts os = C at hr
  replace hr := dV.elim hr; obtain ⟨v0, l1, y0, rfl, e0, hr⟩ := hr; obtain rfl := uvregistry_row_eq _ _ e0
  replace hr := dV.elim hr; obtain ⟨v1, l2, y1, rfl, e1, hr⟩ := hr; obtain rfl := asI_eq _ _ _ e1
  replace hr := dFin hr; obtain ⟨rfl, rfl, x, h, rfl⟩ := hr
  obtain rfl := kinds_nil hc
  exact ⟨_, rfl, leads123 hS _ _ x h⟩
def registry_Registry_find_1 : registry_row → Int → Option Int := registry_Registry_find_1F
theorem lift123 : SumOK Try.prog 123 (s123 registry_Registry_find_1) := ok123 (SumsOK.of_tab trivial)
theorem lrA0 {P : Program} {f base fn nt : Nat} {e e' : Env} {todo todo' : List VItem} {ds ds' : List Nat} {ret : Bool} {up up' : List VFrame} {H H' : Hp} {top top' : Nat} {R : Value → Hp → Nat → Prop}
    (h : Leads P f base ⟨⟨fn, nt, e', todo', ds', ret, none⟩, up', H', top'⟩ R) (m : List (Nat × Nat)) (hc : chkM base top' m = true) (he : reE (aget m) e e' := by repeat' first | exact trivial | refine ⟨⟨_, rfl, rfl⟩, ?_⟩ | refine ⟨⟨_, _, rfl, rfl, .rowF (vI_flat _ _) id⟩, ?_⟩ | refine ⟨⟨_, _, rfl, rfl, .rowF (vS_flat _) id⟩, ?_⟩ | refine ⟨⟨_, _, rfl, rfl, .rowF (vB_flat _) id⟩, ?_⟩ | refine ⟨⟨_, _, rfl, rfl, .rowF (vT_flat (by first | exact capi_Addr_flat | exact capi_Tuple_flat | exact capi_Packet_flat | exact capi_Key_flat | exact cR23_Step_flat | exact cstateless_Clue_flat | exact chealth_Rule_flat | exact capi_Backend_flat | exact chealth_State_flat | exact cregistry_row_flat | exact capi_Layout_flat | exact cArr4_Int_flat | exact csip_Hasher_flat | exact ccookie_layout_flat | exact cR23_Row_flat) _) id⟩, ?_⟩ | refine ⟨⟨_, _, rfl, rfl, .tyF (vI_flat _ _)⟩, ?_⟩ | refine ⟨⟨_, _, rfl, rfl, .ty rfl⟩, ?_⟩ | refine ⟨⟨_, _, rfl, rfl, .cells rfl⟩, ?_⟩ | refine ⟨⟨_, _, rfl, rfl, .row rfl id⟩, ?_⟩ | refine ⟨⟨_, _, rfl, rfl, .cr rfl⟩, ?_⟩ | refine ⟨⟨_, _, rfl, rfl, .rc rfl⟩, ?_⟩ | refine ⟨⟨_, _, rfl, rfl, .marks⟩, ?_⟩ | refine ⟨⟨_, _, rfl, rfl, .siter _ _⟩, ?_⟩ | refine ⟨⟨_, _, rfl, rfl, .loop rfl rfl rfl rfl (by repeat' first | exact trivial | refine ⟨rfl, ?_⟩) rfl rfl rfl rfl⟩, ?_⟩) (hH : reH (aget m) H H' := by repeat' first | exact trivial | refine ⟨⟨_, rfl, rfl⟩, ?_⟩ | refine ⟨⟨_, _, rfl, rfl, .rowF (vI_flat _ _) id⟩, ?_⟩ | refine ⟨⟨_, _, rfl, rfl, .rowF (vS_flat _) id⟩, ?_⟩ | refine ⟨⟨_, _, rfl, rfl, .rowF (vB_flat _) id⟩, ?_⟩ | refine ⟨⟨_, _, rfl, rfl, .rowF (vT_flat (by first | exact capi_Addr_flat | exact capi_Tuple_flat | exact capi_Packet_flat | exact capi_Key_flat | exact cR23_Step_flat | exact cstateless_Clue_flat | exact chealth_Rule_flat | exact capi_Backend_flat | exact chealth_State_flat | exact cregistry_row_flat | exact capi_Layout_flat | exact cArr4_Int_flat | exact csip_Hasher_flat | exact ccookie_layout_flat | exact cR23_Row_flat) _) id⟩, ?_⟩ | refine ⟨⟨_, _, rfl, rfl, .tyF (vI_flat _ _)⟩, ?_⟩ | refine ⟨⟨_, _, rfl, rfl, .ty rfl⟩, ?_⟩ | refine ⟨⟨_, _, rfl, rfl, .cells rfl⟩, ?_⟩ | refine ⟨⟨_, _, rfl, rfl, .row rfl id⟩, ?_⟩ | refine ⟨⟨_, _, rfl, rfl, .cr rfl⟩, ?_⟩ | refine ⟨⟨_, _, rfl, rfl, .rc rfl⟩, ?_⟩ | refine ⟨⟨_, _, rfl, rfl, .marks⟩, ?_⟩ | refine ⟨⟨_, _, rfl, rfl, .siter _ _⟩, ?_⟩ | refine ⟨⟨_, _, rfl, rfl, .loop rfl rfl rfl rfl (by repeat' first | exact trivial | refine ⟨rfl, ?_⟩) rfl rfl rfl rfl⟩, ?_⟩)
    (ht : renT (aget m) todo' = some todo := by rfl) (hd : renN (aget m) ds' = some ds := by rfl) (hu : reU (aget m) up up' := by repeat' first | exact trivial | refine ⟨⟨rfl, rfl, rfl, rfl, rfl, ?_, rfl, rfl⟩, ?_⟩ | refine ⟨⟨_, rfl, rfl⟩, ?_⟩) :
    Leads P f base ⟨⟨fn, nt, e, todo, ds, ret, none⟩, up, H, top⟩ R := Leads.re h m hc he hH ht hd hu
theorem lrA1 {P : Program} {f base fn nt : Nat} {e e' : Env} {todo todo' : List VItem} {ds ds' : List Nat} {ret : Bool} {up up' : List VFrame} {H H' : Hp} {top top' : Nat} {R : Value → Hp → Nat → Prop}
    (h : Leads P f base ⟨⟨fn, nt, e', todo', ds', ret, none⟩, up', H', top'⟩ R) (m : List (Nat × Nat)) (hc : chkM base top' m = true) (he : reE (aget m) e e' := by repeat' first | exact trivial | refine ⟨⟨_, rfl, rfl⟩, ?_⟩ | refine ⟨⟨_, _, rfl, rfl, .rowF (vI_flat _ _) id⟩, ?_⟩ | refine ⟨⟨_, _, rfl, rfl, .rowF (vS_flat _) id⟩, ?_⟩ | refine ⟨⟨_, _, rfl, rfl, .rowF (vB_flat _) id⟩, ?_⟩ | refine ⟨⟨_, _, rfl, rfl, .rowF (vT_flat (by first | exact capi_Addr_flat | exact capi_Tuple_flat | exact capi_Packet_flat | exact capi_Key_flat | exact cR23_Step_flat | exact cstateless_Clue_flat | exact chealth_Rule_flat | exact capi_Backend_flat | exact chealth_State_flat | exact cregistry_row_flat | exact capi_Layout_flat | exact cArr4_Int_flat | exact csip_Hasher_flat | exact ccookie_layout_flat | exact cR23_Row_flat) _) id⟩, ?_⟩ | refine ⟨⟨_, _, rfl, rfl, .tyF (vI_flat _ _)⟩, ?_⟩ | refine ⟨⟨_, _, rfl, rfl, .ty rfl⟩, ?_⟩ | refine ⟨⟨_, _, rfl, rfl, .cells rfl⟩, ?_⟩ | refine ⟨⟨_, _, rfl, rfl, .row rfl id⟩, ?_⟩ | refine ⟨⟨_, _, rfl, rfl, .cr rfl⟩, ?_⟩ | refine ⟨⟨_, _, rfl, rfl, .rc rfl⟩, ?_⟩ | refine ⟨⟨_, _, rfl, rfl, .marks⟩, ?_⟩ | refine ⟨⟨_, _, rfl, rfl, .siter _ _⟩, ?_⟩ | refine ⟨⟨_, _, rfl, rfl, .loop rfl rfl rfl rfl (by repeat' first | exact trivial | refine ⟨rfl, ?_⟩) rfl rfl rfl rfl⟩, ?_⟩) (hH : reH (aget m) H H' := by repeat' first | exact trivial | refine ⟨⟨_, rfl, rfl⟩, ?_⟩ | refine ⟨⟨_, _, rfl, rfl, .rowF (vI_flat _ _) id⟩, ?_⟩ | refine ⟨⟨_, _, rfl, rfl, .rowF (vS_flat _) id⟩, ?_⟩ | refine ⟨⟨_, _, rfl, rfl, .rowF (vB_flat _) id⟩, ?_⟩ | refine ⟨⟨_, _, rfl, rfl, .rowF (vT_flat (by first | exact capi_Addr_flat | exact capi_Tuple_flat | exact capi_Packet_flat | exact capi_Key_flat | exact cR23_Step_flat | exact cstateless_Clue_flat | exact chealth_Rule_flat | exact capi_Backend_flat | exact chealth_State_flat | exact cregistry_row_flat | exact capi_Layout_flat | exact cArr4_Int_flat | exact csip_Hasher_flat | exact ccookie_layout_flat | exact cR23_Row_flat) _) id⟩, ?_⟩ | refine ⟨⟨_, _, rfl, rfl, .tyF (vI_flat _ _)⟩, ?_⟩ | refine ⟨⟨_, _, rfl, rfl, .ty rfl⟩, ?_⟩ | refine ⟨⟨_, _, rfl, rfl, .cells rfl⟩, ?_⟩ | refine ⟨⟨_, _, rfl, rfl, .row rfl id⟩, ?_⟩ | refine ⟨⟨_, _, rfl, rfl, .cr rfl⟩, ?_⟩ | refine ⟨⟨_, _, rfl, rfl, .rc rfl⟩, ?_⟩ | refine ⟨⟨_, _, rfl, rfl, .marks⟩, ?_⟩ | refine ⟨⟨_, _, rfl, rfl, .siter _ _⟩, ?_⟩ | refine ⟨⟨_, _, rfl, rfl, .loop rfl rfl rfl rfl (by repeat' first | exact trivial | refine ⟨rfl, ?_⟩) rfl rfl rfl rfl⟩, ?_⟩)
    (ht : renT (aget m) todo' = some todo := by rfl) (hd : renN (aget m) ds' = some ds := by rfl) (hu : reU (aget m) up up' := by trivial) :
    Leads P f base ⟨⟨fn, nt, e, todo, ds, ret, none⟩, up, H, top⟩ R := Leads.re h m hc he hH ht hd hu
def registry_Registry_find_nilF (ida1 : Int) : Option (Int × Bool) :=
  none
def rx71n (x : Int × Bool) : SRes := ⟨.tuple ⟨[.int .i64 x.1, .bool x.2]⟩, [], [none, none]⟩
def r71n (g : Int → Option (Int × Bool)) : Dec := dNl 2 <| dV (asI .i64) fun (y1 : Int) => dEnd (ofG (g y1) rx71n)
theorem r71n_c {g : Int → Option (Int × Bool)} {y1 : Int} {x : Int × Bool} (hx : g y1 = some x) : r71n g [.pointer none, .int .i64 y1] [none, none] = some (rx71n x) := (dNl_2).trans ((dV_eq (asI_c _)).trans (ofG_eq hx))
abbrev sums71n : List (Nat × Summ) := []
theorem leads71n (hS : SumsOK Try.prog (aget (sums71n))) (ida1 : Int) (res : Int × Bool) (h : registry_Registry_find_nilF ida1 = some res) :
    Leads Try.prog 71 2 ⟨⟨71, 14, [(0, .pointer none), (1, .int .i64 ida1)], [.code k71_3], [], false, none⟩, [], [], 2⟩ (fun v H _ => Res 2 (rx71n res) v H) := by
  unfold registry_Registry_find_nilF at h
  refine ev_ok tab_ok hS true 3000 ?_
  conv => whnf
  cases h
def registry_Registry_find_s1 (registry_Registry_find_1 : registry_row → Int → Option Int) (ga0 : registry_Registry) (ida1 : Int) (i : Int) (xj : Int) : Option (Sum (Int × Int) (Int × Bool)) :=
  cond (decide (i < xj))
    (
    let t := (wI .u64 (wI .i64 (i + xj))).fdiv (2 ^ 1)
    oreq (decide ((0 : Int) ≤ (wI .i64 t) ∧ (wI .i64 t) < (ga0.rows.length : Int))) <|
    (ga0.rows[(wI .i64 t).toNat]?).bind fun (e : registry_row) =>
    (registry_Registry_find_1 e ida1).bind fun x1 =>
    cond (decide (x1 < 0))
      (
      some (.inl (wI .i64 ((wI .i64 t) + 1), xj)))
      (
      some (.inl (i, wI .i64 t))))
    (
    cond (decide (i < (ga0.rows.length : Int)))
      (
      oreq (decide ((0 : Int) ≤ i ∧ i < (ga0.rows.length : Int))) <|
      (ga0.rows[i.toNat]?).bind fun (e1 : registry_row) =>
      (registry_Registry_find_1 e1 ida1).bind fun x11 =>
      some (.inr ((i, x11 == 0))))
      (
      some (.inr ((i, false)))))
def registry_Registry_findF (registry_Registry_find_1 : registry_row → Int → Option Int) (ga0 : registry_Registry) (ida1 : Int) : Option (Int × Bool) :=
  iter (fun st => registry_Registry_find_s1 registry_Registry_find_1 ga0 ida1 st.1 st.2) FUEL (0, (ga0.rows.length : Int))
def rx71 (x : Int × Bool) : SRes := ⟨.tuple ⟨[.int .i64 x.1, .bool x.2]⟩, [], [none, none]⟩
def r71 (g : registry_Registry → Int → Option (Int × Bool)) : Dec := dTr 2 (udregistry_Registry 0) fun (y0 : registry_Registry) => dV (asI .i64) fun (y1 : Int) => dEnd (ofG (g y0 y1) rx71)
theorem r71_c {g : registry_Registry → Int → Option (Int × Bool)} {y0 : registry_Registry} {y1 : Int} {x : Int × Bool} (hx : g y0 y1 = some x) : r71 g [.pointer (some ⟨0, 0, none⟩), .int .i64 y1] [some [.int .i64 y0.rule.Rise, .int .i64 y0.rule.Fall, .slice (some ⟨1, 0, none⟩) y0.rows.length 9, .int .i64 y0.last, .int .i64 y0.version], some (vT cregistry_row y0.rows)] = some (rx71 x) := (dTr_eq rfl rfl (udregistry_Registry_c 0 _)).trans ((dV_eq (asI_c _)).trans (ofG_eq hx))
def s71 (g : registry_Registry → Int → Option (Int × Bool)) (g2 : Int → Option (Int × Bool)) : Summ := ⟨[.tr [⟨none, 0, 0, 0, none⟩, ⟨some 0, 2, 0, 0, some 9⟩], .v], pickN 0 (r71 g) (r71n g2)⟩
theorem r71_eq {g : registry_Registry → Int → Option (Int × Bool)} {g2 : Int → Option (Int × Bool)} {y0 : registry_Registry} {y1 : Int} {x : Int × Bool} (hx : g y0 y1 = some x) : (s71 g g2).run [.pointer (some ⟨0, 0, none⟩), .int .i64 y1] [some [.int .i64 y0.rule.Rise, .int .i64 y0.rule.Fall, .slice (some ⟨1, 0, none⟩) y0.rows.length 9, .int .i64 y0.last, .int .i64 y0.version], some (vT cregistry_row y0.rows)] = some (rx71 x) := r71_c hx
theorem r71n_eq {g2 : registry_Registry → Int → Option (Int × Bool)} {g : Int → Option (Int × Bool)} {y1 : Int} {x : Int × Bool} (hx : g y1 = some x) : (s71 g2 g).run [.pointer none, .int .i64 y1] [none, none] = some (rx71n x) := r71n_c hx
abbrev sums71 (registry_Registry_find_1 : registry_row → Int → Option Int) : List (Nat × Summ) := [(123, s123 registry_Registry_find_1)]
def head71_1 (ga0 : registry_Registry) (ida1 : Int) (i : Int) (xj : Int) : VM :=
  ⟨⟨122, 49, [(0, .slice (some ⟨1, 0, none⟩) ga0.rows.length 9), (1, .int .i64 ida1), (2, .func (.func 123) ⟨[]⟩ ⟨[]⟩), (8, .int .i64 (ga0.rows.length : Int)), (9, .int .i64 i), (10, .int .i64 xj)], [.code k122_14, .inLoop k122_14, .inBlock 0, .code k122_18], [], false, none⟩, [⟨71, 14, [], [.inReg (opsD k71_1 5), .code .ret], [], false, none⟩], [(0, .row false [.int .i64 ga0.rule.Rise, .int .i64 ga0.rule.Fall, .slice (some ⟨1, 0, none⟩) ga0.rows.length 9, .int .i64 ga0.last, .int .i64 ga0.version]), (1, .row false (vT cregistry_row ga0.rows))], 2⟩
theorem loop71_1 (registry_Registry_find_1 : registry_row → Int → Option Int) (hS : SumsOK Try.prog (aget (sums71 registry_Registry_find_1))) (ga0 : registry_Registry) (ida1 : Int) (res : Int × Bool) : ∀ fuel (st : Int × Int) (o : Int × Bool), iter (fun st => registry_Registry_find_s1 registry_Registry_find_1 ga0 ida1 st.1 st.2) fuel st = some o → (o = res) →
    Leads Try.prog 71 2 (head71_1 ga0 ida1 st.1 st.2) (fun v H _ => Res 2 (rx71 res) v H) := by
  intro fuel st o h hc
  refine iter_leads (head := fun st => head71_1 ga0 ida1 st.1 st.2) (C := fun o => (o = res)) ?_ fuel st o h hc
  clear h hc o st fuel
  intro st o h hc
  obtain ⟨i, xj⟩ := st
  replace h : registry_Registry_find_s1 registry_Registry_find_1 ga0 ida1 i xj = some o := h
  show Leads Try.prog 71 2 (head71_1 ga0 ida1 i xj) (fun v H _ => Res 2 (rx71 res) v H)
  unfold registry_Registry_find_s1 at h
  refine ev_ok tab_ok hS true 3000 ?_
  conv => whnf
  refine br.h2 h ?_ ?_ ?_
  · rfl
  · clear h; intro hb h; conv => whnf
    refine br.h2 h ?_ ?_ ?_
    · rfl
    · clear h; intro hb h; conv => whnf
      all_goals (cases h; cases hc)
      all_goals exact Res.of [] rfl nw_0 (by decide) js_0 (wr_n (wr_n wr_0))
    clear h; intro hb h; conv => whnf
    replace h := oreq.elim h; obtain ⟨hb, h⟩ := h
    first | (refine req.intro hb ?_; conv => whnf) | skip
    replace h := obind.elim h; obtain ⟨e1, hy, h⟩ := h
    refine ld_T cregistry_row_len hy (by first | omega | exact Nat.zero_add _ | exact congrArg (· + _) (Nat.zero_add _)) rfl ?_
    conv => whnf
    replace h := obind.elim h; obtain ⟨x11, hy, h⟩ := h
    refine sumK.q rfl rfl (r123_eq hy) rfl rfl rfl ?_
    conv => whnf
    all_goals (cases h; cases hc)
    all_goals exact Res.of [] rfl nw_0 (by decide) js_0 (wr_n (wr_n wr_0))
  clear h; intro hb h; conv => whnf
  let t : Int := (wI .u64 (wI .i64 (i + xj))).fdiv (2 ^ 1)
  replace h := oreq.elim h; obtain ⟨hb, h⟩ := h
  first | (refine req.intro hb ?_; conv => whnf) | skip
  replace h := obind.elim h; obtain ⟨e, hy, h⟩ := h
  refine ld_T cregistry_row_len hy (by first | omega | exact Nat.zero_add _ | exact congrArg (· + _) (Nat.zero_add _)) rfl ?_
  conv => whnf
  replace h := obind.elim h; obtain ⟨x1, hy, h⟩ := h
  refine sumK.q rfl rfl (r123_eq hy) rfl rfl rfl ?_
  conv => whnf
  refine br.h h ?_ ?_ ?_
  · rfl
  · clear h; intro hb h; conv => whnf
    cases h; simp only [Sum.elim_inl, head71_1] at hc
    exact lrA0 hc [(0, 0), (1, 1)] rfl
  clear h; intro hb h; conv => whnf
  cases h; simp only [Sum.elim_inl, head71_1] at hc
  exact lrA0 hc [(0, 0), (1, 1)] rfl
theorem leads71 (registry_Registry_find_1 : registry_row → Int → Option Int) (hS : SumsOK Try.prog (aget (sums71 registry_Registry_find_1))) (ga0 : registry_Registry) (ida1 : Int) (res : Int × Bool) (h : registry_Registry_findF registry_Registry_find_1 ga0 ida1 = some res) :
    Leads Try.prog 71 2 ⟨⟨71, 14, [(0, .pointer (some ⟨0, 0, none⟩)), (1, .int .i64 ida1)], [.code k71_3], [], false, none⟩, [], [(0, .row false [.int .i64 ga0.rule.Rise, .int .i64 ga0.rule.Fall, .slice (some ⟨1, 0, none⟩) ga0.rows.length 9, .int .i64 ga0.last, .int .i64 ga0.version]), (1, .row false (vT cregistry_row ga0.rows))], 2⟩ (fun v H _ => Res 2 (rx71 res) v H) := by
  unfold registry_Registry_findF at h
  refine ev_ok tab_ok hS true 3000 ?_
  conv => whnf
  have hl := loop71_1 registry_Registry_find_1 hS _ _ res _ _ _ h rfl; simp only [head71_1] at hl
  exact lrA0 hl [(0, 0), (1, 1)] rfl
theorem ok71 (registry_Registry_find_1 : registry_row → Int → Option Int) (hS : SumsOK Try.prog (aget (sums71 registry_Registry_find_1))) (hS2 : SumsOK Try.prog (aget (sums71n))) : SumOK Try.prog 71 (s71 (registry_Registry_findF registry_Registry_find_1) (registry_Registry_find_nilF)) := by
  refine SumOK.of_leads tab_ok (fun ar os r ha hr => ?_) ⟨Try.f71, rfl, by decide, rfl⟩
  have hp := pickN.elim hr; clear hr; rcases hp with hr | hr
  · skip
    replace hr : r71 (registry_Registry_findF registry_Registry_find_1) ar (conts os) = some r := hr
    unfold r71 at hr
    generalize hc : conts os = C at hr
    have hq := dTr.elim hr; clear hr; obtain ⟨v0, l1, c0, C, y0, rfl, rfl, e0, hr⟩ := hq; obtain ⟨rfl, rfl⟩ := udregistry_Registry_eq e0; simp only [List.nil_append, List.cons_append] at hc
    replace hr := dV.elim hr; obtain ⟨v1, l2, y1, rfl, e1, hr⟩ := hr; obtain rfl := asI_eq _ _ _ e1
    replace hr := dFin hr; obtain ⟨rfl, rfl, x, h, rfl⟩ := hr
    obtain ⟨os, rfl, ha, hc⟩ := kinds_some ha hc
    obtain ⟨os, rfl, ha, hc⟩ := kinds_some ha hc
    obtain rfl := kinds_nil hc
    exact ⟨_, rfl, leads71 registry_Registry_find_1 hS _ _ x h⟩
  · skip
    replace hr : r71n (registry_Registry_find_nilF) ar (conts os) = some r := hr
    unfold r71n at hr
    generalize hc : conts os = C at hr
    have hq := dNl.elim hr; clear hr; obtain ⟨l1, C, rfl, rfl, hr⟩ := hq; simp only [List.replicate, List.nil_append, List.cons_append] at hc
    replace hr := dV.elim hr; obtain ⟨v1, l2, y1, rfl, e1, hr⟩ := hr; obtain rfl := asI_eq _ _ _ e1
    replace hr := dFin hr; obtain ⟨rfl, rfl, x, h, rfl⟩ := hr
    obtain ⟨os, rfl, ha, hc⟩ := kinds_none ha hc
    obtain ⟨os, rfl, ha, hc⟩ := kinds_none ha hc
    obtain rfl := kinds_nil hc
    exact ⟨_, rfl, leads71n hS2 _ x h⟩
def registry_Registry_find : registry_Registry → Int → Option (Int × Bool) := registry_Registry_findF registry_Registry_find_1
def registry_Registry_find_nil : Int → Option (Int × Bool) := registry_Registry_find_nilF
theorem lift71 : SumOK Try.prog 71 (s71 registry_Registry_find registry_Registry_find_nil) := ok71 registry_Registry_find_1 (SumsOK.of_tab ⟨lift123, trivial⟩) (SumsOK.of_tab trivial)
def registry_row_toldF (ra0 : registry_row) : Option api_Backend :=
  cond (ra0.drains)
    (
    some (api_Backend.mk ra0.Backend.ID ra0.Backend.Weight 3 ra0.Backend.Addr))
    (
    cond (ra0.health.Up)
      (
      some (api_Backend.mk ra0.Backend.ID ra0.Backend.Weight 1 ra0.Backend.Addr))
      (
      some (api_Backend.mk ra0.Backend.ID ra0.Backend.Weight 2 ra0.Backend.Addr)))
def rx72 (x : api_Backend) : SRes := ⟨.agg ⟨[.int .i64 x.ID, .int .i64 x.Weight, .int .i64 x.State, .bool x.Addr.V6, .int .u64 x.Addr.Hi, .int .u64 x.Addr.Lo]⟩, [], []⟩
def r72 (g : registry_row → Option api_Backend) : Dec := dV uvregistry_row fun (y0 : registry_row) => dEnd (ofG (g y0) rx72)
theorem r72_c {g : registry_row → Option api_Backend} {y0 : registry_row} {x : api_Backend} (hx : g y0 = some x) : r72 g [.agg ⟨[.int .i64 y0.Backend.ID, .int .i64 y0.Backend.Weight, .int .i64 y0.Backend.State, .bool y0.Backend.Addr.V6, .int .u64 y0.Backend.Addr.Hi, .int .u64 y0.Backend.Addr.Lo, .bool y0.drains, .bool y0.health.Up, .int .i64 y0.health.Run]⟩] [] = some (rx72 x) := (dV_eq (uvregistry_row_c _)).trans (ofG_eq hx)
def s72 (g : registry_row → Option api_Backend) : Summ := ⟨[.v], r72 g⟩
theorem r72_eq {g : registry_row → Option api_Backend} {y0 : registry_row} {x : api_Backend} (hx : g y0 = some x) : (s72 g).run [.agg ⟨[.int .i64 y0.Backend.ID, .int .i64 y0.Backend.Weight, .int .i64 y0.Backend.State, .bool y0.Backend.Addr.V6, .int .u64 y0.Backend.Addr.Hi, .int .u64 y0.Backend.Addr.Lo, .bool y0.drains, .bool y0.health.Up, .int .i64 y0.health.Run]⟩] [] = some (rx72 x) := r72_c hx
abbrev sums72 : List (Nat × Summ) := []
theorem leads72 (hS : SumsOK Try.prog (aget (sums72))) (ra0 : registry_row) (res : api_Backend) (h : registry_row_toldF ra0 = some res) :
    Leads Try.prog 72 0 ⟨⟨72, 17, [(0, .agg ⟨[.int .i64 ra0.Backend.ID, .int .i64 ra0.Backend.Weight, .int .i64 ra0.Backend.State, .bool ra0.Backend.Addr.V6, .int .u64 ra0.Backend.Addr.Hi, .int .u64 ra0.Backend.Addr.Lo, .bool ra0.drains, .bool ra0.health.Up, .int .i64 ra0.health.Run]⟩)], [.code k72_16], [], false, none⟩, [], [], 0⟩ (fun v H _ => Res 0 (rx72 res) v H) := by
  unfold registry_row_toldF at h
  refine ev_ok tab_ok hS true 3000 ?_
  conv => whnf
  refine br.h h ?_ ?_ ?_
  · rfl
  · clear h; intro hb h; conv => whnf
    all_goals (cases h; exact Res.z rfl rfl rfl)
  clear h; intro hb h; conv => whnf
  refine br.h h ?_ ?_ ?_
  · rfl
  · clear h; intro hb h; conv => whnf
    all_goals (cases h; exact Res.z rfl rfl rfl)
  clear h; intro hb h; conv => whnf
  all_goals (cases h; exact Res.z rfl rfl rfl)
theorem ok72 (hS : SumsOK Try.prog (aget (sums72))) : SumOK Try.prog 72 (s72 (registry_row_toldF)) := by
  refine SumOK.of_leads tab_ok (fun ar os r ha hr => ?_) ⟨Try.f72, rfl, by decide, rfl⟩
  replace hr : r72 (registry_row_toldF) ar (conts os) = some r := hr
  unfold r72 at hr
  generalize hc : conts os = C at hr
  replace hr := dV.elim hr; obtain ⟨v0, l1, y0, rfl, e0, hr⟩ := hr; obtain rfl := uvregistry_row_eq _ _ e0
  replace hr := dFin hr; obtain ⟨rfl, rfl, x, h, rfl⟩ := hr
  obtain rfl := kinds_nil hc
  exact ⟨_, rfl, leads72 hS _ x h⟩
def registry_row_told : registry_row → Option api_Backend := registry_row_toldF
theorem lift72 : SumOK Try.prog 72 (s72 registry_row_told) := ok72 (SumsOK.of_tab trivial)
def registry_Registry_Get_nilF (registry_Registry_find : registry_Registry → Int → Option (Int × Bool)) (registry_Registry_find_nil : Int → Option (Int × Bool)) (registry_Registry_given : registry_Registry → Option Bool) (registry_Registry_given_nil : Option Bool) (ida1 : Int) : Option (api_Backend × Bool) :=
  (registry_Registry_given_nil).bind fun n =>
  cond (!n)
    (
    some ((api_Backend.mk 0 0 0 (api_Addr.mk false 0 0), false)))
    (
    (registry_Registry_find_nil ida1).bind fun n1 =>
    cond (n1.2)
      (
      none)
      (
      cond (decide (ida1 < 1))
        (
        some ((api_Backend.mk 0 0 0 (api_Addr.mk false 0 0), false)))
        (
        none)))
def rx18n (x : api_Backend × Bool) : SRes := ⟨.tuple ⟨[.agg ⟨[.int .i64 x.1.ID, .int .i64 x.1.Weight, .int .i64 x.1.State, .bool x.1.Addr.V6, .int .u64 x.1.Addr.Hi, .int .u64 x.1.Addr.Lo]⟩, .bool x.2]⟩, [], [none, none]⟩
def r18n (g : Int → Option (api_Backend × Bool)) : Dec := dNl 2 <| dV (asI .i64) fun (y1 : Int) => dEnd (ofG (g y1) rx18n)
theorem r18n_c {g : Int → Option (api_Backend × Bool)} {y1 : Int} {x : api_Backend × Bool} (hx : g y1 = some x) : r18n g [.pointer none, .int .i64 y1] [none, none] = some (rx18n x) := (dNl_2).trans ((dV_eq (asI_c _)).trans (ofG_eq hx))
abbrev sums18n (registry_Registry_find : registry_Registry → Int → Option (Int × Bool)) (registry_Registry_find_nil : Int → Option (Int × Bool)) (registry_Registry_given : registry_Registry → Option Bool) (registry_Registry_given_nil : Option Bool) : List (Nat × Summ) := [(71, s71 registry_Registry_find registry_Registry_find_nil), (70, s70 registry_Registry_given registry_Registry_given_nil)]
theorem leads18n (registry_Registry_find : registry_Registry → Int → Option (Int × Bool)) (registry_Registry_find_nil : Int → Option (Int × Bool)) (registry_Registry_given : registry_Registry → Option Bool) (registry_Registry_given_nil : Option Bool) (hS : SumsOK Try.prog (aget (sums18n registry_Registry_find registry_Registry_find_nil registry_Registry_given registry_Registry_given_nil))) (ida1 : Int) (res : api_Backend × Bool) (h : registry_Registry_Get_nilF registry_Registry_find registry_Registry_find_nil registry_Registry_given registry_Registry_given_nil ida1 = some res) :
    Leads Try.prog 18 2 ⟨⟨18, 40, [(0, .pointer none), (1, .int .i64 ida1)], [.code k18_23], [], false, none⟩, [], [], 2⟩ (fun v H _ => Res 2 (rx18n res) v H) := by
  unfold registry_Registry_Get_nilF at h
  refine ev_ok tab_ok hS true 3000 ?_
  conv => whnf
  replace h := obind.elim h; obtain ⟨n, hy, h⟩ := h
  refine sumK.introF [] (sumRun_of (aqs := [.pointer none]) (ws := [.no, .no]) (n := 0) (m := 0) (t' := 3) (ra_cons rfl rfl ra_nil) rfl (by rfl) (r70n_eq hy) rfl rfl rfl rfl (wb_skip rfl (wb_skip rfl wb_nil)) an_nil rfl) ?_
  conv => whnf
  refine br.h h ?_ ?_ ?_
  · rfl
  · clear h; intro hb h; conv => whnf
    all_goals (cases h)
    all_goals exact Res.of [] rfl nw_0 (by decide) js_0 (wr_n (wr_n wr_0))
  clear h; intro hb h; conv => whnf
  replace h := obind.elim h; obtain ⟨n1, hy, h⟩ := h
  refine sumK.introF [] (sumRun_of (aqs := [.pointer none, .int .i64 ida1]) (ws := [.no, .no]) (n := 0) (m := 0) (t' := 3) (ra_cons rfl rfl (ra_cons rfl rfl ra_nil)) rfl (by rfl) (r71n_eq hy) rfl rfl rfl rfl (wb_skip rfl (wb_skip rfl wb_nil)) an_nil rfl) ?_
  conv => whnf
  refine br.h h ?_ ?_ ?_
  · rfl
  · clear h; intro hb h; conv => whnf
    cases h
  clear h; intro hb h; conv => whnf
  refine br.h h ?_ ?_ ?_
  · rfl
  · clear h; intro hb h; conv => whnf
    all_goals (cases h)
    all_goals exact Res.of [] rfl nw_0 (by decide) js_0 (wr_n (wr_n wr_0))
  clear h; intro hb h; conv => whnf
  cases h
def registry_Registry_GetF (registry_Registry_find : registry_Registry → Int → Option (Int × Bool)) (registry_Registry_find_nil : Int → Option (Int × Bool)) (registry_Registry_given : registry_Registry → Option Bool) (registry_Registry_given_nil : Option Bool) (registry_row_told : registry_row → Option api_Backend) (ga0 : registry_Registry) (ida1 : Int) : Option (api_Backend × Bool) :=
  (registry_Registry_given ga0).bind fun xg =>
  cond (!xg)
    (
    some ((api_Backend.mk 0 0 0 (api_Addr.mk false 0 0), false)))
    (
    (registry_Registry_find ga0 ida1).bind fun f =>
    cond (f.2)
      (
      oreq (decide ((0 : Int) ≤ f.1 ∧ f.1 < (ga0.rows.length : Int))) <|
      (ga0.rows[f.1.toNat]?).bind fun (e : registry_row) =>
      (registry_row_told e).bind fun t =>
      some ((t, true)))
      (
      cond (decide (ida1 < 1))
        (
        some ((api_Backend.mk 0 0 0 (api_Addr.mk false 0 0), false)))
        (
        cond (decide (ida1 > ga0.last))
          (
          some ((api_Backend.mk 0 0 0 (api_Addr.mk false 0 0), false)))
          (
          some ((api_Backend.mk ida1 0 4 (api_Addr.mk false 0 0), true))))))
def rx18 (x : api_Backend × Bool) : SRes := ⟨.tuple ⟨[.agg ⟨[.int .i64 x.1.ID, .int .i64 x.1.Weight, .int .i64 x.1.State, .bool x.1.Addr.V6, .int .u64 x.1.Addr.Hi, .int .u64 x.1.Addr.Lo]⟩, .bool x.2]⟩, [], [none, none]⟩
def r18 (g : registry_Registry → Int → Option (api_Backend × Bool)) : Dec := dTr 2 (udregistry_Registry 0) fun (y0 : registry_Registry) => dV (asI .i64) fun (y1 : Int) => dEnd (ofG (g y0 y1) rx18)
theorem r18_c {g : registry_Registry → Int → Option (api_Backend × Bool)} {y0 : registry_Registry} {y1 : Int} {x : api_Backend × Bool} (hx : g y0 y1 = some x) : r18 g [.pointer (some ⟨0, 0, none⟩), .int .i64 y1] [some [.int .i64 y0.rule.Rise, .int .i64 y0.rule.Fall, .slice (some ⟨1, 0, none⟩) y0.rows.length 9, .int .i64 y0.last, .int .i64 y0.version], some (vT cregistry_row y0.rows)] = some (rx18 x) := (dTr_eq rfl rfl (udregistry_Registry_c 0 _)).trans ((dV_eq (asI_c _)).trans (ofG_eq hx))
def s18 (g : registry_Registry → Int → Option (api_Backend × Bool)) (g2 : Int → Option (api_Backend × Bool)) : Summ := ⟨[.tr [⟨none, 0, 0, 0, none⟩, ⟨some 0, 2, 0, 0, some 9⟩], .v], pickN 0 (r18 g) (r18n g2)⟩
theorem r18_eq {g : registry_Registry → Int → Option (api_Backend × Bool)} {g2 : Int → Option (api_Backend × Bool)} {y0 : registry_Registry} {y1 : Int} {x : api_Backend × Bool} (hx : g y0 y1 = some x) : (s18 g g2).run [.pointer (some ⟨0, 0, none⟩), .int .i64 y1] [some [.int .i64 y0.rule.Rise, .int .i64 y0.rule.Fall, .slice (some ⟨1, 0, none⟩) y0.rows.length 9, .int .i64 y0.last, .int .i64 y0.version], some (vT cregistry_row y0.rows)] = some (rx18 x) := r18_c hx
theorem r18n_eq {g2 : registry_Registry → Int → Option (api_Backend × Bool)} {g : Int → Option (api_Backend × Bool)} {y1 : Int} {x : api_Backend × Bool} (hx : g y1 = some x) : (s18 g2 g).run [.pointer none, .int .i64 y1] [none, none] = some (rx18n x) := r18n_c hx
abbrev sums18 (registry_Registry_find : registry_Registry → Int → Option (Int × Bool)) (registry_Registry_find_nil : Int → Option (Int × Bool)) (registry_Registry_given : registry_Registry → Option Bool) (registry_Registry_given_nil : Option Bool) (registry_row_told : registry_row → Option api_Backend) : List (Nat × Summ) := [(71, s71 registry_Registry_find registry_Registry_find_nil), (70, s70 registry_Registry_given registry_Registry_given_nil), (72, s72 registry_row_told)]
theorem leads18 (registry_Registry_find : registry_Registry → Int → Option (Int × Bool)) (registry_Registry_find_nil : Int → Option (Int × Bool)) (registry_Registry_given : registry_Registry → Option Bool) (registry_Registry_given_nil : Option Bool) (registry_row_told : registry_row → Option api_Backend) (hS : SumsOK Try.prog (aget (sums18 registry_Registry_find registry_Registry_find_nil registry_Registry_given registry_Registry_given_nil registry_row_told))) (ga0 : registry_Registry) (ida1 : Int) (res : api_Backend × Bool) (h : registry_Registry_GetF registry_Registry_find registry_Registry_find_nil registry_Registry_given registry_Registry_given_nil registry_row_told ga0 ida1 = some res) :
    Leads Try.prog 18 2 ⟨⟨18, 40, [(0, .pointer (some ⟨0, 0, none⟩)), (1, .int .i64 ida1)], [.code k18_23], [], false, none⟩, [], [(0, .row false [.int .i64 ga0.rule.Rise, .int .i64 ga0.rule.Fall, .slice (some ⟨1, 0, none⟩) ga0.rows.length 9, .int .i64 ga0.last, .int .i64 ga0.version]), (1, .row false (vT cregistry_row ga0.rows))], 2⟩ (fun v H _ => Res 2 (rx18 res) v H) := by
  unfold registry_Registry_GetF at h
  refine ev_ok tab_ok hS true 3000 ?_
  conv => whnf
  replace h := obind.elim h; obtain ⟨xg, hy, h⟩ := h
  refine sumK.introF [] (sumRun_of (aqs := [.pointer (some ⟨0, 0, none⟩)]) (ws := [.blk 0 false, .blk 1 false]) (n := 0) (m := 0) (t' := 3) (ra_cons (ra_tr rfl rfl (vp_at rfl rfl rfl rfl (vp_at rfl rfl (rn_T cregistry_row_flat) rfl vp_nil)) rfl) rfl ra_nil) rfl (by rfl) (r70_eq hy) rfl rfl rfl rfl (wb_skip rfl (wb_skip rfl wb_nil)) an_nil rfl) ?_
  conv => whnf
  refine br.h h ?_ ?_ ?_
  · rfl
  · clear h; intro hb h; conv => whnf
    all_goals (cases h)
    all_goals exact Res.of [] rfl nw_0 (by decide) js_0 (wr_n (wr_n wr_0))
  clear h; intro hb h; conv => whnf
  replace h := obind.elim h; obtain ⟨f, hy, h⟩ := h
  refine sumK.introF [] (sumRun_of (aqs := [.pointer (some ⟨0, 0, none⟩), .int .i64 ida1]) (ws := [.blk 0 false, .blk 1 false]) (n := 0) (m := 0) (t' := 3) (ra_cons (ra_tr rfl rfl (vp_at rfl rfl rfl rfl (vp_at rfl rfl (rn_T cregistry_row_flat) rfl vp_nil)) rfl) rfl (ra_cons rfl rfl ra_nil)) rfl (by rfl) (r71_eq hy) rfl rfl rfl rfl (wb_skip rfl (wb_skip rfl wb_nil)) an_nil rfl) ?_
  conv => whnf
  refine br.h h ?_ ?_ ?_
  · rfl
  · clear h; intro hb h; conv => whnf
    replace h := oreq.elim h; obtain ⟨hb, h⟩ := h
    first | (refine req.intro hb ?_; conv => whnf) | skip
    replace h := obind.elim h; obtain ⟨e, hy, h⟩ := h
    refine ld_T cregistry_row_len hy (by first | omega | exact Nat.zero_add _ | exact congrArg (· + _) (Nat.zero_add _)) rfl ?_
    conv => whnf
    replace h := obind.elim h; obtain ⟨t, hy, h⟩ := h
    refine sumK.q rfl rfl (r72_eq hy) rfl rfl rfl ?_
    conv => whnf
    all_goals (cases h)
    all_goals exact Res.of [] rfl nw_0 (by decide) js_0 (wr_n (wr_n wr_0))
  clear h; intro hb h; conv => whnf
  refine br.h h ?_ ?_ ?_
  · rfl
  · clear h; intro hb h; conv => whnf
    all_goals (cases h)
    all_goals exact Res.of [] rfl nw_0 (by decide) js_0 (wr_n (wr_n wr_0))
  clear h; intro hb h; conv => whnf
  refine br.h h ?_ ?_ ?_
  · rfl
  · clear h; intro hb h; conv => whnf
    all_goals (cases h)
    all_goals exact Res.of [] rfl nw_0 (by decide) js_0 (wr_n (wr_n wr_0))
  clear h; intro hb h; conv => whnf
  all_goals (cases h)
  all_goals exact Res.of [] rfl nw_0 (by decide) js_0 (wr_n (wr_n wr_0))
theorem ok18 (registry_Registry_find : registry_Registry → Int → Option (Int × Bool)) (registry_Registry_find_nil : Int → Option (Int × Bool)) (registry_Registry_given : registry_Registry → Option Bool) (registry_Registry_given_nil : Option Bool) (registry_row_told : registry_row → Option api_Backend) (hS : SumsOK Try.prog (aget (sums18 registry_Registry_find registry_Registry_find_nil registry_Registry_given registry_Registry_given_nil registry_row_told))) (hS2 : SumsOK Try.prog (aget (sums18n registry_Registry_find registry_Registry_find_nil registry_Registry_given registry_Registry_given_nil))) : SumOK Try.prog 18 (s18 (registry_Registry_GetF registry_Registry_find registry_Registry_find_nil registry_Registry_given registry_Registry_given_nil registry_row_told) (registry_Registry_Get_nilF registry_Registry_find registry_Registry_find_nil registry_Registry_given registry_Registry_given_nil)) := by
  refine SumOK.of_leads tab_ok (fun ar os r ha hr => ?_) ⟨Try.f18, rfl, by decide, rfl⟩
  have hp := pickN.elim hr; clear hr; rcases hp with hr | hr
  · skip
    replace hr : r18 (registry_Registry_GetF registry_Registry_find registry_Registry_find_nil registry_Registry_given registry_Registry_given_nil registry_row_told) ar (conts os) = some r := hr
    unfold r18 at hr
    generalize hc : conts os = C at hr
    have hq := dTr.elim hr; clear hr; obtain ⟨v0, l1, c0, C, y0, rfl, rfl, e0, hr⟩ := hq; obtain ⟨rfl, rfl⟩ := udregistry_Registry_eq e0; simp only [List.nil_append, List.cons_append] at hc
    replace hr := dV.elim hr; obtain ⟨v1, l2, y1, rfl, e1, hr⟩ := hr; obtain rfl := asI_eq _ _ _ e1
    replace hr := dFin hr; obtain ⟨rfl, rfl, x, h, rfl⟩ := hr
    obtain ⟨os, rfl, ha, hc⟩ := kinds_some ha hc
    obtain ⟨os, rfl, ha, hc⟩ := kinds_some ha hc
    obtain rfl := kinds_nil hc
    exact ⟨_, rfl, leads18 registry_Registry_find registry_Registry_find_nil registry_Registry_given registry_Registry_given_nil registry_row_told hS _ _ x h⟩
  · skip
    replace hr : r18n (registry_Registry_Get_nilF registry_Registry_find registry_Registry_find_nil registry_Registry_given registry_Registry_given_nil) ar (conts os) = some r := hr
    unfold r18n at hr
    generalize hc : conts os = C at hr
    have hq := dNl.elim hr; clear hr; obtain ⟨l1, C, rfl, rfl, hr⟩ := hq; simp only [List.replicate, List.nil_append, List.cons_append] at hc
    replace hr := dV.elim hr; obtain ⟨v1, l2, y1, rfl, e1, hr⟩ := hr; obtain rfl := asI_eq _ _ _ e1
    replace hr := dFin hr; obtain ⟨rfl, rfl, x, h, rfl⟩ := hr
    obtain ⟨os, rfl, ha, hc⟩ := kinds_none ha hc
    obtain ⟨os, rfl, ha, hc⟩ := kinds_none ha hc
    obtain rfl := kinds_nil hc
    exact ⟨_, rfl, leads18n registry_Registry_find registry_Registry_find_nil registry_Registry_given registry_Registry_given_nil hS2 _ x h⟩
def registry_Registry_Get : registry_Registry → Int → Option (api_Backend × Bool) := registry_Registry_GetF registry_Registry_find registry_Registry_find_nil registry_Registry_given registry_Registry_given_nil registry_row_told
def registry_Registry_Get_nil : Int → Option (api_Backend × Bool) := registry_Registry_Get_nilF registry_Registry_find registry_Registry_find_nil registry_Registry_given registry_Registry_given_nil
theorem lift18 : SumOK Try.prog 18 (s18 registry_Registry_Get registry_Registry_Get_nil) := ok18 registry_Registry_find registry_Registry_find_nil registry_Registry_given registry_Registry_given_nil registry_row_told (SumsOK.of_tab ⟨lift71, lift70, lift72, trivial⟩) (SumsOK.of_tab ⟨lift71, lift70, trivial⟩)
def registry_Registry_Remove_s1 (ga0 : registry_Registry) (ida1 : Int) (i : Int) (xj : Int) (s1 : List registry_row) : Option (Sum (Int × Int × (List registry_row)) (Int × registry_Registry)) :=
  cond (decide (xj < (s1.length : Int)))
    (
    oreq (decide ((0 : Int) ≤ xj ∧ xj < (s1.length : Int))) <|
    (s1[xj.toNat]?).bind fun (e1 : registry_row) =>
    cond (!(e1.Backend.ID == ida1))
      (
      oreq (decide ((0 : Int) ≤ i ∧ i < (s1.length : Int))) <|
      oreq (decide (i.toNat < s1.length)) <|
      let row := s1.set i.toNat e1
      some (.inl (wI .i64 (i + 1), wI .i64 (xj + 1), row)))
      (
      some (.inl (i, wI .i64 (xj + 1), s1))))
    (
    oreq (decide ((0 : Int) ≤ i ∧ i ≤ (s1.length : Int))) <|
    oreq (decide (i.toNat + (s1.length - i.toNat) = s1.length)) <|
    let row1 := s1.take i.toNat
    oreq (decide ((0 : Int) ≤ i ∧ i ≤ (s1.length : Int))) <|
    some (.inr ((0, registry_Registry.mk ga0.rule row1 ga0.last (wI .i64 (ga0.version + 1))))))
def registry_Registry_Remove_s2 (ga0 : registry_Registry) (ida1 : Int) (t8 : Int) : Option (Sum Int (Int × registry_Registry)) :=
  cond (decide (t8 < (ga0.rows.length : Int)))
    (
    oreq (decide ((0 : Int) ≤ t8 ∧ t8 < (ga0.rows.length : Int))) <|
    (ga0.rows[t8.toNat]?).bind fun (e : registry_row) =>
    cond (e.Backend.ID == ida1)
      (
      cond (t8 == (-1))
        (
        some (.inr ((0, registry_Registry.mk ga0.rule ga0.rows ga0.last (wI .i64 (ga0.version + 1))))))
        (
        (iter (fun st => registry_Registry_Remove_s1 ga0 ida1 st.1 st.2.1 st.2.2) FUEL (t8, wI .i64 (t8 + 1), ga0.rows)).bind fun o => some (.inr (o))))
      (
      some (.inl (wI .i64 (t8 + 1)))))
    (
    some (.inr ((0, registry_Registry.mk ga0.rule ga0.rows ga0.last (wI .i64 (ga0.version + 1))))))
def registry_Registry_RemoveF (registry_Registry_find : registry_Registry → Int → Option (Int × Bool)) (registry_Registry_find_nil : Int → Option (Int × Bool)) (registry_Registry_given : registry_Registry → Option Bool) (registry_Registry_given_nil : Option Bool) (ga0 : registry_Registry) (ida1 : Int) : Option (Int × registry_Registry) :=
  (registry_Registry_given ga0).bind fun xg =>
  cond (!xg)
    (
    some ((1, ga0)))
    (
    (registry_Registry_find ga0 ida1).bind fun f =>
    cond (!f.2)
      (
      some ((13, ga0)))
      (
      oreq (decide ((0 : Int) ≤ f.1 ∧ f.1 < (ga0.rows.length : Int))) <|
      iter (fun st => registry_Registry_Remove_s2 ga0 ida1 st) FUEL 0))
def rx27 (x : Int × registry_Registry) : SRes := ⟨.int .i64 x.1, [(vT cregistry_row x.2.rows)], [some [.int .i64 x.2.rule.Rise, .int .i64 x.2.rule.Fall, .slice (some ⟨0, 0, none⟩) x.2.rows.length 9, .int .i64 x.2.last, .int .i64 x.2.version], none]⟩
def r27 (g : registry_Registry → Int → Option (Int × registry_Registry)) : Dec := dTr 2 (udregistry_Registry 0) fun (y0 : registry_Registry) => dV (asI .i64) fun (y1 : Int) => dEnd (ofG (g y0 y1) rx27)
theorem r27_c {g : registry_Registry → Int → Option (Int × registry_Registry)} {y0 : registry_Registry} {y1 : Int} {x : Int × registry_Registry} (hx : g y0 y1 = some x) : r27 g [.pointer (some ⟨0, 0, none⟩), .int .i64 y1] [some [.int .i64 y0.rule.Rise, .int .i64 y0.rule.Fall, .slice (some ⟨1, 0, none⟩) y0.rows.length 9, .int .i64 y0.last, .int .i64 y0.version], some (vT cregistry_row y0.rows)] = some (rx27 x) := (dTr_eq rfl rfl (udregistry_Registry_c 0 _)).trans ((dV_eq (asI_c _)).trans (ofG_eq hx))
def s27 (g : registry_Registry → Int → Option (Int × registry_Registry)) : Summ := ⟨[.tr [⟨none, 0, 0, 1, none⟩, ⟨some 0, 2, 0, 2, some 9⟩], .v], r27 g⟩
theorem r27_eq {g : registry_Registry → Int → Option (Int × registry_Registry)} {y0 : registry_Registry} {y1 : Int} {x : Int × registry_Registry} (hx : g y0 y1 = some x) : (s27 g).run [.pointer (some ⟨0, 0, none⟩), .int .i64 y1] [some [.int .i64 y0.rule.Rise, .int .i64 y0.rule.Fall, .slice (some ⟨1, 0, none⟩) y0.rows.length 9, .int .i64 y0.last, .int .i64 y0.version], some (vT cregistry_row y0.rows)] = some (rx27 x) := r27_c hx
abbrev sums27 (registry_Registry_find : registry_Registry → Int → Option (Int × Bool)) (registry_Registry_find_nil : Int → Option (Int × Bool)) (registry_Registry_given : registry_Registry → Option Bool) (registry_Registry_given_nil : Option Bool) : List (Nat × Summ) := [(71, s71 registry_Registry_find registry_Registry_find_nil), (70, s70 registry_Registry_given registry_Registry_given_nil)]
def head27_1 (ga0 : registry_Registry) (ida1 : Int) (i : Int) (xj : Int) (s1 : List registry_row) : VM :=
  ⟨⟨85, 42, [(0, .slice (some ⟨1, 0, none⟩) s1.length 9), (1, .func (.func 86) ⟨[]⟩ ⟨[.pointer (some ⟨2, 0, none⟩)]⟩), (5, .int .i64 i), (6, .int .i64 xj)], [.code k85_22, .inLoop k85_22, .inBlock 0, .code k85_29], [], false, none⟩, [⟨27, 21, [(5, .int .i64 0), (11, .pointer (some ⟨0, 0, none⟩))], [.inReg (opsD k27_3 6), .code k27_7], [], false, none⟩], [(0, .cells [.int .i64 ga0.rule.Rise, .int .i64 ga0.rule.Fall, .slice (some ⟨1, 0, none⟩) s1.length 9, .int .i64 ga0.last, .int .i64 (wI .i64 (ga0.version + 1))]), (1, .row true (vT cregistry_row s1)), (2, .cells [.int .i64 ida1])], 4⟩
def head27_2 (ga0 : registry_Registry) (ida1 : Int) (t8 : Int) : VM :=
  ⟨⟨127, 19, [(0, .slice (some ⟨1, 0, none⟩) ga0.rows.length 9), (1, .func (.func 86) ⟨[]⟩ ⟨[.pointer (some ⟨2, 0, none⟩)]⟩), (7, .int .i64 (ga0.rows.length : Int)), (8, .int .i64 t8)], [.code k127_15, .inLoop k127_15, .inBlock 0, .code k127_20], [], false, none⟩, [⟨85, 42, [(0, .slice (some ⟨1, 0, none⟩) ga0.rows.length 9), (1, .func (.func 86) ⟨[]⟩ ⟨[.pointer (some ⟨2, 0, none⟩)]⟩)], [.inReg (opsD k85_1 2), .code k85_31], [], false, none⟩, ⟨27, 21, [(5, .int .i64 0), (11, .pointer (some ⟨0, 0, none⟩))], [.inReg (opsD k27_3 6), .code k27_7], [], false, none⟩], [(0, .cells [.int .i64 ga0.rule.Rise, .int .i64 ga0.rule.Fall, .slice (some ⟨1, 0, none⟩) ga0.rows.length 9, .int .i64 ga0.last, .int .i64 (wI .i64 (ga0.version + 1))]), (1, .row true (vT cregistry_row ga0.rows)), (2, .cells [.int .i64 ida1])], 3⟩
theorem loop27_1 (registry_Registry_find : registry_Registry → Int → Option (Int × Bool)) (registry_Registry_find_nil : Int → Option (Int × Bool)) (registry_Registry_given : registry_Registry → Option Bool) (registry_Registry_given_nil : Option Bool) (hS : SumsOK Try.prog (aget (sums27 registry_Registry_find registry_Registry_find_nil registry_Registry_given registry_Registry_given_nil))) (ga0 : registry_Registry) (ida1 : Int) (res : Int × registry_Registry) : ∀ fuel (st : Int × Int × (List registry_row)) (o : Int × registry_Registry), iter (fun st => registry_Registry_Remove_s1 ga0 ida1 st.1 st.2.1 st.2.2) fuel st = some o → (o = res) →
    Leads Try.prog 27 2 (head27_1 ga0 ida1 st.1 st.2.1 st.2.2) (fun v H _ => Res 2 (rx27 res) v H) := by
  intro fuel st o h hc
  refine iter_leads (head := fun st => head27_1 ga0 ida1 st.1 st.2.1 st.2.2) (C := fun o => (o = res)) ?_ fuel st o h hc
  clear h hc o st fuel
  intro st o h hc
  obtain ⟨i, xj, s1⟩ := st
  replace h : registry_Registry_Remove_s1 ga0 ida1 i xj s1 = some o := h
  show Leads Try.prog 27 2 (head27_1 ga0 ida1 i xj s1) (fun v H _ => Res 2 (rx27 res) v H)
  unfold registry_Registry_Remove_s1 at h
  refine ev_ok tab_ok hS true 3000 ?_
  conv => whnf
  refine br.h2 h ?_ ?_ ?_
  · rfl
  · clear h; intro hb h; conv => whnf
    replace h := oreq.elim h; obtain ⟨hb, h⟩ := h
    first | (refine req.intro hb ?_; conv => whnf) | skip
    replace h := oreq.elim h; obtain ⟨hb, h⟩ := h
    refine clr_T cregistry_row_len hb (by first | rfl | omega) ⟨rfl, rfl, rfl⟩ ?_
    conv => whnf
    let row1 : List registry_row := s1.take i.toNat
    have hcut : i.toNat = row1.length := cut_len hb
    conv => whnf
    replace h := oreq.elim h; obtain ⟨hb, h⟩ := h
    first | (refine req.intro hb ?_; conv => whnf) | skip
    try rw [show i.toNat = row1.length from hcut]
    try rw [show s1.take row1.length = row1 from (congrArg (fun n => s1.take n) hcut).symm]
    conv => whnf
    all_goals (cases h; cases hc)
    all_goals exact Res.of [1] rfl (nw_s (rn_T cregistry_row_flat) (hs_row rfl) nw_0) (by decide) (js_r rfl js_0) (wr_s (rfl) (hs_cells rfl) (wr_n wr_0))
  clear h; intro hb h; conv => whnf
  replace h := oreq.elim h; obtain ⟨hb, h⟩ := h
  first | (refine req.intro hb ?_; conv => whnf) | skip
  replace h := obind.elim h; obtain ⟨e1, hy, h⟩ := h
  refine ld_T cregistry_row_len hy (by first | omega | exact Nat.zero_add _ | exact congrArg (· + _) (Nat.zero_add _)) rfl ?_
  conv => whnf
  refine br.h2 h ?_ ?_ ?_
  · rfl
  · clear h; intro hb h; conv => whnf
    cases h; simp only [Sum.elim_inl, head27_1] at hc
    exact lrA0 hc [(0, 0), (1, 1), (2, 2)] rfl
  clear h; intro hb h; conv => whnf
  replace h := oreq.elim h; obtain ⟨hb, h⟩ := h
  first | (refine req.intro hb ?_; conv => whnf) | skip
  replace h := oreq.elim h; obtain ⟨hb, h⟩ := h
  refine st_TN cregistry_row_len hb (by omega) rfl rfl rfl ?_
  conv => whnf
  let row : List registry_row := s1.set i.toNat e1
  try rw [show s1.length = row.length from (List.length_set ..).symm]
  conv => whnf
  cases h; simp only [Sum.elim_inl, head27_1] at hc
  exact lrA0 hc [(0, 0), (1, 1), (2, 2)] rfl
theorem loop27_2 (registry_Registry_find : registry_Registry → Int → Option (Int × Bool)) (registry_Registry_find_nil : Int → Option (Int × Bool)) (registry_Registry_given : registry_Registry → Option Bool) (registry_Registry_given_nil : Option Bool) (hS : SumsOK Try.prog (aget (sums27 registry_Registry_find registry_Registry_find_nil registry_Registry_given registry_Registry_given_nil))) (ga0 : registry_Registry) (ida1 : Int) (res : Int × registry_Registry) : ∀ fuel (st : Int) (o : Int × registry_Registry), iter (fun st => registry_Registry_Remove_s2 ga0 ida1 st) fuel st = some o → (o = res) →
    Leads Try.prog 27 2 (head27_2 ga0 ida1 st) (fun v H _ => Res 2 (rx27 res) v H) := by
  intro fuel st o h hc
  refine iter_leads (head := fun st => head27_2 ga0 ida1 st) (C := fun o => (o = res)) ?_ fuel st o h hc
  clear h hc o st fuel
  intro t8 o h hc
  replace h : registry_Registry_Remove_s2 ga0 ida1 t8 = some o := h
  show Leads Try.prog 27 2 (head27_2 ga0 ida1 t8) (fun v H _ => Res 2 (rx27 res) v H)
  unfold registry_Registry_Remove_s2 at h
  refine ev_ok tab_ok hS true 3000 ?_
  conv => whnf
  refine br.h2 h ?_ ?_ ?_
  · rfl
  · clear h; intro hb h; conv => whnf
    all_goals (cases h; cases hc)
    all_goals exact Res.of [1] rfl (nw_s (rn_T cregistry_row_flat) (hs_row rfl) nw_0) (by decide) (js_r rfl js_0) (wr_s (rfl) (hs_cells rfl) (wr_n wr_0))
  clear h; intro hb h; conv => whnf
  replace h := oreq.elim h; obtain ⟨hb, h⟩ := h
  first | (refine req.intro hb ?_; conv => whnf) | skip
  replace h := obind.elim h; obtain ⟨e, hy, h⟩ := h
  refine ld_T cregistry_row_len hy (by first | omega | exact Nat.zero_add _ | exact congrArg (· + _) (Nat.zero_add _)) rfl ?_
  conv => whnf
  refine br.h2 h ?_ ?_ ?_
  · rfl
  · clear h; intro hb h; conv => whnf
    cases h; simp only [Sum.elim_inl, head27_2] at hc
    exact lrA0 hc [(0, 0), (1, 1), (2, 2)] rfl
  clear h; intro hb h; conv => whnf
  refine br.h h ?_ ?_ ?_
  · rfl
  · clear h; intro hb h; conv => whnf
    all_goals (cases h; cases hc)
    all_goals exact Res.of [1] rfl (nw_s (rn_T cregistry_row_flat) (hs_row rfl) nw_0) (by decide) (js_r rfl js_0) (wr_s (rfl) (hs_cells rfl) (wr_n wr_0))
  clear h; intro hb h; conv => whnf
  obtain ⟨y, hy, h2⟩ := obind.elim h; cases h2
  have hl := loop27_1 registry_Registry_find registry_Registry_find_nil registry_Registry_given registry_Registry_given_nil hS _ _ res _ _ _ hy hc; simp only [head27_1] at hl
  exact lrA0 hl [(0, 0), (1, 1), (2, 2)] rfl
theorem leads27 (registry_Registry_find : registry_Registry → Int → Option (Int × Bool)) (registry_Registry_find_nil : Int → Option (Int × Bool)) (registry_Registry_given : registry_Registry → Option Bool) (registry_Registry_given_nil : Option Bool) (hS : SumsOK Try.prog (aget (sums27 registry_Registry_find registry_Registry_find_nil registry_Registry_given registry_Registry_given_nil))) (ga0 : registry_Registry) (ida1 : Int) (res : Int × registry_Registry) (h : registry_Registry_RemoveF registry_Registry_find registry_Registry_find_nil registry_Registry_given registry_Registry_given_nil ga0 ida1 = some res) :
    Leads Try.prog 27 2 ⟨⟨27, 21, [(0, .pointer (some ⟨0, 0, none⟩)), (1, .int .i64 ida1)], [.code k27_10], [], false, none⟩, [], [(0, .cells [.int .i64 ga0.rule.Rise, .int .i64 ga0.rule.Fall, .slice (some ⟨1, 0, none⟩) ga0.rows.length 9, .int .i64 ga0.last, .int .i64 ga0.version]), (1, .row true (vT cregistry_row ga0.rows))], 2⟩ (fun v H _ => Res 2 (rx27 res) v H) := by
  unfold registry_Registry_RemoveF at h
  refine ev_ok tab_ok hS true 3000 ?_
  conv => whnf
  replace h := obind.elim h; obtain ⟨xg, hy, h⟩ := h
  refine sumK.introF [] (sumRun_of (aqs := [.pointer (some ⟨0, 0, none⟩)]) (ws := [.blk 0 false, .blk 1 false]) (n := 0) (m := 0) (t' := 3) (ra_cons (ra_tr rfl rfl (vp_at rfl rfl rfl rfl (vp_at rfl rfl (rn_T cregistry_row_flat) rfl vp_nil)) rfl) rfl ra_nil) rfl (by rfl) (r70_eq hy) rfl rfl rfl rfl (wb_skip rfl (wb_skip rfl wb_nil)) an_nil rfl) ?_
  conv => whnf
  refine br.h h ?_ ?_ ?_
  · rfl
  · clear h; intro hb h; conv => whnf
    all_goals (cases h)
    all_goals exact Res.of [1] rfl (nw_s (rn_T cregistry_row_flat) (hs_row rfl) nw_0) (by decide) (js_r rfl js_0) (wr_s (rfl) (hs_cells rfl) (wr_n wr_0))
  clear h; intro hb h; conv => whnf
  replace h := obind.elim h; obtain ⟨f, hy, h⟩ := h
  refine sumK.introF [] (sumRun_of (aqs := [.pointer (some ⟨0, 0, none⟩), .int .i64 ida1]) (ws := [.blk 0 false, .blk 1 false]) (n := 0) (m := 0) (t' := 3) (ra_cons (ra_tr rfl rfl (vp_at rfl rfl rfl rfl (vp_at rfl rfl (rn_T cregistry_row_flat) rfl vp_nil)) rfl) rfl (ra_cons rfl rfl ra_nil)) rfl (by rfl) (r71_eq hy) rfl rfl rfl rfl (wb_skip rfl (wb_skip rfl wb_nil)) an_nil rfl) ?_
  conv => whnf
  refine br.h h ?_ ?_ ?_
  · rfl
  · clear h; intro hb h; conv => whnf
    all_goals (cases h)
    all_goals exact Res.of [1] rfl (nw_s (rn_T cregistry_row_flat) (hs_row rfl) nw_0) (by decide) (js_r rfl js_0) (wr_s (rfl) (hs_cells rfl) (wr_n wr_0))
  clear h; intro hb h; conv => whnf
  replace h := oreq.elim h; obtain ⟨hb, h⟩ := h
  first | (refine req.intro hb ?_; conv => whnf) | skip
  have hl := loop27_2 registry_Registry_find registry_Registry_find_nil registry_Registry_given registry_Registry_given_nil hS _ _ res _ _ _ h rfl; simp only [head27_2] at hl
  exact lrA0 hl [(0, 0), (1, 1), (2, 2)] rfl
theorem ok27 (registry_Registry_find : registry_Registry → Int → Option (Int × Bool)) (registry_Registry_find_nil : Int → Option (Int × Bool)) (registry_Registry_given : registry_Registry → Option Bool) (registry_Registry_given_nil : Option Bool) (hS : SumsOK Try.prog (aget (sums27 registry_Registry_find registry_Registry_find_nil registry_Registry_given registry_Registry_given_nil))) : SumOK Try.prog 27 (s27 (registry_Registry_RemoveF registry_Registry_find registry_Registry_find_nil registry_Registry_given registry_Registry_given_nil)) := by
  refine SumOK.of_leads tab_ok (fun ar os r ha hr => ?_) ⟨Try.f27, rfl, by decide, rfl⟩
  replace hr : r27 (registry_Registry_RemoveF registry_Registry_find registry_Registry_find_nil registry_Registry_given registry_Registry_given_nil) ar (conts os) = some r := hr
  unfold r27 at hr
  generalize hc : conts os = C at hr
  have hq := dTr.elim hr; clear hr; obtain ⟨v0, l1, c0, C, y0, rfl, rfl, e0, hr⟩ := hq; obtain ⟨rfl, rfl⟩ := udregistry_Registry_eq e0; simp only [List.nil_append, List.cons_append] at hc
  replace hr := dV.elim hr; obtain ⟨v1, l2, y1, rfl, e1, hr⟩ := hr; obtain rfl := asI_eq _ _ _ e1
  replace hr := dFin hr; obtain ⟨rfl, rfl, x, h, rfl⟩ := hr
  obtain ⟨os, rfl, ha, hc⟩ := kinds_some ha hc
  obtain ⟨os, rfl, ha, hc⟩ := kinds_some ha hc
  obtain rfl := kinds_nil hc
  exact ⟨_, rfl, leads27 registry_Registry_find registry_Registry_find_nil registry_Registry_given registry_Registry_given_nil hS _ _ x h⟩
def registry_Registry_Remove : registry_Registry → Int → Option (Int × registry_Registry) := registry_Registry_RemoveF registry_Registry_find registry_Registry_find_nil registry_Registry_given registry_Registry_given_nil
theorem lift27 : SumOK Try.prog 27 (s27 registry_Registry_Remove) := ok27 registry_Registry_find registry_Registry_find_nil registry_Registry_given registry_Registry_given_nil (SumsOK.of_tab ⟨lift71, lift70, trivial⟩)
end Go.Vm.Code
namespace Go.Vm.Code
open Go Go.Vm
theorem iter_build {β ρ : Type} (F : Nat → β) (N : Nat) (step : Int × List β → Option (Sum (Int × List β) ρ)) (fin : List β → ρ)
    (h1 : ∀ i : Nat, i < N → ∀ out : List β, out.length = i → step ((i : Int), out) = some (.inl (((i + 1 : Nat) : Int), out ++ [F i])))
    (h2 : ∀ out : List β, out.length = N → step ((N : Int), out) = some (.inr (fin out))) {n : Nat} (hn : N < n) : iter step n (0, []) = some (fin ((List.range N).map F)) := by
  refine iter_eq (fun _ => fin ((List.range N).map F)) (fun s => ∃ i : Nat, i ≤ N ∧ s = ((i : Int), (List.range i).map F)) (fun s => N - s.1.toNat) ?_ n _ ⟨0, Nat.zero_le _, rfl⟩ (by simp; omega)
  rintro s ⟨i, hi, rfl⟩
  rcases Nat.lt_or_ge i N with h | h
  · right
    refine ⟨_, h1 i h _ (by simp), ⟨i + 1, h, ?_⟩, ?_, rfl⟩
    · rw [List.range_succ, List.map_append]; rfl
    · simp only [Int.toNat_natCast]; omega
  · left
    have e : i = N := by omega
    subst e
    exact h2 _ (by simp)
def rid (r : registry_row) : Int := r.Backend.ID
def tld (r : registry_row) : api_Backend := ⟨r.Backend.ID, r.Backend.Weight, if r.drains then 3 else if r.health.Up then 1 else 2, r.Backend.Addr⟩
theorem told_eq (r : registry_row) : registry_row_told r = some (tld r) := by
  unfold registry_row_told registry_row_toldF tld
  cases r.drains <;> cases r.health.Up <;> rfl
def ruleB (r : health_Rule) : Bool := decide (1 ≤ r.Rise ∧ r.Rise ≤ 100 ∧ 1 ≤ r.Fall ∧ r.Fall ≤ 100)
theorem within_eq (n a b : Int) : health_within n a b = some (decide (a ≤ n ∧ n ≤ b)) := by
  unfold health_within health_withinF
  by_cases h : a ≤ n
  · rw [cond_p h]; simp [h]
  · rw [cond_n h]; simp [h]
theorem hright_eq (r : health_Rule) : health_Right r = some (ruleB r) := by
  unfold health_Right health_RightF ruleB
  rw [within_eq, within_eq, Option.bind_some, Option.bind_some]
  by_cases h : 1 ≤ r.Rise ∧ r.Rise ≤ 100
  · rw [cond_p h]; simp [h]
  · rw [cond_n h]; simp; omega
def weighB (n : Int) : Bool := decide (0 ≤ n ∧ n ≤ 1000)
theorem weighs_eq (n : Int) : registry_weighs n = some (weighB n) := by
  unfold registry_weighs registry_weighsF weighB
  by_cases h : 0 ≤ n
  · rw [cond_p h]; simp [h]
  · rw [cond_n h]; simp [h]
def adrB (a : api_Addr) : Bool := a.V6 || (a.Hi == 0 && decide (a.Lo < 4294967296))
theorem aright_eq (a : api_Addr) : addr_Right a = some (adrB a) := by
  unfold addr_Right addr_RightF adrB
  cases a.V6
  · cases a.Hi == 0 <;> rfl
  · rfl
structure RI (N : Int) (g : registry_Registry) : Prop where
  rule : ruleB g.rule = true
  len : g.rows.length ≤ 64
  last0 : 0 ≤ g.last
  last1 : g.last ≤ 65535
  ver0 : 0 ≤ g.version
  ver1 : g.version ≤ N
  ids : ∀ i ∈ g.rows.map rid, 1 ≤ i ∧ i ≤ g.last
  up : (g.rows.map rid).Pairwise (· < ·)
theorem RI.id_at {N : Int} {g : registry_Registry} (h : RI N g) {k : Nat} {r : registry_row} (hk : g.rows[k]? = some r) : 1 ≤ r.Backend.ID ∧ r.Backend.ID ≤ g.last :=
  h.ids _ (List.mem_map.2 ⟨r, List.mem_of_getElem? hk, rfl⟩)
theorem RI.lt {N : Int} {g : registry_Registry} (h : RI N g) {j k : Nat} {q r : registry_row} (hj : g.rows[j]? = some q) (hk : g.rows[k]? = some r) (hjk : j < k) : q.Backend.ID < r.Backend.ID := by
  obtain ⟨h1, e1⟩ := List.getElem?_eq_some_iff.1 hj
  obtain ⟨h2, e2⟩ := List.getElem?_eq_some_iff.1 hk
  have := List.pairwise_iff_getElem.1 h.up j k (by simpa) (by simpa) hjk
  simpa [rid, e1, e2] using this
theorem given_eq {N : Int} {g : registry_Registry} (h : RI N g) : registry_Registry_given g = some true := by
  unfold registry_Registry_given registry_Registry_givenF
  rw [hright_eq, Option.bind_some, h.rule]
theorem find1_eq {r : registry_row} {id : Int} (h1 : 1 ≤ r.Backend.ID) (h2 : r.Backend.ID ≤ 65535) : ∃ x, registry_Registry_find_1 r id = some x ∧ (x < 0 ↔ r.Backend.ID < id) ∧ (x = 0 ↔ r.Backend.ID = id) := by
  unfold registry_Registry_find_1 registry_Registry_find_1F
  have e : ∀ t : Int, 0 ≤ t → t ≤ 65536 → wI .i64 (r.Backend.ID - t) = r.Backend.ID - t := fun t _ _ => wI64 (by omega) (by omega)
  refine ⟨_, rfl, ?_⟩
  by_cases h : 65536 < id
  · simp only [h, ↓reduceIte, show (65536 : Int) > 0 from by decide]
    rw [e _ (by omega) (by omega)]; omega
  · by_cases h0 : id > 0
    · simp only [h, h0, ↓reduceIte]
      rw [e _ (by omega) (by omega)]; omega
    · simp only [h, h0, ↓reduceIte]
      rw [e _ (by omega) (by omega)]; omega
def lowN (rows : List registry_row) (id : Int) : Nat := (rows.takeWhile fun r => decide (r.Backend.ID < id)).length
theorem lowN_le (rows : List registry_row) (id : Int) : lowN rows id ≤ rows.length := (List.takeWhile_sublist _).length_le
theorem lowN_iff {id : Int} : ∀ {rows : List registry_row}, (rows.map rid).Pairwise (· < ·) → ∀ {k : Nat} {r : registry_row}, rows[k]? = some r → (r.Backend.ID < id ↔ k < lowN rows id)
  | [], _, k, r, h => by simp at h
  | q :: rows, hp, k, r, h => by
    rw [List.map_cons, List.pairwise_cons] at hp
    unfold lowN
    by_cases hq : q.Backend.ID < id
    · rw [List.takeWhile_cons_of_pos (by simpa using hq), List.length_cons]
      cases k with
      | zero => simp at h; subst h; simp [hq]
      | succ k => have := lowN_iff (id := id) hp.2 (k := k) (by simpa using h); unfold lowN at this; omega
    · rw [List.takeWhile_cons_of_neg (by simpa using hq)]
      cases k with
      | zero => simp at h; subst h; simp [hq]
      | succ k =>
        have hm : r ∈ rows := List.mem_of_getElem? (by simpa using h)
        have := hp.1 _ (List.mem_map.2 ⟨r, hm, rfl⟩)
        simp only [rid] at this
        simp; omega
theorem find_eq {N : Int} {g : registry_Registry} (h : RI N g) (id : Int) : registry_Registry_find g id = some ((lowN g.rows id : Int), match g.rows[lowN g.rows id]? with | some r => decide (r.Backend.ID = id) | none => false) := by
  unfold registry_Registry_find registry_Registry_findF
  have hl := lowN_le g.rows id
  have hlen := h.len
  refine iter_eq (fun _ => ((lowN g.rows id : Int), match g.rows[lowN g.rows id]? with | some r => decide (r.Backend.ID = id) | none => false))
    (fun (s : Int × Int) => 0 ≤ s.1 ∧ s.1 ≤ lowN g.rows id ∧ (lowN g.rows id : Int) ≤ s.2 ∧ s.2 ≤ g.rows.length) (fun (s : Int × Int) => (s.2 - s.1).toNat) ?_ FUEL (0, (g.rows.length : Int)) ⟨by simp, by simp, by simpa using hl, by simp⟩ (by rw [FUEL_eq]; simp only []; omega)
  rintro ⟨i, j⟩ ⟨h0, h1, h2, h3⟩
  simp only at h0 h1 h2 h3
  dsimp only
  unfold registry_Registry_find_s1
  by_cases hij : i < j
  · right
    rw [cond_p hij]
    have et : wI .i64 ((wI .u64 (wI .i64 (i + j))).fdiv (2 ^ 1)) = (i + j) / 2 := by
      rw [wI64 (n := i + j) (by omega) (by omega), wU64 (by omega) (by omega), fdivP, wI64 (by omega) (by omega)]; rfl
    simp only [et]
    obtain ⟨m, hm⟩ := Int.eq_ofNat_of_zero_le (show 0 ≤ (i + j) / 2 by omega)
    rw [hm, oreq_p ⟨by omega, by omega⟩]
    have hlt : m < g.rows.length := by omega
    rw [Int.toNat_natCast, List.getElem?_eq_getElem hlt, Option.bind_some]
    have hk := List.getElem?_eq_getElem hlt
    have hid := h.id_at hk
    obtain ⟨x, hx, hx1, hx2⟩ := find1_eq (id := id) hid.1 (by have := h.last1; omega)
    rw [hx, Option.bind_some]
    have hiff := lowN_iff (id := id) h.up hk
    by_cases hc : x < 0
    · rw [cond_p hc]
      have hml : m < lowN g.rows id := hiff.1 (hx1.1 hc)
      refine ⟨_, rfl, ⟨?_, ?_, h2, h3⟩, ?_, by trivial⟩
      · simp only []; rw [wI64 (by omega) (by omega)]; omega
      · simp only []; rw [wI64 (by omega) (by omega)]; omega
      · simp only []; rw [wI64 (by omega) (by omega)]; omega
    · rw [cond_n hc]
      have hml : ¬ m < lowN g.rows id := fun e => hc (hx1.2 (hiff.2 e))
      exact ⟨_, rfl, ⟨h0, h1, by simp only []; omega, by simp only []; omega⟩, by simp only []; omega, by trivial⟩
  · left
    rw [cond_n hij]
    have ei : i = lowN g.rows id := by omega
    subst ei
    by_cases hlt : lowN g.rows id < g.rows.length
    · rw [cond_p (by omega), oreq_p ⟨by omega, by omega⟩, Int.toNat_natCast, List.getElem?_eq_getElem hlt, Option.bind_some]
      have hk := List.getElem?_eq_getElem hlt
      have hid := h.id_at hk
      obtain ⟨x, hx, hx1, hx2⟩ := find1_eq (id := id) hid.1 (by have := h.last1; omega)
      rw [hx, Option.bind_some]
      congr 3
      rw [Bool.eq_iff_iff]; simp [hx2]
    · rw [cond_n (by omega), List.getElem?_eq_none (by omega)]
theorem find_yes {N : Int} {g : registry_Registry} (h : RI N g) {k : Nat} {r : registry_row} (hk : g.rows[k]? = some r) : registry_Registry_find g r.Backend.ID = some ((k : Int), true) := by
  have h1 := lowN_iff (id := r.Backend.ID) h.up hk
  have e : lowN g.rows r.Backend.ID = k := by
    rcases Nat.lt_trichotomy (lowN g.rows r.Backend.ID) k with hl | hl | hl
    · exfalso
      have hkl : k < g.rows.length := (List.getElem?_eq_some_iff.1 hk).1
      have hq := List.getElem?_eq_getElem (show lowN g.rows r.Backend.ID < g.rows.length by omega)
      have := (lowN_iff (id := r.Backend.ID) h.up hq).1 (h.lt hq hk hl)
      omega
    · exact hl
    · exfalso; have := h1.2 hl; omega
  rw [find_eq h, e, hk]; simp
theorem find_no {N : Int} {g : registry_Registry} (h : RI N g) {id : Int} (hn : ∀ (k : Nat) r, g.rows[k]? = some r → r.Backend.ID ≠ id) : ∃ i, registry_Registry_find g id = some (i, false) := by
  rw [find_eq h]
  refine ⟨(lowN g.rows id : Int), ?_⟩
  congr 2
  split
  · rename_i r hr; simpa using hn _ _ hr
  · rfl
end Go.Vm.Code
namespace Go.Vm.Code
open Go Go.Vm Go.Proofs
set_option maxRecDepth 100000
set_option maxHeartbeats 4000000
set_option linter.unusedVariables false
def registry_Registry_DrainF (registry_Registry_find : registry_Registry → Int → Option (Int × Bool)) (registry_Registry_find_nil : Int → Option (Int × Bool)) (registry_Registry_given : registry_Registry → Option Bool) (registry_Registry_given_nil : Option Bool) (ga0 : registry_Registry) (ida1 : Int) (on : Bool) : Option (Int × registry_Registry) :=
  (registry_Registry_given ga0).bind fun xg =>
  cond (!xg)
    (
    some ((1, ga0)))
    (
    (registry_Registry_find ga0 ida1).bind fun f =>
    cond (!f.2)
      (
      some ((13, ga0)))
      (
      oreq (decide ((0 : Int) ≤ f.1 ∧ f.1 < (ga0.rows.length : Int))) <|
      (ga0.rows[f.1.toNat]?).bind fun (e : registry_row) =>
      cond (e.drains == on)
        (
        some ((11, ga0)))
        (
        let row := ga0.rows.set f.1.toNat (registry_row.mk e.Backend on e.health)
        some ((0, registry_Registry.mk ga0.rule row ga0.last (wI .i64 (ga0.version + 1)))))))
def rx28 (x : Int × registry_Registry) : SRes := ⟨.int .i64 x.1, [(vT cregistry_row x.2.rows)], [some [.int .i64 x.2.rule.Rise, .int .i64 x.2.rule.Fall, .slice (some ⟨0, 0, none⟩) x.2.rows.length 9, .int .i64 x.2.last, .int .i64 x.2.version], none]⟩
def r28 (g : registry_Registry → Int → Bool → Option (Int × registry_Registry)) : Dec := dTr 2 (udregistry_Registry 0) fun (y0 : registry_Registry) => dV (asI .i64) fun (y1 : Int) => dV asB fun (y2 : Bool) => dEnd (ofG (g y0 y1 y2) rx28)
theorem r28_c {g : registry_Registry → Int → Bool → Option (Int × registry_Registry)} {y0 : registry_Registry} {y1 : Int} {y2 : Bool} {x : Int × registry_Registry} (hx : g y0 y1 y2 = some x) : r28 g [.pointer (some ⟨0, 0, none⟩), .int .i64 y1, .bool y2] [some [.int .i64 y0.rule.Rise, .int .i64 y0.rule.Fall, .slice (some ⟨1, 0, none⟩) y0.rows.length 9, .int .i64 y0.last, .int .i64 y0.version], some (vT cregistry_row y0.rows)] = some (rx28 x) := (dTr_eq rfl rfl (udregistry_Registry_c 0 _)).trans ((dV_eq (asI_c _)).trans ((dV_eq (asB_c)).trans (ofG_eq hx)))
def s28 (g : registry_Registry → Int → Bool → Option (Int × registry_Registry)) : Summ := ⟨[.tr [⟨none, 0, 0, 1, none⟩, ⟨some 0, 2, 0, 2, some 9⟩], .v, .v], r28 g⟩
theorem r28_eq {g : registry_Registry → Int → Bool → Option (Int × registry_Registry)} {y0 : registry_Registry} {y1 : Int} {y2 : Bool} {x : Int × registry_Registry} (hx : g y0 y1 y2 = some x) : (s28 g).run [.pointer (some ⟨0, 0, none⟩), .int .i64 y1, .bool y2] [some [.int .i64 y0.rule.Rise, .int .i64 y0.rule.Fall, .slice (some ⟨1, 0, none⟩) y0.rows.length 9, .int .i64 y0.last, .int .i64 y0.version], some (vT cregistry_row y0.rows)] = some (rx28 x) := r28_c hx
abbrev sums28 (registry_Registry_find : registry_Registry → Int → Option (Int × Bool)) (registry_Registry_find_nil : Int → Option (Int × Bool)) (registry_Registry_given : registry_Registry → Option Bool) (registry_Registry_given_nil : Option Bool) : List (Nat × Summ) := [(71, s71 registry_Registry_find registry_Registry_find_nil), (70, s70 registry_Registry_given registry_Registry_given_nil)]
theorem leads28 (registry_Registry_find : registry_Registry → Int → Option (Int × Bool)) (registry_Registry_find_nil : Int → Option (Int × Bool)) (registry_Registry_given : registry_Registry → Option Bool) (registry_Registry_given_nil : Option Bool) (hS : SumsOK Try.prog (aget (sums28 registry_Registry_find registry_Registry_find_nil registry_Registry_given registry_Registry_given_nil))) (ga0 : registry_Registry) (ida1 : Int) (on : Bool) (res : Int × registry_Registry) (h : registry_Registry_DrainF registry_Registry_find registry_Registry_find_nil registry_Registry_given registry_Registry_given_nil ga0 ida1 on = some res) :
    Leads Try.prog 28 2 ⟨⟨28, 11, [(0, .pointer (some ⟨0, 0, none⟩)), (1, .int .i64 ida1), (2, .bool on)], [.code k28_3], [], false, none⟩, [], [(0, .cells [.int .i64 ga0.rule.Rise, .int .i64 ga0.rule.Fall, .slice (some ⟨1, 0, none⟩) ga0.rows.length 9, .int .i64 ga0.last, .int .i64 ga0.version]), (1, .row true (vT cregistry_row ga0.rows))], 2⟩ (fun v H _ => Res 2 (rx28 res) v H) := by
  unfold registry_Registry_DrainF at h
  refine ev_ok tab_ok hS true 3000 ?_
  conv => whnf
  replace h := obind.elim h; obtain ⟨xg, hy, h⟩ := h
  refine sumK.introF [] (sumRun_of (aqs := [.pointer (some ⟨0, 0, none⟩)]) (ws := [.blk 0 false, .blk 1 false]) (n := 0) (m := 0) (t' := 3) (ra_cons (ra_tr rfl rfl (vp_at rfl rfl rfl rfl (vp_at rfl rfl (rn_T cregistry_row_flat) rfl vp_nil)) rfl) rfl ra_nil) rfl (by rfl) (r70_eq hy) rfl rfl rfl rfl (wb_skip rfl (wb_skip rfl wb_nil)) an_nil rfl) ?_
  conv => whnf
  refine br.h h ?_ ?_ ?_
  · rfl
  · clear h; intro hb h; conv => whnf
    all_goals (cases h)
    all_goals exact Res.of [1] rfl (nw_s (rn_T cregistry_row_flat) (hs_row rfl) nw_0) (by decide) (js_r rfl js_0) (wr_s (rfl) (hs_cells rfl) (wr_n wr_0))
  clear h; intro hb h; conv => whnf
  replace h := obind.elim h; obtain ⟨f, hy, h⟩ := h
  refine sumK.introF [] (sumRun_of (aqs := [.pointer (some ⟨0, 0, none⟩), .int .i64 ida1]) (ws := [.blk 0 false, .blk 1 false]) (n := 0) (m := 0) (t' := 3) (ra_cons (ra_tr rfl rfl (vp_at rfl rfl rfl rfl (vp_at rfl rfl (rn_T cregistry_row_flat) rfl vp_nil)) rfl) rfl (ra_cons rfl rfl ra_nil)) rfl (by rfl) (r71_eq hy) rfl rfl rfl rfl (wb_skip rfl (wb_skip rfl wb_nil)) an_nil rfl) ?_
  conv => whnf
  refine br.h h ?_ ?_ ?_
  · rfl
  · clear h; intro hb h; conv => whnf
    all_goals (cases h)
    all_goals exact Res.of [1] rfl (nw_s (rn_T cregistry_row_flat) (hs_row rfl) nw_0) (by decide) (js_r rfl js_0) (wr_s (rfl) (hs_cells rfl) (wr_n wr_0))
  clear h; intro hb h; conv => whnf
  replace h := oreq.elim h; obtain ⟨hb, h⟩ := h
  first | (refine req.intro hb ?_; conv => whnf) | skip
  replace h := obind.elim h; obtain ⟨e, hy, h⟩ := h
  refine rd.T (j := 6) cregistry_row_len hy (by first | omega | exact Nat.zero_add _ | exact congrArg (· + _) (Nat.zero_add _)) (by decide) rfl ?_
  conv => whnf
  refine br.h h ?_ ?_ ?_
  · rfl
  · clear h; intro hb h; conv => whnf
    all_goals (cases h)
    all_goals exact Res.of [1] rfl (nw_s (rn_T cregistry_row_flat) (hs_row rfl) nw_0) (by decide) (js_r rfl js_0) (wr_s (rfl) (hs_cells rfl) (wr_n wr_0))
  clear h; intro hb h; conv => whnf
  refine st_T (i := f.1.toNat) (x := e) (x' := registry_row.mk e.Backend on e.health) (j := 6) cregistry_row_len (by assumption) (by first | omega | exact Nat.zero_add _ | exact congrArg (· + _) (Nat.zero_add _)) (by decide) ⟨rfl, rfl⟩ rfl ?_
  conv => whnf
  let row : List registry_row := ga0.rows.set f.1.toNat (registry_row.mk e.Backend on e.health)
  try rw [show ga0.rows.length = row.length from (List.length_set ..).symm]
  conv => whnf
  all_goals (cases h)
  all_goals exact Res.of [1] rfl (nw_s (rn_T cregistry_row_flat) (hs_row rfl) nw_0) (by decide) (js_r rfl js_0) (wr_s (rfl) (hs_cells rfl) (wr_n wr_0))
theorem ok28 (registry_Registry_find : registry_Registry → Int → Option (Int × Bool)) (registry_Registry_find_nil : Int → Option (Int × Bool)) (registry_Registry_given : registry_Registry → Option Bool) (registry_Registry_given_nil : Option Bool) (hS : SumsOK Try.prog (aget (sums28 registry_Registry_find registry_Registry_find_nil registry_Registry_given registry_Registry_given_nil))) : SumOK Try.prog 28 (s28 (registry_Registry_DrainF registry_Registry_find registry_Registry_find_nil registry_Registry_given registry_Registry_given_nil)) := by
  refine SumOK.of_leads tab_ok (fun ar os r ha hr => ?_) ⟨Try.f28, rfl, by decide, rfl⟩
  replace hr : r28 (registry_Registry_DrainF registry_Registry_find registry_Registry_find_nil registry_Registry_given registry_Registry_given_nil) ar (conts os) = some r := hr
  unfold r28 at hr
  generalize hc : conts os = C at hr
  have hq := dTr.elim hr; clear hr; obtain ⟨v0, l1, c0, C, y0, rfl, rfl, e0, hr⟩ := hq; obtain ⟨rfl, rfl⟩ := udregistry_Registry_eq e0; simp only [List.nil_append, List.cons_append] at hc
  replace hr := dV.elim hr; obtain ⟨v1, l2, y1, rfl, e1, hr⟩ := hr; obtain rfl := asI_eq _ _ _ e1
  replace hr := dV.elim hr; obtain ⟨v2, l3, y2, rfl, e2, hr⟩ := hr; obtain rfl := asB_eq _ _ e2
  replace hr := dFin hr; obtain ⟨rfl, rfl, x, h, rfl⟩ := hr
  obtain ⟨os, rfl, ha, hc⟩ := kinds_some ha hc
  obtain ⟨os, rfl, ha, hc⟩ := kinds_some ha hc
  obtain rfl := kinds_nil hc
  exact ⟨_, rfl, leads28 registry_Registry_find registry_Registry_find_nil registry_Registry_given registry_Registry_given_nil hS _ _ _ x h⟩
def registry_Registry_Drain : registry_Registry → Int → Bool → Option (Int × registry_Registry) := registry_Registry_DrainF registry_Registry_find registry_Registry_find_nil registry_Registry_given registry_Registry_given_nil
theorem lift28 : SumOK Try.prog 28 (s28 registry_Registry_Drain) := ok28 registry_Registry_find registry_Registry_find_nil registry_Registry_given registry_Registry_given_nil (SumsOK.of_tab ⟨lift71, lift70, trivial⟩)
end Go.Vm.Code
namespace Go.Vm.Code
open Go Go.Vm
def noB : api_Backend := ⟨0, 0, 0, ⟨false, 0, 0⟩⟩
def goneB (id : Int) : api_Backend := ⟨id, 0, 4, ⟨false, 0, 0⟩⟩
def updR (g : registry_Registry) (k : Nat) (r : registry_row) (dv : Int) : registry_Registry := ⟨g.rule, g.rows.set k r, g.last, g.version + dv⟩
def newRow (id w : Int) (a : api_Addr) : registry_row := ⟨⟨id, w, 0, a⟩, false, ⟨true, 0⟩⟩
theorem RI.mono {N M : Int} {g : registry_Registry} (h : RI N g) (hm : N ≤ M) : RI M g := { h with ver1 := Int.le_trans h.ver1 hm }
theorem ids_set {rows : List registry_row} {k : Nat} {r q : registry_row} (hk : rows[k]? = some r) (hq : q.Backend.ID = r.Backend.ID) : (rows.set k q).map rid = rows.map rid := by
  apply List.ext_getElem?
  intro i
  rw [List.getElem?_map, List.getElem?_map, List.getElem?_set]
  split
  · rename_i e; subst e
    split
    · rw [hk]; simp [rid, hq]
    · rename_i hl; rw [List.getElem?_eq_none (by omega)]
  · rfl
theorem RI.upd {N : Int} {g : registry_Registry} (h : RI N g) {k : Nat} {r q : registry_row} (hk : g.rows[k]? = some r) (hq : q.Backend.ID = r.Backend.ID) {dv : Int} (h0 : 0 ≤ dv) (h1 : dv ≤ 1) : RI (N + 1) (updR g k q dv) := by
  have e := ids_set hk hq
  have hv0 := h.ver0; have hv1 := h.ver1
  exact { rule := h.rule, len := by simpa [updR] using h.len, last0 := h.last0, last1 := h.last1, ver0 := by show 0 ≤ g.version + dv; omega, ver1 := by show g.version + dv ≤ N + 1; omega,
          ids := by show ∀ i ∈ (g.rows.set k q).map rid, _; rw [e]; exact h.ids, up := by show ((g.rows.set k q).map rid).Pairwise _; rw [e]; exact h.up }
def addG (g : registry_Registry) (w : Int) (a : api_Addr) : Int × Int × registry_Registry :=
  if weighB w = true ∧ adrB a = true then
    if g.rows.length = 64 ∨ g.last = 65535 then (0, 9, g) else (g.last + 1, 0, ⟨g.rule, g.rows ++ [newRow (g.last + 1) w a], g.last + 1, g.version + 1⟩)
  else (0, 1, g)
theorem add_eq {N : Int} {g : registry_Registry} (h : RI N g) (hN : N < 2 ^ 40) (w : Int) (a : api_Addr) : registry_Registry_Add g w a = some (addG g w a) := by
  unfold registry_Registry_Add registry_Registry_AddF addG
  rw [given_eq h, Option.bind_some, weighs_eq, Option.bind_some, aright_eq, Option.bind_some]
  have hl := h.len; have h0 := h.last0; have h1 := h.last1; have v0 := h.ver0; have v1 := h.ver1
  cases hw : weighB w with
  | false => rfl
  | true =>
  cases ha : adrB a with
  | false => rfl
  | true =>
  simp only [Bool.not_true, cond_false, and_self, ↓reduceIte]
  by_cases e1 : g.rows.length = 64
  · rw [show ((g.rows.length : Int) == 64) = true from by rw [beq_iff_eq]; omega, cond_true, if_pos (.inl e1)]
  · rw [show ((g.rows.length : Int) == 64) = false from by rw [beq_eq_false_iff_ne]; omega, cond_false]
    by_cases e2 : g.last = 65535
    · rw [show (g.last == 65535) = true from by rw [beq_iff_eq]; exact e2, cond_true, if_pos (.inr e2)]
    · rw [show (g.last == 65535) = false from by rw [beq_eq_false_iff_ne]; exact e2, cond_false, if_neg (by omega), oreq_p (by omega), wI64 (by omega) (by omega), wI64 (n := g.version + 1) (by omega) (by omega)]; rfl
theorem add_RI {N : Int} {g : registry_Registry} (h : RI N g) (w : Int) (a : api_Addr) : RI (N + 1) (addG g w a).2.2 := by
  unfold addG
  split
  · split
    · exact h.mono (by omega)
    · rename_i hn
      have hl := h.len; have h0 := h.last0; have h1 := h.last1; have v0 := h.ver0; have v1 := h.ver1
      refine { rule := h.rule, len := by simp; omega, last0 := by show 0 ≤ g.last + 1; omega, last1 := by show g.last + 1 ≤ 65535; omega, ver0 := by show 0 ≤ g.version + 1; omega, ver1 := by show g.version + 1 ≤ N + 1; omega, ids := ?_, up := ?_ }
      · intro i hi
        simp only [List.map_append, List.map_cons, List.map_nil, List.mem_append, List.mem_singleton] at hi
        show 1 ≤ i ∧ i ≤ g.last + 1
        rcases hi with hi | hi
        · have := h.ids i hi; omega
        · subst hi; simp only [rid, newRow]; omega
      · simp only [List.map_append, List.map_cons, List.map_nil]
        rw [List.pairwise_append]
        refine ⟨h.up, List.pairwise_singleton .., fun i hi j hj => ?_⟩
        have := h.ids i hi
        simp only [List.mem_singleton] at hj
        subst hj; simp only [rid, newRow]; omega
  · exact h.mono (by omega)
theorem drain_yes {N : Int} {g : registry_Registry} (h : RI N g) (hN : N < 2 ^ 40) {k : Nat} {r : registry_row} (hk : g.rows[k]? = some r) (on : Bool) :
    registry_Registry_Drain g r.Backend.ID on = some (if r.drains = on then (11, g) else (0, updR g k ⟨r.Backend, on, r.health⟩ 1)) := by
  unfold registry_Registry_Drain registry_Registry_DrainF
  have v0 := h.ver0; have v1 := h.ver1
  have hl := (List.getElem?_eq_some_iff.1 hk).1
  rw [given_eq h, Option.bind_some, find_yes h hk, Option.bind_some]
  simp only [Bool.not_true, cond_false]
  rw [oreq_p ⟨by omega, by omega⟩, Int.toNat_natCast, hk, Option.bind_some]
  by_cases e : r.drains = on
  · rw [show (r.drains == on) = true from by simpa using e, cond_true, if_pos e]
  · rw [show (r.drains == on) = false from by simpa using e, cond_false, if_neg e, wI64 (by omega) (by omega)]; rfl
theorem drain_no {N : Int} {g : registry_Registry} (h : RI N g) {id : Int} (hn : ∀ (k : Nat) r, g.rows[k]? = some r → r.Backend.ID ≠ id) (on : Bool) : registry_Registry_Drain g id on = some (13, g) := by
  unfold registry_Registry_Drain registry_Registry_DrainF
  obtain ⟨i, hi⟩ := find_no h hn
  rw [given_eq h, Option.bind_some, hi, Option.bind_some]; rfl
theorem get_yes {N : Int} {g : registry_Registry} (h : RI N g) {k : Nat} {r : registry_row} (hk : g.rows[k]? = some r) : registry_Registry_Get g r.Backend.ID = some (tld r, true) := by
  unfold registry_Registry_Get registry_Registry_GetF
  have hl := (List.getElem?_eq_some_iff.1 hk).1
  rw [given_eq h, Option.bind_some, find_yes h hk, Option.bind_some]
  simp only [Bool.not_true, cond_false, cond_true]
  rw [oreq_p ⟨by omega, by omega⟩, Int.toNat_natCast, hk, Option.bind_some, told_eq, Option.bind_some]
theorem get_no {N : Int} {g : registry_Registry} (h : RI N g) {id : Int} (hn : ∀ (k : Nat) r, g.rows[k]? = some r → r.Backend.ID ≠ id) : registry_Registry_Get g id = some (if 1 ≤ id ∧ id ≤ g.last then (goneB id, true) else (noB, false)) := by
  unfold registry_Registry_Get registry_Registry_GetF
  obtain ⟨i, hi⟩ := find_no h hn
  rw [given_eq h, Option.bind_some, hi, Option.bind_some]
  simp only [Bool.not_true, cond_false]
  by_cases h1 : id < 1
  · rw [cond_p h1, if_neg (by omega)]; rfl
  · rw [cond_n h1]
    by_cases h2 : id > g.last
    · rw [cond_p h2, if_neg (by omega)]; rfl
    · rw [cond_n h2, if_pos (by omega)]; rfl
end Go.Vm.Code
