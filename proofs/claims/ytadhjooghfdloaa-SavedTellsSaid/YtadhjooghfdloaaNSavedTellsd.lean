import Derived.Test.YtadhjooghfdloaaNSavedTellsc
namespace Go.Vm.Code
open Go Go.Vm Go.Proofs
def τ0:Operand:=.tmp 0
def τ1:Operand:=.tmp 1
def τ2:Operand:=.tmp 2
def τ3:Operand:=.tmp 3
def τ4:Operand:=.tmp 4
def τ5:Operand:=.tmp 5
def τ6:Operand:=.tmp 6
def τ7:Operand:=.tmp 7
def τ8:Operand:=.tmp 8
def τ9:Operand:=.tmp 9
def τ10:Operand:=.tmp 10
def τ11:Operand:=.tmp 11
def τ12:Operand:=.tmp 12
def τ13:Operand:=.tmp 13
def τ14:Operand:=.tmp 14
def τ15:Operand:=.tmp 15
def τ16:Operand:=.tmp 16
def τ17:Operand:=.tmp 17
def τ18:Operand:=.tmp 18
def τ19:Operand:=.tmp 19
def τ20:Operand:=.tmp 20
def τ21:Operand:=.tmp 21
def τ22:Operand:=.tmp 22
def τ23:Operand:=.tmp 23
def τ24:Operand:=.tmp 24
def τ25:Operand:=.tmp 25
def τ26:Operand:=.tmp 26
def τ27:Operand:=.tmp 27
def τ28:Operand:=.tmp 28
def τ29:Operand:=.tmp 29
def τ30:Operand:=.tmp 30
def τ31:Operand:=.tmp 31
def τ32:Operand:=.tmp 32
def τ33:Operand:=.tmp 33
def τ34:Operand:=.tmp 34
def τ35:Operand:=.tmp 35
def τ36:Operand:=.tmp 36
def τ37:Operand:=.tmp 37
def τ38:Operand:=.tmp 38
def τ39:Operand:=.tmp 39
def τ40:Operand:=.tmp 40
def τ41:Operand:=.tmp 41
def τ42:Operand:=.tmp 42
def τ43:Operand:=.tmp 43
def τ44:Operand:=.tmp 44
def τ45:Operand:=.tmp 45
def τ46:Operand:=.tmp 46
def τ47:Operand:=.tmp 47
def τ48:Operand:=.tmp 48
def τ49:Operand:=.tmp 49
def τ50:Operand:=.tmp 50
def τ51:Operand:=.tmp 51
def τ52:Operand:=.tmp 52
def τ53:Operand:=.tmp 53
def τ54:Operand:=.tmp 54
def τ55:Operand:=.tmp 55
def τ56:Operand:=.tmp 56
def τ57:Operand:=.tmp 57
def τ58:Operand:=.tmp 58
def τ59:Operand:=.tmp 59
def τ60:Operand:=.tmp 60
def τ61:Operand:=.tmp 61
def τ62:Operand:=.tmp 62
def τ63:Operand:=.tmp 63
def τ64:Operand:=.tmp 64
def τ65:Operand:=.tmp 65
def τ66:Operand:=.tmp 66
def τ67:Operand:=.tmp 67
def τ68:Operand:=.tmp 68
def τ69:Operand:=.tmp 69
def τ70:Operand:=.tmp 70
def τ71:Operand:=.tmp 71
def τ72:Operand:=.tmp 72
def τ73:Operand:=.tmp 73
def τ74:Operand:=.tmp 74
def τ75:Operand:=.tmp 75
def τ76:Operand:=.tmp 76
def τ77:Operand:=.tmp 77
def τ78:Operand:=.tmp 78
def τ79:Operand:=.tmp 79
def τ80:Operand:=.tmp 80
def τ81:Operand:=.tmp 81
def τ82:Operand:=.tmp 82
def τ83:Operand:=.tmp 83
def τ84:Operand:=.tmp 84
def τ85:Operand:=.tmp 85
def τ86:Operand:=.tmp 86
def τ87:Operand:=.tmp 87
def τ88:Operand:=.tmp 88
def τ89:Operand:=.tmp 89
def τ90:Operand:=.tmp 90
def τ91:Operand:=.tmp 91
def τ92:Operand:=.tmp 92
def τ93:Operand:=.tmp 93
def τ94:Operand:=.tmp 94
def τ95:Operand:=.tmp 95
def τ96:Operand:=.tmp 96
def τ97:Operand:=.tmp 97
def τ98:Operand:=.tmp 98
def τ99:Operand:=.tmp 99
def τ100:Operand:=.tmp 100
def τ101:Operand:=.tmp 101
def τ102:Operand:=.tmp 102
def τ103:Operand:=.tmp 103
def τ104:Operand:=.tmp 104
def τ105:Operand:=.tmp 105
def τ106:Operand:=.tmp 106
def τ107:Operand:=.tmp 107
def τ108:Operand:=.tmp 108
def τ109:Operand:=.tmp 109
def τ110:Operand:=.tmp 110
def τ111:Operand:=.tmp 111
def τ112:Operand:=.tmp 112
def τ113:Operand:=.tmp 113
def τ114:Operand:=.tmp 114
def τ115:Operand:=.tmp 115
def τ116:Operand:=.tmp 116
def τ117:Operand:=.tmp 117
def τ118:Operand:=.tmp 118
def τ119:Operand:=.tmp 119
def τ120:Operand:=.tmp 120
def τ121:Operand:=.tmp 121
def τ122:Operand:=.tmp 122
def τ123:Operand:=.tmp 123
def τ124:Operand:=.tmp 124
def τ125:Operand:=.tmp 125
def τ126:Operand:=.tmp 126
def τ127:Operand:=.tmp 127
def τ128:Operand:=.tmp 128
def τ129:Operand:=.tmp 129
def τ130:Operand:=.tmp 130
def τ131:Operand:=.tmp 131
def τ132:Operand:=.tmp 132
def τ133:Operand:=.tmp 133
def τ134:Operand:=.tmp 134
def τ135:Operand:=.tmp 135
def τ136:Operand:=.tmp 136
def τ137:Operand:=.tmp 137
def τ138:Operand:=.tmp 138
def τ139:Operand:=.tmp 139
def τ140:Operand:=.tmp 140
def τ141:Operand:=.tmp 141
def τ142:Operand:=.tmp 142
def τ143:Operand:=.tmp 143
def τ144:Operand:=.tmp 144
def τ145:Operand:=.tmp 145
def τ146:Operand:=.tmp 146
def τ147:Operand:=.tmp 147
def τ148:Operand:=.tmp 148
def τ149:Operand:=.tmp 149
def τ150:Operand:=.tmp 150
def τ151:Operand:=.tmp 151
def τ152:Operand:=.tmp 152
def τ153:Operand:=.tmp 153
def τ154:Operand:=.tmp 154
def τ155:Operand:=.tmp 155
def τ156:Operand:=.tmp 156
def τ157:Operand:=.tmp 157
def τ158:Operand:=.tmp 158
def τ159:Operand:=.tmp 159
def τ160:Operand:=.tmp 160
def τ161:Operand:=.tmp 161
def τ162:Operand:=.tmp 162
def τ163:Operand:=.tmp 163
def τ164:Operand:=.tmp 164
def τ165:Operand:=.tmp 165
def τ166:Operand:=.tmp 166
def τ167:Operand:=.tmp 167
def τ168:Operand:=.tmp 168
def τ169:Operand:=.tmp 169
def τ170:Operand:=.tmp 170
def τ171:Operand:=.tmp 171
def τ172:Operand:=.tmp 172
def τ173:Operand:=.tmp 173
def τ174:Operand:=.tmp 174
def τ175:Operand:=.tmp 175
def τ176:Operand:=.tmp 176
def τ177:Operand:=.tmp 177
def τ178:Operand:=.tmp 178
def τ179:Operand:=.tmp 179
def τ180:Operand:=.tmp 180
def τ181:Operand:=.tmp 181
def τ182:Operand:=.tmp 182
def τ183:Operand:=.tmp 183
def τ184:Operand:=.tmp 184
def τ185:Operand:=.tmp 185
def τ186:Operand:=.tmp 186
def τ187:Operand:=.tmp 187
def τ188:Operand:=.tmp 188
def τ189:Operand:=.tmp 189
def τ190:Operand:=.tmp 190
def τ191:Operand:=.tmp 191
def τ192:Operand:=.tmp 192
def τ193:Operand:=.tmp 193
def τ194:Operand:=.tmp 194
def τ195:Operand:=.tmp 195
def τ196:Operand:=.tmp 196
def τ197:Operand:=.tmp 197
def oD (n:Nat) (o:VOp):VOper:=⟨some n,o,none⟩
def oN (o:VOp):VOper:=⟨none,o,none⟩
def oM (n:Nat) (x:Operand):VOper:=⟨some n,.mv x,none⟩
def oG (n:Nat) (o:VOp) (j:Nat) (b:Bool):VOper:=⟨some n,o,some (j,b)⟩
def oE (n i:Nat) (x:Operand):VOper:=⟨some n,.extract i x,none⟩
def k9_0 : VC := .reg [oD 3 (.box τ0),oD 4 (.box τ1),oD 6 (.mv (.const (.bool false)))]
def k9_1 : VC := .reg [oD 15 (.fieldA 3 τ3),oD 16 (.load1 .oth τ15),oD 17 (.lenL τ16),oD 18 (.bin .gtr τ17 (.const (.int .i64 70))),oM 19 τ18,oG 20 (.fieldA 3 τ4) 19 false,oG 21 (.load1 .oth τ20) 19 false,oG 22 (.lenL τ21) 19 false,oG 23 (.bin .gtr τ22 (.const (.int .i64 70))) 19 false,oD 24 (.pick τ19 (.const (.bool true)) τ23),oM 25 τ24,oG 26 (.mv τ2) 25 false,oG 27 (.lenS τ26) 25 false,oG 28 (.bin .gtr τ27 (.const (.int .i64 800))) 25 false,oD 29 (.pick τ25 (.const (.bool true)) τ28)]
def k9_2 : VC := .reg [oD 30 (.callF 47 []),oM 6 τ30]
def k9_3 : VC := .seq k9_2 .ret
def k9_4 : VC := .cond τ29 k9_3 .skip
def k9_5 : VC := .seq k9_1 k9_4
def k9_6 : VC := .reg [oD 32 (.loadN [(.int .u64), (.int .u64), (.int .i64), .oth] τ3),oD 33 (.callF 54 [τ32]),oD 34 (.callF 53 [τ33]),oM 31 τ34,oE 35 0 τ31,oE 36 1 τ31,oM 7 τ35,oM 8 τ36]
def k9_7 : VC := .reg [oD 38 (.loadN [(.int .u64), (.int .u64), (.int .i64), .oth] τ3),oD 39 (.callF 55 [τ38]),oM 37 τ39,oE 40 0 τ37,oE 41 1 τ37,oM 9 τ40,oM 10 τ41]
def k9_8 : VC := .reg [oM 43 τ2,oD 44 (.callF 48 [τ43]),oM 42 τ44,oE 45 0 τ42,oE 46 1 τ42,oD 11 (.alloc [(.int .u64 0), (.int .u64 0), (.int .i64 0), (.slice none 0 0)]),oN (.store 4 τ11 τ45),oM 12 τ46]
def k9_9 : VC := .reg [oM 48 τ2,oD 49 (.callF 50 [τ48]),oM 47 τ49,oE 50 0 τ47,oE 51 1 τ47,oD 13 (.alloc [(.int .u64 0), (.int .u64 0), (.int .i64 0), (.slice none 0 0)]),oN (.store 4 τ13 τ50),oM 14 τ51]
def k9_10 : VC := .regD [oD 52 (.loadN [(.int .u64), (.int .u64), (.int .i64), .oth] τ3),oD 53 (.callF 54 [τ52]),oD 54 (.callF 56 [τ53]),oD 55 (.loadN [(.int .u64), (.int .u64), (.int .i64), .oth] τ3),oD 56 (.callF 57 [τ55]),oD 57 (.eqB false τ54 τ56),oM 58 τ57,oG 59 (.mv τ7) 58 true,oG 60 (.mv τ9) 58 true,oG 61 (.bin .eql τ59 τ60) 58 true,oD 62 (.pick τ58 τ61 (.const (.bool false))),oM 63 τ62,oG 64 (.mv τ8) 63 true,oG 65 (.mv τ10) 63 true,oG 66 (.bin .eql τ64 τ65) 63 true,oD 67 (.pick τ63 τ66 (.const (.bool false))),oM 68 τ67,oG 69 (.loadN [(.int .u64), (.int .u64), (.int .i64), .oth] τ11) 68 true,oG 70 (.callF 52 [τ69]) 68 true,oG 71 (.loadN [(.int .u64), (.int .u64), (.int .i64), .oth] τ13) 68 true,oG 72 (.callF 51 [τ70, τ71]) 68 true,oD 73 (.pick τ68 τ72 (.const (.bool false))),oM 74 τ73,oG 75 (.mv τ12) 74 true,oG 76 (.mv τ14) 74 true,oG 77 (.bin .eql τ75 τ76) 74 true,oD 78 (.pick τ74 τ77 (.const (.bool false))),oM 79 τ78,oG 80 (.fieldA 0 τ3) 79 true,oG 81 (.loadN [(.int .u64), (.int .u64)] τ80) 79 true,oG 82 (.fieldA 2 τ3) 79 true,oG 83 (.load1 (.int .i64) τ82) 79 true,oG 84 (.fieldA 3 τ3) 79 true,oG 85 (.load1 .oth τ84) 79 true,oG 86 (.callF 58 [τ81, τ83, τ85]) 79 true,oG 87 (.callF 52 [τ86]) 79 true,oG 88 (.fieldA 0 τ3) 79 true,oG 89 (.loadN [(.int .u64), (.int .u64)] τ88) 79 true,oG 90 (.fieldA 2 τ3) 79 true,oG 91 (.load1 (.int .i64) τ90) 79 true,oG 92 (.fieldA 3 τ3) 79 true,oG 93 (.load1 .oth τ92) 79 true,oG 94 (.callF 59 [τ89, τ91, τ93]) 79 true,oG 95 (.callF 51 [τ87, τ94]) 79 true,oD 96 (.pick τ79 τ95 (.const (.bool false))),oM 97 τ96,oG 98 (.loadN [(.int .u64), (.int .u64), (.int .i64), .oth] τ3) 97 true,oG 99 (.callF 54 [τ98]) 97 true,oG 100 (.loadN [(.int .u64), (.int .u64), (.int .i64), .oth] τ4) 97 true,oG 101 (.callF 54 [τ100]) 97 true,oG 102 (.callF 60 [τ99, τ101]) 97 true,oG 103 (.loadN [(.int .u64), (.int .u64), (.int .i64), .oth] τ3) 97 true,oG 104 (.loadN [(.int .u64), (.int .u64), (.int .i64), .oth] τ4) 97 true] [(1, 3), (2, 3), (18, 19), (34, 37), (34, 39), (34, 41), (35, 37), (35, 39), (35, 41), (47, 48), (47, 51), (47, 52), (49, 51), (49, 52), (50, 51), (50, 52)] [oG 105 (.callF 51 [τ103, τ104]) 97 true,oG 106 (.eqB false τ102 τ105) 97 true,oD 107 (.pick τ97 τ106 (.const (.bool false))),oM 108 τ107,oG 109 (.callF 47 []) 108 true,oD 110 (.pick τ108 τ109 (.const (.bool false))),oM 6 τ110]
def k9_11 : VC := .seq k9_10 .ret
def k9_12 : VC := .seq k9_9 k9_11
def k9_13 : VC := .seq k9_8 k9_12
def k9_14 : VC := .seq k9_7 k9_13
def k9_15 : VC := .seq k9_6 k9_14
def k9_16 : VC := .seq k9_5 k9_15
def k9_17 : VC := .seq k9_0 k9_16
def fn9 : VFn := ⟨111, k9_17, [.tmp 6]⟩
def k47_0 : VC := .reg [oD 0 (.mv (.const (.bool false)))]
def k47_1 : VC := .reg [oD 7 (.build [(.int .u64 0), (.int .u64 0), (.int .i64 0), (.slice none 0 0)] []),oD 8 (.callF 53 [τ7]),oM 6 τ8,oE 9 0 τ6,oE 10 1 τ6,oM 1 τ9,oM 2 τ10]
def k47_2 : VC := .reg [oD 12 (.callF 48 [(.const (.string ⟨⟨[]⟩⟩))]),oM 11 τ12,oE 13 0 τ11,oE 14 1 τ11,oD 3 (.alloc [(.int .u64 0), (.int .u64 0), (.int .i64 0), (.slice none 0 0)]),oN (.store 4 τ3 τ13),oM 4 τ14]
def k47_3 : VC := .reg [oD 15 (.build [(.int .u64 0), (.int .u64 0)] []),oD 16 (.build [(.int .i64 0), (.int .i64 0), (.int .i64 0), (.bool false), (.int .u64 0), (.int .u64 0)] [(0, 1, (.const (.int .i64 1))), (2, 1, (.const (.int .i64 2)))]),oD 17 (.build [(.int .i64 0), (.int .i64 0), (.int .i64 0), (.bool false), (.int .u64 0), (.int .u64 0)] [(0, 1, (.const (.int .i64 2))), (2, 1, (.const (.int .i64 4)))]),oD 18 (.build [(.int .i64 0), (.int .i64 0), (.int .i64 0), (.bool false), (.int .u64 0), (.int .u64 0)] [(0, 1, (.const (.int .i64 3))), (2, 1, (.const (.int .i64 3)))]),oD 19 (.buildSl 3 6 [(.int .i64 0), (.int .i64 0), (.int .i64 0), (.bool false), (.int .u64 0), (.int .u64 0), (.int .i64 0), (.int .i64 0), (.int .i64 0), (.bool false), (.int .u64 0), (.int .u64 0), (.int .i64 0), (.int .i64 0), (.int .i64 0), (.bool false), (.int .u64 0), (.int .u64 0)] [(0, 6, τ16), (6, 6, τ17), (12, 6, τ18)]),oD 20 (.callF 58 [τ15, (.const (.int .i64 3)), τ19]),oD 5 (.alloc [(.int .u64 0), (.int .u64 0), (.int .i64 0), (.slice none 0 0)]),oN (.store 4 τ5 τ20)]
def k47_4 : VC := .reg [oM 21 τ2,oD 22 (.bin .eql τ21 (.const (.int .i64 0))),oM 23 τ22,oG 24 (.mv τ1) 23 true,oG 25 (.lenS τ24) 23 true,oG 26 (.bin .eql τ25 (.const (.int .i64 31))) 23 true,oD 27 (.pick τ23 τ26 (.const (.bool false))),oM 28 τ27,oG 29 (.mv τ4) 28 true,oG 30 (.bin .eql τ29 (.const (.int .i64 2))) 28 true,oD 31 (.pick τ28 τ30 (.const (.bool false))),oM 32 τ31,oG 33 (.fieldA 3 τ5) 32 true,oG 34 (.load1 .oth τ33) 32 true,oG 35 (.lenL τ34) 32 true,oG 36 (.bin .eql τ35 (.const (.int .i64 2))) 32 true,oD 37 (.pick τ32 τ36 (.const (.bool false))),oM 38 τ37,oG 39 (.fieldA 3 τ5) 38 true,oG 40 (.load1 .oth τ39) 38 true,oG 41 (.idxAL 6 τ40 (.const (.int .i64 0))) 38 true,oG 42 (.fieldA 2 τ41) 38 true,oG 43 (.load1 (.int .i64) τ42) 38 true,oG 44 (.bin .eql τ43 (.const (.int .i64 1))) 38 true,oD 45 (.pick τ38 τ44 (.const (.bool false))),oM 46 τ45,oG 47 (.loadN [(.int .u64), (.int .u64), (.int .i64), .oth] τ5) 46 true,oG 48 (.callF 56 [τ47]) 46 true,oD 49 (.pick τ46 τ48 (.const (.bool false))),oM 0 τ49]
def k47_5 : VC := .seq k47_4 .ret
def k47_6 : VC := .seq k47_3 k47_5
def k47_7 : VC := .seq k47_2 k47_6
def k47_8 : VC := .seq k47_1 k47_7
def k47_9 : VC := .seq k47_0 k47_8
def fn47 : VFn := ⟨50, k47_9, [.tmp 0]⟩
def k53_0 : VC := .reg [oD 1 (.box τ0),oD 2 (.mv (.const (.string ⟨⟨[]⟩⟩))),oD 3 (.mv (.const (.int .i64 0)))]
def k53_1 : VC := .reg [oD 9 (.loadN [(.int .u64), (.int .u64), (.int .i64), .oth] τ1),oD 10 (.callF 56 [τ9]),oD 11 (.not τ10)]
def k53_2 : VC := .reg [oD 2 (.mv (.const (.string ⟨⟨[]⟩⟩))),oD 3 (.mv (.const (.int .i64 1)))]
def k53_3 : VC := .seq k53_2 .ret
def k53_4 : VC := .cond τ11 k53_3 .skip
def k53_5 : VC := .seq k53_1 k53_4
def k53_6 : VC := .reg [oD 4 (.alloc [(.string ⟨⟨[]⟩⟩)]),oN (.store 1 τ4 (.const (.string ⟨⟨[67, 76, 75, 49]⟩⟩)))]
def k53_7 : VC := .reg [oD 12 (.mkFunc 108 [] [τ4]),oM 5 τ12]
def k53_8 : VC := .reg [oM 13 τ5,oD 14 (.fieldA 0 τ1),oD 15 (.fieldA 0 τ14),oD 16 (.load1 (.int .u64) τ15),oD 17 (.callV τ13 [τ16, (.const (.int .i64 8))])]
def k53_9 : VC := .reg [oM 18 τ5,oD 19 (.fieldA 0 τ1),oD 20 (.fieldA 1 τ19),oD 21 (.load1 (.int .u64) τ20),oD 22 (.callV τ18 [τ21, (.const (.int .i64 8))])]
def k53_10 : VC := .reg [oM 23 τ5,oD 24 (.fieldA 2 τ1),oD 25 (.load1 (.int .i64) τ24),oD 26 (.conv .u64 τ25),oD 27 (.callV τ23 [τ26, (.const (.int .i64 2))])]
def k53_11 : VC := .reg [oM 28 τ5,oD 29 (.fieldA 3 τ1),oD 30 (.load1 .oth τ29),oD 31 (.lenL τ30),oD 32 (.conv .u64 τ31),oD 33 (.callV τ28 [τ32, (.const (.int .i64 1))])]
def k53_12 : VC := .reg [oD 34 (.fieldA 3 τ1),oD 35 (.load1 .oth τ34),oD 36 (.lenL τ35),oD 37 (.mv (.const (.int .i64 0)))]
def k53_13 : VC := .reg [oD 38 (.bin .lss τ37 τ36)]
def k53_14 : VC := .cond τ38 .skip (.exit 0)
def k53_15 : VC := .reg [oD 39 (.idxAL 6 τ35 τ37),oD 40 (.loadN [(.int .i64), (.int .i64), (.int .i64), .bool, (.int .u64), (.int .u64)] τ39),oD 7 (.alloc [(.int .i64 0), (.int .i64 0), (.int .i64 0), (.bool false), (.int .u64 0), (.int .u64 0)]),oN (.store 6 τ7 τ40)]
def k53_16 : VC := .reg [oD 41 (.fieldA 3 τ7),oD 42 (.loadN [.bool, (.int .u64), (.int .u64)] τ41),oD 43 (.callF 110 [τ42]),oM 8 τ43]
def k53_17 : VC := .reg [oM 44 τ5,oD 45 (.fieldA 0 τ7),oD 46 (.load1 (.int .i64) τ45),oD 47 (.conv .u64 τ46),oD 48 (.bin .shl τ47 (.const (.int .u64 16))),oD 49 (.fieldA 1 τ7),oD 50 (.load1 (.int .i64) τ49),oD 51 (.conv .u64 τ50),oD 52 (.bin .or τ48 τ51),oD 53 (.callV τ44 [τ52, (.const (.int .i64 4))])]
def k53_18 : VC := .reg [oM 54 τ5,oD 55 (.fieldA 2 τ7),oD 56 (.load1 (.int .i64) τ55),oD 57 (.conv .u64 τ56),oD 58 (.bin .shl τ57 (.const (.int .u64 8))),oM 59 τ8,oD 60 (.lenS τ59),oD 61 (.conv .u64 τ60),oD 62 (.bin .or τ58 τ61),oD 63 (.callV τ54 [τ62, (.const (.int .i64 2))])]
def k53_19 : VC := .reg [oD 64 (.load1 .str τ4),oM 65 τ8,oD 66 (.bin .add τ64 τ65),oN (.store 1 τ4 τ66)]
def k53_20 : VC := .seq k53_18 k53_19
def k53_21 : VC := .seq k53_17 k53_20
def k53_22 : VC := .seq k53_16 k53_21
def k53_23 : VC := .seq k53_15 k53_22
def k53_24 : VC := .block 1 k53_23
def k53_25 : VC := .reg [oD 67 (.bin .add τ37 (.const (.int .i64 1))),oM 37 τ67]
def k53_26 : VC := .seq k53_24 k53_25
def k53_27 : VC := .seq k53_14 k53_26
def k53_28 : VC := .seq k53_13 k53_27
def k53_29 : VC := .loop k53_28
def k53_30 : VC := .block 0 k53_29
def k53_31 : VC := .seq k53_12 k53_30
def k53_32 : VC := .regD [oD 68 (.load1 .str τ4),oD 69 (.load1 .str τ4),oD 70 (.callF 98 [τ69])] [(0, 2)] [oD 71 (.bin .add τ68 τ70),oM 2 τ71,oD 3 (.mv (.const (.int .i64 0)))]
def k53_33 : VC := .seq k53_32 .ret
def k53_34 : VC := .seq k53_31 k53_33
def k53_35 : VC := .seq k53_11 k53_34
def k53_36 : VC := .seq k53_10 k53_35
def k53_37 : VC := .seq k53_9 k53_36
def k53_38 : VC := .seq k53_8 k53_37
def k53_39 : VC := .seq k53_7 k53_38
def k53_40 : VC := .seq k53_6 k53_39
def k53_41 : VC := .seq k53_5 k53_40
def k53_42 : VC := .seq k53_0 k53_41
def fn53 : VFn := ⟨72, k53_42, [.tmp 2, .tmp 3]⟩
def k56_0 : VC := .reg [oD 1 (.box τ0),oD 2 (.mv (.const (.bool false)))]
def k56_1 : VC := .reg [oD 3 (.alloc [(.int .i64 0)]),oN (.store 1 τ3 (.const (.int .i64 0)))]
def k56_2 : VC := .reg [oD 5 (.mkFunc 113 [] [τ3, τ1]),oM 4 τ5]
def k56_3 : VC := .reg [oD 6 (.fieldA 2 τ1),oD 7 (.load1 (.int .i64) τ6),oD 8 (.bin .geq τ7 (.const (.int .i64 0))),oM 9 τ8,oG 10 (.fieldA 2 τ1) 9 true,oG 11 (.load1 (.int .i64) τ10) 9 true,oG 12 (.bin .leq τ11 (.const (.int .i64 65535))) 9 true,oD 13 (.pick τ9 τ12 (.const (.bool false))),oM 14 τ13,oG 15 (.fieldA 3 τ1) 14 true,oG 16 (.load1 .oth τ15) 14 true,oG 17 (.lenL τ16) 14 true,oG 18 (.bin .leq τ17 (.const (.int .i64 64))) 14 true,oD 19 (.pick τ14 τ18 (.const (.bool false))),oM 20 τ19,oG 21 (.fieldA 3 τ1) 20 true,oG 22 (.load1 .oth τ21) 20 true,oG 23 (.mv τ4) 20 true,oG 24 (.callF 114 [τ22, τ23]) 20 true,oG 25 (.not τ24) 20 true,oD 26 (.pick τ20 τ25 (.const (.bool false))),oM 2 τ26]
def k56_4 : VC := .seq k56_3 .ret
def k56_5 : VC := .seq k56_2 k56_4
def k56_6 : VC := .seq k56_1 k56_5
def k56_7 : VC := .seq k56_0 k56_6
def fn56 : VFn := ⟨27, k56_7, [.tmp 2]⟩
def k113_0 : VC := .reg [oD 3 (.box τ0),oD 4 (.mv (.const (.bool false)))]
def k113_1 : VC := .reg [oD 7 (.load1 (.int .i64) τ1),oM 5 τ7]
def k113_2 : VC := .reg [oD 8 (.fieldA 0 τ3),oD 9 (.load1 (.int .i64) τ8),oN (.store 1 τ1 τ9)]
def k113_3 : VC := .reg [oD 10 (.fieldA 2 τ3),oD 11 (.load1 (.int .i64) τ10),oD 12 (.bin .eql τ11 (.const (.int .i64 1))),oM 13 τ12,oG 14 (.fieldA 2 τ3) 13 false,oG 15 (.load1 (.int .i64) τ14) 13 false,oG 16 (.bin .eql τ15 (.const (.int .i64 3))) 13 false,oD 17 (.pick τ13 (.const (.bool true)) τ16),oM 6 τ17]
def k113_4 : VC := .reg [oD 18 (.fieldA 0 τ3),oD 19 (.load1 (.int .i64) τ18),oM 20 τ5,oD 21 (.bin .leq τ19 τ20),oM 22 τ21,oG 23 (.fieldA 0 τ3) 22 false,oG 24 (.load1 (.int .i64) τ23) 22 false,oG 25 (.fieldA 2 τ2) 22 false,oG 26 (.load1 (.int .i64) τ25) 22 false,oG 27 (.bin .gtr τ24 τ26) 22 false,oD 28 (.pick τ22 (.const (.bool true)) τ27),oM 29 τ28,oG 30 (.fieldA 1 τ3) 29 false,oG 31 (.load1 (.int .i64) τ30) 29 false,oG 32 (.bin .lss τ31 (.const (.int .i64 0))) 29 false,oD 33 (.pick τ29 (.const (.bool true)) τ32),oM 34 τ33,oG 35 (.fieldA 1 τ3) 34 false,oG 36 (.load1 (.int .i64) τ35) 34 false,oG 37 (.bin .gtr τ36 (.const (.int .i64 1000))) 34 false,oD 38 (.pick τ34 (.const (.bool true)) τ37),oM 39 τ38,oG 40 (.mv τ6) 39 false,oG 41 (.not τ40) 39 false,oD 42 (.pick τ39 (.const (.bool true)) τ41),oM 43 τ42,oG 44 (.fieldA 3 τ3) 43 false,oG 45 (.loadN [.bool, (.int .u64), (.int .u64)] τ44) 43 false,oG 46 (.callF 82 [τ45]) 43 false,oG 47 (.not τ46) 43 false,oD 48 (.pick τ43 (.const (.bool true)) τ47),oM 4 τ48]
def k113_5 : VC := .seq k113_4 .ret
def k113_6 : VC := .seq k113_3 k113_5
def k113_7 : VC := .seq k113_2 k113_6
def k113_8 : VC := .seq k113_1 k113_7
def k113_9 : VC := .seq k113_0 k113_8
def fn113 : VFn := ⟨49, k113_9, [.tmp 4]⟩
def k82_0 : VC := .reg [oD 1 (.box τ0),oD 2 (.mv (.const (.bool false)))]
def k82_1 : VC := .reg [oD 3 (.fieldA 0 τ1),oD 4 (.load1 .bool τ3),oM 5 τ4,oG 6 (.fieldA 1 τ1) 5 false,oG 7 (.load1 (.int .u64) τ6) 5 false,oG 8 (.bin .eql τ7 (.const (.int .u64 0))) 5 false,oG 9 (.mv τ8) 5 false,oG 10 (.fieldA 2 τ1) 9 true,oG 11 (.load1 (.int .u64) τ10) 9 true,oG 12 (.bin .lss τ11 (.const (.int .u64 4294967296))) 9 true,oG 13 (.pick τ9 τ12 (.const (.bool false))) 5 false,oD 14 (.pick τ5 (.const (.bool true)) τ13),oM 2 τ14]
def k82_2 : VC := .seq k82_1 .ret
def k82_3 : VC := .seq k82_0 k82_2
def fn82 : VFn := ⟨15, k82_3, [.tmp 2]⟩
def k114_0 : VC := .reg [oD 4 (.mv (.const (.bool false)))]
def k114_1 : VC := .reg [oM 5 τ0,oM 6 τ1,oD 7 (.callF 139 [τ5, τ6]),oD 8 (.bin .geq τ7 (.const (.int .i64 0))),oM 4 τ8]
def k114_2 : VC := .seq k114_1 .ret
def k114_3 : VC := .seq k114_0 k114_2
def fn114 : VFn := ⟨9, k114_3, [.tmp 4]⟩
def k139_0 : VC := .reg [oD 4 (.mv (.const (.int .i64 0)))]
def k139_1 : VC := .reg [oM 6 τ0,oD 7 (.lenL τ6),oD 8 (.mv (.const (.int .i64 0)))]
def k139_2 : VC := .reg [oD 9 (.bin .lss τ8 τ7)]
def k139_3 : VC := .cond τ9 .skip (.exit 0)
def k139_4 : VC := .reg [oM 10 τ8,oM 5 τ10]
def k139_5 : VC := .reg [oM 11 τ1,oM 12 τ0,oM 13 τ5,oD 14 (.idxAL 6 τ12 τ13),oD 15 (.loadN [(.int .i64), (.int .i64), (.int .i64), .bool, (.int .u64), (.int .u64)] τ14),oD 16 (.callV τ11 [τ15])]
def k139_6 : VC := .reg [oM 17 τ5,oM 4 τ17]
def k139_7 : VC := .seq k139_6 .ret
def k139_8 : VC := .cond τ16 k139_7 .skip
def k139_9 : VC := .seq k139_5 k139_8
def k139_10 : VC := .seq k139_4 k139_9
def k139_11 : VC := .block 1 k139_10
def k139_12 : VC := .reg [oD 18 (.bin .add τ8 (.const (.int .i64 1))),oM 8 τ18]
def k139_13 : VC := .seq k139_11 k139_12
def k139_14 : VC := .seq k139_3 k139_13
def k139_15 : VC := .seq k139_2 k139_14
def k139_16 : VC := .loop k139_15
def k139_17 : VC := .block 0 k139_16
def k139_18 : VC := .seq k139_1 k139_17
def k139_19 : VC := .reg [oD 4 (.mv (.const (.int .i64 (-1))))]
def k139_20 : VC := .seq k139_19 .ret
def k139_21 : VC := .seq k139_18 k139_20
def k139_22 : VC := .seq k139_0 k139_21
def fn139 : VFn := ⟨19, k139_22, [.tmp 4]⟩
def k108_0 : VC := .regD [oD 5 (.load1 .str τ2),oM 6 τ0,oM 7 τ1,oD 8 (.callF 109 [τ6, τ7])] [(0, 3)] [oD 9 (.bin .add τ5 τ8),oN (.store 1 τ2 τ9)]
def fn108 : VFn := ⟨10, k108_0, []⟩
def k109_0 : VC := .reg [oD 4 (.mv (.const (.string ⟨⟨[]⟩⟩)))]
def k109_1 : VC := .reg [oM 7 τ1,oD 8 (.bin .lss τ7 (.const (.int .i64 1))),oM 9 τ8,oG 10 (.mv τ1) 9 false,oG 11 (.bin .gtr τ10 (.const (.int .i64 8))) 9 false,oD 12 (.pick τ9 (.const (.bool true)) τ11)]
def k109_2 : VC := .reg [oD 4 (.mv (.const (.string ⟨⟨[]⟩⟩)))]
def k109_3 : VC := .seq k109_2 .ret
def k109_4 : VC := .cond τ12 k109_3 .skip
def k109_5 : VC := .seq k109_1 k109_4
def k109_6 : VC := .reg [oM 13 τ1,oD 14 (.mkSl 1 1 [(.int .u8 0)] τ13 τ13),oM 5 τ14]
def k109_7 : VC := .reg [oM 15 τ5,oD 16 (.lenL τ15),oD 17 (.mv (.const (.int .i64 0)))]
def k109_8 : VC := .reg [oD 18 (.bin .lss τ17 τ16)]
def k109_9 : VC := .cond τ18 .skip (.exit 0)
def k109_10 : VC := .reg [oM 19 τ17,oM 6 τ19]
def k109_11 : VC := .reg [oM 20 τ5,oM 21 τ6,oM 22 τ0,oM 23 τ1,oD 24 (.bin .sub τ23 (.const (.int .i64 1))),oM 25 τ6,oD 26 (.bin .sub τ24 τ25),oD 27 (.bin .mul (.const (.int .i64 8)) τ26),oD 28 (.bin .shr τ22 τ27),oD 29 (.conv .u8 τ28),oD 30 (.idxAL 1 τ20 τ21),oN (.store 1 τ30 τ29)]
def k109_12 : VC := .seq k109_10 k109_11
def k109_13 : VC := .block 1 k109_12
def k109_14 : VC := .reg [oD 31 (.bin .add τ17 (.const (.int .i64 1))),oM 17 τ31]
def k109_15 : VC := .seq k109_13 k109_14
def k109_16 : VC := .seq k109_9 k109_15
def k109_17 : VC := .seq k109_8 k109_16
def k109_18 : VC := .loop k109_17
def k109_19 : VC := .block 0 k109_18
def k109_20 : VC := .seq k109_7 k109_19
def k109_21 : VC := .reg [oM 32 τ5,oD 33 (.b2s τ32),oM 4 τ33]
def k109_22 : VC := .seq k109_21 .ret
def k109_23 : VC := .seq k109_20 k109_22
def k109_24 : VC := .seq k109_6 k109_23
def k109_25 : VC := .seq k109_5 k109_24
def k109_26 : VC := .seq k109_0 k109_25
def fn109 : VFn := ⟨34, k109_26, [.tmp 4]⟩
def k110_0 : VC := .reg [oD 1 (.box τ0),oD 2 (.mv (.const (.string ⟨⟨[]⟩⟩)))]
def k110_1 : VC := .reg [oD 4 (.loadN [.bool, (.int .u64), (.int .u64)] τ1),oD 5 (.callF 82 [τ4]),oD 6 (.not τ5),oM 3 τ6]
def k110_2 : VC := .reg [oD 2 (.mv (.const (.string ⟨⟨[]⟩⟩)))]
def k110_3 : VC := .seq k110_2 .ret
def k110_4 : VC := .reg [oD 8 (.fieldA 0 τ1),oD 9 (.load1 .bool τ8),oM 7 τ9]
def k110_5 : VC := .regD [oD 10 (.fieldA 1 τ1),oD 11 (.load1 (.int .u64) τ10),oD 12 (.callF 109 [τ11, (.const (.int .i64 8))]),oD 13 (.fieldA 2 τ1),oD 14 (.load1 (.int .u64) τ13)] [(2, 4)] [oD 15 (.callF 109 [τ14, (.const (.int .i64 8))]),oD 16 (.bin .add τ12 τ15),oM 2 τ16]
def k110_6 : VC := .seq k110_5 .ret
def k110_7 : VC := .cond τ7 k110_6 .skip
def k110_8 : VC := .seq k110_4 k110_7
def k110_9 : VC := .cond τ3 k110_3 k110_8
def k110_10 : VC := .seq k110_1 k110_9
def k110_11 : VC := .block 0 k110_10
def k110_12 : VC := .reg [oD 17 (.fieldA 2 τ1),oD 18 (.load1 (.int .u64) τ17),oD 19 (.callF 109 [τ18, (.const (.int .i64 4))]),oM 2 τ19]
def k110_13 : VC := .seq k110_12 .ret
def k110_14 : VC := .seq k110_11 k110_13
def k110_15 : VC := .seq k110_0 k110_14
def fn110 : VFn := ⟨20, k110_15, [.tmp 2]⟩
def k98_0 : VC := .reg [oD 2 (.mv (.const (.string ⟨⟨[]⟩⟩)))]
def k98_1 : VC := .reg [oD 3 (.build [(.int .u64 0), (.int .u64 0)] [(0, 1, (.const (.int .u64 1))), (1, 1, (.const (.int .u64 2)))]),oM 4 τ0,oD 5 (.callF 94 [τ3, τ4]),oD 6 (.callF 109 [τ5, (.const (.int .i64 8))]),oM 2 τ6]
def k98_2 : VC := .seq k98_1 .ret
def k98_3 : VC := .seq k98_0 k98_2
def fn98 : VFn := ⟨7, k98_3, [.tmp 2]⟩
def k94_0 : VC := .reg [oD 2 (.box τ0),oD 4 (.mv (.const (.int .u64 0)))]
def k94_1 : VC := .reg [oD 6 (.loadN [(.int .u64), (.int .u64)] τ2),oD 7 (.callF 132 [τ6]),oM 5 τ7]
def k94_2 : VC := .reg [oM 8 τ5,oM 9 τ1,oD 10 (.callF 133 [τ8, τ9])]
def k94_3 : VC := .reg [oM 11 τ5,oD 12 (.callF 134 [τ11]),oM 4 τ12]
def k94_4 : VC := .seq k94_3 .ret
def k94_5 : VC := .seq k94_2 k94_4
def k94_6 : VC := .seq k94_1 k94_5
def k94_7 : VC := .seq k94_0 k94_6
def fn94 : VFn := ⟨13, k94_7, [.tmp 4]⟩
def k132_0 : VC := .reg [oD 1 (.box τ0),oD 2 (.mv (.const (.pointer none)))]
def k132_1 : VC := .reg [oD 3 (.fieldA 0 τ1),oD 4 (.load1 (.int .u64) τ3),oD 5 (.bin .xor (.const (.int .u64 8317987319222330741)) τ4),oD 6 (.fieldA 1 τ1),oD 7 (.load1 (.int .u64) τ6),oD 8 (.bin .xor (.const (.int .u64 7237128888997146477)) τ7),oD 9 (.fieldA 0 τ1),oD 10 (.load1 (.int .u64) τ9),oD 11 (.bin .xor (.const (.int .u64 7816392313619706465)) τ10),oD 12 (.fieldA 1 τ1),oD 13 (.load1 (.int .u64) τ12),oD 14 (.bin .xor (.const (.int .u64 8387220255154660723)) τ13),oD 15 (.build [(.int .u64 0), (.int .u64 0), (.int .u64 0), (.int .u64 0)] [(0, 1, τ5), (1, 1, τ8), (2, 1, τ11), (3, 1, τ14)]),oD 16 (.build [(.bool false), (.int .u64 0), (.int .u64 0), (.int .u64 0), (.int .u64 0), (.int .u64 0), (.int .i64 0)] [(0, 1, (.const (.bool true))), (1, 4, τ15)]),oD 17 (.box τ16),oM 2 τ17]
def k132_2 : VC := .seq k132_1 .ret
def k132_3 : VC := .seq k132_0 k132_2
def fn132 : VFn := ⟨18, k132_3, [.tmp 2]⟩
def k133_0 : VC := .reg [oM 6 τ0,oD 7 (.isNil 0 false τ6),oM 8 τ7,oG 9 (.mv τ0) 8 false,oG 10 (.nilCheck τ9) 8 false,oG 11 (.fieldA 0 τ10) 8 false,oG 12 (.load1 .bool τ11) 8 false,oG 13 (.not τ12) 8 false,oD 14 (.pick τ8 (.const (.bool true)) τ13)]
def k133_1 : VC := .cond τ14 .ret .skip
def k133_2 : VC := .seq k133_0 k133_1
def k133_3 : VC := .reg [oM 15 τ1,oD 16 (.s2b τ15),oD 17 (.lenL τ16),oD 18 (.mv (.const (.int .i64 0)))]
def k133_4 : VC := .reg [oD 19 (.bin .lss τ18 τ17)]
def k133_5 : VC := .cond τ19 .skip (.exit 0)
def k133_6 : VC := .reg [oD 20 (.idxAL 1 τ16 τ18),oD 21 (.load1 (.int .u8) τ20),oM 5 τ21]
def k133_7 : VC := .regD [oM 22 τ0,oD 23 (.nilCheck τ22),oD 24 (.fieldA 5 τ23),oD 25 (.load1 (.int .u64) τ24),oM 26 τ5,oD 27 (.conv .u64 τ26),oM 28 τ0,oD 29 (.nilCheck τ28),oD 30 (.fieldA 6 τ29),oD 31 (.load1 (.int .i64) τ30),oD 32 (.bin .rem τ31 (.const (.int .i64 8))),oD 33 (.bin .mul (.const (.int .i64 8)) τ32),oD 34 (.bin .shl τ27 τ33)] [] [oD 35 (.bin .or τ25 τ34),oD 36 (.nilCheck τ22),oD 37 (.fieldA 5 τ36),oN (.store 1 τ37 τ35)]
def k133_8 : VC := .reg [oM 38 τ0,oD 39 (.nilCheck τ38),oD 40 (.fieldA 6 τ39),oD 41 (.load1 (.int .i64) τ40),oD 42 (.bin .add τ41 (.const (.int .i64 1))),oD 43 (.nilCheck τ38),oD 44 (.fieldA 6 τ43),oN (.store 1 τ44 τ42)]
def k133_9 : VC := .reg [oM 45 τ0,oD 46 (.nilCheck τ45),oD 47 (.fieldA 6 τ46),oD 48 (.load1 (.int .i64) τ47),oD 49 (.bin .rem τ48 (.const (.int .i64 8))),oD 50 (.bin .eql τ49 (.const (.int .i64 0)))]
def k133_10 : VC := .regD [oM 51 τ0,oD 52 (.nilCheck τ51),oD 53 (.fieldA 1 τ52),oM 54 τ0,oD 55 (.nilCheck τ54),oD 56 (.fieldA 5 τ55),oD 57 (.load1 (.int .u64) τ56)] [] [oD 58 (.callF 147 [τ53, τ57])]
def k133_11 : VC := .reg [oM 59 τ0,oD 60 (.nilCheck τ59),oD 61 (.fieldA 5 τ60),oN (.store 1 τ61 (.const (.int .u64 0)))]
def k133_12 : VC := .seq k133_10 k133_11
def k133_13 : VC := .cond τ50 k133_12 .skip
def k133_14 : VC := .seq k133_9 k133_13
def k133_15 : VC := .seq k133_8 k133_14
def k133_16 : VC := .seq k133_7 k133_15
def k133_17 : VC := .seq k133_6 k133_16
def k133_18 : VC := .block 1 k133_17
def k133_19 : VC := .reg [oD 62 (.bin .add τ18 (.const (.int .i64 1))),oM 18 τ62]
def k133_20 : VC := .seq k133_18 k133_19
def k133_21 : VC := .seq k133_5 k133_20
def k133_22 : VC := .seq k133_4 k133_21
def k133_23 : VC := .loop k133_22
def k133_24 : VC := .block 0 k133_23
def k133_25 : VC := .seq k133_3 k133_24
def k133_26 : VC := .seq k133_2 k133_25
def fn133 : VFn := ⟨63, k133_26, []⟩
def k147_0 : VC := .regD [oM 4 τ0,oD 5 (.nilCheck τ4),oD 6 (.idxAA 4 1 τ5 (.const (.int .i64 3))),oD 7 (.load1 (.int .u64) τ6),oM 8 τ1,oD 9 (.bin .xor τ7 τ8),oD 10 (.nilCheck τ4)] [] [oD 11 (.idxAA 4 1 τ10 (.const (.int .i64 3))),oN (.store 1 τ11 τ9)]
def k147_1 : VC := .reg [oM 12 τ0,oD 13 (.callF 148 [τ12, (.const (.int .i64 2))])]
def k147_2 : VC := .regD [oM 14 τ0,oD 15 (.nilCheck τ14),oD 16 (.idxAA 4 1 τ15 (.const (.int .i64 0))),oD 17 (.load1 (.int .u64) τ16),oM 18 τ1,oD 19 (.bin .xor τ17 τ18),oD 20 (.nilCheck τ14)] [] [oD 21 (.idxAA 4 1 τ20 (.const (.int .i64 0))),oN (.store 1 τ21 τ19)]
def k147_3 : VC := .seq k147_1 k147_2
def k147_4 : VC := .seq k147_0 k147_3
def fn147 : VFn := ⟨22, k147_4, []⟩
def k148_0 : VC := .reg [oM 4 τ1,oD 5 (.minmax false [τ4, (.const (.int .i64 64))]),oD 6 (.minmax true [(.const (.int .i64 0)), τ5]),oD 7 (.mv (.const (.int .i64 0)))]
def k148_1 : VC := .reg [oD 8 (.bin .lss τ7 τ6)]
def k148_2 : VC := .cond τ8 .skip (.exit 0)
def k148_3 : VC := .reg [oM 9 τ0,oD 10 (.callF 154 [τ9])]
def k148_4 : VC := .block 1 k148_3
def k148_5 : VC := .reg [oD 11 (.bin .add τ7 (.const (.int .i64 1))),oM 7 τ11]
def k148_6 : VC := .seq k148_4 k148_5
def k148_7 : VC := .seq k148_2 k148_6
def k148_8 : VC := .seq k148_1 k148_7
def k148_9 : VC := .loop k148_8
def k148_10 : VC := .block 0 k148_9
def k148_11 : VC := .seq k148_0 k148_10
def fn148 : VFn := ⟨12, k148_11, []⟩
def k154_0 : VC := .regD [oM 2 τ0,oD 3 (.nilCheck τ2),oD 4 (.idxAA 4 1 τ3 (.const (.int .i64 0))),oD 5 (.load1 (.int .u64) τ4),oM 6 τ0,oD 7 (.nilCheck τ6),oD 8 (.idxAA 4 1 τ7 (.const (.int .i64 1))),oD 9 (.load1 (.int .u64) τ8),oD 10 (.bin .add τ5 τ9),oD 11 (.nilCheck τ2)] [] [oD 12 (.idxAA 4 1 τ11 (.const (.int .i64 0))),oN (.store 1 τ12 τ10)]
def k154_1 : VC := .regD [oM 13 τ0,oM 14 τ0,oD 15 (.nilCheck τ14),oD 16 (.idxAA 4 1 τ15 (.const (.int .i64 1))),oD 17 (.load1 (.int .u64) τ16),oD 18 (.callF 159 [τ17, (.const (.int .i64 13))]),oM 19 τ0,oD 20 (.nilCheck τ19),oD 21 (.idxAA 4 1 τ20 (.const (.int .i64 0))),oD 22 (.load1 (.int .u64) τ21),oD 23 (.bin .xor τ18 τ22),oD 24 (.nilCheck τ13)] [(5, 9)] [oD 25 (.idxAA 4 1 τ24 (.const (.int .i64 1))),oN (.store 1 τ25 τ23)]
def k154_2 : VC := .regD [oM 26 τ0,oM 27 τ0,oD 28 (.nilCheck τ27),oD 29 (.idxAA 4 1 τ28 (.const (.int .i64 0))),oD 30 (.load1 (.int .u64) τ29),oD 31 (.callF 159 [τ30, (.const (.int .i64 32))]),oD 32 (.nilCheck τ26)] [] [oD 33 (.idxAA 4 1 τ32 (.const (.int .i64 0))),oN (.store 1 τ33 τ31)]
def k154_3 : VC := .regD [oM 34 τ0,oD 35 (.nilCheck τ34),oD 36 (.idxAA 4 1 τ35 (.const (.int .i64 2))),oD 37 (.load1 (.int .u64) τ36),oM 38 τ0,oD 39 (.nilCheck τ38),oD 40 (.idxAA 4 1 τ39 (.const (.int .i64 3))),oD 41 (.load1 (.int .u64) τ40),oD 42 (.bin .add τ37 τ41),oD 43 (.nilCheck τ34)] [] [oD 44 (.idxAA 4 1 τ43 (.const (.int .i64 2))),oN (.store 1 τ44 τ42)]
def k154_4 : VC := .regD [oM 45 τ0,oM 46 τ0,oD 47 (.nilCheck τ46),oD 48 (.idxAA 4 1 τ47 (.const (.int .i64 3))),oD 49 (.load1 (.int .u64) τ48),oD 50 (.callF 159 [τ49, (.const (.int .i64 16))]),oM 51 τ0,oD 52 (.nilCheck τ51),oD 53 (.idxAA 4 1 τ52 (.const (.int .i64 2))),oD 54 (.load1 (.int .u64) τ53),oD 55 (.bin .xor τ50 τ54),oD 56 (.nilCheck τ45)] [(5, 9)] [oD 57 (.idxAA 4 1 τ56 (.const (.int .i64 3))),oN (.store 1 τ57 τ55)]
def k154_5 : VC := .regD [oM 58 τ0,oD 59 (.nilCheck τ58),oD 60 (.idxAA 4 1 τ59 (.const (.int .i64 0))),oD 61 (.load1 (.int .u64) τ60),oM 62 τ0,oD 63 (.nilCheck τ62),oD 64 (.idxAA 4 1 τ63 (.const (.int .i64 3))),oD 65 (.load1 (.int .u64) τ64),oD 66 (.bin .add τ61 τ65),oD 67 (.nilCheck τ58)] [] [oD 68 (.idxAA 4 1 τ67 (.const (.int .i64 0))),oN (.store 1 τ68 τ66)]
def k154_6 : VC := .regD [oM 69 τ0,oM 70 τ0,oD 71 (.nilCheck τ70),oD 72 (.idxAA 4 1 τ71 (.const (.int .i64 3))),oD 73 (.load1 (.int .u64) τ72),oD 74 (.callF 159 [τ73, (.const (.int .i64 21))]),oM 75 τ0,oD 76 (.nilCheck τ75),oD 77 (.idxAA 4 1 τ76 (.const (.int .i64 0))),oD 78 (.load1 (.int .u64) τ77),oD 79 (.bin .xor τ74 τ78),oD 80 (.nilCheck τ69)] [(5, 9)] [oD 81 (.idxAA 4 1 τ80 (.const (.int .i64 3))),oN (.store 1 τ81 τ79)]
def k154_7 : VC := .regD [oM 82 τ0,oD 83 (.nilCheck τ82),oD 84 (.idxAA 4 1 τ83 (.const (.int .i64 2))),oD 85 (.load1 (.int .u64) τ84),oM 86 τ0,oD 87 (.nilCheck τ86),oD 88 (.idxAA 4 1 τ87 (.const (.int .i64 1))),oD 89 (.load1 (.int .u64) τ88),oD 90 (.bin .add τ85 τ89),oD 91 (.nilCheck τ82)] [] [oD 92 (.idxAA 4 1 τ91 (.const (.int .i64 2))),oN (.store 1 τ92 τ90)]
def k154_8 : VC := .regD [oM 93 τ0,oM 94 τ0,oD 95 (.nilCheck τ94),oD 96 (.idxAA 4 1 τ95 (.const (.int .i64 1))),oD 97 (.load1 (.int .u64) τ96),oD 98 (.callF 159 [τ97, (.const (.int .i64 17))]),oM 99 τ0,oD 100 (.nilCheck τ99),oD 101 (.idxAA 4 1 τ100 (.const (.int .i64 2))),oD 102 (.load1 (.int .u64) τ101),oD 103 (.bin .xor τ98 τ102),oD 104 (.nilCheck τ93)] [(5, 9)] [oD 105 (.idxAA 4 1 τ104 (.const (.int .i64 1))),oN (.store 1 τ105 τ103)]
def k154_9 : VC := .regD [oM 106 τ0,oM 107 τ0,oD 108 (.nilCheck τ107),oD 109 (.idxAA 4 1 τ108 (.const (.int .i64 2))),oD 110 (.load1 (.int .u64) τ109),oD 111 (.callF 159 [τ110, (.const (.int .i64 32))]),oD 112 (.nilCheck τ106)] [] [oD 113 (.idxAA 4 1 τ112 (.const (.int .i64 2))),oN (.store 1 τ113 τ111)]
def k154_10 : VC := .seq k154_8 k154_9
def k154_11 : VC := .seq k154_7 k154_10
def k154_12 : VC := .seq k154_6 k154_11
def k154_13 : VC := .seq k154_5 k154_12
def k154_14 : VC := .seq k154_4 k154_13
def k154_15 : VC := .seq k154_3 k154_14
def k154_16 : VC := .seq k154_2 k154_15
def k154_17 : VC := .seq k154_1 k154_16
def k154_18 : VC := .seq k154_0 k154_17
def fn154 : VFn := ⟨114, k154_18, []⟩
def k159_0 : VC := .reg [oD 4 (.mv (.const (.int .u64 0)))]
def k159_1 : VC := .reg [oM 6 τ1,oD 7 (.conv .u64 τ6),oD 8 (.bin .and τ7 (.const (.int .u64 63))),oM 5 τ8]
def k159_2 : VC := .reg [oM 9 τ0,oM 10 τ5,oD 11 (.bin .shl τ9 τ10),oM 12 τ0,oM 13 τ5,oD 14 (.bin .sub (.const (.int .u64 64)) τ13),oD 15 (.bin .shr τ12 τ14),oD 16 (.bin .or τ11 τ15),oM 4 τ16]
def k159_3 : VC := .seq k159_2 .ret
def k159_4 : VC := .seq k159_1 k159_3
def k159_5 : VC := .seq k159_0 k159_4
def fn159 : VFn := ⟨17, k159_5, [.tmp 4]⟩
def k134_0 : VC := .reg [oD 2 (.mv (.const (.int .u64 0)))]
def k134_1 : VC := .reg [oM 4 τ0,oD 5 (.isNil 0 false τ4),oM 6 τ5,oG 7 (.mv τ0) 6 false,oG 8 (.nilCheck τ7) 6 false,oG 9 (.fieldA 0 τ8) 6 false,oG 10 (.load1 .bool τ9) 6 false,oG 11 (.not τ10) 6 false,oD 12 (.pick τ6 (.const (.bool true)) τ11)]
def k134_2 : VC := .reg [oD 2 (.mv (.const (.int .u64 0)))]
def k134_3 : VC := .seq k134_2 .ret
def k134_4 : VC := .cond τ12 k134_3 .skip
def k134_5 : VC := .seq k134_1 k134_4
def k134_6 : VC := .reg [oM 13 τ0,oD 14 (.nilCheck τ13),oD 15 (.fieldA 1 τ14),oD 16 (.loadN [(.int .u64), (.int .u64), (.int .u64), (.int .u64)] τ15),oD 3 (.alloc [(.int .u64 0), (.int .u64 0), (.int .u64 0), (.int .u64 0)]),oN (.store 4 τ3 τ16)]
def k134_7 : VC := .regD [oM 17 τ0,oD 18 (.nilCheck τ17),oD 19 (.fieldA 5 τ18),oD 20 (.load1 (.int .u64) τ19),oM 21 τ0,oD 22 (.nilCheck τ21),oD 23 (.fieldA 6 τ22),oD 24 (.load1 (.int .i64) τ23),oD 25 (.conv .u64 τ24),oD 26 (.bin .shl τ25 (.const (.int .u64 56)))] [] [oD 27 (.bin .or τ20 τ26),oD 28 (.callF 147 [τ3, τ27])]
def k134_8 : VC := .reg [oD 29 (.idxAA 4 1 τ3 (.const (.int .i64 2))),oD 30 (.load1 (.int .u64) τ29),oD 31 (.bin .xor τ30 (.const (.int .u64 255))),oD 32 (.idxAA 4 1 τ3 (.const (.int .i64 2))),oN (.store 1 τ32 τ31)]
def k134_9 : VC := .reg [oD 33 (.callF 148 [τ3, (.const (.int .i64 4))])]
def k134_10 : VC := .reg [oD 34 (.idxAA 4 1 τ3 (.const (.int .i64 0))),oD 35 (.load1 (.int .u64) τ34),oD 36 (.idxAA 4 1 τ3 (.const (.int .i64 1))),oD 37 (.load1 (.int .u64) τ36),oD 38 (.bin .xor τ35 τ37),oD 39 (.idxAA 4 1 τ3 (.const (.int .i64 2))),oD 40 (.load1 (.int .u64) τ39),oD 41 (.bin .xor τ38 τ40),oD 42 (.idxAA 4 1 τ3 (.const (.int .i64 3))),oD 43 (.load1 (.int .u64) τ42),oD 44 (.bin .xor τ41 τ43),oM 2 τ44]
def k134_11 : VC := .seq k134_10 .ret
def k134_12 : VC := .seq k134_9 k134_11
def k134_13 : VC := .seq k134_8 k134_12
def k134_14 : VC := .seq k134_7 k134_13
def k134_15 : VC := .seq k134_6 k134_14
def k134_16 : VC := .seq k134_5 k134_15
def k134_17 : VC := .seq k134_0 k134_16
def fn134 : VFn := ⟨45, k134_17, [.tmp 2]⟩
def k48_0 : VC := .reg [oD 2 (.alloc [(.int .u64 0), (.int .u64 0), (.int .i64 0), (.slice none 0 0)]),oD 3 (.mv (.const (.int .i64 0)))]
def k48_1 : VC := .reg [oM 11 τ0,oD 12 (.lenS τ11),oD 13 (.bin .lss τ12 (.const (.int .i64 31)))]
def k48_2 : VC := .reg [oD 14 (.build [(.int .u64 0), (.int .u64 0), (.int .i64 0), (.slice none 0 0)] []),oN (.store 4 τ2 τ14),oD 3 (.mv (.const (.int .i64 2)))]
def k48_3 : VC := .seq k48_2 .ret
def k48_4 : VC := .cond τ13 k48_3 .skip
def k48_5 : VC := .seq k48_1 k48_4
def k48_6 : VC := .regD [oM 15 τ0,oM 16 τ0,oD 17 (.lenS τ16),oD 18 (.bin .sub τ17 (.const (.int .i64 8))),oD 19 (.sliceS τ15 none (some τ18)),oM 20 τ0,oM 21 τ0,oD 22 (.lenS τ21),oD 23 (.bin .sub τ22 (.const (.int .i64 8))),oD 24 (.sliceS τ20 (some τ23) none),oM 4 τ19] [] [oM 5 τ24]
def k48_7 : VC := .reg [oM 25 τ4,oD 26 (.callF 96 [τ25]),oM 6 τ26]
def k48_8 : VC := .reg [oM 28 τ6,oD 29 (.callF 97 [τ28, (.const (.int .i64 4))]),oD 30 (.bin .neq τ29 (.const (.string ⟨⟨[67, 76, 75, 49]⟩⟩))),oM 27 τ30]
def k48_9 : VC := .reg [oD 31 (.build [(.int .u64 0), (.int .u64 0), (.int .i64 0), (.slice none 0 0)] []),oN (.store 4 τ2 τ31),oD 3 (.mv (.const (.int .i64 3)))]
def k48_10 : VC := .seq k48_9 .ret
def k48_11 : VC := .reg [oM 33 τ4,oD 34 (.callF 98 [τ33]),oM 35 τ5,oD 36 (.bin .neq τ34 τ35),oM 32 τ36]
def k48_12 : VC := .reg [oD 37 (.build [(.int .u64 0), (.int .u64 0), (.int .i64 0), (.slice none 0 0)] []),oN (.store 4 τ2 τ37),oD 3 (.mv (.const (.int .i64 4)))]
def k48_13 : VC := .seq k48_12 .ret
def k48_14 : VC := .cond τ32 k48_13 .skip
def k48_15 : VC := .seq k48_11 k48_14
def k48_16 : VC := .cond τ27 k48_10 k48_15
def k48_17 : VC := .seq k48_8 k48_16
def k48_18 : VC := .block 0 k48_17
def k48_19 : VC := .reg [oD 38 (.build [(.int .u64 0), (.int .u64 0), (.int .i64 0), (.slice none 0 0)] []),oD 7 (.alloc [(.int .u64 0), (.int .u64 0), (.int .i64 0), (.slice none 0 0)]),oN (.store 4 τ7 τ38)]
def k48_20 : VC := .reg [oM 40 τ6,oD 41 (.callF 97 [τ40, (.const (.int .i64 8))]),oD 42 (.callF 99 [τ41, (.const (.int .i64 0)), (.const (.int .i64 8))]),oM 39 τ42,oE 43 0 τ39,oE 44 1 τ39,oD 45 (.fieldA 0 τ7),oD 46 (.fieldA 0 τ45),oN (.store 1 τ46 τ43)]
def k48_21 : VC := .reg [oM 48 τ6,oD 49 (.callF 97 [τ48, (.const (.int .i64 8))]),oD 50 (.callF 99 [τ49, (.const (.int .i64 0)), (.const (.int .i64 8))]),oM 47 τ50,oE 51 0 τ47,oE 52 1 τ47,oD 53 (.fieldA 0 τ7),oD 54 (.fieldA 1 τ53),oN (.store 1 τ54 τ51)]
def k48_22 : VC := .reg [oM 55 τ6,oD 56 (.callF 100 [τ55, (.const (.int .i64 2))]),oD 57 (.fieldA 2 τ7),oN (.store 1 τ57 τ56)]
def k48_23 : VC := .reg [oD 8 (.mv (.const (.bool true)))]
def k48_24 : VC := .reg [oM 58 τ6,oD 59 (.callF 100 [τ58, (.const (.int .i64 1))]),oD 60 (.mv (.const (.int .i64 0)))]
def k48_25 : VC := .reg [oD 61 (.bin .lss τ60 τ59)]
def k48_26 : VC := .cond τ61 .skip (.exit 1)
def k48_27 : VC := .reg [oM 63 τ6,oD 64 (.callF 101 [τ63]),oM 62 τ64,oE 65 0 τ62,oE 66 1 τ62,oD 9 (.alloc [(.int .i64 0), (.int .i64 0), (.int .i64 0), (.bool false), (.int .u64 0), (.int .u64 0)]),oN (.store 6 τ9 τ65),oM 10 τ66]
def k48_28 : VC := .reg [oM 67 τ8,oM 68 τ67,oG 69 (.mv τ10) 68 true,oD 70 (.pick τ68 τ69 (.const (.bool false))),oM 8 τ70]
def k48_29 : VC := .reg [oD 71 (.fieldA 3 τ7),oD 72 (.load1 .oth τ71),oD 73 (.loadN [(.int .i64), (.int .i64), (.int .i64), .bool, (.int .u64), (.int .u64)] τ9),oD 74 (.buildSl 1 6 [(.int .i64 0), (.int .i64 0), (.int .i64 0), (.bool false), (.int .u64 0), (.int .u64 0)] [(0, 6, τ73)]),oD 75 (.app 37 6 48 τ72 τ74),oD 76 (.fieldA 3 τ7),oN (.store 1 τ76 τ75)]
def k48_30 : VC := .seq k48_28 k48_29
def k48_31 : VC := .seq k48_27 k48_30
def k48_32 : VC := .block 2 k48_31
def k48_33 : VC := .reg [oD 77 (.bin .add τ60 (.const (.int .i64 1))),oM 60 τ77]
def k48_34 : VC := .seq k48_32 k48_33
def k48_35 : VC := .seq k48_26 k48_34
def k48_36 : VC := .seq k48_25 k48_35
def k48_37 : VC := .loop k48_36
def k48_38 : VC := .block 1 k48_37
def k48_39 : VC := .seq k48_24 k48_38
def k48_40 : VC := .reg [oM 79 τ6,oD 80 (.callF 102 [τ79]),oM 78 τ80]
def k48_41 : VC := .reg [oD 81 (.build [(.int .u64 0), (.int .u64 0), (.int .i64 0), (.slice none 0 0)] []),oN (.store 4 τ2 τ81),oD 3 (.mv (.const (.int .i64 2)))]
def k48_42 : VC := .seq k48_41 .ret
def k48_43 : VC := .reg [oM 83 τ6,oD 84 (.callF 103 [τ83]),oD 85 (.bin .neq τ84 (.const (.string ⟨⟨[]⟩⟩))),oM 86 τ85,oG 87 (.mv τ8) 86 false,oG 88 (.not τ87) 86 false,oD 89 (.pick τ86 (.const (.bool true)) τ88),oM 82 τ89]
def k48_44 : VC := .reg [oD 90 (.build [(.int .u64 0), (.int .u64 0), (.int .i64 0), (.slice none 0 0)] []),oN (.store 4 τ2 τ90),oD 3 (.mv (.const (.int .i64 3)))]
def k48_45 : VC := .seq k48_44 .ret
def k48_46 : VC := .reg [oD 92 (.loadN [(.int .u64), (.int .u64), (.int .i64), .oth] τ7),oD 93 (.callF 56 [τ92]),oD 94 (.not τ93),oM 91 τ94]
def k48_47 : VC := .reg [oD 95 (.build [(.int .u64 0), (.int .u64 0), (.int .i64 0), (.slice none 0 0)] []),oN (.store 4 τ2 τ95),oD 3 (.mv (.const (.int .i64 1)))]
def k48_48 : VC := .seq k48_47 .ret
def k48_49 : VC := .cond τ91 k48_48 .skip
def k48_50 : VC := .seq k48_46 k48_49
def k48_51 : VC := .cond τ82 k48_45 k48_50
def k48_52 : VC := .seq k48_43 k48_51
def k48_53 : VC := .cond τ78 k48_42 k48_52
def k48_54 : VC := .seq k48_40 k48_53
def k48_55 : VC := .block 3 k48_54
def k48_56 : VC := .reg [oD 96 (.loadN [(.int .u64), (.int .u64), (.int .i64), .oth] τ7),oN (.store 4 τ2 τ96),oD 3 (.mv (.const (.int .i64 0)))]
def k48_57 : VC := .seq k48_56 .ret
def k48_58 : VC := .seq k48_55 k48_57
def k48_59 : VC := .seq k48_39 k48_58
def k48_60 : VC := .seq k48_23 k48_59
def k48_61 : VC := .seq k48_22 k48_60
def k48_62 : VC := .seq k48_21 k48_61
def k48_63 : VC := .seq k48_20 k48_62
def k48_64 : VC := .seq k48_19 k48_63
def k48_65 : VC := .seq k48_18 k48_64
def k48_66 : VC := .seq k48_7 k48_65
def k48_67 : VC := .seq k48_6 k48_66
def k48_68 : VC := .seq k48_5 k48_67
def k48_69 : VC := .seq k48_0 k48_68
def fn48 : VFn := ⟨97, k48_69, [.cell 2 [(.int .u64), (.int .u64), (.int .i64), .oth] true, .tmp 3]⟩
def k96_0 : VC := .reg [oD 2 (.mv (.const (.pointer none)))]
def k96_1 : VC := .reg [oM 3 τ0,oD 4 (.build [(.string ⟨⟨[]⟩⟩), (.bool false), (.bool false)] [(0, 1, τ3), (1, 1, (.const (.bool true)))]),oD 5 (.box τ4),oM 2 τ5]
def k96_2 : VC := .seq k96_1 .ret
def k96_3 : VC := .seq k96_0 k96_2
def fn96 : VFn := ⟨6, k96_3, [.tmp 2]⟩
def k97_0 : VC := .reg [oD 4 (.mv (.const (.string ⟨⟨[]⟩⟩)))]
def k97_1 : VC := .reg [oM 6 τ0,oD 7 (.callF 102 [τ6])]
def k97_2 : VC := .reg [oD 4 (.mv (.const (.string ⟨⟨[]⟩⟩)))]
def k97_3 : VC := .seq k97_2 .ret
def k97_4 : VC := .cond τ7 k97_3 .skip
def k97_5 : VC := .seq k97_1 k97_4
def k97_6 : VC := .reg [oM 8 τ1,oD 9 (.bin .lss τ8 (.const (.int .i64 0))),oM 10 τ9,oG 11 (.mv τ1) 10 false,oG 12 (.mv τ0) 10 false,oG 13 (.nilCheck τ12) 10 false,oG 14 (.fieldA 0 τ13) 10 false,oG 15 (.load1 .str τ14) 10 false,oG 16 (.lenS τ15) 10 false,oG 17 (.bin .gtr τ11 τ16) 10 false,oD 18 (.pick τ10 (.const (.bool true)) τ17)]
def k97_7 : VC := .reg [oM 19 τ0,oD 20 (.nilCheck τ19),oD 21 (.fieldA 2 τ20),oN (.store 1 τ21 (.const (.bool true)))]
def k97_8 : VC := .reg [oD 4 (.mv (.const (.string ⟨⟨[]⟩⟩)))]
def k97_9 : VC := .seq k97_8 .ret
def k97_10 : VC := .seq k97_7 k97_9
def k97_11 : VC := .cond τ18 k97_10 .skip
def k97_12 : VC := .seq k97_6 k97_11
def k97_13 : VC := .reg [oM 22 τ0,oD 23 (.nilCheck τ22),oD 24 (.fieldA 0 τ23),oD 25 (.load1 .str τ24),oM 26 τ1,oD 27 (.sliceS τ25 none (some τ26)),oM 5 τ27]
def k97_14 : VC := .reg [oM 28 τ0,oM 29 τ0,oD 30 (.nilCheck τ29),oD 31 (.fieldA 0 τ30),oD 32 (.load1 .str τ31),oM 33 τ1,oD 34 (.sliceS τ32 (some τ33) none),oD 35 (.nilCheck τ28),oD 36 (.fieldA 0 τ35),oN (.store 1 τ36 τ34)]
def k97_15 : VC := .reg [oM 37 τ5,oM 4 τ37]
def k97_16 : VC := .seq k97_15 .ret
def k97_17 : VC := .seq k97_14 k97_16
def k97_18 : VC := .seq k97_13 k97_17
def k97_19 : VC := .seq k97_12 k97_18
def k97_20 : VC := .seq k97_5 k97_19
def k97_21 : VC := .seq k97_0 k97_20
def fn97 : VFn := ⟨38, k97_21, [.tmp 4]⟩
def k102_0 : VC := .reg [oD 2 (.mv (.const (.bool false)))]
def k102_1 : VC := .reg [oM 3 τ0,oD 4 (.isNil 0 false τ3),oM 5 τ4,oG 6 (.mv τ0) 5 false,oG 7 (.nilCheck τ6) 5 false,oG 8 (.fieldA 1 τ7) 5 false,oG 9 (.load1 .bool τ8) 5 false,oG 10 (.not τ9) 5 false,oD 11 (.pick τ5 (.const (.bool true)) τ10),oM 12 τ11,oG 13 (.mv τ0) 12 false,oG 14 (.nilCheck τ13) 12 false,oG 15 (.fieldA 2 τ14) 12 false,oG 16 (.load1 .bool τ15) 12 false,oD 17 (.pick τ12 (.const (.bool true)) τ16),oM 2 τ17]
def k102_2 : VC := .seq k102_1 .ret
def k102_3 : VC := .seq k102_0 k102_2
def fn102 : VFn := ⟨18, k102_3, [.tmp 2]⟩
def k99_0 : VC := .reg [oD 6 (.mv (.const (.int .u64 0))),oD 7 (.mv (.const (.bool false)))]
def k99_1 : VC := .reg [oM 11 τ2,oD 12 (.bin .lss τ11 (.const (.int .i64 1))),oM 13 τ12,oG 14 (.mv τ2) 13 false,oG 15 (.bin .gtr τ14 (.const (.int .i64 8))) 13 false,oD 16 (.pick τ13 (.const (.bool true)) τ15),oM 17 τ16,oG 18 (.mv τ1) 17 false,oG 19 (.bin .lss τ18 (.const (.int .i64 0))) 17 false,oD 20 (.pick τ17 (.const (.bool true)) τ19),oM 21 τ20,oG 22 (.mv τ0) 21 false,oG 23 (.lenS τ22) 21 false,oG 24 (.mv τ2) 21 false,oG 25 (.bin .sub τ23 τ24) 21 false,oG 26 (.mv τ1) 21 false,oG 27 (.bin .lss τ25 τ26) 21 false,oD 28 (.pick τ21 (.const (.bool true)) τ27)]
def k99_2 : VC := .reg [oD 6 (.mv (.const (.int .u64 0))),oD 7 (.mv (.const (.bool false)))]
def k99_3 : VC := .seq k99_2 .ret
def k99_4 : VC := .cond τ28 k99_3 .skip
def k99_5 : VC := .seq k99_1 k99_4
def k99_6 : VC := .reg [oD 8 (.mv (.const (.int .u64 0)))]
def k99_7 : VC := .reg [oM 29 τ0,oM 30 τ1,oM 31 τ1,oM 32 τ2,oD 33 (.bin .add τ31 τ32),oD 34 (.sliceS τ29 (some τ30) (some τ33)),oD 35 (.s2b τ34),oD 36 (.lenL τ35),oD 37 (.mv (.const (.int .i64 0)))]
def k99_8 : VC := .reg [oD 38 (.bin .lss τ37 τ36)]
def k99_9 : VC := .cond τ38 .skip (.exit 0)
def k99_10 : VC := .reg [oD 39 (.idxAL 1 τ35 τ37),oD 40 (.load1 (.int .u8) τ39),oM 10 τ40]
def k99_11 : VC := .reg [oM 41 τ8,oD 42 (.bin .shl τ41 (.const (.int .u64 8))),oM 43 τ10,oD 44 (.conv .u64 τ43),oD 45 (.bin .or τ42 τ44),oM 8 τ45]
def k99_12 : VC := .seq k99_10 k99_11
def k99_13 : VC := .block 1 k99_12
def k99_14 : VC := .reg [oD 46 (.bin .add τ37 (.const (.int .i64 1))),oM 37 τ46]
def k99_15 : VC := .seq k99_13 k99_14
def k99_16 : VC := .seq k99_9 k99_15
def k99_17 : VC := .seq k99_8 k99_16
def k99_18 : VC := .loop k99_17
def k99_19 : VC := .block 0 k99_18
def k99_20 : VC := .seq k99_7 k99_19
def k99_21 : VC := .reg [oM 47 τ8,oM 6 τ47,oD 7 (.mv (.const (.bool true)))]
def k99_22 : VC := .seq k99_21 .ret
def k99_23 : VC := .seq k99_20 k99_22
def k99_24 : VC := .seq k99_6 k99_23
def k99_25 : VC := .seq k99_5 k99_24
def k99_26 : VC := .seq k99_0 k99_25
def fn99 : VFn := ⟨48, k99_26, [.tmp 6, .tmp 7]⟩
def k100_0 : VC := .reg [oD 4 (.mv (.const (.int .i64 0)))]
def k100_1 : VC := .reg [oM 7 τ1,oD 8 (.bin .lss τ7 (.const (.int .i64 1))),oM 9 τ8,oG 10 (.mv τ1) 9 false,oG 11 (.bin .gtr τ10 (.const (.int .i64 7))) 9 false,oD 12 (.pick τ9 (.const (.bool true)) τ11)]
def k100_2 : VC := .reg [oD 1 (.mv (.const (.int .i64 (-1))))]
def k100_3 : VC := .cond τ12 k100_2 .skip
def k100_4 : VC := .seq k100_1 k100_3
def k100_5 : VC := .reg [oM 14 τ0,oM 15 τ1,oD 16 (.callF 97 [τ14, τ15]),oM 17 τ1,oD 18 (.callF 99 [τ16, (.const (.int .i64 0)), τ17]),oM 13 τ18,oE 19 0 τ13,oE 20 1 τ13,oM 5 τ19,oM 6 τ20]
def k100_6 : VC := .reg [oM 21 τ5,oD 22 (.conv .i64 τ21),oM 4 τ22]
def k100_7 : VC := .seq k100_6 .ret
def k100_8 : VC := .seq k100_5 k100_7
def k100_9 : VC := .seq k100_4 k100_8
def k100_10 : VC := .seq k100_0 k100_9
def fn100 : VFn := ⟨23, k100_10, [.tmp 4]⟩
def k101_0 : VC := .reg [oD 2 (.alloc [(.int .i64 0), (.int .i64 0), (.int .i64 0), (.bool false), (.int .u64 0), (.int .u64 0)]),oD 3 (.mv (.const (.bool false)))]
def k101_1 : VC := .reg [oM 7 τ0,oD 8 (.callF 100 [τ7, (.const (.int .i64 2))]),oM 9 τ0,oD 10 (.callF 100 [τ9, (.const (.int .i64 2))]),oM 11 τ0,oD 12 (.callF 100 [τ11, (.const (.int .i64 1))]),oD 13 (.build [(.int .i64 0), (.int .i64 0), (.int .i64 0), (.bool false), (.int .u64 0), (.int .u64 0)] [(0, 1, τ8), (1, 1, τ10), (2, 1, τ12)]),oD 4 (.alloc [(.int .i64 0), (.int .i64 0), (.int .i64 0), (.bool false), (.int .u64 0), (.int .u64 0)]),oN (.store 6 τ4 τ13)]
def k101_2 : VC := .reg [oM 15 τ0,oM 16 τ0,oD 17 (.callF 100 [τ16, (.const (.int .i64 1))]),oD 18 (.callF 97 [τ15, τ17]),oD 19 (.callF 138 [τ18]),oM 14 τ19,oE 20 0 τ14,oE 21 1 τ14,oD 5 (.alloc [(.bool false), (.int .u64 0), (.int .u64 0)]),oN (.store 3 τ5 τ20),oM 6 τ21]
def k101_3 : VC := .reg [oD 22 (.loadN [.bool, (.int .u64), (.int .u64)] τ5),oD 23 (.fieldA 3 τ4),oN (.store 3 τ23 τ22)]
def k101_4 : VC := .reg [oD 24 (.loadN [(.int .i64), (.int .i64), (.int .i64), .bool, (.int .u64), (.int .u64)] τ4),oM 25 τ6,oN (.store 6 τ2 τ24),oM 3 τ25]
def k101_5 : VC := .seq k101_4 .ret
def k101_6 : VC := .seq k101_3 k101_5
def k101_7 : VC := .seq k101_2 k101_6
def k101_8 : VC := .seq k101_1 k101_7
def k101_9 : VC := .seq k101_0 k101_8
def fn101 : VFn := ⟨26, k101_9, [.cell 2 [(.int .i64), (.int .i64), (.int .i64), .bool, (.int .u64), (.int .u64)] true, .tmp 3]⟩
def k138_0 : VC := .reg [oD 2 (.alloc [(.bool false), (.int .u64 0), (.int .u64 0)]),oD 3 (.mv (.const (.bool false)))]
def k138_1 : VC := .reg [oM 7 τ0,oD 8 (.lenS τ7)]
def k138_2 : VC := .reg [oD 10 (.bin .eql τ8 (.const (.int .i64 4))),oM 9 τ10]
def k138_3 : VC := .reg [oM 12 τ0,oD 13 (.callF 99 [τ12, (.const (.int .i64 0)), (.const (.int .i64 4))]),oM 11 τ13,oE 14 0 τ11,oE 15 1 τ11,oM 4 τ14,oM 5 τ15]
def k138_4 : VC := .reg [oM 16 τ4,oD 17 (.build [(.bool false), (.int .u64 0), (.int .u64 0)] [(2, 1, τ16)]),oN (.store 3 τ2 τ17),oD 3 (.mv (.const (.bool true)))]
def k138_5 : VC := .seq k138_4 .ret
def k138_6 : VC := .seq k138_3 k138_5
def k138_7 : VC := .reg [oD 19 (.bin .eql τ8 (.const (.int .i64 16))),oM 18 τ19]
def k138_8 : VC := .reg [oD 20 (.build [(.bool false), (.int .u64 0), (.int .u64 0)] [(0, 1, (.const (.bool true)))]),oD 6 (.alloc [(.bool false), (.int .u64 0), (.int .u64 0)]),oN (.store 3 τ6 τ20)]
def k138_9 : VC := .reg [oM 22 τ0,oD 23 (.callF 99 [τ22, (.const (.int .i64 0)), (.const (.int .i64 8))]),oM 21 τ23,oE 24 0 τ21,oE 25 1 τ21,oD 26 (.fieldA 1 τ6),oN (.store 1 τ26 τ24)]
def k138_10 : VC := .reg [oM 28 τ0,oD 29 (.callF 99 [τ28, (.const (.int .i64 8)), (.const (.int .i64 8))]),oM 27 τ29,oE 30 0 τ27,oE 31 1 τ27,oD 32 (.fieldA 2 τ6),oN (.store 1 τ32 τ30)]
def k138_11 : VC := .reg [oD 33 (.loadN [.bool, (.int .u64), (.int .u64)] τ6),oN (.store 3 τ2 τ33),oD 3 (.mv (.const (.bool true)))]
def k138_12 : VC := .seq k138_11 .ret
def k138_13 : VC := .seq k138_10 k138_12
def k138_14 : VC := .seq k138_9 k138_13
def k138_15 : VC := .seq k138_8 k138_14
def k138_16 : VC := .cond τ18 k138_15 .skip
def k138_17 : VC := .seq k138_7 k138_16
def k138_18 : VC := .cond τ9 k138_6 k138_17
def k138_19 : VC := .seq k138_2 k138_18
def k138_20 : VC := .block 0 k138_19
def k138_21 : VC := .seq k138_1 k138_20
def k138_22 : VC := .reg [oD 34 (.build [(.bool false), (.int .u64 0), (.int .u64 0)] []),oN (.store 3 τ2 τ34),oD 3 (.mv (.const (.bool false)))]
def k138_23 : VC := .seq k138_22 .ret
def k138_24 : VC := .seq k138_21 k138_23
def k138_25 : VC := .seq k138_0 k138_24
def fn138 : VFn := ⟨35, k138_25, [.cell 2 [.bool, (.int .u64), (.int .u64)] true, .tmp 3]⟩
def k103_0 : VC := .reg [oD 2 (.mv (.const (.string ⟨⟨[]⟩⟩)))]
def k103_1 : VC := .reg [oM 3 τ0,oD 4 (.callF 102 [τ3])]
def k103_2 : VC := .reg [oD 2 (.mv (.const (.string ⟨⟨[]⟩⟩)))]
def k103_3 : VC := .seq k103_2 .ret
def k103_4 : VC := .cond τ4 k103_3 .skip
def k103_5 : VC := .seq k103_1 k103_4
def k103_6 : VC := .reg [oM 5 τ0,oM 6 τ0,oD 7 (.nilCheck τ6),oD 8 (.fieldA 0 τ7),oD 9 (.load1 .str τ8),oD 10 (.lenS τ9),oD 11 (.callF 97 [τ5, τ10]),oM 2 τ11]
def k103_7 : VC := .seq k103_6 .ret
def k103_8 : VC := .seq k103_5 k103_7
def k103_9 : VC := .seq k103_0 k103_8
def fn103 : VFn := ⟨12, k103_9, [.tmp 2]⟩
def k58_0 : VC := .reg [oD 3 (.box τ0),oD 6 (.alloc [(.int .u64 0), (.int .u64 0), (.int .i64 0), (.slice none 0 0)])]
def k58_1 : VC := .reg [oD 10 (.loadN [(.int .u64), (.int .u64)] τ3),oM 11 τ1,oD 12 (.build [(.int .u64 0), (.int .u64 0), (.int .i64 0), (.slice none 0 0)] [(0, 2, τ10), (2, 1, τ11)]),oD 7 (.alloc [(.int .u64 0), (.int .u64 0), (.int .i64 0), (.slice none 0 0)]),oN (.store 4 τ7 τ12)]
def k58_2 : VC := .reg [oM 13 τ2,oD 14 (.lenL τ13),oD 15 (.mv (.const (.int .i64 0)))]
def k58_3 : VC := .reg [oD 16 (.bin .lss τ15 τ14)]
def k58_4 : VC := .cond τ16 .skip (.exit 0)
def k58_5 : VC := .reg [oD 17 (.idxAL 6 τ13 τ15),oD 18 (.loadN [(.int .i64), (.int .i64), (.int .i64), .bool, (.int .u64), (.int .u64)] τ17),oD 9 (.alloc [(.int .i64 0), (.int .i64 0), (.int .i64 0), (.bool false), (.int .u64 0), (.int .u64 0)]),oN (.store 6 τ9 τ18)]
def k58_6 : VC := .reg [oD 19 (.fieldA 2 τ9),oD 20 (.load1 (.int .i64) τ19)]
def k58_7 : VC := .reg [oD 23 (.bin .eql τ20 (.const (.int .i64 4))),oM 22 τ23]
def k58_8 : VC := .reg [oD 25 (.bin .eql τ20 (.const (.int .i64 3))),oM 24 τ25]
def k58_9 : VC := .reg [oD 21 (.fieldA 2 τ9),oN (.store 1 τ21 (.const (.int .i64 1)))]
def k58_10 : VC := .cond τ24 .skip k58_9
def k58_11 : VC := .seq k58_8 k58_10
def k58_12 : VC := .cond τ22 (.exit 1) k58_11
def k58_13 : VC := .seq k58_7 k58_12
def k58_14 : VC := .block 2 k58_13
def k58_15 : VC := .seq k58_6 k58_14
def k58_16 : VC := .reg [oD 26 (.fieldA 3 τ7),oD 27 (.load1 .oth τ26),oD 28 (.loadN [(.int .i64), (.int .i64), (.int .i64), .bool, (.int .u64), (.int .u64)] τ9),oD 29 (.buildSl 1 6 [(.int .i64 0), (.int .i64 0), (.int .i64 0), (.bool false), (.int .u64 0), (.int .u64 0)] [(0, 6, τ28)]),oD 30 (.app 37 6 48 τ27 τ29),oD 31 (.fieldA 3 τ7),oN (.store 1 τ31 τ30)]
def k58_17 : VC := .seq k58_15 k58_16
def k58_18 : VC := .seq k58_5 k58_17
def k58_19 : VC := .block 1 k58_18
def k58_20 : VC := .reg [oD 32 (.bin .add τ15 (.const (.int .i64 1))),oM 15 τ32]
def k58_21 : VC := .seq k58_19 k58_20
def k58_22 : VC := .seq k58_4 k58_21
def k58_23 : VC := .seq k58_3 k58_22
def k58_24 : VC := .loop k58_23
def k58_25 : VC := .block 0 k58_24
def k58_26 : VC := .seq k58_2 k58_25
def k58_27 : VC := .reg [oD 33 (.loadN [(.int .u64), (.int .u64), (.int .i64), .oth] τ7),oN (.store 4 τ6 τ33)]
def k58_28 : VC := .seq k58_27 .ret
def k58_29 : VC := .seq k58_26 k58_28
def k58_30 : VC := .seq k58_1 k58_29
def k58_31 : VC := .seq k58_0 k58_30
def fn58 : VFn := ⟨34, k58_31, [.cell 6 [(.int .u64), (.int .u64), (.int .i64), .oth] true]⟩
def k54_0 : VC := .reg [oD 1 (.box τ0),oD 2 (.alloc [(.int .u64 0), (.int .u64 0), (.int .i64 0), (.slice none 0 0)])]
def k54_1 : VC := .reg [oD 3 (.fieldA 0 τ1),oD 4 (.loadN [(.int .u64), (.int .u64)] τ3),oD 5 (.fieldA 2 τ1),oD 6 (.load1 (.int .i64) τ5),oD 7 (.fieldA 3 τ1),oD 8 (.load1 .oth τ7),oD 9 (.build [(.int .u64 0), (.int .u64 0), (.int .i64 0), (.slice none 0 0)] [(0, 2, τ4), (2, 1, τ6), (3, 1, τ8)]),oN (.store 4 τ2 τ9)]
def k54_2 : VC := .seq k54_1 .ret
def k54_3 : VC := .seq k54_0 k54_2
def fn54 : VFn := ⟨10, k54_3, [.cell 2 [(.int .u64), (.int .u64), (.int .i64), .oth] true]⟩
def k55_0 : VC := .reg [oD 1 (.box τ0),oD 2 (.mv (.const (.string ⟨⟨[]⟩⟩))),oD 3 (.mv (.const (.int .i64 0)))]
def k55_1 : VC := .reg [oD 7 (.loadN [(.int .u64), (.int .u64), (.int .i64), .oth] τ1),oD 8 (.callF 57 [τ7]),oD 9 (.not τ8)]
def k55_2 : VC := .reg [oD 2 (.mv (.const (.string ⟨⟨[]⟩⟩))),oD 3 (.mv (.const (.int .i64 1)))]
def k55_3 : VC := .seq k55_2 .ret
def k55_4 : VC := .cond τ9 k55_3 .skip
def k55_5 : VC := .seq k55_1 k55_4
def k55_6 : VC := .regD [oD 10 (.fieldA 0 τ1),oD 11 (.fieldA 0 τ10),oD 12 (.load1 (.int .u64) τ11),oD 13 (.callF 104 [τ12, (.const (.int .i64 8))]),oD 14 (.bin .add (.const (.string ⟨⟨[67, 76, 75, 49]⟩⟩)) τ13),oD 15 (.fieldA 0 τ1),oD 16 (.fieldA 1 τ15),oD 17 (.load1 (.int .u64) τ16),oD 18 (.callF 104 [τ17, (.const (.int .i64 8))]),oD 19 (.bin .add τ14 τ18),oD 20 (.fieldA 2 τ1),oD 21 (.load1 (.int .i64) τ20),oD 22 (.callF 111 [τ21, (.const (.int .i64 2))]),oD 23 (.bin .add τ19 τ22),oD 24 (.fieldA 3 τ1),oD 25 (.load1 .oth τ24),oD 26 (.lenL τ25),oD 27 (.callF 111 [τ26, (.const (.int .i64 1))])] [(3, 7), (3, 11), (3, 15), (8, 11), (8, 15), (12, 15)] [oD 28 (.bin .add τ23 τ27),oM 4 τ28]
def k55_7 : VC := .reg [oD 5 (.mv (.const (.int .i64 0)))]
def k55_8 : VC := .reg [oM 29 τ5,oD 30 (.fieldA 3 τ1),oD 31 (.load1 .oth τ30),oD 32 (.lenL τ31),oD 33 (.bin .lss τ29 τ32)]
def k55_9 : VC := .cond τ33 .skip (.exit 0)
def k55_10 : VC := .seq k55_8 k55_9
def k55_11 : VC := .reg [oD 36 (.fieldA 3 τ1),oD 37 (.load1 .oth τ36),oM 38 τ5,oD 39 (.idxAL 6 τ37 τ38),oD 40 (.fieldA 3 τ39),oD 41 (.loadN [.bool, (.int .u64), (.int .u64)] τ40),oD 42 (.callF 112 [τ41]),oM 6 τ42]
def k55_12 : VC := .regD [oM 43 τ4,oD 44 (.fieldA 3 τ1),oD 45 (.load1 .oth τ44),oM 46 τ5,oD 47 (.idxAL 6 τ45 τ46),oD 48 (.fieldA 0 τ47),oD 49 (.load1 (.int .i64) τ48),oD 50 (.callF 111 [τ49, (.const (.int .i64 2))]),oD 51 (.bin .add τ43 τ50),oD 52 (.fieldA 3 τ1),oD 53 (.load1 .oth τ52),oM 54 τ5,oD 55 (.idxAL 6 τ53 τ54),oD 56 (.fieldA 1 τ55),oD 57 (.load1 (.int .i64) τ56),oD 58 (.callF 111 [τ57, (.const (.int .i64 2))]),oD 59 (.bin .add τ51 τ58),oD 60 (.fieldA 3 τ1),oD 61 (.load1 .oth τ60),oM 62 τ5,oD 63 (.idxAL 6 τ61 τ62),oD 64 (.fieldA 2 τ63),oD 65 (.load1 (.int .i64) τ64),oD 66 (.callF 111 [τ65, (.const (.int .i64 1))]),oD 67 (.bin .add τ59 τ66),oM 68 τ6,oD 69 (.lenS τ68),oD 70 (.callF 111 [τ69, (.const (.int .i64 1))]),oD 71 (.bin .add τ67 τ70),oM 72 τ6] [(7, 10), (7, 14), (7, 18), (7, 22), (15, 18), (15, 22)] [oD 73 (.bin .add τ71 τ72),oM 4 τ73]
def k55_13 : VC := .seq k55_11 k55_12
def k55_14 : VC := .block 1 k55_13
def k55_15 : VC := .reg [oM 34 τ5,oD 35 (.bin .add τ34 (.const (.int .i64 1))),oM 5 τ35]
def k55_16 : VC := .seq k55_14 k55_15
def k55_17 : VC := .seq k55_10 k55_16
def k55_18 : VC := .loop k55_17
def k55_19 : VC := .block 0 k55_18
def k55_20 : VC := .seq k55_7 k55_19
def k55_21 : VC := .reg [oM 74 τ4,oM 75 τ4,oD 76 (.callF 49 [τ75]),oD 77 (.bin .add τ74 τ76),oM 2 τ77,oD 3 (.mv (.const (.int .i64 0)))]
def k55_22 : VC := .seq k55_21 .ret
def k55_23 : VC := .seq k55_20 k55_22
def k55_24 : VC := .seq k55_6 k55_23
def k55_25 : VC := .seq k55_5 k55_24
def k55_26 : VC := .seq k55_0 k55_25
def fn55 : VFn := ⟨78, k55_26, [.tmp 2, .tmp 3]⟩
def k57_0 : VC := .reg [oD 1 (.box τ0),oD 2 (.mv (.const (.bool false)))]
def k57_1 : VC := .reg [oD 6 (.fieldA 2 τ1),oD 7 (.load1 (.int .i64) τ6),oD 8 (.bin .lss τ7 (.const (.int .i64 0))),oM 9 τ8,oG 10 (.fieldA 2 τ1) 9 false,oG 11 (.load1 (.int .i64) τ10) 9 false,oG 12 (.bin .gtr τ11 (.const (.int .i64 65535))) 9 false,oD 13 (.pick τ9 (.const (.bool true)) τ12),oM 14 τ13,oG 15 (.fieldA 3 τ1) 14 false,oG 16 (.load1 .oth τ15) 14 false,oG 17 (.lenL τ16) 14 false,oG 18 (.bin .gtr τ17 (.const (.int .i64 64))) 14 false,oD 19 (.pick τ14 (.const (.bool true)) τ18)]
def k57_2 : VC := .reg [oD 2 (.mv (.const (.bool false)))]
def k57_3 : VC := .seq k57_2 .ret
def k57_4 : VC := .cond τ19 k57_3 .skip
def k57_5 : VC := .seq k57_1 k57_4
def k57_6 : VC := .reg [oD 3 (.mv (.const (.int .i64 0)))]
def k57_7 : VC := .reg [oD 4 (.mv (.const (.int .i64 0)))]
def k57_8 : VC := .reg [oM 20 τ4,oD 21 (.fieldA 3 τ1),oD 22 (.load1 .oth τ21),oD 23 (.lenL τ22),oD 24 (.bin .lss τ20 τ23)]
def k57_9 : VC := .cond τ24 .skip (.exit 0)
def k57_10 : VC := .seq k57_8 k57_9
def k57_11 : VC := .reg [oD 27 (.fieldA 3 τ1),oD 28 (.load1 .oth τ27),oM 29 τ4,oD 30 (.idxAL 6 τ28 τ29),oD 31 (.loadN [(.int .i64), (.int .i64), (.int .i64), .bool, (.int .u64), (.int .u64)] τ30),oD 5 (.alloc [(.int .i64 0), (.int .i64 0), (.int .i64 0), (.bool false), (.int .u64 0), (.int .u64 0)]),oN (.store 6 τ5 τ31)]
def k57_12 : VC := .reg [oD 32 (.fieldA 0 τ5),oD 33 (.load1 (.int .i64) τ32),oM 34 τ3,oD 35 (.bin .leq τ33 τ34),oM 36 τ35,oG 37 (.fieldA 0 τ5) 36 false,oG 38 (.load1 (.int .i64) τ37) 36 false,oG 39 (.fieldA 2 τ1) 36 false,oG 40 (.load1 (.int .i64) τ39) 36 false,oG 41 (.bin .gtr τ38 τ40) 36 false,oD 42 (.pick τ36 (.const (.bool true)) τ41),oM 43 τ42,oG 44 (.fieldA 1 τ5) 43 false,oG 45 (.load1 (.int .i64) τ44) 43 false,oG 46 (.bin .lss τ45 (.const (.int .i64 0))) 43 false,oD 47 (.pick τ43 (.const (.bool true)) τ46),oM 48 τ47,oG 49 (.fieldA 1 τ5) 48 false,oG 50 (.load1 (.int .i64) τ49) 48 false,oG 51 (.bin .gtr τ50 (.const (.int .i64 1000))) 48 false,oD 52 (.pick τ48 (.const (.bool true)) τ51),oM 53 τ52,oG 54 (.fieldA 2 τ5) 53 false,oG 55 (.load1 (.int .i64) τ54) 53 false,oG 56 (.bin .neq τ55 (.const (.int .i64 1))) 53 false,oG 57 (.mv τ56) 53 false,oG 58 (.fieldA 2 τ5) 57 true,oG 59 (.load1 (.int .i64) τ58) 57 true,oG 60 (.bin .neq τ59 (.const (.int .i64 3))) 57 true,oG 61 (.pick τ57 τ60 (.const (.bool false))) 53 false,oD 62 (.pick τ53 (.const (.bool true)) τ61),oM 63 τ62,oG 64 (.fieldA 3 τ5) 63 false,oG 65 (.loadN [.bool, (.int .u64), (.int .u64)] τ64) 63 false,oG 66 (.callF 115 [τ65]) 63 false,oG 67 (.not τ66) 63 false,oD 68 (.pick τ63 (.const (.bool true)) τ67)]
def k57_13 : VC := .reg [oD 2 (.mv (.const (.bool false)))]
def k57_14 : VC := .seq k57_13 .ret
def k57_15 : VC := .cond τ68 k57_14 .skip
def k57_16 : VC := .seq k57_12 k57_15
def k57_17 : VC := .reg [oD 69 (.fieldA 0 τ5),oD 70 (.load1 (.int .i64) τ69),oM 3 τ70]
def k57_18 : VC := .seq k57_16 k57_17
def k57_19 : VC := .seq k57_11 k57_18
def k57_20 : VC := .block 1 k57_19
def k57_21 : VC := .reg [oM 25 τ4,oD 26 (.bin .add τ25 (.const (.int .i64 1))),oM 4 τ26]
def k57_22 : VC := .seq k57_20 k57_21
def k57_23 : VC := .seq k57_10 k57_22
def k57_24 : VC := .loop k57_23
def k57_25 : VC := .block 0 k57_24
def k57_26 : VC := .seq k57_7 k57_25
def k57_27 : VC := .reg [oD 2 (.mv (.const (.bool true)))]
def k57_28 : VC := .seq k57_27 .ret
def k57_29 : VC := .seq k57_26 k57_28
def k57_30 : VC := .seq k57_6 k57_29
def k57_31 : VC := .seq k57_5 k57_30
def k57_32 : VC := .seq k57_0 k57_31
def fn57 : VFn := ⟨71, k57_32, [.tmp 2]⟩
def k115_0 : VC := .reg [oD 1 (.box τ0),oD 2 (.mv (.const (.bool false)))]
def k115_1 : VC := .reg [oD 3 (.fieldA 0 τ1),oD 4 (.load1 .bool τ3),oM 5 τ4,oG 6 (.fieldA 1 τ1) 5 false,oG 7 (.load1 (.int .u64) τ6) 5 false,oG 8 (.bin .eql τ7 (.const (.int .u64 0))) 5 false,oG 9 (.mv τ8) 5 false,oG 10 (.fieldA 2 τ1) 9 true,oG 11 (.load1 (.int .u64) τ10) 9 true,oG 12 (.bin .lss τ11 (.const (.int .u64 4294967296))) 9 true,oG 13 (.pick τ9 τ12 (.const (.bool false))) 5 false,oD 14 (.pick τ5 (.const (.bool true)) τ13),oM 2 τ14]
def k115_2 : VC := .seq k115_1 .ret
def k115_3 : VC := .seq k115_0 k115_2
def fn115 : VFn := ⟨15, k115_3, [.tmp 2]⟩
def k104_0 : VC := .reg [oD 4 (.mv (.const (.string ⟨⟨[]⟩⟩)))]
def k104_1 : VC := .reg [oD 5 (.mv (.const (.string ⟨⟨[]⟩⟩)))]
def k104_2 : VC := .reg [oD 6 (.mv (.const (.int .i64 0)))]
def k104_3 : VC := .reg [oM 7 τ6,oM 8 τ1,oD 9 (.bin .lss τ7 τ8),oM 10 τ9,oG 11 (.mv τ1) 10 true,oG 12 (.bin .leq τ11 (.const (.int .i64 8))) 10 true,oD 13 (.pick τ10 τ12 (.const (.bool false)))]
def k104_4 : VC := .cond τ13 .skip (.exit 0)
def k104_5 : VC := .seq k104_3 k104_4
def k104_6 : VC := .reg [oM 16 τ0,oD 17 (.bin .rem τ16 (.const (.int .u64 256))),oD 18 (.conv .u8 τ17),oD 19 (.buildSl 1 1 [(.int .u8 0)] [(0, 1, τ18)]),oD 20 (.b2s τ19),oM 21 τ5,oD 22 (.bin .add τ20 τ21),oM 5 τ22]
def k104_7 : VC := .reg [oM 23 τ0,oD 24 (.bin .quo τ23 (.const (.int .u64 256))),oM 0 τ24]
def k104_8 : VC := .seq k104_6 k104_7
def k104_9 : VC := .block 1 k104_8
def k104_10 : VC := .reg [oM 14 τ6,oD 15 (.bin .add τ14 (.const (.int .i64 1))),oM 6 τ15]
def k104_11 : VC := .seq k104_9 k104_10
def k104_12 : VC := .seq k104_5 k104_11
def k104_13 : VC := .loop k104_12
def k104_14 : VC := .block 0 k104_13
def k104_15 : VC := .seq k104_2 k104_14
def k104_16 : VC := .reg [oM 25 τ5,oM 4 τ25]
def k104_17 : VC := .seq k104_16 .ret
def k104_18 : VC := .seq k104_15 k104_17
def k104_19 : VC := .seq k104_1 k104_18
def k104_20 : VC := .seq k104_0 k104_19
def fn104 : VFn := ⟨26, k104_20, [.tmp 4]⟩
def k111_0 : VC := .reg [oD 4 (.mv (.const (.string ⟨⟨[]⟩⟩)))]
def k111_1 : VC := .reg [oM 5 τ0,oD 6 (.conv .u64 τ5),oM 7 τ1,oD 8 (.callF 104 [τ6, τ7]),oM 4 τ8]
def k111_2 : VC := .seq k111_1 .ret
def k111_3 : VC := .seq k111_0 k111_2
def fn111 : VFn := ⟨9, k111_3, [.tmp 4]⟩
def k112_0 : VC := .reg [oD 1 (.box τ0),oD 2 (.mv (.const (.string ⟨⟨[]⟩⟩)))]
def k112_1 : VC := .reg [oD 3 (.loadN [.bool, (.int .u64), (.int .u64)] τ1),oD 4 (.callF 115 [τ3]),oD 5 (.not τ4)]
def k112_2 : VC := .reg [oD 2 (.mv (.const (.string ⟨⟨[]⟩⟩)))]
def k112_3 : VC := .seq k112_2 .ret
def k112_4 : VC := .cond τ5 k112_3 .skip
def k112_5 : VC := .seq k112_1 k112_4
def k112_6 : VC := .reg [oD 6 (.fieldA 0 τ1),oD 7 (.load1 .bool τ6)]
def k112_7 : VC := .regD [oD 8 (.fieldA 1 τ1),oD 9 (.load1 (.int .u64) τ8),oD 10 (.callF 104 [τ9, (.const (.int .i64 8))]),oD 11 (.fieldA 2 τ1),oD 12 (.load1 (.int .u64) τ11)] [(2, 4)] [oD 13 (.callF 104 [τ12, (.const (.int .i64 8))]),oD 14 (.bin .add τ10 τ13),oM 2 τ14]
def k112_8 : VC := .seq k112_7 .ret
def k112_9 : VC := .cond τ7 k112_8 .skip
def k112_10 : VC := .seq k112_6 k112_9
def k112_11 : VC := .reg [oD 15 (.fieldA 2 τ1),oD 16 (.load1 (.int .u64) τ15),oD 17 (.callF 104 [τ16, (.const (.int .i64 4))]),oM 2 τ17]
def k112_12 : VC := .seq k112_11 .ret
def k112_13 : VC := .seq k112_10 k112_12
def k112_14 : VC := .seq k112_5 k112_13
def k112_15 : VC := .seq k112_0 k112_14
def fn112 : VFn := ⟨18, k112_15, [.tmp 2]⟩
def k49_0 : VC := .reg [oD 2 (.mv (.const (.string ⟨⟨[]⟩⟩)))]
def k49_1 : VC := .reg [oD 3 (.build [(.int .u64 0), (.int .u64 0)] [(0, 1, (.const (.int .u64 1))), (1, 1, (.const (.int .u64 2)))]),oM 4 τ0,oD 5 (.callF 95 [τ3, τ4]),oD 6 (.callF 104 [τ5, (.const (.int .i64 8))]),oM 2 τ6]
def k49_2 : VC := .seq k49_1 .ret
def k49_3 : VC := .seq k49_0 k49_2
def fn49 : VFn := ⟨7, k49_3, [.tmp 2]⟩
def k95_0 : VC := .reg [oD 2 (.box τ0),oD 4 (.mv (.const (.int .u64 0)))]
def k95_1 : VC := .regD [oD 14 (.fieldA 0 τ2),oD 15 (.load1 (.int .u64) τ14),oD 16 (.bin .xor (.const (.int .u64 8317987319222330741)) τ15),oD 17 (.fieldA 1 τ2),oD 18 (.load1 (.int .u64) τ17),oD 19 (.bin .xor (.const (.int .u64 7237128888997146477)) τ18),oM 5 τ16] [] [oM 6 τ19]
def k95_2 : VC := .regD [oD 20 (.fieldA 0 τ2),oD 21 (.load1 (.int .u64) τ20),oD 22 (.bin .xor (.const (.int .u64 7816392313619706465)) τ21),oD 23 (.fieldA 1 τ2),oD 24 (.load1 (.int .u64) τ23),oD 25 (.bin .xor (.const (.int .u64 8387220255154660723)) τ24),oM 7 τ22] [] [oM 8 τ25]
def k95_3 : VC := .reg [oM 26 τ1,oD 27 (.lenS τ26),oD 28 (.bin .quo τ27 (.const (.int .i64 8))),oD 29 (.bin .mul τ28 (.const (.int .i64 8))),oM 9 τ29]
def k95_4 : VC := .reg [oD 10 (.mv (.const (.int .i64 0)))]
def k95_5 : VC := .reg [oM 30 τ10,oM 31 τ9,oD 32 (.bin .leq τ30 τ31)]
def k95_6 : VC := .cond τ32 .skip (.exit 0)
def k95_7 : VC := .seq k95_5 k95_6
def k95_8 : VC := .reg [oM 35 τ1,oM 36 τ10,oM 37 τ10,oD 38 (.bin .add τ37 (.const (.int .i64 8))),oM 39 τ1,oD 40 (.lenS τ39),oD 41 (.minmax false [τ38, τ40]),oD 42 (.sliceS τ35 (some τ36) (some τ41)),oD 43 (.callF 135 [τ42]),oM 11 τ43]
def k95_9 : VC := .reg [oM 44 τ10,oM 45 τ9,oD 46 (.bin .eql τ44 τ45)]
def k95_10 : VC := .reg [oM 47 τ1,oM 48 τ10,oD 49 (.sliceS τ47 (some τ48) none),oD 50 (.callF 135 [τ49]),oM 51 τ1,oD 52 (.lenS τ51),oD 53 (.bin .rem τ52 (.const (.int .i64 256))),oD 54 (.conv .u64 τ53),oD 55 (.bin .shl τ54 (.const (.int .u64 56))),oD 56 (.bin .add τ50 τ55),oM 11 τ56]
def k95_11 : VC := .cond τ46 k95_10 .skip
def k95_12 : VC := .seq k95_9 k95_11
def k95_13 : VC := .reg [oM 57 τ8,oM 58 τ11,oD 59 (.bin .xor τ57 τ58),oM 8 τ59]
def k95_14 : VC := .reg [oD 12 (.mv (.const (.int .i64 0)))]
def k95_15 : VC := .reg [oM 60 τ12,oD 61 (.bin .lss τ60 (.const (.int .i64 2)))]
def k95_16 : VC := .cond τ61 .skip (.exit 2)
def k95_17 : VC := .seq k95_15 k95_16
def k95_18 : VC := .reg [oM 65 τ5,oM 66 τ6,oM 67 τ7,oM 68 τ8,oD 69 (.callF 136 [τ65, τ66, τ67, τ68]),oM 64 τ69,oE 70 0 τ64,oE 71 1 τ64,oE 72 2 τ64,oE 73 3 τ64,oM 5 τ70,oM 6 τ71,oM 7 τ72,oM 8 τ73]
def k95_19 : VC := .block 3 k95_18
def k95_20 : VC := .reg [oM 62 τ12,oD 63 (.bin .add τ62 (.const (.int .i64 1))),oM 12 τ63]
def k95_21 : VC := .seq k95_19 k95_20
def k95_22 : VC := .seq k95_17 k95_21
def k95_23 : VC := .loop k95_22
def k95_24 : VC := .block 2 k95_23
def k95_25 : VC := .seq k95_14 k95_24
def k95_26 : VC := .reg [oM 74 τ5,oM 75 τ11,oD 76 (.bin .xor τ74 τ75),oM 5 τ76]
def k95_27 : VC := .seq k95_25 k95_26
def k95_28 : VC := .seq k95_13 k95_27
def k95_29 : VC := .seq k95_12 k95_28
def k95_30 : VC := .seq k95_8 k95_29
def k95_31 : VC := .block 1 k95_30
def k95_32 : VC := .reg [oM 33 τ10,oD 34 (.bin .add τ33 (.const (.int .i64 8))),oM 10 τ34]
def k95_33 : VC := .seq k95_31 k95_32
def k95_34 : VC := .seq k95_7 k95_33
def k95_35 : VC := .loop k95_34
def k95_36 : VC := .block 0 k95_35
def k95_37 : VC := .seq k95_4 k95_36
def k95_38 : VC := .reg [oM 77 τ7,oD 78 (.bin .xor τ77 (.const (.int .u64 255))),oM 7 τ78]
def k95_39 : VC := .reg [oM 79 τ5,oM 80 τ6,oM 81 τ7,oM 82 τ8,oD 83 (.callF 137 [τ79, τ80, τ81, τ82, (.const (.int .i64 4))]),oD 13 (.alloc [(.int .u64 0), (.int .u64 0), (.int .u64 0), (.int .u64 0)]),oN (.store 4 τ13 τ83)]
def k95_40 : VC := .reg [oD 84 (.idxAA 4 1 τ13 (.const (.int .i64 0))),oD 85 (.load1 (.int .u64) τ84),oD 86 (.idxAA 4 1 τ13 (.const (.int .i64 1))),oD 87 (.load1 (.int .u64) τ86),oD 88 (.bin .xor τ85 τ87),oD 89 (.idxAA 4 1 τ13 (.const (.int .i64 2))),oD 90 (.load1 (.int .u64) τ89),oD 91 (.bin .xor τ88 τ90),oD 92 (.idxAA 4 1 τ13 (.const (.int .i64 3))),oD 93 (.load1 (.int .u64) τ92),oD 94 (.bin .xor τ91 τ93),oM 4 τ94]
def k95_41 : VC := .seq k95_40 .ret
def k95_42 : VC := .seq k95_39 k95_41
def k95_43 : VC := .seq k95_38 k95_42
def k95_44 : VC := .seq k95_37 k95_43
def k95_45 : VC := .seq k95_3 k95_44
def k95_46 : VC := .seq k95_2 k95_45
def k95_47 : VC := .seq k95_1 k95_46
def k95_48 : VC := .seq k95_0 k95_47
def fn95 : VFn := ⟨95, k95_48, [.tmp 4]⟩
def k135_0 : VC := .reg [oD 2 (.mv (.const (.int .u64 0)))]
def k135_1 : VC := .reg [oD 3 (.mv (.const (.int .u64 0)))]
def k135_2 : VC := .reg [oM 5 τ0,oD 6 (.lenS τ5),oD 7 (.bin .sub τ6 (.const (.int .i64 1))),oM 4 τ7]
def k135_3 : VC := .reg [oM 8 τ4,oD 9 (.bin .geq τ8 (.const (.int .i64 0)))]
def k135_4 : VC := .cond τ9 .skip (.exit 0)
def k135_5 : VC := .seq k135_3 k135_4
def k135_6 : VC := .reg [oM 12 τ3,oD 13 (.bin .shl τ12 (.const (.int .u64 8))),oM 14 τ0,oM 15 τ4,oD 16 (.idxS τ14 τ15),oD 17 (.conv .u64 τ16),oD 18 (.bin .add τ13 τ17),oM 3 τ18]
def k135_7 : VC := .block 1 k135_6
def k135_8 : VC := .reg [oM 10 τ4,oD 11 (.bin .sub τ10 (.const (.int .i64 1))),oM 4 τ11]
def k135_9 : VC := .seq k135_7 k135_8
def k135_10 : VC := .seq k135_5 k135_9
def k135_11 : VC := .loop k135_10
def k135_12 : VC := .block 0 k135_11
def k135_13 : VC := .seq k135_2 k135_12
def k135_14 : VC := .reg [oM 19 τ3,oM 2 τ19]
def k135_15 : VC := .seq k135_14 .ret
def k135_16 : VC := .seq k135_13 k135_15
def k135_17 : VC := .seq k135_1 k135_16
def k135_18 : VC := .seq k135_0 k135_17
def fn135 : VFn := ⟨20, k135_18, [.tmp 2]⟩
def k136_0 : VC := .reg [oD 8 (.mv (.const (.int .u64 0))),oD 9 (.mv (.const (.int .u64 0))),oD 10 (.mv (.const (.int .u64 0))),oD 11 (.mv (.const (.int .u64 0)))]
def k136_1 : VC := .reg [oM 12 τ0,oM 13 τ1,oD 14 (.bin .add τ12 τ13),oM 0 τ14]
def k136_2 : VC := .reg [oM 15 τ1,oD 16 (.callF 149 [τ15, (.const (.int .i64 13))]),oM 17 τ0,oD 18 (.bin .xor τ16 τ17),oM 1 τ18]
def k136_3 : VC := .reg [oM 19 τ0,oD 20 (.callF 149 [τ19, (.const (.int .i64 32))]),oM 0 τ20]
def k136_4 : VC := .reg [oM 21 τ2,oM 22 τ3,oD 23 (.bin .add τ21 τ22),oM 2 τ23]
def k136_5 : VC := .reg [oM 24 τ3,oD 25 (.callF 149 [τ24, (.const (.int .i64 16))]),oM 26 τ2,oD 27 (.bin .xor τ25 τ26),oM 3 τ27]
def k136_6 : VC := .reg [oM 28 τ0,oM 29 τ3,oD 30 (.bin .add τ28 τ29),oM 0 τ30]
def k136_7 : VC := .reg [oM 31 τ3,oD 32 (.callF 149 [τ31, (.const (.int .i64 21))]),oM 33 τ0,oD 34 (.bin .xor τ32 τ33),oM 3 τ34]
def k136_8 : VC := .reg [oM 35 τ2,oM 36 τ1,oD 37 (.bin .add τ35 τ36),oM 2 τ37]
def k136_9 : VC := .reg [oM 38 τ1,oD 39 (.callF 149 [τ38, (.const (.int .i64 17))]),oM 40 τ2,oD 41 (.bin .xor τ39 τ40),oM 1 τ41]
def k136_10 : VC := .reg [oM 42 τ2,oD 43 (.callF 149 [τ42, (.const (.int .i64 32))]),oM 2 τ43]
def k136_11 : VC := .reg [oM 44 τ0,oM 45 τ1,oM 46 τ2,oM 47 τ3,oM 8 τ44,oM 9 τ45,oM 10 τ46,oM 11 τ47]
def k136_12 : VC := .seq k136_11 .ret
def k136_13 : VC := .seq k136_10 k136_12
def k136_14 : VC := .seq k136_9 k136_13
def k136_15 : VC := .seq k136_8 k136_14
def k136_16 : VC := .seq k136_7 k136_15
def k136_17 : VC := .seq k136_6 k136_16
def k136_18 : VC := .seq k136_5 k136_17
def k136_19 : VC := .seq k136_4 k136_18
def k136_20 : VC := .seq k136_3 k136_19
def k136_21 : VC := .seq k136_2 k136_20
def k136_22 : VC := .seq k136_1 k136_21
def k136_23 : VC := .seq k136_0 k136_22
def fn136 : VFn := ⟨48, k136_23, [.tmp 8, .tmp 9, .tmp 10, .tmp 11]⟩
def k149_0 : VC := .reg [oD 4 (.mv (.const (.int .u64 0)))]
def k149_1 : VC := .regD [oM 5 τ0,oM 6 τ1,oD 7 (.bin .shl τ5 τ6),oM 8 τ0,oM 9 τ1,oD 10 (.bin .sub (.const (.int .i64 64)) τ9),oD 11 (.bin .shr τ8 τ10)] [] [oD 12 (.bin .or τ7 τ11),oM 4 τ12]
def k149_2 : VC := .seq k149_1 .ret
def k149_3 : VC := .seq k149_0 k149_2
def fn149 : VFn := ⟨13, k149_3, [.tmp 4]⟩
def k137_0 : VC := .reg [oD 10 (.alloc [(.int .u64 0), (.int .u64 0), (.int .u64 0), (.int .u64 0)])]
def k137_1 : VC := .reg [oD 11 (.mv (.const (.int .i64 0)))]
def k137_2 : VC := .reg [oM 12 τ11,oM 13 τ4,oD 14 (.bin .lss τ12 τ13),oM 15 τ14,oG 16 (.mv τ11) 15 true,oG 17 (.bin .lss τ16 (.const (.int .i64 64))) 15 true,oD 18 (.pick τ15 τ17 (.const (.bool false)))]
def k137_3 : VC := .cond τ18 .skip (.exit 0)
def k137_4 : VC := .seq k137_2 k137_3
def k137_5 : VC := .reg [oM 22 τ0,oM 23 τ1,oM 24 τ2,oM 25 τ3,oD 26 (.callF 136 [τ22, τ23, τ24, τ25]),oM 21 τ26,oE 27 0 τ21,oE 28 1 τ21,oE 29 2 τ21,oE 30 3 τ21,oM 0 τ27,oM 1 τ28,oM 2 τ29,oM 3 τ30]
def k137_6 : VC := .block 1 k137_5
def k137_7 : VC := .reg [oM 19 τ11,oD 20 (.bin .add τ19 (.const (.int .i64 1))),oM 11 τ20]
def k137_8 : VC := .seq k137_6 k137_7
def k137_9 : VC := .seq k137_4 k137_8
def k137_10 : VC := .loop k137_9
def k137_11 : VC := .block 0 k137_10
def k137_12 : VC := .seq k137_1 k137_11
def k137_13 : VC := .reg [oM 31 τ0,oM 32 τ1,oM 33 τ2,oM 34 τ3,oD 35 (.build [(.int .u64 0), (.int .u64 0), (.int .u64 0), (.int .u64 0)] [(0, 1, τ31), (1, 1, τ32), (2, 1, τ33), (3, 1, τ34)]),oN (.store 4 τ10 τ35)]
def k137_14 : VC := .seq k137_13 .ret
def k137_15 : VC := .seq k137_12 k137_14
def k137_16 : VC := .seq k137_0 k137_15
def fn137 : VFn := ⟨36, k137_16, [.cell 10 [(.int .u64), (.int .u64), (.int .u64), (.int .u64)] true]⟩
def k50_0 : VC := .reg [oD 2 (.alloc [(.int .u64 0), (.int .u64 0), (.int .i64 0), (.slice none 0 0)]),oD 3 (.mv (.const (.int .i64 0)))]
def k50_1 : VC := .reg [oM 16 τ0,oD 17 (.lenS τ16),oD 18 (.bin .lss τ17 (.const (.int .i64 31)))]
def k50_2 : VC := .reg [oD 19 (.build [(.int .u64 0), (.int .u64 0), (.int .i64 0), (.slice none 0 0)] []),oN (.store 4 τ2 τ19),oD 3 (.mv (.const (.int .i64 2)))]
def k50_3 : VC := .seq k50_2 .ret
def k50_4 : VC := .cond τ18 k50_3 .skip
def k50_5 : VC := .seq k50_1 k50_4
def k50_6 : VC := .reg [oM 20 τ0,oM 21 τ0,oD 22 (.lenS τ21),oD 23 (.bin .sub τ22 (.const (.int .i64 8))),oD 24 (.sliceS τ20 none (some τ23)),oM 4 τ24]
def k50_7 : VC := .reg [oM 25 τ0,oD 26 (.sliceS τ25 none (some (.const (.int .i64 4)))),oD 27 (.bin .neq τ26 (.const (.string ⟨⟨[67, 76, 75, 49]⟩⟩)))]
def k50_8 : VC := .reg [oD 28 (.build [(.int .u64 0), (.int .u64 0), (.int .i64 0), (.slice none 0 0)] []),oN (.store 4 τ2 τ28),oD 3 (.mv (.const (.int .i64 3)))]
def k50_9 : VC := .seq k50_8 .ret
def k50_10 : VC := .cond τ27 k50_9 .skip
def k50_11 : VC := .seq k50_7 k50_10
def k50_12 : VC := .regD [oM 29 τ4,oD 30 (.callF 49 [τ29]),oM 31 τ0,oM 32 τ0,oD 33 (.lenS τ32),oD 34 (.bin .sub τ33 (.const (.int .i64 8))),oD 35 (.sliceS τ31 (some τ34) none)] [] [oD 36 (.bin .neq τ30 τ35)]
def k50_13 : VC := .reg [oD 37 (.build [(.int .u64 0), (.int .u64 0), (.int .i64 0), (.slice none 0 0)] []),oN (.store 4 τ2 τ37),oD 3 (.mv (.const (.int .i64 4)))]
def k50_14 : VC := .seq k50_13 .ret
def k50_15 : VC := .cond τ36 k50_14 .skip
def k50_16 : VC := .seq k50_12 k50_15
def k50_17 : VC := .reg [oM 39 τ4,oD 40 (.callF 105 [τ39, (.const (.int .i64 4)), (.const (.int .i64 8))]),oM 38 τ40,oE 41 0 τ38,oE 42 1 τ38,oM 5 τ41,oM 6 τ42]
def k50_18 : VC := .reg [oM 44 τ4,oD 45 (.callF 105 [τ44, (.const (.int .i64 12)), (.const (.int .i64 8))]),oM 43 τ45,oE 46 0 τ43,oE 47 1 τ43,oM 7 τ46,oM 8 τ47]
def k50_19 : VC := .reg [oM 48 τ5,oM 49 τ7,oD 50 (.build [(.int .u64 0), (.int .u64 0)] [(0, 1, τ48), (1, 1, τ49)]),oM 51 τ4,oD 52 (.callF 106 [τ51, (.const (.int .i64 20)), (.const (.int .i64 2))]),oD 53 (.build [(.int .u64 0), (.int .u64 0), (.int .i64 0), (.slice none 0 0)] [(0, 2, τ50), (2, 1, τ52)]),oD 9 (.alloc [(.int .u64 0), (.int .u64 0), (.int .i64 0), (.slice none 0 0)]),oN (.store 4 τ9 τ53)]
def k50_20 : VC := .reg [oD 10 (.mv (.const (.int .i64 23))),oD 11 (.mv (.const (.bool false)))]
def k50_21 : VC := .reg [oD 12 (.mv (.const (.int .i64 0)))]
def k50_22 : VC := .reg [oM 54 τ12,oM 55 τ4,oD 56 (.idxS τ55 (.const (.int .i64 22))),oD 57 (.conv .i64 τ56),oD 58 (.bin .lss τ54 τ57)]
def k50_23 : VC := .cond τ58 .skip (.exit 0)
def k50_24 : VC := .seq k50_22 k50_23
def k50_25 : VC := .reg [oM 61 τ4,oD 62 (.lenS τ61),oM 63 τ10,oD 64 (.bin .sub τ62 τ63),oD 65 (.bin .lss τ64 (.const (.int .i64 6))),oM 66 τ65,oG 67 (.mv τ4) 66 false,oG 68 (.lenS τ67) 66 false,oG 69 (.mv τ10) 66 false,oG 70 (.bin .sub τ68 τ69) 66 false,oG 71 (.bin .sub τ70 (.const (.int .i64 6))) 66 false,oG 72 (.mv τ4) 66 false,oG 73 (.mv τ10) 66 false,oG 74 (.bin .add τ73 (.const (.int .i64 5))) 66 false,oG 75 (.idxS τ72 τ74) 66 false,oG 76 (.conv .i64 τ75) 66 false,oG 77 (.bin .lss τ71 τ76) 66 false,oD 78 (.pick τ66 (.const (.bool true)) τ77)]
def k50_26 : VC := .reg [oD 79 (.build [(.int .u64 0), (.int .u64 0), (.int .i64 0), (.slice none 0 0)] []),oN (.store 4 τ2 τ79),oD 3 (.mv (.const (.int .i64 2)))]
def k50_27 : VC := .seq k50_26 .ret
def k50_28 : VC := .cond τ78 k50_27 .skip
def k50_29 : VC := .seq k50_25 k50_28
def k50_30 : VC := .reg [oM 80 τ4,oM 81 τ10,oD 82 (.bin .add τ81 (.const (.int .i64 5))),oD 83 (.idxS τ80 τ82),oD 84 (.conv .i64 τ83),oM 13 τ84]
def k50_31 : VC := .reg [oM 86 τ4,oM 87 τ10,oD 88 (.bin .add τ87 (.const (.int .i64 6))),oM 89 τ10,oD 90 (.bin .add τ89 (.const (.int .i64 6))),oM 91 τ13,oD 92 (.bin .add τ90 τ91),oD 93 (.sliceS τ86 (some τ88) (some τ92)),oD 94 (.callF 107 [τ93]),oM 85 τ94,oE 95 0 τ85,oE 96 1 τ85,oD 14 (.alloc [(.bool false), (.int .u64 0), (.int .u64 0)]),oN (.store 3 τ14 τ95),oM 15 τ96]
def k50_32 : VC := .reg [oM 97 τ11,oM 98 τ97,oG 99 (.mv τ15) 98 false,oG 100 (.not τ99) 98 false,oD 101 (.pick τ98 (.const (.bool true)) τ100),oM 11 τ101]
def k50_33 : VC := .regD [oD 102 (.fieldA 3 τ9),oD 103 (.load1 .oth τ102),oM 104 τ4,oM 105 τ10,oD 106 (.callF 106 [τ104, τ105, (.const (.int .i64 2))]),oM 107 τ4,oM 108 τ10,oD 109 (.bin .add τ108 (.const (.int .i64 2))),oD 110 (.callF 106 [τ107, τ109, (.const (.int .i64 2))]),oM 111 τ4,oM 112 τ10,oD 113 (.bin .add τ112 (.const (.int .i64 4))),oD 114 (.idxS τ111 τ113),oD 115 (.conv .i64 τ114),oD 116 (.loadN [.bool, (.int .u64), (.int .u64)] τ14),oD 117 (.build [(.int .i64 0), (.int .i64 0), (.int .i64 0), (.bool false), (.int .u64 0), (.int .u64 0)] [(0, 1, τ106), (1, 1, τ110), (2, 1, τ115), (3, 3, τ116)]),oD 118 (.buildSl 1 6 [(.int .i64 0), (.int .i64 0), (.int .i64 0), (.bool false), (.int .u64 0), (.int .u64 0)] [(0, 6, τ117)])] [(1, 4), (1, 8), (1, 16), (4, 14), (8, 14)] [oD 119 (.app 37 6 48 τ103 τ118),oD 120 (.fieldA 3 τ9),oN (.store 1 τ120 τ119)]
def k50_34 : VC := .reg [oM 121 τ10,oD 122 (.bin .add τ121 (.const (.int .i64 6))),oM 123 τ13,oD 124 (.bin .add τ122 τ123),oM 10 τ124]
def k50_35 : VC := .seq k50_33 k50_34
def k50_36 : VC := .seq k50_32 k50_35
def k50_37 : VC := .seq k50_31 k50_36
def k50_38 : VC := .seq k50_30 k50_37
def k50_39 : VC := .seq k50_29 k50_38
def k50_40 : VC := .block 1 k50_39
def k50_41 : VC := .reg [oM 59 τ12,oD 60 (.bin .add τ59 (.const (.int .i64 1))),oM 12 τ60]
def k50_42 : VC := .seq k50_40 k50_41
def k50_43 : VC := .seq k50_24 k50_42
def k50_44 : VC := .loop k50_43
def k50_45 : VC := .block 0 k50_44
def k50_46 : VC := .seq k50_21 k50_45
def k50_47 : VC := .reg [oM 125 τ10,oM 126 τ4,oD 127 (.lenS τ126),oD 128 (.bin .neq τ125 τ127),oM 129 τ128,oG 130 (.mv τ11) 129 false,oD 131 (.pick τ129 (.const (.bool true)) τ130)]
def k50_48 : VC := .reg [oD 132 (.build [(.int .u64 0), (.int .u64 0), (.int .i64 0), (.slice none 0 0)] []),oN (.store 4 τ2 τ132),oD 3 (.mv (.const (.int .i64 3)))]
def k50_49 : VC := .seq k50_48 .ret
def k50_50 : VC := .cond τ131 k50_49 .skip
def k50_51 : VC := .seq k50_47 k50_50
def k50_52 : VC := .reg [oD 133 (.loadN [(.int .u64), (.int .u64), (.int .i64), .oth] τ9),oD 134 (.callF 57 [τ133]),oD 135 (.not τ134)]
def k50_53 : VC := .reg [oD 136 (.build [(.int .u64 0), (.int .u64 0), (.int .i64 0), (.slice none 0 0)] []),oN (.store 4 τ2 τ136),oD 3 (.mv (.const (.int .i64 1)))]
def k50_54 : VC := .seq k50_53 .ret
def k50_55 : VC := .cond τ135 k50_54 .skip
def k50_56 : VC := .seq k50_52 k50_55
def k50_57 : VC := .reg [oD 137 (.loadN [(.int .u64), (.int .u64), (.int .i64), .oth] τ9),oN (.store 4 τ2 τ137),oD 3 (.mv (.const (.int .i64 0)))]
def k50_58 : VC := .seq k50_57 .ret
def k50_59 : VC := .seq k50_56 k50_58
def k50_60 : VC := .seq k50_51 k50_59
def k50_61 : VC := .seq k50_46 k50_60
def k50_62 : VC := .seq k50_20 k50_61
def k50_63 : VC := .seq k50_19 k50_62
def k50_64 : VC := .seq k50_18 k50_63
def k50_65 : VC := .seq k50_17 k50_64
def k50_66 : VC := .seq k50_16 k50_65
def k50_67 : VC := .seq k50_11 k50_66
def k50_68 : VC := .seq k50_6 k50_67
def k50_69 : VC := .seq k50_5 k50_68
def k50_70 : VC := .seq k50_0 k50_69
def fn50 : VFn := ⟨138, k50_70, [.cell 2 [(.int .u64), (.int .u64), (.int .i64), .oth] true, .tmp 3]⟩
def k105_0 : VC := .reg [oD 6 (.mv (.const (.int .u64 0))),oD 7 (.mv (.const (.bool false)))]
def k105_1 : VC := .reg [oM 10 τ2,oD 11 (.bin .lss τ10 (.const (.int .i64 1))),oM 12 τ11,oG 13 (.mv τ2) 12 false,oG 14 (.bin .gtr τ13 (.const (.int .i64 8))) 12 false,oD 15 (.pick τ12 (.const (.bool true)) τ14),oM 16 τ15,oG 17 (.mv τ1) 16 false,oG 18 (.bin .lss τ17 (.const (.int .i64 0))) 16 false,oD 19 (.pick τ16 (.const (.bool true)) τ18),oM 20 τ19,oG 21 (.mv τ1) 20 false,oG 22 (.mv τ0) 20 false,oG 23 (.lenS τ22) 20 false,oG 24 (.bin .gtr τ21 τ23) 20 false,oD 25 (.pick τ20 (.const (.bool true)) τ24),oM 26 τ25,oG 27 (.mv τ2) 26 false,oG 28 (.mv τ0) 26 false,oG 29 (.lenS τ28) 26 false,oG 30 (.mv τ1) 26 false,oG 31 (.bin .sub τ29 τ30) 26 false,oG 32 (.bin .gtr τ27 τ31) 26 false,oD 33 (.pick τ26 (.const (.bool true)) τ32)]
def k105_2 : VC := .reg [oD 6 (.mv (.const (.int .u64 0))),oD 7 (.mv (.const (.bool false)))]
def k105_3 : VC := .seq k105_2 .ret
def k105_4 : VC := .cond τ33 k105_3 .skip
def k105_5 : VC := .seq k105_1 k105_4
def k105_6 : VC := .reg [oD 8 (.mv (.const (.int .u64 0)))]
def k105_7 : VC := .reg [oD 9 (.mv (.const (.int .i64 0)))]
def k105_8 : VC := .reg [oM 34 τ9,oM 35 τ2,oD 36 (.bin .lss τ34 τ35)]
def k105_9 : VC := .cond τ36 .skip (.exit 0)
def k105_10 : VC := .seq k105_8 k105_9
def k105_11 : VC := .reg [oM 39 τ8,oD 40 (.bin .mul τ39 (.const (.int .u64 256))),oM 41 τ0,oM 42 τ1,oM 43 τ9,oD 44 (.bin .add τ42 τ43),oD 45 (.idxS τ41 τ44),oD 46 (.conv .u64 τ45),oD 47 (.bin .add τ40 τ46),oM 8 τ47]
def k105_12 : VC := .block 1 k105_11
def k105_13 : VC := .reg [oM 37 τ9,oD 38 (.bin .add τ37 (.const (.int .i64 1))),oM 9 τ38]
def k105_14 : VC := .seq k105_12 k105_13
def k105_15 : VC := .seq k105_10 k105_14
def k105_16 : VC := .loop k105_15
def k105_17 : VC := .block 0 k105_16
def k105_18 : VC := .seq k105_7 k105_17
def k105_19 : VC := .reg [oM 48 τ8,oM 6 τ48,oD 7 (.mv (.const (.bool true)))]
def k105_20 : VC := .seq k105_19 .ret
def k105_21 : VC := .seq k105_18 k105_20
def k105_22 : VC := .seq k105_6 k105_21
def k105_23 : VC := .seq k105_5 k105_22
def k105_24 : VC := .seq k105_0 k105_23
def fn105 : VFn := ⟨49, k105_24, [.tmp 6, .tmp 7]⟩
def k106_0 : VC := .reg [oD 6 (.mv (.const (.int .i64 0)))]
def k106_1 : VC := .reg [oM 10 τ0,oM 11 τ1,oM 12 τ2,oD 13 (.callF 105 [τ10, τ11, τ12]),oM 9 τ13,oE 14 0 τ9,oE 15 1 τ9,oM 7 τ14,oM 8 τ15]
def k106_2 : VC := .reg [oM 16 τ7,oD 17 (.conv .i64 τ16),oM 6 τ17]
def k106_3 : VC := .seq k106_2 .ret
def k106_4 : VC := .seq k106_1 k106_3
def k106_5 : VC := .seq k106_0 k106_4
def fn106 : VFn := ⟨18, k106_5, [.tmp 6]⟩
def k107_0 : VC := .reg [oD 2 (.alloc [(.bool false), (.int .u64 0), (.int .u64 0)]),oD 3 (.mv (.const (.bool false)))]
def k107_1 : VC := .reg [oM 10 τ0,oD 11 (.lenS τ10),oD 12 (.bin .eql τ11 (.const (.int .i64 4)))]
def k107_2 : VC := .reg [oM 14 τ0,oD 15 (.callF 105 [τ14, (.const (.int .i64 0)), (.const (.int .i64 4))]),oM 13 τ15,oE 16 0 τ13,oE 17 1 τ13,oM 4 τ16,oM 5 τ17]
def k107_3 : VC := .reg [oM 18 τ4,oD 19 (.build [(.bool false), (.int .u64 0), (.int .u64 0)] [(2, 1, τ18)]),oN (.store 3 τ2 τ19),oD 3 (.mv (.const (.bool true)))]
def k107_4 : VC := .seq k107_3 .ret
def k107_5 : VC := .seq k107_2 k107_4
def k107_6 : VC := .cond τ12 k107_5 .skip
def k107_7 : VC := .seq k107_1 k107_6
def k107_8 : VC := .reg [oM 20 τ0,oD 21 (.lenS τ20),oD 22 (.bin .eql τ21 (.const (.int .i64 16)))]
def k107_9 : VC := .reg [oM 24 τ0,oD 25 (.callF 105 [τ24, (.const (.int .i64 0)), (.const (.int .i64 8))]),oM 23 τ25,oE 26 0 τ23,oE 27 1 τ23,oM 6 τ26,oM 7 τ27]
def k107_10 : VC := .reg [oM 29 τ0,oD 30 (.callF 105 [τ29, (.const (.int .i64 8)), (.const (.int .i64 8))]),oM 28 τ30,oE 31 0 τ28,oE 32 1 τ28,oM 8 τ31,oM 9 τ32]
def k107_11 : VC := .reg [oM 33 τ6,oM 34 τ8,oD 35 (.build [(.bool false), (.int .u64 0), (.int .u64 0)] [(0, 1, (.const (.bool true))), (1, 1, τ33), (2, 1, τ34)]),oN (.store 3 τ2 τ35),oD 3 (.mv (.const (.bool true)))]
def k107_12 : VC := .seq k107_11 .ret
def k107_13 : VC := .seq k107_10 k107_12
def k107_14 : VC := .seq k107_9 k107_13
def k107_15 : VC := .cond τ22 k107_14 .skip
def k107_16 : VC := .seq k107_8 k107_15
def k107_17 : VC := .reg [oD 36 (.build [(.bool false), (.int .u64 0), (.int .u64 0)] []),oN (.store 3 τ2 τ36),oD 3 (.mv (.const (.bool false)))]
def k107_18 : VC := .seq k107_17 .ret
def k107_19 : VC := .seq k107_16 k107_18
def k107_20 : VC := .seq k107_7 k107_19
def k107_21 : VC := .seq k107_0 k107_20
def fn107 : VFn := ⟨37, k107_21, [.cell 2 [.bool, (.int .u64), (.int .u64)] true, .tmp 3]⟩
def k52_0 : VC := .reg [oD 1 (.box τ0),oD 2 (.alloc [(.int .u64 0), (.int .u64 0), (.int .i64 0), (.slice none 0 0)])]
def k52_1 : VC := .reg [oD 3 (.fieldA 0 τ1),oD 4 (.loadN [(.int .u64), (.int .u64)] τ3),oD 5 (.fieldA 2 τ1),oD 6 (.load1 (.int .i64) τ5),oD 7 (.fieldA 3 τ1),oD 8 (.load1 .oth τ7),oD 9 (.build [(.int .u64 0), (.int .u64 0), (.int .i64 0), (.slice none 0 0)] [(0, 2, τ4), (2, 1, τ6), (3, 1, τ8)]),oN (.store 4 τ2 τ9)]
def k52_2 : VC := .seq k52_1 .ret
def k52_3 : VC := .seq k52_0 k52_2
def fn52 : VFn := ⟨10, k52_3, [.cell 2 [(.int .u64), (.int .u64), (.int .i64), .oth] true]⟩
def k51_0 : VC := .reg [oD 2 (.box τ0),oD 3 (.box τ1),oD 4 (.mv (.const (.bool false)))]
def k51_1 : VC := .reg [oD 5 (.fieldA 0 τ2),oD 6 (.loadN [(.int .u64), (.int .u64)] τ5),oD 7 (.fieldA 0 τ3),oD 8 (.loadN [(.int .u64), (.int .u64)] τ7),oD 9 (.eqAgg false [(0, (.int .u64)), (1, (.int .u64))] τ6 τ8),oM 10 τ9,oG 11 (.fieldA 2 τ2) 10 true,oG 12 (.load1 (.int .i64) τ11) 10 true,oG 13 (.fieldA 2 τ3) 10 true,oG 14 (.load1 (.int .i64) τ13) 10 true,oG 15 (.bin .eql τ12 τ14) 10 true,oD 16 (.pick τ10 τ15 (.const (.bool false))),oM 17 τ16,oG 18 (.fieldA 3 τ2) 17 true,oG 19 (.load1 .oth τ18) 17 true,oG 20 (.fieldA 3 τ3) 17 true,oG 21 (.load1 .oth τ20) 17 true,oG 22 (.callF 21 [τ19, τ21]) 17 true,oD 23 (.pick τ17 τ22 (.const (.bool false))),oM 4 τ23]
def k51_2 : VC := .seq k51_1 .ret
def k51_3 : VC := .seq k51_0 k51_2
def fn51 : VFn := ⟨24, k51_3, [.tmp 4]⟩
def k21_0 : VC := .reg [oD 4 (.mv (.const (.bool false)))]
def k21_1 : VC := .reg [oM 6 τ0,oD 7 (.lenL τ6),oM 8 τ1,oD 9 (.lenL τ8),oD 10 (.bin .neq τ7 τ9)]
def k21_2 : VC := .reg [oD 4 (.mv (.const (.bool false)))]
def k21_3 : VC := .seq k21_2 .ret
def k21_4 : VC := .cond τ10 k21_3 .skip
def k21_5 : VC := .seq k21_1 k21_4
def k21_6 : VC := .reg [oD 5 (.mv (.const (.int .i64 0)))]
def k21_7 : VC := .reg [oM 11 τ5,oM 12 τ0,oD 13 (.lenL τ12),oD 14 (.bin .lss τ11 τ13)]
def k21_8 : VC := .cond τ14 .skip (.exit 0)
def k21_9 : VC := .seq k21_7 k21_8
def k21_10 : VC := .regD [oM 17 τ0,oM 18 τ5,oD 19 (.idxAL 6 τ17 τ18),oD 20 (.loadN [(.int .i64), (.int .i64), (.int .i64), .bool, (.int .u64), (.int .u64)] τ19),oM 21 τ1,oM 22 τ5,oD 23 (.idxAL 6 τ21 τ22),oD 24 (.loadN [(.int .i64), (.int .i64), (.int .i64), .bool, (.int .u64), (.int .u64)] τ23)] [] [oD 25 (.eqAgg true [(0, (.int .i64)), (1, (.int .i64)), (2, (.int .i64)), (3, .bool), (4, (.int .u64)), (5, (.int .u64))] τ20 τ24)]
def k21_11 : VC := .reg [oD 4 (.mv (.const (.bool false)))]
def k21_12 : VC := .seq k21_11 .ret
def k21_13 : VC := .cond τ25 k21_12 .skip
def k21_14 : VC := .seq k21_10 k21_13
def k21_15 : VC := .block 1 k21_14
def k21_16 : VC := .reg [oM 15 τ5,oD 16 (.bin .add τ15 (.const (.int .i64 1))),oM 5 τ16]
def k21_17 : VC := .seq k21_15 k21_16
def k21_18 : VC := .seq k21_9 k21_17
def k21_19 : VC := .loop k21_18
def k21_20 : VC := .block 0 k21_19
def k21_21 : VC := .seq k21_6 k21_20
def k21_22 : VC := .reg [oD 4 (.mv (.const (.bool true)))]
def k21_23 : VC := .seq k21_22 .ret
def k21_24 : VC := .seq k21_21 k21_23
def k21_25 : VC := .seq k21_5 k21_24
def k21_26 : VC := .seq k21_0 k21_25
def fn21 : VFn := ⟨26, k21_26, [.tmp 4]⟩
def k59_0 : VC := .reg [oD 3 (.box τ0),oD 6 (.alloc [(.int .u64 0), (.int .u64 0), (.int .i64 0), (.slice none 0 0)])]
def k59_1 : VC := .reg [oD 10 (.loadN [(.int .u64), (.int .u64)] τ3),oM 11 τ1,oD 12 (.build [(.int .u64 0), (.int .u64 0), (.int .i64 0), (.slice none 0 0)] [(0, 2, τ10), (2, 1, τ11)]),oD 7 (.alloc [(.int .u64 0), (.int .u64 0), (.int .i64 0), (.slice none 0 0)]),oN (.store 4 τ7 τ12)]
def k59_2 : VC := .reg [oD 8 (.mv (.const (.int .i64 0)))]
def k59_3 : VC := .reg [oM 13 τ8,oM 14 τ2,oD 15 (.lenL τ14),oD 16 (.bin .lss τ13 τ15)]
def k59_4 : VC := .cond τ16 .skip (.exit 0)
def k59_5 : VC := .seq k59_3 k59_4
def k59_6 : VC := .reg [oM 19 τ2,oM 20 τ8,oD 21 (.idxAL 6 τ19 τ20),oD 22 (.loadN [(.int .i64), (.int .i64), (.int .i64), .bool, (.int .u64), (.int .u64)] τ21),oD 9 (.alloc [(.int .i64 0), (.int .i64 0), (.int .i64 0), (.bool false), (.int .u64 0), (.int .u64 0)]),oN (.store 6 τ9 τ22)]
def k59_7 : VC := .reg [oD 23 (.fieldA 2 τ9),oD 24 (.load1 (.int .i64) τ23),oD 25 (.bin .eql τ24 (.const (.int .i64 4)))]
def k59_8 : VC := .cond τ25 (.exit 1) .skip
def k59_9 : VC := .seq k59_7 k59_8
def k59_10 : VC := .reg [oD 26 (.fieldA 2 τ9),oD 27 (.load1 (.int .i64) τ26),oD 28 (.bin .neq τ27 (.const (.int .i64 3)))]
def k59_11 : VC := .reg [oD 29 (.fieldA 2 τ9),oN (.store 1 τ29 (.const (.int .i64 1)))]
def k59_12 : VC := .cond τ28 k59_11 .skip
def k59_13 : VC := .seq k59_10 k59_12
def k59_14 : VC := .reg [oD 30 (.fieldA 3 τ7),oD 31 (.load1 .oth τ30),oD 32 (.loadN [(.int .i64), (.int .i64), (.int .i64), .bool, (.int .u64), (.int .u64)] τ9),oD 33 (.buildSl 1 6 [(.int .i64 0), (.int .i64 0), (.int .i64 0), (.bool false), (.int .u64 0), (.int .u64 0)] [(0, 6, τ32)]),oD 34 (.app 37 6 48 τ31 τ33),oD 35 (.fieldA 3 τ7),oN (.store 1 τ35 τ34)]
def k59_15 : VC := .seq k59_13 k59_14
def k59_16 : VC := .seq k59_9 k59_15
def k59_17 : VC := .seq k59_6 k59_16
def k59_18 : VC := .block 1 k59_17
def k59_19 : VC := .reg [oM 17 τ8,oD 18 (.bin .add τ17 (.const (.int .i64 1))),oM 8 τ18]
def k59_20 : VC := .seq k59_18 k59_19
def k59_21 : VC := .seq k59_5 k59_20
def k59_22 : VC := .loop k59_21
def k59_23 : VC := .block 0 k59_22
def k59_24 : VC := .seq k59_2 k59_23
def k59_25 : VC := .reg [oD 36 (.loadN [(.int .u64), (.int .u64), (.int .i64), .oth] τ7),oN (.store 4 τ6 τ36)]
def k59_26 : VC := .seq k59_25 .ret
def k59_27 : VC := .seq k59_24 k59_26
def k59_28 : VC := .seq k59_1 k59_27
def k59_29 : VC := .seq k59_0 k59_28
def fn59 : VFn := ⟨37, k59_29, [.cell 6 [(.int .u64), (.int .u64), (.int .i64), .oth] true]⟩
def k60_0 : VC := .reg [oD 2 (.box τ0),oD 3 (.box τ1),oD 4 (.mv (.const (.bool false)))]
def k60_1 : VC := .reg [oD 5 (.fieldA 0 τ2),oD 6 (.loadN [(.int .u64), (.int .u64)] τ5),oD 7 (.fieldA 0 τ3),oD 8 (.loadN [(.int .u64), (.int .u64)] τ7),oD 9 (.eqAgg false [(0, (.int .u64)), (1, (.int .u64))] τ6 τ8),oM 10 τ9,oG 11 (.fieldA 2 τ2) 10 true,oG 12 (.load1 (.int .i64) τ11) 10 true,oG 13 (.fieldA 2 τ3) 10 true,oG 14 (.load1 (.int .i64) τ13) 10 true,oG 15 (.bin .eql τ12 τ14) 10 true,oD 16 (.pick τ10 τ15 (.const (.bool false))),oM 17 τ16,oG 18 (.fieldA 3 τ2) 17 true,oG 19 (.load1 .oth τ18) 17 true,oG 20 (.fieldA 3 τ3) 17 true,oG 21 (.load1 .oth τ20) 17 true,oG 22 (.callF 116 [τ19, τ21]) 17 true,oD 23 (.pick τ17 τ22 (.const (.bool false))),oM 4 τ23]
def k60_2 : VC := .seq k60_1 .ret
def k60_3 : VC := .seq k60_0 k60_2
def fn60 : VFn := ⟨24, k60_3, [.tmp 4]⟩
def k116_0 : VC := .reg [oD 4 (.mv (.const (.bool false)))]
def k116_1 : VC := .reg [oM 6 τ0,oD 7 (.lenL τ6),oM 8 τ1,oD 9 (.lenL τ8),oD 10 (.bin .neq τ7 τ9)]
def k116_2 : VC := .reg [oD 4 (.mv (.const (.bool false)))]
def k116_3 : VC := .seq k116_2 .ret
def k116_4 : VC := .cond τ10 k116_3 .skip
def k116_5 : VC := .seq k116_1 k116_4
def k116_6 : VC := .reg [oM 11 τ0,oD 12 (.lenL τ11),oD 13 (.mv (.const (.int .i64 0)))]
def k116_7 : VC := .reg [oD 14 (.bin .lss τ13 τ12)]
def k116_8 : VC := .cond τ14 .skip (.exit 0)
def k116_9 : VC := .reg [oM 15 τ13,oM 5 τ15]
def k116_10 : VC := .regD [oM 16 τ0,oM 17 τ5,oD 18 (.idxAL 6 τ16 τ17),oD 19 (.loadN [(.int .i64), (.int .i64), (.int .i64), .bool, (.int .u64), (.int .u64)] τ18),oM 20 τ1,oM 21 τ5,oD 22 (.idxAL 6 τ20 τ21),oD 23 (.loadN [(.int .i64), (.int .i64), (.int .i64), .bool, (.int .u64), (.int .u64)] τ22)] [] [oD 24 (.eqAgg true [(0, (.int .i64)), (1, (.int .i64)), (2, (.int .i64)), (3, .bool), (4, (.int .u64)), (5, (.int .u64))] τ19 τ23)]
def k116_11 : VC := .reg [oD 4 (.mv (.const (.bool false)))]
def k116_12 : VC := .seq k116_11 .ret
def k116_13 : VC := .cond τ24 k116_12 .skip
def k116_14 : VC := .seq k116_10 k116_13
def k116_15 : VC := .seq k116_9 k116_14
def k116_16 : VC := .block 1 k116_15
def k116_17 : VC := .reg [oD 25 (.bin .add τ13 (.const (.int .i64 1))),oM 13 τ25]
def k116_18 : VC := .seq k116_16 k116_17
def k116_19 : VC := .seq k116_8 k116_18
def k116_20 : VC := .seq k116_7 k116_19
def k116_21 : VC := .loop k116_20
def k116_22 : VC := .block 0 k116_21
def k116_23 : VC := .seq k116_6 k116_22
def k116_24 : VC := .reg [oD 4 (.mv (.const (.bool true)))]
def k116_25 : VC := .seq k116_24 .ret
def k116_26 : VC := .seq k116_23 k116_25
def k116_27 : VC := .seq k116_5 k116_26
def k116_28 : VC := .seq k116_0 k116_27
def fn116 : VFn := ⟨26, k116_28, [.tmp 4]⟩
def k8_0 : VC := .reg [oD 2 (.mv (.const (.bool false)))]
def k8_1 : VC := .reg [oM 8 τ0,oD 9 (.lenS τ8),oD 10 (.bin .gtr τ9 (.const (.int .i64 300)))]
def k8_2 : VC := .reg [oD 11 (.callF 47 []),oM 2 τ11]
def k8_3 : VC := .seq k8_2 .ret
def k8_4 : VC := .cond τ10 k8_3 .skip
def k8_5 : VC := .seq k8_1 k8_4
def k8_6 : VC := .reg [oM 12 τ0,oD 13 (.bin .add (.const (.string ⟨⟨[67, 76, 75, 49]⟩⟩)) τ12),oM 3 τ13]
def k8_7 : VC := .reg [oM 15 τ3,oM 16 τ3,oD 17 (.callF 49 [τ16]),oD 18 (.bin .add τ15 τ17),oD 19 (.callF 48 [τ18]),oM 14 τ19,oE 20 0 τ14,oE 21 1 τ14,oD 4 (.alloc [(.int .u64 0), (.int .u64 0), (.int .i64 0), (.slice none 0 0)]),oN (.store 4 τ4 τ20),oM 5 τ21]
def k8_8 : VC := .reg [oM 23 τ3,oM 24 τ3,oD 25 (.callF 49 [τ24]),oD 26 (.bin .add τ23 τ25),oD 27 (.callF 50 [τ26]),oM 22 τ27,oE 28 0 τ22,oE 29 1 τ22,oD 6 (.alloc [(.int .u64 0), (.int .u64 0), (.int .i64 0), (.slice none 0 0)]),oN (.store 4 τ6 τ28),oM 7 τ29]
def k8_9 : VC := .regD [oD 30 (.loadN [(.int .u64), (.int .u64), (.int .i64), .oth] τ4),oD 31 (.callF 52 [τ30]),oD 32 (.loadN [(.int .u64), (.int .u64), (.int .i64), .oth] τ6),oD 33 (.callF 51 [τ31, τ32]),oM 34 τ33,oG 35 (.mv τ5) 34 true,oG 36 (.mv τ7) 34 true] [(1, 2)] [oG 37 (.bin .eql τ35 τ36) 34 true,oD 38 (.pick τ34 τ37 (.const (.bool false))),oM 39 τ38,oG 40 (.callF 47 []) 39 true,oD 41 (.pick τ39 τ40 (.const (.bool false))),oM 2 τ41]
def k8_10 : VC := .seq k8_9 .ret
def k8_11 : VC := .seq k8_8 k8_10
def k8_12 : VC := .seq k8_7 k8_11
def k8_13 : VC := .seq k8_6 k8_12
def k8_14 : VC := .seq k8_5 k8_13
def k8_15 : VC := .seq k8_0 k8_14
def fn8 : VFn := ⟨42, k8_15, [.tmp 2]⟩
def k10_0 : VC := .reg [oD 2 (.box τ0),oD 4 (.mv (.const (.bool false)))]
def k10_1 : VC := .reg [oD 13 (.fieldA 3 τ2),oD 14 (.load1 .oth τ13),oD 15 (.lenL τ14),oD 16 (.bin .gtr τ15 (.const (.int .i64 64))),oM 17 τ16,oG 18 (.mv τ1) 17 false,oG 19 (.lenS τ18) 17 false,oG 20 (.bin .gtr τ19 (.const (.int .i64 800))) 17 false,oD 21 (.pick τ17 (.const (.bool true)) τ20)]
def k10_2 : VC := .reg [oD 22 (.callF 47 []),oM 4 τ22]
def k10_3 : VC := .seq k10_2 .ret
def k10_4 : VC := .cond τ21 k10_3 .skip
def k10_5 : VC := .seq k10_1 k10_4
def k10_6 : VC := .reg [oM 24 τ1,oD 25 (.callF 48 [τ24]),oM 23 τ25,oE 26 0 τ23,oE 27 1 τ23,oD 5 (.alloc [(.int .u64 0), (.int .u64 0), (.int .i64 0), (.slice none 0 0)]),oN (.store 4 τ5 τ26),oM 6 τ27]
def k10_7 : VC := .reg [oM 28 τ6,oD 29 (.bin .eql τ28 (.const (.int .i64 0)))]
def k10_8 : VC := .reg [oD 31 (.loadN [(.int .u64), (.int .u64), (.int .i64), .oth] τ5),oD 32 (.callF 53 [τ31]),oM 30 τ32,oE 33 0 τ30,oE 34 1 τ30,oM 7 τ33,oM 8 τ34]
def k10_9 : VC := .reg [oM 35 τ8,oD 36 (.bin .neq τ35 (.const (.int .i64 0))),oM 37 τ36,oG 38 (.mv τ7) 37 false,oG 39 (.mv τ1) 37 false,oG 40 (.bin .neq τ38 τ39) 37 false,oD 41 (.pick τ37 (.const (.bool true)) τ40)]
def k10_10 : VC := .reg [oD 4 (.mv (.const (.bool false)))]
def k10_11 : VC := .seq k10_10 .ret
def k10_12 : VC := .cond τ41 k10_11 .skip
def k10_13 : VC := .seq k10_9 k10_12
def k10_14 : VC := .seq k10_8 k10_13
def k10_15 : VC := .cond τ29 k10_14 .skip
def k10_16 : VC := .seq k10_7 k10_15
def k10_17 : VC := .seq k10_6 k10_16
def k10_18 : VC := .reg [oD 43 (.loadN [(.int .u64), (.int .u64), (.int .i64), .oth] τ2),oD 44 (.callF 54 [τ43]),oD 45 (.callF 53 [τ44]),oM 42 τ45,oE 46 0 τ42,oE 47 1 τ42,oM 9 τ46,oM 10 τ47]
def k10_19 : VC := .reg [oM 48 τ10,oD 49 (.bin .neq τ48 (.const (.int .i64 0)))]
def k10_20 : VC := .reg [oM 50 τ9,oD 51 (.bin .eql τ50 (.const (.string ⟨⟨[]⟩⟩))),oM 52 τ51,oG 53 (.callF 47 []) 52 true,oD 54 (.pick τ52 τ53 (.const (.bool false))),oM 4 τ54]
def k10_21 : VC := .seq k10_20 .ret
def k10_22 : VC := .cond τ49 k10_21 .skip
def k10_23 : VC := .seq k10_19 k10_22
def k10_24 : VC := .reg [oM 56 τ9,oD 57 (.callF 48 [τ56]),oM 55 τ57,oE 58 0 τ55,oE 59 1 τ55,oD 11 (.alloc [(.int .u64 0), (.int .u64 0), (.int .i64 0), (.slice none 0 0)]),oN (.store 4 τ11 τ58),oM 12 τ59]
def k10_25 : VC := .regD [oM 60 τ12,oD 61 (.bin .eql τ60 (.const (.int .i64 0))),oM 62 τ61,oG 63 (.loadN [(.int .u64), (.int .u64), (.int .i64), .oth] τ11) 62 true,oG 64 (.loadN [(.int .u64), (.int .u64), (.int .i64), .oth] τ2) 62 true,oG 65 (.callF 54 [τ64]) 62 true] [(3, 5)] [oG 66 (.callF 60 [τ63, τ65]) 62 true,oD 67 (.pick τ62 τ66 (.const (.bool false))),oM 68 τ67,oG 69 (.callF 47 []) 68 true,oD 70 (.pick τ68 τ69 (.const (.bool false))),oM 4 τ70]
def k10_26 : VC := .seq k10_25 .ret
def k10_27 : VC := .seq k10_24 k10_26
def k10_28 : VC := .seq k10_23 k10_27
def k10_29 : VC := .seq k10_18 k10_28
def k10_30 : VC := .seq k10_17 k10_29
def k10_31 : VC := .seq k10_5 k10_30
def k10_32 : VC := .seq k10_0 k10_31
def fn10 : VFn := ⟨71, k10_32, [.tmp 4]⟩
def k11_0 : VC := .reg [oD 2 (.box τ0),oD 4 (.mv (.const (.bool false)))]
def k11_1 : VC := .reg [oM 20 τ1,oD 21 (.lenL τ20),oD 22 (.bin .gtr τ21 (.const (.int .i64 60)))]
def k11_2 : VC := .reg [oD 23 (.callF 47 []),oM 4 τ23]
def k11_3 : VC := .seq k11_2 .ret
def k11_4 : VC := .cond τ22 k11_3 .skip
def k11_5 : VC := .seq k11_1 k11_4
def k11_6 : VC := .reg [oD 25 (.build [(.int .i64 0), (.int .i64 0)] [(0, 1, (.const (.int .i64 1))), (1, 1, (.const (.int .i64 1)))]),oD 26 (.callF 16 [τ25]),oM 24 τ26,oE 27 0 τ24,oE 28 1 τ24,oM 5 τ27,oM 6 τ28]
def k11_7 : VC := .reg [oM 29 τ6,oD 30 (.bin .neq τ29 (.const (.int .i64 0)))]
def k11_8 : VC := .reg [oD 4 (.mv (.const (.bool false)))]
def k11_9 : VC := .seq k11_8 .ret
def k11_10 : VC := .cond τ30 k11_9 .skip
def k11_11 : VC := .seq k11_7 k11_10
def k11_12 : VC := .reg [oD 7 (.mv (.const (.int .i64 0)))]
def k11_13 : VC := .reg [oD 8 (.mv (.const (.int .i64 0)))]
def k11_14 : VC := .reg [oM 31 τ8,oM 32 τ1,oD 33 (.lenL τ32),oD 34 (.bin .lss τ31 τ33)]
def k11_15 : VC := .cond τ34 .skip (.exit 0)
def k11_16 : VC := .seq k11_14 k11_15
def k11_17 : VC := .reg [oM 37 τ1,oM 38 τ8,oD 39 (.idxAL 7 τ37 τ38),oD 40 (.loadN [(.int .i64), (.int .i64), (.int .i64), .bool, (.int .u64), (.int .u64), .bool] τ39),oD 9 (.alloc [(.int .i64 0), (.int .i64 0), (.int .i64 0), (.bool false), (.int .u64 0), (.int .u64 0), (.bool false)]),oN (.store 7 τ9 τ40)]
def k11_18 : VC := .reg [oD 41 (.fieldA 0 τ9),oD 42 (.load1 (.int .i64) τ41)]
def k11_19 : VC := .reg [oD 44 (.bin .eql τ42 (.const (.int .i64 0))),oM 43 τ44]
def k11_20 : VC := .reg [oM 46 τ5,oD 47 (.fieldA 2 τ9),oD 48 (.load1 (.int .i64) τ47),oD 49 (.fieldA 3 τ9),oD 50 (.loadN [.bool, (.int .u64), (.int .u64)] τ49),oD 51 (.callF 26 [τ46, τ48, τ50]),oM 45 τ51,oE 52 0 τ45,oE 53 1 τ45,oM 10 τ52,oM 11 τ53]
def k11_21 : VC := .reg [oM 54 τ11,oD 55 (.bin .eql τ54 (.const (.int .i64 0)))]
def k11_22 : VC := .reg [oM 56 τ7,oD 57 (.bin .add τ56 (.const (.int .i64 1))),oM 7 τ57]
def k11_23 : VC := .cond τ55 k11_22 .skip
def k11_24 : VC := .seq k11_21 k11_23
def k11_25 : VC := .seq k11_20 k11_24
def k11_26 : VC := .reg [oD 59 (.bin .eql τ42 (.const (.int .i64 1))),oM 58 τ59]
def k11_27 : VC := .reg [oM 60 τ5,oD 61 (.fieldA 1 τ9),oD 62 (.load1 (.int .i64) τ61),oD 63 (.callF 27 [τ60, τ62])]
def k11_28 : VC := .reg [oD 65 (.bin .eql τ42 (.const (.int .i64 2))),oM 64 τ65]
def k11_29 : VC := .reg [oM 66 τ5,oD 67 (.fieldA 1 τ9),oD 68 (.load1 (.int .i64) τ67),oD 69 (.fieldA 6 τ9),oD 70 (.load1 .bool τ69),oD 71 (.callF 28 [τ66, τ68, τ70])]
def k11_30 : VC := .reg [oD 73 (.bin .eql τ42 (.const (.int .i64 3))),oM 72 τ73]
def k11_31 : VC := .reg [oM 74 τ5,oD 75 (.fieldA 1 τ9),oD 76 (.load1 (.int .i64) τ75),oD 77 (.fieldA 2 τ9),oD 78 (.load1 (.int .i64) τ77),oD 79 (.callF 29 [τ74, τ76, τ78])]
def k11_32 : VC := .reg [oD 81 (.bin .eql τ42 (.const (.int .i64 4))),oM 80 τ81]
def k11_33 : VC := .reg [oM 82 τ5,oD 83 (.fieldA 1 τ9),oD 84 (.load1 (.int .i64) τ83),oD 85 (.fieldA 6 τ9),oD 86 (.load1 .bool τ85),oD 87 (.callF 30 [τ82, τ84, τ86])]
def k11_34 : VC := .cond τ80 k11_33 .skip
def k11_35 : VC := .seq k11_32 k11_34
def k11_36 : VC := .cond τ72 k11_31 k11_35
def k11_37 : VC := .seq k11_30 k11_36
def k11_38 : VC := .cond τ64 k11_29 k11_37
def k11_39 : VC := .seq k11_28 k11_38
def k11_40 : VC := .cond τ58 k11_27 k11_39
def k11_41 : VC := .seq k11_26 k11_40
def k11_42 : VC := .cond τ43 k11_25 k11_41
def k11_43 : VC := .seq k11_19 k11_42
def k11_44 : VC := .block 2 k11_43
def k11_45 : VC := .seq k11_18 k11_44
def k11_46 : VC := .seq k11_17 k11_45
def k11_47 : VC := .block 1 k11_46
def k11_48 : VC := .reg [oM 35 τ8,oD 36 (.bin .add τ35 (.const (.int .i64 1))),oM 8 τ36]
def k11_49 : VC := .seq k11_47 k11_48
def k11_50 : VC := .seq k11_16 k11_49
def k11_51 : VC := .loop k11_50
def k11_52 : VC := .block 0 k11_51
def k11_53 : VC := .seq k11_13 k11_52
def k11_54 : VC := .reg [oM 88 τ5,oD 89 (.callF 22 [τ88]),oM 12 τ89]
def k11_55 : VC := .reg [oD 90 (.loadN [(.int .u64), (.int .u64)] τ2),oM 91 τ7,oM 92 τ12,oD 93 (.callF 58 [τ90, τ91, τ92]),oD 13 (.alloc [(.int .u64 0), (.int .u64 0), (.int .i64 0), (.slice none 0 0)]),oN (.store 4 τ13 τ93)]
def k11_56 : VC := .reg [oD 95 (.loadN [(.int .u64), (.int .u64), (.int .i64), .oth] τ13),oD 96 (.callF 53 [τ95]),oM 94 τ96,oE 97 0 τ94,oE 98 1 τ94,oM 14 τ97,oM 15 τ98]
def k11_57 : VC := .reg [oM 100 τ14,oD 101 (.callF 48 [τ100]),oM 99 τ101,oE 102 0 τ99,oE 103 1 τ99,oD 16 (.alloc [(.int .u64 0), (.int .u64 0), (.int .i64 0), (.slice none 0 0)]),oN (.store 4 τ16 τ102),oM 17 τ103]
def k11_58 : VC := .reg [oD 104 (.loadN [(.int .u64), (.int .u64), (.int .i64), .oth] τ13),oD 105 (.callF 56 [τ104]),oD 106 (.not τ105),oM 107 τ106,oG 108 (.mv τ15) 107 false,oG 109 (.bin .neq τ108 (.const (.int .i64 0))) 107 false,oD 110 (.pick τ107 (.const (.bool true)) τ109),oM 111 τ110,oG 112 (.mv τ17) 111 false,oG 113 (.bin .neq τ112 (.const (.int .i64 0))) 111 false,oD 114 (.pick τ111 (.const (.bool true)) τ113),oM 115 τ114,oG 116 (.loadN [(.int .u64), (.int .u64), (.int .i64), .oth] τ16) 115 false,oG 117 (.loadN [(.int .u64), (.int .u64), (.int .i64), .oth] τ13) 115 false,oG 118 (.callF 60 [τ116, τ117]) 115 false,oG 119 (.not τ118) 115 false,oD 120 (.pick τ115 (.const (.bool true)) τ119),oM 121 τ120,oG 122 (.fieldA 0 τ16) 121 false,oG 123 (.loadN [(.int .u64), (.int .u64)] τ122) 121 false,oG 124 (.loadN [(.int .u64), (.int .u64)] τ2) 121 false,oG 125 (.eqAgg true [(0, (.int .u64)), (1, (.int .u64))] τ123 τ124) 121 false,oD 126 (.pick τ121 (.const (.bool true)) τ125),oM 127 τ126,oG 128 (.fieldA 2 τ16) 127 false,oG 129 (.load1 (.int .i64) τ128) 127 false,oG 130 (.mv τ7) 127 false,oG 131 (.bin .neq τ129 τ130) 127 false,oD 132 (.pick τ127 (.const (.bool true)) τ131),oM 133 τ132,oG 134 (.fieldA 3 τ16) 133 false,oG 135 (.load1 .oth τ134) 133 false,oG 136 (.lenL τ135) 133 false,oG 137 (.mv τ12) 133 false,oG 138 (.lenL τ137) 133 false,oG 139 (.bin .neq τ136 τ138) 133 false,oD 140 (.pick τ133 (.const (.bool true)) τ139)]
def k11_59 : VC := .reg [oD 4 (.mv (.const (.bool false)))]
def k11_60 : VC := .seq k11_59 .ret
def k11_61 : VC := .cond τ140 k11_60 .skip
def k11_62 : VC := .seq k11_58 k11_61
def k11_63 : VC := .reg [oD 18 (.mv (.const (.int .i64 0)))]
def k11_64 : VC := .reg [oM 141 τ18,oM 142 τ12,oD 143 (.lenL τ142),oD 144 (.bin .lss τ141 τ143)]
def k11_65 : VC := .cond τ144 .skip (.exit 3)
def k11_66 : VC := .seq k11_64 k11_65
def k11_67 : VC := .reg [oD 147 (.fieldA 3 τ16),oD 148 (.load1 .oth τ147),oM 149 τ18,oD 150 (.idxAL 6 τ148 τ149),oD 151 (.loadN [(.int .i64), (.int .i64), (.int .i64), .bool, (.int .u64), (.int .u64)] τ150),oD 19 (.alloc [(.int .i64 0), (.int .i64 0), (.int .i64 0), (.bool false), (.int .u64 0), (.int .u64 0)]),oN (.store 6 τ19 τ151)]
def k11_68 : VC := .regD [oD 152 (.fieldA 0 τ19),oD 153 (.load1 (.int .i64) τ152),oM 154 τ12,oM 155 τ18,oD 156 (.idxAL 6 τ154 τ155),oD 157 (.fieldA 0 τ156),oD 158 (.load1 (.int .i64) τ157),oD 159 (.bin .neq τ153 τ158),oM 160 τ159,oG 161 (.fieldA 1 τ19) 160 false,oG 162 (.load1 (.int .i64) τ161) 160 false,oG 163 (.mv τ12) 160 false,oG 164 (.mv τ18) 160 false,oG 165 (.idxAL 6 τ163 τ164) 160 false,oG 166 (.fieldA 1 τ165) 160 false,oG 167 (.load1 (.int .i64) τ166) 160 false,oG 168 (.bin .neq τ162 τ167) 160 false,oD 169 (.pick τ160 (.const (.bool true)) τ168),oM 170 τ169,oG 171 (.fieldA 3 τ19) 170 false,oG 172 (.loadN [.bool, (.int .u64), (.int .u64)] τ171) 170 false,oG 173 (.mv τ12) 170 false,oG 174 (.mv τ18) 170 false,oG 175 (.idxAL 6 τ173 τ174) 170 false,oG 176 (.fieldA 3 τ175) 170 false,oG 177 (.loadN [.bool, (.int .u64), (.int .u64)] τ176) 170 false,oG 178 (.eqAgg true [(0, .bool), (1, (.int .u64)), (2, (.int .u64))] τ172 τ177) 170 false,oD 179 (.pick τ170 (.const (.bool true)) τ178),oM 180 τ179,oG 181 (.fieldA 2 τ19) 180 false,oG 182 (.load1 (.int .i64) τ181) 180 false,oG 183 (.bin .eql τ182 (.const (.int .i64 3))) 180 false,oG 184 (.mv τ12) 180 false,oG 185 (.mv τ18) 180 false,oG 186 (.idxAL 6 τ184 τ185) 180 false,oG 187 (.fieldA 2 τ186) 180 false,oG 188 (.load1 (.int .i64) τ187) 180 false,oG 189 (.bin .eql τ188 (.const (.int .i64 3))) 180 false] [] [oG 190 (.eqB true τ183 τ189) 180 false,oD 191 (.pick τ180 (.const (.bool true)) τ190),oM 192 τ191,oG 193 (.fieldA 2 τ19) 192 false,oG 194 (.load1 (.int .i64) τ193) 192 false,oG 195 (.bin .eql τ194 (.const (.int .i64 2))) 192 false,oD 196 (.pick τ192 (.const (.bool true)) τ195)]
def k11_69 : VC := .reg [oD 4 (.mv (.const (.bool false)))]
def k11_70 : VC := .seq k11_69 .ret
def k11_71 : VC := .cond τ196 k11_70 .skip
def k11_72 : VC := .seq k11_68 k11_71
def k11_73 : VC := .seq k11_67 k11_72
def k11_74 : VC := .block 4 k11_73
def k11_75 : VC := .reg [oM 145 τ18,oD 146 (.bin .add τ145 (.const (.int .i64 1))),oM 18 τ146]
def k11_76 : VC := .seq k11_74 k11_75
def k11_77 : VC := .seq k11_66 k11_76
def k11_78 : VC := .loop k11_77
def k11_79 : VC := .block 3 k11_78
def k11_80 : VC := .seq k11_63 k11_79
def k11_81 : VC := .reg [oD 197 (.callF 47 []),oM 4 τ197]
def k11_82 : VC := .seq k11_81 .ret
def k11_83 : VC := .seq k11_80 k11_82
def k11_84 : VC := .seq k11_62 k11_83
def k11_85 : VC := .seq k11_57 k11_84
def k11_86 : VC := .seq k11_56 k11_85
def k11_87 : VC := .seq k11_55 k11_86
def k11_88 : VC := .seq k11_54 k11_87
def k11_89 : VC := .seq k11_53 k11_88
def k11_90 : VC := .seq k11_12 k11_89
def k11_91 : VC := .seq k11_11 k11_90
def k11_92 : VC := .seq k11_6 k11_91
def k11_93 : VC := .seq k11_5 k11_92
def k11_94 : VC := .seq k11_0 k11_93
def fn11 : VFn := ⟨198, k11_94, [.tmp 4]⟩
def k16_0 : VC := .reg [oD 1 (.box τ0),oD 2 (.mv (.const (.pointer none))),oD 3 (.mv (.const (.int .i64 0)))]
def k16_1 : VC := .reg [oD 4 (.loadN [(.int .i64), (.int .i64)] τ1),oD 5 (.callF 69 [τ4]),oD 6 (.not τ5)]
def k16_2 : VC := .reg [oD 2 (.mv (.const (.pointer none))),oD 3 (.mv (.const (.int .i64 1)))]
def k16_3 : VC := .seq k16_2 .ret
def k16_4 : VC := .cond τ6 k16_3 .skip
def k16_5 : VC := .seq k16_1 k16_4
def k16_6 : VC := .reg [oD 7 (.loadN [(.int .i64), (.int .i64)] τ1),oD 8 (.build [(.int .i64 0), (.int .i64 0), (.slice none 0 0), (.int .i64 0), (.int .i64 0)] [(0, 2, τ7)]),oD 9 (.box τ8),oM 2 τ9,oD 3 (.mv (.const (.int .i64 0)))]
def k16_7 : VC := .seq k16_6 .ret
def k16_8 : VC := .seq k16_5 k16_7
def k16_9 : VC := .seq k16_0 k16_8
def fn16 : VFn := ⟨10, k16_9, [.tmp 2, .tmp 3]⟩
def k69_0 : VC := .reg [oD 1 (.box τ0),oD 2 (.mv (.const (.bool false)))]
def k69_1 : VC := .reg [oD 3 (.fieldA 0 τ1),oD 4 (.load1 (.int .i64) τ3),oD 5 (.callF 121 [τ4, (.const (.int .i64 1)), (.const (.int .i64 100))]),oM 6 τ5,oG 7 (.fieldA 1 τ1) 6 true,oG 8 (.load1 (.int .i64) τ7) 6 true,oG 9 (.callF 121 [τ8, (.const (.int .i64 1)), (.const (.int .i64 100))]) 6 true,oD 10 (.pick τ6 τ9 (.const (.bool false))),oM 2 τ10]
def k69_2 : VC := .seq k69_1 .ret
def k69_3 : VC := .seq k69_0 k69_2
def fn69 : VFn := ⟨11, k69_3, [.tmp 2]⟩
def k121_0 : VC := .reg [oD 6 (.mv (.const (.bool false)))]
def k121_1 : VC := .reg [oM 7 τ1,oM 8 τ0,oD 9 (.bin .leq τ7 τ8),oM 10 τ9,oG 11 (.mv τ0) 10 true,oG 12 (.mv τ2) 10 true,oG 13 (.bin .leq τ11 τ12) 10 true,oD 14 (.pick τ10 τ13 (.const (.bool false))),oM 6 τ14]
def k121_2 : VC := .seq k121_1 .ret
def k121_3 : VC := .seq k121_0 k121_2
def fn121 : VFn := ⟨15, k121_3, [.tmp 6]⟩
def k26_0 : VC := .reg [oD 5 (.box τ2),oD 6 (.mv (.const (.int .i64 0))),oD 7 (.mv (.const (.int .i64 0)))]
def k26_1 : VC := .reg [oM 9 τ0,oD 10 (.callF 70 [τ9]),oD 11 (.not τ10),oM 12 τ11,oG 13 (.mv τ1) 12 false,oG 14 (.callF 81 [τ13]) 12 false,oG 15 (.not τ14) 12 false,oD 16 (.pick τ12 (.const (.bool true)) τ15),oM 17 τ16,oG 18 (.loadN [.bool, (.int .u64), (.int .u64)] τ5) 17 false,oG 19 (.callF 82 [τ18]) 17 false,oG 20 (.not τ19) 17 false,oD 21 (.pick τ17 (.const (.bool true)) τ20),oM 8 τ21]
def k26_2 : VC := .reg [oD 6 (.mv (.const (.int .i64 0))),oD 7 (.mv (.const (.int .i64 1)))]
def k26_3 : VC := .seq k26_2 .ret
def k26_4 : VC := .reg [oM 23 τ0,oD 24 (.nilCheck τ23),oD 25 (.fieldA 2 τ24),oD 26 (.load1 .oth τ25),oD 27 (.lenL τ26),oD 28 (.bin .eql τ27 (.const (.int .i64 64))),oM 29 τ28,oG 30 (.mv τ0) 29 false,oG 31 (.nilCheck τ30) 29 false,oG 32 (.fieldA 3 τ31) 29 false,oG 33 (.load1 (.int .i64) τ32) 29 false,oG 34 (.bin .eql τ33 (.const (.int .i64 65535))) 29 false,oD 35 (.pick τ29 (.const (.bool true)) τ34),oM 22 τ35]
def k26_5 : VC := .reg [oD 6 (.mv (.const (.int .i64 0))),oD 7 (.mv (.const (.int .i64 9)))]
def k26_6 : VC := .seq k26_5 .ret
def k26_7 : VC := .cond τ22 k26_6 .skip
def k26_8 : VC := .seq k26_4 k26_7
def k26_9 : VC := .cond τ8 k26_3 k26_8
def k26_10 : VC := .seq k26_1 k26_9
def k26_11 : VC := .block 0 k26_10
def k26_12 : VC := .reg [oM 36 τ0,oD 37 (.nilCheck τ36),oD 38 (.fieldA 3 τ37),oD 39 (.load1 (.int .i64) τ38),oD 40 (.bin .add τ39 (.const (.int .i64 1))),oD 41 (.nilCheck τ36),oD 42 (.fieldA 3 τ41),oN (.store 1 τ42 τ40)]
def k26_13 : VC := .reg [oM 43 τ0,oD 44 (.nilCheck τ43),oD 45 (.fieldA 4 τ44),oD 46 (.load1 (.int .i64) τ45),oD 47 (.bin .add τ46 (.const (.int .i64 1))),oD 48 (.nilCheck τ43),oD 49 (.fieldA 4 τ48),oN (.store 1 τ49 τ47)]
def k26_14 : VC := .regD [oM 50 τ0,oM 51 τ0,oD 52 (.nilCheck τ51),oD 53 (.fieldA 2 τ52),oD 54 (.load1 .oth τ53),oM 55 τ0,oD 56 (.nilCheck τ55),oD 57 (.fieldA 3 τ56),oD 58 (.load1 (.int .i64) τ57),oM 59 τ1,oD 60 (.loadN [.bool, (.int .u64), (.int .u64)] τ5),oD 61 (.build [(.int .i64 0), (.int .i64 0), (.int .i64 0), (.bool false), (.int .u64 0), (.int .u64 0)] [(0, 1, τ58), (1, 1, τ59), (3, 3, τ60)]),oD 62 (.build [(.bool false), (.int .i64 0)] [(0, 1, (.const (.bool true)))]),oD 63 (.build [(.int .i64 0), (.int .i64 0), (.int .i64 0), (.bool false), (.int .u64 0), (.int .u64 0), (.bool false), (.bool false), (.int .i64 0)] [(0, 6, τ61), (7, 2, τ62)]),oD 64 (.buildSl 1 9 [(.int .i64 0), (.int .i64 0), (.int .i64 0), (.bool false), (.int .u64 0), (.int .u64 0), (.bool false), (.bool false), (.int .i64 0)] [(0, 9, τ63)]),oD 65 (.app 130 9 72 τ54 τ64)] [(4, 14)] [oD 66 (.nilCheck τ50),oD 67 (.fieldA 2 τ66),oN (.store 1 τ67 τ65)]
def k26_15 : VC := .reg [oM 68 τ0,oD 69 (.nilCheck τ68),oD 70 (.fieldA 3 τ69),oD 71 (.load1 (.int .i64) τ70),oM 6 τ71,oD 7 (.mv (.const (.int .i64 0)))]
def k26_16 : VC := .seq k26_15 .ret
def k26_17 : VC := .seq k26_14 k26_16
def k26_18 : VC := .seq k26_13 k26_17
def k26_19 : VC := .seq k26_12 k26_18
def k26_20 : VC := .seq k26_11 k26_19
def k26_21 : VC := .seq k26_0 k26_20
def fn26 : VFn := ⟨72, k26_21, [.tmp 6, .tmp 7]⟩
def k70_0 : VC := .reg [oD 2 (.mv (.const (.bool false)))]
def k70_1 : VC := .reg [oM 3 τ0,oD 4 (.isNil 0 true τ3),oM 5 τ4,oG 6 (.mv τ0) 5 true,oG 7 (.nilCheck τ6) 5 true,oG 8 (.fieldA 0 τ7) 5 true,oG 9 (.loadN [(.int .i64), (.int .i64)] τ8) 5 true,oG 10 (.callF 69 [τ9]) 5 true,oD 11 (.pick τ5 τ10 (.const (.bool false))),oM 2 τ11]
def k70_2 : VC := .seq k70_1 .ret
def k70_3 : VC := .seq k70_0 k70_2
def fn70 : VFn := ⟨12, k70_3, [.tmp 2]⟩
def k81_0 : VC := .reg [oD 2 (.mv (.const (.bool false)))]
def k81_1 : VC := .reg [oM 3 τ0,oD 4 (.bin .leq (.const (.int .i64 0)) τ3),oM 5 τ4,oG 6 (.mv τ0) 5 true,oG 7 (.bin .leq τ6 (.const (.int .i64 1000))) 5 true,oD 8 (.pick τ5 τ7 (.const (.bool false))),oM 2 τ8]
def k81_2 : VC := .seq k81_1 .ret
def k81_3 : VC := .seq k81_0 k81_2
def fn81 : VFn := ⟨9, k81_3, [.tmp 2]⟩
def k27_0 : VC := .reg [oD 3 (.box τ1),oD 4 (.mv (.const (.int .i64 0)))]
def k27_1 : VC := .reg [oM 6 τ0,oD 7 (.load1 (.int .i64) τ3),oD 8 (.callF 83 [τ6, τ7, (.func 84)]),oM 5 τ8]
def k27_2 : VC := .reg [oM 9 τ5,oD 10 (.bin .eql τ9 (.const (.int .i64 0)))]
def k27_3 : VC := .reg [oM 11 τ0,oM 12 τ0,oD 13 (.nilCheck τ12),oD 14 (.fieldA 2 τ13),oD 15 (.load1 .oth τ14),oD 16 (.mkFunc 86 [] [τ3]),oD 17 (.callF 85 [τ15, τ16]),oD 18 (.nilCheck τ11),oD 19 (.fieldA 2 τ18),oN (.store 1 τ19 τ17)]
def k27_4 : VC := .cond τ10 k27_3 .skip
def k27_5 : VC := .seq k27_2 k27_4
def k27_6 : VC := .reg [oM 20 τ5,oM 4 τ20]
def k27_7 : VC := .seq k27_6 .ret
def k27_8 : VC := .seq k27_5 k27_7
def k27_9 : VC := .seq k27_1 k27_8
def k27_10 : VC := .seq k27_0 k27_9
def fn27 : VFn := ⟨21, k27_10, [.tmp 4]⟩
def k83_0 : VC := .reg [oD 6 (.mv (.const (.int .i64 0)))]
def k83_1 : VC := .reg [oM 10 τ0,oD 11 (.callF 70 [τ10]),oD 12 (.not τ11)]
def k83_2 : VC := .reg [oD 6 (.mv (.const (.int .i64 1)))]
def k83_3 : VC := .seq k83_2 .ret
def k83_4 : VC := .cond τ12 k83_3 .skip
def k83_5 : VC := .seq k83_1 k83_4
def k83_6 : VC := .reg [oM 14 τ0,oM 15 τ1,oD 16 (.callF 71 [τ14, τ15]),oM 13 τ16,oE 17 0 τ13,oE 18 1 τ13,oM 7 τ17,oM 8 τ18]
def k83_7 : VC := .reg [oM 19 τ8,oD 20 (.not τ19)]
def k83_8 : VC := .reg [oD 6 (.mv (.const (.int .i64 13)))]
def k83_9 : VC := .seq k83_8 .ret
def k83_10 : VC := .cond τ20 k83_9 .skip
def k83_11 : VC := .seq k83_7 k83_10
def k83_12 : VC := .reg [oM 21 τ2,oM 22 τ0,oD 23 (.nilCheck τ22),oD 24 (.fieldA 2 τ23),oD 25 (.load1 .oth τ24),oM 26 τ7,oD 27 (.idxAL 9 τ25 τ26),oD 28 (.callV τ21 [τ27]),oM 9 τ28]
def k83_13 : VC := .reg [oM 29 τ9,oD 30 (.bin .eql τ29 (.const (.int .i64 0)))]
def k83_14 : VC := .reg [oM 31 τ0,oD 32 (.nilCheck τ31),oD 33 (.fieldA 4 τ32),oD 34 (.load1 (.int .i64) τ33),oD 35 (.bin .add τ34 (.const (.int .i64 1))),oD 36 (.nilCheck τ31),oD 37 (.fieldA 4 τ36),oN (.store 1 τ37 τ35)]
def k83_15 : VC := .cond τ30 k83_14 .skip
def k83_16 : VC := .seq k83_13 k83_15
def k83_17 : VC := .reg [oM 38 τ9,oM 6 τ38]
def k83_18 : VC := .seq k83_17 .ret
def k83_19 : VC := .seq k83_16 k83_18
def k83_20 : VC := .seq k83_12 k83_19
def k83_21 : VC := .seq k83_11 k83_20
def k83_22 : VC := .seq k83_6 k83_21
def k83_23 : VC := .seq k83_5 k83_22
def k83_24 : VC := .seq k83_0 k83_23
def fn83 : VFn := ⟨39, k83_24, [.tmp 6]⟩
def k71_0 : VC := .reg [oD 4 (.mv (.const (.int .i64 0))),oD 5 (.mv (.const (.bool false)))]
def k71_1 : VC := .reg [oM 6 τ0,oD 7 (.nilCheck τ6),oD 8 (.fieldA 2 τ7),oD 9 (.load1 .oth τ8),oM 10 τ1,oD 11 (.callF 122 [τ9, τ10, (.func 123)]),oE 12 0 τ11,oE 13 1 τ11,oM 4 τ12,oM 5 τ13]
def k71_2 : VC := .seq k71_1 .ret
def k71_3 : VC := .seq k71_0 k71_2
def fn71 : VFn := ⟨14, k71_3, [.tmp 4, .tmp 5]⟩
def k122_0 : VC := .reg [oD 6 (.mv (.const (.int .i64 0))),oD 7 (.mv (.const (.bool false)))]
def k122_1 : VC := .reg [oM 12 τ0,oD 13 (.lenL τ12),oM 8 τ13]
def k122_2 : VC := .reg [oM 14 τ8,oD 9 (.mv (.const (.int .i64 0))),oM 10 τ14]
def k122_3 : VC := .reg [oM 15 τ9,oM 16 τ10,oD 17 (.bin .lss τ15 τ16)]
def k122_4 : VC := .cond τ17 .skip (.exit 0)
def k122_5 : VC := .seq k122_3 k122_4
def k122_6 : VC := .reg [oM 18 τ9,oM 19 τ10,oD 20 (.bin .add τ18 τ19),oD 21 (.conv .u64 τ20),oD 22 (.bin .shr τ21 (.const (.int .u64 1))),oD 23 (.conv .i64 τ22),oM 11 τ23]
def k122_7 : VC := .reg [oM 24 τ2,oM 25 τ0,oM 26 τ11,oD 27 (.idxAL 9 τ25 τ26),oD 28 (.loadN [(.int .i64), (.int .i64), (.int .i64), .bool, (.int .u64), (.int .u64), .bool, .bool, (.int .i64)] τ27),oM 29 τ1,oD 30 (.callV τ24 [τ28, τ29]),oD 31 (.bin .lss τ30 (.const (.int .i64 0)))]
def k122_8 : VC := .reg [oM 32 τ11,oD 33 (.bin .add τ32 (.const (.int .i64 1))),oM 9 τ33]
def k122_9 : VC := .reg [oM 34 τ11,oM 10 τ34]
def k122_10 : VC := .cond τ31 k122_8 k122_9
def k122_11 : VC := .seq k122_7 k122_10
def k122_12 : VC := .seq k122_6 k122_11
def k122_13 : VC := .block 1 k122_12
def k122_14 : VC := .seq k122_5 k122_13
def k122_15 : VC := .loop k122_14
def k122_16 : VC := .block 0 k122_15
def k122_17 : VC := .reg [oM 35 τ9,oM 36 τ9,oM 37 τ8,oD 38 (.bin .lss τ36 τ37),oM 39 τ38,oG 40 (.mv τ2) 39 true,oG 41 (.mv τ0) 39 true,oG 42 (.mv τ9) 39 true,oG 43 (.idxAL 9 τ41 τ42) 39 true,oG 44 (.loadN [(.int .i64), (.int .i64), (.int .i64), .bool, (.int .u64), (.int .u64), .bool, .bool, (.int .i64)] τ43) 39 true,oG 45 (.mv τ1) 39 true,oG 46 (.callV τ40 [τ44, τ45]) 39 true,oG 47 (.bin .eql τ46 (.const (.int .i64 0))) 39 true,oD 48 (.pick τ39 τ47 (.const (.bool false))),oM 6 τ35,oM 7 τ48]
def k122_18 : VC := .seq k122_17 .ret
def k122_19 : VC := .seq k122_16 k122_18
def k122_20 : VC := .seq k122_2 k122_19
def k122_21 : VC := .seq k122_1 k122_20
def k122_22 : VC := .seq k122_0 k122_21
def fn122 : VFn := ⟨49, k122_22, [.tmp 6, .tmp 7]⟩
def k123_0 : VC := .reg [oD 2 (.box τ0),oD 4 (.mv (.const (.int .i64 0)))]
def k123_1 : VC := .reg [oD 5 (.fieldA 0 τ2),oD 6 (.fieldA 0 τ5),oD 7 (.load1 (.int .i64) τ6),oM 8 τ1,oD 9 (.minmax false [τ8, (.const (.int .i64 65536))]),oD 10 (.minmax true [(.const (.int .i64 0)), τ9]),oD 11 (.bin .sub τ7 τ10),oM 4 τ11]
def k123_2 : VC := .seq k123_1 .ret
def k123_3 : VC := .seq k123_0 k123_2
def fn123 : VFn := ⟨12, k123_3, [.tmp 4]⟩
def k84_0 : VC := .reg [oD 2 (.mv (.const (.int .i64 0)))]
def k84_1 : VC := .reg [oD 2 (.mv (.const (.int .i64 0)))]
def k84_2 : VC := .seq k84_1 .ret
def k84_3 : VC := .seq k84_0 k84_2
def fn84 : VFn := ⟨3, k84_3, [.tmp 2]⟩
def k86_0 : VC := .reg [oD 2 (.box τ0),oD 3 (.mv (.const (.bool false)))]
def k86_1 : VC := .reg [oD 4 (.fieldA 0 τ2),oD 5 (.fieldA 0 τ4),oD 6 (.load1 (.int .i64) τ5),oD 7 (.load1 (.int .i64) τ1),oD 8 (.bin .eql τ6 τ7),oM 3 τ8]
def k86_2 : VC := .seq k86_1 .ret
def k86_3 : VC := .seq k86_0 k86_2
def fn86 : VFn := ⟨9, k86_3, [.tmp 3]⟩
def k85_0 : VC := .reg [oD 4 (.mv (.const (.slice none 0 0)))]
def k85_1 : VC := .reg [oM 8 τ0,oM 9 τ1,oD 10 (.callF 127 [τ8, τ9]),oM 5 τ10]
def k85_2 : VC := .reg [oM 11 τ5,oD 12 (.bin .eql τ11 (.const (.int .i64 (-1))))]
def k85_3 : VC := .reg [oM 13 τ0,oM 4 τ13]
def k85_4 : VC := .seq k85_3 .ret
def k85_5 : VC := .cond τ12 k85_4 .skip
def k85_6 : VC := .seq k85_2 k85_5
def k85_7 : VC := .reg [oM 14 τ5,oD 15 (.bin .add τ14 (.const (.int .i64 1))),oM 6 τ15]
def k85_8 : VC := .reg [oM 16 τ6,oM 17 τ0,oD 18 (.lenL τ17),oD 19 (.bin .lss τ16 τ18)]
def k85_9 : VC := .cond τ19 .skip (.exit 0)
def k85_10 : VC := .seq k85_8 k85_9
def k85_11 : VC := .reg [oM 22 τ0,oM 23 τ6,oD 24 (.idxAL 9 τ22 τ23),oD 25 (.loadN [(.int .i64), (.int .i64), (.int .i64), .bool, (.int .u64), (.int .u64), .bool, .bool, (.int .i64)] τ24),oD 7 (.alloc [(.int .i64 0), (.int .i64 0), (.int .i64 0), (.bool false), (.int .u64 0), (.int .u64 0), (.bool false), (.bool false), (.int .i64 0)]),oN (.store 9 τ7 τ25)]
def k85_12 : VC := .reg [oM 26 τ1,oD 27 (.loadN [(.int .i64), (.int .i64), (.int .i64), .bool, (.int .u64), (.int .u64), .bool, .bool, (.int .i64)] τ7),oD 28 (.callV τ26 [τ27]),oD 29 (.not τ28)]
def k85_13 : VC := .reg [oM 30 τ0,oM 31 τ5,oD 32 (.loadN [(.int .i64), (.int .i64), (.int .i64), .bool, (.int .u64), (.int .u64), .bool, .bool, (.int .i64)] τ7),oD 33 (.idxAL 9 τ30 τ31),oN (.store 9 τ33 τ32)]
def k85_14 : VC := .reg [oM 34 τ5,oD 35 (.bin .add τ34 (.const (.int .i64 1))),oM 5 τ35]
def k85_15 : VC := .seq k85_13 k85_14
def k85_16 : VC := .cond τ29 k85_15 .skip
def k85_17 : VC := .seq k85_12 k85_16
def k85_18 : VC := .seq k85_11 k85_17
def k85_19 : VC := .block 1 k85_18
def k85_20 : VC := .reg [oM 20 τ6,oD 21 (.bin .add τ20 (.const (.int .i64 1))),oM 6 τ21]
def k85_21 : VC := .seq k85_19 k85_20
def k85_22 : VC := .seq k85_10 k85_21
def k85_23 : VC := .loop k85_22
def k85_24 : VC := .block 0 k85_23
def k85_25 : VC := .seq k85_7 k85_24
def k85_26 : VC := .reg [oM 36 τ0,oM 37 τ5,oD 38 (.sliceL 9 τ36 (some τ37) none),oN (.clr 9 τ38)]
def k85_27 : VC := .reg [oM 39 τ0,oM 40 τ5,oD 41 (.sliceL 9 τ39 none (some τ40)),oM 4 τ41]
def k85_28 : VC := .seq k85_27 .ret
def k85_29 : VC := .seq k85_26 k85_28
def k85_30 : VC := .seq k85_25 k85_29
def k85_31 : VC := .seq k85_6 k85_30
def k85_32 : VC := .seq k85_1 k85_31
def k85_33 : VC := .seq k85_0 k85_32
def fn85 : VFn := ⟨42, k85_33, [.tmp 4]⟩
def k127_0 : VC := .reg [oD 4 (.mv (.const (.int .i64 0)))]
def k127_1 : VC := .reg [oM 6 τ0,oD 7 (.lenL τ6),oD 8 (.mv (.const (.int .i64 0)))]
def k127_2 : VC := .reg [oD 9 (.bin .lss τ8 τ7)]
def k127_3 : VC := .cond τ9 .skip (.exit 0)
def k127_4 : VC := .reg [oM 10 τ8,oM 5 τ10]
def k127_5 : VC := .reg [oM 11 τ1,oM 12 τ0,oM 13 τ5,oD 14 (.idxAL 9 τ12 τ13),oD 15 (.loadN [(.int .i64), (.int .i64), (.int .i64), .bool, (.int .u64), (.int .u64), .bool, .bool, (.int .i64)] τ14),oD 16 (.callV τ11 [τ15])]
def k127_6 : VC := .reg [oM 17 τ5,oM 4 τ17]
def k127_7 : VC := .seq k127_6 .ret
def k127_8 : VC := .cond τ16 k127_7 .skip
def k127_9 : VC := .seq k127_5 k127_8
def k127_10 : VC := .seq k127_4 k127_9
def k127_11 : VC := .block 1 k127_10
def k127_12 : VC := .reg [oD 18 (.bin .add τ8 (.const (.int .i64 1))),oM 8 τ18]
def k127_13 : VC := .seq k127_11 k127_12
def k127_14 : VC := .seq k127_3 k127_13
def k127_15 : VC := .seq k127_2 k127_14
def k127_16 : VC := .loop k127_15
def k127_17 : VC := .block 0 k127_16
def k127_18 : VC := .seq k127_1 k127_17
def k127_19 : VC := .reg [oD 4 (.mv (.const (.int .i64 (-1))))]
def k127_20 : VC := .seq k127_19 .ret
def k127_21 : VC := .seq k127_18 k127_20
def k127_22 : VC := .seq k127_0 k127_21
def fn127 : VFn := ⟨19, k127_22, [.tmp 4]⟩
def k28_0 : VC := .reg [oD 5 (.box τ2),oD 6 (.mv (.const (.int .i64 0)))]
def k28_1 : VC := .reg [oM 7 τ0,oM 8 τ1,oD 9 (.mkFunc 87 [] [τ5]),oD 10 (.callF 83 [τ7, τ8, τ9]),oM 6 τ10]
def k28_2 : VC := .seq k28_1 .ret
def k28_3 : VC := .seq k28_0 k28_2
def fn28 : VFn := ⟨11, k28_3, [.tmp 6]⟩
def k87_0 : VC := .reg [oD 3 (.mv (.const (.int .i64 0)))]
def k87_1 : VC := .regD [oM 4 τ0,oD 5 (.nilCheck τ4),oD 6 (.fieldA 6 τ5),oD 7 (.load1 .bool τ6),oD 8 (.load1 .bool τ1)] [] [oD 9 (.eqB false τ7 τ8)]
def k87_2 : VC := .reg [oD 3 (.mv (.const (.int .i64 11)))]
def k87_3 : VC := .seq k87_2 .ret
def k87_4 : VC := .cond τ9 k87_3 .skip
def k87_5 : VC := .seq k87_1 k87_4
def k87_6 : VC := .reg [oM 10 τ0,oD 11 (.load1 .bool τ1),oD 12 (.nilCheck τ10),oD 13 (.fieldA 6 τ12),oN (.store 1 τ13 τ11)]
def k87_7 : VC := .reg [oD 3 (.mv (.const (.int .i64 0)))]
def k87_8 : VC := .seq k87_7 .ret
def k87_9 : VC := .seq k87_6 k87_8
def k87_10 : VC := .seq k87_5 k87_9
def k87_11 : VC := .seq k87_0 k87_10
def fn87 : VFn := ⟨14, k87_11, [.tmp 3]⟩
def k29_0 : VC := .reg [oD 5 (.box τ2),oD 6 (.mv (.const (.int .i64 0)))]
def k29_1 : VC := .reg [oM 7 τ0,oM 8 τ1,oD 9 (.mkFunc 88 [] [τ5]),oD 10 (.callF 83 [τ7, τ8, τ9]),oM 6 τ10]
def k29_2 : VC := .seq k29_1 .ret
def k29_3 : VC := .seq k29_0 k29_2
def fn29 : VFn := ⟨11, k29_3, [.tmp 6]⟩
def k88_0 : VC := .reg [oD 3 (.mv (.const (.int .i64 0)))]
def k88_1 : VC := .reg [oD 4 (.load1 (.int .i64) τ1),oD 5 (.callF 81 [τ4]),oD 6 (.not τ5)]
def k88_2 : VC := .reg [oD 3 (.mv (.const (.int .i64 1)))]
def k88_3 : VC := .seq k88_2 .ret
def k88_4 : VC := .cond τ6 k88_3 .skip
def k88_5 : VC := .seq k88_1 k88_4
def k88_6 : VC := .reg [oM 7 τ0,oD 8 (.load1 (.int .i64) τ1),oD 9 (.nilCheck τ7),oD 10 (.fieldA 0 τ9),oD 11 (.fieldA 1 τ10),oN (.store 1 τ11 τ8)]
def k88_7 : VC := .reg [oD 3 (.mv (.const (.int .i64 0)))]
def k88_8 : VC := .seq k88_7 .ret
def k88_9 : VC := .seq k88_6 k88_8
def k88_10 : VC := .seq k88_5 k88_9
def k88_11 : VC := .seq k88_0 k88_10
def fn88 : VFn := ⟨12, k88_11, [.tmp 3]⟩
def k30_0 : VC := .reg [oD 3 (.box τ0),oD 5 (.box τ2),oD 6 (.mv (.const (.bool false))),oD 7 (.mv (.const (.int .i64 0)))]
def k30_1 : VC := .reg [oD 8 (.alloc [(.bool false)]),oN (.store 1 τ8 (.const (.bool false)))]
def k30_2 : VC := .reg [oD 10 (.load1 .oth τ3),oM 11 τ1,oD 12 (.mkFunc 89 [] [τ3, τ5, τ8]),oD 13 (.callF 83 [τ10, τ11, τ12]),oM 9 τ13]
def k30_3 : VC := .reg [oM 14 τ9,oD 15 (.bin .eql τ14 (.const (.int .i64 11)))]
def k30_4 : VC := .reg [oD 9 (.mv (.const (.int .i64 0)))]
def k30_5 : VC := .cond τ15 k30_4 .skip
def k30_6 : VC := .seq k30_3 k30_5
def k30_7 : VC := .reg [oD 16 (.load1 .bool τ8),oM 17 τ9,oM 6 τ16,oM 7 τ17]
def k30_8 : VC := .seq k30_7 .ret
def k30_9 : VC := .seq k30_6 k30_8
def k30_10 : VC := .seq k30_2 k30_9
def k30_11 : VC := .seq k30_1 k30_10
def k30_12 : VC := .seq k30_0 k30_11
def fn30 : VFn := ⟨18, k30_12, [.tmp 6, .tmp 7]⟩
def k89_0 : VC := .reg [oD 5 (.mv (.const (.int .i64 0)))]
def k89_1 : VC := .regD [oM 7 τ0,oD 8 (.load1 .oth τ1),oD 9 (.nilCheck τ8),oD 10 (.fieldA 0 τ9),oD 11 (.loadN [(.int .i64), (.int .i64)] τ10),oM 12 τ0,oD 13 (.nilCheck τ12),oD 14 (.fieldA 7 τ13),oD 15 (.loadN [.bool, (.int .i64)] τ14),oD 16 (.load1 .bool τ2),oD 17 (.callF 90 [τ11, τ15, τ16]),oM 6 τ17,oE 18 0 τ6,oE 19 1 τ6,oD 20 (.nilCheck τ7),oD 21 (.fieldA 7 τ20),oN (.store 2 τ21 τ18)] [] [oN (.store 1 τ3 τ19)]
def k89_2 : VC := .reg [oD 22 (.load1 .bool τ3),oD 23 (.not τ22)]
def k89_3 : VC := .reg [oD 5 (.mv (.const (.int .i64 11)))]
def k89_4 : VC := .seq k89_3 .ret
def k89_5 : VC := .cond τ23 k89_4 .skip
def k89_6 : VC := .seq k89_2 k89_5
def k89_7 : VC := .seq k89_1 k89_6
def k89_8 : VC := .reg [oD 5 (.mv (.const (.int .i64 0)))]
def k89_9 : VC := .seq k89_8 .ret
def k89_10 : VC := .seq k89_7 k89_9
def k89_11 : VC := .seq k89_0 k89_10
def fn89 : VFn := ⟨24, k89_11, [.tmp 5]⟩
def k90_0 : VC := .reg [oD 3 (.box τ0),oD 4 (.box τ1),oD 6 (.alloc [(.bool false), (.int .i64 0)]),oD 7 (.mv (.const (.bool false)))]
def k90_1 : VC := .reg [oD 8 (.loadN [(.int .i64), (.int .i64)] τ3),oD 9 (.loadN [.bool, (.int .i64)] τ4),oD 10 (.callF 128 [τ8, τ9])]
def k90_2 : VC := .reg [oD 12 (.bin .eql τ10 (.const (.int .i64 0))),oM 11 τ12]
def k90_3 : VC := .reg [oD 13 (.loadN [.bool, (.int .i64)] τ4),oN (.store 2 τ6 τ13),oD 7 (.mv (.const (.bool false)))]
def k90_4 : VC := .seq k90_3 .ret
def k90_5 : VC := .reg [oD 15 (.bin .eql τ10 (.const (.int .i64 1))),oM 14 τ15]
def k90_6 : VC := .regD [oM 16 τ2,oD 17 (.build [(.bool false), (.int .i64 0)] [(0, 1, τ16)]),oM 18 τ2,oD 19 (.fieldA 0 τ4),oD 20 (.load1 .bool τ19),oD 21 (.eqB true τ18 τ20),oN (.store 2 τ6 τ17)] [(4, 6)] [oM 7 τ21]
def k90_7 : VC := .seq k90_6 .ret
def k90_8 : VC := .cond τ14 k90_7 .skip
def k90_9 : VC := .seq k90_5 k90_8
def k90_10 : VC := .cond τ11 k90_4 k90_9
def k90_11 : VC := .seq k90_2 k90_10
def k90_12 : VC := .block 0 k90_11
def k90_13 : VC := .seq k90_1 k90_12
def k90_14 : VC := .reg [oM 22 τ2,oD 23 (.fieldA 0 τ4),oD 24 (.load1 .bool τ23),oD 25 (.eqB false τ22 τ24)]
def k90_15 : VC := .reg [oD 26 (.fieldA 1 τ4),oN (.store 1 τ26 (.const (.int .i64 0)))]
def k90_16 : VC := .reg [oD 27 (.fieldA 1 τ4),oD 28 (.load1 (.int .i64) τ27),oD 29 (.bin .add τ28 (.const (.int .i64 1))),oD 30 (.fieldA 1 τ4),oN (.store 1 τ30 τ29)]
def k90_17 : VC := .cond τ25 k90_15 k90_16
def k90_18 : VC := .seq k90_14 k90_17
def k90_19 : VC := .reg [oD 31 (.loadN [.bool, (.int .i64)] τ4),oN (.store 2 τ6 τ31),oD 7 (.mv (.const (.bool false)))]
def k90_20 : VC := .seq k90_19 .ret
def k90_21 : VC := .seq k90_18 k90_20
def k90_22 : VC := .seq k90_13 k90_21
def k90_23 : VC := .seq k90_0 k90_22
def fn90 : VFn := ⟨32, k90_23, [.cell 6 [.bool, (.int .i64)] true, .tmp 7]⟩
def k128_0 : VC := .reg [oD 2 (.box τ0),oD 3 (.box τ1),oD 4 (.mv (.const (.int .i64 0)))]
def k128_1 : VC := .reg [oD 6 (.loadN [(.int .i64), (.int .i64)] τ2),oD 7 (.callF 69 [τ6]),oD 8 (.not τ7),oM 9 τ8,oG 10 (.fieldA 1 τ3) 9 false,oG 11 (.load1 (.int .i64) τ10) 9 false,oG 12 (.callF 121 [τ11, (.const (.int .i64 0)), (.const (.int .i64 1048576))]) 9 false,oG 13 (.not τ12) 9 false,oD 14 (.pick τ9 (.const (.bool true)) τ13),oM 5 τ14]
def k128_2 : VC := .reg [oD 4 (.mv (.const (.int .i64 0)))]
def k128_3 : VC := .seq k128_2 .ret
def k128_4 : VC := .reg [oD 16 (.fieldA 0 τ3),oD 17 (.load1 .bool τ16),oM 15 τ17]
def k128_5 : VC := .reg [oD 18 (.fieldA 1 τ2),oD 19 (.load1 (.int .i64) τ18),oD 20 (.fieldA 1 τ3),oD 21 (.load1 (.int .i64) τ20),oD 22 (.bin .sub τ19 τ21),oD 23 (.minmax true [(.const (.int .i64 1)), τ22]),oM 4 τ23]
def k128_6 : VC := .seq k128_5 .ret
def k128_7 : VC := .cond τ15 k128_6 .skip
def k128_8 : VC := .seq k128_4 k128_7
def k128_9 : VC := .cond τ5 k128_3 k128_8
def k128_10 : VC := .seq k128_1 k128_9
def k128_11 : VC := .block 0 k128_10
def k128_12 : VC := .reg [oD 24 (.fieldA 0 τ2),oD 25 (.load1 (.int .i64) τ24),oD 26 (.fieldA 1 τ3),oD 27 (.load1 (.int .i64) τ26),oD 28 (.bin .sub τ25 τ27),oD 29 (.minmax true [(.const (.int .i64 1)), τ28]),oM 4 τ29]
def k128_13 : VC := .seq k128_12 .ret
def k128_14 : VC := .seq k128_11 k128_13
def k128_15 : VC := .seq k128_0 k128_14
def fn128 : VFn := ⟨30, k128_15, [.tmp 4]⟩
def k22_0 : VC := .reg [oD 2 (.mv (.const (.slice none 0 0)))]
def k22_1 : VC := .reg [oM 6 τ0,oD 7 (.callF 70 [τ6]),oD 8 (.not τ7)]
def k22_2 : VC := .reg [oD 2 (.mv (.const (.slice none 0 0)))]
def k22_3 : VC := .seq k22_2 .ret
def k22_4 : VC := .cond τ8 k22_3 .skip
def k22_5 : VC := .seq k22_1 k22_4
def k22_6 : VC := .reg [oD 3 (.mv (.const (.slice none 0 0)))]
def k22_7 : VC := .reg [oM 9 τ0,oD 10 (.nilCheck τ9),oD 11 (.fieldA 2 τ10),oD 12 (.load1 .oth τ11),oD 13 (.lenL τ12),oD 14 (.mv (.const (.int .i64 0)))]
def k22_8 : VC := .reg [oD 15 (.bin .lss τ14 τ13)]
def k22_9 : VC := .cond τ15 .skip (.exit 0)
def k22_10 : VC := .reg [oD 16 (.idxAL 9 τ12 τ14),oD 17 (.loadN [(.int .i64), (.int .i64), (.int .i64), .bool, (.int .u64), (.int .u64), .bool, .bool, (.int .i64)] τ16),oD 5 (.alloc [(.int .i64 0), (.int .i64 0), (.int .i64 0), (.bool false), (.int .u64 0), (.int .u64 0), (.bool false), (.bool false), (.int .i64 0)]),oN (.store 9 τ5 τ17)]
def k22_11 : VC := .reg [oM 18 τ3,oD 19 (.loadN [(.int .i64), (.int .i64), (.int .i64), .bool, (.int .u64), (.int .u64), .bool, .bool, (.int .i64)] τ5),oD 20 (.callF 72 [τ19]),oD 21 (.buildSl 1 6 [(.int .i64 0), (.int .i64 0), (.int .i64 0), (.bool false), (.int .u64 0), (.int .u64 0)] [(0, 6, τ20)]),oD 22 (.app 37 6 48 τ18 τ21),oM 3 τ22]
def k22_12 : VC := .seq k22_10 k22_11
def k22_13 : VC := .block 1 k22_12
def k22_14 : VC := .reg [oD 23 (.bin .add τ14 (.const (.int .i64 1))),oM 14 τ23]
def k22_15 : VC := .seq k22_13 k22_14
def k22_16 : VC := .seq k22_9 k22_15
def k22_17 : VC := .seq k22_8 k22_16
def k22_18 : VC := .loop k22_17
def k22_19 : VC := .block 0 k22_18
def k22_20 : VC := .seq k22_7 k22_19
def k22_21 : VC := .reg [oM 24 τ3,oM 2 τ24]
def k22_22 : VC := .seq k22_21 .ret
def k22_23 : VC := .seq k22_20 k22_22
def k22_24 : VC := .seq k22_6 k22_23
def k22_25 : VC := .seq k22_5 k22_24
def k22_26 : VC := .seq k22_0 k22_25
def fn22 : VFn := ⟨25, k22_26, [.tmp 2]⟩
def k72_0 : VC := .reg [oD 1 (.box τ0),oD 2 (.alloc [(.int .i64 0), (.int .i64 0), (.int .i64 0), (.bool false), (.int .u64 0), (.int .u64 0)])]
def k72_1 : VC := .reg [oD 4 (.fieldA 0 τ1),oD 5 (.loadN [(.int .i64), (.int .i64), (.int .i64), .bool, (.int .u64), (.int .u64)] τ4),oD 3 (.alloc [(.int .i64 0), (.int .i64 0), (.int .i64 0), (.bool false), (.int .u64 0), (.int .u64 0)]),oN (.store 6 τ3 τ5)]
def k72_2 : VC := .reg [oD 8 (.fieldA 6 τ1),oD 9 (.load1 .bool τ8),oM 7 τ9]
def k72_3 : VC := .reg [oD 10 (.fieldA 2 τ3),oN (.store 1 τ10 (.const (.int .i64 3)))]
def k72_4 : VC := .reg [oD 12 (.fieldA 7 τ1),oD 13 (.fieldA 0 τ12),oD 14 (.load1 .bool τ13),oM 11 τ14]
def k72_5 : VC := .reg [oD 15 (.fieldA 2 τ3),oN (.store 1 τ15 (.const (.int .i64 1)))]
def k72_6 : VC := .reg [oD 6 (.fieldA 2 τ3),oN (.store 1 τ6 (.const (.int .i64 2)))]
def k72_7 : VC := .cond τ11 k72_5 k72_6
def k72_8 : VC := .seq k72_4 k72_7
def k72_9 : VC := .cond τ7 k72_3 k72_8
def k72_10 : VC := .seq k72_2 k72_9
def k72_11 : VC := .block 0 k72_10
def k72_12 : VC := .reg [oD 16 (.loadN [(.int .i64), (.int .i64), (.int .i64), .bool, (.int .u64), (.int .u64)] τ3),oN (.store 6 τ2 τ16)]
def k72_13 : VC := .seq k72_12 .ret
def k72_14 : VC := .seq k72_11 k72_13
def k72_15 : VC := .seq k72_1 k72_14
def k72_16 : VC := .seq k72_0 k72_15
def fn72 : VFn := ⟨17, k72_16, [.cell 2 [(.int .i64), (.int .i64), (.int .i64), .bool, (.int .u64), (.int .u64)] true]⟩
theorem fn9_ok : (Try.prog.funcs[9]?).bind (compFn Try.prog) = some fn9 := by kernel_rfl
theorem fn47_ok : (Try.prog.funcs[47]?).bind (compFn Try.prog) = some fn47 := by kernel_rfl
theorem fn53_ok : (Try.prog.funcs[53]?).bind (compFn Try.prog) = some fn53 := by kernel_rfl
theorem fn56_ok : (Try.prog.funcs[56]?).bind (compFn Try.prog) = some fn56 := by kernel_rfl
theorem fn113_ok : (Try.prog.funcs[113]?).bind (compFn Try.prog) = some fn113 := by kernel_rfl
theorem fn82_ok : (Try.prog.funcs[82]?).bind (compFn Try.prog) = some fn82 := by kernel_rfl
theorem fn114_ok : (Try.prog.funcs[114]?).bind (compFn Try.prog) = some fn114 := by kernel_rfl
theorem fn139_ok : (Try.prog.funcs[139]?).bind (compFn Try.prog) = some fn139 := by kernel_rfl
theorem fn108_ok : (Try.prog.funcs[108]?).bind (compFn Try.prog) = some fn108 := by kernel_rfl
theorem fn109_ok : (Try.prog.funcs[109]?).bind (compFn Try.prog) = some fn109 := by kernel_rfl
theorem fn110_ok : (Try.prog.funcs[110]?).bind (compFn Try.prog) = some fn110 := by kernel_rfl
theorem fn98_ok : (Try.prog.funcs[98]?).bind (compFn Try.prog) = some fn98 := by kernel_rfl
theorem fn94_ok : (Try.prog.funcs[94]?).bind (compFn Try.prog) = some fn94 := by kernel_rfl
theorem fn132_ok : (Try.prog.funcs[132]?).bind (compFn Try.prog) = some fn132 := by kernel_rfl
theorem fn133_ok : (Try.prog.funcs[133]?).bind (compFn Try.prog) = some fn133 := by kernel_rfl
theorem fn147_ok : (Try.prog.funcs[147]?).bind (compFn Try.prog) = some fn147 := by kernel_rfl
theorem fn148_ok : (Try.prog.funcs[148]?).bind (compFn Try.prog) = some fn148 := by kernel_rfl
theorem fn154_ok : (Try.prog.funcs[154]?).bind (compFn Try.prog) = some fn154 := by kernel_rfl
theorem fn159_ok : (Try.prog.funcs[159]?).bind (compFn Try.prog) = some fn159 := by kernel_rfl
theorem fn134_ok : (Try.prog.funcs[134]?).bind (compFn Try.prog) = some fn134 := by kernel_rfl
theorem fn48_ok : (Try.prog.funcs[48]?).bind (compFn Try.prog) = some fn48 := by kernel_rfl
theorem fn96_ok : (Try.prog.funcs[96]?).bind (compFn Try.prog) = some fn96 := by kernel_rfl
theorem fn97_ok : (Try.prog.funcs[97]?).bind (compFn Try.prog) = some fn97 := by kernel_rfl
theorem fn102_ok : (Try.prog.funcs[102]?).bind (compFn Try.prog) = some fn102 := by kernel_rfl
theorem fn99_ok : (Try.prog.funcs[99]?).bind (compFn Try.prog) = some fn99 := by kernel_rfl
theorem fn100_ok : (Try.prog.funcs[100]?).bind (compFn Try.prog) = some fn100 := by kernel_rfl
theorem fn101_ok : (Try.prog.funcs[101]?).bind (compFn Try.prog) = some fn101 := by kernel_rfl
theorem fn138_ok : (Try.prog.funcs[138]?).bind (compFn Try.prog) = some fn138 := by kernel_rfl
theorem fn103_ok : (Try.prog.funcs[103]?).bind (compFn Try.prog) = some fn103 := by kernel_rfl
theorem fn58_ok : (Try.prog.funcs[58]?).bind (compFn Try.prog) = some fn58 := by kernel_rfl
theorem fn54_ok : (Try.prog.funcs[54]?).bind (compFn Try.prog) = some fn54 := by kernel_rfl
theorem fn55_ok : (Try.prog.funcs[55]?).bind (compFn Try.prog) = some fn55 := by kernel_rfl
theorem fn57_ok : (Try.prog.funcs[57]?).bind (compFn Try.prog) = some fn57 := by kernel_rfl
theorem fn115_ok : (Try.prog.funcs[115]?).bind (compFn Try.prog) = some fn115 := by kernel_rfl
theorem fn104_ok : (Try.prog.funcs[104]?).bind (compFn Try.prog) = some fn104 := by kernel_rfl
theorem fn111_ok : (Try.prog.funcs[111]?).bind (compFn Try.prog) = some fn111 := by kernel_rfl
theorem fn112_ok : (Try.prog.funcs[112]?).bind (compFn Try.prog) = some fn112 := by kernel_rfl
theorem fn49_ok : (Try.prog.funcs[49]?).bind (compFn Try.prog) = some fn49 := by kernel_rfl
theorem fn95_ok : (Try.prog.funcs[95]?).bind (compFn Try.prog) = some fn95 := by kernel_rfl
theorem fn135_ok : (Try.prog.funcs[135]?).bind (compFn Try.prog) = some fn135 := by kernel_rfl
theorem fn136_ok : (Try.prog.funcs[136]?).bind (compFn Try.prog) = some fn136 := by kernel_rfl
theorem fn149_ok : (Try.prog.funcs[149]?).bind (compFn Try.prog) = some fn149 := by kernel_rfl
theorem fn137_ok : (Try.prog.funcs[137]?).bind (compFn Try.prog) = some fn137 := by kernel_rfl
theorem fn50_ok : (Try.prog.funcs[50]?).bind (compFn Try.prog) = some fn50 := by kernel_rfl
theorem fn105_ok : (Try.prog.funcs[105]?).bind (compFn Try.prog) = some fn105 := by kernel_rfl
theorem fn106_ok : (Try.prog.funcs[106]?).bind (compFn Try.prog) = some fn106 := by kernel_rfl
theorem fn107_ok : (Try.prog.funcs[107]?).bind (compFn Try.prog) = some fn107 := by kernel_rfl
theorem fn52_ok : (Try.prog.funcs[52]?).bind (compFn Try.prog) = some fn52 := by kernel_rfl
theorem fn51_ok : (Try.prog.funcs[51]?).bind (compFn Try.prog) = some fn51 := by kernel_rfl
theorem fn21_ok : (Try.prog.funcs[21]?).bind (compFn Try.prog) = some fn21 := by kernel_rfl
theorem fn59_ok : (Try.prog.funcs[59]?).bind (compFn Try.prog) = some fn59 := by kernel_rfl
theorem fn60_ok : (Try.prog.funcs[60]?).bind (compFn Try.prog) = some fn60 := by kernel_rfl
theorem fn116_ok : (Try.prog.funcs[116]?).bind (compFn Try.prog) = some fn116 := by kernel_rfl
theorem fn8_ok : (Try.prog.funcs[8]?).bind (compFn Try.prog) = some fn8 := by kernel_rfl
theorem fn10_ok : (Try.prog.funcs[10]?).bind (compFn Try.prog) = some fn10 := by kernel_rfl
theorem fn11_ok : (Try.prog.funcs[11]?).bind (compFn Try.prog) = some fn11 := by kernel_rfl
theorem fn16_ok : (Try.prog.funcs[16]?).bind (compFn Try.prog) = some fn16 := by kernel_rfl
theorem fn69_ok : (Try.prog.funcs[69]?).bind (compFn Try.prog) = some fn69 := by kernel_rfl
theorem fn121_ok : (Try.prog.funcs[121]?).bind (compFn Try.prog) = some fn121 := by kernel_rfl
theorem fn26_ok : (Try.prog.funcs[26]?).bind (compFn Try.prog) = some fn26 := by kernel_rfl
theorem fn70_ok : (Try.prog.funcs[70]?).bind (compFn Try.prog) = some fn70 := by kernel_rfl
theorem fn81_ok : (Try.prog.funcs[81]?).bind (compFn Try.prog) = some fn81 := by kernel_rfl
theorem fn27_ok : (Try.prog.funcs[27]?).bind (compFn Try.prog) = some fn27 := by kernel_rfl
theorem fn83_ok : (Try.prog.funcs[83]?).bind (compFn Try.prog) = some fn83 := by kernel_rfl
theorem fn71_ok : (Try.prog.funcs[71]?).bind (compFn Try.prog) = some fn71 := by kernel_rfl
theorem fn122_ok : (Try.prog.funcs[122]?).bind (compFn Try.prog) = some fn122 := by kernel_rfl
theorem fn123_ok : (Try.prog.funcs[123]?).bind (compFn Try.prog) = some fn123 := by kernel_rfl
theorem fn84_ok : (Try.prog.funcs[84]?).bind (compFn Try.prog) = some fn84 := by kernel_rfl
theorem fn86_ok : (Try.prog.funcs[86]?).bind (compFn Try.prog) = some fn86 := by kernel_rfl
theorem fn85_ok : (Try.prog.funcs[85]?).bind (compFn Try.prog) = some fn85 := by kernel_rfl
theorem fn127_ok : (Try.prog.funcs[127]?).bind (compFn Try.prog) = some fn127 := by kernel_rfl
theorem fn28_ok : (Try.prog.funcs[28]?).bind (compFn Try.prog) = some fn28 := by kernel_rfl
theorem fn87_ok : (Try.prog.funcs[87]?).bind (compFn Try.prog) = some fn87 := by kernel_rfl
theorem fn29_ok : (Try.prog.funcs[29]?).bind (compFn Try.prog) = some fn29 := by kernel_rfl
theorem fn88_ok : (Try.prog.funcs[88]?).bind (compFn Try.prog) = some fn88 := by kernel_rfl
theorem fn30_ok : (Try.prog.funcs[30]?).bind (compFn Try.prog) = some fn30 := by kernel_rfl
theorem fn89_ok : (Try.prog.funcs[89]?).bind (compFn Try.prog) = some fn89 := by kernel_rfl
theorem fn90_ok : (Try.prog.funcs[90]?).bind (compFn Try.prog) = some fn90 := by kernel_rfl
theorem fn128_ok : (Try.prog.funcs[128]?).bind (compFn Try.prog) = some fn128 := by kernel_rfl
theorem fn22_ok : (Try.prog.funcs[22]?).bind (compFn Try.prog) = some fn22 := by kernel_rfl
theorem fn72_ok : (Try.prog.funcs[72]?).bind (compFn Try.prog) = some fn72 := by kernel_rfl
def tab : List (Nat × VFn) := [(9, fn9), (47, fn47), (53, fn53), (56, fn56), (113, fn113), (82, fn82), (114, fn114), (139, fn139), (108, fn108), (109, fn109), (110, fn110), (98, fn98), (94, fn94), (132, fn132), (133, fn133), (147, fn147), (148, fn148), (154, fn154), (159, fn159), (134, fn134), (48, fn48), (96, fn96), (97, fn97), (102, fn102), (99, fn99), (100, fn100), (101, fn101), (138, fn138), (103, fn103), (58, fn58), (54, fn54), (55, fn55), (57, fn57), (115, fn115), (104, fn104), (111, fn111), (112, fn112), (49, fn49), (95, fn95), (135, fn135), (136, fn136), (149, fn149), (137, fn137), (50, fn50), (105, fn105), (106, fn106), (107, fn107), (52, fn52), (51, fn51), (21, fn21), (59, fn59), (60, fn60), (116, fn116), (8, fn8), (10, fn10), (11, fn11), (16, fn16), (69, fn69), (121, fn121), (26, fn26), (70, fn70), (81, fn81), (27, fn27), (83, fn83), (71, fn71), (122, fn122), (123, fn123), (84, fn84), (86, fn86), (85, fn85), (127, fn127), (28, fn28), (87, fn87), (29, fn29), (88, fn88), (30, fn30), (89, fn89), (90, fn90), (128, fn128), (22, fn22), (72, fn72)]
theorem tab_ok : FnsOK Try.prog (aget tab) := FnsOK.of_tab ⟨fn9_ok, fn47_ok, fn53_ok, fn56_ok, fn113_ok, fn82_ok, fn114_ok, fn139_ok, fn108_ok, fn109_ok, fn110_ok, fn98_ok, fn94_ok, fn132_ok, fn133_ok, fn147_ok, fn148_ok, fn154_ok, fn159_ok, fn134_ok, fn48_ok, fn96_ok, fn97_ok, fn102_ok, fn99_ok, fn100_ok, fn101_ok, fn138_ok, fn103_ok, fn58_ok, fn54_ok, fn55_ok, fn57_ok, fn115_ok, fn104_ok, fn111_ok, fn112_ok, fn49_ok, fn95_ok, fn135_ok, fn136_ok, fn149_ok, fn137_ok, fn50_ok, fn105_ok, fn106_ok, fn107_ok, fn52_ok, fn51_ok, fn21_ok, fn59_ok, fn60_ok, fn116_ok, fn8_ok, fn10_ok, fn11_ok, fn16_ok, fn69_ok, fn121_ok, fn26_ok, fn70_ok, fn81_ok, fn27_ok, fn83_ok, fn71_ok, fn122_ok, fn123_ok, fn84_ok, fn86_ok, fn85_ok, fn127_ok, fn28_ok, fn87_ok, fn29_ok, fn88_ok, fn30_ok, fn89_ok, fn90_ok, fn128_ok, fn22_ok, fn72_ok, trivial⟩
end Go.Vm.Code
namespace Go.Vm.Code
open Go Go.Vm Go.Proofs
set_option maxRecDepth 100000
set_option maxHeartbeats 4000000
set_option linter.unusedVariables false
@[ext] structure api_Key where
  A : Int
  B : Int
  deriving DecidableEq
@[ext] structure api_Addr where
  V6 : Bool
  Hi : Int
  Lo : Int
  deriving DecidableEq
@[ext] structure api_Backend where
  ID : Int
  Weight : Int
  State : Int
  Addr : api_Addr
  deriving DecidableEq
@[ext] structure saved_Record where
  Key : api_Key
  Last : Int
  L : List api_Backend
  deriving DecidableEq
@[ext] structure Arr4_Int where
  e0 : Int
  e1 : Int
  e2 : Int
  e3 : Int
  deriving DecidableEq
@[ext] structure sip_Hasher where
  made : Bool
  s : Arr4_Int
  last : Int
  count : Int
  deriving DecidableEq
@[ext] structure octet_Reader where
  s : List UInt8
  made : Bool
  bad : Bool
  deriving DecidableEq
@[ext] structure R23_Step where
  Kind : Int
  ID : Int
  N : Int
  Addr : api_Addr
  On : Bool
  deriving DecidableEq
@[ext] structure health_Rule where
  Rise : Int
  Fall : Int
  deriving DecidableEq
@[ext] structure health_State where
  Up : Bool
  Run : Int
  deriving DecidableEq
@[ext] structure registry_row where
  Backend : api_Backend
  drains : Bool
  health : health_State
  deriving DecidableEq
@[ext] structure registry_Registry where
  rule : health_Rule
  rows : List registry_row
  last : Int
  version : Int
  deriving DecidableEq
def capi_Key (x : api_Key) : List Value := [.int .u64 x.A, .int .u64 x.B]
theorem capi_Key_len (x : api_Key) : (capi_Key x).length = 2 := rfl
theorem capi_Key_flat (x : api_Key) : flatV.flatL (capi_Key x) = true := rfl
theorem capi_Key_one (x : api_Key) : (capi_Key x).all oneC = true := rfl
@[simp] theorem capi_Key_lens (xs : List api_Key) : (vT capi_Key xs).length = xs.length * 2 := vT_len capi_Key_len xs
@[simp] theorem capi_Key_take (xs : List api_Key) (n : Nat) : (vT capi_Key xs).take (n * 2) = vT capi_Key (xs.take n) := vT_take capi_Key_len xs n
@[simp] theorem capi_Key_drop (xs : List api_Key) (n : Nat) : (vT capi_Key xs).drop (n * 2) = vT capi_Key (xs.drop n) := vT_drop capi_Key_len xs n
def unapi_Key : List Value → Option api_Key
  | [.int .u64 a1, .int .u64 a2] => some (api_Key.mk a1 a2)
  | _ => none
theorem unapi_Key_eq (cs : List Value) (x : api_Key) (h : unapi_Key cs = some x) : cs = capi_Key x := by
  unfold unapi_Key at h; split at h
  · cases h; rfl
  · cases h
def uvapi_Key : Value → Option api_Key
  | .agg ⟨cs⟩ => unapi_Key cs
  | _ => none
theorem uvapi_Key_eq (v : Value) (x : api_Key) (h : uvapi_Key v = some x) : v = .agg ⟨capi_Key x⟩ := by
  unfold uvapi_Key at h; split at h
  · rw [unapi_Key_eq _ _ h]
  · cases h
theorem uvapi_Key_c (x : api_Key) : uvapi_Key (.agg ⟨capi_Key x⟩) = some x := rfl
def capi_Addr (x : api_Addr) : List Value := [.bool x.V6, .int .u64 x.Hi, .int .u64 x.Lo]
theorem capi_Addr_len (x : api_Addr) : (capi_Addr x).length = 3 := rfl
theorem capi_Addr_flat (x : api_Addr) : flatV.flatL (capi_Addr x) = true := rfl
theorem capi_Addr_one (x : api_Addr) : (capi_Addr x).all oneC = true := rfl
@[simp] theorem capi_Addr_lens (xs : List api_Addr) : (vT capi_Addr xs).length = xs.length * 3 := vT_len capi_Addr_len xs
@[simp] theorem capi_Addr_take (xs : List api_Addr) (n : Nat) : (vT capi_Addr xs).take (n * 3) = vT capi_Addr (xs.take n) := vT_take capi_Addr_len xs n
@[simp] theorem capi_Addr_drop (xs : List api_Addr) (n : Nat) : (vT capi_Addr xs).drop (n * 3) = vT capi_Addr (xs.drop n) := vT_drop capi_Addr_len xs n
def unapi_Addr : List Value → Option api_Addr
  | [.bool a1, .int .u64 a2, .int .u64 a3] => some (api_Addr.mk a1 a2 a3)
  | _ => none
theorem unapi_Addr_eq (cs : List Value) (x : api_Addr) (h : unapi_Addr cs = some x) : cs = capi_Addr x := by
  unfold unapi_Addr at h; split at h
  · cases h; rfl
  · cases h
def uvapi_Addr : Value → Option api_Addr
  | .agg ⟨cs⟩ => unapi_Addr cs
  | _ => none
theorem uvapi_Addr_eq (v : Value) (x : api_Addr) (h : uvapi_Addr v = some x) : v = .agg ⟨capi_Addr x⟩ := by
  unfold uvapi_Addr at h; split at h
  · rw [unapi_Addr_eq _ _ h]
  · cases h
theorem uvapi_Addr_c (x : api_Addr) : uvapi_Addr (.agg ⟨capi_Addr x⟩) = some x := rfl
def capi_Backend (x : api_Backend) : List Value := [.int .i64 x.ID, .int .i64 x.Weight, .int .i64 x.State, .bool x.Addr.V6, .int .u64 x.Addr.Hi, .int .u64 x.Addr.Lo]
theorem capi_Backend_len (x : api_Backend) : (capi_Backend x).length = 6 := rfl
theorem capi_Backend_flat (x : api_Backend) : flatV.flatL (capi_Backend x) = true := rfl
theorem capi_Backend_one (x : api_Backend) : (capi_Backend x).all oneC = true := rfl
@[simp] theorem capi_Backend_lens (xs : List api_Backend) : (vT capi_Backend xs).length = xs.length * 6 := vT_len capi_Backend_len xs
@[simp] theorem capi_Backend_take (xs : List api_Backend) (n : Nat) : (vT capi_Backend xs).take (n * 6) = vT capi_Backend (xs.take n) := vT_take capi_Backend_len xs n
@[simp] theorem capi_Backend_drop (xs : List api_Backend) (n : Nat) : (vT capi_Backend xs).drop (n * 6) = vT capi_Backend (xs.drop n) := vT_drop capi_Backend_len xs n
def unapi_Backend : List Value → Option api_Backend
  | [.int .i64 a1, .int .i64 a2, .int .i64 a3, .bool a4, .int .u64 a5, .int .u64 a6] => some (api_Backend.mk a1 a2 a3 (api_Addr.mk a4 a5 a6))
  | _ => none
theorem unapi_Backend_eq (cs : List Value) (x : api_Backend) (h : unapi_Backend cs = some x) : cs = capi_Backend x := by
  unfold unapi_Backend at h; split at h
  · cases h; rfl
  · cases h
theorem unapi_Backend_c (x : api_Backend) : unapi_Backend (capi_Backend x) = some x := rfl
def cArr4_Int (x : Arr4_Int) : List Value := [.int .u64 x.e0, .int .u64 x.e1, .int .u64 x.e2, .int .u64 x.e3]
theorem cArr4_Int_len (x : Arr4_Int) : (cArr4_Int x).length = 4 := rfl
theorem cArr4_Int_flat (x : Arr4_Int) : flatV.flatL (cArr4_Int x) = true := rfl
theorem cArr4_Int_one (x : Arr4_Int) : (cArr4_Int x).all oneC = true := rfl
@[simp] theorem cArr4_Int_lens (xs : List Arr4_Int) : (vT cArr4_Int xs).length = xs.length * 4 := vT_len cArr4_Int_len xs
@[simp] theorem cArr4_Int_take (xs : List Arr4_Int) (n : Nat) : (vT cArr4_Int xs).take (n * 4) = vT cArr4_Int (xs.take n) := vT_take cArr4_Int_len xs n
@[simp] theorem cArr4_Int_drop (xs : List Arr4_Int) (n : Nat) : (vT cArr4_Int xs).drop (n * 4) = vT cArr4_Int (xs.drop n) := vT_drop cArr4_Int_len xs n
def unArr4_Int : List Value → Option Arr4_Int
  | [.int .u64 a1, .int .u64 a2, .int .u64 a3, .int .u64 a4] => some (Arr4_Int.mk a1 a2 a3 a4)
  | _ => none
theorem unArr4_Int_eq (cs : List Value) (x : Arr4_Int) (h : unArr4_Int cs = some x) : cs = cArr4_Int x := by
  unfold unArr4_Int at h; split at h
  · cases h; rfl
  · cases h
theorem unArr4_Int_c (x : Arr4_Int) : unArr4_Int (cArr4_Int x) = some x := rfl
def csip_Hasher (x : sip_Hasher) : List Value := [.bool x.made, .int .u64 x.s.e0, .int .u64 x.s.e1, .int .u64 x.s.e2, .int .u64 x.s.e3, .int .u64 x.last, .int .i64 x.count]
theorem csip_Hasher_len (x : sip_Hasher) : (csip_Hasher x).length = 7 := rfl
theorem csip_Hasher_flat (x : sip_Hasher) : flatV.flatL (csip_Hasher x) = true := rfl
theorem csip_Hasher_one (x : sip_Hasher) : (csip_Hasher x).all oneC = true := rfl
@[simp] theorem csip_Hasher_lens (xs : List sip_Hasher) : (vT csip_Hasher xs).length = xs.length * 7 := vT_len csip_Hasher_len xs
@[simp] theorem csip_Hasher_take (xs : List sip_Hasher) (n : Nat) : (vT csip_Hasher xs).take (n * 7) = vT csip_Hasher (xs.take n) := vT_take csip_Hasher_len xs n
@[simp] theorem csip_Hasher_drop (xs : List sip_Hasher) (n : Nat) : (vT csip_Hasher xs).drop (n * 7) = vT csip_Hasher (xs.drop n) := vT_drop csip_Hasher_len xs n
def unsip_Hasher : List Value → Option sip_Hasher
  | [.bool a1, .int .u64 a2, .int .u64 a3, .int .u64 a4, .int .u64 a5, .int .u64 a6, .int .i64 a7] => some (sip_Hasher.mk a1 (Arr4_Int.mk a2 a3 a4 a5) a6 a7)
  | _ => none
theorem unsip_Hasher_eq (cs : List Value) (x : sip_Hasher) (h : unsip_Hasher cs = some x) : cs = csip_Hasher x := by
  unfold unsip_Hasher at h; split at h
  · cases h; rfl
  · cases h
theorem unsip_Hasher_c (x : sip_Hasher) : unsip_Hasher (csip_Hasher x) = some x := rfl
def coctet_Reader (x : octet_Reader) : List Value := [.string ⟨⟨x.s⟩⟩, .bool x.made, .bool x.bad]
theorem coctet_Reader_len (x : octet_Reader) : (coctet_Reader x).length = 3 := rfl
theorem coctet_Reader_flat (x : octet_Reader) : flatV.flatL (coctet_Reader x) = true := rfl
theorem coctet_Reader_one (x : octet_Reader) : (coctet_Reader x).all oneC = true := rfl
@[simp] theorem coctet_Reader_lens (xs : List octet_Reader) : (vT coctet_Reader xs).length = xs.length * 3 := vT_len coctet_Reader_len xs
@[simp] theorem coctet_Reader_take (xs : List octet_Reader) (n : Nat) : (vT coctet_Reader xs).take (n * 3) = vT coctet_Reader (xs.take n) := vT_take coctet_Reader_len xs n
@[simp] theorem coctet_Reader_drop (xs : List octet_Reader) (n : Nat) : (vT coctet_Reader xs).drop (n * 3) = vT coctet_Reader (xs.drop n) := vT_drop coctet_Reader_len xs n
def unoctet_Reader : List Value → Option octet_Reader
  | [.string ⟨⟨a1⟩⟩, .bool a2, .bool a3] => some (octet_Reader.mk a1 a2 a3)
  | _ => none
theorem unoctet_Reader_eq (cs : List Value) (x : octet_Reader) (h : unoctet_Reader cs = some x) : cs = coctet_Reader x := by
  unfold unoctet_Reader at h; split at h
  · cases h; rfl
  · cases h
theorem unoctet_Reader_c (x : octet_Reader) : unoctet_Reader (coctet_Reader x) = some x := rfl
def cR23_Step (x : R23_Step) : List Value := [.int .i64 x.Kind, .int .i64 x.ID, .int .i64 x.N, .bool x.Addr.V6, .int .u64 x.Addr.Hi, .int .u64 x.Addr.Lo, .bool x.On]
theorem cR23_Step_len (x : R23_Step) : (cR23_Step x).length = 7 := rfl
theorem cR23_Step_flat (x : R23_Step) : flatV.flatL (cR23_Step x) = true := rfl
theorem cR23_Step_one (x : R23_Step) : (cR23_Step x).all oneC = true := rfl
@[simp] theorem cR23_Step_lens (xs : List R23_Step) : (vT cR23_Step xs).length = xs.length * 7 := vT_len cR23_Step_len xs
@[simp] theorem cR23_Step_take (xs : List R23_Step) (n : Nat) : (vT cR23_Step xs).take (n * 7) = vT cR23_Step (xs.take n) := vT_take cR23_Step_len xs n
@[simp] theorem cR23_Step_drop (xs : List R23_Step) (n : Nat) : (vT cR23_Step xs).drop (n * 7) = vT cR23_Step (xs.drop n) := vT_drop cR23_Step_len xs n
def chealth_Rule (x : health_Rule) : List Value := [.int .i64 x.Rise, .int .i64 x.Fall]
theorem chealth_Rule_len (x : health_Rule) : (chealth_Rule x).length = 2 := rfl
theorem chealth_Rule_flat (x : health_Rule) : flatV.flatL (chealth_Rule x) = true := rfl
theorem chealth_Rule_one (x : health_Rule) : (chealth_Rule x).all oneC = true := rfl
@[simp] theorem chealth_Rule_lens (xs : List health_Rule) : (vT chealth_Rule xs).length = xs.length * 2 := vT_len chealth_Rule_len xs
@[simp] theorem chealth_Rule_take (xs : List health_Rule) (n : Nat) : (vT chealth_Rule xs).take (n * 2) = vT chealth_Rule (xs.take n) := vT_take chealth_Rule_len xs n
@[simp] theorem chealth_Rule_drop (xs : List health_Rule) (n : Nat) : (vT chealth_Rule xs).drop (n * 2) = vT chealth_Rule (xs.drop n) := vT_drop chealth_Rule_len xs n
def chealth_State (x : health_State) : List Value := [.bool x.Up, .int .i64 x.Run]
theorem chealth_State_len (x : health_State) : (chealth_State x).length = 2 := rfl
theorem chealth_State_flat (x : health_State) : flatV.flatL (chealth_State x) = true := rfl
theorem chealth_State_one (x : health_State) : (chealth_State x).all oneC = true := rfl
@[simp] theorem chealth_State_lens (xs : List health_State) : (vT chealth_State xs).length = xs.length * 2 := vT_len chealth_State_len xs
@[simp] theorem chealth_State_take (xs : List health_State) (n : Nat) : (vT chealth_State xs).take (n * 2) = vT chealth_State (xs.take n) := vT_take chealth_State_len xs n
@[simp] theorem chealth_State_drop (xs : List health_State) (n : Nat) : (vT chealth_State xs).drop (n * 2) = vT chealth_State (xs.drop n) := vT_drop chealth_State_len xs n
def cregistry_row (x : registry_row) : List Value := [.int .i64 x.Backend.ID, .int .i64 x.Backend.Weight, .int .i64 x.Backend.State, .bool x.Backend.Addr.V6, .int .u64 x.Backend.Addr.Hi, .int .u64 x.Backend.Addr.Lo, .bool x.drains, .bool x.health.Up, .int .i64 x.health.Run]
theorem cregistry_row_len (x : registry_row) : (cregistry_row x).length = 9 := rfl
theorem cregistry_row_flat (x : registry_row) : flatV.flatL (cregistry_row x) = true := rfl
theorem cregistry_row_one (x : registry_row) : (cregistry_row x).all oneC = true := rfl
@[simp] theorem cregistry_row_lens (xs : List registry_row) : (vT cregistry_row xs).length = xs.length * 9 := vT_len cregistry_row_len xs
@[simp] theorem cregistry_row_take (xs : List registry_row) (n : Nat) : (vT cregistry_row xs).take (n * 9) = vT cregistry_row (xs.take n) := vT_take cregistry_row_len xs n
@[simp] theorem cregistry_row_drop (xs : List registry_row) (n : Nat) : (vT cregistry_row xs).drop (n * 9) = vT cregistry_row (xs.drop n) := vT_drop cregistry_row_len xs n
def udsaved_Record (k : Nat) : Value → List (Option (List Value)) → Option saved_Record
  | .agg ⟨[.int .u64 a1, .int .u64 a2, .int .i64 a3, .slice (some ⟨k0, 0, none⟩) n0 s0]⟩, [some c0] => match (unR 6 unapi_Backend) c0 with | some x0 => (if k0 = k + 0 ∧ n0 = x0.length ∧ s0 = 6 then some (saved_Record.mk (api_Key.mk a1 a2) a3 x0) else none) | none => none
  | _, _ => none
theorem udsaved_Record_eq {k : Nat} {v : Value} {cs : List (Option (List Value))} {x : saved_Record} (h : udsaved_Record k v cs = some x) : v = .agg ⟨[.int .u64 x.Key.A, .int .u64 x.Key.B, .int .i64 x.Last, .slice (some ⟨k + 0, 0, none⟩) x.L.length 6]⟩ ∧ cs = [some (vT capi_Backend x.L)] := by
  unfold udsaved_Record at h; split at h <;> try (cases h; done)
  split at h <;> try (cases h; done)
  rename_i x0 e0
  split at h <;> cases h
  rename_i hk
  obtain ⟨rfl, rfl, rfl⟩ := hk
  obtain rfl := unT_eq unapi_Backend_eq e0
  exact ⟨rfl, rfl⟩
theorem udsaved_Record_c (k : Nat) (x : saved_Record) : udsaved_Record k (.agg ⟨[.int .u64 x.Key.A, .int .u64 x.Key.B, .int .i64 x.Last, .slice (some ⟨k + 0, 0, none⟩) x.L.length 6]⟩) [some (vT capi_Backend x.L)] = some x := by
  simp only [udsaved_Record, unR_vT capi_Backend_len (by decide) unapi_Backend_c]; simp
theorem lrA0 {P : Program} {f base fn nt : Nat} {e e' : Env} {todo todo' : List VItem} {ds ds' : List Nat} {ret : Bool} {up up' : List VFrame} {H H' : Hp} {top top' : Nat} {R : Value → Hp → Nat → Prop}
    (h : Leads P f base ⟨⟨fn, nt, e', todo', ds', ret, none⟩, up', H', top'⟩ R) (m : List (Nat × Nat)) (hc : chkM base top' m = true) (he : reE (aget m) e e' := by repeat' first | exact trivial | refine ⟨⟨_, rfl, rfl⟩, ?_⟩ | refine ⟨⟨_, _, rfl, rfl, .rowF (vI_flat _ _) id⟩, ?_⟩ | refine ⟨⟨_, _, rfl, rfl, .rowF (vS_flat _) id⟩, ?_⟩ | refine ⟨⟨_, _, rfl, rfl, .rowF (vB_flat _) id⟩, ?_⟩ | refine ⟨⟨_, _, rfl, rfl, .rowF (vT_flat (by first | exact capi_Key_flat | exact capi_Addr_flat | exact capi_Backend_flat | exact cArr4_Int_flat | exact csip_Hasher_flat | exact coctet_Reader_flat | exact cR23_Step_flat | exact chealth_Rule_flat | exact chealth_State_flat | exact cregistry_row_flat) _) id⟩, ?_⟩ | refine ⟨⟨_, _, rfl, rfl, .tyF (vI_flat _ _)⟩, ?_⟩ | refine ⟨⟨_, _, rfl, rfl, .ty rfl⟩, ?_⟩ | refine ⟨⟨_, _, rfl, rfl, .cells rfl⟩, ?_⟩ | refine ⟨⟨_, _, rfl, rfl, .row rfl id⟩, ?_⟩ | refine ⟨⟨_, _, rfl, rfl, .cr rfl⟩, ?_⟩ | refine ⟨⟨_, _, rfl, rfl, .rc rfl⟩, ?_⟩ | refine ⟨⟨_, _, rfl, rfl, .marks⟩, ?_⟩ | refine ⟨⟨_, _, rfl, rfl, .siter _ _⟩, ?_⟩ | refine ⟨⟨_, _, rfl, rfl, .loop rfl rfl rfl rfl (by repeat' first | exact trivial | refine ⟨rfl, ?_⟩) rfl rfl rfl rfl⟩, ?_⟩) (hH : reH (aget m) H H' := by repeat' first | exact trivial | refine ⟨⟨_, rfl, rfl⟩, ?_⟩ | refine ⟨⟨_, _, rfl, rfl, .rowF (vI_flat _ _) id⟩, ?_⟩ | refine ⟨⟨_, _, rfl, rfl, .rowF (vS_flat _) id⟩, ?_⟩ | refine ⟨⟨_, _, rfl, rfl, .rowF (vB_flat _) id⟩, ?_⟩ | refine ⟨⟨_, _, rfl, rfl, .rowF (vT_flat (by first | exact capi_Key_flat | exact capi_Addr_flat | exact capi_Backend_flat | exact cArr4_Int_flat | exact csip_Hasher_flat | exact coctet_Reader_flat | exact cR23_Step_flat | exact chealth_Rule_flat | exact chealth_State_flat | exact cregistry_row_flat) _) id⟩, ?_⟩ | refine ⟨⟨_, _, rfl, rfl, .tyF (vI_flat _ _)⟩, ?_⟩ | refine ⟨⟨_, _, rfl, rfl, .ty rfl⟩, ?_⟩ | refine ⟨⟨_, _, rfl, rfl, .cells rfl⟩, ?_⟩ | refine ⟨⟨_, _, rfl, rfl, .row rfl id⟩, ?_⟩ | refine ⟨⟨_, _, rfl, rfl, .cr rfl⟩, ?_⟩ | refine ⟨⟨_, _, rfl, rfl, .rc rfl⟩, ?_⟩ | refine ⟨⟨_, _, rfl, rfl, .marks⟩, ?_⟩ | refine ⟨⟨_, _, rfl, rfl, .siter _ _⟩, ?_⟩ | refine ⟨⟨_, _, rfl, rfl, .loop rfl rfl rfl rfl (by repeat' first | exact trivial | refine ⟨rfl, ?_⟩) rfl rfl rfl rfl⟩, ?_⟩)
    (ht : renT (aget m) todo' = some todo := by rfl) (hd : renN (aget m) ds' = some ds := by rfl) (hu : reU (aget m) up up' := by trivial) :
    Leads P f base ⟨⟨fn, nt, e, todo, ds, ret, none⟩, up, H, top⟩ R := Leads.re h m hc he hH ht hd hu
theorem lrA1 {P : Program} {f base fn nt : Nat} {e e' : Env} {todo todo' : List VItem} {ds ds' : List Nat} {ret : Bool} {up up' : List VFrame} {H H' : Hp} {top top' : Nat} {R : Value → Hp → Nat → Prop}
    (h : Leads P f base ⟨⟨fn, nt, e', todo', ds', ret, none⟩, up', H', top'⟩ R) (m : List (Nat × Nat)) (hc : chkM base top' m = true) (he : reE (aget m) e e' := by repeat' first | exact trivial | refine ⟨⟨_, rfl, rfl⟩, ?_⟩ | refine ⟨⟨_, _, rfl, rfl, .rowF (vI_flat _ _) id⟩, ?_⟩ | refine ⟨⟨_, _, rfl, rfl, .rowF (vS_flat _) id⟩, ?_⟩ | refine ⟨⟨_, _, rfl, rfl, .rowF (vB_flat _) id⟩, ?_⟩ | refine ⟨⟨_, _, rfl, rfl, .rowF (vT_flat (by first | exact capi_Key_flat | exact capi_Addr_flat | exact capi_Backend_flat | exact cArr4_Int_flat | exact csip_Hasher_flat | exact coctet_Reader_flat | exact cR23_Step_flat | exact chealth_Rule_flat | exact chealth_State_flat | exact cregistry_row_flat) _) id⟩, ?_⟩ | refine ⟨⟨_, _, rfl, rfl, .tyF (vI_flat _ _)⟩, ?_⟩ | refine ⟨⟨_, _, rfl, rfl, .ty rfl⟩, ?_⟩ | refine ⟨⟨_, _, rfl, rfl, .cells rfl⟩, ?_⟩ | refine ⟨⟨_, _, rfl, rfl, .row rfl id⟩, ?_⟩ | refine ⟨⟨_, _, rfl, rfl, .cr rfl⟩, ?_⟩ | refine ⟨⟨_, _, rfl, rfl, .rc rfl⟩, ?_⟩ | refine ⟨⟨_, _, rfl, rfl, .marks⟩, ?_⟩ | refine ⟨⟨_, _, rfl, rfl, .siter _ _⟩, ?_⟩ | refine ⟨⟨_, _, rfl, rfl, .loop rfl rfl rfl rfl (by repeat' first | exact trivial | refine ⟨rfl, ?_⟩) rfl rfl rfl rfl⟩, ?_⟩) (hH : reH (aget m) H H' := by repeat' first | exact trivial | refine ⟨⟨_, rfl, rfl⟩, ?_⟩ | refine ⟨⟨_, _, rfl, rfl, .rowF (vI_flat _ _) id⟩, ?_⟩ | refine ⟨⟨_, _, rfl, rfl, .rowF (vS_flat _) id⟩, ?_⟩ | refine ⟨⟨_, _, rfl, rfl, .rowF (vB_flat _) id⟩, ?_⟩ | refine ⟨⟨_, _, rfl, rfl, .rowF (vT_flat (by first | exact capi_Key_flat | exact capi_Addr_flat | exact capi_Backend_flat | exact cArr4_Int_flat | exact csip_Hasher_flat | exact coctet_Reader_flat | exact cR23_Step_flat | exact chealth_Rule_flat | exact chealth_State_flat | exact cregistry_row_flat) _) id⟩, ?_⟩ | refine ⟨⟨_, _, rfl, rfl, .tyF (vI_flat _ _)⟩, ?_⟩ | refine ⟨⟨_, _, rfl, rfl, .ty rfl⟩, ?_⟩ | refine ⟨⟨_, _, rfl, rfl, .cells rfl⟩, ?_⟩ | refine ⟨⟨_, _, rfl, rfl, .row rfl id⟩, ?_⟩ | refine ⟨⟨_, _, rfl, rfl, .cr rfl⟩, ?_⟩ | refine ⟨⟨_, _, rfl, rfl, .rc rfl⟩, ?_⟩ | refine ⟨⟨_, _, rfl, rfl, .marks⟩, ?_⟩ | refine ⟨⟨_, _, rfl, rfl, .siter _ _⟩, ?_⟩ | refine ⟨⟨_, _, rfl, rfl, .loop rfl rfl rfl rfl (by repeat' first | exact trivial | refine ⟨rfl, ?_⟩) rfl rfl rfl rfl⟩, ?_⟩)
    (ht : renT (aget m) todo' = some todo := by rfl) (hd : renN (aget m) ds' = some ds := by rfl) (hu : reU (aget m) up up' := by repeat' first | exact trivial | refine ⟨⟨rfl, rfl, rfl, rfl, rfl, ?_, rfl, rfl⟩, ?_⟩ | refine ⟨⟨_, rfl, rfl⟩, ?_⟩) :
    Leads P f base ⟨⟨fn, nt, e, todo, ds, ret, none⟩, up, H, top⟩ R := Leads.re h m hc he hH ht hd hu
def octet_Put_s1 (n : Int) (k : Int) (t17 : Int) (b : List Int) : Option (Sum (Int × (List Int)) (List UInt8)) :=
  cond (decide (t17 < (k.toNat : Int)))
    (
    let t := wI .i64 (8 * (wI .i64 ((wI .i64 (k - 1)) - t17)))
    oreq (decide (0 ≤ t)) <|
    oreq (decide ((0 : Int) ≤ t17 ∧ t17 < (k.toNat : Int))) <|
    oreq (decide (t17.toNat < b.length)) <|
    let row := b.set t17.toNat (wI .u8 (n.fdiv (2 ^ (min t.toNat 64))))
    some (.inl (wI .i64 (t17 + 1), row)))
    (
    oreq (decide (k.toNat ≤ b.length)) <|
    some (.inr (iB (b.take k.toNat))))
def octet_PutF (n : Int) (k : Int) : Option (List UInt8) :=
  cond (decide (k < 1))
    (
    some ([]))
    (
    cond (decide (k > 8))
      (
      some ([]))
      (
      oreq (decide (0 ≤ k ∧ k ≤ k ∧ k < 2 ^ 63 ∧ (1 : Int) * k ≤ 2 ^ 48)) <|
      iter (fun st => octet_Put_s1 n k st.1 st.2) FUEL (0, List.replicate k.toNat (0))))
def rx109 (x : List UInt8) : SRes := ⟨.string ⟨⟨x⟩⟩, [], []⟩
def r109 (g : Int → Int → Option (List UInt8)) : Dec := dV (asI .u64) fun (y0 : Int) => dV (asI .i64) fun (y1 : Int) => dEnd (ofG (g y0 y1) rx109)
theorem r109_c {g : Int → Int → Option (List UInt8)} {y0 : Int} {y1 : Int} {x : List UInt8} (hx : g y0 y1 = some x) : r109 g [.int .u64 y0, .int .i64 y1] [] = some (rx109 x) := (dV_eq (asI_c _)).trans ((dV_eq (asI_c _)).trans (ofG_eq hx))
def s109 (g : Int → Int → Option (List UInt8)) : Summ := ⟨[.v, .v], r109 g⟩
theorem r109_eq {g : Int → Int → Option (List UInt8)} {y0 : Int} {y1 : Int} {x : List UInt8} (hx : g y0 y1 = some x) : (s109 g).run [.int .u64 y0, .int .i64 y1] [] = some (rx109 x) := r109_c hx
abbrev sums109 : List (Nat × Summ) := []
def head109_1 (n : Int) (k : Int) (t17 : Int) (b : List Int) : VM :=
  ⟨⟨109, 34, [(0, .int .u64 n), (1, .int .i64 k), (5, .slice (some ⟨0, 0, none⟩) k.toNat 1), (16, .int .i64 (k.toNat : Int)), (17, .int .i64 t17)], [.code k109_17, .inLoop k109_17, .inBlock 0, .code k109_22], [], false, none⟩, [], [(0, .row true (vI .u8 b))], 1⟩
theorem loop109_1 (hS : SumsOK Try.prog (aget (sums109))) (n : Int) (k : Int) (res : List UInt8) : ∀ fuel (st : Int × (List Int)) (o : List UInt8), iter (fun st => octet_Put_s1 n k st.1 st.2) fuel st = some o → (o = res) →
    Leads Try.prog 109 0 (head109_1 n k st.1 st.2) (fun v H _ => Res 0 (rx109 res) v H) := by
  intro fuel st o h hc
  refine iter_leads (head := fun st => head109_1 n k st.1 st.2) (C := fun o => (o = res)) ?_ fuel st o h hc
  clear h hc o st fuel
  intro st o h hc
  obtain ⟨t17, b⟩ := st
  replace h : octet_Put_s1 n k t17 b = some o := h
  show Leads Try.prog 109 0 (head109_1 n k t17 b) (fun v H _ => Res 0 (rx109 res) v H)
  unfold octet_Put_s1 at h
  refine ev_ok tab_ok hS true 3000 ?_
  conv => whnf
  refine br.h2 h ?_ ?_ ?_
  · rfl
  · clear h; intro hb h; conv => whnf
    replace h := oreq.elim h; obtain ⟨hb, h⟩ := h
    refine req.intro (by (first | rfl | (simp [wI, vI, vB, vS, bI, oneC, addrBlk, cellsL, Value.cells] at *; omega) | (simp [vI, vB, vS, bI, oneC, addrBlk, cellsL, Value.cells] at *; omega) | (simp [vI, vB, vS, bI, oneC, addrBlk, cellsL, Value.cells] at *; done))) ?_
    conv => whnf
    refine pk_b2s ?_
    conv => whnf
    all_goals (cases h; cases hc; exact Res.z rfl rfl rfl)
  clear h; intro hb h; conv => whnf
  let t : Int := wI .i64 (8 * (wI .i64 ((wI .i64 (k - 1)) - t17)))
  replace h := oreq.elim h; obtain ⟨hb, h⟩ := h
  first | (refine req.intro hb ?_; conv => whnf) | skip
  replace h := oreq.elim h; obtain ⟨hb, h⟩ := h
  first | (refine req.intro hb ?_; conv => whnf) | skip
  replace h := oreq.elim h; obtain ⟨hb, h⟩ := h
  refine st_I hb (by first | rfl | (rw [Nat.zero_add, Nat.mul_one]; try rfl; done) | omega) ?_
  conv => whnf
  let row : List Int := b.set t17.toNat (wI .u8 (n.fdiv (2 ^ (min t.toNat 64))))
  cases h; simp only [Sum.elim_inl, head109_1] at hc
  exact lrA0 hc [(0, 0)] rfl
theorem leads109 (hS : SumsOK Try.prog (aget (sums109))) (n : Int) (k : Int) (res : List UInt8) (h : octet_PutF n k = some res) :
    Leads Try.prog 109 0 ⟨⟨109, 34, [(0, .int .u64 n), (1, .int .i64 k)], [.code k109_26], [], false, none⟩, [], [], 0⟩ (fun v H _ => Res 0 (rx109 res) v H) := by
  unfold octet_PutF at h
  refine ev_ok tab_ok hS true 3000 ?_
  conv => whnf
  refine br.h h ?_ ?_ ?_
  · rfl
  · clear h; intro hb h; conv => whnf
    all_goals (cases h; exact Res.z rfl rfl rfl)
  clear h; intro hb h; conv => whnf
  refine br.h h ?_ ?_ ?_
  · rfl
  · clear h; intro hb h; conv => whnf
    all_goals (cases h; exact Res.z rfl rfl rfl)
  clear h; intro hb h; conv => whnf
  replace h := oreq.elim h; obtain ⟨hb, h⟩ := h
  first | (refine req.intro hb ?_; conv => whnf) | skip
  refine pk_mkI ?_
  conv => whnf
  have hl := loop109_1 hS _ _ res _ _ _ h rfl; simp only [head109_1] at hl
  exact lrA0 hl [(0, 0)] rfl
theorem ok109 (hS : SumsOK Try.prog (aget (sums109))) : SumOK Try.prog 109 (s109 (octet_PutF)) := by
  refine SumOK.of_leads tab_ok (fun ar os r ha hr => ?_) ⟨Try.f109, rfl, by decide, rfl⟩
  replace hr : r109 (octet_PutF) ar (conts os) = some r := hr
  unfold r109 at hr
  generalize hc : conts os = C at hr
  replace hr := dV.elim hr; obtain ⟨v0, l1, y0, rfl, e0, hr⟩ := hr; obtain rfl := asI_eq _ _ _ e0
  replace hr := dV.elim hr; obtain ⟨v1, l2, y1, rfl, e1, hr⟩ := hr; obtain rfl := asI_eq _ _ _ e1
  replace hr := dFin hr; obtain ⟨rfl, rfl, x, h, rfl⟩ := hr
  obtain rfl := kinds_nil hc
  exact ⟨_, rfl, leads109 hS _ _ x h⟩
def octet_Put : Int → Int → Option (List UInt8) := octet_PutF
theorem lift109 : SumOK Try.prog 109 (s109 octet_Put) := ok109 (SumsOK.of_tab trivial)
def octet_Get_s1 (t1 : List UInt8) (n : Int) (t37 : Int) : Option (Sum (Int × Int) (Int × Bool)) :=
  cond (decide (t37 < (t1.length : Int)))
    (
    oreq (decide ((0 : Int) ≤ t37 ∧ t37 < (t1.length : Int))) <|
    ((bI t1)[t37.toNat]?).bind fun (e : Int) =>
    let t2 := iorI .u64 (wI .u64 (n * 2 ^ 8)) (wI .u64 e)
    some (.inl (t2, wI .i64 (t37 + 1))))
    (
    some (.inr ((n, true))))
def octet_GetF (s : List UInt8) (ata1 : Int) (k : Int) : Option (Int × Bool) :=
  cond (decide (k < 1))
    (
    some ((0, false)))
    (
    cond (decide (k > 8))
      (
      some ((0, false)))
      (
      cond (decide (ata1 < 0))
        (
        some ((0, false)))
        (
        let t := decide ((wI .i64 ((s.length : Int) - k)) < ata1)
        cond (t)
          (
          some ((0, false)))
          (
          oreq (decide ((0 : Int) ≤ (wI .i64 (ata1 + k)) ∧ (wI .i64 (ata1 + k)) ≤ (s.length : Int) ∧ (0 : Int) ≤ ata1 ∧ ata1 ≤ ((wI .i64 (ata1 + k)).toNat : Int))) <|
          let t1 := (s.drop ata1.toNat).take ((wI .i64 (ata1 + k)).toNat - ata1.toNat)
          iter (fun st => octet_Get_s1 t1 st.1 st.2) FUEL (0, 0)))))
def rx99 (x : Int × Bool) : SRes := ⟨.tuple ⟨[.int .u64 x.1, .bool x.2]⟩, [], []⟩
def r99 (g : (List UInt8) → Int → Int → Option (Int × Bool)) : Dec := dV asS fun (y0 : List UInt8) => dV (asI .i64) fun (y1 : Int) => dV (asI .i64) fun (y2 : Int) => dEnd (ofG (g y0 y1 y2) rx99)
theorem r99_c {g : (List UInt8) → Int → Int → Option (Int × Bool)} {y0 : List UInt8} {y1 : Int} {y2 : Int} {x : Int × Bool} (hx : g y0 y1 y2 = some x) : r99 g [.string ⟨⟨y0⟩⟩, .int .i64 y1, .int .i64 y2] [] = some (rx99 x) := (dV_eq (asS_c)).trans ((dV_eq (asI_c _)).trans ((dV_eq (asI_c _)).trans (ofG_eq hx)))
def s99 (g : (List UInt8) → Int → Int → Option (Int × Bool)) : Summ := ⟨[.v, .v, .v], r99 g⟩
theorem r99_eq {g : (List UInt8) → Int → Int → Option (Int × Bool)} {y0 : List UInt8} {y1 : Int} {y2 : Int} {x : Int × Bool} (hx : g y0 y1 y2 = some x) : (s99 g).run [.string ⟨⟨y0⟩⟩, .int .i64 y1, .int .i64 y2] [] = some (rx99 x) := r99_c hx
abbrev sums99 : List (Nat × Summ) := []
def head99_1 (t1 : List UInt8) (n : Int) (t37 : Int) : VM :=
  ⟨⟨99, 48, [(8, .int .u64 n), (35, .slice (some ⟨0, 0, none⟩) t1.length 1), (36, .int .i64 (t1.length : Int)), (37, .int .i64 t37)], [.code k99_17, .inLoop k99_17, .inBlock 0, .code k99_22], [], false, none⟩, [], [(0, .row true (vI .u8 (bI t1)))], 1⟩
theorem loop99_1 (hS : SumsOK Try.prog (aget (sums99))) (t1 : List UInt8) (res : Int × Bool) : ∀ fuel (st : Int × Int) (o : Int × Bool), iter (fun st => octet_Get_s1 t1 st.1 st.2) fuel st = some o → (o = res) →
    Leads Try.prog 99 0 (head99_1 t1 st.1 st.2) (fun v H _ => Res 0 (rx99 res) v H) := by
  intro fuel st o h hc
  refine iter_leads (head := fun st => head99_1 t1 st.1 st.2) (C := fun o => (o = res)) ?_ fuel st o h hc
  clear h hc o st fuel
  intro st o h hc
  obtain ⟨n, t37⟩ := st
  replace h : octet_Get_s1 t1 n t37 = some o := h
  show Leads Try.prog 99 0 (head99_1 t1 n t37) (fun v H _ => Res 0 (rx99 res) v H)
  unfold octet_Get_s1 at h
  refine ev_ok tab_ok hS true 3000 ?_
  conv => whnf
  refine br.h2 h ?_ ?_ ?_
  · rfl
  · clear h; intro hb h; conv => whnf
    all_goals (cases h; cases hc; exact Res.z rfl rfl rfl)
  clear h; intro hb h; conv => whnf
  replace h := oreq.elim h; obtain ⟨hb, h⟩ := h
  first | (refine req.intro hb ?_; conv => whnf) | skip
  replace h := obind.elim h; obtain ⟨e, hy, h⟩ := h
  refine rd.I hy (by first | rfl | (rw [Nat.zero_add, Nat.mul_one]; try rfl; done) | omega) ?_
  conv => whnf
  let t2 : Int := iorI .u64 (wI .u64 (n * 2 ^ 8)) (wI .u64 e)
  cases h; simp only [Sum.elim_inl, head99_1] at hc
  exact lrA0 hc [(0, 0)] rfl
theorem leads99 (hS : SumsOK Try.prog (aget (sums99))) (s : List UInt8) (ata1 : Int) (k : Int) (res : Int × Bool) (h : octet_GetF s ata1 k = some res) :
    Leads Try.prog 99 0 ⟨⟨99, 48, [(0, .string ⟨⟨s⟩⟩), (1, .int .i64 ata1), (2, .int .i64 k)], [.code k99_26], [], false, none⟩, [], [], 0⟩ (fun v H _ => Res 0 (rx99 res) v H) := by
  unfold octet_GetF at h
  refine ev_ok tab_ok hS true 3000 ?_
  conv => whnf
  refine br.h h ?_ ?_ ?_
  · rfl
  · clear h; intro hb h; conv => whnf
    all_goals (cases h; exact Res.z rfl rfl rfl)
  clear h; intro hb h; conv => whnf
  refine br.h h ?_ ?_ ?_
  · rfl
  · clear h; intro hb h; conv => whnf
    all_goals (cases h; exact Res.z rfl rfl rfl)
  clear h; intro hb h; conv => whnf
  refine br.h h ?_ ?_ ?_
  · rfl
  · clear h; intro hb h; conv => whnf
    all_goals (cases h; exact Res.z rfl rfl rfl)
  clear h; intro hb h; conv => whnf
  let t : Bool := decide ((wI .i64 ((s.length : Int) - k)) < ata1)
  refine br.h h ?_ ?_ ?_
  · rfl
  · clear h; intro hb h; conv => whnf
    all_goals (cases h; exact Res.z rfl rfl rfl)
  clear h; intro hb h; conv => whnf
  replace h := oreq.elim h; obtain ⟨hb, h⟩ := h
  first | (refine req.intro hb ?_; conv => whnf) | skip
  let t1 : List UInt8 := (s.drop ata1.toNat).take ((wI .i64 (ata1 + k)).toNat - ata1.toNat)
  refine pk_s2b ?_
  conv => whnf
  have hl := loop99_1 hS _ res _ _ _ h rfl; simp only [head99_1] at hl
  exact lrA0 hl [(0, 0)] rfl
theorem ok99 (hS : SumsOK Try.prog (aget (sums99))) : SumOK Try.prog 99 (s99 (octet_GetF)) := by
  refine SumOK.of_leads tab_ok (fun ar os r ha hr => ?_) ⟨Try.f99, rfl, by decide, rfl⟩
  replace hr : r99 (octet_GetF) ar (conts os) = some r := hr
  unfold r99 at hr
  generalize hc : conts os = C at hr
  replace hr := dV.elim hr; obtain ⟨v0, l1, y0, rfl, e0, hr⟩ := hr; obtain rfl := asS_eq _ _ e0
  replace hr := dV.elim hr; obtain ⟨v1, l2, y1, rfl, e1, hr⟩ := hr; obtain rfl := asI_eq _ _ _ e1
  replace hr := dV.elim hr; obtain ⟨v2, l3, y2, rfl, e2, hr⟩ := hr; obtain rfl := asI_eq _ _ _ e2
  replace hr := dFin hr; obtain ⟨rfl, rfl, x, h, rfl⟩ := hr
  obtain rfl := kinds_nil hc
  exact ⟨_, rfl, leads99 hS _ _ _ x h⟩
def octet_Get : (List UInt8) → Int → Int → Option (Int × Bool) := octet_GetF
theorem lift99 : SumOK Try.prog 99 (s99 octet_Get) := ok99 (SumsOK.of_tab trivial)
def R02_Put_s1 (k : Int) (n1 : Int) (s : List UInt8) (i : Int) : Option (Sum (Int × (List UInt8) × Int) (List UInt8)) :=
  cond (decide (i < k))
    (
    cond (decide (k ≤ 8))
      (
      let t := [UInt8.ofNat (wI .u8 (n1.tmod 256)).toNat]
      oreq (decide (t.length + s.length < 2 ^ 63)) <|
      some (.inl (wI .u64 (n1.tdiv 256), t ++ s, wI .i64 (i + 1))))
      (
      some (.inr (s))))
    (
    some (.inr (s)))
def R02_PutF (n : Int) (k : Int) : Option (List UInt8) :=
  iter (fun st => R02_Put_s1 k st.1 st.2.1 st.2.2) FUEL (n, [], 0)
def rx104 (x : List UInt8) : SRes := ⟨.string ⟨⟨x⟩⟩, [], []⟩
def r104 (g : Int → Int → Option (List UInt8)) : Dec := dV (asI .u64) fun (y0 : Int) => dV (asI .i64) fun (y1 : Int) => dEnd (ofG (g y0 y1) rx104)
theorem r104_c {g : Int → Int → Option (List UInt8)} {y0 : Int} {y1 : Int} {x : List UInt8} (hx : g y0 y1 = some x) : r104 g [.int .u64 y0, .int .i64 y1] [] = some (rx104 x) := (dV_eq (asI_c _)).trans ((dV_eq (asI_c _)).trans (ofG_eq hx))
def s104 (g : Int → Int → Option (List UInt8)) : Summ := ⟨[.v, .v], r104 g⟩
theorem r104_eq {g : Int → Int → Option (List UInt8)} {y0 : Int} {y1 : Int} {x : List UInt8} (hx : g y0 y1 = some x) : (s104 g).run [.int .u64 y0, .int .i64 y1] [] = some (rx104 x) := r104_c hx
abbrev sums104 : List (Nat × Summ) := []
def head104_1 (k : Int) (n1 : Int) (s : List UInt8) (i : Int) : VM :=
  ⟨⟨104, 26, [(0, .int .u64 n1), (1, .int .i64 k), (5, .string ⟨⟨s⟩⟩), (6, .int .i64 i)], [.code k104_12, .inLoop k104_12, .inBlock 0, .code k104_17], [], false, none⟩, [], [], 0⟩
theorem loop104_1 (hS : SumsOK Try.prog (aget (sums104))) (k : Int) (res : List UInt8) : ∀ fuel (st : Int × (List UInt8) × Int) (o : List UInt8), iter (fun st => R02_Put_s1 k st.1 st.2.1 st.2.2) fuel st = some o → (o = res) →
    Leads Try.prog 104 0 (head104_1 k st.1 st.2.1 st.2.2) (fun v H _ => Res 0 (rx104 res) v H) := by
  intro fuel st o h hc
  refine iter_leads (head := fun st => head104_1 k st.1 st.2.1 st.2.2) (C := fun o => (o = res)) ?_ fuel st o h hc
  clear h hc o st fuel
  intro st o h hc
  obtain ⟨n1, s, i⟩ := st
  replace h : R02_Put_s1 k n1 s i = some o := h
  show Leads Try.prog 104 0 (head104_1 k n1 s i) (fun v H _ => Res 0 (rx104 res) v H)
  unfold R02_Put_s1 at h
  refine ev_ok tab_ok hS true 3000 ?_
  conv => whnf
  refine br.h2 h ?_ ?_ ?_
  · rfl
  · clear h; intro hb h; conv => whnf
    all_goals (cases h; cases hc; exact Res.z rfl rfl rfl)
  clear h; intro hb h; conv => whnf
  refine br.h2 h ?_ ?_ ?_
  · rfl
  · clear h; intro hb h; conv => whnf
    all_goals (cases h; cases hc; exact Res.z rfl rfl rfl)
  clear h; intro hb h; conv => whnf
  refine pk_b2sL rfl ?_
  conv => whnf
  let t : List UInt8 := [UInt8.ofNat (wI .u8 (n1.tmod 256)).toNat]
  replace h := oreq.elim h; obtain ⟨hb, h⟩ := h
  first | (refine req.intro hb ?_; conv => whnf) | skip
  cases h; simp only [Sum.elim_inl, head104_1] at hc
  exact lrA0 hc [] rfl
theorem leads104 (hS : SumsOK Try.prog (aget (sums104))) (n : Int) (k : Int) (res : List UInt8) (h : R02_PutF n k = some res) :
    Leads Try.prog 104 0 ⟨⟨104, 26, [(0, .int .u64 n), (1, .int .i64 k)], [.code k104_20], [], false, none⟩, [], [], 0⟩ (fun v H _ => Res 0 (rx104 res) v H) := by
  unfold R02_PutF at h
  refine ev_ok tab_ok hS true 3000 ?_
  conv => whnf
  have hl := loop104_1 hS _ res _ _ _ h rfl; simp only [head104_1] at hl
  exact lrA0 hl [] rfl
theorem ok104 (hS : SumsOK Try.prog (aget (sums104))) : SumOK Try.prog 104 (s104 (R02_PutF)) := by
  refine SumOK.of_leads tab_ok (fun ar os r ha hr => ?_) ⟨Try.f104, rfl, by decide, rfl⟩
  replace hr : r104 (R02_PutF) ar (conts os) = some r := hr
  unfold r104 at hr
  generalize hc : conts os = C at hr
  replace hr := dV.elim hr; obtain ⟨v0, l1, y0, rfl, e0, hr⟩ := hr; obtain rfl := asI_eq _ _ _ e0
  replace hr := dV.elim hr; obtain ⟨v1, l2, y1, rfl, e1, hr⟩ := hr; obtain rfl := asI_eq _ _ _ e1
  replace hr := dFin hr; obtain ⟨rfl, rfl, x, h, rfl⟩ := hr
  obtain rfl := kinds_nil hc
  exact ⟨_, rfl, leads104 hS _ _ x h⟩
def R02_Put : Int → Int → Option (List UInt8) := R02_PutF
theorem lift104 : SumOK Try.prog 104 (s104 R02_Put) := ok104 (SumsOK.of_tab trivial)
def R02_Get_s1 (s : List UInt8) (ata1 : Int) (k : Int) (n : Int) (i : Int) : Option (Sum (Int × Int) (Int × Bool)) :=
  cond (decide (i < k))
    (
    oreq (decide (0 ≤ (wI .i64 (ata1 + i)))) <|
    (s[(wI .i64 (ata1 + i)).toNat]?).bind fun (b : UInt8) =>
    let t1 := wI .u64 ((wI .u64 (n * 256)) + (wI .u64 (b.toNat : Int)))
    some (.inl (t1, wI .i64 (i + 1))))
    (
    some (.inr ((n, true))))
def R02_GetF (s : List UInt8) (ata1 : Int) (k : Int) : Option (Int × Bool) :=
  cond (decide (k < 1))
    (
    some ((0, false)))
    (
    cond (decide (k > 8))
      (
      some ((0, false)))
      (
      cond (decide (ata1 < 0))
        (
        some ((0, false)))
        (
        cond (decide (ata1 > (s.length : Int)))
          (
          some ((0, false)))
          (
          let t := decide (k > (wI .i64 ((s.length : Int) - ata1)))
          cond (t)
            (
            some ((0, false)))
            (
            iter (fun st => R02_Get_s1 s ata1 k st.1 st.2) FUEL (0, 0))))))
def rx105 (x : Int × Bool) : SRes := ⟨.tuple ⟨[.int .u64 x.1, .bool x.2]⟩, [], []⟩
def r105 (g : (List UInt8) → Int → Int → Option (Int × Bool)) : Dec := dV asS fun (y0 : List UInt8) => dV (asI .i64) fun (y1 : Int) => dV (asI .i64) fun (y2 : Int) => dEnd (ofG (g y0 y1 y2) rx105)
theorem r105_c {g : (List UInt8) → Int → Int → Option (Int × Bool)} {y0 : List UInt8} {y1 : Int} {y2 : Int} {x : Int × Bool} (hx : g y0 y1 y2 = some x) : r105 g [.string ⟨⟨y0⟩⟩, .int .i64 y1, .int .i64 y2] [] = some (rx105 x) := (dV_eq (asS_c)).trans ((dV_eq (asI_c _)).trans ((dV_eq (asI_c _)).trans (ofG_eq hx)))
def s105 (g : (List UInt8) → Int → Int → Option (Int × Bool)) : Summ := ⟨[.v, .v, .v], r105 g⟩
theorem r105_eq {g : (List UInt8) → Int → Int → Option (Int × Bool)} {y0 : List UInt8} {y1 : Int} {y2 : Int} {x : Int × Bool} (hx : g y0 y1 y2 = some x) : (s105 g).run [.string ⟨⟨y0⟩⟩, .int .i64 y1, .int .i64 y2] [] = some (rx105 x) := r105_c hx
abbrev sums105 : List (Nat × Summ) := []
def head105_1 (s : List UInt8) (ata1 : Int) (k : Int) (n : Int) (i : Int) : VM :=
  ⟨⟨105, 49, [(0, .string ⟨⟨s⟩⟩), (1, .int .i64 ata1), (2, .int .i64 k), (8, .int .u64 n), (9, .int .i64 i)], [.code k105_15, .inLoop k105_15, .inBlock 0, .code k105_20], [], false, none⟩, [], [], 0⟩
theorem loop105_1 (hS : SumsOK Try.prog (aget (sums105))) (s : List UInt8) (ata1 : Int) (k : Int) (res : Int × Bool) : ∀ fuel (st : Int × Int) (o : Int × Bool), iter (fun st => R02_Get_s1 s ata1 k st.1 st.2) fuel st = some o → (o = res) →
    Leads Try.prog 105 0 (head105_1 s ata1 k st.1 st.2) (fun v H _ => Res 0 (rx105 res) v H) := by
  intro fuel st o h hc
  refine iter_leads (head := fun st => head105_1 s ata1 k st.1 st.2) (C := fun o => (o = res)) ?_ fuel st o h hc
  clear h hc o st fuel
  intro st o h hc
  obtain ⟨n, i⟩ := st
  replace h : R02_Get_s1 s ata1 k n i = some o := h
  show Leads Try.prog 105 0 (head105_1 s ata1 k n i) (fun v H _ => Res 0 (rx105 res) v H)
  unfold R02_Get_s1 at h
  refine ev_ok tab_ok hS true 3000 ?_
  conv => whnf
  refine br.h2 h ?_ ?_ ?_
  · rfl
  · clear h; intro hb h; conv => whnf
    all_goals (cases h; cases hc; exact Res.z rfl rfl rfl)
  clear h; intro hb h; conv => whnf
  replace h := oreq.elim h; obtain ⟨hb, h⟩ := h
  first | (refine req.intro hb ?_; conv => whnf) | skip
  replace h := obind.elim h; obtain ⟨b, hy, h⟩ := h
  refine rdS.intro hy ?_
  conv => whnf
  let t1 : Int := wI .u64 ((wI .u64 (n * 256)) + (wI .u64 (b.toNat : Int)))
  cases h; simp only [Sum.elim_inl, head105_1] at hc
  exact lrA0 hc [] rfl
theorem leads105 (hS : SumsOK Try.prog (aget (sums105))) (s : List UInt8) (ata1 : Int) (k : Int) (res : Int × Bool) (h : R02_GetF s ata1 k = some res) :
    Leads Try.prog 105 0 ⟨⟨105, 49, [(0, .string ⟨⟨s⟩⟩), (1, .int .i64 ata1), (2, .int .i64 k)], [.code k105_24], [], false, none⟩, [], [], 0⟩ (fun v H _ => Res 0 (rx105 res) v H) := by
  unfold R02_GetF at h
  refine ev_ok tab_ok hS true 3000 ?_
  conv => whnf
  refine br.h h ?_ ?_ ?_
  · rfl
  · clear h; intro hb h; conv => whnf
    all_goals (cases h; exact Res.z rfl rfl rfl)
  clear h; intro hb h; conv => whnf
  refine br.h h ?_ ?_ ?_
  · rfl
  · clear h; intro hb h; conv => whnf
    all_goals (cases h; exact Res.z rfl rfl rfl)
  clear h; intro hb h; conv => whnf
  refine br.h h ?_ ?_ ?_
  · rfl
  · clear h; intro hb h; conv => whnf
    all_goals (cases h; exact Res.z rfl rfl rfl)
  clear h; intro hb h; conv => whnf
  refine br.h h ?_ ?_ ?_
  · rfl
  · clear h; intro hb h; conv => whnf
    all_goals (cases h; exact Res.z rfl rfl rfl)
  clear h; intro hb h; conv => whnf
  let t : Bool := decide (k > (wI .i64 ((s.length : Int) - ata1)))
  refine br.h h ?_ ?_ ?_
  · rfl
  · clear h; intro hb h; conv => whnf
    all_goals (cases h; exact Res.z rfl rfl rfl)
  clear h; intro hb h; conv => whnf
  have hl := loop105_1 hS _ _ _ res _ _ _ h rfl; simp only [head105_1] at hl
  exact lrA0 hl [] rfl
theorem ok105 (hS : SumsOK Try.prog (aget (sums105))) : SumOK Try.prog 105 (s105 (R02_GetF)) := by
  refine SumOK.of_leads tab_ok (fun ar os r ha hr => ?_) ⟨Try.f105, rfl, by decide, rfl⟩
  replace hr : r105 (R02_GetF) ar (conts os) = some r := hr
  unfold r105 at hr
  generalize hc : conts os = C at hr
  replace hr := dV.elim hr; obtain ⟨v0, l1, y0, rfl, e0, hr⟩ := hr; obtain rfl := asS_eq _ _ e0
  replace hr := dV.elim hr; obtain ⟨v1, l2, y1, rfl, e1, hr⟩ := hr; obtain rfl := asI_eq _ _ _ e1
  replace hr := dV.elim hr; obtain ⟨v2, l3, y2, rfl, e2, hr⟩ := hr; obtain rfl := asI_eq _ _ _ e2
  replace hr := dFin hr; obtain ⟨rfl, rfl, x, h, rfl⟩ := hr
  obtain rfl := kinds_nil hc
  exact ⟨_, rfl, leads105 hS _ _ _ x h⟩
def R02_Get : (List UInt8) → Int → Int → Option (Int × Bool) := R02_GetF
theorem lift105 : SumOK Try.prog 105 (s105 R02_Get) := ok105 (SumsOK.of_tab trivial)
def R02_MustF (R02_Get : (List UInt8) → Int → Int → Option (Int × Bool)) (s : List UInt8) (ata1 : Int) (k : Int) : Option Int :=
  (R02_Get s ata1 k).bind fun xg =>
  some (wI .i64 xg.1)
def rx106 (x : Int) : SRes := ⟨.int .i64 x, [], []⟩
def r106 (g : (List UInt8) → Int → Int → Option Int) : Dec := dV asS fun (y0 : List UInt8) => dV (asI .i64) fun (y1 : Int) => dV (asI .i64) fun (y2 : Int) => dEnd (ofG (g y0 y1 y2) rx106)
theorem r106_c {g : (List UInt8) → Int → Int → Option Int} {y0 : List UInt8} {y1 : Int} {y2 : Int} {x : Int} (hx : g y0 y1 y2 = some x) : r106 g [.string ⟨⟨y0⟩⟩, .int .i64 y1, .int .i64 y2] [] = some (rx106 x) := (dV_eq (asS_c)).trans ((dV_eq (asI_c _)).trans ((dV_eq (asI_c _)).trans (ofG_eq hx)))
def s106 (g : (List UInt8) → Int → Int → Option Int) : Summ := ⟨[.v, .v, .v], r106 g⟩
theorem r106_eq {g : (List UInt8) → Int → Int → Option Int} {y0 : List UInt8} {y1 : Int} {y2 : Int} {x : Int} (hx : g y0 y1 y2 = some x) : (s106 g).run [.string ⟨⟨y0⟩⟩, .int .i64 y1, .int .i64 y2] [] = some (rx106 x) := r106_c hx
abbrev sums106 (R02_Get : (List UInt8) → Int → Int → Option (Int × Bool)) : List (Nat × Summ) := [(105, s105 R02_Get)]
theorem leads106 (R02_Get : (List UInt8) → Int → Int → Option (Int × Bool)) (hS : SumsOK Try.prog (aget (sums106 R02_Get))) (s : List UInt8) (ata1 : Int) (k : Int) (res : Int) (h : R02_MustF R02_Get s ata1 k = some res) :
    Leads Try.prog 106 0 ⟨⟨106, 18, [(0, .string ⟨⟨s⟩⟩), (1, .int .i64 ata1), (2, .int .i64 k)], [.code k106_5], [], false, none⟩, [], [], 0⟩ (fun v H _ => Res 0 (rx106 res) v H) := by
  unfold R02_MustF at h
  refine ev_ok tab_ok hS true 3000 ?_
  conv => whnf
  replace h := obind.elim h; obtain ⟨xg, hy, h⟩ := h
  refine sumK.q rfl rfl (r105_eq hy) rfl rfl rfl ?_
  conv => whnf
  all_goals (cases h; exact Res.z rfl rfl rfl)
theorem ok106 (R02_Get : (List UInt8) → Int → Int → Option (Int × Bool)) (hS : SumsOK Try.prog (aget (sums106 R02_Get))) : SumOK Try.prog 106 (s106 (R02_MustF R02_Get)) := by
  refine SumOK.of_leads tab_ok (fun ar os r ha hr => ?_) ⟨Try.f106, rfl, by decide, rfl⟩
  replace hr : r106 (R02_MustF R02_Get) ar (conts os) = some r := hr
  unfold r106 at hr
  generalize hc : conts os = C at hr
  replace hr := dV.elim hr; obtain ⟨v0, l1, y0, rfl, e0, hr⟩ := hr; obtain rfl := asS_eq _ _ e0
  replace hr := dV.elim hr; obtain ⟨v1, l2, y1, rfl, e1, hr⟩ := hr; obtain rfl := asI_eq _ _ _ e1
  replace hr := dV.elim hr; obtain ⟨v2, l3, y2, rfl, e2, hr⟩ := hr; obtain rfl := asI_eq _ _ _ e2
  replace hr := dFin hr; obtain ⟨rfl, rfl, x, h, rfl⟩ := hr
  obtain rfl := kinds_nil hc
  exact ⟨_, rfl, leads106 R02_Get hS _ _ _ x h⟩
def R02_Must : (List UInt8) → Int → Int → Option Int := R02_MustF R02_Get
theorem lift106 : SumOK Try.prog 106 (s106 R02_Must) := ok106 R02_Get (SumsOK.of_tab ⟨lift105, trivial⟩)
end Go.Vm.Code
namespace Go.Vm.Code
open Go Go.Vm
def putS (n k : Int) : List UInt8 := if 1 ≤ k ∧ k ≤ 8 then be n.toNat k.toNat else []
theorem octet_Put_eq {n k : Int} (h0 : 0 ≤ n) : octet_Put n k = some (putS n k) := by
  unfold octet_Put octet_PutF putS
  by_cases h1 : k < 1
  · rw [cond_p h1, if_neg (by omega)]
  by_cases h2 : k > 8
  · rw [cond_n h1, cond_p h2, if_neg (by omega)]
  rw [cond_n h1, cond_n h2, oreq_p (by omega), if_pos (by omega)]
  obtain ⟨m, rfl⟩ := Int.eq_ofNat_of_zero_le h0
  obtain ⟨j, rfl⟩ := Int.eq_ofNat_of_zero_le (show 0 ≤ k by omega)
  have key := iter_eq (step := fun (st : Int × List Int) => octet_Put_s1 (m : Int) (j : Int) st.1 st.2) (fun st => iB (st.2.take st.1.toNat) ++ be m (j - st.1.toNat)) (fun st => 0 ≤ st.1 ∧ st.1 ≤ j ∧ st.2.length = j) (fun st => (j - st.1).toNat) ?_ FUEL (0, List.replicate (j : Int).toNat 0) ⟨by simp, by simp, by simp⟩ (by rw [FUEL_eq]; simp only; omega)
  · rw [key]; simp [iB]
  rintro ⟨p, b⟩ ⟨g1, g2, g3⟩
  simp only at g1 g2 g3 ⊢
  obtain ⟨i, rfl⟩ := Int.eq_ofNat_of_zero_le g1
  unfold octet_Put_s1
  by_cases hp : i < j
  · refine .inr ⟨(((i + 1 : Nat) : Int), b.set i ((m / 256 ^ (j - 1 - i) % 256 : Nat) : Int)), ?_, ⟨by simp only; omega, by simp only; omega, by simp [g3]⟩, by simp only; omega, ?_⟩
    · simp (disch := omega) only [wI64, oreq_p, cond_p, Int.toNat_natCast]
      have e1 : min (8 * ((j : Int) - 1 - i)).toNat 64 = 8 * (j - 1 - i) := by omega
      have e0 : (2 : Int) ^ (8 * (j - 1 - i)) = ((256 ^ (j - 1 - i) : Nat) : Int) := by rw [show (256 : Nat) = 2 ^ 8 from rfl, ← Nat.pow_mul]; push_cast; rfl
      rw [e1, fdivP, wU8m, e0]
      rfl
    · simp only [Int.toNat_natCast]
      have e2 : j - i = (j - (i + 1)) + 1 := by omega
      have e3 : j - (i + 1) = j - 1 - i := by omega
      have e4 : (b.set i ((m / 256 ^ (j - 1 - i) % 256 : Nat) : Int)).take (i + 1) = b.take i ++ [((m / 256 ^ (j - 1 - i) % 256 : Nat) : Int)] := by
        rw [List.take_succ_eq_append_getElem (by simp; omega), List.take_set_of_le (Nat.le_refl _), List.getElem_set_self]
      rw [e2, e4, be, e3]
      simp only [iB, List.map_append, List.map_cons, List.map_nil, List.append_assoc, List.cons_append, List.nil_append, Int.toNat_natCast]
      congr 2
      apply UInt8.toNat_inj.1
      simp
  · refine .inl ?_
    obtain rfl : i = j := by omega
    simp (disch := omega) only [cond_n, oreq_p, Int.toNat_natCast]
    simp [be]
theorem R02_Put_eq {n k : Int} (h0 : 0 ≤ n) (h1 : n < 2 ^ 64) : R02_Put n k = some (putS n k) := by
  unfold R02_Put R02_PutF putS
  obtain ⟨m, rfl⟩ := Int.eq_ofNat_of_zero_le h0
  by_cases hk : 1 ≤ k ∧ k ≤ 8
  · rw [if_pos hk]
    obtain ⟨j, rfl⟩ := Int.eq_ofNat_of_zero_le (show 0 ≤ k by omega)
    have key := iter_eq (step := fun st => R02_Put_s1 (j : Int) st.1 st.2.1 st.2.2) (fun st => be st.1.toNat (j - st.2.2.toNat) ++ st.2.1) (fun st => 0 ≤ st.1 ∧ st.1 < 2 ^ 64 ∧ 0 ≤ st.2.2 ∧ st.2.2 ≤ j ∧ st.2.1.length < 2 ^ 20 + st.2.2.toNat) (fun st => (j - st.2.2).toNat) ?_ FUEL ((m : Int), [], 0) ⟨by simp, by simp only; omega, by simp, by simp, by simp⟩ (by rw [FUEL_eq]; simp only; omega)
    · rw [key]; simp
    rintro ⟨n, s, p⟩ ⟨g1, g2, g3, g4, g5⟩
    simp only at g1 g2 g3 g4 g5 ⊢
    obtain ⟨i, rfl⟩ := Int.eq_ofNat_of_zero_le g3
    obtain ⟨x, rfl⟩ := Int.eq_ofNat_of_zero_le g1
    unfold R02_Put_s1
    by_cases hp : i < j
    · refine .inr ⟨(((x / 256 : Nat) : Int), UInt8.ofNat x :: s, ((i + 1 : Nat) : Int)), ?_, ⟨by simp only; omega, by simp only; omega, by simp only; omega, by simp only; omega, by simp at g5 ⊢; omega⟩, by simp only; omega, ?_⟩
      · have e1 : (x : Int).tmod 256 = ((x % 256 : Nat) : Int) := by rw [Int.tmod_eq_emod_of_nonneg (by omega)]; rfl
        have e2 : (x : Int).tdiv 256 = ((x / 256 : Nat) : Int) := by rw [Int.tdiv_eq_ediv_of_nonneg (by omega)]; rfl
        rw [cond_p (by omega), cond_p (by omega), e1, e2, wU8 (by omega) (by omega)]
        simp only [List.length_cons, List.length_nil]
        rw [oreq_p (by omega), wU64 (by omega) (by omega), wI64 (by omega) (by omega), Int.toNat_natCast]
        have e3 : UInt8.ofNat (x % 256) = UInt8.ofNat x := by apply UInt8.toNat_inj.1; simp
        rw [e3]; rfl
      · simp only [Int.toNat_natCast]
        have e2 : j - i = (j - (i + 1)) + 1 := by omega
        rw [e2, be_snoc]; simp
    · refine .inl ?_
      obtain rfl : i = j := by omega
      rw [cond_n (by omega)]
      simp [be]
  · rw [if_neg hk]
    show iter _ (18446744073709551615 + 1) _ = _
    rw [iter]
    have : R02_Put_s1 k (m : Int) [] 0 = some (.inr []) := by
      unfold R02_Put_s1
      by_cases h2 : 0 < k
      · rw [cond_p h2, cond_n (by omega)]
      · rw [cond_n h2]
    simp only [this]
def getS (s : List UInt8) (p k : Int) : Int × Bool := if 1 ≤ k ∧ k ≤ 8 ∧ 0 ≤ p ∧ p + k ≤ s.length then (((valL ((s.drop p.toNat).take k.toNat) : Nat) : Int), true) else (0, false)
theorem pow_step {v i : Nat} (h : v < 256 ^ i) (hi : i ≤ 7) : v < 2 ^ 56 := Nat.lt_of_lt_of_le h (by
  have : (256 : Nat) ^ i ≤ 256 ^ 7 := Nat.pow_le_pow_right (by decide) hi
  simpa using this)
theorem octet_Get_eq {s : List UInt8} {p k : Int} (hs : s.length < 2 ^ 61) : octet_Get s p k = some (getS s p k) := by
  unfold octet_Get octet_GetF getS
  by_cases h1 : k < 1
  · rw [cond_p h1, if_neg (by omega)]
  by_cases h2 : k > 8
  · rw [cond_n h1, cond_p h2, if_neg (by omega)]
  by_cases h3 : p < 0
  · rw [cond_n h1, cond_n h2, cond_p h3, if_neg (by omega)]
  rw [cond_n h1, cond_n h2, cond_n h3, wI64 (n := (s.length : Int) - k) (by omega) (by omega)]
  by_cases h4 : (s.length : Int) - k < p
  · simp only []
    rw [cond_p h4, if_neg (by omega)]
  simp only []
  rw [cond_n h4, wI64 (n := p + k) (by omega) (by omega), oreq_p (by omega), if_pos (by omega)]
  obtain ⟨q, rfl⟩ := Int.eq_ofNat_of_zero_le (show 0 ≤ p by omega)
  obtain ⟨j, rfl⟩ := Int.eq_ofNat_of_zero_le (show 0 ≤ k by omega)
  have e : ((q : Int) + j).toNat - (q : Int).toNat = j := by omega
  rw [e]
  simp only [Int.toNat_natCast]
  generalize ht : (s.drop q).take j = t
  have hl : t.length = j := by rw [← ht]; simp; omega
  have key := iter_eq (step := fun st => octet_Get_s1 t st.1 st.2) (fun st => (((st.1.toNat * 256 ^ (j - st.2.toNat) + valL (t.drop st.2.toNat) : Nat) : Int), true)) (fun st => 0 ≤ st.1 ∧ 0 ≤ st.2 ∧ st.2 ≤ j ∧ st.1.toNat < 256 ^ st.2.toNat) (fun st => (j - st.2).toNat) ?_ FUEL (0, 0) ⟨by simp, by simp, by simp, by simp⟩ (by rw [FUEL_eq]; simp only; omega)
  · rw [key]; simp
  rintro ⟨n, x⟩ ⟨g1, g2, g3, g4⟩
  simp only at g1 g2 g3 g4 ⊢
  obtain ⟨i, rfl⟩ := Int.eq_ofNat_of_zero_le g2
  obtain ⟨v, rfl⟩ := Int.eq_ofNat_of_zero_le g1
  simp only [Int.toNat_natCast] at g4 ⊢
  unfold octet_Get_s1
  by_cases hp : i < j
  · have hlt : i < t.length := by omega
    have hb := t[i].toNat_lt
    have hv := pow_step g4 (by omega)
    refine .inr ⟨(((v * 256 + t[i].toNat : Nat) : Int), ((i + 1 : Nat) : Int)), ?_, ⟨by simp only; omega, by simp only; omega, by simp only; omega, ?_⟩, by simp only; omega, ?_⟩
    · rw [cond_p (by omega), oreq_p (by omega)]
      have e1 : (bI t)[(i : Int).toNat]? = some (t[i].toNat : Int) := by simp [bI, hlt]
      rw [e1, Option.bind_some]
      have e2 : iorI .u64 (wI .u64 ((v : Int) * 2 ^ 8)) (wI .u64 (t[i].toNat : Int)) = ((v * 256 + t[i].toNat : Nat) : Int) := by
        rw [wU64 (by omega) (by omega), wU64 (by omega) (by omega), iorU64_low 8 (by omega) (by omega) (by omega) (by omega) (by omega)]; omega
      simp only [e2]
      rw [wI64 (by omega) (by omega)]; rfl
    · simp only [Int.toNat_natCast]
      rw [Nat.pow_succ]; omega
    · simp only [Int.toNat_natCast]
      rw [List.drop_eq_getElem_cons hlt, val_cons]
      have e3 : (t.drop (i + 1)).length = j - (i + 1) := by simp; omega
      have e4 : j - i = (j - (i + 1)) + 1 := by omega
      rw [e3, e4, Nat.pow_succ, Nat.add_mul, Nat.mul_assoc, Nat.mul_comm 256, Nat.add_assoc]
  · refine .inl ?_
    obtain rfl : i = j := by omega
    rw [cond_n (by omega)]
    simp [← hl]
theorem R02_Get_eq {s : List UInt8} {p k : Int} (hs : s.length < 2 ^ 61) : R02_Get s p k = some (getS s p k) := by
  unfold R02_Get R02_GetF getS
  by_cases h1 : k < 1
  · rw [cond_p h1, if_neg (by omega)]
  by_cases h2 : k > 8
  · rw [cond_n h1, cond_p h2, if_neg (by omega)]
  by_cases h3 : p < 0
  · rw [cond_n h1, cond_n h2, cond_p h3, if_neg (by omega)]
  by_cases h5 : p > s.length
  · rw [cond_n h1, cond_n h2, cond_n h3, cond_p h5, if_neg (by omega)]
  rw [cond_n h1, cond_n h2, cond_n h3, cond_n h5, wI64 (n := (s.length : Int) - p) (by omega) (by omega)]
  by_cases h4 : k > (s.length : Int) - p
  · simp only []
    rw [cond_p h4, if_neg (by omega)]
  simp only []
  rw [cond_n h4, if_pos (by omega)]
  obtain ⟨q, rfl⟩ := Int.eq_ofNat_of_zero_le (show 0 ≤ p by omega)
  obtain ⟨j, rfl⟩ := Int.eq_ofNat_of_zero_le (show 0 ≤ k by omega)
  simp only [Int.toNat_natCast]
  generalize ht : (s.drop q).take j = t
  have hl : t.length = j := by rw [← ht]; simp; omega
  have key := iter_eq (step := fun st => R02_Get_s1 s (q : Int) (j : Int) st.1 st.2) (fun st => (((st.1.toNat * 256 ^ (j - st.2.toNat) + valL (t.drop st.2.toNat) : Nat) : Int), true)) (fun st => 0 ≤ st.1 ∧ 0 ≤ st.2 ∧ st.2 ≤ j ∧ st.1.toNat < 256 ^ st.2.toNat) (fun st => (j - st.2).toNat) ?_ FUEL (0, 0) ⟨by simp, by simp, by simp, by simp⟩ (by rw [FUEL_eq]; simp only; omega)
  · rw [key]; simp
  rintro ⟨n, x⟩ ⟨g1, g2, g3, g4⟩
  simp only at g1 g2 g3 g4 ⊢
  obtain ⟨i, rfl⟩ := Int.eq_ofNat_of_zero_le g2
  obtain ⟨v, rfl⟩ := Int.eq_ofNat_of_zero_le g1
  simp only [Int.toNat_natCast] at g4 ⊢
  unfold R02_Get_s1
  by_cases hp : i < j
  · have hlt : i < t.length := by omega
    have hb := t[i].toNat_lt
    have hv := pow_step g4 (by omega)
    refine .inr ⟨(((v * 256 + t[i].toNat : Nat) : Int), ((i + 1 : Nat) : Int)), ?_, ⟨by simp only; omega, by simp only; omega, by simp only; omega, ?_⟩, by simp only; omega, ?_⟩
    · rw [cond_p (by omega), wI64 (n := (q : Int) + i) (by omega) (by omega), oreq_p (by omega)]
      have e0 : ((q : Int) + i).toNat = q + i := by omega
      have e1 : s[q + i]? = some t[i] := by
        subst ht
        rw [List.getElem?_eq_getElem (by omega)]
        simp
      rw [e0, e1, Option.bind_some]
      have e2 : wI .u64 ((wI .u64 ((v : Int) * 256)) + (wI .u64 (t[i].toNat : Int))) = ((v * 256 + t[i].toNat : Nat) : Int) := by
        rw [wU64 (n := (v : Int) * 256) (by omega) (by omega), wU64 (n := (t[i].toNat : Int)) (by omega) (by omega), wU64 (by omega) (by omega)]; omega
      simp only [e2]
      rw [wI64 (by omega) (by omega)]; rfl
    · simp only [Int.toNat_natCast]
      rw [Nat.pow_succ]; omega
    · simp only [Int.toNat_natCast]
      rw [List.drop_eq_getElem_cons hlt, val_cons]
      have e3 : (t.drop (i + 1)).length = j - (i + 1) := by simp; omega
      have e4 : j - i = (j - (i + 1)) + 1 := by omega
      rw [e3, e4, Nat.pow_succ, Nat.add_mul, Nat.mul_assoc, Nat.mul_comm 256, Nat.add_assoc]
  · refine .inl ?_
    obtain rfl : i = j := by omega
    rw [cond_n (by omega)]
    simp [← hl]
theorem R02_Must_eq {s : List UInt8} {p k : Int} (hs : s.length < 2 ^ 61) : R02_Must s p k = some (wI .i64 (getS s p k).1) := by
  unfold R02_Must R02_MustF
  rw [R02_Get_eq hs]; rfl
end Go.Vm.Code
namespace Go.Vm.Code
open Go Go.Vm Go.Proofs
set_option maxRecDepth 100000
set_option maxHeartbeats 4000000
set_option linter.unusedVariables false
def R04_RightF (a : api_Addr) : Option Bool :=
  cond (a.V6)
    (
    some (true))
    (
    cond (a.Hi == 0)
      (
      some (decide (a.Lo < 4294967296)))
      (
      some (false)))
def rx115 (x : Bool) : SRes := ⟨.bool x, [], []⟩
def r115 (g : api_Addr → Option Bool) : Dec := dV uvapi_Addr fun (y0 : api_Addr) => dEnd (ofG (g y0) rx115)
theorem r115_c {g : api_Addr → Option Bool} {y0 : api_Addr} {x : Bool} (hx : g y0 = some x) : r115 g [.agg ⟨[.bool y0.V6, .int .u64 y0.Hi, .int .u64 y0.Lo]⟩] [] = some (rx115 x) := (dV_eq (uvapi_Addr_c _)).trans (ofG_eq hx)
def s115 (g : api_Addr → Option Bool) : Summ := ⟨[.v], r115 g⟩
theorem r115_eq {g : api_Addr → Option Bool} {y0 : api_Addr} {x : Bool} (hx : g y0 = some x) : (s115 g).run [.agg ⟨[.bool y0.V6, .int .u64 y0.Hi, .int .u64 y0.Lo]⟩] [] = some (rx115 x) := r115_c hx
abbrev sums115 : List (Nat × Summ) := []
theorem leads115 (hS : SumsOK Try.prog (aget (sums115))) (a : api_Addr) (res : Bool) (h : R04_RightF a = some res) :
    Leads Try.prog 115 0 ⟨⟨115, 15, [(0, .agg ⟨[.bool a.V6, .int .u64 a.Hi, .int .u64 a.Lo]⟩)], [.code k115_3], [], false, none⟩, [], [], 0⟩ (fun v H _ => Res 0 (rx115 res) v H) := by
  unfold R04_RightF at h
  refine ev_ok tab_ok hS true 3000 ?_
  conv => whnf
  refine br.h h ?_ ?_ ?_
  · rfl
  · clear h; intro hb h; conv => whnf
    all_goals (cases h; exact Res.z rfl rfl rfl)
  clear h; intro hb h; conv => whnf
  refine br.h h ?_ ?_ ?_
  · rfl
  · clear h; intro hb h; conv => whnf
    all_goals (cases h; exact Res.z rfl rfl rfl)
  clear h; intro hb h; conv => whnf
  all_goals (cases h; exact Res.z rfl rfl rfl)
theorem ok115 (hS : SumsOK Try.prog (aget (sums115))) : SumOK Try.prog 115 (s115 (R04_RightF)) := by
  refine SumOK.of_leads tab_ok (fun ar os r ha hr => ?_) ⟨Try.f115, rfl, by decide, rfl⟩
  replace hr : r115 (R04_RightF) ar (conts os) = some r := hr
  unfold r115 at hr
  generalize hc : conts os = C at hr
  replace hr := dV.elim hr; obtain ⟨v0, l1, y0, rfl, e0, hr⟩ := hr; obtain rfl := uvapi_Addr_eq _ _ e0
  replace hr := dFin hr; obtain ⟨rfl, rfl, x, h, rfl⟩ := hr
  obtain rfl := kinds_nil hc
  exact ⟨_, rfl, leads115 hS _ x h⟩
def R04_Right : api_Addr → Option Bool := R04_RightF
theorem lift115 : SumOK Try.prog 115 (s115 R04_Right) := ok115 (SumsOK.of_tab trivial)
def R04_PutF (R02_Put : Int → Int → Option (List UInt8)) (R04_Right : api_Addr → Option Bool) (a : api_Addr) : Option (List UInt8) :=
  (R04_Right a).bind fun xr =>
  cond (!xr)
    (
    some ([]))
    (
    cond (a.V6)
      (
      (R02_Put a.Hi 8).bind fun p =>
      (R02_Put a.Lo 8).bind fun p1 =>
      oreq (decide (p.length + p1.length < 2 ^ 63)) <|
      some (p ++ p1))
      (
      (R02_Put a.Lo 4).bind fun p2 =>
      some (p2)))
def rx112 (x : List UInt8) : SRes := ⟨.string ⟨⟨x⟩⟩, [], []⟩
def r112 (g : api_Addr → Option (List UInt8)) : Dec := dV uvapi_Addr fun (y0 : api_Addr) => dEnd (ofG (g y0) rx112)
theorem r112_c {g : api_Addr → Option (List UInt8)} {y0 : api_Addr} {x : List UInt8} (hx : g y0 = some x) : r112 g [.agg ⟨[.bool y0.V6, .int .u64 y0.Hi, .int .u64 y0.Lo]⟩] [] = some (rx112 x) := (dV_eq (uvapi_Addr_c _)).trans (ofG_eq hx)
def s112 (g : api_Addr → Option (List UInt8)) : Summ := ⟨[.v], r112 g⟩
theorem r112_eq {g : api_Addr → Option (List UInt8)} {y0 : api_Addr} {x : List UInt8} (hx : g y0 = some x) : (s112 g).run [.agg ⟨[.bool y0.V6, .int .u64 y0.Hi, .int .u64 y0.Lo]⟩] [] = some (rx112 x) := r112_c hx
abbrev sums112 (R02_Put : Int → Int → Option (List UInt8)) (R04_Right : api_Addr → Option Bool) : List (Nat × Summ) := [(104, s104 R02_Put), (115, s115 R04_Right)]
theorem leads112 (R02_Put : Int → Int → Option (List UInt8)) (R04_Right : api_Addr → Option Bool) (hS : SumsOK Try.prog (aget (sums112 R02_Put R04_Right))) (a : api_Addr) (res : List UInt8) (h : R04_PutF R02_Put R04_Right a = some res) :
    Leads Try.prog 112 0 ⟨⟨112, 18, [(0, .agg ⟨[.bool a.V6, .int .u64 a.Hi, .int .u64 a.Lo]⟩)], [.code k112_15], [], false, none⟩, [], [], 0⟩ (fun v H _ => Res 0 (rx112 res) v H) := by
  unfold R04_PutF at h
  refine ev_ok tab_ok hS true 3000 ?_
  conv => whnf
  replace h := obind.elim h; obtain ⟨xr, hy, h⟩ := h
  refine sumK.q rfl rfl (r115_eq hy) rfl rfl rfl ?_
  conv => whnf
  refine br.h h ?_ ?_ ?_
  · rfl
  · clear h; intro hb h; conv => whnf
    all_goals (cases h; exact Res.z rfl rfl rfl)
  clear h; intro hb h; conv => whnf
  refine br.h2 h ?_ ?_ ?_
  · rfl
  · clear h; intro hb h; conv => whnf
    replace h := obind.elim h; obtain ⟨p2, hy, h⟩ := h
    refine sumK.q rfl rfl (r104_eq hy) rfl rfl rfl ?_
    conv => whnf
    all_goals (cases h; exact Res.z rfl rfl rfl)
  clear h; intro hb h; conv => whnf
  replace h := obind.elim h; obtain ⟨p, hy, h⟩ := h
  refine sumK.q rfl rfl (r104_eq hy) rfl rfl rfl ?_
  conv => whnf
  replace h := obind.elim h; obtain ⟨p1, hy, h⟩ := h
  refine sumK.q rfl rfl (r104_eq hy) rfl rfl rfl ?_
  conv => whnf
  replace h := oreq.elim h; obtain ⟨hb, h⟩ := h
  first | (refine req.intro hb ?_; conv => whnf) | skip
  all_goals (cases h; exact Res.z rfl rfl rfl)
theorem ok112 (R02_Put : Int → Int → Option (List UInt8)) (R04_Right : api_Addr → Option Bool) (hS : SumsOK Try.prog (aget (sums112 R02_Put R04_Right))) : SumOK Try.prog 112 (s112 (R04_PutF R02_Put R04_Right)) := by
  refine SumOK.of_leads tab_ok (fun ar os r ha hr => ?_) ⟨Try.f112, rfl, by decide, rfl⟩
  replace hr : r112 (R04_PutF R02_Put R04_Right) ar (conts os) = some r := hr
  unfold r112 at hr
  generalize hc : conts os = C at hr
  replace hr := dV.elim hr; obtain ⟨v0, l1, y0, rfl, e0, hr⟩ := hr; obtain rfl := uvapi_Addr_eq _ _ e0
  replace hr := dFin hr; obtain ⟨rfl, rfl, x, h, rfl⟩ := hr
  obtain rfl := kinds_nil hc
  exact ⟨_, rfl, leads112 R02_Put R04_Right hS _ x h⟩
def R04_Put : api_Addr → Option (List UInt8) := R04_PutF R02_Put R04_Right
theorem lift112 : SumOK Try.prog 112 (s112 R04_Put) := ok112 R02_Put R04_Right (SumsOK.of_tab ⟨lift104, lift115, trivial⟩)
def addr_RightF (a : api_Addr) : Option Bool :=
  cond (a.V6)
    (
    some (true))
    (
    cond (a.Hi == 0)
      (
      some (decide (a.Lo < 4294967296)))
      (
      some (false)))
def rx82 (x : Bool) : SRes := ⟨.bool x, [], []⟩
def r82 (g : api_Addr → Option Bool) : Dec := dV uvapi_Addr fun (y0 : api_Addr) => dEnd (ofG (g y0) rx82)
theorem r82_c {g : api_Addr → Option Bool} {y0 : api_Addr} {x : Bool} (hx : g y0 = some x) : r82 g [.agg ⟨[.bool y0.V6, .int .u64 y0.Hi, .int .u64 y0.Lo]⟩] [] = some (rx82 x) := (dV_eq (uvapi_Addr_c _)).trans (ofG_eq hx)
def s82 (g : api_Addr → Option Bool) : Summ := ⟨[.v], r82 g⟩
theorem r82_eq {g : api_Addr → Option Bool} {y0 : api_Addr} {x : Bool} (hx : g y0 = some x) : (s82 g).run [.agg ⟨[.bool y0.V6, .int .u64 y0.Hi, .int .u64 y0.Lo]⟩] [] = some (rx82 x) := r82_c hx
abbrev sums82 : List (Nat × Summ) := []
theorem leads82 (hS : SumsOK Try.prog (aget (sums82))) (a : api_Addr) (res : Bool) (h : addr_RightF a = some res) :
    Leads Try.prog 82 0 ⟨⟨82, 15, [(0, .agg ⟨[.bool a.V6, .int .u64 a.Hi, .int .u64 a.Lo]⟩)], [.code k82_3], [], false, none⟩, [], [], 0⟩ (fun v H _ => Res 0 (rx82 res) v H) := by
  unfold addr_RightF at h
  refine ev_ok tab_ok hS true 3000 ?_
  conv => whnf
  refine br.h h ?_ ?_ ?_
  · rfl
  · clear h; intro hb h; conv => whnf
    all_goals (cases h; exact Res.z rfl rfl rfl)
  clear h; intro hb h; conv => whnf
  refine br.h h ?_ ?_ ?_
  · rfl
  · clear h; intro hb h; conv => whnf
    all_goals (cases h; exact Res.z rfl rfl rfl)
  clear h; intro hb h; conv => whnf
  all_goals (cases h; exact Res.z rfl rfl rfl)
theorem ok82 (hS : SumsOK Try.prog (aget (sums82))) : SumOK Try.prog 82 (s82 (addr_RightF)) := by
  refine SumOK.of_leads tab_ok (fun ar os r ha hr => ?_) ⟨Try.f82, rfl, by decide, rfl⟩
  replace hr : r82 (addr_RightF) ar (conts os) = some r := hr
  unfold r82 at hr
  generalize hc : conts os = C at hr
  replace hr := dV.elim hr; obtain ⟨v0, l1, y0, rfl, e0, hr⟩ := hr; obtain rfl := uvapi_Addr_eq _ _ e0
  replace hr := dFin hr; obtain ⟨rfl, rfl, x, h, rfl⟩ := hr
  obtain rfl := kinds_nil hc
  exact ⟨_, rfl, leads82 hS _ x h⟩
def addr_Right : api_Addr → Option Bool := addr_RightF
theorem lift82 : SumOK Try.prog 82 (s82 addr_Right) := ok82 (SumsOK.of_tab trivial)
def addr_PutF (addr_Right : api_Addr → Option Bool) (octet_Put : Int → Int → Option (List UInt8)) (a : api_Addr) : Option (List UInt8) :=
  (addr_Right a).bind fun xr =>
  cond (!xr)
    (
    some ([]))
    (
    cond (a.V6)
      (
      (octet_Put a.Hi 8).bind fun p =>
      (octet_Put a.Lo 8).bind fun p1 =>
      oreq (decide (p.length + p1.length < 2 ^ 63)) <|
      some (p ++ p1))
      (
      (octet_Put a.Lo 4).bind fun p2 =>
      some (p2)))
def rx110 (x : List UInt8) : SRes := ⟨.string ⟨⟨x⟩⟩, [], []⟩
def r110 (g : api_Addr → Option (List UInt8)) : Dec := dV uvapi_Addr fun (y0 : api_Addr) => dEnd (ofG (g y0) rx110)
theorem r110_c {g : api_Addr → Option (List UInt8)} {y0 : api_Addr} {x : List UInt8} (hx : g y0 = some x) : r110 g [.agg ⟨[.bool y0.V6, .int .u64 y0.Hi, .int .u64 y0.Lo]⟩] [] = some (rx110 x) := (dV_eq (uvapi_Addr_c _)).trans (ofG_eq hx)
def s110 (g : api_Addr → Option (List UInt8)) : Summ := ⟨[.v], r110 g⟩
theorem r110_eq {g : api_Addr → Option (List UInt8)} {y0 : api_Addr} {x : List UInt8} (hx : g y0 = some x) : (s110 g).run [.agg ⟨[.bool y0.V6, .int .u64 y0.Hi, .int .u64 y0.Lo]⟩] [] = some (rx110 x) := r110_c hx
abbrev sums110 (addr_Right : api_Addr → Option Bool) (octet_Put : Int → Int → Option (List UInt8)) : List (Nat × Summ) := [(82, s82 addr_Right), (109, s109 octet_Put)]
theorem leads110 (addr_Right : api_Addr → Option Bool) (octet_Put : Int → Int → Option (List UInt8)) (hS : SumsOK Try.prog (aget (sums110 addr_Right octet_Put))) (a : api_Addr) (res : List UInt8) (h : addr_PutF addr_Right octet_Put a = some res) :
    Leads Try.prog 110 0 ⟨⟨110, 20, [(0, .agg ⟨[.bool a.V6, .int .u64 a.Hi, .int .u64 a.Lo]⟩)], [.code k110_15], [], false, none⟩, [], [], 0⟩ (fun v H _ => Res 0 (rx110 res) v H) := by
  unfold addr_PutF at h
  refine ev_ok tab_ok hS true 3000 ?_
  conv => whnf
  replace h := obind.elim h; obtain ⟨xr, hy, h⟩ := h
  refine sumK.q rfl rfl (r82_eq hy) rfl rfl rfl ?_
  conv => whnf
  refine br.h h ?_ ?_ ?_
  · rfl
  · clear h; intro hb h; conv => whnf
    all_goals (cases h; exact Res.z rfl rfl rfl)
  clear h; intro hb h; conv => whnf
  refine br.h2 h ?_ ?_ ?_
  · rfl
  · clear h; intro hb h; conv => whnf
    replace h := obind.elim h; obtain ⟨p2, hy, h⟩ := h
    refine sumK.q rfl rfl (r109_eq hy) rfl rfl rfl ?_
    conv => whnf
    all_goals (cases h; exact Res.z rfl rfl rfl)
  clear h; intro hb h; conv => whnf
  replace h := obind.elim h; obtain ⟨p, hy, h⟩ := h
  refine sumK.q rfl rfl (r109_eq hy) rfl rfl rfl ?_
  conv => whnf
  replace h := obind.elim h; obtain ⟨p1, hy, h⟩ := h
  refine sumK.q rfl rfl (r109_eq hy) rfl rfl rfl ?_
  conv => whnf
  replace h := oreq.elim h; obtain ⟨hb, h⟩ := h
  first | (refine req.intro hb ?_; conv => whnf) | skip
  all_goals (cases h; exact Res.z rfl rfl rfl)
theorem ok110 (addr_Right : api_Addr → Option Bool) (octet_Put : Int → Int → Option (List UInt8)) (hS : SumsOK Try.prog (aget (sums110 addr_Right octet_Put))) : SumOK Try.prog 110 (s110 (addr_PutF addr_Right octet_Put)) := by
  refine SumOK.of_leads tab_ok (fun ar os r ha hr => ?_) ⟨Try.f110, rfl, by decide, rfl⟩
  replace hr : r110 (addr_PutF addr_Right octet_Put) ar (conts os) = some r := hr
  unfold r110 at hr
  generalize hc : conts os = C at hr
  replace hr := dV.elim hr; obtain ⟨v0, l1, y0, rfl, e0, hr⟩ := hr; obtain rfl := uvapi_Addr_eq _ _ e0
  replace hr := dFin hr; obtain ⟨rfl, rfl, x, h, rfl⟩ := hr
  obtain rfl := kinds_nil hc
  exact ⟨_, rfl, leads110 addr_Right octet_Put hS _ x h⟩
def addr_Put : api_Addr → Option (List UInt8) := addr_PutF addr_Right octet_Put
theorem lift110 : SumOK Try.prog 110 (s110 addr_Put) := ok110 addr_Right octet_Put (SumsOK.of_tab ⟨lift82, lift109, trivial⟩)
end Go.Vm.Code
namespace Go.Vm.Code
open Go Go.Vm
def adr (a : api_Addr) : Bool := a.V6 || (decide (a.Hi = 0) && decide (a.Lo < 4294967296))
def adB (a : api_Addr) : List UInt8 := cond a.V6 (be a.Hi.toNat 8 ++ be a.Lo.toNat 8) (be a.Lo.toNat 4)
theorem adB_len (a : api_Addr) : (adB a).length ≤ 16 := by unfold adB; cases a.V6 <;> simp
theorem tuRight_eq (a : api_Addr) : addr_Right a = some (adr a) := by
  unfold addr_Right addr_RightF adr
  cases a.V6 with
  | true => rfl
  | false =>
    rw [cond_false, Bool.false_or]
    by_cases h : a.Hi = 0
    · rw [h]; rfl
    · rw [beq_eq_false_iff_ne.2 h, cond_false, decide_eq_false h]; rfl
theorem raRight_eq (a : api_Addr) : R04_Right a = some (adr a) := tuRight_eq a
def inU (a : api_Addr) : Prop := (0 ≤ a.Hi ∧ a.Hi < 2 ^ 64) ∧ 0 ≤ a.Lo ∧ a.Lo < 2 ^ 64
theorem tuPut_eq {a : api_Addr} (h : inU a) (hr : adr a = true) : addr_Put a = some (adB a) := by
  unfold addr_Put addr_PutF adB
  rw [tuRight_eq, Option.bind_some, hr, Bool.not_true, cond_false]
  cases a.V6 with
  | true =>
    rw [cond_true, octet_Put_eq h.1.1, octet_Put_eq h.2.1]
    simp only [Option.bind_some, putS]
    rw [if_pos (by omega), if_pos (by omega), oreq_p (by simp)]; rfl
  | false =>
    rw [cond_false, octet_Put_eq h.2.1]
    simp only [Option.bind_some, putS]
    rw [if_pos (by omega)]; rfl
theorem raPut_eq {a : api_Addr} (h : inU a) (hr : adr a = true) : R04_Put a = some (adB a) := by
  unfold R04_Put R04_PutF adB
  rw [raRight_eq, Option.bind_some, hr, Bool.not_true, cond_false]
  cases a.V6 with
  | true =>
    rw [cond_true, R02_Put_eq h.1.1 h.1.2, R02_Put_eq h.2.1 h.2.2]
    simp only [Option.bind_some, putS]
    rw [if_pos (by omega), if_pos (by omega), oreq_p (by simp)]; rfl
  | false =>
    rw [cond_false, R02_Put_eq h.2.1 h.2.2]
    simp only [Option.bind_some, putS]
    rw [if_pos (by omega)]; rfl
end Go.Vm.Code
namespace Go.Vm.Code
open Go Go.Vm Go.Proofs
set_option maxRecDepth 100000
set_option maxHeartbeats 4000000
set_option linter.unusedVariables false
def R12_turnF (n : Int) (k : Int) : Option Int :=
  oreq (decide (0 ≤ k)) <|
  oreq (decide (0 ≤ (wI .i64 (64 - k)))) <|
  let t := n.fdiv (2 ^ (min (wI .i64 (64 - k)).toNat 64))
  let t1 := iorI .u64 (wI .u64 (n * 2 ^ (min k.toNat 64))) t
  some (t1)
def rx149 (x : Int) : SRes := ⟨.int .u64 x, [], []⟩
def r149 (g : Int → Int → Option Int) : Dec := dV (asI .u64) fun (y0 : Int) => dV (asI .i64) fun (y1 : Int) => dEnd (ofG (g y0 y1) rx149)
theorem r149_c {g : Int → Int → Option Int} {y0 : Int} {y1 : Int} {x : Int} (hx : g y0 y1 = some x) : r149 g [.int .u64 y0, .int .i64 y1] [] = some (rx149 x) := (dV_eq (asI_c _)).trans ((dV_eq (asI_c _)).trans (ofG_eq hx))
def s149 (g : Int → Int → Option Int) : Summ := ⟨[.v, .v], r149 g⟩
theorem r149_eq {g : Int → Int → Option Int} {y0 : Int} {y1 : Int} {x : Int} (hx : g y0 y1 = some x) : (s149 g).run [.int .u64 y0, .int .i64 y1] [] = some (rx149 x) := r149_c hx
abbrev sums149 : List (Nat × Summ) := []
theorem leads149 (hS : SumsOK Try.prog (aget (sums149))) (n : Int) (k : Int) (res : Int) (h : R12_turnF n k = some res) :
    Leads Try.prog 149 0 ⟨⟨149, 13, [(0, .int .u64 n), (1, .int .i64 k)], [.code k149_3], [], false, none⟩, [], [], 0⟩ (fun v H _ => Res 0 (rx149 res) v H) := by
  unfold R12_turnF at h
  refine ev_ok tab_ok hS true 3000 ?_
  conv => whnf
  replace h := oreq.elim h; obtain ⟨hb, h⟩ := h
  first | (refine req.intro hb ?_; conv => whnf) | skip
  replace h := oreq.elim h; obtain ⟨hb, h⟩ := h
  first | (refine req.intro hb ?_; conv => whnf) | skip
  let t : Int := n.fdiv (2 ^ (min (wI .i64 (64 - k)).toNat 64))
  let t1 : Int := iorI .u64 (wI .u64 (n * 2 ^ (min k.toNat 64))) t
  all_goals (cases h; exact Res.z rfl rfl rfl)
theorem ok149 (hS : SumsOK Try.prog (aget (sums149))) : SumOK Try.prog 149 (s149 (R12_turnF)) := by
  refine SumOK.of_leads tab_ok (fun ar os r ha hr => ?_) ⟨Try.f149, rfl, by decide, rfl⟩
  replace hr : r149 (R12_turnF) ar (conts os) = some r := hr
  unfold r149 at hr
  generalize hc : conts os = C at hr
  replace hr := dV.elim hr; obtain ⟨v0, l1, y0, rfl, e0, hr⟩ := hr; obtain rfl := asI_eq _ _ _ e0
  replace hr := dV.elim hr; obtain ⟨v1, l2, y1, rfl, e1, hr⟩ := hr; obtain rfl := asI_eq _ _ _ e1
  replace hr := dFin hr; obtain ⟨rfl, rfl, x, h, rfl⟩ := hr
  obtain rfl := kinds_nil hc
  exact ⟨_, rfl, leads149 hS _ _ x h⟩
def R12_turn : Int → Int → Option Int := R12_turnF
theorem lift149 : SumOK Try.prog 149 (s149 R12_turn) := ok149 (SumsOK.of_tab trivial)
def R12_RoundF (R12_turn : Int → Int → Option Int) (a : Int) (b : Int) (c : Int) (d : Int) : Option (Int × Int × Int × Int) :=
  (R12_turn b 13).bind fun t =>
  (R12_turn (wI .u64 (a + b)) 32).bind fun t1 =>
  (R12_turn d 16).bind fun t2 =>
  let t3 := wI .u64 (t1 + (ixorI .u64 t2 (wI .u64 (c + d))))
  (R12_turn (ixorI .u64 t2 (wI .u64 (c + d))) 21).bind fun t4 =>
  let t5 := wI .u64 ((wI .u64 (c + d)) + (ixorI .u64 t (wI .u64 (a + b))))
  (R12_turn (ixorI .u64 t (wI .u64 (a + b))) 17).bind fun t6 =>
  (R12_turn t5 32).bind fun t7 =>
  some ((t3, ixorI .u64 t6 t5, t7, ixorI .u64 t4 t3))
def rx136 (x : Int × Int × Int × Int) : SRes := ⟨.tuple ⟨[.int .u64 x.1, .int .u64 x.2.1, .int .u64 x.2.2.1, .int .u64 x.2.2.2]⟩, [], []⟩
def r136 (g : Int → Int → Int → Int → Option (Int × Int × Int × Int)) : Dec := dV (asI .u64) fun (y0 : Int) => dV (asI .u64) fun (y1 : Int) => dV (asI .u64) fun (y2 : Int) => dV (asI .u64) fun (y3 : Int) => dEnd (ofG (g y0 y1 y2 y3) rx136)
theorem r136_c {g : Int → Int → Int → Int → Option (Int × Int × Int × Int)} {y0 : Int} {y1 : Int} {y2 : Int} {y3 : Int} {x : Int × Int × Int × Int} (hx : g y0 y1 y2 y3 = some x) : r136 g [.int .u64 y0, .int .u64 y1, .int .u64 y2, .int .u64 y3] [] = some (rx136 x) := (dV_eq (asI_c _)).trans ((dV_eq (asI_c _)).trans ((dV_eq (asI_c _)).trans ((dV_eq (asI_c _)).trans (ofG_eq hx))))
def s136 (g : Int → Int → Int → Int → Option (Int × Int × Int × Int)) : Summ := ⟨[.v, .v, .v, .v], r136 g⟩
theorem r136_eq {g : Int → Int → Int → Int → Option (Int × Int × Int × Int)} {y0 : Int} {y1 : Int} {y2 : Int} {y3 : Int} {x : Int × Int × Int × Int} (hx : g y0 y1 y2 y3 = some x) : (s136 g).run [.int .u64 y0, .int .u64 y1, .int .u64 y2, .int .u64 y3] [] = some (rx136 x) := r136_c hx
abbrev sums136 (R12_turn : Int → Int → Option Int) : List (Nat × Summ) := [(149, s149 R12_turn)]
theorem leads136 (R12_turn : Int → Int → Option Int) (hS : SumsOK Try.prog (aget (sums136 R12_turn))) (a : Int) (b : Int) (c : Int) (d : Int) (res : Int × Int × Int × Int) (h : R12_RoundF R12_turn a b c d = some res) :
    Leads Try.prog 136 0 ⟨⟨136, 48, [(0, .int .u64 a), (1, .int .u64 b), (2, .int .u64 c), (3, .int .u64 d)], [.code k136_23], [], false, none⟩, [], [], 0⟩ (fun v H _ => Res 0 (rx136 res) v H) := by
  unfold R12_RoundF at h
  refine ev_ok tab_ok hS true 3000 ?_
  conv => whnf
  replace h := obind.elim h; obtain ⟨t, hy, h⟩ := h
  refine sumK.q rfl rfl (r149_eq hy) rfl rfl rfl ?_
  conv => whnf
  replace h := obind.elim h; obtain ⟨t1, hy, h⟩ := h
  refine sumK.q rfl rfl (r149_eq hy) rfl rfl rfl ?_
  conv => whnf
  replace h := obind.elim h; obtain ⟨t2, hy, h⟩ := h
  refine sumK.q rfl rfl (r149_eq hy) rfl rfl rfl ?_
  conv => whnf
  let t3 : Int := wI .u64 (t1 + (ixorI .u64 t2 (wI .u64 (c + d))))
  replace h := obind.elim h; obtain ⟨t4, hy, h⟩ := h
  refine sumK.q rfl rfl (r149_eq hy) rfl rfl rfl ?_
  conv => whnf
  let t5 : Int := wI .u64 ((wI .u64 (c + d)) + (ixorI .u64 t (wI .u64 (a + b))))
  replace h := obind.elim h; obtain ⟨t6, hy, h⟩ := h
  refine sumK.q rfl rfl (r149_eq hy) rfl rfl rfl ?_
  conv => whnf
  replace h := obind.elim h; obtain ⟨t7, hy, h⟩ := h
  refine sumK.q rfl rfl (r149_eq hy) rfl rfl rfl ?_
  conv => whnf
  all_goals (cases h; exact Res.z rfl rfl rfl)
theorem ok136 (R12_turn : Int → Int → Option Int) (hS : SumsOK Try.prog (aget (sums136 R12_turn))) : SumOK Try.prog 136 (s136 (R12_RoundF R12_turn)) := by
  refine SumOK.of_leads tab_ok (fun ar os r ha hr => ?_) ⟨Try.f136, rfl, by decide, rfl⟩
  replace hr : r136 (R12_RoundF R12_turn) ar (conts os) = some r := hr
  unfold r136 at hr
  generalize hc : conts os = C at hr
  replace hr := dV.elim hr; obtain ⟨v0, l1, y0, rfl, e0, hr⟩ := hr; obtain rfl := asI_eq _ _ _ e0
  replace hr := dV.elim hr; obtain ⟨v1, l2, y1, rfl, e1, hr⟩ := hr; obtain rfl := asI_eq _ _ _ e1
  replace hr := dV.elim hr; obtain ⟨v2, l3, y2, rfl, e2, hr⟩ := hr; obtain rfl := asI_eq _ _ _ e2
  replace hr := dV.elim hr; obtain ⟨v3, l4, y3, rfl, e3, hr⟩ := hr; obtain rfl := asI_eq _ _ _ e3
  replace hr := dFin hr; obtain ⟨rfl, rfl, x, h, rfl⟩ := hr
  obtain rfl := kinds_nil hc
  exact ⟨_, rfl, leads136 R12_turn hS _ _ _ _ x h⟩
def R12_Round : Int → Int → Int → Int → Option (Int × Int × Int × Int) := R12_RoundF R12_turn
theorem lift136 : SumOK Try.prog 136 (s136 R12_Round) := ok136 R12_turn (SumsOK.of_tab ⟨lift149, trivial⟩)
def R12_Mix_s1 (R12_Round : Int → Int → Int → Int → Option (Int × Int × Int × Int)) (rounds : Int) (a1 : Int) (b1 : Int) (c1 : Int) (d1 : Int) (i : Int) : Option (Sum (Int × Int × Int × Int × Int) Arr4_Int) :=
  cond (decide (i < rounds))
    (
    cond (decide (i < 64))
      (
      (R12_Round a1 b1 c1 d1).bind fun xr =>
      some (.inl (xr.1, xr.2.1, xr.2.2.1, xr.2.2.2, wI .i64 (i + 1))))
      (
      some (.inr (Arr4_Int.mk a1 b1 c1 d1))))
    (
    some (.inr (Arr4_Int.mk a1 b1 c1 d1)))
def R12_MixF (R12_Round : Int → Int → Int → Int → Option (Int × Int × Int × Int)) (a : Int) (b : Int) (c : Int) (d : Int) (rounds : Int) : Option Arr4_Int :=
  iter (fun st => R12_Mix_s1 R12_Round rounds st.1 st.2.1 st.2.2.1 st.2.2.2.1 st.2.2.2.2) FUEL (a, b, c, d, 0)
def rx137 (x : Arr4_Int) : SRes := ⟨.agg ⟨[.int .u64 x.e0, .int .u64 x.e1, .int .u64 x.e2, .int .u64 x.e3]⟩, [], []⟩
def r137 (g : Int → Int → Int → Int → Int → Option Arr4_Int) : Dec := dV (asI .u64) fun (y0 : Int) => dV (asI .u64) fun (y1 : Int) => dV (asI .u64) fun (y2 : Int) => dV (asI .u64) fun (y3 : Int) => dV (asI .i64) fun (y4 : Int) => dEnd (ofG (g y0 y1 y2 y3 y4) rx137)
theorem r137_c {g : Int → Int → Int → Int → Int → Option Arr4_Int} {y0 : Int} {y1 : Int} {y2 : Int} {y3 : Int} {y4 : Int} {x : Arr4_Int} (hx : g y0 y1 y2 y3 y4 = some x) : r137 g [.int .u64 y0, .int .u64 y1, .int .u64 y2, .int .u64 y3, .int .i64 y4] [] = some (rx137 x) := (dV_eq (asI_c _)).trans ((dV_eq (asI_c _)).trans ((dV_eq (asI_c _)).trans ((dV_eq (asI_c _)).trans ((dV_eq (asI_c _)).trans (ofG_eq hx)))))
def s137 (g : Int → Int → Int → Int → Int → Option Arr4_Int) : Summ := ⟨[.v, .v, .v, .v, .v], r137 g⟩
theorem r137_eq {g : Int → Int → Int → Int → Int → Option Arr4_Int} {y0 : Int} {y1 : Int} {y2 : Int} {y3 : Int} {y4 : Int} {x : Arr4_Int} (hx : g y0 y1 y2 y3 y4 = some x) : (s137 g).run [.int .u64 y0, .int .u64 y1, .int .u64 y2, .int .u64 y3, .int .i64 y4] [] = some (rx137 x) := r137_c hx
abbrev sums137 (R12_Round : Int → Int → Int → Int → Option (Int × Int × Int × Int)) : List (Nat × Summ) := [(136, s136 R12_Round)]
def head137_1 (rounds : Int) (a1 : Int) (b1 : Int) (c1 : Int) (d1 : Int) (i : Int) : VM :=
  ⟨⟨137, 36, [(0, .int .u64 a1), (1, .int .u64 b1), (2, .int .u64 c1), (3, .int .u64 d1), (4, .int .i64 rounds), (10, .pointer (some ⟨0, 0, none⟩)), (11, .int .i64 i)], [.code k137_9, .inLoop k137_9, .inBlock 0, .code k137_14], [], false, none⟩, [], [(0, .cells [.int .u64 0, .int .u64 0, .int .u64 0, .int .u64 0])], 1⟩
theorem loop137_1 (R12_Round : Int → Int → Int → Int → Option (Int × Int × Int × Int)) (hS : SumsOK Try.prog (aget (sums137 R12_Round))) (rounds : Int) (res : Arr4_Int) : ∀ fuel (st : Int × Int × Int × Int × Int) (o : Arr4_Int), iter (fun st => R12_Mix_s1 R12_Round rounds st.1 st.2.1 st.2.2.1 st.2.2.2.1 st.2.2.2.2) fuel st = some o → (o = res) →
    Leads Try.prog 137 0 (head137_1 rounds st.1 st.2.1 st.2.2.1 st.2.2.2.1 st.2.2.2.2) (fun v H _ => Res 0 (rx137 res) v H) := by
  intro fuel st o h hc
  refine iter_leads (head := fun st => head137_1 rounds st.1 st.2.1 st.2.2.1 st.2.2.2.1 st.2.2.2.2) (C := fun o => (o = res)) ?_ fuel st o h hc
  clear h hc o st fuel
  intro st o h hc
  obtain ⟨a1, b1, c1, d1, i⟩ := st
  replace h : R12_Mix_s1 R12_Round rounds a1 b1 c1 d1 i = some o := h
  show Leads Try.prog 137 0 (head137_1 rounds a1 b1 c1 d1 i) (fun v H _ => Res 0 (rx137 res) v H)
  unfold R12_Mix_s1 at h
  refine ev_ok tab_ok hS true 3000 ?_
  conv => whnf
  refine br.h2 h ?_ ?_ ?_
  · rfl
  · clear h; intro hb h; conv => whnf
    all_goals (cases h; cases hc; exact Res.z rfl rfl rfl)
  clear h; intro hb h; conv => whnf
  refine br.h2 h ?_ ?_ ?_
  · rfl
  · clear h; intro hb h; conv => whnf
    all_goals (cases h; cases hc; exact Res.z rfl rfl rfl)
  clear h; intro hb h; conv => whnf
  replace h := obind.elim h; obtain ⟨xr, hy, h⟩ := h
  refine sumK.q rfl rfl (r136_eq hy) rfl rfl rfl ?_
  conv => whnf
  cases h; simp only [Sum.elim_inl, head137_1] at hc
  exact lrA0 hc [(0, 0)] rfl
theorem leads137 (R12_Round : Int → Int → Int → Int → Option (Int × Int × Int × Int)) (hS : SumsOK Try.prog (aget (sums137 R12_Round))) (a : Int) (b : Int) (c : Int) (d : Int) (rounds : Int) (res : Arr4_Int) (h : R12_MixF R12_Round a b c d rounds = some res) :
    Leads Try.prog 137 0 ⟨⟨137, 36, [(0, .int .u64 a), (1, .int .u64 b), (2, .int .u64 c), (3, .int .u64 d), (4, .int .i64 rounds)], [.code k137_16], [], false, none⟩, [], [], 0⟩ (fun v H _ => Res 0 (rx137 res) v H) := by
  unfold R12_MixF at h
  refine ev_ok tab_ok hS true 3000 ?_
  conv => whnf
  have hl := loop137_1 R12_Round hS _ res _ _ _ h rfl; simp only [head137_1] at hl
  exact lrA0 hl [(0, 0)] rfl
theorem ok137 (R12_Round : Int → Int → Int → Int → Option (Int × Int × Int × Int)) (hS : SumsOK Try.prog (aget (sums137 R12_Round))) : SumOK Try.prog 137 (s137 (R12_MixF R12_Round)) := by
  refine SumOK.of_leads tab_ok (fun ar os r ha hr => ?_) ⟨Try.f137, rfl, by decide, rfl⟩
  replace hr : r137 (R12_MixF R12_Round) ar (conts os) = some r := hr
  unfold r137 at hr
  generalize hc : conts os = C at hr
  replace hr := dV.elim hr; obtain ⟨v0, l1, y0, rfl, e0, hr⟩ := hr; obtain rfl := asI_eq _ _ _ e0
  replace hr := dV.elim hr; obtain ⟨v1, l2, y1, rfl, e1, hr⟩ := hr; obtain rfl := asI_eq _ _ _ e1
  replace hr := dV.elim hr; obtain ⟨v2, l3, y2, rfl, e2, hr⟩ := hr; obtain rfl := asI_eq _ _ _ e2
  replace hr := dV.elim hr; obtain ⟨v3, l4, y3, rfl, e3, hr⟩ := hr; obtain rfl := asI_eq _ _ _ e3
  replace hr := dV.elim hr; obtain ⟨v4, l5, y4, rfl, e4, hr⟩ := hr; obtain rfl := asI_eq _ _ _ e4
  replace hr := dFin hr; obtain ⟨rfl, rfl, x, h, rfl⟩ := hr
  obtain rfl := kinds_nil hc
  exact ⟨_, rfl, leads137 R12_Round hS _ _ _ _ _ x h⟩
def R12_Mix : Int → Int → Int → Int → Int → Option Arr4_Int := R12_MixF R12_Round
theorem lift137 : SumOK Try.prog 137 (s137 R12_Mix) := ok137 R12_Round (SumsOK.of_tab ⟨lift136, trivial⟩)
def sip_NewF (k : api_Key) : Option sip_Hasher :=
  some (sip_Hasher.mk true (Arr4_Int.mk (ixorI .u64 8317987319222330741 k.A) (ixorI .u64 7237128888997146477 k.B) (ixorI .u64 7816392313619706465 k.A) (ixorI .u64 8387220255154660723 k.B)) 0 0)
def rx132 (x : sip_Hasher) : SRes := ⟨.pointer (some ⟨0, 0, none⟩), [[.bool x.made, .int .u64 x.s.e0, .int .u64 x.s.e1, .int .u64 x.s.e2, .int .u64 x.s.e3, .int .u64 x.last, .int .i64 x.count]], []⟩
def r132 (g : api_Key → Option sip_Hasher) : Dec := dV uvapi_Key fun (y0 : api_Key) => dEnd (ofG (g y0) rx132)
theorem r132_c {g : api_Key → Option sip_Hasher} {y0 : api_Key} {x : sip_Hasher} (hx : g y0 = some x) : r132 g [.agg ⟨[.int .u64 y0.A, .int .u64 y0.B]⟩] [] = some (rx132 x) := (dV_eq (uvapi_Key_c _)).trans (ofG_eq hx)
def s132 (g : api_Key → Option sip_Hasher) : Summ := ⟨[.v], r132 g⟩
theorem r132_eq {g : api_Key → Option sip_Hasher} {y0 : api_Key} {x : sip_Hasher} (hx : g y0 = some x) : (s132 g).run [.agg ⟨[.int .u64 y0.A, .int .u64 y0.B]⟩] [] = some (rx132 x) := r132_c hx
abbrev sums132 : List (Nat × Summ) := []
theorem leads132 (hS : SumsOK Try.prog (aget (sums132))) (k : api_Key) (res : sip_Hasher) (h : sip_NewF k = some res) :
    Leads Try.prog 132 0 ⟨⟨132, 18, [(0, .agg ⟨[.int .u64 k.A, .int .u64 k.B]⟩)], [.code k132_3], [], false, none⟩, [], [], 0⟩ (fun v H _ => Res 0 (rx132 res) v H) := by
  unfold sip_NewF at h
  refine ev_ok tab_ok hS true 3000 ?_
  conv => whnf
  all_goals (cases h)
  all_goals exact Res.of [1] rfl (nw_s (rfl) (hs_cells rfl) nw_0) (by decide) (js_l (by decide) js_0) wr_0
theorem ok132 (hS : SumsOK Try.prog (aget (sums132))) : SumOK Try.prog 132 (s132 (sip_NewF)) := by
  refine SumOK.of_leads tab_ok (fun ar os r ha hr => ?_) ⟨Try.f132, rfl, by decide, rfl⟩
  replace hr : r132 (sip_NewF) ar (conts os) = some r := hr
  unfold r132 at hr
  generalize hc : conts os = C at hr
  replace hr := dV.elim hr; obtain ⟨v0, l1, y0, rfl, e0, hr⟩ := hr; obtain rfl := uvapi_Key_eq _ _ e0
  replace hr := dFin hr; obtain ⟨rfl, rfl, x, h, rfl⟩ := hr
  obtain rfl := kinds_nil hc
  exact ⟨_, rfl, leads132 hS _ x h⟩
def sip_New : api_Key → Option sip_Hasher := sip_NewF
theorem lift132 : SumOK Try.prog 132 (s132 sip_New) := ok132 (SumsOK.of_tab trivial)
def math_bits_RotateLeft64F (x : Int) (k : Int) : Option Int :=
  oreq (decide (0 ≤ (andI .u64 (wI .u64 k) 63))) <|
  let t := wI .u64 (x * 2 ^ (min (andI .u64 (wI .u64 k) 63).toNat 64))
  let t1 := wI .u64 (64 - (andI .u64 (wI .u64 k) 63))
  oreq (decide (0 ≤ t1)) <|
  let t2 := iorI .u64 t (x.fdiv (2 ^ (min t1.toNat 64)))
  some (t2)
def rx159 (x : Int) : SRes := ⟨.int .u64 x, [], []⟩
def r159 (g : Int → Int → Option Int) : Dec := dV (asI .u64) fun (y0 : Int) => dV (asI .i64) fun (y1 : Int) => dEnd (ofG (g y0 y1) rx159)
theorem r159_c {g : Int → Int → Option Int} {y0 : Int} {y1 : Int} {x : Int} (hx : g y0 y1 = some x) : r159 g [.int .u64 y0, .int .i64 y1] [] = some (rx159 x) := (dV_eq (asI_c _)).trans ((dV_eq (asI_c _)).trans (ofG_eq hx))
def s159 (g : Int → Int → Option Int) : Summ := ⟨[.v, .v], r159 g⟩
theorem r159_eq {g : Int → Int → Option Int} {y0 : Int} {y1 : Int} {x : Int} (hx : g y0 y1 = some x) : (s159 g).run [.int .u64 y0, .int .i64 y1] [] = some (rx159 x) := r159_c hx
abbrev sums159 : List (Nat × Summ) := []
theorem leads159 (hS : SumsOK Try.prog (aget (sums159))) (x : Int) (k : Int) (res : Int) (h : math_bits_RotateLeft64F x k = some res) :
    Leads Try.prog 159 0 ⟨⟨159, 17, [(0, .int .u64 x), (1, .int .i64 k)], [.code k159_5], [], false, none⟩, [], [], 0⟩ (fun v H _ => Res 0 (rx159 res) v H) := by
  unfold math_bits_RotateLeft64F at h
  refine ev_ok tab_ok hS true 3000 ?_
  conv => whnf
  replace h := oreq.elim h; obtain ⟨hb, h⟩ := h
  first | (refine req.intro hb ?_; conv => whnf) | skip
  let t : Int := wI .u64 (x * 2 ^ (min (andI .u64 (wI .u64 k) 63).toNat 64))
  let t1 : Int := wI .u64 (64 - (andI .u64 (wI .u64 k) 63))
  replace h := oreq.elim h; obtain ⟨hb, h⟩ := h
  first | (refine req.intro hb ?_; conv => whnf) | skip
  let t2 : Int := iorI .u64 t (x.fdiv (2 ^ (min t1.toNat 64)))
  all_goals (cases h; exact Res.z rfl rfl rfl)
theorem ok159 (hS : SumsOK Try.prog (aget (sums159))) : SumOK Try.prog 159 (s159 (math_bits_RotateLeft64F)) := by
  refine SumOK.of_leads tab_ok (fun ar os r ha hr => ?_) ⟨Try.f159, rfl, by decide, rfl⟩
  replace hr : r159 (math_bits_RotateLeft64F) ar (conts os) = some r := hr
  unfold r159 at hr
  generalize hc : conts os = C at hr
  replace hr := dV.elim hr; obtain ⟨v0, l1, y0, rfl, e0, hr⟩ := hr; obtain rfl := asI_eq _ _ _ e0
  replace hr := dV.elim hr; obtain ⟨v1, l2, y1, rfl, e1, hr⟩ := hr; obtain rfl := asI_eq _ _ _ e1
  replace hr := dFin hr; obtain ⟨rfl, rfl, x, h, rfl⟩ := hr
  obtain rfl := kinds_nil hc
  exact ⟨_, rfl, leads159 hS _ _ x h⟩
def math_bits_RotateLeft64 : Int → Int → Option Int := math_bits_RotateLeft64F
theorem lift159 : SumOK Try.prog 159 (s159 math_bits_RotateLeft64) := ok159 (SumsOK.of_tab trivial)
def sip_state_roundF (math_bits_RotateLeft64 : Int → Int → Option Int) (s : Arr4_Int) : Option Arr4_Int :=
  (math_bits_RotateLeft64 s.e1 13).bind fun xr =>
  (math_bits_RotateLeft64 (wI .u64 (s.e0 + s.e1)) 32).bind fun xr1 =>
  (math_bits_RotateLeft64 s.e3 16).bind fun xr2 =>
  let t := wI .u64 (xr1 + (ixorI .u64 xr2 (wI .u64 (s.e2 + s.e3))))
  (math_bits_RotateLeft64 (ixorI .u64 xr2 (wI .u64 (s.e2 + s.e3))) 21).bind fun xr3 =>
  let t1 := wI .u64 ((wI .u64 (s.e2 + s.e3)) + (ixorI .u64 xr (wI .u64 (s.e0 + s.e1))))
  (math_bits_RotateLeft64 (ixorI .u64 xr (wI .u64 (s.e0 + s.e1))) 17).bind fun xr4 =>
  (math_bits_RotateLeft64 t1 32).bind fun xr5 =>
  some (Arr4_Int.mk t (ixorI .u64 xr4 t1) xr5 (ixorI .u64 xr3 t))
def rx154 (x : Arr4_Int) : SRes := ⟨.tuple ⟨[]⟩, [], [some [.int .u64 x.e0, .int .u64 x.e1, .int .u64 x.e2, .int .u64 x.e3]]⟩
def r154 (g : Arr4_Int → Option Arr4_Int) : Dec := dPt 0 unArr4_Int fun (y0 : Arr4_Int) => dEnd (ofG (g y0) rx154)
theorem r154_c {g : Arr4_Int → Option Arr4_Int} {y0 : Arr4_Int} {x : Arr4_Int} (hx : g y0 = some x) : r154 g [.pointer (some ⟨0, 0, none⟩)] [some [.int .u64 y0.e0, .int .u64 y0.e1, .int .u64 y0.e2, .int .u64 y0.e3]] = some (rx154 x) := (dPt_eq (unArr4_Int_c _)).trans (ofG_eq hx)
def s154 (g : Arr4_Int → Option Arr4_Int) : Summ := ⟨[.pt 4], r154 g⟩
theorem r154_eq {g : Arr4_Int → Option Arr4_Int} {y0 : Arr4_Int} {x : Arr4_Int} (hx : g y0 = some x) : (s154 g).run [.pointer (some ⟨0, 0, none⟩)] [some [.int .u64 y0.e0, .int .u64 y0.e1, .int .u64 y0.e2, .int .u64 y0.e3]] = some (rx154 x) := r154_c hx
abbrev sums154 (math_bits_RotateLeft64 : Int → Int → Option Int) : List (Nat × Summ) := [(159, s159 math_bits_RotateLeft64)]
theorem leads154 (math_bits_RotateLeft64 : Int → Int → Option Int) (hS : SumsOK Try.prog (aget (sums154 math_bits_RotateLeft64))) (s : Arr4_Int) (res : Arr4_Int) (h : sip_state_roundF math_bits_RotateLeft64 s = some res) :
    Leads Try.prog 154 1 ⟨⟨154, 114, [(0, .pointer (some ⟨0, 0, none⟩))], [.code k154_18], [], false, none⟩, [], [(0, .cells [.int .u64 s.e0, .int .u64 s.e1, .int .u64 s.e2, .int .u64 s.e3])], 1⟩ (fun v H _ => Res 1 (rx154 res) v H) := by
  unfold sip_state_roundF at h
  refine ev_ok tab_ok hS true 3000 ?_
  conv => whnf
  replace h := obind.elim h; obtain ⟨xr, hy, h⟩ := h
  refine sumK.q rfl rfl (r159_eq hy) rfl rfl rfl ?_
  conv => whnf
  replace h := obind.elim h; obtain ⟨xr1, hy, h⟩ := h
  refine sumK.q rfl rfl (r159_eq hy) rfl rfl rfl ?_
  conv => whnf
  replace h := obind.elim h; obtain ⟨xr2, hy, h⟩ := h
  refine sumK.q rfl rfl (r159_eq hy) rfl rfl rfl ?_
  conv => whnf
  let t : Int := wI .u64 (xr1 + (ixorI .u64 xr2 (wI .u64 (s.e2 + s.e3))))
  replace h := obind.elim h; obtain ⟨xr3, hy, h⟩ := h
  refine sumK.q rfl rfl (r159_eq hy) rfl rfl rfl ?_
  conv => whnf
  let t1 : Int := wI .u64 ((wI .u64 (s.e2 + s.e3)) + (ixorI .u64 xr (wI .u64 (s.e0 + s.e1))))
  replace h := obind.elim h; obtain ⟨xr4, hy, h⟩ := h
  refine sumK.q rfl rfl (r159_eq hy) rfl rfl rfl ?_
  conv => whnf
  replace h := obind.elim h; obtain ⟨xr5, hy, h⟩ := h
  refine sumK.q rfl rfl (r159_eq hy) rfl rfl rfl ?_
  conv => whnf
  all_goals (cases h)
  all_goals exact Res.of [] rfl nw_0 (by decide) js_0 (wr_s (rfl) (hs_cells rfl) wr_0)
theorem ok154 (math_bits_RotateLeft64 : Int → Int → Option Int) (hS : SumsOK Try.prog (aget (sums154 math_bits_RotateLeft64))) : SumOK Try.prog 154 (s154 (sip_state_roundF math_bits_RotateLeft64)) := by
  refine SumOK.of_leads tab_ok (fun ar os r ha hr => ?_) ⟨Try.f154, rfl, by decide, rfl⟩
  replace hr : r154 (sip_state_roundF math_bits_RotateLeft64) ar (conts os) = some r := hr
  unfold r154 at hr
  generalize hc : conts os = C at hr
  have hq := dPt.elim hr; clear hr; obtain ⟨c0, l1, C, y0, rfl, rfl, e0, hr⟩ := hq; obtain rfl := unArr4_Int_eq _ _ e0
  replace hr := dFin hr; obtain ⟨rfl, rfl, x, h, rfl⟩ := hr
  obtain ⟨os, rfl, ha, hc⟩ := kinds_some ha hc
  obtain rfl := kinds_nil hc
  exact ⟨_, rfl, leads154 math_bits_RotateLeft64 hS _ x h⟩
def sip_state_round : Arr4_Int → Option Arr4_Int := sip_state_roundF math_bits_RotateLeft64
theorem lift154 : SumOK Try.prog 154 (s154 sip_state_round) := ok154 math_bits_RotateLeft64 (SumsOK.of_tab ⟨lift159, trivial⟩)
def sip_state_mix_s1 (sip_state_round : Arr4_Int → Option Arr4_Int) (t : Int) (t7 : Int) (s1 : Int) (s2 : Int) (s3 : Int) (s4 : Int) : Option (Sum (Int × Int × Int × Int × Int) Arr4_Int) :=
  cond (decide (t7 < t))
    (
    (sip_state_round (Arr4_Int.mk s1 s2 s3 s4)).bind fun xr =>
    some (.inl (wI .i64 (t7 + 1), xr.e0, xr.e1, xr.e2, xr.e3)))
    (
    some (.inr (Arr4_Int.mk s1 s2 s3 s4)))
def sip_state_mixF (sip_state_round : Arr4_Int → Option Arr4_Int) (s : Arr4_Int) (rounds : Int) : Option Arr4_Int :=
  let t := if (if 64 < rounds then 64 else rounds) > 0 then if 64 < rounds then 64 else rounds else 0
  iter (fun st => sip_state_mix_s1 sip_state_round t st.1 st.2.1 st.2.2.1 st.2.2.2.1 st.2.2.2.2) FUEL (0, s.e0, s.e1, s.e2, s.e3)
def rx148 (x : Arr4_Int) : SRes := ⟨.tuple ⟨[]⟩, [], [some [.int .u64 x.e0, .int .u64 x.e1, .int .u64 x.e2, .int .u64 x.e3]]⟩
def r148 (g : Arr4_Int → Int → Option Arr4_Int) : Dec := dPt 0 unArr4_Int fun (y0 : Arr4_Int) => dV (asI .i64) fun (y1 : Int) => dEnd (ofG (g y0 y1) rx148)
theorem r148_c {g : Arr4_Int → Int → Option Arr4_Int} {y0 : Arr4_Int} {y1 : Int} {x : Arr4_Int} (hx : g y0 y1 = some x) : r148 g [.pointer (some ⟨0, 0, none⟩), .int .i64 y1] [some [.int .u64 y0.e0, .int .u64 y0.e1, .int .u64 y0.e2, .int .u64 y0.e3]] = some (rx148 x) := (dPt_eq (unArr4_Int_c _)).trans ((dV_eq (asI_c _)).trans (ofG_eq hx))
def s148 (g : Arr4_Int → Int → Option Arr4_Int) : Summ := ⟨[.pt 4, .v], r148 g⟩
theorem r148_eq {g : Arr4_Int → Int → Option Arr4_Int} {y0 : Arr4_Int} {y1 : Int} {x : Arr4_Int} (hx : g y0 y1 = some x) : (s148 g).run [.pointer (some ⟨0, 0, none⟩), .int .i64 y1] [some [.int .u64 y0.e0, .int .u64 y0.e1, .int .u64 y0.e2, .int .u64 y0.e3]] = some (rx148 x) := r148_c hx
abbrev sums148 (sip_state_round : Arr4_Int → Option Arr4_Int) : List (Nat × Summ) := [(154, s154 sip_state_round)]
def head148_1 (t : Int) (t7 : Int) (s1 : Int) (s2 : Int) (s3 : Int) (s4 : Int) : VM :=
  ⟨⟨148, 12, [(0, .pointer (some ⟨0, 0, none⟩)), (6, .int .i64 t), (7, .int .i64 t7)], [.code k148_8, .inLoop k148_8, .inBlock 0], [], false, none⟩, [], [(0, .cells [.int .u64 s1, .int .u64 s2, .int .u64 s3, .int .u64 s4])], 1⟩
theorem loop148_1 (sip_state_round : Arr4_Int → Option Arr4_Int) (hS : SumsOK Try.prog (aget (sums148 sip_state_round))) (t : Int) (res : Arr4_Int) : ∀ fuel (st : Int × Int × Int × Int × Int) (o : Arr4_Int), iter (fun st => sip_state_mix_s1 sip_state_round t st.1 st.2.1 st.2.2.1 st.2.2.2.1 st.2.2.2.2) fuel st = some o → (o = res) →
    Leads Try.prog 148 1 (head148_1 t st.1 st.2.1 st.2.2.1 st.2.2.2.1 st.2.2.2.2) (fun v H _ => Res 1 (rx148 res) v H) := by
  intro fuel st o h hc
  refine iter_leads (head := fun st => head148_1 t st.1 st.2.1 st.2.2.1 st.2.2.2.1 st.2.2.2.2) (C := fun o => (o = res)) ?_ fuel st o h hc
  clear h hc o st fuel
  intro st o h hc
  obtain ⟨t7, s1, s2, s3, s4⟩ := st
  replace h : sip_state_mix_s1 sip_state_round t t7 s1 s2 s3 s4 = some o := h
  show Leads Try.prog 148 1 (head148_1 t t7 s1 s2 s3 s4) (fun v H _ => Res 1 (rx148 res) v H)
  unfold sip_state_mix_s1 at h
  refine ev_ok tab_ok hS true 3000 ?_
  conv => whnf
  refine br.h2 h ?_ ?_ ?_
  · rfl
  · clear h; intro hb h; conv => whnf
    all_goals (cases h; cases hc)
    all_goals exact Res.of [] rfl nw_0 (by decide) js_0 (wr_s (rfl) (hs_cells rfl) wr_0)
  clear h; intro hb h; conv => whnf
  replace h := obind.elim h; obtain ⟨xr, hy, h⟩ := h
  refine sumK.introF [0] (sumRun_of (aqs := [.pointer (some ⟨0, 0, none⟩)]) (ws := [.win 0 0 4 true]) (n := 0) (m := 0) (t' := 1) (ra_cons rfl rfl ra_nil) rfl (by rfl) (r154_eq hy) rfl rfl rfl rfl (wb_win rfl rfl rfl ⟨rfl, Nat.le_of_ble_eq_true rfl⟩ rfl rfl wb_nil) an_nil rfl) ?_
  conv => whnf
  cases h; simp only [Sum.elim_inl, head148_1] at hc
  exact lrA0 hc [(0, 0)] rfl
theorem leads148 (sip_state_round : Arr4_Int → Option Arr4_Int) (hS : SumsOK Try.prog (aget (sums148 sip_state_round))) (s : Arr4_Int) (rounds : Int) (res : Arr4_Int) (h : sip_state_mixF sip_state_round s rounds = some res) :
    Leads Try.prog 148 1 ⟨⟨148, 12, [(0, .pointer (some ⟨0, 0, none⟩)), (1, .int .i64 rounds)], [.code k148_11], [], false, none⟩, [], [(0, .cells [.int .u64 s.e0, .int .u64 s.e1, .int .u64 s.e2, .int .u64 s.e3])], 1⟩ (fun v H _ => Res 1 (rx148 res) v H) := by
  unfold sip_state_mixF at h
  refine ev_ok tab_ok hS true 3000 ?_
  conv => whnf
  let t : Int := if (if 64 < rounds then 64 else rounds) > 0 then if 64 < rounds then 64 else rounds else 0
  have hl := loop148_1 sip_state_round hS _ res _ _ _ h rfl; simp only [head148_1] at hl
  exact lrA0 hl [(0, 0)] rfl
theorem ok148 (sip_state_round : Arr4_Int → Option Arr4_Int) (hS : SumsOK Try.prog (aget (sums148 sip_state_round))) : SumOK Try.prog 148 (s148 (sip_state_mixF sip_state_round)) := by
  refine SumOK.of_leads tab_ok (fun ar os r ha hr => ?_) ⟨Try.f148, rfl, by decide, rfl⟩
  replace hr : r148 (sip_state_mixF sip_state_round) ar (conts os) = some r := hr
  unfold r148 at hr
  generalize hc : conts os = C at hr
  have hq := dPt.elim hr; clear hr; obtain ⟨c0, l1, C, y0, rfl, rfl, e0, hr⟩ := hq; obtain rfl := unArr4_Int_eq _ _ e0
  replace hr := dV.elim hr; obtain ⟨v1, l2, y1, rfl, e1, hr⟩ := hr; obtain rfl := asI_eq _ _ _ e1
  replace hr := dFin hr; obtain ⟨rfl, rfl, x, h, rfl⟩ := hr
  obtain ⟨os, rfl, ha, hc⟩ := kinds_some ha hc
  obtain rfl := kinds_nil hc
  exact ⟨_, rfl, leads148 sip_state_round hS _ _ x h⟩
def sip_state_mix : Arr4_Int → Int → Option Arr4_Int := sip_state_mixF sip_state_round
theorem lift148 : SumOK Try.prog 148 (s148 sip_state_mix) := ok148 sip_state_round (SumsOK.of_tab ⟨lift154, trivial⟩)
def sip_state_takeF (sip_state_mix : Arr4_Int → Int → Option Arr4_Int) (s : Arr4_Int) (m : Int) : Option Arr4_Int :=
  (sip_state_mix (Arr4_Int.mk s.e0 s.e1 s.e2 (ixorI .u64 s.e3 m)) 2).bind fun m1 =>
  some (Arr4_Int.mk (ixorI .u64 m1.e0 m) m1.e1 m1.e2 m1.e3)
def rx147 (x : Arr4_Int) : SRes := ⟨.tuple ⟨[]⟩, [], [some [.int .u64 x.e0, .int .u64 x.e1, .int .u64 x.e2, .int .u64 x.e3]]⟩
def r147 (g : Arr4_Int → Int → Option Arr4_Int) : Dec := dPt 0 unArr4_Int fun (y0 : Arr4_Int) => dV (asI .u64) fun (y1 : Int) => dEnd (ofG (g y0 y1) rx147)
theorem r147_c {g : Arr4_Int → Int → Option Arr4_Int} {y0 : Arr4_Int} {y1 : Int} {x : Arr4_Int} (hx : g y0 y1 = some x) : r147 g [.pointer (some ⟨0, 0, none⟩), .int .u64 y1] [some [.int .u64 y0.e0, .int .u64 y0.e1, .int .u64 y0.e2, .int .u64 y0.e3]] = some (rx147 x) := (dPt_eq (unArr4_Int_c _)).trans ((dV_eq (asI_c _)).trans (ofG_eq hx))
def s147 (g : Arr4_Int → Int → Option Arr4_Int) : Summ := ⟨[.pt 4, .v], r147 g⟩
theorem r147_eq {g : Arr4_Int → Int → Option Arr4_Int} {y0 : Arr4_Int} {y1 : Int} {x : Arr4_Int} (hx : g y0 y1 = some x) : (s147 g).run [.pointer (some ⟨0, 0, none⟩), .int .u64 y1] [some [.int .u64 y0.e0, .int .u64 y0.e1, .int .u64 y0.e2, .int .u64 y0.e3]] = some (rx147 x) := r147_c hx
abbrev sums147 (sip_state_mix : Arr4_Int → Int → Option Arr4_Int) : List (Nat × Summ) := [(148, s148 sip_state_mix)]
theorem leads147 (sip_state_mix : Arr4_Int → Int → Option Arr4_Int) (hS : SumsOK Try.prog (aget (sums147 sip_state_mix))) (s : Arr4_Int) (m : Int) (res : Arr4_Int) (h : sip_state_takeF sip_state_mix s m = some res) :
    Leads Try.prog 147 1 ⟨⟨147, 22, [(0, .pointer (some ⟨0, 0, none⟩)), (1, .int .u64 m)], [.code k147_4], [], false, none⟩, [], [(0, .cells [.int .u64 s.e0, .int .u64 s.e1, .int .u64 s.e2, .int .u64 s.e3])], 1⟩ (fun v H _ => Res 1 (rx147 res) v H) := by
  unfold sip_state_takeF at h
  refine ev_ok tab_ok hS true 3000 ?_
  conv => whnf
  replace h := obind.elim h; obtain ⟨m1, hy, h⟩ := h
  refine sumK.introF [0] (sumRun_of (aqs := [.pointer (some ⟨0, 0, none⟩), .int .i64 2]) (ws := [.win 0 0 4 true]) (n := 0) (m := 0) (t' := 8) (ra_cons rfl rfl (ra_cons rfl rfl ra_nil)) rfl (by rfl) (r148_eq hy) rfl rfl rfl rfl (wb_win rfl rfl rfl ⟨rfl, Nat.le_of_ble_eq_true rfl⟩ rfl rfl wb_nil) an_nil rfl) ?_
  conv => whnf
  all_goals (cases h)
  all_goals exact Res.of [] rfl nw_0 (by decide) js_0 (wr_s (rfl) (hs_cells rfl) wr_0)
theorem ok147 (sip_state_mix : Arr4_Int → Int → Option Arr4_Int) (hS : SumsOK Try.prog (aget (sums147 sip_state_mix))) : SumOK Try.prog 147 (s147 (sip_state_takeF sip_state_mix)) := by
  refine SumOK.of_leads tab_ok (fun ar os r ha hr => ?_) ⟨Try.f147, rfl, by decide, rfl⟩
  replace hr : r147 (sip_state_takeF sip_state_mix) ar (conts os) = some r := hr
  unfold r147 at hr
  generalize hc : conts os = C at hr
  have hq := dPt.elim hr; clear hr; obtain ⟨c0, l1, C, y0, rfl, rfl, e0, hr⟩ := hq; obtain rfl := unArr4_Int_eq _ _ e0
  replace hr := dV.elim hr; obtain ⟨v1, l2, y1, rfl, e1, hr⟩ := hr; obtain rfl := asI_eq _ _ _ e1
  replace hr := dFin hr; obtain ⟨rfl, rfl, x, h, rfl⟩ := hr
  obtain ⟨os, rfl, ha, hc⟩ := kinds_some ha hc
  obtain rfl := kinds_nil hc
  exact ⟨_, rfl, leads147 sip_state_mix hS _ _ x h⟩
def sip_state_take : Arr4_Int → Int → Option Arr4_Int := sip_state_takeF sip_state_mix
theorem lift147 : SumOK Try.prog 147 (s147 sip_state_take) := ok147 sip_state_mix (SumsOK.of_tab ⟨lift148, trivial⟩)
def sip_Hasher_Write_s1 (sip_state_take : Arr4_Int → Int → Option Arr4_Int) (ha0 : sip_Hasher) (s : List UInt8) (t18 : Int) (xh : Int) (xh1 : Int) (xh2 : Int) (xh3 : Int) (xh4 : Int) (xh5 : Int) : Option (Sum (Int × Int × Int × Int × Int × Int × Int) sip_Hasher) :=
  cond (decide (t18 < (s.length : Int)))
    (
    oreq (decide ((0 : Int) ≤ t18 ∧ t18 < (s.length : Int))) <|
    ((bI s)[t18.toNat]?).bind fun (e : Int) =>
    oreq (decide (0 ≤ (wI .i64 (8 * (xh5.tmod 8))))) <|
    let t := wI .u64 ((wI .u64 e) * 2 ^ (min (wI .i64 (8 * (xh5.tmod 8))).toNat 64))
    cond (((wI .i64 (xh5 + 1)).tmod 8) == 0)
      (
      (sip_state_take (Arr4_Int.mk xh xh1 xh2 xh3) (iorI .u64 xh4 t)).bind fun t1 =>
      some (.inl (wI .i64 (t18 + 1), t1.e0, t1.e1, t1.e2, t1.e3, 0, wI .i64 (xh5 + 1))))
      (
      some (.inl (wI .i64 (t18 + 1), xh, xh1, xh2, xh3, iorI .u64 xh4 t, wI .i64 (xh5 + 1)))))
    (
    some (.inr (sip_Hasher.mk ha0.made (Arr4_Int.mk xh xh1 xh2 xh3) xh4 xh5)))
def sip_Hasher_WriteF (sip_state_take : Arr4_Int → Int → Option Arr4_Int) (ha0 : sip_Hasher) (s : List UInt8) : Option sip_Hasher :=
  cond (!ha0.made)
    (
    some (ha0))
    (
    iter (fun st => sip_Hasher_Write_s1 sip_state_take ha0 s st.1 st.2.1 st.2.2.1 st.2.2.2.1 st.2.2.2.2.1 st.2.2.2.2.2.1 st.2.2.2.2.2.2) FUEL (0, ha0.s.e0, ha0.s.e1, ha0.s.e2, ha0.s.e3, ha0.last, ha0.count))
def rx133 (x : sip_Hasher) : SRes := ⟨.tuple ⟨[]⟩, [], [some [.bool x.made, .int .u64 x.s.e0, .int .u64 x.s.e1, .int .u64 x.s.e2, .int .u64 x.s.e3, .int .u64 x.last, .int .i64 x.count]]⟩
def r133 (g : sip_Hasher → (List UInt8) → Option sip_Hasher) : Dec := dPt 0 unsip_Hasher fun (y0 : sip_Hasher) => dV asS fun (y1 : List UInt8) => dEnd (ofG (g y0 y1) rx133)
theorem r133_c {g : sip_Hasher → (List UInt8) → Option sip_Hasher} {y0 : sip_Hasher} {y1 : List UInt8} {x : sip_Hasher} (hx : g y0 y1 = some x) : r133 g [.pointer (some ⟨0, 0, none⟩), .string ⟨⟨y1⟩⟩] [some [.bool y0.made, .int .u64 y0.s.e0, .int .u64 y0.s.e1, .int .u64 y0.s.e2, .int .u64 y0.s.e3, .int .u64 y0.last, .int .i64 y0.count]] = some (rx133 x) := (dPt_eq (unsip_Hasher_c _)).trans ((dV_eq (asS_c)).trans (ofG_eq hx))
def s133 (g : sip_Hasher → (List UInt8) → Option sip_Hasher) : Summ := ⟨[.pt 7, .v], r133 g⟩
theorem r133_eq {g : sip_Hasher → (List UInt8) → Option sip_Hasher} {y0 : sip_Hasher} {y1 : List UInt8} {x : sip_Hasher} (hx : g y0 y1 = some x) : (s133 g).run [.pointer (some ⟨0, 0, none⟩), .string ⟨⟨y1⟩⟩] [some [.bool y0.made, .int .u64 y0.s.e0, .int .u64 y0.s.e1, .int .u64 y0.s.e2, .int .u64 y0.s.e3, .int .u64 y0.last, .int .i64 y0.count]] = some (rx133 x) := r133_c hx
abbrev sums133 (sip_state_take : Arr4_Int → Int → Option Arr4_Int) : List (Nat × Summ) := [(147, s147 sip_state_take)]
def head133_1 (ha0 : sip_Hasher) (s : List UInt8) (t18 : Int) (xh : Int) (xh1 : Int) (xh2 : Int) (xh3 : Int) (xh4 : Int) (xh5 : Int) : VM :=
  ⟨⟨133, 63, [(0, .pointer (some ⟨0, 0, none⟩)), (16, .slice (some ⟨1, 0, none⟩) s.length 1), (17, .int .i64 (s.length : Int)), (18, .int .i64 t18)], [.code k133_22, .inLoop k133_22, .inBlock 0], [], false, none⟩, [], [(0, .cells [.bool ha0.made, .int .u64 xh, .int .u64 xh1, .int .u64 xh2, .int .u64 xh3, .int .u64 xh4, .int .i64 xh5]), (1, .row true (vI .u8 (bI s)))], 2⟩
theorem loop133_1 (sip_state_take : Arr4_Int → Int → Option Arr4_Int) (hS : SumsOK Try.prog (aget (sums133 sip_state_take))) (ha0 : sip_Hasher) (s : List UInt8) (res : sip_Hasher) : ∀ fuel (st : Int × Int × Int × Int × Int × Int × Int) (o : sip_Hasher), iter (fun st => sip_Hasher_Write_s1 sip_state_take ha0 s st.1 st.2.1 st.2.2.1 st.2.2.2.1 st.2.2.2.2.1 st.2.2.2.2.2.1 st.2.2.2.2.2.2) fuel st = some o → (o = res) →
    Leads Try.prog 133 1 (head133_1 ha0 s st.1 st.2.1 st.2.2.1 st.2.2.2.1 st.2.2.2.2.1 st.2.2.2.2.2.1 st.2.2.2.2.2.2) (fun v H _ => Res 1 (rx133 res) v H) := by
  intro fuel st o h hc
  refine iter_leads (head := fun st => head133_1 ha0 s st.1 st.2.1 st.2.2.1 st.2.2.2.1 st.2.2.2.2.1 st.2.2.2.2.2.1 st.2.2.2.2.2.2) (C := fun o => (o = res)) ?_ fuel st o h hc
  clear h hc o st fuel
  intro st o h hc
  obtain ⟨t18, xh, xh1, xh2, xh3, xh4, xh5⟩ := st
  replace h : sip_Hasher_Write_s1 sip_state_take ha0 s t18 xh xh1 xh2 xh3 xh4 xh5 = some o := h
  show Leads Try.prog 133 1 (head133_1 ha0 s t18 xh xh1 xh2 xh3 xh4 xh5) (fun v H _ => Res 1 (rx133 res) v H)
  unfold sip_Hasher_Write_s1 at h
  refine ev_ok tab_ok hS true 3000 ?_
  conv => whnf
  refine br.h2 h ?_ ?_ ?_
  · rfl
  · clear h; intro hb h; conv => whnf
    all_goals (cases h; cases hc)
    all_goals exact Res.of [] rfl nw_0 (by decide) js_0 (wr_s (rfl) (hs_cells rfl) wr_0)
  clear h; intro hb h; conv => whnf
  replace h := oreq.elim h; obtain ⟨hb, h⟩ := h
  first | (refine req.intro hb ?_; conv => whnf) | skip
  replace h := obind.elim h; obtain ⟨e, hy, h⟩ := h
  refine rd.I hy (by first | rfl | (rw [Nat.zero_add, Nat.mul_one]; try rfl; done) | omega) ?_
  conv => whnf
  replace h := oreq.elim h; obtain ⟨hb, h⟩ := h
  first | (refine req.intro hb ?_; conv => whnf) | skip
  let t : Int := wI .u64 ((wI .u64 e) * 2 ^ (min (wI .i64 (8 * (xh5.tmod 8))).toNat 64))
  refine br.h2 h ?_ ?_ ?_
  · rfl
  · clear h; intro hb h; conv => whnf
    cases h; simp only [Sum.elim_inl, head133_1] at hc
    exact lrA0 hc [(0, 0), (1, 1)] rfl
  clear h; intro hb h; conv => whnf
  replace h := obind.elim h; obtain ⟨t1, hy, h⟩ := h
  refine sumK.introF [0] (sumRun_of (aqs := [.pointer (some ⟨0, 0, none⟩), .int .u64 (iorI .u64 xh4 t)]) (ws := [.win 0 1 4 true]) (n := 0) (m := 0) (t' := 22) (ra_cons rfl rfl (ra_cons rfl rfl ra_nil)) rfl (by rfl) (r147_eq hy) rfl rfl rfl rfl (wb_win rfl rfl rfl ⟨rfl, Nat.le_of_ble_eq_true rfl⟩ rfl rfl wb_nil) an_nil rfl) ?_
  conv => whnf
  cases h; simp only [Sum.elim_inl, head133_1] at hc
  exact lrA0 hc [(0, 0), (1, 1)] rfl
theorem leads133 (sip_state_take : Arr4_Int → Int → Option Arr4_Int) (hS : SumsOK Try.prog (aget (sums133 sip_state_take))) (ha0 : sip_Hasher) (s : List UInt8) (res : sip_Hasher) (h : sip_Hasher_WriteF sip_state_take ha0 s = some res) :
    Leads Try.prog 133 1 ⟨⟨133, 63, [(0, .pointer (some ⟨0, 0, none⟩)), (1, .string ⟨⟨s⟩⟩)], [.code k133_26], [], false, none⟩, [], [(0, .cells [.bool ha0.made, .int .u64 ha0.s.e0, .int .u64 ha0.s.e1, .int .u64 ha0.s.e2, .int .u64 ha0.s.e3, .int .u64 ha0.last, .int .i64 ha0.count])], 1⟩ (fun v H _ => Res 1 (rx133 res) v H) := by
  unfold sip_Hasher_WriteF at h
  refine ev_ok tab_ok hS true 3000 ?_
  conv => whnf
  refine br.h h ?_ ?_ ?_
  · rfl
  · clear h; intro hb h; conv => whnf
    all_goals (cases h)
    all_goals exact Res.of [] rfl nw_0 (by decide) js_0 (wr_s (rfl) (hs_cells rfl) wr_0)
  clear h; intro hb h; conv => whnf
  refine pk_s2b ?_
  conv => whnf
  have hl := loop133_1 sip_state_take hS _ _ res _ _ _ h rfl; simp only [head133_1] at hl
  exact lrA0 hl [(0, 0), (1, 1)] rfl
theorem ok133 (sip_state_take : Arr4_Int → Int → Option Arr4_Int) (hS : SumsOK Try.prog (aget (sums133 sip_state_take))) : SumOK Try.prog 133 (s133 (sip_Hasher_WriteF sip_state_take)) := by
  refine SumOK.of_leads tab_ok (fun ar os r ha hr => ?_) ⟨Try.f133, rfl, by decide, rfl⟩
  replace hr : r133 (sip_Hasher_WriteF sip_state_take) ar (conts os) = some r := hr
  unfold r133 at hr
  generalize hc : conts os = C at hr
  have hq := dPt.elim hr; clear hr; obtain ⟨c0, l1, C, y0, rfl, rfl, e0, hr⟩ := hq; obtain rfl := unsip_Hasher_eq _ _ e0
  replace hr := dV.elim hr; obtain ⟨v1, l2, y1, rfl, e1, hr⟩ := hr; obtain rfl := asS_eq _ _ e1
  replace hr := dFin hr; obtain ⟨rfl, rfl, x, h, rfl⟩ := hr
  obtain ⟨os, rfl, ha, hc⟩ := kinds_some ha hc
  obtain rfl := kinds_nil hc
  exact ⟨_, rfl, leads133 sip_state_take hS _ _ x h⟩
def sip_Hasher_Write : sip_Hasher → (List UInt8) → Option sip_Hasher := sip_Hasher_WriteF sip_state_take
theorem lift133 : SumOK Try.prog 133 (s133 sip_Hasher_Write) := ok133 sip_state_take (SumsOK.of_tab ⟨lift147, trivial⟩)
def sip_Hasher_SumF (sip_state_mix : Arr4_Int → Int → Option Arr4_Int) (sip_state_take : Arr4_Int → Int → Option Arr4_Int) (ha0 : sip_Hasher) : Option (Int × sip_Hasher) :=
  cond (!ha0.made)
    (
    some ((0, ha0)))
    (
    let t := iorI .u64 ha0.last (wI .u64 ((wI .u64 ha0.count) * 2 ^ 56))
    (sip_state_take ha0.s t).bind fun t1 =>
    (sip_state_mix (Arr4_Int.mk t1.e0 t1.e1 (ixorI .u64 t1.e2 255) t1.e3) 4).bind fun m =>
    let t2 := ixorI .u64 (ixorI .u64 (ixorI .u64 m.e0 m.e1) m.e2) m.e3
    some ((t2, ha0)))
def rx134 (x : Int × sip_Hasher) : SRes := ⟨.int .u64 x.1, [], [some [.bool x.2.made, .int .u64 x.2.s.e0, .int .u64 x.2.s.e1, .int .u64 x.2.s.e2, .int .u64 x.2.s.e3, .int .u64 x.2.last, .int .i64 x.2.count]]⟩
def r134 (g : sip_Hasher → Option (Int × sip_Hasher)) : Dec := dPt 0 unsip_Hasher fun (y0 : sip_Hasher) => dEnd (ofG (g y0) rx134)
theorem r134_c {g : sip_Hasher → Option (Int × sip_Hasher)} {y0 : sip_Hasher} {x : Int × sip_Hasher} (hx : g y0 = some x) : r134 g [.pointer (some ⟨0, 0, none⟩)] [some [.bool y0.made, .int .u64 y0.s.e0, .int .u64 y0.s.e1, .int .u64 y0.s.e2, .int .u64 y0.s.e3, .int .u64 y0.last, .int .i64 y0.count]] = some (rx134 x) := (dPt_eq (unsip_Hasher_c _)).trans (ofG_eq hx)
def s134 (g : sip_Hasher → Option (Int × sip_Hasher)) : Summ := ⟨[.pt 7], r134 g⟩
theorem r134_eq {g : sip_Hasher → Option (Int × sip_Hasher)} {y0 : sip_Hasher} {x : Int × sip_Hasher} (hx : g y0 = some x) : (s134 g).run [.pointer (some ⟨0, 0, none⟩)] [some [.bool y0.made, .int .u64 y0.s.e0, .int .u64 y0.s.e1, .int .u64 y0.s.e2, .int .u64 y0.s.e3, .int .u64 y0.last, .int .i64 y0.count]] = some (rx134 x) := r134_c hx
abbrev sums134 (sip_state_mix : Arr4_Int → Int → Option Arr4_Int) (sip_state_take : Arr4_Int → Int → Option Arr4_Int) : List (Nat × Summ) := [(148, s148 sip_state_mix), (147, s147 sip_state_take)]
theorem leads134 (sip_state_mix : Arr4_Int → Int → Option Arr4_Int) (sip_state_take : Arr4_Int → Int → Option Arr4_Int) (hS : SumsOK Try.prog (aget (sums134 sip_state_mix sip_state_take))) (ha0 : sip_Hasher) (res : Int × sip_Hasher) (h : sip_Hasher_SumF sip_state_mix sip_state_take ha0 = some res) :
    Leads Try.prog 134 1 ⟨⟨134, 45, [(0, .pointer (some ⟨0, 0, none⟩))], [.code k134_17], [], false, none⟩, [], [(0, .cells [.bool ha0.made, .int .u64 ha0.s.e0, .int .u64 ha0.s.e1, .int .u64 ha0.s.e2, .int .u64 ha0.s.e3, .int .u64 ha0.last, .int .i64 ha0.count])], 1⟩ (fun v H _ => Res 1 (rx134 res) v H) := by
  unfold sip_Hasher_SumF at h
  refine ev_ok tab_ok hS true 3000 ?_
  conv => whnf
  refine br.h h ?_ ?_ ?_
  · rfl
  · clear h; intro hb h; conv => whnf
    all_goals (cases h)
    all_goals exact Res.of [] rfl nw_0 (by decide) js_0 (wr_s (rfl) (hs_cells rfl) wr_0)
  clear h; intro hb h; conv => whnf
  let t : Int := iorI .u64 ha0.last (wI .u64 ((wI .u64 ha0.count) * 2 ^ 56))
  replace h := obind.elim h; obtain ⟨t1, hy, h⟩ := h
  refine sumK.introF [1] (sumRun_of (aqs := [.pointer (some ⟨0, 0, none⟩), .int .u64 t]) (ws := [.win 1 0 4 true]) (n := 0) (m := 0) (t' := 12) (ra_cons rfl rfl (ra_cons rfl rfl ra_nil)) rfl (by rfl) (r147_eq hy) rfl rfl rfl rfl (wb_win rfl rfl rfl ⟨rfl, Nat.le_of_ble_eq_true rfl⟩ rfl rfl wb_nil) an_nil rfl) ?_
  conv => whnf
  replace h := obind.elim h; obtain ⟨m, hy, h⟩ := h
  refine sumK.introF [1] (sumRun_of (aqs := [.pointer (some ⟨0, 0, none⟩), .int .i64 4]) (ws := [.win 1 0 4 true]) (n := 0) (m := 0) (t' := 12) (ra_cons rfl rfl (ra_cons rfl rfl ra_nil)) rfl (by rfl) (r148_eq hy) rfl rfl rfl rfl (wb_win rfl rfl rfl ⟨rfl, Nat.le_of_ble_eq_true rfl⟩ rfl rfl wb_nil) an_nil rfl) ?_
  conv => whnf
  let t2 : Int := ixorI .u64 (ixorI .u64 (ixorI .u64 m.e0 m.e1) m.e2) m.e3
  all_goals (cases h)
  all_goals exact Res.of [] rfl nw_0 (by decide) js_0 (wr_s (rfl) (hs_cells rfl) wr_0)
theorem ok134 (sip_state_mix : Arr4_Int → Int → Option Arr4_Int) (sip_state_take : Arr4_Int → Int → Option Arr4_Int) (hS : SumsOK Try.prog (aget (sums134 sip_state_mix sip_state_take))) : SumOK Try.prog 134 (s134 (sip_Hasher_SumF sip_state_mix sip_state_take)) := by
  refine SumOK.of_leads tab_ok (fun ar os r ha hr => ?_) ⟨Try.f134, rfl, by decide, rfl⟩
  replace hr : r134 (sip_Hasher_SumF sip_state_mix sip_state_take) ar (conts os) = some r := hr
  unfold r134 at hr
  generalize hc : conts os = C at hr
  have hq := dPt.elim hr; clear hr; obtain ⟨c0, l1, C, y0, rfl, rfl, e0, hr⟩ := hq; obtain rfl := unsip_Hasher_eq _ _ e0
  replace hr := dFin hr; obtain ⟨rfl, rfl, x, h, rfl⟩ := hr
  obtain ⟨os, rfl, ha, hc⟩ := kinds_some ha hc
  obtain rfl := kinds_nil hc
  exact ⟨_, rfl, leads134 sip_state_mix sip_state_take hS _ x h⟩
def sip_Hasher_Sum : sip_Hasher → Option (Int × sip_Hasher) := sip_Hasher_SumF sip_state_mix sip_state_take
theorem lift134 : SumOK Try.prog 134 (s134 sip_Hasher_Sum) := ok134 sip_state_mix sip_state_take (SumsOK.of_tab ⟨lift148, lift147, trivial⟩)
end Go.Vm.Code
namespace Go.Vm.Code
open Go Go.Vm
def trn (x k : Int) : Int := (R12_turn x k).getD 0
theorem turn_eq {x k : Int} (h0 : 0 ≤ k) (h1 : k ≤ 64) : R12_turn x k = some (trn x k) := by
  unfold trn R12_turn R12_turnF
  rw [oreq_p h0, wI64 (n := 64 - k) (by omega) (by omega), oreq_p (by omega)]; rfl
theorem rot_turn {x k : Int} (h : k = 13 ∨ k = 16 ∨ k = 17 ∨ k = 21 ∨ k = 32) : math_bits_RotateLeft64 x k = R12_turn x k := by
  have e1 : andI .u64 (wI .u64 k) 63 = k := by rcases h with rfl | rfl | rfl | rfl | rfl <;> decide +kernel
  have e2 : wI .u64 (64 - k) = 64 - k := wU64 (by omega) (by omega)
  have e3 : wI .i64 (64 - k) = 64 - k := wI64 (by omega) (by omega)
  unfold math_bits_RotateLeft64 math_bits_RotateLeft64F R12_turn R12_turnF
  rw [e1, e2, e3]
theorem rot_eq {x k : Int} (h : k = 13 ∨ k = 16 ∨ k = 17 ∨ k = 21 ∨ k = 32) : math_bits_RotateLeft64 x k = some (trn x k) := by
  rw [rot_turn h]; exact turn_eq (by omega) (by omega)
def rnd (s : Arr4_Int) : Arr4_Int :=
  let a1 := wI .u64 (s.e0 + s.e1)
  let b1 := ixorI .u64 (trn s.e1 13) a1
  let c1 := wI .u64 (s.e2 + s.e3)
  let d1 := ixorI .u64 (trn s.e3 16) c1
  let t := wI .u64 (trn a1 32 + d1)
  let t1 := wI .u64 (c1 + b1)
  ⟨t, ixorI .u64 (trn b1 17) t1, trn t1 32, ixorI .u64 (trn d1 21) t⟩
theorem round_eq (s : Arr4_Int) : sip_state_round s = some (rnd s) := by
  unfold sip_state_round sip_state_roundF
  simp only [rot_eq (k := 13) (by omega), rot_eq (k := 16) (by omega), rot_eq (k := 17) (by omega), rot_eq (k := 21) (by omega), rot_eq (k := 32) (by omega), Option.bind_some]
  rfl
theorem Round_eq (a b c d : Int) : R12_Round a b c d = some ((rnd ⟨a, b, c, d⟩).e0, (rnd ⟨a, b, c, d⟩).e1, (rnd ⟨a, b, c, d⟩).e2, (rnd ⟨a, b, c, d⟩).e3) := by
  unfold R12_Round R12_RoundF
  simp only [turn_eq (k := 13) (by omega) (by omega), turn_eq (k := 16) (by omega) (by omega), turn_eq (k := 17) (by omega) (by omega), turn_eq (k := 21) (by omega) (by omega), turn_eq (k := 32) (by omega) (by omega), Option.bind_some]
  rfl
def rnds : Nat → Arr4_Int → Arr4_Int
  | 0, q => q
  | n + 1, q => rnds n (rnd q)
def cnt (n : Int) : Nat := (if (if 64 < n then 64 else n) > 0 then if 64 < n then 64 else n else 0 : Int).toNat
theorem mix_eq (s : Arr4_Int) (n : Int) : sip_state_mix s n = some (rnds (cnt n) s) := by
  unfold sip_state_mix sip_state_mixF cnt
  generalize ht : (if (if 64 < n then 64 else n) > 0 then if 64 < n then 64 else n else 0 : Int) = t
  have hb : 0 ≤ t ∧ t ≤ 64 := by rw [← ht]; split <;> split <;> omega
  have key := iter_eq (step := fun (st : Int × Int × Int × Int × Int) => sip_state_mix_s1 sip_state_round t st.1 st.2.1 st.2.2.1 st.2.2.2.1 st.2.2.2.2) (fun st => rnds (t - st.1).toNat ⟨st.2.1, st.2.2.1, st.2.2.2.1, st.2.2.2.2⟩) (fun st => 0 ≤ st.1 ∧ st.1 ≤ t) (fun st => (t - st.1).toNat) ?_ FUEL (0, s.e0, s.e1, s.e2, s.e3) ⟨by simp, hb.1⟩ (by rw [FUEL_eq]; simp only; omega)
  · simp only [] at key ⊢
    rw [key]; simp
  rintro ⟨i, a, b, c, d⟩ ⟨g1, g2⟩
  simp only at g1 g2 ⊢
  unfold sip_state_mix_s1
  by_cases hi : i < t
  · refine .inr ⟨(i + 1, (rnd ⟨a, b, c, d⟩).e0, (rnd ⟨a, b, c, d⟩).e1, (rnd ⟨a, b, c, d⟩).e2, (rnd ⟨a, b, c, d⟩).e3), ?_, ⟨by simp only; omega, by simp only; omega⟩, by simp only; omega, ?_⟩
    · rw [cond_p hi, round_eq, Option.bind_some, wI64 (by omega) (by omega)]
    · simp only []
      have e : (t - i).toNat = (t - (i + 1)).toNat + 1 := by omega
      rw [e]; rfl
  · refine .inl ?_
    rw [cond_n hi]
    have e : (t - i).toNat = 0 := by omega
    simp only [e, rnds]
theorem Mix_eq (a b c d n : Int) : R12_Mix a b c d n = some (rnds (cnt n) ⟨a, b, c, d⟩) := by
  unfold R12_Mix R12_MixF
  have hc : ∀ i : Int, 0 ≤ i → i ≤ cnt n → (i < cnt n ↔ i < n ∧ i < 64) := by
    intro i h0 h1
    revert h1
    unfold cnt
    split <;> split <;> omega
  have hb : (cnt n : Int) ≤ 64 := by unfold cnt; split <;> split <;> omega
  have key := iter_eq (step := fun (st : Int × Int × Int × Int × Int) => R12_Mix_s1 R12_Round n st.1 st.2.1 st.2.2.1 st.2.2.2.1 st.2.2.2.2) (fun st => rnds (cnt n - st.2.2.2.2).toNat ⟨st.1, st.2.1, st.2.2.1, st.2.2.2.1⟩) (fun st => 0 ≤ st.2.2.2.2 ∧ st.2.2.2.2 ≤ cnt n) (fun st => (cnt n - st.2.2.2.2).toNat) ?_ FUEL (a, b, c, d, 0) ⟨by simp, by simp⟩ (by rw [FUEL_eq]; simp only; omega)
  · rw [key]; simp
  rintro ⟨a, b, c, d, i⟩ ⟨g1, g2⟩
  simp only at g1 g2 ⊢
  unfold R12_Mix_s1
  have hh := hc i g1 g2
  by_cases hi : i < cnt n
  · obtain ⟨h1, h2⟩ := hh.1 hi
    refine .inr ⟨((rnd ⟨a, b, c, d⟩).e0, (rnd ⟨a, b, c, d⟩).e1, (rnd ⟨a, b, c, d⟩).e2, (rnd ⟨a, b, c, d⟩).e3, i + 1), ?_, ⟨by simp only; omega, by simp only; omega⟩, by simp only; omega, ?_⟩
    · rw [cond_p h1, cond_p h2, Round_eq, Option.bind_some, wI64 (by omega) (by omega)]
    · simp only []
      have e : ((cnt n : Int) - i).toNat = ((cnt n : Int) - (i + 1)).toNat + 1 := by omega
      rw [e]; rfl
  · refine .inl ?_
    have e : ((cnt n : Int) - i).toNat = 0 := by omega
    simp only [e, rnds]
    by_cases h1 : i < n
    · rw [cond_p h1, cond_n (by omega)]
    · rw [cond_n h1]
def tak (s : Arr4_Int) (m : Int) : Arr4_Int :=
  let q := rnds 2 ⟨s.e0, s.e1, s.e2, ixorI .u64 s.e3 m⟩
  ⟨ixorI .u64 q.e0 m, q.e1, q.e2, q.e3⟩
theorem take_eq (s : Arr4_Int) (m : Int) : sip_state_take s m = some (tak s m) := by
  unfold sip_state_take sip_state_takeF
  rw [mix_eq, show cnt 2 = 2 from rfl, Option.bind_some]
  simp only [tak]
def wrT (T : Arr4_Int → Int → Arr4_Int) (h : sip_Hasher) (b : UInt8) : sip_Hasher :=
  let m := iorI .u64 h.last (wI .u64 ((b.toNat : Int) * 2 ^ (8 * (h.count.toNat % 8))))
  if (h.count.toNat + 1) % 8 = 0 then ⟨h.made, T h.s m, 0, h.count + 1⟩ else ⟨h.made, h.s, m, h.count + 1⟩
theorem WriteF_eq (T : Arr4_Int → Int → Arr4_Int) {h : sip_Hasher} {s : List UInt8} (hm : h.made = true) (h0 : 0 ≤ h.count) (h1 : h.count + s.length < 2 ^ 62) : sip_Hasher_WriteF (fun q m => some (T q m)) h s = some (s.foldl (wrT T) h) := by
  unfold sip_Hasher_WriteF
  rw [hm, Bool.not_true, cond_false]
  have key := iter_eq (step := fun (st : Int × Int × Int × Int × Int × Int × Int) => sip_Hasher_Write_s1 (fun q m => some (T q m)) h s st.1 st.2.1 st.2.2.1 st.2.2.2.1 st.2.2.2.2.1 st.2.2.2.2.2.1 st.2.2.2.2.2.2)
    (fun st => (s.drop st.1.toNat).foldl (wrT T) ⟨true, ⟨st.2.1, st.2.2.1, st.2.2.2.1, st.2.2.2.2.1⟩, st.2.2.2.2.2.1, st.2.2.2.2.2.2⟩) (fun st => 0 ≤ st.1 ∧ st.1 ≤ s.length ∧ st.2.2.2.2.2.2 = h.count + st.1) (fun st => (s.length - st.1).toNat) ?_ FUEL (0, h.s.e0, h.s.e1, h.s.e2, h.s.e3, h.last, h.count) ⟨by simp, by simp, by simp⟩ (by rw [FUEL_eq]; simp only; omega)
  · rw [key]
    simp only [Int.toNat_zero, List.drop_zero]
    rw [← hm]
  rintro ⟨p, a, b, c, d, l, n⟩ ⟨g1, g2, g3⟩
  simp only at g1 g2 g3 ⊢
  obtain ⟨i, rfl⟩ := Int.eq_ofNat_of_zero_le g1
  obtain ⟨k, hk⟩ := Int.eq_ofNat_of_zero_le (show 0 ≤ n by omega)
  subst hk
  simp only [Int.toNat_natCast]
  unfold sip_Hasher_Write_s1
  by_cases hi : i < s.length
  · have hb := s[i].toNat_lt
    have e1 : (bI s)[i]? = some (s[i].toNat : Int) := by simp [bI, hi]
    have e2 : ((k : Int).tmod 8) = ((k % 8 : Nat) : Int) := by rw [Int.tmod_eq_emod_of_nonneg (by omega)]; rfl
    have e3 : min (8 * ((k % 8 : Nat) : Int)).toNat 64 = 8 * (k % 8) := by omega
    have e4 : (((k : Int) + 1).tmod 8 == 0) = decide ((k + 1) % 8 = 0) := by
      rw [Int.tmod_eq_emod_of_nonneg (by omega), Bool.eq_iff_iff, beq_iff_eq, decide_eq_true_eq]; omega
    refine .inr ⟨(((i + 1 : Nat) : Int), (wrT T ⟨true, ⟨a, b, c, d⟩, l, k⟩ s[i]).s.e0, (wrT T ⟨true, ⟨a, b, c, d⟩, l, k⟩ s[i]).s.e1, (wrT T ⟨true, ⟨a, b, c, d⟩, l, k⟩ s[i]).s.e2, (wrT T ⟨true, ⟨a, b, c, d⟩, l, k⟩ s[i]).s.e3, (wrT T ⟨true, ⟨a, b, c, d⟩, l, k⟩ s[i]).last, (k : Int) + 1), ?_, ⟨by simp only; omega, by simp only; omega, by simp only; omega⟩, by simp only; omega, ?_⟩
    · simp (disch := omega) only [cond_p, oreq_p, Int.toNat_natCast, e1, Option.bind_some, e2, wI64, e3, e4, wU64 (n := (s[i].toNat : Int)), cond_dec]
      unfold wrT
      simp only [Int.toNat_natCast]
      split <;> rfl
    · simp only [Int.toNat_natCast]
      rw [List.drop_eq_getElem_cons hi, List.foldl_cons]
      congr 1
      unfold wrT
      simp only [Int.toNat_natCast]
      split <;> rfl
  · refine .inl ?_
    rw [cond_n (by omega), List.drop_eq_nil_of_le (by omega), hm]; rfl
def wrB : sip_Hasher → UInt8 → sip_Hasher := wrT tak
theorem Write_eq {h : sip_Hasher} {s : List UInt8} (hm : h.made = true) (h0 : 0 ≤ h.count) (h1 : h.count + s.length < 2 ^ 62) : sip_Hasher_Write h s = some (s.foldl wrB h) := by
  unfold sip_Hasher_Write
  rw [show sip_state_take = fun q m => some (tak q m) from funext fun q => funext fun m => take_eq q m]
  exact WriteF_eq tak hm h0 h1
theorem wrT_made (T : Arr4_Int → Int → Arr4_Int) (h : sip_Hasher) (b : UInt8) : (wrT T h b).made = h.made := by unfold wrT; simp only; split <;> rfl
theorem wrT_count (T : Arr4_Int → Int → Arr4_Int) (h : sip_Hasher) (b : UInt8) : (wrT T h b).count = h.count + 1 := by unfold wrT; simp only; split <;> rfl
theorem wrB_made (h : sip_Hasher) (b : UInt8) : (wrB h b).made = h.made := wrT_made tak h b
theorem wrB_count (h : sip_Hasher) (b : UInt8) : (wrB h b).count = h.count + 1 := wrT_count tak h b
theorem wrL : ∀ (s : List UInt8) (h : sip_Hasher), (s.foldl wrB h).made = h.made ∧ (s.foldl wrB h).count = h.count + s.length
  | [], h => ⟨rfl, by simp⟩
  | b :: s, h => by
    obtain ⟨a1, a2⟩ := wrL s (wrB h b)
    rw [List.foldl_cons, a1, a2, wrB_made, wrB_count, List.length_cons]
    exact ⟨rfl, by omega⟩
def sumV (h : sip_Hasher) : Int :=
  let t := tak h.s (iorI .u64 h.last (wI .u64 ((wI .u64 h.count) * 2 ^ 56)))
  let m := rnds 4 ⟨t.e0, t.e1, ixorI .u64 t.e2 255, t.e3⟩
  ixorI .u64 (ixorI .u64 (ixorI .u64 m.e0 m.e1) m.e2) m.e3
theorem Sum_eq {h : sip_Hasher} (hm : h.made = true) : sip_Hasher_Sum h = some (sumV h, h) := by
  unfold sip_Hasher_Sum sip_Hasher_SumF
  rw [hm, Bool.not_true, cond_false]
  simp only [take_eq, mix_eq, Option.bind_some, show cnt 4 = 4 from rfl, sumV]
def newV (k : api_Key) : sip_Hasher := ⟨true, ⟨ixorI .u64 8317987319222330741 k.A, ixorI .u64 7237128888997146477 k.B, ixorI .u64 7816392313619706465 k.A, ixorI .u64 8387220255154660723 k.B⟩, 0, 0⟩
theorem New_eq (k : api_Key) : sip_New k = some (newV k) := rfl
end Go.Vm.Code
namespace Go.Vm.Code
open Go Go.Vm Go.Proofs
set_option maxRecDepth 100000
set_option maxHeartbeats 4000000
set_option linter.unusedVariables false
def R12_word_s1 (s : List UInt8) (n : Int) (i : Int) : Option (Sum (Int × Int) Int) :=
  cond (decide (i ≥ 0))
    (
    oreq (decide (0 ≤ i)) <|
    (s[i.toNat]?).bind fun (b : UInt8) =>
    let t := wI .u64 ((wI .u64 (n * 2 ^ 8)) + (wI .u64 (b.toNat : Int)))
    some (.inl (t, wI .i64 (i - 1))))
    (
    some (.inr (n)))
def R12_wordF (s : List UInt8) : Option Int :=
  iter (fun st => R12_word_s1 s st.1 st.2) FUEL (0, wI .i64 ((s.length : Int) - 1))
def rx135 (x : Int) : SRes := ⟨.int .u64 x, [], []⟩
def r135 (g : (List UInt8) → Option Int) : Dec := dV asS fun (y0 : List UInt8) => dEnd (ofG (g y0) rx135)
theorem r135_c {g : (List UInt8) → Option Int} {y0 : List UInt8} {x : Int} (hx : g y0 = some x) : r135 g [.string ⟨⟨y0⟩⟩] [] = some (rx135 x) := (dV_eq (asS_c)).trans (ofG_eq hx)
def s135 (g : (List UInt8) → Option Int) : Summ := ⟨[.v], r135 g⟩
theorem r135_eq {g : (List UInt8) → Option Int} {y0 : List UInt8} {x : Int} (hx : g y0 = some x) : (s135 g).run [.string ⟨⟨y0⟩⟩] [] = some (rx135 x) := r135_c hx
abbrev sums135 : List (Nat × Summ) := []
def head135_1 (s : List UInt8) (n : Int) (i : Int) : VM :=
  ⟨⟨135, 20, [(0, .string ⟨⟨s⟩⟩), (3, .int .u64 n), (4, .int .i64 i)], [.code k135_10, .inLoop k135_10, .inBlock 0, .code k135_15], [], false, none⟩, [], [], 0⟩
theorem loop135_1 (hS : SumsOK Try.prog (aget (sums135))) (s : List UInt8) (res : Int) : ∀ fuel (st : Int × Int) (o : Int), iter (fun st => R12_word_s1 s st.1 st.2) fuel st = some o → (o = res) →
    Leads Try.prog 135 0 (head135_1 s st.1 st.2) (fun v H _ => Res 0 (rx135 res) v H) := by
  intro fuel st o h hc
  refine iter_leads (head := fun st => head135_1 s st.1 st.2) (C := fun o => (o = res)) ?_ fuel st o h hc
  clear h hc o st fuel
  intro st o h hc
  obtain ⟨n, i⟩ := st
  replace h : R12_word_s1 s n i = some o := h
  show Leads Try.prog 135 0 (head135_1 s n i) (fun v H _ => Res 0 (rx135 res) v H)
  unfold R12_word_s1 at h
  refine ev_ok tab_ok hS true 3000 ?_
  conv => whnf
  refine br.h2 h ?_ ?_ ?_
  · rfl
  · clear h; intro hb h; conv => whnf
    all_goals (cases h; cases hc; exact Res.z rfl rfl rfl)
  clear h; intro hb h; conv => whnf
  replace h := oreq.elim h; obtain ⟨hb, h⟩ := h
  first | (refine req.intro hb ?_; conv => whnf) | skip
  replace h := obind.elim h; obtain ⟨b, hy, h⟩ := h
  refine rdS.intro hy ?_
  conv => whnf
  let t : Int := wI .u64 ((wI .u64 (n * 2 ^ 8)) + (wI .u64 (b.toNat : Int)))
  cases h; simp only [Sum.elim_inl, head135_1] at hc
  exact lrA0 hc [] rfl
theorem leads135 (hS : SumsOK Try.prog (aget (sums135))) (s : List UInt8) (res : Int) (h : R12_wordF s = some res) :
    Leads Try.prog 135 0 ⟨⟨135, 20, [(0, .string ⟨⟨s⟩⟩)], [.code k135_18], [], false, none⟩, [], [], 0⟩ (fun v H _ => Res 0 (rx135 res) v H) := by
  unfold R12_wordF at h
  refine ev_ok tab_ok hS true 3000 ?_
  conv => whnf
  have hl := loop135_1 hS _ res _ _ _ h rfl; simp only [head135_1] at hl
  exact lrA0 hl [] rfl
theorem ok135 (hS : SumsOK Try.prog (aget (sums135))) : SumOK Try.prog 135 (s135 (R12_wordF)) := by
  refine SumOK.of_leads tab_ok (fun ar os r ha hr => ?_) ⟨Try.f135, rfl, by decide, rfl⟩
  replace hr : r135 (R12_wordF) ar (conts os) = some r := hr
  unfold r135 at hr
  generalize hc : conts os = C at hr
  replace hr := dV.elim hr; obtain ⟨v0, l1, y0, rfl, e0, hr⟩ := hr; obtain rfl := asS_eq _ _ e0
  replace hr := dFin hr; obtain ⟨rfl, rfl, x, h, rfl⟩ := hr
  obtain rfl := kinds_nil hc
  exact ⟨_, rfl, leads135 hS _ x h⟩
def R12_word : (List UInt8) → Option Int := R12_wordF
theorem lift135 : SumOK Try.prog 135 (s135 R12_word) := ok135 (SumsOK.of_tab trivial)
end Go.Vm.Code
