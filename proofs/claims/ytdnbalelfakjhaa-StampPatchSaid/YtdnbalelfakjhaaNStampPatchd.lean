import Derived.Test.YtdnbalelfakjhaaNStampPatchc
namespace Go.Vm.Code
open Go Go.Vm Go.Proofs
def k41_0 : VC := .reg [oD 2 (.alloc [(.int .i64 0), (.bool false), (.int .u64 0), (.int .u64 0), (.bool false), (.int .u64 0), (.int .u64 0), (.int .i64 0), (.int .i64 0), (.int .i64 0), (.bool false), (.int .u32 0), (.int .u32 0), (.bool false), (.string ⟨⟨[]⟩⟩), (.int .i64 0)]),oD 3 (.mv (.const (.int .i64 0))),oD 4 (.mv (.const (.int .i64 0))),oD 5 (.mv (.const (.int .i64 0)))]
def k41_1 : VC := .reg [oM 18 τ0,oD 19 (.lenS τ18),oD 20 (.bin .gtr τ19 (.const (.int .i64 9000)))]
def k41_2 : VC := .reg [oD 21 (.build [(.int .i64 0), (.bool false), (.int .u64 0), (.int .u64 0), (.bool false), (.int .u64 0), (.int .u64 0), (.int .i64 0), (.int .i64 0), (.int .i64 0), (.bool false), (.int .u32 0), (.int .u32 0), (.bool false), (.string ⟨⟨[]⟩⟩), (.int .i64 0)] []),oN (.store 16 τ2 τ21),oD 3 (.mv (.const (.int .i64 0))),oD 4 (.mv (.const (.int .i64 0))),oD 5 (.mv (.const (.int .i64 5)))]
def k41_3 : VC := .seq k41_2 .ret
def k41_4 : VC := .cond τ20 k41_3 .skip
def k41_5 : VC := .seq k41_1 k41_4
def k41_6 : VC := .reg [oM 22 τ0,oD 23 (.bin .eql τ22 (.const (.string ⟨⟨[]⟩⟩)))]
def k41_7 : VC := .reg [oD 24 (.build [(.int .i64 0), (.bool false), (.int .u64 0), (.int .u64 0), (.bool false), (.int .u64 0), (.int .u64 0), (.int .i64 0), (.int .i64 0), (.int .i64 0), (.bool false), (.int .u32 0), (.int .u32 0), (.bool false), (.string ⟨⟨[]⟩⟩), (.int .i64 0)] []),oN (.store 16 τ2 τ24),oD 3 (.mv (.const (.int .i64 0))),oD 4 (.mv (.const (.int .i64 0))),oD 5 (.mv (.const (.int .i64 2)))]
def k41_8 : VC := .seq k41_7 .ret
def k41_9 : VC := .cond τ23 k41_8 .skip
def k41_10 : VC := .seq k41_6 k41_9
def k41_11 : VC := .reg [oM 26 τ0,oD 27 (.callF 66 [τ26]),oM 25 τ27,oE 28 0 τ25,oE 29 1 τ25,oD 6 (.alloc [(.bool false), (.int .u64 0), (.int .u64 0), (.bool false), (.int .u64 0), (.int .u64 0), (.int .i64 0), (.int .i64 0), (.string ⟨⟨[]⟩⟩)]),oN (.store 9 τ6 τ28),oM 7 τ29]
def k41_12 : VC := .reg [oM 30 τ7,oD 31 (.bin .neq τ30 (.const (.int .i64 0)))]
def k41_13 : VC := .reg [oD 32 (.build [(.int .i64 0), (.bool false), (.int .u64 0), (.int .u64 0), (.bool false), (.int .u64 0), (.int .u64 0), (.int .i64 0), (.int .i64 0), (.int .i64 0), (.bool false), (.int .u32 0), (.int .u32 0), (.bool false), (.string ⟨⟨[]⟩⟩), (.int .i64 0)] []),oM 33 τ7,oN (.store 16 τ2 τ32),oD 3 (.mv (.const (.int .i64 0))),oD 4 (.mv (.const (.int .i64 0))),oM 5 τ33]
def k41_14 : VC := .seq k41_13 .ret
def k41_15 : VC := .cond τ31 k41_14 .skip
def k41_16 : VC := .seq k41_12 k41_15
def k41_17 : VC := .reg [oD 34 (.fieldA 7 τ6),oD 35 (.load1 (.int .i64) τ34),oD 36 (.fieldA 8 τ6),oD 37 (.load1 .str τ36),oD 38 (.lenS τ37),oD 39 (.bin .add τ35 τ38),oM 40 τ0,oD 41 (.lenS τ40),oD 42 (.bin .neq τ39 τ41)]
def k41_18 : VC := .reg [oD 43 (.build [(.int .i64 0), (.bool false), (.int .u64 0), (.int .u64 0), (.bool false), (.int .u64 0), (.int .u64 0), (.int .i64 0), (.int .i64 0), (.int .i64 0), (.bool false), (.int .u32 0), (.int .u32 0), (.bool false), (.string ⟨⟨[]⟩⟩), (.int .i64 0)] []),oN (.store 16 τ2 τ43),oD 3 (.mv (.const (.int .i64 0))),oD 4 (.mv (.const (.int .i64 0))),oD 5 (.mv (.const (.int .i64 5)))]
def k41_19 : VC := .seq k41_18 .ret
def k41_20 : VC := .cond τ42 k41_19 .skip
def k41_21 : VC := .seq k41_17 k41_20
def k41_22 : VC := .reg [oM 44 τ0,oD 45 (.lenS τ44),oD 46 (.fieldA 6 τ6),oD 47 (.load1 (.int .i64) τ46),oD 48 (.fieldA 0 τ6),oD 49 (.loadN [.bool, (.int .u64), (.int .u64)] τ48),oD 50 (.fieldA 3 τ6),oD 51 (.loadN [.bool, (.int .u64), (.int .u64)] τ50),oD 52 (.build [(.int .i64 0), (.bool false), (.int .u64 0), (.int .u64 0), (.bool false), (.int .u64 0), (.int .u64 0), (.int .i64 0), (.int .i64 0)] [(0, 1, τ47), (1, 3, τ49), (4, 3, τ51)]),oD 53 (.build [(.int .i64 0), (.bool false), (.int .u64 0), (.int .u64 0), (.bool false), (.int .u64 0), (.int .u64 0), (.int .i64 0), (.int .i64 0), (.int .i64 0), (.bool false), (.int .u32 0), (.int .u32 0), (.bool false), (.string ⟨⟨[]⟩⟩), (.int .i64 0)] [(15, 1, τ45), (0, 9, τ52)]),oD 8 (.alloc [(.int .i64 0), (.bool false), (.int .u64 0), (.int .u64 0), (.bool false), (.int .u64 0), (.int .u64 0), (.int .i64 0), (.int .i64 0), (.int .i64 0), (.bool false), (.int .u32 0), (.int .u32 0), (.bool false), (.string ⟨⟨[]⟩⟩), (.int .i64 0)]),oN (.store 16 τ8 τ53)]
def k41_23 : VC := .reg [oD 54 (.fieldA 6 τ6),oD 55 (.load1 (.int .i64) τ54),oD 56 (.bin .eql τ55 (.const (.int .i64 6)))]
def k41_24 : VC := .reg [oD 58 (.fieldA 8 τ6),oD 59 (.load1 .str τ58),oD 60 (.fieldA 0 τ6),oD 61 (.loadN [.bool, (.int .u64), (.int .u64)] τ60),oD 62 (.fieldA 3 τ6),oD 63 (.loadN [.bool, (.int .u64), (.int .u64)] τ62),oD 64 (.callF 67 [τ59, τ61, τ63]),oM 57 τ64,oE 65 0 τ57,oE 66 1 τ57,oE 67 2 τ57,oD 9 (.alloc [(.int .i64 0), (.int .i64 0), (.int .u32 0), (.int .u32 0), (.int .i64 0), (.int .i64 0), (.int .i64 0), (.string ⟨⟨[]⟩⟩)]),oN (.store 8 τ9 τ65),oM 10 τ66,oM 11 τ67]
def k41_25 : VC := .reg [oM 68 τ11,oD 69 (.bin .neq τ68 (.const (.int .i64 0)))]
def k41_26 : VC := .reg [oD 70 (.build [(.int .i64 0), (.bool false), (.int .u64 0), (.int .u64 0), (.bool false), (.int .u64 0), (.int .u64 0), (.int .i64 0), (.int .i64 0), (.int .i64 0), (.bool false), (.int .u32 0), (.int .u32 0), (.bool false), (.string ⟨⟨[]⟩⟩), (.int .i64 0)] []),oM 71 τ11,oN (.store 16 τ2 τ70),oD 3 (.mv (.const (.int .i64 0))),oD 4 (.mv (.const (.int .i64 0))),oM 5 τ71]
def k41_27 : VC := .seq k41_26 .ret
def k41_28 : VC := .cond τ69 k41_27 .skip
def k41_29 : VC := .seq k41_25 k41_28
def k41_30 : VC := .reg [oD 72 (.fieldA 0 τ9),oD 73 (.load1 (.int .i64) τ72),oD 74 (.fieldA 0 τ8),oD 75 (.fieldA 7 τ74),oN (.store 1 τ75 τ73)]
def k41_31 : VC := .reg [oD 76 (.fieldA 1 τ9),oD 77 (.load1 (.int .i64) τ76),oD 78 (.fieldA 0 τ8),oD 79 (.fieldA 8 τ78),oN (.store 1 τ79 τ77)]
def k41_32 : VC := .reg [oD 80 (.fieldA 4 τ9),oD 81 (.load1 (.int .i64) τ80),oD 82 (.fieldA 9 τ8),oN (.store 1 τ82 τ81)]
def k41_33 : VC := .reg [oD 84 (.fieldA 7 τ9),oD 85 (.load1 .str τ84),oD 86 (.callF 68 [τ85]),oM 83 τ86,oE 87 0 τ83,oE 88 1 τ83,oE 89 2 τ83,oM 12 τ87,oM 13 τ88,oM 14 τ89]
def k41_34 : VC := .reg [oM 90 τ14,oD 91 (.bin .geq τ90 (.const (.int .i64 0)))]
def k41_35 : VC := .reg [oD 92 (.fieldA 10 τ8),oN (.store 1 τ92 (.const (.bool true)))]
def k41_36 : VC := .reg [oM 93 τ12,oD 94 (.fieldA 11 τ8),oN (.store 1 τ94 τ93)]
def k41_37 : VC := .reg [oM 95 τ13,oD 96 (.fieldA 12 τ8),oN (.store 1 τ96 τ95)]
def k41_38 : VC := .seq k41_36 k41_37
def k41_39 : VC := .seq k41_35 k41_38
def k41_40 : VC := .cond τ91 k41_39 .skip
def k41_41 : VC := .seq k41_34 k41_40
def k41_42 : VC := .regD [oD 97 (.loadN [(.int .i64), .bool, (.int .u64), (.int .u64), .bool, (.int .u64), (.int .u64), (.int .i64), (.int .i64), (.int .i64), .bool, (.int .u32), (.int .u32), .bool, .str, (.int .i64)] τ8),oD 98 (.fieldA 7 τ6),oD 99 (.load1 (.int .i64) τ98),oD 100 (.fieldA 7 τ6),oD 101 (.load1 (.int .i64) τ100),oD 102 (.bin .add τ101 (.const (.int .i64 20))),oD 103 (.fieldA 7 τ9),oD 104 (.load1 .str τ103),oD 105 (.lenS τ104),oD 106 (.bin .add τ102 τ105),oN (.store 16 τ2 τ97),oM 3 τ99] [(2, 10), (4, 10), (7, 10)] [oM 4 τ106,oD 5 (.mv (.const (.int .i64 0)))]
def k41_43 : VC := .seq k41_42 .ret
def k41_44 : VC := .seq k41_41 k41_43
def k41_45 : VC := .seq k41_33 k41_44
def k41_46 : VC := .seq k41_32 k41_45
def k41_47 : VC := .seq k41_31 k41_46
def k41_48 : VC := .seq k41_30 k41_47
def k41_49 : VC := .seq k41_29 k41_48
def k41_50 : VC := .seq k41_24 k41_49
def k41_51 : VC := .cond τ56 k41_50 .skip
def k41_52 : VC := .seq k41_23 k41_51
def k41_53 : VC := .reg [oD 107 (.fieldA 6 τ6),oD 108 (.load1 (.int .i64) τ107),oD 109 (.bin .neq τ108 (.const (.int .i64 17)))]
def k41_54 : VC := .reg [oD 110 (.build [(.int .i64 0), (.bool false), (.int .u64 0), (.int .u64 0), (.bool false), (.int .u64 0), (.int .u64 0), (.int .i64 0), (.int .i64 0), (.int .i64 0), (.bool false), (.int .u32 0), (.int .u32 0), (.bool false), (.string ⟨⟨[]⟩⟩), (.int .i64 0)] []),oN (.store 16 τ2 τ110),oD 3 (.mv (.const (.int .i64 0))),oD 4 (.mv (.const (.int .i64 0))),oD 5 (.mv (.const (.int .i64 6)))]
def k41_55 : VC := .seq k41_54 .ret
def k41_56 : VC := .cond τ109 k41_55 .skip
def k41_57 : VC := .seq k41_53 k41_56
def k41_58 : VC := .reg [oD 112 (.fieldA 8 τ6),oD 113 (.load1 .str τ112),oD 114 (.fieldA 0 τ6),oD 115 (.loadN [.bool, (.int .u64), (.int .u64)] τ114),oD 116 (.fieldA 3 τ6),oD 117 (.loadN [.bool, (.int .u64), (.int .u64)] τ116),oD 118 (.callF 69 [τ113, τ115, τ117]),oM 111 τ118,oE 119 0 τ111,oE 120 1 τ111,oE 121 2 τ111,oD 15 (.alloc [(.int .i64 0), (.int .i64 0)]),oN (.store 2 τ15 τ119),oM 16 τ120,oM 7 τ121]
def k41_59 : VC := .reg [oM 122 τ7,oD 123 (.bin .neq τ122 (.const (.int .i64 0)))]
def k41_60 : VC := .reg [oD 124 (.build [(.int .i64 0), (.bool false), (.int .u64 0), (.int .u64 0), (.bool false), (.int .u64 0), (.int .u64 0), (.int .i64 0), (.int .i64 0), (.int .i64 0), (.bool false), (.int .u32 0), (.int .u32 0), (.bool false), (.string ⟨⟨[]⟩⟩), (.int .i64 0)] []),oM 125 τ7,oN (.store 16 τ2 τ124),oD 3 (.mv (.const (.int .i64 0))),oD 4 (.mv (.const (.int .i64 0))),oM 5 τ125]
def k41_61 : VC := .seq k41_60 .ret
def k41_62 : VC := .cond τ123 k41_61 .skip
def k41_63 : VC := .seq k41_59 k41_62
def k41_64 : VC := .reg [oM 126 τ16,oD 127 (.lenS τ126),oD 128 (.bin .add τ127 (.const (.int .i64 8))),oD 129 (.fieldA 8 τ6),oD 130 (.load1 .str τ129),oD 131 (.lenS τ130),oD 132 (.bin .neq τ128 τ131)]
def k41_65 : VC := .reg [oD 133 (.build [(.int .i64 0), (.bool false), (.int .u64 0), (.int .u64 0), (.bool false), (.int .u64 0), (.int .u64 0), (.int .i64 0), (.int .i64 0), (.int .i64 0), (.bool false), (.int .u32 0), (.int .u32 0), (.bool false), (.string ⟨⟨[]⟩⟩), (.int .i64 0)] []),oN (.store 16 τ2 τ133),oD 3 (.mv (.const (.int .i64 0))),oD 4 (.mv (.const (.int .i64 0))),oD 5 (.mv (.const (.int .i64 5)))]
def k41_66 : VC := .seq k41_65 .ret
def k41_67 : VC := .cond τ132 k41_66 .skip
def k41_68 : VC := .seq k41_64 k41_67
def k41_69 : VC := .reg [oD 134 (.fieldA 0 τ15),oD 135 (.load1 (.int .i64) τ134),oD 136 (.fieldA 0 τ8),oD 137 (.fieldA 7 τ136),oN (.store 1 τ137 τ135)]
def k41_70 : VC := .reg [oD 138 (.fieldA 1 τ15),oD 139 (.load1 (.int .i64) τ138),oD 140 (.fieldA 0 τ8),oD 141 (.fieldA 8 τ140),oN (.store 1 τ141 τ139)]
def k41_71 : VC := .reg [oM 143 τ16,oD 144 (.callF 70 [τ143]),oM 142 τ144,oE 145 0 τ142,oE 146 1 τ142,oD 17 (.alloc [(.bool false), (.int .i64 0), (.int .u32 0), (.string ⟨⟨[]⟩⟩), (.string ⟨⟨[]⟩⟩), (.string ⟨⟨[]⟩⟩)]),oN (.store 6 τ17 τ145),oM 7 τ146]
def k41_72 : VC := .reg [oM 147 τ7,oD 148 (.bin .eql τ147 (.const (.int .i64 0)))]
def k41_73 : VC := .reg [oD 149 (.fieldA 0 τ17),oD 150 (.load1 .bool τ149),oD 151 (.fieldA 13 τ8),oN (.store 1 τ151 τ150)]
def k41_74 : VC := .reg [oD 152 (.fieldA 3 τ17),oD 153 (.load1 .str τ152),oD 154 (.fieldA 14 τ8),oN (.store 1 τ154 τ153)]
def k41_75 : VC := .seq k41_73 k41_74
def k41_76 : VC := .cond τ148 k41_75 .skip
def k41_77 : VC := .seq k41_72 k41_76
def k41_78 : VC := .regD [oD 155 (.loadN [(.int .i64), .bool, (.int .u64), (.int .u64), .bool, (.int .u64), (.int .u64), (.int .i64), (.int .i64), (.int .i64), .bool, (.int .u32), (.int .u32), .bool, .str, (.int .i64)] τ8),oD 156 (.fieldA 7 τ6),oD 157 (.load1 (.int .i64) τ156),oD 158 (.fieldA 7 τ6),oD 159 (.load1 (.int .i64) τ158),oD 160 (.bin .add τ159 (.const (.int .i64 8))),oN (.store 16 τ2 τ155),oM 3 τ157] [(2, 6), (4, 6)] [oM 4 τ160,oD 5 (.mv (.const (.int .i64 0)))]
def k41_79 : VC := .seq k41_78 .ret
def k41_80 : VC := .seq k41_77 k41_79
def k41_81 : VC := .seq k41_71 k41_80
def k41_82 : VC := .seq k41_70 k41_81
def k41_83 : VC := .seq k41_69 k41_82
def k41_84 : VC := .seq k41_68 k41_83
def k41_85 : VC := .seq k41_63 k41_84
def k41_86 : VC := .seq k41_58 k41_85
def k41_87 : VC := .seq k41_57 k41_86
def k41_88 : VC := .seq k41_52 k41_87
def k41_89 : VC := .seq k41_22 k41_88
def k41_90 : VC := .seq k41_21 k41_89
def k41_91 : VC := .seq k41_16 k41_90
def k41_92 : VC := .seq k41_11 k41_91
def k41_93 : VC := .seq k41_10 k41_92
def k41_94 : VC := .seq k41_5 k41_93
def k41_95 : VC := .seq k41_0 k41_94
def fn41 : VFn := ⟨161, k41_95, [.cell 2 [(.int .i64), .bool, (.int .u64), (.int .u64), .bool, (.int .u64), (.int .u64), (.int .i64), (.int .i64), (.int .i64), .bool, (.int .u32), (.int .u32), .bool, .str, (.int .i64)] true, .tmp 3, .tmp 4, .tmp 5]⟩
def k66_0 : VC := .reg [oD 2 (.alloc [(.bool false), (.int .u64 0), (.int .u64 0), (.bool false), (.int .u64 0), (.int .u64 0), (.int .i64 0), (.int .i64 0), (.string ⟨⟨[]⟩⟩)]),oD 3 (.mv (.const (.int .i64 0)))]
def k66_1 : VC := .reg [oM 10 τ0,oD 11 (.idxS τ10 (.const (.int .i64 0))),oD 12 (.bin .quo τ11 (.const (.int .u8 16))),oD 13 (.bin .eql τ12 (.const (.int .u8 4)))]
def k66_2 : VC := .reg [oM 15 τ0,oD 16 (.callF 93 [τ15]),oM 14 τ16,oE 17 0 τ14,oE 18 1 τ14,oE 19 2 τ14,oD 4 (.alloc [(.int .i64 0), (.int .i64 0), (.bool false), (.int .i64 0), (.int .i64 0), (.bool false), (.int .u64 0), (.int .u64 0), (.bool false), (.int .u64 0), (.int .u64 0), (.string ⟨⟨[]⟩⟩)]),oN (.store 12 τ4 τ17),oM 5 τ18,oM 6 τ19]
def k66_3 : VC := .reg [oD 20 (.fieldA 5 τ4),oD 21 (.loadN [.bool, (.int .u64), (.int .u64)] τ20),oD 22 (.fieldA 8 τ4),oD 23 (.loadN [.bool, (.int .u64), (.int .u64)] τ22),oD 24 (.fieldA 4 τ4),oD 25 (.load1 (.int .i64) τ24),oD 26 (.fieldA 11 τ4),oD 27 (.load1 .str τ26),oD 28 (.lenS τ27),oD 29 (.bin .add (.const (.int .i64 20)) τ28),oM 30 τ5,oD 31 (.build [(.bool false), (.int .u64 0), (.int .u64 0), (.bool false), (.int .u64 0), (.int .u64 0), (.int .i64 0), (.int .i64 0), (.string ⟨⟨[]⟩⟩)] [(0, 3, τ21), (3, 3, τ23), (6, 1, τ25), (7, 1, τ29), (8, 1, τ30)]),oM 32 τ6,oN (.store 9 τ2 τ31),oM 3 τ32]
def k66_4 : VC := .seq k66_3 .ret
def k66_5 : VC := .seq k66_2 k66_4
def k66_6 : VC := .cond τ13 k66_5 .skip
def k66_7 : VC := .seq k66_1 k66_6
def k66_8 : VC := .reg [oM 33 τ0,oD 34 (.idxS τ33 (.const (.int .i64 0))),oD 35 (.bin .quo τ34 (.const (.int .u8 16))),oD 36 (.bin .eql τ35 (.const (.int .u8 6)))]
def k66_9 : VC := .reg [oM 38 τ0,oD 39 (.callF 94 [τ38]),oM 37 τ39,oE 40 0 τ37,oE 41 1 τ37,oE 42 2 τ37,oD 7 (.alloc [(.int .i64 0), (.int .i64 0), (.int .i64 0), (.int .i64 0), (.bool false), (.int .u64 0), (.int .u64 0), (.bool false), (.int .u64 0), (.int .u64 0)]),oN (.store 10 τ7 τ40),oM 8 τ41,oM 9 τ42]
def k66_10 : VC := .reg [oD 43 (.fieldA 4 τ7),oD 44 (.loadN [.bool, (.int .u64), (.int .u64)] τ43),oD 45 (.fieldA 7 τ7),oD 46 (.loadN [.bool, (.int .u64), (.int .u64)] τ45),oD 47 (.fieldA 2 τ7),oD 48 (.load1 (.int .i64) τ47),oM 49 τ8,oD 50 (.build [(.bool false), (.int .u64 0), (.int .u64 0), (.bool false), (.int .u64 0), (.int .u64 0), (.int .i64 0), (.int .i64 0), (.string ⟨⟨[]⟩⟩)] [(0, 3, τ44), (3, 3, τ46), (6, 1, τ48), (7, 1, (.const (.int .i64 40))), (8, 1, τ49)]),oM 51 τ9,oN (.store 9 τ2 τ50),oM 3 τ51]
def k66_11 : VC := .seq k66_10 .ret
def k66_12 : VC := .seq k66_9 k66_11
def k66_13 : VC := .cond τ36 k66_12 .skip
def k66_14 : VC := .seq k66_8 k66_13
def k66_15 : VC := .reg [oD 52 (.build [(.bool false), (.int .u64 0), (.int .u64 0), (.bool false), (.int .u64 0), (.int .u64 0), (.int .i64 0), (.int .i64 0), (.string ⟨⟨[]⟩⟩)] []),oN (.store 9 τ2 τ52),oD 3 (.mv (.const (.int .i64 3)))]
def k66_16 : VC := .seq k66_15 .ret
def k66_17 : VC := .seq k66_14 k66_16
def k66_18 : VC := .seq k66_7 k66_17
def k66_19 : VC := .seq k66_0 k66_18
def fn66 : VFn := ⟨53, k66_19, [.cell 2 [.bool, (.int .u64), (.int .u64), .bool, (.int .u64), (.int .u64), (.int .i64), (.int .i64), .str] true, .tmp 3]⟩
def k93_0 : VC := .reg [oD 2 (.alloc [(.int .i64 0), (.int .i64 0), (.bool false), (.int .i64 0), (.int .i64 0), (.bool false), (.int .u64 0), (.int .u64 0), (.bool false), (.int .u64 0), (.int .u64 0), (.string ⟨⟨[]⟩⟩)]),oD 3 (.mv (.const (.string ⟨⟨[]⟩⟩))),oD 4 (.mv (.const (.int .i64 0)))]
def k93_1 : VC := .reg [oM 11 τ0,oD 12 (.lenS τ11),oD 13 (.bin .lss τ12 (.const (.int .i64 20)))]
def k93_2 : VC := .reg [oD 14 (.build [(.int .i64 0), (.int .i64 0), (.bool false), (.int .i64 0), (.int .i64 0), (.bool false), (.int .u64 0), (.int .u64 0), (.bool false), (.int .u64 0), (.int .u64 0), (.string ⟨⟨[]⟩⟩)] []),oN (.store 12 τ2 τ14),oD 3 (.mv (.const (.string ⟨⟨[]⟩⟩))),oD 4 (.mv (.const (.int .i64 2)))]
def k93_3 : VC := .seq k93_2 .ret
def k93_4 : VC := .cond τ13 k93_3 .skip
def k93_5 : VC := .seq k93_1 k93_4
def k93_6 : VC := .regD [oM 15 τ0,oD 16 (.idxS τ15 (.const (.int .i64 0))),oD 17 (.bin .rem τ16 (.const (.int .u8 16))),oD 18 (.conv .i64 τ17),oD 19 (.bin .mul (.const (.int .i64 4)) τ18),oM 20 τ0,oD 21 (.callF 45 [τ20, (.const (.int .i64 2)), (.const (.int .i64 2))])] [] [oM 5 τ19,oM 6 τ21]
def k93_7 : VC := .reg [oM 22 τ0,oD 23 (.idxS τ22 (.const (.int .i64 0))),oD 24 (.bin .quo τ23 (.const (.int .u8 16))),oD 25 (.bin .neq τ24 (.const (.int .u8 4))),oM 26 τ25,oG 27 (.mv τ5) 26 false,oG 28 (.bin .lss τ27 (.const (.int .i64 20))) 26 false,oD 29 (.pick τ26 (.const (.bool true)) τ28),oM 30 τ29,oG 31 (.mv τ6) 30 false,oG 32 (.mv τ5) 30 false,oG 33 (.bin .lss τ31 τ32) 30 false,oD 34 (.pick τ30 (.const (.bool true)) τ33)]
def k93_8 : VC := .reg [oD 35 (.build [(.int .i64 0), (.int .i64 0), (.bool false), (.int .i64 0), (.int .i64 0), (.bool false), (.int .u64 0), (.int .u64 0), (.bool false), (.int .u64 0), (.int .u64 0), (.string ⟨⟨[]⟩⟩)] []),oN (.store 12 τ2 τ35),oD 3 (.mv (.const (.string ⟨⟨[]⟩⟩))),oD 4 (.mv (.const (.int .i64 3)))]
def k93_9 : VC := .seq k93_8 .ret
def k93_10 : VC := .cond τ34 k93_9 .skip
def k93_11 : VC := .seq k93_7 k93_10
def k93_12 : VC := .reg [oM 36 τ0,oD 37 (.lenS τ36),oM 38 τ6,oD 39 (.bin .lss τ37 τ38)]
def k93_13 : VC := .reg [oD 40 (.build [(.int .i64 0), (.int .i64 0), (.bool false), (.int .i64 0), (.int .i64 0), (.bool false), (.int .u64 0), (.int .u64 0), (.bool false), (.int .u64 0), (.int .u64 0), (.string ⟨⟨[]⟩⟩)] []),oN (.store 12 τ2 τ40),oD 3 (.mv (.const (.string ⟨⟨[]⟩⟩))),oD 4 (.mv (.const (.int .i64 2)))]
def k93_14 : VC := .seq k93_13 .ret
def k93_15 : VC := .cond τ39 k93_14 .skip
def k93_16 : VC := .seq k93_12 k93_15
def k93_17 : VC := .reg [oM 41 τ0,oM 42 τ5,oD 43 (.sliceS τ41 none (some τ42)),oD 44 (.callF 12 [τ43]),oD 45 (.bin .neq τ44 (.const (.int .i64 65535)))]
def k93_18 : VC := .reg [oD 46 (.build [(.int .i64 0), (.int .i64 0), (.bool false), (.int .i64 0), (.int .i64 0), (.bool false), (.int .u64 0), (.int .u64 0), (.bool false), (.int .u64 0), (.int .u64 0), (.string ⟨⟨[]⟩⟩)] []),oN (.store 12 τ2 τ46),oD 3 (.mv (.const (.string ⟨⟨[]⟩⟩))),oD 4 (.mv (.const (.int .i64 4)))]
def k93_19 : VC := .seq k93_18 .ret
def k93_20 : VC := .cond τ45 k93_19 .skip
def k93_21 : VC := .seq k93_17 k93_20
def k93_22 : VC := .reg [oM 47 τ0,oD 48 (.idxS τ47 (.const (.int .i64 6))),oD 49 (.bin .neq τ48 (.const (.int .u8 0))),oM 50 τ49,oG 51 (.mv τ0) 50 true,oG 52 (.idxS τ51 (.const (.int .i64 6))) 50 true,oG 53 (.bin .neq τ52 (.const (.int .u8 64))) 50 true,oD 54 (.pick τ50 τ53 (.const (.bool false))),oM 55 τ54,oG 56 (.mv τ0) 55 false,oG 57 (.idxS τ56 (.const (.int .i64 7))) 55 false,oG 58 (.bin .neq τ57 (.const (.int .u8 0))) 55 false,oD 59 (.pick τ55 (.const (.bool true)) τ58)]
def k93_23 : VC := .reg [oD 60 (.build [(.int .i64 0), (.int .i64 0), (.bool false), (.int .i64 0), (.int .i64 0), (.bool false), (.int .u64 0), (.int .u64 0), (.bool false), (.int .u64 0), (.int .u64 0), (.string ⟨⟨[]⟩⟩)] []),oN (.store 12 τ2 τ60),oD 3 (.mv (.const (.string ⟨⟨[]⟩⟩))),oD 4 (.mv (.const (.int .i64 7)))]
def k93_24 : VC := .seq k93_23 .ret
def k93_25 : VC := .cond τ59 k93_24 .skip
def k93_26 : VC := .seq k93_22 k93_25
def k93_27 : VC := .reg [oM 62 τ0,oD 63 (.sliceS τ62 (some (.const (.int .i64 12))) (some (.const (.int .i64 16)))),oD 64 (.callF 115 [τ63]),oM 61 τ64,oE 65 0 τ61,oE 66 1 τ61,oD 7 (.alloc [(.bool false), (.int .u64 0), (.int .u64 0)]),oN (.store 3 τ7 τ65),oM 8 τ66]
def k93_28 : VC := .reg [oM 68 τ0,oD 69 (.sliceS τ68 (some (.const (.int .i64 16))) (some (.const (.int .i64 20)))),oD 70 (.callF 115 [τ69]),oM 67 τ70,oE 71 0 τ67,oE 72 1 τ67,oD 9 (.alloc [(.bool false), (.int .u64 0), (.int .u64 0)]),oN (.store 3 τ9 τ71),oM 10 τ72]
def k93_29 : VC := .regD [oM 73 τ0,oD 74 (.idxS τ73 (.const (.int .i64 1))),oD 75 (.conv .i64 τ74),oM 76 τ0,oD 77 (.callF 45 [τ76, (.const (.int .i64 4)), (.const (.int .i64 2))]),oM 78 τ0,oD 79 (.idxS τ78 (.const (.int .i64 6))),oD 80 (.bin .eql τ79 (.const (.int .u8 64))),oM 81 τ0,oD 82 (.idxS τ81 (.const (.int .i64 8))),oD 83 (.conv .i64 τ82),oM 84 τ0,oD 85 (.idxS τ84 (.const (.int .i64 9))),oD 86 (.conv .i64 τ85),oD 87 (.loadN [.bool, (.int .u64), (.int .u64)] τ7),oD 88 (.loadN [.bool, (.int .u64), (.int .u64)] τ9),oM 89 τ0,oM 90 τ5,oD 91 (.sliceS τ89 (some (.const (.int .i64 20))) (some τ90)),oD 92 (.build [(.int .i64 0), (.int .i64 0), (.bool false), (.int .i64 0), (.int .i64 0), (.bool false), (.int .u64 0), (.int .u64 0), (.bool false), (.int .u64 0), (.int .u64 0), (.string ⟨⟨[]⟩⟩)] [(0, 1, τ75), (1, 1, τ77), (2, 1, τ80), (3, 1, τ83), (4, 1, τ86), (5, 3, τ87), (8, 3, τ88), (11, 1, τ91)]),oM 93 τ0,oM 94 τ5,oM 95 τ6,oD 96 (.sliceS τ93 (some τ94) (some τ95)),oN (.store 12 τ2 τ92)] [(4, 14), (4, 15)] [oM 3 τ96,oD 4 (.mv (.const (.int .i64 0)))]
def k93_30 : VC := .seq k93_29 .ret
def k93_31 : VC := .seq k93_28 k93_30
def k93_32 : VC := .seq k93_27 k93_31
def k93_33 : VC := .seq k93_26 k93_32
def k93_34 : VC := .seq k93_21 k93_33
def k93_35 : VC := .seq k93_16 k93_34
def k93_36 : VC := .seq k93_11 k93_35
def k93_37 : VC := .seq k93_6 k93_36
def k93_38 : VC := .seq k93_5 k93_37
def k93_39 : VC := .seq k93_0 k93_38
def fn93 : VFn := ⟨97, k93_39, [.cell 2 [(.int .i64), (.int .i64), .bool, (.int .i64), (.int .i64), .bool, (.int .u64), (.int .u64), .bool, (.int .u64), (.int .u64), .str] true, .tmp 3, .tmp 4]⟩
def k115_0 : VC := .reg [oD 2 (.alloc [(.bool false), (.int .u64 0), (.int .u64 0)]),oD 3 (.mv (.const (.bool false)))]
def k115_1 : VC := .reg [oM 10 τ0,oD 11 (.lenS τ10),oD 12 (.bin .eql τ11 (.const (.int .i64 4)))]
def k115_2 : VC := .reg [oM 14 τ0,oD 15 (.callF 23 [τ14, (.const (.int .i64 0)), (.const (.int .i64 4))]),oM 13 τ15,oE 16 0 τ13,oE 17 1 τ13,oM 4 τ16,oM 5 τ17]
def k115_3 : VC := .reg [oM 18 τ4,oD 19 (.build [(.bool false), (.int .u64 0), (.int .u64 0)] [(2, 1, τ18)]),oN (.store 3 τ2 τ19),oD 3 (.mv (.const (.bool true)))]
def k115_4 : VC := .seq k115_3 .ret
def k115_5 : VC := .seq k115_2 k115_4
def k115_6 : VC := .cond τ12 k115_5 .skip
def k115_7 : VC := .seq k115_1 k115_6
def k115_8 : VC := .reg [oM 20 τ0,oD 21 (.lenS τ20),oD 22 (.bin .eql τ21 (.const (.int .i64 16)))]
def k115_9 : VC := .reg [oM 24 τ0,oD 25 (.callF 23 [τ24, (.const (.int .i64 0)), (.const (.int .i64 8))]),oM 23 τ25,oE 26 0 τ23,oE 27 1 τ23,oM 6 τ26,oM 7 τ27]
def k115_10 : VC := .reg [oM 29 τ0,oD 30 (.callF 23 [τ29, (.const (.int .i64 8)), (.const (.int .i64 8))]),oM 28 τ30,oE 31 0 τ28,oE 32 1 τ28,oM 8 τ31,oM 9 τ32]
def k115_11 : VC := .reg [oM 33 τ6,oM 34 τ8,oD 35 (.build [(.bool false), (.int .u64 0), (.int .u64 0)] [(0, 1, (.const (.bool true))), (1, 1, τ33), (2, 1, τ34)]),oN (.store 3 τ2 τ35),oD 3 (.mv (.const (.bool true)))]
def k115_12 : VC := .seq k115_11 .ret
def k115_13 : VC := .seq k115_10 k115_12
def k115_14 : VC := .seq k115_9 k115_13
def k115_15 : VC := .cond τ22 k115_14 .skip
def k115_16 : VC := .seq k115_8 k115_15
def k115_17 : VC := .reg [oD 36 (.build [(.bool false), (.int .u64 0), (.int .u64 0)] []),oN (.store 3 τ2 τ36),oD 3 (.mv (.const (.bool false)))]
def k115_18 : VC := .seq k115_17 .ret
def k115_19 : VC := .seq k115_16 k115_18
def k115_20 : VC := .seq k115_7 k115_19
def k115_21 : VC := .seq k115_0 k115_20
def fn115 : VFn := ⟨37, k115_21, [.cell 2 [.bool, (.int .u64), (.int .u64)] true, .tmp 3]⟩
def k94_0 : VC := .reg [oD 2 (.alloc [(.int .i64 0), (.int .i64 0), (.int .i64 0), (.int .i64 0), (.bool false), (.int .u64 0), (.int .u64 0), (.bool false), (.int .u64 0), (.int .u64 0)]),oD 3 (.mv (.const (.string ⟨⟨[]⟩⟩))),oD 4 (.mv (.const (.int .i64 0)))]
def k94_1 : VC := .reg [oM 11 τ0,oD 12 (.lenS τ11),oD 13 (.bin .lss τ12 (.const (.int .i64 40)))]
def k94_2 : VC := .reg [oD 14 (.build [(.int .i64 0), (.int .i64 0), (.int .i64 0), (.int .i64 0), (.bool false), (.int .u64 0), (.int .u64 0), (.bool false), (.int .u64 0), (.int .u64 0)] []),oN (.store 10 τ2 τ14),oD 3 (.mv (.const (.string ⟨⟨[]⟩⟩))),oD 4 (.mv (.const (.int .i64 2)))]
def k94_3 : VC := .seq k94_2 .ret
def k94_4 : VC := .cond τ13 k94_3 .skip
def k94_5 : VC := .seq k94_1 k94_4
def k94_6 : VC := .reg [oM 15 τ0,oD 16 (.callF 45 [τ15, (.const (.int .i64 0)), (.const (.int .i64 4))]),oM 17 τ0,oD 18 (.callF 45 [τ17, (.const (.int .i64 4)), (.const (.int .i64 2))]),oM 5 τ16,oM 6 τ18]
def k94_7 : VC := .reg [oM 19 τ5,oD 20 (.bin .quo τ19 (.const (.int .i64 268435456))),oD 21 (.bin .neq τ20 (.const (.int .i64 6)))]
def k94_8 : VC := .reg [oD 22 (.build [(.int .i64 0), (.int .i64 0), (.int .i64 0), (.int .i64 0), (.bool false), (.int .u64 0), (.int .u64 0), (.bool false), (.int .u64 0), (.int .u64 0)] []),oN (.store 10 τ2 τ22),oD 3 (.mv (.const (.string ⟨⟨[]⟩⟩))),oD 4 (.mv (.const (.int .i64 3)))]
def k94_9 : VC := .seq k94_8 .ret
def k94_10 : VC := .cond τ21 k94_9 .skip
def k94_11 : VC := .seq k94_7 k94_10
def k94_12 : VC := .reg [oM 23 τ0,oD 24 (.lenS τ23),oD 25 (.bin .sub τ24 (.const (.int .i64 40))),oM 26 τ6,oD 27 (.bin .lss τ25 τ26)]
def k94_13 : VC := .reg [oD 28 (.build [(.int .i64 0), (.int .i64 0), (.int .i64 0), (.int .i64 0), (.bool false), (.int .u64 0), (.int .u64 0), (.bool false), (.int .u64 0), (.int .u64 0)] []),oN (.store 10 τ2 τ28),oD 3 (.mv (.const (.string ⟨⟨[]⟩⟩))),oD 4 (.mv (.const (.int .i64 2)))]
def k94_14 : VC := .seq k94_13 .ret
def k94_15 : VC := .cond τ27 k94_14 .skip
def k94_16 : VC := .seq k94_12 k94_15
def k94_17 : VC := .reg [oM 30 τ0,oD 31 (.sliceS τ30 (some (.const (.int .i64 8))) (some (.const (.int .i64 24)))),oD 32 (.callF 115 [τ31]),oM 29 τ32,oE 33 0 τ29,oE 34 1 τ29,oD 7 (.alloc [(.bool false), (.int .u64 0), (.int .u64 0)]),oN (.store 3 τ7 τ33),oM 8 τ34]
def k94_18 : VC := .reg [oM 36 τ0,oD 37 (.sliceS τ36 (some (.const (.int .i64 24))) (some (.const (.int .i64 40)))),oD 38 (.callF 115 [τ37]),oM 35 τ38,oE 39 0 τ35,oE 40 1 τ35,oD 9 (.alloc [(.bool false), (.int .u64 0), (.int .u64 0)]),oN (.store 3 τ9 τ39),oM 10 τ40]
def k94_19 : VC := .regD [oM 41 τ5,oD 42 (.bin .quo τ41 (.const (.int .i64 1048576))),oD 43 (.bin .rem τ42 (.const (.int .i64 256))),oM 44 τ5,oD 45 (.bin .rem τ44 (.const (.int .i64 1048576))),oM 46 τ0,oD 47 (.idxS τ46 (.const (.int .i64 6))),oD 48 (.conv .i64 τ47),oM 49 τ0,oD 50 (.idxS τ49 (.const (.int .i64 7))),oD 51 (.conv .i64 τ50),oD 52 (.loadN [.bool, (.int .u64), (.int .u64)] τ7),oD 53 (.loadN [.bool, (.int .u64), (.int .u64)] τ9),oD 54 (.build [(.int .i64 0), (.int .i64 0), (.int .i64 0), (.int .i64 0), (.bool false), (.int .u64 0), (.int .u64 0), (.bool false), (.int .u64 0), (.int .u64 0)] [(0, 1, τ43), (1, 1, τ45), (2, 1, τ48), (3, 1, τ51), (4, 3, τ52), (7, 3, τ53)]),oM 55 τ0,oM 56 τ6,oD 57 (.bin .add (.const (.int .i64 40)) τ56),oD 58 (.sliceS τ55 (some (.const (.int .i64 40))) (some τ57)),oN (.store 10 τ2 τ54)] [] [oM 3 τ58,oD 4 (.mv (.const (.int .i64 0)))]
def k94_20 : VC := .seq k94_19 .ret
def k94_21 : VC := .seq k94_18 k94_20
def k94_22 : VC := .seq k94_17 k94_21
def k94_23 : VC := .seq k94_16 k94_22
def k94_24 : VC := .seq k94_11 k94_23
def k94_25 : VC := .seq k94_6 k94_24
def k94_26 : VC := .seq k94_5 k94_25
def k94_27 : VC := .seq k94_0 k94_26
def fn94 : VFn := ⟨59, k94_27, [.cell 2 [(.int .i64), (.int .i64), (.int .i64), (.int .i64), .bool, (.int .u64), (.int .u64), .bool, (.int .u64), (.int .u64)] true, .tmp 3, .tmp 4]⟩
def k67_0 : VC := .reg [oD 4 (.box τ1),oD 5 (.box τ2),oD 6 (.alloc [(.int .i64 0), (.int .i64 0), (.int .u32 0), (.int .u32 0), (.int .i64 0), (.int .i64 0), (.int .i64 0), (.string ⟨⟨[]⟩⟩)]),oD 7 (.mv (.const (.string ⟨⟨[]⟩⟩))),oD 8 (.mv (.const (.int .i64 0)))]
def k67_1 : VC := .reg [oM 13 τ0,oD 14 (.lenS τ13),oD 15 (.bin .lss τ14 (.const (.int .i64 20)))]
def k67_2 : VC := .reg [oD 16 (.build [(.int .i64 0), (.int .i64 0), (.int .u32 0), (.int .u32 0), (.int .i64 0), (.int .i64 0), (.int .i64 0), (.string ⟨⟨[]⟩⟩)] []),oN (.store 8 τ6 τ16),oD 7 (.mv (.const (.string ⟨⟨[]⟩⟩))),oD 8 (.mv (.const (.int .i64 2)))]
def k67_3 : VC := .seq k67_2 .ret
def k67_4 : VC := .cond τ15 k67_3 .skip
def k67_5 : VC := .seq k67_1 k67_4
def k67_6 : VC := .reg [oM 17 τ0,oD 18 (.idxS τ17 (.const (.int .i64 12))),oD 19 (.bin .quo τ18 (.const (.int .u8 16))),oD 20 (.conv .i64 τ19),oD 21 (.bin .mul (.const (.int .i64 4)) τ20),oM 9 τ21]
def k67_7 : VC := .reg [oM 22 τ9,oD 23 (.bin .lss τ22 (.const (.int .i64 20))),oM 24 τ23,oG 25 (.mv τ0) 24 false,oG 26 (.idxS τ25 (.const (.int .i64 12))) 24 false,oG 27 (.bin .rem τ26 (.const (.int .u8 16))) 24 false,oG 28 (.bin .neq τ27 (.const (.int .u8 0))) 24 false,oD 29 (.pick τ24 (.const (.bool true)) τ28)]
def k67_8 : VC := .reg [oD 30 (.build [(.int .i64 0), (.int .i64 0), (.int .u32 0), (.int .u32 0), (.int .i64 0), (.int .i64 0), (.int .i64 0), (.string ⟨⟨[]⟩⟩)] []),oN (.store 8 τ6 τ30),oD 7 (.mv (.const (.string ⟨⟨[]⟩⟩))),oD 8 (.mv (.const (.int .i64 3)))]
def k67_9 : VC := .seq k67_8 .ret
def k67_10 : VC := .cond τ29 k67_9 .skip
def k67_11 : VC := .seq k67_7 k67_10
def k67_12 : VC := .reg [oM 31 τ0,oD 32 (.lenS τ31),oM 33 τ9,oD 34 (.bin .lss τ32 τ33)]
def k67_13 : VC := .reg [oD 35 (.build [(.int .i64 0), (.int .i64 0), (.int .u32 0), (.int .u32 0), (.int .i64 0), (.int .i64 0), (.int .i64 0), (.string ⟨⟨[]⟩⟩)] []),oN (.store 8 τ6 τ35),oD 7 (.mv (.const (.string ⟨⟨[]⟩⟩))),oD 8 (.mv (.const (.int .i64 2)))]
def k67_14 : VC := .seq k67_13 .ret
def k67_15 : VC := .cond τ34 k67_14 .skip
def k67_16 : VC := .seq k67_12 k67_15
def k67_17 : VC := .reg [oD 36 (.loadN [.bool, (.int .u64), (.int .u64)] τ4),oD 37 (.loadN [.bool, (.int .u64), (.int .u64)] τ5),oM 38 τ0,oD 39 (.lenS τ38),oD 40 (.callF 59 [τ36, τ37, (.const (.int .i64 6)), τ39]),oM 10 τ40]
def k67_18 : VC := .reg [oM 41 τ10,oD 42 (.bin .eql τ41 (.const (.string ⟨⟨[]⟩⟩)))]
def k67_19 : VC := .reg [oD 43 (.build [(.int .i64 0), (.int .i64 0), (.int .u32 0), (.int .u32 0), (.int .i64 0), (.int .i64 0), (.int .i64 0), (.string ⟨⟨[]⟩⟩)] []),oN (.store 8 τ6 τ43),oD 7 (.mv (.const (.string ⟨⟨[]⟩⟩))),oD 8 (.mv (.const (.int .i64 1)))]
def k67_20 : VC := .seq k67_19 .ret
def k67_21 : VC := .cond τ42 k67_20 .skip
def k67_22 : VC := .seq k67_18 k67_21
def k67_23 : VC := .reg [oM 44 τ10,oM 45 τ0,oD 46 (.bin .add τ44 τ45),oD 47 (.callF 12 [τ46]),oD 48 (.bin .neq τ47 (.const (.int .i64 65535)))]
def k67_24 : VC := .reg [oD 49 (.build [(.int .i64 0), (.int .i64 0), (.int .u32 0), (.int .u32 0), (.int .i64 0), (.int .i64 0), (.int .i64 0), (.string ⟨⟨[]⟩⟩)] []),oN (.store 8 τ6 τ49),oD 7 (.mv (.const (.string ⟨⟨[]⟩⟩))),oD 8 (.mv (.const (.int .i64 4)))]
def k67_25 : VC := .seq k67_24 .ret
def k67_26 : VC := .cond τ48 k67_25 .skip
def k67_27 : VC := .seq k67_23 k67_26
def k67_28 : VC := .reg [oM 51 τ0,oM 52 τ9,oD 53 (.sliceS τ51 (some (.const (.int .i64 20))) (some τ52)),oD 54 (.callF 95 [τ53]),oM 50 τ54,oE 55 0 τ50,oE 56 1 τ50,oM 11 τ55,oM 12 τ56]
def k67_29 : VC := .reg [oM 57 τ12,oD 58 (.bin .neq τ57 (.const (.int .i64 0)))]
def k67_30 : VC := .reg [oD 59 (.build [(.int .i64 0), (.int .i64 0), (.int .u32 0), (.int .u32 0), (.int .i64 0), (.int .i64 0), (.int .i64 0), (.string ⟨⟨[]⟩⟩)] []),oM 60 τ12,oN (.store 8 τ6 τ59),oD 7 (.mv (.const (.string ⟨⟨[]⟩⟩))),oM 8 τ60]
def k67_31 : VC := .seq k67_30 .ret
def k67_32 : VC := .cond τ58 k67_31 .skip
def k67_33 : VC := .seq k67_29 k67_32
def k67_34 : VC := .regD [oM 61 τ0,oD 62 (.callF 45 [τ61, (.const (.int .i64 0)), (.const (.int .i64 2))]),oM 63 τ0,oD 64 (.callF 45 [τ63, (.const (.int .i64 2)), (.const (.int .i64 2))]),oM 65 τ0,oD 66 (.callF 45 [τ65, (.const (.int .i64 4)), (.const (.int .i64 4))]),oD 67 (.conv .u32 τ66),oM 68 τ0,oD 69 (.callF 45 [τ68, (.const (.int .i64 8)), (.const (.int .i64 4))]),oD 70 (.conv .u32 τ69),oM 71 τ0,oD 72 (.idxS τ71 (.const (.int .i64 13))),oD 73 (.conv .i64 τ72),oM 74 τ0,oD 75 (.callF 45 [τ74, (.const (.int .i64 14)), (.const (.int .i64 2))]),oM 76 τ0,oD 77 (.callF 45 [τ76, (.const (.int .i64 18)), (.const (.int .i64 2))]),oM 78 τ0,oM 79 τ9,oD 80 (.sliceS τ78 (some (.const (.int .i64 20))) (some τ79)),oD 81 (.build [(.int .i64 0), (.int .i64 0), (.int .u32 0), (.int .u32 0), (.int .i64 0), (.int .i64 0), (.int .i64 0), (.string ⟨⟨[]⟩⟩)] [(0, 1, τ62), (1, 1, τ64), (2, 1, τ67), (3, 1, τ70), (4, 1, τ73), (5, 1, τ75), (6, 1, τ77), (7, 1, τ80)]),oM 82 τ0,oM 83 τ9,oD 84 (.sliceS τ82 (some τ83) none),oN (.store 8 τ6 τ81)] [] [oM 7 τ84,oD 8 (.mv (.const (.int .i64 0)))]
def k67_35 : VC := .seq k67_34 .ret
def k67_36 : VC := .seq k67_33 k67_35
def k67_37 : VC := .seq k67_28 k67_36
def k67_38 : VC := .seq k67_27 k67_37
def k67_39 : VC := .seq k67_22 k67_38
def k67_40 : VC := .seq k67_17 k67_39
def k67_41 : VC := .seq k67_16 k67_40
def k67_42 : VC := .seq k67_11 k67_41
def k67_43 : VC := .seq k67_6 k67_42
def k67_44 : VC := .seq k67_5 k67_43
def k67_45 : VC := .seq k67_0 k67_44
def fn67 : VFn := ⟨85, k67_45, [.cell 6 [(.int .i64), (.int .i64), (.int .u32), (.int .u32), (.int .i64), (.int .i64), (.int .i64), .str] true, .tmp 7, .tmp 8]⟩
def k95_0 : VC := .reg [oD 2 (.mv (.const (.slice none 0 0))),oD 3 (.mv (.const (.int .i64 0)))]
def k95_1 : VC := .reg [oD 4 (.mv (.const (.slice none 0 0)))]
def k95_2 : VC := .reg [oD 5 (.mv (.const (.int .i64 0)))]
def k95_3 : VC := .reg [oM 7 τ5,oM 8 τ0,oD 9 (.lenS τ8),oD 10 (.bin .lss τ7 τ9),oM 11 τ10,oG 12 (.mv τ0) 11 true,oG 13 (.mv τ5) 11 true,oG 14 (.idxS τ12 τ13) 11 true,oG 15 (.bin .neq τ14 (.const (.int .u8 0))) 11 true,oD 16 (.pick τ11 τ15 (.const (.bool false)))]
def k95_4 : VC := .cond τ16 .skip (.exit 0)
def k95_5 : VC := .seq k95_3 k95_4
def k95_6 : VC := .reg [oM 17 τ0,oM 18 τ5,oD 19 (.idxS τ17 τ18),oD 20 (.bin .eql τ19 (.const (.int .u8 1)))]
def k95_7 : VC := .reg [oM 21 τ5,oD 22 (.bin .add τ21 (.const (.int .i64 1))),oM 5 τ22]
def k95_8 : VC := .seq k95_7 (.exit 1)
def k95_9 : VC := .cond τ20 k95_8 .skip
def k95_10 : VC := .seq k95_6 k95_9
def k95_11 : VC := .reg [oM 23 τ5,oD 24 (.bin .add τ23 (.const (.int .i64 1))),oM 25 τ0,oD 26 (.lenS τ25),oD 27 (.bin .geq τ24 τ26),oM 28 τ27,oG 29 (.mv τ0) 28 false,oG 30 (.mv τ5) 28 false,oG 31 (.bin .add τ30 (.const (.int .i64 1))) 28 false,oG 32 (.idxS τ29 τ31) 28 false,oG 33 (.bin .lss τ32 (.const (.int .u8 2))) 28 false,oD 34 (.pick τ28 (.const (.bool true)) τ33),oM 35 τ34,oG 36 (.mv τ0) 35 false,oG 37 (.mv τ5) 35 false,oG 38 (.bin .add τ37 (.const (.int .i64 1))) 35 false,oG 39 (.idxS τ36 τ38) 35 false,oG 40 (.conv .i64 τ39) 35 false,oG 41 (.mv τ0) 35 false,oG 42 (.lenS τ41) 35 false,oG 43 (.mv τ5) 35 false,oG 44 (.bin .sub τ42 τ43) 35 false,oG 45 (.bin .gtr τ40 τ44) 35 false,oD 46 (.pick τ35 (.const (.bool true)) τ45)]
def k95_12 : VC := .reg [oD 2 (.mv (.const (.slice none 0 0))),oD 3 (.mv (.const (.int .i64 3)))]
def k95_13 : VC := .seq k95_12 .ret
def k95_14 : VC := .cond τ46 k95_13 .skip
def k95_15 : VC := .seq k95_11 k95_14
def k95_16 : VC := .reg [oM 47 τ0,oM 48 τ5,oD 49 (.bin .add τ48 (.const (.int .i64 1))),oD 50 (.idxS τ47 τ49),oD 51 (.conv .i64 τ50),oM 6 τ51]
def k95_17 : VC := .regD [oM 52 τ4,oM 53 τ0,oM 54 τ5,oD 55 (.idxS τ53 τ54),oD 56 (.conv .i64 τ55),oM 57 τ0,oM 58 τ5,oD 59 (.bin .add τ58 (.const (.int .i64 2))),oM 60 τ5,oM 61 τ6,oD 62 (.bin .add τ60 τ61),oD 63 (.sliceS τ57 (some τ59) (some τ62)),oM 64 τ5,oD 65 (.bin .add τ64 (.const (.int .i64 2))),oD 66 (.build [(.int .i64 0), (.string ⟨⟨[]⟩⟩), (.int .i64 0)] [(0, 1, τ56), (1, 1, τ63), (2, 1, τ65)]),oD 67 (.buildSl 1 3 [(.int .i64 0), (.string ⟨⟨[]⟩⟩), (.int .i64 0)] [(0, 3, τ66)])] [] [oD 68 (.app 164 3 32 τ52 τ67),oM 4 τ68]
def k95_18 : VC := .reg [oM 69 τ5,oM 70 τ6,oD 71 (.bin .add τ69 τ70),oM 5 τ71]
def k95_19 : VC := .seq k95_17 k95_18
def k95_20 : VC := .seq k95_16 k95_19
def k95_21 : VC := .seq k95_15 k95_20
def k95_22 : VC := .seq k95_10 k95_21
def k95_23 : VC := .block 1 k95_22
def k95_24 : VC := .seq k95_5 k95_23
def k95_25 : VC := .loop k95_24
def k95_26 : VC := .block 0 k95_25
def k95_27 : VC := .seq k95_2 k95_26
def k95_28 : VC := .reg [oM 72 τ4,oM 2 τ72,oD 3 (.mv (.const (.int .i64 0)))]
def k95_29 : VC := .seq k95_28 .ret
def k95_30 : VC := .seq k95_27 k95_29
def k95_31 : VC := .seq k95_1 k95_30
def k95_32 : VC := .seq k95_0 k95_31
def fn95 : VFn := ⟨73, k95_32, [.tmp 2, .tmp 3]⟩
def k68_0 : VC := .reg [oD 2 (.mv (.const (.int .u32 0))),oD 3 (.mv (.const (.int .u32 0))),oD 4 (.mv (.const (.int .i64 0)))]
def k68_1 : VC := .reg [oM 9 τ0,oD 10 (.callF 95 [τ9]),oM 8 τ10,oE 11 0 τ8,oE 12 1 τ8,oM 5 τ11,oM 6 τ12]
def k68_2 : VC := .reg [oD 7 (.mv (.const (.int .i64 0)))]
def k68_3 : VC := .reg [oM 13 τ7,oM 14 τ5,oD 15 (.lenL τ14),oD 16 (.bin .lss τ13 τ15)]
def k68_4 : VC := .cond τ16 .skip (.exit 0)
def k68_5 : VC := .seq k68_3 k68_4
def k68_6 : VC := .reg [oM 19 τ5,oM 20 τ7,oD 21 (.idxAL 3 τ19 τ20),oD 22 (.fieldA 0 τ21),oD 23 (.load1 (.int .i64) τ22),oD 24 (.bin .eql τ23 (.const (.int .i64 8)))]
def k68_7 : VC := .reg [oM 25 τ5,oM 26 τ7,oD 27 (.idxAL 3 τ25 τ26),oD 28 (.fieldA 1 τ27),oD 29 (.load1 .str τ28),oD 30 (.lenS τ29),oD 31 (.bin .neq τ30 (.const (.int .i64 8)))]
def k68_8 : VC := .reg [oD 2 (.mv (.const (.int .u32 0))),oD 3 (.mv (.const (.int .u32 0))),oD 4 (.mv (.const (.int .i64 (-1))))]
def k68_9 : VC := .seq k68_8 .ret
def k68_10 : VC := .cond τ31 k68_9 .skip
def k68_11 : VC := .seq k68_7 k68_10
def k68_12 : VC := .regD [oM 32 τ5,oM 33 τ7,oD 34 (.idxAL 3 τ32 τ33),oD 35 (.fieldA 1 τ34),oD 36 (.load1 .str τ35),oD 37 (.callF 45 [τ36, (.const (.int .i64 0)), (.const (.int .i64 4))]),oD 38 (.conv .u32 τ37),oM 39 τ5,oM 40 τ7,oD 41 (.idxAL 3 τ39 τ40),oD 42 (.fieldA 1 τ41),oD 43 (.load1 .str τ42),oD 44 (.callF 45 [τ43, (.const (.int .i64 4)), (.const (.int .i64 4))]),oD 45 (.conv .u32 τ44),oM 46 τ5,oM 47 τ7,oD 48 (.idxAL 3 τ46 τ47),oD 49 (.fieldA 2 τ48),oD 50 (.load1 (.int .i64) τ49),oM 2 τ38,oM 3 τ45] [(5, 11), (5, 18), (12, 18)] [oM 4 τ50]
def k68_13 : VC := .seq k68_12 .ret
def k68_14 : VC := .seq k68_11 k68_13
def k68_15 : VC := .cond τ24 k68_14 .skip
def k68_16 : VC := .seq k68_6 k68_15
def k68_17 : VC := .block 1 k68_16
def k68_18 : VC := .reg [oM 17 τ7,oD 18 (.bin .add τ17 (.const (.int .i64 1))),oM 7 τ18]
def k68_19 : VC := .seq k68_17 k68_18
def k68_20 : VC := .seq k68_5 k68_19
def k68_21 : VC := .loop k68_20
def k68_22 : VC := .block 0 k68_21
def k68_23 : VC := .seq k68_2 k68_22
def k68_24 : VC := .reg [oD 2 (.mv (.const (.int .u32 0))),oD 3 (.mv (.const (.int .u32 0))),oD 4 (.mv (.const (.int .i64 (-1))))]
def k68_25 : VC := .seq k68_24 .ret
def k68_26 : VC := .seq k68_23 k68_25
def k68_27 : VC := .seq k68_1 k68_26
def k68_28 : VC := .seq k68_0 k68_27
def fn68 : VFn := ⟨51, k68_28, [.tmp 2, .tmp 3, .tmp 4]⟩
def k69_0 : VC := .reg [oD 4 (.box τ1),oD 5 (.box τ2),oD 6 (.alloc [(.int .i64 0), (.int .i64 0)]),oD 7 (.mv (.const (.string ⟨⟨[]⟩⟩))),oD 8 (.mv (.const (.int .i64 0)))]
def k69_1 : VC := .reg [oM 11 τ0,oD 12 (.lenS τ11),oD 13 (.bin .lss τ12 (.const (.int .i64 8)))]
def k69_2 : VC := .reg [oD 14 (.build [(.int .i64 0), (.int .i64 0)] []),oN (.store 2 τ6 τ14),oD 7 (.mv (.const (.string ⟨⟨[]⟩⟩))),oD 8 (.mv (.const (.int .i64 2)))]
def k69_3 : VC := .seq k69_2 .ret
def k69_4 : VC := .cond τ13 k69_3 .skip
def k69_5 : VC := .seq k69_1 k69_4
def k69_6 : VC := .reg [oM 15 τ0,oD 16 (.callF 45 [τ15, (.const (.int .i64 4)), (.const (.int .i64 2))]),oM 9 τ16]
def k69_7 : VC := .reg [oM 17 τ9,oD 18 (.bin .lss τ17 (.const (.int .i64 8)))]
def k69_8 : VC := .reg [oD 19 (.build [(.int .i64 0), (.int .i64 0)] []),oN (.store 2 τ6 τ19),oD 7 (.mv (.const (.string ⟨⟨[]⟩⟩))),oD 8 (.mv (.const (.int .i64 3)))]
def k69_9 : VC := .seq k69_8 .ret
def k69_10 : VC := .cond τ18 k69_9 .skip
def k69_11 : VC := .seq k69_7 k69_10
def k69_12 : VC := .reg [oM 20 τ0,oD 21 (.lenS τ20),oM 22 τ9,oD 23 (.bin .lss τ21 τ22)]
def k69_13 : VC := .reg [oD 24 (.build [(.int .i64 0), (.int .i64 0)] []),oN (.store 2 τ6 τ24),oD 7 (.mv (.const (.string ⟨⟨[]⟩⟩))),oD 8 (.mv (.const (.int .i64 2)))]
def k69_14 : VC := .seq k69_13 .ret
def k69_15 : VC := .cond τ23 k69_14 .skip
def k69_16 : VC := .seq k69_12 k69_15
def k69_17 : VC := .reg [oD 25 (.loadN [.bool, (.int .u64), (.int .u64)] τ4),oD 26 (.loadN [.bool, (.int .u64), (.int .u64)] τ5),oM 27 τ9,oD 28 (.callF 59 [τ25, τ26, (.const (.int .i64 17)), τ27]),oM 10 τ28]
def k69_18 : VC := .reg [oM 29 τ10,oD 30 (.bin .eql τ29 (.const (.string ⟨⟨[]⟩⟩)))]
def k69_19 : VC := .reg [oD 31 (.build [(.int .i64 0), (.int .i64 0)] []),oN (.store 2 τ6 τ31),oD 7 (.mv (.const (.string ⟨⟨[]⟩⟩))),oD 8 (.mv (.const (.int .i64 1)))]
def k69_20 : VC := .seq k69_19 .ret
def k69_21 : VC := .cond τ30 k69_20 .skip
def k69_22 : VC := .seq k69_18 k69_21
def k69_23 : VC := .reg [oM 32 τ0,oD 33 (.callF 45 [τ32, (.const (.int .i64 6)), (.const (.int .i64 2))]),oD 34 (.bin .eql τ33 (.const (.int .i64 0)))]
def k69_24 : VC := .reg [oD 35 (.fieldA 0 τ4),oD 36 (.load1 .bool τ35)]
def k69_25 : VC := .reg [oD 37 (.build [(.int .i64 0), (.int .i64 0)] []),oN (.store 2 τ6 τ37),oD 7 (.mv (.const (.string ⟨⟨[]⟩⟩))),oD 8 (.mv (.const (.int .i64 4)))]
def k69_26 : VC := .seq k69_25 .ret
def k69_27 : VC := .cond τ36 k69_26 .skip
def k69_28 : VC := .seq k69_24 k69_27
def k69_29 : VC := .reg [oM 38 τ10,oM 39 τ0,oM 40 τ9,oD 41 (.sliceS τ39 none (some τ40)),oD 42 (.bin .add τ38 τ41),oD 43 (.callF 12 [τ42]),oD 44 (.bin .neq τ43 (.const (.int .i64 65535)))]
def k69_30 : VC := .reg [oD 45 (.build [(.int .i64 0), (.int .i64 0)] []),oN (.store 2 τ6 τ45),oD 7 (.mv (.const (.string ⟨⟨[]⟩⟩))),oD 8 (.mv (.const (.int .i64 4)))]
def k69_31 : VC := .seq k69_30 .ret
def k69_32 : VC := .cond τ44 k69_31 .skip
def k69_33 : VC := .seq k69_29 k69_32
def k69_34 : VC := .cond τ34 k69_28 k69_33
def k69_35 : VC := .seq k69_23 k69_34
def k69_36 : VC := .regD [oM 46 τ0,oD 47 (.callF 45 [τ46, (.const (.int .i64 0)), (.const (.int .i64 2))]),oM 48 τ0,oD 49 (.callF 45 [τ48, (.const (.int .i64 2)), (.const (.int .i64 2))]),oD 50 (.build [(.int .i64 0), (.int .i64 0)] [(0, 1, τ47), (1, 1, τ49)]),oM 51 τ0,oM 52 τ9,oD 53 (.sliceS τ51 (some (.const (.int .i64 8))) (some τ52)),oN (.store 2 τ6 τ50)] [] [oM 7 τ53,oD 8 (.mv (.const (.int .i64 0)))]
def k69_37 : VC := .seq k69_36 .ret
def k69_38 : VC := .seq k69_35 k69_37
def k69_39 : VC := .seq k69_22 k69_38
def k69_40 : VC := .seq k69_17 k69_39
def k69_41 : VC := .seq k69_16 k69_40
def k69_42 : VC := .seq k69_11 k69_41
def k69_43 : VC := .seq k69_6 k69_42
def k69_44 : VC := .seq k69_5 k69_43
def k69_45 : VC := .seq k69_0 k69_44
def fn69 : VFn := ⟨54, k69_45, [.cell 6 [(.int .i64), (.int .i64)] true, .tmp 7, .tmp 8]⟩
def k70_0 : VC := .reg [oD 2 (.alloc [(.bool false), (.int .i64 0), (.int .u32 0), (.string ⟨⟨[]⟩⟩), (.string ⟨⟨[]⟩⟩), (.string ⟨⟨[]⟩⟩)]),oD 3 (.mv (.const (.int .i64 0)))]
def k70_1 : VC := .reg [oM 10 τ0,oD 11 (.bin .eql τ10 (.const (.string ⟨⟨[]⟩⟩)))]
def k70_2 : VC := .reg [oD 12 (.build [(.bool false), (.int .i64 0), (.int .u32 0), (.string ⟨⟨[]⟩⟩), (.string ⟨⟨[]⟩⟩), (.string ⟨⟨[]⟩⟩)] []),oN (.store 6 τ2 τ12),oD 3 (.mv (.const (.int .i64 2)))]
def k70_3 : VC := .seq k70_2 .ret
def k70_4 : VC := .cond τ11 k70_3 .skip
def k70_5 : VC := .seq k70_1 k70_4
def k70_6 : VC := .reg [oM 13 τ0,oD 14 (.idxS τ13 (.const (.int .i64 0))),oD 15 (.bin .quo τ14 (.const (.int .u8 64))),oD 16 (.bin .rem τ15 (.const (.int .u8 2))),oD 17 (.bin .eql τ16 (.const (.int .u8 0)))]
def k70_7 : VC := .reg [oD 18 (.build [(.bool false), (.int .i64 0), (.int .u32 0), (.string ⟨⟨[]⟩⟩), (.string ⟨⟨[]⟩⟩), (.string ⟨⟨[]⟩⟩)] []),oN (.store 6 τ2 τ18),oD 3 (.mv (.const (.int .i64 3)))]
def k70_8 : VC := .seq k70_7 .ret
def k70_9 : VC := .cond τ17 k70_8 .skip
def k70_10 : VC := .seq k70_6 k70_9
def k70_11 : VC := .regD [oM 19 τ0,oD 20 (.idxS τ19 (.const (.int .i64 0))),oD 21 (.bin .geq τ20 (.const (.int .u8 128))),oM 22 τ0,oD 23 (.idxS τ22 (.const (.int .i64 0))),oD 24 (.bin .rem τ23 (.const (.int .u8 64))),oD 25 (.conv .i64 τ24),oD 26 (.build [(.bool false), (.int .i64 0), (.int .u32 0), (.string ⟨⟨[]⟩⟩), (.string ⟨⟨[]⟩⟩), (.string ⟨⟨[]⟩⟩)] [(0, 1, τ21), (1, 1, τ25)]),oD 4 (.alloc [(.bool false), (.int .i64 0), (.int .u32 0), (.string ⟨⟨[]⟩⟩), (.string ⟨⟨[]⟩⟩), (.string ⟨⟨[]⟩⟩)])] [] [oN (.store 6 τ4 τ26)]
def k70_12 : VC := .reg [oD 27 (.fieldA 0 τ4),oD 28 (.load1 .bool τ27),oD 29 (.not τ28)]
def k70_13 : VC := .reg [oM 30 τ0,oD 31 (.lenS τ30),oD 32 (.bin .lss τ31 (.const (.int .i64 9)))]
def k70_14 : VC := .reg [oD 33 (.build [(.bool false), (.int .i64 0), (.int .u32 0), (.string ⟨⟨[]⟩⟩), (.string ⟨⟨[]⟩⟩), (.string ⟨⟨[]⟩⟩)] []),oN (.store 6 τ2 τ33),oD 3 (.mv (.const (.int .i64 2)))]
def k70_15 : VC := .seq k70_14 .ret
def k70_16 : VC := .cond τ32 k70_15 .skip
def k70_17 : VC := .seq k70_13 k70_16
def k70_18 : VC := .reg [oM 34 τ0,oD 35 (.sliceS τ34 (some (.const (.int .i64 1))) (some (.const (.int .i64 9)))),oD 36 (.fieldA 3 τ4),oN (.store 1 τ36 τ35)]
def k70_19 : VC := .reg [oM 37 τ0,oD 38 (.sliceS τ37 (some (.const (.int .i64 9))) none),oD 39 (.fieldA 5 τ4),oN (.store 1 τ39 τ38)]
def k70_20 : VC := .reg [oD 40 (.loadN [.bool, (.int .i64), (.int .u32), .str, .str, .str] τ4),oN (.store 6 τ2 τ40),oD 3 (.mv (.const (.int .i64 0)))]
def k70_21 : VC := .seq k70_20 .ret
def k70_22 : VC := .seq k70_19 k70_21
def k70_23 : VC := .seq k70_18 k70_22
def k70_24 : VC := .seq k70_17 k70_23
def k70_25 : VC := .cond τ29 k70_24 .skip
def k70_26 : VC := .seq k70_12 k70_25
def k70_27 : VC := .reg [oM 41 τ0,oD 42 (.lenS τ41),oD 43 (.bin .lss τ42 (.const (.int .i64 5)))]
def k70_28 : VC := .reg [oD 44 (.build [(.bool false), (.int .i64 0), (.int .u32 0), (.string ⟨⟨[]⟩⟩), (.string ⟨⟨[]⟩⟩), (.string ⟨⟨[]⟩⟩)] []),oN (.store 6 τ2 τ44),oD 3 (.mv (.const (.int .i64 2)))]
def k70_29 : VC := .seq k70_28 .ret
def k70_30 : VC := .cond τ43 k70_29 .skip
def k70_31 : VC := .seq k70_27 k70_30
def k70_32 : VC := .reg [oM 45 τ0,oD 46 (.callF 45 [τ45, (.const (.int .i64 1)), (.const (.int .i64 4))]),oD 47 (.conv .u32 τ46),oD 48 (.fieldA 2 τ4),oN (.store 1 τ48 τ47)]
def k70_33 : VC := .reg [oM 50 τ0,oD 51 (.callF 96 [τ50, (.const (.int .i64 5))]),oM 49 τ51,oE 52 0 τ49,oE 53 1 τ49,oE 54 2 τ49,oM 5 τ52,oM 6 τ53,oM 7 τ54]
def k70_34 : VC := .reg [oM 55 τ6,oD 56 (.bin .neq τ55 (.const (.int .i64 0)))]
def k70_35 : VC := .reg [oD 57 (.build [(.bool false), (.int .i64 0), (.int .u32 0), (.string ⟨⟨[]⟩⟩), (.string ⟨⟨[]⟩⟩), (.string ⟨⟨[]⟩⟩)] []),oM 58 τ6,oN (.store 6 τ2 τ57),oM 3 τ58]
def k70_36 : VC := .seq k70_35 .ret
def k70_37 : VC := .cond τ56 k70_36 .skip
def k70_38 : VC := .seq k70_34 k70_37
def k70_39 : VC := .reg [oM 60 τ0,oM 61 τ7,oD 62 (.callF 96 [τ60, τ61]),oM 59 τ62,oE 63 0 τ59,oE 64 1 τ59,oE 65 2 τ59,oM 8 τ63,oM 6 τ64,oM 9 τ65]
def k70_40 : VC := .reg [oM 66 τ6,oD 67 (.bin .neq τ66 (.const (.int .i64 0)))]
def k70_41 : VC := .reg [oD 68 (.build [(.bool false), (.int .i64 0), (.int .u32 0), (.string ⟨⟨[]⟩⟩), (.string ⟨⟨[]⟩⟩), (.string ⟨⟨[]⟩⟩)] []),oM 69 τ6,oN (.store 6 τ2 τ68),oM 3 τ69]
def k70_42 : VC := .seq k70_41 .ret
def k70_43 : VC := .cond τ67 k70_42 .skip
def k70_44 : VC := .seq k70_40 k70_43
def k70_45 : VC := .reg [oM 70 τ5,oD 71 (.fieldA 3 τ4),oN (.store 1 τ71 τ70)]
def k70_46 : VC := .reg [oM 72 τ8,oD 73 (.fieldA 4 τ4),oN (.store 1 τ73 τ72)]
def k70_47 : VC := .reg [oM 74 τ0,oM 75 τ9,oD 76 (.sliceS τ74 (some τ75) none),oD 77 (.fieldA 5 τ4),oN (.store 1 τ77 τ76)]
def k70_48 : VC := .reg [oD 78 (.loadN [.bool, (.int .i64), (.int .u32), .str, .str, .str] τ4),oN (.store 6 τ2 τ78),oD 3 (.mv (.const (.int .i64 0)))]
def k70_49 : VC := .seq k70_48 .ret
def k70_50 : VC := .seq k70_47 k70_49
def k70_51 : VC := .seq k70_46 k70_50
def k70_52 : VC := .seq k70_45 k70_51
def k70_53 : VC := .seq k70_44 k70_52
def k70_54 : VC := .seq k70_39 k70_53
def k70_55 : VC := .seq k70_38 k70_54
def k70_56 : VC := .seq k70_33 k70_55
def k70_57 : VC := .seq k70_32 k70_56
def k70_58 : VC := .seq k70_31 k70_57
def k70_59 : VC := .seq k70_26 k70_58
def k70_60 : VC := .seq k70_11 k70_59
def k70_61 : VC := .seq k70_10 k70_60
def k70_62 : VC := .seq k70_5 k70_61
def k70_63 : VC := .seq k70_0 k70_62
def fn70 : VFn := ⟨79, k70_63, [.cell 2 [.bool, (.int .i64), (.int .u32), .str, .str, .str] true, .tmp 3]⟩
def k96_0 : VC := .reg [oD 4 (.mv (.const (.string ⟨⟨[]⟩⟩))),oD 5 (.mv (.const (.int .i64 0))),oD 6 (.mv (.const (.int .i64 0)))]
def k96_1 : VC := .reg [oM 8 τ1,oM 9 τ0,oD 10 (.lenS τ9),oD 11 (.bin .geq τ8 τ10)]
def k96_2 : VC := .reg [oD 4 (.mv (.const (.string ⟨⟨[]⟩⟩))),oD 5 (.mv (.const (.int .i64 2))),oD 6 (.mv (.const (.int .i64 0)))]
def k96_3 : VC := .seq k96_2 .ret
def k96_4 : VC := .cond τ11 k96_3 .skip
def k96_5 : VC := .seq k96_1 k96_4
def k96_6 : VC := .reg [oM 12 τ0,oM 13 τ1,oD 14 (.idxS τ12 τ13),oD 15 (.conv .i64 τ14),oM 7 τ15]
def k96_7 : VC := .reg [oM 16 τ7,oD 17 (.bin .gtr τ16 (.const (.int .i64 20)))]
def k96_8 : VC := .reg [oD 4 (.mv (.const (.string ⟨⟨[]⟩⟩))),oD 5 (.mv (.const (.int .i64 3))),oD 6 (.mv (.const (.int .i64 0)))]
def k96_9 : VC := .seq k96_8 .ret
def k96_10 : VC := .cond τ17 k96_9 .skip
def k96_11 : VC := .seq k96_7 k96_10
def k96_12 : VC := .reg [oM 18 τ7,oM 19 τ0,oD 20 (.lenS τ19),oM 21 τ1,oD 22 (.bin .sub τ20 τ21),oD 23 (.bin .sub τ22 (.const (.int .i64 1))),oD 24 (.bin .gtr τ18 τ23)]
def k96_13 : VC := .reg [oD 4 (.mv (.const (.string ⟨⟨[]⟩⟩))),oD 5 (.mv (.const (.int .i64 2))),oD 6 (.mv (.const (.int .i64 0)))]
def k96_14 : VC := .seq k96_13 .ret
def k96_15 : VC := .cond τ24 k96_14 .skip
def k96_16 : VC := .seq k96_12 k96_15
def k96_17 : VC := .reg [oM 25 τ0,oM 26 τ1,oD 27 (.bin .add τ26 (.const (.int .i64 1))),oM 28 τ1,oD 29 (.bin .add τ28 (.const (.int .i64 1))),oM 30 τ7,oD 31 (.bin .add τ29 τ30),oD 32 (.sliceS τ25 (some τ27) (some τ31)),oM 33 τ1,oD 34 (.bin .add τ33 (.const (.int .i64 1))),oM 35 τ7,oD 36 (.bin .add τ34 τ35),oM 4 τ32,oD 5 (.mv (.const (.int .i64 0))),oM 6 τ36]
def k96_18 : VC := .seq k96_17 .ret
def k96_19 : VC := .seq k96_16 k96_18
def k96_20 : VC := .seq k96_11 k96_19
def k96_21 : VC := .seq k96_6 k96_20
def k96_22 : VC := .seq k96_5 k96_21
def k96_23 : VC := .seq k96_0 k96_22
def fn96 : VFn := ⟨37, k96_23, [.tmp 4, .tmp 5, .tmp 6]⟩
theorem fn41_ok : (Try.prog.funcs[41]?).bind (compFn Try.prog) = some fn41 := by kernel_rfl
theorem fn66_ok : (Try.prog.funcs[66]?).bind (compFn Try.prog) = some fn66 := by kernel_rfl
theorem fn93_ok : (Try.prog.funcs[93]?).bind (compFn Try.prog) = some fn93 := by kernel_rfl
theorem fn115_ok : (Try.prog.funcs[115]?).bind (compFn Try.prog) = some fn115 := by kernel_rfl
theorem fn94_ok : (Try.prog.funcs[94]?).bind (compFn Try.prog) = some fn94 := by kernel_rfl
theorem fn67_ok : (Try.prog.funcs[67]?).bind (compFn Try.prog) = some fn67 := by kernel_rfl
theorem fn95_ok : (Try.prog.funcs[95]?).bind (compFn Try.prog) = some fn95 := by kernel_rfl
theorem fn68_ok : (Try.prog.funcs[68]?).bind (compFn Try.prog) = some fn68 := by kernel_rfl
theorem fn69_ok : (Try.prog.funcs[69]?).bind (compFn Try.prog) = some fn69 := by kernel_rfl
theorem fn70_ok : (Try.prog.funcs[70]?).bind (compFn Try.prog) = some fn70 := by kernel_rfl
theorem fn96_ok : (Try.prog.funcs[96]?).bind (compFn Try.prog) = some fn96 := by kernel_rfl
def tab : List (Nat × VFn) := [(3, fn3), (7, fn7), (8, fn8), (20, fn20), (36, fn36), (59, fn59), (61, fn61), (85, fn85), (24, fn24), (86, fn86), (60, fn60), (87, fn87), (33, fn33), (10, fn10), (12, fn12), (30, fn30), (45, fn45), (23, fn23), (29, fn29), (9, fn9), (37, fn37), (62, fn62), (88, fn88), (111, fn111), (89, fn89), (63, fn63), (90, fn90), (112, fn112), (113, fn113), (15, fn15), (21, fn21), (39, fn39), (40, fn40), (65, fn65), (38, fn38), (16, fn16), (34, fn34), (53, fn53), (80, fn80), (99, fn99), (103, fn103), (104, fn104), (106, fn106), (105, fn105), (25, fn25), (101, fn101), (77, fn77), (42, fn42), (71, fn71), (73, fn73), (116, fn116), (117, fn117), (100, fn100), (54, fn54), (81, fn81), (46, fn46), (50, fn50), (74, fn74), (44, fn44), (75, fn75), (57, fn57), (84, fn84), (58, fn58), (102, fn102), (91, fn91), (92, fn92), (114, fn114), (64, fn64), (55, fn55), (82, fn82), (83, fn83), (107, fn107), (108, fn108), (109, fn109), (18, fn18), (11, fn11), (27, fn27), (26, fn26), (43, fn43), (72, fn72), (28, fn28), (22, fn22), (41, fn41), (66, fn66), (93, fn93), (115, fn115), (94, fn94), (67, fn67), (95, fn95), (68, fn68), (69, fn69), (70, fn70), (96, fn96)]
theorem tab_ok : FnsOK Try.prog (aget tab) := FnsOK.of_tab ⟨fn3_ok, fn7_ok, fn8_ok, fn20_ok, fn36_ok, fn59_ok, fn61_ok, fn85_ok, fn24_ok, fn86_ok, fn60_ok, fn87_ok, fn33_ok, fn10_ok, fn12_ok, fn30_ok, fn45_ok, fn23_ok, fn29_ok, fn9_ok, fn37_ok, fn62_ok, fn88_ok, fn111_ok, fn89_ok, fn63_ok, fn90_ok, fn112_ok, fn113_ok, fn15_ok, fn21_ok, fn39_ok, fn40_ok, fn65_ok, fn38_ok, fn16_ok, fn34_ok, fn53_ok, fn80_ok, fn99_ok, fn103_ok, fn104_ok, fn106_ok, fn105_ok, fn25_ok, fn101_ok, fn77_ok, fn42_ok, fn71_ok, fn73_ok, fn116_ok, fn117_ok, fn100_ok, fn54_ok, fn81_ok, fn46_ok, fn50_ok, fn74_ok, fn44_ok, fn75_ok, fn57_ok, fn84_ok, fn58_ok, fn102_ok, fn91_ok, fn92_ok, fn114_ok, fn64_ok, fn55_ok, fn82_ok, fn83_ok, fn107_ok, fn108_ok, fn109_ok, fn18_ok, fn11_ok, fn27_ok, fn26_ok, fn43_ok, fn72_ok, fn28_ok, fn22_ok, fn41_ok, fn66_ok, fn93_ok, fn115_ok, fn94_ok, fn67_ok, fn95_ok, fn68_ok, fn69_ok, fn70_ok, fn96_ok, trivial⟩
end Go.Vm.Code
namespace Go.Vm.Code
open Go Go.Vm Go.Proofs
set_option maxRecDepth 100000
set_option maxHeartbeats 4000000
set_option linter.unusedVariables false
@[ext] structure api_Addr where
  V6 : Bool
  Hi : Int
  Lo : Int
  deriving DecidableEq
@[ext] structure api_Tuple where
  Proto : Int
  Src : api_Addr
  Dst : api_Addr
  SPort : Int
  DPort : Int
  deriving DecidableEq
@[ext] structure tcp_Head where
  SPort : Int
  DPort : Int
  Seq : Int
  Ack : Int
  Flags : Int
  Window : Int
  Urgent : Int
  Options : List UInt8
  deriving DecidableEq
@[ext] structure ipsix_Head where
  Class : Int
  Label : Int
  Next : Int
  Hop : Int
  Src : api_Addr
  Dst : api_Addr
  deriving DecidableEq
@[ext] structure ipfour_Head where
  Class : Int
  Mark : Int
  Whole : Bool
  TTL : Int
  Proto : Int
  Src : api_Addr
  Dst : api_Addr
  Options : List UInt8
  deriving DecidableEq
@[ext] structure api_Packet where
  Tuple : api_Tuple
  Flags : Int
  Stamped : Bool
  Val : Int
  Echo : Int
  Long : Bool
  CID : List UInt8
  Size : Int
  deriving DecidableEq
@[ext] structure packet_outer where
  src : api_Addr
  dst : api_Addr
  proto : Int
  body : List UInt8
  deriving DecidableEq
@[ext] structure octet_Reader where
  s : List UInt8
  made : Bool
  bad : Bool
  deriving DecidableEq
@[ext] structure ipfour_fields where
  Reader : octet_Reader
  deriving DecidableEq
@[ext] structure tcp_Opt where
  Kind : Int
  Data : List UInt8
  deriving DecidableEq
@[ext] structure udp_Head where
  SPort : Int
  DPort : Int
  deriving DecidableEq
@[ext] structure quic_Head where
  Long : Bool
  Bits : Int
  Version : Int
  DCID : List UInt8
  SCID : List UInt8
  Rest : List UInt8
  deriving DecidableEq
@[ext] structure R11_head where
  src : api_Addr
  dst : api_Addr
  proto : Int
  size : Int
  body : List UInt8
  deriving DecidableEq
@[ext] structure R07_Opt where
  Kind : Int
  Data : List UInt8
  At : Int
  deriving DecidableEq
def capi_Addr (x : api_Addr) : List Value := [.bool x.V6, .int .u64 x.Hi, .int .u64 x.Lo]
theorem capi_Addr_len (x : api_Addr) : (capi_Addr x).length = 3 := rfl
theorem capi_Addr_flat (x : api_Addr) : flatV.flatL (capi_Addr x) = true := rfl
theorem capi_Addr_one (x : api_Addr) : (capi_Addr x).all oneC = true := rfl
@[simp] theorem capi_Addr_lens (xs : List api_Addr) : (vT capi_Addr xs).length = xs.length * 3 := vT_len capi_Addr_len xs
@[simp] theorem capi_Addr_take (xs : List api_Addr) (n : Nat) : (vT capi_Addr xs).take (n * 3) = vT capi_Addr (xs.take n) := vT_take capi_Addr_len xs n
@[simp] theorem capi_Addr_drop (xs : List api_Addr) (n : Nat) : (vT capi_Addr xs).drop (n * 3) = vT capi_Addr (xs.drop n) := vT_drop capi_Addr_len xs n
def unapi_Addr : List Value → Option api_Addr
  | [.bool a1, .int .u64 a2, .int .u64 a3] => some (api_Addr.mk a1 a2 a3)
  | _ => none
theorem unapi_Addr_eq (cs : List Value) (x : api_Addr) (h : unapi_Addr cs = some x) : cs = capi_Addr x := by
  unfold unapi_Addr at h; split at h
  · cases h; rfl
  · cases h
def uvapi_Addr : Value → Option api_Addr
  | .agg ⟨cs⟩ => unapi_Addr cs
  | _ => none
theorem uvapi_Addr_eq (v : Value) (x : api_Addr) (h : uvapi_Addr v = some x) : v = .agg ⟨capi_Addr x⟩ := by
  unfold uvapi_Addr at h; split at h
  · rw [unapi_Addr_eq _ _ h]
  · cases h
theorem uvapi_Addr_c (x : api_Addr) : uvapi_Addr (.agg ⟨capi_Addr x⟩) = some x := rfl
def capi_Tuple (x : api_Tuple) : List Value := [.int .i64 x.Proto, .bool x.Src.V6, .int .u64 x.Src.Hi, .int .u64 x.Src.Lo, .bool x.Dst.V6, .int .u64 x.Dst.Hi, .int .u64 x.Dst.Lo, .int .i64 x.SPort, .int .i64 x.DPort]
theorem capi_Tuple_len (x : api_Tuple) : (capi_Tuple x).length = 9 := rfl
theorem capi_Tuple_flat (x : api_Tuple) : flatV.flatL (capi_Tuple x) = true := rfl
theorem capi_Tuple_one (x : api_Tuple) : (capi_Tuple x).all oneC = true := rfl
@[simp] theorem capi_Tuple_lens (xs : List api_Tuple) : (vT capi_Tuple xs).length = xs.length * 9 := vT_len capi_Tuple_len xs
@[simp] theorem capi_Tuple_take (xs : List api_Tuple) (n : Nat) : (vT capi_Tuple xs).take (n * 9) = vT capi_Tuple (xs.take n) := vT_take capi_Tuple_len xs n
@[simp] theorem capi_Tuple_drop (xs : List api_Tuple) (n : Nat) : (vT capi_Tuple xs).drop (n * 9) = vT capi_Tuple (xs.drop n) := vT_drop capi_Tuple_len xs n
def unapi_Tuple : List Value → Option api_Tuple
  | [.int .i64 a1, .bool a2, .int .u64 a3, .int .u64 a4, .bool a5, .int .u64 a6, .int .u64 a7, .int .i64 a8, .int .i64 a9] => some (api_Tuple.mk a1 (api_Addr.mk a2 a3 a4) (api_Addr.mk a5 a6 a7) a8 a9)
  | _ => none
theorem unapi_Tuple_eq (cs : List Value) (x : api_Tuple) (h : unapi_Tuple cs = some x) : cs = capi_Tuple x := by
  unfold unapi_Tuple at h; split at h
  · cases h; rfl
  · cases h
def uvapi_Tuple : Value → Option api_Tuple
  | .agg ⟨cs⟩ => unapi_Tuple cs
  | _ => none
theorem uvapi_Tuple_eq (v : Value) (x : api_Tuple) (h : uvapi_Tuple v = some x) : v = .agg ⟨capi_Tuple x⟩ := by
  unfold uvapi_Tuple at h; split at h
  · rw [unapi_Tuple_eq _ _ h]
  · cases h
theorem uvapi_Tuple_c (x : api_Tuple) : uvapi_Tuple (.agg ⟨capi_Tuple x⟩) = some x := rfl
def ctcp_Head (x : tcp_Head) : List Value := [.int .i64 x.SPort, .int .i64 x.DPort, .int .u32 x.Seq, .int .u32 x.Ack, .int .i64 x.Flags, .int .i64 x.Window, .int .i64 x.Urgent, .string ⟨⟨x.Options⟩⟩]
theorem ctcp_Head_len (x : tcp_Head) : (ctcp_Head x).length = 8 := rfl
theorem ctcp_Head_flat (x : tcp_Head) : flatV.flatL (ctcp_Head x) = true := rfl
theorem ctcp_Head_one (x : tcp_Head) : (ctcp_Head x).all oneC = true := rfl
@[simp] theorem ctcp_Head_lens (xs : List tcp_Head) : (vT ctcp_Head xs).length = xs.length * 8 := vT_len ctcp_Head_len xs
@[simp] theorem ctcp_Head_take (xs : List tcp_Head) (n : Nat) : (vT ctcp_Head xs).take (n * 8) = vT ctcp_Head (xs.take n) := vT_take ctcp_Head_len xs n
@[simp] theorem ctcp_Head_drop (xs : List tcp_Head) (n : Nat) : (vT ctcp_Head xs).drop (n * 8) = vT ctcp_Head (xs.drop n) := vT_drop ctcp_Head_len xs n
def untcp_Head : List Value → Option tcp_Head
  | [.int .i64 a1, .int .i64 a2, .int .u32 a3, .int .u32 a4, .int .i64 a5, .int .i64 a6, .int .i64 a7, .string ⟨⟨a8⟩⟩] => some (tcp_Head.mk a1 a2 a3 a4 a5 a6 a7 a8)
  | _ => none
theorem untcp_Head_eq (cs : List Value) (x : tcp_Head) (h : untcp_Head cs = some x) : cs = ctcp_Head x := by
  unfold untcp_Head at h; split at h
  · cases h; rfl
  · cases h
def uvtcp_Head : Value → Option tcp_Head
  | .agg ⟨cs⟩ => untcp_Head cs
  | _ => none
theorem uvtcp_Head_eq (v : Value) (x : tcp_Head) (h : uvtcp_Head v = some x) : v = .agg ⟨ctcp_Head x⟩ := by
  unfold uvtcp_Head at h; split at h
  · rw [untcp_Head_eq _ _ h]
  · cases h
theorem uvtcp_Head_c (x : tcp_Head) : uvtcp_Head (.agg ⟨ctcp_Head x⟩) = some x := rfl
def cipsix_Head (x : ipsix_Head) : List Value := [.int .i64 x.Class, .int .i64 x.Label, .int .i64 x.Next, .int .i64 x.Hop, .bool x.Src.V6, .int .u64 x.Src.Hi, .int .u64 x.Src.Lo, .bool x.Dst.V6, .int .u64 x.Dst.Hi, .int .u64 x.Dst.Lo]
theorem cipsix_Head_len (x : ipsix_Head) : (cipsix_Head x).length = 10 := rfl
theorem cipsix_Head_flat (x : ipsix_Head) : flatV.flatL (cipsix_Head x) = true := rfl
theorem cipsix_Head_one (x : ipsix_Head) : (cipsix_Head x).all oneC = true := rfl
@[simp] theorem cipsix_Head_lens (xs : List ipsix_Head) : (vT cipsix_Head xs).length = xs.length * 10 := vT_len cipsix_Head_len xs
@[simp] theorem cipsix_Head_take (xs : List ipsix_Head) (n : Nat) : (vT cipsix_Head xs).take (n * 10) = vT cipsix_Head (xs.take n) := vT_take cipsix_Head_len xs n
@[simp] theorem cipsix_Head_drop (xs : List ipsix_Head) (n : Nat) : (vT cipsix_Head xs).drop (n * 10) = vT cipsix_Head (xs.drop n) := vT_drop cipsix_Head_len xs n
def unipsix_Head : List Value → Option ipsix_Head
  | [.int .i64 a1, .int .i64 a2, .int .i64 a3, .int .i64 a4, .bool a5, .int .u64 a6, .int .u64 a7, .bool a8, .int .u64 a9, .int .u64 a10] => some (ipsix_Head.mk a1 a2 a3 a4 (api_Addr.mk a5 a6 a7) (api_Addr.mk a8 a9 a10))
  | _ => none
theorem unipsix_Head_eq (cs : List Value) (x : ipsix_Head) (h : unipsix_Head cs = some x) : cs = cipsix_Head x := by
  unfold unipsix_Head at h; split at h
  · cases h; rfl
  · cases h
def uvipsix_Head : Value → Option ipsix_Head
  | .agg ⟨cs⟩ => unipsix_Head cs
  | _ => none
theorem uvipsix_Head_eq (v : Value) (x : ipsix_Head) (h : uvipsix_Head v = some x) : v = .agg ⟨cipsix_Head x⟩ := by
  unfold uvipsix_Head at h; split at h
  · rw [unipsix_Head_eq _ _ h]
  · cases h
theorem uvipsix_Head_c (x : ipsix_Head) : uvipsix_Head (.agg ⟨cipsix_Head x⟩) = some x := rfl
def cipfour_Head (x : ipfour_Head) : List Value := [.int .i64 x.Class, .int .i64 x.Mark, .bool x.Whole, .int .i64 x.TTL, .int .i64 x.Proto, .bool x.Src.V6, .int .u64 x.Src.Hi, .int .u64 x.Src.Lo, .bool x.Dst.V6, .int .u64 x.Dst.Hi, .int .u64 x.Dst.Lo, .string ⟨⟨x.Options⟩⟩]
theorem cipfour_Head_len (x : ipfour_Head) : (cipfour_Head x).length = 12 := rfl
theorem cipfour_Head_flat (x : ipfour_Head) : flatV.flatL (cipfour_Head x) = true := rfl
theorem cipfour_Head_one (x : ipfour_Head) : (cipfour_Head x).all oneC = true := rfl
@[simp] theorem cipfour_Head_lens (xs : List ipfour_Head) : (vT cipfour_Head xs).length = xs.length * 12 := vT_len cipfour_Head_len xs
@[simp] theorem cipfour_Head_take (xs : List ipfour_Head) (n : Nat) : (vT cipfour_Head xs).take (n * 12) = vT cipfour_Head (xs.take n) := vT_take cipfour_Head_len xs n
@[simp] theorem cipfour_Head_drop (xs : List ipfour_Head) (n : Nat) : (vT cipfour_Head xs).drop (n * 12) = vT cipfour_Head (xs.drop n) := vT_drop cipfour_Head_len xs n
def unipfour_Head : List Value → Option ipfour_Head
  | [.int .i64 a1, .int .i64 a2, .bool a3, .int .i64 a4, .int .i64 a5, .bool a6, .int .u64 a7, .int .u64 a8, .bool a9, .int .u64 a10, .int .u64 a11, .string ⟨⟨a12⟩⟩] => some (ipfour_Head.mk a1 a2 a3 a4 a5 (api_Addr.mk a6 a7 a8) (api_Addr.mk a9 a10 a11) a12)
  | _ => none
theorem unipfour_Head_eq (cs : List Value) (x : ipfour_Head) (h : unipfour_Head cs = some x) : cs = cipfour_Head x := by
  unfold unipfour_Head at h; split at h
  · cases h; rfl
  · cases h
def uvipfour_Head : Value → Option ipfour_Head
  | .agg ⟨cs⟩ => unipfour_Head cs
  | _ => none
theorem uvipfour_Head_eq (v : Value) (x : ipfour_Head) (h : uvipfour_Head v = some x) : v = .agg ⟨cipfour_Head x⟩ := by
  unfold uvipfour_Head at h; split at h
  · rw [unipfour_Head_eq _ _ h]
  · cases h
theorem uvipfour_Head_c (x : ipfour_Head) : uvipfour_Head (.agg ⟨cipfour_Head x⟩) = some x := rfl
def capi_Packet (x : api_Packet) : List Value := [.int .i64 x.Tuple.Proto, .bool x.Tuple.Src.V6, .int .u64 x.Tuple.Src.Hi, .int .u64 x.Tuple.Src.Lo, .bool x.Tuple.Dst.V6, .int .u64 x.Tuple.Dst.Hi, .int .u64 x.Tuple.Dst.Lo, .int .i64 x.Tuple.SPort, .int .i64 x.Tuple.DPort, .int .i64 x.Flags, .bool x.Stamped, .int .u32 x.Val, .int .u32 x.Echo, .bool x.Long, .string ⟨⟨x.CID⟩⟩, .int .i64 x.Size]
theorem capi_Packet_len (x : api_Packet) : (capi_Packet x).length = 16 := rfl
theorem capi_Packet_flat (x : api_Packet) : flatV.flatL (capi_Packet x) = true := rfl
theorem capi_Packet_one (x : api_Packet) : (capi_Packet x).all oneC = true := rfl
@[simp] theorem capi_Packet_lens (xs : List api_Packet) : (vT capi_Packet xs).length = xs.length * 16 := vT_len capi_Packet_len xs
@[simp] theorem capi_Packet_take (xs : List api_Packet) (n : Nat) : (vT capi_Packet xs).take (n * 16) = vT capi_Packet (xs.take n) := vT_take capi_Packet_len xs n
@[simp] theorem capi_Packet_drop (xs : List api_Packet) (n : Nat) : (vT capi_Packet xs).drop (n * 16) = vT capi_Packet (xs.drop n) := vT_drop capi_Packet_len xs n
def unapi_Packet : List Value → Option api_Packet
  | [.int .i64 a1, .bool a2, .int .u64 a3, .int .u64 a4, .bool a5, .int .u64 a6, .int .u64 a7, .int .i64 a8, .int .i64 a9, .int .i64 a10, .bool a11, .int .u32 a12, .int .u32 a13, .bool a14, .string ⟨⟨a15⟩⟩, .int .i64 a16] => some (api_Packet.mk (api_Tuple.mk a1 (api_Addr.mk a2 a3 a4) (api_Addr.mk a5 a6 a7) a8 a9) a10 a11 a12 a13 a14 a15 a16)
  | _ => none
theorem unapi_Packet_eq (cs : List Value) (x : api_Packet) (h : unapi_Packet cs = some x) : cs = capi_Packet x := by
  unfold unapi_Packet at h; split at h
  · cases h; rfl
  · cases h
theorem unapi_Packet_c (x : api_Packet) : unapi_Packet (capi_Packet x) = some x := rfl
def uvapi_Packet : Value → Option api_Packet
  | .agg ⟨cs⟩ => unapi_Packet cs
  | _ => none
theorem uvapi_Packet_eq (v : Value) (x : api_Packet) (h : uvapi_Packet v = some x) : v = .agg ⟨capi_Packet x⟩ := by
  unfold uvapi_Packet at h; split at h
  · rw [unapi_Packet_eq _ _ h]
  · cases h
theorem uvapi_Packet_c (x : api_Packet) : uvapi_Packet (.agg ⟨capi_Packet x⟩) = some x := rfl
def cpacket_outer (x : packet_outer) : List Value := [.bool x.src.V6, .int .u64 x.src.Hi, .int .u64 x.src.Lo, .bool x.dst.V6, .int .u64 x.dst.Hi, .int .u64 x.dst.Lo, .int .i64 x.proto, .string ⟨⟨x.body⟩⟩]
theorem cpacket_outer_len (x : packet_outer) : (cpacket_outer x).length = 8 := rfl
theorem cpacket_outer_flat (x : packet_outer) : flatV.flatL (cpacket_outer x) = true := rfl
theorem cpacket_outer_one (x : packet_outer) : (cpacket_outer x).all oneC = true := rfl
@[simp] theorem cpacket_outer_lens (xs : List packet_outer) : (vT cpacket_outer xs).length = xs.length * 8 := vT_len cpacket_outer_len xs
@[simp] theorem cpacket_outer_take (xs : List packet_outer) (n : Nat) : (vT cpacket_outer xs).take (n * 8) = vT cpacket_outer (xs.take n) := vT_take cpacket_outer_len xs n
@[simp] theorem cpacket_outer_drop (xs : List packet_outer) (n : Nat) : (vT cpacket_outer xs).drop (n * 8) = vT cpacket_outer (xs.drop n) := vT_drop cpacket_outer_len xs n
def unpacket_outer : List Value → Option packet_outer
  | [.bool a1, .int .u64 a2, .int .u64 a3, .bool a4, .int .u64 a5, .int .u64 a6, .int .i64 a7, .string ⟨⟨a8⟩⟩] => some (packet_outer.mk (api_Addr.mk a1 a2 a3) (api_Addr.mk a4 a5 a6) a7 a8)
  | _ => none
theorem unpacket_outer_eq (cs : List Value) (x : packet_outer) (h : unpacket_outer cs = some x) : cs = cpacket_outer x := by
  unfold unpacket_outer at h; split at h
  · cases h; rfl
  · cases h
def uvpacket_outer : Value → Option packet_outer
  | .agg ⟨cs⟩ => unpacket_outer cs
  | _ => none
theorem uvpacket_outer_eq (v : Value) (x : packet_outer) (h : uvpacket_outer v = some x) : v = .agg ⟨cpacket_outer x⟩ := by
  unfold uvpacket_outer at h; split at h
  · rw [unpacket_outer_eq _ _ h]
  · cases h
theorem uvpacket_outer_c (x : packet_outer) : uvpacket_outer (.agg ⟨cpacket_outer x⟩) = some x := rfl
def coctet_Reader (x : octet_Reader) : List Value := [.string ⟨⟨x.s⟩⟩, .bool x.made, .bool x.bad]
theorem coctet_Reader_len (x : octet_Reader) : (coctet_Reader x).length = 3 := rfl
theorem coctet_Reader_flat (x : octet_Reader) : flatV.flatL (coctet_Reader x) = true := rfl
theorem coctet_Reader_one (x : octet_Reader) : (coctet_Reader x).all oneC = true := rfl
@[simp] theorem coctet_Reader_lens (xs : List octet_Reader) : (vT coctet_Reader xs).length = xs.length * 3 := vT_len coctet_Reader_len xs
@[simp] theorem coctet_Reader_take (xs : List octet_Reader) (n : Nat) : (vT coctet_Reader xs).take (n * 3) = vT coctet_Reader (xs.take n) := vT_take coctet_Reader_len xs n
@[simp] theorem coctet_Reader_drop (xs : List octet_Reader) (n : Nat) : (vT coctet_Reader xs).drop (n * 3) = vT coctet_Reader (xs.drop n) := vT_drop coctet_Reader_len xs n
def unoctet_Reader : List Value → Option octet_Reader
  | [.string ⟨⟨a1⟩⟩, .bool a2, .bool a3] => some (octet_Reader.mk a1 a2 a3)
  | _ => none
theorem unoctet_Reader_eq (cs : List Value) (x : octet_Reader) (h : unoctet_Reader cs = some x) : cs = coctet_Reader x := by
  unfold unoctet_Reader at h; split at h
  · cases h; rfl
  · cases h
theorem unoctet_Reader_c (x : octet_Reader) : unoctet_Reader (coctet_Reader x) = some x := rfl
def ctcp_Opt (x : tcp_Opt) : List Value := [.int .i64 x.Kind, .string ⟨⟨x.Data⟩⟩]
theorem ctcp_Opt_len (x : tcp_Opt) : (ctcp_Opt x).length = 2 := rfl
theorem ctcp_Opt_flat (x : tcp_Opt) : flatV.flatL (ctcp_Opt x) = true := rfl
theorem ctcp_Opt_one (x : tcp_Opt) : (ctcp_Opt x).all oneC = true := rfl
@[simp] theorem ctcp_Opt_lens (xs : List tcp_Opt) : (vT ctcp_Opt xs).length = xs.length * 2 := vT_len ctcp_Opt_len xs
@[simp] theorem ctcp_Opt_take (xs : List tcp_Opt) (n : Nat) : (vT ctcp_Opt xs).take (n * 2) = vT ctcp_Opt (xs.take n) := vT_take ctcp_Opt_len xs n
@[simp] theorem ctcp_Opt_drop (xs : List tcp_Opt) (n : Nat) : (vT ctcp_Opt xs).drop (n * 2) = vT ctcp_Opt (xs.drop n) := vT_drop ctcp_Opt_len xs n
def cudp_Head (x : udp_Head) : List Value := [.int .i64 x.SPort, .int .i64 x.DPort]
theorem cudp_Head_len (x : udp_Head) : (cudp_Head x).length = 2 := rfl
theorem cudp_Head_flat (x : udp_Head) : flatV.flatL (cudp_Head x) = true := rfl
theorem cudp_Head_one (x : udp_Head) : (cudp_Head x).all oneC = true := rfl
@[simp] theorem cudp_Head_lens (xs : List udp_Head) : (vT cudp_Head xs).length = xs.length * 2 := vT_len cudp_Head_len xs
@[simp] theorem cudp_Head_take (xs : List udp_Head) (n : Nat) : (vT cudp_Head xs).take (n * 2) = vT cudp_Head (xs.take n) := vT_take cudp_Head_len xs n
@[simp] theorem cudp_Head_drop (xs : List udp_Head) (n : Nat) : (vT cudp_Head xs).drop (n * 2) = vT cudp_Head (xs.drop n) := vT_drop cudp_Head_len xs n
def cquic_Head (x : quic_Head) : List Value := [.bool x.Long, .int .i64 x.Bits, .int .u32 x.Version, .string ⟨⟨x.DCID⟩⟩, .string ⟨⟨x.SCID⟩⟩, .string ⟨⟨x.Rest⟩⟩]
theorem cquic_Head_len (x : quic_Head) : (cquic_Head x).length = 6 := rfl
theorem cquic_Head_flat (x : quic_Head) : flatV.flatL (cquic_Head x) = true := rfl
theorem cquic_Head_one (x : quic_Head) : (cquic_Head x).all oneC = true := rfl
@[simp] theorem cquic_Head_lens (xs : List quic_Head) : (vT cquic_Head xs).length = xs.length * 6 := vT_len cquic_Head_len xs
@[simp] theorem cquic_Head_take (xs : List quic_Head) (n : Nat) : (vT cquic_Head xs).take (n * 6) = vT cquic_Head (xs.take n) := vT_take cquic_Head_len xs n
@[simp] theorem cquic_Head_drop (xs : List quic_Head) (n : Nat) : (vT cquic_Head xs).drop (n * 6) = vT cquic_Head (xs.drop n) := vT_drop cquic_Head_len xs n
def cR11_head (x : R11_head) : List Value := [.bool x.src.V6, .int .u64 x.src.Hi, .int .u64 x.src.Lo, .bool x.dst.V6, .int .u64 x.dst.Hi, .int .u64 x.dst.Lo, .int .i64 x.proto, .int .i64 x.size, .string ⟨⟨x.body⟩⟩]
theorem cR11_head_len (x : R11_head) : (cR11_head x).length = 9 := rfl
theorem cR11_head_flat (x : R11_head) : flatV.flatL (cR11_head x) = true := rfl
theorem cR11_head_one (x : R11_head) : (cR11_head x).all oneC = true := rfl
@[simp] theorem cR11_head_lens (xs : List R11_head) : (vT cR11_head xs).length = xs.length * 9 := vT_len cR11_head_len xs
@[simp] theorem cR11_head_take (xs : List R11_head) (n : Nat) : (vT cR11_head xs).take (n * 9) = vT cR11_head (xs.take n) := vT_take cR11_head_len xs n
@[simp] theorem cR11_head_drop (xs : List R11_head) (n : Nat) : (vT cR11_head xs).drop (n * 9) = vT cR11_head (xs.drop n) := vT_drop cR11_head_len xs n
def cR07_Opt (x : R07_Opt) : List Value := [.int .i64 x.Kind, .string ⟨⟨x.Data⟩⟩, .int .i64 x.At]
theorem cR07_Opt_len (x : R07_Opt) : (cR07_Opt x).length = 3 := rfl
theorem cR07_Opt_flat (x : R07_Opt) : flatV.flatL (cR07_Opt x) = true := rfl
theorem cR07_Opt_one (x : R07_Opt) : (cR07_Opt x).all oneC = true := rfl
@[simp] theorem cR07_Opt_lens (xs : List R07_Opt) : (vT cR07_Opt xs).length = xs.length * 3 := vT_len cR07_Opt_len xs
@[simp] theorem cR07_Opt_take (xs : List R07_Opt) (n : Nat) : (vT cR07_Opt xs).take (n * 3) = vT cR07_Opt (xs.take n) := vT_take cR07_Opt_len xs n
@[simp] theorem cR07_Opt_drop (xs : List R07_Opt) (n : Nat) : (vT cR07_Opt xs).drop (n * 3) = vT cR07_Opt (xs.drop n) := vT_drop cR07_Opt_len xs n
def utipfour_fields (k : Nat) : Value → List (Option (List Value)) → Option ipfour_fields
  | .agg ⟨[.pointer (some ⟨k0, 0, none⟩)]⟩, [some c0] => match unoctet_Reader c0 with | some x0 => (if k0 = k + 0 then some (ipfour_fields.mk x0) else none) | none => none
  | _, _ => none
theorem utipfour_fields_eq {k : Nat} {v : Value} {cs : List (Option (List Value))} {x : ipfour_fields} (h : utipfour_fields k v cs = some x) : v = .agg ⟨[.pointer (some ⟨k + 0, 0, none⟩)]⟩ ∧ cs = [some [.string ⟨⟨x.Reader.s⟩⟩, .bool x.Reader.made, .bool x.Reader.bad]] := by
  unfold utipfour_fields at h; split at h <;> try (cases h; done)
  split at h <;> try (cases h; done)
  rename_i x0 e0
  split at h <;> cases h
  rename_i hk
  subst hk
  obtain rfl := unoctet_Reader_eq _ _ e0
  exact ⟨rfl, rfl⟩
theorem utipfour_fields_c (k : Nat) (x : ipfour_fields) : utipfour_fields k (.agg ⟨[.pointer (some ⟨k + 0, 0, none⟩)]⟩) [some [.string ⟨⟨x.Reader.s⟩⟩, .bool x.Reader.made, .bool x.Reader.bad]] = some x := by
  show (if k + 0 = k + 0 then some x else none) = _
  simp
theorem lrA0 {P : Program} {f base fn nt : Nat} {e e' : Env} {todo todo' : List VItem} {ds ds' : List Nat} {ret : Bool} {up up' : List VFrame} {H H' : Hp} {top top' : Nat} {R : Value → Hp → Nat → Prop}
    (h : Leads P f base ⟨⟨fn, nt, e', todo', ds', ret, none⟩, up', H', top'⟩ R) (m : List (Nat × Nat)) (hc : chkM base top' m = true) (he : reE (aget m) e e' := by repeat' first | exact trivial | refine ⟨⟨_, rfl, rfl⟩, ?_⟩ | refine ⟨⟨_, _, rfl, rfl, .rowF (vI_flat _ _) id⟩, ?_⟩ | refine ⟨⟨_, _, rfl, rfl, .rowF (vS_flat _) id⟩, ?_⟩ | refine ⟨⟨_, _, rfl, rfl, .rowF (vB_flat _) id⟩, ?_⟩ | refine ⟨⟨_, _, rfl, rfl, .rowF (vT_flat (by first | exact capi_Addr_flat | exact capi_Tuple_flat | exact ctcp_Head_flat | exact cipsix_Head_flat | exact cipfour_Head_flat | exact capi_Packet_flat | exact cpacket_outer_flat | exact coctet_Reader_flat | exact ctcp_Opt_flat | exact cudp_Head_flat | exact cquic_Head_flat | exact cR11_head_flat | exact cR07_Opt_flat) _) id⟩, ?_⟩ | refine ⟨⟨_, _, rfl, rfl, .tyF (vI_flat _ _)⟩, ?_⟩ | refine ⟨⟨_, _, rfl, rfl, .ty rfl⟩, ?_⟩ | refine ⟨⟨_, _, rfl, rfl, .cells rfl⟩, ?_⟩ | refine ⟨⟨_, _, rfl, rfl, .row rfl id⟩, ?_⟩ | refine ⟨⟨_, _, rfl, rfl, .cr rfl⟩, ?_⟩ | refine ⟨⟨_, _, rfl, rfl, .rc rfl⟩, ?_⟩ | refine ⟨⟨_, _, rfl, rfl, .marks⟩, ?_⟩ | refine ⟨⟨_, _, rfl, rfl, .siter _ _⟩, ?_⟩ | refine ⟨⟨_, _, rfl, rfl, .loop rfl rfl rfl rfl (by repeat' first | exact trivial | refine ⟨rfl, ?_⟩) rfl rfl rfl rfl⟩, ?_⟩) (hH : reH (aget m) H H' := by repeat' first | exact trivial | refine ⟨⟨_, rfl, rfl⟩, ?_⟩ | refine ⟨⟨_, _, rfl, rfl, .rowF (vI_flat _ _) id⟩, ?_⟩ | refine ⟨⟨_, _, rfl, rfl, .rowF (vS_flat _) id⟩, ?_⟩ | refine ⟨⟨_, _, rfl, rfl, .rowF (vB_flat _) id⟩, ?_⟩ | refine ⟨⟨_, _, rfl, rfl, .rowF (vT_flat (by first | exact capi_Addr_flat | exact capi_Tuple_flat | exact ctcp_Head_flat | exact cipsix_Head_flat | exact cipfour_Head_flat | exact capi_Packet_flat | exact cpacket_outer_flat | exact coctet_Reader_flat | exact ctcp_Opt_flat | exact cudp_Head_flat | exact cquic_Head_flat | exact cR11_head_flat | exact cR07_Opt_flat) _) id⟩, ?_⟩ | refine ⟨⟨_, _, rfl, rfl, .tyF (vI_flat _ _)⟩, ?_⟩ | refine ⟨⟨_, _, rfl, rfl, .ty rfl⟩, ?_⟩ | refine ⟨⟨_, _, rfl, rfl, .cells rfl⟩, ?_⟩ | refine ⟨⟨_, _, rfl, rfl, .row rfl id⟩, ?_⟩ | refine ⟨⟨_, _, rfl, rfl, .cr rfl⟩, ?_⟩ | refine ⟨⟨_, _, rfl, rfl, .rc rfl⟩, ?_⟩ | refine ⟨⟨_, _, rfl, rfl, .marks⟩, ?_⟩ | refine ⟨⟨_, _, rfl, rfl, .siter _ _⟩, ?_⟩ | refine ⟨⟨_, _, rfl, rfl, .loop rfl rfl rfl rfl (by repeat' first | exact trivial | refine ⟨rfl, ?_⟩) rfl rfl rfl rfl⟩, ?_⟩)
    (ht : renT (aget m) todo' = some todo := by rfl) (hd : renN (aget m) ds' = some ds := by rfl) (hu : reU (aget m) up up' := by trivial) :
    Leads P f base ⟨⟨fn, nt, e, todo, ds, ret, none⟩, up, H, top⟩ R := Leads.re h m hc he hH ht hd hu
theorem lrA1 {P : Program} {f base fn nt : Nat} {e e' : Env} {todo todo' : List VItem} {ds ds' : List Nat} {ret : Bool} {up up' : List VFrame} {H H' : Hp} {top top' : Nat} {R : Value → Hp → Nat → Prop}
    (h : Leads P f base ⟨⟨fn, nt, e', todo', ds', ret, none⟩, up', H', top'⟩ R) (m : List (Nat × Nat)) (hc : chkM base top' m = true) (he : reE (aget m) e e' := by repeat' first | exact trivial | refine ⟨⟨_, rfl, rfl⟩, ?_⟩ | refine ⟨⟨_, _, rfl, rfl, .rowF (vI_flat _ _) id⟩, ?_⟩ | refine ⟨⟨_, _, rfl, rfl, .rowF (vS_flat _) id⟩, ?_⟩ | refine ⟨⟨_, _, rfl, rfl, .rowF (vB_flat _) id⟩, ?_⟩ | refine ⟨⟨_, _, rfl, rfl, .rowF (vT_flat (by first | exact capi_Addr_flat | exact capi_Tuple_flat | exact ctcp_Head_flat | exact cipsix_Head_flat | exact cipfour_Head_flat | exact capi_Packet_flat | exact cpacket_outer_flat | exact coctet_Reader_flat | exact ctcp_Opt_flat | exact cudp_Head_flat | exact cquic_Head_flat | exact cR11_head_flat | exact cR07_Opt_flat) _) id⟩, ?_⟩ | refine ⟨⟨_, _, rfl, rfl, .tyF (vI_flat _ _)⟩, ?_⟩ | refine ⟨⟨_, _, rfl, rfl, .ty rfl⟩, ?_⟩ | refine ⟨⟨_, _, rfl, rfl, .cells rfl⟩, ?_⟩ | refine ⟨⟨_, _, rfl, rfl, .row rfl id⟩, ?_⟩ | refine ⟨⟨_, _, rfl, rfl, .cr rfl⟩, ?_⟩ | refine ⟨⟨_, _, rfl, rfl, .rc rfl⟩, ?_⟩ | refine ⟨⟨_, _, rfl, rfl, .marks⟩, ?_⟩ | refine ⟨⟨_, _, rfl, rfl, .siter _ _⟩, ?_⟩ | refine ⟨⟨_, _, rfl, rfl, .loop rfl rfl rfl rfl (by repeat' first | exact trivial | refine ⟨rfl, ?_⟩) rfl rfl rfl rfl⟩, ?_⟩) (hH : reH (aget m) H H' := by repeat' first | exact trivial | refine ⟨⟨_, rfl, rfl⟩, ?_⟩ | refine ⟨⟨_, _, rfl, rfl, .rowF (vI_flat _ _) id⟩, ?_⟩ | refine ⟨⟨_, _, rfl, rfl, .rowF (vS_flat _) id⟩, ?_⟩ | refine ⟨⟨_, _, rfl, rfl, .rowF (vB_flat _) id⟩, ?_⟩ | refine ⟨⟨_, _, rfl, rfl, .rowF (vT_flat (by first | exact capi_Addr_flat | exact capi_Tuple_flat | exact ctcp_Head_flat | exact cipsix_Head_flat | exact cipfour_Head_flat | exact capi_Packet_flat | exact cpacket_outer_flat | exact coctet_Reader_flat | exact ctcp_Opt_flat | exact cudp_Head_flat | exact cquic_Head_flat | exact cR11_head_flat | exact cR07_Opt_flat) _) id⟩, ?_⟩ | refine ⟨⟨_, _, rfl, rfl, .tyF (vI_flat _ _)⟩, ?_⟩ | refine ⟨⟨_, _, rfl, rfl, .ty rfl⟩, ?_⟩ | refine ⟨⟨_, _, rfl, rfl, .cells rfl⟩, ?_⟩ | refine ⟨⟨_, _, rfl, rfl, .row rfl id⟩, ?_⟩ | refine ⟨⟨_, _, rfl, rfl, .cr rfl⟩, ?_⟩ | refine ⟨⟨_, _, rfl, rfl, .rc rfl⟩, ?_⟩ | refine ⟨⟨_, _, rfl, rfl, .marks⟩, ?_⟩ | refine ⟨⟨_, _, rfl, rfl, .siter _ _⟩, ?_⟩ | refine ⟨⟨_, _, rfl, rfl, .loop rfl rfl rfl rfl (by repeat' first | exact trivial | refine ⟨rfl, ?_⟩) rfl rfl rfl rfl⟩, ?_⟩)
    (ht : renT (aget m) todo' = some todo := by rfl) (hd : renN (aget m) ds' = some ds := by rfl) (hu : reU (aget m) up up' := by repeat' first | exact trivial | refine ⟨⟨rfl, rfl, rfl, rfl, rfl, ?_, rfl, rfl⟩, ?_⟩ | refine ⟨⟨_, rfl, rfl⟩, ?_⟩) :
    Leads P f base ⟨⟨fn, nt, e, todo, ds, ret, none⟩, up, H, top⟩ R := Leads.re h m hc he hH ht hd hu
def check_fold_s1 (n1 : Int) : Option (Sum Int Int) :=
  cond (decide (n1 > 65535))
    (
    let t := wI .i64 ((andI .i64 n1 65535) + (n1.fdiv (2 ^ 16)))
    some (.inl t))
    (
    some (.inr (n1)))
def check_foldF (n : Int) : Option Int :=
  iter (fun st => check_fold_s1 st) FUEL n
def rx73 (x : Int) : SRes := ⟨.int .i64 x, [], []⟩
def r73 (g : Int → Option Int) : Dec := dV (asI .i64) fun (y0 : Int) => dEnd (ofG (g y0) rx73)
theorem r73_c {g : Int → Option Int} {y0 : Int} {x : Int} (hx : g y0 = some x) : r73 g [.int .i64 y0] [] = some (rx73 x) := (dV_eq (asI_c _)).trans (ofG_eq hx)
def s73 (g : Int → Option Int) : Summ := ⟨[.v], r73 g⟩
theorem r73_eq {g : Int → Option Int} {y0 : Int} {x : Int} (hx : g y0 = some x) : (s73 g).run [.int .i64 y0] [] = some (rx73 x) := r73_c hx
abbrev sums73 : List (Nat × Summ) := []
def head73_1 (n1 : Int) : VM :=
  ⟨⟨73, 11, [(0, .int .i64 n1)], [.code k73_6, .inLoop k73_6, .inBlock 0, .code k73_10], [], false, none⟩, [], [], 0⟩
theorem loop73_1 (hS : SumsOK Try.prog (aget (sums73))) (res : Int) : ∀ fuel (st : Int) (o : Int), iter (fun st => check_fold_s1 st) fuel st = some o → (o = res) →
    Leads Try.prog 73 0 (head73_1 st) (fun v H _ => Res 0 (rx73 res) v H) := by
  intro fuel st o h hc
  refine iter_leads (head := fun st => head73_1 st) (C := fun o => (o = res)) ?_ fuel st o h hc
  clear h hc o st fuel
  intro n1 o h hc
  replace h : check_fold_s1 n1 = some o := h
  show Leads Try.prog 73 0 (head73_1 n1) (fun v H _ => Res 0 (rx73 res) v H)
  unfold check_fold_s1 at h
  refine ev_ok tab_ok hS true 3000 ?_
  conv => whnf
  refine br.h2 h ?_ ?_ ?_
  · rfl
  · clear h; intro hb h; conv => whnf
    all_goals (cases h; cases hc; exact Res.z rfl rfl rfl)
  clear h; intro hb h; conv => whnf
  let t : Int := wI .i64 ((andI .i64 n1 65535) + (n1.fdiv (2 ^ 16)))
  cases h; simp only [Sum.elim_inl, head73_1] at hc
  exact lrA0 hc [] rfl
theorem leads73 (hS : SumsOK Try.prog (aget (sums73))) (n : Int) (res : Int) (h : check_foldF n = some res) :
    Leads Try.prog 73 0 ⟨⟨73, 11, [(0, .int .i64 n)], [.code k73_12], [], false, none⟩, [], [], 0⟩ (fun v H _ => Res 0 (rx73 res) v H) := by
  unfold check_foldF at h
  refine ev_ok tab_ok hS true 3000 ?_
  conv => whnf
  have hl := loop73_1 hS res _ _ _ h rfl; simp only [head73_1] at hl
  exact lrA0 hl [] rfl
theorem ok73 (hS : SumsOK Try.prog (aget (sums73))) : SumOK Try.prog 73 (s73 (check_foldF)) := by
  refine SumOK.of_leads tab_ok (fun ar os r ha hr => ?_) ⟨Try.f73, rfl, by decide, rfl⟩
  replace hr : r73 (check_foldF) ar (conts os) = some r := hr
  unfold r73 at hr
  generalize hc : conts os = C at hr
  replace hr := dV.elim hr; obtain ⟨v0, l1, y0, rfl, e0, hr⟩ := hr; obtain rfl := asI_eq _ _ _ e0
  replace hr := dFin hr; obtain ⟨rfl, rfl, x, h, rfl⟩ := hr
  obtain rfl := kinds_nil hc
  exact ⟨_, rfl, leads73 hS _ x h⟩
def check_fold : Int → Option Int := check_foldF
theorem lift73 : SumOK Try.prog 73 (s73 check_fold) := ok73 (SumsOK.of_tab trivial)
def check_Sum_s1 (check_fold : Int → Option Int) (s : List UInt8) (xat : Int) (n : Int) : Option (Sum (Int × Int) Int) :=
  cond (decide (xat < (s.length : Int)))
    (
    oreq (decide (0 ≤ xat)) <|
    (s[xat.toNat]?).bind fun (b : UInt8) =>
    let t := wI .i64 ((wI .i64 (b.toNat : Int)) * 2 ^ 8)
    let t1 := decide ((wI .i64 (xat + 1)) < (s.length : Int))
    cond (t1)
      (
      oreq (decide (0 ≤ (wI .i64 (xat + 1)))) <|
      (s[(wI .i64 (xat + 1)).toNat]?).bind fun (b1 : UInt8) =>
      let t2 := wI .i64 (n + (iorI .i64 t (wI .i64 (b1.toNat : Int))))
      (check_fold t2).bind fun f =>
      some (.inl (wI .i64 (xat + 2), f)))
      (
      (check_fold (wI .i64 (n + t))).bind fun f1 =>
      some (.inl (wI .i64 (xat + 2), f1))))
    (
    some (.inr (n)))
def check_SumF (check_fold : Int → Option Int) (s : List UInt8) : Option Int :=
  iter (fun st => check_Sum_s1 check_fold s st.1 st.2) FUEL (0, 0)
def rx77 (x : Int) : SRes := ⟨.int .i64 x, [], []⟩
def r77 (g : (List UInt8) → Option Int) : Dec := dV asS fun (y0 : List UInt8) => dEnd (ofG (g y0) rx77)
theorem r77_c {g : (List UInt8) → Option Int} {y0 : List UInt8} {x : Int} (hx : g y0 = some x) : r77 g [.string ⟨⟨y0⟩⟩] [] = some (rx77 x) := (dV_eq (asS_c)).trans (ofG_eq hx)
def s77 (g : (List UInt8) → Option Int) : Summ := ⟨[.v], r77 g⟩
theorem r77_eq {g : (List UInt8) → Option Int} {y0 : List UInt8} {x : Int} (hx : g y0 = some x) : (s77 g).run [.string ⟨⟨y0⟩⟩] [] = some (rx77 x) := r77_c hx
abbrev sums77 (check_fold : Int → Option Int) : List (Nat × Summ) := [(73, s73 check_fold)]
def head77_1 (s : List UInt8) (xat : Int) (n : Int) : VM :=
  ⟨⟨71, 32, [(0, .func (.yield 3) #[] #[]), (1, .pointer (some ⟨1, 0, none⟩)), (3, .int .i64 xat)], [.code k71_17, .inLoop k71_17, .inBlock 0], [], false, none⟩, [⟨77, 13, [(3, .pointer (some ⟨0, 0, none⟩))], [.inRangeFunc 3, .inBlock 0, .code k77_10], [2], false, none⟩], [(0, .cells [.int .i64 n]), (1, .cells [.string ⟨⟨s⟩⟩]), (2, .marks), (3, .loop ⟨.ready, none, 77, 13, [(3, .pointer (some ⟨0, 0, none⟩))], [7], k77_3, k77_5, 2⟩)], 4⟩
theorem loop77_1 (check_fold : Int → Option Int) (hS : SumsOK Try.prog (aget (sums77 check_fold))) (s : List UInt8) (res : Int) : ∀ fuel (st : Int × Int) (o : Int), iter (fun st => check_Sum_s1 check_fold s st.1 st.2) fuel st = some o → (o = res) →
    Leads Try.prog 77 0 (head77_1 s st.1 st.2) (fun v H _ => Res 0 (rx77 res) v H) := by
  intro fuel st o h hc
  refine iter_leads (head := fun st => head77_1 s st.1 st.2) (C := fun o => (o = res)) ?_ fuel st o h hc
  clear h hc o st fuel
  intro st o h hc
  obtain ⟨xat, n⟩ := st
  replace h : check_Sum_s1 check_fold s xat n = some o := h
  show Leads Try.prog 77 0 (head77_1 s xat n) (fun v H _ => Res 0 (rx77 res) v H)
  unfold check_Sum_s1 at h
  refine ev_ok tab_ok hS true 3000 ?_
  conv => whnf
  refine br.h2 h ?_ ?_ ?_
  · rfl
  · clear h; intro hb h; conv => whnf
    all_goals (cases h; cases hc; exact Res.z rfl rfl rfl)
  clear h; intro hb h; conv => whnf
  replace h := oreq.elim h; obtain ⟨hb, h⟩ := h
  first | (refine req.intro hb ?_; conv => whnf) | skip
  replace h := obind.elim h; obtain ⟨b, hy, h⟩ := h
  refine rdS.intro hy ?_
  conv => whnf
  let t : Int := wI .i64 ((wI .i64 (b.toNat : Int)) * 2 ^ 8)
  let t1 : Bool := decide ((wI .i64 (xat + 1)) < (s.length : Int))
  refine br.h2 h ?_ ?_ ?_
  · rfl
  · clear h; intro hb h; conv => whnf
    replace h := obind.elim h; obtain ⟨f1, hy, h⟩ := h
    refine sumK.q rfl rfl (r73_eq hy) rfl rfl rfl ?_
    conv => whnf
    cases h; simp only [Sum.elim_inl, head77_1] at hc
    exact lrA1 hc [(0, 0), (1, 1), (2, 2), (3, 3)] rfl
  clear h; intro hb h; conv => whnf
  replace h := oreq.elim h; obtain ⟨hb, h⟩ := h
  first | (refine req.intro hb ?_; conv => whnf) | skip
  replace h := obind.elim h; obtain ⟨b1, hy, h⟩ := h
  refine rdS.intro hy ?_
  conv => whnf
  let t2 : Int := wI .i64 (n + (iorI .i64 t (wI .i64 (b1.toNat : Int))))
  replace h := obind.elim h; obtain ⟨f, hy, h⟩ := h
  refine sumK.q rfl rfl (r73_eq hy) rfl rfl rfl ?_
  conv => whnf
  cases h; simp only [Sum.elim_inl, head77_1] at hc
  exact lrA1 hc [(0, 0), (1, 1), (2, 2), (3, 3)] rfl
theorem leads77 (check_fold : Int → Option Int) (hS : SumsOK Try.prog (aget (sums77 check_fold))) (s : List UInt8) (res : Int) (h : check_SumF check_fold s = some res) :
    Leads Try.prog 77 0 ⟨⟨77, 13, [(0, .string ⟨⟨s⟩⟩)], [.code k77_13], [], false, none⟩, [], [], 0⟩ (fun v H _ => Res 0 (rx77 res) v H) := by
  unfold check_SumF at h
  refine ev_ok tab_ok hS true 3000 ?_
  conv => whnf
  have hl := loop77_1 check_fold hS _ res _ _ _ h rfl; simp only [head77_1] at hl
  exact lrA1 hl [(0, 0), (1, 1), (2, 2), (3, 3)] rfl
theorem ok77 (check_fold : Int → Option Int) (hS : SumsOK Try.prog (aget (sums77 check_fold))) : SumOK Try.prog 77 (s77 (check_SumF check_fold)) := by
  refine SumOK.of_leads tab_ok (fun ar os r ha hr => ?_) ⟨Try.f77, rfl, by decide, rfl⟩
  replace hr : r77 (check_SumF check_fold) ar (conts os) = some r := hr
  unfold r77 at hr
  generalize hc : conts os = C at hr
  replace hr := dV.elim hr; obtain ⟨v0, l1, y0, rfl, e0, hr⟩ := hr; obtain rfl := asS_eq _ _ e0
  replace hr := dFin hr; obtain ⟨rfl, rfl, x, h, rfl⟩ := hr
  obtain rfl := kinds_nil hc
  exact ⟨_, rfl, leads77 check_fold hS _ x h⟩
def check_Sum : (List UInt8) → Option Int := check_SumF check_fold
theorem lift77 : SumOK Try.prog 77 (s77 check_Sum) := ok77 check_fold (SumsOK.of_tab ⟨lift73, trivial⟩)
end Go.Vm.Code
namespace Go.Vm.Code
open Go Go.Vm
def wsum : List UInt8 → Nat
  | [] => 0
  | [b] => b.toNat * 256
  | b :: c :: l => b.toNat * 256 + c.toNat + wsum l
def norm (n : Nat) : Nat := if n = 0 then 0 else (n - 1) % 65535 + 1
theorem norm_eq {n r : Nat} (h1 : r ≤ 65535) (h2 : r % 65535 = n % 65535) (h3 : r = 0 ↔ n = 0) : norm n = r := by unfold norm; split <;> omega
theorem norm_le (n : Nat) : norm n ≤ 65535 := by unfold norm; split <;> omega
theorem norm_mod (n : Nat) : norm n % 65535 = n % 65535 := by unfold norm; split <;> omega
theorem norm_zero (n : Nat) : norm n = 0 ↔ n = 0 := by unfold norm; split <;> omega
theorem norm_same {n : Nat} (h : n ≤ 65535) : norm n = n := norm_eq h rfl Iff.rfl
theorem fold_eq {n : Int} (h0 : 0 ≤ n) (h1 : n < 2 ^ 62) : check_fold n = some ((norm n.toNat : Nat) : Int) := by
  unfold check_fold check_foldF
  refine iter_eq (fun n => ((norm n.toNat : Nat) : Int)) (fun n => 0 ≤ n ∧ n < 2 ^ 62) (fun n => n.toNat) ?_ FUEL _ ⟨h0, h1⟩ (by rw [FUEL_eq]; omega)
  intro s ⟨a, b⟩
  unfold check_fold_s1
  by_cases hs : s > 65535
  · refine .inr ⟨s % 65536 + s / 65536, ?_, ⟨by omega, by omega⟩, by omega, ?_⟩
    · rw [cond_p hs, andI64_mask (m := 65535) 16 (by decide) (by decide) a (by omega), fdivP, wI64 (by omega) (by omega)]; rfl
    · have : norm (s % 65536 + s / 65536).toNat = norm s.toNat :=
        (norm_eq (norm_le _) (by have := norm_mod (s % 65536 + s / 65536).toNat; omega) (by have := norm_zero (s % 65536 + s / 65536).toNat; omega)).symm
      rw [this]
  · refine .inl ?_
    rw [cond_n hs]
    have := norm_same (n := s.toNat) (by omega)
    simp only [this]
    rw [Int.toNat_of_nonneg a]
theorem wsum_append : ∀ (a b : List UInt8), a.length % 2 = 0 → wsum (a ++ b) = wsum a + wsum b
  | [], b, _ => by simp [wsum]
  | [_], b, h => by simp at h
  | x :: y :: a, b, h => by
    have := wsum_append a b (by simp at h; omega)
    simp only [List.cons_append, wsum, this]; omega
def allz (l : List UInt8) : Bool := l.all fun b => b == 0
theorem bz (b : UInt8) : ((b.toNat : Int) == 0) = (b == 0) := by
  by_cases h : b = 0
  · subst h; rfl
  · have : b.toNat ≠ 0 := fun e => h (UInt8.toNat_inj.1 e)
    rw [beq_eq_false_iff_ne.2 h]; simp; exact this
end Go.Vm.Code
namespace Go.Vm
open Go
def be (n : Nat) : Nat → List UInt8
  | 0 => []
  | r + 1 => UInt8.ofNat (n / 256 ^ r) :: be n r
def valL (l : List UInt8) : Nat := l.foldl (fun n b => n * 256 + b.toNat) 0
@[simp] theorem be_len (n : Nat) : ∀ k, (be n k).length = k
  | 0 => rfl
  | k + 1 => by simp [be, be_len n k]
theorem be_snoc (n : Nat) : ∀ k, be n (k + 1) = be (n / 256) k ++ [UInt8.ofNat n]
  | 0 => by simp [be]
  | k + 1 => by
    rw [be, be_snoc n k, be, Nat.div_div_eq_div_mul, Nat.pow_succ, Nat.mul_comm 256]; rfl
theorem be_mod (n : Nat) : ∀ k, be (n % 256 ^ k) k = be n k
  | 0 => rfl
  | k + 1 => by
    rw [be_snoc, be_snoc, Nat.pow_succ, Nat.mul_comm, Nat.mod_mul_right_div_self, be_mod (n / 256) k]
    congr 2
    apply UInt8.toNat_inj.1
    simp only [UInt8.toNat_ofNat']
    rw [Nat.mod_mul_right_mod]
theorem val_foldl (l : List UInt8) : ∀ n : Nat, l.foldl (fun n b => n * 256 + b.toNat) n = n * 256 ^ l.length + valL l := by
  induction l with
  | nil => intro n; simp [valL]
  | cons b l ih =>
    intro n
    rw [valL, List.foldl_cons, ih, List.foldl_cons, ih, List.length_cons, Nat.pow_succ]
    rw [Nat.zero_mul, Nat.zero_add, Nat.add_mul, Nat.mul_assoc, Nat.mul_comm (256 ^ _) 256, Nat.add_assoc]
@[simp] theorem val_nil : valL [] = 0 := rfl
theorem val_cons (b : UInt8) (l : List UInt8) : valL (b :: l) = b.toNat * 256 ^ l.length + valL l := by
  rw [valL, List.foldl_cons, val_foldl]; simp
theorem val_lt : ∀ l : List UInt8, valL l < 256 ^ l.length
  | [] => by simp
  | b :: l => by
    have h := val_lt l
    have hb := b.toNat_lt
    rw [val_cons, List.length_cons, Nat.pow_succ]
    have : b.toNat * 256 ^ l.length + 256 ^ l.length ≤ 256 * 256 ^ l.length := by
      rw [← Nat.succ_mul]; exact Nat.mul_le_mul_right _ (by omega)
    rw [Nat.mul_comm (256 ^ l.length)]; omega
theorem be_val : ∀ l : List UInt8, be (valL l) l.length = l
  | [] => rfl
  | b :: l => by
    have h := val_lt l
    rw [List.length_cons, be]
    have e1 : valL (b :: l) / 256 ^ l.length = b.toNat := by
      rw [val_cons, Nat.mul_comm, Nat.mul_add_div (Nat.pow_pos (by decide)), Nat.div_eq_of_lt h, Nat.add_zero]
    have e2 : be (valL (b :: l)) l.length = be (valL l) l.length := by
      rw [← be_mod (valL (b :: l)), val_cons, Nat.mul_add_mod', be_mod]
    rw [e1, e2, be_val l]
    simp
theorem be_val' {l : List UInt8} {k : Nat} (h : l.length = k) : be (valL l) k = l := by subst h; exact be_val l
theorem val_take_lt {l : List UInt8} {k : Nat} (n : Nat) (h : 256 ^ k ≤ n) : valL (l.take k) < n := by
  have h1 := val_lt (l.take k)
  have h2 : (l.take k).length ≤ k := List.length_take_le _ _
  exact Nat.lt_of_lt_of_le h1 (Nat.le_trans (Nat.pow_le_pow_right (by decide) h2) h)
end Go.Vm
namespace Go.Vm.Code
open Go Go.Vm Go.Proofs
set_option maxRecDepth 100000
set_option maxHeartbeats 4000000
set_option linter.unusedVariables false
def octet_Put_s1 (n : Int) (k : Int) (t17 : Int) (b : List Int) : Option (Sum (Int × (List Int)) (List UInt8)) :=
  cond (decide (t17 < (k.toNat : Int)))
    (
    let t := wI .i64 (8 * (wI .i64 ((wI .i64 (k - 1)) - t17)))
    oreq (decide (0 ≤ t)) <|
    oreq (decide ((0 : Int) ≤ t17 ∧ t17 < (k.toNat : Int))) <|
    oreq (decide (t17.toNat < b.length)) <|
    let row := b.set t17.toNat (wI .u8 (n.fdiv (2 ^ (min t.toNat 64))))
    some (.inl (wI .i64 (t17 + 1), row)))
    (
    oreq (decide (k.toNat ≤ b.length)) <|
    some (.inr (iB (b.take k.toNat))))
def octet_PutF (n : Int) (k : Int) : Option (List UInt8) :=
  cond (decide (k < 1))
    (
    some ([]))
    (
    cond (decide (k > 8))
      (
      some ([]))
      (
      oreq (decide (0 ≤ k ∧ k ≤ k ∧ k < 2 ^ 63 ∧ (1 : Int) * k ≤ 2 ^ 48)) <|
      iter (fun st => octet_Put_s1 n k st.1 st.2) FUEL (0, List.replicate k.toNat (0))))
def rx44 (x : List UInt8) : SRes := ⟨.string ⟨⟨x⟩⟩, [], []⟩
def r44 (g : Int → Int → Option (List UInt8)) : Dec := dV (asI .u64) fun (y0 : Int) => dV (asI .i64) fun (y1 : Int) => dEnd (ofG (g y0 y1) rx44)
theorem r44_c {g : Int → Int → Option (List UInt8)} {y0 : Int} {y1 : Int} {x : List UInt8} (hx : g y0 y1 = some x) : r44 g [.int .u64 y0, .int .i64 y1] [] = some (rx44 x) := (dV_eq (asI_c _)).trans ((dV_eq (asI_c _)).trans (ofG_eq hx))
def s44 (g : Int → Int → Option (List UInt8)) : Summ := ⟨[.v, .v], r44 g⟩
theorem r44_eq {g : Int → Int → Option (List UInt8)} {y0 : Int} {y1 : Int} {x : List UInt8} (hx : g y0 y1 = some x) : (s44 g).run [.int .u64 y0, .int .i64 y1] [] = some (rx44 x) := r44_c hx
abbrev sums44 : List (Nat × Summ) := []
def head44_1 (n : Int) (k : Int) (t17 : Int) (b : List Int) : VM :=
  ⟨⟨44, 34, [(0, .int .u64 n), (1, .int .i64 k), (5, .slice (some ⟨0, 0, none⟩) k.toNat 1), (16, .int .i64 (k.toNat : Int)), (17, .int .i64 t17)], [.code k44_17, .inLoop k44_17, .inBlock 0, .code k44_22], [], false, none⟩, [], [(0, .row true (vI .u8 b))], 1⟩
theorem loop44_1 (hS : SumsOK Try.prog (aget (sums44))) (n : Int) (k : Int) (res : List UInt8) : ∀ fuel (st : Int × (List Int)) (o : List UInt8), iter (fun st => octet_Put_s1 n k st.1 st.2) fuel st = some o → (o = res) →
    Leads Try.prog 44 0 (head44_1 n k st.1 st.2) (fun v H _ => Res 0 (rx44 res) v H) := by
  intro fuel st o h hc
  refine iter_leads (head := fun st => head44_1 n k st.1 st.2) (C := fun o => (o = res)) ?_ fuel st o h hc
  clear h hc o st fuel
  intro st o h hc
  obtain ⟨t17, b⟩ := st
  replace h : octet_Put_s1 n k t17 b = some o := h
  show Leads Try.prog 44 0 (head44_1 n k t17 b) (fun v H _ => Res 0 (rx44 res) v H)
  unfold octet_Put_s1 at h
  refine ev_ok tab_ok hS true 3000 ?_
  conv => whnf
  refine br.h2 h ?_ ?_ ?_
  · rfl
  · clear h; intro hb h; conv => whnf
    replace h := oreq.elim h; obtain ⟨hb, h⟩ := h
    refine req.intro (by (first | rfl | (simp [vI, vB, vS, bI, oneC, addrBlk, cellsL, Value.cells] at *; omega) | (simp [vI, vB, vS, bI, oneC, addrBlk, cellsL, Value.cells] at *; done))) ?_
    conv => whnf
    refine pk_b2s ?_
    conv => whnf
    all_goals (cases h; cases hc; exact Res.z rfl rfl rfl)
  clear h; intro hb h; conv => whnf
  let t : Int := wI .i64 (8 * (wI .i64 ((wI .i64 (k - 1)) - t17)))
  replace h := oreq.elim h; obtain ⟨hb, h⟩ := h
  first | (refine req.intro hb ?_; conv => whnf) | skip
  replace h := oreq.elim h; obtain ⟨hb, h⟩ := h
  first | (refine req.intro hb ?_; conv => whnf) | skip
  replace h := oreq.elim h; obtain ⟨hb, h⟩ := h
  refine st_I hb (by first | rfl | (rw [Nat.zero_add, Nat.mul_one]; try rfl; done) | omega) ?_
  conv => whnf
  let row : List Int := b.set t17.toNat (wI .u8 (n.fdiv (2 ^ (min t.toNat 64))))
  cases h; simp only [Sum.elim_inl, head44_1] at hc
  exact lrA0 hc [(0, 0)] rfl
theorem leads44 (hS : SumsOK Try.prog (aget (sums44))) (n : Int) (k : Int) (res : List UInt8) (h : octet_PutF n k = some res) :
    Leads Try.prog 44 0 ⟨⟨44, 34, [(0, .int .u64 n), (1, .int .i64 k)], [.code k44_26], [], false, none⟩, [], [], 0⟩ (fun v H _ => Res 0 (rx44 res) v H) := by
  unfold octet_PutF at h
  refine ev_ok tab_ok hS true 3000 ?_
  conv => whnf
  refine br.h h ?_ ?_ ?_
  · rfl
  · clear h; intro hb h; conv => whnf
    all_goals (cases h; exact Res.z rfl rfl rfl)
  clear h; intro hb h; conv => whnf
  refine br.h h ?_ ?_ ?_
  · rfl
  · clear h; intro hb h; conv => whnf
    all_goals (cases h; exact Res.z rfl rfl rfl)
  clear h; intro hb h; conv => whnf
  replace h := oreq.elim h; obtain ⟨hb, h⟩ := h
  first | (refine req.intro hb ?_; conv => whnf) | skip
  refine pk_mkI ?_
  conv => whnf
  have hl := loop44_1 hS _ _ res _ _ _ h rfl; simp only [head44_1] at hl
  exact lrA0 hl [(0, 0)] rfl
theorem ok44 (hS : SumsOK Try.prog (aget (sums44))) : SumOK Try.prog 44 (s44 (octet_PutF)) := by
  refine SumOK.of_leads tab_ok (fun ar os r ha hr => ?_) ⟨Try.f44, rfl, by decide, rfl⟩
  replace hr : r44 (octet_PutF) ar (conts os) = some r := hr
  unfold r44 at hr
  generalize hc : conts os = C at hr
  replace hr := dV.elim hr; obtain ⟨v0, l1, y0, rfl, e0, hr⟩ := hr; obtain rfl := asI_eq _ _ _ e0
  replace hr := dV.elim hr; obtain ⟨v1, l2, y1, rfl, e1, hr⟩ := hr; obtain rfl := asI_eq _ _ _ e1
  replace hr := dFin hr; obtain ⟨rfl, rfl, x, h, rfl⟩ := hr
  obtain rfl := kinds_nil hc
  exact ⟨_, rfl, leads44 hS _ _ x h⟩
def octet_Put : Int → Int → Option (List UInt8) := octet_PutF
theorem lift44 : SumOK Try.prog 44 (s44 octet_Put) := ok44 (SumsOK.of_tab trivial)
def octet_Get_s1 (t1 : List UInt8) (n : Int) (t37 : Int) : Option (Sum (Int × Int) (Int × Bool)) :=
  cond (decide (t37 < (t1.length : Int)))
    (
    oreq (decide ((0 : Int) ≤ t37 ∧ t37 < (t1.length : Int))) <|
    ((bI t1)[t37.toNat]?).bind fun (e : Int) =>
    let t2 := iorI .u64 (wI .u64 (n * 2 ^ 8)) (wI .u64 e)
    some (.inl (t2, wI .i64 (t37 + 1))))
    (
    some (.inr ((n, true))))
def octet_GetF (s : List UInt8) (ata1 : Int) (k : Int) : Option (Int × Bool) :=
  cond (decide (k < 1))
    (
    some ((0, false)))
    (
    cond (decide (k > 8))
      (
      some ((0, false)))
      (
      cond (decide (ata1 < 0))
        (
        some ((0, false)))
        (
        let t := decide ((wI .i64 ((s.length : Int) - k)) < ata1)
        cond (t)
          (
          some ((0, false)))
          (
          oreq (decide ((0 : Int) ≤ (wI .i64 (ata1 + k)) ∧ (wI .i64 (ata1 + k)) ≤ (s.length : Int) ∧ (0 : Int) ≤ ata1 ∧ ata1 ≤ ((wI .i64 (ata1 + k)).toNat : Int))) <|
          let t1 := (s.drop ata1.toNat).take ((wI .i64 (ata1 + k)).toNat - ata1.toNat)
          iter (fun st => octet_Get_s1 t1 st.1 st.2) FUEL (0, 0)))))
def rx25 (x : Int × Bool) : SRes := ⟨.tuple ⟨[.int .u64 x.1, .bool x.2]⟩, [], []⟩
def r25 (g : (List UInt8) → Int → Int → Option (Int × Bool)) : Dec := dV asS fun (y0 : List UInt8) => dV (asI .i64) fun (y1 : Int) => dV (asI .i64) fun (y2 : Int) => dEnd (ofG (g y0 y1 y2) rx25)
theorem r25_c {g : (List UInt8) → Int → Int → Option (Int × Bool)} {y0 : List UInt8} {y1 : Int} {y2 : Int} {x : Int × Bool} (hx : g y0 y1 y2 = some x) : r25 g [.string ⟨⟨y0⟩⟩, .int .i64 y1, .int .i64 y2] [] = some (rx25 x) := (dV_eq (asS_c)).trans ((dV_eq (asI_c _)).trans ((dV_eq (asI_c _)).trans (ofG_eq hx)))
def s25 (g : (List UInt8) → Int → Int → Option (Int × Bool)) : Summ := ⟨[.v, .v, .v], r25 g⟩
theorem r25_eq {g : (List UInt8) → Int → Int → Option (Int × Bool)} {y0 : List UInt8} {y1 : Int} {y2 : Int} {x : Int × Bool} (hx : g y0 y1 y2 = some x) : (s25 g).run [.string ⟨⟨y0⟩⟩, .int .i64 y1, .int .i64 y2] [] = some (rx25 x) := r25_c hx
abbrev sums25 : List (Nat × Summ) := []
def head25_1 (t1 : List UInt8) (n : Int) (t37 : Int) : VM :=
  ⟨⟨25, 48, [(8, .int .u64 n), (35, .slice (some ⟨0, 0, none⟩) t1.length 1), (36, .int .i64 (t1.length : Int)), (37, .int .i64 t37)], [.code k25_17, .inLoop k25_17, .inBlock 0, .code k25_22], [], false, none⟩, [], [(0, .row true (vI .u8 (bI t1)))], 1⟩
theorem loop25_1 (hS : SumsOK Try.prog (aget (sums25))) (t1 : List UInt8) (res : Int × Bool) : ∀ fuel (st : Int × Int) (o : Int × Bool), iter (fun st => octet_Get_s1 t1 st.1 st.2) fuel st = some o → (o = res) →
    Leads Try.prog 25 0 (head25_1 t1 st.1 st.2) (fun v H _ => Res 0 (rx25 res) v H) := by
  intro fuel st o h hc
  refine iter_leads (head := fun st => head25_1 t1 st.1 st.2) (C := fun o => (o = res)) ?_ fuel st o h hc
  clear h hc o st fuel
  intro st o h hc
  obtain ⟨n, t37⟩ := st
  replace h : octet_Get_s1 t1 n t37 = some o := h
  show Leads Try.prog 25 0 (head25_1 t1 n t37) (fun v H _ => Res 0 (rx25 res) v H)
  unfold octet_Get_s1 at h
  refine ev_ok tab_ok hS true 3000 ?_
  conv => whnf
  refine br.h2 h ?_ ?_ ?_
  · rfl
  · clear h; intro hb h; conv => whnf
    all_goals (cases h; cases hc; exact Res.z rfl rfl rfl)
  clear h; intro hb h; conv => whnf
  replace h := oreq.elim h; obtain ⟨hb, h⟩ := h
  first | (refine req.intro hb ?_; conv => whnf) | skip
  replace h := obind.elim h; obtain ⟨e, hy, h⟩ := h
  refine rd.I hy (by first | rfl | (rw [Nat.zero_add, Nat.mul_one]; try rfl; done) | omega) ?_
  conv => whnf
  let t2 : Int := iorI .u64 (wI .u64 (n * 2 ^ 8)) (wI .u64 e)
  cases h; simp only [Sum.elim_inl, head25_1] at hc
  exact lrA0 hc [(0, 0)] rfl
theorem leads25 (hS : SumsOK Try.prog (aget (sums25))) (s : List UInt8) (ata1 : Int) (k : Int) (res : Int × Bool) (h : octet_GetF s ata1 k = some res) :
    Leads Try.prog 25 0 ⟨⟨25, 48, [(0, .string ⟨⟨s⟩⟩), (1, .int .i64 ata1), (2, .int .i64 k)], [.code k25_26], [], false, none⟩, [], [], 0⟩ (fun v H _ => Res 0 (rx25 res) v H) := by
  unfold octet_GetF at h
  refine ev_ok tab_ok hS true 3000 ?_
  conv => whnf
  refine br.h h ?_ ?_ ?_
  · rfl
  · clear h; intro hb h; conv => whnf
    all_goals (cases h; exact Res.z rfl rfl rfl)
  clear h; intro hb h; conv => whnf
  refine br.h h ?_ ?_ ?_
  · rfl
  · clear h; intro hb h; conv => whnf
    all_goals (cases h; exact Res.z rfl rfl rfl)
  clear h; intro hb h; conv => whnf
  refine br.h h ?_ ?_ ?_
  · rfl
  · clear h; intro hb h; conv => whnf
    all_goals (cases h; exact Res.z rfl rfl rfl)
  clear h; intro hb h; conv => whnf
  let t : Bool := decide ((wI .i64 ((s.length : Int) - k)) < ata1)
  refine br.h h ?_ ?_ ?_
  · rfl
  · clear h; intro hb h; conv => whnf
    all_goals (cases h; exact Res.z rfl rfl rfl)
  clear h; intro hb h; conv => whnf
  replace h := oreq.elim h; obtain ⟨hb, h⟩ := h
  first | (refine req.intro hb ?_; conv => whnf) | skip
  let t1 : List UInt8 := (s.drop ata1.toNat).take ((wI .i64 (ata1 + k)).toNat - ata1.toNat)
  refine pk_s2b ?_
  conv => whnf
  have hl := loop25_1 hS _ res _ _ _ h rfl; simp only [head25_1] at hl
  exact lrA0 hl [(0, 0)] rfl
theorem ok25 (hS : SumsOK Try.prog (aget (sums25))) : SumOK Try.prog 25 (s25 (octet_GetF)) := by
  refine SumOK.of_leads tab_ok (fun ar os r ha hr => ?_) ⟨Try.f25, rfl, by decide, rfl⟩
  replace hr : r25 (octet_GetF) ar (conts os) = some r := hr
  unfold r25 at hr
  generalize hc : conts os = C at hr
  replace hr := dV.elim hr; obtain ⟨v0, l1, y0, rfl, e0, hr⟩ := hr; obtain rfl := asS_eq _ _ e0
  replace hr := dV.elim hr; obtain ⟨v1, l2, y1, rfl, e1, hr⟩ := hr; obtain rfl := asI_eq _ _ _ e1
  replace hr := dV.elim hr; obtain ⟨v2, l3, y2, rfl, e2, hr⟩ := hr; obtain rfl := asI_eq _ _ _ e2
  replace hr := dFin hr; obtain ⟨rfl, rfl, x, h, rfl⟩ := hr
  obtain rfl := kinds_nil hc
  exact ⟨_, rfl, leads25 hS _ _ _ x h⟩
def octet_Get : (List UInt8) → Int → Int → Option (Int × Bool) := octet_GetF
theorem lift25 : SumOK Try.prog 25 (s25 octet_Get) := ok25 (SumsOK.of_tab trivial)
def R02_Put_s1 (k : Int) (n1 : Int) (s : List UInt8) (i : Int) : Option (Sum (Int × (List UInt8) × Int) (List UInt8)) :=
  cond (decide (i < k))
    (
    cond (decide (k ≤ 8))
      (
      let t := [UInt8.ofNat (wI .u8 (n1.tmod 256)).toNat]
      oreq (decide (t.length + s.length < 2 ^ 63)) <|
      some (.inl (wI .u64 (n1.tdiv 256), t ++ s, wI .i64 (i + 1))))
      (
      some (.inr (s))))
    (
    some (.inr (s)))
def R02_PutF (n : Int) (k : Int) : Option (List UInt8) :=
  iter (fun st => R02_Put_s1 k st.1 st.2.1 st.2.2) FUEL (n, [], 0)
def rx24 (x : List UInt8) : SRes := ⟨.string ⟨⟨x⟩⟩, [], []⟩
def r24 (g : Int → Int → Option (List UInt8)) : Dec := dV (asI .u64) fun (y0 : Int) => dV (asI .i64) fun (y1 : Int) => dEnd (ofG (g y0 y1) rx24)
theorem r24_c {g : Int → Int → Option (List UInt8)} {y0 : Int} {y1 : Int} {x : List UInt8} (hx : g y0 y1 = some x) : r24 g [.int .u64 y0, .int .i64 y1] [] = some (rx24 x) := (dV_eq (asI_c _)).trans ((dV_eq (asI_c _)).trans (ofG_eq hx))
def s24 (g : Int → Int → Option (List UInt8)) : Summ := ⟨[.v, .v], r24 g⟩
theorem r24_eq {g : Int → Int → Option (List UInt8)} {y0 : Int} {y1 : Int} {x : List UInt8} (hx : g y0 y1 = some x) : (s24 g).run [.int .u64 y0, .int .i64 y1] [] = some (rx24 x) := r24_c hx
abbrev sums24 : List (Nat × Summ) := []
def head24_1 (k : Int) (n1 : Int) (s : List UInt8) (i : Int) : VM :=
  ⟨⟨24, 26, [(0, .int .u64 n1), (1, .int .i64 k), (5, .string ⟨⟨s⟩⟩), (6, .int .i64 i)], [.code k24_12, .inLoop k24_12, .inBlock 0, .code k24_17], [], false, none⟩, [], [], 0⟩
theorem loop24_1 (hS : SumsOK Try.prog (aget (sums24))) (k : Int) (res : List UInt8) : ∀ fuel (st : Int × (List UInt8) × Int) (o : List UInt8), iter (fun st => R02_Put_s1 k st.1 st.2.1 st.2.2) fuel st = some o → (o = res) →
    Leads Try.prog 24 0 (head24_1 k st.1 st.2.1 st.2.2) (fun v H _ => Res 0 (rx24 res) v H) := by
  intro fuel st o h hc
  refine iter_leads (head := fun st => head24_1 k st.1 st.2.1 st.2.2) (C := fun o => (o = res)) ?_ fuel st o h hc
  clear h hc o st fuel
  intro st o h hc
  obtain ⟨n1, s, i⟩ := st
  replace h : R02_Put_s1 k n1 s i = some o := h
  show Leads Try.prog 24 0 (head24_1 k n1 s i) (fun v H _ => Res 0 (rx24 res) v H)
  unfold R02_Put_s1 at h
  refine ev_ok tab_ok hS true 3000 ?_
  conv => whnf
  refine br.h2 h ?_ ?_ ?_
  · rfl
  · clear h; intro hb h; conv => whnf
    all_goals (cases h; cases hc; exact Res.z rfl rfl rfl)
  clear h; intro hb h; conv => whnf
  refine br.h2 h ?_ ?_ ?_
  · rfl
  · clear h; intro hb h; conv => whnf
    all_goals (cases h; cases hc; exact Res.z rfl rfl rfl)
  clear h; intro hb h; conv => whnf
  refine pk_b2sL rfl ?_
  conv => whnf
  let t : List UInt8 := [UInt8.ofNat (wI .u8 (n1.tmod 256)).toNat]
  replace h := oreq.elim h; obtain ⟨hb, h⟩ := h
  first | (refine req.intro hb ?_; conv => whnf) | skip
  cases h; simp only [Sum.elim_inl, head24_1] at hc
  exact lrA0 hc [] rfl
theorem leads24 (hS : SumsOK Try.prog (aget (sums24))) (n : Int) (k : Int) (res : List UInt8) (h : R02_PutF n k = some res) :
    Leads Try.prog 24 0 ⟨⟨24, 26, [(0, .int .u64 n), (1, .int .i64 k)], [.code k24_20], [], false, none⟩, [], [], 0⟩ (fun v H _ => Res 0 (rx24 res) v H) := by
  unfold R02_PutF at h
  refine ev_ok tab_ok hS true 3000 ?_
  conv => whnf
  have hl := loop24_1 hS _ res _ _ _ h rfl; simp only [head24_1] at hl
  exact lrA0 hl [] rfl
theorem ok24 (hS : SumsOK Try.prog (aget (sums24))) : SumOK Try.prog 24 (s24 (R02_PutF)) := by
  refine SumOK.of_leads tab_ok (fun ar os r ha hr => ?_) ⟨Try.f24, rfl, by decide, rfl⟩
  replace hr : r24 (R02_PutF) ar (conts os) = some r := hr
  unfold r24 at hr
  generalize hc : conts os = C at hr
  replace hr := dV.elim hr; obtain ⟨v0, l1, y0, rfl, e0, hr⟩ := hr; obtain rfl := asI_eq _ _ _ e0
  replace hr := dV.elim hr; obtain ⟨v1, l2, y1, rfl, e1, hr⟩ := hr; obtain rfl := asI_eq _ _ _ e1
  replace hr := dFin hr; obtain ⟨rfl, rfl, x, h, rfl⟩ := hr
  obtain rfl := kinds_nil hc
  exact ⟨_, rfl, leads24 hS _ _ x h⟩
def R02_Put : Int → Int → Option (List UInt8) := R02_PutF
theorem lift24 : SumOK Try.prog 24 (s24 R02_Put) := ok24 (SumsOK.of_tab trivial)
def R02_Get_s1 (s : List UInt8) (ata1 : Int) (k : Int) (n : Int) (i : Int) : Option (Sum (Int × Int) (Int × Bool)) :=
  cond (decide (i < k))
    (
    oreq (decide (0 ≤ (wI .i64 (ata1 + i)))) <|
    (s[(wI .i64 (ata1 + i)).toNat]?).bind fun (b : UInt8) =>
    let t1 := wI .u64 ((wI .u64 (n * 256)) + (wI .u64 (b.toNat : Int)))
    some (.inl (t1, wI .i64 (i + 1))))
    (
    some (.inr ((n, true))))
def R02_GetF (s : List UInt8) (ata1 : Int) (k : Int) : Option (Int × Bool) :=
  cond (decide (k < 1))
    (
    some ((0, false)))
    (
    cond (decide (k > 8))
      (
      some ((0, false)))
      (
      cond (decide (ata1 < 0))
        (
        some ((0, false)))
        (
        cond (decide (ata1 > (s.length : Int)))
          (
          some ((0, false)))
          (
          let t := decide (k > (wI .i64 ((s.length : Int) - ata1)))
          cond (t)
            (
            some ((0, false)))
            (
            iter (fun st => R02_Get_s1 s ata1 k st.1 st.2) FUEL (0, 0))))))
def rx23 (x : Int × Bool) : SRes := ⟨.tuple ⟨[.int .u64 x.1, .bool x.2]⟩, [], []⟩
def r23 (g : (List UInt8) → Int → Int → Option (Int × Bool)) : Dec := dV asS fun (y0 : List UInt8) => dV (asI .i64) fun (y1 : Int) => dV (asI .i64) fun (y2 : Int) => dEnd (ofG (g y0 y1 y2) rx23)
theorem r23_c {g : (List UInt8) → Int → Int → Option (Int × Bool)} {y0 : List UInt8} {y1 : Int} {y2 : Int} {x : Int × Bool} (hx : g y0 y1 y2 = some x) : r23 g [.string ⟨⟨y0⟩⟩, .int .i64 y1, .int .i64 y2] [] = some (rx23 x) := (dV_eq (asS_c)).trans ((dV_eq (asI_c _)).trans ((dV_eq (asI_c _)).trans (ofG_eq hx)))
def s23 (g : (List UInt8) → Int → Int → Option (Int × Bool)) : Summ := ⟨[.v, .v, .v], r23 g⟩
theorem r23_eq {g : (List UInt8) → Int → Int → Option (Int × Bool)} {y0 : List UInt8} {y1 : Int} {y2 : Int} {x : Int × Bool} (hx : g y0 y1 y2 = some x) : (s23 g).run [.string ⟨⟨y0⟩⟩, .int .i64 y1, .int .i64 y2] [] = some (rx23 x) := r23_c hx
abbrev sums23 : List (Nat × Summ) := []
def head23_1 (s : List UInt8) (ata1 : Int) (k : Int) (n : Int) (i : Int) : VM :=
  ⟨⟨23, 49, [(0, .string ⟨⟨s⟩⟩), (1, .int .i64 ata1), (2, .int .i64 k), (8, .int .u64 n), (9, .int .i64 i)], [.code k23_15, .inLoop k23_15, .inBlock 0, .code k23_20], [], false, none⟩, [], [], 0⟩
theorem loop23_1 (hS : SumsOK Try.prog (aget (sums23))) (s : List UInt8) (ata1 : Int) (k : Int) (res : Int × Bool) : ∀ fuel (st : Int × Int) (o : Int × Bool), iter (fun st => R02_Get_s1 s ata1 k st.1 st.2) fuel st = some o → (o = res) →
    Leads Try.prog 23 0 (head23_1 s ata1 k st.1 st.2) (fun v H _ => Res 0 (rx23 res) v H) := by
  intro fuel st o h hc
  refine iter_leads (head := fun st => head23_1 s ata1 k st.1 st.2) (C := fun o => (o = res)) ?_ fuel st o h hc
  clear h hc o st fuel
  intro st o h hc
  obtain ⟨n, i⟩ := st
  replace h : R02_Get_s1 s ata1 k n i = some o := h
  show Leads Try.prog 23 0 (head23_1 s ata1 k n i) (fun v H _ => Res 0 (rx23 res) v H)
  unfold R02_Get_s1 at h
  refine ev_ok tab_ok hS true 3000 ?_
  conv => whnf
  refine br.h2 h ?_ ?_ ?_
  · rfl
  · clear h; intro hb h; conv => whnf
    all_goals (cases h; cases hc; exact Res.z rfl rfl rfl)
  clear h; intro hb h; conv => whnf
  replace h := oreq.elim h; obtain ⟨hb, h⟩ := h
  first | (refine req.intro hb ?_; conv => whnf) | skip
  replace h := obind.elim h; obtain ⟨b, hy, h⟩ := h
  refine rdS.intro hy ?_
  conv => whnf
  let t1 : Int := wI .u64 ((wI .u64 (n * 256)) + (wI .u64 (b.toNat : Int)))
  cases h; simp only [Sum.elim_inl, head23_1] at hc
  exact lrA0 hc [] rfl
theorem leads23 (hS : SumsOK Try.prog (aget (sums23))) (s : List UInt8) (ata1 : Int) (k : Int) (res : Int × Bool) (h : R02_GetF s ata1 k = some res) :
    Leads Try.prog 23 0 ⟨⟨23, 49, [(0, .string ⟨⟨s⟩⟩), (1, .int .i64 ata1), (2, .int .i64 k)], [.code k23_24], [], false, none⟩, [], [], 0⟩ (fun v H _ => Res 0 (rx23 res) v H) := by
  unfold R02_GetF at h
  refine ev_ok tab_ok hS true 3000 ?_
  conv => whnf
  refine br.h h ?_ ?_ ?_
  · rfl
  · clear h; intro hb h; conv => whnf
    all_goals (cases h; exact Res.z rfl rfl rfl)
  clear h; intro hb h; conv => whnf
  refine br.h h ?_ ?_ ?_
  · rfl
  · clear h; intro hb h; conv => whnf
    all_goals (cases h; exact Res.z rfl rfl rfl)
  clear h; intro hb h; conv => whnf
  refine br.h h ?_ ?_ ?_
  · rfl
  · clear h; intro hb h; conv => whnf
    all_goals (cases h; exact Res.z rfl rfl rfl)
  clear h; intro hb h; conv => whnf
  refine br.h h ?_ ?_ ?_
  · rfl
  · clear h; intro hb h; conv => whnf
    all_goals (cases h; exact Res.z rfl rfl rfl)
  clear h; intro hb h; conv => whnf
  let t : Bool := decide (k > (wI .i64 ((s.length : Int) - ata1)))
  refine br.h h ?_ ?_ ?_
  · rfl
  · clear h; intro hb h; conv => whnf
    all_goals (cases h; exact Res.z rfl rfl rfl)
  clear h; intro hb h; conv => whnf
  have hl := loop23_1 hS _ _ _ res _ _ _ h rfl; simp only [head23_1] at hl
  exact lrA0 hl [] rfl
theorem ok23 (hS : SumsOK Try.prog (aget (sums23))) : SumOK Try.prog 23 (s23 (R02_GetF)) := by
  refine SumOK.of_leads tab_ok (fun ar os r ha hr => ?_) ⟨Try.f23, rfl, by decide, rfl⟩
  replace hr : r23 (R02_GetF) ar (conts os) = some r := hr
  unfold r23 at hr
  generalize hc : conts os = C at hr
  replace hr := dV.elim hr; obtain ⟨v0, l1, y0, rfl, e0, hr⟩ := hr; obtain rfl := asS_eq _ _ e0
  replace hr := dV.elim hr; obtain ⟨v1, l2, y1, rfl, e1, hr⟩ := hr; obtain rfl := asI_eq _ _ _ e1
  replace hr := dV.elim hr; obtain ⟨v2, l3, y2, rfl, e2, hr⟩ := hr; obtain rfl := asI_eq _ _ _ e2
  replace hr := dFin hr; obtain ⟨rfl, rfl, x, h, rfl⟩ := hr
  obtain rfl := kinds_nil hc
  exact ⟨_, rfl, leads23 hS _ _ _ x h⟩
def R02_Get : (List UInt8) → Int → Int → Option (Int × Bool) := R02_GetF
theorem lift23 : SumOK Try.prog 23 (s23 R02_Get) := ok23 (SumsOK.of_tab trivial)
def R02_MustF (R02_Get : (List UInt8) → Int → Int → Option (Int × Bool)) (s : List UInt8) (ata1 : Int) (k : Int) : Option Int :=
  (R02_Get s ata1 k).bind fun xg =>
  some (wI .i64 xg.1)
def rx45 (x : Int) : SRes := ⟨.int .i64 x, [], []⟩
def r45 (g : (List UInt8) → Int → Int → Option Int) : Dec := dV asS fun (y0 : List UInt8) => dV (asI .i64) fun (y1 : Int) => dV (asI .i64) fun (y2 : Int) => dEnd (ofG (g y0 y1 y2) rx45)
theorem r45_c {g : (List UInt8) → Int → Int → Option Int} {y0 : List UInt8} {y1 : Int} {y2 : Int} {x : Int} (hx : g y0 y1 y2 = some x) : r45 g [.string ⟨⟨y0⟩⟩, .int .i64 y1, .int .i64 y2] [] = some (rx45 x) := (dV_eq (asS_c)).trans ((dV_eq (asI_c _)).trans ((dV_eq (asI_c _)).trans (ofG_eq hx)))
def s45 (g : (List UInt8) → Int → Int → Option Int) : Summ := ⟨[.v, .v, .v], r45 g⟩
theorem r45_eq {g : (List UInt8) → Int → Int → Option Int} {y0 : List UInt8} {y1 : Int} {y2 : Int} {x : Int} (hx : g y0 y1 y2 = some x) : (s45 g).run [.string ⟨⟨y0⟩⟩, .int .i64 y1, .int .i64 y2] [] = some (rx45 x) := r45_c hx
abbrev sums45 (R02_Get : (List UInt8) → Int → Int → Option (Int × Bool)) : List (Nat × Summ) := [(23, s23 R02_Get)]
theorem leads45 (R02_Get : (List UInt8) → Int → Int → Option (Int × Bool)) (hS : SumsOK Try.prog (aget (sums45 R02_Get))) (s : List UInt8) (ata1 : Int) (k : Int) (res : Int) (h : R02_MustF R02_Get s ata1 k = some res) :
    Leads Try.prog 45 0 ⟨⟨45, 18, [(0, .string ⟨⟨s⟩⟩), (1, .int .i64 ata1), (2, .int .i64 k)], [.code k45_5], [], false, none⟩, [], [], 0⟩ (fun v H _ => Res 0 (rx45 res) v H) := by
  unfold R02_MustF at h
  refine ev_ok tab_ok hS true 3000 ?_
  conv => whnf
  replace h := obind.elim h; obtain ⟨xg, hy, h⟩ := h
  refine sumK.q rfl rfl (r23_eq hy) rfl rfl rfl ?_
  conv => whnf
  all_goals (cases h; exact Res.z rfl rfl rfl)
theorem ok45 (R02_Get : (List UInt8) → Int → Int → Option (Int × Bool)) (hS : SumsOK Try.prog (aget (sums45 R02_Get))) : SumOK Try.prog 45 (s45 (R02_MustF R02_Get)) := by
  refine SumOK.of_leads tab_ok (fun ar os r ha hr => ?_) ⟨Try.f45, rfl, by decide, rfl⟩
  replace hr : r45 (R02_MustF R02_Get) ar (conts os) = some r := hr
  unfold r45 at hr
  generalize hc : conts os = C at hr
  replace hr := dV.elim hr; obtain ⟨v0, l1, y0, rfl, e0, hr⟩ := hr; obtain rfl := asS_eq _ _ e0
  replace hr := dV.elim hr; obtain ⟨v1, l2, y1, rfl, e1, hr⟩ := hr; obtain rfl := asI_eq _ _ _ e1
  replace hr := dV.elim hr; obtain ⟨v2, l3, y2, rfl, e2, hr⟩ := hr; obtain rfl := asI_eq _ _ _ e2
  replace hr := dFin hr; obtain ⟨rfl, rfl, x, h, rfl⟩ := hr
  obtain rfl := kinds_nil hc
  exact ⟨_, rfl, leads45 R02_Get hS _ _ _ x h⟩
def R02_Must : (List UInt8) → Int → Int → Option Int := R02_MustF R02_Get
theorem lift45 : SumOK Try.prog 45 (s45 R02_Must) := ok45 R02_Get (SumsOK.of_tab ⟨lift23, trivial⟩)
end Go.Vm.Code
namespace Go.Vm.Code
open Go Go.Vm
def putS (n k : Int) : List UInt8 := if 1 ≤ k ∧ k ≤ 8 then be n.toNat k.toNat else []
theorem octet_Put_eq {n k : Int} (h0 : 0 ≤ n) : octet_Put n k = some (putS n k) := by
  unfold octet_Put octet_PutF putS
  by_cases h1 : k < 1
  · rw [cond_p h1, if_neg (by omega)]
  by_cases h2 : k > 8
  · rw [cond_n h1, cond_p h2, if_neg (by omega)]
  rw [cond_n h1, cond_n h2, oreq_p (by omega), if_pos (by omega)]
  obtain ⟨m, rfl⟩ := Int.eq_ofNat_of_zero_le h0
  obtain ⟨j, rfl⟩ := Int.eq_ofNat_of_zero_le (show 0 ≤ k by omega)
  have key := iter_eq (step := fun (st : Int × List Int) => octet_Put_s1 (m : Int) (j : Int) st.1 st.2) (fun st => iB (st.2.take st.1.toNat) ++ be m (j - st.1.toNat)) (fun st => 0 ≤ st.1 ∧ st.1 ≤ j ∧ st.2.length = j) (fun st => (j - st.1).toNat) ?_ FUEL (0, List.replicate (j : Int).toNat 0) ⟨by simp, by simp, by simp⟩ (by rw [FUEL_eq]; simp only; omega)
  · rw [key]; simp [iB]
  rintro ⟨p, b⟩ ⟨g1, g2, g3⟩
  simp only at g1 g2 g3 ⊢
  obtain ⟨i, rfl⟩ := Int.eq_ofNat_of_zero_le g1
  unfold octet_Put_s1
  by_cases hp : i < j
  · refine .inr ⟨(((i + 1 : Nat) : Int), b.set i ((m / 256 ^ (j - 1 - i) % 256 : Nat) : Int)), ?_, ⟨by simp only; omega, by simp only; omega, by simp [g3]⟩, by simp only; omega, ?_⟩
    · simp (disch := omega) only [wI64, oreq_p, cond_p, Int.toNat_natCast]
      have e1 : min (8 * ((j : Int) - 1 - i)).toNat 64 = 8 * (j - 1 - i) := by omega
      have e0 : (2 : Int) ^ (8 * (j - 1 - i)) = ((256 ^ (j - 1 - i) : Nat) : Int) := by rw [show (256 : Nat) = 2 ^ 8 from rfl, ← Nat.pow_mul]; push_cast; rfl
      rw [e1, fdivP, wU8m, e0]
      rfl
    · simp only [Int.toNat_natCast]
      have e2 : j - i = (j - (i + 1)) + 1 := by omega
      have e3 : j - (i + 1) = j - 1 - i := by omega
      have e4 : (b.set i ((m / 256 ^ (j - 1 - i) % 256 : Nat) : Int)).take (i + 1) = b.take i ++ [((m / 256 ^ (j - 1 - i) % 256 : Nat) : Int)] := by
        rw [List.take_succ_eq_append_getElem (by simp; omega), List.take_set_of_le (Nat.le_refl _), List.getElem_set_self]
      rw [e2, e4, be, e3]
      simp only [iB, List.map_append, List.map_cons, List.map_nil, List.append_assoc, List.cons_append, List.nil_append, Int.toNat_natCast]
      congr 2
      apply UInt8.toNat_inj.1
      simp
  · refine .inl ?_
    obtain rfl : i = j := by omega
    simp (disch := omega) only [cond_n, oreq_p, Int.toNat_natCast]
    simp [be]
theorem R02_Put_eq {n k : Int} (h0 : 0 ≤ n) (h1 : n < 2 ^ 64) : R02_Put n k = some (putS n k) := by
  unfold R02_Put R02_PutF putS
  obtain ⟨m, rfl⟩ := Int.eq_ofNat_of_zero_le h0
  by_cases hk : 1 ≤ k ∧ k ≤ 8
  · rw [if_pos hk]
    obtain ⟨j, rfl⟩ := Int.eq_ofNat_of_zero_le (show 0 ≤ k by omega)
    have key := iter_eq (step := fun st => R02_Put_s1 (j : Int) st.1 st.2.1 st.2.2) (fun st => be st.1.toNat (j - st.2.2.toNat) ++ st.2.1) (fun st => 0 ≤ st.1 ∧ st.1 < 2 ^ 64 ∧ 0 ≤ st.2.2 ∧ st.2.2 ≤ j ∧ st.2.1.length < 2 ^ 20 + st.2.2.toNat) (fun st => (j - st.2.2).toNat) ?_ FUEL ((m : Int), [], 0) ⟨by simp, by simp only; omega, by simp, by simp, by simp⟩ (by rw [FUEL_eq]; simp only; omega)
    · rw [key]; simp
    rintro ⟨n, s, p⟩ ⟨g1, g2, g3, g4, g5⟩
    simp only at g1 g2 g3 g4 g5 ⊢
    obtain ⟨i, rfl⟩ := Int.eq_ofNat_of_zero_le g3
    obtain ⟨x, rfl⟩ := Int.eq_ofNat_of_zero_le g1
    unfold R02_Put_s1
    by_cases hp : i < j
    · refine .inr ⟨(((x / 256 : Nat) : Int), UInt8.ofNat x :: s, ((i + 1 : Nat) : Int)), ?_, ⟨by simp only; omega, by simp only; omega, by simp only; omega, by simp only; omega, by simp at g5 ⊢; omega⟩, by simp only; omega, ?_⟩
      · have e1 : (x : Int).tmod 256 = ((x % 256 : Nat) : Int) := by rw [Int.tmod_eq_emod_of_nonneg (by omega)]; rfl
        have e2 : (x : Int).tdiv 256 = ((x / 256 : Nat) : Int) := by rw [Int.tdiv_eq_ediv_of_nonneg (by omega)]; rfl
        rw [cond_p (by omega), cond_p (by omega), e1, e2, wU8 (by omega) (by omega)]
        simp only [List.length_cons, List.length_nil]
        rw [oreq_p (by omega), wU64 (by omega) (by omega), wI64 (by omega) (by omega), Int.toNat_natCast]
        have e3 : UInt8.ofNat (x % 256) = UInt8.ofNat x := by apply UInt8.toNat_inj.1; simp
        rw [e3]; rfl
      · simp only [Int.toNat_natCast]
        have e2 : j - i = (j - (i + 1)) + 1 := by omega
        rw [e2, be_snoc]; simp
    · refine .inl ?_
      obtain rfl : i = j := by omega
      rw [cond_n (by omega)]
      simp [be]
  · rw [if_neg hk]
    show iter _ (18446744073709551615 + 1) _ = _
    rw [iter]
    have : R02_Put_s1 k (m : Int) [] 0 = some (.inr []) := by
      unfold R02_Put_s1
      by_cases h2 : 0 < k
      · rw [cond_p h2, cond_n (by omega)]
      · rw [cond_n h2]
    simp only [this]
def getS (s : List UInt8) (p k : Int) : Int × Bool := if 1 ≤ k ∧ k ≤ 8 ∧ 0 ≤ p ∧ p + k ≤ s.length then (((valL ((s.drop p.toNat).take k.toNat) : Nat) : Int), true) else (0, false)
theorem pow_step {v i : Nat} (h : v < 256 ^ i) (hi : i ≤ 7) : v < 2 ^ 56 := Nat.lt_of_lt_of_le h (by
  have : (256 : Nat) ^ i ≤ 256 ^ 7 := Nat.pow_le_pow_right (by decide) hi
  simpa using this)
theorem octet_Get_eq {s : List UInt8} {p k : Int} (hs : s.length < 2 ^ 61) : octet_Get s p k = some (getS s p k) := by
  unfold octet_Get octet_GetF getS
  by_cases h1 : k < 1
  · rw [cond_p h1, if_neg (by omega)]
  by_cases h2 : k > 8
  · rw [cond_n h1, cond_p h2, if_neg (by omega)]
  by_cases h3 : p < 0
  · rw [cond_n h1, cond_n h2, cond_p h3, if_neg (by omega)]
  rw [cond_n h1, cond_n h2, cond_n h3, wI64 (n := (s.length : Int) - k) (by omega) (by omega)]
  by_cases h4 : (s.length : Int) - k < p
  · simp only []
    rw [cond_p h4, if_neg (by omega)]
  simp only []
  rw [cond_n h4, wI64 (n := p + k) (by omega) (by omega), oreq_p (by omega), if_pos (by omega)]
  obtain ⟨q, rfl⟩ := Int.eq_ofNat_of_zero_le (show 0 ≤ p by omega)
  obtain ⟨j, rfl⟩ := Int.eq_ofNat_of_zero_le (show 0 ≤ k by omega)
  have e : ((q : Int) + j).toNat - (q : Int).toNat = j := by omega
  rw [e]
  simp only [Int.toNat_natCast]
  generalize ht : (s.drop q).take j = t
  have hl : t.length = j := by rw [← ht]; simp; omega
  have key := iter_eq (step := fun st => octet_Get_s1 t st.1 st.2) (fun st => (((st.1.toNat * 256 ^ (j - st.2.toNat) + valL (t.drop st.2.toNat) : Nat) : Int), true)) (fun st => 0 ≤ st.1 ∧ 0 ≤ st.2 ∧ st.2 ≤ j ∧ st.1.toNat < 256 ^ st.2.toNat) (fun st => (j - st.2).toNat) ?_ FUEL (0, 0) ⟨by simp, by simp, by simp, by simp⟩ (by rw [FUEL_eq]; simp only; omega)
  · rw [key]; simp
  rintro ⟨n, x⟩ ⟨g1, g2, g3, g4⟩
  simp only at g1 g2 g3 g4 ⊢
  obtain ⟨i, rfl⟩ := Int.eq_ofNat_of_zero_le g2
  obtain ⟨v, rfl⟩ := Int.eq_ofNat_of_zero_le g1
  simp only [Int.toNat_natCast] at g4 ⊢
  unfold octet_Get_s1
  by_cases hp : i < j
  · have hlt : i < t.length := by omega
    have hb := t[i].toNat_lt
    have hv := pow_step g4 (by omega)
    refine .inr ⟨(((v * 256 + t[i].toNat : Nat) : Int), ((i + 1 : Nat) : Int)), ?_, ⟨by simp only; omega, by simp only; omega, by simp only; omega, ?_⟩, by simp only; omega, ?_⟩
    · rw [cond_p (by omega), oreq_p (by omega)]
      have e1 : (bI t)[(i : Int).toNat]? = some (t[i].toNat : Int) := by simp [bI, hlt]
      rw [e1, Option.bind_some]
      have e2 : iorI .u64 (wI .u64 ((v : Int) * 2 ^ 8)) (wI .u64 (t[i].toNat : Int)) = ((v * 256 + t[i].toNat : Nat) : Int) := by
        rw [wU64 (by omega) (by omega), wU64 (by omega) (by omega), iorU64_low 8 (by omega) (by omega) (by omega) (by omega) (by omega)]; omega
      simp only [e2]
      rw [wI64 (by omega) (by omega)]; rfl
    · simp only [Int.toNat_natCast]
      rw [Nat.pow_succ]; omega
    · simp only [Int.toNat_natCast]
      rw [List.drop_eq_getElem_cons hlt, val_cons]
      have e3 : (t.drop (i + 1)).length = j - (i + 1) := by simp; omega
      have e4 : j - i = (j - (i + 1)) + 1 := by omega
      rw [e3, e4, Nat.pow_succ, Nat.add_mul, Nat.mul_assoc, Nat.mul_comm 256, Nat.add_assoc]
  · refine .inl ?_
    obtain rfl : i = j := by omega
    rw [cond_n (by omega)]
    simp [← hl]
theorem R02_Get_eq {s : List UInt8} {p k : Int} (hs : s.length < 2 ^ 61) : R02_Get s p k = some (getS s p k) := by
  unfold R02_Get R02_GetF getS
  by_cases h1 : k < 1
  · rw [cond_p h1, if_neg (by omega)]
  by_cases h2 : k > 8
  · rw [cond_n h1, cond_p h2, if_neg (by omega)]
  by_cases h3 : p < 0
  · rw [cond_n h1, cond_n h2, cond_p h3, if_neg (by omega)]
  by_cases h5 : p > s.length
  · rw [cond_n h1, cond_n h2, cond_n h3, cond_p h5, if_neg (by omega)]
  rw [cond_n h1, cond_n h2, cond_n h3, cond_n h5, wI64 (n := (s.length : Int) - p) (by omega) (by omega)]
  by_cases h4 : k > (s.length : Int) - p
  · simp only []
    rw [cond_p h4, if_neg (by omega)]
  simp only []
  rw [cond_n h4, if_pos (by omega)]
  obtain ⟨q, rfl⟩ := Int.eq_ofNat_of_zero_le (show 0 ≤ p by omega)
  obtain ⟨j, rfl⟩ := Int.eq_ofNat_of_zero_le (show 0 ≤ k by omega)
  simp only [Int.toNat_natCast]
  generalize ht : (s.drop q).take j = t
  have hl : t.length = j := by rw [← ht]; simp; omega
  have key := iter_eq (step := fun st => R02_Get_s1 s (q : Int) (j : Int) st.1 st.2) (fun st => (((st.1.toNat * 256 ^ (j - st.2.toNat) + valL (t.drop st.2.toNat) : Nat) : Int), true)) (fun st => 0 ≤ st.1 ∧ 0 ≤ st.2 ∧ st.2 ≤ j ∧ st.1.toNat < 256 ^ st.2.toNat) (fun st => (j - st.2).toNat) ?_ FUEL (0, 0) ⟨by simp, by simp, by simp, by simp⟩ (by rw [FUEL_eq]; simp only; omega)
  · rw [key]; simp
  rintro ⟨n, x⟩ ⟨g1, g2, g3, g4⟩
  simp only at g1 g2 g3 g4 ⊢
  obtain ⟨i, rfl⟩ := Int.eq_ofNat_of_zero_le g2
  obtain ⟨v, rfl⟩ := Int.eq_ofNat_of_zero_le g1
  simp only [Int.toNat_natCast] at g4 ⊢
  unfold R02_Get_s1
  by_cases hp : i < j
  · have hlt : i < t.length := by omega
    have hb := t[i].toNat_lt
    have hv := pow_step g4 (by omega)
    refine .inr ⟨(((v * 256 + t[i].toNat : Nat) : Int), ((i + 1 : Nat) : Int)), ?_, ⟨by simp only; omega, by simp only; omega, by simp only; omega, ?_⟩, by simp only; omega, ?_⟩
    · rw [cond_p (by omega), wI64 (n := (q : Int) + i) (by omega) (by omega), oreq_p (by omega)]
      have e0 : ((q : Int) + i).toNat = q + i := by omega
      have e1 : s[q + i]? = some t[i] := by
        subst ht
        rw [List.getElem?_eq_getElem (by omega)]
        simp
      rw [e0, e1, Option.bind_some]
      have e2 : wI .u64 ((wI .u64 ((v : Int) * 256)) + (wI .u64 (t[i].toNat : Int))) = ((v * 256 + t[i].toNat : Nat) : Int) := by
        rw [wU64 (n := (v : Int) * 256) (by omega) (by omega), wU64 (n := (t[i].toNat : Int)) (by omega) (by omega), wU64 (by omega) (by omega)]; omega
      simp only [e2]
      rw [wI64 (by omega) (by omega)]; rfl
    · simp only [Int.toNat_natCast]
      rw [Nat.pow_succ]; omega
    · simp only [Int.toNat_natCast]
      rw [List.drop_eq_getElem_cons hlt, val_cons]
      have e3 : (t.drop (i + 1)).length = j - (i + 1) := by simp; omega
      have e4 : j - i = (j - (i + 1)) + 1 := by omega
      rw [e3, e4, Nat.pow_succ, Nat.add_mul, Nat.mul_assoc, Nat.mul_comm 256, Nat.add_assoc]
  · refine .inl ?_
    obtain rfl : i = j := by omega
    rw [cond_n (by omega)]
    simp [← hl]
theorem R02_Must_eq {s : List UInt8} {p k : Int} (hs : s.length < 2 ^ 61) : R02_Must s p k = some (wI .i64 (getS s p k).1) := by
  unfold R02_Must R02_MustF
  rw [R02_Get_eq hs]; rfl
end Go.Vm.Code
namespace Go.Vm.Code
open Go Go.Vm Go.Proofs
set_option maxRecDepth 100000
set_option maxHeartbeats 4000000
set_option linter.unusedVariables false
def check_SetF (octet_Put : Int → Int → Option (List UInt8)) (s : List UInt8) (ata1 : Int) (k : Int) (n : Int) : Option (List UInt8) :=
  (octet_Put n k).bind fun p =>
  cond (p == [])
    (
    some (s))
    (
    cond (decide (ata1 < 0))
      (
      some (s))
      (
      let t := decide ((wI .i64 ((s.length : Int) - k)) < ata1)
      cond (t)
        (
        some (s))
        (
        oreq (decide ((0 : Int) ≤ ata1 ∧ ata1 ≤ (s.length : Int))) <|
        oreq (decide ((s.take ata1.toNat).length + p.length < 2 ^ 63)) <|
        oreq (decide ((0 : Int) ≤ (wI .i64 (ata1 + k)) ∧ (wI .i64 (ata1 + k)) ≤ (s.length : Int))) <|
        let t1 := (s.drop (wI .i64 (ata1 + k)).toNat).take (s.length - (wI .i64 (ata1 + k)).toNat)
        oreq (decide (((s.take ata1.toNat) ++ p).length + t1.length < 2 ^ 63)) <|
        some (((s.take ata1.toNat) ++ p) ++ t1))))
def rx28 (x : List UInt8) : SRes := ⟨.string ⟨⟨x⟩⟩, [], []⟩
def r28 (g : (List UInt8) → Int → Int → Int → Option (List UInt8)) : Dec := dV asS fun (y0 : List UInt8) => dV (asI .i64) fun (y1 : Int) => dV (asI .i64) fun (y2 : Int) => dV (asI .u64) fun (y3 : Int) => dEnd (ofG (g y0 y1 y2 y3) rx28)
theorem r28_c {g : (List UInt8) → Int → Int → Int → Option (List UInt8)} {y0 : List UInt8} {y1 : Int} {y2 : Int} {y3 : Int} {x : List UInt8} (hx : g y0 y1 y2 y3 = some x) : r28 g [.string ⟨⟨y0⟩⟩, .int .i64 y1, .int .i64 y2, .int .u64 y3] [] = some (rx28 x) := (dV_eq (asS_c)).trans ((dV_eq (asI_c _)).trans ((dV_eq (asI_c _)).trans ((dV_eq (asI_c _)).trans (ofG_eq hx))))
def s28 (g : (List UInt8) → Int → Int → Int → Option (List UInt8)) : Summ := ⟨[.v, .v, .v, .v], r28 g⟩
theorem r28_eq {g : (List UInt8) → Int → Int → Int → Option (List UInt8)} {y0 : List UInt8} {y1 : Int} {y2 : Int} {y3 : Int} {x : List UInt8} (hx : g y0 y1 y2 y3 = some x) : (s28 g).run [.string ⟨⟨y0⟩⟩, .int .i64 y1, .int .i64 y2, .int .u64 y3] [] = some (rx28 x) := r28_c hx
abbrev sums28 (octet_Put : Int → Int → Option (List UInt8)) : List (Nat × Summ) := [(44, s44 octet_Put)]
theorem leads28 (octet_Put : Int → Int → Option (List UInt8)) (hS : SumsOK Try.prog (aget (sums28 octet_Put))) (s : List UInt8) (ata1 : Int) (k : Int) (n : Int) (res : List UInt8) (h : check_SetF octet_Put s ata1 k n = some res) :
    Leads Try.prog 28 0 ⟨⟨28, 39, [(0, .string ⟨⟨s⟩⟩), (1, .int .i64 ata1), (2, .int .i64 k), (3, .int .u64 n)], [.code k28_11], [], false, none⟩, [], [], 0⟩ (fun v H _ => Res 0 (rx28 res) v H) := by
  unfold check_SetF at h
  refine ev_ok tab_ok hS true 3000 ?_
  conv => whnf
  replace h := obind.elim h; obtain ⟨p, hy, h⟩ := h
  refine sumK.q rfl rfl (r44_eq hy) rfl rfl rfl ?_
  conv => whnf
  refine br.h h ?_ ?_ ?_
  · rfl
  · clear h; intro hb h; conv => whnf
    all_goals (cases h; exact Res.z rfl rfl rfl)
  clear h; intro hb h; conv => whnf
  refine br.h h ?_ ?_ ?_
  · rfl
  · clear h; intro hb h; conv => whnf
    all_goals (cases h; exact Res.z rfl rfl rfl)
  clear h; intro hb h; conv => whnf
  let t : Bool := decide ((wI .i64 ((s.length : Int) - k)) < ata1)
  refine br.h h ?_ ?_ ?_
  · rfl
  · clear h; intro hb h; conv => whnf
    all_goals (cases h; exact Res.z rfl rfl rfl)
  clear h; intro hb h; conv => whnf
  replace h := oreq.elim h; obtain ⟨hb, h⟩ := h
  first | (refine req.intro hb ?_; conv => whnf) | skip
  replace h := oreq.elim h; obtain ⟨hb, h⟩ := h
  first | (refine req.intro hb ?_; conv => whnf) | skip
  replace h := oreq.elim h; obtain ⟨hb, h⟩ := h
  first | (refine req.intro hb ?_; conv => whnf) | skip
  let t1 : List UInt8 := (s.drop (wI .i64 (ata1 + k)).toNat).take (s.length - (wI .i64 (ata1 + k)).toNat)
  replace h := oreq.elim h; obtain ⟨hb, h⟩ := h
  first | (refine req.intro hb ?_; conv => whnf) | skip
  all_goals (cases h; exact Res.z rfl rfl rfl)
theorem ok28 (octet_Put : Int → Int → Option (List UInt8)) (hS : SumsOK Try.prog (aget (sums28 octet_Put))) : SumOK Try.prog 28 (s28 (check_SetF octet_Put)) := by
  refine SumOK.of_leads tab_ok (fun ar os r ha hr => ?_) ⟨Try.f28, rfl, by decide, rfl⟩
  replace hr : r28 (check_SetF octet_Put) ar (conts os) = some r := hr
  unfold r28 at hr
  generalize hc : conts os = C at hr
  replace hr := dV.elim hr; obtain ⟨v0, l1, y0, rfl, e0, hr⟩ := hr; obtain rfl := asS_eq _ _ e0
  replace hr := dV.elim hr; obtain ⟨v1, l2, y1, rfl, e1, hr⟩ := hr; obtain rfl := asI_eq _ _ _ e1
  replace hr := dV.elim hr; obtain ⟨v2, l3, y2, rfl, e2, hr⟩ := hr; obtain rfl := asI_eq _ _ _ e2
  replace hr := dV.elim hr; obtain ⟨v3, l4, y3, rfl, e3, hr⟩ := hr; obtain rfl := asI_eq _ _ _ e3
  replace hr := dFin hr; obtain ⟨rfl, rfl, x, h, rfl⟩ := hr
  obtain rfl := kinds_nil hc
  exact ⟨_, rfl, leads28 octet_Put hS _ _ _ _ x h⟩
def check_Set : (List UInt8) → Int → Int → Int → Option (List UInt8) := check_SetF octet_Put
theorem lift28 : SumOK Try.prog 28 (s28 check_Set) := ok28 octet_Put (SumsOK.of_tab ⟨lift44, trivial⟩)
def R03_SetF (R02_Get : (List UInt8) → Int → Int → Option (Int × Bool)) (R02_Put : Int → Int → Option (List UInt8)) (s : List UInt8) (ata1 : Int) (k : Int) (n : Int) : Option (List UInt8) :=
  (R02_Get s ata1 k).bind fun xg =>
  cond (!xg.2)
    (
    some (s))
    (
    oreq (decide ((0 : Int) ≤ ata1 ∧ ata1 ≤ (s.length : Int))) <|
    (R02_Put n k).bind fun p =>
    oreq (decide ((s.take ata1.toNat).length + p.length < 2 ^ 63)) <|
    oreq (decide ((0 : Int) ≤ (wI .i64 (ata1 + k)) ∧ (wI .i64 (ata1 + k)) ≤ (s.length : Int))) <|
    let t := (s.drop (wI .i64 (ata1 + k)).toNat).take (s.length - (wI .i64 (ata1 + k)).toNat)
    oreq (decide (((s.take ata1.toNat) ++ p).length + t.length < 2 ^ 63)) <|
    some (((s.take ata1.toNat) ++ p) ++ t))
def rx9 (x : List UInt8) : SRes := ⟨.string ⟨⟨x⟩⟩, [], []⟩
def r9 (g : (List UInt8) → Int → Int → Int → Option (List UInt8)) : Dec := dV asS fun (y0 : List UInt8) => dV (asI .i64) fun (y1 : Int) => dV (asI .i64) fun (y2 : Int) => dV (asI .u64) fun (y3 : Int) => dEnd (ofG (g y0 y1 y2 y3) rx9)
theorem r9_c {g : (List UInt8) → Int → Int → Int → Option (List UInt8)} {y0 : List UInt8} {y1 : Int} {y2 : Int} {y3 : Int} {x : List UInt8} (hx : g y0 y1 y2 y3 = some x) : r9 g [.string ⟨⟨y0⟩⟩, .int .i64 y1, .int .i64 y2, .int .u64 y3] [] = some (rx9 x) := (dV_eq (asS_c)).trans ((dV_eq (asI_c _)).trans ((dV_eq (asI_c _)).trans ((dV_eq (asI_c _)).trans (ofG_eq hx))))
def s9 (g : (List UInt8) → Int → Int → Int → Option (List UInt8)) : Summ := ⟨[.v, .v, .v, .v], r9 g⟩
theorem r9_eq {g : (List UInt8) → Int → Int → Int → Option (List UInt8)} {y0 : List UInt8} {y1 : Int} {y2 : Int} {y3 : Int} {x : List UInt8} (hx : g y0 y1 y2 y3 = some x) : (s9 g).run [.string ⟨⟨y0⟩⟩, .int .i64 y1, .int .i64 y2, .int .u64 y3] [] = some (rx9 x) := r9_c hx
abbrev sums9 (R02_Get : (List UInt8) → Int → Int → Option (Int × Bool)) (R02_Put : Int → Int → Option (List UInt8)) : List (Nat × Summ) := [(23, s23 R02_Get), (24, s24 R02_Put)]
theorem leads9 (R02_Get : (List UInt8) → Int → Int → Option (Int × Bool)) (R02_Put : Int → Int → Option (List UInt8)) (hS : SumsOK Try.prog (aget (sums9 R02_Get R02_Put))) (s : List UInt8) (ata1 : Int) (k : Int) (n : Int) (res : List UInt8) (h : R03_SetF R02_Get R02_Put s ata1 k n = some res) :
    Leads Try.prog 9 0 ⟨⟨9, 34, [(0, .string ⟨⟨s⟩⟩), (1, .int .i64 ata1), (2, .int .i64 k), (3, .int .u64 n)], [.code k9_11], [], false, none⟩, [], [], 0⟩ (fun v H _ => Res 0 (rx9 res) v H) := by
  unfold R03_SetF at h
  refine ev_ok tab_ok hS true 3000 ?_
  conv => whnf
  replace h := obind.elim h; obtain ⟨xg, hy, h⟩ := h
  refine sumK.q rfl rfl (r23_eq hy) rfl rfl rfl ?_
  conv => whnf
  refine br.h h ?_ ?_ ?_
  · rfl
  · clear h; intro hb h; conv => whnf
    all_goals (cases h; exact Res.z rfl rfl rfl)
  clear h; intro hb h; conv => whnf
  replace h := oreq.elim h; obtain ⟨hb, h⟩ := h
  first | (refine req.intro hb ?_; conv => whnf) | skip
  replace h := obind.elim h; obtain ⟨p, hy, h⟩ := h
  refine sumK.q rfl rfl (r24_eq hy) rfl rfl rfl ?_
  conv => whnf
  replace h := oreq.elim h; obtain ⟨hb, h⟩ := h
  first | (refine req.intro hb ?_; conv => whnf) | skip
  replace h := oreq.elim h; obtain ⟨hb, h⟩ := h
  first | (refine req.intro hb ?_; conv => whnf) | skip
  let t : List UInt8 := (s.drop (wI .i64 (ata1 + k)).toNat).take (s.length - (wI .i64 (ata1 + k)).toNat)
  replace h := oreq.elim h; obtain ⟨hb, h⟩ := h
  first | (refine req.intro hb ?_; conv => whnf) | skip
  all_goals (cases h; exact Res.z rfl rfl rfl)
theorem ok9 (R02_Get : (List UInt8) → Int → Int → Option (Int × Bool)) (R02_Put : Int → Int → Option (List UInt8)) (hS : SumsOK Try.prog (aget (sums9 R02_Get R02_Put))) : SumOK Try.prog 9 (s9 (R03_SetF R02_Get R02_Put)) := by
  refine SumOK.of_leads tab_ok (fun ar os r ha hr => ?_) ⟨Try.f9, rfl, by decide, rfl⟩
  replace hr : r9 (R03_SetF R02_Get R02_Put) ar (conts os) = some r := hr
  unfold r9 at hr
  generalize hc : conts os = C at hr
  replace hr := dV.elim hr; obtain ⟨v0, l1, y0, rfl, e0, hr⟩ := hr; obtain rfl := asS_eq _ _ e0
  replace hr := dV.elim hr; obtain ⟨v1, l2, y1, rfl, e1, hr⟩ := hr; obtain rfl := asI_eq _ _ _ e1
  replace hr := dV.elim hr; obtain ⟨v2, l3, y2, rfl, e2, hr⟩ := hr; obtain rfl := asI_eq _ _ _ e2
  replace hr := dV.elim hr; obtain ⟨v3, l4, y3, rfl, e3, hr⟩ := hr; obtain rfl := asI_eq _ _ _ e3
  replace hr := dFin hr; obtain ⟨rfl, rfl, x, h, rfl⟩ := hr
  obtain rfl := kinds_nil hc
  exact ⟨_, rfl, leads9 R02_Get R02_Put hS _ _ _ _ x h⟩
def R03_Set : (List UInt8) → Int → Int → Int → Option (List UInt8) := R03_SetF R02_Get R02_Put
theorem lift9 : SumOK Try.prog 9 (s9 R03_Set) := ok9 R02_Get R02_Put (SumsOK.of_tab ⟨lift23, lift24, trivial⟩)
def R03_Add_s1 (l : List Int) (n1 : Int) : Option (Sum Int Int) :=
  cond (decide (n1 > 65535))
    (
    let t := wI .i64 ((n1.tmod 65536) + (wI .i64 (n1.tdiv 65536)))
    some (.inl t))
    (
    some (.inr (n1)))
def R03_Add_s2 (l : List Int) (n : Int) (i : Int) : Option (Sum (Int × Int) Int) :=
  cond (decide (i < (l.length : Int)))
    (
    oreq (decide ((0 : Int) ≤ i ∧ i < (l.length : Int))) <|
    (l[i.toNat]?).bind fun (e : Int) =>
    some (.inl (wI .i64 (n + e), wI .i64 (i + 1))))
    (
    (iter (fun st => R03_Add_s1 l st) FUEL n).bind fun o => some (.inr (o)))
def R03_AddF (l : List Int) : Option Int :=
  iter (fun st => R03_Add_s2 l st.1 st.2) FUEL (0, 0)
def rx29 (x : Int) : SRes := ⟨.int .i64 x, [], [none]⟩
def r29 (g : (List Int) → Option Int) : Dec := dSl 0 1 (unL (asI .i64)) fun (y0 : List Int) => dEnd (ofG (g y0) rx29)
theorem r29_c {g : (List Int) → Option Int} {y0 : List Int} {x : Int} (hx : g y0 = some x) : r29 g [.slice (some ⟨0, 0, none⟩) y0.length 1] [some (vI .i64 y0)] = some (rx29 x) := (dSl_eq (unI_vI _ _)).trans (ofG_eq hx)
def s29 (g : (List Int) → Option Int) : Summ := ⟨[.sl 1], r29 g⟩
theorem r29_eq {g : (List Int) → Option Int} {y0 : List Int} {x : Int} (hx : g y0 = some x) : (s29 g).run [.slice (some ⟨0, 0, none⟩) y0.length 1] [some (vI .i64 y0)] = some (rx29 x) := r29_c hx
abbrev sums29 : List (Nat × Summ) := []
def head29_1 (l : List Int) (n1 : Int) : VM :=
  ⟨⟨29, 25, [(3, .int .i64 n1)], [.code k29_19, .inLoop k29_19, .inBlock 2, .code k29_23], [], false, none⟩, [], [(0, .row false (vI .i64 l))], 1⟩
def head29_2 (l : List Int) (n : Int) (i : Int) : VM :=
  ⟨⟨29, 25, [(0, .slice (some ⟨0, 0, none⟩) l.length 1), (3, .int .i64 n), (4, .int .i64 i)], [.code k29_10, .inLoop k29_10, .inBlock 0, .code k29_24], [], false, none⟩, [], [(0, .row false (vI .i64 l))], 1⟩
theorem loop29_1 (hS : SumsOK Try.prog (aget (sums29))) (l : List Int) (res : Int) : ∀ fuel (st : Int) (o : Int), iter (fun st => R03_Add_s1 l st) fuel st = some o → (o = res) →
    Leads Try.prog 29 1 (head29_1 l st) (fun v H _ => Res 1 (rx29 res) v H) := by
  intro fuel st o h hc
  refine iter_leads (head := fun st => head29_1 l st) (C := fun o => (o = res)) ?_ fuel st o h hc
  clear h hc o st fuel
  intro n1 o h hc
  replace h : R03_Add_s1 l n1 = some o := h
  show Leads Try.prog 29 1 (head29_1 l n1) (fun v H _ => Res 1 (rx29 res) v H)
  unfold R03_Add_s1 at h
  refine ev_ok tab_ok hS true 3000 ?_
  conv => whnf
  refine br.h2 h ?_ ?_ ?_
  · rfl
  · clear h; intro hb h; conv => whnf
    all_goals (cases h; cases hc)
    all_goals exact Res.of [] rfl nw_0 (by decide) js_0 (wr_n wr_0)
  clear h; intro hb h; conv => whnf
  let t : Int := wI .i64 ((n1.tmod 65536) + (wI .i64 (n1.tdiv 65536)))
  cases h; simp only [Sum.elim_inl, head29_1] at hc
  exact lrA0 hc [(0, 0)] rfl
theorem loop29_2 (hS : SumsOK Try.prog (aget (sums29))) (l : List Int) (res : Int) : ∀ fuel (st : Int × Int) (o : Int), iter (fun st => R03_Add_s2 l st.1 st.2) fuel st = some o → (o = res) →
    Leads Try.prog 29 1 (head29_2 l st.1 st.2) (fun v H _ => Res 1 (rx29 res) v H) := by
  intro fuel st o h hc
  refine iter_leads (head := fun st => head29_2 l st.1 st.2) (C := fun o => (o = res)) ?_ fuel st o h hc
  clear h hc o st fuel
  intro st o h hc
  obtain ⟨n, i⟩ := st
  replace h : R03_Add_s2 l n i = some o := h
  show Leads Try.prog 29 1 (head29_2 l n i) (fun v H _ => Res 1 (rx29 res) v H)
  unfold R03_Add_s2 at h
  refine ev_ok tab_ok hS true 3000 ?_
  conv => whnf
  refine br.h2 h ?_ ?_ ?_
  · rfl
  · clear h; intro hb h; conv => whnf
    obtain ⟨y, hy, h2⟩ := obind.elim h; cases h2
    have hl := loop29_1 hS _ res _ _ _ hy hc; simp only [head29_1] at hl
    exact lrA0 hl [(0, 0)] rfl
  clear h; intro hb h; conv => whnf
  replace h := oreq.elim h; obtain ⟨hb, h⟩ := h
  first | (refine req.intro hb ?_; conv => whnf) | skip
  replace h := obind.elim h; obtain ⟨e, hy, h⟩ := h
  refine rd.I hy (by first | rfl | (rw [Nat.zero_add, Nat.mul_one]; try rfl; done) | omega) ?_
  conv => whnf
  cases h; simp only [Sum.elim_inl, head29_2] at hc
  exact lrA0 hc [(0, 0)] rfl
theorem leads29 (hS : SumsOK Try.prog (aget (sums29))) (l : List Int) (res : Int) (h : R03_AddF l = some res) :
    Leads Try.prog 29 1 ⟨⟨29, 25, [(0, .slice (some ⟨0, 0, none⟩) l.length 1)], [.code k29_27], [], false, none⟩, [], [(0, .row false (vI .i64 l))], 1⟩ (fun v H _ => Res 1 (rx29 res) v H) := by
  unfold R03_AddF at h
  refine ev_ok tab_ok hS true 3000 ?_
  conv => whnf
  have hl := loop29_2 hS _ res _ _ _ h rfl; simp only [head29_2] at hl
  exact lrA0 hl [(0, 0)] rfl
theorem ok29 (hS : SumsOK Try.prog (aget (sums29))) : SumOK Try.prog 29 (s29 (R03_AddF)) := by
  refine SumOK.of_leads tab_ok (fun ar os r ha hr => ?_) ⟨Try.f29, rfl, by decide, rfl⟩
  replace hr : r29 (R03_AddF) ar (conts os) = some r := hr
  unfold r29 at hr
  generalize hc : conts os = C at hr
  have hq := dSl.elim hr; clear hr; obtain ⟨c0, l1, C, y0, rfl, rfl, e0, hr⟩ := hq; obtain rfl := unI_eq e0
  replace hr := dFin hr; obtain ⟨rfl, rfl, x, h, rfl⟩ := hr
  obtain ⟨os, rfl, ha, hc⟩ := kinds_some ha hc
  obtain rfl := kinds_nil hc
  exact ⟨_, rfl, leads29 hS _ x h⟩
def R03_Add : (List Int) → Option Int := R03_AddF
theorem lift29 : SumOK Try.prog 29 (s29 R03_Add) := ok29 (SumsOK.of_tab trivial)
def R03_Words_s1 (R02_Must : (List UInt8) → Int → Int → Option Int) (s1 : List UInt8) (i : Int) (out1 : List Int) : Option (Sum ((List UInt8) × Int × (List Int)) (List Int)) :=
  cond (decide (i < (s1.length : Int)))
    (
    (R02_Must s1 i 2).bind fun m =>
    oreq (decide ((out1.length + 1) * 8 ≤ 2 ^ 47)) <|
    let row := out1 ++ [m]
    some (.inl (s1, wI .i64 (i + 2), row)))
    (
    some (.inr (out1)))
def R03_WordsF (R02_Must : (List UInt8) → Int → Int → Option Int) (s : List UInt8) : Option (List Int) :=
  cond (((s.length : Int).tmod 2) == 1)
    (
    oreq (decide (s.length + 1 < 2 ^ 63)) <|
    iter (fun st => R03_Words_s1 R02_Must st.1 st.2.1 st.2.2) FUEL (s ++ [0], 0, []))
    (
    iter (fun st => R03_Words_s1 R02_Must st.1 st.2.1 st.2.2) FUEL (s, 0, []))
def rx30 (x : List Int) : SRes := ⟨.slice (some ⟨0, 0, none⟩) x.length 1, [(vI .i64 x)], []⟩
def r30 (g : (List UInt8) → Option (List Int)) : Dec := dV asS fun (y0 : List UInt8) => dEnd (ofG (g y0) rx30)
theorem r30_c {g : (List UInt8) → Option (List Int)} {y0 : List UInt8} {x : List Int} (hx : g y0 = some x) : r30 g [.string ⟨⟨y0⟩⟩] [] = some (rx30 x) := (dV_eq (asS_c)).trans (ofG_eq hx)
def s30 (g : (List UInt8) → Option (List Int)) : Summ := ⟨[.v], r30 g⟩
theorem r30_eq {g : (List UInt8) → Option (List Int)} {y0 : List UInt8} {x : List Int} (hx : g y0 = some x) : (s30 g).run [.string ⟨⟨y0⟩⟩] [] = some (rx30 x) := r30_c hx
abbrev sums30 (R02_Must : (List UInt8) → Int → Int → Option Int) : List (Nat × Summ) := [(45, s45 R02_Must)]
def head30_1 (s1 : List UInt8) (i : Int) (out1 : List Int) : VM :=
  ⟨⟨30, 24, [(0, .string ⟨⟨s1⟩⟩), (3, .slice (some ⟨0, 0, none⟩) out1.length 1), (4, .int .i64 i)], [.code k30_14, .inLoop k30_14, .inBlock 0, .code k30_19], [], false, none⟩, [], [(0, .row true (vI .i64 out1))], 1⟩
theorem loop30_1 (R02_Must : (List UInt8) → Int → Int → Option Int) (hS : SumsOK Try.prog (aget (sums30 R02_Must))) (res : List Int) : ∀ fuel (st : (List UInt8) × Int × (List Int)) (o : List Int), iter (fun st => R03_Words_s1 R02_Must st.1 st.2.1 st.2.2) fuel st = some o → (o = res) →
    Leads Try.prog 30 0 (head30_1 st.1 st.2.1 st.2.2) (fun v H _ => Res 0 (rx30 res) v H) := by
  intro fuel st o h hc
  refine iter_leads (head := fun st => head30_1 st.1 st.2.1 st.2.2) (C := fun o => (o = res)) ?_ fuel st o h hc
  clear h hc o st fuel
  intro st o h hc
  obtain ⟨s1, i, out1⟩ := st
  replace h : R03_Words_s1 R02_Must s1 i out1 = some o := h
  show Leads Try.prog 30 0 (head30_1 s1 i out1) (fun v H _ => Res 0 (rx30 res) v H)
  unfold R03_Words_s1 at h
  refine ev_ok tab_ok hS true 3000 ?_
  conv => whnf
  refine br.h2 h ?_ ?_ ?_
  · rfl
  · clear h; intro hb h; conv => whnf
    all_goals (cases h; cases hc)
    all_goals exact Res.of [0] rfl (nw_s (rn_I) (hs_row rfl) nw_0) (by decide) (js_l (by decide) js_0) wr_0
  clear h; intro hb h; conv => whnf
  replace h := obind.elim h; obtain ⟨m, hy, h⟩ := h
  refine sumK.q rfl rfl (r45_eq hy) rfl rfl rfl ?_
  conv => whnf
  replace h := oreq.elim h; obtain ⟨hb, h⟩ := h
  refine req.intro (ap_req (of_decide_eq_true hb) (by first | rfl | omega | (simp; done) | (simp; omega) | (simp at *; omega)) rfl (by first | rfl | omega | (simp; done) | (simp; omega) | (simp at *; omega)) (by first | rfl | exact vI_one _ _ | exact vS_one _ | exact vB_one _ | exact vT_one (by first | exact capi_Addr_one | exact capi_Tuple_one | exact ctcp_Head_one | exact cipsix_Head_one | exact cipfour_Head_one | exact capi_Packet_one | exact cpacket_outer_one | exact coctet_Reader_one | exact ctcp_Opt_one | exact cudp_Head_one | exact cquic_Head_one | exact cR11_head_one | exact cR07_Opt_one) _ | (rw [ofBytes_vI]; exact vI_one _ _) | simp [vI_one, vS_one, vB_one, vI_drop, vI_take, vS_drop, vS_take]) rfl) ?_
  conv => whnf
  let row : List Int := out1 ++ [m]
  refine pk_apI (xs := out1) (ys := [m]) rfl (by first | rfl | omega) (by first | (simp; done) | (simp; omega)) (by first | (simp; done) | (simp; omega)) ?_
  conv => whnf
  cases h; simp only [Sum.elim_inl, head30_1] at hc
  exact lrA0 hc [(0, 2)] rfl
theorem leads30 (R02_Must : (List UInt8) → Int → Int → Option Int) (hS : SumsOK Try.prog (aget (sums30 R02_Must))) (s : List UInt8) (res : List Int) (h : R03_WordsF R02_Must s = some res) :
    Leads Try.prog 30 0 ⟨⟨30, 24, [(0, .string ⟨⟨s⟩⟩)], [.code k30_23], [], false, none⟩, [], [], 0⟩ (fun v H _ => Res 0 (rx30 res) v H) := by
  unfold R03_WordsF at h
  refine ev_ok tab_ok hS true 3000 ?_
  conv => whnf
  refine br.h2 h ?_ ?_ ?_
  · rfl
  · clear h; intro hb h; conv => whnf
    have hl := loop30_1 R02_Must hS res _ _ _ h rfl; simp only [head30_1] at hl
    refine Leads.nilT 3 1 ?_
    exact lrA0 hl [(0, 0)] rfl
  clear h; intro hb h; conv => whnf
  replace h := oreq.elim h; obtain ⟨hb, h⟩ := h
  first | (refine req.intro hb ?_; conv => whnf) | skip
  have hl := loop30_1 R02_Must hS res _ _ _ h rfl; simp only [head30_1] at hl
  refine Leads.nilT 3 1 ?_
  exact lrA0 hl [(0, 0)] rfl
theorem ok30 (R02_Must : (List UInt8) → Int → Int → Option Int) (hS : SumsOK Try.prog (aget (sums30 R02_Must))) : SumOK Try.prog 30 (s30 (R03_WordsF R02_Must)) := by
  refine SumOK.of_leads tab_ok (fun ar os r ha hr => ?_) ⟨Try.f30, rfl, by decide, rfl⟩
  replace hr : r30 (R03_WordsF R02_Must) ar (conts os) = some r := hr
  unfold r30 at hr
  generalize hc : conts os = C at hr
  replace hr := dV.elim hr; obtain ⟨v0, l1, y0, rfl, e0, hr⟩ := hr; obtain rfl := asS_eq _ _ e0
  replace hr := dFin hr; obtain ⟨rfl, rfl, x, h, rfl⟩ := hr
  obtain rfl := kinds_nil hc
  exact ⟨_, rfl, leads30 R02_Must hS _ x h⟩
def R03_Words : (List UInt8) → Option (List Int) := R03_WordsF R02_Must
theorem lift30 : SumOK Try.prog 30 (s30 R03_Words) := ok30 R02_Must (SumsOK.of_tab ⟨lift45, trivial⟩)
def R03_SumF (R03_Add : (List Int) → Option Int) (R03_Words : (List UInt8) → Option (List Int)) (s : List UInt8) : Option Int :=
  (R03_Words s).bind fun w =>
  (R03_Add w).bind fun a =>
  some (a)
def rx12 (x : Int) : SRes := ⟨.int .i64 x, [], []⟩
def r12 (g : (List UInt8) → Option Int) : Dec := dV asS fun (y0 : List UInt8) => dEnd (ofG (g y0) rx12)
theorem r12_c {g : (List UInt8) → Option Int} {y0 : List UInt8} {x : Int} (hx : g y0 = some x) : r12 g [.string ⟨⟨y0⟩⟩] [] = some (rx12 x) := (dV_eq (asS_c)).trans (ofG_eq hx)
def s12 (g : (List UInt8) → Option Int) : Summ := ⟨[.v], r12 g⟩
theorem r12_eq {g : (List UInt8) → Option Int} {y0 : List UInt8} {x : Int} (hx : g y0 = some x) : (s12 g).run [.string ⟨⟨y0⟩⟩] [] = some (rx12 x) := r12_c hx
abbrev sums12 (R03_Add : (List Int) → Option Int) (R03_Words : (List UInt8) → Option (List Int)) : List (Nat × Summ) := [(29, s29 R03_Add), (30, s30 R03_Words)]
theorem leads12 (R03_Add : (List Int) → Option Int) (R03_Words : (List UInt8) → Option (List Int)) (hS : SumsOK Try.prog (aget (sums12 R03_Add R03_Words))) (s : List UInt8) (res : Int) (h : R03_SumF R03_Add R03_Words s = some res) :
    Leads Try.prog 12 0 ⟨⟨12, 6, [(0, .string ⟨⟨s⟩⟩)], [.code k12_3], [], false, none⟩, [], [], 0⟩ (fun v H _ => Res 0 (rx12 res) v H) := by
  unfold R03_SumF at h
  refine ev_ok tab_ok hS true 3000 ?_
  conv => whnf
  replace h := obind.elim h; obtain ⟨w, hy, h⟩ := h
  refine sumK.introF [] (sumRun_of (aqs := [.string ⟨⟨s⟩⟩]) (ws := []) (n := 1) (m := 0) (t' := 1) (ra_cons rfl rfl ra_nil) rfl (by rfl) (r30_eq hy) rfl rfl rfl rfl wb_nil (an_cons (rn_I) an_nil) rfl) ?_
  conv => whnf
  replace h := obind.elim h; obtain ⟨a, hy, h⟩ := h
  refine sumK.introF [] (sumRun_of (aqs := [.slice (some ⟨0, 0, none⟩) (w : List Int).length 1]) (ws := [.win 0 0 (w.length * 1) false]) (n := 0) (m := 0) (t' := 1) (ra_cons (by first | rfl | exact ra_allI rfl rfl (by first | rfl | omega) (by first | rfl | (simp; done)) | exact ra_slI rfl rfl (by first | rfl | omega) (by first | rfl | omega) (by first | omega | (simp at *; omega))) rfl ra_nil) rfl (by rfl) (r29_eq hy) rfl rfl rfl rfl (wb_skip rfl wb_nil) an_nil rfl) ?_
  conv => whnf
  all_goals (cases h; exact Res.z rfl rfl rfl)
theorem ok12 (R03_Add : (List Int) → Option Int) (R03_Words : (List UInt8) → Option (List Int)) (hS : SumsOK Try.prog (aget (sums12 R03_Add R03_Words))) : SumOK Try.prog 12 (s12 (R03_SumF R03_Add R03_Words)) := by
  refine SumOK.of_leads tab_ok (fun ar os r ha hr => ?_) ⟨Try.f12, rfl, by decide, rfl⟩
  replace hr : r12 (R03_SumF R03_Add R03_Words) ar (conts os) = some r := hr
  unfold r12 at hr
  generalize hc : conts os = C at hr
  replace hr := dV.elim hr; obtain ⟨v0, l1, y0, rfl, e0, hr⟩ := hr; obtain rfl := asS_eq _ _ e0
  replace hr := dFin hr; obtain ⟨rfl, rfl, x, h, rfl⟩ := hr
  obtain rfl := kinds_nil hc
  exact ⟨_, rfl, leads12 R03_Add R03_Words hS _ x h⟩
def R03_Sum : (List UInt8) → Option Int := R03_SumF R03_Add R03_Words
theorem lift12 : SumOK Try.prog 12 (s12 R03_Sum) := ok12 R03_Add R03_Words (SumsOK.of_tab ⟨lift29, lift30, trivial⟩)
def R03_OfF (R03_Sum : (List UInt8) → Option Int) (s : List UInt8) : Option Int :=
  (R03_Sum s).bind fun s1 =>
  some (wI .i64 (65535 - s1))
def rx10 (x : Int) : SRes := ⟨.int .i64 x, [], []⟩
def r10 (g : (List UInt8) → Option Int) : Dec := dV asS fun (y0 : List UInt8) => dEnd (ofG (g y0) rx10)
theorem r10_c {g : (List UInt8) → Option Int} {y0 : List UInt8} {x : Int} (hx : g y0 = some x) : r10 g [.string ⟨⟨y0⟩⟩] [] = some (rx10 x) := (dV_eq (asS_c)).trans (ofG_eq hx)
def s10 (g : (List UInt8) → Option Int) : Summ := ⟨[.v], r10 g⟩
theorem r10_eq {g : (List UInt8) → Option Int} {y0 : List UInt8} {x : Int} (hx : g y0 = some x) : (s10 g).run [.string ⟨⟨y0⟩⟩] [] = some (rx10 x) := r10_c hx
abbrev sums10 (R03_Sum : (List UInt8) → Option Int) : List (Nat × Summ) := [(12, s12 R03_Sum)]
theorem leads10 (R03_Sum : (List UInt8) → Option Int) (hS : SumsOK Try.prog (aget (sums10 R03_Sum))) (s : List UInt8) (res : Int) (h : R03_OfF R03_Sum s = some res) :
    Leads Try.prog 10 0 ⟨⟨10, 6, [(0, .string ⟨⟨s⟩⟩)], [.code k10_3], [], false, none⟩, [], [], 0⟩ (fun v H _ => Res 0 (rx10 res) v H) := by
  unfold R03_OfF at h
  refine ev_ok tab_ok hS true 3000 ?_
  conv => whnf
  replace h := obind.elim h; obtain ⟨s1, hy, h⟩ := h
  refine sumK.q rfl rfl (r12_eq hy) rfl rfl rfl ?_
  conv => whnf
  all_goals (cases h; exact Res.z rfl rfl rfl)
theorem ok10 (R03_Sum : (List UInt8) → Option Int) (hS : SumsOK Try.prog (aget (sums10 R03_Sum))) : SumOK Try.prog 10 (s10 (R03_OfF R03_Sum)) := by
  refine SumOK.of_leads tab_ok (fun ar os r ha hr => ?_) ⟨Try.f10, rfl, by decide, rfl⟩
  replace hr : r10 (R03_OfF R03_Sum) ar (conts os) = some r := hr
  unfold r10 at hr
  generalize hc : conts os = C at hr
  replace hr := dV.elim hr; obtain ⟨v0, l1, y0, rfl, e0, hr⟩ := hr; obtain rfl := asS_eq _ _ e0
  replace hr := dFin hr; obtain ⟨rfl, rfl, x, h, rfl⟩ := hr
  obtain rfl := kinds_nil hc
  exact ⟨_, rfl, leads10 R03_Sum hS _ x h⟩
def R03_Of : (List UInt8) → Option Int := R03_OfF R03_Sum
theorem lift10 : SumOK Try.prog 10 (s10 R03_Of) := ok10 R03_Sum (SumsOK.of_tab ⟨lift12, trivial⟩)
def check_RightF (check_Sum : (List UInt8) → Option Int) (s : List UInt8) : Option Bool :=
  (check_Sum s).bind fun s1 =>
  some (s1 == 65535)
def rx101 (x : Bool) : SRes := ⟨.bool x, [], []⟩
def r101 (g : (List UInt8) → Option Bool) : Dec := dV asS fun (y0 : List UInt8) => dEnd (ofG (g y0) rx101)
theorem r101_c {g : (List UInt8) → Option Bool} {y0 : List UInt8} {x : Bool} (hx : g y0 = some x) : r101 g [.string ⟨⟨y0⟩⟩] [] = some (rx101 x) := (dV_eq (asS_c)).trans (ofG_eq hx)
def s101 (g : (List UInt8) → Option Bool) : Summ := ⟨[.v], r101 g⟩
theorem r101_eq {g : (List UInt8) → Option Bool} {y0 : List UInt8} {x : Bool} (hx : g y0 = some x) : (s101 g).run [.string ⟨⟨y0⟩⟩] [] = some (rx101 x) := r101_c hx
abbrev sums101 (check_Sum : (List UInt8) → Option Int) : List (Nat × Summ) := [(77, s77 check_Sum)]
theorem leads101 (check_Sum : (List UInt8) → Option Int) (hS : SumsOK Try.prog (aget (sums101 check_Sum))) (s : List UInt8) (res : Bool) (h : check_RightF check_Sum s = some res) :
    Leads Try.prog 101 0 ⟨⟨101, 6, [(0, .string ⟨⟨s⟩⟩)], [.code k101_3], [], false, none⟩, [], [], 0⟩ (fun v H _ => Res 0 (rx101 res) v H) := by
  unfold check_RightF at h
  refine ev_ok tab_ok hS true 3000 ?_
  conv => whnf
  replace h := obind.elim h; obtain ⟨s1, hy, h⟩ := h
  refine sumK.q rfl rfl (r77_eq hy) rfl rfl rfl ?_
  conv => whnf
  all_goals (cases h; exact Res.z rfl rfl rfl)
theorem ok101 (check_Sum : (List UInt8) → Option Int) (hS : SumsOK Try.prog (aget (sums101 check_Sum))) : SumOK Try.prog 101 (s101 (check_RightF check_Sum)) := by
  refine SumOK.of_leads tab_ok (fun ar os r ha hr => ?_) ⟨Try.f101, rfl, by decide, rfl⟩
  replace hr : r101 (check_RightF check_Sum) ar (conts os) = some r := hr
  unfold r101 at hr
  generalize hc : conts os = C at hr
  replace hr := dV.elim hr; obtain ⟨v0, l1, y0, rfl, e0, hr⟩ := hr; obtain rfl := asS_eq _ _ e0
  replace hr := dFin hr; obtain ⟨rfl, rfl, x, h, rfl⟩ := hr
  obtain rfl := kinds_nil hc
  exact ⟨_, rfl, leads101 check_Sum hS _ x h⟩
def check_Right : (List UInt8) → Option Bool := check_RightF check_Sum
theorem lift101 : SumOK Try.prog 101 (s101 check_Right) := ok101 check_Sum (SumsOK.of_tab ⟨lift77, trivial⟩)
end Go.Vm.Code
namespace Go.Vm.Code
open Go Go.Vm
theorem getS_two {s : List UInt8} {i : Nat} (h : i + 1 < s.length) : getS s (i : Int) 2 = (((s[i].toNat * 256 + s[i + 1].toNat : Nat) : Int), true) := by
  unfold getS
  rw [if_pos (by omega)]
  have e : (s.drop (i : Int).toNat).take (2 : Int).toNat = [s[i], s[i + 1]] := by
    show (s.drop i).take 2 = _
    rw [List.drop_eq_getElem_cons (by omega : i < s.length), List.drop_eq_getElem_cons h]; rfl
  rw [e]; simp [val_cons]
def wordsL : List UInt8 → List Int
  | [] => []
  | [b] => [((b.toNat * 256 : Nat) : Int)]
  | b :: c :: l => ((b.toNat * 256 + c.toNat : Nat) : Int) :: wordsL l
theorem wordsL_two {s : List UInt8} {i : Nat} (h : i + 1 < s.length) : wordsL (s.drop i) = ((s[i].toNat * 256 + s[i + 1].toNat : Nat) : Int) :: wordsL (s.drop (i + 2)) := by
  rw [List.drop_eq_getElem_cons (by omega : i < s.length), List.drop_eq_getElem_cons h]; rfl
theorem wordsL_pad : ∀ s : List UInt8, s.length % 2 = 1 → wordsL (s ++ [0]) = wordsL s
  | [], h => by simp at h
  | [b], _ => by
    show [((b.toNat * 256 + 0 : Nat) : Int)] = [((b.toNat * 256 : Nat) : Int)]
    rw [Nat.add_zero]
  | b :: c :: l, h => by
    have := wordsL_pad l (by simp at h; omega)
    simp only [List.cons_append, wordsL, this]
theorem wordsL_sum : ∀ s : List UInt8, (wordsL s).sum = (wsum s : Int)
  | [] => rfl
  | [b] => by simp only [wordsL, wsum, List.sum_cons, List.sum_nil, Int.add_zero]
  | b :: c :: l => by
    have := wordsL_sum l
    simp only [wordsL, wsum, List.sum_cons, this]; omega
theorem wordsL_rng : ∀ s : List UInt8, ∀ e ∈ wordsL s, 0 ≤ e ∧ e ≤ 65535
  | [], e, h => by simp [wordsL] at h
  | [b], e, h => by simp [wordsL] at h; have := b.toNat_lt; omega
  | b :: c :: l, e, h => by
    simp only [wordsL, List.mem_cons] at h
    rcases h with rfl | h
    · have := b.toNat_lt; have := c.toNat_lt; omega
    · exact wordsL_rng l e h
theorem wordsL_len : ∀ s : List UInt8, (wordsL s).length = (s.length + 1) / 2
  | [] => rfl
  | [b] => by simp [wordsL]
  | b :: c :: l => by
    have := wordsL_len l
    simp only [wordsL, List.length_cons, this]; omega
theorem R03_Words_loop {s : List UInt8} (h : s.length < 2 ^ 40) (he : s.length % 2 = 0) : iter (fun (st : List UInt8 × Int × List Int) => R03_Words_s1 R02_Must st.1 st.2.1 st.2.2) FUEL (s, 0, []) = some (wordsL s) := by
  have key := iter_eq (step := fun (st : List UInt8 × Int × List Int) => R03_Words_s1 R02_Must st.1 st.2.1 st.2.2) (fun st => st.2.2 ++ wordsL (s.drop st.2.1.toNat)) (fun st => st.1 = s ∧ ∃ i : Nat, st.2.1 = i ∧ i % 2 = 0 ∧ i ≤ s.length ∧ st.2.2.length ≤ i) (fun st => (s.length - st.2.1).toNat) ?_ FUEL (s, 0, []) ⟨rfl, 0, rfl, by omega, by omega, by simp⟩ (by rw [FUEL_eq]; simp only; omega)
  · rw [key]; simp
  rintro ⟨s1, p, out⟩ ⟨h1, i, h2, h3, h4, h5⟩
  simp only at h1 h2 h5 ⊢
  subst h1 h2
  unfold R03_Words_s1
  by_cases hi : i < s1.length
  · have hi2 : i + 1 < s1.length := by omega
    refine .inr ⟨(s1, ((i + 2 : Nat) : Int), out ++ [((s1[i].toNat * 256 + s1[i + 1].toNat : Nat) : Int)]), ?_, ⟨rfl, i + 2, rfl, by omega, by omega, by simp; omega⟩, by simp only; omega, ?_⟩
    · have b1 := s1[i].toNat_lt
      have b2 := s1[i + 1].toNat_lt
      rw [cond_p (by omega), R02_Must_eq (by omega), getS_two hi2, Option.bind_some, oreq_p (by omega), wI64 (by omega) (by omega), wI64 (by omega) (by omega)]; rfl
    · simp only [Int.toNat_natCast]
      rw [wordsL_two hi2]; simp
  · refine .inl ?_
    rw [cond_n (by omega)]
    simp [List.drop_eq_nil_of_le (by omega : s1.length ≤ i), wordsL]
theorem R03_Words_eq {s : List UInt8} (h : s.length < 2 ^ 39) : R03_Words s = some (wordsL s) := by
  unfold R03_Words R03_WordsF
  have ea : ((s.length : Int).tmod 2 == 1) = decide (s.length % 2 = 1) := by
    rw [Int.tmod_eq_emod_of_nonneg (by omega), Bool.eq_iff_iff, beq_iff_eq, decide_eq_true_eq]; omega
  rw [ea]
  by_cases h2 : s.length % 2 = 1
  · rw [cond_p h2, oreq_p (by omega), R03_Words_loop (by simp only [List.length_append, List.length_cons, List.length_nil]; omega) (by simp only [List.length_append, List.length_cons, List.length_nil]; omega), wordsL_pad s h2]
  · rw [cond_n h2, R03_Words_loop (by omega) (by omega)]
theorem R03_Add1_eq {l : List Int} {n : Int} (h0 : 0 ≤ n) (h1 : n < 2 ^ 62) : iter (fun st => R03_Add_s1 l st) FUEL n = some ((norm n.toNat : Nat) : Int) := by
  refine iter_eq (fun n => ((norm n.toNat : Nat) : Int)) (fun n => 0 ≤ n ∧ n < 2 ^ 62) (fun n => n.toNat) ?_ FUEL _ ⟨h0, h1⟩ (by rw [FUEL_eq]; omega)
  intro s ⟨a, b⟩
  unfold R03_Add_s1
  by_cases hs : s > 65535
  · refine .inr ⟨s % 65536 + s / 65536, ?_, ⟨by omega, by omega⟩, by omega, ?_⟩
    · rw [cond_p hs, Int.tdiv_eq_ediv_of_nonneg a, Int.tmod_eq_emod_of_nonneg a, wI64 (n := s / 65536) (by omega) (by omega), wI64 (by omega) (by omega)]
    · have : norm (s % 65536 + s / 65536).toNat = norm s.toNat :=
        (norm_eq (norm_le _) (by have := norm_mod (s % 65536 + s / 65536).toNat; omega) (by have := norm_zero (s % 65536 + s / 65536).toNat; omega)).symm
      rw [this]
  · refine .inl ?_
    rw [cond_n hs]
    have := norm_same (n := s.toNat) (by omega)
    simp only [this]
    rw [Int.toNat_of_nonneg a]
theorem R03_Add_eq {l : List Int} (hl : l.length < 2 ^ 40) (hr : ∀ e ∈ l, 0 ≤ e ∧ e ≤ 65535) : R03_Add l = some ((norm l.sum.toNat : Nat) : Int) := by
  unfold R03_Add R03_AddF
  have key := iter_eq (step := fun (st : Int × Int) => R03_Add_s2 l st.1 st.2) (fun st => ((norm (st.1 + (l.drop st.2.toNat).sum).toNat : Nat) : Int)) (fun st => 0 ≤ st.1 ∧ 0 ≤ st.2 ∧ st.2 ≤ l.length ∧ st.1 ≤ st.2 * 65535) (fun st => (l.length - st.2).toNat) ?_ FUEL (0, 0) ⟨by simp, by simp, by simp, by simp⟩ (by rw [FUEL_eq]; simp only; omega)
  · rw [key]; simp
  rintro ⟨n, p⟩ ⟨g1, g2, g3, g4⟩
  simp only at g1 g2 g3 g4 ⊢
  obtain ⟨i, rfl⟩ := Int.eq_ofNat_of_zero_le g2
  simp only [Int.toNat_natCast]
  unfold R03_Add_s2
  by_cases hi : i < l.length
  · have hx := hr l[i] (List.getElem_mem hi)
    refine .inr ⟨(n + l[i], ((i + 1 : Nat) : Int)), ?_, ⟨by simp only; omega, by simp only; omega, by simp only; omega, by simp only; omega⟩, by simp only; omega, ?_⟩
    · simp (disch := omega) only [cond_p, oreq_p, Int.toNat_natCast, List.getElem?_eq_getElem, Option.bind_some, wI64]; rfl
    · simp only [Int.toNat_natCast]
      rw [List.drop_eq_getElem_cons hi, List.sum_cons, Int.add_assoc]
  · refine .inl ?_
    rw [cond_n (by omega), R03_Add1_eq g1 (by omega), List.drop_eq_nil_of_le (by omega)]
    simp
theorem R03_Sum_eq {s : List UInt8} (h : s.length < 2 ^ 39) : R03_Sum s = some ((norm (wsum s) : Nat) : Int) := by
  unfold R03_Sum R03_SumF
  rw [R03_Words_eq h, Option.bind_some, R03_Add_eq (by rw [wordsL_len]; omega) (wordsL_rng s), wordsL_sum]; rfl
def setS (s : List UInt8) (p k n : Int) : List UInt8 := if 1 ≤ k ∧ k ≤ 8 ∧ 0 ≤ p ∧ p + k ≤ s.length then s.take p.toNat ++ be n.toNat k.toNat ++ s.drop (p + k).toNat else s
theorem Set_eq {s : List UInt8} {p k n : Int} (hs : s.length < 2 ^ 40) (hn : 0 ≤ n) : check_Set s p k n = some (setS s p k n) := by
  unfold check_Set check_SetF setS
  rw [octet_Put_eq hn, Option.bind_some]
  unfold putS
  by_cases hk : 1 ≤ k ∧ k ≤ 8
  · rw [if_pos hk]
    have e : (be n.toNat k.toNat == []) = false := by
      rw [beq_eq_false_iff_ne]; intro h; have := congrArg List.length h; simp at this; omega
    rw [e, cond_false]
    by_cases h1 : p < 0
    · rw [cond_p h1, if_neg (by omega)]
    rw [cond_n h1, wI64 (n := (s.length : Int) - k) (by omega) (by omega)]
    by_cases h2 : (s.length : Int) - k < p
    · simp only []
      rw [cond_p h2, if_neg (by omega)]
    simp only []
    have e1 : (p + k).toNat = p.toNat + k.toNat := by omega
    have e2 : ((s.drop (p + k).toNat).take (s.length - (p + k).toNat)) = s.drop (p + k).toNat := List.take_of_length_le (by simp)
    rw [cond_n h2, oreq_p (by omega), wI64 (n := p + k) (by omega) (by omega), e2, oreq_p (by simp; omega), oreq_p (by omega), oreq_p (by simp; omega), if_pos (by omega)]
  · rw [if_neg hk, if_neg (by omega)]; rfl
theorem R03_Set_eq {s : List UInt8} {p k n : Int} (hs : s.length < 2 ^ 40) (hn : 0 ≤ n) (hn2 : n < 2 ^ 64) : R03_Set s p k n = some (setS s p k n) := by
  unfold R03_Set R03_SetF setS
  rw [R02_Get_eq (by omega), Option.bind_some]
  unfold getS
  by_cases hc : 1 ≤ k ∧ k ≤ 8 ∧ 0 ≤ p ∧ p + k ≤ s.length
  · rw [if_pos hc, if_pos hc]
    have e2 : ((s.drop (p + k).toNat).take (s.length - (p + k).toNat)) = s.drop (p + k).toNat := List.take_of_length_le (by simp)
    simp only [Bool.not_true, cond_false]
    rw [R02_Put_eq hn hn2, Option.bind_some, oreq_p (by omega), wI64 (n := p + k) (by omega) (by omega), e2]
    unfold putS
    rw [if_pos (by omega), oreq_p (by simp; omega), oreq_p (by omega), oreq_p (by simp; omega)]
  · rw [if_neg hc, if_neg hc]; rfl
theorem R03_Of_eq {s : List UInt8} (h : s.length < 2 ^ 39) : R03_Of s = some (65535 - ((norm (wsum s) : Nat) : Int)) := by
  unfold R03_Of R03_OfF
  have := norm_le (wsum s)
  rw [R03_Sum_eq h, Option.bind_some, wI64 (by omega) (by omega)]
end Go.Vm.Code
namespace Go.Vm.Code
open Go Go.Vm Go.Proofs
set_option maxRecDepth 100000
set_option maxHeartbeats 4000000
set_option linter.unusedVariables false
def check_may_s1 (l : List Int) (t7 : Int) : Option (Sum Int Bool) :=
  cond (decide (t7 < (l.length : Int)))
    (
    oreq (decide ((0 : Int) ≤ t7 ∧ t7 < (l.length : Int))) <|
    (l[t7.toNat]?).bind fun (e : Int) =>
    cond (decide (e < 0))
      (
      some (.inr (false)))
      (
      cond (decide (e > 65535))
        (
        some (.inr (false)))
        (
        some (.inl (wI .i64 (t7 + 1))))))
    (
    some (.inr (true)))
def check_mayF (l : List Int) : Option Bool :=
  iter (fun st => check_may_s1 l st) FUEL 0
def rx72 (x : Bool) : SRes := ⟨.bool x, [], [none]⟩
def r72 (g : (List Int) → Option Bool) : Dec := dSl 0 1 (unL (asI .i64)) fun (y0 : List Int) => dEnd (ofG (g y0) rx72)
theorem r72_c {g : (List Int) → Option Bool} {y0 : List Int} {x : Bool} (hx : g y0 = some x) : r72 g [.slice (some ⟨0, 0, none⟩) y0.length 1] [some (vI .i64 y0)] = some (rx72 x) := (dSl_eq (unI_vI _ _)).trans (ofG_eq hx)
def s72 (g : (List Int) → Option Bool) : Summ := ⟨[.sl 1], r72 g⟩
theorem r72_eq {g : (List Int) → Option Bool} {y0 : List Int} {x : Bool} (hx : g y0 = some x) : (s72 g).run [.slice (some ⟨0, 0, none⟩) y0.length 1] [some (vI .i64 y0)] = some (rx72 x) := r72_c hx
abbrev sums72 : List (Nat × Summ) := []
def head72_1 (l : List Int) (t7 : Int) : VM :=
  ⟨⟨72, 18, [(5, .slice (some ⟨0, 0, none⟩) l.length 1), (6, .int .i64 (l.length : Int)), (7, .int .i64 t7)], [.code k72_15, .inLoop k72_15, .inBlock 0, .code k72_20], [], false, none⟩, [], [(0, .row false (vI .i64 l))], 1⟩
theorem loop72_1 (hS : SumsOK Try.prog (aget (sums72))) (l : List Int) (res : Bool) : ∀ fuel (st : Int) (o : Bool), iter (fun st => check_may_s1 l st) fuel st = some o → (o = res) →
    Leads Try.prog 72 1 (head72_1 l st) (fun v H _ => Res 1 (rx72 res) v H) := by
  intro fuel st o h hc
  refine iter_leads (head := fun st => head72_1 l st) (C := fun o => (o = res)) ?_ fuel st o h hc
  clear h hc o st fuel
  intro t7 o h hc
  replace h : check_may_s1 l t7 = some o := h
  show Leads Try.prog 72 1 (head72_1 l t7) (fun v H _ => Res 1 (rx72 res) v H)
  unfold check_may_s1 at h
  refine ev_ok tab_ok hS true 3000 ?_
  conv => whnf
  refine br.h2 h ?_ ?_ ?_
  · rfl
  · clear h; intro hb h; conv => whnf
    all_goals (cases h; cases hc)
    all_goals exact Res.of [] rfl nw_0 (by decide) js_0 (wr_n wr_0)
  clear h; intro hb h; conv => whnf
  replace h := oreq.elim h; obtain ⟨hb, h⟩ := h
  first | (refine req.intro hb ?_; conv => whnf) | skip
  replace h := obind.elim h; obtain ⟨e, hy, h⟩ := h
  refine rd.I hy (by first | rfl | (rw [Nat.zero_add, Nat.mul_one]; try rfl; done) | omega) ?_
  conv => whnf
  refine br.h h ?_ ?_ ?_
  · rfl
  · clear h; intro hb h; conv => whnf
    all_goals (cases h; cases hc)
    all_goals exact Res.of [] rfl nw_0 (by decide) js_0 (wr_n wr_0)
  clear h; intro hb h; conv => whnf
  refine br.h h ?_ ?_ ?_
  · rfl
  · clear h; intro hb h; conv => whnf
    all_goals (cases h; cases hc)
    all_goals exact Res.of [] rfl nw_0 (by decide) js_0 (wr_n wr_0)
  clear h; intro hb h; conv => whnf
  cases h; simp only [Sum.elim_inl, head72_1] at hc
  exact lrA0 hc [(0, 0)] rfl
theorem leads72 (hS : SumsOK Try.prog (aget (sums72))) (l : List Int) (res : Bool) (h : check_mayF l = some res) :
    Leads Try.prog 72 1 ⟨⟨72, 18, [(0, .slice (some ⟨0, 0, none⟩) l.length 1)], [.code k72_22], [], false, none⟩, [], [(0, .row false (vI .i64 l))], 1⟩ (fun v H _ => Res 1 (rx72 res) v H) := by
  unfold check_mayF at h
  refine ev_ok tab_ok hS true 3000 ?_
  conv => whnf
  have hl := loop72_1 hS _ res _ _ _ h rfl; simp only [head72_1] at hl
  exact lrA0 hl [(0, 0)] rfl
theorem ok72 (hS : SumsOK Try.prog (aget (sums72))) : SumOK Try.prog 72 (s72 (check_mayF)) := by
  refine SumOK.of_leads tab_ok (fun ar os r ha hr => ?_) ⟨Try.f72, rfl, by decide, rfl⟩
  replace hr : r72 (check_mayF) ar (conts os) = some r := hr
  unfold r72 at hr
  generalize hc : conts os = C at hr
  have hq := dSl.elim hr; clear hr; obtain ⟨c0, l1, C, y0, rfl, rfl, e0, hr⟩ := hq; obtain rfl := unI_eq e0
  replace hr := dFin hr; obtain ⟨rfl, rfl, x, h, rfl⟩ := hr
  obtain ⟨os, rfl, ha, hc⟩ := kinds_some ha hc
  obtain rfl := kinds_nil hc
  exact ⟨_, rfl, leads72 hS _ x h⟩
def check_may : (List Int) → Option Bool := check_mayF
theorem lift72 : SumOK Try.prog 72 (s72 check_may) := ok72 (SumsOK.of_tab trivial)
def check_TurnF (check_fold : Int → Option Int) (check_may : (List Int) → Option Bool) (check : Int) (froma1 : Int) (to : Int) : Option Int :=
  (check_may [check, froma1, to]).bind fun m =>
  cond (!m)
    (
    some (0))
    (
    let t := wI .i64 ((wI .i64 (65535 - check)) + 65535)
    (check_fold (wI .i64 ((wI .i64 (t - froma1)) + to))).bind fun f =>
    some (wI .i64 (65535 - f)))
def rx43 (x : Int) : SRes := ⟨.int .i64 x, [], []⟩
def r43 (g : Int → Int → Int → Option Int) : Dec := dV (asI .i64) fun (y0 : Int) => dV (asI .i64) fun (y1 : Int) => dV (asI .i64) fun (y2 : Int) => dEnd (ofG (g y0 y1 y2) rx43)
theorem r43_c {g : Int → Int → Int → Option Int} {y0 : Int} {y1 : Int} {y2 : Int} {x : Int} (hx : g y0 y1 y2 = some x) : r43 g [.int .i64 y0, .int .i64 y1, .int .i64 y2] [] = some (rx43 x) := (dV_eq (asI_c _)).trans ((dV_eq (asI_c _)).trans ((dV_eq (asI_c _)).trans (ofG_eq hx)))
def s43 (g : Int → Int → Int → Option Int) : Summ := ⟨[.v, .v, .v], r43 g⟩
theorem r43_eq {g : Int → Int → Int → Option Int} {y0 : Int} {y1 : Int} {y2 : Int} {x : Int} (hx : g y0 y1 y2 = some x) : (s43 g).run [.int .i64 y0, .int .i64 y1, .int .i64 y2] [] = some (rx43 x) := r43_c hx
abbrev sums43 (check_fold : Int → Option Int) (check_may : (List Int) → Option Bool) : List (Nat × Summ) := [(73, s73 check_fold), (72, s72 check_may)]
theorem leads43 (check_fold : Int → Option Int) (check_may : (List Int) → Option Bool) (hS : SumsOK Try.prog (aget (sums43 check_fold check_may))) (check : Int) (froma1 : Int) (to : Int) (res : Int) (h : check_TurnF check_fold check_may check froma1 to = some res) :
    Leads Try.prog 43 0 ⟨⟨43, 22, [(0, .int .i64 check), (1, .int .i64 froma1), (2, .int .i64 to)], [.code k43_9], [], false, none⟩, [], [], 0⟩ (fun v H _ => Res 0 (rx43 res) v H) := by
  unfold check_TurnF at h
  refine ev_ok tab_ok hS true 3000 ?_
  conv => whnf
  replace h := obind.elim h; obtain ⟨m, hy, h⟩ := h
  refine sumK.introF [] (sumRun_of (aqs := [.slice (some ⟨0, 0, none⟩) ([check, froma1, to] : List Int).length 1]) (ws := [.win 0 0 (3 * 1) false]) (n := 0) (m := 0) (t' := 1) (ra_cons (by first | rfl | exact ra_allI rfl rfl (by first | rfl | omega) (by first | rfl | (simp; done)) | exact ra_slI rfl rfl (by first | rfl | omega) (by first | rfl | omega) (by first | omega | (simp at *; omega))) rfl ra_nil) rfl (by rfl) (r72_eq hy) rfl rfl rfl rfl (wb_skip rfl wb_nil) an_nil rfl) ?_
  conv => whnf
  refine br.h h ?_ ?_ ?_
  · rfl
  · clear h; intro hb h; conv => whnf
    all_goals (cases h; exact Res.z rfl rfl rfl)
  clear h; intro hb h; conv => whnf
  let t : Int := wI .i64 ((wI .i64 (65535 - check)) + 65535)
  replace h := obind.elim h; obtain ⟨f, hy, h⟩ := h
  refine sumK.q rfl rfl (r73_eq hy) rfl rfl rfl ?_
  conv => whnf
  all_goals (cases h; exact Res.z rfl rfl rfl)
theorem ok43 (check_fold : Int → Option Int) (check_may : (List Int) → Option Bool) (hS : SumsOK Try.prog (aget (sums43 check_fold check_may))) : SumOK Try.prog 43 (s43 (check_TurnF check_fold check_may)) := by
  refine SumOK.of_leads tab_ok (fun ar os r ha hr => ?_) ⟨Try.f43, rfl, by decide, rfl⟩
  replace hr : r43 (check_TurnF check_fold check_may) ar (conts os) = some r := hr
  unfold r43 at hr
  generalize hc : conts os = C at hr
  replace hr := dV.elim hr; obtain ⟨v0, l1, y0, rfl, e0, hr⟩ := hr; obtain rfl := asI_eq _ _ _ e0
  replace hr := dV.elim hr; obtain ⟨v1, l2, y1, rfl, e1, hr⟩ := hr; obtain rfl := asI_eq _ _ _ e1
  replace hr := dV.elim hr; obtain ⟨v2, l3, y2, rfl, e2, hr⟩ := hr; obtain rfl := asI_eq _ _ _ e2
  replace hr := dFin hr; obtain ⟨rfl, rfl, x, h, rfl⟩ := hr
  obtain rfl := kinds_nil hc
  exact ⟨_, rfl, leads43 check_fold check_may hS _ _ _ x h⟩
def check_Turn : Int → Int → Int → Option Int := check_TurnF check_fold check_may
theorem lift43 : SumOK Try.prog 43 (s43 check_Turn) := ok43 check_fold check_may (SumsOK.of_tab ⟨lift73, lift72, trivial⟩)
def check_Turned_s1 (check_Turn : Int → Int → Int → Option Int) (octet_Get : (List UInt8) → Int → Int → Option (Int × Bool)) (froma1 : List UInt8) (to : List UInt8) (xat : Int) (check1 : Int) (xat1 : Int) : Option (Sum (Int × Int × Int) Int) :=
  cond (decide (xat < (froma1.length : Int)))
    (
    oreq (decide (0 ≤ xat)) <|
    (froma1[xat.toNat]?).bind fun (b : UInt8) =>
    let t2 := wI .i64 ((wI .i64 (b.toNat : Int)) * 2 ^ 8)
    let t3 := decide ((wI .i64 (xat + 1)) < (froma1.length : Int))
    cond (t3)
      (
      oreq (decide (0 ≤ (wI .i64 (xat + 1)))) <|
      (froma1[(wI .i64 (xat + 1)).toNat]?).bind fun (b1 : UInt8) =>
      (octet_Get to xat1 2).bind fun xg =>
      (check_Turn check1 (iorI .i64 t2 (wI .i64 (b1.toNat : Int))) (wI .i64 xg.1)).bind fun t4 =>
      some (.inl (wI .i64 (xat + 2), t4, wI .i64 (xat1 + 2))))
      (
      (octet_Get to xat1 2).bind fun xg1 =>
      (check_Turn check1 t2 (wI .i64 xg1.1)).bind fun t5 =>
      some (.inl (wI .i64 (xat + 2), t5, wI .i64 (xat1 + 2)))))
    (
    some (.inr (check1)))
def check_TurnedF (check_Turn : Int → Int → Int → Option Int) (octet_Get : (List UInt8) → Int → Int → Option (Int × Bool)) (check : Int) (froma1 : List UInt8) (to : List UInt8) : Option Int :=
  let t := (froma1.length : Int) != (to.length : Int)
  cond (t)
    (
    some (check))
    (
    let t1 := decide (((froma1.length : Int).tmod 2) > 0)
    cond (t1)
      (
      some (check))
      (
      iter (fun st => check_Turned_s1 check_Turn octet_Get froma1 to st.1 st.2.1 st.2.2) FUEL (0, check, 0)))
def rx26 (x : Int) : SRes := ⟨.int .i64 x, [], []⟩
def r26 (g : Int → (List UInt8) → (List UInt8) → Option Int) : Dec := dV (asI .i64) fun (y0 : Int) => dV asS fun (y1 : List UInt8) => dV asS fun (y2 : List UInt8) => dEnd (ofG (g y0 y1 y2) rx26)
theorem r26_c {g : Int → (List UInt8) → (List UInt8) → Option Int} {y0 : Int} {y1 : List UInt8} {y2 : List UInt8} {x : Int} (hx : g y0 y1 y2 = some x) : r26 g [.int .i64 y0, .string ⟨⟨y1⟩⟩, .string ⟨⟨y2⟩⟩] [] = some (rx26 x) := (dV_eq (asI_c _)).trans ((dV_eq (asS_c)).trans ((dV_eq (asS_c)).trans (ofG_eq hx)))
def s26 (g : Int → (List UInt8) → (List UInt8) → Option Int) : Summ := ⟨[.v, .v, .v], r26 g⟩
theorem r26_eq {g : Int → (List UInt8) → (List UInt8) → Option Int} {y0 : Int} {y1 : List UInt8} {y2 : List UInt8} {x : Int} (hx : g y0 y1 y2 = some x) : (s26 g).run [.int .i64 y0, .string ⟨⟨y1⟩⟩, .string ⟨⟨y2⟩⟩] [] = some (rx26 x) := r26_c hx
abbrev sums26 (check_Turn : Int → Int → Int → Option Int) (octet_Get : (List UInt8) → Int → Int → Option (Int × Bool)) : List (Nat × Summ) := [(43, s43 check_Turn), (25, s25 octet_Get)]
def head26_1 (froma1 : List UInt8) (to : List UInt8) (xat : Int) (check1 : Int) (xat1 : Int) : VM :=
  ⟨⟨71, 32, [(0, .func (.yield 5) #[] #[]), (1, .pointer (some ⟨3, 0, none⟩)), (3, .int .i64 xat)], [.code k71_17, .inLoop k71_17, .inBlock 0], [], false, none⟩, [⟨26, 40, [(3, .pointer (some ⟨0, 0, none⟩))], [.inRangeFunc 5, .inBlock 0, .code k26_19], [4], false, none⟩], [(0, .cells [.int .i64 check1]), (1, .cells [.string ⟨⟨to⟩⟩]), (2, .cells [.int .i64 xat1]), (3, .cells [.string ⟨⟨froma1⟩⟩]), (4, .marks), (5, .loop ⟨.ready, none, 26, 40, [(3, .pointer (some ⟨0, 0, none⟩)), (5, .pointer (some ⟨1, 0, none⟩)), (7, .pointer (some ⟨2, 0, none⟩))], [25], k26_8, k26_14, 4⟩)], 6⟩
theorem loop26_1 (check_Turn : Int → Int → Int → Option Int) (octet_Get : (List UInt8) → Int → Int → Option (Int × Bool)) (hS : SumsOK Try.prog (aget (sums26 check_Turn octet_Get))) (froma1 : List UInt8) (to : List UInt8) (res : Int) : ∀ fuel (st : Int × Int × Int) (o : Int), iter (fun st => check_Turned_s1 check_Turn octet_Get froma1 to st.1 st.2.1 st.2.2) fuel st = some o → (o = res) →
    Leads Try.prog 26 0 (head26_1 froma1 to st.1 st.2.1 st.2.2) (fun v H _ => Res 0 (rx26 res) v H) := by
  intro fuel st o h hc
  refine iter_leads (head := fun st => head26_1 froma1 to st.1 st.2.1 st.2.2) (C := fun o => (o = res)) ?_ fuel st o h hc
  clear h hc o st fuel
  intro st o h hc
  obtain ⟨xat, check1, xat1⟩ := st
  replace h : check_Turned_s1 check_Turn octet_Get froma1 to xat check1 xat1 = some o := h
  show Leads Try.prog 26 0 (head26_1 froma1 to xat check1 xat1) (fun v H _ => Res 0 (rx26 res) v H)
  unfold check_Turned_s1 at h
  refine ev_ok tab_ok hS true 3000 ?_
  conv => whnf
  refine br.h2 h ?_ ?_ ?_
  · rfl
  · clear h; intro hb h; conv => whnf
    all_goals (cases h; cases hc; exact Res.z rfl rfl rfl)
  clear h; intro hb h; conv => whnf
  replace h := oreq.elim h; obtain ⟨hb, h⟩ := h
  first | (refine req.intro hb ?_; conv => whnf) | skip
  replace h := obind.elim h; obtain ⟨b, hy, h⟩ := h
  refine rdS.intro hy ?_
  conv => whnf
  let t2 : Int := wI .i64 ((wI .i64 (b.toNat : Int)) * 2 ^ 8)
  let t3 : Bool := decide ((wI .i64 (xat + 1)) < (froma1.length : Int))
  refine br.h2 h ?_ ?_ ?_
  · rfl
  · clear h; intro hb h; conv => whnf
    replace h := obind.elim h; obtain ⟨xg1, hy, h⟩ := h
    refine sumK.q rfl rfl (r25_eq hy) rfl rfl rfl ?_
    conv => whnf
    replace h := obind.elim h; obtain ⟨t5, hy, h⟩ := h
    refine sumK.q rfl rfl (r43_eq hy) rfl rfl rfl ?_
    conv => whnf
    cases h; simp only [Sum.elim_inl, head26_1] at hc
    exact lrA1 hc [(0, 0), (1, 1), (2, 2), (3, 3), (4, 4), (5, 5)] rfl
  clear h; intro hb h; conv => whnf
  replace h := oreq.elim h; obtain ⟨hb, h⟩ := h
  first | (refine req.intro hb ?_; conv => whnf) | skip
  replace h := obind.elim h; obtain ⟨b1, hy, h⟩ := h
  refine rdS.intro hy ?_
  conv => whnf
  replace h := obind.elim h; obtain ⟨xg, hy, h⟩ := h
  refine sumK.q rfl rfl (r25_eq hy) rfl rfl rfl ?_
  conv => whnf
  replace h := obind.elim h; obtain ⟨t4, hy, h⟩ := h
  refine sumK.q rfl rfl (r43_eq hy) rfl rfl rfl ?_
  conv => whnf
  cases h; simp only [Sum.elim_inl, head26_1] at hc
  exact lrA1 hc [(0, 0), (1, 1), (2, 2), (3, 3), (4, 4), (5, 5)] rfl
theorem leads26 (check_Turn : Int → Int → Int → Option Int) (octet_Get : (List UInt8) → Int → Int → Option (Int × Bool)) (hS : SumsOK Try.prog (aget (sums26 check_Turn octet_Get))) (check : Int) (froma1 : List UInt8) (to : List UInt8) (res : Int) (h : check_TurnedF check_Turn octet_Get check froma1 to = some res) :
    Leads Try.prog 26 0 ⟨⟨26, 40, [(0, .int .i64 check), (1, .string ⟨⟨froma1⟩⟩), (2, .string ⟨⟨to⟩⟩)], [.code k26_23], [], false, none⟩, [], [], 0⟩ (fun v H _ => Res 0 (rx26 res) v H) := by
  unfold check_TurnedF at h
  refine ev_ok tab_ok hS true 3000 ?_
  conv => whnf
  let t : Bool := (froma1.length : Int) != (to.length : Int)
  refine br.h h ?_ ?_ ?_
  · rfl
  · clear h; intro hb h; conv => whnf
    all_goals (cases h; exact Res.z rfl rfl rfl)
  clear h; intro hb h; conv => whnf
  let t1 : Bool := decide (((froma1.length : Int).tmod 2) > 0)
  refine br.h h ?_ ?_ ?_
  · rfl
  · clear h; intro hb h; conv => whnf
    all_goals (cases h; exact Res.z rfl rfl rfl)
  clear h; intro hb h; conv => whnf
  have hl := loop26_1 check_Turn octet_Get hS _ _ res _ _ _ h rfl; simp only [head26_1] at hl
  exact lrA1 hl [(0, 0), (1, 1), (2, 2), (3, 3), (4, 4), (5, 5)] rfl
theorem ok26 (check_Turn : Int → Int → Int → Option Int) (octet_Get : (List UInt8) → Int → Int → Option (Int × Bool)) (hS : SumsOK Try.prog (aget (sums26 check_Turn octet_Get))) : SumOK Try.prog 26 (s26 (check_TurnedF check_Turn octet_Get)) := by
  refine SumOK.of_leads tab_ok (fun ar os r ha hr => ?_) ⟨Try.f26, rfl, by decide, rfl⟩
  replace hr : r26 (check_TurnedF check_Turn octet_Get) ar (conts os) = some r := hr
  unfold r26 at hr
  generalize hc : conts os = C at hr
  replace hr := dV.elim hr; obtain ⟨v0, l1, y0, rfl, e0, hr⟩ := hr; obtain rfl := asI_eq _ _ _ e0
  replace hr := dV.elim hr; obtain ⟨v1, l2, y1, rfl, e1, hr⟩ := hr; obtain rfl := asS_eq _ _ e1
  replace hr := dV.elim hr; obtain ⟨v2, l3, y2, rfl, e2, hr⟩ := hr; obtain rfl := asS_eq _ _ e2
  replace hr := dFin hr; obtain ⟨rfl, rfl, x, h, rfl⟩ := hr
  obtain rfl := kinds_nil hc
  exact ⟨_, rfl, leads26 check_Turn octet_Get hS _ _ _ x h⟩
def check_Turned : Int → (List UInt8) → (List UInt8) → Option Int := check_TurnedF check_Turn octet_Get
theorem lift26 : SumOK Try.prog 26 (s26 check_Turned) := ok26 check_Turn octet_Get (SumsOK.of_tab ⟨lift43, lift25, trivial⟩)
end Go.Vm.Code
namespace Go.Vm.Code
open Go Go.Vm
def isW (n : Int) : Bool := decide (0 ≤ n ∧ n ≤ 65535)
theorem may_eq {l : List Int} (hl : l.length < 2 ^ 40) : check_may l = some (l.all isW) := by
  unfold check_may check_mayF
  have key := iter_eq (step := fun (st : Int) => check_may_s1 l st) (fun st => (l.drop st.toNat).all isW) (fun st => 0 ≤ st ∧ st ≤ l.length) (fun st => (l.length - st).toNat) ?_ FUEL 0 ⟨by omega, by omega⟩ (by rw [FUEL_eq]; omega)
  · rw [key]; simp
  rintro p ⟨g1, g2⟩
  obtain ⟨i, rfl⟩ := Int.eq_ofNat_of_zero_le g1
  simp only [Int.toNat_natCast]
  unfold check_may_s1
  by_cases hi : i < l.length
  · have e1 : (l.drop i).all isW = (isW l[i] && (l.drop (i + 1)).all isW) := by rw [List.drop_eq_getElem_cons hi]; rfl
    by_cases h1 : l[i] < 0
    · refine .inl ?_
      simp (disch := omega) only [cond_p, oreq_p, Int.toNat_natCast, List.getElem?_eq_getElem, Option.bind_some]
      rw [e1, show isW l[i] = false from decide_eq_false (by omega)]; rfl
    · by_cases h2 : l[i] > 65535
      · refine .inl ?_
        simp (disch := omega) only [cond_p, cond_n, oreq_p, Int.toNat_natCast, List.getElem?_eq_getElem, Option.bind_some]
        rw [e1, show isW l[i] = false from decide_eq_false (by omega)]; rfl
      · refine .inr ⟨((i + 1 : Nat) : Int), ?_, ⟨by omega, by omega⟩, by omega, ?_⟩
        · simp (disch := omega) only [cond_p, cond_n, oreq_p, Int.toNat_natCast, List.getElem?_eq_getElem, Option.bind_some, wI64]; rfl
        · simp only [Int.toNat_natCast]
          rw [e1, show isW l[i] = true from decide_eq_true (by omega)]; rfl
  · refine .inl ?_
    rw [cond_n (by omega), List.drop_eq_nil_of_le (by omega)]; rfl
def turnI (c f t : Int) : Int := if isW c && (isW f && isW t) then 65535 - ((norm ((65535 - c) + ((65535 - f) + t)).toNat : Nat) : Int) else 0
theorem isW_iff {n : Int} : isW n = true ↔ 0 ≤ n ∧ n ≤ 65535 := by unfold isW; rw [decide_eq_true_eq]
theorem turn_rng (c f t : Int) : isW (turnI c f t) = true := by
  rw [isW_iff]; unfold turnI
  have := norm_le ((65535 - c) + ((65535 - f) + t)).toNat
  split <;> omega
theorem Turn_eq {c f t : Int} : check_Turn c f t = some (turnI c f t) := by
  unfold check_Turn check_TurnF turnI
  rw [may_eq (by simp), Option.bind_some]
  simp only [List.all_cons, List.all_nil, Bool.and_true]
  cases hb : (isW c && (isW f && isW t)) with
  | false => rfl
  | true =>
    simp only [Bool.and_eq_true, isW_iff] at hb
    rw [Bool.not_true, cond_false]
    simp only [if_true]
    rw [wI64 (n := 65535 - c) (by omega) (by omega), wI64 (n := 65535 - c + 65535) (by omega) (by omega), wI64 (n := 65535 - c + 65535 - f) (by omega) (by omega), wI64 (n := 65535 - c + 65535 - f + t) (by omega) (by omega), fold_eq (by omega) (by omega), Option.bind_some]
    have e : 65535 - c + 65535 - f + t = 65535 - c + (65535 - f + t) := by omega
    have := norm_le (65535 - c + (65535 - f + t)).toNat
    rw [e, wI64 (by omega) (by omega)]
def turnedL (c : Int) : List Int → List Int → Int
  | x :: xs, y :: ys => turnedL (turnI c x y) xs ys
  | _, _ => c
def turnedS (c : Int) (a b : List UInt8) : Int := if a.length = b.length ∧ a.length % 2 = 0 then turnedL c (wordsL a) (wordsL b) else c
theorem Turned_eq {c : Int} {a b : List UInt8} (ha : a.length < 2 ^ 39) (hb : b.length < 2 ^ 39) : check_Turned c a b = some (turnedS c a b) := by
  unfold check_Turned check_TurnedF turnedS
  have e1 : ((a.length : Int) != (b.length : Int)) = decide (a.length ≠ b.length) := by
    rw [Bool.eq_iff_iff, bne_iff_ne, decide_eq_true_eq]; omega
  have e2 : (a.length : Int).tmod 2 > 0 ↔ ¬ a.length % 2 = 0 := by rw [Int.tmod_eq_emod_of_nonneg (by omega)]; omega
  simp only [e1]
  by_cases h1 : a.length ≠ b.length
  · rw [cond_p h1, if_neg (by omega)]
  rw [cond_n h1]
  by_cases h2 : a.length % 2 = 0
  · rw [cond_n (by rw [e2]; omega), if_pos (by omega)]
    have key := iter_eq (step := fun (st : Int × Int × Int) => check_Turned_s1 check_Turn octet_Get a b st.1 st.2.1 st.2.2) (fun st => turnedL st.2.1 (wordsL (a.drop st.1.toNat)) (wordsL (b.drop st.1.toNat))) (fun st => st.2.2 = st.1 ∧ ∃ i : Nat, st.1 = i ∧ i % 2 = 0 ∧ i ≤ a.length) (fun st => (a.length - st.1).toNat) ?_ FUEL (0, c, 0) ⟨rfl, 0, rfl, by omega, by omega⟩ (by rw [FUEL_eq]; simp only; omega)
    · rw [key]; simp
    rintro ⟨p, c1, p1⟩ ⟨g1, i, g2, g3, g4⟩
    simp only at g1 g2 ⊢
    subst g1 g2
    unfold check_Turned_s1
    by_cases hi : i < a.length
    · have hi2 : i + 1 < a.length := by omega
      have hj2 : i + 1 < b.length := by omega
      have b1 := a[i].toNat_lt
      have b2 := a[i + 1].toNat_lt
      have b3 := b[i].toNat_lt
      have b4 := b[i + 1].toNat_lt
      refine .inr ⟨(((i + 2 : Nat) : Int), turnI c1 ((a[i].toNat * 256 + a[i + 1].toNat : Nat) : Int) ((b[i].toNat * 256 + b[i + 1].toNat : Nat) : Int), ((i + 2 : Nat) : Int)), ?_, ⟨rfl, i + 2, rfl, by omega, by omega⟩, by simp only; omega, ?_⟩
      · have e5 : ((i : Int) + 1).toNat = i + 1 := by omega
        simp (disch := omega) only [wI64, oreq_p, cond_p, e5, Int.toNat_natCast, List.getElem?_eq_getElem, Option.bind_some, iorI64_low, octet_Get_eq, getS_two hj2, Turn_eq]
        congr 3 <;> (first | rfl | (congr 1 <;> omega) | omega)
      · simp only [Int.toNat_natCast]
        rw [wordsL_two hi2, wordsL_two hj2]; rfl
    · refine .inl ?_
      rw [cond_n (by omega)]
      simp [List.drop_eq_nil_of_le (by omega : a.length ≤ i), wordsL, turnedL]
  · rw [cond_p (by rw [e2]; omega), if_neg (by omega)]
theorem turnI_md {c x y : Int} (hc : isW c = true) (hx : isW x = true) (hy : isW y = true) : (turnI c x y + y - c - x) % 65535 = 0 := by
  unfold turnI
  rw [hc, hx, hy]
  simp only [Bool.and_self, if_true]
  rw [isW_iff] at hc hx hy
  have := norm_mod (65535 - c + (65535 - x + y)).toNat
  omega
theorem turnedL_md : ∀ (xs ys : List Int) (c : Int), xs.length = ys.length → (∀ e ∈ xs, 0 ≤ e ∧ e ≤ 65535) → (∀ e ∈ ys, 0 ≤ e ∧ e ≤ 65535) → isW c = true → isW (turnedL c xs ys) = true ∧ (turnedL c xs ys + ys.sum - c - xs.sum) % 65535 = 0
  | [], [], c, _, _, _, hc => ⟨hc, by simp [turnedL]⟩
  | [], _ :: _, _, h, _, _, _ => by simp at h
  | _ :: _, [], _, h, _, _, _ => by simp at h
  | x :: xs, y :: ys, c, h, hx, hy, hc => by
    have h1 := turnI_md hc (isW_iff.2 (hx x (by simp))) (isW_iff.2 (hy y (by simp)))
    obtain ⟨h2, h3⟩ := turnedL_md xs ys (turnI c x y) (by simpa using h) (fun e he => hx e (by simp [he])) (fun e he => hy e (by simp [he])) (turn_rng c x y)
    refine ⟨h2, ?_⟩
    simp only [turnedL, List.sum_cons]
    omega
theorem turnedS_md {c : Nat} {a b : List UInt8} (hl : a.length = b.length) (he : a.length % 2 = 0) (hc : c ≤ 65535) : ∃ d : Nat, turnedS (c : Int) a b = (d : Int) ∧ d ≤ 65535 ∧ (d + wsum b) % 65535 = (c + wsum a) % 65535 := by
  unfold turnedS
  rw [if_pos ⟨hl, he⟩]
  obtain ⟨t1, t2⟩ := turnedL_md (wordsL a) (wordsL b) (c : Int) (by rw [wordsL_len, wordsL_len, hl]) (wordsL_rng _) (wordsL_rng _) (isW_iff.2 (by omega))
  rw [wordsL_sum, wordsL_sum] at t2
  generalize turnedL (c : Int) (wordsL a) (wordsL b) = d at *
  rw [isW_iff] at t1
  obtain ⟨e, rfl⟩ := Int.eq_ofNat_of_zero_le t1.1
  exact ⟨e, rfl, by omega, by omega⟩
def sset (s : List UInt8) (p k n : Nat) : List UInt8 := s.take p ++ be n k ++ s.drop (p + k)
theorem sset_len {s : List UInt8} {p k n : Nat} (h : p + k ≤ s.length) : (sset s p k n).length = s.length := by simp [sset]; omega
theorem Set_sset {s : List UInt8} {p k : Nat} {n : Int} (hs : s.length < 2 ^ 40) (hn : 0 ≤ n) (h1 : 1 ≤ k) (h8 : k ≤ 8) (h : p + k ≤ s.length) : check_Set s (p : Int) (k : Int) n = some (sset s p k n.toNat) := by
  rw [Set_eq hs hn]; unfold setS
  rw [if_pos (by omega)]
  have e : ((p : Int) + k).toNat = p + k := by omega
  rw [e]; rfl
theorem sset_get {s : List UInt8} {p k n y : Nat} (h : p + k ≤ s.length) : (sset s p k n)[y]? = if y < p then s[y]? else if y < p + k then (be n k)[y - p]? else s[y]? := by
  unfold sset
  rw [List.append_assoc, List.getElem?_append]
  have e1 : (s.take p).length = p := by simp; omega
  rw [e1]
  by_cases h1 : y < p
  · rw [if_pos h1, if_pos h1, List.getElem?_take_of_lt h1]
  · rw [if_neg h1, if_neg h1, List.getElem?_append, be_len]
    by_cases h2 : y < p + k
    · rw [if_pos (by omega), if_pos h2]
    · rw [if_neg (by omega), if_neg h2, List.getElem?_drop]
      congr 1; omega
theorem slice_get {l : List UInt8} {q m x : Nat} : ((l.drop q).take m)[x]? = if x < m then l[q + x]? else none := by
  rw [List.getElem?_take]; split
  · rw [List.getElem?_drop]
  · rfl
theorem slice_same {s : List UInt8} {p k n : Nat} (h : p + k ≤ s.length) : ((sset s p k n).drop p).take k = be n k := by
  apply List.ext_getElem?
  intro x
  rw [slice_get, sset_get h]
  split
  · rw [if_neg (by omega), if_pos (by omega), Nat.add_sub_cancel_left]
  · rw [List.getElem?_eq_none (by simp; omega)]
theorem wsum_cut {s : List UInt8} {p k : Nat} (h : p + k ≤ s.length) (hp : p % 2 = 0) (hk : k % 2 = 0) : wsum s = wsum (s.take p) + (wsum ((s.drop p).take k) + wsum (s.drop (p + k))) := by
  rw [← List.drop_drop, ← wsum_append _ _ (by rw [List.length_take, List.length_drop]; omega), List.take_append_drop, ← wsum_append _ _ (by rw [List.length_take]; omega), List.take_append_drop]
theorem wsum_sset {s : List UInt8} {p k n : Nat} (h : p + k ≤ s.length) (hp : p % 2 = 0) (hk : k % 2 = 0) : wsum (sset s p k n) + wsum ((s.drop p).take k) = wsum s + wsum (be n k) := by
  rw [wsum_cut h hp hk]
  unfold sset
  rw [List.append_assoc, wsum_append _ _ (by rw [List.length_take]; omega), wsum_append _ _ (by rw [be_len]; omega)]
  omega
theorem wsum_be2 {n : Nat} (h : n < 65536) : wsum (be n 2) = n := by
  have e : be n 2 = [UInt8.ofNat (n / 256), UInt8.ofNat n] := by simp [be]
  rw [e, wsum, wsum]
  simp only [UInt8.toNat_ofNat']
  omega
theorem norm_zero_mod {n : Nat} (h : n % 65535 = 0) (h0 : n ≠ 0) : norm n = 65535 := norm_eq (by omega) (by omega) (by omega)
end Go.Vm.Code
namespace Go.Vm.Code
open Go Go.Vm Go.Proofs
set_option maxRecDepth 100000
set_option maxHeartbeats 4000000
set_option linter.unusedVariables false
def stamp_wordsF (s : List UInt8) (froma1 : Int) (to : Int) : Option (List UInt8) :=
  cond (decide (to > (s.length : Int)))
    (
    oreq (decide ((0 : Int) ≤ froma1 ∧ froma1 ≤ (s.length : Int))) <|
    let t := (s.drop froma1.toNat).take (s.length - froma1.toNat)
    oreq (decide (t.length + 1 < 2 ^ 63)) <|
    some (t ++ [0]))
    (
    oreq (decide ((0 : Int) ≤ to ∧ to ≤ (s.length : Int) ∧ (0 : Int) ≤ froma1 ∧ froma1 ≤ (to.toNat : Int))) <|
    let t1 := (s.drop froma1.toNat).take (to.toNat - froma1.toNat)
    some (t1))
def rx27 (x : List UInt8) : SRes := ⟨.string ⟨⟨x⟩⟩, [], []⟩
def r27 (g : (List UInt8) → Int → Int → Option (List UInt8)) : Dec := dV asS fun (y0 : List UInt8) => dV (asI .i64) fun (y1 : Int) => dV (asI .i64) fun (y2 : Int) => dEnd (ofG (g y0 y1 y2) rx27)
theorem r27_c {g : (List UInt8) → Int → Int → Option (List UInt8)} {y0 : List UInt8} {y1 : Int} {y2 : Int} {x : List UInt8} (hx : g y0 y1 y2 = some x) : r27 g [.string ⟨⟨y0⟩⟩, .int .i64 y1, .int .i64 y2] [] = some (rx27 x) := (dV_eq (asS_c)).trans ((dV_eq (asI_c _)).trans ((dV_eq (asI_c _)).trans (ofG_eq hx)))
def s27 (g : (List UInt8) → Int → Int → Option (List UInt8)) : Summ := ⟨[.v, .v, .v], r27 g⟩
theorem r27_eq {g : (List UInt8) → Int → Int → Option (List UInt8)} {y0 : List UInt8} {y1 : Int} {y2 : Int} {x : List UInt8} (hx : g y0 y1 y2 = some x) : (s27 g).run [.string ⟨⟨y0⟩⟩, .int .i64 y1, .int .i64 y2] [] = some (rx27 x) := r27_c hx
abbrev sums27 : List (Nat × Summ) := []
theorem leads27 (hS : SumsOK Try.prog (aget (sums27))) (s : List UInt8) (froma1 : Int) (to : Int) (res : List UInt8) (h : stamp_wordsF s froma1 to = some res) :
    Leads Try.prog 27 0 ⟨⟨27, 19, [(0, .string ⟨⟨s⟩⟩), (1, .int .i64 froma1), (2, .int .i64 to)], [.code k27_9], [], false, none⟩, [], [], 0⟩ (fun v H _ => Res 0 (rx27 res) v H) := by
  unfold stamp_wordsF at h
  refine ev_ok tab_ok hS true 3000 ?_
  conv => whnf
  refine br.h2 h ?_ ?_ ?_
  · rfl
  · clear h; intro hb h; conv => whnf
    replace h := oreq.elim h; obtain ⟨hb, h⟩ := h
    first | (refine req.intro hb ?_; conv => whnf) | skip
    let t1 : List UInt8 := (s.drop froma1.toNat).take (to.toNat - froma1.toNat)
    all_goals (cases h; exact Res.z rfl rfl rfl)
  clear h; intro hb h; conv => whnf
  replace h := oreq.elim h; obtain ⟨hb, h⟩ := h
  first | (refine req.intro hb ?_; conv => whnf) | skip
  let t : List UInt8 := (s.drop froma1.toNat).take (s.length - froma1.toNat)
  replace h := oreq.elim h; obtain ⟨hb, h⟩ := h
  first | (refine req.intro hb ?_; conv => whnf) | skip
  all_goals (cases h; exact Res.z rfl rfl rfl)
theorem ok27 (hS : SumsOK Try.prog (aget (sums27))) : SumOK Try.prog 27 (s27 (stamp_wordsF)) := by
  refine SumOK.of_leads tab_ok (fun ar os r ha hr => ?_) ⟨Try.f27, rfl, by decide, rfl⟩
  replace hr : r27 (stamp_wordsF) ar (conts os) = some r := hr
  unfold r27 at hr
  generalize hc : conts os = C at hr
  replace hr := dV.elim hr; obtain ⟨v0, l1, y0, rfl, e0, hr⟩ := hr; obtain rfl := asS_eq _ _ e0
  replace hr := dV.elim hr; obtain ⟨v1, l2, y1, rfl, e1, hr⟩ := hr; obtain rfl := asI_eq _ _ _ e1
  replace hr := dV.elim hr; obtain ⟨v2, l3, y2, rfl, e2, hr⟩ := hr; obtain rfl := asI_eq _ _ _ e2
  replace hr := dFin hr; obtain ⟨rfl, rfl, x, h, rfl⟩ := hr
  obtain rfl := kinds_nil hc
  exact ⟨_, rfl, leads27 hS _ _ _ x h⟩
def stamp_words : (List UInt8) → Int → Int → Option (List UInt8) := stamp_wordsF
theorem lift27 : SumOK Try.prog 27 (s27 stamp_words) := ok27 (SumsOK.of_tab trivial)
def stamp_PatchF (check_Set : (List UInt8) → Int → Int → Int → Option (List UInt8)) (check_Turned : Int → (List UInt8) → (List UInt8) → Option Int) (octet_Get : (List UInt8) → Int → Int → Option (Int × Bool)) (stamp_words : (List UInt8) → Int → Int → Option (List UInt8)) (body : List UInt8) (ata1 : Int) (witha2 : List UInt8) (sum : Int) : Option ((List UInt8) × Bool) :=
  cond (decide (ata1 < 0))
    (
    some (([], false)))
    (
    let t := wI .i64 ((body.length : Int) - (witha2.length : Int))
    cond (decide (t < ata1))
      (
      some (([], false)))
      (
      cond (decide (sum < 0))
        (
        some (([], false)))
        (
        cond ((sum.tmod 2) == 1)
          (
          some (([], false)))
          (
          let t1 := decide ((wI .i64 ((body.length : Int) - 2)) < sum)
          cond (t1)
            (
            some (([], false)))
            (
            cond (witha2 == [])
              (
              some ((body, true)))
              (
              cond (decide (ata1 < (wI .i64 (sum + 2))))
                (
                let t2 := decide (sum < (wI .i64 (ata1 + (witha2.length : Int))))
                cond (t2)
                  (
                  some (([], false)))
                  (
                  oreq (decide ((0 : Int) ≤ ata1 ∧ ata1 ≤ (body.length : Int))) <|
                  oreq (decide ((body.take ata1.toNat).length + witha2.length < 2 ^ 63)) <|
                  oreq (decide ((0 : Int) ≤ (wI .i64 (ata1 + (witha2.length : Int))) ∧ (wI .i64 (ata1 + (witha2.length : Int))) ≤ (body.length : Int))) <|
                  let t3 := (body.drop (wI .i64 (ata1 + (witha2.length : Int))).toNat).take (body.length - (wI .i64 (ata1 + (witha2.length : Int))).toNat)
                  oreq (decide (((body.take ata1.toNat) ++ witha2).length + t3.length < 2 ^ 63)) <|
                  let t4 := wI .i64 ((wI .i64 (ata1 + (witha2.length : Int))) + 1)
                  (octet_Get body sum 2).bind fun xg =>
                  (stamp_words body (andnI .i64 ata1 1) (andnI .i64 t4 1)).bind fun w =>
                  (stamp_words (((body.take ata1.toNat) ++ witha2) ++ t3) (andnI .i64 ata1 1) (andnI .i64 t4 1)).bind fun w1 =>
                  (check_Turned (wI .i64 xg.1) w w1).bind fun t5 =>
                  (check_Set (((body.take ata1.toNat) ++ witha2) ++ t3) sum 2 (wI .u64 t5)).bind fun s =>
                  some ((s, true))))
                (
                oreq (decide ((0 : Int) ≤ ata1 ∧ ata1 ≤ (body.length : Int))) <|
                oreq (decide ((body.take ata1.toNat).length + witha2.length < 2 ^ 63)) <|
                oreq (decide ((0 : Int) ≤ (wI .i64 (ata1 + (witha2.length : Int))) ∧ (wI .i64 (ata1 + (witha2.length : Int))) ≤ (body.length : Int))) <|
                let t6 := (body.drop (wI .i64 (ata1 + (witha2.length : Int))).toNat).take (body.length - (wI .i64 (ata1 + (witha2.length : Int))).toNat)
                oreq (decide (((body.take ata1.toNat) ++ witha2).length + t6.length < 2 ^ 63)) <|
                let t7 := wI .i64 ((wI .i64 (ata1 + (witha2.length : Int))) + 1)
                (octet_Get body sum 2).bind fun xg1 =>
                (stamp_words body (andnI .i64 ata1 1) (andnI .i64 t7 1)).bind fun w2 =>
                (stamp_words (((body.take ata1.toNat) ++ witha2) ++ t6) (andnI .i64 ata1 1) (andnI .i64 t7 1)).bind fun w3 =>
                (check_Turned (wI .i64 xg1.1) w2 w3).bind fun t8 =>
                (check_Set (((body.take ata1.toNat) ++ witha2) ++ t6) sum 2 (wI .u64 t8)).bind fun s1 =>
                some ((s1, true)))))))))
def rx11 (x : (List UInt8) × Bool) : SRes := ⟨.tuple ⟨[.string ⟨⟨x.1⟩⟩, .bool x.2]⟩, [], []⟩
def r11 (g : (List UInt8) → Int → (List UInt8) → Int → Option ((List UInt8) × Bool)) : Dec := dV asS fun (y0 : List UInt8) => dV (asI .i64) fun (y1 : Int) => dV asS fun (y2 : List UInt8) => dV (asI .i64) fun (y3 : Int) => dEnd (ofG (g y0 y1 y2 y3) rx11)
theorem r11_c {g : (List UInt8) → Int → (List UInt8) → Int → Option ((List UInt8) × Bool)} {y0 : List UInt8} {y1 : Int} {y2 : List UInt8} {y3 : Int} {x : (List UInt8) × Bool} (hx : g y0 y1 y2 y3 = some x) : r11 g [.string ⟨⟨y0⟩⟩, .int .i64 y1, .string ⟨⟨y2⟩⟩, .int .i64 y3] [] = some (rx11 x) := (dV_eq (asS_c)).trans ((dV_eq (asI_c _)).trans ((dV_eq (asS_c)).trans ((dV_eq (asI_c _)).trans (ofG_eq hx))))
def s11 (g : (List UInt8) → Int → (List UInt8) → Int → Option ((List UInt8) × Bool)) : Summ := ⟨[.v, .v, .v, .v], r11 g⟩
theorem r11_eq {g : (List UInt8) → Int → (List UInt8) → Int → Option ((List UInt8) × Bool)} {y0 : List UInt8} {y1 : Int} {y2 : List UInt8} {y3 : Int} {x : (List UInt8) × Bool} (hx : g y0 y1 y2 y3 = some x) : (s11 g).run [.string ⟨⟨y0⟩⟩, .int .i64 y1, .string ⟨⟨y2⟩⟩, .int .i64 y3] [] = some (rx11 x) := r11_c hx
abbrev sums11 (check_Set : (List UInt8) → Int → Int → Int → Option (List UInt8)) (check_Turned : Int → (List UInt8) → (List UInt8) → Option Int) (octet_Get : (List UInt8) → Int → Int → Option (Int × Bool)) (stamp_words : (List UInt8) → Int → Int → Option (List UInt8)) : List (Nat × Summ) := [(28, s28 check_Set), (26, s26 check_Turned), (25, s25 octet_Get), (27, s27 stamp_words)]
theorem leads11 (check_Set : (List UInt8) → Int → Int → Int → Option (List UInt8)) (check_Turned : Int → (List UInt8) → (List UInt8) → Option Int) (octet_Get : (List UInt8) → Int → Int → Option (Int × Bool)) (stamp_words : (List UInt8) → Int → Int → Option (List UInt8)) (hS : SumsOK Try.prog (aget (sums11 check_Set check_Turned octet_Get stamp_words))) (body : List UInt8) (ata1 : Int) (witha2 : List UInt8) (sum : Int) (res : (List UInt8) × Bool) (h : stamp_PatchF check_Set check_Turned octet_Get stamp_words body ata1 witha2 sum = some res) :
    Leads Try.prog 11 0 ⟨⟨11, 99, [(0, .string ⟨⟨body⟩⟩), (1, .int .i64 ata1), (2, .string ⟨⟨witha2⟩⟩), (3, .int .i64 sum)], [.code k11_30], [], false, none⟩, [], [], 0⟩ (fun v H _ => Res 0 (rx11 res) v H) := by
  unfold stamp_PatchF at h
  refine ev_ok tab_ok hS true 3000 ?_
  conv => whnf
  refine br.h h ?_ ?_ ?_
  · rfl
  · clear h; intro hb h; conv => whnf
    all_goals (cases h; exact Res.z rfl rfl rfl)
  clear h; intro hb h; conv => whnf
  let t : Int := wI .i64 ((body.length : Int) - (witha2.length : Int))
  refine br.h h ?_ ?_ ?_
  · rfl
  · clear h; intro hb h; conv => whnf
    all_goals (cases h; exact Res.z rfl rfl rfl)
  clear h; intro hb h; conv => whnf
  refine br.h h ?_ ?_ ?_
  · rfl
  · clear h; intro hb h; conv => whnf
    all_goals (cases h; exact Res.z rfl rfl rfl)
  clear h; intro hb h; conv => whnf
  refine br.h h ?_ ?_ ?_
  · rfl
  · clear h; intro hb h; conv => whnf
    all_goals (cases h; exact Res.z rfl rfl rfl)
  clear h; intro hb h; conv => whnf
  let t1 : Bool := decide ((wI .i64 ((body.length : Int) - 2)) < sum)
  refine br.h h ?_ ?_ ?_
  · rfl
  · clear h; intro hb h; conv => whnf
    all_goals (cases h; exact Res.z rfl rfl rfl)
  clear h; intro hb h; conv => whnf
  refine br.h h ?_ ?_ ?_
  · rfl
  · clear h; intro hb h; conv => whnf
    all_goals (cases h; exact Res.z rfl rfl rfl)
  clear h; intro hb h; conv => whnf
  refine br.h2 h ?_ ?_ ?_
  · rfl
  · clear h; intro hb h; conv => whnf
    replace h := oreq.elim h; obtain ⟨hb, h⟩ := h
    first | (refine req.intro hb ?_; conv => whnf) | skip
    replace h := oreq.elim h; obtain ⟨hb, h⟩ := h
    first | (refine req.intro hb ?_; conv => whnf) | skip
    replace h := oreq.elim h; obtain ⟨hb, h⟩ := h
    first | (refine req.intro hb ?_; conv => whnf) | skip
    let t6 : List UInt8 := (body.drop (wI .i64 (ata1 + (witha2.length : Int))).toNat).take (body.length - (wI .i64 (ata1 + (witha2.length : Int))).toNat)
    replace h := oreq.elim h; obtain ⟨hb, h⟩ := h
    first | (refine req.intro hb ?_; conv => whnf) | skip
    let t7 : Int := wI .i64 ((wI .i64 (ata1 + (witha2.length : Int))) + 1)
    replace h := obind.elim h; obtain ⟨xg1, hy, h⟩ := h
    refine sumK.q rfl rfl (r25_eq hy) rfl rfl rfl ?_
    conv => whnf
    replace h := obind.elim h; obtain ⟨w2, hy, h⟩ := h
    refine sumK.q rfl rfl (r27_eq hy) rfl rfl rfl ?_
    conv => whnf
    replace h := obind.elim h; obtain ⟨w3, hy, h⟩ := h
    refine sumK.q rfl rfl (r27_eq hy) rfl rfl rfl ?_
    conv => whnf
    replace h := obind.elim h; obtain ⟨t8, hy, h⟩ := h
    refine sumK.q rfl rfl (r26_eq hy) rfl rfl rfl ?_
    conv => whnf
    replace h := obind.elim h; obtain ⟨s1, hy, h⟩ := h
    refine sumK.q rfl rfl (r28_eq hy) rfl rfl rfl ?_
    conv => whnf
    all_goals (cases h; exact Res.z rfl rfl rfl)
  clear h; intro hb h; conv => whnf
  let t2 : Bool := decide (sum < (wI .i64 (ata1 + (witha2.length : Int))))
  refine br.h h ?_ ?_ ?_
  · rfl
  · clear h; intro hb h; conv => whnf
    all_goals (cases h; exact Res.z rfl rfl rfl)
  clear h; intro hb h; conv => whnf
  replace h := oreq.elim h; obtain ⟨hb, h⟩ := h
  first | (refine req.intro hb ?_; conv => whnf) | skip
  replace h := oreq.elim h; obtain ⟨hb, h⟩ := h
  first | (refine req.intro hb ?_; conv => whnf) | skip
  replace h := oreq.elim h; obtain ⟨hb, h⟩ := h
  first | (refine req.intro hb ?_; conv => whnf) | skip
  let t3 : List UInt8 := (body.drop (wI .i64 (ata1 + (witha2.length : Int))).toNat).take (body.length - (wI .i64 (ata1 + (witha2.length : Int))).toNat)
  replace h := oreq.elim h; obtain ⟨hb, h⟩ := h
  first | (refine req.intro hb ?_; conv => whnf) | skip
  let t4 : Int := wI .i64 ((wI .i64 (ata1 + (witha2.length : Int))) + 1)
  replace h := obind.elim h; obtain ⟨xg, hy, h⟩ := h
  refine sumK.q rfl rfl (r25_eq hy) rfl rfl rfl ?_
  conv => whnf
  replace h := obind.elim h; obtain ⟨w, hy, h⟩ := h
  refine sumK.q rfl rfl (r27_eq hy) rfl rfl rfl ?_
  conv => whnf
  replace h := obind.elim h; obtain ⟨w1, hy, h⟩ := h
  refine sumK.q rfl rfl (r27_eq hy) rfl rfl rfl ?_
  conv => whnf
  replace h := obind.elim h; obtain ⟨t5, hy, h⟩ := h
  refine sumK.q rfl rfl (r26_eq hy) rfl rfl rfl ?_
  conv => whnf
  replace h := obind.elim h; obtain ⟨s, hy, h⟩ := h
  refine sumK.q rfl rfl (r28_eq hy) rfl rfl rfl ?_
  conv => whnf
  all_goals (cases h; exact Res.z rfl rfl rfl)
theorem ok11 (check_Set : (List UInt8) → Int → Int → Int → Option (List UInt8)) (check_Turned : Int → (List UInt8) → (List UInt8) → Option Int) (octet_Get : (List UInt8) → Int → Int → Option (Int × Bool)) (stamp_words : (List UInt8) → Int → Int → Option (List UInt8)) (hS : SumsOK Try.prog (aget (sums11 check_Set check_Turned octet_Get stamp_words))) : SumOK Try.prog 11 (s11 (stamp_PatchF check_Set check_Turned octet_Get stamp_words)) := by
  refine SumOK.of_leads tab_ok (fun ar os r ha hr => ?_) ⟨Try.f11, rfl, by decide, rfl⟩
  replace hr : r11 (stamp_PatchF check_Set check_Turned octet_Get stamp_words) ar (conts os) = some r := hr
  unfold r11 at hr
  generalize hc : conts os = C at hr
  replace hr := dV.elim hr; obtain ⟨v0, l1, y0, rfl, e0, hr⟩ := hr; obtain rfl := asS_eq _ _ e0
  replace hr := dV.elim hr; obtain ⟨v1, l2, y1, rfl, e1, hr⟩ := hr; obtain rfl := asI_eq _ _ _ e1
  replace hr := dV.elim hr; obtain ⟨v2, l3, y2, rfl, e2, hr⟩ := hr; obtain rfl := asS_eq _ _ e2
  replace hr := dV.elim hr; obtain ⟨v3, l4, y3, rfl, e3, hr⟩ := hr; obtain rfl := asI_eq _ _ _ e3
  replace hr := dFin hr; obtain ⟨rfl, rfl, x, h, rfl⟩ := hr
  obtain rfl := kinds_nil hc
  exact ⟨_, rfl, leads11 check_Set check_Turned octet_Get stamp_words hS _ _ _ _ x h⟩
def stamp_Patch : (List UInt8) → Int → (List UInt8) → Int → Option ((List UInt8) × Bool) := stamp_PatchF check_Set check_Turned octet_Get stamp_words
theorem lift11 : SumOK Try.prog 11 (s11 stamp_Patch) := ok11 check_Set check_Turned octet_Get stamp_words (SumsOK.of_tab ⟨lift28, lift26, lift25, lift27, trivial⟩)
end Go.Vm.Code
namespace Go.Vm.Code
open Go Go.Vm
theorem andn1 : ∀ x : Fin 1024, andnI .i64 (x.val : Int) 1 = ((x.val / 2 * 2 : Nat) : Int) := by decide +kernel
theorem andn1_eq {n : Nat} (h : n < 1024) : andnI .i64 (n : Int) 1 = ((n / 2 * 2 : Nat) : Int) := andn1 ⟨n, h⟩
def patW (s : List UInt8) (f t : Nat) : List UInt8 := if s.length < t then s.drop f ++ [0] else (s.drop f).take (t - f)
theorem pwords_eq {s : List UInt8} {f t : Nat} (hs : s.length < 2 ^ 30) (hf : f ≤ s.length) (ht : f ≤ t) : stamp_words s (f : Int) (t : Int) = some (patW s f t) := by
  unfold stamp_words stamp_wordsF patW
  by_cases h : s.length < t
  · rw [if_pos h, cond_p (by omega), oreq_p (by omega), Int.toNat_natCast, List.take_of_length_le (by rw [List.length_drop]; omega)]
    simp only []
    rw [oreq_p (by rw [List.length_drop]; omega)]
  · rw [if_neg h, cond_n (by omega), oreq_p (by omega), Int.toNat_natCast, Int.toNat_natCast]
def repl (s : List UInt8) (i : Nat) (w : List UInt8) : List UInt8 := s.take i ++ w ++ s.drop (i + w.length)
theorem repl_len {s w : List UInt8} {i : Nat} (h : i + w.length ≤ s.length) : (repl s i w).length = s.length := by simp [repl]; omega
theorem repl_get {s w : List UInt8} {i k : Nat} (h : i + w.length ≤ s.length) : (repl s i w)[k]? = if k < i then s[k]? else if k < i + w.length then w[k - i]? else s[k]? := by
  unfold repl
  rw [List.append_assoc, List.getElem?_append]
  have e1 : (s.take i).length = i := by simp; omega
  rw [e1]
  by_cases h1 : k < i
  · rw [if_pos h1, if_pos h1, List.getElem?_take_of_lt h1]
  · rw [if_neg h1, if_neg h1, List.getElem?_append]
    by_cases h2 : k < i + w.length
    · rw [if_pos (by omega), if_pos h2]
    · rw [if_neg (by omega), if_neg h2, List.getElem?_drop]
      congr 1; omega
theorem repl_take {s w : List UInt8} {i f : Nat} (h : i + w.length ≤ s.length) (hf : f ≤ i) : (repl s i w).take f = s.take f := by
  apply List.ext_getElem?
  intro k
  rw [List.getElem?_take, List.getElem?_take]
  split
  · rw [repl_get h, if_pos (by omega)]
  · rfl
theorem repl_drop {s w : List UInt8} {i t : Nat} (h : i + w.length ≤ s.length) (ht : i + w.length ≤ t) : (repl s i w).drop t = s.drop t := by
  apply List.ext_getElem?
  intro k
  rw [List.getElem?_drop, List.getElem?_drop, repl_get h, if_neg (by omega), if_neg (by omega)]
theorem wsum_pad : ∀ s : List UInt8, s.length % 2 = 1 → wsum (s ++ [0]) = wsum s
  | [], h => by simp at h
  | [x], _ => by simp [wsum]
  | x :: y :: a, h => by
    have := wsum_pad a (by simp at h; omega)
    simp only [List.cons_append, wsum, this]
theorem wsum_patW {s : List UInt8} {f t : Nat} (hf : f % 2 = 0) (ht : t % 2 = 0) (h1 : f ≤ t) (h2 : t ≤ s.length + 1) (h3 : f ≤ s.length) : wsum s = wsum (s.take f) + (wsum (patW s f t) + wsum (s.drop t)) ∧ (patW s f t).length = t - f := by
  unfold patW
  by_cases h : s.length < t
  · rw [if_pos h]
    have hodd : (s.drop f).length % 2 = 1 := by rw [List.length_drop]; omega
    rw [wsum_pad _ hodd, List.drop_eq_nil_of_le (by omega : s.length ≤ t), show wsum [] = 0 from rfl]
    refine ⟨?_, by rw [List.length_append, List.length_drop, List.length_singleton]; omega⟩
    rw [Nat.add_zero, ← wsum_append _ _ (by rw [List.length_take]; omega), List.take_append_drop]
  · rw [if_neg h]
    refine ⟨?_, by rw [List.length_take, List.length_drop]; omega⟩
    have := wsum_cut (s := s) (p := f) (k := t - f) (by omega) hf (by omega)
    rw [show f + (t - f) = t by omega] at this
    exact this
def cAt (b : List UInt8) (j : Nat) : Nat := valL ((b.drop j).take 2)
theorem cAt_lt (b : List UInt8) (j : Nat) : cAt b j < 65536 := val_take_lt (k := 2) 65536 (by decide)
def patch36 (b : List UInt8) (i : Nat) (w : List UInt8) (j : Nat) : List UInt8 × Bool :=
  if b.length < i + w.length then ([], false) else if w = [] then (b, true) else if i < j + 2 ∧ j < i + w.length then ([], false) else
    (sset (repl b i w) j 2 (turnedS (cAt b j : Int) (patW b (i / 2 * 2) ((i + w.length + 1) / 2 * 2)) (patW (repl b i w) (i / 2 * 2) ((i + w.length + 1) / 2 * 2))).toNat, true)
theorem patch36_ok {b w : List UInt8} {i j : Nat} (hw : w ≠ []) (h1 : i + w.length ≤ b.length) (hj : j + 2 ≤ b.length) (hj2 : j % 2 = 0) (ho : j + 2 ≤ i ∨ i + w.length ≤ j) : ∃ d : Nat, turnedS (cAt b j : Int) (patW b (i / 2 * 2) ((i + w.length + 1) / 2 * 2)) (patW (repl b i w) (i / 2 * 2) ((i + w.length + 1) / 2 * 2)) = (d : Int) ∧ d ≤ 65535 ∧ (wsum (sset (repl b i w) j 2 d)) % 65535 = wsum b % 65535 := by
  have hl := repl_len h1
  have hwl : 0 < w.length := List.length_pos_iff.2 hw
  obtain ⟨a1, a2⟩ := wsum_patW (s := b) (f := i / 2 * 2) (t := (i + w.length + 1) / 2 * 2) (by omega) (by omega) (by omega) (by omega) (by omega)
  obtain ⟨b1, b2⟩ := wsum_patW (s := repl b i w) (f := i / 2 * 2) (t := (i + w.length + 1) / 2 * 2) (by omega) (by omega) (by omega) (by omega) (by omega)
  rw [repl_take h1 (by omega), repl_drop h1 (by omega)] at b1
  have hc := cAt_lt b j
  obtain ⟨d, e1, e2, e3⟩ := turnedS_md (c := cAt b j) (a := patW b (i / 2 * 2) ((i + w.length + 1) / 2 * 2)) (b := patW (repl b i w) (i / 2 * 2) ((i + w.length + 1) / 2 * 2)) (by rw [a2, b2]) (by rw [a2]; omega) (by omega)
  refine ⟨d, e1, e2, ?_⟩
  have s1 := wsum_sset (s := repl b i w) (p := j) (k := 2) (n := d) (by omega) hj2 (by omega)
  have s2 : ((repl b i w).drop j).take 2 = (b.drop j).take 2 := by
    apply List.ext_getElem?
    intro x
    rw [slice_get, slice_get]
    split
    · rw [repl_get h1]
      by_cases g : j + x < i
      · rw [if_pos g]
      · rw [if_neg g, if_neg (by omega)]
    · rfl
  have s3 : wsum ((b.drop j).take 2) = cAt b j := by
    have e : (b.drop j).take 2 = be (cAt b j) 2 := (be_val' (by rw [List.length_take, List.length_drop]; omega)).symm
    rw [e, wsum_be2 hc]
  rw [s2, s3, wsum_be2 (by omega)] at s1
  omega
def tail36 (body witha2 : List UInt8) (ata1 sum : Int) : Option (List UInt8 × Bool) :=
                  oreq (decide ((0 : Int) ≤ ata1 ∧ ata1 ≤ (body.length : Int))) <|
                  oreq (decide ((body.take ata1.toNat).length + witha2.length < 2 ^ 63)) <|
                  oreq (decide ((0 : Int) ≤ (wI .i64 (ata1 + (witha2.length : Int))) ∧ (wI .i64 (ata1 + (witha2.length : Int))) ≤ (body.length : Int))) <|
                  let t3 := (body.drop (wI .i64 (ata1 + (witha2.length : Int))).toNat).take (body.length - (wI .i64 (ata1 + (witha2.length : Int))).toNat)
                  oreq (decide (((body.take ata1.toNat) ++ witha2).length + t3.length < 2 ^ 63)) <|
                  let t4 := wI .i64 ((wI .i64 (ata1 + (witha2.length : Int))) + 1)
                  (octet_Get body sum 2).bind fun xg =>
                  (stamp_words body (andnI .i64 ata1 1) (andnI .i64 t4 1)).bind fun w =>
                  (stamp_words (((body.take ata1.toNat) ++ witha2) ++ t3) (andnI .i64 ata1 1) (andnI .i64 t4 1)).bind fun w1 =>
                  (check_Turned (wI .i64 xg.1) w w1).bind fun t5 =>
                  (check_Set (((body.take ata1.toNat) ++ witha2) ++ t3) sum 2 (wI .u64 t5)).bind fun s =>
                  some ((s, true))
theorem tail36_eq {b w : List UInt8} {i j : Nat} (hb : b.length < 1000) (hw : w ≠ []) (h1 : i + w.length ≤ b.length) (hj : j + 2 ≤ b.length) (hj2 : j % 2 = 0) (ho : j + 2 ≤ i ∨ i + w.length ≤ j) : tail36 b w (i : Int) (j : Int) = some (sset (repl b i w) j 2 (turnedS (cAt b j : Int) (patW b (i / 2 * 2) ((i + w.length + 1) / 2 * 2)) (patW (repl b i w) (i / 2 * 2) ((i + w.length + 1) / 2 * 2))).toNat, true) := by
  obtain ⟨d, e1, e2, e3⟩ := patch36_ok hw h1 hj hj2 ho
  have hwl : 0 < w.length := List.length_pos_iff.2 hw
  have hl := repl_len h1
  unfold tail36
  simp only []
  rw [wI64 (n := (i : Int) + (w.length : Int)) (by omega) (by omega), show (i : Int) + (w.length : Int) = ((i + w.length : Nat) : Int) by omega, wI64 (n := ((i + w.length : Nat) : Int) + 1) (by omega) (by omega), show ((i + w.length : Nat) : Int) + 1 = ((i + w.length + 1 : Nat) : Int) by omega, andn1_eq (by omega), andn1_eq (by omega)]
  simp only [Int.toNat_natCast, List.take_of_length_le (show (b.drop (i + w.length)).length ≤ b.length - (i + w.length) by rw [List.length_drop]; omega)]
  show oreq _ (oreq _ (oreq _ (oreq _ ((octet_Get b (j : Int) 2).bind fun xg => (stamp_words b ((i / 2 * 2 : Nat) : Int) (((i + w.length + 1) / 2 * 2 : Nat) : Int)).bind fun w' => (stamp_words (repl b i w) ((i / 2 * 2 : Nat) : Int) (((i + w.length + 1) / 2 * 2 : Nat) : Int)).bind fun w1 => (check_Turned (wI .i64 xg.1) w' w1).bind fun t5 => (check_Set (repl b i w) (j : Int) 2 (wI .u64 t5)).bind fun s => some ((s, true)))))) = _
  have hg : getS b (j : Int) 2 = ((cAt b j : Int), true) := by
    unfold getS cAt
    rw [if_pos (by omega), Int.toNat_natCast]; rfl
  have hc := cAt_lt b j
  obtain ⟨_, a2⟩ := wsum_patW (s := b) (f := i / 2 * 2) (t := (i + w.length + 1) / 2 * 2) (by omega) (by omega) (by omega) (by omega) (by omega)
  obtain ⟨_, b2⟩ := wsum_patW (s := repl b i w) (f := i / 2 * 2) (t := (i + w.length + 1) / 2 * 2) (by omega) (by omega) (by omega) (by omega) (by omega)
  rw [oreq_p (by omega), oreq_p (by rw [List.length_take]; omega), oreq_p (by omega), oreq_p (by rw [List.length_append, List.length_take, List.length_drop]; omega), octet_Get_eq (by omega), Option.bind_some, hg, pwords_eq (by omega) (by omega) (by omega), Option.bind_some, pwords_eq (by omega) (by omega) (by omega), Option.bind_some]
  simp only []
  rw [wI64 (by omega) (by omega), Turned_eq (by omega) (by omega), Option.bind_some, e1, wU64 (by omega) (by omega), show (2 : Int) = ((2 : Nat) : Int) from rfl, Set_sset (by omega) (by omega) (by omega) (by omega) (by omega), Option.bind_some]
theorem patch_eq {b w : List UInt8} {i j : Nat} (hb : b.length < 1000) (hw9 : w.length < 1000) (hi : i < 1000) (hj : j + 2 ≤ b.length) (hj2 : j % 2 = 0) : stamp_Patch b (i : Int) w (j : Int) = some (patch36 b i w j) := by
  unfold stamp_Patch stamp_PatchF patch36
  rw [cond_n (by omega), wI64 (n := (b.length : Int) - (w.length : Int)) (by omega) (by omega)]
  by_cases g1 : b.length < i + w.length
  · rw [if_pos g1, cond_p (by omega)]
  rw [if_neg g1, cond_n (by omega), cond_n (by omega), show ((j : Int).tmod 2 == 1) = false by rw [Int.tmod_eq_emod_of_nonneg (by omega), beq_eq_false_iff_ne]; omega, cond_false, wI64 (n := (b.length : Int) - 2) (by omega) (by omega)]
  simp only []
  rw [cond_n (by omega)]
  by_cases g2 : w = []
  · rw [if_pos g2, show (w == []) = true by simpa using g2, cond_true]
  rw [if_neg g2, show (w == []) = false by simpa using g2, cond_false, wI64 (n := (j : Int) + 2) (by omega) (by omega)]
  by_cases g3 : i < j + 2
  · rw [cond_p (by omega)]
    by_cases g4 : j < i + w.length
    · rw [if_pos ⟨g3, g4⟩, wI64 (n := (i : Int) + (w.length : Int)) (by omega) (by omega), cond_p (by omega)]
    · rw [if_neg (by omega), cond_n (by rw [wI64 (by omega) (by omega)]; omega)]
      exact tail36_eq hb g2 (by omega) hj hj2 (by omega)
  · rw [if_neg (by omega), cond_n (by omega)]
    exact tail36_eq hb g2 (by omega) hj hj2 (by omega)
end Go.Vm.Code
namespace Go.Vm.Code
open Go Go.Vm Go.Proofs
set_option maxRecDepth 100000
set_option maxHeartbeats 4000000
set_option linter.unusedVariables false
def octet_Reader_BadF (ra0 : octet_Reader) : Option (Bool × octet_Reader) :=
  cond (!ra0.made)
    (
    some ((true, ra0)))
    (
    some ((ra0.bad, ra0)))
def rx105 (x : Bool × octet_Reader) : SRes := ⟨.bool x.1, [], [some [.string ⟨⟨x.2.s⟩⟩, .bool x.2.made, .bool x.2.bad]]⟩
def r105 (g : octet_Reader → Option (Bool × octet_Reader)) : Dec := dPt 0 unoctet_Reader fun (y0 : octet_Reader) => dEnd (ofG (g y0) rx105)
theorem r105_c {g : octet_Reader → Option (Bool × octet_Reader)} {y0 : octet_Reader} {x : Bool × octet_Reader} (hx : g y0 = some x) : r105 g [.pointer (some ⟨0, 0, none⟩)] [some [.string ⟨⟨y0.s⟩⟩, .bool y0.made, .bool y0.bad]] = some (rx105 x) := (dPt_eq (unoctet_Reader_c _)).trans (ofG_eq hx)
def s105 (g : octet_Reader → Option (Bool × octet_Reader)) : Summ := ⟨[.pt 3], r105 g⟩
theorem r105_eq {g : octet_Reader → Option (Bool × octet_Reader)} {y0 : octet_Reader} {x : Bool × octet_Reader} (hx : g y0 = some x) : (s105 g).run [.pointer (some ⟨0, 0, none⟩)] [some [.string ⟨⟨y0.s⟩⟩, .bool y0.made, .bool y0.bad]] = some (rx105 x) := r105_c hx
abbrev sums105 : List (Nat × Summ) := []
theorem leads105 (hS : SumsOK Try.prog (aget (sums105))) (ra0 : octet_Reader) (res : Bool × octet_Reader) (h : octet_Reader_BadF ra0 = some res) :
    Leads Try.prog 105 1 ⟨⟨105, 18, [(0, .pointer (some ⟨0, 0, none⟩))], [.code k105_3], [], false, none⟩, [], [(0, .cells [.string ⟨⟨ra0.s⟩⟩, .bool ra0.made, .bool ra0.bad])], 1⟩ (fun v H _ => Res 1 (rx105 res) v H) := by
  unfold octet_Reader_BadF at h
  refine ev_ok tab_ok hS true 3000 ?_
  conv => whnf
  refine br.h h ?_ ?_ ?_
  · rfl
  · clear h; intro hb h; conv => whnf
    all_goals (cases h)
    all_goals exact Res.of [] rfl nw_0 (by decide) js_0 (wr_s (rfl) (hs_cells rfl) wr_0)
  clear h; intro hb h; conv => whnf
  all_goals (cases h)
  all_goals exact Res.of [] rfl nw_0 (by decide) js_0 (wr_s (rfl) (hs_cells rfl) wr_0)
theorem ok105 (hS : SumsOK Try.prog (aget (sums105))) : SumOK Try.prog 105 (s105 (octet_Reader_BadF)) := by
  refine SumOK.of_leads tab_ok (fun ar os r ha hr => ?_) ⟨Try.f105, rfl, by decide, rfl⟩
  replace hr : r105 (octet_Reader_BadF) ar (conts os) = some r := hr
  unfold r105 at hr
  generalize hc : conts os = C at hr
  have hq := dPt.elim hr; clear hr; obtain ⟨c0, l1, C, y0, rfl, rfl, e0, hr⟩ := hq; obtain rfl := unoctet_Reader_eq _ _ e0
  replace hr := dFin hr; obtain ⟨rfl, rfl, x, h, rfl⟩ := hr
  obtain ⟨os, rfl, ha, hc⟩ := kinds_some ha hc
  obtain rfl := kinds_nil hc
  exact ⟨_, rfl, leads105 hS _ x h⟩
def octet_Reader_Bad : octet_Reader → Option (Bool × octet_Reader) := octet_Reader_BadF
theorem lift105 : SumOK Try.prog 105 (s105 octet_Reader_Bad) := ok105 (SumsOK.of_tab trivial)
def octet_Reader_TextF (octet_Reader_Bad : octet_Reader → Option (Bool × octet_Reader)) (ra0 : octet_Reader) (n : Int) : Option ((List UInt8) × octet_Reader) :=
  (octet_Reader_Bad ra0).bind fun b =>
  cond (b.1)
    (
    some (([], b.2)))
    (
    cond (decide (n < 0))
      (
      some (([], octet_Reader.mk b.2.s b.2.made true)))
      (
      cond (decide (n > (b.2.s.length : Int)))
        (
        some (([], octet_Reader.mk b.2.s b.2.made true)))
        (
        oreq (decide ((0 : Int) ≤ n ∧ n ≤ (b.2.s.length : Int))) <|
        oreq (decide ((0 : Int) ≤ n ∧ n ≤ (b.2.s.length : Int))) <|
        let t := (b.2.s.drop n.toNat).take (b.2.s.length - n.toNat)
        some ((b.2.s.take n.toNat, octet_Reader.mk t b.2.made b.2.bad)))))
def rx106 (x : (List UInt8) × octet_Reader) : SRes := ⟨.string ⟨⟨x.1⟩⟩, [], [some [.string ⟨⟨x.2.s⟩⟩, .bool x.2.made, .bool x.2.bad]]⟩
def r106 (g : octet_Reader → Int → Option ((List UInt8) × octet_Reader)) : Dec := dPt 0 unoctet_Reader fun (y0 : octet_Reader) => dV (asI .i64) fun (y1 : Int) => dEnd (ofG (g y0 y1) rx106)
theorem r106_c {g : octet_Reader → Int → Option ((List UInt8) × octet_Reader)} {y0 : octet_Reader} {y1 : Int} {x : (List UInt8) × octet_Reader} (hx : g y0 y1 = some x) : r106 g [.pointer (some ⟨0, 0, none⟩), .int .i64 y1] [some [.string ⟨⟨y0.s⟩⟩, .bool y0.made, .bool y0.bad]] = some (rx106 x) := (dPt_eq (unoctet_Reader_c _)).trans ((dV_eq (asI_c _)).trans (ofG_eq hx))
def s106 (g : octet_Reader → Int → Option ((List UInt8) × octet_Reader)) : Summ := ⟨[.pt 3, .v], r106 g⟩
theorem r106_eq {g : octet_Reader → Int → Option ((List UInt8) × octet_Reader)} {y0 : octet_Reader} {y1 : Int} {x : (List UInt8) × octet_Reader} (hx : g y0 y1 = some x) : (s106 g).run [.pointer (some ⟨0, 0, none⟩), .int .i64 y1] [some [.string ⟨⟨y0.s⟩⟩, .bool y0.made, .bool y0.bad]] = some (rx106 x) := r106_c hx
abbrev sums106 (octet_Reader_Bad : octet_Reader → Option (Bool × octet_Reader)) : List (Nat × Summ) := [(105, s105 octet_Reader_Bad)]
theorem leads106 (octet_Reader_Bad : octet_Reader → Option (Bool × octet_Reader)) (hS : SumsOK Try.prog (aget (sums106 octet_Reader_Bad))) (ra0 : octet_Reader) (n : Int) (res : (List UInt8) × octet_Reader) (h : octet_Reader_TextF octet_Reader_Bad ra0 n = some res) :
    Leads Try.prog 106 1 ⟨⟨106, 38, [(0, .pointer (some ⟨0, 0, none⟩)), (1, .int .i64 n)], [.code k106_21], [], false, none⟩, [], [(0, .cells [.string ⟨⟨ra0.s⟩⟩, .bool ra0.made, .bool ra0.bad])], 1⟩ (fun v H _ => Res 1 (rx106 res) v H) := by
  unfold octet_Reader_TextF at h
  refine ev_ok tab_ok hS true 3000 ?_
  conv => whnf
  replace h := obind.elim h; obtain ⟨b, hy, h⟩ := h
  refine sumK.introF [0] (sumRun_of (aqs := [.pointer (some ⟨0, 0, none⟩)]) (ws := [.win 0 0 3 true]) (n := 0) (m := 0) (t' := 1) (ra_cons rfl rfl ra_nil) rfl (by rfl) (r105_eq hy) rfl rfl rfl rfl (wb_win rfl rfl rfl ⟨rfl, Nat.le_of_ble_eq_true rfl⟩ rfl rfl wb_nil) an_nil rfl) ?_
  conv => whnf
  refine br.h h ?_ ?_ ?_
  · rfl
  · clear h; intro hb h; conv => whnf
    all_goals (cases h)
    all_goals exact Res.of [] rfl nw_0 (by decide) js_0 (wr_s (rfl) (hs_cells rfl) wr_0)
  clear h; intro hb h; conv => whnf
  refine br.h h ?_ ?_ ?_
  · rfl
  · clear h; intro hb h; conv => whnf
    all_goals (cases h)
    all_goals exact Res.of [] rfl nw_0 (by decide) js_0 (wr_s (rfl) (hs_cells rfl) wr_0)
  clear h; intro hb h; conv => whnf
  refine br.h h ?_ ?_ ?_
  · rfl
  · clear h; intro hb h; conv => whnf
    all_goals (cases h)
    all_goals exact Res.of [] rfl nw_0 (by decide) js_0 (wr_s (rfl) (hs_cells rfl) wr_0)
  clear h; intro hb h; conv => whnf
  replace h := oreq.elim h; obtain ⟨hb, h⟩ := h
  first | (refine req.intro hb ?_; conv => whnf) | skip
  replace h := oreq.elim h; obtain ⟨hb, h⟩ := h
  first | (refine req.intro hb ?_; conv => whnf) | skip
  let t : List UInt8 := (b.2.s.drop n.toNat).take (b.2.s.length - n.toNat)
  all_goals (cases h)
  all_goals exact Res.of [] rfl nw_0 (by decide) js_0 (wr_s (rfl) (hs_cells rfl) wr_0)
theorem ok106 (octet_Reader_Bad : octet_Reader → Option (Bool × octet_Reader)) (hS : SumsOK Try.prog (aget (sums106 octet_Reader_Bad))) : SumOK Try.prog 106 (s106 (octet_Reader_TextF octet_Reader_Bad)) := by
  refine SumOK.of_leads tab_ok (fun ar os r ha hr => ?_) ⟨Try.f106, rfl, by decide, rfl⟩
  replace hr : r106 (octet_Reader_TextF octet_Reader_Bad) ar (conts os) = some r := hr
  unfold r106 at hr
  generalize hc : conts os = C at hr
  have hq := dPt.elim hr; clear hr; obtain ⟨c0, l1, C, y0, rfl, rfl, e0, hr⟩ := hq; obtain rfl := unoctet_Reader_eq _ _ e0
  replace hr := dV.elim hr; obtain ⟨v1, l2, y1, rfl, e1, hr⟩ := hr; obtain rfl := asI_eq _ _ _ e1
  replace hr := dFin hr; obtain ⟨rfl, rfl, x, h, rfl⟩ := hr
  obtain ⟨os, rfl, ha, hc⟩ := kinds_some ha hc
  obtain rfl := kinds_nil hc
  exact ⟨_, rfl, leads106 octet_Reader_Bad hS _ _ x h⟩
def octet_Reader_Text : octet_Reader → Int → Option ((List UInt8) × octet_Reader) := octet_Reader_TextF octet_Reader_Bad
theorem lift106 : SumOK Try.prog 106 (s106 octet_Reader_Text) := ok106 octet_Reader_Bad (SumsOK.of_tab ⟨lift105, trivial⟩)
def octet_Reader_NumF (octet_Get : (List UInt8) → Int → Int → Option (Int × Bool)) (octet_Reader_Text : octet_Reader → Int → Option ((List UInt8) × octet_Reader)) (ra0 : octet_Reader) (k : Int) : Option (Int × octet_Reader) :=
  cond (decide (k < 1))
    (
    (octet_Reader_Text ra0 (-1)).bind fun t =>
    (octet_Get t.1 0 (-1)).bind fun xg =>
    some ((wI .i64 xg.1, t.2)))
    (
    cond (decide (k > 7))
      (
      (octet_Reader_Text ra0 (-1)).bind fun t1 =>
      (octet_Get t1.1 0 (-1)).bind fun xg1 =>
      some ((wI .i64 xg1.1, t1.2)))
      (
      (octet_Reader_Text ra0 k).bind fun t2 =>
      (octet_Get t2.1 0 k).bind fun xg2 =>
      some ((wI .i64 xg2.1, t2.2))))
def rx104 (x : Int × octet_Reader) : SRes := ⟨.int .i64 x.1, [], [some [.string ⟨⟨x.2.s⟩⟩, .bool x.2.made, .bool x.2.bad]]⟩
def r104 (g : octet_Reader → Int → Option (Int × octet_Reader)) : Dec := dPt 0 unoctet_Reader fun (y0 : octet_Reader) => dV (asI .i64) fun (y1 : Int) => dEnd (ofG (g y0 y1) rx104)
theorem r104_c {g : octet_Reader → Int → Option (Int × octet_Reader)} {y0 : octet_Reader} {y1 : Int} {x : Int × octet_Reader} (hx : g y0 y1 = some x) : r104 g [.pointer (some ⟨0, 0, none⟩), .int .i64 y1] [some [.string ⟨⟨y0.s⟩⟩, .bool y0.made, .bool y0.bad]] = some (rx104 x) := (dPt_eq (unoctet_Reader_c _)).trans ((dV_eq (asI_c _)).trans (ofG_eq hx))
def s104 (g : octet_Reader → Int → Option (Int × octet_Reader)) : Summ := ⟨[.pt 3, .v], r104 g⟩
theorem r104_eq {g : octet_Reader → Int → Option (Int × octet_Reader)} {y0 : octet_Reader} {y1 : Int} {x : Int × octet_Reader} (hx : g y0 y1 = some x) : (s104 g).run [.pointer (some ⟨0, 0, none⟩), .int .i64 y1] [some [.string ⟨⟨y0.s⟩⟩, .bool y0.made, .bool y0.bad]] = some (rx104 x) := r104_c hx
abbrev sums104 (octet_Get : (List UInt8) → Int → Int → Option (Int × Bool)) (octet_Reader_Text : octet_Reader → Int → Option ((List UInt8) × octet_Reader)) : List (Nat × Summ) := [(25, s25 octet_Get), (106, s106 octet_Reader_Text)]
theorem leads104 (octet_Get : (List UInt8) → Int → Int → Option (Int × Bool)) (octet_Reader_Text : octet_Reader → Int → Option ((List UInt8) × octet_Reader)) (hS : SumsOK Try.prog (aget (sums104 octet_Get octet_Reader_Text))) (ra0 : octet_Reader) (k : Int) (res : Int × octet_Reader) (h : octet_Reader_NumF octet_Get octet_Reader_Text ra0 k = some res) :
    Leads Try.prog 104 1 ⟨⟨104, 23, [(0, .pointer (some ⟨0, 0, none⟩)), (1, .int .i64 k)], [.code k104_10], [], false, none⟩, [], [(0, .cells [.string ⟨⟨ra0.s⟩⟩, .bool ra0.made, .bool ra0.bad])], 1⟩ (fun v H _ => Res 1 (rx104 res) v H) := by
  unfold octet_Reader_NumF at h
  refine ev_ok tab_ok hS true 3000 ?_
  conv => whnf
  refine br.h h ?_ ?_ ?_
  · rfl
  · clear h; intro hb h; conv => whnf
    replace h := obind.elim h; obtain ⟨t, hy, h⟩ := h
    refine sumK.introF [0] (sumRun_of (aqs := [.pointer (some ⟨0, 0, none⟩), .int .i64 (-1)]) (ws := [.win 0 0 3 true]) (n := 0) (m := 0) (t' := 1) (ra_cons rfl rfl (ra_cons rfl rfl ra_nil)) rfl (by rfl) (r106_eq hy) rfl rfl rfl rfl (wb_win rfl rfl rfl ⟨rfl, Nat.le_of_ble_eq_true rfl⟩ rfl rfl wb_nil) an_nil rfl) ?_
    conv => whnf
    replace h := obind.elim h; obtain ⟨xg, hy, h⟩ := h
    refine sumK.q rfl rfl (r25_eq hy) rfl rfl rfl ?_
    conv => whnf
    all_goals (cases h)
    all_goals exact Res.of [] rfl nw_0 (by decide) js_0 (wr_s (rfl) (hs_cells rfl) wr_0)
  clear h; intro hb h; conv => whnf
  refine br.h h ?_ ?_ ?_
  · rfl
  · clear h; intro hb h; conv => whnf
    replace h := obind.elim h; obtain ⟨t1, hy, h⟩ := h
    refine sumK.introF [0] (sumRun_of (aqs := [.pointer (some ⟨0, 0, none⟩), .int .i64 (-1)]) (ws := [.win 0 0 3 true]) (n := 0) (m := 0) (t' := 1) (ra_cons rfl rfl (ra_cons rfl rfl ra_nil)) rfl (by rfl) (r106_eq hy) rfl rfl rfl rfl (wb_win rfl rfl rfl ⟨rfl, Nat.le_of_ble_eq_true rfl⟩ rfl rfl wb_nil) an_nil rfl) ?_
    conv => whnf
    replace h := obind.elim h; obtain ⟨xg1, hy, h⟩ := h
    refine sumK.q rfl rfl (r25_eq hy) rfl rfl rfl ?_
    conv => whnf
    all_goals (cases h)
    all_goals exact Res.of [] rfl nw_0 (by decide) js_0 (wr_s (rfl) (hs_cells rfl) wr_0)
  clear h; intro hb h; conv => whnf
  replace h := obind.elim h; obtain ⟨t2, hy, h⟩ := h
  refine sumK.introF [0] (sumRun_of (aqs := [.pointer (some ⟨0, 0, none⟩), .int .i64 k]) (ws := [.win 0 0 3 true]) (n := 0) (m := 0) (t' := 1) (ra_cons rfl rfl (ra_cons rfl rfl ra_nil)) rfl (by rfl) (r106_eq hy) rfl rfl rfl rfl (wb_win rfl rfl rfl ⟨rfl, Nat.le_of_ble_eq_true rfl⟩ rfl rfl wb_nil) an_nil rfl) ?_
  conv => whnf
  replace h := obind.elim h; obtain ⟨xg2, hy, h⟩ := h
  refine sumK.q rfl rfl (r25_eq hy) rfl rfl rfl ?_
  conv => whnf
  all_goals (cases h)
  all_goals exact Res.of [] rfl nw_0 (by decide) js_0 (wr_s (rfl) (hs_cells rfl) wr_0)
theorem ok104 (octet_Get : (List UInt8) → Int → Int → Option (Int × Bool)) (octet_Reader_Text : octet_Reader → Int → Option ((List UInt8) × octet_Reader)) (hS : SumsOK Try.prog (aget (sums104 octet_Get octet_Reader_Text))) : SumOK Try.prog 104 (s104 (octet_Reader_NumF octet_Get octet_Reader_Text)) := by
  refine SumOK.of_leads tab_ok (fun ar os r ha hr => ?_) ⟨Try.f104, rfl, by decide, rfl⟩
  replace hr : r104 (octet_Reader_NumF octet_Get octet_Reader_Text) ar (conts os) = some r := hr
  unfold r104 at hr
  generalize hc : conts os = C at hr
  have hq := dPt.elim hr; clear hr; obtain ⟨c0, l1, C, y0, rfl, rfl, e0, hr⟩ := hq; obtain rfl := unoctet_Reader_eq _ _ e0
  replace hr := dV.elim hr; obtain ⟨v1, l2, y1, rfl, e1, hr⟩ := hr; obtain rfl := asI_eq _ _ _ e1
  replace hr := dFin hr; obtain ⟨rfl, rfl, x, h, rfl⟩ := hr
  obtain ⟨os, rfl, ha, hc⟩ := kinds_some ha hc
  obtain rfl := kinds_nil hc
  exact ⟨_, rfl, leads104 octet_Get octet_Reader_Text hS _ _ x h⟩
def octet_Reader_Num : octet_Reader → Int → Option (Int × octet_Reader) := octet_Reader_NumF octet_Get octet_Reader_Text
theorem lift104 : SumOK Try.prog 104 (s104 octet_Reader_Num) := ok104 octet_Get octet_Reader_Text (SumsOK.of_tab ⟨lift25, lift106, trivial⟩)
def octet_NewF (s : List UInt8) : Option octet_Reader :=
  some (octet_Reader.mk s true false)
def rx103 (x : octet_Reader) : SRes := ⟨.pointer (some ⟨0, 0, none⟩), [[.string ⟨⟨x.s⟩⟩, .bool x.made, .bool x.bad]], []⟩
def r103 (g : (List UInt8) → Option octet_Reader) : Dec := dV asS fun (y0 : List UInt8) => dEnd (ofG (g y0) rx103)
theorem r103_c {g : (List UInt8) → Option octet_Reader} {y0 : List UInt8} {x : octet_Reader} (hx : g y0 = some x) : r103 g [.string ⟨⟨y0⟩⟩] [] = some (rx103 x) := (dV_eq (asS_c)).trans (ofG_eq hx)
def s103 (g : (List UInt8) → Option octet_Reader) : Summ := ⟨[.v], r103 g⟩
theorem r103_eq {g : (List UInt8) → Option octet_Reader} {y0 : List UInt8} {x : octet_Reader} (hx : g y0 = some x) : (s103 g).run [.string ⟨⟨y0⟩⟩] [] = some (rx103 x) := r103_c hx
abbrev sums103 : List (Nat × Summ) := []
theorem leads103 (hS : SumsOK Try.prog (aget (sums103))) (s : List UInt8) (res : octet_Reader) (h : octet_NewF s = some res) :
    Leads Try.prog 103 0 ⟨⟨103, 6, [(0, .string ⟨⟨s⟩⟩)], [.code k103_3], [], false, none⟩, [], [], 0⟩ (fun v H _ => Res 0 (rx103 res) v H) := by
  unfold octet_NewF at h
  refine ev_ok tab_ok hS true 3000 ?_
  conv => whnf
  all_goals (cases h)
  all_goals exact Res.of [0] rfl (nw_s (rfl) (hs_cells rfl) nw_0) (by decide) (js_l (by decide) js_0) wr_0
theorem ok103 (hS : SumsOK Try.prog (aget (sums103))) : SumOK Try.prog 103 (s103 (octet_NewF)) := by
  refine SumOK.of_leads tab_ok (fun ar os r ha hr => ?_) ⟨Try.f103, rfl, by decide, rfl⟩
  replace hr : r103 (octet_NewF) ar (conts os) = some r := hr
  unfold r103 at hr
  generalize hc : conts os = C at hr
  replace hr := dV.elim hr; obtain ⟨v0, l1, y0, rfl, e0, hr⟩ := hr; obtain rfl := asS_eq _ _ e0
  replace hr := dFin hr; obtain ⟨rfl, rfl, x, h, rfl⟩ := hr
  obtain rfl := kinds_nil hc
  exact ⟨_, rfl, leads103 hS _ x h⟩
def octet_New : (List UInt8) → Option octet_Reader := octet_NewF
theorem lift103 : SumOK Try.prog 103 (s103 octet_New) := ok103 (SumsOK.of_tab trivial)
end Go.Vm.Code
namespace Go.Vm.Code
open Go Go.Vm
end Go.Vm.Code
namespace Go.Vm.Code
open Go Go.Vm Go.Proofs
set_option maxRecDepth 100000
set_option maxHeartbeats 4000000
set_option linter.unusedVariables false
def R07_Small_s1 (l : List (List UInt8)) (most : Int) (i : Int) : Option (Sum Int Bool) :=
  cond (decide (i < (l.length : Int)))
    (
    oreq (decide ((0 : Int) ≤ i ∧ i < (l.length : Int))) <|
    (l[i.toNat]?).bind fun (e : List UInt8) =>
    cond (decide ((e.length : Int) > most))
      (
      some (.inr (false)))
      (
      some (.inl (wI .i64 (i + 1)))))
    (
    some (.inr (true)))
def R07_SmallF (l : List (List UInt8)) (most : Int) : Option Bool :=
  iter (fun st => R07_Small_s1 l most st) FUEL 0
def rx7 (x : Bool) : SRes := ⟨.bool x, [], [none]⟩
def r7 (g : (List (List UInt8)) → Int → Option Bool) : Dec := dSl 0 1 (unL asS) fun (y0 : List (List UInt8)) => dV (asI .i64) fun (y1 : Int) => dEnd (ofG (g y0 y1) rx7)
theorem r7_c {g : (List (List UInt8)) → Int → Option Bool} {y0 : List (List UInt8)} {y1 : Int} {x : Bool} (hx : g y0 y1 = some x) : r7 g [.slice (some ⟨0, 0, none⟩) y0.length 1, .int .i64 y1] [some (vS y0)] = some (rx7 x) := (dSl_eq (unS_vS _)).trans ((dV_eq (asI_c _)).trans (ofG_eq hx))
def s7 (g : (List (List UInt8)) → Int → Option Bool) : Summ := ⟨[.sl 1, .v], r7 g⟩
theorem r7_eq {g : (List (List UInt8)) → Int → Option Bool} {y0 : List (List UInt8)} {y1 : Int} {x : Bool} (hx : g y0 y1 = some x) : (s7 g).run [.slice (some ⟨0, 0, none⟩) y0.length 1, .int .i64 y1] [some (vS y0)] = some (rx7 x) := r7_c hx
abbrev sums7 : List (Nat × Summ) := []
def head7_1 (l : List (List UInt8)) (most : Int) (i : Int) : VM :=
  ⟨⟨7, 19, [(0, .slice (some ⟨0, 0, none⟩) l.length 1), (1, .int .i64 most), (5, .int .i64 i)], [.code k7_13, .inLoop k7_13, .inBlock 0, .code k7_18], [], false, none⟩, [], [(0, .row false (vS l))], 1⟩
theorem loop7_1 (hS : SumsOK Try.prog (aget (sums7))) (l : List (List UInt8)) (most : Int) (res : Bool) : ∀ fuel (st : Int) (o : Bool), iter (fun st => R07_Small_s1 l most st) fuel st = some o → (o = res) →
    Leads Try.prog 7 1 (head7_1 l most st) (fun v H _ => Res 1 (rx7 res) v H) := by
  intro fuel st o h hc
  refine iter_leads (head := fun st => head7_1 l most st) (C := fun o => (o = res)) ?_ fuel st o h hc
  clear h hc o st fuel
  intro i o h hc
  replace h : R07_Small_s1 l most i = some o := h
  show Leads Try.prog 7 1 (head7_1 l most i) (fun v H _ => Res 1 (rx7 res) v H)
  unfold R07_Small_s1 at h
  refine ev_ok tab_ok hS true 3000 ?_
  conv => whnf
  refine br.h2 h ?_ ?_ ?_
  · rfl
  · clear h; intro hb h; conv => whnf
    all_goals (cases h; cases hc)
    all_goals exact Res.of [] rfl nw_0 (by decide) js_0 (wr_n wr_0)
  clear h; intro hb h; conv => whnf
  replace h := oreq.elim h; obtain ⟨hb, h⟩ := h
  first | (refine req.intro hb ?_; conv => whnf) | skip
  replace h := obind.elim h; obtain ⟨e, hy, h⟩ := h
  refine rd.S hy (by first | rfl | (rw [Nat.zero_add, Nat.mul_one]; try rfl; done) | omega) ?_
  conv => whnf
  refine br.h h ?_ ?_ ?_
  · rfl
  · clear h; intro hb h; conv => whnf
    all_goals (cases h; cases hc)
    all_goals exact Res.of [] rfl nw_0 (by decide) js_0 (wr_n wr_0)
  clear h; intro hb h; conv => whnf
  cases h; simp only [Sum.elim_inl, head7_1] at hc
  exact lrA0 hc [(0, 0)] rfl
theorem leads7 (hS : SumsOK Try.prog (aget (sums7))) (l : List (List UInt8)) (most : Int) (res : Bool) (h : R07_SmallF l most = some res) :
    Leads Try.prog 7 1 ⟨⟨7, 19, [(0, .slice (some ⟨0, 0, none⟩) l.length 1), (1, .int .i64 most)], [.code k7_20], [], false, none⟩, [], [(0, .row false (vS l))], 1⟩ (fun v H _ => Res 1 (rx7 res) v H) := by
  unfold R07_SmallF at h
  refine ev_ok tab_ok hS true 3000 ?_
  conv => whnf
  have hl := loop7_1 hS _ _ res _ _ _ h rfl; simp only [head7_1] at hl
  exact lrA0 hl [(0, 0)] rfl
theorem ok7 (hS : SumsOK Try.prog (aget (sums7))) : SumOK Try.prog 7 (s7 (R07_SmallF)) := by
  refine SumOK.of_leads tab_ok (fun ar os r ha hr => ?_) ⟨Try.f7, rfl, by decide, rfl⟩
  replace hr : r7 (R07_SmallF) ar (conts os) = some r := hr
  unfold r7 at hr
  generalize hc : conts os = C at hr
  have hq := dSl.elim hr; clear hr; obtain ⟨c0, l1, C, y0, rfl, rfl, e0, hr⟩ := hq; obtain rfl := unS_eq e0
  replace hr := dV.elim hr; obtain ⟨v1, l2, y1, rfl, e1, hr⟩ := hr; obtain rfl := asI_eq _ _ _ e1
  replace hr := dFin hr; obtain ⟨rfl, rfl, x, h, rfl⟩ := hr
  obtain ⟨os, rfl, ha, hc⟩ := kinds_some ha hc
  obtain rfl := kinds_nil hc
  exact ⟨_, rfl, leads7 hS _ _ x h⟩
def R07_Small : (List (List UInt8)) → Int → Option Bool := R07_SmallF
theorem lift7 : SumOK Try.prog 7 (s7 R07_Small) := ok7 (SumsOK.of_tab trivial)
end Go.Vm.Code
namespace Go.Vm.Code
open Go Go.Vm
def b1 (s : List UInt8) (i : Nat) : Nat := valL ((s.drop i).take 1)
theorem small_eq {l : List (List UInt8)} {m : Int} (h : l.length < 2 ^ 20) : R07_Small l m = some (l.all fun x => decide ((x.length : Int) ≤ m)) := by
  unfold R07_Small R07_SmallF
  have key := iter_eq (step := fun st => R07_Small_s1 l m st) (fun st => (l.drop st.toNat).all fun x => decide ((x.length : Int) ≤ m)) (fun st => 0 ≤ st ∧ st ≤ l.length) (fun st => ((l.length : Int) - st).toNat) ?_ FUEL 0 ⟨by omega, by omega⟩ (by rw [FUEL_eq]; omega)
  · rw [key]; simp
  intro st ⟨g1, g2⟩
  obtain ⟨i, rfl⟩ := Int.eq_ofNat_of_zero_le g1
  unfold R07_Small_s1
  simp only [Int.toNat_natCast]
  by_cases hp : i < l.length
  · have ed : l.drop i = l[i] :: l.drop (i + 1) := List.drop_eq_getElem_cons hp
    rw [cond_p (by omega), oreq_p (by omega)]
    have e1 : l[i]? = some l[i] := by simp [hp]
    rw [e1, Option.bind_some]
    by_cases hb : (l[i].length : Int) > m
    · refine .inl ?_
      rw [cond_p hb, ed, List.all_cons, decide_eq_false (by omega), Bool.false_and]
    · refine .inr ⟨((i + 1 : Nat) : Int), ?_, ⟨by omega, by omega⟩, by omega, ?_⟩
      · rw [cond_n hb, wI64 (by omega) (by omega)]; rfl
      · rw [Int.toNat_natCast, ed, List.all_cons, decide_eq_true (by omega), Bool.true_and]
  · refine .inl ?_
    rw [cond_n (by omega), List.drop_of_length_le (by omega)]; rfl
end Go.Vm.Code
namespace Go.Vm.Code
open Go Go.Vm Go.Proofs
set_option maxRecDepth 100000
set_option maxHeartbeats 4000000
set_option linter.unusedVariables false
def R07_numF (R02_Put : Int → Int → Option (List UInt8)) (n : Int) (k : Int) : Option (List UInt8) :=
  (R02_Put (wI .u64 n) k).bind fun p =>
  some (p)
def rx33 (x : List UInt8) : SRes := ⟨.string ⟨⟨x⟩⟩, [], []⟩
def r33 (g : Int → Int → Option (List UInt8)) : Dec := dV (asI .i64) fun (y0 : Int) => dV (asI .i64) fun (y1 : Int) => dEnd (ofG (g y0 y1) rx33)
theorem r33_c {g : Int → Int → Option (List UInt8)} {y0 : Int} {y1 : Int} {x : List UInt8} (hx : g y0 y1 = some x) : r33 g [.int .i64 y0, .int .i64 y1] [] = some (rx33 x) := (dV_eq (asI_c _)).trans ((dV_eq (asI_c _)).trans (ofG_eq hx))
def s33 (g : Int → Int → Option (List UInt8)) : Summ := ⟨[.v, .v], r33 g⟩
theorem r33_eq {g : Int → Int → Option (List UInt8)} {y0 : Int} {y1 : Int} {x : List UInt8} (hx : g y0 y1 = some x) : (s33 g).run [.int .i64 y0, .int .i64 y1] [] = some (rx33 x) := r33_c hx
abbrev sums33 (R02_Put : Int → Int → Option (List UInt8)) : List (Nat × Summ) := [(24, s24 R02_Put)]
theorem leads33 (R02_Put : Int → Int → Option (List UInt8)) (hS : SumsOK Try.prog (aget (sums33 R02_Put))) (n : Int) (k : Int) (res : List UInt8) (h : R07_numF R02_Put n k = some res) :
    Leads Try.prog 33 0 ⟨⟨33, 9, [(0, .int .i64 n), (1, .int .i64 k)], [.code k33_3], [], false, none⟩, [], [], 0⟩ (fun v H _ => Res 0 (rx33 res) v H) := by
  unfold R07_numF at h
  refine ev_ok tab_ok hS true 3000 ?_
  conv => whnf
  replace h := obind.elim h; obtain ⟨p, hy, h⟩ := h
  refine sumK.q rfl rfl (r24_eq hy) rfl rfl rfl ?_
  conv => whnf
  all_goals (cases h; exact Res.z rfl rfl rfl)
theorem ok33 (R02_Put : Int → Int → Option (List UInt8)) (hS : SumsOK Try.prog (aget (sums33 R02_Put))) : SumOK Try.prog 33 (s33 (R07_numF R02_Put)) := by
  refine SumOK.of_leads tab_ok (fun ar os r ha hr => ?_) ⟨Try.f33, rfl, by decide, rfl⟩
  replace hr : r33 (R07_numF R02_Put) ar (conts os) = some r := hr
  unfold r33 at hr
  generalize hc : conts os = C at hr
  replace hr := dV.elim hr; obtain ⟨v0, l1, y0, rfl, e0, hr⟩ := hr; obtain rfl := asI_eq _ _ _ e0
  replace hr := dV.elim hr; obtain ⟨v1, l2, y1, rfl, e1, hr⟩ := hr; obtain rfl := asI_eq _ _ _ e1
  replace hr := dFin hr; obtain ⟨rfl, rfl, x, h, rfl⟩ := hr
  obtain rfl := kinds_nil hc
  exact ⟨_, rfl, leads33 R02_Put hS _ _ x h⟩
def R07_num : Int → Int → Option (List UInt8) := R07_numF R02_Put
theorem lift33 : SumOK Try.prog 33 (s33 R07_num) := ok33 R02_Put (SumsOK.of_tab ⟨lift24, trivial⟩)
def R07_StampedF (R07_num : Int → Int → Option (List UInt8)) (val : Int) (echo : Int) : Option (List UInt8) :=
  (R07_num (wI .i64 val) 4).bind fun n =>
  oreq (decide (4 + n.length < 2 ^ 63)) <|
  (R07_num (wI .i64 echo) 4).bind fun n1 =>
  oreq (decide (([1, 1, 8, 10] ++ n).length + n1.length < 2 ^ 63)) <|
  some (([1, 1, 8, 10] ++ n) ++ n1)
def rx15 (x : List UInt8) : SRes := ⟨.string ⟨⟨x⟩⟩, [], []⟩
def r15 (g : Int → Int → Option (List UInt8)) : Dec := dV (asI .u32) fun (y0 : Int) => dV (asI .u32) fun (y1 : Int) => dEnd (ofG (g y0 y1) rx15)
theorem r15_c {g : Int → Int → Option (List UInt8)} {y0 : Int} {y1 : Int} {x : List UInt8} (hx : g y0 y1 = some x) : r15 g [.int .u32 y0, .int .u32 y1] [] = some (rx15 x) := (dV_eq (asI_c _)).trans ((dV_eq (asI_c _)).trans (ofG_eq hx))
def s15 (g : Int → Int → Option (List UInt8)) : Summ := ⟨[.v, .v], r15 g⟩
theorem r15_eq {g : Int → Int → Option (List UInt8)} {y0 : Int} {y1 : Int} {x : List UInt8} (hx : g y0 y1 = some x) : (s15 g).run [.int .u32 y0, .int .u32 y1] [] = some (rx15 x) := r15_c hx
abbrev sums15 (R07_num : Int → Int → Option (List UInt8)) : List (Nat × Summ) := [(33, s33 R07_num)]
theorem leads15 (R07_num : Int → Int → Option (List UInt8)) (hS : SumsOK Try.prog (aget (sums15 R07_num))) (val : Int) (echo : Int) (res : List UInt8) (h : R07_StampedF R07_num val echo = some res) :
    Leads Try.prog 15 0 ⟨⟨15, 13, [(0, .int .u32 val), (1, .int .u32 echo)], [.code k15_3], [], false, none⟩, [], [], 0⟩ (fun v H _ => Res 0 (rx15 res) v H) := by
  unfold R07_StampedF at h
  refine ev_ok tab_ok hS true 3000 ?_
  conv => whnf
  replace h := obind.elim h; obtain ⟨n, hy, h⟩ := h
  refine sumK.q rfl rfl (r33_eq hy) rfl rfl rfl ?_
  conv => whnf
  replace h := oreq.elim h; obtain ⟨hb, h⟩ := h
  first | (refine req.intro hb ?_; conv => whnf) | skip
  replace h := obind.elim h; obtain ⟨n1, hy, h⟩ := h
  refine sumK.q rfl rfl (r33_eq hy) rfl rfl rfl ?_
  conv => whnf
  replace h := oreq.elim h; obtain ⟨hb, h⟩ := h
  first | (refine req.intro hb ?_; conv => whnf) | skip
  all_goals (cases h; exact Res.z rfl rfl rfl)
theorem ok15 (R07_num : Int → Int → Option (List UInt8)) (hS : SumsOK Try.prog (aget (sums15 R07_num))) : SumOK Try.prog 15 (s15 (R07_StampedF R07_num)) := by
  refine SumOK.of_leads tab_ok (fun ar os r ha hr => ?_) ⟨Try.f15, rfl, by decide, rfl⟩
  replace hr : r15 (R07_StampedF R07_num) ar (conts os) = some r := hr
  unfold r15 at hr
  generalize hc : conts os = C at hr
  replace hr := dV.elim hr; obtain ⟨v0, l1, y0, rfl, e0, hr⟩ := hr; obtain rfl := asI_eq _ _ _ e0
  replace hr := dV.elim hr; obtain ⟨v1, l2, y1, rfl, e1, hr⟩ := hr; obtain rfl := asI_eq _ _ _ e1
  replace hr := dFin hr; obtain ⟨rfl, rfl, x, h, rfl⟩ := hr
  obtain rfl := kinds_nil hc
  exact ⟨_, rfl, leads15 R07_num hS _ _ x h⟩
def R07_Stamped : Int → Int → Option (List UInt8) := R07_StampedF R07_num
theorem lift15 : SumOK Try.prog 15 (s15 R07_Stamped) := ok15 R07_num (SumsOK.of_tab ⟨lift33, trivial⟩)
def R04_RightF (a : api_Addr) : Option Bool :=
  cond (a.V6)
    (
    some (true))
    (
    cond (a.Hi == 0)
      (
      some (decide (a.Lo < 4294967296)))
      (
      some (false)))
def rx61 (x : Bool) : SRes := ⟨.bool x, [], []⟩
def r61 (g : api_Addr → Option Bool) : Dec := dV uvapi_Addr fun (y0 : api_Addr) => dEnd (ofG (g y0) rx61)
theorem r61_c {g : api_Addr → Option Bool} {y0 : api_Addr} {x : Bool} (hx : g y0 = some x) : r61 g [.agg ⟨[.bool y0.V6, .int .u64 y0.Hi, .int .u64 y0.Lo]⟩] [] = some (rx61 x) := (dV_eq (uvapi_Addr_c _)).trans (ofG_eq hx)
def s61 (g : api_Addr → Option Bool) : Summ := ⟨[.v], r61 g⟩
theorem r61_eq {g : api_Addr → Option Bool} {y0 : api_Addr} {x : Bool} (hx : g y0 = some x) : (s61 g).run [.agg ⟨[.bool y0.V6, .int .u64 y0.Hi, .int .u64 y0.Lo]⟩] [] = some (rx61 x) := r61_c hx
abbrev sums61 : List (Nat × Summ) := []
theorem leads61 (hS : SumsOK Try.prog (aget (sums61))) (a : api_Addr) (res : Bool) (h : R04_RightF a = some res) :
    Leads Try.prog 61 0 ⟨⟨61, 15, [(0, .agg ⟨[.bool a.V6, .int .u64 a.Hi, .int .u64 a.Lo]⟩)], [.code k61_3], [], false, none⟩, [], [], 0⟩ (fun v H _ => Res 0 (rx61 res) v H) := by
  unfold R04_RightF at h
  refine ev_ok tab_ok hS true 3000 ?_
  conv => whnf
  refine br.h h ?_ ?_ ?_
  · rfl
  · clear h; intro hb h; conv => whnf
    all_goals (cases h; exact Res.z rfl rfl rfl)
  clear h; intro hb h; conv => whnf
  refine br.h h ?_ ?_ ?_
  · rfl
  · clear h; intro hb h; conv => whnf
    all_goals (cases h; exact Res.z rfl rfl rfl)
  clear h; intro hb h; conv => whnf
  all_goals (cases h; exact Res.z rfl rfl rfl)
theorem ok61 (hS : SumsOK Try.prog (aget (sums61))) : SumOK Try.prog 61 (s61 (R04_RightF)) := by
  refine SumOK.of_leads tab_ok (fun ar os r ha hr => ?_) ⟨Try.f61, rfl, by decide, rfl⟩
  replace hr : r61 (R04_RightF) ar (conts os) = some r := hr
  unfold r61 at hr
  generalize hc : conts os = C at hr
  replace hr := dV.elim hr; obtain ⟨v0, l1, y0, rfl, e0, hr⟩ := hr; obtain rfl := uvapi_Addr_eq _ _ e0
  replace hr := dFin hr; obtain ⟨rfl, rfl, x, h, rfl⟩ := hr
  obtain rfl := kinds_nil hc
  exact ⟨_, rfl, leads61 hS _ x h⟩
def R04_Right : api_Addr → Option Bool := R04_RightF
theorem lift61 : SumOK Try.prog 61 (s61 R04_Right) := ok61 (SumsOK.of_tab trivial)
def R04_PutF (R02_Put : Int → Int → Option (List UInt8)) (R04_Right : api_Addr → Option Bool) (a : api_Addr) : Option (List UInt8) :=
  (R04_Right a).bind fun xr =>
  cond (!xr)
    (
    some ([]))
    (
    cond (a.V6)
      (
      (R02_Put a.Hi 8).bind fun p =>
      (R02_Put a.Lo 8).bind fun p1 =>
      oreq (decide (p.length + p1.length < 2 ^ 63)) <|
      some (p ++ p1))
      (
      (R02_Put a.Lo 4).bind fun p2 =>
      some (p2)))
def rx85 (x : List UInt8) : SRes := ⟨.string ⟨⟨x⟩⟩, [], []⟩
def r85 (g : api_Addr → Option (List UInt8)) : Dec := dV uvapi_Addr fun (y0 : api_Addr) => dEnd (ofG (g y0) rx85)
theorem r85_c {g : api_Addr → Option (List UInt8)} {y0 : api_Addr} {x : List UInt8} (hx : g y0 = some x) : r85 g [.agg ⟨[.bool y0.V6, .int .u64 y0.Hi, .int .u64 y0.Lo]⟩] [] = some (rx85 x) := (dV_eq (uvapi_Addr_c _)).trans (ofG_eq hx)
def s85 (g : api_Addr → Option (List UInt8)) : Summ := ⟨[.v], r85 g⟩
theorem r85_eq {g : api_Addr → Option (List UInt8)} {y0 : api_Addr} {x : List UInt8} (hx : g y0 = some x) : (s85 g).run [.agg ⟨[.bool y0.V6, .int .u64 y0.Hi, .int .u64 y0.Lo]⟩] [] = some (rx85 x) := r85_c hx
abbrev sums85 (R02_Put : Int → Int → Option (List UInt8)) (R04_Right : api_Addr → Option Bool) : List (Nat × Summ) := [(24, s24 R02_Put), (61, s61 R04_Right)]
theorem leads85 (R02_Put : Int → Int → Option (List UInt8)) (R04_Right : api_Addr → Option Bool) (hS : SumsOK Try.prog (aget (sums85 R02_Put R04_Right))) (a : api_Addr) (res : List UInt8) (h : R04_PutF R02_Put R04_Right a = some res) :
    Leads Try.prog 85 0 ⟨⟨85, 18, [(0, .agg ⟨[.bool a.V6, .int .u64 a.Hi, .int .u64 a.Lo]⟩)], [.code k85_15], [], false, none⟩, [], [], 0⟩ (fun v H _ => Res 0 (rx85 res) v H) := by
  unfold R04_PutF at h
  refine ev_ok tab_ok hS true 3000 ?_
  conv => whnf
  replace h := obind.elim h; obtain ⟨xr, hy, h⟩ := h
  refine sumK.q rfl rfl (r61_eq hy) rfl rfl rfl ?_
  conv => whnf
  refine br.h h ?_ ?_ ?_
  · rfl
  · clear h; intro hb h; conv => whnf
    all_goals (cases h; exact Res.z rfl rfl rfl)
  clear h; intro hb h; conv => whnf
  refine br.h2 h ?_ ?_ ?_
  · rfl
  · clear h; intro hb h; conv => whnf
    replace h := obind.elim h; obtain ⟨p2, hy, h⟩ := h
    refine sumK.q rfl rfl (r24_eq hy) rfl rfl rfl ?_
    conv => whnf
    all_goals (cases h; exact Res.z rfl rfl rfl)
  clear h; intro hb h; conv => whnf
  replace h := obind.elim h; obtain ⟨p, hy, h⟩ := h
  refine sumK.q rfl rfl (r24_eq hy) rfl rfl rfl ?_
  conv => whnf
  replace h := obind.elim h; obtain ⟨p1, hy, h⟩ := h
  refine sumK.q rfl rfl (r24_eq hy) rfl rfl rfl ?_
  conv => whnf
  replace h := oreq.elim h; obtain ⟨hb, h⟩ := h
  first | (refine req.intro hb ?_; conv => whnf) | skip
  all_goals (cases h; exact Res.z rfl rfl rfl)
theorem ok85 (R02_Put : Int → Int → Option (List UInt8)) (R04_Right : api_Addr → Option Bool) (hS : SumsOK Try.prog (aget (sums85 R02_Put R04_Right))) : SumOK Try.prog 85 (s85 (R04_PutF R02_Put R04_Right)) := by
  refine SumOK.of_leads tab_ok (fun ar os r ha hr => ?_) ⟨Try.f85, rfl, by decide, rfl⟩
  replace hr : r85 (R04_PutF R02_Put R04_Right) ar (conts os) = some r := hr
  unfold r85 at hr
  generalize hc : conts os = C at hr
  replace hr := dV.elim hr; obtain ⟨v0, l1, y0, rfl, e0, hr⟩ := hr; obtain rfl := uvapi_Addr_eq _ _ e0
  replace hr := dFin hr; obtain ⟨rfl, rfl, x, h, rfl⟩ := hr
  obtain rfl := kinds_nil hc
  exact ⟨_, rfl, leads85 R02_Put R04_Right hS _ x h⟩
def R04_Put : api_Addr → Option (List UInt8) := R04_PutF R02_Put R04_Right
theorem lift85 : SumOK Try.prog 85 (s85 R04_Put) := ok85 R02_Put R04_Right (SumsOK.of_tab ⟨lift24, lift61, trivial⟩)
def R05_numF (R02_Put : Int → Int → Option (List UInt8)) (n : Int) (k : Int) : Option (List UInt8) :=
  (R02_Put (wI .u64 n) k).bind fun p =>
  some (p)
def rx86 (x : List UInt8) : SRes := ⟨.string ⟨⟨x⟩⟩, [], []⟩
def r86 (g : Int → Int → Option (List UInt8)) : Dec := dV (asI .i64) fun (y0 : Int) => dV (asI .i64) fun (y1 : Int) => dEnd (ofG (g y0 y1) rx86)
theorem r86_c {g : Int → Int → Option (List UInt8)} {y0 : Int} {y1 : Int} {x : List UInt8} (hx : g y0 y1 = some x) : r86 g [.int .i64 y0, .int .i64 y1] [] = some (rx86 x) := (dV_eq (asI_c _)).trans ((dV_eq (asI_c _)).trans (ofG_eq hx))
def s86 (g : Int → Int → Option (List UInt8)) : Summ := ⟨[.v, .v], r86 g⟩
theorem r86_eq {g : Int → Int → Option (List UInt8)} {y0 : Int} {y1 : Int} {x : List UInt8} (hx : g y0 y1 = some x) : (s86 g).run [.int .i64 y0, .int .i64 y1] [] = some (rx86 x) := r86_c hx
abbrev sums86 (R02_Put : Int → Int → Option (List UInt8)) : List (Nat × Summ) := [(24, s24 R02_Put)]
theorem leads86 (R02_Put : Int → Int → Option (List UInt8)) (hS : SumsOK Try.prog (aget (sums86 R02_Put))) (n : Int) (k : Int) (res : List UInt8) (h : R05_numF R02_Put n k = some res) :
    Leads Try.prog 86 0 ⟨⟨86, 9, [(0, .int .i64 n), (1, .int .i64 k)], [.code k86_3], [], false, none⟩, [], [], 0⟩ (fun v H _ => Res 0 (rx86 res) v H) := by
  unfold R05_numF at h
  refine ev_ok tab_ok hS true 3000 ?_
  conv => whnf
  replace h := obind.elim h; obtain ⟨p, hy, h⟩ := h
  refine sumK.q rfl rfl (r24_eq hy) rfl rfl rfl ?_
  conv => whnf
  all_goals (cases h; exact Res.z rfl rfl rfl)
theorem ok86 (R02_Put : Int → Int → Option (List UInt8)) (hS : SumsOK Try.prog (aget (sums86 R02_Put))) : SumOK Try.prog 86 (s86 (R05_numF R02_Put)) := by
  refine SumOK.of_leads tab_ok (fun ar os r ha hr => ?_) ⟨Try.f86, rfl, by decide, rfl⟩
  replace hr : r86 (R05_numF R02_Put) ar (conts os) = some r := hr
  unfold r86 at hr
  generalize hc : conts os = C at hr
  replace hr := dV.elim hr; obtain ⟨v0, l1, y0, rfl, e0, hr⟩ := hr; obtain rfl := asI_eq _ _ _ e0
  replace hr := dV.elim hr; obtain ⟨v1, l2, y1, rfl, e1, hr⟩ := hr; obtain rfl := asI_eq _ _ _ e1
  replace hr := dFin hr; obtain ⟨rfl, rfl, x, h, rfl⟩ := hr
  obtain rfl := kinds_nil hc
  exact ⟨_, rfl, leads86 R02_Put hS _ _ x h⟩
def R05_num : Int → Int → Option (List UInt8) := R05_numF R02_Put
theorem lift86 : SumOK Try.prog 86 (s86 R05_num) := ok86 R02_Put (SumsOK.of_tab ⟨lift24, trivial⟩)
def R05_PseudoF (R04_Put : api_Addr → Option (List UInt8)) (R04_Right : api_Addr → Option Bool) (R05_num : Int → Int → Option (List UInt8)) (src : api_Addr) (dst : api_Addr) (proto : Int) (n : Int) : Option (List UInt8) :=
  (R04_Right src).bind fun xr =>
  cond (!xr)
    (
    some ([]))
    (
    (R04_Right dst).bind fun xr1 =>
    cond (!xr1)
      (
      some ([]))
      (
      cond (!(src.V6 == dst.V6))
        (
        some ([]))
        (
        cond (src.V6)
          (
          (R04_Put src).bind fun p =>
          (R04_Put dst).bind fun p1 =>
          oreq (decide (p.length + p1.length < 2 ^ 63)) <|
          (R05_num n 4).bind fun n1 =>
          oreq (decide ((p ++ p1).length + n1.length < 2 ^ 63)) <|
          (R05_num 0 3).bind fun n2 =>
          oreq (decide (((p ++ p1) ++ n1).length + n2.length < 2 ^ 63)) <|
          (R05_num proto 1).bind fun n3 =>
          oreq (decide ((((p ++ p1) ++ n1) ++ n2).length + n3.length < 2 ^ 63)) <|
          some ((((p ++ p1) ++ n1) ++ n2) ++ n3))
          (
          (R04_Put src).bind fun p2 =>
          (R04_Put dst).bind fun p3 =>
          oreq (decide (p2.length + p3.length < 2 ^ 63)) <|
          (R05_num 0 1).bind fun n4 =>
          oreq (decide ((p2 ++ p3).length + n4.length < 2 ^ 63)) <|
          (R05_num proto 1).bind fun n5 =>
          oreq (decide (((p2 ++ p3) ++ n4).length + n5.length < 2 ^ 63)) <|
          (R05_num n 2).bind fun n6 =>
          oreq (decide ((((p2 ++ p3) ++ n4) ++ n5).length + n6.length < 2 ^ 63)) <|
          some ((((p2 ++ p3) ++ n4) ++ n5) ++ n6)))))
def rx59 (x : List UInt8) : SRes := ⟨.string ⟨⟨x⟩⟩, [], []⟩
def r59 (g : api_Addr → api_Addr → Int → Int → Option (List UInt8)) : Dec := dV uvapi_Addr fun (y0 : api_Addr) => dV uvapi_Addr fun (y1 : api_Addr) => dV (asI .i64) fun (y2 : Int) => dV (asI .i64) fun (y3 : Int) => dEnd (ofG (g y0 y1 y2 y3) rx59)
theorem r59_c {g : api_Addr → api_Addr → Int → Int → Option (List UInt8)} {y0 : api_Addr} {y1 : api_Addr} {y2 : Int} {y3 : Int} {x : List UInt8} (hx : g y0 y1 y2 y3 = some x) : r59 g [.agg ⟨[.bool y0.V6, .int .u64 y0.Hi, .int .u64 y0.Lo]⟩, .agg ⟨[.bool y1.V6, .int .u64 y1.Hi, .int .u64 y1.Lo]⟩, .int .i64 y2, .int .i64 y3] [] = some (rx59 x) := (dV_eq (uvapi_Addr_c _)).trans ((dV_eq (uvapi_Addr_c _)).trans ((dV_eq (asI_c _)).trans ((dV_eq (asI_c _)).trans (ofG_eq hx))))
def s59 (g : api_Addr → api_Addr → Int → Int → Option (List UInt8)) : Summ := ⟨[.v, .v, .v, .v], r59 g⟩
theorem r59_eq {g : api_Addr → api_Addr → Int → Int → Option (List UInt8)} {y0 : api_Addr} {y1 : api_Addr} {y2 : Int} {y3 : Int} {x : List UInt8} (hx : g y0 y1 y2 y3 = some x) : (s59 g).run [.agg ⟨[.bool y0.V6, .int .u64 y0.Hi, .int .u64 y0.Lo]⟩, .agg ⟨[.bool y1.V6, .int .u64 y1.Hi, .int .u64 y1.Lo]⟩, .int .i64 y2, .int .i64 y3] [] = some (rx59 x) := r59_c hx
abbrev sums59 (R04_Put : api_Addr → Option (List UInt8)) (R04_Right : api_Addr → Option Bool) (R05_num : Int → Int → Option (List UInt8)) : List (Nat × Summ) := [(85, s85 R04_Put), (61, s61 R04_Right), (86, s86 R05_num)]
theorem leads59 (R04_Put : api_Addr → Option (List UInt8)) (R04_Right : api_Addr → Option Bool) (R05_num : Int → Int → Option (List UInt8)) (hS : SumsOK Try.prog (aget (sums59 R04_Put R04_Right R05_num))) (src : api_Addr) (dst : api_Addr) (proto : Int) (n : Int) (res : List UInt8) (h : R05_PseudoF R04_Put R04_Right R05_num src dst proto n = some res) :
    Leads Try.prog 59 0 ⟨⟨59, 52, [(0, .agg ⟨[.bool src.V6, .int .u64 src.Hi, .int .u64 src.Lo]⟩), (1, .agg ⟨[.bool dst.V6, .int .u64 dst.Hi, .int .u64 dst.Lo]⟩), (2, .int .i64 proto), (3, .int .i64 n)], [.code k59_15], [], false, none⟩, [], [], 0⟩ (fun v H _ => Res 0 (rx59 res) v H) := by
  unfold R05_PseudoF at h
  refine ev_ok tab_ok hS true 3000 ?_
  conv => whnf
  replace h := obind.elim h; obtain ⟨xr, hy, h⟩ := h
  refine sumK.q rfl rfl (r61_eq hy) rfl rfl rfl ?_
  conv => whnf
  refine br.h h ?_ ?_ ?_
  · rfl
  · clear h; intro hb h; conv => whnf
    all_goals (cases h; exact Res.z rfl rfl rfl)
  clear h; intro hb h; conv => whnf
  replace h := obind.elim h; obtain ⟨xr1, hy, h⟩ := h
  refine sumK.q rfl rfl (r61_eq hy) rfl rfl rfl ?_
  conv => whnf
  refine br.h h ?_ ?_ ?_
  · rfl
  · clear h; intro hb h; conv => whnf
    all_goals (cases h; exact Res.z rfl rfl rfl)
  clear h; intro hb h; conv => whnf
  refine br.h h ?_ ?_ ?_
  · rfl
  · clear h; intro hb h; conv => whnf
    all_goals (cases h; exact Res.z rfl rfl rfl)
  clear h; intro hb h; conv => whnf
  refine br.h h ?_ ?_ ?_
  · rfl
  · clear h; intro hb h; conv => whnf
    replace h := obind.elim h; obtain ⟨p, hy, h⟩ := h
    refine sumK.q rfl rfl (r85_eq hy) rfl rfl rfl ?_
    conv => whnf
    replace h := obind.elim h; obtain ⟨p1, hy, h⟩ := h
    refine sumK.q rfl rfl (r85_eq hy) rfl rfl rfl ?_
    conv => whnf
    replace h := oreq.elim h; obtain ⟨hb, h⟩ := h
    first | (refine req.intro hb ?_; conv => whnf) | skip
    replace h := obind.elim h; obtain ⟨n1, hy, h⟩ := h
    refine sumK.q rfl rfl (r86_eq hy) rfl rfl rfl ?_
    conv => whnf
    replace h := oreq.elim h; obtain ⟨hb, h⟩ := h
    first | (refine req.intro hb ?_; conv => whnf) | skip
    replace h := obind.elim h; obtain ⟨n2, hy, h⟩ := h
    refine sumK.q rfl rfl (r86_eq hy) rfl rfl rfl ?_
    conv => whnf
    replace h := oreq.elim h; obtain ⟨hb, h⟩ := h
    first | (refine req.intro hb ?_; conv => whnf) | skip
    replace h := obind.elim h; obtain ⟨n3, hy, h⟩ := h
    refine sumK.q rfl rfl (r86_eq hy) rfl rfl rfl ?_
    conv => whnf
    replace h := oreq.elim h; obtain ⟨hb, h⟩ := h
    first | (refine req.intro hb ?_; conv => whnf) | skip
    all_goals (cases h; exact Res.z rfl rfl rfl)
  clear h; intro hb h; conv => whnf
  replace h := obind.elim h; obtain ⟨p2, hy, h⟩ := h
  refine sumK.q rfl rfl (r85_eq hy) rfl rfl rfl ?_
  conv => whnf
  replace h := obind.elim h; obtain ⟨p3, hy, h⟩ := h
  refine sumK.q rfl rfl (r85_eq hy) rfl rfl rfl ?_
  conv => whnf
  replace h := oreq.elim h; obtain ⟨hb, h⟩ := h
  first | (refine req.intro hb ?_; conv => whnf) | skip
  replace h := obind.elim h; obtain ⟨n4, hy, h⟩ := h
  refine sumK.q rfl rfl (r86_eq hy) rfl rfl rfl ?_
  conv => whnf
  replace h := oreq.elim h; obtain ⟨hb, h⟩ := h
  first | (refine req.intro hb ?_; conv => whnf) | skip
  replace h := obind.elim h; obtain ⟨n5, hy, h⟩ := h
  refine sumK.q rfl rfl (r86_eq hy) rfl rfl rfl ?_
  conv => whnf
  replace h := oreq.elim h; obtain ⟨hb, h⟩ := h
  first | (refine req.intro hb ?_; conv => whnf) | skip
  replace h := obind.elim h; obtain ⟨n6, hy, h⟩ := h
  refine sumK.q rfl rfl (r86_eq hy) rfl rfl rfl ?_
  conv => whnf
  replace h := oreq.elim h; obtain ⟨hb, h⟩ := h
  first | (refine req.intro hb ?_; conv => whnf) | skip
  all_goals (cases h; exact Res.z rfl rfl rfl)
theorem ok59 (R04_Put : api_Addr → Option (List UInt8)) (R04_Right : api_Addr → Option Bool) (R05_num : Int → Int → Option (List UInt8)) (hS : SumsOK Try.prog (aget (sums59 R04_Put R04_Right R05_num))) : SumOK Try.prog 59 (s59 (R05_PseudoF R04_Put R04_Right R05_num)) := by
  refine SumOK.of_leads tab_ok (fun ar os r ha hr => ?_) ⟨Try.f59, rfl, by decide, rfl⟩
  replace hr : r59 (R05_PseudoF R04_Put R04_Right R05_num) ar (conts os) = some r := hr
  unfold r59 at hr
  generalize hc : conts os = C at hr
  replace hr := dV.elim hr; obtain ⟨v0, l1, y0, rfl, e0, hr⟩ := hr; obtain rfl := uvapi_Addr_eq _ _ e0
  replace hr := dV.elim hr; obtain ⟨v1, l2, y1, rfl, e1, hr⟩ := hr; obtain rfl := uvapi_Addr_eq _ _ e1
  replace hr := dV.elim hr; obtain ⟨v2, l3, y2, rfl, e2, hr⟩ := hr; obtain rfl := asI_eq _ _ _ e2
  replace hr := dV.elim hr; obtain ⟨v3, l4, y3, rfl, e3, hr⟩ := hr; obtain rfl := asI_eq _ _ _ e3
  replace hr := dFin hr; obtain ⟨rfl, rfl, x, h, rfl⟩ := hr
  obtain rfl := kinds_nil hc
  exact ⟨_, rfl, leads59 R04_Put R04_Right R05_num hS _ _ _ _ x h⟩
def R05_Pseudo : api_Addr → api_Addr → Int → Int → Option (List UInt8) := R05_PseudoF R04_Put R04_Right R05_num
theorem lift59 : SumOK Try.prog 59 (s59 R05_Pseudo) := ok59 R04_Put R04_Right R05_num (SumsOK.of_tab ⟨lift85, lift61, lift86, trivial⟩)
def R07_inF (n : Int) (most : Int) : Option Bool :=
  cond (decide (n ≥ 0))
    (
    some (decide (n ≤ most)))
    (
    some (false))
def rx87 (x : Bool) : SRes := ⟨.bool x, [], []⟩
def r87 (g : Int → Int → Option Bool) : Dec := dV (asI .i64) fun (y0 : Int) => dV (asI .i64) fun (y1 : Int) => dEnd (ofG (g y0 y1) rx87)
theorem r87_c {g : Int → Int → Option Bool} {y0 : Int} {y1 : Int} {x : Bool} (hx : g y0 y1 = some x) : r87 g [.int .i64 y0, .int .i64 y1] [] = some (rx87 x) := (dV_eq (asI_c _)).trans ((dV_eq (asI_c _)).trans (ofG_eq hx))
def s87 (g : Int → Int → Option Bool) : Summ := ⟨[.v, .v], r87 g⟩
theorem r87_eq {g : Int → Int → Option Bool} {y0 : Int} {y1 : Int} {x : Bool} (hx : g y0 y1 = some x) : (s87 g).run [.int .i64 y0, .int .i64 y1] [] = some (rx87 x) := r87_c hx
abbrev sums87 : List (Nat × Summ) := []
theorem leads87 (hS : SumsOK Try.prog (aget (sums87))) (n : Int) (most : Int) (res : Bool) (h : R07_inF n most = some res) :
    Leads Try.prog 87 0 ⟨⟨87, 12, [(0, .int .i64 n), (1, .int .i64 most)], [.code k87_3], [], false, none⟩, [], [], 0⟩ (fun v H _ => Res 0 (rx87 res) v H) := by
  unfold R07_inF at h
  refine ev_ok tab_ok hS true 3000 ?_
  conv => whnf
  refine br.h h ?_ ?_ ?_
  · rfl
  · clear h; intro hb h; conv => whnf
    all_goals (cases h; exact Res.z rfl rfl rfl)
  clear h; intro hb h; conv => whnf
  all_goals (cases h; exact Res.z rfl rfl rfl)
theorem ok87 (hS : SumsOK Try.prog (aget (sums87))) : SumOK Try.prog 87 (s87 (R07_inF)) := by
  refine SumOK.of_leads tab_ok (fun ar os r ha hr => ?_) ⟨Try.f87, rfl, by decide, rfl⟩
  replace hr : r87 (R07_inF) ar (conts os) = some r := hr
  unfold r87 at hr
  generalize hc : conts os = C at hr
  replace hr := dV.elim hr; obtain ⟨v0, l1, y0, rfl, e0, hr⟩ := hr; obtain rfl := asI_eq _ _ _ e0
  replace hr := dV.elim hr; obtain ⟨v1, l2, y1, rfl, e1, hr⟩ := hr; obtain rfl := asI_eq _ _ _ e1
  replace hr := dFin hr; obtain ⟨rfl, rfl, x, h, rfl⟩ := hr
  obtain rfl := kinds_nil hc
  exact ⟨_, rfl, leads87 hS _ _ x h⟩
def R07_in : Int → Int → Option Bool := R07_inF
theorem lift87 : SumOK Try.prog 87 (s87 R07_in) := ok87 (SumsOK.of_tab trivial)
def R07_RightF (R07_in : Int → Int → Option Bool) (ha0 : tcp_Head) : Option Bool :=
  (R07_in ha0.SPort 65535).bind fun i =>
  cond (i)
    (
    (R07_in ha0.DPort 65535).bind fun i1 =>
    cond (i1)
      (
      (R07_in ha0.Flags 255).bind fun i2 =>
      cond (i2)
        (
        (R07_in ha0.Window 65535).bind fun i3 =>
        cond (i3)
          (
          (R07_in ha0.Urgent 65535).bind fun i4 =>
          cond (i4)
            (
            cond (decide ((ha0.Options.length : Int) ≤ 40))
              (
              some (((ha0.Options.length : Int).tmod 4) == 0))
              (
              some (false)))
            (
            some (false)))
          (
          some (false)))
        (
        some (false)))
      (
      some (false)))
    (
    some (false))
def rx60 (x : Bool) : SRes := ⟨.bool x, [], []⟩
def r60 (g : tcp_Head → Option Bool) : Dec := dV uvtcp_Head fun (y0 : tcp_Head) => dEnd (ofG (g y0) rx60)
theorem r60_c {g : tcp_Head → Option Bool} {y0 : tcp_Head} {x : Bool} (hx : g y0 = some x) : r60 g [.agg ⟨[.int .i64 y0.SPort, .int .i64 y0.DPort, .int .u32 y0.Seq, .int .u32 y0.Ack, .int .i64 y0.Flags, .int .i64 y0.Window, .int .i64 y0.Urgent, .string ⟨⟨y0.Options⟩⟩]⟩] [] = some (rx60 x) := (dV_eq (uvtcp_Head_c _)).trans (ofG_eq hx)
def s60 (g : tcp_Head → Option Bool) : Summ := ⟨[.v], r60 g⟩
theorem r60_eq {g : tcp_Head → Option Bool} {y0 : tcp_Head} {x : Bool} (hx : g y0 = some x) : (s60 g).run [.agg ⟨[.int .i64 y0.SPort, .int .i64 y0.DPort, .int .u32 y0.Seq, .int .u32 y0.Ack, .int .i64 y0.Flags, .int .i64 y0.Window, .int .i64 y0.Urgent, .string ⟨⟨y0.Options⟩⟩]⟩] [] = some (rx60 x) := r60_c hx
abbrev sums60 (R07_in : Int → Int → Option Bool) : List (Nat × Summ) := [(87, s87 R07_in)]
theorem leads60 (R07_in : Int → Int → Option Bool) (hS : SumsOK Try.prog (aget (sums60 R07_in))) (ha0 : tcp_Head) (res : Bool) (h : R07_RightF R07_in ha0 = some res) :
    Leads Try.prog 60 0 ⟨⟨60, 39, [(0, .agg ⟨[.int .i64 ha0.SPort, .int .i64 ha0.DPort, .int .u32 ha0.Seq, .int .u32 ha0.Ack, .int .i64 ha0.Flags, .int .i64 ha0.Window, .int .i64 ha0.Urgent, .string ⟨⟨ha0.Options⟩⟩]⟩)], [.code k60_3], [], false, none⟩, [], [], 0⟩ (fun v H _ => Res 0 (rx60 res) v H) := by
  unfold R07_RightF at h
  refine ev_ok tab_ok hS true 3000 ?_
  conv => whnf
  replace h := obind.elim h; obtain ⟨i, hy, h⟩ := h
  refine sumK.q rfl rfl (r87_eq hy) rfl rfl rfl ?_
  conv => whnf
  refine br.h2 h ?_ ?_ ?_
  · rfl
  · clear h; intro hb h; conv => whnf
    all_goals (cases h; exact Res.z rfl rfl rfl)
  clear h; intro hb h; conv => whnf
  replace h := obind.elim h; obtain ⟨i1, hy, h⟩ := h
  refine sumK.q rfl rfl (r87_eq hy) rfl rfl rfl ?_
  conv => whnf
  refine br.h2 h ?_ ?_ ?_
  · rfl
  · clear h; intro hb h; conv => whnf
    all_goals (cases h; exact Res.z rfl rfl rfl)
  clear h; intro hb h; conv => whnf
  replace h := obind.elim h; obtain ⟨i2, hy, h⟩ := h
  refine sumK.q rfl rfl (r87_eq hy) rfl rfl rfl ?_
  conv => whnf
  refine br.h2 h ?_ ?_ ?_
  · rfl
  · clear h; intro hb h; conv => whnf
    all_goals (cases h; exact Res.z rfl rfl rfl)
  clear h; intro hb h; conv => whnf
  replace h := obind.elim h; obtain ⟨i3, hy, h⟩ := h
  refine sumK.q rfl rfl (r87_eq hy) rfl rfl rfl ?_
  conv => whnf
  refine br.h2 h ?_ ?_ ?_
  · rfl
  · clear h; intro hb h; conv => whnf
    all_goals (cases h; exact Res.z rfl rfl rfl)
  clear h; intro hb h; conv => whnf
  replace h := obind.elim h; obtain ⟨i4, hy, h⟩ := h
  refine sumK.q rfl rfl (r87_eq hy) rfl rfl rfl ?_
  conv => whnf
  refine br.h2 h ?_ ?_ ?_
  · rfl
  · clear h; intro hb h; conv => whnf
    all_goals (cases h; exact Res.z rfl rfl rfl)
  clear h; intro hb h; conv => whnf
  refine br.h h ?_ ?_ ?_
  · rfl
  · clear h; intro hb h; conv => whnf
    all_goals (cases h; exact Res.z rfl rfl rfl)
  clear h; intro hb h; conv => whnf
  all_goals (cases h; exact Res.z rfl rfl rfl)
theorem ok60 (R07_in : Int → Int → Option Bool) (hS : SumsOK Try.prog (aget (sums60 R07_in))) : SumOK Try.prog 60 (s60 (R07_RightF R07_in)) := by
  refine SumOK.of_leads tab_ok (fun ar os r ha hr => ?_) ⟨Try.f60, rfl, by decide, rfl⟩
  replace hr : r60 (R07_RightF R07_in) ar (conts os) = some r := hr
  unfold r60 at hr
  generalize hc : conts os = C at hr
  replace hr := dV.elim hr; obtain ⟨v0, l1, y0, rfl, e0, hr⟩ := hr; obtain rfl := uvtcp_Head_eq _ _ e0
  replace hr := dFin hr; obtain ⟨rfl, rfl, x, h, rfl⟩ := hr
  obtain rfl := kinds_nil hc
  exact ⟨_, rfl, leads60 R07_in hS _ x h⟩
def R07_Right : tcp_Head → Option Bool := R07_RightF R07_in
theorem lift60 : SumOK Try.prog 60 (s60 R07_Right) := ok60 R07_in (SumsOK.of_tab ⟨lift87, trivial⟩)
end Go.Vm.Code
