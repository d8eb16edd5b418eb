import Derived.Test.YtiknkhbngadaeaaGreatNMtuTellsc
namespace Go.Vm.Code
open Go Go.Vm Go.Proofs
def k57_0:VC:=.reg [oD 4 (.box τ1),oD 5 (.box τ2),oD 6 (.alloc [(.int .i64 0),(.int .i64 0),(.int .u32 0),(.int .u32 0),(.int .i64 0),(.int .i64 0),(.int .i64 0),(.string ⟨⟨[]⟩⟩)]),oD 7 (.mv (.const (.string ⟨⟨[]⟩⟩))),oD 8 (.mv (.const (.int .i64 0)))]
def k57_1:VC:=.reg [oM 13 τ0,oD 14 (.lenS Xc2),oD 15 (.bin .lss Xdo (.const (.int .i64 20)))]
def k57_2:VC:=.reg [oD 16 (.build [(.int .i64 0),(.int .i64 0),(.int .u32 0),(.int .u32 0),(.int .i64 0),(.int .i64 0),(.int .i64 0),(.string ⟨⟨[]⟩⟩)] []),oN (.store 8 τ6 Xdp),oD 7 (.mv (.const (.string ⟨⟨[]⟩⟩))),oD 8 (.mv (.const (.int .i64 2)))]
def k57_3:VC:=.seq k57_2 .ret
def k57_4:VC:=.cond Xdl k57_3 .skip
def k57_5:VC:=.seq k57_1 k57_4
def k57_6:VC:=.reg [oM 17 τ0,oD 18 (.idxS Xdm (.const (.int .i64 12))),oD 19 (.bin .quo XdW (.const (.int .u8 16))),oD 20 (.conv .i64 XdM),oD 21 (.bin .mul (.const (.int .i64 4)) Xea),oM 9 Xei]
def k57_7:VC:=.reg [oM 22 τ9,oD 23 (.bin .lss XeN (.const (.int .i64 20))),oM 24 XeR,oG 25 (.mv τ0) 24 false,oG 26 (.idxS XeX (.const (.int .i64 12))) 24 false,oG 27 (.bin .rem Xep (.const (.int .u8 16))) 24 false,oG 28 (.bin .neq XeT (.const (.int .u8 0))) 24 false,oD 29 (.pick Xex (.const (.bool true)) XeO)]
def k57_8:VC:=.reg [oD 30 (.build [(.int .i64 0),(.int .i64 0),(.int .u32 0),(.int .u32 0),(.int .i64 0),(.int .i64 0),(.int .i64 0),(.string ⟨⟨[]⟩⟩)] []),oN (.store 8 τ6 Xfy),oD 7 (.mv (.const (.string ⟨⟨[]⟩⟩))),oD 8 (.mv (.const (.int .i64 3)))]
def k57_9:VC:=.seq k57_8 .ret
def X6o:VC:=.cond Xe1 k57_9 .skip
def XPA:VC:=.seq k57_7 X6o
def XSI:VC:=.reg [oM 31 τ0,oD 32 (.lenS Xfw),oM 33 τ9,oD 34 (.bin .lss XfC XfA)]
def X2r:VC:=.reg [oD 35 (.build [(.int .i64 0),(.int .i64 0),(.int .u32 0),(.int .u32 0),(.int .i64 0),(.int .i64 0),(.int .i64 0),(.string ⟨⟨[]⟩⟩)] []),oN (.store 8 τ6 XfU),oD 7 (.mv (.const (.string ⟨⟨[]⟩⟩))),oD 8 (.mv (.const (.int .i64 2)))]
def X5J:VC:=.seq X2r .ret
def X3J:VC:=.cond XfK X5J .skip
def XYf:VC:=.seq XSI X3J
def X3h:VC:=.reg [oD 36 (.loadN [.bool,(.int .u64),(.int .u64)] τ4),oD 37 (.loadN [.bool,(.int .u64),(.int .u64)] τ5),oM 38 τ0,oD 39 (.lenS XgM),oD 40 (.callF 95 [XfV,XfB,(.const (.int .i64 6)),XgK]),oM 10 Xhu]
def XR8:VC:=.reg [oM 41 Xcd,oD 42 (.bin .eql Xhs (.const (.string ⟨⟨[]⟩⟩)))]
def XWo:VC:=.reg [oD 43 (.build [(.int .i64 0),(.int .i64 0),(.int .u32 0),(.int .u32 0),(.int .i64 0),(.int .i64 0),(.int .i64 0),(.string ⟨⟨[]⟩⟩)] []),oN (.store 8 τ6 XhC),oD 7 (.mv (.const (.string ⟨⟨[]⟩⟩))),oD 8 (.mv (.const (.int .i64 1)))]
def XPx:VC:=.seq XWo .ret
def X4C:VC:=.cond Xht XPx .skip
def XWi:VC:=.seq XR8 X4C
def XTW:VC:=.reg [oM 44 Xcd,oM 45 τ0,oD 46 (.bin .add Xim XhP),oD 47 (.callF 100 [Xin]),oD 48 (.bin .neq XhS (.const (.int .i64 65535)))]
def XP9:VC:=.reg [oD 49 (.build [(.int .i64 0),(.int .i64 0),(.int .u32 0),(.int .u32 0),(.int .i64 0),(.int .i64 0),(.int .i64 0),(.string ⟨⟨[]⟩⟩)] []),oN (.store 8 τ6 XiO),oD 7 (.mv (.const (.string ⟨⟨[]⟩⟩))),oD 8 (.mv (.const (.int .i64 4)))]
def X5C:VC:=.seq XP9 .ret
def X3T:VC:=.cond XiP X5C .skip
def XUG:VC:=.seq XTW X3T
def X3e:VC:=.reg [oM 51 τ0,oM 52 τ9,oD 53 (.sliceS XiQ (some (.const (.int .i64 20))) (some XjN)),oD 54 (.callF 101 [XjO]),oM 50 XkV,oE 55 0 XiR,oE 56 1 XiR,oM 11 Xk3,oM 12 Xlp]
def XRp:VC:=.reg [oM 57 XcZ,oD 58 (.bin .neq XkK (.const (.int .i64 0)))]
def XRK:VC:=.reg [oD 59 (.build [(.int .i64 0),(.int .i64 0),(.int .u32 0),(.int .u32 0),(.int .i64 0),(.int .i64 0),(.int .i64 0),(.string ⟨⟨[]⟩⟩)] []),oM 60 XcZ,oN (.store 8 τ6 Xk8),oD 7 (.mv (.const (.string ⟨⟨[]⟩⟩))),oM 8 Xl4]
def XQE:VC:=.seq XRK .ret
def X4L:VC:=.cond XkW XQE .skip
def XO9:VC:=.seq XRp X4L
def XWZ:VC:=.regD [oM 61 τ0,oD 62 (.callF 44 [Xl7,(.const (.int .i64 0)),(.const (.int .i64 2))]),oM 63 τ0,oD 64 (.callF 44 [Xow,(.const (.int .i64 2)),(.const (.int .i64 2))]),oM 65 τ0,oD 66 (.callF 44 [XoH,(.const (.int .i64 4)),(.const (.int .i64 4))]),oD 67 (.conv .u32 Xo1),oM 68 τ0,oD 69 (.callF 44 [XpF,(.const (.int .i64 8)),(.const (.int .i64 4))]),oD 70 (.conv .u32 Xpj),oM 71 τ0,oD 72 (.idxS Xq3 (.const (.int .i64 13))),oD 73 (.conv .i64 Xq1),oM 74 τ0,oD 75 (.callF 44 [XtP,(.const (.int .i64 14)),(.const (.int .i64 2))]),oM 76 τ0,oD 77 (.callF 44 [XvY,(.const (.int .i64 18)),(.const (.int .i64 2))]),oM 78 τ0,oM 79 τ9,oD 80 (.sliceS Xv3 (some (.const (.int .i64 20))) (some XwR)),oD 81 (.build [(.int .i64 0),(.int .i64 0),(.int .u32 0),(.int .u32 0),(.int .i64 0),(.int .i64 0),(.int .i64 0),(.string ⟨⟨[]⟩⟩)] [(0,1,XmX),(1,1,Xn3),(2,1,XoE),(3,1,Xq8),(4,1,Xr9),(5,1,XtI),(6,1,XuG),(7,1,Xv0)]),oM 82 τ0,oM 83 τ9,oD 84 (.sliceS XAG (some Xv1) none),oN (.store 8 τ6 XxB)] [] [oM 7 Xzp,oD 8 (.mv (.const (.int .i64 0)))]
def X5U:VC:=.seq XWZ .ret
def X6F:VC:=.seq XO9 X5U
def XWG:VC:=.seq X3e X6F
def XZk:VC:=.seq XUG XWG
def X5m:VC:=.seq XWi XZk
def X0V:VC:=.seq X3h X5m
def X4Q:VC:=.seq XYf X0V
def XPq:VC:=.seq XPA X4Q
def XMg:VC:=.seq k57_6 XPq
def XPa:VC:=.seq k57_5 XMg
def XzQ:VC:=.seq k57_0 XPa
def fn57:VFn:=⟨85,XzQ,[.cell 6 [(.int .i64),(.int .i64),(.int .u32),(.int .u32),(.int .i64),(.int .i64),(.int .i64),.str] true,.tmp 7,.tmp 8]⟩
def k95_0:VC:=.reg [oD 4 (.box τ0),oD 5 (.box τ1),oD 8 (.mv (.const (.string ⟨⟨[]⟩⟩)))]
def k95_1:VC:=.reg [oD 9 (.loadN [.bool,(.int .u64),(.int .u64)] τ4),oD 10 (.callF 97 [τ9]),oD 11 (.not Xcd),oM 12 Xb8,oG 13 (.loadN [.bool,(.int .u64),(.int .u64)] τ5) 12 false,oG 14 (.callF 97 [Xc2]) 12 false,oG 15 (.not Xdo) 12 false,oD 16 (.pick XcZ (.const (.bool true)) Xdl),oM 17 Xdp,oG 18 (.fieldA 0 τ4) 17 false,oG 19 (.load1 .bool XdW) 17 false,oG 20 (.fieldA 0 τ5) 17 false,oG 21 (.load1 .bool Xea) 17 false,oG 22 (.eqB true XdM Xei) 17 false,oD 23 (.pick Xdm (.const (.bool true)) XeN)]
def k95_2:VC:=.reg [oD 8 (.mv (.const (.string ⟨⟨[]⟩⟩)))]
def k95_3:VC:=.seq k95_2 .ret
def k95_4:VC:=.cond XeR k95_3 .skip
def k95_5:VC:=.seq k95_1 k95_4
def k95_6:VC:=.reg [oD 24 (.fieldA 0 τ4),oD 25 (.load1 .bool Xex)]
def k95_7:VC:=.regD [oD 26 (.loadN [.bool,(.int .u64),(.int .u64)] τ4),oD 27 (.callF 92 [Xep]),oD 28 (.loadN [.bool,(.int .u64),(.int .u64)] τ5),oD 29 (.callF 92 [XeO]),oD 30 (.bin .add XeT Xe1),oM 31 τ3,oD 32 (.callF 94 [Xfw,(.const (.int .i64 4))]),oD 33 (.bin .add Xfy XfC),oD 34 (.callF 94 [(.const (.int .i64 0)),(.const (.int .i64 3))]),oD 35 (.bin .add XfA XfK),oM 36 τ2,oD 37 (.callF 94 [XfV,(.const (.int .i64 1))])] [(1,2)] [oD 38 (.bin .add XfU XfB),oM 8 XgM]
def k95_8:VC:=.seq k95_7 .ret
def k95_9:VC:=.cond XeX k95_8 .skip
def X4s:VC:=.seq k95_6 k95_9
def XYF:VC:=.regD [oD 39 (.loadN [.bool,(.int .u64),(.int .u64)] τ4),oD 40 (.callF 92 [XgK]),oD 41 (.loadN [.bool,(.int .u64),(.int .u64)] τ5),oD 42 (.callF 92 [Xhs]),oD 43 (.bin .add Xhu Xht),oD 44 (.callF 94 [(.const (.int .i64 0)),(.const (.int .i64 1))]),oD 45 (.bin .add XhC Xim),oM 46 τ2,oD 47 (.callF 94 [Xin,(.const (.int .i64 1))]),oD 48 (.bin .add XhP XhS),oM 49 τ3,oD 50 (.callF 94 [XiO,(.const (.int .i64 2))])] [(1,2)] [oD 51 (.bin .add XiP XiR),oM 8 XiQ]
def XM0:VC:=.seq XYF .ret
def X04:VC:=.seq X4s XM0
def X0U:VC:=.seq k95_5 X04
def XBc:VC:=.seq k95_0 X0U
def fn95:VFn:=⟨52,XBc,[.tmp 8]⟩
def k97_0:VC:=.reg [oD 1 (.box τ0),oD 2 (.mv (.const (.bool false)))]
def k97_1:VC:=.reg [oD 3 (.fieldA 0 τ1),oD 4 (.load1 .bool τ3),oM 5 τ4,oG 6 (.fieldA 1 τ1) 5 false,oG 7 (.load1 (.int .u64) τ6) 5 false,oG 8 (.bin .eql τ7 (.const (.int .u64 0))) 5 false,oG 9 (.mv τ8) 5 false,oG 10 (.fieldA 2 τ1) 9 true,oG 11 (.load1 (.int .u64) Xcd) 9 true,oG 12 (.bin .lss Xb8 (.const (.int .u64 4294967296))) 9 true,oG 13 (.pick τ9 XcZ (.const (.bool false))) 5 false,oD 14 (.pick τ5 (.const (.bool true)) Xc2),oM 2 Xdo]
def k97_2:VC:=.seq k97_1 .ret
def XXh:VC:=.seq k97_0 k97_2
def fn97:VFn:=⟨15,XXh,[.tmp 2]⟩
def k92_0:VC:=.reg [oD 1 (.box τ0),oD 2 (.mv (.const (.string ⟨⟨[]⟩⟩)))]
def k92_1:VC:=.reg [oD 3 (.loadN [.bool,(.int .u64),(.int .u64)] τ1),oD 4 (.callF 97 [τ3]),oD 5 (.not τ4)]
def k92_2:VC:=.reg [oD 2 (.mv (.const (.string ⟨⟨[]⟩⟩)))]
def k92_3:VC:=.seq k92_2 .ret
def k92_4:VC:=.cond τ5 k92_3 .skip
def k92_5:VC:=.seq k92_1 k92_4
def k92_6:VC:=.reg [oD 6 (.fieldA 0 τ1),oD 7 (.load1 .bool τ6)]
def k92_7:VC:=.regD [oD 8 (.fieldA 1 τ1),oD 9 (.load1 (.int .u64) τ8),oD 10 (.callF 85 [τ9,(.const (.int .i64 8))]),oD 11 (.fieldA 2 τ1),oD 12 (.load1 (.int .u64) Xb8)] [(2,4)] [oD 13 (.callF 85 [XcZ,(.const (.int .i64 8))]),oD 14 (.bin .add Xcd Xc2),oM 2 Xdo]
def k92_8:VC:=.seq k92_7 .ret
def k92_9:VC:=.cond τ7 k92_8 .skip
def X6e:VC:=.seq k92_6 k92_9
def XWM:VC:=.reg [oD 15 (.fieldA 2 τ1),oD 16 (.load1 (.int .u64) Xdl),oD 17 (.callF 85 [Xdp,(.const (.int .i64 4))]),oM 2 Xdm]
def XX9:VC:=.seq XWM .ret
def X5z:VC:=.seq X6e XX9
def XOf:VC:=.seq k92_5 X5z
def XAr:VC:=.seq k92_0 XOf
def fn92:VFn:=⟨18,XAr,[.tmp 2]⟩
def k85_0:VC:=.reg [oD 4 (.mv (.const (.string ⟨⟨[]⟩⟩)))]
def k85_1:VC:=.reg [oD 5 (.mv (.const (.string ⟨⟨[]⟩⟩)))]
def k85_2:VC:=.reg [oD 6 (.mv (.const (.int .i64 0)))]
def k85_3:VC:=.reg [oM 7 τ6,oM 8 τ1,oD 9 (.bin .lss τ7 τ8),oM 10 τ9,oG 11 (.mv τ1) 10 true,oG 12 (.bin .leq Xb8 (.const (.int .i64 8))) 10 true,oD 13 (.pick Xcd XcZ (.const (.bool false)))]
def k85_4:VC:=.cond Xc2 .skip (.exit 0)
def k85_5:VC:=.seq k85_3 k85_4
def k85_6:VC:=.reg [oM 16 τ0,oD 17 (.bin .rem Xdp (.const (.int .u64 256))),oD 18 (.conv .u8 Xdm),oD 19 (.buildSl 1 1 [(.int .u8 0)] [(0,1,XdW)]),oD 20 (.b2s XdM),oM 21 τ5,oD 22 (.bin .add Xea Xei),oM 5 XeN]
def k85_7:VC:=.reg [oM 23 τ0,oD 24 (.bin .quo XeR (.const (.int .u64 256))),oM 0 Xex]
def k85_8:VC:=.seq k85_6 k85_7
def k85_9:VC:=.block 1 k85_8
def XWu:VC:=.reg [oM 14 τ6,oD 15 (.bin .add Xdo (.const (.int .i64 1))),oM 6 Xdl]
def XQL:VC:=.seq k85_9 XWu
def Xtk:VC:=.seq k85_5 XQL
def X13:VC:=.loop Xtk
def XWI:VC:=.block 0 X13
def XOn:VC:=.seq k85_2 XWI
def XUc:VC:=.reg [oM 25 τ5,oM 4 XeX]
def XAf:VC:=.seq XUc .ret
def XNM:VC:=.seq XOn XAf
def XYA:VC:=.seq k85_1 XNM
def Xzh:VC:=.seq k85_0 XYA
def fn85:VFn:=⟨26,Xzh,[.tmp 4]⟩
def k94_0:VC:=.reg [oD 4 (.mv (.const (.string ⟨⟨[]⟩⟩)))]
def k94_1:VC:=.reg [oM 5 τ0,oD 6 (.conv .u64 τ5),oM 7 τ1,oD 8 (.callF 85 [τ6,τ7]),oM 4 τ8]
def k94_2:VC:=.seq k94_1 .ret
def X3G:VC:=.seq k94_0 k94_2
def fn94:VFn:=⟨9,X3G,[.tmp 4]⟩
def XYS:VC:=.reg [oD 2 (.mv (.const (.slice none 0 0))),oD 3 (.mv (.const (.int .i64 0)))]
def XZV:VC:=.reg [oD 4 (.mv (.const (.slice none 0 0)))]
def X3C:VC:=.reg [oD 5 (.mv (.const (.int .i64 0)))]
def X3c:VC:=.reg [oM 7 τ5,oM 8 τ0,oD 9 (.lenS τ8),oD 10 (.bin .lss τ7 τ9),oM 11 Xcd,oG 12 (.mv τ0) 11 true,oG 13 (.mv τ5) 11 true,oG 14 (.idxS XcZ Xc2) 11 true,oG 15 (.bin .neq Xdo (.const (.int .u8 0))) 11 true,oD 16 (.pick Xb8 Xdl (.const (.bool false)))]
def XYe:VC:=.cond Xdp .skip (.exit 0)
def XNE:VC:=.seq X3c XYe
def X4h:VC:=.reg [oM 17 τ0,oM 18 τ5,oD 19 (.idxS Xdm XdW),oD 20 (.bin .eql XdM (.const (.int .u8 1)))]
def XTZ:VC:=.reg [oM 21 τ5,oD 22 (.bin .add Xei (.const (.int .i64 1))),oM 5 XeN]
def X6T:VC:=.seq XTZ (.exit 1)
def X6P:VC:=.cond Xea X6T .skip
def XEe:VC:=.seq X4h X6P
def XF2:VC:=.reg [oM 23 τ5,oD 24 (.bin .add XeR (.const (.int .i64 1))),oM 25 τ0,oD 26 (.lenS XeX),oD 27 (.bin .geq Xex Xep),oM 28 XeT,oG 29 (.mv τ0) 28 false,oG 30 (.mv τ5) 28 false,oG 31 (.bin .add Xfy (.const (.int .i64 1))) 28 false,oG 32 (.idxS Xe1 Xfw) 28 false,oG 33 (.bin .lss XfC (.const (.int .u8 2))) 28 false,oD 34 (.pick XeO (.const (.bool true)) XfA),oM 35 XfK,oG 36 (.mv τ0) 35 false,oG 37 (.mv τ5) 35 false,oG 38 (.bin .add XfB (.const (.int .i64 1))) 35 false,oG 39 (.idxS XfV XgM) 35 false,oG 40 (.conv .i64 XgK) 35 false,oG 41 (.mv τ0) 35 false,oG 42 (.lenS Xhs) 35 false,oG 43 (.mv τ5) 35 false,oG 44 (.bin .sub Xht XhC) 35 false,oG 45 (.bin .gtr Xhu Xim) 35 false,oD 46 (.pick XfU (.const (.bool true)) XhP)]
def XHj:VC:=.reg [oD 2 (.mv (.const (.slice none 0 0))),oD 3 (.mv (.const (.int .i64 3)))]
def XIU:VC:=.seq XHj .ret
def XFN:VC:=.cond Xin XIU .skip
def XLe:VC:=.seq XF2 XFN
def XJs:VC:=.reg [oM 47 τ0,oM 48 τ5,oD 49 (.bin .add XiP (.const (.int .i64 1))),oD 50 (.idxS XhS XiO),oD 51 (.conv .i64 XiR),oM 6 XiQ]
def XIM:VC:=.regD [oM 52 τ4,oM 53 τ0,oM 54 τ5,oD 55 (.idxS XjO XkV),oD 56 (.conv .i64 Xk3),oM 57 τ0,oM 58 τ5,oD 59 (.bin .add XkW (.const (.int .i64 2))),oM 60 τ5,oM 61 τ6,oD 62 (.bin .add Xl4 Xl7),oD 63 (.sliceS XkK (some Xk8) (some XmX)),oM 64 τ5,oD 65 (.bin .add Xn3 (.const (.int .i64 2))),oD 66 (.build [(.int .i64 0),(.string ⟨⟨[]⟩⟩),(.int .i64 0)] [(0,1,Xlp),(1,1,Xow),(2,1,XoH)]),oD 67 (.buildSl 1 3 [(.int .i64 0),(.string ⟨⟨[]⟩⟩),(.int .i64 0)] [(0,3,Xo1)])] [] [oD 68 (.app 153 3 32 XjN XoE),oM 4 XpF]
def XGm:VC:=.reg [oM 69 τ5,oM 70 τ6,oD 71 (.bin .add Xpj Xq8),oM 5 Xq3]
def XCF:VC:=.seq XIM XGm
def XHO:VC:=.seq XJs XCF
def XGH:VC:=.seq XLe XHO
def XCq:VC:=.seq XEe XGH
def XE5:VC:=.block 1 XCq
def XpN:VC:=.seq XNE XE5
def XGM:VC:=.loop XpN
def XKP:VC:=.block 0 XGM
def XCo:VC:=.seq X3C XKP
def XGs:VC:=.reg [oM 72 τ4,oM 2 Xq1,oD 3 (.mv (.const (.int .i64 0)))]
def Xuc:VC:=.seq XGs .ret
def XDg:VC:=.seq XCo Xuc
def XCO:VC:=.seq XZV XDg
def XtV:VC:=.seq XYS XCO
def XMy:VFn:=⟨73,XtV,[.tmp 2,.tmp 3]⟩
def k58_0:VC:=.reg [oD 2 (.mv (.const (.int .u32 0))),oD 3 (.mv (.const (.int .u32 0))),oD 4 (.mv (.const (.int .i64 0)))]
def k58_1:VC:=.reg [oM 9 τ0,oD 10 (.callF 101 [τ9]),oM 8 Xcd,oE 11 0 τ8,oE 12 1 τ8,oM 5 Xb8,oM 6 XcZ]
def k58_2:VC:=.reg [oD 7 (.mv (.const (.int .i64 0)))]
def k58_3:VC:=.reg [oM 13 τ7,oM 14 τ5,oD 15 (.lenL Xdo),oD 16 (.bin .lss Xc2 Xdl)]
def k58_4:VC:=.cond Xdp .skip (.exit 0)
def k58_5:VC:=.seq k58_3 k58_4
def k58_6:VC:=.reg [oM 19 τ5,oM 20 τ7,oD 21 (.idxAL 3 XdM Xea),oD 22 (.fieldA 0 Xei),oD 23 (.load1 (.int .i64) XeN),oD 24 (.bin .eql XeR (.const (.int .i64 8)))]
def k58_7:VC:=.reg [oM 25 τ5,oM 26 τ7,oD 27 (.idxAL 3 XeX Xep),oD 28 (.fieldA 1 XeT),oD 29 (.load1 .str XeO),oD 30 (.lenS Xe1),oD 31 (.bin .neq Xfy (.const (.int .i64 8)))]
def k58_8:VC:=.reg [oD 2 (.mv (.const (.int .u32 0))),oD 3 (.mv (.const (.int .u32 0))),oD 4 (.mv (.const (.int .i64 (-1))))]
def k58_9:VC:=.seq k58_8 .ret
def XW5:VC:=.cond Xfw k58_9 .skip
def XMB:VC:=.seq k58_7 XW5
def XZv:VC:=.regD [oM 32 τ5,oM 33 τ7,oD 34 (.idxAL 3 XfC XfA),oD 35 (.fieldA 1 XfK),oD 36 (.load1 .str XfU),oD 37 (.callF 44 [XfV,(.const (.int .i64 0)),(.const (.int .i64 4))]),oD 38 (.conv .u32 XfB),oM 39 τ5,oM 40 τ7,oD 41 (.idxAL 3 XgK Xhu),oD 42 (.fieldA 1 Xhs),oD 43 (.load1 .str Xht),oD 44 (.callF 44 [XhC,(.const (.int .i64 4)),(.const (.int .i64 4))]),oD 45 (.conv .u32 Xim),oM 46 τ5,oM 47 τ7,oD 48 (.idxAL 3 Xin XhS),oD 49 (.fieldA 2 XiP),oD 50 (.load1 (.int .i64) XiO),oM 2 XgM,oM 3 XhP] [(5,11),(5,18),(12,18)] [oM 4 XiR]
def XUF:VC:=.seq XZv .ret
def XTT:VC:=.seq XMB XUF
def XWK:VC:=.cond Xex XTT .skip
def XQt:VC:=.seq k58_6 XWK
def X20:VC:=.block 1 XQt
def XSn:VC:=.reg [oM 17 τ7,oD 18 (.bin .add Xdm (.const (.int .i64 1))),oM 7 XdW]
def X6d:VC:=.seq X20 XSn
def Xt6:VC:=.seq k58_5 X6d
def X39:VC:=.loop Xt6
def XPc:VC:=.block 0 X39
def X2O:VC:=.seq k58_2 XPc
def XQV:VC:=.reg [oD 2 (.mv (.const (.int .u32 0))),oD 3 (.mv (.const (.int .u32 0))),oD 4 (.mv (.const (.int .i64 (-1))))]
def XAo:VC:=.seq XQV .ret
def X50:VC:=.seq X2O XAo
def X3v:VC:=.seq k58_1 X50
def XzZ:VC:=.seq k58_0 X3v
def fn58:VFn:=⟨51,XzZ,[.tmp 2,.tmp 3,.tmp 4]⟩
def k59_0:VC:=.reg [oD 4 (.box τ1),oD 5 (.box τ2),oD 6 (.alloc [(.int .i64 0),(.int .i64 0)]),oD 7 (.mv (.const (.string ⟨⟨[]⟩⟩))),oD 8 (.mv (.const (.int .i64 0)))]
def k59_1:VC:=.reg [oM 11 τ0,oD 12 (.lenS Xb8),oD 13 (.bin .lss XcZ (.const (.int .i64 8)))]
def k59_2:VC:=.reg [oD 14 (.build [(.int .i64 0),(.int .i64 0)] []),oN (.store 2 τ6 Xdo),oD 7 (.mv (.const (.string ⟨⟨[]⟩⟩))),oD 8 (.mv (.const (.int .i64 2)))]
def k59_3:VC:=.seq k59_2 .ret
def k59_4:VC:=.cond Xc2 k59_3 .skip
def k59_5:VC:=.seq k59_1 k59_4
def k59_6:VC:=.reg [oM 15 τ0,oD 16 (.callF 44 [Xdl,(.const (.int .i64 4)),(.const (.int .i64 2))]),oM 9 Xdp]
def k59_7:VC:=.reg [oM 17 τ9,oD 18 (.bin .lss Xdm (.const (.int .i64 8)))]
def k59_8:VC:=.reg [oD 19 (.build [(.int .i64 0),(.int .i64 0)] []),oN (.store 2 τ6 XdM),oD 7 (.mv (.const (.string ⟨⟨[]⟩⟩))),oD 8 (.mv (.const (.int .i64 3)))]
def k59_9:VC:=.seq k59_8 .ret
def XWQ:VC:=.cond XdW k59_9 .skip
def XTS:VC:=.seq k59_7 XWQ
def XYo:VC:=.reg [oM 20 τ0,oD 21 (.lenS Xea),oM 22 τ9,oD 23 (.bin .lss Xei XeN)]
def X6t:VC:=.reg [oD 24 (.build [(.int .i64 0),(.int .i64 0)] []),oN (.store 2 τ6 Xex),oD 7 (.mv (.const (.string ⟨⟨[]⟩⟩))),oD 8 (.mv (.const (.int .i64 2)))]
def XNT:VC:=.seq X6t .ret
def XVi:VC:=.cond XeR XNT .skip
def X7J:VC:=.seq XYo XVi
def XTh:VC:=.reg [oD 25 (.loadN [.bool,(.int .u64),(.int .u64)] τ4),oD 26 (.loadN [.bool,(.int .u64),(.int .u64)] τ5),oM 27 τ9,oD 28 (.callF 95 [XeX,Xep,(.const (.int .i64 17)),XeT]),oM 10 XeO]
def X6y:VC:=.reg [oM 29 Xcd,oD 30 (.bin .eql Xe1 (.const (.string ⟨⟨[]⟩⟩)))]
def X6U:VC:=.reg [oD 31 (.build [(.int .i64 0),(.int .i64 0)] []),oN (.store 2 τ6 Xfw),oD 7 (.mv (.const (.string ⟨⟨[]⟩⟩))),oD 8 (.mv (.const (.int .i64 1)))]
def X4d:VC:=.seq X6U .ret
def X0J:VC:=.cond Xfy X4d .skip
def X7i:VC:=.seq X6y X0J
def X2K:VC:=.reg [oM 32 τ0,oD 33 (.callF 44 [XfC,(.const (.int .i64 6)),(.const (.int .i64 2))]),oD 34 (.bin .eql XfA (.const (.int .i64 0)))]
def X7u:VC:=.reg [oD 35 (.fieldA 0 τ4),oD 36 (.load1 .bool XfU)]
def X1n:VC:=.reg [oD 37 (.build [(.int .i64 0),(.int .i64 0)] []),oN (.store 2 τ6 XfB),oD 7 (.mv (.const (.string ⟨⟨[]⟩⟩))),oD 8 (.mv (.const (.int .i64 4)))]
def X6N:VC:=.seq X1n .ret
def X00:VC:=.cond XfV X6N .skip
def X6l:VC:=.seq X7u X00
def X3S:VC:=.reg [oM 38 Xcd,oM 39 τ0,oM 40 τ9,oD 41 (.sliceS XgK none (some Xhu)),oD 42 (.bin .add XgM Xhs),oD 43 (.callF 100 [Xht]),oD 44 (.bin .neq XhC (.const (.int .i64 65535)))]
def X46:VC:=.reg [oD 45 (.build [(.int .i64 0),(.int .i64 0)] []),oN (.store 2 τ6 XhP),oD 7 (.mv (.const (.string ⟨⟨[]⟩⟩))),oD 8 (.mv (.const (.int .i64 4)))]
def XYV:VC:=.seq X46 .ret
def X6i:VC:=.cond Xim XYV .skip
def X0I:VC:=.seq X3S X6i
def X6W:VC:=.cond XfK X6l X0I
def XS9:VC:=.seq X2K X6W
def XMY:VC:=.regD [oM 46 τ0,oD 47 (.callF 44 [Xin,(.const (.int .i64 0)),(.const (.int .i64 2))]),oM 48 τ0,oD 49 (.callF 44 [XiP,(.const (.int .i64 2)),(.const (.int .i64 2))]),oD 50 (.build [(.int .i64 0),(.int .i64 0)] [(0,1,XhS),(1,1,XiO)]),oM 51 τ0,oM 52 τ9,oD 53 (.sliceS XiQ (some (.const (.int .i64 8))) (some XjN)),oN (.store 2 τ6 XiR)] [] [oM 7 XjO,oD 8 (.mv (.const (.int .i64 0)))]
def XTA:VC:=.seq XMY .ret
def X3X:VC:=.seq XS9 XTA
def X0R:VC:=.seq X7i X3X
def XMZ:VC:=.seq XTh X0R
def XW9:VC:=.seq X7J XMZ
def XP6:VC:=.seq XTS XW9
def XM2:VC:=.seq k59_6 XP6
def X05:VC:=.seq k59_5 XM2
def XzI:VC:=.seq k59_0 X05
def fn59:VFn:=⟨54,XzI,[.cell 6 [(.int .i64),(.int .i64)] true,.tmp 7,.tmp 8]⟩
def k21_0:VC:=.reg [oD 2 (.alloc [(.bool false),(.int .i64 0),(.int .u32 0),(.string ⟨⟨[]⟩⟩),(.string ⟨⟨[]⟩⟩),(.string ⟨⟨[]⟩⟩)]),oD 3 (.mv (.const (.int .i64 0)))]
def k21_1:VC:=.reg [oM 10 τ0,oD 11 (.bin .eql Xcd (.const (.string ⟨⟨[]⟩⟩)))]
def k21_2:VC:=.reg [oD 12 (.build [(.bool false),(.int .i64 0),(.int .u32 0),(.string ⟨⟨[]⟩⟩),(.string ⟨⟨[]⟩⟩),(.string ⟨⟨[]⟩⟩)] []),oN (.store 6 τ2 XcZ),oD 3 (.mv (.const (.int .i64 2)))]
def k21_3:VC:=.seq k21_2 .ret
def k21_4:VC:=.cond Xb8 k21_3 .skip
def k21_5:VC:=.seq k21_1 k21_4
def k21_6:VC:=.reg [oM 13 τ0,oD 14 (.idxS Xc2 (.const (.int .i64 0))),oD 15 (.bin .quo Xdo (.const (.int .u8 64))),oD 16 (.bin .rem Xdl (.const (.int .u8 2))),oD 17 (.bin .eql Xdp (.const (.int .u8 0)))]
def k21_7:VC:=.reg [oD 18 (.build [(.bool false),(.int .i64 0),(.int .u32 0),(.string ⟨⟨[]⟩⟩),(.string ⟨⟨[]⟩⟩),(.string ⟨⟨[]⟩⟩)] []),oN (.store 6 τ2 XdW),oD 3 (.mv (.const (.int .i64 3)))]
def k21_8:VC:=.seq k21_7 .ret
def k21_9:VC:=.cond Xdm k21_8 .skip
def XOr:VC:=.seq k21_6 k21_9
def X1W:VC:=.regD [oM 19 τ0,oD 20 (.idxS XdM (.const (.int .i64 0))),oD 21 (.bin .geq Xea (.const (.int .u8 128))),oM 22 τ0,oD 23 (.idxS XeN (.const (.int .i64 0))),oD 24 (.bin .rem XeR (.const (.int .u8 64))),oD 25 (.conv .i64 Xex),oD 26 (.build [(.bool false),(.int .i64 0),(.int .u32 0),(.string ⟨⟨[]⟩⟩),(.string ⟨⟨[]⟩⟩),(.string ⟨⟨[]⟩⟩)] [(0,1,Xei),(1,1,XeX)]),oD 4 (.alloc [(.bool false),(.int .i64 0),(.int .u32 0),(.string ⟨⟨[]⟩⟩),(.string ⟨⟨[]⟩⟩),(.string ⟨⟨[]⟩⟩)])] [] [oN (.store 6 τ4 Xep)]
def XNt:VC:=.reg [oD 27 (.fieldA 0 τ4),oD 28 (.load1 .bool XeT),oD 29 (.not XeO)]
def XU9:VC:=.reg [oM 30 τ0,oD 31 (.lenS Xfy),oD 32 (.bin .lss Xfw (.const (.int .i64 9)))]
def XU7:VC:=.reg [oD 33 (.build [(.bool false),(.int .i64 0),(.int .u32 0),(.string ⟨⟨[]⟩⟩),(.string ⟨⟨[]⟩⟩),(.string ⟨⟨[]⟩⟩)] []),oN (.store 6 τ2 XfA),oD 3 (.mv (.const (.int .i64 2)))]
def X0e:VC:=.seq XU7 .ret
def X1O:VC:=.cond XfC X0e .skip
def XYx:VC:=.seq XU9 X1O
def XRV:VC:=.reg [oM 34 τ0,oD 35 (.sliceS XfK (some (.const (.int .i64 1))) (some (.const (.int .i64 9)))),oD 36 (.fieldA 3 τ4),oN (.store 1 XfV XfU)]
def XRs:VC:=.reg [oM 37 τ0,oD 38 (.sliceS XfB (some (.const (.int .i64 9))) none),oD 39 (.fieldA 5 τ4),oN (.store 1 XgK XgM)]
def X0S:VC:=.reg [oD 40 (.loadN [.bool,(.int .i64),(.int .u32),.str,.str,.str] τ4),oN (.store 6 τ2 Xhu),oD 3 (.mv (.const (.int .i64 0)))]
def XXV:VC:=.seq X0S .ret
def X5E:VC:=.seq XRs XXV
def XWq:VC:=.seq XRV X5E
def XT1:VC:=.seq XYx XWq
def X1A:VC:=.cond Xe1 XT1 .skip
def XTk:VC:=.seq XNt X1A
def XVh:VC:=.reg [oM 41 τ0,oD 42 (.lenS Xhs),oD 43 (.bin .lss Xht (.const (.int .i64 5)))]
def XVo:VC:=.reg [oD 44 (.build [(.bool false),(.int .i64 0),(.int .u32 0),(.string ⟨⟨[]⟩⟩),(.string ⟨⟨[]⟩⟩),(.string ⟨⟨[]⟩⟩)] []),oN (.store 6 τ2 Xim),oD 3 (.mv (.const (.int .i64 2)))]
def XUo:VC:=.seq XVo .ret
def XZx:VC:=.cond XhC XUo .skip
def XMC:VC:=.seq XVh XZx
def XZf:VC:=.reg [oM 45 τ0,oD 46 (.callF 44 [XhP,(.const (.int .i64 1)),(.const (.int .i64 4))]),oD 47 (.conv .u32 Xin),oD 48 (.fieldA 2 τ4),oN (.store 1 XiP XhS)]
def X0A:VC:=.reg [oM 50 τ0,oD 51 (.callF 45 [XiR,(.const (.int .i64 5))]),oM 49 XiQ,oE 52 0 XiO,oE 53 1 XiO,oE 54 2 XiO,oM 5 XjN,oM 6 XjO,oM 7 XkV]
def XRI:VC:=.reg [oM 55 τ6,oD 56 (.bin .neq Xk3 (.const (.int .i64 0)))]
def XZD:VC:=.reg [oD 57 (.build [(.bool false),(.int .i64 0),(.int .u32 0),(.string ⟨⟨[]⟩⟩),(.string ⟨⟨[]⟩⟩),(.string ⟨⟨[]⟩⟩)] []),oM 58 τ6,oN (.store 6 τ2 XkK),oM 3 XkW]
def XLF:VC:=.seq XZD .ret
def X7f:VC:=.cond Xlp XLF .skip
def X52:VC:=.seq XRI X7f
def X7z:VC:=.reg [oM 60 τ0,oM 61 τ7,oD 62 (.callF 45 [Xl4,Xl7]),oM 59 XmX,oE 63 0 Xk8,oE 64 1 Xk8,oE 65 2 Xk8,oM 8 Xow,oM 6 Xn3,oM 9 XoH]
def XY2:VC:=.reg [oM 66 τ6,oD 67 (.bin .neq Xo1 (.const (.int .i64 0)))]
def XSw:VC:=.reg [oD 68 (.build [(.bool false),(.int .i64 0),(.int .u32 0),(.string ⟨⟨[]⟩⟩),(.string ⟨⟨[]⟩⟩),(.string ⟨⟨[]⟩⟩)] []),oM 69 τ6,oN (.store 6 τ2 XpF),oM 3 Xpj]
def XWh:VC:=.seq XSw .ret
def XXl:VC:=.cond XoE XWh .skip
def X5H:VC:=.seq XY2 XXl
def XMN:VC:=.reg [oM 70 τ5,oD 71 (.fieldA 3 τ4),oN (.store 1 Xq3 Xq8)]
def XLR:VC:=.reg [oM 72 τ8,oD 73 (.fieldA 4 τ4),oN (.store 1 Xr9 Xq1)]
def XTD:VC:=.reg [oM 74 τ0,oM 75 τ9,oD 76 (.sliceS XtP (some XtI) none),oD 77 (.fieldA 5 τ4),oN (.store 1 XuG XvY)]
def XQX:VC:=.reg [oD 78 (.loadN [.bool,(.int .i64),(.int .u32),.str,.str,.str] τ4),oN (.store 6 τ2 Xv3),oD 3 (.mv (.const (.int .i64 0)))]
def XQQ:VC:=.seq XQX .ret
def X5t:VC:=.seq XTD XQQ
def XXy:VC:=.seq XLR X5t
def X3Y:VC:=.seq XMN XXy
def XP1:VC:=.seq X5H X3Y
def XSF:VC:=.seq X7z XP1
def X43:VC:=.seq X52 XSF
def X3I:VC:=.seq X0A X43
def XXU:VC:=.seq XZf X3I
def XWB:VC:=.seq XMC XXU
def XVa:VC:=.seq XTk XWB
def X4H:VC:=.seq X1W XVa
def XTa:VC:=.seq XOr X4H
def X0F:VC:=.seq k21_5 XTa
def XA6:VC:=.seq k21_0 X0F
def fn21:VFn:=⟨79,XA6,[.cell 2 [.bool,(.int .i64),(.int .u32),.str,.str,.str] true,.tmp 3]⟩
def k45_0:VC:=.reg [oD 4 (.mv (.const (.string ⟨⟨[]⟩⟩))),oD 5 (.mv (.const (.int .i64 0))),oD 6 (.mv (.const (.int .i64 0)))]
def k45_1:VC:=.reg [oM 8 τ1,oM 9 τ0,oD 10 (.lenS τ9),oD 11 (.bin .geq τ8 Xcd)]
def k45_2:VC:=.reg [oD 4 (.mv (.const (.string ⟨⟨[]⟩⟩))),oD 5 (.mv (.const (.int .i64 2))),oD 6 (.mv (.const (.int .i64 0)))]
def k45_3:VC:=.seq k45_2 .ret
def k45_4:VC:=.cond Xb8 k45_3 .skip
def k45_5:VC:=.seq k45_1 k45_4
def k45_6:VC:=.reg [oM 12 τ0,oM 13 τ1,oD 14 (.idxS XcZ Xc2),oD 15 (.conv .i64 Xdo),oM 7 Xdl]
def k45_7:VC:=.reg [oM 16 τ7,oD 17 (.bin .gtr Xdp (.const (.int .i64 20)))]
def k45_8:VC:=.reg [oD 4 (.mv (.const (.string ⟨⟨[]⟩⟩))),oD 5 (.mv (.const (.int .i64 3))),oD 6 (.mv (.const (.int .i64 0)))]
def k45_9:VC:=.seq k45_8 .ret
def XNh:VC:=.cond Xdm k45_9 .skip
def XU2:VC:=.seq k45_7 XNh
def X5P:VC:=.reg [oM 18 τ7,oM 19 τ0,oD 20 (.lenS XdM),oM 21 τ1,oD 22 (.bin .sub Xea Xei),oD 23 (.bin .sub XeN (.const (.int .i64 1))),oD 24 (.bin .gtr XdW XeR)]
def XNe:VC:=.reg [oD 4 (.mv (.const (.string ⟨⟨[]⟩⟩))),oD 5 (.mv (.const (.int .i64 2))),oD 6 (.mv (.const (.int .i64 0)))]
def X0j:VC:=.seq XNe .ret
def XMe:VC:=.cond Xex X0j .skip
def X2g:VC:=.seq X5P XMe
def X2d:VC:=.reg [oM 25 τ0,oM 26 τ1,oD 27 (.bin .add Xep (.const (.int .i64 1))),oM 28 τ1,oD 29 (.bin .add XeO (.const (.int .i64 1))),oM 30 τ7,oD 31 (.bin .add Xe1 Xfy),oD 32 (.sliceS XeX (some XeT) (some Xfw)),oM 33 τ1,oD 34 (.bin .add XfA (.const (.int .i64 1))),oM 35 τ7,oD 36 (.bin .add XfK XfU),oM 4 XfC,oD 5 (.mv (.const (.int .i64 0))),oM 6 XfV]
def XUL:VC:=.seq X2d .ret
def X2o:VC:=.seq X2g XUL
def XS1:VC:=.seq XU2 X2o
def XUq:VC:=.seq k45_6 XS1
def XSh:VC:=.seq k45_5 XUq
def XBu:VC:=.seq k45_0 XSh
def fn45:VFn:=⟨37,XBu,[.tmp 4,.tmp 5,.tmp 6]⟩
def k9_0:VC:=.reg [oD 4 (.mv (.const (.int .i64 0)))]
def k9_1:VC:=.reg [oM 5 τ0,oD 6 (.callF 26 [τ5]),oD 7 (.not τ6)]
def k9_2:VC:=.reg [oD 4 (.mv (.const (.int .i64 0)))]
def k9_3:VC:=.seq k9_2 .ret
def k9_4:VC:=.cond τ7 k9_3 .skip
def k9_5:VC:=.seq k9_1 k9_4
def k9_6:VC:=.reg [oM 8 τ1]
def k9_7:VC:=.reg [oM 9 τ0,oD 10 (.bin .sub τ9 (.const (.int .i64 48))),oD 11 (.bin .sub Xcd (.const (.int .i64 18))),oM 4 Xb8]
def k9_8:VC:=.seq k9_7 .ret
def k9_9:VC:=.cond τ8 k9_8 .skip
def k9_10:VC:=.seq k9_6 k9_9
def k9_11:VC:=.reg [oM 12 τ0,oD 13 (.bin .sub XcZ (.const (.int .i64 28))),oD 14 (.bin .sub Xc2 (.const (.int .i64 18))),oM 4 Xdo]
def k9_12:VC:=.seq k9_11 .ret
def k9_13:VC:=.seq k9_10 k9_12
def k9_14:VC:=.seq k9_5 k9_13
def XTi:VC:=.seq k9_0 k9_14
def fn9:VFn:=⟨15,XTi,[.tmp 4]⟩
def k26_0:VC:=.reg [oD 2 (.mv (.const (.bool false)))]
def k26_1:VC:=.reg [oM 3 τ0,oD 4 (.bin .geq τ3 (.const (.int .i64 576))),oM 5 τ4,oG 6 (.mv τ0) 5 true,oG 7 (.bin .leq τ6 (.const (.int .i64 9000))) 5 true,oD 8 (.pick τ5 τ7 (.const (.bool false))),oM 2 τ8]
def k26_2:VC:=.seq k26_1 .ret
def XQR:VC:=.seq k26_0 k26_2
def fn26:VFn:=⟨9,XQR,[.tmp 2]⟩
def k27_0:VC:=.reg [oD 3 (.box τ0),oD 4 (.box τ1),oD 5 (.box τ2),oD 6 (.mv (.const (.string ⟨⟨[]⟩⟩))),oD 7 (.mv (.const (.int .i64 0)))]
def k27_1:VC:=.reg [oD 11 (.loadN [(.int .i64),(.int .i64),(.int .i64),.str] τ3),oD 12 (.loadN [.bool,(.int .u64),(.int .u64)] τ4),oD 13 (.loadN [.bool,(.int .u64),(.int .u64)] τ5),oD 14 (.callF 50 [Xb8,XcZ,Xc2]),oM 10 Xdo,oE 15 0 Xcd,oE 16 1 Xcd,oM 8 Xdl,oM 9 Xdp]
def k27_2:VC:=.reg [oM 17 τ9,oD 18 (.bin .neq Xdm (.const (.int .i64 0)))]
def k27_3:VC:=.reg [oM 19 τ9,oD 6 (.mv (.const (.string ⟨⟨[]⟩⟩))),oM 7 XdM]
def k27_4:VC:=.seq k27_3 .ret
def k27_5:VC:=.cond XdW k27_4 .skip
def k27_6:VC:=.seq k27_2 k27_5
def k27_7:VC:=.reg [oD 20 (.fieldA 0 τ4),oD 21 (.load1 .bool Xea)]
def k27_8:VC:=.reg [oD 22 (.loadN [.bool,(.int .u64),(.int .u64)] τ4),oD 23 (.loadN [.bool,(.int .u64),(.int .u64)] τ5),oD 24 (.build [(.int .i64 0),(.int .i64 0),(.int .i64 0),(.int .i64 0),(.bool false),(.int .u64 0),(.int .u64 0),(.bool false),(.int .u64 0),(.int .u64 0)] [(2,1,(.const (.int .i64 58))),(3,1,(.const (.int .i64 64))),(4,3,XeN),(7,3,XeR)]),oM 25 τ8,oD 26 (.callF 51 [Xex,XeX]),oE 27 0 Xep,oE 28 1 Xep,oM 6 XeT,oM 7 XeO]
def k27_9:VC:=.seq k27_8 .ret
def XZr:VC:=.cond Xei k27_9 .skip
def XLU:VC:=.seq k27_7 XZr
def X4e:VC:=.reg [oD 29 (.loadN [.bool,(.int .u64),(.int .u64)] τ4),oD 30 (.loadN [.bool,(.int .u64),(.int .u64)] τ5),oD 31 (.build [(.int .i64 0),(.int .i64 0),(.bool false),(.int .i64 0),(.int .i64 0),(.bool false),(.int .u64 0),(.int .u64 0),(.bool false),(.int .u64 0),(.int .u64 0),(.string ⟨⟨[]⟩⟩)] [(2,1,(.const (.bool true))),(3,1,(.const (.int .i64 64))),(4,1,(.const (.int .i64 1))),(5,3,Xe1),(8,3,Xfy)]),oM 32 τ8,oD 33 (.callF 52 [Xfw,XfC]),oE 34 0 XfA,oE 35 1 XfA,oM 6 XfK,oM 7 XfU]
def XNR:VC:=.seq X4e .ret
def X1T:VC:=.seq XLU XNR
def XM8:VC:=.seq k27_6 X1T
def XPB:VC:=.seq k27_1 XM8
def Xzz:VC:=.seq k27_0 XPB
def fn27:VFn:=⟨36,Xzz,[.tmp 6,.tmp 7]⟩
def k50_0:VC:=.reg [oD 3 (.box τ0),oD 4 (.box τ1),oD 5 (.box τ2),oD 6 (.mv (.const (.string ⟨⟨[]⟩⟩))),oD 7 (.mv (.const (.int .i64 0)))]
def k50_1:VC:=.reg [oD 9 (.loadN [.bool,(.int .u64),(.int .u64)] τ4),oD 10 (.loadN [.bool,(.int .u64),(.int .u64)] τ5),oD 11 (.callF 83 [τ9,Xcd]),oD 12 (.not Xb8),oM 13 XcZ,oG 14 (.loadN [(.int .i64),(.int .i64),(.int .i64),.str] τ3) 13 false,oG 15 (.fieldA 0 τ4) 13 false,oG 16 (.load1 .bool Xdl) 13 false,oG 17 (.callF 84 [Xdo,Xdp]) 13 false,oG 18 (.not Xdm) 13 false,oD 19 (.pick Xc2 (.const (.bool true)) XdW)]
def k50_2:VC:=.reg [oD 6 (.mv (.const (.string ⟨⟨[]⟩⟩))),oD 7 (.mv (.const (.int .i64 1)))]
def k50_3:VC:=.seq k50_2 .ret
def k50_4:VC:=.cond XdM k50_3 .skip
def k50_5:VC:=.seq k50_1 k50_4
def k50_6:VC:=.regD [oD 20 (.fieldA 0 τ4),oD 21 (.load1 .bool Xea),oD 22 (.fieldA 0 τ3),oD 23 (.load1 (.int .i64) XeN),oD 24 (.callF 86 [Xei,XeR]),oD 25 (.conv .u64 Xex),oD 26 (.callF 85 [XeX,(.const (.int .i64 1))]),oD 27 (.fieldA 1 τ3),oD 28 (.load1 (.int .i64) XeT),oD 29 (.conv .u64 XeO),oD 30 (.callF 85 [Xe1,(.const (.int .i64 1))]),oD 31 (.bin .add Xep Xfy),oD 32 (.bin .add Xfw (.const (.string ⟨⟨[0,0,0,0]⟩⟩))),oD 33 (.fieldA 2 τ3),oD 34 (.load1 (.int .i64) XfA),oD 35 (.conv .u64 XfK),oD 36 (.callF 85 [XfU,(.const (.int .i64 2))]),oD 37 (.bin .add XfC XfV),oD 38 (.fieldA 3 τ3),oD 39 (.load1 .str XgM)] [(4,8),(4,14),(4,19),(6,8),(6,14),(6,19),(10,14),(10,19),(16,19)] [oD 40 (.bin .add XfB XgK),oM 8 Xhu]
def k50_7:VC:=.reg [oM 41 τ8,oD 42 (.loadN [.bool,(.int .u64),(.int .u64)] τ4),oD 43 (.loadN [.bool,(.int .u64),(.int .u64)] τ5),oM 44 τ8,oD 45 (.lenS Xim),oD 46 (.callF 89 [Xht,XhC,XhP]),oM 47 τ8,oD 48 (.bin .add Xin XhS),oD 49 (.callF 88 [XiP]),oD 50 (.conv .u64 XiO),oD 51 (.callF 87 [Xhs,(.const (.int .i64 2)),(.const (.int .i64 2)),XiR]),oM 6 XiQ,oD 7 (.mv (.const (.int .i64 0)))]
def k50_8:VC:=.seq k50_7 .ret
def k50_9:VC:=.seq k50_6 k50_8
def XQN:VC:=.seq k50_5 k50_9
def Xz0:VC:=.seq k50_0 XQN
def fn50:VFn:=⟨52,Xz0,[.tmp 6,.tmp 7]⟩
def k83_0:VC:=.reg [oD 2 (.box τ0),oD 3 (.box τ1),oD 4 (.mv (.const (.bool false)))]
def k83_1:VC:=.reg [oD 5 (.loadN [.bool,(.int .u64),(.int .u64)] τ2),oD 6 (.loadN [.bool,(.int .u64),(.int .u64)] τ3),oD 7 (.callF 95 [τ5,τ6,(.const (.int .i64 1)),(.const (.int .i64 8))]),oD 8 (.bin .neq τ7 (.const (.string ⟨⟨[]⟩⟩))),oM 4 τ8]
def k83_2:VC:=.seq k83_1 .ret
def XRD:VC:=.seq k83_0 k83_2
def fn83:VFn:=⟨9,XRD,[.tmp 4]⟩
def k84_0:VC:=.reg [oD 2 (.box τ0),oD 4 (.mv (.const (.bool false)))]
def k84_1:VC:=.reg [oD 5 (.fieldA 0 τ2),oD 6 (.load1 (.int .i64) τ5),oD 7 (.bin .lss τ6 (.const (.int .i64 1))),oM 8 τ7,oG 9 (.fieldA 0 τ2) 8 false,oG 10 (.load1 (.int .i64) τ9) 8 false,oG 11 (.bin .gtr Xcd (.const (.int .i64 3))) 8 false,oD 12 (.pick τ8 (.const (.bool true)) Xb8),oM 13 XcZ,oG 14 (.fieldA 1 τ2) 13 false,oG 15 (.load1 (.int .i64) Xdo) 13 false,oG 16 (.bin .lss Xdl (.const (.int .i64 0))) 13 false,oD 17 (.pick Xc2 (.const (.bool true)) Xdp),oM 18 Xdm,oG 19 (.fieldA 1 τ2) 18 false,oG 20 (.load1 (.int .i64) XdM) 18 false,oG 21 (.bin .gtr Xea (.const (.int .i64 255))) 18 false,oD 22 (.pick XdW (.const (.bool true)) Xei),oM 23 XeN,oG 24 (.fieldA 2 τ2) 23 false,oG 25 (.load1 (.int .i64) Xex) 23 false,oG 26 (.bin .lss XeX (.const (.int .i64 0))) 23 false,oD 27 (.pick XeR (.const (.bool true)) Xep),oM 28 XeT,oG 29 (.fieldA 2 τ2) 28 false,oG 30 (.load1 (.int .i64) Xe1) 28 false,oG 31 (.bin .gtr Xfy (.const (.int .i64 65535))) 28 false,oD 32 (.pick XeO (.const (.bool true)) Xfw),oM 33 XfC,oG 34 (.fieldA 0 τ2) 33 false,oG 35 (.load1 (.int .i64) XfK) 33 false,oG 36 (.bin .neq XfU (.const (.int .i64 2))) 33 false,oG 37 (.mv XfV) 33 false,oG 38 (.fieldA 2 τ2) 37 true,oG 39 (.load1 (.int .i64) XgM) 37 true,oG 40 (.bin .neq XgK (.const (.int .i64 0))) 37 true,oG 41 (.pick XfB Xhu (.const (.bool false))) 33 false,oD 42 (.pick XfA (.const (.bool true)) Xhs),oM 43 Xht,oG 44 (.fieldA 3 τ2) 43 false,oG 45 (.load1 .str Xim) 43 false,oG 46 (.lenS XhP) 43 false,oG 47 (.bin .gtr Xin (.const (.int .i64 1232))) 43 false,oD 48 (.pick XhC (.const (.bool true)) XhS)]
def k84_2:VC:=.reg [oD 4 (.mv (.const (.bool false)))]
def k84_3:VC:=.seq k84_2 .ret
def k84_4:VC:=.cond XiP k84_3 .skip
def k84_5:VC:=.seq k84_1 k84_4
def k84_6:VC:=.reg [oM 49 τ1]
def k84_7:VC:=.reg [oD 50 (.fieldA 0 τ2),oD 51 (.load1 (.int .i64) XiR),oD 52 (.bin .neq XiQ (.const (.int .i64 2))),oM 53 XjN,oG 54 (.fieldA 1 τ2) 53 false,oG 55 (.load1 (.int .i64) XkV) 53 false,oG 56 (.bin .eql Xk3 (.const (.int .i64 0))) 53 false,oD 57 (.pick XjO (.const (.bool true)) Xlp),oM 4 XkK]
def k84_8:VC:=.seq k84_7 .ret
def k84_9:VC:=.cond XiO k84_8 .skip
def XWN:VC:=.seq k84_6 k84_9
def XSs:VC:=.reg [oD 58 (.fieldA 0 τ2),oD 59 (.load1 (.int .i64) XkW),oD 60 (.bin .eql Xk8 (.const (.int .i64 3))),oM 61 Xl4,oG 62 (.fieldA 0 τ2) 61 false,oG 63 (.load1 (.int .i64) XmX) 61 false,oG 64 (.bin .eql Xow (.const (.int .i64 2))) 61 false,oG 65 (.fieldA 1 τ2) 61 false,oG 66 (.load1 (.int .i64) XoH) 61 false,oG 67 (.bin .eql Xo1 (.const (.int .i64 4))) 61 false,oG 68 (.eqB false Xn3 XoE) 61 false,oD 69 (.pick Xl7 (.const (.bool true)) XpF),oM 4 Xpj]
def XUn:VC:=.seq XSs .ret
def XUH:VC:=.seq XWN XUn
def XWC:VC:=.seq k84_5 XUH
def XA0:VC:=.seq k84_0 XWC
def fn84:VFn:=⟨70,XA0,[.tmp 4]⟩
def k86_0:VC:=.reg [oD 4 (.mv (.const (.int .i64 0)))]
def k86_1:VC:=.reg [oM 5 τ0]
def k86_2:VC:=.reg [oM 6 τ1,oM 4 τ6]
def k86_3:VC:=.seq k86_2 .ret
def k86_4:VC:=.cond τ5 k86_3 .skip
def k86_5:VC:=.seq k86_1 k86_4
def k86_6:VC:=.reg [oM 7 τ1,oD 8 (.bin .eql τ7 (.const (.int .i64 3)))]
def k86_7:VC:=.reg [oD 4 (.mv (.const (.int .i64 11)))]
def k86_8:VC:=.seq k86_7 .ret
def k86_9:VC:=.cond τ8 k86_8 .skip
def XY3:VC:=.seq k86_6 k86_9
def XMj:VC:=.reg [oD 4 (.mv (.const (.int .i64 3)))]
def X3F:VC:=.seq XMj .ret
def XVU:VC:=.seq XY3 X3F
def XVu:VC:=.seq k86_5 XVU
def XBh:VC:=.seq k86_0 XVu
def fn86:VFn:=⟨9,XBh,[.tmp 4]⟩
def k89_0:VC:=.reg [oD 3 (.box τ0),oD 4 (.box τ1),oD 6 (.mv (.const (.string ⟨⟨[]⟩⟩)))]
def k89_1:VC:=.reg [oD 7 (.fieldA 0 τ3),oD 8 (.load1 .bool τ7)]
def k89_2:VC:=.reg [oD 9 (.loadN [.bool,(.int .u64),(.int .u64)] τ3),oD 10 (.loadN [.bool,(.int .u64),(.int .u64)] τ4),oM 11 τ2,oD 12 (.callF 95 [τ9,Xcd,(.const (.int .i64 58)),Xb8]),oM 6 XcZ]
def k89_3:VC:=.seq k89_2 .ret
def k89_4:VC:=.cond τ8 k89_3 .skip
def k89_5:VC:=.seq k89_1 k89_4
def k89_6:VC:=.reg [oD 6 (.mv (.const (.string ⟨⟨[]⟩⟩)))]
def k89_7:VC:=.seq k89_6 .ret
def k89_8:VC:=.seq k89_5 k89_7
def XSK:VC:=.seq k89_0 k89_8
def fn89:VFn:=⟨13,XSK,[.tmp 6]⟩
def k88_0:VC:=.reg [oD 2 (.mv (.const (.int .i64 0)))]
def k88_1:VC:=.reg [oM 3 τ0,oD 4 (.callF 100 [τ3]),oD 5 (.bin .sub (.const (.int .i64 65535)) τ4),oM 2 τ5]
def k88_2:VC:=.seq k88_1 .ret
def XL7:VC:=.seq k88_0 k88_2
def fn88:VFn:=⟨6,XL7,[.tmp 2]⟩
def k87_0:VC:=.reg [oD 8 (.mv (.const (.string ⟨⟨[]⟩⟩)))]
def k87_1:VC:=.reg [oM 12 τ0,oM 13 τ1,oM 14 τ2,oD 15 (.callF 70 [XcZ,Xc2,Xdo]),oM 11 Xdl,oE 16 0 Xb8,oE 17 1 Xb8,oM 9 Xdp,oM 10 Xdm]
def k87_2:VC:=.reg [oM 18 Xcd,oD 19 (.not XdW)]
def k87_3:VC:=.reg [oM 20 τ0,oM 8 Xea]
def k87_4:VC:=.seq k87_3 .ret
def k87_5:VC:=.cond XdM k87_4 .skip
def k87_6:VC:=.seq k87_2 k87_5
def k87_7:VC:=.regD [oM 21 τ0,oM 22 τ1,oD 23 (.sliceS Xei none (some XeN)),oM 24 τ3,oM 25 τ2,oD 26 (.callF 85 [Xex,XeX]),oD 27 (.bin .add XeR Xep),oM 28 τ0,oM 29 τ1,oM 30 τ2,oD 31 (.bin .add Xe1 Xfy),oD 32 (.sliceS XeO (some Xfw) none)] [] [oD 33 (.bin .add XeT XfC),oM 8 XfA]
def k87_8:VC:=.seq k87_7 .ret
def k87_9:VC:=.seq k87_6 k87_8
def X5g:VC:=.seq k87_1 k87_9
def XBo:VC:=.seq k87_0 X5g
def fn87:VFn:=⟨34,XBo,[.tmp 8]⟩
def k51_0:VC:=.reg [oD 2 (.box τ0),oD 4 (.mv (.const (.string ⟨⟨[]⟩⟩))),oD 5 (.mv (.const (.int .i64 0)))]
def k51_1:VC:=.reg [oD 6 (.loadN [(.int .i64),(.int .i64),(.int .i64),(.int .i64),.bool,(.int .u64),(.int .u64),.bool,(.int .u64),(.int .u64)] τ2),oD 7 (.callF 90 [τ6]),oD 8 (.not τ7)]
def k51_2:VC:=.reg [oD 4 (.mv (.const (.string ⟨⟨[]⟩⟩))),oD 5 (.mv (.const (.int .i64 1)))]
def k51_3:VC:=.seq k51_2 .ret
def k51_4:VC:=.cond τ8 k51_3 .skip
def k51_5:VC:=.seq k51_1 k51_4
def k51_6:VC:=.reg [oM 9 τ1,oD 10 (.lenS τ9),oD 11 (.bin .gtr Xcd (.const (.int .i64 65535)))]
def k51_7:VC:=.reg [oD 4 (.mv (.const (.string ⟨⟨[]⟩⟩))),oD 5 (.mv (.const (.int .i64 5)))]
def k51_8:VC:=.seq k51_7 .ret
def k51_9:VC:=.cond Xb8 k51_8 .skip
def XXt:VC:=.seq k51_6 k51_9
def XQU:VC:=.regD [oD 12 (.fieldA 0 τ2),oD 13 (.load1 (.int .i64) XcZ),oD 14 (.bin .mul Xc2 (.const (.int .i64 1048576))),oD 15 (.bin .add (.const (.int .i64 1610612736)) Xdo),oD 16 (.fieldA 1 τ2),oD 17 (.load1 (.int .i64) Xdp),oD 18 (.bin .add Xdl Xdm),oD 19 (.callF 91 [XdW,(.const (.int .i64 4))]),oM 20 τ1,oD 21 (.lenS Xea),oD 22 (.callF 91 [Xei,(.const (.int .i64 2))]),oD 23 (.bin .add XdM XeN),oD 24 (.fieldA 2 τ2),oD 25 (.load1 (.int .i64) Xex),oD 26 (.callF 91 [XeX,(.const (.int .i64 1))]),oD 27 (.bin .add XeR Xep),oD 28 (.fieldA 3 τ2),oD 29 (.load1 (.int .i64) XeO),oD 30 (.callF 91 [Xe1,(.const (.int .i64 1))]),oD 31 (.bin .add XeT Xfy),oD 32 (.fieldA 4 τ2),oD 33 (.loadN [.bool,(.int .u64),(.int .u64)] XfC),oD 34 (.callF 92 [XfA]),oD 35 (.bin .add Xfw XfK),oD 36 (.fieldA 7 τ2),oD 37 (.loadN [.bool,(.int .u64),(.int .u64)] XfV),oD 38 (.callF 92 [XfB]),oD 39 (.bin .add XfU XgM),oM 40 τ1] [(7,13),(7,17),(7,21),(7,25),(10,13),(10,17),(10,21),(10,25),(14,17),(14,21),(14,25),(18,21),(18,25),(22,25)] [oD 41 (.bin .add XgK Xhu),oM 4 Xhs,oD 5 (.mv (.const (.int .i64 0)))]
def XUl:VC:=.seq XQU .ret
def X3w:VC:=.seq XXt XUl
def XP0:VC:=.seq k51_5 X3w
def XBX:VC:=.seq k51_0 XP0
def fn51:VFn:=⟨42,XBX,[.tmp 4,.tmp 5]⟩
def k90_0:VC:=.reg [oD 1 (.box τ0),oD 2 (.mv (.const (.bool false)))]
def k90_1:VC:=.reg [oD 3 (.fieldA 0 τ1),oD 4 (.load1 (.int .i64) τ3),oD 5 (.callF 118 [τ4,(.const (.int .i64 255))]),oM 6 τ5,oG 7 (.fieldA 1 τ1) 6 true,oG 8 (.load1 (.int .i64) τ7) 6 true,oG 9 (.callF 118 [τ8,(.const (.int .i64 1048575))]) 6 true,oD 10 (.pick τ6 τ9 (.const (.bool false))),oM 11 Xcd,oG 12 (.fieldA 2 τ1) 11 true,oG 13 (.load1 (.int .i64) XcZ) 11 true,oG 14 (.callF 118 [Xc2,(.const (.int .i64 255))]) 11 true,oD 15 (.pick Xb8 Xdo (.const (.bool false))),oM 16 Xdl,oG 17 (.fieldA 3 τ1) 16 true,oG 18 (.load1 (.int .i64) Xdm) 16 true,oG 19 (.callF 118 [XdW,(.const (.int .i64 255))]) 16 true,oD 20 (.pick Xdp XdM (.const (.bool false))),oM 21 Xea,oG 22 (.fieldA 4 τ1) 21 true,oG 23 (.fieldA 0 XeN) 21 true,oG 24 (.load1 .bool XeR) 21 true,oD 25 (.pick Xei Xex (.const (.bool false))),oM 26 XeX,oG 27 (.fieldA 7 τ1) 26 true,oG 28 (.fieldA 0 XeT) 26 true,oG 29 (.load1 .bool XeO) 26 true,oD 30 (.pick Xep Xe1 (.const (.bool false))),oM 2 Xfy]
def k90_2:VC:=.seq k90_1 .ret
def XOU:VC:=.seq k90_0 k90_2
def fn90:VFn:=⟨31,XOU,[.tmp 2]⟩
def X4X:VC:=.reg [oD 4 (.mv (.const (.bool false)))]
def XPM:VC:=.reg [oM 5 τ0,oD 6 (.bin .geq τ5 (.const (.int .i64 0))),oM 7 τ6,oG 8 (.mv τ0) 7 true,oG 9 (.mv τ1) 7 true,oG 10 (.bin .leq τ8 τ9) 7 true,oD 11 (.pick τ7 Xcd (.const (.bool false))),oM 4 Xb8]
def XV7:VC:=.seq XPM .ret
def XzL:VC:=.seq X4X XV7
def XUk:VFn:=⟨12,XzL,[.tmp 4]⟩
def k91_0:VC:=.reg [oD 4 (.mv (.const (.string ⟨⟨[]⟩⟩)))]
def k91_1:VC:=.reg [oM 5 τ0,oD 6 (.conv .u64 τ5),oM 7 τ1,oD 8 (.callF 85 [τ6,τ7]),oM 4 τ8]
def k91_2:VC:=.seq k91_1 .ret
def XSy:VC:=.seq k91_0 k91_2
def fn91:VFn:=⟨9,XSy,[.tmp 4]⟩
def k52_0:VC:=.reg [oD 2 (.box τ0),oD 4 (.mv (.const (.string ⟨⟨[]⟩⟩))),oD 5 (.mv (.const (.int .i64 0)))]
def k52_1:VC:=.reg [oD 9 (.loadN [(.int .i64),(.int .i64),.bool,(.int .i64),(.int .i64),.bool,(.int .u64),(.int .u64),.bool,(.int .u64),(.int .u64),.str] τ2),oD 10 (.callF 93 [τ9]),oD 11 (.not Xcd)]
def k52_2:VC:=.reg [oD 4 (.mv (.const (.string ⟨⟨[]⟩⟩))),oD 5 (.mv (.const (.int .i64 1)))]
def k52_3:VC:=.seq k52_2 .ret
def k52_4:VC:=.cond Xb8 k52_3 .skip
def k52_5:VC:=.seq k52_1 k52_4
def k52_6:VC:=.reg [oD 12 (.fieldA 11 τ2),oD 13 (.load1 .str XcZ),oD 14 (.lenS Xc2),oD 15 (.bin .add (.const (.int .i64 20)) Xdo),oM 6 Xdl]
def k52_7:VC:=.reg [oM 16 τ1,oD 17 (.lenS Xdp),oM 18 τ6,oD 19 (.bin .sub (.const (.int .i64 65535)) XdW),oD 20 (.bin .gtr Xdm XdM)]
def k52_8:VC:=.reg [oD 4 (.mv (.const (.string ⟨⟨[]⟩⟩))),oD 5 (.mv (.const (.int .i64 5)))]
def k52_9:VC:=.seq k52_8 .ret
def X5c:VC:=.cond Xea k52_9 .skip
def XZ2:VC:=.seq k52_7 X5c
def XZe:VC:=.reg [oD 7 (.mv (.const (.int .i64 0)))]
def XLO:VC:=.reg [oD 21 (.fieldA 2 τ2),oD 22 (.load1 .bool Xei)]
def X2R:VC:=.reg [oD 7 (.mv (.const (.int .i64 64)))]
def XZB:VC:=.cond XeN X2R .skip
def XQO:VC:=.seq XLO XZB
def X4B:VC:=.regD [oM 23 τ6,oD 24 (.bin .quo XeR (.const (.int .i64 4))),oD 25 (.bin .add (.const (.int .i64 64)) Xex),oD 26 (.callF 94 [XeX,(.const (.int .i64 1))]),oD 27 (.fieldA 0 τ2),oD 28 (.load1 (.int .i64) XeT),oD 29 (.callF 94 [XeO,(.const (.int .i64 1))]),oD 30 (.bin .add Xep Xe1),oM 31 τ6,oM 32 τ1,oD 33 (.lenS XfC),oD 34 (.bin .add Xfw XfA),oD 35 (.callF 94 [XfK,(.const (.int .i64 2))]),oD 36 (.bin .add Xfy XfU),oD 37 (.fieldA 1 τ2),oD 38 (.load1 (.int .i64) XfB),oD 39 (.callF 94 [XgM,(.const (.int .i64 2))]),oD 40 (.bin .add XfV XgK),oM 41 τ7,oD 42 (.callF 94 [Xhs,(.const (.int .i64 1))]),oD 43 (.bin .add Xhu Xht),oD 44 (.callF 94 [(.const (.int .i64 0)),(.const (.int .i64 1))]),oD 45 (.bin .add XhC Xim),oD 46 (.fieldA 3 τ2),oD 47 (.load1 (.int .i64) Xin),oD 48 (.callF 94 [XhS,(.const (.int .i64 1))]),oD 49 (.bin .add XhP XiP),oD 50 (.fieldA 4 τ2),oD 51 (.load1 (.int .i64) XiR),oD 52 (.callF 94 [XiQ,(.const (.int .i64 1))]),oD 53 (.bin .add XiO XjN),oD 54 (.callF 94 [(.const (.int .i64 0)),(.const (.int .i64 2))]),oD 55 (.bin .add XjO XkV),oD 56 (.fieldA 5 τ2),oD 57 (.loadN [.bool,(.int .u64),(.int .u64)] Xlp),oD 58 (.callF 92 [XkK]),oD 59 (.bin .add Xk3 XkW),oD 60 (.fieldA 8 τ2),oD 61 (.loadN [.bool,(.int .u64),(.int .u64)] Xl4),oD 62 (.callF 92 [Xl7]),oD 63 (.bin .add Xk8 XmX),oD 64 (.fieldA 11 τ2),oD 65 (.load1 .str Xn3)] [(3,5),(3,15),(3,24),(3,28),(3,34),(3,38),(3,42),(6,15),(6,24),(6,28),(6,34),(6,38),(6,42),(12,15),(12,24),(12,28),(12,34),(12,38),(12,42),(16,24),(16,28),(16,34),(16,38),(16,42),(19,24),(19,28),(19,34),(19,38),(19,42),(21,24),(21,28),(21,34),(21,38),(21,42),(25,28),(25,34),(25,38),(25,42),(29,34),(29,38),(29,42),(31,34),(31,38),(31,42),(35,38),(35,42),(39,42)] [oD 66 (.bin .add Xow XoH),oM 8 Xo1]
def XNv:VC:=.reg [oM 67 τ8,oM 68 τ8,oD 69 (.callF 88 [XpF]),oD 70 (.conv .u64 Xpj),oD 71 (.callF 87 [XoE,(.const (.int .i64 10)),(.const (.int .i64 2)),Xq8]),oM 72 τ1,oD 73 (.bin .add Xq3 Xq1),oM 4 Xr9,oD 5 (.mv (.const (.int .i64 0)))]
def X51:VC:=.seq XNv .ret
def XNC:VC:=.seq X4B X51
def X5u:VC:=.seq XQO XNC
def XNb:VC:=.seq XZe X5u
def X1Y:VC:=.seq XZ2 XNb
def X6p:VC:=.seq k52_6 X1Y
def X4K:VC:=.seq k52_5 X6p
def XBS:VC:=.seq k52_0 X4K
def fn52:VFn:=⟨74,XBS,[.tmp 4,.tmp 5]⟩
def k93_0:VC:=.reg [oD 1 (.box τ0),oD 2 (.mv (.const (.bool false)))]
def k93_1:VC:=.reg [oD 3 (.fieldA 0 τ1),oD 4 (.load1 (.int .i64) τ3),oD 5 (.callF 119 [τ4,(.const (.int .i64 255))]),oM 6 τ5,oG 7 (.fieldA 1 τ1) 6 true,oG 8 (.load1 (.int .i64) τ7) 6 true,oG 9 (.callF 119 [τ8,(.const (.int .i64 65535))]) 6 true,oD 10 (.pick τ6 τ9 (.const (.bool false))),oM 11 Xcd,oG 12 (.fieldA 3 τ1) 11 true,oG 13 (.load1 (.int .i64) XcZ) 11 true,oG 14 (.callF 119 [Xc2,(.const (.int .i64 255))]) 11 true,oD 15 (.pick Xb8 Xdo (.const (.bool false))),oM 16 Xdl,oG 17 (.fieldA 4 τ1) 16 true,oG 18 (.load1 (.int .i64) Xdm) 16 true,oG 19 (.callF 119 [XdW,(.const (.int .i64 255))]) 16 true,oD 20 (.pick Xdp XdM (.const (.bool false))),oM 21 Xea,oG 22 (.fieldA 5 τ1) 21 true,oG 23 (.loadN [.bool,(.int .u64),(.int .u64)] XeN) 21 true,oG 24 (.callF 120 [XeR]) 21 true,oD 25 (.pick Xei Xex (.const (.bool false))),oM 26 XeX,oG 27 (.fieldA 8 τ1) 26 true,oG 28 (.loadN [.bool,(.int .u64),(.int .u64)] XeT) 26 true,oG 29 (.callF 120 [XeO]) 26 true,oD 30 (.pick Xep Xe1 (.const (.bool false))),oM 31 Xfy,oG 32 (.fieldA 11 τ1) 31 true,oG 33 (.load1 .str XfC) 31 true,oG 34 (.lenS XfA) 31 true,oG 35 (.bin .leq XfK (.const (.int .i64 40))) 31 true,oD 36 (.pick Xfw XfU (.const (.bool false))),oM 37 XfV,oG 38 (.fieldA 11 τ1) 37 true,oG 39 (.load1 .str XgM) 37 true,oG 40 (.lenS XgK) 37 true,oG 41 (.bin .rem Xhu (.const (.int .i64 4))) 37 true,oG 42 (.bin .eql Xhs (.const (.int .i64 0))) 37 true,oD 43 (.pick XfB Xht (.const (.bool false))),oM 2 XhC]
def k93_2:VC:=.seq k93_1 .ret
def XTC:VC:=.seq k93_0 k93_2
def fn93:VFn:=⟨44,XTC,[.tmp 2]⟩
def X1m:VC:=.reg [oD 4 (.mv (.const (.bool false)))]
def X1r:VC:=.reg [oM 5 τ0,oD 6 (.bin .geq τ5 (.const (.int .i64 0))),oM 7 τ6,oG 8 (.mv τ0) 7 true,oG 9 (.mv τ1) 7 true,oG 10 (.bin .leq τ8 τ9) 7 true,oD 11 (.pick τ7 Xcd (.const (.bool false))),oM 4 Xb8]
def X55:VC:=.seq X1r .ret
def XBw:VC:=.seq X1m X55
def XMT:VFn:=⟨12,XBw,[.tmp 4]⟩
def X33:VC:=.reg [oD 1 (.box τ0),oD 2 (.mv (.const (.bool false)))]
def XNB:VC:=.reg [oD 3 (.loadN [.bool,(.int .u64),(.int .u64)] τ1),oD 4 (.callF 97 [τ3]),oM 5 τ4,oG 6 (.fieldA 0 τ1) 5 true,oG 7 (.load1 .bool τ6) 5 true,oG 8 (.not τ7) 5 true,oD 9 (.pick τ5 τ8 (.const (.bool false))),oM 2 τ9]
def XTU:VC:=.seq XNB .ret
def XAp:VC:=.seq X33 XTU
def X7C:VFn:=⟨10,XAp,[.tmp 2]⟩
def k13_0:VC:=.reg [oD 2 (.mv (.const (.int .i64 0)))]
def k13_1:VC:=.reg [oD 3 (.mv (.const (.int .i64 9000)))]
def k13_2:VC:=.reg [oD 4 (.mv (.const (.int .i64 0)))]
def k13_3:VC:=.reg [oM 5 τ4,oM 6 τ0,oD 7 (.lenL τ6),oD 8 (.bin .lss τ5 τ7)]
def k13_4:VC:=.cond τ8 .skip (.exit 0)
def k13_5:VC:=.seq k13_3 k13_4
def k13_6:VC:=.reg [oM 11 τ0,oM 12 τ4,oD 13 (.idxAL 1 Xb8 XcZ),oD 14 (.load1 (.int .i64) Xc2),oD 15 (.callF 26 [Xdo]),oM 16 Xdl,oG 17 (.mv τ0) 16 true,oG 18 (.mv τ4) 16 true,oG 19 (.idxAL 1 Xdm XdW) 16 true,oG 20 (.load1 (.int .i64) XdM) 16 true,oG 21 (.mv τ3) 16 true,oG 22 (.bin .lss Xea Xei) 16 true,oD 23 (.pick Xdp XeN (.const (.bool false)))]
def k13_7:VC:=.reg [oM 24 τ0,oM 25 τ4,oD 26 (.idxAL 1 Xex XeX),oD 27 (.load1 (.int .i64) Xep),oM 3 XeT]
def k13_8:VC:=.cond XeR k13_7 .skip
def k13_9:VC:=.seq k13_6 k13_8
def XVF:VC:=.block 1 k13_9
def X60:VC:=.reg [oM 9 τ4,oD 10 (.bin .add τ9 (.const (.int .i64 1))),oM 4 Xcd]
def XPW:VC:=.seq XVF X60
def Xty:VC:=.seq k13_5 XPW
def XQ6:VC:=.loop Xty
def X7b:VC:=.block 0 XQ6
def X42:VC:=.seq k13_2 X7b
def XLI:VC:=.reg [oM 28 τ3,oM 2 XeO]
def XzP:VC:=.seq XLI .ret
def XW4:VC:=.seq X42 XzP
def X1I:VC:=.seq k13_1 XW4
def XAO:VC:=.seq k13_0 X1I
def fn13:VFn:=⟨29,XAO,[.tmp 2]⟩
def k4_0:VC:=.reg [oD 8 (.mv (.const (.bool false)))]
def k4_1:VC:=.reg [oM 30 τ0,oD 31 (.lenS Xfy),oD 32 (.bin .gtr Xfw (.const (.int .i64 200)))]
def k4_2:VC:=.reg [oD 33 (.callF 14 []),oM 8 XfA]
def k4_3:VC:=.seq k4_2 .ret
def k4_4:VC:=.cond XfC k4_3 .skip
def k4_5:VC:=.seq k4_1 k4_4
def k4_6:VC:=.reg [oM 35 τ0,oD 36 (.callF 15 [XfU]),oM 34 XfV,oE 37 0 XfK,oE 38 1 XfK,oD 9 (.alloc [(.int .i64 0),(.bool false),(.int .u64 0),(.int .u64 0),(.bool false),(.int .u64 0),(.int .u64 0),(.int .i64 0),(.int .i64 0),(.int .i64 0),(.bool false),(.int .u32 0),(.int .u32 0),(.bool false),(.string ⟨⟨[]⟩⟩),(.int .i64 0)]),oN (.store 16 τ9 XfB),oM 10 XgM]
def k4_7:VC:=.reg [oM 40 τ0,oM 41 τ1,oD 42 (.callF 16 [Xhu,Xhs]),oM 39 Xht,oE 43 0 XgK,oE 44 1 XgK,oM 11 XhC,oM 12 Xim]
def k4_8:VC:=.reg [oM 45 XcZ,oD 46 (.bin .eql XhP (.const (.int .i64 0)))]
def k4_9:VC:=.reg [oM 48 Xb8,oD 49 (.callF 15 [XiP]),oM 47 XiO,oE 50 0 XhS,oE 51 1 XhS,oD 13 (.alloc [(.int .i64 0),(.bool false),(.int .u64 0),(.int .u64 0),(.bool false),(.int .u64 0),(.int .u64 0),(.int .i64 0),(.int .i64 0),(.int .i64 0),(.bool false),(.int .u32 0),(.int .u32 0),(.bool false),(.string ⟨⟨[]⟩⟩),(.int .i64 0)]),oN (.store 16 Xc2 XiR),oM 14 XiQ]
def k4_10:VC:=.reg [oM 52 Xcd,oD 53 (.bin .neq XjN (.const (.int .i64 0))),oM 54 XjO,oG 55 (.mv Xdo) 54 false,oG 56 (.bin .neq Xk3 (.const (.int .i64 0))) 54 false,oD 57 (.pick XkV (.const (.bool true)) Xlp),oM 58 XkK,oG 59 (.fieldA 11 Xc2) 58 false,oG 60 (.load1 (.int .u32) Xk8) 58 false,oG 61 (.mv τ1) 58 false,oG 62 (.conv .u32 Xl7) 58 false,oG 63 (.bin .shl XmX (.const (.int .u64 16))) 58 false,oG 64 (.fieldA 11 τ9) 58 false,oG 65 (.load1 (.int .u32) Xn3) 58 false,oG 66 (.bin .rem XoH (.const (.int .u32 65536))) 58 false,oG 67 (.bin .add Xow Xo1) 58 false,oG 68 (.bin .neq Xl4 XoE) 58 false,oD 69 (.pick XkW (.const (.bool true)) XpF),oM 70 Xpj,oG 71 (.mv Xb8) 70 false,oG 72 (.lenS Xq3) 70 false,oG 73 (.mv τ0) 70 false,oG 74 (.lenS Xr9) 70 false,oG 75 (.bin .neq Xq1 XtP) 70 false,oD 76 (.pick Xq8 (.const (.bool true)) XtI),oM 77 XvY,oG 78 (.mv τ0) 77 false,oG 79 (.mv Xb8) 77 false,oG 80 (.callF 17 [Xv3,XwR]) 77 false,oG 81 (.bin .gtr Xv0 (.const (.int .i64 4))) 77 false,oD 82 (.pick XuG (.const (.bool true)) XxB)]
def k4_11:VC:=.reg [oD 8 (.mv (.const (.bool false)))]
def k4_12:VC:=.seq k4_11 .ret
def k4_13:VC:=.cond XAG k4_12 .skip
def k4_14:VC:=.seq k4_10 k4_13
def k4_15:VC:=.reg [oD 83 (.fieldA 11 τ9),oD 84 (.load1 (.int .u32) Xv1),oD 85 (.fieldA 11 Xc2),oN (.store 1 XDX Xzp)]
def k4_16:VC:=.reg [oD 86 (.loadN [(.int .i64),.bool,(.int .u64),(.int .u64),.bool,(.int .u64),(.int .u64),(.int .i64),(.int .i64),(.int .i64),.bool,(.int .u32),(.int .u32),.bool,.str,(.int .i64)] Xc2),oD 87 (.loadN [(.int .i64),.bool,(.int .u64),(.int .u64),.bool,(.int .u64),(.int .u64),(.int .i64),(.int .i64),(.int .i64),.bool,(.int .u32),(.int .u32),.bool,.str,(.int .i64)] τ9),oD 88 (.eqAgg true [(0,(.int .i64)),(1,.bool),(2,(.int .u64)),(3,(.int .u64)),(4,.bool),(5,(.int .u64)),(6,(.int .u64)),(7,(.int .i64)),(8,(.int .i64)),(9,(.int .i64)),(10,.bool),(11,(.int .u32)),(12,(.int .u32)),(13,.bool),(14,.str),(15,(.int .i64))] XG7 XDb)]
def k4_17:VC:=.reg [oD 8 (.mv (.const (.bool false)))]
def k4_18:VC:=.seq k4_17 .ret
def k4_19:VC:=.cond XI6 k4_18 .skip
def k4_20:VC:=.seq k4_16 k4_19
def k4_21:VC:=.seq k4_15 k4_20
def k4_22:VC:=.seq k4_14 k4_21
def k4_23:VC:=.seq k4_9 k4_22
def k4_24:VC:=.cond Xin k4_23 .skip
def k4_25:VC:=.seq k4_8 k4_24
def k4_26:VC:=.seq k4_7 k4_25
def k4_27:VC:=.reg [oM 90 τ0,oM 91 τ2,oD 92 (.callF 18 [XIe,XCg]),oM 89 XEL,oE 93 0 XBr,oE 94 1 XBr,oM 15 XGb,oM 16 XDB]
def k4_28:VC:=.reg [oM 95 Xdp,oD 96 (.bin .eql XGg (.const (.int .i64 0)))]
def k4_29:VC:=.reg [oM 98 Xdl,oD 99 (.callF 15 [τ98]),oM 97 τ99,oE 100 0 XLk,oE 101 1 XLk,oD 17 (.alloc [(.int .i64 0),(.bool false),(.int .u64 0),(.int .u64 0),(.bool false),(.int .u64 0),(.int .u64 0),(.int .i64 0),(.int .i64 0),(.int .i64 0),(.bool false),(.int .u32 0),(.int .u32 0),(.bool false),(.string ⟨⟨[]⟩⟩),(.int .i64 0)]),oN (.store 16 Xdm XKX),oM 18 XEy]
def k4_30:VC:=.reg [oM 102 Xcd,oD 103 (.bin .neq XLK (.const (.int .i64 0))),oM 104 XLN,oG 105 (.mv XdW) 104 false,oG 106 (.bin .neq XQB (.const (.int .i64 0))) 104 false,oD 107 (.pick X27 (.const (.bool true)) XXi),oM 108 XOc,oG 109 (.fieldA 12 Xdm) 108 false,oG 110 (.load1 (.int .u32) XNH) 108 false,oG 111 (.bin .rem XNS (.const (.int .u32 65536))) 108 false,oG 112 (.fieldA 12 τ9) 108 false,oG 113 (.load1 (.int .u32) X57) 108 false,oG 114 (.bin .rem XL2 (.const (.int .u32 65536))) 108 false,oG 115 (.bin .neq Xx8 XQZ) 108 false,oD 116 (.pick XMA (.const (.bool true)) XL5),oM 117 XOv,oG 118 (.mv τ2) 117 false,oG 119 (.fieldA 12 Xdm) 117 false,oG 120 (.load1 (.int .u32) X0i) 117 false,oG 121 (.bin .sub XXI XZ0) 117 false,oG 122 (.bin .geq XZn (.const (.int .u32 65536))) 117 false,oD 123 (.pick X0x (.const (.bool true)) X1G),oM 124 X6Z,oG 125 (.mv Xdl) 124 false,oG 126 (.lenS XLZ) 124 false,oG 127 (.mv τ0) 124 false,oG 128 (.lenS XMq) 124 false,oG 129 (.bin .neq XZG X4q) 124 false,oD 130 (.pick XMb (.const (.bool true)) XSo),oM 131 X35,oG 132 (.mv τ0) 131 false,oG 133 (.mv Xdl) 131 false,oG 134 (.callF 17 [XSv,XM3]) 131 false,oG 135 (.bin .gtr XWO (.const (.int .i64 4))) 131 false,oD 136 (.pick XRN (.const (.bool true)) X49)]
def k4_31:VC:=.reg [oD 8 (.mv (.const (.bool false)))]
def k4_32:VC:=.seq k4_31 .ret
def k4_33:VC:=.cond X1t k4_32 .skip
def k4_34:VC:=.seq k4_30 k4_33
def k4_35:VC:=.reg [oD 137 (.fieldA 12 τ9),oD 138 (.load1 (.int .u32) XVQ),oD 139 (.fieldA 12 Xdm),oN (.store 1 XPt XWS)]
def k4_36:VC:=.reg [oD 140 (.loadN [(.int .i64),.bool,(.int .u64),(.int .u64),.bool,(.int .u64),(.int .u64),(.int .i64),(.int .i64),(.int .i64),.bool,(.int .u32),(.int .u32),.bool,.str,(.int .i64)] Xdm),oD 141 (.loadN [(.int .i64),.bool,(.int .u64),(.int .u64),.bool,(.int .u64),(.int .u64),(.int .i64),(.int .i64),(.int .i64),.bool,(.int .u32),(.int .u32),.bool,.str,(.int .i64)] τ9),oD 142 (.eqAgg true [(0,(.int .i64)),(1,.bool),(2,(.int .u64)),(3,(.int .u64)),(4,.bool),(5,(.int .u64)),(6,(.int .u64)),(7,(.int .i64)),(8,(.int .i64)),(9,(.int .i64)),(10,.bool),(11,(.int .u32)),(12,(.int .u32)),(13,.bool),(14,.str),(15,(.int .i64))] XUY XYT)]
def k4_37:VC:=.reg [oD 8 (.mv (.const (.bool false)))]
def k4_38:VC:=.seq k4_37 .ret
def k4_39:VC:=.cond XDY k4_38 .skip
def k4_40:VC:=.seq k4_36 k4_39
def k4_41:VC:=.seq k4_35 k4_40
def k4_42:VC:=.seq k4_34 k4_41
def k4_43:VC:=.seq k4_29 k4_42
def k4_44:VC:=.cond XCM k4_43 .skip
def k4_45:VC:=.seq k4_28 k4_44
def k4_46:VC:=.seq k4_27 k4_45
def k4_47:VC:=.reg [oM 144 τ0,oM 145 τ3,oD 146 (.callF 19 [XTB,X0K]),oM 143 XXO,oE 147 0 XIP,oE 148 1 XIP,oM 19 XSq,oM 20 XYr]
def k4_48:VC:=.reg [oM 149 Xea,oD 150 (.bin .neq XPX (.const (.int .i64 0)))]
def k4_49:VC:=.reg [oM 151 XdM,oD 152 (.bin .eql X5Z (.const (.string ⟨⟨[]⟩⟩))),oM 153 XZE,oG 154 (.callF 14 []) 153 true,oD 155 (.pick XMm X44 (.const (.bool false))),oM 8 XXx]
def k4_50:VC:=.seq k4_49 .ret
def k4_51:VC:=.cond XUV k4_50 .skip
def k4_52:VC:=.seq k4_48 k4_51
def k4_53:VC:=.reg [oM 157 XdM,oD 158 (.callF 15 [XTg]),oM 156 XQe,oE 159 0 XEl,oE 160 1 XEl,oD 21 (.alloc [(.int .i64 0),(.bool false),(.int .u64 0),(.int .u64 0),(.bool false),(.int .u64 0),(.int .u64 0),(.int .i64 0),(.int .i64 0),(.int .i64 0),(.bool false),(.int .u32 0),(.int .u32 0),(.bool false),(.string ⟨⟨[]⟩⟩),(.int .i64 0)]),oN (.store 16 Xei XMf),oM 22 XQT]
def k4_54:VC:=.reg [oM 162 XdM,oD 163 (.callF 20 [τ162]),oM 161 τ163,oE 164 0 XLi,oE 165 1 XLi,oE 166 2 XLi,oM 23 τ164,oM 24 τ165,oM 25 τ166]
def k4_55:VC:=.reg [oM 167 Xcd,oD 168 (.bin .neq τ167 (.const (.int .i64 0))),oM 169 τ168,oG 170 (.mv XeN) 169 false,oG 171 (.bin .neq τ170 (.const (.int .i64 0))) 169 false,oD 172 (.pick τ169 (.const (.bool true)) τ171),oM 173 τ172,oG 174 (.loadN [(.int .i64),.bool,(.int .u64),(.int .u64),.bool,(.int .u64),(.int .u64),(.int .i64),(.int .i64),(.int .i64),.bool,(.int .u32),(.int .u32),.bool,.str,(.int .i64)] Xei) 173 false,oG 175 (.loadN [(.int .i64),.bool,(.int .u64),(.int .u64),.bool,(.int .u64),(.int .u64),(.int .i64),(.int .i64),(.int .i64),.bool,(.int .u32),(.int .u32),.bool,.str,(.int .i64)] τ9) 173 false,oG 176 (.eqAgg true [(0,(.int .i64)),(1,.bool),(2,(.int .u64)),(3,(.int .u64)),(4,.bool),(5,(.int .u64)),(6,(.int .u64)),(7,(.int .i64)),(8,(.int .i64)),(9,(.int .i64)),(10,.bool),(11,(.int .u32)),(12,(.int .u32)),(13,.bool),(14,.str),(15,(.int .i64))] τ174 τ175) 173 false,oD 177 (.pick τ173 (.const (.bool true)) τ176),oM 178 τ177,oG 179 (.mv XdM) 178 false,oG 180 (.lenS τ179) 178 false,oG 181 (.mv τ0) 178 false,oG 182 (.lenS τ181) 178 false,oG 183 (.bin .neq τ180 τ182) 178 false,oD 184 (.pick τ178 (.const (.bool true)) τ183),oM 185 τ184,oG 186 (.mv τ0) 185 false,oG 187 (.mv XdM) 185 false,oG 188 (.callF 17 [τ186,τ187]) 185 false,oG 189 (.bin .gtr τ188 (.const (.int .i64 10))) 185 false,oD 190 (.pick τ185 (.const (.bool true)) τ189),oM 191 τ190,oG 192 (.mv Xex) 191 false,oG 193 (.mv XdM) 191 false,oG 194 (.lenS τ193) 191 false,oG 195 (.bin .gtr τ192 τ194) 191 false,oD 196 (.pick τ191 (.const (.bool true)) τ195)]
def k4_56:VC:=.reg [oD 8 (.mv (.const (.bool false)))]
def k4_57:VC:=.seq k4_56 .ret
def k4_58:VC:=.cond τ196 k4_57 .skip
def k4_59:VC:=.seq k4_55 k4_58
def k4_60:VC:=.reg [oM 198 XdM,oM 199 Xex,oD 200 (.sliceS τ198 (some τ199) none),oD 201 (.callF 21 [τ200]),oM 197 τ201,oE 202 0 XS7,oE 203 1 XS7,oD 26 (.alloc [(.bool false),(.int .i64 0),(.int .u32 0),(.string ⟨⟨[]⟩⟩),(.string ⟨⟨[]⟩⟩),(.string ⟨⟨[]⟩⟩)]),oN (.store 6 Xep τ202),oM 27 τ203]
def k4_61:VC:=.reg [oD 28 (.mv (.const (.int .u64 0)))]
def k4_62:VC:=.reg [oD 29 (.mv (.const (.int .i64 0)))]
def k4_63:VC:=.reg [oM 204 Xe1,oD 205 (.fieldA 4 Xep),oD 206 (.load1 .str τ205),oD 207 (.lenS τ206),oD 208 (.bin .lss τ204 τ207)]
def k4_64:VC:=.cond τ208 .skip (.exit 0)
def k4_65:VC:=.seq k4_63 k4_64
def k4_66:VC:=.reg [oM 211 XeO,oD 212 (.bin .shl τ211 (.const (.int .u64 8))),oD 213 (.fieldA 4 Xep),oD 214 (.load1 .str τ213),oM 215 Xe1,oD 216 (.idxS τ214 τ215),oD 217 (.conv .u64 τ216),oD 218 (.bin .add τ212 τ217),oM 28 τ218]
def k4_67:VC:=.block 1 k4_66
def k4_68:VC:=.reg [oM 209 Xe1,oD 210 (.bin .add τ209 (.const (.int .i64 1))),oM 29 τ210]
def k4_69:VC:=.seq k4_67 k4_68
def k4_70:VC:=.seq k4_65 k4_69
def k4_71:VC:=.loop k4_70
def k4_72:VC:=.block 0 k4_71
def k4_73:VC:=.seq k4_62 k4_72
def k4_74:VC:=.reg [oM 219 XeT,oD 220 (.bin .eql τ219 (.const (.int .i64 0))),oM 221 τ220,oG 222 (.mv XeO) 221 true,oG 223 (.mv τ3) 221 true,oG 224 (.bin .eql τ222 τ223) 221 true,oD 225 (.pick τ221 τ224 (.const (.bool false))),oM 226 τ225,oG 227 (.callF 14 []) 226 true,oD 228 (.pick τ226 τ227 (.const (.bool false))),oM 8 τ228]
def k4_75:VC:=.seq k4_74 .ret
def k4_76:VC:=.seq k4_73 k4_75
def k4_77:VC:=.seq k4_61 k4_76
def k4_78:VC:=.seq k4_60 k4_77
def k4_79:VC:=.seq k4_59 k4_78
def k4_80:VC:=.seq k4_54 k4_79
def k4_81:VC:=.seq k4_53 k4_80
def k4_82:VC:=.seq k4_52 k4_81
def k4_83:VC:=.seq k4_47 k4_82
def k4_84:VC:=.seq k4_46 k4_83
def k4_85:VC:=.seq k4_26 k4_84
def k4_86:VC:=.seq k4_6 k4_85
def k4_87:VC:=.seq k4_5 k4_86
def k4_88:VC:=.seq k4_0 k4_87
def fn4:VFn:=⟨229,k4_88,[.tmp 8]⟩
def k14_0:VC:=.reg [oD 0 (.mv (.const (.bool false)))]
def k14_1:VC:=.reg [oD 12 (.build [(.bool false),(.int .u64 0),(.int .u64 0)] [(2,1,(.const (.int .u64 1)))]),oD 13 (.build [(.bool false),(.int .u64 0),(.int .u64 0)] [(2,1,(.const (.int .u64 2)))]),oD 14 (.build [(.int .i64 0),(.bool false),(.int .u64 0),(.int .u64 0),(.bool false),(.int .u64 0),(.int .u64 0),(.int .i64 0),(.int .i64 0)] [(0,1,(.const (.int .i64 6))),(1,3,XcZ),(4,3,Xc2)]),oD 1 (.alloc [(.int .i64 0),(.bool false),(.int .u64 0),(.int .u64 0),(.bool false),(.int .u64 0),(.int .u64 0),(.int .i64 0),(.int .i64 0)]),oN (.store 9 τ1 Xdo)]
def k14_2:VC:=.reg [oD 16 (.loadN [(.int .i64),.bool,(.int .u64),(.int .u64),.bool,(.int .u64),(.int .u64),(.int .i64),(.int .i64)] τ1),oD 17 (.callF 29 [Xdp,(.const (.int .i64 16)),(.const (.string ⟨⟨[]⟩⟩)),(.const (.string ⟨⟨[]⟩⟩))]),oM 15 Xdm,oE 18 0 Xdl,oE 19 1 Xdl,oM 2 XdW,oM 3 XdM]
def k14_3:VC:=.regD [oD 21 (.loadN [(.int .i64),.bool,(.int .u64),(.int .u64),.bool,(.int .u64),(.int .u64),(.int .i64),(.int .i64)] τ1),oD 22 (.callF 30 [(.const (.int .u32 74565)),(.const (.int .u32 7))]),oD 23 (.callF 29 [Xei,(.const (.int .i64 16)),XeN,(.const (.string ⟨⟨[]⟩⟩))]),oM 20 XeR,oE 24 0 Xea,oE 25 1 Xea,oM 4 Xex] [(0,1)] [oM 5 XeX]
def k14_4:VC:=.reg [oM 27 τ2,oD 28 (.callF 16 [XeT,(.const (.int .u16 1))]),oM 26 XeO,oE 29 0 Xep,oE 30 1 Xep,oM 6 Xe1,oM 7 Xfy]
def k14_5:VC:=.reg [oM 32 τ4,oD 33 (.callF 16 [XfC,(.const (.int .u16 43981))]),oM 31 XfA,oE 34 0 Xfw,oE 35 1 Xfw,oM 8 XfK,oM 9 XfU]
def k14_6:VC:=.reg [oM 37 τ8,oD 38 (.callF 15 [XfB]),oM 36 XgM,oE 39 0 XfV,oE 40 1 XfV,oD 10 (.alloc [(.int .i64 0),(.bool false),(.int .u64 0),(.int .u64 0),(.bool false),(.int .u64 0),(.int .u64 0),(.int .i64 0),(.int .i64 0),(.int .i64 0),(.bool false),(.int .u32 0),(.int .u32 0),(.bool false),(.string ⟨⟨[]⟩⟩),(.int .i64 0)]),oN (.store 16 Xcd XgK),oM 11 Xhu]
def k14_7:VC:=.reg [oM 41 τ7,oD 42 (.bin .eql Xhs (.const (.int .i64 6))),oM 43 Xht,oG 44 (.mv τ9) 43 true,oG 45 (.bin .eql Xim (.const (.int .i64 0))) 43 true,oD 46 (.pick XhC XhP (.const (.bool false))),oM 47 Xin,oG 48 (.mv Xb8) 47 true,oG 49 (.bin .eql XiP (.const (.int .i64 0))) 47 true,oD 50 (.pick XhS XiO (.const (.bool false))),oM 51 XiR,oG 52 (.fieldA 11 Xcd) 51 true,oG 53 (.load1 (.int .u32) XjN) 51 true,oG 54 (.bin .eql XjO (.const (.int .u32 2882347845))) 51 true,oD 55 (.pick XiQ XkV (.const (.bool false))),oM 0 Xk3]
def k14_8:VC:=.seq k14_7 .ret
def k14_9:VC:=.seq k14_6 k14_8
def X67:VC:=.seq k14_5 k14_9
def XMv:VC:=.seq k14_4 X67
def XN2:VC:=.seq k14_3 XMv
def X6u:VC:=.seq k14_2 XN2
def XML:VC:=.seq k14_1 X6u
def XPJ:VC:=.seq k14_0 XML
def fn14:VFn:=⟨56,XPJ,[.tmp 0]⟩
def k29_0:VC:=.reg [oD 4 (.box τ0),oD 8 (.mv (.const (.string ⟨⟨[]⟩⟩))),oD 9 (.mv (.const (.int .i64 0)))]
def k29_1:VC:=.reg [oD 12 (.fieldA 0 τ4),oD 13 (.load1 (.int .i64) XcZ),oD 14 (.bin .neq Xc2 (.const (.int .i64 6)))]
def k29_2:VC:=.reg [oD 8 (.mv (.const (.string ⟨⟨[]⟩⟩))),oD 9 (.mv (.const (.int .i64 1)))]
def k29_3:VC:=.seq k29_2 .ret
def k29_4:VC:=.cond Xdo k29_3 .skip
def k29_5:VC:=.seq k29_1 k29_4
def k29_6:VC:=.reg [oD 16 (.fieldA 7 τ4),oD 17 (.load1 (.int .i64) Xdp),oD 18 (.fieldA 8 τ4),oD 19 (.load1 (.int .i64) XdW),oM 20 τ1,oM 21 τ2,oD 22 (.build [(.int .i64 0),(.int .i64 0),(.int .u32 0),(.int .u32 0),(.int .i64 0),(.int .i64 0),(.int .i64 0),(.string ⟨⟨[]⟩⟩)] [(0,1,Xdm),(1,1,XdM),(4,1,Xea),(5,1,(.const (.int .i64 65535))),(7,1,Xei)]),oD 23 (.fieldA 1 τ4),oD 24 (.loadN [.bool,(.int .u64),(.int .u64)] XeR),oD 25 (.fieldA 4 τ4),oD 26 (.loadN [.bool,(.int .u64),(.int .u64)] XeX),oM 27 τ3,oD 28 (.callF 53 [XeN,Xex,Xep,XeT]),oM 15 XeO,oE 29 0 Xdl,oE 30 1 Xdl,oM 10 Xe1,oM 11 Xfy]
def k29_7:VC:=.reg [oM 31 Xb8,oD 32 (.bin .neq Xfw (.const (.int .i64 0)))]
def k29_8:VC:=.reg [oM 33 Xb8,oD 8 (.mv (.const (.string ⟨⟨[]⟩⟩))),oM 9 XfA]
def k29_9:VC:=.seq k29_8 .ret
def XTG:VC:=.cond XfC k29_9 .skip
def X2G:VC:=.seq k29_7 XTG
def XLH:VC:=.reg [oD 34 (.loadN [(.int .i64),.bool,(.int .u64),(.int .u64),.bool,(.int .u64),(.int .u64),(.int .i64),(.int .i64)] τ4),oM 35 Xcd,oD 36 (.callF 54 [XfK,XfU]),oE 37 0 XfV,oE 38 1 XfV,oM 8 XfB,oM 9 XgM]
def X5x:VC:=.seq XLH .ret
def X6I:VC:=.seq X2G X5x
def XY5:VC:=.seq k29_6 X6I
def XVb:VC:=.seq k29_5 XY5
def XW7:VC:=.seq k29_0 XVb
def fn29:VFn:=⟨39,XW7,[.tmp 8,.tmp 9]⟩
def k53_0:VC:=.reg [oD 4 (.box τ0),oD 5 (.box τ1),oD 6 (.box τ2),oD 8 (.mv (.const (.string ⟨⟨[]⟩⟩))),oD 9 (.mv (.const (.int .i64 0)))]
def k53_1:VC:=.reg [oD 13 (.fieldA 7 τ4),oD 14 (.load1 .str Xc2),oD 15 (.lenS Xdo),oD 16 (.bin .add (.const (.int .i64 20)) Xdl),oM 10 Xdp]
def k53_2:VC:=.reg [oD 17 (.loadN [.bool,(.int .u64),(.int .u64)] τ5),oD 18 (.loadN [.bool,(.int .u64),(.int .u64)] τ6),oM 19 Xcd,oM 20 τ3,oD 21 (.lenS Xea),oD 22 (.bin .add XdM Xei),oD 23 (.callF 95 [Xdm,XdW,(.const (.int .i64 6)),XeN]),oM 11 XeR]
def k53_3:VC:=.reg [oD 24 (.loadN [(.int .i64),(.int .i64),(.int .u32),(.int .u32),(.int .i64),(.int .i64),(.int .i64),.str] τ4),oD 25 (.callF 96 [Xex]),oD 26 (.not XeX),oM 27 Xep,oG 28 (.mv Xb8) 27 false,oG 29 (.bin .eql XeO (.const (.string ⟨⟨[]⟩⟩))) 27 false,oD 30 (.pick XeT (.const (.bool true)) Xe1)]
def k53_4:VC:=.reg [oD 8 (.mv (.const (.string ⟨⟨[]⟩⟩))),oD 9 (.mv (.const (.int .i64 1)))]
def k53_5:VC:=.seq k53_4 .ret
def k53_6:VC:=.cond Xfy k53_5 .skip
def k53_7:VC:=.seq k53_3 k53_6
def k53_8:VC:=.reg [oM 31 τ3,oD 32 (.lenS Xfw),oM 33 Xcd,oD 34 (.bin .sub (.const (.int .i64 65535)) XfA),oD 35 (.bin .gtr XfC XfK)]
def k53_9:VC:=.reg [oD 8 (.mv (.const (.string ⟨⟨[]⟩⟩))),oD 9 (.mv (.const (.int .i64 5)))]
def XNW:VC:=.seq k53_9 .ret
def XPs:VC:=.cond XfU XNW .skip
def X5a:VC:=.seq k53_8 XPs
def XMp:VC:=.regD [oD 36 (.fieldA 0 τ4),oD 37 (.load1 (.int .i64) XfV),oD 38 (.callF 55 [XfB,(.const (.int .i64 2))]),oD 39 (.fieldA 1 τ4),oD 40 (.load1 (.int .i64) XgK),oD 41 (.callF 55 [Xhu,(.const (.int .i64 2))]),oD 42 (.bin .add XgM Xhs),oD 43 (.fieldA 2 τ4),oD 44 (.load1 (.int .u32) XhC),oD 45 (.conv .i64 Xim),oD 46 (.callF 55 [XhP,(.const (.int .i64 4))]),oD 47 (.bin .add Xht Xin),oD 48 (.fieldA 3 τ4),oD 49 (.load1 (.int .u32) XiP),oD 50 (.conv .i64 XiO),oD 51 (.callF 55 [XiR,(.const (.int .i64 4))]),oD 52 (.bin .add XhS XiQ),oM 53 Xcd,oD 54 (.bin .mul (.const (.int .i64 4)) XjO),oD 55 (.callF 55 [XkV,(.const (.int .i64 1))]),oD 56 (.bin .add XjN Xk3),oD 57 (.fieldA 4 τ4),oD 58 (.load1 (.int .i64) XkK),oD 59 (.callF 55 [XkW,(.const (.int .i64 1))]),oD 60 (.bin .add Xlp Xk8),oD 61 (.fieldA 5 τ4),oD 62 (.load1 (.int .i64) Xl7),oD 63 (.callF 55 [XmX,(.const (.int .i64 2))]),oD 64 (.bin .add Xl4 Xow),oD 65 (.callF 55 [(.const (.int .i64 0)),(.const (.int .i64 2))]),oD 66 (.bin .add Xn3 XoH),oD 67 (.fieldA 6 τ4),oD 68 (.load1 (.int .i64) XoE),oD 69 (.callF 55 [XpF,(.const (.int .i64 2))]),oD 70 (.bin .add Xo1 Xpj),oD 71 (.fieldA 7 τ4),oD 72 (.load1 .str Xq3),oD 73 (.bin .add Xq8 Xq1),oM 74 τ3] [(2,4),(2,8),(2,13),(2,22),(2,26),(2,32),(2,36),(5,8),(5,13),(5,22),(5,26),(5,32),(5,36),(10,13),(10,22),(10,26),(10,32),(10,36),(15,22),(15,26),(15,32),(15,36),(19,22),(19,26),(19,32),(19,36),(23,26),(23,32),(23,36),(27,32),(27,36),(29,32),(29,36),(33,36)] [oD 75 (.bin .add Xr9 XtP),oM 12 XtI]
def XSO:VC:=.reg [oM 76 XcZ,oM 77 Xb8,oM 78 XcZ,oD 79 (.bin .add XuG Xv3),oD 80 (.callF 88 [XwR]),oD 81 (.conv .u64 Xv0),oD 82 (.callF 87 [XvY,(.const (.int .i64 16)),(.const (.int .i64 2)),XxB]),oM 8 XAG,oD 9 (.mv (.const (.int .i64 0)))]
def XM1:VC:=.seq XSO .ret
def XN6:VC:=.seq XMp XM1
def X4b:VC:=.seq X5a XN6
def X65:VC:=.seq k53_7 X4b
def XMt:VC:=.seq k53_2 X65
def X2c:VC:=.seq k53_1 XMt
def XSx:VC:=.seq k53_0 X2c
def fn53:VFn:=⟨83,XSx,[.tmp 8,.tmp 9]⟩
def k96_0:VC:=.reg [oD 1 (.box τ0),oD 2 (.mv (.const (.bool false)))]
def k96_1:VC:=.reg [oD 3 (.fieldA 0 τ1),oD 4 (.load1 (.int .i64) τ3),oD 5 (.callF 121 [τ4,(.const (.int .i64 65535))]),oM 6 τ5,oG 7 (.fieldA 1 τ1) 6 true,oG 8 (.load1 (.int .i64) τ7) 6 true,oG 9 (.callF 121 [τ8,(.const (.int .i64 65535))]) 6 true,oD 10 (.pick τ6 τ9 (.const (.bool false))),oM 11 Xcd,oG 12 (.fieldA 4 τ1) 11 true,oG 13 (.load1 (.int .i64) XcZ) 11 true,oG 14 (.callF 121 [Xc2,(.const (.int .i64 255))]) 11 true,oD 15 (.pick Xb8 Xdo (.const (.bool false))),oM 16 Xdl,oG 17 (.fieldA 5 τ1) 16 true,oG 18 (.load1 (.int .i64) Xdm) 16 true,oG 19 (.callF 121 [XdW,(.const (.int .i64 65535))]) 16 true,oD 20 (.pick Xdp XdM (.const (.bool false))),oM 21 Xea,oG 22 (.fieldA 6 τ1) 21 true,oG 23 (.load1 (.int .i64) XeN) 21 true,oG 24 (.callF 121 [XeR,(.const (.int .i64 65535))]) 21 true,oD 25 (.pick Xei Xex (.const (.bool false))),oM 26 XeX,oG 27 (.fieldA 7 τ1) 26 true,oG 28 (.load1 .str XeT) 26 true,oG 29 (.lenS XeO) 26 true,oG 30 (.bin .leq Xe1 (.const (.int .i64 40))) 26 true,oD 31 (.pick Xep Xfy (.const (.bool false))),oM 32 Xfw,oG 33 (.fieldA 7 τ1) 32 true,oG 34 (.load1 .str XfA) 32 true,oG 35 (.lenS XfK) 32 true,oG 36 (.bin .rem XfU (.const (.int .i64 4))) 32 true,oG 37 (.bin .eql XfV (.const (.int .i64 0))) 32 true,oD 38 (.pick XfC XfB (.const (.bool false))),oM 2 XgM]
def k96_2:VC:=.seq k96_1 .ret
def k96_3:VC:=.seq k96_0 k96_2
def fn96:VFn:=⟨39,k96_3,[.tmp 2]⟩
def X1Z:VC:=.reg [oD 4 (.mv (.const (.bool false)))]
def XTl:VC:=.reg [oM 5 τ0,oD 6 (.bin .geq τ5 (.const (.int .i64 0))),oM 7 τ6,oG 8 (.mv τ0) 7 true,oG 9 (.mv τ1) 7 true,oG 10 (.bin .leq τ8 τ9) 7 true,oD 11 (.pick τ7 Xcd (.const (.bool false))),oM 4 Xb8]
def XTF:VC:=.seq XTl .ret
def XQg:VC:=.seq X1Z XTF
def X5w:VFn:=⟨12,XQg,[.tmp 4]⟩
def k55_0:VC:=.reg [oD 4 (.mv (.const (.string ⟨⟨[]⟩⟩)))]
def k55_1:VC:=.reg [oM 5 τ0,oD 6 (.conv .u64 τ5),oM 7 τ1,oD 8 (.callF 85 [τ6,τ7]),oM 4 τ8]
def k55_2:VC:=.seq k55_1 .ret
def k55_3:VC:=.seq k55_0 k55_2
def fn55:VFn:=⟨9,k55_3,[.tmp 4]⟩
def k54_0:VC:=.reg [oD 2 (.box τ0),oD 4 (.mv (.const (.string ⟨⟨[]⟩⟩))),oD 5 (.mv (.const (.int .i64 0)))]
def k54_1:VC:=.reg [oD 8 (.fieldA 1 τ2),oD 9 (.fieldA 0 τ8),oD 10 (.load1 .bool τ9),oD 11 (.fieldA 4 τ2),oD 12 (.fieldA 0 Xb8),oD 13 (.load1 .bool XcZ),oD 14 (.eqB true Xcd Xc2),oM 15 Xdo,oG 16 (.fieldA 1 τ2) 15 false,oG 17 (.loadN [.bool,(.int .u64),(.int .u64)] Xdp) 15 false,oG 18 (.callF 97 [Xdm]) 15 false,oG 19 (.not XdW) 15 false,oD 20 (.pick Xdl (.const (.bool true)) XdM),oM 21 Xea,oG 22 (.fieldA 4 τ2) 21 false,oG 23 (.loadN [.bool,(.int .u64),(.int .u64)] XeN) 21 false,oG 24 (.callF 97 [XeR]) 21 false,oG 25 (.not Xex) 21 false,oD 26 (.pick Xei (.const (.bool true)) XeX),oM 27 Xep,oG 28 (.fieldA 0 τ2) 27 false,oG 29 (.load1 (.int .i64) XeO) 27 false,oG 30 (.bin .neq Xe1 (.const (.int .i64 6))) 27 false,oG 31 (.mv Xfy) 27 false,oG 32 (.fieldA 0 τ2) 31 true,oG 33 (.load1 (.int .i64) XfC) 31 true,oG 34 (.bin .neq XfA (.const (.int .i64 17))) 31 true,oG 35 (.pick Xfw XfK (.const (.bool false))) 27 false,oD 36 (.pick XeT (.const (.bool true)) XfU)]
def k54_2:VC:=.reg [oD 4 (.mv (.const (.string ⟨⟨[]⟩⟩))),oD 5 (.mv (.const (.int .i64 1)))]
def k54_3:VC:=.seq k54_2 .ret
def k54_4:VC:=.cond XfV k54_3 .skip
def k54_5:VC:=.seq k54_1 k54_4
def k54_6:VC:=.reg [oD 38 (.fieldA 0 τ2),oD 39 (.load1 (.int .i64) XgM),oD 40 (.fieldA 1 τ2),oD 41 (.loadN [.bool,(.int .u64),(.int .u64)] Xhu),oD 42 (.fieldA 4 τ2),oD 43 (.loadN [.bool,(.int .u64),(.int .u64)] Xht),oD 44 (.build [(.int .i64 0),(.int .i64 0),(.int .i64 0),(.int .i64 0),(.bool false),(.int .u64 0),(.int .u64 0),(.bool false),(.int .u64 0),(.int .u64 0)] [(2,1,XgK),(3,1,(.const (.int .i64 64))),(4,3,Xhs),(7,3,XhC)]),oM 45 τ1,oD 46 (.callF 51 [Xim,XhP]),oM 37 Xin,oE 47 0 XfB,oE 48 1 XfB,oM 6 XhS,oM 7 XiP]
def k54_7:VC:=.reg [oD 49 (.fieldA 1 τ2),oD 50 (.fieldA 0 XiO),oD 51 (.load1 .bool XiR),oD 52 (.not XiQ)]
def k54_8:VC:=.reg [oD 54 (.fieldA 0 τ2),oD 55 (.load1 (.int .i64) XkV),oD 56 (.fieldA 1 τ2),oD 57 (.loadN [.bool,(.int .u64),(.int .u64)] Xlp),oD 58 (.fieldA 4 τ2),oD 59 (.loadN [.bool,(.int .u64),(.int .u64)] XkW),oD 60 (.build [(.int .i64 0),(.int .i64 0),(.bool false),(.int .i64 0),(.int .i64 0),(.bool false),(.int .u64 0),(.int .u64 0),(.bool false),(.int .u64 0),(.int .u64 0),(.string ⟨⟨[]⟩⟩)] [(2,1,(.const (.bool true))),(3,1,(.const (.int .i64 64))),(4,1,Xk3),(5,3,XkK),(8,3,Xk8)]),oM 61 τ1,oD 62 (.callF 52 [Xl4,Xl7]),oM 53 XmX,oE 63 0 XjO,oE 64 1 XjO,oM 6 Xow,oM 7 Xn3]
def k54_9:VC:=.cond XjN k54_8 .skip
def XRG:VC:=.seq k54_7 k54_9
def X0p:VC:=.reg [oM 65 τ7,oD 66 (.bin .eql XoH (.const (.int .i64 0))),oM 67 Xo1,oG 68 (.mv τ6) 67 true,oG 69 (.lenS XpF) 67 true,oG 70 (.bin .gtr Xpj (.const (.int .i64 9000))) 67 true,oD 71 (.pick XoE Xq8 (.const (.bool false)))]
def XYl:VC:=.reg [oD 4 (.mv (.const (.string ⟨⟨[]⟩⟩))),oD 5 (.mv (.const (.int .i64 5)))]
def XL3:VC:=.seq XYl .ret
def XSb:VC:=.cond Xq3 XL3 .skip
def XY7:VC:=.seq X0p XSb
def XYz:VC:=.reg [oM 72 τ6,oM 73 τ7,oM 4 Xq1,oM 5 Xr9]
def X7a:VC:=.seq XYz .ret
def XV1:VC:=.seq XY7 X7a
def X6R:VC:=.seq XRG XV1
def XRj:VC:=.seq k54_6 X6R
def X17:VC:=.seq k54_5 XRj
def XMh:VC:=.seq k54_0 X17
def fn54:VFn:=⟨74,XMh,[.tmp 4,.tmp 5]⟩
def k30_0:VC:=.reg [oD 4 (.mv (.const (.string ⟨⟨[]⟩⟩)))]
def k30_1:VC:=.reg [oM 5 τ0,oD 6 (.conv .i64 τ5),oD 7 (.callF 55 [τ6,(.const (.int .i64 4))]),oD 8 (.bin .add (.const (.string ⟨⟨[1,1,8,10]⟩⟩)) τ7),oM 9 τ1,oD 10 (.conv .i64 τ9),oD 11 (.callF 55 [Xcd,(.const (.int .i64 4))]),oD 12 (.bin .add τ8 Xb8),oM 4 XcZ]
def k30_2:VC:=.seq k30_1 .ret
def k30_3:VC:=.seq k30_0 k30_2
def fn30:VFn:=⟨13,k30_3,[.tmp 4]⟩
def k16_0:VC:=.reg [oD 3 (.box τ1),oD 4 (.mv (.const (.string ⟨⟨[]⟩⟩))),oD 5 (.mv (.const (.int .i64 0)))]
def k16_1:VC:=.reg [oM 6 τ0,oD 7 (.mkFunc 33 [] [τ3]),oD 8 (.callF 32 [τ6,(.const (.int .i64 0)),τ7]),oE 9 0 τ8,oE 10 1 τ8,oM 4 τ9,oM 5 Xcd]
def k16_2:VC:=.seq k16_1 .ret
def k16_3:VC:=.seq k16_0 k16_2
def fn16:VFn:=⟨11,k16_3,[.tmp 4,.tmp 5]⟩
def k33_0:VC:=.reg [oD 2 (.box τ0),oD 3 (.mv (.const (.int .u32 0)))]
def k33_1:VC:=.reg [oD 4 (.fieldA 11 τ2),oD 5 (.load1 (.int .u32) τ4),oD 6 (.load1 (.int .u16) τ1),oD 7 (.callF 34 [τ5,τ6]),oM 3 τ7]
def k33_2:VC:=.seq k33_1 .ret
def k33_3:VC:=.seq k33_0 k33_2
def fn33:VFn:=⟨8,k33_3,[.tmp 3]⟩
def k34_0:VC:=.reg [oD 4 (.mv (.const (.int .u32 0)))]
def k34_1:VC:=.reg [oM 5 τ1,oD 6 (.conv .u32 τ5),oD 7 (.bin .shl τ6 (.const (.int .u64 16))),oM 8 τ0,oD 9 (.callF 37 [τ8]),oD 10 (.conv .u32 τ9),oD 11 (.bin .or τ7 Xcd),oM 4 Xb8]
def k34_2:VC:=.seq k34_1 .ret
def k34_3:VC:=.seq k34_0 k34_2
def fn34:VFn:=⟨12,k34_3,[.tmp 4]⟩
def k37_0:VC:=.reg [oD 2 (.mv (.const (.int .u16 0)))]
def k37_1:VC:=.reg [oM 3 τ0,oD 4 (.conv .u16 τ3),oM 2 τ4]
def k37_2:VC:=.seq k37_1 .ret
def k37_3:VC:=.seq k37_0 k37_2
def fn37:VFn:=⟨5,k37_3,[.tmp 2]⟩
def k32_0:VC:=.reg [oD 6 (.mv (.const (.string ⟨⟨[]⟩⟩))),oD 7 (.mv (.const (.int .i64 0)))]
def k32_1:VC:=.reg [oM 19 τ0,oD 20 (.callF 22 [XdM]),oM 18 Xea,oE 21 0 XdW,oE 22 1 XdW,oD 8 (.alloc [(.int .i64 0),(.bool false),(.int .u64 0),(.int .u64 0),(.bool false),(.int .u64 0),(.int .u64 0),(.int .i64 0),(.int .i64 0),(.int .i64 0),(.bool false),(.int .u32 0),(.int .u32 0),(.bool false),(.string ⟨⟨[]⟩⟩),(.int .i64 0)]),oN (.store 16 τ8 Xei),oM 9 XeN]
def k32_2:VC:=.reg [oM 24 τ9,oD 25 (.bin .neq Xex (.const (.int .i64 0))),oM 23 XeX]
def k32_3:VC:=.reg [oM 26 τ9,oD 6 (.mv (.const (.string ⟨⟨[]⟩⟩))),oM 7 Xep]
def k32_4:VC:=.seq k32_3 .ret
def k32_5:VC:=.reg [oD 28 (.fieldA 10 τ8),oD 29 (.load1 .bool XeO),oD 30 (.not Xe1),oM 27 Xfy]
def k32_6:VC:=.reg [oD 6 (.mv (.const (.string ⟨⟨[]⟩⟩))),oD 7 (.mv (.const (.int .i64 6)))]
def k32_7:VC:=.seq k32_6 .ret
def k32_8:VC:=.cond XeT k32_7 .skip
def k32_9:VC:=.seq k32_5 k32_8
def XNk:VC:=.cond XeR k32_4 k32_9
def XUD:VC:=.seq k32_2 XNk
def XVc:VC:=.block 0 XUD
def XNc:VC:=.reg [oM 32 τ0,oD 33 (.callF 38 [XfC]),oM 31 XfA,oE 34 0 Xfw,oE 35 1 Xfw,oE 36 2 Xfw,oM 10 XfK,oM 11 XfU,oM 12 XfV]
def XTd:VC:=.reg [oM 38 τ0,oM 39 Xcd,oD 40 (.bin .add XgK (.const (.int .i64 20))),oM 41 Xb8,oD 42 (.sliceS XgM (some Xhu) (some Xhs)),oD 43 (.callF 60 [Xht]),oM 37 XhC,oE 44 0 XfB,oE 45 1 XfB,oE 46 2 XfB,oM 13 Xim,oM 14 XhP,oM 15 Xin]
def XL4:VC:=.regD [oM 48 τ0,oM 49 Xcd,oD 50 (.sliceS XiP (some XiO) none),oM 51 Xdl,oD 52 (.bin .add (.const (.int .i64 20)) XiQ),oM 53 τ1,oD 54 (.bin .add XjN XjO),oM 55 τ2,oD 56 (.loadN [(.int .i64),.bool,(.int .u64),(.int .u64),.bool,(.int .u64),(.int .u64),(.int .i64),(.int .i64),(.int .i64),.bool,(.int .u32),(.int .u32),.bool,.str,(.int .i64)] τ8),oD 57 (.callV Xk3 [Xlp]),oD 58 (.conv .u64 XkK),oD 59 (.callF 42 [XkW,(.const (.int .i64 4))]),oD 60 (.callF 41 [XiR,XkV,Xk8,(.const (.int .i64 16))]),oM 47 Xl4,oE 61 0 XhS,oE 62 1 XhS,oM 16 Xl7] [] [oM 17 XmX]
def XOg:VC:=.reg [oM 63 Xdm,oD 64 (.not Xow)]
def XLE:VC:=.reg [oD 6 (.mv (.const (.string ⟨⟨[]⟩⟩))),oD 7 (.mv (.const (.int .i64 3)))]
def XYg:VC:=.seq XLE .ret
def XVO:VC:=.cond Xn3 XYg .skip
def XOd:VC:=.seq XOg XVO
def XO3:VC:=.reg [oM 65 τ0,oM 66 Xcd,oD 67 (.sliceS XoH none (some Xo1)),oM 68 Xdp,oD 69 (.bin .add XoE XpF),oM 6 Xpj,oD 7 (.mv (.const (.int .i64 0)))]
def XUT:VC:=.seq XO3 .ret
def X2S:VC:=.seq XOd XUT
def XQG:VC:=.seq XL4 X2S
def X11:VC:=.seq XTd XQG
def XPo:VC:=.seq XNc X11
def X4D:VC:=.seq XVc XPo
def XOw:VC:=.seq k32_1 X4D
def XMO:VC:=.seq k32_0 XOw
def fn32:VFn:=⟨70,XMO,[.tmp 6,.tmp 7]⟩
def k38_0:VC:=.reg [oD 2 (.mv (.const (.int .i64 0))),oD 3 (.mv (.const (.int .i64 0))),oD 4 (.mv (.const (.int .i64 0)))]
def k38_1:VC:=.reg [oM 10 τ0,oD 11 (.callF 46 [Xcd]),oM 9 Xb8,oE 12 0 τ9,oE 13 1 τ9,oE 14 2 τ9,oE 15 3 τ9,oD 5 (.alloc [(.int .i64 0),(.bool false),(.int .u64 0),(.int .u64 0),(.bool false),(.int .u64 0),(.int .u64 0),(.int .i64 0),(.int .i64 0),(.int .i64 0),(.bool false),(.int .u32 0),(.int .u32 0),(.bool false),(.string ⟨⟨[]⟩⟩),(.int .i64 0)]),oN (.store 16 τ5 XcZ),oM 6 Xc2,oM 7 Xdo,oM 8 Xdl]
def k38_2:VC:=.reg [oM 16 τ8,oD 17 (.bin .neq Xdp (.const (.int .i64 0)))]
def k38_3:VC:=.reg [oM 18 τ8,oD 2 (.mv (.const (.int .i64 0))),oD 3 (.mv (.const (.int .i64 0))),oM 4 XdW]
def k38_4:VC:=.seq k38_3 .ret
def k38_5:VC:=.cond Xdm k38_4 .skip
def k38_6:VC:=.seq k38_2 k38_5
def k38_7:VC:=.reg [oM 19 τ0,oD 20 (.lenS XdM),oM 21 τ6,oD 22 (.bin .sub Xea Xei),oM 23 τ0,oD 24 (.lenS XeR),oM 25 τ7,oD 26 (.bin .sub Xex XeX),oM 2 XeN,oM 3 Xep,oD 4 (.mv (.const (.int .i64 0)))]
def k38_8:VC:=.seq k38_7 .ret
def k38_9:VC:=.seq k38_6 k38_8
def XVT:VC:=.seq k38_1 k38_9
def XTr:VC:=.seq k38_0 XVT
def fn38:VFn:=⟨27,XTr,[.tmp 2,.tmp 3,.tmp 4]⟩
def k41_0:VC:=.reg [oD 8 (.mv (.const (.string ⟨⟨[]⟩⟩))),oD 9 (.mv (.const (.bool false)))]
def k41_1:VC:=.reg [oM 17 τ1,oM 18 τ2,oD 19 (.lenS XdW),oD 20 (.bin .add Xdm XdM),oM 10 Xea]
def k41_2:VC:=.reg [oM 22 τ1,oD 23 (.bin .lss XeN (.const (.int .i64 0))),oM 24 XeR,oG 25 (.mv τ0) 24 false,oG 26 (.lenS XeX) 24 false,oG 27 (.mv τ2) 24 false,oG 28 (.lenS XeT) 24 false,oG 29 (.bin .sub Xep XeO) 24 false,oG 30 (.mv τ1) 24 false,oG 31 (.bin .lss Xe1 Xfy) 24 false,oD 32 (.pick Xex (.const (.bool true)) Xfw),oM 33 XfC,oG 34 (.mv τ3) 33 false,oG 35 (.bin .lss XfK (.const (.int .i64 0))) 33 false,oD 36 (.pick XfA (.const (.bool true)) XfU),oM 37 XfV,oG 38 (.mv τ3) 37 false,oG 39 (.bin .rem XgM (.const (.int .i64 2))) 37 false,oG 40 (.bin .eql XgK (.const (.int .i64 1))) 37 false,oD 41 (.pick XfB (.const (.bool true)) Xhu),oM 42 Xhs,oG 43 (.mv τ0) 42 false,oG 44 (.lenS XhC) 42 false,oG 45 (.bin .sub Xim (.const (.int .i64 2))) 42 false,oG 46 (.mv τ3) 42 false,oG 47 (.bin .lss XhP Xin) 42 false,oD 48 (.pick Xht (.const (.bool true)) XhS),oM 21 XiP]
def k41_3:VC:=.reg [oD 8 (.mv (.const (.string ⟨⟨[]⟩⟩))),oD 9 (.mv (.const (.bool false)))]
def k41_4:VC:=.seq k41_3 .ret
def k41_5:VC:=.reg [oM 50 τ2,oD 51 (.bin .eql XiR (.const (.string ⟨⟨[]⟩⟩))),oM 49 XiQ]
def k41_6:VC:=.reg [oM 52 τ0,oM 8 XjN,oD 9 (.mv (.const (.bool true)))]
def k41_7:VC:=.seq k41_6 .ret
def k41_8:VC:=.reg [oM 54 τ1,oM 55 τ3,oD 56 (.bin .add Xk3 (.const (.int .i64 2))),oD 57 (.bin .lss XkV Xlp),oM 58 XkK,oG 59 (.mv τ3) 58 true,oG 60 (.mv Xcd) 58 true,oG 61 (.bin .lss Xk8 Xl4) 58 true,oD 62 (.pick XkW Xl7 (.const (.bool false))),oM 53 XmX]
def k41_9:VC:=.reg [oD 8 (.mv (.const (.string ⟨⟨[]⟩⟩))),oD 9 (.mv (.const (.bool false)))]
def XT0:VC:=.seq k41_9 .ret
def XMM:VC:=.cond XjO XT0 .skip
def X1e:VC:=.seq k41_8 XMM
def X1X:VC:=.cond XiO k41_7 X1e
def X6Y:VC:=.seq k41_5 X1X
def X7p:VC:=.cond Xei k41_4 X6Y
def XRE:VC:=.seq k41_2 X7p
def XNV:VC:=.block 0 XRE
def XVt:VC:=.regD [oM 63 τ0,oM 64 τ1,oD 65 (.sliceS Xow none (some Xn3)),oM 66 τ2,oD 67 (.bin .add XoH Xo1),oM 68 τ0,oM 69 Xcd,oD 70 (.sliceS XpF (some Xpj) none)] [] [oD 71 (.bin .add XoE Xq8),oM 11 Xq3]
def X2P:VC:=.reg [oM 72 τ1,oD 73 (.bin .andNot Xq1 (.const (.int .i64 1))),oM 74 Xcd,oD 75 (.bin .add XtP (.const (.int .i64 1))),oD 76 (.bin .andNot XtI (.const (.int .i64 1))),oM 12 Xr9,oM 13 XvY]
def XNm:VC:=.reg [oM 78 τ0,oM 79 τ3,oD 80 (.callF 40 [Xv3,XwR,(.const (.int .i64 2))]),oM 77 Xv0,oE 81 0 XuG,oE 82 1 XuG,oM 14 XxB,oM 15 XAG]
def XN9:VC:=.reg [oM 83 Xdo,oD 84 (.conv .i64 Xv1),oM 85 τ0,oM 86 XcZ,oM 87 Xc2,oD 88 (.callF 69 [XDX,XG7,XDb]),oM 89 Xb8,oM 90 XcZ,oM 91 Xc2,oD 92 (.callF 69 [XBr,XIe,XCg]),oD 93 (.callF 68 [Xzp,XI6,XEL]),oM 16 XGb]
def XWv:VC:=.reg [oM 94 Xb8,oM 95 τ3,oM 96 Xdp,oD 97 (.conv .u64 XCM),oD 98 (.callF 43 [XDB,XGg,(.const (.int .i64 2)),XLk]),oM 8 τ98,oD 9 (.mv (.const (.bool true)))]
def XYK:VC:=.seq XWv .ret
def X5N:VC:=.seq XN9 XYK
def X0G:VC:=.seq XNm X5N
def X1c:VC:=.seq X2P X0G
def XPw:VC:=.seq XVt X1c
def X4l:VC:=.seq XNV XPw
def XM6:VC:=.seq k41_1 X4l
def XMV:VC:=.seq k41_0 XM6
def fn41:VFn:=⟨99,XMV,[.tmp 8,.tmp 9]⟩
def k69_0:VC:=.reg [oD 6 (.mv (.const (.string ⟨⟨[]⟩⟩)))]
def k69_1:VC:=.reg [oM 7 τ2,oM 8 τ0,oD 9 (.lenS τ8),oD 10 (.bin .gtr τ7 τ9)]
def k69_2:VC:=.reg [oM 11 τ0,oM 12 τ1,oD 13 (.sliceS Xb8 (some XcZ) none),oD 14 (.bin .add Xc2 (.const (.string ⟨⟨[0]⟩⟩))),oM 6 Xdo]
def k69_3:VC:=.seq k69_2 .ret
def k69_4:VC:=.cond Xcd k69_3 .skip
def k69_5:VC:=.seq k69_1 k69_4
def k69_6:VC:=.reg [oM 15 τ0,oM 16 τ1,oM 17 τ2,oD 18 (.sliceS Xdl (some Xdp) (some Xdm)),oM 6 XdW]
def k69_7:VC:=.seq k69_6 .ret
def k69_8:VC:=.seq k69_5 k69_7
def k69_9:VC:=.seq k69_0 k69_8
def fn69:VFn:=⟨19,k69_9,[.tmp 6]⟩
def k68_0:VC:=.reg [oD 3 (.box τ0),oD 5 (.box τ2),oD 6 (.mv (.const (.int .i64 0)))]
def k68_1:VC:=.reg [oM 11 τ1,oD 12 (.lenS Xb8),oD 13 (.load1 .str τ5),oD 14 (.lenS Xc2),oD 15 (.bin .neq XcZ Xdo),oM 16 Xdl,oG 17 (.mv τ1) 16 false,oG 18 (.lenS Xdm) 16 false,oG 19 (.bin .rem XdW (.const (.int .i64 2))) 16 false,oG 20 (.bin .gtr XdM (.const (.int .i64 0))) 16 false,oD 21 (.pick Xdp (.const (.bool true)) Xea)]
def k68_2:VC:=.reg [oD 22 (.load1 (.int .i64) τ3),oM 6 XeN]
def k68_3:VC:=.seq k68_2 .ret
def k68_4:VC:=.cond Xei k68_3 .skip
def k68_5:VC:=.seq k68_1 k68_4
def k68_6:VC:=.reg [oD 7 (.alloc [(.int .i64 0)]),oN (.store 1 τ7 (.const (.int .i64 0)))]
def k68_7:VC:=.reg [oM 23 τ1,oD 24 (.callF 104 [XeR])]
def k68_8:VC:=.reg [oM 8 XeX]
def k68_9:VC:=.reg [oD 27 (.load1 .str τ5),oD 28 (.load1 (.int .i64) τ7),oD 29 (.callF 40 [XeT,XeO,(.const (.int .i64 2))]),oM 26 Xe1,oE 30 0 Xep,oE 31 1 Xep,oM 9 Xfy,oM 10 Xfw]
def X3b:VC:=.reg [oD 32 (.load1 (.int .i64) τ3),oM 33 τ8,oM 34 τ9,oD 35 (.conv .i64 XfK),oD 36 (.callF 105 [XfC,XfA,XfU]),oN (.store 1 τ3 XfV)]
def X7h:VC:=.reg [oD 37 (.load1 (.int .i64) τ7),oD 38 (.bin .add XfB (.const (.int .i64 2))),oN (.store 1 τ7 XgM)]
def X7y:VC:=.seq X3b X7h
def XOY:VC:=.seq k68_9 X7y
def X6z:VC:=.block 1 XOY
def XT9:VC:=.rangeF Xex [25] k68_8 X6z
def XPg:VC:=.block 0 XT9
def XNF:VC:=.seq k68_7 XPg
def XUZ:VC:=.reg [oD 39 (.load1 (.int .i64) τ3),oM 6 XgK]
def X3H:VC:=.seq XUZ .ret
def X7v:VC:=.seq XNF X3H
def XRO:VC:=.seq k68_6 X7v
def X6m:VC:=.seq k68_5 XRO
def X6r:VC:=.seq k68_0 X6m
def fn68:VFn:=⟨40,X6r,[.tmp 6]⟩
def XWn:VC:=.reg [oD 6 (.mv (.const (.int .i64 0)))]
def X7k:VC:=.reg [oM 7 τ0,oM 8 τ1,oM 9 τ2,oD 10 (.buildSl 3 1 [(.int .i64 0),(.int .i64 0),(.int .i64 0)] [(0,1,τ7),(1,1,τ8),(2,1,τ9)]),oD 11 (.callF 127 [Xcd]),oD 12 (.not Xb8)]
def XRy:VC:=.reg [oD 6 (.mv (.const (.int .i64 0)))]
def XQM:VC:=.seq XRy .ret
def X0y:VC:=.cond XcZ XQM .skip
def XOL:VC:=.seq X7k X0y
def XOI:VC:=.reg [oM 13 τ0,oD 14 (.bin .sub (.const (.int .i64 65535)) Xc2),oD 15 (.bin .add Xdo (.const (.int .i64 65535))),oM 16 τ1,oD 17 (.bin .sub Xdl Xdp),oM 18 τ2,oD 19 (.bin .add Xdm XdW),oD 20 (.callF 128 [XdM]),oD 21 (.bin .sub (.const (.int .i64 65535)) Xea),oM 6 Xei]
def XYU:VC:=.seq XOI .ret
def XXf:VC:=.seq XOL XYU
def X66:VC:=.seq XWn XXf
def X7I:VFn:=⟨22,X66,[.tmp 6]⟩
def X6q:VC:=.reg [oD 2 (.mv (.const (.bool false)))]
def X64:VC:=.reg [oM 5 τ0,oD 6 (.lenL τ5),oD 7 (.mv (.const (.int .i64 0)))]
def XV3:VC:=.reg [oD 8 (.bin .lss τ7 τ6)]
def XSu:VC:=.cond τ8 .skip (.exit 0)
def XTw:VC:=.reg [oD 9 (.idxAL 1 τ5 τ7),oD 10 (.load1 (.int .i64) τ9),oM 4 Xcd]
def XPT:VC:=.reg [oM 11 τ4,oD 12 (.bin .lss Xb8 (.const (.int .i64 0))),oM 13 XcZ,oG 14 (.mv τ4) 13 false,oG 15 (.bin .gtr Xdo (.const (.int .i64 65535))) 13 false,oD 16 (.pick Xc2 (.const (.bool true)) Xdl)]
def XUU:VC:=.reg [oD 2 (.mv (.const (.bool false)))]
def XQ4:VC:=.seq XUU .ret
def XR5:VC:=.cond Xdp XQ4 .skip
def X5e:VC:=.seq XPT XR5
def XIG:VC:=.seq XTw X5e
def XH7:VC:=.block 1 XIG
def XGJ:VC:=.reg [oD 17 (.bin .add τ7 (.const (.int .i64 1))),oM 7 Xdm]
def XCw:VC:=.seq XH7 XGJ
def XC8:VC:=.seq XSu XCw
def XB9:VC:=.seq XV3 XC8
def XFq:VC:=.loop XB9
def XFA:VC:=.block 0 XFq
def XFm:VC:=.seq X64 XFA
def XEj:VC:=.reg [oD 2 (.mv (.const (.bool true)))]
def XHF:VC:=.seq XEj .ret
def XGh:VC:=.seq XFm XHF
def XJO:VC:=.seq X6q XGh
def X7t:VFn:=⟨18,XJO,[.tmp 2]⟩
def k17_0:VC:=.reg [oD 4 (.mv (.const (.int .i64 0)))]
def k17_1:VC:=.reg [oD 5 (.mv (.const (.int .i64 0)))]
def k17_2:VC:=.reg [oD 6 (.mv (.const (.int .i64 0)))]
def k17_3:VC:=.reg [oM 7 τ6,oM 8 τ0,oD 9 (.lenS τ8),oD 10 (.bin .lss τ7 τ9),oM 11 Xcd,oG 12 (.mv τ6) 11 true,oG 13 (.mv τ1) 11 true,oG 14 (.lenS Xc2) 11 true,oG 15 (.bin .lss XcZ Xdo) 11 true,oD 16 (.pick Xb8 Xdl (.const (.bool false)))]
def k17_4:VC:=.cond Xdp .skip (.exit 0)
def k17_5:VC:=.seq k17_3 k17_4
def k17_6:VC:=.regD [oM 19 τ0,oM 20 τ6,oD 21 (.idxS XdM Xea),oM 22 τ1,oM 23 τ6,oD 24 (.idxS XeN XeR)] [] [oD 25 (.bin .neq Xei Xex)]
def k17_7:VC:=.reg [oM 26 τ5,oD 27 (.bin .add Xep (.const (.int .i64 1))),oM 5 XeT]
def k17_8:VC:=.cond XeX k17_7 .skip
def k17_9:VC:=.seq k17_6 k17_8
def XOz:VC:=.block 1 k17_9
def XSf:VC:=.reg [oM 17 τ6,oD 18 (.bin .add Xdm (.const (.int .i64 1))),oM 6 XdW]
def XOB:VC:=.seq XOz XSf
def XX4:VC:=.seq k17_5 XOB
def XQb:VC:=.loop XX4
def X24:VC:=.block 0 XQb
def XS6:VC:=.seq k17_2 X24
def XT6:VC:=.reg [oM 28 τ5,oM 4 XeO]
def X6g:VC:=.seq XT6 .ret
def XOp:VC:=.seq XS6 X6g
def XUM:VC:=.seq k17_1 XOp
def XTL:VC:=.seq k17_0 XUM
def fn17:VFn:=⟨29,XTL,[.tmp 4]⟩
def k18_0:VC:=.reg [oD 3 (.box τ1),oD 4 (.mv (.const (.string ⟨⟨[]⟩⟩))),oD 5 (.mv (.const (.int .i64 0)))]
def k18_1:VC:=.reg [oM 6 τ0,oD 7 (.mkFunc 35 [] [τ3]),oD 8 (.callF 32 [τ6,(.const (.int .i64 4)),τ7]),oE 9 0 τ8,oE 10 1 τ8,oM 4 τ9,oM 5 Xcd]
def k18_2:VC:=.seq k18_1 .ret
def k18_3:VC:=.seq k18_0 k18_2
def fn18:VFn:=⟨11,k18_3,[.tmp 4,.tmp 5]⟩
def k35_0:VC:=.reg [oD 2 (.box τ0),oD 3 (.mv (.const (.int .u32 0)))]
def k35_1:VC:=.regD [oD 4 (.load1 (.int .u32) τ1),oD 5 (.fieldA 12 τ2),oD 6 (.load1 (.int .u32) τ5),oD 7 (.callF 37 [τ6])] [(0,3)] [oD 8 (.callF 36 [τ4,τ7]),oM 3 τ8]
def k35_2:VC:=.seq k35_1 .ret
def k35_3:VC:=.seq k35_0 k35_2
def fn35:VFn:=⟨9,k35_3,[.tmp 3]⟩
def k36_0:VC:=.reg [oD 4 (.mv (.const (.int .u32 0)))]
def k36_1:VC:=.reg [oM 5 τ0,oM 6 τ0,oD 7 (.callF 37 [τ6]),oM 8 τ1,oD 9 (.bin .sub τ7 τ8),oD 10 (.conv .u32 τ9),oD 11 (.bin .sub τ5 Xcd),oM 4 Xb8]
def k36_2:VC:=.seq k36_1 .ret
def k36_3:VC:=.seq k36_0 k36_2
def fn36:VFn:=⟨12,k36_3,[.tmp 4]⟩
def k19_0:VC:=.reg [oD 4 (.mv (.const (.string ⟨⟨[]⟩⟩))),oD 5 (.mv (.const (.int .i64 0)))]
def k19_1:VC:=.reg [oM 19 τ0,oD 20 (.callF 22 [XdM]),oM 18 Xea,oE 21 0 XdW,oE 22 1 XdW,oD 6 (.alloc [(.int .i64 0),(.bool false),(.int .u64 0),(.int .u64 0),(.bool false),(.int .u64 0),(.int .u64 0),(.int .i64 0),(.int .i64 0),(.int .i64 0),(.bool false),(.int .u32 0),(.int .u32 0),(.bool false),(.string ⟨⟨[]⟩⟩),(.int .i64 0)]),oN (.store 16 τ6 Xei),oM 7 XeN]
def k19_2:VC:=.reg [oM 23 τ7,oD 24 (.bin .neq XeR (.const (.int .i64 0)))]
def k19_3:VC:=.reg [oM 25 τ7,oD 4 (.mv (.const (.string ⟨⟨[]⟩⟩))),oM 5 XeX]
def k19_4:VC:=.seq k19_3 .ret
def k19_5:VC:=.cond Xex k19_4 .skip
def k19_6:VC:=.seq k19_2 k19_5
def k19_7:VC:=.reg [oM 27 τ0,oD 28 (.callF 38 [XeT]),oM 26 XeO,oE 29 0 Xep,oE 30 1 Xep,oE 31 2 Xep,oM 8 Xe1,oM 9 Xfy,oM 10 Xfw]
def k19_8:VC:=.reg [oM 33 τ0,oM 34 τ9,oD 35 (.sliceS XfA (some XfK) none),oD 36 (.callF 39 [XfU]),oM 32 XfV,oE 37 0 XfC,oE 38 1 XfC,oD 11 (.alloc [(.bool false),(.int .i64 0),(.int .u32 0),(.string ⟨⟨[]⟩⟩),(.string ⟨⟨[]⟩⟩),(.string ⟨⟨[]⟩⟩)]),oN (.store 6 Xb8 XfB),oM 7 XgM]
def k19_9:VC:=.reg [oD 40 (.fieldA 0 τ6),oD 41 (.fieldA 0 Xhu),oD 42 (.load1 (.int .i64) Xhs),oD 43 (.bin .neq Xht (.const (.int .i64 17))),oM 44 XhC,oG 45 (.mv τ7) 44 false,oG 46 (.bin .neq XhP (.const (.int .i64 0))) 44 false,oD 47 (.pick Xim (.const (.bool true)) Xin),oM 48 XhS,oG 49 (.fieldA 0 Xb8) 48 false,oG 50 (.load1 .bool XiO) 48 false,oG 51 (.not XiR) 48 false,oD 52 (.pick XiP (.const (.bool true)) XiQ),oM 39 XjN]
def XNX:VC:=.reg [oD 4 (.mv (.const (.string ⟨⟨[]⟩⟩))),oD 5 (.mv (.const (.int .i64 6)))]
def X3D:VC:=.seq XNX .ret
def XVG:VC:=.reg [oD 54 (.fieldA 4 Xb8),oD 55 (.load1 .str XkV),oD 56 (.lenS Xk3),oD 57 (.bin .neq Xlp (.const (.int .i64 8))),oM 53 XkK]
def X3f:VC:=.reg [oD 4 (.mv (.const (.string ⟨⟨[]⟩⟩))),oD 5 (.mv (.const (.int .i64 3)))]
def XZA:VC:=.seq X3f .ret
def XMa:VC:=.cond XjO XZA .skip
def X4o:VC:=.seq XVG XMa
def XRi:VC:=.cond XgK X3D X4o
def X5v:VC:=.seq k19_9 XRi
def X37:VC:=.block 0 X5v
def X3z:VC:=.reg [oM 59 τ0,oM 60 τ8,oD 61 (.bin .add Xl4 (.const (.int .i64 6))),oD 62 (.callF 40 [Xk8,Xl7,(.const (.int .i64 2))]),oM 58 XmX,oE 63 0 XkW,oE 64 1 XkW,oM 12 Xow,oM 13 Xn3]
def XMS:VC:=.regD [oM 66 τ0,oM 67 τ8,oD 68 (.sliceS Xo1 (some XoE) none),oD 69 (.fieldA 3 Xb8),oD 70 (.load1 .str Xpj),oD 71 (.lenS Xq8),oD 72 (.bin .add (.const (.int .i64 15)) Xq3),oM 73 τ1,oD 74 (.callF 42 [Xr9,(.const (.int .i64 8))]),oD 75 (.callF 41 [XpF,Xq1,XtP,(.const (.int .i64 6))]),oM 65 XtI,oE 76 0 XoH,oE 77 1 XoH,oM 14 XvY] [(4,8)] [oM 15 XuG]
def XZT:VC:=.reg [oM 78 Xdl,oD 79 (.not Xv3)]
def XXT:VC:=.reg [oD 4 (.mv (.const (.string ⟨⟨[]⟩⟩))),oD 5 (.mv (.const (.int .i64 3)))]
def X4f:VC:=.seq XXT .ret
def XRF:VC:=.cond XwR X4f .skip
def XR1:VC:=.seq XZT XRF
def XOX:VC:=.reg [oM 81 Xdo,oD 82 (.callF 40 [XxB,(.const (.int .i64 6)),(.const (.int .i64 2))]),oM 80 XAG,oE 83 0 Xv0,oE 84 1 Xv0,oM 16 Xv1,oM 17 Xzp]
def XWV:VC:=.reg [oM 86 XcZ,oD 87 (.bin .eql XG7 (.const (.int .u64 0))),oM 85 XDb]
def XXr:VC:=.reg [oD 16 (.mv (.const (.int .u64 0)))]
def X5R:VC:=.reg [oM 89 Xdp,oD 90 (.bin .eql XBr (.const (.int .u64 0))),oM 88 XIe]
def XYP:VC:=.reg [oD 16 (.mv (.const (.int .u64 65535)))]
def X5y:VC:=.cond XI6 XYP .skip
def XVl:VC:=.seq X5R X5y
def XQ7:VC:=.cond XDX XXr XVl
def X2J:VC:=.seq XWV XQ7
def X7n:VC:=.block 1 X2J
def XL9:VC:=.regD [oM 91 τ0,oM 92 τ8,oD 93 (.sliceS XCg none (some XEL)),oM 94 Xdo,oM 95 Xdp,oD 96 (.callF 43 [XDB,(.const (.int .i64 6)),(.const (.int .i64 2)),XGg])] [] [oD 97 (.bin .add XGb XCM),oM 4 XLk,oD 5 (.mv (.const (.int .i64 0)))]
def XVA:VC:=.seq XL9 .ret
def XY4:VC:=.seq X7n XVA
def XQs:VC:=.seq XOX XY4
def XX3:VC:=.seq XR1 XQs
def X3u:VC:=.seq XMS XX3
def XRP:VC:=.seq X3z X3u
def XWx:VC:=.seq X37 XRP
def XWX:VC:=.seq k19_8 XWx
def XWJ:VC:=.seq k19_7 XWX
def XYL:VC:=.seq k19_6 XWJ
def XW3:VC:=.seq k19_1 XYL
def XST:VC:=.seq k19_0 XW3
def fn19:VFn:=⟨98,XST,[.tmp 4,.tmp 5]⟩
def k20_0:VC:=.reg [oD 2 (.mv (.const (.int .i64 0))),oD 3 (.mv (.const (.int .i64 0))),oD 4 (.mv (.const (.int .i64 0)))]
def k20_1:VC:=.reg [oM 10 τ0,oD 11 (.callF 31 [Xcd]),oM 9 Xb8,oE 12 0 τ9,oE 13 1 τ9,oE 14 2 τ9,oE 15 3 τ9,oD 5 (.alloc [(.int .i64 0),(.bool false),(.int .u64 0),(.int .u64 0),(.bool false),(.int .u64 0),(.int .u64 0),(.int .i64 0),(.int .i64 0),(.int .i64 0),(.bool false),(.int .u32 0),(.int .u32 0),(.bool false),(.string ⟨⟨[]⟩⟩),(.int .i64 0)]),oN (.store 16 τ5 XcZ),oM 6 Xc2,oM 7 Xdo,oM 8 Xdl]
def k20_2:VC:=.reg [oM 16 τ6,oM 17 τ7,oM 18 τ8,oM 2 Xdp,oM 3 Xdm,oM 4 XdW]
def k20_3:VC:=.seq k20_2 .ret
def k20_4:VC:=.seq k20_1 k20_3
def k20_5:VC:=.seq k20_0 k20_4
def fn20:VFn:=⟨19,k20_5,[.tmp 2,.tmp 3,.tmp 4]⟩
theorem XLc:(Tryz.prog.funcs[57]?).bind (Xay Tryz.prog)=some fn57:=by kernel_rfl
theorem XFw:(Tryz.prog.funcs[95]?).bind (Xay Tryz.prog)=some fn95:=by kernel_rfl
theorem XGU:(Tryz.prog.funcs[97]?).bind (Xay Tryz.prog)=some fn97:=by kernel_rfl
theorem XK7:(Tryz.prog.funcs[92]?).bind (Xay Tryz.prog)=some fn92:=by kernel_rfl
theorem XEp:(Tryz.prog.funcs[85]?).bind (Xay Tryz.prog)=some fn85:=by kernel_rfl
theorem XEf:(Tryz.prog.funcs[94]?).bind (Xay Tryz.prog)=some fn94:=by kernel_rfl
theorem XwD:(Tryz.prog.funcs[101]?).bind (Xay Tryz.prog)=some XMy:=by kernel_rfl
theorem XGP:(Tryz.prog.funcs[58]?).bind (Xay Tryz.prog)=some fn58:=by kernel_rfl
theorem XFE:(Tryz.prog.funcs[59]?).bind (Xay Tryz.prog)=some fn59:=by kernel_rfl
theorem XF8:(Tryz.prog.funcs[21]?).bind (Xay Tryz.prog)=some fn21:=by kernel_rfl
theorem XIV:(Tryz.prog.funcs[45]?).bind (Xay Tryz.prog)=some fn45:=by kernel_rfl
theorem X2l:(Tryz.prog.funcs[9]?).bind (Xay Tryz.prog)=some fn9:=by kernel_rfl
theorem XC2:(Tryz.prog.funcs[26]?).bind (Xay Tryz.prog)=some fn26:=by kernel_rfl
theorem XFg:(Tryz.prog.funcs[27]?).bind (Xay Tryz.prog)=some fn27:=by kernel_rfl
theorem XIS:(Tryz.prog.funcs[50]?).bind (Xay Tryz.prog)=some fn50:=by kernel_rfl
theorem XHK:(Tryz.prog.funcs[83]?).bind (Xay Tryz.prog)=some fn83:=by kernel_rfl
theorem XGu:(Tryz.prog.funcs[84]?).bind (Xay Tryz.prog)=some fn84:=by kernel_rfl
theorem XKi:(Tryz.prog.funcs[86]?).bind (Xay Tryz.prog)=some fn86:=by kernel_rfl
theorem XGf:(Tryz.prog.funcs[89]?).bind (Xay Tryz.prog)=some fn89:=by kernel_rfl
theorem XDM:(Tryz.prog.funcs[88]?).bind (Xay Tryz.prog)=some fn88:=by kernel_rfl
theorem XJV:(Tryz.prog.funcs[87]?).bind (Xay Tryz.prog)=some fn87:=by kernel_rfl
theorem XJq:(Tryz.prog.funcs[51]?).bind (Xay Tryz.prog)=some fn51:=by kernel_rfl
theorem XIN:(Tryz.prog.funcs[90]?).bind (Xay Tryz.prog)=some fn90:=by kernel_rfl
theorem Xxa:(Tryz.prog.funcs[118]?).bind (Xay Tryz.prog)=some XUk:=by kernel_rfl
theorem XG4:(Tryz.prog.funcs[91]?).bind (Xay Tryz.prog)=some fn91:=by kernel_rfl
theorem XKu:(Tryz.prog.funcs[52]?).bind (Xay Tryz.prog)=some fn52:=by kernel_rfl
theorem XKb:(Tryz.prog.funcs[93]?).bind (Xay Tryz.prog)=some fn93:=by kernel_rfl
theorem XyJ:(Tryz.prog.funcs[119]?).bind (Xay Tryz.prog)=some XMT:=by kernel_rfl
theorem Xya:(Tryz.prog.funcs[120]?).bind (Xay Tryz.prog)=some X7C:=by kernel_rfl
theorem XET:(Tryz.prog.funcs[13]?).bind (Xay Tryz.prog)=some fn13:=by kernel_rfl
theorem XXq:(Tryz.prog.funcs[4]?).bind (Xay Tryz.prog)=some fn4:=by kernel_rfl
theorem XCZ:(Tryz.prog.funcs[14]?).bind (Xay Tryz.prog)=some fn14:=by kernel_rfl
theorem XH1:(Tryz.prog.funcs[29]?).bind (Xay Tryz.prog)=some fn29:=by kernel_rfl
theorem XDK:(Tryz.prog.funcs[53]?).bind (Xay Tryz.prog)=some fn53:=by kernel_rfl
theorem XCs:(Tryz.prog.funcs[96]?).bind (Xay Tryz.prog)=some fn96:=by kernel_rfl
theorem Xw1:(Tryz.prog.funcs[121]?).bind (Xay Tryz.prog)=some X5w:=by kernel_rfl
theorem XFK:(Tryz.prog.funcs[55]?).bind (Xay Tryz.prog)=some fn55:=by kernel_rfl
theorem XF3:(Tryz.prog.funcs[54]?).bind (Xay Tryz.prog)=some fn54:=by kernel_rfl
theorem XDL:(Tryz.prog.funcs[30]?).bind (Xay Tryz.prog)=some fn30:=by kernel_rfl
theorem XGB:(Tryz.prog.funcs[16]?).bind (Xay Tryz.prog)=some fn16:=by kernel_rfl
theorem XJb:(Tryz.prog.funcs[33]?).bind (Xay Tryz.prog)=some fn33:=by kernel_rfl
theorem XC4:(Tryz.prog.funcs[34]?).bind (Xay Tryz.prog)=some fn34:=by kernel_rfl
theorem XDf:(Tryz.prog.funcs[37]?).bind (Xay Tryz.prog)=some fn37:=by kernel_rfl
theorem XFa:(Tryz.prog.funcs[32]?).bind (Xay Tryz.prog)=some fn32:=by kernel_rfl
theorem XIQ:(Tryz.prog.funcs[38]?).bind (Xay Tryz.prog)=some fn38:=by kernel_rfl
theorem XFx:(Tryz.prog.funcs[41]?).bind (Xay Tryz.prog)=some fn41:=by kernel_rfl
theorem XJT:(Tryz.prog.funcs[69]?).bind (Xay Tryz.prog)=some fn69:=by kernel_rfl
theorem XJQ:(Tryz.prog.funcs[68]?).bind (Xay Tryz.prog)=some fn68:=by kernel_rfl
theorem Xyf:(Tryz.prog.funcs[105]?).bind (Xay Tryz.prog)=some X7I:=by kernel_rfl
theorem XwU:(Tryz.prog.funcs[127]?).bind (Xay Tryz.prog)=some X7t:=by kernel_rfl
theorem XCP:(Tryz.prog.funcs[17]?).bind (Xay Tryz.prog)=some fn17:=by kernel_rfl
theorem XGe:(Tryz.prog.funcs[18]?).bind (Xay Tryz.prog)=some fn18:=by kernel_rfl
theorem XIA:(Tryz.prog.funcs[35]?).bind (Xay Tryz.prog)=some fn35:=by kernel_rfl
theorem XLj:(Tryz.prog.funcs[36]?).bind (Xay Tryz.prog)=some fn36:=by kernel_rfl
theorem XHR:(Tryz.prog.funcs[19]?).bind (Xay Tryz.prog)=some fn19:=by kernel_rfl
theorem XEY:(Tryz.prog.funcs[20]?).bind (Xay Tryz.prog)=some fn20:=by kernel_rfl
def tab:List (Nat×VFn):=[(3,fn3),(5,fn5),(8,fn8),(23,fn23),(28,fn28),(24,fn24),(11,fn11),(12,fn12),(10,fn10),(6,fn6),(22,fn22),(46,fn46),(71,fn71),(106,XZ1),(129,XYJ),(61,fn61),(62,fn62),(64,fn64),(63,fn63),(40,fn40),(131,XYt),(112,X22),(104,X6O),(126,XUJ),(128,XWj),(134,XSd),(135,XU1),(130,XPO),(72,fn72),(107,XQK),(109,XNI),(113,XR4),(80,fn80),(42,fn42),(82,fn82),(116,XU0),(133,XTx),(117,X0h),(132,XZu),(102,X1j),(103,XRS),(125,XQk),(60,fn60),(73,fn73),(108,XVr),(39,fn39),(65,fn65),(66,fn66),(67,fn67),(25,fn25),(47,fn47),(74,fn74),(75,fn75),(110,XPr),(111,XY9),(76,fn76),(77,fn77),(78,fn78),(43,fn43),(48,fn48),(79,fn79),(49,fn49),(81,fn81),(114,X26),(115,X47),(7,fn7),(15,fn15),(31,fn31),(56,fn56),(98,fn98),(44,fn44),(70,fn70),(100,X1Q),(124,X0b),(123,XN5),(122,X7B),(99,fn99),(57,fn57),(95,fn95),(97,fn97),(92,fn92),(85,fn85),(94,fn94),(101,XMy),(58,fn58),(59,fn59),(21,fn21),(45,fn45),(9,fn9),(26,fn26),(27,fn27),(50,fn50),(83,fn83),(84,fn84),(86,fn86),(89,fn89),(88,fn88),(87,fn87),(51,fn51),(90,fn90),(118,XUk),(91,fn91),(52,fn52),(93,fn93),(119,XMT),(120,X7C),(13,fn13),(4,fn4),(14,fn14),(29,fn29),(53,fn53),(96,fn96),(121,X5w),(55,fn55),(54,fn54),(30,fn30),(16,fn16),(33,fn33),(34,fn34),(37,fn37),(32,fn32),(38,fn38),(41,fn41),(69,fn69),(68,fn68),(105,X7I),(127,X7t),(17,fn17),(18,fn18),(35,fn35),(36,fn36),(19,fn19),(20,fn20)]
theorem Xam:Xji Tryz.prog (Xar tab):=Xji.XaW ⟨XVp,XLJ,XYj,XDd,XF1,XHE,XHB,XJz,XK9,XS3,XJt,XKd,XCk,Xyw,Xxy,XI4,XFP,XEB,XDp,XDt,Xw0,Xy1,XwC,XwZ,Xy6,Xxk,Xxq,XwQ,XFF,XxX,XxW,XxO,XLf,XKC,XGV,Xxv,Xxx,Xwv,Xye,XyD,XxH,Xxn,XE6,XC1,XxU,XH3,XFp,XK0,XIu,XJ7,XI1,XKD,XDm,Xwn,XxA,XEG,XD6,XD5,XCe,XCz,XHk,XJm,XJS,Xxb,Xys,X40,XHw,XFY,XCC,XHt,XKZ,XK2,Xw4,Xxl,XyM,Xyc,XDA,XLc,XFw,XGU,XK7,XEp,XEf,XwD,XGP,XFE,XF8,XIV,X2l,XC2,XFg,XIS,XHK,XGu,XKi,XGf,XDM,XJV,XJq,XIN,Xxa,XG4,XKu,XKb,XyJ,Xya,XET,XXq,XCZ,XH1,XDK,XCs,Xw1,XFK,XF3,XDL,XGB,XJb,XC4,XDf,XFa,XIQ,XFx,XJT,XJQ,Xyf,XwU,XCP,XGe,XIA,XLj,XHR,XEY,trivial⟩
end Go.Vm.Code
namespace Go.Vm.Code
open Go Go.Vm Go.Proofs
set_option maxRecDepth 100000
set_option maxHeartbeats 4000000
set_option linter.unusedVariables false
@[ext] structure Xaa where
 V6:Bool
 Hi:Int
 Lo:Int
 deriving DecidableEq
@[ext] structure Xbt where
 Proto:Int
 Src:Xaa
 Dst:Xaa
 SPort:Int
 DPort:Int
 deriving DecidableEq
@[ext] structure Xag where
 Tuple:Xbt
 Flags:Int
 Stamped:Bool
 Val:Int
 Echo:Int
 Long:Bool
 CID:List UInt8
 Size:Int
 deriving DecidableEq
@[ext] structure Xap where
 src:Xaa
 dst:Xaa
 proto:Int
 body:List UInt8
 deriving DecidableEq
@[ext] structure Xah where
 Class:Int
 Mark:Int
 Whole:Bool
 TTL:Int
 Proto:Int
 Src:Xaa
 Dst:Xaa
 Options:List UInt8
 deriving DecidableEq
@[ext] structure Xab where
 s:List UInt8
 made:Bool
 bad:Bool
 deriving DecidableEq
@[ext] structure Xbr where
 Reader:Xab
 deriving DecidableEq
@[ext] structure Xaj where
 Class:Int
 Label:Int
 Next:Int
 Hop:Int
 Src:Xaa
 Dst:Xaa
 deriving DecidableEq
@[ext] structure XaF where
 SPort:Int
 DPort:Int
 Seq:Int
 Ack:Int
 Flags:Int
 Window:Int
 Urgent:Int
 Options:List UInt8
 deriving DecidableEq
@[ext] structure XbL where
 Kind:Int
 Data:List UInt8
 deriving DecidableEq
@[ext] structure XaC where
 SPort:Int
 DPort:Int
 deriving DecidableEq
@[ext] structure XaR where
 Long:Bool
 Bits:Int
 Version:Int
 DCID:List UInt8
 SCID:List UInt8
 Rest:List UInt8
 deriving DecidableEq
@[ext] structure Xaf where
 Kind:Int
 Code:Int
 MTU:Int
 Quote:List UInt8
 deriving DecidableEq
@[ext] structure Xd6 where
 e0:Int
 e1:Int
 deriving DecidableEq
@[ext] structure Xbh where
 e0:Xd6
 e1:Xd6
 e2:Xd6
 e3:Xd6
 deriving DecidableEq
@[ext] structure XbE where
 msg:List UInt8
 addr:Int
 deriving DecidableEq
@[ext] structure Xb9 where
 src:Xaa
 dst:Xaa
 proto:Int
 size:Int
 body:List UInt8
 deriving DecidableEq
@[ext] structure XbD where
 Kind:Int
 Data:List UInt8
 At:Int
 deriving DecidableEq
def XeA (x:Xaa):List Value:=[.bool x.V6,.int .u64 x.Hi,.int .u64 x.Lo]
theorem XiG (x:Xaa):(XeA x).length=3:=rfl
theorem Xgj (x:Xaa):Xbx.flatL (XeA x)=true:=rfl
theorem XdC (x:Xaa):(XeA x).all Xge=true:=rfl
@[simp] theorem Xwg (xs:List Xaa):(vT XeA xs).length=xs.length*3:=XfJ XiG xs
@[simp] theorem Xwa (xs:List Xaa) (n:Nat):(vT XeA xs).take (n*3)=vT XeA (xs.take n):=XeK XiG xs n
@[simp] theorem Xwh (xs:List Xaa) (n:Nat):(vT XeA xs).drop (n*3)=vT XeA (xs.drop n):=XeF XiG xs n
def Xk9:List Value→Option Xaa
 | [.bool a1,.int .u64 a2,.int .u64 a3]=>some (Xaa.mk a1 a2 a3)
 | _=>none
theorem Xov (cs:List Value) (x:Xaa) (h:Xk9 cs=some x):cs=XeA x:=by
 unfold Xk9 at h;split at h
 ·cases h;rfl
 ·cases h
def Xa8:Value→Option Xaa
 | .agg ⟨cs⟩=>Xk9 cs
 | _=>none
theorem XaN (v:Value) (x:Xaa) (h:Xa8 v=some x):v=.agg ⟨XeA x⟩:=by
 unfold Xa8 at h;split at h
 ·rw [Xov _ _ h]
 ·cases h
theorem XaY (x:Xaa):Xa8 (.agg ⟨XeA x⟩)=some x:=rfl
def Xfg (x:Xbt):List Value:=[.int .i64 x.Proto,.bool x.Src.V6,.int .u64 x.Src.Hi,.int .u64 x.Src.Lo,.bool x.Dst.V6,.int .u64 x.Dst.Hi,.int .u64 x.Dst.Lo,.int .i64 x.SPort,.int .i64 x.DPort]
theorem XhM (x:Xbt):(Xfg x).length=9:=rfl
theorem XfE (x:Xbt):Xbx.flatL (Xfg x)=true:=rfl
theorem Xc9 (x:Xbt):(Xfg x).all Xge=true:=rfl
@[simp] theorem XvD (xs:List Xbt):(vT Xfg xs).length=xs.length*9:=XfJ XhM xs
@[simp] theorem XtF (xs:List Xbt) (n:Nat):(vT Xfg xs).take (n*9)=vT Xfg (xs.take n):=XeK XhM xs n
@[simp] theorem XuV (xs:List Xbt) (n:Nat):(vT Xfg xs).drop (n*9)=vT Xfg (xs.drop n):=XeF XhM xs n
def XdL (x:Xag):List Value:=[.int .i64 x.Tuple.Proto,.bool x.Tuple.Src.V6,.int .u64 x.Tuple.Src.Hi,.int .u64 x.Tuple.Src.Lo,.bool x.Tuple.Dst.V6,.int .u64 x.Tuple.Dst.Hi,.int .u64 x.Tuple.Dst.Lo,.int .i64 x.Tuple.SPort,.int .i64 x.Tuple.DPort,.int .i64 x.Flags,.bool x.Stamped,.int .u32 x.Val,.int .u32 x.Echo,.bool x.Long,.string ⟨⟨x.CID⟩⟩,.int .i64 x.Size]
theorem Xhk (x:Xag):(XdL x).length=16:=rfl
theorem Xe7 (x:Xag):Xbx.flatL (XdL x)=true:=rfl
theorem XcM (x:Xag):(XdL x).all Xge=true:=rfl
@[simp] theorem XsJ (xs:List Xag):(vT XdL xs).length=xs.length*16:=XfJ Xhk xs
@[simp] theorem XsK (xs:List Xag) (n:Nat):(vT XdL xs).take (n*16)=vT XdL (xs.take n):=XeK Xhk xs n
@[simp] theorem XsN (xs:List Xag) (n:Nat):(vT XdL xs).drop (n*16)=vT XdL (xs.drop n):=XeF Xhk xs n
def Xgw:List Value→Option Xag
 | [.int .i64 a1,.bool a2,.int .u64 a3,.int .u64 a4,.bool a5,.int .u64 a6,.int .u64 a7,.int .i64 a8,.int .i64 a9,.int .i64 a10,.bool a11,.int .u32 a12,.int .u32 a13,.bool a14,.string ⟨⟨a15⟩⟩,.int .i64 a16]=>some (Xag.mk (Xbt.mk a1 (Xaa.mk a2 a3 a4) (Xaa.mk a5 a6 a7) a8 a9) a10 a11 a12 a13 a14 a15 a16)
 | _=>none
theorem Xi6 (cs:List Value) (x:Xag) (h:Xgw cs=some x):cs=XdL x:=by
 unfold Xgw at h;split at h
 ·cases h;rfl
 ·cases h
theorem XjS (x:Xag):Xgw (XdL x)=some x:=rfl
def Xcw (x:Xap):List Value:=[.bool x.src.V6,.int .u64 x.src.Hi,.int .u64 x.src.Lo,.bool x.dst.V6,.int .u64 x.dst.Hi,.int .u64 x.dst.Lo,.int .i64 x.proto,.string ⟨⟨x.body⟩⟩]
theorem Xgf (x:Xap):(Xcw x).length=8:=rfl
theorem Xel (x:Xap):Xbx.flatL (Xcw x)=true:=rfl
theorem Xce (x:Xap):(Xcw x).all Xge=true:=rfl
@[simp] theorem XrF (xs:List Xap):(vT Xcw xs).length=xs.length*8:=XfJ Xgf xs
@[simp] theorem XqU (xs:List Xap) (n:Nat):(vT Xcw xs).take (n*8)=vT Xcw (xs.take n):=XeK Xgf xs n
@[simp] theorem Xrz (xs:List Xap) (n:Nat):(vT Xcw xs).drop (n*8)=vT Xcw (xs.drop n):=XeF Xgf xs n
def XhI:List Value→Option Xap
 | [.bool a1,.int .u64 a2,.int .u64 a3,.bool a4,.int .u64 a5,.int .u64 a6,.int .i64 a7,.string ⟨⟨a8⟩⟩]=>some (Xap.mk (Xaa.mk a1 a2 a3) (Xaa.mk a4 a5 a6) a7 a8)
 | _=>none
theorem Xk6 (cs:List Value) (x:Xap) (h:XhI cs=some x):cs=Xcw x:=by
 unfold XhI at h;split at h
 ·cases h;rfl
 ·cases h
def Xe4:Value→Option Xap
 | .agg ⟨cs⟩=>XhI cs
 | _=>none
theorem Xh4 (v:Value) (x:Xap) (h:Xe4 v=some x):v=.agg ⟨Xcw x⟩:=by
 unfold Xe4 at h;split at h
 ·rw [Xk6 _ _ h]
 ·cases h
theorem XiM (x:Xap):Xe4 (.agg ⟨Xcw x⟩)=some x:=rfl
def XcW (x:Xah):List Value:=[.int .i64 x.Class,.int .i64 x.Mark,.bool x.Whole,.int .i64 x.TTL,.int .i64 x.Proto,.bool x.Src.V6,.int .u64 x.Src.Hi,.int .u64 x.Src.Lo,.bool x.Dst.V6,.int .u64 x.Dst.Hi,.int .u64 x.Dst.Lo,.string ⟨⟨x.Options⟩⟩]
theorem XgD (x:Xah):(XcW x).length=12:=rfl
theorem XeS (x:Xah):Xbx.flatL (XcW x)=true:=rfl
theorem XcB (x:Xah):(XcW x).all Xge=true:=rfl
@[simp] theorem Xsl (xs:List Xah):(vT XcW xs).length=xs.length*12:=XfJ XgD xs
@[simp] theorem Xr0 (xs:List Xah) (n:Nat):(vT XcW xs).take (n*12)=vT XcW (xs.take n):=XeK XgD xs n
@[simp] theorem XrZ (xs:List Xah) (n:Nat):(vT XcW xs).drop (n*12)=vT XcW (xs.drop n):=XeF XgD xs n
def Xis:List Value→Option Xah
 | [.int .i64 a1,.int .i64 a2,.bool a3,.int .i64 a4,.int .i64 a5,.bool a6,.int .u64 a7,.int .u64 a8,.bool a9,.int .u64 a10,.int .u64 a11,.string ⟨⟨a12⟩⟩]=>some (Xah.mk a1 a2 a3 a4 a5 (Xaa.mk a6 a7 a8) (Xaa.mk a9 a10 a11) a12)
 | _=>none
theorem XlO (cs:List Value) (x:Xah) (h:Xis cs=some x):cs=XcW x:=by
 unfold Xis at h;split at h
 ·cases h;rfl
 ·cases h
def Xd2:Value→Option Xah
 | .agg ⟨cs⟩=>Xis cs
 | _=>none
theorem Xe8 (v:Value) (x:Xah) (h:Xd2 v=some x):v=.agg ⟨XcW x⟩:=by
 unfold Xd2 at h;split at h
 ·rw [XlO _ _ h]
 ·cases h
theorem XfI (x:Xah):Xd2 (.agg ⟨XcW x⟩)=some x:=rfl
def XcL (x:Xab):List Value:=[.string ⟨⟨x.s⟩⟩,.bool x.made,.bool x.bad]
theorem Xf2 (x:Xab):(XcL x).length=3:=rfl
theorem Xek (x:Xab):Xbx.flatL (XcL x)=true:=rfl
theorem Xcn (x:Xab):(XcL x).all Xge=true:=rfl
@[simp] theorem Xrk (xs:List Xab):(vT XcL xs).length=xs.length*3:=XfJ Xf2 xs
@[simp] theorem XqY (xs:List Xab) (n:Nat):(vT XcL xs).take (n*3)=vT XcL (xs.take n):=XeK Xf2 xs n
@[simp] theorem XrR (xs:List Xab) (n:Nat):(vT XcL xs).drop (n*3)=vT XcL (xs.drop n):=XeF Xf2 xs n
def XcJ:List Value→Option Xab
 | [.string ⟨⟨a1⟩⟩,.bool a2,.bool a3]=>some (Xab.mk a1 a2 a3)
 | _=>none
theorem Xdd (cs:List Value) (x:Xab) (h:XcJ cs=some x):cs=XcL x:=by
 unfold XcJ at h;split at h
 ·cases h;rfl
 ·cases h
theorem Xd9 (x:Xab):XcJ (XcL x)=some x:=rfl
def Xdk (x:Xaj):List Value:=[.int .i64 x.Class,.int .i64 x.Label,.int .i64 x.Next,.int .i64 x.Hop,.bool x.Src.V6,.int .u64 x.Src.Hi,.int .u64 x.Src.Lo,.bool x.Dst.V6,.int .u64 x.Dst.Hi,.int .u64 x.Dst.Lo]
theorem Xhf (x:Xaj):(Xdk x).length=10:=rfl
theorem Xe5 (x:Xaj):Xbx.flatL (Xdk x)=true:=rfl
theorem XcP (x:Xaj):(Xdk x).all Xge=true:=rfl
@[simp] theorem XsP (xs:List Xaj):(vT Xdk xs).length=xs.length*10:=XfJ Xhf xs
@[simp] theorem XsO (xs:List Xaj) (n:Nat):(vT Xdk xs).take (n*10)=vT Xdk (xs.take n):=XeK Xhf xs n
@[simp] theorem XsM (xs:List Xaj) (n:Nat):(vT Xdk xs).drop (n*10)=vT Xdk (xs.drop n):=XeF Xhf xs n
def Xjd:List Value→Option Xaj
 | [.int .i64 a1,.int .i64 a2,.int .i64 a3,.int .i64 a4,.bool a5,.int .u64 a6,.int .u64 a7,.bool a8,.int .u64 a9,.int .u64 a10]=>some (Xaj.mk a1 a2 a3 a4 (Xaa.mk a5 a6 a7) (Xaa.mk a8 a9 a10))
 | _=>none
theorem XmC (cs:List Value) (x:Xaj) (h:Xjd cs=some x):cs=Xdk x:=by
 unfold Xjd at h;split at h
 ·cases h;rfl
 ·cases h
def XeE:Value→Option Xaj
 | .agg ⟨cs⟩=>Xjd cs
 | _=>none
theorem XfM (v:Value) (x:Xaj) (h:XeE v=some x):v=.agg ⟨Xdk x⟩:=by
 unfold XeE at h;split at h
 ·rw [XmC _ _ h]
 ·cases h
theorem Xgn (x:Xaj):XeE (.agg ⟨Xdk x⟩)=some x:=rfl
def Xgr (x:XaF):List Value:=[.int .i64 x.SPort,.int .i64 x.DPort,.int .u32 x.Seq,.int .u32 x.Ack,.int .i64 x.Flags,.int .i64 x.Window,.int .i64 x.Urgent,.string ⟨⟨x.Options⟩⟩]
theorem Xiu (x:XaF):(Xgr x).length=8:=rfl
theorem Xgl (x:XaF):Xbx.flatL (Xgr x)=true:=rfl
theorem XdE (x:XaF):(Xgr x).all Xge=true:=rfl
@[simp] theorem XvX (xs:List XaF):(vT Xgr xs).length=xs.length*8:=XfJ Xiu xs
@[simp] theorem Xv2 (xs:List XaF) (n:Nat):(vT Xgr xs).take (n*8)=vT Xgr (xs.take n):=XeK Xiu xs n
@[simp] theorem XvW (xs:List XaF) (n:Nat):(vT Xgr xs).drop (n*8)=vT Xgr (xs.drop n):=XeF Xiu xs n
def Xgp (x:XbL):List Value:=[.int .i64 x.Kind,.string ⟨⟨x.Data⟩⟩]
theorem Xhz (x:XbL):(Xgp x).length=2:=rfl
theorem Xcb (x:XbL):Xbx.flatL (Xgp x)=true:=rfl
theorem XdY (x:XbL):(Xgp x).all Xge=true:=rfl
@[simp] theorem Xy5 (xs:List XbL):(vT Xgp xs).length=xs.length*2:=XfJ Xhz xs
@[simp] theorem Xx6 (xs:List XbL) (n:Nat):(vT Xgp xs).take (n*2)=vT Xgp (xs.take n):=XeK Xhz xs n
@[simp] theorem Xyy (xs:List XbL) (n:Nat):(vT Xgp xs).drop (n*2)=vT Xgp (xs.drop n):=XeF Xhz xs n
def Xgv (x:XaC):List Value:=[.int .i64 x.SPort,.int .i64 x.DPort]
theorem XgL (x:XaC):(Xgv x).length=2:=rfl
theorem Xgh (x:XaC):Xbx.flatL (Xgv x)=true:=rfl
theorem Xdw (x:XaC):(Xgv x).all Xge=true:=rfl
@[simp] theorem Xwf (xs:List XaC):(vT Xgv xs).length=xs.length*2:=XfJ XgL xs
@[simp] theorem Xv9 (xs:List XaC) (n:Nat):(vT Xgv xs).take (n*2)=vT Xgv (xs.take n):=XeK XgL xs n
@[simp] theorem Xwj (xs:List XaC) (n:Nat):(vT Xgv xs).drop (n*2)=vT Xgv (xs.drop n):=XeF XgL xs n
def Xfp (x:XaR):List Value:=[.bool x.Long,.int .i64 x.Bits,.int .u32 x.Version,.string ⟨⟨x.DCID⟩⟩,.string ⟨⟨x.SCID⟩⟩,.string ⟨⟨x.Rest⟩⟩]
theorem XhJ (x:XaR):(Xfp x).length=6:=rfl
theorem XfD (x:XaR):Xbx.flatL (Xfp x)=true:=rfl
theorem Xdb (x:XaR):(Xfp x).all Xge=true:=rfl
@[simp] theorem XvT (xs:List XaR):(vT Xfp xs).length=xs.length*6:=XfJ XhJ xs
@[simp] theorem Xvn (xs:List XaR) (n:Nat):(vT Xfp xs).take (n*6)=vT Xfp (xs.take n):=XeK XhJ xs n
@[simp] theorem Xvz (xs:List XaR) (n:Nat):(vT Xfp xs).drop (n*6)=vT Xfp (xs.drop n):=XeF XhJ xs n
def Xcx (x:Xaf):List Value:=[.int .i64 x.Kind,.int .i64 x.Code,.int .i64 x.MTU,.string ⟨⟨x.Quote⟩⟩]
theorem Xgg (x:Xaf):(Xcx x).length=4:=rfl
theorem Xem (x:Xaf):Xbx.flatL (Xcx x)=true:=rfl
theorem Xcj (x:Xaf):(Xcx x).all Xge=true:=rfl
@[simp] theorem Xq2 (xs:List Xaf):(vT Xcx xs).length=xs.length*4:=XfJ Xgg xs
@[simp] theorem Xro (xs:List Xaf) (n:Nat):(vT Xcx xs).take (n*4)=vT Xcx (xs.take n):=XeK Xgg xs n
@[simp] theorem XrB (xs:List Xaf) (n:Nat):(vT Xcx xs).drop (n*4)=vT Xcx (xs.drop n):=XeF Xgg xs n
def XhH:List Value→Option Xaf
 | [.int .i64 a1,.int .i64 a2,.int .i64 a3,.string ⟨⟨a4⟩⟩]=>some (Xaf.mk a1 a2 a3 a4)
 | _=>none
theorem Xlt (cs:List Value) (x:Xaf) (h:XhH cs=some x):cs=Xcx x:=by
 unfold XhH at h;split at h
 ·cases h;rfl
 ·cases h
def XcH:Value→Option Xaf
 | .agg ⟨cs⟩=>XhH cs
 | _=>none
theorem Xdh (v:Value) (x:Xaf) (h:XcH v=some x):v=.agg ⟨Xcx x⟩:=by
 unfold XcH at h;split at h
 ·rw [Xlt _ _ h]
 ·cases h
theorem Xdu (x:Xaf):XcH (.agg ⟨Xcx x⟩)=some x:=rfl
def Xgs (x:Xd6):List Value:=[.int .i64 x.e0,.int .i64 x.e1]
theorem Xiq (x:Xd6):(Xgs x).length=2:=rfl
theorem Xgk (x:Xd6):Xbx.flatL (Xgs x)=true:=rfl
theorem Xdz (x:Xd6):(Xgs x).all Xge=true:=rfl
@[simp] theorem XvZ (xs:List Xd6):(vT Xgs xs).length=xs.length*2:=XfJ Xiq xs
@[simp] theorem Xv7 (xs:List Xd6) (n:Nat):(vT Xgs xs).take (n*2)=vT Xgs (xs.take n):=XeK Xiq xs n
@[simp] theorem Xv8 (xs:List Xd6) (n:Nat):(vT Xgs xs).drop (n*2)=vT Xgs (xs.drop n):=XeF Xiq xs n
def Xda (x:Xbh):List Value:=[.int .i64 x.e0.e0,.int .i64 x.e0.e1,.int .i64 x.e1.e0,.int .i64 x.e1.e1,.int .i64 x.e2.e0,.int .i64 x.e2.e1,.int .i64 x.e3.e0,.int .i64 x.e3.e1]
theorem XfT (x:Xbh):(Xda x).length=8:=rfl
theorem Xd3 (x:Xbh):Xbx.flatL (Xda x)=true:=rfl
theorem Xb3 (x:Xbh):(Xda x).all Xge=true:=rfl
@[simp] theorem XqB (xs:List Xbh):(vT Xda xs).length=xs.length*8:=XfJ XfT xs
@[simp] theorem XqH (xs:List Xbh) (n:Nat):(vT Xda xs).take (n*8)=vT Xda (xs.take n):=XeK XfT xs n
@[simp] theorem Xqa (xs:List Xbh) (n:Nat):(vT Xda xs).drop (n*8)=vT Xda (xs.drop n):=XeF XfT xs n
def Xbn (x:XbE):List Value:=[.string ⟨⟨x.msg⟩⟩,.int .u64 x.addr]
theorem XcD (x:XbE):(Xbn x).length=2:=rfl
theorem XbX (x:XbE):Xbx.flatL (Xbn x)=true:=rfl
theorem Xa7 (x:XbE):(Xbn x).all Xge=true:=rfl
@[simp] theorem Xk1 (xs:List XbE):(vT Xbn xs).length=xs.length*2:=XfJ XcD xs
@[simp] theorem XkY (xs:List XbE) (n:Nat):(vT Xbn xs).take (n*2)=vT Xbn (xs.take n):=XeK XcD xs n
@[simp] theorem Xk2 (xs:List XbE) (n:Nat):(vT Xbn xs).drop (n*2)=vT Xbn (xs.drop n):=XeF XcD xs n
def Xgu (x:Xb9):List Value:=[.bool x.src.V6,.int .u64 x.src.Hi,.int .u64 x.src.Lo,.bool x.dst.V6,.int .u64 x.dst.Hi,.int .u64 x.dst.Lo,.int .i64 x.proto,.int .i64 x.size,.string ⟨⟨x.body⟩⟩]
theorem XiK (x:Xb9):(Xgu x).length=9:=rfl
theorem Xgq (x:Xb9):Xbx.flatL (Xgu x)=true:=rfl
theorem XdF (x:Xb9):(Xgu x).all Xge=true:=rfl
@[simp] theorem Xwi (xs:List Xb9):(vT Xgu xs).length=xs.length*9:=XfJ XiK xs
@[simp] theorem Xwe (xs:List Xb9) (n:Nat):(vT Xgu xs).take (n*9)=vT Xgu (xs.take n):=XeK XiK xs n
@[simp] theorem Xv6 (xs:List Xb9) (n:Nat):(vT Xgu xs).drop (n*9)=vT Xgu (xs.drop n):=XeF XiK xs n
def XfQ (x:XbD):List Value:=[.int .i64 x.Kind,.string ⟨⟨x.Data⟩⟩,.int .i64 x.At]
theorem Xdy (x:XbD):(XfQ x).length=3:=rfl
theorem Xct (x:XbD):Xbx.flatL (XfQ x)=true:=rfl
theorem Xd1 (x:XbD):(XfQ x).all Xge=true:=rfl
@[simp] theorem Xw8 (xs:List XbD):(vT XfQ xs).length=xs.length*3:=XfJ Xdy xs
@[simp] theorem Xyk (xs:List XbD) (n:Nat):(vT XfQ xs).take (n*3)=vT XfQ (xs.take n):=XeK Xdy xs n
@[simp] theorem XxF (xs:List XbD) (n:Nat):(vT XfQ xs).drop (n*3)=vT XfQ (xs.drop n):=XeF Xdy xs n
def XfG (k:Nat):Value→List (Option (List Value))→Option Xbr
 | .agg ⟨[.pointer (some ⟨k0,0,none⟩)]⟩,[some c0]=>match XcJ c0 with|some x0=>(if k0=k+0 then some (Xbr.mk x0) else none)|none=>none
 | _,_=>none
theorem Xku {k:Nat} {v:Value} {cs:List (Option (List Value))} {x:Xbr} (h:XfG k v cs=some x):v=.agg ⟨[.pointer (some ⟨k+0,0,none⟩)]⟩∧cs=[some [.string ⟨⟨x.Reader.s⟩⟩,.bool x.Reader.made,.bool x.Reader.bad]]:=by
 unfold XfG at h;split at h<;>try (cases h;done)
 split at h<;>try (cases h;done)
 rename_i x0 e0
 split at h<;>cases h
 rename_i hk
 subst hk
 obtain rfl:=Xdd _ _ e0
 exact ⟨rfl,rfl⟩
theorem Xlg (k:Nat) (x:Xbr):XfG k (.agg ⟨[.pointer (some ⟨k+0,0,none⟩)]⟩) [some [.string ⟨⟨x.Reader.s⟩⟩,.bool x.Reader.made,.bool x.Reader.bad]]=some x:=by
 show (if k+0=k+0 then some x else none)=_
 simp
theorem Xkm {P:Program} {f base fn nt:Nat} {e e':Env} {todo todo':List Xeh} {ds ds':List Nat} {ret:Bool} {up up':List Xbi} {H H':Hp} {top top':Nat} {R:Value→Hp→Nat→Prop}
 (h:XaD P f base ⟨⟨fn,nt,e',todo',ds',ret,none⟩,up',H',top'⟩ R) (m:List (Nat×Nat)) (hc:Xwd base top' m=true) (he:reE (Xar m) e e':=by repeat' first|exact trivial|refine ⟨⟨_,rfl,rfl⟩,?_⟩|refine ⟨⟨_,_,rfl,rfl,.rowF (XhN _ _) id⟩,?_⟩|refine ⟨⟨_,_,rfl,rfl,.rowF (Xn5 _) id⟩,?_⟩|refine ⟨⟨_,_,rfl,rfl,.rowF (XnV _) id⟩,?_⟩|refine ⟨⟨_,_,rfl,rfl,.rowF (Xml (by first|exact Xgj|exact XfE|exact Xe7|exact Xel|exact XeS|exact Xek|exact Xe5|exact Xgl|exact Xcb|exact Xgh|exact XfD|exact Xem|exact Xgk|exact Xd3|exact XbX|exact Xgq|exact Xct) _) id⟩,?_⟩|refine ⟨⟨_,_,rfl,rfl,.tyF (XhN _ _)⟩,?_⟩|refine ⟨⟨_,_,rfl,rfl,.ty rfl⟩,?_⟩|refine ⟨⟨_,_,rfl,rfl,.cells rfl⟩,?_⟩|refine ⟨⟨_,_,rfl,rfl,.row rfl id⟩,?_⟩|refine ⟨⟨_,_,rfl,rfl,.cr rfl⟩,?_⟩|refine ⟨⟨_,_,rfl,rfl,.rc rfl⟩,?_⟩|refine ⟨⟨_,_,rfl,rfl,.marks⟩,?_⟩|refine ⟨⟨_,_,rfl,rfl,.siter _ _⟩,?_⟩|refine ⟨⟨_,_,rfl,rfl,.loop rfl rfl rfl rfl (by repeat' first|exact trivial|refine ⟨rfl,?_⟩) rfl rfl rfl rfl⟩,?_⟩) (hH:reH (Xar m) H H':=by repeat' first|exact trivial|refine ⟨⟨_,rfl,rfl⟩,?_⟩|refine ⟨⟨_,_,rfl,rfl,.rowF (XhN _ _) id⟩,?_⟩|refine ⟨⟨_,_,rfl,rfl,.rowF (Xn5 _) id⟩,?_⟩|refine ⟨⟨_,_,rfl,rfl,.rowF (XnV _) id⟩,?_⟩|refine ⟨⟨_,_,rfl,rfl,.rowF (Xml (by first|exact Xgj|exact XfE|exact Xe7|exact Xel|exact XeS|exact Xek|exact Xe5|exact Xgl|exact Xcb|exact Xgh|exact XfD|exact Xem|exact Xgk|exact Xd3|exact XbX|exact Xgq|exact Xct) _) id⟩,?_⟩|refine ⟨⟨_,_,rfl,rfl,.tyF (XhN _ _)⟩,?_⟩|refine ⟨⟨_,_,rfl,rfl,.ty rfl⟩,?_⟩|refine ⟨⟨_,_,rfl,rfl,.cells rfl⟩,?_⟩|refine ⟨⟨_,_,rfl,rfl,.row rfl id⟩,?_⟩|refine ⟨⟨_,_,rfl,rfl,.cr rfl⟩,?_⟩|refine ⟨⟨_,_,rfl,rfl,.rc rfl⟩,?_⟩|refine ⟨⟨_,_,rfl,rfl,.marks⟩,?_⟩|refine ⟨⟨_,_,rfl,rfl,.siter _ _⟩,?_⟩|refine ⟨⟨_,_,rfl,rfl,.loop rfl rfl rfl rfl (by repeat' first|exact trivial|refine ⟨rfl,?_⟩) rfl rfl rfl rfl⟩,?_⟩)
 (ht:Xyu (Xar m) todo'=some todo:=by rfl) (hd:Xxs (Xar m) ds'=some ds:=by rfl) (hu:reU (Xar m) up up':=by trivial) :
 XaD P f base ⟨⟨fn,nt,e,todo,ds,ret,none⟩,up,H,top⟩ R:=XaD.re h m hc he hH ht hd hu
theorem XxQ {P:Program} {f base fn nt:Nat} {e e':Env} {todo todo':List Xeh} {ds ds':List Nat} {ret:Bool} {up up':List Xbi} {H H':Hp} {top top':Nat} {R:Value→Hp→Nat→Prop}
 (h:XaD P f base ⟨⟨fn,nt,e',todo',ds',ret,none⟩,up',H',top'⟩ R) (m:List (Nat×Nat)) (hc:Xwd base top' m=true) (he:reE (Xar m) e e':=by repeat' first|exact trivial|refine ⟨⟨_,rfl,rfl⟩,?_⟩|refine ⟨⟨_,_,rfl,rfl,.rowF (XhN _ _) id⟩,?_⟩|refine ⟨⟨_,_,rfl,rfl,.rowF (Xn5 _) id⟩,?_⟩|refine ⟨⟨_,_,rfl,rfl,.rowF (XnV _) id⟩,?_⟩|refine ⟨⟨_,_,rfl,rfl,.rowF (Xml (by first|exact Xgj|exact XfE|exact Xe7|exact Xel|exact XeS|exact Xek|exact Xe5|exact Xgl|exact Xcb|exact Xgh|exact XfD|exact Xem|exact Xgk|exact Xd3|exact XbX|exact Xgq|exact Xct) _) id⟩,?_⟩|refine ⟨⟨_,_,rfl,rfl,.tyF (XhN _ _)⟩,?_⟩|refine ⟨⟨_,_,rfl,rfl,.ty rfl⟩,?_⟩|refine ⟨⟨_,_,rfl,rfl,.cells rfl⟩,?_⟩|refine ⟨⟨_,_,rfl,rfl,.row rfl id⟩,?_⟩|refine ⟨⟨_,_,rfl,rfl,.cr rfl⟩,?_⟩|refine ⟨⟨_,_,rfl,rfl,.rc rfl⟩,?_⟩|refine ⟨⟨_,_,rfl,rfl,.marks⟩,?_⟩|refine ⟨⟨_,_,rfl,rfl,.siter _ _⟩,?_⟩|refine ⟨⟨_,_,rfl,rfl,.loop rfl rfl rfl rfl (by repeat' first|exact trivial|refine ⟨rfl,?_⟩) rfl rfl rfl rfl⟩,?_⟩) (hH:reH (Xar m) H H':=by repeat' first|exact trivial|refine ⟨⟨_,rfl,rfl⟩,?_⟩|refine ⟨⟨_,_,rfl,rfl,.rowF (XhN _ _) id⟩,?_⟩|refine ⟨⟨_,_,rfl,rfl,.rowF (Xn5 _) id⟩,?_⟩|refine ⟨⟨_,_,rfl,rfl,.rowF (XnV _) id⟩,?_⟩|refine ⟨⟨_,_,rfl,rfl,.rowF (Xml (by first|exact Xgj|exact XfE|exact Xe7|exact Xel|exact XeS|exact Xek|exact Xe5|exact Xgl|exact Xcb|exact Xgh|exact XfD|exact Xem|exact Xgk|exact Xd3|exact XbX|exact Xgq|exact Xct) _) id⟩,?_⟩|refine ⟨⟨_,_,rfl,rfl,.tyF (XhN _ _)⟩,?_⟩|refine ⟨⟨_,_,rfl,rfl,.ty rfl⟩,?_⟩|refine ⟨⟨_,_,rfl,rfl,.cells rfl⟩,?_⟩|refine ⟨⟨_,_,rfl,rfl,.row rfl id⟩,?_⟩|refine ⟨⟨_,_,rfl,rfl,.cr rfl⟩,?_⟩|refine ⟨⟨_,_,rfl,rfl,.rc rfl⟩,?_⟩|refine ⟨⟨_,_,rfl,rfl,.marks⟩,?_⟩|refine ⟨⟨_,_,rfl,rfl,.siter _ _⟩,?_⟩|refine ⟨⟨_,_,rfl,rfl,.loop rfl rfl rfl rfl (by repeat' first|exact trivial|refine ⟨rfl,?_⟩) rfl rfl rfl rfl⟩,?_⟩)
 (ht:Xyu (Xar m) todo'=some todo:=by rfl) (hd:Xxs (Xar m) ds'=some ds:=by rfl) (hu:reU (Xar m) up up':=by repeat' first|exact trivial|refine ⟨⟨rfl,rfl,rfl,rfl,rfl,?_,rfl,rfl⟩,?_⟩|refine ⟨⟨_,rfl,rfl⟩,?_⟩) :
 XaD P f base ⟨⟨fn,nt,e,todo,ds,ret,none⟩,up,H,top⟩ R:=XaD.re h m hc he hH ht hd hu
def XfR (n1:Int):Option (Sum Int Int):=
 cond (decide (n1>65535))
  (
  let t:=wI .i64 ((XjC .i64 n1 65535)+(n1.fdiv (2^16)))
  some (.inl t))
  (
  some (.inr (n1)))
def XfZ (n:Int):Option Int:=
 iter (fun st=>XfR st) FUEL n
def Xr7 (x:Int):Xco:=⟨.int .i64 x,[],[]⟩
def r128 (g:Int→Option Int):Dec:=dV (asI .i64) fun (y0:Int)=>Xc4 (ofG (g y0) Xr7)
theorem XSg {g:Int→Option Int} {y0:Int} {x:Int} (hx:g y0=some x):r128 g [.int .i64 y0] []=some (Xr7 x):=(XaS (XcI _)).trans (XaZ hx)
def s128 (g:Int→Option Int):Xbp:=⟨[.v],r128 g⟩
theorem Xt8 {g:Int→Option Int} {y0:Int} {x:Int} (hx:g y0=some x):(s128 g).run [.int .i64 y0] []=some (Xr7 x):=XSg hx
abbrev Xp5:List (Nat×Xbp):=[]
def XiZ (n1:Int):VM:=
 ⟨⟨128,11,[(0,.int .i64 n1)],[.code Xuy,.inLoop Xuy,.inBlock 0,.code Xti],[],false,none⟩,[],[],0⟩
theorem Xun (hS:Xai Tryz.prog (Xar (Xp5))) (res:Int):∀ fuel (st:Int) (o:Int),iter (fun st=>XfR st) fuel st=some o→(o=res) →
 XaD Tryz.prog 128 0 (XiZ st) (fun v H _=>Res 0 (Xr7 res) v H):=by
 intro fuel st o h hc
 refine Xcm (head:=fun st=>XiZ st) (C:=fun o=>(o=res)) ?_ fuel st o h hc
 clear h hc o st fuel
 intro n1 o h hc
 replace h:XfR n1=some o:=h
 show XaD Tryz.prog 128 0 (XiZ n1) (fun v H _=>Res 0 (Xr7 res) v H)
 unfold XfR at h
 refine Xa9 Xam hS true 3000 ?_
 conv=>whnf
 refine br.h2 h ?_ ?_ ?_
 ·rfl
 ·clear h;intro hb h;conv=>whnf
  all_goals (cases h;cases hc;exact Res.z rfl rfl rfl)
 clear h;intro hb h;conv=>whnf
 let t:Int:=wI .i64 ((XjC .i64 n1 65535)+(n1.fdiv (2^16)))
 cases h;simp only [Sum.elim_inl,XiZ] at hc
 exact Xkm hc [] rfl
theorem XxC (hS:Xai Tryz.prog (Xar (Xp5))) (n:Int) (res:Int) (h:XfZ n=some res) :
 XaD Tryz.prog 128 0 ⟨⟨128,11,[(0,.int .i64 n)],[.code Xtq],[],false,none⟩,[],[],0⟩ (fun v H _=>Res 0 (Xr7 res) v H):=by
 unfold XfZ at h
 refine Xa9 Xam hS true 3000 ?_
 conv=>whnf
 have hl:=Xun hS res _ _ _ h rfl;simp only [XiZ] at hl
 exact Xkm hl [] rfl
theorem ok128 (hS:Xai Tryz.prog (Xar (Xp5))):Xan Tryz.prog 128 (s128 (XfZ)):=by
 refine Xan.Xau Xam (fun ar os r ha hr=>?_) ⟨Tryz.f128,rfl,by decide,rfl⟩
 replace hr:r128 (XfZ) ar (XaA os)=some r:=hr
 unfold r128 at hr
 generalize hc:XaA os=C at hr
 replace hr:=dV.elim hr;obtain ⟨v0,l1,y0,rfl,e0,hr⟩:=hr;obtain rfl:=XbO _ _ _ e0
 replace hr:=Xdf hr;obtain ⟨rfl,rfl,x,h,rfl⟩:=hr
 obtain rfl:=Xao hc
 exact ⟨_,rfl,XxC hS _ x h⟩
def XbB:Int→Option Int:=XfZ
theorem XDr:Xan Tryz.prog 128 (s128 XbB):=ok128 (Xai.XaW trivial)
def Xfh (XbB:Int→Option Int) (s:List UInt8) (xat:Int) (n:Int):Option (Sum (Int×Int) Int):=
 cond (decide (xat<(s.length:Int)))
  (
  XaK (decide (0≤xat)) <|
  (s[xat.toNat]?).bind fun (b:UInt8)=>
  let t:=wI .i64 ((wI .i64 (b.toNat:Int))*2^8)
  let t1:=decide ((wI .i64 (xat+1))<(s.length:Int))
  cond (t1)
   (
   XaK (decide (0≤(wI .i64 (xat+1)))) <|
   (s[(wI .i64 (xat+1)).toNat]?).bind fun (b1:UInt8)=>
   let t2:=wI .i64 (n+(Xkl .i64 t (wI .i64 (b1.toNat:Int))))
   (XbB t2).bind fun f=>
   some (.inl (wI .i64 (xat+2),f)))
   (
   (XbB (wI .i64 (n+t))).bind fun f1=>
   some (.inl (wI .i64 (xat+2),f1))))
  (
  some (.inr (n)))
def Xg6 (XbB:Int→Option Int) (s:List UInt8):Option Int:=
 iter (fun st=>Xfh XbB s st.1 st.2) FUEL (0,0)
def Xsi (x:Int):Xco:=⟨.int .i64 x,[],[]⟩
def r112 (g:(List UInt8)→Option Int):Dec:=dV asS fun (y0:List UInt8)=>Xc4 (ofG (g y0) Xsi)
theorem XSj {g:(List UInt8)→Option Int} {y0:List UInt8} {x:Int} (hx:g y0=some x):r112 g [.string ⟨⟨y0⟩⟩] []=some (Xsi x):=(XaS (XdJ)).trans (XaZ hx)
def X3d (g:(List UInt8)→Option Int):Xbp:=⟨[.v],r112 g⟩
theorem Xu7 {g:(List UInt8)→Option Int} {y0:List UInt8} {x:Int} (hx:g y0=some x):(X3d g).run [.string ⟨⟨y0⟩⟩] []=some (Xsi x):=XSj hx
abbrev Xqf (XbB:Int→Option Int):List (Nat×Xbp):=[(128,s128 XbB)]
def Xik (s:List UInt8) (xat:Int) (n:Int):VM:=
 ⟨⟨126,32,[(0,.func (.yield 3) #[] #[]),(1,.pointer (some ⟨1,0,none⟩)),(3,.int .i64 xat)],[.code Xqk,.inLoop Xqk,.inBlock 0],[],false,none⟩,[⟨112,13,[(3,.pointer (some ⟨0,0,none⟩))],[.inRangeFunc 3,.inBlock 0,.code XuF],[2],false,none⟩],[(0,.cells [.int .i64 n]),(1,.cells [.string ⟨⟨s⟩⟩]),(2,.marks),(3,.loop ⟨.ready,none,112,13,[(3,.pointer (some ⟨0,0,none⟩))],[7],Xzq,XBx,2⟩)],4⟩
theorem Xuq (XbB:Int→Option Int) (hS:Xai Tryz.prog (Xar (Xqf XbB))) (s:List UInt8) (res:Int):∀ fuel (st:Int×Int) (o:Int),iter (fun st=>Xfh XbB s st.1 st.2) fuel st=some o→(o=res) →
 XaD Tryz.prog 112 0 (Xik s st.1 st.2) (fun v H _=>Res 0 (Xsi res) v H):=by
 intro fuel st o h hc
 refine Xcm (head:=fun st=>Xik s st.1 st.2) (C:=fun o=>(o=res)) ?_ fuel st o h hc
 clear h hc o st fuel
 intro st o h hc
 obtain ⟨xat,n⟩:=st
 replace h:Xfh XbB s xat n=some o:=h
 show XaD Tryz.prog 112 0 (Xik s xat n) (fun v H _=>Res 0 (Xsi res) v H)
 unfold Xfh at h
 refine Xa9 Xam hS true 3000 ?_
 conv=>whnf
 refine br.h2 h ?_ ?_ ?_
 ·rfl
 ·clear h;intro hb h;conv=>whnf
  all_goals (cases h;cases hc;exact Res.z rfl rfl rfl)
 clear h;intro hb h;conv=>whnf
 replace h:=XaK.elim h;obtain ⟨hb,h⟩:=h
 first|(refine req.intro hb ?_;conv=>whnf)|skip
 replace h:=Xak.elim h;obtain ⟨b,hy,h⟩:=h
 refine rdS.intro hy ?_
 conv=>whnf
 let t:Int:=wI .i64 ((wI .i64 (b.toNat:Int))*2^8)
 let t1:Bool:=decide ((wI .i64 (xat+1))<(s.length:Int))
 refine br.h2 h ?_ ?_ ?_
 ·rfl
 ·clear h;intro hb h;conv=>whnf
  replace h:=Xak.elim h;obtain ⟨f1,hy,h⟩:=h
  refine XaG.q rfl rfl (Xt8 hy) rfl rfl rfl ?_
  conv=>whnf
  cases h;simp only [Sum.elim_inl,Xik] at hc
  exact XxQ hc [(0,0),(1,1),(2,2),(3,3)] rfl
 clear h;intro hb h;conv=>whnf
 replace h:=XaK.elim h;obtain ⟨hb,h⟩:=h
 first|(refine req.intro hb ?_;conv=>whnf)|skip
 replace h:=Xak.elim h;obtain ⟨b1,hy,h⟩:=h
 refine rdS.intro hy ?_
 conv=>whnf
 let t2:Int:=wI .i64 (n+(Xkl .i64 t (wI .i64 (b1.toNat:Int))))
 replace h:=Xak.elim h;obtain ⟨f,hy,h⟩:=h
 refine XaG.q rfl rfl (Xt8 hy) rfl rfl rfl ?_
 conv=>whnf
 cases h;simp only [Sum.elim_inl,Xik] at hc
 exact XxQ hc [(0,0),(1,1),(2,2),(3,3)] rfl
theorem Xwx (XbB:Int→Option Int) (hS:Xai Tryz.prog (Xar (Xqf XbB))) (s:List UInt8) (res:Int) (h:Xg6 XbB s=some res) :
 XaD Tryz.prog 112 0 ⟨⟨112,13,[(0,.string ⟨⟨s⟩⟩)],[.code XuL],[],false,none⟩,[],[],0⟩ (fun v H _=>Res 0 (Xsi res) v H):=by
 unfold Xg6 at h
 refine Xa9 Xam hS true 3000 ?_
 conv=>whnf
 have hl:=Xuq XbB hS _ res _ _ _ h rfl;simp only [Xik] at hl
 exact XxQ hl [(0,0),(1,1),(2,2),(3,3)] rfl
theorem ok112 (XbB:Int→Option Int) (hS:Xai Tryz.prog (Xar (Xqf XbB))):Xan Tryz.prog 112 (X3d (Xg6 XbB)):=by
 refine Xan.Xau Xam (fun ar os r ha hr=>?_) ⟨Tryz.f112,rfl,by decide,rfl⟩
 replace hr:r112 (Xg6 XbB) ar (XaA os)=some r:=hr
 unfold r112 at hr
 generalize hc:XaA os=C at hr
 replace hr:=dV.elim hr;obtain ⟨v0,l1,y0,rfl,e0,hr⟩:=hr;obtain rfl:=Xb7 _ _ e0
 replace hr:=Xdf hr;obtain ⟨rfl,rfl,x,h,rfl⟩:=hr
 obtain rfl:=Xao hc
 exact ⟨_,rfl,Xwx XbB hS _ x h⟩
def Xby:(List UInt8)→Option Int:=Xg6 XbB
theorem Xtc:Xan Tryz.prog 112 (X3d Xby):=ok112 XbB (Xai.XaW ⟨XDr,trivial⟩)
end Go.Vm.Code
namespace Go.Vm.Code
open Go Go.Vm
def Xgz:List UInt8→Nat
 | []=>0
 | [b]=>b.toNat*256
 | b::c::l=>b.toNat*256+c.toNat+Xgz l
def norm (n:Nat):Nat:=if n=0 then 0 else (n - 1)%65535+1
theorem norm_eq {n r:Nat} (h1:r≤65535) (h2:r%65535=n%65535) (h3:r=0↔n=0):norm n=r:=by unfold norm;split<;>omega
theorem norm_le (n:Nat):norm n≤65535:=by unfold norm;split<;>omega
theorem Xl8 (n:Nat):norm n%65535=n%65535:=by unfold norm;split<;>omega
theorem XkB (n:Nat):norm n=0↔n=0:=by unfold norm;split<;>omega
theorem XmT {n:Nat} (h:n≤65535):norm n=n:=norm_eq h rfl Iff.rfl
theorem Xrw (a b:Nat):norm (norm a+b)=norm (a+b):=
 (norm_eq (norm_le _) (by have h1:=Xl8 a;have h2:=Xl8 (norm a+b);omega) (by have h1:=XkB a;have h2:=XkB (norm a+b);omega)).symm
theorem fold_eq {n:Int} (h0:0≤n) (h1:n<2^62):XbB n=some ((norm n.toNat:Nat):Int):=by
 unfold XbB XfZ
 refine iter_eq (fun n=>((norm n.toNat:Nat):Int)) (fun n=>0≤n∧n<2^62) (fun n=>n.toNat) ?_ FUEL _ ⟨h0,h1⟩ (by rw [XeV];omega)
 intro s ⟨a,b⟩
 unfold XfR
 by_cases hs:s>65535
 ·refine .inr ⟨s%65536+s/65536,?_,⟨by omega,by omega⟩,by omega,?_⟩
  ·rw [XaV hs,Xho (m:=65535) 16 (by decide) (by decide) a (by omega),XoJ,XcC (by omega) (by omega)];rfl
  ·have:norm (s%65536+s/65536).toNat=norm s.toNat:=
    (norm_eq (norm_le _) (by have:=Xl8 (s%65536+s/65536).toNat;omega) (by have:=XkB (s%65536+s/65536).toNat;omega)).symm
   rw [this]
 ·refine .inl ?_
  rw [XaM hs]
  have:=XmT (n:=s.toNat) (by omega)
  simp only [this]
  rw [Int.toNat_of_nonneg a]
theorem XxD {s:List UInt8} {i:Nat} (h:i+1<s.length):Xgz (s.drop i)=s[i].toNat*256+s[i+1].toNat+Xgz (s.drop (i+2)):=by
 rw [List.drop_eq_getElem_cons (by omega:i<s.length),List.drop_eq_getElem_cons h];rfl
theorem Xx7 {s:List UInt8} {i:Nat} (h:i+1=s.length):Xgz (s.drop i)=s[i].toNat*256:=by
 rw [List.drop_eq_getElem_cons (by omega:i<s.length),List.drop_eq_nil_of_le (by omega)];rfl
theorem Xpb {s:List UInt8} {i:Nat} (h:s.length≤i):Xgz (s.drop i)=0:=by
 rw [List.drop_eq_nil_of_le h];rfl
theorem XzG (s:List UInt8) (h:s.length<2^61):Xby s=some ((norm (Xgz s):Nat):Int):=by
 unfold Xby Xg6
 have key:=iter_eq (step:=fun (st:Int×Int)=>Xfh XbB s st.1 st.2) (fun (st:Int×Int)=>((norm (st.2.toNat+Xgz (s.drop st.1.toNat)):Nat):Int)) (fun (st:Int×Int)=>0≤st.1∧st.1≤s.length+1∧0≤st.2∧st.2≤65535) (fun (st:Int×Int)=>(s.length+2 - st.1).toNat) ?_ FUEL (0,0) ⟨by simp,by simp;omega,by simp,by simp⟩ (by rw [XeV];simp only;omega)
 ·rw [key];simp
 rintro ⟨p,n⟩ ⟨h1,h2,h3,h4⟩
 simp only at h1 h2 h3 h4 ⊢
 obtain ⟨i,rfl⟩:=Int.eq_ofNat_of_zero_le h1
 obtain ⟨m,rfl⟩:=Int.eq_ofNat_of_zero_le h3
 unfold Xfh
 by_cases hp:i<s.length
 ·by_cases hq:i+1<s.length
  ·have b1:=s[i].toNat_lt
   have b2:=s[i+1].toNat_lt
   refine .inr ⟨(((i+2:Nat):Int),((norm (m+(s[i].toNat*256+s[i+1].toNat)):Nat):Int)),?_,⟨by simp only;omega,by simp only;omega,by simp only;omega,by simp only;have:=norm_le (m+(s[i].toNat*256+s[i+1].toNat));omega⟩,by simp only;omega,?_⟩
   ·simp (disch:=omega) only [XcC,Xaz,XaV]
    have e:((i:Int)+1).toNat=i+1:=by omega
    rw [e]
    simp (disch:=omega) only [Int.toNat_natCast,List.getElem?_eq_getElem,Option.bind_some,Xm7,XcC,fold_eq]
    congr 3<;>omega
   ·simp only [Int.toNat_natCast]
    rw [Xrw,XxD hq,Nat.add_assoc]
  ·have b1:=s[i].toNat_lt
   refine .inr ⟨(((i+2:Nat):Int),((norm (m+s[i].toNat*256):Nat):Int)),?_,⟨by simp only;omega,by simp only;omega,by simp only;omega,by simp only;have:=norm_le (m+s[i].toNat*256);omega⟩,by simp only;omega,?_⟩
   ·simp (disch:=omega) only [XcC,Xaz,XaV,XaM,Int.toNat_natCast,List.getElem?_eq_getElem,Option.bind_some,fold_eq]
    congr 3<;>omega
   ·simp only [Int.toNat_natCast]
    rw [Xrw,Xpb (i:=i+2) (by omega),Nat.add_zero,Xx7 (i:=i) (by omega)]
 ·refine .inl ?_
  simp (disch:=omega) only [XaM]
  simp only [Int.toNat_natCast]
  rw [Xpb (by omega),Nat.add_zero,XmT (by omega)]
end Go.Vm.Code
namespace Go.Vm
open Go
def be (n:Nat):Nat→List UInt8
 | 0=>[]
 | r+1=>UInt8.ofNat (n/256^r)::be n r
def Xd0 (l:List UInt8):Nat:=l.foldl (fun n b=>n*256+b.toNat) 0
@[simp] theorem XrK (n:Nat):∀ k,(be n k).length=k
 | 0=>rfl
 | k+1=>by simp [be,XrK n k]
theorem Xkb (n:Nat):∀ k,be n (k+1)=be (n/256) k++[UInt8.ofNat n]
 | 0=>by simp [be]
 | k+1=>by
   rw [be,Xkb n k,be,Nat.div_div_eq_div_mul,Nat.pow_succ,Nat.mul_comm 256];rfl
theorem Xq7 (n:Nat):∀ k,be (n%256^k) k=be n k
 | 0=>rfl
 | k+1=>by
   rw [Xkb,Xkb,Nat.pow_succ,Nat.mul_comm,Nat.mod_mul_right_div_self,Xq7 (n/256) k]
   congr 2
   apply UInt8.toNat_inj.1
   simp only [UInt8.toNat_ofNat']
   rw [Nat.mod_mul_right_mod]
theorem Xo3 (l:List UInt8):∀ n:Nat,l.foldl (fun n b=>n*256+b.toNat) n=n*256^l.length+Xd0 l:=by
 induction l with
 | nil=>intro n;simp [Xd0]
 | cons b l ih=>
   intro n
   rw [Xd0,List.foldl_cons,ih,List.foldl_cons,ih,List.length_cons,Nat.pow_succ]
   rw [Nat.zero_mul,Nat.zero_add,Nat.add_mul,Nat.mul_assoc,Nat.mul_comm (256^_) 256,Nat.add_assoc]
@[simp] theorem XFk:Xd0 []=0:=rfl
theorem Xe6 (b:UInt8) (l:List UInt8):Xd0 (b::l)=b.toNat*256^l.length+Xd0 l:=by
 rw [Xd0,List.foldl_cons,Xo3];simp
theorem val_append (l m:List UInt8):Xd0 (l++m)=Xd0 l*256^m.length+Xd0 m:=by
 rw [Xd0,List.foldl_append,Xo3];rfl
theorem Xyv (l:List UInt8) (b:UInt8):Xd0 (l++[b])=Xd0 l*256+b.toNat:=by
 rw [val_append];simp [Xe6]
theorem Xpg:∀ l:List UInt8,Xd0 l<256^l.length
 | []=>by simp
 | b::l=>by
   have h:=Xpg l
   have hb:=b.toNat_lt
   rw [Xe6,List.length_cons,Nat.pow_succ]
   have:b.toNat*256^l.length+256^l.length≤256*256^l.length:=by
    rw [←Nat.succ_mul];exact Nat.mul_le_mul_right _ (by omega)
   rw [Nat.mul_comm (256^l.length)];omega
theorem XqJ (n:Nat):∀ k,Xd0 (be n k)=n%256^k
 | 0=>by simp [be,Nat.mod_one]
 | k+1=>by
   have e:n%256^(k+1)=n%256+256*(n/256%256^k):=by rw [Nat.pow_succ',Nat.mod_mul]
   rw [Xkb,Xyv,XqJ (n/256) k,UInt8.toNat_ofNat',e]
   generalize n/256%256^k=x
   omega
theorem XzD:∀ l:List UInt8,be (Xd0 l) l.length=l
 | []=>rfl
 | b::l=>by
   have h:=Xpg l
   rw [List.length_cons,be]
   have e1:Xd0 (b::l)/256^l.length=b.toNat:=by
    rw [Xe6,Nat.mul_comm,Nat.mul_add_div (Nat.pow_pos (by decide)),Nat.div_eq_of_lt h,Nat.add_zero]
   have e2:be (Xd0 (b::l)) l.length=be (Xd0 l) l.length:=by
    rw [←Xq7 (Xd0 (b::l)),Xe6,Nat.mul_add_mod',Xq7]
   rw [e1,e2,XzD l]
   simp
theorem XHQ {l:List UInt8} {k:Nat} (h:l.length=k):be (Xd0 l) k=l:=by subst h;exact XzD l
theorem be_of {l:List UInt8} {n k:Nat} (h:l.length=k) (hv:Xd0 l=n):be n k=l:=by subst hv;exact XHQ h
theorem XdK {l:List UInt8} {k:Nat} (n:Nat) (h:256^k≤n):Xd0 (l.take k)<n:=by
 have h1:=Xpg (l.take k)
 have h2:(l.take k).length≤k:=List.length_take_le _ _
 exact Nat.lt_of_lt_of_le h1 (Nat.le_trans (Nat.pow_le_pow_right (by decide) h2) h)
theorem XnD (n:Nat) (j:Nat):∀ k,be n (j+k)=be (n/256^k) j++be n k
 | 0=>by simp [be]
 | k+1=>by
   rw [show j+(k+1)=(j+k)+1 from rfl,Xkb,XnD (n/256) j k,Xkb n k,Nat.div_div_eq_div_mul,Nat.pow_succ,Nat.mul_comm (256^k),List.append_assoc]
end Go.Vm
namespace Go.Vm.Code
open Go Go.Vm Go.Proofs
set_option maxRecDepth 100000
set_option maxHeartbeats 4000000
set_option linter.unusedVariables false
def Xfc (n:Int) (k:Int) (t17:Int) (b:List Int):Option (Sum (Int×(List Int)) (List UInt8)):=
 cond (decide (t17<(k.toNat:Int)))
  (
  let t:=wI .i64 (8*(wI .i64 ((wI .i64 (k - 1)) - t17)))
  XaK (decide (0≤t)) <|
  XaK (decide ((0:Int)≤t17∧t17<(k.toNat:Int))) <|
  XaK (decide (t17.toNat<b.length)) <|
  let row:=b.set t17.toNat (wI .u8 (n.fdiv (2^(min t.toNat 64))))
  some (.inl (wI .i64 (t17+1),row)))
  (
  XaK (decide (k.toNat≤b.length)) <|
  some (.inr (iB (b.take k.toNat))))
def Xg0 (n:Int) (k:Int):Option (List UInt8):=
 cond (decide (k<1))
  (
  some ([]))
  (
  cond (decide (k>8))
   (
   some ([]))
   (
   XaK (decide (0≤k∧k≤k∧k<2^63∧(1:Int)*k≤2^48)) <|
   iter (fun st=>Xfc n k st.1 st.2) FUEL (0,List.replicate k.toNat (0))))
def XLt (x:List UInt8):Xco:=⟨.string ⟨⟨x⟩⟩,[],[]⟩
def r42 (g:Int→Int→Option (List UInt8)):Dec:=dV (asI .u64) fun (y0:Int)=>dV (asI .i64) fun (y1:Int)=>Xc4 (ofG (g y0 y1) XLt)
theorem r42_c {g:Int→Int→Option (List UInt8)} {y0:Int} {y1:Int} {x:List UInt8} (hx:g y0 y1=some x):r42 g [.int .u64 y0,.int .i64 y1] []=some (XLt x):=(XaS (XcI _)).trans ((XaS (XcI _)).trans (XaZ hx))
def s42 (g:Int→Int→Option (List UInt8)):Xbp:=⟨[.v,.v],r42 g⟩
theorem Xj1 {g:Int→Int→Option (List UInt8)} {y0:Int} {y1:Int} {x:List UInt8} (hx:g y0 y1=some x):(s42 g).run [.int .u64 y0,.int .i64 y1] []=some (XLt x):=r42_c hx
abbrev XtW:List (Nat×Xbp):=[]
def Xkt (n:Int) (k:Int) (t17:Int) (b:List Int):VM:=
 ⟨⟨42,34,[(0,.int .u64 n),(1,.int .i64 k),(5,.slice (some ⟨0,0,none⟩) k.toNat 1),(16,.int .i64 (k.toNat:Int)),(17,.int .i64 t17)],[.code Xtd,.inLoop Xtd,.inBlock 0,.code XAz],[],false,none⟩,[],[(0,.row true (vI .u8 b))],1⟩
theorem Xyd (hS:Xai Tryz.prog (Xar (XtW))) (n:Int) (k:Int) (res:List UInt8):∀ fuel (st:Int×(List Int)) (o:List UInt8),iter (fun st=>Xfc n k st.1 st.2) fuel st=some o→(o=res) →
 XaD Tryz.prog 42 0 (Xkt n k st.1 st.2) (fun v H _=>Res 0 (XLt res) v H):=by
 intro fuel st o h hc
 refine Xcm (head:=fun st=>Xkt n k st.1 st.2) (C:=fun o=>(o=res)) ?_ fuel st o h hc
 clear h hc o st fuel
 intro st o h hc
 obtain ⟨t17,b⟩:=st
 replace h:Xfc n k t17 b=some o:=h
 show XaD Tryz.prog 42 0 (Xkt n k t17 b) (fun v H _=>Res 0 (XLt res) v H)
 unfold Xfc at h
 refine Xa9 Xam hS true 3000 ?_
 conv=>whnf
 refine br.h2 h ?_ ?_ ?_
 ·rfl
 ·clear h;intro hb h;conv=>whnf
  replace h:=XaK.elim h;obtain ⟨hb,h⟩:=h
  refine req.intro (by (first|rfl|(simp [wI,vI,vB,vS,bI,Xge,Xdq,XaO,Value.cells] at *;omega)|(simp [vI,vB,vS,bI,Xge,Xdq,XaO,Value.cells] at *;omega)|(simp [vI,vB,vS,bI,Xge,Xdq,XaO,Value.cells] at *;done))) ?_
  conv=>whnf
  refine X6c ?_
  conv=>whnf
  all_goals (cases h;cases hc;exact Res.z rfl rfl rfl)
 clear h;intro hb h;conv=>whnf
 let t:Int:=wI .i64 (8*(wI .i64 ((wI .i64 (k - 1)) - t17)))
 replace h:=XaK.elim h;obtain ⟨hb,h⟩:=h
 first|(refine req.intro hb ?_;conv=>whnf)|skip
 replace h:=XaK.elim h;obtain ⟨hb,h⟩:=h
 first|(refine req.intro hb ?_;conv=>whnf)|skip
 replace h:=XaK.elim h;obtain ⟨hb,h⟩:=h
 refine st_I hb (by first|rfl|(rw [Nat.zero_add,Nat.mul_one];try rfl;done)|omega) ?_
 conv=>whnf
 let row:List Int:=b.set t17.toNat (wI .u8 (n.fdiv (2^(min t.toNat 64))))
 cases h;simp only [Sum.elim_inl,Xkt] at hc
 exact Xkm hc [(0,0)] rfl
theorem XKm (hS:Xai Tryz.prog (Xar (XtW))) (n:Int) (k:Int) (res:List UInt8) (h:Xg0 n k=some res) :
 XaD Tryz.prog 42 0 ⟨⟨42,34,[(0,.int .u64 n),(1,.int .i64 k)],[.code XBd],[],false,none⟩,[],[],0⟩ (fun v H _=>Res 0 (XLt res) v H):=by
 unfold Xg0 at h
 refine Xa9 Xam hS true 3000 ?_
 conv=>whnf
 refine br.h h ?_ ?_ ?_
 ·rfl
 ·clear h;intro hb h;conv=>whnf
  all_goals (cases h;exact Res.z rfl rfl rfl)
 clear h;intro hb h;conv=>whnf
 refine br.h h ?_ ?_ ?_
 ·rfl
 ·clear h;intro hb h;conv=>whnf
  all_goals (cases h;exact Res.z rfl rfl rfl)
 clear h;intro hb h;conv=>whnf
 replace h:=XaK.elim h;obtain ⟨hb,h⟩:=h
 first|(refine req.intro hb ?_;conv=>whnf)|skip
 refine XXc ?_
 conv=>whnf
 have hl:=Xyd hS _ _ res _ _ _ h rfl;simp only [Xkt] at hl
 exact Xkm hl [(0,0)] rfl
theorem ok42 (hS:Xai Tryz.prog (Xar (XtW))):Xan Tryz.prog 42 (s42 (Xg0)):=by
 refine Xan.Xau Xam (fun ar os r ha hr=>?_) ⟨Tryz.f42,rfl,by decide,rfl⟩
 replace hr:r42 (Xg0) ar (XaA os)=some r:=hr
 unfold r42 at hr
 generalize hc:XaA os=C at hr
 replace hr:=dV.elim hr;obtain ⟨v0,l1,y0,rfl,e0,hr⟩:=hr;obtain rfl:=XbO _ _ _ e0
 replace hr:=dV.elim hr;obtain ⟨v1,l2,y1,rfl,e1,hr⟩:=hr;obtain rfl:=XbO _ _ _ e1
 replace hr:=Xdf hr;obtain ⟨rfl,rfl,x,h,rfl⟩:=hr
 obtain rfl:=Xao hc
 exact ⟨_,rfl,XKm hS _ _ x h⟩
def Xaq:Int→Int→Option (List UInt8):=Xg0
theorem Xpl:Xan Tryz.prog 42 (s42 Xaq):=ok42 (Xai.XaW trivial)
def Xfu (t1:List UInt8) (n:Int) (t37:Int):Option (Sum (Int×Int) (Int×Bool)):=
 cond (decide (t37<(t1.length:Int)))
  (
  XaK (decide ((0:Int)≤t37∧t37<(t1.length:Int))) <|
  ((bI t1)[t37.toNat]?).bind fun (e:Int)=>
  let t2:=Xkl .u64 (wI .u64 (n*2^8)) (wI .u64 e)
  some (.inl (t2,wI .i64 (t37+1))))
  (
  some (.inr ((n,true))))
def XgW (s:List UInt8) (ata1:Int) (k:Int):Option (Int×Bool):=
 cond (decide (k<1))
  (
  some ((0,false)))
  (
  cond (decide (k>8))
   (
   some ((0,false)))
   (
   cond (decide (ata1<0))
    (
    some ((0,false)))
    (
    let t:=decide ((wI .i64 ((s.length:Int) - k))<ata1)
    cond (t)
     (
     some ((0,false)))
     (
     XaK (decide ((0:Int)≤(wI .i64 (ata1+k))∧(wI .i64 (ata1+k))≤(s.length:Int)∧(0:Int)≤ata1∧ata1≤((wI .i64 (ata1+k)).toNat:Int))) <|
     let t1:=(s.drop ata1.toNat).take ((wI .i64 (ata1+k)).toNat - ata1.toNat)
     iter (fun st=>Xfu t1 st.1 st.2) FUEL (0,0)))))
def XLy (x:Int×Bool):Xco:=⟨.tuple ⟨[.int .u64 x.1,.bool x.2]⟩,[],[]⟩
def r40 (g:(List UInt8)→Int→Int→Option (Int×Bool)):Dec:=dV asS fun (y0:List UInt8)=>dV (asI .i64) fun (y1:Int)=>dV (asI .i64) fun (y2:Int)=>Xc4 (ofG (g y0 y1 y2) XLy)
theorem r40_c {g:(List UInt8)→Int→Int→Option (Int×Bool)} {y0:List UInt8} {y1:Int} {y2:Int} {x:Int×Bool} (hx:g y0 y1 y2=some x):r40 g [.string ⟨⟨y0⟩⟩,.int .i64 y1,.int .i64 y2] []=some (XLy x):=(XaS (XdJ)).trans ((XaS (XcI _)).trans ((XaS (XcI _)).trans (XaZ hx)))
def s40 (g:(List UInt8)→Int→Int→Option (Int×Bool)):Xbp:=⟨[.v,.v,.v],r40 g⟩
theorem Xmc {g:(List UInt8)→Int→Int→Option (Int×Bool)} {y0:List UInt8} {y1:Int} {y2:Int} {x:Int×Bool} (hx:g y0 y1 y2=some x):(s40 g).run [.string ⟨⟨y0⟩⟩,.int .i64 y1,.int .i64 y2] []=some (XLy x):=r40_c hx
abbrev Xto:List (Nat×Xbp):=[]
def XkC (t1:List UInt8) (n:Int) (t37:Int):VM:=
 ⟨⟨40,48,[(8,.int .u64 n),(35,.slice (some ⟨0,0,none⟩) t1.length 1),(36,.int .i64 (t1.length:Int)),(37,.int .i64 t37)],[.code Xta,.inLoop Xta,.inBlock 0,.code XAi],[],false,none⟩,[],[(0,.row true (vI .u8 (bI t1)))],1⟩
theorem Xwm (hS:Xai Tryz.prog (Xar (Xto))) (t1:List UInt8) (res:Int×Bool):∀ fuel (st:Int×Int) (o:Int×Bool),iter (fun st=>Xfu t1 st.1 st.2) fuel st=some o→(o=res) →
 XaD Tryz.prog 40 0 (XkC t1 st.1 st.2) (fun v H _=>Res 0 (XLy res) v H):=by
 intro fuel st o h hc
 refine Xcm (head:=fun st=>XkC t1 st.1 st.2) (C:=fun o=>(o=res)) ?_ fuel st o h hc
 clear h hc o st fuel
 intro st o h hc
 obtain ⟨n,t37⟩:=st
 replace h:Xfu t1 n t37=some o:=h
 show XaD Tryz.prog 40 0 (XkC t1 n t37) (fun v H _=>Res 0 (XLy res) v H)
 unfold Xfu at h
 refine Xa9 Xam hS true 3000 ?_
 conv=>whnf
 refine br.h2 h ?_ ?_ ?_
 ·rfl
 ·clear h;intro hb h;conv=>whnf
  all_goals (cases h;cases hc;exact Res.z rfl rfl rfl)
 clear h;intro hb h;conv=>whnf
 replace h:=XaK.elim h;obtain ⟨hb,h⟩:=h
 first|(refine req.intro hb ?_;conv=>whnf)|skip
 replace h:=Xak.elim h;obtain ⟨e,hy,h⟩:=h
 refine rd.I hy (by first|rfl|(rw [Nat.zero_add,Nat.mul_one];try rfl;done)|omega) ?_
 conv=>whnf
 let t2:Int:=Xkl .u64 (wI .u64 (n*2^8)) (wI .u64 e)
 cases h;simp only [Sum.elim_inl,XkC] at hc
 exact Xkm hc [(0,0)] rfl
theorem XDz (hS:Xai Tryz.prog (Xar (Xto))) (s:List UInt8) (ata1:Int) (k:Int) (res:Int×Bool) (h:XgW s ata1 k=some res) :
 XaD Tryz.prog 40 0 ⟨⟨40,48,[(0,.string ⟨⟨s⟩⟩),(1,.int .i64 ata1),(2,.int .i64 k)],[.code Xzy],[],false,none⟩,[],[],0⟩ (fun v H _=>Res 0 (XLy res) v H):=by
 unfold XgW at h
 refine Xa9 Xam hS true 3000 ?_
 conv=>whnf
 refine br.h h ?_ ?_ ?_
 ·rfl
 ·clear h;intro hb h;conv=>whnf
  all_goals (cases h;exact Res.z rfl rfl rfl)
 clear h;intro hb h;conv=>whnf
 refine br.h h ?_ ?_ ?_
 ·rfl
 ·clear h;intro hb h;conv=>whnf
  all_goals (cases h;exact Res.z rfl rfl rfl)
 clear h;intro hb h;conv=>whnf
 refine br.h h ?_ ?_ ?_
 ·rfl
 ·clear h;intro hb h;conv=>whnf
  all_goals (cases h;exact Res.z rfl rfl rfl)
 clear h;intro hb h;conv=>whnf
 let t:Bool:=decide ((wI .i64 ((s.length:Int) - k))<ata1)
 refine br.h h ?_ ?_ ?_
 ·rfl
 ·clear h;intro hb h;conv=>whnf
  all_goals (cases h;exact Res.z rfl rfl rfl)
 clear h;intro hb h;conv=>whnf
 replace h:=XaK.elim h;obtain ⟨hb,h⟩:=h
 first|(refine req.intro hb ?_;conv=>whnf)|skip
 let t1:List UInt8:=(s.drop ata1.toNat).take ((wI .i64 (ata1+k)).toNat - ata1.toNat)
 refine XOZ ?_
 conv=>whnf
 have hl:=Xwm hS _ res _ _ _ h rfl;simp only [XkC] at hl
 exact Xkm hl [(0,0)] rfl
theorem ok40 (hS:Xai Tryz.prog (Xar (Xto))):Xan Tryz.prog 40 (s40 (XgW)):=by
 refine Xan.Xau Xam (fun ar os r ha hr=>?_) ⟨Tryz.f40,rfl,by decide,rfl⟩
 replace hr:r40 (XgW) ar (XaA os)=some r:=hr
 unfold r40 at hr
 generalize hc:XaA os=C at hr
 replace hr:=dV.elim hr;obtain ⟨v0,l1,y0,rfl,e0,hr⟩:=hr;obtain rfl:=Xb7 _ _ e0
 replace hr:=dV.elim hr;obtain ⟨v1,l2,y1,rfl,e1,hr⟩:=hr;obtain rfl:=XbO _ _ _ e1
 replace hr:=dV.elim hr;obtain ⟨v2,l3,y2,rfl,e2,hr⟩:=hr;obtain rfl:=XbO _ _ _ e2
 replace hr:=Xdf hr;obtain ⟨rfl,rfl,x,h,rfl⟩:=hr
 obtain rfl:=Xao hc
 exact ⟨_,rfl,XDz hS _ _ _ x h⟩
def XaH:(List UInt8)→Int→Int→Option (Int×Bool):=XgW
theorem Xtf:Xan Tryz.prog 40 (s40 XaH):=ok40 (Xai.XaW trivial)
def Xfv (k:Int) (n1:Int) (s:List UInt8) (i:Int):Option (Sum (Int×(List UInt8)×Int) (List UInt8)):=
 cond (decide (i<k))
  (
  cond (decide (k≤8))
   (
   let t:=[UInt8.ofNat (wI .u8 (n1.tmod 256)).toNat]
   XaK (decide (t.length+s.length<2^63)) <|
   some (.inl (wI .u64 (n1.tdiv 256),t++s,wI .i64 (i+1))))
   (
   some (.inr (s))))
  (
  some (.inr (s)))
def Xjj (n:Int) (k:Int):Option (List UInt8):=
 iter (fun st=>Xfv k st.1 st.2.1 st.2.2) FUEL (n,[],0)
def XLp (x:List UInt8):Xco:=⟨.string ⟨⟨x⟩⟩,[],[]⟩
def r85 (g:Int→Int→Option (List UInt8)):Dec:=dV (asI .u64) fun (y0:Int)=>dV (asI .i64) fun (y1:Int)=>Xc4 (ofG (g y0 y1) XLp)
theorem r85_c {g:Int→Int→Option (List UInt8)} {y0:Int} {y1:Int} {x:List UInt8} (hx:g y0 y1=some x):r85 g [.int .u64 y0,.int .i64 y1] []=some (XLp x):=(XaS (XcI _)).trans ((XaS (XcI _)).trans (XaZ hx))
def s85 (g:Int→Int→Option (List UInt8)):Xbp:=⟨[.v,.v],r85 g⟩
theorem XkU {g:Int→Int→Option (List UInt8)} {y0:Int} {y1:Int} {x:List UInt8} (hx:g y0 y1=some x):(s85 g).run [.int .u64 y0,.int .i64 y1] []=some (XLp x):=r85_c hx
abbrev XtD:List (Nat×Xbp):=[]
def Xkr (k:Int) (n1:Int) (s:List UInt8) (i:Int):VM:=
 ⟨⟨85,26,[(0,.int .u64 n1),(1,.int .i64 k),(5,.string ⟨⟨s⟩⟩),(6,.int .i64 i)],[.code Xtk,.inLoop Xtk,.inBlock 0,.code XAf],[],false,none⟩,[],[],0⟩
theorem XyE (hS:Xai Tryz.prog (Xar (XtD))) (k:Int) (res:List UInt8):∀ fuel (st:Int×(List UInt8)×Int) (o:List UInt8),iter (fun st=>Xfv k st.1 st.2.1 st.2.2) fuel st=some o→(o=res) →
 XaD Tryz.prog 85 0 (Xkr k st.1 st.2.1 st.2.2) (fun v H _=>Res 0 (XLp res) v H):=by
 intro fuel st o h hc
 refine Xcm (head:=fun st=>Xkr k st.1 st.2.1 st.2.2) (C:=fun o=>(o=res)) ?_ fuel st o h hc
 clear h hc o st fuel
 intro st o h hc
 obtain ⟨n1,s,i⟩:=st
 replace h:Xfv k n1 s i=some o:=h
 show XaD Tryz.prog 85 0 (Xkr k n1 s i) (fun v H _=>Res 0 (XLp res) v H)
 unfold Xfv at h
 refine Xa9 Xam hS true 3000 ?_
 conv=>whnf
 refine br.h2 h ?_ ?_ ?_
 ·rfl
 ·clear h;intro hb h;conv=>whnf
  all_goals (cases h;cases hc;exact Res.z rfl rfl rfl)
 clear h;intro hb h;conv=>whnf
 refine br.h2 h ?_ ?_ ?_
 ·rfl
 ·clear h;intro hb h;conv=>whnf
  all_goals (cases h;cases hc;exact Res.z rfl rfl rfl)
 clear h;intro hb h;conv=>whnf
 refine XKx rfl ?_
 conv=>whnf
 let t:List UInt8:=[UInt8.ofNat (wI .u8 (n1.tmod 256)).toNat]
 replace h:=XaK.elim h;obtain ⟨hb,h⟩:=h
 first|(refine req.intro hb ?_;conv=>whnf)|skip
 cases h;simp only [Sum.elim_inl,Xkr] at hc
 exact Xkm hc [] rfl
theorem XKU (hS:Xai Tryz.prog (Xar (XtD))) (n:Int) (k:Int) (res:List UInt8) (h:Xjj n k=some res) :
 XaD Tryz.prog 85 0 ⟨⟨85,26,[(0,.int .u64 n),(1,.int .i64 k)],[.code Xzh],[],false,none⟩,[],[],0⟩ (fun v H _=>Res 0 (XLp res) v H):=by
 unfold Xjj at h
 refine Xa9 Xam hS true 3000 ?_
 conv=>whnf
 have hl:=XyE hS _ res _ _ _ h rfl;simp only [Xkr] at hl
 exact Xkm hl [] rfl
theorem ok85 (hS:Xai Tryz.prog (Xar (XtD))):Xan Tryz.prog 85 (s85 (Xjj)):=by
 refine Xan.Xau Xam (fun ar os r ha hr=>?_) ⟨Tryz.f85,rfl,by decide,rfl⟩
 replace hr:r85 (Xjj) ar (XaA os)=some r:=hr
 unfold r85 at hr
 generalize hc:XaA os=C at hr
 replace hr:=dV.elim hr;obtain ⟨v0,l1,y0,rfl,e0,hr⟩:=hr;obtain rfl:=XbO _ _ _ e0
 replace hr:=dV.elim hr;obtain ⟨v1,l2,y1,rfl,e1,hr⟩:=hr;obtain rfl:=XbO _ _ _ e1
 replace hr:=Xdf hr;obtain ⟨rfl,rfl,x,h,rfl⟩:=hr
 obtain rfl:=Xao hc
 exact ⟨_,rfl,XKU hS _ _ x h⟩
def XaU:Int→Int→Option (List UInt8):=Xjj
theorem Xpz:Xan Tryz.prog 85 (s85 XaU):=ok85 (Xai.XaW trivial)
def Xg2 (s:List UInt8) (ata1:Int) (k:Int) (n:Int) (i:Int):Option (Sum (Int×Int) (Int×Bool)):=
 cond (decide (i<k))
  (
  XaK (decide (0≤(wI .i64 (ata1+i)))) <|
  (s[(wI .i64 (ata1+i)).toNat]?).bind fun (b:UInt8)=>
  let t1:=wI .u64 ((wI .u64 (n*256))+(wI .u64 (b.toNat:Int)))
  some (.inl (t1,wI .i64 (i+1))))
  (
  some (.inr ((n,true))))
def XjI (s:List UInt8) (ata1:Int) (k:Int):Option (Int×Bool):=
 cond (decide (k<1))
  (
  some ((0,false)))
  (
  cond (decide (k>8))
   (
   some ((0,false)))
   (
   cond (decide (ata1<0))
    (
    some ((0,false)))
    (
    cond (decide (ata1>(s.length:Int)))
     (
     some ((0,false)))
     (
     let t:=decide (k>(wI .i64 ((s.length:Int) - ata1)))
     cond (t)
      (
      some ((0,false)))
      (
      iter (fun st=>Xg2 s ata1 k st.1 st.2) FUEL (0,0))))))
def XLl (x:Int×Bool):Xco:=⟨.tuple ⟨[.int .u64 x.1,.bool x.2]⟩,[],[]⟩
def r70 (g:(List UInt8)→Int→Int→Option (Int×Bool)):Dec:=dV asS fun (y0:List UInt8)=>dV (asI .i64) fun (y1:Int)=>dV (asI .i64) fun (y2:Int)=>Xc4 (ofG (g y0 y1 y2) XLl)
theorem r70_c {g:(List UInt8)→Int→Int→Option (Int×Bool)} {y0:List UInt8} {y1:Int} {y2:Int} {x:Int×Bool} (hx:g y0 y1 y2=some x):r70 g [.string ⟨⟨y0⟩⟩,.int .i64 y1,.int .i64 y2] []=some (XLl x):=(XaS (XdJ)).trans ((XaS (XcI _)).trans ((XaS (XcI _)).trans (XaZ hx)))
def s70 (g:(List UInt8)→Int→Int→Option (Int×Bool)):Xbp:=⟨[.v,.v,.v],r70 g⟩
theorem Xps {g:(List UInt8)→Int→Int→Option (Int×Bool)} {y0:List UInt8} {y1:Int} {y2:Int} {x:Int×Bool} (hx:g y0 y1 y2=some x):(s70 g).run [.string ⟨⟨y0⟩⟩,.int .i64 y1,.int .i64 y2] []=some (XLl x):=r70_c hx
abbrev XtO:List (Nat×Xbp):=[]
def XkP (s:List UInt8) (ata1:Int) (k:Int) (n:Int) (i:Int):VM:=
 ⟨⟨70,49,[(0,.string ⟨⟨s⟩⟩),(1,.int .i64 ata1),(2,.int .i64 k),(8,.int .u64 n),(9,.int .i64 i)],[.code Xt1,.inLoop Xt1,.inBlock 0,.code XzJ],[],false,none⟩,[],[],0⟩
theorem XwW (hS:Xai Tryz.prog (Xar (XtO))) (s:List UInt8) (ata1:Int) (k:Int) (res:Int×Bool):∀ fuel (st:Int×Int) (o:Int×Bool),iter (fun st=>Xg2 s ata1 k st.1 st.2) fuel st=some o→(o=res) →
 XaD Tryz.prog 70 0 (XkP s ata1 k st.1 st.2) (fun v H _=>Res 0 (XLl res) v H):=by
 intro fuel st o h hc
 refine Xcm (head:=fun st=>XkP s ata1 k st.1 st.2) (C:=fun o=>(o=res)) ?_ fuel st o h hc
 clear h hc o st fuel
 intro st o h hc
 obtain ⟨n,i⟩:=st
 replace h:Xg2 s ata1 k n i=some o:=h
 show XaD Tryz.prog 70 0 (XkP s ata1 k n i) (fun v H _=>Res 0 (XLl res) v H)
 unfold Xg2 at h
 refine Xa9 Xam hS true 3000 ?_
 conv=>whnf
 refine br.h2 h ?_ ?_ ?_
 ·rfl
 ·clear h;intro hb h;conv=>whnf
  all_goals (cases h;cases hc;exact Res.z rfl rfl rfl)
 clear h;intro hb h;conv=>whnf
 replace h:=XaK.elim h;obtain ⟨hb,h⟩:=h
 first|(refine req.intro hb ?_;conv=>whnf)|skip
 replace h:=Xak.elim h;obtain ⟨b,hy,h⟩:=h
 refine rdS.intro hy ?_
 conv=>whnf
 let t1:Int:=wI .u64 ((wI .u64 (n*256))+(wI .u64 (b.toNat:Int)))
 cases h;simp only [Sum.elim_inl,XkP] at hc
 exact Xkm hc [] rfl
theorem XCr (hS:Xai Tryz.prog (Xar (XtO))) (s:List UInt8) (ata1:Int) (k:Int) (res:Int×Bool) (h:XjI s ata1 k=some res) :
 XaD Tryz.prog 70 0 ⟨⟨70,49,[(0,.string ⟨⟨s⟩⟩),(1,.int .i64 ata1),(2,.int .i64 k)],[.code XAF],[],false,none⟩,[],[],0⟩ (fun v H _=>Res 0 (XLl res) v H):=by
 unfold XjI at h
 refine Xa9 Xam hS true 3000 ?_
 conv=>whnf
 refine br.h h ?_ ?_ ?_
 ·rfl
 ·clear h;intro hb h;conv=>whnf
  all_goals (cases h;exact Res.z rfl rfl rfl)
 clear h;intro hb h;conv=>whnf
 refine br.h h ?_ ?_ ?_
 ·rfl
 ·clear h;intro hb h;conv=>whnf
  all_goals (cases h;exact Res.z rfl rfl rfl)
 clear h;intro hb h;conv=>whnf
 refine br.h h ?_ ?_ ?_
 ·rfl
 ·clear h;intro hb h;conv=>whnf
  all_goals (cases h;exact Res.z rfl rfl rfl)
 clear h;intro hb h;conv=>whnf
 refine br.h h ?_ ?_ ?_
 ·rfl
 ·clear h;intro hb h;conv=>whnf
  all_goals (cases h;exact Res.z rfl rfl rfl)
 clear h;intro hb h;conv=>whnf
 let t:Bool:=decide (k>(wI .i64 ((s.length:Int) - ata1)))
 refine br.h h ?_ ?_ ?_
 ·rfl
 ·clear h;intro hb h;conv=>whnf
  all_goals (cases h;exact Res.z rfl rfl rfl)
 clear h;intro hb h;conv=>whnf
 have hl:=XwW hS _ _ _ res _ _ _ h rfl;simp only [XkP] at hl
 exact Xkm hl [] rfl
theorem ok70 (hS:Xai Tryz.prog (Xar (XtO))):Xan Tryz.prog 70 (s70 (XjI)):=by
 refine Xan.Xau Xam (fun ar os r ha hr=>?_) ⟨Tryz.f70,rfl,by decide,rfl⟩
 replace hr:r70 (XjI) ar (XaA os)=some r:=hr
 unfold r70 at hr
 generalize hc:XaA os=C at hr
 replace hr:=dV.elim hr;obtain ⟨v0,l1,y0,rfl,e0,hr⟩:=hr;obtain rfl:=Xb7 _ _ e0
 replace hr:=dV.elim hr;obtain ⟨v1,l2,y1,rfl,e1,hr⟩:=hr;obtain rfl:=XbO _ _ _ e1
 replace hr:=dV.elim hr;obtain ⟨v2,l3,y2,rfl,e2,hr⟩:=hr;obtain rfl:=XbO _ _ _ e2
 replace hr:=Xdf hr;obtain ⟨rfl,rfl,x,h,rfl⟩:=hr
 obtain rfl:=Xao hc
 exact ⟨_,rfl,XCr hS _ _ _ x h⟩
def Xbz:(List UInt8)→Int→Int→Option (Int×Bool):=XjI
theorem Xtp:Xan Tryz.prog 70 (s70 Xbz):=ok70 (Xai.XaW trivial)
def Xif (Xbz:(List UInt8)→Int→Int→Option (Int×Bool)) (s:List UInt8) (ata1:Int) (k:Int):Option Int:=
 (Xbz s ata1 k).bind fun xg=>
 some (wI .i64 xg.1)
def rx44 (x:Int):Xco:=⟨.int .i64 x,[],[]⟩
def r44 (g:(List UInt8)→Int→Int→Option Int):Dec:=dV asS fun (y0:List UInt8)=>dV (asI .i64) fun (y1:Int)=>dV (asI .i64) fun (y2:Int)=>Xc4 (ofG (g y0 y1 y2) rx44)
theorem r44_c {g:(List UInt8)→Int→Int→Option Int} {y0:List UInt8} {y1:Int} {y2:Int} {x:Int} (hx:g y0 y1 y2=some x):r44 g [.string ⟨⟨y0⟩⟩,.int .i64 y1,.int .i64 y2] []=some (rx44 x):=(XaS (XdJ)).trans ((XaS (XcI _)).trans ((XaS (XcI _)).trans (XaZ hx)))
def s44 (g:(List UInt8)→Int→Int→Option Int):Xbp:=⟨[.v,.v,.v],r44 g⟩
theorem Xe3 {g:(List UInt8)→Int→Int→Option Int} {y0:List UInt8} {y1:Int} {y2:Int} {x:Int} (hx:g y0 y1 y2=some x):(s44 g).run [.string ⟨⟨y0⟩⟩,.int .i64 y1,.int .i64 y2] []=some (rx44 x):=r44_c hx
abbrev XzU (Xbz:(List UInt8)→Int→Int→Option (Int×Bool)):List (Nat×Xbp):=[(70,s70 Xbz)]
theorem XCn (Xbz:(List UInt8)→Int→Int→Option (Int×Bool)) (hS:Xai Tryz.prog (Xar (XzU Xbz))) (s:List UInt8) (ata1:Int) (k:Int) (res:Int) (h:Xif Xbz s ata1 k=some res) :
 XaD Tryz.prog 44 0 ⟨⟨44,18,[(0,.string ⟨⟨s⟩⟩),(1,.int .i64 ata1),(2,.int .i64 k)],[.code XQr],[],false,none⟩,[],[],0⟩ (fun v H _=>Res 0 (rx44 res) v H):=by
 unfold Xif at h
 refine Xa9 Xam hS true 3000 ?_
 conv=>whnf
 replace h:=Xak.elim h;obtain ⟨xg,hy,h⟩:=h
 refine XaG.q rfl rfl (Xps hy) rfl rfl rfl ?_
 conv=>whnf
 all_goals (cases h;exact Res.z rfl rfl rfl)
theorem ok44 (Xbz:(List UInt8)→Int→Int→Option (Int×Bool)) (hS:Xai Tryz.prog (Xar (XzU Xbz))):Xan Tryz.prog 44 (s44 (Xif Xbz)):=by
 refine Xan.Xau Xam (fun ar os r ha hr=>?_) ⟨Tryz.f44,rfl,by decide,rfl⟩
 replace hr:r44 (Xif Xbz) ar (XaA os)=some r:=hr
 unfold r44 at hr
 generalize hc:XaA os=C at hr
 replace hr:=dV.elim hr;obtain ⟨v0,l1,y0,rfl,e0,hr⟩:=hr;obtain rfl:=Xb7 _ _ e0
 replace hr:=dV.elim hr;obtain ⟨v1,l2,y1,rfl,e1,hr⟩:=hr;obtain rfl:=XbO _ _ _ e1
 replace hr:=dV.elim hr;obtain ⟨v2,l3,y2,rfl,e2,hr⟩:=hr;obtain rfl:=XbO _ _ _ e2
 replace hr:=Xdf hr;obtain ⟨rfl,rfl,x,h,rfl⟩:=hr
 obtain rfl:=Xao hc
 exact ⟨_,rfl,XCn Xbz hS _ _ _ x h⟩
def Xal:(List UInt8)→Int→Int→Option Int:=Xif Xbz
theorem Xmh:Xan Tryz.prog 44 (s44 Xal):=ok44 Xbz (Xai.XaW ⟨Xtp,trivial⟩)
end Go.Vm.Code
namespace Go.Vm.Code
open Go Go.Vm
def XcG (n k:Int):List UInt8:=if 1≤k∧k≤8 then be n.toNat k.toNat else []
theorem XbY {n k:Int} (h0:0≤n):Xaq n k=some (XcG n k):=by
 unfold Xaq Xg0 XcG
 by_cases h1:k<1
 ·rw [XaV h1,if_neg (by omega)]
 by_cases h2:k>8
 ·rw [XaM h1,XaV h2,if_neg (by omega)]
 rw [XaM h1,XaM h2,Xaz (by omega),if_pos (by omega)]
 obtain ⟨m,rfl⟩:=Int.eq_ofNat_of_zero_le h0
 obtain ⟨j,rfl⟩:=Int.eq_ofNat_of_zero_le (show 0≤k by omega)
 have key:=iter_eq (step:=fun (st:Int×List Int)=>Xfc (m:Int) (j:Int) st.1 st.2) (fun st=>iB (st.2.take st.1.toNat)++be m (j - st.1.toNat)) (fun st=>0≤st.1∧st.1≤j∧st.2.length=j) (fun st=>(j - st.1).toNat) ?_ FUEL (0,List.replicate (j:Int).toNat 0) ⟨by simp,by simp,by simp⟩ (by rw [XeV];simp only;omega)
 ·rw [key];simp [iB]
 rintro ⟨p,b⟩ ⟨g1,g2,g3⟩
 simp only at g1 g2 g3 ⊢
 obtain ⟨i,rfl⟩:=Int.eq_ofNat_of_zero_le g1
 unfold Xfc
 by_cases hp:i<j
 ·refine .inr ⟨(((i+1:Nat):Int),b.set i ((m/256^(j - 1 - i)%256:Nat):Int)),?_,⟨by simp only;omega,by simp only;omega,by simp [g3]⟩,by simp only;omega,?_⟩
  ·simp (disch:=omega) only [XcC,Xaz,XaV,Int.toNat_natCast]
   have e1:min (8*((j:Int) - 1 - i)).toNat 64=8*(j - 1 - i):=by omega
   have e0:(2:Int)^(8*(j - 1 - i))=((256^(j - 1 - i):Nat):Int):=by rw [show (256:Nat)=2^8 from rfl,←Nat.pow_mul];push_cast;rfl
   rw [e1,XoJ,wU8m,e0]
   rfl
  ·simp only [Int.toNat_natCast]
   have e2:j - i=(j - (i+1))+1:=by omega
   have e3:j - (i+1)=j - 1 - i:=by omega
   have e4:(b.set i ((m/256^(j - 1 - i)%256:Nat):Int)).take (i+1)=b.take i++[((m/256^(j - 1 - i)%256:Nat):Int)]:=by
    rw [List.take_succ_eq_append_getElem (by simp;omega),List.take_set_of_le (Nat.le_refl _),List.getElem_set_self]
   rw [e2,e4,be,e3]
   simp only [iB,List.map_append,List.map_cons,List.map_nil,List.append_assoc,List.cons_append,List.nil_append,Int.toNat_natCast]
   congr 2
   apply UInt8.toNat_inj.1
   simp
 ·refine .inl ?_
  obtain rfl:i=j:=by omega
  simp (disch:=omega) only [XaM,Xaz,Int.toNat_natCast]
  simp [be]
theorem Xdt {n k:Int} (h0:0≤n) (h1:n<2^64):XaU n k=some (XcG n k):=by
 unfold XaU Xjj XcG
 obtain ⟨m,rfl⟩:=Int.eq_ofNat_of_zero_le h0
 by_cases hk:1≤k∧k≤8
 ·rw [if_pos hk]
  obtain ⟨j,rfl⟩:=Int.eq_ofNat_of_zero_le (show 0≤k by omega)
  have key:=iter_eq (step:=fun st=>Xfv (j:Int) st.1 st.2.1 st.2.2) (fun st=>be st.1.toNat (j - st.2.2.toNat)++st.2.1) (fun st=>0≤st.1∧st.1<2^64∧0≤st.2.2∧st.2.2≤j∧st.2.1.length<2^20+st.2.2.toNat) (fun st=>(j - st.2.2).toNat) ?_ FUEL ((m:Int),[],0) ⟨by simp,by simp only;omega,by simp,by simp,by simp⟩ (by rw [XeV];simp only;omega)
  ·rw [key];simp
  rintro ⟨n,s,p⟩ ⟨g1,g2,g3,g4,g5⟩
  simp only at g1 g2 g3 g4 g5 ⊢
  obtain ⟨i,rfl⟩:=Int.eq_ofNat_of_zero_le g3
  obtain ⟨x,rfl⟩:=Int.eq_ofNat_of_zero_le g1
  unfold Xfv
  by_cases hp:i<j
  ·refine .inr ⟨(((x/256:Nat):Int),UInt8.ofNat x::s,((i+1:Nat):Int)),?_,⟨by simp only;omega,by simp only;omega,by simp only;omega,by simp only;omega,by simp at g5 ⊢;omega⟩,by simp only;omega,?_⟩
   ·have e1:(x:Int).tmod 256=((x%256:Nat):Int):=by rw [Int.tmod_eq_emod_of_nonneg (by omega)];rfl
    have e2:(x:Int).tdiv 256=((x/256:Nat):Int):=by rw [Int.tdiv_eq_ediv_of_nonneg (by omega)];rfl
    rw [XaV (by omega),XaV (by omega),e1,e2,wU8 (by omega) (by omega)]
    simp only [List.length_cons,List.length_nil]
    rw [Xaz (by omega),Xhv (by omega) (by omega),XcC (by omega) (by omega),Int.toNat_natCast]
    have e3:UInt8.ofNat (x%256)=UInt8.ofNat x:=by apply UInt8.toNat_inj.1;simp
    rw [e3];rfl
   ·simp only [Int.toNat_natCast]
    have e2:j - i=(j - (i+1))+1:=by omega
    rw [e2,Xkb];simp
  ·refine .inl ?_
   obtain rfl:i=j:=by omega
   rw [XaM (by omega)]
   simp [be]
 ·rw [if_neg hk]
  show iter _ (18446744073709551615+1) _=_
  rw [iter]
  have:Xfv k (m:Int) [] 0=some (.inr []):=by
   unfold Xfv
   by_cases h2:0<k
   ·rw [XaV h2,XaM (by omega)]
   ·rw [XaM h2]
  simp only [this]
def XsL (s:List UInt8) (p k:Int):Int×Bool:=if 1≤k∧k≤8∧0≤p∧p+k≤s.length then (((Xd0 ((s.drop p.toNat).take k.toNat):Nat):Int),true) else (0,false)
theorem Xn8 {v i:Nat} (h:v<256^i) (hi:i≤7):v<2^56:=Nat.lt_of_lt_of_le h (by
 have:(256:Nat)^i≤256^7:=Nat.pow_le_pow_right (by decide) hi
 simpa using this)
theorem XeJ {s:List UInt8} {p k:Int} (hs:s.length<2^61):XaH s p k=some (XsL s p k):=by
 unfold XaH XgW XsL
 by_cases h1:k<1
 ·rw [XaV h1,if_neg (by omega)]
 by_cases h2:k>8
 ·rw [XaM h1,XaV h2,if_neg (by omega)]
 by_cases h3:p<0
 ·rw [XaM h1,XaM h2,XaV h3,if_neg (by omega)]
 rw [XaM h1,XaM h2,XaM h3,XcC (n:=(s.length:Int) - k) (by omega) (by omega)]
 by_cases h4:(s.length:Int) - k<p
 ·simp only []
  rw [XaV h4,if_neg (by omega)]
 simp only []
 rw [XaM h4,XcC (n:=p+k) (by omega) (by omega),Xaz (by omega),if_pos (by omega)]
 obtain ⟨q,rfl⟩:=Int.eq_ofNat_of_zero_le (show 0≤p by omega)
 obtain ⟨j,rfl⟩:=Int.eq_ofNat_of_zero_le (show 0≤k by omega)
 have e:((q:Int)+j).toNat - (q:Int).toNat=j:=by omega
 rw [e]
 simp only [Int.toNat_natCast]
 generalize ht:(s.drop q).take j=t
 have hl:t.length=j:=by rw [←ht];simp;omega
 have key:=iter_eq (step:=fun st=>Xfu t st.1 st.2) (fun st=>(((st.1.toNat*256^(j - st.2.toNat)+Xd0 (t.drop st.2.toNat):Nat):Int),true)) (fun st=>0≤st.1∧0≤st.2∧st.2≤j∧st.1.toNat<256^st.2.toNat) (fun st=>(j - st.2).toNat) ?_ FUEL (0,0) ⟨by simp,by simp,by simp,by simp⟩ (by rw [XeV];simp only;omega)
 ·rw [key];simp
 rintro ⟨n,x⟩ ⟨g1,g2,g3,g4⟩
 simp only at g1 g2 g3 g4 ⊢
 obtain ⟨i,rfl⟩:=Int.eq_ofNat_of_zero_le g2
 obtain ⟨v,rfl⟩:=Int.eq_ofNat_of_zero_le g1
 simp only [Int.toNat_natCast] at g4 ⊢
 unfold Xfu
 by_cases hp:i<j
 ·have hlt:i<t.length:=by omega
  have hb:=t[i].toNat_lt
  have hv:=Xn8 g4 (by omega)
  refine .inr ⟨(((v*256+t[i].toNat:Nat):Int),((i+1:Nat):Int)),?_,⟨by simp only;omega,by simp only;omega,by simp only;omega,?_⟩,by simp only;omega,?_⟩
  ·rw [XaV (by omega),Xaz (by omega)]
   have e1:(bI t)[(i:Int).toNat]?=some (t[i].toNat:Int):=by simp [bI,hlt]
   rw [e1,Option.bind_some]
   have e2:Xkl .u64 (wI .u64 ((v:Int)*2^8)) (wI .u64 (t[i].toNat:Int))=((v*256+t[i].toNat:Nat):Int):=by
    rw [Xhv (by omega) (by omega),Xhv (by omega) (by omega),Xhe 8 (by omega) (by omega) (by omega) (by omega) (by omega)];omega
   simp only [e2]
   rw [XcC (by omega) (by omega)];rfl
  ·simp only [Int.toNat_natCast]
   rw [Nat.pow_succ];omega
  ·simp only [Int.toNat_natCast]
   rw [List.drop_eq_getElem_cons hlt,Xe6]
   have e3:(t.drop (i+1)).length=j - (i+1):=by simp;omega
   have e4:j - i=(j - (i+1))+1:=by omega
   rw [e3,e4,Nat.pow_succ,Nat.add_mul,Nat.mul_assoc,Nat.mul_comm 256,Nat.add_assoc]
 ·refine .inl ?_
  obtain rfl:i=j:=by omega
  rw [XaM (by omega)]
  simp [←hl]
theorem XhW {s:List UInt8} {p k:Int} (hs:s.length<2^61):Xbz s p k=some (XsL s p k):=by
 unfold Xbz XjI XsL
 by_cases h1:k<1
 ·rw [XaV h1,if_neg (by omega)]
 by_cases h2:k>8
 ·rw [XaM h1,XaV h2,if_neg (by omega)]
 by_cases h3:p<0
 ·rw [XaM h1,XaM h2,XaV h3,if_neg (by omega)]
 by_cases h5:p>s.length
 ·rw [XaM h1,XaM h2,XaM h3,XaV h5,if_neg (by omega)]
 rw [XaM h1,XaM h2,XaM h3,XaM h5,XcC (n:=(s.length:Int) - p) (by omega) (by omega)]
 by_cases h4:k>(s.length:Int) - p
 ·simp only []
  rw [XaV h4,if_neg (by omega)]
 simp only []
 rw [XaM h4,if_pos (by omega)]
 obtain ⟨q,rfl⟩:=Int.eq_ofNat_of_zero_le (show 0≤p by omega)
 obtain ⟨j,rfl⟩:=Int.eq_ofNat_of_zero_le (show 0≤k by omega)
 simp only [Int.toNat_natCast]
 generalize ht:(s.drop q).take j=t
 have hl:t.length=j:=by rw [←ht];simp;omega
 have key:=iter_eq (step:=fun st=>Xg2 s (q:Int) (j:Int) st.1 st.2) (fun st=>(((st.1.toNat*256^(j - st.2.toNat)+Xd0 (t.drop st.2.toNat):Nat):Int),true)) (fun st=>0≤st.1∧0≤st.2∧st.2≤j∧st.1.toNat<256^st.2.toNat) (fun st=>(j - st.2).toNat) ?_ FUEL (0,0) ⟨by simp,by simp,by simp,by simp⟩ (by rw [XeV];simp only;omega)
 ·rw [key];simp
 rintro ⟨n,x⟩ ⟨g1,g2,g3,g4⟩
 simp only at g1 g2 g3 g4 ⊢
 obtain ⟨i,rfl⟩:=Int.eq_ofNat_of_zero_le g2
 obtain ⟨v,rfl⟩:=Int.eq_ofNat_of_zero_le g1
 simp only [Int.toNat_natCast] at g4 ⊢
 unfold Xg2
 by_cases hp:i<j
 ·have hlt:i<t.length:=by omega
  have hb:=t[i].toNat_lt
  have hv:=Xn8 g4 (by omega)
  refine .inr ⟨(((v*256+t[i].toNat:Nat):Int),((i+1:Nat):Int)),?_,⟨by simp only;omega,by simp only;omega,by simp only;omega,?_⟩,by simp only;omega,?_⟩
  ·rw [XaV (by omega),XcC (n:=(q:Int)+i) (by omega) (by omega),Xaz (by omega)]
   have e0:((q:Int)+i).toNat=q+i:=by omega
   have e1:s[q+i]?=some t[i]:=by
    subst ht
    rw [List.getElem?_eq_getElem (by omega)]
    simp
   rw [e0,e1,Option.bind_some]
   have e2:wI .u64 ((wI .u64 ((v:Int)*256))+(wI .u64 (t[i].toNat:Int)))=((v*256+t[i].toNat:Nat):Int):=by
    rw [Xhv (n:=(v:Int)*256) (by omega) (by omega),Xhv (n:=(t[i].toNat:Int)) (by omega) (by omega),Xhv (by omega) (by omega)];omega
   simp only [e2]
   rw [XcC (by omega) (by omega)];rfl
  ·simp only [Int.toNat_natCast]
   rw [Nat.pow_succ];omega
  ·simp only [Int.toNat_natCast]
   rw [List.drop_eq_getElem_cons hlt,Xe6]
   have e3:(t.drop (i+1)).length=j - (i+1):=by simp;omega
   have e4:j - i=(j - (i+1))+1:=by omega
   rw [e3,e4,Nat.pow_succ,Nat.add_mul,Nat.mul_assoc,Nat.mul_comm 256,Nat.add_assoc]
 ·refine .inl ?_
  obtain rfl:i=j:=by omega
  rw [XaM (by omega)]
  simp [←hl]
theorem Xf1 {s:List UInt8} {p k:Int} (hs:s.length<2^61):Xal s p k=some (wI .i64 (XsL s p k).1):=by
 unfold Xal Xif
 rw [XhW hs];rfl
end Go.Vm.Code
namespace Go.Vm.Code
open Go Go.Vm Go.Proofs
set_option maxRecDepth 100000
set_option maxHeartbeats 4000000
set_option linter.unusedVariables false
def XgP (Xaq:Int→Int→Option (List UInt8)) (s:List UInt8) (ata1:Int) (k:Int) (n:Int):Option (List UInt8):=
 (Xaq n k).bind fun p=>
 cond (p==[])
  (
  some (s))
  (
  cond (decide (ata1<0))
   (
   some (s))
   (
   let t:=decide ((wI .i64 ((s.length:Int) - k))<ata1)
   cond (t)
    (
    some (s))
    (
    XaK (decide ((0:Int)≤ata1∧ata1≤(s.length:Int))) <|
    XaK (decide ((s.take ata1.toNat).length+p.length<2^63)) <|
    XaK (decide ((0:Int)≤(wI .i64 (ata1+k))∧(wI .i64 (ata1+k))≤(s.length:Int))) <|
    let t1:=(s.drop (wI .i64 (ata1+k)).toNat).take (s.length - (wI .i64 (ata1+k)).toNat)
    XaK (decide (((s.take ata1.toNat)++p).length+t1.length<2^63)) <|
    some (((s.take ata1.toNat)++p)++t1))))
def rx43 (x:List UInt8):Xco:=⟨.string ⟨⟨x⟩⟩,[],[]⟩
def r43 (g:(List UInt8)→Int→Int→Int→Option (List UInt8)):Dec:=dV asS fun (y0:List UInt8)=>dV (asI .i64) fun (y1:Int)=>dV (asI .i64) fun (y2:Int)=>dV (asI .u64) fun (y3:Int)=>Xc4 (ofG (g y0 y1 y2 y3) rx43)
theorem r43_c {g:(List UInt8)→Int→Int→Int→Option (List UInt8)} {y0:List UInt8} {y1:Int} {y2:Int} {y3:Int} {x:List UInt8} (hx:g y0 y1 y2 y3=some x):r43 g [.string ⟨⟨y0⟩⟩,.int .i64 y1,.int .i64 y2,.int .u64 y3] []=some (rx43 x):=(XaS (XdJ)).trans ((XaS (XcI _)).trans ((XaS (XcI _)).trans ((XaS (XcI _)).trans (XaZ hx))))
def s43 (g:(List UInt8)→Int→Int→Int→Option (List UInt8)):Xbp:=⟨[.v,.v,.v,.v],r43 g⟩
theorem XsS {g:(List UInt8)→Int→Int→Int→Option (List UInt8)} {y0:List UInt8} {y1:Int} {y2:Int} {y3:Int} {x:List UInt8} (hx:g y0 y1 y2 y3=some x):(s43 g).run [.string ⟨⟨y0⟩⟩,.int .i64 y1,.int .i64 y2,.int .u64 y3] []=some (rx43 x):=r43_c hx
abbrev XAI (Xaq:Int→Int→Option (List UInt8)):List (Nat×Xbp):=[(42,s42 Xaq)]
theorem XId (Xaq:Int→Int→Option (List UInt8)) (hS:Xai Tryz.prog (Xar (XAI Xaq))) (s:List UInt8) (ata1:Int) (k:Int) (n:Int) (res:List UInt8) (h:XgP Xaq s ata1 k n=some res) :
 XaD Tryz.prog 43 0 ⟨⟨43,39,[(0,.string ⟨⟨s⟩⟩),(1,.int .i64 ata1),(2,.int .i64 k),(3,.int .u64 n)],[.code Xzf],[],false,none⟩,[],[],0⟩ (fun v H _=>Res 0 (rx43 res) v H):=by
 unfold XgP at h
 refine Xa9 Xam hS true 3000 ?_
 conv=>whnf
 replace h:=Xak.elim h;obtain ⟨p,hy,h⟩:=h
 refine XaG.q rfl rfl (Xj1 hy) rfl rfl rfl ?_
 conv=>whnf
 refine br.h h ?_ ?_ ?_
 ·rfl
 ·clear h;intro hb h;conv=>whnf
  all_goals (cases h;exact Res.z rfl rfl rfl)
 clear h;intro hb h;conv=>whnf
 refine br.h h ?_ ?_ ?_
 ·rfl
 ·clear h;intro hb h;conv=>whnf
  all_goals (cases h;exact Res.z rfl rfl rfl)
 clear h;intro hb h;conv=>whnf
 let t:Bool:=decide ((wI .i64 ((s.length:Int) - k))<ata1)
 refine br.h h ?_ ?_ ?_
 ·rfl
 ·clear h;intro hb h;conv=>whnf
  all_goals (cases h;exact Res.z rfl rfl rfl)
 clear h;intro hb h;conv=>whnf
 replace h:=XaK.elim h;obtain ⟨hb,h⟩:=h
 first|(refine req.intro hb ?_;conv=>whnf)|skip
 replace h:=XaK.elim h;obtain ⟨hb,h⟩:=h
 first|(refine req.intro hb ?_;conv=>whnf)|skip
 replace h:=XaK.elim h;obtain ⟨hb,h⟩:=h
 first|(refine req.intro hb ?_;conv=>whnf)|skip
 let t1:List UInt8:=(s.drop (wI .i64 (ata1+k)).toNat).take (s.length - (wI .i64 (ata1+k)).toNat)
 replace h:=XaK.elim h;obtain ⟨hb,h⟩:=h
 first|(refine req.intro hb ?_;conv=>whnf)|skip
 all_goals (cases h;exact Res.z rfl rfl rfl)
theorem ok43 (Xaq:Int→Int→Option (List UInt8)) (hS:Xai Tryz.prog (Xar (XAI Xaq))):Xan Tryz.prog 43 (s43 (XgP Xaq)):=by
 refine Xan.Xau Xam (fun ar os r ha hr=>?_) ⟨Tryz.f43,rfl,by decide,rfl⟩
 replace hr:r43 (XgP Xaq) ar (XaA os)=some r:=hr
 unfold r43 at hr
 generalize hc:XaA os=C at hr
 replace hr:=dV.elim hr;obtain ⟨v0,l1,y0,rfl,e0,hr⟩:=hr;obtain rfl:=Xb7 _ _ e0
 replace hr:=dV.elim hr;obtain ⟨v1,l2,y1,rfl,e1,hr⟩:=hr;obtain rfl:=XbO _ _ _ e1
 replace hr:=dV.elim hr;obtain ⟨v2,l3,y2,rfl,e2,hr⟩:=hr;obtain rfl:=XbO _ _ _ e2
 replace hr:=dV.elim hr;obtain ⟨v3,l4,y3,rfl,e3,hr⟩:=hr;obtain rfl:=XbO _ _ _ e3
 replace hr:=Xdf hr;obtain ⟨rfl,rfl,x,h,rfl⟩:=hr
 obtain rfl:=Xao hc
 exact ⟨_,rfl,XId Xaq hS _ _ _ _ x h⟩
def Xbm:(List UInt8)→Int→Int→Int→Option (List UInt8):=XgP Xaq
theorem XA7:Xan Tryz.prog 43 (s43 Xbm):=ok43 Xaq (Xai.XaW ⟨Xpl,trivial⟩)
def XjH (Xbz:(List UInt8)→Int→Int→Option (Int×Bool)) (XaU:Int→Int→Option (List UInt8)) (s:List UInt8) (ata1:Int) (k:Int) (n:Int):Option (List UInt8):=
 (Xbz s ata1 k).bind fun xg=>
 cond (!xg.2)
  (
  some (s))
  (
  XaK (decide ((0:Int)≤ata1∧ata1≤(s.length:Int))) <|
  (XaU n k).bind fun p=>
  XaK (decide ((s.take ata1.toNat).length+p.length<2^63)) <|
  XaK (decide ((0:Int)≤(wI .i64 (ata1+k))∧(wI .i64 (ata1+k))≤(s.length:Int))) <|
  let t:=(s.drop (wI .i64 (ata1+k)).toNat).take (s.length - (wI .i64 (ata1+k)).toNat)
  XaK (decide (((s.take ata1.toNat)++p).length+t.length<2^63)) <|
  some (((s.take ata1.toNat)++p)++t))
def rx87 (x:List UInt8):Xco:=⟨.string ⟨⟨x⟩⟩,[],[]⟩
def r87 (g:(List UInt8)→Int→Int→Int→Option (List UInt8)):Dec:=dV asS fun (y0:List UInt8)=>dV (asI .i64) fun (y1:Int)=>dV (asI .i64) fun (y2:Int)=>dV (asI .u64) fun (y3:Int)=>Xc4 (ofG (g y0 y1 y2 y3) rx87)
theorem r87_c {g:(List UInt8)→Int→Int→Int→Option (List UInt8)} {y0:List UInt8} {y1:Int} {y2:Int} {y3:Int} {x:List UInt8} (hx:g y0 y1 y2 y3=some x):r87 g [.string ⟨⟨y0⟩⟩,.int .i64 y1,.int .i64 y2,.int .u64 y3] []=some (rx87 x):=(XaS (XdJ)).trans ((XaS (XcI _)).trans ((XaS (XcI _)).trans ((XaS (XcI _)).trans (XaZ hx))))
def s87 (g:(List UInt8)→Int→Int→Int→Option (List UInt8)):Xbp:=⟨[.v,.v,.v,.v],r87 g⟩
theorem Xve {g:(List UInt8)→Int→Int→Int→Option (List UInt8)} {y0:List UInt8} {y1:Int} {y2:Int} {y3:Int} {x:List UInt8} (hx:g y0 y1 y2 y3=some x):(s87 g).run [.string ⟨⟨y0⟩⟩,.int .i64 y1,.int .i64 y2,.int .u64 y3] []=some (rx87 x):=r87_c hx
abbrev XzE (Xbz:(List UInt8)→Int→Int→Option (Int×Bool)) (XaU:Int→Int→Option (List UInt8)):List (Nat×Xbp):=[(70,s70 Xbz),(85,s85 XaU)]
theorem XGt (Xbz:(List UInt8)→Int→Int→Option (Int×Bool)) (XaU:Int→Int→Option (List UInt8)) (hS:Xai Tryz.prog (Xar (XzE Xbz XaU))) (s:List UInt8) (ata1:Int) (k:Int) (n:Int) (res:List UInt8) (h:XjH Xbz XaU s ata1 k n=some res) :
 XaD Tryz.prog 87 0 ⟨⟨87,34,[(0,.string ⟨⟨s⟩⟩),(1,.int .i64 ata1),(2,.int .i64 k),(3,.int .u64 n)],[.code XBo],[],false,none⟩,[],[],0⟩ (fun v H _=>Res 0 (rx87 res) v H):=by
 unfold XjH at h
 refine Xa9 Xam hS true 3000 ?_
 conv=>whnf
 replace h:=Xak.elim h;obtain ⟨xg,hy,h⟩:=h
 refine XaG.q rfl rfl (Xps hy) rfl rfl rfl ?_
 conv=>whnf
 refine br.h h ?_ ?_ ?_
 ·rfl
 ·clear h;intro hb h;conv=>whnf
  all_goals (cases h;exact Res.z rfl rfl rfl)
 clear h;intro hb h;conv=>whnf
 replace h:=XaK.elim h;obtain ⟨hb,h⟩:=h
 first|(refine req.intro hb ?_;conv=>whnf)|skip
 replace h:=Xak.elim h;obtain ⟨p,hy,h⟩:=h
 refine XaG.q rfl rfl (XkU hy) rfl rfl rfl ?_
 conv=>whnf
 replace h:=XaK.elim h;obtain ⟨hb,h⟩:=h
 first|(refine req.intro hb ?_;conv=>whnf)|skip
 replace h:=XaK.elim h;obtain ⟨hb,h⟩:=h
 first|(refine req.intro hb ?_;conv=>whnf)|skip
 let t:List UInt8:=(s.drop (wI .i64 (ata1+k)).toNat).take (s.length - (wI .i64 (ata1+k)).toNat)
 replace h:=XaK.elim h;obtain ⟨hb,h⟩:=h
 first|(refine req.intro hb ?_;conv=>whnf)|skip
 all_goals (cases h;exact Res.z rfl rfl rfl)
theorem ok87 (Xbz:(List UInt8)→Int→Int→Option (Int×Bool)) (XaU:Int→Int→Option (List UInt8)) (hS:Xai Tryz.prog (Xar (XzE Xbz XaU))):Xan Tryz.prog 87 (s87 (XjH Xbz XaU)):=by
 refine Xan.Xau Xam (fun ar os r ha hr=>?_) ⟨Tryz.f87,rfl,by decide,rfl⟩
 replace hr:r87 (XjH Xbz XaU) ar (XaA os)=some r:=hr
 unfold r87 at hr
 generalize hc:XaA os=C at hr
 replace hr:=dV.elim hr;obtain ⟨v0,l1,y0,rfl,e0,hr⟩:=hr;obtain rfl:=Xb7 _ _ e0
 replace hr:=dV.elim hr;obtain ⟨v1,l2,y1,rfl,e1,hr⟩:=hr;obtain rfl:=XbO _ _ _ e1
 replace hr:=dV.elim hr;obtain ⟨v2,l3,y2,rfl,e2,hr⟩:=hr;obtain rfl:=XbO _ _ _ e2
 replace hr:=dV.elim hr;obtain ⟨v3,l4,y3,rfl,e3,hr⟩:=hr;obtain rfl:=XbO _ _ _ e3
 replace hr:=Xdf hr;obtain ⟨rfl,rfl,x,h,rfl⟩:=hr
 obtain rfl:=Xao hc
 exact ⟨_,rfl,XGt Xbz XaU hS _ _ _ _ x h⟩
def Xb1:(List UInt8)→Int→Int→Int→Option (List UInt8):=XjH Xbz XaU
theorem Xzj:Xan Tryz.prog 87 (s87 Xb1):=ok87 Xbz XaU (Xai.XaW ⟨Xtp,Xpz,trivial⟩)
def Xg1 (l:List Int) (n1:Int):Option (Sum Int Int):=
 cond (decide (n1>65535))
  (
  let t:=wI .i64 ((n1.tmod 65536)+(wI .i64 (n1.tdiv 65536)))
  some (.inl t))
  (
  some (.inr (n1)))
def Xg9 (l:List Int) (n:Int) (i:Int):Option (Sum (Int×Int) Int):=
 cond (decide (i<(l.length:Int)))
  (
  XaK (decide ((0:Int)≤i∧i<(l.length:Int))) <|
  (l[i.toNat]?).bind fun (e:Int)=>
  some (.inl (wI .i64 (n+e),wI .i64 (i+1))))
  (
  (iter (fun st=>Xg1 l st) FUEL n).bind fun o=>some (.inr (o)))
def XjF (l:List Int):Option Int:=
 iter (fun st=>Xg9 l st.1 st.2) FUEL (0,0)
def XpD (x:Int):Xco:=⟨.int .i64 x,[],[none]⟩
def r123 (g:(List Int)→Option Int):Dec:=dSl 0 1 (unL (asI .i64)) fun (y0:List Int)=>Xc4 (ofG (g y0) XpD)
theorem XND {g:(List Int)→Option Int} {y0:List Int} {x:Int} (hx:g y0=some x):r123 g [.slice (some ⟨0,0,none⟩) y0.length 1] [some (vI .i64 y0)]=some (XpD x):=(XrN (XqR _ _)).trans (XaZ hx)
def s123 (g:(List Int)→Option Int):Xbp:=⟨[.sl 1],r123 g⟩
theorem XB4 {g:(List Int)→Option Int} {y0:List Int} {x:Int} (hx:g y0=some x):(s123 g).run [.slice (some ⟨0,0,none⟩) y0.length 1] [some (vI .i64 y0)]=some (XpD x):=XND hx
abbrev Xol:List (Nat×Xbp):=[]
def XiU (l:List Int) (n1:Int):VM:=
 ⟨⟨123,25,[(3,.int .i64 n1)],[.code XpL,.inLoop XpL,.inBlock 2,.code Xtb],[],false,none⟩,[],[(0,.row false (vI .i64 l))],1⟩
def Xi7 (l:List Int) (n:Int) (i:Int):VM:=
 ⟨⟨123,25,[(0,.slice (some ⟨0,0,none⟩) l.length 1),(3,.int .i64 n),(4,.int .i64 i)],[.code Xp3,.inLoop Xp3,.inBlock 0,.code Xuj],[],false,none⟩,[],[(0,.row false (vI .i64 l))],1⟩
theorem XuW (hS:Xai Tryz.prog (Xar (Xol))) (l:List Int) (res:Int):∀ fuel (st:Int) (o:Int),iter (fun st=>Xg1 l st) fuel st=some o→(o=res) →
 XaD Tryz.prog 123 1 (XiU l st) (fun v H _=>Res 1 (XpD res) v H):=by
 intro fuel st o h hc
 refine Xcm (head:=fun st=>XiU l st) (C:=fun o=>(o=res)) ?_ fuel st o h hc
 clear h hc o st fuel
 intro n1 o h hc
 replace h:Xg1 l n1=some o:=h
 show XaD Tryz.prog 123 1 (XiU l n1) (fun v H _=>Res 1 (XpD res) v H)
 unfold Xg1 at h
 refine Xa9 Xam hS true 3000 ?_
 conv=>whnf
 refine br.h2 h ?_ ?_ ?_
 ·rfl
 ·clear h;intro hb h;conv=>whnf
  all_goals (cases h;cases hc)
  all_goals exact Res.of [] rfl XeZ (by decide) XeW (XkX XeY)
 clear h;intro hb h;conv=>whnf
 let t:Int:=wI .i64 ((n1.tmod 65536)+(wI .i64 (n1.tdiv 65536)))
 cases h;simp only [Sum.elim_inl,XiU] at hc
 exact Xkm hc [(0,0)] rfl
theorem XuU (hS:Xai Tryz.prog (Xar (Xol))) (l:List Int) (res:Int):∀ fuel (st:Int×Int) (o:Int),iter (fun st=>Xg9 l st.1 st.2) fuel st=some o→(o=res) →
 XaD Tryz.prog 123 1 (Xi7 l st.1 st.2) (fun v H _=>Res 1 (XpD res) v H):=by
 intro fuel st o h hc
 refine Xcm (head:=fun st=>Xi7 l st.1 st.2) (C:=fun o=>(o=res)) ?_ fuel st o h hc
 clear h hc o st fuel
 intro st o h hc
 obtain ⟨n,i⟩:=st
 replace h:Xg9 l n i=some o:=h
 show XaD Tryz.prog 123 1 (Xi7 l n i) (fun v H _=>Res 1 (XpD res) v H)
 unfold Xg9 at h
 refine Xa9 Xam hS true 3000 ?_
 conv=>whnf
 refine br.h2 h ?_ ?_ ?_
 ·rfl
 ·clear h;intro hb h;conv=>whnf
  obtain ⟨y,hy,h2⟩:=Xak.elim h;cases h2
  have hl:=XuW hS _ res _ _ _ hy hc;simp only [XiU] at hl
  exact Xkm hl [(0,0)] rfl
 clear h;intro hb h;conv=>whnf
 replace h:=XaK.elim h;obtain ⟨hb,h⟩:=h
 first|(refine req.intro hb ?_;conv=>whnf)|skip
 replace h:=Xak.elim h;obtain ⟨e,hy,h⟩:=h
 refine rd.I hy (by first|rfl|(rw [Nat.zero_add,Nat.mul_one];try rfl;done)|omega) ?_
 conv=>whnf
 cases h;simp only [Sum.elim_inl,Xi7] at hc
 exact Xkm hc [(0,0)] rfl
theorem XyQ (hS:Xai Tryz.prog (Xar (Xol))) (l:List Int) (res:Int) (h:XjF l=some res) :
 XaD Tryz.prog 123 1 ⟨⟨123,25,[(0,.slice (some ⟨0,0,none⟩) l.length 1)],[.code Xvm],[],false,none⟩,[],[(0,.row false (vI .i64 l))],1⟩ (fun v H _=>Res 1 (XpD res) v H):=by
 unfold XjF at h
 refine Xa9 Xam hS true 3000 ?_
 conv=>whnf
 have hl:=XuU hS _ res _ _ _ h rfl;simp only [Xi7] at hl
 exact Xkm hl [(0,0)] rfl
theorem ok123 (hS:Xai Tryz.prog (Xar (Xol))):Xan Tryz.prog 123 (s123 (XjF)):=by
 refine Xan.Xau Xam (fun ar os r ha hr=>?_) ⟨Tryz.f123,rfl,by decide,rfl⟩
 replace hr:r123 (XjF) ar (XaA os)=some r:=hr
 unfold r123 at hr
 generalize hc:XaA os=C at hr
 have hq:=dSl.elim hr;clear hr;obtain ⟨c0,l1,C,y0,rfl,rfl,e0,hr⟩:=hq;obtain rfl:=Xrs e0
 replace hr:=Xdf hr;obtain ⟨rfl,rfl,x,h,rfl⟩:=hr
 obtain ⟨os,rfl,ha,hc⟩:=Xdr ha hc
 obtain rfl:=Xao hc
 exact ⟨_,rfl,XyQ hS _ x h⟩
def Xeu:(List Int)→Option Int:=XjF
theorem XDq:Xan Tryz.prog 123 (s123 Xeu):=ok123 (Xai.XaW trivial)
def XdZ (Xal:(List UInt8)→Int→Int→Option Int) (s1:List UInt8) (i:Int) (out1:List Int):Option (Sum ((List UInt8)×Int×(List Int)) (List Int)):=
 cond (decide (i<(s1.length:Int)))
  (
  (Xal s1 i 2).bind fun m=>
  XaK (decide ((out1.length+1)*8≤2^47)) <|
  let row:=out1++[m]
  some (.inl (s1,wI .i64 (i+2),row)))
  (
  some (.inr (out1)))
def XgS (Xal:(List UInt8)→Int→Int→Option Int) (s:List UInt8):Option (List Int):=
 cond (((s.length:Int).tmod 2)==1)
  (
  XaK (decide (s.length+1<2^63)) <|
  iter (fun st=>XdZ Xal st.1 st.2.1 st.2.2) FUEL (s++[0],0,[]))
  (
  iter (fun st=>XdZ Xal st.1 st.2.1 st.2.2) FUEL (s,0,[]))
def XsC (x:List Int):Xco:=⟨.slice (some ⟨0,0,none⟩) x.length 1,[(vI .i64 x)],[]⟩
def r124 (g:(List UInt8)→Option (List Int)):Dec:=dV asS fun (y0:List UInt8)=>Xc4 (ofG (g y0) XsC)
theorem XTO {g:(List UInt8)→Option (List Int)} {y0:List UInt8} {x:List Int} (hx:g y0=some x):r124 g [.string ⟨⟨y0⟩⟩] []=some (XsC x):=(XaS (XdJ)).trans (XaZ hx)
def s124 (g:(List UInt8)→Option (List Int)):Xbp:=⟨[.v],r124 g⟩
theorem XKY {g:(List UInt8)→Option (List Int)} {y0:List UInt8} {x:List Int} (hx:g y0=some x):(s124 g).run [.string ⟨⟨y0⟩⟩] []=some (XsC x):=XTO hx
abbrev Xqi (Xal:(List UInt8)→Int→Int→Option Int):List (Nat×Xbp):=[(44,s44 Xal)]
def Xij (s1:List UInt8) (i:Int) (out1:List Int):VM:=
 ⟨⟨124,24,[(0,.string ⟨⟨s1⟩⟩),(3,.slice (some ⟨0,0,none⟩) out1.length 1),(4,.int .i64 i)],[.code Xqr,.inLoop Xqr,.inBlock 0,.code XtM],[],false,none⟩,[],[(0,.row true (vI .i64 out1))],1⟩
theorem Xo8 (Xal:(List UInt8)→Int→Int→Option Int) (hS:Xai Tryz.prog (Xar (Xqi Xal))) (res:List Int):∀ fuel (st:(List UInt8)×Int×(List Int)) (o:List Int),iter (fun st=>XdZ Xal st.1 st.2.1 st.2.2) fuel st=some o→(o=res) →
 XaD Tryz.prog 124 0 (Xij st.1 st.2.1 st.2.2) (fun v H _=>Res 0 (XsC res) v H):=by
 intro fuel st o h hc
 refine Xcm (head:=fun st=>Xij st.1 st.2.1 st.2.2) (C:=fun o=>(o=res)) ?_ fuel st o h hc
 clear h hc o st fuel
 intro st o h hc
 obtain ⟨s1,i,out1⟩:=st
 replace h:XdZ Xal s1 i out1=some o:=h
 show XaD Tryz.prog 124 0 (Xij s1 i out1) (fun v H _=>Res 0 (XsC res) v H)
 unfold XdZ at h
 refine Xa9 Xam hS true 3000 ?_
 conv=>whnf
 refine br.h2 h ?_ ?_ ?_
 ·rfl
 ·clear h;intro hb h;conv=>whnf
  all_goals (cases h;cases hc)
  all_goals exact Res.of [0] rfl (Xr2 (rn_I) (XiN rfl) XeZ) (by decide) (XsB (by decide) XeW) XeY
 clear h;intro hb h;conv=>whnf
 replace h:=Xak.elim h;obtain ⟨m,hy,h⟩:=h
 refine XaG.q rfl rfl (Xe3 hy) rfl rfl rfl ?_
 conv=>whnf
 replace h:=XaK.elim h;obtain ⟨hb,h⟩:=h
 refine req.intro (XvN (of_decide_eq_true hb) (by first|rfl|omega|(simp;done)|(simp;omega)|(simp at *;omega)) rfl (by first|rfl|omega|(simp;done)|(simp;omega)|(simp at *;omega)) (by first|rfl|exact Xh5 _ _|exact XkF _|exact XkI _|exact XlD (by first|exact XdC|exact Xc9|exact XcM|exact Xce|exact XcB|exact Xcn|exact XcP|exact XdE|exact XdY|exact Xdw|exact Xdb|exact Xcj|exact Xdz|exact Xb3|exact Xa7|exact XdF|exact Xd1) _|(rw [Xgd];exact Xh5 _ _)|(simp [Xh5,XkF,XkI,Xlj,Xlb,XnT,Xn7];done)|(simp;exact List.all_eq_true.1 (XlD (by first|exact XdC|exact Xc9|exact XcM|exact Xce|exact XcB|exact Xcn|exact XcP|exact XdE|exact XdY|exact Xdw|exact Xdb|exact Xcj|exact Xdz|exact Xb3|exact Xa7|exact XdF|exact Xd1) _))) rfl) ?_
 conv=>whnf
 let row:List Int:=out1++[m]
 refine X4G (xs:=out1) (ys:=[m]) rfl (by first|rfl|omega) (by first|rfl|omega|(simp;done)|(simp;omega)|(simp at *;omega)) (by first|rfl|omega|(simp;done)|(simp;omega)|(simp at *;omega)) ?_
 conv=>whnf
 cases h;simp only [Sum.elim_inl,Xij] at hc
 exact Xkm hc [(0,2)] rfl
theorem XwO (Xal:(List UInt8)→Int→Int→Option Int) (hS:Xai Tryz.prog (Xar (Xqi Xal))) (s:List UInt8) (res:List Int) (h:XgS Xal s=some res) :
 XaD Tryz.prog 124 0 ⟨⟨124,24,[(0,.string ⟨⟨s⟩⟩)],[.code XvR],[],false,none⟩,[],[],0⟩ (fun v H _=>Res 0 (XsC res) v H):=by
 unfold XgS at h
 refine Xa9 Xam hS true 3000 ?_
 conv=>whnf
 refine br.h2 h ?_ ?_ ?_
 ·rfl
 ·clear h;intro hb h;conv=>whnf
  have hl:=Xo8 Xal hS res _ _ _ h rfl;simp only [Xij] at hl
  refine XaD.nilT 3 1 ?_
  exact Xkm hl [(0,0)] rfl
 clear h;intro hb h;conv=>whnf
 replace h:=XaK.elim h;obtain ⟨hb,h⟩:=h
 first|(refine req.intro hb ?_;conv=>whnf)|skip
 have hl:=Xo8 Xal hS res _ _ _ h rfl;simp only [Xij] at hl
 refine XaD.nilT 3 1 ?_
 exact Xkm hl [(0,0)] rfl
theorem ok124 (Xal:(List UInt8)→Int→Int→Option Int) (hS:Xai Tryz.prog (Xar (Xqi Xal))):Xan Tryz.prog 124 (s124 (XgS Xal)):=by
 refine Xan.Xau Xam (fun ar os r ha hr=>?_) ⟨Tryz.f124,rfl,by decide,rfl⟩
 replace hr:r124 (XgS Xal) ar (XaA os)=some r:=hr
 unfold r124 at hr
 generalize hc:XaA os=C at hr
 replace hr:=dV.elim hr;obtain ⟨v0,l1,y0,rfl,e0,hr⟩:=hr;obtain rfl:=Xb7 _ _ e0
 replace hr:=Xdf hr;obtain ⟨rfl,rfl,x,h,rfl⟩:=hr
 obtain rfl:=Xao hc
 exact ⟨_,rfl,XwO Xal hS _ x h⟩
def XcT:(List UInt8)→Option (List Int):=XgS Xal
theorem XDx:Xan Tryz.prog 124 (s124 XcT):=ok124 Xal (Xai.XaW ⟨Xmh,trivial⟩)
def XjA (Xeu:(List Int)→Option Int) (XcT:(List UInt8)→Option (List Int)) (s:List UInt8):Option Int:=
 (XcT s).bind fun w=>
 (Xeu w).bind fun a=>
 some (a)
def XwJ (x:Int):Xco:=⟨.int .i64 x,[],[]⟩
def r100 (g:(List UInt8)→Option Int):Dec:=dV asS fun (y0:List UInt8)=>Xc4 (ofG (g y0) XwJ)
theorem XMX {g:(List UInt8)→Option Int} {y0:List UInt8} {x:Int} (hx:g y0=some x):r100 g [.string ⟨⟨y0⟩⟩] []=some (XwJ x):=(XaS (XdJ)).trans (XaZ hx)
def XG0 (g:(List UInt8)→Option Int):Xbp:=⟨[.v],r100 g⟩
theorem Xn2 {g:(List UInt8)→Option Int} {y0:List UInt8} {x:Int} (hx:g y0=some x):(XG0 g).run [.string ⟨⟨y0⟩⟩] []=some (XwJ x):=XMX hx
abbrev Xtz (Xeu:(List Int)→Option Int) (XcT:(List UInt8)→Option (List Int)):List (Nat×Xbp):=[(123,s123 Xeu),(124,s124 XcT)]
theorem XwV (Xeu:(List Int)→Option Int) (XcT:(List UInt8)→Option (List Int)) (hS:Xai Tryz.prog (Xar (Xtz Xeu XcT))) (s:List UInt8) (res:Int) (h:XjA Xeu XcT s=some res) :
 XaD Tryz.prog 100 0 ⟨⟨100,6,[(0,.string ⟨⟨s⟩⟩)],[.code XAW],[],false,none⟩,[],[],0⟩ (fun v H _=>Res 0 (XwJ res) v H):=by
 unfold XjA at h
 refine Xa9 Xam hS true 3000 ?_
 conv=>whnf
 replace h:=Xak.elim h;obtain ⟨w,hy,h⟩:=h
 refine XaG.Xba [] (Xat (aqs:=[.string ⟨⟨s⟩⟩]) (ws:=[]) (n:=1) (m:=0) (t':=1) (Xas rfl rfl Xbd) rfl (by rfl) (XKY hy) rfl rfl rfl rfl Xbc (XhO (rn_I) Xbb) rfl) ?_
 conv=>whnf
 replace h:=Xak.elim h;obtain ⟨a,hy,h⟩:=h
 refine XaG.Xba [] (Xat (aqs:=[.slice (some ⟨0,0,none⟩) (w:List Int).length 1]) (ws:=[.win 0 0 (w.length*1) false]) (n:=0) (m:=0) (t':=1) (Xas (by first|rfl|exact Xhl rfl rfl (by first|rfl|omega) (by first|rfl|(simp;done))|exact XiL rfl rfl (by first|rfl|omega) (by first|rfl|omega) (by first|omega|(simp at *;omega))) rfl Xbd) rfl (by rfl) (XB4 hy) rfl rfl rfl rfl (XgA rfl Xbc) Xbb rfl) ?_
 conv=>whnf
 all_goals (cases h;exact Res.z rfl rfl rfl)
theorem ok100 (Xeu:(List Int)→Option Int) (XcT:(List UInt8)→Option (List Int)) (hS:Xai Tryz.prog (Xar (Xtz Xeu XcT))):Xan Tryz.prog 100 (XG0 (XjA Xeu XcT)):=by
 refine Xan.Xau Xam (fun ar os r ha hr=>?_) ⟨Tryz.f100,rfl,by decide,rfl⟩
 replace hr:r100 (XjA Xeu XcT) ar (XaA os)=some r:=hr
 unfold r100 at hr
 generalize hc:XaA os=C at hr
 replace hr:=dV.elim hr;obtain ⟨v0,l1,y0,rfl,e0,hr⟩:=hr;obtain rfl:=Xb7 _ _ e0
 replace hr:=Xdf hr;obtain ⟨rfl,rfl,x,h,rfl⟩:=hr
 obtain rfl:=Xao hc
 exact ⟨_,rfl,XwV Xeu XcT hS _ x h⟩
def Xbf:(List UInt8)→Option Int:=XjA Xeu XcT
theorem XnK:Xan Tryz.prog 100 (XG0 Xbf):=ok100 Xeu XcT (Xai.XaW ⟨XDq,XDx,trivial⟩)
def Xk5 (Xbf:(List UInt8)→Option Int) (s:List UInt8):Option Int:=
 (Xbf s).bind fun s1=>
 some (wI .i64 (65535 - s1))
def rx88 (x:Int):Xco:=⟨.int .i64 x,[],[]⟩
def r88 (g:(List UInt8)→Option Int):Dec:=dV asS fun (y0:List UInt8)=>Xc4 (ofG (g y0) rx88)
theorem r88_c {g:(List UInt8)→Option Int} {y0:List UInt8} {x:Int} (hx:g y0=some x):r88 g [.string ⟨⟨y0⟩⟩] []=some (rx88 x):=(XaS (XdJ)).trans (XaZ hx)
def s88 (g:(List UInt8)→Option Int):Xbp:=⟨[.v],r88 g⟩
theorem Xvi {g:(List UInt8)→Option Int} {y0:List UInt8} {x:Int} (hx:g y0=some x):(s88 g).run [.string ⟨⟨y0⟩⟩] []=some (rx88 x):=r88_c hx
abbrev XAv (Xbf:(List UInt8)→Option Int):List (Nat×Xbp):=[(100,XG0 Xbf)]
theorem XIk (Xbf:(List UInt8)→Option Int) (hS:Xai Tryz.prog (Xar (XAv Xbf))) (s:List UInt8) (res:Int) (h:Xk5 Xbf s=some res) :
 XaD Tryz.prog 88 0 ⟨⟨88,6,[(0,.string ⟨⟨s⟩⟩)],[.code XL7],[],false,none⟩,[],[],0⟩ (fun v H _=>Res 0 (rx88 res) v H):=by
 unfold Xk5 at h
 refine Xa9 Xam hS true 3000 ?_
 conv=>whnf
 replace h:=Xak.elim h;obtain ⟨s1,hy,h⟩:=h
 refine XaG.q rfl rfl (Xn2 hy) rfl rfl rfl ?_
 conv=>whnf
 all_goals (cases h;exact Res.z rfl rfl rfl)
theorem ok88 (Xbf:(List UInt8)→Option Int) (hS:Xai Tryz.prog (Xar (XAv Xbf))):Xan Tryz.prog 88 (s88 (Xk5 Xbf)):=by
 refine Xan.Xau Xam (fun ar os r ha hr=>?_) ⟨Tryz.f88,rfl,by decide,rfl⟩
 replace hr:r88 (Xk5 Xbf) ar (XaA os)=some r:=hr
 unfold r88 at hr
 generalize hc:XaA os=C at hr
 replace hr:=dV.elim hr;obtain ⟨v0,l1,y0,rfl,e0,hr⟩:=hr;obtain rfl:=Xb7 _ _ e0
 replace hr:=Xdf hr;obtain ⟨rfl,rfl,x,h,rfl⟩:=hr
 obtain rfl:=Xao hc
 exact ⟨_,rfl,XIk Xbf hS _ x h⟩
def Xc1:(List UInt8)→Option Int:=Xk5 Xbf
theorem XAh:Xan Tryz.prog 88 (s88 Xc1):=ok88 Xbf (Xai.XaW ⟨XnK,trivial⟩)
def Xh9 (Xby:(List UInt8)→Option Int) (s:List UInt8):Option Int:=
 (Xby s).bind fun s1=>
 some (wI .i64 (65535 - s1))
def rx78 (x:Int):Xco:=⟨.int .i64 x,[],[]⟩
def r78 (g:(List UInt8)→Option Int):Dec:=dV asS fun (y0:List UInt8)=>Xc4 (ofG (g y0) rx78)
theorem r78_c {g:(List UInt8)→Option Int} {y0:List UInt8} {x:Int} (hx:g y0=some x):r78 g [.string ⟨⟨y0⟩⟩] []=some (rx78 x):=(XaS (XdJ)).trans (XaZ hx)
def s78 (g:(List UInt8)→Option Int):Xbp:=⟨[.v],r78 g⟩
theorem Xvb {g:(List UInt8)→Option Int} {y0:List UInt8} {x:Int} (hx:g y0=some x):(s78 g).run [.string ⟨⟨y0⟩⟩] []=some (rx78 x):=r78_c hx
abbrev XzC (Xby:(List UInt8)→Option Int):List (Nat×Xbp):=[(112,X3d Xby)]
theorem XLd (Xby:(List UInt8)→Option Int) (hS:Xai Tryz.prog (Xar (XzC Xby))) (s:List UInt8) (res:Int) (h:Xh9 Xby s=some res) :
 XaD Tryz.prog 78 0 ⟨⟨78,6,[(0,.string ⟨⟨s⟩⟩)],[.code XN0],[],false,none⟩,[],[],0⟩ (fun v H _=>Res 0 (rx78 res) v H):=by
 unfold Xh9 at h
 refine Xa9 Xam hS true 3000 ?_
 conv=>whnf
 replace h:=Xak.elim h;obtain ⟨s1,hy,h⟩:=h
 refine XaG.q rfl rfl (Xu7 hy) rfl rfl rfl ?_
 conv=>whnf
 all_goals (cases h;exact Res.z rfl rfl rfl)
theorem ok78 (Xby:(List UInt8)→Option Int) (hS:Xai Tryz.prog (Xar (XzC Xby))):Xan Tryz.prog 78 (s78 (Xh9 Xby)):=by
 refine Xan.Xau Xam (fun ar os r ha hr=>?_) ⟨Tryz.f78,rfl,by decide,rfl⟩
 replace hr:r78 (Xh9 Xby) ar (XaA os)=some r:=hr
 unfold r78 at hr
 generalize hc:XaA os=C at hr
 replace hr:=dV.elim hr;obtain ⟨v0,l1,y0,rfl,e0,hr⟩:=hr;obtain rfl:=Xb7 _ _ e0
 replace hr:=Xdf hr;obtain ⟨rfl,rfl,x,h,rfl⟩:=hr
 obtain rfl:=Xao hc
 exact ⟨_,rfl,XLd Xby hS _ x h⟩
def XbG:(List UInt8)→Option Int:=Xh9 Xby
theorem XBN:Xan Tryz.prog 78 (s78 XbG):=ok78 Xby (Xai.XaW ⟨Xtc,trivial⟩)
def Xfl (Xby:(List UInt8)→Option Int) (s:List UInt8):Option Bool:=
 (Xby s).bind fun s1=>
 some (s1==65535)
def XxZ (x:Bool):Xco:=⟨.bool x,[],[]⟩
def r131 (g:(List UInt8)→Option Bool):Dec:=dV asS fun (y0:List UInt8)=>Xc4 (ofG (g y0) XxZ)
theorem X0P {g:(List UInt8)→Option Bool} {y0:List UInt8} {x:Bool} (hx:g y0=some x):r131 g [.string ⟨⟨y0⟩⟩] []=some (XxZ x):=(XaS (XdJ)).trans (XaZ hx)
def XLn (g:(List UInt8)→Option Bool):Xbp:=⟨[.v],r131 g⟩
theorem Xoo {g:(List UInt8)→Option Bool} {y0:List UInt8} {x:Bool} (hx:g y0=some x):(XLn g).run [.string ⟨⟨y0⟩⟩] []=some (XxZ x):=X0P hx
abbrev Xtm (Xby:(List UInt8)→Option Int):List (Nat×Xbp):=[(112,X3d Xby)]
theorem Xxt (Xby:(List UInt8)→Option Int) (hS:Xai Tryz.prog (Xar (Xtm Xby))) (s:List UInt8) (res:Bool) (h:Xfl Xby s=some res) :
 XaD Tryz.prog 131 0 ⟨⟨131,6,[(0,.string ⟨⟨s⟩⟩)],[.code XzH],[],false,none⟩,[],[],0⟩ (fun v H _=>Res 0 (XxZ res) v H):=by
 unfold Xfl at h
 refine Xa9 Xam hS true 3000 ?_
 conv=>whnf
 replace h:=Xak.elim h;obtain ⟨s1,hy,h⟩:=h
 refine XaG.q rfl rfl (Xu7 hy) rfl rfl rfl ?_
 conv=>whnf
 all_goals (cases h;exact Res.z rfl rfl rfl)
theorem ok131 (Xby:(List UInt8)→Option Int) (hS:Xai Tryz.prog (Xar (Xtm Xby))):Xan Tryz.prog 131 (XLn (Xfl Xby)):=by
 refine Xan.Xau Xam (fun ar os r ha hr=>?_) ⟨Tryz.f131,rfl,by decide,rfl⟩
 replace hr:r131 (Xfl Xby) ar (XaA os)=some r:=hr
 unfold r131 at hr
 generalize hc:XaA os=C at hr
 replace hr:=dV.elim hr;obtain ⟨v0,l1,y0,rfl,e0,hr⟩:=hr;obtain rfl:=Xb7 _ _ e0
 replace hr:=Xdf hr;obtain ⟨rfl,rfl,x,h,rfl⟩:=hr
 obtain rfl:=Xao hc
 exact ⟨_,rfl,Xxt Xby hS _ x h⟩
def XaB:(List UInt8)→Option Bool:=Xfl Xby
theorem XpS:Xan Tryz.prog 131 (XLn XaB):=ok131 Xby (Xai.XaW ⟨Xtc,trivial⟩)
end Go.Vm.Code
namespace Go.Vm.Code
open Go Go.Vm
theorem XyV {s:List UInt8} {i:Nat} (h:i+1<s.length):XsL s (i:Int) 2=(((s[i].toNat*256+s[i+1].toNat:Nat):Int),true):=by
 unfold XsL
 rw [if_pos (by omega)]
 have e:(s.drop (i:Int).toNat).take (2:Int).toNat=[s[i],s[i+1]]:=by
  show (s.drop i).take 2=_
  rw [List.drop_eq_getElem_cons (by omega:i<s.length),List.drop_eq_getElem_cons h];rfl
 rw [e];simp [Xe6]
def Xfs:List UInt8→List Int
 | []=>[]
 | [b]=>[((b.toNat*256:Nat):Int)]
 | b::c::l=>((b.toNat*256+c.toNat:Nat):Int)::Xfs l
theorem Xsn {s:List UInt8} {i:Nat} (h:i+1<s.length):Xfs (s.drop i)=((s[i].toNat*256+s[i+1].toNat:Nat):Int)::Xfs (s.drop (i+2)):=by
 rw [List.drop_eq_getElem_cons (by omega:i<s.length),List.drop_eq_getElem_cons h];rfl
theorem Xm2:∀ s:List UInt8,s.length%2=1→Xfs (s++[0])=Xfs s
 | [],h=>by simp at h
 | [b],_=>by
   show [((b.toNat*256+0:Nat):Int)]=[((b.toNat*256:Nat):Int)]
   rw [Nat.add_zero]
 | b::c::l,h=>by
   have:=Xm2 l (by simp at h;omega)
   simp only [List.cons_append,Xfs,this]
theorem Xno:∀ s:List UInt8,(Xfs s).sum=(Xgz s:Int)
 | []=>rfl
 | [b]=>by simp only [Xfs,Xgz,List.sum_cons,List.sum_nil,Int.add_zero]
 | b::c::l=>by
   have:=Xno l
   simp only [Xfs,Xgz,List.sum_cons,this];omega
theorem Xny:∀ s:List UInt8,∀ e∈Xfs s,0≤e∧e≤65535
 | [],e,h=>by simp [Xfs] at h
 | [b],e,h=>by simp [Xfs] at h;have:=b.toNat_lt;omega
 | b::c::l,e,h=>by
   simp only [Xfs,List.mem_cons] at h
   rcases h with rfl|h
   ·have:=b.toNat_lt;have:=c.toNat_lt;omega
   ·exact Xny l e h
theorem Xnb:∀ s:List UInt8,(Xfs s).length=(s.length+1)/2
 | []=>rfl
 | [b]=>by simp [Xfs]
 | b::c::l=>by
   have:=Xnb l
   simp only [Xfs,List.length_cons,this];omega
theorem XjV {s:List UInt8} (h:s.length<2^40) (he:s.length%2=0):iter (fun (st:List UInt8×Int×List Int)=>XdZ Xal st.1 st.2.1 st.2.2) FUEL (s,0,[])=some (Xfs s):=by
 have key:=iter_eq (step:=fun (st:List UInt8×Int×List Int)=>XdZ Xal st.1 st.2.1 st.2.2) (fun st=>st.2.2++Xfs (s.drop st.2.1.toNat)) (fun st=>st.1=s∧∃ i:Nat,st.2.1=i∧i%2=0∧i≤s.length∧st.2.2.length≤i) (fun st=>(s.length - st.2.1).toNat) ?_ FUEL (s,0,[]) ⟨rfl,0,rfl,by omega,by omega,by simp⟩ (by rw [XeV];simp only;omega)
 ·rw [key];simp
 rintro ⟨s1,p,out⟩ ⟨h1,i,h2,h3,h4,h5⟩
 simp only at h1 h2 h5 ⊢
 subst h1 h2
 unfold XdZ
 by_cases hi:i<s1.length
 ·have hi2:i+1<s1.length:=by omega
  refine .inr ⟨(s1,((i+2:Nat):Int),out++[((s1[i].toNat*256+s1[i+1].toNat:Nat):Int)]),?_,⟨rfl,i+2,rfl,by omega,by omega,by simp;omega⟩,by simp only;omega,?_⟩
  ·have b1:=s1[i].toNat_lt
   have b2:=s1[i+1].toNat_lt
   rw [XaV (by omega),Xf1 (by omega),XyV hi2,Option.bind_some,Xaz (by omega),XcC (by omega) (by omega),XcC (by omega) (by omega)];rfl
  ·simp only [Int.toNat_natCast]
   rw [Xsn hi2];simp
 ·refine .inl ?_
  rw [XaM (by omega)]
  simp [List.drop_eq_nil_of_le (by omega:s1.length≤i),Xfs]
theorem XoW {s:List UInt8} (h:s.length<2^39):XcT s=some (Xfs s):=by
 unfold XcT XgS
 have ea:((s.length:Int).tmod 2==1)=decide (s.length%2=1):=by
  rw [Int.tmod_eq_emod_of_nonneg (by omega),Bool.eq_iff_iff,beq_iff_eq,decide_eq_true_eq];omega
 rw [ea]
 by_cases h2:s.length%2=1
 ·rw [XaV h2,Xaz (by omega),XjV (by simp only [List.length_append,List.length_cons,List.length_nil];omega) (by simp only [List.length_append,List.length_cons,List.length_nil];omega),Xm2 s h2]
 ·rw [XaM h2,XjV (by omega) (by omega)]
theorem Xqc {l:List Int} {n:Int} (h0:0≤n) (h1:n<2^62):iter (fun st=>Xg1 l st) FUEL n=some ((norm n.toNat:Nat):Int):=by
 refine iter_eq (fun n=>((norm n.toNat:Nat):Int)) (fun n=>0≤n∧n<2^62) (fun n=>n.toNat) ?_ FUEL _ ⟨h0,h1⟩ (by rw [XeV];omega)
 intro s ⟨a,b⟩
 unfold Xg1
 by_cases hs:s>65535
 ·refine .inr ⟨s%65536+s/65536,?_,⟨by omega,by omega⟩,by omega,?_⟩
  ·rw [XaV hs,Int.tdiv_eq_ediv_of_nonneg a,Int.tmod_eq_emod_of_nonneg a,XcC (n:=s/65536) (by omega) (by omega),XcC (by omega) (by omega)]
  ·have:norm (s%65536+s/65536).toNat=norm s.toNat:=
    (norm_eq (norm_le _) (by have:=Xl8 (s%65536+s/65536).toNat;omega) (by have:=XkB (s%65536+s/65536).toNat;omega)).symm
   rw [this]
 ·refine .inl ?_
  rw [XaM hs]
  have:=XmT (n:=s.toNat) (by omega)
  simp only [this]
  rw [Int.toNat_of_nonneg a]
theorem Xsf {l:List Int} (hl:l.length<2^40) (hr:∀ e∈l,0≤e∧e≤65535):Xeu l=some ((norm l.sum.toNat:Nat):Int):=by
 unfold Xeu XjF
 have key:=iter_eq (step:=fun (st:Int×Int)=>Xg9 l st.1 st.2) (fun st=>((norm (st.1+(l.drop st.2.toNat).sum).toNat:Nat):Int)) (fun st=>0≤st.1∧0≤st.2∧st.2≤l.length∧st.1≤st.2*65535) (fun st=>(l.length - st.2).toNat) ?_ FUEL (0,0) ⟨by simp,by simp,by simp,by simp⟩ (by rw [XeV];simp only;omega)
 ·rw [key];simp
 rintro ⟨n,p⟩ ⟨g1,g2,g3,g4⟩
 simp only at g1 g2 g3 g4 ⊢
 obtain ⟨i,rfl⟩:=Int.eq_ofNat_of_zero_le g2
 simp only [Int.toNat_natCast]
 unfold Xg9
 by_cases hi:i<l.length
 ·have hx:=hr l[i] (List.getElem_mem hi)
  refine .inr ⟨(n+l[i],((i+1:Nat):Int)),?_,⟨by simp only;omega,by simp only;omega,by simp only;omega,by simp only;omega⟩,by simp only;omega,?_⟩
  ·simp (disch:=omega) only [XaV,Xaz,Int.toNat_natCast,List.getElem?_eq_getElem,Option.bind_some,XcC];rfl
  ·simp only [Int.toNat_natCast]
   rw [List.drop_eq_getElem_cons hi,List.sum_cons,Int.add_assoc]
 ·refine .inl ?_
  rw [XaM (by omega),Xqc g1 (by omega),List.drop_eq_nil_of_le (by omega)]
  simp
theorem XjG {s:List UInt8} (h:s.length<2^39):Xbf s=some ((norm (Xgz s):Nat):Int):=by
 unfold Xbf XjA
 rw [XoW h,Option.bind_some,Xsf (by rw [Xnb];omega) (Xny s),Xno];rfl
def XpI (s:List UInt8) (p k n:Int):List UInt8:=if 1≤k∧k≤8∧0≤p∧p+k≤s.length then s.take p.toNat++be n.toNat k.toNat++s.drop (p+k).toNat else s
theorem XAP {s:List UInt8} {p k n:Int} (hs:s.length<2^40) (hn:0≤n):Xbm s p k n=some (XpI s p k n):=by
 unfold Xbm XgP XpI
 rw [XbY hn,Option.bind_some]
 unfold XcG
 by_cases hk:1≤k∧k≤8
 ·rw [if_pos hk]
  have e:(be n.toNat k.toNat==[])=false:=by
   rw [beq_eq_false_iff_ne];intro h;have:=congrArg List.length h;simp at this;omega
  rw [e,cond_false]
  by_cases h1:p<0
  ·rw [XaV h1,if_neg (by omega)]
  rw [XaM h1,XcC (n:=(s.length:Int) - k) (by omega) (by omega)]
  by_cases h2:(s.length:Int) - k<p
  ·simp only []
   rw [XaV h2,if_neg (by omega)]
  simp only []
  have e1:(p+k).toNat=p.toNat+k.toNat:=by omega
  have e2:((s.drop (p+k).toNat).take (s.length - (p+k).toNat))=s.drop (p+k).toNat:=List.take_of_length_le (by simp)
  rw [XaM h2,Xaz (by omega),XcC (n:=p+k) (by omega) (by omega),e2,Xaz (by simp;omega),Xaz (by omega),Xaz (by simp;omega),if_pos (by omega)]
 ·rw [if_neg hk,if_neg (by omega)];rfl
theorem Xnc {s:List UInt8} {p k n:Int} (hs:s.length<2^40) (hn:0≤n) (hn2:n<2^64):Xb1 s p k n=some (XpI s p k n):=by
 unfold Xb1 XjH XpI
 rw [XhW (by omega),Option.bind_some]
 unfold XsL
 by_cases hc:1≤k∧k≤8∧0≤p∧p+k≤s.length
 ·rw [if_pos hc,if_pos hc]
  have e2:((s.drop (p+k).toNat).take (s.length - (p+k).toNat))=s.drop (p+k).toNat:=List.take_of_length_le (by simp)
  simp only [Bool.not_true,cond_false]
  rw [Xdt hn hn2,Option.bind_some,Xaz (by omega),XcC (n:=p+k) (by omega) (by omega),e2]
  unfold XcG
  rw [if_pos (by omega),Xaz (by simp;omega),Xaz (by omega),Xaz (by simp;omega)]
 ·rw [if_neg hc,if_neg hc];rfl
theorem X2y {s:List UInt8} (h:s.length<2^39):XbG s=some (65535 - ((norm (Xgz s):Nat):Int)):=by
 unfold XbG Xh9
 have:=norm_le (Xgz s)
 rw [XzG s (by omega),Option.bind_some,XcC (by omega) (by omega)]
theorem XoM {s:List UInt8} (h:s.length<2^39):Xc1 s=some (65535 - ((norm (Xgz s):Nat):Int)):=by
 unfold Xc1 Xk5
 have:=norm_le (Xgz s)
 rw [XjG h,Option.bind_some,XcC (by omega) (by omega)]
theorem XnH {s:List UInt8} (h:s.length<2^39):XaB s=some (((norm (Xgz s):Nat):Int)==65535):=by
 unfold XaB Xfl
 rw [XzG s (by omega),Option.bind_some]
end Go.Vm.Code
namespace Go.Vm.Code
open Go Go.Vm Go.Proofs
set_option maxRecDepth 100000
set_option maxHeartbeats 4000000
set_option linter.unusedVariables false
def Xfb (a:Xaa):Option Bool:=
 cond (a.V6)
  (
  some (true))
  (
  cond (a.Hi==0)
   (
   some (decide (a.Lo<4294967296)))
   (
   some (false)))
def Xx2 (x:Bool):Xco:=⟨.bool x,[],[]⟩
def r113 (g:Xaa→Option Bool):Dec:=dV Xa8 fun (y0:Xaa)=>Xc4 (ofG (g y0) Xx2)
theorem XWY {g:Xaa→Option Bool} {y0:Xaa} {x:Bool} (hx:g y0=some x):r113 g [.agg ⟨[.bool y0.V6,.int .u64 y0.Hi,.int .u64 y0.Lo]⟩] []=some (Xx2 x):=(XaS (XaY _)).trans (XaZ hx)
def XLu (g:Xaa→Option Bool):Xbp:=⟨[.v],r113 g⟩
theorem XnL {g:Xaa→Option Bool} {y0:Xaa} {x:Bool} (hx:g y0=some x):(XLu g).run [.agg ⟨[.bool y0.V6,.int .u64 y0.Hi,.int .u64 y0.Lo]⟩] []=some (Xx2 x):=XWY hx
abbrev Xub:List (Nat×Xbp):=[]
theorem Xyp (hS:Xai Tryz.prog (Xar (Xub))) (a:Xaa) (res:Bool) (h:Xfb a=some res) :
 XaD Tryz.prog 113 0 ⟨⟨113,15,[(0,.agg ⟨[.bool a.V6,.int .u64 a.Hi,.int .u64 a.Lo]⟩)],[.code Xzm],[],false,none⟩,[],[],0⟩ (fun v H _=>Res 0 (Xx2 res) v H):=by
 unfold Xfb at h
 refine Xa9 Xam hS true 3000 ?_
 conv=>whnf
 refine br.h h ?_ ?_ ?_
 ·rfl
 ·clear h;intro hb h;conv=>whnf
  all_goals (cases h;exact Res.z rfl rfl rfl)
 clear h;intro hb h;conv=>whnf
 refine br.h h ?_ ?_ ?_
 ·rfl
 ·clear h;intro hb h;conv=>whnf
  all_goals (cases h;exact Res.z rfl rfl rfl)
 clear h;intro hb h;conv=>whnf
 all_goals (cases h;exact Res.z rfl rfl rfl)
theorem ok113 (hS:Xai Tryz.prog (Xar (Xub))):Xan Tryz.prog 113 (XLu (Xfb)):=by
 refine Xan.Xau Xam (fun ar os r ha hr=>?_) ⟨Tryz.f113,rfl,by decide,rfl⟩
 replace hr:r113 (Xfb) ar (XaA os)=some r:=hr
 unfold r113 at hr
 generalize hc:XaA os=C at hr
 replace hr:=dV.elim hr;obtain ⟨v0,l1,y0,rfl,e0,hr⟩:=hr;obtain rfl:=XaN _ _ e0
 replace hr:=Xdf hr;obtain ⟨rfl,rfl,x,h,rfl⟩:=hr
 obtain rfl:=Xao hc
 exact ⟨_,rfl,Xyp hS _ x h⟩
def XaL:Xaa→Option Bool:=Xfb
theorem XqE:Xan Tryz.prog 113 (XLu XaL):=ok113 (Xai.XaW trivial)
def Xhj (XaL:Xaa→Option Bool) (Xaq:Int→Int→Option (List UInt8)) (a:Xaa):Option (List UInt8):=
 (XaL a).bind fun xr=>
 cond (!xr)
  (
  some ([]))
  (
  cond (a.V6)
   (
   (Xaq a.Hi 8).bind fun p=>
   (Xaq a.Lo 8).bind fun p1=>
   XaK (decide (p.length+p1.length<2^63)) <|
   some (p++p1))
   (
   (Xaq a.Lo 4).bind fun p2=>
   some (p2)))
def rx80 (x:List UInt8):Xco:=⟨.string ⟨⟨x⟩⟩,[],[]⟩
def r80 (g:Xaa→Option (List UInt8)):Dec:=dV Xa8 fun (y0:Xaa)=>Xc4 (ofG (g y0) rx80)
theorem r80_c {g:Xaa→Option (List UInt8)} {y0:Xaa} {x:List UInt8} (hx:g y0=some x):r80 g [.agg ⟨[.bool y0.V6,.int .u64 y0.Hi,.int .u64 y0.Lo]⟩] []=some (rx80 x):=(XaS (XaY _)).trans (XaZ hx)
def s80 (g:Xaa→Option (List UInt8)):Xbp:=⟨[.v],r80 g⟩
theorem XlJ {g:Xaa→Option (List UInt8)} {y0:Xaa} {x:List UInt8} (hx:g y0=some x):(s80 g).run [.agg ⟨[.bool y0.V6,.int .u64 y0.Hi,.int .u64 y0.Lo]⟩] []=some (rx80 x):=r80_c hx
abbrev XBA (XaL:Xaa→Option Bool) (Xaq:Int→Int→Option (List UInt8)):List (Nat×Xbp):=[(113,XLu XaL),(42,s42 Xaq)]
theorem XJ5 (XaL:Xaa→Option Bool) (Xaq:Int→Int→Option (List UInt8)) (hS:Xai Tryz.prog (Xar (XBA XaL Xaq))) (a:Xaa) (res:List UInt8) (h:Xhj XaL Xaq a=some res) :
 XaD Tryz.prog 80 0 ⟨⟨80,20,[(0,.agg ⟨[.bool a.V6,.int .u64 a.Hi,.int .u64 a.Lo]⟩)],[.code XAM],[],false,none⟩,[],[],0⟩ (fun v H _=>Res 0 (rx80 res) v H):=by
 unfold Xhj at h
 refine Xa9 Xam hS true 3000 ?_
 conv=>whnf
 replace h:=Xak.elim h;obtain ⟨xr,hy,h⟩:=h
 refine XaG.q rfl rfl (XnL hy) rfl rfl rfl ?_
 conv=>whnf
 refine br.h h ?_ ?_ ?_
 ·rfl
 ·clear h;intro hb h;conv=>whnf
  all_goals (cases h;exact Res.z rfl rfl rfl)
 clear h;intro hb h;conv=>whnf
 refine br.h2 h ?_ ?_ ?_
 ·rfl
 ·clear h;intro hb h;conv=>whnf
  replace h:=Xak.elim h;obtain ⟨p2,hy,h⟩:=h
  refine XaG.q rfl rfl (Xj1 hy) rfl rfl rfl ?_
  conv=>whnf
  all_goals (cases h;exact Res.z rfl rfl rfl)
 clear h;intro hb h;conv=>whnf
 replace h:=Xak.elim h;obtain ⟨p,hy,h⟩:=h
 refine XaG.q rfl rfl (Xj1 hy) rfl rfl rfl ?_
 conv=>whnf
 replace h:=Xak.elim h;obtain ⟨p1,hy,h⟩:=h
 refine XaG.q rfl rfl (Xj1 hy) rfl rfl rfl ?_
 conv=>whnf
 replace h:=XaK.elim h;obtain ⟨hb,h⟩:=h
 first|(refine req.intro hb ?_;conv=>whnf)|skip
 all_goals (cases h;exact Res.z rfl rfl rfl)
theorem ok80 (XaL:Xaa→Option Bool) (Xaq:Int→Int→Option (List UInt8)) (hS:Xai Tryz.prog (Xar (XBA XaL Xaq))):Xan Tryz.prog 80 (s80 (Xhj XaL Xaq)):=by
 refine Xan.Xau Xam (fun ar os r ha hr=>?_) ⟨Tryz.f80,rfl,by decide,rfl⟩
 replace hr:r80 (Xhj XaL Xaq) ar (XaA os)=some r:=hr
 unfold r80 at hr
 generalize hc:XaA os=C at hr
 replace hr:=dV.elim hr;obtain ⟨v0,l1,y0,rfl,e0,hr⟩:=hr;obtain rfl:=XaN _ _ e0
 replace hr:=Xdf hr;obtain ⟨rfl,rfl,x,h,rfl⟩:=hr
 obtain rfl:=Xao hc
 exact ⟨_,rfl,XJ5 XaL Xaq hS _ x h⟩
def Xa3:Xaa→Option (List UInt8):=Xhj XaL Xaq
theorem XtT:Xan Tryz.prog 80 (s80 Xa3):=ok80 XaL Xaq (Xai.XaW ⟨XqE,Xpl,trivial⟩)
def Xgc (a:Xaa):Option Bool:=
 cond (a.V6)
  (
  some (true))
  (
  cond (a.Hi==0)
   (
   some (decide (a.Lo<4294967296)))
   (
   some (false)))
def rx97 (x:Bool):Xco:=⟨.bool x,[],[]⟩
def r97 (g:Xaa→Option Bool):Dec:=dV Xa8 fun (y0:Xaa)=>Xc4 (ofG (g y0) rx97)
theorem r97_c {g:Xaa→Option Bool} {y0:Xaa} {x:Bool} (hx:g y0=some x):r97 g [.agg ⟨[.bool y0.V6,.int .u64 y0.Hi,.int .u64 y0.Lo]⟩] []=some (rx97 x):=(XaS (XaY _)).trans (XaZ hx)
def s97 (g:Xaa→Option Bool):Xbp:=⟨[.v],r97 g⟩
theorem Xq0 {g:Xaa→Option Bool} {y0:Xaa} {x:Bool} (hx:g y0=some x):(s97 g).run [.agg ⟨[.bool y0.V6,.int .u64 y0.Hi,.int .u64 y0.Lo]⟩] []=some (rx97 x):=r97_c hx
abbrev XBa:List (Nat×Xbp):=[]
theorem XGd (hS:Xai Tryz.prog (Xar (XBa))) (a:Xaa) (res:Bool) (h:Xgc a=some res) :
 XaD Tryz.prog 97 0 ⟨⟨97,15,[(0,.agg ⟨[.bool a.V6,.int .u64 a.Hi,.int .u64 a.Lo]⟩)],[.code XXh],[],false,none⟩,[],[],0⟩ (fun v H _=>Res 0 (rx97 res) v H):=by
 unfold Xgc at h
 refine Xa9 Xam hS true 3000 ?_
 conv=>whnf
 refine br.h h ?_ ?_ ?_
 ·rfl
 ·clear h;intro hb h;conv=>whnf
  all_goals (cases h;exact Res.z rfl rfl rfl)
 clear h;intro hb h;conv=>whnf
 refine br.h h ?_ ?_ ?_
 ·rfl
 ·clear h;intro hb h;conv=>whnf
  all_goals (cases h;exact Res.z rfl rfl rfl)
 clear h;intro hb h;conv=>whnf
 all_goals (cases h;exact Res.z rfl rfl rfl)
theorem ok97 (hS:Xai Tryz.prog (Xar (XBa))):Xan Tryz.prog 97 (s97 (Xgc)):=by
 refine Xan.Xau Xam (fun ar os r ha hr=>?_) ⟨Tryz.f97,rfl,by decide,rfl⟩
 replace hr:r97 (Xgc) ar (XaA os)=some r:=hr
 unfold r97 at hr
 generalize hc:XaA os=C at hr
 replace hr:=dV.elim hr;obtain ⟨v0,l1,y0,rfl,e0,hr⟩:=hr;obtain rfl:=XaN _ _ e0
 replace hr:=Xdf hr;obtain ⟨rfl,rfl,x,h,rfl⟩:=hr
 obtain rfl:=Xao hc
 exact ⟨_,rfl,XGd hS _ x h⟩
def Xa0:Xaa→Option Bool:=Xgc
theorem XuJ:Xan Tryz.prog 97 (s97 Xa0):=ok97 (Xai.XaW trivial)
def XiB (XaU:Int→Int→Option (List UInt8)) (Xa0:Xaa→Option Bool) (a:Xaa):Option (List UInt8):=
 (Xa0 a).bind fun xr=>
 cond (!xr)
  (
  some ([]))
  (
  cond (a.V6)
   (
   (XaU a.Hi 8).bind fun p=>
   (XaU a.Lo 8).bind fun p1=>
   XaK (decide (p.length+p1.length<2^63)) <|
   some (p++p1))
   (
   (XaU a.Lo 4).bind fun p2=>
   some (p2)))
def rx92 (x:List UInt8):Xco:=⟨.string ⟨⟨x⟩⟩,[],[]⟩
def r92 (g:Xaa→Option (List UInt8)):Dec:=dV Xa8 fun (y0:Xaa)=>Xc4 (ofG (g y0) rx92)
theorem r92_c {g:Xaa→Option (List UInt8)} {y0:Xaa} {x:List UInt8} (hx:g y0=some x):r92 g [.agg ⟨[.bool y0.V6,.int .u64 y0.Hi,.int .u64 y0.Lo]⟩] []=some (rx92 x):=(XaS (XaY _)).trans (XaZ hx)
def s92 (g:Xaa→Option (List UInt8)):Xbp:=⟨[.v],r92 g⟩
theorem XjX {g:Xaa→Option (List UInt8)} {y0:Xaa} {x:List UInt8} (hx:g y0=some x):(s92 g).run [.agg ⟨[.bool y0.V6,.int .u64 y0.Hi,.int .u64 y0.Lo]⟩] []=some (rx92 x):=r92_c hx
abbrev XzR (XaU:Int→Int→Option (List UInt8)) (Xa0:Xaa→Option Bool):List (Nat×Xbp):=[(85,s85 XaU),(97,s97 Xa0)]
theorem XFo (XaU:Int→Int→Option (List UInt8)) (Xa0:Xaa→Option Bool) (hS:Xai Tryz.prog (Xar (XzR XaU Xa0))) (a:Xaa) (res:List UInt8) (h:XiB XaU Xa0 a=some res) :
 XaD Tryz.prog 92 0 ⟨⟨92,18,[(0,.agg ⟨[.bool a.V6,.int .u64 a.Hi,.int .u64 a.Lo]⟩)],[.code XAr],[],false,none⟩,[],[],0⟩ (fun v H _=>Res 0 (rx92 res) v H):=by
 unfold XiB at h
 refine Xa9 Xam hS true 3000 ?_
 conv=>whnf
 replace h:=Xak.elim h;obtain ⟨xr,hy,h⟩:=h
 refine XaG.q rfl rfl (Xq0 hy) rfl rfl rfl ?_
 conv=>whnf
 refine br.h h ?_ ?_ ?_
 ·rfl
 ·clear h;intro hb h;conv=>whnf
  all_goals (cases h;exact Res.z rfl rfl rfl)
 clear h;intro hb h;conv=>whnf
 refine br.h2 h ?_ ?_ ?_
 ·rfl
 ·clear h;intro hb h;conv=>whnf
  replace h:=Xak.elim h;obtain ⟨p2,hy,h⟩:=h
  refine XaG.q rfl rfl (XkU hy) rfl rfl rfl ?_
  conv=>whnf
  all_goals (cases h;exact Res.z rfl rfl rfl)
 clear h;intro hb h;conv=>whnf
 replace h:=Xak.elim h;obtain ⟨p,hy,h⟩:=h
 refine XaG.q rfl rfl (XkU hy) rfl rfl rfl ?_
 conv=>whnf
 replace h:=Xak.elim h;obtain ⟨p1,hy,h⟩:=h
 refine XaG.q rfl rfl (XkU hy) rfl rfl rfl ?_
 conv=>whnf
 replace h:=XaK.elim h;obtain ⟨hb,h⟩:=h
 first|(refine req.intro hb ?_;conv=>whnf)|skip
 all_goals (cases h;exact Res.z rfl rfl rfl)
theorem ok92 (XaU:Int→Int→Option (List UInt8)) (Xa0:Xaa→Option Bool) (hS:Xai Tryz.prog (Xar (XzR XaU Xa0))):Xan Tryz.prog 92 (s92 (XiB XaU Xa0)):=by
 refine Xan.Xau Xam (fun ar os r ha hr=>?_) ⟨Tryz.f92,rfl,by decide,rfl⟩
 replace hr:r92 (XiB XaU Xa0) ar (XaA os)=some r:=hr
 unfold r92 at hr
 generalize hc:XaA os=C at hr
 replace hr:=dV.elim hr;obtain ⟨v0,l1,y0,rfl,e0,hr⟩:=hr;obtain rfl:=XaN _ _ e0
 replace hr:=Xdf hr;obtain ⟨rfl,rfl,x,h,rfl⟩:=hr
 obtain rfl:=Xao hc
 exact ⟨_,rfl,XFo XaU Xa0 hS _ x h⟩
def Xbl:Xaa→Option (List UInt8):=XiB XaU Xa0
theorem XvA:Xan Tryz.prog 92 (s92 Xbl):=ok92 XaU Xa0 (Xai.XaW ⟨Xpz,XuJ,trivial⟩)
def Xb0 (Xaq:Int→Int→Option (List UInt8)) (l:List Int) (i:Int) (c:List Int):Option (Sum (Int×(List Int)) (List UInt8)):=
 let t:=decide ((wI .i64 (i+1))<(l.length:Int))
 cond (t)
  (
  XaK (decide ((0:Int)≤i∧i<(l.length:Int))) <|
  (l[i.toNat]?).bind fun (e2:Int)=>
  XaK (decide ((0:Int)≤(wI .i64 (i+1))∧(wI .i64 (i+1))<(l.length:Int))) <|
  (l[(wI .i64 (i+1)).toNat]?).bind fun (e3:Int)=>
  (Xaq (wI .u64 e2) e3).bind fun p1=>
  XaK (decide ((c.length+p1.length)*1≤2^47)) <|
  let row:=c++(bI p1)
  some (.inl (wI .i64 (i+2),row)))
  (
  XaK (decide (c.length<2^63)) <|
  some (.inr (iB c)))
def Xfa (Xaq:Int→Int→Option (List UInt8)) (l:List Int):Option (List UInt8):=
 cond (decide (1<(l.length:Int)))
  (
  XaK (decide ((0:Int)≤(0:Int)∧(0:Int)<(l.length:Int))) <|
  (l[0]?).bind fun (e:Int)=>
  XaK (decide ((0:Int)≤(1:Int)∧(1:Int)<(l.length:Int))) <|
  (l[1]?).bind fun (e1:Int)=>
  (Xaq (wI .u64 e) e1).bind fun p=>
  XaK (decide (p.length*1≤2^47)) <|
  iter (fun st=>Xb0 Xaq l st.1 st.2) FUEL (2,bI p))
  (
  some ([]))
def XLw (x:List UInt8):Xco:=⟨.string ⟨⟨x⟩⟩,[],[none]⟩
def r82 (g:(List Int)→Option (List UInt8)):Dec:=dSl 0 1 (unL (asI .i64)) fun (y0:List Int)=>Xc4 (ofG (g y0) XLw)
theorem r82_c {g:(List Int)→Option (List UInt8)} {y0:List Int} {x:List UInt8} (hx:g y0=some x):r82 g [.slice (some ⟨0,0,none⟩) y0.length 1] [some (vI .i64 y0)]=some (XLw x):=(XrN (XqR _ _)).trans (XaZ hx)
def s82 (g:(List Int)→Option (List UInt8)):Xbp:=⟨[.sl 1],r82 g⟩
theorem XrE {g:(List Int)→Option (List UInt8)} {y0:List Int} {x:List UInt8} (hx:g y0=some x):(s82 g).run [.slice (some ⟨0,0,none⟩) y0.length 1] [some (vI .i64 y0)]=some (XLw x):=r82_c hx
abbrev XuQ (Xaq:Int→Int→Option (List UInt8)):List (Nat×Xbp):=[(42,s42 Xaq)]
def XkE (l:List Int) (i:Int) (c:List Int):VM:=
 ⟨⟨82, 25, [(0, .slice (some ⟨0, 0, none⟩) l.length 1), (3, .pointer (some ⟨1, 0, none⟩)), (4, .int .i64 i)], [.code Xu6, .inLoop Xu6, .inBlock 0, .code Xzt], [], false, none⟩, [], [(0, .row false (vI .i64 l)), (1, .ty 184 [.pointer (some ⟨1, 0, none⟩), .func (.method "") ⟨[.slice (some ⟨12, 0, none⟩) c.length 1]⟩ ⟨[]⟩]), (12, .ty 5 (vI .u8 c))], 13⟩
theorem Xxg (Xaq:Int→Int→Option (List UInt8)) (hS:Xai Tryz.prog (Xar (XuQ Xaq))) (l:List Int) (res:List UInt8):∀ fuel (st:Int×(List Int)) (o:List UInt8),iter (fun st=>Xb0 Xaq l st.1 st.2) fuel st=some o→(o=res) →
 XaD Tryz.prog 82 1 (XkE l st.1 st.2) (fun v H _=>Res 1 (XLw res) v H):=by
 intro fuel st o h hc
 refine Xcm (head:=fun st=>XkE l st.1 st.2) (C:=fun o=>(o=res)) ?_ fuel st o h hc
 clear h hc o st fuel
 intro st o h hc
 obtain ⟨i,c⟩:=st
 replace h:Xb0 Xaq l i c=some o:=h
 show XaD Tryz.prog 82 1 (XkE l i c) (fun v H _=>Res 1 (XLw res) v H)
 unfold Xb0 at h
 refine Xa9 Xam hS true 3000 ?_
 conv=>whnf
 let t:Bool:=decide ((wI .i64 (i+1))<(l.length:Int))
 refine br.h2 h ?_ ?_ ?_
 ·rfl
 ·clear h;intro hb h;conv=>whnf
  replace h:=XaK.elim h;obtain ⟨hb,h⟩:=h
  refine req.intro (XRn rfl (by first|rfl|(simp;done)) (by first|rfl|omega|(simp;done)|(simp;omega)|(simp at *;omega)) (of_decide_eq_true hb)) ?_
  conv=>whnf
  refine pk_us ?_
  conv=>whnf
  all_goals (cases h;cases hc)
  all_goals exact Res.of [] rfl XeZ (by decide) XeW (XkX XeY)
 clear h;intro hb h;conv=>whnf
 replace h:=XaK.elim h;obtain ⟨hb,h⟩:=h
 first|(refine req.intro hb ?_;conv=>whnf)|skip
 replace h:=Xak.elim h;obtain ⟨e2,hy,h⟩:=h
 refine rd.I hy (by first|rfl|(rw [Nat.zero_add,Nat.mul_one];try rfl;done)|omega) ?_
 conv=>whnf
 replace h:=XaK.elim h;obtain ⟨hb,h⟩:=h
 first|(refine req.intro hb ?_;conv=>whnf)|skip
 replace h:=Xak.elim h;obtain ⟨e3,hy,h⟩:=h
 refine rd.I hy (by first|rfl|(rw [Nat.zero_add,Nat.mul_one];try rfl;done)|omega) ?_
 conv=>whnf
 replace h:=Xak.elim h;obtain ⟨p1,hy,h⟩:=h
 refine XaG.q rfl rfl (Xj1 hy) rfl rfl rfl ?_
 conv=>whnf
 replace h:=XaK.elim h;obtain ⟨hb,h⟩:=h
 refine req.intro (XEV (of_decide_eq_true hb) (by first|rfl|omega|(simp;done)|(simp;omega)|(simp at *;omega)) rfl rfl (by first|rfl|omega|(simp;done)|(simp;omega)|(simp at *;omega)) (by first|rfl|exact Xh5 _ _|exact XkF _|exact XkI _|exact XlD (by first|exact XdC|exact Xc9|exact XcM|exact Xce|exact XcB|exact Xcn|exact XcP|exact XdE|exact XdY|exact Xdw|exact Xdb|exact Xcj|exact Xdz|exact Xb3|exact Xa7|exact XdF|exact Xd1) _|(rw [Xgd];exact Xh5 _ _)|(simp [Xh5,XkF,XkI,Xlj,Xlb,XnT,Xn7];done)|(simp;exact List.all_eq_true.1 (XlD (by first|exact XdC|exact Xc9|exact XcM|exact Xce|exact XcB|exact Xcn|exact XcP|exact XdE|exact XdY|exact Xdw|exact Xdb|exact Xcj|exact Xdz|exact Xb3|exact Xa7|exact XdF|exact Xd1) _))) rfl) ?_
 conv=>whnf
 let row:List Int:=c++(bI p1)
 refine XXo (xs:=c) (ys:=bI p1) (Xgd _) (by first|rfl|omega|(simp;done)|(simp;omega)|(simp at *;omega)) (by first|rfl|omega|(simp;done)|(simp;omega)|(simp at *;omega)) ?_
 conv=>whnf
 cases h;simp only [Sum.elim_inl,XkE] at hc
 exact Xkm hc [(0,0),(1,1),(12,23)] rfl
theorem XH2 (Xaq:Int→Int→Option (List UInt8)) (hS:Xai Tryz.prog (Xar (XuQ Xaq))) (l:List Int) (res:List UInt8) (h:Xfa Xaq l=some res) :
 XaD Tryz.prog 82 1 ⟨⟨82,25,[(0,.slice (some ⟨0,0,none⟩) l.length 1)],[.code XBl],[],false,none⟩,[],[(0,.row false (vI .i64 l))],1⟩ (fun v H _=>Res 1 (XLw res) v H):=by
 unfold Xfa at h
 refine Xa9 Xam hS true 3000 ?_
 conv=>whnf
 refine Xa9 Xam hS true 3000 ?_
 conv=>whnf
 refine br.h2 h ?_ ?_ ?_
 ·rfl
 ·clear h;intro hb h;conv=>whnf
  all_goals (cases h)
  all_goals exact Res.of [] rfl XeZ (by decide) XeW (XkX XeY)
 clear h;intro hb h;conv=>whnf
 replace h:=XaK.elim h;obtain ⟨hb,h⟩:=h
 first|(refine req.intro hb ?_;conv=>whnf)|skip
 replace h:=Xak.elim h;obtain ⟨e,hy,h⟩:=h
 refine rd.I hy (by first|rfl|(rw [Nat.zero_add,Nat.mul_one];try rfl;done)|omega) ?_
 conv=>whnf
 replace h:=XaK.elim h;obtain ⟨hb,h⟩:=h
 first|(refine req.intro hb ?_;conv=>whnf)|skip
 replace h:=Xak.elim h;obtain ⟨e1,hy,h⟩:=h
 refine rd.I hy (by first|rfl|(rw [Nat.zero_add,Nat.mul_one];try rfl;done)|omega) ?_
 conv=>whnf
 replace h:=Xak.elim h;obtain ⟨p,hy,h⟩:=h
 refine XaG.q rfl rfl (Xj1 hy) rfl rfl rfl ?_
 conv=>whnf
 replace h:=XaK.elim h;obtain ⟨hb,h⟩:=h
 refine req.intro (XyS (of_decide_eq_true hb) (by first|rfl|omega|(simp;done)|(simp;omega)|(simp at *;omega)) rfl rfl) ?_
 conv=>whnf
 refine XIh (ys:=bI p) (Xgd _) (by first|rfl|omega|(simp;done)|(simp;omega)|(simp at *;omega)) ?_
 conv=>whnf
 have hl:=Xxg Xaq hS _ res _ _ _ h rfl;simp only [XkE] at hl
 exact Xkm hl [(0,0),(1,1),(12,12)] rfl
theorem ok82 (Xaq:Int→Int→Option (List UInt8)) (hS:Xai Tryz.prog (Xar (XuQ Xaq))):Xan Tryz.prog 82 (s82 (Xfa Xaq)):=by
 refine Xan.Xau Xam (fun ar os r ha hr=>?_) ⟨Tryz.f82,rfl,by decide,rfl⟩
 replace hr:r82 (Xfa Xaq) ar (XaA os)=some r:=hr
 unfold r82 at hr
 generalize hc:XaA os=C at hr
 have hq:=dSl.elim hr;clear hr;obtain ⟨c0,l1,C,y0,rfl,rfl,e0,hr⟩:=hq;obtain rfl:=Xrs e0
 replace hr:=Xdf hr;obtain ⟨rfl,rfl,x,h,rfl⟩:=hr
 obtain ⟨os,rfl,ha,hc⟩:=Xdr ha hc
 obtain rfl:=Xao hc
 exact ⟨_,rfl,XH2 Xaq hS _ x h⟩
def Xa6:(List Int)→Option (List UInt8):=Xfa Xaq
theorem XBI:Xan Tryz.prog 82 (s82 Xa6):=ok82 Xaq (Xai.XaW ⟨Xpl,trivial⟩)
def Xee (Xa3:Xaa→Option (List UInt8)) (XaL:Xaa→Option Bool) (Xa6:(List Int)→Option (List UInt8)) (src:Xaa) (dst:Xaa) (proto:Int) (n:Int):Option (List UInt8):=
 (XaL src).bind fun xr=>
 cond (!xr)
  (
  some ([]))
  (
  (XaL dst).bind fun xr1=>
  cond (!xr1)
   (
   some ([]))
   (
   cond (!(src.V6==dst.V6))
    (
    some ([]))
    (
    (Xa3 src).bind fun p=>
    (Xa3 dst).bind fun p1=>
    XaK (decide (p.length+p1.length<2^63)) <|
    cond (src.V6)
     (
     (Xa6 [n,4,0,3,proto,1]).bind fun xr2=>
     XaK (decide ((p++p1).length+xr2.length<2^63)) <|
     some ((p++p1)++xr2))
     (
     (Xa6 [0,1,proto,1,n,2]).bind fun xr3=>
     XaK (decide ((p++p1).length+xr3.length<2^63)) <|
     some ((p++p1)++xr3)))))
def XyL (x:List UInt8):Xco:=⟨.string ⟨⟨x⟩⟩,[],[]⟩
def r109 (g:Xaa→Xaa→Int→Int→Option (List UInt8)):Dec:=dV Xa8 fun (y0:Xaa)=>dV Xa8 fun (y1:Xaa)=>dV (asI .i64) fun (y2:Int)=>dV (asI .i64) fun (y3:Int)=>Xc4 (ofG (g y0 y1 y2 y3) XyL)
theorem XMu {g:Xaa→Xaa→Int→Int→Option (List UInt8)} {y0:Xaa} {y1:Xaa} {y2:Int} {y3:Int} {x:List UInt8} (hx:g y0 y1 y2 y3=some x):r109 g [.agg ⟨[.bool y0.V6,.int .u64 y0.Hi,.int .u64 y0.Lo]⟩,.agg ⟨[.bool y1.V6,.int .u64 y1.Hi,.int .u64 y1.Lo]⟩,.int .i64 y2,.int .i64 y3] []=some (XyL x):=(XaS (XaY _)).trans ((XaS (XaY _)).trans ((XaS (XcI _)).trans ((XaS (XcI _)).trans (XaZ hx))))
def XLr (g:Xaa→Xaa→Int→Int→Option (List UInt8)):Xbp:=⟨[.v,.v,.v,.v],r109 g⟩
theorem Xqo {g:Xaa→Xaa→Int→Int→Option (List UInt8)} {y0:Xaa} {y1:Xaa} {y2:Int} {y3:Int} {x:List UInt8} (hx:g y0 y1 y2 y3=some x):(XLr g).run [.agg ⟨[.bool y0.V6,.int .u64 y0.Hi,.int .u64 y0.Lo]⟩,.agg ⟨[.bool y1.V6,.int .u64 y1.Hi,.int .u64 y1.Lo]⟩,.int .i64 y2,.int .i64 y3] []=some (XyL x):=XMu hx
abbrev Xvp (Xa3:Xaa→Option (List UInt8)) (XaL:Xaa→Option Bool) (Xa6:(List Int)→Option (List UInt8)):List (Nat×Xbp):=[(80,s80 Xa3),(113,XLu XaL),(82,s82 Xa6)]
theorem Xyj (Xa3:Xaa→Option (List UInt8)) (XaL:Xaa→Option Bool) (Xa6:(List Int)→Option (List UInt8)) (hS:Xai Tryz.prog (Xar (Xvp Xa3 XaL Xa6))) (src:Xaa) (dst:Xaa) (proto:Int) (n:Int) (res:List UInt8) (h:Xee Xa3 XaL Xa6 src dst proto n=some res) :
 XaD Tryz.prog 109 0 ⟨⟨109,44,[(0,.agg ⟨[.bool src.V6,.int .u64 src.Hi,.int .u64 src.Lo]⟩),(1,.agg ⟨[.bool dst.V6,.int .u64 dst.Hi,.int .u64 dst.Lo]⟩),(2,.int .i64 proto),(3,.int .i64 n)],[.code Xvc],[],false,none⟩,[],[],0⟩ (fun v H _=>Res 0 (XyL res) v H):=by
 unfold Xee at h
 refine Xa9 Xam hS true 3000 ?_
 conv=>whnf
 replace h:=Xak.elim h;obtain ⟨xr,hy,h⟩:=h
 refine XaG.q rfl rfl (XnL hy) rfl rfl rfl ?_
 conv=>whnf
 refine br.h h ?_ ?_ ?_
 ·rfl
 ·clear h;intro hb h;conv=>whnf
  all_goals (cases h;exact Res.z rfl rfl rfl)
 clear h;intro hb h;conv=>whnf
 replace h:=Xak.elim h;obtain ⟨xr1,hy,h⟩:=h
 refine XaG.q rfl rfl (XnL hy) rfl rfl rfl ?_
 conv=>whnf
 refine br.h h ?_ ?_ ?_
 ·rfl
 ·clear h;intro hb h;conv=>whnf
  all_goals (cases h;exact Res.z rfl rfl rfl)
 clear h;intro hb h;conv=>whnf
 refine br.h h ?_ ?_ ?_
 ·rfl
 ·clear h;intro hb h;conv=>whnf
  all_goals (cases h;exact Res.z rfl rfl rfl)
 clear h;intro hb h;conv=>whnf
 replace h:=Xak.elim h;obtain ⟨p,hy,h⟩:=h
 refine XaG.q rfl rfl (XlJ hy) rfl rfl rfl ?_
 conv=>whnf
 replace h:=Xak.elim h;obtain ⟨p1,hy,h⟩:=h
 refine XaG.q rfl rfl (XlJ hy) rfl rfl rfl ?_
 conv=>whnf
 replace h:=XaK.elim h;obtain ⟨hb,h⟩:=h
 first|(refine req.intro hb ?_;conv=>whnf)|skip
 refine br.h h ?_ ?_ ?_
 ·rfl
 ·clear h;intro hb h;conv=>whnf
  replace h:=Xak.elim h;obtain ⟨xr2,hy,h⟩:=h
  refine XaG.Xba [] (Xat (aqs:=[.slice (some ⟨0,0,none⟩) ([n,4,0,3,proto,1]:List Int).length 1]) (ws:=[.win 5 0 (6*1) false]) (n:=0) (m:=0) (t':=6) (Xas (by first|rfl|exact Xhl rfl rfl (by first|rfl|omega) (by first|rfl|(simp;done))|exact XiL rfl rfl (by first|rfl|omega) (by first|rfl|omega) (by first|omega|(simp at *;omega))) rfl Xbd) rfl (by rfl) (XrE hy) rfl rfl rfl rfl (XgA rfl Xbc) Xbb rfl) ?_
  conv=>whnf
  replace h:=XaK.elim h;obtain ⟨hb,h⟩:=h
  first|(refine req.intro hb ?_;conv=>whnf)|skip
  all_goals (cases h;exact Res.z rfl rfl rfl)
 clear h;intro hb h;conv=>whnf
 replace h:=Xak.elim h;obtain ⟨xr3,hy,h⟩:=h
 refine XaG.Xba [] (Xat (aqs:=[.slice (some ⟨0,0,none⟩) ([0,1,proto,1,n,2]:List Int).length 1]) (ws:=[.win 5 0 (6*1) false]) (n:=0) (m:=0) (t':=6) (Xas (by first|rfl|exact Xhl rfl rfl (by first|rfl|omega) (by first|rfl|(simp;done))|exact XiL rfl rfl (by first|rfl|omega) (by first|rfl|omega) (by first|omega|(simp at *;omega))) rfl Xbd) rfl (by rfl) (XrE hy) rfl rfl rfl rfl (XgA rfl Xbc) Xbb rfl) ?_
 conv=>whnf
 replace h:=XaK.elim h;obtain ⟨hb,h⟩:=h
 first|(refine req.intro hb ?_;conv=>whnf)|skip
 all_goals (cases h;exact Res.z rfl rfl rfl)
theorem ok109 (Xa3:Xaa→Option (List UInt8)) (XaL:Xaa→Option Bool) (Xa6:(List Int)→Option (List UInt8)) (hS:Xai Tryz.prog (Xar (Xvp Xa3 XaL Xa6))):Xan Tryz.prog 109 (XLr (Xee Xa3 XaL Xa6)):=by
 refine Xan.Xau Xam (fun ar os r ha hr=>?_) ⟨Tryz.f109,rfl,by decide,rfl⟩
 replace hr:r109 (Xee Xa3 XaL Xa6) ar (XaA os)=some r:=hr
 unfold r109 at hr
 generalize hc:XaA os=C at hr
 replace hr:=dV.elim hr;obtain ⟨v0,l1,y0,rfl,e0,hr⟩:=hr;obtain rfl:=XaN _ _ e0
 replace hr:=dV.elim hr;obtain ⟨v1,l2,y1,rfl,e1,hr⟩:=hr;obtain rfl:=XaN _ _ e1
 replace hr:=dV.elim hr;obtain ⟨v2,l3,y2,rfl,e2,hr⟩:=hr;obtain rfl:=XbO _ _ _ e2
 replace hr:=dV.elim hr;obtain ⟨v3,l4,y3,rfl,e3,hr⟩:=hr;obtain rfl:=XbO _ _ _ e3
 replace hr:=Xdf hr;obtain ⟨rfl,rfl,x,h,rfl⟩:=hr
 obtain rfl:=Xao hc
 exact ⟨_,rfl,Xyj Xa3 XaL Xa6 hS _ _ _ _ x h⟩
def Xav:Xaa→Xaa→Int→Int→Option (List UInt8):=Xee Xa3 XaL Xa6
theorem Xqy:Xan Tryz.prog 109 (XLr Xav):=ok109 Xa3 XaL Xa6 (Xai.XaW ⟨XtT,XqE,XBI,trivial⟩)
def Xix (XaU:Int→Int→Option (List UInt8)) (n:Int) (k:Int):Option (List UInt8):=
 (XaU (wI .u64 n) k).bind fun p=>
 some (p)
def rx94 (x:List UInt8):Xco:=⟨.string ⟨⟨x⟩⟩,[],[]⟩
def r94 (g:Int→Int→Option (List UInt8)):Dec:=dV (asI .i64) fun (y0:Int)=>dV (asI .i64) fun (y1:Int)=>Xc4 (ofG (g y0 y1) rx94)
theorem r94_c {g:Int→Int→Option (List UInt8)} {y0:Int} {y1:Int} {x:List UInt8} (hx:g y0 y1=some x):r94 g [.int .i64 y0,.int .i64 y1] []=some (rx94 x):=(XaS (XcI _)).trans ((XaS (XcI _)).trans (XaZ hx))
def s94 (g:Int→Int→Option (List UInt8)):Xbp:=⟨[.v,.v],r94 g⟩
theorem Xen {g:Int→Int→Option (List UInt8)} {y0:Int} {y1:Int} {x:List UInt8} (hx:g y0 y1=some x):(s94 g).run [.int .i64 y0,.int .i64 y1] []=some (rx94 x):=r94_c hx
abbrev XAS (XaU:Int→Int→Option (List UInt8)):List (Nat×Xbp):=[(85,s85 XaU)]
theorem XIo (XaU:Int→Int→Option (List UInt8)) (hS:Xai Tryz.prog (Xar (XAS XaU))) (n:Int) (k:Int) (res:List UInt8) (h:Xix XaU n k=some res) :
 XaD Tryz.prog 94 0 ⟨⟨94,9,[(0,.int .i64 n),(1,.int .i64 k)],[.code X3G],[],false,none⟩,[],[],0⟩ (fun v H _=>Res 0 (rx94 res) v H):=by
 unfold Xix at h
 refine Xa9 Xam hS true 3000 ?_
 conv=>whnf
 replace h:=Xak.elim h;obtain ⟨p,hy,h⟩:=h
 refine XaG.q rfl rfl (XkU hy) rfl rfl rfl ?_
 conv=>whnf
 all_goals (cases h;exact Res.z rfl rfl rfl)
theorem ok94 (XaU:Int→Int→Option (List UInt8)) (hS:Xai Tryz.prog (Xar (XAS XaU))):Xan Tryz.prog 94 (s94 (Xix XaU)):=by
 refine Xan.Xau Xam (fun ar os r ha hr=>?_) ⟨Tryz.f94,rfl,by decide,rfl⟩
 replace hr:r94 (Xix XaU) ar (XaA os)=some r:=hr
 unfold r94 at hr
 generalize hc:XaA os=C at hr
 replace hr:=dV.elim hr;obtain ⟨v0,l1,y0,rfl,e0,hr⟩:=hr;obtain rfl:=XbO _ _ _ e0
 replace hr:=dV.elim hr;obtain ⟨v1,l2,y1,rfl,e1,hr⟩:=hr;obtain rfl:=XbO _ _ _ e1
 replace hr:=Xdf hr;obtain ⟨rfl,rfl,x,h,rfl⟩:=hr
 obtain rfl:=Xao hc
 exact ⟨_,rfl,XIo XaU hS _ _ x h⟩
def Xbj:Int→Int→Option (List UInt8):=Xix XaU
theorem Xzl:Xan Tryz.prog 94 (s94 Xbj):=ok94 XaU (Xai.XaW ⟨Xpz,trivial⟩)
def Xf5 (Xbl:Xaa→Option (List UInt8)) (Xa0:Xaa→Option Bool) (Xbj:Int→Int→Option (List UInt8)) (src:Xaa) (dst:Xaa) (proto:Int) (n:Int):Option (List UInt8):=
 (Xa0 src).bind fun xr=>
 cond (!xr)
  (
  some ([]))
  (
  (Xa0 dst).bind fun xr1=>
  cond (!xr1)
   (
   some ([]))
   (
   cond (!(src.V6==dst.V6))
    (
    some ([]))
    (
    cond (src.V6)
     (
     (Xbl src).bind fun p=>
     (Xbl dst).bind fun p1=>
     XaK (decide (p.length+p1.length<2^63)) <|
     (Xbj n 4).bind fun n1=>
     XaK (decide ((p++p1).length+n1.length<2^63)) <|
     (Xbj 0 3).bind fun n2=>
     XaK (decide (((p++p1)++n1).length+n2.length<2^63)) <|
     (Xbj proto 1).bind fun n3=>
     XaK (decide ((((p++p1)++n1)++n2).length+n3.length<2^63)) <|
     some ((((p++p1)++n1)++n2)++n3))
     (
     (Xbl src).bind fun p2=>
     (Xbl dst).bind fun p3=>
     XaK (decide (p2.length+p3.length<2^63)) <|
     (Xbj 0 1).bind fun n4=>
     XaK (decide ((p2++p3).length+n4.length<2^63)) <|
     (Xbj proto 1).bind fun n5=>
     XaK (decide (((p2++p3)++n4).length+n5.length<2^63)) <|
     (Xbj n 2).bind fun n6=>
     XaK (decide ((((p2++p3)++n4)++n5).length+n6.length<2^63)) <|
     some ((((p2++p3)++n4)++n5)++n6)))))
def rx95 (x:List UInt8):Xco:=⟨.string ⟨⟨x⟩⟩,[],[]⟩
def r95 (g:Xaa→Xaa→Int→Int→Option (List UInt8)):Dec:=dV Xa8 fun (y0:Xaa)=>dV Xa8 fun (y1:Xaa)=>dV (asI .i64) fun (y2:Int)=>dV (asI .i64) fun (y3:Int)=>Xc4 (ofG (g y0 y1 y2 y3) rx95)
theorem r95_c {g:Xaa→Xaa→Int→Int→Option (List UInt8)} {y0:Xaa} {y1:Xaa} {y2:Int} {y3:Int} {x:List UInt8} (hx:g y0 y1 y2 y3=some x):r95 g [.agg ⟨[.bool y0.V6,.int .u64 y0.Hi,.int .u64 y0.Lo]⟩,.agg ⟨[.bool y1.V6,.int .u64 y1.Hi,.int .u64 y1.Lo]⟩,.int .i64 y2,.int .i64 y3] []=some (rx95 x):=(XaS (XaY _)).trans ((XaS (XaY _)).trans ((XaS (XcI _)).trans ((XaS (XcI _)).trans (XaZ hx))))
def s95 (g:Xaa→Xaa→Int→Int→Option (List UInt8)):Xbp:=⟨[.v,.v,.v,.v],r95 g⟩
theorem Xrb {g:Xaa→Xaa→Int→Int→Option (List UInt8)} {y0:Xaa} {y1:Xaa} {y2:Int} {y3:Int} {x:List UInt8} (hx:g y0 y1 y2 y3=some x):(s95 g).run [.agg ⟨[.bool y0.V6,.int .u64 y0.Hi,.int .u64 y0.Lo]⟩,.agg ⟨[.bool y1.V6,.int .u64 y1.Hi,.int .u64 y1.Lo]⟩,.int .i64 y2,.int .i64 y3] []=some (rx95 x):=r95_c hx
abbrev XAQ (Xbl:Xaa→Option (List UInt8)) (Xa0:Xaa→Option Bool) (Xbj:Int→Int→Option (List UInt8)):List (Nat×Xbp):=[(92,s92 Xbl),(97,s97 Xa0),(94,s94 Xbj)]
theorem XJu (Xbl:Xaa→Option (List UInt8)) (Xa0:Xaa→Option Bool) (Xbj:Int→Int→Option (List UInt8)) (hS:Xai Tryz.prog (Xar (XAQ Xbl Xa0 Xbj))) (src:Xaa) (dst:Xaa) (proto:Int) (n:Int) (res:List UInt8) (h:Xf5 Xbl Xa0 Xbj src dst proto n=some res) :
 XaD Tryz.prog 95 0 ⟨⟨95,52,[(0,.agg ⟨[.bool src.V6,.int .u64 src.Hi,.int .u64 src.Lo]⟩),(1,.agg ⟨[.bool dst.V6,.int .u64 dst.Hi,.int .u64 dst.Lo]⟩),(2,.int .i64 proto),(3,.int .i64 n)],[.code XBc],[],false,none⟩,[],[],0⟩ (fun v H _=>Res 0 (rx95 res) v H):=by
 unfold Xf5 at h
 refine Xa9 Xam hS true 3000 ?_
 conv=>whnf
 replace h:=Xak.elim h;obtain ⟨xr,hy,h⟩:=h
 refine XaG.q rfl rfl (Xq0 hy) rfl rfl rfl ?_
 conv=>whnf
 refine br.h h ?_ ?_ ?_
 ·rfl
 ·clear h;intro hb h;conv=>whnf
  all_goals (cases h;exact Res.z rfl rfl rfl)
 clear h;intro hb h;conv=>whnf
 replace h:=Xak.elim h;obtain ⟨xr1,hy,h⟩:=h
 refine XaG.q rfl rfl (Xq0 hy) rfl rfl rfl ?_
 conv=>whnf
 refine br.h h ?_ ?_ ?_
 ·rfl
 ·clear h;intro hb h;conv=>whnf
  all_goals (cases h;exact Res.z rfl rfl rfl)
 clear h;intro hb h;conv=>whnf
 refine br.h h ?_ ?_ ?_
 ·rfl
 ·clear h;intro hb h;conv=>whnf
  all_goals (cases h;exact Res.z rfl rfl rfl)
 clear h;intro hb h;conv=>whnf
 refine br.h h ?_ ?_ ?_
 ·rfl
 ·clear h;intro hb h;conv=>whnf
  replace h:=Xak.elim h;obtain ⟨p,hy,h⟩:=h
  refine XaG.q rfl rfl (XjX hy) rfl rfl rfl ?_
  conv=>whnf
  replace h:=Xak.elim h;obtain ⟨p1,hy,h⟩:=h
  refine XaG.q rfl rfl (XjX hy) rfl rfl rfl ?_
  conv=>whnf
  replace h:=XaK.elim h;obtain ⟨hb,h⟩:=h
  first|(refine req.intro hb ?_;conv=>whnf)|skip
  replace h:=Xak.elim h;obtain ⟨n1,hy,h⟩:=h
  refine XaG.q rfl rfl (Xen hy) rfl rfl rfl ?_
  conv=>whnf
  replace h:=XaK.elim h;obtain ⟨hb,h⟩:=h
  first|(refine req.intro hb ?_;conv=>whnf)|skip
  replace h:=Xak.elim h;obtain ⟨n2,hy,h⟩:=h
  refine XaG.q rfl rfl (Xen hy) rfl rfl rfl ?_
  conv=>whnf
  replace h:=XaK.elim h;obtain ⟨hb,h⟩:=h
  first|(refine req.intro hb ?_;conv=>whnf)|skip
  replace h:=Xak.elim h;obtain ⟨n3,hy,h⟩:=h
  refine XaG.q rfl rfl (Xen hy) rfl rfl rfl ?_
  conv=>whnf
  replace h:=XaK.elim h;obtain ⟨hb,h⟩:=h
  first|(refine req.intro hb ?_;conv=>whnf)|skip
  all_goals (cases h;exact Res.z rfl rfl rfl)
 clear h;intro hb h;conv=>whnf
 replace h:=Xak.elim h;obtain ⟨p2,hy,h⟩:=h
 refine XaG.q rfl rfl (XjX hy) rfl rfl rfl ?_
 conv=>whnf
 replace h:=Xak.elim h;obtain ⟨p3,hy,h⟩:=h
 refine XaG.q rfl rfl (XjX hy) rfl rfl rfl ?_
 conv=>whnf
 replace h:=XaK.elim h;obtain ⟨hb,h⟩:=h
 first|(refine req.intro hb ?_;conv=>whnf)|skip
 replace h:=Xak.elim h;obtain ⟨n4,hy,h⟩:=h
 refine XaG.q rfl rfl (Xen hy) rfl rfl rfl ?_
 conv=>whnf
 replace h:=XaK.elim h;obtain ⟨hb,h⟩:=h
 first|(refine req.intro hb ?_;conv=>whnf)|skip
 replace h:=Xak.elim h;obtain ⟨n5,hy,h⟩:=h
 refine XaG.q rfl rfl (Xen hy) rfl rfl rfl ?_
 conv=>whnf
 replace h:=XaK.elim h;obtain ⟨hb,h⟩:=h
 first|(refine req.intro hb ?_;conv=>whnf)|skip
 replace h:=Xak.elim h;obtain ⟨n6,hy,h⟩:=h
 refine XaG.q rfl rfl (Xen hy) rfl rfl rfl ?_
 conv=>whnf
 replace h:=XaK.elim h;obtain ⟨hb,h⟩:=h
 first|(refine req.intro hb ?_;conv=>whnf)|skip
 all_goals (cases h;exact Res.z rfl rfl rfl)
theorem ok95 (Xbl:Xaa→Option (List UInt8)) (Xa0:Xaa→Option Bool) (Xbj:Int→Int→Option (List UInt8)) (hS:Xai Tryz.prog (Xar (XAQ Xbl Xa0 Xbj))):Xan Tryz.prog 95 (s95 (Xf5 Xbl Xa0 Xbj)):=by
 refine Xan.Xau Xam (fun ar os r ha hr=>?_) ⟨Tryz.f95,rfl,by decide,rfl⟩
 replace hr:r95 (Xf5 Xbl Xa0 Xbj) ar (XaA os)=some r:=hr
 unfold r95 at hr
 generalize hc:XaA os=C at hr
 replace hr:=dV.elim hr;obtain ⟨v0,l1,y0,rfl,e0,hr⟩:=hr;obtain rfl:=XaN _ _ e0
 replace hr:=dV.elim hr;obtain ⟨v1,l2,y1,rfl,e1,hr⟩:=hr;obtain rfl:=XaN _ _ e1
 replace hr:=dV.elim hr;obtain ⟨v2,l3,y2,rfl,e2,hr⟩:=hr;obtain rfl:=XbO _ _ _ e2
 replace hr:=dV.elim hr;obtain ⟨v3,l4,y3,rfl,e3,hr⟩:=hr;obtain rfl:=XbO _ _ _ e3
 replace hr:=Xdf hr;obtain ⟨rfl,rfl,x,h,rfl⟩:=hr
 obtain rfl:=Xao hc
 exact ⟨_,rfl,XJu Xbl Xa0 Xbj hS _ _ _ _ x h⟩
def Xax:Xaa→Xaa→Int→Int→Option (List UInt8):=Xf5 Xbl Xa0 Xbj
theorem XrS:Xan Tryz.prog 95 (s95 Xax):=ok95 Xbl Xa0 Xbj (Xai.XaW ⟨XvA,XuJ,Xzl,trivial⟩)
end Go.Vm.Code
namespace Go.Vm.Code
open Go Go.Vm
def A4 (a:Xaa):Prop:=0≤a.Hi∧a.Hi<2^64∧0≤a.Lo∧a.Lo<2^64
def aok (a:Xaa):Bool:=a.V6||(a.Hi==0&&decide (a.Lo<4294967296))
theorem Xkw (a:Xaa):XaL a=some (aok a):=by
 unfold XaL Xfb aok
 cases a.V6
 ·cases (a.Hi==0)<;>rfl
 ·rfl
theorem Xjv (a:Xaa):Xa0 a=some (aok a):=by
 unfold Xa0 Xgc aok
 cases a.V6
 ·cases (a.Hi==0)<;>rfl
 ·rfl
def Xcf (a:Xaa):List UInt8:=cond a.V6 (be a.Hi.toNat 8++be a.Lo.toNat 8) (be a.Lo.toNat 4)
theorem Xdi (a:Xaa):(Xcf a).length=cond a.V6 16 4:=by unfold Xcf;cases a.V6<;>simp
theorem Xhn {n:Int} {k:Nat} (h:1≤k∧k≤8):XcG n (k:Int)=be n.toNat k:=by unfold XcG;rw [if_pos (by omega)];rfl
theorem Xn6 {a:Xaa} (h:A4 a) (hr:aok a=true):Xa3 a=some (Xcf a):=by
 obtain ⟨h1,h2,h3,h4⟩:=h
 unfold Xa3 Xhj Xcf
 rw [Xkw,Option.bind_some,hr]
 simp only [Bool.not_true,cond_false]
 cases a.V6
 ·simp only [cond_false]
  rw [XbY h3,Option.bind_some,show (4:Int)=((4:Nat):Int) from rfl,Xhn (by omega)]
 ·simp only [cond_true]
  rw [XbY h1,Option.bind_some,XbY h3,Option.bind_some,show (8:Int)=((8:Nat):Int) from rfl,Xhn (by omega),Xhn (by omega),Xaz (by simp)]
theorem XlS {a:Xaa} (h:A4 a) (hr:aok a=true):Xbl a=some (Xcf a):=by
 obtain ⟨h1,h2,h3,h4⟩:=h
 unfold Xbl XiB Xcf
 rw [Xjv,Option.bind_some,hr]
 simp only [Bool.not_true,cond_false]
 cases a.V6
 ·simp only [cond_false]
  rw [Xdt h3 h4,Option.bind_some,show (4:Int)=((4:Nat):Int) from rfl,Xhn (by omega)]
 ·simp only [cond_true]
  rw [Xdt h1 h2,Option.bind_some,Xdt h3 h4,Option.bind_some,show (8:Int)=((8:Nat):Int) from rfl,Xhn (by omega),Xhn (by omega),Xaz (by simp)]
theorem XmN {n k:Int} (h0:0≤n) (h1:n<2^63):Xbj n k=some (XcG n k):=by
 unfold Xbj Xix
 rw [Xhv h0 (by omega),Xdt h0 (by omega)];rfl
theorem Xbw (n k:Int):(XcG n k).length≤8:=by unfold XcG;split<;>simp<;>omega
theorem XH9 (s:List UInt8):iB (bI s)=s:=by simp [iB,bI,List.map_map,Function.comp_def]
theorem XMU (a b:List Int):iB (a++b)=iB a++iB b:=by simp [iB]
theorem XB2 (a b:List UInt8):bI (a++b)=bI a++bI b:=by simp [bI]
theorem Xq5 {σ ρ:Type} {f:σ→Option (Sum σ ρ)} {n:Nat} {s s':σ} (h:f s=some (.inl s')):iter f (n+1) s=iter f n s':=by rw [iter,h]
theorem Xxp {σ ρ:Type} {f:σ→Option (Sum σ ρ)} {n:Nat} {s:σ} {r:ρ} (h:f s=some (.inr r)):iter f (n+1) s=some r:=by rw [iter,h]
theorem Xvo:∃ n,FUEL=n+8:=⟨18446744073709551608,rfl⟩
theorem XAL {a b c d e f:Int} (ha:0≤a) (hc:0≤c) (he:0≤e) (ha1:a<2^63) (hc1:c<2^63) (he1:e<2^63):Xa6 [a,b,c,d,e,f]=some (XcG a b++XcG c d++XcG e f):=by
 have l1:=Xbw a b
 have l2:=Xbw c d
 have l3:=Xbw e f
 unfold Xa6 Xfa
 rw [XaV (by simp),Xaz (by simp)]
 show ((some a).bind _)=_
 rw [Option.bind_some,Xaz (by simp)]
 show ((some b).bind _)=_
 rw [Option.bind_some,Xhv ha (by omega),XbY ha,Option.bind_some,Xaz (by omega)]
 obtain ⟨n,hn⟩:=Xvo
 rw [hn]
 have s1:Xb0 Xaq [a,b,c,d,e,f] 2 (bI (XcG a b))=some (.inl (4,bI (XcG a b++XcG c d))):=by
  unfold Xb0
  simp only []
  rw [XaV (by rw [show wI .i64 (2+1)=3 from rfl];simp),Xaz (by simp)]
  show ((some c).bind _)=_
  rw [Option.bind_some,Xaz (by rw [show wI .i64 (2+1)=3 from rfl];simp)]
  show ((some d).bind _)=_
  rw [Option.bind_some,Xhv hc (by omega),XbY hc,Option.bind_some,Xaz (by simp;omega),XB2];rfl
 have s2:Xb0 Xaq [a,b,c,d,e,f] 4 (bI (XcG a b++XcG c d))=some (.inl (6,bI (XcG a b++XcG c d++XcG e f))):=by
  unfold Xb0
  simp only []
  rw [XaV (by rw [show wI .i64 (4+1)=5 from rfl];simp),Xaz (by simp)]
  show ((some e).bind _)=_
  rw [Option.bind_some,Xaz (by rw [show wI .i64 (4+1)=5 from rfl];simp)]
  show ((some f).bind _)=_
  rw [Option.bind_some,Xhv he (by omega),XbY he,Option.bind_some,Xaz (by simp;omega),XB2 (XcG a b++XcG c d)];rfl
 have s3:Xb0 Xaq [a,b,c,d,e,f] 6 (bI (XcG a b++XcG c d++XcG e f))=some (.inr (XcG a b++XcG c d++XcG e f)):=by
  unfold Xb0
  simp only []
  rw [XaM (by rw [show wI .i64 (6+1)=7 from rfl];simp),Xaz (by simp;omega),XH9]
 rw [Xq5 (f:=fun (st:Int×List Int)=>Xb0 Xaq [a,b,c,d,e,f] st.1 st.2) (n:=n+7) s1,Xq5 (n:=n+6) s2,Xxp (n:=n+5) s3]
def Xnf (src dst:Xaa) (p n:Int):List UInt8:=
 if aok src=true∧aok dst=true∧src.V6=dst.V6 then Xcf src++Xcf dst++cond src.V6 (XcG n 4++XcG 0 3++XcG p 1) (XcG 0 1++XcG p 1++XcG n 2) else []
theorem XkL (src dst:Xaa) (p n:Int):(Xnf src dst p n).length≤56:=by
 have l1:=Xbw n 4
 have l2:=Xbw 0 3
 have l3:=Xbw p 1
 have l4:=Xbw 0 1
 have l5:=Xbw n 2
 unfold Xnf
 split
 ·rw [List.length_append,List.length_append,Xdi,Xdi]
  cases src.V6<;>cases dst.V6<;>simp<;>omega
 ·simp
theorem Xma {src dst:Xaa} {p n:Int} (h1:A4 src) (h2:A4 dst) (hp:0≤p∧p<2^63) (hn:0≤n∧n<2^63):Xav src dst p n=some (Xnf src dst p n):=by
 unfold Xav Xee Xnf
 rw [Xkw,Xkw,Option.bind_some]
 cases e1:aok src
 ·simp
 simp only [Bool.not_true,cond_false,Option.bind_some]
 cases e2:aok dst
 ·simp
 simp only [Bool.not_true,cond_false]
 by_cases e3:src.V6=dst.V6
 ·rw [if_pos (by simpa using e3),show (src.V6==dst.V6)=true by simpa using e3]
  simp only [Bool.not_true,cond_false]
  have l1:=Xdi src
  have l2:=Xdi dst
  rw [Xn6 h1 e1,Option.bind_some,Xn6 h2 e2,Option.bind_some,Xaz (by rw [l1,l2];cases src.V6<;>cases dst.V6<;>decide)]
  rw [XAL hn.1 (by omega) hp.1 hn.2 (by omega) hp.2,XAL (by omega) hp.1 hn.1 (by omega) hp.2 hn.2]
  have m1:=Xbw n 4
  have m2:=Xbw 0 3
  have m3:=Xbw p 1
  have m4:=Xbw 0 1
  have m5:=Xbw n 2
  have b1:(Xcf src).length≤16:=by rw [l1];cases src.V6<;>decide
  have b2:(Xcf dst).length≤16:=by rw [l2];cases dst.V6<;>decide
  cases src.V6
  ·simp only [cond_false,Option.bind_some]
   rw [Xaz (by simp only [List.length_append];omega)]
  ·simp only [cond_true,Option.bind_some]
   rw [Xaz (by simp only [List.length_append];omega)]
 ·rw [if_neg (fun h=>e3 h.2.2),show (src.V6==dst.V6)=false by simpa using e3];rfl
theorem XjK {src dst:Xaa} {p n:Int} (h1:A4 src) (h2:A4 dst) (hp:0≤p∧p<2^63) (hn:0≤n∧n<2^63):Xax src dst p n=some (Xnf src dst p n):=by
 unfold Xax Xf5 Xnf
 rw [Xjv,Xjv,Option.bind_some]
 cases e1:aok src
 ·simp
 simp only [Bool.not_true,cond_false,Option.bind_some]
 cases e2:aok dst
 ·simp
 simp only [Bool.not_true,cond_false]
 by_cases e3:src.V6=dst.V6
 ·rw [if_pos (by simpa using e3),show (src.V6==dst.V6)=true by simpa using e3]
  simp only [Bool.not_true,cond_false]
  have l1:=Xdi src
  have l2:=Xdi dst
  have m1:=Xbw n 4
  have m2:=Xbw 0 3
  have m3:=Xbw p 1
  have m4:=Xbw 0 1
  have m5:=Xbw n 2
  have b1:(Xcf src).length≤16:=by rw [l1];cases src.V6<;>decide
  have b2:(Xcf dst).length≤16:=by rw [l2];cases dst.V6<;>decide
  rw [XlS h1 e1,XlS h2 e2,XmN hn.1 hn.2,XmN (n:=0) (k:=3) (by omega) (by omega),XmN hp.1 hp.2,XmN (n:=0) (k:=1) (by omega) (by omega),XmN hn.1 hn.2]
  cases src.V6
  ·simp only [cond_false,Option.bind_some]
   rw [Xaz (by omega),Xaz (by simp only [List.length_append];omega),Xaz (by simp only [List.length_append];omega),Xaz (by simp only [List.length_append];omega)]
   simp only [List.append_assoc]
  ·simp only [cond_true,Option.bind_some]
   rw [Xaz (by omega),Xaz (by simp only [List.length_append];omega),Xaz (by simp only [List.length_append];omega),Xaz (by simp only [List.length_append];omega)]
   simp only [List.append_assoc]
 ·rw [if_neg (fun h=>e3 h.2.2),show (src.V6==dst.V6)=false by simpa using e3];rfl
theorem XlZ (n:Int):0≤wI .u64 n∧wI .u64 n<2^64:=by rw [wU64m];omega
def XCN:List Int→List UInt8
 | a::b::l=>XcG (wI .u64 a) b++XCN l
 | _=>[]
theorem XFB {l:List Int} (he:l.length%2=0) (h2:2≤l.length) (hl:l.length≤1000):Xa6 l=some (XCN l):=by
 unfold Xa6 Xfa
 obtain ⟨a,b,r,rfl⟩:∃ a b r,l=a::b::r:=by
  match l,h2 with
  | a::b::r,_=>exact ⟨a,b,r,rfl⟩
 have p0:=Xbw (wI .u64 a) b
 rw [XaV (by simp;omega),Xaz (by simp;omega)]
 show ((some a).bind _)=_
 rw [Option.bind_some,Xaz (by simp;omega)]
 show ((some b).bind _)=_
 rw [Option.bind_some,XbY (XlZ a).1,Option.bind_some,Xaz (by omega)]
 generalize hL:a::b::r=L at *
 have key:=iter_eq (step:=fun (st:Int×List Int)=>Xb0 Xaq L st.1 st.2) (fun st=>iB st.2++XCN (L.drop st.1.toNat)) (fun st=>0≤st.1∧st.1≤L.length∧st.1.toNat%2=0∧st.2.length≤8*st.1.toNat) (fun st=>(L.length - st.1).toNat) ?_ FUEL (2,bI (XcG (wI .u64 a) b)) ⟨by simp,by simp only;omega,by simp,by simp;omega⟩ (by rw [XeV];simp only;omega)
 ·rw [key]
  simp only [XH9]
  subst hL;rfl
 rintro ⟨p,c⟩ ⟨g1,g2,g3,g4⟩
 simp only at g1 g2 g3 g4 ⊢
 obtain ⟨i,rfl⟩:=Int.eq_ofNat_of_zero_le g1
 simp only [Int.toNat_natCast] at g3 g4 ⊢
 unfold Xb0
 simp only []
 rw [XcC (n:=(i:Int)+1) (by omega) (by omega)]
 by_cases hi:i<L.length
 ·have hi1:i+1<L.length:=by omega
  have pl:=Xbw (wI .u64 L[i]) L[i+1]
  refine .inr ⟨(((i+2:Nat):Int),c++bI (XcG (wI .u64 L[i]) L[i+1])),?_,⟨by simp only;omega,by simp only;omega,by simp only [Int.toNat_natCast];omega,by simp;omega⟩,by simp only;omega,?_⟩
  ·rw [XaV (by omega),Xaz (by omega),Int.toNat_natCast,List.getElem?_eq_getElem hi,Option.bind_some,Xaz (by omega),show ((i:Int)+1).toNat=i+1 by omega,List.getElem?_eq_getElem hi1,Option.bind_some,XbY (XlZ _).1,Option.bind_some,Xaz (by omega),XcC (by omega) (by omega)];rfl
  ·simp only [Int.toNat_natCast]
   rw [XMU,XH9,List.drop_eq_getElem_cons hi,List.drop_eq_getElem_cons hi1,XCN];simp
 ·refine .inl ?_
  rw [XaM (by omega),Xaz (by omega),List.drop_eq_nil_of_le (by omega)];simp [XCN]
theorem Xxf (n k:Int):Xbj n k=some (XcG (wI .u64 n) k):=by
 unfold Xbj Xix
 rw [Xdt (XlZ n).1 (XlZ n).2];rfl
end Go.Vm.Code
namespace Go.Vm.Code
open Go Go.Vm Go.Proofs
set_option maxRecDepth 100000
set_option maxHeartbeats 4000000
set_option linter.unusedVariables false
def Xde (ra0:Xab):Option (Bool×Xab):=
 cond (!ra0.made)
  (
  some ((true,ra0)))
  (
  some ((ra0.bad,ra0)))
def rx63 (x:Bool×Xab):Xco:=⟨.bool x.1,[],[some [.string ⟨⟨x.2.s⟩⟩,.bool x.2.made,.bool x.2.bad]]⟩
def r63 (g:Xab→Option (Bool×Xab)):Dec:=dPt 0 XcJ fun (y0:Xab)=>Xc4 (ofG (g y0) rx63)
theorem r63_c {g:Xab→Option (Bool×Xab)} {y0:Xab} {x:Bool×Xab} (hx:g y0=some x):r63 g [.pointer (some ⟨0,0,none⟩)] [some [.string ⟨⟨y0.s⟩⟩,.bool y0.made,.bool y0.bad]]=some (rx63 x):=(XmG (Xd9 _)).trans (XaZ hx)
def s63 (g:Xab→Option (Bool×Xab)):Xbp:=⟨[.pt 3],r63 g⟩
theorem XjQ {g:Xab→Option (Bool×Xab)} {y0:Xab} {x:Bool×Xab} (hx:g y0=some x):(s63 g).run [.pointer (some ⟨0,0,none⟩)] [some [.string ⟨⟨y0.s⟩⟩,.bool y0.made,.bool y0.bad]]=some (rx63 x):=r63_c hx
abbrev XA4:List (Nat×Xbp):=[]
theorem XJR (hS:Xai Tryz.prog (Xar (XA4))) (ra0:Xab) (res:Bool×Xab) (h:Xde ra0=some res) :
 XaD Tryz.prog 63 1 ⟨⟨63,18,[(0,.pointer (some ⟨0,0,none⟩))],[.code X6j],[],false,none⟩,[],[(0,.cells [.string ⟨⟨ra0.s⟩⟩,.bool ra0.made,.bool ra0.bad])],1⟩ (fun v H _=>Res 1 (rx63 res) v H):=by
 unfold Xde at h
 refine Xa9 Xam hS true 3000 ?_
 conv=>whnf
 refine br.h h ?_ ?_ ?_
 ·rfl
 ·clear h;intro hb h;conv=>whnf
  all_goals (cases h)
  all_goals exact Res.of [] rfl XeZ (by decide) XeW (XlX (rfl) (Xca rfl) XeY)
 clear h;intro hb h;conv=>whnf
 all_goals (cases h)
 all_goals exact Res.of [] rfl XeZ (by decide) XeW (XlX (rfl) (Xca rfl) XeY)
theorem ok63 (hS:Xai Tryz.prog (Xar (XA4))):Xan Tryz.prog 63 (s63 (Xde)):=by
 refine Xan.Xau Xam (fun ar os r ha hr=>?_) ⟨Tryz.f63,rfl,by decide,rfl⟩
 replace hr:r63 (Xde) ar (XaA os)=some r:=hr
 unfold r63 at hr
 generalize hc:XaA os=C at hr
 have hq:=dPt.elim hr;clear hr;obtain ⟨c0,l1,C,y0,rfl,rfl,e0,hr⟩:=hq;obtain rfl:=Xdd _ _ e0
 replace hr:=Xdf hr;obtain ⟨rfl,rfl,x,h,rfl⟩:=hr
 obtain ⟨os,rfl,ha,hc⟩:=Xdr ha hc
 obtain rfl:=Xao hc
 exact ⟨_,rfl,XJR hS _ x h⟩
def Xae:Xab→Option (Bool×Xab):=Xde
theorem Xne:Xan Tryz.prog 63 (s63 Xae):=ok63 (Xai.XaW trivial)
def Xc0 (Xae:Xab→Option (Bool×Xab)) (ra0:Xab) (n:Int):Option ((List UInt8)×Xab):=
 (Xae ra0).bind fun b=>
 cond (b.1)
  (
  some (([],b.2)))
  (
  cond (decide (n<0))
   (
   some (([],Xab.mk b.2.s b.2.made true)))
   (
   cond (decide (n>(b.2.s.length:Int)))
    (
    some (([],Xab.mk b.2.s b.2.made true)))
    (
    XaK (decide ((0:Int)≤n∧n≤(b.2.s.length:Int))) <|
    XaK (decide ((0:Int)≤n∧n≤(b.2.s.length:Int))) <|
    let t:=(b.2.s.drop n.toNat).take (b.2.s.length - n.toNat)
    some ((b.2.s.take n.toNat,Xab.mk t b.2.made b.2.bad)))))
def rx64 (x:(List UInt8)×Xab):Xco:=⟨.string ⟨⟨x.1⟩⟩,[],[some [.string ⟨⟨x.2.s⟩⟩,.bool x.2.made,.bool x.2.bad]]⟩
def r64 (g:Xab→Int→Option ((List UInt8)×Xab)):Dec:=dPt 0 XcJ fun (y0:Xab)=>dV (asI .i64) fun (y1:Int)=>Xc4 (ofG (g y0 y1) rx64)
theorem r64_c {g:Xab→Int→Option ((List UInt8)×Xab)} {y0:Xab} {y1:Int} {x:(List UInt8)×Xab} (hx:g y0 y1=some x):r64 g [.pointer (some ⟨0,0,none⟩),.int .i64 y1] [some [.string ⟨⟨y0.s⟩⟩,.bool y0.made,.bool y0.bad]]=some (rx64 x):=(XmG (Xd9 _)).trans ((XaS (XcI _)).trans (XaZ hx))
def s64 (g:Xab→Int→Option ((List UInt8)×Xab)):Xbp:=⟨[.pt 3,.v],r64 g⟩
theorem Xhy {g:Xab→Int→Option ((List UInt8)×Xab)} {y0:Xab} {y1:Int} {x:(List UInt8)×Xab} (hx:g y0 y1=some x):(s64 g).run [.pointer (some ⟨0,0,none⟩),.int .i64 y1] [some [.string ⟨⟨y0.s⟩⟩,.bool y0.made,.bool y0.bad]]=some (rx64 x):=r64_c hx
abbrev XAx (Xae:Xab→Option (Bool×Xab)):List (Nat×Xbp):=[(63,s63 Xae)]
theorem XGv (Xae:Xab→Option (Bool×Xab)) (hS:Xai Tryz.prog (Xar (XAx Xae))) (ra0:Xab) (n:Int) (res:(List UInt8)×Xab) (h:Xc0 Xae ra0 n=some res) :
 XaD Tryz.prog 64 1 ⟨⟨64,38,[(0,.pointer (some ⟨0,0,none⟩)),(1,.int .i64 n)],[.code Xzw],[],false,none⟩,[],[(0,.cells [.string ⟨⟨ra0.s⟩⟩,.bool ra0.made,.bool ra0.bad])],1⟩ (fun v H _=>Res 1 (rx64 res) v H):=by
 unfold Xc0 at h
 refine Xa9 Xam hS true 3000 ?_
 conv=>whnf
 replace h:=Xak.elim h;obtain ⟨b,hy,h⟩:=h
 refine XaG.Xba [0] (Xat (aqs:=[.pointer (some ⟨0,0,none⟩)]) (ws:=[.win 0 0 3 true]) (n:=0) (m:=0) (t':=1) (Xas rfl rfl Xbd) rfl (by rfl) (XjQ hy) rfl rfl rfl rfl (XbK rfl rfl rfl ⟨rfl,Nat.le_of_ble_eq_true rfl⟩ rfl rfl Xbc) Xbb rfl) ?_
 conv=>whnf
 refine br.h h ?_ ?_ ?_
 ·rfl
 ·clear h;intro hb h;conv=>whnf
  all_goals (cases h)
  all_goals exact Res.of [] rfl XeZ (by decide) XeW (XlX (rfl) (Xca rfl) XeY)
 clear h;intro hb h;conv=>whnf
 refine br.h h ?_ ?_ ?_
 ·rfl
 ·clear h;intro hb h;conv=>whnf
  all_goals (cases h)
  all_goals exact Res.of [] rfl XeZ (by decide) XeW (XlX (rfl) (Xca rfl) XeY)
 clear h;intro hb h;conv=>whnf
 refine br.h h ?_ ?_ ?_
 ·rfl
 ·clear h;intro hb h;conv=>whnf
  all_goals (cases h)
  all_goals exact Res.of [] rfl XeZ (by decide) XeW (XlX (rfl) (Xca rfl) XeY)
 clear h;intro hb h;conv=>whnf
 replace h:=XaK.elim h;obtain ⟨hb,h⟩:=h
 first|(refine req.intro hb ?_;conv=>whnf)|skip
 replace h:=XaK.elim h;obtain ⟨hb,h⟩:=h
 first|(refine req.intro hb ?_;conv=>whnf)|skip
 let t:List UInt8:=(b.2.s.drop n.toNat).take (b.2.s.length - n.toNat)
 all_goals (cases h)
 all_goals exact Res.of [] rfl XeZ (by decide) XeW (XlX (rfl) (Xca rfl) XeY)
theorem ok64 (Xae:Xab→Option (Bool×Xab)) (hS:Xai Tryz.prog (Xar (XAx Xae))):Xan Tryz.prog 64 (s64 (Xc0 Xae)):=by
 refine Xan.Xau Xam (fun ar os r ha hr=>?_) ⟨Tryz.f64,rfl,by decide,rfl⟩
 replace hr:r64 (Xc0 Xae) ar (XaA os)=some r:=hr
 unfold r64 at hr
 generalize hc:XaA os=C at hr
 have hq:=dPt.elim hr;clear hr;obtain ⟨c0,l1,C,y0,rfl,rfl,e0,hr⟩:=hq;obtain rfl:=Xdd _ _ e0
 replace hr:=dV.elim hr;obtain ⟨v1,l2,y1,rfl,e1,hr⟩:=hr;obtain rfl:=XbO _ _ _ e1
 replace hr:=Xdf hr;obtain ⟨rfl,rfl,x,h,rfl⟩:=hr
 obtain ⟨os,rfl,ha,hc⟩:=Xdr ha hc
 obtain rfl:=Xao hc
 exact ⟨_,rfl,XGv Xae hS _ _ x h⟩
def Xac:Xab→Int→Option ((List UInt8)×Xab):=Xc0 Xae
theorem XlK:Xan Tryz.prog 64 (s64 Xac):=ok64 Xae (Xai.XaW ⟨Xne,trivial⟩)
def Xdc (XaH:(List UInt8)→Int→Int→Option (Int×Bool)) (Xac:Xab→Int→Option ((List UInt8)×Xab)) (ra0:Xab) (k:Int):Option (Int×Xab):=
 cond (decide (k<1))
  (
  (Xac ra0 (-1)).bind fun t=>
  (XaH t.1 0 (-1)).bind fun xg=>
  some ((wI .i64 xg.1,t.2)))
  (
  cond (decide (k>7))
   (
   (Xac ra0 (-1)).bind fun t1=>
   (XaH t1.1 0 (-1)).bind fun xg1=>
   some ((wI .i64 xg1.1,t1.2)))
   (
   (Xac ra0 k).bind fun t2=>
   (XaH t2.1 0 k).bind fun xg2=>
   some ((wI .i64 xg2.1,t2.2))))
def rx62 (x:Int×Xab):Xco:=⟨.int .i64 x.1,[],[some [.string ⟨⟨x.2.s⟩⟩,.bool x.2.made,.bool x.2.bad]]⟩
def r62 (g:Xab→Int→Option (Int×Xab)):Dec:=dPt 0 XcJ fun (y0:Xab)=>dV (asI .i64) fun (y1:Int)=>Xc4 (ofG (g y0 y1) rx62)
theorem r62_c {g:Xab→Int→Option (Int×Xab)} {y0:Xab} {y1:Int} {x:Int×Xab} (hx:g y0 y1=some x):r62 g [.pointer (some ⟨0,0,none⟩),.int .i64 y1] [some [.string ⟨⟨y0.s⟩⟩,.bool y0.made,.bool y0.bad]]=some (rx62 x):=(XmG (Xd9 _)).trans ((XaS (XcI _)).trans (XaZ hx))
def s62 (g:Xab→Int→Option (Int×Xab)):Xbp:=⟨[.pt 3,.v],r62 g⟩
theorem XdR {g:Xab→Int→Option (Int×Xab)} {y0:Xab} {y1:Int} {x:Int×Xab} (hx:g y0 y1=some x):(s62 g).run [.pointer (some ⟨0,0,none⟩),.int .i64 y1] [some [.string ⟨⟨y0.s⟩⟩,.bool y0.made,.bool y0.bad]]=some (rx62 x):=r62_c hx
abbrev XAC (XaH:(List UInt8)→Int→Int→Option (Int×Bool)) (Xac:Xab→Int→Option ((List UInt8)×Xab)):List (Nat×Xbp):=[(40,s40 XaH),(64,s64 Xac)]
theorem XJX (XaH:(List UInt8)→Int→Int→Option (Int×Bool)) (Xac:Xab→Int→Option ((List UInt8)×Xab)) (hS:Xai Tryz.prog (Xar (XAC XaH Xac))) (ra0:Xab) (k:Int) (res:Int×Xab) (h:Xdc XaH Xac ra0 k=some res) :
 XaD Tryz.prog 62 1 ⟨⟨62,23,[(0,.pointer (some ⟨0,0,none⟩)),(1,.int .i64 k)],[.code Xzk],[],false,none⟩,[],[(0,.cells [.string ⟨⟨ra0.s⟩⟩,.bool ra0.made,.bool ra0.bad])],1⟩ (fun v H _=>Res 1 (rx62 res) v H):=by
 unfold Xdc at h
 refine Xa9 Xam hS true 3000 ?_
 conv=>whnf
 refine br.h h ?_ ?_ ?_
 ·rfl
 ·clear h;intro hb h;conv=>whnf
  replace h:=Xak.elim h;obtain ⟨t,hy,h⟩:=h
  refine XaG.Xba [0] (Xat (aqs:=[.pointer (some ⟨0,0,none⟩),.int .i64 (-1)]) (ws:=[.win 0 0 3 true]) (n:=0) (m:=0) (t':=1) (Xas rfl rfl (Xas rfl rfl Xbd)) rfl (by rfl) (Xhy hy) rfl rfl rfl rfl (XbK rfl rfl rfl ⟨rfl,Nat.le_of_ble_eq_true rfl⟩ rfl rfl Xbc) Xbb rfl) ?_
  conv=>whnf
  replace h:=Xak.elim h;obtain ⟨xg,hy,h⟩:=h
  refine XaG.q rfl rfl (Xmc hy) rfl rfl rfl ?_
  conv=>whnf
  all_goals (cases h)
  all_goals exact Res.of [] rfl XeZ (by decide) XeW (XlX (rfl) (Xca rfl) XeY)
 clear h;intro hb h;conv=>whnf
 refine br.h h ?_ ?_ ?_
 ·rfl
 ·clear h;intro hb h;conv=>whnf
  replace h:=Xak.elim h;obtain ⟨t1,hy,h⟩:=h
  refine XaG.Xba [0] (Xat (aqs:=[.pointer (some ⟨0,0,none⟩),.int .i64 (-1)]) (ws:=[.win 0 0 3 true]) (n:=0) (m:=0) (t':=1) (Xas rfl rfl (Xas rfl rfl Xbd)) rfl (by rfl) (Xhy hy) rfl rfl rfl rfl (XbK rfl rfl rfl ⟨rfl,Nat.le_of_ble_eq_true rfl⟩ rfl rfl Xbc) Xbb rfl) ?_
  conv=>whnf
  replace h:=Xak.elim h;obtain ⟨xg1,hy,h⟩:=h
  refine XaG.q rfl rfl (Xmc hy) rfl rfl rfl ?_
  conv=>whnf
  all_goals (cases h)
  all_goals exact Res.of [] rfl XeZ (by decide) XeW (XlX (rfl) (Xca rfl) XeY)
 clear h;intro hb h;conv=>whnf
 replace h:=Xak.elim h;obtain ⟨t2,hy,h⟩:=h
 refine XaG.Xba [0] (Xat (aqs:=[.pointer (some ⟨0,0,none⟩),.int .i64 k]) (ws:=[.win 0 0 3 true]) (n:=0) (m:=0) (t':=1) (Xas rfl rfl (Xas rfl rfl Xbd)) rfl (by rfl) (Xhy hy) rfl rfl rfl rfl (XbK rfl rfl rfl ⟨rfl,Nat.le_of_ble_eq_true rfl⟩ rfl rfl Xbc) Xbb rfl) ?_
 conv=>whnf
 replace h:=Xak.elim h;obtain ⟨xg2,hy,h⟩:=h
 refine XaG.q rfl rfl (Xmc hy) rfl rfl rfl ?_
 conv=>whnf
 all_goals (cases h)
 all_goals exact Res.of [] rfl XeZ (by decide) XeW (XlX (rfl) (Xca rfl) XeY)
theorem ok62 (XaH:(List UInt8)→Int→Int→Option (Int×Bool)) (Xac:Xab→Int→Option ((List UInt8)×Xab)) (hS:Xai Tryz.prog (Xar (XAC XaH Xac))):Xan Tryz.prog 62 (s62 (Xdc XaH Xac)):=by
 refine Xan.Xau Xam (fun ar os r ha hr=>?_) ⟨Tryz.f62,rfl,by decide,rfl⟩
 replace hr:r62 (Xdc XaH Xac) ar (XaA os)=some r:=hr
 unfold r62 at hr
 generalize hc:XaA os=C at hr
 have hq:=dPt.elim hr;clear hr;obtain ⟨c0,l1,C,y0,rfl,rfl,e0,hr⟩:=hq;obtain rfl:=Xdd _ _ e0
 replace hr:=dV.elim hr;obtain ⟨v1,l2,y1,rfl,e1,hr⟩:=hr;obtain rfl:=XbO _ _ _ e1
 replace hr:=Xdf hr;obtain ⟨rfl,rfl,x,h,rfl⟩:=hr
 obtain ⟨os,rfl,ha,hc⟩:=Xdr ha hc
 obtain rfl:=Xao hc
 exact ⟨_,rfl,XJX XaH Xac hS _ _ x h⟩
def Xad:Xab→Int→Option (Int×Xab):=Xdc XaH Xac
theorem Xnn:Xan Tryz.prog 62 (s62 Xad):=ok62 XaH Xac (Xai.XaW ⟨Xtf,XlK,trivial⟩)
def Xh3 (s:List UInt8):Option Xab:=
 some (Xab.mk s true false)
def rx61 (x:Xab):Xco:=⟨.pointer (some ⟨0,0,none⟩),[[.string ⟨⟨x.s⟩⟩,.bool x.made,.bool x.bad]],[]⟩
def r61 (g:(List UInt8)→Option Xab):Dec:=dV asS fun (y0:List UInt8)=>Xc4 (ofG (g y0) rx61)
theorem r61_c {g:(List UInt8)→Option Xab} {y0:List UInt8} {x:Xab} (hx:g y0=some x):r61 g [.string ⟨⟨y0⟩⟩] []=some (rx61 x):=(XaS (XdJ)).trans (XaZ hx)
def s61 (g:(List UInt8)→Option Xab):Xbp:=⟨[.v],r61 g⟩
theorem Xpf {g:(List UInt8)→Option Xab} {y0:List UInt8} {x:Xab} (hx:g y0=some x):(s61 g).run [.string ⟨⟨y0⟩⟩] []=some (rx61 x):=r61_c hx
abbrev XAe:List (Nat×Xbp):=[]
theorem XGq (hS:Xai Tryz.prog (Xar (XAe))) (s:List UInt8) (res:Xab) (h:Xh3 s=some res) :
 XaD Tryz.prog 61 0 ⟨⟨61,6,[(0,.string ⟨⟨s⟩⟩)],[.code XXQ],[],false,none⟩,[],[],0⟩ (fun v H _=>Res 0 (rx61 res) v H):=by
 unfold Xh3 at h
 refine Xa9 Xam hS true 3000 ?_
 conv=>whnf
 all_goals (cases h)
 all_goals exact Res.of [0] rfl (Xr2 (rfl) (Xca rfl) XeZ) (by decide) (XsB (by decide) XeW) XeY
theorem ok61 (hS:Xai Tryz.prog (Xar (XAe))):Xan Tryz.prog 61 (s61 (Xh3)):=by
 refine Xan.Xau Xam (fun ar os r ha hr=>?_) ⟨Tryz.f61,rfl,by decide,rfl⟩
 replace hr:r61 (Xh3) ar (XaA os)=some r:=hr
 unfold r61 at hr
 generalize hc:XaA os=C at hr
 replace hr:=dV.elim hr;obtain ⟨v0,l1,y0,rfl,e0,hr⟩:=hr;obtain rfl:=Xb7 _ _ e0
 replace hr:=Xdf hr;obtain ⟨rfl,rfl,x,h,rfl⟩:=hr
 obtain rfl:=Xao hc
 exact ⟨_,rfl,XGq hS _ x h⟩
def Xaw:(List UInt8)→Option Xab:=Xh3
theorem Xph:Xan Tryz.prog 61 (s61 Xaw):=ok61 (Xai.XaW trivial)
end Go.Vm.Code
namespace Go.Vm.Code
open Go Go.Vm
def rdr (r:Xab) (k:Int):Xab:=if r.bad=true∨k<0∨k>r.s.length then ⟨r.s,true,true⟩ else ⟨r.s.drop k.toNat,true,false⟩
def rdt (r:Xab) (k:Int):List UInt8:=if r.bad=true∨k<0∨k>r.s.length then [] else r.s.take k.toNat
theorem Xeg {r:Xab} (h:r.made=true):Xae r=some (r.bad,r):=by
 unfold Xae Xde
 rw [h];rfl
theorem XeP {r:Xab} {k:Int} (h:r.made=true):Xac r k=some (rdt r k,rdr r k):=by
 unfold Xac Xc0 rdt rdr
 rw [Xeg h,Option.bind_some]
 simp only []
 obtain ⟨s,m,b⟩:=r
 simp only at h ⊢
 subst h
 cases b with
 | true=>simp
 | false=>
   rw [cond_false]
   by_cases h1:k<0
   ·rw [XaV h1,if_pos (by omega),if_pos (by omega)]
   rw [XaM h1]
   by_cases h2:k>s.length
   ·rw [XaV h2,if_pos (by omega),if_pos (by omega)]
   ·have e:(s.drop k.toNat).take (s.length - k.toNat)=s.drop k.toNat:=List.take_of_length_le (by simp)
    rw [XaM h2,Xaz (by omega),Xaz (by omega),if_neg (by simp;omega),if_neg (by simp;omega),e]
theorem XfL (r:Xab) (k:Int):(rdr r k).made=true:=by unfold rdr;split<;>rfl
theorem Xqv {r:Xab} {k:Int}:(rdr r k).bad=false↔r.bad=false∧0≤k∧k≤r.s.length:=by
 unfold rdr
 split
 ·rename_i h
  simp only [Bool.true_eq_false,false_iff]
  intro ⟨a,b,c⟩
  rcases h with h|h|h
  ·rw [a] at h;cases h
  ·omega
  ·omega
 ·rename_i h
  simp only [true_iff]
  cases hb:r.bad
  ·exact ⟨rfl,by omega,by omega⟩
  ·exact absurd (.inl hb) h
theorem XJ8 {r:Xab} {k:Int} (h:(rdr r k).bad=false):((rdr r k).s.length:Int)=r.s.length - k:=by
 obtain ⟨a,b,c⟩:=Xqv.1 h
 unfold rdr
 rw [if_neg (by rw [a];simp;omega)]
 simp;omega
theorem Xgo {r r':Xab} {k:Int} (h:rdr r k=r') (hb:r'.bad=false):r.bad=false∧(r'.s.length:Int)+k=r.s.length:=by
 subst h
 have:=XJ8 hb
 exact ⟨(Xqv.1 hb).1,by omega⟩
theorem Xhg {s:List UInt8} {k:Int} (h0:0≤k) (h1:k≤s.length):rdr ⟨s,true,false⟩ k=⟨s.drop k.toNat,true,false⟩:=by
 unfold rdr;rw [if_neg (by simp;omega)]
theorem Xhq {s:List UInt8} {k:Int} (h0:0≤k) (h1:k≤s.length):rdt ⟨s,true,false⟩ k=s.take k.toNat:=by
 unfold rdt;rw [if_neg (by simp;omega)]
theorem XD4 (r:Xab) (k:Int):(rdt r k).length≤r.s.length:=by
 unfold rdt;split
 ·simp
 ·rw [List.length_take];omega
def rdn (r:Xab) (k:Int):Int:=(Xd0 (rdt r (if k<1∨k>7 then -1 else k)):Nat)
theorem XfO {r:Xab} {k:Int} (h:r.made=true) (hl:r.s.length<2^61):Xad r k=some (rdn r k,rdr r (if k<1∨k>7 then -1 else k)):=by
 unfold Xad Xdc rdn
 have bad:Xac r (-1)=some ([],rdr r (-1)):=by
  rw [XeP h];unfold rdt;rw [if_pos (by omega)]
 have e0:rdt r (-1)=[]:=by unfold rdt;rw [if_pos (by omega)]
 by_cases h1:k<1
 ·rw [XaV h1,bad,Option.bind_some,XeJ (by simp),if_pos (by omega),Option.bind_some,e0];rfl
 rw [XaM h1]
 by_cases h2:k>7
 ·rw [XaV h2,bad,Option.bind_some,XeJ (by simp),if_pos (by omega),Option.bind_some,e0];rfl
 have hlen:=XD4 r k
 rw [XaM h2,XeP h,Option.bind_some,XeJ (by simp only [];omega),Option.bind_some,if_neg (by omega)]
 simp only []
 unfold XsL
 by_cases hc:r.bad=true∨k<0∨k>r.s.length
 ·have e:rdt r k=[]:=by unfold rdt;rw [if_pos hc]
  rw [e,if_neg (by simp;omega)];rfl
 ·have hl2:(rdt r k).length=k.toNat:=by unfold rdt;rw [if_neg hc];simp;omega
  rw [if_pos (by omega)]
  have e2:((rdt r k).drop (0:Int).toNat).take k.toNat=rdt r k:=by
   rw [show (0:Int).toNat=0 from rfl,List.drop_zero,List.take_of_length_le (by omega)]
  have hv:Xd0 (rdt r k)<2^56:=by
   have:=Xpg (rdt r k)
   rw [hl2] at this
   exact Xn8 this (by omega)
  simp only [e2]
  rw [XcC (by omega) (by omega)]
theorem XgE {s:List UInt8} {p k:Int} (h0:0≤p) (h1:1≤k) (h8:k≤8) (h:p+k≤s.length):XsL s p k=(((Xd0 ((s.drop p.toNat).take k.toNat):Nat):Int),true):=by
 unfold XsL;rw [if_pos (by omega)]
theorem XmR (s:List UInt8):Xaw s=some ⟨s,true,false⟩:=rfl
def inR (n m:Int):Bool:=decide (0≤n∧n≤m)
theorem XC3 {n m:Int}:inR n m=true↔0≤n∧n≤m:=by unfold inR;simp
theorem Xvg (n:Nat):(((n:Int).tmod 4)==0)=decide (n%4=0):=by
 rw [Int.tmod_eq_emod_of_nonneg (by omega),Bool.eq_iff_iff,beq_iff_eq,decide_eq_true_eq];omega
theorem XAq (n:Nat):decide ((n:Int)≤40)=decide (n≤40):=by rw [Bool.eq_iff_iff,decide_eq_true_eq,decide_eq_true_eq];omega
theorem X3o (n:Nat):(20+(n:Int)).tdiv 4=(((20+n)/4:Nat):Int):=by rw [Int.tdiv_eq_ediv_of_nonneg (by omega)];omega
def vK (s:List UInt8) (p k:Nat):Int:=(Xd0 ((s.drop p).take k):Nat)
theorem Xej (s:List UInt8) (p k n:Nat) (h:256^k≤n):0≤vK s p k∧vK s p k<n:=by
 have:=XdK (l:=s.drop p) (k:=k) n h
 unfold vK;omega
theorem XBZ {s:List UInt8} {p k:Nat} (h1:1≤k) (h7:k≤7) (h:p+k≤s.length) (hl:s.length<2^61):Xad ⟨s.drop p,true,false⟩ (k:Int)=some (vK s p k,⟨s.drop (p+k),true,false⟩):=by
 have hd:(s.drop p).length=s.length - p:=by simp
 rw [XfO rfl (by simp only;omega),if_neg (by omega),Xhg (by omega) (by omega)]
 unfold rdn
 rw [if_neg (by omega),Xhq (by omega) (by omega),Int.toNat_natCast,List.drop_drop];rfl
theorem XnG {s:List UInt8} {p k:Nat} (h:p+k≤s.length):Xac ⟨s.drop p,true,false⟩ (k:Int)=some ((s.drop p).take k,⟨s.drop (p+k),true,false⟩):=by
 have hd:(s.drop p).length=s.length - p:=by simp
 rw [XeP rfl,Xhg (by omega) (by omega),Xhq (by omega) (by omega),Int.toNat_natCast,List.drop_drop]
theorem XnU {s:List UInt8} {p k:Nat} (hs:s.length<2^61) (h1:1≤k) (h7:k≤7) (h:p+k≤s.length):Xal s (p:Int) (k:Int)=some (vK s p k):=by
 rw [Xf1 hs,XgE (by omega) (by omega) (by omega) (by omega)]
 have:=Xej s p k (256^k) (Nat.le_refl _)
 have h8:256^k≤256^7:=Nat.pow_le_pow_right (by decide) h7
 have h9:(256:Nat)^7=72057594037927936:=by decide
 show some (wI .i64 (vK s p k))=_
 rw [XcC (by omega) (by omega)]
theorem XjZ {s:List UInt8} {p:Nat} (h:p<s.length):vK s p 1=(s[p].toNat:Int):=by
 unfold vK
 rw [List.drop_eq_getElem_cons h]
 show ((Xd0 [s[p]]:Nat):Int)=_
 rw [Xe6];simp
theorem Xtu {s:List UInt8} {p:Nat} (h:p+1<s.length):vK s p 2=(s[p].toNat*256+s[p+1].toNat:Int):=by
 unfold vK
 rw [List.drop_eq_getElem_cons (by omega:p<s.length),List.drop_eq_getElem_cons h]
 show ((Xd0 [s[p],s[p+1]]:Nat):Int)=_
 rw [Xe6,Xe6];simp
theorem l1 {l:List UInt8} (h:l.length=1):∃ a,l=[a]:=by
 match l,h with
 | [a],_=>exact ⟨a,rfl⟩
theorem l2 {l:List UInt8} (h:l.length=2):∃ a b,l=[a,b]:=by
 match l,h with
 | [a,b],_=>exact ⟨a,b,rfl⟩
theorem l4 {l:List UInt8} (h:l.length=4):∃ a b c d,l=[a,b,c,d]:=by
 match l,h with
 | [a,b,c,d],_=>exact ⟨a,b,c,d,rfl⟩
end Go.Vm.Code
namespace Go.Vm.Code
open Go Go.Vm Go.Proofs
set_option maxRecDepth 100000
set_option maxHeartbeats 4000000
set_option linter.unusedVariables false
def Xed (n:Int) (most:Int):Option Bool:=
 cond (decide (0≤n))
  (
  some (decide (n≤most)))
  (
  some (false))
def Xyt (x:Bool):Xco:=⟨.bool x,[],[]⟩
def r114 (g:Int→Int→Option Bool):Dec:=dV (asI .i64) fun (y0:Int)=>dV (asI .i64) fun (y1:Int)=>Xc4 (ofG (g y0 y1) Xyt)
theorem XR2 {g:Int→Int→Option Bool} {y0:Int} {y1:Int} {x:Bool} (hx:g y0 y1=some x):r114 g [.int .i64 y0,.int .i64 y1] []=some (Xyt x):=(XaS (XcI _)).trans ((XaS (XcI _)).trans (XaZ hx))
def s114 (g:Int→Int→Option Bool):Xbp:=⟨[.v,.v],r114 g⟩
theorem XnZ {g:Int→Int→Option Bool} {y0:Int} {y1:Int} {x:Bool} (hx:g y0 y1=some x):(s114 g).run [.int .i64 y0,.int .i64 y1] []=some (Xyt x):=XR2 hx
abbrev Xtn:List (Nat×Xbp):=[]
theorem XxK (hS:Xai Tryz.prog (Xar (Xtn))) (n:Int) (most:Int) (res:Bool) (h:Xed n most=some res) :
 XaD Tryz.prog 114 0 ⟨⟨114,12,[(0,.int .i64 n),(1,.int .i64 most)],[.code Xze],[],false,none⟩,[],[],0⟩ (fun v H _=>Res 0 (Xyt res) v H):=by
 unfold Xed at h
 refine Xa9 Xam hS true 3000 ?_
 conv=>whnf
 refine br.h h ?_ ?_ ?_
 ·rfl
 ·clear h;intro hb h;conv=>whnf
  all_goals (cases h;exact Res.z rfl rfl rfl)
 clear h;intro hb h;conv=>whnf
 all_goals (cases h;exact Res.z rfl rfl rfl)
theorem ok114 (hS:Xai Tryz.prog (Xar (Xtn))):Xan Tryz.prog 114 (s114 (Xed)):=by
 refine Xan.Xau Xam (fun ar os r ha hr=>?_) ⟨Tryz.f114,rfl,by decide,rfl⟩
 replace hr:r114 (Xed) ar (XaA os)=some r:=hr
 unfold r114 at hr
 generalize hc:XaA os=C at hr
 replace hr:=dV.elim hr;obtain ⟨v0,l1,y0,rfl,e0,hr⟩:=hr;obtain rfl:=XbO _ _ _ e0
 replace hr:=dV.elim hr;obtain ⟨v1,l2,y1,rfl,e1,hr⟩:=hr;obtain rfl:=XbO _ _ _ e1
 replace hr:=Xdf hr;obtain ⟨rfl,rfl,x,h,rfl⟩:=hr
 obtain rfl:=Xao hc
 exact ⟨_,rfl,XxK hS _ _ x h⟩
def Xbq:Int→Int→Option Bool:=Xed
theorem XI3:Xan Tryz.prog 114 (s114 Xbq):=ok114 (Xai.XaW trivial)
def Xfx (XaL:Xaa→Option Bool) (a:Xaa):Option Bool:=
 cond (!a.V6)
  (
  (XaL a).bind fun xr=>
  some (xr))
  (
  some (false))
def XyI (x:Bool):Xco:=⟨.bool x,[],[]⟩
def r115 (g:Xaa→Option Bool):Dec:=dV Xa8 fun (y0:Xaa)=>Xc4 (ofG (g y0) XyI)
theorem XVf {g:Xaa→Option Bool} {y0:Xaa} {x:Bool} (hx:g y0=some x):r115 g [.agg ⟨[.bool y0.V6,.int .u64 y0.Hi,.int .u64 y0.Lo]⟩] []=some (XyI x):=(XaS (XaY _)).trans (XaZ hx)
def s115 (g:Xaa→Option Bool):Xbp:=⟨[.v],r115 g⟩
theorem Xvv {g:Xaa→Option Bool} {y0:Xaa} {x:Bool} (hx:g y0=some x):(s115 g).run [.agg ⟨[.bool y0.V6,.int .u64 y0.Hi,.int .u64 y0.Lo]⟩] []=some (XyI x):=XVf hx
abbrev XtC (XaL:Xaa→Option Bool):List (Nat×Xbp):=[(113,XLu XaL)]
theorem Xw6 (XaL:Xaa→Option Bool) (hS:Xai Tryz.prog (Xar (XtC XaL))) (a:Xaa) (res:Bool) (h:Xfx XaL a=some res) :
 XaD Tryz.prog 115 0 ⟨⟨115,10,[(0,.agg ⟨[.bool a.V6,.int .u64 a.Hi,.int .u64 a.Lo]⟩)],[.code XAy],[],false,none⟩,[],[],0⟩ (fun v H _=>Res 0 (XyI res) v H):=by
 unfold Xfx at h
 refine Xa9 Xam hS true 3000 ?_
 conv=>whnf
 refine br.h2 h ?_ ?_ ?_
 ·rfl
 ·clear h;intro hb h;conv=>whnf
  all_goals (cases h;exact Res.z rfl rfl rfl)
 clear h;intro hb h;conv=>whnf
 replace h:=Xak.elim h;obtain ⟨xr,hy,h⟩:=h
 refine XaG.q rfl rfl (XnL hy) rfl rfl rfl ?_
 conv=>whnf
 all_goals (cases h;exact Res.z rfl rfl rfl)
theorem ok115 (XaL:Xaa→Option Bool) (hS:Xai Tryz.prog (Xar (XtC XaL))):Xan Tryz.prog 115 (s115 (Xfx XaL)):=by
 refine Xan.Xau Xam (fun ar os r ha hr=>?_) ⟨Tryz.f115,rfl,by decide,rfl⟩
 replace hr:r115 (Xfx XaL) ar (XaA os)=some r:=hr
 unfold r115 at hr
 generalize hc:XaA os=C at hr
 replace hr:=dV.elim hr;obtain ⟨v0,l1,y0,rfl,e0,hr⟩:=hr;obtain rfl:=XaN _ _ e0
 replace hr:=Xdf hr;obtain ⟨rfl,rfl,x,h,rfl⟩:=hr
 obtain rfl:=Xao hc
 exact ⟨_,rfl,Xw6 XaL hS _ x h⟩
def XbW:Xaa→Option Bool:=Xfx XaL
theorem XID:Xan Tryz.prog 115 (s115 XbW):=ok115 XaL (Xai.XaW ⟨XqE,trivial⟩)
def Xds (XbW:Xaa→Option Bool) (Xbq:Int→Int→Option Bool) (ha0:Xah):Option Bool:=
 (Xbq ha0.Class 255).bind fun w=>
 cond (!w)
  (
  some (false))
  (
  (Xbq ha0.Mark 65535).bind fun w1=>
  cond (!w1)
   (
   some (false))
   (
   (Xbq ha0.TTL 255).bind fun w2=>
   cond (!w2)
    (
    some (false))
    (
    (Xbq ha0.Proto 255).bind fun w3=>
    cond (!w3)
     (
     some (false))
     (
     (XbW ha0.Src).bind fun f=>
     cond (f)
      (
      (XbW ha0.Dst).bind fun f1=>
      cond (f1)
       (
       cond (((ha0.Options.length:Int).tmod 4)==0)
        (
        some (decide ((ha0.Options.length:Int)≤40)))
        (
        some (false)))
       (
       some (false)))
      (
      some (false))))))
def rx81 (x:Bool):Xco:=⟨.bool x,[],[]⟩
def r81 (g:Xah→Option Bool):Dec:=dV Xd2 fun (y0:Xah)=>Xc4 (ofG (g y0) rx81)
theorem r81_c {g:Xah→Option Bool} {y0:Xah} {x:Bool} (hx:g y0=some x):r81 g [.agg ⟨[.int .i64 y0.Class,.int .i64 y0.Mark,.bool y0.Whole,.int .i64 y0.TTL,.int .i64 y0.Proto,.bool y0.Src.V6,.int .u64 y0.Src.Hi,.int .u64 y0.Src.Lo,.bool y0.Dst.V6,.int .u64 y0.Dst.Hi,.int .u64 y0.Dst.Lo,.string ⟨⟨y0.Options⟩⟩]⟩] []=some (rx81 x):=(XaS (XfI _)).trans (XaZ hx)
def s81 (g:Xah→Option Bool):Xbp:=⟨[.v],r81 g⟩
theorem X0H {g:Xah→Option Bool} {y0:Xah} {x:Bool} (hx:g y0=some x):(s81 g).run [.agg ⟨[.int .i64 y0.Class,.int .i64 y0.Mark,.bool y0.Whole,.int .i64 y0.TTL,.int .i64 y0.Proto,.bool y0.Src.V6,.int .u64 y0.Src.Hi,.int .u64 y0.Src.Lo,.bool y0.Dst.V6,.int .u64 y0.Dst.Hi,.int .u64 y0.Dst.Lo,.string ⟨⟨y0.Options⟩⟩]⟩] []=some (rx81 x):=r81_c hx
abbrev XzO (XbW:Xaa→Option Bool) (Xbq:Int→Int→Option Bool):List (Nat×Xbp):=[(115,s115 XbW),(114,s114 Xbq)]
theorem XFr (XbW:Xaa→Option Bool) (Xbq:Int→Int→Option Bool) (hS:Xai Tryz.prog (Xar (XzO XbW Xbq))) (ha0:Xah) (res:Bool) (h:Xds XbW Xbq ha0=some res) :
 XaD Tryz.prog 81 0 ⟨⟨81,46,[(0,.agg ⟨[.int .i64 ha0.Class,.int .i64 ha0.Mark,.bool ha0.Whole,.int .i64 ha0.TTL,.int .i64 ha0.Proto,.bool ha0.Src.V6,.int .u64 ha0.Src.Hi,.int .u64 ha0.Src.Lo,.bool ha0.Dst.V6,.int .u64 ha0.Dst.Hi,.int .u64 ha0.Dst.Lo,.string ⟨⟨ha0.Options⟩⟩]⟩)],[.code XWb],[],false,none⟩,[],[],0⟩ (fun v H _=>Res 0 (rx81 res) v H):=by
 unfold Xds at h
 refine Xa9 Xam hS true 3000 ?_
 conv=>whnf
 replace h:=Xak.elim h;obtain ⟨w,hy,h⟩:=h
 refine XaG.q rfl rfl (XnZ hy) rfl rfl rfl ?_
 conv=>whnf
 refine br.h h ?_ ?_ ?_
 ·rfl
 ·clear h;intro hb h;conv=>whnf
  all_goals (cases h;exact Res.z rfl rfl rfl)
 clear h;intro hb h;conv=>whnf
 replace h:=Xak.elim h;obtain ⟨w1,hy,h⟩:=h
 refine XaG.q rfl rfl (XnZ hy) rfl rfl rfl ?_
 conv=>whnf
 refine br.h h ?_ ?_ ?_
 ·rfl
 ·clear h;intro hb h;conv=>whnf
  all_goals (cases h;exact Res.z rfl rfl rfl)
 clear h;intro hb h;conv=>whnf
 replace h:=Xak.elim h;obtain ⟨w2,hy,h⟩:=h
 refine XaG.q rfl rfl (XnZ hy) rfl rfl rfl ?_
 conv=>whnf
 refine br.h h ?_ ?_ ?_
 ·rfl
 ·clear h;intro hb h;conv=>whnf
  all_goals (cases h;exact Res.z rfl rfl rfl)
 clear h;intro hb h;conv=>whnf
 replace h:=Xak.elim h;obtain ⟨w3,hy,h⟩:=h
 refine XaG.q rfl rfl (XnZ hy) rfl rfl rfl ?_
 conv=>whnf
 refine br.h h ?_ ?_ ?_
 ·rfl
 ·clear h;intro hb h;conv=>whnf
  all_goals (cases h;exact Res.z rfl rfl rfl)
 clear h;intro hb h;conv=>whnf
 replace h:=Xak.elim h;obtain ⟨f,hy,h⟩:=h
 refine XaG.q rfl rfl (Xvv hy) rfl rfl rfl ?_
 conv=>whnf
 refine br.h2 h ?_ ?_ ?_
 ·rfl
 ·clear h;intro hb h;conv=>whnf
  all_goals (cases h;exact Res.z rfl rfl rfl)
 clear h;intro hb h;conv=>whnf
 replace h:=Xak.elim h;obtain ⟨f1,hy,h⟩:=h
 refine XaG.q rfl rfl (Xvv hy) rfl rfl rfl ?_
 conv=>whnf
 refine br.h2 h ?_ ?_ ?_
 ·rfl
 ·clear h;intro hb h;conv=>whnf
  all_goals (cases h;exact Res.z rfl rfl rfl)
 clear h;intro hb h;conv=>whnf
 refine br.h h ?_ ?_ ?_
 ·rfl
 ·clear h;intro hb h;conv=>whnf
  all_goals (cases h;exact Res.z rfl rfl rfl)
 clear h;intro hb h;conv=>whnf
 all_goals (cases h;exact Res.z rfl rfl rfl)
theorem ok81 (XbW:Xaa→Option Bool) (Xbq:Int→Int→Option Bool) (hS:Xai Tryz.prog (Xar (XzO XbW Xbq))):Xan Tryz.prog 81 (s81 (Xds XbW Xbq)):=by
 refine Xan.Xau Xam (fun ar os r ha hr=>?_) ⟨Tryz.f81,rfl,by decide,rfl⟩
 replace hr:r81 (Xds XbW Xbq) ar (XaA os)=some r:=hr
 unfold r81 at hr
 generalize hc:XaA os=C at hr
 replace hr:=dV.elim hr;obtain ⟨v0,l1,y0,rfl,e0,hr⟩:=hr;obtain rfl:=Xe8 _ _ e0
 replace hr:=Xdf hr;obtain ⟨rfl,rfl,x,h,rfl⟩:=hr
 obtain rfl:=Xao hc
 exact ⟨_,rfl,XFr XbW Xbq hS _ x h⟩
def Xbo:Xah→Option Bool:=Xds XbW Xbq
theorem X0u:Xan Tryz.prog 81 (s81 Xbo):=ok81 XbW Xbq (Xai.XaW ⟨XID,XI3,trivial⟩)
def XfX (Xa3:Xaa→Option (List UInt8)) (XbG:(List UInt8)→Option Int) (Xbm:(List UInt8)→Int→Int→Int→Option (List UInt8)) (Xbo:Xah→Option Bool) (Xa6:(List Int)→Option (List UInt8)) (ha0:Xah) (payload:List UInt8):Option ((List UInt8)×Int):=
 let t:=wI .i64 (20+(ha0.Options.length:Int))
 (Xbo ha0).bind fun m=>
 cond (!m)
  (
  some (([],1)))
  (
  let t1:=decide ((payload.length:Int)>(wI .i64 (65535 - t)))
  cond (t1)
   (
   some (([],5)))
   (
   cond (ha0.Whole)
    (
    (Xa6 [Xkl .i64 64 (wI .i64 (t.tdiv 4)),1,ha0.Class,1,wI .i64 (t+(payload.length:Int)),2,ha0.Mark,2,64,1,0,1,ha0.TTL,1,ha0.Proto,1,0,2]).bind fun xr=>
    (Xa3 ha0.Src).bind fun p=>
    (Xa3 ha0.Dst).bind fun p1=>
    XaK (decide (p.length+p1.length<2^63)) <|
    XaK (decide ((p++p1).length+ha0.Options.length<2^63)) <|
    XaK (decide (xr.length+((p++p1)++ha0.Options).length<2^63)) <|
    (XbG (xr++((p++p1)++ha0.Options))).bind fun xo=>
    (Xbm (xr++((p++p1)++ha0.Options)) 10 2 (wI .u64 xo)).bind fun s=>
    XaK (decide (s.length+payload.length<2^63)) <|
    some ((s++payload,0)))
    (
    (Xa6 [Xkl .i64 64 (wI .i64 (t.tdiv 4)),1,ha0.Class,1,wI .i64 (t+(payload.length:Int)),2,ha0.Mark,2,0,1,0,1,ha0.TTL,1,ha0.Proto,1,0,2]).bind fun xr1=>
    (Xa3 ha0.Src).bind fun p2=>
    (Xa3 ha0.Dst).bind fun p3=>
    XaK (decide (p2.length+p3.length<2^63)) <|
    XaK (decide ((p2++p3).length+ha0.Options.length<2^63)) <|
    XaK (decide (xr1.length+((p2++p3)++ha0.Options).length<2^63)) <|
    (XbG (xr1++((p2++p3)++ha0.Options))).bind fun xo1=>
    (Xbm (xr1++((p2++p3)++ha0.Options)) 10 2 (wI .u64 xo1)).bind fun s1=>
    XaK (decide (s1.length+payload.length<2^63)) <|
    some ((s1++payload,0)))))
def rx49 (x:(List UInt8)×Int):Xco:=⟨.tuple ⟨[.string ⟨⟨x.1⟩⟩,.int .i64 x.2]⟩,[],[]⟩
def r49 (g:Xah→(List UInt8)→Option ((List UInt8)×Int)):Dec:=dV Xd2 fun (y0:Xah)=>dV asS fun (y1:List UInt8)=>Xc4 (ofG (g y0 y1) rx49)
theorem r49_c {g:Xah→(List UInt8)→Option ((List UInt8)×Int)} {y0:Xah} {y1:List UInt8} {x:(List UInt8)×Int} (hx:g y0 y1=some x):r49 g [.agg ⟨[.int .i64 y0.Class,.int .i64 y0.Mark,.bool y0.Whole,.int .i64 y0.TTL,.int .i64 y0.Proto,.bool y0.Src.V6,.int .u64 y0.Src.Hi,.int .u64 y0.Src.Lo,.bool y0.Dst.V6,.int .u64 y0.Dst.Hi,.int .u64 y0.Dst.Lo,.string ⟨⟨y0.Options⟩⟩]⟩,.string ⟨⟨y1⟩⟩] []=some (rx49 x):=(XaS (XfI _)).trans ((XaS (XdJ)).trans (XaZ hx))
def s49 (g:Xah→(List UInt8)→Option ((List UInt8)×Int)):Xbp:=⟨[.v,.v],r49 g⟩
theorem XSU {g:Xah→(List UInt8)→Option ((List UInt8)×Int)} {y0:Xah} {y1:List UInt8} {x:(List UInt8)×Int} (hx:g y0 y1=some x):(s49 g).run [.agg ⟨[.int .i64 y0.Class,.int .i64 y0.Mark,.bool y0.Whole,.int .i64 y0.TTL,.int .i64 y0.Proto,.bool y0.Src.V6,.int .u64 y0.Src.Hi,.int .u64 y0.Src.Lo,.bool y0.Dst.V6,.int .u64 y0.Dst.Hi,.int .u64 y0.Dst.Lo,.string ⟨⟨y0.Options⟩⟩]⟩,.string ⟨⟨y1⟩⟩] []=some (rx49 x):=r49_c hx
abbrev XBe (Xa3:Xaa→Option (List UInt8)) (XbG:(List UInt8)→Option Int) (Xbm:(List UInt8)→Int→Int→Int→Option (List UInt8)) (Xbo:Xah→Option Bool) (Xa6:(List Int)→Option (List UInt8)):List (Nat×Xbp):=[(80,s80 Xa3),(78,s78 XbG),(43,s43 Xbm),(81,s81 Xbo),(82,s82 Xa6)]
theorem XCa (Xa3:Xaa→Option (List UInt8)) (XbG:(List UInt8)→Option Int) (Xbm:(List UInt8)→Int→Int→Int→Option (List UInt8)) (Xbo:Xah→Option Bool) (Xa6:(List Int)→Option (List UInt8)) (hS:Xai Tryz.prog (Xar (XBe Xa3 XbG Xbm Xbo Xa6))) (ha0:Xah) (payload:List UInt8) (res:(List UInt8)×Int) (h:XfX Xa3 XbG Xbm Xbo Xa6 ha0 payload=some res) :
 XaD Tryz.prog 49 0 ⟨⟨49,62,[(0,.agg ⟨[.int .i64 ha0.Class,.int .i64 ha0.Mark,.bool ha0.Whole,.int .i64 ha0.TTL,.int .i64 ha0.Proto,.bool ha0.Src.V6,.int .u64 ha0.Src.Hi,.int .u64 ha0.Src.Lo,.bool ha0.Dst.V6,.int .u64 ha0.Dst.Hi,.int .u64 ha0.Dst.Lo,.string ⟨⟨ha0.Options⟩⟩]⟩),(1,.string ⟨⟨payload⟩⟩)],[.code XBO],[],false,none⟩,[],[],0⟩ (fun v H _=>Res 0 (rx49 res) v H):=by
 unfold XfX at h
 refine Xa9 Xam hS true 3000 ?_
 conv=>whnf
 let t:Int:=wI .i64 (20+(ha0.Options.length:Int))
 replace h:=Xak.elim h;obtain ⟨m,hy,h⟩:=h
 refine XaG.q rfl rfl (X0H hy) rfl rfl rfl ?_
 conv=>whnf
 refine br.h h ?_ ?_ ?_
 ·rfl
 ·clear h;intro hb h;conv=>whnf
  all_goals (cases h;exact Res.z rfl rfl rfl)
 clear h;intro hb h;conv=>whnf
 let t1:Bool:=decide ((payload.length:Int)>(wI .i64 (65535 - t)))
 refine br.h h ?_ ?_ ?_
 ·rfl
 ·clear h;intro hb h;conv=>whnf
  all_goals (cases h;exact Res.z rfl rfl rfl)
 clear h;intro hb h;conv=>whnf
 refine br.h h ?_ ?_ ?_
 ·rfl
 ·clear h;intro hb h;conv=>whnf
  replace h:=Xak.elim h;obtain ⟨xr,hy,h⟩:=h
  refine XaG.Xba [] (Xat (aqs:=[.slice (some ⟨0,0,none⟩) ([Xkl .i64 64 (wI .i64 (t.tdiv 4)),1,ha0.Class,1,wI .i64 (t+(payload.length:Int)),2,ha0.Mark,2,64,1,0,1,ha0.TTL,1,ha0.Proto,1,0,2]:List Int).length 1]) (ws:=[.win 1 0 (18*1) false]) (n:=0) (m:=0) (t':=2) (Xas (by first|rfl|exact Xhl rfl rfl (by first|rfl|omega) (by first|rfl|(simp;done))|exact XiL rfl rfl (by first|rfl|omega) (by first|rfl|omega) (by first|omega|(simp at *;omega))) rfl Xbd) rfl (by rfl) (XrE hy) rfl rfl rfl rfl (XgA rfl Xbc) Xbb rfl) ?_
  conv=>whnf
  replace h:=Xak.elim h;obtain ⟨p,hy,h⟩:=h
  refine XaG.q rfl rfl (XlJ hy) rfl rfl rfl ?_
  conv=>whnf
  replace h:=Xak.elim h;obtain ⟨p1,hy,h⟩:=h
  refine XaG.q rfl rfl (XlJ hy) rfl rfl rfl ?_
  conv=>whnf
  replace h:=XaK.elim h;obtain ⟨hb,h⟩:=h
  first|(refine req.intro hb ?_;conv=>whnf)|skip
  replace h:=XaK.elim h;obtain ⟨hb,h⟩:=h
  first|(refine req.intro hb ?_;conv=>whnf)|skip
  replace h:=XaK.elim h;obtain ⟨hb,h⟩:=h
  first|(refine req.intro hb ?_;conv=>whnf)|skip
  replace h:=Xak.elim h;obtain ⟨xo,hy,h⟩:=h
  refine XaG.q rfl rfl (Xvb hy) rfl rfl rfl ?_
  conv=>whnf
  replace h:=Xak.elim h;obtain ⟨s,hy,h⟩:=h
  refine XaG.q rfl rfl (XsS hy) rfl rfl rfl ?_
  conv=>whnf
  replace h:=XaK.elim h;obtain ⟨hb,h⟩:=h
  first|(refine req.intro hb ?_;conv=>whnf)|skip
  all_goals (cases h;exact Res.z rfl rfl rfl)
 clear h;intro hb h;conv=>whnf
 replace h:=Xak.elim h;obtain ⟨xr1,hy,h⟩:=h
 refine XaG.Xba [] (Xat (aqs:=[.slice (some ⟨0,0,none⟩) ([Xkl .i64 64 (wI .i64 (t.tdiv 4)),1,ha0.Class,1,wI .i64 (t+(payload.length:Int)),2,ha0.Mark,2,0,1,0,1,ha0.TTL,1,ha0.Proto,1,0,2]:List Int).length 1]) (ws:=[.win 1 0 (18*1) false]) (n:=0) (m:=0) (t':=2) (Xas (by first|rfl|exact Xhl rfl rfl (by first|rfl|omega) (by first|rfl|(simp;done))|exact XiL rfl rfl (by first|rfl|omega) (by first|rfl|omega) (by first|omega|(simp at *;omega))) rfl Xbd) rfl (by rfl) (XrE hy) rfl rfl rfl rfl (XgA rfl Xbc) Xbb rfl) ?_
 conv=>whnf
 replace h:=Xak.elim h;obtain ⟨p2,hy,h⟩:=h
 refine XaG.q rfl rfl (XlJ hy) rfl rfl rfl ?_
 conv=>whnf
 replace h:=Xak.elim h;obtain ⟨p3,hy,h⟩:=h
 refine XaG.q rfl rfl (XlJ hy) rfl rfl rfl ?_
 conv=>whnf
 replace h:=XaK.elim h;obtain ⟨hb,h⟩:=h
 first|(refine req.intro hb ?_;conv=>whnf)|skip
 replace h:=XaK.elim h;obtain ⟨hb,h⟩:=h
 first|(refine req.intro hb ?_;conv=>whnf)|skip
 replace h:=XaK.elim h;obtain ⟨hb,h⟩:=h
 first|(refine req.intro hb ?_;conv=>whnf)|skip
 replace h:=Xak.elim h;obtain ⟨xo1,hy,h⟩:=h
 refine XaG.q rfl rfl (Xvb hy) rfl rfl rfl ?_
 conv=>whnf
 replace h:=Xak.elim h;obtain ⟨s1,hy,h⟩:=h
 refine XaG.q rfl rfl (XsS hy) rfl rfl rfl ?_
 conv=>whnf
 replace h:=XaK.elim h;obtain ⟨hb,h⟩:=h
 first|(refine req.intro hb ?_;conv=>whnf)|skip
 all_goals (cases h;exact Res.z rfl rfl rfl)
theorem ok49 (Xa3:Xaa→Option (List UInt8)) (XbG:(List UInt8)→Option Int) (Xbm:(List UInt8)→Int→Int→Int→Option (List UInt8)) (Xbo:Xah→Option Bool) (Xa6:(List Int)→Option (List UInt8)) (hS:Xai Tryz.prog (Xar (XBe Xa3 XbG Xbm Xbo Xa6))):Xan Tryz.prog 49 (s49 (XfX Xa3 XbG Xbm Xbo Xa6)):=by
 refine Xan.Xau Xam (fun ar os r ha hr=>?_) ⟨Tryz.f49,rfl,by decide,rfl⟩
 replace hr:r49 (XfX Xa3 XbG Xbm Xbo Xa6) ar (XaA os)=some r:=hr
 unfold r49 at hr
 generalize hc:XaA os=C at hr
 replace hr:=dV.elim hr;obtain ⟨v0,l1,y0,rfl,e0,hr⟩:=hr;obtain rfl:=Xe8 _ _ e0
 replace hr:=dV.elim hr;obtain ⟨v1,l2,y1,rfl,e1,hr⟩:=hr;obtain rfl:=Xb7 _ _ e1
 replace hr:=Xdf hr;obtain ⟨rfl,rfl,x,h,rfl⟩:=hr
 obtain rfl:=Xao hc
 exact ⟨_,rfl,XCa Xa3 XbG Xbm Xbo Xa6 hS _ _ x h⟩
def Xcg:Xah→(List UInt8)→Option ((List UInt8)×Int):=XfX Xa3 XbG Xbm Xbo Xa6
theorem X0M:Xan Tryz.prog 49 (s49 Xcg):=ok49 Xa3 XbG Xbm Xbo Xa6 (Xai.XaW ⟨XtT,XBN,XA7,X0u,XBI,trivial⟩)
def Xlo (n:Int) (most:Int):Option Bool:=
 cond (decide (n≥0))
  (
  some (decide (n≤most)))
  (
  some (false))
def Xxw (x:Bool):Xco:=⟨.bool x,[],[]⟩
def r119 (g:Int→Int→Option Bool):Dec:=dV (asI .i64) fun (y0:Int)=>dV (asI .i64) fun (y1:Int)=>Xc4 (ofG (g y0 y1) Xxw)
theorem X2V {g:Int→Int→Option Bool} {y0:Int} {y1:Int} {x:Bool} (hx:g y0 y1=some x):r119 g [.int .i64 y0,.int .i64 y1] []=some (Xxw x):=(XaS (XcI _)).trans ((XaS (XcI _)).trans (XaZ hx))
def s119 (g:Int→Int→Option Bool):Xbp:=⟨[.v,.v],r119 g⟩
theorem XnM {g:Int→Int→Option Bool} {y0:Int} {y1:Int} {x:Bool} (hx:g y0 y1=some x):(s119 g).run [.int .i64 y0,.int .i64 y1] []=some (Xxw x):=X2V hx
abbrev Xt2:List (Nat×Xbp):=[]
theorem XxL (hS:Xai Tryz.prog (Xar (Xt2))) (n:Int) (most:Int) (res:Bool) (h:Xlo n most=some res) :
 XaD Tryz.prog 119 0 ⟨⟨119,12,[(0,.int .i64 n),(1,.int .i64 most)],[.code XBw],[],false,none⟩,[],[],0⟩ (fun v H _=>Res 0 (Xxw res) v H):=by
 unfold Xlo at h
 refine Xa9 Xam hS true 3000 ?_
 conv=>whnf
 refine br.h h ?_ ?_ ?_
 ·rfl
 ·clear h;intro hb h;conv=>whnf
  all_goals (cases h;exact Res.z rfl rfl rfl)
 clear h;intro hb h;conv=>whnf
 all_goals (cases h;exact Res.z rfl rfl rfl)
theorem ok119 (hS:Xai Tryz.prog (Xar (Xt2))):Xan Tryz.prog 119 (s119 (Xlo)):=by
 refine Xan.Xau Xam (fun ar os r ha hr=>?_) ⟨Tryz.f119,rfl,by decide,rfl⟩
 replace hr:r119 (Xlo) ar (XaA os)=some r:=hr
 unfold r119 at hr
 generalize hc:XaA os=C at hr
 replace hr:=dV.elim hr;obtain ⟨v0,l1,y0,rfl,e0,hr⟩:=hr;obtain rfl:=XbO _ _ _ e0
 replace hr:=dV.elim hr;obtain ⟨v1,l2,y1,rfl,e1,hr⟩:=hr;obtain rfl:=XbO _ _ _ e1
 replace hr:=Xdf hr;obtain ⟨rfl,rfl,x,h,rfl⟩:=hr
 obtain rfl:=Xao hc
 exact ⟨_,rfl,XxL hS _ _ x h⟩
def Xff:Int→Int→Option Bool:=Xlo
theorem XK4:Xan Tryz.prog 119 (s119 Xff):=ok119 (Xai.XaW trivial)
def Xh1 (Xa0:Xaa→Option Bool) (a:Xaa):Option Bool:=
 (Xa0 a).bind fun xr=>
 cond (xr)
  (
  some (!a.V6))
  (
  some (false))
def Xxh (x:Bool):Xco:=⟨.bool x,[],[]⟩
def r120 (g:Xaa→Option Bool):Dec:=dV Xa8 fun (y0:Xaa)=>Xc4 (ofG (g y0) Xxh)
theorem XZN {g:Xaa→Option Bool} {y0:Xaa} {x:Bool} (hx:g y0=some x):r120 g [.agg ⟨[.bool y0.V6,.int .u64 y0.Hi,.int .u64 y0.Lo]⟩] []=some (Xxh x):=(XaS (XaY _)).trans (XaZ hx)
def s120 (g:Xaa→Option Bool):Xbp:=⟨[.v],r120 g⟩
theorem Xvk {g:Xaa→Option Bool} {y0:Xaa} {x:Bool} (hx:g y0=some x):(s120 g).run [.agg ⟨[.bool y0.V6,.int .u64 y0.Hi,.int .u64 y0.Lo]⟩] []=some (Xxh x):=XZN hx
abbrev XuN (Xa0:Xaa→Option Bool):List (Nat×Xbp):=[(97,s97 Xa0)]
theorem Xw5 (Xa0:Xaa→Option Bool) (hS:Xai Tryz.prog (Xar (XuN Xa0))) (a:Xaa) (res:Bool) (h:Xh1 Xa0 a=some res) :
 XaD Tryz.prog 120 0 ⟨⟨120,10,[(0,.agg ⟨[.bool a.V6,.int .u64 a.Hi,.int .u64 a.Lo]⟩)],[.code XAp],[],false,none⟩,[],[],0⟩ (fun v H _=>Res 0 (Xxh res) v H):=by
 unfold Xh1 at h
 refine Xa9 Xam hS true 3000 ?_
 conv=>whnf
 replace h:=Xak.elim h;obtain ⟨xr,hy,h⟩:=h
 refine XaG.q rfl rfl (Xq0 hy) rfl rfl rfl ?_
 conv=>whnf
 refine br.h h ?_ ?_ ?_
 ·rfl
 ·clear h;intro hb h;conv=>whnf
  all_goals (cases h;exact Res.z rfl rfl rfl)
 clear h;intro hb h;conv=>whnf
 all_goals (cases h;exact Res.z rfl rfl rfl)
theorem ok120 (Xa0:Xaa→Option Bool) (hS:Xai Tryz.prog (Xar (XuN Xa0))):Xan Tryz.prog 120 (s120 (Xh1 Xa0)):=by
 refine Xan.Xau Xam (fun ar os r ha hr=>?_) ⟨Tryz.f120,rfl,by decide,rfl⟩
 replace hr:r120 (Xh1 Xa0) ar (XaA os)=some r:=hr
 unfold r120 at hr
 generalize hc:XaA os=C at hr
 replace hr:=dV.elim hr;obtain ⟨v0,l1,y0,rfl,e0,hr⟩:=hr;obtain rfl:=XaN _ _ e0
 replace hr:=Xdf hr;obtain ⟨rfl,rfl,x,h,rfl⟩:=hr
 obtain rfl:=Xao hc
 exact ⟨_,rfl,Xw5 Xa0 hS _ x h⟩
def Xdn:Xaa→Option Bool:=Xh1 Xa0
theorem XKh:Xan Tryz.prog 120 (s120 Xdn):=ok120 Xa0 (Xai.XaW ⟨XuJ,trivial⟩)
end Go.Vm.Code
