import Derived.Test.YtddaijhjflfdmaaGreatNClientPlaysc
namespace Go.Vm.Code
open Go Go.Vm Go.Proofs
def Xy5:VC:=.seq (.reg [oD 2 (.mv (.const (.string ⟨⟨[]⟩⟩))),oD 3 (.mv (.const (.int .i64 0)))]) (.seq (.reg [oM 6 τ0,oD 7 (.callF 78 [τ6,(.const (.int .i64 1))]),oM 4 τ7]) (.seq (.seq (.reg [oM 8 τ0,oD 9 (.callF 138 [τ8]),oD 10 (.not τ9),oM 11 Xda,oG 12 (.mv τ4) 11 true,oG 13 (.bin .gtr XdK (.const (.int .i64 20))) 11 true,oD 14 (.pick Xc8 Xef (.const (.bool false)))]) (.cond XeN (.seq (.reg [oD 2 (.mv (.const (.string ⟨⟨[]⟩⟩))),oD 3 (.mv (.const (.int .i64 3)))]) .ret) .skip)) (.seq (.reg [oM 15 τ0,oM 16 τ4,oD 17 (.callF 129 [XeG,XeW]),oM 5 XeI]) (.seq (.seq (.reg [oM 18 τ0,oD 19 (.callF 138 [Xfg])]) (.cond Xe5 (.seq (.reg [oD 2 (.mv (.const (.string ⟨⟨[]⟩⟩))),oD 3 (.mv (.const (.int .i64 2)))]) .ret) .skip)) (.seq (.reg [oM 20 τ5,oM 2 Xfv,oD 3 (.mv (.const (.int .i64 0)))]) .ret)))))
def XVj:VFn:=⟨21,Xy5,[.tmp 2,.tmp 3]⟩
def XxQ:VC:=.seq (.reg [oD 2 (.mv (.const (.string ⟨⟨[]⟩⟩)))]) (.seq (.seq (.reg [oM 5 τ0,oD 6 (.callF 72 [τ5]),oD 7 (.not τ6)]) (.cond τ7 (.seq (.reg [oD 2 (.mv (.const (.string ⟨⟨[]⟩⟩)))]) .ret) .skip)) (.seq (.reg [oM 9 τ0,oD 10 (.nilCheck τ9),oD 11 (.fieldA 9 Xda),oD 12 (.fieldA 0 Xc8),oD 13 (.load1 .oth XdK),oM 14 τ0,oD 15 (.callV Xef [XeN]),oM 8 XeG,oE 16 0 τ8,oE 17 1 τ8,oM 3 XeW,oM 4 XeI]) (.seq (.reg [oM 18 τ3,oM 2 Xfg]) .ret)))
def fn35:VFn:=⟨19,XxQ,[.tmp 2]⟩
def XKJ:VC:=.seq (.reg [oD 2 (.mv (.const (.bool false)))]) (.seq (.reg [oM 3 τ0,oD 4 (.isNil 0 true τ3),oM 5 τ4,oG 6 (.mv τ0) 5 true,oG 7 (.nilCheck τ6) 5 true,oG 8 (.fieldA 9 τ7) 5 true,oG 9 (.fieldA 1 τ8) 5 true,oG 10 (.load1 .oth τ9) 5 true,oG 11 (.isNil 2 true Xda) 5 true,oD 12 (.pick τ5 Xc8 (.const (.bool false))),oM 2 XdK]) .ret)
def fn72:VFn:=⟨13,XKJ,[.tmp 2]⟩
def XUE:VC:=.seq (.reg [oD 2 (.alloc [(.int .i64 0),(.bool false),(.int .u64 0),(.int .u64 0),(.bool false),(.int .u64 0),(.int .u64 0),(.int .i64 0),(.int .i64 0),(.int .i64 0),(.bool false),(.int .u32 0),(.int .u32 0),(.bool false),(.string ⟨⟨[]⟩⟩),(.int .i64 0)]),oD 3 (.mv (.const (.int .i64 0)))]) (.seq (.reg [oM 9 τ0,oD 10 (.callF 66 [τ9]),oM 8 Xda,oE 11 0 τ8,oE 12 1 τ8,oE 13 2 τ8,oE 14 3 τ8,oD 4 (.alloc [(.int .i64 0),(.bool false),(.int .u64 0),(.int .u64 0),(.bool false),(.int .u64 0),(.int .u64 0),(.int .i64 0),(.int .i64 0),(.int .i64 0),(.bool false),(.int .u32 0),(.int .u32 0),(.bool false),(.string ⟨⟨[]⟩⟩),(.int .i64 0)]),oN (.store 16 τ4 Xc8),oM 5 XdK,oM 6 Xef,oM 7 XeN]) (.seq (.reg [oD 15 (.loadN [(.int .i64),.bool,(.int .u64),(.int .u64),.bool,(.int .u64),(.int .u64),(.int .i64),(.int .i64),(.int .i64),.bool,(.int .u32),(.int .u32),.bool,.str,(.int .i64)] τ4),oM 16 τ7,oN (.store 16 τ2 XeG),oM 3 XeW]) .ret))
def fn28:VFn:=⟨17,XUE,[.cell 2 [(.int .i64),.bool,(.int .u64),(.int .u64),.bool,(.int .u64),(.int .u64),(.int .i64),(.int .i64),(.int .i64),.bool,(.int .u32),(.int .u32),.bool,.str,(.int .i64)] true,.tmp 3]⟩
def XVN:VC:=.regD [oD 97 (.loadN [(.int .i64),.bool,(.int .u64),(.int .u64),.bool,(.int .u64),(.int .u64),(.int .i64),(.int .i64),(.int .i64),.bool,(.int .u32),(.int .u32),.bool,.str,(.int .i64)] τ8),oD 98 (.fieldA 7 τ6),oD 99 (.load1 (.int .i64) XQG),oD 100 (.fieldA 7 τ6),oD 101 (.load1 (.int .i64) XwV),oD 102 (.bin .add Xwp (.const (.int .i64 20))),oD 103 (.fieldA 7 τ9),oD 104 (.load1 .str XwI),oD 105 (.lenS Xzd),oD 106 (.bin .add XAM Xzk),oN (.store 16 τ2 XJu),oM 3 XQI] [(2,10),(4,10),(7,10)] [oM 4 Xzp,oD 5 (.mv (.const (.int .i64 0)))]
def XVV:VC:=.regD [oD 155 (.loadN [(.int .i64),.bool,(.int .u64),(.int .u64),.bool,(.int .u64),(.int .u64),(.int .i64),(.int .i64),(.int .i64),.bool,(.int .u32),(.int .u32),.bool,.str,(.int .i64)] τ8),oD 156 (.fieldA 7 τ6),oD 157 (.load1 (.int .i64) XNg),oD 158 (.fieldA 7 τ6),oD 159 (.load1 (.int .i64) XQ5),oD 160 (.bin .add XRG (.const (.int .i64 8))),oN (.store 16 τ2 XKw),oM 3 XSN] [(2,6),(4,6)] [oM 4 XUC,oD 5 (.mv (.const (.int .i64 0)))]
def XJQ:VC:=.seq (.reg [oD 2 (.alloc [(.int .i64 0),(.bool false),(.int .u64 0),(.int .u64 0),(.bool false),(.int .u64 0),(.int .u64 0),(.int .i64 0),(.int .i64 0),(.int .i64 0),(.bool false),(.int .u32 0),(.int .u32 0),(.bool false),(.string ⟨⟨[]⟩⟩),(.int .i64 0)]),oD 3 (.mv (.const (.int .i64 0))),oD 4 (.mv (.const (.int .i64 0))),oD 5 (.mv (.const (.int .i64 0)))]) (.seq (.seq (.reg [oM 18 τ0,oD 19 (.lenS Xfg),oD 20 (.bin .gtr Xe5 (.const (.int .i64 9000)))]) (.cond Xfv (.seq (.reg [oD 21 (.build [(.int .i64 0),(.bool false),(.int .u64 0),(.int .u64 0),(.bool false),(.int .u64 0),(.int .u64 0),(.int .i64 0),(.int .i64 0),(.int .i64 0),(.bool false),(.int .u32 0),(.int .u32 0),(.bool false),(.string ⟨⟨[]⟩⟩),(.int .i64 0)] []),oN (.store 16 τ2 XfM),oD 3 (.mv (.const (.int .i64 0))),oD 4 (.mv (.const (.int .i64 0))),oD 5 (.mv (.const (.int .i64 5)))]) .ret) .skip)) (.seq (.seq (.reg [oM 22 τ0,oD 23 (.bin .eql XfP (.const (.string ⟨⟨[]⟩⟩)))]) (.cond XfO (.seq (.reg [oD 24 (.build [(.int .i64 0),(.bool false),(.int .u64 0),(.int .u64 0),(.bool false),(.int .u64 0),(.int .u64 0),(.int .i64 0),(.int .i64 0),(.int .i64 0),(.bool false),(.int .u32 0),(.int .u32 0),(.bool false),(.string ⟨⟨[]⟩⟩),(.int .i64 0)] []),oN (.store 16 τ2 Xgb),oD 3 (.mv (.const (.int .i64 0))),oD 4 (.mv (.const (.int .i64 0))),oD 5 (.mv (.const (.int .i64 2)))]) .ret) .skip)) (.seq (.reg [oM 26 τ0,oD 27 (.callF 105 [XgE]),oM 25 XgH,oE 28 0 Xgz,oE 29 1 Xgz,oD 6 (.alloc [(.bool false),(.int .u64 0),(.int .u64 0),(.bool false),(.int .u64 0),(.int .u64 0),(.int .i64 0),(.int .i64 0),(.string ⟨⟨[]⟩⟩)]),oN (.store 9 τ6 XgC),oM 7 XgF]) (.seq (.seq (.reg [oM 30 τ7,oD 31 (.bin .neq XgR (.const (.int .i64 0)))]) (.cond Xg7 (.seq (.reg [oD 32 (.build [(.int .i64 0),(.bool false),(.int .u64 0),(.int .u64 0),(.bool false),(.int .u64 0),(.int .u64 0),(.int .i64 0),(.int .i64 0),(.int .i64 0),(.bool false),(.int .u32 0),(.int .u32 0),(.bool false),(.string ⟨⟨[]⟩⟩),(.int .i64 0)] []),oM 33 τ7,oN (.store 16 τ2 Xhp),oD 3 (.mv (.const (.int .i64 0))),oD 4 (.mv (.const (.int .i64 0))),oM 5 Xhr]) .ret) .skip)) (.seq (.seq (.reg [oD 34 (.fieldA 7 τ6),oD 35 (.load1 (.int .i64) Xhu),oD 36 (.fieldA 8 τ6),oD 37 (.load1 .str Xie),oD 38 (.lenS Xib),oD 39 (.bin .add XhG XiB),oM 40 τ0,oD 41 (.lenS Xjr),oD 42 (.bin .neq Xjc XjD)]) (.cond Xje (.seq (.reg [oD 43 (.build [(.int .i64 0),(.bool false),(.int .u64 0),(.int .u64 0),(.bool false),(.int .u64 0),(.int .u64 0),(.int .i64 0),(.int .i64 0),(.int .i64 0),(.bool false),(.int .u32 0),(.int .u32 0),(.bool false),(.string ⟨⟨[]⟩⟩),(.int .i64 0)] []),oN (.store 16 τ2 Xjs),oD 3 (.mv (.const (.int .i64 0))),oD 4 (.mv (.const (.int .i64 0))),oD 5 (.mv (.const (.int .i64 5)))]) .ret) .skip)) (.seq (.reg [oM 44 τ0,oD 45 (.lenS Xkm),oD 46 (.fieldA 6 τ6),oD 47 (.load1 (.int .i64) XkD),oD 48 (.fieldA 0 τ6),oD 49 (.loadN [.bool,(.int .u64),(.int .u64)] XkB),oD 50 (.fieldA 3 τ6),oD 51 (.loadN [.bool,(.int .u64),(.int .u64)] Xlj),oD 52 (.build [(.int .i64 0),(.bool false),(.int .u64 0),(.int .u64 0),(.bool false),(.int .u64 0),(.int .u64 0),(.int .i64 0),(.int .i64 0)] [(0,1,XkC),(1,3,XkA),(4,3,Xlr)]),oD 53 (.build [(.int .i64 0),(.bool false),(.int .u64 0),(.int .u64 0),(.bool false),(.int .u64 0),(.int .u64 0),(.int .i64 0),(.int .i64 0),(.int .i64 0),(.bool false),(.int .u32 0),(.int .u32 0),(.bool false),(.string ⟨⟨[]⟩⟩),(.int .i64 0)] [(15,1,Xkl),(0,9,Xls)]),oD 8 (.alloc [(.int .i64 0),(.bool false),(.int .u64 0),(.int .u64 0),(.bool false),(.int .u64 0),(.int .u64 0),(.int .i64 0),(.int .i64 0),(.int .i64 0),(.bool false),(.int .u32 0),(.int .u32 0),(.bool false),(.string ⟨⟨[]⟩⟩),(.int .i64 0)]),oN (.store 16 τ8 XmB)]) (.seq (.seq (.reg [oD 54 (.fieldA 6 τ6),oD 55 (.load1 (.int .i64) Xne),oD 56 (.bin .eql XmO (.const (.int .i64 6)))]) (.cond Xnd (.seq (.reg [oD 58 (.fieldA 8 τ6),oD 59 (.load1 .str XmU),oD 60 (.fieldA 0 τ6),oD 61 (.loadN [.bool,(.int .u64),(.int .u64)] Xoi),oD 62 (.fieldA 3 τ6),oD 63 (.loadN [.bool,(.int .u64),(.int .u64)] XoS),oD 64 (.callF 106 [Xno,Xoj,Xqq]),oM 57 Xqr,oE 65 0 XmT,oE 66 1 XmT,oE 67 2 XmT,oD 9 (.alloc [(.int .i64 0),(.int .i64 0),(.int .u32 0),(.int .u32 0),(.int .i64 0),(.int .i64 0),(.int .i64 0),(.string ⟨⟨[]⟩⟩)]),oN (.store 8 τ9 Xrb),oM 10 XqE,oM 11 Xqu]) (.seq (.seq (.reg [oM 68 Xc8,oD 69 (.bin .neq XqA (.const (.int .i64 0)))]) (.cond Xr8 (.seq (.reg [oD 70 (.build [(.int .i64 0),(.bool false),(.int .u64 0),(.int .u64 0),(.bool false),(.int .u64 0),(.int .u64 0),(.int .i64 0),(.int .i64 0),(.int .i64 0),(.bool false),(.int .u32 0),(.int .u32 0),(.bool false),(.string ⟨⟨[]⟩⟩),(.int .i64 0)] []),oM 71 Xc8,oN (.store 16 τ2 Xsr),oD 3 (.mv (.const (.int .i64 0))),oD 4 (.mv (.const (.int .i64 0))),oM 5 Xsq]) .ret) .skip)) (.seq (.reg [oD 72 (.fieldA 0 τ9),oD 73 (.load1 (.int .i64) Xsm),oD 74 (.fieldA 0 τ8),oD 75 (.fieldA 7 Xvj),oN (.store 1 XuX XtH)]) (.seq (.reg [oD 76 (.fieldA 1 τ9),oD 77 (.load1 (.int .i64) Xxj),oD 78 (.fieldA 0 τ8),oD 79 (.fieldA 8 Xxb),oN (.store 1 XxT Xw9)]) (.seq (.reg [oD 80 (.fieldA 4 τ9),oD 81 (.load1 (.int .i64) XxY),oD 82 (.fieldA 9 τ8),oN (.store 1 XCp XBS)]) (.seq (.reg [oD 84 (.fieldA 7 τ9),oD 85 (.load1 .str XJi),oD 86 (.callF 107 [XHN]),oM 83 XOQ,oE 87 0 XBM,oE 88 1 XBM,oE 89 2 XBM,oM 12 XNn,oM 13 XJ3,oM 14 XKO]) (.seq (.seq (.reg [oM 90 XeN,oD 91 (.bin .geq XPK (.const (.int .i64 0)))]) (.cond XOi (.seq (.reg [oD 92 (.fieldA 10 τ8),oN (.store 1 XMJ (.const (.bool true)))]) (.seq (.reg [oM 93 XdK,oD 94 (.fieldA 11 τ8),oN (.store 1 XQv XPY)]) (.reg [oM 95 Xef,oD 96 (.fieldA 12 τ8),oN (.store 1 XK5 XPx)]))) .skip)) (.seq XVN .ret)))))))) .skip)) (.seq (.seq (.reg [oD 107 (.fieldA 6 τ6),oD 108 (.load1 (.int .i64) XyV),oD 109 (.bin .neq XxC (.const (.int .i64 17)))]) (.cond XBj (.seq (.reg [oD 110 (.build [(.int .i64 0),(.bool false),(.int .u64 0),(.int .u64 0),(.bool false),(.int .u64 0),(.int .u64 0),(.int .i64 0),(.int .i64 0),(.int .i64 0),(.bool false),(.int .u32 0),(.int .u32 0),(.bool false),(.string ⟨⟨[]⟩⟩),(.int .i64 0)] []),oN (.store 16 τ2 XEs),oD 3 (.mv (.const (.int .i64 0))),oD 4 (.mv (.const (.int .i64 0))),oD 5 (.mv (.const (.int .i64 6)))]) .ret) .skip)) (.seq (.reg [oD 112 (.fieldA 8 τ6),oD 113 (.load1 .str XAR),oD 114 (.fieldA 0 τ6),oD 115 (.loadN [.bool,(.int .u64),(.int .u64)] Xwy),oD 116 (.fieldA 3 τ6),oD 117 (.loadN [.bool,(.int .u64),(.int .u64)] XyY),oD 118 (.callF 108 [XyS,XxZ,Xyo]),oM 111 XAN,oE 119 0 Xt0,oE 120 1 Xt0,oE 121 2 Xt0,oD 15 (.alloc [(.int .i64 0),(.int .i64 0)]),oN (.store 2 XeG Xz0),oM 16 XBp,oM 7 Xy6]) (.seq (.seq (.reg [oM 122 τ7,oD 123 (.bin .neq Xyv (.const (.int .i64 0)))]) (.cond XFW (.seq (.reg [oD 124 (.build [(.int .i64 0),(.bool false),(.int .u64 0),(.int .u64 0),(.bool false),(.int .u64 0),(.int .u64 0),(.int .i64 0),(.int .i64 0),(.int .i64 0),(.bool false),(.int .u32 0),(.int .u32 0),(.bool false),(.string ⟨⟨[]⟩⟩),(.int .i64 0)] []),oM 125 τ7,oN (.store 16 τ2 XyN),oD 3 (.mv (.const (.int .i64 0))),oD 4 (.mv (.const (.int .i64 0))),oM 5 XE8]) .ret) .skip)) (.seq (.seq (.reg [oM 126 XeW,oD 127 (.lenS XEJ),oD 128 (.bin .add XDg (.const (.int .i64 8))),oD 129 (.fieldA 8 τ6),oD 130 (.load1 .str XB5),oD 131 (.lenS XCn),oD 132 (.bin .neq XCH XHr)]) (.cond XCO (.seq (.reg [oD 133 (.build [(.int .i64 0),(.bool false),(.int .u64 0),(.int .u64 0),(.bool false),(.int .u64 0),(.int .u64 0),(.int .i64 0),(.int .i64 0),(.int .i64 0),(.bool false),(.int .u32 0),(.int .u32 0),(.bool false),(.string ⟨⟨[]⟩⟩),(.int .i64 0)] []),oN (.store 16 τ2 XFF),oD 3 (.mv (.const (.int .i64 0))),oD 4 (.mv (.const (.int .i64 0))),oD 5 (.mv (.const (.int .i64 5)))]) .ret) .skip)) (.seq (.reg [oD 134 (.fieldA 0 XeG),oD 135 (.load1 (.int .i64) XDN),oD 136 (.fieldA 0 τ8),oD 137 (.fieldA 7 XFA),oN (.store 1 Xyu XGZ)]) (.seq (.reg [oD 138 (.fieldA 1 XeG),oD 139 (.load1 (.int .i64) XOd),oD 140 (.fieldA 0 τ8),oD 141 (.fieldA 8 XOY),oN (.store 1 XL9 XMV)]) (.seq (.reg [oM 143 XeW,oD 144 (.callF 74 [XNY]),oM 142 XOw,oE 145 0 XDd,oE 146 1 XDd,oD 17 (.alloc [(.bool false),(.int .i64 0),(.int .u32 0),(.string ⟨⟨[]⟩⟩),(.string ⟨⟨[]⟩⟩),(.string ⟨⟨[]⟩⟩)]),oN (.store 6 XeI XOJ),oM 7 XLq]) (.seq (.seq (.reg [oM 147 τ7,oD 148 (.bin .eql XN4 (.const (.int .i64 0)))]) (.cond XLH (.seq (.reg [oD 149 (.fieldA 0 XeI),oD 150 (.load1 .bool XNq),oD 151 (.fieldA 13 τ8),oN (.store 1 XMo XLL)]) (.reg [oD 152 (.fieldA 3 XeI),oD 153 (.load1 .str XNJ),oD 154 (.fieldA 14 τ8),oN (.store 1 XKT XLs)])) .skip)) (.seq XVV .ret))))))))))))))))
def fn66:VFn:=⟨161,XJQ,[.cell 2 [(.int .i64),.bool,(.int .u64),(.int .u64),.bool,(.int .u64),(.int .u64),(.int .i64),(.int .i64),(.int .i64),.bool,(.int .u32),(.int .u32),.bool,.str,(.int .i64)] true,.tmp 3,.tmp 4,.tmp 5]⟩
def Xxs:VC:=.seq (.reg [oD 2 (.alloc [(.bool false),(.int .u64 0),(.int .u64 0),(.bool false),(.int .u64 0),(.int .u64 0),(.int .i64 0),(.int .i64 0),(.string ⟨⟨[]⟩⟩)]),oD 3 (.mv (.const (.int .i64 0)))]) (.seq (.seq (.reg [oM 10 τ0,oD 11 (.idxS Xda (.const (.int .i64 0))),oD 12 (.bin .quo Xc8 (.const (.int .u8 16))),oD 13 (.bin .eql XdK (.const (.int .u8 4)))]) (.cond Xef (.seq (.reg [oM 15 τ0,oD 16 (.callF 152 [XeG]),oM 14 XeW,oE 17 0 XeN,oE 18 1 XeN,oE 19 2 XeN,oD 4 (.alloc [(.int .i64 0),(.int .i64 0),(.bool false),(.int .i64 0),(.int .i64 0),(.bool false),(.int .u64 0),(.int .u64 0),(.bool false),(.int .u64 0),(.int .u64 0),(.string ⟨⟨[]⟩⟩)]),oN (.store 12 τ4 XeI),oM 5 Xfg,oM 6 Xe5]) (.seq (.reg [oD 20 (.fieldA 5 τ4),oD 21 (.loadN [.bool,(.int .u64),(.int .u64)] Xfv),oD 22 (.fieldA 8 τ4),oD 23 (.loadN [.bool,(.int .u64),(.int .u64)] XfP),oD 24 (.fieldA 4 τ4),oD 25 (.load1 (.int .i64) Xgb),oD 26 (.fieldA 11 τ4),oD 27 (.load1 .str XgE),oD 28 (.lenS XgH),oD 29 (.bin .add (.const (.int .i64 20)) XgC),oM 30 τ5,oD 31 (.build [(.bool false),(.int .u64 0),(.int .u64 0),(.bool false),(.int .u64 0),(.int .u64 0),(.int .i64 0),(.int .i64 0),(.string ⟨⟨[]⟩⟩)] [(0,3,XfM),(3,3,XfO),(6,1,Xgz),(7,1,XgF),(8,1,XgR)]),oM 32 τ6,oN (.store 9 τ2 Xg7),oM 3 Xhp]) .ret)) .skip)) (.seq (.seq (.reg [oM 33 τ0,oD 34 (.idxS Xhr (.const (.int .i64 0))),oD 35 (.bin .quo Xhu (.const (.int .u8 16))),oD 36 (.bin .eql XhG (.const (.int .u8 6)))]) (.cond Xie (.seq (.reg [oM 38 τ0,oD 39 (.callF 153 [XiB]),oM 37 Xjc,oE 40 0 Xib,oE 41 1 Xib,oE 42 2 Xib,oD 7 (.alloc [(.int .i64 0),(.int .i64 0),(.int .i64 0),(.int .i64 0),(.bool false),(.int .u64 0),(.int .u64 0),(.bool false),(.int .u64 0),(.int .u64 0)]),oN (.store 10 τ7 Xjr),oM 8 XjD,oM 9 Xje]) (.seq (.reg [oD 43 (.fieldA 4 τ7),oD 44 (.loadN [.bool,(.int .u64),(.int .u64)] Xjs),oD 45 (.fieldA 7 τ7),oD 46 (.loadN [.bool,(.int .u64),(.int .u64)] Xkl),oD 47 (.fieldA 2 τ7),oD 48 (.load1 (.int .i64) XkC),oM 49 τ8,oD 50 (.build [(.bool false),(.int .u64 0),(.int .u64 0),(.bool false),(.int .u64 0),(.int .u64 0),(.int .i64 0),(.int .i64 0),(.string ⟨⟨[]⟩⟩)] [(0,3,Xkm),(3,3,XkD),(6,1,XkB),(7,1,(.const (.int .i64 40))),(8,1,XkA)]),oM 51 τ9,oN (.store 9 τ2 Xlj),oM 3 Xlr]) .ret)) .skip)) (.seq (.reg [oD 52 (.build [(.bool false),(.int .u64 0),(.int .u64 0),(.bool false),(.int .u64 0),(.int .u64 0),(.int .i64 0),(.int .i64 0),(.string ⟨⟨[]⟩⟩)] []),oN (.store 9 τ2 Xls),oD 3 (.mv (.const (.int .i64 3)))]) .ret)))
def XS8:VFn:=⟨53,Xxs,[.cell 2 [.bool,(.int .u64),(.int .u64),.bool,(.int .u64),(.int .u64),(.int .i64),(.int .i64),.str] true,.tmp 3]⟩
def XSZ:VC:=.regD [oM 15 τ0,oD 16 (.idxS XeG (.const (.int .i64 0))),oD 17 (.bin .rem XeW (.const (.int .u8 16))),oD 18 (.conv .i64 XeI),oD 19 (.bin .mul (.const (.int .i64 4)) Xfg),oM 20 τ0,oD 21 (.callF 88 [Xfv,(.const (.int .i64 2)),(.const (.int .i64 2))])] [] [oM 5 Xe5,oM 6 XfM]
def XQy:VC:=.regD [oM 73 τ0,oD 74 (.idxS XtH (.const (.int .i64 1))),oD 75 (.conv .i64 Xvj),oM 76 τ0,oD 77 (.callF 88 [Xxj,(.const (.int .i64 4)),(.const (.int .i64 2))]),oM 78 τ0,oD 79 (.idxS Xxb (.const (.int .i64 6))),oD 80 (.bin .eql XxT (.const (.int .u8 64))),oM 81 τ0,oD 82 (.idxS XBS (.const (.int .i64 8))),oD 83 (.conv .i64 XCp),oM 84 τ0,oD 85 (.idxS XJi (.const (.int .i64 9))),oD 86 (.conv .i64 XHN),oD 87 (.loadN [.bool,(.int .u64),(.int .u64)] τ7),oD 88 (.loadN [.bool,(.int .u64),(.int .u64)] τ9),oM 89 τ0,oM 90 τ5,oD 91 (.sliceS XKO (some (.const (.int .i64 20))) (some XPK)),oD 92 (.build [(.int .i64 0),(.int .i64 0),(.bool false),(.int .i64 0),(.int .i64 0),(.bool false),(.int .u64 0),(.int .u64 0),(.bool false),(.int .u64 0),(.int .u64 0),(.string ⟨⟨[]⟩⟩)] [(0,1,XuX),(1,1,Xw9),(2,1,XxY),(3,1,XBM),(4,1,XOQ),(5,3,XNn),(8,3,XJ3),(11,1,XOi)]),oM 93 τ0,oM 94 τ5,oM 95 τ6,oD 96 (.sliceS XPY (some XQv) (some XPx)),oN (.store 12 τ2 XMJ)] [(4,14),(4,15)] [oM 3 XK5,oD 4 (.mv (.const (.int .i64 0)))]
def XyL:VC:=.seq (.reg [oD 2 (.alloc [(.int .i64 0),(.int .i64 0),(.bool false),(.int .i64 0),(.int .i64 0),(.bool false),(.int .u64 0),(.int .u64 0),(.bool false),(.int .u64 0),(.int .u64 0),(.string ⟨⟨[]⟩⟩)]),oD 3 (.mv (.const (.string ⟨⟨[]⟩⟩))),oD 4 (.mv (.const (.int .i64 0)))]) (.seq (.seq (.reg [oM 11 τ0,oD 12 (.lenS Xc8),oD 13 (.bin .lss XdK (.const (.int .i64 20)))]) (.cond Xef (.seq (.reg [oD 14 (.build [(.int .i64 0),(.int .i64 0),(.bool false),(.int .i64 0),(.int .i64 0),(.bool false),(.int .u64 0),(.int .u64 0),(.bool false),(.int .u64 0),(.int .u64 0),(.string ⟨⟨[]⟩⟩)] []),oN (.store 12 τ2 XeN),oD 3 (.mv (.const (.string ⟨⟨[]⟩⟩))),oD 4 (.mv (.const (.int .i64 2)))]) .ret) .skip)) (.seq XSZ (.seq (.seq (.reg [oM 22 τ0,oD 23 (.idxS XfP (.const (.int .i64 0))),oD 24 (.bin .quo XfO (.const (.int .u8 16))),oD 25 (.bin .neq Xgb (.const (.int .u8 4))),oM 26 Xgz,oG 27 (.mv τ5) 26 false,oG 28 (.bin .lss XgH (.const (.int .i64 20))) 26 false,oD 29 (.pick XgE (.const (.bool true)) XgC),oM 30 XgF,oG 31 (.mv τ6) 30 false,oG 32 (.mv τ5) 30 false,oG 33 (.bin .lss Xg7 Xhp) 30 false,oD 34 (.pick XgR (.const (.bool true)) Xhr)]) (.cond Xhu (.seq (.reg [oD 35 (.build [(.int .i64 0),(.int .i64 0),(.bool false),(.int .i64 0),(.int .i64 0),(.bool false),(.int .u64 0),(.int .u64 0),(.bool false),(.int .u64 0),(.int .u64 0),(.string ⟨⟨[]⟩⟩)] []),oN (.store 12 τ2 XhG),oD 3 (.mv (.const (.string ⟨⟨[]⟩⟩))),oD 4 (.mv (.const (.int .i64 3)))]) .ret) .skip)) (.seq (.seq (.reg [oM 36 τ0,oD 37 (.lenS Xie),oM 38 τ6,oD 39 (.bin .lss Xib XiB)]) (.cond Xjc (.seq (.reg [oD 40 (.build [(.int .i64 0),(.int .i64 0),(.bool false),(.int .i64 0),(.int .i64 0),(.bool false),(.int .u64 0),(.int .u64 0),(.bool false),(.int .u64 0),(.int .u64 0),(.string ⟨⟨[]⟩⟩)] []),oN (.store 12 τ2 Xjr),oD 3 (.mv (.const (.string ⟨⟨[]⟩⟩))),oD 4 (.mv (.const (.int .i64 2)))]) .ret) .skip)) (.seq (.seq (.reg [oM 41 τ0,oM 42 τ5,oD 43 (.sliceS XjD none (some Xje)),oD 44 (.callF 86 [Xjs]),oD 45 (.bin .neq Xkm (.const (.int .i64 65535)))]) (.cond Xkl (.seq (.reg [oD 46 (.build [(.int .i64 0),(.int .i64 0),(.bool false),(.int .i64 0),(.int .i64 0),(.bool false),(.int .u64 0),(.int .u64 0),(.bool false),(.int .u64 0),(.int .u64 0),(.string ⟨⟨[]⟩⟩)] []),oN (.store 12 τ2 XkD),oD 3 (.mv (.const (.string ⟨⟨[]⟩⟩))),oD 4 (.mv (.const (.int .i64 4)))]) .ret) .skip)) (.seq (.seq (.reg [oM 47 τ0,oD 48 (.idxS XkC (.const (.int .i64 6))),oD 49 (.bin .neq XkB (.const (.int .u8 0))),oM 50 XkA,oG 51 (.mv τ0) 50 true,oG 52 (.idxS Xlr (.const (.int .i64 6))) 50 true,oG 53 (.bin .neq Xls (.const (.int .u8 64))) 50 true,oD 54 (.pick Xlj XmB (.const (.bool false))),oM 55 Xne,oG 56 (.mv τ0) 55 false,oG 57 (.idxS Xnd (.const (.int .i64 7))) 55 false,oG 58 (.bin .neq XmT (.const (.int .u8 0))) 55 false,oD 59 (.pick XmO (.const (.bool true)) XmU)]) (.cond Xno (.seq (.reg [oD 60 (.build [(.int .i64 0),(.int .i64 0),(.bool false),(.int .i64 0),(.int .i64 0),(.bool false),(.int .u64 0),(.int .u64 0),(.bool false),(.int .u64 0),(.int .u64 0),(.string ⟨⟨[]⟩⟩)] []),oN (.store 12 τ2 Xoi),oD 3 (.mv (.const (.string ⟨⟨[]⟩⟩))),oD 4 (.mv (.const (.int .i64 7)))]) .ret) .skip)) (.seq (.reg [oM 62 τ0,oD 63 (.sliceS XoS (some (.const (.int .i64 12))) (some (.const (.int .i64 16)))),oD 64 (.callF 177 [Xqq]),oM 61 Xqr,oE 65 0 Xoj,oE 66 1 Xoj,oD 7 (.alloc [(.bool false),(.int .u64 0),(.int .u64 0)]),oN (.store 3 τ7 Xrb),oM 8 XqE]) (.seq (.reg [oM 68 τ0,oD 69 (.sliceS XqA (some (.const (.int .i64 16))) (some (.const (.int .i64 20)))),oD 70 (.callF 177 [Xr8]),oM 67 Xsr,oE 71 0 Xqu,oE 72 1 Xqu,oD 9 (.alloc [(.bool false),(.int .u64 0),(.int .u64 0)]),oN (.store 3 τ9 Xsq),oM 10 Xsm]) (.seq XQy .ret)))))))))
def XWu:VFn:=⟨97,XyL,[.cell 2 [(.int .i64),(.int .i64),.bool,(.int .i64),(.int .i64),.bool,(.int .u64),(.int .u64),.bool,(.int .u64),(.int .u64),.str] true,.tmp 3,.tmp 4]⟩
def XWo:VC:=.seq (.reg [oD 6 (.mv (.const (.int .i64 0)))]) (.seq (.reg [oM 10 τ0,oM 11 τ1,oM 12 τ2,oD 13 (.callF 87 [Xda,Xc8,XdK]),oM 9 Xef,oE 14 0 τ9,oE 15 1 τ9,oM 7 XeN,oM 8 XeG]) (.seq (.reg [oM 16 τ7,oD 17 (.conv .i64 XeW),oM 6 XeI]) .ret))
def fn88:VFn:=⟨18,XWo,[.tmp 6]⟩
def Xzo:VC:=.seq (.seq (.reg [oM 34 τ9,oM 35 τ2,oD 36 (.bin .lss Xhu XhG)]) (.cond Xie .skip (.exit 0))) (.seq (.block 1 (.reg [oM 39 τ8,oD 40 (.bin .mul Xjc (.const (.int .u64 256))),oM 41 τ0,oM 42 τ1,oM 43 τ9,oD 44 (.bin .add Xje Xjs),oD 45 (.idxS XjD Xkm),oD 46 (.conv .u64 Xkl),oD 47 (.bin .add Xjr XkD),oM 8 XkC])) (.reg [oM 37 τ9,oD 38 (.bin .add Xib (.const (.int .i64 1))),oM 9 XiB]))
def XIW:VC:=.seq (.reg [oM 48 τ8,oM 6 XkB,oD 7 (.mv (.const (.bool true)))]) .ret
def XI3:VC:=.seq (.reg [oD 6 (.mv (.const (.int .u64 0))),oD 7 (.mv (.const (.bool false)))]) (.seq (.seq (.reg [oM 10 τ2,oD 11 (.bin .lss Xda (.const (.int .i64 1))),oM 12 Xc8,oG 13 (.mv τ2) 12 false,oG 14 (.bin .gtr Xef (.const (.int .i64 8))) 12 false,oD 15 (.pick XdK (.const (.bool true)) XeN),oM 16 XeG,oG 17 (.mv τ1) 16 false,oG 18 (.bin .lss XeI (.const (.int .i64 0))) 16 false,oD 19 (.pick XeW (.const (.bool true)) Xfg),oM 20 Xe5,oG 21 (.mv τ1) 20 false,oG 22 (.mv τ0) 20 false,oG 23 (.lenS XfP) 20 false,oG 24 (.bin .gtr XfM XfO) 20 false,oD 25 (.pick Xfv (.const (.bool true)) Xgb),oM 26 Xgz,oG 27 (.mv τ2) 26 false,oG 28 (.mv τ0) 26 false,oG 29 (.lenS XgC) 26 false,oG 30 (.mv τ1) 26 false,oG 31 (.bin .sub XgF XgR) 26 false,oG 32 (.bin .gtr XgH Xg7) 26 false,oD 33 (.pick XgE (.const (.bool true)) Xhp)]) (.cond Xhr (.seq (.reg [oD 6 (.mv (.const (.int .u64 0))),oD 7 (.mv (.const (.bool false)))]) .ret) .skip)) (.seq (.reg [oD 8 (.mv (.const (.int .u64 0)))]) (.seq (.seq (.reg [oD 9 (.mv (.const (.int .i64 0)))]) (.block 0 (.loop Xzo))) XIW)))
def fn87:VFn:=⟨49,XI3,[.tmp 6,.tmp 7]⟩
def XTU:VC:=.seq (.reg [oD 2 (.mv (.const (.int .i64 0)))]) (.seq (.reg [oM 3 τ0,oD 4 (.callF 136 [τ3]),oD 5 (.callF 135 [τ4]),oM 2 τ5]) .ret)
def fn86:VFn:=⟨6,XTU,[.tmp 2]⟩
def Xug:VC:=.seq (.seq (.reg [oM 11 τ4,oM 12 τ0,oD 13 (.lenS XdK),oD 14 (.bin .lss Xc8 Xef)]) (.cond XeN .skip (.exit 0))) (.seq (.block 1 (.reg [oM 17 τ3,oM 18 τ0,oM 19 τ4,oD 20 (.callF 88 [Xfg,Xe5,(.const (.int .i64 2))]),oD 21 (.buildSl 1 1 [(.int .i64 0)] [(0,1,Xfv)]),oD 22 (.app 3 1 8 XeI XfM),oM 3 XfP])) (.reg [oM 15 τ4,oD 16 (.bin .add XeG (.const (.int .i64 2))),oM 4 XeW]))
def Xzs:VC:=.seq (.reg [oM 23 τ3,oM 2 XfO]) .ret
def XA8:VC:=.seq (.reg [oD 2 (.mv (.const (.slice none 0 0)))]) (.seq (.seq (.reg [oM 5 τ0,oD 6 (.lenS τ5),oD 7 (.bin .rem τ6 (.const (.int .i64 2))),oD 8 (.bin .eql τ7 (.const (.int .i64 1)))]) (.cond τ8 (.reg [oM 9 τ0,oD 10 (.bin .add τ9 (.const (.string ⟨⟨[0]⟩⟩))),oM 0 Xda]) .skip)) (.seq (.reg [oD 3 (.mv (.const (.slice none 0 0)))]) (.seq (.seq (.reg [oD 4 (.mv (.const (.int .i64 0)))]) (.block 0 (.loop Xug))) Xzs)))
def XRS:VFn:=⟨24,XA8,[.tmp 2]⟩
def Xt1:VC:=.seq (.seq (.reg [oM 5 τ4,oM 6 τ0,oD 7 (.lenL τ6),oD 8 (.bin .lss τ5 τ7)]) (.cond τ8 .skip (.exit 0))) (.seq (.block 1 (.reg [oM 11 τ3,oM 12 τ0,oM 13 τ4,oD 14 (.idxAL 1 XdK Xef),oD 15 (.load1 (.int .i64) XeN),oD 16 (.bin .add Xc8 XeG),oM 3 XeW])) (.reg [oM 9 τ4,oD 10 (.bin .add τ9 (.const (.int .i64 1))),oM 4 Xda]))
def XuR:VC:=.seq (.seq (.reg [oM 17 τ3,oD 18 (.bin .gtr XeI (.const (.int .i64 65535)))]) (.cond Xfg .skip (.exit 2))) (.block 3 (.reg [oM 19 τ3,oD 20 (.bin .rem Xe5 (.const (.int .i64 65536))),oM 21 τ3,oD 22 (.bin .quo XfM (.const (.int .i64 65536))),oD 23 (.bin .add Xfv XfP),oM 3 XfO]))
def Xxw:VC:=.seq (.reg [oM 24 τ3,oM 2 Xgb]) .ret
def XA2:VC:=.seq (.block 2 (.loop XuR)) Xxw
def XAE:VC:=.seq (.reg [oD 2 (.mv (.const (.int .i64 0)))]) (.seq (.reg [oD 3 (.mv (.const (.int .i64 0)))]) (.seq (.seq (.reg [oD 4 (.mv (.const (.int .i64 0)))]) (.block 0 (.loop Xt1))) XA2))
def XSL:VFn:=⟨25,XAE,[.tmp 2]⟩
def XyT:VC:=.seq (.reg [oD 2 (.alloc [(.bool false),(.int .u64 0),(.int .u64 0)]),oD 3 (.mv (.const (.bool false)))]) (.seq (.seq (.reg [oM 10 τ0,oD 11 (.lenS Xda),oD 12 (.bin .eql Xc8 (.const (.int .i64 4)))]) (.cond XdK (.seq (.reg [oM 14 τ0,oD 15 (.callF 87 [XeN,(.const (.int .i64 0)),(.const (.int .i64 4))]),oM 13 XeG,oE 16 0 Xef,oE 17 1 Xef,oM 4 XeW,oM 5 XeI]) (.seq (.reg [oM 18 τ4,oD 19 (.build [(.bool false),(.int .u64 0),(.int .u64 0)] [(2,1,Xfg)]),oN (.store 3 τ2 Xe5),oD 3 (.mv (.const (.bool true)))]) .ret)) .skip)) (.seq (.seq (.reg [oM 20 τ0,oD 21 (.lenS Xfv),oD 22 (.bin .eql XfM (.const (.int .i64 16)))]) (.cond XfP (.seq (.reg [oM 24 τ0,oD 25 (.callF 87 [Xgb,(.const (.int .i64 0)),(.const (.int .i64 8))]),oM 23 Xgz,oE 26 0 XfO,oE 27 1 XfO,oM 6 XgE,oM 7 XgH]) (.seq (.reg [oM 29 τ0,oD 30 (.callF 87 [XgF,(.const (.int .i64 8)),(.const (.int .i64 8))]),oM 28 XgR,oE 31 0 XgC,oE 32 1 XgC,oM 8 Xg7,oM 9 Xhp]) (.seq (.reg [oM 33 τ6,oM 34 τ8,oD 35 (.build [(.bool false),(.int .u64 0),(.int .u64 0)] [(0,1,(.const (.bool true))),(1,1,Xhr),(2,1,Xhu)]),oN (.store 3 τ2 XhG),oD 3 (.mv (.const (.bool true)))]) .ret))) .skip)) (.seq (.reg [oD 36 (.build [(.bool false),(.int .u64 0),(.int .u64 0)] []),oN (.store 3 τ2 Xie),oD 3 (.mv (.const (.bool false)))]) .ret)))
def XSF:VFn:=⟨37,XyT,[.cell 2 [.bool,(.int .u64),(.int .u64)] true,.tmp 3]⟩
def XLC:VC:=.regD [oM 41 τ5,oD 42 (.bin .quo XjD (.const (.int .i64 1048576))),oD 43 (.bin .rem Xje (.const (.int .i64 256))),oM 44 τ5,oD 45 (.bin .rem Xkm (.const (.int .i64 1048576))),oM 46 τ0,oD 47 (.idxS XkD (.const (.int .i64 6))),oD 48 (.conv .i64 XkC),oM 49 τ0,oD 50 (.idxS XkA (.const (.int .i64 7))),oD 51 (.conv .i64 Xlj),oD 52 (.loadN [.bool,(.int .u64),(.int .u64)] τ7),oD 53 (.loadN [.bool,(.int .u64),(.int .u64)] τ9),oD 54 (.build [(.int .i64 0),(.int .i64 0),(.int .i64 0),(.int .i64 0),(.bool false),(.int .u64 0),(.int .u64 0),(.bool false),(.int .u64 0),(.int .u64 0)] [(0,1,Xjs),(1,1,Xkl),(2,1,XkB),(3,1,Xlr),(4,3,Xls),(7,3,XmB)]),oM 55 τ0,oM 56 τ6,oD 57 (.bin .add (.const (.int .i64 40)) Xnd),oD 58 (.sliceS XmO (some (.const (.int .i64 40))) (some XmT)),oN (.store 10 τ2 Xne)] [] [oM 3 XmU,oD 4 (.mv (.const (.int .i64 0)))]
def XBu:VC:=.seq (.reg [oD 2 (.alloc [(.int .i64 0),(.int .i64 0),(.int .i64 0),(.int .i64 0),(.bool false),(.int .u64 0),(.int .u64 0),(.bool false),(.int .u64 0),(.int .u64 0)]),oD 3 (.mv (.const (.string ⟨⟨[]⟩⟩))),oD 4 (.mv (.const (.int .i64 0)))]) (.seq (.seq (.reg [oM 11 τ0,oD 12 (.lenS Xc8),oD 13 (.bin .lss XdK (.const (.int .i64 40)))]) (.cond Xef (.seq (.reg [oD 14 (.build [(.int .i64 0),(.int .i64 0),(.int .i64 0),(.int .i64 0),(.bool false),(.int .u64 0),(.int .u64 0),(.bool false),(.int .u64 0),(.int .u64 0)] []),oN (.store 10 τ2 XeN),oD 3 (.mv (.const (.string ⟨⟨[]⟩⟩))),oD 4 (.mv (.const (.int .i64 2)))]) .ret) .skip)) (.seq (.reg [oM 15 τ0,oD 16 (.callF 88 [XeG,(.const (.int .i64 0)),(.const (.int .i64 4))]),oM 17 τ0,oD 18 (.callF 88 [XeI,(.const (.int .i64 4)),(.const (.int .i64 2))]),oM 5 XeW,oM 6 Xfg]) (.seq (.seq (.reg [oM 19 τ5,oD 20 (.bin .quo Xe5 (.const (.int .i64 268435456))),oD 21 (.bin .neq Xfv (.const (.int .i64 6)))]) (.cond XfM (.seq (.reg [oD 22 (.build [(.int .i64 0),(.int .i64 0),(.int .i64 0),(.int .i64 0),(.bool false),(.int .u64 0),(.int .u64 0),(.bool false),(.int .u64 0),(.int .u64 0)] []),oN (.store 10 τ2 XfP),oD 3 (.mv (.const (.string ⟨⟨[]⟩⟩))),oD 4 (.mv (.const (.int .i64 3)))]) .ret) .skip)) (.seq (.seq (.reg [oM 23 τ0,oD 24 (.lenS XfO),oD 25 (.bin .sub Xgb (.const (.int .i64 40))),oM 26 τ6,oD 27 (.bin .lss Xgz XgE)]) (.cond XgH (.seq (.reg [oD 28 (.build [(.int .i64 0),(.int .i64 0),(.int .i64 0),(.int .i64 0),(.bool false),(.int .u64 0),(.int .u64 0),(.bool false),(.int .u64 0),(.int .u64 0)] []),oN (.store 10 τ2 XgC),oD 3 (.mv (.const (.string ⟨⟨[]⟩⟩))),oD 4 (.mv (.const (.int .i64 2)))]) .ret) .skip)) (.seq (.reg [oM 30 τ0,oD 31 (.sliceS XgR (some (.const (.int .i64 8))) (some (.const (.int .i64 24)))),oD 32 (.callF 177 [Xg7]),oM 29 Xhp,oE 33 0 XgF,oE 34 1 XgF,oD 7 (.alloc [(.bool false),(.int .u64 0),(.int .u64 0)]),oN (.store 3 τ7 Xhr),oM 8 Xhu]) (.seq (.reg [oM 36 τ0,oD 37 (.sliceS Xie (some (.const (.int .i64 24))) (some (.const (.int .i64 40)))),oD 38 (.callF 177 [Xib]),oM 35 XiB,oE 39 0 XhG,oE 40 1 XhG,oD 9 (.alloc [(.bool false),(.int .u64 0),(.int .u64 0)]),oN (.store 3 τ9 Xjc),oM 10 Xjr]) (.seq XLC .ret)))))))
def XSq:VFn:=⟨59,XBu,[.cell 2 [(.int .i64),(.int .i64),(.int .i64),(.int .i64),.bool,(.int .u64),(.int .u64),.bool,(.int .u64),(.int .u64)] true,.tmp 3,.tmp 4]⟩
def XMr:VC:=.regD [oM 61 τ0,oD 62 (.callF 88 [Xoj,(.const (.int .i64 0)),(.const (.int .i64 2))]),oM 63 τ0,oD 64 (.callF 88 [Xqq,(.const (.int .i64 2)),(.const (.int .i64 2))]),oM 65 τ0,oD 66 (.callF 88 [Xrb,(.const (.int .i64 4)),(.const (.int .i64 4))]),oD 67 (.conv .u32 XqE),oM 68 τ0,oD 69 (.callF 88 [XqA,(.const (.int .i64 8)),(.const (.int .i64 4))]),oD 70 (.conv .u32 Xr8),oM 71 τ0,oD 72 (.idxS Xsq (.const (.int .i64 13))),oD 73 (.conv .i64 Xsm),oM 74 τ0,oD 75 (.callF 88 [Xvj,(.const (.int .i64 14)),(.const (.int .i64 2))]),oM 76 τ0,oD 77 (.callF 88 [Xxj,(.const (.int .i64 18)),(.const (.int .i64 2))]),oM 78 τ0,oM 79 τ9,oD 80 (.sliceS Xxb (some (.const (.int .i64 20))) (some XxT)),oD 81 (.build [(.int .i64 0),(.int .i64 0),(.int .u32 0),(.int .u32 0),(.int .i64 0),(.int .i64 0),(.int .i64 0),(.string ⟨⟨[]⟩⟩)] [(0,1,XoS),(1,1,Xqr),(2,1,Xqu),(3,1,Xsr),(4,1,XtH),(5,1,XuX),(6,1,Xw9),(7,1,XxY)]),oM 82 τ0,oM 83 τ9,oD 84 (.sliceS XCp (some XBM) none),oN (.store 8 τ6 XBS)] [] [oM 7 XJi,oD 8 (.mv (.const (.int .i64 0)))]
def XzA:VC:=.seq (.reg [oD 4 (.box τ1),oD 5 (.box τ2),oD 6 (.alloc [(.int .i64 0),(.int .i64 0),(.int .u32 0),(.int .u32 0),(.int .i64 0),(.int .i64 0),(.int .i64 0),(.string ⟨⟨[]⟩⟩)]),oD 7 (.mv (.const (.string ⟨⟨[]⟩⟩))),oD 8 (.mv (.const (.int .i64 0)))]) (.seq (.seq (.reg [oM 13 τ0,oD 14 (.lenS Xef),oD 15 (.bin .lss XeN (.const (.int .i64 20)))]) (.cond XeG (.seq (.reg [oD 16 (.build [(.int .i64 0),(.int .i64 0),(.int .u32 0),(.int .u32 0),(.int .i64 0),(.int .i64 0),(.int .i64 0),(.string ⟨⟨[]⟩⟩)] []),oN (.store 8 τ6 XeW),oD 7 (.mv (.const (.string ⟨⟨[]⟩⟩))),oD 8 (.mv (.const (.int .i64 2)))]) .ret) .skip)) (.seq (.reg [oM 17 τ0,oD 18 (.idxS XeI (.const (.int .i64 12))),oD 19 (.bin .quo Xfg (.const (.int .u8 16))),oD 20 (.conv .i64 Xe5),oD 21 (.bin .mul (.const (.int .i64 4)) Xfv),oM 9 XfM]) (.seq (.seq (.reg [oM 22 τ9,oD 23 (.bin .lss XfP (.const (.int .i64 20))),oM 24 XfO,oG 25 (.mv τ0) 24 false,oG 26 (.idxS Xgz (.const (.int .i64 12))) 24 false,oG 27 (.bin .rem XgE (.const (.int .u8 16))) 24 false,oG 28 (.bin .neq XgH (.const (.int .u8 0))) 24 false,oD 29 (.pick Xgb (.const (.bool true)) XgC)]) (.cond XgF (.seq (.reg [oD 30 (.build [(.int .i64 0),(.int .i64 0),(.int .u32 0),(.int .u32 0),(.int .i64 0),(.int .i64 0),(.int .i64 0),(.string ⟨⟨[]⟩⟩)] []),oN (.store 8 τ6 XgR),oD 7 (.mv (.const (.string ⟨⟨[]⟩⟩))),oD 8 (.mv (.const (.int .i64 3)))]) .ret) .skip)) (.seq (.seq (.reg [oM 31 τ0,oD 32 (.lenS Xg7),oM 33 τ9,oD 34 (.bin .lss Xhp Xhr)]) (.cond Xhu (.seq (.reg [oD 35 (.build [(.int .i64 0),(.int .i64 0),(.int .u32 0),(.int .u32 0),(.int .i64 0),(.int .i64 0),(.int .i64 0),(.string ⟨⟨[]⟩⟩)] []),oN (.store 8 τ6 XhG),oD 7 (.mv (.const (.string ⟨⟨[]⟩⟩))),oD 8 (.mv (.const (.int .i64 2)))]) .ret) .skip)) (.seq (.reg [oD 36 (.loadN [.bool,(.int .u64),(.int .u64)] τ4),oD 37 (.loadN [.bool,(.int .u64),(.int .u64)] τ5),oM 38 τ0,oD 39 (.lenS XiB),oD 40 (.callF 101 [Xie,Xib,(.const (.int .i64 6)),Xjc]),oM 10 Xjr]) (.seq (.seq (.reg [oM 41 Xda,oD 42 (.bin .eql XjD (.const (.string ⟨⟨[]⟩⟩)))]) (.cond Xje (.seq (.reg [oD 43 (.build [(.int .i64 0),(.int .i64 0),(.int .u32 0),(.int .u32 0),(.int .i64 0),(.int .i64 0),(.int .i64 0),(.string ⟨⟨[]⟩⟩)] []),oN (.store 8 τ6 Xjs),oD 7 (.mv (.const (.string ⟨⟨[]⟩⟩))),oD 8 (.mv (.const (.int .i64 1)))]) .ret) .skip)) (.seq (.seq (.reg [oM 44 Xda,oM 45 τ0,oD 46 (.bin .add Xkm Xkl),oD 47 (.callF 86 [XkD]),oD 48 (.bin .neq XkC (.const (.int .i64 65535)))]) (.cond XkB (.seq (.reg [oD 49 (.build [(.int .i64 0),(.int .i64 0),(.int .u32 0),(.int .u32 0),(.int .i64 0),(.int .i64 0),(.int .i64 0),(.string ⟨⟨[]⟩⟩)] []),oN (.store 8 τ6 XkA),oD 7 (.mv (.const (.string ⟨⟨[]⟩⟩))),oD 8 (.mv (.const (.int .i64 4)))]) .ret) .skip)) (.seq (.reg [oM 51 τ0,oM 52 τ9,oD 53 (.sliceS Xlr (some (.const (.int .i64 20))) (some Xls)),oD 54 (.callF 154 [XmB]),oM 50 Xne,oE 55 0 Xlj,oE 56 1 Xlj,oM 11 XmO,oM 12 Xnd]) (.seq (.seq (.reg [oM 57 XdK,oD 58 (.bin .neq XmT (.const (.int .i64 0)))]) (.cond XmU (.seq (.reg [oD 59 (.build [(.int .i64 0),(.int .i64 0),(.int .u32 0),(.int .u32 0),(.int .i64 0),(.int .i64 0),(.int .i64 0),(.string ⟨⟨[]⟩⟩)] []),oM 60 XdK,oN (.store 8 τ6 Xno),oD 7 (.mv (.const (.string ⟨⟨[]⟩⟩))),oM 8 Xoi]) .ret) .skip)) (.seq XMr .ret))))))))))
def XVR:VFn:=⟨85,XzA,[.cell 6 [(.int .i64),(.int .i64),(.int .u32),(.int .u32),(.int .i64),(.int .i64),(.int .i64),.str] true,.tmp 7,.tmp 8]⟩
def XSg:VC:=.regD [oD 26 (.loadN [.bool,(.int .u64),(.int .u64)] τ4),oD 27 (.callF 146 [XgE]),oD 28 (.loadN [.bool,(.int .u64),(.int .u64)] τ5),oD 29 (.callF 146 [XgC]),oD 30 (.bin .add XgH XgF),oM 31 τ3,oD 32 (.callF 147 [Xg7,(.const (.int .i64 4))]),oD 33 (.bin .add XgR Xhp),oD 34 (.callF 147 [(.const (.int .i64 0)),(.const (.int .i64 3))]),oD 35 (.bin .add Xhr Xhu),oM 36 τ2,oD 37 (.callF 147 [Xie,(.const (.int .i64 1))])] [(1,2)] [oD 38 (.bin .add XhG Xib),oM 8 XiB]
def XPy:VC:=.regD [oD 39 (.loadN [.bool,(.int .u64),(.int .u64)] τ4),oD 40 (.callF 146 [Xjc]),oD 41 (.loadN [.bool,(.int .u64),(.int .u64)] τ5),oD 42 (.callF 146 [XjD]),oD 43 (.bin .add Xjr Xje),oD 44 (.callF 147 [(.const (.int .i64 0)),(.const (.int .i64 1))]),oD 45 (.bin .add Xjs Xkm),oM 46 τ2,oD 47 (.callF 147 [XkD,(.const (.int .i64 1))]),oD 48 (.bin .add Xkl XkC),oM 49 τ3,oD 50 (.callF 147 [XkA,(.const (.int .i64 2))])] [(1,2)] [oD 51 (.bin .add XkB Xlj),oM 8 Xlr]
def XA9:VC:=.seq (.reg [oD 4 (.box τ0),oD 5 (.box τ1),oD 8 (.mv (.const (.string ⟨⟨[]⟩⟩)))]) (.seq (.seq (.reg [oD 9 (.loadN [.bool,(.int .u64),(.int .u64)] τ4),oD 10 (.callF 59 [τ9]),oD 11 (.not Xda),oM 12 Xc8,oG 13 (.loadN [.bool,(.int .u64),(.int .u64)] τ5) 12 false,oG 14 (.callF 59 [Xef]) 12 false,oG 15 (.not XeN) 12 false,oD 16 (.pick XdK (.const (.bool true)) XeG),oM 17 XeW,oG 18 (.fieldA 0 τ4) 17 false,oG 19 (.load1 .bool Xfg) 17 false,oG 20 (.fieldA 0 τ5) 17 false,oG 21 (.load1 .bool Xfv) 17 false,oG 22 (.eqB true Xe5 XfM) 17 false,oD 23 (.pick XeI (.const (.bool true)) XfP)]) (.cond XfO (.seq (.reg [oD 8 (.mv (.const (.string ⟨⟨[]⟩⟩)))]) .ret) .skip)) (.seq (.seq (.reg [oD 24 (.fieldA 0 τ4),oD 25 (.load1 .bool Xgb)]) (.cond Xgz (.seq XSg .ret) .skip)) (.seq XPy .ret)))
def XRk:VFn:=⟨52,XA9,[.tmp 8]⟩
def XSi:VC:=.seq (.reg [oD 1 (.box τ0),oD 2 (.mv (.const (.bool false)))]) (.seq (.reg [oD 3 (.fieldA 0 τ1),oD 4 (.load1 .bool τ3),oM 5 τ4,oG 6 (.fieldA 1 τ1) 5 false,oG 7 (.load1 (.int .u64) τ6) 5 false,oG 8 (.bin .eql τ7 (.const (.int .u64 0))) 5 false,oG 9 (.mv τ8) 5 false,oG 10 (.fieldA 2 τ1) 9 true,oG 11 (.load1 (.int .u64) Xda) 9 true,oG 12 (.bin .lss Xc8 (.const (.int .u64 4294967296))) 9 true,oG 13 (.pick τ9 XdK (.const (.bool false))) 5 false,oD 14 (.pick τ5 (.const (.bool true)) Xef),oM 2 XeN]) .ret)
def fn59:VFn:=⟨15,XSi,[.tmp 2]⟩
def XTN:VC:=.regD [oD 8 (.fieldA 1 τ1),oD 9 (.load1 (.int .u64) τ8),oD 10 (.callF 63 [τ9,(.const (.int .i64 8))]),oD 11 (.fieldA 2 τ1),oD 12 (.load1 (.int .u64) Xc8)] [(2,4)] [oD 13 (.callF 63 [XdK,(.const (.int .i64 8))]),oD 14 (.bin .add Xda Xef),oM 2 XeN]
def XyE:VC:=.seq (.reg [oD 1 (.box τ0),oD 2 (.mv (.const (.string ⟨⟨[]⟩⟩)))]) (.seq (.seq (.reg [oD 3 (.loadN [.bool,(.int .u64),(.int .u64)] τ1),oD 4 (.callF 59 [τ3]),oD 5 (.not τ4)]) (.cond τ5 (.seq (.reg [oD 2 (.mv (.const (.string ⟨⟨[]⟩⟩)))]) .ret) .skip)) (.seq (.seq (.reg [oD 6 (.fieldA 0 τ1),oD 7 (.load1 .bool τ6)]) (.cond τ7 (.seq XTN .ret) .skip)) (.seq (.reg [oD 15 (.fieldA 2 τ1),oD 16 (.load1 (.int .u64) XeG),oD 17 (.callF 63 [XeW,(.const (.int .i64 4))]),oM 2 XeI]) .ret)))
def XSx:VFn:=⟨18,XyE,[.tmp 2]⟩
def XAC:VC:=.seq (.seq (.reg [oM 7 τ6,oM 8 τ1,oD 9 (.bin .lss τ7 τ8),oM 10 τ9,oG 11 (.mv τ1) 10 true,oG 12 (.bin .leq Xc8 (.const (.int .i64 8))) 10 true,oD 13 (.pick Xda XdK (.const (.bool false)))]) (.cond Xef .skip (.exit 0))) (.seq (.block 1 (.seq (.reg [oM 16 τ0,oD 17 (.bin .rem XeW (.const (.int .u64 256))),oD 18 (.conv .u8 XeI),oD 19 (.buildSl 1 1 [(.int .u8 0)] [(0,1,Xfg)]),oD 20 (.b2s Xe5),oM 21 τ5,oD 22 (.bin .add Xfv XfM),oM 5 XfP]) (.reg [oM 23 τ0,oD 24 (.bin .quo XfO (.const (.int .u64 256))),oM 0 Xgb]))) (.reg [oM 14 τ6,oD 15 (.bin .add XeN (.const (.int .i64 1))),oM 6 XeG]))
def XJg:VC:=.seq (.reg [oM 25 τ5,oM 4 Xgz]) .ret
def XJm:VC:=.seq (.reg [oD 4 (.mv (.const (.string ⟨⟨[]⟩⟩)))]) (.seq (.reg [oD 5 (.mv (.const (.string ⟨⟨[]⟩⟩)))]) (.seq (.seq (.reg [oD 6 (.mv (.const (.int .i64 0)))]) (.block 0 (.loop XAC))) XJg))
def fn63:VFn:=⟨26,XJm,[.tmp 4]⟩
def XHJ:VC:=.seq (.reg [oD 4 (.mv (.const (.string ⟨⟨[]⟩⟩)))]) (.seq (.reg [oM 5 τ0,oD 6 (.conv .u64 τ5),oM 7 τ1,oD 8 (.callF 63 [τ6,τ7]),oM 4 τ8]) .ret)
def XRw:VFn:=⟨9,XHJ,[.tmp 4]⟩
def XLj:VC:=.regD [oM 52 τ4,oM 53 τ0,oM 54 τ5,oD 55 (.idxS XmB Xne),oD 56 (.conv .i64 XmO),oM 57 τ0,oM 58 τ5,oD 59 (.bin .add XmU (.const (.int .i64 2))),oM 60 τ5,oM 61 τ6,oD 62 (.bin .add Xoi Xoj),oD 63 (.sliceS XmT (some Xno) (some XoS)),oM 64 τ5,oD 65 (.bin .add Xqr (.const (.int .i64 2))),oD 66 (.build [(.int .i64 0),(.string ⟨⟨[]⟩⟩),(.int .i64 0)] [(0,1,Xnd),(1,1,Xqq),(2,1,Xrb)]),oD 67 (.buildSl 1 3 [(.int .i64 0),(.string ⟨⟨[]⟩⟩),(.int .i64 0)] [(0,3,XqE)])] [] [oD 68 (.app 213 3 32 Xls Xqu),oM 4 XqA]
def Xuk:VC:=.seq (.seq (.reg [oM 7 τ5,oM 8 τ0,oD 9 (.lenS τ8),oD 10 (.bin .lss τ7 τ9),oM 11 Xda,oG 12 (.mv τ0) 11 true,oG 13 (.mv τ5) 11 true,oG 14 (.idxS XdK Xef) 11 true,oG 15 (.bin .neq XeN (.const (.int .u8 0))) 11 true,oD 16 (.pick Xc8 XeG (.const (.bool false)))]) (.cond XeW .skip (.exit 0))) (.block 1 (.seq (.seq (.reg [oM 17 τ0,oM 18 τ5,oD 19 (.idxS XeI Xfg),oD 20 (.bin .eql Xe5 (.const (.int .u8 1)))]) (.cond Xfv (.seq (.reg [oM 21 τ5,oD 22 (.bin .add XfM (.const (.int .i64 1))),oM 5 XfP]) (.exit 1)) .skip)) (.seq (.seq (.reg [oM 23 τ5,oD 24 (.bin .add XfO (.const (.int .i64 1))),oM 25 τ0,oD 26 (.lenS Xgz),oD 27 (.bin .geq Xgb XgE),oM 28 XgH,oG 29 (.mv τ0) 28 false,oG 30 (.mv τ5) 28 false,oG 31 (.bin .add XgR (.const (.int .i64 1))) 28 false,oG 32 (.idxS XgF Xg7) 28 false,oG 33 (.bin .lss Xhp (.const (.int .u8 2))) 28 false,oD 34 (.pick XgC (.const (.bool true)) Xhr),oM 35 Xhu,oG 36 (.mv τ0) 35 false,oG 37 (.mv τ5) 35 false,oG 38 (.bin .add Xib (.const (.int .i64 1))) 35 false,oG 39 (.idxS Xie XiB) 35 false,oG 40 (.conv .i64 Xjc) 35 false,oG 41 (.mv τ0) 35 false,oG 42 (.lenS XjD) 35 false,oG 43 (.mv τ5) 35 false,oG 44 (.bin .sub Xje Xjs) 35 false,oG 45 (.bin .gtr Xjr Xkm) 35 false,oD 46 (.pick XhG (.const (.bool true)) Xkl)]) (.cond XkD (.seq (.reg [oD 2 (.mv (.const (.slice none 0 0))),oD 3 (.mv (.const (.int .i64 3)))]) .ret) .skip)) (.seq (.reg [oM 47 τ0,oM 48 τ5,oD 49 (.bin .add XkB (.const (.int .i64 1))),oD 50 (.idxS XkC XkA),oD 51 (.conv .i64 Xlj),oM 6 Xlr]) (.seq XLj (.reg [oM 69 τ5,oM 70 τ6,oD 71 (.bin .add Xr8 Xsr),oM 5 Xsq]))))))
def XyM:VC:=.seq (.reg [oM 72 τ4,oM 2 Xsm,oD 3 (.mv (.const (.int .i64 0)))]) .ret
def XAs:VC:=.seq (.reg [oD 2 (.mv (.const (.slice none 0 0))),oD 3 (.mv (.const (.int .i64 0)))]) (.seq (.reg [oD 4 (.mv (.const (.slice none 0 0)))]) (.seq (.seq (.reg [oD 5 (.mv (.const (.int .i64 0)))]) (.block 0 (.loop Xuk))) XyM))
def XWy:VFn:=⟨73,XAs,[.tmp 2,.tmp 3]⟩
def XQp:VC:=.regD [oM 32 τ5,oM 33 τ7,oD 34 (.idxAL 3 Xhp Xhr),oD 35 (.fieldA 1 Xhu),oD 36 (.load1 .str XhG),oD 37 (.callF 88 [Xie,(.const (.int .i64 0)),(.const (.int .i64 4))]),oD 38 (.conv .u32 Xib),oM 39 τ5,oM 40 τ7,oD 41 (.idxAL 3 Xjc Xjr),oD 42 (.fieldA 1 XjD),oD 43 (.load1 .str Xje),oD 44 (.callF 88 [Xjs,(.const (.int .i64 4)),(.const (.int .i64 4))]),oD 45 (.conv .u32 Xkm),oM 46 τ5,oM 47 τ7,oD 48 (.idxAL 3 XkD XkC),oD 49 (.fieldA 2 XkB),oD 50 (.load1 (.int .i64) XkA),oM 2 XiB,oM 3 Xkl] [(5,11),(5,18),(12,18)] [oM 4 Xlj]
def XuP:VC:=.seq (.seq (.reg [oM 13 τ7,oM 14 τ5,oD 15 (.lenL XeN),oD 16 (.bin .lss Xef XeG)]) (.cond XeW .skip (.exit 0))) (.seq (.block 1 (.seq (.reg [oM 19 τ5,oM 20 τ7,oD 21 (.idxAL 3 Xe5 Xfv),oD 22 (.fieldA 0 XfM),oD 23 (.load1 (.int .i64) XfP),oD 24 (.bin .eql XfO (.const (.int .i64 8)))]) (.cond Xgb (.seq (.seq (.reg [oM 25 τ5,oM 26 τ7,oD 27 (.idxAL 3 Xgz XgE),oD 28 (.fieldA 1 XgH),oD 29 (.load1 .str XgC),oD 30 (.lenS XgF),oD 31 (.bin .neq XgR (.const (.int .i64 8)))]) (.cond Xg7 (.seq (.reg [oD 2 (.mv (.const (.int .u32 0))),oD 3 (.mv (.const (.int .u32 0))),oD 4 (.mv (.const (.int .i64 (-1))))]) .ret) .skip)) (.seq XQp .ret)) .skip))) (.reg [oM 17 τ7,oD 18 (.bin .add XeI (.const (.int .i64 1))),oM 7 Xfg]))
def Xyq:VC:=.seq (.reg [oD 2 (.mv (.const (.int .u32 0))),oD 3 (.mv (.const (.int .u32 0))),oD 4 (.mv (.const (.int .i64 (-1))))]) .ret
def Xz2:VC:=.seq (.reg [oD 2 (.mv (.const (.int .u32 0))),oD 3 (.mv (.const (.int .u32 0))),oD 4 (.mv (.const (.int .i64 0)))]) (.seq (.reg [oM 9 τ0,oD 10 (.callF 154 [τ9]),oM 8 Xda,oE 11 0 τ8,oE 12 1 τ8,oM 5 Xc8,oM 6 XdK]) (.seq (.seq (.reg [oD 7 (.mv (.const (.int .i64 0)))]) (.block 0 (.loop XuP))) Xyq))
def XVg:VFn:=⟨51,Xz2,[.tmp 2,.tmp 3,.tmp 4]⟩
def XQc:VC:=.regD [oM 46 τ0,oD 47 (.callF 88 [XkD,(.const (.int .i64 0)),(.const (.int .i64 2))]),oM 48 τ0,oD 49 (.callF 88 [XkB,(.const (.int .i64 2)),(.const (.int .i64 2))]),oD 50 (.build [(.int .i64 0),(.int .i64 0)] [(0,1,XkC),(1,1,XkA)]),oM 51 τ0,oM 52 τ9,oD 53 (.sliceS Xlr (some (.const (.int .i64 8))) (some Xls)),oN (.store 2 τ6 Xlj)] [] [oM 7 XmB,oD 8 (.mv (.const (.int .i64 0)))]
def Xyp:VC:=.seq (.reg [oD 4 (.box τ1),oD 5 (.box τ2),oD 6 (.alloc [(.int .i64 0),(.int .i64 0)]),oD 7 (.mv (.const (.string ⟨⟨[]⟩⟩))),oD 8 (.mv (.const (.int .i64 0)))]) (.seq (.seq (.reg [oM 11 τ0,oD 12 (.lenS Xc8),oD 13 (.bin .lss XdK (.const (.int .i64 8)))]) (.cond Xef (.seq (.reg [oD 14 (.build [(.int .i64 0),(.int .i64 0)] []),oN (.store 2 τ6 XeN),oD 7 (.mv (.const (.string ⟨⟨[]⟩⟩))),oD 8 (.mv (.const (.int .i64 2)))]) .ret) .skip)) (.seq (.reg [oM 15 τ0,oD 16 (.callF 88 [XeG,(.const (.int .i64 4)),(.const (.int .i64 2))]),oM 9 XeW]) (.seq (.seq (.reg [oM 17 τ9,oD 18 (.bin .lss XeI (.const (.int .i64 8)))]) (.cond Xfg (.seq (.reg [oD 19 (.build [(.int .i64 0),(.int .i64 0)] []),oN (.store 2 τ6 Xe5),oD 7 (.mv (.const (.string ⟨⟨[]⟩⟩))),oD 8 (.mv (.const (.int .i64 3)))]) .ret) .skip)) (.seq (.seq (.reg [oM 20 τ0,oD 21 (.lenS Xfv),oM 22 τ9,oD 23 (.bin .lss XfM XfP)]) (.cond XfO (.seq (.reg [oD 24 (.build [(.int .i64 0),(.int .i64 0)] []),oN (.store 2 τ6 Xgb),oD 7 (.mv (.const (.string ⟨⟨[]⟩⟩))),oD 8 (.mv (.const (.int .i64 2)))]) .ret) .skip)) (.seq (.reg [oD 25 (.loadN [.bool,(.int .u64),(.int .u64)] τ4),oD 26 (.loadN [.bool,(.int .u64),(.int .u64)] τ5),oM 27 τ9,oD 28 (.callF 101 [Xgz,XgE,(.const (.int .i64 17)),XgH]),oM 10 XgC]) (.seq (.seq (.reg [oM 29 Xda,oD 30 (.bin .eql XgF (.const (.string ⟨⟨[]⟩⟩)))]) (.cond XgR (.seq (.reg [oD 31 (.build [(.int .i64 0),(.int .i64 0)] []),oN (.store 2 τ6 Xg7),oD 7 (.mv (.const (.string ⟨⟨[]⟩⟩))),oD 8 (.mv (.const (.int .i64 1)))]) .ret) .skip)) (.seq (.seq (.reg [oM 32 τ0,oD 33 (.callF 88 [Xhp,(.const (.int .i64 6)),(.const (.int .i64 2))]),oD 34 (.bin .eql Xhr (.const (.int .i64 0)))]) (.cond Xhu (.seq (.reg [oD 35 (.fieldA 0 τ4),oD 36 (.load1 .bool XhG)]) (.cond Xie (.seq (.reg [oD 37 (.build [(.int .i64 0),(.int .i64 0)] []),oN (.store 2 τ6 Xib),oD 7 (.mv (.const (.string ⟨⟨[]⟩⟩))),oD 8 (.mv (.const (.int .i64 4)))]) .ret) .skip)) (.seq (.reg [oM 38 Xda,oM 39 τ0,oM 40 τ9,oD 41 (.sliceS Xjc none (some Xjr)),oD 42 (.bin .add XiB XjD),oD 43 (.callF 86 [Xje]),oD 44 (.bin .neq Xjs (.const (.int .i64 65535)))]) (.cond Xkm (.seq (.reg [oD 45 (.build [(.int .i64 0),(.int .i64 0)] []),oN (.store 2 τ6 Xkl),oD 7 (.mv (.const (.string ⟨⟨[]⟩⟩))),oD 8 (.mv (.const (.int .i64 4)))]) .ret) .skip)))) (.seq XQc .ret))))))))
def XTx:VFn:=⟨54,Xyp,[.cell 6 [(.int .i64),(.int .i64)] true,.tmp 7,.tmp 8]⟩
def XRO:VC:=.regD [oM 19 τ0,oD 20 (.idxS Xe5 (.const (.int .i64 0))),oD 21 (.bin .geq Xfv (.const (.int .u8 128))),oM 22 τ0,oD 23 (.idxS XfP (.const (.int .i64 0))),oD 24 (.bin .rem XfO (.const (.int .u8 64))),oD 25 (.conv .i64 Xgb),oD 26 (.build [(.bool false),(.int .i64 0),(.int .u32 0),(.string ⟨⟨[]⟩⟩),(.string ⟨⟨[]⟩⟩),(.string ⟨⟨[]⟩⟩)] [(0,1,XfM),(1,1,Xgz)]),oD 4 (.alloc [(.bool false),(.int .i64 0),(.int .u32 0),(.string ⟨⟨[]⟩⟩),(.string ⟨⟨[]⟩⟩),(.string ⟨⟨[]⟩⟩)])] [] [oN (.store 6 τ4 XgE)]
def XI5:VC:=.seq (.reg [oD 2 (.alloc [(.bool false),(.int .i64 0),(.int .u32 0),(.string ⟨⟨[]⟩⟩),(.string ⟨⟨[]⟩⟩),(.string ⟨⟨[]⟩⟩)]),oD 3 (.mv (.const (.int .i64 0)))]) (.seq (.seq (.reg [oM 10 τ0,oD 11 (.bin .eql Xda (.const (.string ⟨⟨[]⟩⟩)))]) (.cond Xc8 (.seq (.reg [oD 12 (.build [(.bool false),(.int .i64 0),(.int .u32 0),(.string ⟨⟨[]⟩⟩),(.string ⟨⟨[]⟩⟩),(.string ⟨⟨[]⟩⟩)] []),oN (.store 6 τ2 XdK),oD 3 (.mv (.const (.int .i64 2)))]) .ret) .skip)) (.seq (.seq (.reg [oM 13 τ0,oD 14 (.idxS Xef (.const (.int .i64 0))),oD 15 (.bin .quo XeN (.const (.int .u8 64))),oD 16 (.bin .rem XeG (.const (.int .u8 2))),oD 17 (.bin .eql XeW (.const (.int .u8 0)))]) (.cond XeI (.seq (.reg [oD 18 (.build [(.bool false),(.int .i64 0),(.int .u32 0),(.string ⟨⟨[]⟩⟩),(.string ⟨⟨[]⟩⟩),(.string ⟨⟨[]⟩⟩)] []),oN (.store 6 τ2 Xfg),oD 3 (.mv (.const (.int .i64 3)))]) .ret) .skip)) (.seq XRO (.seq (.seq (.reg [oD 27 (.fieldA 0 τ4),oD 28 (.load1 .bool XgH),oD 29 (.not XgC)]) (.cond XgF (.seq (.seq (.reg [oM 30 τ0,oD 31 (.lenS XgR),oD 32 (.bin .lss Xg7 (.const (.int .i64 9)))]) (.cond Xhp (.seq (.reg [oD 33 (.build [(.bool false),(.int .i64 0),(.int .u32 0),(.string ⟨⟨[]⟩⟩),(.string ⟨⟨[]⟩⟩),(.string ⟨⟨[]⟩⟩)] []),oN (.store 6 τ2 Xhr),oD 3 (.mv (.const (.int .i64 2)))]) .ret) .skip)) (.seq (.reg [oM 34 τ0,oD 35 (.sliceS Xhu (some (.const (.int .i64 1))) (some (.const (.int .i64 9)))),oD 36 (.fieldA 3 τ4),oN (.store 1 Xie XhG)]) (.seq (.reg [oM 37 τ0,oD 38 (.sliceS Xib (some (.const (.int .i64 9))) none),oD 39 (.fieldA 5 τ4),oN (.store 1 Xjc XiB)]) (.seq (.reg [oD 40 (.loadN [.bool,(.int .i64),(.int .u32),.str,.str,.str] τ4),oN (.store 6 τ2 Xjr),oD 3 (.mv (.const (.int .i64 0)))]) .ret)))) .skip)) (.seq (.seq (.reg [oM 41 τ0,oD 42 (.lenS XjD),oD 43 (.bin .lss Xje (.const (.int .i64 5)))]) (.cond Xjs (.seq (.reg [oD 44 (.build [(.bool false),(.int .i64 0),(.int .u32 0),(.string ⟨⟨[]⟩⟩),(.string ⟨⟨[]⟩⟩),(.string ⟨⟨[]⟩⟩)] []),oN (.store 6 τ2 Xkm),oD 3 (.mv (.const (.int .i64 2)))]) .ret) .skip)) (.seq (.reg [oM 45 τ0,oD 46 (.callF 88 [Xkl,(.const (.int .i64 1)),(.const (.int .i64 4))]),oD 47 (.conv .u32 XkD),oD 48 (.fieldA 2 τ4),oN (.store 1 XkB XkC)]) (.seq (.reg [oM 50 τ0,oD 51 (.callF 126 [Xlj,(.const (.int .i64 5))]),oM 49 Xlr,oE 52 0 XkA,oE 53 1 XkA,oE 54 2 XkA,oM 5 Xls,oM 6 XmB,oM 7 Xne]) (.seq (.seq (.reg [oM 55 τ6,oD 56 (.bin .neq XmO (.const (.int .i64 0)))]) (.cond Xnd (.seq (.reg [oD 57 (.build [(.bool false),(.int .i64 0),(.int .u32 0),(.string ⟨⟨[]⟩⟩),(.string ⟨⟨[]⟩⟩),(.string ⟨⟨[]⟩⟩)] []),oM 58 τ6,oN (.store 6 τ2 XmT),oM 3 XmU]) .ret) .skip)) (.seq (.reg [oM 60 τ0,oM 61 τ7,oD 62 (.callF 126 [Xoi,Xoj]),oM 59 XoS,oE 63 0 Xno,oE 64 1 Xno,oE 65 2 Xno,oM 8 Xqq,oM 6 Xqr,oM 9 Xrb]) (.seq (.seq (.reg [oM 66 τ6,oD 67 (.bin .neq XqE (.const (.int .i64 0)))]) (.cond Xqu (.seq (.reg [oD 68 (.build [(.bool false),(.int .i64 0),(.int .u32 0),(.string ⟨⟨[]⟩⟩),(.string ⟨⟨[]⟩⟩),(.string ⟨⟨[]⟩⟩)] []),oM 69 τ6,oN (.store 6 τ2 XqA),oM 3 Xr8]) .ret) .skip)) (.seq (.reg [oM 70 τ5,oD 71 (.fieldA 3 τ4),oN (.store 1 Xsq Xsr)]) (.seq (.reg [oM 72 τ8,oD 73 (.fieldA 4 τ4),oN (.store 1 XtH Xsm)]) (.seq (.reg [oM 74 τ0,oM 75 τ9,oD 76 (.sliceS Xvj (some XuX) none),oD 77 (.fieldA 5 τ4),oN (.store 1 Xw9 Xxj)]) (.seq (.reg [oD 78 (.loadN [.bool,(.int .i64),(.int .u32),.str,.str,.str] τ4),oN (.store 6 τ2 Xxb),oD 3 (.mv (.const (.int .i64 0)))]) .ret))))))))))))))
def fn74:VFn:=⟨79,XI5,[.cell 2 [.bool,(.int .i64),(.int .u32),.str,.str,.str] true,.tmp 3]⟩
def Xx1:VC:=.seq (.reg [oD 4 (.mv (.const (.string ⟨⟨[]⟩⟩))),oD 5 (.mv (.const (.int .i64 0))),oD 6 (.mv (.const (.int .i64 0)))]) (.seq (.seq (.reg [oM 8 τ1,oM 9 τ0,oD 10 (.lenS τ9),oD 11 (.bin .geq τ8 Xda)]) (.cond Xc8 (.seq (.reg [oD 4 (.mv (.const (.string ⟨⟨[]⟩⟩))),oD 5 (.mv (.const (.int .i64 2))),oD 6 (.mv (.const (.int .i64 0)))]) .ret) .skip)) (.seq (.reg [oM 12 τ0,oM 13 τ1,oD 14 (.idxS XdK Xef),oD 15 (.conv .i64 XeN),oM 7 XeG]) (.seq (.seq (.reg [oM 16 τ7,oD 17 (.bin .gtr XeW (.const (.int .i64 20)))]) (.cond XeI (.seq (.reg [oD 4 (.mv (.const (.string ⟨⟨[]⟩⟩))),oD 5 (.mv (.const (.int .i64 3))),oD 6 (.mv (.const (.int .i64 0)))]) .ret) .skip)) (.seq (.seq (.reg [oM 18 τ7,oM 19 τ0,oD 20 (.lenS Xe5),oM 21 τ1,oD 22 (.bin .sub Xfv XfM),oD 23 (.bin .sub XfP (.const (.int .i64 1))),oD 24 (.bin .gtr Xfg XfO)]) (.cond Xgb (.seq (.reg [oD 4 (.mv (.const (.string ⟨⟨[]⟩⟩))),oD 5 (.mv (.const (.int .i64 2))),oD 6 (.mv (.const (.int .i64 0)))]) .ret) .skip)) (.seq (.reg [oM 25 τ0,oM 26 τ1,oD 27 (.bin .add XgE (.const (.int .i64 1))),oM 28 τ1,oD 29 (.bin .add XgC (.const (.int .i64 1))),oM 30 τ7,oD 31 (.bin .add XgF XgR),oD 32 (.sliceS Xgz (some XgH) (some Xg7)),oM 33 τ1,oD 34 (.bin .add Xhr (.const (.int .i64 1))),oM 35 τ7,oD 36 (.bin .add Xhu XhG),oM 4 Xhp,oD 5 (.mv (.const (.int .i64 0))),oM 6 Xie]) .ret)))))
def XQV:VFn:=⟨37,Xx1,[.tmp 4,.tmp 5,.tmp 6]⟩
def XML:VC:=.seq (.reg [oM 4 τ0,oD 5 (.callF 72 [τ4])]) (.cond τ5 (.reg [oM 6 τ0,oD 7 (.nilCheck τ6),oD 8 (.fieldA 12 τ7),oD 9 (.load1 (.int .u32) τ8),oM 10 τ1,oD 11 (.bin .add τ9 Xda),oD 12 (.nilCheck τ6),oD 13 (.fieldA 12 XdK),oN (.store 1 Xef Xc8)]) .skip)
def fn41:VFn:=⟨14,XML,[]⟩
def XKv:VC:=.seq (.reg [oD 6 (.mv (.const (.string ⟨⟨[]⟩⟩))),oD 7 (.mv (.const (.int .i64 0)))]) (.seq (.seq (.reg [oM 8 τ0,oD 9 (.callF 72 [τ8]),oD 10 (.not τ9)]) (.cond Xda (.seq (.reg [oD 6 (.mv (.const (.string ⟨⟨[]⟩⟩))),oD 7 (.mv (.const (.int .i64 1)))]) .ret) .skip)) (.seq (.reg [oM 11 τ0,oD 12 (.nilCheck Xc8),oD 13 (.fieldA 9 XdK),oD 14 (.fieldA 1 Xef),oD 15 (.load1 .oth XeN),oM 16 τ0,oM 17 τ1,oM 18 τ2,oD 19 (.callV XeG [XeW,XeI,Xfg]),oE 20 0 Xe5,oE 21 1 Xe5,oM 6 Xfv,oM 7 XfM]) .ret))
def fn37:VFn:=⟨22,XKv,[.tmp 6,.tmp 7]⟩
def k42_6:VC:=.regD [oM 7 τ0,oD 8 (.nilCheck τ7),oD 9 (.fieldA 13 τ8),oD 10 (.load1 (.int .u32) τ9),oM 11 τ0,oD 12 (.nilCheck Xc8),oD 13 (.fieldA 14 XdK),oD 14 (.load1 .str Xef),oM 2 Xda] [] [oM 3 XeN]
def XVi:VC:=.seq (.reg [oD 2 (.mv (.const (.int .u32 0))),oD 3 (.mv (.const (.string ⟨⟨[]⟩⟩)))]) (.seq (.seq (.reg [oM 4 τ0,oD 5 (.callF 72 [τ4]),oD 6 (.not τ5)]) (.cond τ6 (.seq (.reg [oD 2 (.mv (.const (.int .u32 0))),oD 3 (.mv (.const (.string ⟨⟨[]⟩⟩)))]) .ret) .skip)) (.seq k42_6 .ret))
def fn42:VFn:=⟨15,XVi,[.tmp 2,.tmp 3]⟩
def XUM:VC:=.regD [oD 20 (.fieldA 0 τ5),oD 21 (.loadN [(.int .i64),.bool,(.int .u64),(.int .u64),.bool,(.int .u64),(.int .u64),(.int .i64),(.int .i64)] Xfv),oM 22 τ0,oD 23 (.nilCheck XfP),oD 24 (.fieldA 0 XfO),oD 25 (.loadN [(.int .i64),.bool,(.int .u64),(.int .u64),.bool,(.int .u64),(.int .u64),(.int .i64),(.int .i64)] Xgb),oD 26 (.callF 53 [Xgz])] [(1,6)] [oD 27 (.eqAgg true [(0,(.int .i64)),(1,.bool),(2,(.int .u64)),(3,(.int .u64)),(4,.bool),(5,(.int .u64)),(6,(.int .u64)),(7,(.int .i64)),(8,(.int .i64))] XfM XgE),oM 19 XgH]
def XRA:VC:=.regD [oM 28 τ0,oD 29 (.nilCheck XgC),oD 30 (.fieldA 9 XgF),oD 31 (.fieldA 2 XgR),oD 32 (.load1 .oth Xg7),oM 33 τ0,oM 34 τ1,oD 35 (.loadN [(.int .i64),.bool,(.int .u64),(.int .u64),.bool,(.int .u64),(.int .u64),(.int .i64),(.int .i64),(.int .i64),.bool,(.int .u32),(.int .u32),.bool,.str,(.int .i64)] τ5)] [] [oD 36 (.callV Xhp [Xhr,Xhu,XhG])]
def XHZ:VC:=.seq (.reg [oD 4 (.mv (.const (.int .i64 0)))]) (.seq (.seq (.reg [oM 7 τ0,oD 8 (.callF 72 [τ7]),oD 9 (.not τ8)]) (.cond τ9 (.seq (.reg [oD 4 (.mv (.const (.int .i64 1)))]) .ret) .skip)) (.seq (.reg [oM 11 τ1,oD 12 (.callF 47 [Xc8]),oM 10 XdK,oE 13 0 Xda,oE 14 1 Xda,oD 5 (.alloc [(.int .i64 0),(.bool false),(.int .u64 0),(.int .u64 0),(.bool false),(.int .u64 0),(.int .u64 0),(.int .i64 0),(.int .i64 0),(.int .i64 0),(.bool false),(.int .u32 0),(.int .u32 0),(.bool false),(.string ⟨⟨[]⟩⟩),(.int .i64 0)]),oN (.store 16 τ5 Xef),oM 6 XeN]) (.seq (.block 0 (.seq (.reg [oM 16 τ6,oD 17 (.bin .neq XeW (.const (.int .i64 0))),oM 15 XeI]) (.cond XeG (.seq (.reg [oM 18 τ6,oM 4 Xfg]) .ret) (.seq XUM (.cond Xe5 (.seq (.reg [oD 4 (.mv (.const (.int .i64 16)))]) .ret) .skip))))) (.seq XRA (.seq (.reg [oD 4 (.mv (.const (.int .i64 0)))]) .ret)))))
def fn39:VFn:=⟨37,XHZ,[.tmp 4]⟩
def XUP:VC:=.seq (.reg [oD 2 (.alloc [(.int .i64 0),(.bool false),(.int .u64 0),(.int .u64 0),(.bool false),(.int .u64 0),(.int .u64 0),(.int .i64 0),(.int .i64 0),(.int .i64 0),(.bool false),(.int .u32 0),(.int .u32 0),(.bool false),(.string ⟨⟨[]⟩⟩),(.int .i64 0)]),oD 3 (.mv (.const (.int .i64 0)))]) (.seq (.reg [oM 9 τ0,oD 10 (.callF 81 [τ9]),oM 8 Xda,oE 11 0 τ8,oE 12 1 τ8,oE 13 2 τ8,oE 14 3 τ8,oD 4 (.alloc [(.int .i64 0),(.bool false),(.int .u64 0),(.int .u64 0),(.bool false),(.int .u64 0),(.int .u64 0),(.int .i64 0),(.int .i64 0),(.int .i64 0),(.bool false),(.int .u32 0),(.int .u32 0),(.bool false),(.string ⟨⟨[]⟩⟩),(.int .i64 0)]),oN (.store 16 τ4 Xc8),oM 5 XdK,oM 6 Xef,oM 7 XeN]) (.seq (.reg [oD 15 (.loadN [(.int .i64),.bool,(.int .u64),(.int .u64),.bool,(.int .u64),(.int .u64),(.int .i64),(.int .i64),(.int .i64),.bool,(.int .u32),(.int .u32),.bool,.str,(.int .i64)] τ4),oM 16 τ7,oN (.store 16 τ2 XeG),oM 3 XeW]) .ret))
def fn47:VFn:=⟨17,XUP,[.cell 2 [(.int .i64),.bool,(.int .u64),(.int .u64),.bool,(.int .u64),(.int .u64),(.int .i64),(.int .i64),(.int .i64),.bool,(.int .u32),(.int .u32),.bool,.str,(.int .i64)] true,.tmp 3]⟩
def XUA:VC:=.seq (.reg [oD 1 (.box τ0),oD 2 (.alloc [(.int .i64 0),(.bool false),(.int .u64 0),(.int .u64 0),(.bool false),(.int .u64 0),(.int .u64 0),(.int .i64 0),(.int .i64 0)])]) (.seq (.reg [oD 3 (.fieldA 4 τ1),oD 4 (.loadN [.bool,(.int .u64),(.int .u64)] τ3),oD 5 (.fieldA 1 τ1),oD 6 (.loadN [.bool,(.int .u64),(.int .u64)] τ5),oD 7 (.fieldA 8 τ1),oD 8 (.load1 (.int .i64) τ7),oD 9 (.fieldA 7 τ1),oD 10 (.load1 (.int .i64) τ9),oD 11 (.fieldA 1 τ1),oN (.store 3 Xc8 τ4),oD 12 (.fieldA 4 τ1),oN (.store 3 XdK τ6),oD 13 (.fieldA 7 τ1),oN (.store 1 Xef τ8),oD 14 (.fieldA 8 τ1),oN (.store 1 XeN Xda)]) (.seq (.reg [oD 15 (.loadN [(.int .i64),.bool,(.int .u64),(.int .u64),.bool,(.int .u64),(.int .u64),(.int .i64),(.int .i64)] τ1),oN (.store 9 τ2 XeG)]) .ret))
def fn53:VFn:=⟨16,XUA,[.cell 2 [(.int .i64),.bool,(.int .u64),(.int .u64),.bool,(.int .u64),(.int .u64),(.int .i64),(.int .i64)] true]⟩
def k34_6:VC:=.regD [oD 16 (.loadN [(.int .i64),.bool,(.int .u64),(.int .u64),.bool,(.int .u64),(.int .u64),(.int .i64),(.int .i64)] τ1),oD 17 (.callF 71 [])] [(0,1)] [oD 18 (.build [(.int .i64 0),(.bool false),(.int .u64 0),(.int .u64 0),(.bool false),(.int .u64 0),(.int .u64 0),(.int .i64 0),(.int .i64 0),(.int .u32 0),(.int .u32 0),(.string ⟨⟨[]⟩⟩)] [(0,9,XeW),(9,1,(.const (.int .u32 1))),(11,1,XeI)]),oD 19 (.box Xfg),oM 2 Xe5]
def k34_9:VC:=.seq (.reg [oD 1 (.box τ0),oD 2 (.mv (.const (.pointer none)))]) (.seq (.seq (.reg [oD 3 (.loadN [(.int .i64),.bool,(.int .u64),(.int .u64),.bool,(.int .u64),(.int .u64),(.int .i64),(.int .i64)] τ1),oD 4 (.callF 23 [τ3]),oD 5 (.not τ4),oM 6 τ5,oG 7 (.fieldA 0 τ1) 6 false,oG 8 (.load1 (.int .i64) τ7) 6 false,oG 9 (.bin .neq τ8 (.const (.int .i64 6))) 6 false,oG 10 (.mv τ9) 6 false,oG 11 (.fieldA 0 τ1) 10 true,oG 12 (.load1 (.int .i64) Xc8) 10 true,oG 13 (.bin .neq XdK (.const (.int .i64 17))) 10 true,oG 14 (.pick Xda Xef (.const (.bool false))) 6 false,oD 15 (.pick τ6 (.const (.bool true)) XeN)]) (.cond XeG (.seq (.reg [oD 2 (.mv (.const (.pointer none)))]) .ret) .skip)) (.seq k34_6 .ret))
def fn34:VFn:=⟨20,k34_9,[.tmp 2]⟩
def XVH:VC:=.seq (.reg [oD 1 (.box τ0),oD 2 (.mv (.const (.bool false)))]) (.seq (.reg [oD 3 (.fieldA 0 τ1),oD 4 (.load1 (.int .i64) τ3),oD 5 (.callF 58 [τ4,(.const (.int .i64 255))]),oM 6 τ5,oG 7 (.fieldA 1 τ1) 6 true,oG 8 (.loadN [.bool,(.int .u64),(.int .u64)] τ7) 6 true,oG 9 (.callF 59 [τ8]) 6 true,oD 10 (.pick τ6 τ9 (.const (.bool false))),oM 11 Xda,oG 12 (.fieldA 4 τ1) 11 true,oG 13 (.loadN [.bool,(.int .u64),(.int .u64)] XdK) 11 true,oG 14 (.callF 59 [Xef]) 11 true,oD 15 (.pick Xc8 XeN (.const (.bool false))),oM 16 XeG,oG 17 (.fieldA 1 τ1) 16 true,oG 18 (.fieldA 0 XeI) 16 true,oG 19 (.load1 .bool Xfg) 16 true,oG 20 (.fieldA 4 τ1) 16 true,oG 21 (.fieldA 0 Xfv) 16 true,oG 22 (.load1 .bool XfM) 16 true,oG 23 (.eqB false Xe5 XfP) 16 true,oD 24 (.pick XeW XfO (.const (.bool false))),oM 25 Xgb,oG 26 (.fieldA 7 τ1) 25 true,oG 27 (.load1 (.int .i64) XgE) 25 true,oG 28 (.callF 58 [XgH,(.const (.int .i64 65535))]) 25 true,oD 29 (.pick Xgz XgC (.const (.bool false))),oM 30 XgF,oG 31 (.fieldA 8 τ1) 30 true,oG 32 (.load1 (.int .i64) Xg7) 30 true,oG 33 (.callF 58 [Xhp,(.const (.int .i64 65535))]) 30 true,oD 34 (.pick XgR Xhr (.const (.bool false))),oM 2 Xhu]) .ret)
def fn23:VFn:=⟨35,XVH,[.tmp 2]⟩
def XRt:VC:=.seq (.reg [oD 4 (.mv (.const (.bool false)))]) (.seq (.reg [oM 5 τ0,oD 6 (.bin .geq τ5 (.const (.int .i64 0))),oM 7 τ6,oG 8 (.mv τ0) 7 true,oG 9 (.mv τ1) 7 true,oG 10 (.bin .leq τ8 τ9) 7 true,oD 11 (.pick τ7 Xda (.const (.bool false))),oM 4 Xc8]) .ret)
def fn58:VFn:=⟨12,XRt,[.tmp 4]⟩
def XT8:VC:=.seq (.reg [oD 0 (.mv (.const (.string ⟨⟨[]⟩⟩)))]) (.seq (.reg [oD 0 (.mv (.const (.string ⟨⟨[0,0,0,0,0,0,0,0]⟩⟩)))]) .ret)
def fn71:VFn:=⟨1,XT8,[.tmp 0]⟩
def k36_2:VC:=.regD [oM 16 τ0,oD 17 (.nilCheck XeW),oD 18 (.fieldA 0 XeI),oD 19 (.loadN [(.int .i64),.bool,(.int .u64),(.int .u64),.bool,(.int .u64),(.int .u64),(.int .i64),(.int .i64)] Xfg),oM 20 τ0,oD 21 (.nilCheck Xfv),oD 22 (.fieldA 9 XfM),oD 23 (.load1 (.int .u32) XfP),oD 24 (.callF 25 [XfO,(.const (.int .u32 0))]),oD 25 (.callF 24 [Xe5,(.const (.int .i64 2)),Xgb,(.const (.string ⟨⟨[]⟩⟩))]),oM 15 Xgz,oE 26 0 XeG,oE 27 1 XeG,oM 3 XgE] [(3,8)] [oM 4 XgH]
def XJK:VC:=.seq (.reg [oD 2 (.mv (.const (.string ⟨⟨[]⟩⟩)))]) (.seq (.seq (.reg [oM 9 τ0,oD 10 (.nilCheck τ9),oD 11 (.fieldA 0 Xda),oD 12 (.fieldA 0 Xc8),oD 13 (.load1 (.int .i64) XdK),oD 14 (.bin .eql Xef (.const (.int .i64 6)))]) (.cond XeN (.seq k36_2 (.seq (.reg [oM 28 τ3,oM 2 XgC]) .ret)) .skip)) (.seq (.reg [oD 30 (.callF 71 []),oD 31 (.build [(.bool false),(.int .i64 0),(.int .u32 0),(.string ⟨⟨[]⟩⟩),(.string ⟨⟨[]⟩⟩),(.string ⟨⟨[]⟩⟩)] [(0,1,(.const (.bool true))),(2,1,(.const (.int .u32 1))),(3,1,XgR),(4,1,(.const (.string ⟨⟨[0,0]⟩⟩)))]),oD 32 (.callF 43 [Xg7]),oM 29 Xhp,oE 33 0 XgF,oE 34 1 XgF,oM 5 Xhr,oM 6 Xhu]) (.seq (.reg [oM 36 τ0,oD 37 (.nilCheck Xie),oD 38 (.fieldA 0 Xib),oD 39 (.loadN [(.int .i64),.bool,(.int .u64),(.int .u64),.bool,(.int .u64),(.int .u64),(.int .i64),(.int .i64)] XiB),oM 40 τ5,oD 41 (.callF 44 [Xjc,Xjr]),oM 35 XjD,oE 42 0 XhG,oE 43 1 XhG,oM 7 Xje,oM 8 Xjs]) (.seq (.reg [oM 44 τ7,oM 2 Xkm]) .ret))))
def fn36:VFn:=⟨45,XJK,[.tmp 2]⟩
def XTI:VC:=.seq (.reg [oD 4 (.mv (.const (.string ⟨⟨[]⟩⟩)))]) (.seq (.reg [oM 5 τ0,oD 6 (.conv .i64 τ5),oD 7 (.callF 62 [τ6,(.const (.int .i64 4))]),oD 8 (.bin .add (.const (.string ⟨⟨[1,1,8,10]⟩⟩)) τ7),oM 9 τ1,oD 10 (.conv .i64 τ9),oD 11 (.callF 62 [Xda,(.const (.int .i64 4))]),oD 12 (.bin .add τ8 Xc8),oM 4 XdK]) .ret)
def fn25:VFn:=⟨13,XTI,[.tmp 4]⟩
def XVZ:VC:=.seq (.reg [oD 4 (.mv (.const (.string ⟨⟨[]⟩⟩)))]) (.seq (.reg [oM 5 τ0,oD 6 (.conv .u64 τ5),oM 7 τ1,oD 8 (.callF 63 [τ6,τ7]),oM 4 τ8]) .ret)
def fn62:VFn:=⟨9,XVZ,[.tmp 4]⟩
def XHV:VC:=.seq (.reg [oD 4 (.box τ0),oD 8 (.mv (.const (.string ⟨⟨[]⟩⟩))),oD 9 (.mv (.const (.int .i64 0)))]) (.seq (.seq (.reg [oD 12 (.fieldA 0 τ4),oD 13 (.load1 (.int .i64) XdK),oD 14 (.bin .neq Xef (.const (.int .i64 6)))]) (.cond XeN (.seq (.reg [oD 8 (.mv (.const (.string ⟨⟨[]⟩⟩))),oD 9 (.mv (.const (.int .i64 1)))]) .ret) .skip)) (.seq (.reg [oD 16 (.fieldA 7 τ4),oD 17 (.load1 (.int .i64) XeW),oD 18 (.fieldA 8 τ4),oD 19 (.load1 (.int .i64) Xfg),oM 20 τ1,oM 21 τ2,oD 22 (.build [(.int .i64 0),(.int .i64 0),(.int .u32 0),(.int .u32 0),(.int .i64 0),(.int .i64 0),(.int .i64 0),(.string ⟨⟨[]⟩⟩)] [(0,1,XeI),(1,1,Xe5),(4,1,Xfv),(5,1,(.const (.int .i64 65535))),(7,1,XfM)]),oD 23 (.fieldA 1 τ4),oD 24 (.loadN [.bool,(.int .u64),(.int .u64)] XfO),oD 25 (.fieldA 4 τ4),oD 26 (.loadN [.bool,(.int .u64),(.int .u64)] Xgz),oM 27 τ3,oD 28 (.callF 60 [XfP,Xgb,XgE,XgH]),oM 15 XgC,oE 29 0 XeG,oE 30 1 XeG,oM 10 XgF,oM 11 XgR]) (.seq (.seq (.reg [oM 31 Xc8,oD 32 (.bin .neq Xg7 (.const (.int .i64 0)))]) (.cond Xhp (.seq (.reg [oM 33 Xc8,oD 8 (.mv (.const (.string ⟨⟨[]⟩⟩))),oM 9 Xhr]) .ret) .skip)) (.seq (.reg [oD 34 (.loadN [(.int .i64),.bool,(.int .u64),(.int .u64),.bool,(.int .u64),(.int .u64),(.int .i64),(.int .i64)] τ4),oM 35 Xda,oD 36 (.callF 61 [Xhu,XhG]),oE 37 0 Xie,oE 38 1 Xie,oM 8 Xib,oM 9 XiB]) .ret))))
def fn24:VFn:=⟨39,XHV,[.tmp 8,.tmp 9]⟩
def XV7:VC:=.regD [oD 36 (.fieldA 0 τ4),oD 37 (.load1 (.int .i64) Xie),oD 38 (.callF 62 [Xib,(.const (.int .i64 2))]),oD 39 (.fieldA 1 τ4),oD 40 (.load1 (.int .i64) Xjc),oD 41 (.callF 62 [Xjr,(.const (.int .i64 2))]),oD 42 (.bin .add XiB XjD),oD 43 (.fieldA 2 τ4),oD 44 (.load1 (.int .u32) Xjs),oD 45 (.conv .i64 Xkm),oD 46 (.callF 62 [Xkl,(.const (.int .i64 4))]),oD 47 (.bin .add Xje XkD),oD 48 (.fieldA 3 τ4),oD 49 (.load1 (.int .u32) XkB),oD 50 (.conv .i64 XkA),oD 51 (.callF 62 [Xlj,(.const (.int .i64 4))]),oD 52 (.bin .add XkC Xlr),oM 53 Xda,oD 54 (.bin .mul (.const (.int .i64 4)) XmB),oD 55 (.callF 62 [Xne,(.const (.int .i64 1))]),oD 56 (.bin .add Xls XmO),oD 57 (.fieldA 4 τ4),oD 58 (.load1 (.int .i64) XmT),oD 59 (.callF 62 [XmU,(.const (.int .i64 1))]),oD 60 (.bin .add Xnd Xno),oD 61 (.fieldA 5 τ4),oD 62 (.load1 (.int .i64) Xoj),oD 63 (.callF 62 [XoS,(.const (.int .i64 2))]),oD 64 (.bin .add Xoi Xqq),oD 65 (.callF 62 [(.const (.int .i64 0)),(.const (.int .i64 2))]),oD 66 (.bin .add Xqr Xrb),oD 67 (.fieldA 6 τ4),oD 68 (.load1 (.int .i64) Xqu),oD 69 (.callF 62 [XqA,(.const (.int .i64 2))]),oD 70 (.bin .add XqE Xr8),oD 71 (.fieldA 7 τ4),oD 72 (.load1 .str Xsq),oD 73 (.bin .add Xsr Xsm),oM 74 τ3] [(2,4),(2,8),(2,13),(2,22),(2,26),(2,32),(2,36),(5,8),(5,13),(5,22),(5,26),(5,32),(5,36),(10,13),(10,22),(10,26),(10,32),(10,36),(15,22),(15,26),(15,32),(15,36),(19,22),(19,26),(19,32),(19,36),(23,26),(23,32),(23,36),(27,32),(27,36),(29,32),(29,36),(33,36)] [oD 75 (.bin .add XtH Xvj),oM 12 XuX]
def XJo:VC:=.seq (.reg [oD 4 (.box τ0),oD 5 (.box τ1),oD 6 (.box τ2),oD 8 (.mv (.const (.string ⟨⟨[]⟩⟩))),oD 9 (.mv (.const (.int .i64 0)))]) (.seq (.reg [oD 13 (.fieldA 7 τ4),oD 14 (.load1 .str Xef),oD 15 (.lenS XeN),oD 16 (.bin .add (.const (.int .i64 20)) XeG),oM 10 XeW]) (.seq (.reg [oD 17 (.loadN [.bool,(.int .u64),(.int .u64)] τ5),oD 18 (.loadN [.bool,(.int .u64),(.int .u64)] τ6),oM 19 Xda,oM 20 τ3,oD 21 (.lenS Xfv),oD 22 (.bin .add Xe5 XfM),oD 23 (.callF 101 [XeI,Xfg,(.const (.int .i64 6)),XfP]),oM 11 XfO]) (.seq (.seq (.reg [oD 24 (.loadN [(.int .i64),(.int .i64),(.int .u32),(.int .u32),(.int .i64),(.int .i64),(.int .i64),.str] τ4),oD 25 (.callF 102 [Xgb]),oD 26 (.not Xgz),oM 27 XgE,oG 28 (.mv Xc8) 27 false,oG 29 (.bin .eql XgC (.const (.string ⟨⟨[]⟩⟩))) 27 false,oD 30 (.pick XgH (.const (.bool true)) XgF)]) (.cond XgR (.seq (.reg [oD 8 (.mv (.const (.string ⟨⟨[]⟩⟩))),oD 9 (.mv (.const (.int .i64 1)))]) .ret) .skip)) (.seq (.seq (.reg [oM 31 τ3,oD 32 (.lenS Xg7),oM 33 Xda,oD 34 (.bin .sub (.const (.int .i64 65535)) Xhr),oD 35 (.bin .gtr Xhp Xhu)]) (.cond XhG (.seq (.reg [oD 8 (.mv (.const (.string ⟨⟨[]⟩⟩))),oD 9 (.mv (.const (.int .i64 5)))]) .ret) .skip)) (.seq XV7 (.seq (.reg [oM 76 XdK,oM 77 Xc8,oM 78 XdK,oD 79 (.bin .add Xw9 Xxb),oD 80 (.callF 65 [XxT]),oD 81 (.conv .u64 XxY),oD 82 (.callF 64 [Xxj,(.const (.int .i64 16)),(.const (.int .i64 2)),XBS]),oM 8 XCp,oD 9 (.mv (.const (.int .i64 0)))]) .ret))))))
def fn60:VFn:=⟨83,XJo,[.tmp 8,.tmp 9]⟩
def XJy:VC:=.seq (.reg [oD 1 (.box τ0),oD 2 (.mv (.const (.bool false)))]) (.seq (.reg [oD 3 (.fieldA 0 τ1),oD 4 (.load1 (.int .i64) τ3),oD 5 (.callF 148 [τ4,(.const (.int .i64 65535))]),oM 6 τ5,oG 7 (.fieldA 1 τ1) 6 true,oG 8 (.load1 (.int .i64) τ7) 6 true,oG 9 (.callF 148 [τ8,(.const (.int .i64 65535))]) 6 true,oD 10 (.pick τ6 τ9 (.const (.bool false))),oM 11 Xda,oG 12 (.fieldA 4 τ1) 11 true,oG 13 (.load1 (.int .i64) XdK) 11 true,oG 14 (.callF 148 [Xef,(.const (.int .i64 255))]) 11 true,oD 15 (.pick Xc8 XeN (.const (.bool false))),oM 16 XeG,oG 17 (.fieldA 5 τ1) 16 true,oG 18 (.load1 (.int .i64) XeI) 16 true,oG 19 (.callF 148 [Xfg,(.const (.int .i64 65535))]) 16 true,oD 20 (.pick XeW Xe5 (.const (.bool false))),oM 21 Xfv,oG 22 (.fieldA 6 τ1) 21 true,oG 23 (.load1 (.int .i64) XfP) 21 true,oG 24 (.callF 148 [XfO,(.const (.int .i64 65535))]) 21 true,oD 25 (.pick XfM Xgb (.const (.bool false))),oM 26 Xgz,oG 27 (.fieldA 7 τ1) 26 true,oG 28 (.load1 .str XgH) 26 true,oG 29 (.lenS XgC) 26 true,oG 30 (.bin .leq XgF (.const (.int .i64 40))) 26 true,oD 31 (.pick XgE XgR (.const (.bool false))),oM 32 Xg7,oG 33 (.fieldA 7 τ1) 32 true,oG 34 (.load1 .str Xhr) 32 true,oG 35 (.lenS Xhu) 32 true,oG 36 (.bin .rem XhG (.const (.int .i64 4))) 32 true,oG 37 (.bin .eql Xie (.const (.int .i64 0))) 32 true,oD 38 (.pick Xhp Xib (.const (.bool false))),oM 2 XiB]) .ret)
def XUz:VFn:=⟨39,XJy,[.tmp 2]⟩
def XJv:VC:=.seq (.reg [oD 4 (.mv (.const (.bool false)))]) (.seq (.reg [oM 5 τ0,oD 6 (.bin .geq τ5 (.const (.int .i64 0))),oM 7 τ6,oG 8 (.mv τ0) 7 true,oG 9 (.mv τ1) 7 true,oG 10 (.bin .leq τ8 τ9) 7 true,oD 11 (.pick τ7 Xda (.const (.bool false))),oM 4 Xc8]) .ret)
def XSj:VFn:=⟨12,XJv,[.tmp 4]⟩
def XQU:VC:=.seq (.reg [oD 2 (.mv (.const (.int .i64 0)))]) (.seq (.reg [oM 3 τ0,oD 4 (.callF 86 [τ3]),oD 5 (.bin .sub (.const (.int .i64 65535)) τ4),oM 2 τ5]) .ret)
def fn65:VFn:=⟨6,XQU,[.tmp 2]⟩
def k64_7:VC:=.regD [oM 21 τ0,oM 22 τ1,oD 23 (.sliceS XfM none (some XfP)),oM 24 τ3,oM 25 τ2,oD 26 (.callF 63 [Xgb,Xgz]),oD 27 (.bin .add XfO XgE),oM 28 τ0,oM 29 τ1,oM 30 τ2,oD 31 (.bin .add XgF XgR),oD 32 (.sliceS XgC (some Xg7) none)] [] [oD 33 (.bin .add XgH Xhp),oM 8 Xhr]
def XI6:VC:=.seq (.reg [oD 8 (.mv (.const (.string ⟨⟨[]⟩⟩)))]) (.seq (.reg [oM 12 τ0,oM 13 τ1,oM 14 τ2,oD 15 (.callF 87 [XdK,Xef,XeN]),oM 11 XeG,oE 16 0 Xc8,oE 17 1 Xc8,oM 9 XeW,oM 10 XeI]) (.seq (.seq (.reg [oM 18 Xda,oD 19 (.not Xfg)]) (.cond Xe5 (.seq (.reg [oM 20 τ0,oM 8 Xfv]) .ret) .skip)) (.seq k64_7 .ret)))
def fn64:VFn:=⟨34,XI6,[.tmp 8]⟩
def XJV:VC:=.seq (.reg [oD 2 (.box τ0),oD 4 (.mv (.const (.string ⟨⟨[]⟩⟩))),oD 5 (.mv (.const (.int .i64 0)))]) (.seq (.seq (.reg [oD 8 (.fieldA 1 τ2),oD 9 (.fieldA 0 τ8),oD 10 (.load1 .bool τ9),oD 11 (.fieldA 4 τ2),oD 12 (.fieldA 0 Xc8),oD 13 (.load1 .bool XdK),oD 14 (.eqB true Xda Xef),oM 15 XeN,oG 16 (.fieldA 1 τ2) 15 false,oG 17 (.loadN [.bool,(.int .u64),(.int .u64)] XeW) 15 false,oG 18 (.callF 59 [XeI]) 15 false,oG 19 (.not Xfg) 15 false,oD 20 (.pick XeG (.const (.bool true)) Xe5),oM 21 Xfv,oG 22 (.fieldA 4 τ2) 21 false,oG 23 (.loadN [.bool,(.int .u64),(.int .u64)] XfP) 21 false,oG 24 (.callF 59 [XfO]) 21 false,oG 25 (.not Xgb) 21 false,oD 26 (.pick XfM (.const (.bool true)) Xgz),oM 27 XgE,oG 28 (.fieldA 0 τ2) 27 false,oG 29 (.load1 (.int .i64) XgC) 27 false,oG 30 (.bin .neq XgF (.const (.int .i64 6))) 27 false,oG 31 (.mv XgR) 27 false,oG 32 (.fieldA 0 τ2) 31 true,oG 33 (.load1 (.int .i64) Xhp) 31 true,oG 34 (.bin .neq Xhr (.const (.int .i64 17))) 31 true,oG 35 (.pick Xg7 Xhu (.const (.bool false))) 27 false,oD 36 (.pick XgH (.const (.bool true)) XhG)]) (.cond Xie (.seq (.reg [oD 4 (.mv (.const (.string ⟨⟨[]⟩⟩))),oD 5 (.mv (.const (.int .i64 1)))]) .ret) .skip)) (.seq (.reg [oD 38 (.fieldA 0 τ2),oD 39 (.load1 (.int .i64) XiB),oD 40 (.fieldA 1 τ2),oD 41 (.loadN [.bool,(.int .u64),(.int .u64)] Xjr),oD 42 (.fieldA 4 τ2),oD 43 (.loadN [.bool,(.int .u64),(.int .u64)] Xje),oD 44 (.build [(.int .i64 0),(.int .i64 0),(.int .i64 0),(.int .i64 0),(.bool false),(.int .u64 0),(.int .u64 0),(.bool false),(.int .u64 0),(.int .u64 0)] [(2,1,Xjc),(3,1,(.const (.int .i64 64))),(4,3,XjD),(7,3,Xjs)]),oM 45 τ1,oD 46 (.callF 103 [Xkm,Xkl]),oM 37 XkD,oE 47 0 Xib,oE 48 1 Xib,oM 6 XkC,oM 7 XkB]) (.seq (.seq (.reg [oD 49 (.fieldA 1 τ2),oD 50 (.fieldA 0 XkA),oD 51 (.load1 .bool Xlj),oD 52 (.not Xlr)]) (.cond Xls (.reg [oD 54 (.fieldA 0 τ2),oD 55 (.load1 (.int .i64) Xne),oD 56 (.fieldA 1 τ2),oD 57 (.loadN [.bool,(.int .u64),(.int .u64)] Xnd),oD 58 (.fieldA 4 τ2),oD 59 (.loadN [.bool,(.int .u64),(.int .u64)] XmU),oD 60 (.build [(.int .i64 0),(.int .i64 0),(.bool false),(.int .i64 0),(.int .i64 0),(.bool false),(.int .u64 0),(.int .u64 0),(.bool false),(.int .u64 0),(.int .u64 0),(.string ⟨⟨[]⟩⟩)] [(2,1,(.const (.bool true))),(3,1,(.const (.int .i64 64))),(4,1,XmO),(5,3,XmT),(8,3,Xno)]),oM 61 τ1,oD 62 (.callF 104 [Xoi,Xoj]),oM 53 XoS,oE 63 0 XmB,oE 64 1 XmB,oM 6 Xqq,oM 7 Xqr]) .skip)) (.seq (.seq (.reg [oM 65 τ7,oD 66 (.bin .eql Xrb (.const (.int .i64 0))),oM 67 XqE,oG 68 (.mv τ6) 67 true,oG 69 (.lenS XqA) 67 true,oG 70 (.bin .gtr Xr8 (.const (.int .i64 9000))) 67 true,oD 71 (.pick Xqu Xsr (.const (.bool false)))]) (.cond Xsq (.seq (.reg [oD 4 (.mv (.const (.string ⟨⟨[]⟩⟩))),oD 5 (.mv (.const (.int .i64 5)))]) .ret) .skip)) (.seq (.reg [oM 72 τ6,oM 73 τ7,oM 4 Xsm,oM 5 XtH]) .ret)))))
def fn61:VFn:=⟨74,XJV,[.tmp 4,.tmp 5]⟩
def XLK:VC:=.regD [oD 12 (.fieldA 0 τ2),oD 13 (.load1 (.int .i64) XdK),oD 14 (.bin .mul Xef (.const (.int .i64 1048576))),oD 15 (.bin .add (.const (.int .i64 1610612736)) XeN),oD 16 (.fieldA 1 τ2),oD 17 (.load1 (.int .i64) XeW),oD 18 (.bin .add XeG XeI),oD 19 (.callF 150 [Xfg,(.const (.int .i64 4))]),oM 20 τ1,oD 21 (.lenS Xfv),oD 22 (.callF 150 [XfM,(.const (.int .i64 2))]),oD 23 (.bin .add Xe5 XfP),oD 24 (.fieldA 2 τ2),oD 25 (.load1 (.int .i64) Xgb),oD 26 (.callF 150 [Xgz,(.const (.int .i64 1))]),oD 27 (.bin .add XfO XgE),oD 28 (.fieldA 3 τ2),oD 29 (.load1 (.int .i64) XgC),oD 30 (.callF 150 [XgF,(.const (.int .i64 1))]),oD 31 (.bin .add XgH XgR),oD 32 (.fieldA 4 τ2),oD 33 (.loadN [.bool,(.int .u64),(.int .u64)] Xhp),oD 34 (.callF 146 [Xhr]),oD 35 (.bin .add Xg7 Xhu),oD 36 (.fieldA 7 τ2),oD 37 (.loadN [.bool,(.int .u64),(.int .u64)] Xie),oD 38 (.callF 146 [Xib]),oD 39 (.bin .add XhG XiB),oM 40 τ1] [(7,13),(7,17),(7,21),(7,25),(10,13),(10,17),(10,21),(10,25),(14,17),(14,21),(14,25),(18,21),(18,25),(22,25)] [oD 41 (.bin .add Xjc Xjr),oM 4 XjD,oD 5 (.mv (.const (.int .i64 0)))]
def XA4:VC:=.seq (.reg [oD 2 (.box τ0),oD 4 (.mv (.const (.string ⟨⟨[]⟩⟩))),oD 5 (.mv (.const (.int .i64 0)))]) (.seq (.seq (.reg [oD 6 (.loadN [(.int .i64),(.int .i64),(.int .i64),(.int .i64),.bool,(.int .u64),(.int .u64),.bool,(.int .u64),(.int .u64)] τ2),oD 7 (.callF 149 [τ6]),oD 8 (.not τ7)]) (.cond τ8 (.seq (.reg [oD 4 (.mv (.const (.string ⟨⟨[]⟩⟩))),oD 5 (.mv (.const (.int .i64 1)))]) .ret) .skip)) (.seq (.seq (.reg [oM 9 τ1,oD 10 (.lenS τ9),oD 11 (.bin .gtr Xda (.const (.int .i64 65535)))]) (.cond Xc8 (.seq (.reg [oD 4 (.mv (.const (.string ⟨⟨[]⟩⟩))),oD 5 (.mv (.const (.int .i64 5)))]) .ret) .skip)) (.seq XLK .ret)))
def XTP:VFn:=⟨42,XA4,[.tmp 4,.tmp 5]⟩
def XIR:VC:=.seq (.reg [oD 1 (.box τ0),oD 2 (.mv (.const (.bool false)))]) (.seq (.reg [oD 3 (.fieldA 0 τ1),oD 4 (.load1 (.int .i64) τ3),oD 5 (.callF 174 [τ4,(.const (.int .i64 255))]),oM 6 τ5,oG 7 (.fieldA 1 τ1) 6 true,oG 8 (.load1 (.int .i64) τ7) 6 true,oG 9 (.callF 174 [τ8,(.const (.int .i64 1048575))]) 6 true,oD 10 (.pick τ6 τ9 (.const (.bool false))),oM 11 Xda,oG 12 (.fieldA 2 τ1) 11 true,oG 13 (.load1 (.int .i64) XdK) 11 true,oG 14 (.callF 174 [Xef,(.const (.int .i64 255))]) 11 true,oD 15 (.pick Xc8 XeN (.const (.bool false))),oM 16 XeG,oG 17 (.fieldA 3 τ1) 16 true,oG 18 (.load1 (.int .i64) XeI) 16 true,oG 19 (.callF 174 [Xfg,(.const (.int .i64 255))]) 16 true,oD 20 (.pick XeW Xe5 (.const (.bool false))),oM 21 Xfv,oG 22 (.fieldA 4 τ1) 21 true,oG 23 (.fieldA 0 XfP) 21 true,oG 24 (.load1 .bool XfO) 21 true,oD 25 (.pick XfM Xgb (.const (.bool false))),oM 26 Xgz,oG 27 (.fieldA 7 τ1) 26 true,oG 28 (.fieldA 0 XgH) 26 true,oG 29 (.load1 .bool XgC) 26 true,oD 30 (.pick XgE XgF (.const (.bool false))),oM 2 XgR]) .ret)
def XRc:VFn:=⟨31,XIR,[.tmp 2]⟩
def XIv:VC:=.seq (.reg [oD 4 (.mv (.const (.bool false)))]) (.seq (.reg [oM 5 τ0,oD 6 (.bin .geq τ5 (.const (.int .i64 0))),oM 7 τ6,oG 8 (.mv τ0) 7 true,oG 9 (.mv τ1) 7 true,oG 10 (.bin .leq τ8 τ9) 7 true,oD 11 (.pick τ7 Xda (.const (.bool false))),oM 4 Xc8]) .ret)
def XU0:VFn:=⟨12,XIv,[.tmp 4]⟩
def XIY:VC:=.seq (.reg [oD 4 (.mv (.const (.string ⟨⟨[]⟩⟩)))]) (.seq (.reg [oM 5 τ0,oD 6 (.conv .u64 τ5),oM 7 τ1,oD 8 (.callF 63 [τ6,τ7]),oM 4 τ8]) .ret)
def XWh:VFn:=⟨9,XIY,[.tmp 4]⟩
def XLd:VC:=.regD [oM 23 τ6,oD 24 (.bin .quo XfO (.const (.int .i64 4))),oD 25 (.bin .add (.const (.int .i64 64)) Xgb),oD 26 (.callF 147 [Xgz,(.const (.int .i64 1))]),oD 27 (.fieldA 0 τ2),oD 28 (.load1 (.int .i64) XgH),oD 29 (.callF 147 [XgC,(.const (.int .i64 1))]),oD 30 (.bin .add XgE XgF),oM 31 τ6,oM 32 τ1,oD 33 (.lenS Xhp),oD 34 (.bin .add Xg7 Xhr),oD 35 (.callF 147 [Xhu,(.const (.int .i64 2))]),oD 36 (.bin .add XgR XhG),oD 37 (.fieldA 1 τ2),oD 38 (.load1 (.int .i64) Xib),oD 39 (.callF 147 [XiB,(.const (.int .i64 2))]),oD 40 (.bin .add Xie Xjc),oM 41 τ7,oD 42 (.callF 147 [XjD,(.const (.int .i64 1))]),oD 43 (.bin .add Xjr Xje),oD 44 (.callF 147 [(.const (.int .i64 0)),(.const (.int .i64 1))]),oD 45 (.bin .add Xjs Xkm),oD 46 (.fieldA 3 τ2),oD 47 (.load1 (.int .i64) XkD),oD 48 (.callF 147 [XkC,(.const (.int .i64 1))]),oD 49 (.bin .add Xkl XkB),oD 50 (.fieldA 4 τ2),oD 51 (.load1 (.int .i64) Xlj),oD 52 (.callF 147 [Xlr,(.const (.int .i64 1))]),oD 53 (.bin .add XkA Xls),oD 54 (.callF 147 [(.const (.int .i64 0)),(.const (.int .i64 2))]),oD 55 (.bin .add XmB Xne),oD 56 (.fieldA 5 τ2),oD 57 (.loadN [.bool,(.int .u64),(.int .u64)] Xnd),oD 58 (.callF 146 [XmT]),oD 59 (.bin .add XmO XmU),oD 60 (.fieldA 8 τ2),oD 61 (.loadN [.bool,(.int .u64),(.int .u64)] Xoi),oD 62 (.callF 146 [Xoj]),oD 63 (.bin .add Xno XoS),oD 64 (.fieldA 11 τ2),oD 65 (.load1 .str Xqr)] [(3,5),(3,15),(3,24),(3,28),(3,34),(3,38),(3,42),(6,15),(6,24),(6,28),(6,34),(6,38),(6,42),(12,15),(12,24),(12,28),(12,34),(12,38),(12,42),(16,24),(16,28),(16,34),(16,38),(16,42),(19,24),(19,28),(19,34),(19,38),(19,42),(21,24),(21,28),(21,34),(21,38),(21,42),(25,28),(25,34),(25,38),(25,42),(29,34),(29,38),(29,42),(31,34),(31,38),(31,42),(35,38),(35,42),(39,42)] [oD 66 (.bin .add Xqq Xrb),oM 8 XqE]
def XAr:VC:=.seq (.reg [oD 2 (.box τ0),oD 4 (.mv (.const (.string ⟨⟨[]⟩⟩))),oD 5 (.mv (.const (.int .i64 0)))]) (.seq (.seq (.reg [oD 9 (.loadN [(.int .i64),(.int .i64),.bool,(.int .i64),(.int .i64),.bool,(.int .u64),(.int .u64),.bool,(.int .u64),(.int .u64),.str] τ2),oD 10 (.callF 151 [τ9]),oD 11 (.not Xda)]) (.cond Xc8 (.seq (.reg [oD 4 (.mv (.const (.string ⟨⟨[]⟩⟩))),oD 5 (.mv (.const (.int .i64 1)))]) .ret) .skip)) (.seq (.reg [oD 12 (.fieldA 11 τ2),oD 13 (.load1 .str XdK),oD 14 (.lenS Xef),oD 15 (.bin .add (.const (.int .i64 20)) XeN),oM 6 XeG]) (.seq (.seq (.reg [oM 16 τ1,oD 17 (.lenS XeW),oM 18 τ6,oD 19 (.bin .sub (.const (.int .i64 65535)) Xfg),oD 20 (.bin .gtr XeI Xe5)]) (.cond Xfv (.seq (.reg [oD 4 (.mv (.const (.string ⟨⟨[]⟩⟩))),oD 5 (.mv (.const (.int .i64 5)))]) .ret) .skip)) (.seq (.reg [oD 7 (.mv (.const (.int .i64 0)))]) (.seq (.seq (.reg [oD 21 (.fieldA 2 τ2),oD 22 (.load1 .bool XfM)]) (.cond XfP (.reg [oD 7 (.mv (.const (.int .i64 64)))]) .skip)) (.seq XLd (.seq (.reg [oM 67 τ8,oM 68 τ8,oD 69 (.callF 65 [XqA]),oD 70 (.conv .u64 Xr8),oD 71 (.callF 64 [Xqu,(.const (.int .i64 10)),(.const (.int .i64 2)),Xsr]),oM 72 τ1,oD 73 (.bin .add Xsq Xsm),oM 4 XtH,oD 5 (.mv (.const (.int .i64 0)))]) .ret)))))))
def XW5:VFn:=⟨74,XAr,[.tmp 4,.tmp 5]⟩
def XIl:VC:=.seq (.reg [oD 1 (.box τ0),oD 2 (.mv (.const (.bool false)))]) (.seq (.reg [oD 3 (.fieldA 0 τ1),oD 4 (.load1 (.int .i64) τ3),oD 5 (.callF 175 [τ4,(.const (.int .i64 255))]),oM 6 τ5,oG 7 (.fieldA 1 τ1) 6 true,oG 8 (.load1 (.int .i64) τ7) 6 true,oG 9 (.callF 175 [τ8,(.const (.int .i64 65535))]) 6 true,oD 10 (.pick τ6 τ9 (.const (.bool false))),oM 11 Xda,oG 12 (.fieldA 3 τ1) 11 true,oG 13 (.load1 (.int .i64) XdK) 11 true,oG 14 (.callF 175 [Xef,(.const (.int .i64 255))]) 11 true,oD 15 (.pick Xc8 XeN (.const (.bool false))),oM 16 XeG,oG 17 (.fieldA 4 τ1) 16 true,oG 18 (.load1 (.int .i64) XeI) 16 true,oG 19 (.callF 175 [Xfg,(.const (.int .i64 255))]) 16 true,oD 20 (.pick XeW Xe5 (.const (.bool false))),oM 21 Xfv,oG 22 (.fieldA 5 τ1) 21 true,oG 23 (.loadN [.bool,(.int .u64),(.int .u64)] XfP) 21 true,oG 24 (.callF 176 [XfO]) 21 true,oD 25 (.pick XfM Xgb (.const (.bool false))),oM 26 Xgz,oG 27 (.fieldA 8 τ1) 26 true,oG 28 (.loadN [.bool,(.int .u64),(.int .u64)] XgH) 26 true,oG 29 (.callF 176 [XgC]) 26 true,oD 30 (.pick XgE XgF (.const (.bool false))),oM 31 XgR,oG 32 (.fieldA 11 τ1) 31 true,oG 33 (.load1 .str Xhp) 31 true,oG 34 (.lenS Xhr) 31 true,oG 35 (.bin .leq Xhu (.const (.int .i64 40))) 31 true,oD 36 (.pick Xg7 XhG (.const (.bool false))),oM 37 Xie,oG 38 (.fieldA 11 τ1) 37 true,oG 39 (.load1 .str XiB) 37 true,oG 40 (.lenS Xjc) 37 true,oG 41 (.bin .rem Xjr (.const (.int .i64 4))) 37 true,oG 42 (.bin .eql XjD (.const (.int .i64 0))) 37 true,oD 43 (.pick Xib Xje (.const (.bool false))),oM 2 Xjs]) .ret)
def XSr:VFn:=⟨44,XIl,[.tmp 2]⟩
def XHK:VC:=.seq (.reg [oD 4 (.mv (.const (.bool false)))]) (.seq (.reg [oM 5 τ0,oD 6 (.bin .geq τ5 (.const (.int .i64 0))),oM 7 τ6,oG 8 (.mv τ0) 7 true,oG 9 (.mv τ1) 7 true,oG 10 (.bin .leq τ8 τ9) 7 true,oD 11 (.pick τ7 Xda (.const (.bool false))),oM 4 Xc8]) .ret)
def XRP:VFn:=⟨12,XHK,[.tmp 4]⟩
def XJH:VC:=.seq (.reg [oD 1 (.box τ0),oD 2 (.mv (.const (.bool false)))]) (.seq (.reg [oD 3 (.loadN [.bool,(.int .u64),(.int .u64)] τ1),oD 4 (.callF 59 [τ3]),oM 5 τ4,oG 6 (.fieldA 0 τ1) 5 true,oG 7 (.load1 .bool τ6) 5 true,oG 8 (.not τ7) 5 true,oD 9 (.pick τ5 τ8 (.const (.bool false))),oM 2 τ9]) .ret)
def XUs:VFn:=⟨10,XJH,[.tmp 2]⟩
def XSs:VC:=.regD [oD 24 (.fieldA 1 τ1),oD 25 (.load1 (.int .i64) Xgb),oD 26 (.bin .add (.const (.int .i64 192)) Xgz),oD 27 (.conv .u64 XgE),oD 28 (.callF 63 [XgH,(.const (.int .i64 1))]),oD 29 (.fieldA 2 τ1),oD 30 (.load1 (.int .u32) XgF),oD 31 (.conv .u64 XgR),oD 32 (.callF 63 [Xg7,(.const (.int .i64 4))]),oD 33 (.bin .add XgC Xhp),oD 34 (.fieldA 3 τ1),oD 35 (.load1 .str Xhu),oD 36 (.lenS XhG),oD 37 (.conv .u64 Xie),oD 38 (.callF 63 [Xib,(.const (.int .i64 1))]),oD 39 (.bin .add Xhr XiB),oD 40 (.fieldA 3 τ1),oD 41 (.load1 .str Xjr),oD 42 (.bin .add Xjc XjD),oD 43 (.fieldA 4 τ1),oD 44 (.load1 .str Xjs),oD 45 (.lenS Xkm),oD 46 (.conv .u64 Xkl),oD 47 (.callF 63 [XkD,(.const (.int .i64 1))]),oD 48 (.bin .add Xje XkC),oD 49 (.fieldA 4 τ1),oD 50 (.load1 .str XkA),oD 51 (.bin .add XkB Xlj),oD 52 (.fieldA 5 τ1),oD 53 (.load1 .str Xls)] [(4,6),(4,11),(4,17),(4,20),(4,26),(4,29),(8,11),(8,17),(8,20),(8,26),(8,29),(14,17),(14,20),(14,26),(14,29),(17,23),(23,26),(23,29)] [oD 54 (.bin .add Xlr XmB),oM 2 Xne,oD 3 (.mv (.const (.int .i64 0)))]
def XTb:VC:=.regD [oD 69 (.fieldA 1 τ1),oD 70 (.load1 (.int .i64) Xr8),oD 71 (.bin .add (.const (.int .i64 64)) Xsr),oD 72 (.conv .u64 Xsq),oD 73 (.callF 63 [Xsm,(.const (.int .i64 1))]),oD 74 (.fieldA 3 τ1),oD 75 (.load1 .str Xvj),oD 76 (.bin .add XtH XuX),oD 77 (.fieldA 5 τ1),oD 78 (.load1 .str Xw9)] [(4,6),(4,9)] [oD 79 (.bin .add Xxj Xxb),oM 2 XxT,oD 3 (.mv (.const (.int .i64 0)))]
def XJc:VC:=.seq (.reg [oD 1 (.box τ0),oD 2 (.mv (.const (.string ⟨⟨[]⟩⟩))),oD 3 (.mv (.const (.int .i64 0)))]) (.seq (.seq (.reg [oD 4 (.fieldA 1 τ1),oD 5 (.load1 (.int .i64) τ4),oD 6 (.bin .lss τ5 (.const (.int .i64 0))),oM 7 τ6,oG 8 (.fieldA 1 τ1) 7 false,oG 9 (.load1 (.int .i64) τ8) 7 false,oG 10 (.bin .gtr τ9 (.const (.int .i64 63))) 7 false,oD 11 (.pick τ7 (.const (.bool true)) Xda)]) (.cond Xc8 (.seq (.reg [oD 2 (.mv (.const (.string ⟨⟨[]⟩⟩))),oD 3 (.mv (.const (.int .i64 1)))]) .ret) .skip)) (.seq (.seq (.reg [oD 12 (.fieldA 0 τ1),oD 13 (.load1 .bool XdK)]) (.cond Xef (.seq (.seq (.reg [oD 14 (.fieldA 3 τ1),oD 15 (.load1 .str XeN),oD 16 (.lenS XeG),oD 17 (.bin .gtr XeW (.const (.int .i64 20))),oM 18 XeI,oG 19 (.fieldA 4 τ1) 18 false,oG 20 (.load1 .str Xe5) 18 false,oG 21 (.lenS Xfv) 18 false,oG 22 (.bin .gtr XfM (.const (.int .i64 20))) 18 false,oD 23 (.pick Xfg (.const (.bool true)) XfP)]) (.cond XfO (.seq (.reg [oD 2 (.mv (.const (.string ⟨⟨[]⟩⟩))),oD 3 (.mv (.const (.int .i64 1)))]) .ret) .skip)) (.seq XSs .ret)) .skip)) (.seq (.seq (.reg [oD 55 (.fieldA 3 τ1),oD 56 (.load1 .str XmO),oD 57 (.lenS Xnd),oD 58 (.bin .neq XmT (.const (.int .i64 8))),oM 59 XmU,oG 60 (.fieldA 4 τ1) 59 false,oG 61 (.load1 .str Xoi) 59 false,oG 62 (.bin .neq Xoj (.const (.string ⟨⟨[]⟩⟩))) 59 false,oD 63 (.pick Xno (.const (.bool true)) XoS),oM 64 Xqq,oG 65 (.fieldA 2 τ1) 64 false,oG 66 (.load1 (.int .u32) Xrb) 64 false,oG 67 (.bin .neq XqE (.const (.int .u32 0))) 64 false,oD 68 (.pick Xqr (.const (.bool true)) Xqu)]) (.cond XqA (.seq (.reg [oD 2 (.mv (.const (.string ⟨⟨[]⟩⟩))),oD 3 (.mv (.const (.int .i64 1)))]) .ret) .skip)) (.seq XTb .ret))))
def fn43:VFn:=⟨80,XJc,[.tmp 2,.tmp 3]⟩
def XH3:VC:=.seq (.reg [oD 2 (.box τ0),oD 4 (.mv (.const (.string ⟨⟨[]⟩⟩))),oD 5 (.mv (.const (.int .i64 0)))]) (.seq (.seq (.reg [oD 8 (.fieldA 0 τ2),oD 9 (.load1 (.int .i64) τ8),oD 10 (.bin .neq τ9 (.const (.int .i64 17)))]) (.cond Xda (.seq (.reg [oD 4 (.mv (.const (.string ⟨⟨[]⟩⟩))),oD 5 (.mv (.const (.int .i64 1)))]) .ret) .skip)) (.seq (.reg [oD 12 (.fieldA 7 τ2),oD 13 (.load1 (.int .i64) XdK),oD 14 (.fieldA 8 τ2),oD 15 (.load1 (.int .i64) XeN),oD 16 (.build [(.int .i64 0),(.int .i64 0)] [(0,1,Xef),(1,1,XeG)]),oD 17 (.fieldA 1 τ2),oD 18 (.loadN [.bool,(.int .u64),(.int .u64)] XeI),oD 19 (.fieldA 4 τ2),oD 20 (.loadN [.bool,(.int .u64),(.int .u64)] Xe5),oM 21 τ1,oD 22 (.callF 75 [XeW,Xfg,Xfv,XfM]),oM 11 XfP,oE 23 0 Xc8,oE 24 1 Xc8,oM 6 XfO,oM 7 Xgb]) (.seq (.seq (.reg [oM 25 τ7,oD 26 (.bin .neq Xgz (.const (.int .i64 0)))]) (.cond XgE (.seq (.reg [oM 27 τ7,oD 4 (.mv (.const (.string ⟨⟨[]⟩⟩))),oM 5 XgH]) .ret) .skip)) (.seq (.reg [oD 28 (.loadN [(.int .i64),.bool,(.int .u64),(.int .u64),.bool,(.int .u64),(.int .u64),(.int .i64),(.int .i64)] τ2),oM 29 τ6,oD 30 (.callF 61 [XgC,XgF]),oE 31 0 XgR,oE 32 1 XgR,oM 4 Xg7,oM 5 Xhp]) .ret))))
def fn44:VFn:=⟨33,XH3,[.tmp 4,.tmp 5]⟩
def XU5:VC:=.regD [oD 37 (.fieldA 0 τ4),oD 38 (.load1 (.int .i64) Xib),oD 39 (.conv .u64 XiB),oD 40 (.callF 63 [Xjc,(.const (.int .i64 2))]),oD 41 (.fieldA 1 τ4),oD 42 (.load1 (.int .i64) XjD),oD 43 (.conv .u64 Xje),oD 44 (.callF 63 [Xjs,(.const (.int .i64 2))]),oD 45 (.bin .add Xjr Xkm),oM 46 Xda,oD 47 (.conv .u64 XkD),oD 48 (.callF 63 [XkC,(.const (.int .i64 2))]),oD 49 (.bin .add Xkl XkB),oD 50 (.bin .add XkA (.const (.string ⟨⟨[0,0]⟩⟩))),oM 51 τ3] [(3,5)] [oD 52 (.bin .add Xlj Xlr),oM 12 Xls]
def XIo:VC:=.seq (.reg [oD 4 (.box τ0),oD 5 (.box τ1),oD 6 (.box τ2),oD 8 (.mv (.const (.string ⟨⟨[]⟩⟩))),oD 9 (.mv (.const (.int .i64 0)))]) (.seq (.reg [oM 14 τ3,oD 15 (.lenS XeN),oD 16 (.bin .add (.const (.int .i64 8)) XeG),oM 10 XeW]) (.seq (.reg [oD 17 (.loadN [.bool,(.int .u64),(.int .u64)] τ5),oD 18 (.loadN [.bool,(.int .u64),(.int .u64)] τ6),oM 19 Xda,oD 20 (.callF 101 [XeI,Xfg,(.const (.int .i64 17)),Xe5]),oM 11 Xfv]) (.seq (.seq (.reg [oD 21 (.fieldA 0 τ4),oD 22 (.load1 (.int .i64) XfM),oD 23 (.callF 127 [XfP]),oD 24 (.not XfO),oM 25 Xgb,oG 26 (.fieldA 1 τ4) 25 false,oG 27 (.load1 (.int .i64) XgE) 25 false,oG 28 (.callF 127 [XgH]) 25 false,oG 29 (.not XgC) 25 false,oD 30 (.pick Xgz (.const (.bool true)) XgF),oM 31 XgR,oG 32 (.mv Xc8) 31 false,oG 33 (.bin .eql Xhp (.const (.string ⟨⟨[]⟩⟩))) 31 false,oD 34 (.pick Xg7 (.const (.bool true)) Xhr)]) (.cond Xhu (.seq (.reg [oD 8 (.mv (.const (.string ⟨⟨[]⟩⟩))),oD 9 (.mv (.const (.int .i64 1)))]) .ret) .skip)) (.seq (.seq (.reg [oM 35 Xda,oD 36 (.bin .gtr XhG (.const (.int .i64 65535)))]) (.cond Xie (.seq (.reg [oD 8 (.mv (.const (.string ⟨⟨[]⟩⟩))),oD 9 (.mv (.const (.int .i64 5)))]) .ret) .skip)) (.seq XU5 (.seq (.reg [oM 53 Xc8,oM 54 XdK,oD 55 (.bin .add XmB Xne),oD 56 (.callF 65 [XmO]),oM 13 Xnd]) (.seq (.seq (.reg [oM 57 Xef,oD 58 (.bin .eql XmT (.const (.int .i64 0)))]) (.cond XmU (.reg [oD 13 (.mv (.const (.int .i64 65535)))]) .skip)) (.seq (.reg [oM 59 XdK,oM 60 Xef,oD 61 (.conv .u64 Xoi),oD 62 (.callF 64 [Xno,(.const (.int .i64 6)),(.const (.int .i64 2)),Xoj]),oM 8 XoS,oD 9 (.mv (.const (.int .i64 0)))]) .ret))))))))
def fn75:VFn:=⟨63,XIo,[.tmp 8,.tmp 9]⟩
def XIF:VC:=.seq (.reg [oD 2 (.mv (.const (.bool false)))]) (.seq (.reg [oM 3 τ0,oD 4 (.bin .geq τ3 (.const (.int .i64 0))),oM 5 τ4,oG 6 (.mv τ0) 5 true,oG 7 (.bin .leq τ6 (.const (.int .i64 65535))) 5 true,oD 8 (.pick τ5 τ7 (.const (.bool false))),oM 2 τ8]) .ret)
def XSm:VFn:=⟨9,XIF,[.tmp 2]⟩
def k38_2:VC:=.regD [oM 16 τ0,oD 17 (.nilCheck XeW),oD 18 (.fieldA 0 XeI),oD 19 (.loadN [(.int .i64),.bool,(.int .u64),(.int .u64),.bool,(.int .u64),(.int .u64),(.int .i64),(.int .i64)] Xfg),oM 20 τ1,oM 21 τ0,oD 22 (.nilCheck XfM),oD 23 (.fieldA 9 XfP),oD 24 (.load1 (.int .u32) XfO),oM 25 τ0,oD 26 (.nilCheck Xgz),oD 27 (.fieldA 10 XgE),oD 28 (.load1 (.int .u32) XgH),oD 29 (.callF 25 [Xgb,XgC]),oM 30 τ2,oD 31 (.callF 24 [Xe5,Xfv,XgF,XgR]),oE 32 0 Xg7,oE 33 1 Xg7] [(3,13)] [oM 6 Xhp,oM 7 Xhr]
def XIw:VC:=.seq (.reg [oD 6 (.mv (.const (.string ⟨⟨[]⟩⟩))),oD 7 (.mv (.const (.int .i64 0)))]) (.seq (.seq (.reg [oM 10 τ0,oD 11 (.nilCheck Xda),oD 12 (.fieldA 0 Xc8),oD 13 (.fieldA 0 XdK),oD 14 (.load1 (.int .i64) Xef),oD 15 (.bin .eql XeN (.const (.int .i64 6)))]) (.cond XeG (.seq k38_2 .ret) .skip)) (.seq (.reg [oM 35 τ0,oD 36 (.nilCheck XhG),oD 37 (.fieldA 11 Xie),oD 38 (.load1 .str Xib),oM 39 τ2,oD 40 (.build [(.bool false),(.int .i64 0),(.int .u32 0),(.string ⟨⟨[]⟩⟩),(.string ⟨⟨[]⟩⟩),(.string ⟨⟨[]⟩⟩)] [(3,1,XiB),(5,1,Xjc)]),oD 41 (.callF 43 [Xjr]),oM 34 XjD,oE 42 0 Xhu,oE 43 1 Xhu,oM 8 Xje,oM 9 Xjs]) (.seq (.reg [oM 44 τ0,oD 45 (.nilCheck Xkm),oD 46 (.fieldA 0 Xkl),oD 47 (.loadN [(.int .i64),.bool,(.int .u64),(.int .u64),.bool,(.int .u64),(.int .u64),(.int .i64),(.int .i64)] XkD),oM 48 τ8,oD 49 (.callF 44 [XkC,XkB]),oE 50 0 XkA,oE 51 1 XkA,oM 6 Xlj,oM 7 Xlr]) .ret)))
def fn38:VFn:=⟨52,XIw,[.tmp 6,.tmp 7]⟩
def k40_7:VC:=.regD [oD 19 (.fieldA 0 τ5),oD 20 (.loadN [(.int .i64),.bool,(.int .u64),(.int .u64),.bool,(.int .u64),(.int .u64),(.int .i64),(.int .i64)] Xe5),oM 21 τ0,oD 22 (.nilCheck XfM),oD 23 (.fieldA 0 XfP),oD 24 (.loadN [(.int .i64),.bool,(.int .u64),(.int .u64),.bool,(.int .u64),(.int .u64),(.int .i64),(.int .i64)] XfO),oD 25 (.callF 27 [Xgb])] [(1,6)] [oD 26 (.eqAgg true [(0,(.int .i64)),(1,.bool),(2,(.int .u64)),(3,(.int .u64)),(4,.bool),(5,(.int .u64)),(6,(.int .u64)),(7,(.int .i64)),(8,(.int .i64))] Xfv Xgz)]
def XIT:VC:=.seq (.reg [oD 4 (.mv (.const (.int .i64 0)))]) (.seq (.reg [oM 12 τ1,oD 13 (.callF 28 [XdK]),oM 11 Xef,oE 14 0 Xc8,oE 15 1 Xc8,oD 5 (.alloc [(.int .i64 0),(.bool false),(.int .u64 0),(.int .u64 0),(.bool false),(.int .u64 0),(.int .u64 0),(.int .i64 0),(.int .i64 0),(.int .i64 0),(.bool false),(.int .u32 0),(.int .u32 0),(.bool false),(.string ⟨⟨[]⟩⟩),(.int .i64 0)]),oN (.store 16 τ5 XeN),oM 6 XeG]) (.seq (.seq (.reg [oM 16 τ6,oD 17 (.bin .neq XeW (.const (.int .i64 0)))]) (.cond XeI (.seq (.reg [oM 18 τ6,oM 4 Xfg]) .ret) .skip)) (.seq (.seq k40_7 (.cond XgE (.seq (.reg [oD 4 (.mv (.const (.int .i64 16)))]) .ret) .skip)) (.seq (.seq (.reg [oD 27 (.fieldA 10 τ5),oD 28 (.load1 .bool XgH)]) (.cond XgC (.reg [oM 29 τ0,oD 30 (.fieldA 11 τ5),oD 31 (.load1 (.int .u32) XgR),oD 32 (.nilCheck XgF),oD 33 (.fieldA 10 Xhp),oN (.store 1 Xhr Xg7)]) .skip)) (.seq (.reg [oM 35 τ1,oD 36 (.callF 73 [XhG]),oM 34 Xie,oE 37 0 Xhu,oE 38 1 Xhu,oE 39 2 Xhu,oM 7 Xib,oM 8 XiB,oM 9 Xjc]) (.seq (.reg [oM 41 τ1,oM 42 τ8,oD 43 (.sliceS XjD (some Xje) none),oD 44 (.callF 74 [Xjs]),oM 40 Xkm,oE 45 0 Xjr,oE 46 1 Xjr,oD 10 (.alloc [(.bool false),(.int .i64 0),(.int .u32 0),(.string ⟨⟨[]⟩⟩),(.string ⟨⟨[]⟩⟩),(.string ⟨⟨[]⟩⟩)]),oN (.store 6 Xda Xkl),oM 6 XkD]) (.seq (.seq (.reg [oM 47 τ0,oD 48 (.nilCheck XkC),oD 49 (.fieldA 0 XkB),oD 50 (.fieldA 0 XkA),oD 51 (.load1 (.int .i64) Xlj),oD 52 (.bin .eql Xlr (.const (.int .i64 17))),oM 53 Xls,oG 54 (.mv τ6) 53 true,oG 55 (.bin .eql Xne (.const (.int .i64 0))) 53 true,oD 56 (.pick XmB XmO (.const (.bool false))),oM 57 Xnd,oG 58 (.fieldA 0 Xda) 57 true,oG 59 (.load1 .bool XmU) 57 true,oD 60 (.pick XmT Xno (.const (.bool false))),oM 61 Xoi,oG 62 (.fieldA 4 Xda) 61 true,oG 63 (.load1 .str XoS) 61 true,oG 64 (.lenS Xqq) 61 true,oG 65 (.bin .eql Xqr (.const (.int .i64 8))) 61 true,oD 66 (.pick Xoj Xrb (.const (.bool false)))]) (.cond XqE (.reg [oM 67 τ0,oD 68 (.fieldA 4 Xda),oD 69 (.load1 .str XqA),oD 70 (.nilCheck Xqu),oD 71 (.fieldA 11 Xsr),oN (.store 1 Xsq Xr8)]) .skip)) (.seq (.reg [oD 4 (.mv (.const (.int .i64 0)))]) .ret))))))))
def fn40:VFn:=⟨72,XIT,[.tmp 4]⟩
def XUF:VC:=.seq (.reg [oD 1 (.box τ0),oD 2 (.alloc [(.int .i64 0),(.bool false),(.int .u64 0),(.int .u64 0),(.bool false),(.int .u64 0),(.int .u64 0),(.int .i64 0),(.int .i64 0)])]) (.seq (.reg [oD 3 (.fieldA 0 τ1),oD 4 (.load1 (.int .i64) τ3),oD 5 (.fieldA 4 τ1),oD 6 (.loadN [.bool,(.int .u64),(.int .u64)] τ5),oD 7 (.fieldA 1 τ1),oD 8 (.loadN [.bool,(.int .u64),(.int .u64)] τ7),oD 9 (.fieldA 8 τ1),oD 10 (.load1 (.int .i64) τ9),oD 11 (.fieldA 7 τ1),oD 12 (.load1 (.int .i64) Xc8),oD 13 (.build [(.int .i64 0),(.bool false),(.int .u64 0),(.int .u64 0),(.bool false),(.int .u64 0),(.int .u64 0),(.int .i64 0),(.int .i64 0)] [(0,1,τ4),(1,3,τ6),(4,3,τ8),(7,1,Xda),(8,1,XdK)]),oN (.store 9 τ2 Xef)]) .ret)
def fn27:VFn:=⟨14,XUF,[.cell 2 [(.int .i64),.bool,(.int .u64),(.int .u64),.bool,(.int .u64),(.int .u64),(.int .i64),(.int .i64)] true]⟩
def XSz:VC:=.seq (.reg [oD 2 (.mv (.const (.int .i64 0))),oD 3 (.mv (.const (.int .i64 0))),oD 4 (.mv (.const (.int .i64 0)))]) (.seq (.reg [oM 10 τ0,oD 11 (.callF 66 [Xda]),oM 9 Xc8,oE 12 0 τ9,oE 13 1 τ9,oE 14 2 τ9,oE 15 3 τ9,oD 5 (.alloc [(.int .i64 0),(.bool false),(.int .u64 0),(.int .u64 0),(.bool false),(.int .u64 0),(.int .u64 0),(.int .i64 0),(.int .i64 0),(.int .i64 0),(.bool false),(.int .u32 0),(.int .u32 0),(.bool false),(.string ⟨⟨[]⟩⟩),(.int .i64 0)]),oN (.store 16 τ5 XdK),oM 6 Xef,oM 7 XeN,oM 8 XeG]) (.seq (.reg [oM 16 τ6,oM 17 τ7,oM 18 τ8,oM 2 XeW,oM 3 XeI,oM 4 Xfg]) .ret))
def fn73:VFn:=⟨19,XSz,[.tmp 2,.tmp 3,.tmp 4]⟩
def k7_18:VC:=.regD [oD 50 (.loadN [(.int .i64),.bool,(.int .u64),(.int .u64),.bool,(.int .u64),(.int .u64),(.int .i64),(.int .i64)] τ4),oD 51 (.callF 27 [Xlj]),oM 52 τ1,oM 53 XdK,oD 54 (.idxAL 1 Xls XmB),oD 55 (.load1 (.int .u32) Xne),oD 56 (.callF 25 [XmO,(.const (.int .u32 9))]),oD 57 (.callF 24 [Xlr,(.const (.int .i64 16)),Xnd,(.const (.string ⟨⟨[]⟩⟩))]),oM 49 XmT,oE 58 0 XkA,oE 59 1 XkA,oM 13 XmU] [(1,5)] [oM 14 Xno]
def k7_48:VC:=.seq (.reg [oD 4 (.box τ0),oD 8 (.mv (.const (.bool false)))]) (.seq (.reg [oD 21 (.fieldA 0 τ4),oN (.store 1 XfM (.const (.int .i64 6)))]) (.seq (.seq (.reg [oD 22 (.loadN [(.int .i64),.bool,(.int .u64),(.int .u64),.bool,(.int .u64),(.int .u64),(.int .i64),(.int .i64)] τ4),oD 23 (.callF 23 [XfP]),oD 24 (.not XfO),oM 25 Xgb,oG 26 (.mv τ1) 25 false,oG 27 (.lenL XgE) 25 false,oG 28 (.bin .gtr XgH (.const (.int .i64 10))) 25 false,oD 29 (.pick Xgz (.const (.bool true)) XgC),oM 30 XgF,oG 31 (.mv τ3) 30 false,oG 32 (.lenS Xg7) 30 false,oG 33 (.bin .gtr Xhp (.const (.int .i64 100))) 30 false,oD 34 (.pick XgR (.const (.bool true)) Xhr)]) (.cond Xhu (.seq (.reg [oD 35 (.callF 32 []),oM 8 XhG]) .ret) .skip)) (.seq (.reg [oD 37 (.loadN [(.int .i64),.bool,(.int .u64),(.int .u64),.bool,(.int .u64),(.int .u64),(.int .i64),(.int .i64)] τ4),oD 38 (.callF 33 [Xib]),oM 36 XiB,oE 39 0 Xie,oE 40 1 Xie,oM 9 Xjc,oM 10 Xjr]) (.seq (.seq (.reg [oM 41 Xda,oD 42 (.bin .neq XjD (.const (.int .i64 0)))]) (.cond Xje (.seq (.reg [oD 8 (.mv (.const (.bool false)))]) .ret) .skip)) (.seq (.reg [oD 11 (.mv (.const (.int .u32 0)))]) (.seq (.seq (.reg [oD 12 (.mv (.const (.int .i64 0)))]) (.block 0 (.loop (.seq (.seq (.reg [oM 43 XdK,oM 44 τ1,oD 45 (.lenL Xkm),oD 46 (.bin .lss Xjs Xkl)]) (.cond XkD .skip (.exit 0))) (.seq (.block 1 (.seq k7_18 (.seq (.seq (.reg [oM 60 XeN,oD 61 (.bin .neq Xoi (.const (.int .i64 0))),oM 62 Xoj,oG 63 (.mv τ9) 62 false,oG 64 (.mv Xef) 62 false,oG 65 (.callF 39 [Xqq,Xqr]) 62 false,oG 66 (.bin .neq Xrb (.const (.int .i64 0))) 62 false,oD 67 (.pick XoS (.const (.bool true)) XqE)]) (.cond Xqu (.seq (.reg [oD 8 (.mv (.const (.bool false)))]) .ret) .skip)) (.reg [oM 68 τ1,oM 69 XdK,oD 70 (.idxAL 1 XqA Xr8),oD 71 (.load1 (.int .u32) Xsr),oM 11 Xsq])))) (.reg [oM 47 XdK,oD 48 (.bin .add XkC (.const (.int .i64 1))),oM 12 XkB])))))) (.seq (.reg [oM 73 τ9,oM 74 τ2,oD 75 (.conv .i64 Xvj),oM 76 τ3,oD 77 (.callF 37 [XtH,XuX,Xxj]),oM 72 Xw9,oE 78 0 Xsm,oE 79 1 Xsm,oM 15 Xxb,oM 16 XxT]) (.seq (.reg [oM 81 XeG,oD 82 (.callF 28 [XBS]),oM 80 XCp,oE 83 0 XxY,oE 84 1 XxY,oD 17 (.alloc [(.int .i64 0),(.bool false),(.int .u64 0),(.int .u64 0),(.bool false),(.int .u64 0),(.int .u64 0),(.int .i64 0),(.int .i64 0),(.int .i64 0),(.bool false),(.int .u32 0),(.int .u32 0),(.bool false),(.string ⟨⟨[]⟩⟩),(.int .i64 0)]),oN (.store 16 XeI XBM),oM 18 XJi]) (.seq (.reg [oM 86 τ9,oD 87 (.callF 35 [XOQ]),oD 88 (.callF 28 [XNn]),oM 85 XJ3,oE 89 0 XHN,oE 90 1 XHN,oD 19 (.alloc [(.int .i64 0),(.bool false),(.int .u64 0),(.int .u64 0),(.bool false),(.int .u64 0),(.int .u64 0),(.int .i64 0),(.int .i64 0),(.int .i64 0),(.bool false),(.int .u32 0),(.int .u32 0),(.bool false),(.string ⟨⟨[]⟩⟩),(.int .i64 0)]),oN (.store 16 Xe5 XKO),oM 20 XPK]) (.seq (.reg [oM 91 XeW,oD 92 (.bin .eql XOi (.const (.int .i64 0))),oM 93 XMJ,oG 94 (.mv Xfg) 93 true,oG 95 (.bin .eql XQv (.const (.int .i64 0))) 93 true,oD 96 (.pick XPY XPx (.const (.bool false))),oM 97 XK5,oG 98 (.fieldA 0 XeI) 97 true,oG 99 (.loadN [(.int .i64),.bool,(.int .u64),(.int .u64),.bool,(.int .u64),(.int .u64),(.int .i64),(.int .i64)] XQG) 97 true,oG 100 (.loadN [(.int .i64),.bool,(.int .u64),(.int .u64),.bool,(.int .u64),(.int .u64),(.int .i64),(.int .i64)] τ4) 97 true,oG 101 (.eqAgg false [(0,(.int .i64)),(1,.bool),(2,(.int .u64)),(3,(.int .u64)),(4,.bool),(5,(.int .u64)),(6,(.int .u64)),(7,(.int .i64)),(8,(.int .i64))] XQI XwV) 97 true,oD 102 (.pick XJu Xwp (.const (.bool false))),oM 103 XAM,oG 104 (.fieldA 12 XeI) 103 true,oG 105 (.load1 (.int .u32) Xzd) 103 true,oG 106 (.mv Xc8) 103 true,oG 107 (.bin .eql Xzk Xzp) 103 true,oD 108 (.pick XwI XyV (.const (.bool false))),oM 109 XxC,oG 110 (.fieldA 9 XeI) 109 true,oG 111 (.load1 (.int .i64) XEs) 109 true,oG 112 (.mv τ2) 109 true,oG 113 (.conv .i64 XAR) 109 true,oG 114 (.bin .eql Xt0 XyS) 109 true,oD 115 (.pick XBj Xwy (.const (.bool false))),oM 116 XxZ,oG 117 (.mv Xfv) 116 true,oG 118 (.bin .eql Xyo (.const (.int .i64 0))) 116 true,oD 119 (.pick XyY XAN (.const (.bool false))),oM 120 Xz0,oG 121 (.fieldA 9 Xe5) 120 true,oG 122 (.load1 (.int .i64) Xy6) 120 true,oG 123 (.bin .eql Xyv (.const (.int .i64 2))) 120 true,oD 124 (.pick XBp XFW (.const (.bool false))),oM 125 XyN,oG 126 (.fieldA 0 Xe5) 125 true,oG 127 (.loadN [(.int .i64),.bool,(.int .u64),(.int .u64),.bool,(.int .u64),(.int .u64),(.int .i64),(.int .i64)] XEJ) 125 true,oG 128 (.loadN [(.int .i64),.bool,(.int .u64),(.int .u64),.bool,(.int .u64),(.int .u64),(.int .i64),(.int .i64)] τ4) 125 true,oG 129 (.eqAgg false [(0,(.int .i64)),(1,.bool),(2,(.int .u64)),(3,(.int .u64)),(4,.bool),(5,(.int .u64)),(6,(.int .u64)),(7,(.int .i64)),(8,(.int .i64))] XDg XCH) 125 true,oD 130 (.pick XE8 XB5 (.const (.bool false))),oM 131 XCn,oG 132 (.fieldA 10 Xe5) 131 true,oG 133 (.load1 .bool XCO) 131 true,oD 134 (.pick XHr XFF (.const (.bool false))),oM 135 XDN,oG 136 (.callF 32 []) 135 true,oD 137 (.pick XGZ XFA (.const (.bool false))),oM 8 Xyu]) .ret))))))))))
def fn7:VFn:=⟨138,k7_48,[.tmp 8]⟩
def k8_61:VC:=.seq (.reg [oD 3 (.box τ0),oD 6 (.mv (.const (.bool false)))]) (.seq (.reg [oD 23 (.fieldA 0 τ3),oN (.store 1 XfO (.const (.int .i64 17)))]) (.seq (.seq (.reg [oD 24 (.loadN [(.int .i64),.bool,(.int .u64),(.int .u64),.bool,(.int .u64),(.int .u64),(.int .i64),(.int .i64)] τ3),oD 25 (.callF 23 [Xgb]),oD 26 (.not Xgz),oM 27 XgE,oG 28 (.mv τ1) 27 false,oG 29 (.lenL XgC) 27 false,oG 30 (.bin .gtr XgF (.const (.int .i64 10))) 27 false,oD 31 (.pick XgH (.const (.bool true)) XgR),oM 32 Xg7,oG 33 (.mv τ2) 32 false,oG 34 (.lenS Xhr) 32 false,oG 35 (.bin .gtr Xhu (.const (.int .i64 100))) 32 false,oD 36 (.pick Xhp (.const (.bool true)) XhG)]) (.cond Xie (.seq (.reg [oD 37 (.callF 32 []),oM 6 Xib]) .ret) .skip)) (.seq (.reg [oD 39 (.loadN [(.int .i64),.bool,(.int .u64),(.int .u64),.bool,(.int .u64),(.int .u64),(.int .i64),(.int .i64)] τ3),oD 40 (.callF 33 [Xjc]),oM 38 Xjr,oE 41 0 XiB,oE 42 1 XiB,oM 7 XjD,oM 8 Xje]) (.seq (.seq (.reg [oM 43 τ8,oD 44 (.bin .neq Xjs (.const (.int .i64 0)))]) (.cond Xkm (.seq (.reg [oD 6 (.mv (.const (.bool false)))]) .ret) .skip)) (.seq (.reg [oD 9 (.mv (.const (.string ⟨⟨[0,0,0,0,0,0,0,0]⟩⟩)))]) (.seq (.seq (.reg [oD 10 (.mv (.const (.int .i64 0)))]) (.block 0 (.loop (.seq (.seq (.reg [oM 45 Xda,oM 46 τ1,oD 47 (.lenL XkD),oD 48 (.bin .lss Xkl XkC)]) (.cond XkB .skip (.exit 0))) (.seq (.block 1 (.seq (.seq (.reg [oM 51 τ1,oM 52 Xda,oD 53 (.idxAL 1 Xlr Xls),oD 54 (.load1 .str XmB),oD 55 (.lenS Xne),oD 56 (.bin .gtr XmO (.const (.int .i64 20)))]) (.cond Xnd (.seq (.reg [oD 57 (.callF 32 []),oM 6 XmT]) .ret) .skip)) (.seq (.reg [oM 59 τ1,oM 60 Xda,oD 61 (.idxAL 1 Xno Xoi),oD 62 (.load1 .str Xoj),oM 63 τ2,oD 64 (.build [(.bool false),(.int .i64 0),(.int .u32 0),(.string ⟨⟨[]⟩⟩),(.string ⟨⟨[]⟩⟩),(.string ⟨⟨[]⟩⟩)] [(0,1,(.const (.bool true))),(2,1,(.const (.int .u32 1))),(3,1,(.const (.string ⟨⟨[97,98]⟩⟩))),(4,1,XoS),(5,1,Xqq)]),oD 65 (.callF 43 [Xqr]),oM 58 Xrb,oE 66 0 XmU,oE 67 1 XmU,oM 11 XqE,oM 12 Xqu]) (.seq (.reg [oD 69 (.loadN [(.int .i64),.bool,(.int .u64),(.int .u64),.bool,(.int .u64),(.int .u64),(.int .i64),(.int .i64)] τ3),oD 70 (.callF 27 [Xr8]),oM 71 Xc8,oD 72 (.callF 44 [Xsr,Xsq]),oM 68 Xsm,oE 73 0 XqA,oE 74 1 XqA,oM 13 XtH,oM 14 Xvj]) (.seq (.seq (.reg [oM 75 XdK,oD 76 (.bin .neq XuX (.const (.int .i64 0))),oM 77 Xxj,oG 78 (.mv XeN) 77 false,oG 79 (.bin .neq Xxb (.const (.int .i64 0))) 77 false,oD 80 (.pick Xw9 (.const (.bool true)) XxT),oM 81 XxY,oG 82 (.mv τ7) 81 false,oG 83 (.mv Xef) 81 false,oG 84 (.callF 39 [XCp,XBM]) 81 false,oG 85 (.bin .neq XJi (.const (.int .i64 0))) 81 false,oD 86 (.pick XBS (.const (.bool true)) XHN)]) (.cond XOQ (.seq (.reg [oD 6 (.mv (.const (.bool false)))]) .ret) .skip)) (.seq (.reg [oM 87 τ1,oM 88 Xda,oD 89 (.idxAL 1 XNn XJ3),oD 90 (.load1 .str XKO),oD 91 (.lenS XPK),oD 92 (.bin .eql XOi (.const (.int .i64 8)))]) (.cond XMJ (.reg [oM 93 τ1,oM 94 Xda,oD 95 (.idxAL 1 XPY XQv),oD 96 (.load1 .str XPx),oM 9 XK5]) .skip))))))) (.reg [oM 49 Xda,oD 50 (.bin .add XkA (.const (.int .i64 1))),oM 10 Xlj])))))) (.seq (.reg [oM 98 τ7,oM 99 τ2,oD 100 (.callF 37 [XQG,(.const (.int .i64 0)),XQI]),oM 97 XwV,oE 101 0 XJu,oE 102 1 XJu,oM 15 Xwp,oM 16 XAM]) (.seq (.reg [oM 104 XeG,oD 105 (.callF 28 [Xzd]),oM 103 Xzk,oE 106 0 XwI,oE 107 1 XwI,oD 17 (.alloc [(.int .i64 0),(.bool false),(.int .u64 0),(.int .u64 0),(.bool false),(.int .u64 0),(.int .u64 0),(.int .i64 0),(.int .i64 0),(.int .i64 0),(.bool false),(.int .u32 0),(.int .u32 0),(.bool false),(.string ⟨⟨[]⟩⟩),(.int .i64 0)]),oN (.store 16 XeI Xzp),oM 18 XyV]) (.seq (.reg [oM 109 τ7,oD 110 (.callF 35 [XBj]),oD 111 (.callF 28 [XEs]),oM 108 Xt0,oE 112 0 XxC,oE 113 1 XxC,oD 19 (.alloc [(.int .i64 0),(.bool false),(.int .u64 0),(.int .u64 0),(.bool false),(.int .u64 0),(.int .u64 0),(.int .i64 0),(.int .i64 0),(.int .i64 0),(.bool false),(.int .u32 0),(.int .u32 0),(.bool false),(.string ⟨⟨[]⟩⟩),(.int .i64 0)]),oN (.store 16 Xe5 XAR),oM 20 XyS]) (.seq (.reg [oM 115 τ7,oD 116 (.callF 42 [XxZ]),oM 114 XyY,oE 117 0 Xwy,oE 118 1 Xwy,oM 21 Xyo,oM 22 XAN]) (.seq (.reg [oM 119 XeW,oD 120 (.bin .eql Xz0 (.const (.int .i64 0))),oM 121 XBp,oG 122 (.mv Xfg) 121 true,oG 123 (.bin .eql Xyv (.const (.int .i64 0))) 121 true,oD 124 (.pick Xy6 XFW (.const (.bool false))),oM 125 XyN,oG 126 (.fieldA 0 XeI) 125 true,oG 127 (.loadN [(.int .i64),.bool,(.int .u64),(.int .u64),.bool,(.int .u64),(.int .u64),(.int .i64),(.int .i64)] XEJ) 125 true,oG 128 (.loadN [(.int .i64),.bool,(.int .u64),(.int .u64),.bool,(.int .u64),(.int .u64),(.int .i64),(.int .i64)] τ3) 125 true,oG 129 (.eqAgg false [(0,(.int .i64)),(1,.bool),(2,(.int .u64)),(3,(.int .u64)),(4,.bool),(5,(.int .u64)),(6,(.int .u64)),(7,(.int .i64)),(8,(.int .i64))] XDg XCH) 125 true,oD 130 (.pick XE8 XB5 (.const (.bool false))),oM 131 XCn,oG 132 (.fieldA 13 XeI) 131 true,oG 133 (.load1 .bool XCO) 131 true,oG 134 (.not XFF) 131 true,oD 135 (.pick XHr XDN (.const (.bool false))),oM 136 XGZ,oG 137 (.fieldA 14 XeI) 136 true,oG 138 (.load1 .str Xyu) 136 true,oG 139 (.mv τ9) 136 true,oG 140 (.bin .eql XOd XMV) 136 true,oD 141 (.pick XFA XOY (.const (.bool false))),oM 142 XL9,oG 143 (.mv XfP) 142 true,oG 144 (.mv τ9) 142 true,oG 145 (.bin .eql XNY XOw) 142 true,oD 146 (.pick XDd XOJ (.const (.bool false))),oM 147 XLq,oG 148 (.mv XeG) 147 true,oG 149 (.lenS XLH) 147 true,oG 150 (.mv τ2) 147 true,oG 151 (.lenS XLL) 147 true,oG 152 (.bin .geq XNq XMo) 147 true,oD 153 (.pick XN4 XNJ (.const (.bool false))),oM 154 XLs,oG 155 (.mv XeG) 154 true,oG 156 (.mv XeG) 154 true,oG 157 (.lenS XNg) 154 true,oG 158 (.mv τ2) 154 true,oG 159 (.lenS XQ5) 154 true,oG 160 (.bin .sub XSN XRG) 154 true,oG 161 (.sliceS XKw (some XUC) none) 154 true,oG 162 (.mv τ2) 154 true,oG 163 (.bin .eql τ161 τ162) 154 true,oD 164 (.pick XKT τ163 (.const (.bool false))),oM 165 τ164,oG 166 (.mv Xfv) 165 true,oG 167 (.bin .eql τ166 (.const (.int .i64 0))) 165 true,oD 168 (.pick τ165 τ167 (.const (.bool false))),oM 169 τ168,oG 170 (.fieldA 13 Xe5) 169 true,oG 171 (.load1 .bool τ170) 169 true,oD 172 (.pick τ169 τ171 (.const (.bool false))),oM 173 τ172,oG 174 (.fieldA 0 Xe5) 173 true,oG 175 (.loadN [(.int .i64),.bool,(.int .u64),(.int .u64),.bool,(.int .u64),(.int .u64),(.int .i64),(.int .i64)] τ174) 173 true,oG 176 (.loadN [(.int .i64),.bool,(.int .u64),(.int .u64),.bool,(.int .u64),(.int .u64),(.int .i64),(.int .i64)] τ3) 173 true,oG 177 (.eqAgg false [(0,(.int .i64)),(1,.bool),(2,(.int .u64)),(3,(.int .u64)),(4,.bool),(5,(.int .u64)),(6,(.int .u64)),(7,(.int .i64)),(8,(.int .i64))] τ175 τ176) 173 true,oD 178 (.pick τ173 τ177 (.const (.bool false))),oM 179 τ178,oG 180 (.fieldA 14 Xe5) 179 true,oG 181 (.load1 .str τ180) 179 true,oG 182 (.lenS τ181) 179 true,oG 183 (.bin .eql τ182 (.const (.int .i64 8))) 179 true,oD 184 (.pick τ179 τ183 (.const (.bool false))),oM 185 τ184,oG 186 (.callF 32 []) 185 true,oD 187 (.pick τ185 τ186 (.const (.bool false))),oM 6 τ187]) .ret)))))))))))
def fn8:VFn:=⟨188,k8_61,[.tmp 6]⟩
theorem XGG:(Tryz.prog.funcs[141]?).bind (XaF Tryz.prog)=some XVj:=by kernel_rfl
theorem XLR:(Tryz.prog.funcs[35]?).bind (XaF Tryz.prog)=some fn35:=by kernel_rfl
theorem XPl:(Tryz.prog.funcs[72]?).bind (XaF Tryz.prog)=some fn72:=by kernel_rfl
theorem XL0:(Tryz.prog.funcs[28]?).bind (XaF Tryz.prog)=some fn28:=by kernel_rfl
theorem XP4:(Tryz.prog.funcs[66]?).bind (XaF Tryz.prog)=some fn66:=by kernel_rfl
theorem XFC:(Tryz.prog.funcs[105]?).bind (XaF Tryz.prog)=some XS8:=by kernel_rfl
theorem XEQ:(Tryz.prog.funcs[152]?).bind (XaF Tryz.prog)=some XWu:=by kernel_rfl
theorem XL3:(Tryz.prog.funcs[88]?).bind (XaF Tryz.prog)=some fn88:=by kernel_rfl
theorem XMg:(Tryz.prog.funcs[87]?).bind (XaF Tryz.prog)=some fn87:=by kernel_rfl
theorem XMf:(Tryz.prog.funcs[86]?).bind (XaF Tryz.prog)=some fn86:=by kernel_rfl
theorem XCr:(Tryz.prog.funcs[136]?).bind (XaF Tryz.prog)=some XRS:=by kernel_rfl
theorem XEP:(Tryz.prog.funcs[135]?).bind (XaF Tryz.prog)=some XSL:=by kernel_rfl
theorem XDQ:(Tryz.prog.funcs[177]?).bind (XaF Tryz.prog)=some XSF:=by kernel_rfl
theorem XE5:(Tryz.prog.funcs[153]?).bind (XaF Tryz.prog)=some XSq:=by kernel_rfl
theorem XEv:(Tryz.prog.funcs[106]?).bind (XaF Tryz.prog)=some XVR:=by kernel_rfl
theorem XEW:(Tryz.prog.funcs[101]?).bind (XaF Tryz.prog)=some XRk:=by kernel_rfl
theorem XMP:(Tryz.prog.funcs[59]?).bind (XaF Tryz.prog)=some fn59:=by kernel_rfl
theorem XFS:(Tryz.prog.funcs[146]?).bind (XaF Tryz.prog)=some XSx:=by kernel_rfl
theorem XLX:(Tryz.prog.funcs[63]?).bind (XaF Tryz.prog)=some fn63:=by kernel_rfl
theorem XEO:(Tryz.prog.funcs[147]?).bind (XaF Tryz.prog)=some XRw:=by kernel_rfl
theorem XFU:(Tryz.prog.funcs[154]?).bind (XaF Tryz.prog)=some XWy:=by kernel_rfl
theorem XCu:(Tryz.prog.funcs[107]?).bind (XaF Tryz.prog)=some XVg:=by kernel_rfl
theorem XG3:(Tryz.prog.funcs[108]?).bind (XaF Tryz.prog)=some XTx:=by kernel_rfl
theorem XOW:(Tryz.prog.funcs[74]?).bind (XaF Tryz.prog)=some fn74:=by kernel_rfl
theorem XED:(Tryz.prog.funcs[126]?).bind (XaF Tryz.prog)=some XQV:=by kernel_rfl
theorem XKg:(Tryz.prog.funcs[41]?).bind (XaF Tryz.prog)=some fn41:=by kernel_rfl
theorem XKu:(Tryz.prog.funcs[37]?).bind (XaF Tryz.prog)=some fn37:=by kernel_rfl
theorem XNE:(Tryz.prog.funcs[42]?).bind (XaF Tryz.prog)=some fn42:=by kernel_rfl
theorem XP5:(Tryz.prog.funcs[39]?).bind (XaF Tryz.prog)=some fn39:=by kernel_rfl
theorem XPc:(Tryz.prog.funcs[47]?).bind (XaF Tryz.prog)=some fn47:=by kernel_rfl
theorem XPX:(Tryz.prog.funcs[53]?).bind (XaF Tryz.prog)=some fn53:=by kernel_rfl
theorem XMs:(Tryz.prog.funcs[34]?).bind (XaF Tryz.prog)=some fn34:=by kernel_rfl
theorem XQh:(Tryz.prog.funcs[23]?).bind (XaF Tryz.prog)=some fn23:=by kernel_rfl
theorem XQF:(Tryz.prog.funcs[58]?).bind (XaF Tryz.prog)=some fn58:=by kernel_rfl
theorem XKs:(Tryz.prog.funcs[71]?).bind (XaF Tryz.prog)=some fn71:=by kernel_rfl
theorem XKA:(Tryz.prog.funcs[36]?).bind (XaF Tryz.prog)=some fn36:=by kernel_rfl
theorem XNQ:(Tryz.prog.funcs[25]?).bind (XaF Tryz.prog)=some fn25:=by kernel_rfl
theorem XQz:(Tryz.prog.funcs[62]?).bind (XaF Tryz.prog)=some fn62:=by kernel_rfl
theorem XO6:(Tryz.prog.funcs[24]?).bind (XaF Tryz.prog)=some fn24:=by kernel_rfl
theorem XPs:(Tryz.prog.funcs[60]?).bind (XaF Tryz.prog)=some fn60:=by kernel_rfl
theorem XEZ:(Tryz.prog.funcs[102]?).bind (XaF Tryz.prog)=some XUz:=by kernel_rfl
theorem XEw:(Tryz.prog.funcs[148]?).bind (XaF Tryz.prog)=some XSj:=by kernel_rfl
theorem XMz:(Tryz.prog.funcs[65]?).bind (XaF Tryz.prog)=some fn65:=by kernel_rfl
theorem XPB:(Tryz.prog.funcs[64]?).bind (XaF Tryz.prog)=some fn64:=by kernel_rfl
theorem XOq:(Tryz.prog.funcs[61]?).bind (XaF Tryz.prog)=some fn61:=by kernel_rfl
theorem XEl:(Tryz.prog.funcs[103]?).bind (XaF Tryz.prog)=some XTP:=by kernel_rfl
theorem XB1:(Tryz.prog.funcs[149]?).bind (XaF Tryz.prog)=some XRc:=by kernel_rfl
theorem XDz:(Tryz.prog.funcs[174]?).bind (XaF Tryz.prog)=some XU0:=by kernel_rfl
theorem XDX:(Tryz.prog.funcs[150]?).bind (XaF Tryz.prog)=some XWh:=by kernel_rfl
theorem XF2:(Tryz.prog.funcs[104]?).bind (XaF Tryz.prog)=some XW5:=by kernel_rfl
theorem XG9:(Tryz.prog.funcs[151]?).bind (XaF Tryz.prog)=some XSr:=by kernel_rfl
theorem XE9:(Tryz.prog.funcs[175]?).bind (XaF Tryz.prog)=some XRP:=by kernel_rfl
theorem XEa:(Tryz.prog.funcs[176]?).bind (XaF Tryz.prog)=some XUs:=by kernel_rfl
theorem XOC:(Tryz.prog.funcs[43]?).bind (XaF Tryz.prog)=some fn43:=by kernel_rfl
theorem XQe:(Tryz.prog.funcs[44]?).bind (XaF Tryz.prog)=some fn44:=by kernel_rfl
theorem XPp:(Tryz.prog.funcs[75]?).bind (XaF Tryz.prog)=some fn75:=by kernel_rfl
theorem XDh:(Tryz.prog.funcs[127]?).bind (XaF Tryz.prog)=some XSm:=by kernel_rfl
theorem XPi:(Tryz.prog.funcs[38]?).bind (XaF Tryz.prog)=some fn38:=by kernel_rfl
theorem XPT:(Tryz.prog.funcs[40]?).bind (XaF Tryz.prog)=some fn40:=by kernel_rfl
theorem XMQ:(Tryz.prog.funcs[27]?).bind (XaF Tryz.prog)=some fn27:=by kernel_rfl
theorem XPR:(Tryz.prog.funcs[73]?).bind (XaF Tryz.prog)=some fn73:=by kernel_rfl
theorem XVQ:(Tryz.prog.funcs[7]?).bind (XaF Tryz.prog)=some fn7:=by kernel_rfl
theorem XWp:(Tryz.prog.funcs[8]?).bind (XaF Tryz.prog)=some fn8:=by kernel_rfl
def tab:List (Nat×VFn):=[(6,fn6),(31,fn31),(32,fn32),(33,fn33),(67,fn67),(109,XVu),(110,XWf),(68,fn68),(111,XUq),(155,XTu),(156,XS9),(112,XRI),(157,XTR),(113,XRx),(158,XQ6),(159,XUQ),(114,XT9),(115,XVL),(116,XVX),(69,fn69),(117,XSe),(119,XU2),(97,fn97),(118,XSC),(160,XVE),(180,XUV),(195,XRv),(196,XRX),(181,XV4),(197,XRV),(182,XW6),(183,XUy),(130,XUU),(164,XWS),(189,XR3),(165,XS5),(98,fn98),(161,XTV),(184,XUw),(198,XSQ),(185,XTl),(199,XUJ),(203,XTK),(204,XRl),(120,XSd),(121,XSV),(70,fn70),(122,XRZ),(123,XWE),(162,XVx),(186,XUm),(187,XSu),(163,XUW),(188,XVp),(200,XSX),(124,XW9),(125,XUb),(93,fn93),(81,fn81),(131,XSp),(166,XRC),(190,XTw),(77,fn77),(78,fn78),(129,XRh),(138,XT7),(95,fn95),(80,fn80),(201,XS3),(202,XRa),(191,XR5),(132,XVJ),(167,XT5),(192,XWB),(169,XVr),(170,XUG),(193,XWk),(134,XVe),(133,XQW),(168,XV8),(94,fn94),(139,XWZ),(140,XVn),(141,XVj),(35,fn35),(72,fn72),(28,fn28),(66,fn66),(105,XS8),(152,XWu),(88,fn88),(87,fn87),(86,fn86),(136,XRS),(135,XSL),(177,XSF),(153,XSq),(106,XVR),(101,XRk),(59,fn59),(146,XSx),(63,fn63),(147,XRw),(154,XWy),(107,XVg),(108,XTx),(74,fn74),(126,XQV),(41,fn41),(37,fn37),(42,fn42),(39,fn39),(47,fn47),(53,fn53),(34,fn34),(23,fn23),(58,fn58),(71,fn71),(36,fn36),(25,fn25),(62,fn62),(24,fn24),(60,fn60),(102,XUz),(148,XSj),(65,fn65),(64,fn64),(61,fn61),(103,XTP),(149,XRc),(174,XU0),(150,XWh),(104,XW5),(151,XSr),(175,XRP),(176,XUs),(43,fn43),(44,fn44),(75,fn75),(127,XSm),(38,fn38),(40,fn40),(27,fn27),(73,fn73),(7,fn7),(8,fn8)]
theorem XaE:Xl6 Tryz.prog (XaI tab):=Xl6.XaK ⟨XRo,XLy,XQA,XMv,XNO,XGl,XEp,XLt,XF0,XGO,XF8,XCj,XEe,XGR,XF5,XDY,XCw,XDM,XCg,XJ5,XCv,XFJ,XKI,XHf,XD3,XCM,XGo,XDP,XDn,XFB,XE4,XDS,XCb,XEB,XFi,XC0,XPZ,XHw,XGN,XGU,XDu,XHE,XEr,XDo,XEh,XCC,XKG,XFt,XHz,XHn,XEX,XG2,XHe,XEV,XDq,XBZ,XF6,XMA,XOF,XGc,XFN,XHb,XLg,XK7,XDU,XEY,XKc,XKK,XEk,XFu,XDa,XG8,XHi,XC9,XHt,XCT,XDO,XFh,XGm,XCB,XND,XGQ,XGT,XGG,XLR,XPl,XL0,XP4,XFC,XEQ,XL3,XMg,XMf,XCr,XEP,XDQ,XE5,XEv,XEW,XMP,XFS,XLX,XEO,XFU,XCu,XG3,XOW,XED,XKg,XKu,XNE,XP5,XPc,XPX,XMs,XQh,XQF,XKs,XKA,XNQ,XQz,XO6,XPs,XEZ,XEw,XMz,XPB,XOq,XEl,XB1,XDz,XDX,XF2,XG9,XE9,XEa,XOC,XQe,XPp,XDh,XPi,XPT,XMQ,XPR,XVQ,XWp,trivial⟩
end Go.Vm.Code
namespace Go.Vm
open Go Go.RowKit
theorem XW7 {h h':Hp} {s:Nat→Option Nat} {b n:Nat} {ws:List Wd} {c c' x:List Value} {cs:List (Option (List Value))} {ob ob':XbY} (e1:XaI h b=some ob) (e2:ob.wcs=some x) (e3:Xfq.renL s c=some c') (e4:Nat.beq c'.length n=true) (e5:Nat.beq x.length n=true) (e6:ob.wr c'=some ob') (t:Xd5 (XgN h b ob') s ws cs=some h') :
 Xd5 h s (.win b 0 n true::ws) (some c::cs)=some h':=by
 have h4:=Nat.eq_of_beq_eq_true e4
 have h5:=Nat.eq_of_beq_eq_true e5
 refine XHY e1 e2 e3 ⟨h4,by omega⟩ ?_ e6 t
 apply List.ext_getElem?
 intro k
 rw [XkR _ _ _ _ (by omega)]
 by_cases hk:k<n
 ·rw [if_pos (by omega)];simp
 ·rw [if_neg (by omega),List.getElem?_eq_none (by omega),List.getElem?_eq_none (by omega)]
theorem XUk {h:Hp} {k b n:Nat} {ob:XbY} {cs:List Value} (ho:XaI h b=some ob) (hc:ob.wcs=some cs) (hn:Nat.beq cs.length n=true) (hf:Xbt.flatL cs=true) :
 Xdi h k (.pt n) (.pointer (some ⟨b,0,none⟩))=some (.pointer (some ⟨k,0,none⟩),[some (.cells cs)]):=
 XIp ho hc (by have:=Nat.eq_of_beq_eq_true hn;omega) (by have:=Nat.eq_of_beq_eq_true hn;rw [List.drop_zero];exact List.take_of_length_le (by omega)) hf
end Go.Vm
namespace Go.Vm.Code
open Go Go.Vm Go.Proofs
set_option maxRecDepth 100000
set_option maxHeartbeats 4000000
set_option linter.unusedVariables false
@[ext] structure Xab where
 V6:Bool
 Hi:Int
 Lo:Int
 deriving DecidableEq
@[ext] structure Xah where
 Proto:Int
 Src:Xab
 Dst:Xab
 SPort:Int
 DPort:Int
 deriving DecidableEq
@[ext] structure Xcd where
 Kind:Int
 Flags:Int
 S:List UInt8
 N:Int
 deriving DecidableEq
@[ext] structure Xbg where
 hello:Option Nat
 say:Option Nat
 hear:Option Nat
 deriving DecidableEq
@[ext] structure Xaa where
 t:Xah
 v_:Xbg
 clock:Int
 echo:Int
 id_:List UInt8
 deriving DecidableEq
@[ext] structure XaC where
 SPort:Int
 DPort:Int
 Seq:Int
 Ack:Int
 Flags:Int
 Window:Int
 Urgent:Int
 Options:List UInt8
 deriving DecidableEq
@[ext] structure Xay where
 Class:Int
 Label:Int
 Next:Int
 Hop:Int
 Src:Xab
 Dst:Xab
 deriving DecidableEq
@[ext] structure Xan where
 Class:Int
 Mark:Int
 Whole:Bool
 TTL:Int
 Proto:Int
 Src:Xab
 Dst:Xab
 Options:List UInt8
 deriving DecidableEq
@[ext] structure XaD where
 Long:Bool
 Bits:Int
 Version:Int
 DCID:List UInt8
 SCID:List UInt8
 Rest:List UInt8
 deriving DecidableEq
@[ext] structure XaR where
 SPort:Int
 DPort:Int
 deriving DecidableEq
@[ext] structure Xal where
 Tuple:Xah
 Flags:Int
 Stamped:Bool
 Val:Int
 Echo:Int
 Long:Bool
 CID:List UInt8
 Size:Int
 deriving DecidableEq
@[ext] structure XeE where
 src:Xab
 dst:Xab
 proto:Int
 size:Int
 body:List UInt8
 deriving DecidableEq
@[ext] structure Xc4 where
 Kind:Int
 Data:List UInt8
 At:Int
 deriving DecidableEq
@[ext] structure XaS where
 src:Xab
 dst:Xab
 proto:Int
 body:List UInt8
 deriving DecidableEq
@[ext] structure Xag where
 s:List UInt8
 made:Bool
 bad:Bool
 deriving DecidableEq
@[ext] structure XdX where
 Reader:Xag
 deriving DecidableEq
@[ext] structure Xdu where
 Kind:Int
 Data:List UInt8
 deriving DecidableEq
@[ext] structure Xar where
 T:Xah
 Clock:Int
 Echo:Int
 ID:List UInt8
 deriving DecidableEq
def XgT (x:Xab):List Value:=[.bool x.V6,.int .u64 x.Hi,.int .u64 x.Lo]
theorem Xe7 (x:Xab):(XgT x).length=3:=rfl
theorem XbP (x:Xab):Xbt.flatL (XgT x)=true:=rfl
theorem XdS (x:Xab):(XgT x).all XiF=true:=rfl
@[simp] theorem XBU (xs:List Xab):(vT XgT xs).length=xs.length*3:=Xhn Xe7 xs
@[simp] theorem XBP (xs:List Xab) (n:Nat):(vT XgT xs).take (n*3)=vT XgT (xs.take n):=Xgo Xe7 xs n
@[simp] theorem XBA (xs:List Xab) (n:Nat):(vT XgT xs).drop (n*3)=vT XgT (xs.drop n):=Xgs Xe7 xs n
def Xn8:List Value→Option Xab
 | [.bool a1,.int .u64 a2,.int .u64 a3]=>some (Xab.mk a1 a2 a3)
 | _=>none
theorem XkW (cs:List Value) (x:Xab) (h:Xn8 cs=some x):cs=XgT x:=by
 unfold Xn8 at h;split at h
 ·cases h;rfl
 ·cases h
def Xb5:Value→Option Xab
 | .agg ⟨cs⟩=>Xn8 cs
 | _=>none
theorem XrG (v:Value) (x:Xab) (h:Xb5 v=some x):v=.agg ⟨XgT x⟩:=by
 unfold Xb5 at h;split at h
 ·rw [XkW _ _ h]
 ·cases h
theorem XbO (x:Xab):Xb5 (.agg ⟨XgT x⟩)=some x:=rfl
def Xf8 (x:Xah):List Value:=[.int .i64 x.Proto,.bool x.Src.V6,.int .u64 x.Src.Hi,.int .u64 x.Src.Lo,.bool x.Dst.V6,.int .u64 x.Dst.Hi,.int .u64 x.Dst.Lo,.int .i64 x.SPort,.int .i64 x.DPort]
theorem Xcx (x:Xah):(Xf8 x).length=9:=rfl
theorem XbD (x:Xah):Xbt.flatL (Xf8 x)=true:=rfl
theorem Xdk (x:Xah):(Xf8 x).all XiF=true:=rfl
@[simp] theorem XyD (xs:List Xah):(vT Xf8 xs).length=xs.length*9:=Xhn Xcx xs
@[simp] theorem XAy (xs:List Xah) (n:Nat):(vT Xf8 xs).take (n*9)=vT Xf8 (xs.take n):=Xgo Xcx xs n
@[simp] theorem Xyz (xs:List Xah) (n:Nat):(vT Xf8 xs).drop (n*9)=vT Xf8 (xs.drop n):=Xgs Xcx xs n
def Xnc:List Value→Option Xah
 | [.int .i64 a1,.bool a2,.int .u64 a3,.int .u64 a4,.bool a5,.int .u64 a6,.int .u64 a7,.int .i64 a8,.int .i64 a9]=>some (Xah.mk a1 (Xab.mk a2 a3 a4) (Xab.mk a5 a6 a7) a8 a9)
 | _=>none
theorem Xkv (cs:List Value) (x:Xah) (h:Xnc cs=some x):cs=Xf8 x:=by
 unfold Xnc at h;split at h
 ·cases h;rfl
 ·cases h
def Xd0:Value→Option Xah
 | .agg ⟨cs⟩=>Xnc cs
 | _=>none
theorem Xqv (v:Value) (x:Xah) (h:Xd0 v=some x):v=.agg ⟨Xf8 x⟩:=by
 unfold Xd0 at h;split at h
 ·rw [Xkv _ _ h]
 ·cases h
theorem Xem (x:Xah):Xd0 (.agg ⟨Xf8 x⟩)=some x:=rfl
def XeF (x:Xcd):List Value:=[.int .i64 x.Kind,.int .i64 x.Flags,.string ⟨⟨x.S⟩⟩,.int .u32 x.N]
theorem Xb2 (x:Xcd):(XeF x).length=4:=rfl
theorem XbU (x:Xcd):Xbt.flatL (XeF x)=true:=rfl
theorem XdZ (x:Xcd):(XeF x).all XiF=true:=rfl
@[simp] theorem XBH (xs:List Xcd):(vT XeF xs).length=xs.length*4:=Xhn Xb2 xs
@[simp] theorem XBz (xs:List Xcd) (n:Nat):(vT XeF xs).take (n*4)=vT XeF (xs.take n):=Xgo Xb2 xs n
@[simp] theorem XBG (xs:List Xcd) (n:Nat):(vT XeF xs).drop (n*4)=vT XeF (xs.drop n):=Xgs Xb2 xs n
def XjP:List Value→Option Xcd
 | [.int .i64 a1,.int .i64 a2,.string ⟨⟨a3⟩⟩,.int .u32 a4]=>some (Xcd.mk a1 a2 a3 a4)
 | _=>none
theorem Xk5 (cs:List Value) (x:Xcd) (h:XjP cs=some x):cs=XeF x:=by
 unfold XjP at h;split at h
 ·cases h;rfl
 ·cases h
theorem Xtr (x:Xcd):XjP (XeF x)=some x:=rfl
def XqT:Value→Option Xcd
 | .agg ⟨cs⟩=>XjP cs
 | _=>none
theorem Xrr (v:Value) (x:Xcd) (h:XqT v=some x):v=.agg ⟨XeF x⟩:=by
 unfold XqT at h;split at h
 ·rw [Xk5 _ _ h]
 ·cases h
def XdV (x:Xbg):List Value:=[fvV x.hello,fvV x.say,fvV x.hear]
theorem Xdy (x:Xbg):(XdV x).length=3:=rfl
theorem Xa2 (x:Xbg):Xbt.flatL (XdV x)=true:=by simp only [XdV,Xbt.flatL,Xee];rfl
theorem Xcs (x:Xbg):(XdV x).all XiF=true:=by simp only [XdV,List.all_cons,List.all_nil,XBk];rfl
@[simp] theorem XuV (xs:List Xbg):(vT XdV xs).length=xs.length*3:=Xhn Xdy xs
@[simp] theorem XvV (xs:List Xbg) (n:Nat):(vT XdV xs).take (n*3)=vT XdV (xs.take n):=Xgo Xdy xs n
@[simp] theorem XvK (xs:List Xbg) (n:Nat):(vT XdV xs).drop (n*3)=vT XdV (xs.drop n):=Xgs Xdy xs n
def Xkp:List Value→Option Xbg
 | [va1,va2,va3]=>(asF va1).bind fun a1=>(asF va2).bind fun a2=>(asF va3).bind fun a3=>some (Xbg.mk a1 a2 a3)
 | _=>none
theorem XiP (cs:List Value) (x:Xbg) (h:Xkp cs=some x):cs=XdV x:=by
 unfold Xkp at h;split at h
 ·simp only [Option.bind_eq_some_iff] at h
  obtain ⟨a1,ha1,a2,ha2,a3,ha3,h⟩:=h
  cases h;rw [Xqc _ _ ha1,Xqc _ _ ha2,Xqc _ _ ha3];rfl
 ·cases h
def XmN:Value→Option Xbg
 | .agg ⟨cs⟩=>Xkp cs
 | _=>none
theorem Xn2 (v:Value) (x:Xbg) (h:XmN v=some x):v=.agg ⟨XdV x⟩:=by
 unfold XmN at h;split at h
 ·rw [XiP _ _ h]
 ·cases h
def XcO (x:Xaa):List Value:=[.int .i64 x.t.Proto,.bool x.t.Src.V6,.int .u64 x.t.Src.Hi,.int .u64 x.t.Src.Lo,.bool x.t.Dst.V6,.int .u64 x.t.Dst.Hi,.int .u64 x.t.Dst.Lo,.int .i64 x.t.SPort,.int .i64 x.t.DPort,fvV x.v_.hello,fvV x.v_.say,fvV x.v_.hear,.int .u32 x.clock,.int .u32 x.echo,.string ⟨⟨x.id_⟩⟩]
theorem Xa1 (x:Xaa):(XcO x).length=15:=rfl
theorem XaU (x:Xaa):Xbt.flatL (XcO x)=true:=by simp only [XcO,Xbt.flatL,Xee];rfl
theorem Xce (x:Xaa):(XcO x).all XiF=true:=by simp only [XcO,List.all_cons,List.all_nil,XBk];rfl
@[simp] theorem Xuw (xs:List Xaa):(vT XcO xs).length=xs.length*15:=Xhn Xa1 xs
@[simp] theorem XuG (xs:List Xaa) (n:Nat):(vT XcO xs).take (n*15)=vT XcO (xs.take n):=Xgo Xa1 xs n
@[simp] theorem Xun (xs:List Xaa) (n:Nat):(vT XcO xs).drop (n*15)=vT XcO (xs.drop n):=Xgs Xa1 xs n
def Xb1:List Value→Option Xaa
 | [.int .i64 a1,.bool a2,.int .u64 a3,.int .u64 a4,.bool a5,.int .u64 a6,.int .u64 a7,.int .i64 a8,.int .i64 a9,va10,va11,va12,.int .u32 a13,.int .u32 a14,.string ⟨⟨a15⟩⟩]=>(asF va10).bind fun a10=>(asF va11).bind fun a11=>(asF va12).bind fun a12=>some (Xaa.mk (Xah.mk a1 (Xab.mk a2 a3 a4) (Xab.mk a5 a6 a7) a8 a9) (Xbg.mk a10 a11 a12) a13 a14 a15)
 | _=>none
theorem Xin (cs:List Value) (x:Xaa) (h:Xb1 cs=some x):cs=XcO x:=by
 unfold Xb1 at h;split at h
 ·simp only [Option.bind_eq_some_iff] at h
  obtain ⟨a10,ha10,a11,ha11,a12,ha12,h⟩:=h
  cases h;rw [Xqc _ _ ha10,Xqc _ _ ha11,Xqc _ _ ha12];rfl
 ·cases h
theorem Xcq (x:Xaa):Xb1 (XcO x)=some x:=by simp [Xb1,XcO,asF_c]
def XlN:Value→Option Xaa
 | .agg ⟨cs⟩=>Xb1 cs
 | _=>none
theorem Xny (v:Value) (x:Xaa) (h:XlN v=some x):v=.agg ⟨XcO x⟩:=by
 unfold XlN at h;split at h
 ·rw [Xin _ _ h]
 ·cases h
def XgV (x:XaC):List Value:=[.int .i64 x.SPort,.int .i64 x.DPort,.int .u32 x.Seq,.int .u32 x.Ack,.int .i64 x.Flags,.int .i64 x.Window,.int .i64 x.Urgent,.string ⟨⟨x.Options⟩⟩]
theorem Xc6 (x:XaC):(XgV x).length=8:=rfl
theorem XbR (x:XaC):Xbt.flatL (XgV x)=true:=rfl
theorem XdT (x:XaC):(XgV x).all XiF=true:=rfl
@[simp] theorem XBL (xs:List XaC):(vT XgV xs).length=xs.length*8:=Xhn Xc6 xs
@[simp] theorem XBK (xs:List XaC) (n:Nat):(vT XgV xs).take (n*8)=vT XgV (xs.take n):=Xgo Xc6 xs n
@[simp] theorem XBN (xs:List XaC) (n:Nat):(vT XgV xs).drop (n*8)=vT XgV (xs.drop n):=Xgs Xc6 xs n
def Xom:List Value→Option XaC
 | [.int .i64 a1,.int .i64 a2,.int .u32 a3,.int .u32 a4,.int .i64 a5,.int .i64 a6,.int .i64 a7,.string ⟨⟨a8⟩⟩]=>some (XaC.mk a1 a2 a3 a4 a5 a6 a7 a8)
 | _=>none
theorem Xk2 (cs:List Value) (x:XaC) (h:Xom cs=some x):cs=XgV x:=by
 unfold Xom at h;split at h
 ·cases h;rfl
 ·cases h
def XhO:Value→Option XaC
 | .agg ⟨cs⟩=>Xom cs
 | _=>none
theorem Xr6 (v:Value) (x:XaC) (h:XhO v=some x):v=.agg ⟨XgV x⟩:=by
 unfold XhO at h;split at h
 ·rw [Xk2 _ _ h]
 ·cases h
theorem Xjf (x:XaC):XhO (.agg ⟨XgV x⟩)=some x:=rfl
def Xfh (x:Xay):List Value:=[.int .i64 x.Class,.int .i64 x.Label,.int .i64 x.Next,.int .i64 x.Hop,.bool x.Src.V6,.int .u64 x.Src.Hi,.int .u64 x.Src.Lo,.bool x.Dst.V6,.int .u64 x.Dst.Hi,.int .u64 x.Dst.Lo]
theorem Xb8 (x:Xay):(Xfh x).length=10:=rfl
theorem Xbl (x:Xay):Xbt.flatL (Xfh x)=true:=rfl
theorem XcU (x:Xay):(Xfh x).all XiF=true:=rfl
@[simp] theorem Xxk (xs:List Xay):(vT Xfh xs).length=xs.length*10:=Xhn Xb8 xs
@[simp] theorem Xxc (xs:List Xay) (n:Nat):(vT Xfh xs).take (n*10)=vT Xfh (xs.take n):=Xgo Xb8 xs n
@[simp] theorem Xxm (xs:List Xay) (n:Nat):(vT Xfh xs).drop (n*10)=vT Xfh (xs.drop n):=Xgs Xb8 xs n
def Xl5:List Value→Option Xay
 | [.int .i64 a1,.int .i64 a2,.int .i64 a3,.int .i64 a4,.bool a5,.int .u64 a6,.int .u64 a7,.bool a8,.int .u64 a9,.int .u64 a10]=>some (Xay.mk a1 a2 a3 a4 (Xab.mk a5 a6 a7) (Xab.mk a8 a9 a10))
 | _=>none
theorem Xj1 (cs:List Value) (x:Xay) (h:Xl5 cs=some x):cs=Xfh x:=by
 unfold Xl5 at h;split at h
 ·cases h;rfl
 ·cases h
def XgX:Value→Option Xay
 | .agg ⟨cs⟩=>Xl5 cs
 | _=>none
theorem Xqk (v:Value) (x:Xay) (h:XgX v=some x):v=.agg ⟨Xfh x⟩:=by
 unfold XgX at h;split at h
 ·rw [Xj1 _ _ h]
 ·cases h
theorem Xi6 (x:Xay):XgX (.agg ⟨Xfh x⟩)=some x:=rfl
def XeV (x:Xan):List Value:=[.int .i64 x.Class,.int .i64 x.Mark,.bool x.Whole,.int .i64 x.TTL,.int .i64 x.Proto,.bool x.Src.V6,.int .u64 x.Src.Hi,.int .u64 x.Src.Lo,.bool x.Dst.V6,.int .u64 x.Dst.Hi,.int .u64 x.Dst.Lo,.string ⟨⟨x.Options⟩⟩]
theorem XbN (x:Xan):(XeV x).length=12:=rfl
theorem Xba (x:Xan):Xbt.flatL (XeV x)=true:=rfl
theorem XcF (x:Xan):(XeV x).all XiF=true:=rfl
@[simp] theorem Xw7 (xs:List Xan):(vT XeV xs).length=xs.length*12:=Xhn XbN xs
@[simp] theorem Xwh (xs:List Xan) (n:Nat):(vT XeV xs).take (n*12)=vT XeV (xs.take n):=Xgo XbN xs n
@[simp] theorem Xw3 (xs:List Xan) (n:Nat):(vT XeV xs).drop (n*12)=vT XeV (xs.drop n):=Xgs XbN xs n
def Xlb:List Value→Option Xan
 | [.int .i64 a1,.int .i64 a2,.bool a3,.int .i64 a4,.int .i64 a5,.bool a6,.int .u64 a7,.int .u64 a8,.bool a9,.int .u64 a10,.int .u64 a11,.string ⟨⟨a12⟩⟩]=>some (Xan.mk a1 a2 a3 a4 a5 (Xab.mk a6 a7 a8) (Xab.mk a9 a10 a11) a12)
 | _=>none
theorem Xjt (cs:List Value) (x:Xan) (h:Xlb cs=some x):cs=XeV x:=by
 unfold Xlb at h;split at h
 ·cases h;rfl
 ·cases h
def Xgy:Value→Option Xan
 | .agg ⟨cs⟩=>Xlb cs
 | _=>none
theorem XoQ (v:Value) (x:Xan) (h:Xgy v=some x):v=.agg ⟨XeV x⟩:=by
 unfold Xgy at h;split at h
 ·rw [Xjt _ _ h]
 ·cases h
theorem Xiv (x:Xan):Xgy (.agg ⟨XeV x⟩)=some x:=rfl
def Xf3 (x:XaD):List Value:=[.bool x.Long,.int .i64 x.Bits,.int .u32 x.Version,.string ⟨⟨x.DCID⟩⟩,.string ⟨⟨x.SCID⟩⟩,.string ⟨⟨x.Rest⟩⟩]
theorem Xdm (x:XaD):(Xf3 x).length=6:=rfl
theorem XbE (x:XaD):Xbt.flatL (Xf3 x)=true:=rfl
theorem Xdl (x:XaD):(Xf3 x).all XiF=true:=rfl
@[simp] theorem XAX (xs:List XaD):(vT Xf3 xs).length=xs.length*6:=Xhn Xdm xs
@[simp] theorem Xxx (xs:List XaD) (n:Nat):(vT Xf3 xs).take (n*6)=vT Xf3 (xs.take n):=Xgo Xdm xs n
@[simp] theorem XxF (xs:List XaD) (n:Nat):(vT Xf3 xs).drop (n*6)=vT Xf3 (xs.drop n):=Xgs Xdm xs n
def XmX:List Value→Option XaD
 | [.bool a1,.int .i64 a2,.int .u32 a3,.string ⟨⟨a4⟩⟩,.string ⟨⟨a5⟩⟩,.string ⟨⟨a6⟩⟩]=>some (XaD.mk a1 a2 a3 a4 a5 a6)
 | _=>none
theorem Xkx (cs:List Value) (x:XaD) (h:XmX cs=some x):cs=Xf3 x:=by
 unfold XmX at h;split at h
 ·cases h;rfl
 ·cases h
def XhI:Value→Option XaD
 | .agg ⟨cs⟩=>XmX cs
 | _=>none
theorem Xqx (v:Value) (x:XaD) (h:XhI v=some x):v=.agg ⟨Xf3 x⟩:=by
 unfold XhI at h;split at h
 ·rw [Xkx _ _ h]
 ·cases h
theorem XjE (x:XaD):XhI (.agg ⟨Xf3 x⟩)=some x:=rfl
def Xg0 (x:XaR):List Value:=[.int .i64 x.SPort,.int .i64 x.DPort]
theorem XfD (x:XaR):(Xg0 x).length=2:=rfl
theorem XbT (x:XaR):Xbt.flatL (Xg0 x)=true:=rfl
theorem XdR (x:XaR):(Xg0 x).all XiF=true:=rfl
@[simp] theorem XBQ (xs:List XaR):(vT Xg0 xs).length=xs.length*2:=Xhn XfD xs
@[simp] theorem XBC (xs:List XaR) (n:Nat):(vT Xg0 xs).take (n*2)=vT Xg0 (xs.take n):=Xgo XfD xs n
@[simp] theorem XBI (xs:List XaR) (n:Nat):(vT Xg0 xs).drop (n*2)=vT Xg0 (xs.drop n):=Xgs XfD xs n
def Xoo:List Value→Option XaR
 | [.int .i64 a1,.int .i64 a2]=>some (XaR.mk a1 a2)
 | _=>none
theorem Xk6 (cs:List Value) (x:XaR) (h:Xoo cs=some x):cs=Xg0 x:=by
 unfold Xoo at h;split at h
 ·cases h;rfl
 ·cases h
def XkG:Value→Option XaR
 | .agg ⟨cs⟩=>Xoo cs
 | _=>none
theorem Xrm (v:Value) (x:XaR) (h:XkG v=some x):v=.agg ⟨Xg0 x⟩:=by
 unfold XkG at h;split at h
 ·rw [Xk6 _ _ h]
 ·cases h
theorem XoO (x:XaR):XkG (.agg ⟨Xg0 x⟩)=some x:=rfl
def Xe1 (x:Xal):List Value:=[.int .i64 x.Tuple.Proto,.bool x.Tuple.Src.V6,.int .u64 x.Tuple.Src.Hi,.int .u64 x.Tuple.Src.Lo,.bool x.Tuple.Dst.V6,.int .u64 x.Tuple.Dst.Hi,.int .u64 x.Tuple.Dst.Lo,.int .i64 x.Tuple.SPort,.int .i64 x.Tuple.DPort,.int .i64 x.Flags,.bool x.Stamped,.int .u32 x.Val,.int .u32 x.Echo,.bool x.Long,.string ⟨⟨x.CID⟩⟩,.int .i64 x.Size]
theorem Xbp (x:Xal):(Xe1 x).length=16:=rfl
theorem Xbj (x:Xal):Xbt.flatL (Xe1 x)=true:=rfl
theorem XcV (x:Xal):(Xe1 x).all XiF=true:=rfl
@[simp] theorem Xxe (xs:List Xal):(vT Xe1 xs).length=xs.length*16:=Xhn Xbp xs
@[simp] theorem Xxl (xs:List Xal) (n:Nat):(vT Xe1 xs).take (n*16)=vT Xe1 (xs.take n):=Xgo Xbp xs n
@[simp] theorem Xxf (xs:List Xal) (n:Nat):(vT Xe1 xs).drop (n*16)=vT Xe1 (xs.drop n):=Xgs Xbp xs n
def XhY:List Value→Option Xal
 | [.int .i64 a1,.bool a2,.int .u64 a3,.int .u64 a4,.bool a5,.int .u64 a6,.int .u64 a7,.int .i64 a8,.int .i64 a9,.int .i64 a10,.bool a11,.int .u32 a12,.int .u32 a13,.bool a14,.string ⟨⟨a15⟩⟩,.int .i64 a16]=>some (Xal.mk (Xah.mk a1 (Xab.mk a2 a3 a4) (Xab.mk a5 a6 a7) a8 a9) a10 a11 a12 a13 a14 a15 a16)
 | _=>none
theorem XjV (cs:List Value) (x:Xal) (h:XhY cs=some x):cs=Xe1 x:=by
 unfold XhY at h;split at h
 ·cases h;rfl
 ·cases h
theorem XmQ (x:Xal):XhY (Xe1 x)=some x:=rfl
def Xjp:Value→Option Xal
 | .agg ⟨cs⟩=>XhY cs
 | _=>none
theorem XpB (v:Value) (x:Xal) (h:Xjp v=some x):v=.agg ⟨Xe1 x⟩:=by
 unfold Xjp at h;split at h
 ·rw [XjV _ _ h]
 ·cases h
theorem XmG (x:Xal):Xjp (.agg ⟨Xe1 x⟩)=some x:=rfl
def Xhs (x:XeE):List Value:=[.bool x.src.V6,.int .u64 x.src.Hi,.int .u64 x.src.Lo,.bool x.dst.V6,.int .u64 x.dst.Hi,.int .u64 x.dst.Lo,.int .i64 x.proto,.int .i64 x.size,.string ⟨⟨x.body⟩⟩]
theorem XcQ (x:XeE):(Xhs x).length=9:=rfl
theorem XbQ (x:XeE):Xbt.flatL (Xhs x)=true:=rfl
theorem XdY (x:XeE):(Xhs x).all XiF=true:=rfl
@[simp] theorem XBE (xs:List XeE):(vT Xhs xs).length=xs.length*9:=Xhn XcQ xs
@[simp] theorem XBF (xs:List XeE) (n:Nat):(vT Xhs xs).take (n*9)=vT Xhs (xs.take n):=Xgo XcQ xs n
@[simp] theorem XBT (xs:List XeE) (n:Nat):(vT Xhs xs).drop (n*9)=vT Xhs (xs.drop n):=Xgs XcQ xs n
def Xoy:List Value→Option XeE
 | [.bool a1,.int .u64 a2,.int .u64 a3,.bool a4,.int .u64 a5,.int .u64 a6,.int .i64 a7,.int .i64 a8,.string ⟨⟨a9⟩⟩]=>some (XeE.mk (Xab.mk a1 a2 a3) (Xab.mk a4 a5 a6) a7 a8 a9)
 | _=>none
theorem XkZ (cs:List Value) (x:XeE) (h:Xoy cs=some x):cs=Xhs x:=by
 unfold Xoy at h;split at h
 ·cases h;rfl
 ·cases h
def XqN:Value→Option XeE
 | .agg ⟨cs⟩=>Xoy cs
 | _=>none
theorem Xsf (v:Value) (x:XeE) (h:XqN v=some x):v=.agg ⟨Xhs x⟩:=by
 unfold XqN at h;split at h
 ·rw [XkZ _ _ h]
 ·cases h
def Xhh (x:Xc4):List Value:=[.int .i64 x.Kind,.string ⟨⟨x.Data⟩⟩,.int .i64 x.At]
theorem Xdc (x:Xc4):(Xhh x).length=3:=rfl
theorem Xbx (x:Xc4):Xbt.flatL (Xhh x)=true:=rfl
theorem Xez (x:Xc4):(Xhh x).all XiF=true:=rfl
@[simp] theorem XCY (xs:List Xc4):(vT Xhh xs).length=xs.length*3:=Xhn Xdc xs
@[simp] theorem XDb (xs:List Xc4) (n:Nat):(vT Xhh xs).take (n*3)=vT Xhh (xs.take n):=Xgo Xdc xs n
@[simp] theorem XCQ (xs:List Xc4) (n:Nat):(vT Xhh xs).drop (n*3)=vT Xhh (xs.drop n):=Xgs Xdc xs n
def XpW:List Value→Option Xc4
 | [.int .i64 a1,.string ⟨⟨a2⟩⟩,.int .i64 a3]=>some (Xc4.mk a1 a2 a3)
 | _=>none
theorem Xly (cs:List Value) (x:Xc4) (h:XpW cs=some x):cs=Xhh x:=by
 unfold XpW at h;split at h
 ·cases h;rfl
 ·cases h
def Xto:Value→Option Xc4
 | .agg ⟨cs⟩=>XpW cs
 | _=>none
theorem XsD (v:Value) (x:Xc4) (h:Xto v=some x):v=.agg ⟨Xhh x⟩:=by
 unfold Xto at h;split at h
 ·rw [Xly _ _ h]
 ·cases h
def Xel (x:XaS):List Value:=[.bool x.src.V6,.int .u64 x.src.Hi,.int .u64 x.src.Lo,.bool x.dst.V6,.int .u64 x.dst.Hi,.int .u64 x.dst.Lo,.int .i64 x.proto,.string ⟨⟨x.body⟩⟩]
theorem Xb4 (x:XaS):(Xel x).length=8:=rfl
theorem Xa0 (x:XaS):Xbt.flatL (Xel x)=true:=rfl
theorem Xcr (x:XaS):(Xel x).all XiF=true:=rfl
@[simp] theorem XvO (xs:List XaS):(vT Xel xs).length=xs.length*8:=Xhn Xb4 xs
@[simp] theorem Xu4 (xs:List XaS) (n:Nat):(vT Xel xs).take (n*8)=vT Xel (xs.take n):=Xgo Xb4 xs n
@[simp] theorem Xva (xs:List XaS) (n:Nat):(vT Xel xs).drop (n*8)=vT Xel (xs.drop n):=Xgs Xb4 xs n
def Xky:List Value→Option XaS
 | [.bool a1,.int .u64 a2,.int .u64 a3,.bool a4,.int .u64 a5,.int .u64 a6,.int .i64 a7,.string ⟨⟨a8⟩⟩]=>some (XaS.mk (Xab.mk a1 a2 a3) (Xab.mk a4 a5 a6) a7 a8)
 | _=>none
theorem XiK (cs:List Value) (x:XaS) (h:Xky cs=some x):cs=Xel x:=by
 unfold Xky at h;split at h
 ·cases h;rfl
 ·cases h
def Xhw:Value→Option XaS
 | .agg ⟨cs⟩=>Xky cs
 | _=>none
theorem Xn9 (v:Value) (x:XaS) (h:Xhw v=some x):v=.agg ⟨Xel x⟩:=by
 unfold Xhw at h;split at h
 ·rw [XiK _ _ h]
 ·cases h
theorem Xlo (x:XaS):Xhw (.agg ⟨Xel x⟩)=some x:=rfl
def Xew (x:Xag):List Value:=[.string ⟨⟨x.s⟩⟩,.bool x.made,.bool x.bad]
theorem Xdw (x:Xag):(Xew x).length=3:=rfl
theorem XaZ (x:Xag):Xbt.flatL (Xew x)=true:=rfl
theorem Xcp (x:Xag):(Xew x).all XiF=true:=rfl
@[simp] theorem XvW (xs:List Xag):(vT Xew xs).length=xs.length*3:=Xhn Xdw xs
@[simp] theorem XvL (xs:List Xag) (n:Nat):(vT Xew xs).take (n*3)=vT Xew (xs.take n):=Xgo Xdw xs n
@[simp] theorem Xvy (xs:List Xag) (n:Nat):(vT Xew xs).drop (n*3)=vT Xew (xs.drop n):=Xgs Xdw xs n
def Xei:List Value→Option Xag
 | [.string ⟨⟨a1⟩⟩,.bool a2,.bool a3]=>some (Xag.mk a1 a2 a3)
 | _=>none
theorem Xhj (cs:List Value) (x:Xag) (h:Xei cs=some x):cs=Xew x:=by
 unfold Xei at h;split at h
 ·cases h;rfl
 ·cases h
theorem XgB (x:Xag):Xei (Xew x)=some x:=rfl
def XmR:Value→Option Xag
 | .agg ⟨cs⟩=>Xei cs
 | _=>none
theorem Xox (v:Value) (x:Xag) (h:XmR v=some x):v=.agg ⟨Xew x⟩:=by
 unfold XmR at h;split at h
 ·rw [Xhj _ _ h]
 ·cases h
def XhF (x:Xdu):List Value:=[.int .i64 x.Kind,.string ⟨⟨x.Data⟩⟩]
theorem XfH (x:Xdu):(XhF x).length=2:=rfl
theorem Xbo (x:Xdu):Xbt.flatL (XhF x)=true:=rfl
theorem XeC (x:Xdu):(XhF x).all XiF=true:=rfl
@[simp] theorem XFj (xs:List Xdu):(vT XhF xs).length=xs.length*2:=Xhn XfH xs
@[simp] theorem XEo (xs:List Xdu) (n:Nat):(vT XhF xs).take (n*2)=vT XhF (xs.take n):=Xgo XfH xs n
@[simp] theorem XGD (xs:List Xdu) (n:Nat):(vT XhF xs).drop (n*2)=vT XhF (xs.drop n):=Xgs XfH xs n
def XpO:List Value→Option Xdu
 | [.int .i64 a1,.string ⟨⟨a2⟩⟩]=>some (Xdu.mk a1 a2)
 | _=>none
theorem XlA (cs:List Value) (x:Xdu) (h:XpO cs=some x):cs=XhF x:=by
 unfold XpO at h;split at h
 ·cases h;rfl
 ·cases h
def Xte:Value→Option Xdu
 | .agg ⟨cs⟩=>XpO cs
 | _=>none
theorem XsH (v:Value) (x:Xdu) (h:Xte v=some x):v=.agg ⟨XhF x⟩:=by
 unfold Xte at h;split at h
 ·rw [XlA _ _ h]
 ·cases h
def Xfl (x:Xar):List Value:=[.int .i64 x.T.Proto,.bool x.T.Src.V6,.int .u64 x.T.Src.Hi,.int .u64 x.T.Src.Lo,.bool x.T.Dst.V6,.int .u64 x.T.Dst.Hi,.int .u64 x.T.Dst.Lo,.int .i64 x.T.SPort,.int .i64 x.T.DPort,.int .u32 x.Clock,.int .u32 x.Echo,.string ⟨⟨x.ID⟩⟩]
theorem XbX (x:Xar):(Xfl x).length=12:=rfl
theorem Xbk (x:Xar):Xbt.flatL (Xfl x)=true:=rfl
theorem XcT (x:Xar):(Xfl x).all XiF=true:=rfl
@[simp] theorem Xxg (xs:List Xar):(vT Xfl xs).length=xs.length*12:=Xhn XbX xs
@[simp] theorem Xxh (xs:List Xar) (n:Nat):(vT Xfl xs).take (n*12)=vT Xfl (xs.take n):=Xgo XbX xs n
@[simp] theorem Xxi (xs:List Xar) (n:Nat):(vT Xfl xs).drop (n*12)=vT Xfl (xs.drop n):=Xgs XbX xs n
def XgU:List Value→Option Xar
 | [.int .i64 a1,.bool a2,.int .u64 a3,.int .u64 a4,.bool a5,.int .u64 a6,.int .u64 a7,.int .i64 a8,.int .i64 a9,.int .u32 a10,.int .u32 a11,.string ⟨⟨a12⟩⟩]=>some (Xar.mk (Xah.mk a1 (Xab.mk a2 a3 a4) (Xab.mk a5 a6 a7) a8 a9) a10 a11 a12)
 | _=>none
theorem XjZ (cs:List Value) (x:Xar) (h:XgU cs=some x):cs=Xfl x:=by
 unfold XgU at h;split at h
 ·cases h;rfl
 ·cases h
theorem Xko (x:Xar):XgU (Xfl x)=some x:=rfl
def XoD:Value→Option Xar
 | .agg ⟨cs⟩=>XgU cs
 | _=>none
theorem Xp1 (v:Value) (x:Xar) (h:XoD v=some x):v=.agg ⟨Xfl x⟩:=by
 unfold XoD at h;split at h
 ·rw [XjZ _ _ h]
 ·cases h
def Xiq (k:Nat):Value→List (Option (List Value))→Option XdX
 | .agg ⟨[.pointer (some ⟨k0,0,none⟩)]⟩,[some c0]=>match Xei c0 with|some x0=>(if k0=k+0 then some (XdX.mk x0) else none)|none=>none
 | _,_=>none
theorem XnN {k:Nat} {v:Value} {cs:List (Option (List Value))} {x:XdX} (h:Xiq k v cs=some x):v=.agg ⟨[.pointer (some ⟨k+0,0,none⟩)]⟩∧cs=[some [.string ⟨⟨x.Reader.s⟩⟩,.bool x.Reader.made,.bool x.Reader.bad]]:=by
 unfold Xiq at h;split at h<;>try (cases h;done)
 split at h<;>try (cases h;done)
 rename_i x0 e0
 split at h<;>cases h
 rename_i hk
 subst hk
 obtain rfl:=Xhj _ _ e0
 exact ⟨rfl,rfl⟩
theorem Xoz (k:Nat) (x:XdX):Xiq k (.agg ⟨[.pointer (some ⟨k+0,0,none⟩)]⟩) [some [.string ⟨⟨x.Reader.s⟩⟩,.bool x.Reader.made,.bool x.Reader.bad]]=some x:=by
 show (if k+0=k+0 then some x else none)=_
 simp
theorem Xgw.a {s:Xbz} {vals aqs:List Value} {os:List (Option XbY)} {h h1 h2:Hp} {top n m t':Nat} {ws:List Wd} {r:XcS} {v':Value} {cw:List (Option (List Value))} {K:Value→Hp→Nat→Prop} (e2:s.run aqs cw=some r)
 (k:XiE v' fun v=>XlH [] (XjU h2 (top+n) m) fun h'=>K v h' t')
 (e1:XdF h 0 s.modes vals=some (aqs,os):=by repeat' first|exact XTG|apply XKC|rfl|exact XUk rfl rfl rfl (by first|rfl|(simp only [Xbt.flatL,Xee];rfl))|exact XIp rfl rfl (Nat.le_of_ble_eq_true rfl) rfl (by first|rfl|(simp only [Xbt.flatL,Xee];rfl))|exact XMy rfl rfl (by first|rfl|omega) (by first|rfl|(simp;done))|exact XOj rfl rfl (by first|rfl|omega) (by first|rfl|(simp;done))|exact XMH rfl rfl (by first|rfl|omega) (by first|rfl|(simp;done))|exact Xg6 Xe7 XbP rfl rfl (by first|rfl|omega) (by first|rfl|(simp;done))|exact Xg6 Xcx XbD rfl rfl (by first|rfl|omega) (by first|rfl|(simp;done))|exact Xg6 Xb2 XbU rfl rfl (by first|rfl|omega) (by first|rfl|(simp;done))|exact Xg6 Xdy Xa2 rfl rfl (by first|rfl|omega) (by first|rfl|(simp;done))|exact Xg6 Xa1 XaU rfl rfl (by first|rfl|omega) (by first|rfl|(simp;done))|exact Xg6 Xc6 XbR rfl rfl (by first|rfl|omega) (by first|rfl|(simp;done))|exact Xg6 Xb8 Xbl rfl rfl (by first|rfl|omega) (by first|rfl|(simp;done))|exact Xg6 XbN Xba rfl rfl (by first|rfl|omega) (by first|rfl|(simp;done))|exact Xg6 Xdm XbE rfl rfl (by first|rfl|omega) (by first|rfl|(simp;done))|exact Xg6 XfD XbT rfl rfl (by first|rfl|omega) (by first|rfl|(simp;done))|exact Xg6 Xbp Xbj rfl rfl (by first|rfl|omega) (by first|rfl|(simp;done))|exact Xg6 XcQ XbQ rfl rfl (by first|rfl|omega) (by first|rfl|(simp;done))|exact Xg6 Xdc Xbx rfl rfl (by first|rfl|omega) (by first|rfl|(simp;done))|exact Xg6 Xb4 Xa0 rfl rfl (by first|rfl|omega) (by first|rfl|(simp;done))|exact Xg6 Xdw XaZ rfl rfl (by first|rfl|omega) (by first|rfl|(simp;done))|exact Xg6 XfH Xbo rfl rfl (by first|rfl|omega) (by first|rfl|(simp;done))|exact Xg6 XbX Xbk rfl rfl (by first|rfl|omega) (by first|rfl|(simp;done))|exact XIb rfl rfl (by first|rfl|omega) (by first|rfl|omega) (by first|omega|(simp at *;omega))|exact XHU rfl rfl (by first|rfl|omega) (by first|rfl|omega) (by first|omega|(simp at *;omega))|exact XIe rfl rfl (by first|rfl|omega) (by first|rfl|omega) (by first|omega|(simp at *;omega))|exact XiC Xe7 XbP rfl rfl (by first|rfl|omega) (by first|rfl|omega) (by first|omega|(simp at *;omega))|exact XiC Xcx XbD rfl rfl (by first|rfl|omega) (by first|rfl|omega) (by first|omega|(simp at *;omega))|exact XiC Xb2 XbU rfl rfl (by first|rfl|omega) (by first|rfl|omega) (by first|omega|(simp at *;omega))|exact XiC Xdy Xa2 rfl rfl (by first|rfl|omega) (by first|rfl|omega) (by first|omega|(simp at *;omega))|exact XiC Xa1 XaU rfl rfl (by first|rfl|omega) (by first|rfl|omega) (by first|omega|(simp at *;omega))|exact XiC Xc6 XbR rfl rfl (by first|rfl|omega) (by first|rfl|omega) (by first|omega|(simp at *;omega))|exact XiC Xb8 Xbl rfl rfl (by first|rfl|omega) (by first|rfl|omega) (by first|omega|(simp at *;omega))|exact XiC XbN Xba rfl rfl (by first|rfl|omega) (by first|rfl|omega) (by first|omega|(simp at *;omega))|exact XiC Xdm XbE rfl rfl (by first|rfl|omega) (by first|rfl|omega) (by first|omega|(simp at *;omega))|exact XiC XfD XbT rfl rfl (by first|rfl|omega) (by first|rfl|omega) (by first|omega|(simp at *;omega))|exact XiC Xbp Xbj rfl rfl (by first|rfl|omega) (by first|rfl|omega) (by first|omega|(simp at *;omega))|exact XiC XcQ XbQ rfl rfl (by first|rfl|omega) (by first|rfl|omega) (by first|omega|(simp at *;omega))|exact XiC Xdc Xbx rfl rfl (by first|rfl|omega) (by first|rfl|omega) (by first|omega|(simp at *;omega))|exact XiC Xb4 Xa0 rfl rfl (by first|rfl|omega) (by first|rfl|omega) (by first|omega|(simp at *;omega))|exact XiC Xdw XaZ rfl rfl (by first|rfl|omega) (by first|rfl|omega) (by first|omega|(simp at *;omega))|exact XiC XfH Xbo rfl rfl (by first|rfl|omega) (by first|rfl|omega) (by first|omega|(simp at *;omega))|exact XiC XbX Xbk rfl rfl (by first|rfl|omega) (by first|rfl|omega) (by first|omega|(simp at *;omega))|(apply ra_tr rfl rfl _ rfl;repeat' first|exact XS1|apply XU4|apply vp_at rfl rfl (by first|rfl|exact XtT|exact XuL|exact Xuh|exact XbA XbP|exact XbA XbD|exact XbA XbU|exact XbA Xa2|exact XbA XaU|exact XbA XbR|exact XbA Xbl|exact XbA Xba|exact XbA XbE|exact XbA XbT|exact XbA Xbj|exact XbA XbQ|exact XbA Xbx|exact XbA Xa0|exact XbA XaZ|exact XbA Xbo|exact XbA Xbk|exact Xcz _ _ (by simp only [Xbt.flatL,Xee];rfl)) rfl))
 (ec:Xlq os=cw:=by rfl)
 (ew:Xlg h s.modes vals=ws:=by first|exact (rfl:_=[])|exact (rfl:_=[_])|exact (rfl:_=[_,_])|exact (rfl:_=[_,_,_])|exact (rfl:_=[_,_,_,_])|exact (rfl:_=[_,_,_,_,_])|exact (rfl:_=[_,_,_,_,_,_])|exact (rfl:_=[_,_,_,_,_,_,_])|exact (rfl:_=[_,_,_,_,_,_,_,_]))
 (e3:apartB ws=true:=by exact rfl)
 (hn:r.new.length=n:=by first|exact (rfl:_=0)|exact (rfl:_=1)|exact (rfl:_=2)|exact (rfl:_=3)|exact (rfl:_=4))
 (hm:Xl0 ws=m:=by first|exact (rfl:_=0)|exact (rfl:_=1)|exact (rfl:_=2)|exact (rfl:_=3)|exact (rfl:_=4))
 (ht:top+n+m=t':=by simp only [Nat.reduceAdd];rfl)
 (e4:Xd5 h (Xub top n ws) ws r.wr=some h1:=by repeat' first|exact XIX|apply XPe rfl|apply XW7 rfl rfl (by first|rfl|exact XtT|exact XuL|exact Xuh|exact XbA XbP|exact XbA XbD|exact XbA XbU|exact XbA Xa2|exact XbA XaU|exact XbA XbR|exact XbA Xbl|exact XbA Xba|exact XbA XbE|exact XbA XbT|exact XbA Xbj|exact XbA XbQ|exact XbA Xbx|exact XbA Xa0|exact XbA XaZ|exact XbA Xbo|exact XbA Xbk|exact Xcz _ _ (by simp only [Xbt.flatL,Xee];rfl)) rfl rfl rfl|apply XHY rfl rfl (by first|rfl|exact XtT|exact XuL|exact Xuh|exact XbA XbP|exact XbA XbD|exact XbA XbU|exact XbA Xa2|exact XbA XaU|exact XbA XbR|exact XbA Xbl|exact XbA Xba|exact XbA XbE|exact XbA XbT|exact XbA Xbj|exact XbA XbQ|exact XbA Xbx|exact XbA Xa0|exact XbA XaZ|exact XbA Xbo|exact XbA Xbk|exact Xcz _ _ (by simp only [Xbt.flatL,Xee];rfl)) ⟨rfl,Nat.le_of_ble_eq_true rfl⟩ rfl rfl|apply XRF rfl rfl (by first|rfl|exact XtT|exact XuL|exact Xuh|exact XbA XbP|exact XbA XbD|exact XbA XbU|exact XbA Xa2|exact XbA XaU|exact XbA XbR|exact XbA Xbl|exact XbA Xba|exact XbA XbE|exact XbA XbT|exact XbA Xbj|exact XbA XbQ|exact XbA Xbx|exact XbA Xa0|exact XbA XaZ|exact XbA Xbo|exact XbA Xbk|exact Xcz _ _ (by simp only [Xbt.flatL,Xee];rfl)) rfl|apply XRH)
 (e5:Xjy h1 (Xub top n ws) top r.new=some h2:=by repeat' first|exact XHT|apply XLB (by first|rfl|exact XtT|exact XuL|exact Xuh|exact XbA XbP|exact XbA XbD|exact XbA XbU|exact XbA Xa2|exact XbA XaU|exact XbA XbR|exact XbA Xbl|exact XbA Xba|exact XbA XbE|exact XbA XbT|exact XbA Xbj|exact XbA XbQ|exact XbA Xbx|exact XbA Xa0|exact XbA XaZ|exact XbA Xbo|exact XbA Xbk|exact Xcz _ _ (by simp only [Xbt.flatL,Xee];rfl)))
 (e6:Xfq (Xub top n ws) r.v=some v':=by first|exact rfl|exact Xl1 _ _ (by first|rfl|(simp only [Xbt,Xbt.flatL,Xee];rfl))):Xgw s vals h top K:=Xgw.XJE [] (XsO e1 ew ec e2 e3 hn hm ht e4 e5 e6) k
theorem W {G:Prop} (g:G:=by
 repeat' first
  | (refine fsp h ?_ ?_<;>(clear h;intros;rename_i hx h;rw [hx];conv=>whnf))
  | (refine fcase h ?_ ?_<;>(clear h;intros;first|(rename_i hx h;subst hx;conv=>whnf)|rename_i h))
  | (refine br.h h (by rfl) ?_ ?_<;>(clear h;intro hb h;conv=>whnf))
  | (replace h:=Xbn.elim h;obtain ⟨hb,h⟩:=h;try (refine req.intro hb ?_;conv=>whnf))
  | (replace h:=XcR.elim h;obtain ⟨x,hy,h⟩:=h;(first|refine Xgw.a (R1 hy) ?_|refine Xgw.a (R2 hy) ?_|refine Xgw.a (R3 hy) ?_|refine Xgw.a (R4 hy) ?_|refine Xgw.a (R5 hy) ?_|refine Xgw.a (R6 hy) ?_|refine Xgw.a (R7 hy) ?_|refine Xgw.a (R8 hy) ?_|refine Xgw.a (R9 hy) ?_|refine Xgw.a (R10 hy) ?_|refine rdS.intro hy ?_|refine rd.I hy (by first|rfl|(rw [Nat.zero_add,Nat.mul_one];try rfl;done)|omega) ?_|refine rd.S hy (by first|rfl|(rw [Nat.zero_add,Nat.mul_one];try rfl;done)|omega) ?_|refine rd.B hy (by first|rfl|(rw [Nat.zero_add,Nat.mul_one];try rfl;done)|omega) ?_|refine rd.T (j:=0) Xe7 hy (by first|omega|exact Nat.zero_add _|exact congrArg (·+_) (Nat.zero_add _)) (by decide) rfl ?_|refine rd.T (j:=1) Xe7 hy (by first|omega|exact Nat.zero_add _|exact congrArg (·+_) (Nat.zero_add _)) (by decide) rfl ?_|refine rd.T (j:=2) Xe7 hy (by first|omega|exact Nat.zero_add _|exact congrArg (·+_) (Nat.zero_add _)) (by decide) rfl ?_|refine rd.T (j:=0) Xcx hy (by first|omega|exact Nat.zero_add _|exact congrArg (·+_) (Nat.zero_add _)) (by decide) rfl ?_|refine rd.T (j:=1) Xcx hy (by first|omega|exact Nat.zero_add _|exact congrArg (·+_) (Nat.zero_add _)) (by decide) rfl ?_|refine rd.T (j:=2) Xcx hy (by first|omega|exact Nat.zero_add _|exact congrArg (·+_) (Nat.zero_add _)) (by decide) rfl ?_|refine rd.T (j:=3) Xcx hy (by first|omega|exact Nat.zero_add _|exact congrArg (·+_) (Nat.zero_add _)) (by decide) rfl ?_|refine rd.T (j:=4) Xcx hy (by first|omega|exact Nat.zero_add _|exact congrArg (·+_) (Nat.zero_add _)) (by decide) rfl ?_|refine rd.T (j:=5) Xcx hy (by first|omega|exact Nat.zero_add _|exact congrArg (·+_) (Nat.zero_add _)) (by decide) rfl ?_|refine rd.T (j:=6) Xcx hy (by first|omega|exact Nat.zero_add _|exact congrArg (·+_) (Nat.zero_add _)) (by decide) rfl ?_|refine rd.T (j:=7) Xcx hy (by first|omega|exact Nat.zero_add _|exact congrArg (·+_) (Nat.zero_add _)) (by decide) rfl ?_|refine rd.T (j:=8) Xcx hy (by first|omega|exact Nat.zero_add _|exact congrArg (·+_) (Nat.zero_add _)) (by decide) rfl ?_|refine rd.T (j:=0) Xb2 hy (by first|omega|exact Nat.zero_add _|exact congrArg (·+_) (Nat.zero_add _)) (by decide) rfl ?_|refine rd.T (j:=1) Xb2 hy (by first|omega|exact Nat.zero_add _|exact congrArg (·+_) (Nat.zero_add _)) (by decide) rfl ?_|refine rd.T (j:=2) Xb2 hy (by first|omega|exact Nat.zero_add _|exact congrArg (·+_) (Nat.zero_add _)) (by decide) rfl ?_|refine rd.T (j:=3) Xb2 hy (by first|omega|exact Nat.zero_add _|exact congrArg (·+_) (Nat.zero_add _)) (by decide) rfl ?_|refine rd.T (j:=0) Xdy hy (by first|omega|exact Nat.zero_add _|exact congrArg (·+_) (Nat.zero_add _)) (by decide) rfl ?_|refine rd.T (j:=1) Xdy hy (by first|omega|exact Nat.zero_add _|exact congrArg (·+_) (Nat.zero_add _)) (by decide) rfl ?_|refine rd.T (j:=2) Xdy hy (by first|omega|exact Nat.zero_add _|exact congrArg (·+_) (Nat.zero_add _)) (by decide) rfl ?_|refine rd.T (j:=0) Xa1 hy (by first|omega|exact Nat.zero_add _|exact congrArg (·+_) (Nat.zero_add _)) (by decide) rfl ?_|refine rd.T (j:=1) Xa1 hy (by first|omega|exact Nat.zero_add _|exact congrArg (·+_) (Nat.zero_add _)) (by decide) rfl ?_|refine rd.T (j:=2) Xa1 hy (by first|omega|exact Nat.zero_add _|exact congrArg (·+_) (Nat.zero_add _)) (by decide) rfl ?_|refine rd.T (j:=3) Xa1 hy (by first|omega|exact Nat.zero_add _|exact congrArg (·+_) (Nat.zero_add _)) (by decide) rfl ?_|refine rd.T (j:=4) Xa1 hy (by first|omega|exact Nat.zero_add _|exact congrArg (·+_) (Nat.zero_add _)) (by decide) rfl ?_|refine rd.T (j:=5) Xa1 hy (by first|omega|exact Nat.zero_add _|exact congrArg (·+_) (Nat.zero_add _)) (by decide) rfl ?_|refine rd.T (j:=6) Xa1 hy (by first|omega|exact Nat.zero_add _|exact congrArg (·+_) (Nat.zero_add _)) (by decide) rfl ?_|refine rd.T (j:=7) Xa1 hy (by first|omega|exact Nat.zero_add _|exact congrArg (·+_) (Nat.zero_add _)) (by decide) rfl ?_|refine rd.T (j:=8) Xa1 hy (by first|omega|exact Nat.zero_add _|exact congrArg (·+_) (Nat.zero_add _)) (by decide) rfl ?_|refine rd.T (j:=9) Xa1 hy (by first|omega|exact Nat.zero_add _|exact congrArg (·+_) (Nat.zero_add _)) (by decide) rfl ?_|refine rd.T (j:=10) Xa1 hy (by first|omega|exact Nat.zero_add _|exact congrArg (·+_) (Nat.zero_add _)) (by decide) rfl ?_|refine rd.T (j:=11) Xa1 hy (by first|omega|exact Nat.zero_add _|exact congrArg (·+_) (Nat.zero_add _)) (by decide) rfl ?_|refine rd.T (j:=12) Xa1 hy (by first|omega|exact Nat.zero_add _|exact congrArg (·+_) (Nat.zero_add _)) (by decide) rfl ?_|refine rd.T (j:=13) Xa1 hy (by first|omega|exact Nat.zero_add _|exact congrArg (·+_) (Nat.zero_add _)) (by decide) rfl ?_|refine rd.T (j:=14) Xa1 hy (by first|omega|exact Nat.zero_add _|exact congrArg (·+_) (Nat.zero_add _)) (by decide) rfl ?_|refine rd.T (j:=0) Xc6 hy (by first|omega|exact Nat.zero_add _|exact congrArg (·+_) (Nat.zero_add _)) (by decide) rfl ?_|refine rd.T (j:=1) Xc6 hy (by first|omega|exact Nat.zero_add _|exact congrArg (·+_) (Nat.zero_add _)) (by decide) rfl ?_|refine rd.T (j:=2) Xc6 hy (by first|omega|exact Nat.zero_add _|exact congrArg (·+_) (Nat.zero_add _)) (by decide) rfl ?_|refine rd.T (j:=3) Xc6 hy (by first|omega|exact Nat.zero_add _|exact congrArg (·+_) (Nat.zero_add _)) (by decide) rfl ?_|refine rd.T (j:=4) Xc6 hy (by first|omega|exact Nat.zero_add _|exact congrArg (·+_) (Nat.zero_add _)) (by decide) rfl ?_|refine rd.T (j:=5) Xc6 hy (by first|omega|exact Nat.zero_add _|exact congrArg (·+_) (Nat.zero_add _)) (by decide) rfl ?_|refine rd.T (j:=6) Xc6 hy (by first|omega|exact Nat.zero_add _|exact congrArg (·+_) (Nat.zero_add _)) (by decide) rfl ?_|refine rd.T (j:=7) Xc6 hy (by first|omega|exact Nat.zero_add _|exact congrArg (·+_) (Nat.zero_add _)) (by decide) rfl ?_|refine rd.T (j:=0) Xb8 hy (by first|omega|exact Nat.zero_add _|exact congrArg (·+_) (Nat.zero_add _)) (by decide) rfl ?_|refine rd.T (j:=1) Xb8 hy (by first|omega|exact Nat.zero_add _|exact congrArg (·+_) (Nat.zero_add _)) (by decide) rfl ?_|refine rd.T (j:=2) Xb8 hy (by first|omega|exact Nat.zero_add _|exact congrArg (·+_) (Nat.zero_add _)) (by decide) rfl ?_|refine rd.T (j:=3) Xb8 hy (by first|omega|exact Nat.zero_add _|exact congrArg (·+_) (Nat.zero_add _)) (by decide) rfl ?_|refine rd.T (j:=4) Xb8 hy (by first|omega|exact Nat.zero_add _|exact congrArg (·+_) (Nat.zero_add _)) (by decide) rfl ?_|refine rd.T (j:=5) Xb8 hy (by first|omega|exact Nat.zero_add _|exact congrArg (·+_) (Nat.zero_add _)) (by decide) rfl ?_|refine rd.T (j:=6) Xb8 hy (by first|omega|exact Nat.zero_add _|exact congrArg (·+_) (Nat.zero_add _)) (by decide) rfl ?_|refine rd.T (j:=7) Xb8 hy (by first|omega|exact Nat.zero_add _|exact congrArg (·+_) (Nat.zero_add _)) (by decide) rfl ?_|refine rd.T (j:=8) Xb8 hy (by first|omega|exact Nat.zero_add _|exact congrArg (·+_) (Nat.zero_add _)) (by decide) rfl ?_|refine rd.T (j:=9) Xb8 hy (by first|omega|exact Nat.zero_add _|exact congrArg (·+_) (Nat.zero_add _)) (by decide) rfl ?_|refine rd.T (j:=0) XbN hy (by first|omega|exact Nat.zero_add _|exact congrArg (·+_) (Nat.zero_add _)) (by decide) rfl ?_|refine rd.T (j:=1) XbN hy (by first|omega|exact Nat.zero_add _|exact congrArg (·+_) (Nat.zero_add _)) (by decide) rfl ?_|refine rd.T (j:=2) XbN hy (by first|omega|exact Nat.zero_add _|exact congrArg (·+_) (Nat.zero_add _)) (by decide) rfl ?_|refine rd.T (j:=3) XbN hy (by first|omega|exact Nat.zero_add _|exact congrArg (·+_) (Nat.zero_add _)) (by decide) rfl ?_|refine rd.T (j:=4) XbN hy (by first|omega|exact Nat.zero_add _|exact congrArg (·+_) (Nat.zero_add _)) (by decide) rfl ?_|refine rd.T (j:=5) XbN hy (by first|omega|exact Nat.zero_add _|exact congrArg (·+_) (Nat.zero_add _)) (by decide) rfl ?_|refine rd.T (j:=6) XbN hy (by first|omega|exact Nat.zero_add _|exact congrArg (·+_) (Nat.zero_add _)) (by decide) rfl ?_|refine rd.T (j:=7) XbN hy (by first|omega|exact Nat.zero_add _|exact congrArg (·+_) (Nat.zero_add _)) (by decide) rfl ?_|refine rd.T (j:=8) XbN hy (by first|omega|exact Nat.zero_add _|exact congrArg (·+_) (Nat.zero_add _)) (by decide) rfl ?_|refine rd.T (j:=9) XbN hy (by first|omega|exact Nat.zero_add _|exact congrArg (·+_) (Nat.zero_add _)) (by decide) rfl ?_|refine rd.T (j:=10) XbN hy (by first|omega|exact Nat.zero_add _|exact congrArg (·+_) (Nat.zero_add _)) (by decide) rfl ?_|refine rd.T (j:=11) XbN hy (by first|omega|exact Nat.zero_add _|exact congrArg (·+_) (Nat.zero_add _)) (by decide) rfl ?_|refine rd.T (j:=0) Xdm hy (by first|omega|exact Nat.zero_add _|exact congrArg (·+_) (Nat.zero_add _)) (by decide) rfl ?_|refine rd.T (j:=1) Xdm hy (by first|omega|exact Nat.zero_add _|exact congrArg (·+_) (Nat.zero_add _)) (by decide) rfl ?_|refine rd.T (j:=2) Xdm hy (by first|omega|exact Nat.zero_add _|exact congrArg (·+_) (Nat.zero_add _)) (by decide) rfl ?_|refine rd.T (j:=3) Xdm hy (by first|omega|exact Nat.zero_add _|exact congrArg (·+_) (Nat.zero_add _)) (by decide) rfl ?_|refine rd.T (j:=4) Xdm hy (by first|omega|exact Nat.zero_add _|exact congrArg (·+_) (Nat.zero_add _)) (by decide) rfl ?_|refine rd.T (j:=5) Xdm hy (by first|omega|exact Nat.zero_add _|exact congrArg (·+_) (Nat.zero_add _)) (by decide) rfl ?_|refine rd.T (j:=0) XfD hy (by first|omega|exact Nat.zero_add _|exact congrArg (·+_) (Nat.zero_add _)) (by decide) rfl ?_|refine rd.T (j:=1) XfD hy (by first|omega|exact Nat.zero_add _|exact congrArg (·+_) (Nat.zero_add _)) (by decide) rfl ?_|refine rd.T (j:=0) Xbp hy (by first|omega|exact Nat.zero_add _|exact congrArg (·+_) (Nat.zero_add _)) (by decide) rfl ?_|refine rd.T (j:=1) Xbp hy (by first|omega|exact Nat.zero_add _|exact congrArg (·+_) (Nat.zero_add _)) (by decide) rfl ?_|refine rd.T (j:=2) Xbp hy (by first|omega|exact Nat.zero_add _|exact congrArg (·+_) (Nat.zero_add _)) (by decide) rfl ?_|refine rd.T (j:=3) Xbp hy (by first|omega|exact Nat.zero_add _|exact congrArg (·+_) (Nat.zero_add _)) (by decide) rfl ?_|refine rd.T (j:=4) Xbp hy (by first|omega|exact Nat.zero_add _|exact congrArg (·+_) (Nat.zero_add _)) (by decide) rfl ?_|refine rd.T (j:=5) Xbp hy (by first|omega|exact Nat.zero_add _|exact congrArg (·+_) (Nat.zero_add _)) (by decide) rfl ?_|refine rd.T (j:=6) Xbp hy (by first|omega|exact Nat.zero_add _|exact congrArg (·+_) (Nat.zero_add _)) (by decide) rfl ?_|refine rd.T (j:=7) Xbp hy (by first|omega|exact Nat.zero_add _|exact congrArg (·+_) (Nat.zero_add _)) (by decide) rfl ?_|refine rd.T (j:=8) Xbp hy (by first|omega|exact Nat.zero_add _|exact congrArg (·+_) (Nat.zero_add _)) (by decide) rfl ?_|refine rd.T (j:=9) Xbp hy (by first|omega|exact Nat.zero_add _|exact congrArg (·+_) (Nat.zero_add _)) (by decide) rfl ?_|refine rd.T (j:=10) Xbp hy (by first|omega|exact Nat.zero_add _|exact congrArg (·+_) (Nat.zero_add _)) (by decide) rfl ?_|refine rd.T (j:=11) Xbp hy (by first|omega|exact Nat.zero_add _|exact congrArg (·+_) (Nat.zero_add _)) (by decide) rfl ?_|refine rd.T (j:=12) Xbp hy (by first|omega|exact Nat.zero_add _|exact congrArg (·+_) (Nat.zero_add _)) (by decide) rfl ?_|refine rd.T (j:=13) Xbp hy (by first|omega|exact Nat.zero_add _|exact congrArg (·+_) (Nat.zero_add _)) (by decide) rfl ?_|refine rd.T (j:=14) Xbp hy (by first|omega|exact Nat.zero_add _|exact congrArg (·+_) (Nat.zero_add _)) (by decide) rfl ?_|refine rd.T (j:=15) Xbp hy (by first|omega|exact Nat.zero_add _|exact congrArg (·+_) (Nat.zero_add _)) (by decide) rfl ?_|refine rd.T (j:=0) XcQ hy (by first|omega|exact Nat.zero_add _|exact congrArg (·+_) (Nat.zero_add _)) (by decide) rfl ?_|refine rd.T (j:=1) XcQ hy (by first|omega|exact Nat.zero_add _|exact congrArg (·+_) (Nat.zero_add _)) (by decide) rfl ?_|refine rd.T (j:=2) XcQ hy (by first|omega|exact Nat.zero_add _|exact congrArg (·+_) (Nat.zero_add _)) (by decide) rfl ?_|refine rd.T (j:=3) XcQ hy (by first|omega|exact Nat.zero_add _|exact congrArg (·+_) (Nat.zero_add _)) (by decide) rfl ?_|refine rd.T (j:=4) XcQ hy (by first|omega|exact Nat.zero_add _|exact congrArg (·+_) (Nat.zero_add _)) (by decide) rfl ?_|refine rd.T (j:=5) XcQ hy (by first|omega|exact Nat.zero_add _|exact congrArg (·+_) (Nat.zero_add _)) (by decide) rfl ?_|refine rd.T (j:=6) XcQ hy (by first|omega|exact Nat.zero_add _|exact congrArg (·+_) (Nat.zero_add _)) (by decide) rfl ?_|refine rd.T (j:=7) XcQ hy (by first|omega|exact Nat.zero_add _|exact congrArg (·+_) (Nat.zero_add _)) (by decide) rfl ?_|refine rd.T (j:=8) XcQ hy (by first|omega|exact Nat.zero_add _|exact congrArg (·+_) (Nat.zero_add _)) (by decide) rfl ?_|refine rd.T (j:=0) Xdc hy (by first|omega|exact Nat.zero_add _|exact congrArg (·+_) (Nat.zero_add _)) (by decide) rfl ?_|refine rd.T (j:=1) Xdc hy (by first|omega|exact Nat.zero_add _|exact congrArg (·+_) (Nat.zero_add _)) (by decide) rfl ?_|refine rd.T (j:=2) Xdc hy (by first|omega|exact Nat.zero_add _|exact congrArg (·+_) (Nat.zero_add _)) (by decide) rfl ?_|refine rd.T (j:=0) Xb4 hy (by first|omega|exact Nat.zero_add _|exact congrArg (·+_) (Nat.zero_add _)) (by decide) rfl ?_|refine rd.T (j:=1) Xb4 hy (by first|omega|exact Nat.zero_add _|exact congrArg (·+_) (Nat.zero_add _)) (by decide) rfl ?_|refine rd.T (j:=2) Xb4 hy (by first|omega|exact Nat.zero_add _|exact congrArg (·+_) (Nat.zero_add _)) (by decide) rfl ?_|refine rd.T (j:=3) Xb4 hy (by first|omega|exact Nat.zero_add _|exact congrArg (·+_) (Nat.zero_add _)) (by decide) rfl ?_|refine rd.T (j:=4) Xb4 hy (by first|omega|exact Nat.zero_add _|exact congrArg (·+_) (Nat.zero_add _)) (by decide) rfl ?_|refine rd.T (j:=5) Xb4 hy (by first|omega|exact Nat.zero_add _|exact congrArg (·+_) (Nat.zero_add _)) (by decide) rfl ?_|refine rd.T (j:=6) Xb4 hy (by first|omega|exact Nat.zero_add _|exact congrArg (·+_) (Nat.zero_add _)) (by decide) rfl ?_|refine rd.T (j:=7) Xb4 hy (by first|omega|exact Nat.zero_add _|exact congrArg (·+_) (Nat.zero_add _)) (by decide) rfl ?_|refine rd.T (j:=0) Xdw hy (by first|omega|exact Nat.zero_add _|exact congrArg (·+_) (Nat.zero_add _)) (by decide) rfl ?_|refine rd.T (j:=1) Xdw hy (by first|omega|exact Nat.zero_add _|exact congrArg (·+_) (Nat.zero_add _)) (by decide) rfl ?_|refine rd.T (j:=2) Xdw hy (by first|omega|exact Nat.zero_add _|exact congrArg (·+_) (Nat.zero_add _)) (by decide) rfl ?_|refine rd.T (j:=0) XfH hy (by first|omega|exact Nat.zero_add _|exact congrArg (·+_) (Nat.zero_add _)) (by decide) rfl ?_|refine rd.T (j:=1) XfH hy (by first|omega|exact Nat.zero_add _|exact congrArg (·+_) (Nat.zero_add _)) (by decide) rfl ?_|refine rd.T (j:=0) XbX hy (by first|omega|exact Nat.zero_add _|exact congrArg (·+_) (Nat.zero_add _)) (by decide) rfl ?_|refine rd.T (j:=1) XbX hy (by first|omega|exact Nat.zero_add _|exact congrArg (·+_) (Nat.zero_add _)) (by decide) rfl ?_|refine rd.T (j:=2) XbX hy (by first|omega|exact Nat.zero_add _|exact congrArg (·+_) (Nat.zero_add _)) (by decide) rfl ?_|refine rd.T (j:=3) XbX hy (by first|omega|exact Nat.zero_add _|exact congrArg (·+_) (Nat.zero_add _)) (by decide) rfl ?_|refine rd.T (j:=4) XbX hy (by first|omega|exact Nat.zero_add _|exact congrArg (·+_) (Nat.zero_add _)) (by decide) rfl ?_|refine rd.T (j:=5) XbX hy (by first|omega|exact Nat.zero_add _|exact congrArg (·+_) (Nat.zero_add _)) (by decide) rfl ?_|refine rd.T (j:=6) XbX hy (by first|omega|exact Nat.zero_add _|exact congrArg (·+_) (Nat.zero_add _)) (by decide) rfl ?_|refine rd.T (j:=7) XbX hy (by first|omega|exact Nat.zero_add _|exact congrArg (·+_) (Nat.zero_add _)) (by decide) rfl ?_|refine rd.T (j:=8) XbX hy (by first|omega|exact Nat.zero_add _|exact congrArg (·+_) (Nat.zero_add _)) (by decide) rfl ?_|refine rd.T (j:=9) XbX hy (by first|omega|exact Nat.zero_add _|exact congrArg (·+_) (Nat.zero_add _)) (by decide) rfl ?_|refine rd.T (j:=10) XbX hy (by first|omega|exact Nat.zero_add _|exact congrArg (·+_) (Nat.zero_add _)) (by decide) rfl ?_|refine rd.T (j:=11) XbX hy (by first|omega|exact Nat.zero_add _|exact congrArg (·+_) (Nat.zero_add _)) (by decide) rfl ?_);conv=>whnf)
  | (cases h;done)
  | (cases h;(try cases hc);first|exact Res.y|exact Res.of [] rfl (by repeat' first|exact Xtb|apply XtI (by first|rfl|exact XtT|exact XuL|exact Xuh|exact XbA XbP|exact XbA XbD|exact XbA XbU|exact XbA Xa2|exact XbA XaU|exact XbA XbR|exact XbA Xbl|exact XbA Xba|exact XbA XbE|exact XbA XbT|exact XbA Xbj|exact XbA XbQ|exact XbA Xbx|exact XbA Xa0|exact XbA XaZ|exact XbA Xbo|exact XbA Xbk|exact Xcz _ _ (by simp only [Xbt.flatL,Xee];rfl)) (by first|exact Xht rfl|exact Xi7 rfl)) (by decide) (by repeat' first|exact Xtq|apply XtF (by decide)|apply XUl rfl) (by repeat' first|exact Xsw|apply XTL|apply XTH (by first|rfl|exact XtT|exact XuL|exact Xuh|exact XbA XbP|exact XbA XbD|exact XbA XbU|exact XbA Xa2|exact XbA XaU|exact XbA XbR|exact XbA Xbl|exact XbA Xba|exact XbA XbE|exact XbA XbT|exact XbA Xbj|exact XbA XbQ|exact XbA Xbx|exact XbA Xa0|exact XbA XaZ|exact XbA Xbo|exact XbA Xbk|exact Xcz _ _ (by simp only [Xbt.flatL,Xee];rfl)) (by first|exact Xi7 rfl|exact Xht rfl))|exact Res.of [_] rfl (by repeat' first|exact Xtb|apply XtI (by first|rfl|exact XtT|exact XuL|exact Xuh|exact XbA XbP|exact XbA XbD|exact XbA XbU|exact XbA Xa2|exact XbA XaU|exact XbA XbR|exact XbA Xbl|exact XbA Xba|exact XbA XbE|exact XbA XbT|exact XbA Xbj|exact XbA XbQ|exact XbA Xbx|exact XbA Xa0|exact XbA XaZ|exact XbA Xbo|exact XbA Xbk|exact Xcz _ _ (by simp only [Xbt.flatL,Xee];rfl)) (by first|exact Xht rfl|exact Xi7 rfl)) (by decide) (by repeat' first|exact Xtq|apply XtF (by decide)|apply XUl rfl) (by repeat' first|exact Xsw|apply XTL|apply XTH (by first|rfl|exact XtT|exact XuL|exact Xuh|exact XbA XbP|exact XbA XbD|exact XbA XbU|exact XbA Xa2|exact XbA XaU|exact XbA XbR|exact XbA Xbl|exact XbA Xba|exact XbA XbE|exact XbA XbT|exact XbA Xbj|exact XbA XbQ|exact XbA Xbx|exact XbA Xa0|exact XbA XaZ|exact XbA Xbo|exact XbA Xbk|exact Xcz _ _ (by simp only [Xbt.flatL,Xee];rfl)) (by first|exact Xi7 rfl|exact Xht rfl))|exact Res.of [_,_] rfl (by repeat' first|exact Xtb|apply XtI (by first|rfl|exact XtT|exact XuL|exact Xuh|exact XbA XbP|exact XbA XbD|exact XbA XbU|exact XbA Xa2|exact XbA XaU|exact XbA XbR|exact XbA Xbl|exact XbA Xba|exact XbA XbE|exact XbA XbT|exact XbA Xbj|exact XbA XbQ|exact XbA Xbx|exact XbA Xa0|exact XbA XaZ|exact XbA Xbo|exact XbA Xbk|exact Xcz _ _ (by simp only [Xbt.flatL,Xee];rfl)) (by first|exact Xht rfl|exact Xi7 rfl)) (by decide) (by repeat' first|exact Xtq|apply XtF (by decide)|apply XUl rfl) (by repeat' first|exact Xsw|apply XTL|apply XTH (by first|rfl|exact XtT|exact XuL|exact Xuh|exact XbA XbP|exact XbA XbD|exact XbA XbU|exact XbA Xa2|exact XbA XaU|exact XbA XbR|exact XbA Xbl|exact XbA Xba|exact XbA XbE|exact XbA XbT|exact XbA Xbj|exact XbA XbQ|exact XbA Xbx|exact XbA Xa0|exact XbA XaZ|exact XbA Xbo|exact XbA Xbk|exact Xcz _ _ (by simp only [Xbt.flatL,Xee];rfl)) (by first|exact Xi7 rfl|exact Xht rfl))|exact Res.of [_,_,_] rfl (by repeat' first|exact Xtb|apply XtI (by first|rfl|exact XtT|exact XuL|exact Xuh|exact XbA XbP|exact XbA XbD|exact XbA XbU|exact XbA Xa2|exact XbA XaU|exact XbA XbR|exact XbA Xbl|exact XbA Xba|exact XbA XbE|exact XbA XbT|exact XbA Xbj|exact XbA XbQ|exact XbA Xbx|exact XbA Xa0|exact XbA XaZ|exact XbA Xbo|exact XbA Xbk|exact Xcz _ _ (by simp only [Xbt.flatL,Xee];rfl)) (by first|exact Xht rfl|exact Xi7 rfl)) (by decide) (by repeat' first|exact Xtq|apply XtF (by decide)|apply XUl rfl) (by repeat' first|exact Xsw|apply XTL|apply XTH (by first|rfl|exact XtT|exact XuL|exact Xuh|exact XbA XbP|exact XbA XbD|exact XbA XbU|exact XbA Xa2|exact XbA XaU|exact XbA XbR|exact XbA Xbl|exact XbA Xba|exact XbA XbE|exact XbA XbT|exact XbA Xbj|exact XbA XbQ|exact XbA Xbx|exact XbA Xa0|exact XbA XaZ|exact XbA Xbo|exact XbA Xbk|exact Xcz _ _ (by simp only [Xbt.flatL,Xee];rfl)) (by first|exact Xi7 rfl|exact Xht rfl))|exact Res.of [_,_,_,_] rfl (by repeat' first|exact Xtb|apply XtI (by first|rfl|exact XtT|exact XuL|exact Xuh|exact XbA XbP|exact XbA XbD|exact XbA XbU|exact XbA Xa2|exact XbA XaU|exact XbA XbR|exact XbA Xbl|exact XbA Xba|exact XbA XbE|exact XbA XbT|exact XbA Xbj|exact XbA XbQ|exact XbA Xbx|exact XbA Xa0|exact XbA XaZ|exact XbA Xbo|exact XbA Xbk|exact Xcz _ _ (by simp only [Xbt.flatL,Xee];rfl)) (by first|exact Xht rfl|exact Xi7 rfl)) (by decide) (by repeat' first|exact Xtq|apply XtF (by decide)|apply XUl rfl) (by repeat' first|exact Xsw|apply XTL|apply XTH (by first|rfl|exact XtT|exact XuL|exact Xuh|exact XbA XbP|exact XbA XbD|exact XbA XbU|exact XbA Xa2|exact XbA XaU|exact XbA XbR|exact XbA Xbl|exact XbA Xba|exact XbA XbE|exact XbA XbT|exact XbA Xbj|exact XbA XbQ|exact XbA Xbx|exact XbA Xa0|exact XbA XaZ|exact XbA Xbo|exact XbA Xbk|exact Xcz _ _ (by simp only [Xbt.flatL,Xee];rfl)) (by first|exact Xi7 rfl|exact Xht rfl)))):G:=g
theorem okA {f : Nat} {s : Xbz} (hfn : ∃ fn, Tryz.prog.funcs[f]? = some fn ∧ fn.name ≠ "runtime.NumGoroutine" ∧ fn.body.isSome = true)
 (H:∀ ar os r,XhH (XvP s.modes) os→s.run ar (Xlq os)=some r→∃ c,Xj4 (XaI tab) f ar=some c∧XaJ Tryz.prog f os.length ⟨c,[],Xqy 0 os,os.length⟩ (fun v' H' _=>Res os.length r v' H'):=by
 intro ar os r ha hr
 generalize hc:Xlq os=C at hr
 repeat' first
  | (replace hr:=XsQ.elim hr;rcases hr with hr|hr)
  | (replace hr:=dV.elim hr;obtain ⟨v,l,y,rfl,e,hr⟩:=hr;first|obtain rfl:=XvS _ _ _ e|obtain rfl:=Xvf _ _ e|obtain rfl:=XAW _ _ e|obtain rfl:=Xqc _ _ e|obtain rfl:=XrG _ _ e|obtain rfl:=Xqv _ _ e|obtain rfl:=Xrr _ _ e|obtain rfl:=Xn2 _ _ e|obtain rfl:=Xny _ _ e|obtain rfl:=Xr6 _ _ e|obtain rfl:=Xqk _ _ e|obtain rfl:=XoQ _ _ e|obtain rfl:=Xqx _ _ e|obtain rfl:=Xrm _ _ e|obtain rfl:=XpB _ _ e|obtain rfl:=Xsf _ _ e|obtain rfl:=XsD _ _ e|obtain rfl:=Xn9 _ _ e|obtain rfl:=Xox _ _ e|obtain rfl:=XsH _ _ e|obtain rfl:=Xp1 _ _ e)
  | (have hq:=dSl.elim hr;clear hr;obtain ⟨c,l,C,y,rfl,rfl,e,hr⟩:=hq;first|obtain rfl:=XRN e|obtain rfl:=XTD e|obtain rfl:=XVq e|obtain rfl:=XiD XkW e|obtain rfl:=XiD Xkv e|obtain rfl:=XiD Xk5 e|obtain rfl:=XiD XiP e|obtain rfl:=XiD Xin e|obtain rfl:=XiD Xk2 e|obtain rfl:=XiD Xj1 e|obtain rfl:=XiD Xjt e|obtain rfl:=XiD Xkx e|obtain rfl:=XiD Xk6 e|obtain rfl:=XiD XjV e|obtain rfl:=XiD XkZ e|obtain rfl:=XiD Xly e|obtain rfl:=XiD XiK e|obtain rfl:=XiD Xhj e|obtain rfl:=XiD XlA e|obtain rfl:=XiD XjZ e)
  | (have hq:=dPt.elim hr;clear hr;obtain ⟨c,l,C,y,rfl,rfl,e,hr⟩:=hq;first|obtain rfl:=XkW _ _ e|obtain rfl:=Xkv _ _ e|obtain rfl:=Xk5 _ _ e|obtain rfl:=XiP _ _ e|obtain rfl:=Xin _ _ e|obtain rfl:=Xk2 _ _ e|obtain rfl:=Xj1 _ _ e|obtain rfl:=Xjt _ _ e|obtain rfl:=Xkx _ _ e|obtain rfl:=Xk6 _ _ e|obtain rfl:=XjV _ _ e|obtain rfl:=XkZ _ _ e|obtain rfl:=Xly _ _ e|obtain rfl:=XiK _ _ e|obtain rfl:=Xhj _ _ e|obtain rfl:=XlA _ _ e|obtain rfl:=XjZ _ _ e|obtain rfl:=Xxo (XvS _) e|obtain rfl:=Xxo Xvf e|obtain rfl:=Xxo XAW e)
  | (have hq:=dTr.elim hr;clear hr;obtain ⟨v,l,c,C,y,rfl,rfl,e,hr⟩:=hq;(first|obtain ⟨rfl,rfl⟩:=XnN e);simp only [List.nil_append,List.cons_append] at hc)
  | (have hq:=dNl.elim hr;clear hr;obtain ⟨l,C,rfl,rfl,hr⟩:=hq;simp only [List.replicate,List.nil_append,List.cons_append] at hc)
  | (replace hr:=dFin hr;obtain ⟨rfl,rfl,x,h,rfl⟩:=hr;(repeat (first|(replace ha:=Xw4 ha hc;obtain ⟨os,rfl,ha,hc⟩:=ha)|(replace ha:=XwX ha hc;obtain ⟨os,rfl,ha,hc⟩:=ha)));obtain rfl:=XAt hc;first|exact ⟨_,rfl,hL (h:=h) ..⟩|exact ⟨_,rfl,hN (h:=h) ..⟩)):XbB Tryz.prog f s:=XbB.XGe XaE H hfn
theorem Xkz {P:Program} {f base fn nt:Nat} {e e':Env} {todo todo':List XgK} {ds ds':List Nat} {ret:Bool} {up up':List Xb0} {H H':Hp} {top top':Nat} {R:Value→Hp→Nat→Prop}
 (h:XaJ P f base ⟨⟨fn,nt,e',todo',ds',ret,none⟩,up',H',top'⟩ R) (m:List (Nat×Nat)) (hc:XBB base top' m=true) (he:reE (XaI m) e e':=by repeat' first|exact trivial|refine ⟨⟨_,rfl,rfl⟩,?_⟩|refine ⟨⟨_,_,rfl,rfl,.cellsF (by simp only [Xbt.flatL,Xee];rfl)⟩,?_⟩|refine ⟨⟨_,_,rfl,rfl,.rowF (Xku _ _) id⟩,?_⟩|refine ⟨⟨_,_,rfl,rfl,.rowF (Xn3 _) id⟩,?_⟩|refine ⟨⟨_,_,rfl,rfl,.rowF (Xn5 _) id⟩,?_⟩|refine ⟨⟨_,_,rfl,rfl,.rowF (Xoc (by first|exact XbP|exact XbD|exact XbU|exact Xa2|exact XaU|exact XbR|exact Xbl|exact Xba|exact XbE|exact XbT|exact Xbj|exact XbQ|exact Xbx|exact Xa0|exact XaZ|exact Xbo|exact Xbk) _) id⟩,?_⟩|refine ⟨⟨_,_,rfl,rfl,.tyF (Xku _ _)⟩,?_⟩|refine ⟨⟨_,_,rfl,rfl,.ty rfl⟩,?_⟩|refine ⟨⟨_,_,rfl,rfl,.cells rfl⟩,?_⟩|refine ⟨⟨_,_,rfl,rfl,.row rfl id⟩,?_⟩|refine ⟨⟨_,_,rfl,rfl,.cr rfl⟩,?_⟩|refine ⟨⟨_,_,rfl,rfl,.rc rfl⟩,?_⟩|refine ⟨⟨_,_,rfl,rfl,.marks⟩,?_⟩|refine ⟨⟨_,_,rfl,rfl,.siter _ _⟩,?_⟩|refine ⟨⟨_,_,rfl,rfl,.loop rfl rfl rfl rfl (by repeat' first|exact trivial|refine ⟨rfl,?_⟩) rfl rfl rfl rfl⟩,?_⟩) (hH:reH (XaI m) H H':=by repeat' first|exact trivial|refine ⟨⟨_,rfl,rfl⟩,?_⟩|refine ⟨⟨_,_,rfl,rfl,.cellsF (by simp only [Xbt.flatL,Xee];rfl)⟩,?_⟩|refine ⟨⟨_,_,rfl,rfl,.rowF (Xku _ _) id⟩,?_⟩|refine ⟨⟨_,_,rfl,rfl,.rowF (Xn3 _) id⟩,?_⟩|refine ⟨⟨_,_,rfl,rfl,.rowF (Xn5 _) id⟩,?_⟩|refine ⟨⟨_,_,rfl,rfl,.rowF (Xoc (by first|exact XbP|exact XbD|exact XbU|exact Xa2|exact XaU|exact XbR|exact Xbl|exact Xba|exact XbE|exact XbT|exact Xbj|exact XbQ|exact Xbx|exact Xa0|exact XaZ|exact Xbo|exact Xbk) _) id⟩,?_⟩|refine ⟨⟨_,_,rfl,rfl,.tyF (Xku _ _)⟩,?_⟩|refine ⟨⟨_,_,rfl,rfl,.ty rfl⟩,?_⟩|refine ⟨⟨_,_,rfl,rfl,.cells rfl⟩,?_⟩|refine ⟨⟨_,_,rfl,rfl,.row rfl id⟩,?_⟩|refine ⟨⟨_,_,rfl,rfl,.cr rfl⟩,?_⟩|refine ⟨⟨_,_,rfl,rfl,.rc rfl⟩,?_⟩|refine ⟨⟨_,_,rfl,rfl,.marks⟩,?_⟩|refine ⟨⟨_,_,rfl,rfl,.siter _ _⟩,?_⟩|refine ⟨⟨_,_,rfl,rfl,.loop rfl rfl rfl rfl (by repeat' first|exact trivial|refine ⟨rfl,?_⟩) rfl rfl rfl rfl⟩,?_⟩)
 (ht:XE7 (XaI m) todo'=some todo:=by rfl) (hd:XFG (XaI m) ds'=some ds:=by rfl) (hu:reU (XaI m) up up':=by trivial) :
 XaJ P f base ⟨⟨fn,nt,e,todo,ds,ret,none⟩,up,H,top⟩ R:=XaJ.re h m hc he hH ht hd hu
theorem XF1 {P:Program} {f base fn nt:Nat} {e e':Env} {todo todo':List XgK} {ds ds':List Nat} {ret:Bool} {up up':List Xb0} {H H':Hp} {top top':Nat} {R:Value→Hp→Nat→Prop}
 (h:XaJ P f base ⟨⟨fn,nt,e',todo',ds',ret,none⟩,up',H',top'⟩ R) (m:List (Nat×Nat)) (hc:XBB base top' m=true) (he:reE (XaI m) e e':=by repeat' first|exact trivial|refine ⟨⟨_,rfl,rfl⟩,?_⟩|refine ⟨⟨_,_,rfl,rfl,.cellsF (by simp only [Xbt.flatL,Xee];rfl)⟩,?_⟩|refine ⟨⟨_,_,rfl,rfl,.rowF (Xku _ _) id⟩,?_⟩|refine ⟨⟨_,_,rfl,rfl,.rowF (Xn3 _) id⟩,?_⟩|refine ⟨⟨_,_,rfl,rfl,.rowF (Xn5 _) id⟩,?_⟩|refine ⟨⟨_,_,rfl,rfl,.rowF (Xoc (by first|exact XbP|exact XbD|exact XbU|exact Xa2|exact XaU|exact XbR|exact Xbl|exact Xba|exact XbE|exact XbT|exact Xbj|exact XbQ|exact Xbx|exact Xa0|exact XaZ|exact Xbo|exact Xbk) _) id⟩,?_⟩|refine ⟨⟨_,_,rfl,rfl,.tyF (Xku _ _)⟩,?_⟩|refine ⟨⟨_,_,rfl,rfl,.ty rfl⟩,?_⟩|refine ⟨⟨_,_,rfl,rfl,.cells rfl⟩,?_⟩|refine ⟨⟨_,_,rfl,rfl,.row rfl id⟩,?_⟩|refine ⟨⟨_,_,rfl,rfl,.cr rfl⟩,?_⟩|refine ⟨⟨_,_,rfl,rfl,.rc rfl⟩,?_⟩|refine ⟨⟨_,_,rfl,rfl,.marks⟩,?_⟩|refine ⟨⟨_,_,rfl,rfl,.siter _ _⟩,?_⟩|refine ⟨⟨_,_,rfl,rfl,.loop rfl rfl rfl rfl (by repeat' first|exact trivial|refine ⟨rfl,?_⟩) rfl rfl rfl rfl⟩,?_⟩) (hH:reH (XaI m) H H':=by repeat' first|exact trivial|refine ⟨⟨_,rfl,rfl⟩,?_⟩|refine ⟨⟨_,_,rfl,rfl,.cellsF (by simp only [Xbt.flatL,Xee];rfl)⟩,?_⟩|refine ⟨⟨_,_,rfl,rfl,.rowF (Xku _ _) id⟩,?_⟩|refine ⟨⟨_,_,rfl,rfl,.rowF (Xn3 _) id⟩,?_⟩|refine ⟨⟨_,_,rfl,rfl,.rowF (Xn5 _) id⟩,?_⟩|refine ⟨⟨_,_,rfl,rfl,.rowF (Xoc (by first|exact XbP|exact XbD|exact XbU|exact Xa2|exact XaU|exact XbR|exact Xbl|exact Xba|exact XbE|exact XbT|exact Xbj|exact XbQ|exact Xbx|exact Xa0|exact XaZ|exact Xbo|exact Xbk) _) id⟩,?_⟩|refine ⟨⟨_,_,rfl,rfl,.tyF (Xku _ _)⟩,?_⟩|refine ⟨⟨_,_,rfl,rfl,.ty rfl⟩,?_⟩|refine ⟨⟨_,_,rfl,rfl,.cells rfl⟩,?_⟩|refine ⟨⟨_,_,rfl,rfl,.row rfl id⟩,?_⟩|refine ⟨⟨_,_,rfl,rfl,.cr rfl⟩,?_⟩|refine ⟨⟨_,_,rfl,rfl,.rc rfl⟩,?_⟩|refine ⟨⟨_,_,rfl,rfl,.marks⟩,?_⟩|refine ⟨⟨_,_,rfl,rfl,.siter _ _⟩,?_⟩|refine ⟨⟨_,_,rfl,rfl,.loop rfl rfl rfl rfl (by repeat' first|exact trivial|refine ⟨rfl,?_⟩) rfl rfl rfl rfl⟩,?_⟩)
 (ht:XE7 (XaI m) todo'=some todo:=by rfl) (hd:XFG (XaI m) ds'=some ds:=by rfl) (hu:reU (XaI m) up up':=by repeat' first|exact trivial|refine ⟨⟨rfl,rfl,rfl,rfl,rfl,?_,rfl,rfl⟩,?_⟩|refine ⟨⟨_,rfl,rfl⟩,?_⟩) :
 XaJ P f base ⟨⟨fn,nt,e,todo,ds,ret,none⟩,up,H,top⟩ R:=XaJ.re h m hc he hH ht hd hu
def Xil (n1:Int):Option (Sum Int Int):=
 cond (decide (n1>65535))
  (
  let t:=wI .i64 ((XnT .i64 n1 65535)+(n1.fdiv (2^16)))
  some (.inl t))
  (
  some (.inr (n1)))
def Xll (n:Int):Option Int:=
 iter (fun st=>Xil st) FUEL n
def Xwn (x:Int):XcS:=⟨.int .i64 x,[],[]⟩
abbrev XeM:=Int→Option Int
def r165 (g:XeM):Dec:=dV (asI .i64) fun (y0:Int)=>XdJ (ofG (g y0) Xwn)
theorem XT1 {g:XeM} {y0:Int} {x:Int} (hx:g y0=some x):r165 g [.int .i64 y0] []=some (Xwn x):=(XaP (Xen _)).trans (XaN hx)
def s165 (g:XeM):Xbz:=⟨[.v],r165 g⟩
theorem Xyg {g:XeM} {y0:Int} {x:Int} (hx:g y0=some x):(s165 g).run [.int .i64 y0] []=some (Xwn x):=XT1 hx
abbrev Xy4:List (Nat×Xbz):=[]
def Xlt (n1:Int):VM:=
 ⟨⟨165,11,[(0,.int .i64 n1)],[.code XAl,.inLoop XAl,.inBlock 0,.code XAn],[],false,none⟩,[],[],0⟩
theorem XzD (hS:Xaj Tryz.prog (XaI (Xy4))) (res:Int):∀ fuel (st:Int) (o:Int),iter (fun st=>Xil st) fuel st=some o→(o=res) →
 XaJ Tryz.prog 165 0 (Xlt st) (fun v H _=>Res 0 (Xwn res) v H):=by
 intro fuel st o h hc
 refine XcX (head:=fun st=>Xlt st) (C:=fun o=>(o=res)) ?_ fuel st o h hc
 clear h hc o st fuel
 intro n1 o h hc
 replace h:Xil n1=some o:=h
 show XaJ Tryz.prog 165 0 (Xlt n1) (fun v H _=>Res 0 (Xwn res) v H)
 unfold Xil at h
 refine Xa7 XaE hS true 3000 ?_
 conv=>whnf
 refine br.h2 h (by rfl) ?_ ?_
 ·clear h;intro hb h;conv=>whnf
  exact W
 clear h;intro hb h;conv=>whnf
 let t:Int:=wI .i64 ((XnT .i64 n1 65535)+(n1.fdiv (2^16)))
 cases h;simp only [Sum.elim_inl,Xlt] at hc
 exact Xkz hc [] rfl
theorem XGy (hS:Xaj Tryz.prog (XaI (Xy4))) (n:Int) (res:Int) (h:Xll n=some res) :
 XaJ Tryz.prog 165 0 ⟨⟨165,11,[(0,.int .i64 n)],[.code Xyn],[],false,none⟩,[],[],0⟩ (fun v H _=>Res 0 (Xwn res) v H):=by
 unfold Xll at h
 refine Xa7 XaE hS true 3000 ?_
 conv=>whnf
 have hl:=XzD hS res _ _ _ h rfl;simp only [Xlt] at hl
 exact Xkz hl [] rfl
def XcW:XeM:=Xll
theorem XO3:XbB Tryz.prog 165 (s165 XcW):=by
 have hL:=XGy (Xaj.XaK trivial)
 exact okA ⟨Tryz.f165,rfl,by decide,rfl⟩
def Xh1 (XcW:XeM) (s:List UInt8) (xat:Int) (n:Int):Option (Sum (Int×Int) Int):=
 cond (decide (xat<(s.length:Int)))
  (
  Xbn (decide (0≤xat)) <|
  (s[xat.toNat]?).bind fun (b:UInt8)=>
  let t:=wI .i64 ((wI .i64 (b.toNat:Int))*2^8)
  let t1:=decide ((wI .i64 (xat+1))<(s.length:Int))
  cond (t1)
   (
   Xbn (decide (0≤(wI .i64 (xat+1)))) <|
   (s[(wI .i64 (xat+1)).toNat]?).bind fun (b1:UInt8)=>
   let t2:=wI .i64 (n+(XlD .i64 t (wI .i64 (b1.toNat:Int))))
   (XcW t2).bind fun f=>
   some (.inl (wI .i64 (xat+2),f)))
   (
   (XcW (wI .i64 (n+t))).bind fun f1=>
   some (.inl (wI .i64 (xat+2),f1))))
  (
  some (.inr (n)))
def Xmf (XcW:XeM) (s:List UInt8):Option Int:=
 iter (fun st=>Xh1 XcW s st.1 st.2) FUEL (0,0)
def XwP (x:Int):XcS:=⟨.int .i64 x,[],[]⟩
abbrev XeR:=(List UInt8)→Option Int
def r130 (g:XeR):Dec:=dV asS fun (y0:List UInt8)=>XdJ (ofG (g y0) XwP)
theorem XVv {g:XeR} {y0:List UInt8} {x:Int} (hx:g y0=some x):r130 g [.string ⟨⟨y0⟩⟩] []=some (XwP x):=(XaP (XdL)).trans (XaN hx)
def s130 (g:XeR):Xbz:=⟨[.v],r130 g⟩
theorem Xyh {g:XeR} {y0:List UInt8} {x:Int} (hx:g y0=some x):(s130 g).run [.string ⟨⟨y0⟩⟩] []=some (XwP x):=XVv hx
abbrev XBq (XcW:XeM):List (Nat×Xbz):=[(165,s165 XcW)]
def XkI (s:List UInt8) (xat:Int) (n:Int):VM:=
 ⟨⟨189,32,[(0,.func (.yield 3) #[] #[]),(1,.pointer (some ⟨1,0,none⟩)),(3,.int .i64 xat)],[.code Xuv,.inLoop Xuv,.inBlock 0],[],false,none⟩,[⟨130,13,[(3,.pointer (some ⟨0,0,none⟩))],[.inRangeFunc 3,.inBlock 0,.code XAp],[2],false,none⟩],[(0,.cells [.int .i64 n]),(1,.cells [.string ⟨⟨s⟩⟩]),(2,.marks),(3,.loop ⟨.ready,none,130,13,[(3,.pointer (some ⟨0,0,none⟩))],[7],XJA,XJN,2⟩)],4⟩
theorem Xz4 (XcW:XeM) (hS:Xaj Tryz.prog (XaI (XBq XcW))) (s:List UInt8) (res:Int):∀ fuel (st:Int×Int) (o:Int),iter (fun st=>Xh1 XcW s st.1 st.2) fuel st=some o→(o=res) →
 XaJ Tryz.prog 130 0 (XkI s st.1 st.2) (fun v H _=>Res 0 (XwP res) v H):=by
 intro fuel st o h hc
 refine XcX (head:=fun st=>XkI s st.1 st.2) (C:=fun o=>(o=res)) ?_ fuel st o h hc
 clear h hc o st fuel
 intro st o h hc
 obtain ⟨xat,n⟩:=st
 replace h:Xh1 XcW s xat n=some o:=h
 show XaJ Tryz.prog 130 0 (XkI s xat n) (fun v H _=>Res 0 (XwP res) v H)
 unfold Xh1 at h
 refine Xa7 XaE hS true 3000 ?_
 conv=>whnf
 refine br.h2 h (by rfl) ?_ ?_
 ·clear h;intro hb h;conv=>whnf
  exact W
 clear h;intro hb h;conv=>whnf
 replace h:=Xbn.elim h;obtain ⟨hb,h⟩:=h
 try (refine req.intro hb ?_;conv=>whnf)
 replace h:=XcR.elim h;obtain ⟨b,hy,h⟩:=h
 refine rdS.intro hy ?_
 conv=>whnf
 let t:Int:=wI .i64 ((wI .i64 (b.toNat:Int))*2^8)
 let t1:Bool:=decide ((wI .i64 (xat+1))<(s.length:Int))
 refine br.h2 h (by rfl) ?_ ?_
 ·clear h;intro hb h;conv=>whnf
  replace h:=XcR.elim h;obtain ⟨f1,hy,h⟩:=h
  refine Xgw.a (Xyg hy) ?_
  conv=>whnf
  cases h;simp only [Sum.elim_inl,XkI] at hc
  exact XF1 hc [(0,0),(1,1),(2,2),(3,3)] rfl
 clear h;intro hb h;conv=>whnf
 replace h:=Xbn.elim h;obtain ⟨hb,h⟩:=h
 try (refine req.intro hb ?_;conv=>whnf)
 replace h:=XcR.elim h;obtain ⟨b1,hy,h⟩:=h
 refine rdS.intro hy ?_
 conv=>whnf
 let t2:Int:=wI .i64 (n+(XlD .i64 t (wI .i64 (b1.toNat:Int))))
 replace h:=XcR.elim h;obtain ⟨f,hy,h⟩:=h
 refine Xgw.a (Xyg hy) ?_
 conv=>whnf
 cases h;simp only [Sum.elim_inl,XkI] at hc
 exact XF1 hc [(0,0),(1,1),(2,2),(3,3)] rfl
theorem XGk (XcW:XeM) (hS:Xaj Tryz.prog (XaI (XBq XcW))) (s:List UInt8) (res:Int) (h:Xmf XcW s=some res) :
 XaJ Tryz.prog 130 0 ⟨⟨130,13,[(0,.string ⟨⟨s⟩⟩)],[.code XBd],[],false,none⟩,[],[],0⟩ (fun v H _=>Res 0 (XwP res) v H):=by
 unfold Xmf at h
 refine Xa7 XaE hS true 3000 ?_
 conv=>whnf
 have hl:=Xz4 XcW hS _ res _ _ _ h rfl;simp only [XkI] at hl
 exact XF1 hl [(0,0),(1,1),(2,2),(3,3)] rfl
def Xdh:XeR:=Xmf XcW
theorem Xzw:XbB Tryz.prog 130 (s130 Xdh):=by
 have hL:=XGk XcW (Xaj.XaK ⟨XO3,trivial⟩)
 exact okA ⟨Tryz.f130,rfl,by decide,rfl⟩
end Go.Vm.Code
namespace Go.Vm.Code
open Go Go.Vm
def Xic:List UInt8→Nat
 | []=>0
 | [b]=>b.toNat*256
 | b::c::l=>b.toNat*256+c.toNat+Xic l
def norm (n:Nat):Nat:=if n=0 then 0 else (n - 1)%65535+1
theorem norm_eq {n r:Nat} (h1:r≤65535) (h2:r%65535=n%65535) (h3:r=0↔n=0):norm n=r:=by unfold norm;split<;>omega
theorem norm_le (n:Nat):norm n≤65535:=by unfold norm;split<;>omega
theorem Xph (n:Nat):norm n%65535=n%65535:=by unfold norm;split<;>omega
theorem XnX (n:Nat):norm n=0↔n=0:=by unfold norm;split<;>omega
theorem XpF {n:Nat} (h:n≤65535):norm n=n:=norm_eq h rfl Iff.rfl
theorem Xv2 (a b:Nat):norm (norm a+b)=norm (a+b):=
 (norm_eq (norm_le _) (by have h1:=Xph a;have h2:=Xph (norm a+b);omega) (by have h1:=XnX a;have h2:=XnX (norm a+b);omega)).symm
theorem fold_eq {n:Int} (h0:0≤n) (h1:n<2^62):XcW n=some ((norm n.toNat:Nat):Int):=by
 unfold XcW Xll
 refine iter_eq (fun n=>((norm n.toNat:Nat):Int)) (fun n=>0≤n∧n<2^62) (fun n=>n.toNat) ?_ FUEL _ ⟨h0,h1⟩ (by rw [Xgx];omega)
 intro s ⟨a,b⟩
 unfold Xil
 by_cases hs:s>65535
 ·refine .inr ⟨s%65536+s/65536,?_,⟨by omega,by omega⟩,by omega,?_⟩
  ·rw [XaW hs,XjW (m:=65535) 16 (by decide) (by decide) a (by omega),Xs8,Xed (by omega) (by omega)];rfl
  ·have:norm (s%65536+s/65536).toNat=norm s.toNat:=
    (norm_eq (norm_le _) (by have:=Xph (s%65536+s/65536).toNat;omega) (by have:=XnX (s%65536+s/65536).toNat;omega)).symm
   rw [this]
 ·refine .inl ?_
  rw [XaO hs]
  have:=XpF (n:=s.toNat) (by omega)
  simp only [this]
  rw [Int.toNat_of_nonneg a]
theorem XGq {s:List UInt8} {i:Nat} (h:i+1<s.length):Xic (s.drop i)=s[i].toNat*256+s[i+1].toNat+Xic (s.drop (i+2)):=by
 rw [List.drop_eq_getElem_cons (by omega:i<s.length),List.drop_eq_getElem_cons h];rfl
theorem XEH {s:List UInt8} {i:Nat} (h:i+1=s.length):Xic (s.drop i)=s[i].toNat*256:=by
 rw [List.drop_eq_getElem_cons (by omega:i<s.length),List.drop_eq_nil_of_le (by omega)];rfl
theorem XtA {s:List UInt8} {i:Nat} (h:s.length≤i):Xic (s.drop i)=0:=by
 rw [List.drop_eq_nil_of_le h];rfl
theorem XH6 (s:List UInt8) (h:s.length<2^61):Xdh s=some ((norm (Xic s):Nat):Int):=by
 unfold Xdh Xmf
 have key:=iter_eq (step:=fun (st:Int×Int)=>Xh1 XcW s st.1 st.2) (fun (st:Int×Int)=>((norm (st.2.toNat+Xic (s.drop st.1.toNat)):Nat):Int)) (fun (st:Int×Int)=>0≤st.1∧st.1≤s.length+1∧0≤st.2∧st.2≤65535) (fun (st:Int×Int)=>(s.length+2 - st.1).toNat) ?_ FUEL (0,0) ⟨by simp,by simp;omega,by simp,by simp⟩ (by rw [Xgx];simp only;omega)
 ·rw [key];simp
 rintro ⟨p,n⟩ ⟨h1,h2,h3,h4⟩
 simp only at h1 h2 h3 h4 ⊢
 obtain ⟨i,rfl⟩:=Int.eq_ofNat_of_zero_le h1
 obtain ⟨m,rfl⟩:=Int.eq_ofNat_of_zero_le h3
 unfold Xh1
 by_cases hp:i<s.length
 ·by_cases hq:i+1<s.length
  ·have b1:=s[i].toNat_lt
   have b2:=s[i+1].toNat_lt
   refine .inr ⟨(((i+2:Nat):Int),((norm (m+(s[i].toNat*256+s[i+1].toNat)):Nat):Int)),?_,⟨by simp only;omega,by simp only;omega,by simp only;omega,by simp only;have:=norm_le (m+(s[i].toNat*256+s[i+1].toNat));omega⟩,by simp only;omega,?_⟩
   ·simp (disch:=omega) only [Xed,XaA,XaW]
    have e:((i:Int)+1).toNat=i+1:=by omega
    rw [e]
    simp (disch:=omega) only [Int.toNat_natCast,List.getElem?_eq_getElem,Option.bind_some,Xra,Xed,fold_eq]
    congr 3<;>omega
   ·simp only [Int.toNat_natCast]
    rw [Xv2,XGq hq,Nat.add_assoc]
  ·have b1:=s[i].toNat_lt
   refine .inr ⟨(((i+2:Nat):Int),((norm (m+s[i].toNat*256):Nat):Int)),?_,⟨by simp only;omega,by simp only;omega,by simp only;omega,by simp only;have:=norm_le (m+s[i].toNat*256);omega⟩,by simp only;omega,?_⟩
   ·simp (disch:=omega) only [Xed,XaA,XaW,XaO,Int.toNat_natCast,List.getElem?_eq_getElem,Option.bind_some,fold_eq]
    congr 3<;>omega
   ·simp only [Int.toNat_natCast]
    rw [Xv2,XtA (i:=i+2) (by omega),Nat.add_zero,XEH (i:=i) (by omega)]
 ·refine .inl ?_
  simp (disch:=omega) only [XaO]
  simp only [Int.toNat_natCast]
  rw [XtA (by omega),Nat.add_zero,XpF (by omega)]
end Go.Vm.Code
namespace Go.Vm
open Go
def be (n:Nat):Nat→List UInt8
 | 0=>[]
 | r+1=>UInt8.ofNat (n/256^r)::be n r
def Xgf (l:List UInt8):Nat:=l.foldl (fun n b=>n*256+b.toNat) 0
@[simp] theorem Xq2 (n:Nat):∀ k,(be n k).length=k
 | 0=>rfl
 | k+1=>by simp [be,Xq2 n k]
theorem Xm0 (n:Nat):∀ k,be n (k+1)=be (n/256) k++[UInt8.ofNat n]
 | 0=>by simp [be]
 | k+1=>by
   rw [be,Xm0 n k,be,Nat.div_div_eq_div_mul,Nat.pow_succ,Nat.mul_comm 256];rfl
theorem XqO (n:Nat):∀ k,be (n%256^k) k=be n k
 | 0=>rfl
 | k+1=>by
   rw [Xm0,Xm0,Nat.pow_succ,Nat.mul_comm,Nat.mod_mul_right_div_self,XqO (n/256) k]
   congr 2
   apply UInt8.toNat_inj.1
   simp only [UInt8.toNat_ofNat']
   rw [Nat.mod_mul_right_mod]
theorem Xtl (l:List UInt8):∀ n:Nat,l.foldl (fun n b=>n*256+b.toNat) n=n*256^l.length+Xgf l:=by
 induction l with
 | nil=>intro n;simp [Xgf]
 | cons b l ih=>
   intro n
   rw [Xgf,List.foldl_cons,ih,List.foldl_cons,ih,List.length_cons,Nat.pow_succ]
   rw [Nat.zero_mul,Nat.zero_add,Nat.add_mul,Nat.mul_assoc,Nat.mul_comm (256^_) 256,Nat.add_assoc]
@[simp] theorem XN0:Xgf []=0:=rfl
theorem XhD (b:UInt8) (l:List UInt8):Xgf (b::l)=b.toNat*256^l.length+Xgf l:=by
 rw [Xgf,List.foldl_cons,Xtl];simp
theorem val_append (l m:List UInt8):Xgf (l++m)=Xgf l*256^m.length+Xgf m:=by
 rw [Xgf,List.foldl_append,Xtl];rfl
theorem XC1 (l:List UInt8) (b:UInt8):Xgf (l++[b])=Xgf l*256+b.toNat:=by
 rw [val_append];simp [XhD]
theorem XsK:∀ l:List UInt8,Xgf l<256^l.length
 | []=>by simp
 | b::l=>by
   have h:=XsK l
   have hb:=b.toNat_lt
   rw [XhD,List.length_cons,Nat.pow_succ]
   have:b.toNat*256^l.length+256^l.length≤256*256^l.length:=by
    rw [←Nat.succ_mul];exact Nat.mul_le_mul_right _ (by omega)
   rw [Nat.mul_comm (256^l.length)];omega
theorem XvT (n:Nat):∀ k,Xgf (be n k)=n%256^k
 | 0=>by simp [be,Nat.mod_one]
 | k+1=>by
   have e:n%256^(k+1)=n%256+256*(n/256%256^k):=by rw [Nat.pow_succ',Nat.mod_mul]
   rw [Xm0,XC1,XvT (n/256) k,UInt8.toNat_ofNat',e]
   generalize n/256%256^k=x
   omega
theorem XIy:∀ l:List UInt8,be (Xgf l) l.length=l
 | []=>rfl
 | b::l=>by
   have h:=XsK l
   rw [List.length_cons,be]
   have e1:Xgf (b::l)/256^l.length=b.toNat:=by
    rw [XhD,Nat.mul_comm,Nat.mul_add_div (Nat.pow_pos (by decide)),Nat.div_eq_of_lt h,Nat.add_zero]
   have e2:be (Xgf (b::l)) l.length=be (Xgf l) l.length:=by
    rw [←XqO (Xgf (b::l)),XhD,Nat.mul_add_mod',XqO]
   rw [e1,e2,XIy l]
   simp
theorem XNP {l:List UInt8} {k:Nat} (h:l.length=k):be (Xgf l) k=l:=by subst h;exact XIy l
theorem be_of {l:List UInt8} {n k:Nat} (h:l.length=k) (hv:Xgf l=n):be n k=l:=by subst hv;exact XNP h
theorem XfJ {l:List UInt8} {k:Nat} (n:Nat) (h:256^k≤n):Xgf (l.take k)<n:=by
 have h1:=XsK (l.take k)
 have h2:(l.take k).length≤k:=List.length_take_le _ _
 exact Nat.lt_of_lt_of_le h1 (Nat.le_trans (Nat.pow_le_pow_right (by decide) h2) h)
theorem Xpc (n:Nat) (j:Nat):∀ k,be n (j+k)=be (n/256^k) j++be n k
 | 0=>by simp [be]
 | k+1=>by
   rw [show j+(k+1)=(j+k)+1 from rfl,Xm0,Xpc (n/256) j k,Xm0 n k,Nat.div_div_eq_div_mul,Nat.pow_succ,Nat.mul_comm (256^k),List.append_assoc]
end Go.Vm
namespace Go.Vm.Code
open Go Go.Vm Go.Proofs
set_option maxRecDepth 100000
set_option maxHeartbeats 4000000
set_option linter.unusedVariables false
def XhS (n:Int) (k:Int) (t17:Int) (b:List Int):Option (Sum (Int×(List Int)) (List UInt8)):=
 cond (decide (t17<(k.toNat:Int)))
  (
  let t:=wI .i64 (8*(wI .i64 ((wI .i64 (k - 1)) - t17)))
  Xbn (decide (0≤t)) <|
  Xbn (decide ((0:Int)≤t17∧t17<(k.toNat:Int))) <|
  Xbn (decide (t17.toNat<b.length)) <|
  let row:=b.set t17.toNat (wI .u8 (n.fdiv (2^(min t.toNat 64))))
  some (.inl (wI .i64 (t17+1),row)))
  (
  Xbn (decide (k.toNat≤b.length)) <|
  some (.inr (iB (b.take k.toNat))))
def Xmm (n:Int) (k:Int):Option (List UInt8):=
 cond (decide (k<1))
  (
  some ([]))
  (
  cond (decide (k>8))
   (
   some ([]))
   (
   Xbn (decide (0≤k∧k≤k∧k<2^63∧(1:Int)*k≤2^48)) <|
   iter (fun st=>XhS n k st.1 st.2) FUEL (0,List.replicate k.toNat (0))))
def XQO (x:List UInt8):XcS:=⟨.string ⟨⟨x⟩⟩,[],[]⟩
abbrev XaY:=Int→Int→Option (List UInt8)
def r97 (g:XaY):Dec:=dV (asI .u64) fun (y0:Int)=>dV (asI .i64) fun (y1:Int)=>XdJ (ofG (g y0 y1) XQO)
theorem r97_c {g:XaY} {y0:Int} {y1:Int} {x:List UInt8} (hx:g y0 y1=some x):r97 g [.int .u64 y0,.int .i64 y1] []=some (XQO x):=(XaP (Xen _)).trans ((XaP (Xen _)).trans (XaN hx))
def s97 (g:XaY):Xbz:=⟨[.v,.v],r97 g⟩
theorem Xl3 {g:XaY} {y0:Int} {y1:Int} {x:List UInt8} (hx:g y0 y1=some x):(s97 g).run [.int .u64 y0,.int .i64 y1] []=some (XQO x):=r97_c hx
abbrev XJp:List (Nat×Xbz):=[]
def Xnu (n:Int) (k:Int) (t17:Int) (b:List Int):VM:=
 ⟨⟨97,34,[(0,.int .u64 n),(1,.int .i64 k),(5,.slice (some ⟨0,0,none⟩) k.toNat 1),(16,.int .i64 (k.toNat:Int)),(17,.int .i64 t17)],[.code Xyr,.inLoop Xyr,.inBlock 0,.code XJP],[],false,none⟩,[],[(0,.row true (vI .u8 b))],1⟩
theorem XCa (hS:Xaj Tryz.prog (XaI (XJp))) (n:Int) (k:Int) (res:List UInt8):∀ fuel (st:Int×(List Int)) (o:List UInt8),iter (fun st=>XhS n k st.1 st.2) fuel st=some o→(o=res) →
 XaJ Tryz.prog 97 0 (Xnu n k st.1 st.2) (fun v H _=>Res 0 (XQO res) v H):=by
 intro fuel st o h hc
 refine XcX (head:=fun st=>Xnu n k st.1 st.2) (C:=fun o=>(o=res)) ?_ fuel st o h hc
 clear h hc o st fuel
 intro st o h hc
 obtain ⟨t17,b⟩:=st
 replace h:XhS n k t17 b=some o:=h
 show XaJ Tryz.prog 97 0 (Xnu n k t17 b) (fun v H _=>Res 0 (XQO res) v H)
 unfold XhS at h
 refine Xa7 XaE hS true 3000 ?_
 conv=>whnf
 refine br.h2 h (by rfl) ?_ ?_
 ·clear h;intro hb h;conv=>whnf
  replace h:=Xbn.elim h;obtain ⟨hb,h⟩:=h
  refine req.intro (by (first|rfl|(simp [wI,vI,vB,vS,bI,XiF,Xfr,Xa6,Value.cells] at *;omega)|(simp [vI,vB,vS,bI,XiF,Xfr,Xa6,Value.cells] at *;omega)|(simp [vI,vB,vS,bI,XiF,Xfr,Xa6,Value.cells] at *;done))) ?_
  conv=>whnf
  refine XTF ?_
  conv=>whnf
  exact W
 clear h;intro hb h;conv=>whnf
 let t:Int:=wI .i64 (8*(wI .i64 ((wI .i64 (k - 1)) - t17)))
 replace h:=Xbn.elim h;obtain ⟨hb,h⟩:=h
 try (refine req.intro hb ?_;conv=>whnf)
 replace h:=Xbn.elim h;obtain ⟨hb,h⟩:=h
 try (refine req.intro hb ?_;conv=>whnf)
 replace h:=Xbn.elim h;obtain ⟨hb,h⟩:=h
 refine st_I hb (by first|rfl|(rw [Nat.zero_add,Nat.mul_one];try rfl;done)|omega) ?_
 conv=>whnf
 let row:List Int:=b.set t17.toNat (wI .u8 (n.fdiv (2^(min t.toNat 64))))
 cases h;simp only [Sum.elim_inl,Xnu] at hc
 exact Xkz hc [(0,0)] rfl
theorem XNo (hS:Xaj Tryz.prog (XaI (XJp))) (n:Int) (k:Int) (res:List UInt8) (h:Xmm n k=some res) :
 XaJ Tryz.prog 97 0 ⟨⟨97,34,[(0,.int .u64 n),(1,.int .i64 k)],[.code XJf],[],false,none⟩,[],[],0⟩ (fun v H _=>Res 0 (XQO res) v H):=by
 unfold Xmm at h
 refine Xa7 XaE hS true 3000 ?_
 conv=>whnf
 refine br.h h (by rfl) ?_ ?_
 ·clear h;intro hb h;conv=>whnf
  exact W
 clear h;intro hb h;conv=>whnf
 refine br.h h (by rfl) ?_ ?_
 ·clear h;intro hb h;conv=>whnf
  exact W
 clear h;intro hb h;conv=>whnf
 replace h:=Xbn.elim h;obtain ⟨hb,h⟩:=h
 try (refine req.intro hb ?_;conv=>whnf)
 refine XSR ?_
 conv=>whnf
 have hl:=XCa hS _ _ res _ _ _ h rfl;simp only [Xnu] at hl
 exact Xkz hl [(0,0)] rfl
def Xak:XaY:=Xmm
theorem Xnh:XbB Tryz.prog 97 (s97 Xak):=by
 have hL:=XNo (Xaj.XaK trivial)
 exact okA ⟨Tryz.f97,rfl,by decide,rfl⟩
def XhK (t1:List UInt8) (n:Int) (t37:Int):Option (Sum (Int×Int) (Int×Bool)):=
 cond (decide (t37<(t1.length:Int)))
  (
  Xbn (decide ((0:Int)≤t37∧t37<(t1.length:Int))) <|
  ((bI t1)[t37.toNat]?).bind fun (e:Int)=>
  let t2:=XlD .u64 (wI .u64 (n*2^8)) (wI .u64 e)
  some (.inl (t2,wI .i64 (t37+1))))
  (
  some (.inr ((n,true))))
def Xmq (s:List UInt8) (ata1:Int) (k:Int):Option (Int×Bool):=
 cond (decide (k<1))
  (
  some ((0,false)))
  (
  cond (decide (k>8))
   (
   some ((0,false)))
   (
   cond (decide (ata1<0))
    (
    some ((0,false)))
    (
    let t:=decide ((wI .i64 ((s.length:Int) - k))<ata1)
    cond (t)
     (
     some ((0,false)))
     (
     Xbn (decide ((0:Int)≤(wI .i64 (ata1+k))∧(wI .i64 (ata1+k))≤(s.length:Int)∧(0:Int)≤ata1∧ata1≤((wI .i64 (ata1+k)).toNat:Int))) <|
     let t1:=(s.drop ata1.toNat).take ((wI .i64 (ata1+k)).toNat - ata1.toNat)
     iter (fun st=>XhK t1 st.1 st.2) FUEL (0,0)))))
def XQR (x:Int×Bool):XcS:=⟨.tuple ⟨[.int .u64 x.1,.bool x.2]⟩,[],[]⟩
abbrev Xc2:=(List UInt8)→Int→Int→Option (Int×Bool)
def r95 (g:Xc2):Dec:=dV asS fun (y0:List UInt8)=>dV (asI .i64) fun (y1:Int)=>dV (asI .i64) fun (y2:Int)=>XdJ (ofG (g y0 y1 y2) XQR)
theorem r95_c {g:Xc2} {y0:List UInt8} {y1:Int} {y2:Int} {x:Int×Bool} (hx:g y0 y1 y2=some x):r95 g [.string ⟨⟨y0⟩⟩,.int .i64 y1,.int .i64 y2] []=some (XQR x):=(XaP (XdL)).trans ((XaP (Xen _)).trans ((XaP (Xen _)).trans (XaN hx)))
def s95 (g:Xc2):Xbz:=⟨[.v,.v,.v],r95 g⟩
theorem XAz {g:Xc2} {y0:List UInt8} {y1:Int} {y2:Int} {x:Int×Bool} (hx:g y0 y1 y2=some x):(s95 g).run [.string ⟨⟨y0⟩⟩,.int .i64 y1,.int .i64 y2] []=some (XQR x):=r95_c hx
abbrev XJT:List (Nat×Xbz):=[]
def XnM (t1:List UInt8) (n:Int) (t37:Int):VM:=
 ⟨⟨95,48,[(8,.int .u64 n),(35,.slice (some ⟨0,0,none⟩) t1.length 1),(36,.int .i64 (t1.length:Int)),(37,.int .i64 t37)],[.code Xzt,.inLoop Xzt,.inBlock 0,.code XH9],[],false,none⟩,[],[(0,.row true (vI .u8 (bI t1)))],1⟩
theorem XEf (hS:Xaj Tryz.prog (XaI (XJT))) (t1:List UInt8) (res:Int×Bool):∀ fuel (st:Int×Int) (o:Int×Bool),iter (fun st=>XhK t1 st.1 st.2) fuel st=some o→(o=res) →
 XaJ Tryz.prog 95 0 (XnM t1 st.1 st.2) (fun v H _=>Res 0 (XQR res) v H):=by
 intro fuel st o h hc
 refine XcX (head:=fun st=>XnM t1 st.1 st.2) (C:=fun o=>(o=res)) ?_ fuel st o h hc
 clear h hc o st fuel
 intro st o h hc
 obtain ⟨n,t37⟩:=st
 replace h:XhK t1 n t37=some o:=h
 show XaJ Tryz.prog 95 0 (XnM t1 n t37) (fun v H _=>Res 0 (XQR res) v H)
 unfold XhK at h
 refine Xa7 XaE hS true 3000 ?_
 conv=>whnf
 refine br.h2 h (by rfl) ?_ ?_
 ·clear h;intro hb h;conv=>whnf
  exact W
 clear h;intro hb h;conv=>whnf
 replace h:=Xbn.elim h;obtain ⟨hb,h⟩:=h
 try (refine req.intro hb ?_;conv=>whnf)
 replace h:=XcR.elim h;obtain ⟨e,hy,h⟩:=h
 refine rd.I hy (by first|rfl|(rw [Nat.zero_add,Nat.mul_one];try rfl;done)|omega) ?_
 conv=>whnf
 let t2:Int:=XlD .u64 (wI .u64 (n*2^8)) (wI .u64 e)
 cases h;simp only [Sum.elim_inl,XnM] at hc
 exact Xkz hc [(0,0)] rfl
theorem XOT (hS:Xaj Tryz.prog (XaI (XJT))) (s:List UInt8) (ata1:Int) (k:Int) (res:Int×Bool) (h:Xmq s ata1 k=some res) :
 XaJ Tryz.prog 95 0 ⟨⟨95,48,[(0,.string ⟨⟨s⟩⟩),(1,.int .i64 ata1),(2,.int .i64 k)],[.code XHX],[],false,none⟩,[],[],0⟩ (fun v H _=>Res 0 (XQR res) v H):=by
 unfold Xmq at h
 refine Xa7 XaE hS true 3000 ?_
 conv=>whnf
 refine br.h h (by rfl) ?_ ?_
 ·clear h;intro hb h;conv=>whnf
  exact W
 clear h;intro hb h;conv=>whnf
 refine br.h h (by rfl) ?_ ?_
 ·clear h;intro hb h;conv=>whnf
  exact W
 clear h;intro hb h;conv=>whnf
 refine br.h h (by rfl) ?_ ?_
 ·clear h;intro hb h;conv=>whnf
  exact W
 clear h;intro hb h;conv=>whnf
 let t:Bool:=decide ((wI .i64 ((s.length:Int) - k))<ata1)
 refine br.h h (by rfl) ?_ ?_
 ·clear h;intro hb h;conv=>whnf
  exact W
 clear h;intro hb h;conv=>whnf
 replace h:=Xbn.elim h;obtain ⟨hb,h⟩:=h
 try (refine req.intro hb ?_;conv=>whnf)
 let t1:List UInt8:=(s.drop ata1.toNat).take ((wI .i64 (ata1+k)).toNat - ata1.toNat)
 refine XUu ?_
 conv=>whnf
 have hl:=XEf hS _ res _ _ _ h rfl;simp only [XnM] at hl
 exact Xkz hl [(0,0)] rfl
def Xbq:Xc2:=Xmq
theorem XxB:XbB Tryz.prog 95 (s95 Xbq):=by
 have hL:=XOT (Xaj.XaK trivial)
 exact okA ⟨Tryz.f95,rfl,by decide,rfl⟩
def Xh0 (k:Int) (n1:Int) (s:List UInt8) (i:Int):Option (Sum (Int×(List UInt8)×Int) (List UInt8)):=
 cond (decide (i<k))
  (
  cond (decide (k≤8))
   (
   let t:=[UInt8.ofNat (wI .u8 (n1.tmod 256)).toNat]
   Xbn (decide (t.length+s.length<2^63)) <|
   some (.inl (wI .u64 (n1.tdiv 256),t++s,wI .i64 (i+1))))
   (
   some (.inr (s))))
  (
  some (.inr (s)))
def Xpg (n:Int) (k:Int):Option (List UInt8):=
 iter (fun st=>Xh0 k st.1 st.2.1 st.2.2) FUEL (n,[],0)
def XQH (x:List UInt8):XcS:=⟨.string ⟨⟨x⟩⟩,[],[]⟩
abbrev Xck:=Int→Int→Option (List UInt8)
def r63 (g:Xck):Dec:=dV (asI .u64) fun (y0:Int)=>dV (asI .i64) fun (y1:Int)=>XdJ (ofG (g y0 y1) XQH)
theorem r63_c {g:Xck} {y0:Int} {y1:Int} {x:List UInt8} (hx:g y0 y1=some x):r63 g [.int .u64 y0,.int .i64 y1] []=some (XQH x):=(XaP (Xen _)).trans ((XaP (Xen _)).trans (XaN hx))
def s63 (g:Xck):Xbz:=⟨[.v,.v],r63 g⟩
theorem Xpy {g:Xck} {y0:Int} {y1:Int} {x:List UInt8} (hx:g y0 y1=some x):(s63 g).run [.int .u64 y0,.int .i64 y1] []=some (XQH x):=r63_c hx
abbrev XJL:List (Nat×Xbz):=[]
def Xnm (k:Int) (n1:Int) (s:List UInt8) (i:Int):VM:=
 ⟨⟨63,26,[(0,.int .u64 n1),(1,.int .i64 k),(5,.string ⟨⟨s⟩⟩),(6,.int .i64 i)],[.code XAC,.inLoop XAC,.inBlock 0,.code XJg],[],false,none⟩,[],[],0⟩
theorem XFk (hS:Xaj Tryz.prog (XaI (XJL))) (k:Int) (res:List UInt8):∀ fuel (st:Int×(List UInt8)×Int) (o:List UInt8),iter (fun st=>Xh0 k st.1 st.2.1 st.2.2) fuel st=some o→(o=res) →
 XaJ Tryz.prog 63 0 (Xnm k st.1 st.2.1 st.2.2) (fun v H _=>Res 0 (XQH res) v H):=by
 intro fuel st o h hc
 refine XcX (head:=fun st=>Xnm k st.1 st.2.1 st.2.2) (C:=fun o=>(o=res)) ?_ fuel st o h hc
 clear h hc o st fuel
 intro st o h hc
 obtain ⟨n1,s,i⟩:=st
 replace h:Xh0 k n1 s i=some o:=h
 show XaJ Tryz.prog 63 0 (Xnm k n1 s i) (fun v H _=>Res 0 (XQH res) v H)
 unfold Xh0 at h
 refine Xa7 XaE hS true 3000 ?_
 conv=>whnf
 refine br.h2 h (by rfl) ?_ ?_
 ·clear h;intro hb h;conv=>whnf
  exact W
 clear h;intro hb h;conv=>whnf
 refine br.h2 h (by rfl) ?_ ?_
 ·clear h;intro hb h;conv=>whnf
  exact W
 clear h;intro hb h;conv=>whnf
 refine XLP rfl ?_
 conv=>whnf
 let t:List UInt8:=[UInt8.ofNat (wI .u8 (n1.tmod 256)).toNat]
 replace h:=Xbn.elim h;obtain ⟨hb,h⟩:=h
 try (refine req.intro hb ?_;conv=>whnf)
 cases h;simp only [Sum.elim_inl,Xnm] at hc
 exact Xkz hc [] rfl
theorem XKl (hS:Xaj Tryz.prog (XaI (XJL))) (n:Int) (k:Int) (res:List UInt8) (h:Xpg n k=some res) :
 XaJ Tryz.prog 63 0 ⟨⟨63,26,[(0,.int .u64 n),(1,.int .i64 k)],[.code XJm],[],false,none⟩,[],[],0⟩ (fun v H _=>Res 0 (XQH res) v H):=by
 unfold Xpg at h
 refine Xa7 XaE hS true 3000 ?_
 conv=>whnf
 have hl:=XFk hS _ res _ _ _ h rfl;simp only [Xnm] at hl
 exact Xkz hl [] rfl
def Xa3:Xck:=Xpg
theorem XpH:XbB Tryz.prog 63 (s63 Xa3):=by
 have hL:=XKl (Xaj.XaK trivial)
 exact okA ⟨Tryz.f63,rfl,by decide,rfl⟩
def XjL (s:List UInt8) (ata1:Int) (k:Int) (n:Int) (i:Int):Option (Sum (Int×Int) (Int×Bool)):=
 cond (decide (i<k))
  (
  Xbn (decide (0≤(wI .i64 (ata1+i)))) <|
  (s[(wI .i64 (ata1+i)).toNat]?).bind fun (b:UInt8)=>
  let t1:=wI .u64 ((wI .u64 (n*256))+(wI .u64 (b.toNat:Int)))
  some (.inl (t1,wI .i64 (i+1))))
  (
  some (.inr ((n,true))))
def Xo7 (s:List UInt8) (ata1:Int) (k:Int):Option (Int×Bool):=
 cond (decide (k<1))
  (
  some ((0,false)))
  (
  cond (decide (k>8))
   (
   some ((0,false)))
   (
   cond (decide (ata1<0))
    (
    some ((0,false)))
    (
    cond (decide (ata1>(s.length:Int)))
     (
     some ((0,false)))
     (
     let t:=decide (k>(wI .i64 ((s.length:Int) - ata1)))
     cond (t)
      (
      some ((0,false)))
      (
      iter (fun st=>XjL s ata1 k st.1 st.2) FUEL (0,0))))))
def XQQ (x:Int×Bool):XcS:=⟨.tuple ⟨[.int .u64 x.1,.bool x.2]⟩,[],[]⟩
abbrev Xe0:=(List UInt8)→Int→Int→Option (Int×Bool)
def r87 (g:Xe0):Dec:=dV asS fun (y0:List UInt8)=>dV (asI .i64) fun (y1:Int)=>dV (asI .i64) fun (y2:Int)=>XdJ (ofG (g y0 y1 y2) XQQ)
theorem r87_c {g:Xe0} {y0:List UInt8} {y1:Int} {y2:Int} {x:Int×Bool} (hx:g y0 y1 y2=some x):r87 g [.string ⟨⟨y0⟩⟩,.int .i64 y1,.int .i64 y2] []=some (XQQ x):=(XaP (XdL)).trans ((XaP (Xen _)).trans ((XaP (Xen _)).trans (XaN hx)))
def s87 (g:Xe0):Xbz:=⟨[.v,.v,.v],r87 g⟩
theorem Xy9 {g:Xe0} {y0:List UInt8} {y1:Int} {y2:Int} {x:Int×Bool} (hx:g y0 y1 y2=some x):(s87 g).run [.string ⟨⟨y0⟩⟩,.int .i64 y1,.int .i64 y2] []=some (XQQ x):=r87_c hx
abbrev XH4:List (Nat×Xbz):=[]
def Xnx (s:List UInt8) (ata1:Int) (k:Int) (n:Int) (i:Int):VM:=
 ⟨⟨87,49,[(0,.string ⟨⟨s⟩⟩),(1,.int .i64 ata1),(2,.int .i64 k),(8,.int .u64 n),(9,.int .i64 i)],[.code Xzo,.inLoop Xzo,.inBlock 0,.code XIW],[],false,none⟩,[],[],0⟩
theorem XCR (hS:Xaj Tryz.prog (XaI (XH4))) (s:List UInt8) (ata1:Int) (k:Int) (res:Int×Bool):∀ fuel (st:Int×Int) (o:Int×Bool),iter (fun st=>XjL s ata1 k st.1 st.2) fuel st=some o→(o=res) →
 XaJ Tryz.prog 87 0 (Xnx s ata1 k st.1 st.2) (fun v H _=>Res 0 (XQQ res) v H):=by
 intro fuel st o h hc
 refine XcX (head:=fun st=>Xnx s ata1 k st.1 st.2) (C:=fun o=>(o=res)) ?_ fuel st o h hc
 clear h hc o st fuel
 intro st o h hc
 obtain ⟨n,i⟩:=st
 replace h:XjL s ata1 k n i=some o:=h
 show XaJ Tryz.prog 87 0 (Xnx s ata1 k n i) (fun v H _=>Res 0 (XQQ res) v H)
 unfold XjL at h
 refine Xa7 XaE hS true 3000 ?_
 conv=>whnf
 refine br.h2 h (by rfl) ?_ ?_
 ·clear h;intro hb h;conv=>whnf
  exact W
 clear h;intro hb h;conv=>whnf
 replace h:=Xbn.elim h;obtain ⟨hb,h⟩:=h
 try (refine req.intro hb ?_;conv=>whnf)
 replace h:=XcR.elim h;obtain ⟨b,hy,h⟩:=h
 refine rdS.intro hy ?_
 conv=>whnf
 let t1:Int:=wI .u64 ((wI .u64 (n*256))+(wI .u64 (b.toNat:Int)))
 cases h;simp only [Sum.elim_inl,Xnx] at hc
 exact Xkz hc [] rfl
theorem XKW (hS:Xaj Tryz.prog (XaI (XH4))) (s:List UInt8) (ata1:Int) (k:Int) (res:Int×Bool) (h:Xo7 s ata1 k=some res) :
 XaJ Tryz.prog 87 0 ⟨⟨87,49,[(0,.string ⟨⟨s⟩⟩),(1,.int .i64 ata1),(2,.int .i64 k)],[.code XI3],[],false,none⟩,[],[],0⟩ (fun v H _=>Res 0 (XQQ res) v H):=by
 unfold Xo7 at h
 refine Xa7 XaE hS true 3000 ?_
 conv=>whnf
 refine br.h h (by rfl) ?_ ?_
 ·clear h;intro hb h;conv=>whnf
  exact W
 clear h;intro hb h;conv=>whnf
 refine br.h h (by rfl) ?_ ?_
 ·clear h;intro hb h;conv=>whnf
  exact W
 clear h;intro hb h;conv=>whnf
 refine br.h h (by rfl) ?_ ?_
 ·clear h;intro hb h;conv=>whnf
  exact W
 clear h;intro hb h;conv=>whnf
 refine br.h h (by rfl) ?_ ?_
 ·clear h;intro hb h;conv=>whnf
  exact W
 clear h;intro hb h;conv=>whnf
 let t:Bool:=decide (k>(wI .i64 ((s.length:Int) - ata1)))
 refine br.h h (by rfl) ?_ ?_
 ·clear h;intro hb h;conv=>whnf
  exact W
 clear h;intro hb h;conv=>whnf
 have hl:=XCR hS _ _ _ res _ _ _ h rfl;simp only [Xnx] at hl
 exact Xkz hl [] rfl
def Xdg:Xe0:=Xo7
theorem Xyl:XbB Tryz.prog 87 (s87 Xdg):=by
 have hL:=XKW (Xaj.XaK trivial)
 exact okA ⟨Tryz.f87,rfl,by decide,rfl⟩
def Xni (Xdg:Xe0) (s:List UInt8) (ata1:Int) (k:Int):Option Int:=
 (Xdg s ata1 k).bind fun xg=>
 some (wI .i64 xg.1)
def rx88 (x:Int):XcS:=⟨.int .i64 x,[],[]⟩
abbrev XbL:=(List UInt8)→Int→Int→Option Int
def r88 (g:XbL):Dec:=dV asS fun (y0:List UInt8)=>dV (asI .i64) fun (y1:Int)=>dV (asI .i64) fun (y2:Int)=>XdJ (ofG (g y0 y1 y2) rx88)
theorem r88_c {g:XbL} {y0:List UInt8} {y1:Int} {y2:Int} {x:Int} (hx:g y0 y1 y2=some x):r88 g [.string ⟨⟨y0⟩⟩,.int .i64 y1,.int .i64 y2] []=some (rx88 x):=(XaP (XdL)).trans ((XaP (Xen _)).trans ((XaP (Xen _)).trans (XaN hx)))
def s88 (g:XbL):Xbz:=⟨[.v,.v,.v],r88 g⟩
theorem XoB {g:XbL} {y0:List UInt8} {y1:Int} {y2:Int} {x:Int} (hx:g y0 y1 y2=some x):(s88 g).run [.string ⟨⟨y0⟩⟩,.int .i64 y1,.int .i64 y2] []=some (rx88 x):=r88_c hx
abbrev XWG (Xdg:Xe0):List (Nat×Xbz):=[(87,s87 Xdg)]
theorem XPv (Xdg:Xe0) (hS:Xaj Tryz.prog (XaI (XWG Xdg))) (s:List UInt8) (ata1:Int) (k:Int) (res:Int) (h:Xni Xdg s ata1 k=some res) :
 XaJ Tryz.prog 88 0 ⟨⟨88,18,[(0,.string ⟨⟨s⟩⟩),(1,.int .i64 ata1),(2,.int .i64 k)],[.code XWo],[],false,none⟩,[],[],0⟩ (fun v H _=>Res 0 (rx88 res) v H):=by
 unfold Xni at h
 have R1:=@Xy9 Xdg
 refine Xa7 XaE hS true 3000 ?_
 conv=>whnf
 exact W
def Xas:XbL:=Xni Xdg
theorem Xqe:XbB Tryz.prog 88 (s88 Xas):=by
 have hL:=XPv Xdg (Xaj.XaK ⟨Xyl,trivial⟩)
 exact okA ⟨Tryz.f88,rfl,by decide,rfl⟩
end Go.Vm.Code
namespace Go.Vm.Code
open Go Go.Vm
def Xc9 (n k:Int):List UInt8:=if 1≤k∧k≤8 then be n.toNat k.toNat else []
theorem XbH {n k:Int} (h0:0≤n):Xak n k=some (Xc9 n k):=by
 unfold Xak Xmm Xc9
 by_cases h1:k<1
 ·rw [XaW h1,if_neg (by omega)]
 by_cases h2:k>8
 ·rw [XaO h1,XaW h2,if_neg (by omega)]
 rw [XaO h1,XaO h2,XaA (by omega),if_pos (by omega)]
 obtain ⟨m,rfl⟩:=Int.eq_ofNat_of_zero_le h0
 obtain ⟨j,rfl⟩:=Int.eq_ofNat_of_zero_le (show 0≤k by omega)
 have key:=iter_eq (step:=fun (st:Int×List Int)=>XhS (m:Int) (j:Int) st.1 st.2) (fun st=>iB (st.2.take st.1.toNat)++be m (j - st.1.toNat)) (fun st=>0≤st.1∧st.1≤j∧st.2.length=j) (fun st=>(j - st.1).toNat) ?_ FUEL (0,List.replicate (j:Int).toNat 0) ⟨by simp,by simp,by simp⟩ (by rw [Xgx];simp only;omega)
 ·rw [key];simp [iB]
 rintro ⟨p,b⟩ ⟨g1,g2,g3⟩
 simp only at g1 g2 g3 ⊢
 obtain ⟨i,rfl⟩:=Int.eq_ofNat_of_zero_le g1
 unfold XhS
 by_cases hp:i<j
 ·refine .inr ⟨(((i+1:Nat):Int),b.set i ((m/256^(j - 1 - i)%256:Nat):Int)),?_,⟨by simp only;omega,by simp only;omega,by simp [g3]⟩,by simp only;omega,?_⟩
  ·simp (disch:=omega) only [Xed,XaA,XaW,Int.toNat_natCast]
   have e1:min (8*((j:Int) - 1 - i)).toNat 64=8*(j - 1 - i):=by omega
   have e0:(2:Int)^(8*(j - 1 - i))=((256^(j - 1 - i):Nat):Int):=by rw [show (256:Nat)=2^8 from rfl,←Nat.pow_mul];push_cast;rfl
   rw [e1,Xs8,wU8m,e0]
   rfl
  ·simp only [Int.toNat_natCast]
   have e2:j - i=(j - (i+1))+1:=by omega
   have e3:j - (i+1)=j - 1 - i:=by omega
   have e4:(b.set i ((m/256^(j - 1 - i)%256:Nat):Int)).take (i+1)=b.take i++[((m/256^(j - 1 - i)%256:Nat):Int)]:=by
    rw [List.take_succ_eq_append_getElem (by simp;omega),List.take_set_of_le (Nat.le_refl _),List.getElem_set_self]
   rw [e2,e4,be,e3]
   simp only [iB,List.map_append,List.map_cons,List.map_nil,List.append_assoc,List.cons_append,List.nil_append,Int.toNat_natCast]
   congr 2
   apply UInt8.toNat_inj.1
   simp
 ·refine .inl ?_
  obtain rfl:i=j:=by omega
  simp (disch:=omega) only [XaO,XaA,Int.toNat_natCast]
  simp [be]
theorem Xdq {n k:Int} (h0:0≤n) (h1:n<2^64):Xa3 n k=some (Xc9 n k):=by
 unfold Xa3 Xpg Xc9
 obtain ⟨m,rfl⟩:=Int.eq_ofNat_of_zero_le h0
 by_cases hk:1≤k∧k≤8
 ·rw [if_pos hk]
  obtain ⟨j,rfl⟩:=Int.eq_ofNat_of_zero_le (show 0≤k by omega)
  have key:=iter_eq (step:=fun st=>Xh0 (j:Int) st.1 st.2.1 st.2.2) (fun st=>be st.1.toNat (j - st.2.2.toNat)++st.2.1) (fun st=>0≤st.1∧st.1<2^64∧0≤st.2.2∧st.2.2≤j∧st.2.1.length<2^20+st.2.2.toNat) (fun st=>(j - st.2.2).toNat) ?_ FUEL ((m:Int),[],0) ⟨by simp,by simp only;omega,by simp,by simp,by simp⟩ (by rw [Xgx];simp only;omega)
  ·rw [key];simp
  rintro ⟨n,s,p⟩ ⟨g1,g2,g3,g4,g5⟩
  simp only at g1 g2 g3 g4 g5 ⊢
  obtain ⟨i,rfl⟩:=Int.eq_ofNat_of_zero_le g3
  obtain ⟨x,rfl⟩:=Int.eq_ofNat_of_zero_le g1
  unfold Xh0
  by_cases hp:i<j
  ·refine .inr ⟨(((x/256:Nat):Int),UInt8.ofNat x::s,((i+1:Nat):Int)),?_,⟨by simp only;omega,by simp only;omega,by simp only;omega,by simp only;omega,by simp at g5 ⊢;omega⟩,by simp only;omega,?_⟩
   ·have e1:(x:Int).tmod 256=((x%256:Nat):Int):=by rw [Int.tmod_eq_emod_of_nonneg (by omega)];rfl
    have e2:(x:Int).tdiv 256=((x/256:Nat):Int):=by rw [Int.tdiv_eq_ediv_of_nonneg (by omega)];rfl
    rw [XaW (by omega),XaW (by omega),e1,e2,wU8 (by omega) (by omega)]
    simp only [List.length_cons,List.length_nil]
    rw [XaA (by omega),Xgt (by omega) (by omega),Xed (by omega) (by omega),Int.toNat_natCast]
    have e3:UInt8.ofNat (x%256)=UInt8.ofNat x:=by apply UInt8.toNat_inj.1;simp
    rw [e3];rfl
   ·simp only [Int.toNat_natCast]
    have e2:j - i=(j - (i+1))+1:=by omega
    rw [e2,Xm0];simp
  ·refine .inl ?_
   obtain rfl:i=j:=by omega
   rw [XaO (by omega)]
   simp [be]
 ·rw [if_neg hk]
  show iter _ (18446744073709551615+1) _=_
  rw [iter]
  have:Xh0 k (m:Int) [] 0=some (.inr []):=by
   unfold Xh0
   by_cases h2:0<k
   ·rw [XaW h2,XaO (by omega)]
   ·rw [XaO h2]
  simp only [this]
def Xxn (s:List UInt8) (p k:Int):Int×Bool:=if 1≤k∧k≤8∧0≤p∧p+k≤s.length then (((Xgf ((s.drop p.toNat).take k.toNat):Nat):Int),true) else (0,false)
theorem Xsg {v i:Nat} (h:v<256^i) (hi:i≤7):v<2^56:=Nat.lt_of_lt_of_le h (by
 have:(256:Nat)^i≤256^7:=Nat.pow_le_pow_right (by decide) hi
 simpa using this)
theorem XgZ {s:List UInt8} {p k:Int} (hs:s.length<2^61):Xbq s p k=some (Xxn s p k):=by
 unfold Xbq Xmq Xxn
 by_cases h1:k<1
 ·rw [XaW h1,if_neg (by omega)]
 by_cases h2:k>8
 ·rw [XaO h1,XaW h2,if_neg (by omega)]
 by_cases h3:p<0
 ·rw [XaO h1,XaO h2,XaW h3,if_neg (by omega)]
 rw [XaO h1,XaO h2,XaO h3,Xed (n:=(s.length:Int) - k) (by omega) (by omega)]
 by_cases h4:(s.length:Int) - k<p
 ·simp only []
  rw [XaW h4,if_neg (by omega)]
 simp only []
 rw [XaO h4,Xed (n:=p+k) (by omega) (by omega),XaA (by omega),if_pos (by omega)]
 obtain ⟨q,rfl⟩:=Int.eq_ofNat_of_zero_le (show 0≤p by omega)
 obtain ⟨j,rfl⟩:=Int.eq_ofNat_of_zero_le (show 0≤k by omega)
 have e:((q:Int)+j).toNat - (q:Int).toNat=j:=by omega
 rw [e]
 simp only [Int.toNat_natCast]
 generalize ht:(s.drop q).take j=t
 have hl:t.length=j:=by rw [←ht];simp;omega
 have key:=iter_eq (step:=fun st=>XhK t st.1 st.2) (fun st=>(((st.1.toNat*256^(j - st.2.toNat)+Xgf (t.drop st.2.toNat):Nat):Int),true)) (fun st=>0≤st.1∧0≤st.2∧st.2≤j∧st.1.toNat<256^st.2.toNat) (fun st=>(j - st.2).toNat) ?_ FUEL (0,0) ⟨by simp,by simp,by simp,by simp⟩ (by rw [Xgx];simp only;omega)
 ·rw [key];simp
 rintro ⟨n,x⟩ ⟨g1,g2,g3,g4⟩
 simp only at g1 g2 g3 g4 ⊢
 obtain ⟨i,rfl⟩:=Int.eq_ofNat_of_zero_le g2
 obtain ⟨v,rfl⟩:=Int.eq_ofNat_of_zero_le g1
 simp only [Int.toNat_natCast] at g4 ⊢
 unfold XhK
 by_cases hp:i<j
 ·have hlt:i<t.length:=by omega
  have hb:=t[i].toNat_lt
  have hv:=Xsg g4 (by omega)
  refine .inr ⟨(((v*256+t[i].toNat:Nat):Int),((i+1:Nat):Int)),?_,⟨by simp only;omega,by simp only;omega,by simp only;omega,?_⟩,by simp only;omega,?_⟩
  ·rw [XaW (by omega),XaA (by omega)]
   have e1:(bI t)[(i:Int).toNat]?=some (t[i].toNat:Int):=by simp [bI,hlt]
   rw [e1,Option.bind_some]
   have e2:XlD .u64 (wI .u64 ((v:Int)*2^8)) (wI .u64 (t[i].toNat:Int))=((v*256+t[i].toNat:Nat):Int):=by
    rw [Xgt (by omega) (by omega),Xgt (by omega) (by omega),Xhc 8 (by omega) (by omega) (by omega) (by omega) (by omega)];omega
   simp only [e2]
   rw [Xed (by omega) (by omega)];rfl
  ·simp only [Int.toNat_natCast]
   rw [Nat.pow_succ];omega
  ·simp only [Int.toNat_natCast]
   rw [List.drop_eq_getElem_cons hlt,XhD]
   have e3:(t.drop (i+1)).length=j - (i+1):=by simp;omega
   have e4:j - i=(j - (i+1))+1:=by omega
   rw [e3,e4,Nat.pow_succ,Nat.add_mul,Nat.mul_assoc,Nat.mul_comm 256,Nat.add_assoc]
 ·refine .inl ?_
  obtain rfl:i=j:=by omega
  rw [XaO (by omega)]
  simp [←hl]
theorem XkT {s:List UInt8} {p k:Int} (hs:s.length<2^61):Xdg s p k=some (Xxn s p k):=by
 unfold Xdg Xo7 Xxn
 by_cases h1:k<1
 ·rw [XaW h1,if_neg (by omega)]
 by_cases h2:k>8
 ·rw [XaO h1,XaW h2,if_neg (by omega)]
 by_cases h3:p<0
 ·rw [XaO h1,XaO h2,XaW h3,if_neg (by omega)]
 by_cases h5:p>s.length
 ·rw [XaO h1,XaO h2,XaO h3,XaW h5,if_neg (by omega)]
 rw [XaO h1,XaO h2,XaO h3,XaO h5,Xed (n:=(s.length:Int) - p) (by omega) (by omega)]
 by_cases h4:k>(s.length:Int) - p
 ·simp only []
  rw [XaW h4,if_neg (by omega)]
 simp only []
 rw [XaO h4,if_pos (by omega)]
 obtain ⟨q,rfl⟩:=Int.eq_ofNat_of_zero_le (show 0≤p by omega)
 obtain ⟨j,rfl⟩:=Int.eq_ofNat_of_zero_le (show 0≤k by omega)
 simp only [Int.toNat_natCast]
 generalize ht:(s.drop q).take j=t
 have hl:t.length=j:=by rw [←ht];simp;omega
 have key:=iter_eq (step:=fun st=>XjL s (q:Int) (j:Int) st.1 st.2) (fun st=>(((st.1.toNat*256^(j - st.2.toNat)+Xgf (t.drop st.2.toNat):Nat):Int),true)) (fun st=>0≤st.1∧0≤st.2∧st.2≤j∧st.1.toNat<256^st.2.toNat) (fun st=>(j - st.2).toNat) ?_ FUEL (0,0) ⟨by simp,by simp,by simp,by simp⟩ (by rw [Xgx];simp only;omega)
 ·rw [key];simp
 rintro ⟨n,x⟩ ⟨g1,g2,g3,g4⟩
 simp only at g1 g2 g3 g4 ⊢
 obtain ⟨i,rfl⟩:=Int.eq_ofNat_of_zero_le g2
 obtain ⟨v,rfl⟩:=Int.eq_ofNat_of_zero_le g1
 simp only [Int.toNat_natCast] at g4 ⊢
 unfold XjL
 by_cases hp:i<j
 ·have hlt:i<t.length:=by omega
  have hb:=t[i].toNat_lt
  have hv:=Xsg g4 (by omega)
  refine .inr ⟨(((v*256+t[i].toNat:Nat):Int),((i+1:Nat):Int)),?_,⟨by simp only;omega,by simp only;omega,by simp only;omega,?_⟩,by simp only;omega,?_⟩
  ·rw [XaW (by omega),Xed (n:=(q:Int)+i) (by omega) (by omega),XaA (by omega)]
   have e0:((q:Int)+i).toNat=q+i:=by omega
   have e1:s[q+i]?=some t[i]:=by
    subst ht
    rw [List.getElem?_eq_getElem (by omega)]
    simp
   rw [e0,e1,Option.bind_some]
   have e2:wI .u64 ((wI .u64 ((v:Int)*256))+(wI .u64 (t[i].toNat:Int)))=((v*256+t[i].toNat:Nat):Int):=by
    rw [Xgt (n:=(v:Int)*256) (by omega) (by omega),Xgt (n:=(t[i].toNat:Int)) (by omega) (by omega),Xgt (by omega) (by omega)];omega
   simp only [e2]
   rw [Xed (by omega) (by omega)];rfl
  ·simp only [Int.toNat_natCast]
   rw [Nat.pow_succ];omega
  ·simp only [Int.toNat_natCast]
   rw [List.drop_eq_getElem_cons hlt,XhD]
   have e3:(t.drop (i+1)).length=j - (i+1):=by simp;omega
   have e4:j - i=(j - (i+1))+1:=by omega
   rw [e3,e4,Nat.pow_succ,Nat.add_mul,Nat.mul_assoc,Nat.mul_comm 256,Nat.add_assoc]
 ·refine .inl ?_
  obtain rfl:i=j:=by omega
  rw [XaO (by omega)]
  simp [←hl]
theorem XiQ {s:List UInt8} {p k:Int} (hs:s.length<2^61):Xas s p k=some (wI .i64 (Xxn s p k).1):=by
 unfold Xas Xni
 rw [XkT hs];rfl
end Go.Vm.Code
namespace Go.Vm.Code
open Go Go.Vm Go.Proofs
set_option maxRecDepth 100000
set_option maxHeartbeats 4000000
set_option linter.unusedVariables false
def Xmn (Xak:XaY) (s:List UInt8) (ata1:Int) (k:Int) (n:Int):Option (List UInt8):=
 (Xak n k).bind fun p=>
 cond (p==[])
  (
  some (s))
  (
  cond (decide (ata1<0))
   (
   some (s))
   (
   let t:=decide ((wI .i64 ((s.length:Int) - k))<ata1)
   cond (t)
    (
    some (s))
    (
    Xbn (decide ((0:Int)≤ata1∧ata1≤(s.length:Int))) <|
    Xbn (decide ((s.take ata1.toNat).length+p.length<2^63)) <|
    Xbn (decide ((0:Int)≤(wI .i64 (ata1+k))∧(wI .i64 (ata1+k))≤(s.length:Int))) <|
    let t1:=(s.drop (wI .i64 (ata1+k)).toNat).take (s.length - (wI .i64 (ata1+k)).toNat)
    Xbn (decide (((s.take ata1.toNat)++p).length+t1.length<2^63)) <|
    some (((s.take ata1.toNat)++p)++t1))))
def rx98 (x:List UInt8):XcS:=⟨.string ⟨⟨x⟩⟩,[],[]⟩
abbrev Xc3:=(List UInt8)→Int→Int→Int→Option (List UInt8)
def r98 (g:Xc3):Dec:=dV asS fun (y0:List UInt8)=>dV (asI .i64) fun (y1:Int)=>dV (asI .i64) fun (y2:Int)=>dV (asI .u64) fun (y3:Int)=>XdJ (ofG (g y0 y1 y2 y3) rx98)
theorem r98_c {g:Xc3} {y0:List UInt8} {y1:Int} {y2:Int} {y3:Int} {x:List UInt8} (hx:g y0 y1 y2 y3=some x):r98 g [.string ⟨⟨y0⟩⟩,.int .i64 y1,.int .i64 y2,.int .u64 y3] []=some (rx98 x):=(XaP (XdL)).trans ((XaP (Xen _)).trans ((XaP (Xen _)).trans ((XaP (Xen _)).trans (XaN hx))))
def s98 (g:Xc3):Xbz:=⟨[.v,.v,.v,.v],r98 g⟩
theorem XA5 {g:Xc3} {y0:List UInt8} {y1:Int} {y2:Int} {y3:Int} {x:List UInt8} (hx:g y0 y1 y2 y3=some x):(s98 g).run [.string ⟨⟨y0⟩⟩,.int .i64 y1,.int .i64 y2,.int .u64 y3] []=some (rx98 x):=r98_c hx
abbrev XW8 (Xak:XaY):List (Nat×Xbz):=[(97,s97 Xak)]
theorem XKf (Xak:XaY) (hS:Xaj Tryz.prog (XaI (XW8 Xak))) (s:List UInt8) (ata1:Int) (k:Int) (n:Int) (res:List UInt8) (h:Xmn Xak s ata1 k n=some res) :
 XaJ Tryz.prog 98 0 ⟨⟨98,39,[(0,.string ⟨⟨s⟩⟩),(1,.int .i64 ata1),(2,.int .i64 k),(3,.int .u64 n)],[.code XIs],[],false,none⟩,[],[],0⟩ (fun v H _=>Res 0 (rx98 res) v H):=by
 unfold Xmn at h
 have R1:=@Xl3 Xak
 refine Xa7 XaE hS true 3000 ?_
 conv=>whnf
 exact W
def Xa5:Xc3:=Xmn Xak
theorem XAK:XbB Tryz.prog 98 (s98 Xa5):=by
 have hL:=XKf Xak (Xaj.XaK ⟨Xnh,trivial⟩)
 exact okA ⟨Tryz.f98,rfl,by decide,rfl⟩
def Xo2 (Xdg:Xe0) (Xa3:Xck) (s:List UInt8) (ata1:Int) (k:Int) (n:Int):Option (List UInt8):=
 (Xdg s ata1 k).bind fun xg=>
 cond (!xg.2)
  (
  some (s))
  (
  Xbn (decide ((0:Int)≤ata1∧ata1≤(s.length:Int))) <|
  (Xa3 n k).bind fun p=>
  Xbn (decide ((s.take ata1.toNat).length+p.length<2^63)) <|
  Xbn (decide ((0:Int)≤(wI .i64 (ata1+k))∧(wI .i64 (ata1+k))≤(s.length:Int))) <|
  let t:=(s.drop (wI .i64 (ata1+k)).toNat).take (s.length - (wI .i64 (ata1+k)).toNat)
  Xbn (decide (((s.take ata1.toNat)++p).length+t.length<2^63)) <|
  some (((s.take ata1.toNat)++p)++t))
def rx64 (x:List UInt8):XcS:=⟨.string ⟨⟨x⟩⟩,[],[]⟩
abbrev XeZ:=(List UInt8)→Int→Int→Int→Option (List UInt8)
def r64 (g:XeZ):Dec:=dV asS fun (y0:List UInt8)=>dV (asI .i64) fun (y1:Int)=>dV (asI .i64) fun (y2:Int)=>dV (asI .u64) fun (y3:Int)=>XdJ (ofG (g y0 y1 y2 y3) rx64)
theorem r64_c {g:XeZ} {y0:List UInt8} {y1:Int} {y2:Int} {y3:Int} {x:List UInt8} (hx:g y0 y1 y2 y3=some x):r64 g [.string ⟨⟨y0⟩⟩,.int .i64 y1,.int .i64 y2,.int .u64 y3] []=some (rx64 x):=(XaP (XdL)).trans ((XaP (Xen _)).trans ((XaP (Xen _)).trans ((XaP (Xen _)).trans (XaN hx))))
def s64 (g:XeZ):Xbz:=⟨[.v,.v,.v,.v],r64 g⟩
theorem Xz9 {g:XeZ} {y0:List UInt8} {y1:Int} {y2:Int} {y3:Int} {x:List UInt8} (hx:g y0 y1 y2 y3=some x):(s64 g).run [.string ⟨⟨y0⟩⟩,.int .i64 y1,.int .i64 y2,.int .u64 y3] []=some (rx64 x):=r64_c hx
abbrev XVA (Xdg:Xe0) (Xa3:Xck):List (Nat×Xbz):=[(87,s87 Xdg),(63,s63 Xa3)]
theorem XLT (Xdg:Xe0) (Xa3:Xck) (hS:Xaj Tryz.prog (XaI (XVA Xdg Xa3))) (s:List UInt8) (ata1:Int) (k:Int) (n:Int) (res:List UInt8) (h:Xo2 Xdg Xa3 s ata1 k n=some res) :
 XaJ Tryz.prog 64 0 ⟨⟨64,34,[(0,.string ⟨⟨s⟩⟩),(1,.int .i64 ata1),(2,.int .i64 k),(3,.int .u64 n)],[.code XI6],[],false,none⟩,[],[],0⟩ (fun v H _=>Res 0 (rx64 res) v H):=by
 unfold Xo2 at h
 have R1:=@Xy9 Xdg
 have R2:=@Xpy Xa3
 refine Xa7 XaE hS true 3000 ?_
 conv=>whnf
 exact W
def XcP:XeZ:=Xo2 Xdg Xa3
theorem Xyj:XbB Tryz.prog 64 (s64 XcP):=by
 have hL:=XLT Xdg Xa3 (Xaj.XaK ⟨Xyl,XpH,trivial⟩)
 exact okA ⟨Tryz.f64,rfl,by decide,rfl⟩
def XjQ (l:List Int) (n1:Int):Option (Sum Int Int):=
 cond (decide (n1>65535))
  (
  let t:=wI .i64 ((n1.tmod 65536)+(wI .i64 (n1.tdiv 65536)))
  some (.inl t))
  (
  some (.inr (n1)))
def XjN (l:List Int) (n:Int) (i:Int):Option (Sum (Int×Int) Int):=
 cond (decide (i<(l.length:Int)))
  (
  Xbn (decide ((0:Int)≤i∧i<(l.length:Int))) <|
  (l[i.toNat]?).bind fun (e:Int)=>
  some (.inl (wI .i64 (n+e),wI .i64 (i+1))))
  (
  (iter (fun st=>XjQ l st) FUEL n).bind fun o=>some (.inr (o)))
def Xo6 (l:List Int):Option Int:=
 iter (fun st=>XjN l st.1 st.2) FUEL (0,0)
def XtE (x:Int):XcS:=⟨.int .i64 x,[],[none]⟩
abbrev XhX:=(List Int)→Option Int
def r135 (g:XhX):Dec:=dSl 0 1 (unL (asI .i64)) fun (y0:List Int)=>XdJ (ofG (g y0) XtE)
theorem XVo {g:XhX} {y0:List Int} {x:Int} (hx:g y0=some x):r135 g [.slice (some ⟨0,0,none⟩) y0.length 1] [some (vI .i64 y0)]=some (XtE x):=(XsB (Xvt _ _)).trans (XaN hx)
def s135 (g:XhX):Xbz:=⟨[.sl 1],r135 g⟩
theorem XPo {g:XhX} {y0:List Int} {x:Int} (hx:g y0=some x):(s135 g).run [.slice (some ⟨0,0,none⟩) y0.length 1] [some (vI .i64 y0)]=some (XtE x):=XVo hx
abbrev Xuu:List (Nat×Xbz):=[]
def Xl4 (l:List Int) (n1:Int):VM:=
 ⟨⟨135,25,[(3,.int .i64 n1)],[.code XuR,.inLoop XuR,.inBlock 2,.code Xxw],[],false,none⟩,[],[(0,.row false (vI .i64 l))],1⟩
def Xlv (l:List Int) (n:Int) (i:Int):VM:=
 ⟨⟨135,25,[(0,.slice (some ⟨0,0,none⟩) l.length 1),(3,.int .i64 n),(4,.int .i64 i)],[.code Xt1,.inLoop Xt1,.inBlock 0,.code XA2],[],false,none⟩,[],[(0,.row false (vI .i64 l))],1⟩
theorem XBw (hS:Xaj Tryz.prog (XaI (Xuu))) (l:List Int) (res:Int):∀ fuel (st:Int) (o:Int),iter (fun st=>XjQ l st) fuel st=some o→(o=res) →
 XaJ Tryz.prog 135 1 (Xl4 l st) (fun v H _=>Res 1 (XtE res) v H):=by
 intro fuel st o h hc
 refine XcX (head:=fun st=>Xl4 l st) (C:=fun o=>(o=res)) ?_ fuel st o h hc
 clear h hc o st fuel
 intro n1 o h hc
 replace h:XjQ l n1=some o:=h
 show XaJ Tryz.prog 135 1 (Xl4 l n1) (fun v H _=>Res 1 (XtE res) v H)
 unfold XjQ at h
 refine Xa7 XaE hS true 3000 ?_
 conv=>whnf
 refine br.h2 h (by rfl) ?_ ?_
 ·clear h;intro hb h;conv=>whnf
  exact W
 clear h;intro hb h;conv=>whnf
 let t:Int:=wI .i64 ((n1.tmod 65536)+(wI .i64 (n1.tdiv 65536)))
 cases h;simp only [Sum.elim_inl,Xl4] at hc
 exact Xkz hc [(0,0)] rfl
theorem Xzn (hS:Xaj Tryz.prog (XaI (Xuu))) (l:List Int) (res:Int):∀ fuel (st:Int×Int) (o:Int),iter (fun st=>XjN l st.1 st.2) fuel st=some o→(o=res) →
 XaJ Tryz.prog 135 1 (Xlv l st.1 st.2) (fun v H _=>Res 1 (XtE res) v H):=by
 intro fuel st o h hc
 refine XcX (head:=fun st=>Xlv l st.1 st.2) (C:=fun o=>(o=res)) ?_ fuel st o h hc
 clear h hc o st fuel
 intro st o h hc
 obtain ⟨n,i⟩:=st
 replace h:XjN l n i=some o:=h
 show XaJ Tryz.prog 135 1 (Xlv l n i) (fun v H _=>Res 1 (XtE res) v H)
 unfold XjN at h
 refine Xa7 XaE hS true 3000 ?_
 conv=>whnf
 refine br.h2 h (by rfl) ?_ ?_
 ·clear h;intro hb h;conv=>whnf
  obtain ⟨y,hy,h2⟩:=XcR.elim h;cases h2
  have hl:=XBw hS _ res _ _ _ hy hc;simp only [Xl4] at hl
  exact Xkz hl [(0,0)] rfl
 clear h;intro hb h;conv=>whnf
 replace h:=Xbn.elim h;obtain ⟨hb,h⟩:=h
 try (refine req.intro hb ?_;conv=>whnf)
 replace h:=XcR.elim h;obtain ⟨e,hy,h⟩:=h
 refine rd.I hy (by first|rfl|(rw [Nat.zero_add,Nat.mul_one];try rfl;done)|omega) ?_
 conv=>whnf
 cases h;simp only [Sum.elim_inl,Xlv] at hc
 exact Xkz hc [(0,0)] rfl
theorem XCs (hS:Xaj Tryz.prog (XaI (Xuu))) (l:List Int) (res:Int) (h:Xo6 l=some res) :
 XaJ Tryz.prog 135 1 ⟨⟨135,25,[(0,.slice (some ⟨0,0,none⟩) l.length 1)],[.code XAE],[],false,none⟩,[],[(0,.row false (vI .i64 l))],1⟩ (fun v H _=>Res 1 (XtE res) v H):=by
 unfold Xo6 at h
 refine Xa7 XaE hS true 3000 ?_
 conv=>whnf
 have hl:=Xzn hS _ res _ _ _ h rfl;simp only [Xlv] at hl
 exact Xkz hl [(0,0)] rfl
def XiI:XhX:=Xo6
theorem XMl:XbB Tryz.prog 135 (s135 XiI):=by
 have hL:=XCs (Xaj.XaK trivial)
 exact okA ⟨Tryz.f135,rfl,by decide,rfl⟩
def Xgk (Xas:XbL) (s1:List UInt8) (i:Int) (out1:List Int):Option (Sum ((List UInt8)×Int×(List Int)) (List Int)):=
 cond (decide (i<(s1.length:Int)))
  (
  (Xas s1 i 2).bind fun m=>
  Xbn (decide ((out1.length+1)*8≤2^47)) <|
  let row:=out1++[m]
  some (.inl (s1,wI .i64 (i+2),row)))
  (
  some (.inr (out1)))
def Xmw (Xas:XbL) (s:List UInt8):Option (List Int):=
 cond (((s.length:Int).tmod 2)==1)
  (
  Xbn (decide (s.length+1<2^63)) <|
  iter (fun st=>Xgk Xas st.1 st.2.1 st.2.2) FUEL (s++[0],0,[]))
  (
  iter (fun st=>Xgk Xas st.1 st.2.1 st.2.2) FUEL (s,0,[]))
def Xwm (x:List Int):XcS:=⟨.slice (some ⟨0,0,none⟩) x.length 1,[(vI .i64 x)],[]⟩
abbrev Xgi:=(List UInt8)→Option (List Int)
def r136 (g:Xgi):Dec:=dV asS fun (y0:List UInt8)=>XdJ (ofG (g y0) Xwm)
theorem XR7 {g:Xgi} {y0:List UInt8} {x:List Int} (hx:g y0=some x):r136 g [.string ⟨⟨y0⟩⟩] []=some (Xwm x):=(XaP (XdL)).trans (XaN hx)
def s136 (g:Xgi):Xbz:=⟨[.v],r136 g⟩
theorem XOf {g:Xgi} {y0:List UInt8} {x:List Int} (hx:g y0=some x):(s136 g).run [.string ⟨⟨y0⟩⟩] []=some (Xwm x):=XR7 hx
abbrev XzY (Xas:XbL):List (Nat×Xbz):=[(88,s88 Xas)]
def XkO (s1:List UInt8) (i:Int) (out1:List Int):VM:=
 ⟨⟨136,24,[(0,.string ⟨⟨s1⟩⟩),(3,.slice (some ⟨0,0,none⟩) out1.length 1),(4,.int .i64 i)],[.code Xug,.inLoop Xug,.inBlock 0,.code Xzs],[],false,none⟩,[],[(0,.row true (vI .i64 out1))],1⟩
theorem Xs4 (Xas:XbL) (hS:Xaj Tryz.prog (XaI (XzY Xas))) (res:List Int):∀ fuel (st:(List UInt8)×Int×(List Int)) (o:List Int),iter (fun st=>Xgk Xas st.1 st.2.1 st.2.2) fuel st=some o→(o=res) →
 XaJ Tryz.prog 136 0 (XkO st.1 st.2.1 st.2.2) (fun v H _=>Res 0 (Xwm res) v H):=by
 intro fuel st o h hc
 refine XcX (head:=fun st=>XkO st.1 st.2.1 st.2.2) (C:=fun o=>(o=res)) ?_ fuel st o h hc
 clear h hc o st fuel
 intro st o h hc
 obtain ⟨s1,i,out1⟩:=st
 replace h:Xgk Xas s1 i out1=some o:=h
 show XaJ Tryz.prog 136 0 (XkO s1 i out1) (fun v H _=>Res 0 (Xwm res) v H)
 unfold Xgk at h
 refine Xa7 XaE hS true 3000 ?_
 conv=>whnf
 refine br.h2 h (by rfl) ?_ ?_
 ·clear h;intro hb h;conv=>whnf
  exact W
 clear h;intro hb h;conv=>whnf
 replace h:=XcR.elim h;obtain ⟨m,hy,h⟩:=h
 refine Xgw.a (XoB hy) ?_
 conv=>whnf
 replace h:=Xbn.elim h;obtain ⟨hb,h⟩:=h
 refine req.intro (XAu (of_decide_eq_true hb) (by first|rfl|omega|(simp;done)|(simp;omega)|(simp at *;omega)) rfl (by first|rfl|omega|(simp;done)|(simp;omega)|(simp at *;omega)) (by first|rfl|exact Xip _ _|exact XkF _|exact XkQ _|exact Xlp (by first|exact XdS|exact Xdk|exact XdZ|exact Xcs|exact Xce|exact XdT|exact XcU|exact XcF|exact Xdl|exact XdR|exact XcV|exact XdY|exact Xez|exact Xcr|exact Xcp|exact XeC|exact XcT) _|(rw [Xfu];exact Xip _ _)|(simp [Xip,XkF,XkQ,XlT,XlG,Xm2,Xm9];done)|(simp;exact List.all_eq_true.1 (Xlp (by first|exact XdS|exact Xdk|exact XdZ|exact Xcs|exact Xce|exact XdT|exact XcU|exact XcF|exact Xdl|exact XdR|exact XcV|exact XdY|exact Xez|exact Xcr|exact Xcp|exact XeC|exact XcT) _))) rfl) ?_
 conv=>whnf
 let row:List Int:=out1++[m]
 first|have hlen_row:row.length=_:=List.length_append ..|skip
 refine XSJ (xs:=out1) (ys:=[m]) rfl (by first|rfl|omega) (by first|rfl|omega|(simp;done)|(simp;omega)|(simp at *;omega)) (by first|rfl|omega|(simp;done)|(simp;omega)|(simp at *;omega)) ?_
 conv=>whnf
 cases h;simp only [Sum.elim_inl,XkO] at hc
 exact Xkz hc [(0,2)] rfl
theorem XDA (Xas:XbL) (hS:Xaj Tryz.prog (XaI (XzY Xas))) (s:List UInt8) (res:List Int) (h:Xmw Xas s=some res) :
 XaJ Tryz.prog 136 0 ⟨⟨136,24,[(0,.string ⟨⟨s⟩⟩)],[.code XA8],[],false,none⟩,[],[],0⟩ (fun v H _=>Res 0 (Xwm res) v H):=by
 unfold Xmw at h
 refine Xa7 XaE hS true 3000 ?_
 conv=>whnf
 refine br.h2 h (by rfl) ?_ ?_
 ·clear h;intro hb h;conv=>whnf
  have hl:=Xs4 Xas hS res _ _ _ h rfl;simp only [XkO] at hl
  refine XaJ.nilT 3 1 ?_
  exact Xkz hl [(0,0)] rfl
 clear h;intro hb h;conv=>whnf
 replace h:=Xbn.elim h;obtain ⟨hb,h⟩:=h
 try (refine req.intro hb ?_;conv=>whnf)
 have hl:=Xs4 Xas hS res _ _ _ h rfl;simp only [XkO] at hl
 refine XaJ.nilT 3 1 ?_
 exact Xkz hl [(0,0)] rfl
def XfZ:Xgi:=Xmw Xas
theorem XMq:XbB Tryz.prog 136 (s136 XfZ):=by
 have hL:=XDA Xas (Xaj.XaK ⟨Xqe,trivial⟩)
 exact okA ⟨Tryz.f136,rfl,by decide,rfl⟩
def Xpf (XiI:XhX) (XfZ:Xgi) (s:List UInt8):Option Int:=
 (XfZ s).bind fun w=>
 (XiI w).bind fun a=>
 some (a)
def rx86 (x:Int):XcS:=⟨.int .i64 x,[],[]⟩
abbrev Xd6:=(List UInt8)→Option Int
def r86 (g:Xd6):Dec:=dV asS fun (y0:List UInt8)=>XdJ (ofG (g y0) rx86)
theorem r86_c {g:Xd6} {y0:List UInt8} {x:Int} (hx:g y0=some x):r86 g [.string ⟨⟨y0⟩⟩] []=some (rx86 x):=(XaP (XdL)).trans (XaN hx)
def s86 (g:Xd6):Xbz:=⟨[.v],r86 g⟩
theorem XvE {g:Xd6} {y0:List UInt8} {x:Int} (hx:g y0=some x):(s86 g).run [.string ⟨⟨y0⟩⟩] []=some (rx86 x):=r86_c hx
abbrev XTE (XiI:XhX) (XfZ:Xgi):List (Nat×Xbz):=[(135,s135 XiI),(136,s136 XfZ)]
theorem XNB (XiI:XhX) (XfZ:Xgi) (hS:Xaj Tryz.prog (XaI (XTE XiI XfZ))) (s:List UInt8) (res:Int) (h:Xpf XiI XfZ s=some res) :
 XaJ Tryz.prog 86 0 ⟨⟨86,6,[(0,.string ⟨⟨s⟩⟩)],[.code XTU],[],false,none⟩,[],[],0⟩ (fun v H _=>Res 0 (rx86 res) v H):=by
 unfold Xpf at h
 have R1:=@XOf XfZ
 have R2:=@XPo XiI
 refine Xa7 XaE hS true 3000 ?_
 conv=>whnf
 exact W
def Xcy:Xd6:=Xpf XiI XfZ
theorem Xu9:XbB Tryz.prog 86 (s86 Xcy):=by
 have hL:=XNB XiI XfZ (Xaj.XaK ⟨XMl,XMq,trivial⟩)
 exact okA ⟨Tryz.f86,rfl,by decide,rfl⟩
def Xrs (Xcy:Xd6) (s:List UInt8):Option Int:=
 (Xcy s).bind fun s1=>
 some (wI .i64 (65535 - s1))
def rx65 (x:Int):XcS:=⟨.int .i64 x,[],[]⟩
abbrev XfC:=(List UInt8)→Option Int
def r65 (g:XfC):Dec:=dV asS fun (y0:List UInt8)=>XdJ (ofG (g y0) rx65)
theorem r65_c {g:XfC} {y0:List UInt8} {x:Int} (hx:g y0=some x):r65 g [.string ⟨⟨y0⟩⟩] []=some (rx65 x):=(XaP (XdL)).trans (XaN hx)
def s65 (g:XfC):Xbz:=⟨[.v],r65 g⟩
theorem XAb {g:XfC} {y0:List UInt8} {x:Int} (hx:g y0=some x):(s65 g).run [.string ⟨⟨y0⟩⟩] []=some (rx65 x):=r65_c hx
abbrev XQ9 (Xcy:Xd6):List (Nat×Xbz):=[(86,s86 Xcy)]
theorem XLx (Xcy:Xd6) (hS:Xaj Tryz.prog (XaI (XQ9 Xcy))) (s:List UInt8) (res:Int) (h:Xrs Xcy s=some res) :
 XaJ Tryz.prog 65 0 ⟨⟨65,6,[(0,.string ⟨⟨s⟩⟩)],[.code XQU],[],false,none⟩,[],[],0⟩ (fun v H _=>Res 0 (rx65 res) v H):=by
 unfold Xrs at h
 have R1:=@XvE Xcy
 refine Xa7 XaE hS true 3000 ?_
 conv=>whnf
 exact W
def XeH:XfC:=Xrs Xcy
theorem XBc:XbB Tryz.prog 65 (s65 XeH):=by
 have hL:=XLx Xcy (Xaj.XaK ⟨Xu9,trivial⟩)
 exact okA ⟨Tryz.f65,rfl,by decide,rfl⟩
def XnO (Xdh:XeR) (s:List UInt8):Option Int:=
 (Xdh s).bind fun s1=>
 some (wI .i64 (65535 - s1))
def XDv (x:Int):XcS:=⟨.int .i64 x,[],[]⟩
abbrev XdC:=(List UInt8)→Option Int
def r183 (g:XdC):Dec:=dV asS fun (y0:List UInt8)=>XdJ (ofG (g y0) XDv)
theorem XVY {g:XdC} {y0:List UInt8} {x:Int} (hx:g y0=some x):r183 g [.string ⟨⟨y0⟩⟩] []=some (XDv x):=(XaP (XdL)).trans (XaN hx)
def XRq (g:XdC):Xbz:=⟨[.v],r183 g⟩
theorem Xuj {g:XdC} {y0:List UInt8} {x:Int} (hx:g y0=some x):(XRq g).run [.string ⟨⟨y0⟩⟩] []=some (XDv x):=XVY hx
abbrev XOP (Xdh:XeR):List (Nat×Xbz):=[(130,s130 Xdh)]
theorem XEE (Xdh:XeR) (hS:Xaj Tryz.prog (XaI (XOP Xdh))) (s:List UInt8) (res:Int) (h:XnO Xdh s=some res) :
 XaJ Tryz.prog 183 0 ⟨⟨183,6,[(0,.string ⟨⟨s⟩⟩)],[.code XJs],[],false,none⟩,[],[],0⟩ (fun v H _=>Res 0 (XDv res) v H):=by
 unfold XnO at h
 have R1:=@Xyh Xdh
 refine Xa7 XaE hS true 3000 ?_
 conv=>whnf
 exact W
def XbJ:XdC:=XnO Xdh
theorem XtO:XbB Tryz.prog 183 (XRq XbJ):=by
 have hL:=XEE Xdh (Xaj.XaK ⟨Xzw,trivial⟩)
 exact okA ⟨Tryz.f183,rfl,by decide,rfl⟩
def Xkc (Xdh:XeR) (s:List UInt8):Option Bool:=
 (Xdh s).bind fun s1=>
 some (s1==65535)
def rx80 (x:Bool):XcS:=⟨.bool x,[],[]⟩
abbrev XcN:=(List UInt8)→Option Bool
def r80 (g:XcN):Dec:=dV asS fun (y0:List UInt8)=>XdJ (ofG (g y0) rx80)
theorem r80_c {g:XcN} {y0:List UInt8} {x:Bool} (hx:g y0=some x):r80 g [.string ⟨⟨y0⟩⟩] []=some (rx80 x):=(XaP (XdL)).trans (XaN hx)
def s80 (g:XcN):Xbz:=⟨[.v],r80 g⟩
theorem Xyx {g:XcN} {y0:List UInt8} {x:Bool} (hx:g y0=some x):(s80 g).run [.string ⟨⟨y0⟩⟩] []=some (rx80 x):=r80_c hx
abbrev XWL (Xdh:XeR):List (Nat×Xbz):=[(130,s130 Xdh)]
theorem XK6 (Xdh:XeR) (hS:Xaj Tryz.prog (XaI (XWL Xdh))) (s:List UInt8) (res:Bool) (h:Xkc Xdh s=some res) :
 XaJ Tryz.prog 80 0 ⟨⟨80,6,[(0,.string ⟨⟨s⟩⟩)],[.code XRr],[],false,none⟩,[],[],0⟩ (fun v H _=>Res 0 (rx80 res) v H):=by
 unfold Xkc at h
 have R1:=@Xyh Xdh
 refine Xa7 XaE hS true 3000 ?_
 conv=>whnf
 exact W
def Xbi:XcN:=Xkc Xdh
theorem XAO:XbB Tryz.prog 80 (s80 Xbi):=by
 have hL:=XK6 Xdh (Xaj.XaK ⟨Xzw,trivial⟩)
 exact okA ⟨Tryz.f80,rfl,by decide,rfl⟩
end Go.Vm.Code
namespace Go.Vm.Code
open Go Go.Vm
theorem XFD {s:List UInt8} {i:Nat} (h:i+1<s.length):Xxn s (i:Int) 2=(((s[i].toNat*256+s[i+1].toNat:Nat):Int),true):=by
 unfold Xxn
 rw [if_pos (by omega)]
 have e:(s.drop (i:Int).toNat).take (2:Int).toNat=[s[i],s[i+1]]:=by
  show (s.drop i).take 2=_
  rw [List.drop_eq_getElem_cons (by omega:i<s.length),List.drop_eq_getElem_cons h];rfl
 rw [e];simp [XhD]
def XhV:List UInt8→List Int
 | []=>[]
 | [b]=>[((b.toNat*256:Nat):Int)]
 | b::c::l=>((b.toNat*256+c.toNat:Nat):Int)::XhV l
theorem XwM {s:List UInt8} {i:Nat} (h:i+1<s.length):XhV (s.drop i)=((s[i].toNat*256+s[i+1].toNat:Nat):Int)::XhV (s.drop (i+2)):=by
 rw [List.drop_eq_getElem_cons (by omega:i<s.length),List.drop_eq_getElem_cons h];rfl
theorem Xq5:∀ s:List UInt8,s.length%2=1→XhV (s++[0])=XhV s
 | [],h=>by simp at h
 | [b],_=>by
   show [((b.toNat*256+0:Nat):Int)]=[((b.toNat*256:Nat):Int)]
   rw [Nat.add_zero]
 | b::c::l,h=>by
   have:=Xq5 l (by simp at h;omega)
   simp only [List.cons_append,XhV,this]
theorem Xri:∀ s:List UInt8,(XhV s).sum=(Xic s:Int)
 | []=>rfl
 | [b]=>by simp only [XhV,Xic,List.sum_cons,List.sum_nil,Int.add_zero]
 | b::c::l=>by
   have:=Xri l
   simp only [XhV,Xic,List.sum_cons,this];omega
theorem Xrg:∀ s:List UInt8,∀ e∈XhV s,0≤e∧e≤65535
 | [],e,h=>by simp [XhV] at h
 | [b],e,h=>by simp [XhV] at h;have:=b.toNat_lt;omega
 | b::c::l,e,h=>by
   simp only [XhV,List.mem_cons] at h
   rcases h with rfl|h
   ·have:=b.toNat_lt;have:=c.toNat_lt;omega
   ·exact Xrg l e h
theorem Xre:∀ s:List UInt8,(XhV s).length=(s.length+1)/2
 | []=>rfl
 | [b]=>by simp [XhV]
 | b::c::l=>by
   have:=Xre l
   simp only [XhV,List.length_cons,this];omega
theorem XmL {s:List UInt8} (h:s.length<2^40) (he:s.length%2=0):iter (fun (st:List UInt8×Int×List Int)=>Xgk Xas st.1 st.2.1 st.2.2) FUEL (s,0,[])=some (XhV s):=by
 have key:=iter_eq (step:=fun (st:List UInt8×Int×List Int)=>Xgk Xas st.1 st.2.1 st.2.2) (fun st=>st.2.2++XhV (s.drop st.2.1.toNat)) (fun st=>st.1=s∧∃ i:Nat,st.2.1=i∧i%2=0∧i≤s.length∧st.2.2.length≤i) (fun st=>(s.length - st.2.1).toNat) ?_ FUEL (s,0,[]) ⟨rfl,0,rfl,by omega,by omega,by simp⟩ (by rw [Xgx];simp only;omega)
 ·rw [key];simp
 rintro ⟨s1,p,out⟩ ⟨h1,i,h2,h3,h4,h5⟩
 simp only at h1 h2 h5 ⊢
 subst h1 h2
 unfold Xgk
 by_cases hi:i<s1.length
 ·have hi2:i+1<s1.length:=by omega
  refine .inr ⟨(s1,((i+2:Nat):Int),out++[((s1[i].toNat*256+s1[i+1].toNat:Nat):Int)]),?_,⟨rfl,i+2,rfl,by omega,by omega,by simp;omega⟩,by simp only;omega,?_⟩
  ·have b1:=s1[i].toNat_lt
   have b2:=s1[i+1].toNat_lt
   rw [XaW (by omega),XiQ (by omega),XFD hi2,Option.bind_some,XaA (by omega),Xed (by omega) (by omega),Xed (by omega) (by omega)];rfl
  ·simp only [Int.toNat_natCast]
   rw [XwM hi2];simp
 ·refine .inl ?_
  rw [XaO (by omega)]
  simp [List.drop_eq_nil_of_le (by omega:s1.length≤i),XhV]
theorem XsZ {s:List UInt8} (h:s.length<2^39):XfZ s=some (XhV s):=by
 unfold XfZ Xmw
 have ea:((s.length:Int).tmod 2==1)=decide (s.length%2=1):=by
  rw [Int.tmod_eq_emod_of_nonneg (by omega),Bool.eq_iff_iff,beq_iff_eq,decide_eq_true_eq];omega
 rw [ea]
 by_cases h2:s.length%2=1
 ·rw [XaW h2,XaA (by omega),XmL (by simp only [List.length_append,List.length_cons,List.length_nil];omega) (by simp only [List.length_append,List.length_cons,List.length_nil];omega),Xq5 s h2]
 ·rw [XaO h2,XmL (by omega) (by omega)]
theorem XuH {l:List Int} {n:Int} (h0:0≤n) (h1:n<2^62):iter (fun st=>XjQ l st) FUEL n=some ((norm n.toNat:Nat):Int):=by
 refine iter_eq (fun n=>((norm n.toNat:Nat):Int)) (fun n=>0≤n∧n<2^62) (fun n=>n.toNat) ?_ FUEL _ ⟨h0,h1⟩ (by rw [Xgx];omega)
 intro s ⟨a,b⟩
 unfold XjQ
 by_cases hs:s>65535
 ·refine .inr ⟨s%65536+s/65536,?_,⟨by omega,by omega⟩,by omega,?_⟩
  ·rw [XaW hs,Int.tdiv_eq_ediv_of_nonneg a,Int.tmod_eq_emod_of_nonneg a,Xed (n:=s/65536) (by omega) (by omega),Xed (by omega) (by omega)]
  ·have:norm (s%65536+s/65536).toNat=norm s.toNat:=
    (norm_eq (norm_le _) (by have:=Xph (s%65536+s/65536).toNat;omega) (by have:=XnX (s%65536+s/65536).toNat;omega)).symm
   rw [this]
 ·refine .inl ?_
  rw [XaO hs]
  have:=XpF (n:=s.toNat) (by omega)
  simp only [this]
  rw [Int.toNat_of_nonneg a]
theorem Xwi {l:List Int} (hl:l.length<2^40) (hr:∀ e∈l,0≤e∧e≤65535):XiI l=some ((norm l.sum.toNat:Nat):Int):=by
 unfold XiI Xo6
 have key:=iter_eq (step:=fun (st:Int×Int)=>XjN l st.1 st.2) (fun st=>((norm (st.1+(l.drop st.2.toNat).sum).toNat:Nat):Int)) (fun st=>0≤st.1∧0≤st.2∧st.2≤l.length∧st.1≤st.2*65535) (fun st=>(l.length - st.2).toNat) ?_ FUEL (0,0) ⟨by simp,by simp,by simp,by simp⟩ (by rw [Xgx];simp only;omega)
 ·rw [key];simp
 rintro ⟨n,p⟩ ⟨g1,g2,g3,g4⟩
 simp only at g1 g2 g3 g4 ⊢
 obtain ⟨i,rfl⟩:=Int.eq_ofNat_of_zero_le g2
 simp only [Int.toNat_natCast]
 unfold XjN
 by_cases hi:i<l.length
 ·have hx:=hr l[i] (List.getElem_mem hi)
  refine .inr ⟨(n+l[i],((i+1:Nat):Int)),?_,⟨by simp only;omega,by simp only;omega,by simp only;omega,by simp only;omega⟩,by simp only;omega,?_⟩
  ·simp (disch:=omega) only [XaW,XaA,Int.toNat_natCast,List.getElem?_eq_getElem,Option.bind_some,Xed];rfl
  ·simp only [Int.toNat_natCast]
   rw [List.drop_eq_getElem_cons hi,List.sum_cons,Int.add_assoc]
 ·refine .inl ?_
  rw [XaO (by omega),XuH g1 (by omega),List.drop_eq_nil_of_le (by omega)]
  simp
theorem Xmi {s:List UInt8} (h:s.length<2^39):Xcy s=some ((norm (Xic s):Nat):Int):=by
 unfold Xcy Xpf
 rw [XsZ h,Option.bind_some,Xwi (by rw [Xre];omega) (Xrg s),Xri];rfl
def XtG (s:List UInt8) (p k n:Int):List UInt8:=if 1≤k∧k≤8∧0≤p∧p+k≤s.length then s.take p.toNat++be n.toNat k.toNat++s.drop (p+k).toNat else s
theorem Xvl {s:List UInt8} {p k n:Int} (hs:s.length<2^40) (hn:0≤n):Xa5 s p k n=some (XtG s p k n):=by
 unfold Xa5 Xmn XtG
 rw [XbH hn,Option.bind_some]
 unfold Xc9
 by_cases hk:1≤k∧k≤8
 ·rw [if_pos hk]
  have e:(be n.toNat k.toNat==[])=false:=by
   rw [beq_eq_false_iff_ne];intro h;have:=congrArg List.length h;simp at this;omega
  rw [e,cond_false]
  by_cases h1:p<0
  ·rw [XaW h1,if_neg (by omega)]
  rw [XaO h1,Xed (n:=(s.length:Int) - k) (by omega) (by omega)]
  by_cases h2:(s.length:Int) - k<p
  ·simp only []
   rw [XaW h2,if_neg (by omega)]
  simp only []
  have e1:(p+k).toNat=p.toNat+k.toNat:=by omega
  have e2:((s.drop (p+k).toNat).take (s.length - (p+k).toNat))=s.drop (p+k).toNat:=List.take_of_length_le (by simp)
  rw [XaO h2,XaA (by omega),Xed (n:=p+k) (by omega) (by omega),e2,XaA (by simp;omega),XaA (by omega),XaA (by simp;omega),if_pos (by omega)]
 ·rw [if_neg hk,if_neg (by omega)];rfl
theorem Xmd {s:List UInt8} {p k n:Int} (hs:s.length<2^40) (hn:0≤n) (hn2:n<2^64):XcP s p k n=some (XtG s p k n):=by
 unfold XcP Xo2 XtG
 rw [XkT (by omega),Option.bind_some]
 unfold Xxn
 by_cases hc:1≤k∧k≤8∧0≤p∧p+k≤s.length
 ·rw [if_pos hc,if_pos hc]
  have e2:((s.drop (p+k).toNat).take (s.length - (p+k).toNat))=s.drop (p+k).toNat:=List.take_of_length_le (by simp)
  simp only [Bool.not_true,cond_false]
  rw [Xdq hn hn2,Option.bind_some,XaA (by omega),Xed (n:=p+k) (by omega) (by omega),e2]
  unfold Xc9
  rw [if_pos (by omega),XaA (by simp;omega),XaA (by omega),XaA (by simp;omega)]
 ·rw [if_neg hc,if_neg hc];rfl
theorem XD9 {s:List UInt8} (h:s.length<2^39):XbJ s=some (65535 - ((norm (Xic s):Nat):Int)):=by
 unfold XbJ XnO
 have:=norm_le (Xic s)
 rw [XH6 s (by omega),Option.bind_some,Xed (by omega) (by omega)]
theorem Xpz {s:List UInt8} (h:s.length<2^39):XeH s=some (65535 - ((norm (Xic s):Nat):Int)):=by
 unfold XeH Xrs
 have:=norm_le (Xic s)
 rw [Xmi h,Option.bind_some,Xed (by omega) (by omega)]
theorem XrY {s:List UInt8} (h:s.length<2^39):Xbi s=some (((norm (Xic s):Nat):Int)==65535):=by
 unfold Xbi Xkc
 rw [XH6 s (by omega),Option.bind_some]
end Go.Vm.Code
namespace Go.Vm.Code
open Go Go.Vm Go.Proofs
set_option maxRecDepth 100000
set_option maxHeartbeats 4000000
set_option linter.unusedVariables false
def XiS (a:Xab):Option Bool:=
 cond (a.V6)
  (
  some (true))
  (
  cond (a.Hi==0)
   (
   some (decide (a.Lo<4294967296)))
   (
   some (false)))
def XHs (x:Bool):XcS:=⟨.bool x,[],[]⟩
abbrev Xb6:=Xab→Option Bool
def r110 (g:Xb6):Dec:=dV Xb5 fun (y0:Xab)=>XdJ (ofG (g y0) XHs)
theorem XVB {g:Xb6} {y0:Xab} {x:Bool} (hx:g y0=some x):r110 g [.agg ⟨[.bool y0.V6,.int .u64 y0.Hi,.int .u64 y0.Lo]⟩] []=some (XHs x):=(XaP (XbO _)).trans (XaN hx)
def XOp (g:Xb6):Xbz:=⟨[.v],r110 g⟩
theorem Xql {g:Xb6} {y0:Xab} {x:Bool} (hx:g y0=some x):(XOp g).run [.agg ⟨[.bool y0.V6,.int .u64 y0.Hi,.int .u64 y0.Lo]⟩] []=some (XHs x):=XVB hx
abbrev XNz:List (Nat×Xbz):=[]
theorem XCS (hS:Xaj Tryz.prog (XaI (XNz))) (a:Xab) (res:Bool) (h:XiS a=some res) :
 XaJ Tryz.prog 110 0 ⟨⟨110,15,[(0,.agg ⟨[.bool a.V6,.int .u64 a.Hi,.int .u64 a.Lo]⟩)],[.code XHS],[],false,none⟩,[],[],0⟩ (fun v H _=>Res 0 (XHs res) v H):=by
 unfold XiS at h
 refine Xa7 XaE hS true 3000 ?_
 conv=>whnf
 exact W
def XaH:Xb6:=XiS
theorem Xp5:XbB Tryz.prog 110 (XOp XaH):=by
 have hL:=XCS (Xaj.XaK trivial)
 exact okA ⟨Tryz.f110,rfl,by decide,rfl⟩
def XlU (XaH:Xb6) (Xak:XaY) (a:Xab):Option (List UInt8):=
 (XaH a).bind fun xr=>
 cond (!xr)
  (
  some ([]))
  (
  cond (a.V6)
   (
   (Xak a.Hi 8).bind fun p=>
   (Xak a.Lo 8).bind fun p1=>
   Xbn (decide (p.length+p1.length<2^63)) <|
   some (p++p1))
   (
   (Xak a.Lo 4).bind fun p2=>
   some (p2)))
def XB7 (x:List UInt8):XcS:=⟨.string ⟨⟨x⟩⟩,[],[]⟩
abbrev Xeu:=Xab→Option (List UInt8)
def r195 (g:Xeu):Dec:=dV Xb5 fun (y0:Xab)=>XdJ (ofG (g y0) XB7)
theorem XSH {g:Xeu} {y0:Xab} {x:List UInt8} (hx:g y0=some x):r195 g [.agg ⟨[.bool y0.V6,.int .u64 y0.Hi,.int .u64 y0.Lo]⟩] []=some (XB7 x):=(XaP (XbO _)).trans (XaN hx)
def XWW (g:Xeu):Xbz:=⟨[.v],r195 g⟩
theorem Xt9 {g:Xeu} {y0:Xab} {x:List UInt8} (hx:g y0=some x):(XWW g).run [.agg ⟨[.bool y0.V6,.int .u64 y0.Hi,.int .u64 y0.Lo]⟩] []=some (XB7 x):=XSH hx
abbrev XLb (XaH:Xb6) (Xak:XaY):List (Nat×Xbz):=[(110,XOp XaH),(97,s97 Xak)]
theorem XCU (XaH:Xb6) (Xak:XaY) (hS:Xaj Tryz.prog (XaI (XLb XaH Xak))) (a:Xab) (res:List UInt8) (h:XlU XaH Xak a=some res) :
 XaJ Tryz.prog 195 0 ⟨⟨195,20,[(0,.agg ⟨[.bool a.V6,.int .u64 a.Hi,.int .u64 a.Lo]⟩)],[.code XyI],[],false,none⟩,[],[],0⟩ (fun v H _=>Res 0 (XB7 res) v H):=by
 unfold XlU at h
 have R1:=@Xql XaH
 have R2:=@Xl3 Xak
 refine Xa7 XaE hS true 3000 ?_
 conv=>whnf
 exact W
def Xb7:Xeu:=XlU XaH Xak
theorem Xuo:XbB Tryz.prog 195 (XWW Xb7):=by
 have hL:=XCU XaH Xak (Xaj.XaK ⟨Xp5,Xnh,trivial⟩)
 exact okA ⟨Tryz.f195,rfl,by decide,rfl⟩
def XkM (a:Xab):Option Bool:=
 cond (a.V6)
  (
  some (true))
  (
  cond (a.Hi==0)
   (
   some (decide (a.Lo<4294967296)))
   (
   some (false)))
def rx59 (x:Bool):XcS:=⟨.bool x,[],[]⟩
abbrev Xcm:=Xab→Option Bool
def r59 (g:Xcm):Dec:=dV Xb5 fun (y0:Xab)=>XdJ (ofG (g y0) rx59)
theorem r59_c {g:Xcm} {y0:Xab} {x:Bool} (hx:g y0=some x):r59 g [.agg ⟨[.bool y0.V6,.int .u64 y0.Hi,.int .u64 y0.Lo]⟩] []=some (rx59 x):=(XaP (XbO _)).trans (XaN hx)
def s59 (g:Xcm):Xbz:=⟨[.v],r59 g⟩
theorem XsX {g:Xcm} {y0:Xab} {x:Bool} (hx:g y0=some x):(s59 g).run [.agg ⟨[.bool y0.V6,.int .u64 y0.Hi,.int .u64 y0.Lo]⟩] []=some (rx59 x):=r59_c hx
abbrev XUR:List (Nat×Xbz):=[]
theorem XKX (hS:Xaj Tryz.prog (XaI (XUR))) (a:Xab) (res:Bool) (h:XkM a=some res) :
 XaJ Tryz.prog 59 0 ⟨⟨59,15,[(0,.agg ⟨[.bool a.V6,.int .u64 a.Hi,.int .u64 a.Lo]⟩)],[.code XSi],[],false,none⟩,[],[],0⟩ (fun v H _=>Res 0 (rx59 res) v H):=by
 unfold XkM at h
 refine Xa7 XaE hS true 3000 ?_
 conv=>whnf
 exact W
def XaT:Xcm:=XkM
theorem XsV:XbB Tryz.prog 59 (s59 XaT):=by
 have hL:=XKX (Xaj.XaK trivial)
 exact okA ⟨Tryz.f59,rfl,by decide,rfl⟩
def XnB (Xa3:Xck) (XaT:Xcm) (a:Xab):Option (List UInt8):=
 (XaT a).bind fun xr=>
 cond (!xr)
  (
  some ([]))
  (
  cond (a.V6)
   (
   (Xa3 a.Hi 8).bind fun p=>
   (Xa3 a.Lo 8).bind fun p1=>
   Xbn (decide (p.length+p1.length<2^63)) <|
   some (p++p1))
   (
   (Xa3 a.Lo 4).bind fun p2=>
   some (p2)))
def XDe (x:List UInt8):XcS:=⟨.string ⟨⟨x⟩⟩,[],[]⟩
abbrev XeX:=Xab→Option (List UInt8)
def r146 (g:XeX):Dec:=dV Xb5 fun (y0:Xab)=>XdJ (ofG (g y0) XDe)
theorem XWc {g:XeX} {y0:Xab} {x:List UInt8} (hx:g y0=some x):r146 g [.agg ⟨[.bool y0.V6,.int .u64 y0.Hi,.int .u64 y0.Lo]⟩] []=some (XDe x):=(XaP (XbO _)).trans (XaN hx)
def XSO (g:XeX):Xbz:=⟨[.v],r146 g⟩
theorem Xt6 {g:XeX} {y0:Xab} {x:List UInt8} (hx:g y0=some x):(XSO g).run [.agg ⟨[.bool y0.V6,.int .u64 y0.Hi,.int .u64 y0.Lo]⟩] []=some (XDe x):=XWc hx
abbrev XOz (Xa3:Xck) (XaT:Xcm):List (Nat×Xbz):=[(63,s63 Xa3),(59,s59 XaT)]
theorem XGB (Xa3:Xck) (XaT:Xcm) (hS:Xaj Tryz.prog (XaI (XOz Xa3 XaT))) (a:Xab) (res:List UInt8) (h:XnB Xa3 XaT a=some res) :
 XaJ Tryz.prog 146 0 ⟨⟨146,18,[(0,.agg ⟨[.bool a.V6,.int .u64 a.Hi,.int .u64 a.Lo]⟩)],[.code XyE],[],false,none⟩,[],[],0⟩ (fun v H _=>Res 0 (XDe res) v H):=by
 unfold XnB at h
 have R1:=@XsX XaT
 have R2:=@Xpy Xa3
 refine Xa7 XaE hS true 3000 ?_
 conv=>whnf
 exact W
def XcA:XeX:=XnB Xa3 XaT
theorem Xut:XbB Tryz.prog 146 (XSO XcA):=by
 have hL:=XGB Xa3 XaT (Xaj.XaK ⟨XpH,XsV,trivial⟩)
 exact okA ⟨Tryz.f146,rfl,by decide,rfl⟩
def Xdz (Xak:XaY) (l:List Int) (i:Int) (c:List Int):Option (Sum (Int×(List Int)) (List UInt8)):=
 let t:=decide ((wI .i64 (i+1))<(l.length:Int))
 cond (t)
  (
  Xbn (decide ((0:Int)≤i∧i<(l.length:Int))) <|
  (l[i.toNat]?).bind fun (e2:Int)=>
  Xbn (decide ((0:Int)≤(wI .i64 (i+1))∧(wI .i64 (i+1))<(l.length:Int))) <|
  (l[(wI .i64 (i+1)).toNat]?).bind fun (e3:Int)=>
  (Xak (wI .u64 e2) e3).bind fun p1=>
  Xbn (decide ((c.length+p1.length)*1≤2^47)) <|
  let row:=c++(bI p1)
  some (.inl (wI .i64 (i+2),row)))
  (
  Xbn (decide (c.length<2^63)) <|
  some (.inr (iB c)))
def Xj0 (Xak:XaY) (l:List Int):Option (List UInt8):=
 cond (decide (1<(l.length:Int)))
  (
  Xbn (decide ((0:Int)≤(0:Int)∧(0:Int)<(l.length:Int))) <|
  (l[0]?).bind fun (e:Int)=>
  Xbn (decide ((0:Int)≤(1:Int)∧(1:Int)<(l.length:Int))) <|
  (l[1]?).bind fun (e1:Int)=>
  (Xak (wI .u64 e) e1).bind fun p=>
  Xbn (decide (p.length*1≤2^47)) <|
  iter (fun st=>Xdz Xak l st.1 st.2) FUEL (2,bI p))
  (
  some ([]))
def Xwu (x:List UInt8):XcS:=⟨.string ⟨⟨x⟩⟩,[],[none]⟩
abbrev Xet:=(List Int)→Option (List UInt8)
def r196 (g:Xet):Dec:=dSl 0 1 (unL (asI .i64)) fun (y0:List Int)=>XdJ (ofG (g y0) Xwu)
theorem XT2 {g:Xet} {y0:List Int} {x:List UInt8} (hx:g y0=some x):r196 g [.slice (some ⟨0,0,none⟩) y0.length 1] [some (vI .i64 y0)]=some (Xwu x):=(XsB (Xvt _ _)).trans (XaN hx)
def s196 (g:Xet):Xbz:=⟨[.sl 1],r196 g⟩
theorem Xza {g:Xet} {y0:List Int} {x:List UInt8} (hx:g y0=some x):(s196 g).run [.slice (some ⟨0,0,none⟩) y0.length 1] [some (vI .i64 y0)]=some (Xwu x):=XT2 hx
abbrev XBb (Xak:XaY):List (Nat×Xbz):=[(97,s97 Xak)]
def XlK (l:List Int) (i:Int) (c:List Int):VM:=
 ⟨⟨196, 25, [(0, .slice (some ⟨0, 0, none⟩) l.length 1), (3, .pointer (some ⟨1, 0, none⟩)), (4, .int .i64 i)], [.code XtM, .inLoop XtM, .inBlock 0, .code XBs], [], false, none⟩, [], [(0, .row false (vI .i64 l)), (1, .ty 171 [.pointer (some ⟨1, 0, none⟩), .func (.method "") ⟨[.slice (some ⟨12, 0, none⟩) c.length 1]⟩ ⟨[]⟩]), (12, .ty 5 (vI .u8 c))], 13⟩
theorem XyZ (Xak:XaY) (hS:Xaj Tryz.prog (XaI (XBb Xak))) (l:List Int) (res:List UInt8):∀ fuel (st:Int×(List Int)) (o:List UInt8),iter (fun st=>Xdz Xak l st.1 st.2) fuel st=some o→(o=res) →
 XaJ Tryz.prog 196 1 (XlK l st.1 st.2) (fun v H _=>Res 1 (Xwu res) v H):=by
 intro fuel st o h hc
 refine XcX (head:=fun st=>XlK l st.1 st.2) (C:=fun o=>(o=res)) ?_ fuel st o h hc
 clear h hc o st fuel
 intro st o h hc
 obtain ⟨i,c⟩:=st
 replace h:Xdz Xak l i c=some o:=h
 show XaJ Tryz.prog 196 1 (XlK l i c) (fun v H _=>Res 1 (Xwu res) v H)
 unfold Xdz at h
 refine Xa7 XaE hS true 3000 ?_
 conv=>whnf
 let t:Bool:=decide ((wI .i64 (i+1))<(l.length:Int))
 refine br.h2 h (by rfl) ?_ ?_
 ·clear h;intro hb h;conv=>whnf
  replace h:=Xbn.elim h;obtain ⟨hb,h⟩:=h
  refine req.intro (XIU rfl (by first|rfl|(simp;done)) (by first|rfl|omega|(simp;done)|(simp;omega)|(simp at *;omega)) (of_decide_eq_true hb)) ?_
  conv=>whnf
  refine XUn ?_
  conv=>whnf
  exact W
 clear h;intro hb h;conv=>whnf
 replace h:=Xbn.elim h;obtain ⟨hb,h⟩:=h
 try (refine req.intro hb ?_;conv=>whnf)
 replace h:=XcR.elim h;obtain ⟨e2,hy,h⟩:=h
 refine rd.I hy (by first|rfl|(rw [Nat.zero_add,Nat.mul_one];try rfl;done)|omega) ?_
 conv=>whnf
 replace h:=Xbn.elim h;obtain ⟨hb,h⟩:=h
 try (refine req.intro hb ?_;conv=>whnf)
 replace h:=XcR.elim h;obtain ⟨e3,hy,h⟩:=h
 refine rd.I hy (by first|rfl|(rw [Nat.zero_add,Nat.mul_one];try rfl;done)|omega) ?_
 conv=>whnf
 replace h:=XcR.elim h;obtain ⟨p1,hy,h⟩:=h
 refine Xgw.a (Xl3 hy) ?_
 conv=>whnf
 replace h:=Xbn.elim h;obtain ⟨hb,h⟩:=h
 first|refine req.intro (Xt7 (of_decide_eq_true hb) (by first|rfl|omega|(simp;done)|(simp;omega)|(simp at *;omega)) rfl rfl (by first|rfl|omega|(simp;done)|(simp;omega)|(simp at *;omega)) (by first|rfl|exact Xip _ _|exact XkF _|exact XkQ _|exact Xlp (by first|exact XdS|exact Xdk|exact XdZ|exact Xcs|exact Xce|exact XdT|exact XcU|exact XcF|exact Xdl|exact XdR|exact XcV|exact XdY|exact Xez|exact Xcr|exact Xcp|exact XeC|exact XcT) _|(rw [Xfu];exact Xip _ _)|(simp [Xip,XkF,XkQ,XlT,XlG,Xm2,Xm9];done)|(simp;exact List.all_eq_true.1 (Xlp (by first|exact XdS|exact Xdk|exact XdZ|exact Xcs|exact Xce|exact XdT|exact XcU|exact XcF|exact Xdl|exact XdR|exact XcV|exact XdY|exact Xez|exact Xcr|exact Xcp|exact XeC|exact XcT) _))) rfl) ?_|skip
 conv=>whnf
 let row:List Int:=c++(bI p1)
 first|have hlen_row:row.length=_:=List.length_append ..|skip
 refine XxW (xs:=c) (ys:=bI p1) (Xfu _) (by first|rfl|omega|(simp;done)|(simp;omega)|(simp at *;omega)) (by first|rfl|omega|(simp;done)|(simp;omega)|(simp at *;omega)) ?_
 conv=>whnf
 cases h;simp only [Sum.elim_inl,XlK] at hc
 exact Xkz hc [(0,0),(1,1),(12,23)] rfl
theorem XB4 (Xak:XaY) (hS:Xaj Tryz.prog (XaI (XBb Xak))) (l:List Int) (res:List UInt8) (h:Xj0 Xak l=some res) :
 XaJ Tryz.prog 196 1 ⟨⟨196,25,[(0,.slice (some ⟨0,0,none⟩) l.length 1)],[.code XyC],[],false,none⟩,[],[(0,.row false (vI .i64 l))],1⟩ (fun v H _=>Res 1 (Xwu res) v H):=by
 unfold Xj0 at h
 refine Xa7 XaE hS true 3000 ?_
 conv=>whnf
 refine Xa7 XaE hS true 3000 ?_
 conv=>whnf
 refine br.h2 h (by rfl) ?_ ?_
 ·clear h;intro hb h;conv=>whnf
  exact W
 clear h;intro hb h;conv=>whnf
 replace h:=Xbn.elim h;obtain ⟨hb,h⟩:=h
 try (refine req.intro hb ?_;conv=>whnf)
 replace h:=XcR.elim h;obtain ⟨e,hy,h⟩:=h
 refine rd.I hy (by first|rfl|(rw [Nat.zero_add,Nat.mul_one];try rfl;done)|omega) ?_
 conv=>whnf
 replace h:=Xbn.elim h;obtain ⟨hb,h⟩:=h
 try (refine req.intro hb ?_;conv=>whnf)
 replace h:=XcR.elim h;obtain ⟨e1,hy,h⟩:=h
 refine rd.I hy (by first|rfl|(rw [Nat.zero_add,Nat.mul_one];try rfl;done)|omega) ?_
 conv=>whnf
 replace h:=XcR.elim h;obtain ⟨p,hy,h⟩:=h
 refine Xgw.a (Xl3 hy) ?_
 conv=>whnf
 replace h:=Xbn.elim h;obtain ⟨hb,h⟩:=h
 refine req.intro (Xv7 (of_decide_eq_true hb) (by first|rfl|omega|(simp;done)|(simp;omega)|(simp at *;omega)) rfl rfl) ?_
 conv=>whnf
 refine XxG (ys:=bI p) (Xfu _) (by first|rfl|omega|(simp;done)|(simp;omega)|(simp at *;omega)) ?_
 conv=>whnf
 have hl:=XyZ Xak hS _ res _ _ _ h rfl;simp only [XlK] at hl
 exact Xkz hl [(0,0),(1,1),(12,12)] rfl
def Xb9:Xet:=Xj0 Xak
theorem Xyf:XbB Tryz.prog 196 (s196 Xb9):=by
 have hL:=XB4 Xak (Xaj.XaK ⟨Xnh,trivial⟩)
 exact okA ⟨Tryz.f196,rfl,by decide,rfl⟩
def Xi2 (Xb7:Xeu) (XaH:Xb6) (Xb9:Xet) (src:Xab) (dst:Xab) (proto:Int) (n:Int):Option (List UInt8):=
 (XaH src).bind fun xr=>
 cond (!xr)
  (
  some ([]))
  (
  (XaH dst).bind fun xr1=>
  cond (!xr1)
   (
   some ([]))
   (
   cond (!(src.V6==dst.V6))
    (
    some ([]))
    (
    (Xb7 src).bind fun p=>
    (Xb7 dst).bind fun p1=>
    Xbn (decide (p.length+p1.length<2^63)) <|
    cond (src.V6)
     (
     (Xb9 [n,4,0,3,proto,1]).bind fun xr2=>
     Xbn (decide ((p++p1).length+xr2.length<2^63)) <|
     some ((p++p1)++xr2))
     (
     (Xb9 [0,1,proto,1,n,2]).bind fun xr3=>
     Xbn (decide ((p++p1).length+xr3.length<2^63)) <|
     some ((p++p1)++xr3)))))
def XGp (x:List UInt8):XcS:=⟨.string ⟨⟨x⟩⟩,[],[]⟩
abbrev XbM:=Xab→Xab→Int→Int→Option (List UInt8)
def r180 (g:XbM):Dec:=dV Xb5 fun (y0:Xab)=>dV Xb5 fun (y1:Xab)=>dV (asI .i64) fun (y2:Int)=>dV (asI .i64) fun (y3:Int)=>XdJ (ofG (g y0 y1 y2 y3) XGp)
theorem XUr {g:XbM} {y0:Xab} {y1:Xab} {y2:Int} {y3:Int} {x:List UInt8} (hx:g y0 y1 y2 y3=some x):r180 g [.agg ⟨[.bool y0.V6,.int .u64 y0.Hi,.int .u64 y0.Lo]⟩,.agg ⟨[.bool y1.V6,.int .u64 y1.Hi,.int .u64 y1.Lo]⟩,.int .i64 y2,.int .i64 y3] []=some (XGp x):=(XaP (XbO _)).trans ((XaP (XbO _)).trans ((XaP (Xen _)).trans ((XaP (Xen _)).trans (XaN hx))))
def XQS (g:XbM):Xbz:=⟨[.v,.v,.v,.v],r180 g⟩
theorem XrC {g:XbM} {y0:Xab} {y1:Xab} {y2:Int} {y3:Int} {x:List UInt8} (hx:g y0 y1 y2 y3=some x):(XQS g).run [.agg ⟨[.bool y0.V6,.int .u64 y0.Hi,.int .u64 y0.Lo]⟩,.agg ⟨[.bool y1.V6,.int .u64 y1.Hi,.int .u64 y1.Lo]⟩,.int .i64 y2,.int .i64 y3] []=some (XGp x):=XUr hx
abbrev XNd (Xb7:Xeu) (XaH:Xb6) (Xb9:Xet):List (Nat×Xbz):=[(195,XWW Xb7),(110,XOp XaH),(196,s196 Xb9)]
theorem XFO (Xb7:Xeu) (XaH:Xb6) (Xb9:Xet) (hS:Xaj Tryz.prog (XaI (XNd Xb7 XaH Xb9))) (src:Xab) (dst:Xab) (proto:Int) (n:Int) (res:List UInt8) (h:Xi2 Xb7 XaH Xb9 src dst proto n=some res) :
 XaJ Tryz.prog 180 0 ⟨⟨180,44,[(0,.agg ⟨[.bool src.V6,.int .u64 src.Hi,.int .u64 src.Lo]⟩),(1,.agg ⟨[.bool dst.V6,.int .u64 dst.Hi,.int .u64 dst.Lo]⟩),(2,.int .i64 proto),(3,.int .i64 n)],[.code XA6],[],false,none⟩,[],[],0⟩ (fun v H _=>Res 0 (XGp res) v H):=by
 unfold Xi2 at h
 have R1:=@Xql XaH
 have R2:=@Xt9 Xb7
 have R3:=@Xza Xb9
 refine Xa7 XaE hS true 3000 ?_
 conv=>whnf
 exact W
def XaG:XbM:=Xi2 Xb7 XaH Xb9
theorem XrB:XbB Tryz.prog 180 (XQS XaG):=by
 have hL:=XFO Xb7 XaH Xb9 (Xaj.XaK ⟨Xuo,Xp5,Xyf,trivial⟩)
 exact okA ⟨Tryz.f180,rfl,by decide,rfl⟩
def Xnq (Xa3:Xck) (n:Int) (k:Int):Option (List UInt8):=
 (Xa3 (wI .u64 n) k).bind fun p=>
 some (p)
def XCL (x:List UInt8):XcS:=⟨.string ⟨⟨x⟩⟩,[],[]⟩
abbrev Xf1:=Int→Int→Option (List UInt8)
def r147 (g:Xf1):Dec:=dV (asI .i64) fun (y0:Int)=>dV (asI .i64) fun (y1:Int)=>XdJ (ofG (g y0 y1) XCL)
theorem XSB {g:Xf1} {y0:Int} {y1:Int} {x:List UInt8} (hx:g y0 y1=some x):r147 g [.int .i64 y0,.int .i64 y1] []=some (XCL x):=(XaP (Xen _)).trans ((XaP (Xen _)).trans (XaN hx))
def s147 (g:Xf1):Xbz:=⟨[.v,.v],r147 g⟩
theorem XAk {g:Xf1} {y0:Int} {y1:Int} {x:List UInt8} (hx:g y0 y1=some x):(s147 g).run [.int .i64 y0,.int .i64 y1] []=some (XCL x):=XSB hx
abbrev XM9 (Xa3:Xck):List (Nat×Xbz):=[(63,s63 Xa3)]
theorem XDW (Xa3:Xck) (hS:Xaj Tryz.prog (XaI (XM9 Xa3))) (n:Int) (k:Int) (res:List UInt8) (h:Xnq Xa3 n k=some res) :
 XaJ Tryz.prog 147 0 ⟨⟨147,9,[(0,.int .i64 n),(1,.int .i64 k)],[.code XHJ],[],false,none⟩,[],[],0⟩ (fun v H _=>Res 0 (XCL res) v H):=by
 unfold Xnq at h
 have R1:=@Xpy Xa3
 refine Xa7 XaE hS true 3000 ?_
 conv=>whnf
 exact W
def Xch:Xf1:=Xnq Xa3
theorem Xyy:XbB Tryz.prog 147 (s147 Xch):=by
 have hL:=XDW Xa3 (Xaj.XaK ⟨XpH,trivial⟩)
 exact okA ⟨Tryz.f147,rfl,by decide,rfl⟩
def Xlm (XcA:XeX) (XaT:Xcm) (Xch:Xf1) (src:Xab) (dst:Xab) (proto:Int) (n:Int):Option (List UInt8):=
 (XaT src).bind fun xr=>
 cond (!xr)
  (
  some ([]))
  (
  (XaT dst).bind fun xr1=>
  cond (!xr1)
   (
   some ([]))
   (
   cond (!(src.V6==dst.V6))
    (
    some ([]))
    (
    cond (src.V6)
     (
     (XcA src).bind fun p=>
     (XcA dst).bind fun p1=>
     Xbn (decide (p.length+p1.length<2^63)) <|
     (Xch n 4).bind fun n1=>
     Xbn (decide ((p++p1).length+n1.length<2^63)) <|
     (Xch 0 3).bind fun n2=>
     Xbn (decide (((p++p1)++n1).length+n2.length<2^63)) <|
     (Xch proto 1).bind fun n3=>
     Xbn (decide ((((p++p1)++n1)++n2).length+n3.length<2^63)) <|
     some ((((p++p1)++n1)++n2)++n3))
     (
     (XcA src).bind fun p2=>
     (XcA dst).bind fun p3=>
     Xbn (decide (p2.length+p3.length<2^63)) <|
     (Xch 0 1).bind fun n4=>
     Xbn (decide ((p2++p3).length+n4.length<2^63)) <|
     (Xch proto 1).bind fun n5=>
     Xbn (decide (((p2++p3)++n4).length+n5.length<2^63)) <|
     (Xch n 2).bind fun n6=>
     Xbn (decide ((((p2++p3)++n4)++n5).length+n6.length<2^63)) <|
     some ((((p2++p3)++n4)++n5)++n6)))))
def XCt (x:List UInt8):XcS:=⟨.string ⟨⟨x⟩⟩,[],[]⟩
abbrev Xct:=Xab→Xab→Int→Int→Option (List UInt8)
def r101 (g:Xct):Dec:=dV Xb5 fun (y0:Xab)=>dV Xb5 fun (y1:Xab)=>dV (asI .i64) fun (y2:Int)=>dV (asI .i64) fun (y3:Int)=>XdJ (ofG (g y0 y1 y2 y3) XCt)
theorem XWi {g:Xct} {y0:Xab} {y1:Xab} {y2:Int} {y3:Int} {x:List UInt8} (hx:g y0 y1 y2 y3=some x):r101 g [.agg ⟨[.bool y0.V6,.int .u64 y0.Hi,.int .u64 y0.Lo]⟩,.agg ⟨[.bool y1.V6,.int .u64 y1.Hi,.int .u64 y1.Lo]⟩,.int .i64 y2,.int .i64 y3] []=some (XCt x):=(XaP (XbO _)).trans ((XaP (XbO _)).trans ((XaP (Xen _)).trans ((XaP (Xen _)).trans (XaN hx))))
def XQP (g:Xct):Xbz:=⟨[.v,.v,.v,.v],r101 g⟩
theorem Xr9 {g:Xct} {y0:Xab} {y1:Xab} {y2:Int} {y3:Int} {x:List UInt8} (hx:g y0 y1 y2 y3=some x):(XQP g).run [.agg ⟨[.bool y0.V6,.int .u64 y0.Hi,.int .u64 y0.Lo]⟩,.agg ⟨[.bool y1.V6,.int .u64 y1.Hi,.int .u64 y1.Lo]⟩,.int .i64 y2,.int .i64 y3] []=some (XCt x):=XWi hx
abbrev XOg (XcA:XeX) (XaT:Xcm) (Xch:Xf1):List (Nat×Xbz):=[(146,XSO XcA),(59,s59 XaT),(147,s147 Xch)]
theorem XDE (XcA:XeX) (XaT:Xcm) (Xch:Xf1) (hS:Xaj Tryz.prog (XaI (XOg XcA XaT Xch))) (src:Xab) (dst:Xab) (proto:Int) (n:Int) (res:List UInt8) (h:Xlm XcA XaT Xch src dst proto n=some res) :
 XaJ Tryz.prog 101 0 ⟨⟨101,52,[(0,.agg ⟨[.bool src.V6,.int .u64 src.Hi,.int .u64 src.Lo]⟩),(1,.agg ⟨[.bool dst.V6,.int .u64 dst.Hi,.int .u64 dst.Lo]⟩),(2,.int .i64 proto),(3,.int .i64 n)],[.code XA9],[],false,none⟩,[],[],0⟩ (fun v H _=>Res 0 (XCt res) v H):=by
 unfold Xlm at h
 have R1:=@XsX XaT
 have R2:=@Xt6 XcA
 have R3:=@XAk Xch
 refine Xa7 XaE hS true 3000 ?_
 conv=>whnf
 exact W
def Xbc:Xct:=Xlm XcA XaT Xch
theorem Xro:XbB Tryz.prog 101 (XQP Xbc):=by
 have hL:=XDE XcA XaT Xch (Xaj.XaK ⟨Xut,XsV,Xyy,trivial⟩)
 exact okA ⟨Tryz.f101,rfl,by decide,rfl⟩
end Go.Vm.Code
namespace Go.Vm.Code
open Go Go.Vm
def A4 (a:Xab):Prop:=0≤a.Hi∧a.Hi<2^64∧0≤a.Lo∧a.Lo<2^64
def aok (a:Xab):Bool:=a.V6||(a.Hi==0&&decide (a.Lo<4294967296))
theorem XkS (a:Xab):XaH a=some (aok a):=by
 unfold XaH XiS aok
 cases a.V6
 ·cases (a.Hi==0)<;>rfl
 ·rfl
theorem XjM (a:Xab):XaT a=some (aok a):=by
 unfold XaT XkM aok
 cases a.V6
 ·cases (a.Hi==0)<;>rfl
 ·rfl
def XeL (a:Xab):List UInt8:=cond a.V6 (be a.Hi.toNat 8++be a.Lo.toNat 8) (be a.Lo.toNat 4)
theorem Xfs (a:Xab):(XeL a).length=cond a.V6 16 4:=by unfold XeL;cases a.V6<;>simp
theorem Xif {n:Int} {k:Nat} (h:1≤k∧k≤8):Xc9 n (k:Int)=be n.toNat k:=by unfold Xc9;rw [if_pos (by omega)];rfl
theorem Xrt {a:Xab} (h:A4 a) (hr:aok a=true):Xb7 a=some (XeL a):=by
 obtain ⟨h1,h2,h3,h4⟩:=h
 unfold Xb7 XlU XeL
 rw [XkS,Option.bind_some,hr]
 simp only [Bool.not_true,cond_false]
 cases a.V6
 ·simp only [cond_false]
  rw [XbH h3,Option.bind_some,show (4:Int)=((4:Nat):Int) from rfl,Xif (by omega)]
 ·simp only [cond_true]
  rw [XbH h1,Option.bind_some,XbH h3,Option.bind_some,show (8:Int)=((8:Nat):Int) from rfl,Xif (by omega),Xif (by omega),XaA (by simp)]
theorem Xps {a:Xab} (h:A4 a) (hr:aok a=true):XcA a=some (XeL a):=by
 obtain ⟨h1,h2,h3,h4⟩:=h
 unfold XcA XnB XeL
 rw [XjM,Option.bind_some,hr]
 simp only [Bool.not_true,cond_false]
 cases a.V6
 ·simp only [cond_false]
  rw [Xdq h3 h4,Option.bind_some,show (4:Int)=((4:Nat):Int) from rfl,Xif (by omega)]
 ·simp only [cond_true]
  rw [Xdq h1 h2,Option.bind_some,Xdq h3 h4,Option.bind_some,show (8:Int)=((8:Nat):Int) from rfl,Xif (by omega),Xif (by omega),XaA (by simp)]
theorem Xp9 {n k:Int} (h0:0≤n) (h1:n<2^63):Xch n k=some (Xc9 n k):=by
 unfold Xch Xnq
 rw [Xgt h0 (by omega),Xdq h0 (by omega)];rfl
theorem Xbm (n k:Int):(Xc9 n k).length≤8:=by unfold Xc9;split<;>simp<;>omega
theorem XDG (s:List UInt8):iB (bI s)=s:=by simp [iB,bI,List.map_map,Function.comp_def]
theorem XVk (a b:List Int):iB (a++b)=iB a++iB b:=by simp [iB]
theorem XqU (a b:List UInt8):bI (a++b)=bI a++bI b:=by simp [bI]
theorem XnD {σ ρ:Type} {f:σ→Option (Sum σ ρ)} {n:Nat} {s s':σ} (h:f s=some (.inl s')):iter f (n+1) s=iter f n s':=by rw [iter,h]
theorem Xvz {σ ρ:Type} {f:σ→Option (Sum σ ρ)} {n:Nat} {s:σ} {r:ρ} (h:f s=some (.inr r)):iter f (n+1) s=some r:=by rw [iter,h]
theorem Xtz:∃ n,FUEL=n+8:=⟨18446744073709551608,rfl⟩
theorem XJl {a b c d e f:Int} (ha:0≤a) (hc:0≤c) (he:0≤e) (ha1:a<2^63) (hc1:c<2^63) (he1:e<2^63):Xb9 [a,b,c,d,e,f]=some (Xc9 a b++Xc9 c d++Xc9 e f):=by
 have l1:=Xbm a b
 have l2:=Xbm c d
 have l3:=Xbm e f
 unfold Xb9 Xj0
 rw [XaW (by simp),XaA (by simp)]
 show ((some a).bind _)=_
 rw [Option.bind_some,XaA (by simp)]
 show ((some b).bind _)=_
 rw [Option.bind_some,Xgt ha (by omega),XbH ha,Option.bind_some,XaA (by omega)]
 obtain ⟨n,hn⟩:=Xtz
 rw [hn]
 have s1:Xdz Xak [a,b,c,d,e,f] 2 (bI (Xc9 a b))=some (.inl (4,bI (Xc9 a b++Xc9 c d))):=by
  unfold Xdz
  simp only []
  rw [XaW (by rw [show wI .i64 (2+1)=3 from rfl];simp),XaA (by simp)]
  show ((some c).bind _)=_
  rw [Option.bind_some,XaA (by rw [show wI .i64 (2+1)=3 from rfl];simp)]
  show ((some d).bind _)=_
  rw [Option.bind_some,Xgt hc (by omega),XbH hc,Option.bind_some,XaA (by simp;omega),XqU];rfl
 have s2:Xdz Xak [a,b,c,d,e,f] 4 (bI (Xc9 a b++Xc9 c d))=some (.inl (6,bI (Xc9 a b++Xc9 c d++Xc9 e f))):=by
  unfold Xdz
  simp only []
  rw [XaW (by rw [show wI .i64 (4+1)=5 from rfl];simp),XaA (by simp)]
  show ((some e).bind _)=_
  rw [Option.bind_some,XaA (by rw [show wI .i64 (4+1)=5 from rfl];simp)]
  show ((some f).bind _)=_
  rw [Option.bind_some,Xgt he (by omega),XbH he,Option.bind_some,XaA (by simp;omega),XqU (Xc9 a b++Xc9 c d)];rfl
 have s3:Xdz Xak [a,b,c,d,e,f] 6 (bI (Xc9 a b++Xc9 c d++Xc9 e f))=some (.inr (Xc9 a b++Xc9 c d++Xc9 e f)):=by
  unfold Xdz
  simp only []
  rw [XaO (by rw [show wI .i64 (6+1)=7 from rfl];simp),XaA (by simp;omega),XDG]
 rw [XnD (f:=fun (st:Int×List Int)=>Xdz Xak [a,b,c,d,e,f] st.1 st.2) (n:=n+7) s1,XnD (n:=n+6) s2,Xvz (n:=n+5) s3]
def XoU (src dst:Xab) (p n:Int):List UInt8:=
 if aok src=true∧aok dst=true∧src.V6=dst.V6 then XeL src++XeL dst++cond src.V6 (Xc9 n 4++Xc9 0 3++Xc9 p 1) (Xc9 0 1++Xc9 p 1++Xc9 n 2) else []
theorem Xkk (src dst:Xab) (p n:Int):(XoU src dst p n).length≤56:=by
 have l1:=Xbm n 4
 have l2:=Xbm 0 3
 have l3:=Xbm p 1
 have l4:=Xbm 0 1
 have l5:=Xbm n 2
 unfold XoU
 split
 ·rw [List.length_append,List.length_append,Xfs,Xfs]
  cases src.V6<;>cases dst.V6<;>simp<;>omega
 ·simp
theorem XnU {src dst:Xab} {p n:Int} (h1:A4 src) (h2:A4 dst) (hp:0≤p∧p<2^63) (hn:0≤n∧n<2^63):XaG src dst p n=some (XoU src dst p n):=by
 unfold XaG Xi2 XoU
 rw [XkS,XkS,Option.bind_some]
 cases e1:aok src
 ·simp
 simp only [Bool.not_true,cond_false,Option.bind_some]
 cases e2:aok dst
 ·simp
 simp only [Bool.not_true,cond_false]
 by_cases e3:src.V6=dst.V6
 ·rw [if_pos (by simpa using e3),show (src.V6==dst.V6)=true by simpa using e3]
  simp only [Bool.not_true,cond_false]
  have l1:=Xfs src
  have l2:=Xfs dst
  rw [Xrt h1 e1,Option.bind_some,Xrt h2 e2,Option.bind_some,XaA (by rw [l1,l2];cases src.V6<;>cases dst.V6<;>decide)]
  rw [XJl hn.1 (by omega) hp.1 hn.2 (by omega) hp.2,XJl (by omega) hp.1 hn.1 (by omega) hp.2 hn.2]
  have m1:=Xbm n 4
  have m2:=Xbm 0 3
  have m3:=Xbm p 1
  have m4:=Xbm 0 1
  have m5:=Xbm n 2
  have b1:(XeL src).length≤16:=by rw [l1];cases src.V6<;>decide
  have b2:(XeL dst).length≤16:=by rw [l2];cases dst.V6<;>decide
  cases src.V6
  ·simp only [cond_false,Option.bind_some]
   rw [XaA (by simp only [List.length_append];omega)]
  ·simp only [cond_true,Option.bind_some]
   rw [XaA (by simp only [List.length_append];omega)]
 ·rw [if_neg (fun h=>e3 h.2.2),show (src.V6==dst.V6)=false by simpa using e3];rfl
theorem Xma {src dst:Xab} {p n:Int} (h1:A4 src) (h2:A4 dst) (hp:0≤p∧p<2^63) (hn:0≤n∧n<2^63):Xbc src dst p n=some (XoU src dst p n):=by
 unfold Xbc Xlm XoU
 rw [XjM,XjM,Option.bind_some]
 cases e1:aok src
 ·simp
 simp only [Bool.not_true,cond_false,Option.bind_some]
 cases e2:aok dst
 ·simp
 simp only [Bool.not_true,cond_false]
 by_cases e3:src.V6=dst.V6
 ·rw [if_pos (by simpa using e3),show (src.V6==dst.V6)=true by simpa using e3]
  simp only [Bool.not_true,cond_false]
  have l1:=Xfs src
  have l2:=Xfs dst
  have m1:=Xbm n 4
  have m2:=Xbm 0 3
  have m3:=Xbm p 1
  have m4:=Xbm 0 1
  have m5:=Xbm n 2
  have b1:(XeL src).length≤16:=by rw [l1];cases src.V6<;>decide
  have b2:(XeL dst).length≤16:=by rw [l2];cases dst.V6<;>decide
  rw [Xps h1 e1,Xps h2 e2,Xp9 hn.1 hn.2,Xp9 (n:=0) (k:=3) (by omega) (by omega),Xp9 hp.1 hp.2,Xp9 (n:=0) (k:=1) (by omega) (by omega),Xp9 hn.1 hn.2]
  cases src.V6
  ·simp only [cond_false,Option.bind_some]
   rw [XaA (by omega),XaA (by simp only [List.length_append];omega),XaA (by simp only [List.length_append];omega),XaA (by simp only [List.length_append];omega)]
   simp only [List.append_assoc]
  ·simp only [cond_true,Option.bind_some]
   rw [XaA (by omega),XaA (by simp only [List.length_append];omega),XaA (by simp only [List.length_append];omega),XaA (by simp only [List.length_append];omega)]
   simp only [List.append_assoc]
 ·rw [if_neg (fun h=>e3 h.2.2),show (src.V6==dst.V6)=false by simpa using e3];rfl
theorem Xmu (n:Int):0≤wI .u64 n∧wI .u64 n<2^64:=by rw [wU64m];omega
def XOo:List Int→List UInt8
 | a::b::l=>Xc9 (wI .u64 a) b++XOo l
 | _=>[]
theorem XLe {l:List Int} (he:l.length%2=0) (h2:2≤l.length) (hl:l.length≤1000):Xb9 l=some (XOo l):=by
 unfold Xb9 Xj0
 obtain ⟨a,b,r,rfl⟩:∃ a b r,l=a::b::r:=by
  match l,h2 with
  | a::b::r,_=>exact ⟨a,b,r,rfl⟩
 have p0:=Xbm (wI .u64 a) b
 rw [XaW (by simp;omega),XaA (by simp;omega)]
 show ((some a).bind _)=_
 rw [Option.bind_some,XaA (by simp;omega)]
 show ((some b).bind _)=_
 rw [Option.bind_some,XbH (Xmu a).1,Option.bind_some,XaA (by omega)]
 generalize hL:a::b::r=L at *
 have key:=iter_eq (step:=fun (st:Int×List Int)=>Xdz Xak L st.1 st.2) (fun st=>iB st.2++XOo (L.drop st.1.toNat)) (fun st=>0≤st.1∧st.1≤L.length∧st.1.toNat%2=0∧st.2.length≤8*st.1.toNat) (fun st=>(L.length - st.1).toNat) ?_ FUEL (2,bI (Xc9 (wI .u64 a) b)) ⟨by simp,by simp only;omega,by simp,by simp;omega⟩ (by rw [Xgx];simp only;omega)
 ·rw [key]
  simp only [XDG]
  subst hL;rfl
 rintro ⟨p,c⟩ ⟨g1,g2,g3,g4⟩
 simp only at g1 g2 g3 g4 ⊢
 obtain ⟨i,rfl⟩:=Int.eq_ofNat_of_zero_le g1
 simp only [Int.toNat_natCast] at g3 g4 ⊢
 unfold Xdz
 simp only []
 rw [Xed (n:=(i:Int)+1) (by omega) (by omega)]
 by_cases hi:i<L.length
 ·have hi1:i+1<L.length:=by omega
  have pl:=Xbm (wI .u64 L[i]) L[i+1]
  refine .inr ⟨(((i+2:Nat):Int),c++bI (Xc9 (wI .u64 L[i]) L[i+1])),?_,⟨by simp only;omega,by simp only;omega,by simp only [Int.toNat_natCast];omega,by simp;omega⟩,by simp only;omega,?_⟩
  ·rw [XaW (by omega),XaA (by omega),Int.toNat_natCast,List.getElem?_eq_getElem hi,Option.bind_some,XaA (by omega),show ((i:Int)+1).toNat=i+1 by omega,List.getElem?_eq_getElem hi1,Option.bind_some,XbH (Xmu _).1,Option.bind_some,XaA (by omega),Xed (by omega) (by omega)];rfl
  ·simp only [Int.toNat_natCast]
   rw [XVk,XDG,List.drop_eq_getElem_cons hi,List.drop_eq_getElem_cons hi1,XOo];simp
 ·refine .inl ?_
  rw [XaO (by omega),XaA (by omega),List.drop_eq_nil_of_le (by omega)];simp [XOo]
theorem XFM (n k:Int):Xch n k=some (Xc9 (wI .u64 n) k):=by
 unfold Xch Xnq
 rw [Xdq (Xmu n).1 (Xmu n).2];rfl
end Go.Vm.Code
namespace Go.Vm.Code
open Go Go.Vm Go.Proofs
set_option maxRecDepth 100000
set_option maxHeartbeats 4000000
set_option linter.unusedVariables false
def Xhk (ra0:Xag):Option (Bool×Xag):=
 cond (!ra0.made)
  (
  some ((true,ra0)))
  (
  some ((ra0.bad,ra0)))
def XHc (x:Bool×Xag):XcS:=⟨.bool x.1,[],[some [.string ⟨⟨x.2.s⟩⟩,.bool x.2.made,.bool x.2.bad]]⟩
abbrev XaM:=Xag→Option (Bool×Xag)
def r138 (g:XaM):Dec:=dPt 0 Xei fun (y0:Xag)=>XdJ (ofG (g y0) XHc)
theorem XRi {g:XaM} {y0:Xag} {x:Bool×Xag} (hx:g y0=some x):r138 g [.pointer (some ⟨0,0,none⟩)] [some [.string ⟨⟨y0.s⟩⟩,.bool y0.made,.bool y0.bad]]=some (XHc x):=(Xhm (XgB _)).trans (XaN hx)
def XIN (g:XaM):Xbz:=⟨[.pt 3],r138 g⟩
theorem Xm7 {g:XaM} {y0:Xag} {x:Bool×Xag} (hx:g y0=some x):(XIN g).run [.pointer (some ⟨0,0,none⟩)] [some [.string ⟨⟨y0.s⟩⟩,.bool y0.made,.bool y0.bad]]=some (XHc x):=XRi hx
abbrev XN1:List (Nat×Xbz):=[]
theorem XDc (hS:Xaj Tryz.prog (XaI (XN1))) (ra0:Xag) (res:Bool×Xag) (h:Xhk ra0=some res) :
 XaJ Tryz.prog 138 1 ⟨⟨138,18,[(0,.pointer (some ⟨0,0,none⟩))],[.code XH8],[],false,none⟩,[],[(0,.cells [.string ⟨⟨ra0.s⟩⟩,.bool ra0.made,.bool ra0.bad])],1⟩ (fun v H _=>Res 1 (XHc res) v H):=by
 unfold Xhk at h
 refine Xa7 XaE hS true 3000 ?_
 conv=>whnf
 exact W
def Xai:XaM:=Xhk
theorem Xoe:XbB Tryz.prog 138 (XIN Xai):=by
 have hL:=XDc (Xaj.XaK trivial)
 exact okA ⟨Tryz.f138,rfl,by decide,rfl⟩
def XgP (Xai:XaM) (ra0:Xag) (n:Int):Option ((List UInt8)×Xag):=
 (Xai ra0).bind fun b=>
 cond (b.1)
  (
  some (([],b.2)))
  (
  cond (decide (n<0))
   (
   some (([],Xag.mk b.2.s b.2.made true)))
   (
   cond (decide (n>(b.2.s.length:Int)))
    (
    some (([],Xag.mk b.2.s b.2.made true)))
    (
    Xbn (decide ((0:Int)≤n∧n≤(b.2.s.length:Int))) <|
    Xbn (decide ((0:Int)≤n∧n≤(b.2.s.length:Int))) <|
    let t:=(b.2.s.drop n.toNat).take (b.2.s.length - n.toNat)
    some ((b.2.s.take n.toNat,Xag.mk t b.2.made b.2.bad)))))
def XGw (x:(List UInt8)×Xag):XcS:=⟨.string ⟨⟨x.1⟩⟩,[],[some [.string ⟨⟨x.2.s⟩⟩,.bool x.2.made,.bool x.2.bad]]⟩
abbrev XaB:=Xag→Int→Option ((List UInt8)×Xag)
def r129 (g:XaB):Dec:=dPt 0 Xei fun (y0:Xag)=>dV (asI .i64) fun (y1:Int)=>XdJ (ofG (g y0 y1) XGw)
theorem XW3 {g:XaB} {y0:Xag} {y1:Int} {x:(List UInt8)×Xag} (hx:g y0 y1=some x):r129 g [.pointer (some ⟨0,0,none⟩),.int .i64 y1] [some [.string ⟨⟨y0.s⟩⟩,.bool y0.made,.bool y0.bad]]=some (XGw x):=(Xhm (XgB _)).trans ((XaP (Xen _)).trans (XaN hx))
def XBJ (g:XaB):Xbz:=⟨[.pt 3,.v],r129 g⟩
theorem XlJ {g:XaB} {y0:Xag} {y1:Int} {x:(List UInt8)×Xag} (hx:g y0 y1=some x):(XBJ g).run [.pointer (some ⟨0,0,none⟩),.int .i64 y1] [some [.string ⟨⟨y0.s⟩⟩,.bool y0.made,.bool y0.bad]]=some (XGw x):=XW3 hx
abbrev XNp (Xai:XaM):List (Nat×Xbz):=[(138,XIN Xai)]
theorem XB3 (Xai:XaM) (hS:Xaj Tryz.prog (XaI (XNp Xai))) (ra0:Xag) (n:Int) (res:(List UInt8)×Xag) (h:XgP Xai ra0 n=some res) :
 XaJ Tryz.prog 129 1 ⟨⟨129,38,[(0,.pointer (some ⟨0,0,none⟩)),(1,.int .i64 n)],[.code XxJ],[],false,none⟩,[],[(0,.cells [.string ⟨⟨ra0.s⟩⟩,.bool ra0.made,.bool ra0.bad])],1⟩ (fun v H _=>Res 1 (XGw res) v H):=by
 unfold XgP at h
 have R1:=@Xm7 Xai
 refine Xa7 XaE hS true 3000 ?_
 conv=>whnf
 exact W
def Xaf:XaB:=XgP Xai
theorem XlX:XbB Tryz.prog 129 (XBJ Xaf):=by
 have hL:=XB3 Xai (Xaj.XaK ⟨Xoe,trivial⟩)
 exact okA ⟨Tryz.f129,rfl,by decide,rfl⟩
def Xhf (Xbq:Xc2) (Xaf:XaB) (ra0:Xag) (k:Int):Option (Int×Xag):=
 cond (decide (k<1))
  (
  (Xaf ra0 (-1)).bind fun t=>
  (Xbq t.1 0 (-1)).bind fun xg=>
  some ((wI .i64 xg.1,t.2)))
  (
  cond (decide (k>7))
   (
   (Xaf ra0 (-1)).bind fun t1=>
   (Xbq t1.1 0 (-1)).bind fun xg1=>
   some ((wI .i64 xg1.1,t1.2)))
   (
   (Xaf ra0 k).bind fun t2=>
   (Xbq t2.1 0 k).bind fun xg2=>
   some ((wI .i64 xg2.1,t2.2))))
def rx78 (x:Int×Xag):XcS:=⟨.int .i64 x.1,[],[some [.string ⟨⟨x.2.s⟩⟩,.bool x.2.made,.bool x.2.bad]]⟩
abbrev XaL:=Xag→Int→Option (Int×Xag)
def r78 (g:XaL):Dec:=dPt 0 Xei fun (y0:Xag)=>dV (asI .i64) fun (y1:Int)=>XdJ (ofG (g y0 y1) rx78)
theorem r78_c {g:XaL} {y0:Xag} {y1:Int} {x:Int×Xag} (hx:g y0 y1=some x):r78 g [.pointer (some ⟨0,0,none⟩),.int .i64 y1] [some [.string ⟨⟨y0.s⟩⟩,.bool y0.made,.bool y0.bad]]=some (rx78 x):=(Xhm (XgB _)).trans ((XaP (Xen _)).trans (XaN hx))
def s78 (g:XaL):Xbz:=⟨[.pt 3,.v],r78 g⟩
theorem XmI {g:XaL} {y0:Xag} {y1:Int} {x:Int×Xag} (hx:g y0 y1=some x):(s78 g).run [.pointer (some ⟨0,0,none⟩),.int .i64 y1] [some [.string ⟨⟨y0.s⟩⟩,.bool y0.made,.bool y0.bad]]=some (rx78 x):=r78_c hx
abbrev XUt (Xbq:Xc2) (Xaf:XaB):List (Nat×Xbz):=[(95,s95 Xbq),(129,XBJ Xaf)]
theorem XNb (Xbq:Xc2) (Xaf:XaB) (hS:Xaj Tryz.prog (XaI (XUt Xbq Xaf))) (ra0:Xag) (k:Int) (res:Int×Xag) (h:Xhf Xbq Xaf ra0 k=some res) :
 XaJ Tryz.prog 78 1 ⟨⟨78,23,[(0,.pointer (some ⟨0,0,none⟩)),(1,.int .i64 k)],[.code XIj],[],false,none⟩,[],[(0,.cells [.string ⟨⟨ra0.s⟩⟩,.bool ra0.made,.bool ra0.bad])],1⟩ (fun v H _=>Res 1 (rx78 res) v H):=by
 unfold Xhf at h
 have R1:=@XlJ Xaf
 have R2:=@XAz Xbq
 refine Xa7 XaE hS true 3000 ?_
 conv=>whnf
 exact W
def Xad:XaL:=Xhf Xbq Xaf
theorem XqP:XbB Tryz.prog 78 (s78 Xad):=by
 have hL:=XNb Xbq Xaf (Xaj.XaK ⟨XxB,XlX,trivial⟩)
 exact okA ⟨Tryz.f78,rfl,by decide,rfl⟩
def Xow (s:List UInt8):Option Xag:=
 some (Xag.mk s true false)
def rx77 (x:Xag):XcS:=⟨.pointer (some ⟨0,0,none⟩),[[.string ⟨⟨x.s⟩⟩,.bool x.made,.bool x.bad]],[]⟩
abbrev Xcl:=(List UInt8)→Option Xag
def r77 (g:Xcl):Dec:=dV asS fun (y0:List UInt8)=>XdJ (ofG (g y0) rx77)
theorem r77_c {g:Xcl} {y0:List UInt8} {x:Xag} (hx:g y0=some x):r77 g [.string ⟨⟨y0⟩⟩] []=some (rx77 x):=(XaP (XdL)).trans (XaN hx)
def s77 (g:Xcl):Xbz:=⟨[.v],r77 g⟩
theorem XtD {g:Xcl} {y0:List UInt8} {x:Xag} (hx:g y0=some x):(s77 g).run [.string ⟨⟨y0⟩⟩] []=some (rx77 x):=r77_c hx
abbrev XSY:List (Nat×Xbz):=[]
theorem XPk (hS:Xaj Tryz.prog (XaI (XSY))) (s:List UInt8) (res:Xag) (h:Xow s=some res) :
 XaJ Tryz.prog 77 0 ⟨⟨77,6,[(0,.string ⟨⟨s⟩⟩)],[.code XTX],[],false,none⟩,[],[],0⟩ (fun v H _=>Res 0 (rx77 res) v H):=by
 unfold Xow at h
 refine Xa7 XaE hS true 3000 ?_
 conv=>whnf
 exact W
def Xbd:Xcl:=Xow
theorem XsS:XbB Tryz.prog 77 (s77 Xbd):=by
 have hL:=XPk (Xaj.XaK trivial)
 exact okA ⟨Tryz.f77,rfl,by decide,rfl⟩
end Go.Vm.Code
namespace Go.Vm.Code
open Go Go.Vm
def rdr (r:Xag) (k:Int):Xag:=if r.bad=true∨k<0∨k>r.s.length then ⟨r.s,true,true⟩ else ⟨r.s.drop k.toNat,true,false⟩
def rdt (r:Xag) (k:Int):List UInt8:=if r.bad=true∨k<0∨k>r.s.length then [] else r.s.take k.toNat
theorem XgJ {r:Xag} (h:r.made=true):Xai r=some (r.bad,r):=by
 unfold Xai Xhk
 rw [h];rfl
theorem Xg8 {r:Xag} {k:Int} (h:r.made=true):Xaf r k=some (rdt r k,rdr r k):=by
 unfold Xaf XgP rdt rdr
 rw [XgJ h,Option.bind_some]
 simp only []
 obtain ⟨s,m,b⟩:=r
 simp only at h ⊢
 subst h
 cases b with
 | true=>simp
 | false=>
   rw [cond_false]
   by_cases h1:k<0
   ·rw [XaW h1,if_pos (by omega),if_pos (by omega)]
   rw [XaO h1]
   by_cases h2:k>s.length
   ·rw [XaW h2,if_pos (by omega),if_pos (by omega)]
   ·have e:(s.drop k.toNat).take (s.length - k.toNat)=s.drop k.toNat:=List.take_of_length_le (by simp)
    rw [XaO h2,XaA (by omega),XaA (by omega),if_neg (by simp;omega),if_neg (by simp;omega),e]
theorem Xio (r:Xag) (k:Int):(rdr r k).made=true:=by unfold rdr;split<;>rfl
theorem Xuy {r:Xag} {k:Int}:(rdr r k).bad=false↔r.bad=false∧0≤k∧k≤r.s.length:=by
 unfold rdr
 split
 ·rename_i h
  simp only [Bool.true_eq_false,false_iff]
  intro ⟨a,b,c⟩
  rcases h with h|h|h
  ·rw [a] at h;cases h
  ·omega
  ·omega
 ·rename_i h
  simp only [true_iff]
  cases hb:r.bad
  ·exact ⟨rfl,by omega,by omega⟩
  ·exact absurd (.inl hb) h
theorem XO9 {r:Xag} {k:Int} (h:(rdr r k).bad=false):((rdr r k).s.length:Int)=r.s.length - k:=by
 obtain ⟨a,b,c⟩:=Xuy.1 h
 unfold rdr
 rw [if_neg (by rw [a];simp;omega)]
 simp;omega
theorem Xi8 {r r':Xag} {k:Int} (h:rdr r k=r') (hb:r'.bad=false):r.bad=false∧(r'.s.length:Int)+k=r.s.length:=by
 subst h
 have:=XO9 hb
 exact ⟨(Xuy.1 hb).1,by omega⟩
theorem Xj2 {s:List UInt8} {k:Int} (h0:0≤k) (h1:k≤s.length):rdr ⟨s,true,false⟩ k=⟨s.drop k.toNat,true,false⟩:=by
 unfold rdr;rw [if_neg (by simp;omega)]
theorem XjT {s:List UInt8} {k:Int} (h0:0≤k) (h1:k≤s.length):rdt ⟨s,true,false⟩ k=s.take k.toNat:=by
 unfold rdt;rw [if_neg (by simp;omega)]
theorem XO8 (r:Xag) (k:Int):(rdt r k).length≤r.s.length:=by
 unfold rdt;split
 ·simp
 ·rw [List.length_take];omega
def rdn (r:Xag) (k:Int):Int:=(Xgf (rdt r (if k<1∨k>7 then -1 else k)):Nat)
theorem Xit {r:Xag} {k:Int} (h:r.made=true) (hl:r.s.length<2^61):Xad r k=some (rdn r k,rdr r (if k<1∨k>7 then -1 else k)):=by
 unfold Xad Xhf rdn
 have bad:Xaf r (-1)=some ([],rdr r (-1)):=by
  rw [Xg8 h];unfold rdt;rw [if_pos (by omega)]
 have e0:rdt r (-1)=[]:=by unfold rdt;rw [if_pos (by omega)]
 by_cases h1:k<1
 ·rw [XaW h1,bad,Option.bind_some,XgZ (by simp),if_pos (by omega),Option.bind_some,e0];rfl
 rw [XaO h1]
 by_cases h2:k>7
 ·rw [XaW h2,bad,Option.bind_some,XgZ (by simp),if_pos (by omega),Option.bind_some,e0];rfl
 have hlen:=XO8 r k
 rw [XaO h2,Xg8 h,Option.bind_some,XgZ (by simp only [];omega),Option.bind_some,if_neg (by omega)]
 simp only []
 unfold Xxn
 by_cases hc:r.bad=true∨k<0∨k>r.s.length
 ·have e:rdt r k=[]:=by unfold rdt;rw [if_pos hc]
  rw [e,if_neg (by simp;omega)];rfl
 ·have hl2:(rdt r k).length=k.toNat:=by unfold rdt;rw [if_neg hc];simp;omega
  rw [if_pos (by omega)]
  have e2:((rdt r k).drop (0:Int).toNat).take k.toNat=rdt r k:=by
   rw [show (0:Int).toNat=0 from rfl,List.drop_zero,List.take_of_length_le (by omega)]
  have hv:Xgf (rdt r k)<2^56:=by
   have:=XsK (rdt r k)
   rw [hl2] at this
   exact Xsg this (by omega)
  simp only [e2]
  rw [Xed (by omega) (by omega)]
theorem Xju {s:List UInt8} {p k:Int} (h0:0≤p) (h1:1≤k) (h8:k≤8) (h:p+k≤s.length):Xxn s p k=(((Xgf ((s.drop p.toNat).take k.toNat):Nat):Int),true):=by
 unfold Xxn;rw [if_pos (by omega)]
theorem Xqd (s:List UInt8):Xbd s=some ⟨s,true,false⟩:=rfl
def inR (n m:Int):Bool:=decide (0≤n∧n≤m)
theorem XAY {n m:Int}:inR n m=true↔0≤n∧n≤m:=by unfold inR;simp
theorem XrO (n:Nat):(((n:Int).tmod 4)==0)=decide (n%4=0):=by
 rw [Int.tmod_eq_emod_of_nonneg (by omega),Bool.eq_iff_iff,beq_iff_eq,decide_eq_true_eq];omega
theorem XvY (n:Nat):decide ((n:Int)≤40)=decide (n≤40):=by rw [Bool.eq_iff_iff,decide_eq_true_eq,decide_eq_true_eq];omega
theorem XM5 (n:Nat):(20+(n:Int)).tdiv 4=(((20+n)/4:Nat):Int):=by rw [Int.tdiv_eq_ediv_of_nonneg (by omega)];omega
def vK (s:List UInt8) (p k:Nat):Int:=(Xgf ((s.drop p).take k):Nat)
theorem Xgl (s:List UInt8) (p k n:Nat) (h:256^k≤n):0≤vK s p k∧vK s p k<n:=by
 have:=XfJ (l:=s.drop p) (k:=k) n h
 unfold vK;omega
theorem XI7 {s:List UInt8} {p k:Nat} (h1:1≤k) (h7:k≤7) (h:p+k≤s.length) (hl:s.length<2^61):Xad ⟨s.drop p,true,false⟩ (k:Int)=some (vK s p k,⟨s.drop (p+k),true,false⟩):=by
 have hd:(s.drop p).length=s.length - p:=by simp
 rw [Xit rfl (by simp only;omega),if_neg (by omega),Xj2 (by omega) (by omega)]
 unfold rdn
 rw [if_neg (by omega),XjT (by omega) (by omega),Int.toNat_natCast,List.drop_drop];rfl
theorem Xrp {s:List UInt8} {p k:Nat} (h:p+k≤s.length):Xaf ⟨s.drop p,true,false⟩ (k:Int)=some ((s.drop p).take k,⟨s.drop (p+k),true,false⟩):=by
 have hd:(s.drop p).length=s.length - p:=by simp
 rw [Xg8 rfl,Xj2 (by omega) (by omega),XjT (by omega) (by omega),Int.toNat_natCast,List.drop_drop]
theorem XrU {s:List UInt8} {p k:Nat} (hs:s.length<2^61) (h1:1≤k) (h7:k≤7) (h:p+k≤s.length):Xas s (p:Int) (k:Int)=some (vK s p k):=by
 rw [XiQ hs,Xju (by omega) (by omega) (by omega) (by omega)]
 have:=Xgl s p k (256^k) (Nat.le_refl _)
 have h8:256^k≤256^7:=Nat.pow_le_pow_right (by decide) h7
 have h9:(256:Nat)^7=72057594037927936:=by decide
 show some (wI .i64 (vK s p k))=_
 rw [Xed (by omega) (by omega)]
theorem XmM {s:List UInt8} {p:Nat} (h:p<s.length):vK s p 1=(s[p].toNat:Int):=by
 unfold vK
 rw [List.drop_eq_getElem_cons h]
 show ((Xgf [s[p]]:Nat):Int)=_
 rw [XhD];simp
theorem Xy8 {s:List UInt8} {p:Nat} (h:p+1<s.length):vK s p 2=(s[p].toNat*256+s[p+1].toNat:Int):=by
 unfold vK
 rw [List.drop_eq_getElem_cons (by omega:p<s.length),List.drop_eq_getElem_cons h]
 show ((Xgf [s[p],s[p+1]]:Nat):Int)=_
 rw [XhD,XhD];simp
theorem l1 {l:List UInt8} (h:l.length=1):∃ a,l=[a]:=by
 match l,h with
 | [a],_=>exact ⟨a,rfl⟩
theorem l2 {l:List UInt8} (h:l.length=2):∃ a b,l=[a,b]:=by
 match l,h with
 | [a,b],_=>exact ⟨a,b,rfl⟩
theorem l4 {l:List UInt8} (h:l.length=4):∃ a b c d,l=[a,b,c,d]:=by
 match l,h with
 | [a,b,c,d],_=>exact ⟨a,b,c,d,rfl⟩
end Go.Vm.Code
namespace Go.Vm.Code
open Go Go.Vm Go.Proofs
set_option maxRecDepth 100000
set_option maxHeartbeats 4000000
set_option linter.unusedVariables false
def Xi3 (n:Int) (most:Int):Option Bool:=
 cond (decide (0≤n))
  (
  some (decide (n≤most)))
  (
  some (false))
def XDV (x:Bool):XcS:=⟨.bool x,[],[]⟩
abbrev Xey:=Int→Int→Option Bool
def r203 (g:Xey):Dec:=dV (asI .i64) fun (y0:Int)=>dV (asI .i64) fun (y1:Int)=>XdJ (ofG (g y0 y1) XDV)
theorem XUx {g:Xey} {y0:Int} {y1:Int} {x:Bool} (hx:g y0 y1=some x):r203 g [.int .i64 y0,.int .i64 y1] []=some (XDV x):=(XaP (Xen _)).trans ((XaP (Xen _)).trans (XaN hx))
def s203 (g:Xey):Xbz:=⟨[.v,.v],r203 g⟩
theorem XLa {g:Xey} {y0:Int} {y1:Int} {x:Bool} (hx:g y0 y1=some x):(s203 g).run [.int .i64 y0,.int .i64 y1] []=some (XDV x):=XUx hx
abbrev XPw:List (Nat×Xbz):=[]
theorem XGh (hS:Xaj Tryz.prog (XaI (XPw))) (n:Int) (most:Int) (res:Bool) (h:Xi3 n most=some res) :
 XaJ Tryz.prog 203 0 ⟨⟨203,12,[(0,.int .i64 n),(1,.int .i64 most)],[.code XJC],[],false,none⟩,[],[],0⟩ (fun v H _=>Res 0 (XDV res) v H):=by
 unfold Xi3 at h
 refine Xa7 XaE hS true 3000 ?_
 conv=>whnf
 exact W
def XcB:Xey:=Xi3
theorem XLw:XbB Tryz.prog 203 (s203 XcB):=by
 have hL:=XGh (Xaj.XaK trivial)
 exact okA ⟨Tryz.f203,rfl,by decide,rfl⟩
def Xj5 (XaH:Xb6) (a:Xab):Option Bool:=
 cond (!a.V6)
  (
  (XaH a).bind fun xr=>
  some (xr))
  (
  some (false))
def XDH (x:Bool):XcS:=⟨.bool x,[],[]⟩
abbrev Xfa:=Xab→Option Bool
def r204 (g:Xfa):Dec:=dV Xb5 fun (y0:Xab)=>XdJ (ofG (g y0) XDH)
theorem XTS {g:Xfa} {y0:Xab} {x:Bool} (hx:g y0=some x):r204 g [.agg ⟨[.bool y0.V6,.int .u64 y0.Hi,.int .u64 y0.Lo]⟩] []=some (XDH x):=(XaP (XbO _)).trans (XaN hx)
def s204 (g:Xfa):Xbz:=⟨[.v],r204 g⟩
theorem XO2 {g:Xfa} {y0:Xab} {x:Bool} (hx:g y0=some x):(s204 g).run [.agg ⟨[.bool y0.V6,.int .u64 y0.Hi,.int .u64 y0.Lo]⟩] []=some (XDH x):=XTS hx
abbrev XNZ (XaH:Xb6):List (Nat×Xbz):=[(110,XOp XaH)]
theorem XD5 (XaH:Xb6) (hS:Xaj Tryz.prog (XaI (XNZ XaH))) (a:Xab) (res:Bool) (h:Xj5 XaH a=some res) :
 XaJ Tryz.prog 204 0 ⟨⟨204,10,[(0,.agg ⟨[.bool a.V6,.int .u64 a.Hi,.int .u64 a.Lo]⟩)],[.code XH5],[],false,none⟩,[],[],0⟩ (fun v H _=>Res 0 (XDH res) v H):=by
 unfold Xj5 at h
 have R1:=@Xql XaH
 refine Xa7 XaE hS true 3000 ?_
 conv=>whnf
 exact W
def Xeo:Xfa:=Xj5 XaH
theorem XLI:XbB Tryz.prog 204 (s204 Xeo):=by
 have hL:=XD5 XaH (Xaj.XaK ⟨Xp5,trivial⟩)
 exact okA ⟨Tryz.f204,rfl,by decide,rfl⟩
end Go.Vm.Code
