import Derived.Test.YtgmodbbcnfdpdaaGreatNShimFullc
namespace Go.Vm.Code
open Go Go.Vm Go.Proofs
def XTg:VC:=.regD [oD 97 (.loadN [(.int .i64),.bool,(.int .u64),(.int .u64),.bool,(.int .u64),(.int .u64),(.int .i64),(.int .i64),(.int .i64),.bool,(.int .u32),(.int .u32),.bool,.str,(.int .i64)] τ8),oD 98 (.fieldA 7 τ6),oD 99 (.load1 (.int .i64) XGB),oD 100 (.fieldA 7 τ6),oD 101 (.load1 (.int .i64) XtV),oD 102 (.bin .add XvT (.const (.int .i64 20))),oD 103 (.fieldA 7 τ9),oD 104 (.load1 .str XxK),oD 105 (.lenS XyE),oD 106 (.bin .add XzR Xyn),oN (.store 16 τ2 XCJ),oM 3 XNc] [(2,10),(4,10),(7,10)] [oM 4 Xxn,oD 5 (.mv (.const (.int .i64 0)))]
def XQL:VC:=.regD [oD 155 (.loadN [(.int .i64),.bool,(.int .u64),(.int .u64),.bool,(.int .u64),(.int .u64),(.int .i64),(.int .i64),(.int .i64),.bool,(.int .u32),(.int .u32),.bool,.str,(.int .i64)] τ8),oD 156 (.fieldA 7 τ6),oD 157 (.load1 (.int .i64) XM1),oD 158 (.fieldA 7 τ6),oD 159 (.load1 (.int .i64) XLz),oD 160 (.bin .add XMU (.const (.int .i64 8))),oN (.store 16 τ2 XDV),oM 3 XLv] [(2,6),(4,6)] [oM 4 XH4,oD 5 (.mv (.const (.int .i64 0)))]
def XNt:VC:=.seq (.reg [oD 2 (.alloc [(.int .i64 0),(.bool false),(.int .u64 0),(.int .u64 0),(.bool false),(.int .u64 0),(.int .u64 0),(.int .i64 0),(.int .i64 0),(.int .i64 0),(.bool false),(.int .u32 0),(.int .u32 0),(.bool false),(.string ⟨⟨[]⟩⟩),(.int .i64 0)]),oD 3 (.mv (.const (.int .i64 0))),oD 4 (.mv (.const (.int .i64 0))),oD 5 (.mv (.const (.int .i64 0)))]) (.seq (.seq (.reg [oM 18 τ0,oD 19 (.lenS XeX),oD 20 (.bin .gtr Xe3 (.const (.int .i64 9000)))]) (.cond Xfw (.seq (.reg [oD 21 (.build [(.int .i64 0),(.bool false),(.int .u64 0),(.int .u64 0),(.bool false),(.int .u64 0),(.int .u64 0),(.int .i64 0),(.int .i64 0),(.int .i64 0),(.bool false),(.int .u32 0),(.int .u32 0),(.bool false),(.string ⟨⟨[]⟩⟩),(.int .i64 0)] []),oN (.store 16 τ2 Xfm),oD 3 (.mv (.const (.int .i64 0))),oD 4 (.mv (.const (.int .i64 0))),oD 5 (.mv (.const (.int .i64 5)))]) .ret) .skip)) (.seq (.seq (.reg [oM 22 τ0,oD 23 (.bin .eql XfA (.const (.string ⟨⟨[]⟩⟩)))]) (.cond XfN (.seq (.reg [oD 24 (.build [(.int .i64 0),(.bool false),(.int .u64 0),(.int .u64 0),(.bool false),(.int .u64 0),(.int .u64 0),(.int .i64 0),(.int .i64 0),(.int .i64 0),(.bool false),(.int .u32 0),(.int .u32 0),(.bool false),(.string ⟨⟨[]⟩⟩),(.int .i64 0)] []),oN (.store 16 τ2 Xfl),oD 3 (.mv (.const (.int .i64 0))),oD 4 (.mv (.const (.int .i64 0))),oD 5 (.mv (.const (.int .i64 2)))]) .ret) .skip)) (.seq (.reg [oM 26 τ0,oD 27 (.callF 81 [Xf2]),oM 25 Xgd,oE 28 0 Xgp,oE 29 1 Xgp,oD 6 (.alloc [(.bool false),(.int .u64 0),(.int .u64 0),(.bool false),(.int .u64 0),(.int .u64 0),(.int .i64 0),(.int .i64 0),(.string ⟨⟨[]⟩⟩)]),oN (.store 9 τ6 Xgt),oM 7 Xgs]) (.seq (.seq (.reg [oM 30 τ7,oD 31 (.bin .neq XgH (.const (.int .i64 0)))]) (.cond XgA (.seq (.reg [oD 32 (.build [(.int .i64 0),(.bool false),(.int .u64 0),(.int .u64 0),(.bool false),(.int .u64 0),(.int .u64 0),(.int .i64 0),(.int .i64 0),(.int .i64 0),(.bool false),(.int .u32 0),(.int .u32 0),(.bool false),(.string ⟨⟨[]⟩⟩),(.int .i64 0)] []),oM 33 τ7,oN (.store 16 τ2 Xgz),oD 3 (.mv (.const (.int .i64 0))),oD 4 (.mv (.const (.int .i64 0))),oM 5 Xhp]) .ret) .skip)) (.seq (.seq (.reg [oD 34 (.fieldA 7 τ6),oD 35 (.load1 (.int .i64) Xhq),oD 36 (.fieldA 8 τ6),oD 37 (.load1 .str XhH),oD 38 (.lenS Xg0),oD 39 (.bin .add XhG Xiu),oM 40 τ0,oD 41 (.lenS Xjb),oD 42 (.bin .neq Xim XiD)]) (.cond XiK (.seq (.reg [oD 43 (.build [(.int .i64 0),(.bool false),(.int .u64 0),(.int .u64 0),(.bool false),(.int .u64 0),(.int .u64 0),(.int .i64 0),(.int .i64 0),(.int .i64 0),(.bool false),(.int .u32 0),(.int .u32 0),(.bool false),(.string ⟨⟨[]⟩⟩),(.int .i64 0)] []),oN (.store 16 τ2 XiV),oD 3 (.mv (.const (.int .i64 0))),oD 4 (.mv (.const (.int .i64 0))),oD 5 (.mv (.const (.int .i64 5)))]) .ret) .skip)) (.seq (.reg [oM 44 τ0,oD 45 (.lenS Xje),oD 46 (.fieldA 6 τ6),oD 47 (.load1 (.int .i64) Xji),oD 48 (.fieldA 0 τ6),oD 49 (.loadN [.bool,(.int .u64),(.int .u64)] XjG),oD 50 (.fieldA 3 τ6),oD 51 (.loadN [.bool,(.int .u64),(.int .u64)] XjO),oD 52 (.build [(.int .i64 0),(.bool false),(.int .u64 0),(.int .u64 0),(.bool false),(.int .u64 0),(.int .u64 0),(.int .i64 0),(.int .i64 0)] [(0,1,Xjc),(1,3,Xjd),(4,3,XjR)]),oD 53 (.build [(.int .i64 0),(.bool false),(.int .u64 0),(.int .u64 0),(.bool false),(.int .u64 0),(.int .u64 0),(.int .i64 0),(.int .i64 0),(.int .i64 0),(.bool false),(.int .u32 0),(.int .u32 0),(.bool false),(.string ⟨⟨[]⟩⟩),(.int .i64 0)] [(15,1,Xjf),(0,9,Xj6)]),oD 8 (.alloc [(.int .i64 0),(.bool false),(.int .u64 0),(.int .u64 0),(.bool false),(.int .u64 0),(.int .u64 0),(.int .i64 0),(.int .i64 0),(.int .i64 0),(.bool false),(.int .u32 0),(.int .u32 0),(.bool false),(.string ⟨⟨[]⟩⟩),(.int .i64 0)]),oN (.store 16 τ8 Xkq)]) (.seq (.seq (.reg [oD 54 (.fieldA 6 τ6),oD 55 (.load1 (.int .i64) Xlw),oD 56 (.bin .eql Xls (.const (.int .i64 6)))]) (.cond Xlz (.seq (.reg [oD 58 (.fieldA 8 τ6),oD 59 (.load1 .str XlC),oD 60 (.fieldA 0 τ6),oD 61 (.loadN [.bool,(.int .u64),(.int .u64)] Xnd),oD 62 (.fieldA 3 τ6),oD 63 (.loadN [.bool,(.int .u64),(.int .u64)] Xns),oD 64 (.callF 82 [XlO,Xml,Xoa]),oM 57 Xoy,oE 65 0 Xld,oE 66 1 Xld,oE 67 2 Xld,oD 9 (.alloc [(.int .i64 0),(.int .i64 0),(.int .u32 0),(.int .u32 0),(.int .i64 0),(.int .i64 0),(.int .i64 0),(.string ⟨⟨[]⟩⟩)]),oN (.store 8 τ9 Xpi),oM 10 XpP,oM 11 Xpa]) (.seq (.seq (.reg [oM 68 XcC,oD 69 (.bin .neq Xo9 (.const (.int .i64 0)))]) (.cond XpO (.seq (.reg [oD 70 (.build [(.int .i64 0),(.bool false),(.int .u64 0),(.int .u64 0),(.bool false),(.int .u64 0),(.int .u64 0),(.int .i64 0),(.int .i64 0),(.int .i64 0),(.bool false),(.int .u32 0),(.int .u32 0),(.bool false),(.string ⟨⟨[]⟩⟩),(.int .i64 0)] []),oM 71 XcC,oN (.store 16 τ2 Xqm),oD 3 (.mv (.const (.int .i64 0))),oD 4 (.mv (.const (.int .i64 0))),oM 5 XqJ]) .ret) .skip)) (.seq (.reg [oD 72 (.fieldA 0 τ9),oD 73 (.load1 (.int .i64) Xqr),oD 74 (.fieldA 0 τ8),oD 75 (.fieldA 7 XsO),oN (.store 1 Xsv XqN)]) (.seq (.reg [oD 76 (.fieldA 1 τ9),oD 77 (.load1 (.int .i64) Xtc),oD 78 (.fieldA 0 τ8),oD 79 (.fieldA 8 Xta),oN (.store 1 Xtj Xr3)]) (.seq (.reg [oD 80 (.fieldA 4 τ9),oD 81 (.load1 (.int .i64) Xtp),oD 82 (.fieldA 9 τ8),oN (.store 1 Xv4 Xwz)]) (.seq (.reg [oD 84 (.fieldA 7 τ9),oD 85 (.load1 .str XyI),oD 86 (.callF 83 [XBf]),oM 83 XA9,oE 87 0 XtY,oE 88 1 XtY,oE 89 2 XtY,oM 12 XAQ,oM 13 XAR,oM 14 XA7]) (.seq (.seq (.reg [oM 90 Xd9,oD 91 (.bin .geq XAT (.const (.int .i64 0)))]) (.cond Xxl (.seq (.reg [oD 92 (.fieldA 10 τ8),oN (.store 1 XA0 (.const (.bool true)))]) (.seq (.reg [oM 93 XdH,oD 94 (.fieldA 11 τ8),oN (.store 1 XAy XAU)]) (.reg [oM 95 XdG,oD 96 (.fieldA 12 τ8),oN (.store 1 Xw9 XAV)]))) .skip)) (.seq XTg .ret)))))))) .skip)) (.seq (.seq (.reg [oD 107 (.fieldA 6 τ6),oD 108 (.load1 (.int .i64) XAO),oD 109 (.bin .neq Xxh (.const (.int .i64 17)))]) (.cond XD5 (.seq (.reg [oD 110 (.build [(.int .i64 0),(.bool false),(.int .u64 0),(.int .u64 0),(.bool false),(.int .u64 0),(.int .u64 0),(.int .i64 0),(.int .i64 0),(.int .i64 0),(.bool false),(.int .u32 0),(.int .u32 0),(.bool false),(.string ⟨⟨[]⟩⟩),(.int .i64 0)] []),oN (.store 16 τ2 XDK),oD 3 (.mv (.const (.int .i64 0))),oD 4 (.mv (.const (.int .i64 0))),oD 5 (.mv (.const (.int .i64 6)))]) .ret) .skip)) (.seq (.reg [oD 112 (.fieldA 8 τ6),oD 113 (.load1 .str XEN),oD 114 (.fieldA 0 τ6),oD 115 (.loadN [.bool,(.int .u64),(.int .u64)] XIV),oD 116 (.fieldA 3 τ6),oD 117 (.loadN [.bool,(.int .u64),(.int .u64)] Xzh),oD 118 (.callF 84 [XDD,XFn,XCc]),oM 111 XBH,oE 119 0 XvX,oE 120 1 XvX,oE 121 2 XvX,oD 15 (.alloc [(.int .i64 0),(.int .i64 0)]),oN (.store 2 XdR XES),oM 16 XyR,oM 7 XEM]) (.seq (.seq (.reg [oM 122 τ7,oD 123 (.bin .neq XCu (.const (.int .i64 0)))]) (.cond XEQ (.seq (.reg [oD 124 (.build [(.int .i64 0),(.bool false),(.int .u64 0),(.int .u64 0),(.bool false),(.int .u64 0),(.int .u64 0),(.int .i64 0),(.int .i64 0),(.int .i64 0),(.bool false),(.int .u32 0),(.int .u32 0),(.bool false),(.string ⟨⟨[]⟩⟩),(.int .i64 0)] []),oM 125 τ7,oN (.store 16 τ2 XDT),oD 3 (.mv (.const (.int .i64 0))),oD 4 (.mv (.const (.int .i64 0))),oM 5 XBG]) .ret) .skip)) (.seq (.seq (.reg [oM 126 Xed,oD 127 (.lenS XDC),oD 128 (.bin .add Xzn (.const (.int .i64 8))),oD 129 (.fieldA 8 τ6),oD 130 (.load1 .str XC3),oD 131 (.lenS XBo),oD 132 (.bin .neq XDo XEE)]) (.cond XDw (.seq (.reg [oD 133 (.build [(.int .i64 0),(.bool false),(.int .u64 0),(.int .u64 0),(.bool false),(.int .u64 0),(.int .u64 0),(.int .i64 0),(.int .i64 0),(.int .i64 0),(.bool false),(.int .u32 0),(.int .u32 0),(.bool false),(.string ⟨⟨[]⟩⟩),(.int .i64 0)] []),oN (.store 16 τ2 XED),oD 3 (.mv (.const (.int .i64 0))),oD 4 (.mv (.const (.int .i64 0))),oD 5 (.mv (.const (.int .i64 5)))]) .ret) .skip)) (.seq (.reg [oD 134 (.fieldA 0 XdR),oD 135 (.load1 (.int .i64) XxC),oD 136 (.fieldA 0 τ8),oD 137 (.fieldA 7 XCW),oN (.store 1 XDk XBM)]) (.seq (.reg [oD 138 (.fieldA 1 XdR),oD 139 (.load1 (.int .i64) XEV),oD 140 (.fieldA 0 τ8),oD 141 (.fieldA 8 XE4),oN (.store 1 XEg XCt)]) (.seq (.reg [oM 143 Xed,oD 144 (.callF 75 [XE5]),oM 142 XxE,oE 145 0 Xy5,oE 146 1 Xy5,oD 17 (.alloc [(.bool false),(.int .i64 0),(.int .u32 0),(.string ⟨⟨[]⟩⟩),(.string ⟨⟨[]⟩⟩),(.string ⟨⟨[]⟩⟩)]),oN (.store 6 Xec XJu),oM 7 Xz7]) (.seq (.seq (.reg [oM 147 τ7,oD 148 (.bin .eql XBX (.const (.int .i64 0)))]) (.cond XEa (.seq (.reg [oD 149 (.fieldA 0 Xec),oD 150 (.load1 .bool XEC),oD 151 (.fieldA 13 τ8),oN (.store 1 XDd XBR)]) (.reg [oD 152 (.fieldA 3 Xec),oD 153 (.load1 .str XxT),oD 154 (.fieldA 14 τ8),oN (.store 1 XJ4 XKG)])) .skip)) (.seq XQL .ret))))))))))))))))
def fn49:VFn:=⟨161,XNt,[.cell 2 [(.int .i64),.bool,(.int .u64),(.int .u64),.bool,(.int .u64),(.int .u64),(.int .i64),(.int .i64),(.int .i64),.bool,(.int .u32),(.int .u32),.bool,.str,(.int .i64)] true,.tmp 3,.tmp 4,.tmp 5]⟩
def XSJ:VC:=.seq (.reg [oD 2 (.alloc [(.bool false),(.int .u64 0),(.int .u64 0),(.bool false),(.int .u64 0),(.int .u64 0),(.int .i64 0),(.int .i64 0),(.string ⟨⟨[]⟩⟩)]),oD 3 (.mv (.const (.int .i64 0)))]) (.seq (.seq (.reg [oM 10 τ0,oD 11 (.idxS Xdg (.const (.int .i64 0))),oD 12 (.bin .quo XcC (.const (.int .u8 16))),oD 13 (.bin .eql XdH (.const (.int .u8 4)))]) (.cond XdG (.seq (.reg [oM 15 τ0,oD 16 (.callF 110 [XdR]),oM 14 Xed,oE 17 0 Xd9,oE 18 1 Xd9,oE 19 2 Xd9,oD 4 (.alloc [(.int .i64 0),(.int .i64 0),(.bool false),(.int .i64 0),(.int .i64 0),(.bool false),(.int .u64 0),(.int .u64 0),(.bool false),(.int .u64 0),(.int .u64 0),(.string ⟨⟨[]⟩⟩)]),oN (.store 12 τ4 Xec),oM 5 XeX,oM 6 Xe3]) (.seq (.reg [oD 20 (.fieldA 5 τ4),oD 21 (.loadN [.bool,(.int .u64),(.int .u64)] Xfw),oD 22 (.fieldA 8 τ4),oD 23 (.loadN [.bool,(.int .u64),(.int .u64)] XfA),oD 24 (.fieldA 4 τ4),oD 25 (.load1 (.int .i64) Xfl),oD 26 (.fieldA 11 τ4),oD 27 (.load1 .str Xf2),oD 28 (.lenS Xgd),oD 29 (.bin .add (.const (.int .i64 20)) Xgt),oM 30 τ5,oD 31 (.build [(.bool false),(.int .u64 0),(.int .u64 0),(.bool false),(.int .u64 0),(.int .u64 0),(.int .i64 0),(.int .i64 0),(.string ⟨⟨[]⟩⟩)] [(0,3,Xfm),(3,3,XfN),(6,1,Xgp),(7,1,Xgs),(8,1,XgH)]),oM 32 τ6,oN (.store 9 τ2 XgA),oM 3 Xgz]) .ret)) .skip)) (.seq (.seq (.reg [oM 33 τ0,oD 34 (.idxS Xhp (.const (.int .i64 0))),oD 35 (.bin .quo Xhq (.const (.int .u8 16))),oD 36 (.bin .eql XhG (.const (.int .u8 6)))]) (.cond XhH (.seq (.reg [oM 38 τ0,oD 39 (.callF 111 [Xiu]),oM 37 Xim,oE 40 0 Xg0,oE 41 1 Xg0,oE 42 2 Xg0,oD 7 (.alloc [(.int .i64 0),(.int .i64 0),(.int .i64 0),(.int .i64 0),(.bool false),(.int .u64 0),(.int .u64 0),(.bool false),(.int .u64 0),(.int .u64 0)]),oN (.store 10 τ7 Xjb),oM 8 XiD,oM 9 XiK]) (.seq (.reg [oD 43 (.fieldA 4 τ7),oD 44 (.loadN [.bool,(.int .u64),(.int .u64)] XiV),oD 45 (.fieldA 7 τ7),oD 46 (.loadN [.bool,(.int .u64),(.int .u64)] Xjf),oD 47 (.fieldA 2 τ7),oD 48 (.load1 (.int .i64) Xjc),oM 49 τ8,oD 50 (.build [(.bool false),(.int .u64 0),(.int .u64 0),(.bool false),(.int .u64 0),(.int .u64 0),(.int .i64 0),(.int .i64 0),(.string ⟨⟨[]⟩⟩)] [(0,3,Xje),(3,3,Xji),(6,1,XjG),(7,1,(.const (.int .i64 40))),(8,1,Xjd)]),oM 51 τ9,oN (.store 9 τ2 XjO),oM 3 XjR]) .ret)) .skip)) (.seq (.reg [oD 52 (.build [(.bool false),(.int .u64 0),(.int .u64 0),(.bool false),(.int .u64 0),(.int .u64 0),(.int .i64 0),(.int .i64 0),(.string ⟨⟨[]⟩⟩)] []),oN (.store 9 τ2 Xj6),oD 3 (.mv (.const (.int .i64 3)))]) .ret)))
def fn81:VFn:=⟨53,XSJ,[.cell 2 [.bool,(.int .u64),(.int .u64),.bool,(.int .u64),(.int .u64),(.int .i64),(.int .i64),.str] true,.tmp 3]⟩
def XST:VC:=.regD [oM 15 τ0,oD 16 (.idxS XdR (.const (.int .i64 0))),oD 17 (.bin .rem Xed (.const (.int .u8 16))),oD 18 (.conv .i64 Xec),oD 19 (.bin .mul (.const (.int .i64 4)) XeX),oM 20 τ0,oD 21 (.callF 62 [Xfw,(.const (.int .i64 2)),(.const (.int .i64 2))])] [] [oM 5 Xe3,oM 6 Xfm]
def XJc:VC:=.regD [oM 73 τ0,oD 74 (.idxS XqN (.const (.int .i64 1))),oD 75 (.conv .i64 XsO),oM 76 τ0,oD 77 (.callF 62 [Xtc,(.const (.int .i64 4)),(.const (.int .i64 2))]),oM 78 τ0,oD 79 (.idxS Xta (.const (.int .i64 6))),oD 80 (.bin .eql Xtj (.const (.int .u8 64))),oM 81 τ0,oD 82 (.idxS Xwz (.const (.int .i64 8))),oD 83 (.conv .i64 Xv4),oM 84 τ0,oD 85 (.idxS XyI (.const (.int .i64 9))),oD 86 (.conv .i64 XBf),oD 87 (.loadN [.bool,(.int .u64),(.int .u64)] τ7),oD 88 (.loadN [.bool,(.int .u64),(.int .u64)] τ9),oM 89 τ0,oM 90 τ5,oD 91 (.sliceS XA7 (some (.const (.int .i64 20))) (some XAT)),oD 92 (.build [(.int .i64 0),(.int .i64 0),(.bool false),(.int .i64 0),(.int .i64 0),(.bool false),(.int .u64 0),(.int .u64 0),(.bool false),(.int .u64 0),(.int .u64 0),(.string ⟨⟨[]⟩⟩)] [(0,1,Xsv),(1,1,Xr3),(2,1,Xtp),(3,1,XtY),(4,1,XA9),(5,3,XAQ),(8,3,XAR),(11,1,Xxl)]),oM 93 τ0,oM 94 τ5,oM 95 τ6,oD 96 (.sliceS XAU (some XAy) (some XAV)),oN (.store 12 τ2 XA0)] [(4,14),(4,15)] [oM 3 Xw9,oD 4 (.mv (.const (.int .i64 0)))]
def XHK:VC:=.seq (.reg [oD 2 (.alloc [(.int .i64 0),(.int .i64 0),(.bool false),(.int .i64 0),(.int .i64 0),(.bool false),(.int .u64 0),(.int .u64 0),(.bool false),(.int .u64 0),(.int .u64 0),(.string ⟨⟨[]⟩⟩)]),oD 3 (.mv (.const (.string ⟨⟨[]⟩⟩))),oD 4 (.mv (.const (.int .i64 0)))]) (.seq (.seq (.reg [oM 11 τ0,oD 12 (.lenS XcC),oD 13 (.bin .lss XdH (.const (.int .i64 20)))]) (.cond XdG (.seq (.reg [oD 14 (.build [(.int .i64 0),(.int .i64 0),(.bool false),(.int .i64 0),(.int .i64 0),(.bool false),(.int .u64 0),(.int .u64 0),(.bool false),(.int .u64 0),(.int .u64 0),(.string ⟨⟨[]⟩⟩)] []),oN (.store 12 τ2 Xd9),oD 3 (.mv (.const (.string ⟨⟨[]⟩⟩))),oD 4 (.mv (.const (.int .i64 2)))]) .ret) .skip)) (.seq XST (.seq (.seq (.reg [oM 22 τ0,oD 23 (.idxS XfA (.const (.int .i64 0))),oD 24 (.bin .quo XfN (.const (.int .u8 16))),oD 25 (.bin .neq Xfl (.const (.int .u8 4))),oM 26 Xgp,oG 27 (.mv τ5) 26 false,oG 28 (.bin .lss Xgd (.const (.int .i64 20))) 26 false,oD 29 (.pick Xf2 (.const (.bool true)) Xgt),oM 30 Xgs,oG 31 (.mv τ6) 30 false,oG 32 (.mv τ5) 30 false,oG 33 (.bin .lss XgA Xgz) 30 false,oD 34 (.pick XgH (.const (.bool true)) Xhp)]) (.cond Xhq (.seq (.reg [oD 35 (.build [(.int .i64 0),(.int .i64 0),(.bool false),(.int .i64 0),(.int .i64 0),(.bool false),(.int .u64 0),(.int .u64 0),(.bool false),(.int .u64 0),(.int .u64 0),(.string ⟨⟨[]⟩⟩)] []),oN (.store 12 τ2 XhG),oD 3 (.mv (.const (.string ⟨⟨[]⟩⟩))),oD 4 (.mv (.const (.int .i64 3)))]) .ret) .skip)) (.seq (.seq (.reg [oM 36 τ0,oD 37 (.lenS XhH),oM 38 τ6,oD 39 (.bin .lss Xg0 Xiu)]) (.cond Xim (.seq (.reg [oD 40 (.build [(.int .i64 0),(.int .i64 0),(.bool false),(.int .i64 0),(.int .i64 0),(.bool false),(.int .u64 0),(.int .u64 0),(.bool false),(.int .u64 0),(.int .u64 0),(.string ⟨⟨[]⟩⟩)] []),oN (.store 12 τ2 Xjb),oD 3 (.mv (.const (.string ⟨⟨[]⟩⟩))),oD 4 (.mv (.const (.int .i64 2)))]) .ret) .skip)) (.seq (.seq (.reg [oM 41 τ0,oM 42 τ5,oD 43 (.sliceS XiD none (some XiK)),oD 44 (.callF 60 [XiV]),oD 45 (.bin .neq Xje (.const (.int .i64 65535)))]) (.cond Xjf (.seq (.reg [oD 46 (.build [(.int .i64 0),(.int .i64 0),(.bool false),(.int .i64 0),(.int .i64 0),(.bool false),(.int .u64 0),(.int .u64 0),(.bool false),(.int .u64 0),(.int .u64 0),(.string ⟨⟨[]⟩⟩)] []),oN (.store 12 τ2 Xji),oD 3 (.mv (.const (.string ⟨⟨[]⟩⟩))),oD 4 (.mv (.const (.int .i64 4)))]) .ret) .skip)) (.seq (.seq (.reg [oM 47 τ0,oD 48 (.idxS Xjc (.const (.int .i64 6))),oD 49 (.bin .neq XjG (.const (.int .u8 0))),oM 50 Xjd,oG 51 (.mv τ0) 50 true,oG 52 (.idxS XjR (.const (.int .i64 6))) 50 true,oG 53 (.bin .neq Xj6 (.const (.int .u8 64))) 50 true,oD 54 (.pick XjO Xkq (.const (.bool false))),oM 55 Xlw,oG 56 (.mv τ0) 55 false,oG 57 (.idxS Xlz (.const (.int .i64 7))) 55 false,oG 58 (.bin .neq Xld (.const (.int .u8 0))) 55 false,oD 59 (.pick Xls (.const (.bool true)) XlC)]) (.cond XlO (.seq (.reg [oD 60 (.build [(.int .i64 0),(.int .i64 0),(.bool false),(.int .i64 0),(.int .i64 0),(.bool false),(.int .u64 0),(.int .u64 0),(.bool false),(.int .u64 0),(.int .u64 0),(.string ⟨⟨[]⟩⟩)] []),oN (.store 12 τ2 Xnd),oD 3 (.mv (.const (.string ⟨⟨[]⟩⟩))),oD 4 (.mv (.const (.int .i64 7)))]) .ret) .skip)) (.seq (.reg [oM 62 τ0,oD 63 (.sliceS Xns (some (.const (.int .i64 12))) (some (.const (.int .i64 16)))),oD 64 (.callF 127 [Xoa]),oM 61 Xoy,oE 65 0 Xml,oE 66 1 Xml,oD 7 (.alloc [(.bool false),(.int .u64 0),(.int .u64 0)]),oN (.store 3 τ7 Xpi),oM 8 XpP]) (.seq (.reg [oM 68 τ0,oD 69 (.sliceS Xo9 (some (.const (.int .i64 16))) (some (.const (.int .i64 20)))),oD 70 (.callF 127 [XpO]),oM 67 Xqm,oE 71 0 Xpa,oE 72 1 Xpa,oD 9 (.alloc [(.bool false),(.int .u64 0),(.int .u64 0)]),oN (.store 3 τ9 XqJ),oM 10 Xqr]) (.seq XJc .ret)))))))))
def XN5:VFn:=⟨97,XHK,[.cell 2 [(.int .i64),(.int .i64),.bool,(.int .i64),(.int .i64),.bool,(.int .u64),(.int .u64),.bool,(.int .u64),(.int .u64),.str] true,.tmp 3,.tmp 4]⟩
def XL1:VC:=.seq (.reg [oD 2 (.alloc [(.bool false),(.int .u64 0),(.int .u64 0)]),oD 3 (.mv (.const (.bool false)))]) (.seq (.seq (.reg [oM 10 τ0,oD 11 (.lenS Xdg),oD 12 (.bin .eql XcC (.const (.int .i64 4)))]) (.cond XdH (.seq (.reg [oM 14 τ0,oD 15 (.callF 61 [Xd9,(.const (.int .i64 0)),(.const (.int .i64 4))]),oM 13 XdR,oE 16 0 XdG,oE 17 1 XdG,oM 4 Xed,oM 5 Xec]) (.seq (.reg [oM 18 τ4,oD 19 (.build [(.bool false),(.int .u64 0),(.int .u64 0)] [(2,1,XeX)]),oN (.store 3 τ2 Xe3),oD 3 (.mv (.const (.bool true)))]) .ret)) .skip)) (.seq (.seq (.reg [oM 20 τ0,oD 21 (.lenS Xfw),oD 22 (.bin .eql Xfm (.const (.int .i64 16)))]) (.cond XfA (.seq (.reg [oM 24 τ0,oD 25 (.callF 61 [Xfl,(.const (.int .i64 0)),(.const (.int .i64 8))]),oM 23 Xgp,oE 26 0 XfN,oE 27 1 XfN,oM 6 Xf2,oM 7 Xgd]) (.seq (.reg [oM 29 τ0,oD 30 (.callF 61 [Xgs,(.const (.int .i64 8)),(.const (.int .i64 8))]),oM 28 XgH,oE 31 0 Xgt,oE 32 1 Xgt,oM 8 XgA,oM 9 Xgz]) (.seq (.reg [oM 33 τ6,oM 34 τ8,oD 35 (.build [(.bool false),(.int .u64 0),(.int .u64 0)] [(0,1,(.const (.bool true))),(1,1,Xhp),(2,1,Xhq)]),oN (.store 3 τ2 XhG),oD 3 (.mv (.const (.bool true)))]) .ret))) .skip)) (.seq (.reg [oD 36 (.build [(.bool false),(.int .u64 0),(.int .u64 0)] []),oN (.store 3 τ2 XhH),oD 3 (.mv (.const (.bool false)))]) .ret)))
def XNp:VFn:=⟨37,XL1,[.cell 2 [.bool,(.int .u64),(.int .u64)] true,.tmp 3]⟩
def XM0:VC:=.regD [oM 41 τ5,oD 42 (.bin .quo XiD (.const (.int .i64 1048576))),oD 43 (.bin .rem XiK (.const (.int .i64 256))),oM 44 τ5,oD 45 (.bin .rem Xje (.const (.int .i64 1048576))),oM 46 τ0,oD 47 (.idxS Xji (.const (.int .i64 6))),oD 48 (.conv .i64 Xjc),oM 49 τ0,oD 50 (.idxS Xjd (.const (.int .i64 7))),oD 51 (.conv .i64 XjO),oD 52 (.loadN [.bool,(.int .u64),(.int .u64)] τ7),oD 53 (.loadN [.bool,(.int .u64),(.int .u64)] τ9),oD 54 (.build [(.int .i64 0),(.int .i64 0),(.int .i64 0),(.int .i64 0),(.bool false),(.int .u64 0),(.int .u64 0),(.bool false),(.int .u64 0),(.int .u64 0)] [(0,1,XiV),(1,1,Xjf),(2,1,XjG),(3,1,XjR),(4,3,Xj6),(7,3,Xkq)]),oM 55 τ0,oM 56 τ6,oD 57 (.bin .add (.const (.int .i64 40)) Xlz),oD 58 (.sliceS Xls (some (.const (.int .i64 40))) (some Xld)),oN (.store 10 τ2 Xlw)] [] [oM 3 XlC,oD 4 (.mv (.const (.int .i64 0)))]
def XH3:VC:=.seq (.reg [oD 2 (.alloc [(.int .i64 0),(.int .i64 0),(.int .i64 0),(.int .i64 0),(.bool false),(.int .u64 0),(.int .u64 0),(.bool false),(.int .u64 0),(.int .u64 0)]),oD 3 (.mv (.const (.string ⟨⟨[]⟩⟩))),oD 4 (.mv (.const (.int .i64 0)))]) (.seq (.seq (.reg [oM 11 τ0,oD 12 (.lenS XcC),oD 13 (.bin .lss XdH (.const (.int .i64 40)))]) (.cond XdG (.seq (.reg [oD 14 (.build [(.int .i64 0),(.int .i64 0),(.int .i64 0),(.int .i64 0),(.bool false),(.int .u64 0),(.int .u64 0),(.bool false),(.int .u64 0),(.int .u64 0)] []),oN (.store 10 τ2 Xd9),oD 3 (.mv (.const (.string ⟨⟨[]⟩⟩))),oD 4 (.mv (.const (.int .i64 2)))]) .ret) .skip)) (.seq (.reg [oM 15 τ0,oD 16 (.callF 62 [XdR,(.const (.int .i64 0)),(.const (.int .i64 4))]),oM 17 τ0,oD 18 (.callF 62 [Xec,(.const (.int .i64 4)),(.const (.int .i64 2))]),oM 5 Xed,oM 6 XeX]) (.seq (.seq (.reg [oM 19 τ5,oD 20 (.bin .quo Xe3 (.const (.int .i64 268435456))),oD 21 (.bin .neq Xfw (.const (.int .i64 6)))]) (.cond Xfm (.seq (.reg [oD 22 (.build [(.int .i64 0),(.int .i64 0),(.int .i64 0),(.int .i64 0),(.bool false),(.int .u64 0),(.int .u64 0),(.bool false),(.int .u64 0),(.int .u64 0)] []),oN (.store 10 τ2 XfA),oD 3 (.mv (.const (.string ⟨⟨[]⟩⟩))),oD 4 (.mv (.const (.int .i64 3)))]) .ret) .skip)) (.seq (.seq (.reg [oM 23 τ0,oD 24 (.lenS XfN),oD 25 (.bin .sub Xfl (.const (.int .i64 40))),oM 26 τ6,oD 27 (.bin .lss Xgp Xf2)]) (.cond Xgd (.seq (.reg [oD 28 (.build [(.int .i64 0),(.int .i64 0),(.int .i64 0),(.int .i64 0),(.bool false),(.int .u64 0),(.int .u64 0),(.bool false),(.int .u64 0),(.int .u64 0)] []),oN (.store 10 τ2 Xgt),oD 3 (.mv (.const (.string ⟨⟨[]⟩⟩))),oD 4 (.mv (.const (.int .i64 2)))]) .ret) .skip)) (.seq (.reg [oM 30 τ0,oD 31 (.sliceS XgH (some (.const (.int .i64 8))) (some (.const (.int .i64 24)))),oD 32 (.callF 127 [XgA]),oM 29 Xgz,oE 33 0 Xgs,oE 34 1 Xgs,oD 7 (.alloc [(.bool false),(.int .u64 0),(.int .u64 0)]),oN (.store 3 τ7 Xhp),oM 8 Xhq]) (.seq (.reg [oM 36 τ0,oD 37 (.sliceS XhH (some (.const (.int .i64 24))) (some (.const (.int .i64 40)))),oD 38 (.callF 127 [Xg0]),oM 35 Xiu,oE 39 0 XhG,oE 40 1 XhG,oD 9 (.alloc [(.bool false),(.int .u64 0),(.int .u64 0)]),oN (.store 3 τ9 Xim),oM 10 Xjb]) (.seq XM0 .ret)))))))
def XNu:VFn:=⟨59,XH3,[.cell 2 [(.int .i64),(.int .i64),(.int .i64),(.int .i64),.bool,(.int .u64),(.int .u64),.bool,(.int .u64),(.int .u64)] true,.tmp 3,.tmp 4]⟩
def XOZ:VC:=.regD [oM 61 τ0,oD 62 (.callF 62 [Xml,(.const (.int .i64 0)),(.const (.int .i64 2))]),oM 63 τ0,oD 64 (.callF 62 [Xoa,(.const (.int .i64 2)),(.const (.int .i64 2))]),oM 65 τ0,oD 66 (.callF 62 [Xpi,(.const (.int .i64 4)),(.const (.int .i64 4))]),oD 67 (.conv .u32 XpP),oM 68 τ0,oD 69 (.callF 62 [Xo9,(.const (.int .i64 8)),(.const (.int .i64 4))]),oD 70 (.conv .u32 XpO),oM 71 τ0,oD 72 (.idxS XqJ (.const (.int .i64 13))),oD 73 (.conv .i64 Xqr),oM 74 τ0,oD 75 (.callF 62 [XsO,(.const (.int .i64 14)),(.const (.int .i64 2))]),oM 76 τ0,oD 77 (.callF 62 [Xtc,(.const (.int .i64 18)),(.const (.int .i64 2))]),oM 78 τ0,oM 79 τ9,oD 80 (.sliceS Xta (some (.const (.int .i64 20))) (some Xtj)),oD 81 (.build [(.int .i64 0),(.int .i64 0),(.int .u32 0),(.int .u32 0),(.int .i64 0),(.int .i64 0),(.int .i64 0),(.string ⟨⟨[]⟩⟩)] [(0,1,Xns),(1,1,Xoy),(2,1,Xpa),(3,1,Xqm),(4,1,XqN),(5,1,Xsv),(6,1,Xr3),(7,1,Xtp)]),oM 82 τ0,oM 83 τ9,oD 84 (.sliceS Xv4 (some XtY) none),oN (.store 8 τ6 Xwz)] [] [oM 7 XyI,oD 8 (.mv (.const (.int .i64 0)))]
def XNV:VC:=.seq (.reg [oD 4 (.box τ1),oD 5 (.box τ2),oD 6 (.alloc [(.int .i64 0),(.int .i64 0),(.int .u32 0),(.int .u32 0),(.int .i64 0),(.int .i64 0),(.int .i64 0),(.string ⟨⟨[]⟩⟩)]),oD 7 (.mv (.const (.string ⟨⟨[]⟩⟩))),oD 8 (.mv (.const (.int .i64 0)))]) (.seq (.seq (.reg [oM 13 τ0,oD 14 (.lenS XdG),oD 15 (.bin .lss Xd9 (.const (.int .i64 20)))]) (.cond XdR (.seq (.reg [oD 16 (.build [(.int .i64 0),(.int .i64 0),(.int .u32 0),(.int .u32 0),(.int .i64 0),(.int .i64 0),(.int .i64 0),(.string ⟨⟨[]⟩⟩)] []),oN (.store 8 τ6 Xed),oD 7 (.mv (.const (.string ⟨⟨[]⟩⟩))),oD 8 (.mv (.const (.int .i64 2)))]) .ret) .skip)) (.seq (.reg [oM 17 τ0,oD 18 (.idxS Xec (.const (.int .i64 12))),oD 19 (.bin .quo XeX (.const (.int .u8 16))),oD 20 (.conv .i64 Xe3),oD 21 (.bin .mul (.const (.int .i64 4)) Xfw),oM 9 Xfm]) (.seq (.seq (.reg [oM 22 τ9,oD 23 (.bin .lss XfA (.const (.int .i64 20))),oM 24 XfN,oG 25 (.mv τ0) 24 false,oG 26 (.idxS Xgp (.const (.int .i64 12))) 24 false,oG 27 (.bin .rem Xf2 (.const (.int .u8 16))) 24 false,oG 28 (.bin .neq Xgd (.const (.int .u8 0))) 24 false,oD 29 (.pick Xfl (.const (.bool true)) Xgt)]) (.cond Xgs (.seq (.reg [oD 30 (.build [(.int .i64 0),(.int .i64 0),(.int .u32 0),(.int .u32 0),(.int .i64 0),(.int .i64 0),(.int .i64 0),(.string ⟨⟨[]⟩⟩)] []),oN (.store 8 τ6 XgH),oD 7 (.mv (.const (.string ⟨⟨[]⟩⟩))),oD 8 (.mv (.const (.int .i64 3)))]) .ret) .skip)) (.seq (.seq (.reg [oM 31 τ0,oD 32 (.lenS XgA),oM 33 τ9,oD 34 (.bin .lss Xgz Xhp)]) (.cond Xhq (.seq (.reg [oD 35 (.build [(.int .i64 0),(.int .i64 0),(.int .u32 0),(.int .u32 0),(.int .i64 0),(.int .i64 0),(.int .i64 0),(.string ⟨⟨[]⟩⟩)] []),oN (.store 8 τ6 XhG),oD 7 (.mv (.const (.string ⟨⟨[]⟩⟩))),oD 8 (.mv (.const (.int .i64 2)))]) .ret) .skip)) (.seq (.reg [oD 36 (.loadN [.bool,(.int .u64),(.int .u64)] τ4),oD 37 (.loadN [.bool,(.int .u64),(.int .u64)] τ5),oM 38 τ0,oD 39 (.lenS Xiu),oD 40 (.callF 77 [XhH,Xg0,(.const (.int .i64 6)),Xim]),oM 10 Xjb]) (.seq (.seq (.reg [oM 41 Xdg,oD 42 (.bin .eql XiD (.const (.string ⟨⟨[]⟩⟩)))]) (.cond XiK (.seq (.reg [oD 43 (.build [(.int .i64 0),(.int .i64 0),(.int .u32 0),(.int .u32 0),(.int .i64 0),(.int .i64 0),(.int .i64 0),(.string ⟨⟨[]⟩⟩)] []),oN (.store 8 τ6 XiV),oD 7 (.mv (.const (.string ⟨⟨[]⟩⟩))),oD 8 (.mv (.const (.int .i64 1)))]) .ret) .skip)) (.seq (.seq (.reg [oM 44 Xdg,oM 45 τ0,oD 46 (.bin .add Xje Xjf),oD 47 (.callF 60 [Xji]),oD 48 (.bin .neq Xjc (.const (.int .i64 65535)))]) (.cond XjG (.seq (.reg [oD 49 (.build [(.int .i64 0),(.int .i64 0),(.int .u32 0),(.int .u32 0),(.int .i64 0),(.int .i64 0),(.int .i64 0),(.string ⟨⟨[]⟩⟩)] []),oN (.store 8 τ6 Xjd),oD 7 (.mv (.const (.string ⟨⟨[]⟩⟩))),oD 8 (.mv (.const (.int .i64 4)))]) .ret) .skip)) (.seq (.reg [oM 51 τ0,oM 52 τ9,oD 53 (.sliceS XjR (some (.const (.int .i64 20))) (some Xj6)),oD 54 (.callF 112 [Xkq]),oM 50 Xlw,oE 55 0 XjO,oE 56 1 XjO,oM 11 Xls,oM 12 Xlz]) (.seq (.seq (.reg [oM 57 XdH,oD 58 (.bin .neq Xld (.const (.int .i64 0)))]) (.cond XlC (.seq (.reg [oD 59 (.build [(.int .i64 0),(.int .i64 0),(.int .u32 0),(.int .u32 0),(.int .i64 0),(.int .i64 0),(.int .i64 0),(.string ⟨⟨[]⟩⟩)] []),oM 60 XdH,oN (.store 8 τ6 XlO),oD 7 (.mv (.const (.string ⟨⟨[]⟩⟩))),oM 8 Xnd]) .ret) .skip)) (.seq XOZ .ret))))))))))
def fn82:VFn:=⟨85,XNV,[.cell 6 [(.int .i64),(.int .i64),(.int .u32),(.int .u32),(.int .i64),(.int .i64),(.int .i64),.str] true,.tmp 7,.tmp 8]⟩
def k77_7:VC:=.regD [oD 26 (.loadN [.bool,(.int .u64),(.int .u64)] τ4),oD 27 (.callF 104 [Xf2]),oD 28 (.loadN [.bool,(.int .u64),(.int .u64)] τ5),oD 29 (.callF 104 [Xgt]),oD 30 (.bin .add Xgd Xgs),oM 31 τ3,oD 32 (.callF 105 [XgA,(.const (.int .i64 4))]),oD 33 (.bin .add XgH Xgz),oD 34 (.callF 105 [(.const (.int .i64 0)),(.const (.int .i64 3))]),oD 35 (.bin .add Xhp Xhq),oM 36 τ2,oD 37 (.callF 105 [XhH,(.const (.int .i64 1))])] [(1,2)] [oD 38 (.bin .add XhG Xg0),oM 8 Xiu]
def XQX:VC:=.regD [oD 39 (.loadN [.bool,(.int .u64),(.int .u64)] τ4),oD 40 (.callF 104 [Xim]),oD 41 (.loadN [.bool,(.int .u64),(.int .u64)] τ5),oD 42 (.callF 104 [XiD]),oD 43 (.bin .add Xjb XiK),oD 44 (.callF 105 [(.const (.int .i64 0)),(.const (.int .i64 1))]),oD 45 (.bin .add XiV Xje),oM 46 τ2,oD 47 (.callF 105 [Xji,(.const (.int .i64 1))]),oD 48 (.bin .add Xjf Xjc),oM 49 τ3,oD 50 (.callF 105 [Xjd,(.const (.int .i64 2))])] [(1,2)] [oD 51 (.bin .add XjG XjO),oM 8 XjR]
def XGV:VC:=.seq (.reg [oD 4 (.box τ0),oD 5 (.box τ1),oD 8 (.mv (.const (.string ⟨⟨[]⟩⟩)))]) (.seq (.seq (.reg [oD 9 (.loadN [.bool,(.int .u64),(.int .u64)] τ4),oD 10 (.callF 42 [τ9]),oD 11 (.not Xdg),oM 12 XcC,oG 13 (.loadN [.bool,(.int .u64),(.int .u64)] τ5) 12 false,oG 14 (.callF 42 [XdG]) 12 false,oG 15 (.not Xd9) 12 false,oD 16 (.pick XdH (.const (.bool true)) XdR),oM 17 Xed,oG 18 (.fieldA 0 τ4) 17 false,oG 19 (.load1 .bool XeX) 17 false,oG 20 (.fieldA 0 τ5) 17 false,oG 21 (.load1 .bool Xfw) 17 false,oG 22 (.eqB true Xe3 Xfm) 17 false,oD 23 (.pick Xec (.const (.bool true)) XfA)]) (.cond XfN (.seq (.reg [oD 8 (.mv (.const (.string ⟨⟨[]⟩⟩)))]) .ret) .skip)) (.seq (.seq (.reg [oD 24 (.fieldA 0 τ4),oD 25 (.load1 .bool Xfl)]) (.cond Xgp (.seq k77_7 .ret) .skip)) (.seq XQX .ret)))
def fn77:VFn:=⟨52,XGV,[.tmp 8]⟩
def XNx:VC:=.seq (.reg [oD 1 (.box τ0),oD 2 (.mv (.const (.bool false)))]) (.seq (.reg [oD 3 (.fieldA 0 τ1),oD 4 (.load1 .bool τ3),oM 5 τ4,oG 6 (.fieldA 1 τ1) 5 false,oG 7 (.load1 (.int .u64) τ6) 5 false,oG 8 (.bin .eql τ7 (.const (.int .u64 0))) 5 false,oG 9 (.mv τ8) 5 false,oG 10 (.fieldA 2 τ1) 9 true,oG 11 (.load1 (.int .u64) Xdg) 9 true,oG 12 (.bin .lss XcC (.const (.int .u64 4294967296))) 9 true,oG 13 (.pick τ9 XdH (.const (.bool false))) 5 false,oD 14 (.pick τ5 (.const (.bool true)) XdG),oM 2 Xd9]) .ret)
def fn42:VFn:=⟨15,XNx,[.tmp 2]⟩
def XOc:VC:=.regD [oD 8 (.fieldA 1 τ1),oD 9 (.load1 (.int .u64) τ8),oD 10 (.callF 46 [τ9,(.const (.int .i64 8))]),oD 11 (.fieldA 2 τ1),oD 12 (.load1 (.int .u64) XcC)] [(2,4)] [oD 13 (.callF 46 [XdH,(.const (.int .i64 8))]),oD 14 (.bin .add Xdg XdG),oM 2 Xd9]
def Xz6:VC:=.seq (.reg [oD 1 (.box τ0),oD 2 (.mv (.const (.string ⟨⟨[]⟩⟩)))]) (.seq (.seq (.reg [oD 3 (.loadN [.bool,(.int .u64),(.int .u64)] τ1),oD 4 (.callF 42 [τ3]),oD 5 (.not τ4)]) (.cond τ5 (.seq (.reg [oD 2 (.mv (.const (.string ⟨⟨[]⟩⟩)))]) .ret) .skip)) (.seq (.seq (.reg [oD 6 (.fieldA 0 τ1),oD 7 (.load1 .bool τ6)]) (.cond τ7 (.seq XOc .ret) .skip)) (.seq (.reg [oD 15 (.fieldA 2 τ1),oD 16 (.load1 (.int .u64) XdR),oD 17 (.callF 46 [Xed,(.const (.int .i64 4))]),oM 2 Xec]) .ret)))
def XP7:VFn:=⟨18,Xz6,[.tmp 2]⟩
def XyJ:VC:=.seq (.seq (.reg [oM 7 τ6,oM 8 τ1,oD 9 (.bin .lss τ7 τ8),oM 10 τ9,oG 11 (.mv τ1) 10 true,oG 12 (.bin .leq XcC (.const (.int .i64 8))) 10 true,oD 13 (.pick Xdg XdH (.const (.bool false)))]) (.cond XdG .skip (.exit 0))) (.seq (.block 1 (.seq (.reg [oM 16 τ0,oD 17 (.bin .rem Xed (.const (.int .u64 256))),oD 18 (.conv .u8 Xec),oD 19 (.buildSl 1 1 [(.int .u8 0)] [(0,1,XeX)]),oD 20 (.b2s Xe3),oM 21 τ5,oD 22 (.bin .add Xfw Xfm),oM 5 XfA]) (.reg [oM 23 τ0,oD 24 (.bin .quo XfN (.const (.int .u64 256))),oM 0 Xfl]))) (.reg [oM 14 τ6,oD 15 (.bin .add Xd9 (.const (.int .i64 1))),oM 6 XdR]))
def XG4:VC:=.seq (.reg [oM 25 τ5,oM 4 Xgp]) .ret
def XGP:VC:=.seq (.reg [oD 4 (.mv (.const (.string ⟨⟨[]⟩⟩)))]) (.seq (.reg [oD 5 (.mv (.const (.string ⟨⟨[]⟩⟩)))]) (.seq (.seq (.reg [oD 6 (.mv (.const (.int .i64 0)))]) (.block 0 (.loop XyJ))) XG4))
def fn46:VFn:=⟨26,XGP,[.tmp 4]⟩
def XGH:VC:=.seq (.reg [oD 4 (.mv (.const (.string ⟨⟨[]⟩⟩)))]) (.seq (.reg [oM 5 τ0,oD 6 (.conv .u64 τ5),oM 7 τ1,oD 8 (.callF 46 [τ6,τ7]),oM 4 τ8]) .ret)
def XTb:VFn:=⟨9,XGH,[.tmp 4]⟩
def XId:VC:=.regD [oM 52 τ4,oM 53 τ0,oM 54 τ5,oD 55 (.idxS Xkq Xlw),oD 56 (.conv .i64 Xls),oM 57 τ0,oM 58 τ5,oD 59 (.bin .add XlC (.const (.int .i64 2))),oM 60 τ5,oM 61 τ6,oD 62 (.bin .add Xnd Xml),oD 63 (.sliceS Xld (some XlO) (some Xns)),oM 64 τ5,oD 65 (.bin .add Xoy (.const (.int .i64 2))),oD 66 (.build [(.int .i64 0),(.string ⟨⟨[]⟩⟩),(.int .i64 0)] [(0,1,Xlz),(1,1,Xoa),(2,1,Xpi)]),oD 67 (.buildSl 1 3 [(.int .i64 0),(.string ⟨⟨[]⟩⟩),(.int .i64 0)] [(0,3,XpP)])] [] [oD 68 (.app 168 3 32 Xj6 Xpa),oM 4 Xo9]
def XJh:VC:=.seq (.reg [oD 2 (.mv (.const (.slice none 0 0))),oD 3 (.mv (.const (.int .i64 0)))]) (.seq (.reg [oD 4 (.mv (.const (.slice none 0 0)))]) (.seq (.seq (.reg [oD 5 (.mv (.const (.int .i64 0)))]) (.block 0 (.loop (.seq (.seq (.reg [oM 7 τ5,oM 8 τ0,oD 9 (.lenS τ8),oD 10 (.bin .lss τ7 τ9),oM 11 Xdg,oG 12 (.mv τ0) 11 true,oG 13 (.mv τ5) 11 true,oG 14 (.idxS XdH XdG) 11 true,oG 15 (.bin .neq Xd9 (.const (.int .u8 0))) 11 true,oD 16 (.pick XcC XdR (.const (.bool false)))]) (.cond Xed .skip (.exit 0))) (.block 1 (.seq (.seq (.reg [oM 17 τ0,oM 18 τ5,oD 19 (.idxS Xec XeX),oD 20 (.bin .eql Xe3 (.const (.int .u8 1)))]) (.cond Xfw (.seq (.reg [oM 21 τ5,oD 22 (.bin .add Xfm (.const (.int .i64 1))),oM 5 XfA]) (.exit 1)) .skip)) (.seq (.seq (.reg [oM 23 τ5,oD 24 (.bin .add XfN (.const (.int .i64 1))),oM 25 τ0,oD 26 (.lenS Xgp),oD 27 (.bin .geq Xfl Xf2),oM 28 Xgd,oG 29 (.mv τ0) 28 false,oG 30 (.mv τ5) 28 false,oG 31 (.bin .add XgH (.const (.int .i64 1))) 28 false,oG 32 (.idxS Xgs XgA) 28 false,oG 33 (.bin .lss Xgz (.const (.int .u8 2))) 28 false,oD 34 (.pick Xgt (.const (.bool true)) Xhp),oM 35 Xhq,oG 36 (.mv τ0) 35 false,oG 37 (.mv τ5) 35 false,oG 38 (.bin .add Xg0 (.const (.int .i64 1))) 35 false,oG 39 (.idxS XhH Xiu) 35 false,oG 40 (.conv .i64 Xim) 35 false,oG 41 (.mv τ0) 35 false,oG 42 (.lenS XiD) 35 false,oG 43 (.mv τ5) 35 false,oG 44 (.bin .sub XiK XiV) 35 false,oG 45 (.bin .gtr Xjb Xje) 35 false,oD 46 (.pick XhG (.const (.bool true)) Xjf)]) (.cond Xji (.seq (.reg [oD 2 (.mv (.const (.slice none 0 0))),oD 3 (.mv (.const (.int .i64 3)))]) .ret) .skip)) (.seq (.reg [oM 47 τ0,oM 48 τ5,oD 49 (.bin .add XjG (.const (.int .i64 1))),oD 50 (.idxS Xjc Xjd),oD 51 (.conv .i64 XjO),oM 6 XjR]) (.seq XId (.reg [oM 69 τ5,oM 70 τ6,oD 71 (.bin .add XpO Xqm),oM 5 XqJ])))))))))) (.seq (.reg [oM 72 τ4,oM 2 Xqr,oD 3 (.mv (.const (.int .i64 0)))]) .ret)))
def XSe:VFn:=⟨73,XJh,[.tmp 2,.tmp 3]⟩
def XOO:VC:=.regD [oM 32 τ5,oM 33 τ7,oD 34 (.idxAL 3 Xgz Xhp),oD 35 (.fieldA 1 Xhq),oD 36 (.load1 .str XhG),oD 37 (.callF 62 [XhH,(.const (.int .i64 0)),(.const (.int .i64 4))]),oD 38 (.conv .u32 Xg0),oM 39 τ5,oM 40 τ7,oD 41 (.idxAL 3 Xim Xjb),oD 42 (.fieldA 1 XiD),oD 43 (.load1 .str XiK),oD 44 (.callF 62 [XiV,(.const (.int .i64 4)),(.const (.int .i64 4))]),oD 45 (.conv .u32 Xje),oM 46 τ5,oM 47 τ7,oD 48 (.idxAL 3 Xji Xjc),oD 49 (.fieldA 2 XjG),oD 50 (.load1 (.int .i64) Xjd),oM 2 Xiu,oM 3 Xjf] [(5,11),(5,18),(12,18)] [oM 4 XjO]
def XPP:VC:=.seq (.reg [oD 2 (.mv (.const (.int .u32 0))),oD 3 (.mv (.const (.int .u32 0))),oD 4 (.mv (.const (.int .i64 0)))]) (.seq (.reg [oM 9 τ0,oD 10 (.callF 112 [τ9]),oM 8 Xdg,oE 11 0 τ8,oE 12 1 τ8,oM 5 XcC,oM 6 XdH]) (.seq (.seq (.reg [oD 7 (.mv (.const (.int .i64 0)))]) (.block 0 (.loop (.seq (.seq (.reg [oM 13 τ7,oM 14 τ5,oD 15 (.lenL Xd9),oD 16 (.bin .lss XdG XdR)]) (.cond Xed .skip (.exit 0))) (.seq (.block 1 (.seq (.reg [oM 19 τ5,oM 20 τ7,oD 21 (.idxAL 3 Xe3 Xfw),oD 22 (.fieldA 0 Xfm),oD 23 (.load1 (.int .i64) XfA),oD 24 (.bin .eql XfN (.const (.int .i64 8)))]) (.cond Xfl (.seq (.seq (.reg [oM 25 τ5,oM 26 τ7,oD 27 (.idxAL 3 Xgp Xf2),oD 28 (.fieldA 1 Xgd),oD 29 (.load1 .str Xgt),oD 30 (.lenS Xgs),oD 31 (.bin .neq XgH (.const (.int .i64 8)))]) (.cond XgA (.seq (.reg [oD 2 (.mv (.const (.int .u32 0))),oD 3 (.mv (.const (.int .u32 0))),oD 4 (.mv (.const (.int .i64 (-1))))]) .ret) .skip)) (.seq XOO .ret)) .skip))) (.reg [oM 17 τ7,oD 18 (.bin .add Xec (.const (.int .i64 1))),oM 7 XeX])))))) (.seq (.reg [oD 2 (.mv (.const (.int .u32 0))),oD 3 (.mv (.const (.int .u32 0))),oD 4 (.mv (.const (.int .i64 (-1))))]) .ret)))
def fn83:VFn:=⟨51,XPP,[.tmp 2,.tmp 3,.tmp 4]⟩
def XQY:VC:=.regD [oM 46 τ0,oD 47 (.callF 62 [Xji,(.const (.int .i64 0)),(.const (.int .i64 2))]),oM 48 τ0,oD 49 (.callF 62 [XjG,(.const (.int .i64 2)),(.const (.int .i64 2))]),oD 50 (.build [(.int .i64 0),(.int .i64 0)] [(0,1,Xjc),(1,1,Xjd)]),oM 51 τ0,oM 52 τ9,oD 53 (.sliceS XjR (some (.const (.int .i64 8))) (some Xj6)),oN (.store 2 τ6 XjO)] [] [oM 7 Xkq,oD 8 (.mv (.const (.int .i64 0)))]
def XPc:VC:=.seq (.reg [oD 4 (.box τ1),oD 5 (.box τ2),oD 6 (.alloc [(.int .i64 0),(.int .i64 0)]),oD 7 (.mv (.const (.string ⟨⟨[]⟩⟩))),oD 8 (.mv (.const (.int .i64 0)))]) (.seq (.seq (.reg [oM 11 τ0,oD 12 (.lenS XcC),oD 13 (.bin .lss XdH (.const (.int .i64 8)))]) (.cond XdG (.seq (.reg [oD 14 (.build [(.int .i64 0),(.int .i64 0)] []),oN (.store 2 τ6 Xd9),oD 7 (.mv (.const (.string ⟨⟨[]⟩⟩))),oD 8 (.mv (.const (.int .i64 2)))]) .ret) .skip)) (.seq (.reg [oM 15 τ0,oD 16 (.callF 62 [XdR,(.const (.int .i64 4)),(.const (.int .i64 2))]),oM 9 Xed]) (.seq (.seq (.reg [oM 17 τ9,oD 18 (.bin .lss Xec (.const (.int .i64 8)))]) (.cond XeX (.seq (.reg [oD 19 (.build [(.int .i64 0),(.int .i64 0)] []),oN (.store 2 τ6 Xe3),oD 7 (.mv (.const (.string ⟨⟨[]⟩⟩))),oD 8 (.mv (.const (.int .i64 3)))]) .ret) .skip)) (.seq (.seq (.reg [oM 20 τ0,oD 21 (.lenS Xfw),oM 22 τ9,oD 23 (.bin .lss Xfm XfA)]) (.cond XfN (.seq (.reg [oD 24 (.build [(.int .i64 0),(.int .i64 0)] []),oN (.store 2 τ6 Xfl),oD 7 (.mv (.const (.string ⟨⟨[]⟩⟩))),oD 8 (.mv (.const (.int .i64 2)))]) .ret) .skip)) (.seq (.reg [oD 25 (.loadN [.bool,(.int .u64),(.int .u64)] τ4),oD 26 (.loadN [.bool,(.int .u64),(.int .u64)] τ5),oM 27 τ9,oD 28 (.callF 77 [Xgp,Xf2,(.const (.int .i64 17)),Xgd]),oM 10 Xgt]) (.seq (.seq (.reg [oM 29 Xdg,oD 30 (.bin .eql Xgs (.const (.string ⟨⟨[]⟩⟩)))]) (.cond XgH (.seq (.reg [oD 31 (.build [(.int .i64 0),(.int .i64 0)] []),oN (.store 2 τ6 XgA),oD 7 (.mv (.const (.string ⟨⟨[]⟩⟩))),oD 8 (.mv (.const (.int .i64 1)))]) .ret) .skip)) (.seq (.seq (.reg [oM 32 τ0,oD 33 (.callF 62 [Xgz,(.const (.int .i64 6)),(.const (.int .i64 2))]),oD 34 (.bin .eql Xhp (.const (.int .i64 0)))]) (.cond Xhq (.seq (.reg [oD 35 (.fieldA 0 τ4),oD 36 (.load1 .bool XhG)]) (.cond XhH (.seq (.reg [oD 37 (.build [(.int .i64 0),(.int .i64 0)] []),oN (.store 2 τ6 Xg0),oD 7 (.mv (.const (.string ⟨⟨[]⟩⟩))),oD 8 (.mv (.const (.int .i64 4)))]) .ret) .skip)) (.seq (.reg [oM 38 Xdg,oM 39 τ0,oM 40 τ9,oD 41 (.sliceS Xim none (some Xjb)),oD 42 (.bin .add Xiu XiD),oD 43 (.callF 60 [XiK]),oD 44 (.bin .neq XiV (.const (.int .i64 65535)))]) (.cond Xje (.seq (.reg [oD 45 (.build [(.int .i64 0),(.int .i64 0)] []),oN (.store 2 τ6 Xjf),oD 7 (.mv (.const (.string ⟨⟨[]⟩⟩))),oD 8 (.mv (.const (.int .i64 4)))]) .ret) .skip)))) (.seq XQY .ret))))))))
def fn84:VFn:=⟨54,XPc,[.cell 6 [(.int .i64),(.int .i64)] true,.tmp 7,.tmp 8]⟩
def XQK:VC:=.regD [oM 19 τ0,oD 20 (.idxS Xe3 (.const (.int .i64 0))),oD 21 (.bin .geq Xfw (.const (.int .u8 128))),oM 22 τ0,oD 23 (.idxS XfA (.const (.int .i64 0))),oD 24 (.bin .rem XfN (.const (.int .u8 64))),oD 25 (.conv .i64 Xfl),oD 26 (.build [(.bool false),(.int .i64 0),(.int .u32 0),(.string ⟨⟨[]⟩⟩),(.string ⟨⟨[]⟩⟩),(.string ⟨⟨[]⟩⟩)] [(0,1,Xfm),(1,1,Xgp)]),oD 4 (.alloc [(.bool false),(.int .i64 0),(.int .u32 0),(.string ⟨⟨[]⟩⟩),(.string ⟨⟨[]⟩⟩),(.string ⟨⟨[]⟩⟩)])] [] [oN (.store 6 τ4 Xf2)]
def XNh:VC:=.seq (.reg [oD 2 (.alloc [(.bool false),(.int .i64 0),(.int .u32 0),(.string ⟨⟨[]⟩⟩),(.string ⟨⟨[]⟩⟩),(.string ⟨⟨[]⟩⟩)]),oD 3 (.mv (.const (.int .i64 0)))]) (.seq (.seq (.reg [oM 10 τ0,oD 11 (.bin .eql Xdg (.const (.string ⟨⟨[]⟩⟩)))]) (.cond XcC (.seq (.reg [oD 12 (.build [(.bool false),(.int .i64 0),(.int .u32 0),(.string ⟨⟨[]⟩⟩),(.string ⟨⟨[]⟩⟩),(.string ⟨⟨[]⟩⟩)] []),oN (.store 6 τ2 XdH),oD 3 (.mv (.const (.int .i64 2)))]) .ret) .skip)) (.seq (.seq (.reg [oM 13 τ0,oD 14 (.idxS XdG (.const (.int .i64 0))),oD 15 (.bin .quo Xd9 (.const (.int .u8 64))),oD 16 (.bin .rem XdR (.const (.int .u8 2))),oD 17 (.bin .eql Xed (.const (.int .u8 0)))]) (.cond Xec (.seq (.reg [oD 18 (.build [(.bool false),(.int .i64 0),(.int .u32 0),(.string ⟨⟨[]⟩⟩),(.string ⟨⟨[]⟩⟩),(.string ⟨⟨[]⟩⟩)] []),oN (.store 6 τ2 XeX),oD 3 (.mv (.const (.int .i64 3)))]) .ret) .skip)) (.seq XQK (.seq (.seq (.reg [oD 27 (.fieldA 0 τ4),oD 28 (.load1 .bool Xgd),oD 29 (.not Xgt)]) (.cond Xgs (.seq (.seq (.reg [oM 30 τ0,oD 31 (.lenS XgH),oD 32 (.bin .lss XgA (.const (.int .i64 9)))]) (.cond Xgz (.seq (.reg [oD 33 (.build [(.bool false),(.int .i64 0),(.int .u32 0),(.string ⟨⟨[]⟩⟩),(.string ⟨⟨[]⟩⟩),(.string ⟨⟨[]⟩⟩)] []),oN (.store 6 τ2 Xhp),oD 3 (.mv (.const (.int .i64 2)))]) .ret) .skip)) (.seq (.reg [oM 34 τ0,oD 35 (.sliceS Xhq (some (.const (.int .i64 1))) (some (.const (.int .i64 9)))),oD 36 (.fieldA 3 τ4),oN (.store 1 XhH XhG)]) (.seq (.reg [oM 37 τ0,oD 38 (.sliceS Xg0 (some (.const (.int .i64 9))) none),oD 39 (.fieldA 5 τ4),oN (.store 1 Xim Xiu)]) (.seq (.reg [oD 40 (.loadN [.bool,(.int .i64),(.int .u32),.str,.str,.str] τ4),oN (.store 6 τ2 Xjb),oD 3 (.mv (.const (.int .i64 0)))]) .ret)))) .skip)) (.seq (.seq (.reg [oM 41 τ0,oD 42 (.lenS XiD),oD 43 (.bin .lss XiK (.const (.int .i64 5)))]) (.cond XiV (.seq (.reg [oD 44 (.build [(.bool false),(.int .i64 0),(.int .u32 0),(.string ⟨⟨[]⟩⟩),(.string ⟨⟨[]⟩⟩),(.string ⟨⟨[]⟩⟩)] []),oN (.store 6 τ2 Xje),oD 3 (.mv (.const (.int .i64 2)))]) .ret) .skip)) (.seq (.reg [oM 45 τ0,oD 46 (.callF 62 [Xjf,(.const (.int .i64 1)),(.const (.int .i64 4))]),oD 47 (.conv .u32 Xji),oD 48 (.fieldA 2 τ4),oN (.store 1 XjG Xjc)]) (.seq (.reg [oM 50 τ0,oD 51 (.callF 101 [XjO,(.const (.int .i64 5))]),oM 49 XjR,oE 52 0 Xjd,oE 53 1 Xjd,oE 54 2 Xjd,oM 5 Xj6,oM 6 Xkq,oM 7 Xlw]) (.seq (.seq (.reg [oM 55 τ6,oD 56 (.bin .neq Xls (.const (.int .i64 0)))]) (.cond Xlz (.seq (.reg [oD 57 (.build [(.bool false),(.int .i64 0),(.int .u32 0),(.string ⟨⟨[]⟩⟩),(.string ⟨⟨[]⟩⟩),(.string ⟨⟨[]⟩⟩)] []),oM 58 τ6,oN (.store 6 τ2 Xld),oM 3 XlC]) .ret) .skip)) (.seq (.reg [oM 60 τ0,oM 61 τ7,oD 62 (.callF 101 [Xnd,Xml]),oM 59 Xns,oE 63 0 XlO,oE 64 1 XlO,oE 65 2 XlO,oM 8 Xoa,oM 6 Xoy,oM 9 Xpi]) (.seq (.seq (.reg [oM 66 τ6,oD 67 (.bin .neq XpP (.const (.int .i64 0)))]) (.cond Xpa (.seq (.reg [oD 68 (.build [(.bool false),(.int .i64 0),(.int .u32 0),(.string ⟨⟨[]⟩⟩),(.string ⟨⟨[]⟩⟩),(.string ⟨⟨[]⟩⟩)] []),oM 69 τ6,oN (.store 6 τ2 Xo9),oM 3 XpO]) .ret) .skip)) (.seq (.reg [oM 70 τ5,oD 71 (.fieldA 3 τ4),oN (.store 1 XqJ Xqm)]) (.seq (.reg [oM 72 τ8,oD 73 (.fieldA 4 τ4),oN (.store 1 XqN Xqr)]) (.seq (.reg [oM 74 τ0,oM 75 τ9,oD 76 (.sliceS XsO (some Xsv) none),oD 77 (.fieldA 5 τ4),oN (.store 1 Xr3 Xtc)]) (.seq (.reg [oD 78 (.loadN [.bool,(.int .i64),(.int .u32),.str,.str,.str] τ4),oN (.store 6 τ2 Xta),oD 3 (.mv (.const (.int .i64 0)))]) .ret))))))))))))))
def fn75:VFn:=⟨79,XNh,[.cell 2 [.bool,(.int .i64),(.int .u32),.str,.str,.str] true,.tmp 3]⟩
def XIK:VC:=.seq (.reg [oD 4 (.mv (.const (.string ⟨⟨[]⟩⟩))),oD 5 (.mv (.const (.int .i64 0))),oD 6 (.mv (.const (.int .i64 0)))]) (.seq (.seq (.reg [oM 8 τ1,oM 9 τ0,oD 10 (.lenS τ9),oD 11 (.bin .geq τ8 Xdg)]) (.cond XcC (.seq (.reg [oD 4 (.mv (.const (.string ⟨⟨[]⟩⟩))),oD 5 (.mv (.const (.int .i64 2))),oD 6 (.mv (.const (.int .i64 0)))]) .ret) .skip)) (.seq (.reg [oM 12 τ0,oM 13 τ1,oD 14 (.idxS XdH XdG),oD 15 (.conv .i64 Xd9),oM 7 XdR]) (.seq (.seq (.reg [oM 16 τ7,oD 17 (.bin .gtr Xed (.const (.int .i64 20)))]) (.cond Xec (.seq (.reg [oD 4 (.mv (.const (.string ⟨⟨[]⟩⟩))),oD 5 (.mv (.const (.int .i64 3))),oD 6 (.mv (.const (.int .i64 0)))]) .ret) .skip)) (.seq (.seq (.reg [oM 18 τ7,oM 19 τ0,oD 20 (.lenS Xe3),oM 21 τ1,oD 22 (.bin .sub Xfw Xfm),oD 23 (.bin .sub XfA (.const (.int .i64 1))),oD 24 (.bin .gtr XeX XfN)]) (.cond Xfl (.seq (.reg [oD 4 (.mv (.const (.string ⟨⟨[]⟩⟩))),oD 5 (.mv (.const (.int .i64 2))),oD 6 (.mv (.const (.int .i64 0)))]) .ret) .skip)) (.seq (.reg [oM 25 τ0,oM 26 τ1,oD 27 (.bin .add Xf2 (.const (.int .i64 1))),oM 28 τ1,oD 29 (.bin .add Xgt (.const (.int .i64 1))),oM 30 τ7,oD 31 (.bin .add Xgs XgH),oD 32 (.sliceS Xgp (some Xgd) (some XgA)),oM 33 τ1,oD 34 (.bin .add Xhp (.const (.int .i64 1))),oM 35 τ7,oD 36 (.bin .add Xhq XhG),oM 4 Xgz,oD 5 (.mv (.const (.int .i64 0))),oM 6 XhH]) .ret)))))
def XPU:VFn:=⟨37,XIK,[.tmp 4,.tmp 5,.tmp 6]⟩
def k34_5:VC:=.regD [oM 15 τ0,oD 16 (.nilCheck XdR),oD 17 (.fieldA 2 Xed),oD 18 (.load1 .oth Xec),oM 19 τ5,oD 20 (.idxAL 9 XeX Xe3),oD 21 (.loadN [(.int .i64),.bool,(.int .u64),(.int .u64),.bool,(.int .u64),(.int .u64),(.int .i64),(.int .i64)] Xfw),oD 22 (.loadN [(.int .i64),.bool,(.int .u64),(.int .u64),.bool,(.int .u64),(.int .u64),(.int .i64),(.int .i64)] τ3)] [] [oD 23 (.eqAgg false [(0,(.int .i64)),(1,.bool),(2,(.int .u64)),(3,(.int .u64)),(4,.bool),(5,(.int .u64)),(6,(.int .u64)),(7,(.int .i64)),(8,(.int .i64))] Xfm XfA)]
def XOv:VC:=.seq (.reg [oD 3 (.box τ1),oD 4 (.mv (.const (.int .i64 0)))]) (.seq (.seq (.reg [oD 5 (.mv (.const (.int .i64 0)))]) (.block 0 (.loop (.seq (.seq (.reg [oM 6 τ5,oM 7 τ0,oD 8 (.nilCheck τ7),oD 9 (.fieldA 2 τ8),oD 10 (.load1 .oth τ9),oD 11 (.lenL Xdg),oD 12 (.bin .lss τ6 XcC)]) (.cond XdH .skip (.exit 0))) (.seq (.block 1 (.seq k34_5 (.cond XfN (.seq (.reg [oM 24 τ5,oM 4 Xfl]) .ret) .skip))) (.reg [oM 13 τ5,oD 14 (.bin .add XdG (.const (.int .i64 1))),oM 5 Xd9])))))) (.seq (.reg [oD 4 (.mv (.const (.int .i64 (-1))))]) .ret))
def fn34:VFn:=⟨25,XOv,[.tmp 4]⟩
def k15_8:VC:=.regD [oM 18 τ0,oD 19 (.nilCheck XeX),oD 20 (.fieldA 2 Xe3),oD 21 (.load1 .oth Xfw),oM 22 τ8,oD 23 (.idxAL 9 Xfm XfA),oD 24 (.loadN [(.int .i64),.bool,(.int .u64),(.int .u64),.bool,(.int .u64),(.int .u64),(.int .i64),(.int .i64)] XfN),oD 25 (.loadN [(.int .i64),.bool,(.int .u64),(.int .u64),.bool,(.int .u64),(.int .u64),(.int .i64),(.int .i64)] τ3)] [] [oD 26 (.eqAgg false [(0,(.int .i64)),(1,.bool),(2,(.int .u64)),(3,(.int .u64)),(4,.bool),(5,(.int .u64)),(6,(.int .u64)),(7,(.int .i64)),(8,(.int .i64))] Xfl Xgp)]
def XSp:VC:=.seq (.reg [oD 3 (.box τ1),oD 4 (.mv (.const (.bool false)))]) (.seq (.reg [oD 5 (.mv (.const (.slice none 0 0)))]) (.seq (.reg [oD 6 (.mv (.const (.slice none 0 0)))]) (.seq (.reg [oD 7 (.mv (.const (.bool false)))]) (.seq (.seq (.reg [oD 8 (.mv (.const (.int .i64 0)))]) (.block 0 (.loop (.seq (.seq (.reg [oM 9 τ8,oM 10 τ0,oD 11 (.nilCheck Xdg),oD 12 (.fieldA 2 XcC),oD 13 (.load1 .oth XdH),oD 14 (.lenL XdG),oD 15 (.bin .lss τ9 Xd9)]) (.cond XdR .skip (.exit 0))) (.seq (.block 1 (.seq k15_8 (.cond Xf2 (.reg [oD 7 (.mv (.const (.bool true)))]) (.seq (.reg [oM 27 τ5,oM 28 τ0,oD 29 (.nilCheck Xgt),oD 30 (.fieldA 2 Xgs),oD 31 (.load1 .oth XgH),oM 32 τ8,oD 33 (.idxAL 9 XgA Xgz),oD 34 (.loadN [(.int .i64),.bool,(.int .u64),(.int .u64),.bool,(.int .u64),(.int .u64),(.int .i64),(.int .i64)] Xhp),oD 35 (.buildSl 1 9 [(.int .i64 0),(.bool false),(.int .u64 0),(.int .u64 0),(.bool false),(.int .u64 0),(.int .u64 0),(.int .i64 0),(.int .i64 0)] [(0,9,Xhq)]),oD 36 (.app 33 9 72 Xgd XhG),oM 5 XhH]) (.reg [oM 37 τ6,oM 38 τ0,oD 39 (.nilCheck Xiu),oD 40 (.fieldA 3 Xim),oD 41 (.load1 .oth Xjb),oM 42 τ8,oD 43 (.idxAL 1 XiD XiK),oD 44 (.load1 (.int .u64) XiV),oD 45 (.buildSl 1 1 [(.int .u64 0)] [(0,1,Xje)]),oD 46 (.app 29 1 8 Xg0 Xjf),oM 6 Xji]))))) (.reg [oM 16 τ8,oD 17 (.bin .add Xed (.const (.int .i64 1))),oM 8 Xec])))))) (.seq (.reg [oM 47 τ0,oM 48 τ5,oD 49 (.nilCheck Xjc),oD 50 (.fieldA 2 Xjd),oN (.store 1 XjO XjG)]) (.seq (.reg [oM 51 τ0,oM 52 τ6,oD 53 (.nilCheck XjR),oD 54 (.fieldA 3 Xkq),oN (.store 1 Xlw Xj6)]) (.seq (.reg [oM 55 τ7,oM 4 Xls]) .ret)))))))
def fn15:VFn:=⟨56,XSp,[.tmp 4]⟩
def XQH:VC:=.seq (.reg [oD 4 (.mv (.const (.string ⟨⟨[]⟩⟩))),oD 5 (.mv (.const (.int .i64 0)))]) (.seq (.reg [oM 9 τ0,oD 10 (.callF 25 [τ9]),oM 8 Xdg,oE 11 0 τ8,oE 12 1 τ8,oD 6 (.alloc [(.int .i64 0),(.bool false),(.int .u64 0),(.int .u64 0),(.bool false),(.int .u64 0),(.int .u64 0),(.int .i64 0),(.int .i64 0),(.int .i64 0),(.bool false),(.int .u32 0),(.int .u32 0),(.bool false),(.string ⟨⟨[]⟩⟩),(.int .i64 0)]),oN (.store 16 τ6 XcC),oM 7 XdH]) (.seq (.seq (.reg [oM 13 τ7,oD 14 (.bin .neq XdG (.const (.int .i64 0)))]) (.cond Xd9 (.seq (.reg [oM 15 τ7,oD 4 (.mv (.const (.string ⟨⟨[]⟩⟩))),oM 5 XdR]) .ret) .skip)) (.seq (.seq (.reg [oD 16 (.fieldA 0 τ6),oD 17 (.fieldA 0 Xed),oD 18 (.load1 (.int .i64) Xec),oD 19 (.bin .neq XeX (.const (.int .i64 6))),oM 20 Xe3,oG 21 (.fieldA 10 τ6) 20 false,oG 22 (.load1 .bool Xfm) 20 false,oG 23 (.not XfA) 20 false,oD 24 (.pick Xfw (.const (.bool true)) XfN)]) (.cond Xfl (.seq (.reg [oD 4 (.mv (.const (.string ⟨⟨[]⟩⟩))),oD 5 (.mv (.const (.int .i64 6)))]) .ret) .skip)) (.seq (.reg [oM 25 τ0,oM 26 τ1,oD 27 (.fieldA 12 τ6),oD 28 (.load1 (.int .u32) Xgd),oD 29 (.bin .rem Xgt (.const (.int .u32 65536))),oD 30 (.conv .u16 Xgs),oD 31 (.callF 64 [Xf2,XgH]),oD 32 (.callF 63 [Xgp,(.const (.int .i64 4)),XgA]),oM 4 Xgz,oD 5 (.mv (.const (.int .i64 0)))]) .ret))))
def fn35:VFn:=⟨33,XQH,[.tmp 4,.tmp 5]⟩
def XQA:VC:=.seq (.reg [oD 4 (.mv (.const (.int .u32 0)))]) (.seq (.reg [oM 6 τ0,oM 7 τ0,oD 8 (.bin .rem τ7 (.const (.int .u32 65536))),oD 9 (.bin .sub τ6 τ8),oM 10 τ1,oD 11 (.conv .u32 Xdg),oD 12 (.bin .add τ9 XcC),oM 5 XdH]) (.seq (.seq (.reg [oM 13 τ0,oM 14 τ5,oD 15 (.callF 94 [XdG,Xd9]),oD 16 (.bin .lss XdR (.const (.int .i64 65536)))]) (.cond Xed (.seq (.reg [oM 17 τ5,oM 4 Xec]) .ret) .skip)) (.seq (.reg [oM 18 τ5,oD 19 (.bin .sub XeX (.const (.int .u32 65536))),oM 4 Xe3]) .ret)))
def fn64:VFn:=⟨20,XQA,[.tmp 4]⟩
def k94_3:VC:=.seq (.reg [oD 4 (.mv (.const (.int .i64 0)))]) (.seq (.reg [oM 5 τ1,oM 6 τ0,oD 7 (.callF 121 [τ5,τ6]),oM 4 τ7]) .ret)
def fn94:VFn:=⟨8,k94_3,[.tmp 4]⟩
def XPo:VC:=.seq (.reg [oD 4 (.mv (.const (.int .i64 0)))]) (.seq (.seq (.reg [oM 5 τ1,oM 6 τ0,oD 7 (.bin .geq τ5 τ6)]) (.cond τ7 (.seq (.reg [oM 8 τ1,oD 9 (.conv .i64 τ8),oM 10 τ0,oD 11 (.conv .i64 Xdg),oD 12 (.bin .sub τ9 XcC),oM 4 XdH]) .ret) .skip)) (.seq (.reg [oM 13 τ1,oD 14 (.conv .i64 XdG),oD 15 (.bin .add Xd9 (.const (.int .i64 4294967296))),oM 16 τ0,oD 17 (.conv .i64 Xed),oD 18 (.bin .sub XdR Xec),oM 4 XeX]) .ret))
def XSB:VFn:=⟨19,XPo,[.tmp 4]⟩
def k63_3:VC:=.regD [oM 32 τ0,oM 33 τ7,oD 34 (.sliceS Xgz (some Xhp) none),oM 35 XdH,oD 36 (.bin .add (.const (.int .i64 20)) XhG),oM 37 τ1,oD 38 (.bin .add XhH Xg0),oM 39 τ2,oD 40 (.conv .u64 Xim),oD 41 (.callF 46 [Xjb,(.const (.int .i64 4))]),oD 42 (.callF 76 [Xhq,Xiu,XiD,(.const (.int .i64 16))]),oM 31 XiK,oE 43 0 XgA,oE 44 1 XgA,oM 13 XiV] [] [oM 14 Xje]
def k63_9:VC:=.seq (.reg [oD 6 (.mv (.const (.string ⟨⟨[]⟩⟩)))]) (.seq (.reg [oM 16 τ0,oD 17 (.callF 74 [Xed]),oM 15 Xec,oE 18 0 XdR,oE 19 1 XdR,oE 20 2 XdR,oM 7 XeX,oM 8 Xe3,oM 9 Xfw]) (.seq (.reg [oM 22 τ0,oM 23 τ7,oD 24 (.bin .add XfN (.const (.int .i64 20))),oM 25 τ8,oD 26 (.sliceS XfA (some Xfl) (some Xgp)),oD 27 (.callF 83 [Xf2]),oM 21 Xgd,oE 28 0 Xfm,oE 29 1 Xfm,oE 30 2 Xfm,oM 10 Xgt,oM 11 Xgs,oM 12 XgH]) (.seq k63_3 (.seq (.reg [oM 45 τ0,oM 46 τ7,oD 47 (.sliceS Xjf none (some Xji)),oM 48 XdG,oD 49 (.bin .add Xjc XjG),oM 6 Xjd]) .ret))))
def fn63:VFn:=⟨50,k63_9,[.tmp 6]⟩
def k74_5:VC:=.seq (.reg [oD 2 (.mv (.const (.int .i64 0))),oD 3 (.mv (.const (.int .i64 0))),oD 4 (.mv (.const (.int .i64 0)))]) (.seq (.reg [oM 10 τ0,oD 11 (.callF 49 [Xdg]),oM 9 XcC,oE 12 0 τ9,oE 13 1 τ9,oE 14 2 τ9,oE 15 3 τ9,oD 5 (.alloc [(.int .i64 0),(.bool false),(.int .u64 0),(.int .u64 0),(.bool false),(.int .u64 0),(.int .u64 0),(.int .i64 0),(.int .i64 0),(.int .i64 0),(.bool false),(.int .u32 0),(.int .u32 0),(.bool false),(.string ⟨⟨[]⟩⟩),(.int .i64 0)]),oN (.store 16 τ5 XdH),oM 6 XdG,oM 7 Xd9,oM 8 XdR]) (.seq (.reg [oM 16 τ6,oM 17 τ7,oM 18 τ8,oM 2 Xed,oM 3 Xec,oM 4 XeX]) .ret))
def fn74:VFn:=⟨19,k74_5,[.tmp 2,.tmp 3,.tmp 4]⟩
def XPs:VC:=.regD [oM 63 τ0,oM 64 τ1,oD 65 (.sliceS Xoa none (some Xoy)),oM 66 τ2,oD 67 (.bin .add Xpi XpP),oM 68 τ0,oM 69 τ1,oM 70 τ2,oD 71 (.lenS Xqm),oD 72 (.bin .add XpO XqJ),oD 73 (.sliceS Xo9 (some Xqr) none)] [] [oD 74 (.bin .add Xpa XqN),oM 10 XsO]
def XNi:VC:=.seq (.reg [oD 8 (.mv (.const (.string ⟨⟨[]⟩⟩))),oD 9 (.mv (.const (.bool false)))]) (.seq (.seq (.reg [oM 13 τ1,oD 14 (.bin .lss XdG (.const (.int .i64 0))),oM 15 Xd9,oG 16 (.mv τ1) 15 false,oG 17 (.mv τ0) 15 false,oG 18 (.lenS Xec) 15 false,oG 19 (.bin .gtr Xed XeX) 15 false,oD 20 (.pick XdR (.const (.bool true)) Xe3),oM 21 Xfw,oG 22 (.mv τ2) 21 false,oG 23 (.lenS XfA) 21 false,oG 24 (.mv τ0) 21 false,oG 25 (.lenS Xfl) 21 false,oG 26 (.mv τ1) 21 false,oG 27 (.bin .sub Xgp Xf2) 21 false,oG 28 (.bin .gtr XfN Xgd) 21 false,oD 29 (.pick Xfm (.const (.bool true)) Xgt),oM 30 Xgs,oG 31 (.mv τ3) 30 false,oG 32 (.bin .lss XgA (.const (.int .i64 0))) 30 false,oD 33 (.pick XgH (.const (.bool true)) Xgz),oM 34 Xhp,oG 35 (.mv τ3) 34 false,oG 36 (.bin .rem XhG (.const (.int .i64 2))) 34 false,oG 37 (.bin .eql XhH (.const (.int .i64 1))) 34 false,oD 38 (.pick Xhq (.const (.bool true)) Xg0),oM 39 Xiu,oG 40 (.mv τ3) 39 false,oG 41 (.mv τ0) 39 false,oG 42 (.lenS XiD) 39 false,oG 43 (.bin .sub XiK (.const (.int .i64 2))) 39 false,oG 44 (.bin .gtr Xjb XiV) 39 false,oD 45 (.pick Xim (.const (.bool true)) Xje)]) (.cond Xjf (.seq (.reg [oD 8 (.mv (.const (.string ⟨⟨[]⟩⟩))),oD 9 (.mv (.const (.bool false)))]) .ret) .skip)) (.seq (.seq (.reg [oM 46 τ2,oD 47 (.lenS Xji),oD 48 (.bin .gtr Xjc (.const (.int .i64 0))),oM 49 XjG,oG 50 (.mv τ1) 49 true,oG 51 (.mv τ3) 49 true,oG 52 (.bin .add XjR (.const (.int .i64 2))) 49 true,oG 53 (.bin .lss XjO Xj6) 49 true,oD 54 (.pick Xjd Xkq (.const (.bool false))),oM 55 Xlw,oG 56 (.mv τ3) 55 true,oG 57 (.mv τ1) 55 true,oG 58 (.mv τ2) 55 true,oG 59 (.lenS XlC) 55 true,oG 60 (.bin .add Xld XlO) 55 true,oG 61 (.bin .lss Xlz Xnd) 55 true,oD 62 (.pick Xls Xml (.const (.bool false)))]) (.cond Xns (.seq (.reg [oD 8 (.mv (.const (.string ⟨⟨[]⟩⟩))),oD 9 (.mv (.const (.bool false)))]) .ret) .skip)) (.seq XPs (.seq (.reg [oM 75 τ0,oM 76 τ3,oD 77 (.callF 62 [Xsv,Xtc,(.const (.int .i64 2))]),oM 11 Xr3]) (.seq (.seq (.reg [oM 78 τ1,oD 79 (.bin .quo Xta (.const (.int .i64 2))),oD 80 (.bin .mul Xtj (.const (.int .i64 2))),oM 12 Xtp]) (.block 0 (.loop (.seq (.seq (.reg [oM 81 τ2,oD 82 (.lenS Xwz),oD 83 (.bin .gtr Xv4 (.const (.int .i64 0))),oM 84 XtY,oG 85 (.mv XdH) 84 true,oG 86 (.mv τ1) 84 true,oG 87 (.mv τ2) 84 true,oG 88 (.lenS XAQ) 84 true,oG 89 (.bin .add XA9 XAR) 84 true,oG 90 (.bin .lss XBf XA7) 84 true,oD 91 (.pick XyI XAT (.const (.bool false)))]) (.cond Xxl .skip (.exit 0))) (.seq (.block 1 (.reg [oM 94 XcC,oM 95 τ0,oD 96 (.callF 103 [XAV]),oM 97 XdH,oD 98 (.callF 62 [Xw9,XCJ,(.const (.int .i64 2))]),oM 99 Xdg,oD 100 (.callF 103 [XNc]),oM 101 XdH,oD 102 (.callF 62 [XtV,XvT,(.const (.int .i64 2))]),oD 103 (.callF 102 [XAy,XGB,XzR]),oM 11 XxK])) (.reg [oM 92 XdH,oD 93 (.bin .add XA0 (.const (.int .i64 2))),oM 12 XAU])))))) (.seq (.reg [oM 104 Xdg,oM 105 τ3,oM 106 XcC,oD 107 (.conv .u64 Xxn),oD 108 (.callF 47 [XyE,Xyn,(.const (.int .i64 2)),XAO]),oM 8 Xxh,oD 9 (.mv (.const (.bool true)))]) .ret))))))
def fn76:VFn:=⟨109,XNi,[.tmp 8,.tmp 9]⟩
def XOk:VC:=.seq (.reg [oD 2 (.mv (.const (.string ⟨⟨[]⟩⟩)))]) (.seq (.seq (.reg [oM 3 τ0,oD 4 (.lenS τ3),oD 5 (.bin .rem τ4 (.const (.int .i64 2))),oD 6 (.bin .eql τ5 (.const (.int .i64 1)))]) (.cond τ6 (.seq (.reg [oM 7 τ0,oD 8 (.bin .add τ7 (.const (.string ⟨⟨[0]⟩⟩))),oM 2 τ8]) .ret) .skip)) (.seq (.reg [oM 9 τ0,oM 2 τ9]) .ret))
def XTH:VFn:=⟨10,XOk,[.tmp 2]⟩
def XP5:VC:=.seq (.reg [oD 6 (.mv (.const (.int .i64 0)))]) (.seq (.seq (.reg [oM 7 τ0,oD 8 (.callF 123 [τ7]),oD 9 (.not τ8),oM 10 τ9,oG 11 (.mv τ1) 10 false,oG 12 (.callF 123 [XcC]) 10 false,oG 13 (.not XdH) 10 false,oD 14 (.pick Xdg (.const (.bool true)) XdG),oM 15 Xd9,oG 16 (.mv τ2) 15 false,oG 17 (.callF 123 [Xed]) 15 false,oG 18 (.not Xec) 15 false,oD 19 (.pick XdR (.const (.bool true)) XeX)]) (.cond Xe3 (.seq (.reg [oD 6 (.mv (.const (.int .i64 0)))]) .ret) .skip)) (.seq (.reg [oM 20 τ0,oD 21 (.bin .sub (.const (.int .i64 65535)) Xfw),oM 22 τ1,oD 23 (.bin .sub (.const (.int .i64 65535)) XfA),oM 24 τ2,oD 25 (.buildSl 3 1 [(.int .i64 0),(.int .i64 0),(.int .i64 0)] [(0,1,Xfm),(1,1,XfN),(2,1,Xfl)]),oD 26 (.callF 92 [Xgp]),oD 27 (.bin .sub (.const (.int .i64 65535)) Xf2),oM 6 Xgd]) .ret))
def XUb:VFn:=⟨28,XP5,[.tmp 6]⟩
def XTv:VC:=.seq (.reg [oD 2 (.mv (.const (.bool false)))]) (.seq (.reg [oM 3 τ0,oD 4 (.bin .geq τ3 (.const (.int .i64 0))),oM 5 τ4,oG 6 (.mv τ0) 5 true,oG 7 (.bin .leq τ6 (.const (.int .i64 65535))) 5 true,oD 8 (.pick τ5 τ7 (.const (.bool false))),oM 2 τ8]) .ret)
def XS1:VFn:=⟨9,XTv,[.tmp 2]⟩
def k47_7:VC:=.regD [oM 21 τ0,oM 22 τ1,oD 23 (.sliceS Xfm none (some XfA)),oM 24 τ3,oM 25 τ2,oD 26 (.callF 46 [Xfl,Xgp]),oD 27 (.bin .add XfN Xf2),oM 28 τ0,oM 29 τ1,oM 30 τ2,oD 31 (.bin .add Xgs XgH),oD 32 (.sliceS Xgt (some XgA) none)] [] [oD 33 (.bin .add Xgd Xgz),oM 8 Xhp]
def XHr:VC:=.seq (.reg [oD 8 (.mv (.const (.string ⟨⟨[]⟩⟩)))]) (.seq (.reg [oM 12 τ0,oM 13 τ1,oM 14 τ2,oD 15 (.callF 61 [XdH,XdG,Xd9]),oM 11 XdR,oE 16 0 XcC,oE 17 1 XcC,oM 9 Xed,oM 10 Xec]) (.seq (.seq (.reg [oM 18 Xdg,oD 19 (.not XeX)]) (.cond Xe3 (.seq (.reg [oM 20 τ0,oM 8 Xfw]) .ret) .skip)) (.seq k47_7 .ret)))
def fn47:VFn:=⟨34,XHr,[.tmp 8]⟩
def XTG:VC:=.seq (.reg [oD 4 (.mv (.const (.string ⟨⟨[]⟩⟩))),oD 5 (.mv (.const (.int .i64 0)))]) (.seq (.reg [oM 12 τ1,oD 13 (.callF 25 [XdH]),oM 11 XdG,oE 14 0 XcC,oE 15 1 XcC,oD 6 (.alloc [(.int .i64 0),(.bool false),(.int .u64 0),(.int .u64 0),(.bool false),(.int .u64 0),(.int .u64 0),(.int .i64 0),(.int .i64 0),(.int .i64 0),(.bool false),(.int .u32 0),(.int .u32 0),(.bool false),(.string ⟨⟨[]⟩⟩),(.int .i64 0)]),oN (.store 16 τ6 Xd9),oM 7 XdR]) (.seq (.seq (.reg [oM 16 τ7,oD 17 (.bin .neq Xed (.const (.int .i64 0)))]) (.cond Xec (.seq (.reg [oM 18 τ7,oD 4 (.mv (.const (.string ⟨⟨[]⟩⟩))),oM 5 XeX]) .ret) .skip)) (.seq (.reg [oM 20 τ0,oD 21 (.fieldA 0 τ6),oD 22 (.loadN [(.int .i64),.bool,(.int .u64),(.int .u64),.bool,(.int .u64),(.int .u64),(.int .i64),(.int .i64)] Xfm),oD 23 (.callF 24 [XfA]),oD 24 (.callF 18 [Xfw,XfN]),oM 19 Xfl,oE 25 0 Xe3,oE 26 1 Xe3,oM 8 Xgp,oM 9 Xf2]) (.seq (.seq (.reg [oM 27 τ9,oD 28 (.not Xgd)]) (.cond Xgt (.seq (.reg [oD 4 (.mv (.const (.string ⟨⟨[]⟩⟩))),oD 5 (.mv (.const (.int .i64 13)))]) .ret) .skip)) (.seq (.seq (.reg [oD 29 (.fieldA 0 τ6),oD 30 (.fieldA 0 Xgs),oD 31 (.load1 (.int .i64) XgH),oD 32 (.bin .eql XgA (.const (.int .i64 6))),oM 33 Xgz,oG 34 (.fieldA 10 τ6) 33 true,oG 35 (.load1 .bool Xhq) 33 true,oD 36 (.pick Xhp XhG (.const (.bool false)))]) (.cond XhH (.seq (.reg [oM 37 τ1,oM 38 τ8,oD 39 (.bin .rem Xiu (.const (.int .u64 65536))),oD 40 (.conv .u16 Xim),oD 41 (.callF 39 [Xg0,Xjb]),oE 42 0 XiD,oE 43 1 XiD,oM 4 XiK,oM 5 XiV]) .ret) .skip)) (.seq (.reg [oM 45 τ1,oM 46 τ8,oD 47 (.callF 40 [Xjf,Xji]),oM 44 Xjc,oE 48 0 Xje,oE 49 1 Xje,oM 10 XjG,oM 7 Xjd]) (.seq (.seq (.reg [oM 50 τ7,oD 51 (.bin .neq XjO (.const (.int .i64 0)))]) (.cond XjR (.seq (.reg [oM 52 τ1,oM 4 Xj6,oD 5 (.mv (.const (.int .i64 0)))]) .ret) .skip)) (.seq (.reg [oM 53 Xdg,oM 4 Xkq,oD 5 (.mv (.const (.int .i64 0)))]) .ret))))))))
def fn13:VFn:=⟨54,XTG,[.tmp 4,.tmp 5]⟩
def k24_3:VC:=.seq (.reg [oD 1 (.box τ0),oD 2 (.alloc [(.int .i64 0),(.bool false),(.int .u64 0),(.int .u64 0),(.bool false),(.int .u64 0),(.int .u64 0),(.int .i64 0),(.int .i64 0)])]) (.seq (.reg [oD 3 (.fieldA 0 τ1),oD 4 (.load1 (.int .i64) τ3),oD 5 (.fieldA 4 τ1),oD 6 (.loadN [.bool,(.int .u64),(.int .u64)] τ5),oD 7 (.fieldA 1 τ1),oD 8 (.loadN [.bool,(.int .u64),(.int .u64)] τ7),oD 9 (.fieldA 8 τ1),oD 10 (.load1 (.int .i64) τ9),oD 11 (.fieldA 7 τ1),oD 12 (.load1 (.int .i64) XcC),oD 13 (.build [(.int .i64 0),(.bool false),(.int .u64 0),(.int .u64 0),(.bool false),(.int .u64 0),(.int .u64 0),(.int .i64 0),(.int .i64 0)] [(0,1,τ4),(1,3,τ6),(4,3,τ8),(7,1,Xdg),(8,1,XdH)]),oN (.store 9 τ2 XdG)]) .ret)
def fn24:VFn:=⟨14,k24_3,[.cell 2 [(.int .i64),.bool,(.int .u64),(.int .u64),.bool,(.int .u64),(.int .u64),(.int .i64),(.int .i64)] true]⟩
def XPu:VC:=.seq (.reg [oD 3 (.box τ1),oD 4 (.mv (.const (.int .u64 0))),oD 5 (.mv (.const (.bool false)))]) (.seq (.reg [oM 7 τ0,oD 8 (.loadN [(.int .i64),.bool,(.int .u64),(.int .u64),.bool,(.int .u64),(.int .u64),(.int .i64),(.int .i64)] τ3),oD 9 (.callF 34 [τ7,τ8]),oM 6 τ9]) (.seq (.seq (.reg [oM 10 τ6,oD 11 (.bin .lss Xdg (.const (.int .i64 0)))]) (.cond XcC (.seq (.reg [oD 4 (.mv (.const (.int .u64 0))),oD 5 (.mv (.const (.bool false)))]) .ret) .skip)) (.seq (.reg [oM 12 τ0,oD 13 (.nilCheck XdH),oD 14 (.fieldA 3 XdG),oD 15 (.load1 .oth Xd9),oM 16 τ6,oD 17 (.idxAL 1 XdR Xed),oD 18 (.load1 (.int .u64) Xec),oM 4 XeX,oD 5 (.mv (.const (.bool true)))]) .ret)))
def fn18:VFn:=⟨19,XPu,[.tmp 4,.tmp 5]⟩
def XPK:VC:=.seq (.reg [oD 4 (.mv (.const (.string ⟨⟨[]⟩⟩))),oD 5 (.mv (.const (.int .i64 0)))]) (.seq (.reg [oM 9 τ0,oD 10 (.callF 25 [τ9]),oM 8 Xdg,oE 11 0 τ8,oE 12 1 τ8,oD 6 (.alloc [(.int .i64 0),(.bool false),(.int .u64 0),(.int .u64 0),(.bool false),(.int .u64 0),(.int .u64 0),(.int .i64 0),(.int .i64 0),(.int .i64 0),(.bool false),(.int .u32 0),(.int .u32 0),(.bool false),(.string ⟨⟨[]⟩⟩),(.int .i64 0)]),oN (.store 16 τ6 XcC),oM 7 XdH]) (.seq (.seq (.reg [oM 13 τ7,oD 14 (.bin .neq XdG (.const (.int .i64 0)))]) (.cond Xd9 (.seq (.reg [oM 15 τ7,oD 4 (.mv (.const (.string ⟨⟨[]⟩⟩))),oM 5 XdR]) .ret) .skip)) (.seq (.seq (.reg [oD 16 (.fieldA 0 τ6),oD 17 (.fieldA 0 Xed),oD 18 (.load1 (.int .i64) Xec),oD 19 (.bin .neq XeX (.const (.int .i64 6))),oM 20 Xe3,oG 21 (.fieldA 10 τ6) 20 false,oG 22 (.load1 .bool Xfm) 20 false,oG 23 (.not XfA) 20 false,oD 24 (.pick Xfw (.const (.bool true)) XfN)]) (.cond Xfl (.seq (.reg [oD 4 (.mv (.const (.string ⟨⟨[]⟩⟩))),oD 5 (.mv (.const (.int .i64 6)))]) .ret) .skip)) (.seq (.reg [oM 25 τ0,oD 26 (.fieldA 11 τ6),oD 27 (.load1 (.int .u32) Xf2),oM 28 τ1,oD 29 (.callF 73 [Xgd,Xgt]),oD 30 (.callF 63 [Xgp,(.const (.int .i64 0)),Xgs]),oM 4 XgH,oD 5 (.mv (.const (.int .i64 0)))]) .ret))))
def fn39:VFn:=⟨31,XPK,[.tmp 4,.tmp 5]⟩
def k73_3:VC:=.seq (.reg [oD 4 (.mv (.const (.int .u32 0)))]) (.seq (.reg [oM 5 τ1,oD 6 (.conv .u32 τ5),oD 7 (.bin .mul τ6 (.const (.int .u32 65536))),oM 8 τ0,oD 9 (.bin .rem τ8 (.const (.int .u32 65536))),oD 10 (.bin .add τ7 τ9),oM 4 Xdg]) .ret)
def fn73:VFn:=⟨11,k73_3,[.tmp 4]⟩
def XOg:VC:=.regD [oM 62 τ0,oM 63 τ8,oD 64 (.sliceS Xns (some Xoa) none),oM 65 XdH,oM 66 τ1,oD 67 (.callF 46 [XpP,(.const (.int .i64 8))]),oD 68 (.callF 76 [Xoy,Xpi,Xpa,(.const (.int .i64 6))]),oM 61 Xo9,oE 69 0 Xml,oE 70 1 Xml,oM 14 XpO] [] [oM 15 Xqm]
def XS6:VC:=.seq (.reg [oD 4 (.mv (.const (.string ⟨⟨[]⟩⟩))),oD 5 (.mv (.const (.int .i64 0)))]) (.seq (.reg [oM 17 τ0,oD 18 (.callF 25 [Xec]),oM 16 XeX,oE 19 0 Xed,oE 20 1 Xed,oD 6 (.alloc [(.int .i64 0),(.bool false),(.int .u64 0),(.int .u64 0),(.bool false),(.int .u64 0),(.int .u64 0),(.int .i64 0),(.int .i64 0),(.int .i64 0),(.bool false),(.int .u32 0),(.int .u32 0),(.bool false),(.string ⟨⟨[]⟩⟩),(.int .i64 0)]),oN (.store 16 τ6 Xe3),oM 7 Xfw]) (.seq (.seq (.reg [oM 21 τ7,oD 22 (.bin .neq Xfm (.const (.int .i64 0)))]) (.cond XfA (.seq (.reg [oM 23 τ7,oD 4 (.mv (.const (.string ⟨⟨[]⟩⟩))),oM 5 XfN]) .ret) .skip)) (.seq (.reg [oM 25 τ0,oD 26 (.callF 74 [Xgp]),oM 24 Xf2,oE 27 0 Xfl,oE 28 1 Xfl,oE 29 2 Xfl,oM 8 Xgd,oM 9 Xgt,oM 10 Xgs]) (.seq (.seq (.reg [oD 30 (.fieldA 0 τ6),oD 31 (.fieldA 0 XgH),oD 32 (.load1 (.int .i64) XgA),oD 33 (.bin .neq Xgz (.const (.int .i64 17)))]) (.cond Xhp (.seq (.reg [oD 4 (.mv (.const (.string ⟨⟨[]⟩⟩))),oD 5 (.mv (.const (.int .i64 6)))]) .ret) .skip)) (.seq (.reg [oM 35 τ0,oM 36 τ9,oD 37 (.sliceS XhG (some XhH) none),oD 38 (.callF 75 [Xg0]),oM 34 Xiu,oE 39 0 Xhq,oE 40 1 Xhq,oD 11 (.alloc [(.bool false),(.int .i64 0),(.int .u32 0),(.string ⟨⟨[]⟩⟩),(.string ⟨⟨[]⟩⟩),(.string ⟨⟨[]⟩⟩)]),oN (.store 6 XcC Xim),oM 7 Xjb]) (.seq (.seq (.reg [oM 41 τ7,oD 42 (.bin .neq XiD (.const (.int .i64 0))),oM 43 XiK,oG 44 (.fieldA 0 XcC) 43 false,oG 45 (.load1 .bool Xje) 43 false,oG 46 (.not Xjf) 43 false,oD 47 (.pick XiV (.const (.bool true)) Xji)]) (.cond Xjc (.seq (.reg [oD 4 (.mv (.const (.string ⟨⟨[]⟩⟩))),oD 5 (.mv (.const (.int .i64 6)))]) .ret) .skip)) (.seq (.seq (.reg [oD 48 (.fieldA 4 XcC),oD 49 (.load1 .str XjG),oD 50 (.lenS Xjd),oD 51 (.bin .neq XjO (.const (.int .i64 8)))]) (.cond XjR (.seq (.reg [oD 4 (.mv (.const (.string ⟨⟨[]⟩⟩))),oD 5 (.mv (.const (.int .i64 3)))]) .ret) .skip)) (.seq (.reg [oD 52 (.fieldA 3 XcC),oD 53 (.load1 .str Xj6),oD 54 (.lenS Xkq),oD 55 (.bin .add (.const (.int .i64 15)) Xlw),oM 12 Xls]) (.seq (.reg [oM 56 τ0,oM 57 τ8,oD 58 (.bin .add Xld (.const (.int .i64 6))),oD 59 (.callF 62 [Xlz,XlC,(.const (.int .i64 2))]),oD 60 (.bin .eql XlO (.const (.int .i64 0))),oM 13 Xnd]) (.seq XOg (.seq (.seq (.reg [oM 71 XdG]) (.cond XqJ (.reg [oM 72 Xd9,oD 73 (.callF 47 [Xqr,(.const (.int .i64 6)),(.const (.int .i64 2)),(.const (.int .u64 0))]),oM 14 XqN]) (.seq (.reg [oM 74 Xd9,oD 75 (.callF 62 [XsO,(.const (.int .i64 6)),(.const (.int .i64 2))]),oD 76 (.bin .eql Xsv (.const (.int .i64 0)))]) (.cond Xtc (.reg [oM 77 Xd9,oD 78 (.callF 47 [Xr3,(.const (.int .i64 6)),(.const (.int .i64 2)),(.const (.int .u64 65535))]),oM 14 Xta]) .skip)))) (.seq (.reg [oM 79 τ0,oM 80 τ8,oD 81 (.sliceS Xtj none (some Xtp)),oM 82 Xd9,oD 83 (.bin .add Xwz Xv4),oM 4 XtY,oD 5 (.mv (.const (.int .i64 0)))]) .ret))))))))))))
def fn40:VFn:=⟨84,XS6,[.tmp 4,.tmp 5]⟩
def k4_13:VC:=.regD [oD 45 (.loadN [(.int .i64),.bool,(.int .u64),(.int .u64),.bool,(.int .u64),(.int .u64),(.int .i64),(.int .i64)] τ6),oM 46 τ5,oD 47 (.callF 22 [Xji,(.const (.int .u32 0))]),oD 48 (.callF 21 [Xjf,(.const (.int .i64 2)),Xjc,(.const (.string ⟨⟨[]⟩⟩))]),oM 44 XjG,oE 49 0 Xje,oE 50 1 Xje,oM 14 Xjd] [(0,2)] [oM 15 XjO]
def k4_30:VC:=.regD [oM 105 XfN,oD 106 (.bin .neq Xyn (.const (.int .i64 0))),oM 107 Xxn,oG 108 (.mv Xgp) 107 false,oG 109 (.bin .neq Xxh (.const (.int .i64 0))) 107 false,oD 110 (.pick XAO (.const (.bool true)) XD5),oM 111 XDK,oG 112 (.fieldA 11 Xfl) 111 false,oG 113 (.load1 (.int .u32) XEN) 111 false,oG 114 (.bin .shr XDD (.const (.int .u64 16))) 111 false,oG 115 (.mv τ1) 111 false,oG 116 (.conv .u32 XFn) 111 false,oG 117 (.bin .neq XIV Xzh) 111 false,oD 118 (.pick XvX (.const (.bool true)) XCc),oM 119 XBH,oG 120 (.fieldA 11 Xfl) 119 false,oG 121 (.load1 (.int .u32) XyR) 119 false,oG 122 (.bin .rem XEM (.const (.int .u32 65536))) 119 false,oG 123 (.mv τ2) 119 false,oG 124 (.bin .rem XEQ (.const (.int .u32 65536))) 119 false,oG 125 (.bin .neq XCu XDT) 119 false,oD 126 (.pick XES (.const (.bool true)) XBG),oM 127 XDC,oG 128 (.fieldA 12 Xfl) 127 false,oG 129 (.load1 (.int .u32) XDo) 127 false,oG 130 (.mv τ5) 127 false,oG 131 (.bin .neq XC3 XBo) 127 false,oD 132 (.pick Xzn (.const (.bool true)) XEE),oM 133 XDw,oG 134 (.fieldA 0 Xfl) 133 false,oG 135 (.loadN [(.int .i64),.bool,(.int .u64),(.int .u64),.bool,(.int .u64),(.int .u64),(.int .i64),(.int .i64)] XxC) 133 false,oG 136 (.loadN [(.int .i64),.bool,(.int .u64),(.int .u64),.bool,(.int .u64),(.int .u64),(.int .i64),(.int .i64)] τ6) 133 false,oG 137 (.callF 24 [XCW]) 133 false] [(30,32)] [oG 138 (.eqAgg true [(0,(.int .i64)),(1,.bool),(2,(.int .u64)),(3,(.int .u64)),(4,.bool),(5,(.int .u64)),(6,(.int .u64)),(7,(.int .i64)),(8,(.int .i64))] XBM XDk) 133 false,oD 139 (.pick XED (.const (.bool true)) XEV)]
def k4_36:VC:=.regD [oD 147 (.loadN [(.int .i64),.bool,(.int .u64),(.int .u64),.bool,(.int .u64),(.int .u64),(.int .i64),(.int .i64)] τ6),oM 148 τ5,oD 149 (.fieldA 11 Xfl),oD 150 (.load1 (.int .u32) XEC),oD 151 (.callF 22 [XEa,XBR]),oD 152 (.callF 21 [XBX,(.const (.int .i64 16)),XDd,(.const (.string ⟨⟨[]⟩⟩))]),oM 146 XxT,oE 153 0 Xz7,oE 154 1 Xz7,oM 26 XKG] [(0,4)] [oM 27 XJ4]
def k4_69:VC:=.seq (.reg [oD 6 (.box τ0),oD 12 (.mv (.const (.bool false)))]) (.seq (.reg [oD 36 (.fieldA 0 τ6),oN (.store 1 XhH (.const (.int .i64 6)))]) (.seq (.seq (.reg [oD 37 (.loadN [(.int .i64),.bool,(.int .u64),(.int .u64),.bool,(.int .u64),(.int .u64),(.int .i64),(.int .i64)] τ6),oD 38 (.callF 20 [Xg0]),oD 39 (.not Xiu)]) (.cond Xim (.seq (.reg [oD 40 (.callF 7 []),oM 12 Xjb]) .ret) .skip)) (.seq (.reg [oD 41 (.callF 8 [(.const (.int .i64 7))]),oM 13 XiD]) (.seq (.seq (.reg [oM 42 XdG,oD 43 (.isNil 0 false XiK)]) (.cond XiV (.seq (.reg [oD 12 (.mv (.const (.bool false)))]) .ret) .skip)) (.seq k4_13 (.seq (.reg [oD 52 (.fieldA 1 τ6),oD 53 (.fieldA 0 Xj6),oD 54 (.load1 .bool Xkq),oM 55 τ1,oD 56 (.conv .u64 Xls),oD 57 (.build [(.bool false),(.int .i64 0),(.int .u64 0),(.bool false),(.int .i64 0)] [(0,1,Xlw),(1,1,(.const (.int .i64 7))),(2,1,Xlz),(3,1,(.const (.bool true)))]),oM 58 Xd9,oD 59 (.callF 23 [Xld,XlC]),oM 51 XlO,oE 60 0 XjR,oE 61 1 XjR,oM 16 Xnd,oM 17 Xml]) (.seq (.seq (.reg [oM 62 XdR,oD 63 (.bin .neq Xns (.const (.int .i64 0))),oM 64 Xoa,oG 65 (.mv Xec) 64 false,oG 66 (.bin .neq Xpi (.const (.int .i64 0))) 64 false,oD 67 (.pick Xoy (.const (.bool true)) XpP)]) (.cond Xpa (.seq (.reg [oD 12 (.mv (.const (.bool false)))]) .ret) .skip)) (.seq (.reg [oM 69 XdG,oM 70 Xed,oD 71 (.callF 10 [XpO,Xqm]),oM 68 XqJ,oE 72 0 Xo9,oE 73 1 Xo9,oM 18 Xqr,oM 19 XqN]) (.seq (.reg [oM 74 XdG,oM 75 τ2,oD 76 (.callF 16 [XsO,Xsv])]) (.seq (.reg [oD 78 (.loadN [(.int .i64),.bool,(.int .u64),(.int .u64),.bool,(.int .u64),(.int .u64),(.int .i64),(.int .i64)] τ6),oD 79 (.callF 24 [Xta]),oM 80 τ4,oD 81 (.conv .i64 Xtp),oM 82 τ2,oM 83 τ5,oD 84 (.callF 22 [Xv4,XtY]),oD 85 (.callF 21 [Xtj,Xwz,XyI,(.const (.string ⟨⟨[104,105]⟩⟩))]),oM 77 XBf,oE 86 0 Xr3,oE 87 1 Xr3,oM 20 XA9,oM 21 XAQ]) (.seq (.seq (.reg [oM 88 Xe3,oD 89 (.bin .neq XAR (.const (.int .i64 0))),oM 90 XA7,oG 91 (.mv Xfm) 90 false,oG 92 (.bin .neq Xxl (.const (.int .i64 0))) 90 false,oD 93 (.pick XAT (.const (.bool true)) XA0)]) (.cond XAU (.seq (.reg [oD 12 (.mv (.const (.bool false)))]) .ret) .skip)) (.seq (.reg [oM 95 XdG,oM 96 Xfw,oD 97 (.callF 12 [XAV,Xw9]),oM 94 XCJ,oE 98 0 XAy,oE 99 1 XAy,oM 22 XGB,oM 23 XNc]) (.seq (.reg [oM 101 XfA,oD 102 (.callF 25 [XvT]),oM 100 XzR,oE 103 0 XtV,oE 104 1 XtV,oD 24 (.alloc [(.int .i64 0),(.bool false),(.int .u64 0),(.int .u64 0),(.bool false),(.int .u64 0),(.int .u64 0),(.int .i64 0),(.int .i64 0),(.int .i64 0),(.bool false),(.int .u32 0),(.int .u32 0),(.bool false),(.string ⟨⟨[]⟩⟩),(.int .i64 0)]),oN (.store 16 Xfl XxK),oM 25 XyE]) (.seq (.seq k4_30 (.cond XCt (.seq (.reg [oD 12 (.mv (.const (.bool false)))]) .ret) .skip)) (.seq (.reg [oM 140 XdG,oM 141 τ2,oM 142 τ3,oD 143 (.conv .u32 Xy5),oD 144 (.bin .add XEg XE5),oD 145 (.callF 16 [XE4,XxE])]) (.seq k4_36 (.seq (.reg [oD 156 (.fieldA 1 τ6),oD 157 (.fieldA 0 XM1),oD 158 (.load1 .bool XLv),oD 159 (.fieldA 11 Xfl),oD 160 (.load1 (.int .u32) XMU),oD 161 (.bin .shr XH4 (.const (.int .u64 16))),oD 162 (.conv .u64 XRN),oD 163 (.build [(.bool false),(.int .i64 0),(.int .u64 0),(.bool false),(.int .i64 0)] [(0,1,XLz),(1,1,(.const (.int .i64 7))),(2,1,XLa)]),oM 164 Xf2,oD 165 (.callF 23 [XN1,XQ4]),oM 155 XO2,oE 166 0 XDV,oE 167 1 XDV,oM 28 XRZ,oM 29 XTq]) (.seq (.seq (.reg [oM 168 Xgd,oD 169 (.bin .neq XRs (.const (.int .i64 0))),oM 170 XRa,oG 171 (.mv Xgs) 170 false,oG 172 (.bin .neq XRT (.const (.int .i64 0))) 170 false,oD 173 (.pick XR4 (.const (.bool true)) XNw)]) (.cond XRr (.seq (.reg [oD 12 (.mv (.const (.bool false)))]) .ret) .skip)) (.seq (.reg [oM 175 XdG,oM 176 Xgt,oD 177 (.callF 10 [XRj,XSw]),oM 174 XRW,oE 178 0 XMd,oE 179 1 XMd,oM 30 XRE,oM 31 XPm]) (.seq (.reg [oM 181 XgH,oD 182 (.callF 25 [XRF]),oM 180 XS3,oE 183 0 XKP,oE 184 1 XKP,oD 32 (.alloc [(.int .i64 0),(.bool false),(.int .u64 0),(.int .u64 0),(.bool false),(.int .u64 0),(.int .u64 0),(.int .i64 0),(.int .i64 0),(.int .i64 0),(.bool false),(.int .u32 0),(.int .u32 0),(.bool false),(.string ⟨⟨[]⟩⟩),(.int .i64 0)]),oN (.store 16 Xgz XQq),oM 33 XRv]) (.seq (.reg [oM 186 XdG,oD 187 (.loadN [(.int .i64),.bool,(.int .u64),(.int .u64),.bool,(.int .u64),(.int .u64),(.int .i64),(.int .i64)] τ6),oD 188 (.callF 17 [XNI,XR6]),oM 185 XN2,oE 189 0 XIq,oE 190 1 XIq,oM 34 XPj,oM 35 XQy]) (.seq (.reg [oM 191 XgA,oD 192 (.bin .eql XS2 (.const (.int .i64 0))),oM 193 XTm,oG 194 (.mv Xhp) 193 true,oG 195 (.bin .eql XNL (.const (.int .i64 0))) 193 true,oD 196 (.pick XOU XSo (.const (.bool false))),oM 197 XOC,oG 198 (.fieldA 12 Xgz) 197 true,oG 199 (.load1 (.int .u32) XUa) 197 true,oG 200 (.mv τ2) 197 true,oG 201 (.bin .eql XTt XSL) 197 true,oD 202 (.pick XTk XNf (.const (.bool false))),oM 203 XT5,oG 204 (.fieldA 0 Xgz) 203 true,oG 205 (.loadN [(.int .i64),.bool,(.int .u64),(.int .u64),.bool,(.int .u64),(.int .u64),(.int .i64),(.int .i64)] XPQ) 203 true,oG 206 (.loadN [(.int .i64),.bool,(.int .u64),(.int .u64),.bool,(.int .u64),(.int .u64),(.int .i64),(.int .i64)] τ6) 203 true,oG 207 (.eqAgg false [(0,(.int .i64)),(1,.bool),(2,(.int .u64)),(3,(.int .u64)),(4,.bool),(5,(.int .u64)),(6,(.int .u64)),(7,(.int .i64)),(8,(.int .i64))] XSY XPl) 203 true,oD 208 (.pick XOG XNZ (.const (.bool false))),oM 209 XRu,oG 210 (.mv XhG) 209 true,oD 211 (.pick XPp XTC (.const (.bool false))),oM 212 XP4,oG 213 (.mv Xhq) 212 true,oG 214 (.mv τ1) 212 true,oG 215 (.conv .u64 XTx) 212 true,oG 216 (.bin .eql XNG XT2) 212 true,oD 217 (.pick XOJ XPW (.const (.bool false))),oM 218 XNz,oG 219 (.mv XdG) 218 true,oG 220 (.callF 19 [XOl]) 218 true,oG 221 (.bin .eql XHG (.const (.int .i64 1))) 218 true,oD 222 (.pick XS5 XOi (.const (.bool false))),oM 223 XQm,oG 224 (.callF 7 []) 223 true,oD 225 (.pick XOo XQa (.const (.bool false))),oM 12 XR5]) .ret))))))))))))))))))))))
def fn4:VFn:=⟨226,k4_69,[.tmp 12]⟩
def k20_3:VC:=.seq (.reg [oD 1 (.box τ0),oD 2 (.mv (.const (.bool false)))]) (.seq (.reg [oD 3 (.fieldA 0 τ1),oD 4 (.load1 (.int .i64) τ3),oD 5 (.callF 41 [τ4,(.const (.int .i64 255))]),oM 6 τ5,oG 7 (.fieldA 1 τ1) 6 true,oG 8 (.loadN [.bool,(.int .u64),(.int .u64)] τ7) 6 true,oG 9 (.callF 42 [τ8]) 6 true,oD 10 (.pick τ6 τ9 (.const (.bool false))),oM 11 Xdg,oG 12 (.fieldA 4 τ1) 11 true,oG 13 (.loadN [.bool,(.int .u64),(.int .u64)] XdH) 11 true,oG 14 (.callF 42 [XdG]) 11 true,oD 15 (.pick XcC Xd9 (.const (.bool false))),oM 16 XdR,oG 17 (.fieldA 1 τ1) 16 true,oG 18 (.fieldA 0 Xec) 16 true,oG 19 (.load1 .bool XeX) 16 true,oG 20 (.fieldA 4 τ1) 16 true,oG 21 (.fieldA 0 Xfw) 16 true,oG 22 (.load1 .bool Xfm) 16 true,oG 23 (.eqB false Xe3 XfA) 16 true,oD 24 (.pick Xed XfN (.const (.bool false))),oM 25 Xfl,oG 26 (.fieldA 7 τ1) 25 true,oG 27 (.load1 (.int .i64) Xf2) 25 true,oG 28 (.callF 41 [Xgd,(.const (.int .i64 65535))]) 25 true,oD 29 (.pick Xgp Xgt (.const (.bool false))),oM 30 Xgs,oG 31 (.fieldA 8 τ1) 30 true,oG 32 (.load1 (.int .i64) XgA) 30 true,oG 33 (.callF 41 [Xgz,(.const (.int .i64 65535))]) 30 true,oD 34 (.pick XgH Xhp (.const (.bool false))),oM 2 Xhq]) .ret)
def fn20:VFn:=⟨35,k20_3,[.tmp 2]⟩
def k41_3:VC:=.seq (.reg [oD 4 (.mv (.const (.bool false)))]) (.seq (.reg [oM 5 τ0,oD 6 (.bin .geq τ5 (.const (.int .i64 0))),oM 7 τ6,oG 8 (.mv τ0) 7 true,oG 9 (.mv τ1) 7 true,oG 10 (.bin .leq τ8 τ9) 7 true,oD 11 (.pick τ7 Xdg (.const (.bool false))),oM 4 XcC]) .ret)
def fn41:VFn:=⟨12,k41_3,[.tmp 4]⟩
def XQP:VC:=.seq (.reg [oD 4 (.mv (.const (.string ⟨⟨[]⟩⟩)))]) (.seq (.reg [oM 5 τ0,oD 6 (.conv .i64 τ5),oD 7 (.callF 45 [τ6,(.const (.int .i64 4))]),oD 8 (.bin .add (.const (.string ⟨⟨[1,1,8,10]⟩⟩)) τ7),oM 9 τ1,oD 10 (.conv .i64 τ9),oD 11 (.callF 45 [Xdg,(.const (.int .i64 4))]),oD 12 (.bin .add τ8 XcC),oM 4 XdH]) .ret)
def fn22:VFn:=⟨13,XQP,[.tmp 4]⟩
def XOP:VC:=.seq (.reg [oD 4 (.mv (.const (.string ⟨⟨[]⟩⟩)))]) (.seq (.reg [oM 5 τ0,oD 6 (.conv .u64 τ5),oM 7 τ1,oD 8 (.callF 46 [τ6,τ7]),oM 4 τ8]) .ret)
def fn45:VFn:=⟨9,XOP,[.tmp 4]⟩
def XFO:VC:=.seq (.reg [oD 4 (.box τ0),oD 8 (.mv (.const (.string ⟨⟨[]⟩⟩))),oD 9 (.mv (.const (.int .i64 0)))]) (.seq (.seq (.reg [oD 12 (.fieldA 0 τ4),oD 13 (.load1 (.int .i64) XdH),oD 14 (.bin .neq XdG (.const (.int .i64 6)))]) (.cond Xd9 (.seq (.reg [oD 8 (.mv (.const (.string ⟨⟨[]⟩⟩))),oD 9 (.mv (.const (.int .i64 1)))]) .ret) .skip)) (.seq (.reg [oD 16 (.fieldA 7 τ4),oD 17 (.load1 (.int .i64) Xed),oD 18 (.fieldA 8 τ4),oD 19 (.load1 (.int .i64) XeX),oM 20 τ1,oM 21 τ2,oD 22 (.build [(.int .i64 0),(.int .i64 0),(.int .u32 0),(.int .u32 0),(.int .i64 0),(.int .i64 0),(.int .i64 0),(.string ⟨⟨[]⟩⟩)] [(0,1,Xec),(1,1,Xe3),(4,1,Xfw),(5,1,(.const (.int .i64 65535))),(7,1,Xfm)]),oD 23 (.fieldA 1 τ4),oD 24 (.loadN [.bool,(.int .u64),(.int .u64)] XfN),oD 25 (.fieldA 4 τ4),oD 26 (.loadN [.bool,(.int .u64),(.int .u64)] Xgp),oM 27 τ3,oD 28 (.callF 43 [XfA,Xfl,Xf2,Xgd]),oM 15 Xgt,oE 29 0 XdR,oE 30 1 XdR,oM 10 Xgs,oM 11 XgH]) (.seq (.seq (.reg [oM 31 XcC,oD 32 (.bin .neq XgA (.const (.int .i64 0)))]) (.cond Xgz (.seq (.reg [oM 33 XcC,oD 8 (.mv (.const (.string ⟨⟨[]⟩⟩))),oM 9 Xhp]) .ret) .skip)) (.seq (.reg [oD 34 (.loadN [(.int .i64),.bool,(.int .u64),(.int .u64),.bool,(.int .u64),(.int .u64),(.int .i64),(.int .i64)] τ4),oM 35 Xdg,oD 36 (.callF 44 [Xhq,XhG]),oE 37 0 XhH,oE 38 1 XhH,oM 8 Xg0,oM 9 Xiu]) .ret))))
def fn21:VFn:=⟨39,XFO,[.tmp 8,.tmp 9]⟩
def XOf:VC:=.regD [oD 36 (.fieldA 0 τ4),oD 37 (.load1 (.int .i64) XhH),oD 38 (.callF 45 [Xg0,(.const (.int .i64 2))]),oD 39 (.fieldA 1 τ4),oD 40 (.load1 (.int .i64) Xim),oD 41 (.callF 45 [Xjb,(.const (.int .i64 2))]),oD 42 (.bin .add Xiu XiD),oD 43 (.fieldA 2 τ4),oD 44 (.load1 (.int .u32) XiV),oD 45 (.conv .i64 Xje),oD 46 (.callF 45 [Xjf,(.const (.int .i64 4))]),oD 47 (.bin .add XiK Xji),oD 48 (.fieldA 3 τ4),oD 49 (.load1 (.int .u32) XjG),oD 50 (.conv .i64 Xjd),oD 51 (.callF 45 [XjO,(.const (.int .i64 4))]),oD 52 (.bin .add Xjc XjR),oM 53 Xdg,oD 54 (.bin .mul (.const (.int .i64 4)) Xkq),oD 55 (.callF 45 [Xlw,(.const (.int .i64 1))]),oD 56 (.bin .add Xj6 Xls),oD 57 (.fieldA 4 τ4),oD 58 (.load1 (.int .i64) Xld),oD 59 (.callF 45 [XlC,(.const (.int .i64 1))]),oD 60 (.bin .add Xlz XlO),oD 61 (.fieldA 5 τ4),oD 62 (.load1 (.int .i64) Xml),oD 63 (.callF 45 [Xns,(.const (.int .i64 2))]),oD 64 (.bin .add Xnd Xoa),oD 65 (.callF 45 [(.const (.int .i64 0)),(.const (.int .i64 2))]),oD 66 (.bin .add Xoy Xpi),oD 67 (.fieldA 6 τ4),oD 68 (.load1 (.int .i64) Xpa),oD 69 (.callF 45 [Xo9,(.const (.int .i64 2))]),oD 70 (.bin .add XpP XpO),oD 71 (.fieldA 7 τ4),oD 72 (.load1 .str XqJ),oD 73 (.bin .add Xqm Xqr),oM 74 τ3] [(2,4),(2,8),(2,13),(2,22),(2,26),(2,32),(2,36),(5,8),(5,13),(5,22),(5,26),(5,32),(5,36),(10,13),(10,22),(10,26),(10,32),(10,36),(15,22),(15,26),(15,32),(15,36),(19,22),(19,26),(19,32),(19,36),(23,26),(23,32),(23,36),(27,32),(27,36),(29,32),(29,36),(33,36)] [oD 75 (.bin .add XqN XsO),oM 12 Xsv]
def XGo:VC:=.seq (.reg [oD 4 (.box τ0),oD 5 (.box τ1),oD 6 (.box τ2),oD 8 (.mv (.const (.string ⟨⟨[]⟩⟩))),oD 9 (.mv (.const (.int .i64 0)))]) (.seq (.reg [oD 13 (.fieldA 7 τ4),oD 14 (.load1 .str XdG),oD 15 (.lenS Xd9),oD 16 (.bin .add (.const (.int .i64 20)) XdR),oM 10 Xed]) (.seq (.reg [oD 17 (.loadN [.bool,(.int .u64),(.int .u64)] τ5),oD 18 (.loadN [.bool,(.int .u64),(.int .u64)] τ6),oM 19 Xdg,oM 20 τ3,oD 21 (.lenS Xfw),oD 22 (.bin .add Xe3 Xfm),oD 23 (.callF 77 [Xec,XeX,(.const (.int .i64 6)),XfA]),oM 11 XfN]) (.seq (.seq (.reg [oD 24 (.loadN [(.int .i64),(.int .i64),(.int .u32),(.int .u32),(.int .i64),(.int .i64),(.int .i64),.str] τ4),oD 25 (.callF 78 [Xfl]),oD 26 (.not Xgp),oM 27 Xf2,oG 28 (.mv XcC) 27 false,oG 29 (.bin .eql Xgt (.const (.string ⟨⟨[]⟩⟩))) 27 false,oD 30 (.pick Xgd (.const (.bool true)) Xgs)]) (.cond XgH (.seq (.reg [oD 8 (.mv (.const (.string ⟨⟨[]⟩⟩))),oD 9 (.mv (.const (.int .i64 1)))]) .ret) .skip)) (.seq (.seq (.reg [oM 31 τ3,oD 32 (.lenS XgA),oM 33 Xdg,oD 34 (.bin .sub (.const (.int .i64 65535)) Xhp),oD 35 (.bin .gtr Xgz Xhq)]) (.cond XhG (.seq (.reg [oD 8 (.mv (.const (.string ⟨⟨[]⟩⟩))),oD 9 (.mv (.const (.int .i64 5)))]) .ret) .skip)) (.seq XOf (.seq (.reg [oM 76 XdH,oM 77 XcC,oM 78 XdH,oD 79 (.bin .add Xr3 Xta),oD 80 (.callF 48 [Xtj]),oD 81 (.conv .u64 Xtp),oD 82 (.callF 47 [Xtc,(.const (.int .i64 16)),(.const (.int .i64 2)),Xwz]),oM 8 Xv4,oD 9 (.mv (.const (.int .i64 0)))]) .ret))))))
def fn43:VFn:=⟨83,XGo,[.tmp 8,.tmp 9]⟩
def XPw:VC:=.seq (.reg [oD 1 (.box τ0),oD 2 (.mv (.const (.bool false)))]) (.seq (.reg [oD 3 (.fieldA 0 τ1),oD 4 (.load1 (.int .i64) τ3),oD 5 (.callF 106 [τ4,(.const (.int .i64 65535))]),oM 6 τ5,oG 7 (.fieldA 1 τ1) 6 true,oG 8 (.load1 (.int .i64) τ7) 6 true,oG 9 (.callF 106 [τ8,(.const (.int .i64 65535))]) 6 true,oD 10 (.pick τ6 τ9 (.const (.bool false))),oM 11 Xdg,oG 12 (.fieldA 4 τ1) 11 true,oG 13 (.load1 (.int .i64) XdH) 11 true,oG 14 (.callF 106 [XdG,(.const (.int .i64 255))]) 11 true,oD 15 (.pick XcC Xd9 (.const (.bool false))),oM 16 XdR,oG 17 (.fieldA 5 τ1) 16 true,oG 18 (.load1 (.int .i64) Xec) 16 true,oG 19 (.callF 106 [XeX,(.const (.int .i64 65535))]) 16 true,oD 20 (.pick Xed Xe3 (.const (.bool false))),oM 21 Xfw,oG 22 (.fieldA 6 τ1) 21 true,oG 23 (.load1 (.int .i64) XfA) 21 true,oG 24 (.callF 106 [XfN,(.const (.int .i64 65535))]) 21 true,oD 25 (.pick Xfm Xfl (.const (.bool false))),oM 26 Xgp,oG 27 (.fieldA 7 τ1) 26 true,oG 28 (.load1 .str Xgd) 26 true,oG 29 (.lenS Xgt) 26 true,oG 30 (.bin .leq Xgs (.const (.int .i64 40))) 26 true,oD 31 (.pick Xf2 XgH (.const (.bool false))),oM 32 XgA,oG 33 (.fieldA 7 τ1) 32 true,oG 34 (.load1 .str Xhp) 32 true,oG 35 (.lenS Xhq) 32 true,oG 36 (.bin .rem XhG (.const (.int .i64 4))) 32 true,oG 37 (.bin .eql XhH (.const (.int .i64 0))) 32 true,oD 38 (.pick Xgz Xg0 (.const (.bool false))),oM 2 Xiu]) .ret)
def fn78:VFn:=⟨39,XPw,[.tmp 2]⟩
def XFF:VC:=.seq (.reg [oD 4 (.mv (.const (.bool false)))]) (.seq (.reg [oM 5 τ0,oD 6 (.bin .geq τ5 (.const (.int .i64 0))),oM 7 τ6,oG 8 (.mv τ0) 7 true,oG 9 (.mv τ1) 7 true,oG 10 (.bin .leq τ8 τ9) 7 true,oD 11 (.pick τ7 Xdg (.const (.bool false))),oM 4 XcC]) .ret)
def XOQ:VFn:=⟨12,XFF,[.tmp 4]⟩
def XPa:VC:=.seq (.reg [oD 2 (.mv (.const (.int .i64 0)))]) (.seq (.reg [oM 3 τ0,oD 4 (.callF 60 [τ3]),oD 5 (.bin .sub (.const (.int .i64 65535)) τ4),oM 2 τ5]) .ret)
def fn48:VFn:=⟨6,XPa,[.tmp 2]⟩
def XF5:VC:=.seq (.reg [oD 2 (.box τ0),oD 4 (.mv (.const (.string ⟨⟨[]⟩⟩))),oD 5 (.mv (.const (.int .i64 0)))]) (.seq (.seq (.reg [oD 8 (.fieldA 1 τ2),oD 9 (.fieldA 0 τ8),oD 10 (.load1 .bool τ9),oD 11 (.fieldA 4 τ2),oD 12 (.fieldA 0 XcC),oD 13 (.load1 .bool XdH),oD 14 (.eqB true Xdg XdG),oM 15 Xd9,oG 16 (.fieldA 1 τ2) 15 false,oG 17 (.loadN [.bool,(.int .u64),(.int .u64)] Xed) 15 false,oG 18 (.callF 42 [Xec]) 15 false,oG 19 (.not XeX) 15 false,oD 20 (.pick XdR (.const (.bool true)) Xe3),oM 21 Xfw,oG 22 (.fieldA 4 τ2) 21 false,oG 23 (.loadN [.bool,(.int .u64),(.int .u64)] XfA) 21 false,oG 24 (.callF 42 [XfN]) 21 false,oG 25 (.not Xfl) 21 false,oD 26 (.pick Xfm (.const (.bool true)) Xgp),oM 27 Xf2,oG 28 (.fieldA 0 τ2) 27 false,oG 29 (.load1 (.int .i64) Xgt) 27 false,oG 30 (.bin .neq Xgs (.const (.int .i64 6))) 27 false,oG 31 (.mv XgH) 27 false,oG 32 (.fieldA 0 τ2) 31 true,oG 33 (.load1 (.int .i64) Xgz) 31 true,oG 34 (.bin .neq Xhp (.const (.int .i64 17))) 31 true,oG 35 (.pick XgA Xhq (.const (.bool false))) 27 false,oD 36 (.pick Xgd (.const (.bool true)) XhG)]) (.cond XhH (.seq (.reg [oD 4 (.mv (.const (.string ⟨⟨[]⟩⟩))),oD 5 (.mv (.const (.int .i64 1)))]) .ret) .skip)) (.seq (.reg [oD 38 (.fieldA 0 τ2),oD 39 (.load1 (.int .i64) Xiu),oD 40 (.fieldA 1 τ2),oD 41 (.loadN [.bool,(.int .u64),(.int .u64)] Xjb),oD 42 (.fieldA 4 τ2),oD 43 (.loadN [.bool,(.int .u64),(.int .u64)] XiK),oD 44 (.build [(.int .i64 0),(.int .i64 0),(.int .i64 0),(.int .i64 0),(.bool false),(.int .u64 0),(.int .u64 0),(.bool false),(.int .u64 0),(.int .u64 0)] [(2,1,Xim),(3,1,(.const (.int .i64 64))),(4,3,XiD),(7,3,XiV)]),oM 45 τ1,oD 46 (.callF 79 [Xje,Xjf]),oM 37 Xji,oE 47 0 Xg0,oE 48 1 Xg0,oM 6 Xjc,oM 7 XjG]) (.seq (.seq (.reg [oD 49 (.fieldA 1 τ2),oD 50 (.fieldA 0 Xjd),oD 51 (.load1 .bool XjO),oD 52 (.not XjR)]) (.cond Xj6 (.reg [oD 54 (.fieldA 0 τ2),oD 55 (.load1 (.int .i64) Xlw),oD 56 (.fieldA 1 τ2),oD 57 (.loadN [.bool,(.int .u64),(.int .u64)] Xlz),oD 58 (.fieldA 4 τ2),oD 59 (.loadN [.bool,(.int .u64),(.int .u64)] XlC),oD 60 (.build [(.int .i64 0),(.int .i64 0),(.bool false),(.int .i64 0),(.int .i64 0),(.bool false),(.int .u64 0),(.int .u64 0),(.bool false),(.int .u64 0),(.int .u64 0),(.string ⟨⟨[]⟩⟩)] [(2,1,(.const (.bool true))),(3,1,(.const (.int .i64 64))),(4,1,Xls),(5,3,Xld),(8,3,XlO)]),oM 61 τ1,oD 62 (.callF 80 [Xnd,Xml]),oM 53 Xns,oE 63 0 Xkq,oE 64 1 Xkq,oM 6 Xoa,oM 7 Xoy]) .skip)) (.seq (.seq (.reg [oM 65 τ7,oD 66 (.bin .eql Xpi (.const (.int .i64 0))),oM 67 XpP,oG 68 (.mv τ6) 67 true,oG 69 (.lenS Xo9) 67 true,oG 70 (.bin .gtr XpO (.const (.int .i64 9000))) 67 true,oD 71 (.pick Xpa Xqm (.const (.bool false)))]) (.cond XqJ (.seq (.reg [oD 4 (.mv (.const (.string ⟨⟨[]⟩⟩))),oD 5 (.mv (.const (.int .i64 5)))]) .ret) .skip)) (.seq (.reg [oM 72 τ6,oM 73 τ7,oM 4 Xqr,oM 5 XqN]) .ret)))))
def fn44:VFn:=⟨74,XF5,[.tmp 4,.tmp 5]⟩
def XND:VC:=.regD [oD 12 (.fieldA 0 τ2),oD 13 (.load1 (.int .i64) XdH),oD 14 (.bin .mul XdG (.const (.int .i64 1048576))),oD 15 (.bin .add (.const (.int .i64 1610612736)) Xd9),oD 16 (.fieldA 1 τ2),oD 17 (.load1 (.int .i64) Xed),oD 18 (.bin .add XdR Xec),oD 19 (.callF 108 [XeX,(.const (.int .i64 4))]),oM 20 τ1,oD 21 (.lenS Xfw),oD 22 (.callF 108 [Xfm,(.const (.int .i64 2))]),oD 23 (.bin .add Xe3 XfA),oD 24 (.fieldA 2 τ2),oD 25 (.load1 (.int .i64) Xfl),oD 26 (.callF 108 [Xgp,(.const (.int .i64 1))]),oD 27 (.bin .add XfN Xf2),oD 28 (.fieldA 3 τ2),oD 29 (.load1 (.int .i64) Xgt),oD 30 (.callF 108 [Xgs,(.const (.int .i64 1))]),oD 31 (.bin .add Xgd XgH),oD 32 (.fieldA 4 τ2),oD 33 (.loadN [.bool,(.int .u64),(.int .u64)] Xgz),oD 34 (.callF 104 [Xhp]),oD 35 (.bin .add XgA Xhq),oD 36 (.fieldA 7 τ2),oD 37 (.loadN [.bool,(.int .u64),(.int .u64)] XhH),oD 38 (.callF 104 [Xg0]),oD 39 (.bin .add XhG Xiu),oM 40 τ1] [(7,13),(7,17),(7,21),(7,25),(10,13),(10,17),(10,21),(10,25),(14,17),(14,21),(14,25),(18,21),(18,25),(22,25)] [oD 41 (.bin .add Xim Xjb),oM 4 XiD,oD 5 (.mv (.const (.int .i64 0)))]
def XGC:VC:=.seq (.reg [oD 2 (.box τ0),oD 4 (.mv (.const (.string ⟨⟨[]⟩⟩))),oD 5 (.mv (.const (.int .i64 0)))]) (.seq (.seq (.reg [oD 6 (.loadN [(.int .i64),(.int .i64),(.int .i64),(.int .i64),.bool,(.int .u64),(.int .u64),.bool,(.int .u64),(.int .u64)] τ2),oD 7 (.callF 107 [τ6]),oD 8 (.not τ7)]) (.cond τ8 (.seq (.reg [oD 4 (.mv (.const (.string ⟨⟨[]⟩⟩))),oD 5 (.mv (.const (.int .i64 1)))]) .ret) .skip)) (.seq (.seq (.reg [oM 9 τ1,oD 10 (.lenS τ9),oD 11 (.bin .gtr Xdg (.const (.int .i64 65535)))]) (.cond XcC (.seq (.reg [oD 4 (.mv (.const (.string ⟨⟨[]⟩⟩))),oD 5 (.mv (.const (.int .i64 5)))]) .ret) .skip)) (.seq XND .ret)))
def fn79:VFn:=⟨42,XGC,[.tmp 4,.tmp 5]⟩
def XG8:VC:=.seq (.reg [oD 1 (.box τ0),oD 2 (.mv (.const (.bool false)))]) (.seq (.reg [oD 3 (.fieldA 0 τ1),oD 4 (.load1 (.int .i64) τ3),oD 5 (.callF 124 [τ4,(.const (.int .i64 255))]),oM 6 τ5,oG 7 (.fieldA 1 τ1) 6 true,oG 8 (.load1 (.int .i64) τ7) 6 true,oG 9 (.callF 124 [τ8,(.const (.int .i64 1048575))]) 6 true,oD 10 (.pick τ6 τ9 (.const (.bool false))),oM 11 Xdg,oG 12 (.fieldA 2 τ1) 11 true,oG 13 (.load1 (.int .i64) XdH) 11 true,oG 14 (.callF 124 [XdG,(.const (.int .i64 255))]) 11 true,oD 15 (.pick XcC Xd9 (.const (.bool false))),oM 16 XdR,oG 17 (.fieldA 3 τ1) 16 true,oG 18 (.load1 (.int .i64) Xec) 16 true,oG 19 (.callF 124 [XeX,(.const (.int .i64 255))]) 16 true,oD 20 (.pick Xed Xe3 (.const (.bool false))),oM 21 Xfw,oG 22 (.fieldA 4 τ1) 21 true,oG 23 (.fieldA 0 XfA) 21 true,oG 24 (.load1 .bool XfN) 21 true,oD 25 (.pick Xfm Xfl (.const (.bool false))),oM 26 Xgp,oG 27 (.fieldA 7 τ1) 26 true,oG 28 (.fieldA 0 Xgd) 26 true,oG 29 (.load1 .bool Xgt) 26 true,oD 30 (.pick Xf2 Xgs (.const (.bool false))),oM 2 XgH]) .ret)
def XRY:VFn:=⟨31,XG8,[.tmp 2]⟩
def XGi:VC:=.seq (.reg [oD 4 (.mv (.const (.bool false)))]) (.seq (.reg [oM 5 τ0,oD 6 (.bin .geq τ5 (.const (.int .i64 0))),oM 7 τ6,oG 8 (.mv τ0) 7 true,oG 9 (.mv τ1) 7 true,oG 10 (.bin .leq τ8 τ9) 7 true,oD 11 (.pick τ7 Xdg (.const (.bool false))),oM 4 XcC]) .ret)
def XOL:VFn:=⟨12,XGi,[.tmp 4]⟩
def XHB:VC:=.seq (.reg [oD 4 (.mv (.const (.string ⟨⟨[]⟩⟩)))]) (.seq (.reg [oM 5 τ0,oD 6 (.conv .u64 τ5),oM 7 τ1,oD 8 (.callF 46 [τ6,τ7]),oM 4 τ8]) .ret)
def XSX:VFn:=⟨9,XHB,[.tmp 4]⟩
def XTT:VC:=.regD [oM 23 τ6,oD 24 (.bin .quo XfN (.const (.int .i64 4))),oD 25 (.bin .add (.const (.int .i64 64)) Xfl),oD 26 (.callF 105 [Xgp,(.const (.int .i64 1))]),oD 27 (.fieldA 0 τ2),oD 28 (.load1 (.int .i64) Xgd),oD 29 (.callF 105 [Xgt,(.const (.int .i64 1))]),oD 30 (.bin .add Xf2 Xgs),oM 31 τ6,oM 32 τ1,oD 33 (.lenS Xgz),oD 34 (.bin .add XgA Xhp),oD 35 (.callF 105 [Xhq,(.const (.int .i64 2))]),oD 36 (.bin .add XgH XhG),oD 37 (.fieldA 1 τ2),oD 38 (.load1 (.int .i64) Xg0),oD 39 (.callF 105 [Xiu,(.const (.int .i64 2))]),oD 40 (.bin .add XhH Xim),oM 41 τ7,oD 42 (.callF 105 [XiD,(.const (.int .i64 1))]),oD 43 (.bin .add Xjb XiK),oD 44 (.callF 105 [(.const (.int .i64 0)),(.const (.int .i64 1))]),oD 45 (.bin .add XiV Xje),oD 46 (.fieldA 3 τ2),oD 47 (.load1 (.int .i64) Xji),oD 48 (.callF 105 [Xjc,(.const (.int .i64 1))]),oD 49 (.bin .add Xjf XjG),oD 50 (.fieldA 4 τ2),oD 51 (.load1 (.int .i64) XjO),oD 52 (.callF 105 [XjR,(.const (.int .i64 1))]),oD 53 (.bin .add Xjd Xj6),oD 54 (.callF 105 [(.const (.int .i64 0)),(.const (.int .i64 2))]),oD 55 (.bin .add Xkq Xlw),oD 56 (.fieldA 5 τ2),oD 57 (.loadN [.bool,(.int .u64),(.int .u64)] Xlz),oD 58 (.callF 104 [Xld]),oD 59 (.bin .add Xls XlC),oD 60 (.fieldA 8 τ2),oD 61 (.loadN [.bool,(.int .u64),(.int .u64)] Xnd),oD 62 (.callF 104 [Xml]),oD 63 (.bin .add XlO Xns),oD 64 (.fieldA 11 τ2),oD 65 (.load1 .str Xoy)] [(3,5),(3,15),(3,24),(3,28),(3,34),(3,38),(3,42),(6,15),(6,24),(6,28),(6,34),(6,38),(6,42),(12,15),(12,24),(12,28),(12,34),(12,38),(12,42),(16,24),(16,28),(16,34),(16,38),(16,42),(19,24),(19,28),(19,34),(19,38),(19,42),(21,24),(21,28),(21,34),(21,38),(21,42),(25,28),(25,34),(25,38),(25,42),(29,34),(29,38),(29,42),(31,34),(31,38),(31,42),(35,38),(35,42),(39,42)] [oD 66 (.bin .add Xoa Xpi),oM 8 XpP]
def XG9:VC:=.seq (.reg [oD 2 (.box τ0),oD 4 (.mv (.const (.string ⟨⟨[]⟩⟩))),oD 5 (.mv (.const (.int .i64 0)))]) (.seq (.seq (.reg [oD 9 (.loadN [(.int .i64),(.int .i64),.bool,(.int .i64),(.int .i64),.bool,(.int .u64),(.int .u64),.bool,(.int .u64),(.int .u64),.str] τ2),oD 10 (.callF 109 [τ9]),oD 11 (.not Xdg)]) (.cond XcC (.seq (.reg [oD 4 (.mv (.const (.string ⟨⟨[]⟩⟩))),oD 5 (.mv (.const (.int .i64 1)))]) .ret) .skip)) (.seq (.reg [oD 12 (.fieldA 11 τ2),oD 13 (.load1 .str XdH),oD 14 (.lenS XdG),oD 15 (.bin .add (.const (.int .i64 20)) Xd9),oM 6 XdR]) (.seq (.seq (.reg [oM 16 τ1,oD 17 (.lenS Xed),oM 18 τ6,oD 19 (.bin .sub (.const (.int .i64 65535)) XeX),oD 20 (.bin .gtr Xec Xe3)]) (.cond Xfw (.seq (.reg [oD 4 (.mv (.const (.string ⟨⟨[]⟩⟩))),oD 5 (.mv (.const (.int .i64 5)))]) .ret) .skip)) (.seq (.reg [oD 7 (.mv (.const (.int .i64 0)))]) (.seq (.seq (.reg [oD 21 (.fieldA 2 τ2),oD 22 (.load1 .bool Xfm)]) (.cond XfA (.reg [oD 7 (.mv (.const (.int .i64 64)))]) .skip)) (.seq XTT (.seq (.reg [oM 67 τ8,oM 68 τ8,oD 69 (.callF 48 [Xo9]),oD 70 (.conv .u64 XpO),oD 71 (.callF 47 [Xpa,(.const (.int .i64 10)),(.const (.int .i64 2)),Xqm]),oM 72 τ1,oD 73 (.bin .add XqJ Xqr),oM 4 XqN,oD 5 (.mv (.const (.int .i64 0)))]) .ret)))))))
def fn80:VFn:=⟨74,XG9,[.tmp 4,.tmp 5]⟩
def XFN:VC:=.seq (.reg [oD 1 (.box τ0),oD 2 (.mv (.const (.bool false)))]) (.seq (.reg [oD 3 (.fieldA 0 τ1),oD 4 (.load1 (.int .i64) τ3),oD 5 (.callF 125 [τ4,(.const (.int .i64 255))]),oM 6 τ5,oG 7 (.fieldA 1 τ1) 6 true,oG 8 (.load1 (.int .i64) τ7) 6 true,oG 9 (.callF 125 [τ8,(.const (.int .i64 65535))]) 6 true,oD 10 (.pick τ6 τ9 (.const (.bool false))),oM 11 Xdg,oG 12 (.fieldA 3 τ1) 11 true,oG 13 (.load1 (.int .i64) XdH) 11 true,oG 14 (.callF 125 [XdG,(.const (.int .i64 255))]) 11 true,oD 15 (.pick XcC Xd9 (.const (.bool false))),oM 16 XdR,oG 17 (.fieldA 4 τ1) 16 true,oG 18 (.load1 (.int .i64) Xec) 16 true,oG 19 (.callF 125 [XeX,(.const (.int .i64 255))]) 16 true,oD 20 (.pick Xed Xe3 (.const (.bool false))),oM 21 Xfw,oG 22 (.fieldA 5 τ1) 21 true,oG 23 (.loadN [.bool,(.int .u64),(.int .u64)] XfA) 21 true,oG 24 (.callF 126 [XfN]) 21 true,oD 25 (.pick Xfm Xfl (.const (.bool false))),oM 26 Xgp,oG 27 (.fieldA 8 τ1) 26 true,oG 28 (.loadN [.bool,(.int .u64),(.int .u64)] Xgd) 26 true,oG 29 (.callF 126 [Xgt]) 26 true,oD 30 (.pick Xf2 Xgs (.const (.bool false))),oM 31 XgH,oG 32 (.fieldA 11 τ1) 31 true,oG 33 (.load1 .str Xgz) 31 true,oG 34 (.lenS Xhp) 31 true,oG 35 (.bin .leq Xhq (.const (.int .i64 40))) 31 true,oD 36 (.pick XgA XhG (.const (.bool false))),oM 37 XhH,oG 38 (.fieldA 11 τ1) 37 true,oG 39 (.load1 .str Xiu) 37 true,oG 40 (.lenS Xim) 37 true,oG 41 (.bin .rem Xjb (.const (.int .i64 4))) 37 true,oG 42 (.bin .eql XiD (.const (.int .i64 0))) 37 true,oD 43 (.pick Xg0 XiK (.const (.bool false))),oM 2 XiV]) .ret)
def XQ8:VFn:=⟨44,XFN,[.tmp 2]⟩
def XHd:VC:=.seq (.reg [oD 4 (.mv (.const (.bool false)))]) (.seq (.reg [oM 5 τ0,oD 6 (.bin .geq τ5 (.const (.int .i64 0))),oM 7 τ6,oG 8 (.mv τ0) 7 true,oG 9 (.mv τ1) 7 true,oG 10 (.bin .leq τ8 τ9) 7 true,oD 11 (.pick τ7 Xdg (.const (.bool false))),oM 4 XcC]) .ret)
def XQf:VFn:=⟨12,XHd,[.tmp 4]⟩
def XHa:VC:=.seq (.reg [oD 1 (.box τ0),oD 2 (.mv (.const (.bool false)))]) (.seq (.reg [oD 3 (.loadN [.bool,(.int .u64),(.int .u64)] τ1),oD 4 (.callF 42 [τ3]),oM 5 τ4,oG 6 (.fieldA 0 τ1) 5 true,oG 7 (.load1 .bool τ6) 5 true,oG 8 (.not τ7) 5 true,oD 9 (.pick τ5 τ8 (.const (.bool false))),oM 2 τ9]) .ret)
def XP9:VFn:=⟨10,XHa,[.tmp 2]⟩
def XPS:VC:=.regD [oM 34 τ6,oD 35 (.conv .u64 Xhq),oD 36 (.callF 46 [XhG,(.const (.int .i64 1))]),oD 37 (.bin .add (.const (.string ⟨⟨[71,85,1]⟩⟩)) XhH),oD 38 (.fieldA 1 τ2),oD 39 (.load1 (.int .i64) Xiu),oD 40 (.conv .u64 Xim),oD 41 (.callF 46 [Xjb,(.const (.int .i64 2))]),oD 42 (.bin .add Xg0 XiD),oM 43 τ7,oD 44 (.conv .u64 XiV),oD 45 (.callF 46 [Xje,(.const (.int .i64 1))]),oD 46 (.bin .add XiK Xjf),oD 47 (.fieldA 4 τ2),oD 48 (.load1 (.int .i64) Xjc),oD 49 (.conv .u64 XjG),oD 50 (.callF 46 [Xjd,(.const (.int .i64 1))]),oD 51 (.bin .add Xji XjO),oD 52 (.bin .add XjR (.const (.string ⟨⟨[0,0]⟩⟩))),oD 53 (.fieldA 2 τ2),oD 54 (.load1 (.int .u64) Xkq),oD 55 (.callF 46 [Xlw,(.const (.int .i64 8))])] [(2,5),(2,14),(2,20),(7,14),(7,20),(11,14),(11,20),(16,20)] [oD 56 (.bin .add Xj6 Xls),oM 8 Xlz]
def XHs:VC:=.seq (.reg [oD 2 (.box τ0),oD 4 (.mv (.const (.string ⟨⟨[]⟩⟩))),oD 5 (.mv (.const (.int .i64 0)))]) (.seq (.seq (.reg [oD 9 (.fieldA 1 τ2),oD 10 (.load1 (.int .i64) τ9),oD 11 (.bin .lss Xdg (.const (.int .i64 0))),oM 12 XcC,oG 13 (.fieldA 1 τ2) 12 false,oG 14 (.load1 (.int .i64) XdG) 12 false,oG 15 (.bin .gtr Xd9 (.const (.int .i64 65535))) 12 false,oD 16 (.pick XdH (.const (.bool true)) XdR),oM 17 Xed,oG 18 (.fieldA 4 τ2) 17 false,oG 19 (.load1 (.int .i64) XeX) 17 false,oG 20 (.bin .lss Xe3 (.const (.int .i64 0))) 17 false,oD 21 (.pick Xec (.const (.bool true)) Xfw),oM 22 Xfm,oG 23 (.fieldA 4 τ2) 22 false,oG 24 (.load1 (.int .i64) XfN) 22 false,oG 25 (.bin .gtr Xfl (.const (.int .i64 255))) 22 false,oD 26 (.pick XfA (.const (.bool true)) Xgp)]) (.cond Xf2 (.seq (.reg [oD 4 (.mv (.const (.string ⟨⟨[]⟩⟩))),oD 5 (.mv (.const (.int .i64 1)))]) .ret) .skip)) (.seq (.seq (.reg [oM 27 τ1,oD 28 (.lenS Xgd),oD 29 (.bin .gtr Xgt (.const (.int .i64 9000)))]) (.cond Xgs (.seq (.reg [oD 4 (.mv (.const (.string ⟨⟨[]⟩⟩))),oD 5 (.mv (.const (.int .i64 5)))]) .ret) .skip)) (.seq (.reg [oD 6 (.mv (.const (.int .i64 4))),oD 7 (.mv (.const (.int .i64 0)))]) (.seq (.seq (.reg [oD 30 (.fieldA 0 τ2),oD 31 (.load1 .bool XgH)]) (.cond XgA (.reg [oD 6 (.mv (.const (.int .i64 41)))]) .skip)) (.seq (.seq (.reg [oD 32 (.fieldA 3 τ2),oD 33 (.load1 .bool Xgz)]) (.cond Xhp (.reg [oD 7 (.mv (.const (.int .i64 1)))]) .skip)) (.seq XPS (.seq (.reg [oM 57 τ8,oM 58 τ8,oD 59 (.callF 48 [XlC]),oD 60 (.conv .u64 XlO),oD 61 (.callF 47 [Xld,(.const (.int .i64 8)),(.const (.int .i64 2)),Xnd]),oM 62 τ1,oD 63 (.bin .add Xml Xns),oM 4 Xoa,oD 5 (.mv (.const (.int .i64 0)))]) .ret)))))))
def fn23:VFn:=⟨64,XHs,[.tmp 4,.tmp 5]⟩
def XL5:VC:=.seq (.seq (.reg [oM 43 XdH,oD 44 (.bin .lss XiV (.const (.int .i64 64)))]) (.cond Xje .skip (.exit 0))) (.seq (.block 1 (.seq (.reg [oM 48 XcC,oM 49 τ0,oM 50 XdH,oD 51 (.callF 27 [Xjd,XjO]),oM 52 τ2,oM 53 XdH,oD 54 (.conv .u64 Xkq),oD 55 (.bin .add Xj6 Xlw),oM 56 τ1,oD 57 (.callF 26 [XjR,Xls,Xlz]),oD 58 (.callF 10 [XjG,Xld]),oM 47 XlC,oE 59 0 Xjc,oE 60 1 Xjc,oM 13 XlO,oM 14 Xnd]) (.seq (.reg [oM 61 Xd9,oD 62 (.bin .neq Xml (.const (.int .i64 0))),oM 63 Xns,oG 64 (.mv XcC) 63 false,oG 65 (.callF 19 [Xoy]) 63 false,oG 66 (.mv XdH) 63 false,oG 67 (.bin .add XpP (.const (.int .i64 1))) 63 false,oG 68 (.bin .neq Xpi Xpa) 63 false,oD 69 (.pick Xoa (.const (.bool true)) Xo9)]) (.cond XpO (.seq (.reg [oD 10 (.mv (.const (.bool false)))]) .ret) .skip)))) (.reg [oM 45 XdH,oD 46 (.bin .add Xjf (.const (.int .i64 1))),oM 12 Xji]))
def XMX:VC:=.seq (.seq (.reg [oM 112 XfA,oD 113 (.bin .lss XEN (.const (.int .i64 64)))]) (.cond XDD .skip (.exit 2))) (.seq (.block 3 (.seq (.reg [oM 117 XcC,oM 118 τ0,oM 119 XfA,oD 120 (.callF 27 [XBH,XES]),oD 121 (.callF 17 [XCc,XyR]),oM 116 XEM,oE 122 0 Xzh,oE 123 1 Xzh,oM 23 XCu,oM 24 XEQ]) (.seq (.reg [oM 124 Xfl,oD 125 (.not XDT),oM 126 XBG,oG 127 (.mv XfN) 126 false,oG 128 (.mv τ2) 126 false,oG 129 (.mv XfA) 126 false,oG 130 (.conv .u64 XC3) 126 false,oG 131 (.bin .add XDo XBo) 126 false,oG 132 (.bin .neq Xzn XEE) 126 false,oD 133 (.pick XDC (.const (.bool true)) XDw)]) (.cond XED (.seq (.reg [oD 10 (.mv (.const (.bool false)))]) .ret) .skip)))) (.reg [oM 114 XfA,oD 115 (.bin .add XIV (.const (.int .i64 1))),oM 22 XFn]))
def XT8:VC:=.seq (.reg [oM 135 XcC,oM 136 τ0,oM 137 XdR,oD 138 (.callF 27 [XCW,XDk]),oM 139 τ3,oD 140 (.callF 26 [XEV,XCt,(.const (.bool false))]),oD 141 (.callF 10 [XBM,XE4]),oM 134 XEg,oE 142 0 XxC,oE 143 1 XxC,oM 25 Xy5,oM 26 XE5]) (.seq (.reg [oM 145 XcC,oM 146 τ0,oM 147 XdR,oD 148 (.callF 27 [Xz7,XBX]),oD 149 (.callF 17 [XJu,XEa]),oM 144 XEC,oE 150 0 XxE,oE 151 1 XxE,oM 27 XBR,oM 28 XDd]) (.seq (.reg [oM 153 XcC,oM 154 τ0,oM 155 XdR,oD 156 (.callF 27 [XJ4,XDV]),oM 157 τ3,oD 158 (.callF 26 [XM1,XLv,(.const (.bool true))]),oD 159 (.callF 10 [XKG,XLz]),oM 152 XMU,oE 160 0 XxT,oE 161 1 XxT,oM 29 XH4,oM 30 XRN]) (.seq (.reg [oM 163 XcC,oM 164 τ0,oM 165 XdR,oD 166 (.callF 27 [XQ4,XO2]),oD 167 (.callF 17 [XN1,XRZ]),oM 162 XTq,oE 168 0 XLa,oE 169 1 XLa,oM 31 XRs,oM 32 XRa]) (.seq (.seq (.reg [oM 170 Xf2,oD 171 (.bin .neq XR4 (.const (.int .i64 0))),oM 172 XRT,oG 173 (.mv Xgt) 172 false,oG 174 (.not XRr) 172 false,oD 175 (.pick XNw (.const (.bool true)) XMd),oM 176 XRj,oG 177 (.mv Xgd) 176 false,oG 178 (.mv τ2) 176 false,oG 179 (.mv XdR) 176 false,oG 180 (.conv .u64 XPm) 176 false,oG 181 (.bin .add XRE XKP) 176 false,oG 182 (.bin .neq XRW XRF) 176 false,oD 183 (.pick XSw (.const (.bool true)) XS3),oM 184 XQq,oG 185 (.mv XgH) 184 false,oG 186 (.bin .neq XIq (.const (.int .i64 0))) 184 false,oD 187 (.pick XRv (.const (.bool true)) XNI),oM 188 XR6,oG 189 (.mv Xgz) 188 false,oG 190 (.not XPj) 188 false,oD 191 (.pick XN2 (.const (.bool true)) XQy),oM 192 XS2,oG 193 (.mv XgA) 192 false,oG 194 (.mv τ3) 192 false,oG 195 (.bin .neq XOU XNL) 192 false,oD 196 (.pick XTm (.const (.bool true)) XSo),oM 197 XOC,oG 198 (.mv XcC) 197 false,oG 199 (.callF 19 [XUa]) 197 false,oG 200 (.bin .neq XTt (.const (.int .i64 64))) 197 false,oD 201 (.pick XTk (.const (.bool true)) XSL)]) (.cond XNf (.seq (.reg [oD 10 (.mv (.const (.bool false)))]) .ret) .skip)) (.seq (.reg [oM 202 XcC,oM 203 τ0,oM 204 XdR,oD 205 (.callF 27 [XOG,XPQ]),oD 206 (.callF 14 [XT5,XSY]),oM 207 XPl,oG 208 (.mv XcC) 207 true,oG 209 (.mv τ0) 207 true,oG 210 (.mv XdR) 207 true,oG 211 (.callF 27 [XPp,XTC]) 207 true,oG 212 (.callF 14 [XRu,XP4]) 207 true,oG 213 (.not XOJ) 207 true,oD 214 (.pick XNZ XNG (.const (.bool false))),oM 215 XTx,oG 216 (.mv XcC) 215 true,oG 217 (.callF 19 [XPW]) 215 true,oG 218 (.bin .eql XNz (.const (.int .i64 63))) 215 true,oD 219 (.pick XT2 XS5 (.const (.bool false))),oM 33 XOl]) (.seq (.reg [oM 221 XcC,oM 222 τ0,oD 223 (.callF 27 [XQm,(.const (.int .i64 100))]),oM 224 τ3,oM 225 τ1,oD 226 (.callF 26 [XOo,XQa,XR5]),oD 227 (.callF 10 [XOi,τ226]),oM 220 τ227,oE 228 0 XHG,oE 229 1 XHG,oM 34 τ228,oM 35 τ229]) (.seq (.reg [oM 231 XcC,oM 232 τ0,oD 233 (.callF 27 [τ232,(.const (.int .i64 100))]),oD 234 (.callF 17 [τ231,τ233]),oM 230 τ234,oE 235 0 XTJ,oE 236 1 XTJ,oM 36 τ235,oM 37 τ236]) (.seq (.reg [oM 238 XcC,oM 239 τ0,oM 240 XdR,oD 241 (.callF 27 [τ239,τ240]),oM 242 τ3,oM 243 τ1,oD 244 (.callF 26 [τ241,τ242,τ243]),oD 245 (.callF 10 [τ238,τ244]),oM 237 τ245,oE 246 0 XSh,oE 247 1 XSh,oM 38 τ246,oM 39 τ247]) (.seq (.reg [oM 248 Xhp,oM 249 τ248,oG 250 (.mv XhG) 249 true,oG 251 (.bin .eql τ250 (.const (.int .i64 0))) 249 true,oD 252 (.pick τ249 τ251 (.const (.bool false))),oM 253 τ252,oG 254 (.mv Xg0) 253 true,oD 255 (.pick τ253 τ254 (.const (.bool false))),oM 256 τ255,oG 257 (.mv XhH) 256 true,oG 258 (.mv τ3) 256 true,oG 259 (.bin .eql τ257 τ258) 256 true,oD 260 (.pick τ256 τ259 (.const (.bool false))),oM 261 τ260,oG 262 (.mv Xim) 261 true,oG 263 (.bin .eql τ262 (.const (.int .i64 9))) 261 true,oD 264 (.pick τ261 τ263 (.const (.bool false))),oM 265 τ264,oG 266 (.callF 7 []) 265 true,oD 267 (.pick τ265 τ266 (.const (.bool false))),oM 10 τ267]) .ret)))))))))
def XP0:VC:=.seq (.reg [oM 70 τ4,oD 71 (.conv .i64 Xqm),oD 72 (.bin .rem XqJ (.const (.int .i64 64))),oM 15 Xqr]) (.seq (.reg [oM 74 XcC,oM 75 τ0,oD 76 (.callF 27 [Xsv,(.const (.int .i64 100))]),oM 77 τ3,oD 78 (.callF 26 [Xtc,Xr3,(.const (.bool true))]),oD 79 (.callF 10 [XsO,Xta]),oM 73 Xtj,oE 80 0 XqN,oE 81 1 XqN,oM 16 Xtp,oM 17 Xwz]) (.seq (.reg [oM 83 XcC,oM 84 τ0,oD 85 (.callF 27 [XyI,(.const (.int .i64 100))]),oM 86 τ3,oD 87 (.callF 26 [XBf,XA9,(.const (.bool false))]),oD 88 (.callF 10 [XtY,XAQ]),oM 82 XAR,oE 89 0 Xv4,oE 90 1 Xv4,oM 18 XA7,oM 19 XAT]) (.seq (.reg [oM 92 XcC,oM 93 τ0,oD 94 (.callF 27 [XAU,(.const (.int .i64 100))]),oD 95 (.callF 17 [XA0,XAy]),oM 91 XAV,oE 96 0 Xxl,oE 97 1 Xxl,oM 20 Xw9,oM 21 XCJ]) (.seq (.seq (.reg [oM 98 Xec,oD 99 (.bin .neq XGB (.const (.int .i64 9))),oM 100 XNc,oG 101 (.mv Xe3) 100 false,oG 102 (.bin .neq XvT (.const (.int .i64 9))) 100 false,oD 103 (.pick XtV (.const (.bool true)) XzR),oM 104 XxK,oG 105 (.mv Xfm) 104 false,oD 106 (.pick XyE (.const (.bool true)) Xyn),oM 107 Xxn,oG 108 (.mv XcC) 107 false,oG 109 (.callF 19 [Xxh]) 107 false,oG 110 (.bin .neq XD5 (.const (.int .i64 64))) 107 false,oD 111 (.pick XAO (.const (.bool true)) XDK)]) (.cond XvX (.seq (.reg [oD 10 (.mv (.const (.bool false)))]) .ret) .skip)) (.seq (.seq (.reg [oD 22 (.mv (.const (.int .i64 0)))]) (.block 2 (.loop XMX))) XT8)))))
def XRC:VC:=.seq (.reg [oD 10 (.mv (.const (.bool false)))]) (.seq (.reg [oD 40 (.callF 8 [(.const (.int .i64 7))]),oM 11 Xjb]) (.seq (.seq (.reg [oM 41 XcC,oD 42 (.isNil 0 false XiD)]) (.cond XiK (.seq (.reg [oD 10 (.mv (.const (.bool false)))]) .ret) .skip)) (.seq (.seq (.reg [oD 12 (.mv (.const (.int .i64 0)))]) (.block 0 (.loop XL5))) XP0)))
def fn5:VFn:=⟨268,XRC,[.tmp 10]⟩
def XOS:VC:=.seq (.reg [oD 4 (.alloc [(.int .i64 0),(.bool false),(.int .u64 0),(.int .u64 0),(.bool false),(.int .u64 0),(.int .u64 0),(.int .i64 0),(.int .i64 0)])]) (.seq (.reg [oM 5 τ0,oD 6 (.build [(.bool false),(.int .u64 0),(.int .u64 0)] [(0,1,τ5),(2,1,(.const (.int .u64 1)))]),oM 7 τ0,oD 8 (.build [(.bool false),(.int .u64 0),(.int .u64 0)] [(0,1,τ7),(2,1,(.const (.int .u64 2)))]),oM 9 τ1,oD 10 (.build [(.int .i64 0),(.bool false),(.int .u64 0),(.int .u64 0),(.bool false),(.int .u64 0),(.int .u64 0),(.int .i64 0),(.int .i64 0)] [(0,1,(.const (.int .i64 6))),(1,3,τ6),(4,3,τ8),(7,1,τ9),(8,1,(.const (.int .i64 80)))]),oN (.store 9 τ4 Xdg)]) .ret)
def fn27:VFn:=⟨11,XOS,[.cell 4 [(.int .i64),.bool,(.int .u64),(.int .u64),.bool,(.int .u64),(.int .u64),(.int .i64),(.int .i64)] true]⟩
def k26_1:VC:=.regD [oD 12 (.loadN [(.int .i64),.bool,(.int .u64),(.int .u64),.bool,(.int .u64),(.int .u64),(.int .i64),(.int .i64)] τ3),oD 13 (.callF 22 [(.const (.int .u32 1)),(.const (.int .u32 2))]),oD 14 (.callF 21 [XdH,(.const (.int .i64 16)),XdG,(.const (.string ⟨⟨[]⟩⟩))]),oM 11 Xd9,oE 15 0 XcC,oE 16 1 XcC,oM 7 XdR] [(0,1)] [oM 8 Xed]
def XN7:VC:=.seq (.reg [oD 3 (.box τ0),oD 6 (.mv (.const (.string ⟨⟨[]⟩⟩)))]) (.seq k26_1 (.seq (.reg [oD 18 (.fieldA 1 τ3),oD 19 (.fieldA 0 XeX),oD 20 (.load1 .bool Xe3),oM 21 τ1,oM 22 τ2,oD 23 (.build [(.bool false),(.int .i64 0),(.int .u64 0),(.bool false),(.int .i64 0)] [(0,1,Xfw),(1,1,(.const (.int .i64 7))),(2,1,Xfm),(3,1,XfA)]),oM 24 τ7,oD 25 (.callF 23 [XfN,Xfl]),oM 17 Xgp,oE 26 0 Xec,oE 27 1 Xec,oM 9 Xf2,oM 10 Xgd]) (.seq (.reg [oM 28 τ9,oM 6 Xgt]) .ret)))
def fn26:VFn:=⟨29,XN7,[.tmp 6]⟩
theorem XMD:(Tryz.prog.funcs[49]?).bind (XaG Tryz.prog)=some fn49:=by kernel_rfl
theorem XLT:(Tryz.prog.funcs[81]?).bind (XaG Tryz.prog)=some fn81:=by kernel_rfl
theorem XFo:(Tryz.prog.funcs[110]?).bind (XaG Tryz.prog)=some XN5:=by kernel_rfl
theorem XEn:(Tryz.prog.funcs[127]?).bind (XaG Tryz.prog)=some XNp:=by kernel_rfl
theorem XDi:(Tryz.prog.funcs[111]?).bind (XaG Tryz.prog)=some XNu:=by kernel_rfl
theorem XMY:(Tryz.prog.funcs[82]?).bind (XaG Tryz.prog)=some fn82:=by kernel_rfl
theorem XKt:(Tryz.prog.funcs[77]?).bind (XaG Tryz.prog)=some fn77:=by kernel_rfl
theorem XHP:(Tryz.prog.funcs[42]?).bind (XaG Tryz.prog)=some fn42:=by kernel_rfl
theorem XBT:(Tryz.prog.funcs[104]?).bind (XaG Tryz.prog)=some XP7:=by kernel_rfl
theorem XMI:(Tryz.prog.funcs[46]?).bind (XaG Tryz.prog)=some fn46:=by kernel_rfl
theorem XCo:(Tryz.prog.funcs[105]?).bind (XaG Tryz.prog)=some XTb:=by kernel_rfl
theorem XEf:(Tryz.prog.funcs[112]?).bind (XaG Tryz.prog)=some XSe:=by kernel_rfl
theorem XJj:(Tryz.prog.funcs[83]?).bind (XaG Tryz.prog)=some fn83:=by kernel_rfl
theorem XL7:(Tryz.prog.funcs[84]?).bind (XaG Tryz.prog)=some fn84:=by kernel_rfl
theorem XKZ:(Tryz.prog.funcs[75]?).bind (XaG Tryz.prog)=some fn75:=by kernel_rfl
theorem XCj:(Tryz.prog.funcs[101]?).bind (XaG Tryz.prog)=some XPU:=by kernel_rfl
theorem XME:(Tryz.prog.funcs[34]?).bind (XaG Tryz.prog)=some fn34:=by kernel_rfl
theorem XLV:(Tryz.prog.funcs[15]?).bind (XaG Tryz.prog)=some fn15:=by kernel_rfl
theorem XKo:(Tryz.prog.funcs[35]?).bind (XaG Tryz.prog)=some fn35:=by kernel_rfl
theorem XKL:(Tryz.prog.funcs[64]?).bind (XaG Tryz.prog)=some fn64:=by kernel_rfl
theorem XJM:(Tryz.prog.funcs[94]?).bind (XaG Tryz.prog)=some fn94:=by kernel_rfl
theorem XCL:(Tryz.prog.funcs[121]?).bind (XaG Tryz.prog)=some XSB:=by kernel_rfl
theorem XJT:(Tryz.prog.funcs[63]?).bind (XaG Tryz.prog)=some fn63:=by kernel_rfl
theorem XMW:(Tryz.prog.funcs[74]?).bind (XaG Tryz.prog)=some fn74:=by kernel_rfl
theorem XIl:(Tryz.prog.funcs[76]?).bind (XaG Tryz.prog)=some fn76:=by kernel_rfl
theorem XCP:(Tryz.prog.funcs[103]?).bind (XaG Tryz.prog)=some XTH:=by kernel_rfl
theorem XBs:(Tryz.prog.funcs[102]?).bind (XaG Tryz.prog)=some XUb:=by kernel_rfl
theorem XEB:(Tryz.prog.funcs[123]?).bind (XaG Tryz.prog)=some XS1:=by kernel_rfl
theorem XMu:(Tryz.prog.funcs[47]?).bind (XaG Tryz.prog)=some fn47:=by kernel_rfl
theorem XKs:(Tryz.prog.funcs[13]?).bind (XaG Tryz.prog)=some fn13:=by kernel_rfl
theorem XK3:(Tryz.prog.funcs[24]?).bind (XaG Tryz.prog)=some fn24:=by kernel_rfl
theorem XMt:(Tryz.prog.funcs[18]?).bind (XaG Tryz.prog)=some fn18:=by kernel_rfl
theorem XKr:(Tryz.prog.funcs[39]?).bind (XaG Tryz.prog)=some fn39:=by kernel_rfl
theorem XML:(Tryz.prog.funcs[73]?).bind (XaG Tryz.prog)=some fn73:=by kernel_rfl
theorem XH0:(Tryz.prog.funcs[40]?).bind (XaG Tryz.prog)=some fn40:=by kernel_rfl
theorem XSC:(Tryz.prog.funcs[4]?).bind (XaG Tryz.prog)=some fn4:=by kernel_rfl
theorem XLk:(Tryz.prog.funcs[20]?).bind (XaG Tryz.prog)=some fn20:=by kernel_rfl
theorem XIS:(Tryz.prog.funcs[41]?).bind (XaG Tryz.prog)=some fn41:=by kernel_rfl
theorem XKV:(Tryz.prog.funcs[22]?).bind (XaG Tryz.prog)=some fn22:=by kernel_rfl
theorem XMA:(Tryz.prog.funcs[45]?).bind (XaG Tryz.prog)=some fn45:=by kernel_rfl
theorem XKA:(Tryz.prog.funcs[21]?).bind (XaG Tryz.prog)=some fn21:=by kernel_rfl
theorem XHZ:(Tryz.prog.funcs[43]?).bind (XaG Tryz.prog)=some fn43:=by kernel_rfl
theorem XLe:(Tryz.prog.funcs[78]?).bind (XaG Tryz.prog)=some fn78:=by kernel_rfl
theorem XBU:(Tryz.prog.funcs[106]?).bind (XaG Tryz.prog)=some XOQ:=by kernel_rfl
theorem XKW:(Tryz.prog.funcs[48]?).bind (XaG Tryz.prog)=some fn48:=by kernel_rfl
theorem XKC:(Tryz.prog.funcs[44]?).bind (XaG Tryz.prog)=some fn44:=by kernel_rfl
theorem XMB:(Tryz.prog.funcs[79]?).bind (XaG Tryz.prog)=some fn79:=by kernel_rfl
theorem XEw:(Tryz.prog.funcs[107]?).bind (XaG Tryz.prog)=some XRY:=by kernel_rfl
theorem XDe:(Tryz.prog.funcs[124]?).bind (XaG Tryz.prog)=some XOL:=by kernel_rfl
theorem XEc:(Tryz.prog.funcs[108]?).bind (XaG Tryz.prog)=some XSX:=by kernel_rfl
theorem XLh:(Tryz.prog.funcs[80]?).bind (XaG Tryz.prog)=some fn80:=by kernel_rfl
theorem XBB:(Tryz.prog.funcs[109]?).bind (XaG Tryz.prog)=some XQ8:=by kernel_rfl
theorem XD2:(Tryz.prog.funcs[125]?).bind (XaG Tryz.prog)=some XQf:=by kernel_rfl
theorem XEU:(Tryz.prog.funcs[126]?).bind (XaG Tryz.prog)=some XP9:=by kernel_rfl
theorem XLx:(Tryz.prog.funcs[23]?).bind (XaG Tryz.prog)=some fn23:=by kernel_rfl
theorem XTN:(Tryz.prog.funcs[5]?).bind (XaG Tryz.prog)=some fn5:=by kernel_rfl
theorem XL2:(Tryz.prog.funcs[27]?).bind (XaG Tryz.prog)=some fn27:=by kernel_rfl
theorem XHV:(Tryz.prog.funcs[26]?).bind (XaG Tryz.prog)=some fn26:=by kernel_rfl
def tab:List (Nat×VFn):=[(3,fn3),(6,fn6),(7,fn7),(8,fn8),(10,fn10),(28,fn28),(29,fn29),(50,fn50),(85,fn85),(113,XQZ),(51,fn51),(52,fn52),(86,fn86),(95,fn95),(69,fn69),(53,fn53),(54,fn54),(87,fn87),(114,XT0),(128,XQI),(115,XRP),(30,fn30),(55,fn55),(88,fn88),(116,XQe),(129,XQN),(135,XP8),(136,XSa),(130,XPr),(89,fn89),(117,XNg),(131,XPq),(137,XNP),(138,XUe),(71,fn71),(139,XTj),(140,XOE),(142,XRw),(141,XR9),(132,XSd),(119,XSs),(120,XOw),(133,XSr),(91,fn91),(90,fn90),(118,XQD),(68,fn68),(96,fn96),(97,fn97),(98,fn98),(31,fn31),(32,fn32),(57,fn57),(59,fn59),(58,fn58),(56,fn56),(67,fn67),(70,fn70),(100,XS4),(99,fn99),(122,XP2),(134,XSF),(72,fn72),(12,fn12),(36,fn36),(17,fn17),(37,fn37),(65,fn65),(66,fn66),(38,fn38),(16,fn16),(14,fn14),(19,fn19),(9,fn9),(11,fn11),(33,fn33),(60,fn60),(93,fn93),(62,fn62),(61,fn61),(92,fn92),(25,fn25),(49,fn49),(81,fn81),(110,XN5),(127,XNp),(111,XNu),(82,fn82),(77,fn77),(42,fn42),(104,XP7),(46,fn46),(105,XTb),(112,XSe),(83,fn83),(84,fn84),(75,fn75),(101,XPU),(34,fn34),(15,fn15),(35,fn35),(64,fn64),(94,fn94),(121,XSB),(63,fn63),(74,fn74),(76,fn76),(103,XTH),(102,XUb),(123,XS1),(47,fn47),(13,fn13),(24,fn24),(18,fn18),(39,fn39),(73,fn73),(40,fn40),(4,fn4),(20,fn20),(41,fn41),(22,fn22),(45,fn45),(21,fn21),(43,fn43),(78,fn78),(106,XOQ),(48,fn48),(44,fn44),(79,fn79),(107,XRY),(124,XOL),(108,XSX),(80,fn80),(109,XQ8),(125,XQf),(126,XP9),(23,fn23),(5,fn5),(27,fn27),(26,fn26)]
theorem XaQ:XkS Tryz.prog (XaI tab):=XkS.Xa6 ⟨XOB,XQS,XS9,XOb,XLG,XMe,XL9,XLP,XJ0,XD7,XLq,XMK,XJW,XKE,XKJ,XHY,XJk,XJ3,XCK,XDB,XBE,XLo,XLH,XKz,XDx,XEl,XE1,XDu,XCS,XMZ,XC8,XFa,XB6,XE7,XHI,XDz,XBn,XEA,XEy,XBz,XFd,XDE,XEp,XI1,XL8,XEL,XMr,XJD,XKw,XIZ,XJo,XLd,XIM,XHN,XIf,XMV,XMs,XKF,XBr,XII,XFh,XDr,XMn,XK2,XMN,XJF,XIs,XKe,XIH,XIR,XMj,XI0,XLn,XPC,XIk,XJq,XLK,XLy,XKD,XLN,XI6,XJA,XMD,XLT,XFo,XEn,XDi,XMY,XKt,XHP,XBT,XMI,XCo,XEf,XJj,XL7,XKZ,XCj,XME,XLV,XKo,XKL,XJM,XCL,XJT,XMW,XIl,XCP,XBs,XEB,XMu,XKs,XK3,XMt,XKr,XML,XH0,XSC,XLk,XIS,XKV,XMA,XKA,XHZ,XLe,XBU,XKW,XKC,XMB,XEw,XDe,XEc,XLh,XBB,XD2,XEU,XLx,XTN,XL2,XHV,trivial⟩
end Go.Vm.Code
namespace Go.Vm
open Go Go.RowKit
theorem XTU {h h':Hp} {s:Nat→Option Nat} {b n:Nat} {ws:List Wd} {c c' x:List Value} {cs:List (Option (List Value))} {ob ob':Xbx} (e1:XaI h b=some ob) (e2:ob.wcs=some x) (e3:XeR.renL s c=some c') (e4:Nat.beq c'.length n=true) (e5:Nat.beq x.length n=true) (e6:ob.wr c'=some ob') (t:Xda (XfQ h b ob') s ws cs=some h') (hm:mk3 c=none:=by rfl) :
 Xda h s (.win b 0 n true::ws) (some c::cs)=some h':=by
 have h4:=Nat.eq_of_beq_eq_true e4
 have h5:=Nat.eq_of_beq_eq_true e5
 refine XFT e1 e2 e3 ⟨h4,by omega⟩ ?_ e6 t hm
 apply List.ext_getElem?
 intro k
 rw [XjL _ _ _ _ (by omega)]
 by_cases hk:k<n
 ·rw [if_pos (by omega)];simp
 ·rw [if_neg (by omega),List.getElem?_eq_none (by omega),List.getElem?_eq_none (by omega)]
theorem XRL {h:Hp} {k b n:Nat} {ob:Xbx} {cs:List Value} (ho:XaI h b=some ob) (hc:ob.wcs=some cs) (hn:Nat.beq cs.length n=true) (hf:XaY.flatL cs=true) :
 XcX h k (.pt n) (.pointer (some ⟨b,0,none⟩))=some (.pointer (some ⟨k,0,none⟩),[some (.cells cs)]):=
 XFy ho hc (by have:=Nat.eq_of_beq_eq_true hn;omega) (by have:=Nat.eq_of_beq_eq_true hn;rw [List.drop_zero];exact List.take_of_length_le (by omega)) hf
theorem XrN {a b:Dec} {vs:List Value} {cs:List (Option (List Value))} {r:Xc4} (h:a vs cs=some r):orD a b vs cs=some r:=by unfold orD;rw [h]
theorem Xp1 {a b:Dec} {vs:List Value} {cs:List (Option (List Value))} {r:Xc4} (h:a vs cs=none) (k:b vs cs=some r):orD a b vs cs=some r:=by unfold orD;rw [h];exact k
end Go.Vm
namespace Go.Vm
open Go Go.RowKit
section
variable {α κ ν:Type}
def XGJ (key:α→κ) (eqk:κ→κ→Bool) (t:κ) (xs:List α):Bool:=xs.any fun e=>eqk t (key e)
def XFs (key:α→κ) (eqk:κ→κ→Bool) (val:α→ν) (z:ν) (t:κ):List α→ν
 | []=>z
 | e::l=>cond (eqk t (key e)) (val e) (XFs key eqk val z t l)
def XF8 (key:α→κ) (eqk:κ→κ→Bool) (mk:κ→ν→α) (t:κ) (v:ν):List α→List α
 | []=>[mk t v]
 | e::l=>cond (eqk t (key e)) (mk (key e) v::l) (e::XF8 key eqk mk t v l)
def XA4 (key:α→κ) (eqk:κ→κ→Bool) (t:κ):List α→List α
 | []=>[]
 | e::l=>cond (eqk t (key e)) l (e::XA4 key eqk t l)
structure Xtb (f:α→List Value) (kc:κ→List Value) (vc:ν→Value) (key:α→κ) (val:α→ν) (mk:κ→ν→α) (eqk:κ→κ→Bool) (os:List (Nat×SK)):Prop where
 cells:∀ e,f e=[.agg ⟨kc (key e)⟩,vc (val e)]
 eq:∀ a b,Xb4 (kc a) (kc b) os=some (eqk a b)
 len:∀ a b,(kc a).length=(kc b).length
 offs:∀ a,os.map (·.1)=List.range (kc a).length
 fk:∀ a,XaY.flatL (kc a)=true
 fv:∀ v,XaY (vc v)=true
 mkk:∀ k v,key (mk k v)=k
 mkv:∀ k v,val (mk k v)=v
variable {f:α→List Value} {kc:κ→List Value} {vc:ν→Value} {key:α→κ} {val:α→ν} {mk:κ→ν→α} {eqk:κ→κ→Bool} {os:List (Nat×SK)}
theorem Xtb.cons (h:Xtb f kc vc key val mk eqk os) (e:α) (l:List α):vT f (e::l)=.agg ⟨kc (key e)⟩::vc (val e)::vT f l:=by
 show f e++vT f l=_
 rw [h.cells];rfl
theorem Xtb.find (h:Xtb f kc vc key val mk eqk os) (t:κ):∀ xs:List α,∃ r,XiJ os (kc t) (vT f xs)=some r ∧
 ((r=none∧XGJ key eqk t xs=false∧(∀ z,XFs key eqk val z t xs=z)∧(∀ v,XF8 key eqk mk t v xs=xs++[mk t v])∧XA4 key eqk t xs=xs) ∨
  ∃ i v,r=some (2*i,vc v)∧XGJ key eqk t xs=true∧(∀ z,XFs key eqk val z t xs=v)∧(∀ v,(vT f xs).set (2*i+1) (vc v)=vT f (XF8 key eqk mk t v xs))∧(vT f xs).take (2*i)++(vT f xs).drop (2*i+2)=vT f (XA4 key eqk t xs))
 | []=>⟨none,rfl,.inl ⟨rfl,rfl,fun _=>rfl,fun _=>rfl,rfl⟩⟩
 | e::l=>by
   obtain ⟨r,h1,h2⟩:=Xtb.find h t l
   rw [h.cons]
   cases he:eqk t (key e) with
   | true=>
     refine ⟨some (0,vc (val e)),?_,.inr ⟨0,val e,rfl,?_,fun z=>?_,fun v=>?_,?_⟩⟩
     ·simp only [XiJ,h.eq,he,cond_true,if_pos (h.len (key e) t)]
     ·simp [XGJ,he]
     ·simp [XFs,he]
     ·simp only [XF8,he,cond_true];rw [h.cons,h.mkk,h.mkv];rfl
     ·simp [XA4,he]
   | false=>
     have hm:XiJ os (kc t) (.agg ⟨kc (key e)⟩::vc (val e)::vT f l)=some (r.map fun q=>(q.1+2,q.2)):=by
      simp only [XiJ,h.eq,he,cond_false,h1];rfl
     rcases h2 with ⟨rfl,g1,g2,g3,g4⟩|⟨i,v,rfl,g1,g2,g3,g4⟩
     ·refine ⟨none,hm,.inl ⟨rfl,?_,fun z=>?_,fun v=>?_,?_⟩⟩
      ·simp only [XGJ,List.any_cons,he,Bool.false_or];exact g1
      ·simp only [XFs,he,cond_false];exact g2 z
      ·simp only [XF8,he,cond_false,g3];rfl
      ·simp only [XA4,he,cond_false,g4]
     ·refine ⟨some (2*i+2,vc v),hm,.inr ⟨i+1,v,by congr 2,?_,fun z=>?_,fun v=>?_,?_⟩⟩
      ·simp only [XGJ,List.any_cons,he,Bool.false_or];exact g1
      ·simp only [XFs,he,cond_false];exact g2 z
      ·simp only [XF8,he,cond_false];rw [h.cons,←g3,show 2*(i+1)+1=(2*i+1)+1+1 by omega];rfl
      ·simp only [XA4,he,cond_false];rw [h.cons,←g4,show 2*(i+1)=2*i+1+1 by omega];rfl
theorem Xtb.self (h:Xtb f kc vc key val mk eqk os) (t:κ):(Xb4 (kc t) (kc t) os).isSome=true:=by rw [h.eq];rfl
theorem Xtb.get (h:Xtb f kc vc key val mk eqk os) (z:ν) (t:κ) (xs:List α):Xwc os (vc z) (kc t) (vT f xs)=some (vc (XFs key eqk val z t xs),XGJ key eqk t xs):=by
 obtain ⟨r,h1,⟨rfl,g1,g2,_⟩|⟨i,v,rfl,g1,g2,_⟩⟩:=h.find t xs
 ·simp only [Xwc,if_pos (h.self t),h1,g1,g2]
 ·simp only [Xwc,if_pos (h.self t),h1,g1,g2]
theorem Xtb.put (h:Xtb f kc vc key val mk eqk os) (t:κ) (v:ν) (xs:List α):XvZ os (kc t) (vc v) (vT f xs)=some (vT f (XF8 key eqk mk t v xs)):=by
 have hc:=And.intro (h.self t) (And.intro (h.offs t) (And.intro (h.fk t) (h.fv v)))
 obtain ⟨r,h1,⟨rfl,_,_,g3,_⟩|⟨i,u,rfl,_,_,g3,_⟩⟩:=h.find t xs
 ·simp only [XvZ,if_pos hc,h1,g3]
  rw [←XGF,show vT f [mk t v]=[.agg ⟨kc t⟩,vc v] by rw [h.cons,h.mkk,h.mkv];rfl]
 ·simp only [XvZ,if_pos hc,h1,g3]
theorem Xtb.del (h:Xtb f kc vc key val mk eqk os) (t:κ) (xs:List α):Xv2 os (kc t) (vT f xs)=some (vT f (XA4 key eqk t xs)):=by
 obtain ⟨r,h1,⟨rfl,_,_,_,g4⟩|⟨i,u,rfl,_,_,_,g4⟩⟩:=h.find t xs
 ·simp only [Xv2,if_pos (h.self t),h1,g4]
 ·simp only [Xv2,if_pos (h.self t),h1,g4]
theorem Xtb.length (h:Xtb f kc vc key val mk eqk os) (xs:List α):(vT f xs).length=2*xs.length:=by
 rw [XhF (c:=2) (fun e=>by rw [h.cells];rfl),Nat.mul_comm]
end
end Go.Vm
namespace Go.Vm.Code
open Go Go.Vm Go.Proofs
set_option maxRecDepth 100000
set_option maxHeartbeats 4000000
set_option linter.unusedVariables false
@[ext] structure Xag where
 V6:Bool
 Hi:Int
 Lo:Int
 deriving DecidableEq
@[ext] structure Xai where
 Proto:Int
 Src:Xag
 Dst:Xag
 SPort:Int
 DPort:Int
 deriving DecidableEq
@[ext] structure XgL where
 Kind:Int
 S:List UInt8
 T:Xai
 Clock:Int
 deriving DecidableEq
@[ext] structure Xan where
 key:Xai
 val:Int
 deriving DecidableEq
@[ext] structure Xah where
 id_:Int
 clock:Int
 cookies:List Xan
 deriving DecidableEq
@[ext] structure XaN where
 V6:Bool
 Backend:Int
 Cookie:Int
 First:Bool
 Instance:Int
 deriving DecidableEq
@[ext] structure Xaj where
 s:List UInt8
 made:Bool
 bad:Bool
 deriving DecidableEq
@[ext] structure Xav where
 Tuple:Xai
 Flags:Int
 Stamped:Bool
 Val:Int
 Echo:Int
 Long:Bool
 CID:List UInt8
 Size:Int
 deriving DecidableEq
@[ext] structure XaS where
 src:Xag
 dst:Xag
 proto:Int
 body:List UInt8
 deriving DecidableEq
@[ext] structure XaD where
 Class:Int
 Mark:Int
 Whole:Bool
 TTL:Int
 Proto:Int
 Src:Xag
 Dst:Xag
 Options:List UInt8
 deriving DecidableEq
@[ext] structure Xdc where
 Reader:Xaj
 deriving DecidableEq
@[ext] structure XaX where
 Class:Int
 Label:Int
 Next:Int
 Hop:Int
 Src:Xag
 Dst:Xag
 deriving DecidableEq
@[ext] structure XaT where
 SPort:Int
 DPort:Int
 Seq:Int
 Ack:Int
 Flags:Int
 Window:Int
 Urgent:Int
 Options:List UInt8
 deriving DecidableEq
@[ext] structure XcR where
 Kind:Int
 Data:List UInt8
 deriving DecidableEq
@[ext] structure Xcl where
 SPort:Int
 DPort:Int
 deriving DecidableEq
@[ext] structure Xcu where
 Long:Bool
 Bits:Int
 Version:Int
 DCID:List UInt8
 SCID:List UInt8
 Rest:List UInt8
 deriving DecidableEq
structure NilMap where
 mk ::
 deriving DecidableEq
@[ext] structure XbC where
 id_:Int
 clock:Int
 cookies:NilMap
 deriving DecidableEq
@[ext] structure Xrc where
 ID:Int
 Clock:Int
 Flows:List Xai
 Cookies:List Int
 deriving DecidableEq
@[ext] structure XgN where
 src:Xag
 dst:Xag
 proto:Int
 size:Int
 body:List UInt8
 deriving DecidableEq
@[ext] structure Xit where
 Kind:Int
 Data:List UInt8
 At:Int
 deriving DecidableEq
def Xgb (x:Xag):List Value:=[.bool x.V6,.int .u64 x.Hi,.int .u64 x.Lo]
theorem XeO (x:Xag):(Xgb x).length=3:=rfl
theorem XbJ (x:Xag):XaY.flatL (Xgb x)=true:=rfl
theorem Xgf (x:Xag):(Xgb x).all Xiq=true:=rfl
@[simp] theorem XAX (xs:List Xag):(vT Xgb xs).length=xs.length*3:=XhF XeO xs
@[simp] theorem XA2 (xs:List Xag) (n:Nat):(vT Xgb xs).take (n*3)=vT Xgb (xs.take n):=Xgx XeO xs n
@[simp] theorem XBe (xs:List Xag) (n:Nat):(vT Xgb xs).drop (n*3)=vT Xgb (xs.drop n):=Xgu XeO xs n
def XnF:List Value→Option Xag
 | [.bool a1,.int .u64 a2,.int .u64 a3]=>some (Xag.mk a1 a2 a3)
 | _=>none
theorem XjT (cs:List Value) (x:Xag) (h:XnF cs=some x):cs=Xgb x:=by
 unfold XnF at h;split at h
 ·cases h;rfl
 ·cases h
def Xc2:Value→Option Xag
 | .agg ⟨cs⟩=>XnF cs
 | _=>none
theorem Xq1 (v:Value) (x:Xag) (h:Xc2 v=some x):v=.agg ⟨Xgb x⟩:=by
 unfold Xc2 at h;split at h
 ·rw [XjT _ _ h]
 ·cases h
theorem XcM (x:Xag):Xc2 (.agg ⟨Xgb x⟩)=some x:=rfl
def Xd0 (x:Xai):List Value:=[.int .i64 x.Proto,.bool x.Src.V6,.int .u64 x.Src.Hi,.int .u64 x.Src.Lo,.bool x.Dst.V6,.int .u64 x.Dst.Hi,.int .u64 x.Dst.Lo,.int .i64 x.SPort,.int .i64 x.DPort]
theorem Xcw (x:Xai):(Xd0 x).length=9:=rfl
theorem Xbr (x:Xai):XaY.flatL (Xd0 x)=true:=rfl
theorem XfP (x:Xai):(Xd0 x).all Xiq=true:=rfl
@[simp] theorem Xy6 (xs:List Xai):(vT Xd0 xs).length=xs.length*9:=XhF Xcw xs
@[simp] theorem Xyk (xs:List Xai) (n:Nat):(vT Xd0 xs).take (n*9)=vT Xd0 (xs.take n):=Xgx Xcw xs n
@[simp] theorem XAh (xs:List Xai) (n:Nat):(vT Xd0 xs).drop (n*9)=vT Xd0 (xs.drop n):=Xgu Xcw xs n
def Xi1:List Value→Option Xai
 | [.int .i64 a1,.bool a2,.int .u64 a3,.int .u64 a4,.bool a5,.int .u64 a6,.int .u64 a7,.int .i64 a8,.int .i64 a9]=>some (Xai.mk a1 (Xag.mk a2 a3 a4) (Xag.mk a5 a6 a7) a8 a9)
 | _=>none
theorem XgD (cs:List Value) (x:Xai) (h:Xi1 cs=some x):cs=Xd0 x:=by
 unfold Xi1 at h;split at h
 ·cases h;rfl
 ·cases h
def XdQ:Value→Option Xai
 | .agg ⟨cs⟩=>Xi1 cs
 | _=>none
theorem XpS (v:Value) (x:Xai) (h:XdQ v=some x):v=.agg ⟨Xd0 x⟩:=by
 unfold XdQ at h;split at h
 ·rw [XgD _ _ h]
 ·cases h
theorem XdT (x:Xai):XdQ (.agg ⟨Xd0 x⟩)=some x:=rfl
def XgB (x:XgL):List Value:=[.int .i64 x.Kind,.string ⟨⟨x.S⟩⟩,.int .i64 x.T.Proto,.bool x.T.Src.V6,.int .u64 x.T.Src.Hi,.int .u64 x.T.Src.Lo,.bool x.T.Dst.V6,.int .u64 x.T.Dst.Hi,.int .u64 x.T.Dst.Lo,.int .i64 x.T.SPort,.int .i64 x.T.DPort,.int .u32 x.Clock]
theorem Xcj (x:XgL):(XgB x).length=12:=rfl
theorem XbI (x:XgL):XaY.flatL (XgB x)=true:=rfl
theorem Xgj (x:XgL):(XgB x).all Xiq=true:=rfl
@[simp] theorem XAZ (xs:List XgL):(vT XgB xs).length=xs.length*12:=XhF Xcj xs
@[simp] theorem XA1 (xs:List XgL) (n:Nat):(vT XgB xs).take (n*12)=vT XgB (xs.take n):=Xgx Xcj xs n
@[simp] theorem XA6 (xs:List XgL) (n:Nat):(vT XgB xs).drop (n*12)=vT XgB (xs.drop n):=Xgu Xcj xs n
def XnM:List Value→Option XgL
 | [.int .i64 a1,.string ⟨⟨a2⟩⟩,.int .i64 a3,.bool a4,.int .u64 a5,.int .u64 a6,.bool a7,.int .u64 a8,.int .u64 a9,.int .i64 a10,.int .i64 a11,.int .u32 a12]=>some (XgL.mk a1 a2 (Xai.mk a3 (Xag.mk a4 a5 a6) (Xag.mk a7 a8 a9) a10 a11) a12)
 | _=>none
theorem Xkj (cs:List Value) (x:XgL) (h:XnM cs=some x):cs=XgB x:=by
 unfold XnM at h;split at h
 ·cases h;rfl
 ·cases h
def XqL:Value→Option XgL
 | .agg ⟨cs⟩=>XnM cs
 | _=>none
theorem XrP (v:Value) (x:XgL) (h:XqL v=some x):v=.agg ⟨XgB x⟩:=by
 unfold XqL at h;split at h
 ·rw [Xkj _ _ h]
 ·cases h
def XaC (x:Xan):List Value:=[.agg ⟨Xd0 x.key⟩,.int .u64 x.val]
theorem Xmb (x:Xan):(XaC x).length=2:=rfl
def XgK:List Value→Option Xan
 | [.agg ⟨cs⟩,.int .u64 v]=>(Xi1 cs).bind fun k=>some ⟨k,v⟩
 | _=>none
theorem XlY (cs:List Value) (x:Xan) (h:XgK cs=some x):cs=XaC x:=by
 unfold XgK at h;split at h
 ·simp only [Option.bind_eq_some_iff] at h
  obtain ⟨k,hk,h⟩:=h
  cases h;rw [XgD _ _ hk];rfl
 ·cases h
theorem Xm1 (x:Xan):XgK (XaC x)=some x:=rfl
def XbA (a b:Xai):Bool:=a.Proto==b.Proto&&(a.Src.V6==b.Src.V6&&(a.Src.Hi==b.Src.Hi&&(a.Src.Lo==b.Src.Lo&&(a.Dst.V6==b.Dst.V6&&(a.Dst.Hi==b.Dst.Hi&&(a.Dst.Lo==b.Dst.Lo&&(a.SPort==b.SPort&&(a.DPort==b.DPort&&true))))))))
def Xb0 (t:Xai) (xs:List Xan):Bool:=XGJ (fun e:Xan=>e.key) XbA t xs
def XbZ (z:Int) (t:Xai) (xs:List Xan):Int:=XFs (fun e:Xan=>e.key) XbA (fun e:Xan=>e.val) z t xs
def XaM (t:Xai) (v:Int) (xs:List Xan):List Xan:=XF8 (fun e:Xan=>e.key) XbA Xan.mk t v xs
def XbS (t:Xai) (xs:List Xan):List Xan:=XA4 (fun e:Xan=>e.key) XbA t xs
theorem Xd8:Xtb XaC Xd0 (fun v:Int=>.int .u64 v) (fun e:Xan=>e.key) (fun e:Xan=>e.val) Xan.mk XbA [(0,.int .i64),(1,.bool),(2,.int .u64),(3,.int .u64),(4,.bool),(5,.int .u64),(6,.int .u64),(7,.int .i64),(8,.int .i64)]:=⟨fun _=>rfl,fun _ _=>rfl,fun _ _=>rfl,fun _=>rfl,fun _=>rfl,fun _=>rfl,fun _ _=>rfl,fun _ _=>rfl⟩
def Xe9 (x:XaN):List Value:=[.bool x.V6,.int .i64 x.Backend,.int .u64 x.Cookie,.bool x.First,.int .i64 x.Instance]
theorem Xds (x:XaN):(Xe9 x).length=5:=rfl
theorem Xbt (x:XaN):XaY.flatL (Xe9 x)=true:=rfl
theorem XfL (x:XaN):(Xe9 x).all Xiq=true:=rfl
@[simp] theorem XAv (xs:List XaN):(vT Xe9 xs).length=xs.length*5:=XhF Xds xs
@[simp] theorem XzG (xs:List XaN) (n:Nat):(vT Xe9 xs).take (n*5)=vT Xe9 (xs.take n):=Xgx Xds xs n
@[simp] theorem XxO (xs:List XaN) (n:Nat):(vT Xe9 xs).drop (n*5)=vT Xe9 (xs.drop n):=Xgu Xds xs n
def Xmh:List Value→Option XaN
 | [.bool a1,.int .i64 a2,.int .u64 a3,.bool a4,.int .i64 a5]=>some (XaN.mk a1 a2 a3 a4 a5)
 | _=>none
theorem XjD (cs:List Value) (x:XaN) (h:Xmh cs=some x):cs=Xe9 x:=by
 unfold Xmh at h;split at h
 ·cases h;rfl
 ·cases h
def XiX:Value→Option XaN
 | .agg ⟨cs⟩=>Xmh cs
 | _=>none
theorem XpW (v:Value) (x:XaN) (h:XiX v=some x):v=.agg ⟨Xe9 x⟩:=by
 unfold XiX at h;split at h
 ·rw [XjD _ _ h]
 ·cases h
theorem XmN (x:XaN):XiX (.agg ⟨Xe9 x⟩)=some x:=rfl
def Xdz (x:Xaj):List Value:=[.string ⟨⟨x.s⟩⟩,.bool x.made,.bool x.bad]
theorem Xdi (x:Xaj):(Xdz x).length=3:=rfl
theorem Xa0 (x:Xaj):XaY.flatL (Xdz x)=true:=rfl
theorem Xen (x:Xaj):(Xdz x).all Xiq=true:=rfl
@[simp] theorem Xvo (xs:List Xaj):(vT Xdz xs).length=xs.length*3:=XhF Xdi xs
@[simp] theorem XuB (xs:List Xaj) (n:Nat):(vT Xdz xs).take (n*3)=vT Xdz (xs.take n):=Xgx Xdi xs n
@[simp] theorem Xus (xs:List Xaj) (n:Nat):(vT Xdz xs).drop (n*3)=vT Xdz (xs.drop n):=Xgu Xdi xs n
def Xdr:List Value→Option Xaj
 | [.string ⟨⟨a1⟩⟩,.bool a2,.bool a3]=>some (Xaj.mk a1 a2 a3)
 | _=>none
theorem Xgn (cs:List Value) (x:Xaj) (h:Xdr cs=some x):cs=Xdz x:=by
 unfold Xdr at h;split at h
 ·cases h;rfl
 ·cases h
theorem XfJ (x:Xaj):Xdr (Xdz x)=some x:=rfl
def XlM:Value→Option Xaj
 | .agg ⟨cs⟩=>Xdr cs
 | _=>none
theorem XnP (v:Value) (x:Xaj) (h:XlM v=some x):v=.agg ⟨Xdz x⟩:=by
 unfold XlM at h;split at h
 ·rw [Xgn _ _ h]
 ·cases h
def Xd6 (x:Xav):List Value:=[.int .i64 x.Tuple.Proto,.bool x.Tuple.Src.V6,.int .u64 x.Tuple.Src.Hi,.int .u64 x.Tuple.Src.Lo,.bool x.Tuple.Dst.V6,.int .u64 x.Tuple.Dst.Hi,.int .u64 x.Tuple.Dst.Lo,.int .i64 x.Tuple.SPort,.int .i64 x.Tuple.DPort,.int .i64 x.Flags,.bool x.Stamped,.int .u32 x.Val,.int .u32 x.Echo,.bool x.Long,.string ⟨⟨x.CID⟩⟩,.int .i64 x.Size]
theorem Xbs (x:Xav):(Xd6 x).length=16:=rfl
theorem Xbf (x:Xav):XaY.flatL (Xd6 x)=true:=rfl
theorem Xff (x:Xav):(Xd6 x).all Xiq=true:=rfl
@[simp] theorem XwZ (xs:List Xav):(vT Xd6 xs).length=xs.length*16:=XhF Xbs xs
@[simp] theorem Xw1 (xs:List Xav) (n:Nat):(vT Xd6 xs).take (n*16)=vT Xd6 (xs.take n):=Xgx Xbs xs n
@[simp] theorem XwX (xs:List Xav) (n:Nat):(vT Xd6 xs).drop (n*16)=vT Xd6 (xs.drop n):=Xgu Xbs xs n
def XgZ:List Value→Option Xav
 | [.int .i64 a1,.bool a2,.int .u64 a3,.int .u64 a4,.bool a5,.int .u64 a6,.int .u64 a7,.int .i64 a8,.int .i64 a9,.int .i64 a10,.bool a11,.int .u32 a12,.int .u32 a13,.bool a14,.string ⟨⟨a15⟩⟩,.int .i64 a16]=>some (Xav.mk (Xai.mk a1 (Xag.mk a2 a3 a4) (Xag.mk a5 a6 a7) a8 a9) a10 a11 a12 a13 a14 a15 a16)
 | _=>none
theorem Xi4 (cs:List Value) (x:Xav) (h:XgZ cs=some x):cs=Xd6 x:=by
 unfold XgZ at h;split at h
 ·cases h;rfl
 ·cases h
theorem XlK (x:Xav):XgZ (Xd6 x)=some x:=rfl
def Xij:Value→Option Xav
 | .agg ⟨cs⟩=>XgZ cs
 | _=>none
theorem Xpp (v:Value) (x:Xav) (h:Xij v=some x):v=.agg ⟨Xd6 x⟩:=by
 unfold Xij at h;split at h
 ·rw [Xi4 _ _ h]
 ·cases h
theorem XlL (x:Xav):Xij (.agg ⟨Xd6 x⟩)=some x:=rfl
def XdE (x:XaS):List Value:=[.bool x.src.V6,.int .u64 x.src.Hi,.int .u64 x.src.Lo,.bool x.dst.V6,.int .u64 x.dst.Hi,.int .u64 x.dst.Lo,.int .i64 x.proto,.string ⟨⟨x.body⟩⟩]
theorem Xb7 (x:XaS):(XdE x).length=8:=rfl
theorem Xa1 (x:XaS):XaY.flatL (XdE x)=true:=rfl
theorem Xej (x:XaS):(XdE x).all Xiq=true:=rfl
@[simp] theorem Xvn (xs:List XaS):(vT XdE xs).length=xs.length*8:=XhF Xb7 xs
@[simp] theorem Xu6 (xs:List XaS) (n:Nat):(vT XdE xs).take (n*8)=vT XdE (xs.take n):=Xgx Xb7 xs n
@[simp] theorem Xva (xs:List XaS) (n:Nat):(vT XdE xs).drop (n*8)=vT XdE (xs.drop n):=Xgu Xb7 xs n
def XjB:List Value→Option XaS
 | [.bool a1,.int .u64 a2,.int .u64 a3,.bool a4,.int .u64 a5,.int .u64 a6,.int .i64 a7,.string ⟨⟨a8⟩⟩]=>some (XaS.mk (Xag.mk a1 a2 a3) (Xag.mk a4 a5 a6) a7 a8)
 | _=>none
theorem XhR (cs:List Value) (x:XaS) (h:XjB cs=some x):cs=XdE x:=by
 unfold XjB at h;split at h
 ·cases h;rfl
 ·cases h
def XgE:Value→Option XaS
 | .agg ⟨cs⟩=>XjB cs
 | _=>none
theorem XnE (v:Value) (x:XaS) (h:XgE v=some x):v=.agg ⟨XdE x⟩:=by
 unfold XgE at h;split at h
 ·rw [XhR _ _ h]
 ·cases h
theorem Xko (x:XaS):XgE (.agg ⟨XdE x⟩)=some x:=rfl
def XdW (x:XaD):List Value:=[.int .i64 x.Class,.int .i64 x.Mark,.bool x.Whole,.int .i64 x.TTL,.int .i64 x.Proto,.bool x.Src.V6,.int .u64 x.Src.Hi,.int .u64 x.Src.Lo,.bool x.Dst.V6,.int .u64 x.Dst.Hi,.int .u64 x.Dst.Lo,.string ⟨⟨x.Options⟩⟩]
theorem XbM (x:XaD):(XdW x).length=12:=rfl
theorem Xa8 (x:XaD):XaY.flatL (XdW x)=true:=rfl
theorem XeD (x:XaD):(XdW x).all Xiq=true:=rfl
@[simp] theorem Xwj (xs:List XaD):(vT XdW xs).length=xs.length*12:=XhF XbM xs
@[simp] theorem Xwk (xs:List XaD) (n:Nat):(vT XdW xs).take (n*12)=vT XdW (xs.take n):=Xgx XbM xs n
@[simp] theorem Xwo (xs:List XaD) (n:Nat):(vT XdW xs).drop (n*12)=vT XdW (xs.drop n):=Xgu XbM xs n
def Xkk:List Value→Option XaD
 | [.int .i64 a1,.int .i64 a2,.bool a3,.int .i64 a4,.int .i64 a5,.bool a6,.int .u64 a7,.int .u64 a8,.bool a9,.int .u64 a10,.int .u64 a11,.string ⟨⟨a12⟩⟩]=>some (XaD.mk a1 a2 a3 a4 a5 (Xag.mk a6 a7 a8) (Xag.mk a9 a10 a11) a12)
 | _=>none
theorem Xiv (cs:List Value) (x:XaD) (h:Xkk cs=some x):cs=XdW x:=by
 unfold Xkk at h;split at h
 ·cases h;rfl
 ·cases h
def Xht:Value→Option XaD
 | .agg ⟨cs⟩=>Xkk cs
 | _=>none
theorem Xn9 (v:Value) (x:XaD) (h:Xht v=some x):v=.agg ⟨XdW x⟩:=by
 unfold Xht at h;split at h
 ·rw [Xiv _ _ h]
 ·cases h
theorem XkK (x:XaD):Xht (.agg ⟨XdW x⟩)=some x:=rfl
def Xew (x:XaX):List Value:=[.int .i64 x.Class,.int .i64 x.Label,.int .i64 x.Next,.int .i64 x.Hop,.bool x.Src.V6,.int .u64 x.Src.Hi,.int .u64 x.Src.Lo,.bool x.Dst.V6,.int .u64 x.Dst.Hi,.int .u64 x.Dst.Lo]
theorem Xb9 (x:XaX):(Xew x).length=10:=rfl
theorem Xbg (x:XaX):XaY.flatL (Xew x)=true:=rfl
theorem Xfi (x:XaX):(Xew x).all Xiq=true:=rfl
@[simp] theorem XwU (xs:List XaX):(vT Xew xs).length=xs.length*10:=XhF Xb9 xs
@[simp] theorem XwY (xs:List XaX) (n:Nat):(vT Xew xs).take (n*10)=vT Xew (xs.take n):=Xgx Xb9 xs n
@[simp] theorem Xw0 (xs:List XaX) (n:Nat):(vT Xew xs).drop (n*10)=vT Xew (xs.drop n):=Xgu Xb9 xs n
def Xkw:List Value→Option XaX
 | [.int .i64 a1,.int .i64 a2,.int .i64 a3,.int .i64 a4,.bool a5,.int .u64 a6,.int .u64 a7,.bool a8,.int .u64 a9,.int .u64 a10]=>some (XaX.mk a1 a2 a3 a4 (Xag.mk a5 a6 a7) (Xag.mk a8 a9 a10))
 | _=>none
theorem Xi8 (cs:List Value) (x:XaX) (h:Xkw cs=some x):cs=Xew x:=by
 unfold Xkw at h;split at h
 ·cases h;rfl
 ·cases h
def Xir:Value→Option XaX
 | .agg ⟨cs⟩=>Xkw cs
 | _=>none
theorem Xpw (v:Value) (x:XaX) (h:Xir v=some x):v=.agg ⟨Xew x⟩:=by
 unfold Xir at h;split at h
 ·rw [Xi8 _ _ h]
 ·cases h
theorem XlE (x:XaX):Xir (.agg ⟨Xew x⟩)=some x:=rfl
def Xf3 (x:XaT):List Value:=[.int .i64 x.SPort,.int .i64 x.DPort,.int .u32 x.Seq,.int .u32 x.Ack,.int .i64 x.Flags,.int .i64 x.Window,.int .i64 x.Urgent,.string ⟨⟨x.Options⟩⟩]
theorem XcP (x:XaT):(Xf3 x).length=8:=rfl
theorem XbF (x:XaT):XaY.flatL (Xf3 x)=true:=rfl
theorem Xge (x:XaT):(Xf3 x).all Xiq=true:=rfl
@[simp] theorem XBg (xs:List XaT):(vT Xf3 xs).length=xs.length*8:=XhF XcP xs
@[simp] theorem XBb (xs:List XaT) (n:Nat):(vT Xf3 xs).take (n*8)=vT Xf3 (xs.take n):=Xgx XcP xs n
@[simp] theorem XAW (xs:List XaT) (n:Nat):(vT Xf3 xs).drop (n*8)=vT Xf3 (xs.drop n):=Xgu XcP xs n
def XnN:List Value→Option XaT
 | [.int .i64 a1,.int .i64 a2,.int .u32 a3,.int .u32 a4,.int .i64 a5,.int .i64 a6,.int .i64 a7,.string ⟨⟨a8⟩⟩]=>some (XaT.mk a1 a2 a3 a4 a5 a6 a7 a8)
 | _=>none
theorem Xj8 (cs:List Value) (x:XaT) (h:XnN cs=some x):cs=Xf3 x:=by
 unfold XnN at h;split at h
 ·cases h;rfl
 ·cases h
def XjH:Value→Option XaT
 | .agg ⟨cs⟩=>XnN cs
 | _=>none
theorem Xrr (v:Value) (x:XaT) (h:XjH v=some x):v=.agg ⟨Xf3 x⟩:=by
 unfold XjH at h;split at h
 ·rw [Xj8 _ _ h]
 ·cases h
theorem Xn5 (x:XaT):XjH (.agg ⟨Xf3 x⟩)=some x:=rfl
def XgO (x:XcR):List Value:=[.int .i64 x.Kind,.string ⟨⟨x.Data⟩⟩]
theorem Xfp (x:XcR):(XgO x).length=2:=rfl
theorem Xbi (x:XcR):XaY.flatL (XgO x)=true:=rfl
theorem Xhl (x:XcR):(XgO x).all Xiq=true:=rfl
@[simp] theorem XDG (xs:List XcR):(vT XgO xs).length=xs.length*2:=XhF Xfp xs
@[simp] theorem XFg (xs:List XcR) (n:Nat):(vT XgO xs).take (n*2)=vT XgO (xs.take n):=Xgx Xfp xs n
@[simp] theorem XDn (xs:List XcR) (n:Nat):(vT XgO xs).drop (n*2)=vT XgO (xs.drop n):=Xgu Xfp xs n
def XoM:List Value→Option XcR
 | [.int .i64 a1,.string ⟨⟨a2⟩⟩]=>some (XcR.mk a1 a2)
 | _=>none
theorem XkJ (cs:List Value) (x:XcR) (h:XoM cs=some x):cs=XgO x:=by
 unfold XoM at h;split at h
 ·cases h;rfl
 ·cases h
def Xs0:Value→Option XcR
 | .agg ⟨cs⟩=>XoM cs
 | _=>none
theorem XsY (v:Value) (x:XcR) (h:Xs0 v=some x):v=.agg ⟨XgO x⟩:=by
 unfold Xs0 at h;split at h
 ·rw [XkJ _ _ h]
 ·cases h
def XgC (x:Xcl):List Value:=[.int .i64 x.SPort,.int .i64 x.DPort]
theorem XfF (x:Xcl):(XgC x).length=2:=rfl
theorem XbE (x:Xcl):XaY.flatL (XgC x)=true:=rfl
theorem Xgm (x:Xcl):(XgC x).all Xiq=true:=rfl
@[simp] theorem XA3 (xs:List Xcl):(vT XgC xs).length=xs.length*2:=XhF XfF xs
@[simp] theorem XA5 (xs:List Xcl) (n:Nat):(vT XgC xs).take (n*2)=vT XgC (xs.take n):=Xgx XfF xs n
@[simp] theorem XBc (xs:List Xcl) (n:Nat):(vT XgC xs).drop (n*2)=vT XgC (xs.drop n):=Xgu XfF xs n
def XnL:List Value→Option Xcl
 | [.int .i64 a1,.int .i64 a2]=>some (Xcl.mk a1 a2)
 | _=>none
theorem Xki (cs:List Value) (x:Xcl) (h:XnL cs=some x):cs=XgC x:=by
 unfold XnL at h;split at h
 ·cases h;rfl
 ·cases h
def Xqz:Value→Option Xcl
 | .agg ⟨cs⟩=>XnL cs
 | _=>none
theorem Xq5 (v:Value) (x:Xcl) (h:Xqz v=some x):v=.agg ⟨XgC x⟩:=by
 unfold Xqz at h;split at h
 ·rw [Xki _ _ h]
 ·cases h
def XfM (x:Xcu):List Value:=[.bool x.Long,.int .i64 x.Bits,.int .u32 x.Version,.string ⟨⟨x.DCID⟩⟩,.string ⟨⟨x.SCID⟩⟩,.string ⟨⟨x.Rest⟩⟩]
theorem Xc8 (x:Xcu):(XfM x).length=6:=rfl
theorem Xbq (x:Xcu):XaY.flatL (XfM x)=true:=rfl
theorem XfO (x:Xcu):(XfM x).all Xiq=true:=rfl
@[simp] theorem Xyl (xs:List Xcu):(vT XfM xs).length=xs.length*6:=XhF Xc8 xs
@[simp] theorem Xxa (xs:List Xcu) (n:Nat):(vT XfM xs).take (n*6)=vT XfM (xs.take n):=Xgx Xc8 xs n
@[simp] theorem Xzj (xs:List Xcu) (n:Nat):(vT XfM xs).drop (n*6)=vT XfM (xs.drop n):=Xgu Xc8 xs n
def Xl6:List Value→Option Xcu
 | [.bool a1,.int .i64 a2,.int .u32 a3,.string ⟨⟨a4⟩⟩,.string ⟨⟨a5⟩⟩,.string ⟨⟨a6⟩⟩]=>some (Xcu.mk a1 a2 a3 a4 a5 a6)
 | _=>none
theorem Xjx (cs:List Value) (x:Xcu) (h:Xl6 cs=some x):cs=XfM x:=by
 unfold Xl6 at h;split at h
 ·cases h;rfl
 ·cases h
def XoN:Value→Option Xcu
 | .agg ⟨cs⟩=>Xl6 cs
 | _=>none
theorem XpT (v:Value) (x:Xcu) (h:XoN v=some x):v=.agg ⟨XfM x⟩:=by
 unfold XoN at h;split at h
 ·rw [Xjx _ _ h]
 ·cases h
def XgF (x:XgN):List Value:=[.bool x.src.V6,.int .u64 x.src.Hi,.int .u64 x.src.Lo,.bool x.dst.V6,.int .u64 x.dst.Hi,.int .u64 x.dst.Lo,.int .i64 x.proto,.int .i64 x.size,.string ⟨⟨x.body⟩⟩]
theorem XcK (x:XgN):(XgF x).length=9:=rfl
theorem XbG (x:XgN):XaY.flatL (XgF x)=true:=rfl
theorem Xgk (x:XgN):(XgF x).all Xiq=true:=rfl
@[simp] theorem XBj (xs:List XgN):(vT XgF xs).length=xs.length*9:=XhF XcK xs
@[simp] theorem XAS (xs:List XgN) (n:Nat):(vT XgF xs).take (n*9)=vT XgF (xs.take n):=Xgx XcK xs n
@[simp] theorem XBi (xs:List XgN) (n:Nat):(vT XgF xs).drop (n*9)=vT XgF (xs.drop n):=Xgu XcK xs n
def Xnh:List Value→Option XgN
 | [.bool a1,.int .u64 a2,.int .u64 a3,.bool a4,.int .u64 a5,.int .u64 a6,.int .i64 a7,.int .i64 a8,.string ⟨⟨a9⟩⟩]=>some (XgN.mk (Xag.mk a1 a2 a3) (Xag.mk a4 a5 a6) a7 a8 a9)
 | _=>none
theorem Xkh (cs:List Value) (x:XgN) (h:Xnh cs=some x):cs=XgF x:=by
 unfold Xnh at h;split at h
 ·cases h;rfl
 ·cases h
def Xqq:Value→Option XgN
 | .agg ⟨cs⟩=>Xnh cs
 | _=>none
theorem XrT (v:Value) (x:XgN) (h:Xqq v=some x):v=.agg ⟨XgF x⟩:=by
 unfold Xqq at h;split at h
 ·rw [Xkh _ _ h]
 ·cases h
def Xh9 (x:Xit):List Value:=[.int .i64 x.Kind,.string ⟨⟨x.Data⟩⟩,.int .i64 x.At]
theorem Xfo (x:Xit):(Xh9 x).length=3:=rfl
theorem XbV (x:Xit):XaY.flatL (Xh9 x)=true:=rfl
theorem Xg9 (x:Xit):(Xh9 x).all Xiq=true:=rfl
@[simp] theorem XB3 (xs:List Xit):(vT Xh9 xs).length=xs.length*3:=XhF Xfo xs
@[simp] theorem XCV (xs:List Xit) (n:Nat):(vT Xh9 xs).take (n*3)=vT Xh9 (xs.take n):=Xgx Xfo xs n
@[simp] theorem XEo (xs:List Xit) (n:Nat):(vT Xh9 xs).drop (n*3)=vT Xh9 (xs.drop n):=Xgu Xfo xs n
def XpK:List Value→Option Xit
 | [.int .i64 a1,.string ⟨⟨a2⟩⟩,.int .i64 a3]=>some (Xit.mk a1 a2 a3)
 | _=>none
theorem Xkx (cs:List Value) (x:Xit) (h:XpK cs=some x):cs=Xh9 x:=by
 unfold XpK at h;split at h
 ·cases h;rfl
 ·cases h
def Xse:Value→Option Xit
 | .agg ⟨cs⟩=>XpK cs
 | _=>none
theorem Xsc (v:Value) (x:Xit) (h:Xse v=some x):v=.agg ⟨Xh9 x⟩:=by
 unfold Xse at h;split at h
 ·rw [Xkx _ _ h]
 ·cases h
def Xhx (k:Nat):Value→List (Option (List Value))→Option Xdc
 | .agg ⟨[.pointer (some ⟨k0,0,none⟩)]⟩,[some c0]=>match Xdr c0 with|some x0=>(if k0=k+0 then some (Xdc.mk x0) else none)|none=>none
 | _,_=>none
theorem Xmz {k:Nat} {v:Value} {cs:List (Option (List Value))} {x:Xdc} (h:Xhx k v cs=some x):v=.agg ⟨[.pointer (some ⟨k+0,0,none⟩)]⟩∧cs=[some [.string ⟨⟨x.Reader.s⟩⟩,.bool x.Reader.made,.bool x.Reader.bad]]:=by
 unfold Xhx at h;split at h<;>try (cases h;done)
 split at h<;>try (cases h;done)
 rename_i x0 e0
 split at h<;>cases h
 rename_i hk
 subst hk
 obtain rfl:=Xgn _ _ e0
 exact ⟨rfl,rfl⟩
theorem XnJ (k:Nat) (x:Xdc):Xhx k (.agg ⟨[.pointer (some ⟨k+0,0,none⟩)]⟩) [some [.string ⟨⟨x.Reader.s⟩⟩,.bool x.Reader.made,.bool x.Reader.bad]]=some x:=by
 show (if k+0=k+0 then some x else none)=_
 simp
def Xfv (k:Nat):Value→List (Option (List Value))→Option XbC
 | .pointer (some ⟨k0,0,none⟩),[some [.int .i64 a1,.int .u32 a2,.map none],none]=>if k0=k+0 then some (XbC.mk a1 a2 NilMap.mk) else none
 | _,_=>none
theorem XoJ {k:Nat} {v:Value} {cs:List (Option (List Value))} {x:XbC} (h:Xfv k v cs=some x):v=.pointer (some ⟨k+0,0,none⟩)∧cs=[some [.int .i64 x.id_,.int .u32 x.clock,.map none],none]:=by
 unfold Xfv at h;split at h<;>try (cases h;done)
 split at h<;>cases h
 rename_i hk
 subst hk
 exact ⟨rfl,rfl⟩
theorem Xic (k:Nat) (x:XbC):Xfv k (.pointer (some ⟨k+0,0,none⟩)) [some [.int .i64 x.id_,.int .u32 x.clock,.map none],none]=some x:=by
 simp only [Xfv];simp
def XdI (k:Nat):Value→List (Option (List Value))→Option Xah
 | .pointer (some ⟨k0,0,none⟩),[some [.int .i64 a1,.int .u32 a2,.map (some k1)],some c1]=>match (unR 2 XgK) c1 with|some x1=>(if k0=k+0∧k1=k+1 then some (Xah.mk a1 a2 x1) else none)|none=>none
 | _,_=>none
theorem XoO {k:Nat} {v:Value} {cs:List (Option (List Value))} {x:Xah} (h:XdI k v cs=some x):v=.pointer (some ⟨k+0,0,none⟩)∧cs=[some [.int .i64 x.id_,.int .u32 x.clock,.map (some (k+1))],some (vT XaC x.cookies)]:=by
 unfold XdI at h;split at h<;>try (cases h;done)
 split at h<;>try (cases h;done)
 rename_i x1 e1
 split at h<;>cases h
 rename_i hk
 obtain ⟨rfl,rfl⟩:=hk
 obtain rfl:=XhL XlY e1
 exact ⟨rfl,rfl⟩
theorem Xe2 (k:Nat) (x:Xah):XdI k (.pointer (some ⟨k+0,0,none⟩)) [some [.int .i64 x.id_,.int .u32 x.clock,.map (some (k+1))],some (vT XaC x.cookies)]=some x:=by
 simp only [XdI,XPi Xmb (by decide) Xm1];simp
def XqX (k:Nat):Value→List (Option (List Value))→Option Xrc
 | .pointer (some ⟨k0,0,none⟩),[some [.int .i64 a1,.int .u32 a2,.slice (some ⟨k1,0,none⟩) n1 s1,.slice (some ⟨k2,0,none⟩) n2 s2],some c1,some c2]=>match (unR 9 Xi1) c1 with|some x1=>(match (unL (asI .u64)) c2 with|some x2=>(if k0=k+0∧k1=k+1∧n1=x1.length∧s1=9∧k2=k+2∧n2=x2.length∧s2=1 then some (Xrc.mk a1 a2 x1 x2) else none)|none=>none)|none=>none
 | _,_=>none
theorem XrW {k:Nat} {v:Value} {cs:List (Option (List Value))} {x:Xrc} (h:XqX k v cs=some x):v=.pointer (some ⟨k+0,0,none⟩)∧cs=[some [.int .i64 x.ID,.int .u32 x.Clock,.slice (some ⟨k+1,0,none⟩) x.Flows.length 9,.slice (some ⟨k+2,0,none⟩) x.Cookies.length 1],some (vT Xd0 x.Flows),some (vI .u64 x.Cookies)]:=by
 unfold XqX at h;split at h<;>try (cases h;done)
 split at h<;>try (cases h;done)
 rename_i x1 e1
 split at h<;>try (cases h;done)
 rename_i x2 e2
 split at h<;>cases h
 rename_i hk
 obtain ⟨rfl,rfl,rfl,rfl,rfl,rfl,rfl⟩:=hk
 obtain rfl:=XhL XgD e1
 obtain rfl:=XHo e2
 exact ⟨rfl,rfl⟩
theorem XfS.a {s:Xb3} {vals aqs:List Value} {os:List (Option Xbx)} {h h1 h2:Hp} {top n m t':Nat} {ws:List Wd} {r:Xc4} {v':Value} {cw:List (Option (List Value))} {K:Value→Hp→Nat→Prop} (e2:s.run aqs cw=some r)
 (k:XhK v' fun v=>Xk1 [] (Xjg h2 (top+n) m) fun h'=>K v h' t')
 (e1:Xdy h 0 s.modes vals=some (aqs,os):=by repeat' first|exact XTY|apply XMi|rfl|exact XRL rfl rfl rfl (by first|rfl|(simp only [XaY.flatL,Xez];rfl))|exact XFy rfl rfl (Nat.le_of_ble_eq_true rfl) rfl (by first|rfl|(simp only [XaY.flatL,Xez];rfl))|exact XJx rfl rfl (by first|rfl|omega) (by first|rfl|(simp;done))|exact XJL rfl rfl (by first|rfl|omega) (by first|rfl|(simp;done))|exact XJB rfl rfl (by first|rfl|omega) (by first|rfl|(simp;done))|exact XgS XeO XbJ rfl rfl (by first|rfl|omega) (by first|rfl|(simp;done))|exact XgS Xcw Xbr rfl rfl (by first|rfl|omega) (by first|rfl|(simp;done))|exact XgS Xcj XbI rfl rfl (by first|rfl|omega) (by first|rfl|(simp;done))|exact XgS Xds Xbt rfl rfl (by first|rfl|omega) (by first|rfl|(simp;done))|exact XgS Xdi Xa0 rfl rfl (by first|rfl|omega) (by first|rfl|(simp;done))|exact XgS Xbs Xbf rfl rfl (by first|rfl|omega) (by first|rfl|(simp;done))|exact XgS Xb7 Xa1 rfl rfl (by first|rfl|omega) (by first|rfl|(simp;done))|exact XgS XbM Xa8 rfl rfl (by first|rfl|omega) (by first|rfl|(simp;done))|exact XgS Xb9 Xbg rfl rfl (by first|rfl|omega) (by first|rfl|(simp;done))|exact XgS XcP XbF rfl rfl (by first|rfl|omega) (by first|rfl|(simp;done))|exact XgS Xfp Xbi rfl rfl (by first|rfl|omega) (by first|rfl|(simp;done))|exact XgS XfF XbE rfl rfl (by first|rfl|omega) (by first|rfl|(simp;done))|exact XgS Xc8 Xbq rfl rfl (by first|rfl|omega) (by first|rfl|(simp;done))|exact XgS XcK XbG rfl rfl (by first|rfl|omega) (by first|rfl|(simp;done))|exact XgS Xfo XbV rfl rfl (by first|rfl|omega) (by first|rfl|(simp;done))|exact XGs rfl rfl (by first|rfl|omega) (by first|rfl|omega) (by first|omega|(simp at *;omega))|exact XFP rfl rfl (by first|rfl|omega) (by first|rfl|omega) (by first|omega|(simp at *;omega))|exact XGG rfl rfl (by first|rfl|omega) (by first|rfl|omega) (by first|omega|(simp at *;omega))|exact XiA XeO XbJ rfl rfl (by first|rfl|omega) (by first|rfl|omega) (by first|omega|(simp at *;omega))|exact XiA Xcw Xbr rfl rfl (by first|rfl|omega) (by first|rfl|omega) (by first|omega|(simp at *;omega))|exact XiA Xcj XbI rfl rfl (by first|rfl|omega) (by first|rfl|omega) (by first|omega|(simp at *;omega))|exact XiA Xds Xbt rfl rfl (by first|rfl|omega) (by first|rfl|omega) (by first|omega|(simp at *;omega))|exact XiA Xdi Xa0 rfl rfl (by first|rfl|omega) (by first|rfl|omega) (by first|omega|(simp at *;omega))|exact XiA Xbs Xbf rfl rfl (by first|rfl|omega) (by first|rfl|omega) (by first|omega|(simp at *;omega))|exact XiA Xb7 Xa1 rfl rfl (by first|rfl|omega) (by first|rfl|omega) (by first|omega|(simp at *;omega))|exact XiA XbM Xa8 rfl rfl (by first|rfl|omega) (by first|rfl|omega) (by first|omega|(simp at *;omega))|exact XiA Xb9 Xbg rfl rfl (by first|rfl|omega) (by first|rfl|omega) (by first|omega|(simp at *;omega))|exact XiA XcP XbF rfl rfl (by first|rfl|omega) (by first|rfl|omega) (by first|omega|(simp at *;omega))|exact XiA Xfp Xbi rfl rfl (by first|rfl|omega) (by first|rfl|omega) (by first|omega|(simp at *;omega))|exact XiA XfF XbE rfl rfl (by first|rfl|omega) (by first|rfl|omega) (by first|omega|(simp at *;omega))|exact XiA Xc8 Xbq rfl rfl (by first|rfl|omega) (by first|rfl|omega) (by first|omega|(simp at *;omega))|exact XiA XcK XbG rfl rfl (by first|rfl|omega) (by first|rfl|omega) (by first|omega|(simp at *;omega))|exact XiA Xfo XbV rfl rfl (by first|rfl|omega) (by first|rfl|omega) (by first|omega|(simp at *;omega))|(apply ra_tr rfl rfl _ rfl;repeat' first|exact XOr|apply XPe|apply vp_no|apply XQh rfl rfl|apply vp_at rfl rfl (by first|rfl|exact Xud|exact Xt7|exact Xto|exact XbN XbJ|exact XbN Xbr|exact XbN XbI|exact XbN Xbt|exact XbN Xa0|exact XbN Xbf|exact XbN Xa1|exact XbN Xa8|exact XbN Xbg|exact XbN XbF|exact XbN Xbi|exact XbN XbE|exact XbN Xbq|exact XbN XbG|exact XbN XbV|exact Xcn _ _ (by simp only [XaY.flatL,Xez];rfl)) rfl))
 (ec:Xkt os=cw:=by rfl)
 (ew:Xkn h s.modes vals=ws:=by first|exact (rfl:_=[])|exact (rfl:_=[_])|exact (rfl:_=[_,_])|exact (rfl:_=[_,_,_])|exact (rfl:_=[_,_,_,_])|exact (rfl:_=[_,_,_,_,_])|exact (rfl:_=[_,_,_,_,_,_])|exact (rfl:_=[_,_,_,_,_,_,_])|exact (rfl:_=[_,_,_,_,_,_,_,_])|exact (rfl:_=[_,_,_,_,_,_,_,_,_])|exact (rfl:_=[_,_,_,_,_,_,_,_,_,_])|exact (rfl:_=[_,_,_,_,_,_,_,_,_,_,_])|exact (rfl:_=[_,_,_,_,_,_,_,_,_,_,_,_])|exact (rfl:_=[_,_,_,_,_,_,_,_,_,_,_,_,_])|exact (rfl:_=[_,_,_,_,_,_,_,_,_,_,_,_,_,_,_,_,_,_,_,_])|exact (rfl:_=[_,_,_,_,_,_,_,_,_,_,_,_,_,_,_,_,_,_,_,_,_])|exact (rfl:_=[_,_,_,_,_,_,_,_,_,_,_,_,_,_,_,_,_,_,_,_,_,_])|exact (rfl:_=[_,_,_,_,_,_,_,_,_,_,_,_,_,_,_,_,_,_,_,_,_,_,_]))
 (e3:apartB ws=true:=by exact rfl)
 (hn:r.new.length=n:=by first|exact (rfl:_=0)|exact (rfl:_=1)|exact (rfl:_=2)|exact (rfl:_=3)|exact (rfl:_=4)|exact (rfl:_=5)|exact (rfl:_=6)|exact (rfl:_=7)|exact (rfl:_=8)|exact (rfl:_=9)|exact (rfl:_=10)|exact (rfl:_=11)|exact (rfl:_=12)|exact (rfl:_=13)|exact (rfl:_=14)|exact (rfl:_=15)|exact (rfl:_=16)|exact (rfl:_=17)|exact (rfl:_=18)|exact (rfl:_=19))
 (hm:Xla ws=m:=by first|exact (rfl:_=0)|exact (rfl:_=1)|exact (rfl:_=2)|exact (rfl:_=3)|exact (rfl:_=4))
 (ht:top+n+m=t':=by simp only [Nat.reduceAdd];rfl)
 (e4:Xda h (XtX top n ws) ws r.wr=some h1:=by repeat' first|exact XFG|apply XKv rfl|apply XTU rfl rfl (by first|rfl|exact Xud|exact Xt7|exact Xto|exact XbN XbJ|exact XbN Xbr|exact XbN XbI|exact XbN Xbt|exact XbN Xa0|exact XbN Xbf|exact XbN Xa1|exact XbN Xa8|exact XbN Xbg|exact XbN XbF|exact XbN Xbi|exact XbN XbE|exact XbN Xbq|exact XbN XbG|exact XbN XbV|exact Xcn _ _ (by simp only [XaY.flatL,Xez];rfl)) rfl rfl rfl|apply XFT rfl rfl (by first|rfl|exact Xud|exact Xt7|exact Xto|exact XbN XbJ|exact XbN Xbr|exact XbN XbI|exact XbN Xbt|exact XbN Xa0|exact XbN Xbf|exact XbN Xa1|exact XbN Xa8|exact XbN Xbg|exact XbN XbF|exact XbN Xbi|exact XbN XbE|exact XbN Xbq|exact XbN XbG|exact XbN XbV|exact Xcn _ _ (by simp only [XaY.flatL,Xez];rfl)) ⟨rfl,Nat.le_of_ble_eq_true rfl⟩ rfl rfl|apply XSu rfl rfl (by first|rfl|exact Xud|exact Xt7|exact Xto|exact XbN XbJ|exact XbN Xbr|exact XbN XbI|exact XbN Xbt|exact XbN Xa0|exact XbN Xbf|exact XbN Xa1|exact XbN Xa8|exact XbN Xbg|exact XbN XbF|exact XbN Xbi|exact XbN XbE|exact XbN Xbq|exact XbN XbG|exact XbN XbV|exact Xcn _ _ (by simp only [XaY.flatL,Xez];rfl)) rfl|apply XUc|apply XPI rfl)
 (e5:Xi6 h1 (XtX top n ws) top r.new=some h2:=by repeat' first|exact XHb|apply XJg (by first|rfl|exact Xud|exact Xt7|exact Xto|exact XbN XbJ|exact XbN Xbr|exact XbN XbI|exact XbN Xbt|exact XbN Xa0|exact XbN Xbf|exact XbN Xa1|exact XbN Xa8|exact XbN Xbg|exact XbN XbF|exact XbN Xbi|exact XbN XbE|exact XbN Xbq|exact XbN XbG|exact XbN XbV|exact Xcn _ _ (by simp only [XaY.flatL,Xez];rfl)))
 (e6:XeR (XtX top n ws) r.v=some v':=by first|exact rfl|exact Xmv _ _ (by first|rfl|(simp only [XaY,XaY.flatL,Xez];rfl))):XfS s vals h top K:=XfS.XHl [] (XsR e1 ew ec e2 e3 hn hm ht e4 e5 e6) k
theorem W {G:Prop} (g:G:=by
 repeat' first
  | (refine fsp h ?_ ?_<;>(clear h;intros;rename_i hx h;rw [hx];conv=>whnf))
  | (refine fcase h ?_ ?_<;>first|(clear h;intro hx h;(first|subst hx|rw [hx]);conv=>whnf)|(clear h;intro h))
  | (refine br.h h (by rfl) ?_ ?_<;>(clear h;intro hb h;conv=>whnf))
  | (replace h:=XbU.elim h;obtain ⟨hb,h⟩:=h;try (refine req.intro hb ?_;conv=>whnf))
  | (replace h:=Xdj.elim h;obtain ⟨x,hy,h⟩:=h;(first|refine XfS.a (R1 hy) ?_|refine XfS.a (R2 hy) ?_|refine XfS.a (R3 hy) ?_|refine XfS.a (R4 hy) ?_|refine XfS.a (R5 hy) ?_|refine XfS.a (R6 hy) ?_|refine XfS.a (R7 hy) ?_|refine XfS.a (R8 hy) ?_|refine XfS.a (R9 hy) ?_|refine XfS.a (R10 hy) ?_|refine XfS.a (R11 hy) ?_|refine XfS.a (R12 hy) ?_|refine rdS.intro hy ?_|refine rd.I hy (by first|rfl|(rw [Nat.zero_add,Nat.mul_one];try rfl;done)|omega) ?_|refine rd.S hy (by first|rfl|(rw [Nat.zero_add,Nat.mul_one];try rfl;done)|omega) ?_|refine rd.B hy (by first|rfl|(rw [Nat.zero_add,Nat.mul_one];try rfl;done)|omega) ?_|refine rd.T (j:=0) XeO hy (by first|omega|exact Nat.zero_add _|exact congrArg (·+_) (Nat.zero_add _)) (by decide) rfl ?_|refine rd.T (j:=1) XeO hy (by first|omega|exact Nat.zero_add _|exact congrArg (·+_) (Nat.zero_add _)) (by decide) rfl ?_|refine rd.T (j:=2) XeO hy (by first|omega|exact Nat.zero_add _|exact congrArg (·+_) (Nat.zero_add _)) (by decide) rfl ?_|refine rd.T (j:=0) Xcw hy (by first|omega|exact Nat.zero_add _|exact congrArg (·+_) (Nat.zero_add _)) (by decide) rfl ?_|refine rd.T (j:=1) Xcw hy (by first|omega|exact Nat.zero_add _|exact congrArg (·+_) (Nat.zero_add _)) (by decide) rfl ?_|refine rd.T (j:=2) Xcw hy (by first|omega|exact Nat.zero_add _|exact congrArg (·+_) (Nat.zero_add _)) (by decide) rfl ?_|refine rd.T (j:=3) Xcw hy (by first|omega|exact Nat.zero_add _|exact congrArg (·+_) (Nat.zero_add _)) (by decide) rfl ?_|refine rd.T (j:=4) Xcw hy (by first|omega|exact Nat.zero_add _|exact congrArg (·+_) (Nat.zero_add _)) (by decide) rfl ?_|refine rd.T (j:=5) Xcw hy (by first|omega|exact Nat.zero_add _|exact congrArg (·+_) (Nat.zero_add _)) (by decide) rfl ?_|refine rd.T (j:=6) Xcw hy (by first|omega|exact Nat.zero_add _|exact congrArg (·+_) (Nat.zero_add _)) (by decide) rfl ?_|refine rd.T (j:=7) Xcw hy (by first|omega|exact Nat.zero_add _|exact congrArg (·+_) (Nat.zero_add _)) (by decide) rfl ?_|refine rd.T (j:=8) Xcw hy (by first|omega|exact Nat.zero_add _|exact congrArg (·+_) (Nat.zero_add _)) (by decide) rfl ?_|refine rd.T (j:=0) Xcj hy (by first|omega|exact Nat.zero_add _|exact congrArg (·+_) (Nat.zero_add _)) (by decide) rfl ?_|refine rd.T (j:=1) Xcj hy (by first|omega|exact Nat.zero_add _|exact congrArg (·+_) (Nat.zero_add _)) (by decide) rfl ?_|refine rd.T (j:=2) Xcj hy (by first|omega|exact Nat.zero_add _|exact congrArg (·+_) (Nat.zero_add _)) (by decide) rfl ?_|refine rd.T (j:=3) Xcj hy (by first|omega|exact Nat.zero_add _|exact congrArg (·+_) (Nat.zero_add _)) (by decide) rfl ?_|refine rd.T (j:=4) Xcj hy (by first|omega|exact Nat.zero_add _|exact congrArg (·+_) (Nat.zero_add _)) (by decide) rfl ?_|refine rd.T (j:=5) Xcj hy (by first|omega|exact Nat.zero_add _|exact congrArg (·+_) (Nat.zero_add _)) (by decide) rfl ?_|refine rd.T (j:=6) Xcj hy (by first|omega|exact Nat.zero_add _|exact congrArg (·+_) (Nat.zero_add _)) (by decide) rfl ?_|refine rd.T (j:=7) Xcj hy (by first|omega|exact Nat.zero_add _|exact congrArg (·+_) (Nat.zero_add _)) (by decide) rfl ?_|refine rd.T (j:=8) Xcj hy (by first|omega|exact Nat.zero_add _|exact congrArg (·+_) (Nat.zero_add _)) (by decide) rfl ?_|refine rd.T (j:=9) Xcj hy (by first|omega|exact Nat.zero_add _|exact congrArg (·+_) (Nat.zero_add _)) (by decide) rfl ?_|refine rd.T (j:=10) Xcj hy (by first|omega|exact Nat.zero_add _|exact congrArg (·+_) (Nat.zero_add _)) (by decide) rfl ?_|refine rd.T (j:=11) Xcj hy (by first|omega|exact Nat.zero_add _|exact congrArg (·+_) (Nat.zero_add _)) (by decide) rfl ?_|refine rd.T (j:=0) Xds hy (by first|omega|exact Nat.zero_add _|exact congrArg (·+_) (Nat.zero_add _)) (by decide) rfl ?_|refine rd.T (j:=1) Xds hy (by first|omega|exact Nat.zero_add _|exact congrArg (·+_) (Nat.zero_add _)) (by decide) rfl ?_|refine rd.T (j:=2) Xds hy (by first|omega|exact Nat.zero_add _|exact congrArg (·+_) (Nat.zero_add _)) (by decide) rfl ?_|refine rd.T (j:=3) Xds hy (by first|omega|exact Nat.zero_add _|exact congrArg (·+_) (Nat.zero_add _)) (by decide) rfl ?_|refine rd.T (j:=4) Xds hy (by first|omega|exact Nat.zero_add _|exact congrArg (·+_) (Nat.zero_add _)) (by decide) rfl ?_|refine rd.T (j:=0) Xdi hy (by first|omega|exact Nat.zero_add _|exact congrArg (·+_) (Nat.zero_add _)) (by decide) rfl ?_|refine rd.T (j:=1) Xdi hy (by first|omega|exact Nat.zero_add _|exact congrArg (·+_) (Nat.zero_add _)) (by decide) rfl ?_|refine rd.T (j:=2) Xdi hy (by first|omega|exact Nat.zero_add _|exact congrArg (·+_) (Nat.zero_add _)) (by decide) rfl ?_|refine rd.T (j:=0) Xbs hy (by first|omega|exact Nat.zero_add _|exact congrArg (·+_) (Nat.zero_add _)) (by decide) rfl ?_|refine rd.T (j:=1) Xbs hy (by first|omega|exact Nat.zero_add _|exact congrArg (·+_) (Nat.zero_add _)) (by decide) rfl ?_|refine rd.T (j:=2) Xbs hy (by first|omega|exact Nat.zero_add _|exact congrArg (·+_) (Nat.zero_add _)) (by decide) rfl ?_|refine rd.T (j:=3) Xbs hy (by first|omega|exact Nat.zero_add _|exact congrArg (·+_) (Nat.zero_add _)) (by decide) rfl ?_|refine rd.T (j:=4) Xbs hy (by first|omega|exact Nat.zero_add _|exact congrArg (·+_) (Nat.zero_add _)) (by decide) rfl ?_|refine rd.T (j:=5) Xbs hy (by first|omega|exact Nat.zero_add _|exact congrArg (·+_) (Nat.zero_add _)) (by decide) rfl ?_|refine rd.T (j:=6) Xbs hy (by first|omega|exact Nat.zero_add _|exact congrArg (·+_) (Nat.zero_add _)) (by decide) rfl ?_|refine rd.T (j:=7) Xbs hy (by first|omega|exact Nat.zero_add _|exact congrArg (·+_) (Nat.zero_add _)) (by decide) rfl ?_|refine rd.T (j:=8) Xbs hy (by first|omega|exact Nat.zero_add _|exact congrArg (·+_) (Nat.zero_add _)) (by decide) rfl ?_|refine rd.T (j:=9) Xbs hy (by first|omega|exact Nat.zero_add _|exact congrArg (·+_) (Nat.zero_add _)) (by decide) rfl ?_|refine rd.T (j:=10) Xbs hy (by first|omega|exact Nat.zero_add _|exact congrArg (·+_) (Nat.zero_add _)) (by decide) rfl ?_|refine rd.T (j:=11) Xbs hy (by first|omega|exact Nat.zero_add _|exact congrArg (·+_) (Nat.zero_add _)) (by decide) rfl ?_|refine rd.T (j:=12) Xbs hy (by first|omega|exact Nat.zero_add _|exact congrArg (·+_) (Nat.zero_add _)) (by decide) rfl ?_|refine rd.T (j:=13) Xbs hy (by first|omega|exact Nat.zero_add _|exact congrArg (·+_) (Nat.zero_add _)) (by decide) rfl ?_|refine rd.T (j:=14) Xbs hy (by first|omega|exact Nat.zero_add _|exact congrArg (·+_) (Nat.zero_add _)) (by decide) rfl ?_|refine rd.T (j:=15) Xbs hy (by first|omega|exact Nat.zero_add _|exact congrArg (·+_) (Nat.zero_add _)) (by decide) rfl ?_|refine rd.T (j:=0) Xb7 hy (by first|omega|exact Nat.zero_add _|exact congrArg (·+_) (Nat.zero_add _)) (by decide) rfl ?_|refine rd.T (j:=1) Xb7 hy (by first|omega|exact Nat.zero_add _|exact congrArg (·+_) (Nat.zero_add _)) (by decide) rfl ?_|refine rd.T (j:=2) Xb7 hy (by first|omega|exact Nat.zero_add _|exact congrArg (·+_) (Nat.zero_add _)) (by decide) rfl ?_|refine rd.T (j:=3) Xb7 hy (by first|omega|exact Nat.zero_add _|exact congrArg (·+_) (Nat.zero_add _)) (by decide) rfl ?_|refine rd.T (j:=4) Xb7 hy (by first|omega|exact Nat.zero_add _|exact congrArg (·+_) (Nat.zero_add _)) (by decide) rfl ?_|refine rd.T (j:=5) Xb7 hy (by first|omega|exact Nat.zero_add _|exact congrArg (·+_) (Nat.zero_add _)) (by decide) rfl ?_|refine rd.T (j:=6) Xb7 hy (by first|omega|exact Nat.zero_add _|exact congrArg (·+_) (Nat.zero_add _)) (by decide) rfl ?_|refine rd.T (j:=7) Xb7 hy (by first|omega|exact Nat.zero_add _|exact congrArg (·+_) (Nat.zero_add _)) (by decide) rfl ?_|refine rd.T (j:=0) XbM hy (by first|omega|exact Nat.zero_add _|exact congrArg (·+_) (Nat.zero_add _)) (by decide) rfl ?_|refine rd.T (j:=1) XbM hy (by first|omega|exact Nat.zero_add _|exact congrArg (·+_) (Nat.zero_add _)) (by decide) rfl ?_|refine rd.T (j:=2) XbM hy (by first|omega|exact Nat.zero_add _|exact congrArg (·+_) (Nat.zero_add _)) (by decide) rfl ?_|refine rd.T (j:=3) XbM hy (by first|omega|exact Nat.zero_add _|exact congrArg (·+_) (Nat.zero_add _)) (by decide) rfl ?_|refine rd.T (j:=4) XbM hy (by first|omega|exact Nat.zero_add _|exact congrArg (·+_) (Nat.zero_add _)) (by decide) rfl ?_|refine rd.T (j:=5) XbM hy (by first|omega|exact Nat.zero_add _|exact congrArg (·+_) (Nat.zero_add _)) (by decide) rfl ?_|refine rd.T (j:=6) XbM hy (by first|omega|exact Nat.zero_add _|exact congrArg (·+_) (Nat.zero_add _)) (by decide) rfl ?_|refine rd.T (j:=7) XbM hy (by first|omega|exact Nat.zero_add _|exact congrArg (·+_) (Nat.zero_add _)) (by decide) rfl ?_|refine rd.T (j:=8) XbM hy (by first|omega|exact Nat.zero_add _|exact congrArg (·+_) (Nat.zero_add _)) (by decide) rfl ?_|refine rd.T (j:=9) XbM hy (by first|omega|exact Nat.zero_add _|exact congrArg (·+_) (Nat.zero_add _)) (by decide) rfl ?_|refine rd.T (j:=10) XbM hy (by first|omega|exact Nat.zero_add _|exact congrArg (·+_) (Nat.zero_add _)) (by decide) rfl ?_|refine rd.T (j:=11) XbM hy (by first|omega|exact Nat.zero_add _|exact congrArg (·+_) (Nat.zero_add _)) (by decide) rfl ?_|refine rd.T (j:=0) Xb9 hy (by first|omega|exact Nat.zero_add _|exact congrArg (·+_) (Nat.zero_add _)) (by decide) rfl ?_|refine rd.T (j:=1) Xb9 hy (by first|omega|exact Nat.zero_add _|exact congrArg (·+_) (Nat.zero_add _)) (by decide) rfl ?_|refine rd.T (j:=2) Xb9 hy (by first|omega|exact Nat.zero_add _|exact congrArg (·+_) (Nat.zero_add _)) (by decide) rfl ?_|refine rd.T (j:=3) Xb9 hy (by first|omega|exact Nat.zero_add _|exact congrArg (·+_) (Nat.zero_add _)) (by decide) rfl ?_|refine rd.T (j:=4) Xb9 hy (by first|omega|exact Nat.zero_add _|exact congrArg (·+_) (Nat.zero_add _)) (by decide) rfl ?_|refine rd.T (j:=5) Xb9 hy (by first|omega|exact Nat.zero_add _|exact congrArg (·+_) (Nat.zero_add _)) (by decide) rfl ?_|refine rd.T (j:=6) Xb9 hy (by first|omega|exact Nat.zero_add _|exact congrArg (·+_) (Nat.zero_add _)) (by decide) rfl ?_|refine rd.T (j:=7) Xb9 hy (by first|omega|exact Nat.zero_add _|exact congrArg (·+_) (Nat.zero_add _)) (by decide) rfl ?_|refine rd.T (j:=8) Xb9 hy (by first|omega|exact Nat.zero_add _|exact congrArg (·+_) (Nat.zero_add _)) (by decide) rfl ?_|refine rd.T (j:=9) Xb9 hy (by first|omega|exact Nat.zero_add _|exact congrArg (·+_) (Nat.zero_add _)) (by decide) rfl ?_|refine rd.T (j:=0) XcP hy (by first|omega|exact Nat.zero_add _|exact congrArg (·+_) (Nat.zero_add _)) (by decide) rfl ?_|refine rd.T (j:=1) XcP hy (by first|omega|exact Nat.zero_add _|exact congrArg (·+_) (Nat.zero_add _)) (by decide) rfl ?_|refine rd.T (j:=2) XcP hy (by first|omega|exact Nat.zero_add _|exact congrArg (·+_) (Nat.zero_add _)) (by decide) rfl ?_|refine rd.T (j:=3) XcP hy (by first|omega|exact Nat.zero_add _|exact congrArg (·+_) (Nat.zero_add _)) (by decide) rfl ?_|refine rd.T (j:=4) XcP hy (by first|omega|exact Nat.zero_add _|exact congrArg (·+_) (Nat.zero_add _)) (by decide) rfl ?_|refine rd.T (j:=5) XcP hy (by first|omega|exact Nat.zero_add _|exact congrArg (·+_) (Nat.zero_add _)) (by decide) rfl ?_|refine rd.T (j:=6) XcP hy (by first|omega|exact Nat.zero_add _|exact congrArg (·+_) (Nat.zero_add _)) (by decide) rfl ?_|refine rd.T (j:=7) XcP hy (by first|omega|exact Nat.zero_add _|exact congrArg (·+_) (Nat.zero_add _)) (by decide) rfl ?_|refine rd.T (j:=0) Xfp hy (by first|omega|exact Nat.zero_add _|exact congrArg (·+_) (Nat.zero_add _)) (by decide) rfl ?_|refine rd.T (j:=1) Xfp hy (by first|omega|exact Nat.zero_add _|exact congrArg (·+_) (Nat.zero_add _)) (by decide) rfl ?_|refine rd.T (j:=0) XfF hy (by first|omega|exact Nat.zero_add _|exact congrArg (·+_) (Nat.zero_add _)) (by decide) rfl ?_|refine rd.T (j:=1) XfF hy (by first|omega|exact Nat.zero_add _|exact congrArg (·+_) (Nat.zero_add _)) (by decide) rfl ?_|refine rd.T (j:=0) Xc8 hy (by first|omega|exact Nat.zero_add _|exact congrArg (·+_) (Nat.zero_add _)) (by decide) rfl ?_|refine rd.T (j:=1) Xc8 hy (by first|omega|exact Nat.zero_add _|exact congrArg (·+_) (Nat.zero_add _)) (by decide) rfl ?_|refine rd.T (j:=2) Xc8 hy (by first|omega|exact Nat.zero_add _|exact congrArg (·+_) (Nat.zero_add _)) (by decide) rfl ?_|refine rd.T (j:=3) Xc8 hy (by first|omega|exact Nat.zero_add _|exact congrArg (·+_) (Nat.zero_add _)) (by decide) rfl ?_|refine rd.T (j:=4) Xc8 hy (by first|omega|exact Nat.zero_add _|exact congrArg (·+_) (Nat.zero_add _)) (by decide) rfl ?_|refine rd.T (j:=5) Xc8 hy (by first|omega|exact Nat.zero_add _|exact congrArg (·+_) (Nat.zero_add _)) (by decide) rfl ?_|refine rd.T (j:=0) XcK hy (by first|omega|exact Nat.zero_add _|exact congrArg (·+_) (Nat.zero_add _)) (by decide) rfl ?_|refine rd.T (j:=1) XcK hy (by first|omega|exact Nat.zero_add _|exact congrArg (·+_) (Nat.zero_add _)) (by decide) rfl ?_|refine rd.T (j:=2) XcK hy (by first|omega|exact Nat.zero_add _|exact congrArg (·+_) (Nat.zero_add _)) (by decide) rfl ?_|refine rd.T (j:=3) XcK hy (by first|omega|exact Nat.zero_add _|exact congrArg (·+_) (Nat.zero_add _)) (by decide) rfl ?_|refine rd.T (j:=4) XcK hy (by first|omega|exact Nat.zero_add _|exact congrArg (·+_) (Nat.zero_add _)) (by decide) rfl ?_|refine rd.T (j:=5) XcK hy (by first|omega|exact Nat.zero_add _|exact congrArg (·+_) (Nat.zero_add _)) (by decide) rfl ?_|refine rd.T (j:=6) XcK hy (by first|omega|exact Nat.zero_add _|exact congrArg (·+_) (Nat.zero_add _)) (by decide) rfl ?_|refine rd.T (j:=7) XcK hy (by first|omega|exact Nat.zero_add _|exact congrArg (·+_) (Nat.zero_add _)) (by decide) rfl ?_|refine rd.T (j:=8) XcK hy (by first|omega|exact Nat.zero_add _|exact congrArg (·+_) (Nat.zero_add _)) (by decide) rfl ?_|refine rd.T (j:=0) Xfo hy (by first|omega|exact Nat.zero_add _|exact congrArg (·+_) (Nat.zero_add _)) (by decide) rfl ?_|refine rd.T (j:=1) Xfo hy (by first|omega|exact Nat.zero_add _|exact congrArg (·+_) (Nat.zero_add _)) (by decide) rfl ?_|refine rd.T (j:=2) Xfo hy (by first|omega|exact Nat.zero_add _|exact congrArg (·+_) (Nat.zero_add _)) (by decide) rfl ?_);conv=>whnf)
  | (cases h;done)
  | (cases h;(try cases hc);first|exact Res.y|exact Res.of [] rfl (by (repeat' first|exact XwW|apply Xyd (by first|rfl|exact Xud|exact Xt7|exact Xto|exact XbN XbJ|exact XbN Xbr|exact XbN XbI|exact XbN Xbt|exact XbN Xa0|exact XbN Xbf|exact XbN Xa1|exact XbN Xa8|exact XbN Xbg|exact XbN XbF|exact XbN Xbi|exact XbN XbE|exact XbN Xbq|exact XbN XbG|exact XbN XbV|exact Xcn _ _ (by simp only [XaY.flatL,Xez];rfl)) (by first|exact Xiy rfl|exact Xh7 rfl));first|done|fail) (by decide) (by (repeat' first|exact XwT|apply Xzg (by decide)|apply XSK rfl);first|done|fail) (by (repeat' first|exact XwR|apply XPb|apply XOI rfl|apply XPO (by first|rfl|exact Xud|exact Xt7|exact Xto|exact XbN XbJ|exact XbN Xbr|exact XbN XbI|exact XbN Xbt|exact XbN Xa0|exact XbN Xbf|exact XbN Xa1|exact XbN Xa8|exact XbN Xbg|exact XbN XbF|exact XbN Xbi|exact XbN XbE|exact XbN Xbq|exact XbN XbG|exact XbN XbV|exact Xcn _ _ (by simp only [XaY.flatL,Xez];rfl)) (by first|exact Xh7 rfl|exact Xiy rfl));first|done|fail)|exact Res.of [_] rfl (by (repeat' first|exact XwW|apply Xyd (by first|rfl|exact Xud|exact Xt7|exact Xto|exact XbN XbJ|exact XbN Xbr|exact XbN XbI|exact XbN Xbt|exact XbN Xa0|exact XbN Xbf|exact XbN Xa1|exact XbN Xa8|exact XbN Xbg|exact XbN XbF|exact XbN Xbi|exact XbN XbE|exact XbN Xbq|exact XbN XbG|exact XbN XbV|exact Xcn _ _ (by simp only [XaY.flatL,Xez];rfl)) (by first|exact Xiy rfl|exact Xh7 rfl));first|done|fail) (by decide) (by (repeat' first|exact XwT|apply Xzg (by decide)|apply XSK rfl);first|done|fail) (by (repeat' first|exact XwR|apply XPb|apply XOI rfl|apply XPO (by first|rfl|exact Xud|exact Xt7|exact Xto|exact XbN XbJ|exact XbN Xbr|exact XbN XbI|exact XbN Xbt|exact XbN Xa0|exact XbN Xbf|exact XbN Xa1|exact XbN Xa8|exact XbN Xbg|exact XbN XbF|exact XbN Xbi|exact XbN XbE|exact XbN Xbq|exact XbN XbG|exact XbN XbV|exact Xcn _ _ (by simp only [XaY.flatL,Xez];rfl)) (by first|exact Xh7 rfl|exact Xiy rfl));first|done|fail)|exact Res.of [_,_] rfl (by (repeat' first|exact XwW|apply Xyd (by first|rfl|exact Xud|exact Xt7|exact Xto|exact XbN XbJ|exact XbN Xbr|exact XbN XbI|exact XbN Xbt|exact XbN Xa0|exact XbN Xbf|exact XbN Xa1|exact XbN Xa8|exact XbN Xbg|exact XbN XbF|exact XbN Xbi|exact XbN XbE|exact XbN Xbq|exact XbN XbG|exact XbN XbV|exact Xcn _ _ (by simp only [XaY.flatL,Xez];rfl)) (by first|exact Xiy rfl|exact Xh7 rfl));first|done|fail) (by decide) (by (repeat' first|exact XwT|apply Xzg (by decide)|apply XSK rfl);first|done|fail) (by (repeat' first|exact XwR|apply XPb|apply XOI rfl|apply XPO (by first|rfl|exact Xud|exact Xt7|exact Xto|exact XbN XbJ|exact XbN Xbr|exact XbN XbI|exact XbN Xbt|exact XbN Xa0|exact XbN Xbf|exact XbN Xa1|exact XbN Xa8|exact XbN Xbg|exact XbN XbF|exact XbN Xbi|exact XbN XbE|exact XbN Xbq|exact XbN XbG|exact XbN XbV|exact Xcn _ _ (by simp only [XaY.flatL,Xez];rfl)) (by first|exact Xh7 rfl|exact Xiy rfl));first|done|fail)|exact Res.of [_,_,_] rfl (by (repeat' first|exact XwW|apply Xyd (by first|rfl|exact Xud|exact Xt7|exact Xto|exact XbN XbJ|exact XbN Xbr|exact XbN XbI|exact XbN Xbt|exact XbN Xa0|exact XbN Xbf|exact XbN Xa1|exact XbN Xa8|exact XbN Xbg|exact XbN XbF|exact XbN Xbi|exact XbN XbE|exact XbN Xbq|exact XbN XbG|exact XbN XbV|exact Xcn _ _ (by simp only [XaY.flatL,Xez];rfl)) (by first|exact Xiy rfl|exact Xh7 rfl));first|done|fail) (by decide) (by (repeat' first|exact XwT|apply Xzg (by decide)|apply XSK rfl);first|done|fail) (by (repeat' first|exact XwR|apply XPb|apply XOI rfl|apply XPO (by first|rfl|exact Xud|exact Xt7|exact Xto|exact XbN XbJ|exact XbN Xbr|exact XbN XbI|exact XbN Xbt|exact XbN Xa0|exact XbN Xbf|exact XbN Xa1|exact XbN Xa8|exact XbN Xbg|exact XbN XbF|exact XbN Xbi|exact XbN XbE|exact XbN Xbq|exact XbN XbG|exact XbN XbV|exact Xcn _ _ (by simp only [XaY.flatL,Xez];rfl)) (by first|exact Xh7 rfl|exact Xiy rfl));first|done|fail)|exact Res.of [_,_,_,_] rfl (by (repeat' first|exact XwW|apply Xyd (by first|rfl|exact Xud|exact Xt7|exact Xto|exact XbN XbJ|exact XbN Xbr|exact XbN XbI|exact XbN Xbt|exact XbN Xa0|exact XbN Xbf|exact XbN Xa1|exact XbN Xa8|exact XbN Xbg|exact XbN XbF|exact XbN Xbi|exact XbN XbE|exact XbN Xbq|exact XbN XbG|exact XbN XbV|exact Xcn _ _ (by simp only [XaY.flatL,Xez];rfl)) (by first|exact Xiy rfl|exact Xh7 rfl));first|done|fail) (by decide) (by (repeat' first|exact XwT|apply Xzg (by decide)|apply XSK rfl);first|done|fail) (by (repeat' first|exact XwR|apply XPb|apply XOI rfl|apply XPO (by first|rfl|exact Xud|exact Xt7|exact Xto|exact XbN XbJ|exact XbN Xbr|exact XbN XbI|exact XbN Xbt|exact XbN Xa0|exact XbN Xbf|exact XbN Xa1|exact XbN Xa8|exact XbN Xbg|exact XbN XbF|exact XbN Xbi|exact XbN XbE|exact XbN Xbq|exact XbN XbG|exact XbN XbV|exact Xcn _ _ (by simp only [XaY.flatL,Xez];rfl)) (by first|exact Xh7 rfl|exact Xiy rfl));first|done|fail))):G:=g
theorem okA {f : Nat} {s : Xb3} (hfn : ∃ fn, Tryz.prog.funcs[f]? = some fn ∧ fn.name ≠ "runtime.NumGoroutine" ∧ fn.body.isSome = true)
 (H:∀ ar os r,XgW (Xvc s.modes) os→s.run ar (Xkt os)=some r→∃ c,Xju (XaI tab) f ar=some c∧XaO Tryz.prog f os.length ⟨c,[],XpY 0 os,os.length⟩ (fun v' H' _=>Res os.length r v' H'):=by
 intro ar os r ha hr
 generalize hc:Xkt os=C at hr
 repeat' first
  | (replace hr:=XCw.elim hr;rcases hr with hr|hr)
  | (replace hr:=orD.elim hr;rcases hr with hr|hr)
  | (replace hr:=dV.elim hr;obtain ⟨v,l,y,rfl,e,hr⟩:=hr;first|obtain rfl:=Xx4 _ _ _ e|obtain rfl:=Xxj _ _ e|obtain rfl:=XAu _ _ e|obtain rfl:=Xq1 _ _ e|obtain rfl:=XpS _ _ e|obtain rfl:=XrP _ _ e|obtain rfl:=XpW _ _ e|obtain rfl:=XnP _ _ e|obtain rfl:=Xpp _ _ e|obtain rfl:=XnE _ _ e|obtain rfl:=Xn9 _ _ e|obtain rfl:=Xpw _ _ e|obtain rfl:=Xrr _ _ e|obtain rfl:=XsY _ _ e|obtain rfl:=Xq5 _ _ e|obtain rfl:=XpT _ _ e|obtain rfl:=XrT _ _ e|obtain rfl:=Xsc _ _ e)
  | (have hq:=dSl.elim hr;clear hr;obtain ⟨c,l,C,y,rfl,rfl,e,hr⟩:=hq;first|obtain rfl:=XHo e|obtain rfl:=XRm e|obtain rfl:=XRe e|obtain rfl:=XhL XjT e|obtain rfl:=XhL XgD e|obtain rfl:=XhL Xkj e|obtain rfl:=XhL XjD e|obtain rfl:=XhL Xgn e|obtain rfl:=XhL Xi4 e|obtain rfl:=XhL XhR e|obtain rfl:=XhL Xiv e|obtain rfl:=XhL Xi8 e|obtain rfl:=XhL Xj8 e|obtain rfl:=XhL XkJ e|obtain rfl:=XhL Xki e|obtain rfl:=XhL Xjx e|obtain rfl:=XhL Xkh e|obtain rfl:=XhL Xkx e)
  | (have hq:=dPt.elim hr;clear hr;obtain ⟨c,l,C,y,rfl,rfl,e,hr⟩:=hq;first|obtain rfl:=XjT _ _ e|obtain rfl:=XgD _ _ e|obtain rfl:=Xkj _ _ e|obtain rfl:=XjD _ _ e|obtain rfl:=Xgn _ _ e|obtain rfl:=Xi4 _ _ e|obtain rfl:=XhR _ _ e|obtain rfl:=Xiv _ _ e|obtain rfl:=Xi8 _ _ e|obtain rfl:=Xj8 _ _ e|obtain rfl:=XkJ _ _ e|obtain rfl:=Xki _ _ e|obtain rfl:=Xjx _ _ e|obtain rfl:=Xkh _ _ e|obtain rfl:=Xkx _ _ e|obtain rfl:=Xxo (Xx4 _) e|obtain rfl:=Xxo Xxj e|obtain rfl:=Xxo XAu e)
  | (have hq:=dTr.elim hr;clear hr;obtain ⟨v,l,c,C,y,rfl,rfl,e,hr⟩:=hq;(first|obtain ⟨rfl,rfl⟩:=Xmz e|obtain ⟨rfl,rfl⟩:=XoJ e|obtain ⟨rfl,rfl⟩:=XoO e|obtain ⟨rfl,rfl⟩:=XrW e);simp only [List.nil_append,List.cons_append] at hc)
  | (have hq:=dNl.elim hr;clear hr;obtain ⟨l,C,rfl,rfl,hr⟩:=hq;simp only [List.replicate,List.nil_append,List.cons_append] at hc)
  | (replace hr:=dFin hr;obtain ⟨rfl,rfl,x,h,rfl⟩:=hr;(repeat (first|(replace ha:=XwJ ha hc;obtain ⟨os,rfl,ha,hc⟩:=ha)|(replace ha:=Xwh ha hc;obtain ⟨os,rfl,ha,hc⟩:=ha)));obtain rfl:=XzS hc;first|exact ⟨_,rfl,hL (h:=h) ..⟩|exact ⟨_,rfl,hN (h:=h) ..⟩|exact ⟨_,rfl,L0 (h:=h) ..⟩|exact ⟨_,rfl,L1 (h:=h) ..⟩|exact ⟨_,rfl,L2 (h:=h) ..⟩)):Xb8 Tryz.prog f s:=Xb8.XB5 XaQ H hfn
theorem Xn8 {P:Program} {f base fn nt:Nat} {e e':Env} {todo todo':List XfT} {ds ds':List Nat} {ret:Bool} {up up':List XbR} {H H':Hp} {top top':Nat} {R:Value→Hp→Nat→Prop}
 (h:XaO P f base ⟨⟨fn,nt,e',todo',ds',ret,none⟩,up',H',top'⟩ R) (m:List (Nat×Nat)) (hc:XBh base top' m=true) (he:reE (XaI m) e e':=by repeat' first|exact trivial|refine ⟨⟨_,rfl,rfl⟩,?_⟩|refine ⟨⟨_,_,rfl,rfl,.rowF (XjC _ _) id⟩,?_⟩|refine ⟨⟨_,_,rfl,rfl,.rowF (Xnq _) id⟩,?_⟩|refine ⟨⟨_,_,rfl,rfl,.rowF (Xnn _) id⟩,?_⟩|refine ⟨⟨_,_,rfl,rfl,.rowF (XnB (by first|exact XbJ|exact Xbr|exact XbI|exact Xbt|exact Xa0|exact Xbf|exact Xa1|exact Xa8|exact Xbg|exact XbF|exact Xbi|exact XbE|exact Xbq|exact XbG|exact XbV) _) id⟩,?_⟩|refine ⟨⟨_,_,rfl,rfl,.tyF (XjC _ _)⟩,?_⟩|refine ⟨⟨_,_,rfl,rfl,.ty rfl⟩,?_⟩|refine ⟨⟨_,_,rfl,rfl,.cells rfl⟩,?_⟩|refine ⟨⟨_,_,rfl,rfl,.row rfl id⟩,?_⟩|refine ⟨⟨_,_,rfl,rfl,.cr rfl⟩,?_⟩|refine ⟨⟨_,_,rfl,rfl,.rc rfl⟩,?_⟩|refine ⟨⟨_,_,rfl,rfl,.marks⟩,?_⟩|refine ⟨⟨_,_,rfl,rfl,.mp _⟩,?_⟩|refine ⟨⟨_,_,rfl,rfl,.siter _ _⟩,?_⟩|refine ⟨⟨_,_,rfl,rfl,.loop rfl rfl rfl rfl (by repeat' first|exact trivial|refine ⟨rfl,?_⟩) rfl rfl rfl rfl⟩,?_⟩) (hH:reH (XaI m) H H':=by repeat' first|exact trivial|refine ⟨⟨_,rfl,rfl⟩,?_⟩|refine ⟨⟨_,_,rfl,rfl,.rowF (XjC _ _) id⟩,?_⟩|refine ⟨⟨_,_,rfl,rfl,.rowF (Xnq _) id⟩,?_⟩|refine ⟨⟨_,_,rfl,rfl,.rowF (Xnn _) id⟩,?_⟩|refine ⟨⟨_,_,rfl,rfl,.rowF (XnB (by first|exact XbJ|exact Xbr|exact XbI|exact Xbt|exact Xa0|exact Xbf|exact Xa1|exact Xa8|exact Xbg|exact XbF|exact Xbi|exact XbE|exact Xbq|exact XbG|exact XbV) _) id⟩,?_⟩|refine ⟨⟨_,_,rfl,rfl,.tyF (XjC _ _)⟩,?_⟩|refine ⟨⟨_,_,rfl,rfl,.ty rfl⟩,?_⟩|refine ⟨⟨_,_,rfl,rfl,.cells rfl⟩,?_⟩|refine ⟨⟨_,_,rfl,rfl,.row rfl id⟩,?_⟩|refine ⟨⟨_,_,rfl,rfl,.cr rfl⟩,?_⟩|refine ⟨⟨_,_,rfl,rfl,.rc rfl⟩,?_⟩|refine ⟨⟨_,_,rfl,rfl,.marks⟩,?_⟩|refine ⟨⟨_,_,rfl,rfl,.mp _⟩,?_⟩|refine ⟨⟨_,_,rfl,rfl,.siter _ _⟩,?_⟩|refine ⟨⟨_,_,rfl,rfl,.loop rfl rfl rfl rfl (by repeat' first|exact trivial|refine ⟨rfl,?_⟩) rfl rfl rfl rfl⟩,?_⟩)
 (ht:XDl (XaI m) todo'=some todo:=by rfl) (hd:XEs (XaI m) ds'=some ds:=by rfl) (hu:reU (XaI m) up up':=by trivial) :
 XaO P f base ⟨⟨fn,nt,e,todo,ds,ret,none⟩,up,H,top⟩ R:=XaO.re h m hc he hH ht hd hu
theorem Xw3 {P:Program} {f base fn nt:Nat} {e e':Env} {todo todo':List XfT} {ds ds':List Nat} {ret:Bool} {up up':List XbR} {H H':Hp} {top top':Nat} {R:Value→Hp→Nat→Prop}
 (h:XaO P f base ⟨⟨fn,nt,e',todo',ds',ret,none⟩,up',H',top'⟩ R) (m:List (Nat×Nat)) (hc:XBh base top' m=true) (he:reE (XaI m) e e':=by repeat' first|exact trivial|refine ⟨⟨_,rfl,rfl⟩,?_⟩|refine ⟨⟨_,_,rfl,rfl,.rowF (XjC _ _) id⟩,?_⟩|refine ⟨⟨_,_,rfl,rfl,.rowF (Xnq _) id⟩,?_⟩|refine ⟨⟨_,_,rfl,rfl,.rowF (Xnn _) id⟩,?_⟩|refine ⟨⟨_,_,rfl,rfl,.rowF (XnB (by first|exact XbJ|exact Xbr|exact XbI|exact Xbt|exact Xa0|exact Xbf|exact Xa1|exact Xa8|exact Xbg|exact XbF|exact Xbi|exact XbE|exact Xbq|exact XbG|exact XbV) _) id⟩,?_⟩|refine ⟨⟨_,_,rfl,rfl,.tyF (XjC _ _)⟩,?_⟩|refine ⟨⟨_,_,rfl,rfl,.ty rfl⟩,?_⟩|refine ⟨⟨_,_,rfl,rfl,.cells rfl⟩,?_⟩|refine ⟨⟨_,_,rfl,rfl,.row rfl id⟩,?_⟩|refine ⟨⟨_,_,rfl,rfl,.cr rfl⟩,?_⟩|refine ⟨⟨_,_,rfl,rfl,.rc rfl⟩,?_⟩|refine ⟨⟨_,_,rfl,rfl,.marks⟩,?_⟩|refine ⟨⟨_,_,rfl,rfl,.mp _⟩,?_⟩|refine ⟨⟨_,_,rfl,rfl,.siter _ _⟩,?_⟩|refine ⟨⟨_,_,rfl,rfl,.loop rfl rfl rfl rfl (by repeat' first|exact trivial|refine ⟨rfl,?_⟩) rfl rfl rfl rfl⟩,?_⟩) (hH:reH (XaI m) H H':=by repeat' first|exact trivial|refine ⟨⟨_,rfl,rfl⟩,?_⟩|refine ⟨⟨_,_,rfl,rfl,.rowF (XjC _ _) id⟩,?_⟩|refine ⟨⟨_,_,rfl,rfl,.rowF (Xnq _) id⟩,?_⟩|refine ⟨⟨_,_,rfl,rfl,.rowF (Xnn _) id⟩,?_⟩|refine ⟨⟨_,_,rfl,rfl,.rowF (XnB (by first|exact XbJ|exact Xbr|exact XbI|exact Xbt|exact Xa0|exact Xbf|exact Xa1|exact Xa8|exact Xbg|exact XbF|exact Xbi|exact XbE|exact Xbq|exact XbG|exact XbV) _) id⟩,?_⟩|refine ⟨⟨_,_,rfl,rfl,.tyF (XjC _ _)⟩,?_⟩|refine ⟨⟨_,_,rfl,rfl,.ty rfl⟩,?_⟩|refine ⟨⟨_,_,rfl,rfl,.cells rfl⟩,?_⟩|refine ⟨⟨_,_,rfl,rfl,.row rfl id⟩,?_⟩|refine ⟨⟨_,_,rfl,rfl,.cr rfl⟩,?_⟩|refine ⟨⟨_,_,rfl,rfl,.rc rfl⟩,?_⟩|refine ⟨⟨_,_,rfl,rfl,.marks⟩,?_⟩|refine ⟨⟨_,_,rfl,rfl,.mp _⟩,?_⟩|refine ⟨⟨_,_,rfl,rfl,.siter _ _⟩,?_⟩|refine ⟨⟨_,_,rfl,rfl,.loop rfl rfl rfl rfl (by repeat' first|exact trivial|refine ⟨rfl,?_⟩) rfl rfl rfl rfl⟩,?_⟩)
 (ht:XDl (XaI m) todo'=some todo:=by rfl) (hd:XEs (XaI m) ds'=some ds:=by rfl) (hu:reU (XaI m) up up':=by repeat' first|exact trivial|refine ⟨⟨rfl,rfl,rfl,rfl,rfl,?_,rfl,rfl⟩,?_⟩|refine ⟨⟨_,rfl,rfl⟩,?_⟩) :
 XaO P f base ⟨⟨fn,nt,e,todo,ds,ret,none⟩,up,H,top⟩ R:=XaO.re h m hc he hH ht hd hu
def XhE (n1:Int):Option (Sum Int Int):=
 cond (decide (n1>65535))
  (
  let t:=wI .i64 ((Xm8 .i64 n1 65535)+(n1.fdiv (2^16)))
  some (.inl t))
  (
  some (.inr (n1)))
def Xke (n:Int):Option Int:=
 iter (fun st=>XhE st) FUEL n
def XwP (x:Int):Xc4:=⟨.int .i64 x,[],[]⟩
abbrev XcS:=Int→Option Int
def r115 (g:XcS):Dec:=dV (asI .i64) fun (y0:Int)=>XdY (ofG (g y0) XwP)
theorem XSz {g:XcS} {y0:Int} {x:Int} (hx:g y0=some x):r115 g [.int .i64 y0] []=some (XwP x):=(Xbb (Xdo _)).trans (Xbc hx)
def s115 (g:XcS):Xb3:=⟨[.v],r115 g⟩
theorem Xuc {g:XcS} {y0:Int} {x:Int} (hx:g y0=some x):(s115 g).run [.int .i64 y0] []=some (XwP x):=XSz hx
abbrev XyB:List (Nat×Xb3):=[]
def Xk2 (n1:Int):VM:=
 ⟨⟨115,11,[(0,.int .i64 n1)],[.code XAb,.inLoop XAb,.inBlock 0,.code Xyx],[],false,none⟩,[],[],0⟩
theorem XxI (hS:Xar Tryz.prog (XaI (XyB))) (res:Int):∀ fuel (st:Int) (o:Int),iter (fun st=>XhE st) fuel st=some o→(o=res) →
 XaO Tryz.prog 115 0 (Xk2 st) (fun v H _=>Res 0 (XwP res) v H):=by
 intro fuel st o h hc
 refine Xdh (head:=fun st=>Xk2 st) (C:=fun o=>(o=res)) ?_ fuel st o h hc
 clear h hc o st fuel
 intro n1 o h hc
 replace h:XhE n1=some o:=h
 show XaO Tryz.prog 115 0 (Xk2 n1) (fun v H _=>Res 0 (XwP res) v H)
 unfold XhE at h
 refine XbD XaQ hS true 3000 ?_
 conv=>whnf
 refine br.h2 h (by rfl) ?_ ?_
 ·clear h;intro hb h;conv=>whnf
  exact W
 clear h;intro hb h;conv=>whnf
 let t:Int:=wI .i64 ((Xm8 .i64 n1 65535)+(n1.fdiv (2^16)))
 cases h;simp only [Sum.elim_inl,Xk2] at hc
 exact Xn8 hc [] rfl
theorem XFq (hS:Xar Tryz.prog (XaI (XyB))) (n:Int) (res:Int) (h:Xke n=some res) :
 XaO Tryz.prog 115 0 ⟨⟨115,11,[(0,.int .i64 n)],[.code Xzs],[],false,none⟩,[],[],0⟩ (fun v H _=>Res 0 (XwP res) v H):=by
 unfold Xke at h
 refine XbD XaQ hS true 3000 ?_
 conv=>whnf
 have hl:=XxI hS res _ _ _ h rfl;simp only [Xk2] at hl
 exact Xn8 hl [] rfl
def XbT:XcS:=Xke
theorem XxV:Xb8 Tryz.prog 115 (s115 XbT):=by
 have hL:=XFq (Xar.Xa6 trivial)
 exact okA ⟨Tryz.f115,rfl,by decide,rfl⟩
def Xg8 (XbT:XcS) (s:List UInt8) (xat:Int) (n:Int):Option (Sum (Int×Int) Int):=
 cond (decide (xat<(s.length:Int)))
  (
  XbU (decide (0≤xat)) <|
  (s[xat.toNat]?).bind fun (b:UInt8)=>
  let t:=wI .i64 ((wI .i64 (b.toNat:Int))*2^8)
  let t1:=decide ((wI .i64 (xat+1))<(s.length:Int))
  cond (t1)
   (
   XbU (decide (0≤(wI .i64 (xat+1)))) <|
   (s[(wI .i64 (xat+1)).toNat]?).bind fun (b1:UInt8)=>
   let t2:=wI .i64 (n+(Xwm .i64 t (wI .i64 (b1.toNat:Int))))
   (XbT t2).bind fun f=>
   some (.inl (wI .i64 (xat+2),f)))
   (
   (XbT (wI .i64 (n+t))).bind fun f1=>
   some (.inl (wI .i64 (xat+2),f1))))
  (
  some (.inr (n)))
def Xln (XbT:XcS) (s:List UInt8):Option Int:=
 iter (fun st=>Xg8 XbT s st.1 st.2) FUEL (0,0)
def XM5 (x:Int):Xc4:=⟨.int .i64 x,[],[]⟩
abbrev Xfz:=(List UInt8)→Option Int
def r87 (g:Xfz):Dec:=dV asS fun (y0:List UInt8)=>XdY (ofG (g y0) XM5)
theorem r87_c {g:Xfz} {y0:List UInt8} {x:Int} (hx:g y0=some x):r87 g [.string ⟨⟨y0⟩⟩] []=some (XM5 x):=(Xbb (Xeb)).trans (Xbc hx)
def s87 (g:Xfz):Xb3:=⟨[.v],r87 g⟩
theorem XTz {g:Xfz} {y0:List UInt8} {x:Int} (hx:g y0=some x):(s87 g).run [.string ⟨⟨y0⟩⟩] []=some (XM5 x):=r87_c hx
abbrev XFZ (XbT:XcS):List (Nat×Xb3):=[(115,s115 XbT)]
def Xlt (s:List UInt8) (xat:Int) (n:Int):VM:=
 ⟨⟨128,32,[(0,.func (.yield 3) #[] #[]),(1,.pointer (some ⟨1,0,none⟩)),(3,.int .i64 xat)],[.code Xpr,.inLoop Xpr,.inBlock 0],[],false,none⟩,[⟨87,13,[(3,.pointer (some ⟨0,0,none⟩))],[.inRangeFunc 3,.inBlock 0,.code XGQ],[2],false,none⟩],[(0,.cells [.int .i64 n]),(1,.cells [.string ⟨⟨s⟩⟩]),(2,.marks),(3,.loop ⟨.ready,none,87,13,[(3,.pointer (some ⟨0,0,none⟩))],[7],XPz,XN9,2⟩)],4⟩
theorem XEY (XbT:XcS) (hS:Xar Tryz.prog (XaI (XFZ XbT))) (s:List UInt8) (res:Int):∀ fuel (st:Int×Int) (o:Int),iter (fun st=>Xg8 XbT s st.1 st.2) fuel st=some o→(o=res) →
 XaO Tryz.prog 87 0 (Xlt s st.1 st.2) (fun v H _=>Res 0 (XM5 res) v H):=by
 intro fuel st o h hc
 refine Xdh (head:=fun st=>Xlt s st.1 st.2) (C:=fun o=>(o=res)) ?_ fuel st o h hc
 clear h hc o st fuel
 intro st o h hc
 obtain ⟨xat,n⟩:=st
 replace h:Xg8 XbT s xat n=some o:=h
 show XaO Tryz.prog 87 0 (Xlt s xat n) (fun v H _=>Res 0 (XM5 res) v H)
 unfold Xg8 at h
 refine XbD XaQ hS true 3000 ?_
 conv=>whnf
 refine br.h2 h (by rfl) ?_ ?_
 ·clear h;intro hb h;conv=>whnf
  exact W
 clear h;intro hb h;conv=>whnf
 replace h:=XbU.elim h;obtain ⟨hb,h⟩:=h
 try (refine req.intro hb ?_;conv=>whnf)
 replace h:=Xdj.elim h;obtain ⟨b,hy,h⟩:=h
 refine rdS.intro hy ?_
 conv=>whnf
 let t:Int:=wI .i64 ((wI .i64 (b.toNat:Int))*2^8)
 let t1:Bool:=decide ((wI .i64 (xat+1))<(s.length:Int))
 refine br.h2 h (by rfl) ?_ ?_
 ·clear h;intro hb h;conv=>whnf
  replace h:=Xdj.elim h;obtain ⟨f1,hy,h⟩:=h
  refine XfS.a (Xuc hy) ?_
  conv=>whnf
  cases h;simp only [Sum.elim_inl,Xlt] at hc
  exact Xw3 hc [(0,0),(1,1),(2,2),(3,3)] rfl
 clear h;intro hb h;conv=>whnf
 replace h:=XbU.elim h;obtain ⟨hb,h⟩:=h
 try (refine req.intro hb ?_;conv=>whnf)
 replace h:=Xdj.elim h;obtain ⟨b1,hy,h⟩:=h
 refine rdS.intro hy ?_
 conv=>whnf
 let t2:Int:=wI .i64 (n+(Xwm .i64 t (wI .i64 (b1.toNat:Int))))
 replace h:=Xdj.elim h;obtain ⟨f,hy,h⟩:=h
 refine XfS.a (Xuc hy) ?_
 conv=>whnf
 cases h;simp only [Sum.elim_inl,Xlt] at hc
 exact Xw3 hc [(0,0),(1,1),(2,2),(3,3)] rfl
theorem XK7 (XbT:XcS) (hS:Xar Tryz.prog (XaI (XFZ XbT))) (s:List UInt8) (res:Int) (h:Xln XbT s=some res) :
 XaO Tryz.prog 87 0 ⟨⟨87,13,[(0,.string ⟨⟨s⟩⟩)],[.code XHi],[],false,none⟩,[],[],0⟩ (fun v H _=>Res 0 (XM5 res) v H):=by
 unfold Xln at h
 refine XbD XaQ hS true 3000 ?_
 conv=>whnf
 have hl:=XEY XbT hS _ res _ _ _ h rfl;simp only [Xlt] at hl
 exact Xw3 hl [(0,0),(1,1),(2,2),(3,3)] rfl
def Xfj:Xfz:=Xln XbT
theorem XQO:Xb8 Tryz.prog 87 (s87 Xfj):=by
 have hL:=XK7 XbT (Xar.Xa6 ⟨XxV,trivial⟩)
 exact okA ⟨Tryz.f87,rfl,by decide,rfl⟩
end Go.Vm.Code
namespace Go.Vm.Code
open Go Go.Vm
def Xdp:List UInt8→Nat
 | []=>0
 | [b]=>b.toNat*256
 | b::c::l=>b.toNat*256+c.toNat+Xdp l
def norm (n:Nat):Nat:=if n=0 then 0 else (n - 1)%65535+1
theorem norm_eq {n r:Nat} (h1:r≤65535) (h2:r%65535=n%65535) (h3:r=0↔n=0):norm n=r:=by unfold norm;split<;>omega
theorem norm_le (n:Nat):norm n≤65535:=by unfold norm;split<;>omega
theorem XiI (n:Nat):norm n%65535=n%65535:=by unfold norm;split<;>omega
theorem Xi7 (n:Nat):norm n=0↔n=0:=by unfold norm;split<;>omega
theorem XoK {n:Nat} (h:n≤65535):norm n=n:=norm_eq h rfl Iff.rfl
theorem Xuj (a b:Nat):norm (norm a+b)=norm (a+b):=
 (norm_eq (norm_le _) (by have h1:=XiI a;have h2:=XiI (norm a+b);omega) (by have h1:=Xi7 a;have h2:=Xi7 (norm a+b);omega)).symm
theorem fold_eq {n:Int} (h0:0≤n) (h1:n<2^62):XbT n=some ((norm n.toNat:Nat):Int):=by
 unfold XbT Xke
 refine iter_eq (fun n=>((norm n.toNat:Nat):Int)) (fun n=>0≤n∧n<2^62) (fun n=>n.toNat) ?_ FUEL _ ⟨h0,h1⟩ (by rw [XgR];omega)
 intro s ⟨a,b⟩
 unfold XhE
 by_cases hs:s>65535
 ·refine .inr ⟨s%65536+s/65536,?_,⟨by omega,by omega⟩,by omega,?_⟩
  ·rw [XbB hs,XiZ (m:=65535) 16 (by decide) (by decide) a (by omega),XsM,Xe0 (by omega) (by omega)];rfl
  ·have:norm (s%65536+s/65536).toNat=norm s.toNat:=
    (norm_eq (norm_le _) (by have:=XiI (s%65536+s/65536).toNat;omega) (by have:=Xi7 (s%65536+s/65536).toNat;omega)).symm
   rw [this]
 ·refine .inl ?_
  rw [Xbd hs]
  have:=XoK (n:=s.toNat) (by omega)
  simp only [this]
  rw [Int.toNat_of_nonneg a]
theorem XCq {s:List UInt8} {i:Nat} (h:i+1<s.length):Xdp (s.drop i)=s[i].toNat*256+s[i+1].toNat+Xdp (s.drop (i+2)):=by
 rw [List.drop_eq_getElem_cons (by omega:i<s.length),List.drop_eq_getElem_cons h];rfl
theorem XE9 {s:List UInt8} {i:Nat} (h:i+1=s.length):Xdp (s.drop i)=s[i].toNat*256:=by
 rw [List.drop_eq_getElem_cons (by omega:i<s.length),List.drop_eq_nil_of_le (by omega)];rfl
theorem Xr6 {s:List UInt8} {i:Nat} (h:s.length≤i):Xdp (s.drop i)=0:=by
 rw [List.drop_eq_nil_of_le h];rfl
theorem XOn (s:List UInt8) (h:s.length<2^61):Xfj s=some ((norm (Xdp s):Nat):Int):=by
 unfold Xfj Xln
 have key:=iter_eq (step:=fun (st:Int×Int)=>Xg8 XbT s st.1 st.2) (fun (st:Int×Int)=>((norm (st.2.toNat+Xdp (s.drop st.1.toNat)):Nat):Int)) (fun (st:Int×Int)=>0≤st.1∧st.1≤s.length+1∧0≤st.2∧st.2≤65535) (fun (st:Int×Int)=>(s.length+2 - st.1).toNat) ?_ FUEL (0,0) ⟨by simp,by simp;omega,by simp,by simp⟩ (by rw [XgR];simp only;omega)
 ·rw [key];simp
 rintro ⟨p,n⟩ ⟨h1,h2,h3,h4⟩
 simp only at h1 h2 h3 h4 ⊢
 obtain ⟨i,rfl⟩:=Int.eq_ofNat_of_zero_le h1
 obtain ⟨m,rfl⟩:=Int.eq_ofNat_of_zero_le h3
 unfold Xg8
 by_cases hp:i<s.length
 ·by_cases hq:i+1<s.length
  ·have b1:=s[i].toNat_lt
   have b2:=s[i+1].toNat_lt
   refine .inr ⟨(((i+2:Nat):Int),((norm (m+(s[i].toNat*256+s[i+1].toNat)):Nat):Int)),?_,⟨by simp only;omega,by simp only;omega,by simp only;omega,by simp only;have:=norm_le (m+(s[i].toNat*256+s[i+1].toNat));omega⟩,by simp only;omega,?_⟩
   ·simp (disch:=omega) only [Xe0,Xa9,XbB]
    have e:((i:Int)+1).toNat=i+1:=by omega
    rw [e]
    simp (disch:=omega) only [Int.toNat_natCast,List.getElem?_eq_getElem,Option.bind_some,Xqy,Xe0,fold_eq]
    congr 3<;>omega
   ·simp only [Int.toNat_natCast]
    rw [Xuj,XCq hq,Nat.add_assoc]
  ·have b1:=s[i].toNat_lt
   refine .inr ⟨(((i+2:Nat):Int),((norm (m+s[i].toNat*256):Nat):Int)),?_,⟨by simp only;omega,by simp only;omega,by simp only;omega,by simp only;have:=norm_le (m+s[i].toNat*256);omega⟩,by simp only;omega,?_⟩
   ·simp (disch:=omega) only [Xe0,Xa9,XbB,Xbd,Int.toNat_natCast,List.getElem?_eq_getElem,Option.bind_some,fold_eq]
    congr 3<;>omega
   ·simp only [Int.toNat_natCast]
    rw [Xuj,Xr6 (i:=i+2) (by omega),Nat.add_zero,XE9 (i:=i) (by omega)]
 ·refine .inl ?_
  simp (disch:=omega) only [Xbd]
  simp only [Int.toNat_natCast]
  rw [Xr6 (by omega),Nat.add_zero,XoK (by omega)]
theorem Xdf:∀ (a b:List UInt8),a.length%2=0→Xdp (a++b)=Xdp a+Xdp b
 | [],b,_=>by simp [Xdp]
 | [_],b,h=>by simp at h
 | x::y::a,b,h=>by
   have:=Xdf a b (by simp at h;omega)
   simp only [List.cons_append,Xdp,this];omega
def allz (l:List UInt8):Bool:=l.all fun b=>b==0
end Go.Vm.Code
namespace Go.Vm
open Go
def be (n:Nat):Nat→List UInt8
 | 0=>[]
 | r+1=>UInt8.ofNat (n/256^r)::be n r
def XeY (l:List UInt8):Nat:=l.foldl (fun n b=>n*256+b.toNat) 0
@[simp] theorem Xea (n:Nat):∀ k,(be n k).length=k
 | 0=>rfl
 | k+1=>by simp [be,Xea n k]
theorem XoQ (n:Nat):∀ k,be n (k+1)=be (n/256) k++[UInt8.ofNat n]
 | 0=>by simp [be]
 | k+1=>by
   rw [be,XoQ n k,be,Nat.div_div_eq_div_mul,Nat.pow_succ,Nat.mul_comm 256];rfl
theorem Xzr (n:Nat):∀ k,be (n%256^k) k=be n k
 | 0=>rfl
 | k+1=>by
   rw [XoQ,XoQ,Nat.pow_succ,Nat.mul_comm,Nat.mod_mul_right_div_self,Xzr (n/256) k]
   congr 2
   apply UInt8.toNat_inj.1
   simp only [UInt8.toNat_ofNat']
   rw [Nat.mod_mul_right_mod]
theorem XsC (l:List UInt8):∀ n:Nat,l.foldl (fun n b=>n*256+b.toNat) n=n*256^l.length+XeY l:=by
 induction l with
 | nil=>intro n;simp [XeY]
 | cons b l ih=>
   intro n
   rw [XeY,List.foldl_cons,ih,List.foldl_cons,ih,List.length_cons,Nat.pow_succ]
   rw [Nat.zero_mul,Nat.zero_add,Nat.add_mul,Nat.mul_assoc,Nat.mul_comm (256^_) 256,Nat.add_assoc]
@[simp] theorem val_nil:XeY []=0:=rfl
theorem Xh8 (b:UInt8) (l:List UInt8):XeY (b::l)=b.toNat*256^l.length+XeY l:=by
 rw [XeY,List.foldl_cons,XsC];simp
theorem val_append (l m:List UInt8):XeY (l++m)=XeY l*256^m.length+XeY m:=by
 rw [XeY,List.foldl_append,XsC];rfl
theorem XBS (l:List UInt8) (b:UInt8):XeY (l++[b])=XeY l*256+b.toNat:=by
 rw [val_append];simp [Xh8]
theorem Xsg:∀ l:List UInt8,XeY l<256^l.length
 | []=>by simp
 | b::l=>by
   have h:=Xsg l
   have hb:=b.toNat_lt
   rw [Xh8,List.length_cons,Nat.pow_succ]
   have:b.toNat*256^l.length+256^l.length≤256*256^l.length:=by
    rw [←Nat.succ_mul];exact Nat.mul_le_mul_right _ (by omega)
   rw [Nat.mul_comm (256^l.length)];omega
theorem XGb (n:Nat):∀ k,XeY (be n k)=n%256^k
 | 0=>by simp [be,Nat.mod_one]
 | k+1=>by
   have e:n%256^(k+1)=n%256+256*(n/256%256^k):=by rw [Nat.pow_succ',Nat.mod_mul]
   rw [XoQ,XBS,XGb (n/256) k,UInt8.toNat_ofNat',e]
   generalize n/256%256^k=x
   omega
theorem XfI {n k:Nat} (h:n<256^k):XeY (be n k)=n:=by rw [XGb,Nat.mod_eq_of_lt h]
theorem XFx:∀ l:List UInt8,be (XeY l) l.length=l
 | []=>rfl
 | b::l=>by
   have h:=Xsg l
   rw [List.length_cons,be]
   have e1:XeY (b::l)/256^l.length=b.toNat:=by
    rw [Xh8,Nat.mul_comm,Nat.mul_add_div (Nat.pow_pos (by decide)),Nat.div_eq_of_lt h,Nat.add_zero]
   have e2:be (XeY (b::l)) l.length=be (XeY l) l.length:=by
    rw [←Xzr (XeY (b::l)),Xh8,Nat.mul_add_mod',Xzr]
   rw [e1,e2,XFx l]
   simp
theorem XMq {l:List UInt8} {k:Nat} (h:l.length=k):be (XeY l) k=l:=by subst h;exact XFx l
theorem XeZ {l:List UInt8} {k:Nat} (n:Nat) (h:256^k≤n):XeY (l.take k)<n:=by
 have h1:=Xsg (l.take k)
 have h2:(l.take k).length≤k:=List.length_take_le _ _
 exact Nat.lt_of_lt_of_le h1 (Nat.le_trans (Nat.pow_le_pow_right (by decide) h2) h)
end Go.Vm
namespace Go.Vm.Code
open Go Go.Vm Go.Proofs
set_option maxRecDepth 100000
set_option maxHeartbeats 4000000
set_option linter.unusedVariables false
def Xhe (n:Int) (k:Int) (t17:Int) (b:List Int):Option (Sum (Int×(List Int)) (List UInt8)):=
 cond (decide (t17<(k.toNat:Int)))
  (
  let t:=wI .i64 (8*(wI .i64 ((wI .i64 (k - 1)) - t17)))
  XbU (decide (0≤t)) <|
  XbU (decide ((0:Int)≤t17∧t17<(k.toNat:Int))) <|
  XbU (decide (t17.toNat<b.length)) <|
  let row:=b.set t17.toNat (wI .u8 (n.fdiv (2^(min t.toNat 64))))
  some (.inl (wI .i64 (t17+1),row)))
  (
  XbU (decide (k.toNat≤b.length)) <|
  some (.inr (iB (b.take k.toNat))))
def Xle (n:Int) (k:Int):Option (List UInt8):=
 cond (decide (k<1))
  (
  some ([]))
  (
  cond (decide (k>8))
   (
   some ([]))
   (
   XbU (decide (0≤k∧k≤k∧k<2^63∧(1:Int)*k≤2^48)) <|
   iter (fun st=>Xhe n k st.1 st.2) FUEL (0,List.replicate k.toNat (0))))
def XNe (x:List UInt8):Xc4:=⟨.string ⟨⟨x⟩⟩,[],[]⟩
abbrev XbL:=Int→Int→Option (List UInt8)
def r71 (g:XbL):Dec:=dV (asI .u64) fun (y0:Int)=>dV (asI .i64) fun (y1:Int)=>XdY (ofG (g y0 y1) XNe)
theorem r71_c {g:XbL} {y0:Int} {y1:Int} {x:List UInt8} (hx:g y0 y1=some x):r71 g [.int .u64 y0,.int .i64 y1] []=some (XNe x):=(Xbb (Xdo _)).trans ((Xbb (Xdo _)).trans (Xbc hx))
def s71 (g:XbL):Xb3:=⟨[.v,.v],r71 g⟩
theorem XpM {g:XbL} {y0:Int} {y1:Int} {x:List UInt8} (hx:g y0 y1=some x):(s71 g).run [.int .u64 y0,.int .i64 y1] []=some (XNe x):=r71_c hx
abbrev XFY:List (Nat×Xb3):=[]
def Xm7 (n:Int) (k:Int) (t17:Int) (b:List Int):VM:=
 ⟨⟨71,34,[(0,.int .u64 n),(1,.int .i64 k),(5,.slice (some ⟨0,0,none⟩) k.toNat 1),(16,.int .i64 (k.toNat:Int)),(17,.int .i64 t17)],[.code XxQ,.inLoop XxQ,.inBlock 0,.code XFM],[],false,none⟩,[],[(0,.row true (vI .u8 b))],1⟩
theorem XCf (hS:Xar Tryz.prog (XaI (XFY))) (n:Int) (k:Int) (res:List UInt8):∀ fuel (st:Int×(List Int)) (o:List UInt8),iter (fun st=>Xhe n k st.1 st.2) fuel st=some o→(o=res) →
 XaO Tryz.prog 71 0 (Xm7 n k st.1 st.2) (fun v H _=>Res 0 (XNe res) v H):=by
 intro fuel st o h hc
 refine Xdh (head:=fun st=>Xm7 n k st.1 st.2) (C:=fun o=>(o=res)) ?_ fuel st o h hc
 clear h hc o st fuel
 intro st o h hc
 obtain ⟨t17,b⟩:=st
 replace h:Xhe n k t17 b=some o:=h
 show XaO Tryz.prog 71 0 (Xm7 n k t17 b) (fun v H _=>Res 0 (XNe res) v H)
 unfold Xhe at h
 refine XbD XaQ hS true 3000 ?_
 conv=>whnf
 refine br.h2 h (by rfl) ?_ ?_
 ·clear h;intro hb h;conv=>whnf
  replace h:=XbU.elim h;obtain ⟨hb,h⟩:=h
  refine req.intro (by (first|rfl|(simp [wI,vI,vB,vS,bI,Xiq,XeC,Xa2,Value.cells] at *;omega)|(simp [vI,vB,vS,bI,Xiq,XeC,Xa2,Value.cells] at *;omega)|(simp [vI,vB,vS,bI,Xiq,XeC,Xa2,Value.cells] at *;done))) ?_
  conv=>whnf
  refine XRK ?_
  conv=>whnf
  exact W
 clear h;intro hb h;conv=>whnf
 let t:Int:=wI .i64 (8*(wI .i64 ((wI .i64 (k - 1)) - t17)))
 replace h:=XbU.elim h;obtain ⟨hb,h⟩:=h
 try (refine req.intro hb ?_;conv=>whnf)
 replace h:=XbU.elim h;obtain ⟨hb,h⟩:=h
 try (refine req.intro hb ?_;conv=>whnf)
 replace h:=XbU.elim h;obtain ⟨hb,h⟩:=h
 refine st_I hb (by first|rfl|(rw [Nat.zero_add,Nat.mul_one];try rfl;done)|omega) ?_
 conv=>whnf
 let row:List Int:=b.set t17.toNat (wI .u8 (n.fdiv (2^(min t.toNat 64))))
 cases h;simp only [Sum.elim_inl,Xm7] at hc
 exact Xn8 hc [(0,0)] rfl
theorem XIT (hS:Xar Tryz.prog (XaI (XFY))) (n:Int) (k:Int) (res:List UInt8) (h:Xle n k=some res) :
 XaO Tryz.prog 71 0 ⟨⟨71,34,[(0,.int .u64 n),(1,.int .i64 k)],[.code XF1],[],false,none⟩,[],[],0⟩ (fun v H _=>Res 0 (XNe res) v H):=by
 unfold Xle at h
 refine XbD XaQ hS true 3000 ?_
 conv=>whnf
 refine br.h h (by rfl) ?_ ?_
 ·clear h;intro hb h;conv=>whnf
  exact W
 clear h;intro hb h;conv=>whnf
 refine br.h h (by rfl) ?_ ?_
 ·clear h;intro hb h;conv=>whnf
  exact W
 clear h;intro hb h;conv=>whnf
 replace h:=XbU.elim h;obtain ⟨hb,h⟩:=h
 try (refine req.intro hb ?_;conv=>whnf)
 refine XSq ?_
 conv=>whnf
 have hl:=XCf hS _ _ res _ _ _ h rfl;simp only [Xm7] at hl
 exact Xn8 hl [(0,0)] rfl
def XaE:XbL:=Xle
theorem XqC:Xb8 Tryz.prog 71 (s71 XaE):=by
 have hL:=XIT (Xar.Xa6 trivial)
 exact okA ⟨Tryz.f71,rfl,by decide,rfl⟩
def Xhj (t1:List UInt8) (n:Int) (t37:Int):Option (Sum (Int×Int) (Int×Bool)):=
 cond (decide (t37<(t1.length:Int)))
  (
  XbU (decide ((0:Int)≤t37∧t37<(t1.length:Int))) <|
  ((bI t1)[t37.toNat]?).bind fun (e:Int)=>
  let t2:=Xwm .u64 (wI .u64 (n*2^8)) (wI .u64 e)
  some (.inl (t2,wI .i64 (t37+1))))
  (
  some (.inr ((n,true))))
def Xlv (s:List UInt8) (ata1:Int) (k:Int):Option (Int×Bool):=
 cond (decide (k<1))
  (
  some ((0,false)))
  (
  cond (decide (k>8))
   (
   some ((0,false)))
   (
   cond (decide (ata1<0))
    (
    some ((0,false)))
    (
    let t:=decide ((wI .i64 ((s.length:Int) - k))<ata1)
    cond (t)
     (
     some ((0,false)))
     (
     XbU (decide ((0:Int)≤(wI .i64 (ata1+k))∧(wI .i64 (ata1+k))≤(s.length:Int)∧(0:Int)≤ata1∧ata1≤((wI .i64 (ata1+k)).toNat:Int))) <|
     let t1:=(s.drop ata1.toNat).take ((wI .i64 (ata1+k)).toNat - ata1.toNat)
     iter (fun st=>Xhj t1 st.1 st.2) FUEL (0,0)))))
def XM8 (x:Int×Bool):Xc4:=⟨.tuple ⟨[.int .u64 x.1,.bool x.2]⟩,[],[]⟩
abbrev Xby:=(List UInt8)→Int→Int→Option (Int×Bool)
def r69 (g:Xby):Dec:=dV asS fun (y0:List UInt8)=>dV (asI .i64) fun (y1:Int)=>dV (asI .i64) fun (y2:Int)=>XdY (ofG (g y0 y1 y2) XM8)
theorem r69_c {g:Xby} {y0:List UInt8} {y1:Int} {y2:Int} {x:Int×Bool} (hx:g y0 y1 y2=some x):r69 g [.string ⟨⟨y0⟩⟩,.int .i64 y1,.int .i64 y2] []=some (XM8 x):=(Xbb (Xeb)).trans ((Xbb (Xdo _)).trans ((Xbb (Xdo _)).trans (Xbc hx)))
def s69 (g:Xby):Xb3:=⟨[.v,.v,.v],r69 g⟩
theorem Xo3 {g:Xby} {y0:List UInt8} {y1:Int} {y2:Int} {x:Int×Bool} (hx:g y0 y1 y2=some x):(s69 g).run [.string ⟨⟨y0⟩⟩,.int .i64 y1,.int .i64 y2] []=some (XM8 x):=r69_c hx
abbrev XGm:List (Nat×Xb3):=[]
def Xmm (t1:List UInt8) (n:Int) (t37:Int):VM:=
 ⟨⟨69,48,[(8,.int .u64 n),(35,.slice (some ⟨0,0,none⟩) t1.length 1),(36,.int .i64 (t1.length:Int)),(37,.int .i64 t37)],[.code XxN,.inLoop XxN,.inBlock 0,.code XHg],[],false,none⟩,[],[(0,.row true (vI .u8 (bI t1)))],1⟩
theorem XCi (hS:Xar Tryz.prog (XaI (XGm))) (t1:List UInt8) (res:Int×Bool):∀ fuel (st:Int×Int) (o:Int×Bool),iter (fun st=>Xhj t1 st.1 st.2) fuel st=some o→(o=res) →
 XaO Tryz.prog 69 0 (Xmm t1 st.1 st.2) (fun v H _=>Res 0 (XM8 res) v H):=by
 intro fuel st o h hc
 refine Xdh (head:=fun st=>Xmm t1 st.1 st.2) (C:=fun o=>(o=res)) ?_ fuel st o h hc
 clear h hc o st fuel
 intro st o h hc
 obtain ⟨n,t37⟩:=st
 replace h:Xhj t1 n t37=some o:=h
 show XaO Tryz.prog 69 0 (Xmm t1 n t37) (fun v H _=>Res 0 (XM8 res) v H)
 unfold Xhj at h
 refine XbD XaQ hS true 3000 ?_
 conv=>whnf
 refine br.h2 h (by rfl) ?_ ?_
 ·clear h;intro hb h;conv=>whnf
  exact W
 clear h;intro hb h;conv=>whnf
 replace h:=XbU.elim h;obtain ⟨hb,h⟩:=h
 try (refine req.intro hb ?_;conv=>whnf)
 replace h:=Xdj.elim h;obtain ⟨e,hy,h⟩:=h
 refine rd.I hy (by first|rfl|(rw [Nat.zero_add,Nat.mul_one];try rfl;done)|omega) ?_
 conv=>whnf
 let t2:Int:=Xwm .u64 (wI .u64 (n*2^8)) (wI .u64 e)
 cases h;simp only [Sum.elim_inl,Xmm] at hc
 exact Xn8 hc [(0,0)] rfl
theorem XJV (hS:Xar Tryz.prog (XaI (XGm))) (s:List UInt8) (ata1:Int) (k:Int) (res:Int×Bool) (h:Xlv s ata1 k=some res) :
 XaO Tryz.prog 69 0 ⟨⟨69,48,[(0,.string ⟨⟨s⟩⟩),(1,.int .i64 ata1),(2,.int .i64 k)],[.code XF3],[],false,none⟩,[],[],0⟩ (fun v H _=>Res 0 (XM8 res) v H):=by
 unfold Xlv at h
 refine XbD XaQ hS true 3000 ?_
 conv=>whnf
 refine br.h h (by rfl) ?_ ?_
 ·clear h;intro hb h;conv=>whnf
  exact W
 clear h;intro hb h;conv=>whnf
 refine br.h h (by rfl) ?_ ?_
 ·clear h;intro hb h;conv=>whnf
  exact W
 clear h;intro hb h;conv=>whnf
 refine br.h h (by rfl) ?_ ?_
 ·clear h;intro hb h;conv=>whnf
  exact W
 clear h;intro hb h;conv=>whnf
 let t:Bool:=decide ((wI .i64 ((s.length:Int) - k))<ata1)
 refine br.h h (by rfl) ?_ ?_
 ·clear h;intro hb h;conv=>whnf
  exact W
 clear h;intro hb h;conv=>whnf
 replace h:=XbU.elim h;obtain ⟨hb,h⟩:=h
 try (refine req.intro hb ?_;conv=>whnf)
 let t1:List UInt8:=(s.drop ata1.toNat).take ((wI .i64 (ata1+k)).toNat - ata1.toNat)
 refine XOY ?_
 conv=>whnf
 have hl:=XCi hS _ res _ _ _ h rfl;simp only [Xmm] at hl
 exact Xn8 hl [(0,0)] rfl
def Xax:Xby:=Xlv
theorem XqQ:Xb8 Tryz.prog 69 (s69 Xax):=by
 have hL:=XJV (Xar.Xa6 trivial)
 exact okA ⟨Tryz.f69,rfl,by decide,rfl⟩
def Xhm (k:Int) (n1:Int) (s:List UInt8) (i:Int):Option (Sum (Int×(List UInt8)×Int) (List UInt8)):=
 cond (decide (i<k))
  (
  cond (decide (k≤8))
   (
   let t:=[UInt8.ofNat (wI .u8 (n1.tmod 256)).toNat]
   XbU (decide (t.length+s.length<2^63)) <|
   some (.inl (wI .u64 (n1.tdiv 256),t++s,wI .i64 (i+1))))
   (
   some (.inr (s))))
  (
  some (.inr (s)))
def XoD (n:Int) (k:Int):Option (List UInt8):=
 iter (fun st=>Xhm k st.1 st.2.1 st.2.2) FUEL (n,[],0)
def XNd (x:List UInt8):Xc4:=⟨.string ⟨⟨x⟩⟩,[],[]⟩
abbrev Xcs:=Int→Int→Option (List UInt8)
def r46 (g:Xcs):Dec:=dV (asI .u64) fun (y0:Int)=>dV (asI .i64) fun (y1:Int)=>XdY (ofG (g y0 y1) XNd)
theorem r46_c {g:Xcs} {y0:Int} {y1:Int} {x:List UInt8} (hx:g y0 y1=some x):r46 g [.int .u64 y0,.int .i64 y1] []=some (XNd x):=(Xbb (Xdo _)).trans ((Xbb (Xdo _)).trans (Xbc hx))
def s46 (g:Xcs):Xb3:=⟨[.v,.v],r46 g⟩
theorem XqO {g:Xcs} {y0:Int} {y1:Int} {x:List UInt8} (hx:g y0 y1=some x):(s46 g).run [.int .u64 y0,.int .i64 y1] []=some (XNd x):=r46_c hx
abbrev XGu:List (Nat×Xb3):=[]
def XmK (k:Int) (n1:Int) (s:List UInt8) (i:Int):VM:=
 ⟨⟨46,26,[(0,.int .u64 n1),(1,.int .i64 k),(5,.string ⟨⟨s⟩⟩),(6,.int .i64 i)],[.code XyJ,.inLoop XyJ,.inBlock 0,.code XG4],[],false,none⟩,[],[],0⟩
theorem XDN (hS:Xar Tryz.prog (XaI (XGu))) (k:Int) (res:List UInt8):∀ fuel (st:Int×(List UInt8)×Int) (o:List UInt8),iter (fun st=>Xhm k st.1 st.2.1 st.2.2) fuel st=some o→(o=res) →
 XaO Tryz.prog 46 0 (XmK k st.1 st.2.1 st.2.2) (fun v H _=>Res 0 (XNd res) v H):=by
 intro fuel st o h hc
 refine Xdh (head:=fun st=>XmK k st.1 st.2.1 st.2.2) (C:=fun o=>(o=res)) ?_ fuel st o h hc
 clear h hc o st fuel
 intro st o h hc
 obtain ⟨n1,s,i⟩:=st
 replace h:Xhm k n1 s i=some o:=h
 show XaO Tryz.prog 46 0 (XmK k n1 s i) (fun v H _=>Res 0 (XNd res) v H)
 unfold Xhm at h
 refine XbD XaQ hS true 3000 ?_
 conv=>whnf
 refine br.h2 h (by rfl) ?_ ?_
 ·clear h;intro hb h;conv=>whnf
  exact W
 clear h;intro hb h;conv=>whnf
 refine br.h2 h (by rfl) ?_ ?_
 ·clear h;intro hb h;conv=>whnf
  exact W
 clear h;intro hb h;conv=>whnf
 refine XJa rfl ?_
 conv=>whnf
 let t:List UInt8:=[UInt8.ofNat (wI .u8 (n1.tmod 256)).toNat]
 replace h:=XbU.elim h;obtain ⟨hb,h⟩:=h
 try (refine req.intro hb ?_;conv=>whnf)
 cases h;simp only [Sum.elim_inl,XmK] at hc
 exact Xn8 hc [] rfl
theorem XMR (hS:Xar Tryz.prog (XaI (XGu))) (n:Int) (k:Int) (res:List UInt8) (h:XoD n k=some res) :
 XaO Tryz.prog 46 0 ⟨⟨46,26,[(0,.int .u64 n),(1,.int .i64 k)],[.code XGP],[],false,none⟩,[],[],0⟩ (fun v H _=>Res 0 (XNd res) v H):=by
 unfold XoD at h
 refine XbD XaQ hS true 3000 ?_
 conv=>whnf
 have hl:=XDN hS _ res _ _ _ h rfl;simp only [XmK] at hl
 exact Xn8 hl [] rfl
def XaZ:Xcs:=XoD
theorem Xqu:Xb8 Tryz.prog 46 (s46 XaZ):=by
 have hL:=XMR (Xar.Xa6 trivial)
 exact okA ⟨Tryz.f46,rfl,by decide,rfl⟩
def XiP (s:List UInt8) (ata1:Int) (k:Int) (n:Int) (i:Int):Option (Sum (Int×Int) (Int×Bool)):=
 cond (decide (i<k))
  (
  XbU (decide (0≤(wI .i64 (ata1+i)))) <|
  (s[(wI .i64 (ata1+i)).toNat]?).bind fun (b:UInt8)=>
  let t1:=wI .u64 ((wI .u64 (n*256))+(wI .u64 (b.toNat:Int)))
  some (.inl (t1,wI .i64 (i+1))))
  (
  some (.inr ((n,true))))
def Xot (s:List UInt8) (ata1:Int) (k:Int):Option (Int×Bool):=
 cond (decide (k<1))
  (
  some ((0,false)))
  (
  cond (decide (k>8))
   (
   some ((0,false)))
   (
   cond (decide (ata1<0))
    (
    some ((0,false)))
    (
    cond (decide (ata1>(s.length:Int)))
     (
     some ((0,false)))
     (
     let t:=decide (k>(wI .i64 ((s.length:Int) - ata1)))
     cond (t)
      (
      some ((0,false)))
      (
      iter (fun st=>XiP s ata1 k st.1 st.2) FUEL (0,0))))))
def XNa (x:Int×Bool):Xc4:=⟨.tuple ⟨[.int .u64 x.1,.bool x.2]⟩,[],[]⟩
abbrev Xe7:=(List UInt8)→Int→Int→Option (Int×Bool)
def r61 (g:Xe7):Dec:=dV asS fun (y0:List UInt8)=>dV (asI .i64) fun (y1:Int)=>dV (asI .i64) fun (y2:Int)=>XdY (ofG (g y0 y1 y2) XNa)
theorem r61_c {g:Xe7} {y0:List UInt8} {y1:Int} {y2:Int} {x:Int×Bool} (hx:g y0 y1 y2=some x):r61 g [.string ⟨⟨y0⟩⟩,.int .i64 y1,.int .i64 y2] []=some (XNa x):=(Xbb (Xeb)).trans ((Xbb (Xdo _)).trans ((Xbb (Xdo _)).trans (Xbc hx)))
def s61 (g:Xe7):Xb3:=⟨[.v,.v,.v],r61 g⟩
theorem XGA {g:Xe7} {y0:List UInt8} {y1:Int} {y2:Int} {x:Int×Bool} (hx:g y0 y1 y2=some x):(s61 g).run [.string ⟨⟨y0⟩⟩,.int .i64 y1,.int .i64 y2] []=some (XNa x):=r61_c hx
abbrev XFI:List (Nat×Xb3):=[]
def XmY (s:List UInt8) (ata1:Int) (k:Int) (n:Int) (i:Int):VM:=
 ⟨⟨61,49,[(0,.string ⟨⟨s⟩⟩),(1,.int .i64 ata1),(2,.int .i64 k),(8,.int .u64 n),(9,.int .i64 i)],[.code XyS,.inLoop XyS,.inBlock 0,.code XFK],[],false,none⟩,[],[],0⟩
theorem XEF (hS:Xar Tryz.prog (XaI (XFI))) (s:List UInt8) (ata1:Int) (k:Int) (res:Int×Bool):∀ fuel (st:Int×Int) (o:Int×Bool),iter (fun st=>XiP s ata1 k st.1 st.2) fuel st=some o→(o=res) →
 XaO Tryz.prog 61 0 (XmY s ata1 k st.1 st.2) (fun v H _=>Res 0 (XNa res) v H):=by
 intro fuel st o h hc
 refine Xdh (head:=fun st=>XmY s ata1 k st.1 st.2) (C:=fun o=>(o=res)) ?_ fuel st o h hc
 clear h hc o st fuel
 intro st o h hc
 obtain ⟨n,i⟩:=st
 replace h:XiP s ata1 k n i=some o:=h
 show XaO Tryz.prog 61 0 (XmY s ata1 k n i) (fun v H _=>Res 0 (XNa res) v H)
 unfold XiP at h
 refine XbD XaQ hS true 3000 ?_
 conv=>whnf
 refine br.h2 h (by rfl) ?_ ?_
 ·clear h;intro hb h;conv=>whnf
  exact W
 clear h;intro hb h;conv=>whnf
 replace h:=XbU.elim h;obtain ⟨hb,h⟩:=h
 try (refine req.intro hb ?_;conv=>whnf)
 replace h:=Xdj.elim h;obtain ⟨b,hy,h⟩:=h
 refine rdS.intro hy ?_
 conv=>whnf
 let t1:Int:=wI .u64 ((wI .u64 (n*256))+(wI .u64 (b.toNat:Int)))
 cases h;simp only [Sum.elim_inl,XmY] at hc
 exact Xn8 hc [] rfl
theorem XMO (hS:Xar Tryz.prog (XaI (XFI))) (s:List UInt8) (ata1:Int) (k:Int) (res:Int×Bool) (h:Xot s ata1 k=some res) :
 XaO Tryz.prog 61 0 ⟨⟨61,49,[(0,.string ⟨⟨s⟩⟩),(1,.int .i64 ata1),(2,.int .i64 k)],[.code XGy],[],false,none⟩,[],[],0⟩ (fun v H _=>Res 0 (XNa res) v H):=by
 unfold Xot at h
 refine XbD XaQ hS true 3000 ?_
 conv=>whnf
 refine br.h h (by rfl) ?_ ?_
 ·clear h;intro hb h;conv=>whnf
  exact W
 clear h;intro hb h;conv=>whnf
 refine br.h h (by rfl) ?_ ?_
 ·clear h;intro hb h;conv=>whnf
  exact W
 clear h;intro hb h;conv=>whnf
 refine br.h h (by rfl) ?_ ?_
 ·clear h;intro hb h;conv=>whnf
  exact W
 clear h;intro hb h;conv=>whnf
 refine br.h h (by rfl) ?_ ?_
 ·clear h;intro hb h;conv=>whnf
  exact W
 clear h;intro hb h;conv=>whnf
 let t:Bool:=decide (k>(wI .i64 ((s.length:Int) - ata1)))
 refine br.h h (by rfl) ?_ ?_
 ·clear h;intro hb h;conv=>whnf
  exact W
 clear h;intro hb h;conv=>whnf
 have hl:=XEF hS _ _ _ res _ _ _ h rfl;simp only [XmY] at hl
 exact Xn8 hl [] rfl
def Xev:Xe7:=Xot
theorem XFX:Xb8 Tryz.prog 61 (s61 Xev):=by
 have hL:=XMO (Xar.Xa6 trivial)
 exact okA ⟨Tryz.f61,rfl,by decide,rfl⟩
def Xmw (Xev:Xe7) (s:List UInt8) (ata1:Int) (k:Int):Option Int:=
 (Xev s ata1 k).bind fun xg=>
 some (wI .i64 xg.1)
def rx62 (x:Int):Xc4:=⟨.int .i64 x,[],[]⟩
abbrev Xe1:=(List UInt8)→Int→Int→Option Int
def r62 (g:Xe1):Dec:=dV asS fun (y0:List UInt8)=>dV (asI .i64) fun (y1:Int)=>dV (asI .i64) fun (y2:Int)=>XdY (ofG (g y0 y1 y2) rx62)
theorem r62_c {g:Xe1} {y0:List UInt8} {y1:Int} {y2:Int} {x:Int} (hx:g y0 y1 y2=some x):r62 g [.string ⟨⟨y0⟩⟩,.int .i64 y1,.int .i64 y2] []=some (rx62 x):=(Xbb (Xeb)).trans ((Xbb (Xdo _)).trans ((Xbb (Xdo _)).trans (Xbc hx)))
def s62 (g:Xe1):Xb3:=⟨[.v,.v,.v],r62 g⟩
theorem XOy {g:Xe1} {y0:List UInt8} {y1:Int} {y2:Int} {x:Int} (hx:g y0 y1 y2=some x):(s62 g).run [.string ⟨⟨y0⟩⟩,.int .i64 y1,.int .i64 y2] []=some (rx62 x):=r62_c hx
abbrev XPF (Xev:Xe7):List (Nat×Xb3):=[(61,s61 Xev)]
theorem XMg (Xev:Xe7) (hS:Xar Tryz.prog (XaI (XPF Xev))) (s:List UInt8) (ata1:Int) (k:Int) (res:Int) (h:Xmw Xev s ata1 k=some res) :
 XaO Tryz.prog 62 0 ⟨⟨62,18,[(0,.string ⟨⟨s⟩⟩),(1,.int .i64 ata1),(2,.int .i64 k)],[.code XQb],[],false,none⟩,[],[],0⟩ (fun v H _=>Res 0 (rx62 res) v H):=by
 unfold Xmw at h
 have R1:=@XGA Xev
 refine XbD XaQ hS true 3000 ?_
 conv=>whnf
 exact W
def Xdu:Xe1:=Xmw Xev
theorem XRf:Xb8 Tryz.prog 62 (s62 Xdu):=by
 have hL:=XMg Xev (Xar.Xa6 ⟨XFX,trivial⟩)
 exact okA ⟨Tryz.f62,rfl,by decide,rfl⟩
end Go.Vm.Code
namespace Go.Vm.Code
open Go Go.Vm
def XeA (n k:Int):List UInt8:=if 1≤k∧k≤8 then be n.toNat k.toNat else []
theorem Xfy {n k:Int} (h0:0≤n):XaE n k=some (XeA n k):=by
 unfold XaE Xle XeA
 by_cases h1:k<1
 ·rw [XbB h1,if_neg (by omega)]
 by_cases h2:k>8
 ·rw [Xbd h1,XbB h2,if_neg (by omega)]
 rw [Xbd h1,Xbd h2,Xa9 (by omega),if_pos (by omega)]
 obtain ⟨m,rfl⟩:=Int.eq_ofNat_of_zero_le h0
 obtain ⟨j,rfl⟩:=Int.eq_ofNat_of_zero_le (show 0≤k by omega)
 have key:=iter_eq (step:=fun (st:Int×List Int)=>Xhe (m:Int) (j:Int) st.1 st.2) (fun st=>iB (st.2.take st.1.toNat)++be m (j - st.1.toNat)) (fun st=>0≤st.1∧st.1≤j∧st.2.length=j) (fun st=>(j - st.1).toNat) ?_ FUEL (0,List.replicate (j:Int).toNat 0) ⟨by simp,by simp,by simp⟩ (by rw [XgR];simp only;omega)
 ·rw [key];simp [iB]
 rintro ⟨p,b⟩ ⟨g1,g2,g3⟩
 simp only at g1 g2 g3 ⊢
 obtain ⟨i,rfl⟩:=Int.eq_ofNat_of_zero_le g1
 unfold Xhe
 by_cases hp:i<j
 ·refine .inr ⟨(((i+1:Nat):Int),b.set i ((m/256^(j - 1 - i)%256:Nat):Int)),?_,⟨by simp only;omega,by simp only;omega,by simp [g3]⟩,by simp only;omega,?_⟩
  ·simp (disch:=omega) only [Xe0,Xa9,XbB,Int.toNat_natCast]
   have e1:min (8*((j:Int) - 1 - i)).toNat 64=8*(j - 1 - i):=by omega
   have e0:(2:Int)^(8*(j - 1 - i))=((256^(j - 1 - i):Nat):Int):=by rw [show (256:Nat)=2^8 from rfl,←Nat.pow_mul];push_cast;rfl
   rw [e1,XsM,wU8m,e0]
   rfl
  ·simp only [Int.toNat_natCast]
   have e2:j - i=(j - (i+1))+1:=by omega
   have e3:j - (i+1)=j - 1 - i:=by omega
   have e4:(b.set i ((m/256^(j - 1 - i)%256:Nat):Int)).take (i+1)=b.take i++[((m/256^(j - 1 - i)%256:Nat):Int)]:=by
    rw [List.take_succ_eq_append_getElem (by simp;omega),List.take_set_of_le (Nat.le_refl _),List.getElem_set_self]
   rw [e2,e4,be,e3]
   simp only [iB,List.map_append,List.map_cons,List.map_nil,List.append_assoc,List.cons_append,List.nil_append,Int.toNat_natCast]
   congr 2
   apply UInt8.toNat_inj.1
   simp
 ·refine .inl ?_
  obtain rfl:i=j:=by omega
  simp (disch:=omega) only [Xbd,Xa9,Int.toNat_natCast]
  simp [be]
theorem XeE {n k:Int} (h0:0≤n) (h1:n<2^64):XaZ n k=some (XeA n k):=by
 unfold XaZ XoD XeA
 obtain ⟨m,rfl⟩:=Int.eq_ofNat_of_zero_le h0
 by_cases hk:1≤k∧k≤8
 ·rw [if_pos hk]
  obtain ⟨j,rfl⟩:=Int.eq_ofNat_of_zero_le (show 0≤k by omega)
  have key:=iter_eq (step:=fun st=>Xhm (j:Int) st.1 st.2.1 st.2.2) (fun st=>be st.1.toNat (j - st.2.2.toNat)++st.2.1) (fun st=>0≤st.1∧st.1<2^64∧0≤st.2.2∧st.2.2≤j∧st.2.1.length<2^20+st.2.2.toNat) (fun st=>(j - st.2.2).toNat) ?_ FUEL ((m:Int),[],0) ⟨by simp,by simp only;omega,by simp,by simp,by simp⟩ (by rw [XgR];simp only;omega)
  ·rw [key];simp
  rintro ⟨n,s,p⟩ ⟨g1,g2,g3,g4,g5⟩
  simp only at g1 g2 g3 g4 g5 ⊢
  obtain ⟨i,rfl⟩:=Int.eq_ofNat_of_zero_le g3
  obtain ⟨x,rfl⟩:=Int.eq_ofNat_of_zero_le g1
  unfold Xhm
  by_cases hp:i<j
  ·refine .inr ⟨(((x/256:Nat):Int),UInt8.ofNat x::s,((i+1:Nat):Int)),?_,⟨by simp only;omega,by simp only;omega,by simp only;omega,by simp only;omega,by simp at g5 ⊢;omega⟩,by simp only;omega,?_⟩
   ·have e1:(x:Int).tmod 256=((x%256:Nat):Int):=by rw [Int.tmod_eq_emod_of_nonneg (by omega)];rfl
    have e2:(x:Int).tdiv 256=((x/256:Nat):Int):=by rw [Int.tdiv_eq_ediv_of_nonneg (by omega)];rfl
    rw [XbB (by omega),XbB (by omega),e1,e2,wU8 (by omega) (by omega)]
    simp only [List.length_cons,List.length_nil]
    rw [Xa9 (by omega),Xkr (by omega) (by omega),Xe0 (by omega) (by omega),Int.toNat_natCast]
    have e3:UInt8.ofNat (x%256)=UInt8.ofNat x:=by apply UInt8.toNat_inj.1;simp
    rw [e3];rfl
   ·simp only [Int.toNat_natCast]
    have e2:j - i=(j - (i+1))+1:=by omega
    rw [e2,XoQ];simp
  ·refine .inl ?_
   obtain rfl:i=j:=by omega
   rw [Xbd (by omega)]
   simp [be]
 ·rw [if_neg hk]
  show iter _ (18446744073709551615+1) _=_
  rw [iter]
  have:Xhm k (m:Int) [] 0=some (.inr []):=by
   unfold Xhm
   by_cases h2:0<k
   ·rw [XbB h2,Xbd (by omega)]
   ·rw [Xbd h2]
  simp only [this]
def Xuz (s:List UInt8) (p k:Int):Int×Bool:=if 1≤k∧k≤8∧0≤p∧p+k≤s.length then (((XeY ((s.drop p.toNat).take k.toNat):Nat):Int),true) else (0,false)
theorem Xq6 {v i:Nat} (h:v<256^i) (hi:i≤7):v<2^56:=Nat.lt_of_lt_of_le h (by
 have:(256:Nat)^i≤256^7:=Nat.pow_le_pow_right (by decide) hi
 simpa using this)
theorem XeL {s:List UInt8} {p k:Int} (hs:s.length<2^61):Xax s p k=some (Xuz s p k):=by
 unfold Xax Xlv Xuz
 by_cases h1:k<1
 ·rw [XbB h1,if_neg (by omega)]
 by_cases h2:k>8
 ·rw [Xbd h1,XbB h2,if_neg (by omega)]
 by_cases h3:p<0
 ·rw [Xbd h1,Xbd h2,XbB h3,if_neg (by omega)]
 rw [Xbd h1,Xbd h2,Xbd h3,Xe0 (n:=(s.length:Int) - k) (by omega) (by omega)]
 by_cases h4:(s.length:Int) - k<p
 ·simp only []
  rw [XbB h4,if_neg (by omega)]
 simp only []
 rw [Xbd h4,Xe0 (n:=p+k) (by omega) (by omega),Xa9 (by omega),if_pos (by omega)]
 obtain ⟨q,rfl⟩:=Int.eq_ofNat_of_zero_le (show 0≤p by omega)
 obtain ⟨j,rfl⟩:=Int.eq_ofNat_of_zero_le (show 0≤k by omega)
 have e:((q:Int)+j).toNat - (q:Int).toNat=j:=by omega
 rw [e]
 simp only [Int.toNat_natCast]
 generalize ht:(s.drop q).take j=t
 have hl:t.length=j:=by rw [←ht];simp;omega
 have key:=iter_eq (step:=fun st=>Xhj t st.1 st.2) (fun st=>(((st.1.toNat*256^(j - st.2.toNat)+XeY (t.drop st.2.toNat):Nat):Int),true)) (fun st=>0≤st.1∧0≤st.2∧st.2≤j∧st.1.toNat<256^st.2.toNat) (fun st=>(j - st.2).toNat) ?_ FUEL (0,0) ⟨by simp,by simp,by simp,by simp⟩ (by rw [XgR];simp only;omega)
 ·rw [key];simp
 rintro ⟨n,x⟩ ⟨g1,g2,g3,g4⟩
 simp only at g1 g2 g3 g4 ⊢
 obtain ⟨i,rfl⟩:=Int.eq_ofNat_of_zero_le g2
 obtain ⟨v,rfl⟩:=Int.eq_ofNat_of_zero_le g1
 simp only [Int.toNat_natCast] at g4 ⊢
 unfold Xhj
 by_cases hp:i<j
 ·have hlt:i<t.length:=by omega
  have hb:=t[i].toNat_lt
  have hv:=Xq6 g4 (by omega)
  refine .inr ⟨(((v*256+t[i].toNat:Nat):Int),((i+1:Nat):Int)),?_,⟨by simp only;omega,by simp only;omega,by simp only;omega,?_⟩,by simp only;omega,?_⟩
  ·rw [XbB (by omega),Xa9 (by omega)]
   have e1:(bI t)[(i:Int).toNat]?=some (t[i].toNat:Int):=by simp [bI,hlt]
   rw [e1,Option.bind_some]
   have e2:Xwm .u64 (wI .u64 ((v:Int)*2^8)) (wI .u64 (t[i].toNat:Int))=((v*256+t[i].toNat:Nat):Int):=by
    rw [Xkr (by omega) (by omega),Xkr (by omega) (by omega),XqA 8 (by omega) (by omega) (by omega) (by omega) (by omega)];omega
   simp only [e2]
   rw [Xe0 (by omega) (by omega)];rfl
  ·simp only [Int.toNat_natCast]
   rw [Nat.pow_succ];omega
  ·simp only [Int.toNat_natCast]
   rw [List.drop_eq_getElem_cons hlt,Xh8]
   have e3:(t.drop (i+1)).length=j - (i+1):=by simp;omega
   have e4:j - i=(j - (i+1))+1:=by omega
   rw [e3,e4,Nat.pow_succ,Nat.add_mul,Nat.mul_assoc,Nat.mul_comm 256,Nat.add_assoc]
 ·refine .inl ?_
  obtain rfl:i=j:=by omega
  rw [Xbd (by omega)]
  simp [←hl]
theorem XqP {s:List UInt8} {p k:Int} (hs:s.length<2^61):Xev s p k=some (Xuz s p k):=by
 unfold Xev Xot Xuz
 by_cases h1:k<1
 ·rw [XbB h1,if_neg (by omega)]
 by_cases h2:k>8
 ·rw [Xbd h1,XbB h2,if_neg (by omega)]
 by_cases h3:p<0
 ·rw [Xbd h1,Xbd h2,XbB h3,if_neg (by omega)]
 by_cases h5:p>s.length
 ·rw [Xbd h1,Xbd h2,Xbd h3,XbB h5,if_neg (by omega)]
 rw [Xbd h1,Xbd h2,Xbd h3,Xbd h5,Xe0 (n:=(s.length:Int) - p) (by omega) (by omega)]
 by_cases h4:k>(s.length:Int) - p
 ·simp only []
  rw [XbB h4,if_neg (by omega)]
 simp only []
 rw [Xbd h4,if_pos (by omega)]
 obtain ⟨q,rfl⟩:=Int.eq_ofNat_of_zero_le (show 0≤p by omega)
 obtain ⟨j,rfl⟩:=Int.eq_ofNat_of_zero_le (show 0≤k by omega)
 simp only [Int.toNat_natCast]
 generalize ht:(s.drop q).take j=t
 have hl:t.length=j:=by rw [←ht];simp;omega
 have key:=iter_eq (step:=fun st=>XiP s (q:Int) (j:Int) st.1 st.2) (fun st=>(((st.1.toNat*256^(j - st.2.toNat)+XeY (t.drop st.2.toNat):Nat):Int),true)) (fun st=>0≤st.1∧0≤st.2∧st.2≤j∧st.1.toNat<256^st.2.toNat) (fun st=>(j - st.2).toNat) ?_ FUEL (0,0) ⟨by simp,by simp,by simp,by simp⟩ (by rw [XgR];simp only;omega)
 ·rw [key];simp
 rintro ⟨n,x⟩ ⟨g1,g2,g3,g4⟩
 simp only at g1 g2 g3 g4 ⊢
 obtain ⟨i,rfl⟩:=Int.eq_ofNat_of_zero_le g2
 obtain ⟨v,rfl⟩:=Int.eq_ofNat_of_zero_le g1
 simp only [Int.toNat_natCast] at g4 ⊢
 unfold XiP
 by_cases hp:i<j
 ·have hlt:i<t.length:=by omega
  have hb:=t[i].toNat_lt
  have hv:=Xq6 g4 (by omega)
  refine .inr ⟨(((v*256+t[i].toNat:Nat):Int),((i+1:Nat):Int)),?_,⟨by simp only;omega,by simp only;omega,by simp only;omega,?_⟩,by simp only;omega,?_⟩
  ·rw [XbB (by omega),Xe0 (n:=(q:Int)+i) (by omega) (by omega),Xa9 (by omega)]
   have e0:((q:Int)+i).toNat=q+i:=by omega
   have e1:s[q+i]?=some t[i]:=by
    subst ht
    rw [List.getElem?_eq_getElem (by omega)]
    simp
   rw [e0,e1,Option.bind_some]
   have e2:wI .u64 ((wI .u64 ((v:Int)*256))+(wI .u64 (t[i].toNat:Int)))=((v*256+t[i].toNat:Nat):Int):=by
    rw [Xkr (n:=(v:Int)*256) (by omega) (by omega),Xkr (n:=(t[i].toNat:Int)) (by omega) (by omega),Xkr (by omega) (by omega)];omega
   simp only [e2]
   rw [Xe0 (by omega) (by omega)];rfl
  ·simp only [Int.toNat_natCast]
   rw [Nat.pow_succ];omega
  ·simp only [Int.toNat_natCast]
   rw [List.drop_eq_getElem_cons hlt,Xh8]
   have e3:(t.drop (i+1)).length=j - (i+1):=by simp;omega
   have e4:j - i=(j - (i+1))+1:=by omega
   rw [e3,e4,Nat.pow_succ,Nat.add_mul,Nat.mul_assoc,Nat.mul_comm 256,Nat.add_assoc]
 ·refine .inl ?_
  obtain rfl:i=j:=by omega
  rw [Xbd (by omega)]
  simp [←hl]
theorem XtP {s:List UInt8} {p k:Int} (hs:s.length<2^61):Xdu s p k=some (wI .i64 (Xuz s p k).1):=by
 unfold Xdu Xmw
 rw [XqP hs];rfl
end Go.Vm.Code
namespace Go.Vm.Code
open Go Go.Vm Go.Proofs
set_option maxRecDepth 100000
set_option maxHeartbeats 4000000
set_option linter.unusedVariables false
def Xlp (XaE:XbL) (s:List UInt8) (ata1:Int) (k:Int) (n:Int):Option (List UInt8):=
 (XaE n k).bind fun p=>
 cond (p==[])
  (
  some (s))
  (
  cond (decide (ata1<0))
   (
   some (s))
   (
   let t:=decide ((wI .i64 ((s.length:Int) - k))<ata1)
   cond (t)
    (
    some (s))
    (
    XbU (decide ((0:Int)≤ata1∧ata1≤(s.length:Int))) <|
    XbU (decide ((s.take ata1.toNat).length+p.length<2^63)) <|
    XbU (decide ((0:Int)≤(wI .i64 (ata1+k))∧(wI .i64 (ata1+k))≤(s.length:Int))) <|
    let t1:=(s.drop (wI .i64 (ata1+k)).toNat).take (s.length - (wI .i64 (ata1+k)).toNat)
    XbU (decide (((s.take ata1.toNat)++p).length+t1.length<2^63)) <|
    some (((s.take ata1.toNat)++p)++t1))))
def rx72 (x:List UInt8):Xc4:=⟨.string ⟨⟨x⟩⟩,[],[]⟩
abbrev XdU:=(List UInt8)→Int→Int→Int→Option (List UInt8)
def r72 (g:XdU):Dec:=dV asS fun (y0:List UInt8)=>dV (asI .i64) fun (y1:Int)=>dV (asI .i64) fun (y2:Int)=>dV (asI .u64) fun (y3:Int)=>XdY (ofG (g y0 y1 y2 y3) rx72)
theorem r72_c {g:XdU} {y0:List UInt8} {y1:Int} {y2:Int} {y3:Int} {x:List UInt8} (hx:g y0 y1 y2 y3=some x):r72 g [.string ⟨⟨y0⟩⟩,.int .i64 y1,.int .i64 y2,.int .u64 y3] []=some (rx72 x):=(Xbb (Xeb)).trans ((Xbb (Xdo _)).trans ((Xbb (Xdo _)).trans ((Xbb (Xdo _)).trans (Xbc hx))))
def s72 (g:XdU):Xb3:=⟨[.v,.v,.v,.v],r72 g⟩
theorem XGr {g:XdU} {y0:List UInt8} {y1:Int} {y2:Int} {y3:Int} {x:List UInt8} (hx:g y0 y1 y2 y3=some x):(s72 g).run [.string ⟨⟨y0⟩⟩,.int .i64 y1,.int .i64 y2,.int .u64 y3] []=some (rx72 x):=r72_c hx
abbrev XPy (XaE:XbL):List (Nat×Xb3):=[(71,s71 XaE)]
theorem XMF (XaE:XbL) (hS:Xar Tryz.prog (XaI (XPy XaE))) (s:List UInt8) (ata1:Int) (k:Int) (n:Int) (res:List UInt8) (h:Xlp XaE s ata1 k n=some res) :
 XaO Tryz.prog 72 0 ⟨⟨72,39,[(0,.string ⟨⟨s⟩⟩),(1,.int .i64 ata1),(2,.int .i64 k),(3,.int .u64 n)],[.code XGL],[],false,none⟩,[],[],0⟩ (fun v H _=>Res 0 (rx72 res) v H):=by
 unfold Xlp at h
 have R1:=@XpM XaE
 refine XbD XaQ hS true 3000 ?_
 conv=>whnf
 exact W
def Xcg:XdU:=Xlp XaE
theorem XHC:Xb8 Tryz.prog 72 (s72 Xcg):=by
 have hL:=XMF XaE (Xar.Xa6 ⟨XqC,trivial⟩)
 exact okA ⟨Tryz.f72,rfl,by decide,rfl⟩
def XoE (Xev:Xe7) (XaZ:Xcs) (s:List UInt8) (ata1:Int) (k:Int) (n:Int):Option (List UInt8):=
 (Xev s ata1 k).bind fun xg=>
 cond (!xg.2)
  (
  some (s))
  (
  XbU (decide ((0:Int)≤ata1∧ata1≤(s.length:Int))) <|
  (XaZ n k).bind fun p=>
  XbU (decide ((s.take ata1.toNat).length+p.length<2^63)) <|
  XbU (decide ((0:Int)≤(wI .i64 (ata1+k))∧(wI .i64 (ata1+k))≤(s.length:Int))) <|
  let t:=(s.drop (wI .i64 (ata1+k)).toNat).take (s.length - (wI .i64 (ata1+k)).toNat)
  XbU (decide (((s.take ata1.toNat)++p).length+t.length<2^63)) <|
  some (((s.take ata1.toNat)++p)++t))
def rx47 (x:List UInt8):Xc4:=⟨.string ⟨⟨x⟩⟩,[],[]⟩
abbrev Xd2:=(List UInt8)→Int→Int→Int→Option (List UInt8)
def r47 (g:Xd2):Dec:=dV asS fun (y0:List UInt8)=>dV (asI .i64) fun (y1:Int)=>dV (asI .i64) fun (y2:Int)=>dV (asI .u64) fun (y3:Int)=>XdY (ofG (g y0 y1 y2 y3) rx47)
theorem r47_c {g:Xd2} {y0:List UInt8} {y1:Int} {y2:Int} {y3:Int} {x:List UInt8} (hx:g y0 y1 y2 y3=some x):r47 g [.string ⟨⟨y0⟩⟩,.int .i64 y1,.int .i64 y2,.int .u64 y3] []=some (rx47 x):=(Xbb (Xeb)).trans ((Xbb (Xdo _)).trans ((Xbb (Xdo _)).trans ((Xbb (Xdo _)).trans (Xbc hx))))
def s47 (g:Xd2):Xb3:=⟨[.v,.v,.v,.v],r47 g⟩
theorem XzA {g:Xd2} {y0:List UInt8} {y1:Int} {y2:Int} {y3:Int} {x:List UInt8} (hx:g y0 y1 y2 y3=some x):(s47 g).run [.string ⟨⟨y0⟩⟩,.int .i64 y1,.int .i64 y2,.int .u64 y3] []=some (rx47 x):=r47_c hx
abbrev XRH (Xev:Xe7) (XaZ:Xcs):List (Nat×Xb3):=[(61,s61 Xev),(46,s46 XaZ)]
theorem XIg (Xev:Xe7) (XaZ:Xcs) (hS:Xar Tryz.prog (XaI (XRH Xev XaZ))) (s:List UInt8) (ata1:Int) (k:Int) (n:Int) (res:List UInt8) (h:XoE Xev XaZ s ata1 k n=some res) :
 XaO Tryz.prog 47 0 ⟨⟨47,34,[(0,.string ⟨⟨s⟩⟩),(1,.int .i64 ata1),(2,.int .i64 k),(3,.int .u64 n)],[.code XHr],[],false,none⟩,[],[],0⟩ (fun v H _=>Res 0 (rx47 res) v H):=by
 unfold XoE at h
 have R1:=@XGA Xev
 have R2:=@XqO XaZ
 refine XbD XaQ hS true 3000 ?_
 conv=>whnf
 exact W
def Xcx:Xd2:=XoE Xev XaZ
theorem Xxb:Xb8 Tryz.prog 47 (s47 Xcx):=by
 have hL:=XIg Xev XaZ (Xar.Xa6 ⟨XFX,Xqu,trivial⟩)
 exact okA ⟨Tryz.f47,rfl,by decide,rfl⟩
def XiN (l:List Int) (n1:Int):Option (Sum Int Int):=
 cond (decide (n1>65535))
  (
  let t:=wI .i64 ((n1.tmod 65536)+(wI .i64 (n1.tdiv 65536)))
  some (.inl t))
  (
  some (.inr (n1)))
def XiU (l:List Int) (n:Int) (i:Int):Option (Sum (Int×Int) Int):=
 cond (decide (i<(l.length:Int)))
  (
  XbU (decide ((0:Int)≤i∧i<(l.length:Int))) <|
  (l[i.toNat]?).bind fun (e:Int)=>
  some (.inl (wI .i64 (n+e),wI .i64 (i+1))))
  (
  (iter (fun st=>XiN l st) FUEL n).bind fun o=>some (.inr (o)))
def Xoq (l:List Int):Option Int:=
 iter (fun st=>XiU l st.1 st.2) FUEL (0,0)
def XGn (x:Int):Xc4:=⟨.int .i64 x,[],[none]⟩
abbrev Xhk:=(List Int)→Option Int
def r92 (g:Xhk):Dec:=dSl 0 1 (unL (asI .i64)) fun (y0:List Int)=>XdY (ofG (g y0) XGn)
theorem r92_c {g:Xhk} {y0:List Int} {x:Int} (hx:g y0=some x):r92 g [.slice (some ⟨0,0,none⟩) y0.length 1] [some (vI .i64 y0)]=some (XGn x):=(XAq (Xzt _ _)).trans (Xbc hx)
def s92 (g:Xhk):Xb3:=⟨[.sl 1],r92 g⟩
theorem XRd {g:Xhk} {y0:List Int} {x:Int} (hx:g y0=some x):(s92 g).run [.slice (some ⟨0,0,none⟩) y0.length 1] [some (vI .i64 y0)]=some (XGn x):=r92_c hx
abbrev XzT:List (Nat×Xb3):=[]
def Xm2 (l:List Int) (n1:Int):VM:=
 ⟨⟨92,25,[(3,.int .i64 n1)],[.code Xxz,.inLoop Xxz,.inBlock 2,.code XG0],[],false,none⟩,[],[(0,.row false (vI .i64 l))],1⟩
def XmU (l:List Int) (n:Int) (i:Int):VM:=
 ⟨⟨92,25,[(0,.slice (some ⟨0,0,none⟩) l.length 1),(3,.int .i64 n),(4,.int .i64 i)],[.code XxX,.inLoop XxX,.inBlock 0,.code XHk],[],false,none⟩,[],[(0,.row false (vI .i64 l))],1⟩
theorem XCv (hS:Xar Tryz.prog (XaI (XzT))) (l:List Int) (res:Int):∀ fuel (st:Int) (o:Int),iter (fun st=>XiN l st) fuel st=some o→(o=res) →
 XaO Tryz.prog 92 1 (Xm2 l st) (fun v H _=>Res 1 (XGn res) v H):=by
 intro fuel st o h hc
 refine Xdh (head:=fun st=>Xm2 l st) (C:=fun o=>(o=res)) ?_ fuel st o h hc
 clear h hc o st fuel
 intro n1 o h hc
 replace h:XiN l n1=some o:=h
 show XaO Tryz.prog 92 1 (Xm2 l n1) (fun v H _=>Res 1 (XGn res) v H)
 unfold XiN at h
 refine XbD XaQ hS true 3000 ?_
 conv=>whnf
 refine br.h2 h (by rfl) ?_ ?_
 ·clear h;intro hb h;conv=>whnf
  exact W
 clear h;intro hb h;conv=>whnf
 let t:Int:=wI .i64 ((n1.tmod 65536)+(wI .i64 (n1.tdiv 65536)))
 cases h;simp only [Sum.elim_inl,Xm2] at hc
 exact Xn8 hc [(0,0)] rfl
theorem XDP (hS:Xar Tryz.prog (XaI (XzT))) (l:List Int) (res:Int):∀ fuel (st:Int×Int) (o:Int),iter (fun st=>XiU l st.1 st.2) fuel st=some o→(o=res) →
 XaO Tryz.prog 92 1 (XmU l st.1 st.2) (fun v H _=>Res 1 (XGn res) v H):=by
 intro fuel st o h hc
 refine Xdh (head:=fun st=>XmU l st.1 st.2) (C:=fun o=>(o=res)) ?_ fuel st o h hc
 clear h hc o st fuel
 intro st o h hc
 obtain ⟨n,i⟩:=st
 replace h:XiU l n i=some o:=h
 show XaO Tryz.prog 92 1 (XmU l n i) (fun v H _=>Res 1 (XGn res) v H)
 unfold XiU at h
 refine XbD XaQ hS true 3000 ?_
 conv=>whnf
 refine br.h2 h (by rfl) ?_ ?_
 ·clear h;intro hb h;conv=>whnf
  obtain ⟨y,hy,h2⟩:=Xdj.elim h;cases h2
  have hl:=XCv hS _ res _ _ _ hy hc;simp only [Xm2] at hl
  exact Xn8 hl [(0,0)] rfl
 clear h;intro hb h;conv=>whnf
 replace h:=XbU.elim h;obtain ⟨hb,h⟩:=h
 try (refine req.intro hb ?_;conv=>whnf)
 replace h:=Xdj.elim h;obtain ⟨e,hy,h⟩:=h
 refine rd.I hy (by first|rfl|(rw [Nat.zero_add,Nat.mul_one];try rfl;done)|omega) ?_
 conv=>whnf
 cases h;simp only [Sum.elim_inl,XmU] at hc
 exact Xn8 hc [(0,0)] rfl
theorem XH1 (hS:Xar Tryz.prog (XaI (XzT))) (l:List Int) (res:Int) (h:Xoq l=some res) :
 XaO Tryz.prog 92 1 ⟨⟨92,25,[(0,.slice (some ⟨0,0,none⟩) l.length 1)],[.code XHA],[],false,none⟩,[],[(0,.row false (vI .i64 l))],1⟩ (fun v H _=>Res 1 (XGn res) v H):=by
 unfold Xoq at h
 refine XbD XaQ hS true 3000 ?_
 conv=>whnf
 have hl:=XDP hS _ res _ _ _ h rfl;simp only [XmU] at hl
 exact Xn8 hl [(0,0)] rfl
def XhV:Xhk:=Xoq
theorem XTL:Xb8 Tryz.prog 92 (s92 XhV):=by
 have hL:=XH1 (Xar.Xa6 trivial)
 exact okA ⟨Tryz.f92,rfl,by decide,rfl⟩
def Xfr (Xdu:Xe1) (s1:List UInt8) (i:Int) (out1:List Int):Option (Sum ((List UInt8)×Int×(List Int)) (List Int)):=
 cond (decide (i<(s1.length:Int)))
  (
  (Xdu s1 i 2).bind fun m=>
  XbU (decide ((out1.length+1)*8≤2^47)) <|
  let row:=out1++[m]
  some (.inl (s1,wI .i64 (i+2),row)))
  (
  some (.inr (out1)))
def Xlh (Xdu:Xe1) (s:List UInt8):Option (List Int):=
 cond (((s.length:Int).tmod 2)==1)
  (
  XbU (decide (s.length+1<2^63)) <|
  iter (fun st=>Xfr Xdu st.1 st.2.1 st.2.2) FUEL (s++[0],0,[]))
  (
  iter (fun st=>Xfr Xdu st.1 st.2.1 st.2.2) FUEL (s,0,[]))
def XM3 (x:List Int):Xc4:=⟨.slice (some ⟨0,0,none⟩) x.length 1,[(vI .i64 x)],[]⟩
abbrev Xfs:=(List UInt8)→Option (List Int)
def r93 (g:Xfs):Dec:=dV asS fun (y0:List UInt8)=>XdY (ofG (g y0) XM3)
theorem r93_c {g:Xfs} {y0:List UInt8} {x:List Int} (hx:g y0=some x):r93 g [.string ⟨⟨y0⟩⟩] []=some (XM3 x):=(Xbb (Xeb)).trans (Xbc hx)
def s93 (g:Xfs):Xb3:=⟨[.v],r93 g⟩
theorem XRU {g:Xfs} {y0:List UInt8} {x:List Int} (hx:g y0=some x):(s93 g).run [.string ⟨⟨y0⟩⟩] []=some (XM3 x):=r93_c hx
abbrev XF0 (Xdu:Xe1):List (Nat×Xb3):=[(62,s62 Xdu)]
def Xlq (s1:List UInt8) (i:Int) (out1:List Int):VM:=
 ⟨⟨93,24,[(0,.string ⟨⟨s1⟩⟩),(3,.slice (some ⟨0,0,none⟩) out1.length 1),(4,.int .i64 i)],[.code XAi,.inLoop XAi,.inBlock 0,.code XG2],[],false,none⟩,[],[(0,.row true (vI .i64 out1))],1⟩
theorem Xvu (Xdu:Xe1) (hS:Xar Tryz.prog (XaI (XF0 Xdu))) (res:List Int):∀ fuel (st:(List UInt8)×Int×(List Int)) (o:List Int),iter (fun st=>Xfr Xdu st.1 st.2.1 st.2.2) fuel st=some o→(o=res) →
 XaO Tryz.prog 93 0 (Xlq st.1 st.2.1 st.2.2) (fun v H _=>Res 0 (XM3 res) v H):=by
 intro fuel st o h hc
 refine Xdh (head:=fun st=>Xlq st.1 st.2.1 st.2.2) (C:=fun o=>(o=res)) ?_ fuel st o h hc
 clear h hc o st fuel
 intro st o h hc
 obtain ⟨s1,i,out1⟩:=st
 replace h:Xfr Xdu s1 i out1=some o:=h
 show XaO Tryz.prog 93 0 (Xlq s1 i out1) (fun v H _=>Res 0 (XM3 res) v H)
 unfold Xfr at h
 refine XbD XaQ hS true 3000 ?_
 conv=>whnf
 refine br.h2 h (by rfl) ?_ ?_
 ·clear h;intro hb h;conv=>whnf
  exact W
 clear h;intro hb h;conv=>whnf
 replace h:=Xdj.elim h;obtain ⟨m,hy,h⟩:=h
 refine XfS.a (XOy hy) ?_
 conv=>whnf
 replace h:=XbU.elim h;obtain ⟨hb,h⟩:=h
 refine req.intro (XGz (of_decide_eq_true hb) (by first|rfl|omega|(simp;done)|(simp;omega)|(simp at *;omega)) rfl (by first|rfl|omega|(simp;done)|(simp;omega)|(simp at *;omega)) (by first|rfl|exact XlB _ _|exact XpH _|exact Xo1 _|exact Xp5 (by first|exact Xgf|exact XfP|exact Xgj|exact XfL|exact Xen|exact Xff|exact Xej|exact XeD|exact Xfi|exact Xge|exact Xhl|exact Xgm|exact XfO|exact Xgk|exact Xg9) _|(rw [XiR];exact XlB _ _)|(simp [XlB,XpH,Xo1,Xpy,XpJ,Xq0,Xru];done)|(simp;exact List.all_eq_true.1 (Xp5 (by first|exact Xgf|exact XfP|exact Xgj|exact XfL|exact Xen|exact Xff|exact Xej|exact XeD|exact Xfi|exact Xge|exact Xhl|exact Xgm|exact XfO|exact Xgk|exact Xg9) _))) rfl) ?_
 conv=>whnf
 let row:List Int:=out1++[m]
 first|have hlen_row:row.length=_:=List.length_append ..|skip
 refine XPf (xs:=out1) (ys:=[m]) rfl (by first|rfl|omega) (by first|rfl|omega|(simp;done)|(simp;omega)|(simp at *;omega)) (by first|rfl|omega|(simp;done)|(simp;omega)|(simp at *;omega)) ?_
 conv=>whnf
 cases h;simp only [Sum.elim_inl,Xlq] at hc
 exact Xn8 hc [(0,2)] rfl
theorem XJC (Xdu:Xe1) (hS:Xar Tryz.prog (XaI (XF0 Xdu))) (s:List UInt8) (res:List Int) (h:Xlh Xdu s=some res) :
 XaO Tryz.prog 93 0 ⟨⟨93,24,[(0,.string ⟨⟨s⟩⟩)],[.code XGR],[],false,none⟩,[],[],0⟩ (fun v H _=>Res 0 (XM3 res) v H):=by
 unfold Xlh at h
 refine XbD XaQ hS true 3000 ?_
 conv=>whnf
 refine br.h2 h (by rfl) ?_ ?_
 ·clear h;intro hb h;conv=>whnf
  have hl:=Xvu Xdu hS res _ _ _ h rfl;simp only [Xlq] at hl
  refine XaO.nilT 3 1 ?_
  exact Xn8 hl [(0,0)] rfl
 clear h;intro hb h;conv=>whnf
 replace h:=XbU.elim h;obtain ⟨hb,h⟩:=h
 try (refine req.intro hb ?_;conv=>whnf)
 have hl:=Xvu Xdu hS res _ _ _ h rfl;simp only [Xlq] at hl
 refine XaO.nilT 3 1 ?_
 exact Xn8 hl [(0,0)] rfl
def Xe8:Xfs:=Xlh Xdu
theorem XN8:Xb8 Tryz.prog 93 (s93 Xe8):=by
 have hL:=XJC Xdu (Xar.Xa6 ⟨XRf,trivial⟩)
 exact okA ⟨Tryz.f93,rfl,by decide,rfl⟩
def Xox (XhV:Xhk) (Xe8:Xfs) (s:List UInt8):Option Int:=
 (Xe8 s).bind fun w=>
 (XhV w).bind fun a=>
 some (a)
def rx60 (x:Int):Xc4:=⟨.int .i64 x,[],[]⟩
abbrev Xhh:=(List UInt8)→Option Int
def r60 (g:Xhh):Dec:=dV asS fun (y0:List UInt8)=>XdY (ofG (g y0) rx60)
theorem r60_c {g:Xhh} {y0:List UInt8} {x:Int} (hx:g y0=some x):r60 g [.string ⟨⟨y0⟩⟩] []=some (rx60 x):=(Xbb (Xeb)).trans (Xbc hx)
def s60 (g:Xhh):Xb3:=⟨[.v],r60 g⟩
theorem XTP {g:Xhh} {y0:List UInt8} {x:Int} (hx:g y0=some x):(s60 g).run [.string ⟨⟨y0⟩⟩] []=some (rx60 x):=r60_c hx
abbrev XTc (XhV:Xhk) (Xe8:Xfs):List (Nat×Xb3):=[(92,s92 XhV),(93,s93 Xe8)]
theorem XLg (XhV:Xhk) (Xe8:Xfs) (hS:Xar Tryz.prog (XaI (XTc XhV Xe8))) (s:List UInt8) (res:Int) (h:Xox XhV Xe8 s=some res) :
 XaO Tryz.prog 60 0 ⟨⟨60,6,[(0,.string ⟨⟨s⟩⟩)],[.code XPk],[],false,none⟩,[],[],0⟩ (fun v H _=>Res 0 (rx60 res) v H):=by
 unfold Xox at h
 have R1:=@XRU Xe8
 have R2:=@XRd XhV
 refine XbD XaQ hS true 3000 ?_
 conv=>whnf
 exact W
def XhM:Xhh:=Xox XhV Xe8
theorem XOM:Xb8 Tryz.prog 60 (s60 XhM):=by
 have hL:=XLg XhV Xe8 (Xar.Xa6 ⟨XTL,XN8,trivial⟩)
 exact okA ⟨Tryz.f60,rfl,by decide,rfl⟩
def XrR (XhM:Xhh) (s:List UInt8):Option Int:=
 (XhM s).bind fun s1=>
 some (wI .i64 (65535 - s1))
def rx48 (x:Int):Xc4:=⟨.int .i64 x,[],[]⟩
abbrev XeP:=(List UInt8)→Option Int
def r48 (g:XeP):Dec:=dV asS fun (y0:List UInt8)=>XdY (ofG (g y0) rx48)
theorem r48_c {g:XeP} {y0:List UInt8} {x:Int} (hx:g y0=some x):r48 g [.string ⟨⟨y0⟩⟩] []=some (rx48 x):=(Xbb (Xeb)).trans (Xbc hx)
def s48 (g:XeP):Xb3:=⟨[.v],r48 g⟩
theorem Xzx {g:XeP} {y0:List UInt8} {x:Int} (hx:g y0=some x):(s48 g).run [.string ⟨⟨y0⟩⟩] []=some (rx48 x):=r48_c hx
abbrev XT1 (XhM:Xhh):List (Nat×Xb3):=[(60,s60 XhM)]
theorem XMh (XhM:Xhh) (hS:Xar Tryz.prog (XaI (XT1 XhM))) (s:List UInt8) (res:Int) (h:XrR XhM s=some res) :
 XaO Tryz.prog 48 0 ⟨⟨48,6,[(0,.string ⟨⟨s⟩⟩)],[.code XPa],[],false,none⟩,[],[],0⟩ (fun v H _=>Res 0 (rx48 res) v H):=by
 unfold XrR at h
 have R1:=@XTP XhM
 refine XbD XaQ hS true 3000 ?_
 conv=>whnf
 exact W
def Xdw:XeP:=XrR XhM
theorem Xxs:Xb8 Tryz.prog 48 (s48 Xdw):=by
 have hL:=XMh XhM (Xar.Xa6 ⟨XOM,trivial⟩)
 exact okA ⟨Tryz.f48,rfl,by decide,rfl⟩
def Xjq (Xfj:Xfz) (s:List UInt8):Option Bool:=
 (Xfj s).bind fun s1=>
 some (s1==65535)
def rx54 (x:Bool):Xc4:=⟨.bool x,[],[]⟩
abbrev Xb5:=(List UInt8)→Option Bool
def r54 (g:Xb5):Dec:=dV asS fun (y0:List UInt8)=>XdY (ofG (g y0) rx54)
theorem r54_c {g:Xb5} {y0:List UInt8} {x:Bool} (hx:g y0=some x):r54 g [.string ⟨⟨y0⟩⟩] []=some (rx54 x):=(Xbb (Xeb)).trans (Xbc hx)
def s54 (g:Xb5):Xb3:=⟨[.v],r54 g⟩
theorem Xvy {g:Xb5} {y0:List UInt8} {x:Bool} (hx:g y0=some x):(s54 g).run [.string ⟨⟨y0⟩⟩] []=some (rx54 x):=r54_c hx
abbrev XQi (Xfj:Xfz):List (Nat×Xb3):=[(87,s87 Xfj)]
theorem XKj (Xfj:Xfz) (hS:Xar Tryz.prog (XaI (XQi Xfj))) (s:List UInt8) (res:Bool) (h:Xjq Xfj s=some res) :
 XaO Tryz.prog 54 0 ⟨⟨54,6,[(0,.string ⟨⟨s⟩⟩)],[.code XPM],[],false,none⟩,[],[],0⟩ (fun v H _=>Res 0 (rx54 res) v H):=by
 unfold Xjq at h
 have R1:=@XTz Xfj
 refine XbD XaQ hS true 3000 ?_
 conv=>whnf
 exact W
def XaP:Xb5:=Xjq Xfj
theorem XuY:Xb8 Tryz.prog 54 (s54 XaP):=by
 have hL:=XKj Xfj (Xar.Xa6 ⟨XQO,trivial⟩)
 exact okA ⟨Tryz.f54,rfl,by decide,rfl⟩
end Go.Vm.Code
namespace Go.Vm.Code
open Go Go.Vm
theorem Xul {s:List UInt8} {i:Nat} (h:i+1<s.length):Xuz s (i:Int) 2=(((s[i].toNat*256+s[i+1].toNat:Nat):Int),true):=by
 unfold Xuz
 rw [if_pos (by omega)]
 have e:(s.drop (i:Int).toNat).take (2:Int).toNat=[s[i],s[i+1]]:=by
  show (s.drop i).take 2=_
  rw [List.drop_eq_getElem_cons (by omega:i<s.length),List.drop_eq_getElem_cons h];rfl
 rw [e];simp [Xh8]
def XeI:List UInt8→List Int
 | []=>[]
 | [b]=>[((b.toNat*256:Nat):Int)]
 | b::c::l=>((b.toNat*256+c.toNat:Nat):Int)::XeI l
theorem Xnl {s:List UInt8} {i:Nat} (h:i+1<s.length):XeI (s.drop i)=((s[i].toNat*256+s[i+1].toNat:Nat):Int)::XeI (s.drop (i+2)):=by
 rw [List.drop_eq_getElem_cons (by omega:i<s.length),List.drop_eq_getElem_cons h];rfl
theorem Xqb:∀ s:List UInt8,s.length%2=1→XeI (s++[0])=XeI s
 | [],h=>by simp at h
 | [b],_=>by
   show [((b.toNat*256+0:Nat):Int)]=[((b.toNat*256:Nat):Int)]
   rw [Nat.add_zero]
 | b::c::l,h=>by
   have:=Xqb l (by simp at h;omega)
   simp only [List.cons_append,XeI,this]
theorem Xk7:∀ s:List UInt8,(XeI s).sum=(Xdp s:Int)
 | []=>rfl
 | [b]=>by simp only [XeI,Xdp,List.sum_cons,List.sum_nil,Int.add_zero]
 | b::c::l=>by
   have:=Xk7 l
   simp only [XeI,Xdp,List.sum_cons,this];omega
theorem Xlc:∀ s:List UInt8,∀ e∈XeI s,0≤e∧e≤65535
 | [],e,h=>by simp [XeI] at h
 | [b],e,h=>by simp [XeI] at h;have:=b.toNat_lt;omega
 | b::c::l,e,h=>by
   simp only [XeI,List.mem_cons] at h
   rcases h with rfl|h
   ·have:=b.toNat_lt;have:=c.toNat_lt;omega
   ·exact Xlc l e h
theorem Xll:∀ s:List UInt8,(XeI s).length=(s.length+1)/2
 | []=>rfl
 | [b]=>by simp [XeI]
 | b::c::l=>by
   have:=Xll l
   simp only [XeI,List.length_cons,this];omega
theorem XlF {s:List UInt8} (h:s.length<2^40) (he:s.length%2=0):iter (fun (st:List UInt8×Int×List Int)=>Xfr Xdu st.1 st.2.1 st.2.2) FUEL (s,0,[])=some (XeI s):=by
 have key:=iter_eq (step:=fun (st:List UInt8×Int×List Int)=>Xfr Xdu st.1 st.2.1 st.2.2) (fun st=>st.2.2++XeI (s.drop st.2.1.toNat)) (fun st=>st.1=s∧∃ i:Nat,st.2.1=i∧i%2=0∧i≤s.length∧st.2.2.length≤i) (fun st=>(s.length - st.2.1).toNat) ?_ FUEL (s,0,[]) ⟨rfl,0,rfl,by omega,by omega,by simp⟩ (by rw [XgR];simp only;omega)
 ·rw [key];simp
 rintro ⟨s1,p,out⟩ ⟨h1,i,h2,h3,h4,h5⟩
 simp only at h1 h2 h5 ⊢
 subst h1 h2
 unfold Xfr
 by_cases hi:i<s1.length
 ·have hi2:i+1<s1.length:=by omega
  refine .inr ⟨(s1,((i+2:Nat):Int),out++[((s1[i].toNat*256+s1[i+1].toNat:Nat):Int)]),?_,⟨rfl,i+2,rfl,by omega,by omega,by simp;omega⟩,by simp only;omega,?_⟩
  ·have b1:=s1[i].toNat_lt
   have b2:=s1[i+1].toNat_lt
   rw [XbB (by omega),XtP (by omega),Xul hi2,Option.bind_some,Xa9 (by omega),Xe0 (by omega) (by omega),Xe0 (by omega) (by omega)];rfl
  ·simp only [Int.toNat_natCast]
   rw [Xnl hi2];simp
 ·refine .inl ?_
  rw [Xbd (by omega)]
  simp [List.drop_eq_nil_of_le (by omega:s1.length≤i),XeI]
theorem Xs9 {s:List UInt8} (h:s.length<2^39):Xe8 s=some (XeI s):=by
 unfold Xe8 Xlh
 have ea:((s.length:Int).tmod 2==1)=decide (s.length%2=1):=by
  rw [Int.tmod_eq_emod_of_nonneg (by omega),Bool.eq_iff_iff,beq_iff_eq,decide_eq_true_eq];omega
 rw [ea]
 by_cases h2:s.length%2=1
 ·rw [XbB h2,Xa9 (by omega),XlF (by simp only [List.length_append,List.length_cons,List.length_nil];omega) (by simp only [List.length_append,List.length_cons,List.length_nil];omega),Xqb s h2]
 ·rw [Xbd h2,XlF (by omega) (by omega)]
theorem XtH {l:List Int} {n:Int} (h0:0≤n) (h1:n<2^62):iter (fun st=>XiN l st) FUEL n=some ((norm n.toNat:Nat):Int):=by
 refine iter_eq (fun n=>((norm n.toNat:Nat):Int)) (fun n=>0≤n∧n<2^62) (fun n=>n.toNat) ?_ FUEL _ ⟨h0,h1⟩ (by rw [XgR];omega)
 intro s ⟨a,b⟩
 unfold XiN
 by_cases hs:s>65535
 ·refine .inr ⟨s%65536+s/65536,?_,⟨by omega,by omega⟩,by omega,?_⟩
  ·rw [XbB hs,Int.tdiv_eq_ediv_of_nonneg a,Int.tmod_eq_emod_of_nonneg a,Xe0 (n:=s/65536) (by omega) (by omega),Xe0 (by omega) (by omega)]
  ·have:norm (s%65536+s/65536).toNat=norm s.toNat:=
    (norm_eq (norm_le _) (by have:=XiI (s%65536+s/65536).toNat;omega) (by have:=Xi7 (s%65536+s/65536).toNat;omega)).symm
   rw [this]
 ·refine .inl ?_
  rw [Xbd hs]
  have:=XoK (n:=s.toNat) (by omega)
  simp only [this]
  rw [Int.toNat_of_nonneg a]
theorem XwO {l:List Int} (hl:l.length<2^40) (hr:∀ e∈l,0≤e∧e≤65535):XhV l=some ((norm l.sum.toNat:Nat):Int):=by
 unfold XhV Xoq
 have key:=iter_eq (step:=fun (st:Int×Int)=>XiU l st.1 st.2) (fun st=>((norm (st.1+(l.drop st.2.toNat).sum).toNat:Nat):Int)) (fun st=>0≤st.1∧0≤st.2∧st.2≤l.length∧st.1≤st.2*65535) (fun st=>(l.length - st.2).toNat) ?_ FUEL (0,0) ⟨by simp,by simp,by simp,by simp⟩ (by rw [XgR];simp only;omega)
 ·rw [key];simp
 rintro ⟨n,p⟩ ⟨g1,g2,g3,g4⟩
 simp only at g1 g2 g3 g4 ⊢
 obtain ⟨i,rfl⟩:=Int.eq_ofNat_of_zero_le g2
 simp only [Int.toNat_natCast]
 unfold XiU
 by_cases hi:i<l.length
 ·have hx:=hr l[i] (List.getElem_mem hi)
  refine .inr ⟨(n+l[i],((i+1:Nat):Int)),?_,⟨by simp only;omega,by simp only;omega,by simp only;omega,by simp only;omega⟩,by simp only;omega,?_⟩
  ·simp (disch:=omega) only [XbB,Xa9,Int.toNat_natCast,List.getElem?_eq_getElem,Option.bind_some,Xe0];rfl
  ·simp only [Int.toNat_natCast]
   rw [List.drop_eq_getElem_cons hi,List.sum_cons,Int.add_assoc]
 ·refine .inl ?_
  rw [Xbd (by omega),XtH g1 (by omega),List.drop_eq_nil_of_le (by omega)]
  simp
theorem XwL {s:List UInt8} (h:s.length<2^39):XhM s=some ((norm (Xdp s):Nat):Int):=by
 unfold XhM Xox
 rw [Xs9 h,Option.bind_some,XwO (by rw [Xll];omega) (Xlc s),Xk7];rfl
def Xwd (s:List UInt8) (p k n:Int):List UInt8:=if 1≤k∧k≤8∧0≤p∧p+k≤s.length then s.take p.toNat++be n.toNat k.toNat++s.drop (p+k).toNat else s
theorem XHc {s:List UInt8} {p k n:Int} (hs:s.length<2^40) (hn:0≤n):Xcg s p k n=some (Xwd s p k n):=by
 unfold Xcg Xlp Xwd
 rw [Xfy hn,Option.bind_some]
 unfold XeA
 by_cases hk:1≤k∧k≤8
 ·rw [if_pos hk]
  have e:(be n.toNat k.toNat==[])=false:=by
   rw [beq_eq_false_iff_ne];intro h;have:=congrArg List.length h;simp at this;omega
  rw [e,cond_false]
  by_cases h1:p<0
  ·rw [XbB h1,if_neg (by omega)]
  rw [Xbd h1,Xe0 (n:=(s.length:Int) - k) (by omega) (by omega)]
  by_cases h2:(s.length:Int) - k<p
  ·simp only []
   rw [XbB h2,if_neg (by omega)]
  simp only []
  have e1:(p+k).toNat=p.toNat+k.toNat:=by omega
  have e2:((s.drop (p+k).toNat).take (s.length - (p+k).toNat))=s.drop (p+k).toNat:=List.take_of_length_le (by simp)
  rw [Xbd h2,Xa9 (by omega),Xe0 (n:=p+k) (by omega) (by omega),e2,Xa9 (by simp;omega),Xa9 (by omega),Xa9 (by simp;omega),if_pos (by omega)]
 ·rw [if_neg hk,if_neg (by omega)];rfl
theorem Xnu {s:List UInt8} {p k n:Int} (hs:s.length<2^40) (hn:0≤n) (hn2:n<2^64):Xcx s p k n=some (Xwd s p k n):=by
 unfold Xcx XoE Xwd
 rw [XqP (by omega),Option.bind_some]
 unfold Xuz
 by_cases hc:1≤k∧k≤8∧0≤p∧p+k≤s.length
 ·rw [if_pos hc,if_pos hc]
  have e2:((s.drop (p+k).toNat).take (s.length - (p+k).toNat))=s.drop (p+k).toNat:=List.take_of_length_le (by simp)
  simp only [Bool.not_true,cond_false]
  rw [XeE hn hn2,Option.bind_some,Xa9 (by omega),Xe0 (n:=p+k) (by omega) (by omega),e2]
  unfold XeA
  rw [if_pos (by omega),Xa9 (by simp;omega),Xa9 (by omega),Xa9 (by simp;omega)]
 ·rw [if_neg hc,if_neg hc];rfl
theorem Xpb {s:List UInt8} (h:s.length<2^39):Xdw s=some (65535 - ((norm (Xdp s):Nat):Int)):=by
 unfold Xdw XrR
 have:=norm_le (Xdp s)
 rw [XwL h,Option.bind_some,Xe0 (by omega) (by omega)]
theorem Xod {s:List UInt8} (h:s.length<2^39):XaP s=some (((norm (Xdp s):Nat):Int)==65535):=by
 unfold XaP Xjq
 rw [XOn s (by omega),Option.bind_some]
end Go.Vm.Code
namespace Go.Vm.Code
open Go Go.Vm Go.Proofs
set_option maxRecDepth 100000
set_option maxHeartbeats 4000000
set_option linter.unusedVariables false
def Xkg (a:Xag):Option Bool:=
 cond (a.V6)
  (
  some (true))
  (
  cond (a.Hi==0)
   (
   some (decide (a.Lo<4294967296)))
   (
   some (false)))
def XC6 (x:Bool):Xc4:=⟨.bool x,[],[]⟩
abbrev Xdv:=Xag→Option Bool
def r137 (g:Xdv):Dec:=dV Xc2 fun (y0:Xag)=>XdY (ofG (g y0) XC6)
theorem XNK {g:Xdv} {y0:Xag} {x:Bool} (hx:g y0=some x):r137 g [.agg ⟨[.bool y0.V6,.int .u64 y0.Hi,.int .u64 y0.Lo]⟩] []=some (XC6 x):=(Xbb (XcM _)).trans (Xbc hx)
def s137 (g:Xdv):Xb3:=⟨[.v],r137 g⟩
theorem Xza {g:Xdv} {y0:Xag} {x:Bool} (hx:g y0=some x):(s137 g).run [.agg ⟨[.bool y0.V6,.int .u64 y0.Hi,.int .u64 y0.Lo]⟩] []=some (XC6 x):=XNK hx
abbrev XKd:List (Nat×Xb3):=[]
theorem XDW (hS:Xar Tryz.prog (XaI (XKd))) (a:Xag) (res:Bool) (h:Xkg a=some res) :
 XaO Tryz.prog 137 0 ⟨⟨137,15,[(0,.agg ⟨[.bool a.V6,.int .u64 a.Hi,.int .u64 a.Lo]⟩)],[.code XGk],[],false,none⟩,[],[],0⟩ (fun v H _=>Res 0 (XC6 res) v H):=by
 unfold Xkg at h
 refine XbD XaQ hS true 3000 ?_
 conv=>whnf
 exact W
def Xcm:Xdv:=Xkg
theorem XxP:Xb8 Tryz.prog 137 (s137 Xcm):=by
 have hL:=XDW (Xar.Xa6 trivial)
 exact okA ⟨Tryz.f137,rfl,by decide,rfl⟩
def Xmy (Xcm:Xdv) (XaE:XbL) (a:Xag):Option (List UInt8):=
 (Xcm a).bind fun xr=>
 cond (!xr)
  (
  some ([]))
  (
  cond (a.V6)
   (
   (XaE a.Hi 8).bind fun p=>
   (XaE a.Lo 8).bind fun p1=>
   XbU (decide (p.length+p1.length<2^63)) <|
   some (p++p1))
   (
   (XaE a.Lo 4).bind fun p2=>
   some (p2)))
def XDm (x:List UInt8):Xc4:=⟨.string ⟨⟨x⟩⟩,[],[]⟩
abbrev Xf9:=Xag→Option (List UInt8)
def r138 (g:Xf9):Dec:=dV Xc2 fun (y0:Xag)=>XdY (ofG (g y0) XDm)
theorem XSf {g:Xf9} {y0:Xag} {x:List UInt8} (hx:g y0=some x):r138 g [.agg ⟨[.bool y0.V6,.int .u64 y0.Hi,.int .u64 y0.Lo]⟩] []=some (XDm x):=(Xbb (XcM _)).trans (Xbc hx)
def s138 (g:Xf9):Xb3:=⟨[.v],r138 g⟩
theorem XIb {g:Xf9} {y0:Xag} {x:List UInt8} (hx:g y0=some x):(s138 g).run [.agg ⟨[.bool y0.V6,.int .u64 y0.Hi,.int .u64 y0.Lo]⟩] []=some (XDm x):=XSf hx
abbrev XHO (Xcm:Xdv) (XaE:XbL):List (Nat×Xb3):=[(137,s137 Xcm),(71,s71 XaE)]
theorem XCD (Xcm:Xdv) (XaE:XbL) (hS:Xar Tryz.prog (XaI (XHO Xcm XaE))) (a:Xag) (res:List UInt8) (h:Xmy Xcm XaE a=some res) :
 XaO Tryz.prog 138 0 ⟨⟨138,20,[(0,.agg ⟨[.bool a.V6,.int .u64 a.Hi,.int .u64 a.Lo]⟩)],[.code Xzc],[],false,none⟩,[],[],0⟩ (fun v H _=>Res 0 (XDm res) v H):=by
 unfold Xmy at h
 have R1:=@Xza Xcm
 have R2:=@XpM XaE
 refine XbD XaQ hS true 3000 ?_
 conv=>whnf
 exact W
def XfY:Xf9:=Xmy Xcm XaE
theorem XMJ:Xb8 Tryz.prog 138 (s138 XfY):=by
 have hL:=XCD Xcm XaE (Xar.Xa6 ⟨XxP,XqC,trivial⟩)
 exact okA ⟨Tryz.f138,rfl,by decide,rfl⟩
def XjM (a:Xag):Option Bool:=
 cond (a.V6)
  (
  some (true))
  (
  cond (a.Hi==0)
   (
   some (decide (a.Lo<4294967296)))
   (
   some (false)))
def rx42 (x:Bool):Xc4:=⟨.bool x,[],[]⟩
abbrev Xcz:=Xag→Option Bool
def r42 (g:Xcz):Dec:=dV Xc2 fun (y0:Xag)=>XdY (ofG (g y0) rx42)
theorem r42_c {g:Xcz} {y0:Xag} {x:Bool} (hx:g y0=some x):r42 g [.agg ⟨[.bool y0.V6,.int .u64 y0.Hi,.int .u64 y0.Lo]⟩] []=some (rx42 x):=(Xbb (XcM _)).trans (Xbc hx)
def s42 (g:Xcz):Xb3:=⟨[.v],r42 g⟩
theorem Xu7 {g:Xcz} {y0:Xag} {x:Bool} (hx:g y0=some x):(s42 g).run [.agg ⟨[.bool y0.V6,.int .u64 y0.Hi,.int .u64 y0.Lo]⟩] []=some (rx42 x):=r42_c hx
abbrev XRb:List (Nat×Xb3):=[]
theorem XHH (hS:Xar Tryz.prog (XaI (XRb))) (a:Xag) (res:Bool) (h:XjM a=some res) :
 XaO Tryz.prog 42 0 ⟨⟨42,15,[(0,.agg ⟨[.bool a.V6,.int .u64 a.Hi,.int .u64 a.Lo]⟩)],[.code XNx],[],false,none⟩,[],[],0⟩ (fun v H _=>Res 0 (rx42 res) v H):=by
 unfold XjM at h
 refine XbD XaQ hS true 3000 ?_
 conv=>whnf
 exact W
def Xbh:Xcz:=XjM
theorem Xvk:Xb8 Tryz.prog 42 (s42 Xbh):=by
 have hL:=XHH (Xar.Xa6 trivial)
 exact okA ⟨Tryz.f42,rfl,by decide,rfl⟩
def Xmu (XaZ:Xcs) (Xbh:Xcz) (a:Xag):Option (List UInt8):=
 (Xbh a).bind fun xr=>
 cond (!xr)
  (
  some ([]))
  (
  cond (a.V6)
   (
   (XaZ a.Hi 8).bind fun p=>
   (XaZ a.Lo 8).bind fun p1=>
   XbU (decide (p.length+p1.length<2^63)) <|
   some (p++p1))
   (
   (XaZ a.Lo 4).bind fun p2=>
   some (p2)))
def XBN (x:List UInt8):Xc4:=⟨.string ⟨⟨x⟩⟩,[],[]⟩
abbrev Xd1:=Xag→Option (List UInt8)
def r104 (g:Xd1):Dec:=dV Xc2 fun (y0:Xag)=>XdY (ofG (g y0) XBN)
theorem XTZ {g:Xd1} {y0:Xag} {x:List UInt8} (hx:g y0=some x):r104 g [.agg ⟨[.bool y0.V6,.int .u64 y0.Hi,.int .u64 y0.Lo]⟩] []=some (XBN x):=(Xbb (XcM _)).trans (Xbc hx)
def XUg (g:Xd1):Xb3:=⟨[.v],r104 g⟩
theorem XtQ {g:Xd1} {y0:Xag} {x:List UInt8} (hx:g y0=some x):(XUg g).run [.agg ⟨[.bool y0.V6,.int .u64 y0.Hi,.int .u64 y0.Lo]⟩] []=some (XBN x):=XTZ hx
abbrev XIC (XaZ:Xcs) (Xbh:Xcz):List (Nat×Xb3):=[(46,s46 XaZ),(42,s42 Xbh)]
theorem XBI (XaZ:Xcs) (Xbh:Xcz) (hS:Xar Tryz.prog (XaI (XIC XaZ Xbh))) (a:Xag) (res:List UInt8) (h:Xmu XaZ Xbh a=some res) :
 XaO Tryz.prog 104 0 ⟨⟨104,18,[(0,.agg ⟨[.bool a.V6,.int .u64 a.Hi,.int .u64 a.Lo]⟩)],[.code Xz6],[],false,none⟩,[],[],0⟩ (fun v H _=>Res 0 (XBN res) v H):=by
 unfold Xmu at h
 have R1:=@Xu7 Xbh
 have R2:=@XqO XaZ
 refine XbD XaQ hS true 3000 ?_
 conv=>whnf
 exact W
def Xco:Xd1:=Xmu XaZ Xbh
theorem XtD:Xb8 Tryz.prog 104 (XUg Xco):=by
 have hL:=XBI XaZ Xbh (Xar.Xa6 ⟨Xqu,Xvk,trivial⟩)
 exact okA ⟨Tryz.f104,rfl,by decide,rfl⟩
def Xdx (XaE:XbL) (l:List Int) (i:Int) (c:List Int):Option (Sum (Int×(List Int)) (List UInt8)):=
 let t:=decide ((wI .i64 (i+1))<(l.length:Int))
 cond (t)
  (
  XbU (decide ((0:Int)≤i∧i<(l.length:Int))) <|
  (l[i.toNat]?).bind fun (e2:Int)=>
  XbU (decide ((0:Int)≤(wI .i64 (i+1))∧(wI .i64 (i+1))<(l.length:Int))) <|
  (l[(wI .i64 (i+1)).toNat]?).bind fun (e3:Int)=>
  (XaE (wI .u64 e2) e3).bind fun p1=>
  XbU (decide ((c.length+p1.length)*1≤2^47)) <|
  let row:=c++(bI p1)
  some (.inl (wI .i64 (i+2),row)))
  (
  XbU (decide (c.length<2^63)) <|
  some (.inr (iB c)))
def XjV (XaE:XbL) (l:List Int):Option (List UInt8):=
 cond (decide (1<(l.length:Int)))
  (
  XbU (decide ((0:Int)≤(0:Int)∧(0:Int)<(l.length:Int))) <|
  (l[0]?).bind fun (e:Int)=>
  XbU (decide ((0:Int)≤(1:Int)∧(1:Int)<(l.length:Int))) <|
  (l[1]?).bind fun (e1:Int)=>
  (XaE (wI .u64 e) e1).bind fun p=>
  XbU (decide (p.length*1≤2^47)) <|
  iter (fun st=>Xdx XaE l st.1 st.2) FUEL (2,bI p))
  (
  some ([]))
def XwK (x:List UInt8):Xc4:=⟨.string ⟨⟨x⟩⟩,[],[none]⟩
abbrev XeM:=(List Int)→Option (List UInt8)
def r139 (g:XeM):Dec:=dSl 0 1 (unL (asI .i64)) fun (y0:List Int)=>XdY (ofG (g y0) XwK)
theorem XQl {g:XeM} {y0:List Int} {x:List UInt8} (hx:g y0=some x):r139 g [.slice (some ⟨0,0,none⟩) y0.length 1] [some (vI .i64 y0)]=some (XwK x):=(XAq (Xzt _ _)).trans (Xbc hx)
def s139 (g:XeM):Xb3:=⟨[.sl 1],r139 g⟩
theorem XH5 {g:XeM} {y0:List Int} {x:List UInt8} (hx:g y0=some x):(s139 g).run [.slice (some ⟨0,0,none⟩) y0.length 1] [some (vI .i64 y0)]=some (XwK x):=XQl hx
abbrev XyU (XaE:XbL):List (Nat×Xb3):=[(71,s71 XaE)]
def XkT (l:List Int) (i:Int) (c:List Int):VM:=
 ⟨⟨139, 25, [(0, .slice (some ⟨0, 0, none⟩) l.length 1), (3, .pointer (some ⟨1, 0, none⟩)), (4, .int .i64 i)], [.code Xtf, .inLoop Xtf, .inBlock 0, .code XAK], [], false, none⟩, [], [(0, .row false (vI .i64 l)), (1, .ty 210 [.pointer (some ⟨1, 0, none⟩), .func (.method "") ⟨[.slice (some ⟨12, 0, none⟩) c.length 1]⟩ ⟨[]⟩]), (12, .ty 5 (vI .u8 c))], 13⟩
theorem XyD (XaE:XbL) (hS:Xar Tryz.prog (XaI (XyU XaE))) (l:List Int) (res:List UInt8):∀ fuel (st:Int×(List Int)) (o:List UInt8),iter (fun st=>Xdx XaE l st.1 st.2) fuel st=some o→(o=res) →
 XaO Tryz.prog 139 1 (XkT l st.1 st.2) (fun v H _=>Res 1 (XwK res) v H):=by
 intro fuel st o h hc
 refine Xdh (head:=fun st=>XkT l st.1 st.2) (C:=fun o=>(o=res)) ?_ fuel st o h hc
 clear h hc o st fuel
 intro st o h hc
 obtain ⟨i,c⟩:=st
 replace h:Xdx XaE l i c=some o:=h
 show XaO Tryz.prog 139 1 (XkT l i c) (fun v H _=>Res 1 (XwK res) v H)
 unfold Xdx at h
 refine XbD XaQ hS true 3000 ?_
 conv=>whnf
 let t:Bool:=decide ((wI .i64 (i+1))<(l.length:Int))
 refine br.h2 h (by rfl) ?_ ?_
 ·clear h;intro hb h;conv=>whnf
  replace h:=XbU.elim h;obtain ⟨hb,h⟩:=h
  refine req.intro (XTr rfl (by first|rfl|(simp;done)) (by first|rfl|omega|(simp;done)|(simp;omega)|(simp at *;omega)) (of_decide_eq_true hb)) ?_
  conv=>whnf
  refine pk_us ?_
  conv=>whnf
  exact W
 clear h;intro hb h;conv=>whnf
 replace h:=XbU.elim h;obtain ⟨hb,h⟩:=h
 try (refine req.intro hb ?_;conv=>whnf)
 replace h:=Xdj.elim h;obtain ⟨e2,hy,h⟩:=h
 refine rd.I hy (by first|rfl|(rw [Nat.zero_add,Nat.mul_one];try rfl;done)|omega) ?_
 conv=>whnf
 replace h:=XbU.elim h;obtain ⟨hb,h⟩:=h
 try (refine req.intro hb ?_;conv=>whnf)
 replace h:=Xdj.elim h;obtain ⟨e3,hy,h⟩:=h
 refine rd.I hy (by first|rfl|(rw [Nat.zero_add,Nat.mul_one];try rfl;done)|omega) ?_
 conv=>whnf
 replace h:=Xdj.elim h;obtain ⟨p1,hy,h⟩:=h
 refine XfS.a (XpM hy) ?_
 conv=>whnf
 replace h:=XbU.elim h;obtain ⟨hb,h⟩:=h
 first|refine req.intro (XH6 (of_decide_eq_true hb) (by first|rfl|omega|(simp;done)|(simp;omega)|(simp at *;omega)) rfl rfl (by first|rfl|omega|(simp;done)|(simp;omega)|(simp at *;omega)) (by first|rfl|exact XlB _ _|exact XpH _|exact Xo1 _|exact Xp5 (by first|exact Xgf|exact XfP|exact Xgj|exact XfL|exact Xen|exact Xff|exact Xej|exact XeD|exact Xfi|exact Xge|exact Xhl|exact Xgm|exact XfO|exact Xgk|exact Xg9) _|(rw [XiR];exact XlB _ _)|(simp [XlB,XpH,Xo1,Xpy,XpJ,Xq0,Xru];done)|(simp;exact List.all_eq_true.1 (Xp5 (by first|exact Xgf|exact XfP|exact Xgj|exact XfL|exact Xen|exact Xff|exact Xej|exact XeD|exact Xfi|exact Xge|exact Xhl|exact Xgm|exact XfO|exact Xgk|exact Xg9) _))) rfl) ?_|skip
 conv=>whnf
 let row:List Int:=c++(bI p1)
 first|have hlen_row:row.length=_:=List.length_append ..|skip
 refine XP6 (xs:=c) (ys:=bI p1) (XiR _) (by first|rfl|omega|(simp;done)|(simp;omega)|(simp at *;omega)) (by first|rfl|omega|(simp;done)|(simp;omega)|(simp at *;omega)) ?_
 conv=>whnf
 cases h;simp only [Sum.elim_inl,XkT] at hc
 exact Xn8 hc [(0,0),(1,1),(12,23)] rfl
theorem XDF (XaE:XbL) (hS:Xar Tryz.prog (XaI (XyU XaE))) (l:List Int) (res:List UInt8) (h:XjV XaE l=some res) :
 XaO Tryz.prog 139 1 ⟨⟨139,25,[(0,.slice (some ⟨0,0,none⟩) l.length 1)],[.code XzV],[],false,none⟩,[],[(0,.row false (vI .i64 l))],1⟩ (fun v H _=>Res 1 (XwK res) v H):=by
 unfold XjV at h
 refine XbD XaQ hS true 3000 ?_
 conv=>whnf
 refine XbD XaQ hS true 3000 ?_
 conv=>whnf
 refine br.h2 h (by rfl) ?_ ?_
 ·clear h;intro hb h;conv=>whnf
  exact W
 clear h;intro hb h;conv=>whnf
 replace h:=XbU.elim h;obtain ⟨hb,h⟩:=h
 try (refine req.intro hb ?_;conv=>whnf)
 replace h:=Xdj.elim h;obtain ⟨e,hy,h⟩:=h
 refine rd.I hy (by first|rfl|(rw [Nat.zero_add,Nat.mul_one];try rfl;done)|omega) ?_
 conv=>whnf
 replace h:=XbU.elim h;obtain ⟨hb,h⟩:=h
 try (refine req.intro hb ?_;conv=>whnf)
 replace h:=Xdj.elim h;obtain ⟨e1,hy,h⟩:=h
 refine rd.I hy (by first|rfl|(rw [Nat.zero_add,Nat.mul_one];try rfl;done)|omega) ?_
 conv=>whnf
 replace h:=Xdj.elim h;obtain ⟨p,hy,h⟩:=h
 refine XfS.a (XpM hy) ?_
 conv=>whnf
 replace h:=XbU.elim h;obtain ⟨hb,h⟩:=h
 refine req.intro (XER (of_decide_eq_true hb) (by first|rfl|omega|(simp;done)|(simp;omega)|(simp at *;omega)) rfl rfl) ?_
 conv=>whnf
 refine XI9 (ys:=bI p) (XiR _) (by first|rfl|omega|(simp;done)|(simp;omega)|(simp at *;omega)) ?_
 conv=>whnf
 have hl:=XyD XaE hS _ res _ _ _ h rfl;simp only [XkT] at hl
 exact Xn8 hl [(0,0),(1,1),(12,12)] rfl
def Xd4:XeM:=XjV XaE
theorem XKI:Xb8 Tryz.prog 139 (s139 Xd4):=by
 have hL:=XDF XaE (Xar.Xa6 ⟨XqC,trivial⟩)
 exact okA ⟨Tryz.f139,rfl,by decide,rfl⟩
def Xie (XfY:Xf9) (Xcm:Xdv) (Xd4:XeM) (src:Xag) (dst:Xag) (proto:Int) (n:Int):Option (List UInt8):=
 (Xcm src).bind fun xr=>
 cond (!xr)
  (
  some ([]))
  (
  (Xcm dst).bind fun xr1=>
  cond (!xr1)
   (
   some ([]))
   (
   cond (!(src.V6==dst.V6))
    (
    some ([]))
    (
    (XfY src).bind fun p=>
    (XfY dst).bind fun p1=>
    XbU (decide (p.length+p1.length<2^63)) <|
    cond (src.V6)
     (
     (Xd4 [n,4,0,3,proto,1]).bind fun xr2=>
     XbU (decide ((p++p1).length+xr2.length<2^63)) <|
     some ((p++p1)++xr2))
     (
     (Xd4 [0,1,proto,1,n,2]).bind fun xr3=>
     XbU (decide ((p++p1).length+xr3.length<2^63)) <|
     some ((p++p1)++xr3)))))
def XBm (x:List UInt8):Xc4:=⟨.string ⟨⟨x⟩⟩,[],[]⟩
abbrev XcD:=Xag→Xag→Int→Int→Option (List UInt8)
def r131 (g:XcD):Dec:=dV Xc2 fun (y0:Xag)=>dV Xc2 fun (y1:Xag)=>dV (asI .i64) fun (y2:Int)=>dV (asI .i64) fun (y3:Int)=>XdY (ofG (g y0 y1 y2 y3) XBm)
theorem XNC {g:XcD} {y0:Xag} {y1:Xag} {y2:Int} {y3:Int} {x:List UInt8} (hx:g y0 y1 y2 y3=some x):r131 g [.agg ⟨[.bool y0.V6,.int .u64 y0.Hi,.int .u64 y0.Lo]⟩,.agg ⟨[.bool y1.V6,.int .u64 y1.Hi,.int .u64 y1.Lo]⟩,.int .i64 y2,.int .i64 y3] []=some (XBm x):=(Xbb (XcM _)).trans ((Xbb (XcM _)).trans ((Xbb (Xdo _)).trans ((Xbb (Xdo _)).trans (Xbc hx))))
def s131 (g:XcD):Xb3:=⟨[.v,.v,.v,.v],r131 g⟩
theorem Xyr {g:XcD} {y0:Xag} {y1:Xag} {y2:Int} {y3:Int} {x:List UInt8} (hx:g y0 y1 y2 y3=some x):(s131 g).run [.agg ⟨[.bool y0.V6,.int .u64 y0.Hi,.int .u64 y0.Lo]⟩,.agg ⟨[.bool y1.V6,.int .u64 y1.Hi,.int .u64 y1.Lo]⟩,.int .i64 y2,.int .i64 y3] []=some (XBm x):=XNC hx
abbrev XL0 (XfY:Xf9) (Xcm:Xdv) (Xd4:XeM):List (Nat×Xb3):=[(138,s138 XfY),(137,s137 Xcm),(139,s139 Xd4)]
theorem XEi (XfY:Xf9) (Xcm:Xdv) (Xd4:XeM) (hS:Xar Tryz.prog (XaI (XL0 XfY Xcm Xd4))) (src:Xag) (dst:Xag) (proto:Int) (n:Int) (res:List UInt8) (h:Xie XfY Xcm Xd4 src dst proto n=some res) :
 XaO Tryz.prog 131 0 ⟨⟨131,44,[(0,.agg ⟨[.bool src.V6,.int .u64 src.Hi,.int .u64 src.Lo]⟩),(1,.agg ⟨[.bool dst.V6,.int .u64 dst.Hi,.int .u64 dst.Lo]⟩),(2,.int .i64 proto),(3,.int .i64 n)],[.code Xyg],[],false,none⟩,[],[],0⟩ (fun v H _=>Res 0 (XBm res) v H):=by
 unfold Xie at h
 have R1:=@Xza Xcm
 have R2:=@XIb XfY
 have R3:=@XH5 Xd4
 refine XbD XaQ hS true 3000 ?_
 conv=>whnf
 exact W
def XbP:XcD:=Xie XfY Xcm Xd4
theorem Xzv:Xb8 Tryz.prog 131 (s131 XbP):=by
 have hL:=XEi XfY Xcm Xd4 (Xar.Xa6 ⟨XMJ,XxP,XKI,trivial⟩)
 exact okA ⟨Tryz.f131,rfl,by decide,rfl⟩
def XmX (XaZ:Xcs) (n:Int) (k:Int):Option (List UInt8):=
 (XaZ (wI .u64 n) k).bind fun p=>
 some (p)
def XC2 (x:List UInt8):Xc4:=⟨.string ⟨⟨x⟩⟩,[],[]⟩
abbrev Xfe:=Int→Int→Option (List UInt8)
def r105 (g:Xfe):Dec:=dV (asI .i64) fun (y0:Int)=>dV (asI .i64) fun (y1:Int)=>XdY (ofG (g y0 y1) XC2)
theorem XO1 {g:Xfe} {y0:Int} {y1:Int} {x:List UInt8} (hx:g y0 y1=some x):r105 g [.int .i64 y0,.int .i64 y1] []=some (XC2 x):=(Xbb (Xdo _)).trans ((Xbb (Xdo _)).trans (Xbc hx))
def s105 (g:Xfe):Xb3:=⟨[.v,.v],r105 g⟩
theorem XxA {g:Xfe} {y0:Int} {y1:Int} {x:List UInt8} (hx:g y0 y1=some x):(s105 g).run [.int .i64 y0,.int .i64 y1] []=some (XC2 x):=XO1 hx
abbrev XLl (XaZ:Xcs):List (Nat×Xb3):=[(46,s46 XaZ)]
theorem XEz (XaZ:Xcs) (hS:Xar Tryz.prog (XaI (XLl XaZ))) (n:Int) (k:Int) (res:List UInt8) (h:XmX XaZ n k=some res) :
 XaO Tryz.prog 105 0 ⟨⟨105,9,[(0,.int .i64 n),(1,.int .i64 k)],[.code XGH],[],false,none⟩,[],[],0⟩ (fun v H _=>Res 0 (XC2 res) v H):=by
 unfold XmX at h
 have R1:=@XqO XaZ
 refine XbD XaQ hS true 3000 ?_
 conv=>whnf
 exact W
def Xcb:Xfe:=XmX XaZ
theorem Xxg:Xb8 Tryz.prog 105 (s105 Xcb):=by
 have hL:=XEz XaZ (Xar.Xa6 ⟨Xqu,trivial⟩)
 exact okA ⟨Tryz.f105,rfl,by decide,rfl⟩
def Xkd (Xco:Xd1) (Xbh:Xcz) (Xcb:Xfe) (src:Xag) (dst:Xag) (proto:Int) (n:Int):Option (List UInt8):=
 (Xbh src).bind fun xr=>
 cond (!xr)
  (
  some ([]))
  (
  (Xbh dst).bind fun xr1=>
  cond (!xr1)
   (
   some ([]))
   (
   cond (!(src.V6==dst.V6))
    (
    some ([]))
    (
    cond (src.V6)
     (
     (Xco src).bind fun p=>
     (Xco dst).bind fun p1=>
     XbU (decide (p.length+p1.length<2^63)) <|
     (Xcb n 4).bind fun n1=>
     XbU (decide ((p++p1).length+n1.length<2^63)) <|
     (Xcb 0 3).bind fun n2=>
     XbU (decide (((p++p1)++n1).length+n2.length<2^63)) <|
     (Xcb proto 1).bind fun n3=>
     XbU (decide ((((p++p1)++n1)++n2).length+n3.length<2^63)) <|
     some ((((p++p1)++n1)++n2)++n3))
     (
     (Xco src).bind fun p2=>
     (Xco dst).bind fun p3=>
     XbU (decide (p2.length+p3.length<2^63)) <|
     (Xcb 0 1).bind fun n4=>
     XbU (decide ((p2++p3).length+n4.length<2^63)) <|
     (Xcb proto 1).bind fun n5=>
     XbU (decide (((p2++p3)++n4).length+n5.length<2^63)) <|
     (Xcb n 2).bind fun n6=>
     XbU (decide ((((p2++p3)++n4)++n5).length+n6.length<2^63)) <|
     some ((((p2++p3)++n4)++n5)++n6)))))
def rx77 (x:List UInt8):Xc4:=⟨.string ⟨⟨x⟩⟩,[],[]⟩
abbrev XeN:=Xag→Xag→Int→Int→Option (List UInt8)
def r77 (g:XeN):Dec:=dV Xc2 fun (y0:Xag)=>dV Xc2 fun (y1:Xag)=>dV (asI .i64) fun (y2:Int)=>dV (asI .i64) fun (y3:Int)=>XdY (ofG (g y0 y1 y2 y3) rx77)
theorem r77_c {g:XeN} {y0:Xag} {y1:Xag} {y2:Int} {y3:Int} {x:List UInt8} (hx:g y0 y1 y2 y3=some x):r77 g [.agg ⟨[.bool y0.V6,.int .u64 y0.Hi,.int .u64 y0.Lo]⟩,.agg ⟨[.bool y1.V6,.int .u64 y1.Hi,.int .u64 y1.Lo]⟩,.int .i64 y2,.int .i64 y3] []=some (rx77 x):=(Xbb (XcM _)).trans ((Xbb (XcM _)).trans ((Xbb (Xdo _)).trans ((Xbb (Xdo _)).trans (Xbc hx))))
def s77 (g:XeN):Xb3:=⟨[.v,.v,.v,.v],r77 g⟩
theorem XRh {g:XeN} {y0:Xag} {y1:Xag} {y2:Int} {y3:Int} {x:List UInt8} (hx:g y0 y1 y2 y3=some x):(s77 g).run [.agg ⟨[.bool y0.V6,.int .u64 y0.Hi,.int .u64 y0.Lo]⟩,.agg ⟨[.bool y1.V6,.int .u64 y1.Hi,.int .u64 y1.Lo]⟩,.int .i64 y2,.int .i64 y3] []=some (rx77 x):=r77_c hx
abbrev XTV (Xco:Xd1) (Xbh:Xcz) (Xcb:Xfe):List (Nat×Xb3):=[(104,XUg Xco),(42,s42 Xbh),(105,s105 Xcb)]
theorem XLA (Xco:Xd1) (Xbh:Xcz) (Xcb:Xfe) (hS:Xar Tryz.prog (XaI (XTV Xco Xbh Xcb))) (src:Xag) (dst:Xag) (proto:Int) (n:Int) (res:List UInt8) (h:Xkd Xco Xbh Xcb src dst proto n=some res) :
 XaO Tryz.prog 77 0 ⟨⟨77,52,[(0,.agg ⟨[.bool src.V6,.int .u64 src.Hi,.int .u64 src.Lo]⟩),(1,.agg ⟨[.bool dst.V6,.int .u64 dst.Hi,.int .u64 dst.Lo]⟩),(2,.int .i64 proto),(3,.int .i64 n)],[.code XGV],[],false,none⟩,[],[],0⟩ (fun v H _=>Res 0 (rx77 res) v H):=by
 unfold Xkd at h
 have R1:=@Xu7 Xbh
 have R2:=@XtQ Xco
 have R3:=@XxA Xcb
 refine XbD XaQ hS true 3000 ?_
 conv=>whnf
 exact W
def Xeo:XeN:=Xkd Xco Xbh Xcb
theorem XQg:Xb8 Tryz.prog 77 (s77 Xeo):=by
 have hL:=XLA Xco Xbh Xcb (Xar.Xa6 ⟨XtD,Xvk,Xxg,trivial⟩)
 exact okA ⟨Tryz.f77,rfl,by decide,rfl⟩
end Go.Vm.Code
namespace Go.Vm.Code
open Go Go.Vm
def A4 (a:Xag):Prop:=0≤a.Hi∧a.Hi<2^64∧0≤a.Lo∧a.Lo<2^64
def aok (a:Xag):Bool:=a.V6||(a.Hi==0&&decide (a.Lo<4294967296))
theorem XoW (a:Xag):Xcm a=some (aok a):=by
 unfold Xcm Xkg aok
 cases a.V6
 ·cases (a.Hi==0)<;>rfl
 ·rfl
theorem XiO (a:Xag):Xbh a=some (aok a):=by
 unfold Xbh XjM aok
 cases a.V6
 ·cases (a.Hi==0)<;>rfl
 ·rfl
def Xga (a:Xag):List UInt8:=cond a.V6 (be a.Hi.toNat 8++be a.Lo.toNat 8) (be a.Lo.toNat 4)
theorem XeG (a:Xag):(Xga a).length=cond a.V6 16 4:=by unfold Xga;cases a.V6<;>simp
theorem Xf7 {n:Int} {k:Nat} (h:1≤k∧k≤8):XeA n (k:Int)=be n.toNat k:=by unfold XeA;rw [if_pos (by omega)];rfl
theorem Xxi {a:Xag} (h:A4 a) (hr:aok a=true):XfY a=some (Xga a):=by
 obtain ⟨h1,h2,h3,h4⟩:=h
 unfold XfY Xmy Xga
 rw [XoW,Option.bind_some,hr]
 simp only [Bool.not_true,cond_false]
 cases a.V6
 ·simp only [cond_false]
  rw [Xfy h3,Option.bind_some,show (4:Int)=((4:Nat):Int) from rfl,Xf7 (by omega)]
 ·simp only [cond_true]
  rw [Xfy h1,Option.bind_some,Xfy h3,Option.bind_some,show (8:Int)=((8:Nat):Int) from rfl,Xf7 (by omega),Xf7 (by omega),Xa9 (by simp)]
theorem Xog {a:Xag} (h:A4 a) (hr:aok a=true):Xco a=some (Xga a):=by
 obtain ⟨h1,h2,h3,h4⟩:=h
 unfold Xco Xmu Xga
 rw [XiO,Option.bind_some,hr]
 simp only [Bool.not_true,cond_false]
 cases a.V6
 ·simp only [cond_false]
  rw [XeE h3 h4,Option.bind_some,show (4:Int)=((4:Nat):Int) from rfl,Xf7 (by omega)]
 ·simp only [cond_true]
  rw [XeE h1 h2,Option.bind_some,XeE h3 h4,Option.bind_some,show (8:Int)=((8:Nat):Int) from rfl,Xf7 (by omega),Xf7 (by omega),Xa9 (by simp)]
theorem Xpd {n k:Int} (h0:0≤n) (h1:n<2^63):Xcb n k=some (XeA n k):=by
 unfold Xcb XmX
 rw [Xkr h0 (by omega),XeE h0 (by omega)];rfl
theorem XbO (n k:Int):(XeA n k).length≤8:=by unfold XeA;split<;>simp<;>omega
theorem iB_bI (s:List UInt8):iB (bI s)=s:=by simp [iB,bI,List.map_map,Function.comp_def]
theorem XFA (a b:List UInt8):bI (a++b)=bI a++bI b:=by simp [bI]
theorem Xuk {σ ρ:Type} {f:σ→Option (Sum σ ρ)} {n:Nat} {s s':σ} (h:f s=some (.inl s')):iter f (n+1) s=iter f n s':=by rw [iter,h]
theorem XBY {σ ρ:Type} {f:σ→Option (Sum σ ρ)} {n:Nat} {s:σ} {r:ρ} (h:f s=some (.inr r)):iter f (n+1) s=some r:=by rw [iter,h]
theorem XAk:∃ n,FUEL=n+8:=⟨18446744073709551608,rfl⟩
theorem XHz {a b c d e f:Int} (ha:0≤a) (hc:0≤c) (he:0≤e) (ha1:a<2^63) (hc1:c<2^63) (he1:e<2^63):Xd4 [a,b,c,d,e,f]=some (XeA a b++XeA c d++XeA e f):=by
 have l1:=XbO a b
 have l2:=XbO c d
 have l3:=XbO e f
 unfold Xd4 XjV
 rw [XbB (by simp),Xa9 (by simp)]
 show ((some a).bind _)=_
 rw [Option.bind_some,Xa9 (by simp)]
 show ((some b).bind _)=_
 rw [Option.bind_some,Xkr ha (by omega),Xfy ha,Option.bind_some,Xa9 (by omega)]
 obtain ⟨n,hn⟩:=XAk
 rw [hn]
 have s1:Xdx XaE [a,b,c,d,e,f] 2 (bI (XeA a b))=some (.inl (4,bI (XeA a b++XeA c d))):=by
  unfold Xdx
  simp only []
  rw [XbB (by rw [show wI .i64 (2+1)=3 from rfl];simp),Xa9 (by simp)]
  show ((some c).bind _)=_
  rw [Option.bind_some,Xa9 (by rw [show wI .i64 (2+1)=3 from rfl];simp)]
  show ((some d).bind _)=_
  rw [Option.bind_some,Xkr hc (by omega),Xfy hc,Option.bind_some,Xa9 (by simp;omega),XFA];rfl
 have s2:Xdx XaE [a,b,c,d,e,f] 4 (bI (XeA a b++XeA c d))=some (.inl (6,bI (XeA a b++XeA c d++XeA e f))):=by
  unfold Xdx
  simp only []
  rw [XbB (by rw [show wI .i64 (4+1)=5 from rfl];simp),Xa9 (by simp)]
  show ((some e).bind _)=_
  rw [Option.bind_some,Xa9 (by rw [show wI .i64 (4+1)=5 from rfl];simp)]
  show ((some f).bind _)=_
  rw [Option.bind_some,Xkr he (by omega),Xfy he,Option.bind_some,Xa9 (by simp;omega),XFA (XeA a b++XeA c d)];rfl
 have s3:Xdx XaE [a,b,c,d,e,f] 6 (bI (XeA a b++XeA c d++XeA e f))=some (.inr (XeA a b++XeA c d++XeA e f)):=by
  unfold Xdx
  simp only []
  rw [Xbd (by rw [show wI .i64 (6+1)=7 from rfl];simp),Xa9 (by simp;omega),iB_bI]
 rw [Xuk (f:=fun (st:Int×List Int)=>Xdx XaE [a,b,c,d,e,f] st.1 st.2) (n:=n+7) s1,Xuk (n:=n+6) s2,XBY (n:=n+5) s3]
def XlN (src dst:Xag) (p n:Int):List UInt8:=
 if aok src=true∧aok dst=true∧src.V6=dst.V6 then Xga src++Xga dst++cond src.V6 (XeA n 4++XeA 0 3++XeA p 1) (XeA 0 1++XeA p 1++XeA n 2) else []
theorem Xri (src dst:Xag) (p n:Int):(XlN src dst p n).length≤56:=by
 have l1:=XbO n 4
 have l2:=XbO 0 3
 have l3:=XbO p 1
 have l4:=XbO 0 1
 have l5:=XbO n 2
 unfold XlN
 split
 ·rw [List.length_append,List.length_append,XeG,XeG]
  cases src.V6<;>cases dst.V6<;>simp<;>omega
 ·simp
theorem XsX {src dst:Xag} {p n:Int} (h1:A4 src) (h2:A4 dst) (hp:0≤p∧p<2^63) (hn:0≤n∧n<2^63):XbP src dst p n=some (XlN src dst p n):=by
 unfold XbP Xie XlN
 rw [XoW,XoW,Option.bind_some]
 cases e1:aok src
 ·simp
 simp only [Bool.not_true,cond_false,Option.bind_some]
 cases e2:aok dst
 ·simp
 simp only [Bool.not_true,cond_false]
 by_cases e3:src.V6=dst.V6
 ·rw [if_pos (by simpa using e3),show (src.V6==dst.V6)=true by simpa using e3]
  simp only [Bool.not_true,cond_false]
  have l1:=XeG src
  have l2:=XeG dst
  rw [Xxi h1 e1,Option.bind_some,Xxi h2 e2,Option.bind_some,Xa9 (by rw [l1,l2];cases src.V6<;>cases dst.V6<;>decide)]
  rw [XHz hn.1 (by omega) hp.1 hn.2 (by omega) hp.2,XHz (by omega) hp.1 hn.1 (by omega) hp.2 hn.2]
  have m1:=XbO n 4
  have m2:=XbO 0 3
  have m3:=XbO p 1
  have m4:=XbO 0 1
  have m5:=XbO n 2
  have b1:(Xga src).length≤16:=by rw [l1];cases src.V6<;>decide
  have b2:(Xga dst).length≤16:=by rw [l2];cases dst.V6<;>decide
  cases src.V6
  ·simp only [cond_false,Option.bind_some]
   rw [Xa9 (by simp only [List.length_append];omega)]
  ·simp only [cond_true,Option.bind_some]
   rw [Xa9 (by simp only [List.length_append];omega)]
 ·rw [if_neg (fun h=>e3 h.2.2),show (src.V6==dst.V6)=false by simpa using e3];rfl
theorem Xwq {src dst:Xag} {p n:Int} (h1:A4 src) (h2:A4 dst) (hp:0≤p∧p<2^63) (hn:0≤n∧n<2^63):Xeo src dst p n=some (XlN src dst p n):=by
 unfold Xeo Xkd XlN
 rw [XiO,XiO,Option.bind_some]
 cases e1:aok src
 ·simp
 simp only [Bool.not_true,cond_false,Option.bind_some]
 cases e2:aok dst
 ·simp
 simp only [Bool.not_true,cond_false]
 by_cases e3:src.V6=dst.V6
 ·rw [if_pos (by simpa using e3),show (src.V6==dst.V6)=true by simpa using e3]
  simp only [Bool.not_true,cond_false]
  have l1:=XeG src
  have l2:=XeG dst
  have m1:=XbO n 4
  have m2:=XbO 0 3
  have m3:=XbO p 1
  have m4:=XbO 0 1
  have m5:=XbO n 2
  have b1:(Xga src).length≤16:=by rw [l1];cases src.V6<;>decide
  have b2:(Xga dst).length≤16:=by rw [l2];cases dst.V6<;>decide
  rw [Xog h1 e1,Xog h2 e2,Xpd hn.1 hn.2,Xpd (n:=0) (k:=3) (by omega) (by omega),Xpd hp.1 hp.2,Xpd (n:=0) (k:=1) (by omega) (by omega),Xpd hn.1 hn.2]
  cases src.V6
  ·simp only [cond_false,Option.bind_some]
   rw [Xa9 (by omega),Xa9 (by simp only [List.length_append];omega),Xa9 (by simp only [List.length_append];omega),Xa9 (by simp only [List.length_append];omega)]
   simp only [List.append_assoc]
  ·simp only [cond_true,Option.bind_some]
   rw [Xa9 (by omega),Xa9 (by simp only [List.length_append];omega),Xa9 (by simp only [List.length_append];omega),Xa9 (by simp only [List.length_append];omega)]
   simp only [List.append_assoc]
 ·rw [if_neg (fun h=>e3 h.2.2),show (src.V6==dst.V6)=false by simpa using e3];rfl
theorem XoA (n:Int):0≤wI .u64 n∧wI .u64 n<2^64:=by rw [wU64m];omega
theorem XEd (n k:Int):Xcb n k=some (XeA (wI .u64 n) k):=by
 unfold Xcb XmX
 rw [XeE (XoA n).1 (XoA n).2];rfl
end Go.Vm.Code
namespace Go.Vm.Code
open Go Go.Vm Go.Proofs
set_option maxRecDepth 100000
set_option maxHeartbeats 4000000
set_option linter.unusedVariables false
def Xgh (ra0:Xaj):Option (Bool×Xaj):=
 cond (!ra0.made)
  (
  some ((true,ra0)))
  (
  some ((ra0.bad,ra0)))
def rx95 (x:Bool×Xaj):Xc4:=⟨.bool x.1,[],[some [.string ⟨⟨x.2.s⟩⟩,.bool x.2.made,.bool x.2.bad]]⟩
abbrev XaK:=Xaj→Option (Bool×Xaj)
def r95 (g:XaK):Dec:=dPt 0 Xdr fun (y0:Xaj)=>XdY (ofG (g y0) rx95)
theorem r95_c {g:XaK} {y0:Xaj} {x:Bool×Xaj} (hx:g y0=some x):r95 g [.pointer (some ⟨0,0,none⟩)] [some [.string ⟨⟨y0.s⟩⟩,.bool y0.made,.bool y0.bad]]=some (rx95 x):=(XmV (XfJ _)).trans (Xbc hx)
def s95 (g:XaK):Xb3:=⟨[.pt 3],r95 g⟩
theorem Xo4 {g:XaK} {y0:Xaj} {x:Bool×Xaj} (hx:g y0=some x):(s95 g).run [.pointer (some ⟨0,0,none⟩)] [some [.string ⟨⟨y0.s⟩⟩,.bool y0.made,.bool y0.bad]]=some (rx95 x):=r95_c hx
abbrev XRX:List (Nat×Xb3):=[]
theorem XKN (hS:Xar Tryz.prog (XaI (XRX))) (ra0:Xaj) (res:Bool×Xaj) (h:Xgh ra0=some res) :
 XaO Tryz.prog 95 1 ⟨⟨95,18,[(0,.pointer (some ⟨0,0,none⟩))],[.code XNW],[],false,none⟩,[],[(0,.cells [.string ⟨⟨ra0.s⟩⟩,.bool ra0.made,.bool ra0.bad])],1⟩ (fun v H _=>Res 1 (rx95 res) v H):=by
 unfold Xgh at h
 refine XbD XaQ hS true 3000 ?_
 conv=>whnf
 exact W
def Xam:XaK:=Xgh
theorem Xql:Xb8 Tryz.prog 95 (s95 Xam):=by
 have hL:=XKN (Xar.Xa6 trivial)
 exact okA ⟨Tryz.f95,rfl,by decide,rfl⟩
def XfV (Xam:XaK) (ra0:Xaj) (n:Int):Option ((List UInt8)×Xaj):=
 (Xam ra0).bind fun b=>
 cond (b.1)
  (
  some (([],b.2)))
  (
  cond (decide (n<0))
   (
   some (([],Xaj.mk b.2.s b.2.made true)))
   (
   cond (decide (n>(b.2.s.length:Int)))
    (
    some (([],Xaj.mk b.2.s b.2.made true)))
    (
    XbU (decide ((0:Int)≤n∧n≤(b.2.s.length:Int))) <|
    XbU (decide ((0:Int)≤n∧n≤(b.2.s.length:Int))) <|
    let t:=(b.2.s.drop n.toNat).take (b.2.s.length - n.toNat)
    some ((b.2.s.take n.toNat,Xaj.mk t b.2.made b.2.bad)))))
def rx86 (x:(List UInt8)×Xaj):Xc4:=⟨.string ⟨⟨x.1⟩⟩,[],[some [.string ⟨⟨x.2.s⟩⟩,.bool x.2.made,.bool x.2.bad]]⟩
abbrev Xaz:=Xaj→Int→Option ((List UInt8)×Xaj)
def r86 (g:Xaz):Dec:=dPt 0 Xdr fun (y0:Xaj)=>dV (asI .i64) fun (y1:Int)=>XdY (ofG (g y0 y1) rx86)
theorem r86_c {g:Xaz} {y0:Xaj} {y1:Int} {x:(List UInt8)×Xaj} (hx:g y0 y1=some x):r86 g [.pointer (some ⟨0,0,none⟩),.int .i64 y1] [some [.string ⟨⟨y0.s⟩⟩,.bool y0.made,.bool y0.bad]]=some (rx86 x):=(XmV (XfJ _)).trans ((Xbb (Xdo _)).trans (Xbc hx))
def s86 (g:Xaz):Xb3:=⟨[.pt 3,.v],r86 g⟩
theorem Xn1 {g:Xaz} {y0:Xaj} {y1:Int} {x:(List UInt8)×Xaj} (hx:g y0 y1=some x):(s86 g).run [.pointer (some ⟨0,0,none⟩),.int .i64 y1] [some [.string ⟨⟨y0.s⟩⟩,.bool y0.made,.bool y0.bad]]=some (rx86 x):=r86_c hx
abbrev XTA (Xam:XaK):List (Nat×Xb3):=[(95,s95 Xam)]
theorem XHT (Xam:XaK) (hS:Xar Tryz.prog (XaI (XTA Xam))) (ra0:Xaj) (n:Int) (res:(List UInt8)×Xaj) (h:XfV Xam ra0 n=some res) :
 XaO Tryz.prog 86 1 ⟨⟨86,38,[(0,.pointer (some ⟨0,0,none⟩)),(1,.int .i64 n)],[.code XGa],[],false,none⟩,[],[(0,.cells [.string ⟨⟨ra0.s⟩⟩,.bool ra0.made,.bool ra0.bad])],1⟩ (fun v H _=>Res 1 (rx86 res) v H):=by
 unfold XfV at h
 have R1:=@Xo4 Xam
 refine XbD XaQ hS true 3000 ?_
 conv=>whnf
 exact W
def Xae:Xaz:=XfV Xam
theorem Xn0:Xb8 Tryz.prog 86 (s86 Xae):=by
 have hL:=XHT Xam (Xar.Xa6 ⟨Xql,trivial⟩)
 exact okA ⟨Tryz.f86,rfl,by decide,rfl⟩
def Xgq (Xax:Xby) (Xae:Xaz) (ra0:Xaj) (k:Int):Option (Int×Xaj):=
 cond (decide (k<1))
  (
  (Xae ra0 (-1)).bind fun t=>
  (Xax t.1 0 (-1)).bind fun xg=>
  some ((wI .i64 xg.1,t.2)))
  (
  cond (decide (k>7))
   (
   (Xae ra0 (-1)).bind fun t1=>
   (Xax t1.1 0 (-1)).bind fun xg1=>
   some ((wI .i64 xg1.1,t1.2)))
   (
   (Xae ra0 k).bind fun t2=>
   (Xax t2.1 0 k).bind fun xg2=>
   some ((wI .i64 xg2.1,t2.2))))
def rx52 (x:Int×Xaj):Xc4:=⟨.int .i64 x.1,[],[some [.string ⟨⟨x.2.s⟩⟩,.bool x.2.made,.bool x.2.bad]]⟩
abbrev XaH:=Xaj→Int→Option (Int×Xaj)
def r52 (g:XaH):Dec:=dPt 0 Xdr fun (y0:Xaj)=>dV (asI .i64) fun (y1:Int)=>XdY (ofG (g y0 y1) rx52)
theorem r52_c {g:XaH} {y0:Xaj} {y1:Int} {x:Int×Xaj} (hx:g y0 y1=some x):r52 g [.pointer (some ⟨0,0,none⟩),.int .i64 y1] [some [.string ⟨⟨y0.s⟩⟩,.bool y0.made,.bool y0.bad]]=some (rx52 x):=(XmV (XfJ _)).trans ((Xbb (Xdo _)).trans (Xbc hx))
def s52 (g:XaH):Xb3:=⟨[.pt 3,.v],r52 g⟩
theorem XkV {g:XaH} {y0:Xaj} {y1:Int} {x:Int×Xaj} (hx:g y0 y1=some x):(s52 g).run [.pointer (some ⟨0,0,none⟩),.int .i64 y1] [some [.string ⟨⟨y0.s⟩⟩,.bool y0.made,.bool y0.bad]]=some (rx52 x):=r52_c hx
abbrev XS7 (Xax:Xby) (Xae:Xaz):List (Nat×Xb3):=[(69,s69 Xax),(86,s86 Xae)]
theorem XJl (Xax:Xby) (Xae:Xaz) (hS:Xar Tryz.prog (XaI (XS7 Xax Xae))) (ra0:Xaj) (k:Int) (res:Int×Xaj) (h:Xgq Xax Xae ra0 k=some res) :
 XaO Tryz.prog 52 1 ⟨⟨52,23,[(0,.pointer (some ⟨0,0,none⟩)),(1,.int .i64 k)],[.code XHe],[],false,none⟩,[],[(0,.cells [.string ⟨⟨ra0.s⟩⟩,.bool ra0.made,.bool ra0.bad])],1⟩ (fun v H _=>Res 1 (rx52 res) v H):=by
 unfold Xgq at h
 have R1:=@Xn1 Xae
 have R2:=@Xo3 Xax
 refine XbD XaQ hS true 3000 ?_
 conv=>whnf
 exact W
def Xaa:XaH:=Xgq Xax Xae
theorem XoS:Xb8 Tryz.prog 52 (s52 Xaa):=by
 have hL:=XJl Xax Xae (Xar.Xa6 ⟨XqQ,Xn0,trivial⟩)
 exact okA ⟨Tryz.f52,rfl,by decide,rfl⟩
def Xny (s:List UInt8):Option Xaj:=
 some (Xaj.mk s true false)
def rx51 (x:Xaj):Xc4:=⟨.pointer (some ⟨0,0,none⟩),[[.string ⟨⟨x.s⟩⟩,.bool x.made,.bool x.bad]],[]⟩
abbrev XbX:=(List UInt8)→Option Xaj
def r51 (g:XbX):Dec:=dV asS fun (y0:List UInt8)=>XdY (ofG (g y0) rx51)
theorem r51_c {g:XbX} {y0:List UInt8} {x:Xaj} (hx:g y0=some x):r51 g [.string ⟨⟨y0⟩⟩] []=some (rx51 x):=(Xbb (Xeb)).trans (Xbc hx)
def s51 (g:XbX):Xb3:=⟨[.v],r51 g⟩
theorem XqE {g:XbX} {y0:List UInt8} {x:Xaj} (hx:g y0=some x):(s51 g).run [.string ⟨⟨y0⟩⟩] []=some (rx51 x):=r51_c hx
abbrev XTO:List (Nat×Xb3):=[]
theorem XIn (hS:Xar Tryz.prog (XaI (XTO))) (s:List UInt8) (res:Xaj) (h:Xny s=some res) :
 XaO Tryz.prog 51 0 ⟨⟨51,6,[(0,.string ⟨⟨s⟩⟩)],[.code XNN],[],false,none⟩,[],[],0⟩ (fun v H _=>Res 0 (rx51 res) v H):=by
 unfold Xny at h
 refine XbD XaQ hS true 3000 ?_
 conv=>whnf
 exact W
def XaR:XbX:=Xny
theorem Xqf:Xb8 Tryz.prog 51 (s51 XaR):=by
 have hL:=XIn (Xar.Xa6 trivial)
 exact okA ⟨Tryz.f51,rfl,by decide,rfl⟩
end Go.Vm.Code
namespace Go.Vm.Code
open Go Go.Vm
def rdr (r:Xaj) (k:Int):Xaj:=if r.bad=true∨k<0∨k>r.s.length then ⟨r.s,true,true⟩ else ⟨r.s.drop k.toNat,true,false⟩
def rdt (r:Xaj) (k:Int):List UInt8:=if r.bad=true∨k<0∨k>r.s.length then [] else r.s.take k.toNat
theorem XfR {r:Xaj} (h:r.made=true):Xam r=some (r.bad,r):=by
 unfold Xam Xgh
 rw [h];rfl
theorem Xgg {r:Xaj} {k:Int} (h:r.made=true):Xae r k=some (rdt r k,rdr r k):=by
 unfold Xae XfV rdt rdr
 rw [XfR h,Option.bind_some]
 simp only []
 obtain ⟨s,m,b⟩:=r
 simp only at h ⊢
 subst h
 cases b with
 | true=>simp
 | false=>
   rw [cond_false]
   by_cases h1:k<0
   ·rw [XbB h1,if_pos (by omega),if_pos (by omega)]
   rw [Xbd h1]
   by_cases h2:k>s.length
   ·rw [XbB h2,if_pos (by omega),if_pos (by omega)]
   ·have e:(s.drop k.toNat).take (s.length - k.toNat)=s.drop k.toNat:=List.take_of_length_le (by simp)
    rw [Xbd h2,Xa9 (by omega),Xa9 (by omega),if_neg (by simp;omega),if_neg (by simp;omega),e]
theorem XeQ (r:Xaj) (k:Int):(rdr r k).made=true:=by unfold rdr;split<;>rfl
theorem XtG {r:Xaj} {k:Int}:(rdr r k).bad=false↔r.bad=false∧0≤k∧k≤r.s.length:=by
 unfold rdr
 split
 ·rename_i h
  simp only [Bool.true_eq_false,false_iff]
  intro ⟨a,b,c⟩
  rcases h with h|h|h
  ·rw [a] at h;cases h
  ·omega
  ·omega
 ·rename_i h
  simp only [true_iff]
  cases hb:r.bad
  ·exact ⟨rfl,by omega,by omega⟩
  ·exact absurd (.inl hb) h
theorem XIU {r:Xaj} {k:Int} (h:(rdr r k).bad=false):((rdr r k).s.length:Int)=r.s.length - k:=by
 obtain ⟨a,b,c⟩:=XtG.1 h
 unfold rdr
 rw [if_neg (by rw [a];simp;omega)]
 simp;omega
theorem Xib {r r':Xaj} {k:Int} (h:rdr r k=r') (hb:r'.bad=false):r.bad=false∧(r'.s.length:Int)+k=r.s.length:=by
 subst h
 have:=XIU hb
 exact ⟨(XtG.1 hb).1,by omega⟩
theorem Xgy {s:List UInt8} {k:Int} (h0:0≤k) (h1:k≤s.length):rdr ⟨s,true,false⟩ k=⟨s.drop k.toNat,true,false⟩:=by
 unfold rdr;rw [if_neg (by simp;omega)]
theorem XgI {s:List UInt8} {k:Int} (h0:0≤k) (h1:k≤s.length):rdt ⟨s,true,false⟩ k=s.take k.toNat:=by
 unfold rdt;rw [if_neg (by simp;omega)]
theorem XI7 (r:Xaj) (k:Int):(rdt r k).length≤r.s.length:=by
 unfold rdt;split
 ·simp
 ·rw [List.length_take];omega
def rdn (r:Xaj) (k:Int):Int:=(XeY (rdt r (if k<1∨k>7 then -1 else k)):Nat)
theorem XdM {r:Xaj} {k:Int} (h:r.made=true) (hl:r.s.length<2^61):Xaa r k=some (rdn r k,rdr r (if k<1∨k>7 then -1 else k)):=by
 unfold Xaa Xgq rdn
 have bad:Xae r (-1)=some ([],rdr r (-1)):=by
  rw [Xgg h];unfold rdt;rw [if_pos (by omega)]
 have e0:rdt r (-1)=[]:=by unfold rdt;rw [if_pos (by omega)]
 by_cases h1:k<1
 ·rw [XbB h1,bad,Option.bind_some,XeL (by simp),if_pos (by omega),Option.bind_some,e0];rfl
 rw [Xbd h1]
 by_cases h2:k>7
 ·rw [XbB h2,bad,Option.bind_some,XeL (by simp),if_pos (by omega),Option.bind_some,e0];rfl
 have hlen:=XI7 r k
 rw [Xbd h2,Xgg h,Option.bind_some,XeL (by simp only [];omega),Option.bind_some,if_neg (by omega)]
 simp only []
 unfold Xuz
 by_cases hc:r.bad=true∨k<0∨k>r.s.length
 ·have e:rdt r k=[]:=by unfold rdt;rw [if_pos hc]
  rw [e,if_neg (by simp;omega)];rfl
 ·have hl2:(rdt r k).length=k.toNat:=by unfold rdt;rw [if_neg hc];simp;omega
  rw [if_pos (by omega)]
  have e2:((rdt r k).drop (0:Int).toNat).take k.toNat=rdt r k:=by
   rw [show (0:Int).toNat=0 from rfl,List.drop_zero,List.take_of_length_le (by omega)]
  have hv:XeY (rdt r k)<2^56:=by
   have:=Xsg (rdt r k)
   rw [hl2] at this
   exact Xq6 this (by omega)
  simp only [e2]
  rw [Xe0 (by omega) (by omega)]
theorem Xq4 {s:List UInt8} {p k:Int} (h0:0≤p) (h1:1≤k) (h8:k≤8) (h:p+k≤s.length):Xuz s p k=(((XeY ((s.drop p.toNat).take k.toNat):Nat):Int),true):=by
 unfold Xuz;rw [if_pos (by omega)]
theorem Xl2 (s:List UInt8):XaR s=some ⟨s,true,false⟩:=rfl
def sset (s:List UInt8) (p k n:Nat):List UInt8:=s.take p++be n k++s.drop (p+k)
theorem XvH {s:List UInt8} {p k n:Nat} (h:p+k≤s.length):(sset s p k n).length=s.length:=by simp [sset];omega
theorem XuU {s:List UInt8} {p k:Nat} {n:Int} (hs:s.length<2^40) (hn:0≤n) (h1:1≤k) (h8:k≤8) (h:p+k≤s.length):Xcg s (p:Int) (k:Int) n=some (sset s p k n.toNat):=by
 rw [XHc hs hn];unfold Xwd
 rw [if_pos (by omega)]
 have e:((p:Int)+k).toNat=p+k:=by omega
 rw [e];rfl
theorem Xvz {s:List UInt8} {p k n y:Nat} (h:p+k≤s.length):(sset s p k n)[y]?=if y<p then s[y]? else if y<p+k then (be n k)[y - p]? else s[y]?:=by
 unfold sset
 rw [List.append_assoc,List.getElem?_append]
 have e1:(s.take p).length=p:=by simp;omega
 rw [e1]
 by_cases h1:y<p
 ·rw [if_pos h1,if_pos h1,List.getElem?_take_of_lt h1]
 ·rw [if_neg h1,if_neg h1,List.getElem?_append,Xea]
  by_cases h2:y<p+k
  ·rw [if_pos (by omega),if_pos h2]
  ·rw [if_neg (by omega),if_neg h2,List.getElem?_drop]
   congr 1;omega
theorem Xsp {l:List UInt8} {q m x:Nat}:((l.drop q).take m)[x]?=if x<m then l[q+x]? else none:=by
 rw [List.getElem?_take];split
 ·rw [List.getElem?_drop]
 ·rfl
theorem XuG {s:List UInt8} {p k:Nat} (h:p+k≤s.length) (hp:p%2=0) (hk:k%2=0):Xdp s=Xdp (s.take p)+(Xdp ((s.drop p).take k)+Xdp (s.drop (p+k))):=by
 rw [←List.drop_drop,←Xdf _ _ (by rw [List.length_take,List.length_drop];omega),List.take_append_drop,←Xdf _ _ (by rw [List.length_take];omega),List.take_append_drop]
theorem XsI {s:List UInt8} {p k n:Nat} (h:p+k≤s.length) (hp:p%2=0) (hk:k%2=0):Xdp (sset s p k n)+Xdp ((s.drop p).take k)=Xdp s+Xdp (be n k):=by
 rw [XuG h hp hk]
 unfold sset
 rw [List.append_assoc,Xdf _ _ (by rw [List.length_take];omega),Xdf _ _ (by rw [Xea];omega)]
 omega
theorem Xjj {n:Nat} (h:n<65536):Xdp (be n 2)=n:=by
 have e:be n 2=[UInt8.ofNat (n/256),UInt8.ofNat n]:=by simp [be]
 rw [e,Xdp,Xdp]
 simp only [UInt8.toNat_ofNat']
 omega
theorem XiG {n:Nat} (h:n%65535=0) (h0:n≠0):norm n=65535:=norm_eq (by omega) (by omega) (by omega)
def inR (n m:Int):Bool:=decide (0≤n∧n≤m)
theorem XtR {n m:Int}:inR n m=true↔0≤n∧n≤m:=by unfold inR;simp
theorem XAJ (n:Nat):(((n:Int).tmod 4)==0)=decide (n%4=0):=by
 rw [Int.tmod_eq_emod_of_nonneg (by omega),Bool.eq_iff_iff,beq_iff_eq,decide_eq_true_eq];omega
theorem XG3 (n:Nat):decide ((n:Int)≤40)=decide (n≤40):=by rw [Bool.eq_iff_iff,decide_eq_true_eq,decide_eq_true_eq];omega
theorem tdiv4 (n:Nat):(20+(n:Int)).tdiv 4=(((20+n)/4:Nat):Int):=by rw [Int.tdiv_eq_ediv_of_nonneg (by omega)];omega
def vK (s:List UInt8) (p k:Nat):Int:=(XeY ((s.drop p).take k):Nat)
theorem XkD (s:List UInt8) (p k n:Nat) (h:256^k≤n):0≤vK s p k∧vK s p k<n:=by
 have:=XeZ (l:=s.drop p) (k:=k) n h
 unfold vK;omega
theorem XHv {s:List UInt8} {p k:Nat} (h1:1≤k) (h7:k≤7) (h:p+k≤s.length) (hl:s.length<2^61):Xaa ⟨s.drop p,true,false⟩ (k:Int)=some (vK s p k,⟨s.drop (p+k),true,false⟩):=by
 have hd:(s.drop p).length=s.length - p:=by simp
 rw [XdM rfl (by simp only;omega),if_neg (by omega),Xgy (by omega) (by omega)]
 unfold rdn
 rw [if_neg (by omega),XgI (by omega) (by omega),Int.toNat_natCast,List.drop_drop];rfl
theorem Xr0 {s:List UInt8} {p k:Nat} (h:p+k≤s.length):Xae ⟨s.drop p,true,false⟩ (k:Int)=some ((s.drop p).take k,⟨s.drop (p+k),true,false⟩):=by
 have hd:(s.drop p).length=s.length - p:=by simp
 rw [Xgg rfl,Xgy (by omega) (by omega),XgI (by omega) (by omega),Int.toNat_natCast,List.drop_drop]
theorem XuT {s:List UInt8} {p:Nat} (h:p<s.length):vK s p 1=(s[p].toNat:Int):=by
 unfold vK
 rw [List.drop_eq_getElem_cons h]
 show ((XeY [s[p]]:Nat):Int)=_
 rw [Xh8];simp
theorem XHy {s:List UInt8} {p:Nat} (h:p+1<s.length):vK s p 2=(s[p].toNat*256+s[p+1].toNat:Int):=by
 unfold vK
 rw [List.drop_eq_getElem_cons (by omega:p<s.length),List.drop_eq_getElem_cons h]
 show ((XeY [s[p],s[p+1]]:Nat):Int)=_
 rw [Xh8,Xh8];simp
theorem l1 {l:List UInt8} (h:l.length=1):∃ a,l=[a]:=by
 match l,h with
 | [a],_=>exact ⟨a,rfl⟩
theorem l2 {l:List UInt8} (h:l.length=2):∃ a b,l=[a,b]:=by
 match l,h with
 | [a,b],_=>exact ⟨a,b,rfl⟩
theorem l4 {l:List UInt8} (h:l.length=4):∃ a b c d,l=[a,b,c,d]:=by
 match l,h with
 | [a,b,c,d],_=>exact ⟨a,b,c,d,rfl⟩
theorem Xjv {s w:List UInt8} {p k n:Nat} (h:(s.drop p).take k=w) (e:w=be n k) (hn:n<256^k):vK s p k=(n:Int):=by
 unfold vK;rw [h,e,XfI hn]
theorem Xst (src dst:Xag) (p n:Int):(XlN src dst p n).length%2=0:=by
 unfold XlN
 split
 ·rename_i h
  rw [List.length_append,List.length_append,XeG,XeG,←h.2.2]
  cases src.V6
  ·simp only [cond_false,List.length_append]
   rw [show (XeA 0 1).length=1 from rfl,show XeA p 1=be p.toNat 1 from Xf7 (k:=1) (by omega),show XeA n 2=be n.toNat 2 from Xf7 (k:=2) (by omega),Xea,Xea]
  ·simp only [cond_true,List.length_append]
   rw [show (XeA 0 3).length=3 from rfl,show XeA p 1=be p.toNat 1 from Xf7 (k:=1) (by omega),show XeA n 4=be n.toNat 4 from Xf7 (k:=4) (by omega),Xea,Xea]
 ·rfl
theorem XAc {s:List UInt8} {n p k:Nat} (h:p+k≤n):vK (s.take n) p k=vK s p k:=by
 unfold vK
 rw [List.drop_take,List.take_take,Nat.min_eq_left (by omega)]
theorem Xz5 {s b:List UInt8} {z p k:Nat} (h:s.drop z=b):vK s (z+p) k=vK b p k:=by
 unfold vK;rw [←h,List.drop_drop]
end Go.Vm.Code
namespace Go.Vm.Code
open Go Go.Vm Go.Proofs
set_option maxRecDepth 100000
set_option maxHeartbeats 4000000
set_option linter.unusedVariables false
def XrO (n:Int) (most:Int):Option Bool:=
 cond (decide (n≥0))
  (
  some (decide (n≤most)))
  (
  some (false))
def XC5 (x:Bool):Xc4:=⟨.bool x,[],[]⟩
abbrev Xih:=Int→Int→Option Bool
def r125 (g:Xih):Dec:=dV (asI .i64) fun (y0:Int)=>dV (asI .i64) fun (y1:Int)=>XdY (ofG (g y0 y1) XC5)
theorem XQJ {g:Xih} {y0:Int} {y1:Int} {x:Bool} (hx:g y0 y1=some x):r125 g [.int .i64 y0,.int .i64 y1] []=some (XC5 x):=(Xbb (Xdo _)).trans ((Xbb (Xdo _)).trans (Xbc hx))
def s125 (g:Xih):Xb3:=⟨[.v,.v],r125 g⟩
theorem XJ7 {g:Xih} {y0:Int} {y1:Int} {x:Bool} (hx:g y0 y1=some x):(s125 g).run [.int .i64 y0,.int .i64 y1] []=some (XC5 x):=XQJ hx
abbrev XK9:List (Nat×Xb3):=[]
theorem XB4 (hS:Xar Tryz.prog (XaI (XK9))) (n:Int) (most:Int) (res:Bool) (h:XrO n most=some res) :
 XaO Tryz.prog 125 0 ⟨⟨125,12,[(0,.int .i64 n),(1,.int .i64 most)],[.code XHd],[],false,none⟩,[],[],0⟩ (fun v H _=>Res 0 (XC5 res) v H):=by
 unfold XrO at h
 refine XbD XaQ hS true 3000 ?_
 conv=>whnf
 exact W
def Xix:Xih:=XrO
theorem XH9:Xb8 Tryz.prog 125 (s125 Xix):=by
 have hL:=XB4 (Xar.Xa6 trivial)
 exact okA ⟨Tryz.f125,rfl,by decide,rfl⟩
end Go.Vm.Code
