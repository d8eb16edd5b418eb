import Derived.Test.YtgmodbbcnfdpdaaGreatNShimPlaysc
namespace Go.Vm.Code
open Go Go.Vm Go.Proofs
def XNF:VC:=.regD [oD 97 (.loadN [(.int .i64),.bool,(.int .u64),(.int .u64),.bool,(.int .u64),(.int .u64),(.int .i64),(.int .i64),(.int .i64),.bool,(.int .u32),(.int .u32),.bool,.str,(.int .i64)] τ8),oD 98 (.fieldA 7 τ6),oD 99 (.load1 (.int .i64) XNm),oD 100 (.fieldA 7 τ6),oD 101 (.load1 (.int .i64) XE5),oD 102 (.bin .add XCr (.const (.int .i64 20))),oD 103 (.fieldA 7 τ9),oD 104 (.load1 .str XMX),oD 105 (.lenS XK0),oD 106 (.bin .add XNc XK8),oN (.store 16 τ2 XLu),oM 3 τ99] [(2,10),(4,10),(7,10)] [oM 4 XKw,oD 5 (.mv (.const (.int .i64 0)))]
def XOj:VC:=.regD [oD 155 (.loadN [(.int .i64),.bool,(.int .u64),(.int .u64),.bool,(.int .u64),(.int .u64),(.int .i64),(.int .i64),(.int .i64),.bool,(.int .u32),(.int .u32),.bool,.str,(.int .i64)] τ8),oD 156 (.fieldA 7 τ6),oD 157 (.load1 (.int .i64) τ156),oD 158 (.fieldA 7 τ6),oD 159 (.load1 (.int .i64) τ158),oD 160 (.bin .add τ159 (.const (.int .i64 8))),oN (.store 16 τ2 τ155),oM 3 τ157] [(2,6),(4,6)] [oM 4 τ160,oD 5 (.mv (.const (.int .i64 0)))]
def XGV:VC:=.seq (.reg [oD 2 (.alloc [(.int .i64 0),(.bool false),(.int .u64 0),(.int .u64 0),(.bool false),(.int .u64 0),(.int .u64 0),(.int .i64 0),(.int .i64 0),(.int .i64 0),(.bool false),(.int .u32 0),(.int .u32 0),(.bool false),(.string ⟨⟨[]⟩⟩),(.int .i64 0)]),oD 3 (.mv (.const (.int .i64 0))),oD 4 (.mv (.const (.int .i64 0))),oD 5 (.mv (.const (.int .i64 0)))]) (.seq (.seq (.reg [oM 18 τ0,oD 19 (.lenS XfR),oD 20 (.bin .gtr Xf7 (.const (.int .i64 9000)))]) (.cond Xgy (.seq (.reg [oD 21 (.build [(.int .i64 0),(.bool false),(.int .u64 0),(.int .u64 0),(.bool false),(.int .u64 0),(.int .u64 0),(.int .i64 0),(.int .i64 0),(.int .i64 0),(.bool false),(.int .u32 0),(.int .u32 0),(.bool false),(.string ⟨⟨[]⟩⟩),(.int .i64 0)] []),oN (.store 16 τ2 Xgx),oD 3 (.mv (.const (.int .i64 0))),oD 4 (.mv (.const (.int .i64 0))),oD 5 (.mv (.const (.int .i64 5)))]) .ret) .skip)) (.seq (.seq (.reg [oM 22 τ0,oD 23 (.bin .eql Xg2 (.const (.string ⟨⟨[]⟩⟩)))]) (.cond XgX (.seq (.reg [oD 24 (.build [(.int .i64 0),(.bool false),(.int .u64 0),(.int .u64 0),(.bool false),(.int .u64 0),(.int .u64 0),(.int .i64 0),(.int .i64 0),(.int .i64 0),(.bool false),(.int .u32 0),(.int .u32 0),(.bool false),(.string ⟨⟨[]⟩⟩),(.int .i64 0)] []),oN (.store 16 τ2 Xg1),oD 3 (.mv (.const (.int .i64 0))),oD 4 (.mv (.const (.int .i64 0))),oD 5 (.mv (.const (.int .i64 2)))]) .ret) .skip)) (.seq (.reg [oM 26 τ0,oD 27 (.callF 81 [XhB]),oM 25 XhO,oE 28 0 XhR,oE 29 1 XhR,oD 6 (.alloc [(.bool false),(.int .u64 0),(.int .u64 0),(.bool false),(.int .u64 0),(.int .u64 0),(.int .i64 0),(.int .i64 0),(.string ⟨⟨[]⟩⟩)]),oN (.store 9 τ6 Xh8),oM 7 XhP]) (.seq (.seq (.reg [oM 30 τ7,oD 31 (.bin .neq Xiu (.const (.int .i64 0)))]) (.cond Xio (.seq (.reg [oD 32 (.build [(.int .i64 0),(.bool false),(.int .u64 0),(.int .u64 0),(.bool false),(.int .u64 0),(.int .u64 0),(.int .i64 0),(.int .i64 0),(.int .i64 0),(.bool false),(.int .u32 0),(.int .u32 0),(.bool false),(.string ⟨⟨[]⟩⟩),(.int .i64 0)] []),oM 33 τ7,oN (.store 16 τ2 XiC),oD 3 (.mv (.const (.int .i64 0))),oD 4 (.mv (.const (.int .i64 0))),oM 5 XiO]) .ret) .skip)) (.seq (.seq (.reg [oD 34 (.fieldA 7 τ6),oD 35 (.load1 (.int .i64) XiM),oD 36 (.fieldA 8 τ6),oD 37 (.load1 .str Xje),oD 38 (.lenS XiK),oD 39 (.bin .add XiQ XjL),oM 40 τ0,oD 41 (.lenS Xkw),oD 42 (.bin .neq Xjk XjM)]) (.cond XjK (.seq (.reg [oD 43 (.build [(.int .i64 0),(.bool false),(.int .u64 0),(.int .u64 0),(.bool false),(.int .u64 0),(.int .u64 0),(.int .i64 0),(.int .i64 0),(.int .i64 0),(.bool false),(.int .u32 0),(.int .u32 0),(.bool false),(.string ⟨⟨[]⟩⟩),(.int .i64 0)] []),oN (.store 16 τ2 XjR),oD 3 (.mv (.const (.int .i64 0))),oD 4 (.mv (.const (.int .i64 0))),oD 5 (.mv (.const (.int .i64 5)))]) .ret) .skip)) (.seq (.reg [oM 44 τ0,oD 45 (.lenS XkB),oD 46 (.fieldA 6 τ6),oD 47 (.load1 (.int .i64) XkG),oD 48 (.fieldA 0 τ6),oD 49 (.loadN [.bool,(.int .u64),(.int .u64)] XkP),oD 50 (.fieldA 3 τ6),oD 51 (.loadN [.bool,(.int .u64),(.int .u64)] Xlc),oD 52 (.build [(.int .i64 0),(.bool false),(.int .u64 0),(.int .u64 0),(.bool false),(.int .u64 0),(.int .u64 0),(.int .i64 0),(.int .i64 0)] [(0,1,Xkq),(1,3,Xj2),(4,3,Xl4)]),oD 53 (.build [(.int .i64 0),(.bool false),(.int .u64 0),(.int .u64 0),(.bool false),(.int .u64 0),(.int .u64 0),(.int .i64 0),(.int .i64 0),(.int .i64 0),(.bool false),(.int .u32 0),(.int .u32 0),(.bool false),(.string ⟨⟨[]⟩⟩),(.int .i64 0)] [(15,1,Xkn),(0,9,Xl3)]),oD 8 (.alloc [(.int .i64 0),(.bool false),(.int .u64 0),(.int .u64 0),(.bool false),(.int .u64 0),(.int .u64 0),(.int .i64 0),(.int .i64 0),(.int .i64 0),(.bool false),(.int .u32 0),(.int .u32 0),(.bool false),(.string ⟨⟨[]⟩⟩),(.int .i64 0)]),oN (.store 16 τ8 Xmm)]) (.seq (.seq (.reg [oD 54 (.fieldA 6 τ6),oD 55 (.load1 (.int .i64) XnS),oD 56 (.bin .eql XnP (.const (.int .i64 6)))]) (.cond Xou (.seq (.reg [oD 58 (.fieldA 8 τ6),oD 59 (.load1 .str XoP),oD 60 (.fieldA 0 τ6),oD 61 (.loadN [.bool,(.int .u64),(.int .u64)] XqI),oD 62 (.fieldA 3 τ6),oD 63 (.loadN [.bool,(.int .u64),(.int .u64)] XqK),oD 64 (.callF 82 [XoH,Xqv,Xr0]),oM 57 XrX,oE 65 0 XnR,oE 66 1 XnR,oE 67 2 XnR,oD 9 (.alloc [(.int .i64 0),(.int .i64 0),(.int .u32 0),(.int .u32 0),(.int .i64 0),(.int .i64 0),(.int .i64 0),(.string ⟨⟨[]⟩⟩)]),oN (.store 8 τ9 XsR),oM 10 Xtk,oM 11 XsT]) (.seq (.seq (.reg [oM 68 XdK,oD 69 (.bin .neq XtN (.const (.int .i64 0)))]) (.cond XsZ (.seq (.reg [oD 70 (.build [(.int .i64 0),(.bool false),(.int .u64 0),(.int .u64 0),(.bool false),(.int .u64 0),(.int .u64 0),(.int .i64 0),(.int .i64 0),(.int .i64 0),(.bool false),(.int .u32 0),(.int .u32 0),(.bool false),(.string ⟨⟨[]⟩⟩),(.int .i64 0)] []),oM 71 XdK,oN (.store 16 τ2 Xu2),oD 3 (.mv (.const (.int .i64 0))),oD 4 (.mv (.const (.int .i64 0))),oM 5 Xvn]) .ret) .skip)) (.seq (.reg [oD 72 (.fieldA 0 τ9),oD 73 (.load1 (.int .i64) Xu3),oD 74 (.fieldA 0 τ8),oD 75 (.fieldA 7 Xvr),oN (.store 1 Xwl Xwj)]) (.seq (.reg [oD 76 (.fieldA 1 τ9),oD 77 (.load1 (.int .i64) XvZ),oD 78 (.fieldA 0 τ8),oD 79 (.fieldA 8 Xxd),oN (.store 1 XxU Xv4)]) (.seq (.reg [oD 80 (.fieldA 4 τ9),oD 81 (.load1 (.int .i64) XxX),oD 82 (.fieldA 9 τ8),oN (.store 1 XC0 XBy)]) (.seq (.reg [oD 84 (.fieldA 7 τ9),oD 85 (.load1 .str XBS),oD 86 (.callF 83 [XFU]),oM 83 XGc,oE 87 0 Xw9,oE 88 1 Xw9,oE 89 2 Xw9,oM 12 XF7,oM 13 XH6,oM 14 XFH]) (.seq (.seq (.reg [oM 90 Xe3,oD 91 (.bin .geq XGe (.const (.int .i64 0)))]) (.cond XFk (.seq (.reg [oD 92 (.fieldA 10 τ8),oN (.store 1 XFV (.const (.bool true)))]) (.seq (.reg [oM 93 XeA,oD 94 (.fieldA 11 τ8),oN (.store 1 XFP XFB)]) (.reg [oM 95 XeB,oD 96 (.fieldA 12 τ8),oN (.store 1 XBV XF1)]))) .skip)) (.seq XNF .ret)))))))) .skip)) (.seq (.seq (.reg [oD 107 (.fieldA 6 τ6),oD 108 (.load1 (.int .i64) XJh),oD 109 (.bin .neq XM9 (.const (.int .i64 17)))]) (.cond XO6 (.seq (.reg [oD 110 (.build [(.int .i64 0),(.bool false),(.int .u64 0),(.int .u64 0),(.bool false),(.int .u64 0),(.int .u64 0),(.int .i64 0),(.int .i64 0),(.int .i64 0),(.bool false),(.int .u32 0),(.int .u32 0),(.bool false),(.string ⟨⟨[]⟩⟩),(.int .i64 0)] []),oN (.store 16 τ2 XO1),oD 3 (.mv (.const (.int .i64 0))),oD 4 (.mv (.const (.int .i64 0))),oD 5 (.mv (.const (.int .i64 6)))]) .ret) .skip)) (.seq (.reg [oD 112 (.fieldA 8 τ6),oD 113 (.load1 .str XN4),oD 114 (.fieldA 0 τ6),oD 115 (.loadN [.bool,(.int .u64),(.int .u64)] τ114),oD 116 (.fieldA 3 τ6),oD 117 (.loadN [.bool,(.int .u64),(.int .u64)] XRJ),oD 118 (.callF 84 [XPx,XOH,XOT]),oM 111 XQh,oE 119 0 XDk,oE 120 1 XDk,oE 121 2 XDk,oD 15 (.alloc [(.int .i64 0),(.int .i64 0)]),oN (.store 2 Xfd XS7),oM 16 XL1,oM 7 XPX]) (.seq (.seq (.reg [oM 122 τ7,oD 123 (.bin .neq XQ2 (.const (.int .i64 0)))]) (.cond XNV (.seq (.reg [oD 124 (.build [(.int .i64 0),(.bool false),(.int .u64 0),(.int .u64 0),(.bool false),(.int .u64 0),(.int .u64 0),(.int .i64 0),(.int .i64 0),(.int .i64 0),(.bool false),(.int .u32 0),(.int .u32 0),(.bool false),(.string ⟨⟨[]⟩⟩),(.int .i64 0)] []),oM 125 τ7,oN (.store 16 τ2 XRQ),oD 3 (.mv (.const (.int .i64 0))),oD 4 (.mv (.const (.int .i64 0))),oM 5 XQF]) .ret) .skip)) (.seq (.seq (.reg [oM 126 Xfk,oD 127 (.lenS XQe),oD 128 (.bin .add XMR (.const (.int .i64 8))),oD 129 (.fieldA 8 τ6),oD 130 (.load1 .str XTh),oD 131 (.lenS XN5),oD 132 (.bin .neq XRk XS0)]) (.cond XS5 (.seq (.reg [oD 133 (.build [(.int .i64 0),(.bool false),(.int .u64 0),(.int .u64 0),(.bool false),(.int .u64 0),(.int .u64 0),(.int .i64 0),(.int .i64 0),(.int .i64 0),(.bool false),(.int .u32 0),(.int .u32 0),(.bool false),(.string ⟨⟨[]⟩⟩),(.int .i64 0)] []),oN (.store 16 τ2 XQI),oD 3 (.mv (.const (.int .i64 0))),oD 4 (.mv (.const (.int .i64 0))),oD 5 (.mv (.const (.int .i64 5)))]) .ret) .skip)) (.seq (.reg [oD 134 (.fieldA 0 Xfd),oD 135 (.load1 (.int .i64) XOf),oD 136 (.fieldA 0 τ8),oD 137 (.fieldA 7 XQV),oN (.store 1 XSu XQ8)]) (.seq (.reg [oD 138 (.fieldA 1 Xfd),oD 139 (.load1 (.int .i64) XSH),oD 140 (.fieldA 0 τ8),oD 141 (.fieldA 8 XPO),oN (.store 1 XPe XOY)]) (.seq (.reg [oM 143 Xfk,oD 144 (.callF 75 [XR5]),oM 142 XPq,oE 145 0 XJs,oE 146 1 XJs,oD 17 (.alloc [(.bool false),(.int .i64 0),(.int .u32 0),(.string ⟨⟨[]⟩⟩),(.string ⟨⟨[]⟩⟩),(.string ⟨⟨[]⟩⟩)]),oN (.store 6 Xfp XTk),oM 7 XOG]) (.seq (.seq (.reg [oM 147 τ7,oD 148 (.bin .eql XQD (.const (.int .i64 0)))]) (.cond XOv (.seq (.reg [oD 149 (.fieldA 0 Xfp),oD 150 (.load1 .bool XO9),oD 151 (.fieldA 13 τ8),oN (.store 1 XSG XPr)]) (.reg [oD 152 (.fieldA 3 Xfp),oD 153 (.load1 .str XR0),oD 154 (.fieldA 14 τ8),oN (.store 1 τ154 τ153)])) .skip)) (.seq XOj .ret))))))))))))))))
def fn49:VFn:=⟨161,XGV,[.cell 2 [(.int .i64),.bool,(.int .u64),(.int .u64),.bool,(.int .u64),(.int .u64),(.int .i64),(.int .i64),(.int .i64),.bool,(.int .u32),(.int .u32),.bool,.str,(.int .i64)] true,.tmp 3,.tmp 4,.tmp 5]⟩
def XFT:VC:=.seq (.reg [oD 2 (.alloc [(.bool false),(.int .u64 0),(.int .u64 0),(.bool false),(.int .u64 0),(.int .u64 0),(.int .i64 0),(.int .i64 0),(.string ⟨⟨[]⟩⟩)]),oD 3 (.mv (.const (.int .i64 0)))]) (.seq (.seq (.reg [oM 10 τ0,oD 11 (.idxS Xef (.const (.int .i64 0))),oD 12 (.bin .quo XdK (.const (.int .u8 16))),oD 13 (.bin .eql XeA (.const (.int .u8 4)))]) (.cond XeB (.seq (.reg [oM 15 τ0,oD 16 (.callF 110 [Xfd]),oM 14 Xfk,oE 17 0 Xe3,oE 18 1 Xe3,oE 19 2 Xe3,oD 4 (.alloc [(.int .i64 0),(.int .i64 0),(.bool false),(.int .i64 0),(.int .i64 0),(.bool false),(.int .u64 0),(.int .u64 0),(.bool false),(.int .u64 0),(.int .u64 0),(.string ⟨⟨[]⟩⟩)]),oN (.store 12 τ4 Xfp),oM 5 XfR,oM 6 Xf7]) (.seq (.reg [oD 20 (.fieldA 5 τ4),oD 21 (.loadN [.bool,(.int .u64),(.int .u64)] Xgy),oD 22 (.fieldA 8 τ4),oD 23 (.loadN [.bool,(.int .u64),(.int .u64)] Xg2),oD 24 (.fieldA 4 τ4),oD 25 (.load1 (.int .i64) Xg1),oD 26 (.fieldA 11 τ4),oD 27 (.load1 .str XhB),oD 28 (.lenS XhO),oD 29 (.bin .add (.const (.int .i64 20)) Xh8),oM 30 τ5,oD 31 (.build [(.bool false),(.int .u64 0),(.int .u64 0),(.bool false),(.int .u64 0),(.int .u64 0),(.int .i64 0),(.int .i64 0),(.string ⟨⟨[]⟩⟩)] [(0,3,Xgx),(3,3,XgX),(6,1,XhR),(7,1,XhP),(8,1,Xiu)]),oM 32 τ6,oN (.store 9 τ2 Xio),oM 3 XiC]) .ret)) .skip)) (.seq (.seq (.reg [oM 33 τ0,oD 34 (.idxS XiO (.const (.int .i64 0))),oD 35 (.bin .quo XiM (.const (.int .u8 16))),oD 36 (.bin .eql XiQ (.const (.int .u8 6)))]) (.cond Xje (.seq (.reg [oM 38 τ0,oD 39 (.callF 111 [XjL]),oM 37 Xjk,oE 40 0 XiK,oE 41 1 XiK,oE 42 2 XiK,oD 7 (.alloc [(.int .i64 0),(.int .i64 0),(.int .i64 0),(.int .i64 0),(.bool false),(.int .u64 0),(.int .u64 0),(.bool false),(.int .u64 0),(.int .u64 0)]),oN (.store 10 τ7 Xkw),oM 8 XjM,oM 9 XjK]) (.seq (.reg [oD 43 (.fieldA 4 τ7),oD 44 (.loadN [.bool,(.int .u64),(.int .u64)] XjR),oD 45 (.fieldA 7 τ7),oD 46 (.loadN [.bool,(.int .u64),(.int .u64)] Xkn),oD 47 (.fieldA 2 τ7),oD 48 (.load1 (.int .i64) Xkq),oM 49 τ8,oD 50 (.build [(.bool false),(.int .u64 0),(.int .u64 0),(.bool false),(.int .u64 0),(.int .u64 0),(.int .i64 0),(.int .i64 0),(.string ⟨⟨[]⟩⟩)] [(0,3,XkB),(3,3,XkG),(6,1,XkP),(7,1,(.const (.int .i64 40))),(8,1,Xj2)]),oM 51 τ9,oN (.store 9 τ2 Xlc),oM 3 Xl4]) .ret)) .skip)) (.seq (.reg [oD 52 (.build [(.bool false),(.int .u64 0),(.int .u64 0),(.bool false),(.int .u64 0),(.int .u64 0),(.int .i64 0),(.int .i64 0),(.string ⟨⟨[]⟩⟩)] []),oN (.store 9 τ2 Xl3),oD 3 (.mv (.const (.int .i64 3)))]) .ret)))
def fn81:VFn:=⟨53,XFT,[.cell 2 [.bool,(.int .u64),(.int .u64),.bool,(.int .u64),(.int .u64),(.int .i64),(.int .i64),.str] true,.tmp 3]⟩
def XQN:VC:=.regD [oM 15 τ0,oD 16 (.idxS Xfd (.const (.int .i64 0))),oD 17 (.bin .rem Xfk (.const (.int .u8 16))),oD 18 (.conv .i64 Xfp),oD 19 (.bin .mul (.const (.int .i64 4)) XfR),oM 20 τ0,oD 21 (.callF 62 [Xgy,(.const (.int .i64 2)),(.const (.int .i64 2))])] [] [oM 5 Xf7,oM 6 Xgx]
def XLw:VC:=.regD [oM 73 τ0,oD 74 (.idxS Xwj (.const (.int .i64 1))),oD 75 (.conv .i64 Xvr),oM 76 τ0,oD 77 (.callF 62 [XvZ,(.const (.int .i64 4)),(.const (.int .i64 2))]),oM 78 τ0,oD 79 (.idxS Xxd (.const (.int .i64 6))),oD 80 (.bin .eql XxU (.const (.int .u8 64))),oM 81 τ0,oD 82 (.idxS XBy (.const (.int .i64 8))),oD 83 (.conv .i64 XC0),oM 84 τ0,oD 85 (.idxS XBS (.const (.int .i64 9))),oD 86 (.conv .i64 XFU),oD 87 (.loadN [.bool,(.int .u64),(.int .u64)] τ7),oD 88 (.loadN [.bool,(.int .u64),(.int .u64)] τ9),oM 89 τ0,oM 90 τ5,oD 91 (.sliceS XFH (some (.const (.int .i64 20))) (some XGe)),oD 92 (.build [(.int .i64 0),(.int .i64 0),(.bool false),(.int .i64 0),(.int .i64 0),(.bool false),(.int .u64 0),(.int .u64 0),(.bool false),(.int .u64 0),(.int .u64 0),(.string ⟨⟨[]⟩⟩)] [(0,1,Xwl),(1,1,Xv4),(2,1,XxX),(3,1,Xw9),(4,1,XGc),(5,3,XF7),(8,3,XH6),(11,1,XFk)]),oM 93 τ0,oM 94 τ5,oM 95 τ6,oD 96 (.sliceS XFB (some XFP) (some XF1)),oN (.store 12 τ2 XFV)] [(4,14),(4,15)] [oM 3 XBV,oD 4 (.mv (.const (.int .i64 0)))]
def XBl:VC:=.seq (.reg [oD 2 (.alloc [(.int .i64 0),(.int .i64 0),(.bool false),(.int .i64 0),(.int .i64 0),(.bool false),(.int .u64 0),(.int .u64 0),(.bool false),(.int .u64 0),(.int .u64 0),(.string ⟨⟨[]⟩⟩)]),oD 3 (.mv (.const (.string ⟨⟨[]⟩⟩))),oD 4 (.mv (.const (.int .i64 0)))]) (.seq (.seq (.reg [oM 11 τ0,oD 12 (.lenS XdK),oD 13 (.bin .lss XeA (.const (.int .i64 20)))]) (.cond XeB (.seq (.reg [oD 14 (.build [(.int .i64 0),(.int .i64 0),(.bool false),(.int .i64 0),(.int .i64 0),(.bool false),(.int .u64 0),(.int .u64 0),(.bool false),(.int .u64 0),(.int .u64 0),(.string ⟨⟨[]⟩⟩)] []),oN (.store 12 τ2 Xe3),oD 3 (.mv (.const (.string ⟨⟨[]⟩⟩))),oD 4 (.mv (.const (.int .i64 2)))]) .ret) .skip)) (.seq XQN (.seq (.seq (.reg [oM 22 τ0,oD 23 (.idxS Xg2 (.const (.int .i64 0))),oD 24 (.bin .quo XgX (.const (.int .u8 16))),oD 25 (.bin .neq Xg1 (.const (.int .u8 4))),oM 26 XhR,oG 27 (.mv τ5) 26 false,oG 28 (.bin .lss XhO (.const (.int .i64 20))) 26 false,oD 29 (.pick XhB (.const (.bool true)) Xh8),oM 30 XhP,oG 31 (.mv τ6) 30 false,oG 32 (.mv τ5) 30 false,oG 33 (.bin .lss Xio XiC) 30 false,oD 34 (.pick Xiu (.const (.bool true)) XiO)]) (.cond XiM (.seq (.reg [oD 35 (.build [(.int .i64 0),(.int .i64 0),(.bool false),(.int .i64 0),(.int .i64 0),(.bool false),(.int .u64 0),(.int .u64 0),(.bool false),(.int .u64 0),(.int .u64 0),(.string ⟨⟨[]⟩⟩)] []),oN (.store 12 τ2 XiQ),oD 3 (.mv (.const (.string ⟨⟨[]⟩⟩))),oD 4 (.mv (.const (.int .i64 3)))]) .ret) .skip)) (.seq (.seq (.reg [oM 36 τ0,oD 37 (.lenS Xje),oM 38 τ6,oD 39 (.bin .lss XiK XjL)]) (.cond Xjk (.seq (.reg [oD 40 (.build [(.int .i64 0),(.int .i64 0),(.bool false),(.int .i64 0),(.int .i64 0),(.bool false),(.int .u64 0),(.int .u64 0),(.bool false),(.int .u64 0),(.int .u64 0),(.string ⟨⟨[]⟩⟩)] []),oN (.store 12 τ2 Xkw),oD 3 (.mv (.const (.string ⟨⟨[]⟩⟩))),oD 4 (.mv (.const (.int .i64 2)))]) .ret) .skip)) (.seq (.seq (.reg [oM 41 τ0,oM 42 τ5,oD 43 (.sliceS XjM none (some XjK)),oD 44 (.callF 60 [XjR]),oD 45 (.bin .neq XkB (.const (.int .i64 65535)))]) (.cond Xkn (.seq (.reg [oD 46 (.build [(.int .i64 0),(.int .i64 0),(.bool false),(.int .i64 0),(.int .i64 0),(.bool false),(.int .u64 0),(.int .u64 0),(.bool false),(.int .u64 0),(.int .u64 0),(.string ⟨⟨[]⟩⟩)] []),oN (.store 12 τ2 XkG),oD 3 (.mv (.const (.string ⟨⟨[]⟩⟩))),oD 4 (.mv (.const (.int .i64 4)))]) .ret) .skip)) (.seq (.seq (.reg [oM 47 τ0,oD 48 (.idxS Xkq (.const (.int .i64 6))),oD 49 (.bin .neq XkP (.const (.int .u8 0))),oM 50 Xj2,oG 51 (.mv τ0) 50 true,oG 52 (.idxS Xl4 (.const (.int .i64 6))) 50 true,oG 53 (.bin .neq Xl3 (.const (.int .u8 64))) 50 true,oD 54 (.pick Xlc Xmm (.const (.bool false))),oM 55 XnS,oG 56 (.mv τ0) 55 false,oG 57 (.idxS Xou (.const (.int .i64 7))) 55 false,oG 58 (.bin .neq XnR (.const (.int .u8 0))) 55 false,oD 59 (.pick XnP (.const (.bool true)) XoP)]) (.cond XoH (.seq (.reg [oD 60 (.build [(.int .i64 0),(.int .i64 0),(.bool false),(.int .i64 0),(.int .i64 0),(.bool false),(.int .u64 0),(.int .u64 0),(.bool false),(.int .u64 0),(.int .u64 0),(.string ⟨⟨[]⟩⟩)] []),oN (.store 12 τ2 XqI),oD 3 (.mv (.const (.string ⟨⟨[]⟩⟩))),oD 4 (.mv (.const (.int .i64 7)))]) .ret) .skip)) (.seq (.reg [oM 62 τ0,oD 63 (.sliceS XqK (some (.const (.int .i64 12))) (some (.const (.int .i64 16)))),oD 64 (.callF 127 [Xr0]),oM 61 XrX,oE 65 0 Xqv,oE 66 1 Xqv,oD 7 (.alloc [(.bool false),(.int .u64 0),(.int .u64 0)]),oN (.store 3 τ7 XsR),oM 8 Xtk]) (.seq (.reg [oM 68 τ0,oD 69 (.sliceS XtN (some (.const (.int .i64 16))) (some (.const (.int .i64 20)))),oD 70 (.callF 127 [XsZ]),oM 67 Xu2,oE 71 0 XsT,oE 72 1 XsT,oD 9 (.alloc [(.bool false),(.int .u64 0),(.int .u64 0)]),oN (.store 3 τ9 Xvn),oM 10 Xu3]) (.seq XLw .ret)))))))))
def XRt:VFn:=⟨97,XBl,[.cell 2 [(.int .i64),(.int .i64),.bool,(.int .i64),(.int .i64),.bool,(.int .u64),(.int .u64),.bool,(.int .u64),(.int .u64),.str] true,.tmp 3,.tmp 4]⟩
def XyH:VC:=.seq (.reg [oD 2 (.alloc [(.bool false),(.int .u64 0),(.int .u64 0)]),oD 3 (.mv (.const (.bool false)))]) (.seq (.seq (.reg [oM 10 τ0,oD 11 (.lenS Xef),oD 12 (.bin .eql XdK (.const (.int .i64 4)))]) (.cond XeA (.seq (.reg [oM 14 τ0,oD 15 (.callF 61 [Xe3,(.const (.int .i64 0)),(.const (.int .i64 4))]),oM 13 Xfd,oE 16 0 XeB,oE 17 1 XeB,oM 4 Xfk,oM 5 Xfp]) (.seq (.reg [oM 18 τ4,oD 19 (.build [(.bool false),(.int .u64 0),(.int .u64 0)] [(2,1,XfR)]),oN (.store 3 τ2 Xf7),oD 3 (.mv (.const (.bool true)))]) .ret)) .skip)) (.seq (.seq (.reg [oM 20 τ0,oD 21 (.lenS Xgy),oD 22 (.bin .eql Xgx (.const (.int .i64 16)))]) (.cond Xg2 (.seq (.reg [oM 24 τ0,oD 25 (.callF 61 [Xg1,(.const (.int .i64 0)),(.const (.int .i64 8))]),oM 23 XhR,oE 26 0 XgX,oE 27 1 XgX,oM 6 XhB,oM 7 XhO]) (.seq (.reg [oM 29 τ0,oD 30 (.callF 61 [XhP,(.const (.int .i64 8)),(.const (.int .i64 8))]),oM 28 Xiu,oE 31 0 Xh8,oE 32 1 Xh8,oM 8 Xio,oM 9 XiC]) (.seq (.reg [oM 33 τ6,oM 34 τ8,oD 35 (.build [(.bool false),(.int .u64 0),(.int .u64 0)] [(0,1,(.const (.bool true))),(1,1,XiO),(2,1,XiM)]),oN (.store 3 τ2 XiQ),oD 3 (.mv (.const (.bool true)))]) .ret))) .skip)) (.seq (.reg [oD 36 (.build [(.bool false),(.int .u64 0),(.int .u64 0)] []),oN (.store 3 τ2 Xje),oD 3 (.mv (.const (.bool false)))]) .ret)))
def XTD:VFn:=⟨37,XyH,[.cell 2 [.bool,(.int .u64),(.int .u64)] true,.tmp 3]⟩
def XLY:VC:=.regD [oM 41 τ5,oD 42 (.bin .quo XjM (.const (.int .i64 1048576))),oD 43 (.bin .rem XjK (.const (.int .i64 256))),oM 44 τ5,oD 45 (.bin .rem XkB (.const (.int .i64 1048576))),oM 46 τ0,oD 47 (.idxS XkG (.const (.int .i64 6))),oD 48 (.conv .i64 Xkq),oM 49 τ0,oD 50 (.idxS Xj2 (.const (.int .i64 7))),oD 51 (.conv .i64 Xlc),oD 52 (.loadN [.bool,(.int .u64),(.int .u64)] τ7),oD 53 (.loadN [.bool,(.int .u64),(.int .u64)] τ9),oD 54 (.build [(.int .i64 0),(.int .i64 0),(.int .i64 0),(.int .i64 0),(.bool false),(.int .u64 0),(.int .u64 0),(.bool false),(.int .u64 0),(.int .u64 0)] [(0,1,XjR),(1,1,Xkn),(2,1,XkP),(3,1,Xl4),(4,3,Xl3),(7,3,Xmm)]),oM 55 τ0,oM 56 τ6,oD 57 (.bin .add (.const (.int .i64 40)) Xou),oD 58 (.sliceS XnP (some (.const (.int .i64 40))) (some XnR)),oN (.store 10 τ2 XnS)] [] [oM 3 XoP,oD 4 (.mv (.const (.int .i64 0)))]
def XAt:VC:=.seq (.reg [oD 2 (.alloc [(.int .i64 0),(.int .i64 0),(.int .i64 0),(.int .i64 0),(.bool false),(.int .u64 0),(.int .u64 0),(.bool false),(.int .u64 0),(.int .u64 0)]),oD 3 (.mv (.const (.string ⟨⟨[]⟩⟩))),oD 4 (.mv (.const (.int .i64 0)))]) (.seq (.seq (.reg [oM 11 τ0,oD 12 (.lenS XdK),oD 13 (.bin .lss XeA (.const (.int .i64 40)))]) (.cond XeB (.seq (.reg [oD 14 (.build [(.int .i64 0),(.int .i64 0),(.int .i64 0),(.int .i64 0),(.bool false),(.int .u64 0),(.int .u64 0),(.bool false),(.int .u64 0),(.int .u64 0)] []),oN (.store 10 τ2 Xe3),oD 3 (.mv (.const (.string ⟨⟨[]⟩⟩))),oD 4 (.mv (.const (.int .i64 2)))]) .ret) .skip)) (.seq (.reg [oM 15 τ0,oD 16 (.callF 62 [Xfd,(.const (.int .i64 0)),(.const (.int .i64 4))]),oM 17 τ0,oD 18 (.callF 62 [Xfp,(.const (.int .i64 4)),(.const (.int .i64 2))]),oM 5 Xfk,oM 6 XfR]) (.seq (.seq (.reg [oM 19 τ5,oD 20 (.bin .quo Xf7 (.const (.int .i64 268435456))),oD 21 (.bin .neq Xgy (.const (.int .i64 6)))]) (.cond Xgx (.seq (.reg [oD 22 (.build [(.int .i64 0),(.int .i64 0),(.int .i64 0),(.int .i64 0),(.bool false),(.int .u64 0),(.int .u64 0),(.bool false),(.int .u64 0),(.int .u64 0)] []),oN (.store 10 τ2 Xg2),oD 3 (.mv (.const (.string ⟨⟨[]⟩⟩))),oD 4 (.mv (.const (.int .i64 3)))]) .ret) .skip)) (.seq (.seq (.reg [oM 23 τ0,oD 24 (.lenS XgX),oD 25 (.bin .sub Xg1 (.const (.int .i64 40))),oM 26 τ6,oD 27 (.bin .lss XhR XhB)]) (.cond XhO (.seq (.reg [oD 28 (.build [(.int .i64 0),(.int .i64 0),(.int .i64 0),(.int .i64 0),(.bool false),(.int .u64 0),(.int .u64 0),(.bool false),(.int .u64 0),(.int .u64 0)] []),oN (.store 10 τ2 Xh8),oD 3 (.mv (.const (.string ⟨⟨[]⟩⟩))),oD 4 (.mv (.const (.int .i64 2)))]) .ret) .skip)) (.seq (.reg [oM 30 τ0,oD 31 (.sliceS Xiu (some (.const (.int .i64 8))) (some (.const (.int .i64 24)))),oD 32 (.callF 127 [Xio]),oM 29 XiC,oE 33 0 XhP,oE 34 1 XhP,oD 7 (.alloc [(.bool false),(.int .u64 0),(.int .u64 0)]),oN (.store 3 τ7 XiO),oM 8 XiM]) (.seq (.reg [oM 36 τ0,oD 37 (.sliceS Xje (some (.const (.int .i64 24))) (some (.const (.int .i64 40)))),oD 38 (.callF 127 [XiK]),oM 35 XjL,oE 39 0 XiQ,oE 40 1 XiQ,oD 9 (.alloc [(.bool false),(.int .u64 0),(.int .u64 0)]),oN (.store 3 τ9 Xjk),oM 10 Xkw]) (.seq XLY .ret)))))))
def XOc:VFn:=⟨59,XAt,[.cell 2 [(.int .i64),(.int .i64),(.int .i64),(.int .i64),.bool,(.int .u64),(.int .u64),.bool,(.int .u64),(.int .u64)] true,.tmp 3,.tmp 4]⟩
def XQX:VC:=.regD [oM 61 τ0,oD 62 (.callF 62 [Xqv,(.const (.int .i64 0)),(.const (.int .i64 2))]),oM 63 τ0,oD 64 (.callF 62 [Xr0,(.const (.int .i64 2)),(.const (.int .i64 2))]),oM 65 τ0,oD 66 (.callF 62 [XsR,(.const (.int .i64 4)),(.const (.int .i64 4))]),oD 67 (.conv .u32 Xtk),oM 68 τ0,oD 69 (.callF 62 [XtN,(.const (.int .i64 8)),(.const (.int .i64 4))]),oD 70 (.conv .u32 XsZ),oM 71 τ0,oD 72 (.idxS Xvn (.const (.int .i64 13))),oD 73 (.conv .i64 Xu3),oM 74 τ0,oD 75 (.callF 62 [Xvr,(.const (.int .i64 14)),(.const (.int .i64 2))]),oM 76 τ0,oD 77 (.callF 62 [XvZ,(.const (.int .i64 18)),(.const (.int .i64 2))]),oM 78 τ0,oM 79 τ9,oD 80 (.sliceS Xxd (some (.const (.int .i64 20))) (some XxU)),oD 81 (.build [(.int .i64 0),(.int .i64 0),(.int .u32 0),(.int .u32 0),(.int .i64 0),(.int .i64 0),(.int .i64 0),(.string ⟨⟨[]⟩⟩)] [(0,1,XqK),(1,1,XrX),(2,1,XsT),(3,1,Xu2),(4,1,Xwj),(5,1,Xwl),(6,1,Xv4),(7,1,XxX)]),oM 82 τ0,oM 83 τ9,oD 84 (.sliceS XC0 (some Xw9) none),oN (.store 8 τ6 XBy)] [] [oM 7 XBS,oD 8 (.mv (.const (.int .i64 0)))]
def XGq:VC:=.seq (.reg [oD 4 (.box τ1),oD 5 (.box τ2),oD 6 (.alloc [(.int .i64 0),(.int .i64 0),(.int .u32 0),(.int .u32 0),(.int .i64 0),(.int .i64 0),(.int .i64 0),(.string ⟨⟨[]⟩⟩)]),oD 7 (.mv (.const (.string ⟨⟨[]⟩⟩))),oD 8 (.mv (.const (.int .i64 0)))]) (.seq (.seq (.reg [oM 13 τ0,oD 14 (.lenS XeB),oD 15 (.bin .lss Xe3 (.const (.int .i64 20)))]) (.cond Xfd (.seq (.reg [oD 16 (.build [(.int .i64 0),(.int .i64 0),(.int .u32 0),(.int .u32 0),(.int .i64 0),(.int .i64 0),(.int .i64 0),(.string ⟨⟨[]⟩⟩)] []),oN (.store 8 τ6 Xfk),oD 7 (.mv (.const (.string ⟨⟨[]⟩⟩))),oD 8 (.mv (.const (.int .i64 2)))]) .ret) .skip)) (.seq (.reg [oM 17 τ0,oD 18 (.idxS Xfp (.const (.int .i64 12))),oD 19 (.bin .quo XfR (.const (.int .u8 16))),oD 20 (.conv .i64 Xf7),oD 21 (.bin .mul (.const (.int .i64 4)) Xgy),oM 9 Xgx]) (.seq (.seq (.reg [oM 22 τ9,oD 23 (.bin .lss Xg2 (.const (.int .i64 20))),oM 24 XgX,oG 25 (.mv τ0) 24 false,oG 26 (.idxS XhR (.const (.int .i64 12))) 24 false,oG 27 (.bin .rem XhB (.const (.int .u8 16))) 24 false,oG 28 (.bin .neq XhO (.const (.int .u8 0))) 24 false,oD 29 (.pick Xg1 (.const (.bool true)) Xh8)]) (.cond XhP (.seq (.reg [oD 30 (.build [(.int .i64 0),(.int .i64 0),(.int .u32 0),(.int .u32 0),(.int .i64 0),(.int .i64 0),(.int .i64 0),(.string ⟨⟨[]⟩⟩)] []),oN (.store 8 τ6 Xiu),oD 7 (.mv (.const (.string ⟨⟨[]⟩⟩))),oD 8 (.mv (.const (.int .i64 3)))]) .ret) .skip)) (.seq (.seq (.reg [oM 31 τ0,oD 32 (.lenS Xio),oM 33 τ9,oD 34 (.bin .lss XiC XiO)]) (.cond XiM (.seq (.reg [oD 35 (.build [(.int .i64 0),(.int .i64 0),(.int .u32 0),(.int .u32 0),(.int .i64 0),(.int .i64 0),(.int .i64 0),(.string ⟨⟨[]⟩⟩)] []),oN (.store 8 τ6 XiQ),oD 7 (.mv (.const (.string ⟨⟨[]⟩⟩))),oD 8 (.mv (.const (.int .i64 2)))]) .ret) .skip)) (.seq (.reg [oD 36 (.loadN [.bool,(.int .u64),(.int .u64)] τ4),oD 37 (.loadN [.bool,(.int .u64),(.int .u64)] τ5),oM 38 τ0,oD 39 (.lenS XjL),oD 40 (.callF 77 [Xje,XiK,(.const (.int .i64 6)),Xjk]),oM 10 Xkw]) (.seq (.seq (.reg [oM 41 Xef,oD 42 (.bin .eql XjM (.const (.string ⟨⟨[]⟩⟩)))]) (.cond XjK (.seq (.reg [oD 43 (.build [(.int .i64 0),(.int .i64 0),(.int .u32 0),(.int .u32 0),(.int .i64 0),(.int .i64 0),(.int .i64 0),(.string ⟨⟨[]⟩⟩)] []),oN (.store 8 τ6 XjR),oD 7 (.mv (.const (.string ⟨⟨[]⟩⟩))),oD 8 (.mv (.const (.int .i64 1)))]) .ret) .skip)) (.seq (.seq (.reg [oM 44 Xef,oM 45 τ0,oD 46 (.bin .add XkB Xkn),oD 47 (.callF 60 [XkG]),oD 48 (.bin .neq Xkq (.const (.int .i64 65535)))]) (.cond XkP (.seq (.reg [oD 49 (.build [(.int .i64 0),(.int .i64 0),(.int .u32 0),(.int .u32 0),(.int .i64 0),(.int .i64 0),(.int .i64 0),(.string ⟨⟨[]⟩⟩)] []),oN (.store 8 τ6 Xj2),oD 7 (.mv (.const (.string ⟨⟨[]⟩⟩))),oD 8 (.mv (.const (.int .i64 4)))]) .ret) .skip)) (.seq (.reg [oM 51 τ0,oM 52 τ9,oD 53 (.sliceS Xl4 (some (.const (.int .i64 20))) (some Xl3)),oD 54 (.callF 112 [Xmm]),oM 50 XnS,oE 55 0 Xlc,oE 56 1 Xlc,oM 11 XnP,oM 12 Xou]) (.seq (.seq (.reg [oM 57 XeA,oD 58 (.bin .neq XnR (.const (.int .i64 0)))]) (.cond XoP (.seq (.reg [oD 59 (.build [(.int .i64 0),(.int .i64 0),(.int .u32 0),(.int .u32 0),(.int .i64 0),(.int .i64 0),(.int .i64 0),(.string ⟨⟨[]⟩⟩)] []),oM 60 XeA,oN (.store 8 τ6 XoH),oD 7 (.mv (.const (.string ⟨⟨[]⟩⟩))),oM 8 XqI]) .ret) .skip)) (.seq XQX .ret))))))))))
def fn82:VFn:=⟨85,XGq,[.cell 6 [(.int .i64),(.int .i64),(.int .u32),(.int .u32),(.int .i64),(.int .i64),(.int .i64),.str] true,.tmp 7,.tmp 8]⟩
def k77_7:VC:=.regD [oD 26 (.loadN [.bool,(.int .u64),(.int .u64)] τ4),oD 27 (.callF 104 [XhB]),oD 28 (.loadN [.bool,(.int .u64),(.int .u64)] τ5),oD 29 (.callF 104 [Xh8]),oD 30 (.bin .add XhO XhP),oM 31 τ3,oD 32 (.callF 105 [Xio,(.const (.int .i64 4))]),oD 33 (.bin .add Xiu XiC),oD 34 (.callF 105 [(.const (.int .i64 0)),(.const (.int .i64 3))]),oD 35 (.bin .add XiO XiM),oM 36 τ2,oD 37 (.callF 105 [Xje,(.const (.int .i64 1))])] [(1,2)] [oD 38 (.bin .add XiQ XiK),oM 8 XjL]
def XSD:VC:=.regD [oD 39 (.loadN [.bool,(.int .u64),(.int .u64)] τ4),oD 40 (.callF 104 [Xjk]),oD 41 (.loadN [.bool,(.int .u64),(.int .u64)] τ5),oD 42 (.callF 104 [XjM]),oD 43 (.bin .add Xkw XjK),oD 44 (.callF 105 [(.const (.int .i64 0)),(.const (.int .i64 1))]),oD 45 (.bin .add XjR XkB),oM 46 τ2,oD 47 (.callF 105 [XkG,(.const (.int .i64 1))]),oD 48 (.bin .add Xkn Xkq),oM 49 τ3,oD 50 (.callF 105 [Xj2,(.const (.int .i64 2))])] [(1,2)] [oD 51 (.bin .add XkP Xlc),oM 8 Xl4]
def XHx:VC:=.seq (.reg [oD 4 (.box τ0),oD 5 (.box τ1),oD 8 (.mv (.const (.string ⟨⟨[]⟩⟩)))]) (.seq (.seq (.reg [oD 9 (.loadN [.bool,(.int .u64),(.int .u64)] τ4),oD 10 (.callF 42 [τ9]),oD 11 (.not Xef),oM 12 XdK,oG 13 (.loadN [.bool,(.int .u64),(.int .u64)] τ5) 12 false,oG 14 (.callF 42 [XeB]) 12 false,oG 15 (.not Xe3) 12 false,oD 16 (.pick XeA (.const (.bool true)) Xfd),oM 17 Xfk,oG 18 (.fieldA 0 τ4) 17 false,oG 19 (.load1 .bool XfR) 17 false,oG 20 (.fieldA 0 τ5) 17 false,oG 21 (.load1 .bool Xgy) 17 false,oG 22 (.eqB true Xf7 Xgx) 17 false,oD 23 (.pick Xfp (.const (.bool true)) Xg2)]) (.cond XgX (.seq (.reg [oD 8 (.mv (.const (.string ⟨⟨[]⟩⟩)))]) .ret) .skip)) (.seq (.seq (.reg [oD 24 (.fieldA 0 τ4),oD 25 (.load1 .bool Xg1)]) (.cond XhR (.seq k77_7 .ret) .skip)) (.seq XSD .ret)))
def fn77:VFn:=⟨52,XHx,[.tmp 8]⟩
def XRe:VC:=.seq (.reg [oD 1 (.box τ0),oD 2 (.mv (.const (.bool false)))]) (.seq (.reg [oD 3 (.fieldA 0 τ1),oD 4 (.load1 .bool τ3),oM 5 τ4,oG 6 (.fieldA 1 τ1) 5 false,oG 7 (.load1 (.int .u64) τ6) 5 false,oG 8 (.bin .eql τ7 (.const (.int .u64 0))) 5 false,oG 9 (.mv τ8) 5 false,oG 10 (.fieldA 2 τ1) 9 true,oG 11 (.load1 (.int .u64) Xef) 9 true,oG 12 (.bin .lss XdK (.const (.int .u64 4294967296))) 9 true,oG 13 (.pick τ9 XeA (.const (.bool false))) 5 false,oD 14 (.pick τ5 (.const (.bool true)) XeB),oM 2 Xe3]) .ret)
def fn42:VFn:=⟨15,XRe,[.tmp 2]⟩
def XOz:VC:=.regD [oD 8 (.fieldA 1 τ1),oD 9 (.load1 (.int .u64) τ8),oD 10 (.callF 46 [τ9,(.const (.int .i64 8))]),oD 11 (.fieldA 2 τ1),oD 12 (.load1 (.int .u64) XdK)] [(2,4)] [oD 13 (.callF 46 [XeA,(.const (.int .i64 8))]),oD 14 (.bin .add Xef XeB),oM 2 Xe3]
def XAY:VC:=.seq (.reg [oD 1 (.box τ0),oD 2 (.mv (.const (.string ⟨⟨[]⟩⟩)))]) (.seq (.seq (.reg [oD 3 (.loadN [.bool,(.int .u64),(.int .u64)] τ1),oD 4 (.callF 42 [τ3]),oD 5 (.not τ4)]) (.cond τ5 (.seq (.reg [oD 2 (.mv (.const (.string ⟨⟨[]⟩⟩)))]) .ret) .skip)) (.seq (.seq (.reg [oD 6 (.fieldA 0 τ1),oD 7 (.load1 .bool τ6)]) (.cond τ7 (.seq XOz .ret) .skip)) (.seq (.reg [oD 15 (.fieldA 2 τ1),oD 16 (.load1 (.int .u64) Xfd),oD 17 (.callF 46 [Xfk,(.const (.int .i64 4))]),oM 2 Xfp]) .ret)))
def XRZ:VFn:=⟨18,XAY,[.tmp 2]⟩
def XyR:VC:=.seq (.seq (.reg [oM 7 τ6,oM 8 τ1,oD 9 (.bin .lss τ7 τ8),oM 10 τ9,oG 11 (.mv τ1) 10 true,oG 12 (.bin .leq XdK (.const (.int .i64 8))) 10 true,oD 13 (.pick Xef XeA (.const (.bool false)))]) (.cond XeB .skip (.exit 0))) (.seq (.block 1 (.seq (.reg [oM 16 τ0,oD 17 (.bin .rem Xfk (.const (.int .u64 256))),oD 18 (.conv .u8 Xfp),oD 19 (.buildSl 1 1 [(.int .u8 0)] [(0,1,XfR)]),oD 20 (.b2s Xf7),oM 21 τ5,oD 22 (.bin .add Xgy Xgx),oM 5 Xg2]) (.reg [oM 23 τ0,oD 24 (.bin .quo XgX (.const (.int .u64 256))),oM 0 Xg1]))) (.reg [oM 14 τ6,oD 15 (.bin .add Xe3 (.const (.int .i64 1))),oM 6 Xfd]))
def XFA:VC:=.seq (.reg [oM 25 τ5,oM 4 XhR]) .ret
def XGZ:VC:=.seq (.reg [oD 4 (.mv (.const (.string ⟨⟨[]⟩⟩)))]) (.seq (.reg [oD 5 (.mv (.const (.string ⟨⟨[]⟩⟩)))]) (.seq (.seq (.reg [oD 6 (.mv (.const (.int .i64 0)))]) (.block 0 (.loop XyR))) XFA))
def fn46:VFn:=⟨26,XGZ,[.tmp 4]⟩
def XHr:VC:=.seq (.reg [oD 4 (.mv (.const (.string ⟨⟨[]⟩⟩)))]) (.seq (.reg [oM 5 τ0,oD 6 (.conv .u64 τ5),oM 7 τ1,oD 8 (.callF 46 [τ6,τ7]),oM 4 τ8]) .ret)
def XTx:VFn:=⟨9,XHr,[.tmp 4]⟩
def XIi:VC:=.regD [oM 52 τ4,oM 53 τ0,oM 54 τ5,oD 55 (.idxS Xmm XnS),oD 56 (.conv .i64 XnP),oM 57 τ0,oM 58 τ5,oD 59 (.bin .add XoP (.const (.int .i64 2))),oM 60 τ5,oM 61 τ6,oD 62 (.bin .add XqI Xqv),oD 63 (.sliceS XnR (some XoH) (some XqK)),oM 64 τ5,oD 65 (.bin .add XrX (.const (.int .i64 2))),oD 66 (.build [(.int .i64 0),(.string ⟨⟨[]⟩⟩),(.int .i64 0)] [(0,1,Xou),(1,1,Xr0),(2,1,XsR)]),oD 67 (.buildSl 1 3 [(.int .i64 0),(.string ⟨⟨[]⟩⟩),(.int .i64 0)] [(0,3,Xtk)])] [] [oD 68 (.app 168 3 32 Xl3 XsT),oM 4 XtN]
def XuQ:VC:=.seq (.seq (.reg [oM 7 τ5,oM 8 τ0,oD 9 (.lenS τ8),oD 10 (.bin .lss τ7 τ9),oM 11 Xef,oG 12 (.mv τ0) 11 true,oG 13 (.mv τ5) 11 true,oG 14 (.idxS XeA XeB) 11 true,oG 15 (.bin .neq Xe3 (.const (.int .u8 0))) 11 true,oD 16 (.pick XdK Xfd (.const (.bool false)))]) (.cond Xfk .skip (.exit 0))) (.block 1 (.seq (.seq (.reg [oM 17 τ0,oM 18 τ5,oD 19 (.idxS Xfp XfR),oD 20 (.bin .eql Xf7 (.const (.int .u8 1)))]) (.cond Xgy (.seq (.reg [oM 21 τ5,oD 22 (.bin .add Xgx (.const (.int .i64 1))),oM 5 Xg2]) (.exit 1)) .skip)) (.seq (.seq (.reg [oM 23 τ5,oD 24 (.bin .add XgX (.const (.int .i64 1))),oM 25 τ0,oD 26 (.lenS XhR),oD 27 (.bin .geq Xg1 XhB),oM 28 XhO,oG 29 (.mv τ0) 28 false,oG 30 (.mv τ5) 28 false,oG 31 (.bin .add Xiu (.const (.int .i64 1))) 28 false,oG 32 (.idxS XhP Xio) 28 false,oG 33 (.bin .lss XiC (.const (.int .u8 2))) 28 false,oD 34 (.pick Xh8 (.const (.bool true)) XiO),oM 35 XiM,oG 36 (.mv τ0) 35 false,oG 37 (.mv τ5) 35 false,oG 38 (.bin .add XiK (.const (.int .i64 1))) 35 false,oG 39 (.idxS Xje XjL) 35 false,oG 40 (.conv .i64 Xjk) 35 false,oG 41 (.mv τ0) 35 false,oG 42 (.lenS XjM) 35 false,oG 43 (.mv τ5) 35 false,oG 44 (.bin .sub XjK XjR) 35 false,oG 45 (.bin .gtr Xkw XkB) 35 false,oD 46 (.pick XiQ (.const (.bool true)) Xkn)]) (.cond XkG (.seq (.reg [oD 2 (.mv (.const (.slice none 0 0))),oD 3 (.mv (.const (.int .i64 3)))]) .ret) .skip)) (.seq (.reg [oM 47 τ0,oM 48 τ5,oD 49 (.bin .add XkP (.const (.int .i64 1))),oD 50 (.idxS Xkq Xj2),oD 51 (.conv .i64 Xlc),oM 6 Xl4]) (.seq XIi (.reg [oM 69 τ5,oM 70 τ6,oD 71 (.bin .add XsZ Xu2),oM 5 Xvn]))))))
def XyS:VC:=.seq (.reg [oM 72 τ4,oM 2 Xu3,oD 3 (.mv (.const (.int .i64 0)))]) .ret
def XyX:VC:=.seq (.reg [oD 2 (.mv (.const (.slice none 0 0))),oD 3 (.mv (.const (.int .i64 0)))]) (.seq (.reg [oD 4 (.mv (.const (.slice none 0 0)))]) (.seq (.seq (.reg [oD 5 (.mv (.const (.int .i64 0)))]) (.block 0 (.loop XuQ))) XyS))
def XQ5:VFn:=⟨73,XyX,[.tmp 2,.tmp 3]⟩
def XQC:VC:=.regD [oM 32 τ5,oM 33 τ7,oD 34 (.idxAL 3 XiC XiO),oD 35 (.fieldA 1 XiM),oD 36 (.load1 .str XiQ),oD 37 (.callF 62 [Xje,(.const (.int .i64 0)),(.const (.int .i64 4))]),oD 38 (.conv .u32 XiK),oM 39 τ5,oM 40 τ7,oD 41 (.idxAL 3 Xjk Xkw),oD 42 (.fieldA 1 XjM),oD 43 (.load1 .str XjK),oD 44 (.callF 62 [XjR,(.const (.int .i64 4)),(.const (.int .i64 4))]),oD 45 (.conv .u32 XkB),oM 46 τ5,oM 47 τ7,oD 48 (.idxAL 3 XkG Xkq),oD 49 (.fieldA 2 XkP),oD 50 (.load1 (.int .i64) Xj2),oM 2 XjL,oM 3 Xkn] [(5,11),(5,18),(12,18)] [oM 4 Xlc]
def XAG:VC:=.seq (.seq (.reg [oM 13 τ7,oM 14 τ5,oD 15 (.lenL Xe3),oD 16 (.bin .lss XeB Xfd)]) (.cond Xfk .skip (.exit 0))) (.seq (.block 1 (.seq (.reg [oM 19 τ5,oM 20 τ7,oD 21 (.idxAL 3 Xf7 Xgy),oD 22 (.fieldA 0 Xgx),oD 23 (.load1 (.int .i64) Xg2),oD 24 (.bin .eql XgX (.const (.int .i64 8)))]) (.cond Xg1 (.seq (.seq (.reg [oM 25 τ5,oM 26 τ7,oD 27 (.idxAL 3 XhR XhB),oD 28 (.fieldA 1 XhO),oD 29 (.load1 .str Xh8),oD 30 (.lenS XhP),oD 31 (.bin .neq Xiu (.const (.int .i64 8)))]) (.cond Xio (.seq (.reg [oD 2 (.mv (.const (.int .u32 0))),oD 3 (.mv (.const (.int .u32 0))),oD 4 (.mv (.const (.int .i64 (-1))))]) .ret) .skip)) (.seq XQC .ret)) .skip))) (.reg [oM 17 τ7,oD 18 (.bin .add Xfp (.const (.int .i64 1))),oM 7 XfR]))
def XFX:VC:=.seq (.reg [oD 2 (.mv (.const (.int .u32 0))),oD 3 (.mv (.const (.int .u32 0))),oD 4 (.mv (.const (.int .i64 (-1))))]) .ret
def XGm:VC:=.seq (.reg [oD 2 (.mv (.const (.int .u32 0))),oD 3 (.mv (.const (.int .u32 0))),oD 4 (.mv (.const (.int .i64 0)))]) (.seq (.reg [oM 9 τ0,oD 10 (.callF 112 [τ9]),oM 8 Xef,oE 11 0 τ8,oE 12 1 τ8,oM 5 XdK,oM 6 XeA]) (.seq (.seq (.reg [oD 7 (.mv (.const (.int .i64 0)))]) (.block 0 (.loop XAG))) XFX))
def fn83:VFn:=⟨51,XGm,[.tmp 2,.tmp 3,.tmp 4]⟩
def XQM:VC:=.regD [oM 46 τ0,oD 47 (.callF 62 [XkG,(.const (.int .i64 0)),(.const (.int .i64 2))]),oM 48 τ0,oD 49 (.callF 62 [XkP,(.const (.int .i64 2)),(.const (.int .i64 2))]),oD 50 (.build [(.int .i64 0),(.int .i64 0)] [(0,1,Xkq),(1,1,Xj2)]),oM 51 τ0,oM 52 τ9,oD 53 (.sliceS Xl4 (some (.const (.int .i64 8))) (some Xl3)),oN (.store 2 τ6 Xlc)] [] [oM 7 Xmm,oD 8 (.mv (.const (.int .i64 0)))]
def XHN:VC:=.seq (.reg [oD 4 (.box τ1),oD 5 (.box τ2),oD 6 (.alloc [(.int .i64 0),(.int .i64 0)]),oD 7 (.mv (.const (.string ⟨⟨[]⟩⟩))),oD 8 (.mv (.const (.int .i64 0)))]) (.seq (.seq (.reg [oM 11 τ0,oD 12 (.lenS XdK),oD 13 (.bin .lss XeA (.const (.int .i64 8)))]) (.cond XeB (.seq (.reg [oD 14 (.build [(.int .i64 0),(.int .i64 0)] []),oN (.store 2 τ6 Xe3),oD 7 (.mv (.const (.string ⟨⟨[]⟩⟩))),oD 8 (.mv (.const (.int .i64 2)))]) .ret) .skip)) (.seq (.reg [oM 15 τ0,oD 16 (.callF 62 [Xfd,(.const (.int .i64 4)),(.const (.int .i64 2))]),oM 9 Xfk]) (.seq (.seq (.reg [oM 17 τ9,oD 18 (.bin .lss Xfp (.const (.int .i64 8)))]) (.cond XfR (.seq (.reg [oD 19 (.build [(.int .i64 0),(.int .i64 0)] []),oN (.store 2 τ6 Xf7),oD 7 (.mv (.const (.string ⟨⟨[]⟩⟩))),oD 8 (.mv (.const (.int .i64 3)))]) .ret) .skip)) (.seq (.seq (.reg [oM 20 τ0,oD 21 (.lenS Xgy),oM 22 τ9,oD 23 (.bin .lss Xgx Xg2)]) (.cond XgX (.seq (.reg [oD 24 (.build [(.int .i64 0),(.int .i64 0)] []),oN (.store 2 τ6 Xg1),oD 7 (.mv (.const (.string ⟨⟨[]⟩⟩))),oD 8 (.mv (.const (.int .i64 2)))]) .ret) .skip)) (.seq (.reg [oD 25 (.loadN [.bool,(.int .u64),(.int .u64)] τ4),oD 26 (.loadN [.bool,(.int .u64),(.int .u64)] τ5),oM 27 τ9,oD 28 (.callF 77 [XhR,XhB,(.const (.int .i64 17)),XhO]),oM 10 Xh8]) (.seq (.seq (.reg [oM 29 Xef,oD 30 (.bin .eql XhP (.const (.string ⟨⟨[]⟩⟩)))]) (.cond Xiu (.seq (.reg [oD 31 (.build [(.int .i64 0),(.int .i64 0)] []),oN (.store 2 τ6 Xio),oD 7 (.mv (.const (.string ⟨⟨[]⟩⟩))),oD 8 (.mv (.const (.int .i64 1)))]) .ret) .skip)) (.seq (.seq (.reg [oM 32 τ0,oD 33 (.callF 62 [XiC,(.const (.int .i64 6)),(.const (.int .i64 2))]),oD 34 (.bin .eql XiO (.const (.int .i64 0)))]) (.cond XiM (.seq (.reg [oD 35 (.fieldA 0 τ4),oD 36 (.load1 .bool XiQ)]) (.cond Xje (.seq (.reg [oD 37 (.build [(.int .i64 0),(.int .i64 0)] []),oN (.store 2 τ6 XiK),oD 7 (.mv (.const (.string ⟨⟨[]⟩⟩))),oD 8 (.mv (.const (.int .i64 4)))]) .ret) .skip)) (.seq (.reg [oM 38 Xef,oM 39 τ0,oM 40 τ9,oD 41 (.sliceS Xjk none (some Xkw)),oD 42 (.bin .add XjL XjM),oD 43 (.callF 60 [XjK]),oD 44 (.bin .neq XjR (.const (.int .i64 65535)))]) (.cond XkB (.seq (.reg [oD 45 (.build [(.int .i64 0),(.int .i64 0)] []),oN (.store 2 τ6 Xkn),oD 7 (.mv (.const (.string ⟨⟨[]⟩⟩))),oD 8 (.mv (.const (.int .i64 4)))]) .ret) .skip)))) (.seq XQM .ret))))))))
def fn84:VFn:=⟨54,XHN,[.cell 6 [(.int .i64),(.int .i64)] true,.tmp 7,.tmp 8]⟩
def XPs:VC:=.regD [oM 19 τ0,oD 20 (.idxS Xf7 (.const (.int .i64 0))),oD 21 (.bin .geq Xgy (.const (.int .u8 128))),oM 22 τ0,oD 23 (.idxS Xg2 (.const (.int .i64 0))),oD 24 (.bin .rem XgX (.const (.int .u8 64))),oD 25 (.conv .i64 Xg1),oD 26 (.build [(.bool false),(.int .i64 0),(.int .u32 0),(.string ⟨⟨[]⟩⟩),(.string ⟨⟨[]⟩⟩),(.string ⟨⟨[]⟩⟩)] [(0,1,Xgx),(1,1,XhR)]),oD 4 (.alloc [(.bool false),(.int .i64 0),(.int .u32 0),(.string ⟨⟨[]⟩⟩),(.string ⟨⟨[]⟩⟩),(.string ⟨⟨[]⟩⟩)])] [] [oN (.store 6 τ4 XhB)]
def XFz:VC:=.seq (.reg [oD 2 (.alloc [(.bool false),(.int .i64 0),(.int .u32 0),(.string ⟨⟨[]⟩⟩),(.string ⟨⟨[]⟩⟩),(.string ⟨⟨[]⟩⟩)]),oD 3 (.mv (.const (.int .i64 0)))]) (.seq (.seq (.reg [oM 10 τ0,oD 11 (.bin .eql Xef (.const (.string ⟨⟨[]⟩⟩)))]) (.cond XdK (.seq (.reg [oD 12 (.build [(.bool false),(.int .i64 0),(.int .u32 0),(.string ⟨⟨[]⟩⟩),(.string ⟨⟨[]⟩⟩),(.string ⟨⟨[]⟩⟩)] []),oN (.store 6 τ2 XeA),oD 3 (.mv (.const (.int .i64 2)))]) .ret) .skip)) (.seq (.seq (.reg [oM 13 τ0,oD 14 (.idxS XeB (.const (.int .i64 0))),oD 15 (.bin .quo Xe3 (.const (.int .u8 64))),oD 16 (.bin .rem Xfd (.const (.int .u8 2))),oD 17 (.bin .eql Xfk (.const (.int .u8 0)))]) (.cond Xfp (.seq (.reg [oD 18 (.build [(.bool false),(.int .i64 0),(.int .u32 0),(.string ⟨⟨[]⟩⟩),(.string ⟨⟨[]⟩⟩),(.string ⟨⟨[]⟩⟩)] []),oN (.store 6 τ2 XfR),oD 3 (.mv (.const (.int .i64 3)))]) .ret) .skip)) (.seq XPs (.seq (.seq (.reg [oD 27 (.fieldA 0 τ4),oD 28 (.load1 .bool XhO),oD 29 (.not Xh8)]) (.cond XhP (.seq (.seq (.reg [oM 30 τ0,oD 31 (.lenS Xiu),oD 32 (.bin .lss Xio (.const (.int .i64 9)))]) (.cond XiC (.seq (.reg [oD 33 (.build [(.bool false),(.int .i64 0),(.int .u32 0),(.string ⟨⟨[]⟩⟩),(.string ⟨⟨[]⟩⟩),(.string ⟨⟨[]⟩⟩)] []),oN (.store 6 τ2 XiO),oD 3 (.mv (.const (.int .i64 2)))]) .ret) .skip)) (.seq (.reg [oM 34 τ0,oD 35 (.sliceS XiM (some (.const (.int .i64 1))) (some (.const (.int .i64 9)))),oD 36 (.fieldA 3 τ4),oN (.store 1 Xje XiQ)]) (.seq (.reg [oM 37 τ0,oD 38 (.sliceS XiK (some (.const (.int .i64 9))) none),oD 39 (.fieldA 5 τ4),oN (.store 1 Xjk XjL)]) (.seq (.reg [oD 40 (.loadN [.bool,(.int .i64),(.int .u32),.str,.str,.str] τ4),oN (.store 6 τ2 Xkw),oD 3 (.mv (.const (.int .i64 0)))]) .ret)))) .skip)) (.seq (.seq (.reg [oM 41 τ0,oD 42 (.lenS XjM),oD 43 (.bin .lss XjK (.const (.int .i64 5)))]) (.cond XjR (.seq (.reg [oD 44 (.build [(.bool false),(.int .i64 0),(.int .u32 0),(.string ⟨⟨[]⟩⟩),(.string ⟨⟨[]⟩⟩),(.string ⟨⟨[]⟩⟩)] []),oN (.store 6 τ2 XkB),oD 3 (.mv (.const (.int .i64 2)))]) .ret) .skip)) (.seq (.reg [oM 45 τ0,oD 46 (.callF 62 [Xkn,(.const (.int .i64 1)),(.const (.int .i64 4))]),oD 47 (.conv .u32 XkG),oD 48 (.fieldA 2 τ4),oN (.store 1 XkP Xkq)]) (.seq (.reg [oM 50 τ0,oD 51 (.callF 101 [Xlc,(.const (.int .i64 5))]),oM 49 Xl4,oE 52 0 Xj2,oE 53 1 Xj2,oE 54 2 Xj2,oM 5 Xl3,oM 6 Xmm,oM 7 XnS]) (.seq (.seq (.reg [oM 55 τ6,oD 56 (.bin .neq XnP (.const (.int .i64 0)))]) (.cond Xou (.seq (.reg [oD 57 (.build [(.bool false),(.int .i64 0),(.int .u32 0),(.string ⟨⟨[]⟩⟩),(.string ⟨⟨[]⟩⟩),(.string ⟨⟨[]⟩⟩)] []),oM 58 τ6,oN (.store 6 τ2 XnR),oM 3 XoP]) .ret) .skip)) (.seq (.reg [oM 60 τ0,oM 61 τ7,oD 62 (.callF 101 [XqI,Xqv]),oM 59 XqK,oE 63 0 XoH,oE 64 1 XoH,oE 65 2 XoH,oM 8 Xr0,oM 6 XrX,oM 9 XsR]) (.seq (.seq (.reg [oM 66 τ6,oD 67 (.bin .neq Xtk (.const (.int .i64 0)))]) (.cond XsT (.seq (.reg [oD 68 (.build [(.bool false),(.int .i64 0),(.int .u32 0),(.string ⟨⟨[]⟩⟩),(.string ⟨⟨[]⟩⟩),(.string ⟨⟨[]⟩⟩)] []),oM 69 τ6,oN (.store 6 τ2 XtN),oM 3 XsZ]) .ret) .skip)) (.seq (.reg [oM 70 τ5,oD 71 (.fieldA 3 τ4),oN (.store 1 Xvn Xu2)]) (.seq (.reg [oM 72 τ8,oD 73 (.fieldA 4 τ4),oN (.store 1 Xwj Xu3)]) (.seq (.reg [oM 74 τ0,oM 75 τ9,oD 76 (.sliceS Xvr (some Xwl) none),oD 77 (.fieldA 5 τ4),oN (.store 1 Xv4 XvZ)]) (.seq (.reg [oD 78 (.loadN [.bool,(.int .i64),(.int .u32),.str,.str,.str] τ4),oN (.store 6 τ2 Xxd),oD 3 (.mv (.const (.int .i64 0)))]) .ret))))))))))))))
def fn75:VFn:=⟨79,XFz,[.cell 2 [.bool,(.int .i64),(.int .u32),.str,.str,.str] true,.tmp 3]⟩
def Xzq:VC:=.seq (.reg [oD 4 (.mv (.const (.string ⟨⟨[]⟩⟩))),oD 5 (.mv (.const (.int .i64 0))),oD 6 (.mv (.const (.int .i64 0)))]) (.seq (.seq (.reg [oM 8 τ1,oM 9 τ0,oD 10 (.lenS τ9),oD 11 (.bin .geq τ8 Xef)]) (.cond XdK (.seq (.reg [oD 4 (.mv (.const (.string ⟨⟨[]⟩⟩))),oD 5 (.mv (.const (.int .i64 2))),oD 6 (.mv (.const (.int .i64 0)))]) .ret) .skip)) (.seq (.reg [oM 12 τ0,oM 13 τ1,oD 14 (.idxS XeA XeB),oD 15 (.conv .i64 Xe3),oM 7 Xfd]) (.seq (.seq (.reg [oM 16 τ7,oD 17 (.bin .gtr Xfk (.const (.int .i64 20)))]) (.cond Xfp (.seq (.reg [oD 4 (.mv (.const (.string ⟨⟨[]⟩⟩))),oD 5 (.mv (.const (.int .i64 3))),oD 6 (.mv (.const (.int .i64 0)))]) .ret) .skip)) (.seq (.seq (.reg [oM 18 τ7,oM 19 τ0,oD 20 (.lenS Xf7),oM 21 τ1,oD 22 (.bin .sub Xgy Xgx),oD 23 (.bin .sub Xg2 (.const (.int .i64 1))),oD 24 (.bin .gtr XfR XgX)]) (.cond Xg1 (.seq (.reg [oD 4 (.mv (.const (.string ⟨⟨[]⟩⟩))),oD 5 (.mv (.const (.int .i64 2))),oD 6 (.mv (.const (.int .i64 0)))]) .ret) .skip)) (.seq (.reg [oM 25 τ0,oM 26 τ1,oD 27 (.bin .add XhB (.const (.int .i64 1))),oM 28 τ1,oD 29 (.bin .add Xh8 (.const (.int .i64 1))),oM 30 τ7,oD 31 (.bin .add XhP Xiu),oD 32 (.sliceS XhR (some XhO) (some Xio)),oM 33 τ1,oD 34 (.bin .add XiO (.const (.int .i64 1))),oM 35 τ7,oD 36 (.bin .add XiM XiQ),oM 4 XiC,oD 5 (.mv (.const (.int .i64 0))),oM 6 Xje]) .ret)))))
def XQO:VFn:=⟨37,Xzq,[.tmp 4,.tmp 5,.tmp 6]⟩
def k34_5:VC:=.regD [oM 15 τ0,oD 16 (.nilCheck Xfd),oD 17 (.fieldA 2 Xfk),oD 18 (.load1 .oth Xfp),oM 19 τ5,oD 20 (.idxAL 9 XfR Xf7),oD 21 (.loadN [(.int .i64),.bool,(.int .u64),(.int .u64),.bool,(.int .u64),(.int .u64),(.int .i64),(.int .i64)] Xgy),oD 22 (.loadN [(.int .i64),.bool,(.int .u64),(.int .u64),.bool,(.int .u64),(.int .u64),(.int .i64),(.int .i64)] τ3)] [] [oD 23 (.eqAgg false [(0,(.int .i64)),(1,.bool),(2,(.int .u64)),(3,(.int .u64)),(4,.bool),(5,(.int .u64)),(6,(.int .u64)),(7,(.int .i64)),(8,(.int .i64))] Xgx Xg2)]
def Xzc:VC:=.seq (.seq (.reg [oM 6 τ5,oM 7 τ0,oD 8 (.nilCheck τ7),oD 9 (.fieldA 2 τ8),oD 10 (.load1 .oth τ9),oD 11 (.lenL Xef),oD 12 (.bin .lss τ6 XdK)]) (.cond XeA .skip (.exit 0))) (.seq (.block 1 (.seq k34_5 (.cond XgX (.seq (.reg [oM 24 τ5,oM 4 Xg1]) .ret) .skip))) (.reg [oM 13 τ5,oD 14 (.bin .add XeB (.const (.int .i64 1))),oM 5 Xe3]))
def XFx:VC:=.seq (.reg [oD 4 (.mv (.const (.int .i64 (-1))))]) .ret
def XHh:VC:=.seq (.reg [oD 3 (.box τ1),oD 4 (.mv (.const (.int .i64 0)))]) (.seq (.seq (.reg [oD 5 (.mv (.const (.int .i64 0)))]) (.block 0 (.loop Xzc))) XFx)
def fn34:VFn:=⟨25,XHh,[.tmp 4]⟩
def k15_8:VC:=.regD [oM 18 τ0,oD 19 (.nilCheck XfR),oD 20 (.fieldA 2 Xf7),oD 21 (.load1 .oth Xgy),oM 22 τ8,oD 23 (.idxAL 9 Xgx Xg2),oD 24 (.loadN [(.int .i64),.bool,(.int .u64),(.int .u64),.bool,(.int .u64),(.int .u64),(.int .i64),(.int .i64)] XgX),oD 25 (.loadN [(.int .i64),.bool,(.int .u64),(.int .u64),.bool,(.int .u64),(.int .u64),(.int .i64),(.int .i64)] τ3)] [] [oD 26 (.eqAgg false [(0,(.int .i64)),(1,.bool),(2,(.int .u64)),(3,(.int .u64)),(4,.bool),(5,(.int .u64)),(6,(.int .u64)),(7,(.int .i64)),(8,(.int .i64))] Xg1 XhR)]
def XzV:VC:=.seq (.seq (.reg [oM 9 τ8,oM 10 τ0,oD 11 (.nilCheck Xef),oD 12 (.fieldA 2 XdK),oD 13 (.load1 .oth XeA),oD 14 (.lenL XeB),oD 15 (.bin .lss τ9 Xe3)]) (.cond Xfd .skip (.exit 0))) (.seq (.block 1 (.seq k15_8 (.cond XhB (.reg [oD 7 (.mv (.const (.bool true)))]) (.seq (.reg [oM 27 τ5,oM 28 τ0,oD 29 (.nilCheck Xh8),oD 30 (.fieldA 2 XhP),oD 31 (.load1 .oth Xiu),oM 32 τ8,oD 33 (.idxAL 9 Xio XiC),oD 34 (.loadN [(.int .i64),.bool,(.int .u64),(.int .u64),.bool,(.int .u64),(.int .u64),(.int .i64),(.int .i64)] XiO),oD 35 (.buildSl 1 9 [(.int .i64 0),(.bool false),(.int .u64 0),(.int .u64 0),(.bool false),(.int .u64 0),(.int .u64 0),(.int .i64 0),(.int .i64 0)] [(0,9,XiM)]),oD 36 (.app 33 9 72 XhO XiQ),oM 5 Xje]) (.reg [oM 37 τ6,oM 38 τ0,oD 39 (.nilCheck XjL),oD 40 (.fieldA 3 Xjk),oD 41 (.load1 .oth Xkw),oM 42 τ8,oD 43 (.idxAL 1 XjM XjK),oD 44 (.load1 (.int .u64) XjR),oD 45 (.buildSl 1 1 [(.int .u64 0)] [(0,1,XkB)]),oD 46 (.app 29 1 8 XiK Xkn),oM 6 XkG]))))) (.reg [oM 16 τ8,oD 17 (.bin .add Xfk (.const (.int .i64 1))),oM 8 Xfp]))
def XHX:VC:=.seq (.reg [oM 47 τ0,oM 48 τ5,oD 49 (.nilCheck Xkq),oD 50 (.fieldA 2 Xj2),oN (.store 1 Xlc XkP)]) (.seq (.reg [oM 51 τ0,oM 52 τ6,oD 53 (.nilCheck Xl4),oD 54 (.fieldA 3 Xmm),oN (.store 1 XnS Xl3)]) (.seq (.reg [oM 55 τ7,oM 4 XnP]) .ret))
def XHu:VC:=.seq (.reg [oD 3 (.box τ1),oD 4 (.mv (.const (.bool false)))]) (.seq (.reg [oD 5 (.mv (.const (.slice none 0 0)))]) (.seq (.reg [oD 6 (.mv (.const (.slice none 0 0)))]) (.seq (.reg [oD 7 (.mv (.const (.bool false)))]) (.seq (.seq (.reg [oD 8 (.mv (.const (.int .i64 0)))]) (.block 0 (.loop XzV))) XHX))))
def fn15:VFn:=⟨56,XHu,[.tmp 4]⟩
def XFS:VC:=.seq (.reg [oD 4 (.mv (.const (.string ⟨⟨[]⟩⟩))),oD 5 (.mv (.const (.int .i64 0)))]) (.seq (.reg [oM 9 τ0,oD 10 (.callF 25 [τ9]),oM 8 Xef,oE 11 0 τ8,oE 12 1 τ8,oD 6 (.alloc [(.int .i64 0),(.bool false),(.int .u64 0),(.int .u64 0),(.bool false),(.int .u64 0),(.int .u64 0),(.int .i64 0),(.int .i64 0),(.int .i64 0),(.bool false),(.int .u32 0),(.int .u32 0),(.bool false),(.string ⟨⟨[]⟩⟩),(.int .i64 0)]),oN (.store 16 τ6 XdK),oM 7 XeA]) (.seq (.seq (.reg [oM 13 τ7,oD 14 (.bin .neq XeB (.const (.int .i64 0)))]) (.cond Xe3 (.seq (.reg [oM 15 τ7,oD 4 (.mv (.const (.string ⟨⟨[]⟩⟩))),oM 5 Xfd]) .ret) .skip)) (.seq (.seq (.reg [oD 16 (.fieldA 0 τ6),oD 17 (.fieldA 0 Xfk),oD 18 (.load1 (.int .i64) Xfp),oD 19 (.bin .neq XfR (.const (.int .i64 6))),oM 20 Xf7,oG 21 (.fieldA 10 τ6) 20 false,oG 22 (.load1 .bool Xgx) 20 false,oG 23 (.not Xg2) 20 false,oD 24 (.pick Xgy (.const (.bool true)) XgX)]) (.cond Xg1 (.seq (.reg [oD 4 (.mv (.const (.string ⟨⟨[]⟩⟩))),oD 5 (.mv (.const (.int .i64 6)))]) .ret) .skip)) (.seq (.reg [oM 25 τ0,oM 26 τ1,oD 27 (.fieldA 12 τ6),oD 28 (.load1 (.int .u32) XhO),oD 29 (.bin .rem Xh8 (.const (.int .u32 65536))),oD 30 (.conv .u16 XhP),oD 31 (.callF 64 [XhB,Xiu]),oD 32 (.callF 63 [XhR,(.const (.int .i64 4)),Xio]),oM 4 XiC,oD 5 (.mv (.const (.int .i64 0)))]) .ret))))
def fn35:VFn:=⟨33,XFS,[.tmp 4,.tmp 5]⟩
def XGU:VC:=.seq (.reg [oD 4 (.mv (.const (.int .u32 0)))]) (.seq (.reg [oM 6 τ0,oM 7 τ0,oD 8 (.bin .rem τ7 (.const (.int .u32 65536))),oD 9 (.bin .sub τ6 τ8),oM 10 τ1,oD 11 (.conv .u32 Xef),oD 12 (.bin .add τ9 XdK),oM 5 XeA]) (.seq (.seq (.reg [oM 13 τ0,oM 14 τ5,oD 15 (.callF 94 [XeB,Xe3]),oD 16 (.bin .lss Xfd (.const (.int .i64 65536)))]) (.cond Xfk (.seq (.reg [oM 17 τ5,oM 4 Xfp]) .ret) .skip)) (.seq (.reg [oM 18 τ5,oD 19 (.bin .sub XfR (.const (.int .u32 65536))),oM 4 Xf7]) .ret)))
def fn64:VFn:=⟨20,XGU,[.tmp 4]⟩
def XTd:VC:=.seq (.reg [oD 4 (.mv (.const (.int .i64 0)))]) (.seq (.reg [oM 5 τ1,oM 6 τ0,oD 7 (.callF 121 [τ5,τ6]),oM 4 τ7]) .ret)
def fn94:VFn:=⟨8,XTd,[.tmp 4]⟩
def XHs:VC:=.seq (.reg [oD 4 (.mv (.const (.int .i64 0)))]) (.seq (.seq (.reg [oM 5 τ1,oM 6 τ0,oD 7 (.bin .geq τ5 τ6)]) (.cond τ7 (.seq (.reg [oM 8 τ1,oD 9 (.conv .i64 τ8),oM 10 τ0,oD 11 (.conv .i64 Xef),oD 12 (.bin .sub τ9 XdK),oM 4 XeA]) .ret) .skip)) (.seq (.reg [oM 13 τ1,oD 14 (.conv .i64 XeB),oD 15 (.bin .add Xe3 (.const (.int .i64 4294967296))),oM 16 τ0,oD 17 (.conv .i64 Xfk),oD 18 (.bin .sub Xfd Xfp),oM 4 XfR]) .ret))
def XRg:VFn:=⟨19,XHs,[.tmp 4]⟩
def k63_3:VC:=.regD [oM 32 τ0,oM 33 τ7,oD 34 (.sliceS XiC (some XiO) none),oM 35 XeA,oD 36 (.bin .add (.const (.int .i64 20)) XiQ),oM 37 τ1,oD 38 (.bin .add Xje XiK),oM 39 τ2,oD 40 (.conv .u64 Xjk),oD 41 (.callF 46 [Xkw,(.const (.int .i64 4))]),oD 42 (.callF 76 [XiM,XjL,XjM,(.const (.int .i64 16))]),oM 31 XjK,oE 43 0 Xio,oE 44 1 Xio,oM 13 XjR] [] [oM 14 XkB]
def XQo:VC:=.seq (.reg [oD 6 (.mv (.const (.string ⟨⟨[]⟩⟩)))]) (.seq (.reg [oM 16 τ0,oD 17 (.callF 74 [Xfk]),oM 15 Xfp,oE 18 0 Xfd,oE 19 1 Xfd,oE 20 2 Xfd,oM 7 XfR,oM 8 Xf7,oM 9 Xgy]) (.seq (.reg [oM 22 τ0,oM 23 τ7,oD 24 (.bin .add XgX (.const (.int .i64 20))),oM 25 τ8,oD 26 (.sliceS Xg2 (some Xg1) (some XhR)),oD 27 (.callF 83 [XhB]),oM 21 XhO,oE 28 0 Xgx,oE 29 1 Xgx,oE 30 2 Xgx,oM 10 Xh8,oM 11 XhP,oM 12 Xiu]) (.seq k63_3 (.seq (.reg [oM 45 τ0,oM 46 τ7,oD 47 (.sliceS Xkn none (some XkG)),oM 48 XeB,oD 49 (.bin .add Xkq XkP),oM 6 Xj2]) .ret))))
def fn63:VFn:=⟨50,XQo,[.tmp 6]⟩
def XRb:VC:=.seq (.reg [oD 2 (.mv (.const (.int .i64 0))),oD 3 (.mv (.const (.int .i64 0))),oD 4 (.mv (.const (.int .i64 0)))]) (.seq (.reg [oM 10 τ0,oD 11 (.callF 49 [Xef]),oM 9 XdK,oE 12 0 τ9,oE 13 1 τ9,oE 14 2 τ9,oE 15 3 τ9,oD 5 (.alloc [(.int .i64 0),(.bool false),(.int .u64 0),(.int .u64 0),(.bool false),(.int .u64 0),(.int .u64 0),(.int .i64 0),(.int .i64 0),(.int .i64 0),(.bool false),(.int .u32 0),(.int .u32 0),(.bool false),(.string ⟨⟨[]⟩⟩),(.int .i64 0)]),oN (.store 16 τ5 XeA),oM 6 XeB,oM 7 Xe3,oM 8 Xfd]) (.seq (.reg [oM 16 τ6,oM 17 τ7,oM 18 τ8,oM 2 Xfk,oM 3 Xfp,oM 4 XfR]) .ret))
def fn74:VFn:=⟨19,XRb,[.tmp 2,.tmp 3,.tmp 4]⟩
def XP3:VC:=.regD [oM 63 τ0,oM 64 τ1,oD 65 (.sliceS Xr0 none (some XrX)),oM 66 τ2,oD 67 (.bin .add XsR Xtk),oM 68 τ0,oM 69 τ1,oM 70 τ2,oD 71 (.lenS Xu2),oD 72 (.bin .add XsZ Xvn),oD 73 (.sliceS XtN (some Xu3) none)] [] [oD 74 (.bin .add XsT Xwj),oM 10 Xvr]
def XyN:VC:=.seq (.seq (.reg [oM 81 τ2,oD 82 (.lenS XBy),oD 83 (.bin .gtr XC0 (.const (.int .i64 0))),oM 84 Xw9,oG 85 (.mv XeA) 84 true,oG 86 (.mv τ1) 84 true,oG 87 (.mv τ2) 84 true,oG 88 (.lenS XF7) 84 true,oG 89 (.bin .add XGc XH6) 84 true,oG 90 (.bin .lss XFU XFH) 84 true,oD 91 (.pick XBS XGe (.const (.bool false)))]) (.cond XFk .skip (.exit 0))) (.seq (.block 1 (.reg [oM 94 XdK,oM 95 τ0,oD 96 (.callF 103 [XF1]),oM 97 XeA,oD 98 (.callF 62 [XBV,XLu,(.const (.int .i64 2))]),oM 99 Xef,oD 100 (.callF 103 [τ99]),oM 101 XeA,oD 102 (.callF 62 [XE5,XCr,(.const (.int .i64 2))]),oD 103 (.callF 102 [XFP,XNm,XNc]),oM 11 XMX])) (.reg [oM 92 XeA,oD 93 (.bin .add XFV (.const (.int .i64 2))),oM 12 XFB]))
def XHf:VC:=.seq (.reg [oM 104 Xef,oM 105 τ3,oM 106 XdK,oD 107 (.conv .u64 XKw),oD 108 (.callF 47 [XK0,XK8,(.const (.int .i64 2)),XJh]),oM 8 XM9,oD 9 (.mv (.const (.bool true)))]) .ret
def XGE:VC:=.seq (.reg [oD 8 (.mv (.const (.string ⟨⟨[]⟩⟩))),oD 9 (.mv (.const (.bool false)))]) (.seq (.seq (.reg [oM 13 τ1,oD 14 (.bin .lss XeB (.const (.int .i64 0))),oM 15 Xe3,oG 16 (.mv τ1) 15 false,oG 17 (.mv τ0) 15 false,oG 18 (.lenS Xfp) 15 false,oG 19 (.bin .gtr Xfk XfR) 15 false,oD 20 (.pick Xfd (.const (.bool true)) Xf7),oM 21 Xgy,oG 22 (.mv τ2) 21 false,oG 23 (.lenS Xg2) 21 false,oG 24 (.mv τ0) 21 false,oG 25 (.lenS Xg1) 21 false,oG 26 (.mv τ1) 21 false,oG 27 (.bin .sub XhR XhB) 21 false,oG 28 (.bin .gtr XgX XhO) 21 false,oD 29 (.pick Xgx (.const (.bool true)) Xh8),oM 30 XhP,oG 31 (.mv τ3) 30 false,oG 32 (.bin .lss Xio (.const (.int .i64 0))) 30 false,oD 33 (.pick Xiu (.const (.bool true)) XiC),oM 34 XiO,oG 35 (.mv τ3) 34 false,oG 36 (.bin .rem XiQ (.const (.int .i64 2))) 34 false,oG 37 (.bin .eql Xje (.const (.int .i64 1))) 34 false,oD 38 (.pick XiM (.const (.bool true)) XiK),oM 39 XjL,oG 40 (.mv τ3) 39 false,oG 41 (.mv τ0) 39 false,oG 42 (.lenS XjM) 39 false,oG 43 (.bin .sub XjK (.const (.int .i64 2))) 39 false,oG 44 (.bin .gtr Xkw XjR) 39 false,oD 45 (.pick Xjk (.const (.bool true)) XkB)]) (.cond Xkn (.seq (.reg [oD 8 (.mv (.const (.string ⟨⟨[]⟩⟩))),oD 9 (.mv (.const (.bool false)))]) .ret) .skip)) (.seq (.seq (.reg [oM 46 τ2,oD 47 (.lenS XkG),oD 48 (.bin .gtr Xkq (.const (.int .i64 0))),oM 49 XkP,oG 50 (.mv τ1) 49 true,oG 51 (.mv τ3) 49 true,oG 52 (.bin .add Xl4 (.const (.int .i64 2))) 49 true,oG 53 (.bin .lss Xlc Xl3) 49 true,oD 54 (.pick Xj2 Xmm (.const (.bool false))),oM 55 XnS,oG 56 (.mv τ3) 55 true,oG 57 (.mv τ1) 55 true,oG 58 (.mv τ2) 55 true,oG 59 (.lenS XoP) 55 true,oG 60 (.bin .add XnR XoH) 55 true,oG 61 (.bin .lss Xou XqI) 55 true,oD 62 (.pick XnP Xqv (.const (.bool false)))]) (.cond XqK (.seq (.reg [oD 8 (.mv (.const (.string ⟨⟨[]⟩⟩))),oD 9 (.mv (.const (.bool false)))]) .ret) .skip)) (.seq XP3 (.seq (.reg [oM 75 τ0,oM 76 τ3,oD 77 (.callF 62 [Xwl,XvZ,(.const (.int .i64 2))]),oM 11 Xv4]) (.seq (.seq (.reg [oM 78 τ1,oD 79 (.bin .quo Xxd (.const (.int .i64 2))),oD 80 (.bin .mul XxU (.const (.int .i64 2))),oM 12 XxX]) (.block 0 (.loop XyN))) XHf)))))
def fn76:VFn:=⟨109,XGE,[.tmp 8,.tmp 9]⟩
def XGS:VC:=.seq (.reg [oD 2 (.mv (.const (.string ⟨⟨[]⟩⟩)))]) (.seq (.seq (.reg [oM 3 τ0,oD 4 (.lenS τ3),oD 5 (.bin .rem τ4 (.const (.int .i64 2))),oD 6 (.bin .eql τ5 (.const (.int .i64 1)))]) (.cond τ6 (.seq (.reg [oM 7 τ0,oD 8 (.bin .add τ7 (.const (.string ⟨⟨[0]⟩⟩))),oM 2 τ8]) .ret) .skip)) (.seq (.reg [oM 9 τ0,oM 2 τ9]) .ret))
def XTr:VFn:=⟨10,XGS,[.tmp 2]⟩
def XF8:VC:=.seq (.reg [oD 6 (.mv (.const (.int .i64 0)))]) (.seq (.seq (.reg [oM 7 τ0,oD 8 (.callF 123 [τ7]),oD 9 (.not τ8),oM 10 τ9,oG 11 (.mv τ1) 10 false,oG 12 (.callF 123 [XdK]) 10 false,oG 13 (.not XeA) 10 false,oD 14 (.pick Xef (.const (.bool true)) XeB),oM 15 Xe3,oG 16 (.mv τ2) 15 false,oG 17 (.callF 123 [Xfk]) 15 false,oG 18 (.not Xfp) 15 false,oD 19 (.pick Xfd (.const (.bool true)) XfR)]) (.cond Xf7 (.seq (.reg [oD 6 (.mv (.const (.int .i64 0)))]) .ret) .skip)) (.seq (.reg [oM 20 τ0,oD 21 (.bin .sub (.const (.int .i64 65535)) Xgy),oM 22 τ1,oD 23 (.bin .sub (.const (.int .i64 65535)) Xg2),oM 24 τ2,oD 25 (.buildSl 3 1 [(.int .i64 0),(.int .i64 0),(.int .i64 0)] [(0,1,Xgx),(1,1,XgX),(2,1,Xg1)]),oD 26 (.callF 92 [XhR]),oD 27 (.bin .sub (.const (.int .i64 65535)) XhB),oM 6 XhO]) .ret))
def XQt:VFn:=⟨28,XF8,[.tmp 6]⟩
def XHP:VC:=.seq (.reg [oD 2 (.mv (.const (.bool false)))]) (.seq (.reg [oM 3 τ0,oD 4 (.bin .geq τ3 (.const (.int .i64 0))),oM 5 τ4,oG 6 (.mv τ0) 5 true,oG 7 (.bin .leq τ6 (.const (.int .i64 65535))) 5 true,oD 8 (.pick τ5 τ7 (.const (.bool false))),oM 2 τ8]) .ret)
def XQK:VFn:=⟨9,XHP,[.tmp 2]⟩
def k47_7:VC:=.regD [oM 21 τ0,oM 22 τ1,oD 23 (.sliceS Xgx none (some Xg2)),oM 24 τ3,oM 25 τ2,oD 26 (.callF 46 [Xg1,XhR]),oD 27 (.bin .add XgX XhB),oM 28 τ0,oM 29 τ1,oM 30 τ2,oD 31 (.bin .add XhP Xiu),oD 32 (.sliceS Xh8 (some Xio) none)] [] [oD 33 (.bin .add XhO XiC),oM 8 XiO]
def XHM:VC:=.seq (.reg [oD 8 (.mv (.const (.string ⟨⟨[]⟩⟩)))]) (.seq (.reg [oM 12 τ0,oM 13 τ1,oM 14 τ2,oD 15 (.callF 61 [XeA,XeB,Xe3]),oM 11 Xfd,oE 16 0 XdK,oE 17 1 XdK,oM 9 Xfk,oM 10 Xfp]) (.seq (.seq (.reg [oM 18 Xef,oD 19 (.not XfR)]) (.cond Xf7 (.seq (.reg [oM 20 τ0,oM 8 Xgy]) .ret) .skip)) (.seq k47_7 .ret)))
def fn47:VFn:=⟨34,XHM,[.tmp 8]⟩
def XHJ:VC:=.seq (.reg [oD 4 (.mv (.const (.string ⟨⟨[]⟩⟩))),oD 5 (.mv (.const (.int .i64 0)))]) (.seq (.reg [oM 12 τ1,oD 13 (.callF 25 [XeA]),oM 11 XeB,oE 14 0 XdK,oE 15 1 XdK,oD 6 (.alloc [(.int .i64 0),(.bool false),(.int .u64 0),(.int .u64 0),(.bool false),(.int .u64 0),(.int .u64 0),(.int .i64 0),(.int .i64 0),(.int .i64 0),(.bool false),(.int .u32 0),(.int .u32 0),(.bool false),(.string ⟨⟨[]⟩⟩),(.int .i64 0)]),oN (.store 16 τ6 Xe3),oM 7 Xfd]) (.seq (.seq (.reg [oM 16 τ7,oD 17 (.bin .neq Xfk (.const (.int .i64 0)))]) (.cond Xfp (.seq (.reg [oM 18 τ7,oD 4 (.mv (.const (.string ⟨⟨[]⟩⟩))),oM 5 XfR]) .ret) .skip)) (.seq (.reg [oM 20 τ0,oD 21 (.fieldA 0 τ6),oD 22 (.loadN [(.int .i64),.bool,(.int .u64),(.int .u64),.bool,(.int .u64),(.int .u64),(.int .i64),(.int .i64)] Xgx),oD 23 (.callF 24 [Xg2]),oD 24 (.callF 18 [Xgy,XgX]),oM 19 Xg1,oE 25 0 Xf7,oE 26 1 Xf7,oM 8 XhR,oM 9 XhB]) (.seq (.seq (.reg [oM 27 τ9,oD 28 (.not XhO)]) (.cond Xh8 (.seq (.reg [oD 4 (.mv (.const (.string ⟨⟨[]⟩⟩))),oD 5 (.mv (.const (.int .i64 13)))]) .ret) .skip)) (.seq (.seq (.reg [oD 29 (.fieldA 0 τ6),oD 30 (.fieldA 0 XhP),oD 31 (.load1 (.int .i64) Xiu),oD 32 (.bin .eql Xio (.const (.int .i64 6))),oM 33 XiC,oG 34 (.fieldA 10 τ6) 33 true,oG 35 (.load1 .bool XiM) 33 true,oD 36 (.pick XiO XiQ (.const (.bool false)))]) (.cond Xje (.seq (.reg [oM 37 τ1,oM 38 τ8,oD 39 (.bin .rem XjL (.const (.int .u64 65536))),oD 40 (.conv .u16 Xjk),oD 41 (.callF 39 [XiK,Xkw]),oE 42 0 XjM,oE 43 1 XjM,oM 4 XjK,oM 5 XjR]) .ret) .skip)) (.seq (.reg [oM 45 τ1,oM 46 τ8,oD 47 (.callF 40 [Xkn,XkG]),oM 44 Xkq,oE 48 0 XkB,oE 49 1 XkB,oM 10 XkP,oM 7 Xj2]) (.seq (.seq (.reg [oM 50 τ7,oD 51 (.bin .neq Xlc (.const (.int .i64 0)))]) (.cond Xl4 (.seq (.reg [oM 52 τ1,oM 4 Xl3,oD 5 (.mv (.const (.int .i64 0)))]) .ret) .skip)) (.seq (.reg [oM 53 Xef,oM 4 Xmm,oD 5 (.mv (.const (.int .i64 0)))]) .ret))))))))
def fn13:VFn:=⟨54,XHJ,[.tmp 4,.tmp 5]⟩
def XOO:VC:=.seq (.reg [oD 1 (.box τ0),oD 2 (.alloc [(.int .i64 0),(.bool false),(.int .u64 0),(.int .u64 0),(.bool false),(.int .u64 0),(.int .u64 0),(.int .i64 0),(.int .i64 0)])]) (.seq (.reg [oD 3 (.fieldA 0 τ1),oD 4 (.load1 (.int .i64) τ3),oD 5 (.fieldA 4 τ1),oD 6 (.loadN [.bool,(.int .u64),(.int .u64)] τ5),oD 7 (.fieldA 1 τ1),oD 8 (.loadN [.bool,(.int .u64),(.int .u64)] τ7),oD 9 (.fieldA 8 τ1),oD 10 (.load1 (.int .i64) τ9),oD 11 (.fieldA 7 τ1),oD 12 (.load1 (.int .i64) XdK),oD 13 (.build [(.int .i64 0),(.bool false),(.int .u64 0),(.int .u64 0),(.bool false),(.int .u64 0),(.int .u64 0),(.int .i64 0),(.int .i64 0)] [(0,1,τ4),(1,3,τ6),(4,3,τ8),(7,1,Xef),(8,1,XeA)]),oN (.store 9 τ2 XeB)]) .ret)
def fn24:VFn:=⟨14,XOO,[.cell 2 [(.int .i64),.bool,(.int .u64),(.int .u64),.bool,(.int .u64),(.int .u64),(.int .i64),(.int .i64)] true]⟩
def XGd:VC:=.seq (.reg [oD 3 (.box τ1),oD 4 (.mv (.const (.int .u64 0))),oD 5 (.mv (.const (.bool false)))]) (.seq (.reg [oM 7 τ0,oD 8 (.loadN [(.int .i64),.bool,(.int .u64),(.int .u64),.bool,(.int .u64),(.int .u64),(.int .i64),(.int .i64)] τ3),oD 9 (.callF 34 [τ7,τ8]),oM 6 τ9]) (.seq (.seq (.reg [oM 10 τ6,oD 11 (.bin .lss Xef (.const (.int .i64 0)))]) (.cond XdK (.seq (.reg [oD 4 (.mv (.const (.int .u64 0))),oD 5 (.mv (.const (.bool false)))]) .ret) .skip)) (.seq (.reg [oM 12 τ0,oD 13 (.nilCheck XeA),oD 14 (.fieldA 3 XeB),oD 15 (.load1 .oth Xe3),oM 16 τ6,oD 17 (.idxAL 1 Xfd Xfk),oD 18 (.load1 (.int .u64) Xfp),oM 4 XfR,oD 5 (.mv (.const (.bool true)))]) .ret)))
def fn18:VFn:=⟨19,XGd,[.tmp 4,.tmp 5]⟩
def XFY:VC:=.seq (.reg [oD 4 (.mv (.const (.string ⟨⟨[]⟩⟩))),oD 5 (.mv (.const (.int .i64 0)))]) (.seq (.reg [oM 9 τ0,oD 10 (.callF 25 [τ9]),oM 8 Xef,oE 11 0 τ8,oE 12 1 τ8,oD 6 (.alloc [(.int .i64 0),(.bool false),(.int .u64 0),(.int .u64 0),(.bool false),(.int .u64 0),(.int .u64 0),(.int .i64 0),(.int .i64 0),(.int .i64 0),(.bool false),(.int .u32 0),(.int .u32 0),(.bool false),(.string ⟨⟨[]⟩⟩),(.int .i64 0)]),oN (.store 16 τ6 XdK),oM 7 XeA]) (.seq (.seq (.reg [oM 13 τ7,oD 14 (.bin .neq XeB (.const (.int .i64 0)))]) (.cond Xe3 (.seq (.reg [oM 15 τ7,oD 4 (.mv (.const (.string ⟨⟨[]⟩⟩))),oM 5 Xfd]) .ret) .skip)) (.seq (.seq (.reg [oD 16 (.fieldA 0 τ6),oD 17 (.fieldA 0 Xfk),oD 18 (.load1 (.int .i64) Xfp),oD 19 (.bin .neq XfR (.const (.int .i64 6))),oM 20 Xf7,oG 21 (.fieldA 10 τ6) 20 false,oG 22 (.load1 .bool Xgx) 20 false,oG 23 (.not Xg2) 20 false,oD 24 (.pick Xgy (.const (.bool true)) XgX)]) (.cond Xg1 (.seq (.reg [oD 4 (.mv (.const (.string ⟨⟨[]⟩⟩))),oD 5 (.mv (.const (.int .i64 6)))]) .ret) .skip)) (.seq (.reg [oM 25 τ0,oD 26 (.fieldA 11 τ6),oD 27 (.load1 (.int .u32) XhB),oM 28 τ1,oD 29 (.callF 73 [XhO,Xh8]),oD 30 (.callF 63 [XhR,(.const (.int .i64 0)),XhP]),oM 4 Xiu,oD 5 (.mv (.const (.int .i64 0)))]) .ret))))
def fn39:VFn:=⟨31,XFY,[.tmp 4,.tmp 5]⟩
def XQn:VC:=.seq (.reg [oD 4 (.mv (.const (.int .u32 0)))]) (.seq (.reg [oM 5 τ1,oD 6 (.conv .u32 τ5),oD 7 (.bin .mul τ6 (.const (.int .u32 65536))),oM 8 τ0,oD 9 (.bin .rem τ8 (.const (.int .u32 65536))),oD 10 (.bin .add τ7 τ9),oM 4 Xef]) .ret)
def fn73:VFn:=⟨11,XQn,[.tmp 4]⟩
def XRL:VC:=.regD [oM 62 τ0,oM 63 τ8,oD 64 (.sliceS XqK (some Xr0) none),oM 65 XeA,oM 66 τ1,oD 67 (.callF 46 [Xtk,(.const (.int .i64 8))]),oD 68 (.callF 76 [XrX,XsR,XsT,(.const (.int .i64 6))]),oM 61 XtN,oE 69 0 Xqv,oE 70 1 Xqv,oM 14 XsZ] [] [oM 15 Xu2]
def XF3:VC:=.seq (.reg [oD 4 (.mv (.const (.string ⟨⟨[]⟩⟩))),oD 5 (.mv (.const (.int .i64 0)))]) (.seq (.reg [oM 17 τ0,oD 18 (.callF 25 [Xfp]),oM 16 XfR,oE 19 0 Xfk,oE 20 1 Xfk,oD 6 (.alloc [(.int .i64 0),(.bool false),(.int .u64 0),(.int .u64 0),(.bool false),(.int .u64 0),(.int .u64 0),(.int .i64 0),(.int .i64 0),(.int .i64 0),(.bool false),(.int .u32 0),(.int .u32 0),(.bool false),(.string ⟨⟨[]⟩⟩),(.int .i64 0)]),oN (.store 16 τ6 Xf7),oM 7 Xgy]) (.seq (.seq (.reg [oM 21 τ7,oD 22 (.bin .neq Xgx (.const (.int .i64 0)))]) (.cond Xg2 (.seq (.reg [oM 23 τ7,oD 4 (.mv (.const (.string ⟨⟨[]⟩⟩))),oM 5 XgX]) .ret) .skip)) (.seq (.reg [oM 25 τ0,oD 26 (.callF 74 [XhR]),oM 24 XhB,oE 27 0 Xg1,oE 28 1 Xg1,oE 29 2 Xg1,oM 8 XhO,oM 9 Xh8,oM 10 XhP]) (.seq (.seq (.reg [oD 30 (.fieldA 0 τ6),oD 31 (.fieldA 0 Xiu),oD 32 (.load1 (.int .i64) Xio),oD 33 (.bin .neq XiC (.const (.int .i64 17)))]) (.cond XiO (.seq (.reg [oD 4 (.mv (.const (.string ⟨⟨[]⟩⟩))),oD 5 (.mv (.const (.int .i64 6)))]) .ret) .skip)) (.seq (.reg [oM 35 τ0,oM 36 τ9,oD 37 (.sliceS XiQ (some Xje) none),oD 38 (.callF 75 [XiK]),oM 34 XjL,oE 39 0 XiM,oE 40 1 XiM,oD 11 (.alloc [(.bool false),(.int .i64 0),(.int .u32 0),(.string ⟨⟨[]⟩⟩),(.string ⟨⟨[]⟩⟩),(.string ⟨⟨[]⟩⟩)]),oN (.store 6 XdK Xjk),oM 7 Xkw]) (.seq (.seq (.reg [oM 41 τ7,oD 42 (.bin .neq XjM (.const (.int .i64 0))),oM 43 XjK,oG 44 (.fieldA 0 XdK) 43 false,oG 45 (.load1 .bool XkB) 43 false,oG 46 (.not Xkn) 43 false,oD 47 (.pick XjR (.const (.bool true)) XkG)]) (.cond Xkq (.seq (.reg [oD 4 (.mv (.const (.string ⟨⟨[]⟩⟩))),oD 5 (.mv (.const (.int .i64 6)))]) .ret) .skip)) (.seq (.seq (.reg [oD 48 (.fieldA 4 XdK),oD 49 (.load1 .str XkP),oD 50 (.lenS Xj2),oD 51 (.bin .neq Xlc (.const (.int .i64 8)))]) (.cond Xl4 (.seq (.reg [oD 4 (.mv (.const (.string ⟨⟨[]⟩⟩))),oD 5 (.mv (.const (.int .i64 3)))]) .ret) .skip)) (.seq (.reg [oD 52 (.fieldA 3 XdK),oD 53 (.load1 .str Xl3),oD 54 (.lenS Xmm),oD 55 (.bin .add (.const (.int .i64 15)) XnS),oM 12 XnP]) (.seq (.reg [oM 56 τ0,oM 57 τ8,oD 58 (.bin .add XnR (.const (.int .i64 6))),oD 59 (.callF 62 [Xou,XoP,(.const (.int .i64 2))]),oD 60 (.bin .eql XoH (.const (.int .i64 0))),oM 13 XqI]) (.seq XRL (.seq (.seq (.reg [oM 71 XeB]) (.cond Xvn (.reg [oM 72 Xe3,oD 73 (.callF 47 [Xu3,(.const (.int .i64 6)),(.const (.int .i64 2)),(.const (.int .u64 0))]),oM 14 Xwj]) (.seq (.reg [oM 74 Xe3,oD 75 (.callF 62 [Xvr,(.const (.int .i64 6)),(.const (.int .i64 2))]),oD 76 (.bin .eql Xwl (.const (.int .i64 0)))]) (.cond XvZ (.reg [oM 77 Xe3,oD 78 (.callF 47 [Xv4,(.const (.int .i64 6)),(.const (.int .i64 2)),(.const (.int .u64 65535))]),oM 14 Xxd]) .skip)))) (.seq (.reg [oM 79 τ0,oM 80 τ8,oD 81 (.sliceS XxU none (some XxX)),oM 82 Xe3,oD 83 (.bin .add XBy XC0),oM 4 Xw9,oD 5 (.mv (.const (.int .i64 0)))]) .ret))))))))))))
def fn40:VFn:=⟨84,XF3,[.tmp 4,.tmp 5]⟩
theorem XLM:(Tryz.prog.funcs[49]?).bind (XaV Tryz.prog)=some fn49:=by kernel_rfl
theorem XK9:(Tryz.prog.funcs[81]?).bind (XaV Tryz.prog)=some fn81:=by kernel_rfl
theorem XEa:(Tryz.prog.funcs[110]?).bind (XaV Tryz.prog)=some XRt:=by kernel_rfl
theorem XEV:(Tryz.prog.funcs[127]?).bind (XaV Tryz.prog)=some XTD:=by kernel_rfl
theorem XDv:(Tryz.prog.funcs[111]?).bind (XaV Tryz.prog)=some XOc:=by kernel_rfl
theorem XLk:(Tryz.prog.funcs[82]?).bind (XaV Tryz.prog)=some fn82:=by kernel_rfl
theorem XKz:(Tryz.prog.funcs[77]?).bind (XaV Tryz.prog)=some fn77:=by kernel_rfl
theorem XJj:(Tryz.prog.funcs[42]?).bind (XaV Tryz.prog)=some fn42:=by kernel_rfl
theorem XCx:(Tryz.prog.funcs[104]?).bind (XaV Tryz.prog)=some XRZ:=by kernel_rfl
theorem XJq:(Tryz.prog.funcs[46]?).bind (XaV Tryz.prog)=some fn46:=by kernel_rfl
theorem XDI:(Tryz.prog.funcs[105]?).bind (XaV Tryz.prog)=some XTx:=by kernel_rfl
theorem XED:(Tryz.prog.funcs[112]?).bind (XaV Tryz.prog)=some XQ5:=by kernel_rfl
theorem XIa:(Tryz.prog.funcs[83]?).bind (XaV Tryz.prog)=some fn83:=by kernel_rfl
theorem XMh:(Tryz.prog.funcs[84]?).bind (XaV Tryz.prog)=some fn84:=by kernel_rfl
theorem XKV:(Tryz.prog.funcs[75]?).bind (XaV Tryz.prog)=some fn75:=by kernel_rfl
theorem XBJ:(Tryz.prog.funcs[101]?).bind (XaV Tryz.prog)=some XQO:=by kernel_rfl
theorem XLW:(Tryz.prog.funcs[34]?).bind (XaV Tryz.prog)=some fn34:=by kernel_rfl
theorem XID:(Tryz.prog.funcs[15]?).bind (XaV Tryz.prog)=some fn15:=by kernel_rfl
theorem XIA:(Tryz.prog.funcs[35]?).bind (XaV Tryz.prog)=some fn35:=by kernel_rfl
theorem XKh:(Tryz.prog.funcs[64]?).bind (XaV Tryz.prog)=some fn64:=by kernel_rfl
theorem XIz:(Tryz.prog.funcs[94]?).bind (XaV Tryz.prog)=some fn94:=by kernel_rfl
theorem XDA:(Tryz.prog.funcs[121]?).bind (XaV Tryz.prog)=some XRg:=by kernel_rfl
theorem XLG:(Tryz.prog.funcs[63]?).bind (XaV Tryz.prog)=some fn63:=by kernel_rfl
theorem XKY:(Tryz.prog.funcs[74]?).bind (XaV Tryz.prog)=some fn74:=by kernel_rfl
theorem XNh:(Tryz.prog.funcs[76]?).bind (XaV Tryz.prog)=some fn76:=by kernel_rfl
theorem XB3:(Tryz.prog.funcs[103]?).bind (XaV Tryz.prog)=some XTr:=by kernel_rfl
theorem XDB:(Tryz.prog.funcs[102]?).bind (XaV Tryz.prog)=some XQt:=by kernel_rfl
theorem XCA:(Tryz.prog.funcs[123]?).bind (XaV Tryz.prog)=some XQK:=by kernel_rfl
theorem XKj:(Tryz.prog.funcs[47]?).bind (XaV Tryz.prog)=some fn47:=by kernel_rfl
theorem XJZ:(Tryz.prog.funcs[13]?).bind (XaV Tryz.prog)=some fn13:=by kernel_rfl
theorem XIb:(Tryz.prog.funcs[24]?).bind (XaV Tryz.prog)=some fn24:=by kernel_rfl
theorem XKG:(Tryz.prog.funcs[18]?).bind (XaV Tryz.prog)=some fn18:=by kernel_rfl
theorem XIf:(Tryz.prog.funcs[39]?).bind (XaV Tryz.prog)=some fn39:=by kernel_rfl
theorem XNf:(Tryz.prog.funcs[73]?).bind (XaV Tryz.prog)=some fn73:=by kernel_rfl
theorem XK4:(Tryz.prog.funcs[40]?).bind (XaV Tryz.prog)=some fn40:=by kernel_rfl
def tab:List (Nat×VFn):=[(3,fn3),(6,fn6),(7,fn7),(8,fn8),(10,fn10),(28,fn28),(29,fn29),(50,fn50),(85,fn85),(113,XNM),(51,fn51),(52,fn52),(86,fn86),(95,fn95),(69,fn69),(53,fn53),(54,fn54),(87,fn87),(114,XQB),(128,XSd),(115,XNB),(30,fn30),(55,fn55),(88,fn88),(116,XSx),(129,XPk),(135,XP6),(136,XPi),(130,XQv),(89,fn89),(117,XTj),(131,XNK),(137,XRr),(138,XNH),(71,fn71),(139,XS4),(140,XON),(142,XRx),(141,XNN),(132,XNE),(119,XPu),(120,XSY),(133,XPo),(91,fn91),(90,fn90),(118,XN9),(68,fn68),(96,fn96),(97,fn97),(98,fn98),(31,fn31),(32,fn32),(57,fn57),(59,fn59),(58,fn58),(56,fn56),(67,fn67),(70,fn70),(100,XSU),(99,fn99),(122,XSQ),(134,XNO),(72,fn72),(12,fn12),(36,fn36),(17,fn17),(37,fn37),(65,fn65),(66,fn66),(38,fn38),(16,fn16),(14,fn14),(19,fn19),(9,fn9),(11,fn11),(33,fn33),(60,fn60),(93,fn93),(62,fn62),(61,fn61),(92,fn92),(25,fn25),(49,fn49),(81,fn81),(110,XRt),(127,XTD),(111,XOc),(82,fn82),(77,fn77),(42,fn42),(104,XRZ),(46,fn46),(105,XTx),(112,XQ5),(83,fn83),(84,fn84),(75,fn75),(101,XQO),(34,fn34),(15,fn15),(35,fn35),(64,fn64),(94,fn94),(121,XRg),(63,fn63),(74,fn74),(76,fn76),(103,XTr),(102,XQt),(123,XQK),(47,fn47),(13,fn13),(24,fn24),(18,fn18),(39,fn39),(73,fn73),(40,fn40)]
theorem XaP:Xlt Tryz.prog (XaL tab):=Xlt.XaY ⟨XTa,XSN,XQS,XS2,XM1,XJt,XLT,XMC,XLl,XDV,XLp,XLb,XIF,XKZ,XJT,XM3,XLS,XIB,XB9,XCI,XD0,XKM,XIl,XJw,XB7,XB5,XCU,XDP,XFb,XLB,XCf,XDO,XCX,XFa,XL4,XCF,XFi,XBT,XEF,XCk,XCQ,XDf,XEE,XI0,XIo,XEg,XLC,XMb,XJV,XIR,XJ0,XIv,XJC,XI5,XLJ,XMB,XMO,XJL,XEd,XKL,XDy,XEj,XI8,XIJ,XMx,XJJ,XJE,XJz,XH9,XIk,XJv,XKK,XKQ,XSL,XLm,XM0,XLn,XL5,XMe,XKg,XLo,XLq,XLM,XK9,XEa,XEV,XDv,XLk,XKz,XJj,XCx,XJq,XDI,XED,XIa,XMh,XKV,XBJ,XLW,XID,XIA,XKh,XIz,XDA,XLG,XKY,XNh,XB3,XDB,XCA,XKj,XJZ,XIb,XKG,XIf,XNf,XK4,trivial⟩
end Go.Vm.Code
namespace Go.Vm
open Go Go.RowKit
theorem XP8 {h h':Hp} {s:Nat→Option Nat} {b n:Nat} {ws:List Wd} {c c' x:List Value} {cs:List (Option (List Value))} {ob ob':XbF} (e1:XaL h b=some ob) (e2:ob.wcs=some x) (e3:Xe5.renL s c=some c') (e4:Nat.beq c'.length n=true) (e5:Nat.beq x.length n=true) (e6:ob.wr c'=some ob') (t:XdB (Xf0 h b ob') s ws cs=some h') (hm:mk3 c=none:=by rfl) :
 XdB h s (.win b 0 n true::ws) (some c::cs)=some h':=by
 have h4:=Nat.eq_of_beq_eq_true e4
 have h5:=Nat.eq_of_beq_eq_true e5
 refine XHU e1 e2 e3 ⟨h4,by omega⟩ ?_ e6 t hm
 apply List.ext_getElem?
 intro k
 rw [XjX _ _ _ _ (by omega)]
 by_cases hk:k<n
 ·rw [if_pos (by omega)];simp
 ·rw [if_neg (by omega),List.getElem?_eq_none (by omega),List.getElem?_eq_none (by omega)]
theorem XPZ {h:Hp} {k b n:Nat} {ob:XbF} {cs:List Value} (ho:XaL h b=some ob) (hc:ob.wcs=some cs) (hn:Nat.beq cs.length n=true) (hf:Xbg.flatL cs=true) :
 Xdl h k (.pt n) (.pointer (some ⟨b,0,none⟩))=some (.pointer (some ⟨k,0,none⟩),[some (.cells cs)]):=
 XGC ho hc (by have:=Nat.eq_of_beq_eq_true hn;omega) (by have:=Nat.eq_of_beq_eq_true hn;rw [List.drop_zero];exact List.take_of_length_le (by omega)) hf
theorem XrM {a b:Dec} {vs:List Value} {cs:List (Option (List Value))} {r:Xc2} (h:a vs cs=some r):orD a b vs cs=some r:=by unfold orD;rw [h]
theorem Xqi {a b:Dec} {vs:List Value} {cs:List (Option (List Value))} {r:Xc2} (h:a vs cs=none) (k:b vs cs=some r):orD a b vs cs=some r:=by unfold orD;rw [h];exact k
end Go.Vm
namespace Go.Vm
open Go Go.RowKit
section
variable {α κ ν:Type}
def XBC (key:α→κ) (eqk:κ→κ→Bool) (t:κ) (xs:List α):Bool:=xs.any fun e=>eqk t (key e)
def XHI (key:α→κ) (eqk:κ→κ→Bool) (val:α→ν) (z:ν) (t:κ):List α→ν
 | []=>z
 | e::l=>cond (eqk t (key e)) (val e) (XHI key eqk val z t l)
def XGN (key:α→κ) (eqk:κ→κ→Bool) (mk:κ→ν→α) (t:κ) (v:ν):List α→List α
 | []=>[mk t v]
 | e::l=>cond (eqk t (key e)) (mk (key e) v::l) (e::XGN key eqk mk t v l)
def XBr (key:α→κ) (eqk:κ→κ→Bool) (t:κ):List α→List α
 | []=>[]
 | e::l=>cond (eqk t (key e)) l (e::XBr key eqk t l)
structure Xum (f:α→List Value) (kc:κ→List Value) (vc:ν→Value) (key:α→κ) (val:α→ν) (mk:κ→ν→α) (eqk:κ→κ→Bool) (os:List (Nat×SK)):Prop where
 cells:∀ e,f e=[.agg ⟨kc (key e)⟩,vc (val e)]
 eq:∀ a b,Xck (kc a) (kc b) os=some (eqk a b)
 len:∀ a b,(kc a).length=(kc b).length
 offs:∀ a,os.map (·.1)=List.range (kc a).length
 fk:∀ a,Xbg.flatL (kc a)=true
 fv:∀ v,Xbg (vc v)=true
 mkk:∀ k v,key (mk k v)=k
 mkv:∀ k v,val (mk k v)=v
variable {f:α→List Value} {kc:κ→List Value} {vc:ν→Value} {key:α→κ} {val:α→ν} {mk:κ→ν→α} {eqk:κ→κ→Bool} {os:List (Nat×SK)}
theorem Xum.cons (h:Xum f kc vc key val mk eqk os) (e:α) (l:List α):vT f (e::l)=.agg ⟨kc (key e)⟩::vc (val e)::vT f l:=by
 show f e++vT f l=_
 rw [h.cells];rfl
theorem Xum.find (h:Xum f kc vc key val mk eqk os) (t:κ):∀ xs:List α,∃ r,XiV os (kc t) (vT f xs)=some r ∧
 ((r=none∧XBC key eqk t xs=false∧(∀ z,XHI key eqk val z t xs=z)∧(∀ v,XGN key eqk mk t v xs=xs++[mk t v])∧XBr key eqk t xs=xs) ∨
  ∃ i v,r=some (2*i,vc v)∧XBC key eqk t xs=true∧(∀ z,XHI key eqk val z t xs=v)∧(∀ v,(vT f xs).set (2*i+1) (vc v)=vT f (XGN key eqk mk t v xs))∧(vT f xs).take (2*i)++(vT f xs).drop (2*i+2)=vT f (XBr key eqk t xs))
 | []=>⟨none,rfl,.inl ⟨rfl,rfl,fun _=>rfl,fun _=>rfl,rfl⟩⟩
 | e::l=>by
   obtain ⟨r,h1,h2⟩:=Xum.find h t l
   rw [h.cons]
   cases he:eqk t (key e) with
   | true=>
     refine ⟨some (0,vc (val e)),?_,.inr ⟨0,val e,rfl,?_,fun z=>?_,fun v=>?_,?_⟩⟩
     ·simp only [XiV,h.eq,he,cond_true,if_pos (h.len (key e) t)]
     ·simp [XBC,he]
     ·simp [XHI,he]
     ·simp only [XGN,he,cond_true];rw [h.cons,h.mkk,h.mkv];rfl
     ·simp [XBr,he]
   | false=>
     have hm:XiV os (kc t) (.agg ⟨kc (key e)⟩::vc (val e)::vT f l)=some (r.map fun q=>(q.1+2,q.2)):=by
      simp only [XiV,h.eq,he,cond_false,h1];rfl
     rcases h2 with ⟨rfl,g1,g2,g3,g4⟩|⟨i,v,rfl,g1,g2,g3,g4⟩
     ·refine ⟨none,hm,.inl ⟨rfl,?_,fun z=>?_,fun v=>?_,?_⟩⟩
      ·simp only [XBC,List.any_cons,he,Bool.false_or];exact g1
      ·simp only [XHI,he,cond_false];exact g2 z
      ·simp only [XGN,he,cond_false,g3];rfl
      ·simp only [XBr,he,cond_false,g4]
     ·refine ⟨some (2*i+2,vc v),hm,.inr ⟨i+1,v,by congr 2,?_,fun z=>?_,fun v=>?_,?_⟩⟩
      ·simp only [XBC,List.any_cons,he,Bool.false_or];exact g1
      ·simp only [XHI,he,cond_false];exact g2 z
      ·simp only [XGN,he,cond_false];rw [h.cons,←g3,show 2*(i+1)+1=(2*i+1)+1+1 by omega];rfl
      ·simp only [XBr,he,cond_false];rw [h.cons,←g4,show 2*(i+1)=2*i+1+1 by omega];rfl
theorem Xum.self (h:Xum f kc vc key val mk eqk os) (t:κ):(Xck (kc t) (kc t) os).isSome=true:=by rw [h.eq];rfl
theorem Xum.get (h:Xum f kc vc key val mk eqk os) (z:ν) (t:κ) (xs:List α):XxL os (vc z) (kc t) (vT f xs)=some (vc (XHI key eqk val z t xs),XBC key eqk t xs):=by
 obtain ⟨r,h1,⟨rfl,g1,g2,_⟩|⟨i,v,rfl,g1,g2,_⟩⟩:=h.find t xs
 ·simp only [XxL,if_pos (h.self t),h1,g1,g2]
 ·simp only [XxL,if_pos (h.self t),h1,g1,g2]
theorem Xum.put (h:Xum f kc vc key val mk eqk os) (t:κ) (v:ν) (xs:List α):Xxw os (kc t) (vc v) (vT f xs)=some (vT f (XGN key eqk mk t v xs)):=by
 have hc:=And.intro (h.self t) (And.intro (h.offs t) (And.intro (h.fk t) (h.fv v)))
 obtain ⟨r,h1,⟨rfl,_,_,g3,_⟩|⟨i,u,rfl,_,_,g3,_⟩⟩:=h.find t xs
 ·simp only [Xxw,if_pos hc,h1,g3]
  rw [←XF0,show vT f [mk t v]=[.agg ⟨kc t⟩,vc v] by rw [h.cons,h.mkk,h.mkv];rfl]
 ·simp only [Xxw,if_pos hc,h1,g3]
theorem Xum.del (h:Xum f kc vc key val mk eqk os) (t:κ) (xs:List α):Xxk os (kc t) (vT f xs)=some (vT f (XBr key eqk t xs)):=by
 obtain ⟨r,h1,⟨rfl,_,_,_,g4⟩|⟨i,u,rfl,_,_,_,g4⟩⟩:=h.find t xs
 ·simp only [Xxk,if_pos (h.self t),h1,g4]
 ·simp only [Xxk,if_pos (h.self t),h1,g4]
theorem Xum.length (h:Xum f kc vc key val mk eqk os) (xs:List α):(vT f xs).length=2*xs.length:=by
 rw [Xld (c:=2) (fun e=>by rw [h.cells];rfl),Nat.mul_comm]
end
end Go.Vm
namespace Go.Vm.Code
open Go Go.Vm Go.Proofs
set_option maxRecDepth 100000
set_option maxHeartbeats 4000000
set_option linter.unusedVariables false
@[ext] structure Xae where
 V6:Bool
 Hi:Int
 Lo:Int
 deriving DecidableEq
@[ext] structure Xag where
 Proto:Int
 Src:Xae
 Dst:Xae
 SPort:Int
 DPort:Int
 deriving DecidableEq
@[ext] structure Xcv where
 Kind:Int
 S:List UInt8
 T:Xag
 Clock:Int
 deriving DecidableEq
@[ext] structure Xah where
 key:Xag
 val:Int
 deriving DecidableEq
@[ext] structure Xaj where
 id_:Int
 clock:Int
 cookies:List Xah
 deriving DecidableEq
@[ext] structure Xa8 where
 V6:Bool
 Backend:Int
 Cookie:Int
 First:Bool
 Instance:Int
 deriving DecidableEq
@[ext] structure Xam where
 s:List UInt8
 made:Bool
 bad:Bool
 deriving DecidableEq
@[ext] structure Xar where
 Tuple:Xag
 Flags:Int
 Stamped:Bool
 Val:Int
 Echo:Int
 Long:Bool
 CID:List UInt8
 Size:Int
 deriving DecidableEq
@[ext] structure Xbc where
 src:Xae
 dst:Xae
 proto:Int
 body:List UInt8
 deriving DecidableEq
@[ext] structure Xa1 where
 Class:Int
 Mark:Int
 Whole:Bool
 TTL:Int
 Proto:Int
 Src:Xae
 Dst:Xae
 Options:List UInt8
 deriving DecidableEq
@[ext] structure XdA where
 Reader:Xam
 deriving DecidableEq
@[ext] structure Xb5 where
 Class:Int
 Label:Int
 Next:Int
 Hop:Int
 Src:Xae
 Dst:Xae
 deriving DecidableEq
@[ext] structure XbO where
 SPort:Int
 DPort:Int
 Seq:Int
 Ack:Int
 Flags:Int
 Window:Int
 Urgent:Int
 Options:List UInt8
 deriving DecidableEq
@[ext] structure Xdd where
 Kind:Int
 Data:List UInt8
 deriving DecidableEq
@[ext] structure Xb4 where
 SPort:Int
 DPort:Int
 deriving DecidableEq
@[ext] structure XbZ where
 Long:Bool
 Bits:Int
 Version:Int
 DCID:List UInt8
 SCID:List UInt8
 Rest:List UInt8
 deriving DecidableEq
structure NilMap where
 mk ::
 deriving DecidableEq
@[ext] structure XbJ where
 id_:Int
 clock:Int
 cookies:NilMap
 deriving DecidableEq
@[ext] structure XaU where
 ID:Int
 Clock:Int
 Flows:List Xag
 Cookies:List Int
 deriving DecidableEq
@[ext] structure XeY where
 src:Xae
 dst:Xae
 proto:Int
 size:Int
 body:List UInt8
 deriving DecidableEq
@[ext] structure XcZ where
 Kind:Int
 Data:List UInt8
 At:Int
 deriving DecidableEq
def XkR (x:Xae):List Value:=[.bool x.V6,.int .u64 x.Hi,.int .u64 x.Lo]
theorem XrT (x:Xae):(XkR x).length=3:=rfl
theorem Xcj (x:Xae):(XkR x).all Xir=true:=rfl
def Xn8:List Value→Option Xae
 | [.bool a1,.int .u64 a2,.int .u64 a3]=>some (Xae.mk a1 a2 a3)
 | _=>none
theorem Xm9 (cs:List Value) (x:Xae) (h:Xn8 cs=some x):cs=XkR x:=by
 unfold Xn8 at h;split at h
 ·cases h;rfl
 ·cases h
def Xde:Value→Option Xae
 | .agg ⟨cs⟩=>Xn8 cs
 | _=>none
theorem Xr1 (v:Value) (x:Xae) (h:Xde v=some x):v=.agg ⟨XkR x⟩:=by
 unfold Xde at h;split at h
 ·rw [Xm9 _ _ h]
 ·cases h
theorem XcV (x:Xae):Xde (.agg ⟨XkR x⟩)=some x:=rfl
def Xbz (x:Xag):List Value:=[.int .i64 x.Proto,.bool x.Src.V6,.int .u64 x.Src.Hi,.int .u64 x.Src.Lo,.bool x.Dst.V6,.int .u64 x.Dst.Hi,.int .u64 x.Dst.Lo,.int .i64 x.SPort,.int .i64 x.DPort]
theorem XbE (x:Xag):(Xbz x).length=9:=rfl
theorem Xba (x:Xag):Xbg.flatL (Xbz x)=true:=rfl
theorem XbV (x:Xag):(Xbz x).all Xir=true:=rfl
@[simp] theorem Xyl (xs:List Xag):(vT Xbz xs).length=xs.length*9:=Xld XbE xs
@[simp] theorem Xye (xs:List Xag) (n:Nat):(vT Xbz xs).take (n*9)=vT Xbz (xs.take n):=Xof XbE xs n
@[simp] theorem Xyg (xs:List Xag) (n:Nat):(vT Xbz xs).drop (n*9)=vT Xbz (xs.drop n):=XnZ XbE xs n
def XhZ:List Value→Option Xag
 | [.int .i64 a1,.bool a2,.int .u64 a3,.int .u64 a4,.bool a5,.int .u64 a6,.int .u64 a7,.int .i64 a8,.int .i64 a9]=>some (Xag.mk a1 (Xae.mk a2 a3 a4) (Xae.mk a5 a6 a7) a8 a9)
 | _=>none
theorem XgJ (cs:List Value) (x:Xag) (h:XhZ cs=some x):cs=Xbz x:=by
 unfold XhZ at h;split at h
 ·cases h;rfl
 ·cases h
theorem XsL (x:Xag):XhZ (Xbz x)=some x:=rfl
def XdQ:Value→Option Xag
 | .agg ⟨cs⟩=>XhZ cs
 | _=>none
theorem XqM (v:Value) (x:Xag) (h:XdQ v=some x):v=.agg ⟨Xbz x⟩:=by
 unfold XdQ at h;split at h
 ·rw [XgJ _ _ h]
 ·cases h
theorem XdX (x:Xag):XdQ (.agg ⟨Xbz x⟩)=some x:=rfl
def Xd7 (x:Xcv):List Value:=[.int .i64 x.Kind,.string ⟨⟨x.S⟩⟩,.int .i64 x.T.Proto,.bool x.T.Src.V6,.int .u64 x.T.Src.Hi,.int .u64 x.T.Src.Lo,.bool x.T.Dst.V6,.int .u64 x.T.Dst.Hi,.int .u64 x.T.Dst.Lo,.int .i64 x.T.SPort,.int .i64 x.T.DPort,.int .u32 x.Clock]
theorem Xci (x:Xcv):(Xd7 x).length=12:=rfl
theorem XcT (x:Xcv):Xbg.flatL (Xd7 x)=true:=rfl
theorem Xce (x:Xcv):(Xd7 x).all Xir=true:=rfl
@[simp] theorem XBs (xs:List Xcv):(vT Xd7 xs).length=xs.length*12:=Xld Xci xs
@[simp] theorem XBu (xs:List Xcv) (n:Nat):(vT Xd7 xs).take (n*12)=vT Xd7 (xs.take n):=Xof Xci xs n
@[simp] theorem XBx (xs:List Xcv) (n:Nat):(vT Xd7 xs).drop (n*12)=vT Xd7 (xs.drop n):=XnZ Xci xs n
def Xi4:List Value→Option Xcv
 | [.int .i64 a1,.string ⟨⟨a2⟩⟩,.int .i64 a3,.bool a4,.int .u64 a5,.int .u64 a6,.bool a7,.int .u64 a8,.int .u64 a9,.int .i64 a10,.int .i64 a11,.int .u32 a12]=>some (Xcv.mk a1 a2 (Xag.mk a3 (Xae.mk a4 a5 a6) (Xae.mk a7 a8 a9) a10 a11) a12)
 | _=>none
theorem Xj6 (cs:List Value) (x:Xcv) (h:Xi4 cs=some x):cs=Xd7 x:=by
 unfold Xi4 at h;split at h
 ·cases h;rfl
 ·cases h
theorem Xtu (x:Xcv):Xi4 (Xd7 x)=some x:=rfl
def XrB:Value→Option Xcv
 | .agg ⟨cs⟩=>Xi4 cs
 | _=>none
theorem XsF (v:Value) (x:Xcv) (h:XrB v=some x):v=.agg ⟨Xd7 x⟩:=by
 unfold XrB at h;split at h
 ·rw [Xj6 _ _ h]
 ·cases h
def XaA (x:Xah):List Value:=[.agg ⟨Xbz x.key⟩,.int .u64 x.val]
theorem XmB (x:Xah):(XaA x).length=2:=rfl
def XgM:List Value→Option Xah
 | [.agg ⟨cs⟩,.int .u64 v]=>(XhZ cs).bind fun k=>some ⟨k,v⟩
 | _=>none
theorem Xmu (cs:List Value) (x:Xah) (h:XgM cs=some x):cs=XaA x:=by
 unfold XgM at h;split at h
 ·simp only [Option.bind_eq_some_iff] at h
  obtain ⟨k,hk,h⟩:=h
  cases h;rw [XgJ _ _ hk];rfl
 ·cases h
theorem Xnq (x:Xah):XgM (XaA x)=some x:=rfl
def XaG (a b:Xag):Bool:=a.Proto==b.Proto&&(a.Src.V6==b.Src.V6&&(a.Src.Hi==b.Src.Hi&&(a.Src.Lo==b.Src.Lo&&(a.Dst.V6==b.Dst.V6&&(a.Dst.Hi==b.Dst.Hi&&(a.Dst.Lo==b.Dst.Lo&&(a.SPort==b.SPort&&(a.DPort==b.DPort&&true))))))))
def Xa6 (t:Xag) (xs:List Xah):Bool:=XBC (fun e:Xah=>e.key) XaG t xs
def Xaz (z:Int) (t:Xag) (xs:List Xah):Int:=XHI (fun e:Xah=>e.key) XaG (fun e:Xah=>e.val) z t xs
def Xbl (t:Xag) (v:Int) (xs:List Xah):List Xah:=XGN (fun e:Xah=>e.key) XaG Xah.mk t v xs
def XbR (t:Xag) (xs:List Xah):List Xah:=XBr (fun e:Xah=>e.key) XaG t xs
theorem Xew:Xum XaA Xbz (fun v:Int=>.int .u64 v) (fun e:Xah=>e.key) (fun e:Xah=>e.val) Xah.mk XaG [(0,.int .i64),(1,.bool),(2,.int .u64),(3,.int .u64),(4,.bool),(5,.int .u64),(6,.int .u64),(7,.int .i64),(8,.int .i64)]:=⟨fun _=>rfl,fun _ _=>rfl,fun _ _=>rfl,fun _=>rfl,fun _=>rfl,fun _=>rfl,fun _ _=>rfl,fun _ _=>rfl⟩
def XjT (x:Xa8):List Value:=[.bool x.V6,.int .i64 x.Backend,.int .u64 x.Cookie,.bool x.First,.int .i64 x.Instance]
theorem XqL (x:Xa8):(XjT x).length=5:=rfl
theorem XbX (x:Xa8):(XjT x).all Xir=true:=rfl
def Xmy:List Value→Option Xa8
 | [.bool a1,.int .i64 a2,.int .u64 a3,.bool a4,.int .i64 a5]=>some (Xa8.mk a1 a2 a3 a4 a5)
 | _=>none
theorem Xl7 (cs:List Value) (x:Xa8) (h:Xmy cs=some x):cs=XjT x:=by
 unfold Xmy at h;split at h
 ·cases h;rfl
 ·cases h
def Xkz:Value→Option Xa8
 | .agg ⟨cs⟩=>Xmy cs
 | _=>none
theorem XqO (v:Value) (x:Xa8) (h:Xkz v=some x):v=.agg ⟨XjT x⟩:=by
 unfold Xkz at h;split at h
 ·rw [Xl7 _ _ h]
 ·cases h
theorem XrZ (x:Xa8):Xkz (.agg ⟨XjT x⟩)=some x:=rfl
def XhF (x:Xam):List Value:=[.string ⟨⟨x.s⟩⟩,.bool x.made,.bool x.bad]
theorem Xox (x:Xam):(XhF x).length=3:=rfl
theorem Xbk (x:Xam):(XhF x).all Xir=true:=rfl
def XdL:List Value→Option Xam
 | [.string ⟨⟨a1⟩⟩,.bool a2,.bool a3]=>some (Xam.mk a1 a2 a3)
 | _=>none
theorem Xh4 (cs:List Value) (x:Xam) (h:XdL cs=some x):cs=XhF x:=by
 unfold XdL at h;split at h
 ·cases h;rfl
 ·cases h
theorem XfS (x:Xam):XdL (XhF x)=some x:=rfl
def Xmi:Value→Option Xam
 | .agg ⟨cs⟩=>XdL cs
 | _=>none
theorem Xoz (v:Value) (x:Xam) (h:Xmi v=some x):v=.agg ⟨XhF x⟩:=by
 unfold Xmi at h;split at h
 ·rw [Xh4 _ _ h]
 ·cases h
def Xh9 (x:Xar):List Value:=[.int .i64 x.Tuple.Proto,.bool x.Tuple.Src.V6,.int .u64 x.Tuple.Src.Hi,.int .u64 x.Tuple.Src.Lo,.bool x.Tuple.Dst.V6,.int .u64 x.Tuple.Dst.Hi,.int .u64 x.Tuple.Dst.Lo,.int .i64 x.Tuple.SPort,.int .i64 x.Tuple.DPort,.int .i64 x.Flags,.bool x.Stamped,.int .u32 x.Val,.int .u32 x.Echo,.bool x.Long,.string ⟨⟨x.CID⟩⟩,.int .i64 x.Size]
theorem Xp9 (x:Xar):(Xh9 x).length=16:=rfl
theorem XbH (x:Xar):(Xh9 x).all Xir=true:=rfl
def Xhj:List Value→Option Xar
 | [.int .i64 a1,.bool a2,.int .u64 a3,.int .u64 a4,.bool a5,.int .u64 a6,.int .u64 a7,.int .i64 a8,.int .i64 a9,.int .i64 a10,.bool a11,.int .u32 a12,.int .u32 a13,.bool a14,.string ⟨⟨a15⟩⟩,.int .i64 a16]=>some (Xar.mk (Xag.mk a1 (Xae.mk a2 a3 a4) (Xae.mk a5 a6 a7) a8 a9) a10 a11 a12 a13 a14 a15 a16)
 | _=>none
theorem Xln (cs:List Value) (x:Xar) (h:Xhj cs=some x):cs=Xh9 x:=by
 unfold Xhj at h;split at h
 ·cases h;rfl
 ·cases h
theorem Xmc (x:Xar):Xhj (Xh9 x)=some x:=rfl
def Xiz:Value→Option Xar
 | .agg ⟨cs⟩=>Xhj cs
 | _=>none
theorem XqB (v:Value) (x:Xar) (h:Xiz v=some x):v=.agg ⟨Xh9 x⟩:=by
 unfold Xiz at h;split at h
 ·rw [Xln _ _ h]
 ·cases h
theorem Xmj (x:Xar):Xiz (.agg ⟨Xh9 x⟩)=some x:=rfl
def XhN (x:Xbc):List Value:=[.bool x.src.V6,.int .u64 x.src.Hi,.int .u64 x.src.Lo,.bool x.dst.V6,.int .u64 x.dst.Hi,.int .u64 x.dst.Lo,.int .i64 x.proto,.string ⟨⟨x.body⟩⟩]
theorem XnV (x:Xbc):(XhN x).length=8:=rfl
theorem Xbj (x:Xbc):(XhN x).all Xir=true:=rfl
def XjD:List Value→Option Xbc
 | [.bool a1,.int .u64 a2,.int .u64 a3,.bool a4,.int .u64 a5,.int .u64 a6,.int .i64 a7,.string ⟨⟨a8⟩⟩]=>some (Xbc.mk (Xae.mk a1 a2 a3) (Xae.mk a4 a5 a6) a7 a8)
 | _=>none
theorem XjW (cs:List Value) (x:Xbc) (h:XjD cs=some x):cs=XhN x:=by
 unfold XjD at h;split at h
 ·cases h;rfl
 ·cases h
def XgF:Value→Option Xbc
 | .agg ⟨cs⟩=>XjD cs
 | _=>none
theorem XnY (v:Value) (x:Xbc) (h:XgF v=some x):v=.agg ⟨XhN x⟩:=by
 unfold XgF at h;split at h
 ·rw [XjW _ _ h]
 ·cases h
theorem XkH (x:Xbc):XgF (.agg ⟨XhN x⟩)=some x:=rfl
def Xjo (x:Xa1):List Value:=[.int .i64 x.Class,.int .i64 x.Mark,.bool x.Whole,.int .i64 x.TTL,.int .i64 x.Proto,.bool x.Src.V6,.int .u64 x.Src.Hi,.int .u64 x.Src.Lo,.bool x.Dst.V6,.int .u64 x.Dst.Hi,.int .u64 x.Dst.Lo,.string ⟨⟨x.Options⟩⟩]
theorem XoV (x:Xa1):(Xjo x).length=12:=rfl
theorem Xbs (x:Xa1):(Xjo x).all Xir=true:=rfl
def Xkf:List Value→Option Xa1
 | [.int .i64 a1,.int .i64 a2,.bool a3,.int .i64 a4,.int .i64 a5,.bool a6,.int .u64 a7,.int .u64 a8,.bool a9,.int .u64 a10,.int .u64 a11,.string ⟨⟨a12⟩⟩]=>some (Xa1.mk a1 a2 a3 a4 a5 (Xae.mk a6 a7 a8) (Xae.mk a9 a10 a11) a12)
 | _=>none
theorem XkL (cs:List Value) (x:Xa1) (h:Xkf cs=some x):cs=Xjo x:=by
 unfold Xkf at h;split at h
 ·cases h;rfl
 ·cases h
def XnC:Value→Option Xa1
 | .agg ⟨cs⟩=>Xkf cs
 | _=>none
theorem XoU (v:Value) (x:Xa1) (h:XnC v=some x):v=.agg ⟨Xjo x⟩:=by
 unfold XnC at h;split at h
 ·rw [XkL _ _ h]
 ·cases h
def Xkr (x:Xb5):List Value:=[.int .i64 x.Class,.int .i64 x.Label,.int .i64 x.Next,.int .i64 x.Hop,.bool x.Src.V6,.int .u64 x.Src.Hi,.int .u64 x.Src.Lo,.bool x.Dst.V6,.int .u64 x.Dst.Hi,.int .u64 x.Dst.Lo]
theorem XpW (x:Xb5):(Xkr x).length=10:=rfl
theorem XbG (x:Xb5):(Xkr x).all Xir=true:=rfl
def Xk8:List Value→Option Xb5
 | [.int .i64 a1,.int .i64 a2,.int .i64 a3,.int .i64 a4,.bool a5,.int .u64 a6,.int .u64 a7,.bool a8,.int .u64 a9,.int .u64 a10]=>some (Xb5.mk a1 a2 a3 a4 (Xae.mk a5 a6 a7) (Xae.mk a8 a9 a10))
 | _=>none
theorem Xlm (cs:List Value) (x:Xb5) (h:Xk8 cs=some x):cs=Xkr x:=by
 unfold Xk8 at h;split at h
 ·cases h;rfl
 ·cases h
def XoT:Value→Option Xb5
 | .agg ⟨cs⟩=>Xk8 cs
 | _=>none
theorem Xqh (v:Value) (x:Xb5) (h:XoT v=some x):v=.agg ⟨Xkr x⟩:=by
 unfold XoT at h;split at h
 ·rw [Xlm _ _ h]
 ·cases h
def Xnb (x:XbO):List Value:=[.int .i64 x.SPort,.int .i64 x.DPort,.int .u32 x.Seq,.int .u32 x.Ack,.int .i64 x.Flags,.int .i64 x.Window,.int .i64 x.Urgent,.string ⟨⟨x.Options⟩⟩]
theorem Xsf (x:XbO):(Xnb x).length=8:=rfl
theorem Xcc (x:XbO):(Xnb x).all Xir=true:=rfl
def XnW:List Value→Option XbO
 | [.int .i64 a1,.int .i64 a2,.int .u32 a3,.int .u32 a4,.int .i64 a5,.int .i64 a6,.int .i64 a7,.string ⟨⟨a8⟩⟩]=>some (XbO.mk a1 a2 a3 a4 a5 a6 a7 a8)
 | _=>none
theorem XnI (cs:List Value) (x:XbO) (h:XnW cs=some x):cs=Xnb x:=by
 unfold XnW at h;split at h
 ·cases h;rfl
 ·cases h
def XqU:Value→Option XbO
 | .agg ⟨cs⟩=>XnW cs
 | _=>none
theorem Xr6 (v:Value) (x:XbO) (h:XqU v=some x):v=.agg ⟨Xnb x⟩:=by
 unfold XqU at h;split at h
 ·rw [XnI _ _ h]
 ·cases h
def XgQ (x:Xdd):List Value:=[.int .i64 x.Kind,.string ⟨⟨x.Data⟩⟩]
theorem Xfe (x:Xdd):(XgQ x).length=2:=rfl
theorem Xcn (x:Xdd):Xbg.flatL (XgQ x)=true:=rfl
theorem Xcw (x:Xdd):(XgQ x).all Xir=true:=rfl
@[simp] theorem XC9 (xs:List Xdd):(vT XgQ xs).length=xs.length*2:=Xld Xfe xs
@[simp] theorem XDw (xs:List Xdd) (n:Nat):(vT XgQ xs).take (n*2)=vT XgQ (xs.take n):=Xof Xfe xs n
@[simp] theorem XEv (xs:List Xdd) (n:Nat):(vT XgQ xs).drop (n*2)=vT XgQ (xs.drop n):=XnZ Xfe xs n
def Xqg:List Value→Option Xdd
 | [.int .i64 a1,.string ⟨⟨a2⟩⟩]=>some (Xdd.mk a1 a2)
 | _=>none
theorem XkY (cs:List Value) (x:Xdd) (h:Xqg cs=some x):cs=XgQ x:=by
 unfold Xqg at h;split at h
 ·cases h;rfl
 ·cases h
def Xt7:Value→Option Xdd
 | .agg ⟨cs⟩=>Xqg cs
 | _=>none
theorem Xtv (v:Value) (x:Xdd) (h:Xt7 v=some x):v=.agg ⟨XgQ x⟩:=by
 unfold Xt7 at h;split at h
 ·rw [XkY _ _ h]
 ·cases h
def XnG (x:Xb4):List Value:=[.int .i64 x.SPort,.int .i64 x.DPort]
theorem XsM (x:Xb4):(XnG x).length=2:=rfl
theorem Xcb (x:Xb4):(XnG x).all Xir=true:=rfl
def Xom:List Value→Option Xb4
 | [.int .i64 a1,.int .i64 a2]=>some (Xb4.mk a1 a2)
 | _=>none
theorem Xne (cs:List Value) (x:Xb4) (h:Xom cs=some x):cs=XnG x:=by
 unfold Xom at h;split at h
 ·cases h;rfl
 ·cases h
def Xrn:Value→Option Xb4
 | .agg ⟨cs⟩=>Xom cs
 | _=>none
theorem Xr2 (v:Value) (x:Xb4) (h:Xrn v=some x):v=.agg ⟨XnG x⟩:=by
 unfold Xrn at h;split at h
 ·rw [Xne _ _ h]
 ·cases h
def XlU (x:XbZ):List Value:=[.bool x.Long,.int .i64 x.Bits,.int .u32 x.Version,.string ⟨⟨x.DCID⟩⟩,.string ⟨⟨x.SCID⟩⟩,.string ⟨⟨x.Rest⟩⟩]
theorem XqT (x:XbZ):(XlU x).length=6:=rfl
theorem XbW (x:XbZ):(XlU x).all Xir=true:=rfl
def Xmw:List Value→Option XbZ
 | [.bool a1,.int .i64 a2,.int .u32 a3,.string ⟨⟨a4⟩⟩,.string ⟨⟨a5⟩⟩,.string ⟨⟨a6⟩⟩]=>some (XbZ.mk a1 a2 a3 a4 a5 a6)
 | _=>none
theorem Xmk (cs:List Value) (x:XbZ) (h:Xmw cs=some x):cs=XlU x:=by
 unfold Xmw at h;split at h
 ·cases h;rfl
 ·cases h
def Xqz:Value→Option XbZ
 | .agg ⟨cs⟩=>Xmw cs
 | _=>none
theorem XqS (v:Value) (x:XbZ) (h:Xqz v=some x):v=.agg ⟨XlU x⟩:=by
 unfold Xqz at h;split at h
 ·rw [Xmk _ _ h]
 ·cases h
def XmK (x:XeY):List Value:=[.bool x.src.V6,.int .u64 x.src.Hi,.int .u64 x.src.Lo,.bool x.dst.V6,.int .u64 x.dst.Hi,.int .u64 x.dst.Lo,.int .i64 x.proto,.int .i64 x.size,.string ⟨⟨x.body⟩⟩]
theorem XrN (x:XeY):(XmK x).length=9:=rfl
theorem Xcd (x:XeY):(XmK x).all Xir=true:=rfl
def Xoo:List Value→Option XeY
 | [.bool a1,.int .u64 a2,.int .u64 a3,.bool a4,.int .u64 a5,.int .u64 a6,.int .i64 a7,.int .i64 a8,.string ⟨⟨a9⟩⟩]=>some (XeY.mk (Xae.mk a1 a2 a3) (Xae.mk a4 a5 a6) a7 a8 a9)
 | _=>none
theorem Xm1 (cs:List Value) (x:XeY) (h:Xoo cs=some x):cs=XmK x:=by
 unfold Xoo at h;split at h
 ·cases h;rfl
 ·cases h
def Xrp:Value→Option XeY
 | .agg ⟨cs⟩=>Xoo cs
 | _=>none
theorem XsK (v:Value) (x:XeY) (h:Xrp v=some x):v=.agg ⟨XmK x⟩:=by
 unfold Xrp at h;split at h
 ·rw [Xm1 _ _ h]
 ·cases h
def Xgu (x:XcZ):List Value:=[.int .i64 x.Kind,.string ⟨⟨x.Data⟩⟩,.int .i64 x.At]
theorem Xc8 (x:XcZ):(Xgu x).length=3:=rfl
theorem Xcu (x:XcZ):Xbg.flatL (Xgu x)=true:=rfl
theorem Xcy (x:XcZ):(Xgu x).all Xir=true:=rfl
@[simp] theorem XDr (xs:List XcZ):(vT Xgu xs).length=xs.length*3:=Xld Xc8 xs
@[simp] theorem XDL (xs:List XcZ) (n:Nat):(vT Xgu xs).take (n*3)=vT Xgu (xs.take n):=Xof Xc8 xs n
@[simp] theorem XDS (xs:List XcZ) (n:Nat):(vT Xgu xs).drop (n*3)=vT Xgu (xs.drop n):=XnZ Xc8 xs n
def Xpy:List Value→Option XcZ
 | [.int .i64 a1,.string ⟨⟨a2⟩⟩,.int .i64 a3]=>some (XcZ.mk a1 a2 a3)
 | _=>none
theorem Xlo (cs:List Value) (x:XcZ) (h:Xpy cs=some x):cs=Xgu x:=by
 unfold Xpy at h;split at h
 ·cases h;rfl
 ·cases h
def XtE:Value→Option XcZ
 | .agg ⟨cs⟩=>Xpy cs
 | _=>none
theorem XtU (v:Value) (x:XcZ) (h:XtE v=some x):v=.agg ⟨Xgu x⟩:=by
 unfold XtE at h;split at h
 ·rw [Xlo _ _ h]
 ·cases h
def XhH (k:Nat):Value→List (Option (List Value))→Option XdA
 | .agg ⟨[.pointer (some ⟨k0,0,none⟩)]⟩,[some c0]=>match XdL c0 with|some x0=>(if k0=k+0 then some (XdA.mk x0) else none)|none=>none
 | _,_=>none
theorem XnA {k:Nat} {v:Value} {cs:List (Option (List Value))} {x:XdA} (h:XhH k v cs=some x):v=.agg ⟨[.pointer (some ⟨k+0,0,none⟩)]⟩∧cs=[some [.string ⟨⟨x.Reader.s⟩⟩,.bool x.Reader.made,.bool x.Reader.bad]]:=by
 unfold XhH at h;split at h<;>try (cases h;done)
 split at h<;>try (cases h;done)
 rename_i x0 e0
 split at h<;>cases h
 rename_i hk
 subst hk
 obtain rfl:=Xh4 _ _ e0
 exact ⟨rfl,rfl⟩
theorem Xn7 (k:Nat) (x:XdA):XhH k (.agg ⟨[.pointer (some ⟨k+0,0,none⟩)]⟩) [some [.string ⟨⟨x.Reader.s⟩⟩,.bool x.Reader.made,.bool x.Reader.bad]]=some x:=by
 show (if k+0=k+0 then some x else none)=_
 simp
def XfF (k:Nat):Value→List (Option (List Value))→Option XbJ
 | .pointer (some ⟨k0,0,none⟩),[some [.int .i64 a1,.int .u32 a2,.map none],none]=>if k0=k+0 then some (XbJ.mk a1 a2 NilMap.mk) else none
 | _,_=>none
theorem XqF {k:Nat} {v:Value} {cs:List (Option (List Value))} {x:XbJ} (h:XfF k v cs=some x):v=.pointer (some ⟨k+0,0,none⟩)∧cs=[some [.int .i64 x.id_,.int .u32 x.clock,.map none],none]:=by
 unfold XfF at h;split at h<;>try (cases h;done)
 split at h<;>cases h
 rename_i hk
 subst hk
 exact ⟨rfl,rfl⟩
theorem Xim (k:Nat) (x:XbJ):XfF k (.pointer (some ⟨k+0,0,none⟩)) [some [.int .i64 x.id_,.int .u32 x.clock,.map none],none]=some x:=by
 simp only [XfF];simp
def Xd5 (k:Nat):Value→List (Option (List Value))→Option Xaj
 | .pointer (some ⟨k0,0,none⟩),[some [.int .i64 a1,.int .u32 a2,.map (some k1)],some c1]=>match (unR 2 XgM) c1 with|some x1=>(if k0=k+0∧k1=k+1 then some (Xaj.mk a1 a2 x1) else none)|none=>none
 | _,_=>none
theorem Xp1 {k:Nat} {v:Value} {cs:List (Option (List Value))} {x:Xaj} (h:Xd5 k v cs=some x):v=.pointer (some ⟨k+0,0,none⟩)∧cs=[some [.int .i64 x.id_,.int .u32 x.clock,.map (some (k+1))],some (vT XaA x.cookies)]:=by
 unfold Xd5 at h;split at h<;>try (cases h;done)
 split at h<;>try (cases h;done)
 rename_i x1 e1
 split at h<;>cases h
 rename_i hk
 obtain ⟨rfl,rfl⟩:=hk
 obtain rfl:=Xpx Xmu e1
 exact ⟨rfl,rfl⟩
theorem XeE (k:Nat) (x:Xaj):Xd5 k (.pointer (some ⟨k+0,0,none⟩)) [some [.int .i64 x.id_,.int .u32 x.clock,.map (some (k+1))],some (vT XaA x.cookies)]=some x:=by
 simp only [Xd5,XzZ XmB (by decide) Xnq];simp
def Xgq (k:Nat):Value→List (Option (List Value))→Option XaU
 | .pointer (some ⟨k0,0,none⟩),[some [.int .i64 a1,.int .u32 a2,.slice (some ⟨k1,0,none⟩) n1 s1,.slice (some ⟨k2,0,none⟩) n2 s2],some c1,some c2]=>match (unR 9 XhZ) c1 with|some x1=>(match (unL (asI .u64)) c2 with|some x2=>(if k0=k+0∧k1=k+1∧n1=x1.length∧s1=9∧k2=k+2∧n2=x2.length∧s2=1 then some (XaU.mk a1 a2 x1 x2) else none)|none=>none)|none=>none
 | _,_=>none
theorem XrR {k:Nat} {v:Value} {cs:List (Option (List Value))} {x:XaU} (h:Xgq k v cs=some x):v=.pointer (some ⟨k+0,0,none⟩)∧cs=[some [.int .i64 x.ID,.int .u32 x.Clock,.slice (some ⟨k+1,0,none⟩) x.Flows.length 9,.slice (some ⟨k+2,0,none⟩) x.Cookies.length 1],some (vT Xbz x.Flows),some (vI .u64 x.Cookies)]:=by
 unfold Xgq at h;split at h<;>try (cases h;done)
 split at h<;>try (cases h;done)
 rename_i x1 e1
 split at h<;>try (cases h;done)
 rename_i x2 e2
 split at h<;>cases h
 rename_i hk
 obtain ⟨rfl,rfl,rfl,rfl,rfl,rfl,rfl⟩:=hk
 obtain rfl:=Xpx XgJ e1
 obtain rfl:=XFn e2
 exact ⟨rfl,rfl⟩
theorem Xis (k:Nat) (x:XaU):Xgq k (.pointer (some ⟨k+0,0,none⟩)) [some [.int .i64 x.ID,.int .u32 x.Clock,.slice (some ⟨k+1,0,none⟩) x.Flows.length 9,.slice (some ⟨k+2,0,none⟩) x.Cookies.length 1],some (vT Xbz x.Flows),some (vI .u64 x.Cookies)]=some x:=by
 simp only [Xgq,XzZ XbE (by decide) XsL,XvE];simp
theorem XeC.a {s:XbS} {vals aqs:List Value} {os:List (Option XbF)} {h h1 h2:Hp} {top n m t':Nat} {ws:List Wd} {r:Xc2} {v':Value} {cw:List (Option (List Value))} {K:Value→Hp→Nat→Prop} (e2:s.run aqs cw=some r)
 (k:XhJ v' fun v=>XkT [] (XjA h2 (top+n) m) fun h'=>K v h' t')
 (e1:Xd1 h 0 s.modes vals=some (aqs,os):=by repeat' first|exact XQq|apply XKo|rfl|exact XPZ rfl rfl rfl (by first|rfl|(simp only [Xbg.flatL,Xih];rfl))|exact XGC rfl rfl (Nat.le_of_ble_eq_true rfl) rfl (by first|rfl|(simp only [Xbg.flatL,Xih];rfl))|exact XMp rfl rfl (by first|rfl|omega) (by first|rfl|(simp;done))|exact XK7 rfl rfl (by first|rfl|omega) (by first|rfl|(simp;done))|exact XIO rfl rfl (by first|rfl|omega) (by first|rfl|(simp;done))|exact Xsw XbE Xba rfl rfl (by first|rfl|omega) (by first|rfl|(simp;done))|exact Xsw Xci XcT rfl rfl (by first|rfl|omega) (by first|rfl|(simp;done))|exact Xsw Xfe Xcn rfl rfl (by first|rfl|omega) (by first|rfl|(simp;done))|exact Xsw Xc8 Xcu rfl rfl (by first|rfl|omega) (by first|rfl|(simp;done))|exact XHa rfl rfl (by first|rfl|omega) (by first|rfl|omega) (by first|omega|(simp at *;omega))|exact XHk rfl rfl (by first|rfl|omega) (by first|rfl|omega) (by first|omega|(simp at *;omega))|exact XGJ rfl rfl (by first|rfl|omega) (by first|rfl|omega) (by first|omega|(simp at *;omega))|exact Xug XbE Xba rfl rfl (by first|rfl|omega) (by first|rfl|omega) (by first|omega|(simp at *;omega))|exact Xug Xci XcT rfl rfl (by first|rfl|omega) (by first|rfl|omega) (by first|omega|(simp at *;omega))|exact Xug Xfe Xcn rfl rfl (by first|rfl|omega) (by first|rfl|omega) (by first|omega|(simp at *;omega))|exact Xug Xc8 Xcu rfl rfl (by first|rfl|omega) (by first|rfl|omega) (by first|omega|(simp at *;omega))|(apply ra_tr rfl rfl _ rfl;repeat' first|exact XRS|apply XP7|apply vp_no|apply XSF rfl rfl|apply vp_at rfl rfl (by first|rfl|exact XqQ|exact XKJ|exact XJM|exact XiB Xba|exact XiB XcT|exact XiB Xcn|exact XiB Xcu|exact XdF _ _ (by simp only [Xbg.flatL,Xih];rfl)) rfl))
 (ec:XkM os=cw:=by rfl)
 (ew:XkJ h s.modes vals=ws:=by first|exact (rfl:_=[])|exact (rfl:_=[_])|exact (rfl:_=[_,_])|exact (rfl:_=[_,_,_])|exact (rfl:_=[_,_,_,_])|exact (rfl:_=[_,_,_,_,_])|exact (rfl:_=[_,_,_,_,_,_])|exact (rfl:_=[_,_,_,_,_,_,_])|exact (rfl:_=[_,_,_,_,_,_,_,_])|exact (rfl:_=[_,_,_,_,_,_,_,_,_])|exact (rfl:_=[_,_,_,_,_,_,_,_,_,_])|exact (rfl:_=[_,_,_,_,_,_,_,_,_,_,_])|exact (rfl:_=[_,_,_,_,_,_,_,_,_,_,_,_])|exact (rfl:_=[_,_,_,_,_,_,_,_,_,_,_,_,_])|exact (rfl:_=[_,_,_,_,_,_,_,_,_,_,_,_,_,_,_,_,_,_,_,_])|exact (rfl:_=[_,_,_,_,_,_,_,_,_,_,_,_,_,_,_,_,_,_,_,_,_])|exact (rfl:_=[_,_,_,_,_,_,_,_,_,_,_,_,_,_,_,_,_,_,_,_,_,_])|exact (rfl:_=[_,_,_,_,_,_,_,_,_,_,_,_,_,_,_,_,_,_,_,_,_,_,_]))
 (e3:apartB ws=true:=by exact rfl)
 (hn:r.new.length=n:=by first|exact (rfl:_=0)|exact (rfl:_=1)|exact (rfl:_=2)|exact (rfl:_=3)|exact (rfl:_=4)|exact (rfl:_=5)|exact (rfl:_=6)|exact (rfl:_=7)|exact (rfl:_=8)|exact (rfl:_=9)|exact (rfl:_=10)|exact (rfl:_=11)|exact (rfl:_=12)|exact (rfl:_=13)|exact (rfl:_=14)|exact (rfl:_=15)|exact (rfl:_=16)|exact (rfl:_=17)|exact (rfl:_=18)|exact (rfl:_=19))
 (hm:XlJ ws=m:=by first|exact (rfl:_=0)|exact (rfl:_=1)|exact (rfl:_=2)|exact (rfl:_=3)|exact (rfl:_=4))
 (ht:top+n+m=t':=by simp only [Nat.reduceAdd];rfl)
 (e4:XdB h (Xur top n ws) ws r.wr=some h1:=by repeat' first|exact XGz|apply XIT rfl|apply XP8 rfl rfl (by first|rfl|exact XqQ|exact XKJ|exact XJM|exact XiB Xba|exact XiB XcT|exact XiB Xcn|exact XiB Xcu|exact XdF _ _ (by simp only [Xbg.flatL,Xih];rfl)) rfl rfl rfl|apply XHU rfl rfl (by first|rfl|exact XqQ|exact XKJ|exact XJM|exact XiB Xba|exact XiB XcT|exact XiB Xcn|exact XiB Xcu|exact XdF _ _ (by simp only [Xbg.flatL,Xih];rfl)) ⟨rfl,Nat.le_of_ble_eq_true rfl⟩ rfl rfl|apply XRD rfl rfl (by first|rfl|exact XqQ|exact XKJ|exact XJM|exact XiB Xba|exact XiB XcT|exact XiB Xcn|exact XiB Xcu|exact XdF _ _ (by simp only [Xbg.flatL,Xih];rfl)) rfl|apply XOI|apply XTu rfl)
 (e5:Xjg h1 (Xur top n ws) top r.new=some h2:=by repeat' first|exact XFl|apply XNd (by first|rfl|exact XqQ|exact XKJ|exact XJM|exact XiB Xba|exact XiB XcT|exact XiB Xcn|exact XiB Xcu|exact XdF _ _ (by simp only [Xbg.flatL,Xih];rfl)))
 (e6:Xe5 (Xur top n ws) r.v=some v':=by first|exact rfl|exact Xnh _ _ (by first|rfl|(simp only [Xbg,Xbg.flatL,Xih];rfl))):XeC s vals h top K:=XeC.XFJ [] (Xs0 e1 ew ec e2 e3 hn hm ht e4 e5 e6) k
theorem Res.w {n:Nat} {r:Xc2} {v':Value} {H':Hp} (js:List Nat) (e1:Xe5 (Xul js n) r.v=some v') (e2:XtG H' (Xul js n) js r.new:=by (repeat' first|exact Xn2|apply Xj3 (by first|rfl|exact XqQ|exact XKJ|exact XJM|exact XiB Xba|exact XiB XcT|exact XiB Xcn|exact XiB Xcu|exact XdF _ _ (by simp only [Xbg.flatL,Xih];rfl)) (by first|exact XdH rfl|exact Xfq rfl));first|done|fail) (e3:js.Nodup:=by decide) (e4:XEq n r.wr js:=by (repeat' first|exact Xn1|apply XoK (by decide)|apply Xvf rfl);first|done|fail) (e5:XxF H' (Xul js n) 0 r.wr:=by (repeat' first|exact Xoa|apply XnO|apply wr_m rfl|apply XuX (by first|rfl|exact XqQ|exact XKJ|exact XJM|exact XiB Xba|exact XiB XcT|exact XiB Xcn|exact XiB Xcu|exact XdF _ _ (by simp only [Xbg.flatL,Xih];rfl)) (by first|exact Xfq rfl|exact XdH rfl));first|done|fail):Res n r v' H':=Res.of js e1 e2 e3 e4 e5
theorem W {G:Prop} (g:G:=by
 repeat' first
  | (refine fsp h ?_ ?_<;>(clear h;intros;rename_i hx h;rw [hx];conv=>whnf))
  | (refine fcase h ?_ ?_<;>first|(clear h;intro hx h;(first|subst hx|rw [hx]);conv=>whnf)|(clear h;intro h))
  | (refine br.h h (by rfl) ?_ ?_<;>(clear h;intro hb h;conv=>whnf))
  | (replace h:=Xbr.elim h;obtain ⟨hb,h⟩:=h;try (refine req.intro hb ?_;conv=>whnf))
  | (replace h:=Xcm.elim h;obtain ⟨x,hy,h⟩:=h;(first|refine XeC.a (R1 hy) ?_|refine XeC.a (R2 hy) ?_|refine XeC.a (R3 hy) ?_|refine XeC.a (R4 hy) ?_|refine XeC.a (R5 hy) ?_|refine XeC.a (R6 hy) ?_|refine XeC.a (R7 hy) ?_|refine XeC.a (R8 hy) ?_|refine rdS.intro hy ?_|refine rd.I hy (by first|rfl|(rw [Nat.zero_add,Nat.mul_one];try rfl;done)|omega) ?_|refine rd.S hy (by first|rfl|(rw [Nat.zero_add,Nat.mul_one];try rfl;done)|omega) ?_|refine rd.B hy (by first|rfl|(rw [Nat.zero_add,Nat.mul_one];try rfl;done)|omega) ?_|refine rd.U (j:=0) XbE hy ?_|refine rd.U (j:=1) XbE hy ?_|refine rd.U (j:=2) XbE hy ?_|refine rd.U (j:=3) XbE hy ?_|refine rd.U (j:=4) XbE hy ?_|refine rd.U (j:=5) XbE hy ?_|refine rd.U (j:=6) XbE hy ?_|refine rd.U (j:=7) XbE hy ?_|refine rd.U (j:=8) XbE hy ?_|refine rd.U (j:=0) Xci hy ?_|refine rd.U (j:=1) Xci hy ?_|refine rd.U (j:=2) Xci hy ?_|refine rd.U (j:=3) Xci hy ?_|refine rd.U (j:=4) Xci hy ?_|refine rd.U (j:=5) Xci hy ?_|refine rd.U (j:=6) Xci hy ?_|refine rd.U (j:=7) Xci hy ?_|refine rd.U (j:=8) Xci hy ?_|refine rd.U (j:=9) Xci hy ?_|refine rd.U (j:=10) Xci hy ?_|refine rd.U (j:=11) Xci hy ?_|refine rd.U (j:=0) Xfe hy ?_|refine rd.U (j:=1) Xfe hy ?_|refine rd.U (j:=0) Xc8 hy ?_|refine rd.U (j:=1) Xc8 hy ?_|refine rd.U (j:=2) Xc8 hy ?_);conv=>whnf)
  | (cases h;done)
  | (cases h;(try cases hc);first|exact Res.y|exact Res.w [] rfl|exact Res.w [_] rfl|exact Res.w [_,_] rfl|exact Res.w [_,_,_] rfl|exact Res.w [_,_,_,_] rfl)):G:=g
theorem okA {f : Nat} {s : XbS} (hfn : ∃ fn, Tryz.prog.funcs[f]? = some fn ∧ fn.name ≠ "runtime.NumGoroutine" ∧ fn.body.isSome = true)
 (H:∀ ar os r,XgW (Xv8 s.modes) os→s.run ar (XkM os)=some r→∃ c,Xjl (XaL tab) f ar=some c∧XaM Tryz.prog f os.length ⟨c,[],XqR 0 os,os.length⟩ (fun v' H' _=>Res os.length r v' H'):=by
 intro ar os r ha hr
 generalize hc:XkM os=C at hr
 repeat' first
  | (replace hr:=XCb.elim hr;rcases hr with hr|hr)
  | (replace hr:=orD.elim hr;rcases hr with hr|hr)
  | (replace hr:=dV.elim hr;obtain ⟨v,l,y,rfl,e,hr⟩:=hr;first|obtain rfl:=XAC _ _ _ e|obtain rfl:=XAr _ _ e|obtain rfl:=XzR _ _ e|obtain rfl:=Xr1 _ _ e|obtain rfl:=XqM _ _ e|obtain rfl:=XsF _ _ e|obtain rfl:=XqO _ _ e|obtain rfl:=Xoz _ _ e|obtain rfl:=XqB _ _ e|obtain rfl:=XnY _ _ e|obtain rfl:=XoU _ _ e|obtain rfl:=Xqh _ _ e|obtain rfl:=Xr6 _ _ e|obtain rfl:=Xtv _ _ e|obtain rfl:=Xr2 _ _ e|obtain rfl:=XqS _ _ e|obtain rfl:=XsK _ _ e|obtain rfl:=XtU _ _ e)
  | (have hq:=dSl.elim hr;clear hr;obtain ⟨c,l,C,y,rfl,rfl,e,hr⟩:=hq;first|obtain rfl:=XFn e|obtain rfl:=XTg e|obtain rfl:=XQ7 e|obtain rfl:=Xpx XgJ e|obtain rfl:=Xpx Xj6 e|obtain rfl:=Xpx XkY e|obtain rfl:=Xpx Xlo e)
  | (have hq:=dPt.elim hr;clear hr;obtain ⟨c,l,C,y,rfl,rfl,e,hr⟩:=hq;first|obtain rfl:=Xm9 _ _ e|obtain rfl:=XgJ _ _ e|obtain rfl:=Xj6 _ _ e|obtain rfl:=Xl7 _ _ e|obtain rfl:=Xh4 _ _ e|obtain rfl:=Xln _ _ e|obtain rfl:=XjW _ _ e|obtain rfl:=XkL _ _ e|obtain rfl:=Xlm _ _ e|obtain rfl:=XnI _ _ e|obtain rfl:=XkY _ _ e|obtain rfl:=Xne _ _ e|obtain rfl:=Xmk _ _ e|obtain rfl:=Xm1 _ _ e|obtain rfl:=Xlo _ _ e|obtain rfl:=XyL (XAC _) e|obtain rfl:=XyL XAr e|obtain rfl:=XyL XzR e)
  | (have hq:=dTr.elim hr;clear hr;obtain ⟨v,l,c,C,y,rfl,rfl,e,hr⟩:=hq;(first|obtain ⟨rfl,rfl⟩:=XnA e|obtain ⟨rfl,rfl⟩:=XqF e|obtain ⟨rfl,rfl⟩:=Xp1 e|obtain ⟨rfl,rfl⟩:=XrR e);simp only [List.nil_append,List.cons_append] at hc)
  | (have hq:=dNl.elim hr;clear hr;obtain ⟨l,C,rfl,rfl,hr⟩:=hq;simp only [List.replicate,List.nil_append,List.cons_append] at hc)
  | (replace hr:=dFin hr;obtain ⟨rfl,rfl,x,h,rfl⟩:=hr;(repeat (first|(replace ha:=XxO ha hc;obtain ⟨os,rfl,ha,hc⟩:=ha)|(replace ha:=Xw7 ha hc;obtain ⟨os,rfl,ha,hc⟩:=ha)));obtain rfl:=Xzg hc;first|exact ⟨_,rfl,hL (h:=h) ..⟩|exact ⟨_,rfl,hN (h:=h) ..⟩|exact ⟨_,rfl,L0 (h:=h) ..⟩|exact ⟨_,rfl,L1 (h:=h) ..⟩|exact ⟨_,rfl,L2 (h:=h) ..⟩)):Xb8 Tryz.prog f s:=Xb8.XBY XaP H hfn
theorem Xjj {P:Program} {f base fn nt:Nat} {e e':Env} {todo todo':List XfX} {ds ds':List Nat} {ret:Bool} {up up':List Xb3} {H H':Hp} {top top':Nat} {R:Value→Hp→Nat→Prop}
 (h:XaM P f base ⟨⟨fn,nt,e',todo',ds',ret,none⟩,up',H',top'⟩ R) (m:List (Nat×Nat)) (hc:XBt base top' m=true) (he:reE (XaL m) e e':=by repeat' first|exact trivial|refine ⟨⟨_,rfl,rfl⟩,?_⟩|refine ⟨⟨_,_,rfl,rfl,.rowF (XjF _ _) id⟩,?_⟩|refine ⟨⟨_,_,rfl,rfl,.rowF (Xos _) id⟩,?_⟩|refine ⟨⟨_,_,rfl,rfl,.rowF (Xn6 _) id⟩,?_⟩|refine ⟨⟨_,_,rfl,rfl,.rowF (Xn0 (by first|exact Xba|exact XcT|exact Xcn|exact Xcu) _) id⟩,?_⟩|refine ⟨⟨_,_,rfl,rfl,.tyF (XjF _ _)⟩,?_⟩|refine ⟨⟨_,_,rfl,rfl,.ty rfl⟩,?_⟩|refine ⟨⟨_,_,rfl,rfl,.cells rfl⟩,?_⟩|refine ⟨⟨_,_,rfl,rfl,.row rfl id⟩,?_⟩|refine ⟨⟨_,_,rfl,rfl,.cr rfl⟩,?_⟩|refine ⟨⟨_,_,rfl,rfl,.rc rfl⟩,?_⟩|refine ⟨⟨_,_,rfl,rfl,.marks⟩,?_⟩|refine ⟨⟨_,_,rfl,rfl,.mp _⟩,?_⟩|refine ⟨⟨_,_,rfl,rfl,.siter _ _⟩,?_⟩|refine ⟨⟨_,_,rfl,rfl,.loop rfl rfl rfl rfl (by repeat' first|exact trivial|refine ⟨rfl,?_⟩) rfl rfl rfl rfl⟩,?_⟩) (hH:reH (XaL m) H H':=by repeat' first|exact trivial|refine ⟨⟨_,rfl,rfl⟩,?_⟩|refine ⟨⟨_,_,rfl,rfl,.rowF (XjF _ _) id⟩,?_⟩|refine ⟨⟨_,_,rfl,rfl,.rowF (Xos _) id⟩,?_⟩|refine ⟨⟨_,_,rfl,rfl,.rowF (Xn6 _) id⟩,?_⟩|refine ⟨⟨_,_,rfl,rfl,.rowF (Xn0 (by first|exact Xba|exact XcT|exact Xcn|exact Xcu) _) id⟩,?_⟩|refine ⟨⟨_,_,rfl,rfl,.tyF (XjF _ _)⟩,?_⟩|refine ⟨⟨_,_,rfl,rfl,.ty rfl⟩,?_⟩|refine ⟨⟨_,_,rfl,rfl,.cells rfl⟩,?_⟩|refine ⟨⟨_,_,rfl,rfl,.row rfl id⟩,?_⟩|refine ⟨⟨_,_,rfl,rfl,.cr rfl⟩,?_⟩|refine ⟨⟨_,_,rfl,rfl,.rc rfl⟩,?_⟩|refine ⟨⟨_,_,rfl,rfl,.marks⟩,?_⟩|refine ⟨⟨_,_,rfl,rfl,.mp _⟩,?_⟩|refine ⟨⟨_,_,rfl,rfl,.siter _ _⟩,?_⟩|refine ⟨⟨_,_,rfl,rfl,.loop rfl rfl rfl rfl (by repeat' first|exact trivial|refine ⟨rfl,?_⟩) rfl rfl rfl rfl⟩,?_⟩)
 (ht:XBz (XaL m) todo'=some todo:=by rfl) (hd:XDD (XaL m) ds'=some ds:=by rfl) (hu:reU (XaL m) up up':=by trivial) :
 XaM P f base ⟨⟨fn,nt,e,todo,ds,ret,none⟩,up,H,top⟩ R:=XaM.re h m hc he hH ht hd hu
theorem XxW {P:Program} {f base fn nt:Nat} {e e':Env} {todo todo':List XfX} {ds ds':List Nat} {ret:Bool} {up up':List Xb3} {H H':Hp} {top top':Nat} {R:Value→Hp→Nat→Prop}
 (h:XaM P f base ⟨⟨fn,nt,e',todo',ds',ret,none⟩,up',H',top'⟩ R) (m:List (Nat×Nat)) (hc:XBt base top' m=true) (he:reE (XaL m) e e':=by repeat' first|exact trivial|refine ⟨⟨_,rfl,rfl⟩,?_⟩|refine ⟨⟨_,_,rfl,rfl,.rowF (XjF _ _) id⟩,?_⟩|refine ⟨⟨_,_,rfl,rfl,.rowF (Xos _) id⟩,?_⟩|refine ⟨⟨_,_,rfl,rfl,.rowF (Xn6 _) id⟩,?_⟩|refine ⟨⟨_,_,rfl,rfl,.rowF (Xn0 (by first|exact Xba|exact XcT|exact Xcn|exact Xcu) _) id⟩,?_⟩|refine ⟨⟨_,_,rfl,rfl,.tyF (XjF _ _)⟩,?_⟩|refine ⟨⟨_,_,rfl,rfl,.ty rfl⟩,?_⟩|refine ⟨⟨_,_,rfl,rfl,.cells rfl⟩,?_⟩|refine ⟨⟨_,_,rfl,rfl,.row rfl id⟩,?_⟩|refine ⟨⟨_,_,rfl,rfl,.cr rfl⟩,?_⟩|refine ⟨⟨_,_,rfl,rfl,.rc rfl⟩,?_⟩|refine ⟨⟨_,_,rfl,rfl,.marks⟩,?_⟩|refine ⟨⟨_,_,rfl,rfl,.mp _⟩,?_⟩|refine ⟨⟨_,_,rfl,rfl,.siter _ _⟩,?_⟩|refine ⟨⟨_,_,rfl,rfl,.loop rfl rfl rfl rfl (by repeat' first|exact trivial|refine ⟨rfl,?_⟩) rfl rfl rfl rfl⟩,?_⟩) (hH:reH (XaL m) H H':=by repeat' first|exact trivial|refine ⟨⟨_,rfl,rfl⟩,?_⟩|refine ⟨⟨_,_,rfl,rfl,.rowF (XjF _ _) id⟩,?_⟩|refine ⟨⟨_,_,rfl,rfl,.rowF (Xos _) id⟩,?_⟩|refine ⟨⟨_,_,rfl,rfl,.rowF (Xn6 _) id⟩,?_⟩|refine ⟨⟨_,_,rfl,rfl,.rowF (Xn0 (by first|exact Xba|exact XcT|exact Xcn|exact Xcu) _) id⟩,?_⟩|refine ⟨⟨_,_,rfl,rfl,.tyF (XjF _ _)⟩,?_⟩|refine ⟨⟨_,_,rfl,rfl,.ty rfl⟩,?_⟩|refine ⟨⟨_,_,rfl,rfl,.cells rfl⟩,?_⟩|refine ⟨⟨_,_,rfl,rfl,.row rfl id⟩,?_⟩|refine ⟨⟨_,_,rfl,rfl,.cr rfl⟩,?_⟩|refine ⟨⟨_,_,rfl,rfl,.rc rfl⟩,?_⟩|refine ⟨⟨_,_,rfl,rfl,.marks⟩,?_⟩|refine ⟨⟨_,_,rfl,rfl,.mp _⟩,?_⟩|refine ⟨⟨_,_,rfl,rfl,.siter _ _⟩,?_⟩|refine ⟨⟨_,_,rfl,rfl,.loop rfl rfl rfl rfl (by repeat' first|exact trivial|refine ⟨rfl,?_⟩) rfl rfl rfl rfl⟩,?_⟩)
 (ht:XBz (XaL m) todo'=some todo:=by rfl) (hd:XDD (XaL m) ds'=some ds:=by rfl) (hu:reU (XaL m) up up':=by repeat' first|exact trivial|refine ⟨⟨rfl,rfl,rfl,rfl,rfl,?_,rfl,rfl⟩,?_⟩|refine ⟨⟨_,rfl,rfl⟩,?_⟩) :
 XaM P f base ⟨⟨fn,nt,e,todo,ds,ret,none⟩,up,H,top⟩ R:=XaM.re h m hc he hH ht hd hu
def XhL (n1:Int):Option (Sum Int Int):=
 cond (decide (n1>65535))
  (
  let t:=wI .i64 ((XnF .i64 n1 65535)+(n1.fdiv (2^16)))
  some (.inl t))
  (
  some (.inr (n1)))
def Xkd (n:Int):Option Int:=
 iter (fun st=>XhL st) FUEL n
def Xxl (x:Int):Xc2:=⟨.int .i64 x,[],[]⟩
abbrev Xdi:=Int→Option Int
def r115 (g:Xdi):Dec:=dV (asI .i64) fun (y0:Int)=>XdT (ofG (g y0) Xxl)
theorem XPI {g:Xdi} {y0:Int} {x:Int} (hx:g y0=some x):r115 g [.int .i64 y0] []=some (Xxl x):=(Xbb (Xdr _)).trans (Xa7 hx)
def s115 (g:Xdi):XbS:=⟨[.v],r115 g⟩
theorem XuV {g:Xdi} {y0:Int} {x:Int} (hx:g y0=some x):(s115 g).run [.int .i64 y0] []=some (Xxl x):=XPI hx
abbrev XyK:List (Nat×XbS):=[]
def Xk5 (n1:Int):VM:=
 ⟨⟨115,11,[(0,.int .i64 n1)],[.code XyG,.inLoop XyG,.inBlock 0,.code Xzu],[],false,none⟩,[],[],0⟩
theorem Xzf (hS:Xaq Tryz.prog (XaL (XyK))) (res:Int):∀ fuel (st:Int) (o:Int),iter (fun st=>XhL st) fuel st=some o→(o=res) →
 XaM Tryz.prog 115 0 (Xk5 st) (fun v H _=>Res 0 (Xxl res) v H):=by
 intro fuel st o h hc
 refine XcJ (head:=fun st=>Xk5 st) (C:=fun o=>(o=res)) ?_ fuel st o h hc
 clear h hc o st fuel
 intro n1 o h hc
 replace h:XhL n1=some o:=h
 show XaM Tryz.prog 115 0 (Xk5 n1) (fun v H _=>Res 0 (Xxl res) v H)
 unfold XhL at h
 refine Xbp XaP hS true 3000 ?_
 conv=>whnf
 refine br.h2 h (by rfl) ?_ ?_
 ·clear h;intro hb h;conv=>whnf
  exact W
 clear h;intro hb h;conv=>whnf
 let t:Int:=wI .i64 ((XnF .i64 n1 65535)+(n1.fdiv (2^16)))
 cases h;simp only [Sum.elim_inl,Xk5] at hc
 exact Xjj hc [] rfl
theorem XCo (hS:Xaq Tryz.prog (XaL (XyK))) (n:Int) (res:Int) (h:Xkd n=some res) :
 XaM Tryz.prog 115 0 ⟨⟨115,11,[(0,.int .i64 n)],[.code Xyz],[],false,none⟩,[],[],0⟩ (fun v H _=>Res 0 (Xxl res) v H):=by
 unfold Xkd at h
 refine Xbp XaP hS true 3000 ?_
 conv=>whnf
 have hl:=Xzf hS res _ _ _ h rfl;simp only [Xk5] at hl
 exact Xjj hl [] rfl
def Xb6:Xdi:=Xkd
theorem XBm:Xb8 Tryz.prog 115 (s115 Xb6):=by
 have hL:=XCo (Xaq.XaY trivial)
 exact okA ⟨Tryz.f115,rfl,by decide,rfl⟩
def Xg4 (Xb6:Xdi) (s:List UInt8) (xat:Int) (n:Int):Option (Sum (Int×Int) Int):=
 cond (decide (xat<(s.length:Int)))
  (
  Xbr (decide (0≤xat)) <|
  (s[xat.toNat]?).bind fun (b:UInt8)=>
  let t:=wI .i64 ((wI .i64 (b.toNat:Int))*2^8)
  let t1:=decide ((wI .i64 (xat+1))<(s.length:Int))
  cond (t1)
   (
   Xbr (decide (0≤(wI .i64 (xat+1)))) <|
   (s[(wI .i64 (xat+1)).toNat]?).bind fun (b1:UInt8)=>
   let t2:=wI .i64 (n+(XvA .i64 t (wI .i64 (b1.toNat:Int))))
   (Xb6 t2).bind fun f=>
   some (.inl (wI .i64 (xat+2),f)))
   (
   (Xb6 (wI .i64 (n+t))).bind fun f1=>
   some (.inl (wI .i64 (xat+2),f1))))
  (
  some (.inr (n)))
def XlA (Xb6:Xdi) (s:List UInt8):Option Int:=
 iter (fun st=>Xg4 Xb6 s st.1 st.2) FUEL (0,0)
def XNn (x:Int):Xc2:=⟨.int .i64 x,[],[]⟩
abbrev XfI:=(List UInt8)→Option Int
def r87 (g:XfI):Dec:=dV asS fun (y0:List UInt8)=>XdT (ofG (g y0) XNn)
theorem r87_c {g:XfI} {y0:List UInt8} {x:Int} (hx:g y0=some x):r87 g [.string ⟨⟨y0⟩⟩] []=some (XNn x):=(Xbb (Xds)).trans (Xa7 hx)
def s87 (g:XfI):XbS:=⟨[.v],r87 g⟩
theorem XPJ {g:XfI} {y0:List UInt8} {x:Int} (hx:g y0=some x):(s87 g).run [.string ⟨⟨y0⟩⟩] []=some (XNn x):=r87_c hx
abbrev XGG (Xb6:Xdi):List (Nat×XbS):=[(115,s115 Xb6)]
def XlS (s:List UInt8) (xat:Int) (n:Int):VM:=
 ⟨⟨128,32,[(0,.func (.yield 3) #[] #[]),(1,.pointer (some ⟨1,0,none⟩)),(3,.int .i64 xat)],[.code Xqe,.inLoop Xqe,.inBlock 0],[],false,none⟩,[⟨87,13,[(3,.pointer (some ⟨0,0,none⟩))],[.inRangeFunc 3,.inBlock 0,.code XHO],[2],false,none⟩],[(0,.cells [.int .i64 n]),(1,.cells [.string ⟨⟨s⟩⟩]),(2,.marks),(3,.loop ⟨.ready,none,87,13,[(3,.pointer (some ⟨0,0,none⟩))],[7],XRj,XOg,2⟩)],4⟩
theorem XEh (Xb6:Xdi) (hS:Xaq Tryz.prog (XaL (XGG Xb6))) (s:List UInt8) (res:Int):∀ fuel (st:Int×Int) (o:Int),iter (fun st=>Xg4 Xb6 s st.1 st.2) fuel st=some o→(o=res) →
 XaM Tryz.prog 87 0 (XlS s st.1 st.2) (fun v H _=>Res 0 (XNn res) v H):=by
 intro fuel st o h hc
 refine XcJ (head:=fun st=>XlS s st.1 st.2) (C:=fun o=>(o=res)) ?_ fuel st o h hc
 clear h hc o st fuel
 intro st o h hc
 obtain ⟨xat,n⟩:=st
 replace h:Xg4 Xb6 s xat n=some o:=h
 show XaM Tryz.prog 87 0 (XlS s xat n) (fun v H _=>Res 0 (XNn res) v H)
 unfold Xg4 at h
 refine Xbp XaP hS true 3000 ?_
 conv=>whnf
 refine br.h2 h (by rfl) ?_ ?_
 ·clear h;intro hb h;conv=>whnf
  exact W
 clear h;intro hb h;conv=>whnf
 replace h:=Xbr.elim h;obtain ⟨hb,h⟩:=h
 try (refine req.intro hb ?_;conv=>whnf)
 replace h:=Xcm.elim h;obtain ⟨b,hy,h⟩:=h
 refine rdS.intro hy ?_
 conv=>whnf
 let t:Int:=wI .i64 ((wI .i64 (b.toNat:Int))*2^8)
 let t1:Bool:=decide ((wI .i64 (xat+1))<(s.length:Int))
 refine br.h2 h (by rfl) ?_ ?_
 ·clear h;intro hb h;conv=>whnf
  replace h:=Xcm.elim h;obtain ⟨f1,hy,h⟩:=h
  refine XeC.a (XuV hy) ?_
  conv=>whnf
  cases h;simp only [Sum.elim_inl,XlS] at hc
  exact XxW hc [(0,0),(1,1),(2,2),(3,3)] rfl
 clear h;intro hb h;conv=>whnf
 replace h:=Xbr.elim h;obtain ⟨hb,h⟩:=h
 try (refine req.intro hb ?_;conv=>whnf)
 replace h:=Xcm.elim h;obtain ⟨b1,hy,h⟩:=h
 refine rdS.intro hy ?_
 conv=>whnf
 let t2:Int:=wI .i64 (n+(XvA .i64 t (wI .i64 (b1.toNat:Int))))
 replace h:=Xcm.elim h;obtain ⟨f,hy,h⟩:=h
 refine XeC.a (XuV hy) ?_
 conv=>whnf
 cases h;simp only [Sum.elim_inl,XlS] at hc
 exact XxW hc [(0,0),(1,1),(2,2),(3,3)] rfl
theorem XKe (Xb6:Xdi) (hS:Xaq Tryz.prog (XaL (XGG Xb6))) (s:List UInt8) (res:Int) (h:XlA Xb6 s=some res) :
 XaM Tryz.prog 87 0 ⟨⟨87,13,[(0,.string ⟨⟨s⟩⟩)],[.code XHS],[],false,none⟩,[],[],0⟩ (fun v H _=>Res 0 (XNn res) v H):=by
 unfold XlA at h
 refine Xbp XaP hS true 3000 ?_
 conv=>whnf
 have hl:=XEh Xb6 hS _ res _ _ _ h rfl;simp only [XlS] at hl
 exact XxW hl [(0,0),(1,1),(2,2),(3,3)] rfl
def Xfw:XfI:=XlA Xb6
theorem XRm:Xb8 Tryz.prog 87 (s87 Xfw):=by
 have hL:=XKe Xb6 (Xaq.XaY ⟨XBm,trivial⟩)
 exact okA ⟨Tryz.f87,rfl,by decide,rfl⟩
end Go.Vm.Code
namespace Go.Vm.Code
open Go Go.Vm
def Xez:List UInt8→Nat
 | []=>0
 | [b]=>b.toNat*256
 | b::c::l=>b.toNat*256+c.toNat+Xez l
def norm (n:Nat):Nat:=if n=0 then 0 else (n - 1)%65535+1
theorem norm_eq {n r:Nat} (h1:r≤65535) (h2:r%65535=n%65535) (h3:r=0↔n=0):norm n=r:=by unfold norm;split<;>omega
theorem norm_le (n:Nat):norm n≤65535:=by unfold norm;split<;>omega
theorem Xkc (n:Nat):norm n%65535=n%65535:=by unfold norm;split<;>omega
theorem XnE (n:Nat):norm n=0↔n=0:=by unfold norm;split<;>omega
theorem XqD {n:Nat} (h:n≤65535):norm n=n:=norm_eq h rfl Iff.rfl
theorem XwG (a b:Nat):norm (norm a+b)=norm (a+b):=
 (norm_eq (norm_le _) (by have h1:=Xkc a;have h2:=Xkc (norm a+b);omega) (by have h1:=XnE a;have h2:=XnE (norm a+b);omega)).symm
theorem fold_eq {n:Int} (h0:0≤n) (h1:n<2^62):Xb6 n=some ((norm n.toNat:Nat):Int):=by
 unfold Xb6 Xkd
 refine iter_eq (fun n=>((norm n.toNat:Nat):Int)) (fun n=>0≤n∧n<2^62) (fun n=>n.toNat) ?_ FUEL _ ⟨h0,h1⟩ (by rw [Xfm];omega)
 intro s ⟨a,b⟩
 unfold XhL
 by_cases hs:s>65535
 ·refine .inr ⟨s%65536+s/65536,?_,⟨by omega,by omega⟩,by omega,?_⟩
  ·rw [XaZ hs,Xi7 (m:=65535) 16 (by decide) (by decide) a (by omega),XtY,Xdb (by omega) (by omega)];rfl
  ·have:norm (s%65536+s/65536).toNat=norm s.toNat:=
    (norm_eq (norm_le _) (by have:=Xkc (s%65536+s/65536).toNat;omega) (by have:=XnE (s%65536+s/65536).toNat;omega)).symm
   rw [this]
 ·refine .inl ?_
  rw [XaR hs]
  have:=XqD (n:=s.toNat) (by omega)
  simp only [this]
  rw [Int.toNat_of_nonneg a]
theorem XCe {s:List UInt8} {i:Nat} (h:i+1<s.length):Xez (s.drop i)=s[i].toNat*256+s[i+1].toNat+Xez (s.drop (i+2)):=by
 rw [List.drop_eq_getElem_cons (by omega:i<s.length),List.drop_eq_getElem_cons h];rfl
theorem XBQ {s:List UInt8} {i:Nat} (h:i+1=s.length):Xez (s.drop i)=s[i].toNat*256:=by
 rw [List.drop_eq_getElem_cons (by omega:i<s.length),List.drop_eq_nil_of_le (by omega)];rfl
theorem XtM {s:List UInt8} {i:Nat} (h:s.length≤i):Xez (s.drop i)=0:=by
 rw [List.drop_eq_nil_of_le h];rfl
theorem XTA (s:List UInt8) (h:s.length<2^61):Xfw s=some ((norm (Xez s):Nat):Int):=by
 unfold Xfw XlA
 have key:=iter_eq (step:=fun (st:Int×Int)=>Xg4 Xb6 s st.1 st.2) (fun (st:Int×Int)=>((norm (st.2.toNat+Xez (s.drop st.1.toNat)):Nat):Int)) (fun (st:Int×Int)=>0≤st.1∧st.1≤s.length+1∧0≤st.2∧st.2≤65535) (fun (st:Int×Int)=>(s.length+2 - st.1).toNat) ?_ FUEL (0,0) ⟨by simp,by simp;omega,by simp,by simp⟩ (by rw [Xfm];simp only;omega)
 ·rw [key];simp
 rintro ⟨p,n⟩ ⟨h1,h2,h3,h4⟩
 simp only at h1 h2 h3 h4 ⊢
 obtain ⟨i,rfl⟩:=Int.eq_ofNat_of_zero_le h1
 obtain ⟨m,rfl⟩:=Int.eq_ofNat_of_zero_le h3
 unfold Xg4
 by_cases hp:i<s.length
 ·by_cases hq:i+1<s.length
  ·have b1:=s[i].toNat_lt
   have b2:=s[i+1].toNat_lt
   refine .inr ⟨(((i+2:Nat):Int),((norm (m+(s[i].toNat*256+s[i+1].toNat)):Nat):Int)),?_,⟨by simp only;omega,by simp only;omega,by simp only;omega,by simp only;have:=norm_le (m+(s[i].toNat*256+s[i+1].toNat));omega⟩,by simp only;omega,?_⟩
   ·simp (disch:=omega) only [Xdb,XaH,XaZ]
    have e:((i:Int)+1).toNat=i+1:=by omega
    rw [e]
    simp (disch:=omega) only [Int.toNat_natCast,List.getElem?_eq_getElem,Option.bind_some,Xq6,Xdb,fold_eq]
    congr 3<;>omega
   ·simp only [Int.toNat_natCast]
    rw [XwG,XCe hq,Nat.add_assoc]
  ·have b1:=s[i].toNat_lt
   refine .inr ⟨(((i+2:Nat):Int),((norm (m+s[i].toNat*256):Nat):Int)),?_,⟨by simp only;omega,by simp only;omega,by simp only;omega,by simp only;have:=norm_le (m+s[i].toNat*256);omega⟩,by simp only;omega,?_⟩
   ·simp (disch:=omega) only [Xdb,XaH,XaZ,XaR,Int.toNat_natCast,List.getElem?_eq_getElem,Option.bind_some,fold_eq]
    congr 3<;>omega
   ·simp only [Int.toNat_natCast]
    rw [XwG,XtM (i:=i+2) (by omega),Nat.add_zero,XBQ (i:=i) (by omega)]
 ·refine .inl ?_
  simp (disch:=omega) only [XaR]
  simp only [Int.toNat_natCast]
  rw [XtM (by omega),Nat.add_zero,XqD (by omega)]
theorem Xgf:∀ (a b:List UInt8),a.length%2=0→Xez (a++b)=Xez a+Xez b
 | [],b,_=>by simp [Xez]
 | [_],b,h=>by simp at h
 | x::y::a,b,h=>by
   have:=Xgf a b (by simp at h;omega)
   simp only [List.cons_append,Xez,this];omega
def XOV (l:List UInt8):Bool:=l.all fun b=>b==0
end Go.Vm.Code
namespace Go.Vm
open Go
def be (n:Nat):Nat→List UInt8
 | 0=>[]
 | r+1=>UInt8.ofNat (n/256^r)::be n r
def Xed (l:List UInt8):Nat:=l.foldl (fun n b=>n*256+b.toNat) 0
@[simp] theorem Xhk (n:Nat):∀ k,(be n k).length=k
 | 0=>rfl
 | k+1=>by simp [be,Xhk n k]
theorem Xqc (n:Nat):∀ k,be n (k+1)=be (n/256) k++[UInt8.ofNat n]
 | 0=>by simp [be]
 | k+1=>by
   rw [be,Xqc n k,be,Nat.div_div_eq_div_mul,Nat.pow_succ,Nat.mul_comm 256];rfl
theorem Xzn (n:Nat):∀ k,be (n%256^k) k=be n k
 | 0=>rfl
 | k+1=>by
   rw [Xqc,Xqc,Nat.pow_succ,Nat.mul_comm,Nat.mod_mul_right_div_self,Xzn (n/256) k]
   congr 2
   apply UInt8.toNat_inj.1
   simp only [UInt8.toNat_ofNat']
   rw [Nat.mod_mul_right_mod]
theorem XtI (l:List UInt8):∀ n:Nat,l.foldl (fun n b=>n*256+b.toNat) n=n*256^l.length+Xed l:=by
 induction l with
 | nil=>intro n;simp [Xed]
 | cons b l ih=>
   intro n
   rw [Xed,List.foldl_cons,ih,List.foldl_cons,ih,List.length_cons,Nat.pow_succ]
   rw [Nat.zero_mul,Nat.zero_add,Nat.add_mul,Nat.mul_assoc,Nat.mul_comm (256^_) 256,Nat.add_assoc]
@[simp] theorem XLX:Xed []=0:=rfl
theorem Xgs (b:UInt8) (l:List UInt8):Xed (b::l)=b.toNat*256^l.length+Xed l:=by
 rw [Xed,List.foldl_cons,XtI];simp
theorem val_append (l m:List UInt8):Xed (l++m)=Xed l*256^m.length+Xed m:=by
 rw [Xed,List.foldl_append,XtI];rfl
theorem XCm (l:List UInt8) (b:UInt8):Xed (l++[b])=Xed l*256+b.toNat:=by
 rw [val_append];simp [Xgs]
theorem XtR:∀ l:List UInt8,Xed l<256^l.length
 | []=>by simp
 | b::l=>by
   have h:=XtR l
   have hb:=b.toNat_lt
   rw [Xgs,List.length_cons,Nat.pow_succ]
   have:b.toNat*256^l.length+256^l.length≤256*256^l.length:=by
    rw [←Nat.succ_mul];exact Nat.mul_le_mul_right _ (by omega)
   rw [Nat.mul_comm (256^l.length)];omega
theorem XGA (n:Nat):∀ k,Xed (be n k)=n%256^k
 | 0=>by simp [be,Nat.mod_one]
 | k+1=>by
   have e:n%256^(k+1)=n%256+256*(n/256%256^k):=by rw [Nat.pow_succ',Nat.mod_mul]
   rw [Xqc,XCm,XGA (n/256) k,UInt8.toNat_ofNat',e]
   generalize n/256%256^k=x
   omega
theorem Xpz {n k:Nat} (h:n<256^k):Xed (be n k)=n:=by rw [XGA,Nat.mod_eq_of_lt h]
theorem Xyk:∀ l:List UInt8,be (Xed l) l.length=l
 | []=>rfl
 | b::l=>by
   have h:=XtR l
   rw [List.length_cons,be]
   have e1:Xed (b::l)/256^l.length=b.toNat:=by
    rw [Xgs,Nat.mul_comm,Nat.mul_add_div (Nat.pow_pos (by decide)),Nat.div_eq_of_lt h,Nat.add_zero]
   have e2:be (Xed (b::l)) l.length=be (Xed l) l.length:=by
    rw [←Xzn (Xed (b::l)),Xgs,Nat.mul_add_mod',Xzn]
   rw [e1,e2,Xyk l]
   simp
theorem Xx6 {l:List UInt8} {k:Nat} (h:l.length=k):be (Xed l) k=l:=by subst h;exact Xyk l
theorem Xdk {l:List UInt8} {k:Nat} (n:Nat) (h:256^k≤n):Xed (l.take k)<n:=by
 have h1:=XtR (l.take k)
 have h2:(l.take k).length≤k:=List.length_take_le _ _
 exact Nat.lt_of_lt_of_le h1 (Nat.le_trans (Nat.pow_le_pow_right (by decide) h2) h)
end Go.Vm
namespace Go.Vm.Code
open Go Go.Vm Go.Proofs
set_option maxRecDepth 100000
set_option maxHeartbeats 4000000
set_option linter.unusedVariables false
def Xhb (n:Int) (k:Int) (t17:Int) (b:List Int):Option (Sum (Int×(List Int)) (List UInt8)):=
 cond (decide (t17<(k.toNat:Int)))
  (
  let t:=wI .i64 (8*(wI .i64 ((wI .i64 (k - 1)) - t17)))
  Xbr (decide (0≤t)) <|
  Xbr (decide ((0:Int)≤t17∧t17<(k.toNat:Int))) <|
  Xbr (decide (t17.toNat<b.length)) <|
  let row:=b.set t17.toNat (wI .u8 (n.fdiv (2^(min t.toNat 64))))
  some (.inl (wI .i64 (t17+1),row)))
  (
  Xbr (decide (k.toNat≤b.length)) <|
  some (.inr (iB (b.take k.toNat))))
def XlK (n:Int) (k:Int):Option (List UInt8):=
 cond (decide (k<1))
  (
  some ([]))
  (
  cond (decide (k>8))
   (
   some ([]))
   (
   Xbr (decide (0≤k∧k≤k∧k<2^63∧(1:Int)*k≤2^48)) <|
   iter (fun st=>Xhb n k st.1 st.2) FUEL (0,List.replicate k.toNat (0))))
def XNy (x:List UInt8):Xc2:=⟨.string ⟨⟨x⟩⟩,[],[]⟩
abbrev XbT:=Int→Int→Option (List UInt8)
def r71 (g:XbT):Dec:=dV (asI .u64) fun (y0:Int)=>dV (asI .i64) fun (y1:Int)=>XdT (ofG (g y0 y1) XNy)
theorem r71_c {g:XbT} {y0:Int} {y1:Int} {x:List UInt8} (hx:g y0 y1=some x):r71 g [.int .u64 y0,.int .i64 y1] []=some (XNy x):=(Xbb (Xdr _)).trans ((Xbb (Xdr _)).trans (Xa7 hx))
def s71 (g:XbT):XbS:=⟨[.v,.v],r71 g⟩
theorem Xqf {g:XbT} {y0:Int} {y1:Int} {x:List UInt8} (hx:g y0 y1=some x):(s71 g).run [.int .u64 y0,.int .i64 y1] []=some (XNy x):=r71_c hx
abbrev XHp:List (Nat×XbS):=[]
def Xnl (n:Int) (k:Int) (t17:Int) (b:List Int):VM:=
 ⟨⟨71,34,[(0,.int .u64 n),(1,.int .i64 k),(5,.slice (some ⟨0,0,none⟩) k.toNat 1),(16,.int .i64 (k.toNat:Int)),(17,.int .i64 t17)],[.code XAz,.inLoop XAz,.inBlock 0,.code XHB],[],false,none⟩,[],[(0,.row true (vI .u8 b))],1⟩
theorem XCB (hS:Xaq Tryz.prog (XaL (XHp))) (n:Int) (k:Int) (res:List UInt8):∀ fuel (st:Int×(List Int)) (o:List UInt8),iter (fun st=>Xhb n k st.1 st.2) fuel st=some o→(o=res) →
 XaM Tryz.prog 71 0 (Xnl n k st.1 st.2) (fun v H _=>Res 0 (XNy res) v H):=by
 intro fuel st o h hc
 refine XcJ (head:=fun st=>Xnl n k st.1 st.2) (C:=fun o=>(o=res)) ?_ fuel st o h hc
 clear h hc o st fuel
 intro st o h hc
 obtain ⟨t17,b⟩:=st
 replace h:Xhb n k t17 b=some o:=h
 show XaM Tryz.prog 71 0 (Xnl n k t17 b) (fun v H _=>Res 0 (XNy res) v H)
 unfold Xhb at h
 refine Xbp XaP hS true 3000 ?_
 conv=>whnf
 refine br.h2 h (by rfl) ?_ ?_
 ·clear h;intro hb h;conv=>whnf
  replace h:=Xbr.elim h;obtain ⟨hb,h⟩:=h
  refine req.intro (by (first|rfl|(simp [wI,vI,vB,vS,bI,Xir,Xe2,Xbd,Value.cells] at *;omega)|(simp [vI,vB,vS,bI,Xir,Xe2,Xbd,Value.cells] at *;omega)|(simp [vI,vB,vS,bI,Xir,Xe2,Xbd,Value.cells] at *;done))) ?_
  conv=>whnf
  refine XOK ?_
  conv=>whnf
  exact W
 clear h;intro hb h;conv=>whnf
 let t:Int:=wI .i64 (8*(wI .i64 ((wI .i64 (k - 1)) - t17)))
 replace h:=Xbr.elim h;obtain ⟨hb,h⟩:=h
 try (refine req.intro hb ?_;conv=>whnf)
 replace h:=Xbr.elim h;obtain ⟨hb,h⟩:=h
 try (refine req.intro hb ?_;conv=>whnf)
 replace h:=Xbr.elim h;obtain ⟨hb,h⟩:=h
 refine st_I hb (by first|rfl|(rw [Nat.zero_add,Nat.mul_one];try rfl;done)|omega) ?_
 conv=>whnf
 let row:List Int:=b.set t17.toNat (wI .u8 (n.fdiv (2^(min t.toNat 64))))
 cases h;simp only [Sum.elim_inl,Xnl] at hc
 exact Xjj hc [(0,0)] rfl
theorem XIC (hS:Xaq Tryz.prog (XaL (XHp))) (n:Int) (k:Int) (res:List UInt8) (h:XlK n k=some res) :
 XaM Tryz.prog 71 0 ⟨⟨71,34,[(0,.int .u64 n),(1,.int .i64 k)],[.code XG6],[],false,none⟩,[],[],0⟩ (fun v H _=>Res 0 (XNy res) v H):=by
 unfold XlK at h
 refine Xbp XaP hS true 3000 ?_
 conv=>whnf
 refine br.h h (by rfl) ?_ ?_
 ·clear h;intro hb h;conv=>whnf
  exact W
 clear h;intro hb h;conv=>whnf
 refine br.h h (by rfl) ?_ ?_
 ·clear h;intro hb h;conv=>whnf
  exact W
 clear h;intro hb h;conv=>whnf
 replace h:=Xbr.elim h;obtain ⟨hb,h⟩:=h
 try (refine req.intro hb ?_;conv=>whnf)
 refine XNG ?_
 conv=>whnf
 have hl:=XCB hS _ _ res _ _ _ h rfl;simp only [Xnl] at hl
 exact Xjj hl [(0,0)] rfl
def XaF:XbT:=XlK
theorem Xq8:Xb8 Tryz.prog 71 (s71 XaF):=by
 have hL:=XIC (Xaq.XaY trivial)
 exact okA ⟨Tryz.f71,rfl,by decide,rfl⟩
def Xg9 (t1:List UInt8) (n:Int) (t37:Int):Option (Sum (Int×Int) (Int×Bool)):=
 cond (decide (t37<(t1.length:Int)))
  (
  Xbr (decide ((0:Int)≤t37∧t37<(t1.length:Int))) <|
  ((bI t1)[t37.toNat]?).bind fun (e:Int)=>
  let t2:=XvA .u64 (wI .u64 (n*2^8)) (wI .u64 e)
  some (.inl (t2,wI .i64 (t37+1))))
  (
  some (.inr ((n,true))))
def XlD (s:List UInt8) (ata1:Int) (k:Int):Option (Int×Bool):=
 cond (decide (k<1))
  (
  some ((0,false)))
  (
  cond (decide (k>8))
   (
   some ((0,false)))
   (
   cond (decide (ata1<0))
    (
    some ((0,false)))
    (
    let t:=decide ((wI .i64 ((s.length:Int) - k))<ata1)
    cond (t)
     (
     some ((0,false)))
     (
     Xbr (decide ((0:Int)≤(wI .i64 (ata1+k))∧(wI .i64 (ata1+k))≤(s.length:Int)∧(0:Int)≤ata1∧ata1≤((wI .i64 (ata1+k)).toNat:Int))) <|
     let t1:=(s.drop ata1.toNat).take ((wI .i64 (ata1+k)).toNat - ata1.toNat)
     iter (fun st=>Xg9 t1 st.1 st.2) FUEL (0,0)))))
def XNw (x:Int×Bool):Xc2:=⟨.tuple ⟨[.int .u64 x.1,.bool x.2]⟩,[],[]⟩
abbrev XbI:=(List UInt8)→Int→Int→Option (Int×Bool)
def r69 (g:XbI):Dec:=dV asS fun (y0:List UInt8)=>dV (asI .i64) fun (y1:Int)=>dV (asI .i64) fun (y2:Int)=>XdT (ofG (g y0 y1 y2) XNw)
theorem r69_c {g:XbI} {y0:List UInt8} {y1:Int} {y2:Int} {x:Int×Bool} (hx:g y0 y1 y2=some x):r69 g [.string ⟨⟨y0⟩⟩,.int .i64 y1,.int .i64 y2] []=some (XNw x):=(Xbb (Xds)).trans ((Xbb (Xdr _)).trans ((Xbb (Xdr _)).trans (Xa7 hx)))
def s69 (g:XbI):XbS:=⟨[.v,.v,.v],r69 g⟩
theorem XpF {g:XbI} {y0:List UInt8} {y1:Int} {y2:Int} {x:Int×Bool} (hx:g y0 y1 y2=some x):(s69 g).run [.string ⟨⟨y0⟩⟩,.int .i64 y1,.int .i64 y2] []=some (XNw x):=r69_c hx
abbrev XGQ:List (Nat×XbS):=[]
def Xnj (t1:List UInt8) (n:Int) (t37:Int):VM:=
 ⟨⟨69,48,[(8,.int .u64 n),(35,.slice (some ⟨0,0,none⟩) t1.length 1),(36,.int .i64 (t1.length:Int)),(37,.int .i64 t37)],[.code XyV,.inLoop XyV,.inBlock 0,.code XFF],[],false,none⟩,[],[(0,.row true (vI .u8 (bI t1)))],1⟩
theorem XDR (hS:Xaq Tryz.prog (XaL (XGQ))) (t1:List UInt8) (res:Int×Bool):∀ fuel (st:Int×Int) (o:Int×Bool),iter (fun st=>Xg9 t1 st.1 st.2) fuel st=some o→(o=res) →
 XaM Tryz.prog 69 0 (Xnj t1 st.1 st.2) (fun v H _=>Res 0 (XNw res) v H):=by
 intro fuel st o h hc
 refine XcJ (head:=fun st=>Xnj t1 st.1 st.2) (C:=fun o=>(o=res)) ?_ fuel st o h hc
 clear h hc o st fuel
 intro st o h hc
 obtain ⟨n,t37⟩:=st
 replace h:Xg9 t1 n t37=some o:=h
 show XaM Tryz.prog 69 0 (Xnj t1 n t37) (fun v H _=>Res 0 (XNw res) v H)
 unfold Xg9 at h
 refine Xbp XaP hS true 3000 ?_
 conv=>whnf
 refine br.h2 h (by rfl) ?_ ?_
 ·clear h;intro hb h;conv=>whnf
  exact W
 clear h;intro hb h;conv=>whnf
 replace h:=Xbr.elim h;obtain ⟨hb,h⟩:=h
 try (refine req.intro hb ?_;conv=>whnf)
 replace h:=Xcm.elim h;obtain ⟨e,hy,h⟩:=h
 refine rd.I hy (by first|rfl|(rw [Nat.zero_add,Nat.mul_one];try rfl;done)|omega) ?_
 conv=>whnf
 let t2:Int:=XvA .u64 (wI .u64 (n*2^8)) (wI .u64 e)
 cases h;simp only [Sum.elim_inl,Xnj] at hc
 exact Xjj hc [(0,0)] rfl
theorem XIM (hS:Xaq Tryz.prog (XaL (XGQ))) (s:List UInt8) (ata1:Int) (k:Int) (res:Int×Bool) (h:XlD s ata1 k=some res) :
 XaM Tryz.prog 69 0 ⟨⟨69,48,[(0,.string ⟨⟨s⟩⟩),(1,.int .i64 ata1),(2,.int .i64 k)],[.code XG8],[],false,none⟩,[],[],0⟩ (fun v H _=>Res 0 (XNw res) v H):=by
 unfold XlD at h
 refine Xbp XaP hS true 3000 ?_
 conv=>whnf
 refine br.h h (by rfl) ?_ ?_
 ·clear h;intro hb h;conv=>whnf
  exact W
 clear h;intro hb h;conv=>whnf
 refine br.h h (by rfl) ?_ ?_
 ·clear h;intro hb h;conv=>whnf
  exact W
 clear h;intro hb h;conv=>whnf
 refine br.h h (by rfl) ?_ ?_
 ·clear h;intro hb h;conv=>whnf
  exact W
 clear h;intro hb h;conv=>whnf
 let t:Bool:=decide ((wI .i64 ((s.length:Int) - k))<ata1)
 refine br.h h (by rfl) ?_ ?_
 ·clear h;intro hb h;conv=>whnf
  exact W
 clear h;intro hb h;conv=>whnf
 replace h:=Xbr.elim h;obtain ⟨hb,h⟩:=h
 try (refine req.intro hb ?_;conv=>whnf)
 let t1:List UInt8:=(s.drop ata1.toNat).take ((wI .i64 (ata1+k)).toNat - ata1.toNat)
 refine XQZ ?_
 conv=>whnf
 have hl:=XDR hS _ res _ _ _ h rfl;simp only [Xnj] at hl
 exact Xjj hl [(0,0)] rfl
def Xax:XbI:=XlD
theorem Xrd:Xb8 Tryz.prog 69 (s69 Xax):=by
 have hL:=XIM (Xaq.XaY trivial)
 exact okA ⟨Tryz.f69,rfl,by decide,rfl⟩
def Xg7 (k:Int) (n1:Int) (s:List UInt8) (i:Int):Option (Sum (Int×(List UInt8)×Int) (List UInt8)):=
 cond (decide (i<k))
  (
  cond (decide (k≤8))
   (
   let t:=[UInt8.ofNat (wI .u8 (n1.tmod 256)).toNat]
   Xbr (decide (t.length+s.length<2^63)) <|
   some (.inl (wI .u64 (n1.tdiv 256),t++s,wI .i64 (i+1))))
   (
   some (.inr (s))))
  (
  some (.inr (s)))
def Xpb (n:Int) (k:Int):Option (List UInt8):=
 iter (fun st=>Xg7 k st.1 st.2.1 st.2.2) FUEL (n,[],0)
def XNu (x:List UInt8):Xc2:=⟨.string ⟨⟨x⟩⟩,[],[]⟩
abbrev Xc1:=Int→Int→Option (List UInt8)
def r46 (g:Xc1):Dec:=dV (asI .u64) fun (y0:Int)=>dV (asI .i64) fun (y1:Int)=>XdT (ofG (g y0 y1) XNu)
theorem r46_c {g:Xc1} {y0:Int} {y1:Int} {x:List UInt8} (hx:g y0 y1=some x):r46 g [.int .u64 y0,.int .i64 y1] []=some (XNu x):=(Xbb (Xdr _)).trans ((Xbb (Xdr _)).trans (Xa7 hx))
def s46 (g:Xc1):XbS:=⟨[.v,.v],r46 g⟩
theorem Xto {g:Xc1} {y0:Int} {y1:Int} {x:List UInt8} (hx:g y0 y1=some x):(s46 g).run [.int .u64 y0,.int .i64 y1] []=some (XNu x):=r46_c hx
abbrev XFQ:List (Nat×XbS):=[]
def XnN (k:Int) (n1:Int) (s:List UInt8) (i:Int):VM:=
 ⟨⟨46,26,[(0,.int .u64 n1),(1,.int .i64 k),(5,.string ⟨⟨s⟩⟩),(6,.int .i64 i)],[.code XyR,.inLoop XyR,.inBlock 0,.code XFA],[],false,none⟩,[],[],0⟩
theorem XEH (hS:Xaq Tryz.prog (XaL (XFQ))) (k:Int) (res:List UInt8):∀ fuel (st:Int×(List UInt8)×Int) (o:List UInt8),iter (fun st=>Xg7 k st.1 st.2.1 st.2.2) fuel st=some o→(o=res) →
 XaM Tryz.prog 46 0 (XnN k st.1 st.2.1 st.2.2) (fun v H _=>Res 0 (XNu res) v H):=by
 intro fuel st o h hc
 refine XcJ (head:=fun st=>XnN k st.1 st.2.1 st.2.2) (C:=fun o=>(o=res)) ?_ fuel st o h hc
 clear h hc o st fuel
 intro st o h hc
 obtain ⟨n1,s,i⟩:=st
 replace h:Xg7 k n1 s i=some o:=h
 show XaM Tryz.prog 46 0 (XnN k n1 s i) (fun v H _=>Res 0 (XNu res) v H)
 unfold Xg7 at h
 refine Xbp XaP hS true 3000 ?_
 conv=>whnf
 refine br.h2 h (by rfl) ?_ ?_
 ·clear h;intro hb h;conv=>whnf
  exact W
 clear h;intro hb h;conv=>whnf
 refine br.h2 h (by rfl) ?_ ?_
 ·clear h;intro hb h;conv=>whnf
  exact W
 clear h;intro hb h;conv=>whnf
 refine XJA rfl ?_
 conv=>whnf
 let t:List UInt8:=[UInt8.ofNat (wI .u8 (n1.tmod 256)).toNat]
 replace h:=Xbr.elim h;obtain ⟨hb,h⟩:=h
 try (refine req.intro hb ?_;conv=>whnf)
 cases h;simp only [Sum.elim_inl,XnN] at hc
 exact Xjj hc [] rfl
theorem XIm (hS:Xaq Tryz.prog (XaL (XFQ))) (n:Int) (k:Int) (res:List UInt8) (h:Xpb n k=some res) :
 XaM Tryz.prog 46 0 ⟨⟨46,26,[(0,.int .u64 n),(1,.int .i64 k)],[.code XGZ],[],false,none⟩,[],[],0⟩ (fun v H _=>Res 0 (XNu res) v H):=by
 unfold Xpb at h
 refine Xbp XaP hS true 3000 ?_
 conv=>whnf
 have hl:=XEH hS _ res _ _ _ h rfl;simp only [XnN] at hl
 exact Xjj hl [] rfl
def XbU:Xc1:=Xpb
theorem Xtz:Xb8 Tryz.prog 46 (s46 XbU):=by
 have hL:=XIm (Xaq.XaY trivial)
 exact okA ⟨Tryz.f46,rfl,by decide,rfl⟩
def Xi0 (s:List UInt8) (ata1:Int) (k:Int) (n:Int) (i:Int):Option (Sum (Int×Int) (Int×Bool)):=
 cond (decide (i<k))
  (
  Xbr (decide (0≤(wI .i64 (ata1+i)))) <|
  (s[(wI .i64 (ata1+i)).toNat]?).bind fun (b:UInt8)=>
  let t1:=wI .u64 ((wI .u64 (n*256))+(wI .u64 (b.toNat:Int)))
  some (.inl (t1,wI .i64 (i+1))))
  (
  some (.inr ((n,true))))
def Xpf (s:List UInt8) (ata1:Int) (k:Int):Option (Int×Bool):=
 cond (decide (k<1))
  (
  some ((0,false)))
  (
  cond (decide (k>8))
   (
   some ((0,false)))
   (
   cond (decide (ata1<0))
    (
    some ((0,false)))
    (
    cond (decide (ata1>(s.length:Int)))
     (
     some ((0,false)))
     (
     let t:=decide (k>(wI .i64 ((s.length:Int) - ata1)))
     cond (t)
      (
      some ((0,false)))
      (
      iter (fun st=>Xi0 s ata1 k st.1 st.2) FUEL (0,0))))))
def XNv (x:Int×Bool):Xc2:=⟨.tuple ⟨[.int .u64 x.1,.bool x.2]⟩,[],[]⟩
abbrev XdG:=(List UInt8)→Int→Int→Option (Int×Bool)
def r61 (g:XdG):Dec:=dV asS fun (y0:List UInt8)=>dV (asI .i64) fun (y1:Int)=>dV (asI .i64) fun (y2:Int)=>XdT (ofG (g y0 y1 y2) XNv)
theorem r61_c {g:XdG} {y0:List UInt8} {y1:Int} {y2:Int} {x:Int×Bool} (hx:g y0 y1 y2=some x):r61 g [.string ⟨⟨y0⟩⟩,.int .i64 y1,.int .i64 y2] []=some (XNv x):=(Xbb (Xds)).trans ((Xbb (Xdr _)).trans ((Xbb (Xdr _)).trans (Xa7 hx)))
def s61 (g:XdG):XbS:=⟨[.v,.v,.v],r61 g⟩
theorem XwW {g:XdG} {y0:List UInt8} {y1:Int} {y2:Int} {x:Int×Bool} (hx:g y0 y1 y2=some x):(s61 g).run [.string ⟨⟨y0⟩⟩,.int .i64 y1,.int .i64 y2] []=some (XNv x):=r61_c hx
abbrev XFq:List (Nat×XbS):=[]
def XnM (s:List UInt8) (ata1:Int) (k:Int) (n:Int) (i:Int):VM:=
 ⟨⟨61,49,[(0,.string ⟨⟨s⟩⟩),(1,.int .i64 ata1),(2,.int .i64 k),(8,.int .u64 n),(9,.int .i64 i)],[.code Xzk,.inLoop Xzk,.inBlock 0,.code XHo],[],false,none⟩,[],[],0⟩
theorem XCW (hS:Xaq Tryz.prog (XaL (XFq))) (s:List UInt8) (ata1:Int) (k:Int) (res:Int×Bool):∀ fuel (st:Int×Int) (o:Int×Bool),iter (fun st=>Xi0 s ata1 k st.1 st.2) fuel st=some o→(o=res) →
 XaM Tryz.prog 61 0 (XnM s ata1 k st.1 st.2) (fun v H _=>Res 0 (XNv res) v H):=by
 intro fuel st o h hc
 refine XcJ (head:=fun st=>XnM s ata1 k st.1 st.2) (C:=fun o=>(o=res)) ?_ fuel st o h hc
 clear h hc o st fuel
 intro st o h hc
 obtain ⟨n,i⟩:=st
 replace h:Xi0 s ata1 k n i=some o:=h
 show XaM Tryz.prog 61 0 (XnM s ata1 k n i) (fun v H _=>Res 0 (XNv res) v H)
 unfold Xi0 at h
 refine Xbp XaP hS true 3000 ?_
 conv=>whnf
 refine br.h2 h (by rfl) ?_ ?_
 ·clear h;intro hb h;conv=>whnf
  exact W
 clear h;intro hb h;conv=>whnf
 replace h:=Xbr.elim h;obtain ⟨hb,h⟩:=h
 try (refine req.intro hb ?_;conv=>whnf)
 replace h:=Xcm.elim h;obtain ⟨b,hy,h⟩:=h
 refine rdS.intro hy ?_
 conv=>whnf
 let t1:Int:=wI .u64 ((wI .u64 (n*256))+(wI .u64 (b.toNat:Int)))
 cases h;simp only [Sum.elim_inl,XnM] at hc
 exact Xjj hc [] rfl
theorem XIN (hS:Xaq Tryz.prog (XaL (XFq))) (s:List UInt8) (ata1:Int) (k:Int) (res:Int×Bool) (h:Xpf s ata1 k=some res) :
 XaM Tryz.prog 61 0 ⟨⟨61,49,[(0,.string ⟨⟨s⟩⟩),(1,.int .i64 ata1),(2,.int .i64 k)],[.code XHW],[],false,none⟩,[],[],0⟩ (fun v H _=>Res 0 (XNv res) v H):=by
 unfold Xpf at h
 refine Xbp XaP hS true 3000 ?_
 conv=>whnf
 refine br.h h (by rfl) ?_ ?_
 ·clear h;intro hb h;conv=>whnf
  exact W
 clear h;intro hb h;conv=>whnf
 refine br.h h (by rfl) ?_ ?_
 ·clear h;intro hb h;conv=>whnf
  exact W
 clear h;intro hb h;conv=>whnf
 refine br.h h (by rfl) ?_ ?_
 ·clear h;intro hb h;conv=>whnf
  exact W
 clear h;intro hb h;conv=>whnf
 refine br.h h (by rfl) ?_ ?_
 ·clear h;intro hb h;conv=>whnf
  exact W
 clear h;intro hb h;conv=>whnf
 let t:Bool:=decide (k>(wI .i64 ((s.length:Int) - ata1)))
 refine br.h h (by rfl) ?_ ?_
 ·clear h;intro hb h;conv=>whnf
  exact W
 clear h;intro hb h;conv=>whnf
 have hl:=XCW hS _ _ _ res _ _ _ h rfl;simp only [XnM] at hl
 exact Xjj hl [] rfl
def Xcp:XdG:=Xpf
theorem XvX:Xb8 Tryz.prog 61 (s61 Xcp):=by
 have hL:=XIN (Xaq.XaY trivial)
 exact okA ⟨Tryz.f61,rfl,by decide,rfl⟩
def XmM (Xcp:XdG) (s:List UInt8) (ata1:Int) (k:Int):Option Int:=
 (Xcp s ata1 k).bind fun xg=>
 some (wI .i64 xg.1)
def rx62 (x:Int):Xc2:=⟨.int .i64 x,[],[]⟩
abbrev Xa9:=(List UInt8)→Int→Int→Option Int
def r62 (g:Xa9):Dec:=dV asS fun (y0:List UInt8)=>dV (asI .i64) fun (y1:Int)=>dV (asI .i64) fun (y2:Int)=>XdT (ofG (g y0 y1 y2) rx62)
theorem r62_c {g:Xa9} {y0:List UInt8} {y1:Int} {y2:Int} {x:Int} (hx:g y0 y1 y2=some x):r62 g [.string ⟨⟨y0⟩⟩,.int .i64 y1,.int .i64 y2] []=some (rx62 x):=(Xbb (Xds)).trans ((Xbb (Xdr _)).trans ((Xbb (Xdr _)).trans (Xa7 hx)))
def s62 (g:Xa9):XbS:=⟨[.v,.v,.v],r62 g⟩
theorem Xi8 {g:Xa9} {y0:List UInt8} {y1:Int} {y2:Int} {x:Int} (hx:g y0 y1 y2=some x):(s62 g).run [.string ⟨⟨y0⟩⟩,.int .i64 y1,.int .i64 y2] []=some (rx62 x):=r62_c hx
abbrev XSZ (Xcp:XdG):List (Nat×XbS):=[(61,s61 Xcp)]
theorem XKI (Xcp:XdG) (hS:Xaq Tryz.prog (XaL (XSZ Xcp))) (s:List UInt8) (ata1:Int) (k:Int) (res:Int) (h:XmM Xcp s ata1 k=some res) :
 XaM Tryz.prog 62 0 ⟨⟨62,18,[(0,.string ⟨⟨s⟩⟩),(1,.int .i64 ata1),(2,.int .i64 k)],[.code XOJ],[],false,none⟩,[],[],0⟩ (fun v H _=>Res 0 (rx62 res) v H):=by
 unfold XmM at h
 have R1:=@XwW Xcp
 refine Xbp XaP hS true 3000 ?_
 conv=>whnf
 exact W
def Xao:Xa9:=XmM Xcp
theorem Xl6:Xb8 Tryz.prog 62 (s62 Xao):=by
 have hL:=XKI Xcp (Xaq.XaY ⟨XvX,trivial⟩)
 exact okA ⟨Tryz.f62,rfl,by decide,rfl⟩
end Go.Vm.Code
namespace Go.Vm.Code
open Go Go.Vm
def XiP (n k:Int):List UInt8:=if 1≤k∧k≤8 then be n.toNat k.toNat else []
theorem Xfh {n k:Int} (h0:0≤n):XaF n k=some (XiP n k):=by
 unfold XaF XlK XiP
 by_cases h1:k<1
 ·rw [XaZ h1,if_neg (by omega)]
 by_cases h2:k>8
 ·rw [XaR h1,XaZ h2,if_neg (by omega)]
 rw [XaR h1,XaR h2,XaH (by omega),if_pos (by omega)]
 obtain ⟨m,rfl⟩:=Int.eq_ofNat_of_zero_le h0
 obtain ⟨j,rfl⟩:=Int.eq_ofNat_of_zero_le (show 0≤k by omega)
 have key:=iter_eq (step:=fun (st:Int×List Int)=>Xhb (m:Int) (j:Int) st.1 st.2) (fun st=>iB (st.2.take st.1.toNat)++be m (j - st.1.toNat)) (fun st=>0≤st.1∧st.1≤j∧st.2.length=j) (fun st=>(j - st.1).toNat) ?_ FUEL (0,List.replicate (j:Int).toNat 0) ⟨by simp,by simp,by simp⟩ (by rw [Xfm];simp only;omega)
 ·rw [key];simp [iB]
 rintro ⟨p,b⟩ ⟨g1,g2,g3⟩
 simp only at g1 g2 g3 ⊢
 obtain ⟨i,rfl⟩:=Int.eq_ofNat_of_zero_le g1
 unfold Xhb
 by_cases hp:i<j
 ·refine .inr ⟨(((i+1:Nat):Int),b.set i ((m/256^(j - 1 - i)%256:Nat):Int)),?_,⟨by simp only;omega,by simp only;omega,by simp [g3]⟩,by simp only;omega,?_⟩
  ·simp (disch:=omega) only [Xdb,XaH,XaZ,Int.toNat_natCast]
   have e1:min (8*((j:Int) - 1 - i)).toNat 64=8*(j - 1 - i):=by omega
   have e0:(2:Int)^(8*(j - 1 - i))=((256^(j - 1 - i):Nat):Int):=by rw [show (256:Nat)=2^8 from rfl,←Nat.pow_mul];push_cast;rfl
   rw [e1,XtY,wU8m,e0]
   rfl
  ·simp only [Int.toNat_natCast]
   have e2:j - i=(j - (i+1))+1:=by omega
   have e3:j - (i+1)=j - 1 - i:=by omega
   have e4:(b.set i ((m/256^(j - 1 - i)%256:Nat):Int)).take (i+1)=b.take i++[((m/256^(j - 1 - i)%256:Nat):Int)]:=by
    rw [List.take_succ_eq_append_getElem (by simp;omega),List.take_set_of_le (Nat.le_refl _),List.getElem_set_self]
   rw [e2,e4,be,e3]
   simp only [iB,List.map_append,List.map_cons,List.map_nil,List.append_assoc,List.cons_append,List.nil_append,Int.toNat_natCast]
   congr 2
   apply UInt8.toNat_inj.1
   simp
 ·refine .inl ?_
  obtain rfl:i=j:=by omega
  simp (disch:=omega) only [XaR,XaH,Int.toNat_natCast]
  simp [be]
theorem XhX {n k:Int} (h0:0≤n) (h1:n<2^64):XbU n k=some (XiP n k):=by
 unfold XbU Xpb XiP
 obtain ⟨m,rfl⟩:=Int.eq_ofNat_of_zero_le h0
 by_cases hk:1≤k∧k≤8
 ·rw [if_pos hk]
  obtain ⟨j,rfl⟩:=Int.eq_ofNat_of_zero_le (show 0≤k by omega)
  have key:=iter_eq (step:=fun st=>Xg7 (j:Int) st.1 st.2.1 st.2.2) (fun st=>be st.1.toNat (j - st.2.2.toNat)++st.2.1) (fun st=>0≤st.1∧st.1<2^64∧0≤st.2.2∧st.2.2≤j∧st.2.1.length<2^20+st.2.2.toNat) (fun st=>(j - st.2.2).toNat) ?_ FUEL ((m:Int),[],0) ⟨by simp,by simp only;omega,by simp,by simp,by simp⟩ (by rw [Xfm];simp only;omega)
  ·rw [key];simp
  rintro ⟨n,s,p⟩ ⟨g1,g2,g3,g4,g5⟩
  simp only at g1 g2 g3 g4 g5 ⊢
  obtain ⟨i,rfl⟩:=Int.eq_ofNat_of_zero_le g3
  obtain ⟨x,rfl⟩:=Int.eq_ofNat_of_zero_le g1
  unfold Xg7
  by_cases hp:i<j
  ·refine .inr ⟨(((x/256:Nat):Int),UInt8.ofNat x::s,((i+1:Nat):Int)),?_,⟨by simp only;omega,by simp only;omega,by simp only;omega,by simp only;omega,by simp at g5 ⊢;omega⟩,by simp only;omega,?_⟩
   ·have e1:(x:Int).tmod 256=((x%256:Nat):Int):=by rw [Int.tmod_eq_emod_of_nonneg (by omega)];rfl
    have e2:(x:Int).tdiv 256=((x/256:Nat):Int):=by rw [Int.tdiv_eq_ediv_of_nonneg (by omega)];rfl
    rw [XaZ (by omega),XaZ (by omega),e1,e2,wU8 (by omega) (by omega)]
    simp only [List.length_cons,List.length_nil]
    rw [XaH (by omega),XsP (by omega) (by omega),Xdb (by omega) (by omega),Int.toNat_natCast]
    have e3:UInt8.ofNat (x%256)=UInt8.ofNat x:=by apply UInt8.toNat_inj.1;simp
    rw [e3];rfl
   ·simp only [Int.toNat_natCast]
    have e2:j - i=(j - (i+1))+1:=by omega
    rw [e2,Xqc];simp
  ·refine .inl ?_
   obtain rfl:i=j:=by omega
   rw [XaR (by omega)]
   simp [be]
 ·rw [if_neg hk]
  show iter _ (18446744073709551615+1) _=_
  rw [iter]
  have:Xg7 k (m:Int) [] 0=some (.inr []):=by
   unfold Xg7
   by_cases h2:0<k
   ·rw [XaZ h2,XaR (by omega)]
   ·rw [XaR h2]
  simp only [this]
def Xuk (s:List UInt8) (p k:Int):Int×Bool:=if 1≤k∧k≤8∧0≤p∧p+k≤s.length then (((Xed ((s.drop p.toNat).take k.toNat):Nat):Int),true) else (0,false)
theorem Xsl {v i:Nat} (h:v<256^i) (hi:i≤7):v<2^56:=Nat.lt_of_lt_of_le h (by
 have:(256:Nat)^i≤256^7:=Nat.pow_le_pow_right (by decide) hi
 simpa using this)
theorem Xek {s:List UInt8} {p k:Int} (hs:s.length<2^61):Xax s p k=some (Xuk s p k):=by
 unfold Xax XlD Xuk
 by_cases h1:k<1
 ·rw [XaZ h1,if_neg (by omega)]
 by_cases h2:k>8
 ·rw [XaR h1,XaZ h2,if_neg (by omega)]
 by_cases h3:p<0
 ·rw [XaR h1,XaR h2,XaZ h3,if_neg (by omega)]
 rw [XaR h1,XaR h2,XaR h3,Xdb (n:=(s.length:Int) - k) (by omega) (by omega)]
 by_cases h4:(s.length:Int) - k<p
 ·simp only []
  rw [XaZ h4,if_neg (by omega)]
 simp only []
 rw [XaR h4,Xdb (n:=p+k) (by omega) (by omega),XaH (by omega),if_pos (by omega)]
 obtain ⟨q,rfl⟩:=Int.eq_ofNat_of_zero_le (show 0≤p by omega)
 obtain ⟨j,rfl⟩:=Int.eq_ofNat_of_zero_le (show 0≤k by omega)
 have e:((q:Int)+j).toNat - (q:Int).toNat=j:=by omega
 rw [e]
 simp only [Int.toNat_natCast]
 generalize ht:(s.drop q).take j=t
 have hl:t.length=j:=by rw [←ht];simp;omega
 have key:=iter_eq (step:=fun st=>Xg9 t st.1 st.2) (fun st=>(((st.1.toNat*256^(j - st.2.toNat)+Xed (t.drop st.2.toNat):Nat):Int),true)) (fun st=>0≤st.1∧0≤st.2∧st.2≤j∧st.1.toNat<256^st.2.toNat) (fun st=>(j - st.2).toNat) ?_ FUEL (0,0) ⟨by simp,by simp,by simp,by simp⟩ (by rw [Xfm];simp only;omega)
 ·rw [key];simp
 rintro ⟨n,x⟩ ⟨g1,g2,g3,g4⟩
 simp only at g1 g2 g3 g4 ⊢
 obtain ⟨i,rfl⟩:=Int.eq_ofNat_of_zero_le g2
 obtain ⟨v,rfl⟩:=Int.eq_ofNat_of_zero_le g1
 simp only [Int.toNat_natCast] at g4 ⊢
 unfold Xg9
 by_cases hp:i<j
 ·have hlt:i<t.length:=by omega
  have hb:=t[i].toNat_lt
  have hv:=Xsl g4 (by omega)
  refine .inr ⟨(((v*256+t[i].toNat:Nat):Int),((i+1:Nat):Int)),?_,⟨by simp only;omega,by simp only;omega,by simp only;omega,?_⟩,by simp only;omega,?_⟩
  ·rw [XaZ (by omega),XaH (by omega)]
   have e1:(bI t)[(i:Int).toNat]?=some (t[i].toNat:Int):=by simp [bI,hlt]
   rw [e1,Option.bind_some]
   have e2:XvA .u64 (wI .u64 ((v:Int)*2^8)) (wI .u64 (t[i].toNat:Int))=((v*256+t[i].toNat:Nat):Int):=by
    rw [XsP (by omega) (by omega),XsP (by omega) (by omega),Xq5 8 (by omega) (by omega) (by omega) (by omega) (by omega)];omega
   simp only [e2]
   rw [Xdb (by omega) (by omega)];rfl
  ·simp only [Int.toNat_natCast]
   rw [Nat.pow_succ];omega
  ·simp only [Int.toNat_natCast]
   rw [List.drop_eq_getElem_cons hlt,Xgs]
   have e3:(t.drop (i+1)).length=j - (i+1):=by simp;omega
   have e4:j - i=(j - (i+1))+1:=by omega
   rw [e3,e4,Nat.pow_succ,Nat.add_mul,Nat.mul_assoc,Nat.mul_comm 256,Nat.add_assoc]
 ·refine .inl ?_
  obtain rfl:i=j:=by omega
  rw [XaR (by omega)]
  simp [←hl]
theorem Xi6 {s:List UInt8} {p k:Int} (hs:s.length<2^61):Xcp s p k=some (Xuk s p k):=by
 unfold Xcp Xpf Xuk
 by_cases h1:k<1
 ·rw [XaZ h1,if_neg (by omega)]
 by_cases h2:k>8
 ·rw [XaR h1,XaZ h2,if_neg (by omega)]
 by_cases h3:p<0
 ·rw [XaR h1,XaR h2,XaZ h3,if_neg (by omega)]
 by_cases h5:p>s.length
 ·rw [XaR h1,XaR h2,XaR h3,XaZ h5,if_neg (by omega)]
 rw [XaR h1,XaR h2,XaR h3,XaR h5,Xdb (n:=(s.length:Int) - p) (by omega) (by omega)]
 by_cases h4:k>(s.length:Int) - p
 ·simp only []
  rw [XaZ h4,if_neg (by omega)]
 simp only []
 rw [XaR h4,if_pos (by omega)]
 obtain ⟨q,rfl⟩:=Int.eq_ofNat_of_zero_le (show 0≤p by omega)
 obtain ⟨j,rfl⟩:=Int.eq_ofNat_of_zero_le (show 0≤k by omega)
 simp only [Int.toNat_natCast]
 generalize ht:(s.drop q).take j=t
 have hl:t.length=j:=by rw [←ht];simp;omega
 have key:=iter_eq (step:=fun st=>Xi0 s (q:Int) (j:Int) st.1 st.2) (fun st=>(((st.1.toNat*256^(j - st.2.toNat)+Xed (t.drop st.2.toNat):Nat):Int),true)) (fun st=>0≤st.1∧0≤st.2∧st.2≤j∧st.1.toNat<256^st.2.toNat) (fun st=>(j - st.2).toNat) ?_ FUEL (0,0) ⟨by simp,by simp,by simp,by simp⟩ (by rw [Xfm];simp only;omega)
 ·rw [key];simp
 rintro ⟨n,x⟩ ⟨g1,g2,g3,g4⟩
 simp only at g1 g2 g3 g4 ⊢
 obtain ⟨i,rfl⟩:=Int.eq_ofNat_of_zero_le g2
 obtain ⟨v,rfl⟩:=Int.eq_ofNat_of_zero_le g1
 simp only [Int.toNat_natCast] at g4 ⊢
 unfold Xi0
 by_cases hp:i<j
 ·have hlt:i<t.length:=by omega
  have hb:=t[i].toNat_lt
  have hv:=Xsl g4 (by omega)
  refine .inr ⟨(((v*256+t[i].toNat:Nat):Int),((i+1:Nat):Int)),?_,⟨by simp only;omega,by simp only;omega,by simp only;omega,?_⟩,by simp only;omega,?_⟩
  ·rw [XaZ (by omega),Xdb (n:=(q:Int)+i) (by omega) (by omega),XaH (by omega)]
   have e0:((q:Int)+i).toNat=q+i:=by omega
   have e1:s[q+i]?=some t[i]:=by
    subst ht
    rw [List.getElem?_eq_getElem (by omega)]
    simp
   rw [e0,e1,Option.bind_some]
   have e2:wI .u64 ((wI .u64 ((v:Int)*256))+(wI .u64 (t[i].toNat:Int)))=((v*256+t[i].toNat:Nat):Int):=by
    rw [XsP (n:=(v:Int)*256) (by omega) (by omega),XsP (n:=(t[i].toNat:Int)) (by omega) (by omega),XsP (by omega) (by omega)];omega
   simp only [e2]
   rw [Xdb (by omega) (by omega)];rfl
  ·simp only [Int.toNat_natCast]
   rw [Nat.pow_succ];omega
  ·simp only [Int.toNat_natCast]
   rw [List.drop_eq_getElem_cons hlt,Xgs]
   have e3:(t.drop (i+1)).length=j - (i+1):=by simp;omega
   have e4:j - i=(j - (i+1))+1:=by omega
   rw [e3,e4,Nat.pow_succ,Nat.add_mul,Nat.mul_assoc,Nat.mul_comm 256,Nat.add_assoc]
 ·refine .inl ?_
  obtain rfl:i=j:=by omega
  rw [XaR (by omega)]
  simp [←hl]
theorem Xev {s:List UInt8} {p k:Int} (hs:s.length<2^61):Xao s p k=some (wI .i64 (Xuk s p k).1):=by
 unfold Xao XmM
 rw [Xi6 hs];rfl
end Go.Vm.Code
namespace Go.Vm.Code
open Go Go.Vm Go.Proofs
set_option maxRecDepth 100000
set_option maxHeartbeats 4000000
set_option linter.unusedVariables false
def Xlv (XaF:XbT) (s:List UInt8) (ata1:Int) (k:Int) (n:Int):Option (List UInt8):=
 (XaF n k).bind fun p=>
 cond (p==[])
  (
  some (s))
  (
  cond (decide (ata1<0))
   (
   some (s))
   (
   let t:=decide ((wI .i64 ((s.length:Int) - k))<ata1)
   cond (t)
    (
    some (s))
    (
    Xbr (decide ((0:Int)≤ata1∧ata1≤(s.length:Int))) <|
    Xbr (decide ((s.take ata1.toNat).length+p.length<2^63)) <|
    Xbr (decide ((0:Int)≤(wI .i64 (ata1+k))∧(wI .i64 (ata1+k))≤(s.length:Int))) <|
    let t1:=(s.drop (wI .i64 (ata1+k)).toNat).take (s.length - (wI .i64 (ata1+k)).toNat)
    Xbr (decide (((s.take ata1.toNat)++p).length+t1.length<2^63)) <|
    some (((s.take ata1.toNat)++p)++t1))))
def rx72 (x:List UInt8):Xc2:=⟨.string ⟨⟨x⟩⟩,[],[]⟩
abbrev Xeh:=(List UInt8)→Int→Int→Int→Option (List UInt8)
def r72 (g:Xeh):Dec:=dV asS fun (y0:List UInt8)=>dV (asI .i64) fun (y1:Int)=>dV (asI .i64) fun (y2:Int)=>dV (asI .u64) fun (y3:Int)=>XdT (ofG (g y0 y1 y2 y3) rx72)
theorem r72_c {g:Xeh} {y0:List UInt8} {y1:Int} {y2:Int} {y3:Int} {x:List UInt8} (hx:g y0 y1 y2 y3=some x):r72 g [.string ⟨⟨y0⟩⟩,.int .i64 y1,.int .i64 y2,.int .u64 y3] []=some (rx72 x):=(Xbb (Xds)).trans ((Xbb (Xdr _)).trans ((Xbb (Xdr _)).trans ((Xbb (Xdr _)).trans (Xa7 hx))))
def s72 (g:Xeh):XbS:=⟨[.v,.v,.v,.v],r72 g⟩
theorem XGb {g:Xeh} {y0:List UInt8} {y1:Int} {y2:Int} {y3:Int} {x:List UInt8} (hx:g y0 y1 y2 y3=some x):(s72 g).run [.string ⟨⟨y0⟩⟩,.int .i64 y1,.int .i64 y2,.int .u64 y3] []=some (rx72 x):=r72_c hx
abbrev XR9 (XaF:XbT):List (Nat×XbS):=[(71,s71 XaF)]
theorem XJo (XaF:XbT) (hS:Xaq Tryz.prog (XaL (XR9 XaF))) (s:List UInt8) (ata1:Int) (k:Int) (n:Int) (res:List UInt8) (h:Xlv XaF s ata1 k n=some res) :
 XaM Tryz.prog 72 0 ⟨⟨72,39,[(0,.string ⟨⟨s⟩⟩),(1,.int .i64 ata1),(2,.int .i64 k),(3,.int .u64 n)],[.code XHw],[],false,none⟩,[],[],0⟩ (fun v H _=>Res 0 (rx72 res) v H):=by
 unfold Xlv at h
 have R1:=@Xqf XaF
 refine Xbp XaP hS true 3000 ?_
 conv=>whnf
 exact W
def Xcr:Xeh:=Xlv XaF
theorem XFG:Xb8 Tryz.prog 72 (s72 Xcr):=by
 have hL:=XJo XaF (Xaq.XaY ⟨Xq8,trivial⟩)
 exact okA ⟨Tryz.f72,rfl,by decide,rfl⟩
def Xo8 (Xcp:XdG) (XbU:Xc1) (s:List UInt8) (ata1:Int) (k:Int) (n:Int):Option (List UInt8):=
 (Xcp s ata1 k).bind fun xg=>
 cond (!xg.2)
  (
  some (s))
  (
  Xbr (decide ((0:Int)≤ata1∧ata1≤(s.length:Int))) <|
  (XbU n k).bind fun p=>
  Xbr (decide ((s.take ata1.toNat).length+p.length<2^63)) <|
  Xbr (decide ((0:Int)≤(wI .i64 (ata1+k))∧(wI .i64 (ata1+k))≤(s.length:Int))) <|
  let t:=(s.drop (wI .i64 (ata1+k)).toNat).take (s.length - (wI .i64 (ata1+k)).toNat)
  Xbr (decide (((s.take ata1.toNat)++p).length+t.length<2^63)) <|
  some (((s.take ata1.toNat)++p)++t))
def rx47 (x:List UInt8):Xc2:=⟨.string ⟨⟨x⟩⟩,[],[]⟩
abbrev XeJ:=(List UInt8)→Int→Int→Int→Option (List UInt8)
def r47 (g:XeJ):Dec:=dV asS fun (y0:List UInt8)=>dV (asI .i64) fun (y1:Int)=>dV (asI .i64) fun (y2:Int)=>dV (asI .u64) fun (y3:Int)=>XdT (ofG (g y0 y1 y2 y3) rx47)
theorem r47_c {g:XeJ} {y0:List UInt8} {y1:Int} {y2:Int} {y3:Int} {x:List UInt8} (hx:g y0 y1 y2 y3=some x):r47 g [.string ⟨⟨y0⟩⟩,.int .i64 y1,.int .i64 y2,.int .u64 y3] []=some (rx47 x):=(Xbb (Xds)).trans ((Xbb (Xdr _)).trans ((Xbb (Xdr _)).trans ((Xbb (Xdr _)).trans (Xa7 hx))))
def s47 (g:XeJ):XbS:=⟨[.v,.v,.v,.v],r47 g⟩
theorem XF2 {g:XeJ} {y0:List UInt8} {y1:Int} {y2:Int} {y3:Int} {x:List UInt8} (hx:g y0 y1 y2 y3=some x):(s47 g).run [.string ⟨⟨y0⟩⟩,.int .i64 y1,.int .i64 y2,.int .u64 y3] []=some (rx47 x):=r47_c hx
abbrev XQL (Xcp:XdG) (XbU:Xc1):List (Nat×XbS):=[(61,s61 Xcp),(46,s46 XbU)]
theorem XMU (Xcp:XdG) (XbU:Xc1) (hS:Xaq Tryz.prog (XaL (XQL Xcp XbU))) (s:List UInt8) (ata1:Int) (k:Int) (n:Int) (res:List UInt8) (h:Xo8 Xcp XbU s ata1 k n=some res) :
 XaM Tryz.prog 47 0 ⟨⟨47,34,[(0,.string ⟨⟨s⟩⟩),(1,.int .i64 ata1),(2,.int .i64 k),(3,.int .u64 n)],[.code XHM],[],false,none⟩,[],[],0⟩ (fun v H _=>Res 0 (rx47 res) v H):=by
 unfold Xo8 at h
 have R1:=@XwW Xcp
 have R2:=@Xto XbU
 refine Xbp XaP hS true 3000 ?_
 conv=>whnf
 exact W
def XcK:XeJ:=Xo8 Xcp XbU
theorem XGk:Xb8 Tryz.prog 47 (s47 XcK):=by
 have hL:=XMU Xcp XbU (Xaq.XaY ⟨XvX,Xtz,trivial⟩)
 exact okA ⟨Tryz.f47,rfl,by decide,rfl⟩
def XjB (Xfw:XfI) (s:List UInt8):Option Bool:=
 (Xfw s).bind fun s1=>
 some (s1==65535)
def rx54 (x:Bool):Xc2:=⟨.bool x,[],[]⟩
abbrev Xco:=(List UInt8)→Option Bool
def r54 (g:Xco):Dec:=dV asS fun (y0:List UInt8)=>XdT (ofG (g y0) rx54)
theorem r54_c {g:Xco} {y0:List UInt8} {x:Bool} (hx:g y0=some x):r54 g [.string ⟨⟨y0⟩⟩] []=some (rx54 x):=(Xbb (Xds)).trans (Xa7 hx)
def s54 (g:Xco):XbS:=⟨[.v],r54 g⟩
theorem XwV {g:Xco} {y0:List UInt8} {x:Bool} (hx:g y0=some x):(s54 g).run [.string ⟨⟨y0⟩⟩] []=some (rx54 x):=r54_c hx
abbrev XOw (Xfw:XfI):List (Nat×XbS):=[(87,s87 Xfw)]
theorem XMs (Xfw:XfI) (hS:Xaq Tryz.prog (XaL (XOw Xfw))) (s:List UInt8) (res:Bool) (h:XjB Xfw s=some res) :
 XaM Tryz.prog 54 0 ⟨⟨54,6,[(0,.string ⟨⟨s⟩⟩)],[.code XPR],[],false,none⟩,[],[],0⟩ (fun v H _=>Res 0 (rx54 res) v H):=by
 unfold XjB at h
 have R1:=@XPJ Xfw
 refine Xbp XaP hS true 3000 ?_
 conv=>whnf
 exact W
def XaW:Xco:=XjB Xfw
theorem XvQ:Xb8 Tryz.prog 54 (s54 XaW):=by
 have hL:=XMs Xfw (Xaq.XaY ⟨XRm,trivial⟩)
 exact okA ⟨Tryz.f54,rfl,by decide,rfl⟩
def XiZ (l:List Int) (n1:Int):Option (Sum Int Int):=
 cond (decide (n1>65535))
  (
  let t:=wI .i64 ((n1.tmod 65536)+(wI .i64 (n1.tdiv 65536)))
  some (.inl t))
  (
  some (.inr (n1)))
def Xi3 (l:List Int) (n:Int) (i:Int):Option (Sum (Int×Int) Int):=
 cond (decide (i<(l.length:Int)))
  (
  Xbr (decide ((0:Int)≤i∧i<(l.length:Int))) <|
  (l[i.toNat]?).bind fun (e:Int)=>
  some (.inl (wI .i64 (n+e),wI .i64 (i+1))))
  (
  (iter (fun st=>XiZ l st) FUEL n).bind fun o=>some (.inr (o)))
def Xpc (l:List Int):Option Int:=
 iter (fun st=>Xi3 l st.1 st.2) FUEL (0,0)
def XFw (x:Int):Xc2:=⟨.int .i64 x,[],[none]⟩
abbrev Xfy:=(List Int)→Option Int
def r92 (g:Xfy):Dec:=dSl 0 1 (unL (asI .i64)) fun (y0:List Int)=>XdT (ofG (g y0) XFw)
theorem r92_c {g:Xfy} {y0:List Int} {x:Int} (hx:g y0=some x):r92 g [.slice (some ⟨0,0,none⟩) y0.length 1] [some (vI .i64 y0)]=some (XFw x):=(XvI (XvE _ _)).trans (Xa7 hx)
def s92 (g:Xfy):XbS:=⟨[.sl 1],r92 g⟩
theorem XGv {g:Xfy} {y0:List Int} {x:Int} (hx:g y0=some x):(s92 g).run [.slice (some ⟨0,0,none⟩) y0.length 1] [some (vI .i64 y0)]=some (XFw x):=r92_c hx
abbrev XyJ:List (Nat×XbS):=[]
def Xno (l:List Int) (n1:Int):VM:=
 ⟨⟨92,25,[(3,.int .i64 n1)],[.code Xyu,.inLoop Xyu,.inBlock 2,.code XGo],[],false,none⟩,[],[(0,.row false (vI .i64 l))],1⟩
def Xna (l:List Int) (n:Int) (i:Int):VM:=
 ⟨⟨92,25,[(0,.slice (some ⟨0,0,none⟩) l.length 1),(3,.int .i64 n),(4,.int .i64 i)],[.code Xzx,.inLoop Xzx,.inBlock 0,.code XGD],[],false,none⟩,[],[(0,.row false (vI .i64 l))],1⟩
theorem XD4 (hS:Xaq Tryz.prog (XaL (XyJ))) (l:List Int) (res:Int):∀ fuel (st:Int) (o:Int),iter (fun st=>XiZ l st) fuel st=some o→(o=res) →
 XaM Tryz.prog 92 1 (Xno l st) (fun v H _=>Res 1 (XFw res) v H):=by
 intro fuel st o h hc
 refine XcJ (head:=fun st=>Xno l st) (C:=fun o=>(o=res)) ?_ fuel st o h hc
 clear h hc o st fuel
 intro n1 o h hc
 replace h:XiZ l n1=some o:=h
 show XaM Tryz.prog 92 1 (Xno l n1) (fun v H _=>Res 1 (XFw res) v H)
 unfold XiZ at h
 refine Xbp XaP hS true 3000 ?_
 conv=>whnf
 refine br.h2 h (by rfl) ?_ ?_
 ·clear h;intro hb h;conv=>whnf
  exact W
 clear h;intro hb h;conv=>whnf
 let t:Int:=wI .i64 ((n1.tmod 65536)+(wI .i64 (n1.tdiv 65536)))
 cases h;simp only [Sum.elim_inl,Xno] at hc
 exact Xjj hc [(0,0)] rfl
theorem XCS (hS:Xaq Tryz.prog (XaL (XyJ))) (l:List Int) (res:Int):∀ fuel (st:Int×Int) (o:Int),iter (fun st=>Xi3 l st.1 st.2) fuel st=some o→(o=res) →
 XaM Tryz.prog 92 1 (Xna l st.1 st.2) (fun v H _=>Res 1 (XFw res) v H):=by
 intro fuel st o h hc
 refine XcJ (head:=fun st=>Xna l st.1 st.2) (C:=fun o=>(o=res)) ?_ fuel st o h hc
 clear h hc o st fuel
 intro st o h hc
 obtain ⟨n,i⟩:=st
 replace h:Xi3 l n i=some o:=h
 show XaM Tryz.prog 92 1 (Xna l n i) (fun v H _=>Res 1 (XFw res) v H)
 unfold Xi3 at h
 refine Xbp XaP hS true 3000 ?_
 conv=>whnf
 refine br.h2 h (by rfl) ?_ ?_
 ·clear h;intro hb h;conv=>whnf
  obtain ⟨y,hy,h2⟩:=Xcm.elim h;cases h2
  have hl:=XD4 hS _ res _ _ _ hy hc;simp only [Xno] at hl
  exact Xjj hl [(0,0)] rfl
 clear h;intro hb h;conv=>whnf
 replace h:=Xbr.elim h;obtain ⟨hb,h⟩:=h
 try (refine req.intro hb ?_;conv=>whnf)
 replace h:=Xcm.elim h;obtain ⟨e,hy,h⟩:=h
 refine rd.I hy (by first|rfl|(rw [Nat.zero_add,Nat.mul_one];try rfl;done)|omega) ?_
 conv=>whnf
 cases h;simp only [Sum.elim_inl,Xna] at hc
 exact Xjj hc [(0,0)] rfl
theorem XMf (hS:Xaq Tryz.prog (XaL (XyJ))) (l:List Int) (res:Int) (h:Xpc l=some res) :
 XaM Tryz.prog 92 1 ⟨⟨92,25,[(0,.slice (some ⟨0,0,none⟩) l.length 1)],[.code XFO],[],false,none⟩,[],[(0,.row false (vI .i64 l))],1⟩ (fun v H _=>Res 1 (XFw res) v H):=by
 unfold Xpc at h
 refine Xbp XaP hS true 3000 ?_
 conv=>whnf
 have hl:=XCS hS _ res _ _ _ h rfl;simp only [Xna] at hl
 exact Xjj hl [(0,0)] rfl
def XeU:Xfy:=Xpc
theorem XFW:Xb8 Tryz.prog 92 (s92 XeU):=by
 have hL:=XMf (Xaq.XaY trivial)
 exact okA ⟨Tryz.f92,rfl,by decide,rfl⟩
def XfD (Xao:Xa9) (s1:List UInt8) (i:Int) (out1:List Int):Option (Sum ((List UInt8)×Int×(List Int)) (List Int)):=
 cond (decide (i<(s1.length:Int)))
  (
  (Xao s1 i 2).bind fun m=>
  Xbr (decide ((out1.length+1)*8≤2^47)) <|
  let row:=out1++[m]
  some (.inl (s1,wI .i64 (i+2),row)))
  (
  some (.inr (out1)))
def Xly (Xao:Xa9) (s:List UInt8):Option (List Int):=
 cond (((s.length:Int).tmod 2)==1)
  (
  Xbr (decide (s.length+1<2^63)) <|
  iter (fun st=>XfD Xao st.1 st.2.1 st.2.2) FUEL (s++[0],0,[]))
  (
  iter (fun st=>XfD Xao st.1 st.2.1 st.2.2) FUEL (s,0,[]))
def XNx (x:List Int):Xc2:=⟨.slice (some ⟨0,0,none⟩) x.length 1,[(vI .i64 x)],[]⟩
abbrev XfG:=(List UInt8)→Option (List Int)
def r93 (g:XfG):Dec:=dV asS fun (y0:List UInt8)=>XdT (ofG (g y0) XNx)
theorem r93_c {g:XfG} {y0:List UInt8} {x:List Int} (hx:g y0=some x):r93 g [.string ⟨⟨y0⟩⟩] []=some (XNx x):=(Xbb (Xds)).trans (Xa7 hx)
def s93 (g:XfG):XbS:=⟨[.v],r93 g⟩
theorem XN6 {g:XfG} {y0:List UInt8} {x:List Int} (hx:g y0=some x):(s93 g).run [.string ⟨⟨y0⟩⟩] []=some (XNx x):=r93_c hx
abbrev XGX (Xao:Xa9):List (Nat×XbS):=[(62,s62 Xao)]
def XlT (s1:List UInt8) (i:Int) (out1:List Int):VM:=
 ⟨⟨93,24,[(0,.string ⟨⟨s1⟩⟩),(3,.slice (some ⟨0,0,none⟩) out1.length 1),(4,.int .i64 i)],[.code XAb,.inLoop XAb,.inBlock 0,.code XGY],[],false,none⟩,[],[(0,.row true (vI .i64 out1))],1⟩
theorem Xvt (Xao:Xa9) (hS:Xaq Tryz.prog (XaL (XGX Xao))) (res:List Int):∀ fuel (st:(List UInt8)×Int×(List Int)) (o:List Int),iter (fun st=>XfD Xao st.1 st.2.1 st.2.2) fuel st=some o→(o=res) →
 XaM Tryz.prog 93 0 (XlT st.1 st.2.1 st.2.2) (fun v H _=>Res 0 (XNx res) v H):=by
 intro fuel st o h hc
 refine XcJ (head:=fun st=>XlT st.1 st.2.1 st.2.2) (C:=fun o=>(o=res)) ?_ fuel st o h hc
 clear h hc o st fuel
 intro st o h hc
 obtain ⟨s1,i,out1⟩:=st
 replace h:XfD Xao s1 i out1=some o:=h
 show XaM Tryz.prog 93 0 (XlT s1 i out1) (fun v H _=>Res 0 (XNx res) v H)
 unfold XfD at h
 refine Xbp XaP hS true 3000 ?_
 conv=>whnf
 refine br.h2 h (by rfl) ?_ ?_
 ·clear h;intro hb h;conv=>whnf
  exact W
 clear h;intro hb h;conv=>whnf
 replace h:=Xcm.elim h;obtain ⟨m,hy,h⟩:=h
 refine XeC.a (Xi8 hy) ?_
 conv=>whnf
 replace h:=Xbr.elim h;obtain ⟨hb,h⟩:=h
 refine req.intro (Xng (of_decide_eq_true hb) (by first|rfl|omega|(simp;done)|(simp;omega)|(simp at *;omega)) rfl (by first|rfl|omega|(simp;done)|(simp;omega)|(simp at *;omega)) (by first|rfl|exact XeQ _ _|exact XgC _|exact XgB _|exact Xhp (by first|exact Xcj|exact XbV|exact Xce|exact XbX|exact Xbk|exact XbH|exact Xbj|exact Xbs|exact XbG|exact Xcc|exact Xcw|exact Xcb|exact XbW|exact Xcd|exact Xcy) _|(rw [XeK];exact XeQ _ _)|(simp [XeQ,XgC,XgB,XiL,XiJ,Xjf,Xjh];done)|(simp;exact List.all_eq_true.1 (Xhp (by first|exact Xcj|exact XbV|exact Xce|exact XbX|exact Xbk|exact XbH|exact Xbj|exact Xbs|exact XbG|exact Xcc|exact Xcw|exact Xcb|exact XbW|exact Xcd|exact Xcy) _))) rfl) ?_
 conv=>whnf
 let row:List Int:=out1++[m]
 first|have hlen_row:row.length=_:=List.length_append ..|skip
 refine Xws (xs:=out1) (ys:=[m]) rfl (by first|rfl|omega) (by first|rfl|omega|(simp;done)|(simp;omega)|(simp at *;omega)) (by first|rfl|omega|(simp;done)|(simp;omega)|(simp at *;omega)) ?_
 conv=>whnf
 cases h;simp only [Sum.elim_inl,XlT] at hc
 exact Xjj hc [(0,2)] rfl
theorem XJc (Xao:Xa9) (hS:Xaq Tryz.prog (XaL (XGX Xao))) (s:List UInt8) (res:List Int) (h:Xly Xao s=some res) :
 XaM Tryz.prog 93 0 ⟨⟨93,24,[(0,.string ⟨⟨s⟩⟩)],[.code XGh],[],false,none⟩,[],[],0⟩ (fun v H _=>Res 0 (XNx res) v H):=by
 unfold Xly at h
 refine Xbp XaP hS true 3000 ?_
 conv=>whnf
 refine br.h2 h (by rfl) ?_ ?_
 ·clear h;intro hb h;conv=>whnf
  have hl:=Xvt Xao hS res _ _ _ h rfl;simp only [XlT] at hl
  refine XaM.XP9 3 1 ?_
  exact Xjj hl [(0,0)] rfl
 clear h;intro hb h;conv=>whnf
 replace h:=Xbr.elim h;obtain ⟨hb,h⟩:=h
 try (refine req.intro hb ?_;conv=>whnf)
 have hl:=Xvt Xao hS res _ _ _ h rfl;simp only [XlT] at hl
 refine XaM.XP9 3 1 ?_
 exact Xjj hl [(0,0)] rfl
def Xfv:XfG:=Xly Xao
theorem XSK:Xb8 Tryz.prog 93 (s93 Xfv):=by
 have hL:=XJc Xao (Xaq.XaY ⟨Xl6,trivial⟩)
 exact okA ⟨Tryz.f93,rfl,by decide,rfl⟩
def Xpt (XeU:Xfy) (Xfv:XfG) (s:List UInt8):Option Int:=
 (Xfv s).bind fun w=>
 (XeU w).bind fun a=>
 some (a)
def rx60 (x:Int):Xc2:=⟨.int .i64 x,[],[]⟩
abbrev XdD:=(List UInt8)→Option Int
def r60 (g:XdD):Dec:=dV asS fun (y0:List UInt8)=>XdT (ofG (g y0) rx60)
theorem r60_c {g:XdD} {y0:List UInt8} {x:Int} (hx:g y0=some x):r60 g [.string ⟨⟨y0⟩⟩] []=some (rx60 x):=(Xbb (Xds)).trans (Xa7 hx)
def s60 (g:XdD):XbS:=⟨[.v],r60 g⟩
theorem Xwh {g:XdD} {y0:List UInt8} {x:Int} (hx:g y0=some x):(s60 g).run [.string ⟨⟨y0⟩⟩] []=some (rx60 x):=r60_c hx
abbrev XSS (XeU:Xfy) (Xfv:XfG):List (Nat×XbS):=[(92,s92 XeU),(93,s93 Xfv)]
theorem XJ3 (XeU:Xfy) (Xfv:XfG) (hS:Xaq Tryz.prog (XaL (XSS XeU Xfv))) (s:List UInt8) (res:Int) (h:Xpt XeU Xfv s=some res) :
 XaM Tryz.prog 60 0 ⟨⟨60,6,[(0,.string ⟨⟨s⟩⟩)],[.code XS1],[],false,none⟩,[],[],0⟩ (fun v H _=>Res 0 (rx60 res) v H):=by
 unfold Xpt at h
 have R1:=@XN6 Xfv
 have R2:=@XGv XeU
 refine Xbp XaP hS true 3000 ?_
 conv=>whnf
 exact W
def XcC:XdD:=Xpt XeU Xfv
theorem Xv6:Xb8 Tryz.prog 60 (s60 XcC):=by
 have hL:=XJ3 XeU Xfv (Xaq.XaY ⟨XFW,XSK,trivial⟩)
 exact okA ⟨Tryz.f60,rfl,by decide,rfl⟩
end Go.Vm.Code
namespace Go.Vm.Code
open Go Go.Vm
theorem XsC {s:List UInt8} {i:Nat} (h:i+1<s.length):Xuk s (i:Int) 2=(((s[i].toNat*256+s[i+1].toNat:Nat):Int),true):=by
 unfold Xuk
 rw [if_pos (by omega)]
 have e:(s.drop (i:Int).toNat).take (2:Int).toNat=[s[i],s[i+1]]:=by
  show (s.drop i).take 2=_
  rw [List.drop_eq_getElem_cons (by omega:i<s.length),List.drop_eq_getElem_cons h];rfl
 rw [e];simp [Xgs]
def Xd8:List UInt8→List Int
 | []=>[]
 | [b]=>[((b.toNat*256:Nat):Int)]
 | b::c::l=>((b.toNat*256+c.toNat:Nat):Int)::Xd8 l
theorem XlH {s:List UInt8} {i:Nat} (h:i+1<s.length):Xd8 (s.drop i)=((s[i].toNat*256+s[i+1].toNat:Nat):Int)::Xd8 (s.drop (i+2)):=by
 rw [List.drop_eq_getElem_cons (by omega:i<s.length),List.drop_eq_getElem_cons h];rfl
theorem XqV:∀ s:List UInt8,s.length%2=1→Xd8 (s++[0])=Xd8 s
 | [],h=>by simp at h
 | [b],_=>by
   show [((b.toNat*256+0:Nat):Int)]=[((b.toNat*256:Nat):Int)]
   rw [Nat.add_zero]
 | b::c::l,h=>by
   have:=XqV l (by simp at h;omega)
   simp only [List.cons_append,Xd8,this]
theorem XlO:∀ s:List UInt8,(Xd8 s).sum=(Xez s:Int)
 | []=>rfl
 | [b]=>by simp only [Xd8,Xez,List.sum_cons,List.sum_nil,Int.add_zero]
 | b::c::l=>by
   have:=XlO l
   simp only [Xd8,Xez,List.sum_cons,this];omega
theorem XlC:∀ s:List UInt8,∀ e∈Xd8 s,0≤e∧e≤65535
 | [],e,h=>by simp [Xd8] at h
 | [b],e,h=>by simp [Xd8] at h;have:=b.toNat_lt;omega
 | b::c::l,e,h=>by
   simp only [Xd8,List.mem_cons] at h
   rcases h with rfl|h
   ·have:=b.toNat_lt;have:=c.toNat_lt;omega
   ·exact XlC l e h
theorem XlP:∀ s:List UInt8,(Xd8 s).length=(s.length+1)/2
 | []=>rfl
 | [b]=>by simp [Xd8]
 | b::c::l=>by
   have:=XlP l
   simp only [Xd8,List.length_cons,this];omega
theorem Xmh {s:List UInt8} (h:s.length<2^40) (he:s.length%2=0):iter (fun (st:List UInt8×Int×List Int)=>XfD Xao st.1 st.2.1 st.2.2) FUEL (s,0,[])=some (Xd8 s):=by
 have key:=iter_eq (step:=fun (st:List UInt8×Int×List Int)=>XfD Xao st.1 st.2.1 st.2.2) (fun st=>st.2.2++Xd8 (s.drop st.2.1.toNat)) (fun st=>st.1=s∧∃ i:Nat,st.2.1=i∧i%2=0∧i≤s.length∧st.2.2.length≤i) (fun st=>(s.length - st.2.1).toNat) ?_ FUEL (s,0,[]) ⟨rfl,0,rfl,by omega,by omega,by simp⟩ (by rw [Xfm];simp only;omega)
 ·rw [key];simp
 rintro ⟨s1,p,out⟩ ⟨h1,i,h2,h3,h4,h5⟩
 simp only at h1 h2 h5 ⊢
 subst h1 h2
 unfold XfD
 by_cases hi:i<s1.length
 ·have hi2:i+1<s1.length:=by omega
  refine .inr ⟨(s1,((i+2:Nat):Int),out++[((s1[i].toNat*256+s1[i+1].toNat:Nat):Int)]),?_,⟨rfl,i+2,rfl,by omega,by omega,by simp;omega⟩,by simp only;omega,?_⟩
  ·have b1:=s1[i].toNat_lt
   have b2:=s1[i+1].toNat_lt
   rw [XaZ (by omega),Xev (by omega),XsC hi2,Option.bind_some,XaH (by omega),Xdb (by omega) (by omega),Xdb (by omega) (by omega)];rfl
  ·simp only [Int.toNat_natCast]
   rw [XlH hi2];simp
 ·refine .inl ?_
  rw [XaR (by omega)]
  simp [List.drop_eq_nil_of_le (by omega:s1.length≤i),Xd8]
theorem Xtl {s:List UInt8} (h:s.length<2^39):Xfv s=some (Xd8 s):=by
 unfold Xfv Xly
 have ea:((s.length:Int).tmod 2==1)=decide (s.length%2=1):=by
  rw [Int.tmod_eq_emod_of_nonneg (by omega),Bool.eq_iff_iff,beq_iff_eq,decide_eq_true_eq];omega
 rw [ea]
 by_cases h2:s.length%2=1
 ·rw [XaZ h2,XaH (by omega),Xmh (by simp only [List.length_append,List.length_cons,List.length_nil];omega) (by simp only [List.length_append,List.length_cons,List.length_nil];omega),XqV s h2]
 ·rw [XaR h2,Xmh (by omega) (by omega)]
theorem XuU {l:List Int} {n:Int} (h0:0≤n) (h1:n<2^62):iter (fun st=>XiZ l st) FUEL n=some ((norm n.toNat:Nat):Int):=by
 refine iter_eq (fun n=>((norm n.toNat:Nat):Int)) (fun n=>0≤n∧n<2^62) (fun n=>n.toNat) ?_ FUEL _ ⟨h0,h1⟩ (by rw [Xfm];omega)
 intro s ⟨a,b⟩
 unfold XiZ
 by_cases hs:s>65535
 ·refine .inr ⟨s%65536+s/65536,?_,⟨by omega,by omega⟩,by omega,?_⟩
  ·rw [XaZ hs,Int.tdiv_eq_ediv_of_nonneg a,Int.tmod_eq_emod_of_nonneg a,Xdb (n:=s/65536) (by omega) (by omega),Xdb (by omega) (by omega)]
  ·have:norm (s%65536+s/65536).toNat=norm s.toNat:=
    (norm_eq (norm_le _) (by have:=Xkc (s%65536+s/65536).toNat;omega) (by have:=XnE (s%65536+s/65536).toNat;omega)).symm
   rw [this]
 ·refine .inl ?_
  rw [XaR hs]
  have:=XqD (n:=s.toNat) (by omega)
  simp only [this]
  rw [Int.toNat_of_nonneg a]
theorem Xrt {l:List Int} (hl:l.length<2^40) (hr:∀ e∈l,0≤e∧e≤65535):XeU l=some ((norm l.sum.toNat:Nat):Int):=by
 unfold XeU Xpc
 have key:=iter_eq (step:=fun (st:Int×Int)=>Xi3 l st.1 st.2) (fun st=>((norm (st.1+(l.drop st.2.toNat).sum).toNat:Nat):Int)) (fun st=>0≤st.1∧0≤st.2∧st.2≤l.length∧st.1≤st.2*65535) (fun st=>(l.length - st.2).toNat) ?_ FUEL (0,0) ⟨by simp,by simp,by simp,by simp⟩ (by rw [Xfm];simp only;omega)
 ·rw [key];simp
 rintro ⟨n,p⟩ ⟨g1,g2,g3,g4⟩
 simp only at g1 g2 g3 g4 ⊢
 obtain ⟨i,rfl⟩:=Int.eq_ofNat_of_zero_le g2
 simp only [Int.toNat_natCast]
 unfold Xi3
 by_cases hi:i<l.length
 ·have hx:=hr l[i] (List.getElem_mem hi)
  refine .inr ⟨(n+l[i],((i+1:Nat):Int)),?_,⟨by simp only;omega,by simp only;omega,by simp only;omega,by simp only;omega⟩,by simp only;omega,?_⟩
  ·simp (disch:=omega) only [XaZ,XaH,Int.toNat_natCast,List.getElem?_eq_getElem,Option.bind_some,Xdb];rfl
  ·simp only [Int.toNat_natCast]
   rw [List.drop_eq_getElem_cons hi,List.sum_cons,Int.add_assoc]
 ·refine .inl ?_
  rw [XaR (by omega),XuU g1 (by omega),List.drop_eq_nil_of_le (by omega)]
  simp
theorem XlI {s:List UInt8} (h:s.length<2^39):XcC s=some ((norm (Xez s):Nat):Int):=by
 unfold XcC Xpt
 rw [Xtl h,Option.bind_some,Xrt (by rw [XlP];omega) (XlC s),XlO];rfl
def XSo (s:List UInt8) (p k n:Int):List UInt8:=if 1≤k∧k≤8∧0≤p∧p+k≤s.length then s.take p.toNat++be n.toNat k.toNat++s.drop (p+k).toNat else s
theorem XGj {s:List UInt8} {p k n:Int} (hs:s.length<2^40) (hn:0≤n):Xcr s p k n=some (XSo s p k n):=by
 unfold Xcr Xlv XSo
 rw [Xfh hn,Option.bind_some]
 unfold XiP
 by_cases hk:1≤k∧k≤8
 ·rw [if_pos hk]
  have e:(be n.toNat k.toNat==[])=false:=by
   rw [beq_eq_false_iff_ne];intro h;have:=congrArg List.length h;simp at this;omega
  rw [e,cond_false]
  by_cases h1:p<0
  ·rw [XaZ h1,if_neg (by omega)]
  rw [XaR h1,Xdb (n:=(s.length:Int) - k) (by omega) (by omega)]
  by_cases h2:(s.length:Int) - k<p
  ·simp only []
   rw [XaZ h2,if_neg (by omega)]
  simp only []
  have e1:(p+k).toNat=p.toNat+k.toNat:=by omega
  have e2:((s.drop (p+k).toNat).take (s.length - (p+k).toNat))=s.drop (p+k).toNat:=List.take_of_length_le (by simp)
  rw [XaR h2,XaH (by omega),Xdb (n:=p+k) (by omega) (by omega),e2,XaH (by simp;omega),XaH (by omega),XaH (by simp;omega),if_pos (by omega)]
 ·rw [if_neg hk,if_neg (by omega)];rfl
theorem Xxj {s:List UInt8} {p k n:Int} (hs:s.length<2^40) (hn:0≤n) (hn2:n<2^64):XcK s p k n=some (XSo s p k n):=by
 unfold XcK Xo8 XSo
 rw [Xi6 (by omega),Option.bind_some]
 unfold Xuk
 by_cases hc:1≤k∧k≤8∧0≤p∧p+k≤s.length
 ·rw [if_pos hc,if_pos hc]
  have e2:((s.drop (p+k).toNat).take (s.length - (p+k).toNat))=s.drop (p+k).toNat:=List.take_of_length_le (by simp)
  simp only [Bool.not_true,cond_false]
  rw [XhX hn hn2,Option.bind_some,XaH (by omega),Xdb (n:=p+k) (by omega) (by omega),e2]
  unfold XiP
  rw [if_pos (by omega),XaH (by simp;omega),XaH (by omega),XaH (by simp;omega)]
 ·rw [if_neg hc,if_neg hc];rfl
theorem Xpo {s:List UInt8} (h:s.length<2^39):XaW s=some (((norm (Xez s):Nat):Int)==65535):=by
 unfold XaW XjB
 rw [XTA s (by omega),Option.bind_some]
end Go.Vm.Code
namespace Go.Vm.Code
open Go Go.Vm Go.Proofs
set_option maxRecDepth 100000
set_option maxHeartbeats 4000000
set_option linter.unusedVariables false
def Xka (a:Xae):Option Bool:=
 cond (a.V6)
  (
  some (true))
  (
  cond (a.Hi==0)
   (
   some (decide (a.Lo<4294967296)))
   (
   some (false)))
def XEw (x:Bool):Xc2:=⟨.bool x,[],[]⟩
abbrev XdY:=Xae→Option Bool
def r137 (g:XdY):Dec:=dV Xde fun (y0:Xae)=>XdT (ofG (g y0) XEw)
theorem XOF {g:XdY} {y0:Xae} {x:Bool} (hx:g y0=some x):r137 g [.agg ⟨[.bool y0.V6,.int .u64 y0.Hi,.int .u64 y0.Lo]⟩] []=some (XEw x):=(Xbb (XcV _)).trans (Xa7 hx)
def s137 (g:XdY):XbS:=⟨[.v],r137 g⟩
theorem XAe {g:XdY} {y0:Xae} {x:Bool} (hx:g y0=some x):(s137 g).run [.agg ⟨[.bool y0.V6,.int .u64 y0.Hi,.int .u64 y0.Lo]⟩] []=some (XEw x):=XOF hx
abbrev XKW:List (Nat×XbS):=[]
theorem XB0 (hS:Xaq Tryz.prog (XaL (XKW))) (a:Xae) (res:Bool) (h:Xka a=some res) :
 XaM Tryz.prog 137 0 ⟨⟨137,15,[(0,.agg ⟨[.bool a.V6,.int .u64 a.Hi,.int .u64 a.Lo]⟩)],[.code XHV],[],false,none⟩,[],[],0⟩ (fun v H _=>Res 0 (XEw res) v H):=by
 unfold Xka at h
 refine Xbp XaP hS true 3000 ?_
 conv=>whnf
 exact W
def XcH:XdY:=Xka
theorem XyF:Xb8 Tryz.prog 137 (s137 XcH):=by
 have hL:=XB0 (Xaq.XaY trivial)
 exact okA ⟨Tryz.f137,rfl,by decide,rfl⟩
def XmT (XcH:XdY) (XaF:XbT) (a:Xae):Option (List UInt8):=
 (XcH a).bind fun xr=>
 cond (!xr)
  (
  some ([]))
  (
  cond (a.V6)
   (
   (XaF a.Hi 8).bind fun p=>
   (XaF a.Lo 8).bind fun p1=>
   Xbr (decide (p.length+p1.length<2^63)) <|
   some (p++p1))
   (
   (XaF a.Lo 4).bind fun p2=>
   some (p2)))
def XC6 (x:List UInt8):Xc2:=⟨.string ⟨⟨x⟩⟩,[],[]⟩
abbrev Xgc:=Xae→Option (List UInt8)
def r138 (g:Xgc):Dec:=dV Xde fun (y0:Xae)=>XdT (ofG (g y0) XC6)
theorem XQu {g:Xgc} {y0:Xae} {x:List UInt8} (hx:g y0=some x):r138 g [.agg ⟨[.bool y0.V6,.int .u64 y0.Hi,.int .u64 y0.Lo]⟩] []=some (XC6 x):=(Xbb (XcV _)).trans (Xa7 hx)
def s138 (g:Xgc):XbS:=⟨[.v],r138 g⟩
theorem XLr {g:Xgc} {y0:Xae} {x:List UInt8} (hx:g y0=some x):(s138 g).run [.agg ⟨[.bool y0.V6,.int .u64 y0.Hi,.int .u64 y0.Lo]⟩] []=some (XC6 x):=XQu hx
abbrev XM2 (XcH:XdY) (XaF:XbT):List (Nat×XbS):=[(137,s137 XcH),(71,s71 XaF)]
theorem XCv (XcH:XdY) (XaF:XbT) (hS:Xaq Tryz.prog (XaL (XM2 XcH XaF))) (a:Xae) (res:List UInt8) (h:XmT XcH XaF a=some res) :
 XaM Tryz.prog 138 0 ⟨⟨138,20,[(0,.agg ⟨[.bool a.V6,.int .u64 a.Hi,.int .u64 a.Lo]⟩)],[.code XzM],[],false,none⟩,[],[],0⟩ (fun v H _=>Res 0 (XC6 res) v H):=by
 unfold XmT at h
 have R1:=@XAe XcH
 have R2:=@Xqf XaF
 refine Xbp XaP hS true 3000 ?_
 conv=>whnf
 exact W
def Xf2:Xgc:=XmT XcH XaF
theorem XJF:Xb8 Tryz.prog 138 (s138 Xf2):=by
 have hL:=XCv XcH XaF (Xaq.XaY ⟨XyF,Xq8,trivial⟩)
 exact okA ⟨Tryz.f138,rfl,by decide,rfl⟩
def XlB (a:Xae):Option Bool:=
 cond (a.V6)
  (
  some (true))
  (
  cond (a.Hi==0)
   (
   some (decide (a.Lo<4294967296)))
   (
   some (false)))
def rx42 (x:Bool):Xc2:=⟨.bool x,[],[]⟩
abbrev Xej:=Xae→Option Bool
def r42 (g:Xej):Dec:=dV Xde fun (y0:Xae)=>XdT (ofG (g y0) rx42)
theorem r42_c {g:Xej} {y0:Xae} {x:Bool} (hx:g y0=some x):r42 g [.agg ⟨[.bool y0.V6,.int .u64 y0.Hi,.int .u64 y0.Lo]⟩] []=some (rx42 x):=(Xbb (XcV _)).trans (Xa7 hx)
def s42 (g:Xej):XbS:=⟨[.v],r42 g⟩
theorem XGa {g:Xej} {y0:Xae} {x:Bool} (hx:g y0=some x):(s42 g).run [.agg ⟨[.bool y0.V6,.int .u64 y0.Hi,.int .u64 y0.Lo]⟩] []=some (rx42 x):=r42_c hx
abbrev XOh:List (Nat×XbS):=[]
theorem XIV (hS:Xaq Tryz.prog (XaL (XOh))) (a:Xae) (res:Bool) (h:XlB a=some res) :
 XaM Tryz.prog 42 0 ⟨⟨42,15,[(0,.agg ⟨[.bool a.V6,.int .u64 a.Hi,.int .u64 a.Lo]⟩)],[.code XRe],[],false,none⟩,[],[],0⟩ (fun v H _=>Res 0 (rx42 res) v H):=by
 unfold XlB at h
 refine Xbp XaP hS true 3000 ?_
 conv=>whnf
 exact W
def Xc0:Xej:=XlB
theorem XG1:Xb8 Tryz.prog 42 (s42 Xc0):=by
 have hL:=XIV (Xaq.XaY trivial)
 exact okA ⟨Tryz.f42,rfl,by decide,rfl⟩
def Xpp (XbU:Xc1) (Xc0:Xej) (a:Xae):Option (List UInt8):=
 (Xc0 a).bind fun xr=>
 cond (!xr)
  (
  some ([]))
  (
  cond (a.V6)
   (
   (XbU a.Hi 8).bind fun p=>
   (XbU a.Lo 8).bind fun p1=>
   Xbr (decide (p.length+p1.length<2^63)) <|
   some (p++p1))
   (
   (XbU a.Lo 4).bind fun p2=>
   some (p2)))
def XEu (x:List UInt8):Xc2:=⟨.string ⟨⟨x⟩⟩,[],[]⟩
abbrev Xg5:=Xae→Option (List UInt8)
def r104 (g:Xg5):Dec:=dV Xde fun (y0:Xae)=>XdT (ofG (g y0) XEu)
theorem XRa {g:Xg5} {y0:Xae} {x:List UInt8} (hx:g y0=some x):r104 g [.agg ⟨[.bool y0.V6,.int .u64 y0.Hi,.int .u64 y0.Lo]⟩] []=some (XEu x):=(Xbb (XcV _)).trans (Xa7 hx)
def s104 (g:Xg5):XbS:=⟨[.v],r104 g⟩
theorem XI4 {g:Xg5} {y0:Xae} {x:List UInt8} (hx:g y0=some x):(s104 g).run [.agg ⟨[.bool y0.V6,.int .u64 y0.Hi,.int .u64 y0.Lo]⟩] []=some (XEu x):=XRa hx
abbrev XIr (XbU:Xc1) (Xc0:Xej):List (Nat×XbS):=[(46,s46 XbU),(42,s42 Xc0)]
theorem XDp (XbU:Xc1) (Xc0:Xej) (hS:Xaq Tryz.prog (XaL (XIr XbU Xc0))) (a:Xae) (res:List UInt8) (h:Xpp XbU Xc0 a=some res) :
 XaM Tryz.prog 104 0 ⟨⟨104,18,[(0,.agg ⟨[.bool a.V6,.int .u64 a.Hi,.int .u64 a.Lo]⟩)],[.code XAY],[],false,none⟩,[],[],0⟩ (fun v H _=>Res 0 (XEu res) v H):=by
 unfold Xpp at h
 have R1:=@XGa Xc0
 have R2:=@Xto XbU
 refine Xbp XaP hS true 3000 ?_
 conv=>whnf
 exact W
def Xgz:Xg5:=Xpp XbU Xc0
theorem XMi:Xb8 Tryz.prog 104 (s104 Xgz):=by
 have hL:=XDp XbU Xc0 (Xaq.XaY ⟨Xtz,XG1,trivial⟩)
 exact okA ⟨Tryz.f104,rfl,by decide,rfl⟩
def XdN (XaF:XbT) (l:List Int) (i:Int) (c:List Int):Option (Sum (Int×(List Int)) (List UInt8)):=
 let t:=decide ((wI .i64 (i+1))<(l.length:Int))
 cond (t)
  (
  Xbr (decide ((0:Int)≤i∧i<(l.length:Int))) <|
  (l[i.toNat]?).bind fun (e2:Int)=>
  Xbr (decide ((0:Int)≤(wI .i64 (i+1))∧(wI .i64 (i+1))<(l.length:Int))) <|
  (l[(wI .i64 (i+1)).toNat]?).bind fun (e3:Int)=>
  (XaF (wI .u64 e2) e3).bind fun p1=>
  Xbr (decide ((c.length+p1.length)*1≤2^47)) <|
  let row:=c++(bI p1)
  some (.inl (wI .i64 (i+2),row)))
  (
  Xbr (decide (c.length<2^63)) <|
  some (.inr (iB c)))
def Xky (XaF:XbT) (l:List Int):Option (List UInt8):=
 cond (decide (1<(l.length:Int)))
  (
  Xbr (decide ((0:Int)≤(0:Int)∧(0:Int)<(l.length:Int))) <|
  (l[0]?).bind fun (e:Int)=>
  Xbr (decide ((0:Int)≤(1:Int)∧(1:Int)<(l.length:Int))) <|
  (l[1]?).bind fun (e1:Int)=>
  (XaF (wI .u64 e) e1).bind fun p=>
  Xbr (decide (p.length*1≤2^47)) <|
  iter (fun st=>XdN XaF l st.1 st.2) FUEL (2,bI p))
  (
  some ([]))
def XxQ (x:List UInt8):Xc2:=⟨.string ⟨⟨x⟩⟩,[],[none]⟩
abbrev Xe7:=(List Int)→Option (List UInt8)
def r139 (g:Xe7):Dec:=dSl 0 1 (unL (asI .i64)) fun (y0:List Int)=>XdT (ofG (g y0) XxQ)
theorem XO8 {g:Xe7} {y0:List Int} {x:List UInt8} (hx:g y0=some x):r139 g [.slice (some ⟨0,0,none⟩) y0.length 1] [some (vI .i64 y0)]=some (XxQ x):=(XvI (XvE _ _)).trans (Xa7 hx)
def s139 (g:Xe7):XbS:=⟨[.sl 1],r139 g⟩
theorem XIy {g:Xe7} {y0:List Int} {x:List UInt8} (hx:g y0=some x):(s139 g).run [.slice (some ⟨0,0,none⟩) y0.length 1] [some (vI .i64 y0)]=some (XxQ x):=XO8 hx
abbrev XzU (XaF:XbT):List (Nat×XbS):=[(71,s71 XaF)]
def Xk4 (l:List Int) (i:Int) (c:List Int):VM:=
 ⟨⟨139, 25, [(0, .slice (some ⟨0, 0, none⟩) l.length 1), (3, .pointer (some ⟨1, 0, none⟩)), (4, .int .i64 i)], [.code Xux, .inLoop Xux, .inBlock 0, .code XAc], [], false, none⟩, [], [(0, .row false (vI .i64 l)), (1, .ty 210 [.pointer (some ⟨1, 0, none⟩), .func (.method "") ⟨[.slice (some ⟨12, 0, none⟩) c.length 1]⟩ ⟨[]⟩]), (12, .ty 5 (vI .u8 c))], 13⟩
theorem XyD (XaF:XbT) (hS:Xaq Tryz.prog (XaL (XzU XaF))) (l:List Int) (res:List UInt8):∀ fuel (st:Int×(List Int)) (o:List UInt8),iter (fun st=>XdN XaF l st.1 st.2) fuel st=some o→(o=res) →
 XaM Tryz.prog 139 1 (Xk4 l st.1 st.2) (fun v H _=>Res 1 (XxQ res) v H):=by
 intro fuel st o h hc
 refine XcJ (head:=fun st=>Xk4 l st.1 st.2) (C:=fun o=>(o=res)) ?_ fuel st o h hc
 clear h hc o st fuel
 intro st o h hc
 obtain ⟨i,c⟩:=st
 replace h:XdN XaF l i c=some o:=h
 show XaM Tryz.prog 139 1 (Xk4 l i c) (fun v H _=>Res 1 (XxQ res) v H)
 unfold XdN at h
 refine Xbp XaP hS true 3000 ?_
 conv=>whnf
 let t:Bool:=decide ((wI .i64 (i+1))<(l.length:Int))
 refine br.h2 h (by rfl) ?_ ?_
 ·clear h;intro hb h;conv=>whnf
  replace h:=Xbr.elim h;obtain ⟨hb,h⟩:=h
  refine req.intro (XQY rfl (by first|rfl|(simp;done)) (by first|rfl|omega|(simp;done)|(simp;omega)|(simp at *;omega)) (of_decide_eq_true hb)) ?_
  conv=>whnf
  refine pk_us ?_
  conv=>whnf
  exact W
 clear h;intro hb h;conv=>whnf
 replace h:=Xbr.elim h;obtain ⟨hb,h⟩:=h
 try (refine req.intro hb ?_;conv=>whnf)
 replace h:=Xcm.elim h;obtain ⟨e2,hy,h⟩:=h
 refine rd.I hy (by first|rfl|(rw [Nat.zero_add,Nat.mul_one];try rfl;done)|omega) ?_
 conv=>whnf
 replace h:=Xbr.elim h;obtain ⟨hb,h⟩:=h
 try (refine req.intro hb ?_;conv=>whnf)
 replace h:=Xcm.elim h;obtain ⟨e3,hy,h⟩:=h
 refine rd.I hy (by first|rfl|(rw [Nat.zero_add,Nat.mul_one];try rfl;done)|omega) ?_
 conv=>whnf
 replace h:=Xcm.elim h;obtain ⟨p1,hy,h⟩:=h
 refine XeC.a (Xqf hy) ?_
 conv=>whnf
 replace h:=Xbr.elim h;obtain ⟨hb,h⟩:=h
 first|refine req.intro (XLy (of_decide_eq_true hb) (by first|rfl|omega|(simp;done)|(simp;omega)|(simp at *;omega)) rfl rfl (by first|rfl|omega|(simp;done)|(simp;omega)|(simp at *;omega)) (by first|rfl|exact XeQ _ _|exact XgC _|exact XgB _|exact Xhp (by first|exact Xcj|exact XbV|exact Xce|exact XbX|exact Xbk|exact XbH|exact Xbj|exact Xbs|exact XbG|exact Xcc|exact Xcw|exact Xcb|exact XbW|exact Xcd|exact Xcy) _|(rw [XeK];exact XeQ _ _)|(simp [XeQ,XgC,XgB,XiL,XiJ,Xjf,Xjh];done)|(simp;exact List.all_eq_true.1 (Xhp (by first|exact Xcj|exact XbV|exact Xce|exact XbX|exact Xbk|exact XbH|exact Xbj|exact Xbs|exact XbG|exact Xcc|exact Xcw|exact Xcb|exact XbW|exact Xcd|exact Xcy) _))) rfl) ?_|skip
 conv=>whnf
 let row:List Int:=c++(bI p1)
 first|have hlen_row:row.length=_:=List.length_append ..|skip
 refine XSC (xs:=c) (ys:=bI p1) (XeK _) (by first|rfl|omega|(simp;done)|(simp;omega)|(simp at *;omega)) (by first|rfl|omega|(simp;done)|(simp;omega)|(simp at *;omega)) ?_
 conv=>whnf
 cases h;simp only [Sum.elim_inl,Xk4] at hc
 exact Xjj hc [(0,0),(1,1),(12,23)] rfl
theorem XBU (XaF:XbT) (hS:Xaq Tryz.prog (XaL (XzU XaF))) (l:List Int) (res:List UInt8) (h:Xky XaF l=some res) :
 XaM Tryz.prog 139 1 ⟨⟨139,25,[(0,.slice (some ⟨0,0,none⟩) l.length 1)],[.code XAJ],[],false,none⟩,[],[(0,.row false (vI .i64 l))],1⟩ (fun v H _=>Res 1 (XxQ res) v H):=by
 unfold Xky at h
 refine Xbp XaP hS true 3000 ?_
 conv=>whnf
 refine Xbp XaP hS true 3000 ?_
 conv=>whnf
 refine br.h2 h (by rfl) ?_ ?_
 ·clear h;intro hb h;conv=>whnf
  exact W
 clear h;intro hb h;conv=>whnf
 replace h:=Xbr.elim h;obtain ⟨hb,h⟩:=h
 try (refine req.intro hb ?_;conv=>whnf)
 replace h:=Xcm.elim h;obtain ⟨e,hy,h⟩:=h
 refine rd.I hy (by first|rfl|(rw [Nat.zero_add,Nat.mul_one];try rfl;done)|omega) ?_
 conv=>whnf
 replace h:=Xbr.elim h;obtain ⟨hb,h⟩:=h
 try (refine req.intro hb ?_;conv=>whnf)
 replace h:=Xcm.elim h;obtain ⟨e1,hy,h⟩:=h
 refine rd.I hy (by first|rfl|(rw [Nat.zero_add,Nat.mul_one];try rfl;done)|omega) ?_
 conv=>whnf
 replace h:=Xcm.elim h;obtain ⟨p,hy,h⟩:=h
 refine XeC.a (Xqf hy) ?_
 conv=>whnf
 replace h:=Xbr.elim h;obtain ⟨hb,h⟩:=h
 refine req.intro (XDx (of_decide_eq_true hb) (by first|rfl|omega|(simp;done)|(simp;omega)|(simp at *;omega)) rfl rfl) ?_
 conv=>whnf
 refine XMr (ys:=bI p) (XeK _) (by first|rfl|omega|(simp;done)|(simp;omega)|(simp at *;omega)) ?_
 conv=>whnf
 have hl:=XyD XaF hS _ res _ _ _ h rfl;simp only [Xk4] at hl
 exact Xjj hl [(0,0),(1,1),(12,12)] rfl
def Xer:Xe7:=Xky XaF
theorem XMj:Xb8 Tryz.prog 139 (s139 Xer):=by
 have hL:=XBU XaF (Xaq.XaY ⟨Xq8,trivial⟩)
 exact okA ⟨Tryz.f139,rfl,by decide,rfl⟩
def Xil (Xf2:Xgc) (XcH:XdY) (Xer:Xe7) (src:Xae) (dst:Xae) (proto:Int) (n:Int):Option (List UInt8):=
 (XcH src).bind fun xr=>
 cond (!xr)
  (
  some ([]))
  (
  (XcH dst).bind fun xr1=>
  cond (!xr1)
   (
   some ([]))
   (
   cond (!(src.V6==dst.V6))
    (
    some ([]))
    (
    (Xf2 src).bind fun p=>
    (Xf2 dst).bind fun p1=>
    Xbr (decide (p.length+p1.length<2^63)) <|
    cond (src.V6)
     (
     (Xer [n,4,0,3,proto,1]).bind fun xr2=>
     Xbr (decide ((p++p1).length+xr2.length<2^63)) <|
     some ((p++p1)++xr2))
     (
     (Xer [0,1,proto,1,n,2]).bind fun xr3=>
     Xbr (decide ((p++p1).length+xr3.length<2^63)) <|
     some ((p++p1)++xr3)))))
def XFg (x:List UInt8):Xc2:=⟨.string ⟨⟨x⟩⟩,[],[]⟩
abbrev XcQ:=Xae→Xae→Int→Int→Option (List UInt8)
def r131 (g:XcQ):Dec:=dV Xde fun (y0:Xae)=>dV Xde fun (y1:Xae)=>dV (asI .i64) fun (y2:Int)=>dV (asI .i64) fun (y3:Int)=>XdT (ofG (g y0 y1 y2 y3) XFg)
theorem XOx {g:XcQ} {y0:Xae} {y1:Xae} {y2:Int} {y3:Int} {x:List UInt8} (hx:g y0 y1 y2 y3=some x):r131 g [.agg ⟨[.bool y0.V6,.int .u64 y0.Hi,.int .u64 y0.Lo]⟩,.agg ⟨[.bool y1.V6,.int .u64 y1.Hi,.int .u64 y1.Lo]⟩,.int .i64 y2,.int .i64 y3] []=some (XFg x):=(Xbb (XcV _)).trans ((Xbb (XcV _)).trans ((Xbb (Xdr _)).trans ((Xbb (Xdr _)).trans (Xa7 hx))))
def s131 (g:XcQ):XbS:=⟨[.v,.v,.v,.v],r131 g⟩
theorem XyM {g:XcQ} {y0:Xae} {y1:Xae} {y2:Int} {y3:Int} {x:List UInt8} (hx:g y0 y1 y2 y3=some x):(s131 g).run [.agg ⟨[.bool y0.V6,.int .u64 y0.Hi,.int .u64 y0.Lo]⟩,.agg ⟨[.bool y1.V6,.int .u64 y1.Hi,.int .u64 y1.Lo]⟩,.int .i64 y2,.int .i64 y3] []=some (XFg x):=XOx hx
abbrev XLh (Xf2:Xgc) (XcH:XdY) (Xer:Xe7):List (Nat×XbS):=[(138,s138 Xf2),(137,s137 XcH),(139,s139 Xer)]
theorem XD6 (Xf2:Xgc) (XcH:XdY) (Xer:Xe7) (hS:Xaq Tryz.prog (XaL (XLh Xf2 XcH Xer))) (src:Xae) (dst:Xae) (proto:Int) (n:Int) (res:List UInt8) (h:Xil Xf2 XcH Xer src dst proto n=some res) :
 XaM Tryz.prog 131 0 ⟨⟨131,44,[(0,.agg ⟨[.bool src.V6,.int .u64 src.Hi,.int .u64 src.Lo]⟩),(1,.agg ⟨[.bool dst.V6,.int .u64 dst.Hi,.int .u64 dst.Lo]⟩),(2,.int .i64 proto),(3,.int .i64 n)],[.code Xyq],[],false,none⟩,[],[],0⟩ (fun v H _=>Res 0 (XFg res) v H):=by
 unfold Xil at h
 have R1:=@XAe XcH
 have R2:=@XLr Xf2
 have R3:=@XIy Xer
 refine Xbp XaP hS true 3000 ?_
 conv=>whnf
 exact W
def XbY:XcQ:=Xil Xf2 XcH Xer
theorem Xx1:Xb8 Tryz.prog 131 (s131 XbY):=by
 have hL:=XD6 Xf2 XcH Xer (Xaq.XaY ⟨XJF,XyF,XMj,trivial⟩)
 exact okA ⟨Tryz.f131,rfl,by decide,rfl⟩
def Xpi (XbU:Xc1) (n:Int) (k:Int):Option (List UInt8):=
 (XbU (wI .u64 n) k).bind fun p=>
 some (p)
def XC8 (x:List UInt8):Xc2:=⟨.string ⟨⟨x⟩⟩,[],[]⟩
abbrev Xhq:=Int→Int→Option (List UInt8)
def r105 (g:Xhq):Dec:=dV (asI .i64) fun (y0:Int)=>dV (asI .i64) fun (y1:Int)=>XdT (ofG (g y0 y1) XC8)
theorem XOr {g:Xhq} {y0:Int} {y1:Int} {x:List UInt8} (hx:g y0 y1=some x):r105 g [.int .i64 y0,.int .i64 y1] []=some (XC8 x):=(Xbb (Xdr _)).trans ((Xbb (Xdr _)).trans (Xa7 hx))
def s105 (g:Xhq):XbS:=⟨[.v,.v],r105 g⟩
theorem XMF {g:Xhq} {y0:Int} {y1:Int} {x:List UInt8} (hx:g y0 y1=some x):(s105 g).run [.int .i64 y0,.int .i64 y1] []=some (XC8 x):=XOr hx
abbrev XL3 (XbU:Xc1):List (Nat×XbS):=[(46,s46 XbU)]
theorem XEW (XbU:Xc1) (hS:Xaq Tryz.prog (XaL (XL3 XbU))) (n:Int) (k:Int) (res:List UInt8) (h:Xpi XbU n k=some res) :
 XaM Tryz.prog 105 0 ⟨⟨105,9,[(0,.int .i64 n),(1,.int .i64 k)],[.code XHr],[],false,none⟩,[],[],0⟩ (fun v H _=>Res 0 (XC8 res) v H):=by
 unfold Xpi at h
 have R1:=@Xto XbU
 refine Xbp XaP hS true 3000 ?_
 conv=>whnf
 exact W
def XfY:Xhq:=Xpi XbU
theorem XJY:Xb8 Tryz.prog 105 (s105 XfY):=by
 have hL:=XEW XbU (Xaq.XaY ⟨Xtz,trivial⟩)
 exact okA ⟨Tryz.f105,rfl,by decide,rfl⟩
def Xkk (Xgz:Xg5) (Xc0:Xej) (XfY:Xhq) (src:Xae) (dst:Xae) (proto:Int) (n:Int):Option (List UInt8):=
 (Xc0 src).bind fun xr=>
 cond (!xr)
  (
  some ([]))
  (
  (Xc0 dst).bind fun xr1=>
  cond (!xr1)
   (
   some ([]))
   (
   cond (!(src.V6==dst.V6))
    (
    some ([]))
    (
    cond (src.V6)
     (
     (Xgz src).bind fun p=>
     (Xgz dst).bind fun p1=>
     Xbr (decide (p.length+p1.length<2^63)) <|
     (XfY n 4).bind fun n1=>
     Xbr (decide ((p++p1).length+n1.length<2^63)) <|
     (XfY 0 3).bind fun n2=>
     Xbr (decide (((p++p1)++n1).length+n2.length<2^63)) <|
     (XfY proto 1).bind fun n3=>
     Xbr (decide ((((p++p1)++n1)++n2).length+n3.length<2^63)) <|
     some ((((p++p1)++n1)++n2)++n3))
     (
     (Xgz src).bind fun p2=>
     (Xgz dst).bind fun p3=>
     Xbr (decide (p2.length+p3.length<2^63)) <|
     (XfY 0 1).bind fun n4=>
     Xbr (decide ((p2++p3).length+n4.length<2^63)) <|
     (XfY proto 1).bind fun n5=>
     Xbr (decide (((p2++p3)++n4).length+n5.length<2^63)) <|
     (XfY n 2).bind fun n6=>
     Xbr (decide ((((p2++p3)++n4)++n5).length+n6.length<2^63)) <|
     some ((((p2++p3)++n4)++n5)++n6)))))
def rx77 (x:List UInt8):Xc2:=⟨.string ⟨⟨x⟩⟩,[],[]⟩
abbrev XdR:=Xae→Xae→Int→Int→Option (List UInt8)
def r77 (g:XdR):Dec:=dV Xde fun (y0:Xae)=>dV Xde fun (y1:Xae)=>dV (asI .i64) fun (y2:Int)=>dV (asI .i64) fun (y3:Int)=>XdT (ofG (g y0 y1 y2 y3) rx77)
theorem r77_c {g:XdR} {y0:Xae} {y1:Xae} {y2:Int} {y3:Int} {x:List UInt8} (hx:g y0 y1 y2 y3=some x):r77 g [.agg ⟨[.bool y0.V6,.int .u64 y0.Hi,.int .u64 y0.Lo]⟩,.agg ⟨[.bool y1.V6,.int .u64 y1.Hi,.int .u64 y1.Lo]⟩,.int .i64 y2,.int .i64 y3] []=some (rx77 x):=(Xbb (XcV _)).trans ((Xbb (XcV _)).trans ((Xbb (Xdr _)).trans ((Xbb (Xdr _)).trans (Xa7 hx))))
def s77 (g:XdR):XbS:=⟨[.v,.v,.v,.v],r77 g⟩
theorem XGH {g:XdR} {y0:Xae} {y1:Xae} {y2:Int} {y3:Int} {x:List UInt8} (hx:g y0 y1 y2 y3=some x):(s77 g).run [.agg ⟨[.bool y0.V6,.int .u64 y0.Hi,.int .u64 y0.Lo]⟩,.agg ⟨[.bool y1.V6,.int .u64 y1.Hi,.int .u64 y1.Lo]⟩,.int .i64 y2,.int .i64 y3] []=some (rx77 x):=r77_c hx
abbrev XPn (Xgz:Xg5) (Xc0:Xej) (XfY:Xhq):List (Nat×XbS):=[(104,s104 Xgz),(42,s42 Xc0),(105,s105 XfY)]
theorem XLa (Xgz:Xg5) (Xc0:Xej) (XfY:Xhq) (hS:Xaq Tryz.prog (XaL (XPn Xgz Xc0 XfY))) (src:Xae) (dst:Xae) (proto:Int) (n:Int) (res:List UInt8) (h:Xkk Xgz Xc0 XfY src dst proto n=some res) :
 XaM Tryz.prog 77 0 ⟨⟨77,52,[(0,.agg ⟨[.bool src.V6,.int .u64 src.Hi,.int .u64 src.Lo]⟩),(1,.agg ⟨[.bool dst.V6,.int .u64 dst.Hi,.int .u64 dst.Lo]⟩),(2,.int .i64 proto),(3,.int .i64 n)],[.code XHx],[],false,none⟩,[],[],0⟩ (fun v H _=>Res 0 (rx77 res) v H):=by
 unfold Xkk at h
 have R1:=@XGa Xc0
 have R2:=@XI4 Xgz
 have R3:=@XMF XfY
 refine Xbp XaP hS true 3000 ?_
 conv=>whnf
 exact W
def XcM:XdR:=Xkk Xgz Xc0 XfY
theorem XHH:Xb8 Tryz.prog 77 (s77 XcM):=by
 have hL:=XLa Xgz Xc0 XfY (Xaq.XaY ⟨XMi,XG1,XJY,trivial⟩)
 exact okA ⟨Tryz.f77,rfl,by decide,rfl⟩
end Go.Vm.Code
namespace Go.Vm.Code
open Go Go.Vm
def A4 (a:Xae):Prop:=0≤a.Hi∧a.Hi<2^64∧0≤a.Lo∧a.Lo<2^64
def aok (a:Xae):Bool:=a.V6||(a.Hi==0&&decide (a.Lo<4294967296))
theorem Xqk (a:Xae):XcH a=some (aok a):=by
 unfold XcH Xka aok
 cases a.V6
 ·cases (a.Hi==0)<;>rfl
 ·rfl
theorem Xow (a:Xae):Xc0 a=some (aok a):=by
 unfold Xc0 XlB aok
 cases a.V6
 ·cases (a.Hi==0)<;>rfl
 ·rfl
def XkK (a:Xae):List UInt8:=cond a.V6 (be a.Hi.toNat 8++be a.Lo.toNat 8) (be a.Lo.toNat 4)
theorem Xhg (a:Xae):(XkK a).length=cond a.V6 16 4:=by unfold XkK;cases a.V6<;>simp
theorem XhG {n:Int} {k:Nat} (h:1≤k∧k≤8):XiP n (k:Int)=be n.toNat k:=by unfold XiP;rw [if_pos (by omega)];rfl
theorem XBo {a:Xae} (h:A4 a) (hr:aok a=true):Xf2 a=some (XkK a):=by
 obtain ⟨h1,h2,h3,h4⟩:=h
 unfold Xf2 XmT XkK
 rw [Xqk,Option.bind_some,hr]
 simp only [Bool.not_true,cond_false]
 cases a.V6
 ·simp only [cond_false]
  rw [Xfh h3,Option.bind_some,show (4:Int)=((4:Nat):Int) from rfl,XhG (by omega)]
 ·simp only [cond_true]
  rw [Xfh h1,Option.bind_some,Xfh h3,Option.bind_some,show (8:Int)=((8:Nat):Int) from rfl,XhG (by omega),XhG (by omega),XaH (by simp)]
theorem Xvx {a:Xae} (h:A4 a) (hr:aok a=true):Xgz a=some (XkK a):=by
 obtain ⟨h1,h2,h3,h4⟩:=h
 unfold Xgz Xpp XkK
 rw [Xow,Option.bind_some,hr]
 simp only [Bool.not_true,cond_false]
 cases a.V6
 ·simp only [cond_false]
  rw [XhX h3 h4,Option.bind_some,show (4:Int)=((4:Nat):Int) from rfl,XhG (by omega)]
 ·simp only [cond_true]
  rw [XhX h1 h2,Option.bind_some,XhX h3 h4,Option.bind_some,show (8:Int)=((8:Nat):Int) from rfl,XhG (by omega),XhG (by omega),XaH (by simp)]
theorem XpJ {n k:Int} (h0:0≤n) (h1:n<2^63):XfY n k=some (XiP n k):=by
 unfold XfY Xpi
 rw [XsP h0 (by omega),XhX h0 (by omega)];rfl
theorem Xe1 (n k:Int):(XiP n k).length≤8:=by unfold XiP;split<;>simp<;>omega
theorem iB_bI (s:List UInt8):iB (bI s)=s:=by simp [iB,bI,List.map_map,Function.comp_def]
theorem XHm (a b:List UInt8):bI (a++b)=bI a++bI b:=by simp [bI]
theorem XvP {σ ρ:Type} {f:σ→Option (Sum σ ρ)} {n:Nat} {s s':σ} (h:f s=some (.inl s')):iter f (n+1) s=iter f n s':=by rw [iter,h]
theorem XC4 {σ ρ:Type} {f:σ→Option (Sum σ ρ)} {n:Nat} {s:σ} {r:ρ} (h:f s=some (.inr r)):iter f (n+1) s=some r:=by rw [iter,h]
theorem XAk:∃ n,FUEL=n+8:=⟨18446744073709551608,rfl⟩
theorem XHK {a b c d e f:Int} (ha:0≤a) (hc:0≤c) (he:0≤e) (ha1:a<2^63) (hc1:c<2^63) (he1:e<2^63):Xer [a,b,c,d,e,f]=some (XiP a b++XiP c d++XiP e f):=by
 have l1:=Xe1 a b
 have l2:=Xe1 c d
 have l3:=Xe1 e f
 unfold Xer Xky
 rw [XaZ (by simp),XaH (by simp)]
 show ((some a).bind _)=_
 rw [Option.bind_some,XaH (by simp)]
 show ((some b).bind _)=_
 rw [Option.bind_some,XsP ha (by omega),Xfh ha,Option.bind_some,XaH (by omega)]
 obtain ⟨n,hn⟩:=XAk
 rw [hn]
 have s1:XdN XaF [a,b,c,d,e,f] 2 (bI (XiP a b))=some (.inl (4,bI (XiP a b++XiP c d))):=by
  unfold XdN
  simp only []
  rw [XaZ (by rw [show wI .i64 (2+1)=3 from rfl];simp),XaH (by simp)]
  show ((some c).bind _)=_
  rw [Option.bind_some,XaH (by rw [show wI .i64 (2+1)=3 from rfl];simp)]
  show ((some d).bind _)=_
  rw [Option.bind_some,XsP hc (by omega),Xfh hc,Option.bind_some,XaH (by simp;omega),XHm];rfl
 have s2:XdN XaF [a,b,c,d,e,f] 4 (bI (XiP a b++XiP c d))=some (.inl (6,bI (XiP a b++XiP c d++XiP e f))):=by
  unfold XdN
  simp only []
  rw [XaZ (by rw [show wI .i64 (4+1)=5 from rfl];simp),XaH (by simp)]
  show ((some e).bind _)=_
  rw [Option.bind_some,XaH (by rw [show wI .i64 (4+1)=5 from rfl];simp)]
  show ((some f).bind _)=_
  rw [Option.bind_some,XsP he (by omega),Xfh he,Option.bind_some,XaH (by simp;omega),XHm (XiP a b++XiP c d)];rfl
 have s3:XdN XaF [a,b,c,d,e,f] 6 (bI (XiP a b++XiP c d++XiP e f))=some (.inr (XiP a b++XiP c d++XiP e f)):=by
  unfold XdN
  simp only []
  rw [XaR (by rw [show wI .i64 (6+1)=7 from rfl];simp),XaH (by simp;omega),iB_bI]
 rw [XvP (f:=fun (st:Int×List Int)=>XdN XaF [a,b,c,d,e,f] st.1 st.2) (n:=n+7) s1,XvP (n:=n+6) s2,XC4 (n:=n+5) s3]
def Xog (src dst:Xae) (p n:Int):List UInt8:=
 if aok src=true∧aok dst=true∧src.V6=dst.V6 then XkK src++XkK dst++cond src.V6 (XiP n 4++XiP 0 3++XiP p 1) (XiP 0 1++XiP p 1++XiP n 2) else []
theorem Xo6 (src dst:Xae) (p n:Int):(Xog src dst p n).length≤56:=by
 have l1:=Xe1 n 4
 have l2:=Xe1 0 3
 have l3:=Xe1 p 1
 have l4:=Xe1 0 1
 have l5:=Xe1 n 2
 unfold Xog
 split
 ·rw [List.length_append,List.length_append,Xhg,Xhg]
  cases src.V6<;>cases dst.V6<;>simp<;>omega
 ·simp
theorem XsW {src dst:Xae} {p n:Int} (h1:A4 src) (h2:A4 dst) (hp:0≤p∧p<2^63) (hn:0≤n∧n<2^63):XbY src dst p n=some (Xog src dst p n):=by
 unfold XbY Xil Xog
 rw [Xqk,Xqk,Option.bind_some]
 cases e1:aok src
 ·simp
 simp only [Bool.not_true,cond_false,Option.bind_some]
 cases e2:aok dst
 ·simp
 simp only [Bool.not_true,cond_false]
 by_cases e3:src.V6=dst.V6
 ·rw [if_pos (by simpa using e3),show (src.V6==dst.V6)=true by simpa using e3]
  simp only [Bool.not_true,cond_false]
  have l1:=Xhg src
  have l2:=Xhg dst
  rw [XBo h1 e1,Option.bind_some,XBo h2 e2,Option.bind_some,XaH (by rw [l1,l2];cases src.V6<;>cases dst.V6<;>decide)]
  rw [XHK hn.1 (by omega) hp.1 hn.2 (by omega) hp.2,XHK (by omega) hp.1 hn.1 (by omega) hp.2 hn.2]
  have m1:=Xe1 n 4
  have m2:=Xe1 0 3
  have m3:=Xe1 p 1
  have m4:=Xe1 0 1
  have m5:=Xe1 n 2
  have b1:(XkK src).length≤16:=by rw [l1];cases src.V6<;>decide
  have b2:(XkK dst).length≤16:=by rw [l2];cases dst.V6<;>decide
  cases src.V6
  ·simp only [cond_false,Option.bind_some]
   rw [XaH (by simp only [List.length_append];omega)]
  ·simp only [cond_true,Option.bind_some]
   rw [XaH (by simp only [List.length_append];omega)]
 ·rw [if_neg (fun h=>e3 h.2.2),show (src.V6==dst.V6)=false by simpa using e3];rfl
theorem Xry {src dst:Xae} {p n:Int} (h1:A4 src) (h2:A4 dst) (hp:0≤p∧p<2^63) (hn:0≤n∧n<2^63):XcM src dst p n=some (Xog src dst p n):=by
 unfold XcM Xkk Xog
 rw [Xow,Xow,Option.bind_some]
 cases e1:aok src
 ·simp
 simp only [Bool.not_true,cond_false,Option.bind_some]
 cases e2:aok dst
 ·simp
 simp only [Bool.not_true,cond_false]
 by_cases e3:src.V6=dst.V6
 ·rw [if_pos (by simpa using e3),show (src.V6==dst.V6)=true by simpa using e3]
  simp only [Bool.not_true,cond_false]
  have l1:=Xhg src
  have l2:=Xhg dst
  have m1:=Xe1 n 4
  have m2:=Xe1 0 3
  have m3:=Xe1 p 1
  have m4:=Xe1 0 1
  have m5:=Xe1 n 2
  have b1:(XkK src).length≤16:=by rw [l1];cases src.V6<;>decide
  have b2:(XkK dst).length≤16:=by rw [l2];cases dst.V6<;>decide
  rw [Xvx h1 e1,Xvx h2 e2,XpJ hn.1 hn.2,XpJ (n:=0) (k:=3) (by omega) (by omega),XpJ hp.1 hp.2,XpJ (n:=0) (k:=1) (by omega) (by omega),XpJ hn.1 hn.2]
  cases src.V6
  ·simp only [cond_false,Option.bind_some]
   rw [XaH (by omega),XaH (by simp only [List.length_append];omega),XaH (by simp only [List.length_append];omega),XaH (by simp only [List.length_append];omega)]
   simp only [List.append_assoc]
  ·simp only [cond_true,Option.bind_some]
   rw [XaH (by omega),XaH (by simp only [List.length_append];omega),XaH (by simp only [List.length_append];omega),XaH (by simp only [List.length_append];omega)]
   simp only [List.append_assoc]
 ·rw [if_neg (fun h=>e3 h.2.2),show (src.V6==dst.V6)=false by simpa using e3];rfl
end Go.Vm.Code
namespace Go.Vm.Code
open Go Go.Vm Go.Proofs
set_option maxRecDepth 100000
set_option maxHeartbeats 4000000
set_option linter.unusedVariables false
def Xgv (ra0:Xam):Option (Bool×Xam):=
 cond (!ra0.made)
  (
  some ((true,ra0)))
  (
  some ((ra0.bad,ra0)))
def rx95 (x:Bool×Xam):Xc2:=⟨.bool x.1,[],[some [.string ⟨⟨x.2.s⟩⟩,.bool x.2.made,.bool x.2.bad]]⟩
abbrev XaT:=Xam→Option (Bool×Xam)
def r95 (g:XaT):Dec:=dPt 0 XdL fun (y0:Xam)=>XdT (ofG (g y0) rx95)
theorem r95_c {g:XaT} {y0:Xam} {x:Bool×Xam} (hx:g y0=some x):r95 g [.pointer (some ⟨0,0,none⟩)] [some [.string ⟨⟨y0.s⟩⟩,.bool y0.made,.bool y0.bad]]=some (rx95 x):=(XnD (XfS _)).trans (Xa7 hx)
def s95 (g:XaT):XbS:=⟨[.pt 3],r95 g⟩
theorem Xqd {g:XaT} {y0:Xam} {x:Bool×Xam} (hx:g y0=some x):(s95 g).run [.pointer (some ⟨0,0,none⟩)] [some [.string ⟨⟨y0.s⟩⟩,.bool y0.made,.bool y0.bad]]=some (rx95 x):=r95_c hx
abbrev XQ9:List (Nat×XbS):=[]
theorem XMK (hS:Xaq Tryz.prog (XaL (XQ9))) (ra0:Xam) (res:Bool×Xam) (h:Xgv ra0=some res) :
 XaM Tryz.prog 95 1 ⟨⟨95,18,[(0,.pointer (some ⟨0,0,none⟩))],[.code XS9],[],false,none⟩,[],[(0,.cells [.string ⟨⟨ra0.s⟩⟩,.bool ra0.made,.bool ra0.bad])],1⟩ (fun v H _=>Res 1 (rx95 res) v H):=by
 unfold Xgv at h
 refine Xbp XaP hS true 3000 ?_
 conv=>whnf
 exact W
def Xap:XaT:=Xgv
theorem Xrw:Xb8 Tryz.prog 95 (s95 Xap):=by
 have hL:=XMK (Xaq.XaY trivial)
 exact okA ⟨Tryz.f95,rfl,by decide,rfl⟩
def Xf4 (Xap:XaT) (ra0:Xam) (n:Int):Option ((List UInt8)×Xam):=
 (Xap ra0).bind fun b=>
 cond (b.1)
  (
  some (([],b.2)))
  (
  cond (decide (n<0))
   (
   some (([],Xam.mk b.2.s b.2.made true)))
   (
   cond (decide (n>(b.2.s.length:Int)))
    (
    some (([],Xam.mk b.2.s b.2.made true)))
    (
    Xbr (decide ((0:Int)≤n∧n≤(b.2.s.length:Int))) <|
    Xbr (decide ((0:Int)≤n∧n≤(b.2.s.length:Int))) <|
    let t:=(b.2.s.drop n.toNat).take (b.2.s.length - n.toNat)
    some ((b.2.s.take n.toNat,Xam.mk t b.2.made b.2.bad)))))
def rx86 (x:(List UInt8)×Xam):Xc2:=⟨.string ⟨⟨x.1⟩⟩,[],[some [.string ⟨⟨x.2.s⟩⟩,.bool x.2.made,.bool x.2.bad]]⟩
abbrev XaB:=Xam→Int→Option ((List UInt8)×Xam)
def r86 (g:XaB):Dec:=dPt 0 XdL fun (y0:Xam)=>dV (asI .i64) fun (y1:Int)=>XdT (ofG (g y0 y1) rx86)
theorem r86_c {g:XaB} {y0:Xam} {y1:Int} {x:(List UInt8)×Xam} (hx:g y0 y1=some x):r86 g [.pointer (some ⟨0,0,none⟩),.int .i64 y1] [some [.string ⟨⟨y0.s⟩⟩,.bool y0.made,.bool y0.bad]]=some (rx86 x):=(XnD (XfS _)).trans ((Xbb (Xdr _)).trans (Xa7 hx))
def s86 (g:XaB):XbS:=⟨[.pt 3,.v],r86 g⟩
theorem XoN {g:XaB} {y0:Xam} {y1:Int} {x:(List UInt8)×Xam} (hx:g y0 y1=some x):(s86 g).run [.pointer (some ⟨0,0,none⟩),.int .i64 y1] [some [.string ⟨⟨y0.s⟩⟩,.bool y0.made,.bool y0.bad]]=some (rx86 x):=r86_c hx
abbrev XPv (Xap:XaT):List (Nat×XbS):=[(95,s95 Xap)]
theorem XMT (Xap:XaT) (hS:Xaq Tryz.prog (XaL (XPv Xap))) (ra0:Xam) (n:Int) (res:(List UInt8)×Xam) (h:Xf4 Xap ra0 n=some res) :
 XaM Tryz.prog 86 1 ⟨⟨86,38,[(0,.pointer (some ⟨0,0,none⟩)),(1,.int .i64 n)],[.code XGy],[],false,none⟩,[],[(0,.cells [.string ⟨⟨ra0.s⟩⟩,.bool ra0.made,.bool ra0.bad])],1⟩ (fun v H _=>Res 1 (rx86 res) v H):=by
 unfold Xf4 at h
 have R1:=@Xqd Xap
 refine Xbp XaP hS true 3000 ?_
 conv=>whnf
 exact W
def Xaf:XaB:=Xf4 Xap
theorem XoS:Xb8 Tryz.prog 86 (s86 Xaf):=by
 have hL:=XMT Xap (Xaq.XaY ⟨Xrw,trivial⟩)
 exact okA ⟨Tryz.f86,rfl,by decide,rfl⟩
def Xgk (Xax:XbI) (Xaf:XaB) (ra0:Xam) (k:Int):Option (Int×Xam):=
 cond (decide (k<1))
  (
  (Xaf ra0 (-1)).bind fun t=>
  (Xax t.1 0 (-1)).bind fun xg=>
  some ((wI .i64 xg.1,t.2)))
  (
  cond (decide (k>7))
   (
   (Xaf ra0 (-1)).bind fun t1=>
   (Xax t1.1 0 (-1)).bind fun xg1=>
   some ((wI .i64 xg1.1,t1.2)))
   (
   (Xaf ra0 k).bind fun t2=>
   (Xax t2.1 0 k).bind fun xg2=>
   some ((wI .i64 xg2.1,t2.2))))
def rx52 (x:Int×Xam):Xc2:=⟨.int .i64 x.1,[],[some [.string ⟨⟨x.2.s⟩⟩,.bool x.2.made,.bool x.2.bad]]⟩
abbrev XaN:=Xam→Int→Option (Int×Xam)
def r52 (g:XaN):Dec:=dPt 0 XdL fun (y0:Xam)=>dV (asI .i64) fun (y1:Int)=>XdT (ofG (g y0 y1) rx52)
theorem r52_c {g:XaN} {y0:Xam} {y1:Int} {x:Int×Xam} (hx:g y0 y1=some x):r52 g [.pointer (some ⟨0,0,none⟩),.int .i64 y1] [some [.string ⟨⟨y0.s⟩⟩,.bool y0.made,.bool y0.bad]]=some (rx52 x):=(XnD (XfS _)).trans ((Xbb (Xdr _)).trans (Xa7 hx))
def s52 (g:XaN):XbS:=⟨[.pt 3,.v],r52 g⟩
theorem Xls {g:XaN} {y0:Xam} {y1:Int} {x:Int×Xam} (hx:g y0 y1=some x):(s52 g).run [.pointer (some ⟨0,0,none⟩),.int .i64 y1] [some [.string ⟨⟨y0.s⟩⟩,.bool y0.made,.bool y0.bad]]=some (rx52 x):=r52_c hx
abbrev XPp (Xax:XbI) (Xaf:XaB):List (Nat×XbS):=[(69,s69 Xax),(86,s86 Xaf)]
theorem XIp (Xax:XbI) (Xaf:XaB) (hS:Xaq Tryz.prog (XaL (XPp Xax Xaf))) (ra0:Xam) (k:Int) (res:Int×Xam) (h:Xgk Xax Xaf ra0 k=some res) :
 XaM Tryz.prog 52 1 ⟨⟨52,23,[(0,.pointer (some ⟨0,0,none⟩)),(1,.int .i64 k)],[.code XFp],[],false,none⟩,[],[(0,.cells [.string ⟨⟨ra0.s⟩⟩,.bool ra0.made,.bool ra0.bad])],1⟩ (fun v H _=>Res 1 (rx52 res) v H):=by
 unfold Xgk at h
 have R1:=@XoN Xaf
 have R2:=@XpF Xax
 refine Xbp XaP hS true 3000 ?_
 conv=>whnf
 exact W
def Xaa:XaN:=Xgk Xax Xaf
theorem XpP:Xb8 Tryz.prog 52 (s52 Xaa):=by
 have hL:=XIp Xax Xaf (Xaq.XaY ⟨Xrd,XoS,trivial⟩)
 exact okA ⟨Tryz.f52,rfl,by decide,rfl⟩
def Xod (s:List UInt8):Option Xam:=
 some (Xam.mk s true false)
def rx51 (x:Xam):Xc2:=⟨.pointer (some ⟨0,0,none⟩),[[.string ⟨⟨x.s⟩⟩,.bool x.made,.bool x.bad]],[]⟩
abbrev Xb9:=(List UInt8)→Option Xam
def r51 (g:Xb9):Dec:=dV asS fun (y0:List UInt8)=>XdT (ofG (g y0) rx51)
theorem r51_c {g:Xb9} {y0:List UInt8} {x:Xam} (hx:g y0=some x):r51 g [.string ⟨⟨y0⟩⟩] []=some (rx51 x):=(Xbb (Xds)).trans (Xa7 hx)
def s51 (g:Xb9):XbS:=⟨[.v],r51 g⟩
theorem XrI {g:Xb9} {y0:List UInt8} {x:Xam} (hx:g y0=some x):(s51 g).run [.string ⟨⟨y0⟩⟩] []=some (rx51 x):=r51_c hx
abbrev XP2:List (Nat×XbS):=[]
theorem XKa (hS:Xaq Tryz.prog (XaL (XP2))) (s:List UInt8) (res:Xam) (h:Xod s=some res) :
 XaM Tryz.prog 51 0 ⟨⟨51,6,[(0,.string ⟨⟨s⟩⟩)],[.code XPH],[],false,none⟩,[],[],0⟩ (fun v H _=>Res 0 (rx51 res) v H):=by
 unfold Xod at h
 refine Xbp XaP hS true 3000 ?_
 conv=>whnf
 exact W
def XaX:Xb9:=Xod
theorem XrG:Xb8 Tryz.prog 51 (s51 XaX):=by
 have hL:=XKa (Xaq.XaY trivial)
 exact okA ⟨Tryz.f51,rfl,by decide,rfl⟩
end Go.Vm.Code
namespace Go.Vm.Code
open Go Go.Vm
def rdr (r:Xam) (k:Int):Xam:=if r.bad=true∨k<0∨k>r.s.length then ⟨r.s,true,true⟩ else ⟨r.s.drop k.toNat,true,false⟩
def rdt (r:Xam) (k:Int):List UInt8:=if r.bad=true∨k<0∨k>r.s.length then [] else r.s.take k.toNat
theorem XfW {r:Xam} (h:r.made=true):Xap r=some (r.bad,r):=by
 unfold Xap Xgv
 rw [h];rfl
theorem Xgn {r:Xam} {k:Int} (h:r.made=true):Xaf r k=some (rdt r k,rdr r k):=by
 unfold Xaf Xf4 rdt rdr
 rw [XfW h,Option.bind_some]
 simp only []
 obtain ⟨s,m,b⟩:=r
 simp only at h ⊢
 subst h
 cases b with
 | true=>simp
 | false=>
   rw [cond_false]
   by_cases h1:k<0
   ·rw [XaZ h1,if_pos (by omega),if_pos (by omega)]
   rw [XaR h1]
   by_cases h2:k>s.length
   ·rw [XaZ h2,if_pos (by omega),if_pos (by omega)]
   ·have e:(s.drop k.toNat).take (s.length - k.toNat)=s.drop k.toNat:=List.take_of_length_le (by simp)
    rw [XaR h2,XaH (by omega),XaH (by omega),if_neg (by simp;omega),if_neg (by simp;omega),e]
theorem Xfc (r:Xam) (k:Int):(rdr r k).made=true:=by unfold rdr;split<;>rfl
theorem XuH {r:Xam} {k:Int}:(rdr r k).bad=false↔r.bad=false∧0≤k∧k≤r.s.length:=by
 unfold rdr
 split
 ·rename_i h
  simp only [Bool.true_eq_false,false_iff]
  intro ⟨a,b,c⟩
  rcases h with h|h|h
  ·rw [a] at h;cases h
  ·omega
  ·omega
 ·rename_i h
  simp only [true_iff]
  cases hb:r.bad
  ·exact ⟨rfl,by omega,by omega⟩
  ·exact absurd (.inl hb) h
theorem XMN {r:Xam} {k:Int} (h:(rdr r k).bad=false):((rdr r k).s.length:Int)=r.s.length - k:=by
 obtain ⟨a,b,c⟩:=XuH.1 h
 unfold rdr
 rw [if_neg (by rw [a];simp;omega)]
 simp;omega
theorem Xip {r r':Xam} {k:Int} (h:rdr r k=r') (hb:r'.bad=false):r.bad=false∧(r'.s.length:Int)+k=r.s.length:=by
 subst h
 have:=XMN hb
 exact ⟨(XuH.1 hb).1,by omega⟩
theorem XgI {s:List UInt8} {k:Int} (h0:0≤k) (h1:k≤s.length):rdr ⟨s,true,false⟩ k=⟨s.drop k.toNat,true,false⟩:=by
 unfold rdr;rw [if_neg (by simp;omega)]
theorem XgE {s:List UInt8} {k:Int} (h0:0≤k) (h1:k≤s.length):rdt ⟨s,true,false⟩ k=s.take k.toNat:=by
 unfold rdt;rw [if_neg (by simp;omega)]
theorem XL6 (r:Xam) (k:Int):(rdt r k).length≤r.s.length:=by
 unfold rdt;split
 ·simp
 ·rw [List.length_take];omega
def rdn (r:Xam) (k:Int):Int:=(Xed (rdt r (if k<1∨k>7 then -1 else k)):Nat)
theorem Xd6 {r:Xam} {k:Int} (h:r.made=true) (hl:r.s.length<2^61):Xaa r k=some (rdn r k,rdr r (if k<1∨k>7 then -1 else k)):=by
 unfold Xaa Xgk rdn
 have bad:Xaf r (-1)=some ([],rdr r (-1)):=by
  rw [Xgn h];unfold rdt;rw [if_pos (by omega)]
 have e0:rdt r (-1)=[]:=by unfold rdt;rw [if_pos (by omega)]
 by_cases h1:k<1
 ·rw [XaZ h1,bad,Option.bind_some,Xek (by simp),if_pos (by omega),Option.bind_some,e0];rfl
 rw [XaR h1]
 by_cases h2:k>7
 ·rw [XaZ h2,bad,Option.bind_some,Xek (by simp),if_pos (by omega),Option.bind_some,e0];rfl
 have hlen:=XL6 r k
 rw [XaR h2,Xgn h,Option.bind_some,Xek (by simp only [];omega),Option.bind_some,if_neg (by omega)]
 simp only []
 unfold Xuk
 by_cases hc:r.bad=true∨k<0∨k>r.s.length
 ·have e:rdt r k=[]:=by unfold rdt;rw [if_pos hc]
  rw [e,if_neg (by simp;omega)];rfl
 ·have hl2:(rdt r k).length=k.toNat:=by unfold rdt;rw [if_neg hc];simp;omega
  rw [if_pos (by omega)]
  have e2:((rdt r k).drop (0:Int).toNat).take k.toNat=rdt r k:=by
   rw [show (0:Int).toNat=0 from rfl,List.drop_zero,List.take_of_length_le (by omega)]
  have hv:Xed (rdt r k)<2^56:=by
   have:=XtR (rdt r k)
   rw [hl2] at this
   exact Xsl this (by omega)
  simp only [e2]
  rw [Xdb (by omega) (by omega)]
theorem XfZ {s:List UInt8} {p k:Int} (h0:0≤p) (h1:1≤k) (h8:k≤8) (h:p+k≤s.length):Xuk s p k=(((Xed ((s.drop p.toNat).take k.toNat):Nat):Int),true):=by
 unfold Xuk;rw [if_pos (by omega)]
theorem Xmo (s:List UInt8):XaX s=some ⟨s,true,false⟩:=rfl
def sset (s:List UInt8) (p k n:Nat):List UInt8:=s.take p++be n k++s.drop (p+k)
theorem Xpu {s:List UInt8} {p k n:Nat} (h:p+k≤s.length):(sset s p k n).length=s.length:=by simp [sset];omega
theorem Xsm {s:List UInt8} {p k:Nat} {n:Int} (hs:s.length<2^40) (hn:0≤n) (h1:1≤k) (h8:k≤8) (h:p+k≤s.length):Xcr s (p:Int) (k:Int) n=some (sset s p k n.toNat):=by
 rw [XGj hs hn];unfold XSo
 rw [if_pos (by omega)]
 have e:((p:Int)+k).toNat=p+k:=by omega
 rw [e];rfl
theorem Xpn {s:List UInt8} {p k n y:Nat} (h:p+k≤s.length):(sset s p k n)[y]?=if y<p then s[y]? else if y<p+k then (be n k)[y - p]? else s[y]?:=by
 unfold sset
 rw [List.append_assoc,List.getElem?_append]
 have e1:(s.take p).length=p:=by simp;omega
 rw [e1]
 by_cases h1:y<p
 ·rw [if_pos h1,if_pos h1,List.getElem?_take_of_lt h1]
 ·rw [if_neg h1,if_neg h1,List.getElem?_append,Xhk]
  by_cases h2:y<p+k
  ·rw [if_pos (by omega),if_pos h2]
  ·rw [if_neg (by omega),if_neg h2,List.getElem?_drop]
   congr 1;omega
theorem XpV {l:List UInt8} {q m x:Nat}:((l.drop q).take m)[x]?=if x<m then l[q+x]? else none:=by
 rw [List.getElem?_take];split
 ·rw [List.getElem?_drop]
 ·rfl
theorem XxP {s:List UInt8} {p k n:Nat} (h:p+k≤s.length):((sset s p k n).drop p).take k=be n k:=by
 apply List.ext_getElem?
 intro x
 rw [XpV,Xpn h]
 split
 ·rw [if_neg (by omega),if_pos (by omega),Nat.add_sub_cancel_left]
 ·rw [List.getElem?_eq_none (by simp;omega)]
theorem Xwa {s:List UInt8} {p k:Nat} (h:p+k≤s.length) (hp:p%2=0) (hk:k%2=0):Xez s=Xez (s.take p)+(Xez ((s.drop p).take k)+Xez (s.drop (p+k))):=by
 rw [←List.drop_drop,←Xgf _ _ (by rw [List.length_take,List.length_drop];omega),List.take_append_drop,←Xgf _ _ (by rw [List.length_take];omega),List.take_append_drop]
theorem XtK {s:List UInt8} {p k n:Nat} (h:p+k≤s.length) (hp:p%2=0) (hk:k%2=0):Xez (sset s p k n)+Xez ((s.drop p).take k)=Xez s+Xez (be n k):=by
 rw [Xwa h hp hk]
 unfold sset
 rw [List.append_assoc,Xgf _ _ (by rw [List.length_take];omega),Xgf _ _ (by rw [Xhk];omega)]
 omega
theorem Xpq {n:Nat} (h:n<65536):Xez (be n 2)=n:=by
 have e:be n 2=[UInt8.ofNat (n/256),UInt8.ofNat n]:=by simp [be]
 rw [e,Xez,Xez]
 simp only [UInt8.toNat_ofNat']
 omega
theorem XmY {n:Nat} (h:n%65535=0) (h0:n≠0):norm n=65535:=norm_eq (by omega) (by omega) (by omega)
def vK (s:List UInt8) (p k:Nat):Int:=(Xed ((s.drop p).take k):Nat)
theorem Xfz (s:List UInt8) (p k n:Nat) (h:256^k≤n):0≤vK s p k∧vK s p k<n:=by
 have:=Xdk (l:=s.drop p) (k:=k) n h
 unfold vK;omega
theorem XHD {s:List UInt8} {p k:Nat} (h1:1≤k) (h7:k≤7) (h:p+k≤s.length) (hl:s.length<2^61):Xaa ⟨s.drop p,true,false⟩ (k:Int)=some (vK s p k,⟨s.drop (p+k),true,false⟩):=by
 have hd:(s.drop p).length=s.length - p:=by simp
 rw [Xd6 rfl (by simp only;omega),if_neg (by omega),XgI (by omega) (by omega)]
 unfold rdn
 rw [if_neg (by omega),XgE (by omega) (by omega),Int.toNat_natCast,List.drop_drop];rfl
theorem Xsg {s:List UInt8} {p k:Nat} (h:p+k≤s.length):Xaf ⟨s.drop p,true,false⟩ (k:Int)=some ((s.drop p).take k,⟨s.drop (p+k),true,false⟩):=by
 have hd:(s.drop p).length=s.length - p:=by simp
 rw [Xgn rfl,XgI (by omega) (by omega),XgE (by omega) (by omega),Int.toNat_natCast,List.drop_drop]
theorem Xsy {s:List UInt8} {p k:Nat} (hs:s.length<2^61) (h1:1≤k) (h7:k≤7) (h:p+k≤s.length):Xao s (p:Int) (k:Int)=some (vK s p k):=by
 rw [Xev hs,XfZ (by omega) (by omega) (by omega) (by omega)]
 have:=Xfz s p k (256^k) (Nat.le_refl _)
 have h8:256^k≤256^7:=Nat.pow_le_pow_right (by decide) h7
 have h9:(256:Nat)^7=72057594037927936:=by decide
 show some (wI .i64 (vK s p k))=_
 rw [Xdb (by omega) (by omega)]
theorem Xk9 {s:List UInt8} {p:Nat} (h:p<s.length):vK s p 1=(s[p].toNat:Int):=by
 unfold vK
 rw [List.drop_eq_getElem_cons h]
 show ((Xed [s[p]]:Nat):Int)=_
 rw [Xgs];simp
theorem Xzj {s:List UInt8} {p:Nat} (h:p+1<s.length):vK s p 2=(s[p].toNat*256+s[p+1].toNat:Int):=by
 unfold vK
 rw [List.drop_eq_getElem_cons (by omega:p<s.length),List.drop_eq_getElem_cons h]
 show ((Xed [s[p],s[p+1]]:Nat):Int)=_
 rw [Xgs,Xgs];simp
theorem l1 {l:List UInt8} (h:l.length=1):∃ a,l=[a]:=by
 match l,h with
 | [a],_=>exact ⟨a,rfl⟩
theorem l2 {l:List UInt8} (h:l.length=2):∃ a b,l=[a,b]:=by
 match l,h with
 | [a,b],_=>exact ⟨a,b,rfl⟩
theorem l4 {l:List UInt8} (h:l.length=4):∃ a b c d,l=[a,b,c,d]:=by
 match l,h with
 | [a,b,c,d],_=>exact ⟨a,b,c,d,rfl⟩
theorem vK_of {s w:List UInt8} {p k n:Nat} (h:(s.drop p).take k=w) (e:w=be n k) (hn:n<256^k):vK s p k=(n:Int):=by
 unfold vK;rw [h,e,Xpz hn]
theorem Xuj (src dst:Xae) (p n:Int):(Xog src dst p n).length%2=0:=by
 unfold Xog
 split
 ·rename_i h
  rw [List.length_append,List.length_append,Xhg,Xhg,←h.2.2]
  cases src.V6
  ·simp only [cond_false,List.length_append]
   rw [show (XiP 0 1).length=1 from rfl,show XiP p 1=be p.toNat 1 from XhG (k:=1) (by omega),show XiP n 2=be n.toNat 2 from XhG (k:=2) (by omega),Xhk,Xhk]
  ·simp only [cond_true,List.length_append]
   rw [show (XiP 0 3).length=3 from rfl,show XiP p 1=be p.toNat 1 from XhG (k:=1) (by omega),show XiP n 4=be n.toNat 4 from XhG (k:=4) (by omega),Xhk,Xhk]
 ·rfl
theorem XAm {s:List UInt8} {n p k:Nat} (h:p+k≤n):vK (s.take n) p k=vK s p k:=by
 unfold vK
 rw [List.drop_take,List.take_take,Nat.min_eq_left (by omega)]
theorem Xz0 {s b:List UInt8} {z p k:Nat} (h:s.drop z=b):vK s (z+p) k=vK b p k:=by
 unfold vK;rw [←h,List.drop_drop]
def XxH (s:List UInt8):Xae:=⟨true,(Xed (s.take 8):Nat),(Xed (s.drop 8):Nat)⟩
end Go.Vm.Code
namespace Go.Vm.Code
open Go Go.Vm Go.Proofs
set_option maxRecDepth 100000
set_option maxHeartbeats 4000000
set_option linter.unusedVariables false
def Xh0 (text:List UInt8) (i:Int) (c:List Xdd):Option (Sum (Int×(List Xdd)) ((List Xdd)×Int)):=
 cond (decide (i<(text.length:Int)))
  (
  Xbr (decide (0≤i)) <|
  (text[i.toNat]?).bind fun (b:UInt8)=>
  cond ((b.toNat:Int)==0)
   (
   some (.inr ((c,0))))
   (
   cond ((b.toNat:Int)==1)
    (
    some (.inl (wI .i64 (i+1),c)))
    (
    let t:=decide ((wI .i64 (i+1))<(text.length:Int))
    cond (t)
     (
     Xbr (decide (0≤(wI .i64 (i+1)))) <|
     (text[(wI .i64 (i+1)).toNat]?).bind fun (b1:UInt8)=>
     cond (decide ((wI .i64 (b1.toNat:Int))<2))
      (
      some (.inr (([],3))))
      (
      let t1:=decide ((wI .i64 (b1.toNat:Int))>(wI .i64 ((text.length:Int) - i)))
      cond (t1)
       (
       some (.inr (([],3))))
       (
       Xbr (decide (0≤i)) <|
       (text[i.toNat]?).bind fun (b2:UInt8)=>
       Xbr (decide ((0:Int)≤(wI .i64 (i+(wI .i64 (b1.toNat:Int))))∧(wI .i64 (i+(wI .i64 (b1.toNat:Int))))≤(text.length:Int)∧(0:Int)≤(wI .i64 (i+2))∧(wI .i64 (i+2))≤((wI .i64 (i+(wI .i64 (b1.toNat:Int)))).toNat:Int))) <|
       let t2:=(text.drop (wI .i64 (i+2)).toNat).take ((wI .i64 (i+(wI .i64 (b1.toNat:Int)))).toNat - (wI .i64 (i+2)).toNat)
       cond (decide ((wI .i64 (i+2))<0))
        (
        some (.inr (([],3))))
        (
        Xbr (decide ((c.length+1)*24≤2^47)) <|
        let row:=c++[Xdd.mk (wI .i64 (b2.toNat:Int)) t2]
        some (.inl (wI .i64 (i+(wI .i64 (b1.toNat:Int))),row))))))
     (
     some (.inr (([],3)))))))
  (
  some (.inr ((c,0))))
def Xnr (text:List UInt8):Option ((List Xdd)×Int):=
 iter (fun st=>Xh0 text st.1 st.2) FUEL (0,[])
def XuE (x:(List Xdd)×Int):Xc2:=⟨.tuple ⟨[.slice (some ⟨0,0,none⟩) x.1.length 2,.int .i64 x.2]⟩,[(vT XgQ x.1)],[]⟩
abbrev Xeu:=(List UInt8)→Option ((List Xdd)×Int)
def r119 (g:Xeu):Dec:=dV asS fun (y0:List UInt8)=>XdT (ofG (g y0) XuE)
theorem XNW {g:Xeu} {y0:List UInt8} {x:(List Xdd)×Int} (hx:g y0=some x):r119 g [.string ⟨⟨y0⟩⟩] []=some (XuE x):=(Xbb (Xds)).trans (Xa7 hx)
def s119 (g:Xeu):XbS:=⟨[.v],r119 g⟩
theorem Xy5 {g:Xeu} {y0:List UInt8} {x:(List Xdd)×Int} (hx:g y0=some x):(s119 g).run [.string ⟨⟨y0⟩⟩] []=some (XuE x):=XNW hx
abbrev XAy:List (Nat×XbS):=[]
def XjS (text:List UInt8) (i:Int) (c:List Xdd):VM:=
 ⟨⟨133,62,[(0,.func (.yield 5) #[] #[]),(1,.pointer (some ⟨3,0,none⟩)),(3,.int .i64 i)],[.code Xqp,.inLoop Xqp,.inBlock 0],[],false,none⟩,[⟨119,18,[(2,.pointer (some ⟨0,0,none⟩)),(3,.pointer (some ⟨1,0,none⟩)),(4,.pointer (some ⟨2,0,none⟩))],[.inRangeFunc 5,.inBlock 0,.code XAg],[4],false,none⟩],[(0,.cells [.slice none 0 0]),(1,.cells [.int .i64 0]),(2,.cells [.slice (some ⟨6,0,none⟩) c.length 2]),(3,.cells [.string ⟨⟨text⟩⟩]),(4,.marks),(5,.loop ⟨.ready,none,119,18,[(2,.pointer (some ⟨0,0,none⟩)),(3,.pointer (some ⟨1,0,none⟩)),(4,.pointer (some ⟨2,0,none⟩))],[8],XGr,XBf,4⟩),(6,.row true (vT XgQ c))],7⟩
theorem Xzw (hS:Xaq Tryz.prog (XaL (XAy))) (text:List UInt8) (res:(List Xdd)×Int):∀ fuel (st:Int×(List Xdd)) (o:(List Xdd)×Int),iter (fun st=>Xh0 text st.1 st.2) fuel st=some o→(o=res) →
 XaM Tryz.prog 119 0 (XjS text st.1 st.2) (fun v H t=>∃ v' H' t',XxV v H t v' H' t'∧Res 0 (XuE res) v' H'):=by
 intro fuel st o h hc
 refine XcJ (head:=fun st=>XjS text st.1 st.2) (C:=fun o=>(o=res)) ?_ fuel st o h hc
 clear h hc o st fuel
 intro st o h hc
 obtain ⟨i,c⟩:=st
 replace h:Xh0 text i c=some o:=h
 show XaM Tryz.prog 119 0 (XjS text i c) (fun v H t=>∃ v' H' t',XxV v H t v' H' t'∧Res 0 (XuE res) v' H')
 unfold Xh0 at h
 refine Xbp XaP hS true 3000 ?_
 conv=>whnf
 refine br.h2 h (by rfl) ?_ ?_
 ·clear h;intro hb h;conv=>whnf
  all_goals (cases h;cases hc)
  all_goals exact ⟨_,_,_,(.refl _ _ _),Res.of [6] rfl (Xj3 (XiB Xcn) (XdH rfl) Xn2) (by decide) (XoK (by decide) Xn1) Xoa⟩
 clear h;intro hb h;conv=>whnf
 replace h:=Xbr.elim h;obtain ⟨hb,h⟩:=h
 try (refine req.intro hb ?_;conv=>whnf)
 replace h:=Xcm.elim h;obtain ⟨b,hy,h⟩:=h
 refine rdS.intro hy ?_
 conv=>whnf
 refine br.h h (by rfl) ?_ ?_
 ·clear h;intro hb h;conv=>whnf
  all_goals (cases h;cases hc)
  all_goals exact ⟨_,_,_,(.refl _ _ _),Res.of [6] rfl (Xj3 (XiB Xcn) (XdH rfl) Xn2) (by decide) (XoK (by decide) Xn1) Xoa⟩
 clear h;intro hb h;conv=>whnf
 refine br.h h (by rfl) ?_ ?_
 ·clear h;intro hb h;conv=>whnf
  cases h;simp only [Sum.elim_inl,XjS] at hc
  exact XxW hc [(0,0),(1,1),(2,2),(3,3),(4,4),(5,5),(6,6)] rfl
 clear h;intro hb h;conv=>whnf
 let t:Bool:=decide ((wI .i64 (i+1))<(text.length:Int))
 refine br.h2 h (by rfl) ?_ ?_
 ·clear h;intro hb h;conv=>whnf
  all_goals (cases h;cases hc)
  all_goals exact ⟨_,_,_,(.val (.tup (.cons (.nil _ _) (.cons (.same _) .nil))) (.refl _ _ _)),Res.of [8] rfl (Xj3 (XiB Xcn) (XdH rfl) Xn2) (by decide) (XoK (by decide) Xn1) Xoa⟩
 clear h;intro hb h;conv=>whnf
 replace h:=Xbr.elim h;obtain ⟨hb,h⟩:=h
 try (refine req.intro hb ?_;conv=>whnf)
 replace h:=Xcm.elim h;obtain ⟨b1,hy,h⟩:=h
 refine rdS.intro hy ?_
 conv=>whnf
 refine br.h h (by rfl) ?_ ?_
 ·clear h;intro hb h;conv=>whnf
  all_goals (cases h;cases hc)
  all_goals exact ⟨_,_,_,(.val (.tup (.cons (.nil _ _) (.cons (.same _) .nil))) (.refl _ _ _)),Res.of [8] rfl (Xj3 (XiB Xcn) (XdH rfl) Xn2) (by decide) (XoK (by decide) Xn1) Xoa⟩
 clear h;intro hb h;conv=>whnf
 let t1:Bool:=decide ((wI .i64 (b1.toNat:Int))>(wI .i64 ((text.length:Int) - i)))
 refine br.h h (by rfl) ?_ ?_
 ·clear h;intro hb h;conv=>whnf
  all_goals (cases h;cases hc)
  all_goals exact ⟨_,_,_,(.val (.tup (.cons (.nil _ _) (.cons (.same _) .nil))) (.refl _ _ _)),Res.of [8] rfl (Xj3 (XiB Xcn) (XdH rfl) Xn2) (by decide) (XoK (by decide) Xn1) Xoa⟩
 clear h;intro hb h;conv=>whnf
 replace h:=Xbr.elim h;obtain ⟨hb,h⟩:=h
 try (refine req.intro hb ?_;conv=>whnf)
 replace h:=Xcm.elim h;obtain ⟨b2,hy,h⟩:=h
 refine rdS.intro hy ?_
 conv=>whnf
 replace h:=Xbr.elim h;obtain ⟨hb,h⟩:=h
 try (refine req.intro hb ?_;conv=>whnf)
 let t2:List UInt8:=(text.drop (wI .i64 (i+2)).toNat).take ((wI .i64 (i+(wI .i64 (b1.toNat:Int)))).toNat - (wI .i64 (i+2)).toNat)
 refine br.h h (by rfl) ?_ ?_
 ·clear h;intro hb h;conv=>whnf
  all_goals (cases h;cases hc)
  all_goals exact ⟨_,_,_,(.val (.tup (.cons (.nil _ _) (.cons (.same _) .nil))) (.refl _ _ _)),Res.of [24] rfl (Xj3 (XiB Xcn) (XdH rfl) Xn2) (by decide) (XoK (by decide) Xn1) Xoa⟩
 clear h;intro hb h;conv=>whnf
 replace h:=Xbr.elim h;obtain ⟨hb,h⟩:=h
 refine req.intro (Xng (of_decide_eq_true hb) (by first|rfl|omega|(simp;done)|(simp;omega)|(simp at *;omega)) rfl (by first|rfl|omega|(simp;done)|(simp;omega)|(simp at *;omega)) (by first|rfl|exact XeQ _ _|exact XgC _|exact XgB _|exact Xhp (by first|exact Xcj|exact XbV|exact Xce|exact XbX|exact Xbk|exact XbH|exact Xbj|exact Xbs|exact XbG|exact Xcc|exact Xcw|exact Xcb|exact XbW|exact Xcd|exact Xcy) _|(rw [XeK];exact XeQ _ _)|(simp [XeQ,XgC,XgB,XiL,XiJ,Xjf,Xjh];done)|(simp;exact List.all_eq_true.1 (Xhp (by first|exact Xcj|exact XbV|exact Xce|exact XbX|exact Xbk|exact XbH|exact Xbj|exact Xbs|exact XbG|exact Xcc|exact Xcw|exact Xcb|exact XbW|exact Xcd|exact Xcy) _))) rfl) ?_
 conv=>whnf
 let row:List Xdd:=c++[Xdd.mk (wI .i64 (b2.toNat:Int)) t2]
 first|have hlen_row:row.length=_:=List.length_append ..|skip
 refine XtX Xfe (xs:=c) (ys:=[Xdd.mk (wI .i64 (b2.toNat:Int)) t2]) rfl (by first|rfl|omega) (by first|rfl|omega|(simp;done)|(simp;omega)|(simp at *;omega)) (by first|rfl|omega|(simp;done)|(simp;omega)|(simp at *;omega)) ?_
 conv=>whnf
 cases h;simp only [Sum.elim_inl,XjS] at hc
 exact XxW hc [(0,0),(1,1),(2,2),(3,3),(4,4),(5,5),(6,25)] rfl
theorem XCO (hS:Xaq Tryz.prog (XaL (XAy))) (text:List UInt8) (res:(List Xdd)×Int) (h:Xnr text=some res) :
 XaM Tryz.prog 119 0 ⟨⟨119,18,[(0,.string ⟨⟨text⟩⟩)],[.code XAu],[],false,none⟩,[],[],0⟩ (fun v H _=>Res 0 (XuE res) v H):=by
 refine XaM.nilW (R:=fun v' H'=>Res 0 (XuE res) v' H') ?_
 unfold Xnr at h
 refine Xbp XaP hS true 3000 ?_
 conv=>whnf
 have hl:=Xzw hS _ res _ _ _ h rfl;simp only [XjS] at hl
 refine XaM.nilC 2 0 2 ?_
 exact XxW hl [(0,0),(1,1),(2,2),(3,3),(4,4),(5,5),(6,6)] rfl
def Xdx:Xeu:=Xnr
theorem XyO:Xb8 Tryz.prog 119 (s119 Xdx):=by
 have hL:=XCO (Xaq.XaY trivial)
 exact okA ⟨Tryz.f119,rfl,by decide,rfl⟩
def Xig (options:List UInt8) (i:Int) (out1:List XcZ):Option (Sum (Int×(List XcZ)) ((List XcZ)×Int)):=
 cond (decide (i<(options.length:Int)))
  (
  Xbr (decide (0≤i)) <|
  (options[i.toNat]?).bind fun (b:UInt8)=>
  cond ((b.toNat:Int) !=0)
   (
   Xbr (decide (0≤i)) <|
   (options[i.toNat]?).bind fun (b1:UInt8)=>
   cond ((b1.toNat:Int)==1)
    (
    some (.inl (wI .i64 (i+1),out1)))
    (
    let t:=decide ((wI .i64 (i+1))≥(options.length:Int))
    cond (t)
     (
     some (.inr (([],3))))
     (
     Xbr (decide (0≤(wI .i64 (i+1)))) <|
     (options[(wI .i64 (i+1)).toNat]?).bind fun (b2:UInt8)=>
     cond (decide ((b2.toNat:Int)<2))
      (
      some (.inr (([],3))))
      (
      Xbr (decide (0≤(wI .i64 (i+1)))) <|
      (options[(wI .i64 (i+1)).toNat]?).bind fun (b3:UInt8)=>
      let t1:=decide ((wI .i64 (b3.toNat:Int))>(wI .i64 ((options.length:Int) - i)))
      cond (t1)
       (
       some (.inr (([],3))))
       (
       Xbr (decide (0≤(wI .i64 (i+1)))) <|
       (options[(wI .i64 (i+1)).toNat]?).bind fun (b4:UInt8)=>
       Xbr (decide (0≤i)) <|
       (options[i.toNat]?).bind fun (b5:UInt8)=>
       Xbr (decide ((0:Int)≤(wI .i64 (i+(wI .i64 (b4.toNat:Int))))∧(wI .i64 (i+(wI .i64 (b4.toNat:Int))))≤(options.length:Int)∧(0:Int)≤(wI .i64 (i+2))∧(wI .i64 (i+2))≤((wI .i64 (i+(wI .i64 (b4.toNat:Int)))).toNat:Int))) <|
       let t2:=(options.drop (wI .i64 (i+2)).toNat).take ((wI .i64 (i+(wI .i64 (b4.toNat:Int)))).toNat - (wI .i64 (i+2)).toNat)
       Xbr (decide ((out1.length+1)*32≤2^47)) <|
       let row:=out1++[XcZ.mk (wI .i64 (b5.toNat:Int)) t2 (wI .i64 (i+2))]
       some (.inl (wI .i64 (i+(wI .i64 (b4.toNat:Int))),row)))))))
   (
   some (.inr ((out1,0)))))
  (
  some (.inr ((out1,0))))
def XnB (options:List UInt8):Option ((List XcZ)×Int):=
 iter (fun st=>Xig options st.1 st.2) FUEL (0,[])
def Xu5 (x:(List XcZ)×Int):Xc2:=⟨.tuple ⟨[.slice (some ⟨0,0,none⟩) x.1.length 3,.int .i64 x.2]⟩,[(vT Xgu x.1)],[]⟩
abbrev Xex:=(List UInt8)→Option ((List XcZ)×Int)
def r112 (g:Xex):Dec:=dV asS fun (y0:List UInt8)=>XdT (ofG (g y0) Xu5)
theorem XRX {g:Xex} {y0:List UInt8} {x:(List XcZ)×Int} (hx:g y0=some x):r112 g [.string ⟨⟨y0⟩⟩] []=some (Xu5 x):=(Xbb (Xds)).trans (Xa7 hx)
def s112 (g:Xex):XbS:=⟨[.v],r112 g⟩
theorem XzB {g:Xex} {y0:List UInt8} {x:(List XcZ)×Int} (hx:g y0=some x):(s112 g).run [.string ⟨⟨y0⟩⟩] []=some (Xu5 x):=XRX hx
abbrev XAB:List (Nat×XbS):=[]
def XjV (options:List UInt8) (i:Int) (out1:List XcZ):VM:=
 ⟨⟨112,73,[(0,.string ⟨⟨options⟩⟩),(4,.slice (some ⟨0,0,none⟩) out1.length 3),(5,.int .i64 i)],[.code XuQ,.inLoop XuQ,.inBlock 0,.code XyS],[],false,none⟩,[],[(0,.row true (vT Xgu out1))],1⟩
theorem XBc (hS:Xaq Tryz.prog (XaL (XAB))) (options:List UInt8) (res:(List XcZ)×Int):∀ fuel (st:Int×(List XcZ)) (o:(List XcZ)×Int),iter (fun st=>Xig options st.1 st.2) fuel st=some o→(o=res) →
 XaM Tryz.prog 112 0 (XjV options st.1 st.2) (fun v H t=>∃ v' H' t',XxV v H t v' H' t'∧Res 0 (Xu5 res) v' H'):=by
 intro fuel st o h hc
 refine XcJ (head:=fun st=>XjV options st.1 st.2) (C:=fun o=>(o=res)) ?_ fuel st o h hc
 clear h hc o st fuel
 intro st o h hc
 obtain ⟨i,out1⟩:=st
 replace h:Xig options i out1=some o:=h
 show XaM Tryz.prog 112 0 (XjV options i out1) (fun v H t=>∃ v' H' t',XxV v H t v' H' t'∧Res 0 (Xu5 res) v' H')
 unfold Xig at h
 refine Xbp XaP hS true 3000 ?_
 conv=>whnf
 refine br.h2 h (by rfl) ?_ ?_
 ·clear h;intro hb h;conv=>whnf
  all_goals (cases h;cases hc)
  all_goals exact ⟨_,_,_,(.refl _ _ _),Res.of [0] rfl (Xj3 (XiB Xcu) (XdH rfl) Xn2) (by decide) (XoK (by decide) Xn1) Xoa⟩
 clear h;intro hb h;conv=>whnf
 replace h:=Xbr.elim h;obtain ⟨hb,h⟩:=h
 try (refine req.intro hb ?_;conv=>whnf)
 replace h:=Xcm.elim h;obtain ⟨b,hy,h⟩:=h
 refine rdS.intro hy ?_
 conv=>whnf
 refine br.h2 h (by rfl) ?_ ?_
 ·clear h;intro hb h;conv=>whnf
  all_goals (cases h;cases hc)
  all_goals exact ⟨_,_,_,(.refl _ _ _),Res.of [0] rfl (Xj3 (XiB Xcu) (XdH rfl) Xn2) (by decide) (XoK (by decide) Xn1) Xoa⟩
 clear h;intro hb h;conv=>whnf
 replace h:=Xbr.elim h;obtain ⟨hb,h⟩:=h
 try (refine req.intro hb ?_;conv=>whnf)
 replace h:=Xcm.elim h;obtain ⟨b1,hy,h⟩:=h
 refine rdS.intro hy ?_
 conv=>whnf
 refine br.h h (by rfl) ?_ ?_
 ·clear h;intro hb h;conv=>whnf
  cases h;simp only [Sum.elim_inl,XjV] at hc
  exact Xjj hc [(0,0)] rfl
 clear h;intro hb h;conv=>whnf
 let t:Bool:=decide ((wI .i64 (i+1))≥(options.length:Int))
 refine br.h h (by rfl) ?_ ?_
 ·clear h;intro hb h;conv=>whnf
  all_goals (cases h;cases hc)
  all_goals exact ⟨_,_,_,(.val (.tup (.cons (.nil _ _) (.cons (.same _) .nil))) (.refl _ _ _)),Res.of [1] rfl (Xj3 (XiB Xcu) (XdH rfl) Xn2) (by decide) (XoK (by decide) Xn1) Xoa⟩
 clear h;intro hb h;conv=>whnf
 replace h:=Xbr.elim h;obtain ⟨hb,h⟩:=h
 try (refine req.intro hb ?_;conv=>whnf)
 replace h:=Xcm.elim h;obtain ⟨b2,hy,h⟩:=h
 refine rdS.intro hy ?_
 conv=>whnf
 refine br.h h (by rfl) ?_ ?_
 ·clear h;intro hb h;conv=>whnf
  all_goals (cases h;cases hc)
  all_goals exact ⟨_,_,_,(.val (.tup (.cons (.nil _ _) (.cons (.same _) .nil))) (.refl _ _ _)),Res.of [1] rfl (Xj3 (XiB Xcu) (XdH rfl) Xn2) (by decide) (XoK (by decide) Xn1) Xoa⟩
 clear h;intro hb h;conv=>whnf
 replace h:=Xbr.elim h;obtain ⟨hb,h⟩:=h
 try (refine req.intro hb ?_;conv=>whnf)
 replace h:=Xcm.elim h;obtain ⟨b3,hy,h⟩:=h
 refine rdS.intro hy ?_
 conv=>whnf
 let t1:Bool:=decide ((wI .i64 (b3.toNat:Int))>(wI .i64 ((options.length:Int) - i)))
 refine br.h h (by rfl) ?_ ?_
 ·clear h;intro hb h;conv=>whnf
  all_goals (cases h;cases hc)
  all_goals exact ⟨_,_,_,(.val (.tup (.cons (.nil _ _) (.cons (.same _) .nil))) (.refl _ _ _)),Res.of [1] rfl (Xj3 (XiB Xcu) (XdH rfl) Xn2) (by decide) (XoK (by decide) Xn1) Xoa⟩
 clear h;intro hb h;conv=>whnf
 replace h:=Xbr.elim h;obtain ⟨hb,h⟩:=h
 try (refine req.intro hb ?_;conv=>whnf)
 replace h:=Xcm.elim h;obtain ⟨b4,hy,h⟩:=h
 refine rdS.intro hy ?_
 conv=>whnf
 replace h:=Xbr.elim h;obtain ⟨hb,h⟩:=h
 try (refine req.intro hb ?_;conv=>whnf)
 replace h:=Xcm.elim h;obtain ⟨b5,hy,h⟩:=h
 refine rdS.intro hy ?_
 conv=>whnf
 replace h:=Xbr.elim h;obtain ⟨hb,h⟩:=h
 try (refine req.intro hb ?_;conv=>whnf)
 let t2:List UInt8:=(options.drop (wI .i64 (i+2)).toNat).take ((wI .i64 (i+(wI .i64 (b4.toNat:Int)))).toNat - (wI .i64 (i+2)).toNat)
 replace h:=Xbr.elim h;obtain ⟨hb,h⟩:=h
 refine req.intro (Xng (of_decide_eq_true hb) (by first|rfl|omega|(simp;done)|(simp;omega)|(simp at *;omega)) rfl (by first|rfl|omega|(simp;done)|(simp;omega)|(simp at *;omega)) (by first|rfl|exact XeQ _ _|exact XgC _|exact XgB _|exact Xhp (by first|exact Xcj|exact XbV|exact Xce|exact XbX|exact Xbk|exact XbH|exact Xbj|exact Xbs|exact XbG|exact Xcc|exact Xcw|exact Xcb|exact XbW|exact Xcd|exact Xcy) _|(rw [XeK];exact XeQ _ _)|(simp [XeQ,XgC,XgB,XiL,XiJ,Xjf,Xjh];done)|(simp;exact List.all_eq_true.1 (Xhp (by first|exact Xcj|exact XbV|exact Xce|exact XbX|exact Xbk|exact XbH|exact Xbj|exact Xbs|exact XbG|exact Xcc|exact Xcw|exact Xcb|exact XbW|exact Xcd|exact Xcy) _))) rfl) ?_
 conv=>whnf
 let row:List XcZ:=out1++[XcZ.mk (wI .i64 (b5.toNat:Int)) t2 (wI .i64 (i+2))]
 first|have hlen_row:row.length=_:=List.length_append ..|skip
 refine XtX Xc8 (xs:=out1) (ys:=[XcZ.mk (wI .i64 (b5.toNat:Int)) t2 (wI .i64 (i+2))]) rfl (by first|rfl|omega) (by first|rfl|omega|(simp;done)|(simp;omega)|(simp at *;omega)) (by first|rfl|omega|(simp;done)|(simp;omega)|(simp at *;omega)) ?_
 conv=>whnf
 cases h;simp only [Sum.elim_inl,XjV] at hc
 exact Xjj hc [(0,18)] rfl
theorem XEm (hS:Xaq Tryz.prog (XaL (XAB))) (options:List UInt8) (res:(List XcZ)×Int) (h:XnB options=some res) :
 XaM Tryz.prog 112 0 ⟨⟨112,73,[(0,.string ⟨⟨options⟩⟩)],[.code XyX],[],false,none⟩,[],[],0⟩ (fun v H _=>Res 0 (Xu5 res) v H):=by
 refine XaM.nilW (R:=fun v' H'=>Res 0 (Xu5 res) v' H') ?_
 unfold XnB at h
 refine Xbp XaP hS true 3000 ?_
 conv=>whnf
 have hl:=XBc hS _ res _ _ _ h rfl;simp only [XjV] at hl
 refine XaM.XP9 4 3 ?_
 exact Xjj hl [(0,0)] rfl
def Xdy:Xex:=XnB
theorem Xzi:Xb8 Tryz.prog 112 (s112 Xdy):=by
 have hL:=XEm (Xaq.XaY trivial)
 exact okA ⟨Tryz.f112,rfl,by decide,rfl⟩
end Go.Vm.Code
namespace Go.Vm.Code
open Go Go.Vm
structure Xxp where
 Kind:Int
 Data:List UInt8
 At:Int
def toR (o:Xxp):XcZ:=⟨o.Kind,o.Data,o.At⟩
def ofR (o:XcZ):Xxp:=⟨o.Kind,o.Data,o.At⟩
theorem Xyh (c:List XcZ):(c.map ofR).map toR=c:=by
 rw [List.map_map,show toR∘ofR=id from rfl,List.map_id]
def Xhz (s:List UInt8):Nat→Nat→List Xxp→List Xxp×Int
 | 0,_,out=>(out,0)
 | n+1,i,out=>match s[i]? with
   | none=>(out,0)
   | some b=>if b=0 then (out,0) else if b=1 then Xhz s n (i+1) out else match s[i+1]? with
     | none=>([],3)
     | some k=>if k.toNat<2 then ([],3) else if s.length - i<k.toNat then ([],3) else
        Xhz s (n+1 - k.toNat) (i+k.toNat) (out++[⟨(b.toNat:Int),(s.drop (i+2)).take (k.toNat - 2),((i+2:Nat):Int)⟩])
termination_by n=>n
decreasing_by all_goals omega
def Xlk (s:List UInt8):List Xxp×Int:=Xhz s s.length 0 []
def strip (o:Xxp):Xdd:=⟨o.Kind,o.Data⟩
theorem XQl {s:List UInt8} (hs:s.length<2^20):Xdy s=some ((Xlk s).1.map toR,(Xlk s).2):=by
 unfold Xdy XnB Xlk
 have key:=iter_eq (step:=fun (st:Int×List XcZ)=>Xig s st.1 st.2) (fun st=>((Xhz s (s.length - st.1.toNat) st.1.toNat (st.2.map ofR)).1.map toR,(Xhz s (s.length - st.1.toNat) st.1.toNat (st.2.map ofR)).2)) (fun st=>0≤st.1∧st.1≤s.length∧(st.2.length:Int)≤st.1) (fun st=>s.length - st.1.toNat) ?_ FUEL (0,[]) ⟨by simp,by simp,by simp⟩ (by rw [Xfm];simp only;omega)
 ·rw [key];rfl
 rintro ⟨p,out⟩ ⟨g1,g2,g3⟩
 simp only at g1 g2 g3 ⊢
 obtain ⟨i,rfl⟩:=Int.eq_ofNat_of_zero_le g1
 simp only [Int.toNat_natCast]
 unfold Xig
 by_cases hi:i<s.length
 ·obtain ⟨n,hn⟩:∃ n,s.length - i=n+1:=⟨s.length - i - 1,by omega⟩
  have e:s[i]?=some s[i]:=List.getElem?_eq_getElem hi
  rw [XaZ (by omega),XaH (by omega),Int.toNat_natCast,e,Option.bind_some,hn,Xhz,e]
  by_cases h0:s[i]=0
  ·refine .inl ?_
   rw [show ((s[i].toNat:Int) !=0)=false by rw [h0];rfl,cond_false]
   simp only [h0,if_true,Xyh]
  rw [show ((s[i].toNat:Int) !=0)=true by simp;intro hx;exact h0 (UInt8.toNat_inj.1 (by simpa using hx)),cond_true,XaH (by omega),Option.bind_some]
  simp only [if_neg h0]
  by_cases h1:s[i]=1
  ·refine .inr ⟨(((i+1:Nat):Int),out),?_,⟨by simp only;omega,by simp only;omega,by simp only;omega⟩,by simp only;omega,?_⟩
   ·rw [show ((s[i].toNat:Int)==1)=true by rw [h1];rfl,cond_true,Xdb (by omega) (by omega)];rfl
   ·simp only [Int.toNat_natCast,if_pos h1]
    rw [show s.length - (i+1)=n by omega]
  rw [show ((s[i].toNat:Int)==1)=false by simp;intro hx;exact h1 (UInt8.toNat_inj.1 (by simp;omega)),cond_false]
  simp only [if_neg h1]
  rw [Xdb (n:=(i:Int)+1) (by omega) (by omega)]
  by_cases h2:s.length≤i+1
  ·refine .inl ?_
   rw [XaZ (by omega),List.getElem?_eq_none (by omega)];rfl
  have hi1:i+1<s.length:=by omega
  have e1:s[i+1]?=some s[i+1]:=List.getElem?_eq_getElem hi1
  have b1:=s[i+1].toNat_lt
  rw [XaR (by omega),show ((i:Int)+1).toNat=i+1 by omega,e1,XaH (by omega),Option.bind_some]
  simp only [Option.bind_some]
  by_cases h3:s[i+1].toNat<2
  ·refine .inl ?_
   rw [XaZ (by omega),if_pos h3];rfl
  rw [XaR (by omega),if_neg h3,XaH (by omega),Xdb (n:=(s[i+1].toNat:Int)) (by omega) (by omega),Xdb (n:=(s.length:Int) - i) (by omega) (by omega)]
  by_cases h4:s.length - i<s[i+1].toNat
  ·refine .inl ?_
   rw [XaZ (by omega),if_pos h4];rfl
  refine .inr ⟨(((i+s[i+1].toNat:Nat):Int),out++[⟨(s[i].toNat:Int),(s.drop (i+2)).take (s[i+1].toNat - 2),((i+2:Nat):Int)⟩]),?_,⟨by simp only;omega,by simp only;omega,by simp;omega⟩,by simp only;omega,?_⟩
  ·have b0:=s[i].toNat_lt
   rw [XaR (by omega),XaH (by omega),XaH (by omega),Xdb (n:=(i:Int)+s[i+1].toNat) (by omega) (by omega),Xdb (n:=(i:Int)+2) (by omega) (by omega),Xdb (n:=(s[i].toNat:Int)) (by omega) (by omega),XaH (by omega),XaH (by omega),show ((i:Int)+s[i+1].toNat).toNat - ((i:Int)+2).toNat=s[i+1].toNat - 2 by omega,show ((i:Int)+2).toNat=i+2 by omega];rfl
  ·rw [if_neg h4]
   simp only [Int.toNat_natCast]
   rw [show s.length - (i+s[i+1].toNat)=n+1 - s[i+1].toNat by omega,List.map_append];rfl
 ·refine .inl ?_
  rw [XaR (by omega),show s.length - i=0 by omega,Xhz,Xyh]
theorem XxJ (s:List UInt8):∀ (n i:Nat) (o1 o2:List Xxp),o1.map strip=o2.map strip→(Xhz s n i o1).1.map strip=(Xhz s n i o2).1.map strip∧(Xhz s n i o1).2=(Xhz s n i o2).2:=by
 intro n
 induction n using Nat.strongRecOn with
 | ind n ih=>
   intro i o1 o2 h
   cases n with
   | zero=>rw [Xhz,Xhz];exact ⟨h,rfl⟩
   | succ n=>
     rw [Xhz,Xhz]
     split
     ·exact ⟨h,rfl⟩
     split
     ·exact ⟨h,rfl⟩
     split
     ·exact ih n (by omega) _ _ _ h
     split
     ·exact ⟨rfl,rfl⟩
     split
     ·exact ⟨rfl,rfl⟩
     split
     ·exact ⟨rfl,rfl⟩
     exact ih _ (by omega) _ _ _ (by simp [h,strip])
def XmD (o:Xdd):Xxp:=⟨o.Kind,o.Data,0⟩
theorem Xwz (c:List Xdd):(c.map XmD).map strip=c:=by
 rw [List.map_map,show strip∘XmD=id from rfl,List.map_id]
theorem XR4 {s:List UInt8} (hs:s.length<2^20):Xdx s=some ((Xlk s).1.map strip,(Xlk s).2):=by
 unfold Xdx Xnr Xlk
 have key:=iter_eq (step:=fun (st:Int×List Xdd)=>Xh0 s st.1 st.2) (fun st=>((Xhz s (s.length - st.1.toNat) st.1.toNat (st.2.map XmD)).1.map strip,(Xhz s (s.length - st.1.toNat) st.1.toNat (st.2.map XmD)).2)) (fun st=>0≤st.1∧st.1≤s.length∧(st.2.length:Int)≤st.1) (fun st=>s.length - st.1.toNat) ?_ FUEL (0,[]) ⟨by simp,by simp,by simp⟩ (by rw [Xfm];simp only;omega)
 ·rw [key];rfl
 rintro ⟨p,out⟩ ⟨g1,g2,g3⟩
 simp only at g1 g2 g3 ⊢
 obtain ⟨i,rfl⟩:=Int.eq_ofNat_of_zero_le g1
 simp only [Int.toNat_natCast]
 unfold Xh0
 by_cases hi:i<s.length
 ·obtain ⟨n,hn⟩:∃ n,s.length - i=n+1:=⟨s.length - i - 1,by omega⟩
  have e:s[i]?=some s[i]:=List.getElem?_eq_getElem hi
  rw [XaZ (by omega),XaH (by omega),Int.toNat_natCast,e,Option.bind_some,hn,Xhz,e]
  by_cases h0:s[i]=0
  ·refine .inl ?_
   rw [show ((s[i].toNat:Int)==0)=true by rw [h0];rfl,cond_true]
   simp only [h0,if_true,Xwz]
  rw [show ((s[i].toNat:Int)==0)=false by simp;intro hx;exact h0 (UInt8.toNat_inj.1 (by simpa using hx)),cond_false]
  simp only [if_neg h0]
  by_cases h1:s[i]=1
  ·refine .inr ⟨(((i+1:Nat):Int),out),?_,⟨by simp only;omega,by simp only;omega,by simp only;omega⟩,by simp only;omega,?_⟩
   ·rw [show ((s[i].toNat:Int)==1)=true by rw [h1];rfl,cond_true,Xdb (by omega) (by omega)];rfl
   ·simp only [Int.toNat_natCast,if_pos h1]
    rw [show s.length - (i+1)=n by omega]
  rw [show ((s[i].toNat:Int)==1)=false by simp;intro hx;exact h1 (UInt8.toNat_inj.1 (by simp;omega)),cond_false]
  simp only [if_neg h1]
  rw [Xdb (n:=(i:Int)+1) (by omega) (by omega)]
  by_cases h2:s.length≤i+1
  ·refine .inl ?_
   rw [XaR (by omega),List.getElem?_eq_none (by omega)];rfl
  have hi1:i+1<s.length:=by omega
  have e1:s[i+1]?=some s[i+1]:=List.getElem?_eq_getElem hi1
  have b1:=s[i+1].toNat_lt
  rw [XaZ (by omega),show ((i:Int)+1).toNat=i+1 by omega,e1,XaH (by omega),Option.bind_some]
  simp only [Option.bind_some]
  rw [Xdb (n:=(s[i+1].toNat:Int)) (by omega) (by omega)]
  by_cases h3:s[i+1].toNat<2
  ·refine .inl ?_
   rw [XaZ (by omega),if_pos h3];rfl
  rw [XaR (by omega),if_neg h3,Xdb (n:=(s.length:Int) - i) (by omega) (by omega)]
  by_cases h4:s.length - i<s[i+1].toNat
  ·refine .inl ?_
   rw [XaZ (by omega),if_pos h4];rfl
  refine .inr ⟨(((i+s[i+1].toNat:Nat):Int),out++[⟨(s[i].toNat:Int),(s.drop (i+2)).take (s[i+1].toNat - 2)⟩]),?_,⟨by simp only;omega,by simp only;omega,by simp;omega⟩,by simp only;omega,?_⟩
  ·have b0:=s[i].toNat_lt
   rw [XaR (by omega),XaH (by omega),Xdb (n:=(i:Int)+s[i+1].toNat) (by omega) (by omega),Xdb (n:=(i:Int)+2) (by omega) (by omega),Xdb (n:=(s[i].toNat:Int)) (by omega) (by omega),XaH (by omega),XaR (by omega),XaH (by omega),show ((i:Int)+s[i+1].toNat).toNat - ((i:Int)+2).toNat=s[i+1].toNat - 2 by omega,show ((i:Int)+2).toNat=i+2 by omega];rfl
  ·rw [if_neg h4]
   simp only [Int.toNat_natCast]
   rw [show s.length - (i+s[i+1].toNat)=n+1 - s[i+1].toNat by omega]
   have:=XxJ s (n+1 - s[i+1].toNat) (i+s[i+1].toNat) ((out++[(⟨(s[i].toNat:Int),(s.drop (i+2)).take (s[i+1].toNat - 2)⟩:Xdd)]).map XmD) (out.map XmD++[(⟨(s[i].toNat:Int),(s.drop (i+2)).take (s[i+1].toNat - 2),((i+2:Nat):Int)⟩:Xxp)]) (by simp [strip,XmD])
   rw [this.1,this.2]
 ·refine .inl ?_
  rw [XaR (by omega),show s.length - i=0 by omega,Xhz,Xwz]
end Go.Vm.Code
namespace Go.Vm.Code
open Go Go.Vm Go.Proofs
set_option maxRecDepth 100000
set_option maxHeartbeats 4000000
set_option linter.unusedVariables false
def Xj9 (XaX:Xb9) (Xaa:XaN) (Xaf:XaB) (s:List UInt8) (size:Int):Option XbO:=
 (XaX s).bind fun n=>
 (Xaa n 2).bind fun n1=>
 (Xaa n1.2 2).bind fun n2=>
 (Xaa n2.2 4).bind fun n3=>
 (Xaa n3.2 4).bind fun n4=>
 (Xaa n4.2 2).bind fun n5=>
 (Xaa n5.2 2).bind fun n6=>
 (Xaa n6.2 2).bind fun n7=>
 (Xaa n7.2 2).bind fun n8=>
 (Xaf n8.2 (wI .i64 (size - 20))).bind fun t=>
 some (XbO.mk n1.1 n2.1 (wI .u32 n3.1) (wI .u32 n4.1) (XnF .i64 n5.1 255) n6.1 n8.1 t.1)
def XD1 (x:XbO):Xc2:=⟨.agg ⟨[.int .i64 x.SPort,.int .i64 x.DPort,.int .u32 x.Seq,.int .u32 x.Ack,.int .i64 x.Flags,.int .i64 x.Window,.int .i64 x.Urgent,.string ⟨⟨x.Options⟩⟩]⟩,[],[]⟩
abbrev Xe8:=(List UInt8)→Int→Option XbO
def r132 (g:Xe8):Dec:=dV asS fun (y0:List UInt8)=>dV (asI .i64) fun (y1:Int)=>XdT (ofG (g y0 y1) XD1)
theorem XQj {g:Xe8} {y0:List UInt8} {y1:Int} {x:XbO} (hx:g y0 y1=some x):r132 g [.string ⟨⟨y0⟩⟩,.int .i64 y1] []=some (XD1 x):=(Xbb (Xds)).trans ((Xbb (Xdr _)).trans (Xa7 hx))
def s132 (g:Xe8):XbS:=⟨[.v,.v],r132 g⟩
theorem XI2 {g:Xe8} {y0:List UInt8} {y1:Int} {x:XbO} (hx:g y0 y1=some x):(s132 g).run [.string ⟨⟨y0⟩⟩,.int .i64 y1] []=some (XD1 x):=XQj hx
abbrev XIu (XaX:Xb9) (Xaa:XaN) (Xaf:XaB):List (Nat×XbS):=[(51,s51 XaX),(52,s52 Xaa),(86,s86 Xaf)]
theorem XBB (XaX:Xb9) (Xaa:XaN) (Xaf:XaB) (hS:Xaq Tryz.prog (XaL (XIu XaX Xaa Xaf))) (s:List UInt8) (size:Int) (res:XbO) (h:Xj9 XaX Xaa Xaf s size=some res) :
 XaM Tryz.prog 132 0 ⟨⟨132,38,[(0,.string ⟨⟨s⟩⟩),(1,.int .i64 size)],[.code Xyn],[],false,none⟩,[],[],0⟩ (fun v H _=>Res 0 (XD1 res) v H):=by
 unfold Xj9 at h
 have R1:=@XrI XaX
 have R2:=@Xls Xaa
 have R3:=@XoN Xaf
 refine Xbp XaP hS true 3000 ?_
 conv=>whnf
 exact W
def XeO:Xe8:=Xj9 XaX Xaa Xaf
theorem XIt:Xb8 Tryz.prog 132 (s132 XeO):=by
 have hL:=XBB XaX Xaa Xaf (Xaq.XaY ⟨XrG,XpP,XoS,trivial⟩)
 exact okA ⟨Tryz.f132,rfl,by decide,rfl⟩
def Xpj (XaW:Xco) (XbY:XcQ) (Xdx:Xeu) (XeO:Xe8) (s:List UInt8) (src:Xae) (dst:Xae):Option (XbO×(List UInt8)×Int):=
 cond (decide ((s.length:Int)<20))
  (
  some ((XbO.mk 0 0 0 0 0 0 0 [],[],2)))
  (
  (s[12]?).bind fun (b:UInt8)=>
  (s[12]?).bind fun (b1:UInt8)=>
  let t:=wI .i64 (4*(wI .i64 ((b.toNat:Int).fdiv (2^4))))
  cond (decide (t<20))
   (
   some ((XbO.mk 0 0 0 0 0 0 0 [],[],3)))
   (
   cond ((XnF .u8 (b1.toNat:Int) 15) !=0)
    (
    some ((XbO.mk 0 0 0 0 0 0 0 [],[],3)))
    (
    cond (decide (t>(s.length:Int)))
     (
     some ((XbO.mk 0 0 0 0 0 0 0 [],[],2)))
     (
     (XbY src dst 6 (s.length:Int)).bind fun p=>
     cond (p==[])
      (
      some ((XbO.mk 0 0 0 0 0 0 0 [],[],1)))
      (
      Xbr (decide (p.length+s.length<2^63)) <|
      (XaW (p++s)).bind fun xr=>
      cond (!xr)
       (
       some ((XbO.mk 0 0 0 0 0 0 0 [],[],4)))
       (
       (XeO s t).bind fun p1=>
       (Xdx p1.Options).bind fun l=>
       cond (l.2 !=0)
        (
        some ((XbO.mk 0 0 0 0 0 0 0 [],[],l.2)))
        (
        Xbr (decide ((0:Int)≤t∧t≤(s.length:Int))) <|
        let t1:=(s.drop t.toNat).take (s.length - t.toNat)
        some ((p1,t1,0)))))))))
def XDN (x:XbO×(List UInt8)×Int):Xc2:=⟨.tuple ⟨[.agg ⟨[.int .i64 x.1.SPort,.int .i64 x.1.DPort,.int .u32 x.1.Seq,.int .u32 x.1.Ack,.int .i64 x.1.Flags,.int .i64 x.1.Window,.int .i64 x.1.Urgent,.string ⟨⟨x.1.Options⟩⟩]⟩,.string ⟨⟨x.2.1⟩⟩,.int .i64 x.2.2]⟩,[],[]⟩
abbrev Xha:=(List UInt8)→Xae→Xae→Option (XbO×(List UInt8)×Int)
def r117 (g:Xha):Dec:=dV asS fun (y0:List UInt8)=>dV Xde fun (y1:Xae)=>dV Xde fun (y2:Xae)=>XdT (ofG (g y0 y1 y2) XDN)
theorem XQT {g:Xha} {y0:List UInt8} {y1:Xae} {y2:Xae} {x:XbO×(List UInt8)×Int} (hx:g y0 y1 y2=some x):r117 g [.string ⟨⟨y0⟩⟩,.agg ⟨[.bool y1.V6,.int .u64 y1.Hi,.int .u64 y1.Lo]⟩,.agg ⟨[.bool y2.V6,.int .u64 y2.Hi,.int .u64 y2.Lo]⟩] []=some (XDN x):=(Xbb (Xds)).trans ((Xbb (XcV _)).trans ((Xbb (XcV _)).trans (Xa7 hx)))
def s117 (g:Xha):XbS:=⟨[.v,.v,.v],r117 g⟩
theorem XL0 {g:Xha} {y0:List UInt8} {y1:Xae} {y2:Xae} {x:XbO×(List UInt8)×Int} (hx:g y0 y1 y2=some x):(s117 g).run [.string ⟨⟨y0⟩⟩,.agg ⟨[.bool y1.V6,.int .u64 y1.Hi,.int .u64 y1.Lo]⟩,.agg ⟨[.bool y2.V6,.int .u64 y2.Hi,.int .u64 y2.Lo]⟩] []=some (XDN x):=XQT hx
abbrev XJb (XaW:Xco) (XbY:XcQ) (Xdx:Xeu) (XeO:Xe8):List (Nat×XbS):=[(54,s54 XaW),(131,s131 XbY),(119,s119 Xdx),(132,s132 XeO)]
theorem XEP (XaW:Xco) (XbY:XcQ) (Xdx:Xeu) (XeO:Xe8) (hS:Xaq Tryz.prog (XaL (XJb XaW XbY Xdx XeO))) (s:List UInt8) (src:Xae) (dst:Xae) (res:XbO×(List UInt8)×Int) (h:Xpj XaW XbY Xdx XeO s src dst=some res) :
 XaM Tryz.prog 117 0 ⟨⟨117,76,[(0,.string ⟨⟨s⟩⟩),(1,.agg ⟨[.bool src.V6,.int .u64 src.Hi,.int .u64 src.Lo]⟩),(2,.agg ⟨[.bool dst.V6,.int .u64 dst.Hi,.int .u64 dst.Lo]⟩)],[.code Xzd],[],false,none⟩,[],[],0⟩ (fun v H _=>Res 0 (XDN res) v H):=by
 unfold Xpj at h
 have R1:=@XyM XbY
 have R2:=@XwV XaW
 have R3:=@XI2 XeO
 have R4:=@Xy5 Xdx
 refine Xbp XaP hS true 3000 ?_
 conv=>whnf
 exact W
def Xif:Xha:=Xpj XaW XbY Xdx XeO
theorem XMy:Xb8 Tryz.prog 117 (s117 Xif):=by
 have hL:=XEP XaW XbY Xdx XeO (Xaq.XaY ⟨XvQ,Xx1,XyO,XIt,trivial⟩)
 exact okA ⟨Tryz.f117,rfl,by decide,rfl⟩
def Xpk (Xao:Xa9) (XcC:XdD) (XcM:XdR) (Xdy:Xex) (s:List UInt8) (src:Xae) (dst:Xae):Option (XbO×(List UInt8)×Int):=
 cond (decide ((s.length:Int)<20))
  (
  some ((XbO.mk 0 0 0 0 0 0 0 [],[],2)))
  (
  (s[12]?).bind fun (b:UInt8)=>
  let t:=wI .i64 (wI .u8 ((b.toNat:Int).tdiv 16))
  cond (decide ((wI .i64 (4*t))<20))
   (
   some ((XbO.mk 0 0 0 0 0 0 0 [],[],3)))
   (
   (s[12]?).bind fun (b1:UInt8)=>
   cond (((b1.toNat:Int).tmod 16) !=0)
    (
    some ((XbO.mk 0 0 0 0 0 0 0 [],[],3)))
    (
    let t1:=decide ((s.length:Int)<(wI .i64 (4*t)))
    cond (t1)
     (
     some ((XbO.mk 0 0 0 0 0 0 0 [],[],2)))
     (
     (XcM src dst 6 (s.length:Int)).bind fun p=>
     cond (p==[])
      (
      some ((XbO.mk 0 0 0 0 0 0 0 [],[],1)))
      (
      Xbr (decide (p.length+s.length<2^63)) <|
      (XcC (p++s)).bind fun s1=>
      cond (s1 !=65535)
       (
       some ((XbO.mk 0 0 0 0 0 0 0 [],[],4)))
       (
       Xbr (decide ((0:Int)≤(wI .i64 (4*t))∧(wI .i64 (4*t))≤(s.length:Int)∧(0:Int)≤(20:Int)∧(20:Int)≤((wI .i64 (4*t)).toNat:Int))) <|
       let t2:=(s.drop 20).take ((wI .i64 (4*t)).toNat - 20)
       (Xdy t2).bind fun l=>
       cond (l.2 !=0)
        (
        some ((XbO.mk 0 0 0 0 0 0 0 [],[],l.2)))
        (
        (Xao s 0 2).bind fun m=>
        (Xao s 2 2).bind fun m1=>
        (Xao s 4 4).bind fun m2=>
        (Xao s 8 4).bind fun m3=>
        (s[13]?).bind fun (b2:UInt8)=>
        (Xao s 14 2).bind fun m4=>
        (Xao s 18 2).bind fun m5=>
        Xbr (decide ((0:Int)≤(wI .i64 (4*t))∧(wI .i64 (4*t))≤(s.length:Int)∧(0:Int)≤(20:Int)∧(20:Int)≤((wI .i64 (4*t)).toNat:Int))) <|
        let t3:=(s.drop 20).take ((wI .i64 (4*t)).toNat - 20)
        Xbr (decide ((0:Int)≤(wI .i64 (4*t))∧(wI .i64 (4*t))≤(s.length:Int))) <|
        let t4:=(s.drop (wI .i64 (4*t)).toNat).take (s.length - (wI .i64 (4*t)).toNat)
        some ((XbO.mk m m1 (wI .u32 m2) (wI .u32 m3) (wI .i64 (b2.toNat:Int)) m4 m5 t3,t4,0)))))))))
def rx82 (x:XbO×(List UInt8)×Int):Xc2:=⟨.tuple ⟨[.agg ⟨[.int .i64 x.1.SPort,.int .i64 x.1.DPort,.int .u32 x.1.Seq,.int .u32 x.1.Ack,.int .i64 x.1.Flags,.int .i64 x.1.Window,.int .i64 x.1.Urgent,.string ⟨⟨x.1.Options⟩⟩]⟩,.string ⟨⟨x.2.1⟩⟩,.int .i64 x.2.2]⟩,[],[]⟩
abbrev Xhu:=(List UInt8)→Xae→Xae→Option (XbO×(List UInt8)×Int)
def r82 (g:Xhu):Dec:=dV asS fun (y0:List UInt8)=>dV Xde fun (y1:Xae)=>dV Xde fun (y2:Xae)=>XdT (ofG (g y0 y1 y2) rx82)
theorem r82_c {g:Xhu} {y0:List UInt8} {y1:Xae} {y2:Xae} {x:XbO×(List UInt8)×Int} (hx:g y0 y1 y2=some x):r82 g [.string ⟨⟨y0⟩⟩,.agg ⟨[.bool y1.V6,.int .u64 y1.Hi,.int .u64 y1.Lo]⟩,.agg ⟨[.bool y2.V6,.int .u64 y2.Hi,.int .u64 y2.Lo]⟩] []=some (rx82 x):=(Xbb (Xds)).trans ((Xbb (XcV _)).trans ((Xbb (XcV _)).trans (Xa7 hx)))
def s82 (g:Xhu):XbS:=⟨[.v,.v,.v],r82 g⟩
theorem XNI {g:Xhu} {y0:List UInt8} {y1:Xae} {y2:Xae} {x:XbO×(List UInt8)×Int} (hx:g y0 y1 y2=some x):(s82 g).run [.string ⟨⟨y0⟩⟩,.agg ⟨[.bool y1.V6,.int .u64 y1.Hi,.int .u64 y1.Lo]⟩,.agg ⟨[.bool y2.V6,.int .u64 y2.Hi,.int .u64 y2.Lo]⟩] []=some (rx82 x):=r82_c hx
abbrev XR2 (Xao:Xa9) (XcC:XdD) (XcM:XdR) (Xdy:Xex):List (Nat×XbS):=[(62,s62 Xao),(60,s60 XcC),(77,s77 XcM),(112,s112 Xdy)]
theorem XIQ (Xao:Xa9) (XcC:XdD) (XcM:XdR) (Xdy:Xex) (hS:Xaq Tryz.prog (XaL (XR2 Xao XcC XcM Xdy))) (s:List UInt8) (src:Xae) (dst:Xae) (res:XbO×(List UInt8)×Int) (h:Xpk Xao XcC XcM Xdy s src dst=some res) :
 XaM Tryz.prog 82 0 ⟨⟨82,85,[(0,.string ⟨⟨s⟩⟩),(1,.agg ⟨[.bool src.V6,.int .u64 src.Hi,.int .u64 src.Lo]⟩),(2,.agg ⟨[.bool dst.V6,.int .u64 dst.Hi,.int .u64 dst.Lo]⟩)],[.code XGq],[],false,none⟩,[],[],0⟩ (fun v H _=>Res 0 (rx82 res) v H):=by
 unfold Xpk at h
 have R1:=@XGH XcM
 have R2:=@Xwh XcC
 have R3:=@XzB Xdy
 have R4:=@Xi8 Xao
 refine Xbp XaP hS true 3000 ?_
 conv=>whnf
 exact W
def Xh7:Xhu:=Xpk Xao XcC XcM Xdy
theorem XSq:Xb8 Tryz.prog 82 (s82 Xh7):=by
 have hL:=XIQ Xao XcC XcM Xdy (Xaq.XaY ⟨Xl6,Xv6,XHH,Xzi,trivial⟩)
 exact okA ⟨Tryz.f82,rfl,by decide,rfl⟩
end Go.Vm.Code
namespace Go.Vm.Code
open Go Go.Vm
def XqP:XbO:=⟨0,0,0,0,0,0,0,[]⟩
def Xhy (s:List UInt8) (src dst:Xae):XbO×List UInt8×Int:=
 if s.length<20 then (XqP,[],2) else if 4*(vK s 12 1/16)<20 then (XqP,[],3) else if vK s 12 1%16≠0 then (XqP,[],3) else if (s.length:Int)<4*(vK s 12 1/16) then (XqP,[],2) else
  if Xog src dst 6 s.length=[] then (XqP,[],1) else if norm (Xez (Xog src dst 6 s.length++s))≠65535 then (XqP,[],4) else
   if (Xlk ((s.drop 20).take ((4*(vK s 12 1/16)).toNat - 20))).2≠0 then (XqP,[],(Xlk ((s.drop 20).take ((4*(vK s 12 1/16)).toNat - 20))).2) else
   (⟨vK s 0 2,vK s 2 2,vK s 4 4,vK s 8 4,vK s 13 1,vK s 14 2,vK s 18 2,(s.drop 20).take ((4*(vK s 12 1/16)).toNat - 20)⟩,s.drop (4*(vK s 12 1/16)).toNat,0)
theorem Xxu {s:List UInt8} {n:Nat} (hs:s.length<2^38) (h20:20≤n) (hn:n≤s.length):XeO s (n:Int)=some ⟨vK s 0 2,vK s 2 2,vK s 4 4,vK s 8 4,vK s 13 1,vK s 14 2,vK s 18 2,(s.drop 20).take (n - 20)⟩:=by
 unfold XeO Xj9
 have N:∀ (p k:Nat),1≤k→k≤7→p+k≤20→Xaa ⟨s.drop p,true,false⟩ (k:Int)=some (vK s p k,⟨s.drop (p+k),true,false⟩):=fun p k a b c=>XHD a b (by omega) (by omega)
 have N0:Xaa ⟨s,true,false⟩ 2=some (vK s 0 2,⟨s.drop 2,true,false⟩):=N 0 2 (by omega) (by omega) (by omega)
 have N2:Xaa ⟨s.drop 2,true,false⟩ 2=some (vK s 2 2,⟨s.drop 4,true,false⟩):=N 2 2 (by omega) (by omega) (by omega)
 have N4:Xaa ⟨s.drop 4,true,false⟩ 4=some (vK s 4 4,⟨s.drop 8,true,false⟩):=N 4 4 (by omega) (by omega) (by omega)
 have N8:Xaa ⟨s.drop 8,true,false⟩ 4=some (vK s 8 4,⟨s.drop 12,true,false⟩):=N 8 4 (by omega) (by omega) (by omega)
 have N12:Xaa ⟨s.drop 12,true,false⟩ 2=some (vK s 12 2,⟨s.drop 14,true,false⟩):=N 12 2 (by omega) (by omega) (by omega)
 have N14:Xaa ⟨s.drop 14,true,false⟩ 2=some (vK s 14 2,⟨s.drop 16,true,false⟩):=N 14 2 (by omega) (by omega) (by omega)
 have N16:Xaa ⟨s.drop 16,true,false⟩ 2=some (vK s 16 2,⟨s.drop 18,true,false⟩):=N 16 2 (by omega) (by omega) (by omega)
 have N18:Xaa ⟨s.drop 18,true,false⟩ 2=some (vK s 18 2,⟨s.drop 20,true,false⟩):=N 18 2 (by omega) (by omega) (by omega)
 have r4:=Xfz s 4 4 4294967296 (by decide)
 have r8:=Xfz s 8 4 4294967296 (by decide)
 have r12:=Xfz s 12 2 65536 (by decide)
 rw [Xmo,Option.bind_some,N0,Option.bind_some]
 simp only []
 rw [N2,Option.bind_some]
 simp only []
 rw [N4,Option.bind_some]
 simp only []
 rw [N8,Option.bind_some]
 simp only []
 rw [N12,Option.bind_some]
 simp only []
 rw [N14,Option.bind_some]
 simp only []
 rw [N16,Option.bind_some]
 simp only []
 rw [N18,Option.bind_some]
 simp only []
 rw [Xdb (n:=(n:Int) - 20) (by omega) (by omega),show (n:Int) - 20=((n - 20:Nat):Int) by omega,Xsg (by omega),Option.bind_some,Xrz r4.1 r4.2,Xrz r8.1 r8.2,Xi7 8 (by decide) (by omega) (by omega) (by omega)]
 have e12:vK s 12 2=(s[12].toNat*256+s[13].toNat:Int):=Xzj (s:=s) (p:=12) (by omega)
 have e13:=Xk9 (s:=s) (p:=13) (by omega)
 have b13:=s[13].toNat_lt
 rw [show vK s 12 2%2^8=vK s 13 1 by rw [e12,e13];omega]
theorem and15:∀ x:Fin 256,XnF .u8 ((x.val:Nat):Int) 15=((x.val:Nat):Int)%16:=by decide +kernel
theorem XEn {s:List UInt8} {src dst:Xae} (h1:A4 src) (h2:A4 dst) (hs:s.length<2^19):Xif s src dst=some (Xhy s src dst):=by
 unfold Xif Xpj Xhy
 have hz:(⟨0,0,0,0,0,0,0,[]⟩:XbO)=XqP:=rfl
 rw [hz]
 by_cases h0:s.length<20
 ·rw [XaZ (by omega),if_pos h0]
 rw [XaR (by omega),if_neg h0,List.getElem?_eq_getElem (show 12<s.length by omega)]
 have e12:=Xk9 (s:=s) (p:=12) (by omega)
 have r12:=Xfz s 12 1 256 (by decide)
 have hb:=s[12].toNat_lt
 simp only [Option.bind_some]
 rw [←e12,XtY,show ((2:Int)^4)=16 from rfl,Xdb (n:=vK s 12 1/16) (by omega) (by omega),Xdb (n:=4*(vK s 12 1/16)) (by omega) (by omega)]
 have ea:XnF .u8 (vK s 12 1) 15=vK s 12 1%16:=by
  rw [e12];exact and15 ⟨s[12].toNat,hb⟩
 rw [ea]
 obtain ⟨t,ht⟩:=Int.eq_ofNat_of_zero_le (show 0≤4*(vK s 12 1/16) by omega)
 rw [ht]
 simp only [Int.toNat_natCast]
 by_cases g2:(t:Int)<20
 ·rw [XaZ g2,if_pos g2]
 rw [XaR g2,if_neg g2]
 by_cases g3:vK s 12 1%16=0
 ·rw [show (vK s 12 1%16 !=0)=false by simpa using g3,cond_false,if_neg (by simpa using g3)]
  by_cases g4:(s.length:Int)<t
  ·rw [XaZ (by omega),if_pos g4]
  rw [XaR (by omega),if_neg g4,XsW h1 h2 (by omega) (by omega),Option.bind_some]
  have hp:=Xo6 src dst 6 (s.length:Int)
  generalize Xog src dst 6 (s.length:Int)=p at *
  by_cases e3:p=[]
  ·subst e3;rfl
  rw [show (p==[])=false by simpa using e3,cond_false,if_neg e3,XaH (by omega),Xpo (by simp only [List.length_append];omega),Option.bind_some]
  by_cases g5:norm (Xez (p++s))=65535
  ·rw [if_neg (by simpa using g5),g5,show ((((65535:Nat):Int)==65535))=true from rfl,Bool.not_true,cond_false,Xxu (by omega) (by omega) (by omega),Option.bind_some,XR4 (by simp;omega),Option.bind_some]
   by_cases g6:(Xlk ((s.drop 20).take (t - 20))).2=0
   ·rw [if_neg (by simpa using g6)]
    simp only [g6,bne_self_eq_false,cond_false]
    rw [XaH (by omega),List.take_of_length_le (i:=s.length - t) (by simp)]
   ·rw [if_pos (by simpa using g6),show ((Xlk ((s.drop 20).take (t - 20))).2 !=0)=true by simpa using g6];rfl
  ·rw [if_pos (by simpa using g5),show ((((norm (Xez (p++s)):Nat):Int)==65535))=false by simp;omega];rfl
 ·rw [show (vK s 12 1%16 !=0)=true by simpa using g3,cond_true,if_pos (by simpa using g3)]
theorem XDJ {s:List UInt8} {src dst:Xae} (h1:A4 src) (h2:A4 dst) (hs:s.length<2^19):Xh7 s src dst=some (Xhy s src dst):=by
 unfold Xh7 Xpk Xhy
 have hz:(⟨0,0,0,0,0,0,0,[]⟩:XbO)=XqP:=rfl
 rw [hz]
 by_cases h0:s.length<20
 ·rw [XaZ (by omega),if_pos h0]
 rw [XaR (by omega),if_neg h0,List.getElem?_eq_getElem (show 12<s.length by omega),List.getElem?_eq_getElem (show 13<s.length by omega)]
 have e12:=Xk9 (s:=s) (p:=12) (by omega)
 have e13:=Xk9 (s:=s) (p:=13) (by omega)
 have r12:=Xfz s 12 1 256 (by decide)
 have r13:=Xfz s 13 1 256 (by decide)
 have r4:=Xfz s 4 4 4294967296 (by decide)
 have r8:=Xfz s 8 4 4294967296 (by decide)
 simp only [Option.bind_some]
 rw [←e12,←e13,Int.tmod_eq_emod_of_nonneg r12.1,Int.tdiv_eq_ediv_of_nonneg r12.1,wU8 (n:=vK s 12 1/16) (by omega) (by omega),Xdb (n:=vK s 12 1/16) (by omega) (by omega),Xdb (n:=4*(vK s 12 1/16)) (by omega) (by omega),Xdb (n:=vK s 13 1) (by omega) (by omega)]
 obtain ⟨t,ht⟩:=Int.eq_ofNat_of_zero_le (show 0≤4*(vK s 12 1/16) by omega)
 rw [ht]
 simp only [Int.toNat_natCast]
 by_cases g2:(t:Int)<20
 ·rw [XaZ g2,if_pos g2]
 rw [XaR g2,if_neg g2]
 by_cases g3:vK s 12 1%16=0
 ·rw [show (vK s 12 1%16 !=0)=false by simpa using g3,cond_false,if_neg (by simpa using g3)]
  by_cases g4:(s.length:Int)<t
  ·rw [XaZ (by omega),if_pos g4]
  rw [XaR (by omega),if_neg g4,Xry h1 h2 (by omega) (by omega),Option.bind_some]
  have hp:=Xo6 src dst 6 (s.length:Int)
  generalize Xog src dst 6 (s.length:Int)=p at *
  by_cases e3:p=[]
  ·subst e3;rfl
  rw [show (p==[])=false by simpa using e3,cond_false,if_neg e3,XaH (by omega),XlI (by simp only [List.length_append];omega),Option.bind_some]
  by_cases g5:norm (Xez (p++s))=65535
  ·rw [if_neg (by simpa using g5),g5,show ((((65535:Nat):Int) !=65535))=false from rfl,cond_false,XaH (by omega),XQl (by simp;omega),Option.bind_some]
   by_cases g6:(Xlk ((s.drop 20).take (t - 20))).2=0
   ·rw [if_neg (by simpa using g6)]
    simp only [g6,bne_self_eq_false,cond_false]
    have M:∀ (p k:Nat),1≤k→k≤7→p+k≤20→Xao s (p:Int) (k:Int)=some (vK s p k):=fun p k a b c=>Xsy (by omega) a b (by omega)
    have M0:Xao s 0 2=some (vK s 0 2):=M 0 2 (by omega) (by omega) (by omega)
    have M2:Xao s 2 2=some (vK s 2 2):=M 2 2 (by omega) (by omega) (by omega)
    have M4:Xao s 4 4=some (vK s 4 4):=M 4 4 (by omega) (by omega) (by omega)
    have M8:Xao s 8 4=some (vK s 8 4):=M 8 4 (by omega) (by omega) (by omega)
    have M14:Xao s 14 2=some (vK s 14 2):=M 14 2 (by omega) (by omega) (by omega)
    have M18:Xao s 18 2=some (vK s 18 2):=M 18 2 (by omega) (by omega) (by omega)
    rw [M0,M2,M4,M8,M14,M18]
    simp only [Option.bind_some]
    rw [XaH (by omega),XaH (by omega),List.take_of_length_le (i:=s.length - t) (by simp),Xrz r4.1 r4.2,Xrz r8.1 r8.2]
   ·rw [if_pos (by simpa using g6),show ((Xlk ((s.drop 20).take (t - 20))).2 !=0)=true by simpa using g6];rfl
  ·rw [if_pos (by simpa using g5),show ((((norm (Xez (p++s)):Nat):Int) !=65535))=true by simp;omega];rfl
 ·rw [show (vK s 12 1%16 !=0)=true by simpa using g3,cond_true,if_pos (by simpa using g3)]
theorem Xgt (r:Xam) (k:Int):(rdr r k).s.length≤r.s.length:=by unfold rdr;split<;>simp
def b1 (s:List UInt8) (i:Nat):Nat:=Xed ((s.drop i).take 1)
theorem XtW {s:List UInt8} {i:Nat} (h:i<s.length):b1 s i=s[i].toNat:=by
 unfold b1
 rw [List.drop_eq_getElem_cons h]
 show Xed [s[i]]=_
 rw [Xgs];simp
theorem Xw6 (s:List UInt8) (i:Nat):b1 s i<256:=Xdk _ (by decide)
end Go.Vm.Code
namespace Go.Vm.Code
open Go Go.Vm Go.Proofs
set_option maxRecDepth 100000
set_option maxHeartbeats 4000000
set_option linter.unusedVariables false
def Xpm (XaW:Xco) (XbY:XcQ) (XaX:Xb9) (Xap:XaT) (Xaa:XaN) (s:List UInt8) (src:Xae) (dst:Xae):Option (Xb4×(List UInt8)×Int):=
 (XaX s).bind fun n=>
 (Xaa n 2).bind fun n1=>
 (Xaa n1.2 2).bind fun n2=>
 (Xaa n2.2 2).bind fun n3=>
 (Xaa n3.2 2).bind fun n4=>
 (Xap n4.2).bind fun b=>
 cond (b.1)
  (
  some ((Xb4.mk 0 0,[],2)))
  (
  cond (decide (n3.1<8))
   (
   some ((Xb4.mk 0 0,[],3)))
   (
   cond (decide (n3.1>(s.length:Int)))
    (
    some ((Xb4.mk 0 0,[],2)))
    (
    (XbY src dst 17 n3.1).bind fun p=>
    cond (p==[])
     (
     some ((Xb4.mk 0 0,[],1)))
     (
     cond (n4.1==0)
      (
      cond (src.V6)
       (
       some ((Xb4.mk 0 0,[],4)))
       (
       cond (n4.1 !=0)
        (
        Xbr (decide ((0:Int)≤n3.1∧n3.1≤(s.length:Int))) <|
        Xbr (decide (p.length+(s.take n3.1.toNat).length<2^63)) <|
        (XaW (p++(s.take n3.1.toNat))).bind fun xr=>
        cond (!xr)
         (
         some ((Xb4.mk 0 0,[],4)))
         (
         Xbr (decide ((0:Int)≤n3.1∧n3.1≤(s.length:Int)∧(0:Int)≤(8:Int)∧(8:Int)≤(n3.1.toNat:Int))) <|
         some ((Xb4.mk n1.1 n2.1,(s.drop 8).take (n3.1.toNat - 8),0))))
        (
        Xbr (decide ((0:Int)≤n3.1∧n3.1≤(s.length:Int)∧(0:Int)≤(8:Int)∧(8:Int)≤(n3.1.toNat:Int))) <|
        some ((Xb4.mk n1.1 n2.1,(s.drop 8).take (n3.1.toNat - 8),0)))))
      (
      cond (n4.1 !=0)
       (
       Xbr (decide ((0:Int)≤n3.1∧n3.1≤(s.length:Int))) <|
       Xbr (decide (p.length+(s.take n3.1.toNat).length<2^63)) <|
       (XaW (p++(s.take n3.1.toNat))).bind fun xr1=>
       cond (!xr1)
        (
        some ((Xb4.mk 0 0,[],4)))
        (
        Xbr (decide ((0:Int)≤n3.1∧n3.1≤(s.length:Int)∧(0:Int)≤(8:Int)∧(8:Int)≤(n3.1.toNat:Int))) <|
        some ((Xb4.mk n1.1 n2.1,(s.drop 8).take (n3.1.toNat - 8),0))))
       (
       Xbr (decide ((0:Int)≤n3.1∧n3.1≤(s.length:Int)∧(0:Int)≤(8:Int)∧(8:Int)≤(n3.1.toNat:Int))) <|
       some ((Xb4.mk n1.1 n2.1,(s.drop 8).take (n3.1.toNat - 8),0))))))))
def XDt (x:Xb4×(List UInt8)×Int):Xc2:=⟨.tuple ⟨[.agg ⟨[.int .i64 x.1.SPort,.int .i64 x.1.DPort]⟩,.string ⟨⟨x.2.1⟩⟩,.int .i64 x.2.2]⟩,[],[]⟩
abbrev Xhl:=(List UInt8)→Xae→Xae→Option (Xb4×(List UInt8)×Int)
def r118 (g:Xhl):Dec:=dV asS fun (y0:List UInt8)=>dV Xde fun (y1:Xae)=>dV Xde fun (y2:Xae)=>XdT (ofG (g y0 y1 y2) XDt)
theorem XOA {g:Xhl} {y0:List UInt8} {y1:Xae} {y2:Xae} {x:Xb4×(List UInt8)×Int} (hx:g y0 y1 y2=some x):r118 g [.string ⟨⟨y0⟩⟩,.agg ⟨[.bool y1.V6,.int .u64 y1.Hi,.int .u64 y1.Lo]⟩,.agg ⟨[.bool y2.V6,.int .u64 y2.Hi,.int .u64 y2.Lo]⟩] []=some (XDt x):=(Xbb (Xds)).trans ((Xbb (XcV _)).trans ((Xbb (XcV _)).trans (Xa7 hx)))
def s118 (g:Xhl):XbS:=⟨[.v,.v,.v],r118 g⟩
theorem XIY {g:Xhl} {y0:List UInt8} {y1:Xae} {y2:Xae} {x:Xb4×(List UInt8)×Int} (hx:g y0 y1 y2=some x):(s118 g).run [.string ⟨⟨y0⟩⟩,.agg ⟨[.bool y1.V6,.int .u64 y1.Hi,.int .u64 y1.Lo]⟩,.agg ⟨[.bool y2.V6,.int .u64 y2.Hi,.int .u64 y2.Lo]⟩] []=some (XDt x):=XOA hx
abbrev XJf (XaW:Xco) (XbY:XcQ) (XaX:Xb9) (Xap:XaT) (Xaa:XaN):List (Nat×XbS):=[(54,s54 XaW),(131,s131 XbY),(51,s51 XaX),(95,s95 Xap),(52,s52 Xaa)]
theorem XDl (XaW:Xco) (XbY:XcQ) (XaX:Xb9) (Xap:XaT) (Xaa:XaN) (hS:Xaq Tryz.prog (XaL (XJf XaW XbY XaX Xap Xaa))) (s:List UInt8) (src:Xae) (dst:Xae) (res:Xb4×(List UInt8)×Int) (h:Xpm XaW XbY XaX Xap Xaa s src dst=some res) :
 XaM Tryz.prog 118 0 ⟨⟨118,70,[(0,.string ⟨⟨s⟩⟩),(1,.agg ⟨[.bool src.V6,.int .u64 src.Hi,.int .u64 src.Lo]⟩),(2,.agg ⟨[.bool dst.V6,.int .u64 dst.Hi,.int .u64 dst.Lo]⟩)],[.code XzJ],[],false,none⟩,[],[],0⟩ (fun v H _=>Res 0 (XDt res) v H):=by
 unfold Xpm at h
 have R1:=@XwV XaW
 refine Xbp XaP hS true 3000 ?_
 conv=>whnf
 replace h:=Xcm.elim h;obtain ⟨n,hy,h⟩:=h
 refine XeC.a (XrI hy) ?_
 conv=>whnf
 replace h:=Xcm.elim h;obtain ⟨n1,hy,h⟩:=h
 refine XeC.a (Xls hy) ?_
 conv=>whnf
 replace h:=Xcm.elim h;obtain ⟨n2,hy,h⟩:=h
 refine XeC.a (Xls hy) ?_
 conv=>whnf
 replace h:=Xcm.elim h;obtain ⟨n3,hy,h⟩:=h
 refine XeC.a (Xls hy) ?_
 conv=>whnf
 replace h:=Xcm.elim h;obtain ⟨n4,hy,h⟩:=h
 refine XeC.a (Xls hy) ?_
 conv=>whnf
 replace h:=Xcm.elim h;obtain ⟨b,hy,h⟩:=h
 refine XeC.a (Xqd hy) ?_
 conv=>whnf
 refine br.h h (by rfl) ?_ ?_
 ·clear h;intro hb h;conv=>whnf
  exact W
 clear h;intro hb h;conv=>whnf
 refine br.h h (by rfl) ?_ ?_
 ·clear h;intro hb h;conv=>whnf
  exact W
 clear h;intro hb h;conv=>whnf
 refine br.h h (by rfl) ?_ ?_
 ·clear h;intro hb h;conv=>whnf
  exact W
 clear h;intro hb h;conv=>whnf
 replace h:=Xcm.elim h;obtain ⟨p,hy,h⟩:=h
 refine XeC.a (XyM hy) ?_
 conv=>whnf
 refine br.h h (by rfl) ?_ ?_
 ·clear h;intro hb h;conv=>whnf
  exact W
 clear h;intro hb h;conv=>whnf
 refine br.h2 h (by rfl) ?_ ?_
 ·clear h;intro hb h;conv=>whnf
  exact W
 clear h;intro hb h;conv=>whnf
 refine br.h h (by rfl) ?_ ?_
 ·clear h;intro hb h;conv=>whnf
  refine br.pos ?_ ?_;(focus (clear h;first|assumption|(simp_all;done)))
  conv=>whnf
  exact W
 clear h;intro hb h;conv=>whnf
 exact W
def XhU:Xhl:=Xpm XaW XbY XaX Xap Xaa
theorem XJi:Xb8 Tryz.prog 118 (s118 XhU):=by
 have hL:=XDl XaW XbY XaX Xap Xaa (Xaq.XaY ⟨XvQ,Xx1,XrG,Xrw,XpP,trivial⟩)
 exact okA ⟨Tryz.f118,rfl,by decide,rfl⟩
def XoZ (Xao:Xa9) (XcC:XdD) (XcM:XdR) (s:List UInt8) (src:Xae) (dst:Xae):Option (Xb4×(List UInt8)×Int):=
 cond (decide ((s.length:Int)<8))
  (
  some ((Xb4.mk 0 0,[],2)))
  (
  (Xao s 4 2).bind fun m=>
  cond (decide (m<8))
   (
   some ((Xb4.mk 0 0,[],3)))
   (
   cond (decide ((s.length:Int)<m))
    (
    some ((Xb4.mk 0 0,[],2)))
    (
    (XcM src dst 17 m).bind fun p=>
    cond (p==[])
     (
     some ((Xb4.mk 0 0,[],1)))
     (
     (Xao s 6 2).bind fun m1=>
     cond (m1==0)
      (
      cond (src.V6)
       (
       some ((Xb4.mk 0 0,[],4)))
       (
       (Xao s 0 2).bind fun m2=>
       (Xao s 2 2).bind fun m3=>
       Xbr (decide ((0:Int)≤m∧m≤(s.length:Int)∧(0:Int)≤(8:Int)∧(8:Int)≤(m.toNat:Int))) <|
       some ((Xb4.mk m2 m3,(s.drop 8).take (m.toNat - 8),0))))
      (
      Xbr (decide ((0:Int)≤m∧m≤(s.length:Int))) <|
      Xbr (decide (p.length+(s.take m.toNat).length<2^63)) <|
      (XcC (p++(s.take m.toNat))).bind fun s1=>
      cond (s1 !=65535)
       (
       some ((Xb4.mk 0 0,[],4)))
       (
       (Xao s 0 2).bind fun m4=>
       (Xao s 2 2).bind fun m5=>
       Xbr (decide ((0:Int)≤m∧m≤(s.length:Int)∧(0:Int)≤(8:Int)∧(8:Int)≤(m.toNat:Int))) <|
       some ((Xb4.mk m4 m5,(s.drop 8).take (m.toNat - 8),0))))))))
def rx84 (x:Xb4×(List UInt8)×Int):Xc2:=⟨.tuple ⟨[.agg ⟨[.int .i64 x.1.SPort,.int .i64 x.1.DPort]⟩,.string ⟨⟨x.2.1⟩⟩,.int .i64 x.2.2]⟩,[],[]⟩
abbrev Xht:=(List UInt8)→Xae→Xae→Option (Xb4×(List UInt8)×Int)
def r84 (g:Xht):Dec:=dV asS fun (y0:List UInt8)=>dV Xde fun (y1:Xae)=>dV Xde fun (y2:Xae)=>XdT (ofG (g y0 y1 y2) rx84)
theorem r84_c {g:Xht} {y0:List UInt8} {y1:Xae} {y2:Xae} {x:Xb4×(List UInt8)×Int} (hx:g y0 y1 y2=some x):r84 g [.string ⟨⟨y0⟩⟩,.agg ⟨[.bool y1.V6,.int .u64 y1.Hi,.int .u64 y1.Lo]⟩,.agg ⟨[.bool y2.V6,.int .u64 y2.Hi,.int .u64 y2.Lo]⟩] []=some (rx84 x):=(Xbb (Xds)).trans ((Xbb (XcV _)).trans ((Xbb (XcV _)).trans (Xa7 hx)))
def s84 (g:Xht):XbS:=⟨[.v,.v,.v],r84 g⟩
theorem XSJ {g:Xht} {y0:List UInt8} {y1:Xae} {y2:Xae} {x:Xb4×(List UInt8)×Int} (hx:g y0 y1 y2=some x):(s84 g).run [.string ⟨⟨y0⟩⟩,.agg ⟨[.bool y1.V6,.int .u64 y1.Hi,.int .u64 y1.Lo]⟩,.agg ⟨[.bool y2.V6,.int .u64 y2.Hi,.int .u64 y2.Lo]⟩] []=some (rx84 x):=r84_c hx
abbrev XQc (Xao:Xa9) (XcC:XdD) (XcM:XdR):List (Nat×XbS):=[(62,s62 Xao),(60,s60 XcC),(77,s77 XcM)]
theorem XMm (Xao:Xa9) (XcC:XdD) (XcM:XdR) (hS:Xaq Tryz.prog (XaL (XQc Xao XcC XcM))) (s:List UInt8) (src:Xae) (dst:Xae) (res:Xb4×(List UInt8)×Int) (h:XoZ Xao XcC XcM s src dst=some res) :
 XaM Tryz.prog 84 0 ⟨⟨84,54,[(0,.string ⟨⟨s⟩⟩),(1,.agg ⟨[.bool src.V6,.int .u64 src.Hi,.int .u64 src.Lo]⟩),(2,.agg ⟨[.bool dst.V6,.int .u64 dst.Hi,.int .u64 dst.Lo]⟩)],[.code XHN],[],false,none⟩,[],[],0⟩ (fun v H _=>Res 0 (rx84 res) v H):=by
 unfold XoZ at h
 have R1:=@Xi8 Xao
 have R2:=@XGH XcM
 have R3:=@Xwh XcC
 refine Xbp XaP hS true 3000 ?_
 conv=>whnf
 exact W
def XhY:Xht:=XoZ Xao XcC XcM
theorem XNZ:Xb8 Tryz.prog 84 (s84 XhY):=by
 have hL:=XMm Xao XcC XcM (Xaq.XaY ⟨Xl6,Xv6,XHH,trivial⟩)
 exact okA ⟨Tryz.f84,rfl,by decide,rfl⟩
end Go.Vm.Code
namespace Go.Vm.Code
open Go Go.Vm
def u8 (h:Xb4) (l:List UInt8):List UInt8:=XiP h.SPort 2++XiP h.DPort 2++XiP (8+l.length) 2++[0,0]++l
def v2 (s:List UInt8) (p:Nat):Int:=(Xed ((s.drop p).take 2):Nat)
theorem XmQ (s:List UInt8) (p:Nat):0≤v2 s p∧v2 s p<65536:=by
 have:=Xdk (l:=s.drop p) (k:=2) 65536 (by decide)
 unfold v2;omega
theorem XEC {s:List UInt8} {p:Nat} (hs:s.length<2^61) (h:p+2≤s.length):Xao s (p:Int) 2=some (v2 s p):=by
 rw [Xev hs,XfZ (by omega) (by omega) (by omega) (by omega)]
 have:=XmQ s p
 show some (wI .i64 (v2 s p))=_
 rw [Xdb (by omega) (by omega)]
theorem XPW {r:Xam} (h:r.made=true) (hl:r.s.length<2^61):Xaa r 2=some (rdn r 2,rdr r 2):=by
 rw [Xd6 h hl,if_neg (by omega)]
theorem XrS {s:List UInt8} (h:2≤s.length) (hl:s.length<2^61):Xaa ⟨s,true,false⟩ 2=some (v2 s 0,⟨s.drop 2,true,false⟩):=by
 rw [XPW rfl hl,XgI (by omega) (by omega)]
 unfold rdn
 rw [if_neg (by omega),XgE (by omega) (by omega)];rfl
theorem XpC (s:List UInt8) (p q:Nat):v2 (s.drop p) q=v2 s (p+q):=by unfold v2;rw [List.drop_drop]
def XtZ:Xb4:=⟨0,0⟩
def Xhw (s:List UInt8) (src dst:Xae):Xb4×List UInt8×Int:=
 if s.length<8 then (XtZ,[],2) else if v2 s 4<8 then (XtZ,[],3) else if (s.length:Int)<v2 s 4 then (XtZ,[],2) else if Xog src dst 17 (v2 s 4)=[] then (XtZ,[],1) else
  if v2 s 6=0 then (if src.V6=true then (XtZ,[],4) else (⟨v2 s 0,v2 s 2⟩,(s.drop 8).take ((v2 s 4).toNat - 8),0)) else
   if norm (Xez (Xog src dst 17 (v2 s 4)++s.take (v2 s 4).toNat))≠65535 then (XtZ,[],4) else (⟨v2 s 0,v2 s 2⟩,(s.drop 8).take ((v2 s 4).toNat - 8),0)
theorem XLt {s:List UInt8} {src dst:Xae} (h1:A4 src) (h2:A4 dst) (hs:s.length<2^38):XhU s src dst=some (Xhw s src dst):=by
 unfold XhU Xpm Xhw
 rw [Xmo,Option.bind_some]
 by_cases h8:s.length<8
 ·rw [if_pos h8]
  have m1:=Xfc ⟨s,true,false⟩ 2
  have m2:=Xfc (rdr ⟨s,true,false⟩ 2) 2
  have m3:=Xfc (rdr (rdr ⟨s,true,false⟩ 2) 2) 2
  have m4:=Xfc (rdr (rdr (rdr ⟨s,true,false⟩ 2) 2) 2) 2
  have k1:=Xgt ⟨s,true,false⟩ 2
  have k2:=Xgt (rdr ⟨s,true,false⟩ 2) 2
  have k3:=Xgt (rdr (rdr ⟨s,true,false⟩ 2) 2) 2
  simp only at k1
  rw [XPW rfl (by simp only;omega),Option.bind_some]
  rw [XPW m1 (by omega),Option.bind_some]
  rw [XPW m2 (by omega),Option.bind_some]
  rw [XPW m3 (by omega),Option.bind_some,XfW m4,Option.bind_some]
  have hb:(rdr (rdr (rdr (rdr ⟨s,true,false⟩ 2) 2) 2) 2).bad=true:=by
   cases hb:(rdr (rdr (rdr (rdr ⟨s,true,false⟩ 2) 2) 2) 2).bad
   ·exfalso
    obtain ⟨b3,l3⟩:=Xip rfl hb
    obtain ⟨b2,l2⟩:=Xip rfl b3
    obtain ⟨b1,l1⟩:=Xip rfl b2
    obtain ⟨b0,l0⟩:=Xip rfl b1
    simp only at l0
    omega
   ·rfl
  simp only [hb,cond_true];rfl
 ·rw [if_neg h8]
  rw [XrS (by omega) (by omega),Option.bind_some,XrS (by simp;omega) (by simp;omega),Option.bind_some]
  simp only [List.drop_drop]
  rw [XrS (by simp;omega) (by simp;omega),Option.bind_some]
  simp only [List.drop_drop]
  rw [XrS (by simp;omega) (by simp;omega),Option.bind_some,XfW rfl,Option.bind_some]
  simp only [cond_false,XpC,Nat.add_zero,Nat.reduceAdd]
  have r4:=XmQ s 4
  have hp:=Xo6 src dst 17 (v2 s 4)
  have hz:(⟨0,0⟩:Xb4)=XtZ:=rfl
  rw [hz]
  generalize hm:v2 s 4=m at *
  by_cases g1:m<8
  ·rw [XaZ g1,if_pos g1]
  rw [XaR g1,if_neg g1]
  by_cases g2:(s.length:Int)<m
  ·rw [XaZ (by omega),if_pos g2]
  rw [XaR (by omega),if_neg g2,XsW h1 h2 (by omega) (by omega),Option.bind_some]
  generalize Xog src dst 17 m=p at *
  by_cases g3:p=[]
  ·subst g3;rw [if_pos rfl];rfl
  rw [if_neg g3,show (p==[])=false by simpa using g3,cond_false]
  have hr:XaW (p++s.take m.toNat)=some (((norm (Xez (p++s.take m.toNat)):Nat):Int)==65535):=Xpo (by simp;omega)
  by_cases g4:v2 s 6=0
  ·rw [if_pos g4,g4]
   simp only [beq_self_eq_true,cond_true,bne_self_eq_false,cond_false]
   cases src.V6
   ·rw [if_neg (by decide),cond_false,XaH (by omega)]
   ·rw [if_pos rfl,cond_true]
  ·rw [if_neg g4,show (v2 s 6==0)=false by simpa using g4,show (v2 s 6 !=0)=true by simpa using g4]
   simp only [cond_false,cond_true]
   rw [XaH (by omega),XaH (by simp only [List.length_take];omega),hr,Option.bind_some,XaH (by omega)]
   by_cases g5:norm (Xez (p++s.take m.toNat))=65535
   ·rw [if_neg (by simpa using g5),g5];rfl
   ·rw [if_pos (by simpa using g5),show ((((norm (Xez (p++s.take m.toNat)):Nat):Int)==65535))=false by simp;omega];rfl
theorem XCG {s:List UInt8} {src dst:Xae} (h1:A4 src) (h2:A4 dst) (hs:s.length<2^38):XhY s src dst=some (Xhw s src dst):=by
 unfold XhY XoZ Xhw
 by_cases h8:s.length<8
 ·rw [if_pos h8,XaZ (by omega)];rfl
 rw [if_neg h8,XaR (by omega),show (4:Int)=((4:Nat):Int) from rfl,show (6:Int)=((6:Nat):Int) from rfl,show Xao s 0 2=Xao s ((0:Nat):Int) 2 from rfl,show Xao s 2 2=Xao s ((2:Nat):Int) 2 from rfl,XEC (by omega) (by omega),XEC (by omega) (by omega),XEC (by omega) (by omega),XEC (by omega) (by omega)]
 simp only [Option.bind_some]
 have r4:=XmQ s 4
 have hp:=Xo6 src dst 17 (v2 s 4)
 have hz:(⟨0,0⟩:Xb4)=XtZ:=rfl
 rw [hz]
 generalize hm:v2 s 4=m at *
 by_cases g1:m<8
 ·rw [XaZ g1,if_pos g1]
 rw [XaR g1,if_neg g1]
 by_cases g2:(s.length:Int)<m
 ·rw [XaZ (by omega),if_pos g2]
 rw [XaR (by omega),if_neg g2,Xry h1 h2 (by omega) (by omega),Option.bind_some]
 generalize Xog src dst 17 m=p at *
 by_cases g3:p=[]
 ·subst g3;rw [if_pos rfl];rfl
 rw [if_neg g3,show (p==[])=false by simpa using g3,cond_false]
 by_cases g4:v2 s 6=0
 ·rw [if_pos g4,g4]
  simp only [beq_self_eq_true,cond_true]
  cases src.V6
  ·rw [if_neg (by decide),cond_false,XaH (by omega)]
  ·rw [if_pos rfl,cond_true]
 ·rw [if_neg g4,show (v2 s 6==0)=false by simpa using g4]
  simp only [cond_false]
  rw [XaH (by omega),XaH (by simp only [List.length_take];omega),XlI (by simp;omega),Option.bind_some,XaH (by omega)]
  by_cases g5:norm (Xez (p++s.take m.toNat))=65535
  ·rw [if_neg (by simpa using g5),g5];rfl
  ·rw [if_pos (by simpa using g5),show ((((norm (Xez (p++s.take m.toNat)):Nat):Int) !=65535))=true by simp;omega];rfl
theorem Xxf:∀ i:Fin 16,i.val≠14→Nat.testBit 18446744073709535231 i.val=true:=by decide +kernel
theorem Xxb {x:Nat} (hx:x<65536):x &&& 18446744073709535231=0↔x=0∨x=16384:=by
 constructor
 ·intro h
  have hbit:∀ i,i≠14→x.testBit i=false:=by
   intro i hi
   by_cases h16:i<16
   ·have h1:(x &&& 18446744073709535231).testBit i=false:=by rw [h];exact Nat.zero_testBit i
    rw [Nat.testBit_and,Xxf ⟨i,h16⟩ hi,Bool.and_true] at h1
    exact h1
   ·exact Nat.testBit_lt_two_pow (Nat.lt_of_lt_of_le hx (by
     have:2^16≤2^i:=Nat.pow_le_pow_right (by decide) (by omega)
     omega))
  cases h14:x.testBit 14
  ·left
   apply Nat.eq_of_testBit_eq
   intro i
   rw [Nat.zero_testBit]
   by_cases hi:i=14
   ·rw [hi,h14]
   ·exact hbit i hi
  ·right
   apply Nat.eq_of_testBit_eq
   intro i
   rw [show (16384:Nat)=2^14 from rfl,Nat.testBit_two_pow]
   by_cases hi:i=14
   ·rw [hi,h14];rfl
   ·rw [hbit i hi,decide_eq_false (fun e=>hi e.symm)]
 ·rintro (h|h)
  ·rw [h];rfl
  ·rw [h];rfl
theorem XOL {x:Nat} (hx:x<65536):XkN .i64 (x:Int) 16384=((x &&& 18446744073709535231:Nat):Int):=by
 have h:x &&& 18446744073709535231≤x:=Nat.and_le_left
 show IntKind.wrap .i64 _=_
 rw [show IntKind.bits .i64=64 from rfl,BitVec.toNat_and,XJx (by omega),show (~~~ (BitVec.ofInt 64 16384)).toNat=18446744073709535231 from rfl]
 exact Xdb (by omega) (by omega)
theorem XBb {a b:UInt8}:(XkN .i64 ((a.toNat:Int)*256+b.toNat) 16384 !=0)=decide ((a.toNat:Int)*256+b.toNat≠0∧(a.toNat:Int)*256+b.toNat≠16384):=by
 have h1:=a.toNat_lt
 have h2:=b.toNat_lt
 have hx:a.toNat*256+b.toNat<65536:=by omega
 rw [show (a.toNat:Int)*256+b.toNat=((a.toNat*256+b.toNat:Nat):Int) by omega,XOL hx,Bool.eq_iff_iff,bne_iff_ne,decide_eq_true_eq]
 have hz:=Xxb hx
 generalize a.toNat*256+b.toNat=x at *
 generalize x &&& 18446744073709535231=y at *
 constructor
 ·intro h
  have:¬ (x=0∨x=16384):=fun e=>h (by have:=hz.2 e;omega)
  omega
 ·intro h e
  have:=hz.1 (by omega)
  omega
end Go.Vm.Code
namespace Go.Vm.Code
open Go Go.Vm Go.Proofs
set_option maxRecDepth 100000
set_option maxHeartbeats 4000000
set_option linter.unusedVariables false
def XkZ (Xax:XbI) (s:List UInt8):Option (Xae×Bool):=
 cond ((s.length:Int)==4)
  (
  (Xax s 0 4).bind fun xg=>
  some ((Xae.mk false 0 xg.1,true)))
  (
  cond ((s.length:Int)==16)
   (
   (Xax s 0 8).bind fun xg1=>
   (Xax s 8 8).bind fun xg2=>
   some ((Xae.mk true xg1.1 xg2.1,true)))
   (
   some ((Xae.mk false 0 0,false))))
def XCN (x:Xae×Bool):Xc2:=⟨.tuple ⟨[.agg ⟨[.bool x.1.V6,.int .u64 x.1.Hi,.int .u64 x.1.Lo]⟩,.bool x.2]⟩,[],[]⟩
abbrev XeR:=(List UInt8)→Option (Xae×Bool)
def r136 (g:XeR):Dec:=dV asS fun (y0:List UInt8)=>XdT (ofG (g y0) XCN)
theorem XQx {g:XeR} {y0:List UInt8} {x:Xae×Bool} (hx:g y0=some x):r136 g [.string ⟨⟨y0⟩⟩] []=some (XCN x):=(Xbb (Xds)).trans (Xa7 hx)
def s136 (g:XeR):XbS:=⟨[.v],r136 g⟩
theorem Xy4 {g:XeR} {y0:List UInt8} {x:Xae×Bool} (hx:g y0=some x):(s136 g).run [.string ⟨⟨y0⟩⟩] []=some (XCN x):=XQx hx
abbrev XJH (Xax:XbI):List (Nat×XbS):=[(69,s69 Xax)]
theorem XFh (Xax:XbI) (hS:Xaq Tryz.prog (XaL (XJH Xax))) (s:List UInt8) (res:Xae×Bool) (h:XkZ Xax s=some res) :
 XaM Tryz.prog 136 0 ⟨⟨136,35,[(0,.string ⟨⟨s⟩⟩)],[.code XAQ],[],false,none⟩,[],[],0⟩ (fun v H _=>Res 0 (XCN res) v H):=by
 unfold XkZ at h
 have R1:=@XpF Xax
 refine Xbp XaP hS true 3000 ?_
 conv=>whnf
 exact W
def Xdq:XeR:=XkZ Xax
theorem XzK:Xb8 Tryz.prog 136 (s136 Xdq):=by
 have hL:=XFh Xax (Xaq.XaY ⟨Xrd,trivial⟩)
 exact okA ⟨Tryz.f136,rfl,by decide,rfl⟩
def Xnk (Xcp:XdG) (s:List UInt8):Option (Xae×Bool):=
 cond ((s.length:Int)==4)
  (
  (Xcp s 0 4).bind fun xg=>
  some ((Xae.mk false 0 xg.1,true)))
  (
  cond ((s.length:Int)==16)
   (
   (Xcp s 0 8).bind fun xg1=>
   (Xcp s 8 8).bind fun xg2=>
   some ((Xae.mk true xg1.1 xg2.1,true)))
   (
   some ((Xae.mk false 0 0,false))))
def XCp (x:Xae×Bool):Xc2:=⟨.tuple ⟨[.agg ⟨[.bool x.1.V6,.int .u64 x.1.Hi,.int .u64 x.1.Lo]⟩,.bool x.2]⟩,[],[]⟩
abbrev Xfx:=(List UInt8)→Option (Xae×Bool)
def r127 (g:Xfx):Dec:=dV asS fun (y0:List UInt8)=>XdT (ofG (g y0) XCp)
theorem XPP {g:Xfx} {y0:List UInt8} {x:Xae×Bool} (hx:g y0=some x):r127 g [.string ⟨⟨y0⟩⟩] []=some (XCp x):=(Xbb (Xds)).trans (Xa7 hx)
def s127 (g:Xfx):XbS:=⟨[.v],r127 g⟩
theorem XAL {g:Xfx} {y0:List UInt8} {x:Xae×Bool} (hx:g y0=some x):(s127 g).run [.string ⟨⟨y0⟩⟩] []=some (XCp x):=XPP hx
abbrev XMa (Xcp:XdG):List (Nat×XbS):=[(61,s61 Xcp)]
theorem XE4 (Xcp:XdG) (hS:Xaq Tryz.prog (XaL (XMa Xcp))) (s:List UInt8) (res:Xae×Bool) (h:Xnk Xcp s=some res) :
 XaM Tryz.prog 127 0 ⟨⟨127,37,[(0,.string ⟨⟨s⟩⟩)],[.code XyH],[],false,none⟩,[],[],0⟩ (fun v H _=>Res 0 (XCp res) v H):=by
 unfold Xnk at h
 have R1:=@XwW Xcp
 refine Xbp XaP hS true 3000 ?_
 conv=>whnf
 exact W
def XdW:Xfx:=Xnk Xcp
theorem XAW:Xb8 Tryz.prog 127 (s127 XdW):=by
 have hL:=XE4 Xcp (Xaq.XaY ⟨XvX,trivial⟩)
 exact okA ⟨Tryz.f127,rfl,by decide,rfl⟩
end Go.Vm.Code
namespace Go.Vm.Code
open Go Go.Vm
theorem XrA {s:List UInt8} (h:s.length=16):Xdq s=some (XxH s,true):=by
 unfold Xdq XkZ
 have e1:((s.length:Int)==4)=false:=by rw [h];rfl
 have e2:((s.length:Int)==16)=true:=by rw [h];rfl
 have e3:(s.drop 8).take 8=s.drop 8:=List.take_of_length_le (by simp;omega)
 rw [e1,e2,cond_false,cond_true,Xek (by omega),Xek (by omega),XfZ (p:=0) (k:=8) (by omega) (by omega) (by omega) (by omega),XfZ (p:=8) (k:=8) (by omega) (by omega) (by omega) (by omega)]
 show some ((⟨true,((Xed ((s.drop 0).take 8):Nat):Int),((Xed ((s.drop 8).take 8):Nat):Int)⟩:Xae),true)=_
 rw [e3];rfl
theorem Xs4 {s:List UInt8} (h:s.length=16):XdW s=some (XxH s,true):=by
 unfold XdW Xnk
 have e1:((s.length:Int)==4)=false:=by rw [h];rfl
 have e2:((s.length:Int)==16)=true:=by rw [h];rfl
 have e3:(s.drop 8).take 8=s.drop 8:=List.take_of_length_le (by simp;omega)
 rw [e1,e2,cond_false,cond_true,Xi6 (by omega),Xi6 (by omega),XfZ (p:=0) (k:=8) (by omega) (by omega) (by omega) (by omega),XfZ (p:=8) (k:=8) (by omega) (by omega) (by omega) (by omega)]
 show some ((⟨true,((Xed ((s.drop 0).take 8):Nat):Int),((Xed ((s.drop 8).take 8):Nat):Int)⟩:Xae),true)=_
 rw [e3];rfl
def Xya (s:List UInt8) (p:Nat):Xae:=⟨false,0,vK s p 4⟩
theorem aget4 {s:List UInt8} (h:s.length=4):Xdq s=some (⟨false,0,vK s 0 4⟩,true):=by
 unfold Xdq XkZ
 rw [show ((s.length:Int)==4)=true by rw [h];rfl,cond_true,Xek (by omega),XfZ (by omega) (by omega) (by omega) (by omega)];rfl
theorem XHt {s:List UInt8} (h:s.length=4):XdW s=some (⟨false,0,vK s 0 4⟩,true):=by
 unfold XdW Xnk
 rw [show ((s.length:Int)==4)=true by rw [h];rfl,cond_true,Xi6 (by omega),XfZ (by omega) (by omega) (by omega) (by omega)];rfl
end Go.Vm.Code
namespace Go.Vm.Code
open Go Go.Vm Go.Proofs
set_option maxRecDepth 100000
set_option maxHeartbeats 4000000
set_option linter.unusedVariables false
def Xe0 (Xdq:XeR) (Xaf:XaB) (f:XdA):Option (Xae×Xam):=
 (Xaf f.Reader 4).bind fun t=>
 (Xdq t.1).bind fun xg=>
 some ((xg.1,t.2))
def XE2 (x:Xae×Xam):Xc2:=⟨.agg ⟨[.bool x.1.V6,.int .u64 x.1.Hi,.int .u64 x.1.Lo]⟩,[],[some [.string ⟨⟨x.2.s⟩⟩,.bool x.2.made,.bool x.2.bad]]⟩
abbrev XcA:=XdA→Option (Xae×Xam)
def r135 (g:XcA):Dec:=dTr 1 (XhH 0) fun (y0:XdA)=>XdT (ofG (g y0) XE2)
theorem XQf {g:XcA} {y0:XdA} {x:Xae×Xam} (hx:g y0=some x):r135 g [.agg ⟨[.pointer (some ⟨0,0,none⟩)]⟩] [some [.string ⟨⟨y0.Reader.s⟩⟩,.bool y0.Reader.made,.bool y0.Reader.bad]]=some (XE2 x):=(XhS rfl rfl (Xn7 0 _)).trans (Xa7 hx)
def s135 (g:XcA):XbS:=⟨[.tr [⟨none,0,0,1,none⟩]],r135 g⟩
theorem XLV {g:XcA} {y0:XdA} {x:Xae×Xam} (hx:g y0=some x):(s135 g).run [.agg ⟨[.pointer (some ⟨0,0,none⟩)]⟩] [some [.string ⟨⟨y0.Reader.s⟩⟩,.bool y0.Reader.made,.bool y0.Reader.bad]]=some (XE2 x):=XQf hx
abbrev XMQ (Xdq:XeR) (Xaf:XaB):List (Nat×XbS):=[(136,s136 Xdq),(86,s86 Xaf)]
theorem XEo (Xdq:XeR) (Xaf:XaB) (hS:Xaq Tryz.prog (XaL (XMQ Xdq Xaf))) (f:XdA) (res:Xae×Xam) (h:Xe0 Xdq Xaf f=some res) :
 XaM Tryz.prog 135 1 ⟨⟨135,13,[(0,.agg ⟨[.pointer (some ⟨0,0,none⟩)]⟩)],[.code XHT],[],false,none⟩,[],[(0,.cells [.string ⟨⟨f.Reader.s⟩⟩,.bool f.Reader.made,.bool f.Reader.bad])],1⟩ (fun v H _=>Res 1 (XE2 res) v H):=by
 unfold Xe0 at h
 have R1:=@XoN Xaf
 have R2:=@Xy4 Xdq
 refine Xbp XaP hS true 3000 ?_
 conv=>whnf
 exact W
def Xbw:XcA:=Xe0 Xdq Xaf
theorem XIg:Xb8 Tryz.prog 135 (s135 Xbw):=by
 have hL:=XEo Xdq Xaf (Xaq.XaY ⟨XzK,XoS,trivial⟩)
 exact okA ⟨Tryz.f135,rfl,by decide,rfl⟩
end Go.Vm.Code
