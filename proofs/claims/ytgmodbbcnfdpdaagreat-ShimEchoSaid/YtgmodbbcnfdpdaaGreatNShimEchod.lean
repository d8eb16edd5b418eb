import Derived.Test.YtgmodbbcnfdpdaaGreatNShimEchoc
namespace Go.Vm.Code
open Go Go.Vm Go.Proofs
def XP9:VC:=.seq (.reg [oD 6 (.mv (.const (.int .i64 0)))]) (.seq (.reg [oM 10 τ0,oM 11 τ1,oM 12 τ2,oD 13 (.callF 61 [XdG,Xdt,Xeg]),oM 9 XdS,oE 14 0 τ9,oE 15 1 τ9,oM 7 XeX,oM 8 XeQ]) (.seq (.reg [oM 16 τ7,oD 17 (.conv .i64 XeY),oM 6 Xe5]) .ret))
def fn62:VFn:=⟨18,XP9,[.tmp 6]⟩
def XxG:VC:=.seq (.seq (.reg [oM 34 τ9,oM 35 τ2,oD 36 (.bin .lss Xic Xig)]) (.cond Xin .skip (.exit 0))) (.seq (.block 1 (.reg [oM 39 τ8,oD 40 (.bin .mul Xi6 (.const (.int .u64 256))),oM 41 τ0,oM 42 τ1,oM 43 τ9,oD 44 (.bin .add Xjs XjD),oD 45 (.idxS XjR Xka),oD 46 (.conv .u64 Xj8),oD 47 (.bin .add Xj4 XkE),oM 8 Xj7])) (.reg [oM 37 τ9,oD 38 (.bin .add XhW (.const (.int .i64 1))),oM 9 Xja]))
def XFA:VC:=.seq (.reg [oM 48 τ8,oM 6 Xlk,oD 7 (.mv (.const (.bool true)))]) .ret
def XGI:VC:=.seq (.reg [oD 6 (.mv (.const (.int .u64 0))),oD 7 (.mv (.const (.bool false)))]) (.seq (.seq (.reg [oM 10 τ2,oD 11 (.bin .lss XdG (.const (.int .i64 1))),oM 12 Xdt,oG 13 (.mv τ2) 12 false,oG 14 (.bin .gtr XdS (.const (.int .i64 8))) 12 false,oD 15 (.pick Xeg (.const (.bool true)) XeX),oM 16 XeQ,oG 17 (.mv τ1) 16 false,oG 18 (.bin .lss Xe5 (.const (.int .i64 0))) 16 false,oD 19 (.pick XeY (.const (.bool true)) XfK),oM 20 XfU,oG 21 (.mv τ1) 20 false,oG 22 (.mv τ0) 20 false,oG 23 (.lenS XgR) 20 false,oG 24 (.bin .gtr Xf9 XgP) 20 false,oD 25 (.pick Xf3 (.const (.bool true)) Xf2),oM 26 Xhc,oG 27 (.mv τ2) 26 false,oG 28 (.mv τ0) 26 false,oG 29 (.lenS Xhe) 26 false,oG 30 (.mv τ1) 26 false,oG 31 (.bin .sub Xha XhJ) 26 false,oG 32 (.bin .gtr Xhd XhR) 26 false,oD 33 (.pick Xg5 (.const (.bool true)) Xho)]) (.cond Xh8 (.seq (.reg [oD 6 (.mv (.const (.int .u64 0))),oD 7 (.mv (.const (.bool false)))]) .ret) .skip)) (.seq (.reg [oD 8 (.mv (.const (.int .u64 0)))]) (.seq (.seq (.reg [oD 9 (.mv (.const (.int .i64 0)))]) (.block 0 (.loop XxG))) XFA)))
def fn61:VFn:=⟨49,XGI,[.tmp 6,.tmp 7]⟩
def XxL:VC:=.seq (.seq (.reg [oM 5 τ4,oM 6 τ0,oD 7 (.lenL τ6),oD 8 (.bin .lss τ5 τ7)]) (.cond τ8 .skip (.exit 0))) (.seq (.block 1 (.reg [oM 11 τ3,oM 12 τ0,oM 13 τ4,oD 14 (.idxAL 1 Xeg XdS),oD 15 (.load1 (.int .i64) XeX),oD 16 (.bin .add Xdt XeQ),oM 3 XeY])) (.reg [oM 9 τ4,oD 10 (.bin .add τ9 (.const (.int .i64 1))),oM 4 XdG]))
def Xz4:VC:=.seq (.seq (.reg [oM 17 τ3,oD 18 (.bin .gtr Xe5 (.const (.int .i64 65535)))]) (.cond XfK .skip (.exit 2))) (.block 3 (.reg [oM 19 τ3,oD 20 (.bin .rem XfU (.const (.int .i64 65536))),oM 21 τ3,oD 22 (.bin .quo Xf9 (.const (.int .i64 65536))),oD 23 (.bin .add Xf3 XgR),oM 3 XgP]))
def XF3:VC:=.seq (.reg [oM 24 τ3,oM 2 Xf2]) .ret
def XE8:VC:=.seq (.block 2 (.loop Xz4)) XF3
def XGk:VC:=.seq (.reg [oD 2 (.mv (.const (.int .i64 0)))]) (.seq (.reg [oD 3 (.mv (.const (.int .i64 0)))]) (.seq (.seq (.reg [oD 4 (.mv (.const (.int .i64 0)))]) (.block 0 (.loop XxL))) XE8))
def fn92:VFn:=⟨25,XGk,[.tmp 2]⟩
def k47_7:VC:=.regD [oM 21 τ0,oM 22 τ1,oD 23 (.sliceS Xf9 none (some XgR)),oM 24 τ3,oM 25 τ2,oD 26 (.callF 46 [Xf2,Xhc]),oD 27 (.bin .add XgP Xg5),oM 28 τ0,oM 29 τ1,oM 30 τ2,oD 31 (.bin .add Xha XhJ),oD 32 (.sliceS Xhe (some XhR) none)] [] [oD 33 (.bin .add Xhd Xho),oM 8 Xh8]
def XEP:VC:=.seq (.reg [oD 8 (.mv (.const (.string ⟨⟨[]⟩⟩)))]) (.seq (.reg [oM 12 τ0,oM 13 τ1,oM 14 τ2,oD 15 (.callF 61 [Xeg,XdS,XeX]),oM 11 XeQ,oE 16 0 Xdt,oE 17 1 Xdt,oM 9 XeY,oM 10 Xe5]) (.seq (.seq (.reg [oM 18 XdG,oD 19 (.not XfK)]) (.cond XfU (.seq (.reg [oM 20 τ0,oM 8 Xf3]) .ret) .skip)) (.seq k47_7 .ret)))
def fn47:VFn:=⟨34,XEP,[.tmp 8]⟩
def XEK:VC:=.seq (.reg [oD 2 (.box τ0),oD 4 (.mv (.const (.string ⟨⟨[]⟩⟩))),oD 5 (.mv (.const (.int .i64 0)))]) (.seq (.seq (.reg [oD 8 (.fieldA 1 τ2),oD 9 (.fieldA 0 τ8),oD 10 (.load1 .bool τ9),oD 11 (.fieldA 4 τ2),oD 12 (.fieldA 0 Xdt),oD 13 (.load1 .bool Xeg),oD 14 (.eqB true XdG XdS),oM 15 XeX,oG 16 (.fieldA 1 τ2) 15 false,oG 17 (.loadN [.bool,(.int .u64),(.int .u64)] XeY) 15 false,oG 18 (.callF 42 [Xe5]) 15 false,oG 19 (.not XfK) 15 false,oD 20 (.pick XeQ (.const (.bool true)) XfU),oM 21 Xf3,oG 22 (.fieldA 4 τ2) 21 false,oG 23 (.loadN [.bool,(.int .u64),(.int .u64)] XgR) 21 false,oG 24 (.callF 42 [XgP]) 21 false,oG 25 (.not Xf2) 21 false,oD 26 (.pick Xf9 (.const (.bool true)) Xhc),oM 27 Xg5,oG 28 (.fieldA 0 τ2) 27 false,oG 29 (.load1 (.int .i64) Xhe) 27 false,oG 30 (.bin .neq Xha (.const (.int .i64 6))) 27 false,oG 31 (.mv XhJ) 27 false,oG 32 (.fieldA 0 τ2) 31 true,oG 33 (.load1 (.int .i64) Xho) 31 true,oG 34 (.bin .neq Xh8 (.const (.int .i64 17))) 31 true,oG 35 (.pick XhR Xic (.const (.bool false))) 27 false,oD 36 (.pick Xhd (.const (.bool true)) Xig)]) (.cond Xin (.seq (.reg [oD 4 (.mv (.const (.string ⟨⟨[]⟩⟩))),oD 5 (.mv (.const (.int .i64 1)))]) .ret) .skip)) (.seq (.reg [oD 38 (.fieldA 0 τ2),oD 39 (.load1 (.int .i64) Xja),oD 40 (.fieldA 1 τ2),oD 41 (.loadN [.bool,(.int .u64),(.int .u64)] Xj4),oD 42 (.fieldA 4 τ2),oD 43 (.loadN [.bool,(.int .u64),(.int .u64)] Xjs),oD 44 (.build [(.int .i64 0),(.int .i64 0),(.int .i64 0),(.int .i64 0),(.bool false),(.int .u64 0),(.int .u64 0),(.bool false),(.int .u64 0),(.int .u64 0)] [(2,1,Xi6),(3,1,(.const (.int .i64 64))),(4,3,XjR),(7,3,XjD)]),oM 45 τ1,oD 46 (.callF 79 [Xka,Xj8]),oM 37 XkE,oE 47 0 XhW,oE 48 1 XhW,oM 6 Xj7,oM 7 Xlk]) (.seq (.seq (.reg [oD 49 (.fieldA 1 τ2),oD 50 (.fieldA 0 Xle),oD 51 (.load1 .bool Xlj),oD 52 (.not Xls)]) (.cond XlY (.reg [oD 54 (.fieldA 0 τ2),oD 55 (.load1 (.int .i64) Xne),oD 56 (.fieldA 1 τ2),oD 57 (.loadN [.bool,(.int .u64),(.int .u64)] Xna),oD 58 (.fieldA 4 τ2),oD 59 (.loadN [.bool,(.int .u64),(.int .u64)] XnM),oD 60 (.build [(.int .i64 0),(.int .i64 0),(.bool false),(.int .i64 0),(.int .i64 0),(.bool false),(.int .u64 0),(.int .u64 0),(.bool false),(.int .u64 0),(.int .u64 0),(.string ⟨⟨[]⟩⟩)] [(2,1,(.const (.bool true))),(3,1,(.const (.int .i64 64))),(4,1,Xnt),(5,3,Xm4),(8,3,XnP)]),oM 61 τ1,oD 62 (.callF 80 [Xpe,Xpr]),oM 53 Xp0,oE 63 0 XlZ,oE 64 1 XlZ,oM 6 Xqd,oM 7 XrS]) .skip)) (.seq (.seq (.reg [oM 65 τ7,oD 66 (.bin .eql Xr2 (.const (.int .i64 0))),oM 67 Xta,oG 68 (.mv τ6) 67 true,oG 69 (.lenS XrX) 67 true,oG 70 (.bin .gtr XsJ (.const (.int .i64 9000))) 67 true,oD 71 (.pick XrZ Xtz (.const (.bool false)))]) (.cond XtW (.seq (.reg [oD 4 (.mv (.const (.string ⟨⟨[]⟩⟩))),oD 5 (.mv (.const (.int .i64 5)))]) .ret) .skip)) (.seq (.reg [oM 72 τ6,oM 73 τ7,oM 4 Xts,oM 5 XuI]) .ret)))))
def fn44:VFn:=⟨74,XEK,[.tmp 4,.tmp 5]⟩
def XNo:VC:=.regD [oD 12 (.fieldA 0 τ2),oD 13 (.load1 (.int .i64) Xeg),oD 14 (.bin .mul XdS (.const (.int .i64 1048576))),oD 15 (.bin .add (.const (.int .i64 1610612736)) XeX),oD 16 (.fieldA 1 τ2),oD 17 (.load1 (.int .i64) XeY),oD 18 (.bin .add XeQ Xe5),oD 19 (.callF 108 [XfK,(.const (.int .i64 4))]),oM 20 τ1,oD 21 (.lenS Xf3),oD 22 (.callF 108 [Xf9,(.const (.int .i64 2))]),oD 23 (.bin .add XfU XgR),oD 24 (.fieldA 2 τ2),oD 25 (.load1 (.int .i64) Xf2),oD 26 (.callF 108 [Xhc,(.const (.int .i64 1))]),oD 27 (.bin .add XgP Xg5),oD 28 (.fieldA 3 τ2),oD 29 (.load1 (.int .i64) Xhe),oD 30 (.callF 108 [Xha,(.const (.int .i64 1))]),oD 31 (.bin .add Xhd XhJ),oD 32 (.fieldA 4 τ2),oD 33 (.loadN [.bool,(.int .u64),(.int .u64)] Xho),oD 34 (.callF 104 [Xh8]),oD 35 (.bin .add XhR Xic),oD 36 (.fieldA 7 τ2),oD 37 (.loadN [.bool,(.int .u64),(.int .u64)] Xin),oD 38 (.callF 104 [XhW]),oD 39 (.bin .add Xig Xja),oM 40 τ1] [(7,13),(7,17),(7,21),(7,25),(10,13),(10,17),(10,21),(10,25),(14,17),(14,21),(14,25),(18,21),(18,25),(22,25)] [oD 41 (.bin .add Xi6 Xj4),oM 4 XjR,oD 5 (.mv (.const (.int .i64 0)))]
def XEF:VC:=.seq (.reg [oD 2 (.box τ0),oD 4 (.mv (.const (.string ⟨⟨[]⟩⟩))),oD 5 (.mv (.const (.int .i64 0)))]) (.seq (.seq (.reg [oD 6 (.loadN [(.int .i64),(.int .i64),(.int .i64),(.int .i64),.bool,(.int .u64),(.int .u64),.bool,(.int .u64),(.int .u64)] τ2),oD 7 (.callF 107 [τ6]),oD 8 (.not τ7)]) (.cond τ8 (.seq (.reg [oD 4 (.mv (.const (.string ⟨⟨[]⟩⟩))),oD 5 (.mv (.const (.int .i64 1)))]) .ret) .skip)) (.seq (.seq (.reg [oM 9 τ1,oD 10 (.lenS τ9),oD 11 (.bin .gtr XdG (.const (.int .i64 65535)))]) (.cond Xdt (.seq (.reg [oD 4 (.mv (.const (.string ⟨⟨[]⟩⟩))),oD 5 (.mv (.const (.int .i64 5)))]) .ret) .skip)) (.seq XNo .ret)))
def fn79:VFn:=⟨42,XEF,[.tmp 4,.tmp 5]⟩
def XES:VC:=.seq (.reg [oD 1 (.box τ0),oD 2 (.mv (.const (.bool false)))]) (.seq (.reg [oD 3 (.fieldA 0 τ1),oD 4 (.load1 (.int .i64) τ3),oD 5 (.callF 124 [τ4,(.const (.int .i64 255))]),oM 6 τ5,oG 7 (.fieldA 1 τ1) 6 true,oG 8 (.load1 (.int .i64) τ7) 6 true,oG 9 (.callF 124 [τ8,(.const (.int .i64 1048575))]) 6 true,oD 10 (.pick τ6 τ9 (.const (.bool false))),oM 11 XdG,oG 12 (.fieldA 2 τ1) 11 true,oG 13 (.load1 (.int .i64) Xeg) 11 true,oG 14 (.callF 124 [XdS,(.const (.int .i64 255))]) 11 true,oD 15 (.pick Xdt XeX (.const (.bool false))),oM 16 XeQ,oG 17 (.fieldA 3 τ1) 16 true,oG 18 (.load1 (.int .i64) Xe5) 16 true,oG 19 (.callF 124 [XfK,(.const (.int .i64 255))]) 16 true,oD 20 (.pick XeY XfU (.const (.bool false))),oM 21 Xf3,oG 22 (.fieldA 4 τ1) 21 true,oG 23 (.fieldA 0 XgR) 21 true,oG 24 (.load1 .bool XgP) 21 true,oD 25 (.pick Xf9 Xf2 (.const (.bool false))),oM 26 Xhc,oG 27 (.fieldA 7 τ1) 26 true,oG 28 (.fieldA 0 Xhd) 26 true,oG 29 (.load1 .bool Xhe) 26 true,oD 30 (.pick Xg5 Xha (.const (.bool false))),oM 2 XhJ]) .ret)
def XM8:VFn:=⟨31,XES,[.tmp 2]⟩
def XFd:VC:=.seq (.reg [oD 4 (.mv (.const (.bool false)))]) (.seq (.reg [oM 5 τ0,oD 6 (.bin .geq τ5 (.const (.int .i64 0))),oM 7 τ6,oG 8 (.mv τ0) 7 true,oG 9 (.mv τ1) 7 true,oG 10 (.bin .leq τ8 τ9) 7 true,oD 11 (.pick τ7 XdG (.const (.bool false))),oM 4 Xdt]) .ret)
def XM3:VFn:=⟨12,XFd,[.tmp 4]⟩
def XGe:VC:=.seq (.reg [oD 4 (.mv (.const (.string ⟨⟨[]⟩⟩)))]) (.seq (.reg [oM 5 τ0,oD 6 (.conv .u64 τ5),oM 7 τ1,oD 8 (.callF 46 [τ6,τ7]),oM 4 τ8]) .ret)
def XRS:VFn:=⟨9,XGe,[.tmp 4]⟩
def XSf:VC:=.regD [oM 23 τ6,oD 24 (.bin .quo XgP (.const (.int .i64 4))),oD 25 (.bin .add (.const (.int .i64 64)) Xf2),oD 26 (.callF 105 [Xhc,(.const (.int .i64 1))]),oD 27 (.fieldA 0 τ2),oD 28 (.load1 (.int .i64) Xhd),oD 29 (.callF 105 [Xhe,(.const (.int .i64 1))]),oD 30 (.bin .add Xg5 Xha),oM 31 τ6,oM 32 τ1,oD 33 (.lenS Xho),oD 34 (.bin .add XhR Xh8),oD 35 (.callF 105 [Xic,(.const (.int .i64 2))]),oD 36 (.bin .add XhJ Xig),oD 37 (.fieldA 1 τ2),oD 38 (.load1 (.int .i64) XhW),oD 39 (.callF 105 [Xja,(.const (.int .i64 2))]),oD 40 (.bin .add Xin Xi6),oM 41 τ7,oD 42 (.callF 105 [XjR,(.const (.int .i64 1))]),oD 43 (.bin .add Xj4 Xjs),oD 44 (.callF 105 [(.const (.int .i64 0)),(.const (.int .i64 1))]),oD 45 (.bin .add XjD Xka),oD 46 (.fieldA 3 τ2),oD 47 (.load1 (.int .i64) XkE),oD 48 (.callF 105 [Xj7,(.const (.int .i64 1))]),oD 49 (.bin .add Xj8 Xlk),oD 50 (.fieldA 4 τ2),oD 51 (.load1 (.int .i64) Xlj),oD 52 (.callF 105 [Xls,(.const (.int .i64 1))]),oD 53 (.bin .add Xle XlY),oD 54 (.callF 105 [(.const (.int .i64 0)),(.const (.int .i64 2))]),oD 55 (.bin .add XlZ Xne),oD 56 (.fieldA 5 τ2),oD 57 (.loadN [.bool,(.int .u64),(.int .u64)] Xna),oD 58 (.callF 104 [Xm4]),oD 59 (.bin .add Xnt XnM),oD 60 (.fieldA 8 τ2),oD 61 (.loadN [.bool,(.int .u64),(.int .u64)] Xpe),oD 62 (.callF 104 [Xpr]),oD 63 (.bin .add XnP Xp0),oD 64 (.fieldA 11 τ2),oD 65 (.load1 .str XrS)] [(3,5),(3,15),(3,24),(3,28),(3,34),(3,38),(3,42),(6,15),(6,24),(6,28),(6,34),(6,38),(6,42),(12,15),(12,24),(12,28),(12,34),(12,38),(12,42),(16,24),(16,28),(16,34),(16,38),(16,42),(19,24),(19,28),(19,34),(19,38),(19,42),(21,24),(21,28),(21,34),(21,38),(21,42),(25,28),(25,34),(25,38),(25,42),(29,34),(29,38),(29,42),(31,34),(31,38),(31,42),(35,38),(35,42),(39,42)] [oD 66 (.bin .add Xqd Xr2),oM 8 Xta]
def XFb:VC:=.seq (.reg [oD 2 (.box τ0),oD 4 (.mv (.const (.string ⟨⟨[]⟩⟩))),oD 5 (.mv (.const (.int .i64 0)))]) (.seq (.seq (.reg [oD 9 (.loadN [(.int .i64),(.int .i64),.bool,(.int .i64),(.int .i64),.bool,(.int .u64),(.int .u64),.bool,(.int .u64),(.int .u64),.str] τ2),oD 10 (.callF 109 [τ9]),oD 11 (.not XdG)]) (.cond Xdt (.seq (.reg [oD 4 (.mv (.const (.string ⟨⟨[]⟩⟩))),oD 5 (.mv (.const (.int .i64 1)))]) .ret) .skip)) (.seq (.reg [oD 12 (.fieldA 11 τ2),oD 13 (.load1 .str Xeg),oD 14 (.lenS XdS),oD 15 (.bin .add (.const (.int .i64 20)) XeX),oM 6 XeQ]) (.seq (.seq (.reg [oM 16 τ1,oD 17 (.lenS XeY),oM 18 τ6,oD 19 (.bin .sub (.const (.int .i64 65535)) XfK),oD 20 (.bin .gtr Xe5 XfU)]) (.cond Xf3 (.seq (.reg [oD 4 (.mv (.const (.string ⟨⟨[]⟩⟩))),oD 5 (.mv (.const (.int .i64 5)))]) .ret) .skip)) (.seq (.reg [oD 7 (.mv (.const (.int .i64 0)))]) (.seq (.seq (.reg [oD 21 (.fieldA 2 τ2),oD 22 (.load1 .bool Xf9)]) (.cond XgR (.reg [oD 7 (.mv (.const (.int .i64 64)))]) .skip)) (.seq XSf (.seq (.reg [oM 67 τ8,oM 68 τ8,oD 69 (.callF 48 [XrX]),oD 70 (.conv .u64 XsJ),oD 71 (.callF 47 [XrZ,(.const (.int .i64 10)),(.const (.int .i64 2)),Xtz]),oM 72 τ1,oD 73 (.bin .add XtW Xts),oM 4 XuI,oD 5 (.mv (.const (.int .i64 0)))]) .ret)))))))
def fn80:VFn:=⟨74,XFb,[.tmp 4,.tmp 5]⟩
def XEV:VC:=.seq (.reg [oD 1 (.box τ0),oD 2 (.mv (.const (.bool false)))]) (.seq (.reg [oD 3 (.fieldA 0 τ1),oD 4 (.load1 (.int .i64) τ3),oD 5 (.callF 125 [τ4,(.const (.int .i64 255))]),oM 6 τ5,oG 7 (.fieldA 1 τ1) 6 true,oG 8 (.load1 (.int .i64) τ7) 6 true,oG 9 (.callF 125 [τ8,(.const (.int .i64 65535))]) 6 true,oD 10 (.pick τ6 τ9 (.const (.bool false))),oM 11 XdG,oG 12 (.fieldA 3 τ1) 11 true,oG 13 (.load1 (.int .i64) Xeg) 11 true,oG 14 (.callF 125 [XdS,(.const (.int .i64 255))]) 11 true,oD 15 (.pick Xdt XeX (.const (.bool false))),oM 16 XeQ,oG 17 (.fieldA 4 τ1) 16 true,oG 18 (.load1 (.int .i64) Xe5) 16 true,oG 19 (.callF 125 [XfK,(.const (.int .i64 255))]) 16 true,oD 20 (.pick XeY XfU (.const (.bool false))),oM 21 Xf3,oG 22 (.fieldA 5 τ1) 21 true,oG 23 (.loadN [.bool,(.int .u64),(.int .u64)] XgR) 21 true,oG 24 (.callF 126 [XgP]) 21 true,oD 25 (.pick Xf9 Xf2 (.const (.bool false))),oM 26 Xhc,oG 27 (.fieldA 8 τ1) 26 true,oG 28 (.loadN [.bool,(.int .u64),(.int .u64)] Xhd) 26 true,oG 29 (.callF 126 [Xhe]) 26 true,oD 30 (.pick Xg5 Xha (.const (.bool false))),oM 31 XhJ,oG 32 (.fieldA 11 τ1) 31 true,oG 33 (.load1 .str Xho) 31 true,oG 34 (.lenS Xh8) 31 true,oG 35 (.bin .leq Xic (.const (.int .i64 40))) 31 true,oD 36 (.pick XhR Xig (.const (.bool false))),oM 37 Xin,oG 38 (.fieldA 11 τ1) 37 true,oG 39 (.load1 .str Xja) 37 true,oG 40 (.lenS Xi6) 37 true,oG 41 (.bin .rem Xj4 (.const (.int .i64 4))) 37 true,oG 42 (.bin .eql XjR (.const (.int .i64 0))) 37 true,oD 43 (.pick XhW Xjs (.const (.bool false))),oM 2 XjD]) .ret)
def XS1:VFn:=⟨44,XEV,[.tmp 2]⟩
def XGg:VC:=.seq (.reg [oD 4 (.mv (.const (.bool false)))]) (.seq (.reg [oM 5 τ0,oD 6 (.bin .geq τ5 (.const (.int .i64 0))),oM 7 τ6,oG 8 (.mv τ0) 7 true,oG 9 (.mv τ1) 7 true,oG 10 (.bin .leq τ8 τ9) 7 true,oD 11 (.pick τ7 XdG (.const (.bool false))),oM 4 Xdt]) .ret)
def XOL:VFn:=⟨12,XGg,[.tmp 4]⟩
def XFL:VC:=.seq (.reg [oD 1 (.box τ0),oD 2 (.mv (.const (.bool false)))]) (.seq (.reg [oD 3 (.loadN [.bool,(.int .u64),(.int .u64)] τ1),oD 4 (.callF 42 [τ3]),oM 5 τ4,oG 6 (.fieldA 0 τ1) 5 true,oG 7 (.load1 .bool τ6) 5 true,oG 8 (.not τ7) 5 true,oD 9 (.pick τ5 τ8 (.const (.bool false))),oM 2 τ9]) .ret)
def XNR:VFn:=⟨10,XFL,[.tmp 2]⟩
def XOQ:VC:=.regD [oM 34 τ6,oD 35 (.conv .u64 Xic),oD 36 (.callF 46 [Xig,(.const (.int .i64 1))]),oD 37 (.bin .add (.const (.string ⟨⟨[71,85,1]⟩⟩)) Xin),oD 38 (.fieldA 1 τ2),oD 39 (.load1 (.int .i64) Xja),oD 40 (.conv .u64 Xi6),oD 41 (.callF 46 [Xj4,(.const (.int .i64 2))]),oD 42 (.bin .add XhW XjR),oM 43 τ7,oD 44 (.conv .u64 XjD),oD 45 (.callF 46 [Xka,(.const (.int .i64 1))]),oD 46 (.bin .add Xjs Xj8),oD 47 (.fieldA 4 τ2),oD 48 (.load1 (.int .i64) Xj7),oD 49 (.conv .u64 Xlk),oD 50 (.callF 46 [Xle,(.const (.int .i64 1))]),oD 51 (.bin .add XkE Xlj),oD 52 (.bin .add Xls (.const (.string ⟨⟨[0,0]⟩⟩))),oD 53 (.fieldA 2 τ2),oD 54 (.load1 (.int .u64) XlZ),oD 55 (.callF 46 [Xne,(.const (.int .i64 8))])] [(2,5),(2,14),(2,20),(7,14),(7,20),(11,14),(11,20),(16,20)] [oD 56 (.bin .add XlY Xnt),oM 8 Xna]
def XF4:VC:=.seq (.reg [oD 2 (.box τ0),oD 4 (.mv (.const (.string ⟨⟨[]⟩⟩))),oD 5 (.mv (.const (.int .i64 0)))]) (.seq (.seq (.reg [oD 9 (.fieldA 1 τ2),oD 10 (.load1 (.int .i64) τ9),oD 11 (.bin .lss XdG (.const (.int .i64 0))),oM 12 Xdt,oG 13 (.fieldA 1 τ2) 12 false,oG 14 (.load1 (.int .i64) XdS) 12 false,oG 15 (.bin .gtr XeX (.const (.int .i64 65535))) 12 false,oD 16 (.pick Xeg (.const (.bool true)) XeQ),oM 17 XeY,oG 18 (.fieldA 4 τ2) 17 false,oG 19 (.load1 (.int .i64) XfK) 17 false,oG 20 (.bin .lss XfU (.const (.int .i64 0))) 17 false,oD 21 (.pick Xe5 (.const (.bool true)) Xf3),oM 22 Xf9,oG 23 (.fieldA 4 τ2) 22 false,oG 24 (.load1 (.int .i64) XgP) 22 false,oG 25 (.bin .gtr Xf2 (.const (.int .i64 255))) 22 false,oD 26 (.pick XgR (.const (.bool true)) Xhc)]) (.cond Xg5 (.seq (.reg [oD 4 (.mv (.const (.string ⟨⟨[]⟩⟩))),oD 5 (.mv (.const (.int .i64 1)))]) .ret) .skip)) (.seq (.seq (.reg [oM 27 τ1,oD 28 (.lenS Xhd),oD 29 (.bin .gtr Xhe (.const (.int .i64 9000)))]) (.cond Xha (.seq (.reg [oD 4 (.mv (.const (.string ⟨⟨[]⟩⟩))),oD 5 (.mv (.const (.int .i64 5)))]) .ret) .skip)) (.seq (.reg [oD 6 (.mv (.const (.int .i64 4))),oD 7 (.mv (.const (.int .i64 0)))]) (.seq (.seq (.reg [oD 30 (.fieldA 0 τ2),oD 31 (.load1 .bool XhJ)]) (.cond XhR (.reg [oD 6 (.mv (.const (.int .i64 41)))]) .skip)) (.seq (.seq (.reg [oD 32 (.fieldA 3 τ2),oD 33 (.load1 .bool Xho)]) (.cond Xh8 (.reg [oD 7 (.mv (.const (.int .i64 1)))]) .skip)) (.seq XOQ (.seq (.reg [oM 57 τ8,oM 58 τ8,oD 59 (.callF 48 [XnM]),oD 60 (.conv .u64 XnP),oD 61 (.callF 47 [Xm4,(.const (.int .i64 8)),(.const (.int .i64 2)),Xpe]),oM 62 τ1,oD 63 (.bin .add Xpr Xp0),oM 4 Xqd,oD 5 (.mv (.const (.int .i64 0)))]) .ret)))))))
def fn23:VFn:=⟨64,XF4,[.tmp 4,.tmp 5]⟩
def XQq:VC:=.seq (.reg [oD 1 (.box τ0),oD 2 (.alloc [(.int .i64 0),(.bool false),(.int .u64 0),(.int .u64 0),(.bool false),(.int .u64 0),(.int .u64 0),(.int .i64 0),(.int .i64 0)])]) (.seq (.reg [oD 3 (.fieldA 0 τ1),oD 4 (.load1 (.int .i64) τ3),oD 5 (.fieldA 4 τ1),oD 6 (.loadN [.bool,(.int .u64),(.int .u64)] τ5),oD 7 (.fieldA 1 τ1),oD 8 (.loadN [.bool,(.int .u64),(.int .u64)] τ7),oD 9 (.fieldA 8 τ1),oD 10 (.load1 (.int .i64) τ9),oD 11 (.fieldA 7 τ1),oD 12 (.load1 (.int .i64) Xdt),oD 13 (.build [(.int .i64 0),(.bool false),(.int .u64 0),(.int .u64 0),(.bool false),(.int .u64 0),(.int .u64 0),(.int .i64 0),(.int .i64 0)] [(0,1,τ4),(1,3,τ6),(4,3,τ8),(7,1,XdG),(8,1,Xeg)]),oN (.store 9 τ2 XdS)]) .ret)
def fn24:VFn:=⟨14,XQq,[.cell 2 [(.int .i64),.bool,(.int .u64),(.int .u64),.bool,(.int .u64),(.int .u64),(.int .i64),(.int .i64)] true]⟩
def XO1:VC:=.seq (.reg [oD 2 (.alloc [(.int .i64 0),(.bool false),(.int .u64 0),(.int .u64 0),(.bool false),(.int .u64 0),(.int .u64 0),(.int .i64 0),(.int .i64 0),(.int .i64 0),(.bool false),(.int .u32 0),(.int .u32 0),(.bool false),(.string ⟨⟨[]⟩⟩),(.int .i64 0)]),oD 3 (.mv (.const (.int .i64 0)))]) (.seq (.reg [oM 9 τ0,oD 10 (.callF 49 [τ9]),oM 8 XdG,oE 11 0 τ8,oE 12 1 τ8,oE 13 2 τ8,oE 14 3 τ8,oD 4 (.alloc [(.int .i64 0),(.bool false),(.int .u64 0),(.int .u64 0),(.bool false),(.int .u64 0),(.int .u64 0),(.int .i64 0),(.int .i64 0),(.int .i64 0),(.bool false),(.int .u32 0),(.int .u32 0),(.bool false),(.string ⟨⟨[]⟩⟩),(.int .i64 0)]),oN (.store 16 τ4 Xdt),oM 5 Xeg,oM 6 XdS,oM 7 XeX]) (.seq (.reg [oD 15 (.loadN [(.int .i64),.bool,(.int .u64),(.int .u64),.bool,(.int .u64),(.int .u64),(.int .i64),(.int .i64),(.int .i64),.bool,(.int .u32),(.int .u32),.bool,.str,(.int .i64)] τ4),oM 16 τ7,oN (.store 16 τ2 XeQ),oM 3 XeY]) .ret))
def fn25:VFn:=⟨17,XO1,[.cell 2 [(.int .i64),.bool,(.int .u64),(.int .u64),.bool,(.int .u64),(.int .u64),(.int .i64),(.int .i64),(.int .i64),.bool,(.int .u32),(.int .u32),.bool,.str,(.int .i64)] true,.tmp 3]⟩
def XM7:VC:=.regD [oD 97 (.loadN [(.int .i64),.bool,(.int .u64),(.int .u64),.bool,(.int .u64),(.int .u64),(.int .i64),(.int .i64),(.int .i64),.bool,(.int .u32),(.int .u32),.bool,.str,(.int .i64)] τ8),oD 98 (.fieldA 7 τ6),oD 99 (.load1 (.int .i64) τ98),oD 100 (.fieldA 7 τ6),oD 101 (.load1 (.int .i64) XBP),oD 102 (.bin .add XKa (.const (.int .i64 20))),oD 103 (.fieldA 7 τ9),oD 104 (.load1 .str XTd),oD 105 (.lenS XOF),oD 106 (.bin .add XQ6 XP0),oN (.store 16 τ2 XPN),oM 3 τ99] [(2,10),(4,10),(7,10)] [oM 4 XON,oD 5 (.mv (.const (.int .i64 0)))]
def XRa:VC:=.regD [oD 155 (.loadN [(.int .i64),.bool,(.int .u64),(.int .u64),.bool,(.int .u64),(.int .u64),(.int .i64),(.int .i64),(.int .i64),.bool,(.int .u32),(.int .u32),.bool,.str,(.int .i64)] τ8),oD 156 (.fieldA 7 τ6),oD 157 (.load1 (.int .i64) XPE),oD 158 (.fieldA 7 τ6),oD 159 (.load1 (.int .i64) XPh),oD 160 (.bin .add XNE (.const (.int .i64 8))),oN (.store 16 τ2 XHn),oM 3 XQe] [(2,6),(4,6)] [oM 4 XSQ,oD 5 (.mv (.const (.int .i64 0)))]
def XFD:VC:=.seq (.reg [oD 2 (.alloc [(.int .i64 0),(.bool false),(.int .u64 0),(.int .u64 0),(.bool false),(.int .u64 0),(.int .u64 0),(.int .i64 0),(.int .i64 0),(.int .i64 0),(.bool false),(.int .u32 0),(.int .u32 0),(.bool false),(.string ⟨⟨[]⟩⟩),(.int .i64 0)]),oD 3 (.mv (.const (.int .i64 0))),oD 4 (.mv (.const (.int .i64 0))),oD 5 (.mv (.const (.int .i64 0)))]) (.seq (.seq (.reg [oM 18 τ0,oD 19 (.lenS XfK),oD 20 (.bin .gtr XfU (.const (.int .i64 9000)))]) (.cond Xf3 (.seq (.reg [oD 21 (.build [(.int .i64 0),(.bool false),(.int .u64 0),(.int .u64 0),(.bool false),(.int .u64 0),(.int .u64 0),(.int .i64 0),(.int .i64 0),(.int .i64 0),(.bool false),(.int .u32 0),(.int .u32 0),(.bool false),(.string ⟨⟨[]⟩⟩),(.int .i64 0)] []),oN (.store 16 τ2 Xf9),oD 3 (.mv (.const (.int .i64 0))),oD 4 (.mv (.const (.int .i64 0))),oD 5 (.mv (.const (.int .i64 5)))]) .ret) .skip)) (.seq (.seq (.reg [oM 22 τ0,oD 23 (.bin .eql XgR (.const (.string ⟨⟨[]⟩⟩)))]) (.cond XgP (.seq (.reg [oD 24 (.build [(.int .i64 0),(.bool false),(.int .u64 0),(.int .u64 0),(.bool false),(.int .u64 0),(.int .u64 0),(.int .i64 0),(.int .i64 0),(.int .i64 0),(.bool false),(.int .u32 0),(.int .u32 0),(.bool false),(.string ⟨⟨[]⟩⟩),(.int .i64 0)] []),oN (.store 16 τ2 Xf2),oD 3 (.mv (.const (.int .i64 0))),oD 4 (.mv (.const (.int .i64 0))),oD 5 (.mv (.const (.int .i64 2)))]) .ret) .skip)) (.seq (.reg [oM 26 τ0,oD 27 (.callF 81 [Xg5]),oM 25 Xhd,oE 28 0 Xhc,oE 29 1 Xhc,oD 6 (.alloc [(.bool false),(.int .u64 0),(.int .u64 0),(.bool false),(.int .u64 0),(.int .u64 0),(.int .i64 0),(.int .i64 0),(.string ⟨⟨[]⟩⟩)]),oN (.store 9 τ6 Xhe),oM 7 Xha]) (.seq (.seq (.reg [oM 30 τ7,oD 31 (.bin .neq XhJ (.const (.int .i64 0)))]) (.cond XhR (.seq (.reg [oD 32 (.build [(.int .i64 0),(.bool false),(.int .u64 0),(.int .u64 0),(.bool false),(.int .u64 0),(.int .u64 0),(.int .i64 0),(.int .i64 0),(.int .i64 0),(.bool false),(.int .u32 0),(.int .u32 0),(.bool false),(.string ⟨⟨[]⟩⟩),(.int .i64 0)] []),oM 33 τ7,oN (.store 16 τ2 Xho),oD 3 (.mv (.const (.int .i64 0))),oD 4 (.mv (.const (.int .i64 0))),oM 5 Xh8]) .ret) .skip)) (.seq (.seq (.reg [oD 34 (.fieldA 7 τ6),oD 35 (.load1 (.int .i64) Xic),oD 36 (.fieldA 8 τ6),oD 37 (.load1 .str Xin),oD 38 (.lenS XhW),oD 39 (.bin .add Xig Xja),oM 40 τ0,oD 41 (.lenS Xj4),oD 42 (.bin .neq Xi6 XjR)]) (.cond Xjs (.seq (.reg [oD 43 (.build [(.int .i64 0),(.bool false),(.int .u64 0),(.int .u64 0),(.bool false),(.int .u64 0),(.int .u64 0),(.int .i64 0),(.int .i64 0),(.int .i64 0),(.bool false),(.int .u32 0),(.int .u32 0),(.bool false),(.string ⟨⟨[]⟩⟩),(.int .i64 0)] []),oN (.store 16 τ2 XjD),oD 3 (.mv (.const (.int .i64 0))),oD 4 (.mv (.const (.int .i64 0))),oD 5 (.mv (.const (.int .i64 5)))]) .ret) .skip)) (.seq (.reg [oM 44 τ0,oD 45 (.lenS Xka),oD 46 (.fieldA 6 τ6),oD 47 (.load1 (.int .i64) XkE),oD 48 (.fieldA 0 τ6),oD 49 (.loadN [.bool,(.int .u64),(.int .u64)] Xlk),oD 50 (.fieldA 3 τ6),oD 51 (.loadN [.bool,(.int .u64),(.int .u64)] Xlj),oD 52 (.build [(.int .i64 0),(.bool false),(.int .u64 0),(.int .u64 0),(.bool false),(.int .u64 0),(.int .u64 0),(.int .i64 0),(.int .i64 0)] [(0,1,Xj7),(1,3,Xle),(4,3,Xls)]),oD 53 (.build [(.int .i64 0),(.bool false),(.int .u64 0),(.int .u64 0),(.bool false),(.int .u64 0),(.int .u64 0),(.int .i64 0),(.int .i64 0),(.int .i64 0),(.bool false),(.int .u32 0),(.int .u32 0),(.bool false),(.string ⟨⟨[]⟩⟩),(.int .i64 0)] [(15,1,Xj8),(0,9,XlY)]),oD 8 (.alloc [(.int .i64 0),(.bool false),(.int .u64 0),(.int .u64 0),(.bool false),(.int .u64 0),(.int .u64 0),(.int .i64 0),(.int .i64 0),(.int .i64 0),(.bool false),(.int .u32 0),(.int .u32 0),(.bool false),(.string ⟨⟨[]⟩⟩),(.int .i64 0)]),oN (.store 16 τ8 XlZ)]) (.seq (.seq (.reg [oD 54 (.fieldA 6 τ6),oD 55 (.load1 (.int .i64) Xne),oD 56 (.bin .eql Xnt (.const (.int .i64 6)))]) (.cond Xna (.seq (.reg [oD 58 (.fieldA 8 τ6),oD 59 (.load1 .str XnM),oD 60 (.fieldA 0 τ6),oD 61 (.loadN [.bool,(.int .u64),(.int .u64)] Xpe),oD 62 (.fieldA 3 τ6),oD 63 (.loadN [.bool,(.int .u64),(.int .u64)] Xp0),oD 64 (.callF 82 [XnP,Xpr,Xqd]),oM 57 XrS,oE 65 0 Xm4,oE 66 1 Xm4,oE 67 2 Xm4,oD 9 (.alloc [(.int .i64 0),(.int .i64 0),(.int .u32 0),(.int .u32 0),(.int .i64 0),(.int .i64 0),(.int .i64 0),(.string ⟨⟨[]⟩⟩)]),oN (.store 8 τ9 Xr2),oM 10 Xta,oM 11 XrZ]) (.seq (.seq (.reg [oM 68 Xdt,oD 69 (.bin .neq XrX (.const (.int .i64 0)))]) (.cond XsJ (.seq (.reg [oD 70 (.build [(.int .i64 0),(.bool false),(.int .u64 0),(.int .u64 0),(.bool false),(.int .u64 0),(.int .u64 0),(.int .i64 0),(.int .i64 0),(.int .i64 0),(.bool false),(.int .u32 0),(.int .u32 0),(.bool false),(.string ⟨⟨[]⟩⟩),(.int .i64 0)] []),oM 71 Xdt,oN (.store 16 τ2 Xtz),oD 3 (.mv (.const (.int .i64 0))),oD 4 (.mv (.const (.int .i64 0))),oM 5 XtW]) .ret) .skip)) (.seq (.reg [oD 72 (.fieldA 0 τ9),oD 73 (.load1 (.int .i64) Xts),oD 74 (.fieldA 0 τ8),oD 75 (.fieldA 7 XwS),oN (.store 1 XwW XuI)]) (.seq (.reg [oD 76 (.fieldA 1 τ9),oD 77 (.load1 (.int .i64) XAP),oD 78 (.fieldA 0 τ8),oD 79 (.fieldA 8 XxI),oN (.store 1 XAN Xv0)]) (.seq (.reg [oD 80 (.fieldA 4 τ9),oD 81 (.load1 (.int .i64) XAL),oD 82 (.fieldA 9 τ8),oN (.store 1 XHu XEI)]) (.seq (.reg [oD 84 (.fieldA 7 τ9),oD 85 (.load1 .str XIg),oD 86 (.callF 83 [XMg]),oM 83 XMu,oE 87 0 XAX,oE 88 1 XAX,oE 89 2 XAX,oM 12 XMt,oM 13 XMk,oM 14 XMr]) (.seq (.seq (.reg [oM 90 XeX,oD 91 (.bin .geq XMy (.const (.int .i64 0)))]) (.cond XMh (.seq (.reg [oD 92 (.fieldA 10 τ8),oN (.store 1 XMl (.const (.bool true)))]) (.seq (.reg [oM 93 Xeg,oD 94 (.fieldA 11 τ8),oN (.store 1 XIy XMq)]) (.reg [oM 95 XdS,oD 96 (.fieldA 12 τ8),oN (.store 1 XMn XMx)]))) .skip)) (.seq XM7 .ret)))))))) .skip)) (.seq (.seq (.reg [oD 107 (.fieldA 6 τ6),oD 108 (.load1 (.int .i64) XMJ),oD 109 (.bin .neq XOj (.const (.int .i64 17)))]) (.cond XSP (.seq (.reg [oD 110 (.build [(.int .i64 0),(.bool false),(.int .u64 0),(.int .u64 0),(.bool false),(.int .u64 0),(.int .u64 0),(.int .i64 0),(.int .i64 0),(.int .i64 0),(.bool false),(.int .u32 0),(.int .u32 0),(.bool false),(.string ⟨⟨[]⟩⟩),(.int .i64 0)] []),oN (.store 16 τ2 XNG),oD 3 (.mv (.const (.int .i64 0))),oD 4 (.mv (.const (.int .i64 0))),oD 5 (.mv (.const (.int .i64 6)))]) .ret) .skip)) (.seq (.reg [oD 112 (.fieldA 8 τ6),oD 113 (.load1 .str XSz),oD 114 (.fieldA 0 τ6),oD 115 (.loadN [.bool,(.int .u64),(.int .u64)] XRX),oD 116 (.fieldA 3 τ6),oD 117 (.loadN [.bool,(.int .u64),(.int .u64)] XPl),oD 118 (.callF 84 [XNX,XNI,XPr]),oM 111 XOo,oE 119 0 XDf,oE 120 1 XDf,oE 121 2 XDf,oD 15 (.alloc [(.int .i64 0),(.int .i64 0)]),oN (.store 2 XeQ XQh),oM 16 XNm,oM 7 XM9]) (.seq (.seq (.reg [oM 122 τ7,oD 123 (.bin .neq XNP (.const (.int .i64 0)))]) (.cond XRK (.seq (.reg [oD 124 (.build [(.int .i64 0),(.bool false),(.int .u64 0),(.int .u64 0),(.bool false),(.int .u64 0),(.int .u64 0),(.int .i64 0),(.int .i64 0),(.int .i64 0),(.bool false),(.int .u32 0),(.int .u32 0),(.bool false),(.string ⟨⟨[]⟩⟩),(.int .i64 0)] []),oM 125 τ7,oN (.store 16 τ2 XOc),oD 3 (.mv (.const (.int .i64 0))),oD 4 (.mv (.const (.int .i64 0))),oM 5 XOz]) .ret) .skip)) (.seq (.seq (.reg [oM 126 XeY,oD 127 (.lenS XOe),oD 128 (.bin .add XNt (.const (.int .i64 8))),oD 129 (.fieldA 8 τ6),oD 130 (.load1 .str XNr),oD 131 (.lenS XP7),oD 132 (.bin .neq XPY XSZ)]) (.cond XR5 (.seq (.reg [oD 133 (.build [(.int .i64 0),(.bool false),(.int .u64 0),(.int .u64 0),(.bool false),(.int .u64 0),(.int .u64 0),(.int .i64 0),(.int .i64 0),(.int .i64 0),(.bool false),(.int .u32 0),(.int .u32 0),(.bool false),(.string ⟨⟨[]⟩⟩),(.int .i64 0)] []),oN (.store 16 τ2 XOY),oD 3 (.mv (.const (.int .i64 0))),oD 4 (.mv (.const (.int .i64 0))),oD 5 (.mv (.const (.int .i64 5)))]) .ret) .skip)) (.seq (.reg [oD 134 (.fieldA 0 XeQ),oD 135 (.load1 (.int .i64) XM0),oD 136 (.fieldA 0 τ8),oD 137 (.fieldA 7 XOa),oN (.store 1 XO6 XTb)]) (.seq (.reg [oD 138 (.fieldA 1 XeQ),oD 139 (.load1 (.int .i64) XNi),oD 140 (.fieldA 0 τ8),oD 141 (.fieldA 8 XQL),oN (.store 1 XN0 XQM)]) (.seq (.reg [oM 143 XeY,oD 144 (.callF 75 [XOO]),oM 142 XRQ,oE 145 0 XK5,oE 146 1 XK5,oD 17 (.alloc [(.bool false),(.int .i64 0),(.int .u32 0),(.string ⟨⟨[]⟩⟩),(.string ⟨⟨[]⟩⟩),(.string ⟨⟨[]⟩⟩)]),oN (.store 6 Xe5 τ145),oM 7 XJG]) (.seq (.seq (.reg [oM 147 τ7,oD 148 (.bin .eql XRL (.const (.int .i64 0)))]) (.cond XQX (.seq (.reg [oD 149 (.fieldA 0 Xe5),oD 150 (.load1 .bool XRV),oD 151 (.fieldA 13 τ8),oN (.store 1 XRG XOA)]) (.reg [oD 152 (.fieldA 3 Xe5),oD 153 (.load1 .str XPH),oD 154 (.fieldA 14 τ8),oN (.store 1 XTe XND)])) .skip)) (.seq XRa .ret))))))))))))))))
def fn49:VFn:=⟨161,XFD,[.cell 2 [(.int .i64),.bool,(.int .u64),(.int .u64),.bool,(.int .u64),(.int .u64),(.int .i64),(.int .i64),(.int .i64),.bool,(.int .u32),(.int .u32),.bool,.str,(.int .i64)] true,.tmp 3,.tmp 4,.tmp 5]⟩
def XF7:VC:=.seq (.reg [oD 2 (.alloc [(.bool false),(.int .u64 0),(.int .u64 0),(.bool false),(.int .u64 0),(.int .u64 0),(.int .i64 0),(.int .i64 0),(.string ⟨⟨[]⟩⟩)]),oD 3 (.mv (.const (.int .i64 0)))]) (.seq (.seq (.reg [oM 10 τ0,oD 11 (.idxS XdG (.const (.int .i64 0))),oD 12 (.bin .quo Xdt (.const (.int .u8 16))),oD 13 (.bin .eql Xeg (.const (.int .u8 4)))]) (.cond XdS (.seq (.reg [oM 15 τ0,oD 16 (.callF 110 [XeQ]),oM 14 XeY,oE 17 0 XeX,oE 18 1 XeX,oE 19 2 XeX,oD 4 (.alloc [(.int .i64 0),(.int .i64 0),(.bool false),(.int .i64 0),(.int .i64 0),(.bool false),(.int .u64 0),(.int .u64 0),(.bool false),(.int .u64 0),(.int .u64 0),(.string ⟨⟨[]⟩⟩)]),oN (.store 12 τ4 Xe5),oM 5 XfK,oM 6 XfU]) (.seq (.reg [oD 20 (.fieldA 5 τ4),oD 21 (.loadN [.bool,(.int .u64),(.int .u64)] Xf3),oD 22 (.fieldA 8 τ4),oD 23 (.loadN [.bool,(.int .u64),(.int .u64)] XgR),oD 24 (.fieldA 4 τ4),oD 25 (.load1 (.int .i64) Xf2),oD 26 (.fieldA 11 τ4),oD 27 (.load1 .str Xg5),oD 28 (.lenS Xhd),oD 29 (.bin .add (.const (.int .i64 20)) Xhe),oM 30 τ5,oD 31 (.build [(.bool false),(.int .u64 0),(.int .u64 0),(.bool false),(.int .u64 0),(.int .u64 0),(.int .i64 0),(.int .i64 0),(.string ⟨⟨[]⟩⟩)] [(0,3,Xf9),(3,3,XgP),(6,1,Xhc),(7,1,Xha),(8,1,XhJ)]),oM 32 τ6,oN (.store 9 τ2 XhR),oM 3 Xho]) .ret)) .skip)) (.seq (.seq (.reg [oM 33 τ0,oD 34 (.idxS Xh8 (.const (.int .i64 0))),oD 35 (.bin .quo Xic (.const (.int .u8 16))),oD 36 (.bin .eql Xig (.const (.int .u8 6)))]) (.cond Xin (.seq (.reg [oM 38 τ0,oD 39 (.callF 111 [Xja]),oM 37 Xi6,oE 40 0 XhW,oE 41 1 XhW,oE 42 2 XhW,oD 7 (.alloc [(.int .i64 0),(.int .i64 0),(.int .i64 0),(.int .i64 0),(.bool false),(.int .u64 0),(.int .u64 0),(.bool false),(.int .u64 0),(.int .u64 0)]),oN (.store 10 τ7 Xj4),oM 8 XjR,oM 9 Xjs]) (.seq (.reg [oD 43 (.fieldA 4 τ7),oD 44 (.loadN [.bool,(.int .u64),(.int .u64)] XjD),oD 45 (.fieldA 7 τ7),oD 46 (.loadN [.bool,(.int .u64),(.int .u64)] Xj8),oD 47 (.fieldA 2 τ7),oD 48 (.load1 (.int .i64) Xj7),oM 49 τ8,oD 50 (.build [(.bool false),(.int .u64 0),(.int .u64 0),(.bool false),(.int .u64 0),(.int .u64 0),(.int .i64 0),(.int .i64 0),(.string ⟨⟨[]⟩⟩)] [(0,3,Xka),(3,3,XkE),(6,1,Xlk),(7,1,(.const (.int .i64 40))),(8,1,Xle)]),oM 51 τ9,oN (.store 9 τ2 Xlj),oM 3 Xls]) .ret)) .skip)) (.seq (.reg [oD 52 (.build [(.bool false),(.int .u64 0),(.int .u64 0),(.bool false),(.int .u64 0),(.int .u64 0),(.int .i64 0),(.int .i64 0),(.string ⟨⟨[]⟩⟩)] []),oN (.store 9 τ2 XlY),oD 3 (.mv (.const (.int .i64 3)))]) .ret)))
def fn81:VFn:=⟨53,XF7,[.cell 2 [.bool,(.int .u64),(.int .u64),.bool,(.int .u64),(.int .u64),(.int .i64),(.int .i64),.str] true,.tmp 3]⟩
def XSK:VC:=.regD [oM 15 τ0,oD 16 (.idxS XeQ (.const (.int .i64 0))),oD 17 (.bin .rem XeY (.const (.int .u8 16))),oD 18 (.conv .i64 Xe5),oD 19 (.bin .mul (.const (.int .i64 4)) XfK),oM 20 τ0,oD 21 (.callF 62 [Xf3,(.const (.int .i64 2)),(.const (.int .i64 2))])] [] [oM 5 XfU,oM 6 Xf9]
def XLo:VC:=.regD [oM 73 τ0,oD 74 (.idxS XuI (.const (.int .i64 1))),oD 75 (.conv .i64 XwS),oM 76 τ0,oD 77 (.callF 62 [XAP,(.const (.int .i64 4)),(.const (.int .i64 2))]),oM 78 τ0,oD 79 (.idxS XxI (.const (.int .i64 6))),oD 80 (.bin .eql XAN (.const (.int .u8 64))),oM 81 τ0,oD 82 (.idxS XEI (.const (.int .i64 8))),oD 83 (.conv .i64 XHu),oM 84 τ0,oD 85 (.idxS XIg (.const (.int .i64 9))),oD 86 (.conv .i64 XMg),oD 87 (.loadN [.bool,(.int .u64),(.int .u64)] τ7),oD 88 (.loadN [.bool,(.int .u64),(.int .u64)] τ9),oM 89 τ0,oM 90 τ5,oD 91 (.sliceS XMr (some (.const (.int .i64 20))) (some XMy)),oD 92 (.build [(.int .i64 0),(.int .i64 0),(.bool false),(.int .i64 0),(.int .i64 0),(.bool false),(.int .u64 0),(.int .u64 0),(.bool false),(.int .u64 0),(.int .u64 0),(.string ⟨⟨[]⟩⟩)] [(0,1,XwW),(1,1,Xv0),(2,1,XAL),(3,1,XAX),(4,1,XMu),(5,3,XMt),(8,3,XMk),(11,1,XMh)]),oM 93 τ0,oM 94 τ5,oM 95 τ6,oD 96 (.sliceS XMq (some XIy) (some XMx)),oN (.store 12 τ2 XMl)] [(4,14),(4,15)] [oM 3 XMn,oD 4 (.mv (.const (.int .i64 0)))]
def XAw:VC:=.seq (.reg [oD 2 (.alloc [(.int .i64 0),(.int .i64 0),(.bool false),(.int .i64 0),(.int .i64 0),(.bool false),(.int .u64 0),(.int .u64 0),(.bool false),(.int .u64 0),(.int .u64 0),(.string ⟨⟨[]⟩⟩)]),oD 3 (.mv (.const (.string ⟨⟨[]⟩⟩))),oD 4 (.mv (.const (.int .i64 0)))]) (.seq (.seq (.reg [oM 11 τ0,oD 12 (.lenS Xdt),oD 13 (.bin .lss Xeg (.const (.int .i64 20)))]) (.cond XdS (.seq (.reg [oD 14 (.build [(.int .i64 0),(.int .i64 0),(.bool false),(.int .i64 0),(.int .i64 0),(.bool false),(.int .u64 0),(.int .u64 0),(.bool false),(.int .u64 0),(.int .u64 0),(.string ⟨⟨[]⟩⟩)] []),oN (.store 12 τ2 XeX),oD 3 (.mv (.const (.string ⟨⟨[]⟩⟩))),oD 4 (.mv (.const (.int .i64 2)))]) .ret) .skip)) (.seq XSK (.seq (.seq (.reg [oM 22 τ0,oD 23 (.idxS XgR (.const (.int .i64 0))),oD 24 (.bin .quo XgP (.const (.int .u8 16))),oD 25 (.bin .neq Xf2 (.const (.int .u8 4))),oM 26 Xhc,oG 27 (.mv τ5) 26 false,oG 28 (.bin .lss Xhd (.const (.int .i64 20))) 26 false,oD 29 (.pick Xg5 (.const (.bool true)) Xhe),oM 30 Xha,oG 31 (.mv τ6) 30 false,oG 32 (.mv τ5) 30 false,oG 33 (.bin .lss XhR Xho) 30 false,oD 34 (.pick XhJ (.const (.bool true)) Xh8)]) (.cond Xic (.seq (.reg [oD 35 (.build [(.int .i64 0),(.int .i64 0),(.bool false),(.int .i64 0),(.int .i64 0),(.bool false),(.int .u64 0),(.int .u64 0),(.bool false),(.int .u64 0),(.int .u64 0),(.string ⟨⟨[]⟩⟩)] []),oN (.store 12 τ2 Xig),oD 3 (.mv (.const (.string ⟨⟨[]⟩⟩))),oD 4 (.mv (.const (.int .i64 3)))]) .ret) .skip)) (.seq (.seq (.reg [oM 36 τ0,oD 37 (.lenS Xin),oM 38 τ6,oD 39 (.bin .lss XhW Xja)]) (.cond Xi6 (.seq (.reg [oD 40 (.build [(.int .i64 0),(.int .i64 0),(.bool false),(.int .i64 0),(.int .i64 0),(.bool false),(.int .u64 0),(.int .u64 0),(.bool false),(.int .u64 0),(.int .u64 0),(.string ⟨⟨[]⟩⟩)] []),oN (.store 12 τ2 Xj4),oD 3 (.mv (.const (.string ⟨⟨[]⟩⟩))),oD 4 (.mv (.const (.int .i64 2)))]) .ret) .skip)) (.seq (.seq (.reg [oM 41 τ0,oM 42 τ5,oD 43 (.sliceS XjR none (some Xjs)),oD 44 (.callF 60 [XjD]),oD 45 (.bin .neq Xka (.const (.int .i64 65535)))]) (.cond Xj8 (.seq (.reg [oD 46 (.build [(.int .i64 0),(.int .i64 0),(.bool false),(.int .i64 0),(.int .i64 0),(.bool false),(.int .u64 0),(.int .u64 0),(.bool false),(.int .u64 0),(.int .u64 0),(.string ⟨⟨[]⟩⟩)] []),oN (.store 12 τ2 XkE),oD 3 (.mv (.const (.string ⟨⟨[]⟩⟩))),oD 4 (.mv (.const (.int .i64 4)))]) .ret) .skip)) (.seq (.seq (.reg [oM 47 τ0,oD 48 (.idxS Xj7 (.const (.int .i64 6))),oD 49 (.bin .neq Xlk (.const (.int .u8 0))),oM 50 Xle,oG 51 (.mv τ0) 50 true,oG 52 (.idxS Xls (.const (.int .i64 6))) 50 true,oG 53 (.bin .neq XlY (.const (.int .u8 64))) 50 true,oD 54 (.pick Xlj XlZ (.const (.bool false))),oM 55 Xne,oG 56 (.mv τ0) 55 false,oG 57 (.idxS Xna (.const (.int .i64 7))) 55 false,oG 58 (.bin .neq Xm4 (.const (.int .u8 0))) 55 false,oD 59 (.pick Xnt (.const (.bool true)) XnM)]) (.cond XnP (.seq (.reg [oD 60 (.build [(.int .i64 0),(.int .i64 0),(.bool false),(.int .i64 0),(.int .i64 0),(.bool false),(.int .u64 0),(.int .u64 0),(.bool false),(.int .u64 0),(.int .u64 0),(.string ⟨⟨[]⟩⟩)] []),oN (.store 12 τ2 Xpe),oD 3 (.mv (.const (.string ⟨⟨[]⟩⟩))),oD 4 (.mv (.const (.int .i64 7)))]) .ret) .skip)) (.seq (.reg [oM 62 τ0,oD 63 (.sliceS Xp0 (some (.const (.int .i64 12))) (some (.const (.int .i64 16)))),oD 64 (.callF 127 [Xqd]),oM 61 XrS,oE 65 0 Xpr,oE 66 1 Xpr,oD 7 (.alloc [(.bool false),(.int .u64 0),(.int .u64 0)]),oN (.store 3 τ7 Xr2),oM 8 Xta]) (.seq (.reg [oM 68 τ0,oD 69 (.sliceS XrX (some (.const (.int .i64 16))) (some (.const (.int .i64 20)))),oD 70 (.callF 127 [XsJ]),oM 67 Xtz,oE 71 0 XrZ,oE 72 1 XrZ,oD 9 (.alloc [(.bool false),(.int .u64 0),(.int .u64 0)]),oN (.store 3 τ9 XtW),oM 10 Xts]) (.seq XLo .ret)))))))))
def XQb:VFn:=⟨97,XAw,[.cell 2 [(.int .i64),(.int .i64),.bool,(.int .i64),(.int .i64),.bool,(.int .u64),(.int .u64),.bool,(.int .u64),(.int .u64),.str] true,.tmp 3,.tmp 4]⟩
def Xz1:VC:=.seq (.reg [oD 2 (.alloc [(.bool false),(.int .u64 0),(.int .u64 0)]),oD 3 (.mv (.const (.bool false)))]) (.seq (.seq (.reg [oM 10 τ0,oD 11 (.lenS XdG),oD 12 (.bin .eql Xdt (.const (.int .i64 4)))]) (.cond Xeg (.seq (.reg [oM 14 τ0,oD 15 (.callF 61 [XeX,(.const (.int .i64 0)),(.const (.int .i64 4))]),oM 13 XeQ,oE 16 0 XdS,oE 17 1 XdS,oM 4 XeY,oM 5 Xe5]) (.seq (.reg [oM 18 τ4,oD 19 (.build [(.bool false),(.int .u64 0),(.int .u64 0)] [(2,1,XfK)]),oN (.store 3 τ2 XfU),oD 3 (.mv (.const (.bool true)))]) .ret)) .skip)) (.seq (.seq (.reg [oM 20 τ0,oD 21 (.lenS Xf3),oD 22 (.bin .eql Xf9 (.const (.int .i64 16)))]) (.cond XgR (.seq (.reg [oM 24 τ0,oD 25 (.callF 61 [Xf2,(.const (.int .i64 0)),(.const (.int .i64 8))]),oM 23 Xhc,oE 26 0 XgP,oE 27 1 XgP,oM 6 Xg5,oM 7 Xhd]) (.seq (.reg [oM 29 τ0,oD 30 (.callF 61 [Xha,(.const (.int .i64 8)),(.const (.int .i64 8))]),oM 28 XhJ,oE 31 0 Xhe,oE 32 1 Xhe,oM 8 XhR,oM 9 Xho]) (.seq (.reg [oM 33 τ6,oM 34 τ8,oD 35 (.build [(.bool false),(.int .u64 0),(.int .u64 0)] [(0,1,(.const (.bool true))),(1,1,Xh8),(2,1,Xic)]),oN (.store 3 τ2 Xig),oD 3 (.mv (.const (.bool true)))]) .ret))) .skip)) (.seq (.reg [oD 36 (.build [(.bool false),(.int .u64 0),(.int .u64 0)] []),oN (.store 3 τ2 Xin),oD 3 (.mv (.const (.bool false)))]) .ret)))
def XPc:VFn:=⟨37,Xz1,[.cell 2 [.bool,(.int .u64),(.int .u64)] true,.tmp 3]⟩
def XKu:VC:=.regD [oM 41 τ5,oD 42 (.bin .quo XjR (.const (.int .i64 1048576))),oD 43 (.bin .rem Xjs (.const (.int .i64 256))),oM 44 τ5,oD 45 (.bin .rem Xka (.const (.int .i64 1048576))),oM 46 τ0,oD 47 (.idxS XkE (.const (.int .i64 6))),oD 48 (.conv .i64 Xj7),oM 49 τ0,oD 50 (.idxS Xle (.const (.int .i64 7))),oD 51 (.conv .i64 Xlj),oD 52 (.loadN [.bool,(.int .u64),(.int .u64)] τ7),oD 53 (.loadN [.bool,(.int .u64),(.int .u64)] τ9),oD 54 (.build [(.int .i64 0),(.int .i64 0),(.int .i64 0),(.int .i64 0),(.bool false),(.int .u64 0),(.int .u64 0),(.bool false),(.int .u64 0),(.int .u64 0)] [(0,1,XjD),(1,1,Xj8),(2,1,Xlk),(3,1,Xls),(4,3,XlY),(7,3,XlZ)]),oM 55 τ0,oM 56 τ6,oD 57 (.bin .add (.const (.int .i64 40)) Xna),oD 58 (.sliceS Xnt (some (.const (.int .i64 40))) (some Xm4)),oN (.store 10 τ2 Xne)] [] [oM 3 XnM,oD 4 (.mv (.const (.int .i64 0)))]
def XAI:VC:=.seq (.reg [oD 2 (.alloc [(.int .i64 0),(.int .i64 0),(.int .i64 0),(.int .i64 0),(.bool false),(.int .u64 0),(.int .u64 0),(.bool false),(.int .u64 0),(.int .u64 0)]),oD 3 (.mv (.const (.string ⟨⟨[]⟩⟩))),oD 4 (.mv (.const (.int .i64 0)))]) (.seq (.seq (.reg [oM 11 τ0,oD 12 (.lenS Xdt),oD 13 (.bin .lss Xeg (.const (.int .i64 40)))]) (.cond XdS (.seq (.reg [oD 14 (.build [(.int .i64 0),(.int .i64 0),(.int .i64 0),(.int .i64 0),(.bool false),(.int .u64 0),(.int .u64 0),(.bool false),(.int .u64 0),(.int .u64 0)] []),oN (.store 10 τ2 XeX),oD 3 (.mv (.const (.string ⟨⟨[]⟩⟩))),oD 4 (.mv (.const (.int .i64 2)))]) .ret) .skip)) (.seq (.reg [oM 15 τ0,oD 16 (.callF 62 [XeQ,(.const (.int .i64 0)),(.const (.int .i64 4))]),oM 17 τ0,oD 18 (.callF 62 [Xe5,(.const (.int .i64 4)),(.const (.int .i64 2))]),oM 5 XeY,oM 6 XfK]) (.seq (.seq (.reg [oM 19 τ5,oD 20 (.bin .quo XfU (.const (.int .i64 268435456))),oD 21 (.bin .neq Xf3 (.const (.int .i64 6)))]) (.cond Xf9 (.seq (.reg [oD 22 (.build [(.int .i64 0),(.int .i64 0),(.int .i64 0),(.int .i64 0),(.bool false),(.int .u64 0),(.int .u64 0),(.bool false),(.int .u64 0),(.int .u64 0)] []),oN (.store 10 τ2 XgR),oD 3 (.mv (.const (.string ⟨⟨[]⟩⟩))),oD 4 (.mv (.const (.int .i64 3)))]) .ret) .skip)) (.seq (.seq (.reg [oM 23 τ0,oD 24 (.lenS XgP),oD 25 (.bin .sub Xf2 (.const (.int .i64 40))),oM 26 τ6,oD 27 (.bin .lss Xhc Xg5)]) (.cond Xhd (.seq (.reg [oD 28 (.build [(.int .i64 0),(.int .i64 0),(.int .i64 0),(.int .i64 0),(.bool false),(.int .u64 0),(.int .u64 0),(.bool false),(.int .u64 0),(.int .u64 0)] []),oN (.store 10 τ2 Xhe),oD 3 (.mv (.const (.string ⟨⟨[]⟩⟩))),oD 4 (.mv (.const (.int .i64 2)))]) .ret) .skip)) (.seq (.reg [oM 30 τ0,oD 31 (.sliceS XhJ (some (.const (.int .i64 8))) (some (.const (.int .i64 24)))),oD 32 (.callF 127 [XhR]),oM 29 Xho,oE 33 0 Xha,oE 34 1 Xha,oD 7 (.alloc [(.bool false),(.int .u64 0),(.int .u64 0)]),oN (.store 3 τ7 Xh8),oM 8 Xic]) (.seq (.reg [oM 36 τ0,oD 37 (.sliceS Xin (some (.const (.int .i64 24))) (some (.const (.int .i64 40)))),oD 38 (.callF 127 [XhW]),oM 35 Xja,oE 39 0 Xig,oE 40 1 Xig,oD 9 (.alloc [(.bool false),(.int .u64 0),(.int .u64 0)]),oN (.store 3 τ9 Xi6),oM 10 Xj4]) (.seq XKu .ret)))))))
def XQx:VFn:=⟨59,XAI,[.cell 2 [(.int .i64),(.int .i64),(.int .i64),(.int .i64),.bool,(.int .u64),(.int .u64),.bool,(.int .u64),(.int .u64)] true,.tmp 3,.tmp 4]⟩
def XQW:VC:=.regD [oM 61 τ0,oD 62 (.callF 62 [Xpr,(.const (.int .i64 0)),(.const (.int .i64 2))]),oM 63 τ0,oD 64 (.callF 62 [Xqd,(.const (.int .i64 2)),(.const (.int .i64 2))]),oM 65 τ0,oD 66 (.callF 62 [Xr2,(.const (.int .i64 4)),(.const (.int .i64 4))]),oD 67 (.conv .u32 Xta),oM 68 τ0,oD 69 (.callF 62 [XrX,(.const (.int .i64 8)),(.const (.int .i64 4))]),oD 70 (.conv .u32 XsJ),oM 71 τ0,oD 72 (.idxS XtW (.const (.int .i64 13))),oD 73 (.conv .i64 Xts),oM 74 τ0,oD 75 (.callF 62 [XwS,(.const (.int .i64 14)),(.const (.int .i64 2))]),oM 76 τ0,oD 77 (.callF 62 [XAP,(.const (.int .i64 18)),(.const (.int .i64 2))]),oM 78 τ0,oM 79 τ9,oD 80 (.sliceS XxI (some (.const (.int .i64 20))) (some XAN)),oD 81 (.build [(.int .i64 0),(.int .i64 0),(.int .u32 0),(.int .u32 0),(.int .i64 0),(.int .i64 0),(.int .i64 0),(.string ⟨⟨[]⟩⟩)] [(0,1,Xp0),(1,1,XrS),(2,1,XrZ),(3,1,Xtz),(4,1,XuI),(5,1,XwW),(6,1,Xv0),(7,1,XAL)]),oM 82 τ0,oM 83 τ9,oD 84 (.sliceS XHu (some XAX) none),oN (.store 8 τ6 XEI)] [] [oM 7 XIg,oD 8 (.mv (.const (.int .i64 0)))]
def XFw:VC:=.seq (.reg [oD 4 (.box τ1),oD 5 (.box τ2),oD 6 (.alloc [(.int .i64 0),(.int .i64 0),(.int .u32 0),(.int .u32 0),(.int .i64 0),(.int .i64 0),(.int .i64 0),(.string ⟨⟨[]⟩⟩)]),oD 7 (.mv (.const (.string ⟨⟨[]⟩⟩))),oD 8 (.mv (.const (.int .i64 0)))]) (.seq (.seq (.reg [oM 13 τ0,oD 14 (.lenS XdS),oD 15 (.bin .lss XeX (.const (.int .i64 20)))]) (.cond XeQ (.seq (.reg [oD 16 (.build [(.int .i64 0),(.int .i64 0),(.int .u32 0),(.int .u32 0),(.int .i64 0),(.int .i64 0),(.int .i64 0),(.string ⟨⟨[]⟩⟩)] []),oN (.store 8 τ6 XeY),oD 7 (.mv (.const (.string ⟨⟨[]⟩⟩))),oD 8 (.mv (.const (.int .i64 2)))]) .ret) .skip)) (.seq (.reg [oM 17 τ0,oD 18 (.idxS Xe5 (.const (.int .i64 12))),oD 19 (.bin .quo XfK (.const (.int .u8 16))),oD 20 (.conv .i64 XfU),oD 21 (.bin .mul (.const (.int .i64 4)) Xf3),oM 9 Xf9]) (.seq (.seq (.reg [oM 22 τ9,oD 23 (.bin .lss XgR (.const (.int .i64 20))),oM 24 XgP,oG 25 (.mv τ0) 24 false,oG 26 (.idxS Xhc (.const (.int .i64 12))) 24 false,oG 27 (.bin .rem Xg5 (.const (.int .u8 16))) 24 false,oG 28 (.bin .neq Xhd (.const (.int .u8 0))) 24 false,oD 29 (.pick Xf2 (.const (.bool true)) Xhe)]) (.cond Xha (.seq (.reg [oD 30 (.build [(.int .i64 0),(.int .i64 0),(.int .u32 0),(.int .u32 0),(.int .i64 0),(.int .i64 0),(.int .i64 0),(.string ⟨⟨[]⟩⟩)] []),oN (.store 8 τ6 XhJ),oD 7 (.mv (.const (.string ⟨⟨[]⟩⟩))),oD 8 (.mv (.const (.int .i64 3)))]) .ret) .skip)) (.seq (.seq (.reg [oM 31 τ0,oD 32 (.lenS XhR),oM 33 τ9,oD 34 (.bin .lss Xho Xh8)]) (.cond Xic (.seq (.reg [oD 35 (.build [(.int .i64 0),(.int .i64 0),(.int .u32 0),(.int .u32 0),(.int .i64 0),(.int .i64 0),(.int .i64 0),(.string ⟨⟨[]⟩⟩)] []),oN (.store 8 τ6 Xig),oD 7 (.mv (.const (.string ⟨⟨[]⟩⟩))),oD 8 (.mv (.const (.int .i64 2)))]) .ret) .skip)) (.seq (.reg [oD 36 (.loadN [.bool,(.int .u64),(.int .u64)] τ4),oD 37 (.loadN [.bool,(.int .u64),(.int .u64)] τ5),oM 38 τ0,oD 39 (.lenS Xja),oD 40 (.callF 77 [Xin,XhW,(.const (.int .i64 6)),Xi6]),oM 10 Xj4]) (.seq (.seq (.reg [oM 41 XdG,oD 42 (.bin .eql XjR (.const (.string ⟨⟨[]⟩⟩)))]) (.cond Xjs (.seq (.reg [oD 43 (.build [(.int .i64 0),(.int .i64 0),(.int .u32 0),(.int .u32 0),(.int .i64 0),(.int .i64 0),(.int .i64 0),(.string ⟨⟨[]⟩⟩)] []),oN (.store 8 τ6 XjD),oD 7 (.mv (.const (.string ⟨⟨[]⟩⟩))),oD 8 (.mv (.const (.int .i64 1)))]) .ret) .skip)) (.seq (.seq (.reg [oM 44 XdG,oM 45 τ0,oD 46 (.bin .add Xka Xj8),oD 47 (.callF 60 [XkE]),oD 48 (.bin .neq Xj7 (.const (.int .i64 65535)))]) (.cond Xlk (.seq (.reg [oD 49 (.build [(.int .i64 0),(.int .i64 0),(.int .u32 0),(.int .u32 0),(.int .i64 0),(.int .i64 0),(.int .i64 0),(.string ⟨⟨[]⟩⟩)] []),oN (.store 8 τ6 Xle),oD 7 (.mv (.const (.string ⟨⟨[]⟩⟩))),oD 8 (.mv (.const (.int .i64 4)))]) .ret) .skip)) (.seq (.reg [oM 51 τ0,oM 52 τ9,oD 53 (.sliceS Xls (some (.const (.int .i64 20))) (some XlY)),oD 54 (.callF 112 [XlZ]),oM 50 Xne,oE 55 0 Xlj,oE 56 1 Xlj,oM 11 Xnt,oM 12 Xna]) (.seq (.seq (.reg [oM 57 Xeg,oD 58 (.bin .neq Xm4 (.const (.int .i64 0)))]) (.cond XnM (.seq (.reg [oD 59 (.build [(.int .i64 0),(.int .i64 0),(.int .u32 0),(.int .u32 0),(.int .i64 0),(.int .i64 0),(.int .i64 0),(.string ⟨⟨[]⟩⟩)] []),oM 60 Xeg,oN (.store 8 τ6 XnP),oD 7 (.mv (.const (.string ⟨⟨[]⟩⟩))),oM 8 Xpe]) .ret) .skip)) (.seq XQW .ret))))))))))
def fn82:VFn:=⟨85,XFw,[.cell 6 [(.int .i64),(.int .i64),(.int .u32),(.int .u32),(.int .i64),(.int .i64),(.int .i64),.str] true,.tmp 7,.tmp 8]⟩
def XKU:VC:=.regD [oM 52 τ4,oM 53 τ0,oM 54 τ5,oD 55 (.idxS XlZ Xne),oD 56 (.conv .i64 Xnt),oM 57 τ0,oM 58 τ5,oD 59 (.bin .add XnM (.const (.int .i64 2))),oM 60 τ5,oM 61 τ6,oD 62 (.bin .add Xpe Xpr),oD 63 (.sliceS Xm4 (some XnP) (some Xp0)),oM 64 τ5,oD 65 (.bin .add XrS (.const (.int .i64 2))),oD 66 (.build [(.int .i64 0),(.string ⟨⟨[]⟩⟩),(.int .i64 0)] [(0,1,Xna),(1,1,Xqd),(2,1,Xr2)]),oD 67 (.buildSl 1 3 [(.int .i64 0),(.string ⟨⟨[]⟩⟩),(.int .i64 0)] [(0,3,Xta)])] [] [oD 68 (.app 168 3 32 XlY XrZ),oM 4 XrX]
def Xtm:VC:=.seq (.seq (.reg [oM 7 τ5,oM 8 τ0,oD 9 (.lenS τ8),oD 10 (.bin .lss τ7 τ9),oM 11 XdG,oG 12 (.mv τ0) 11 true,oG 13 (.mv τ5) 11 true,oG 14 (.idxS Xeg XdS) 11 true,oG 15 (.bin .neq XeX (.const (.int .u8 0))) 11 true,oD 16 (.pick Xdt XeQ (.const (.bool false)))]) (.cond XeY .skip (.exit 0))) (.block 1 (.seq (.seq (.reg [oM 17 τ0,oM 18 τ5,oD 19 (.idxS Xe5 XfK),oD 20 (.bin .eql XfU (.const (.int .u8 1)))]) (.cond Xf3 (.seq (.reg [oM 21 τ5,oD 22 (.bin .add Xf9 (.const (.int .i64 1))),oM 5 XgR]) (.exit 1)) .skip)) (.seq (.seq (.reg [oM 23 τ5,oD 24 (.bin .add XgP (.const (.int .i64 1))),oM 25 τ0,oD 26 (.lenS Xhc),oD 27 (.bin .geq Xf2 Xg5),oM 28 Xhd,oG 29 (.mv τ0) 28 false,oG 30 (.mv τ5) 28 false,oG 31 (.bin .add XhJ (.const (.int .i64 1))) 28 false,oG 32 (.idxS Xha XhR) 28 false,oG 33 (.bin .lss Xho (.const (.int .u8 2))) 28 false,oD 34 (.pick Xhe (.const (.bool true)) Xh8),oM 35 Xic,oG 36 (.mv τ0) 35 false,oG 37 (.mv τ5) 35 false,oG 38 (.bin .add XhW (.const (.int .i64 1))) 35 false,oG 39 (.idxS Xin Xja) 35 false,oG 40 (.conv .i64 Xi6) 35 false,oG 41 (.mv τ0) 35 false,oG 42 (.lenS XjR) 35 false,oG 43 (.mv τ5) 35 false,oG 44 (.bin .sub Xjs XjD) 35 false,oG 45 (.bin .gtr Xj4 Xka) 35 false,oD 46 (.pick Xig (.const (.bool true)) Xj8)]) (.cond XkE (.seq (.reg [oD 2 (.mv (.const (.slice none 0 0))),oD 3 (.mv (.const (.int .i64 3)))]) .ret) .skip)) (.seq (.reg [oM 47 τ0,oM 48 τ5,oD 49 (.bin .add Xlk (.const (.int .i64 1))),oD 50 (.idxS Xj7 Xle),oD 51 (.conv .i64 Xlj),oM 6 Xls]) (.seq XKU (.reg [oM 69 τ5,oM 70 τ6,oD 71 (.bin .add XsJ Xtz),oM 5 XtW]))))))
def XxE:VC:=.seq (.reg [oM 72 τ4,oM 2 Xts,oD 3 (.mv (.const (.int .i64 0)))]) .ret
def Xzg:VC:=.seq (.reg [oD 2 (.mv (.const (.slice none 0 0))),oD 3 (.mv (.const (.int .i64 0)))]) (.seq (.reg [oD 4 (.mv (.const (.slice none 0 0)))]) (.seq (.seq (.reg [oD 5 (.mv (.const (.int .i64 0)))]) (.block 0 (.loop Xtm))) XxE))
def XQz:VFn:=⟨73,Xzg,[.tmp 2,.tmp 3]⟩
def XNZ:VC:=.regD [oM 32 τ5,oM 33 τ7,oD 34 (.idxAL 3 Xho Xh8),oD 35 (.fieldA 1 Xic),oD 36 (.load1 .str Xig),oD 37 (.callF 62 [Xin,(.const (.int .i64 0)),(.const (.int .i64 4))]),oD 38 (.conv .u32 XhW),oM 39 τ5,oM 40 τ7,oD 41 (.idxAL 3 Xi6 Xj4),oD 42 (.fieldA 1 XjR),oD 43 (.load1 .str Xjs),oD 44 (.callF 62 [XjD,(.const (.int .i64 4)),(.const (.int .i64 4))]),oD 45 (.conv .u32 Xka),oM 46 τ5,oM 47 τ7,oD 48 (.idxAL 3 XkE Xj7),oD 49 (.fieldA 2 Xlk),oD 50 (.load1 (.int .i64) Xle),oM 2 Xja,oM 3 Xj8] [(5,11),(5,18),(12,18)] [oM 4 Xlj]
def XxK:VC:=.seq (.seq (.reg [oM 13 τ7,oM 14 τ5,oD 15 (.lenL XeX),oD 16 (.bin .lss XdS XeQ)]) (.cond XeY .skip (.exit 0))) (.seq (.block 1 (.seq (.reg [oM 19 τ5,oM 20 τ7,oD 21 (.idxAL 3 XfU Xf3),oD 22 (.fieldA 0 Xf9),oD 23 (.load1 (.int .i64) XgR),oD 24 (.bin .eql XgP (.const (.int .i64 8)))]) (.cond Xf2 (.seq (.seq (.reg [oM 25 τ5,oM 26 τ7,oD 27 (.idxAL 3 Xhc Xg5),oD 28 (.fieldA 1 Xhd),oD 29 (.load1 .str Xhe),oD 30 (.lenS Xha),oD 31 (.bin .neq XhJ (.const (.int .i64 8)))]) (.cond XhR (.seq (.reg [oD 2 (.mv (.const (.int .u32 0))),oD 3 (.mv (.const (.int .u32 0))),oD 4 (.mv (.const (.int .i64 (-1))))]) .ret) .skip)) (.seq XNZ .ret)) .skip))) (.reg [oM 17 τ7,oD 18 (.bin .add Xe5 (.const (.int .i64 1))),oM 7 XfK]))
def XGQ:VC:=.seq (.reg [oD 2 (.mv (.const (.int .u32 0))),oD 3 (.mv (.const (.int .u32 0))),oD 4 (.mv (.const (.int .i64 (-1))))]) .ret
def XEW:VC:=.seq (.reg [oD 2 (.mv (.const (.int .u32 0))),oD 3 (.mv (.const (.int .u32 0))),oD 4 (.mv (.const (.int .i64 0)))]) (.seq (.reg [oM 9 τ0,oD 10 (.callF 112 [τ9]),oM 8 XdG,oE 11 0 τ8,oE 12 1 τ8,oM 5 Xdt,oM 6 Xeg]) (.seq (.seq (.reg [oD 7 (.mv (.const (.int .i64 0)))]) (.block 0 (.loop XxK))) XGQ))
def fn83:VFn:=⟨51,XEW,[.tmp 2,.tmp 3,.tmp 4]⟩
def XNQ:VC:=.regD [oM 46 τ0,oD 47 (.callF 62 [XkE,(.const (.int .i64 0)),(.const (.int .i64 2))]),oM 48 τ0,oD 49 (.callF 62 [Xlk,(.const (.int .i64 2)),(.const (.int .i64 2))]),oD 50 (.build [(.int .i64 0),(.int .i64 0)] [(0,1,Xj7),(1,1,Xle)]),oM 51 τ0,oM 52 τ9,oD 53 (.sliceS Xls (some (.const (.int .i64 8))) (some XlY)),oN (.store 2 τ6 Xlj)] [] [oM 7 XlZ,oD 8 (.mv (.const (.int .i64 0)))]
def XFT:VC:=.seq (.reg [oD 4 (.box τ1),oD 5 (.box τ2),oD 6 (.alloc [(.int .i64 0),(.int .i64 0)]),oD 7 (.mv (.const (.string ⟨⟨[]⟩⟩))),oD 8 (.mv (.const (.int .i64 0)))]) (.seq (.seq (.reg [oM 11 τ0,oD 12 (.lenS Xdt),oD 13 (.bin .lss Xeg (.const (.int .i64 8)))]) (.cond XdS (.seq (.reg [oD 14 (.build [(.int .i64 0),(.int .i64 0)] []),oN (.store 2 τ6 XeX),oD 7 (.mv (.const (.string ⟨⟨[]⟩⟩))),oD 8 (.mv (.const (.int .i64 2)))]) .ret) .skip)) (.seq (.reg [oM 15 τ0,oD 16 (.callF 62 [XeQ,(.const (.int .i64 4)),(.const (.int .i64 2))]),oM 9 XeY]) (.seq (.seq (.reg [oM 17 τ9,oD 18 (.bin .lss Xe5 (.const (.int .i64 8)))]) (.cond XfK (.seq (.reg [oD 19 (.build [(.int .i64 0),(.int .i64 0)] []),oN (.store 2 τ6 XfU),oD 7 (.mv (.const (.string ⟨⟨[]⟩⟩))),oD 8 (.mv (.const (.int .i64 3)))]) .ret) .skip)) (.seq (.seq (.reg [oM 20 τ0,oD 21 (.lenS Xf3),oM 22 τ9,oD 23 (.bin .lss Xf9 XgR)]) (.cond XgP (.seq (.reg [oD 24 (.build [(.int .i64 0),(.int .i64 0)] []),oN (.store 2 τ6 Xf2),oD 7 (.mv (.const (.string ⟨⟨[]⟩⟩))),oD 8 (.mv (.const (.int .i64 2)))]) .ret) .skip)) (.seq (.reg [oD 25 (.loadN [.bool,(.int .u64),(.int .u64)] τ4),oD 26 (.loadN [.bool,(.int .u64),(.int .u64)] τ5),oM 27 τ9,oD 28 (.callF 77 [Xhc,Xg5,(.const (.int .i64 17)),Xhd]),oM 10 Xhe]) (.seq (.seq (.reg [oM 29 XdG,oD 30 (.bin .eql Xha (.const (.string ⟨⟨[]⟩⟩)))]) (.cond XhJ (.seq (.reg [oD 31 (.build [(.int .i64 0),(.int .i64 0)] []),oN (.store 2 τ6 XhR),oD 7 (.mv (.const (.string ⟨⟨[]⟩⟩))),oD 8 (.mv (.const (.int .i64 1)))]) .ret) .skip)) (.seq (.seq (.reg [oM 32 τ0,oD 33 (.callF 62 [Xho,(.const (.int .i64 6)),(.const (.int .i64 2))]),oD 34 (.bin .eql Xh8 (.const (.int .i64 0)))]) (.cond Xic (.seq (.reg [oD 35 (.fieldA 0 τ4),oD 36 (.load1 .bool Xig)]) (.cond Xin (.seq (.reg [oD 37 (.build [(.int .i64 0),(.int .i64 0)] []),oN (.store 2 τ6 XhW),oD 7 (.mv (.const (.string ⟨⟨[]⟩⟩))),oD 8 (.mv (.const (.int .i64 4)))]) .ret) .skip)) (.seq (.reg [oM 38 XdG,oM 39 τ0,oM 40 τ9,oD 41 (.sliceS Xi6 none (some Xj4)),oD 42 (.bin .add Xja XjR),oD 43 (.callF 60 [Xjs]),oD 44 (.bin .neq XjD (.const (.int .i64 65535)))]) (.cond Xka (.seq (.reg [oD 45 (.build [(.int .i64 0),(.int .i64 0)] []),oN (.store 2 τ6 Xj8),oD 7 (.mv (.const (.string ⟨⟨[]⟩⟩))),oD 8 (.mv (.const (.int .i64 4)))]) .ret) .skip)))) (.seq XNQ .ret))))))))
def fn84:VFn:=⟨54,XFT,[.cell 6 [(.int .i64),(.int .i64)] true,.tmp 7,.tmp 8]⟩
def XOq:VC:=.regD [oM 19 τ0,oD 20 (.idxS XfU (.const (.int .i64 0))),oD 21 (.bin .geq Xf3 (.const (.int .u8 128))),oM 22 τ0,oD 23 (.idxS XgR (.const (.int .i64 0))),oD 24 (.bin .rem XgP (.const (.int .u8 64))),oD 25 (.conv .i64 Xf2),oD 26 (.build [(.bool false),(.int .i64 0),(.int .u32 0),(.string ⟨⟨[]⟩⟩),(.string ⟨⟨[]⟩⟩),(.string ⟨⟨[]⟩⟩)] [(0,1,Xf9),(1,1,Xhc)]),oD 4 (.alloc [(.bool false),(.int .i64 0),(.int .u32 0),(.string ⟨⟨[]⟩⟩),(.string ⟨⟨[]⟩⟩),(.string ⟨⟨[]⟩⟩)])] [] [oN (.store 6 τ4 Xg5)]
def XFV:VC:=.seq (.reg [oD 2 (.alloc [(.bool false),(.int .i64 0),(.int .u32 0),(.string ⟨⟨[]⟩⟩),(.string ⟨⟨[]⟩⟩),(.string ⟨⟨[]⟩⟩)]),oD 3 (.mv (.const (.int .i64 0)))]) (.seq (.seq (.reg [oM 10 τ0,oD 11 (.bin .eql XdG (.const (.string ⟨⟨[]⟩⟩)))]) (.cond Xdt (.seq (.reg [oD 12 (.build [(.bool false),(.int .i64 0),(.int .u32 0),(.string ⟨⟨[]⟩⟩),(.string ⟨⟨[]⟩⟩),(.string ⟨⟨[]⟩⟩)] []),oN (.store 6 τ2 Xeg),oD 3 (.mv (.const (.int .i64 2)))]) .ret) .skip)) (.seq (.seq (.reg [oM 13 τ0,oD 14 (.idxS XdS (.const (.int .i64 0))),oD 15 (.bin .quo XeX (.const (.int .u8 64))),oD 16 (.bin .rem XeQ (.const (.int .u8 2))),oD 17 (.bin .eql XeY (.const (.int .u8 0)))]) (.cond Xe5 (.seq (.reg [oD 18 (.build [(.bool false),(.int .i64 0),(.int .u32 0),(.string ⟨⟨[]⟩⟩),(.string ⟨⟨[]⟩⟩),(.string ⟨⟨[]⟩⟩)] []),oN (.store 6 τ2 XfK),oD 3 (.mv (.const (.int .i64 3)))]) .ret) .skip)) (.seq XOq (.seq (.seq (.reg [oD 27 (.fieldA 0 τ4),oD 28 (.load1 .bool Xhd),oD 29 (.not Xhe)]) (.cond Xha (.seq (.seq (.reg [oM 30 τ0,oD 31 (.lenS XhJ),oD 32 (.bin .lss XhR (.const (.int .i64 9)))]) (.cond Xho (.seq (.reg [oD 33 (.build [(.bool false),(.int .i64 0),(.int .u32 0),(.string ⟨⟨[]⟩⟩),(.string ⟨⟨[]⟩⟩),(.string ⟨⟨[]⟩⟩)] []),oN (.store 6 τ2 Xh8),oD 3 (.mv (.const (.int .i64 2)))]) .ret) .skip)) (.seq (.reg [oM 34 τ0,oD 35 (.sliceS Xic (some (.const (.int .i64 1))) (some (.const (.int .i64 9)))),oD 36 (.fieldA 3 τ4),oN (.store 1 Xin Xig)]) (.seq (.reg [oM 37 τ0,oD 38 (.sliceS XhW (some (.const (.int .i64 9))) none),oD 39 (.fieldA 5 τ4),oN (.store 1 Xi6 Xja)]) (.seq (.reg [oD 40 (.loadN [.bool,(.int .i64),(.int .u32),.str,.str,.str] τ4),oN (.store 6 τ2 Xj4),oD 3 (.mv (.const (.int .i64 0)))]) .ret)))) .skip)) (.seq (.seq (.reg [oM 41 τ0,oD 42 (.lenS XjR),oD 43 (.bin .lss Xjs (.const (.int .i64 5)))]) (.cond XjD (.seq (.reg [oD 44 (.build [(.bool false),(.int .i64 0),(.int .u32 0),(.string ⟨⟨[]⟩⟩),(.string ⟨⟨[]⟩⟩),(.string ⟨⟨[]⟩⟩)] []),oN (.store 6 τ2 Xka),oD 3 (.mv (.const (.int .i64 2)))]) .ret) .skip)) (.seq (.reg [oM 45 τ0,oD 46 (.callF 62 [Xj8,(.const (.int .i64 1)),(.const (.int .i64 4))]),oD 47 (.conv .u32 XkE),oD 48 (.fieldA 2 τ4),oN (.store 1 Xlk Xj7)]) (.seq (.reg [oM 50 τ0,oD 51 (.callF 101 [Xlj,(.const (.int .i64 5))]),oM 49 Xls,oE 52 0 Xle,oE 53 1 Xle,oE 54 2 Xle,oM 5 XlY,oM 6 XlZ,oM 7 Xne]) (.seq (.seq (.reg [oM 55 τ6,oD 56 (.bin .neq Xnt (.const (.int .i64 0)))]) (.cond Xna (.seq (.reg [oD 57 (.build [(.bool false),(.int .i64 0),(.int .u32 0),(.string ⟨⟨[]⟩⟩),(.string ⟨⟨[]⟩⟩),(.string ⟨⟨[]⟩⟩)] []),oM 58 τ6,oN (.store 6 τ2 Xm4),oM 3 XnM]) .ret) .skip)) (.seq (.reg [oM 60 τ0,oM 61 τ7,oD 62 (.callF 101 [Xpe,Xpr]),oM 59 Xp0,oE 63 0 XnP,oE 64 1 XnP,oE 65 2 XnP,oM 8 Xqd,oM 6 XrS,oM 9 Xr2]) (.seq (.seq (.reg [oM 66 τ6,oD 67 (.bin .neq Xta (.const (.int .i64 0)))]) (.cond XrZ (.seq (.reg [oD 68 (.build [(.bool false),(.int .i64 0),(.int .u32 0),(.string ⟨⟨[]⟩⟩),(.string ⟨⟨[]⟩⟩),(.string ⟨⟨[]⟩⟩)] []),oM 69 τ6,oN (.store 6 τ2 XrX),oM 3 XsJ]) .ret) .skip)) (.seq (.reg [oM 70 τ5,oD 71 (.fieldA 3 τ4),oN (.store 1 XtW Xtz)]) (.seq (.reg [oM 72 τ8,oD 73 (.fieldA 4 τ4),oN (.store 1 XuI Xts)]) (.seq (.reg [oM 74 τ0,oM 75 τ9,oD 76 (.sliceS XwS (some XwW) none),oD 77 (.fieldA 5 τ4),oN (.store 1 Xv0 XAP)]) (.seq (.reg [oD 78 (.loadN [.bool,(.int .i64),(.int .u32),.str,.str,.str] τ4),oN (.store 6 τ2 XxI),oD 3 (.mv (.const (.int .i64 0)))]) .ret))))))))))))))
def fn75:VFn:=⟨79,XFV,[.cell 2 [.bool,(.int .i64),(.int .u32),.str,.str,.str] true,.tmp 3]⟩
def XzN:VC:=.seq (.reg [oD 4 (.mv (.const (.string ⟨⟨[]⟩⟩))),oD 5 (.mv (.const (.int .i64 0))),oD 6 (.mv (.const (.int .i64 0)))]) (.seq (.seq (.reg [oM 8 τ1,oM 9 τ0,oD 10 (.lenS τ9),oD 11 (.bin .geq τ8 XdG)]) (.cond Xdt (.seq (.reg [oD 4 (.mv (.const (.string ⟨⟨[]⟩⟩))),oD 5 (.mv (.const (.int .i64 2))),oD 6 (.mv (.const (.int .i64 0)))]) .ret) .skip)) (.seq (.reg [oM 12 τ0,oM 13 τ1,oD 14 (.idxS Xeg XdS),oD 15 (.conv .i64 XeX),oM 7 XeQ]) (.seq (.seq (.reg [oM 16 τ7,oD 17 (.bin .gtr XeY (.const (.int .i64 20)))]) (.cond Xe5 (.seq (.reg [oD 4 (.mv (.const (.string ⟨⟨[]⟩⟩))),oD 5 (.mv (.const (.int .i64 3))),oD 6 (.mv (.const (.int .i64 0)))]) .ret) .skip)) (.seq (.seq (.reg [oM 18 τ7,oM 19 τ0,oD 20 (.lenS XfU),oM 21 τ1,oD 22 (.bin .sub Xf3 Xf9),oD 23 (.bin .sub XgR (.const (.int .i64 1))),oD 24 (.bin .gtr XfK XgP)]) (.cond Xf2 (.seq (.reg [oD 4 (.mv (.const (.string ⟨⟨[]⟩⟩))),oD 5 (.mv (.const (.int .i64 2))),oD 6 (.mv (.const (.int .i64 0)))]) .ret) .skip)) (.seq (.reg [oM 25 τ0,oM 26 τ1,oD 27 (.bin .add Xg5 (.const (.int .i64 1))),oM 28 τ1,oD 29 (.bin .add Xhe (.const (.int .i64 1))),oM 30 τ7,oD 31 (.bin .add Xha XhJ),oD 32 (.sliceS Xhc (some Xhd) (some XhR)),oM 33 τ1,oD 34 (.bin .add Xh8 (.const (.int .i64 1))),oM 35 τ7,oD 36 (.bin .add Xic Xig),oM 4 Xho,oD 5 (.mv (.const (.int .i64 0))),oM 6 Xin]) .ret)))))
def XNl:VFn:=⟨37,XzN,[.tmp 4,.tmp 5,.tmp 6]⟩
theorem XJT:(Tryz.prog.funcs[62]?).bind (XaR Tryz.prog)=some fn62:=by kernel_rfl
theorem XLj:(Tryz.prog.funcs[61]?).bind (XaR Tryz.prog)=some fn61:=by kernel_rfl
theorem XJn:(Tryz.prog.funcs[92]?).bind (XaR Tryz.prog)=some fn92:=by kernel_rfl
theorem XKF:(Tryz.prog.funcs[47]?).bind (XaR Tryz.prog)=some fn47:=by kernel_rfl
theorem XLO:(Tryz.prog.funcs[44]?).bind (XaR Tryz.prog)=some fn44:=by kernel_rfl
theorem XId:(Tryz.prog.funcs[79]?).bind (XaR Tryz.prog)=some fn79:=by kernel_rfl
theorem XBM:(Tryz.prog.funcs[107]?).bind (XaR Tryz.prog)=some XM8:=by kernel_rfl
theorem XCB:(Tryz.prog.funcs[124]?).bind (XaR Tryz.prog)=some XM3:=by kernel_rfl
theorem XCr:(Tryz.prog.funcs[108]?).bind (XaR Tryz.prog)=some XRS:=by kernel_rfl
theorem XLN:(Tryz.prog.funcs[80]?).bind (XaR Tryz.prog)=some fn80:=by kernel_rfl
theorem XBO:(Tryz.prog.funcs[109]?).bind (XaR Tryz.prog)=some XS1:=by kernel_rfl
theorem XA6:(Tryz.prog.funcs[125]?).bind (XaR Tryz.prog)=some XOL:=by kernel_rfl
theorem XCy:(Tryz.prog.funcs[126]?).bind (XaR Tryz.prog)=some XNR:=by kernel_rfl
theorem XH5:(Tryz.prog.funcs[23]?).bind (XaR Tryz.prog)=some fn23:=by kernel_rfl
theorem XLZ:(Tryz.prog.funcs[24]?).bind (XaR Tryz.prog)=some fn24:=by kernel_rfl
theorem XHi:(Tryz.prog.funcs[25]?).bind (XaR Tryz.prog)=some fn25:=by kernel_rfl
theorem XK8:(Tryz.prog.funcs[49]?).bind (XaR Tryz.prog)=some fn49:=by kernel_rfl
theorem XIT:(Tryz.prog.funcs[81]?).bind (XaR Tryz.prog)=some fn81:=by kernel_rfl
theorem XB3:(Tryz.prog.funcs[110]?).bind (XaR Tryz.prog)=some XQb:=by kernel_rfl
theorem XAS:(Tryz.prog.funcs[127]?).bind (XaR Tryz.prog)=some XPc:=by kernel_rfl
theorem XBz:(Tryz.prog.funcs[111]?).bind (XaR Tryz.prog)=some XQx:=by kernel_rfl
theorem XLb:(Tryz.prog.funcs[82]?).bind (XaR Tryz.prog)=some fn82:=by kernel_rfl
theorem XA5:(Tryz.prog.funcs[112]?).bind (XaR Tryz.prog)=some XQz:=by kernel_rfl
theorem XJr:(Tryz.prog.funcs[83]?).bind (XaR Tryz.prog)=some fn83:=by kernel_rfl
theorem XHr:(Tryz.prog.funcs[84]?).bind (XaR Tryz.prog)=some fn84:=by kernel_rfl
theorem XLT:(Tryz.prog.funcs[75]?).bind (XaR Tryz.prog)=some fn75:=by kernel_rfl
theorem XCD:(Tryz.prog.funcs[101]?).bind (XaR Tryz.prog)=some XNl:=by kernel_rfl
def tab:List (Nat×VFn):=[(4,fn4),(20,fn20),(41,fn41),(42,fn42),(7,fn7),(8,fn8),(10,fn10),(28,fn28),(29,fn29),(50,fn50),(85,fn85),(113,XPS),(51,fn51),(52,fn52),(86,fn86),(95,fn95),(69,fn69),(53,fn53),(54,fn54),(87,fn87),(114,XSr),(128,XQd),(115,XSU),(30,fn30),(55,fn55),(88,fn88),(116,XRI),(129,XSF),(135,XOy),(136,XNL),(130,XS9),(89,fn89),(117,XOw),(131,XPp),(137,XQ0),(138,XNb),(71,fn71),(139,XSx),(140,XR7),(142,XOs),(141,XPW),(132,XPi),(119,XQB),(120,XN8),(133,XPQ),(91,fn91),(90,fn90),(118,XMN),(68,fn68),(96,fn96),(97,fn97),(98,fn98),(31,fn31),(32,fn32),(57,fn57),(59,fn59),(58,fn58),(56,fn56),(67,fn67),(70,fn70),(100,XRR),(99,fn99),(122,XSV),(134,XRD),(72,fn72),(12,fn12),(36,fn36),(17,fn17),(37,fn37),(65,fn65),(66,fn66),(38,fn38),(16,fn16),(14,fn14),(19,fn19),(22,fn22),(45,fn45),(46,fn46),(21,fn21),(43,fn43),(77,fn77),(104,XRb),(105,XSh),(78,fn78),(106,XPM),(48,fn48),(60,fn60),(93,fn93),(62,fn62),(61,fn61),(92,fn92),(47,fn47),(44,fn44),(79,fn79),(107,XM8),(124,XM3),(108,XRS),(80,fn80),(109,XS1),(125,XOL),(126,XNR),(23,fn23),(24,fn24),(25,fn25),(49,fn49),(81,fn81),(110,XQb),(127,XPc),(111,XQx),(82,fn82),(112,XQz),(83,fn83),(84,fn84),(75,fn75),(101,XNl)]
theorem XaJ:Xkw Tryz.prog (XaE tab):=Xkw.XaV ⟨XQj,XJV,XJi,XKP,XSR,XMR,XKt,XL9,XL2,XLn,XHZ,XAT,XLC,XJP,XJ9,XKT,XKN,XIw,XLr,XKd,XAV,XCF,XEy,XIt,XL1,XIh,XCC,XA0,XBb,XB6,XBI,XIF,XEu,XBg,XDY,XEs,XKm,XC5,XEd,XCi,XDq,XB8,XCY,XDu,XBf,XKb,XLg,XDs,XIN,XLk,XIY,XIM,XLD,XJu,XH8,XJX,XLt,XJM,XJj,XIq,XDl,XGY,XC6,XCp,XL3,XJR,XH1,XG5,XJW,XIJ,XJb,XIL,XIn,XIS,XK9,XHx,XHK,XIm,XKg,XID,XKI,XCc,XDa,XJw,XEE,XJ0,XLW,XLh,XJT,XLj,XJn,XKF,XLO,XId,XBM,XCB,XCr,XLN,XBO,XA6,XCy,XH5,XLZ,XHi,XK8,XIT,XB3,XAS,XBz,XLb,XA5,XJr,XHr,XLT,XCD,trivial⟩
end Go.Vm.Code
namespace Go.Vm
open Go Go.RowKit
theorem XSn {h h':Hp} {s:Nat→Option Nat} {b n:Nat} {ws:List Wd} {c c' x:List Value} {cs:List (Option (List Value))} {ob ob':Xbj} (e1:XaE h b=some ob) (e2:ob.wcs=some x) (e3:Xei.renL s c=some c') (e4:Nat.beq c'.length n=true) (e5:Nat.beq x.length n=true) (e6:ob.wr c'=some ob') (t:XcR (Xfr h b ob') s ws cs=some h') (hm:mk3 c=none:=by rfl) :
 XcR h s (.win b 0 n true::ws) (some c::cs)=some h':=by
 have h4:=Nat.eq_of_beq_eq_true e4
 have h5:=Nat.eq_of_beq_eq_true e5
 refine XE7 e1 e2 e3 ⟨h4,by omega⟩ ?_ e6 t hm
 apply List.ext_getElem?
 intro k
 rw [Xjh _ _ _ _ (by omega)]
 by_cases hk:k<n
 ·rw [if_pos (by omega)];simp
 ·rw [if_neg (by omega),List.getElem?_eq_none (by omega),List.getElem?_eq_none (by omega)]
theorem XSb {h:Hp} {k b n:Nat} {ob:Xbj} {cs:List Value} (ho:XaE h b=some ob) (hc:ob.wcs=some cs) (hn:Nat.beq cs.length n=true) (hf:Xa6.flatL cs=true) :
 XcK h k (.pt n) (.pointer (some ⟨b,0,none⟩))=some (.pointer (some ⟨k,0,none⟩),[some (.cells cs)]):=
 XGd ho hc (by have:=Nat.eq_of_beq_eq_true hn;omega) (by have:=Nat.eq_of_beq_eq_true hn;rw [List.drop_zero];exact List.take_of_length_le (by omega)) hf
theorem Xsf {a b:Dec} {vs:List Value} {cs:List (Option (List Value))} {r:Xcu} (h:a vs cs=some r):orD a b vs cs=some r:=by unfold orD;rw [h]
theorem Xp3 {a b:Dec} {vs:List Value} {cs:List (Option (List Value))} {r:Xcu} (h:a vs cs=none) (k:b vs cs=some r):orD a b vs cs=some r:=by unfold orD;rw [h];exact k
end Go.Vm
namespace Go.Vm
open Go Go.RowKit
section
variable {α κ ν:Type}
def XGG (key:α→κ) (eqk:κ→κ→Bool) (t:κ) (xs:List α):Bool:=xs.any fun e=>eqk t (key e)
def XF5 (key:α→κ) (eqk:κ→κ→Bool) (val:α→ν) (z:ν) (t:κ):List α→ν
 | []=>z
 | e::l=>cond (eqk t (key e)) (val e) (XF5 key eqk val z t l)
def XFP (key:α→κ) (eqk:κ→κ→Bool) (mk:κ→ν→α) (t:κ) (v:ν):List α→List α
 | []=>[mk t v]
 | e::l=>cond (eqk t (key e)) (mk (key e) v::l) (e::XFP key eqk mk t v l)
def XKZ (key:α→κ) (eqk:κ→κ→Bool) (t:κ):List α→List α
 | []=>[]
 | e::l=>cond (eqk t (key e)) l (e::XKZ key eqk t l)
structure Xtk (f:α→List Value) (kc:κ→List Value) (vc:ν→Value) (key:α→κ) (val:α→ν) (mk:κ→ν→α) (eqk:κ→κ→Bool) (os:List (Nat×SK)):Prop where
 cells:∀ e,f e=[.agg ⟨kc (key e)⟩,vc (val e)]
 eq:∀ a b,XbL (kc a) (kc b) os=some (eqk a b)
 len:∀ a b,(kc a).length=(kc b).length
 offs:∀ a,os.map (·.1)=List.range (kc a).length
 fk:∀ a,Xa6.flatL (kc a)=true
 fv:∀ v,Xa6 (vc v)=true
 mkk:∀ k v,key (mk k v)=k
 mkv:∀ k v,val (mk k v)=v
variable {f:α→List Value} {kc:κ→List Value} {vc:ν→Value} {key:α→κ} {val:α→ν} {mk:κ→ν→α} {eqk:κ→κ→Bool} {os:List (Nat×SK)}
theorem Xtk.cons (h:Xtk f kc vc key val mk eqk os) (e:α) (l:List α):vT f (e::l)=.agg ⟨kc (key e)⟩::vc (val e)::vT f l:=by
 show f e++vT f l=_
 rw [h.cells];rfl
theorem Xtk.find (h:Xtk f kc vc key val mk eqk os) (t:κ):∀ xs:List α,∃ r,Xim os (kc t) (vT f xs)=some r ∧
 ((r=none∧XGG key eqk t xs=false∧(∀ z,XF5 key eqk val z t xs=z)∧(∀ v,XFP key eqk mk t v xs=xs++[mk t v])∧XKZ key eqk t xs=xs) ∨
  ∃ i v,r=some (2*i,vc v)∧XGG key eqk t xs=true∧(∀ z,XF5 key eqk val z t xs=v)∧(∀ v,(vT f xs).set (2*i+1) (vc v)=vT f (XFP key eqk mk t v xs))∧(vT f xs).take (2*i)++(vT f xs).drop (2*i+2)=vT f (XKZ key eqk t xs))
 | []=>⟨none,rfl,.inl ⟨rfl,rfl,fun _=>rfl,fun _=>rfl,rfl⟩⟩
 | e::l=>by
   obtain ⟨r,h1,h2⟩:=Xtk.find h t l
   rw [h.cons]
   cases he:eqk t (key e) with
   | true=>
     refine ⟨some (0,vc (val e)),?_,.inr ⟨0,val e,rfl,?_,fun z=>?_,fun v=>?_,?_⟩⟩
     ·simp only [Xim,h.eq,he,cond_true,if_pos (h.len (key e) t)]
     ·simp [XGG,he]
     ·simp [XF5,he]
     ·simp only [XFP,he,cond_true];rw [h.cons,h.mkk,h.mkv];rfl
     ·simp [XKZ,he]
   | false=>
     have hm:Xim os (kc t) (.agg ⟨kc (key e)⟩::vc (val e)::vT f l)=some (r.map fun q=>(q.1+2,q.2)):=by
      simp only [Xim,h.eq,he,cond_false,h1];rfl
     rcases h2 with ⟨rfl,g1,g2,g3,g4⟩|⟨i,v,rfl,g1,g2,g3,g4⟩
     ·refine ⟨none,hm,.inl ⟨rfl,?_,fun z=>?_,fun v=>?_,?_⟩⟩
      ·simp only [XGG,List.any_cons,he,Bool.false_or];exact g1
      ·simp only [XF5,he,cond_false];exact g2 z
      ·simp only [XFP,he,cond_false,g3];rfl
      ·simp only [XKZ,he,cond_false,g4]
     ·refine ⟨some (2*i+2,vc v),hm,.inr ⟨i+1,v,by congr 2,?_,fun z=>?_,fun v=>?_,?_⟩⟩
      ·simp only [XGG,List.any_cons,he,Bool.false_or];exact g1
      ·simp only [XF5,he,cond_false];exact g2 z
      ·simp only [XFP,he,cond_false];rw [h.cons,←g3,show 2*(i+1)+1=(2*i+1)+1+1 by omega];rfl
      ·simp only [XKZ,he,cond_false];rw [h.cons,←g4,show 2*(i+1)=2*i+1+1 by omega];rfl
theorem Xtk.self (h:Xtk f kc vc key val mk eqk os) (t:κ):(XbL (kc t) (kc t) os).isSome=true:=by rw [h.eq];rfl
theorem Xtk.get (h:Xtk f kc vc key val mk eqk os) (z:ν) (t:κ) (xs:List α):Xv3 os (vc z) (kc t) (vT f xs)=some (vc (XF5 key eqk val z t xs),XGG key eqk t xs):=by
 obtain ⟨r,h1,⟨rfl,g1,g2,_⟩|⟨i,v,rfl,g1,g2,_⟩⟩:=h.find t xs
 ·simp only [Xv3,if_pos (h.self t),h1,g1,g2]
 ·simp only [Xv3,if_pos (h.self t),h1,g1,g2]
theorem Xtk.put (h:Xtk f kc vc key val mk eqk os) (t:κ) (v:ν) (xs:List α):Xwn os (kc t) (vc v) (vT f xs)=some (vT f (XFP key eqk mk t v xs)):=by
 have hc:=And.intro (h.self t) (And.intro (h.offs t) (And.intro (h.fk t) (h.fv v)))
 obtain ⟨r,h1,⟨rfl,_,_,g3,_⟩|⟨i,u,rfl,_,_,g3,_⟩⟩:=h.find t xs
 ·simp only [Xwn,if_pos hc,h1,g3]
  rw [←XFx,show vT f [mk t v]=[.agg ⟨kc t⟩,vc v] by rw [h.cons,h.mkk,h.mkv];rfl]
 ·simp only [Xwn,if_pos hc,h1,g3]
theorem Xtk.del (h:Xtk f kc vc key val mk eqk os) (t:κ) (xs:List α):XwA os (kc t) (vT f xs)=some (vT f (XKZ key eqk t xs)):=by
 obtain ⟨r,h1,⟨rfl,_,_,_,g4⟩|⟨i,u,rfl,_,_,_,g4⟩⟩:=h.find t xs
 ·simp only [XwA,if_pos (h.self t),h1,g4]
 ·simp only [XwA,if_pos (h.self t),h1,g4]
theorem Xtk.length (h:Xtk f kc vc key val mk eqk os) (xs:List α):(vT f xs).length=2*xs.length:=by
 rw [XpE (c:=2) (fun e=>by rw [h.cells];rfl),Nat.mul_comm]
end
end Go.Vm
namespace Go.Vm.Code
open Go Go.Vm Go.Proofs
set_option maxRecDepth 100000
set_option maxHeartbeats 4000000
set_option linter.unusedVariables false
@[ext] structure Xab where
 V6:Bool
 Hi:Int
 Lo:Int
 deriving DecidableEq
@[ext] structure Xag where
 Proto:Int
 Src:Xab
 Dst:Xab
 SPort:Int
 DPort:Int
 deriving DecidableEq
@[ext] structure XaA where
 key:Xag
 val:Int
 deriving DecidableEq
@[ext] structure Xak where
 id_:Int
 clock:Int
 cookies:List XaA
 deriving DecidableEq
@[ext] structure XaZ where
 V6:Bool
 Backend:Int
 Cookie:Int
 First:Bool
 Instance:Int
 deriving DecidableEq
@[ext] structure Xah where
 s:List UInt8
 made:Bool
 bad:Bool
 deriving DecidableEq
@[ext] structure Xao where
 Tuple:Xag
 Flags:Int
 Stamped:Bool
 Val:Int
 Echo:Int
 Long:Bool
 CID:List UInt8
 Size:Int
 deriving DecidableEq
@[ext] structure Xa4 where
 src:Xab
 dst:Xab
 proto:Int
 body:List UInt8
 deriving DecidableEq
@[ext] structure Xau where
 Class:Int
 Mark:Int
 Whole:Bool
 TTL:Int
 Proto:Int
 Src:Xab
 Dst:Xab
 Options:List UInt8
 deriving DecidableEq
@[ext] structure XcS where
 Reader:Xah
 deriving DecidableEq
@[ext] structure XaL where
 Class:Int
 Label:Int
 Next:Int
 Hop:Int
 Src:Xab
 Dst:Xab
 deriving DecidableEq
@[ext] structure XaI where
 SPort:Int
 DPort:Int
 Seq:Int
 Ack:Int
 Flags:Int
 Window:Int
 Urgent:Int
 Options:List UInt8
 deriving DecidableEq
@[ext] structure XcC where
 Kind:Int
 Data:List UInt8
 deriving DecidableEq
@[ext] structure Xbw where
 SPort:Int
 DPort:Int
 deriving DecidableEq
@[ext] structure Xbz where
 Long:Bool
 Bits:Int
 Version:Int
 DCID:List UInt8
 SCID:List UInt8
 Rest:List UInt8
 deriving DecidableEq
structure NilMap where
 mk ::
 deriving DecidableEq
@[ext] structure Xbn where
 id_:Int
 clock:Int
 cookies:NilMap
 deriving DecidableEq
@[ext] structure Xen where
 src:Xab
 dst:Xab
 proto:Int
 size:Int
 body:List UInt8
 deriving DecidableEq
@[ext] structure Xcr where
 Kind:Int
 Data:List UInt8
 At:Int
 deriving DecidableEq
def XmT (x:Xab):List Value:=[.bool x.V6,.int .u64 x.Hi,.int .u64 x.Lo]
theorem Xex (x:Xab):(XmT x).all Xh9=true:=rfl
def XnC:List Value→Option Xab
 | [.bool a1,.int .u64 a2,.int .u64 a3]=>some (Xab.mk a1 a2 a3)
 | _=>none
theorem XmG (cs:List Value) (x:Xab) (h:XnC cs=some x):cs=XmT x:=by
 unfold XnC at h;split at h
 ·cases h;rfl
 ·cases h
def Xcl:Value→Option Xab
 | .agg ⟨cs⟩=>XnC cs
 | _=>none
theorem Xrg (v:Value) (x:Xab) (h:Xcl v=some x):v=.agg ⟨XmT x⟩:=by
 unfold Xcl at h;split at h
 ·rw [XmG _ _ h]
 ·cases h
theorem Xb8 (x:Xab):Xcl (.agg ⟨XmT x⟩)=some x:=rfl
def Xd4 (x:Xag):List Value:=[.int .i64 x.Proto,.bool x.Src.V6,.int .u64 x.Src.Hi,.int .u64 x.Src.Lo,.bool x.Dst.V6,.int .u64 x.Dst.Hi,.int .u64 x.Dst.Lo,.int .i64 x.SPort,.int .i64 x.DPort]
theorem Xcg (x:Xag):(Xd4 x).length=9:=rfl
theorem Xcd (x:Xag):Xa6.flatL (Xd4 x)=true:=rfl
theorem XdX (x:Xag):(Xd4 x).all Xh9=true:=rfl
@[simp] theorem Xw6 (xs:List Xag):(vT Xd4 xs).length=xs.length*9:=XpE Xcg xs
@[simp] theorem Xys (xs:List Xag) (n:Nat):(vT Xd4 xs).take (n*9)=vT Xd4 (xs.take n):=Xri Xcg xs n
@[simp] theorem XxZ (xs:List Xag) (n:Nat):(vT Xd4 xs).drop (n*9)=vT Xd4 (xs.drop n):=XrW Xcg xs n
def XjA:List Value→Option Xag
 | [.int .i64 a1,.bool a2,.int .u64 a3,.int .u64 a4,.bool a5,.int .u64 a6,.int .u64 a7,.int .i64 a8,.int .i64 a9]=>some (Xag.mk a1 (Xab.mk a2 a3 a4) (Xab.mk a5 a6 a7) a8 a9)
 | _=>none
theorem XhL (cs:List Value) (x:Xag) (h:XjA cs=some x):cs=Xd4 x:=by
 unfold XjA at h;split at h
 ·cases h;rfl
 ·cases h
def Xdi:Value→Option Xag
 | .agg ⟨cs⟩=>XjA cs
 | _=>none
theorem Xqa (v:Value) (x:Xag) (h:Xdi v=some x):v=.agg ⟨Xd4 x⟩:=by
 unfold Xdi at h;split at h
 ·rw [XhL _ _ h]
 ·cases h
theorem Xdy (x:Xag):Xdi (.agg ⟨Xd4 x⟩)=some x:=rfl
def XaB (x:XaA):List Value:=[.agg ⟨Xd4 x.key⟩,.int .u64 x.val]
theorem XlQ (x:XaA):(XaB x).length=2:=rfl
def Xgd:List Value→Option XaA
 | [.agg ⟨cs⟩,.int .u64 v]=>(XjA cs).bind fun k=>some ⟨k,v⟩
 | _=>none
theorem XlP (cs:List Value) (x:XaA) (h:Xgd cs=some x):cs=XaB x:=by
 unfold Xgd at h;split at h
 ·simp only [Option.bind_eq_some_iff] at h
  obtain ⟨k,hk,h⟩:=h
  cases h;rw [XhL _ _ hk];rfl
 ·cases h
theorem Xmx (x:XaA):Xgd (XaB x)=some x:=rfl
def Xcz (a b:Xag):Bool:=a.Proto==b.Proto&&(a.Src.V6==b.Src.V6&&(a.Src.Hi==b.Src.Hi&&(a.Src.Lo==b.Src.Lo&&(a.Dst.V6==b.Dst.V6&&(a.Dst.Hi==b.Dst.Hi&&(a.Dst.Lo==b.Dst.Lo&&(a.SPort==b.SPort&&(a.DPort==b.DPort&&true))))))))
def XbG (t:Xag) (xs:List XaA):Bool:=XGG (fun e:XaA=>e.key) Xcz t xs
def Xb2 (z:Int) (t:Xag) (xs:List XaA):Int:=XF5 (fun e:XaA=>e.key) Xcz (fun e:XaA=>e.val) z t xs
def Xd6 (t:Xag) (v:Int) (xs:List XaA):List XaA:=XFP (fun e:XaA=>e.key) Xcz XaA.mk t v xs
theorem Xej:Xtk XaB Xd4 (fun v:Int=>.int .u64 v) (fun e:XaA=>e.key) (fun e:XaA=>e.val) XaA.mk Xcz [(0,.int .i64),(1,.bool),(2,.int .u64),(3,.int .u64),(4,.bool),(5,.int .u64),(6,.int .u64),(7,.int .i64),(8,.int .i64)]:=⟨fun _=>rfl,fun _ _=>rfl,fun _ _=>rfl,fun _=>rfl,fun _=>rfl,fun _=>rfl,fun _ _=>rfl,fun _ _=>rfl⟩
def Xlg (x:XaZ):List Value:=[.bool x.V6,.int .i64 x.Backend,.int .u64 x.Cookie,.bool x.First,.int .i64 x.Instance]
theorem XdW (x:XaZ):(Xlg x).all Xh9=true:=rfl
def XlS:List Value→Option XaZ
 | [.bool a1,.int .i64 a2,.int .u64 a3,.bool a4,.int .i64 a5]=>some (XaZ.mk a1 a2 a3 a4 a5)
 | _=>none
theorem Xlu (cs:List Value) (x:XaZ) (h:XlS cs=some x):cs=Xlg x:=by
 unfold XlS at h;split at h
 ·cases h;rfl
 ·cases h
def XiC:Value→Option XaZ
 | .agg ⟨cs⟩=>XlS cs
 | _=>none
theorem Xp5 (v:Value) (x:XaZ) (h:XiC v=some x):v=.agg ⟨Xlg x⟩:=by
 unfold XiC at h;split at h
 ·rw [Xlu _ _ h]
 ·cases h
theorem Xmq (x:XaZ):XiC (.agg ⟨Xlg x⟩)=some x:=rfl
def Xil (x:Xah):List Value:=[.string ⟨⟨x.s⟩⟩,.bool x.made,.bool x.bad]
theorem Xc0 (x:Xah):(Xil x).all Xh9=true:=rfl
def Xc8:List Value→Option Xah
 | [.string ⟨⟨a1⟩⟩,.bool a2,.bool a3]=>some (Xah.mk a1 a2 a3)
 | _=>none
theorem Xhm (cs:List Value) (x:Xah) (h:Xc8 cs=some x):cs=Xil x:=by
 unfold Xc8 at h;split at h
 ·cases h;rfl
 ·cases h
theorem Xfk (x:Xah):Xc8 (Xil x)=some x:=rfl
def XlD:Value→Option Xah
 | .agg ⟨cs⟩=>Xc8 cs
 | _=>none
theorem Xnn (v:Value) (x:Xah) (h:XlD v=some x):v=.agg ⟨Xil x⟩:=by
 unfold XlD at h;split at h
 ·rw [Xhm _ _ h]
 ·cases h
def XiD (x:Xao):List Value:=[.int .i64 x.Tuple.Proto,.bool x.Tuple.Src.V6,.int .u64 x.Tuple.Src.Hi,.int .u64 x.Tuple.Src.Lo,.bool x.Tuple.Dst.V6,.int .u64 x.Tuple.Dst.Hi,.int .u64 x.Tuple.Dst.Lo,.int .i64 x.Tuple.SPort,.int .i64 x.Tuple.DPort,.int .i64 x.Flags,.bool x.Stamped,.int .u32 x.Val,.int .u32 x.Echo,.bool x.Long,.string ⟨⟨x.CID⟩⟩,.int .i64 x.Size]
theorem XdB (x:Xao):(XiD x).all Xh9=true:=rfl
def Xgp:List Value→Option Xao
 | [.int .i64 a1,.bool a2,.int .u64 a3,.int .u64 a4,.bool a5,.int .u64 a6,.int .u64 a7,.int .i64 a8,.int .i64 a9,.int .i64 a10,.bool a11,.int .u32 a12,.int .u32 a13,.bool a14,.string ⟨⟨a15⟩⟩,.int .i64 a16]=>some (Xao.mk (Xag.mk a1 (Xab.mk a2 a3 a4) (Xab.mk a5 a6 a7) a8 a9) a10 a11 a12 a13 a14 a15 a16)
 | _=>none
theorem Xkv (cs:List Value) (x:Xao) (h:Xgp cs=some x):cs=XiD x:=by
 unfold Xgp at h;split at h
 ·cases h;rfl
 ·cases h
theorem XlA (x:Xao):Xgp (XiD x)=some x:=rfl
def Xh1:Value→Option Xao
 | .agg ⟨cs⟩=>Xgp cs
 | _=>none
theorem XpC (v:Value) (x:Xao) (h:Xh1 v=some x):v=.agg ⟨XiD x⟩:=by
 unfold Xh1 at h;split at h
 ·rw [Xkv _ _ h]
 ·cases h
theorem Xlo (x:Xao):Xh1 (.agg ⟨XiD x⟩)=some x:=rfl
def Xip (x:Xa4):List Value:=[.bool x.src.V6,.int .u64 x.src.Hi,.int .u64 x.src.Lo,.bool x.dst.V6,.int .u64 x.dst.Hi,.int .u64 x.dst.Lo,.int .i64 x.proto,.string ⟨⟨x.body⟩⟩]
theorem Xc1 (x:Xa4):(Xip x).all Xh9=true:=rfl
def Xi8:List Value→Option Xa4
 | [.bool a1,.int .u64 a2,.int .u64 a3,.bool a4,.int .u64 a5,.int .u64 a6,.int .i64 a7,.string ⟨⟨a8⟩⟩]=>some (Xa4.mk (Xab.mk a1 a2 a3) (Xab.mk a4 a5 a6) a7 a8)
 | _=>none
theorem Xjp (cs:List Value) (x:Xa4) (h:Xi8 cs=some x):cs=Xip x:=by
 unfold Xi8 at h;split at h
 ·cases h;rfl
 ·cases h
def Xf4:Value→Option Xa4
 | .agg ⟨cs⟩=>Xi8 cs
 | _=>none
theorem XnD (v:Value) (x:Xa4) (h:Xf4 v=some x):v=.agg ⟨Xip x⟩:=by
 unfold Xf4 at h;split at h
 ·rw [Xjp _ _ h]
 ·cases h
theorem Xj1 (x:Xa4):Xf4 (.agg ⟨Xip x⟩)=some x:=rfl
def XiR (x:Xau):List Value:=[.int .i64 x.Class,.int .i64 x.Mark,.bool x.Whole,.int .i64 x.TTL,.int .i64 x.Proto,.bool x.Src.V6,.int .u64 x.Src.Hi,.int .u64 x.Src.Lo,.bool x.Dst.V6,.int .u64 x.Dst.Hi,.int .u64 x.Dst.Lo,.string ⟨⟨x.Options⟩⟩]
theorem Xdo (x:Xau):(XiR x).all Xh9=true:=rfl
def XjQ:List Value→Option Xau
 | [.int .i64 a1,.int .i64 a2,.bool a3,.int .i64 a4,.int .i64 a5,.bool a6,.int .u64 a7,.int .u64 a8,.bool a9,.int .u64 a10,.int .u64 a11,.string ⟨⟨a12⟩⟩]=>some (Xau.mk a1 a2 a3 a4 a5 (Xab.mk a6 a7 a8) (Xab.mk a9 a10 a11) a12)
 | _=>none
theorem Xj0 (cs:List Value) (x:Xau) (h:XjQ cs=some x):cs=XiR x:=by
 unfold XjQ at h;split at h
 ·cases h;rfl
 ·cases h
def Xg2:Value→Option Xau
 | .agg ⟨cs⟩=>XjQ cs
 | _=>none
theorem Xn9 (v:Value) (x:Xau) (h:Xg2 v=some x):v=.agg ⟨XiR x⟩:=by
 unfold Xg2 at h;split at h
 ·rw [Xj0 _ _ h]
 ·cases h
theorem Xko (x:Xau):Xg2 (.agg ⟨XiR x⟩)=some x:=rfl
def XjS (x:XaL):List Value:=[.int .i64 x.Class,.int .i64 x.Label,.int .i64 x.Next,.int .i64 x.Hop,.bool x.Src.V6,.int .u64 x.Src.Hi,.int .u64 x.Src.Lo,.bool x.Dst.V6,.int .u64 x.Dst.Hi,.int .u64 x.Dst.Lo]
theorem XdD (x:XaL):(XjS x).all Xh9=true:=rfl
def Xkt:List Value→Option XaL
 | [.int .i64 a1,.int .i64 a2,.int .i64 a3,.int .i64 a4,.bool a5,.int .u64 a6,.int .u64 a7,.bool a8,.int .u64 a9,.int .u64 a10]=>some (XaL.mk a1 a2 a3 a4 (Xab.mk a5 a6 a7) (Xab.mk a8 a9 a10))
 | _=>none
theorem Xkj (cs:List Value) (x:XaL) (h:Xkt cs=some x):cs=XjS x:=by
 unfold Xkt at h;split at h
 ·cases h;rfl
 ·cases h
def Xh6:Value→Option XaL
 | .agg ⟨cs⟩=>Xkt cs
 | _=>none
theorem XpA (v:Value) (x:XaL) (h:Xh6 v=some x):v=.agg ⟨XjS x⟩:=by
 unfold Xh6 at h;split at h
 ·rw [Xkj _ _ h]
 ·cases h
theorem Xlp (x:XaL):Xh6 (.agg ⟨XjS x⟩)=some x:=rfl
def XmP (x:XaI):List Value:=[.int .i64 x.SPort,.int .i64 x.DPort,.int .u32 x.Seq,.int .u32 x.Ack,.int .i64 x.Flags,.int .i64 x.Window,.int .i64 x.Urgent,.string ⟨⟨x.Options⟩⟩]
theorem Xeo (x:XaI):(XmP x).all Xh9=true:=rfl
def Xnx:List Value→Option XaI
 | [.int .i64 a1,.int .i64 a2,.int .u32 a3,.int .u32 a4,.int .i64 a5,.int .i64 a6,.int .i64 a7,.string ⟨⟨a8⟩⟩]=>some (XaI.mk a1 a2 a3 a4 a5 a6 a7 a8)
 | _=>none
theorem Xmm (cs:List Value) (x:XaI) (h:Xnx cs=some x):cs=XmP x:=by
 unfold Xnx at h;split at h
 ·cases h;rfl
 ·cases h
def Xjm:Value→Option XaI
 | .agg ⟨cs⟩=>Xnx cs
 | _=>none
theorem XrB (v:Value) (x:XaI) (h:Xjm v=some x):v=.agg ⟨XmP x⟩:=by
 unfold Xjm at h;split at h
 ·rw [Xmm _ _ h]
 ·cases h
theorem XnY (x:XaI):Xjm (.agg ⟨XmP x⟩)=some x:=rfl
def Xgb (x:XcC):List Value:=[.int .i64 x.Kind,.string ⟨⟨x.Data⟩⟩]
theorem Xe9 (x:XcC):(Xgb x).length=2:=rfl
theorem XbN (x:XcC):Xa6.flatL (Xgb x)=true:=rfl
theorem Xe6 (x:XcC):(Xgb x).all Xh9=true:=rfl
@[simp] theorem XD9 (xs:List XcC):(vT Xgb xs).length=xs.length*2:=XpE Xe9 xs
@[simp] theorem XDc (xs:List XcC) (n:Nat):(vT Xgb xs).take (n*2)=vT Xgb (xs.take n):=Xri Xe9 xs n
@[simp] theorem XCo (xs:List XcC) (n:Nat):(vT Xgb xs).drop (n*2)=vT Xgb (xs.drop n):=XrW Xe9 xs n
def XoT:List Value→Option XcC
 | [.int .i64 a1,.string ⟨⟨a2⟩⟩]=>some (XcC.mk a1 a2)
 | _=>none
theorem Xkm (cs:List Value) (x:XcC) (h:XoT cs=some x):cs=Xgb x:=by
 unfold XoT at h;split at h
 ·cases h;rfl
 ·cases h
def Xsp:Value→Option XcC
 | .agg ⟨cs⟩=>XoT cs
 | _=>none
theorem XsY (v:Value) (x:XcC) (h:Xsp v=some x):v=.agg ⟨Xgb x⟩:=by
 unfold Xsp at h;split at h
 ·rw [Xkm _ _ h]
 ·cases h
def Xpp (x:Xbw):List Value:=[.int .i64 x.SPort,.int .i64 x.DPort]
theorem Xer (x:Xbw):(Xpp x).all Xh9=true:=rfl
def XnL:List Value→Option Xbw
 | [.int .i64 a1,.int .i64 a2]=>some (Xbw.mk a1 a2)
 | _=>none
theorem Xms (cs:List Value) (x:Xbw) (h:XnL cs=some x):cs=Xpp x:=by
 unfold XnL at h;split at h
 ·cases h;rfl
 ·cases h
def Xqw:Value→Option Xbw
 | .agg ⟨cs⟩=>XnL cs
 | _=>none
theorem Xq1 (v:Value) (x:Xbw) (h:Xqw v=some x):v=.agg ⟨Xpp x⟩:=by
 unfold Xqw at h;split at h
 ·rw [Xms _ _ h]
 ·cases h
def XnB (x:Xbz):List Value:=[.bool x.Long,.int .i64 x.Bits,.int .u32 x.Version,.string ⟨⟨x.DCID⟩⟩,.string ⟨⟨x.SCID⟩⟩,.string ⟨⟨x.Rest⟩⟩]
theorem XdV (x:Xbz):(XnB x).all Xh9=true:=rfl
def XlM:List Value→Option Xbz
 | [.bool a1,.int .i64 a2,.int .u32 a3,.string ⟨⟨a4⟩⟩,.string ⟨⟨a5⟩⟩,.string ⟨⟨a6⟩⟩]=>some (Xbz.mk a1 a2 a3 a4 a5 a6)
 | _=>none
theorem Xln (cs:List Value) (x:Xbz) (h:XlM cs=some x):cs=XnB x:=by
 unfold XlM at h;split at h
 ·cases h;rfl
 ·cases h
def Xo1:Value→Option Xbz
 | .agg ⟨cs⟩=>XlM cs
 | _=>none
theorem Xp9 (v:Value) (x:Xbz) (h:Xo1 v=some x):v=.agg ⟨XnB x⟩:=by
 unfold Xo1 at h;split at h
 ·rw [Xln _ _ h]
 ·cases h
def XoV (x:Xen):List Value:=[.bool x.src.V6,.int .u64 x.src.Hi,.int .u64 x.src.Lo,.bool x.dst.V6,.int .u64 x.dst.Hi,.int .u64 x.dst.Lo,.int .i64 x.proto,.int .i64 x.size,.string ⟨⟨x.body⟩⟩]
theorem Xez (x:Xen):(XoV x).all Xh9=true:=rfl
def XnK:List Value→Option Xen
 | [.bool a1,.int .u64 a2,.int .u64 a3,.bool a4,.int .u64 a5,.int .u64 a6,.int .i64 a7,.int .i64 a8,.string ⟨⟨a9⟩⟩]=>some (Xen.mk (Xab.mk a1 a2 a3) (Xab.mk a4 a5 a6) a7 a8 a9)
 | _=>none
theorem Xmu (cs:List Value) (x:Xen) (h:XnK cs=some x):cs=XoV x:=by
 unfold XnK at h;split at h
 ·cases h;rfl
 ·cases h
def XqV:Value→Option Xen
 | .agg ⟨cs⟩=>XnK cs
 | _=>none
theorem Xrk (v:Value) (x:Xen) (h:XqV v=some x):v=.agg ⟨XoV x⟩:=by
 unfold XqV at h;split at h
 ·rw [Xmu _ _ h]
 ·cases h
def XfS (x:Xcr):List Value:=[.int .i64 x.Kind,.string ⟨⟨x.Data⟩⟩,.int .i64 x.At]
theorem XcN (x:Xcr):(XfS x).length=3:=rfl
theorem XbV (x:Xcr):Xa6.flatL (XfS x)=true:=rfl
theorem Xe4 (x:Xcr):(XfS x).all Xh9=true:=rfl
@[simp] theorem XCl (xs:List Xcr):(vT XfS xs).length=xs.length*3:=XpE XcN xs
@[simp] theorem XBF (xs:List Xcr) (n:Nat):(vT XfS xs).take (n*3)=vT XfS (xs.take n):=Xri XcN xs n
@[simp] theorem XB0 (xs:List Xcr) (n:Nat):(vT XfS xs).drop (n*3)=vT XfS (xs.drop n):=XrW XcN xs n
def XpJ:List Value→Option Xcr
 | [.int .i64 a1,.string ⟨⟨a2⟩⟩,.int .i64 a3]=>some (Xcr.mk a1 a2 a3)
 | _=>none
theorem Xku (cs:List Value) (x:Xcr) (h:XpJ cs=some x):cs=XfS x:=by
 unfold XpJ at h;split at h
 ·cases h;rfl
 ·cases h
def XsU:Value→Option Xcr
 | .agg ⟨cs⟩=>XpJ cs
 | _=>none
theorem XsX (v:Value) (x:Xcr) (h:XsU v=some x):v=.agg ⟨XfS x⟩:=by
 unfold XsU at h;split at h
 ·rw [Xku _ _ h]
 ·cases h
def Xg7 (k:Nat):Value→List (Option (List Value))→Option XcS
 | .agg ⟨[.pointer (some ⟨k0,0,none⟩)]⟩,[some c0]=>match Xc8 c0 with|some x0=>(if k0=k+0 then some (XcS.mk x0) else none)|none=>none
 | _,_=>none
theorem XmM {k:Nat} {v:Value} {cs:List (Option (List Value))} {x:XcS} (h:Xg7 k v cs=some x):v=.agg ⟨[.pointer (some ⟨k+0,0,none⟩)]⟩∧cs=[some [.string ⟨⟨x.Reader.s⟩⟩,.bool x.Reader.made,.bool x.Reader.bad]]:=by
 unfold Xg7 at h;split at h<;>try (cases h;done)
 split at h<;>try (cases h;done)
 rename_i x0 e0
 split at h<;>cases h
 rename_i hk
 subst hk
 obtain rfl:=Xhm _ _ e0
 exact ⟨rfl,rfl⟩
theorem Xnq (k:Nat) (x:XcS):Xg7 k (.agg ⟨[.pointer (some ⟨k+0,0,none⟩)]⟩) [some [.string ⟨⟨x.Reader.s⟩⟩,.bool x.Reader.made,.bool x.Reader.bad]]=some x:=by
 show (if k+0=k+0 then some x else none)=_
 simp
def Xfa (k:Nat):Value→List (Option (List Value))→Option Xbn
 | .pointer (some ⟨k0,0,none⟩),[some [.int .i64 a1,.int .u32 a2,.map none],none]=>if k0=k+0 then some (Xbn.mk a1 a2 NilMap.mk) else none
 | _,_=>none
theorem XpV {k:Nat} {v:Value} {cs:List (Option (List Value))} {x:Xbn} (h:Xfa k v cs=some x):v=.pointer (some ⟨k+0,0,none⟩)∧cs=[some [.int .i64 x.id_,.int .u32 x.clock,.map none],none]:=by
 unfold Xfa at h;split at h<;>try (cases h;done)
 split at h<;>cases h
 rename_i hk
 subst hk
 exact ⟨rfl,rfl⟩
theorem XhK (k:Nat) (x:Xbn):Xfa k (.pointer (some ⟨k+0,0,none⟩)) [some [.int .i64 x.id_,.int .u32 x.clock,.map none],none]=some x:=by
 simp only [Xfa];simp
def XdF (k:Nat):Value→List (Option (List Value))→Option Xak
 | .pointer (some ⟨k0,0,none⟩),[some [.int .i64 a1,.int .u32 a2,.map (some k1)],some c1]=>match (unR 2 Xgd) c1 with|some x1=>(if k0=k+0∧k1=k+1 then some (Xak.mk a1 a2 x1) else none)|none=>none
 | _,_=>none
theorem XoN {k:Nat} {v:Value} {cs:List (Option (List Value))} {x:Xak} (h:XdF k v cs=some x):v=.pointer (some ⟨k+0,0,none⟩)∧cs=[some [.int .i64 x.id_,.int .u32 x.clock,.map (some (k+1))],some (vT XaB x.cookies)]:=by
 unfold XdF at h;split at h<;>try (cases h;done)
 split at h<;>try (cases h;done)
 rename_i x1 e1
 split at h<;>cases h
 rename_i hk
 obtain ⟨rfl,rfl⟩:=hk
 obtain rfl:=Xsl XlP e1
 exact ⟨rfl,rfl⟩
theorem XeG (k:Nat) (x:Xak):XdF k (.pointer (some ⟨k+0,0,none⟩)) [some [.int .i64 x.id_,.int .u32 x.clock,.map (some (k+1))],some (vT XaB x.cookies)]=some x:=by
 simp only [XdF,XQg XlQ (by decide) Xmx];simp
theorem Xgn.a {s:Xbs} {vals aqs:List Value} {os:List (Option Xbj)} {h h1 h2:Hp} {top n m t':Nat} {ws:List Wd} {r:Xcu} {v':Value} {cw:List (Option (List Value))} {K:Value→Hp→Nat→Prop} (e2:s.run aqs cw=some r)
 (k:Xg8 v' fun v=>XkA [] (Xi3 h2 (top+n) m) fun h'=>K v h' t')
 (e1:Xda h 0 s.modes vals=some (aqs,os):=by repeat' first|exact XNy|apply XLY|rfl|exact XSb rfl rfl rfl (by first|rfl|(simp only [Xa6.flatL,XhG];rfl))|exact XGd rfl rfl (Nat.le_of_ble_eq_true rfl) rfl (by first|rfl|(simp only [Xa6.flatL,XhG];rfl))|exact XJF rfl rfl (by first|rfl|omega) (by first|rfl|(simp;done))|exact XH2 rfl rfl (by first|rfl|omega) (by first|rfl|(simp;done))|exact XI4 rfl rfl (by first|rfl|omega) (by first|rfl|(simp;done))|exact Xt0 Xcg Xcd rfl rfl (by first|rfl|omega) (by first|rfl|(simp;done))|exact Xt0 Xe9 XbN rfl rfl (by first|rfl|omega) (by first|rfl|(simp;done))|exact Xt0 XcN XbV rfl rfl (by first|rfl|omega) (by first|rfl|(simp;done))|exact XFK rfl rfl (by first|rfl|omega) (by first|rfl|omega) (by first|omega|(simp at *;omega))|exact XGM rfl rfl (by first|rfl|omega) (by first|rfl|omega) (by first|omega|(simp at *;omega))|exact XFt rfl rfl (by first|rfl|omega) (by first|rfl|omega) (by first|omega|(simp at *;omega))|exact XvA Xcg Xcd rfl rfl (by first|rfl|omega) (by first|rfl|omega) (by first|omega|(simp at *;omega))|exact XvA Xe9 XbN rfl rfl (by first|rfl|omega) (by first|rfl|omega) (by first|omega|(simp at *;omega))|exact XvA XcN XbV rfl rfl (by first|rfl|omega) (by first|rfl|omega) (by first|omega|(simp at *;omega))|(apply ra_tr rfl rfl _ rfl;repeat' first|exact XMT|apply XRc|apply vp_no|apply XQ4 rfl rfl|apply vp_at rfl rfl (by first|rfl|exact XJy|exact XIx|exact XLV|exact Xlw Xcd|exact Xlw XbN|exact Xlw XbV|exact Xc3 _ _ (by simp only [Xa6.flatL,XhG];rfl)) rfl))
 (ec:Xj5 os=cw:=by rfl)
 (ew:Xj2 h s.modes vals=ws:=by first|exact (rfl:_=[])|exact (rfl:_=[_])|exact (rfl:_=[_,_])|exact (rfl:_=[_,_,_])|exact (rfl:_=[_,_,_,_])|exact (rfl:_=[_,_,_,_,_])|exact (rfl:_=[_,_,_,_,_,_])|exact (rfl:_=[_,_,_,_,_,_,_])|exact (rfl:_=[_,_,_,_,_,_,_,_])|exact (rfl:_=[_,_,_,_,_,_,_,_,_])|exact (rfl:_=[_,_,_,_,_,_,_,_,_,_])|exact (rfl:_=[_,_,_,_,_,_,_,_,_,_,_])|exact (rfl:_=[_,_,_,_,_,_,_,_,_,_,_,_])|exact (rfl:_=[_,_,_,_,_,_,_,_,_,_,_,_,_])|exact (rfl:_=[_,_,_,_,_,_,_,_,_,_,_,_,_,_,_,_,_,_,_,_])|exact (rfl:_=[_,_,_,_,_,_,_,_,_,_,_,_,_,_,_,_,_,_,_,_,_])|exact (rfl:_=[_,_,_,_,_,_,_,_,_,_,_,_,_,_,_,_,_,_,_,_,_,_])|exact (rfl:_=[_,_,_,_,_,_,_,_,_,_,_,_,_,_,_,_,_,_,_,_,_,_,_]))
 (e3:apartB ws=true:=by exact rfl)
 (hn:r.new.length=n:=by first|exact (rfl:_=0)|exact (rfl:_=1)|exact (rfl:_=2)|exact (rfl:_=3)|exact (rfl:_=4)|exact (rfl:_=5)|exact (rfl:_=6)|exact (rfl:_=7)|exact (rfl:_=8)|exact (rfl:_=9)|exact (rfl:_=10)|exact (rfl:_=11)|exact (rfl:_=12)|exact (rfl:_=13)|exact (rfl:_=14)|exact (rfl:_=15)|exact (rfl:_=16)|exact (rfl:_=17)|exact (rfl:_=18)|exact (rfl:_=19))
 (hm:Xk0 ws=m:=by first|exact (rfl:_=0)|exact (rfl:_=1)|exact (rfl:_=2)|exact (rfl:_=3)|exact (rfl:_=4))
 (ht:top+n+m=t':=by simp only [Nat.reduceAdd];rfl)
 (e4:XcR h (XtE top n ws) ws r.wr=some h1:=by repeat' first|exact XFl|apply XLv rfl|apply XSn rfl rfl (by first|rfl|exact XJy|exact XIx|exact XLV|exact Xlw Xcd|exact Xlw XbN|exact Xlw XbV|exact Xc3 _ _ (by simp only [Xa6.flatL,XhG];rfl)) rfl rfl rfl|apply XE7 rfl rfl (by first|rfl|exact XJy|exact XIx|exact XLV|exact Xlw Xcd|exact Xlw XbN|exact Xlw XbV|exact Xc3 _ _ (by simp only [Xa6.flatL,XhG];rfl)) ⟨rfl,Nat.le_of_ble_eq_true rfl⟩ rfl rfl|apply XMV rfl rfl (by first|rfl|exact XJy|exact XIx|exact XLV|exact Xlw Xcd|exact Xlw XbN|exact Xlw XbV|exact Xc3 _ _ (by simp only [Xa6.flatL,XhG];rfl)) rfl|apply XMP|apply XSa rfl)
 (e5:XiB h1 (XtE top n ws) top r.new=some h2:=by repeat' first|exact XGL|apply XJq (by first|rfl|exact XJy|exact XIx|exact XLV|exact Xlw Xcd|exact Xlw XbN|exact Xlw XbV|exact Xc3 _ _ (by simp only [Xa6.flatL,XhG];rfl)))
 (e6:Xei (XtE top n ws) r.v=some v':=by first|exact rfl|exact XmH _ _ (by first|rfl|(simp only [Xa6,Xa6.flatL,XhG];rfl))):Xgn s vals h top K:=Xgn.XGD [] (XsS e1 ew ec e2 e3 hn hm ht e4 e5 e6) k
theorem Res.w {n:Nat} {r:Xcu} {v':Value} {H':Hp} (js:List Nat) (e1:Xei (Xtj js n) r.v=some v') (e2:XsL H' (Xtj js n) js r.new:=by (repeat' first|exact XwB|apply XwZ (by first|rfl|exact XJy|exact XIx|exact XLV|exact Xlw Xcd|exact Xlw XbN|exact Xlw XbV|exact Xc3 _ _ (by simp only [Xa6.flatL,XhG];rfl)) (by first|exact Xjk rfl|exact Xu6 rfl));first|done|fail) (e3:js.Nodup:=by decide) (e4:XEc n r.wr js:=by (repeat' first|exact Xwe|apply XwX (by decide)|apply js_r rfl);first|done|fail) (e5:Xwt H' (Xtj js n) 0 r.wr:=by (repeat' first|exact XwK|apply wr_n|apply wr_m rfl|apply wr_s (by first|rfl|exact XJy|exact XIx|exact XLV|exact Xlw Xcd|exact Xlw XbN|exact Xlw XbV|exact Xc3 _ _ (by simp only [Xa6.flatL,XhG];rfl)) (by first|exact Xu6 rfl|exact Xjk rfl));first|done|fail):Res n r v' H':=Res.of js e1 e2 e3 e4 e5
theorem W {G:Prop} (g:G:=by
 repeat' first
  | (refine fsp h ?_ ?_<;>(clear h;intros;rename_i hx h;rw [hx];conv=>whnf))
  | (refine fcase h ?_ ?_<;>first|(clear h;intro hx h;(first|subst hx|rw [hx]);conv=>whnf)|(clear h;intro h))
  | (refine br.h h (by rfl) ?_ ?_<;>(clear h;intro hb h;conv=>whnf))
  | (replace h:=Xa9.elim h;obtain ⟨hb,h⟩:=h;try (refine req.intro hb ?_;conv=>whnf))
  | (replace h:=Xdv.elim h;obtain ⟨x,hy,h⟩:=h;(first|refine Xgn.a (R1 hy) ?_|refine Xgn.a (R2 hy) ?_|refine Xgn.a (R3 hy) ?_|refine Xgn.a (R4 hy) ?_|refine Xgn.a (R5 hy) ?_|refine Xgn.a (R6 hy) ?_|refine Xgn.a (R7 hy) ?_|refine Xgn.a (R8 hy) ?_|refine Xgn.a (R9 hy) ?_|refine Xgn.a (R10 hy) ?_|refine Xgn.a (R11 hy) ?_|refine Xgn.a (R12 hy) ?_|refine rdS.intro hy ?_|refine rd.I hy (by first|rfl|(rw [Nat.zero_add,Nat.mul_one];try rfl;done)|omega) ?_|refine rd.S hy (by first|rfl|(rw [Nat.zero_add,Nat.mul_one];try rfl;done)|omega) ?_|refine rd.B hy (by first|rfl|(rw [Nat.zero_add,Nat.mul_one];try rfl;done)|omega) ?_|refine rd.U (j:=0) Xcg hy ?_|refine rd.U (j:=1) Xcg hy ?_|refine rd.U (j:=2) Xcg hy ?_|refine rd.U (j:=3) Xcg hy ?_|refine rd.U (j:=4) Xcg hy ?_|refine rd.U (j:=5) Xcg hy ?_|refine rd.U (j:=6) Xcg hy ?_|refine rd.U (j:=7) Xcg hy ?_|refine rd.U (j:=8) Xcg hy ?_|refine rd.U (j:=0) Xe9 hy ?_|refine rd.U (j:=1) Xe9 hy ?_|refine rd.U (j:=0) XcN hy ?_|refine rd.U (j:=1) XcN hy ?_|refine rd.U (j:=2) XcN hy ?_);conv=>whnf)
  | (cases h;done)
  | (cases h;(try cases hc);first|exact Res.y|exact Res.w [] rfl|exact Res.w [_] rfl|exact Res.w [_,_] rfl|exact Res.w [_,_,_] rfl|exact Res.w [_,_,_,_] rfl)):G:=g
theorem okA {f : Nat} {s : Xbs} (hfn : ∃ fn, Tryz.prog.funcs[f]? = some fn ∧ fn.name ≠ "runtime.NumGoroutine" ∧ fn.body.isSome = true)
 (H:∀ ar os r,Xgi (XuE s.modes) os→s.run ar (Xj5 os)=some r→∃ c,Xi0 (XaE tab) f ar=some c∧XaK Tryz.prog f os.length ⟨c,[],Xp7 0 os,os.length⟩ (fun v' H' _=>Res os.length r v' H'):=by
 intro ar os r ha hr
 generalize hc:Xj5 os=C at hr
 repeat' first
  | (replace hr:=XDp.elim hr;rcases hr with hr|hr)
  | (replace hr:=orD.elim hr;rcases hr with hr|hr)
  | (replace hr:=dV.elim hr;obtain ⟨v,l,y,rfl,e,hr⟩:=hr;first|obtain rfl:=Xxq _ _ _ e|obtain rfl:=Xzl _ _ e|obtain rfl:=XzZ _ _ e|obtain rfl:=Xrg _ _ e|obtain rfl:=Xqa _ _ e|obtain rfl:=Xp5 _ _ e|obtain rfl:=Xnn _ _ e|obtain rfl:=XpC _ _ e|obtain rfl:=XnD _ _ e|obtain rfl:=Xn9 _ _ e|obtain rfl:=XpA _ _ e|obtain rfl:=XrB _ _ e|obtain rfl:=XsY _ _ e|obtain rfl:=Xq1 _ _ e|obtain rfl:=Xp9 _ _ e|obtain rfl:=Xrk _ _ e|obtain rfl:=XsX _ _ e)
  | (have hq:=dSl.elim hr;clear hr;obtain ⟨c,l,C,y,rfl,rfl,e,hr⟩:=hq;first|obtain rfl:=XSD e|obtain rfl:=XSp e|obtain rfl:=XPU e|obtain rfl:=Xsl XhL e|obtain rfl:=Xsl Xkm e|obtain rfl:=Xsl Xku e)
  | (have hq:=dPt.elim hr;clear hr;obtain ⟨c,l,C,y,rfl,rfl,e,hr⟩:=hq;first|obtain rfl:=XmG _ _ e|obtain rfl:=XhL _ _ e|obtain rfl:=Xlu _ _ e|obtain rfl:=Xhm _ _ e|obtain rfl:=Xkv _ _ e|obtain rfl:=Xjp _ _ e|obtain rfl:=Xj0 _ _ e|obtain rfl:=Xkj _ _ e|obtain rfl:=Xmm _ _ e|obtain rfl:=Xkm _ _ e|obtain rfl:=Xms _ _ e|obtain rfl:=Xln _ _ e|obtain rfl:=Xmu _ _ e|obtain rfl:=Xku _ _ e|obtain rfl:=XyL (Xxq _) e|obtain rfl:=XyL Xzl e|obtain rfl:=XyL XzZ e)
  | (have hq:=dTr.elim hr;clear hr;obtain ⟨v,l,c,C,y,rfl,rfl,e,hr⟩:=hq;(first|obtain ⟨rfl,rfl⟩:=XmM e|obtain ⟨rfl,rfl⟩:=XpV e|obtain ⟨rfl,rfl⟩:=XoN e);simp only [List.nil_append,List.cons_append] at hc)
  | (have hq:=dNl.elim hr;clear hr;obtain ⟨l,C,rfl,rfl,hr⟩:=hq;simp only [List.replicate,List.nil_append,List.cons_append] at hc)
  | (replace hr:=dFin hr;obtain ⟨rfl,rfl,x,h,rfl⟩:=hr;(repeat (first|(replace ha:=Xws ha hc;obtain ⟨os,rfl,ha,hc⟩:=ha)|(replace ha:=XwG ha hc;obtain ⟨os,rfl,ha,hc⟩:=ha)));obtain rfl:=Xy6 hc;first|exact ⟨_,rfl,hL (h:=h) ..⟩|exact ⟨_,rfl,hN (h:=h) ..⟩|exact ⟨_,rfl,L0 (h:=h) ..⟩|exact ⟨_,rfl,L1 (h:=h) ..⟩|exact ⟨_,rfl,L2 (h:=h) ..⟩)):XbA Tryz.prog f s:=XbA.XCM XaJ H hfn
theorem Xn0 {P:Program} {f base fn nt:Nat} {e e':Env} {todo todo':List Xfq} {ds ds':List Nat} {ret:Bool} {up up':List Xbx} {H H':Hp} {top top':Nat} {R:Value→Hp→Nat→Prop}
 (h:XaK P f base ⟨⟨fn,nt,e',todo',ds',ret,none⟩,up',H',top'⟩ R) (m:List (Nat×Nat)) (hc:XAO base top' m=true) (he:reE (XaE m) e e':=by repeat' first|exact trivial|refine ⟨⟨_,rfl,rfl⟩,?_⟩|refine ⟨⟨_,_,rfl,rfl,.rowF (Xi4 _ _) id⟩,?_⟩|refine ⟨⟨_,_,rfl,rfl,.rowF (XnA _) id⟩,?_⟩|refine ⟨⟨_,_,rfl,rfl,.rowF (Xm7 _) id⟩,?_⟩|refine ⟨⟨_,_,rfl,rfl,.rowF (Xnp (by first|exact Xcd|exact XbN|exact XbV) _) id⟩,?_⟩|refine ⟨⟨_,_,rfl,rfl,.tyF (Xi4 _ _)⟩,?_⟩|refine ⟨⟨_,_,rfl,rfl,.ty rfl⟩,?_⟩|refine ⟨⟨_,_,rfl,rfl,.cells rfl⟩,?_⟩|refine ⟨⟨_,_,rfl,rfl,.row rfl id⟩,?_⟩|refine ⟨⟨_,_,rfl,rfl,.cr rfl⟩,?_⟩|refine ⟨⟨_,_,rfl,rfl,.rc rfl⟩,?_⟩|refine ⟨⟨_,_,rfl,rfl,.marks⟩,?_⟩|refine ⟨⟨_,_,rfl,rfl,.mp _⟩,?_⟩|refine ⟨⟨_,_,rfl,rfl,.siter _ _⟩,?_⟩|refine ⟨⟨_,_,rfl,rfl,.loop rfl rfl rfl rfl (by repeat' first|exact trivial|refine ⟨rfl,?_⟩) rfl rfl rfl rfl⟩,?_⟩) (hH:reH (XaE m) H H':=by repeat' first|exact trivial|refine ⟨⟨_,rfl,rfl⟩,?_⟩|refine ⟨⟨_,_,rfl,rfl,.rowF (Xi4 _ _) id⟩,?_⟩|refine ⟨⟨_,_,rfl,rfl,.rowF (XnA _) id⟩,?_⟩|refine ⟨⟨_,_,rfl,rfl,.rowF (Xm7 _) id⟩,?_⟩|refine ⟨⟨_,_,rfl,rfl,.rowF (Xnp (by first|exact Xcd|exact XbN|exact XbV) _) id⟩,?_⟩|refine ⟨⟨_,_,rfl,rfl,.tyF (Xi4 _ _)⟩,?_⟩|refine ⟨⟨_,_,rfl,rfl,.ty rfl⟩,?_⟩|refine ⟨⟨_,_,rfl,rfl,.cells rfl⟩,?_⟩|refine ⟨⟨_,_,rfl,rfl,.row rfl id⟩,?_⟩|refine ⟨⟨_,_,rfl,rfl,.cr rfl⟩,?_⟩|refine ⟨⟨_,_,rfl,rfl,.rc rfl⟩,?_⟩|refine ⟨⟨_,_,rfl,rfl,.marks⟩,?_⟩|refine ⟨⟨_,_,rfl,rfl,.mp _⟩,?_⟩|refine ⟨⟨_,_,rfl,rfl,.siter _ _⟩,?_⟩|refine ⟨⟨_,_,rfl,rfl,.loop rfl rfl rfl rfl (by repeat' first|exact trivial|refine ⟨rfl,?_⟩) rfl rfl rfl rfl⟩,?_⟩)
 (ht:XBA (XaE m) todo'=some todo:=by rfl) (hd:XD7 (XaE m) ds'=some ds:=by rfl) (hu:reU (XaE m) up up':=by trivial) :
 XaK P f base ⟨⟨fn,nt,e,todo,ds,ret,none⟩,up,H,top⟩ R:=XaK.re h m hc he hH ht hd hu
theorem XwY {P:Program} {f base fn nt:Nat} {e e':Env} {todo todo':List Xfq} {ds ds':List Nat} {ret:Bool} {up up':List Xbx} {H H':Hp} {top top':Nat} {R:Value→Hp→Nat→Prop}
 (h:XaK P f base ⟨⟨fn,nt,e',todo',ds',ret,none⟩,up',H',top'⟩ R) (m:List (Nat×Nat)) (hc:XAO base top' m=true) (he:reE (XaE m) e e':=by repeat' first|exact trivial|refine ⟨⟨_,rfl,rfl⟩,?_⟩|refine ⟨⟨_,_,rfl,rfl,.rowF (Xi4 _ _) id⟩,?_⟩|refine ⟨⟨_,_,rfl,rfl,.rowF (XnA _) id⟩,?_⟩|refine ⟨⟨_,_,rfl,rfl,.rowF (Xm7 _) id⟩,?_⟩|refine ⟨⟨_,_,rfl,rfl,.rowF (Xnp (by first|exact Xcd|exact XbN|exact XbV) _) id⟩,?_⟩|refine ⟨⟨_,_,rfl,rfl,.tyF (Xi4 _ _)⟩,?_⟩|refine ⟨⟨_,_,rfl,rfl,.ty rfl⟩,?_⟩|refine ⟨⟨_,_,rfl,rfl,.cells rfl⟩,?_⟩|refine ⟨⟨_,_,rfl,rfl,.row rfl id⟩,?_⟩|refine ⟨⟨_,_,rfl,rfl,.cr rfl⟩,?_⟩|refine ⟨⟨_,_,rfl,rfl,.rc rfl⟩,?_⟩|refine ⟨⟨_,_,rfl,rfl,.marks⟩,?_⟩|refine ⟨⟨_,_,rfl,rfl,.mp _⟩,?_⟩|refine ⟨⟨_,_,rfl,rfl,.siter _ _⟩,?_⟩|refine ⟨⟨_,_,rfl,rfl,.loop rfl rfl rfl rfl (by repeat' first|exact trivial|refine ⟨rfl,?_⟩) rfl rfl rfl rfl⟩,?_⟩) (hH:reH (XaE m) H H':=by repeat' first|exact trivial|refine ⟨⟨_,rfl,rfl⟩,?_⟩|refine ⟨⟨_,_,rfl,rfl,.rowF (Xi4 _ _) id⟩,?_⟩|refine ⟨⟨_,_,rfl,rfl,.rowF (XnA _) id⟩,?_⟩|refine ⟨⟨_,_,rfl,rfl,.rowF (Xm7 _) id⟩,?_⟩|refine ⟨⟨_,_,rfl,rfl,.rowF (Xnp (by first|exact Xcd|exact XbN|exact XbV) _) id⟩,?_⟩|refine ⟨⟨_,_,rfl,rfl,.tyF (Xi4 _ _)⟩,?_⟩|refine ⟨⟨_,_,rfl,rfl,.ty rfl⟩,?_⟩|refine ⟨⟨_,_,rfl,rfl,.cells rfl⟩,?_⟩|refine ⟨⟨_,_,rfl,rfl,.row rfl id⟩,?_⟩|refine ⟨⟨_,_,rfl,rfl,.cr rfl⟩,?_⟩|refine ⟨⟨_,_,rfl,rfl,.rc rfl⟩,?_⟩|refine ⟨⟨_,_,rfl,rfl,.marks⟩,?_⟩|refine ⟨⟨_,_,rfl,rfl,.mp _⟩,?_⟩|refine ⟨⟨_,_,rfl,rfl,.siter _ _⟩,?_⟩|refine ⟨⟨_,_,rfl,rfl,.loop rfl rfl rfl rfl (by repeat' first|exact trivial|refine ⟨rfl,?_⟩) rfl rfl rfl rfl⟩,?_⟩)
 (ht:XBA (XaE m) todo'=some todo:=by rfl) (hd:XD7 (XaE m) ds'=some ds:=by rfl) (hu:reU (XaE m) up up':=by repeat' first|exact trivial|refine ⟨⟨rfl,rfl,rfl,rfl,rfl,?_,rfl,rfl⟩,?_⟩|refine ⟨⟨_,rfl,rfl⟩,?_⟩) :
 XaK P f base ⟨⟨fn,nt,e,todo,ds,ret,none⟩,up,H,top⟩ R:=XaK.re h m hc he hH ht hd hu
def XgW (n1:Int):Option (Sum Int Int):=
 cond (decide (n1>65535))
  (
  let t:=wI .i64 ((Xl7 .i64 n1 65535)+(n1.fdiv (2^16)))
  some (.inl t))
  (
  some (.inr (n1)))
def XjL (n:Int):Option Int:=
 iter (fun st=>XgW st) FUEL n
def Xwa (x:Int):Xcu:=⟨.int .i64 x,[],[]⟩
abbrev XcD:=Int→Option Int
def r115 (g:XcD):Dec:=dV (asI .i64) fun (y0:Int)=>Xdm (ofG (g y0) Xwa)
theorem XPx {g:XcD} {y0:Int} {x:Int} (hx:g y0=some x):r115 g [.int .i64 y0] []=some (Xwa x):=(XaY (Xc2 _)).trans (XaX hx)
def s115 (g:XcD):Xbs:=⟨[.v],r115 g⟩
theorem Xtr {g:XcD} {y0:Int} {x:Int} (hx:g y0=some x):(s115 g).run [.int .i64 y0] []=some (Xwa x):=XPx hx
abbrev XAx:List (Nat×Xbs):=[]
def Xky (n1:Int):VM:=
 ⟨⟨115,11,[(0,.int .i64 n1)],[.code XzJ,.inLoop XzJ,.inBlock 0,.code Xxw],[],false,none⟩,[],[],0⟩
theorem Xyq (hS:Xal Tryz.prog (XaE (XAx))) (res:Int):∀ fuel (st:Int) (o:Int),iter (fun st=>XgW st) fuel st=some o→(o=res) →
 XaK Tryz.prog 115 0 (Xky st) (fun v H _=>Res 0 (Xwa res) v H):=by
 intro fuel st o h hc
 refine XcZ (head:=fun st=>Xky st) (C:=fun o=>(o=res)) ?_ fuel st o h hc
 clear h hc o st fuel
 intro n1 o h hc
 replace h:XgW n1=some o:=h
 show XaK Tryz.prog 115 0 (Xky n1) (fun v H _=>Res 0 (Xwa res) v H)
 unfold XgW at h
 refine Xbg XaJ hS true 3000 ?_
 conv=>whnf
 refine br.h2 h (by rfl) ?_ ?_
 ·clear h;intro hb h;conv=>whnf
  exact W
 clear h;intro hb h;conv=>whnf
 let t:Int:=wI .i64 ((Xl7 .i64 n1 65535)+(n1.fdiv (2^16)))
 cases h;simp only [Sum.elim_inl,Xky] at hc
 exact Xn0 hc [] rfl
theorem XBJ (hS:Xal Tryz.prog (XaE (XAx))) (n:Int) (res:Int) (h:XjL n=some res) :
 XaK Tryz.prog 115 0 ⟨⟨115,11,[(0,.int .i64 n)],[.code XyD],[],false,none⟩,[],[],0⟩ (fun v H _=>Res 0 (Xwa res) v H):=by
 unfold XjL at h
 refine Xbg XaJ hS true 3000 ?_
 conv=>whnf
 have hl:=Xyq hS res _ _ _ h rfl;simp only [Xky] at hl
 exact Xn0 hl [] rfl
def Xby:XcD:=XjL
theorem Xzk:XbA Tryz.prog 115 (s115 Xby):=by
 have hL:=XBJ (Xal.XaV trivial)
 exact okA ⟨Tryz.f115,rfl,by decide,rfl⟩
def Xgo (Xby:XcD) (s:List UInt8) (xat:Int) (n:Int):Option (Sum (Int×Int) Int):=
 cond (decide (xat<(s.length:Int)))
  (
  Xa9 (decide (0≤xat)) <|
  (s[xat.toNat]?).bind fun (b:UInt8)=>
  let t:=wI .i64 ((wI .i64 (b.toNat:Int))*2^8)
  let t1:=decide ((wI .i64 (xat+1))<(s.length:Int))
  cond (t1)
   (
   Xa9 (decide (0≤(wI .i64 (xat+1)))) <|
   (s[(wI .i64 (xat+1)).toNat]?).bind fun (b1:UInt8)=>
   let t2:=wI .i64 (n+(XuZ .i64 t (wI .i64 (b1.toNat:Int))))
   (Xby t2).bind fun f=>
   some (.inl (wI .i64 (xat+2),f)))
   (
   (Xby (wI .i64 (n+t))).bind fun f1=>
   some (.inl (wI .i64 (xat+2),f1))))
  (
  some (.inr (n)))
def Xk8 (Xby:XcD) (s:List UInt8):Option Int:=
 iter (fun st=>Xgo Xby s st.1 st.2) FUEL (0,0)
def XMc (x:Int):Xcu:=⟨.int .i64 x,[],[]⟩
abbrev Xe7:=(List UInt8)→Option Int
def r87 (g:Xe7):Dec:=dV asS fun (y0:List UInt8)=>Xdm (ofG (g y0) XMc)
theorem r87_c {g:Xe7} {y0:List UInt8} {x:Int} (hx:g y0=some x):r87 g [.string ⟨⟨y0⟩⟩] []=some (XMc x):=(XaY (XcY)).trans (XaX hx)
def s87 (g:Xe7):Xbs:=⟨[.v],r87 g⟩
theorem XQN {g:Xe7} {y0:List UInt8} {x:Int} (hx:g y0=some x):(s87 g).run [.string ⟨⟨y0⟩⟩] []=some (XMc x):=r87_c hx
abbrev XE6 (Xby:XcD):List (Nat×Xbs):=[(115,s115 Xby)]
def XkY (s:List UInt8) (xat:Int) (n:Int):VM:=
 ⟨⟨128,32,[(0,.func (.yield 3) #[] #[]),(1,.pointer (some ⟨1,0,none⟩)),(3,.int .i64 xat)],[.code XpT,.inLoop XpT,.inBlock 0],[],false,none⟩,[⟨87,13,[(3,.pointer (some ⟨0,0,none⟩))],[.inRangeFunc 3,.inBlock 0,.code XGq],[2],false,none⟩],[(0,.cells [.int .i64 n]),(1,.cells [.string ⟨⟨s⟩⟩]),(2,.marks),(3,.loop ⟨.ready,none,87,13,[(3,.pointer (some ⟨0,0,none⟩))],[7],XTa,XNM,2⟩)],4⟩
theorem XDN (Xby:XcD) (hS:Xal Tryz.prog (XaE (XE6 Xby))) (s:List UInt8) (res:Int):∀ fuel (st:Int×Int) (o:Int),iter (fun st=>Xgo Xby s st.1 st.2) fuel st=some o→(o=res) →
 XaK Tryz.prog 87 0 (XkY s st.1 st.2) (fun v H _=>Res 0 (XMc res) v H):=by
 intro fuel st o h hc
 refine XcZ (head:=fun st=>XkY s st.1 st.2) (C:=fun o=>(o=res)) ?_ fuel st o h hc
 clear h hc o st fuel
 intro st o h hc
 obtain ⟨xat,n⟩:=st
 replace h:Xgo Xby s xat n=some o:=h
 show XaK Tryz.prog 87 0 (XkY s xat n) (fun v H _=>Res 0 (XMc res) v H)
 unfold Xgo at h
 refine Xbg XaJ hS true 3000 ?_
 conv=>whnf
 refine br.h2 h (by rfl) ?_ ?_
 ·clear h;intro hb h;conv=>whnf
  exact W
 clear h;intro hb h;conv=>whnf
 replace h:=Xa9.elim h;obtain ⟨hb,h⟩:=h
 try (refine req.intro hb ?_;conv=>whnf)
 replace h:=Xdv.elim h;obtain ⟨b,hy,h⟩:=h
 refine rdS.intro hy ?_
 conv=>whnf
 let t:Int:=wI .i64 ((wI .i64 (b.toNat:Int))*2^8)
 let t1:Bool:=decide ((wI .i64 (xat+1))<(s.length:Int))
 refine br.h2 h (by rfl) ?_ ?_
 ·clear h;intro hb h;conv=>whnf
  replace h:=Xdv.elim h;obtain ⟨f1,hy,h⟩:=h
  refine Xgn.a (Xtr hy) ?_
  conv=>whnf
  cases h;simp only [Sum.elim_inl,XkY] at hc
  exact XwY hc [(0,0),(1,1),(2,2),(3,3)] rfl
 clear h;intro hb h;conv=>whnf
 replace h:=Xa9.elim h;obtain ⟨hb,h⟩:=h
 try (refine req.intro hb ?_;conv=>whnf)
 replace h:=Xdv.elim h;obtain ⟨b1,hy,h⟩:=h
 refine rdS.intro hy ?_
 conv=>whnf
 let t2:Int:=wI .i64 (n+(XuZ .i64 t (wI .i64 (b1.toNat:Int))))
 replace h:=Xdv.elim h;obtain ⟨f,hy,h⟩:=h
 refine Xgn.a (Xtr hy) ?_
 conv=>whnf
 cases h;simp only [Sum.elim_inl,XkY] at hc
 exact XwY hc [(0,0),(1,1),(2,2),(3,3)] rfl
theorem XJH (Xby:XcD) (hS:Xal Tryz.prog (XaE (XE6 Xby))) (s:List UInt8) (res:Int) (h:Xk8 Xby s=some res) :
 XaK Tryz.prog 87 0 ⟨⟨87,13,[(0,.string ⟨⟨s⟩⟩)],[.code XGc],[],false,none⟩,[],[],0⟩ (fun v H _=>Res 0 (XMc res) v H):=by
 unfold Xk8 at h
 refine Xbg XaJ hS true 3000 ?_
 conv=>whnf
 have hl:=XDN Xby hS _ res _ _ _ h rfl;simp only [XkY] at hl
 exact XwY hl [(0,0),(1,1),(2,2),(3,3)] rfl
def XeW:Xe7:=Xk8 Xby
theorem XNk:XbA Tryz.prog 87 (s87 XeW):=by
 have hL:=XJH Xby (Xal.XaV ⟨Xzk,trivial⟩)
 exact okA ⟨Tryz.f87,rfl,by decide,rfl⟩
end Go.Vm.Code
namespace Go.Vm.Code
open Go Go.Vm
def XcA:List UInt8→Nat
 | []=>0
 | [b]=>b.toNat*256
 | b::c::l=>b.toNat*256+c.toNat+XcA l
def norm (n:Nat):Nat:=if n=0 then 0 else (n - 1)%65535+1
theorem norm_eq {n r:Nat} (h1:r≤65535) (h2:r%65535=n%65535) (h3:r=0↔n=0):norm n=r:=by unfold norm;split<;>omega
theorem norm_le (n:Nat):norm n≤65535:=by unfold norm;split<;>omega
theorem XhO (n:Nat):norm n%65535=n%65535:=by unfold norm;split<;>omega
theorem Xiy (n:Nat):norm n=0↔n=0:=by unfold norm;split<;>omega
theorem XoJ {n:Nat} (h:n≤65535):norm n=n:=norm_eq h rfl Iff.rfl
theorem XuX (a b:Nat):norm (norm a+b)=norm (a+b):=
 (norm_eq (norm_le _) (by have h1:=XhO a;have h2:=XhO (norm a+b);omega) (by have h1:=Xiy a;have h2:=Xiy (norm a+b);omega)).symm
theorem fold_eq {n:Int} (h0:0≤n) (h1:n<2^62):Xby n=some ((norm n.toNat:Nat):Int):=by
 unfold Xby XjL
 refine iter_eq (fun n=>((norm n.toNat:Nat):Int)) (fun n=>0≤n∧n<2^62) (fun n=>n.toNat) ?_ FUEL _ ⟨h0,h1⟩ (by rw [Xge];omega)
 intro s ⟨a,b⟩
 unfold XgW
 by_cases hs:s>65535
 ·refine .inr ⟨s%65536+s/65536,?_,⟨by omega,by omega⟩,by omega,?_⟩
  ·rw [Xa2 hs,XiJ (m:=65535) 16 (by decide) (by decide) a (by omega),Xs8,Xc5 (by omega) (by omega)];rfl
  ·have:norm (s%65536+s/65536).toNat=norm s.toNat:=
    (norm_eq (norm_le _) (by have:=XhO (s%65536+s/65536).toNat;omega) (by have:=Xiy (s%65536+s/65536).toNat;omega)).symm
   rw [this]
 ·refine .inl ?_
  rw [XaQ hs]
  have:=XoJ (n:=s.toNat) (by omega)
  simp only [this]
  rw [Int.toNat_of_nonneg a]
theorem XDg {s:List UInt8} {i:Nat} (h:i+1<s.length):XcA (s.drop i)=s[i].toNat*256+s[i+1].toNat+XcA (s.drop (i+2)):=by
 rw [List.drop_eq_getElem_cons (by omega:i<s.length),List.drop_eq_getElem_cons h];rfl
theorem XDr {s:List UInt8} {i:Nat} (h:i+1=s.length):XcA (s.drop i)=s[i].toNat*256:=by
 rw [List.drop_eq_getElem_cons (by omega:i<s.length),List.drop_eq_nil_of_le (by omega)];rfl
theorem Xsg {s:List UInt8} {i:Nat} (h:s.length≤i):XcA (s.drop i)=0:=by
 rw [List.drop_eq_nil_of_le h];rfl
theorem XOg (s:List UInt8) (h:s.length<2^61):XeW s=some ((norm (XcA s):Nat):Int):=by
 unfold XeW Xk8
 have key:=iter_eq (step:=fun (st:Int×Int)=>Xgo Xby s st.1 st.2) (fun (st:Int×Int)=>((norm (st.2.toNat+XcA (s.drop st.1.toNat)):Nat):Int)) (fun (st:Int×Int)=>0≤st.1∧st.1≤s.length+1∧0≤st.2∧st.2≤65535) (fun (st:Int×Int)=>(s.length+2 - st.1).toNat) ?_ FUEL (0,0) ⟨by simp,by simp;omega,by simp,by simp⟩ (by rw [Xge];simp only;omega)
 ·rw [key];simp
 rintro ⟨p,n⟩ ⟨h1,h2,h3,h4⟩
 simp only at h1 h2 h3 h4 ⊢
 obtain ⟨i,rfl⟩:=Int.eq_ofNat_of_zero_le h1
 obtain ⟨m,rfl⟩:=Int.eq_ofNat_of_zero_le h3
 unfold Xgo
 by_cases hp:i<s.length
 ·by_cases hq:i+1<s.length
  ·have b1:=s[i].toNat_lt
   have b2:=s[i+1].toNat_lt
   refine .inr ⟨(((i+2:Nat):Int),((norm (m+(s[i].toNat*256+s[i+1].toNat)):Nat):Int)),?_,⟨by simp only;omega,by simp only;omega,by simp only;omega,by simp only;have:=norm_le (m+(s[i].toNat*256+s[i+1].toNat));omega⟩,by simp only;omega,?_⟩
   ·simp (disch:=omega) only [Xc5,XaC,Xa2]
    have e:((i:Int)+1).toNat=i+1:=by omega
    rw [e]
    simp (disch:=omega) only [Int.toNat_natCast,List.getElem?_eq_getElem,Option.bind_some,XqG,Xc5,fold_eq]
    congr 3<;>omega
   ·simp only [Int.toNat_natCast]
    rw [XuX,XDg hq,Nat.add_assoc]
  ·have b1:=s[i].toNat_lt
   refine .inr ⟨(((i+2:Nat):Int),((norm (m+s[i].toNat*256):Nat):Int)),?_,⟨by simp only;omega,by simp only;omega,by simp only;omega,by simp only;have:=norm_le (m+s[i].toNat*256);omega⟩,by simp only;omega,?_⟩
   ·simp (disch:=omega) only [Xc5,XaC,Xa2,XaQ,Int.toNat_natCast,List.getElem?_eq_getElem,Option.bind_some,fold_eq]
    congr 3<;>omega
   ·simp only [Int.toNat_natCast]
    rw [XuX,Xsg (i:=i+2) (by omega),Nat.add_zero,XDr (i:=i) (by omega)]
 ·refine .inl ?_
  simp (disch:=omega) only [XaQ]
  simp only [Int.toNat_natCast]
  rw [Xsg (by omega),Nat.add_zero,XoJ (by omega)]
theorem XcJ:∀ (a b:List UInt8),a.length%2=0→XcA (a++b)=XcA a+XcA b
 | [],b,_=>by simp [XcA]
 | [_],b,h=>by simp at h
 | x::y::a,b,h=>by
   have:=XcJ a b (by simp at h;omega)
   simp only [List.cons_append,XcA,this];omega
def XM1 (l:List UInt8):Bool:=l.all fun b=>b==0
end Go.Vm.Code
namespace Go.Vm
open Go
def be (n:Nat):Nat→List UInt8
 | 0=>[]
 | r+1=>UInt8.ofNat (n/256^r)::be n r
def XdH (l:List UInt8):Nat:=l.foldl (fun n b=>n*256+b.toNat) 0
@[simp] theorem Xdr (n:Nat):∀ k,(be n k).length=k
 | 0=>rfl
 | k+1=>by simp [be,Xdr n k]
theorem Xpc (n:Nat):∀ k,be n (k+1)=be (n/256) k++[UInt8.ofNat n]
 | 0=>by simp [be]
 | k+1=>by
   rw [be,Xpc n k,be,Nat.div_div_eq_div_mul,Nat.pow_succ,Nat.mul_comm 256];rfl
theorem XyR (n:Nat):∀ k,be (n%256^k) k=be n k
 | 0=>rfl
 | k+1=>by
   rw [Xpc,Xpc,Nat.pow_succ,Nat.mul_comm,Nat.mod_mul_right_div_self,XyR (n/256) k]
   congr 2
   apply UInt8.toNat_inj.1
   simp only [UInt8.toNat_ofNat']
   rw [Nat.mod_mul_right_mod]
theorem Xtd (l:List UInt8):∀ n:Nat,l.foldl (fun n b=>n*256+b.toNat) n=n*256^l.length+XdH l:=by
 induction l with
 | nil=>intro n;simp [XdH]
 | cons b l ih=>
   intro n
   rw [XdH,List.foldl_cons,ih,List.foldl_cons,ih,List.length_cons,Nat.pow_succ]
   rw [Nat.zero_mul,Nat.zero_add,Nat.add_mul,Nat.mul_assoc,Nat.mul_comm (256^_) 256,Nat.add_assoc]
@[simp] theorem XIP:XdH []=0:=rfl
theorem XfL (b:UInt8) (l:List UInt8):XdH (b::l)=b.toNat*256^l.length+XdH l:=by
 rw [XdH,List.foldl_cons,Xtd];simp
theorem val_append (l m:List UInt8):XdH (l++m)=XdH l*256^m.length+XdH m:=by
 rw [XdH,List.foldl_append,Xtd];rfl
theorem XC8 (l:List UInt8) (b:UInt8):XdH (l++[b])=XdH l*256+b.toNat:=by
 rw [val_append];simp [XfL]
theorem XsA:∀ l:List UInt8,XdH l<256^l.length
 | []=>by simp
 | b::l=>by
   have h:=XsA l
   have hb:=b.toNat_lt
   rw [XfL,List.length_cons,Nat.pow_succ]
   have:b.toNat*256^l.length+256^l.length≤256*256^l.length:=by
    rw [←Nat.succ_mul];exact Nat.mul_le_mul_right _ (by omega)
   rw [Nat.mul_comm (256^l.length)];omega
theorem XGU (n:Nat):∀ k,XdH (be n k)=n%256^k
 | 0=>by simp [be,Nat.mod_one]
 | k+1=>by
   have e:n%256^(k+1)=n%256+256*(n/256%256^k):=by rw [Nat.pow_succ',Nat.mod_mul]
   rw [Xpc,XC8,XGU (n/256) k,UInt8.toNat_ofNat',e]
   generalize n/256%256^k=x
   omega
theorem Xew {n k:Nat} (h:n<256^k):XdH (be n k)=n:=by rw [XGU,Nat.mod_eq_of_lt h]
theorem XxC:∀ l:List UInt8,be (XdH l) l.length=l
 | []=>rfl
 | b::l=>by
   have h:=XsA l
   rw [List.length_cons,be]
   have e1:XdH (b::l)/256^l.length=b.toNat:=by
    rw [XfL,Nat.mul_comm,Nat.mul_add_div (Nat.pow_pos (by decide)),Nat.div_eq_of_lt h,Nat.add_zero]
   have e2:be (XdH (b::l)) l.length=be (XdH l) l.length:=by
    rw [←XyR (XdH (b::l)),XfL,Nat.mul_add_mod',XyR]
   rw [e1,e2,XxC l]
   simp
theorem XKE {l:List UInt8} {k:Nat} (h:l.length=k):be (XdH l) k=l:=by subst h;exact XxC l
theorem Xc9 {l:List UInt8} {k:Nat} (n:Nat) (h:256^k≤n):XdH (l.take k)<n:=by
 have h1:=XsA (l.take k)
 have h2:(l.take k).length≤k:=List.length_take_le _ _
 exact Nat.lt_of_lt_of_le h1 (Nat.le_trans (Nat.pow_le_pow_right (by decide) h2) h)
end Go.Vm
namespace Go.Vm.Code
open Go Go.Vm Go.Proofs
set_option maxRecDepth 100000
set_option maxHeartbeats 4000000
set_option linter.unusedVariables false
def XgL (n:Int) (k:Int) (t17:Int) (b:List Int):Option (Sum (Int×(List Int)) (List UInt8)):=
 cond (decide (t17<(k.toNat:Int)))
  (
  let t:=wI .i64 (8*(wI .i64 ((wI .i64 (k - 1)) - t17)))
  Xa9 (decide (0≤t)) <|
  Xa9 (decide ((0:Int)≤t17∧t17<(k.toNat:Int))) <|
  Xa9 (decide (t17.toNat<b.length)) <|
  let row:=b.set t17.toNat (wI .u8 (n.fdiv (2^(min t.toNat 64))))
  some (.inl (wI .i64 (t17+1),row)))
  (
  Xa9 (decide (k.toNat≤b.length)) <|
  some (.inr (iB (b.take k.toNat))))
def Xk7 (n:Int) (k:Int):Option (List UInt8):=
 cond (decide (k<1))
  (
  some ([]))
  (
  cond (decide (k>8))
   (
   some ([]))
   (
   Xa9 (decide (0≤k∧k≤k∧k<2^63∧(1:Int)*k≤2^48)) <|
   iter (fun st=>XgL n k st.1 st.2) FUEL (0,List.replicate k.toNat (0))))
def XMb (x:List UInt8):Xcu:=⟨.string ⟨⟨x⟩⟩,[],[]⟩
abbrev Xbt:=Int→Int→Option (List UInt8)
def r71 (g:Xbt):Dec:=dV (asI .u64) fun (y0:Int)=>dV (asI .i64) fun (y1:Int)=>Xdm (ofG (g y0 y1) XMb)
theorem r71_c {g:Xbt} {y0:Int} {y1:Int} {x:List UInt8} (hx:g y0 y1=some x):r71 g [.int .u64 y0,.int .i64 y1] []=some (XMb x):=(XaY (Xc2 _)).trans ((XaY (Xc2 _)).trans (XaX hx))
def s71 (g:Xbt):Xbs:=⟨[.v,.v],r71 g⟩
theorem Xpd {g:Xbt} {y0:Int} {y1:Int} {x:List UInt8} (hx:g y0 y1=some x):(s71 g).run [.int .u64 y0,.int .i64 y1] []=some (XMb x):=r71_c hx
abbrev XGs:List (Nat×Xbs):=[]
def Xmf (n:Int) (k:Int) (t17:Int) (b:List Int):VM:=
 ⟨⟨71,34,[(0,.int .u64 n),(1,.int .i64 k),(5,.slice (some ⟨0,0,none⟩) k.toNat 1),(16,.int .i64 (k.toNat:Int)),(17,.int .i64 t17)],[.code Xxr,.inLoop Xxr,.inBlock 0,.code XFI],[],false,none⟩,[],[(0,.row true (vI .u8 b))],1⟩
theorem XD5 (hS:Xal Tryz.prog (XaE (XGs))) (n:Int) (k:Int) (res:List UInt8):∀ fuel (st:Int×(List Int)) (o:List UInt8),iter (fun st=>XgL n k st.1 st.2) fuel st=some o→(o=res) →
 XaK Tryz.prog 71 0 (Xmf n k st.1 st.2) (fun v H _=>Res 0 (XMb res) v H):=by
 intro fuel st o h hc
 refine XcZ (head:=fun st=>Xmf n k st.1 st.2) (C:=fun o=>(o=res)) ?_ fuel st o h hc
 clear h hc o st fuel
 intro st o h hc
 obtain ⟨t17,b⟩:=st
 replace h:XgL n k t17 b=some o:=h
 show XaK Tryz.prog 71 0 (Xmf n k t17 b) (fun v H _=>Res 0 (XMb res) v H)
 unfold XgL at h
 refine Xbg XaJ hS true 3000 ?_
 conv=>whnf
 refine br.h2 h (by rfl) ?_ ?_
 ·clear h;intro hb h;conv=>whnf
  replace h:=Xa9.elim h;obtain ⟨hb,h⟩:=h
  refine req.intro (by (first|rfl|(simp [wI,vI,vB,vS,bI,Xh9,Xef,Xa1,Value.cells] at *;omega)|(simp [vI,vB,vS,bI,Xh9,Xef,Xa1,Value.cells] at *;omega)|(simp [vI,vB,vS,bI,Xh9,Xef,Xa1,Value.cells] at *;done))) ?_
  conv=>whnf
  refine XM5 ?_
  conv=>whnf
  exact W
 clear h;intro hb h;conv=>whnf
 let t:Int:=wI .i64 (8*(wI .i64 ((wI .i64 (k - 1)) - t17)))
 replace h:=Xa9.elim h;obtain ⟨hb,h⟩:=h
 try (refine req.intro hb ?_;conv=>whnf)
 replace h:=Xa9.elim h;obtain ⟨hb,h⟩:=h
 try (refine req.intro hb ?_;conv=>whnf)
 replace h:=Xa9.elim h;obtain ⟨hb,h⟩:=h
 refine st_I hb (by first|rfl|(rw [Nat.zero_add,Nat.mul_one];try rfl;done)|omega) ?_
 conv=>whnf
 let row:List Int:=b.set t17.toNat (wI .u8 (n.fdiv (2^(min t.toNat 64))))
 cases h;simp only [Sum.elim_inl,Xmf] at hc
 exact Xn0 hc [(0,0)] rfl
theorem XH0 (hS:Xal Tryz.prog (XaE (XGs))) (n:Int) (k:Int) (res:List UInt8) (h:Xk7 n k=some res) :
 XaK Tryz.prog 71 0 ⟨⟨71,34,[(0,.int .u64 n),(1,.int .i64 k)],[.code XEM],[],false,none⟩,[],[],0⟩ (fun v H _=>Res 0 (XMb res) v H):=by
 unfold Xk7 at h
 refine Xbg XaJ hS true 3000 ?_
 conv=>whnf
 refine br.h h (by rfl) ?_ ?_
 ·clear h;intro hb h;conv=>whnf
  exact W
 clear h;intro hb h;conv=>whnf
 refine br.h h (by rfl) ?_ ?_
 ·clear h;intro hb h;conv=>whnf
  exact W
 clear h;intro hb h;conv=>whnf
 replace h:=Xa9.elim h;obtain ⟨hb,h⟩:=h
 try (refine req.intro hb ?_;conv=>whnf)
 refine XP4 ?_
 conv=>whnf
 have hl:=XD5 hS _ _ res _ _ _ h rfl;simp only [Xmf] at hl
 exact Xn0 hl [(0,0)] rfl
def Xaz:Xbt:=Xk7
theorem Xqx:XbA Tryz.prog 71 (s71 Xaz):=by
 have hL:=XH0 (Xal.XaV trivial)
 exact okA ⟨Tryz.f71,rfl,by decide,rfl⟩
def XgF (t1:List UInt8) (n:Int) (t37:Int):Option (Sum (Int×Int) (Int×Bool)):=
 cond (decide (t37<(t1.length:Int)))
  (
  Xa9 (decide ((0:Int)≤t37∧t37<(t1.length:Int))) <|
  ((bI t1)[t37.toNat]?).bind fun (e:Int)=>
  let t2:=XuZ .u64 (wI .u64 (n*2^8)) (wI .u64 e)
  some (.inl (t2,wI .i64 (t37+1))))
  (
  some (.inr ((n,true))))
def Xlb (s:List UInt8) (ata1:Int) (k:Int):Option (Int×Bool):=
 cond (decide (k<1))
  (
  some ((0,false)))
  (
  cond (decide (k>8))
   (
   some ((0,false)))
   (
   cond (decide (ata1<0))
    (
    some ((0,false)))
    (
    let t:=decide ((wI .i64 ((s.length:Int) - k))<ata1)
    cond (t)
     (
     some ((0,false)))
     (
     Xa9 (decide ((0:Int)≤(wI .i64 (ata1+k))∧(wI .i64 (ata1+k))≤(s.length:Int)∧(0:Int)≤ata1∧ata1≤((wI .i64 (ata1+k)).toNat:Int))) <|
     let t1:=(s.drop ata1.toNat).take ((wI .i64 (ata1+k)).toNat - ata1.toNat)
     iter (fun st=>XgF t1 st.1 st.2) FUEL (0,0)))))
def XMp (x:Int×Bool):Xcu:=⟨.tuple ⟨[.int .u64 x.1,.bool x.2]⟩,[],[]⟩
abbrev Xbk:=(List UInt8)→Int→Int→Option (Int×Bool)
def r69 (g:Xbk):Dec:=dV asS fun (y0:List UInt8)=>dV (asI .i64) fun (y1:Int)=>dV (asI .i64) fun (y2:Int)=>Xdm (ofG (g y0 y1 y2) XMp)
theorem r69_c {g:Xbk} {y0:List UInt8} {y1:Int} {y2:Int} {x:Int×Bool} (hx:g y0 y1 y2=some x):r69 g [.string ⟨⟨y0⟩⟩,.int .i64 y1,.int .i64 y2] []=some (XMp x):=(XaY (XcY)).trans ((XaY (Xc2 _)).trans ((XaY (Xc2 _)).trans (XaX hx)))
def s69 (g:Xbk):Xbs:=⟨[.v,.v,.v],r69 g⟩
theorem XpF {g:Xbk} {y0:List UInt8} {y1:Int} {y2:Int} {x:Int×Bool} (hx:g y0 y1 y2=some x):(s69 g).run [.string ⟨⟨y0⟩⟩,.int .i64 y1,.int .i64 y2] []=some (XMp x):=r69_c hx
abbrev XFU:List (Nat×Xbs):=[]
def Xme (t1:List UInt8) (n:Int) (t37:Int):VM:=
 ⟨⟨69,48,[(8,.int .u64 n),(35,.slice (some ⟨0,0,none⟩) t1.length 1),(36,.int .i64 (t1.length:Int)),(37,.int .i64 t37)],[.code Xyn,.inLoop Xyn,.inBlock 0,.code XGj],[],false,none⟩,[],[(0,.row true (vI .u8 (bI t1)))],1⟩
theorem XEk (hS:Xal Tryz.prog (XaE (XFU))) (t1:List UInt8) (res:Int×Bool):∀ fuel (st:Int×Int) (o:Int×Bool),iter (fun st=>XgF t1 st.1 st.2) fuel st=some o→(o=res) →
 XaK Tryz.prog 69 0 (Xme t1 st.1 st.2) (fun v H _=>Res 0 (XMp res) v H):=by
 intro fuel st o h hc
 refine XcZ (head:=fun st=>Xme t1 st.1 st.2) (C:=fun o=>(o=res)) ?_ fuel st o h hc
 clear h hc o st fuel
 intro st o h hc
 obtain ⟨n,t37⟩:=st
 replace h:XgF t1 n t37=some o:=h
 show XaK Tryz.prog 69 0 (Xme t1 n t37) (fun v H _=>Res 0 (XMp res) v H)
 unfold XgF at h
 refine Xbg XaJ hS true 3000 ?_
 conv=>whnf
 refine br.h2 h (by rfl) ?_ ?_
 ·clear h;intro hb h;conv=>whnf
  exact W
 clear h;intro hb h;conv=>whnf
 replace h:=Xa9.elim h;obtain ⟨hb,h⟩:=h
 try (refine req.intro hb ?_;conv=>whnf)
 replace h:=Xdv.elim h;obtain ⟨e,hy,h⟩:=h
 refine rd.I hy (by first|rfl|(rw [Nat.zero_add,Nat.mul_one];try rfl;done)|omega) ?_
 conv=>whnf
 let t2:Int:=XuZ .u64 (wI .u64 (n*2^8)) (wI .u64 e)
 cases h;simp only [Sum.elim_inl,Xme] at hc
 exact Xn0 hc [(0,0)] rfl
theorem XKe (hS:Xal Tryz.prog (XaE (XFU))) (s:List UInt8) (ata1:Int) (k:Int) (res:Int×Bool) (h:Xlb s ata1 k=some res) :
 XaK Tryz.prog 69 0 ⟨⟨69,48,[(0,.string ⟨⟨s⟩⟩),(1,.int .i64 ata1),(2,.int .i64 k)],[.code XF0],[],false,none⟩,[],[],0⟩ (fun v H _=>Res 0 (XMp res) v H):=by
 unfold Xlb at h
 refine Xbg XaJ hS true 3000 ?_
 conv=>whnf
 refine br.h h (by rfl) ?_ ?_
 ·clear h;intro hb h;conv=>whnf
  exact W
 clear h;intro hb h;conv=>whnf
 refine br.h h (by rfl) ?_ ?_
 ·clear h;intro hb h;conv=>whnf
  exact W
 clear h;intro hb h;conv=>whnf
 refine br.h h (by rfl) ?_ ?_
 ·clear h;intro hb h;conv=>whnf
  exact W
 clear h;intro hb h;conv=>whnf
 let t:Bool:=decide ((wI .i64 ((s.length:Int) - k))<ata1)
 refine br.h h (by rfl) ?_ ?_
 ·clear h;intro hb h;conv=>whnf
  exact W
 clear h;intro hb h;conv=>whnf
 replace h:=Xa9.elim h;obtain ⟨hb,h⟩:=h
 try (refine req.intro hb ?_;conv=>whnf)
 let t1:List UInt8:=(s.drop ata1.toNat).take ((wI .i64 (ata1+k)).toNat - ata1.toNat)
 refine XS4 ?_
 conv=>whnf
 have hl:=XEk hS _ res _ _ _ h rfl;simp only [Xme] at hl
 exact Xn0 hl [(0,0)] rfl
def Xaw:Xbk:=Xlb
theorem Xqm:XbA Tryz.prog 69 (s69 Xaw):=by
 have hL:=XKe (Xal.XaV trivial)
 exact okA ⟨Tryz.f69,rfl,by decide,rfl⟩
def XgK (k:Int) (n1:Int) (s:List UInt8) (i:Int):Option (Sum (Int×(List UInt8)×Int) (List UInt8)):=
 cond (decide (i<k))
  (
  cond (decide (k≤8))
   (
   let t:=[UInt8.ofNat (wI .u8 (n1.tmod 256)).toNat]
   Xa9 (decide (t.length+s.length<2^63)) <|
   some (.inl (wI .u64 (n1.tdiv 256),t++s,wI .i64 (i+1))))
   (
   some (.inr (s))))
  (
  some (.inr (s)))
def Xog (n:Int) (k:Int):Option (List UInt8):=
 iter (fun st=>XgK k st.1 st.2.1 st.2.2) FUEL (n,[],0)
def XMv (x:List UInt8):Xcu:=⟨.string ⟨⟨x⟩⟩,[],[]⟩
abbrev Xcc:=Int→Int→Option (List UInt8)
def r46 (g:Xcc):Dec:=dV (asI .u64) fun (y0:Int)=>dV (asI .i64) fun (y1:Int)=>Xdm (ofG (g y0 y1) XMv)
theorem r46_c {g:Xcc} {y0:Int} {y1:Int} {x:List UInt8} (hx:g y0 y1=some x):r46 g [.int .u64 y0,.int .i64 y1] []=some (XMv x):=(XaY (Xc2 _)).trans ((XaY (Xc2 _)).trans (XaX hx))
def s46 (g:Xcc):Xbs:=⟨[.v,.v],r46 g⟩
theorem XqR {g:Xcc} {y0:Int} {y1:Int} {x:List UInt8} (hx:g y0 y1=some x):(s46 g).run [.int .u64 y0,.int .i64 y1] []=some (XMv x):=r46_c hx
abbrev XGp:List (Nat×Xbs):=[]
def Xmd (k:Int) (n1:Int) (s:List UInt8) (i:Int):VM:=
 ⟨⟨46,26,[(0,.int .u64 n1),(1,.int .i64 k),(5,.string ⟨⟨s⟩⟩),(6,.int .i64 i)],[.code Xx7,.inLoop Xx7,.inBlock 0,.code XE0],[],false,none⟩,[],[],0⟩
theorem XA3 (hS:Xal Tryz.prog (XaE (XGp))) (k:Int) (res:List UInt8):∀ fuel (st:Int×(List UInt8)×Int) (o:List UInt8),iter (fun st=>XgK k st.1 st.2.1 st.2.2) fuel st=some o→(o=res) →
 XaK Tryz.prog 46 0 (Xmd k st.1 st.2.1 st.2.2) (fun v H _=>Res 0 (XMv res) v H):=by
 intro fuel st o h hc
 refine XcZ (head:=fun st=>Xmd k st.1 st.2.1 st.2.2) (C:=fun o=>(o=res)) ?_ fuel st o h hc
 clear h hc o st fuel
 intro st o h hc
 obtain ⟨n1,s,i⟩:=st
 replace h:XgK k n1 s i=some o:=h
 show XaK Tryz.prog 46 0 (Xmd k n1 s i) (fun v H _=>Res 0 (XMv res) v H)
 unfold XgK at h
 refine Xbg XaJ hS true 3000 ?_
 conv=>whnf
 refine br.h2 h (by rfl) ?_ ?_
 ·clear h;intro hb h;conv=>whnf
  exact W
 clear h;intro hb h;conv=>whnf
 refine br.h2 h (by rfl) ?_ ?_
 ·clear h;intro hb h;conv=>whnf
  exact W
 clear h;intro hb h;conv=>whnf
 refine XLG rfl ?_
 conv=>whnf
 let t:List UInt8:=[UInt8.ofNat (wI .u8 (n1.tmod 256)).toNat]
 replace h:=Xa9.elim h;obtain ⟨hb,h⟩:=h
 try (refine req.intro hb ?_;conv=>whnf)
 cases h;simp only [Sum.elim_inl,Xmd] at hc
 exact Xn0 hc [] rfl
theorem XKR (hS:Xal Tryz.prog (XaE (XGp))) (n:Int) (k:Int) (res:List UInt8) (h:Xog n k=some res) :
 XaK Tryz.prog 46 0 ⟨⟨46,26,[(0,.int .u64 n),(1,.int .i64 k)],[.code XFh],[],false,none⟩,[],[],0⟩ (fun v H _=>Res 0 (XMv res) v H):=by
 unfold Xog at h
 refine Xbg XaJ hS true 3000 ?_
 conv=>whnf
 have hl:=XA3 hS _ res _ _ _ h rfl;simp only [Xmd] at hl
 exact Xn0 hl [] rfl
def XaW:Xcc:=Xog
theorem XqD:XbA Tryz.prog 46 (s46 XaW):=by
 have hL:=XKR (Xal.XaV trivial)
 exact okA ⟨Tryz.f46,rfl,by decide,rfl⟩
def Xit (s:List UInt8) (ata1:Int) (k:Int) (n:Int) (i:Int):Option (Sum (Int×Int) (Int×Bool)):=
 cond (decide (i<k))
  (
  Xa9 (decide (0≤(wI .i64 (ata1+i)))) <|
  (s[(wI .i64 (ata1+i)).toNat]?).bind fun (b:UInt8)=>
  let t1:=wI .u64 ((wI .u64 (n*256))+(wI .u64 (b.toNat:Int)))
  some (.inl (t1,wI .i64 (i+1))))
  (
  some (.inr ((n,true))))
def Xow (s:List UInt8) (ata1:Int) (k:Int):Option (Int×Bool):=
 cond (decide (k<1))
  (
  some ((0,false)))
  (
  cond (decide (k>8))
   (
   some ((0,false)))
   (
   cond (decide (ata1<0))
    (
    some ((0,false)))
    (
    cond (decide (ata1>(s.length:Int)))
     (
     some ((0,false)))
     (
     let t:=decide (k>(wI .i64 ((s.length:Int) - ata1)))
     cond (t)
      (
      some ((0,false)))
      (
      iter (fun st=>Xit s ata1 k st.1 st.2) FUEL (0,0))))))
def XMw (x:Int×Bool):Xcu:=⟨.tuple ⟨[.int .u64 x.1,.bool x.2]⟩,[],[]⟩
abbrev XdK:=(List UInt8)→Int→Int→Option (Int×Bool)
def r61 (g:XdK):Dec:=dV asS fun (y0:List UInt8)=>dV (asI .i64) fun (y1:Int)=>dV (asI .i64) fun (y2:Int)=>Xdm (ofG (g y0 y1 y2) XMw)
theorem r61_c {g:XdK} {y0:List UInt8} {y1:Int} {y2:Int} {x:Int×Bool} (hx:g y0 y1 y2=some x):r61 g [.string ⟨⟨y0⟩⟩,.int .i64 y1,.int .i64 y2] []=some (XMw x):=(XaY (XcY)).trans ((XaY (Xc2 _)).trans ((XaY (Xc2 _)).trans (XaX hx)))
def s61 (g:XdK):Xbs:=⟨[.v,.v,.v],r61 g⟩
theorem XxM {g:XdK} {y0:List UInt8} {y1:Int} {y2:Int} {x:Int×Bool} (hx:g y0 y1 y2=some x):(s61 g).run [.string ⟨⟨y0⟩⟩,.int .i64 y1,.int .i64 y2] []=some (XMw x):=r61_c hx
abbrev XE9:List (Nat×Xbs):=[]
def Xl5 (s:List UInt8) (ata1:Int) (k:Int) (n:Int) (i:Int):VM:=
 ⟨⟨61,49,[(0,.string ⟨⟨s⟩⟩),(1,.int .i64 ata1),(2,.int .i64 k),(8,.int .u64 n),(9,.int .i64 i)],[.code XxG,.inLoop XxG,.inBlock 0,.code XFA],[],false,none⟩,[],[],0⟩
theorem XA9 (hS:Xal Tryz.prog (XaE (XE9))) (s:List UInt8) (ata1:Int) (k:Int) (res:Int×Bool):∀ fuel (st:Int×Int) (o:Int×Bool),iter (fun st=>Xit s ata1 k st.1 st.2) fuel st=some o→(o=res) →
 XaK Tryz.prog 61 0 (Xl5 s ata1 k st.1 st.2) (fun v H _=>Res 0 (XMw res) v H):=by
 intro fuel st o h hc
 refine XcZ (head:=fun st=>Xl5 s ata1 k st.1 st.2) (C:=fun o=>(o=res)) ?_ fuel st o h hc
 clear h hc o st fuel
 intro st o h hc
 obtain ⟨n,i⟩:=st
 replace h:Xit s ata1 k n i=some o:=h
 show XaK Tryz.prog 61 0 (Xl5 s ata1 k n i) (fun v H _=>Res 0 (XMw res) v H)
 unfold Xit at h
 refine Xbg XaJ hS true 3000 ?_
 conv=>whnf
 refine br.h2 h (by rfl) ?_ ?_
 ·clear h;intro hb h;conv=>whnf
  exact W
 clear h;intro hb h;conv=>whnf
 replace h:=Xa9.elim h;obtain ⟨hb,h⟩:=h
 try (refine req.intro hb ?_;conv=>whnf)
 replace h:=Xdv.elim h;obtain ⟨b,hy,h⟩:=h
 refine rdS.intro hy ?_
 conv=>whnf
 let t1:Int:=wI .u64 ((wI .u64 (n*256))+(wI .u64 (b.toNat:Int)))
 cases h;simp only [Sum.elim_inl,Xl5] at hc
 exact Xn0 hc [] rfl
theorem XG3 (hS:Xal Tryz.prog (XaE (XE9))) (s:List UInt8) (ata1:Int) (k:Int) (res:Int×Bool) (h:Xow s ata1 k=some res) :
 XaK Tryz.prog 61 0 ⟨⟨61,49,[(0,.string ⟨⟨s⟩⟩),(1,.int .i64 ata1),(2,.int .i64 k)],[.code XGI],[],false,none⟩,[],[],0⟩ (fun v H _=>Res 0 (XMw res) v H):=by
 unfold Xow at h
 refine Xbg XaJ hS true 3000 ?_
 conv=>whnf
 refine br.h h (by rfl) ?_ ?_
 ·clear h;intro hb h;conv=>whnf
  exact W
 clear h;intro hb h;conv=>whnf
 refine br.h h (by rfl) ?_ ?_
 ·clear h;intro hb h;conv=>whnf
  exact W
 clear h;intro hb h;conv=>whnf
 refine br.h h (by rfl) ?_ ?_
 ·clear h;intro hb h;conv=>whnf
  exact W
 clear h;intro hb h;conv=>whnf
 refine br.h h (by rfl) ?_ ?_
 ·clear h;intro hb h;conv=>whnf
  exact W
 clear h;intro hb h;conv=>whnf
 let t:Bool:=decide (k>(wI .i64 ((s.length:Int) - ata1)))
 refine br.h h (by rfl) ?_ ?_
 ·clear h;intro hb h;conv=>whnf
  exact W
 clear h;intro hb h;conv=>whnf
 have hl:=XA9 hS _ _ _ res _ _ _ h rfl;simp only [Xl5] at hl
 exact Xn0 hl [] rfl
def Xcv:XdK:=Xow
theorem Xz8:XbA Tryz.prog 61 (s61 Xcv):=by
 have hL:=XG3 (Xal.XaV trivial)
 exact okA ⟨Tryz.f61,rfl,by decide,rfl⟩
def XmQ (Xcv:XdK) (s:List UInt8) (ata1:Int) (k:Int):Option Int:=
 (Xcv s ata1 k).bind fun xg=>
 some (wI .i64 xg.1)
def rx62 (x:Int):Xcu:=⟨.int .i64 x,[],[]⟩
abbrev Xbm:=(List UInt8)→Int→Int→Option Int
def r62 (g:Xbm):Dec:=dV asS fun (y0:List UInt8)=>dV (asI .i64) fun (y1:Int)=>dV (asI .i64) fun (y2:Int)=>Xdm (ofG (g y0 y1 y2) rx62)
theorem r62_c {g:Xbm} {y0:List UInt8} {y1:Int} {y2:Int} {x:Int} (hx:g y0 y1 y2=some x):r62 g [.string ⟨⟨y0⟩⟩,.int .i64 y1,.int .i64 y2] []=some (rx62 x):=(XaY (XcY)).trans ((XaY (Xc2 _)).trans ((XaY (Xc2 _)).trans (XaX hx)))
def s62 (g:Xbm):Xbs:=⟨[.v,.v,.v],r62 g⟩
theorem Xn4 {g:Xbm} {y0:List UInt8} {y1:Int} {y2:Int} {x:Int} (hx:g y0 y1 y2=some x):(s62 g).run [.string ⟨⟨y0⟩⟩,.int .i64 y1,.int .i64 y2] []=some (rx62 x):=r62_c hx
abbrev XQy (Xcv:XdK):List (Nat×Xbs):=[(61,s61 Xcv)]
theorem XG4 (Xcv:XdK) (hS:Xal Tryz.prog (XaE (XQy Xcv))) (s:List UInt8) (ata1:Int) (k:Int) (res:Int) (h:XmQ Xcv s ata1 k=some res) :
 XaK Tryz.prog 62 0 ⟨⟨62,18,[(0,.string ⟨⟨s⟩⟩),(1,.int .i64 ata1),(2,.int .i64 k)],[.code XP9],[],false,none⟩,[],[],0⟩ (fun v H _=>Res 0 (rx62 res) v H):=by
 unfold XmQ at h
 have R1:=@XxM Xcv
 refine Xbg XaJ hS true 3000 ?_
 conv=>whnf
 exact W
def Xat:Xbm:=XmQ Xcv
theorem XpN:XbA Tryz.prog 62 (s62 Xat):=by
 have hL:=XG4 Xcv (Xal.XaV ⟨Xz8,trivial⟩)
 exact okA ⟨Tryz.f62,rfl,by decide,rfl⟩
end Go.Vm.Code
namespace Go.Vm.Code
open Go Go.Vm
def Xd9 (n k:Int):List UInt8:=if 1≤k∧k≤8 then be n.toNat k.toNat else []
theorem Xes {n k:Int} (h0:0≤n):Xaz n k=some (Xd9 n k):=by
 unfold Xaz Xk7 Xd9
 by_cases h1:k<1
 ·rw [Xa2 h1,if_neg (by omega)]
 by_cases h2:k>8
 ·rw [XaQ h1,Xa2 h2,if_neg (by omega)]
 rw [XaQ h1,XaQ h2,XaC (by omega),if_pos (by omega)]
 obtain ⟨m,rfl⟩:=Int.eq_ofNat_of_zero_le h0
 obtain ⟨j,rfl⟩:=Int.eq_ofNat_of_zero_le (show 0≤k by omega)
 have key:=iter_eq (step:=fun (st:Int×List Int)=>XgL (m:Int) (j:Int) st.1 st.2) (fun st=>iB (st.2.take st.1.toNat)++be m (j - st.1.toNat)) (fun st=>0≤st.1∧st.1≤j∧st.2.length=j) (fun st=>(j - st.1).toNat) ?_ FUEL (0,List.replicate (j:Int).toNat 0) ⟨by simp,by simp,by simp⟩ (by rw [Xge];simp only;omega)
 ·rw [key];simp [iB]
 rintro ⟨p,b⟩ ⟨g1,g2,g3⟩
 simp only at g1 g2 g3 ⊢
 obtain ⟨i,rfl⟩:=Int.eq_ofNat_of_zero_le g1
 unfold XgL
 by_cases hp:i<j
 ·refine .inr ⟨(((i+1:Nat):Int),b.set i ((m/256^(j - 1 - i)%256:Nat):Int)),?_,⟨by simp only;omega,by simp only;omega,by simp [g3]⟩,by simp only;omega,?_⟩
  ·simp (disch:=omega) only [Xc5,XaC,Xa2,Int.toNat_natCast]
   have e1:min (8*((j:Int) - 1 - i)).toNat 64=8*(j - 1 - i):=by omega
   have e0:(2:Int)^(8*(j - 1 - i))=((256^(j - 1 - i):Nat):Int):=by rw [show (256:Nat)=2^8 from rfl,←Nat.pow_mul];push_cast;rfl
   rw [e1,Xs8,wU8m,e0]
   rfl
  ·simp only [Int.toNat_natCast]
   have e2:j - i=(j - (i+1))+1:=by omega
   have e3:j - (i+1)=j - 1 - i:=by omega
   have e4:(b.set i ((m/256^(j - 1 - i)%256:Nat):Int)).take (i+1)=b.take i++[((m/256^(j - 1 - i)%256:Nat):Int)]:=by
    rw [List.take_succ_eq_append_getElem (by simp;omega),List.take_set_of_le (Nat.le_refl _),List.getElem_set_self]
   rw [e2,e4,be,e3]
   simp only [iB,List.map_append,List.map_cons,List.map_nil,List.append_assoc,List.cons_append,List.nil_append,Int.toNat_natCast]
   congr 2
   apply UInt8.toNat_inj.1
   simp
 ·refine .inl ?_
  obtain rfl:i=j:=by omega
  simp (disch:=omega) only [XaQ,XaC,Int.toNat_natCast]
  simp [be]
theorem Xem {n k:Int} (h0:0≤n) (h1:n<2^64):XaW n k=some (Xd9 n k):=by
 unfold XaW Xog Xd9
 obtain ⟨m,rfl⟩:=Int.eq_ofNat_of_zero_le h0
 by_cases hk:1≤k∧k≤8
 ·rw [if_pos hk]
  obtain ⟨j,rfl⟩:=Int.eq_ofNat_of_zero_le (show 0≤k by omega)
  have key:=iter_eq (step:=fun st=>XgK (j:Int) st.1 st.2.1 st.2.2) (fun st=>be st.1.toNat (j - st.2.2.toNat)++st.2.1) (fun st=>0≤st.1∧st.1<2^64∧0≤st.2.2∧st.2.2≤j∧st.2.1.length<2^20+st.2.2.toNat) (fun st=>(j - st.2.2).toNat) ?_ FUEL ((m:Int),[],0) ⟨by simp,by simp only;omega,by simp,by simp,by simp⟩ (by rw [Xge];simp only;omega)
  ·rw [key];simp
  rintro ⟨n,s,p⟩ ⟨g1,g2,g3,g4,g5⟩
  simp only at g1 g2 g3 g4 g5 ⊢
  obtain ⟨i,rfl⟩:=Int.eq_ofNat_of_zero_le g3
  obtain ⟨x,rfl⟩:=Int.eq_ofNat_of_zero_le g1
  unfold XgK
  by_cases hp:i<j
  ·refine .inr ⟨(((x/256:Nat):Int),UInt8.ofNat x::s,((i+1:Nat):Int)),?_,⟨by simp only;omega,by simp only;omega,by simp only;omega,by simp only;omega,by simp at g5 ⊢;omega⟩,by simp only;omega,?_⟩
   ·have e1:(x:Int).tmod 256=((x%256:Nat):Int):=by rw [Int.tmod_eq_emod_of_nonneg (by omega)];rfl
    have e2:(x:Int).tdiv 256=((x/256:Nat):Int):=by rw [Int.tdiv_eq_ediv_of_nonneg (by omega)];rfl
    rw [Xa2 (by omega),Xa2 (by omega),e1,e2,wU8 (by omega) (by omega)]
    simp only [List.length_cons,List.length_nil]
    rw [XaC (by omega),XjF (by omega) (by omega),Xc5 (by omega) (by omega),Int.toNat_natCast]
    have e3:UInt8.ofNat (x%256)=UInt8.ofNat x:=by apply UInt8.toNat_inj.1;simp
    rw [e3];rfl
   ·simp only [Int.toNat_natCast]
    have e2:j - i=(j - (i+1))+1:=by omega
    rw [e2,Xpc];simp
  ·refine .inl ?_
   obtain rfl:i=j:=by omega
   rw [XaQ (by omega)]
   simp [be]
 ·rw [if_neg hk]
  show iter _ (18446744073709551615+1) _=_
  rw [iter]
  have:XgK k (m:Int) [] 0=some (.inr []):=by
   unfold XgK
   by_cases h2:0<k
   ·rw [Xa2 h2,XaQ (by omega)]
   ·rw [XaQ h2]
  simp only [this]
def Xus (s:List UInt8) (p k:Int):Int×Bool:=if 1≤k∧k≤8∧0≤p∧p+k≤s.length then (((XdH ((s.drop p.toNat).take k.toNat):Nat):Int),true) else (0,false)
theorem XrE {v i:Nat} (h:v<256^i) (hi:i≤7):v<2^56:=Nat.lt_of_lt_of_le h (by
 have:(256:Nat)^i≤256^7:=Nat.pow_le_pow_right (by decide) hi
 simpa using this)
theorem XdC {s:List UInt8} {p k:Int} (hs:s.length<2^61):Xaw s p k=some (Xus s p k):=by
 unfold Xaw Xlb Xus
 by_cases h1:k<1
 ·rw [Xa2 h1,if_neg (by omega)]
 by_cases h2:k>8
 ·rw [XaQ h1,Xa2 h2,if_neg (by omega)]
 by_cases h3:p<0
 ·rw [XaQ h1,XaQ h2,Xa2 h3,if_neg (by omega)]
 rw [XaQ h1,XaQ h2,XaQ h3,Xc5 (n:=(s.length:Int) - k) (by omega) (by omega)]
 by_cases h4:(s.length:Int) - k<p
 ·simp only []
  rw [Xa2 h4,if_neg (by omega)]
 simp only []
 rw [XaQ h4,Xc5 (n:=p+k) (by omega) (by omega),XaC (by omega),if_pos (by omega)]
 obtain ⟨q,rfl⟩:=Int.eq_ofNat_of_zero_le (show 0≤p by omega)
 obtain ⟨j,rfl⟩:=Int.eq_ofNat_of_zero_le (show 0≤k by omega)
 have e:((q:Int)+j).toNat - (q:Int).toNat=j:=by omega
 rw [e]
 simp only [Int.toNat_natCast]
 generalize ht:(s.drop q).take j=t
 have hl:t.length=j:=by rw [←ht];simp;omega
 have key:=iter_eq (step:=fun st=>XgF t st.1 st.2) (fun st=>(((st.1.toNat*256^(j - st.2.toNat)+XdH (t.drop st.2.toNat):Nat):Int),true)) (fun st=>0≤st.1∧0≤st.2∧st.2≤j∧st.1.toNat<256^st.2.toNat) (fun st=>(j - st.2).toNat) ?_ FUEL (0,0) ⟨by simp,by simp,by simp,by simp⟩ (by rw [Xge];simp only;omega)
 ·rw [key];simp
 rintro ⟨n,x⟩ ⟨g1,g2,g3,g4⟩
 simp only at g1 g2 g3 g4 ⊢
 obtain ⟨i,rfl⟩:=Int.eq_ofNat_of_zero_le g2
 obtain ⟨v,rfl⟩:=Int.eq_ofNat_of_zero_le g1
 simp only [Int.toNat_natCast] at g4 ⊢
 unfold XgF
 by_cases hp:i<j
 ·have hlt:i<t.length:=by omega
  have hb:=t[i].toNat_lt
  have hv:=XrE g4 (by omega)
  refine .inr ⟨(((v*256+t[i].toNat:Nat):Int),((i+1:Nat):Int)),?_,⟨by simp only;omega,by simp only;omega,by simp only;omega,?_⟩,by simp only;omega,?_⟩
  ·rw [Xa2 (by omega),XaC (by omega)]
   have e1:(bI t)[(i:Int).toNat]?=some (t[i].toNat:Int):=by simp [bI,hlt]
   rw [e1,Option.bind_some]
   have e2:XuZ .u64 (wI .u64 ((v:Int)*2^8)) (wI .u64 (t[i].toNat:Int))=((v*256+t[i].toNat:Nat):Int):=by
    rw [XjF (by omega) (by omega),XjF (by omega) (by omega),XqF 8 (by omega) (by omega) (by omega) (by omega) (by omega)];omega
   simp only [e2]
   rw [Xc5 (by omega) (by omega)];rfl
  ·simp only [Int.toNat_natCast]
   rw [Nat.pow_succ];omega
  ·simp only [Int.toNat_natCast]
   rw [List.drop_eq_getElem_cons hlt,XfL]
   have e3:(t.drop (i+1)).length=j - (i+1):=by simp;omega
   have e4:j - i=(j - (i+1))+1:=by omega
   rw [e3,e4,Nat.pow_succ,Nat.add_mul,Nat.mul_assoc,Nat.mul_comm 256,Nat.add_assoc]
 ·refine .inl ?_
  obtain rfl:i=j:=by omega
  rw [XaQ (by omega)]
  simp [←hl]
theorem Xjj {s:List UInt8} {p k:Int} (hs:s.length<2^61):Xcv s p k=some (Xus s p k):=by
 unfold Xcv Xow Xus
 by_cases h1:k<1
 ·rw [Xa2 h1,if_neg (by omega)]
 by_cases h2:k>8
 ·rw [XaQ h1,Xa2 h2,if_neg (by omega)]
 by_cases h3:p<0
 ·rw [XaQ h1,XaQ h2,Xa2 h3,if_neg (by omega)]
 by_cases h5:p>s.length
 ·rw [XaQ h1,XaQ h2,XaQ h3,Xa2 h5,if_neg (by omega)]
 rw [XaQ h1,XaQ h2,XaQ h3,XaQ h5,Xc5 (n:=(s.length:Int) - p) (by omega) (by omega)]
 by_cases h4:k>(s.length:Int) - p
 ·simp only []
  rw [Xa2 h4,if_neg (by omega)]
 simp only []
 rw [XaQ h4,if_pos (by omega)]
 obtain ⟨q,rfl⟩:=Int.eq_ofNat_of_zero_le (show 0≤p by omega)
 obtain ⟨j,rfl⟩:=Int.eq_ofNat_of_zero_le (show 0≤k by omega)
 simp only [Int.toNat_natCast]
 generalize ht:(s.drop q).take j=t
 have hl:t.length=j:=by rw [←ht];simp;omega
 have key:=iter_eq (step:=fun st=>Xit s (q:Int) (j:Int) st.1 st.2) (fun st=>(((st.1.toNat*256^(j - st.2.toNat)+XdH (t.drop st.2.toNat):Nat):Int),true)) (fun st=>0≤st.1∧0≤st.2∧st.2≤j∧st.1.toNat<256^st.2.toNat) (fun st=>(j - st.2).toNat) ?_ FUEL (0,0) ⟨by simp,by simp,by simp,by simp⟩ (by rw [Xge];simp only;omega)
 ·rw [key];simp
 rintro ⟨n,x⟩ ⟨g1,g2,g3,g4⟩
 simp only at g1 g2 g3 g4 ⊢
 obtain ⟨i,rfl⟩:=Int.eq_ofNat_of_zero_le g2
 obtain ⟨v,rfl⟩:=Int.eq_ofNat_of_zero_le g1
 simp only [Int.toNat_natCast] at g4 ⊢
 unfold Xit
 by_cases hp:i<j
 ·have hlt:i<t.length:=by omega
  have hb:=t[i].toNat_lt
  have hv:=XrE g4 (by omega)
  refine .inr ⟨(((v*256+t[i].toNat:Nat):Int),((i+1:Nat):Int)),?_,⟨by simp only;omega,by simp only;omega,by simp only;omega,?_⟩,by simp only;omega,?_⟩
  ·rw [Xa2 (by omega),Xc5 (n:=(q:Int)+i) (by omega) (by omega),XaC (by omega)]
   have e0:((q:Int)+i).toNat=q+i:=by omega
   have e1:s[q+i]?=some t[i]:=by
    subst ht
    rw [List.getElem?_eq_getElem (by omega)]
    simp
   rw [e0,e1,Option.bind_some]
   have e2:wI .u64 ((wI .u64 ((v:Int)*256))+(wI .u64 (t[i].toNat:Int)))=((v*256+t[i].toNat:Nat):Int):=by
    rw [XjF (n:=(v:Int)*256) (by omega) (by omega),XjF (n:=(t[i].toNat:Int)) (by omega) (by omega),XjF (by omega) (by omega)];omega
   simp only [e2]
   rw [Xc5 (by omega) (by omega)];rfl
  ·simp only [Int.toNat_natCast]
   rw [Nat.pow_succ];omega
  ·simp only [Int.toNat_natCast]
   rw [List.drop_eq_getElem_cons hlt,XfL]
   have e3:(t.drop (i+1)).length=j - (i+1):=by simp;omega
   have e4:j - i=(j - (i+1))+1:=by omega
   rw [e3,e4,Nat.pow_succ,Nat.add_mul,Nat.mul_assoc,Nat.mul_comm 256,Nat.add_assoc]
 ·refine .inl ?_
  obtain rfl:i=j:=by omega
  rw [XaQ (by omega)]
  simp [←hl]
theorem Xhn {s:List UInt8} {p k:Int} (hs:s.length<2^61):Xat s p k=some (wI .i64 (Xus s p k).1):=by
 unfold Xat XmQ
 rw [Xjj hs];rfl
end Go.Vm.Code
namespace Go.Vm.Code
open Go Go.Vm Go.Proofs
set_option maxRecDepth 100000
set_option maxHeartbeats 4000000
set_option linter.unusedVariables false
def Xk5 (Xaz:Xbt) (s:List UInt8) (ata1:Int) (k:Int) (n:Int):Option (List UInt8):=
 (Xaz n k).bind fun p=>
 cond (p==[])
  (
  some (s))
  (
  cond (decide (ata1<0))
   (
   some (s))
   (
   let t:=decide ((wI .i64 ((s.length:Int) - k))<ata1)
   cond (t)
    (
    some (s))
    (
    Xa9 (decide ((0:Int)≤ata1∧ata1≤(s.length:Int))) <|
    Xa9 (decide ((s.take ata1.toNat).length+p.length<2^63)) <|
    Xa9 (decide ((0:Int)≤(wI .i64 (ata1+k))∧(wI .i64 (ata1+k))≤(s.length:Int))) <|
    let t1:=(s.drop (wI .i64 (ata1+k)).toNat).take (s.length - (wI .i64 (ata1+k)).toNat)
    Xa9 (decide (((s.take ata1.toNat)++p).length+t1.length<2^63)) <|
    some (((s.take ata1.toNat)++p)++t1))))
def rx72 (x:List UInt8):Xcu:=⟨.string ⟨⟨x⟩⟩,[],[]⟩
abbrev Xdz:=(List UInt8)→Int→Int→Int→Option (List UInt8)
def r72 (g:Xdz):Dec:=dV asS fun (y0:List UInt8)=>dV (asI .i64) fun (y1:Int)=>dV (asI .i64) fun (y2:Int)=>dV (asI .u64) fun (y3:Int)=>Xdm (ofG (g y0 y1 y2 y3) rx72)
theorem r72_c {g:Xdz} {y0:List UInt8} {y1:Int} {y2:Int} {y3:Int} {x:List UInt8} (hx:g y0 y1 y2 y3=some x):r72 g [.string ⟨⟨y0⟩⟩,.int .i64 y1,.int .i64 y2,.int .u64 y3] []=some (rx72 x):=(XaY (XcY)).trans ((XaY (Xc2 _)).trans ((XaY (Xc2 _)).trans ((XaY (Xc2 _)).trans (XaX hx))))
def s72 (g:Xdz):Xbs:=⟨[.v,.v,.v,.v],r72 g⟩
theorem XFs {g:Xdz} {y0:List UInt8} {y1:Int} {y2:Int} {y3:Int} {x:List UInt8} (hx:g y0 y1 y2 y3=some x):(s72 g).run [.string ⟨⟨y0⟩⟩,.int .i64 y1,.int .i64 y2,.int .u64 y3] []=some (rx72 x):=r72_c hx
abbrev XNT (Xaz:Xbt):List (Nat×Xbs):=[(71,s71 Xaz)]
theorem XJe (Xaz:Xbt) (hS:Xal Tryz.prog (XaE (XNT Xaz))) (s:List UInt8) (ata1:Int) (k:Int) (n:Int) (res:List UInt8) (h:Xk5 Xaz s ata1 k n=some res) :
 XaK Tryz.prog 72 0 ⟨⟨72,39,[(0,.string ⟨⟨s⟩⟩),(1,.int .i64 ata1),(2,.int .i64 k),(3,.int .u64 n)],[.code XGn],[],false,none⟩,[],[],0⟩ (fun v H _=>Res 0 (rx72 res) v H):=by
 unfold Xk5 at h
 have R1:=@Xpd Xaz
 refine Xbg XaJ hS true 3000 ?_
 conv=>whnf
 exact W
def XbU:Xdz:=Xk5 Xaz
theorem XE2:XbA Tryz.prog 72 (s72 XbU):=by
 have hL:=XJe Xaz (Xal.XaV ⟨Xqx,trivial⟩)
 exact okA ⟨Tryz.f72,rfl,by decide,rfl⟩
def Xoz (Xcv:XdK) (XaW:Xcc) (s:List UInt8) (ata1:Int) (k:Int) (n:Int):Option (List UInt8):=
 (Xcv s ata1 k).bind fun xg=>
 cond (!xg.2)
  (
  some (s))
  (
  Xa9 (decide ((0:Int)≤ata1∧ata1≤(s.length:Int))) <|
  (XaW n k).bind fun p=>
  Xa9 (decide ((s.take ata1.toNat).length+p.length<2^63)) <|
  Xa9 (decide ((0:Int)≤(wI .i64 (ata1+k))∧(wI .i64 (ata1+k))≤(s.length:Int))) <|
  let t:=(s.drop (wI .i64 (ata1+k)).toNat).take (s.length - (wI .i64 (ata1+k)).toNat)
  Xa9 (decide (((s.take ata1.toNat)++p).length+t.length<2^63)) <|
  some (((s.take ata1.toNat)++p)++t))
def rx47 (x:List UInt8):Xcu:=⟨.string ⟨⟨x⟩⟩,[],[]⟩
abbrev XdL:=(List UInt8)→Int→Int→Int→Option (List UInt8)
def r47 (g:XdL):Dec:=dV asS fun (y0:List UInt8)=>dV (asI .i64) fun (y1:Int)=>dV (asI .i64) fun (y2:Int)=>dV (asI .u64) fun (y3:Int)=>Xdm (ofG (g y0 y1 y2 y3) rx47)
theorem r47_c {g:XdL} {y0:List UInt8} {y1:Int} {y2:Int} {y3:Int} {x:List UInt8} (hx:g y0 y1 y2 y3=some x):r47 g [.string ⟨⟨y0⟩⟩,.int .i64 y1,.int .i64 y2,.int .u64 y3] []=some (rx47 x):=(XaY (XcY)).trans ((XaY (Xc2 _)).trans ((XaY (Xc2 _)).trans ((XaY (Xc2 _)).trans (XaX hx))))
def s47 (g:XdL):Xbs:=⟨[.v,.v,.v,.v],r47 g⟩
theorem XAA {g:XdL} {y0:List UInt8} {y1:Int} {y2:Int} {y3:Int} {x:List UInt8} (hx:g y0 y1 y2 y3=some x):(s47 g).run [.string ⟨⟨y0⟩⟩,.int .i64 y1,.int .i64 y2,.int .u64 y3] []=some (rx47 x):=r47_c hx
abbrev XNz (Xcv:XdK) (XaW:Xcc):List (Nat×Xbs):=[(61,s61 Xcv),(46,s46 XaW)]
theorem XK3 (Xcv:XdK) (XaW:Xcc) (hS:Xal Tryz.prog (XaE (XNz Xcv XaW))) (s:List UInt8) (ata1:Int) (k:Int) (n:Int) (res:List UInt8) (h:Xoz Xcv XaW s ata1 k n=some res) :
 XaK Tryz.prog 47 0 ⟨⟨47,34,[(0,.string ⟨⟨s⟩⟩),(1,.int .i64 ata1),(2,.int .i64 k),(3,.int .u64 n)],[.code XEP],[],false,none⟩,[],[],0⟩ (fun v H _=>Res 0 (rx47 res) v H):=by
 unfold Xoz at h
 have R1:=@XxM Xcv
 have R2:=@XqR XaW
 refine Xbg XaJ hS true 3000 ?_
 conv=>whnf
 exact W
def Xci:XdL:=Xoz Xcv XaW
theorem Xyj:XbA Tryz.prog 47 (s47 Xci):=by
 have hL:=XK3 Xcv XaW (Xal.XaV ⟨Xz8,XqD,trivial⟩)
 exact okA ⟨Tryz.f47,rfl,by decide,rfl⟩
def Xiw (l:List Int) (n1:Int):Option (Sum Int Int):=
 cond (decide (n1>65535))
  (
  let t:=wI .i64 ((n1.tmod 65536)+(wI .i64 (n1.tdiv 65536)))
  some (.inl t))
  (
  some (.inr (n1)))
def Xis (l:List Int) (n:Int) (i:Int):Option (Sum (Int×Int) Int):=
 cond (decide (i<(l.length:Int)))
  (
  Xa9 (decide ((0:Int)≤i∧i<(l.length:Int))) <|
  (l[i.toNat]?).bind fun (e:Int)=>
  some (.inl (wI .i64 (n+e),wI .i64 (i+1))))
  (
  (iter (fun st=>Xiw l st) FUEL n).bind fun o=>some (.inr (o)))
def Xoq (l:List Int):Option Int:=
 iter (fun st=>Xis l st.1 st.2) FUEL (0,0)
def XFi (x:Int):Xcu:=⟨.int .i64 x,[],[none]⟩
abbrev Xgz:=(List Int)→Option Int
def r92 (g:Xgz):Dec:=dSl 0 1 (unL (asI .i64)) fun (y0:List Int)=>Xdm (ofG (g y0) XFi)
theorem r92_c {g:Xgz} {y0:List Int} {x:Int} (hx:g y0=some x):r92 g [.slice (some ⟨0,0,none⟩) y0.length 1] [some (vI .i64 y0)]=some (XFi x):=(Xzi (Xx1 _ _)).trans (XaX hx)
def s92 (g:Xgz):Xbs:=⟨[.sl 1],r92 g⟩
theorem XR1 {g:Xgz} {y0:List Int} {x:Int} (hx:g y0=some x):(s92 g).run [.slice (some ⟨0,0,none⟩) y0.length 1] [some (vI .i64 y0)]=some (XFi x):=r92_c hx
abbrev Xxa:List (Nat×Xbs):=[]
def Xmh (l:List Int) (n1:Int):VM:=
 ⟨⟨92,25,[(3,.int .i64 n1)],[.code Xz4,.inLoop Xz4,.inBlock 2,.code XF3],[],false,none⟩,[],[(0,.row false (vI .i64 l))],1⟩
def Xmn (l:List Int) (n:Int) (i:Int):VM:=
 ⟨⟨92,25,[(0,.slice (some ⟨0,0,none⟩) l.length 1),(3,.int .i64 n),(4,.int .i64 i)],[.code XxL,.inLoop XxL,.inBlock 0,.code XE8],[],false,none⟩,[],[(0,.row false (vI .i64 l))],1⟩
theorem XB5 (hS:Xal Tryz.prog (XaE (Xxa))) (l:List Int) (res:Int):∀ fuel (st:Int) (o:Int),iter (fun st=>Xiw l st) fuel st=some o→(o=res) →
 XaK Tryz.prog 92 1 (Xmh l st) (fun v H _=>Res 1 (XFi res) v H):=by
 intro fuel st o h hc
 refine XcZ (head:=fun st=>Xmh l st) (C:=fun o=>(o=res)) ?_ fuel st o h hc
 clear h hc o st fuel
 intro n1 o h hc
 replace h:Xiw l n1=some o:=h
 show XaK Tryz.prog 92 1 (Xmh l n1) (fun v H _=>Res 1 (XFi res) v H)
 unfold Xiw at h
 refine Xbg XaJ hS true 3000 ?_
 conv=>whnf
 refine br.h2 h (by rfl) ?_ ?_
 ·clear h;intro hb h;conv=>whnf
  exact W
 clear h;intro hb h;conv=>whnf
 let t:Int:=wI .i64 ((n1.tmod 65536)+(wI .i64 (n1.tdiv 65536)))
 cases h;simp only [Sum.elim_inl,Xmh] at hc
 exact Xn0 hc [(0,0)] rfl
theorem XCv (hS:Xal Tryz.prog (XaE (Xxa))) (l:List Int) (res:Int):∀ fuel (st:Int×Int) (o:Int),iter (fun st=>Xis l st.1 st.2) fuel st=some o→(o=res) →
 XaK Tryz.prog 92 1 (Xmn l st.1 st.2) (fun v H _=>Res 1 (XFi res) v H):=by
 intro fuel st o h hc
 refine XcZ (head:=fun st=>Xmn l st.1 st.2) (C:=fun o=>(o=res)) ?_ fuel st o h hc
 clear h hc o st fuel
 intro st o h hc
 obtain ⟨n,i⟩:=st
 replace h:Xis l n i=some o:=h
 show XaK Tryz.prog 92 1 (Xmn l n i) (fun v H _=>Res 1 (XFi res) v H)
 unfold Xis at h
 refine Xbg XaJ hS true 3000 ?_
 conv=>whnf
 refine br.h2 h (by rfl) ?_ ?_
 ·clear h;intro hb h;conv=>whnf
  obtain ⟨y,hy,h2⟩:=Xdv.elim h;cases h2
  have hl:=XB5 hS _ res _ _ _ hy hc;simp only [Xmh] at hl
  exact Xn0 hl [(0,0)] rfl
 clear h;intro hb h;conv=>whnf
 replace h:=Xa9.elim h;obtain ⟨hb,h⟩:=h
 try (refine req.intro hb ?_;conv=>whnf)
 replace h:=Xdv.elim h;obtain ⟨e,hy,h⟩:=h
 refine rd.I hy (by first|rfl|(rw [Nat.zero_add,Nat.mul_one];try rfl;done)|omega) ?_
 conv=>whnf
 cases h;simp only [Sum.elim_inl,Xmn] at hc
 exact Xn0 hc [(0,0)] rfl
theorem XJY (hS:Xal Tryz.prog (XaE (Xxa))) (l:List Int) (res:Int) (h:Xoq l=some res) :
 XaK Tryz.prog 92 1 ⟨⟨92,25,[(0,.slice (some ⟨0,0,none⟩) l.length 1)],[.code XGk],[],false,none⟩,[],[(0,.row false (vI .i64 l))],1⟩ (fun v H _=>Res 1 (XFi res) v H):=by
 unfold Xoq at h
 refine Xbg XaJ hS true 3000 ?_
 conv=>whnf
 have hl:=XCv hS _ res _ _ _ h rfl;simp only [Xmn] at hl
 exact Xn0 hl [(0,0)] rfl
def Xhi:Xgz:=Xoq
theorem XRn:XbA Tryz.prog 92 (s92 Xhi):=by
 have hL:=XJY (Xal.XaV trivial)
 exact okA ⟨Tryz.f92,rfl,by decide,rfl⟩
def Xfe (Xat:Xbm) (s1:List UInt8) (i:Int) (out1:List Int):Option (Sum ((List UInt8)×Int×(List Int)) (List Int)):=
 cond (decide (i<(s1.length:Int)))
  (
  (Xat s1 i 2).bind fun m=>
  Xa9 (decide ((out1.length+1)*8≤2^47)) <|
  let row:=out1++[m]
  some (.inl (s1,wI .i64 (i+2),row)))
  (
  some (.inr (out1)))
def XkU (Xat:Xbm) (s:List UInt8):Option (List Int):=
 cond (((s.length:Int).tmod 2)==1)
  (
  Xa9 (decide (s.length+1<2^63)) <|
  iter (fun st=>Xfe Xat st.1 st.2.1 st.2.2) FUEL (s++[0],0,[]))
  (
  iter (fun st=>Xfe Xat st.1 st.2.1 st.2.2) FUEL (s,0,[]))
def XMf (x:List Int):Xcu:=⟨.slice (some ⟨0,0,none⟩) x.length 1,[(vI .i64 x)],[]⟩
abbrev Xfb:=(List UInt8)→Option (List Int)
def r93 (g:Xfb):Dec:=dV asS fun (y0:List UInt8)=>Xdm (ofG (g y0) XMf)
theorem r93_c {g:Xfb} {y0:List UInt8} {x:List Int} (hx:g y0=some x):r93 g [.string ⟨⟨y0⟩⟩] []=some (XMf x):=(XaY (XcY)).trans (XaX hx)
def s93 (g:Xfb):Xbs:=⟨[.v],r93 g⟩
theorem XRq {g:Xfb} {y0:List UInt8} {x:List Int} (hx:g y0=some x):(s93 g).run [.string ⟨⟨y0⟩⟩] []=some (XMf x):=r93_c hx
abbrev XGE (Xat:Xbm):List (Nat×Xbs):=[(62,s62 Xat)]
def XkL (s1:List UInt8) (i:Int) (out1:List Int):VM:=
 ⟨⟨93,24,[(0,.string ⟨⟨s1⟩⟩),(3,.slice (some ⟨0,0,none⟩) out1.length 1),(4,.int .i64 i)],[.code XxF,.inLoop XxF,.inBlock 0,.code XGv],[],false,none⟩,[],[(0,.row true (vI .i64 out1))],1⟩
theorem XuK (Xat:Xbm) (hS:Xal Tryz.prog (XaE (XGE Xat))) (res:List Int):∀ fuel (st:(List UInt8)×Int×(List Int)) (o:List Int),iter (fun st=>Xfe Xat st.1 st.2.1 st.2.2) fuel st=some o→(o=res) →
 XaK Tryz.prog 93 0 (XkL st.1 st.2.1 st.2.2) (fun v H _=>Res 0 (XMf res) v H):=by
 intro fuel st o h hc
 refine XcZ (head:=fun st=>XkL st.1 st.2.1 st.2.2) (C:=fun o=>(o=res)) ?_ fuel st o h hc
 clear h hc o st fuel
 intro st o h hc
 obtain ⟨s1,i,out1⟩:=st
 replace h:Xfe Xat s1 i out1=some o:=h
 show XaK Tryz.prog 93 0 (XkL s1 i out1) (fun v H _=>Res 0 (XMf res) v H)
 unfold Xfe at h
 refine Xbg XaJ hS true 3000 ?_
 conv=>whnf
 refine br.h2 h (by rfl) ?_ ?_
 ·clear h;intro hb h;conv=>whnf
  exact W
 clear h;intro hb h;conv=>whnf
 replace h:=Xdv.elim h;obtain ⟨m,hy,h⟩:=h
 refine Xgn.a (Xn4 hy) ?_
 conv=>whnf
 replace h:=Xa9.elim h;obtain ⟨hb,h⟩:=h
 refine req.intro (Xxp (of_decide_eq_true hb) (by first|rfl|omega|(simp;done)|(simp;omega)|(simp at *;omega)) rfl (by first|rfl|omega|(simp;done)|(simp;omega)|(simp at *;omega)) (by first|rfl|exact Xjr _ _|exact Xmz _|exact XmX _|exact XnV (by first|exact Xex|exact XdX|exact XdW|exact Xc0|exact XdB|exact Xc1|exact Xdo|exact XdD|exact Xeo|exact Xe6|exact Xer|exact XdV|exact Xez|exact Xe4) _|(rw [Xhw];exact Xjr _ _)|(simp [Xjr,Xmz,XmX,XnF,Xng,XpP,Xpj];done)|(simp;exact List.all_eq_true.1 (XnV (by first|exact Xex|exact XdX|exact XdW|exact Xc0|exact XdB|exact Xc1|exact Xdo|exact XdD|exact Xeo|exact Xe6|exact Xer|exact XdV|exact Xez|exact Xe4) _))) rfl) ?_
 conv=>whnf
 let row:List Int:=out1++[m]
 first|have hlen_row:row.length=_:=List.length_append ..|skip
 refine XM4 (xs:=out1) (ys:=[m]) rfl (by first|rfl|omega) (by first|rfl|omega|(simp;done)|(simp;omega)|(simp at *;omega)) (by first|rfl|omega|(simp;done)|(simp;omega)|(simp at *;omega)) ?_
 conv=>whnf
 cases h;simp only [Sum.elim_inl,XkL] at hc
 exact Xn0 hc [(0,2)] rfl
theorem XIl (Xat:Xbm) (hS:Xal Tryz.prog (XaE (XGE Xat))) (s:List UInt8) (res:List Int) (h:XkU Xat s=some res) :
 XaK Tryz.prog 93 0 ⟨⟨93,24,[(0,.string ⟨⟨s⟩⟩)],[.code XFe],[],false,none⟩,[],[],0⟩ (fun v H _=>Res 0 (XMf res) v H):=by
 unfold XkU at h
 refine Xbg XaJ hS true 3000 ?_
 conv=>whnf
 refine br.h2 h (by rfl) ?_ ?_
 ·clear h;intro hb h;conv=>whnf
  have hl:=XuK Xat hS res _ _ _ h rfl;simp only [XkL] at hl
  refine XaK.nilT 3 1 ?_
  exact Xn0 hl [(0,0)] rfl
 clear h;intro hb h;conv=>whnf
 replace h:=Xa9.elim h;obtain ⟨hb,h⟩:=h
 try (refine req.intro hb ?_;conv=>whnf)
 have hl:=XuK Xat hS res _ _ _ h rfl;simp only [XkL] at hl
 refine XaK.nilT 3 1 ?_
 exact Xn0 hl [(0,0)] rfl
def XeI:Xfb:=XkU Xat
theorem XQ8:XbA Tryz.prog 93 (s93 XeI):=by
 have hL:=XIl Xat (Xal.XaV ⟨XpN,trivial⟩)
 exact okA ⟨Tryz.f93,rfl,by decide,rfl⟩
def Xoy (Xhi:Xgz) (XeI:Xfb) (s:List UInt8):Option Int:=
 (XeI s).bind fun w=>
 (Xhi w).bind fun a=>
 some (a)
def rx60 (x:Int):Xcu:=⟨.int .i64 x,[],[]⟩
abbrev Xc4:=(List UInt8)→Option Int
def r60 (g:Xc4):Dec:=dV asS fun (y0:List UInt8)=>Xdm (ofG (g y0) rx60)
theorem r60_c {g:Xc4} {y0:List UInt8} {x:Int} (hx:g y0=some x):r60 g [.string ⟨⟨y0⟩⟩] []=some (rx60 x):=(XaY (XcY)).trans (XaX hx)
def s60 (g:Xc4):Xbs:=⟨[.v],r60 g⟩
theorem XvM {g:Xc4} {y0:List UInt8} {x:Int} (hx:g y0=some x):(s60 g).run [.string ⟨⟨y0⟩⟩] []=some (rx60 x):=r60_c hx
abbrev XM6 (Xhi:Xgz) (XeI:Xfb):List (Nat×Xbs):=[(92,s92 Xhi),(93,s93 XeI)]
theorem XHL (Xhi:Xgz) (XeI:Xfb) (hS:Xal Tryz.prog (XaE (XM6 Xhi XeI))) (s:List UInt8) (res:Int) (h:Xoy Xhi XeI s=some res) :
 XaK Tryz.prog 60 0 ⟨⟨60,6,[(0,.string ⟨⟨s⟩⟩)],[.code XRd],[],false,none⟩,[],[],0⟩ (fun v H _=>Res 0 (rx60 res) v H):=by
 unfold Xoy at h
 have R1:=@XRq XeI
 have R2:=@XR1 Xhi
 refine Xbg XaJ hS true 3000 ?_
 conv=>whnf
 exact W
def Xb9:Xc4:=Xoy Xhi XeI
theorem Xvr:XbA Tryz.prog 60 (s60 Xb9):=by
 have hL:=XHL Xhi XeI (Xal.XaV ⟨XRn,XQ8,trivial⟩)
 exact okA ⟨Tryz.f60,rfl,by decide,rfl⟩
def Xrl (Xb9:Xc4) (s:List UInt8):Option Int:=
 (Xb9 s).bind fun s1=>
 some (wI .i64 (65535 - s1))
def rx48 (x:Int):Xcu:=⟨.int .i64 x,[],[]⟩
abbrev XeF:=(List UInt8)→Option Int
def r48 (g:XeF):Dec:=dV asS fun (y0:List UInt8)=>Xdm (ofG (g y0) rx48)
theorem r48_c {g:XeF} {y0:List UInt8} {x:Int} (hx:g y0=some x):r48 g [.string ⟨⟨y0⟩⟩] []=some (rx48 x):=(XaY (XcY)).trans (XaX hx)
def s48 (g:XeF):Xbs:=⟨[.v],r48 g⟩
theorem Xxz {g:XeF} {y0:List UInt8} {x:Int} (hx:g y0=some x):(s48 g).run [.string ⟨⟨y0⟩⟩] []=some (rx48 x):=r48_c hx
abbrev XPK (Xb9:Xc4):List (Nat×Xbs):=[(60,s60 Xb9)]
theorem XHS (Xb9:Xc4) (hS:Xal Tryz.prog (XaE (XPK Xb9))) (s:List UInt8) (res:Int) (h:Xrl Xb9 s=some res) :
 XaK Tryz.prog 48 0 ⟨⟨48,6,[(0,.string ⟨⟨s⟩⟩)],[.code XRO],[],false,none⟩,[],[],0⟩ (fun v H _=>Res 0 (rx48 res) v H):=by
 unfold Xrl at h
 have R1:=@XvM Xb9
 refine Xbg XaJ hS true 3000 ?_
 conv=>whnf
 exact W
def Xde:XeF:=Xrl Xb9
theorem Xzu:XbA Tryz.prog 48 (s48 Xde):=by
 have hL:=XHS Xb9 (Xal.XaV ⟨Xvr,trivial⟩)
 exact okA ⟨Tryz.f48,rfl,by decide,rfl⟩
def XiZ (XeW:Xe7) (s:List UInt8):Option Bool:=
 (XeW s).bind fun s1=>
 some (s1==65535)
def rx54 (x:Bool):Xcu:=⟨.bool x,[],[]⟩
abbrev XbO:=(List UInt8)→Option Bool
def r54 (g:XbO):Dec:=dV asS fun (y0:List UInt8)=>Xdm (ofG (g y0) rx54)
theorem r54_c {g:XbO} {y0:List UInt8} {x:Bool} (hx:g y0=some x):r54 g [.string ⟨⟨y0⟩⟩] []=some (rx54 x):=(XaY (XcY)).trans (XaX hx)
def s54 (g:XbO):Xbs:=⟨[.v],r54 g⟩
theorem Xvs {g:XbO} {y0:List UInt8} {x:Bool} (hx:g y0=some x):(s54 g).run [.string ⟨⟨y0⟩⟩] []=some (rx54 x):=r54_c hx
abbrev XTj (XeW:Xe7):List (Nat×Xbs):=[(87,s87 XeW)]
theorem XKQ (XeW:Xe7) (hS:Xal Tryz.prog (XaE (XTj XeW))) (s:List UInt8) (res:Bool) (h:XiZ XeW s=some res) :
 XaK Tryz.prog 54 0 ⟨⟨54,6,[(0,.string ⟨⟨s⟩⟩)],[.code XS0],[],false,none⟩,[],[],0⟩ (fun v H _=>Res 0 (rx54 res) v H):=by
 unfold XiZ at h
 have R1:=@XQN XeW
 refine Xbg XaJ hS true 3000 ?_
 conv=>whnf
 exact W
def XaN:XbO:=XiZ XeW
theorem XuT:XbA Tryz.prog 54 (s54 XaN):=by
 have hL:=XKQ XeW (Xal.XaV ⟨XNk,trivial⟩)
 exact okA ⟨Tryz.f54,rfl,by decide,rfl⟩
end Go.Vm.Code
namespace Go.Vm.Code
open Go Go.Vm
theorem XuV {s:List UInt8} {i:Nat} (h:i+1<s.length):Xus s (i:Int) 2=(((s[i].toNat*256+s[i+1].toNat:Nat):Int),true):=by
 unfold Xus
 rw [if_pos (by omega)]
 have e:(s.drop (i:Int).toNat).take (2:Int).toNat=[s[i],s[i+1]]:=by
  show (s.drop i).take 2=_
  rw [List.drop_eq_getElem_cons (by omega:i<s.length),List.drop_eq_getElem_cons h];rfl
 rw [e];simp [XfL]
def XeB:List UInt8→List Int
 | []=>[]
 | [b]=>[((b.toNat*256:Nat):Int)]
 | b::c::l=>((b.toNat*256+c.toNat:Nat):Int)::XeB l
theorem Xm8 {s:List UInt8} {i:Nat} (h:i+1<s.length):XeB (s.drop i)=((s[i].toNat*256+s[i+1].toNat:Nat):Int)::XeB (s.drop (i+2)):=by
 rw [List.drop_eq_getElem_cons (by omega:i<s.length),List.drop_eq_getElem_cons h];rfl
theorem XqK:∀ s:List UInt8,s.length%2=1→XeB (s++[0])=XeB s
 | [],h=>by simp at h
 | [b],_=>by
   show [((b.toNat*256+0:Nat):Int)]=[((b.toNat*256:Nat):Int)]
   rw [Nat.add_zero]
 | b::c::l,h=>by
   have:=XqK l (by simp at h;omega)
   simp only [List.cons_append,XeB,this]
theorem XkZ:∀ s:List UInt8,(XeB s).sum=(XcA s:Int)
 | []=>rfl
 | [b]=>by simp only [XeB,XcA,List.sum_cons,List.sum_nil,Int.add_zero]
 | b::c::l=>by
   have:=XkZ l
   simp only [XeB,XcA,List.sum_cons,this];omega
theorem XkW:∀ s:List UInt8,∀ e∈XeB s,0≤e∧e≤65535
 | [],e,h=>by simp [XeB] at h
 | [b],e,h=>by simp [XeB] at h;have:=b.toNat_lt;omega
 | b::c::l,e,h=>by
   simp only [XeB,List.mem_cons] at h
   rcases h with rfl|h
   ·have:=b.toNat_lt;have:=c.toNat_lt;omega
   ·exact XkW l e h
theorem XkN:∀ s:List UInt8,(XeB s).length=(s.length+1)/2
 | []=>rfl
 | [b]=>by simp [XeB]
 | b::c::l=>by
   have:=XkN l
   simp only [XeB,List.length_cons,this];omega
theorem Xlv {s:List UInt8} (h:s.length<2^40) (he:s.length%2=0):iter (fun (st:List UInt8×Int×List Int)=>Xfe Xat st.1 st.2.1 st.2.2) FUEL (s,0,[])=some (XeB s):=by
 have key:=iter_eq (step:=fun (st:List UInt8×Int×List Int)=>Xfe Xat st.1 st.2.1 st.2.2) (fun st=>st.2.2++XeB (s.drop st.2.1.toNat)) (fun st=>st.1=s∧∃ i:Nat,st.2.1=i∧i%2=0∧i≤s.length∧st.2.2.length≤i) (fun st=>(s.length - st.2.1).toNat) ?_ FUEL (s,0,[]) ⟨rfl,0,rfl,by omega,by omega,by simp⟩ (by rw [Xge];simp only;omega)
 ·rw [key];simp
 rintro ⟨s1,p,out⟩ ⟨h1,i,h2,h3,h4,h5⟩
 simp only at h1 h2 h5 ⊢
 subst h1 h2
 unfold Xfe
 by_cases hi:i<s1.length
 ·have hi2:i+1<s1.length:=by omega
  refine .inr ⟨(s1,((i+2:Nat):Int),out++[((s1[i].toNat*256+s1[i+1].toNat:Nat):Int)]),?_,⟨rfl,i+2,rfl,by omega,by omega,by simp;omega⟩,by simp only;omega,?_⟩
  ·have b1:=s1[i].toNat_lt
   have b2:=s1[i+1].toNat_lt
   rw [Xa2 (by omega),Xhn (by omega),XuV hi2,Option.bind_some,XaC (by omega),Xc5 (by omega) (by omega),Xc5 (by omega) (by omega)];rfl
  ·simp only [Int.toNat_natCast]
   rw [Xm8 hi2];simp
 ·refine .inl ?_
  rw [XaQ (by omega)]
  simp [List.drop_eq_nil_of_le (by omega:s1.length≤i),XeB]
theorem XsK {s:List UInt8} (h:s.length<2^39):XeI s=some (XeB s):=by
 unfold XeI XkU
 have ea:((s.length:Int).tmod 2==1)=decide (s.length%2=1):=by
  rw [Int.tmod_eq_emod_of_nonneg (by omega),Bool.eq_iff_iff,beq_iff_eq,decide_eq_true_eq];omega
 rw [ea]
 by_cases h2:s.length%2=1
 ·rw [Xa2 h2,XaC (by omega),Xlv (by simp only [List.length_append,List.length_cons,List.length_nil];omega) (by simp only [List.length_append,List.length_cons,List.length_nil];omega),XqK s h2]
 ·rw [XaQ h2,Xlv (by omega) (by omega)]
theorem Xtx {l:List Int} {n:Int} (h0:0≤n) (h1:n<2^62):iter (fun st=>Xiw l st) FUEL n=some ((norm n.toNat:Nat):Int):=by
 refine iter_eq (fun n=>((norm n.toNat:Nat):Int)) (fun n=>0≤n∧n<2^62) (fun n=>n.toNat) ?_ FUEL _ ⟨h0,h1⟩ (by rw [Xge];omega)
 intro s ⟨a,b⟩
 unfold Xiw
 by_cases hs:s>65535
 ·refine .inr ⟨s%65536+s/65536,?_,⟨by omega,by omega⟩,by omega,?_⟩
  ·rw [Xa2 hs,Int.tdiv_eq_ediv_of_nonneg a,Int.tmod_eq_emod_of_nonneg a,Xc5 (n:=s/65536) (by omega) (by omega),Xc5 (by omega) (by omega)]
  ·have:norm (s%65536+s/65536).toNat=norm s.toNat:=
    (norm_eq (norm_le _) (by have:=XhO (s%65536+s/65536).toNat;omega) (by have:=Xiy (s%65536+s/65536).toNat;omega)).symm
   rw [this]
 ·refine .inl ?_
  rw [XaQ hs]
  have:=XoJ (n:=s.toNat) (by omega)
  simp only [this]
  rw [Int.toNat_of_nonneg a]
theorem Xv7 {l:List Int} (hl:l.length<2^40) (hr:∀ e∈l,0≤e∧e≤65535):Xhi l=some ((norm l.sum.toNat:Nat):Int):=by
 unfold Xhi Xoq
 have key:=iter_eq (step:=fun (st:Int×Int)=>Xis l st.1 st.2) (fun st=>((norm (st.1+(l.drop st.2.toNat).sum).toNat:Nat):Int)) (fun st=>0≤st.1∧0≤st.2∧st.2≤l.length∧st.1≤st.2*65535) (fun st=>(l.length - st.2).toNat) ?_ FUEL (0,0) ⟨by simp,by simp,by simp,by simp⟩ (by rw [Xge];simp only;omega)
 ·rw [key];simp
 rintro ⟨n,p⟩ ⟨g1,g2,g3,g4⟩
 simp only at g1 g2 g3 g4 ⊢
 obtain ⟨i,rfl⟩:=Int.eq_ofNat_of_zero_le g2
 simp only [Int.toNat_natCast]
 unfold Xis
 by_cases hi:i<l.length
 ·have hx:=hr l[i] (List.getElem_mem hi)
  refine .inr ⟨(n+l[i],((i+1:Nat):Int)),?_,⟨by simp only;omega,by simp only;omega,by simp only;omega,by simp only;omega⟩,by simp only;omega,?_⟩
  ·simp (disch:=omega) only [Xa2,XaC,Int.toNat_natCast,List.getElem?_eq_getElem,Option.bind_some,Xc5];rfl
  ·simp only [Int.toNat_natCast]
   rw [List.drop_eq_getElem_cons hi,List.sum_cons,Int.add_assoc]
 ·refine .inl ?_
  rw [XaQ (by omega),Xtx g1 (by omega),List.drop_eq_nil_of_le (by omega)]
  simp
theorem Xk2 {s:List UInt8} (h:s.length<2^39):Xb9 s=some ((norm (XcA s):Nat):Int):=by
 unfold Xb9 Xoy
 rw [XsK h,Option.bind_some,Xv7 (by rw [XkN];omega) (XkW s),XkZ];rfl
def XwC (s:List UInt8) (p k n:Int):List UInt8:=if 1≤k∧k≤8∧0≤p∧p+k≤s.length then s.take p.toNat++be n.toNat k.toNat++s.drop (p+k).toNat else s
theorem XFu {s:List UInt8} {p k n:Int} (hs:s.length<2^40) (hn:0≤n):XbU s p k n=some (XwC s p k n):=by
 unfold XbU Xk5 XwC
 rw [Xes hn,Option.bind_some]
 unfold Xd9
 by_cases hk:1≤k∧k≤8
 ·rw [if_pos hk]
  have e:(be n.toNat k.toNat==[])=false:=by
   rw [beq_eq_false_iff_ne];intro h;have:=congrArg List.length h;simp at this;omega
  rw [e,cond_false]
  by_cases h1:p<0
  ·rw [Xa2 h1,if_neg (by omega)]
  rw [XaQ h1,Xc5 (n:=(s.length:Int) - k) (by omega) (by omega)]
  by_cases h2:(s.length:Int) - k<p
  ·simp only []
   rw [Xa2 h2,if_neg (by omega)]
  simp only []
  have e1:(p+k).toNat=p.toNat+k.toNat:=by omega
  have e2:((s.drop (p+k).toNat).take (s.length - (p+k).toNat))=s.drop (p+k).toNat:=List.take_of_length_le (by simp)
  rw [XaQ h2,XaC (by omega),Xc5 (n:=p+k) (by omega) (by omega),e2,XaC (by simp;omega),XaC (by omega),XaC (by simp;omega),if_pos (by omega)]
 ·rw [if_neg hk,if_neg (by omega)];rfl
theorem Xnd {s:List UInt8} {p k n:Int} (hs:s.length<2^40) (hn:0≤n) (hn2:n<2^64):Xci s p k n=some (XwC s p k n):=by
 unfold Xci Xoz XwC
 rw [Xjj (by omega),Option.bind_some]
 unfold Xus
 by_cases hc:1≤k∧k≤8∧0≤p∧p+k≤s.length
 ·rw [if_pos hc,if_pos hc]
  have e2:((s.drop (p+k).toNat).take (s.length - (p+k).toNat))=s.drop (p+k).toNat:=List.take_of_length_le (by simp)
  simp only [Bool.not_true,cond_false]
  rw [Xem hn hn2,Option.bind_some,XaC (by omega),Xc5 (n:=p+k) (by omega) (by omega),e2]
  unfold Xd9
  rw [if_pos (by omega),XaC (by simp;omega),XaC (by omega),XaC (by simp;omega)]
 ·rw [if_neg hc,if_neg hc];rfl
theorem XpU {s:List UInt8} (h:s.length<2^39):Xde s=some (65535 - ((norm (XcA s):Nat):Int)):=by
 unfold Xde Xrl
 have:=norm_le (XcA s)
 rw [Xk2 h,Option.bind_some,Xc5 (by omega) (by omega)]
theorem XoH {s:List UInt8} (h:s.length<2^39):XaN s=some (((norm (XcA s):Nat):Int)==65535):=by
 unfold XaN XiZ
 rw [XOg s (by omega),Option.bind_some]
end Go.Vm.Code
namespace Go.Vm.Code
open Go Go.Vm Go.Proofs
set_option maxRecDepth 100000
set_option maxHeartbeats 4000000
set_option linter.unusedVariables false
def XiE (a:Xab):Option Bool:=
 cond (a.V6)
  (
  some (true))
  (
  cond (a.Hi==0)
   (
   some (decide (a.Lo<4294967296)))
   (
   some (false)))
def XDI (x:Bool):Xcu:=⟨.bool x,[],[]⟩
abbrev Xdb:=Xab→Option Bool
def r137 (g:Xdb):Dec:=dV Xcl fun (y0:Xab)=>Xdm (ofG (g y0) XDI)
theorem XR0 {g:Xdb} {y0:Xab} {x:Bool} (hx:g y0=some x):r137 g [.agg ⟨[.bool y0.V6,.int .u64 y0.Hi,.int .u64 y0.Lo]⟩] []=some (XDI x):=(XaY (Xb8 _)).trans (XaX hx)
def s137 (g:Xdb):Xbs:=⟨[.v],r137 g⟩
theorem XAz {g:Xdb} {y0:Xab} {x:Bool} (hx:g y0=some x):(s137 g).run [.agg ⟨[.bool y0.V6,.int .u64 y0.Hi,.int .u64 y0.Lo]⟩] []=some (XDI x):=XR0 hx
abbrev XKl:List (Nat×Xbs):=[]
theorem XBW (hS:Xal Tryz.prog (XaE (XKl))) (a:Xab) (res:Bool) (h:XiE a=some res) :
 XaK Tryz.prog 137 0 ⟨⟨137,15,[(0,.agg ⟨[.bool a.V6,.int .u64 a.Hi,.int .u64 a.Lo]⟩)],[.code XEG],[],false,none⟩,[],[],0⟩ (fun v H _=>Res 0 (XDI res) v H):=by
 unfold XiE at h
 refine Xbg XaJ hS true 3000 ?_
 conv=>whnf
 exact W
def XbX:Xdb:=XiE
theorem XxU:XbA Tryz.prog 137 (s137 XbX):=by
 have hL:=XBW (Xal.XaV trivial)
 exact okA ⟨Tryz.f137,rfl,by decide,rfl⟩
def XmU (XbX:Xdb) (Xaz:Xbt) (a:Xab):Option (List UInt8):=
 (XbX a).bind fun xr=>
 cond (!xr)
  (
  some ([]))
  (
  cond (a.V6)
   (
   (Xaz a.Hi 8).bind fun p=>
   (Xaz a.Lo 8).bind fun p1=>
   Xa9 (decide (p.length+p1.length<2^63)) <|
   some (p++p1))
   (
   (Xaz a.Lo 4).bind fun p2=>
   some (p2)))
def XED (x:List UInt8):Xcu:=⟨.string ⟨⟨x⟩⟩,[],[]⟩
abbrev XfG:=Xab→Option (List UInt8)
def r138 (g:XfG):Dec:=dV Xcl fun (y0:Xab)=>Xdm (ofG (g y0) XED)
theorem XR3 {g:XfG} {y0:Xab} {x:List UInt8} (hx:g y0=some x):r138 g [.agg ⟨[.bool y0.V6,.int .u64 y0.Hi,.int .u64 y0.Lo]⟩] []=some (XED x):=(XaY (Xb8 _)).trans (XaX hx)
def s138 (g:XfG):Xbs:=⟨[.v],r138 g⟩
theorem XL4 {g:XfG} {y0:Xab} {x:List UInt8} (hx:g y0=some x):(s138 g).run [.agg ⟨[.bool y0.V6,.int .u64 y0.Hi,.int .u64 y0.Lo]⟩] []=some (XED x):=XR3 hx
abbrev XHb (XbX:Xdb) (Xaz:Xbt):List (Nat×Xbs):=[(137,s137 XbX),(71,s71 Xaz)]
theorem XDL (XbX:Xdb) (Xaz:Xbt) (hS:Xal Tryz.prog (XaE (XHb XbX Xaz))) (a:Xab) (res:List UInt8) (h:XmU XbX Xaz a=some res) :
 XaK Tryz.prog 138 0 ⟨⟨138,20,[(0,.agg ⟨[.bool a.V6,.int .u64 a.Hi,.int .u64 a.Lo]⟩)],[.code Xxc],[],false,none⟩,[],[],0⟩ (fun v H _=>Res 0 (XED res) v H):=by
 unfold XmU at h
 have R1:=@XAz XbX
 have R2:=@Xpd Xaz
 refine Xbg XaJ hS true 3000 ?_
 conv=>whnf
 exact W
def Xfx:XfG:=XmU XbX Xaz
theorem XI2:XbA Tryz.prog 138 (s138 Xfx):=by
 have hL:=XDL XbX Xaz (Xal.XaV ⟨XxU,Xqx,trivial⟩)
 exact okA ⟨Tryz.f138,rfl,by decide,rfl⟩
def Xjl (a:Xab):Option Bool:=
 cond (a.V6)
  (
  some (true))
  (
  cond (a.Hi==0)
   (
   some (decide (a.Lo<4294967296)))
   (
   some (false)))
def rx42 (x:Bool):Xcu:=⟨.bool x,[],[]⟩
abbrev XbY:=Xab→Option Bool
def r42 (g:XbY):Dec:=dV Xcl fun (y0:Xab)=>Xdm (ofG (g y0) rx42)
theorem r42_c {g:XbY} {y0:Xab} {x:Bool} (hx:g y0=some x):r42 g [.agg ⟨[.bool y0.V6,.int .u64 y0.Hi,.int .u64 y0.Lo]⟩] []=some (rx42 x):=(XaY (Xb8 _)).trans (XaX hx)
def s42 (g:XbY):Xbs:=⟨[.v],r42 g⟩
theorem Xs1 {g:XbY} {y0:Xab} {x:Bool} (hx:g y0=some x):(s42 g).run [.agg ⟨[.bool y0.V6,.int .u64 y0.Hi,.int .u64 y0.Lo]⟩] []=some (rx42 x):=r42_c hx
abbrev XMB:List (Nat×Xbs):=[]
theorem XH3 (hS:Xal Tryz.prog (XaE (XMB))) (a:Xab) (res:Bool) (h:Xjl a=some res) :
 XaK Tryz.prog 42 0 ⟨⟨42,15,[(0,.agg ⟨[.bool a.V6,.int .u64 a.Hi,.int .u64 a.Lo]⟩)],[.code XQf],[],false,none⟩,[],[],0⟩ (fun v H _=>Res 0 (rx42 res) v H):=by
 unfold Xjl at h
 refine Xbg XaJ hS true 3000 ?_
 conv=>whnf
 exact W
def XaS:XbY:=Xjl
theorem XsF:XbA Tryz.prog 42 (s42 XaS):=by
 have hL:=XH3 (Xal.XaV trivial)
 exact okA ⟨Tryz.f42,rfl,by decide,rfl⟩
def XmR (XaW:Xcc) (XaS:XbY) (a:Xab):Option (List UInt8):=
 (XaS a).bind fun xr=>
 cond (!xr)
  (
  some ([]))
  (
  cond (a.V6)
   (
   (XaW a.Hi 8).bind fun p=>
   (XaW a.Lo 8).bind fun p1=>
   Xa9 (decide (p.length+p1.length<2^63)) <|
   some (p++p1))
   (
   (XaW a.Lo 4).bind fun p2=>
   some (p2)))
def XCs (x:List UInt8):Xcu:=⟨.string ⟨⟨x⟩⟩,[],[]⟩
abbrev XdM:=Xab→Option (List UInt8)
def r104 (g:XdM):Dec:=dV Xcl fun (y0:Xab)=>Xdm (ofG (g y0) XCs)
theorem XOx {g:XdM} {y0:Xab} {x:List UInt8} (hx:g y0=some x):r104 g [.agg ⟨[.bool y0.V6,.int .u64 y0.Hi,.int .u64 y0.Lo]⟩] []=some (XCs x):=(XaY (Xb8 _)).trans (XaX hx)
def XMC (g:XdM):Xbs:=⟨[.v],r104 g⟩
theorem XtA {g:XdM} {y0:Xab} {x:List UInt8} (hx:g y0=some x):(XMC g).run [.agg ⟨[.bool y0.V6,.int .u64 y0.Hi,.int .u64 y0.Lo]⟩] []=some (XCs x):=XOx hx
abbrev XJ5 (XaW:Xcc) (XaS:XbY):List (Nat×Xbs):=[(46,s46 XaW),(42,s42 XaS)]
theorem XBr (XaW:Xcc) (XaS:XbY) (hS:Xal Tryz.prog (XaE (XJ5 XaW XaS))) (a:Xab) (res:List UInt8) (h:XmR XaW XaS a=some res) :
 XaK Tryz.prog 104 0 ⟨⟨104,18,[(0,.agg ⟨[.bool a.V6,.int .u64 a.Hi,.int .u64 a.Lo]⟩)],[.code Xxk],[],false,none⟩,[],[],0⟩ (fun v H _=>Res 0 (XCs res) v H):=by
 unfold XmR at h
 have R1:=@Xs1 XaS
 have R2:=@XqR XaW
 refine Xbg XaJ hS true 3000 ?_
 conv=>whnf
 exact W
def Xca:XdM:=XmR XaW XaS
theorem Xt2:XbA Tryz.prog 104 (XMC Xca):=by
 have hL:=XBr XaW XaS (Xal.XaV ⟨XqD,XsF,trivial⟩)
 exact okA ⟨Tryz.f104,rfl,by decide,rfl⟩
def Xdd (Xaz:Xbt) (l:List Int) (i:Int) (c:List Int):Option (Sum (Int×(List Int)) (List UInt8)):=
 let t:=decide ((wI .i64 (i+1))<(l.length:Int))
 cond (t)
  (
  Xa9 (decide ((0:Int)≤i∧i<(l.length:Int))) <|
  (l[i.toNat]?).bind fun (e2:Int)=>
  Xa9 (decide ((0:Int)≤(wI .i64 (i+1))∧(wI .i64 (i+1))<(l.length:Int))) <|
  (l[(wI .i64 (i+1)).toNat]?).bind fun (e3:Int)=>
  (Xaz (wI .u64 e2) e3).bind fun p1=>
  Xa9 (decide ((c.length+p1.length)*1≤2^47)) <|
  let row:=c++(bI p1)
  some (.inl (wI .i64 (i+2),row)))
  (
  Xa9 (decide (c.length<2^63)) <|
  some (.inr (iB c)))
def XjV (Xaz:Xbt) (l:List Int):Option (List UInt8):=
 cond (decide (1<(l.length:Int)))
  (
  Xa9 (decide ((0:Int)≤(0:Int)∧(0:Int)<(l.length:Int))) <|
  (l[0]?).bind fun (e:Int)=>
  Xa9 (decide ((0:Int)≤(1:Int)∧(1:Int)<(l.length:Int))) <|
  (l[1]?).bind fun (e1:Int)=>
  (Xaz (wI .u64 e) e1).bind fun p=>
  Xa9 (decide (p.length*1≤2^47)) <|
  iter (fun st=>Xdd Xaz l st.1 st.2) FUEL (2,bI p))
  (
  some ([]))
def Xwx (x:List UInt8):Xcu:=⟨.string ⟨⟨x⟩⟩,[],[none]⟩
abbrev XeC:=(List Int)→Option (List UInt8)
def r139 (g:XeC):Dec:=dSl 0 1 (unL (asI .i64)) fun (y0:List Int)=>Xdm (ofG (g y0) Xwx)
theorem XQS {g:XeC} {y0:List Int} {x:List UInt8} (hx:g y0=some x):r139 g [.slice (some ⟨0,0,none⟩) y0.length 1] [some (vI .i64 y0)]=some (Xwx x):=(Xzi (Xx1 _ _)).trans (XaX hx)
def s139 (g:XeC):Xbs:=⟨[.sl 1],r139 g⟩
theorem XIR {g:XeC} {y0:List Int} {x:List UInt8} (hx:g y0=some x):(s139 g).run [.slice (some ⟨0,0,none⟩) y0.length 1] [some (vI .i64 y0)]=some (Xwx x):=XQS hx
abbrev Xyi (Xaz:Xbt):List (Nat×Xbs):=[(71,s71 Xaz)]
def XkH (l:List Int) (i:Int) (c:List Int):VM:=
 ⟨⟨139, 25, [(0, .slice (some ⟨0, 0, none⟩) l.length 1), (3, .pointer (some ⟨1, 0, none⟩)), (4, .int .i64 i)], [.code XtH, .inLoop XtH, .inBlock 0, .code XzH], [], false, none⟩, [], [(0, .row false (vI .i64 l)), (1, .ty 210 [.pointer (some ⟨1, 0, none⟩), .func (.method "") ⟨[.slice (some ⟨12, 0, none⟩) c.length 1]⟩ ⟨[]⟩]), (12, .ty 5 (vI .u8 c))], 13⟩
theorem XAF (Xaz:Xbt) (hS:Xal Tryz.prog (XaE (Xyi Xaz))) (l:List Int) (res:List UInt8):∀ fuel (st:Int×(List Int)) (o:List UInt8),iter (fun st=>Xdd Xaz l st.1 st.2) fuel st=some o→(o=res) →
 XaK Tryz.prog 139 1 (XkH l st.1 st.2) (fun v H _=>Res 1 (Xwx res) v H):=by
 intro fuel st o h hc
 refine XcZ (head:=fun st=>XkH l st.1 st.2) (C:=fun o=>(o=res)) ?_ fuel st o h hc
 clear h hc o st fuel
 intro st o h hc
 obtain ⟨i,c⟩:=st
 replace h:Xdd Xaz l i c=some o:=h
 show XaK Tryz.prog 139 1 (XkH l i c) (fun v H _=>Res 1 (Xwx res) v H)
 unfold Xdd at h
 refine Xbg XaJ hS true 3000 ?_
 conv=>whnf
 let t:Bool:=decide ((wI .i64 (i+1))<(l.length:Int))
 refine br.h2 h (by rfl) ?_ ?_
 ·clear h;intro hb h;conv=>whnf
  replace h:=Xa9.elim h;obtain ⟨hb,h⟩:=h
  refine req.intro (XRx rfl (by first|rfl|(simp;done)) (by first|rfl|omega|(simp;done)|(simp;omega)|(simp at *;omega)) (of_decide_eq_true hb)) ?_
  conv=>whnf
  refine pk_us ?_
  conv=>whnf
  exact W
 clear h;intro hb h;conv=>whnf
 replace h:=Xa9.elim h;obtain ⟨hb,h⟩:=h
 try (refine req.intro hb ?_;conv=>whnf)
 replace h:=Xdv.elim h;obtain ⟨e2,hy,h⟩:=h
 refine rd.I hy (by first|rfl|(rw [Nat.zero_add,Nat.mul_one];try rfl;done)|omega) ?_
 conv=>whnf
 replace h:=Xa9.elim h;obtain ⟨hb,h⟩:=h
 try (refine req.intro hb ?_;conv=>whnf)
 replace h:=Xdv.elim h;obtain ⟨e3,hy,h⟩:=h
 refine rd.I hy (by first|rfl|(rw [Nat.zero_add,Nat.mul_one];try rfl;done)|omega) ?_
 conv=>whnf
 replace h:=Xdv.elim h;obtain ⟨p1,hy,h⟩:=h
 refine Xgn.a (Xpd hy) ?_
 conv=>whnf
 replace h:=Xa9.elim h;obtain ⟨hb,h⟩:=h
 first|refine req.intro (XLB (of_decide_eq_true hb) (by first|rfl|omega|(simp;done)|(simp;omega)|(simp at *;omega)) rfl rfl (by first|rfl|omega|(simp;done)|(simp;omega)|(simp at *;omega)) (by first|rfl|exact Xjr _ _|exact Xmz _|exact XmX _|exact XnV (by first|exact Xex|exact XdX|exact XdW|exact Xc0|exact XdB|exact Xc1|exact Xdo|exact XdD|exact Xeo|exact Xe6|exact Xer|exact XdV|exact Xez|exact Xe4) _|(rw [Xhw];exact Xjr _ _)|(simp [Xjr,Xmz,XmX,XnF,Xng,XpP,Xpj];done)|(simp;exact List.all_eq_true.1 (XnV (by first|exact Xex|exact XdX|exact XdW|exact Xc0|exact XdB|exact Xc1|exact Xdo|exact XdD|exact Xeo|exact Xe6|exact Xer|exact XdV|exact Xez|exact Xe4) _))) rfl) ?_|skip
 conv=>whnf
 let row:List Int:=c++(bI p1)
 first|have hlen_row:row.length=_:=List.length_append ..|skip
 refine XQF (xs:=c) (ys:=bI p1) (Xhw _) (by first|rfl|omega|(simp;done)|(simp;omega)|(simp at *;omega)) (by first|rfl|omega|(simp;done)|(simp;omega)|(simp at *;omega)) ?_
 conv=>whnf
 cases h;simp only [Sum.elim_inl,XkH] at hc
 exact Xn0 hc [(0,0),(1,1),(12,23)] rfl
theorem XBh (Xaz:Xbt) (hS:Xal Tryz.prog (XaE (Xyi Xaz))) (l:List Int) (res:List UInt8) (h:XjV Xaz l=some res) :
 XaK Tryz.prog 139 1 ⟨⟨139,25,[(0,.slice (some ⟨0,0,none⟩) l.length 1)],[.code XxJ],[],false,none⟩,[],[(0,.row false (vI .i64 l))],1⟩ (fun v H _=>Res 1 (Xwx res) v H):=by
 unfold XjV at h
 refine Xbg XaJ hS true 3000 ?_
 conv=>whnf
 refine Xbg XaJ hS true 3000 ?_
 conv=>whnf
 refine br.h2 h (by rfl) ?_ ?_
 ·clear h;intro hb h;conv=>whnf
  exact W
 clear h;intro hb h;conv=>whnf
 replace h:=Xa9.elim h;obtain ⟨hb,h⟩:=h
 try (refine req.intro hb ?_;conv=>whnf)
 replace h:=Xdv.elim h;obtain ⟨e,hy,h⟩:=h
 refine rd.I hy (by first|rfl|(rw [Nat.zero_add,Nat.mul_one];try rfl;done)|omega) ?_
 conv=>whnf
 replace h:=Xa9.elim h;obtain ⟨hb,h⟩:=h
 try (refine req.intro hb ?_;conv=>whnf)
 replace h:=Xdv.elim h;obtain ⟨e1,hy,h⟩:=h
 refine rd.I hy (by first|rfl|(rw [Nat.zero_add,Nat.mul_one];try rfl;done)|omega) ?_
 conv=>whnf
 replace h:=Xdv.elim h;obtain ⟨p,hy,h⟩:=h
 refine Xgn.a (Xpd hy) ?_
 conv=>whnf
 replace h:=Xa9.elim h;obtain ⟨hb,h⟩:=h
 refine req.intro (XD1 (of_decide_eq_true hb) (by first|rfl|omega|(simp;done)|(simp;omega)|(simp at *;omega)) rfl rfl) ?_
 conv=>whnf
 refine XJh (ys:=bI p) (Xhw _) (by first|rfl|omega|(simp;done)|(simp;omega)|(simp at *;omega)) ?_
 conv=>whnf
 have hl:=XAF Xaz hS _ res _ _ _ h rfl;simp only [XkH] at hl
 exact Xn0 hl [(0,0),(1,1),(12,12)] rfl
def XdI:XeC:=XjV Xaz
theorem XLm:XbA Tryz.prog 139 (s139 XdI):=by
 have hL:=XBh Xaz (Xal.XaV ⟨Xqx,trivial⟩)
 exact okA ⟨Tryz.f139,rfl,by decide,rfl⟩
def XhH (Xfx:XfG) (XbX:Xdb) (XdI:XeC) (src:Xab) (dst:Xab) (proto:Int) (n:Int):Option (List UInt8):=
 (XbX src).bind fun xr=>
 cond (!xr)
  (
  some ([]))
  (
  (XbX dst).bind fun xr1=>
  cond (!xr1)
   (
   some ([]))
   (
   cond (!(src.V6==dst.V6))
    (
    some ([]))
    (
    (Xfx src).bind fun p=>
    (Xfx dst).bind fun p1=>
    Xa9 (decide (p.length+p1.length<2^63)) <|
    cond (src.V6)
     (
     (XdI [n,4,0,3,proto,1]).bind fun xr2=>
     Xa9 (decide ((p++p1).length+xr2.length<2^63)) <|
     some ((p++p1)++xr2))
     (
     (XdI [0,1,proto,1,n,2]).bind fun xr3=>
     Xa9 (decide ((p++p1).length+xr3.length<2^63)) <|
     some ((p++p1)++xr3)))))
def XCR (x:List UInt8):Xcu:=⟨.string ⟨⟨x⟩⟩,[],[]⟩
abbrev Xcm:=Xab→Xab→Int→Int→Option (List UInt8)
def r131 (g:Xcm):Dec:=dV Xcl fun (y0:Xab)=>dV Xcl fun (y1:Xab)=>dV (asI .i64) fun (y2:Int)=>dV (asI .i64) fun (y3:Int)=>Xdm (ofG (g y0 y1 y2 y3) XCR)
theorem XQR {g:Xcm} {y0:Xab} {y1:Xab} {y2:Int} {y3:Int} {x:List UInt8} (hx:g y0 y1 y2 y3=some x):r131 g [.agg ⟨[.bool y0.V6,.int .u64 y0.Hi,.int .u64 y0.Lo]⟩,.agg ⟨[.bool y1.V6,.int .u64 y1.Hi,.int .u64 y1.Lo]⟩,.int .i64 y2,.int .i64 y3] []=some (XCR x):=(XaY (Xb8 _)).trans ((XaY (Xb8 _)).trans ((XaY (Xc2 _)).trans ((XaY (Xc2 _)).trans (XaX hx))))
def s131 (g:Xcm):Xbs:=⟨[.v,.v,.v,.v],r131 g⟩
theorem XzW {g:Xcm} {y0:Xab} {y1:Xab} {y2:Int} {y3:Int} {x:List UInt8} (hx:g y0 y1 y2 y3=some x):(s131 g).run [.agg ⟨[.bool y0.V6,.int .u64 y0.Hi,.int .u64 y0.Lo]⟩,.agg ⟨[.bool y1.V6,.int .u64 y1.Hi,.int .u64 y1.Lo]⟩,.int .i64 y2,.int .i64 y3] []=some (XCR x):=XQR hx
abbrev XJm (Xfx:XfG) (XbX:Xdb) (XdI:XeC):List (Nat×Xbs):=[(138,s138 Xfx),(137,s137 XbX),(139,s139 XdI)]
theorem XDy (Xfx:XfG) (XbX:Xdb) (XdI:XeC) (hS:Xal Tryz.prog (XaE (XJm Xfx XbX XdI))) (src:Xab) (dst:Xab) (proto:Int) (n:Int) (res:List UInt8) (h:XhH Xfx XbX XdI src dst proto n=some res) :
 XaK Tryz.prog 131 0 ⟨⟨131,44,[(0,.agg ⟨[.bool src.V6,.int .u64 src.Hi,.int .u64 src.Lo]⟩),(1,.agg ⟨[.bool dst.V6,.int .u64 dst.Hi,.int .u64 dst.Lo]⟩),(2,.int .i64 proto),(3,.int .i64 n)],[.code Xzb],[],false,none⟩,[],[],0⟩ (fun v H _=>Res 0 (XCR res) v H):=by
 unfold XhH at h
 have R1:=@XAz XbX
 have R2:=@XL4 Xfx
 have R3:=@XIR XdI
 refine Xbg XaJ hS true 3000 ?_
 conv=>whnf
 exact W
def Xbv:Xcm:=XhH Xfx XbX XdI
theorem Xzo:XbA Tryz.prog 131 (s131 Xbv):=by
 have hL:=XDy Xfx XbX XdI (Xal.XaV ⟨XI2,XxU,XLm,trivial⟩)
 exact okA ⟨Tryz.f131,rfl,by decide,rfl⟩
def XmZ (XaW:Xcc) (n:Int) (k:Int):Option (List UInt8):=
 (XaW (wI .u64 n) k).bind fun p=>
 some (p)
def XBy (x:List UInt8):Xcu:=⟨.string ⟨⟨x⟩⟩,[],[]⟩
abbrev XeM:=Int→Int→Option (List UInt8)
def r105 (g:XeM):Dec:=dV (asI .i64) fun (y0:Int)=>dV (asI .i64) fun (y1:Int)=>Xdm (ofG (g y0 y1) XBy)
theorem XSW {g:XeM} {y0:Int} {y1:Int} {x:List UInt8} (hx:g y0 y1=some x):r105 g [.int .i64 y0,.int .i64 y1] []=some (XBy x):=(XaY (Xc2 _)).trans ((XaY (Xc2 _)).trans (XaX hx))
def s105 (g:XeM):Xbs:=⟨[.v,.v],r105 g⟩
theorem XyQ {g:XeM} {y0:Int} {y1:Int} {x:List UInt8} (hx:g y0 y1=some x):(s105 g).run [.int .i64 y0,.int .i64 y1] []=some (XBy x):=XSW hx
abbrev XHw (XaW:Xcc):List (Nat×Xbs):=[(46,s46 XaW)]
theorem XCz (XaW:Xcc) (hS:Xal Tryz.prog (XaE (XHw XaW))) (n:Int) (k:Int) (res:List UInt8) (h:XmZ XaW n k=some res) :
 XaK Tryz.prog 105 0 ⟨⟨105,9,[(0,.int .i64 n),(1,.int .i64 k)],[.code XFo],[],false,none⟩,[],[],0⟩ (fun v H _=>Res 0 (XBy res) v H):=by
 unfold XmZ at h
 have R1:=@XqR XaW
 refine Xbg XaJ hS true 3000 ?_
 conv=>whnf
 exact W
def XbR:XeM:=XmZ XaW
theorem XzF:XbA Tryz.prog 105 (s105 XbR):=by
 have hL:=XCz XaW (Xal.XaV ⟨XqD,trivial⟩)
 exact okA ⟨Tryz.f105,rfl,by decide,rfl⟩
def XjE (Xca:XdM) (XaS:XbY) (XbR:XeM) (src:Xab) (dst:Xab) (proto:Int) (n:Int):Option (List UInt8):=
 (XaS src).bind fun xr=>
 cond (!xr)
  (
  some ([]))
  (
  (XaS dst).bind fun xr1=>
  cond (!xr1)
   (
   some ([]))
   (
   cond (!(src.V6==dst.V6))
    (
    some ([]))
    (
    cond (src.V6)
     (
     (Xca src).bind fun p=>
     (Xca dst).bind fun p1=>
     Xa9 (decide (p.length+p1.length<2^63)) <|
     (XbR n 4).bind fun n1=>
     Xa9 (decide ((p++p1).length+n1.length<2^63)) <|
     (XbR 0 3).bind fun n2=>
     Xa9 (decide (((p++p1)++n1).length+n2.length<2^63)) <|
     (XbR proto 1).bind fun n3=>
     Xa9 (decide ((((p++p1)++n1)++n2).length+n3.length<2^63)) <|
     some ((((p++p1)++n1)++n2)++n3))
     (
     (Xca src).bind fun p2=>
     (Xca dst).bind fun p3=>
     Xa9 (decide (p2.length+p3.length<2^63)) <|
     (XbR 0 1).bind fun n4=>
     Xa9 (decide ((p2++p3).length+n4.length<2^63)) <|
     (XbR proto 1).bind fun n5=>
     Xa9 (decide (((p2++p3)++n4).length+n5.length<2^63)) <|
     (XbR n 2).bind fun n6=>
     Xa9 (decide ((((p2++p3)++n4)++n5).length+n6.length<2^63)) <|
     some ((((p2++p3)++n4)++n5)++n6)))))
def rx77 (x:List UInt8):Xcu:=⟨.string ⟨⟨x⟩⟩,[],[]⟩
abbrev Xct:=Xab→Xab→Int→Int→Option (List UInt8)
def r77 (g:Xct):Dec:=dV Xcl fun (y0:Xab)=>dV Xcl fun (y1:Xab)=>dV (asI .i64) fun (y2:Int)=>dV (asI .i64) fun (y3:Int)=>Xdm (ofG (g y0 y1 y2 y3) rx77)
theorem r77_c {g:Xct} {y0:Xab} {y1:Xab} {y2:Int} {y3:Int} {x:List UInt8} (hx:g y0 y1 y2 y3=some x):r77 g [.agg ⟨[.bool y0.V6,.int .u64 y0.Hi,.int .u64 y0.Lo]⟩,.agg ⟨[.bool y1.V6,.int .u64 y1.Hi,.int .u64 y1.Lo]⟩,.int .i64 y2,.int .i64 y3] []=some (rx77 x):=(XaY (Xb8 _)).trans ((XaY (Xb8 _)).trans ((XaY (Xc2 _)).trans ((XaY (Xc2 _)).trans (XaX hx))))
def s77 (g:Xct):Xbs:=⟨[.v,.v,.v,.v],r77 g⟩
theorem XAq {g:Xct} {y0:Xab} {y1:Xab} {y2:Int} {y3:Int} {x:List UInt8} (hx:g y0 y1 y2 y3=some x):(s77 g).run [.agg ⟨[.bool y0.V6,.int .u64 y0.Hi,.int .u64 y0.Lo]⟩,.agg ⟨[.bool y1.V6,.int .u64 y1.Hi,.int .u64 y1.Lo]⟩,.int .i64 y2,.int .i64 y3] []=some (rx77 x):=r77_c hx
abbrev XPo (Xca:XdM) (XaS:XbY) (XbR:XeM):List (Nat×Xbs):=[(104,XMC Xca),(42,s42 XaS),(105,s105 XbR)]
theorem XLH (Xca:XdM) (XaS:XbY) (XbR:XeM) (hS:Xal Tryz.prog (XaE (XPo Xca XaS XbR))) (src:Xab) (dst:Xab) (proto:Int) (n:Int) (res:List UInt8) (h:XjE Xca XaS XbR src dst proto n=some res) :
 XaK Tryz.prog 77 0 ⟨⟨77,52,[(0,.agg ⟨[.bool src.V6,.int .u64 src.Hi,.int .u64 src.Lo]⟩),(1,.agg ⟨[.bool dst.V6,.int .u64 dst.Hi,.int .u64 dst.Lo]⟩),(2,.int .i64 proto),(3,.int .i64 n)],[.code XFf],[],false,none⟩,[],[],0⟩ (fun v H _=>Res 0 (rx77 res) v H):=by
 unfold XjE at h
 have R1:=@Xs1 XaS
 have R2:=@XtA Xca
 have R3:=@XyQ XbR
 refine Xbg XaJ hS true 3000 ?_
 conv=>whnf
 exact W
def Xbr:Xct:=XjE Xca XaS XbR
theorem Xyf:XbA Tryz.prog 77 (s77 Xbr):=by
 have hL:=XLH Xca XaS XbR (Xal.XaV ⟨Xt2,XsF,XzF,trivial⟩)
 exact okA ⟨Tryz.f77,rfl,by decide,rfl⟩
end Go.Vm.Code
namespace Go.Vm.Code
open Go Go.Vm
def A4 (a:Xab):Prop:=0≤a.Hi∧a.Hi<2^64∧0≤a.Lo∧a.Lo<2^64
def aok (a:Xab):Bool:=a.V6||(a.Hi==0&&decide (a.Lo<4294967296))
theorem Xpa (a:Xab):XbX a=some (aok a):=by
 unfold XbX XiE aok
 cases a.V6
 ·cases (a.Hi==0)<;>rfl
 ·rfl
theorem Xiu (a:Xab):XaS a=some (aok a):=by
 unfold XaS Xjl aok
 cases a.V6
 ·cases (a.Hi==0)<;>rfl
 ·rfl
def XfA (a:Xab):List UInt8:=cond a.V6 (be a.Hi.toNat 8++be a.Lo.toNat 8) (be a.Lo.toNat 4)
theorem Xel (a:Xab):(XfA a).length=cond a.V6 16 4:=by unfold XfA;cases a.V6<;>simp
theorem Xfn {n:Int} {k:Nat} (h:1≤k∧k≤8):Xd9 n (k:Int)=be n.toNat k:=by unfold Xd9;rw [if_pos (by omega)];rfl
theorem Xzz {a:Xab} (h:A4 a) (hr:aok a=true):Xfx a=some (XfA a):=by
 obtain ⟨h1,h2,h3,h4⟩:=h
 unfold Xfx XmU XfA
 rw [Xpa,Option.bind_some,hr]
 simp only [Bool.not_true,cond_false]
 cases a.V6
 ·simp only [cond_false]
  rw [Xes h3,Option.bind_some,show (4:Int)=((4:Nat):Int) from rfl,Xfn (by omega)]
 ·simp only [cond_true]
  rw [Xes h1,Option.bind_some,Xes h3,Option.bind_some,show (8:Int)=((8:Nat):Int) from rfl,Xfn (by omega),Xfn (by omega),XaC (by simp)]
theorem Xoi {a:Xab} (h:A4 a) (hr:aok a=true):Xca a=some (XfA a):=by
 obtain ⟨h1,h2,h3,h4⟩:=h
 unfold Xca XmR XfA
 rw [Xiu,Option.bind_some,hr]
 simp only [Bool.not_true,cond_false]
 cases a.V6
 ·simp only [cond_false]
  rw [Xem h3 h4,Option.bind_some,show (4:Int)=((4:Nat):Int) from rfl,Xfn (by omega)]
 ·simp only [cond_true]
  rw [Xem h1 h2,Option.bind_some,Xem h3 h4,Option.bind_some,show (8:Int)=((8:Nat):Int) from rfl,Xfn (by omega),Xfn (by omega),XaC (by simp)]
theorem Xpf {n k:Int} (h0:0≤n) (h1:n<2^63):XbR n k=some (Xd9 n k):=by
 unfold XbR XmZ
 rw [XjF h0 (by omega),Xem h0 (by omega)];rfl
theorem Xbu (n k:Int):(Xd9 n k).length≤8:=by unfold Xd9;split<;>simp<;>omega
theorem iB_bI (s:List UInt8):iB (bI s)=s:=by simp [iB,bI,List.map_map,Function.comp_def]
theorem XFy (a b:List UInt8):bI (a++b)=bI a++bI b:=by simp [bI]
theorem Xuy {σ ρ:Type} {f:σ→Option (Sum σ ρ)} {n:Nat} {s s':σ} (h:f s=some (.inl s')):iter f (n+1) s=iter f n s':=by rw [iter,h]
theorem XEi {σ ρ:Type} {f:σ→Option (Sum σ ρ)} {n:Nat} {s:σ} {r:ρ} (h:f s=some (.inr r)):iter f (n+1) s=some r:=by rw [iter,h]
theorem Xyd:∃ n,FUEL=n+8:=⟨18446744073709551608,rfl⟩
theorem XFr {a b c d e f:Int} (ha:0≤a) (hc:0≤c) (he:0≤e) (ha1:a<2^63) (hc1:c<2^63) (he1:e<2^63):XdI [a,b,c,d,e,f]=some (Xd9 a b++Xd9 c d++Xd9 e f):=by
 have l1:=Xbu a b
 have l2:=Xbu c d
 have l3:=Xbu e f
 unfold XdI XjV
 rw [Xa2 (by simp),XaC (by simp)]
 show ((some a).bind _)=_
 rw [Option.bind_some,XaC (by simp)]
 show ((some b).bind _)=_
 rw [Option.bind_some,XjF ha (by omega),Xes ha,Option.bind_some,XaC (by omega)]
 obtain ⟨n,hn⟩:=Xyd
 rw [hn]
 have s1:Xdd Xaz [a,b,c,d,e,f] 2 (bI (Xd9 a b))=some (.inl (4,bI (Xd9 a b++Xd9 c d))):=by
  unfold Xdd
  simp only []
  rw [Xa2 (by rw [show wI .i64 (2+1)=3 from rfl];simp),XaC (by simp)]
  show ((some c).bind _)=_
  rw [Option.bind_some,XaC (by rw [show wI .i64 (2+1)=3 from rfl];simp)]
  show ((some d).bind _)=_
  rw [Option.bind_some,XjF hc (by omega),Xes hc,Option.bind_some,XaC (by simp;omega),XFy];rfl
 have s2:Xdd Xaz [a,b,c,d,e,f] 4 (bI (Xd9 a b++Xd9 c d))=some (.inl (6,bI (Xd9 a b++Xd9 c d++Xd9 e f))):=by
  unfold Xdd
  simp only []
  rw [Xa2 (by rw [show wI .i64 (4+1)=5 from rfl];simp),XaC (by simp)]
  show ((some e).bind _)=_
  rw [Option.bind_some,XaC (by rw [show wI .i64 (4+1)=5 from rfl];simp)]
  show ((some f).bind _)=_
  rw [Option.bind_some,XjF he (by omega),Xes he,Option.bind_some,XaC (by simp;omega),XFy (Xd9 a b++Xd9 c d)];rfl
 have s3:Xdd Xaz [a,b,c,d,e,f] 6 (bI (Xd9 a b++Xd9 c d++Xd9 e f))=some (.inr (Xd9 a b++Xd9 c d++Xd9 e f)):=by
  unfold Xdd
  simp only []
  rw [XaQ (by rw [show wI .i64 (6+1)=7 from rfl];simp),XaC (by simp;omega),iB_bI]
 rw [Xuy (f:=fun (st:Int×List Int)=>Xdd Xaz [a,b,c,d,e,f] st.1 st.2) (n:=n+7) s1,Xuy (n:=n+6) s2,XEi (n:=n+5) s3]
def XjP (src dst:Xab) (p n:Int):List UInt8:=
 if aok src=true∧aok dst=true∧src.V6=dst.V6 then XfA src++XfA dst++cond src.V6 (Xd9 n 4++Xd9 0 3++Xd9 p 1) (Xd9 0 1++Xd9 p 1++Xd9 n 2) else []
theorem Xmb (src dst:Xab) (p n:Int):(XjP src dst p n).length≤56:=by
 have l1:=Xbu n 4
 have l2:=Xbu 0 3
 have l3:=Xbu p 1
 have l4:=Xbu 0 1
 have l5:=Xbu n 2
 unfold XjP
 split
 ·rw [List.length_append,List.length_append,Xel,Xel]
  cases src.V6<;>cases dst.V6<;>simp<;>omega
 ·simp
theorem Xsa {src dst:Xab} {p n:Int} (h1:A4 src) (h2:A4 dst) (hp:0≤p∧p<2^63) (hn:0≤n∧n<2^63):Xbv src dst p n=some (XjP src dst p n):=by
 unfold Xbv XhH XjP
 rw [Xpa,Xpa,Option.bind_some]
 cases e1:aok src
 ·simp
 simp only [Bool.not_true,cond_false,Option.bind_some]
 cases e2:aok dst
 ·simp
 simp only [Bool.not_true,cond_false]
 by_cases e3:src.V6=dst.V6
 ·rw [if_pos (by simpa using e3),show (src.V6==dst.V6)=true by simpa using e3]
  simp only [Bool.not_true,cond_false]
  have l1:=Xel src
  have l2:=Xel dst
  rw [Xzz h1 e1,Option.bind_some,Xzz h2 e2,Option.bind_some,XaC (by rw [l1,l2];cases src.V6<;>cases dst.V6<;>decide)]
  rw [XFr hn.1 (by omega) hp.1 hn.2 (by omega) hp.2,XFr (by omega) hp.1 hn.1 (by omega) hp.2 hn.2]
  have m1:=Xbu n 4
  have m2:=Xbu 0 3
  have m3:=Xbu p 1
  have m4:=Xbu 0 1
  have m5:=Xbu n 2
  have b1:(XfA src).length≤16:=by rw [l1];cases src.V6<;>decide
  have b2:(XfA dst).length≤16:=by rw [l2];cases dst.V6<;>decide
  cases src.V6
  ·simp only [cond_false,Option.bind_some]
   rw [XaC (by simp only [List.length_append];omega)]
  ·simp only [cond_true,Option.bind_some]
   rw [XaC (by simp only [List.length_append];omega)]
 ·rw [if_neg (fun h=>e3 h.2.2),show (src.V6==dst.V6)=false by simpa using e3];rfl
theorem Xny {src dst:Xab} {p n:Int} (h1:A4 src) (h2:A4 dst) (hp:0≤p∧p<2^63) (hn:0≤n∧n<2^63):Xbr src dst p n=some (XjP src dst p n):=by
 unfold Xbr XjE XjP
 rw [Xiu,Xiu,Option.bind_some]
 cases e1:aok src
 ·simp
 simp only [Bool.not_true,cond_false,Option.bind_some]
 cases e2:aok dst
 ·simp
 simp only [Bool.not_true,cond_false]
 by_cases e3:src.V6=dst.V6
 ·rw [if_pos (by simpa using e3),show (src.V6==dst.V6)=true by simpa using e3]
  simp only [Bool.not_true,cond_false]
  have l1:=Xel src
  have l2:=Xel dst
  have m1:=Xbu n 4
  have m2:=Xbu 0 3
  have m3:=Xbu p 1
  have m4:=Xbu 0 1
  have m5:=Xbu n 2
  have b1:(XfA src).length≤16:=by rw [l1];cases src.V6<;>decide
  have b2:(XfA dst).length≤16:=by rw [l2];cases dst.V6<;>decide
  rw [Xoi h1 e1,Xoi h2 e2,Xpf hn.1 hn.2,Xpf (n:=0) (k:=3) (by omega) (by omega),Xpf hp.1 hp.2,Xpf (n:=0) (k:=1) (by omega) (by omega),Xpf hn.1 hn.2]
  cases src.V6
  ·simp only [cond_false,Option.bind_some]
   rw [XaC (by omega),XaC (by simp only [List.length_append];omega),XaC (by simp only [List.length_append];omega),XaC (by simp only [List.length_append];omega)]
   simp only [List.append_assoc]
  ·simp only [cond_true,Option.bind_some]
   rw [XaC (by omega),XaC (by simp only [List.length_append];omega),XaC (by simp only [List.length_append];omega),XaC (by simp only [List.length_append];omega)]
   simp only [List.append_assoc]
 ·rw [if_neg (fun h=>e3 h.2.2),show (src.V6==dst.V6)=false by simpa using e3];rfl
theorem Xoc (n:Int):0≤wI .u64 n∧wI .u64 n<2^64:=by rw [wU64m];omega
theorem XC4 (n k:Int):XbR n k=some (Xd9 (wI .u64 n) k):=by
 unfold XbR XmZ
 rw [Xem (Xoc n).1 (Xoc n).2];rfl
end Go.Vm.Code
namespace Go.Vm.Code
open Go Go.Vm Go.Proofs
set_option maxRecDepth 100000
set_option maxHeartbeats 4000000
set_option linter.unusedVariables false
def XfV (ra0:Xah):Option (Bool×Xah):=
 cond (!ra0.made)
  (
  some ((true,ra0)))
  (
  some ((ra0.bad,ra0)))
def rx95 (x:Bool×Xah):Xcu:=⟨.bool x.1,[],[some [.string ⟨⟨x.2.s⟩⟩,.bool x.2.made,.bool x.2.bad]]⟩
abbrev XaM:=Xah→Option (Bool×Xah)
def r95 (g:XaM):Dec:=dPt 0 Xc8 fun (y0:Xah)=>Xdm (ofG (g y0) rx95)
theorem r95_c {g:XaM} {y0:Xah} {x:Bool×Xah} (hx:g y0=some x):r95 g [.pointer (some ⟨0,0,none⟩)] [some [.string ⟨⟨y0.s⟩⟩,.bool y0.made,.bool y0.bad]]=some (rx95 x):=(Xma (Xfk _)).trans (XaX hx)
def s95 (g:XaM):Xbs:=⟨[.pt 3],r95 g⟩
theorem Xo5 {g:XaM} {y0:Xah} {x:Bool×Xah} (hx:g y0=some x):(s95 g).run [.pointer (some ⟨0,0,none⟩)] [some [.string ⟨⟨y0.s⟩⟩,.bool y0.made,.bool y0.bad]]=some (rx95 x):=r95_c hx
abbrev XSy:List (Nat×Xbs):=[]
theorem XL8 (hS:Xal Tryz.prog (XaE (XSy))) (ra0:Xah) (res:Bool×Xah) (h:XfV ra0=some res) :
 XaK Tryz.prog 95 1 ⟨⟨95,18,[(0,.pointer (some ⟨0,0,none⟩))],[.code XNx],[],false,none⟩,[],[(0,.cells [.string ⟨⟨ra0.s⟩⟩,.bool ra0.made,.bool ra0.bad])],1⟩ (fun v H _=>Res 1 (rx95 res) v H):=by
 unfold XfV at h
 refine Xbg XaJ hS true 3000 ?_
 conv=>whnf
 exact W
def Xai:XaM:=XfV
theorem Xqy:XbA Tryz.prog 95 (s95 Xai):=by
 have hL:=XL8 (Xal.XaV trivial)
 exact okA ⟨Tryz.f95,rfl,by decide,rfl⟩
def Xfy (Xai:XaM) (ra0:Xah) (n:Int):Option ((List UInt8)×Xah):=
 (Xai ra0).bind fun b=>
 cond (b.1)
  (
  some (([],b.2)))
  (
  cond (decide (n<0))
   (
   some (([],Xah.mk b.2.s b.2.made true)))
   (
   cond (decide (n>(b.2.s.length:Int)))
    (
    some (([],Xah.mk b.2.s b.2.made true)))
    (
    Xa9 (decide ((0:Int)≤n∧n≤(b.2.s.length:Int))) <|
    Xa9 (decide ((0:Int)≤n∧n≤(b.2.s.length:Int))) <|
    let t:=(b.2.s.drop n.toNat).take (b.2.s.length - n.toNat)
    some ((b.2.s.take n.toNat,Xah.mk t b.2.made b.2.bad)))))
def rx86 (x:(List UInt8)×Xah):Xcu:=⟨.string ⟨⟨x.1⟩⟩,[],[some [.string ⟨⟨x.2.s⟩⟩,.bool x.2.made,.bool x.2.bad]]⟩
abbrev Xay:=Xah→Int→Option ((List UInt8)×Xah)
def r86 (g:Xay):Dec:=dPt 0 Xc8 fun (y0:Xah)=>dV (asI .i64) fun (y1:Int)=>Xdm (ofG (g y0 y1) rx86)
theorem r86_c {g:Xay} {y0:Xah} {y1:Int} {x:(List UInt8)×Xah} (hx:g y0 y1=some x):r86 g [.pointer (some ⟨0,0,none⟩),.int .i64 y1] [some [.string ⟨⟨y0.s⟩⟩,.bool y0.made,.bool y0.bad]]=some (rx86 x):=(Xma (Xfk _)).trans ((XaY (Xc2 _)).trans (XaX hx))
def s86 (g:Xay):Xbs:=⟨[.pt 3,.v],r86 g⟩
theorem XnQ {g:Xay} {y0:Xah} {y1:Int} {x:(List UInt8)×Xah} (hx:g y0 y1=some x):(s86 g).run [.pointer (some ⟨0,0,none⟩),.int .i64 y1] [some [.string ⟨⟨y0.s⟩⟩,.bool y0.made,.bool y0.bad]]=some (rx86 x):=r86_c hx
abbrev XSi (Xai:XaM):List (Nat×Xbs):=[(95,s95 Xai)]
theorem XJK (Xai:XaM) (hS:Xal Tryz.prog (XaE (XSi Xai))) (ra0:Xah) (n:Int) (res:(List UInt8)×Xah) (h:Xfy Xai ra0 n=some res) :
 XaK Tryz.prog 86 1 ⟨⟨86,38,[(0,.pointer (some ⟨0,0,none⟩)),(1,.int .i64 n)],[.code XEL],[],false,none⟩,[],[(0,.cells [.string ⟨⟨ra0.s⟩⟩,.bool ra0.made,.bool ra0.bad])],1⟩ (fun v H _=>Res 1 (rx86 res) v H):=by
 unfold Xfy at h
 have R1:=@Xo5 Xai
 refine Xbg XaJ hS true 3000 ?_
 conv=>whnf
 exact W
def Xaf:Xay:=Xfy Xai
theorem Xn1:XbA Tryz.prog 86 (s86 Xaf):=by
 have hL:=XJK Xai (Xal.XaV ⟨Xqy,trivial⟩)
 exact okA ⟨Tryz.f86,rfl,by decide,rfl⟩
def XfW (Xaw:Xbk) (Xaf:Xay) (ra0:Xah) (k:Int):Option (Int×Xah):=
 cond (decide (k<1))
  (
  (Xaf ra0 (-1)).bind fun t=>
  (Xaw t.1 0 (-1)).bind fun xg=>
  some ((wI .i64 xg.1,t.2)))
  (
  cond (decide (k>7))
   (
   (Xaf ra0 (-1)).bind fun t1=>
   (Xaw t1.1 0 (-1)).bind fun xg1=>
   some ((wI .i64 xg1.1,t1.2)))
   (
   (Xaf ra0 k).bind fun t2=>
   (Xaw t2.1 0 k).bind fun xg2=>
   some ((wI .i64 xg2.1,t2.2))))
def rx52 (x:Int×Xah):Xcu:=⟨.int .i64 x.1,[],[some [.string ⟨⟨x.2.s⟩⟩,.bool x.2.made,.bool x.2.bad]]⟩
abbrev XaD:=Xah→Int→Option (Int×Xah)
def r52 (g:XaD):Dec:=dPt 0 Xc8 fun (y0:Xah)=>dV (asI .i64) fun (y1:Int)=>Xdm (ofG (g y0 y1) rx52)
theorem r52_c {g:XaD} {y0:Xah} {y1:Int} {x:Int×Xah} (hx:g y0 y1=some x):r52 g [.pointer (some ⟨0,0,none⟩),.int .i64 y1] [some [.string ⟨⟨y0.s⟩⟩,.bool y0.made,.bool y0.bad]]=some (rx52 x):=(Xma (Xfk _)).trans ((XaY (Xc2 _)).trans (XaX hx))
def s52 (g:XaD):Xbs:=⟨[.pt 3,.v],r52 g⟩
theorem Xkh {g:XaD} {y0:Xah} {y1:Int} {x:Int×Xah} (hx:g y0 y1=some x):(s52 g).run [.pointer (some ⟨0,0,none⟩),.int .i64 y1] [some [.string ⟨⟨y0.s⟩⟩,.bool y0.made,.bool y0.bad]]=some (rx52 x):=r52_c hx
abbrev XQV (Xaw:Xbk) (Xaf:Xay):List (Nat×Xbs):=[(69,s69 Xaw),(86,s86 Xaf)]
theorem XK6 (Xaw:Xbk) (Xaf:Xay) (hS:Xal Tryz.prog (XaE (XQV Xaw Xaf))) (ra0:Xah) (k:Int) (res:Int×Xah) (h:XfW Xaw Xaf ra0 k=some res) :
 XaK Tryz.prog 52 1 ⟨⟨52,23,[(0,.pointer (some ⟨0,0,none⟩)),(1,.int .i64 k)],[.code XGz],[],false,none⟩,[],[(0,.cells [.string ⟨⟨ra0.s⟩⟩,.bool ra0.made,.bool ra0.bad])],1⟩ (fun v H _=>Res 1 (rx52 res) v H):=by
 unfold XfW at h
 have R1:=@XnQ Xaf
 have R2:=@XpF Xaw
 refine Xbg XaJ hS true 3000 ?_
 conv=>whnf
 exact W
def Xaa:XaD:=XfW Xaw Xaf
theorem XpK:XbA Tryz.prog 52 (s52 Xaa):=by
 have hL:=XK6 Xaw Xaf (Xal.XaV ⟨Xqm,Xn1,trivial⟩)
 exact okA ⟨Tryz.f52,rfl,by decide,rfl⟩
def XnI (s:List UInt8):Option Xah:=
 some (Xah.mk s true false)
def rx51 (x:Xah):Xcu:=⟨.pointer (some ⟨0,0,none⟩),[[.string ⟨⟨x.s⟩⟩,.bool x.made,.bool x.bad]],[]⟩
abbrev XbC:=(List UInt8)→Option Xah
def r51 (g:XbC):Dec:=dV asS fun (y0:List UInt8)=>Xdm (ofG (g y0) rx51)
theorem r51_c {g:XbC} {y0:List UInt8} {x:Xah} (hx:g y0=some x):r51 g [.string ⟨⟨y0⟩⟩] []=some (rx51 x):=(XaY (XcY)).trans (XaX hx)
def s51 (g:XbC):Xbs:=⟨[.v],r51 g⟩
theorem XqW {g:XbC} {y0:List UInt8} {x:Xah} (hx:g y0=some x):(s51 g).run [.string ⟨⟨y0⟩⟩] []=some (rx51 x):=r51_c hx
abbrev XTc:List (Nat×Xbs):=[]
theorem XHB (hS:Xal Tryz.prog (XaE (XTc))) (s:List UInt8) (res:Xah) (h:XnI s=some res) :
 XaK Tryz.prog 51 0 ⟨⟨51,6,[(0,.string ⟨⟨s⟩⟩)],[.code XQr],[],false,none⟩,[],[],0⟩ (fun v H _=>Res 0 (rx51 res) v H):=by
 unfold XnI at h
 refine Xbg XaJ hS true 3000 ?_
 conv=>whnf
 exact W
def XaO:XbC:=XnI
theorem Xqc:XbA Tryz.prog 51 (s51 XaO):=by
 have hL:=XHB (Xal.XaV trivial)
 exact okA ⟨Tryz.f51,rfl,by decide,rfl⟩
end Go.Vm.Code
namespace Go.Vm.Code
open Go Go.Vm
def rdr (r:Xah) (k:Int):Xah:=if r.bad=true∨k<0∨k>r.s.length then ⟨r.s,true,true⟩ else ⟨r.s.drop k.toNat,true,false⟩
def rdt (r:Xah) (k:Int):List UInt8:=if r.bad=true∨k<0∨k>r.s.length then [] else r.s.take k.toNat
theorem Xfp {r:Xah} (h:r.made=true):Xai r=some (r.bad,r):=by
 unfold Xai XfV
 rw [h];rfl
theorem XfO {r:Xah} {k:Int} (h:r.made=true):Xaf r k=some (rdt r k,rdr r k):=by
 unfold Xaf Xfy rdt rdr
 rw [Xfp h,Option.bind_some]
 simp only []
 obtain ⟨s,m,b⟩:=r
 simp only at h ⊢
 subst h
 cases b with
 | true=>simp
 | false=>
   rw [cond_false]
   by_cases h1:k<0
   ·rw [Xa2 h1,if_pos (by omega),if_pos (by omega)]
   rw [XaQ h1]
   by_cases h2:k>s.length
   ·rw [Xa2 h2,if_pos (by omega),if_pos (by omega)]
   ·have e:(s.drop k.toNat).take (s.length - k.toNat)=s.drop k.toNat:=List.take_of_length_le (by simp)
    rw [XaQ h2,XaC (by omega),XaC (by omega),if_neg (by simp;omega),if_neg (by simp;omega),e]
theorem XeD (r:Xah) (k:Int):(rdr r k).made=true:=by unfold rdr;split<;>rfl
theorem Xui {r:Xah} {k:Int}:(rdr r k).bad=false↔r.bad=false∧0≤k∧k≤r.s.length:=by
 unfold rdr
 split
 ·rename_i h
  simp only [Bool.true_eq_false,false_iff]
  intro ⟨a,b,c⟩
  rcases h with h|h|h
  ·rw [a] at h;cases h
  ·omega
  ·omega
 ·rename_i h
  simp only [true_iff]
  cases hb:r.bad
  ·exact ⟨rfl,by omega,by omega⟩
  ·exact absurd (.inl hb) h
theorem XHO {r:Xah} {k:Int} (h:(rdr r k).bad=false):((rdr r k).s.length:Int)=r.s.length - k:=by
 obtain ⟨a,b,c⟩:=Xui.1 h
 unfold rdr
 rw [if_neg (by rw [a];simp;omega)]
 simp;omega
theorem XhP {r r':Xah} {k:Int} (h:rdr r k=r') (hb:r'.bad=false):r.bad=false∧(r'.s.length:Int)+k=r.s.length:=by
 subst h
 have:=XHO hb
 exact ⟨(Xui.1 hb).1,by omega⟩
theorem Xf6 {s:List UInt8} {k:Int} (h0:0≤k) (h1:k≤s.length):rdr ⟨s,true,false⟩ k=⟨s.drop k.toNat,true,false⟩:=by
 unfold rdr;rw [if_neg (by simp;omega)]
theorem Xf7 {s:List UInt8} {k:Int} (h0:0≤k) (h1:k≤s.length):rdt ⟨s,true,false⟩ k=s.take k.toNat:=by
 unfold rdt;rw [if_neg (by simp;omega)]
theorem XHy (r:Xah) (k:Int):(rdt r k).length≤r.s.length:=by
 unfold rdt;split
 ·simp
 ·rw [List.length_take];omega
def rdn (r:Xah) (k:Int):Int:=(XdH (rdt r (if k<1∨k>7 then -1 else k)):Nat)
theorem Xds {r:Xah} {k:Int} (h:r.made=true) (hl:r.s.length<2^61):Xaa r k=some (rdn r k,rdr r (if k<1∨k>7 then -1 else k)):=by
 unfold Xaa XfW rdn
 have bad:Xaf r (-1)=some ([],rdr r (-1)):=by
  rw [XfO h];unfold rdt;rw [if_pos (by omega)]
 have e0:rdt r (-1)=[]:=by unfold rdt;rw [if_pos (by omega)]
 by_cases h1:k<1
 ·rw [Xa2 h1,bad,Option.bind_some,XdC (by simp),if_pos (by omega),Option.bind_some,e0];rfl
 rw [XaQ h1]
 by_cases h2:k>7
 ·rw [Xa2 h2,bad,Option.bind_some,XdC (by simp),if_pos (by omega),Option.bind_some,e0];rfl
 have hlen:=XHy r k
 rw [XaQ h2,XfO h,Option.bind_some,XdC (by simp only [];omega),Option.bind_some,if_neg (by omega)]
 simp only []
 unfold Xus
 by_cases hc:r.bad=true∨k<0∨k>r.s.length
 ·have e:rdt r k=[]:=by unfold rdt;rw [if_pos hc]
  rw [e,if_neg (by simp;omega)];rfl
 ·have hl2:(rdt r k).length=k.toNat:=by unfold rdt;rw [if_neg hc];simp;omega
  rw [if_pos (by omega)]
  have e2:((rdt r k).drop (0:Int).toNat).take k.toNat=rdt r k:=by
   rw [show (0:Int).toNat=0 from rfl,List.drop_zero,List.take_of_length_le (by omega)]
  have hv:XdH (rdt r k)<2^56:=by
   have:=XsA (rdt r k)
   rw [hl2] at this
   exact XrE this (by omega)
  simp only [e2]
  rw [Xc5 (by omega) (by omega)]
theorem XgZ {s:List UInt8} {p k:Int} (h0:0≤p) (h1:1≤k) (h8:k≤8) (h:p+k≤s.length):Xus s p k=(((XdH ((s.drop p.toNat).take k.toNat):Nat):Int),true):=by
 unfold Xus;rw [if_pos (by omega)]
theorem XlK (s:List UInt8):XaO s=some ⟨s,true,false⟩:=rfl
def sset (s:List UInt8) (p k n:Nat):List UInt8:=s.take p++be n k++s.drop (p+k)
theorem Xoa {s:List UInt8} {p k n:Nat} (h:p+k≤s.length):(sset s p k n).length=s.length:=by simp [sset];omega
theorem Xrz {s:List UInt8} {p k:Nat} {n:Int} (hs:s.length<2^40) (hn:0≤n) (h1:1≤k) (h8:k≤8) (h:p+k≤s.length):XbU s (p:Int) (k:Int) n=some (sset s p k n.toNat):=by
 rw [XFu hs hn];unfold XwC
 rw [if_pos (by omega)]
 have e:((p:Int)+k).toNat=p+k:=by omega
 rw [e];rfl
theorem XoG {s:List UInt8} {p k n y:Nat} (h:p+k≤s.length):(sset s p k n)[y]?=if y<p then s[y]? else if y<p+k then (be n k)[y - p]? else s[y]?:=by
 unfold sset
 rw [List.append_assoc,List.getElem?_append]
 have e1:(s.take p).length=p:=by simp;omega
 rw [e1]
 by_cases h1:y<p
 ·rw [if_pos h1,if_pos h1,List.getElem?_take_of_lt h1]
 ·rw [if_neg h1,if_neg h1,List.getElem?_append,Xdr]
  by_cases h2:y<p+k
  ·rw [if_pos (by omega),if_pos h2]
  ·rw [if_neg (by omega),if_neg h2,List.getElem?_drop]
   congr 1;omega
theorem XpB {l:List UInt8} {q m x:Nat}:((l.drop q).take m)[x]?=if x<m then l[q+x]? else none:=by
 rw [List.getElem?_take];split
 ·rw [List.getElem?_drop]
 ·rfl
theorem XvW {s:List UInt8} {p k n:Nat} (h:p+k≤s.length):((sset s p k n).drop p).take k=be n k:=by
 apply List.ext_getElem?
 intro x
 rw [XpB,XoG h]
 split
 ·rw [if_neg (by omega),if_pos (by omega),Nat.add_sub_cancel_left]
 ·rw [List.getElem?_eq_none (by simp;omega)]
theorem Xvt {s:List UInt8} {p k:Nat} (h:p+k≤s.length) (hp:p%2=0) (hk:k%2=0):XcA s=XcA (s.take p)+(XcA ((s.drop p).take k)+XcA (s.drop (p+k))):=by
 rw [←List.drop_drop,←XcJ _ _ (by rw [List.length_take,List.length_drop];omega),List.take_append_drop,←XcJ _ _ (by rw [List.length_take];omega),List.take_append_drop]
theorem Xo0 {s:List UInt8} {p k n:Nat} (h:p+k≤s.length) (hp:p%2=0) (hk:k%2=0):XcA (sset s p k n)+XcA ((s.drop p).take k)=XcA s+XcA (be n k):=by
 rw [Xvt h hp hk]
 unfold sset
 rw [List.append_assoc,XcJ _ _ (by rw [List.length_take];omega),XcJ _ _ (by rw [Xdr];omega)]
 omega
theorem XhS {n:Nat} (h:n<65536):XcA (be n 2)=n:=by
 have e:be n 2=[UInt8.ofNat (n/256),UInt8.ofNat n]:=by simp [be]
 rw [e,XcA,XcA]
 simp only [UInt8.toNat_ofNat']
 omega
theorem Xg6 {n:Nat} (h:n%65535=0) (h0:n≠0):norm n=65535:=norm_eq (by omega) (by omega) (by omega)
def inR (n m:Int):Bool:=decide (0≤n∧n≤m)
theorem Xt1 {n m:Int}:inR n m=true↔0≤n∧n≤m:=by unfold inR;simp
theorem Xzf (n:Nat):(((n:Int).tmod 4)==0)=decide (n%4=0):=by
 rw [Int.tmod_eq_emod_of_nonneg (by omega),Bool.eq_iff_iff,beq_iff_eq,decide_eq_true_eq];omega
theorem XE1 (n:Nat):decide ((n:Int)≤40)=decide (n≤40):=by rw [Bool.eq_iff_iff,decide_eq_true_eq,decide_eq_true_eq];omega
theorem tdiv4 (n:Nat):(20+(n:Int)).tdiv 4=(((20+n)/4:Nat):Int):=by rw [Int.tdiv_eq_ediv_of_nonneg (by omega)];omega
def vK (s:List UInt8) (p k:Nat):Int:=(XdH ((s.drop p).take k):Nat)
theorem XeH (s:List UInt8) (p k n:Nat) (h:256^k≤n):0≤vK s p k∧vK s p k<n:=by
 have:=Xc9 (l:=s.drop p) (k:=k) n h
 unfold vK;omega
theorem XF6 {s:List UInt8} {p k:Nat} (h1:1≤k) (h7:k≤7) (h:p+k≤s.length) (hl:s.length<2^61):Xaa ⟨s.drop p,true,false⟩ (k:Int)=some (vK s p k,⟨s.drop (p+k),true,false⟩):=by
 have hd:(s.drop p).length=s.length - p:=by simp
 rw [Xds rfl (by simp only;omega),if_neg (by omega),Xf6 (by omega) (by omega)]
 unfold rdn
 rw [if_neg (by omega),Xf7 (by omega) (by omega),Int.toNat_natCast,List.drop_drop];rfl
theorem Xry {s:List UInt8} {p k:Nat} (h:p+k≤s.length):Xaf ⟨s.drop p,true,false⟩ (k:Int)=some ((s.drop p).take k,⟨s.drop (p+k),true,false⟩):=by
 have hd:(s.drop p).length=s.length - p:=by simp
 rw [XfO rfl,Xf6 (by omega) (by omega),Xf7 (by omega) (by omega),Int.toNat_natCast,List.drop_drop]
theorem XqY {s:List UInt8} {p k:Nat} (hs:s.length<2^61) (h1:1≤k) (h7:k≤7) (h:p+k≤s.length):Xat s (p:Int) (k:Int)=some (vK s p k):=by
 rw [Xhn hs,XgZ (by omega) (by omega) (by omega) (by omega)]
 have:=XeH s p k (256^k) (Nat.le_refl _)
 have h8:256^k≤256^7:=Nat.pow_le_pow_right (by decide) h7
 have h9:(256:Nat)^7=72057594037927936:=by decide
 show some (wI .i64 (vK s p k))=_
 rw [Xc5 (by omega) (by omega)]
theorem Xkg {s:List UInt8} {p:Nat} (h:p<s.length):vK s p 1=(s[p].toNat:Int):=by
 unfold vK
 rw [List.drop_eq_getElem_cons h]
 show ((XdH [s[p]]:Nat):Int)=_
 rw [XfL];simp
theorem XzI {s:List UInt8} {p:Nat} (h:p+1<s.length):vK s p 2=(s[p].toNat*256+s[p+1].toNat:Int):=by
 unfold vK
 rw [List.drop_eq_getElem_cons (by omega:p<s.length),List.drop_eq_getElem_cons h]
 show ((XdH [s[p],s[p+1]]:Nat):Int)=_
 rw [XfL,XfL];simp
theorem l1 {l:List UInt8} (h:l.length=1):∃ a,l=[a]:=by
 match l,h with
 | [a],_=>exact ⟨a,rfl⟩
theorem l2 {l:List UInt8} (h:l.length=2):∃ a b,l=[a,b]:=by
 match l,h with
 | [a,b],_=>exact ⟨a,b,rfl⟩
theorem l4 {l:List UInt8} (h:l.length=4):∃ a b c d,l=[a,b,c,d]:=by
 match l,h with
 | [a,b,c,d],_=>exact ⟨a,b,c,d,rfl⟩
theorem Xjc {s w:List UInt8} {p k n:Nat} (h:(s.drop p).take k=w) (e:w=be n k) (hn:n<256^k):vK s p k=(n:Int):=by
 unfold vK;rw [h,e,Xew hn]
theorem XpR (src dst:Xab) (p n:Int):(XjP src dst p n).length%2=0:=by
 unfold XjP
 split
 ·rename_i h
  rw [List.length_append,List.length_append,Xel,Xel,←h.2.2]
  cases src.V6
  ·simp only [cond_false,List.length_append]
   rw [show (Xd9 0 1).length=1 from rfl,show Xd9 p 1=be p.toNat 1 from Xfn (k:=1) (by omega),show Xd9 n 2=be n.toNat 2 from Xfn (k:=2) (by omega),Xdr,Xdr]
  ·simp only [cond_true,List.length_append]
   rw [show (Xd9 0 3).length=3 from rfl,show Xd9 p 1=be p.toNat 1 from Xfn (k:=1) (by omega),show Xd9 n 4=be n.toNat 4 from Xfn (k:=4) (by omega),Xdr,Xdr]
 ·rfl
theorem Xw5 {s:List UInt8} {n p k:Nat} (h:p+k≤n):vK (s.take n) p k=vK s p k:=by
 unfold vK
 rw [List.drop_take,List.take_take,Nat.min_eq_left (by omega)]
theorem Xy2 {s b:List UInt8} {z p k:Nat} (h:s.drop z=b):vK s (z+p) k=vK b p k:=by
 unfold vK;rw [←h,List.drop_drop]
end Go.Vm.Code
namespace Go.Vm.Code
open Go Go.Vm Go.Proofs
set_option maxRecDepth 100000
set_option maxHeartbeats 4000000
set_option linter.unusedVariables false
def Xrw (n:Int) (most:Int):Option Bool:=
 cond (decide (n≥0))
  (
  some (decide (n≤most)))
  (
  some (false))
def XDO (x:Bool):Xcu:=⟨.bool x,[],[]⟩
abbrev XhY:=Int→Int→Option Bool
def r125 (g:XhY):Dec:=dV (asI .i64) fun (y0:Int)=>dV (asI .i64) fun (y1:Int)=>Xdm (ofG (g y0 y1) XDO)
theorem XMZ {g:XhY} {y0:Int} {y1:Int} {x:Bool} (hx:g y0 y1=some x):r125 g [.int .i64 y0,.int .i64 y1] []=some (XDO x):=(XaY (Xc2 _)).trans ((XaY (Xc2 _)).trans (XaX hx))
def s125 (g:XhY):Xbs:=⟨[.v,.v],r125 g⟩
theorem XIW {g:XhY} {y0:Int} {y1:Int} {x:Bool} (hx:g y0 y1=some x):(s125 g).run [.int .i64 y0,.int .i64 y1] []=some (XDO x):=XMZ hx
abbrev XJB:List (Nat×Xbs):=[]
theorem XD4 (hS:Xal Tryz.prog (XaE (XJB))) (n:Int) (most:Int) (res:Bool) (h:Xrw n most=some res) :
 XaK Tryz.prog 125 0 ⟨⟨125,12,[(0,.int .i64 n),(1,.int .i64 most)],[.code XGg],[],false,none⟩,[],[],0⟩ (fun v H _=>Res 0 (XDO res) v H):=by
 unfold Xrw at h
 refine Xbg XaJ hS true 3000 ?_
 conv=>whnf
 exact W
def Xid:XhY:=Xrw
theorem XHQ:XbA Tryz.prog 125 (s125 Xid):=by
 have hL:=XD4 (Xal.XaV trivial)
 exact okA ⟨Tryz.f125,rfl,by decide,rfl⟩
def XmA (XaS:XbY) (a:Xab):Option Bool:=
 (XaS a).bind fun xr=>
 cond (xr)
  (
  some (!a.V6))
  (
  some (false))
def XA1 (x:Bool):Xcu:=⟨.bool x,[],[]⟩
abbrev XfF:=Xab→Option Bool
def r126 (g:XfF):Dec:=dV Xcl fun (y0:Xab)=>Xdm (ofG (g y0) XA1)
theorem XRz {g:XfF} {y0:Xab} {x:Bool} (hx:g y0=some x):r126 g [.agg ⟨[.bool y0.V6,.int .u64 y0.Hi,.int .u64 y0.Lo]⟩] []=some (XA1 x):=(XaY (Xb8 _)).trans (XaX hx)
def s126 (g:XfF):Xbs:=⟨[.v],r126 g⟩
theorem XJo {g:XfF} {y0:Xab} {x:Bool} (hx:g y0=some x):(s126 g).run [.agg ⟨[.bool y0.V6,.int .u64 y0.Hi,.int .u64 y0.Lo]⟩] []=some (XA1 x):=XRz hx
abbrev XHE (XaS:XbY):List (Nat×Xbs):=[(42,s42 XaS)]
theorem XBR (XaS:XbY) (hS:Xal Tryz.prog (XaE (XHE XaS))) (a:Xab) (res:Bool) (h:XmA XaS a=some res) :
 XaK Tryz.prog 126 0 ⟨⟨126,10,[(0,.agg ⟨[.bool a.V6,.int .u64 a.Hi,.int .u64 a.Lo]⟩)],[.code XFL],[],false,none⟩,[],[],0⟩ (fun v H _=>Res 0 (XA1 res) v H):=by
 unfold XmA at h
 have R1:=@Xs1 XaS
 refine Xbg XaJ hS true 3000 ?_
 conv=>whnf
 exact W
def Xfv:XfF:=XmA XaS
theorem XLd:XbA Tryz.prog 126 (s126 Xfv):=by
 have hL:=XBR XaS (Xal.XaV ⟨XsF,trivial⟩)
 exact okA ⟨Tryz.f126,rfl,by decide,rfl⟩
def Xld (Xfv:XfF) (Xid:XhY) (ha0:Xau):Option Bool:=
 (Xid ha0.Class 255).bind fun i=>
 cond (i)
  (
  (Xid ha0.Mark 65535).bind fun i1=>
  cond (i1)
   (
   (Xid ha0.TTL 255).bind fun i2=>
   cond (i2)
    (
    (Xid ha0.Proto 255).bind fun i3=>
    cond (i3)
     (
     (Xfv ha0.Src).bind fun f=>
     cond (f)
      (
      (Xfv ha0.Dst).bind fun f1=>
      cond (f1)
       (
       cond (decide ((ha0.Options.length:Int)≤40))
        (
        some (((ha0.Options.length:Int).tmod 4)==0))
        (
        some (false)))
       (
       some (false)))
      (
      some (false)))
     (
     some (false)))
    (
    some (false)))
   (
   some (false)))
  (
  some (false))
def XCn (x:Bool):Xcu:=⟨.bool x,[],[]⟩
abbrev Xe0:=Xau→Option Bool
def r109 (g:Xe0):Dec:=dV Xg2 fun (y0:Xau)=>Xdm (ofG (g y0) XCn)
theorem XPy {g:Xe0} {y0:Xau} {x:Bool} (hx:g y0=some x):r109 g [.agg ⟨[.int .i64 y0.Class,.int .i64 y0.Mark,.bool y0.Whole,.int .i64 y0.TTL,.int .i64 y0.Proto,.bool y0.Src.V6,.int .u64 y0.Src.Hi,.int .u64 y0.Src.Lo,.bool y0.Dst.V6,.int .u64 y0.Dst.Hi,.int .u64 y0.Dst.Lo,.string ⟨⟨y0.Options⟩⟩]⟩] []=some (XCn x):=(XaY (Xko _)).trans (XaX hx)
def s109 (g:Xe0):Xbs:=⟨[.v],r109 g⟩
theorem XJN {g:Xe0} {y0:Xau} {x:Bool} (hx:g y0=some x):(s109 g).run [.agg ⟨[.int .i64 y0.Class,.int .i64 y0.Mark,.bool y0.Whole,.int .i64 y0.TTL,.int .i64 y0.Proto,.bool y0.Src.V6,.int .u64 y0.Src.Hi,.int .u64 y0.Src.Lo,.bool y0.Dst.V6,.int .u64 y0.Dst.Hi,.int .u64 y0.Dst.Lo,.string ⟨⟨y0.Options⟩⟩]⟩] []=some (XCn x):=XPy hx
abbrev XHt (Xfv:XfF) (Xid:XhY):List (Nat×Xbs):=[(126,s126 Xfv),(125,s125 Xid)]
theorem XCJ (Xfv:XfF) (Xid:XhY) (hS:Xal Tryz.prog (XaE (XHt Xfv Xid))) (ha0:Xau) (res:Bool) (h:Xld Xfv Xid ha0=some res) :
 XaK Tryz.prog 109 0 ⟨⟨109,44,[(0,.agg ⟨[.int .i64 ha0.Class,.int .i64 ha0.Mark,.bool ha0.Whole,.int .i64 ha0.TTL,.int .i64 ha0.Proto,.bool ha0.Src.V6,.int .u64 ha0.Src.Hi,.int .u64 ha0.Src.Lo,.bool ha0.Dst.V6,.int .u64 ha0.Dst.Hi,.int .u64 ha0.Dst.Lo,.string ⟨⟨ha0.Options⟩⟩]⟩)],[.code XEV],[],false,none⟩,[],[],0⟩ (fun v H _=>Res 0 (XCn res) v H):=by
 unfold Xld at h
 have R1:=@XIW Xid
 have R2:=@XJo Xfv
 refine Xbg XaJ hS true 3000 ?_
 conv=>whnf
 exact W
def XeP:Xe0:=Xld Xfv Xid
theorem XHG:XbA Tryz.prog 109 (s109 XeP):=by
 have hL:=XCJ Xfv Xid (Xal.XaV ⟨XLd,XHQ,trivial⟩)
 exact okA ⟨Tryz.f109,rfl,by decide,rfl⟩
def XoA (Xde:XeF) (Xci:XdL) (Xca:XdM) (XeP:Xe0) (XbR:XeM) (ha0:Xau) (payload:List UInt8):Option ((List UInt8)×Int):=
 (XeP ha0).bind fun xr=>
 cond (!xr)
  (
  some (([],1)))
  (
  let t:=wI .i64 (20+(ha0.Options.length:Int))
  let t1:=decide ((payload.length:Int)>(wI .i64 (65535 - t)))
  cond (t1)
   (
   some (([],5)))
   (
   cond (ha0.Whole)
    (
    (XbR (wI .i64 (64+(wI .i64 (t.tdiv 4)))) 1).bind fun n=>
    (XbR ha0.Class 1).bind fun n1=>
    Xa9 (decide (n.length+n1.length<2^63)) <|
    (XbR (wI .i64 (t+(payload.length:Int))) 2).bind fun n2=>
    Xa9 (decide ((n++n1).length+n2.length<2^63)) <|
    (XbR ha0.Mark 2).bind fun n3=>
    Xa9 (decide (((n++n1)++n2).length+n3.length<2^63)) <|
    (XbR 64 1).bind fun n4=>
    Xa9 (decide ((((n++n1)++n2)++n3).length+n4.length<2^63)) <|
    (XbR 0 1).bind fun n5=>
    Xa9 (decide (((((n++n1)++n2)++n3)++n4).length+n5.length<2^63)) <|
    (XbR ha0.TTL 1).bind fun n6=>
    Xa9 (decide ((((((n++n1)++n2)++n3)++n4)++n5).length+n6.length<2^63)) <|
    let t2:=(((((n++n1)++n2)++n3)++n4)++n5)++n6
    (XbR ha0.Proto 1).bind fun n7=>
    Xa9 (decide (t2.length+n7.length<2^63)) <|
    (XbR 0 2).bind fun n8=>
    Xa9 (decide ((t2++n7).length+n8.length<2^63)) <|
    (Xca ha0.Src).bind fun p=>
    Xa9 (decide (((t2++n7)++n8).length+p.length<2^63)) <|
    (Xca ha0.Dst).bind fun p1=>
    Xa9 (decide ((((t2++n7)++n8)++p).length+p1.length<2^63)) <|
    Xa9 (decide (((((t2++n7)++n8)++p)++p1).length+ha0.Options.length<2^63)) <|
    let t3:=((((t2++n7)++n8)++p)++p1)++ha0.Options
    (Xde t3).bind fun xo=>
    (Xci t3 10 2 (wI .u64 xo)).bind fun s=>
    Xa9 (decide (s.length+payload.length<2^63)) <|
    some ((s++payload,0)))
    (
    (XbR (wI .i64 (64+(wI .i64 (t.tdiv 4)))) 1).bind fun n9=>
    (XbR ha0.Class 1).bind fun n10=>
    Xa9 (decide (n9.length+n10.length<2^63)) <|
    (XbR (wI .i64 (t+(payload.length:Int))) 2).bind fun n11=>
    Xa9 (decide ((n9++n10).length+n11.length<2^63)) <|
    (XbR ha0.Mark 2).bind fun n12=>
    Xa9 (decide (((n9++n10)++n11).length+n12.length<2^63)) <|
    (XbR 0 1).bind fun n13=>
    Xa9 (decide ((((n9++n10)++n11)++n12).length+n13.length<2^63)) <|
    (XbR 0 1).bind fun n14=>
    Xa9 (decide (((((n9++n10)++n11)++n12)++n13).length+n14.length<2^63)) <|
    let t4:=((((n9++n10)++n11)++n12)++n13)++n14
    (XbR ha0.TTL 1).bind fun n15=>
    Xa9 (decide (t4.length+n15.length<2^63)) <|
    (XbR ha0.Proto 1).bind fun n16=>
    Xa9 (decide ((t4++n15).length+n16.length<2^63)) <|
    (XbR 0 2).bind fun n17=>
    Xa9 (decide (((t4++n15)++n16).length+n17.length<2^63)) <|
    (Xca ha0.Src).bind fun p2=>
    Xa9 (decide ((((t4++n15)++n16)++n17).length+p2.length<2^63)) <|
    (Xca ha0.Dst).bind fun p3=>
    Xa9 (decide (((((t4++n15)++n16)++n17)++p2).length+p3.length<2^63)) <|
    let t5:=((((t4++n15)++n16)++n17)++p2)++p3
    Xa9 (decide (t5.length+ha0.Options.length<2^63)) <|
    (Xde (t5++ha0.Options)).bind fun xo1=>
    (Xci (t5++ha0.Options) 10 2 (wI .u64 xo1)).bind fun s1=>
    Xa9 (decide (s1.length+payload.length<2^63)) <|
    some ((s1++payload,0)))))
def rx80 (x:(List UInt8)×Int):Xcu:=⟨.tuple ⟨[.string ⟨⟨x.1⟩⟩,.int .i64 x.2]⟩,[],[]⟩
abbrev XgD:=Xau→(List UInt8)→Option ((List UInt8)×Int)
def r80 (g:XgD):Dec:=dV Xg2 fun (y0:Xau)=>dV asS fun (y1:List UInt8)=>Xdm (ofG (g y0 y1) rx80)
theorem r80_c {g:XgD} {y0:Xau} {y1:List UInt8} {x:(List UInt8)×Int} (hx:g y0 y1=some x):r80 g [.agg ⟨[.int .i64 y0.Class,.int .i64 y0.Mark,.bool y0.Whole,.int .i64 y0.TTL,.int .i64 y0.Proto,.bool y0.Src.V6,.int .u64 y0.Src.Hi,.int .u64 y0.Src.Lo,.bool y0.Dst.V6,.int .u64 y0.Dst.Hi,.int .u64 y0.Dst.Lo,.string ⟨⟨y0.Options⟩⟩]⟩,.string ⟨⟨y1⟩⟩] []=some (rx80 x):=(XaY (Xko _)).trans ((XaY (XcY)).trans (XaX hx))
def s80 (g:XgD):Xbs:=⟨[.v,.v],r80 g⟩
theorem XPV {g:XgD} {y0:Xau} {y1:List UInt8} {x:(List UInt8)×Int} (hx:g y0 y1=some x):(s80 g).run [.agg ⟨[.int .i64 y0.Class,.int .i64 y0.Mark,.bool y0.Whole,.int .i64 y0.TTL,.int .i64 y0.Proto,.bool y0.Src.V6,.int .u64 y0.Src.Hi,.int .u64 y0.Src.Lo,.bool y0.Dst.V6,.int .u64 y0.Dst.Hi,.int .u64 y0.Dst.Lo,.string ⟨⟨y0.Options⟩⟩]⟩,.string ⟨⟨y1⟩⟩] []=some (rx80 x):=r80_c hx
abbrev XNj (Xde:XeF) (Xci:XdL) (Xca:XdM) (XeP:Xe0) (XbR:XeM):List (Nat×Xbs):=[(48,s48 Xde),(47,s47 Xci),(104,XMC Xca),(109,s109 XeP),(105,s105 XbR)]
theorem XKf (Xde:XeF) (Xci:XdL) (Xca:XdM) (XeP:Xe0) (XbR:XeM) (hS:Xal Tryz.prog (XaE (XNj Xde Xci Xca XeP XbR))) (ha0:Xau) (payload:List UInt8) (res:(List UInt8)×Int) (h:XoA Xde Xci Xca XeP XbR ha0 payload=some res) :
 XaK Tryz.prog 80 0 ⟨⟨80,74,[(0,.agg ⟨[.int .i64 ha0.Class,.int .i64 ha0.Mark,.bool ha0.Whole,.int .i64 ha0.TTL,.int .i64 ha0.Proto,.bool ha0.Src.V6,.int .u64 ha0.Src.Hi,.int .u64 ha0.Src.Lo,.bool ha0.Dst.V6,.int .u64 ha0.Dst.Hi,.int .u64 ha0.Dst.Lo,.string ⟨⟨ha0.Options⟩⟩]⟩),(1,.string ⟨⟨payload⟩⟩)],[.code XFb],[],false,none⟩,[],[],0⟩ (fun v H _=>Res 0 (rx80 res) v H):=by
 unfold XoA at h
 have R1:=@XJN XeP
 have R2:=@XyQ XbR
 have R3:=@XtA Xca
 have R4:=@Xxz Xde
 have R5:=@XAA Xci
 refine Xbg XaJ hS true 3000 ?_
 conv=>whnf
 exact W
def Xg1:XgD:=XoA Xde Xci Xca XeP XbR
theorem XOh:XbA Tryz.prog 80 (s80 Xg1):=by
 have hL:=XKf Xde Xci Xca XeP XbR (Xal.XaV ⟨Xzu,Xyj,Xt2,XHG,XzF,trivial⟩)
 exact okA ⟨Tryz.f80,rfl,by decide,rfl⟩
end Go.Vm.Code
namespace Go.Vm.Code
open Go Go.Vm
theorem XN3 (n m:Int):Xid n m=some (inR n m):=by
 unfold Xid Xrw inR
 by_cases h:0≤n
 ·rw [Xa2 (by omega)];simp [h]
 ·rw [XaQ (by omega)];simp [h]
def four (a:Xab):Bool:=!a.V6&&aok a
theorem XCk (a:Xab):Xfv a=some (four a):=by
 unfold Xfv XmA four
 rw [Xiu];cases aok a<;>cases a.V6<;>rfl
def H5 (h:Xau):Bool:=inR h.Class 255&&inR h.Mark 65535&&inR h.TTL 255&&inR h.Proto 255&&four h.Src&&four h.Dst&&decide (h.Options.length%4=0)&&decide (h.Options.length≤40)
theorem XzY (h:Xau):XeP h=some (H5 h):=by
 unfold XeP Xld H5
 simp only [XN3,XCk,Option.bind_some,Xzf,XE1]
 cases inR h.Class 255<;>cases inR h.Mark 65535<;>cases inR h.TTL 255<;>cases inR h.Proto 255<;>cases four h.Src<;>cases four h.Dst<;>cases decide (h.Options.length%4=0)<;>cases decide (h.Options.length≤40)<;>rfl
def hd5 (h:Xau) (n:Int):List UInt8:=
 Xd9 (64+((20+h.Options.length)/4:Nat)) 1++Xd9 h.Class 1++Xd9 n 2++Xd9 h.Mark 2++Xd9 (cond h.Whole 64 0) 1++Xd9 0 1++Xd9 h.TTL 1++Xd9 h.Proto 1++Xd9 0 2++XfA h.Src++XfA h.Dst++h.Options
theorem XAi (h:Xau) (n:Int):(hd5 h n).length≤104+h.Options.length:=by
 have a1:=Xbu (64+((20+h.Options.length)/4:Nat)) 1
 have a2:=Xbu h.Class 1
 have a3:=Xbu n 2
 have a4:=Xbu h.Mark 2
 have a5:=Xbu (cond h.Whole 64 0) 1
 have a6:=Xbu 0 1
 have a7:=Xbu h.TTL 1
 have a8:=Xbu h.Proto 1
 have a9:=Xbu 0 2
 have b1:(XfA h.Src).length≤16:=by rw [Xel];cases h.Src.V6<;>decide
 have b2:(XfA h.Dst).length≤16:=by rw [Xel];cases h.Dst.V6<;>decide
 unfold hd5
 simp only [List.length_append];omega
def XQk (h:Xau) (l:List UInt8):List UInt8×Int:=
 if H5 h=false then ([],1) else if 65535 - (20+(h.Options.length:Int))<l.length then ([],5) else
  (XwC (hd5 h (20+h.Options.length+l.length)) 10 2 (65535 - (norm (XcA (hd5 h (20+h.Options.length+l.length))):Nat))++l,0)
theorem Xve (s:List UInt8) (p k n:Int):(XwC s p k n).length≤s.length+8:=by
 unfold XwC
 split
 ·simp;omega
 ·omega
theorem Xs3 {t l:List UInt8} (ht:t.length≤2^20) (hl:l.length<2^30):((Xde t).bind fun xo=>(Xci t 10 2 (wI .u64 xo)).bind fun s=>Xa9 (decide (s.length+l.length<2^63)) (some (s++l,(0:Int))))=some (XwC t 10 2 (65535 - (norm (XcA t):Nat))++l,0):=by
 have:=norm_le (XcA t)
 have hs:=Xve t 10 2 (65535 - (norm (XcA t):Nat))
 rw [XpU (by omega),Option.bind_some,XjF (by omega) (by omega),Xnd (by omega) (by omega) (by omega),Option.bind_some,XaC (by omega)]
theorem XGf {h:Xau} (hh:H5 h=true):(0≤h.Class∧h.Class≤255)∧(0≤h.Mark∧h.Mark≤65535)∧(0≤h.TTL∧h.TTL≤255)∧(0≤h.Proto∧h.Proto≤255)∧(h.Src.V6=false∧aok h.Src=true)∧(h.Dst.V6=false∧aok h.Dst=true)∧h.Options.length%4=0∧h.Options.length≤40:=by
 unfold H5 four at hh
 simp only [Bool.and_eq_true,Xt1,Bool.not_eq_true',decide_eq_true_eq] at hh
 obtain ⟨⟨⟨⟨⟨⟨⟨a,b⟩,c⟩,d⟩,e⟩,f⟩,g⟩,i⟩:=hh
 exact ⟨a,b,c,d,e,f,g,i⟩
theorem XOp {h:Xau} {l:List UInt8} (h1:A4 h.Src) (h2:A4 h.Dst) (hl:l.length<2^20) (ho:h.Options.length<2^20):Xg1 h l=some (XQk h l):=by
 unfold Xg1 XoA XQk
 rw [XzY,Option.bind_some]
 cases hh:H5 h
 ·rfl
 obtain ⟨q1,q2,q3,q4,q5,q6,q7,q8⟩:=XGf hh
 simp only [Bool.not_true,cond_false]
 rw [if_neg (by decide),Xc5 (n:=20+(h.Options.length:Int)) (by omega) (by omega),Xc5 (n:=65535 - (20+(h.Options.length:Int))) (by omega) (by omega)]
 by_cases h5:(l.length:Int)>65535 - (20+(h.Options.length:Int))
 ·rw [Xa2 h5,if_pos (by omega)]
 rw [XaQ h5,if_neg (by omega)]
 have b1:(XfA h.Src).length≤16:=by rw [Xel];cases h.Src.V6<;>decide
 have b2:(XfA h.Dst).length≤16:=by rw [Xel];cases h.Dst.V6<;>decide
 rw [Xc5 (n:=20+(h.Options.length:Int)+l.length) (by omega) (by omega),tdiv4,Xc5 (n:=(((20+h.Options.length)/4:Nat):Int)) (by omega) (by omega),Xc5 (n:=64+(((20+h.Options.length)/4:Nat):Int)) (by omega) (by omega),Xoi h1 q5.2,Xoi h2 q6.2]
 simp only [XC4,Option.bind_some]
 rw [XjF (n:=64+(((20+h.Options.length)/4:Nat):Int)) (by omega) (by omega),XjF q1.1 (by omega),XjF (n:=20+(h.Options.length:Int)+l.length) (by omega) (by omega),XjF q2.1 (by omega),XjF q3.1 (by omega),XjF q4.1 (by omega),show wI .u64 0=0 from rfl,show wI .u64 64=64 from rfl]
 have a1:=Xbu (64+((20+h.Options.length)/4:Nat)) 1
 have a2:=Xbu h.Class 1
 have a3:=Xbu (20+(h.Options.length:Int)+l.length) 2
 have a4:=Xbu h.Mark 2
 have a5:=Xbu 64 1
 have a6:=Xbu 0 1
 have a7:=Xbu h.TTL 1
 have a8:=Xbu h.Proto 1
 have a9:=Xbu 0 2
 have hlen:=XAi h (20+h.Options.length+l.length)
 cases hw:h.Whole
 ·rw [cond_false]
  have e:Xd9 (64+((20+h.Options.length)/4:Nat)) 1++Xd9 h.Class 1++Xd9 (20+(h.Options.length:Int)+l.length) 2++Xd9 h.Mark 2++Xd9 0 1++Xd9 0 1++Xd9 h.TTL 1++Xd9 h.Proto 1++Xd9 0 2++XfA h.Src++XfA h.Dst++h.Options=hd5 h (20+h.Options.length+l.length):=by unfold hd5;rw [hw];rfl
  iterate 11 rw [XaC (by first|omega|(simp only [List.length_append];omega))]
  rw [e]
  exact Xs3 (by omega) (by omega)
 ·rw [cond_true]
  have e:Xd9 (64+((20+h.Options.length)/4:Nat)) 1++Xd9 h.Class 1++Xd9 (20+(h.Options.length:Int)+l.length) 2++Xd9 h.Mark 2++Xd9 64 1++Xd9 0 1++Xd9 h.TTL 1++Xd9 h.Proto 1++Xd9 0 2++XfA h.Src++XfA h.Dst++h.Options=hd5 h (20+h.Options.length+l.length):=by unfold hd5;rw [hw];rfl
  iterate 11 rw [XaC (by first|omega|(simp only [List.length_append];omega))]
  rw [e]
  exact Xs3 (by omega) (by omega)
theorem XOH {a b n m f g t p c x y r:List UInt8} (ha:a.length=1) (hb:b.length=1) (hn:n.length=2) (hm:m.length=2) (hf:f.length=1) (hg:g.length=1) (ht:t.length=1) (hp:p.length=1) (hc:c.length=2) (hx:x.length=4) (hy:y.length=4) :
 let s:=a++b++n++m++f++g++t++p++c++x++y++r
 (s.drop 0).take 1=a∧(s.drop 1).take 1=b∧(s.drop 2).take 2=n∧(s.drop 4).take 2=m∧(s.drop 6).take 2=f++g∧(s.drop 8).take 1=t∧(s.drop 9).take 1=p∧(s.drop 12).take 4=x∧(s.drop 16).take 4=y∧s.drop 20=r∧s.take 10=a++b++n++m++f++g++t++p∧s.drop 12=x++y++r:=by
 obtain ⟨a1,rfl⟩:=l1 ha
 obtain ⟨b1,rfl⟩:=l1 hb
 obtain ⟨n1,n2,rfl⟩:=l2 hn
 obtain ⟨m1,m2,rfl⟩:=l2 hm
 obtain ⟨f1,rfl⟩:=l1 hf
 obtain ⟨g1,rfl⟩:=l1 hg
 obtain ⟨t1,rfl⟩:=l1 ht
 obtain ⟨p1,rfl⟩:=l1 hp
 obtain ⟨c1,c2,rfl⟩:=l2 hc
 obtain ⟨x1,x2,x3,x4,rfl⟩:=l4 hx
 obtain ⟨y1,y2,y3,y4,rfl⟩:=l4 hy
 exact ⟨rfl,rfl,rfl,rfl,rfl,rfl,rfl,rfl,rfl,rfl,rfl,rfl⟩
def hc5 (h:Xau) (n c:Nat):List UInt8:=
 be (64+(20+h.Options.length)/4) 1++be h.Class.toNat 1++be n 2++be h.Mark.toNat 2++be (cond h.Whole 64 0) 1++be 0 1++be h.TTL.toNat 1++be h.Proto.toNat 1++be c 2++be h.Src.Lo.toNat 4++be h.Dst.Lo.toNat 4++h.Options
theorem Xrj (h:Xau) (n c:Nat):(hc5 h n c).length=20+h.Options.length:=by simp [hc5];omega
theorem pu1 (n:Int):Xd9 n 1=be n.toNat 1:=Xfn (k:=1) (by omega)
theorem pu2 (n:Int):Xd9 n 2=be n.toNat 2:=Xfn (k:=2) (by omega)
theorem XNV {h:Xau} {n:Nat} (h1:h.Src.V6=false) (h2:h.Dst.V6=false):hd5 h (n:Int)=hc5 h n 0:=by
 have e:(64+((20+h.Options.length)/4:Nat):Int).toNat=64+(20+h.Options.length)/4:=by omega
 have ew:(cond h.Whole 64 0:Int).toNat=cond h.Whole 64 0:=by cases h.Whole<;>rfl
 unfold hd5 hc5 XfA
 rw [h1,h2]
 simp only [pu1,pu2,cond_false,Int.toNat_natCast,e,ew]
 rfl
theorem XoP (h:Xau) (n c:Nat) (r:List UInt8):let s:=hc5 h n c++r
 (s.drop 0).take 1=be (64+(20+h.Options.length)/4) 1∧(s.drop 1).take 1=be h.Class.toNat 1∧(s.drop 2).take 2=be n 2∧(s.drop 4).take 2=be h.Mark.toNat 2∧(s.drop 6).take 2=be (cond h.Whole 64 0) 1++be 0 1∧(s.drop 8).take 1=be h.TTL.toNat 1∧(s.drop 9).take 1=be h.Proto.toNat 1∧(s.drop 12).take 4=be h.Src.Lo.toNat 4∧(s.drop 16).take 4=be h.Dst.Lo.toNat 4∧s.drop 20=h.Options++r∧s.take 10=be (64+(20+h.Options.length)/4) 1++be h.Class.toNat 1++be n 2++be h.Mark.toNat 2++be (cond h.Whole 64 0) 1++be 0 1++be h.TTL.toNat 1++be h.Proto.toNat 1∧s.drop 12=be h.Src.Lo.toNat 4++be h.Dst.Lo.toNat 4++(h.Options++r):=by
 have e:hc5 h n c++r=be (64+(20+h.Options.length)/4) 1++be h.Class.toNat 1++be n 2++be h.Mark.toNat 2++be (cond h.Whole 64 0) 1++be 0 1++be h.TTL.toNat 1++be h.Proto.toNat 1++be c 2++be h.Src.Lo.toNat 4++be h.Dst.Lo.toNat 4++(h.Options++r):=by simp only [hc5,List.append_assoc]
 rw [e]
 exact XOH (Xdr _ _) (Xdr _ _) (Xdr _ _) (Xdr _ _) (Xdr _ _) (Xdr _ _) (Xdr _ _) (Xdr _ _) (Xdr _ _) (Xdr _ _) (Xdr _ _)
theorem XNg {h:Xau} {n:Nat} {c:Int}:XwC (hc5 h n 0) 10 2 c=hc5 h n c.toNat:=by
 obtain ⟨_,_,_,_,_,_,_,_,_,_,q11,q12⟩:=XoP h n 0 []
 simp only [List.append_nil] at q11 q12
 unfold XwC
 rw [if_pos (by rw [Xrj];omega),show (10:Int).toNat=10 from rfl,show ((10:Int)+2).toNat=12 from rfl,q11,q12]
 unfold hc5
 simp only [List.append_assoc];rfl
theorem XIG {h:Xau} {n c:Nat} (hc:c<65536):XcA (hc5 h n c)=XcA (hc5 h n 0)+c:=by
 have e:∀ x,hc5 h n x=(be (64+(20+h.Options.length)/4) 1++be h.Class.toNat 1++be n 2++be h.Mark.toNat 2++be (cond h.Whole 64 0) 1++be 0 1++be h.TTL.toNat 1++be h.Proto.toNat 1)++(be x 2++(be h.Src.Lo.toNat 4++be h.Dst.Lo.toNat 4++h.Options)):=fun x=>by simp only [hc5,List.append_assoc]
 have hA:(be (64+(20+h.Options.length)/4) 1++be h.Class.toNat 1++be n 2++be h.Mark.toNat 2++be (cond h.Whole 64 0) 1++be 0 1++be h.TTL.toNat 1++be h.Proto.toNat 1).length%2=0:=by simp
 rw [e c,e 0]
 generalize be (64+(20+h.Options.length)/4) 1++be h.Class.toNat 1++be n 2++be h.Mark.toNat 2++be (cond h.Whole 64 0) 1++be 0 1++be h.TTL.toNat 1++be h.Proto.toNat 1=A at hA
 rw [XcJ _ _ hA,XcJ _ _ hA,XcJ (be c 2) _ (by simp),XcJ (be 0 2) _ (by simp),XhS hc,XhS (by omega)];omega
theorem wflag (b:Bool):be (cond b 64 0) 1++be 0 1=be (cond b 16384 0) 2:=by cases b<;>rfl
def ck5 (h:Xau) (n:Nat):Nat:=65535 - norm (XcA (hc5 h n 0))
theorem XQK (h:Xau) (n:Nat):ck5 h n≤65535∧XcA (hc5 h n (ck5 h n))%65535=0∧XcA (hc5 h n (ck5 h n))≠0:=by
 have n1:=norm_le (XcA (hc5 h n 0))
 have n2:=XhO (XcA (hc5 h n 0))
 have n3:=Xiy (XcA (hc5 h n 0))
 have hk:ck5 h n<65536:=by unfold ck5;omega
 rw [XIG hk]
 unfold ck5;omega
end Go.Vm.Code
namespace Go.Vm.Code
open Go Go.Vm Go.Proofs
set_option maxRecDepth 100000
set_option maxHeartbeats 4000000
set_option linter.unusedVariables false
def XqX (n:Int) (most:Int):Option Bool:=
 cond (decide (n≥0))
  (
  some (decide (n≤most)))
  (
  some (false))
def XDR (x:Bool):Xcu:=⟨.bool x,[],[]⟩
abbrev XhV:=Int→Int→Option Bool
def r124 (g:XhV):Dec:=dV (asI .i64) fun (y0:Int)=>dV (asI .i64) fun (y1:Int)=>Xdm (ofG (g y0 y1) XDR)
theorem XQv {g:XhV} {y0:Int} {y1:Int} {x:Bool} (hx:g y0 y1=some x):r124 g [.int .i64 y0,.int .i64 y1] []=some (XDR x):=(XaY (Xc2 _)).trans ((XaY (Xc2 _)).trans (XaX hx))
def s124 (g:XhV):Xbs:=⟨[.v,.v],r124 g⟩
theorem XHj {g:XhV} {y0:Int} {y1:Int} {x:Bool} (hx:g y0 y1=some x):(s124 g).run [.int .i64 y0,.int .i64 y1] []=some (XDR x):=XQv hx
abbrev XKJ:List (Nat×Xbs):=[]
theorem XC0 (hS:Xal Tryz.prog (XaE (XKJ))) (n:Int) (most:Int) (res:Bool) (h:XqX n most=some res) :
 XaK Tryz.prog 124 0 ⟨⟨124,12,[(0,.int .i64 n),(1,.int .i64 most)],[.code XFd],[],false,none⟩,[],[],0⟩ (fun v H _=>Res 0 (XDR res) v H):=by
 unfold XqX at h
 refine Xbg XaJ hS true 3000 ?_
 conv=>whnf
 exact W
def Xie:XhV:=XqX
theorem XJ6:XbA Tryz.prog 124 (s124 Xie):=by
 have hL:=XC0 (Xal.XaV trivial)
 exact okA ⟨Tryz.f124,rfl,by decide,rfl⟩
def XkV (Xie:XhV) (ha0:XaL):Option Bool:=
 (Xie ha0.Class 255).bind fun i=>
 cond (i)
  (
  (Xie ha0.Label 1048575).bind fun i1=>
  cond (i1)
   (
   (Xie ha0.Next 255).bind fun i2=>
   cond (i2)
    (
    (Xie ha0.Hop 255).bind fun i3=>
    cond (i3)
     (
     cond (ha0.Src.V6)
      (
      some (ha0.Dst.V6))
      (
      some (false)))
     (
     some (false)))
    (
    some (false)))
   (
   some (false)))
  (
  some (false))
def XDH (x:Bool):Xcu:=⟨.bool x,[],[]⟩
abbrev Xe8:=XaL→Option Bool
def r107 (g:Xe8):Dec:=dV Xh6 fun (y0:XaL)=>Xdm (ofG (g y0) XDH)
theorem XP3 {g:Xe8} {y0:XaL} {x:Bool} (hx:g y0=some x):r107 g [.agg ⟨[.int .i64 y0.Class,.int .i64 y0.Label,.int .i64 y0.Next,.int .i64 y0.Hop,.bool y0.Src.V6,.int .u64 y0.Src.Hi,.int .u64 y0.Src.Lo,.bool y0.Dst.V6,.int .u64 y0.Dst.Hi,.int .u64 y0.Dst.Lo]⟩] []=some (XDH x):=(XaY (Xlp _)).trans (XaX hx)
def s107 (g:Xe8):Xbs:=⟨[.v],r107 g⟩
theorem XKy {g:Xe8} {y0:XaL} {x:Bool} (hx:g y0=some x):(s107 g).run [.agg ⟨[.int .i64 y0.Class,.int .i64 y0.Label,.int .i64 y0.Next,.int .i64 y0.Hop,.bool y0.Src.V6,.int .u64 y0.Src.Hi,.int .u64 y0.Src.Lo,.bool y0.Dst.V6,.int .u64 y0.Dst.Hi,.int .u64 y0.Dst.Lo]⟩] []=some (XDH x):=XP3 hx
abbrev XKS (Xie:XhV):List (Nat×Xbs):=[(124,s124 Xie)]
theorem XDx (Xie:XhV) (hS:Xal Tryz.prog (XaE (XKS Xie))) (ha0:XaL) (res:Bool) (h:XkV Xie ha0=some res) :
 XaK Tryz.prog 107 0 ⟨⟨107,31,[(0,.agg ⟨[.int .i64 ha0.Class,.int .i64 ha0.Label,.int .i64 ha0.Next,.int .i64 ha0.Hop,.bool ha0.Src.V6,.int .u64 ha0.Src.Hi,.int .u64 ha0.Src.Lo,.bool ha0.Dst.V6,.int .u64 ha0.Dst.Hi,.int .u64 ha0.Dst.Lo]⟩)],[.code XES],[],false,none⟩,[],[],0⟩ (fun v H _=>Res 0 (XDH res) v H):=by
 unfold XkV at h
 have R1:=@XHj Xie
 refine Xbg XaJ hS true 3000 ?_
 conv=>whnf
 exact W
def XeN:Xe8:=XkV Xie
theorem XHz:XbA Tryz.prog 107 (s107 XeN):=by
 have hL:=XDx Xie (Xal.XaV ⟨XJ6,trivial⟩)
 exact okA ⟨Tryz.f107,rfl,by decide,rfl⟩
def Xob (XaW:Xcc) (n:Int) (k:Int):Option (List UInt8):=
 (XaW (wI .u64 n) k).bind fun p=>
 some (p)
def XEA (x:List UInt8):Xcu:=⟨.string ⟨⟨x⟩⟩,[],[]⟩
abbrev XgE:=Int→Int→Option (List UInt8)
def r108 (g:XgE):Dec:=dV (asI .i64) fun (y0:Int)=>dV (asI .i64) fun (y1:Int)=>Xdm (ofG (g y0 y1) XEA)
theorem XRh {g:XgE} {y0:Int} {y1:Int} {x:List UInt8} (hx:g y0 y1=some x):r108 g [.int .i64 y0,.int .i64 y1] []=some (XEA x):=(XaY (Xc2 _)).trans ((XaY (Xc2 _)).trans (XaX hx))
def s108 (g:XgE):Xbs:=⟨[.v,.v],r108 g⟩
theorem XHm {g:XgE} {y0:Int} {y1:Int} {x:List UInt8} (hx:g y0 y1=some x):(s108 g).run [.int .i64 y0,.int .i64 y1] []=some (XEA x):=XRh hx
abbrev XLx (XaW:Xcc):List (Nat×Xbs):=[(46,s46 XaW)]
theorem XBT (XaW:Xcc) (hS:Xal Tryz.prog (XaE (XLx XaW))) (n:Int) (k:Int) (res:List UInt8) (h:Xob XaW n k=some res) :
 XaK Tryz.prog 108 0 ⟨⟨108,9,[(0,.int .i64 n),(1,.int .i64 k)],[.code XGe],[],false,none⟩,[],[],0⟩ (fun v H _=>Res 0 (XEA res) v H):=by
 unfold Xob at h
 have R1:=@XqR XaW
 refine Xbg XaJ hS true 3000 ?_
 conv=>whnf
 exact W
def Xf1:XgE:=Xob XaW
theorem XKh:XbA Tryz.prog 108 (s108 Xf1):=by
 have hL:=XBT XaW (Xal.XaV ⟨XqD,trivial⟩)
 exact okA ⟨Tryz.f108,rfl,by decide,rfl⟩
def Xom (Xca:XdM) (XeN:Xe8) (Xf1:XgE) (ha0:XaL) (payload:List UInt8):Option ((List UInt8)×Int):=
 (XeN ha0).bind fun xr=>
 cond (!xr)
  (
  some (([],1)))
  (
  cond (decide ((payload.length:Int)>65535))
   (
   some (([],5)))
   (
   let t:=wI .i64 (1610612736+(wI .i64 (ha0.Class*1048576)))
   (Xf1 (wI .i64 (t+ha0.Label)) 4).bind fun n=>
   (Xf1 (payload.length:Int) 2).bind fun n1=>
   Xa9 (decide (n.length+n1.length<2^63)) <|
   (Xf1 ha0.Next 1).bind fun n2=>
   Xa9 (decide ((n++n1).length+n2.length<2^63)) <|
   (Xf1 ha0.Hop 1).bind fun n3=>
   Xa9 (decide (((n++n1)++n2).length+n3.length<2^63)) <|
   (Xca ha0.Src).bind fun p=>
   Xa9 (decide ((((n++n1)++n2)++n3).length+p.length<2^63)) <|
   (Xca ha0.Dst).bind fun p1=>
   Xa9 (decide (((((n++n1)++n2)++n3)++p).length+p1.length<2^63)) <|
   Xa9 (decide ((((((n++n1)++n2)++n3)++p)++p1).length+payload.length<2^63)) <|
   let t1:=(((((n++n1)++n2)++n3)++p)++p1)++payload
   some ((t1,0))))
def rx79 (x:(List UInt8)×Int):Xcu:=⟨.tuple ⟨[.string ⟨⟨x.1⟩⟩,.int .i64 x.2]⟩,[],[]⟩
abbrev Xgm:=XaL→(List UInt8)→Option ((List UInt8)×Int)
def r79 (g:Xgm):Dec:=dV Xh6 fun (y0:XaL)=>dV asS fun (y1:List UInt8)=>Xdm (ofG (g y0 y1) rx79)
theorem r79_c {g:Xgm} {y0:XaL} {y1:List UInt8} {x:(List UInt8)×Int} (hx:g y0 y1=some x):r79 g [.agg ⟨[.int .i64 y0.Class,.int .i64 y0.Label,.int .i64 y0.Next,.int .i64 y0.Hop,.bool y0.Src.V6,.int .u64 y0.Src.Hi,.int .u64 y0.Src.Lo,.bool y0.Dst.V6,.int .u64 y0.Dst.Hi,.int .u64 y0.Dst.Lo]⟩,.string ⟨⟨y1⟩⟩] []=some (rx79 x):=(XaY (Xlp _)).trans ((XaY (XcY)).trans (XaX hx))
def s79 (g:Xgm):Xbs:=⟨[.v,.v],r79 g⟩
theorem XMQ {g:Xgm} {y0:XaL} {y1:List UInt8} {x:(List UInt8)×Int} (hx:g y0 y1=some x):(s79 g).run [.agg ⟨[.int .i64 y0.Class,.int .i64 y0.Label,.int .i64 y0.Next,.int .i64 y0.Hop,.bool y0.Src.V6,.int .u64 y0.Src.Hi,.int .u64 y0.Src.Lo,.bool y0.Dst.V6,.int .u64 y0.Dst.Hi,.int .u64 y0.Dst.Lo]⟩,.string ⟨⟨y1⟩⟩] []=some (rx79 x):=r79_c hx
abbrev XRs (Xca:XdM) (XeN:Xe8) (Xf1:XgE):List (Nat×Xbs):=[(104,XMC Xca),(107,s107 XeN),(108,s108 Xf1)]
theorem XKo (Xca:XdM) (XeN:Xe8) (Xf1:XgE) (hS:Xal Tryz.prog (XaE (XRs Xca XeN Xf1))) (ha0:XaL) (payload:List UInt8) (res:(List UInt8)×Int) (h:Xom Xca XeN Xf1 ha0 payload=some res) :
 XaK Tryz.prog 79 0 ⟨⟨79,42,[(0,.agg ⟨[.int .i64 ha0.Class,.int .i64 ha0.Label,.int .i64 ha0.Next,.int .i64 ha0.Hop,.bool ha0.Src.V6,.int .u64 ha0.Src.Hi,.int .u64 ha0.Src.Lo,.bool ha0.Dst.V6,.int .u64 ha0.Dst.Hi,.int .u64 ha0.Dst.Lo]⟩),(1,.string ⟨⟨payload⟩⟩)],[.code XEF],[],false,none⟩,[],[],0⟩ (fun v H _=>Res 0 (rx79 res) v H):=by
 unfold Xom at h
 have R1:=@XKy XeN
 have R2:=@XHm Xf1
 have R3:=@XtA Xca
 refine Xbg XaJ hS true 3000 ?_
 conv=>whnf
 exact W
def Xg3:Xgm:=Xom Xca XeN Xf1
theorem XPX:XbA Tryz.prog 79 (s79 Xg3):=by
 have hL:=XKo Xca XeN Xf1 (Xal.XaV ⟨Xt2,XHz,XKh,trivial⟩)
 exact okA ⟨Tryz.f79,rfl,by decide,rfl⟩
end Go.Vm.Code
namespace Go.Vm.Code
open Go Go.Vm
def XnX (a:Xab):Prop:=(0≤a.Hi∧a.Hi<2^64)∧0≤a.Lo∧a.Lo<2^64
def XjT (a:Xab):List UInt8:=be a.Hi.toNat 8++be a.Lo.toNat 8
theorem Xvz {a:Xab} (h:XnX a) (h6:a.V6=true):Xca a=some (XjT a):=by
 unfold Xca XmR XaS Xjl
 rw [h6]
 simp only [cond_true,Option.bind_some,Bool.not_true,cond_false]
 rw [Xem h.1.1 h.1.2,Xem h.2.1 h.2.2]
 simp only [Option.bind_some,Xd9]
 rw [if_pos (by omega),if_pos (by omega),XaC (by simp)];rfl
def Xse (s:List UInt8):Xab:=⟨true,(XdH (s.take 8):Nat),(XdH (s.drop 8):Nat)⟩
def H6 (h:XaL):Prop:=(0≤h.Class∧h.Class≤255)∧(0≤h.Label∧h.Label≤1048575)∧(0≤h.Next∧h.Next≤255)∧(0≤h.Hop∧h.Hop≤255)∧h.Src.V6=true∧h.Dst.V6=true
instance (h:XaL):Decidable (H6 h):=inferInstanceAs (Decidable (_∧_))
theorem XSe (n m:Int):Xie n m=some (decide (0≤n∧n≤m)):=by
 unfold Xie XqX
 by_cases h:n≥0
 ·rw [Xa2 h];congr 1;rw [Bool.eq_iff_iff,decide_eq_true_eq,decide_eq_true_eq];omega
 ·rw [XaQ h];congr 1;symm;exact decide_eq_false (by omega)
theorem Xx9 (h:XaL):XeN h=some (decide (H6 h)):=by
 unfold XeN XkV
 simp only [XSe,Option.bind_some,Xu3]
 by_cases hh:H6 h
 ·rw [decide_eq_true hh]
  obtain ⟨a,b,c,d,e,f⟩:=hh
  rw [if_pos a,if_pos b,if_pos c,if_pos d,e,f];rfl
 ·rw [decide_eq_false hh]
  unfold H6 at hh
  repeat' split
  all_goals first|rfl|skip
  cases e:h.Src.V6
  ·rfl
  ·rw [cond_true]
   cases f:h.Dst.V6
   ·rfl
   ·exact absurd ⟨by assumption,by assumption,by assumption,by assumption,e,f⟩ hh
def headB (h:XaL) (n:Nat):List UInt8:=be (6*2^28+h.Class.toNat*2^20+h.Label.toNat) 4++be n 2++be h.Next.toNat 1++be h.Hop.toNat 1++XjT h.Src++XjT h.Dst
theorem Xmv (h:XaL) (n:Nat):(headB h n).length=40:=by simp [headB,XjT]
def XQ5 (h:XaL) (p:List UInt8):List UInt8×Int:=if ¬ H6 h then ([],1) else if p.length>65535 then ([],5) else (headB h p.length++p,0)
theorem num6 {n k:Int} (h0:0≤n) (h1:n<2^64):Xf1 n k=some (Xd9 n k):=by
 unfold Xf1 Xob
 rw [XjF h0 (by omega),Xem h0 h1];rfl
theorem XEr {h:XaL} {p:List UInt8} (hs:XnX h.Src) (hd:XnX h.Dst) (hp:p.length<2^60):Xg3 h p=some (XQ5 h p):=by
 unfold Xg3 Xom XQ5
 rw [Xx9,Option.bind_some]
 by_cases hh:H6 h
 ·rw [decide_eq_true hh,Bool.not_true,cond_false,if_neg (by simpa using hh)]
  obtain ⟨a,b,c,d,e,f⟩:=hh
  by_cases h5:(p.length:Int)>65535
  ·rw [Xa2 h5,if_pos (by omega)]
  rw [XaQ h5,if_neg (by omega)]
  simp only []
  obtain ⟨C,hC⟩:=Int.eq_ofNat_of_zero_le a.1
  obtain ⟨L,hL⟩:=Int.eq_ofNat_of_zero_le b.1
  rw [hC] at a;rw [hL] at b
  have e1:wI .i64 (wI .i64 (1610612736+(wI .i64 (h.Class*1048576)))+h.Label)=((6*2^28+C*2^20+L:Nat):Int):=by
   rw [hC,hL,Xc5 (n:=(C:Int)*1048576) (by omega) (by omega),Xc5 (n:=1610612736+(C:Int)*1048576) (by omega) (by omega),Xc5 (by omega) (by omega)];omega
  rw [e1,Xvz hs e,Xvz hd f,num6 (by omega) (by omega),num6 (by omega) (by omega),num6 c.1 (by omega),num6 d.1 (by omega)]
  simp only [Option.bind_some,Xd9]
  rw [if_pos (by omega),if_pos (by omega),if_pos (by omega),if_pos (by omega)]
  simp only [Int.toNat_natCast,show (4:Int).toNat=4 from rfl,show (2:Int).toNat=2 from rfl,show (1:Int).toNat=1 from rfl]
  rw [XaC (by simp),XaC (by simp),XaC (by simp),XaC (by simp [XjT]),XaC (by simp [XjT]),XaC (by simp [XjT];omega)]
  simp [headB,hC,hL]
 ·rw [decide_eq_false hh,Bool.not_false,cond_true,if_pos hh]
theorem Xo8 {a:Xab} (h:XnX a) (h6:a.V6=true):Xse (XjT a)=a:=by
 obtain ⟨v,hi,lo⟩:=a
 simp only [XnX] at h h6
 subst h6
 unfold Xse XjT
 have e1:(be hi.toNat 8++be lo.toNat 8).take 8=be hi.toNat 8:=by rw [List.take_append_of_le_length (by simp),List.take_of_length_le (by simp)]
 have e2:(be hi.toNat 8++be lo.toNat 8).drop 8=be lo.toNat 8:=by rw [List.drop_append_of_le_length (by simp),List.drop_of_length_le (by simp)];rfl
 rw [e1,e2,Xew (by have:=h.1;omega),Xew (by have:=h.2;omega),Int.toNat_of_nonneg h.1.1,Int.toNat_of_nonneg h.2.1]
theorem XFg {a b c d e f r:List UInt8} (ha:a.length=4) (hb:b.length=2) (hc:c.length=1) (hd:d.length=1) (he:e.length=16) (hf:f.length=16) :
 let s:=a++b++c++d++e++f++r
 s.take 4=a∧(s.drop 4).take 2=b∧(s.drop 6).take 1=c∧(s.drop 7).take 1=d∧(s.drop 8).take 16=e∧(s.drop 24).take 16=f∧s.drop 40=r:=by
 have d4:∀ x:List UInt8,(a++x).drop 4=x:=fun x=>by rw [←ha];exact List.drop_left
 have d2:∀ x:List UInt8,(b++x).drop 2=x:=fun x=>by rw [←hb];exact List.drop_left
 have dc:∀ x:List UInt8,(c++x).drop 1=x:=fun x=>by rw [←hc];exact List.drop_left
 have dd:∀ x:List UInt8,(d++x).drop 1=x:=fun x=>by rw [←hd];exact List.drop_left
 have de:∀ x:List UInt8,(e++x).drop 16=x:=fun x=>by rw [←he];exact List.drop_left
 have df:∀ x:List UInt8,(f++x).drop 16=x:=fun x=>by rw [←hf];exact List.drop_left
 simp only [List.append_assoc]
 have e6:(a++(b++(c++(d++(e++(f++r)))))).drop 6=c++(d++(e++(f++r))):=by
  rw [show 6=4+2 from rfl,←List.drop_drop,d4,d2]
 have e7:(a++(b++(c++(d++(e++(f++r)))))).drop 7=d++(e++(f++r)):=by
  rw [show 7=6+1 from rfl,←List.drop_drop,e6,dc]
 have e8:(a++(b++(c++(d++(e++(f++r)))))).drop 8=e++(f++r):=by
  rw [show 8=7+1 from rfl,←List.drop_drop,e7,dd]
 have e24:(a++(b++(c++(d++(e++(f++r)))))).drop 24=f++r:=by
  rw [show 24=8+16 from rfl,←List.drop_drop,e8,de]
 have e40:(a++(b++(c++(d++(e++(f++r)))))).drop 40=r:=by
  rw [show 40=24+16 from rfl,←List.drop_drop,e24,df]
 refine ⟨by rw [←ha];exact List.take_left,?_,?_,?_,?_,?_,e40⟩
 ·rw [d4,←hb];exact List.take_left
 ·rw [e6,←hc];exact List.take_left
 ·rw [e7,←hd];exact List.take_left
 ·rw [e8,←he];exact List.take_left
 ·rw [e24,←hf];exact List.take_left
end Go.Vm.Code
namespace Go.Vm.Code
open Go Go.Vm Go.Proofs
set_option maxRecDepth 100000
set_option maxHeartbeats 4000000
set_option linter.unusedVariables false
def Xhk (text:List UInt8) (i:Int) (c:List XcC):Option (Sum (Int×(List XcC)) ((List XcC)×Int)):=
 cond (decide (i<(text.length:Int)))
  (
  Xa9 (decide (0≤i)) <|
  (text[i.toNat]?).bind fun (b:UInt8)=>
  cond ((b.toNat:Int)==0)
   (
   some (.inr ((c,0))))
   (
   cond ((b.toNat:Int)==1)
    (
    some (.inl (wI .i64 (i+1),c)))
    (
    let t:=decide ((wI .i64 (i+1))<(text.length:Int))
    cond (t)
     (
     Xa9 (decide (0≤(wI .i64 (i+1)))) <|
     (text[(wI .i64 (i+1)).toNat]?).bind fun (b1:UInt8)=>
     cond (decide ((wI .i64 (b1.toNat:Int))<2))
      (
      some (.inr (([],3))))
      (
      let t1:=decide ((wI .i64 (b1.toNat:Int))>(wI .i64 ((text.length:Int) - i)))
      cond (t1)
       (
       some (.inr (([],3))))
       (
       Xa9 (decide (0≤i)) <|
       (text[i.toNat]?).bind fun (b2:UInt8)=>
       Xa9 (decide ((0:Int)≤(wI .i64 (i+(wI .i64 (b1.toNat:Int))))∧(wI .i64 (i+(wI .i64 (b1.toNat:Int))))≤(text.length:Int)∧(0:Int)≤(wI .i64 (i+2))∧(wI .i64 (i+2))≤((wI .i64 (i+(wI .i64 (b1.toNat:Int)))).toNat:Int))) <|
       let t2:=(text.drop (wI .i64 (i+2)).toNat).take ((wI .i64 (i+(wI .i64 (b1.toNat:Int)))).toNat - (wI .i64 (i+2)).toNat)
       cond (decide ((wI .i64 (i+2))<0))
        (
        some (.inr (([],3))))
        (
        Xa9 (decide ((c.length+1)*24≤2^47)) <|
        let row:=c++[XcC.mk (wI .i64 (b2.toNat:Int)) t2]
        some (.inl (wI .i64 (i+(wI .i64 (b1.toNat:Int))),row))))))
     (
     some (.inr (([],3)))))))
  (
  some (.inr ((c,0))))
def XmB (text:List UInt8):Option ((List XcC)×Int):=
 iter (fun st=>Xhk text st.1 st.2) FUEL (0,[])
def Xuk (x:(List XcC)×Int):Xcu:=⟨.tuple ⟨[.slice (some ⟨0,0,none⟩) x.1.length 2,.int .i64 x.2]⟩,[(vT Xgb x.1)],[]⟩
abbrev XdP:=(List UInt8)→Option ((List XcC)×Int)
def r119 (g:XdP):Dec:=dV asS fun (y0:List UInt8)=>Xdm (ofG (g y0) Xuk)
theorem XPL {g:XdP} {y0:List UInt8} {x:(List XcC)×Int} (hx:g y0=some x):r119 g [.string ⟨⟨y0⟩⟩] []=some (Xuk x):=(XaY (XcY)).trans (XaX hx)
def s119 (g:XdP):Xbs:=⟨[.v],r119 g⟩
theorem Xzm {g:XdP} {y0:List UInt8} {x:(List XcC)×Int} (hx:g y0=some x):(s119 g).run [.string ⟨⟨y0⟩⟩] []=some (Xuk x):=XPL hx
abbrev Xyz:List (Nat×Xbs):=[]
def Xje (text:List UInt8) (i:Int) (c:List XcC):VM:=
 ⟨⟨133,62,[(0,.func (.yield 5) #[] #[]),(1,.pointer (some ⟨3,0,none⟩)),(3,.int .i64 i)],[.code Xpz,.inLoop Xpz,.inBlock 0],[],false,none⟩,[⟨119,18,[(2,.pointer (some ⟨0,0,none⟩)),(3,.pointer (some ⟨1,0,none⟩)),(4,.pointer (some ⟨2,0,none⟩))],[.inRangeFunc 5,.inBlock 0,.code XAh],[4],false,none⟩],[(0,.cells [.slice none 0 0]),(1,.cells [.int .i64 0]),(2,.cells [.slice (some ⟨6,0,none⟩) c.length 2]),(3,.cells [.string ⟨⟨text⟩⟩]),(4,.marks),(5,.loop ⟨.ready,none,119,18,[(2,.pointer (some ⟨0,0,none⟩)),(3,.pointer (some ⟨1,0,none⟩)),(4,.pointer (some ⟨2,0,none⟩))],[8],XFH,Xy5,4⟩),(6,.row true (vT Xgb c))],7⟩
theorem XAC (hS:Xal Tryz.prog (XaE (Xyz))) (text:List UInt8) (res:(List XcC)×Int):∀ fuel (st:Int×(List XcC)) (o:(List XcC)×Int),iter (fun st=>Xhk text st.1 st.2) fuel st=some o→(o=res) →
 XaK Tryz.prog 119 0 (Xje text st.1 st.2) (fun v H t=>∃ v' H' t',XwT v H t v' H' t'∧Res 0 (Xuk res) v' H'):=by
 intro fuel st o h hc
 refine XcZ (head:=fun st=>Xje text st.1 st.2) (C:=fun o=>(o=res)) ?_ fuel st o h hc
 clear h hc o st fuel
 intro st o h hc
 obtain ⟨i,c⟩:=st
 replace h:Xhk text i c=some o:=h
 show XaK Tryz.prog 119 0 (Xje text i c) (fun v H t=>∃ v' H' t',XwT v H t v' H' t'∧Res 0 (Xuk res) v' H')
 unfold Xhk at h
 refine Xbg XaJ hS true 3000 ?_
 conv=>whnf
 refine br.h2 h (by rfl) ?_ ?_
 ·clear h;intro hb h;conv=>whnf
  all_goals (cases h;cases hc)
  all_goals exact ⟨_,_,_,(.refl _ _ _),Res.of [6] rfl (XwZ (Xlw XbN) (Xjk rfl) XwB) (by decide) (XwX (by decide) Xwe) XwK⟩
 clear h;intro hb h;conv=>whnf
 replace h:=Xa9.elim h;obtain ⟨hb,h⟩:=h
 try (refine req.intro hb ?_;conv=>whnf)
 replace h:=Xdv.elim h;obtain ⟨b,hy,h⟩:=h
 refine rdS.intro hy ?_
 conv=>whnf
 refine br.h h (by rfl) ?_ ?_
 ·clear h;intro hb h;conv=>whnf
  all_goals (cases h;cases hc)
  all_goals exact ⟨_,_,_,(.refl _ _ _),Res.of [6] rfl (XwZ (Xlw XbN) (Xjk rfl) XwB) (by decide) (XwX (by decide) Xwe) XwK⟩
 clear h;intro hb h;conv=>whnf
 refine br.h h (by rfl) ?_ ?_
 ·clear h;intro hb h;conv=>whnf
  cases h;simp only [Sum.elim_inl,Xje] at hc
  exact XwY hc [(0,0),(1,1),(2,2),(3,3),(4,4),(5,5),(6,6)] rfl
 clear h;intro hb h;conv=>whnf
 let t:Bool:=decide ((wI .i64 (i+1))<(text.length:Int))
 refine br.h2 h (by rfl) ?_ ?_
 ·clear h;intro hb h;conv=>whnf
  all_goals (cases h;cases hc)
  all_goals exact ⟨_,_,_,(.val (.tup (.cons (.nil _ _) (.cons (.same _) .nil))) (.refl _ _ _)),Res.of [8] rfl (XwZ (Xlw XbN) (Xjk rfl) XwB) (by decide) (XwX (by decide) Xwe) XwK⟩
 clear h;intro hb h;conv=>whnf
 replace h:=Xa9.elim h;obtain ⟨hb,h⟩:=h
 try (refine req.intro hb ?_;conv=>whnf)
 replace h:=Xdv.elim h;obtain ⟨b1,hy,h⟩:=h
 refine rdS.intro hy ?_
 conv=>whnf
 refine br.h h (by rfl) ?_ ?_
 ·clear h;intro hb h;conv=>whnf
  all_goals (cases h;cases hc)
  all_goals exact ⟨_,_,_,(.val (.tup (.cons (.nil _ _) (.cons (.same _) .nil))) (.refl _ _ _)),Res.of [8] rfl (XwZ (Xlw XbN) (Xjk rfl) XwB) (by decide) (XwX (by decide) Xwe) XwK⟩
 clear h;intro hb h;conv=>whnf
 let t1:Bool:=decide ((wI .i64 (b1.toNat:Int))>(wI .i64 ((text.length:Int) - i)))
 refine br.h h (by rfl) ?_ ?_
 ·clear h;intro hb h;conv=>whnf
  all_goals (cases h;cases hc)
  all_goals exact ⟨_,_,_,(.val (.tup (.cons (.nil _ _) (.cons (.same _) .nil))) (.refl _ _ _)),Res.of [8] rfl (XwZ (Xlw XbN) (Xjk rfl) XwB) (by decide) (XwX (by decide) Xwe) XwK⟩
 clear h;intro hb h;conv=>whnf
 replace h:=Xa9.elim h;obtain ⟨hb,h⟩:=h
 try (refine req.intro hb ?_;conv=>whnf)
 replace h:=Xdv.elim h;obtain ⟨b2,hy,h⟩:=h
 refine rdS.intro hy ?_
 conv=>whnf
 replace h:=Xa9.elim h;obtain ⟨hb,h⟩:=h
 try (refine req.intro hb ?_;conv=>whnf)
 let t2:List UInt8:=(text.drop (wI .i64 (i+2)).toNat).take ((wI .i64 (i+(wI .i64 (b1.toNat:Int)))).toNat - (wI .i64 (i+2)).toNat)
 refine br.h h (by rfl) ?_ ?_
 ·clear h;intro hb h;conv=>whnf
  all_goals (cases h;cases hc)
  all_goals exact ⟨_,_,_,(.val (.tup (.cons (.nil _ _) (.cons (.same _) .nil))) (.refl _ _ _)),Res.of [24] rfl (XwZ (Xlw XbN) (Xjk rfl) XwB) (by decide) (XwX (by decide) Xwe) XwK⟩
 clear h;intro hb h;conv=>whnf
 replace h:=Xa9.elim h;obtain ⟨hb,h⟩:=h
 refine req.intro (Xxp (of_decide_eq_true hb) (by first|rfl|omega|(simp;done)|(simp;omega)|(simp at *;omega)) rfl (by first|rfl|omega|(simp;done)|(simp;omega)|(simp at *;omega)) (by first|rfl|exact Xjr _ _|exact Xmz _|exact XmX _|exact XnV (by first|exact Xex|exact XdX|exact XdW|exact Xc0|exact XdB|exact Xc1|exact Xdo|exact XdD|exact Xeo|exact Xe6|exact Xer|exact XdV|exact Xez|exact Xe4) _|(rw [Xhw];exact Xjr _ _)|(simp [Xjr,Xmz,XmX,XnF,Xng,XpP,Xpj];done)|(simp;exact List.all_eq_true.1 (XnV (by first|exact Xex|exact XdX|exact XdW|exact Xc0|exact XdB|exact Xc1|exact Xdo|exact XdD|exact Xeo|exact Xe6|exact Xer|exact XdV|exact Xez|exact Xe4) _))) rfl) ?_
 conv=>whnf
 let row:List XcC:=c++[XcC.mk (wI .i64 (b2.toNat:Int)) t2]
 first|have hlen_row:row.length=_:=List.length_append ..|skip
 refine XF1 Xe9 (xs:=c) (ys:=[XcC.mk (wI .i64 (b2.toNat:Int)) t2]) rfl (by first|rfl|omega) (by first|rfl|omega|(simp;done)|(simp;omega)|(simp at *;omega)) (by first|rfl|omega|(simp;done)|(simp;omega)|(simp at *;omega)) ?_
 conv=>whnf
 cases h;simp only [Sum.elim_inl,Xje] at hc
 exact XwY hc [(0,0),(1,1),(2,2),(3,3),(4,4),(5,5),(6,25)] rfl
theorem XDM (hS:Xal Tryz.prog (XaE (Xyz))) (text:List UInt8) (res:(List XcC)×Int) (h:XmB text=some res) :
 XaK Tryz.prog 119 0 ⟨⟨119,18,[(0,.string ⟨⟨text⟩⟩)],[.code XyZ],[],false,none⟩,[],[],0⟩ (fun v H _=>Res 0 (Xuk res) v H):=by
 refine XaK.nilW (R:=fun v' H'=>Res 0 (Xuk res) v' H') ?_
 unfold XmB at h
 refine Xbg XaJ hS true 3000 ?_
 conv=>whnf
 have hl:=XAC hS _ res _ _ _ h rfl;simp only [Xje] at hl
 refine XaK.nilC 2 0 2 ?_
 exact XwY hl [(0,0),(1,1),(2,2),(3,3),(4,4),(5,5),(6,6)] rfl
def XcT:XdP:=XmB
theorem Xxb:XbA Tryz.prog 119 (s119 XcT):=by
 have hL:=XDM (Xal.XaV trivial)
 exact okA ⟨Tryz.f119,rfl,by decide,rfl⟩
def XhB (options:List UInt8) (i:Int) (out1:List Xcr):Option (Sum (Int×(List Xcr)) ((List Xcr)×Int)):=
 cond (decide (i<(options.length:Int)))
  (
  Xa9 (decide (0≤i)) <|
  (options[i.toNat]?).bind fun (b:UInt8)=>
  cond ((b.toNat:Int) !=0)
   (
   Xa9 (decide (0≤i)) <|
   (options[i.toNat]?).bind fun (b1:UInt8)=>
   cond ((b1.toNat:Int)==1)
    (
    some (.inl (wI .i64 (i+1),out1)))
    (
    let t:=decide ((wI .i64 (i+1))≥(options.length:Int))
    cond (t)
     (
     some (.inr (([],3))))
     (
     Xa9 (decide (0≤(wI .i64 (i+1)))) <|
     (options[(wI .i64 (i+1)).toNat]?).bind fun (b2:UInt8)=>
     cond (decide ((b2.toNat:Int)<2))
      (
      some (.inr (([],3))))
      (
      Xa9 (decide (0≤(wI .i64 (i+1)))) <|
      (options[(wI .i64 (i+1)).toNat]?).bind fun (b3:UInt8)=>
      let t1:=decide ((wI .i64 (b3.toNat:Int))>(wI .i64 ((options.length:Int) - i)))
      cond (t1)
       (
       some (.inr (([],3))))
       (
       Xa9 (decide (0≤(wI .i64 (i+1)))) <|
       (options[(wI .i64 (i+1)).toNat]?).bind fun (b4:UInt8)=>
       Xa9 (decide (0≤i)) <|
       (options[i.toNat]?).bind fun (b5:UInt8)=>
       Xa9 (decide ((0:Int)≤(wI .i64 (i+(wI .i64 (b4.toNat:Int))))∧(wI .i64 (i+(wI .i64 (b4.toNat:Int))))≤(options.length:Int)∧(0:Int)≤(wI .i64 (i+2))∧(wI .i64 (i+2))≤((wI .i64 (i+(wI .i64 (b4.toNat:Int)))).toNat:Int))) <|
       let t2:=(options.drop (wI .i64 (i+2)).toNat).take ((wI .i64 (i+(wI .i64 (b4.toNat:Int)))).toNat - (wI .i64 (i+2)).toNat)
       Xa9 (decide ((out1.length+1)*32≤2^47)) <|
       let row:=out1++[Xcr.mk (wI .i64 (b5.toNat:Int)) t2 (wI .i64 (i+2))]
       some (.inl (wI .i64 (i+(wI .i64 (b4.toNat:Int))),row)))))))
   (
   some (.inr ((out1,0)))))
  (
  some (.inr ((out1,0))))
def Xmi (options:List UInt8):Option ((List Xcr)×Int):=
 iter (fun st=>XhB options st.1 st.2) FUEL (0,[])
def XtM (x:(List Xcr)×Int):Xcu:=⟨.tuple ⟨[.slice (some ⟨0,0,none⟩) x.1.length 3,.int .i64 x.2]⟩,[(vT XfS x.1)],[]⟩
abbrev XdR:=(List UInt8)→Option ((List Xcr)×Int)
def r112 (g:XdR):Dec:=dV asS fun (y0:List UInt8)=>Xdm (ofG (g y0) XtM)
theorem XSI {g:XdR} {y0:List UInt8} {x:(List Xcr)×Int} (hx:g y0=some x):r112 g [.string ⟨⟨y0⟩⟩] []=some (XtM x):=(XaY (XcY)).trans (XaX hx)
def s112 (g:XdR):Xbs:=⟨[.v],r112 g⟩
theorem XzQ {g:XdR} {y0:List UInt8} {x:(List Xcr)×Int} (hx:g y0=some x):(s112 g).run [.string ⟨⟨y0⟩⟩] []=some (XtM x):=XSI hx
abbrev Xx8:List (Nat×Xbs):=[]
def Xjn (options:List UInt8) (i:Int) (out1:List Xcr):VM:=
 ⟨⟨112,73,[(0,.string ⟨⟨options⟩⟩),(4,.slice (some ⟨0,0,none⟩) out1.length 3),(5,.int .i64 i)],[.code Xtm,.inLoop Xtm,.inBlock 0,.code XxE],[],false,none⟩,[],[(0,.row true (vT XfS out1))],1⟩
theorem XAf (hS:Xal Tryz.prog (XaE (Xx8))) (options:List UInt8) (res:(List Xcr)×Int):∀ fuel (st:Int×(List Xcr)) (o:(List Xcr)×Int),iter (fun st=>XhB options st.1 st.2) fuel st=some o→(o=res) →
 XaK Tryz.prog 112 0 (Xjn options st.1 st.2) (fun v H t=>∃ v' H' t',XwT v H t v' H' t'∧Res 0 (XtM res) v' H'):=by
 intro fuel st o h hc
 refine XcZ (head:=fun st=>Xjn options st.1 st.2) (C:=fun o=>(o=res)) ?_ fuel st o h hc
 clear h hc o st fuel
 intro st o h hc
 obtain ⟨i,out1⟩:=st
 replace h:XhB options i out1=some o:=h
 show XaK Tryz.prog 112 0 (Xjn options i out1) (fun v H t=>∃ v' H' t',XwT v H t v' H' t'∧Res 0 (XtM res) v' H')
 unfold XhB at h
 refine Xbg XaJ hS true 3000 ?_
 conv=>whnf
 refine br.h2 h (by rfl) ?_ ?_
 ·clear h;intro hb h;conv=>whnf
  all_goals (cases h;cases hc)
  all_goals exact ⟨_,_,_,(.refl _ _ _),Res.of [0] rfl (XwZ (Xlw XbV) (Xjk rfl) XwB) (by decide) (XwX (by decide) Xwe) XwK⟩
 clear h;intro hb h;conv=>whnf
 replace h:=Xa9.elim h;obtain ⟨hb,h⟩:=h
 try (refine req.intro hb ?_;conv=>whnf)
 replace h:=Xdv.elim h;obtain ⟨b,hy,h⟩:=h
 refine rdS.intro hy ?_
 conv=>whnf
 refine br.h2 h (by rfl) ?_ ?_
 ·clear h;intro hb h;conv=>whnf
  all_goals (cases h;cases hc)
  all_goals exact ⟨_,_,_,(.refl _ _ _),Res.of [0] rfl (XwZ (Xlw XbV) (Xjk rfl) XwB) (by decide) (XwX (by decide) Xwe) XwK⟩
 clear h;intro hb h;conv=>whnf
 replace h:=Xa9.elim h;obtain ⟨hb,h⟩:=h
 try (refine req.intro hb ?_;conv=>whnf)
 replace h:=Xdv.elim h;obtain ⟨b1,hy,h⟩:=h
 refine rdS.intro hy ?_
 conv=>whnf
 refine br.h h (by rfl) ?_ ?_
 ·clear h;intro hb h;conv=>whnf
  cases h;simp only [Sum.elim_inl,Xjn] at hc
  exact Xn0 hc [(0,0)] rfl
 clear h;intro hb h;conv=>whnf
 let t:Bool:=decide ((wI .i64 (i+1))≥(options.length:Int))
 refine br.h h (by rfl) ?_ ?_
 ·clear h;intro hb h;conv=>whnf
  all_goals (cases h;cases hc)
  all_goals exact ⟨_,_,_,(.val (.tup (.cons (.nil _ _) (.cons (.same _) .nil))) (.refl _ _ _)),Res.of [1] rfl (XwZ (Xlw XbV) (Xjk rfl) XwB) (by decide) (XwX (by decide) Xwe) XwK⟩
 clear h;intro hb h;conv=>whnf
 replace h:=Xa9.elim h;obtain ⟨hb,h⟩:=h
 try (refine req.intro hb ?_;conv=>whnf)
 replace h:=Xdv.elim h;obtain ⟨b2,hy,h⟩:=h
 refine rdS.intro hy ?_
 conv=>whnf
 refine br.h h (by rfl) ?_ ?_
 ·clear h;intro hb h;conv=>whnf
  all_goals (cases h;cases hc)
  all_goals exact ⟨_,_,_,(.val (.tup (.cons (.nil _ _) (.cons (.same _) .nil))) (.refl _ _ _)),Res.of [1] rfl (XwZ (Xlw XbV) (Xjk rfl) XwB) (by decide) (XwX (by decide) Xwe) XwK⟩
 clear h;intro hb h;conv=>whnf
 replace h:=Xa9.elim h;obtain ⟨hb,h⟩:=h
 try (refine req.intro hb ?_;conv=>whnf)
 replace h:=Xdv.elim h;obtain ⟨b3,hy,h⟩:=h
 refine rdS.intro hy ?_
 conv=>whnf
 let t1:Bool:=decide ((wI .i64 (b3.toNat:Int))>(wI .i64 ((options.length:Int) - i)))
 refine br.h h (by rfl) ?_ ?_
 ·clear h;intro hb h;conv=>whnf
  all_goals (cases h;cases hc)
  all_goals exact ⟨_,_,_,(.val (.tup (.cons (.nil _ _) (.cons (.same _) .nil))) (.refl _ _ _)),Res.of [1] rfl (XwZ (Xlw XbV) (Xjk rfl) XwB) (by decide) (XwX (by decide) Xwe) XwK⟩
 clear h;intro hb h;conv=>whnf
 replace h:=Xa9.elim h;obtain ⟨hb,h⟩:=h
 try (refine req.intro hb ?_;conv=>whnf)
 replace h:=Xdv.elim h;obtain ⟨b4,hy,h⟩:=h
 refine rdS.intro hy ?_
 conv=>whnf
 replace h:=Xa9.elim h;obtain ⟨hb,h⟩:=h
 try (refine req.intro hb ?_;conv=>whnf)
 replace h:=Xdv.elim h;obtain ⟨b5,hy,h⟩:=h
 refine rdS.intro hy ?_
 conv=>whnf
 replace h:=Xa9.elim h;obtain ⟨hb,h⟩:=h
 try (refine req.intro hb ?_;conv=>whnf)
 let t2:List UInt8:=(options.drop (wI .i64 (i+2)).toNat).take ((wI .i64 (i+(wI .i64 (b4.toNat:Int)))).toNat - (wI .i64 (i+2)).toNat)
 replace h:=Xa9.elim h;obtain ⟨hb,h⟩:=h
 refine req.intro (Xxp (of_decide_eq_true hb) (by first|rfl|omega|(simp;done)|(simp;omega)|(simp at *;omega)) rfl (by first|rfl|omega|(simp;done)|(simp;omega)|(simp at *;omega)) (by first|rfl|exact Xjr _ _|exact Xmz _|exact XmX _|exact XnV (by first|exact Xex|exact XdX|exact XdW|exact Xc0|exact XdB|exact Xc1|exact Xdo|exact XdD|exact Xeo|exact Xe6|exact Xer|exact XdV|exact Xez|exact Xe4) _|(rw [Xhw];exact Xjr _ _)|(simp [Xjr,Xmz,XmX,XnF,Xng,XpP,Xpj];done)|(simp;exact List.all_eq_true.1 (XnV (by first|exact Xex|exact XdX|exact XdW|exact Xc0|exact XdB|exact Xc1|exact Xdo|exact XdD|exact Xeo|exact Xe6|exact Xer|exact XdV|exact Xez|exact Xe4) _))) rfl) ?_
 conv=>whnf
 let row:List Xcr:=out1++[Xcr.mk (wI .i64 (b5.toNat:Int)) t2 (wI .i64 (i+2))]
 first|have hlen_row:row.length=_:=List.length_append ..|skip
 refine XF1 XcN (xs:=out1) (ys:=[Xcr.mk (wI .i64 (b5.toNat:Int)) t2 (wI .i64 (i+2))]) rfl (by first|rfl|omega) (by first|rfl|omega|(simp;done)|(simp;omega)|(simp at *;omega)) (by first|rfl|omega|(simp;done)|(simp;omega)|(simp at *;omega)) ?_
 conv=>whnf
 cases h;simp only [Sum.elim_inl,Xjn] at hc
 exact Xn0 hc [(0,18)] rfl
theorem XBa (hS:Xal Tryz.prog (XaE (Xx8))) (options:List UInt8) (res:(List Xcr)×Int) (h:Xmi options=some res) :
 XaK Tryz.prog 112 0 ⟨⟨112,73,[(0,.string ⟨⟨options⟩⟩)],[.code Xzg],[],false,none⟩,[],[],0⟩ (fun v H _=>Res 0 (XtM res) v H):=by
 refine XaK.nilW (R:=fun v' H'=>Res 0 (XtM res) v' H') ?_
 unfold Xmi at h
 refine Xbg XaJ hS true 3000 ?_
 conv=>whnf
 have hl:=XAf hS _ res _ _ _ h rfl;simp only [Xjn] at hl
 refine XaK.nilT 4 3 ?_
 exact Xn0 hl [(0,0)] rfl
def XcU:XdR:=Xmi
theorem Xxm:XbA Tryz.prog 112 (s112 XcU):=by
 have hL:=XBa (Xal.XaV trivial)
 exact okA ⟨Tryz.f112,rfl,by decide,rfl⟩
end Go.Vm.Code
namespace Go.Vm.Code
open Go Go.Vm
structure Xv1 where
 Kind:Int
 Data:List UInt8
 At:Int
def toR (o:Xv1):Xcr:=⟨o.Kind,o.Data,o.At⟩
def ofR (o:Xcr):Xv1:=⟨o.Kind,o.Data,o.At⟩
theorem Xyc (c:List Xcr):(c.map ofR).map toR=c:=by
 rw [List.map_map,show toR∘ofR=id from rfl,List.map_id]
def XfZ (s:List UInt8):Nat→Nat→List Xv1→List Xv1×Int
 | 0,_,out=>(out,0)
 | n+1,i,out=>match s[i]? with
   | none=>(out,0)
   | some b=>if b=0 then (out,0) else if b=1 then XfZ s n (i+1) out else match s[i+1]? with
     | none=>([],3)
     | some k=>if k.toNat<2 then ([],3) else if s.length - i<k.toNat then ([],3) else
        XfZ s (n+1 - k.toNat) (i+k.toNat) (out++[⟨(b.toNat:Int),(s.drop (i+2)).take (k.toNat - 2),((i+2:Nat):Int)⟩])
termination_by n=>n
decreasing_by all_goals omega
def Xjt (s:List UInt8):List Xv1×Int:=XfZ s s.length 0 []
def strip (o:Xv1):XcC:=⟨o.Kind,o.Data⟩
theorem XNN {s:List UInt8} (hs:s.length<2^20):XcU s=some ((Xjt s).1.map toR,(Xjt s).2):=by
 unfold XcU Xmi Xjt
 have key:=iter_eq (step:=fun (st:Int×List Xcr)=>XhB s st.1 st.2) (fun st=>((XfZ s (s.length - st.1.toNat) st.1.toNat (st.2.map ofR)).1.map toR,(XfZ s (s.length - st.1.toNat) st.1.toNat (st.2.map ofR)).2)) (fun st=>0≤st.1∧st.1≤s.length∧(st.2.length:Int)≤st.1) (fun st=>s.length - st.1.toNat) ?_ FUEL (0,[]) ⟨by simp,by simp,by simp⟩ (by rw [Xge];simp only;omega)
 ·rw [key];rfl
 rintro ⟨p,out⟩ ⟨g1,g2,g3⟩
 simp only at g1 g2 g3 ⊢
 obtain ⟨i,rfl⟩:=Int.eq_ofNat_of_zero_le g1
 simp only [Int.toNat_natCast]
 unfold XhB
 by_cases hi:i<s.length
 ·obtain ⟨n,hn⟩:∃ n,s.length - i=n+1:=⟨s.length - i - 1,by omega⟩
  have e:s[i]?=some s[i]:=List.getElem?_eq_getElem hi
  rw [Xa2 (by omega),XaC (by omega),Int.toNat_natCast,e,Option.bind_some,hn,XfZ,e]
  by_cases h0:s[i]=0
  ·refine .inl ?_
   rw [show ((s[i].toNat:Int) !=0)=false by rw [h0];rfl,cond_false]
   simp only [h0,if_true,Xyc]
  rw [show ((s[i].toNat:Int) !=0)=true by simp;intro hx;exact h0 (UInt8.toNat_inj.1 (by simpa using hx)),cond_true,XaC (by omega),Option.bind_some]
  simp only [if_neg h0]
  by_cases h1:s[i]=1
  ·refine .inr ⟨(((i+1:Nat):Int),out),?_,⟨by simp only;omega,by simp only;omega,by simp only;omega⟩,by simp only;omega,?_⟩
   ·rw [show ((s[i].toNat:Int)==1)=true by rw [h1];rfl,cond_true,Xc5 (by omega) (by omega)];rfl
   ·simp only [Int.toNat_natCast,if_pos h1]
    rw [show s.length - (i+1)=n by omega]
  rw [show ((s[i].toNat:Int)==1)=false by simp;intro hx;exact h1 (UInt8.toNat_inj.1 (by simp;omega)),cond_false]
  simp only [if_neg h1]
  rw [Xc5 (n:=(i:Int)+1) (by omega) (by omega)]
  by_cases h2:s.length≤i+1
  ·refine .inl ?_
   rw [Xa2 (by omega),List.getElem?_eq_none (by omega)];rfl
  have hi1:i+1<s.length:=by omega
  have e1:s[i+1]?=some s[i+1]:=List.getElem?_eq_getElem hi1
  have b1:=s[i+1].toNat_lt
  rw [XaQ (by omega),show ((i:Int)+1).toNat=i+1 by omega,e1,XaC (by omega),Option.bind_some]
  simp only [Option.bind_some]
  by_cases h3:s[i+1].toNat<2
  ·refine .inl ?_
   rw [Xa2 (by omega),if_pos h3];rfl
  rw [XaQ (by omega),if_neg h3,XaC (by omega),Xc5 (n:=(s[i+1].toNat:Int)) (by omega) (by omega),Xc5 (n:=(s.length:Int) - i) (by omega) (by omega)]
  by_cases h4:s.length - i<s[i+1].toNat
  ·refine .inl ?_
   rw [Xa2 (by omega),if_pos h4];rfl
  refine .inr ⟨(((i+s[i+1].toNat:Nat):Int),out++[⟨(s[i].toNat:Int),(s.drop (i+2)).take (s[i+1].toNat - 2),((i+2:Nat):Int)⟩]),?_,⟨by simp only;omega,by simp only;omega,by simp;omega⟩,by simp only;omega,?_⟩
  ·have b0:=s[i].toNat_lt
   rw [XaQ (by omega),XaC (by omega),XaC (by omega),Xc5 (n:=(i:Int)+s[i+1].toNat) (by omega) (by omega),Xc5 (n:=(i:Int)+2) (by omega) (by omega),Xc5 (n:=(s[i].toNat:Int)) (by omega) (by omega),XaC (by omega),XaC (by omega),show ((i:Int)+s[i+1].toNat).toNat - ((i:Int)+2).toNat=s[i+1].toNat - 2 by omega,show ((i:Int)+2).toNat=i+2 by omega];rfl
  ·rw [if_neg h4]
   simp only [Int.toNat_natCast]
   rw [show s.length - (i+s[i+1].toNat)=n+1 - s[i+1].toNat by omega,List.map_append];rfl
 ·refine .inl ?_
  rw [XaQ (by omega),show s.length - i=0 by omega,XfZ,Xyc]
theorem Xwg (s:List UInt8):∀ (n i:Nat) (o1 o2:List Xv1),o1.map strip=o2.map strip→(XfZ s n i o1).1.map strip=(XfZ s n i o2).1.map strip∧(XfZ s n i o1).2=(XfZ s n i o2).2:=by
 intro n
 induction n using Nat.strongRecOn with
 | ind n ih=>
   intro i o1 o2 h
   cases n with
   | zero=>rw [XfZ,XfZ];exact ⟨h,rfl⟩
   | succ n=>
     rw [XfZ,XfZ]
     split
     ·exact ⟨h,rfl⟩
     split
     ·exact ⟨h,rfl⟩
     split
     ·exact ih n (by omega) _ _ _ h
     split
     ·exact ⟨rfl,rfl⟩
     split
     ·exact ⟨rfl,rfl⟩
     split
     ·exact ⟨rfl,rfl⟩
     exact ih _ (by omega) _ _ _ (by simp [h,strip])
def XlI (o:XcC):Xv1:=⟨o.Kind,o.Data,0⟩
theorem Xu4 (c:List XcC):(c.map XlI).map strip=c:=by
 rw [List.map_map,show strip∘XlI=id from rfl,List.map_id]
theorem XPO {s:List UInt8} (hs:s.length<2^20):XcT s=some ((Xjt s).1.map strip,(Xjt s).2):=by
 unfold XcT XmB Xjt
 have key:=iter_eq (step:=fun (st:Int×List XcC)=>Xhk s st.1 st.2) (fun st=>((XfZ s (s.length - st.1.toNat) st.1.toNat (st.2.map XlI)).1.map strip,(XfZ s (s.length - st.1.toNat) st.1.toNat (st.2.map XlI)).2)) (fun st=>0≤st.1∧st.1≤s.length∧(st.2.length:Int)≤st.1) (fun st=>s.length - st.1.toNat) ?_ FUEL (0,[]) ⟨by simp,by simp,by simp⟩ (by rw [Xge];simp only;omega)
 ·rw [key];rfl
 rintro ⟨p,out⟩ ⟨g1,g2,g3⟩
 simp only at g1 g2 g3 ⊢
 obtain ⟨i,rfl⟩:=Int.eq_ofNat_of_zero_le g1
 simp only [Int.toNat_natCast]
 unfold Xhk
 by_cases hi:i<s.length
 ·obtain ⟨n,hn⟩:∃ n,s.length - i=n+1:=⟨s.length - i - 1,by omega⟩
  have e:s[i]?=some s[i]:=List.getElem?_eq_getElem hi
  rw [Xa2 (by omega),XaC (by omega),Int.toNat_natCast,e,Option.bind_some,hn,XfZ,e]
  by_cases h0:s[i]=0
  ·refine .inl ?_
   rw [show ((s[i].toNat:Int)==0)=true by rw [h0];rfl,cond_true]
   simp only [h0,if_true,Xu4]
  rw [show ((s[i].toNat:Int)==0)=false by simp;intro hx;exact h0 (UInt8.toNat_inj.1 (by simpa using hx)),cond_false]
  simp only [if_neg h0]
  by_cases h1:s[i]=1
  ·refine .inr ⟨(((i+1:Nat):Int),out),?_,⟨by simp only;omega,by simp only;omega,by simp only;omega⟩,by simp only;omega,?_⟩
   ·rw [show ((s[i].toNat:Int)==1)=true by rw [h1];rfl,cond_true,Xc5 (by omega) (by omega)];rfl
   ·simp only [Int.toNat_natCast,if_pos h1]
    rw [show s.length - (i+1)=n by omega]
  rw [show ((s[i].toNat:Int)==1)=false by simp;intro hx;exact h1 (UInt8.toNat_inj.1 (by simp;omega)),cond_false]
  simp only [if_neg h1]
  rw [Xc5 (n:=(i:Int)+1) (by omega) (by omega)]
  by_cases h2:s.length≤i+1
  ·refine .inl ?_
   rw [XaQ (by omega),List.getElem?_eq_none (by omega)];rfl
  have hi1:i+1<s.length:=by omega
  have e1:s[i+1]?=some s[i+1]:=List.getElem?_eq_getElem hi1
  have b1:=s[i+1].toNat_lt
  rw [Xa2 (by omega),show ((i:Int)+1).toNat=i+1 by omega,e1,XaC (by omega),Option.bind_some]
  simp only [Option.bind_some]
  rw [Xc5 (n:=(s[i+1].toNat:Int)) (by omega) (by omega)]
  by_cases h3:s[i+1].toNat<2
  ·refine .inl ?_
   rw [Xa2 (by omega),if_pos h3];rfl
  rw [XaQ (by omega),if_neg h3,Xc5 (n:=(s.length:Int) - i) (by omega) (by omega)]
  by_cases h4:s.length - i<s[i+1].toNat
  ·refine .inl ?_
   rw [Xa2 (by omega),if_pos h4];rfl
  refine .inr ⟨(((i+s[i+1].toNat:Nat):Int),out++[⟨(s[i].toNat:Int),(s.drop (i+2)).take (s[i+1].toNat - 2)⟩]),?_,⟨by simp only;omega,by simp only;omega,by simp;omega⟩,by simp only;omega,?_⟩
  ·have b0:=s[i].toNat_lt
   rw [XaQ (by omega),XaC (by omega),Xc5 (n:=(i:Int)+s[i+1].toNat) (by omega) (by omega),Xc5 (n:=(i:Int)+2) (by omega) (by omega),Xc5 (n:=(s[i].toNat:Int)) (by omega) (by omega),XaC (by omega),XaQ (by omega),XaC (by omega),show ((i:Int)+s[i+1].toNat).toNat - ((i:Int)+2).toNat=s[i+1].toNat - 2 by omega,show ((i:Int)+2).toNat=i+2 by omega];rfl
  ·rw [if_neg h4]
   simp only [Int.toNat_natCast]
   rw [show s.length - (i+s[i+1].toNat)=n+1 - s[i+1].toNat by omega]
   have:=Xwg s (n+1 - s[i+1].toNat) (i+s[i+1].toNat) ((out++[(⟨(s[i].toNat:Int),(s.drop (i+2)).take (s[i+1].toNat - 2)⟩:XcC)]).map XlI) (out.map XlI++[(⟨(s[i].toNat:Int),(s.drop (i+2)).take (s[i+1].toNat - 2),((i+2:Nat):Int)⟩:Xv1)]) (by simp [strip,XlI])
   rw [this.1,this.2]
 ·refine .inl ?_
  rw [XaQ (by omega),show s.length - i=0 by omega,XfZ,Xu4]
theorem XBD {A B:List UInt8} {p:Nat} {c:Int} (hA:A.length=p):XwC (A++(be 0 2++B)) (p:Int) 2 c=A++(be c.toNat 2++B):=by
 subst hA
 unfold XwC
 rw [if_pos (by simp only [List.length_append,Xdr];omega),Int.toNat_natCast,List.take_left,show ((A.length:Int)+2).toNat=A.length+2 by omega,←List.drop_drop,List.drop_left,show (be 0 2++B).drop 2=B from rfl,List.append_assoc];rfl
theorem XDo {A B:List UInt8} {c:Nat} (hA:A.length%2=0) (hc:c<65536):XcA (A++(be c 2++B))=XcA (A++(be 0 2++B))+c:=by
 rw [XcJ _ _ hA,XcJ _ _ hA,XcJ (be c 2) B (by simp),XcJ (be 0 2) B (by simp),XhS hc,XhS (by omega)];omega
def ckN (W:Nat):Nat:=65535 - norm W
theorem XRw (W:Nat):ckN W≤65535∧(W+ckN W)%65535=0∧W+ckN W≠0:=by
 have n1:=norm_le W
 have n2:=XhO W
 have n3:=Xiy W
 unfold ckN;omega
end Go.Vm.Code
namespace Go.Vm.Code
open Go Go.Vm Go.Proofs
set_option maxRecDepth 100000
set_option maxHeartbeats 4000000
set_option linter.unusedVariables false
def XjW (XaO:XbC) (Xaa:XaD) (Xaf:Xay) (s:List UInt8) (size:Int):Option XaI:=
 (XaO s).bind fun n=>
 (Xaa n 2).bind fun n1=>
 (Xaa n1.2 2).bind fun n2=>
 (Xaa n2.2 4).bind fun n3=>
 (Xaa n3.2 4).bind fun n4=>
 (Xaa n4.2 2).bind fun n5=>
 (Xaa n5.2 2).bind fun n6=>
 (Xaa n6.2 2).bind fun n7=>
 (Xaa n7.2 2).bind fun n8=>
 (Xaf n8.2 (wI .i64 (size - 20))).bind fun t=>
 some (XaI.mk n1.1 n2.1 (wI .u32 n3.1) (wI .u32 n4.1) (Xl7 .i64 n5.1 255) n6.1 n8.1 t.1)
def XEa (x:XaI):Xcu:=⟨.agg ⟨[.int .i64 x.SPort,.int .i64 x.DPort,.int .u32 x.Seq,.int .u32 x.Ack,.int .i64 x.Flags,.int .i64 x.Window,.int .i64 x.Urgent,.string ⟨⟨x.Options⟩⟩]⟩,[],[]⟩
abbrev Xet:=(List UInt8)→Int→Option XaI
def r132 (g:Xet):Dec:=dV asS fun (y0:List UInt8)=>dV (asI .i64) fun (y1:Int)=>Xdm (ofG (g y0 y1) XEa)
theorem XPd {g:Xet} {y0:List UInt8} {y1:Int} {x:XaI} (hx:g y0 y1=some x):r132 g [.string ⟨⟨y0⟩⟩,.int .i64 y1] []=some (XEa x):=(XaY (XcY)).trans ((XaY (Xc2 _)).trans (XaX hx))
def s132 (g:Xet):Xbs:=⟨[.v,.v],r132 g⟩
theorem XHh {g:Xet} {y0:List UInt8} {y1:Int} {x:XaI} (hx:g y0 y1=some x):(s132 g).run [.string ⟨⟨y0⟩⟩,.int .i64 y1] []=some (XEa x):=XPd hx
abbrev XL0 (XaO:XbC) (Xaa:XaD) (Xaf:Xay):List (Nat×Xbs):=[(51,s51 XaO),(52,s52 Xaa),(86,s86 Xaf)]
theorem XDF (XaO:XbC) (Xaa:XaD) (Xaf:Xay) (hS:Xal Tryz.prog (XaE (XL0 XaO Xaa Xaf))) (s:List UInt8) (size:Int) (res:XaI) (h:XjW XaO Xaa Xaf s size=some res) :
 XaK Tryz.prog 132 0 ⟨⟨132,38,[(0,.string ⟨⟨s⟩⟩),(1,.int .i64 size)],[.code XxO],[],false,none⟩,[],[],0⟩ (fun v H _=>Res 0 (XEa res) v H):=by
 unfold XjW at h
 have R1:=@XqW XaO
 have R2:=@Xkh Xaa
 have R3:=@XnQ Xaf
 refine Xbg XaJ hS true 3000 ?_
 conv=>whnf
 exact W
def Xd3:Xet:=XjW XaO Xaa Xaf
theorem XI6:XbA Tryz.prog 132 (s132 Xd3):=by
 have hL:=XDF XaO Xaa Xaf (Xal.XaV ⟨Xqc,XpK,Xn1,trivial⟩)
 exact okA ⟨Tryz.f132,rfl,by decide,rfl⟩
def Xoh (XaN:XbO) (Xbv:Xcm) (XcT:XdP) (Xd3:Xet) (s:List UInt8) (src:Xab) (dst:Xab):Option (XaI×(List UInt8)×Int):=
 cond (decide ((s.length:Int)<20))
  (
  some ((XaI.mk 0 0 0 0 0 0 0 [],[],2)))
  (
  (s[12]?).bind fun (b:UInt8)=>
  (s[12]?).bind fun (b1:UInt8)=>
  let t:=wI .i64 (4*(wI .i64 ((b.toNat:Int).fdiv (2^4))))
  cond (decide (t<20))
   (
   some ((XaI.mk 0 0 0 0 0 0 0 [],[],3)))
   (
   cond ((Xl7 .u8 (b1.toNat:Int) 15) !=0)
    (
    some ((XaI.mk 0 0 0 0 0 0 0 [],[],3)))
    (
    cond (decide (t>(s.length:Int)))
     (
     some ((XaI.mk 0 0 0 0 0 0 0 [],[],2)))
     (
     (Xbv src dst 6 (s.length:Int)).bind fun p=>
     cond (p==[])
      (
      some ((XaI.mk 0 0 0 0 0 0 0 [],[],1)))
      (
      Xa9 (decide (p.length+s.length<2^63)) <|
      (XaN (p++s)).bind fun xr=>
      cond (!xr)
       (
       some ((XaI.mk 0 0 0 0 0 0 0 [],[],4)))
       (
       (Xd3 s t).bind fun p1=>
       (XcT p1.Options).bind fun l=>
       cond (l.2 !=0)
        (
        some ((XaI.mk 0 0 0 0 0 0 0 [],[],l.2)))
        (
        Xa9 (decide ((0:Int)≤t∧t≤(s.length:Int))) <|
        let t1:=(s.drop t.toNat).take (s.length - t.toNat)
        some ((p1,t1,0)))))))))
def XEC (x:XaI×(List UInt8)×Int):Xcu:=⟨.tuple ⟨[.agg ⟨[.int .i64 x.1.SPort,.int .i64 x.1.DPort,.int .u32 x.1.Seq,.int .u32 x.1.Ack,.int .i64 x.1.Flags,.int .i64 x.1.Window,.int .i64 x.1.Urgent,.string ⟨⟨x.1.Options⟩⟩]⟩,.string ⟨⟨x.2.1⟩⟩,.int .i64 x.2.2]⟩,[],[]⟩
abbrev XgC:=(List UInt8)→Xab→Xab→Option (XaI×(List UInt8)×Int)
def r117 (g:XgC):Dec:=dV asS fun (y0:List UInt8)=>dV Xcl fun (y1:Xab)=>dV Xcl fun (y2:Xab)=>Xdm (ofG (g y0 y1 y2) XEC)
theorem XO7 {g:XgC} {y0:List UInt8} {y1:Xab} {y2:Xab} {x:XaI×(List UInt8)×Int} (hx:g y0 y1 y2=some x):r117 g [.string ⟨⟨y0⟩⟩,.agg ⟨[.bool y1.V6,.int .u64 y1.Hi,.int .u64 y1.Lo]⟩,.agg ⟨[.bool y2.V6,.int .u64 y2.Hi,.int .u64 y2.Lo]⟩] []=some (XEC x):=(XaY (XcY)).trans ((XaY (Xb8 _)).trans ((XaY (Xb8 _)).trans (XaX hx)))
def s117 (g:XgC):Xbs:=⟨[.v,.v,.v],r117 g⟩
theorem XLX {g:XgC} {y0:List UInt8} {y1:Xab} {y2:Xab} {x:XaI×(List UInt8)×Int} (hx:g y0 y1 y2=some x):(s117 g).run [.string ⟨⟨y0⟩⟩,.agg ⟨[.bool y1.V6,.int .u64 y1.Hi,.int .u64 y1.Lo]⟩,.agg ⟨[.bool y2.V6,.int .u64 y2.Hi,.int .u64 y2.Lo]⟩] []=some (XEC x):=XO7 hx
abbrev XLP (XaN:XbO) (Xbv:Xcm) (XcT:XdP) (Xd3:Xet):List (Nat×Xbs):=[(54,s54 XaN),(131,s131 Xbv),(119,s119 XcT),(132,s132 Xd3)]
theorem XEh (XaN:XbO) (Xbv:Xcm) (XcT:XdP) (Xd3:Xet) (hS:Xal Tryz.prog (XaE (XLP XaN Xbv XcT Xd3))) (s:List UInt8) (src:Xab) (dst:Xab) (res:XaI×(List UInt8)×Int) (h:Xoh XaN Xbv XcT Xd3 s src dst=some res) :
 XaK Tryz.prog 117 0 ⟨⟨117,76,[(0,.string ⟨⟨s⟩⟩),(1,.agg ⟨[.bool src.V6,.int .u64 src.Hi,.int .u64 src.Lo]⟩),(2,.agg ⟨[.bool dst.V6,.int .u64 dst.Hi,.int .u64 dst.Lo]⟩)],[.code XAG],[],false,none⟩,[],[],0⟩ (fun v H _=>Res 0 (XEC res) v H):=by
 unfold Xoh at h
 have R1:=@XzW Xbv
 have R2:=@Xvs XaN
 have R3:=@XHh Xd3
 have R4:=@Xzm XcT
 refine Xbg XaJ hS true 3000 ?_
 conv=>whnf
 exact W
def XhE:XgC:=Xoh XaN Xbv XcT Xd3
theorem XLw:XbA Tryz.prog 117 (s117 XhE):=by
 have hL:=XEh XaN Xbv XcT Xd3 (Xal.XaV ⟨XuT,Xzo,Xxb,XI6,trivial⟩)
 exact okA ⟨Tryz.f117,rfl,by decide,rfl⟩
def XmE (XaW:Xcc) (n:Int) (k:Int):Option (List UInt8):=
 (XaW (wI .u64 n) k).bind fun p=>
 some (p)
def rx45 (x:List UInt8):Xcu:=⟨.string ⟨⟨x⟩⟩,[],[]⟩
abbrev XeK:=Int→Int→Option (List UInt8)
def r45 (g:XeK):Dec:=dV (asI .i64) fun (y0:Int)=>dV (asI .i64) fun (y1:Int)=>Xdm (ofG (g y0 y1) rx45)
theorem r45_c {g:XeK} {y0:Int} {y1:Int} {x:List UInt8} (hx:g y0 y1=some x):r45 g [.int .i64 y0,.int .i64 y1] []=some (rx45 x):=(XaY (Xc2 _)).trans ((XaY (Xc2 _)).trans (XaX hx))
def s45 (g:XeK):Xbs:=⟨[.v,.v],r45 g⟩
theorem XFB {g:XeK} {y0:Int} {y1:Int} {x:List UInt8} (hx:g y0 y1=some x):(s45 g).run [.int .i64 y0,.int .i64 y1] []=some (rx45 x):=r45_c hx
abbrev XSg (XaW:Xcc):List (Nat×Xbs):=[(46,s46 XaW)]
theorem XJZ (XaW:Xcc) (hS:Xal Tryz.prog (XaE (XSg XaW))) (n:Int) (k:Int) (res:List UInt8) (h:XmE XaW n k=some res) :
 XaK Tryz.prog 45 0 ⟨⟨45,9,[(0,.int .i64 n),(1,.int .i64 k)],[.code XSE],[],false,none⟩,[],[],0⟩ (fun v H _=>Res 0 (rx45 res) v H):=by
 unfold XmE at h
 have R1:=@XqR XaW
 refine Xbg XaJ hS true 3000 ?_
 conv=>whnf
 exact W
def XcE:XeK:=XmE XaW
theorem XFj:XbA Tryz.prog 45 (s45 XcE):=by
 have hL:=XJZ XaW (Xal.XaV ⟨XqD,trivial⟩)
 exact okA ⟨Tryz.f45,rfl,by decide,rfl⟩
def Xrq (n:Int) (most:Int):Option Bool:=
 cond (decide (n≥0))
  (
  some (decide (n≤most)))
  (
  some (false))
def XCI (x:Bool):Xcu:=⟨.bool x,[],[]⟩
abbrev Xh3:=Int→Int→Option Bool
def r106 (g:Xh3):Dec:=dV (asI .i64) fun (y0:Int)=>dV (asI .i64) fun (y1:Int)=>Xdm (ofG (g y0 y1) XCI)
theorem XRP {g:Xh3} {y0:Int} {y1:Int} {x:Bool} (hx:g y0 y1=some x):r106 g [.int .i64 y0,.int .i64 y1] []=some (XCI x):=(XaY (Xc2 _)).trans ((XaY (Xc2 _)).trans (XaX hx))
def s106 (g:Xh3):Xbs:=⟨[.v,.v],r106 g⟩
theorem XKO {g:Xh3} {y0:Int} {y1:Int} {x:Bool} (hx:g y0 y1=some x):(s106 g).run [.int .i64 y0,.int .i64 y1] []=some (XCI x):=XRP hx
abbrev XHd:List (Nat×Xbs):=[]
theorem XDQ (hS:Xal Tryz.prog (XaE (XHd))) (n:Int) (most:Int) (res:Bool) (h:Xrq n most=some res) :
 XaK Tryz.prog 106 0 ⟨⟨106,12,[(0,.int .i64 n),(1,.int .i64 most)],[.code XGC],[],false,none⟩,[],[],0⟩ (fun v H _=>Res 0 (XCI res) v H):=by
 unfold Xrq at h
 refine Xbg XaJ hS true 3000 ?_
 conv=>whnf
 exact W
def Xh4:Xh3:=Xrq
theorem XJJ:XbA Tryz.prog 106 (s106 Xh4):=by
 have hL:=XDQ (Xal.XaV trivial)
 exact okA ⟨Tryz.f106,rfl,by decide,rfl⟩
def XkS (Xh4:Xh3) (ha0:XaI):Option Bool:=
 (Xh4 ha0.SPort 65535).bind fun i=>
 cond (i)
  (
  (Xh4 ha0.DPort 65535).bind fun i1=>
  cond (i1)
   (
   (Xh4 ha0.Flags 255).bind fun i2=>
   cond (i2)
    (
    (Xh4 ha0.Window 65535).bind fun i3=>
    cond (i3)
     (
     (Xh4 ha0.Urgent 65535).bind fun i4=>
     cond (i4)
      (
      cond (decide ((ha0.Options.length:Int)≤40))
       (
       some (((ha0.Options.length:Int).tmod 4)==0))
       (
       some (false)))
      (
      some (false)))
     (
     some (false)))
    (
    some (false)))
   (
   some (false)))
  (
  some (false))
def rx78 (x:Bool):Xcu:=⟨.bool x,[],[]⟩
abbrev XeZ:=XaI→Option Bool
def r78 (g:XeZ):Dec:=dV Xjm fun (y0:XaI)=>Xdm (ofG (g y0) rx78)
theorem r78_c {g:XeZ} {y0:XaI} {x:Bool} (hx:g y0=some x):r78 g [.agg ⟨[.int .i64 y0.SPort,.int .i64 y0.DPort,.int .u32 y0.Seq,.int .u32 y0.Ack,.int .i64 y0.Flags,.int .i64 y0.Window,.int .i64 y0.Urgent,.string ⟨⟨y0.Options⟩⟩]⟩] []=some (rx78 x):=(XaY (XnY _)).trans (XaX hx)
def s78 (g:XeZ):Xbs:=⟨[.v],r78 g⟩
theorem XOU {g:XeZ} {y0:XaI} {x:Bool} (hx:g y0=some x):(s78 g).run [.agg ⟨[.int .i64 y0.SPort,.int .i64 y0.DPort,.int .u32 y0.Seq,.int .u32 y0.Ack,.int .i64 y0.Flags,.int .i64 y0.Window,.int .i64 y0.Urgent,.string ⟨⟨y0.Options⟩⟩]⟩] []=some (rx78 x):=r78_c hx
abbrev XQZ (Xh4:Xh3):List (Nat×Xbs):=[(106,s106 Xh4)]
theorem XIu (Xh4:Xh3) (hS:Xal Tryz.prog (XaE (XQZ Xh4))) (ha0:XaI) (res:Bool) (h:XkS Xh4 ha0=some res) :
 XaK Tryz.prog 78 0 ⟨⟨78,39,[(0,.agg ⟨[.int .i64 ha0.SPort,.int .i64 ha0.DPort,.int .u32 ha0.Seq,.int .u32 ha0.Ack,.int .i64 ha0.Flags,.int .i64 ha0.Window,.int .i64 ha0.Urgent,.string ⟨⟨ha0.Options⟩⟩]⟩)],[.code XNW],[],false,none⟩,[],[],0⟩ (fun v H _=>Res 0 (rx78 res) v H):=by
 unfold XkS at h
 have R1:=@XKO Xh4
 refine Xbg XaJ hS true 3000 ?_
 conv=>whnf
 exact W
def XeL:XeZ:=XkS Xh4
theorem XMA:XbA Tryz.prog 78 (s78 XeL):=by
 have hL:=XIu Xh4 (Xal.XaV ⟨XJJ,trivial⟩)
 exact okA ⟨Tryz.f78,rfl,by decide,rfl⟩
def Xot (Xde:XeF) (Xci:XdL) (Xbr:Xct) (XeL:XeZ) (XcE:XeK) (ha0:XaI) (src:Xab) (dst:Xab) (payload:List UInt8):Option ((List UInt8)×Int):=
 let t:=wI .i64 (20+(ha0.Options.length:Int))
 (Xbr src dst 6 (wI .i64 (t+(payload.length:Int)))).bind fun p=>
 (XeL ha0).bind fun xr=>
 cond (!xr)
  (
  some (([],1)))
  (
  cond (p==[])
   (
   some (([],1)))
   (
   let t1:=decide ((payload.length:Int)>(wI .i64 (65535 - t)))
   cond (t1)
    (
    some (([],5)))
    (
    (XcE ha0.SPort 2).bind fun n=>
    (XcE ha0.DPort 2).bind fun n1=>
    Xa9 (decide (n.length+n1.length<2^63)) <|
    (XcE (wI .i64 ha0.Seq) 4).bind fun n2=>
    Xa9 (decide ((n++n1).length+n2.length<2^63)) <|
    (XcE (wI .i64 ha0.Ack) 4).bind fun n3=>
    Xa9 (decide (((n++n1)++n2).length+n3.length<2^63)) <|
    (XcE (wI .i64 (4*t)) 1).bind fun n4=>
    Xa9 (decide ((((n++n1)++n2)++n3).length+n4.length<2^63)) <|
    (XcE ha0.Flags 1).bind fun n5=>
    Xa9 (decide (((((n++n1)++n2)++n3)++n4).length+n5.length<2^63)) <|
    (XcE ha0.Window 2).bind fun n6=>
    Xa9 (decide ((((((n++n1)++n2)++n3)++n4)++n5).length+n6.length<2^63)) <|
    let t2:=(((((n++n1)++n2)++n3)++n4)++n5)++n6
    (XcE 0 2).bind fun n7=>
    Xa9 (decide (t2.length+n7.length<2^63)) <|
    (XcE ha0.Urgent 2).bind fun n8=>
    Xa9 (decide ((t2++n7).length+n8.length<2^63)) <|
    Xa9 (decide (((t2++n7)++n8).length+ha0.Options.length<2^63)) <|
    Xa9 (decide ((((t2++n7)++n8)++ha0.Options).length+payload.length<2^63)) <|
    let t3:=(((t2++n7)++n8)++ha0.Options)++payload
    Xa9 (decide (p.length+t3.length<2^63)) <|
    (Xde (p++t3)).bind fun xo=>
    (Xci t3 16 2 (wI .u64 xo)).bind fun s=>
    some ((s,0)))))
def rx43 (x:(List UInt8)×Int):Xcu:=⟨.tuple ⟨[.string ⟨⟨x.1⟩⟩,.int .i64 x.2]⟩,[],[]⟩
abbrev Xgr:=XaI→Xab→Xab→(List UInt8)→Option ((List UInt8)×Int)
def r43 (g:Xgr):Dec:=dV Xjm fun (y0:XaI)=>dV Xcl fun (y1:Xab)=>dV Xcl fun (y2:Xab)=>dV asS fun (y3:List UInt8)=>Xdm (ofG (g y0 y1 y2 y3) rx43)
theorem r43_c {g:Xgr} {y0:XaI} {y1:Xab} {y2:Xab} {y3:List UInt8} {x:(List UInt8)×Int} (hx:g y0 y1 y2 y3=some x):r43 g [.agg ⟨[.int .i64 y0.SPort,.int .i64 y0.DPort,.int .u32 y0.Seq,.int .u32 y0.Ack,.int .i64 y0.Flags,.int .i64 y0.Window,.int .i64 y0.Urgent,.string ⟨⟨y0.Options⟩⟩]⟩,.agg ⟨[.bool y1.V6,.int .u64 y1.Hi,.int .u64 y1.Lo]⟩,.agg ⟨[.bool y2.V6,.int .u64 y2.Hi,.int .u64 y2.Lo]⟩,.string ⟨⟨y3⟩⟩] []=some (rx43 x):=(XaY (XnY _)).trans ((XaY (Xb8 _)).trans ((XaY (Xb8 _)).trans ((XaY (XcY)).trans (XaX hx))))
def s43 (g:Xgr):Xbs:=⟨[.v,.v,.v,.v],r43 g⟩
theorem XQT {g:Xgr} {y0:XaI} {y1:Xab} {y2:Xab} {y3:List UInt8} {x:(List UInt8)×Int} (hx:g y0 y1 y2 y3=some x):(s43 g).run [.agg ⟨[.int .i64 y0.SPort,.int .i64 y0.DPort,.int .u32 y0.Seq,.int .u32 y0.Ack,.int .i64 y0.Flags,.int .i64 y0.Window,.int .i64 y0.Urgent,.string ⟨⟨y0.Options⟩⟩]⟩,.agg ⟨[.bool y1.V6,.int .u64 y1.Hi,.int .u64 y1.Lo]⟩,.agg ⟨[.bool y2.V6,.int .u64 y2.Hi,.int .u64 y2.Lo]⟩,.string ⟨⟨y3⟩⟩] []=some (rx43 x):=r43_c hx
abbrev XSc (Xde:XeF) (Xci:XdL) (Xbr:Xct) (XeL:XeZ) (XcE:XeK):List (Nat×Xbs):=[(48,s48 Xde),(47,s47 Xci),(77,s77 Xbr),(78,s78 XeL),(45,s45 XcE)]
theorem XIr (Xde:XeF) (Xci:XdL) (Xbr:Xct) (XeL:XeZ) (XcE:XeK) (hS:Xal Tryz.prog (XaE (XSc Xde Xci Xbr XeL XcE))) (ha0:XaI) (src:Xab) (dst:Xab) (payload:List UInt8) (res:(List UInt8)×Int) (h:Xot Xde Xci Xbr XeL XcE ha0 src dst payload=some res) :
 XaK Tryz.prog 43 0 ⟨⟨43,83,[(0,.agg ⟨[.int .i64 ha0.SPort,.int .i64 ha0.DPort,.int .u32 ha0.Seq,.int .u32 ha0.Ack,.int .i64 ha0.Flags,.int .i64 ha0.Window,.int .i64 ha0.Urgent,.string ⟨⟨ha0.Options⟩⟩]⟩),(1,.agg ⟨[.bool src.V6,.int .u64 src.Hi,.int .u64 src.Lo]⟩),(2,.agg ⟨[.bool dst.V6,.int .u64 dst.Hi,.int .u64 dst.Lo]⟩),(3,.string ⟨⟨payload⟩⟩)],[.code XFM],[],false,none⟩,[],[],0⟩ (fun v H _=>Res 0 (rx43 res) v H):=by
 unfold Xot at h
 have R1:=@XAq Xbr
 have R2:=@XOU XeL
 have R3:=@XFB XcE
 have R4:=@Xxz Xde
 have R5:=@XAA Xci
 refine Xbg XaJ hS true 3000 ?_
 conv=>whnf
 exact W
def Xhy:Xgr:=Xot Xde Xci Xbr XeL XcE
theorem XRp:XbA Tryz.prog 43 (s43 Xhy):=by
 have hL:=XIr Xde Xci Xbr XeL XcE (Xal.XaV ⟨Xzu,Xyj,Xyf,XMA,XFj,trivial⟩)
 exact okA ⟨Tryz.f43,rfl,by decide,rfl⟩
end Go.Vm.Code
