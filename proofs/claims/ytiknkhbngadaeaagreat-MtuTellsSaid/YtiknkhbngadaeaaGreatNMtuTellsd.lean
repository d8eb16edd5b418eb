import Derived.Test.YtiknkhbngadaeaaGreatNMtuTellsc
namespace Go.Vm.Code
open Go Go.Vm Go.Proofs
def k57_0:VC:=.reg [oD 4 (.box τ1),oD 5 (.box τ2),oD 6 (.alloc [(.int .i64 0),(.int .i64 0),(.int .u32 0),(.int .u32 0),(.int .i64 0),(.int .i64 0),(.int .i64 0),(.string ⟨⟨[]⟩⟩)]),oD 7 (.mv (.const (.string ⟨⟨[]⟩⟩))),oD 8 (.mv (.const (.int .i64 0)))]
def k57_1:VC:=.reg [oM 13 τ0,oD 14 (.lenS Xc0),oD 15 (.bin .lss Xdo (.const (.int .i64 20)))]
def k57_2:VC:=.reg [oD 16 (.build [(.int .i64 0),(.int .i64 0),(.int .u32 0),(.int .u32 0),(.int .i64 0),(.int .i64 0),(.int .i64 0),(.string ⟨⟨[]⟩⟩)] []),oN (.store 8 τ6 Xdp),oD 7 (.mv (.const (.string ⟨⟨[]⟩⟩))),oD 8 (.mv (.const (.int .i64 2)))]
def k57_3:VC:=.seq k57_2 .ret
def k57_4:VC:=.cond Xdm k57_3 .skip
def k57_5:VC:=.seq k57_1 k57_4
def k57_6:VC:=.reg [oM 17 τ0,oD 18 (.idxS Xdn (.const (.int .i64 12))),oD 19 (.bin .quo XdW (.const (.int .u8 16))),oD 20 (.conv .i64 XdM),oD 21 (.bin .mul (.const (.int .i64 4)) Xea),oM 9 Xeh]
def k57_7:VC:=.reg [oM 22 τ9,oD 23 (.bin .lss XeF (.const (.int .i64 20))),oM 24 XeO,oG 25 (.mv τ0) 24 false,oG 26 (.idxS XeW (.const (.int .i64 12))) 24 false,oG 27 (.bin .rem Xeq (.const (.int .u8 16))) 24 false,oG 28 (.bin .neq XeV (.const (.int .u8 0))) 24 false,oD 29 (.pick XeB (.const (.bool true)) XeP)]
def k57_8:VC:=.reg [oD 30 (.build [(.int .i64 0),(.int .i64 0),(.int .u32 0),(.int .u32 0),(.int .i64 0),(.int .i64 0),(.int .i64 0),(.string ⟨⟨[]⟩⟩)] []),oN (.store 8 τ6 Xfz),oD 7 (.mv (.const (.string ⟨⟨[]⟩⟩))),oD 8 (.mv (.const (.int .i64 3)))]
def k57_9:VC:=.seq k57_8 .ret
def XYV:VC:=.cond Xe4 k57_9 .skip
def XWC:VC:=.seq k57_7 XYV
def XYk:VC:=.reg [oM 31 τ0,oD 32 (.lenS Xfv),oM 33 τ9,oD 34 (.bin .lss XfB XfC)]
def X5U:VC:=.reg [oD 35 (.build [(.int .i64 0),(.int .i64 0),(.int .u32 0),(.int .u32 0),(.int .i64 0),(.int .i64 0),(.int .i64 0),(.string ⟨⟨[]⟩⟩)] []),oN (.store 8 τ6 XfJ),oD 7 (.mv (.const (.string ⟨⟨[]⟩⟩))),oD 8 (.mv (.const (.int .i64 2)))]
def X4c:VC:=.seq X5U .ret
def X4F:VC:=.cond XfE X4c .skip
def XSd:VC:=.seq XYk X4F
def X2m:VC:=.reg [oD 36 (.loadN [.bool,(.int .u64),(.int .u64)] τ4),oD 37 (.loadN [.bool,(.int .u64),(.int .u64)] τ5),oM 38 τ0,oD 39 (.lenS XgL),oD 40 (.callF 95 [XfV,XfA,(.const (.int .i64 6)),XgH]),oM 10 Xhx]
def X4p:VC:=.reg [oM 41 Xcd,oD 42 (.bin .eql Xht (.const (.string ⟨⟨[]⟩⟩)))]
def XPs:VC:=.reg [oD 43 (.build [(.int .i64 0),(.int .i64 0),(.int .u32 0),(.int .u32 0),(.int .i64 0),(.int .i64 0),(.int .i64 0),(.string ⟨⟨[]⟩⟩)] []),oN (.store 8 τ6 Xhz),oD 7 (.mv (.const (.string ⟨⟨[]⟩⟩))),oD 8 (.mv (.const (.int .i64 1)))]
def X6P:VC:=.seq XPs .ret
def XN2:VC:=.cond Xhs X6P .skip
def XXq:VC:=.seq X4p XN2
def XLS:VC:=.reg [oM 44 Xcd,oM 45 τ0,oD 46 (.bin .add Xh4 XhP),oD 47 (.callF 100 [Xin]),oD 48 (.bin .neq Xh7 (.const (.int .i64 65535)))]
def X4b:VC:=.reg [oD 49 (.build [(.int .i64 0),(.int .i64 0),(.int .u32 0),(.int .u32 0),(.int .i64 0),(.int .i64 0),(.int .i64 0),(.string ⟨⟨[]⟩⟩)] []),oN (.store 8 τ6 XiL),oD 7 (.mv (.const (.string ⟨⟨[]⟩⟩))),oD 8 (.mv (.const (.int .i64 4)))]
def XMG:VC:=.seq X4b .ret
def XYx:VC:=.cond XiP XMG .skip
def XUx:VC:=.seq XLS XYx
def X17:VC:=.reg [oM 51 τ0,oM 52 τ9,oD 53 (.sliceS XiQ (some (.const (.int .i64 20))) (some XjM)),oD 54 (.callF 101 [XjZ]),oM 50 Xk1,oE 55 0 XiR,oE 56 1 XiR,oM 11 XkZ,oM 12 Xk7]
def XLV:VC:=.reg [oM 57 XcZ,oD 58 (.bin .neq XkP (.const (.int .i64 0)))]
def X5e:VC:=.reg [oD 59 (.build [(.int .i64 0),(.int .i64 0),(.int .u32 0),(.int .u32 0),(.int .i64 0),(.int .i64 0),(.int .i64 0),(.string ⟨⟨[]⟩⟩)] []),oM 60 XcZ,oN (.store 8 τ6 Xlf),oD 7 (.mv (.const (.string ⟨⟨[]⟩⟩))),oM 8 XlW]
def XSi:VC:=.seq X5e .ret
def XPe:VC:=.cond XkW XSi .skip
def XS9:VC:=.seq XLV XPe
def XXo:VC:=.regD [oM 61 τ0,oD 62 (.callF 44 [Xl9,(.const (.int .i64 0)),(.const (.int .i64 2))]),oM 63 τ0,oD 64 (.callF 44 [Xox,(.const (.int .i64 2)),(.const (.int .i64 2))]),oM 65 τ0,oD 66 (.callF 44 [XoD,(.const (.int .i64 4)),(.const (.int .i64 4))]),oD 67 (.conv .u32 XoJ),oM 68 τ0,oD 69 (.callF 44 [Xo6,(.const (.int .i64 8)),(.const (.int .i64 4))]),oD 70 (.conv .u32 XoS),oM 71 τ0,oD 72 (.idxS Xrk (.const (.int .i64 13))),oD 73 (.conv .i64 Xrb),oM 74 τ0,oD 75 (.callF 44 [Xtu,(.const (.int .i64 14)),(.const (.int .i64 2))]),oM 76 τ0,oD 77 (.callF 44 [Xwf,(.const (.int .i64 18)),(.const (.int .i64 2))]),oM 78 τ0,oM 79 τ9,oD 80 (.sliceS Xv5 (some (.const (.int .i64 20))) (some XxI)),oD 81 (.build [(.int .i64 0),(.int .i64 0),(.int .u32 0),(.int .u32 0),(.int .i64 0),(.int .i64 0),(.int .i64 0),(.string ⟨⟨[]⟩⟩)] [(0,1,XmV),(1,1,Xoh),(2,1,XoF),(3,1,XqW),(4,1,XsD),(5,1,Xs2),(6,1,Xuj),(7,1,XvY)]),oM 82 τ0,oM 83 τ9,oD 84 (.sliceS XBF (some XvW) none),oN (.store 8 τ6 Xyd)] [] [oM 7 Xzu,oD 8 (.mv (.const (.int .i64 0)))]
def X7B:VC:=.seq XXo .ret
def XVb:VC:=.seq XS9 X7B
def XTY:VC:=.seq X17 XVb
def X57:VC:=.seq XUx XTY
def X41:VC:=.seq XXq X57
def XPT:VC:=.seq X2m X41
def X42:VC:=.seq XSd XPT
def XZH:VC:=.seq XWC X42
def XOn:VC:=.seq k57_6 XZH
def XWy:VC:=.seq k57_5 XOn
def XAP:VC:=.seq k57_0 XWy
def fn57:VFn:=⟨85,XAP,[.cell 6 [(.int .i64),(.int .i64),(.int .u32),(.int .u32),(.int .i64),(.int .i64),(.int .i64),.str] true,.tmp 7,.tmp 8]⟩
def k95_0:VC:=.reg [oD 4 (.box τ0),oD 5 (.box τ1),oD 8 (.mv (.const (.string ⟨⟨[]⟩⟩)))]
def k95_1:VC:=.reg [oD 9 (.loadN [.bool,(.int .u64),(.int .u64)] τ4),oD 10 (.callF 97 [τ9]),oD 11 (.not Xcd),oM 12 Xb7,oG 13 (.loadN [.bool,(.int .u64),(.int .u64)] τ5) 12 false,oG 14 (.callF 97 [Xc0]) 12 false,oG 15 (.not Xdo) 12 false,oD 16 (.pick XcZ (.const (.bool true)) Xdm),oM 17 Xdp,oG 18 (.fieldA 0 τ4) 17 false,oG 19 (.load1 .bool XdW) 17 false,oG 20 (.fieldA 0 τ5) 17 false,oG 21 (.load1 .bool Xea) 17 false,oG 22 (.eqB true XdM Xeh) 17 false,oD 23 (.pick Xdn (.const (.bool true)) XeF)]
def k95_2:VC:=.reg [oD 8 (.mv (.const (.string ⟨⟨[]⟩⟩)))]
def k95_3:VC:=.seq k95_2 .ret
def k95_4:VC:=.cond XeO k95_3 .skip
def k95_5:VC:=.seq k95_1 k95_4
def k95_6:VC:=.reg [oD 24 (.fieldA 0 τ4),oD 25 (.load1 .bool XeB)]
def k95_7:VC:=.regD [oD 26 (.loadN [.bool,(.int .u64),(.int .u64)] τ4),oD 27 (.callF 92 [Xeq]),oD 28 (.loadN [.bool,(.int .u64),(.int .u64)] τ5),oD 29 (.callF 92 [XeP]),oD 30 (.bin .add XeV Xe4),oM 31 τ3,oD 32 (.callF 94 [Xfv,(.const (.int .i64 4))]),oD 33 (.bin .add Xfz XfB),oD 34 (.callF 94 [(.const (.int .i64 0)),(.const (.int .i64 3))]),oD 35 (.bin .add XfC XfE),oM 36 τ2,oD 37 (.callF 94 [XfV,(.const (.int .i64 1))])] [(1,2)] [oD 38 (.bin .add XfJ XfA),oM 8 XgL]
def k95_8:VC:=.seq k95_7 .ret
def k95_9:VC:=.cond XeW k95_8 .skip
def XOq:VC:=.seq k95_6 k95_9
def XLW:VC:=.regD [oD 39 (.loadN [.bool,(.int .u64),(.int .u64)] τ4),oD 40 (.callF 92 [XgH]),oD 41 (.loadN [.bool,(.int .u64),(.int .u64)] τ5),oD 42 (.callF 92 [Xht]),oD 43 (.bin .add Xhx Xhs),oD 44 (.callF 94 [(.const (.int .i64 0)),(.const (.int .i64 1))]),oD 45 (.bin .add Xhz Xh4),oM 46 τ2,oD 47 (.callF 94 [Xin,(.const (.int .i64 1))]),oD 48 (.bin .add XhP Xh7),oM 49 τ3,oD 50 (.callF 94 [XiL,(.const (.int .i64 2))])] [(1,2)] [oD 51 (.bin .add XiP XiR),oM 8 XiQ]
def X6R:VC:=.seq XLW .ret
def X7G:VC:=.seq XOq X6R
def XVL:VC:=.seq k95_5 X7G
def XzY:VC:=.seq k95_0 XVL
def fn95:VFn:=⟨52,XzY,[.tmp 8]⟩
def k97_0:VC:=.reg [oD 1 (.box τ0),oD 2 (.mv (.const (.bool false)))]
def k97_1:VC:=.reg [oD 3 (.fieldA 0 τ1),oD 4 (.load1 .bool τ3),oM 5 τ4,oG 6 (.fieldA 1 τ1) 5 false,oG 7 (.load1 (.int .u64) τ6) 5 false,oG 8 (.bin .eql τ7 (.const (.int .u64 0))) 5 false,oG 9 (.mv τ8) 5 false,oG 10 (.fieldA 2 τ1) 9 true,oG 11 (.load1 (.int .u64) Xcd) 9 true,oG 12 (.bin .lss Xb7 (.const (.int .u64 4294967296))) 9 true,oG 13 (.pick τ9 XcZ (.const (.bool false))) 5 false,oD 14 (.pick τ5 (.const (.bool true)) Xc0),oM 2 Xdo]
def k97_2:VC:=.seq k97_1 .ret
def XMA:VC:=.seq k97_0 k97_2
def fn97:VFn:=⟨15,XMA,[.tmp 2]⟩
def k92_0:VC:=.reg [oD 1 (.box τ0),oD 2 (.mv (.const (.string ⟨⟨[]⟩⟩)))]
def k92_1:VC:=.reg [oD 3 (.loadN [.bool,(.int .u64),(.int .u64)] τ1),oD 4 (.callF 97 [τ3]),oD 5 (.not τ4)]
def k92_2:VC:=.reg [oD 2 (.mv (.const (.string ⟨⟨[]⟩⟩)))]
def k92_3:VC:=.seq k92_2 .ret
def k92_4:VC:=.cond τ5 k92_3 .skip
def k92_5:VC:=.seq k92_1 k92_4
def k92_6:VC:=.reg [oD 6 (.fieldA 0 τ1),oD 7 (.load1 .bool τ6)]
def k92_7:VC:=.regD [oD 8 (.fieldA 1 τ1),oD 9 (.load1 (.int .u64) τ8),oD 10 (.callF 85 [τ9,(.const (.int .i64 8))]),oD 11 (.fieldA 2 τ1),oD 12 (.load1 (.int .u64) Xb7)] [(2,4)] [oD 13 (.callF 85 [XcZ,(.const (.int .i64 8))]),oD 14 (.bin .add Xcd Xc0),oM 2 Xdo]
def k92_8:VC:=.seq k92_7 .ret
def k92_9:VC:=.cond τ7 k92_8 .skip
def X02:VC:=.seq k92_6 k92_9
def XTV:VC:=.reg [oD 15 (.fieldA 2 τ1),oD 16 (.load1 (.int .u64) Xdm),oD 17 (.callF 85 [Xdp,(.const (.int .i64 4))]),oM 2 Xdn]
def X6F:VC:=.seq XTV .ret
def XMK:VC:=.seq X02 X6F
def X50:VC:=.seq k92_5 XMK
def XAt:VC:=.seq k92_0 X50
def fn92:VFn:=⟨18,XAt,[.tmp 2]⟩
def k85_0:VC:=.reg [oD 4 (.mv (.const (.string ⟨⟨[]⟩⟩)))]
def k85_1:VC:=.reg [oD 5 (.mv (.const (.string ⟨⟨[]⟩⟩)))]
def k85_2:VC:=.reg [oD 6 (.mv (.const (.int .i64 0)))]
def k85_3:VC:=.reg [oM 7 τ6,oM 8 τ1,oD 9 (.bin .lss τ7 τ8),oM 10 τ9,oG 11 (.mv τ1) 10 true,oG 12 (.bin .leq Xb7 (.const (.int .i64 8))) 10 true,oD 13 (.pick Xcd XcZ (.const (.bool false)))]
def k85_4:VC:=.cond Xc0 .skip (.exit 0)
def k85_5:VC:=.seq k85_3 k85_4
def k85_6:VC:=.reg [oM 16 τ0,oD 17 (.bin .rem Xdp (.const (.int .u64 256))),oD 18 (.conv .u8 Xdn),oD 19 (.buildSl 1 1 [(.int .u8 0)] [(0,1,XdW)]),oD 20 (.b2s XdM),oM 21 τ5,oD 22 (.bin .add Xea Xeh),oM 5 XeF]
def k85_7:VC:=.reg [oM 23 τ0,oD 24 (.bin .quo XeO (.const (.int .u64 256))),oM 0 XeB]
def k85_8:VC:=.seq k85_6 k85_7
def k85_9:VC:=.block 1 k85_8
def XS2:VC:=.reg [oM 14 τ6,oD 15 (.bin .add Xdo (.const (.int .i64 1))),oM 6 Xdm]
def XZc:VC:=.seq k85_9 XS2
def XvN:VC:=.seq k85_5 XZc
def XXu:VC:=.loop XvN
def X6H:VC:=.block 0 XXu
def XOC:VC:=.seq k85_2 X6H
def XW4:VC:=.reg [oM 25 τ5,oM 4 XeW]
def Xz2:VC:=.seq XW4 .ret
def XO2:VC:=.seq XOC Xz2
def XWh:VC:=.seq k85_1 XO2
def XBp:VC:=.seq k85_0 XWh
def fn85:VFn:=⟨26,XBp,[.tmp 4]⟩
def k94_0:VC:=.reg [oD 4 (.mv (.const (.string ⟨⟨[]⟩⟩)))]
def k94_1:VC:=.reg [oM 5 τ0,oD 6 (.conv .u64 τ5),oM 7 τ1,oD 8 (.callF 85 [τ6,τ7]),oM 4 τ8]
def k94_2:VC:=.seq k94_1 .ret
def XVm:VC:=.seq k94_0 k94_2
def fn94:VFn:=⟨9,XVm,[.tmp 4]⟩
def XYE:VC:=.reg [oD 2 (.mv (.const (.slice none 0 0))),oD 3 (.mv (.const (.int .i64 0)))]
def XRf:VC:=.reg [oD 4 (.mv (.const (.slice none 0 0)))]
def X6e:VC:=.reg [oD 5 (.mv (.const (.int .i64 0)))]
def XO3:VC:=.reg [oM 7 τ5,oM 8 τ0,oD 9 (.lenS τ8),oD 10 (.bin .lss τ7 τ9),oM 11 Xcd,oG 12 (.mv τ0) 11 true,oG 13 (.mv τ5) 11 true,oG 14 (.idxS XcZ Xc0) 11 true,oG 15 (.bin .neq Xdo (.const (.int .u8 0))) 11 true,oD 16 (.pick Xb7 Xdm (.const (.bool false)))]
def XOr:VC:=.cond Xdp .skip (.exit 0)
def XPa:VC:=.seq XO3 XOr
def XRG:VC:=.reg [oM 17 τ0,oM 18 τ5,oD 19 (.idxS Xdn XdW),oD 20 (.bin .eql XdM (.const (.int .u8 1)))]
def XZv:VC:=.reg [oM 21 τ5,oD 22 (.bin .add Xeh (.const (.int .i64 1))),oM 5 XeF]
def XWY:VC:=.seq XZv (.exit 1)
def XON:VC:=.cond Xea XWY .skip
def XC4:VC:=.seq XRG XON
def XFN:VC:=.reg [oM 23 τ5,oD 24 (.bin .add XeO (.const (.int .i64 1))),oM 25 τ0,oD 26 (.lenS XeW),oD 27 (.bin .geq XeB Xeq),oM 28 XeV,oG 29 (.mv τ0) 28 false,oG 30 (.mv τ5) 28 false,oG 31 (.bin .add Xfz (.const (.int .i64 1))) 28 false,oG 32 (.idxS Xe4 Xfv) 28 false,oG 33 (.bin .lss XfB (.const (.int .u8 2))) 28 false,oD 34 (.pick XeP (.const (.bool true)) XfC),oM 35 XfE,oG 36 (.mv τ0) 35 false,oG 37 (.mv τ5) 35 false,oG 38 (.bin .add XfA (.const (.int .i64 1))) 35 false,oG 39 (.idxS XfV XgL) 35 false,oG 40 (.conv .i64 XgH) 35 false,oG 41 (.mv τ0) 35 false,oG 42 (.lenS Xht) 35 false,oG 43 (.mv τ5) 35 false,oG 44 (.bin .sub Xhs Xhz) 35 false,oG 45 (.bin .gtr Xhx Xh4) 35 false,oD 46 (.pick XfJ (.const (.bool true)) XhP)]
def XJm:VC:=.reg [oD 2 (.mv (.const (.slice none 0 0))),oD 3 (.mv (.const (.int .i64 3)))]
def XKw:VC:=.seq XJm .ret
def XHV:VC:=.cond Xin XKw .skip
def XF1:VC:=.seq XFN XHV
def XKd:VC:=.reg [oM 47 τ0,oM 48 τ5,oD 49 (.bin .add XiP (.const (.int .i64 1))),oD 50 (.idxS Xh7 XiL),oD 51 (.conv .i64 XiR),oM 6 XiQ]
def XKr:VC:=.regD [oM 52 τ4,oM 53 τ0,oM 54 τ5,oD 55 (.idxS XjZ Xk1),oD 56 (.conv .i64 XkZ),oM 57 τ0,oM 58 τ5,oD 59 (.bin .add XkW (.const (.int .i64 2))),oM 60 τ5,oM 61 τ6,oD 62 (.bin .add XlW Xl9),oD 63 (.sliceS XkP (some Xlf) (some XmV)),oM 64 τ5,oD 65 (.bin .add Xoh (.const (.int .i64 2))),oD 66 (.build [(.int .i64 0),(.string ⟨⟨[]⟩⟩),(.int .i64 0)] [(0,1,Xk7),(1,1,Xox),(2,1,XoD)]),oD 67 (.buildSl 1 3 [(.int .i64 0),(.string ⟨⟨[]⟩⟩),(.int .i64 0)] [(0,3,XoJ)])] [] [oD 68 (.app 153 3 32 XjM XoF),oM 4 Xo6]
def XFn:VC:=.reg [oM 69 τ5,oM 70 τ6,oD 71 (.bin .add XoS XqW),oM 5 Xrk]
def XKB:VC:=.seq XKr XFn
def XJd:VC:=.seq XKd XKB
def XHi:VC:=.seq XF1 XJd
def XIh:VC:=.seq XC4 XHi
def XCo:VC:=.block 1 XIh
def Xqp:VC:=.seq XPa XCo
def XFb:VC:=.loop Xqp
def XKX:VC:=.block 0 XFb
def XGb:VC:=.seq X6e XKX
def XGu:VC:=.reg [oM 72 τ4,oM 2 Xrb,oD 3 (.mv (.const (.int .i64 0)))]
def XtL:VC:=.seq XGu .ret
def XHm:VC:=.seq XGb XtL
def XIW:VC:=.seq XRf XHm
def Xtq:VC:=.seq XYE XIW
def XX0:VFn:=⟨73,Xtq,[.tmp 2,.tmp 3]⟩
def k58_0:VC:=.reg [oD 2 (.mv (.const (.int .u32 0))),oD 3 (.mv (.const (.int .u32 0))),oD 4 (.mv (.const (.int .i64 0)))]
def k58_1:VC:=.reg [oM 9 τ0,oD 10 (.callF 101 [τ9]),oM 8 Xcd,oE 11 0 τ8,oE 12 1 τ8,oM 5 Xb7,oM 6 XcZ]
def k58_2:VC:=.reg [oD 7 (.mv (.const (.int .i64 0)))]
def k58_3:VC:=.reg [oM 13 τ7,oM 14 τ5,oD 15 (.lenL Xdo),oD 16 (.bin .lss Xc0 Xdm)]
def k58_4:VC:=.cond Xdp .skip (.exit 0)
def k58_5:VC:=.seq k58_3 k58_4
def k58_6:VC:=.reg [oM 19 τ5,oM 20 τ7,oD 21 (.idxAL 3 XdM Xea),oD 22 (.fieldA 0 Xeh),oD 23 (.load1 (.int .i64) XeF),oD 24 (.bin .eql XeO (.const (.int .i64 8)))]
def k58_7:VC:=.reg [oM 25 τ5,oM 26 τ7,oD 27 (.idxAL 3 XeW Xeq),oD 28 (.fieldA 1 XeV),oD 29 (.load1 .str XeP),oD 30 (.lenS Xe4),oD 31 (.bin .neq Xfz (.const (.int .i64 8)))]
def k58_8:VC:=.reg [oD 2 (.mv (.const (.int .u32 0))),oD 3 (.mv (.const (.int .u32 0))),oD 4 (.mv (.const (.int .i64 (-1))))]
def k58_9:VC:=.seq k58_8 .ret
def X7x:VC:=.cond Xfv k58_9 .skip
def XML:VC:=.seq k58_7 X7x
def XM1:VC:=.regD [oM 32 τ5,oM 33 τ7,oD 34 (.idxAL 3 XfB XfC),oD 35 (.fieldA 1 XfE),oD 36 (.load1 .str XfJ),oD 37 (.callF 44 [XfV,(.const (.int .i64 0)),(.const (.int .i64 4))]),oD 38 (.conv .u32 XfA),oM 39 τ5,oM 40 τ7,oD 41 (.idxAL 3 XgH Xhx),oD 42 (.fieldA 1 Xht),oD 43 (.load1 .str Xhs),oD 44 (.callF 44 [Xhz,(.const (.int .i64 4)),(.const (.int .i64 4))]),oD 45 (.conv .u32 Xh4),oM 46 τ5,oM 47 τ7,oD 48 (.idxAL 3 Xin Xh7),oD 49 (.fieldA 2 XiP),oD 50 (.load1 (.int .i64) XiL),oM 2 XgL,oM 3 XhP] [(5,11),(5,18),(12,18)] [oM 4 XiR]
def XWS:VC:=.seq XM1 .ret
def XUm:VC:=.seq XML XWS
def X0s:VC:=.cond XeB XUm .skip
def XUt:VC:=.seq k58_6 X0s
def X4k:VC:=.block 1 XUt
def XRm:VC:=.reg [oM 17 τ7,oD 18 (.bin .add Xdn (.const (.int .i64 1))),oM 7 XdW]
def XNZ:VC:=.seq X4k XRm
def XtU:VC:=.seq k58_5 XNZ
def XRz:VC:=.loop XtU
def XZT:VC:=.block 0 XRz
def XM7:VC:=.seq k58_2 XZT
def XMf:VC:=.reg [oD 2 (.mv (.const (.int .u32 0))),oD 3 (.mv (.const (.int .u32 0))),oD 4 (.mv (.const (.int .i64 (-1))))]
def XBh:VC:=.seq XMf .ret
def XXj:VC:=.seq XM7 XBh
def XVE:VC:=.seq k58_1 XXj
def XAU:VC:=.seq k58_0 XVE
def fn58:VFn:=⟨51,XAU,[.tmp 2,.tmp 3,.tmp 4]⟩
def k59_0:VC:=.reg [oD 4 (.box τ1),oD 5 (.box τ2),oD 6 (.alloc [(.int .i64 0),(.int .i64 0)]),oD 7 (.mv (.const (.string ⟨⟨[]⟩⟩))),oD 8 (.mv (.const (.int .i64 0)))]
def k59_1:VC:=.reg [oM 11 τ0,oD 12 (.lenS Xb7),oD 13 (.bin .lss XcZ (.const (.int .i64 8)))]
def k59_2:VC:=.reg [oD 14 (.build [(.int .i64 0),(.int .i64 0)] []),oN (.store 2 τ6 Xdo),oD 7 (.mv (.const (.string ⟨⟨[]⟩⟩))),oD 8 (.mv (.const (.int .i64 2)))]
def k59_3:VC:=.seq k59_2 .ret
def k59_4:VC:=.cond Xc0 k59_3 .skip
def k59_5:VC:=.seq k59_1 k59_4
def k59_6:VC:=.reg [oM 15 τ0,oD 16 (.callF 44 [Xdm,(.const (.int .i64 4)),(.const (.int .i64 2))]),oM 9 Xdp]
def k59_7:VC:=.reg [oM 17 τ9,oD 18 (.bin .lss Xdn (.const (.int .i64 8)))]
def k59_8:VC:=.reg [oD 19 (.build [(.int .i64 0),(.int .i64 0)] []),oN (.store 2 τ6 XdM),oD 7 (.mv (.const (.string ⟨⟨[]⟩⟩))),oD 8 (.mv (.const (.int .i64 3)))]
def k59_9:VC:=.seq k59_8 .ret
def XXB:VC:=.cond XdW k59_9 .skip
def XWz:VC:=.seq k59_7 XXB
def XZz:VC:=.reg [oM 20 τ0,oD 21 (.lenS Xea),oM 22 τ9,oD 23 (.bin .lss Xeh XeF)]
def X1F:VC:=.reg [oD 24 (.build [(.int .i64 0),(.int .i64 0)] []),oN (.store 2 τ6 XeB),oD 7 (.mv (.const (.string ⟨⟨[]⟩⟩))),oD 8 (.mv (.const (.int .i64 2)))]
def XNJ:VC:=.seq X1F .ret
def XLT:VC:=.cond XeO XNJ .skip
def XWb:VC:=.seq XZz XLT
def XRd:VC:=.reg [oD 25 (.loadN [.bool,(.int .u64),(.int .u64)] τ4),oD 26 (.loadN [.bool,(.int .u64),(.int .u64)] τ5),oM 27 τ9,oD 28 (.callF 95 [XeW,Xeq,(.const (.int .i64 17)),XeV]),oM 10 XeP]
def XTh:VC:=.reg [oM 29 Xcd,oD 30 (.bin .eql Xe4 (.const (.string ⟨⟨[]⟩⟩)))]
def XL2:VC:=.reg [oD 31 (.build [(.int .i64 0),(.int .i64 0)] []),oN (.store 2 τ6 Xfv),oD 7 (.mv (.const (.string ⟨⟨[]⟩⟩))),oD 8 (.mv (.const (.int .i64 1)))]
def XSM:VC:=.seq XL2 .ret
def X6a:VC:=.cond Xfz XSM .skip
def XYh:VC:=.seq XTh X6a
def XVx:VC:=.reg [oM 32 τ0,oD 33 (.callF 44 [XfB,(.const (.int .i64 6)),(.const (.int .i64 2))]),oD 34 (.bin .eql XfC (.const (.int .i64 0)))]
def X2k:VC:=.reg [oD 35 (.fieldA 0 τ4),oD 36 (.load1 .bool XfJ)]
def XOP:VC:=.reg [oD 37 (.build [(.int .i64 0),(.int .i64 0)] []),oN (.store 2 τ6 XfA),oD 7 (.mv (.const (.string ⟨⟨[]⟩⟩))),oD 8 (.mv (.const (.int .i64 4)))]
def XMZ:VC:=.seq XOP .ret
def XWL:VC:=.cond XfV XMZ .skip
def XT6:VC:=.seq X2k XWL
def XVX:VC:=.reg [oM 38 Xcd,oM 39 τ0,oM 40 τ9,oD 41 (.sliceS XgH none (some Xhx)),oD 42 (.bin .add XgL Xht),oD 43 (.callF 100 [Xhs]),oD 44 (.bin .neq Xhz (.const (.int .i64 65535)))]
def XSm:VC:=.reg [oD 45 (.build [(.int .i64 0),(.int .i64 0)] []),oN (.store 2 τ6 XhP),oD 7 (.mv (.const (.string ⟨⟨[]⟩⟩))),oD 8 (.mv (.const (.int .i64 4)))]
def XVT:VC:=.seq XSm .ret
def X7e:VC:=.cond Xh4 XVT .skip
def XN4:VC:=.seq XVX X7e
def X3X:VC:=.cond XfE XT6 XN4
def XQN:VC:=.seq XVx X3X
def XMD:VC:=.regD [oM 46 τ0,oD 47 (.callF 44 [Xin,(.const (.int .i64 0)),(.const (.int .i64 2))]),oM 48 τ0,oD 49 (.callF 44 [XiP,(.const (.int .i64 2)),(.const (.int .i64 2))]),oD 50 (.build [(.int .i64 0),(.int .i64 0)] [(0,1,Xh7),(1,1,XiL)]),oM 51 τ0,oM 52 τ9,oD 53 (.sliceS XiQ (some (.const (.int .i64 8))) (some XjM)),oN (.store 2 τ6 XiR)] [] [oM 7 XjZ,oD 8 (.mv (.const (.int .i64 0)))]
def XU5:VC:=.seq XMD .ret
def XVg:VC:=.seq XQN XU5
def XRI:VC:=.seq XYh XVg
def XXK:VC:=.seq XRd XRI
def XTz:VC:=.seq XWb XXK
def XXU:VC:=.seq XWz XTz
def X6i:VC:=.seq k59_6 XXU
def XYP:VC:=.seq k59_5 X6i
def XAD:VC:=.seq k59_0 XYP
def fn59:VFn:=⟨54,XAD,[.cell 6 [(.int .i64),(.int .i64)] true,.tmp 7,.tmp 8]⟩
def k21_0:VC:=.reg [oD 2 (.alloc [(.bool false),(.int .i64 0),(.int .u32 0),(.string ⟨⟨[]⟩⟩),(.string ⟨⟨[]⟩⟩),(.string ⟨⟨[]⟩⟩)]),oD 3 (.mv (.const (.int .i64 0)))]
def k21_1:VC:=.reg [oM 10 τ0,oD 11 (.bin .eql Xcd (.const (.string ⟨⟨[]⟩⟩)))]
def k21_2:VC:=.reg [oD 12 (.build [(.bool false),(.int .i64 0),(.int .u32 0),(.string ⟨⟨[]⟩⟩),(.string ⟨⟨[]⟩⟩),(.string ⟨⟨[]⟩⟩)] []),oN (.store 6 τ2 XcZ),oD 3 (.mv (.const (.int .i64 2)))]
def k21_3:VC:=.seq k21_2 .ret
def k21_4:VC:=.cond Xb7 k21_3 .skip
def k21_5:VC:=.seq k21_1 k21_4
def k21_6:VC:=.reg [oM 13 τ0,oD 14 (.idxS Xc0 (.const (.int .i64 0))),oD 15 (.bin .quo Xdo (.const (.int .u8 64))),oD 16 (.bin .rem Xdm (.const (.int .u8 2))),oD 17 (.bin .eql Xdp (.const (.int .u8 0)))]
def k21_7:VC:=.reg [oD 18 (.build [(.bool false),(.int .i64 0),(.int .u32 0),(.string ⟨⟨[]⟩⟩),(.string ⟨⟨[]⟩⟩),(.string ⟨⟨[]⟩⟩)] []),oN (.store 6 τ2 XdW),oD 3 (.mv (.const (.int .i64 3)))]
def k21_8:VC:=.seq k21_7 .ret
def k21_9:VC:=.cond Xdn k21_8 .skip
def XTP:VC:=.seq k21_6 k21_9
def XO4:VC:=.regD [oM 19 τ0,oD 20 (.idxS XdM (.const (.int .i64 0))),oD 21 (.bin .geq Xea (.const (.int .u8 128))),oM 22 τ0,oD 23 (.idxS XeF (.const (.int .i64 0))),oD 24 (.bin .rem XeO (.const (.int .u8 64))),oD 25 (.conv .i64 XeB),oD 26 (.build [(.bool false),(.int .i64 0),(.int .u32 0),(.string ⟨⟨[]⟩⟩),(.string ⟨⟨[]⟩⟩),(.string ⟨⟨[]⟩⟩)] [(0,1,Xeh),(1,1,XeW)]),oD 4 (.alloc [(.bool false),(.int .i64 0),(.int .u32 0),(.string ⟨⟨[]⟩⟩),(.string ⟨⟨[]⟩⟩),(.string ⟨⟨[]⟩⟩)])] [] [oN (.store 6 τ4 Xeq)]
def XWI:VC:=.reg [oD 27 (.fieldA 0 τ4),oD 28 (.load1 .bool XeV),oD 29 (.not XeP)]
def X6k:VC:=.reg [oM 30 τ0,oD 31 (.lenS Xfz),oD 32 (.bin .lss Xfv (.const (.int .i64 9)))]
def XTE:VC:=.reg [oD 33 (.build [(.bool false),(.int .i64 0),(.int .u32 0),(.string ⟨⟨[]⟩⟩),(.string ⟨⟨[]⟩⟩),(.string ⟨⟨[]⟩⟩)] []),oN (.store 6 τ2 XfC),oD 3 (.mv (.const (.int .i64 2)))]
def XNd:VC:=.seq XTE .ret
def XRx:VC:=.cond XfB XNd .skip
def XOp:VC:=.seq X6k XRx
def XUa:VC:=.reg [oM 34 τ0,oD 35 (.sliceS XfE (some (.const (.int .i64 1))) (some (.const (.int .i64 9)))),oD 36 (.fieldA 3 τ4),oN (.store 1 XfV XfJ)]
def X5E:VC:=.reg [oM 37 τ0,oD 38 (.sliceS XfA (some (.const (.int .i64 9))) none),oD 39 (.fieldA 5 τ4),oN (.store 1 XgH XgL)]
def X55:VC:=.reg [oD 40 (.loadN [.bool,(.int .i64),(.int .u32),.str,.str,.str] τ4),oN (.store 6 τ2 Xhx),oD 3 (.mv (.const (.int .i64 0)))]
def XRM:VC:=.seq X55 .ret
def XWf:VC:=.seq X5E XRM
def X6D:VC:=.seq XUa XWf
def XWN:VC:=.seq XOp X6D
def X6y:VC:=.cond Xe4 XWN .skip
def XUy:VC:=.seq XWI X6y
def XWt:VC:=.reg [oM 41 τ0,oD 42 (.lenS Xht),oD 43 (.bin .lss Xhs (.const (.int .i64 5)))]
def XOy:VC:=.reg [oD 44 (.build [(.bool false),(.int .i64 0),(.int .u32 0),(.string ⟨⟨[]⟩⟩),(.string ⟨⟨[]⟩⟩),(.string ⟨⟨[]⟩⟩)] []),oN (.store 6 τ2 Xh4),oD 3 (.mv (.const (.int .i64 2)))]
def X3c:VC:=.seq XOy .ret
def XSt:VC:=.cond Xhz X3c .skip
def XMY:VC:=.seq XWt XSt
def XQ5:VC:=.reg [oM 45 τ0,oD 46 (.callF 44 [XhP,(.const (.int .i64 1)),(.const (.int .i64 4))]),oD 47 (.conv .u32 Xin),oD 48 (.fieldA 2 τ4),oN (.store 1 XiP Xh7)]
def X18:VC:=.reg [oM 50 τ0,oD 51 (.callF 45 [XiR,(.const (.int .i64 5))]),oM 49 XiQ,oE 52 0 XiL,oE 53 1 XiL,oE 54 2 XiL,oM 5 XjM,oM 6 XjZ,oM 7 Xk1]
def X3m:VC:=.reg [oM 55 τ6,oD 56 (.bin .neq XkZ (.const (.int .i64 0)))]
def X0F:VC:=.reg [oD 57 (.build [(.bool false),(.int .i64 0),(.int .u32 0),(.string ⟨⟨[]⟩⟩),(.string ⟨⟨[]⟩⟩),(.string ⟨⟨[]⟩⟩)] []),oM 58 τ6,oN (.store 6 τ2 XkP),oM 3 XkW]
def XOl:VC:=.seq X0F .ret
def XYW:VC:=.cond Xk7 XOl .skip
def X6K:VC:=.seq X3m XYW
def X2R:VC:=.reg [oM 60 τ0,oM 61 τ7,oD 62 (.callF 45 [XlW,Xl9]),oM 59 XmV,oE 63 0 Xlf,oE 64 1 Xlf,oE 65 2 Xlf,oM 8 Xox,oM 6 Xoh,oM 9 XoD]
def XO6:VC:=.reg [oM 66 τ6,oD 67 (.bin .neq XoJ (.const (.int .i64 0)))]
def XUb:VC:=.reg [oD 68 (.build [(.bool false),(.int .i64 0),(.int .u32 0),(.string ⟨⟨[]⟩⟩),(.string ⟨⟨[]⟩⟩),(.string ⟨⟨[]⟩⟩)] []),oM 69 τ6,oN (.store 6 τ2 Xo6),oM 3 XoS]
def XQr:VC:=.seq XUb .ret
def XTI:VC:=.cond XoF XQr .skip
def XUd:VC:=.seq XO6 XTI
def XU9:VC:=.reg [oM 70 τ5,oD 71 (.fieldA 3 τ4),oN (.store 1 Xrk XqW)]
def X7z:VC:=.reg [oM 72 τ8,oD 73 (.fieldA 4 τ4),oN (.store 1 XsD Xrb)]
def X0Z:VC:=.reg [oM 74 τ0,oM 75 τ9,oD 76 (.sliceS Xtu (some Xs2) none),oD 77 (.fieldA 5 τ4),oN (.store 1 Xuj Xwf)]
def XX7:VC:=.reg [oD 78 (.loadN [.bool,(.int .i64),(.int .u32),.str,.str,.str] τ4),oN (.store 6 τ2 Xv5),oD 3 (.mv (.const (.int .i64 0)))]
def X6Q:VC:=.seq XX7 .ret
def XNR:VC:=.seq X0Z X6Q
def XYs:VC:=.seq X7z XNR
def XMg:VC:=.seq XU9 XYs
def XSL:VC:=.seq XUd XMg
def XSs:VC:=.seq X2R XSL
def XLN:VC:=.seq X6K XSs
def XSP:VC:=.seq X18 XLN
def X6S:VC:=.seq XQ5 XSP
def XUz:VC:=.seq XMY X6S
def X5J:VC:=.seq XUy XUz
def XW2:VC:=.seq XO4 X5J
def XTa:VC:=.seq XTP XW2
def X45:VC:=.seq k21_5 XTa
def XAF:VC:=.seq k21_0 X45
def fn21:VFn:=⟨79,XAF,[.cell 2 [.bool,(.int .i64),(.int .u32),.str,.str,.str] true,.tmp 3]⟩
def k45_0:VC:=.reg [oD 4 (.mv (.const (.string ⟨⟨[]⟩⟩))),oD 5 (.mv (.const (.int .i64 0))),oD 6 (.mv (.const (.int .i64 0)))]
def k45_1:VC:=.reg [oM 8 τ1,oM 9 τ0,oD 10 (.lenS τ9),oD 11 (.bin .geq τ8 Xcd)]
def k45_2:VC:=.reg [oD 4 (.mv (.const (.string ⟨⟨[]⟩⟩))),oD 5 (.mv (.const (.int .i64 2))),oD 6 (.mv (.const (.int .i64 0)))]
def k45_3:VC:=.seq k45_2 .ret
def k45_4:VC:=.cond Xb7 k45_3 .skip
def k45_5:VC:=.seq k45_1 k45_4
def k45_6:VC:=.reg [oM 12 τ0,oM 13 τ1,oD 14 (.idxS XcZ Xc0),oD 15 (.conv .i64 Xdo),oM 7 Xdm]
def k45_7:VC:=.reg [oM 16 τ7,oD 17 (.bin .gtr Xdp (.const (.int .i64 20)))]
def k45_8:VC:=.reg [oD 4 (.mv (.const (.string ⟨⟨[]⟩⟩))),oD 5 (.mv (.const (.int .i64 3))),oD 6 (.mv (.const (.int .i64 0)))]
def k45_9:VC:=.seq k45_8 .ret
def XS6:VC:=.cond Xdn k45_9 .skip
def XV1:VC:=.seq k45_7 XS6
def X0m:VC:=.reg [oM 18 τ7,oM 19 τ0,oD 20 (.lenS XdM),oM 21 τ1,oD 22 (.bin .sub Xea Xeh),oD 23 (.bin .sub XeF (.const (.int .i64 1))),oD 24 (.bin .gtr XdW XeO)]
def XPc:VC:=.reg [oD 4 (.mv (.const (.string ⟨⟨[]⟩⟩))),oD 5 (.mv (.const (.int .i64 2))),oD 6 (.mv (.const (.int .i64 0)))]
def XP4:VC:=.seq XPc .ret
def X2Z:VC:=.cond XeB XP4 .skip
def X4I:VC:=.seq X0m X2Z
def XUk:VC:=.reg [oM 25 τ0,oM 26 τ1,oD 27 (.bin .add Xeq (.const (.int .i64 1))),oM 28 τ1,oD 29 (.bin .add XeP (.const (.int .i64 1))),oM 30 τ7,oD 31 (.bin .add Xe4 Xfz),oD 32 (.sliceS XeW (some XeV) (some Xfv)),oM 33 τ1,oD 34 (.bin .add XfC (.const (.int .i64 1))),oM 35 τ7,oD 36 (.bin .add XfE XfJ),oM 4 XfB,oD 5 (.mv (.const (.int .i64 0))),oM 6 XfV]
def X26:VC:=.seq XUk .ret
def X4M:VC:=.seq X4I X26
def XVv:VC:=.seq XV1 X4M
def X65:VC:=.seq k45_6 XVv
def XMC:VC:=.seq k45_5 X65
def XAK:VC:=.seq k45_0 XMC
def fn45:VFn:=⟨37,XAK,[.tmp 4,.tmp 5,.tmp 6]⟩
def k9_0:VC:=.reg [oD 4 (.mv (.const (.int .i64 0)))]
def k9_1:VC:=.reg [oM 5 τ0,oD 6 (.callF 26 [τ5]),oD 7 (.not τ6)]
def k9_2:VC:=.reg [oD 4 (.mv (.const (.int .i64 0)))]
def k9_3:VC:=.seq k9_2 .ret
def k9_4:VC:=.cond τ7 k9_3 .skip
def k9_5:VC:=.seq k9_1 k9_4
def k9_6:VC:=.reg [oM 8 τ1]
def k9_7:VC:=.reg [oM 9 τ0,oD 10 (.bin .sub τ9 (.const (.int .i64 48))),oD 11 (.bin .sub Xcd (.const (.int .i64 18))),oM 4 Xb7]
def k9_8:VC:=.seq k9_7 .ret
def k9_9:VC:=.cond τ8 k9_8 .skip
def k9_10:VC:=.seq k9_6 k9_9
def k9_11:VC:=.reg [oM 12 τ0,oD 13 (.bin .sub XcZ (.const (.int .i64 28))),oD 14 (.bin .sub Xc0 (.const (.int .i64 18))),oM 4 Xdo]
def k9_12:VC:=.seq k9_11 .ret
def k9_13:VC:=.seq k9_10 k9_12
def k9_14:VC:=.seq k9_5 k9_13
def XQB:VC:=.seq k9_0 k9_14
def fn9:VFn:=⟨15,XQB,[.tmp 4]⟩
def k26_0:VC:=.reg [oD 2 (.mv (.const (.bool false)))]
def k26_1:VC:=.reg [oM 3 τ0,oD 4 (.bin .geq τ3 (.const (.int .i64 576))),oM 5 τ4,oG 6 (.mv τ0) 5 true,oG 7 (.bin .leq τ6 (.const (.int .i64 9000))) 5 true,oD 8 (.pick τ5 τ7 (.const (.bool false))),oM 2 τ8]
def k26_2:VC:=.seq k26_1 .ret
def XMe:VC:=.seq k26_0 k26_2
def fn26:VFn:=⟨9,XMe,[.tmp 2]⟩
def k27_0:VC:=.reg [oD 3 (.box τ0),oD 4 (.box τ1),oD 5 (.box τ2),oD 6 (.mv (.const (.string ⟨⟨[]⟩⟩))),oD 7 (.mv (.const (.int .i64 0)))]
def k27_1:VC:=.reg [oD 11 (.loadN [(.int .i64),(.int .i64),(.int .i64),.str] τ3),oD 12 (.loadN [.bool,(.int .u64),(.int .u64)] τ4),oD 13 (.loadN [.bool,(.int .u64),(.int .u64)] τ5),oD 14 (.callF 50 [Xb7,XcZ,Xc0]),oM 10 Xdo,oE 15 0 Xcd,oE 16 1 Xcd,oM 8 Xdm,oM 9 Xdp]
def k27_2:VC:=.reg [oM 17 τ9,oD 18 (.bin .neq Xdn (.const (.int .i64 0)))]
def k27_3:VC:=.reg [oM 19 τ9,oD 6 (.mv (.const (.string ⟨⟨[]⟩⟩))),oM 7 XdM]
def k27_4:VC:=.seq k27_3 .ret
def k27_5:VC:=.cond XdW k27_4 .skip
def k27_6:VC:=.seq k27_2 k27_5
def k27_7:VC:=.reg [oD 20 (.fieldA 0 τ4),oD 21 (.load1 .bool Xea)]
def k27_8:VC:=.reg [oD 22 (.loadN [.bool,(.int .u64),(.int .u64)] τ4),oD 23 (.loadN [.bool,(.int .u64),(.int .u64)] τ5),oD 24 (.build [(.int .i64 0),(.int .i64 0),(.int .i64 0),(.int .i64 0),(.bool false),(.int .u64 0),(.int .u64 0),(.bool false),(.int .u64 0),(.int .u64 0)] [(2,1,(.const (.int .i64 58))),(3,1,(.const (.int .i64 64))),(4,3,XeF),(7,3,XeO)]),oM 25 τ8,oD 26 (.callF 51 [XeB,XeW]),oE 27 0 Xeq,oE 28 1 Xeq,oM 6 XeV,oM 7 XeP]
def k27_9:VC:=.seq k27_8 .ret
def XPn:VC:=.cond Xeh k27_9 .skip
def XN5:VC:=.seq k27_7 XPn
def XSb:VC:=.reg [oD 29 (.loadN [.bool,(.int .u64),(.int .u64)] τ4),oD 30 (.loadN [.bool,(.int .u64),(.int .u64)] τ5),oD 31 (.build [(.int .i64 0),(.int .i64 0),(.bool false),(.int .i64 0),(.int .i64 0),(.bool false),(.int .u64 0),(.int .u64 0),(.bool false),(.int .u64 0),(.int .u64 0),(.string ⟨⟨[]⟩⟩)] [(2,1,(.const (.bool true))),(3,1,(.const (.int .i64 64))),(4,1,(.const (.int .i64 1))),(5,3,Xe4),(8,3,Xfz)]),oM 32 τ8,oD 33 (.callF 52 [Xfv,XfB]),oE 34 0 XfC,oE 35 1 XfC,oM 6 XfE,oM 7 XfJ]
def XQE:VC:=.seq XSb .ret
def X0x:VC:=.seq XN5 XQE
def X27:VC:=.seq k27_6 X0x
def XNp:VC:=.seq k27_1 X27
def XBY:VC:=.seq k27_0 XNp
def fn27:VFn:=⟨36,XBY,[.tmp 6,.tmp 7]⟩
def k50_0:VC:=.reg [oD 3 (.box τ0),oD 4 (.box τ1),oD 5 (.box τ2),oD 6 (.mv (.const (.string ⟨⟨[]⟩⟩))),oD 7 (.mv (.const (.int .i64 0)))]
def k50_1:VC:=.reg [oD 9 (.loadN [.bool,(.int .u64),(.int .u64)] τ4),oD 10 (.loadN [.bool,(.int .u64),(.int .u64)] τ5),oD 11 (.callF 83 [τ9,Xcd]),oD 12 (.not Xb7),oM 13 XcZ,oG 14 (.loadN [(.int .i64),(.int .i64),(.int .i64),.str] τ3) 13 false,oG 15 (.fieldA 0 τ4) 13 false,oG 16 (.load1 .bool Xdm) 13 false,oG 17 (.callF 84 [Xdo,Xdp]) 13 false,oG 18 (.not Xdn) 13 false,oD 19 (.pick Xc0 (.const (.bool true)) XdW)]
def k50_2:VC:=.reg [oD 6 (.mv (.const (.string ⟨⟨[]⟩⟩))),oD 7 (.mv (.const (.int .i64 1)))]
def k50_3:VC:=.seq k50_2 .ret
def k50_4:VC:=.cond XdM k50_3 .skip
def k50_5:VC:=.seq k50_1 k50_4
def k50_6:VC:=.regD [oD 20 (.fieldA 0 τ4),oD 21 (.load1 .bool Xea),oD 22 (.fieldA 0 τ3),oD 23 (.load1 (.int .i64) XeF),oD 24 (.callF 86 [Xeh,XeO]),oD 25 (.conv .u64 XeB),oD 26 (.callF 85 [XeW,(.const (.int .i64 1))]),oD 27 (.fieldA 1 τ3),oD 28 (.load1 (.int .i64) XeV),oD 29 (.conv .u64 XeP),oD 30 (.callF 85 [Xe4,(.const (.int .i64 1))]),oD 31 (.bin .add Xeq Xfz),oD 32 (.bin .add Xfv (.const (.string ⟨⟨[0,0,0,0]⟩⟩))),oD 33 (.fieldA 2 τ3),oD 34 (.load1 (.int .i64) XfC),oD 35 (.conv .u64 XfE),oD 36 (.callF 85 [XfJ,(.const (.int .i64 2))]),oD 37 (.bin .add XfB XfV),oD 38 (.fieldA 3 τ3),oD 39 (.load1 .str XgL)] [(4,8),(4,14),(4,19),(6,8),(6,14),(6,19),(10,14),(10,19),(16,19)] [oD 40 (.bin .add XfA XgH),oM 8 Xhx]
def k50_7:VC:=.reg [oM 41 τ8,oD 42 (.loadN [.bool,(.int .u64),(.int .u64)] τ4),oD 43 (.loadN [.bool,(.int .u64),(.int .u64)] τ5),oM 44 τ8,oD 45 (.lenS Xh4),oD 46 (.callF 89 [Xhs,Xhz,XhP]),oM 47 τ8,oD 48 (.bin .add Xin Xh7),oD 49 (.callF 88 [XiP]),oD 50 (.conv .u64 XiL),oD 51 (.callF 87 [Xht,(.const (.int .i64 2)),(.const (.int .i64 2)),XiR]),oM 6 XiQ,oD 7 (.mv (.const (.int .i64 0)))]
def k50_8:VC:=.seq k50_7 .ret
def k50_9:VC:=.seq k50_6 k50_8
def XRn:VC:=.seq k50_5 k50_9
def XBW:VC:=.seq k50_0 XRn
def fn50:VFn:=⟨52,XBW,[.tmp 6,.tmp 7]⟩
def k83_0:VC:=.reg [oD 2 (.box τ0),oD 3 (.box τ1),oD 4 (.mv (.const (.bool false)))]
def k83_1:VC:=.reg [oD 5 (.loadN [.bool,(.int .u64),(.int .u64)] τ2),oD 6 (.loadN [.bool,(.int .u64),(.int .u64)] τ3),oD 7 (.callF 95 [τ5,τ6,(.const (.int .i64 1)),(.const (.int .i64 8))]),oD 8 (.bin .neq τ7 (.const (.string ⟨⟨[]⟩⟩))),oM 4 τ8]
def k83_2:VC:=.seq k83_1 .ret
def XOS:VC:=.seq k83_0 k83_2
def fn83:VFn:=⟨9,XOS,[.tmp 4]⟩
def k84_0:VC:=.reg [oD 2 (.box τ0),oD 4 (.mv (.const (.bool false)))]
def k84_1:VC:=.reg [oD 5 (.fieldA 0 τ2),oD 6 (.load1 (.int .i64) τ5),oD 7 (.bin .lss τ6 (.const (.int .i64 1))),oM 8 τ7,oG 9 (.fieldA 0 τ2) 8 false,oG 10 (.load1 (.int .i64) τ9) 8 false,oG 11 (.bin .gtr Xcd (.const (.int .i64 3))) 8 false,oD 12 (.pick τ8 (.const (.bool true)) Xb7),oM 13 XcZ,oG 14 (.fieldA 1 τ2) 13 false,oG 15 (.load1 (.int .i64) Xdo) 13 false,oG 16 (.bin .lss Xdm (.const (.int .i64 0))) 13 false,oD 17 (.pick Xc0 (.const (.bool true)) Xdp),oM 18 Xdn,oG 19 (.fieldA 1 τ2) 18 false,oG 20 (.load1 (.int .i64) XdM) 18 false,oG 21 (.bin .gtr Xea (.const (.int .i64 255))) 18 false,oD 22 (.pick XdW (.const (.bool true)) Xeh),oM 23 XeF,oG 24 (.fieldA 2 τ2) 23 false,oG 25 (.load1 (.int .i64) XeB) 23 false,oG 26 (.bin .lss XeW (.const (.int .i64 0))) 23 false,oD 27 (.pick XeO (.const (.bool true)) Xeq),oM 28 XeV,oG 29 (.fieldA 2 τ2) 28 false,oG 30 (.load1 (.int .i64) Xe4) 28 false,oG 31 (.bin .gtr Xfz (.const (.int .i64 65535))) 28 false,oD 32 (.pick XeP (.const (.bool true)) Xfv),oM 33 XfB,oG 34 (.fieldA 0 τ2) 33 false,oG 35 (.load1 (.int .i64) XfE) 33 false,oG 36 (.bin .neq XfJ (.const (.int .i64 2))) 33 false,oG 37 (.mv XfV) 33 false,oG 38 (.fieldA 2 τ2) 37 true,oG 39 (.load1 (.int .i64) XgL) 37 true,oG 40 (.bin .neq XgH (.const (.int .i64 0))) 37 true,oG 41 (.pick XfA Xhx (.const (.bool false))) 33 false,oD 42 (.pick XfC (.const (.bool true)) Xht),oM 43 Xhs,oG 44 (.fieldA 3 τ2) 43 false,oG 45 (.load1 .str Xh4) 43 false,oG 46 (.lenS XhP) 43 false,oG 47 (.bin .gtr Xin (.const (.int .i64 1232))) 43 false,oD 48 (.pick Xhz (.const (.bool true)) Xh7)]
def k84_2:VC:=.reg [oD 4 (.mv (.const (.bool false)))]
def k84_3:VC:=.seq k84_2 .ret
def k84_4:VC:=.cond XiP k84_3 .skip
def k84_5:VC:=.seq k84_1 k84_4
def k84_6:VC:=.reg [oM 49 τ1]
def k84_7:VC:=.reg [oD 50 (.fieldA 0 τ2),oD 51 (.load1 (.int .i64) XiR),oD 52 (.bin .neq XiQ (.const (.int .i64 2))),oM 53 XjM,oG 54 (.fieldA 1 τ2) 53 false,oG 55 (.load1 (.int .i64) Xk1) 53 false,oG 56 (.bin .eql XkZ (.const (.int .i64 0))) 53 false,oD 57 (.pick XjZ (.const (.bool true)) Xk7),oM 4 XkP]
def k84_8:VC:=.seq k84_7 .ret
def k84_9:VC:=.cond XiL k84_8 .skip
def XQv:VC:=.seq k84_6 k84_9
def X2O:VC:=.reg [oD 58 (.fieldA 0 τ2),oD 59 (.load1 (.int .i64) XkW),oD 60 (.bin .eql Xlf (.const (.int .i64 3))),oM 61 XlW,oG 62 (.fieldA 0 τ2) 61 false,oG 63 (.load1 (.int .i64) XmV) 61 false,oG 64 (.bin .eql Xox (.const (.int .i64 2))) 61 false,oG 65 (.fieldA 1 τ2) 61 false,oG 66 (.load1 (.int .i64) XoD) 61 false,oG 67 (.bin .eql XoJ (.const (.int .i64 4))) 61 false,oG 68 (.eqB false Xoh XoF) 61 false,oD 69 (.pick Xl9 (.const (.bool true)) Xo6),oM 4 XoS]
def X0e:VC:=.seq X2O .ret
def XYT:VC:=.seq XQv X0e
def X7E:VC:=.seq k84_5 XYT
def XAE:VC:=.seq k84_0 X7E
def fn84:VFn:=⟨70,XAE,[.tmp 4]⟩
def k86_0:VC:=.reg [oD 4 (.mv (.const (.int .i64 0)))]
def k86_1:VC:=.reg [oM 5 τ0]
def k86_2:VC:=.reg [oM 6 τ1,oM 4 τ6]
def k86_3:VC:=.seq k86_2 .ret
def k86_4:VC:=.cond τ5 k86_3 .skip
def k86_5:VC:=.seq k86_1 k86_4
def k86_6:VC:=.reg [oM 7 τ1,oD 8 (.bin .eql τ7 (.const (.int .i64 3)))]
def k86_7:VC:=.reg [oD 4 (.mv (.const (.int .i64 11)))]
def k86_8:VC:=.seq k86_7 .ret
def k86_9:VC:=.cond τ8 k86_8 .skip
def XOo:VC:=.seq k86_6 k86_9
def X1N:VC:=.reg [oD 4 (.mv (.const (.int .i64 3)))]
def XVQ:VC:=.seq X1N .ret
def XMW:VC:=.seq XOo XVQ
def XSZ:VC:=.seq k86_5 XMW
def XAx:VC:=.seq k86_0 XSZ
def fn86:VFn:=⟨9,XAx,[.tmp 4]⟩
def k89_0:VC:=.reg [oD 3 (.box τ0),oD 4 (.box τ1),oD 6 (.mv (.const (.string ⟨⟨[]⟩⟩)))]
def k89_1:VC:=.reg [oD 7 (.fieldA 0 τ3),oD 8 (.load1 .bool τ7)]
def k89_2:VC:=.reg [oD 9 (.loadN [.bool,(.int .u64),(.int .u64)] τ3),oD 10 (.loadN [.bool,(.int .u64),(.int .u64)] τ4),oM 11 τ2,oD 12 (.callF 95 [τ9,Xcd,(.const (.int .i64 58)),Xb7]),oM 6 XcZ]
def k89_3:VC:=.seq k89_2 .ret
def k89_4:VC:=.cond τ8 k89_3 .skip
def k89_5:VC:=.seq k89_1 k89_4
def k89_6:VC:=.reg [oD 6 (.mv (.const (.string ⟨⟨[]⟩⟩)))]
def k89_7:VC:=.seq k89_6 .ret
def k89_8:VC:=.seq k89_5 k89_7
def X20:VC:=.seq k89_0 k89_8
def fn89:VFn:=⟨13,X20,[.tmp 6]⟩
def k88_0:VC:=.reg [oD 2 (.mv (.const (.int .i64 0)))]
def k88_1:VC:=.reg [oM 3 τ0,oD 4 (.callF 100 [τ3]),oD 5 (.bin .sub (.const (.int .i64 65535)) τ4),oM 2 τ5]
def k88_2:VC:=.seq k88_1 .ret
def XRE:VC:=.seq k88_0 k88_2
def fn88:VFn:=⟨6,XRE,[.tmp 2]⟩
def k87_0:VC:=.reg [oD 8 (.mv (.const (.string ⟨⟨[]⟩⟩)))]
def k87_1:VC:=.reg [oM 12 τ0,oM 13 τ1,oM 14 τ2,oD 15 (.callF 70 [XcZ,Xc0,Xdo]),oM 11 Xdm,oE 16 0 Xb7,oE 17 1 Xb7,oM 9 Xdp,oM 10 Xdn]
def k87_2:VC:=.reg [oM 18 Xcd,oD 19 (.not XdW)]
def k87_3:VC:=.reg [oM 20 τ0,oM 8 Xea]
def k87_4:VC:=.seq k87_3 .ret
def k87_5:VC:=.cond XdM k87_4 .skip
def k87_6:VC:=.seq k87_2 k87_5
def k87_7:VC:=.regD [oM 21 τ0,oM 22 τ1,oD 23 (.sliceS Xeh none (some XeF)),oM 24 τ3,oM 25 τ2,oD 26 (.callF 85 [XeB,XeW]),oD 27 (.bin .add XeO Xeq),oM 28 τ0,oM 29 τ1,oM 30 τ2,oD 31 (.bin .add Xe4 Xfz),oD 32 (.sliceS XeP (some Xfv) none)] [] [oD 33 (.bin .add XeV XfB),oM 8 XfC]
def k87_8:VC:=.seq k87_7 .ret
def k87_9:VC:=.seq k87_6 k87_8
def XXI:VC:=.seq k87_1 k87_9
def XBo:VC:=.seq k87_0 XXI
def fn87:VFn:=⟨34,XBo,[.tmp 8]⟩
def k51_0:VC:=.reg [oD 2 (.box τ0),oD 4 (.mv (.const (.string ⟨⟨[]⟩⟩))),oD 5 (.mv (.const (.int .i64 0)))]
def k51_1:VC:=.reg [oD 6 (.loadN [(.int .i64),(.int .i64),(.int .i64),(.int .i64),.bool,(.int .u64),(.int .u64),.bool,(.int .u64),(.int .u64)] τ2),oD 7 (.callF 90 [τ6]),oD 8 (.not τ7)]
def k51_2:VC:=.reg [oD 4 (.mv (.const (.string ⟨⟨[]⟩⟩))),oD 5 (.mv (.const (.int .i64 1)))]
def k51_3:VC:=.seq k51_2 .ret
def k51_4:VC:=.cond τ8 k51_3 .skip
def k51_5:VC:=.seq k51_1 k51_4
def k51_6:VC:=.reg [oM 9 τ1,oD 10 (.lenS τ9),oD 11 (.bin .gtr Xcd (.const (.int .i64 65535)))]
def k51_7:VC:=.reg [oD 4 (.mv (.const (.string ⟨⟨[]⟩⟩))),oD 5 (.mv (.const (.int .i64 5)))]
def k51_8:VC:=.seq k51_7 .ret
def k51_9:VC:=.cond Xb7 k51_8 .skip
def XYJ:VC:=.seq k51_6 k51_9
def XVo:VC:=.regD [oD 12 (.fieldA 0 τ2),oD 13 (.load1 (.int .i64) XcZ),oD 14 (.bin .mul Xc0 (.const (.int .i64 1048576))),oD 15 (.bin .add (.const (.int .i64 1610612736)) Xdo),oD 16 (.fieldA 1 τ2),oD 17 (.load1 (.int .i64) Xdp),oD 18 (.bin .add Xdm Xdn),oD 19 (.callF 91 [XdW,(.const (.int .i64 4))]),oM 20 τ1,oD 21 (.lenS Xea),oD 22 (.callF 91 [Xeh,(.const (.int .i64 2))]),oD 23 (.bin .add XdM XeF),oD 24 (.fieldA 2 τ2),oD 25 (.load1 (.int .i64) XeB),oD 26 (.callF 91 [XeW,(.const (.int .i64 1))]),oD 27 (.bin .add XeO Xeq),oD 28 (.fieldA 3 τ2),oD 29 (.load1 (.int .i64) XeP),oD 30 (.callF 91 [Xe4,(.const (.int .i64 1))]),oD 31 (.bin .add XeV Xfz),oD 32 (.fieldA 4 τ2),oD 33 (.loadN [.bool,(.int .u64),(.int .u64)] XfB),oD 34 (.callF 92 [XfC]),oD 35 (.bin .add Xfv XfE),oD 36 (.fieldA 7 τ2),oD 37 (.loadN [.bool,(.int .u64),(.int .u64)] XfV),oD 38 (.callF 92 [XfA]),oD 39 (.bin .add XfJ XgL),oM 40 τ1] [(7,13),(7,17),(7,21),(7,25),(10,13),(10,17),(10,21),(10,25),(14,17),(14,21),(14,25),(18,21),(18,25),(22,25)] [oD 41 (.bin .add XgH Xhx),oM 4 Xht,oD 5 (.mv (.const (.int .i64 0)))]
def XNm:VC:=.seq XVo .ret
def X3V:VC:=.seq XYJ XNm
def X0G:VC:=.seq k51_5 X3V
def XzL:VC:=.seq k51_0 X0G
def fn51:VFn:=⟨42,XzL,[.tmp 4,.tmp 5]⟩
def k90_0:VC:=.reg [oD 1 (.box τ0),oD 2 (.mv (.const (.bool false)))]
def k90_1:VC:=.reg [oD 3 (.fieldA 0 τ1),oD 4 (.load1 (.int .i64) τ3),oD 5 (.callF 118 [τ4,(.const (.int .i64 255))]),oM 6 τ5,oG 7 (.fieldA 1 τ1) 6 true,oG 8 (.load1 (.int .i64) τ7) 6 true,oG 9 (.callF 118 [τ8,(.const (.int .i64 1048575))]) 6 true,oD 10 (.pick τ6 τ9 (.const (.bool false))),oM 11 Xcd,oG 12 (.fieldA 2 τ1) 11 true,oG 13 (.load1 (.int .i64) XcZ) 11 true,oG 14 (.callF 118 [Xc0,(.const (.int .i64 255))]) 11 true,oD 15 (.pick Xb7 Xdo (.const (.bool false))),oM 16 Xdm,oG 17 (.fieldA 3 τ1) 16 true,oG 18 (.load1 (.int .i64) Xdn) 16 true,oG 19 (.callF 118 [XdW,(.const (.int .i64 255))]) 16 true,oD 20 (.pick Xdp XdM (.const (.bool false))),oM 21 Xea,oG 22 (.fieldA 4 τ1) 21 true,oG 23 (.fieldA 0 XeF) 21 true,oG 24 (.load1 .bool XeO) 21 true,oD 25 (.pick Xeh XeB (.const (.bool false))),oM 26 XeW,oG 27 (.fieldA 7 τ1) 26 true,oG 28 (.fieldA 0 XeV) 26 true,oG 29 (.load1 .bool XeP) 26 true,oD 30 (.pick Xeq Xe4 (.const (.bool false))),oM 2 Xfz]
def k90_2:VC:=.seq k90_1 .ret
def X5V:VC:=.seq k90_0 k90_2
def fn90:VFn:=⟨31,X5V,[.tmp 2]⟩
def XVe:VC:=.reg [oD 4 (.mv (.const (.bool false)))]
def XW9:VC:=.reg [oM 5 τ0,oD 6 (.bin .geq τ5 (.const (.int .i64 0))),oM 7 τ6,oG 8 (.mv τ0) 7 true,oG 9 (.mv τ1) 7 true,oG 10 (.bin .leq τ8 τ9) 7 true,oD 11 (.pick τ7 Xcd (.const (.bool false))),oM 4 Xb7]
def XQq:VC:=.seq XW9 .ret
def XzT:VC:=.seq XVe XQq
def XQl:VFn:=⟨12,XzT,[.tmp 4]⟩
def k91_0:VC:=.reg [oD 4 (.mv (.const (.string ⟨⟨[]⟩⟩)))]
def k91_1:VC:=.reg [oM 5 τ0,oD 6 (.conv .u64 τ5),oM 7 τ1,oD 8 (.callF 85 [τ6,τ7]),oM 4 τ8]
def k91_2:VC:=.seq k91_1 .ret
def XUg:VC:=.seq k91_0 k91_2
def fn91:VFn:=⟨9,XUg,[.tmp 4]⟩
def k52_0:VC:=.reg [oD 2 (.box τ0),oD 4 (.mv (.const (.string ⟨⟨[]⟩⟩))),oD 5 (.mv (.const (.int .i64 0)))]
def k52_1:VC:=.reg [oD 9 (.loadN [(.int .i64),(.int .i64),.bool,(.int .i64),(.int .i64),.bool,(.int .u64),(.int .u64),.bool,(.int .u64),(.int .u64),.str] τ2),oD 10 (.callF 93 [τ9]),oD 11 (.not Xcd)]
def k52_2:VC:=.reg [oD 4 (.mv (.const (.string ⟨⟨[]⟩⟩))),oD 5 (.mv (.const (.int .i64 1)))]
def k52_3:VC:=.seq k52_2 .ret
def k52_4:VC:=.cond Xb7 k52_3 .skip
def k52_5:VC:=.seq k52_1 k52_4
def k52_6:VC:=.reg [oD 12 (.fieldA 11 τ2),oD 13 (.load1 .str XcZ),oD 14 (.lenS Xc0),oD 15 (.bin .add (.const (.int .i64 20)) Xdo),oM 6 Xdm]
def k52_7:VC:=.reg [oM 16 τ1,oD 17 (.lenS Xdp),oM 18 τ6,oD 19 (.bin .sub (.const (.int .i64 65535)) XdW),oD 20 (.bin .gtr Xdn XdM)]
def k52_8:VC:=.reg [oD 4 (.mv (.const (.string ⟨⟨[]⟩⟩))),oD 5 (.mv (.const (.int .i64 5)))]
def k52_9:VC:=.seq k52_8 .ret
def XXQ:VC:=.cond Xea k52_9 .skip
def XWE:VC:=.seq k52_7 XXQ
def XU7:VC:=.reg [oD 7 (.mv (.const (.int .i64 0)))]
def X61:VC:=.reg [oD 21 (.fieldA 2 τ2),oD 22 (.load1 .bool Xeh)]
def X3b:VC:=.reg [oD 7 (.mv (.const (.int .i64 64)))]
def XXn:VC:=.cond XeF X3b .skip
def XTQ:VC:=.seq X61 XXn
def X5M:VC:=.regD [oM 23 τ6,oD 24 (.bin .quo XeO (.const (.int .i64 4))),oD 25 (.bin .add (.const (.int .i64 64)) XeB),oD 26 (.callF 94 [XeW,(.const (.int .i64 1))]),oD 27 (.fieldA 0 τ2),oD 28 (.load1 (.int .i64) XeV),oD 29 (.callF 94 [XeP,(.const (.int .i64 1))]),oD 30 (.bin .add Xeq Xe4),oM 31 τ6,oM 32 τ1,oD 33 (.lenS XfB),oD 34 (.bin .add Xfv XfC),oD 35 (.callF 94 [XfE,(.const (.int .i64 2))]),oD 36 (.bin .add Xfz XfJ),oD 37 (.fieldA 1 τ2),oD 38 (.load1 (.int .i64) XfA),oD 39 (.callF 94 [XgL,(.const (.int .i64 2))]),oD 40 (.bin .add XfV XgH),oM 41 τ7,oD 42 (.callF 94 [Xht,(.const (.int .i64 1))]),oD 43 (.bin .add Xhx Xhs),oD 44 (.callF 94 [(.const (.int .i64 0)),(.const (.int .i64 1))]),oD 45 (.bin .add Xhz Xh4),oD 46 (.fieldA 3 τ2),oD 47 (.load1 (.int .i64) Xin),oD 48 (.callF 94 [Xh7,(.const (.int .i64 1))]),oD 49 (.bin .add XhP XiP),oD 50 (.fieldA 4 τ2),oD 51 (.load1 (.int .i64) XiR),oD 52 (.callF 94 [XiQ,(.const (.int .i64 1))]),oD 53 (.bin .add XiL XjM),oD 54 (.callF 94 [(.const (.int .i64 0)),(.const (.int .i64 2))]),oD 55 (.bin .add XjZ Xk1),oD 56 (.fieldA 5 τ2),oD 57 (.loadN [.bool,(.int .u64),(.int .u64)] Xk7),oD 58 (.callF 92 [XkP]),oD 59 (.bin .add XkZ XkW),oD 60 (.fieldA 8 τ2),oD 61 (.loadN [.bool,(.int .u64),(.int .u64)] XlW),oD 62 (.callF 92 [Xl9]),oD 63 (.bin .add Xlf XmV),oD 64 (.fieldA 11 τ2),oD 65 (.load1 .str Xoh)] [(3,5),(3,15),(3,24),(3,28),(3,34),(3,38),(3,42),(6,15),(6,24),(6,28),(6,34),(6,38),(6,42),(12,15),(12,24),(12,28),(12,34),(12,38),(12,42),(16,24),(16,28),(16,34),(16,38),(16,42),(19,24),(19,28),(19,34),(19,38),(19,42),(21,24),(21,28),(21,34),(21,38),(21,42),(25,28),(25,34),(25,38),(25,42),(29,34),(29,38),(29,42),(31,34),(31,38),(31,42),(35,38),(35,42),(39,42)] [oD 66 (.bin .add Xox XoD),oM 8 XoJ]
def XMk:VC:=.reg [oM 67 τ8,oM 68 τ8,oD 69 (.callF 88 [Xo6]),oD 70 (.conv .u64 XoS),oD 71 (.callF 87 [XoF,(.const (.int .i64 10)),(.const (.int .i64 2)),XqW]),oM 72 τ1,oD 73 (.bin .add Xrk Xrb),oM 4 XsD,oD 5 (.mv (.const (.int .i64 0)))]
def X0o:VC:=.seq XMk .ret
def X0b:VC:=.seq X5M X0o
def XPL:VC:=.seq XTQ X0b
def X1G:VC:=.seq XU7 XPL
def XV4:VC:=.seq XWE X1G
def XM4:VC:=.seq k52_6 XV4
def XXR:VC:=.seq k52_5 XM4
def XBE:VC:=.seq k52_0 XXR
def fn52:VFn:=⟨74,XBE,[.tmp 4,.tmp 5]⟩
def k93_0:VC:=.reg [oD 1 (.box τ0),oD 2 (.mv (.const (.bool false)))]
def k93_1:VC:=.reg [oD 3 (.fieldA 0 τ1),oD 4 (.load1 (.int .i64) τ3),oD 5 (.callF 119 [τ4,(.const (.int .i64 255))]),oM 6 τ5,oG 7 (.fieldA 1 τ1) 6 true,oG 8 (.load1 (.int .i64) τ7) 6 true,oG 9 (.callF 119 [τ8,(.const (.int .i64 65535))]) 6 true,oD 10 (.pick τ6 τ9 (.const (.bool false))),oM 11 Xcd,oG 12 (.fieldA 3 τ1) 11 true,oG 13 (.load1 (.int .i64) XcZ) 11 true,oG 14 (.callF 119 [Xc0,(.const (.int .i64 255))]) 11 true,oD 15 (.pick Xb7 Xdo (.const (.bool false))),oM 16 Xdm,oG 17 (.fieldA 4 τ1) 16 true,oG 18 (.load1 (.int .i64) Xdn) 16 true,oG 19 (.callF 119 [XdW,(.const (.int .i64 255))]) 16 true,oD 20 (.pick Xdp XdM (.const (.bool false))),oM 21 Xea,oG 22 (.fieldA 5 τ1) 21 true,oG 23 (.loadN [.bool,(.int .u64),(.int .u64)] XeF) 21 true,oG 24 (.callF 120 [XeO]) 21 true,oD 25 (.pick Xeh XeB (.const (.bool false))),oM 26 XeW,oG 27 (.fieldA 8 τ1) 26 true,oG 28 (.loadN [.bool,(.int .u64),(.int .u64)] XeV) 26 true,oG 29 (.callF 120 [XeP]) 26 true,oD 30 (.pick Xeq Xe4 (.const (.bool false))),oM 31 Xfz,oG 32 (.fieldA 11 τ1) 31 true,oG 33 (.load1 .str XfB) 31 true,oG 34 (.lenS XfC) 31 true,oG 35 (.bin .leq XfE (.const (.int .i64 40))) 31 true,oD 36 (.pick Xfv XfJ (.const (.bool false))),oM 37 XfV,oG 38 (.fieldA 11 τ1) 37 true,oG 39 (.load1 .str XgL) 37 true,oG 40 (.lenS XgH) 37 true,oG 41 (.bin .rem Xhx (.const (.int .i64 4))) 37 true,oG 42 (.bin .eql Xht (.const (.int .i64 0))) 37 true,oD 43 (.pick XfA Xhs (.const (.bool false))),oM 2 Xhz]
def k93_2:VC:=.seq k93_1 .ret
def XRw:VC:=.seq k93_0 k93_2
def fn93:VFn:=⟨44,XRw,[.tmp 2]⟩
def X5o:VC:=.reg [oD 4 (.mv (.const (.bool false)))]
def XT4:VC:=.reg [oM 5 τ0,oD 6 (.bin .geq τ5 (.const (.int .i64 0))),oM 7 τ6,oG 8 (.mv τ0) 7 true,oG 9 (.mv τ1) 7 true,oG 10 (.bin .leq τ8 τ9) 7 true,oD 11 (.pick τ7 Xcd (.const (.bool false))),oM 4 Xb7]
def XMS:VC:=.seq XT4 .ret
def XBv:VC:=.seq X5o XMS
def XSe:VFn:=⟨12,XBv,[.tmp 4]⟩
def X32:VC:=.reg [oD 1 (.box τ0),oD 2 (.mv (.const (.bool false)))]
def X5l:VC:=.reg [oD 3 (.loadN [.bool,(.int .u64),(.int .u64)] τ1),oD 4 (.callF 97 [τ3]),oM 5 τ4,oG 6 (.fieldA 0 τ1) 5 true,oG 7 (.load1 .bool τ6) 5 true,oG 8 (.not τ7) 5 true,oD 9 (.pick τ5 τ8 (.const (.bool false))),oM 2 τ9]
def X1x:VC:=.seq X5l .ret
def XAX:VC:=.seq X32 X1x
def XY3:VFn:=⟨10,XAX,[.tmp 2]⟩
def k13_0:VC:=.reg [oD 2 (.mv (.const (.int .i64 0)))]
def k13_1:VC:=.reg [oD 3 (.mv (.const (.int .i64 9000)))]
def k13_2:VC:=.reg [oD 4 (.mv (.const (.int .i64 0)))]
def k13_3:VC:=.reg [oM 5 τ4,oM 6 τ0,oD 7 (.lenL τ6),oD 8 (.bin .lss τ5 τ7)]
def k13_4:VC:=.cond τ8 .skip (.exit 0)
def k13_5:VC:=.seq k13_3 k13_4
def k13_6:VC:=.reg [oM 11 τ0,oM 12 τ4,oD 13 (.idxAL 1 Xb7 XcZ),oD 14 (.load1 (.int .i64) Xc0),oD 15 (.callF 26 [Xdo]),oM 16 Xdm,oG 17 (.mv τ0) 16 true,oG 18 (.mv τ4) 16 true,oG 19 (.idxAL 1 Xdn XdW) 16 true,oG 20 (.load1 (.int .i64) XdM) 16 true,oG 21 (.mv τ3) 16 true,oG 22 (.bin .lss Xea Xeh) 16 true,oD 23 (.pick Xdp XeF (.const (.bool false)))]
def k13_7:VC:=.reg [oM 24 τ0,oM 25 τ4,oD 26 (.idxAL 1 XeB XeW),oD 27 (.load1 (.int .i64) Xeq),oM 3 XeV]
def k13_8:VC:=.cond XeO k13_7 .skip
def k13_9:VC:=.seq k13_6 k13_8
def XYy:VC:=.block 1 k13_9
def X4u:VC:=.reg [oM 9 τ4,oD 10 (.bin .add τ9 (.const (.int .i64 1))),oM 4 Xcd]
def XNe:VC:=.seq XYy X4u
def XtE:VC:=.seq k13_5 XNe
def X2Q:VC:=.loop XtE
def X7d:VC:=.block 0 X2Q
def XLD:VC:=.seq k13_2 X7d
def X2X:VC:=.reg [oM 28 τ3,oM 2 XeP]
def XAY:VC:=.seq X2X .ret
def X0R:VC:=.seq XLD XAY
def XQ9:VC:=.seq k13_1 X0R
def XBS:VC:=.seq k13_0 XQ9
def fn13:VFn:=⟨29,XBS,[.tmp 2]⟩
def k4_0:VC:=.reg [oD 8 (.mv (.const (.bool false)))]
def k4_1:VC:=.reg [oM 30 τ0,oD 31 (.lenS Xfz),oD 32 (.bin .gtr Xfv (.const (.int .i64 200)))]
def k4_2:VC:=.reg [oD 33 (.callF 14 []),oM 8 XfC]
def k4_3:VC:=.seq k4_2 .ret
def k4_4:VC:=.cond XfB k4_3 .skip
def k4_5:VC:=.seq k4_1 k4_4
def k4_6:VC:=.reg [oM 35 τ0,oD 36 (.callF 15 [XfJ]),oM 34 XfV,oE 37 0 XfE,oE 38 1 XfE,oD 9 (.alloc [(.int .i64 0),(.bool false),(.int .u64 0),(.int .u64 0),(.bool false),(.int .u64 0),(.int .u64 0),(.int .i64 0),(.int .i64 0),(.int .i64 0),(.bool false),(.int .u32 0),(.int .u32 0),(.bool false),(.string ⟨⟨[]⟩⟩),(.int .i64 0)]),oN (.store 16 τ9 XfA),oM 10 XgL]
def k4_7:VC:=.reg [oM 40 τ0,oM 41 τ1,oD 42 (.callF 16 [Xhx,Xht]),oM 39 Xhs,oE 43 0 XgH,oE 44 1 XgH,oM 11 Xhz,oM 12 Xh4]
def k4_8:VC:=.reg [oM 45 XcZ,oD 46 (.bin .eql XhP (.const (.int .i64 0)))]
def k4_9:VC:=.reg [oM 48 Xb7,oD 49 (.callF 15 [XiP]),oM 47 XiL,oE 50 0 Xh7,oE 51 1 Xh7,oD 13 (.alloc [(.int .i64 0),(.bool false),(.int .u64 0),(.int .u64 0),(.bool false),(.int .u64 0),(.int .u64 0),(.int .i64 0),(.int .i64 0),(.int .i64 0),(.bool false),(.int .u32 0),(.int .u32 0),(.bool false),(.string ⟨⟨[]⟩⟩),(.int .i64 0)]),oN (.store 16 Xc0 XiR),oM 14 XiQ]
def k4_10:VC:=.reg [oM 52 Xcd,oD 53 (.bin .neq XjM (.const (.int .i64 0))),oM 54 XjZ,oG 55 (.mv Xdo) 54 false,oG 56 (.bin .neq XkZ (.const (.int .i64 0))) 54 false,oD 57 (.pick Xk1 (.const (.bool true)) Xk7),oM 58 XkP,oG 59 (.fieldA 11 Xc0) 58 false,oG 60 (.load1 (.int .u32) Xlf) 58 false,oG 61 (.mv τ1) 58 false,oG 62 (.conv .u32 Xl9) 58 false,oG 63 (.bin .shl XmV (.const (.int .u64 16))) 58 false,oG 64 (.fieldA 11 τ9) 58 false,oG 65 (.load1 (.int .u32) Xoh) 58 false,oG 66 (.bin .rem XoD (.const (.int .u32 65536))) 58 false,oG 67 (.bin .add Xox XoJ) 58 false,oG 68 (.bin .neq XlW XoF) 58 false,oD 69 (.pick XkW (.const (.bool true)) Xo6),oM 70 XoS,oG 71 (.mv Xb7) 70 false,oG 72 (.lenS Xrk) 70 false,oG 73 (.mv τ0) 70 false,oG 74 (.lenS XsD) 70 false,oG 75 (.bin .neq Xrb Xtu) 70 false,oD 76 (.pick XqW (.const (.bool true)) Xs2),oM 77 Xwf,oG 78 (.mv τ0) 77 false,oG 79 (.mv Xb7) 77 false,oG 80 (.callF 17 [Xv5,XxI]) 77 false,oG 81 (.bin .gtr XvY (.const (.int .i64 4))) 77 false,oD 82 (.pick Xuj (.const (.bool true)) Xyd)]
def k4_11:VC:=.reg [oD 8 (.mv (.const (.bool false)))]
def k4_12:VC:=.seq k4_11 .ret
def k4_13:VC:=.cond XBF k4_12 .skip
def k4_14:VC:=.seq k4_10 k4_13
def k4_15:VC:=.reg [oD 83 (.fieldA 11 τ9),oD 84 (.load1 (.int .u32) XvW),oD 85 (.fieldA 11 Xc0),oN (.store 1 XCC Xzu)]
def k4_16:VC:=.reg [oD 86 (.loadN [(.int .i64),.bool,(.int .u64),(.int .u64),.bool,(.int .u64),(.int .u64),(.int .i64),(.int .i64),(.int .i64),.bool,(.int .u32),(.int .u32),.bool,.str,(.int .i64)] Xc0),oD 87 (.loadN [(.int .i64),.bool,(.int .u64),(.int .u64),.bool,(.int .u64),(.int .u64),(.int .i64),(.int .i64),(.int .i64),.bool,(.int .u32),(.int .u32),.bool,.str,(.int .i64)] τ9),oD 88 (.eqAgg true [(0,(.int .i64)),(1,.bool),(2,(.int .u64)),(3,(.int .u64)),(4,.bool),(5,(.int .u64)),(6,(.int .u64)),(7,(.int .i64)),(8,(.int .i64)),(9,(.int .i64)),(10,.bool),(11,(.int .u32)),(12,(.int .u32)),(13,.bool),(14,.str),(15,(.int .i64))] XGk XF8)]
def k4_17:VC:=.reg [oD 8 (.mv (.const (.bool false)))]
def k4_18:VC:=.seq k4_17 .ret
def k4_19:VC:=.cond XJu k4_18 .skip
def k4_20:VC:=.seq k4_16 k4_19
def k4_21:VC:=.seq k4_15 k4_20
def k4_22:VC:=.seq k4_14 k4_21
def k4_23:VC:=.seq k4_9 k4_22
def k4_24:VC:=.cond Xin k4_23 .skip
def k4_25:VC:=.seq k4_8 k4_24
def k4_26:VC:=.seq k4_7 k4_25
def k4_27:VC:=.reg [oM 90 τ0,oM 91 τ2,oD 92 (.callF 18 [XDi,XKT]),oM 89 XDH,oE 93 0 XzO,oE 94 1 XzO,oM 15 XFH,oM 16 XIA]
def k4_28:VC:=.reg [oM 95 Xdp,oD 96 (.bin .eql XKu (.const (.int .i64 0)))]
def k4_29:VC:=.reg [oM 98 Xdm,oD 99 (.callF 15 [τ98]),oM 97 τ99,oE 100 0 XLp,oE 101 1 XLp,oD 17 (.alloc [(.int .i64 0),(.bool false),(.int .u64 0),(.int .u64 0),(.bool false),(.int .u64 0),(.int .u64 0),(.int .i64 0),(.int .i64 0),(.int .i64 0),(.bool false),(.int .u32 0),(.int .u32 0),(.bool false),(.string ⟨⟨[]⟩⟩),(.int .i64 0)]),oN (.store 16 Xdn XKf),oM 18 XEZ]
def k4_30:VC:=.reg [oM 102 Xcd,oD 103 (.bin .neq XOw (.const (.int .i64 0))),oM 104 X2y,oG 105 (.mv XdW) 104 false,oG 106 (.bin .neq XSC (.const (.int .i64 0))) 104 false,oD 107 (.pick X24 (.const (.bool true)) XZN),oM 108 XSS,oG 109 (.fieldA 12 Xdn) 108 false,oG 110 (.load1 (.int .u32) XZa) 108 false,oG 111 (.bin .rem XNP (.const (.int .u32 65536))) 108 false,oG 112 (.fieldA 12 τ9) 108 false,oG 113 (.load1 (.int .u32) XW1) 108 false,oG 114 (.bin .rem XNY (.const (.int .u32 65536))) 108 false,oG 115 (.bin .neq XwT X2c) 108 false,oD 116 (.pick XZe (.const (.bool true)) XNG),oM 117 X5S,oG 118 (.mv τ2) 117 false,oG 119 (.fieldA 12 Xdn) 117 false,oG 120 (.load1 (.int .u32) XQ3) 117 false,oG 121 (.bin .sub X3E XV3) 117 false,oG 122 (.bin .geq X2J (.const (.int .u32 65536))) 117 false,oD 123 (.pick X4V (.const (.bool true)) XYn),oM 124 X53,oG 125 (.mv Xdm) 124 false,oG 126 (.lenS X7A) 124 false,oG 127 (.mv τ0) 124 false,oG 128 (.lenS XMX) 124 false,oG 129 (.bin .neq XZn X5q) 124 false,oD 130 (.pick XOg (.const (.bool true)) XYC),oM 131 XWW,oG 132 (.mv τ0) 131 false,oG 133 (.mv Xdm) 131 false,oG 134 (.callF 17 [X0H,X3x]) 131 false,oG 135 (.bin .gtr XX6 (.const (.int .i64 4))) 131 false,oD 136 (.pick X7n (.const (.bool true)) XPx)]
def k4_31:VC:=.reg [oD 8 (.mv (.const (.bool false)))]
def k4_32:VC:=.seq k4_31 .ret
def k4_33:VC:=.cond XLM k4_32 .skip
def k4_34:VC:=.seq k4_30 k4_33
def k4_35:VC:=.reg [oD 137 (.fieldA 12 τ9),oD 138 (.load1 (.int .u32) XW8),oD 139 (.fieldA 12 Xdn),oN (.store 1 X6g XZP)]
def k4_36:VC:=.reg [oD 140 (.loadN [(.int .i64),.bool,(.int .u64),(.int .u64),.bool,(.int .u64),(.int .u64),(.int .i64),(.int .i64),(.int .i64),.bool,(.int .u32),(.int .u32),.bool,.str,(.int .i64)] Xdn),oD 141 (.loadN [(.int .i64),.bool,(.int .u64),(.int .u64),.bool,(.int .u64),(.int .u64),(.int .i64),(.int .i64),(.int .i64),.bool,(.int .u32),(.int .u32),.bool,.str,(.int .i64)] τ9),oD 142 (.eqAgg true [(0,(.int .i64)),(1,.bool),(2,(.int .u64)),(3,(.int .u64)),(4,.bool),(5,(.int .u64)),(6,(.int .u64)),(7,(.int .i64)),(8,(.int .i64)),(9,(.int .i64)),(10,.bool),(11,(.int .u32)),(12,(.int .u32)),(13,.bool),(14,.str),(15,(.int .i64))] XWK XPU)]
def k4_37:VC:=.reg [oD 8 (.mv (.const (.bool false)))]
def k4_38:VC:=.seq k4_37 .ret
def k4_39:VC:=.cond XDx k4_38 .skip
def k4_40:VC:=.seq k4_36 k4_39
def k4_41:VC:=.seq k4_35 k4_40
def k4_42:VC:=.seq k4_34 k4_41
def k4_43:VC:=.seq k4_29 k4_42
def k4_44:VC:=.cond XCd k4_43 .skip
def k4_45:VC:=.seq k4_28 k4_44
def k4_46:VC:=.seq k4_27 k4_45
def k4_47:VC:=.reg [oM 144 τ0,oM 145 τ3,oD 146 (.callF 19 [X56,XXE]),oM 143 XMl,oE 147 0 XC9,oE 148 1 XC9,oM 19 X2o,oM 20 X31]
def k4_48:VC:=.reg [oM 149 Xea,oD 150 (.bin .neq XNK (.const (.int .i64 0)))]
def k4_49:VC:=.reg [oM 151 XdM,oD 152 (.bin .eql X0i (.const (.string ⟨⟨[]⟩⟩))),oM 153 XP3,oG 154 (.callF 14 []) 153 true,oD 155 (.pick XMw XQD (.const (.bool false))),oM 8 X2z]
def k4_50:VC:=.seq k4_49 .ret
def k4_51:VC:=.cond X2S k4_50 .skip
def k4_52:VC:=.seq k4_48 k4_51
def k4_53:VC:=.reg [oM 157 XdM,oD 158 (.callF 15 [X7w]),oM 156 X4n,oE 159 0 XGd,oE 160 1 XGd,oD 21 (.alloc [(.int .i64 0),(.bool false),(.int .u64 0),(.int .u64 0),(.bool false),(.int .u64 0),(.int .u64 0),(.int .i64 0),(.int .i64 0),(.int .i64 0),(.bool false),(.int .u32 0),(.int .u32 0),(.bool false),(.string ⟨⟨[]⟩⟩),(.int .i64 0)]),oN (.store 16 Xeh XTH),oM 22 X43]
def k4_54:VC:=.reg [oM 162 XdM,oD 163 (.callF 20 [τ162]),oM 161 τ163,oE 164 0 XKD,oE 165 1 XKD,oE 166 2 XKD,oM 23 τ164,oM 24 τ165,oM 25 τ166]
def k4_55:VC:=.reg [oM 167 Xcd,oD 168 (.bin .neq τ167 (.const (.int .i64 0))),oM 169 τ168,oG 170 (.mv XeF) 169 false,oG 171 (.bin .neq τ170 (.const (.int .i64 0))) 169 false,oD 172 (.pick τ169 (.const (.bool true)) τ171),oM 173 τ172,oG 174 (.loadN [(.int .i64),.bool,(.int .u64),(.int .u64),.bool,(.int .u64),(.int .u64),(.int .i64),(.int .i64),(.int .i64),.bool,(.int .u32),(.int .u32),.bool,.str,(.int .i64)] Xeh) 173 false,oG 175 (.loadN [(.int .i64),.bool,(.int .u64),(.int .u64),.bool,(.int .u64),(.int .u64),(.int .i64),(.int .i64),(.int .i64),.bool,(.int .u32),(.int .u32),.bool,.str,(.int .i64)] τ9) 173 false,oG 176 (.eqAgg true [(0,(.int .i64)),(1,.bool),(2,(.int .u64)),(3,(.int .u64)),(4,.bool),(5,(.int .u64)),(6,(.int .u64)),(7,(.int .i64)),(8,(.int .i64)),(9,(.int .i64)),(10,.bool),(11,(.int .u32)),(12,(.int .u32)),(13,.bool),(14,.str),(15,(.int .i64))] τ174 τ175) 173 false,oD 177 (.pick τ173 (.const (.bool true)) τ176),oM 178 τ177,oG 179 (.mv XdM) 178 false,oG 180 (.lenS τ179) 178 false,oG 181 (.mv τ0) 178 false,oG 182 (.lenS τ181) 178 false,oG 183 (.bin .neq τ180 τ182) 178 false,oD 184 (.pick τ178 (.const (.bool true)) τ183),oM 185 τ184,oG 186 (.mv τ0) 185 false,oG 187 (.mv XdM) 185 false,oG 188 (.callF 17 [τ186,τ187]) 185 false,oG 189 (.bin .gtr τ188 (.const (.int .i64 10))) 185 false,oD 190 (.pick τ185 (.const (.bool true)) τ189),oM 191 τ190,oG 192 (.mv XeB) 191 false,oG 193 (.mv XdM) 191 false,oG 194 (.lenS τ193) 191 false,oG 195 (.bin .gtr τ192 τ194) 191 false,oD 196 (.pick τ191 (.const (.bool true)) τ195)]
def k4_56:VC:=.reg [oD 8 (.mv (.const (.bool false)))]
def k4_57:VC:=.seq k4_56 .ret
def k4_58:VC:=.cond τ196 k4_57 .skip
def k4_59:VC:=.seq k4_55 k4_58
def k4_60:VC:=.reg [oM 198 XdM,oM 199 XeB,oD 200 (.sliceS τ198 (some τ199) none),oD 201 (.callF 21 [τ200]),oM 197 τ201,oE 202 0 XXc,oE 203 1 XXc,oD 26 (.alloc [(.bool false),(.int .i64 0),(.int .u32 0),(.string ⟨⟨[]⟩⟩),(.string ⟨⟨[]⟩⟩),(.string ⟨⟨[]⟩⟩)]),oN (.store 6 Xeq τ202),oM 27 τ203]
def k4_61:VC:=.reg [oD 28 (.mv (.const (.int .u64 0)))]
def k4_62:VC:=.reg [oD 29 (.mv (.const (.int .i64 0)))]
def k4_63:VC:=.reg [oM 204 Xe4,oD 205 (.fieldA 4 Xeq),oD 206 (.load1 .str τ205),oD 207 (.lenS τ206),oD 208 (.bin .lss τ204 τ207)]
def k4_64:VC:=.cond τ208 .skip (.exit 0)
def k4_65:VC:=.seq k4_63 k4_64
def k4_66:VC:=.reg [oM 211 XeP,oD 212 (.bin .shl τ211 (.const (.int .u64 8))),oD 213 (.fieldA 4 Xeq),oD 214 (.load1 .str τ213),oM 215 Xe4,oD 216 (.idxS τ214 τ215),oD 217 (.conv .u64 τ216),oD 218 (.bin .add τ212 τ217),oM 28 τ218]
def k4_67:VC:=.block 1 k4_66
def k4_68:VC:=.reg [oM 209 Xe4,oD 210 (.bin .add τ209 (.const (.int .i64 1))),oM 29 τ210]
def k4_69:VC:=.seq k4_67 k4_68
def k4_70:VC:=.seq k4_65 k4_69
def k4_71:VC:=.loop k4_70
def k4_72:VC:=.block 0 k4_71
def k4_73:VC:=.seq k4_62 k4_72
def k4_74:VC:=.reg [oM 219 XeV,oD 220 (.bin .eql τ219 (.const (.int .i64 0))),oM 221 τ220,oG 222 (.mv XeP) 221 true,oG 223 (.mv τ3) 221 true,oG 224 (.bin .eql τ222 τ223) 221 true,oD 225 (.pick τ221 τ224 (.const (.bool false))),oM 226 τ225,oG 227 (.callF 14 []) 226 true,oD 228 (.pick τ226 τ227 (.const (.bool false))),oM 8 τ228]
def k4_75:VC:=.seq k4_74 .ret
def k4_76:VC:=.seq k4_73 k4_75
def k4_77:VC:=.seq k4_61 k4_76
def k4_78:VC:=.seq k4_60 k4_77
def k4_79:VC:=.seq k4_59 k4_78
def k4_80:VC:=.seq k4_54 k4_79
def k4_81:VC:=.seq k4_53 k4_80
def k4_82:VC:=.seq k4_52 k4_81
def k4_83:VC:=.seq k4_47 k4_82
def k4_84:VC:=.seq k4_46 k4_83
def k4_85:VC:=.seq k4_26 k4_84
def k4_86:VC:=.seq k4_6 k4_85
def k4_87:VC:=.seq k4_5 k4_86
def k4_88:VC:=.seq k4_0 k4_87
def fn4:VFn:=⟨229,k4_88,[.tmp 8]⟩
def k14_0:VC:=.reg [oD 0 (.mv (.const (.bool false)))]
def k14_1:VC:=.reg [oD 12 (.build [(.bool false),(.int .u64 0),(.int .u64 0)] [(2,1,(.const (.int .u64 1)))]),oD 13 (.build [(.bool false),(.int .u64 0),(.int .u64 0)] [(2,1,(.const (.int .u64 2)))]),oD 14 (.build [(.int .i64 0),(.bool false),(.int .u64 0),(.int .u64 0),(.bool false),(.int .u64 0),(.int .u64 0),(.int .i64 0),(.int .i64 0)] [(0,1,(.const (.int .i64 6))),(1,3,XcZ),(4,3,Xc0)]),oD 1 (.alloc [(.int .i64 0),(.bool false),(.int .u64 0),(.int .u64 0),(.bool false),(.int .u64 0),(.int .u64 0),(.int .i64 0),(.int .i64 0)]),oN (.store 9 τ1 Xdo)]
def k14_2:VC:=.reg [oD 16 (.loadN [(.int .i64),.bool,(.int .u64),(.int .u64),.bool,(.int .u64),(.int .u64),(.int .i64),(.int .i64)] τ1),oD 17 (.callF 29 [Xdp,(.const (.int .i64 16)),(.const (.string ⟨⟨[]⟩⟩)),(.const (.string ⟨⟨[]⟩⟩))]),oM 15 Xdn,oE 18 0 Xdm,oE 19 1 Xdm,oM 2 XdW,oM 3 XdM]
def k14_3:VC:=.regD [oD 21 (.loadN [(.int .i64),.bool,(.int .u64),(.int .u64),.bool,(.int .u64),(.int .u64),(.int .i64),(.int .i64)] τ1),oD 22 (.callF 30 [(.const (.int .u32 74565)),(.const (.int .u32 7))]),oD 23 (.callF 29 [Xeh,(.const (.int .i64 16)),XeF,(.const (.string ⟨⟨[]⟩⟩))]),oM 20 XeO,oE 24 0 Xea,oE 25 1 Xea,oM 4 XeB] [(0,1)] [oM 5 XeW]
def k14_4:VC:=.reg [oM 27 τ2,oD 28 (.callF 16 [XeV,(.const (.int .u16 1))]),oM 26 XeP,oE 29 0 Xeq,oE 30 1 Xeq,oM 6 Xe4,oM 7 Xfz]
def k14_5:VC:=.reg [oM 32 τ4,oD 33 (.callF 16 [XfB,(.const (.int .u16 43981))]),oM 31 XfC,oE 34 0 Xfv,oE 35 1 Xfv,oM 8 XfE,oM 9 XfJ]
def k14_6:VC:=.reg [oM 37 τ8,oD 38 (.callF 15 [XfA]),oM 36 XgL,oE 39 0 XfV,oE 40 1 XfV,oD 10 (.alloc [(.int .i64 0),(.bool false),(.int .u64 0),(.int .u64 0),(.bool false),(.int .u64 0),(.int .u64 0),(.int .i64 0),(.int .i64 0),(.int .i64 0),(.bool false),(.int .u32 0),(.int .u32 0),(.bool false),(.string ⟨⟨[]⟩⟩),(.int .i64 0)]),oN (.store 16 Xcd XgH),oM 11 Xhx]
def k14_7:VC:=.reg [oM 41 τ7,oD 42 (.bin .eql Xht (.const (.int .i64 6))),oM 43 Xhs,oG 44 (.mv τ9) 43 true,oG 45 (.bin .eql Xh4 (.const (.int .i64 0))) 43 true,oD 46 (.pick Xhz XhP (.const (.bool false))),oM 47 Xin,oG 48 (.mv Xb7) 47 true,oG 49 (.bin .eql XiP (.const (.int .i64 0))) 47 true,oD 50 (.pick Xh7 XiL (.const (.bool false))),oM 51 XiR,oG 52 (.fieldA 11 Xcd) 51 true,oG 53 (.load1 (.int .u32) XjM) 51 true,oG 54 (.bin .eql XjZ (.const (.int .u32 2882347845))) 51 true,oD 55 (.pick XiQ Xk1 (.const (.bool false))),oM 0 XkZ]
def k14_8:VC:=.seq k14_7 .ret
def k14_9:VC:=.seq k14_6 k14_8
def XYX:VC:=.seq k14_5 k14_9
def XO9:VC:=.seq k14_4 XYX
def XZG:VC:=.seq k14_3 XO9
def XY0:VC:=.seq k14_2 XZG
def XNs:VC:=.seq k14_1 XY0
def X2W:VC:=.seq k14_0 XNs
def fn14:VFn:=⟨56,X2W,[.tmp 0]⟩
def k29_0:VC:=.reg [oD 4 (.box τ0),oD 8 (.mv (.const (.string ⟨⟨[]⟩⟩))),oD 9 (.mv (.const (.int .i64 0)))]
def k29_1:VC:=.reg [oD 12 (.fieldA 0 τ4),oD 13 (.load1 (.int .i64) XcZ),oD 14 (.bin .neq Xc0 (.const (.int .i64 6)))]
def k29_2:VC:=.reg [oD 8 (.mv (.const (.string ⟨⟨[]⟩⟩))),oD 9 (.mv (.const (.int .i64 1)))]
def k29_3:VC:=.seq k29_2 .ret
def k29_4:VC:=.cond Xdo k29_3 .skip
def k29_5:VC:=.seq k29_1 k29_4
def k29_6:VC:=.reg [oD 16 (.fieldA 7 τ4),oD 17 (.load1 (.int .i64) Xdp),oD 18 (.fieldA 8 τ4),oD 19 (.load1 (.int .i64) XdW),oM 20 τ1,oM 21 τ2,oD 22 (.build [(.int .i64 0),(.int .i64 0),(.int .u32 0),(.int .u32 0),(.int .i64 0),(.int .i64 0),(.int .i64 0),(.string ⟨⟨[]⟩⟩)] [(0,1,Xdn),(1,1,XdM),(4,1,Xea),(5,1,(.const (.int .i64 65535))),(7,1,Xeh)]),oD 23 (.fieldA 1 τ4),oD 24 (.loadN [.bool,(.int .u64),(.int .u64)] XeO),oD 25 (.fieldA 4 τ4),oD 26 (.loadN [.bool,(.int .u64),(.int .u64)] XeW),oM 27 τ3,oD 28 (.callF 53 [XeF,XeB,Xeq,XeV]),oM 15 XeP,oE 29 0 Xdm,oE 30 1 Xdm,oM 10 Xe4,oM 11 Xfz]
def k29_7:VC:=.reg [oM 31 Xb7,oD 32 (.bin .neq Xfv (.const (.int .i64 0)))]
def k29_8:VC:=.reg [oM 33 Xb7,oD 8 (.mv (.const (.string ⟨⟨[]⟩⟩))),oM 9 XfC]
def k29_9:VC:=.seq k29_8 .ret
def XZZ:VC:=.cond XfB k29_9 .skip
def XR0:VC:=.seq k29_7 XZZ
def XTN:VC:=.reg [oD 34 (.loadN [(.int .i64),.bool,(.int .u64),(.int .u64),.bool,(.int .u64),(.int .u64),(.int .i64),(.int .i64)] τ4),oM 35 Xcd,oD 36 (.callF 54 [XfE,XfJ]),oE 37 0 XfV,oE 38 1 XfV,oM 8 XfA,oM 9 XgL]
def X7j:VC:=.seq XTN .ret
def X15:VC:=.seq XR0 X7j
def X7o:VC:=.seq k29_6 X15
def XPf:VC:=.seq k29_5 X7o
def XVF:VC:=.seq k29_0 XPf
def fn29:VFn:=⟨39,XVF,[.tmp 8,.tmp 9]⟩
def k53_0:VC:=.reg [oD 4 (.box τ0),oD 5 (.box τ1),oD 6 (.box τ2),oD 8 (.mv (.const (.string ⟨⟨[]⟩⟩))),oD 9 (.mv (.const (.int .i64 0)))]
def k53_1:VC:=.reg [oD 13 (.fieldA 7 τ4),oD 14 (.load1 .str Xc0),oD 15 (.lenS Xdo),oD 16 (.bin .add (.const (.int .i64 20)) Xdm),oM 10 Xdp]
def k53_2:VC:=.reg [oD 17 (.loadN [.bool,(.int .u64),(.int .u64)] τ5),oD 18 (.loadN [.bool,(.int .u64),(.int .u64)] τ6),oM 19 Xcd,oM 20 τ3,oD 21 (.lenS Xea),oD 22 (.bin .add XdM Xeh),oD 23 (.callF 95 [Xdn,XdW,(.const (.int .i64 6)),XeF]),oM 11 XeO]
def k53_3:VC:=.reg [oD 24 (.loadN [(.int .i64),(.int .i64),(.int .u32),(.int .u32),(.int .i64),(.int .i64),(.int .i64),.str] τ4),oD 25 (.callF 96 [XeB]),oD 26 (.not XeW),oM 27 Xeq,oG 28 (.mv Xb7) 27 false,oG 29 (.bin .eql XeP (.const (.string ⟨⟨[]⟩⟩))) 27 false,oD 30 (.pick XeV (.const (.bool true)) Xe4)]
def k53_4:VC:=.reg [oD 8 (.mv (.const (.string ⟨⟨[]⟩⟩))),oD 9 (.mv (.const (.int .i64 1)))]
def k53_5:VC:=.seq k53_4 .ret
def k53_6:VC:=.cond Xfz k53_5 .skip
def k53_7:VC:=.seq k53_3 k53_6
def k53_8:VC:=.reg [oM 31 τ3,oD 32 (.lenS Xfv),oM 33 Xcd,oD 34 (.bin .sub (.const (.int .i64 65535)) XfC),oD 35 (.bin .gtr XfB XfE)]
def k53_9:VC:=.reg [oD 8 (.mv (.const (.string ⟨⟨[]⟩⟩))),oD 9 (.mv (.const (.int .i64 5)))]
def X4J:VC:=.seq k53_9 .ret
def XNx:VC:=.cond XfJ X4J .skip
def XWU:VC:=.seq k53_8 XNx
def X3v:VC:=.regD [oD 36 (.fieldA 0 τ4),oD 37 (.load1 (.int .i64) XfV),oD 38 (.callF 55 [XfA,(.const (.int .i64 2))]),oD 39 (.fieldA 1 τ4),oD 40 (.load1 (.int .i64) XgH),oD 41 (.callF 55 [Xhx,(.const (.int .i64 2))]),oD 42 (.bin .add XgL Xht),oD 43 (.fieldA 2 τ4),oD 44 (.load1 (.int .u32) Xhz),oD 45 (.conv .i64 Xh4),oD 46 (.callF 55 [XhP,(.const (.int .i64 4))]),oD 47 (.bin .add Xhs Xin),oD 48 (.fieldA 3 τ4),oD 49 (.load1 (.int .u32) XiP),oD 50 (.conv .i64 XiL),oD 51 (.callF 55 [XiR,(.const (.int .i64 4))]),oD 52 (.bin .add Xh7 XiQ),oM 53 Xcd,oD 54 (.bin .mul (.const (.int .i64 4)) XjZ),oD 55 (.callF 55 [Xk1,(.const (.int .i64 1))]),oD 56 (.bin .add XjM XkZ),oD 57 (.fieldA 4 τ4),oD 58 (.load1 (.int .i64) XkP),oD 59 (.callF 55 [XkW,(.const (.int .i64 1))]),oD 60 (.bin .add Xk7 Xlf),oD 61 (.fieldA 5 τ4),oD 62 (.load1 (.int .i64) Xl9),oD 63 (.callF 55 [XmV,(.const (.int .i64 2))]),oD 64 (.bin .add XlW Xox),oD 65 (.callF 55 [(.const (.int .i64 0)),(.const (.int .i64 2))]),oD 66 (.bin .add Xoh XoD),oD 67 (.fieldA 6 τ4),oD 68 (.load1 (.int .i64) XoF),oD 69 (.callF 55 [Xo6,(.const (.int .i64 2))]),oD 70 (.bin .add XoJ XoS),oD 71 (.fieldA 7 τ4),oD 72 (.load1 .str Xrk),oD 73 (.bin .add XqW Xrb),oM 74 τ3] [(2,4),(2,8),(2,13),(2,22),(2,26),(2,32),(2,36),(5,8),(5,13),(5,22),(5,26),(5,32),(5,36),(10,13),(10,22),(10,26),(10,32),(10,36),(15,22),(15,26),(15,32),(15,36),(19,22),(19,26),(19,32),(19,36),(23,26),(23,32),(23,36),(27,32),(27,36),(29,32),(29,36),(33,36)] [oD 75 (.bin .add XsD Xtu),oM 12 Xs2]
def XZL:VC:=.reg [oM 76 XcZ,oM 77 Xb7,oM 78 XcZ,oD 79 (.bin .add Xuj Xv5),oD 80 (.callF 88 [XxI]),oD 81 (.conv .u64 XvY),oD 82 (.callF 87 [Xwf,(.const (.int .i64 16)),(.const (.int .i64 2)),Xyd]),oM 8 XBF,oD 9 (.mv (.const (.int .i64 0)))]
def XRB:VC:=.seq XZL .ret
def X12:VC:=.seq X3v XRB
def X1D:VC:=.seq XWU X12
def XOL:VC:=.seq k53_7 X1D
def X7a:VC:=.seq k53_2 XOL
def X6m:VC:=.seq k53_1 X7a
def XN1:VC:=.seq k53_0 X6m
def fn53:VFn:=⟨83,XN1,[.tmp 8,.tmp 9]⟩
def k96_0:VC:=.reg [oD 1 (.box τ0),oD 2 (.mv (.const (.bool false)))]
def k96_1:VC:=.reg [oD 3 (.fieldA 0 τ1),oD 4 (.load1 (.int .i64) τ3),oD 5 (.callF 121 [τ4,(.const (.int .i64 65535))]),oM 6 τ5,oG 7 (.fieldA 1 τ1) 6 true,oG 8 (.load1 (.int .i64) τ7) 6 true,oG 9 (.callF 121 [τ8,(.const (.int .i64 65535))]) 6 true,oD 10 (.pick τ6 τ9 (.const (.bool false))),oM 11 Xcd,oG 12 (.fieldA 4 τ1) 11 true,oG 13 (.load1 (.int .i64) XcZ) 11 true,oG 14 (.callF 121 [Xc0,(.const (.int .i64 255))]) 11 true,oD 15 (.pick Xb7 Xdo (.const (.bool false))),oM 16 Xdm,oG 17 (.fieldA 5 τ1) 16 true,oG 18 (.load1 (.int .i64) Xdn) 16 true,oG 19 (.callF 121 [XdW,(.const (.int .i64 65535))]) 16 true,oD 20 (.pick Xdp XdM (.const (.bool false))),oM 21 Xea,oG 22 (.fieldA 6 τ1) 21 true,oG 23 (.load1 (.int .i64) XeF) 21 true,oG 24 (.callF 121 [XeO,(.const (.int .i64 65535))]) 21 true,oD 25 (.pick Xeh XeB (.const (.bool false))),oM 26 XeW,oG 27 (.fieldA 7 τ1) 26 true,oG 28 (.load1 .str XeV) 26 true,oG 29 (.lenS XeP) 26 true,oG 30 (.bin .leq Xe4 (.const (.int .i64 40))) 26 true,oD 31 (.pick Xeq Xfz (.const (.bool false))),oM 32 Xfv,oG 33 (.fieldA 7 τ1) 32 true,oG 34 (.load1 .str XfC) 32 true,oG 35 (.lenS XfE) 32 true,oG 36 (.bin .rem XfJ (.const (.int .i64 4))) 32 true,oG 37 (.bin .eql XfV (.const (.int .i64 0))) 32 true,oD 38 (.pick XfB XfA (.const (.bool false))),oM 2 XgL]
def k96_2:VC:=.seq k96_1 .ret
def k96_3:VC:=.seq k96_0 k96_2
def fn96:VFn:=⟨39,k96_3,[.tmp 2]⟩
def XTC:VC:=.reg [oD 4 (.mv (.const (.bool false)))]
def XWV:VC:=.reg [oM 5 τ0,oD 6 (.bin .geq τ5 (.const (.int .i64 0))),oM 7 τ6,oG 8 (.mv τ0) 7 true,oG 9 (.mv τ1) 7 true,oG 10 (.bin .leq τ8 τ9) 7 true,oD 11 (.pick τ7 Xcd (.const (.bool false))),oM 4 Xb7]
def XTL:VC:=.seq XWV .ret
def XPN:VC:=.seq XTC XTL
def X0f:VFn:=⟨12,XPN,[.tmp 4]⟩
def k55_0:VC:=.reg [oD 4 (.mv (.const (.string ⟨⟨[]⟩⟩)))]
def k55_1:VC:=.reg [oM 5 τ0,oD 6 (.conv .u64 τ5),oM 7 τ1,oD 8 (.callF 85 [τ6,τ7]),oM 4 τ8]
def k55_2:VC:=.seq k55_1 .ret
def k55_3:VC:=.seq k55_0 k55_2
def fn55:VFn:=⟨9,k55_3,[.tmp 4]⟩
def k54_0:VC:=.reg [oD 2 (.box τ0),oD 4 (.mv (.const (.string ⟨⟨[]⟩⟩))),oD 5 (.mv (.const (.int .i64 0)))]
def k54_1:VC:=.reg [oD 8 (.fieldA 1 τ2),oD 9 (.fieldA 0 τ8),oD 10 (.load1 .bool τ9),oD 11 (.fieldA 4 τ2),oD 12 (.fieldA 0 Xb7),oD 13 (.load1 .bool XcZ),oD 14 (.eqB true Xcd Xc0),oM 15 Xdo,oG 16 (.fieldA 1 τ2) 15 false,oG 17 (.loadN [.bool,(.int .u64),(.int .u64)] Xdp) 15 false,oG 18 (.callF 97 [Xdn]) 15 false,oG 19 (.not XdW) 15 false,oD 20 (.pick Xdm (.const (.bool true)) XdM),oM 21 Xea,oG 22 (.fieldA 4 τ2) 21 false,oG 23 (.loadN [.bool,(.int .u64),(.int .u64)] XeF) 21 false,oG 24 (.callF 97 [XeO]) 21 false,oG 25 (.not XeB) 21 false,oD 26 (.pick Xeh (.const (.bool true)) XeW),oM 27 Xeq,oG 28 (.fieldA 0 τ2) 27 false,oG 29 (.load1 (.int .i64) XeP) 27 false,oG 30 (.bin .neq Xe4 (.const (.int .i64 6))) 27 false,oG 31 (.mv Xfz) 27 false,oG 32 (.fieldA 0 τ2) 31 true,oG 33 (.load1 (.int .i64) XfB) 31 true,oG 34 (.bin .neq XfC (.const (.int .i64 17))) 31 true,oG 35 (.pick Xfv XfE (.const (.bool false))) 27 false,oD 36 (.pick XeV (.const (.bool true)) XfJ)]
def k54_2:VC:=.reg [oD 4 (.mv (.const (.string ⟨⟨[]⟩⟩))),oD 5 (.mv (.const (.int .i64 1)))]
def k54_3:VC:=.seq k54_2 .ret
def k54_4:VC:=.cond XfV k54_3 .skip
def k54_5:VC:=.seq k54_1 k54_4
def k54_6:VC:=.reg [oD 38 (.fieldA 0 τ2),oD 39 (.load1 (.int .i64) XgL),oD 40 (.fieldA 1 τ2),oD 41 (.loadN [.bool,(.int .u64),(.int .u64)] Xhx),oD 42 (.fieldA 4 τ2),oD 43 (.loadN [.bool,(.int .u64),(.int .u64)] Xhs),oD 44 (.build [(.int .i64 0),(.int .i64 0),(.int .i64 0),(.int .i64 0),(.bool false),(.int .u64 0),(.int .u64 0),(.bool false),(.int .u64 0),(.int .u64 0)] [(2,1,XgH),(3,1,(.const (.int .i64 64))),(4,3,Xht),(7,3,Xhz)]),oM 45 τ1,oD 46 (.callF 51 [Xh4,XhP]),oM 37 Xin,oE 47 0 XfA,oE 48 1 XfA,oM 6 Xh7,oM 7 XiP]
def k54_7:VC:=.reg [oD 49 (.fieldA 1 τ2),oD 50 (.fieldA 0 XiL),oD 51 (.load1 .bool XiR),oD 52 (.not XiQ)]
def k54_8:VC:=.reg [oD 54 (.fieldA 0 τ2),oD 55 (.load1 (.int .i64) Xk1),oD 56 (.fieldA 1 τ2),oD 57 (.loadN [.bool,(.int .u64),(.int .u64)] Xk7),oD 58 (.fieldA 4 τ2),oD 59 (.loadN [.bool,(.int .u64),(.int .u64)] XkW),oD 60 (.build [(.int .i64 0),(.int .i64 0),(.bool false),(.int .i64 0),(.int .i64 0),(.bool false),(.int .u64 0),(.int .u64 0),(.bool false),(.int .u64 0),(.int .u64 0),(.string ⟨⟨[]⟩⟩)] [(2,1,(.const (.bool true))),(3,1,(.const (.int .i64 64))),(4,1,XkZ),(5,3,XkP),(8,3,Xlf)]),oM 61 τ1,oD 62 (.callF 52 [XlW,Xl9]),oM 53 XmV,oE 63 0 XjZ,oE 64 1 XjZ,oM 6 Xox,oM 7 Xoh]
def k54_9:VC:=.cond XjM k54_8 .skip
def XZX:VC:=.seq k54_7 k54_9
def X5B:VC:=.reg [oM 65 τ7,oD 66 (.bin .eql XoD (.const (.int .i64 0))),oM 67 XoJ,oG 68 (.mv τ6) 67 true,oG 69 (.lenS Xo6) 67 true,oG 70 (.bin .gtr XoS (.const (.int .i64 9000))) 67 true,oD 71 (.pick XoF XqW (.const (.bool false)))]
def XM2:VC:=.reg [oD 4 (.mv (.const (.string ⟨⟨[]⟩⟩))),oD 5 (.mv (.const (.int .i64 5)))]
def XXw:VC:=.seq XM2 .ret
def XU3:VC:=.cond Xrk XXw .skip
def XYv:VC:=.seq X5B XU3
def XTO:VC:=.reg [oM 72 τ6,oM 73 τ7,oM 4 Xrb,oM 5 XsD]
def XQS:VC:=.seq XTO .ret
def XP5:VC:=.seq XYv XQS
def XOi:VC:=.seq XZX XP5
def XVI:VC:=.seq k54_6 XOi
def XOu:VC:=.seq k54_5 XVI
def X2n:VC:=.seq k54_0 XOu
def fn54:VFn:=⟨74,X2n,[.tmp 4,.tmp 5]⟩
def k30_0:VC:=.reg [oD 4 (.mv (.const (.string ⟨⟨[]⟩⟩)))]
def k30_1:VC:=.reg [oM 5 τ0,oD 6 (.conv .i64 τ5),oD 7 (.callF 55 [τ6,(.const (.int .i64 4))]),oD 8 (.bin .add (.const (.string ⟨⟨[1,1,8,10]⟩⟩)) τ7),oM 9 τ1,oD 10 (.conv .i64 τ9),oD 11 (.callF 55 [Xcd,(.const (.int .i64 4))]),oD 12 (.bin .add τ8 Xb7),oM 4 XcZ]
def k30_2:VC:=.seq k30_1 .ret
def k30_3:VC:=.seq k30_0 k30_2
def fn30:VFn:=⟨13,k30_3,[.tmp 4]⟩
def k16_0:VC:=.reg [oD 3 (.box τ1),oD 4 (.mv (.const (.string ⟨⟨[]⟩⟩))),oD 5 (.mv (.const (.int .i64 0)))]
def k16_1:VC:=.reg [oM 6 τ0,oD 7 (.mkFunc 33 [] [τ3]),oD 8 (.callF 32 [τ6,(.const (.int .i64 0)),τ7]),oE 9 0 τ8,oE 10 1 τ8,oM 4 τ9,oM 5 Xcd]
def k16_2:VC:=.seq k16_1 .ret
def k16_3:VC:=.seq k16_0 k16_2
def fn16:VFn:=⟨11,k16_3,[.tmp 4,.tmp 5]⟩
def k33_0:VC:=.reg [oD 2 (.box τ0),oD 3 (.mv (.const (.int .u32 0)))]
def k33_1:VC:=.reg [oD 4 (.fieldA 11 τ2),oD 5 (.load1 (.int .u32) τ4),oD 6 (.load1 (.int .u16) τ1),oD 7 (.callF 34 [τ5,τ6]),oM 3 τ7]
def k33_2:VC:=.seq k33_1 .ret
def k33_3:VC:=.seq k33_0 k33_2
def fn33:VFn:=⟨8,k33_3,[.tmp 3]⟩
def k34_0:VC:=.reg [oD 4 (.mv (.const (.int .u32 0)))]
def k34_1:VC:=.reg [oM 5 τ1,oD 6 (.conv .u32 τ5),oD 7 (.bin .shl τ6 (.const (.int .u64 16))),oM 8 τ0,oD 9 (.callF 37 [τ8]),oD 10 (.conv .u32 τ9),oD 11 (.bin .or τ7 Xcd),oM 4 Xb7]
def k34_2:VC:=.seq k34_1 .ret
def k34_3:VC:=.seq k34_0 k34_2
def fn34:VFn:=⟨12,k34_3,[.tmp 4]⟩
def k37_0:VC:=.reg [oD 2 (.mv (.const (.int .u16 0)))]
def k37_1:VC:=.reg [oM 3 τ0,oD 4 (.conv .u16 τ3),oM 2 τ4]
def k37_2:VC:=.seq k37_1 .ret
def k37_3:VC:=.seq k37_0 k37_2
def fn37:VFn:=⟨5,k37_3,[.tmp 2]⟩
def k32_0:VC:=.reg [oD 6 (.mv (.const (.string ⟨⟨[]⟩⟩))),oD 7 (.mv (.const (.int .i64 0)))]
def k32_1:VC:=.reg [oM 19 τ0,oD 20 (.callF 22 [XdM]),oM 18 Xea,oE 21 0 XdW,oE 22 1 XdW,oD 8 (.alloc [(.int .i64 0),(.bool false),(.int .u64 0),(.int .u64 0),(.bool false),(.int .u64 0),(.int .u64 0),(.int .i64 0),(.int .i64 0),(.int .i64 0),(.bool false),(.int .u32 0),(.int .u32 0),(.bool false),(.string ⟨⟨[]⟩⟩),(.int .i64 0)]),oN (.store 16 τ8 Xeh),oM 9 XeF]
def k32_2:VC:=.reg [oM 24 τ9,oD 25 (.bin .neq XeB (.const (.int .i64 0))),oM 23 XeW]
def k32_3:VC:=.reg [oM 26 τ9,oD 6 (.mv (.const (.string ⟨⟨[]⟩⟩))),oM 7 Xeq]
def k32_4:VC:=.seq k32_3 .ret
def k32_5:VC:=.reg [oD 28 (.fieldA 10 τ8),oD 29 (.load1 .bool XeP),oD 30 (.not Xe4),oM 27 Xfz]
def k32_6:VC:=.reg [oD 6 (.mv (.const (.string ⟨⟨[]⟩⟩))),oD 7 (.mv (.const (.int .i64 6)))]
def k32_7:VC:=.seq k32_6 .ret
def k32_8:VC:=.cond XeV k32_7 .skip
def k32_9:VC:=.seq k32_5 k32_8
def XW3:VC:=.cond XeO k32_4 k32_9
def X5C:VC:=.seq k32_2 XW3
def XOF:VC:=.block 0 X5C
def X6d:VC:=.reg [oM 32 τ0,oD 33 (.callF 38 [XfB]),oM 31 XfC,oE 34 0 Xfv,oE 35 1 Xfv,oE 36 2 Xfv,oM 10 XfE,oM 11 XfJ,oM 12 XfV]
def X68:VC:=.reg [oM 38 τ0,oM 39 Xcd,oD 40 (.bin .add XgH (.const (.int .i64 20))),oM 41 Xb7,oD 42 (.sliceS XgL (some Xhx) (some Xht)),oD 43 (.callF 60 [Xhs]),oM 37 Xhz,oE 44 0 XfA,oE 45 1 XfA,oE 46 2 XfA,oM 13 Xh4,oM 14 XhP,oM 15 Xin]
def XTt:VC:=.regD [oM 48 τ0,oM 49 Xcd,oD 50 (.sliceS XiP (some XiL) none),oM 51 Xdm,oD 52 (.bin .add (.const (.int .i64 20)) XiQ),oM 53 τ1,oD 54 (.bin .add XjM XjZ),oM 55 τ2,oD 56 (.loadN [(.int .i64),.bool,(.int .u64),(.int .u64),.bool,(.int .u64),(.int .u64),(.int .i64),(.int .i64),(.int .i64),.bool,(.int .u32),(.int .u32),.bool,.str,(.int .i64)] τ8),oD 57 (.callV XkZ [Xk7]),oD 58 (.conv .u64 XkP),oD 59 (.callF 42 [XkW,(.const (.int .i64 4))]),oD 60 (.callF 41 [XiR,Xk1,Xlf,(.const (.int .i64 16))]),oM 47 XlW,oE 61 0 Xh7,oE 62 1 Xh7,oM 16 Xl9] [] [oM 17 XmV]
def XNz:VC:=.reg [oM 63 Xdn,oD 64 (.not Xox)]
def XYQ:VC:=.reg [oD 6 (.mv (.const (.string ⟨⟨[]⟩⟩))),oD 7 (.mv (.const (.int .i64 3)))]
def XM6:VC:=.seq XYQ .ret
def XUQ:VC:=.cond Xoh XM6 .skip
def XL7:VC:=.seq XNz XUQ
def XZm:VC:=.reg [oM 65 τ0,oM 66 Xcd,oD 67 (.sliceS XoD none (some XoJ)),oM 68 Xdp,oD 69 (.bin .add XoF Xo6),oM 6 XoS,oD 7 (.mv (.const (.int .i64 0)))]
def X4C:VC:=.seq XZm .ret
def XRH:VC:=.seq XL7 X4C
def X5r:VC:=.seq XTt XRH
def XMx:VC:=.seq X68 X5r
def XMo:VC:=.seq X6d XMx
def XUw:VC:=.seq XOF XMo
def X0q:VC:=.seq k32_1 XUw
def XXg:VC:=.seq k32_0 X0q
def fn32:VFn:=⟨70,XXg,[.tmp 6,.tmp 7]⟩
def k38_0:VC:=.reg [oD 2 (.mv (.const (.int .i64 0))),oD 3 (.mv (.const (.int .i64 0))),oD 4 (.mv (.const (.int .i64 0)))]
def k38_1:VC:=.reg [oM 10 τ0,oD 11 (.callF 46 [Xcd]),oM 9 Xb7,oE 12 0 τ9,oE 13 1 τ9,oE 14 2 τ9,oE 15 3 τ9,oD 5 (.alloc [(.int .i64 0),(.bool false),(.int .u64 0),(.int .u64 0),(.bool false),(.int .u64 0),(.int .u64 0),(.int .i64 0),(.int .i64 0),(.int .i64 0),(.bool false),(.int .u32 0),(.int .u32 0),(.bool false),(.string ⟨⟨[]⟩⟩),(.int .i64 0)]),oN (.store 16 τ5 XcZ),oM 6 Xc0,oM 7 Xdo,oM 8 Xdm]
def k38_2:VC:=.reg [oM 16 τ8,oD 17 (.bin .neq Xdp (.const (.int .i64 0)))]
def k38_3:VC:=.reg [oM 18 τ8,oD 2 (.mv (.const (.int .i64 0))),oD 3 (.mv (.const (.int .i64 0))),oM 4 XdW]
def k38_4:VC:=.seq k38_3 .ret
def k38_5:VC:=.cond Xdn k38_4 .skip
def k38_6:VC:=.seq k38_2 k38_5
def k38_7:VC:=.reg [oM 19 τ0,oD 20 (.lenS XdM),oM 21 τ6,oD 22 (.bin .sub Xea Xeh),oM 23 τ0,oD 24 (.lenS XeO),oM 25 τ7,oD 26 (.bin .sub XeB XeW),oM 2 XeF,oM 3 Xeq,oD 4 (.mv (.const (.int .i64 0)))]
def k38_8:VC:=.seq k38_7 .ret
def k38_9:VC:=.seq k38_6 k38_8
def XVk:VC:=.seq k38_1 k38_9
def XQm:VC:=.seq k38_0 XVk
def fn38:VFn:=⟨27,XQm,[.tmp 2,.tmp 3,.tmp 4]⟩
def k41_0:VC:=.reg [oD 8 (.mv (.const (.string ⟨⟨[]⟩⟩))),oD 9 (.mv (.const (.bool false)))]
def k41_1:VC:=.reg [oM 17 τ1,oM 18 τ2,oD 19 (.lenS XdW),oD 20 (.bin .add Xdn XdM),oM 10 Xea]
def k41_2:VC:=.reg [oM 22 τ1,oD 23 (.bin .lss XeF (.const (.int .i64 0))),oM 24 XeO,oG 25 (.mv τ0) 24 false,oG 26 (.lenS XeW) 24 false,oG 27 (.mv τ2) 24 false,oG 28 (.lenS XeV) 24 false,oG 29 (.bin .sub Xeq XeP) 24 false,oG 30 (.mv τ1) 24 false,oG 31 (.bin .lss Xe4 Xfz) 24 false,oD 32 (.pick XeB (.const (.bool true)) Xfv),oM 33 XfB,oG 34 (.mv τ3) 33 false,oG 35 (.bin .lss XfE (.const (.int .i64 0))) 33 false,oD 36 (.pick XfC (.const (.bool true)) XfJ),oM 37 XfV,oG 38 (.mv τ3) 37 false,oG 39 (.bin .rem XgL (.const (.int .i64 2))) 37 false,oG 40 (.bin .eql XgH (.const (.int .i64 1))) 37 false,oD 41 (.pick XfA (.const (.bool true)) Xhx),oM 42 Xht,oG 43 (.mv τ0) 42 false,oG 44 (.lenS Xhz) 42 false,oG 45 (.bin .sub Xh4 (.const (.int .i64 2))) 42 false,oG 46 (.mv τ3) 42 false,oG 47 (.bin .lss XhP Xin) 42 false,oD 48 (.pick Xhs (.const (.bool true)) Xh7),oM 21 XiP]
def k41_3:VC:=.reg [oD 8 (.mv (.const (.string ⟨⟨[]⟩⟩))),oD 9 (.mv (.const (.bool false)))]
def k41_4:VC:=.seq k41_3 .ret
def k41_5:VC:=.reg [oM 50 τ2,oD 51 (.bin .eql XiR (.const (.string ⟨⟨[]⟩⟩))),oM 49 XiQ]
def k41_6:VC:=.reg [oM 52 τ0,oM 8 XjM,oD 9 (.mv (.const (.bool true)))]
def k41_7:VC:=.seq k41_6 .ret
def k41_8:VC:=.reg [oM 54 τ1,oM 55 τ3,oD 56 (.bin .add XkZ (.const (.int .i64 2))),oD 57 (.bin .lss Xk1 Xk7),oM 58 XkP,oG 59 (.mv τ3) 58 true,oG 60 (.mv Xcd) 58 true,oG 61 (.bin .lss Xlf XlW) 58 true,oD 62 (.pick XkW Xl9 (.const (.bool false))),oM 53 XmV]
def k41_9:VC:=.reg [oD 8 (.mv (.const (.string ⟨⟨[]⟩⟩))),oD 9 (.mv (.const (.bool false)))]
def X4K:VC:=.seq k41_9 .ret
def XVt:VC:=.cond XjZ X4K .skip
def X1f:VC:=.seq k41_8 XVt
def XNQ:VC:=.cond XiL k41_7 X1f
def X6n:VC:=.seq k41_5 XNQ
def X3z:VC:=.cond Xeh k41_4 X6n
def XQ2:VC:=.seq k41_2 X3z
def XQc:VC:=.block 0 XQ2
def XVM:VC:=.regD [oM 63 τ0,oM 64 τ1,oD 65 (.sliceS Xox none (some Xoh)),oM 66 τ2,oD 67 (.bin .add XoD XoJ),oM 68 τ0,oM 69 Xcd,oD 70 (.sliceS Xo6 (some XoS) none)] [] [oD 71 (.bin .add XoF XqW),oM 11 Xrk]
def XLY:VC:=.reg [oM 72 τ1,oD 73 (.bin .andNot Xrb (.const (.int .i64 1))),oM 74 Xcd,oD 75 (.bin .add Xtu (.const (.int .i64 1))),oD 76 (.bin .andNot Xs2 (.const (.int .i64 1))),oM 12 XsD,oM 13 Xwf]
def X5x:VC:=.reg [oM 78 τ0,oM 79 τ3,oD 80 (.callF 40 [Xv5,XxI,(.const (.int .i64 2))]),oM 77 XvY,oE 81 0 Xuj,oE 82 1 Xuj,oM 14 Xyd,oM 15 XBF]
def X5z:VC:=.reg [oM 83 Xdo,oD 84 (.conv .i64 XvW),oM 85 τ0,oM 86 XcZ,oM 87 Xc0,oD 88 (.callF 69 [XCC,XGk,XF8]),oM 89 Xb7,oM 90 XcZ,oM 91 Xc0,oD 92 (.callF 69 [XzO,XDi,XKT]),oD 93 (.callF 68 [Xzu,XJu,XDH]),oM 16 XFH]
def XOD:VC:=.reg [oM 94 Xb7,oM 95 τ3,oM 96 Xdp,oD 97 (.conv .u64 XCd),oD 98 (.callF 43 [XIA,XKu,(.const (.int .i64 2)),XLp]),oM 8 τ98,oD 9 (.mv (.const (.bool true)))]
def XPy:VC:=.seq XOD .ret
def XYw:VC:=.seq X5z XPy
def X6G:VC:=.seq X5x XYw
def XZE:VC:=.seq XLY X6G
def X22:VC:=.seq XVM XZE
def X1e:VC:=.seq XQc X22
def X0I:VC:=.seq k41_1 X1e
def X5L:VC:=.seq k41_0 X0I
def fn41:VFn:=⟨99,X5L,[.tmp 8,.tmp 9]⟩
def k69_0:VC:=.reg [oD 6 (.mv (.const (.string ⟨⟨[]⟩⟩)))]
def k69_1:VC:=.reg [oM 7 τ2,oM 8 τ0,oD 9 (.lenS τ8),oD 10 (.bin .gtr τ7 τ9)]
def k69_2:VC:=.reg [oM 11 τ0,oM 12 τ1,oD 13 (.sliceS Xb7 (some XcZ) none),oD 14 (.bin .add Xc0 (.const (.string ⟨⟨[0]⟩⟩))),oM 6 Xdo]
def k69_3:VC:=.seq k69_2 .ret
def k69_4:VC:=.cond Xcd k69_3 .skip
def k69_5:VC:=.seq k69_1 k69_4
def k69_6:VC:=.reg [oM 15 τ0,oM 16 τ1,oM 17 τ2,oD 18 (.sliceS Xdm (some Xdp) (some Xdn)),oM 6 XdW]
def k69_7:VC:=.seq k69_6 .ret
def k69_8:VC:=.seq k69_5 k69_7
def k69_9:VC:=.seq k69_0 k69_8
def fn69:VFn:=⟨19,k69_9,[.tmp 6]⟩
def k68_0:VC:=.reg [oD 3 (.box τ0),oD 5 (.box τ2),oD 6 (.mv (.const (.int .i64 0)))]
def k68_1:VC:=.reg [oM 11 τ1,oD 12 (.lenS Xb7),oD 13 (.load1 .str τ5),oD 14 (.lenS Xc0),oD 15 (.bin .neq XcZ Xdo),oM 16 Xdm,oG 17 (.mv τ1) 16 false,oG 18 (.lenS Xdn) 16 false,oG 19 (.bin .rem XdW (.const (.int .i64 2))) 16 false,oG 20 (.bin .gtr XdM (.const (.int .i64 0))) 16 false,oD 21 (.pick Xdp (.const (.bool true)) Xea)]
def k68_2:VC:=.reg [oD 22 (.load1 (.int .i64) τ3),oM 6 XeF]
def k68_3:VC:=.seq k68_2 .ret
def k68_4:VC:=.cond Xeh k68_3 .skip
def k68_5:VC:=.seq k68_1 k68_4
def k68_6:VC:=.reg [oD 7 (.alloc [(.int .i64 0)]),oN (.store 1 τ7 (.const (.int .i64 0)))]
def k68_7:VC:=.reg [oM 23 τ1,oD 24 (.callF 104 [XeO])]
def k68_8:VC:=.reg [oM 8 XeW]
def k68_9:VC:=.reg [oD 27 (.load1 .str τ5),oD 28 (.load1 (.int .i64) τ7),oD 29 (.callF 40 [XeV,XeP,(.const (.int .i64 2))]),oM 26 Xe4,oE 30 0 Xeq,oE 31 1 Xeq,oM 9 Xfz,oM 10 Xfv]
def X1u:VC:=.reg [oD 32 (.load1 (.int .i64) τ3),oM 33 τ8,oM 34 τ9,oD 35 (.conv .i64 XfE),oD 36 (.callF 105 [XfB,XfC,XfJ]),oN (.store 1 τ3 XfV)]
def XVK:VC:=.reg [oD 37 (.load1 (.int .i64) τ7),oD 38 (.bin .add XfA (.const (.int .i64 2))),oN (.store 1 τ7 XgL)]
def XN0:VC:=.seq X1u XVK
def X07:VC:=.seq k68_9 XN0
def XWZ:VC:=.block 1 X07
def XLC:VC:=.rangeF XeB [25] k68_8 XWZ
def XS1:VC:=.block 0 XLC
def XPE:VC:=.seq k68_7 XS1
def XXx:VC:=.reg [oD 39 (.load1 (.int .i64) τ3),oM 6 XgH]
def XME:VC:=.seq XXx .ret
def XUN:VC:=.seq XPE XME
def X5c:VC:=.seq k68_6 XUN
def XMz:VC:=.seq k68_5 X5c
def XPo:VC:=.seq k68_0 XMz
def fn68:VFn:=⟨40,XPo,[.tmp 6]⟩
def XRu:VC:=.reg [oD 6 (.mv (.const (.int .i64 0)))]
def XPZ:VC:=.reg [oM 7 τ0,oM 8 τ1,oM 9 τ2,oD 10 (.buildSl 3 1 [(.int .i64 0),(.int .i64 0),(.int .i64 0)] [(0,1,τ7),(1,1,τ8),(2,1,τ9)]),oD 11 (.callF 127 [Xcd]),oD 12 (.not Xb7)]
def X5A:VC:=.reg [oD 6 (.mv (.const (.int .i64 0)))]
def XR8:VC:=.seq X5A .ret
def XOb:VC:=.cond XcZ XR8 .skip
def XTb:VC:=.seq XPZ XOb
def XUR:VC:=.reg [oM 13 τ0,oD 14 (.bin .sub (.const (.int .i64 65535)) Xc0),oD 15 (.bin .add Xdo (.const (.int .i64 65535))),oM 16 τ1,oD 17 (.bin .sub Xdm Xdp),oM 18 τ2,oD 19 (.bin .add Xdn XdW),oD 20 (.callF 128 [XdM]),oD 21 (.bin .sub (.const (.int .i64 65535)) Xea),oM 6 Xeh]
def XRy:VC:=.seq XUR .ret
def XQj:VC:=.seq XTb XRy
def X1i:VC:=.seq XRu XQj
def XQh:VFn:=⟨22,X1i,[.tmp 6]⟩
def XXl:VC:=.reg [oD 2 (.mv (.const (.bool false)))]
def XU8:VC:=.reg [oM 5 τ0,oD 6 (.lenL τ5),oD 7 (.mv (.const (.int .i64 0)))]
def X38:VC:=.reg [oD 8 (.bin .lss τ7 τ6)]
def X0Q:VC:=.cond τ8 .skip (.exit 0)
def XZ2:VC:=.reg [oD 9 (.idxAL 1 τ5 τ7),oD 10 (.load1 (.int .i64) τ9),oM 4 Xcd]
def X3D:VC:=.reg [oM 11 τ4,oD 12 (.bin .lss Xb7 (.const (.int .i64 0))),oM 13 XcZ,oG 14 (.mv τ4) 13 false,oG 15 (.bin .gtr Xdo (.const (.int .i64 65535))) 13 false,oD 16 (.pick Xc0 (.const (.bool true)) Xdm)]
def XZx:VC:=.reg [oD 2 (.mv (.const (.bool false)))]
def XVY:VC:=.seq XZx .ret
def XLR:VC:=.cond Xdp XVY .skip
def X2e:VC:=.seq X3D XLR
def XE2:VC:=.seq XZ2 X2e
def XC1:VC:=.block 1 XE2
def XHJ:VC:=.reg [oD 17 (.bin .add τ7 (.const (.int .i64 1))),oM 7 Xdn]
def XGE:VC:=.seq XC1 XHJ
def XGV:VC:=.seq X0Q XGE
def XE7:VC:=.seq X38 XGV
def XHN:VC:=.loop XE7
def XHy:VC:=.block 0 XHN
def XCj:VC:=.seq XU8 XHy
def XJ2:VC:=.reg [oD 2 (.mv (.const (.bool true)))]
def XCM:VC:=.seq XJ2 .ret
def XEL:VC:=.seq XCj XCM
def XLf:VC:=.seq XXl XEL
def X2T:VFn:=⟨18,XLf,[.tmp 2]⟩
def k17_0:VC:=.reg [oD 4 (.mv (.const (.int .i64 0)))]
def k17_1:VC:=.reg [oD 5 (.mv (.const (.int .i64 0)))]
def k17_2:VC:=.reg [oD 6 (.mv (.const (.int .i64 0)))]
def k17_3:VC:=.reg [oM 7 τ6,oM 8 τ0,oD 9 (.lenS τ8),oD 10 (.bin .lss τ7 τ9),oM 11 Xcd,oG 12 (.mv τ6) 11 true,oG 13 (.mv τ1) 11 true,oG 14 (.lenS Xc0) 11 true,oG 15 (.bin .lss XcZ Xdo) 11 true,oD 16 (.pick Xb7 Xdm (.const (.bool false)))]
def k17_4:VC:=.cond Xdp .skip (.exit 0)
def k17_5:VC:=.seq k17_3 k17_4
def k17_6:VC:=.regD [oM 19 τ0,oM 20 τ6,oD 21 (.idxS XdM Xea),oM 22 τ1,oM 23 τ6,oD 24 (.idxS XeF XeO)] [] [oD 25 (.bin .neq Xeh XeB)]
def k17_7:VC:=.reg [oM 26 τ5,oD 27 (.bin .add Xeq (.const (.int .i64 1))),oM 5 XeV]
def k17_8:VC:=.cond XeW k17_7 .skip
def k17_9:VC:=.seq k17_6 k17_8
def X0V:VC:=.block 1 k17_9
def X52:VC:=.reg [oM 17 τ6,oD 18 (.bin .add Xdn (.const (.int .i64 1))),oM 6 XdW]
def X7v:VC:=.seq X0V X52
def X36:VC:=.seq k17_5 X7v
def XOm:VC:=.loop X36
def XPk:VC:=.block 0 XOm
def XWG:VC:=.seq k17_2 XPk
def X2g:VC:=.reg [oM 28 τ5,oM 4 XeP]
def X6l:VC:=.seq X2g .ret
def X1C:VC:=.seq XWG X6l
def XMy:VC:=.seq k17_1 X1C
def XLJ:VC:=.seq k17_0 XMy
def fn17:VFn:=⟨29,XLJ,[.tmp 4]⟩
def k18_0:VC:=.reg [oD 3 (.box τ1),oD 4 (.mv (.const (.string ⟨⟨[]⟩⟩))),oD 5 (.mv (.const (.int .i64 0)))]
def k18_1:VC:=.reg [oM 6 τ0,oD 7 (.mkFunc 35 [] [τ3]),oD 8 (.callF 32 [τ6,(.const (.int .i64 4)),τ7]),oE 9 0 τ8,oE 10 1 τ8,oM 4 τ9,oM 5 Xcd]
def k18_2:VC:=.seq k18_1 .ret
def k18_3:VC:=.seq k18_0 k18_2
def fn18:VFn:=⟨11,k18_3,[.tmp 4,.tmp 5]⟩
def k35_0:VC:=.reg [oD 2 (.box τ0),oD 3 (.mv (.const (.int .u32 0)))]
def k35_1:VC:=.regD [oD 4 (.load1 (.int .u32) τ1),oD 5 (.fieldA 12 τ2),oD 6 (.load1 (.int .u32) τ5),oD 7 (.callF 37 [τ6])] [(0,3)] [oD 8 (.callF 36 [τ4,τ7]),oM 3 τ8]
def k35_2:VC:=.seq k35_1 .ret
def k35_3:VC:=.seq k35_0 k35_2
def fn35:VFn:=⟨9,k35_3,[.tmp 3]⟩
def k36_0:VC:=.reg [oD 4 (.mv (.const (.int .u32 0)))]
def k36_1:VC:=.reg [oM 5 τ0,oM 6 τ0,oD 7 (.callF 37 [τ6]),oM 8 τ1,oD 9 (.bin .sub τ7 τ8),oD 10 (.conv .u32 τ9),oD 11 (.bin .sub τ5 Xcd),oM 4 Xb7]
def k36_2:VC:=.seq k36_1 .ret
def k36_3:VC:=.seq k36_0 k36_2
def fn36:VFn:=⟨12,k36_3,[.tmp 4]⟩
def k19_0:VC:=.reg [oD 4 (.mv (.const (.string ⟨⟨[]⟩⟩))),oD 5 (.mv (.const (.int .i64 0)))]
def k19_1:VC:=.reg [oM 19 τ0,oD 20 (.callF 22 [XdM]),oM 18 Xea,oE 21 0 XdW,oE 22 1 XdW,oD 6 (.alloc [(.int .i64 0),(.bool false),(.int .u64 0),(.int .u64 0),(.bool false),(.int .u64 0),(.int .u64 0),(.int .i64 0),(.int .i64 0),(.int .i64 0),(.bool false),(.int .u32 0),(.int .u32 0),(.bool false),(.string ⟨⟨[]⟩⟩),(.int .i64 0)]),oN (.store 16 τ6 Xeh),oM 7 XeF]
def k19_2:VC:=.reg [oM 23 τ7,oD 24 (.bin .neq XeO (.const (.int .i64 0)))]
def k19_3:VC:=.reg [oM 25 τ7,oD 4 (.mv (.const (.string ⟨⟨[]⟩⟩))),oM 5 XeW]
def k19_4:VC:=.seq k19_3 .ret
def k19_5:VC:=.cond XeB k19_4 .skip
def k19_6:VC:=.seq k19_2 k19_5
def k19_7:VC:=.reg [oM 27 τ0,oD 28 (.callF 38 [XeV]),oM 26 XeP,oE 29 0 Xeq,oE 30 1 Xeq,oE 31 2 Xeq,oM 8 Xe4,oM 9 Xfz,oM 10 Xfv]
def k19_8:VC:=.reg [oM 33 τ0,oM 34 τ9,oD 35 (.sliceS XfC (some XfE) none),oD 36 (.callF 39 [XfJ]),oM 32 XfV,oE 37 0 XfB,oE 38 1 XfB,oD 11 (.alloc [(.bool false),(.int .i64 0),(.int .u32 0),(.string ⟨⟨[]⟩⟩),(.string ⟨⟨[]⟩⟩),(.string ⟨⟨[]⟩⟩)]),oN (.store 6 Xb7 XfA),oM 7 XgL]
def k19_9:VC:=.reg [oD 40 (.fieldA 0 τ6),oD 41 (.fieldA 0 Xhx),oD 42 (.load1 (.int .i64) Xht),oD 43 (.bin .neq Xhs (.const (.int .i64 17))),oM 44 Xhz,oG 45 (.mv τ7) 44 false,oG 46 (.bin .neq XhP (.const (.int .i64 0))) 44 false,oD 47 (.pick Xh4 (.const (.bool true)) Xin),oM 48 Xh7,oG 49 (.fieldA 0 Xb7) 48 false,oG 50 (.load1 .bool XiL) 48 false,oG 51 (.not XiR) 48 false,oD 52 (.pick XiP (.const (.bool true)) XiQ),oM 39 XjM]
def XVi:VC:=.reg [oD 4 (.mv (.const (.string ⟨⟨[]⟩⟩))),oD 5 (.mv (.const (.int .i64 6)))]
def XVU:VC:=.seq XVi .ret
def X7H:VC:=.reg [oD 54 (.fieldA 4 Xb7),oD 55 (.load1 .str Xk1),oD 56 (.lenS XkZ),oD 57 (.bin .neq Xk7 (.const (.int .i64 8))),oM 53 XkP]
def XTp:VC:=.reg [oD 4 (.mv (.const (.string ⟨⟨[]⟩⟩))),oD 5 (.mv (.const (.int .i64 3)))]
def X6A:VC:=.seq XTp .ret
def XZ4:VC:=.cond XjZ X6A .skip
def X7k:VC:=.seq X7H XZ4
def XNr:VC:=.cond XgH XVU X7k
def XOX:VC:=.seq k19_9 XNr
def X1X:VC:=.block 0 XOX
def X47:VC:=.reg [oM 59 τ0,oM 60 τ8,oD 61 (.bin .add XlW (.const (.int .i64 6))),oD 62 (.callF 40 [Xlf,Xl9,(.const (.int .i64 2))]),oM 58 XmV,oE 63 0 XkW,oE 64 1 XkW,oM 12 Xox,oM 13 Xoh]
def XUE:VC:=.regD [oM 66 τ0,oM 67 τ8,oD 68 (.sliceS XoJ (some XoF) none),oD 69 (.fieldA 3 Xb7),oD 70 (.load1 .str XoS),oD 71 (.lenS XqW),oD 72 (.bin .add (.const (.int .i64 15)) Xrk),oM 73 τ1,oD 74 (.callF 42 [XsD,(.const (.int .i64 8))]),oD 75 (.callF 41 [Xo6,Xrb,Xtu,(.const (.int .i64 6))]),oM 65 Xs2,oE 76 0 XoD,oE 77 1 XoD,oM 14 Xwf] [(4,8)] [oM 15 Xuj]
def X1b:VC:=.reg [oM 78 Xdm,oD 79 (.not Xv5)]
def X4q:VC:=.reg [oD 4 (.mv (.const (.string ⟨⟨[]⟩⟩))),oD 5 (.mv (.const (.int .i64 3)))]
def XY2:VC:=.seq X4q .ret
def XWx:VC:=.cond XxI XY2 .skip
def X4Q:VC:=.seq X1b XWx
def X5a:VC:=.reg [oM 81 Xdo,oD 82 (.callF 40 [Xyd,(.const (.int .i64 6)),(.const (.int .i64 2))]),oM 80 XBF,oE 83 0 XvY,oE 84 1 XvY,oM 16 XvW,oM 17 Xzu]
def X1Y:VC:=.reg [oM 86 XcZ,oD 87 (.bin .eql XGk (.const (.int .u64 0))),oM 85 XF8]
def XPl:VC:=.reg [oD 16 (.mv (.const (.int .u64 0)))]
def XXY:VC:=.reg [oM 89 Xdp,oD 90 (.bin .eql XzO (.const (.int .u64 0))),oM 88 XDi]
def XQZ:VC:=.reg [oD 16 (.mv (.const (.int .u64 65535)))]
def XX2:VC:=.cond XJu XQZ .skip
def X1V:VC:=.seq XXY XX2
def XUn:VC:=.cond XCC XPl X1V
def XU0:VC:=.seq X1Y XUn
def XOB:VC:=.block 1 XU0
def XZr:VC:=.regD [oM 91 τ0,oM 92 τ8,oD 93 (.sliceS XKT none (some XDH)),oM 94 Xdo,oM 95 Xdp,oD 96 (.callF 43 [XIA,(.const (.int .i64 6)),(.const (.int .i64 2)),XKu])] [] [oD 97 (.bin .add XFH XCd),oM 4 XLp,oD 5 (.mv (.const (.int .i64 0)))]
def XVz:VC:=.seq XZr .ret
def XYp:VC:=.seq XOB XVz
def XNS:VC:=.seq X5a XYp
def XYL:VC:=.seq X4Q XNS
def X4d:VC:=.seq XUE XYL
def X5t:VC:=.seq X47 X4d
def X7u:VC:=.seq X1X X5t
def XT8:VC:=.seq k19_8 X7u
def XYH:VC:=.seq k19_7 XT8
def X0A:VC:=.seq k19_6 XYH
def XQK:VC:=.seq k19_1 X0A
def X5K:VC:=.seq k19_0 XQK
def fn19:VFn:=⟨98,X5K,[.tmp 4,.tmp 5]⟩
def k20_0:VC:=.reg [oD 2 (.mv (.const (.int .i64 0))),oD 3 (.mv (.const (.int .i64 0))),oD 4 (.mv (.const (.int .i64 0)))]
def k20_1:VC:=.reg [oM 10 τ0,oD 11 (.callF 31 [Xcd]),oM 9 Xb7,oE 12 0 τ9,oE 13 1 τ9,oE 14 2 τ9,oE 15 3 τ9,oD 5 (.alloc [(.int .i64 0),(.bool false),(.int .u64 0),(.int .u64 0),(.bool false),(.int .u64 0),(.int .u64 0),(.int .i64 0),(.int .i64 0),(.int .i64 0),(.bool false),(.int .u32 0),(.int .u32 0),(.bool false),(.string ⟨⟨[]⟩⟩),(.int .i64 0)]),oN (.store 16 τ5 XcZ),oM 6 Xc0,oM 7 Xdo,oM 8 Xdm]
def k20_2:VC:=.reg [oM 16 τ6,oM 17 τ7,oM 18 τ8,oM 2 Xdp,oM 3 Xdn,oM 4 XdW]
def k20_3:VC:=.seq k20_2 .ret
def k20_4:VC:=.seq k20_1 k20_3
def k20_5:VC:=.seq k20_0 k20_4
def fn20:VFn:=⟨19,k20_5,[.tmp 2,.tmp 3,.tmp 4]⟩
theorem XDv:(Tryz.prog.funcs[57]?).bind (Xay Tryz.prog)=some fn57:=by kernel_rfl
theorem XEW:(Tryz.prog.funcs[95]?).bind (Xay Tryz.prog)=some fn95:=by kernel_rfl
theorem XCA:(Tryz.prog.funcs[97]?).bind (Xay Tryz.prog)=some fn97:=by kernel_rfl
theorem XCT:(Tryz.prog.funcs[92]?).bind (Xay Tryz.prog)=some fn92:=by kernel_rfl
theorem XFS:(Tryz.prog.funcs[85]?).bind (Xay Tryz.prog)=some fn85:=by kernel_rfl
theorem XDO:(Tryz.prog.funcs[94]?).bind (Xay Tryz.prog)=some fn94:=by kernel_rfl
theorem Xx4:(Tryz.prog.funcs[101]?).bind (Xay Tryz.prog)=some XX0:=by kernel_rfl
theorem XEY:(Tryz.prog.funcs[58]?).bind (Xay Tryz.prog)=some fn58:=by kernel_rfl
theorem XKN:(Tryz.prog.funcs[59]?).bind (Xay Tryz.prog)=some fn59:=by kernel_rfl
theorem XGY:(Tryz.prog.funcs[21]?).bind (Xay Tryz.prog)=some fn21:=by kernel_rfl
theorem XJC:(Tryz.prog.funcs[45]?).bind (Xay Tryz.prog)=some fn45:=by kernel_rfl
theorem XNf:(Tryz.prog.funcs[9]?).bind (Xay Tryz.prog)=some fn9:=by kernel_rfl
theorem XGN:(Tryz.prog.funcs[26]?).bind (Xay Tryz.prog)=some fn26:=by kernel_rfl
theorem XIt:(Tryz.prog.funcs[27]?).bind (Xay Tryz.prog)=some fn27:=by kernel_rfl
theorem XJj:(Tryz.prog.funcs[50]?).bind (Xay Tryz.prog)=some fn50:=by kernel_rfl
theorem XIY:(Tryz.prog.funcs[83]?).bind (Xay Tryz.prog)=some fn83:=by kernel_rfl
theorem XH2:(Tryz.prog.funcs[84]?).bind (Xay Tryz.prog)=some fn84:=by kernel_rfl
theorem XH0:(Tryz.prog.funcs[86]?).bind (Xay Tryz.prog)=some fn86:=by kernel_rfl
theorem XKJ:(Tryz.prog.funcs[89]?).bind (Xay Tryz.prog)=some fn89:=by kernel_rfl
theorem XED:(Tryz.prog.funcs[88]?).bind (Xay Tryz.prog)=some fn88:=by kernel_rfl
theorem XFA:(Tryz.prog.funcs[87]?).bind (Xay Tryz.prog)=some fn87:=by kernel_rfl
theorem XCB:(Tryz.prog.funcs[51]?).bind (Xay Tryz.prog)=some fn51:=by kernel_rfl
theorem XI1:(Tryz.prog.funcs[90]?).bind (Xay Tryz.prog)=some fn90:=by kernel_rfl
theorem Xyy:(Tryz.prog.funcs[118]?).bind (Xay Tryz.prog)=some XQl:=by kernel_rfl
theorem XIs:(Tryz.prog.funcs[91]?).bind (Xay Tryz.prog)=some fn91:=by kernel_rfl
theorem XDz:(Tryz.prog.funcs[52]?).bind (Xay Tryz.prog)=some fn52:=by kernel_rfl
theorem XJB:(Tryz.prog.funcs[93]?).bind (Xay Tryz.prog)=some fn93:=by kernel_rfl
theorem Xyl:(Tryz.prog.funcs[119]?).bind (Xay Tryz.prog)=some XSe:=by kernel_rfl
theorem XyS:(Tryz.prog.funcs[120]?).bind (Xay Tryz.prog)=some XY3:=by kernel_rfl
theorem XCl:(Tryz.prog.funcs[13]?).bind (Xay Tryz.prog)=some fn13:=by kernel_rfl
theorem XT3:(Tryz.prog.funcs[4]?).bind (Xay Tryz.prog)=some fn4:=by kernel_rfl
theorem XFT:(Tryz.prog.funcs[14]?).bind (Xay Tryz.prog)=some fn14:=by kernel_rfl
theorem XGa:(Tryz.prog.funcs[29]?).bind (Xay Tryz.prog)=some fn29:=by kernel_rfl
theorem XFa:(Tryz.prog.funcs[53]?).bind (Xay Tryz.prog)=some fn53:=by kernel_rfl
theorem XHh:(Tryz.prog.funcs[96]?).bind (Xay Tryz.prog)=some fn96:=by kernel_rfl
theorem XwI:(Tryz.prog.funcs[121]?).bind (Xay Tryz.prog)=some X0f:=by kernel_rfl
theorem XKL:(Tryz.prog.funcs[55]?).bind (Xay Tryz.prog)=some fn55:=by kernel_rfl
theorem XIU:(Tryz.prog.funcs[54]?).bind (Xay Tryz.prog)=some fn54:=by kernel_rfl
theorem XD5:(Tryz.prog.funcs[30]?).bind (Xay Tryz.prog)=some fn30:=by kernel_rfl
theorem XJ4:(Tryz.prog.funcs[16]?).bind (Xay Tryz.prog)=some fn16:=by kernel_rfl
theorem XIC:(Tryz.prog.funcs[33]?).bind (Xay Tryz.prog)=some fn33:=by kernel_rfl
theorem XHr:(Tryz.prog.funcs[34]?).bind (Xay Tryz.prog)=some fn34:=by kernel_rfl
theorem XER:(Tryz.prog.funcs[37]?).bind (Xay Tryz.prog)=some fn37:=by kernel_rfl
theorem XGQ:(Tryz.prog.funcs[32]?).bind (Xay Tryz.prog)=some fn32:=by kernel_rfl
theorem XEP:(Tryz.prog.funcs[38]?).bind (Xay Tryz.prog)=some fn38:=by kernel_rfl
theorem XI0:(Tryz.prog.funcs[41]?).bind (Xay Tryz.prog)=some fn41:=by kernel_rfl
theorem XLh:(Tryz.prog.funcs[69]?).bind (Xay Tryz.prog)=some fn69:=by kernel_rfl
theorem XCP:(Tryz.prog.funcs[68]?).bind (Xay Tryz.prog)=some fn68:=by kernel_rfl
theorem XxC:(Tryz.prog.funcs[105]?).bind (Xay Tryz.prog)=some XQh:=by kernel_rfl
theorem XxM:(Tryz.prog.funcs[127]?).bind (Xay Tryz.prog)=some X2T:=by kernel_rfl
theorem XJL:(Tryz.prog.funcs[17]?).bind (Xay Tryz.prog)=some fn17:=by kernel_rfl
theorem XHE:(Tryz.prog.funcs[18]?).bind (Xay Tryz.prog)=some fn18:=by kernel_rfl
theorem XHF:(Tryz.prog.funcs[35]?).bind (Xay Tryz.prog)=some fn35:=by kernel_rfl
theorem XHR:(Tryz.prog.funcs[36]?).bind (Xay Tryz.prog)=some fn36:=by kernel_rfl
theorem XKP:(Tryz.prog.funcs[19]?).bind (Xay Tryz.prog)=some fn19:=by kernel_rfl
theorem XKQ:(Tryz.prog.funcs[20]?).bind (Xay Tryz.prog)=some fn20:=by kernel_rfl
def tab:List (Nat×VFn):=[(3,fn3),(5,fn5),(8,fn8),(23,fn23),(28,fn28),(24,fn24),(11,fn11),(12,fn12),(10,fn10),(6,fn6),(22,fn22),(46,fn46),(71,fn71),(106,XTu),(129,XVH),(61,fn61),(62,fn62),(64,fn64),(63,fn63),(40,fn40),(131,XSY),(112,X7c),(104,X0w),(126,X2i),(128,X33),(134,X4w),(135,X4f),(130,XUV),(72,fn72),(107,XZU),(109,XSG),(113,XUD),(80,fn80),(42,fn42),(82,fn82),(116,XY8),(133,X5W),(117,XMR),(132,XMr),(102,XXO),(103,X3r),(125,X3G),(60,fn60),(73,fn73),(108,XRF),(39,fn39),(65,fn65),(66,fn66),(67,fn67),(25,fn25),(47,fn47),(74,fn74),(75,fn75),(110,XM0),(111,XZp),(76,fn76),(77,fn77),(78,fn78),(43,fn43),(48,fn48),(79,fn79),(49,fn49),(81,fn81),(114,XPY),(115,XQC),(7,fn7),(15,fn15),(31,fn31),(56,fn56),(98,fn98),(44,fn44),(70,fn70),(100,XYg),(124,X3S),(123,XM5),(122,XYR),(99,fn99),(57,fn57),(95,fn95),(97,fn97),(92,fn92),(85,fn85),(94,fn94),(101,XX0),(58,fn58),(59,fn59),(21,fn21),(45,fn45),(9,fn9),(26,fn26),(27,fn27),(50,fn50),(83,fn83),(84,fn84),(86,fn86),(89,fn89),(88,fn88),(87,fn87),(51,fn51),(90,fn90),(118,XQl),(91,fn91),(52,fn52),(93,fn93),(119,XSe),(120,XY3),(13,fn13),(4,fn4),(14,fn14),(29,fn29),(53,fn53),(96,fn96),(121,X0f),(55,fn55),(54,fn54),(30,fn30),(16,fn16),(33,fn33),(34,fn34),(37,fn37),(32,fn32),(38,fn38),(41,fn41),(69,fn69),(68,fn68),(105,XQh),(127,X2T),(17,fn17),(18,fn18),(35,fn35),(36,fn36),(19,fn19),(20,fn20)]
theorem Xam:Xi6 Tryz.prog (Xar tab):=Xi6.XaW ⟨X4a,XQL,X2D,XFk,XHx,XJU,XHn,XJw,XDY,X1E,XKp,XEo,XCW,XxS,Xyc,XHu,XKm,XGi,XJ3,XB4,XxK,XyE,XwK,Xy0,Xys,Xwq,Xwm,XxX,XK2,Xyt,XxR,Xx2,XJg,XGl,XH8,Xwy,XwP,Xyu,XxZ,XyJ,Xxn,Xx3,XFM,XI3,Xxk,XFJ,XCq,XHB,XJP,XIu,XKe,XHq,XGL,Xwz,XxF,XID,XHO,XCc,XHp,XIT,XFU,XEg,XG7,Xyk,Xxa,XXZ,XEc,XJQ,XJ1,XFF,XGp,XFW,Xyg,Xxh,XwM,XyX,XCu,XDv,XEW,XCA,XCT,XFS,XDO,Xx4,XEY,XKN,XGY,XJC,XNf,XGN,XIt,XJj,XIY,XH2,XH0,XKJ,XED,XFA,XCB,XI1,Xyy,XIs,XDz,XJB,Xyl,XyS,XCl,XT3,XFT,XGa,XFa,XHh,XwI,XKL,XIU,XD5,XJ4,XIC,XHr,XER,XGQ,XEP,XI0,XLh,XCP,XxC,XxM,XJL,XHE,XHF,XHR,XKP,XKQ,trivial⟩
end Go.Vm.Code
namespace Go.Vm.Code
open Go Go.Vm Go.Proofs
set_option maxRecDepth 100000
set_option maxHeartbeats 4000000
set_option linter.unusedVariables false
@[ext] structure Xaa where
 V6:Bool
 Hi:Int
 Lo:Int
 deriving DecidableEq
@[ext] structure Xbt where
 Proto:Int
 Src:Xaa
 Dst:Xaa
 SPort:Int
 DPort:Int
 deriving DecidableEq
@[ext] structure Xag where
 Tuple:Xbt
 Flags:Int
 Stamped:Bool
 Val:Int
 Echo:Int
 Long:Bool
 CID:List UInt8
 Size:Int
 deriving DecidableEq
@[ext] structure Xap where
 src:Xaa
 dst:Xaa
 proto:Int
 body:List UInt8
 deriving DecidableEq
@[ext] structure Xah where
 Class:Int
 Mark:Int
 Whole:Bool
 TTL:Int
 Proto:Int
 Src:Xaa
 Dst:Xaa
 Options:List UInt8
 deriving DecidableEq
@[ext] structure Xab where
 s:List UInt8
 made:Bool
 bad:Bool
 deriving DecidableEq
@[ext] structure Xbs where
 Reader:Xab
 deriving DecidableEq
@[ext] structure Xaj where
 Class:Int
 Label:Int
 Next:Int
 Hop:Int
 Src:Xaa
 Dst:Xaa
 deriving DecidableEq
@[ext] structure XaF where
 SPort:Int
 DPort:Int
 Seq:Int
 Ack:Int
 Flags:Int
 Window:Int
 Urgent:Int
 Options:List UInt8
 deriving DecidableEq
@[ext] structure XbL where
 Kind:Int
 Data:List UInt8
 deriving DecidableEq
@[ext] structure XaC where
 SPort:Int
 DPort:Int
 deriving DecidableEq
@[ext] structure XaR where
 Long:Bool
 Bits:Int
 Version:Int
 DCID:List UInt8
 SCID:List UInt8
 Rest:List UInt8
 deriving DecidableEq
@[ext] structure Xaf where
 Kind:Int
 Code:Int
 MTU:Int
 Quote:List UInt8
 deriving DecidableEq
@[ext] structure Xd7 where
 e0:Int
 e1:Int
 deriving DecidableEq
@[ext] structure Xbh where
 e0:Xd7
 e1:Xd7
 e2:Xd7
 e3:Xd7
 deriving DecidableEq
@[ext] structure XbD where
 msg:List UInt8
 addr:Int
 deriving DecidableEq
@[ext] structure Xb9 where
 src:Xaa
 dst:Xaa
 proto:Int
 size:Int
 body:List UInt8
 deriving DecidableEq
@[ext] structure XbE where
 Kind:Int
 Data:List UInt8
 At:Int
 deriving DecidableEq
def XeL (x:Xaa):List Value:=[.bool x.V6,.int .u64 x.Hi,.int .u64 x.Lo]
theorem Xiq (x:Xaa):(XeL x).length=3:=rfl
theorem Xgm (x:Xaa):Xbx.flatL (XeL x)=true:=rfl
theorem Xdv (x:Xaa):(XeL x).all XfX=true:=rfl
@[simp] theorem Xwa (xs:List Xaa):(vT XeL xs).length=xs.length*3:=XfG Xiq xs
@[simp] theorem XvX (xs:List Xaa) (n:Nat):(vT XeL xs).take (n*3)=vT XeL (xs.take n):=XeD Xiq xs n
@[simp] theorem Xwb (xs:List Xaa) (n:Nat):(vT XeL xs).drop (n*3)=vT XeL (xs.drop n):=XeK Xiq xs n
def Xlg:List Value→Option Xaa
 | [.bool a1,.int .u64 a2,.int .u64 a3]=>some (Xaa.mk a1 a2 a3)
 | _=>none
theorem XnE (cs:List Value) (x:Xaa) (h:Xlg cs=some x):cs=XeL x:=by
 unfold Xlg at h;split at h
 ·cases h;rfl
 ·cases h
def Xa7:Value→Option Xaa
 | .agg ⟨cs⟩=>Xlg cs
 | _=>none
theorem XaN (v:Value) (x:Xaa) (h:Xa7 v=some x):v=.agg ⟨XeL x⟩:=by
 unfold Xa7 at h;split at h
 ·rw [XnE _ _ h]
 ·cases h
theorem XaY (x:Xaa):Xa7 (.agg ⟨XeL x⟩)=some x:=rfl
def Xfm (x:Xbt):List Value:=[.int .i64 x.Proto,.bool x.Src.V6,.int .u64 x.Src.Hi,.int .u64 x.Src.Lo,.bool x.Dst.V6,.int .u64 x.Dst.Hi,.int .u64 x.Dst.Lo,.int .i64 x.SPort,.int .i64 x.DPort]
theorem XhG (x:Xbt):(Xfm x).length=9:=rfl
theorem XfL (x:Xbt):Xbx.flatL (Xfm x)=true:=rfl
theorem Xda (x:Xbt):(Xfm x).all XfX=true:=rfl
@[simp] theorem Xt6 (xs:List Xbt):(vT Xfm xs).length=xs.length*9:=XfG XhG xs
@[simp] theorem Xs7 (xs:List Xbt) (n:Nat):(vT Xfm xs).take (n*9)=vT Xfm (xs.take n):=XeD XhG xs n
@[simp] theorem Xud (xs:List Xbt) (n:Nat):(vT Xfm xs).drop (n*9)=vT Xfm (xs.drop n):=XeK XhG xs n
def XdJ (x:Xag):List Value:=[.int .i64 x.Tuple.Proto,.bool x.Tuple.Src.V6,.int .u64 x.Tuple.Src.Hi,.int .u64 x.Tuple.Src.Lo,.bool x.Tuple.Dst.V6,.int .u64 x.Tuple.Dst.Hi,.int .u64 x.Tuple.Dst.Lo,.int .i64 x.Tuple.SPort,.int .i64 x.Tuple.DPort,.int .i64 x.Flags,.bool x.Stamped,.int .u32 x.Val,.int .u32 x.Echo,.bool x.Long,.string ⟨⟨x.CID⟩⟩,.int .i64 x.Size]
theorem Xhh (x:Xag):(XdJ x).length=16:=rfl
theorem Xe7 (x:Xag):Xbx.flatL (XdJ x)=true:=rfl
theorem XcN (x:Xag):(XdJ x).all XfX=true:=rfl
@[simp] theorem XsL (xs:List Xag):(vT XdJ xs).length=xs.length*16:=XfG Xhh xs
@[simp] theorem XsH (xs:List Xag) (n:Nat):(vT XdJ xs).take (n*16)=vT XdJ (xs.take n):=XeD Xhh xs n
@[simp] theorem XsP (xs:List Xag) (n:Nat):(vT XdJ xs).drop (n*16)=vT XdJ (xs.drop n):=XeK Xhh xs n
def Xgw:List Value→Option Xag
 | [.int .i64 a1,.bool a2,.int .u64 a3,.int .u64 a4,.bool a5,.int .u64 a6,.int .u64 a7,.int .i64 a8,.int .i64 a9,.int .i64 a10,.bool a11,.int .u32 a12,.int .u32 a13,.bool a14,.string ⟨⟨a15⟩⟩,.int .i64 a16]=>some (Xag.mk (Xbt.mk a1 (Xaa.mk a2 a3 a4) (Xaa.mk a5 a6 a7) a8 a9) a10 a11 a12 a13 a14 a15 a16)
 | _=>none
theorem Xjf (cs:List Value) (x:Xag) (h:Xgw cs=some x):cs=XdJ x:=by
 unfold Xgw at h;split at h
 ·cases h;rfl
 ·cases h
theorem XjR (x:Xag):Xgw (XdJ x)=some x:=rfl
def Xcy (x:Xap):List Value:=[.bool x.src.V6,.int .u64 x.src.Hi,.int .u64 x.src.Lo,.bool x.dst.V6,.int .u64 x.dst.Hi,.int .u64 x.dst.Lo,.int .i64 x.proto,.string ⟨⟨x.body⟩⟩]
theorem Xf9 (x:Xap):(Xcy x).length=8:=rfl
theorem Xem (x:Xap):Xbx.flatL (Xcy x)=true:=rfl
theorem Xcm (x:Xap):(Xcy x).all XfX=true:=rfl
@[simp] theorem Xrv (xs:List Xap):(vT Xcy xs).length=xs.length*8:=XfG Xf9 xs
@[simp] theorem XrJ (xs:List Xap) (n:Nat):(vT Xcy xs).take (n*8)=vT Xcy (xs.take n):=XeD Xf9 xs n
@[simp] theorem XqU (xs:List Xap) (n:Nat):(vT Xcy xs).drop (n*8)=vT Xcy (xs.drop n):=XeK Xf9 xs n
def XhO:List Value→Option Xap
 | [.bool a1,.int .u64 a2,.int .u64 a3,.bool a4,.int .u64 a5,.int .u64 a6,.int .i64 a7,.string ⟨⟨a8⟩⟩]=>some (Xap.mk (Xaa.mk a1 a2 a3) (Xaa.mk a4 a5 a6) a7 a8)
 | _=>none
theorem Xld (cs:List Value) (x:Xap) (h:XhO cs=some x):cs=Xcy x:=by
 unfold XhO at h;split at h
 ·cases h;rfl
 ·cases h
def Xe0:Value→Option Xap
 | .agg ⟨cs⟩=>XhO cs
 | _=>none
theorem XhU (v:Value) (x:Xap) (h:Xe0 v=some x):v=.agg ⟨Xcy x⟩:=by
 unfold Xe0 at h;split at h
 ·rw [Xld _ _ h]
 ·cases h
theorem XiM (x:Xap):Xe0 (.agg ⟨Xcy x⟩)=some x:=rfl
def XcY (x:Xah):List Value:=[.int .i64 x.Class,.int .i64 x.Mark,.bool x.Whole,.int .i64 x.TTL,.int .i64 x.Proto,.bool x.Src.V6,.int .u64 x.Src.Hi,.int .u64 x.Src.Lo,.bool x.Dst.V6,.int .u64 x.Dst.Hi,.int .u64 x.Dst.Lo,.string ⟨⟨x.Options⟩⟩]
theorem XgC (x:Xah):(XcY x).length=12:=rfl
theorem XeS (x:Xah):Xbx.flatL (XcY x)=true:=rfl
theorem XcB (x:Xah):(XcY x).all XfX=true:=rfl
@[simp] theorem Xsf (xs:List Xah):(vT XcY xs).length=xs.length*12:=XfG XgC xs
@[simp] theorem XsA (xs:List Xah) (n:Nat):(vT XcY xs).take (n*12)=vT XcY (xs.take n):=XeD XgC xs n
@[simp] theorem Xr0 (xs:List Xah) (n:Nat):(vT XcY xs).drop (n*12)=vT XcY (xs.drop n):=XeK XgC xs n
def Xiw:List Value→Option Xah
 | [.int .i64 a1,.int .i64 a2,.bool a3,.int .i64 a4,.int .i64 a5,.bool a6,.int .u64 a7,.int .u64 a8,.bool a9,.int .u64 a10,.int .u64 a11,.string ⟨⟨a12⟩⟩]=>some (Xah.mk a1 a2 a3 a4 a5 (Xaa.mk a6 a7 a8) (Xaa.mk a9 a10 a11) a12)
 | _=>none
theorem XlN (cs:List Value) (x:Xah) (h:Xiw cs=some x):cs=XcY x:=by
 unfold Xiw at h;split at h
 ·cases h;rfl
 ·cases h
def Xd3:Value→Option Xah
 | .agg ⟨cs⟩=>Xiw cs
 | _=>none
theorem Xe8 (v:Value) (x:Xah) (h:Xd3 v=some x):v=.agg ⟨XcY x⟩:=by
 unfold Xd3 at h;split at h
 ·rw [XlN _ _ h]
 ·cases h
theorem XfF (x:Xah):Xd3 (.agg ⟨XcY x⟩)=some x:=rfl
def XcK (x:Xab):List Value:=[.string ⟨⟨x.s⟩⟩,.bool x.made,.bool x.bad]
theorem Xgd (x:Xab):(XcK x).length=3:=rfl
theorem Xej (x:Xab):Xbx.flatL (XcK x)=true:=rfl
theorem Xcl (x:Xab):(XcK x).all XfX=true:=rfl
@[simp] theorem Xq8 (xs:List Xab):(vT XcK xs).length=xs.length*3:=XfG Xgd xs
@[simp] theorem Xrf (xs:List Xab) (n:Nat):(vT XcK xs).take (n*3)=vT XcK (xs.take n):=XeD Xgd xs n
@[simp] theorem Xrp (xs:List Xab) (n:Nat):(vT XcK xs).drop (n*3)=vT XcK (xs.drop n):=XeK Xgd xs n
def XcJ:List Value→Option Xab
 | [.string ⟨⟨a1⟩⟩,.bool a2,.bool a3]=>some (Xab.mk a1 a2 a3)
 | _=>none
theorem Xdh (cs:List Value) (x:Xab) (h:XcJ cs=some x):cs=XcK x:=by
 unfold XcJ at h;split at h
 ·cases h;rfl
 ·cases h
theorem Xd8 (x:Xab):XcJ (XcK x)=some x:=rfl
def Xdk (x:Xaj):List Value:=[.int .i64 x.Class,.int .i64 x.Label,.int .i64 x.Next,.int .i64 x.Hop,.bool x.Src.V6,.int .u64 x.Src.Hi,.int .u64 x.Src.Lo,.bool x.Dst.V6,.int .u64 x.Dst.Hi,.int .u64 x.Dst.Lo]
theorem Xhf (x:Xaj):(Xdk x).length=10:=rfl
theorem Xe9 (x:Xaj):Xbx.flatL (Xdk x)=true:=rfl
theorem XcT (x:Xaj):(Xdk x).all XfX=true:=rfl
@[simp] theorem XsO (xs:List Xaj):(vT Xdk xs).length=xs.length*10:=XfG Xhf xs
@[simp] theorem XsJ (xs:List Xaj) (n:Nat):(vT Xdk xs).take (n*10)=vT Xdk (xs.take n):=XeD Xhf xs n
@[simp] theorem XsI (xs:List Xaj) (n:Nat):(vT Xdk xs).drop (n*10)=vT Xdk (xs.drop n):=XeK Xhf xs n
def Xje:List Value→Option Xaj
 | [.int .i64 a1,.int .i64 a2,.int .i64 a3,.int .i64 a4,.bool a5,.int .u64 a6,.int .u64 a7,.bool a8,.int .u64 a9,.int .u64 a10]=>some (Xaj.mk a1 a2 a3 a4 (Xaa.mk a5 a6 a7) (Xaa.mk a8 a9 a10))
 | _=>none
theorem XmS (cs:List Value) (x:Xaj) (h:Xje cs=some x):cs=Xdk x:=by
 unfold Xje at h;split at h
 ·cases h;rfl
 ·cases h
def Xey:Value→Option Xaj
 | .agg ⟨cs⟩=>Xje cs
 | _=>none
theorem XfN (v:Value) (x:Xaj) (h:Xey v=some x):v=.agg ⟨Xdk x⟩:=by
 unfold Xey at h;split at h
 ·rw [XmS _ _ h]
 ·cases h
theorem Xgi (x:Xaj):Xey (.agg ⟨Xdk x⟩)=some x:=rfl
def Xgy (x:XaF):List Value:=[.int .i64 x.SPort,.int .i64 x.DPort,.int .u32 x.Seq,.int .u32 x.Ack,.int .i64 x.Flags,.int .i64 x.Window,.int .i64 x.Urgent,.string ⟨⟨x.Options⟩⟩]
theorem Xiy (x:XaF):(Xgy x).length=8:=rfl
theorem Xgj (x:XaF):Xbx.flatL (Xgy x)=true:=rfl
theorem XdG (x:XaF):(Xgy x).all XfX=true:=rfl
@[simp] theorem Xv7 (xs:List XaF):(vT Xgy xs).length=xs.length*8:=XfG Xiy xs
@[simp] theorem Xwd (xs:List XaF) (n:Nat):(vT Xgy xs).take (n*8)=vT Xgy (xs.take n):=XeD Xiy xs n
@[simp] theorem Xwj (xs:List XaF) (n:Nat):(vT Xgy xs).drop (n*8)=vT Xgy (xs.drop n):=XeK Xiy xs n
def Xgn (x:XbL):List Value:=[.int .i64 x.Kind,.string ⟨⟨x.Data⟩⟩]
theorem Xhu (x:XbL):(Xgn x).length=2:=rfl
theorem Xca (x:XbL):Xbx.flatL (Xgn x)=true:=rfl
theorem Xd0 (x:XbL):(Xgn x).all XfX=true:=rfl
@[simp] theorem XwW (xs:List XbL):(vT Xgn xs).length=xs.length*2:=XfG Xhu xs
@[simp] theorem Xx5 (xs:List XbL) (n:Nat):(vT Xgn xs).take (n*2)=vT Xgn (xs.take n):=XeD Xhu xs n
@[simp] theorem XyQ (xs:List XbL) (n:Nat):(vT Xgn xs).drop (n*2)=vT Xgn (xs.drop n):=XeK Xhu xs n
def Xgr (x:XaC):List Value:=[.int .i64 x.SPort,.int .i64 x.DPort]
theorem XgJ (x:XaC):(Xgr x).length=2:=rfl
theorem Xgl (x:XaC):Xbx.flatL (Xgr x)=true:=rfl
theorem XdB (x:XaC):(Xgr x).all XfX=true:=rfl
@[simp] theorem Xv4 (xs:List XaC):(vT Xgr xs).length=xs.length*2:=XfG XgJ xs
@[simp] theorem Xwg (xs:List XaC) (n:Nat):(vT Xgr xs).take (n*2)=vT Xgr (xs.take n):=XeD XgJ xs n
@[simp] theorem Xv3 (xs:List XaC) (n:Nat):(vT Xgr xs).drop (n*2)=vT Xgr (xs.drop n):=XeK XgJ xs n
def Xfs (x:XaR):List Value:=[.bool x.Long,.int .i64 x.Bits,.int .u32 x.Version,.string ⟨⟨x.DCID⟩⟩,.string ⟨⟨x.SCID⟩⟩,.string ⟨⟨x.Rest⟩⟩]
theorem XhL (x:XaR):(Xfs x).length=6:=rfl
theorem XfK (x:XaR):Xbx.flatL (Xfs x)=true:=rfl
theorem Xdb (x:XaR):(Xfs x).all XfX=true:=rfl
@[simp] theorem Xtk (xs:List XaR):(vT Xfs xs).length=xs.length*6:=XfG XhL xs
@[simp] theorem Xtj (xs:List XaR) (n:Nat):(vT Xfs xs).take (n*6)=vT Xfs (xs.take n):=XeD XhL xs n
@[simp] theorem Xs3 (xs:List XaR) (n:Nat):(vT Xfs xs).drop (n*6)=vT Xfs (xs.drop n):=XeK XhL xs n
def Xct (x:Xaf):List Value:=[.int .i64 x.Kind,.int .i64 x.Code,.int .i64 x.MTU,.string ⟨⟨x.Quote⟩⟩]
theorem Xf5 (x:Xaf):(Xct x).length=4:=rfl
theorem Xen (x:Xaf):Xbx.flatL (Xct x)=true:=rfl
theorem Xck (x:Xaf):(Xct x).all XfX=true:=rfl
@[simp] theorem Xq2 (xs:List Xaf):(vT Xct xs).length=xs.length*4:=XfG Xf5 xs
@[simp] theorem XqT (xs:List Xaf) (n:Nat):(vT Xct xs).take (n*4)=vT Xct (xs.take n):=XeD Xf5 xs n
@[simp] theorem XqN (xs:List Xaf) (n:Nat):(vT Xct xs).drop (n*4)=vT Xct (xs.drop n):=XeK Xf5 xs n
def XhF:List Value→Option Xaf
 | [.int .i64 a1,.int .i64 a2,.int .i64 a3,.string ⟨⟨a4⟩⟩]=>some (Xaf.mk a1 a2 a3 a4)
 | _=>none
theorem Xlh (cs:List Value) (x:Xaf) (h:XhF cs=some x):cs=Xct x:=by
 unfold XhF at h;split at h
 ·cases h;rfl
 ·cases h
def XcL:Value→Option Xaf
 | .agg ⟨cs⟩=>XhF cs
 | _=>none
theorem Xdc (v:Value) (x:Xaf) (h:XcL v=some x):v=.agg ⟨Xct x⟩:=by
 unfold XcL at h;split at h
 ·rw [Xlh _ _ h]
 ·cases h
theorem Xds (x:Xaf):XcL (.agg ⟨Xct x⟩)=some x:=rfl
def Xgt (x:Xd7):List Value:=[.int .i64 x.e0,.int .i64 x.e1]
theorem Xiu (x:Xd7):(Xgt x).length=2:=rfl
theorem Xgk (x:Xd7):Xbx.flatL (Xgt x)=true:=rfl
theorem XdD (x:Xd7):(Xgt x).all XfX=true:=rfl
@[simp] theorem Xv9 (xs:List Xd7):(vT Xgt xs).length=xs.length*2:=XfG Xiu xs
@[simp] theorem Xv1 (xs:List Xd7) (n:Nat):(vT Xgt xs).take (n*2)=vT Xgt (xs.take n):=XeD Xiu xs n
@[simp] theorem Xwc (xs:List Xd7) (n:Nat):(vT Xgt xs).drop (n*2)=vT Xgt (xs.drop n):=XeK Xiu xs n
def Xc9 (x:Xbh):List Value:=[.int .i64 x.e0.e0,.int .i64 x.e0.e1,.int .i64 x.e1.e0,.int .i64 x.e1.e1,.int .i64 x.e2.e0,.int .i64 x.e2.e1,.int .i64 x.e3.e0,.int .i64 x.e3.e1]
theorem XfQ (x:Xbh):(Xc9 x).length=8:=rfl
theorem Xd5 (x:Xbh):Xbx.flatL (Xc9 x)=true:=rfl
theorem Xb3 (x:Xbh):(Xc9 x).all XfX=true:=rfl
@[simp] theorem XqF (xs:List Xbh):(vT Xc9 xs).length=xs.length*8:=XfG XfQ xs
@[simp] theorem XqA (xs:List Xbh) (n:Nat):(vT Xc9 xs).take (n*8)=vT Xc9 (xs.take n):=XeD XfQ xs n
@[simp] theorem XqB (xs:List Xbh) (n:Nat):(vT Xc9 xs).drop (n*8)=vT Xc9 (xs.drop n):=XeK XfQ xs n
def Xbo (x:XbD):List Value:=[.string ⟨⟨x.msg⟩⟩,.int .u64 x.addr]
theorem XcD (x:XbD):(Xbo x).length=2:=rfl
theorem XbX (x:XbD):Xbx.flatL (Xbo x)=true:=rfl
theorem Xa8 (x:XbD):(Xbo x).all XfX=true:=rfl
@[simp] theorem Xk3 (xs:List XbD):(vT Xbo xs).length=xs.length*2:=XfG XcD xs
@[simp] theorem XkY (xs:List XbD) (n:Nat):(vT Xbo xs).take (n*2)=vT Xbo (xs.take n):=XeD XcD xs n
@[simp] theorem XkX (xs:List XbD) (n:Nat):(vT Xbo xs).drop (n*2)=vT Xbo (xs.drop n):=XeK XcD xs n
def Xgu (x:Xb9):List Value:=[.bool x.src.V6,.int .u64 x.src.Hi,.int .u64 x.src.Lo,.bool x.dst.V6,.int .u64 x.dst.Hi,.int .u64 x.dst.Lo,.int .i64 x.proto,.int .i64 x.size,.string ⟨⟨x.body⟩⟩]
theorem XiE (x:Xb9):(Xgu x).length=9:=rfl
theorem Xgq (x:Xb9):Xbx.flatL (Xgu x)=true:=rfl
theorem Xdz (x:Xb9):(Xgu x).all XfX=true:=rfl
@[simp] theorem Xv0 (xs:List Xb9):(vT Xgu xs).length=xs.length*9:=XfG XiE xs
@[simp] theorem Xv8 (xs:List Xb9) (n:Nat):(vT Xgu xs).take (n*9)=vT Xgu (xs.take n):=XeD XiE xs n
@[simp] theorem Xv6 (xs:List Xb9) (n:Nat):(vT Xgu xs).drop (n*9)=vT Xgu (xs.drop n):=XeK XiE xs n
def XfH (x:XbE):List Value:=[.int .i64 x.Kind,.string ⟨⟨x.Data⟩⟩,.int .i64 x.At]
theorem Xdw (x:XbE):(XfH x).length=3:=rfl
theorem Xcu (x:XbE):Xbx.flatL (XfH x)=true:=rfl
theorem XdY (x:XbE):(XfH x).all XfX=true:=rfl
@[simp] theorem XyA (xs:List XbE):(vT XfH xs).length=xs.length*3:=XfG Xdw xs
@[simp] theorem Xwr (xs:List XbE) (n:Nat):(vT XfH xs).take (n*3)=vT XfH (xs.take n):=XeD Xdw xs n
@[simp] theorem XwQ (xs:List XbE) (n:Nat):(vT XfH xs).drop (n*3)=vT XfH (xs.drop n):=XeK Xdw xs n
def XfI (k:Nat):Value→List (Option (List Value))→Option Xbs
 | .agg ⟨[.pointer (some ⟨k0,0,none⟩)]⟩,[some c0]=>match XcJ c0 with|some x0=>(if k0=k+0 then some (Xbs.mk x0) else none)|none=>none
 | _,_=>none
theorem XkS {k:Nat} {v:Value} {cs:List (Option (List Value))} {x:Xbs} (h:XfI k v cs=some x):v=.agg ⟨[.pointer (some ⟨k+0,0,none⟩)]⟩∧cs=[some [.string ⟨⟨x.Reader.s⟩⟩,.bool x.Reader.made,.bool x.Reader.bad]]:=by
 unfold XfI at h;split at h<;>try (cases h;done)
 split at h<;>try (cases h;done)
 rename_i x0 e0
 split at h<;>cases h
 rename_i hk
 subst hk
 obtain rfl:=Xdh _ _ e0
 exact ⟨rfl,rfl⟩
theorem Xlq (k:Nat) (x:Xbs):XfI k (.agg ⟨[.pointer (some ⟨k+0,0,none⟩)]⟩) [some [.string ⟨⟨x.Reader.s⟩⟩,.bool x.Reader.made,.bool x.Reader.bad]]=some x:=by
 show (if k+0=k+0 then some x else none)=_
 simp
theorem Xkm {P:Program} {f base fn nt:Nat} {e e':Env} {todo todo':List Xei} {ds ds':List Nat} {ret:Bool} {up up':List Xbi} {H H':Hp} {top top':Nat} {R:Value→Hp→Nat→Prop}
 (h:XaD P f base ⟨⟨fn,nt,e',todo',ds',ret,none⟩,up',H',top'⟩ R) (m:List (Nat×Nat)) (hc:XvZ base top' m=true) (he:reE (Xar m) e e':=by repeat' first|exact trivial|refine ⟨⟨_,rfl,rfl⟩,?_⟩|refine ⟨⟨_,_,rfl,rfl,.rowF (XhE _ _) id⟩,?_⟩|refine ⟨⟨_,_,rfl,rfl,.rowF (XnU _) id⟩,?_⟩|refine ⟨⟨_,_,rfl,rfl,.rowF (Xow _) id⟩,?_⟩|refine ⟨⟨_,_,rfl,rfl,.rowF (Xmy (by first|exact Xgm|exact XfL|exact Xe7|exact Xem|exact XeS|exact Xej|exact Xe9|exact Xgj|exact Xca|exact Xgl|exact XfK|exact Xen|exact Xgk|exact Xd5|exact XbX|exact Xgq|exact Xcu) _) id⟩,?_⟩|refine ⟨⟨_,_,rfl,rfl,.tyF (XhE _ _)⟩,?_⟩|refine ⟨⟨_,_,rfl,rfl,.ty rfl⟩,?_⟩|refine ⟨⟨_,_,rfl,rfl,.cells rfl⟩,?_⟩|refine ⟨⟨_,_,rfl,rfl,.row rfl id⟩,?_⟩|refine ⟨⟨_,_,rfl,rfl,.cr rfl⟩,?_⟩|refine ⟨⟨_,_,rfl,rfl,.rc rfl⟩,?_⟩|refine ⟨⟨_,_,rfl,rfl,.marks⟩,?_⟩|refine ⟨⟨_,_,rfl,rfl,.siter _ _⟩,?_⟩|refine ⟨⟨_,_,rfl,rfl,.loop rfl rfl rfl rfl (by repeat' first|exact trivial|refine ⟨rfl,?_⟩) rfl rfl rfl rfl⟩,?_⟩) (hH:reH (Xar m) H H':=by repeat' first|exact trivial|refine ⟨⟨_,rfl,rfl⟩,?_⟩|refine ⟨⟨_,_,rfl,rfl,.rowF (XhE _ _) id⟩,?_⟩|refine ⟨⟨_,_,rfl,rfl,.rowF (XnU _) id⟩,?_⟩|refine ⟨⟨_,_,rfl,rfl,.rowF (Xow _) id⟩,?_⟩|refine ⟨⟨_,_,rfl,rfl,.rowF (Xmy (by first|exact Xgm|exact XfL|exact Xe7|exact Xem|exact XeS|exact Xej|exact Xe9|exact Xgj|exact Xca|exact Xgl|exact XfK|exact Xen|exact Xgk|exact Xd5|exact XbX|exact Xgq|exact Xcu) _) id⟩,?_⟩|refine ⟨⟨_,_,rfl,rfl,.tyF (XhE _ _)⟩,?_⟩|refine ⟨⟨_,_,rfl,rfl,.ty rfl⟩,?_⟩|refine ⟨⟨_,_,rfl,rfl,.cells rfl⟩,?_⟩|refine ⟨⟨_,_,rfl,rfl,.row rfl id⟩,?_⟩|refine ⟨⟨_,_,rfl,rfl,.cr rfl⟩,?_⟩|refine ⟨⟨_,_,rfl,rfl,.rc rfl⟩,?_⟩|refine ⟨⟨_,_,rfl,rfl,.marks⟩,?_⟩|refine ⟨⟨_,_,rfl,rfl,.siter _ _⟩,?_⟩|refine ⟨⟨_,_,rfl,rfl,.loop rfl rfl rfl rfl (by repeat' first|exact trivial|refine ⟨rfl,?_⟩) rfl rfl rfl rfl⟩,?_⟩)
 (ht:Xyf (Xar m) todo'=some todo:=by rfl) (hd:XwR (Xar m) ds'=some ds:=by rfl) (hu:reU (Xar m) up up':=by trivial) :
 XaD P f base ⟨⟨fn,nt,e,todo,ds,ret,none⟩,up,H,top⟩ R:=XaD.re h m hc he hH ht hd hu
theorem XxU {P:Program} {f base fn nt:Nat} {e e':Env} {todo todo':List Xei} {ds ds':List Nat} {ret:Bool} {up up':List Xbi} {H H':Hp} {top top':Nat} {R:Value→Hp→Nat→Prop}
 (h:XaD P f base ⟨⟨fn,nt,e',todo',ds',ret,none⟩,up',H',top'⟩ R) (m:List (Nat×Nat)) (hc:XvZ base top' m=true) (he:reE (Xar m) e e':=by repeat' first|exact trivial|refine ⟨⟨_,rfl,rfl⟩,?_⟩|refine ⟨⟨_,_,rfl,rfl,.rowF (XhE _ _) id⟩,?_⟩|refine ⟨⟨_,_,rfl,rfl,.rowF (XnU _) id⟩,?_⟩|refine ⟨⟨_,_,rfl,rfl,.rowF (Xow _) id⟩,?_⟩|refine ⟨⟨_,_,rfl,rfl,.rowF (Xmy (by first|exact Xgm|exact XfL|exact Xe7|exact Xem|exact XeS|exact Xej|exact Xe9|exact Xgj|exact Xca|exact Xgl|exact XfK|exact Xen|exact Xgk|exact Xd5|exact XbX|exact Xgq|exact Xcu) _) id⟩,?_⟩|refine ⟨⟨_,_,rfl,rfl,.tyF (XhE _ _)⟩,?_⟩|refine ⟨⟨_,_,rfl,rfl,.ty rfl⟩,?_⟩|refine ⟨⟨_,_,rfl,rfl,.cells rfl⟩,?_⟩|refine ⟨⟨_,_,rfl,rfl,.row rfl id⟩,?_⟩|refine ⟨⟨_,_,rfl,rfl,.cr rfl⟩,?_⟩|refine ⟨⟨_,_,rfl,rfl,.rc rfl⟩,?_⟩|refine ⟨⟨_,_,rfl,rfl,.marks⟩,?_⟩|refine ⟨⟨_,_,rfl,rfl,.siter _ _⟩,?_⟩|refine ⟨⟨_,_,rfl,rfl,.loop rfl rfl rfl rfl (by repeat' first|exact trivial|refine ⟨rfl,?_⟩) rfl rfl rfl rfl⟩,?_⟩) (hH:reH (Xar m) H H':=by repeat' first|exact trivial|refine ⟨⟨_,rfl,rfl⟩,?_⟩|refine ⟨⟨_,_,rfl,rfl,.rowF (XhE _ _) id⟩,?_⟩|refine ⟨⟨_,_,rfl,rfl,.rowF (XnU _) id⟩,?_⟩|refine ⟨⟨_,_,rfl,rfl,.rowF (Xow _) id⟩,?_⟩|refine ⟨⟨_,_,rfl,rfl,.rowF (Xmy (by first|exact Xgm|exact XfL|exact Xe7|exact Xem|exact XeS|exact Xej|exact Xe9|exact Xgj|exact Xca|exact Xgl|exact XfK|exact Xen|exact Xgk|exact Xd5|exact XbX|exact Xgq|exact Xcu) _) id⟩,?_⟩|refine ⟨⟨_,_,rfl,rfl,.tyF (XhE _ _)⟩,?_⟩|refine ⟨⟨_,_,rfl,rfl,.ty rfl⟩,?_⟩|refine ⟨⟨_,_,rfl,rfl,.cells rfl⟩,?_⟩|refine ⟨⟨_,_,rfl,rfl,.row rfl id⟩,?_⟩|refine ⟨⟨_,_,rfl,rfl,.cr rfl⟩,?_⟩|refine ⟨⟨_,_,rfl,rfl,.rc rfl⟩,?_⟩|refine ⟨⟨_,_,rfl,rfl,.marks⟩,?_⟩|refine ⟨⟨_,_,rfl,rfl,.siter _ _⟩,?_⟩|refine ⟨⟨_,_,rfl,rfl,.loop rfl rfl rfl rfl (by repeat' first|exact trivial|refine ⟨rfl,?_⟩) rfl rfl rfl rfl⟩,?_⟩)
 (ht:Xyf (Xar m) todo'=some todo:=by rfl) (hd:XwR (Xar m) ds'=some ds:=by rfl) (hu:reU (Xar m) up up':=by repeat' first|exact trivial|refine ⟨⟨rfl,rfl,rfl,rfl,rfl,?_,rfl,rfl⟩,?_⟩|refine ⟨⟨_,rfl,rfl⟩,?_⟩) :
 XaD P f base ⟨⟨fn,nt,e,todo,ds,ret,none⟩,up,H,top⟩ R:=XaD.re h m hc he hH ht hd hu
def XfM (n1:Int):Option (Sum Int Int):=
 cond (decide (n1>65535))
  (
  let t:=wI .i64 ((XjJ .i64 n1 65535)+(n1.fdiv (2^16)))
  some (.inl t))
  (
  some (.inr (n1)))
def Xf1 (n:Int):Option Int:=
 iter (fun st=>XfM st) FUEL n
def XsG (x:Int):Xco:=⟨.int .i64 x,[],[]⟩
def r128 (g:Int→Option Int):Dec:=dV (asI .i64) fun (y0:Int)=>Xc5 (ofG (g y0) XsG)
theorem X5b {g:Int→Option Int} {y0:Int} {x:Int} (hx:g y0=some x):r128 g [.int .i64 y0] []=some (XsG x):=(XaS (XcI _)).trans (XaZ hx)
def s128 (g:Int→Option Int):Xbp:=⟨[.v],r128 g⟩
theorem Xus {g:Int→Option Int} {y0:Int} {x:Int} (hx:g y0=some x):(s128 g).run [.int .i64 y0] []=some (XsG x):=X5b hx
abbrev Xql:List (Nat×Xbp):=[]
def XiW (n1:Int):VM:=
 ⟨⟨128,11,[(0,.int .i64 n1)],[.code XtT,.inLoop XtT,.inBlock 0,.code XtO],[],false,none⟩,[],[],0⟩
theorem XuJ (hS:Xai Tryz.prog (Xar (Xql))) (res:Int):∀ fuel (st:Int) (o:Int),iter (fun st=>XfM st) fuel st=some o→(o=res) →
 XaD Tryz.prog 128 0 (XiW st) (fun v H _=>Res 0 (XsG res) v H):=by
 intro fuel st o h hc
 refine Xch (head:=fun st=>XiW st) (C:=fun o=>(o=res)) ?_ fuel st o h hc
 clear h hc o st fuel
 intro n1 o h hc
 replace h:XfM n1=some o:=h
 show XaD Tryz.prog 128 0 (XiW n1) (fun v H _=>Res 0 (XsG res) v H)
 unfold XfM at h
 refine Xa9 Xam hS true 3000 ?_
 conv=>whnf
 refine br.h2 h ?_ ?_ ?_
 ·rfl
 ·clear h;intro hb h;conv=>whnf
  all_goals (cases h;cases hc;exact Res.z rfl rfl rfl)
 clear h;intro hb h;conv=>whnf
 let t:Int:=wI .i64 ((XjJ .i64 n1 65535)+(n1.fdiv (2^16)))
 cases h;simp only [Sum.elim_inl,XiW] at hc
 exact Xkm hc [] rfl
theorem XxW (hS:Xai Tryz.prog (Xar (Xql))) (n:Int) (res:Int) (h:Xf1 n=some res) :
 XaD Tryz.prog 128 0 ⟨⟨128,11,[(0,.int .i64 n)],[.code Xuy],[],false,none⟩,[],[],0⟩ (fun v H _=>Res 0 (XsG res) v H):=by
 unfold Xf1 at h
 refine Xa9 Xam hS true 3000 ?_
 conv=>whnf
 have hl:=XuJ hS res _ _ _ h rfl;simp only [XiW] at hl
 exact Xkm hl [] rfl
theorem ok128 (hS:Xai Tryz.prog (Xar (Xql))):Xan Tryz.prog 128 (s128 (Xf1)):=by
 refine Xan.Xau Xam (fun ar os r ha hr=>?_) ⟨Tryz.f128,rfl,by decide,rfl⟩
 replace hr:r128 (Xf1) ar (XaA os)=some r:=hr
 unfold r128 at hr
 generalize hc:XaA os=C at hr
 replace hr:=dV.elim hr;obtain ⟨v0,l1,y0,rfl,e0,hr⟩:=hr;obtain rfl:=XbP _ _ _ e0
 replace hr:=Xdg hr;obtain ⟨rfl,rfl,x,h,rfl⟩:=hr
 obtain rfl:=Xao hc
 exact ⟨_,rfl,XxW hS _ x h⟩
def XbA:Int→Option Int:=Xf1
theorem XEA:Xan Tryz.prog 128 (s128 XbA):=ok128 (Xai.XaW trivial)
def Xft (XbA:Int→Option Int) (s:List UInt8) (xat:Int) (n:Int):Option (Sum (Int×Int) Int):=
 cond (decide (xat<(s.length:Int)))
  (
  XaK (decide (0≤xat)) <|
  (s[xat.toNat]?).bind fun (b:UInt8)=>
  let t:=wI .i64 ((wI .i64 (b.toNat:Int))*2^8)
  let t1:=decide ((wI .i64 (xat+1))<(s.length:Int))
  cond (t1)
   (
   XaK (decide (0≤(wI .i64 (xat+1)))) <|
   (s[(wI .i64 (xat+1)).toNat]?).bind fun (b1:UInt8)=>
   let t2:=wI .i64 (n+(Xkl .i64 t (wI .i64 (b1.toNat:Int))))
   (XbA t2).bind fun f=>
   some (.inl (wI .i64 (xat+2),f)))
   (
   (XbA (wI .i64 (n+t))).bind fun f1=>
   some (.inl (wI .i64 (xat+2),f1))))
  (
  some (.inr (n)))
def Xg4 (XbA:Int→Option Int) (s:List UInt8):Option Int:=
 iter (fun st=>Xft XbA s st.1 st.2) FUEL (0,0)
def Xr8 (x:Int):Xco:=⟨.int .i64 x,[],[]⟩
def r112 (g:(List UInt8)→Option Int):Dec:=dV asS fun (y0:List UInt8)=>Xc5 (ofG (g y0) Xr8)
theorem XQY {g:(List UInt8)→Option Int} {y0:List UInt8} {x:Int} (hx:g y0=some x):r112 g [.string ⟨⟨y0⟩⟩] []=some (Xr8 x):=(XaS (XdL)).trans (XaZ hx)
def XSE (g:(List UInt8)→Option Int):Xbp:=⟨[.v],r112 g⟩
theorem Xtt {g:(List UInt8)→Option Int} {y0:List UInt8} {x:Int} (hx:g y0=some x):(XSE g).run [.string ⟨⟨y0⟩⟩] []=some (Xr8 x):=XQY hx
abbrev Xqi (XbA:Int→Option Int):List (Nat×Xbp):=[(128,s128 XbA)]
def XhT (s:List UInt8) (xat:Int) (n:Int):VM:=
 ⟨⟨126,32,[(0,.func (.yield 3) #[] #[]),(1,.pointer (some ⟨1,0,none⟩)),(3,.int .i64 xat)],[.code XqE,.inLoop XqE,.inBlock 0],[],false,none⟩,[⟨112,13,[(3,.pointer (some ⟨0,0,none⟩))],[.inRangeFunc 3,.inBlock 0,.code Xs8],[2],false,none⟩],[(0,.cells [.int .i64 n]),(1,.cells [.string ⟨⟨s⟩⟩]),(2,.marks),(3,.loop ⟨.ready,none,112,13,[(3,.pointer (some ⟨0,0,none⟩))],[7],Xzv,XAA,2⟩)],4⟩
theorem Xuw (XbA:Int→Option Int) (hS:Xai Tryz.prog (Xar (Xqi XbA))) (s:List UInt8) (res:Int):∀ fuel (st:Int×Int) (o:Int),iter (fun st=>Xft XbA s st.1 st.2) fuel st=some o→(o=res) →
 XaD Tryz.prog 112 0 (XhT s st.1 st.2) (fun v H _=>Res 0 (Xr8 res) v H):=by
 intro fuel st o h hc
 refine Xch (head:=fun st=>XhT s st.1 st.2) (C:=fun o=>(o=res)) ?_ fuel st o h hc
 clear h hc o st fuel
 intro st o h hc
 obtain ⟨xat,n⟩:=st
 replace h:Xft XbA s xat n=some o:=h
 show XaD Tryz.prog 112 0 (XhT s xat n) (fun v H _=>Res 0 (Xr8 res) v H)
 unfold Xft at h
 refine Xa9 Xam hS true 3000 ?_
 conv=>whnf
 refine br.h2 h ?_ ?_ ?_
 ·rfl
 ·clear h;intro hb h;conv=>whnf
  all_goals (cases h;cases hc;exact Res.z rfl rfl rfl)
 clear h;intro hb h;conv=>whnf
 replace h:=XaK.elim h;obtain ⟨hb,h⟩:=h
 first|(refine req.intro hb ?_;conv=>whnf)|skip
 replace h:=Xak.elim h;obtain ⟨b,hy,h⟩:=h
 refine rdS.intro hy ?_
 conv=>whnf
 let t:Int:=wI .i64 ((wI .i64 (b.toNat:Int))*2^8)
 let t1:Bool:=decide ((wI .i64 (xat+1))<(s.length:Int))
 refine br.h2 h ?_ ?_ ?_
 ·rfl
 ·clear h;intro hb h;conv=>whnf
  replace h:=Xak.elim h;obtain ⟨f1,hy,h⟩:=h
  refine XaH.q rfl rfl (Xus hy) rfl rfl rfl ?_
  conv=>whnf
  cases h;simp only [Sum.elim_inl,XhT] at hc
  exact XxU hc [(0,0),(1,1),(2,2),(3,3)] rfl
 clear h;intro hb h;conv=>whnf
 replace h:=XaK.elim h;obtain ⟨hb,h⟩:=h
 first|(refine req.intro hb ?_;conv=>whnf)|skip
 replace h:=Xak.elim h;obtain ⟨b1,hy,h⟩:=h
 refine rdS.intro hy ?_
 conv=>whnf
 let t2:Int:=wI .i64 (n+(Xkl .i64 t (wI .i64 (b1.toNat:Int))))
 replace h:=Xak.elim h;obtain ⟨f,hy,h⟩:=h
 refine XaH.q rfl rfl (Xus hy) rfl rfl rfl ?_
 conv=>whnf
 cases h;simp only [Sum.elim_inl,XhT] at hc
 exact XxU hc [(0,0),(1,1),(2,2),(3,3)] rfl
theorem Xxw (XbA:Int→Option Int) (hS:Xai Tryz.prog (Xar (Xqi XbA))) (s:List UInt8) (res:Int) (h:Xg4 XbA s=some res) :
 XaD Tryz.prog 112 0 ⟨⟨112,13,[(0,.string ⟨⟨s⟩⟩)],[.code Xtx],[],false,none⟩,[],[],0⟩ (fun v H _=>Res 0 (Xr8 res) v H):=by
 unfold Xg4 at h
 refine Xa9 Xam hS true 3000 ?_
 conv=>whnf
 have hl:=Xuw XbA hS _ res _ _ _ h rfl;simp only [XhT] at hl
 exact XxU hl [(0,0),(1,1),(2,2),(3,3)] rfl
theorem ok112 (XbA:Int→Option Int) (hS:Xai Tryz.prog (Xar (Xqi XbA))):Xan Tryz.prog 112 (XSE (Xg4 XbA)):=by
 refine Xan.Xau Xam (fun ar os r ha hr=>?_) ⟨Tryz.f112,rfl,by decide,rfl⟩
 replace hr:r112 (Xg4 XbA) ar (XaA os)=some r:=hr
 unfold r112 at hr
 generalize hc:XaA os=C at hr
 replace hr:=dV.elim hr;obtain ⟨v0,l1,y0,rfl,e0,hr⟩:=hr;obtain rfl:=Xb8 _ _ e0
 replace hr:=Xdg hr;obtain ⟨rfl,rfl,x,h,rfl⟩:=hr
 obtain rfl:=Xao hc
 exact ⟨_,rfl,Xxw XbA hS _ x h⟩
def Xbz:(List UInt8)→Option Int:=Xg4 XbA
theorem Xtz:Xan Tryz.prog 112 (XSE Xbz):=ok112 XbA (Xai.XaW ⟨XEA,trivial⟩)
end Go.Vm.Code
namespace Go.Vm.Code
open Go Go.Vm
def Xgz:List UInt8→Nat
 | []=>0
 | [b]=>b.toNat*256
 | b::c::l=>b.toNat*256+c.toNat+Xgz l
def norm (n:Nat):Nat:=if n=0 then 0 else (n - 1)%65535+1
theorem norm_eq {n r:Nat} (h1:r≤65535) (h2:r%65535=n%65535) (h3:r=0↔n=0):norm n=r:=by unfold norm;split<;>omega
theorem norm_le (n:Nat):norm n≤65535:=by unfold norm;split<;>omega
theorem XlV (n:Nat):norm n%65535=n%65535:=by unfold norm;split<;>omega
theorem XkH (n:Nat):norm n=0↔n=0:=by unfold norm;split<;>omega
theorem Xmn {n:Nat} (h:n≤65535):norm n=n:=norm_eq h rfl Iff.rfl
theorem Xrd (a b:Nat):norm (norm a+b)=norm (a+b):=
 (norm_eq (norm_le _) (by have h1:=XlV a;have h2:=XlV (norm a+b);omega) (by have h1:=XkH a;have h2:=XkH (norm a+b);omega)).symm
theorem fold_eq {n:Int} (h0:0≤n) (h1:n<2^62):XbA n=some ((norm n.toNat:Nat):Int):=by
 unfold XbA Xf1
 refine iter_eq (fun n=>((norm n.toNat:Nat):Int)) (fun n=>0≤n∧n<2^62) (fun n=>n.toNat) ?_ FUEL _ ⟨h0,h1⟩ (by rw [XeT];omega)
 intro s ⟨a,b⟩
 unfold XfM
 by_cases hs:s>65535
 ·refine .inr ⟨s%65536+s/65536,?_,⟨by omega,by omega⟩,by omega,?_⟩
  ·rw [XaV hs,Xhm (m:=65535) 16 (by decide) (by decide) a (by omega),XoP,XcC (by omega) (by omega)];rfl
  ·have:norm (s%65536+s/65536).toNat=norm s.toNat:=
    (norm_eq (norm_le _) (by have:=XlV (s%65536+s/65536).toNat;omega) (by have:=XkH (s%65536+s/65536).toNat;omega)).symm
   rw [this]
 ·refine .inl ?_
  rw [XaM hs]
  have:=Xmn (n:=s.toNat) (by omega)
  simp only [this]
  rw [Int.toNat_of_nonneg a]
theorem Xw7 {s:List UInt8} {i:Nat} (h:i+1<s.length):Xgz (s.drop i)=s[i].toNat*256+s[i+1].toNat+Xgz (s.drop (i+2)):=by
 rw [List.drop_eq_getElem_cons (by omega:i<s.length),List.drop_eq_getElem_cons h];rfl
theorem Xyv {s:List UInt8} {i:Nat} (h:i+1=s.length):Xgz (s.drop i)=s[i].toNat*256:=by
 rw [List.drop_eq_getElem_cons (by omega:i<s.length),List.drop_eq_nil_of_le (by omega)];rfl
theorem Xo7 {s:List UInt8} {i:Nat} (h:s.length≤i):Xgz (s.drop i)=0:=by
 rw [List.drop_eq_nil_of_le h];rfl
theorem XAM (s:List UInt8) (h:s.length<2^61):Xbz s=some ((norm (Xgz s):Nat):Int):=by
 unfold Xbz Xg4
 have key:=iter_eq (step:=fun (st:Int×Int)=>Xft XbA s st.1 st.2) (fun (st:Int×Int)=>((norm (st.2.toNat+Xgz (s.drop st.1.toNat)):Nat):Int)) (fun (st:Int×Int)=>0≤st.1∧st.1≤s.length+1∧0≤st.2∧st.2≤65535) (fun (st:Int×Int)=>(s.length+2 - st.1).toNat) ?_ FUEL (0,0) ⟨by simp,by simp;omega,by simp,by simp⟩ (by rw [XeT];simp only;omega)
 ·rw [key];simp
 rintro ⟨p,n⟩ ⟨h1,h2,h3,h4⟩
 simp only at h1 h2 h3 h4 ⊢
 obtain ⟨i,rfl⟩:=Int.eq_ofNat_of_zero_le h1
 obtain ⟨m,rfl⟩:=Int.eq_ofNat_of_zero_le h3
 unfold Xft
 by_cases hp:i<s.length
 ·by_cases hq:i+1<s.length
  ·have b1:=s[i].toNat_lt
   have b2:=s[i+1].toNat_lt
   refine .inr ⟨(((i+2:Nat):Int),((norm (m+(s[i].toNat*256+s[i+1].toNat)):Nat):Int)),?_,⟨by simp only;omega,by simp only;omega,by simp only;omega,by simp only;have:=norm_le (m+(s[i].toNat*256+s[i+1].toNat));omega⟩,by simp only;omega,?_⟩
   ·simp (disch:=omega) only [XcC,Xaz,XaV]
    have e:((i:Int)+1).toNat=i+1:=by omega
    rw [e]
    simp (disch:=omega) only [Int.toNat_natCast,List.getElem?_eq_getElem,Option.bind_some,Xm7,XcC,fold_eq]
    congr 3<;>omega
   ·simp only [Int.toNat_natCast]
    rw [Xrd,Xw7 hq,Nat.add_assoc]
  ·have b1:=s[i].toNat_lt
   refine .inr ⟨(((i+2:Nat):Int),((norm (m+s[i].toNat*256):Nat):Int)),?_,⟨by simp only;omega,by simp only;omega,by simp only;omega,by simp only;have:=norm_le (m+s[i].toNat*256);omega⟩,by simp only;omega,?_⟩
   ·simp (disch:=omega) only [XcC,Xaz,XaV,XaM,Int.toNat_natCast,List.getElem?_eq_getElem,Option.bind_some,fold_eq]
    congr 3<;>omega
   ·simp only [Int.toNat_natCast]
    rw [Xrd,Xo7 (i:=i+2) (by omega),Nat.add_zero,Xyv (i:=i) (by omega)]
 ·refine .inl ?_
  simp (disch:=omega) only [XaM]
  simp only [Int.toNat_natCast]
  rw [Xo7 (by omega),Nat.add_zero,Xmn (by omega)]
end Go.Vm.Code
namespace Go.Vm
open Go
def be (n:Nat):Nat→List UInt8
 | 0=>[]
 | r+1=>UInt8.ofNat (n/256^r)::be n r
def XdZ (l:List UInt8):Nat:=l.foldl (fun n b=>n*256+b.toNat) 0
@[simp] theorem XqS (n:Nat):∀ k,(be n k).length=k
 | 0=>rfl
 | k+1=>by simp [be,XqS n k]
theorem Xj6 (n:Nat):∀ k,be n (k+1)=be (n/256) k++[UInt8.ofNat n]
 | 0=>by simp [be]
 | k+1=>by
   rw [be,Xj6 n k,be,Nat.div_div_eq_div_mul,Nat.pow_succ,Nat.mul_comm 256];rfl
theorem Xrr (n:Nat):∀ k,be (n%256^k) k=be n k
 | 0=>rfl
 | k+1=>by
   rw [Xj6,Xj6,Nat.pow_succ,Nat.mul_comm,Nat.mod_mul_right_div_self,Xrr (n/256) k]
   congr 2
   apply UInt8.toNat_inj.1
   simp only [UInt8.toNat_ofNat']
   rw [Nat.mod_mul_right_mod]
theorem Xpc (l:List UInt8):∀ n:Nat,l.foldl (fun n b=>n*256+b.toNat) n=n*256^l.length+XdZ l:=by
 induction l with
 | nil=>intro n;simp [XdZ]
 | cons b l ih=>
   intro n
   rw [XdZ,List.foldl_cons,ih,List.foldl_cons,ih,List.length_cons,Nat.pow_succ]
   rw [Nat.zero_mul,Nat.zero_add,Nat.add_mul,Nat.mul_assoc,Nat.mul_comm (256^_) 256,Nat.add_assoc]
@[simp] theorem XGc:XdZ []=0:=rfl
theorem Xe5 (b:UInt8) (l:List UInt8):XdZ (b::l)=b.toNat*256^l.length+XdZ l:=by
 rw [XdZ,List.foldl_cons,Xpc];simp
theorem val_append (l m:List UInt8):XdZ (l++m)=XdZ l*256^m.length+XdZ m:=by
 rw [XdZ,List.foldl_append,Xpc];rfl
theorem Xya (l:List UInt8) (b:UInt8):XdZ (l++[b])=XdZ l*256+b.toNat:=by
 rw [val_append];simp [Xe5]
theorem XoV:∀ l:List UInt8,XdZ l<256^l.length
 | []=>by simp
 | b::l=>by
   have h:=XoV l
   have hb:=b.toNat_lt
   rw [Xe5,List.length_cons,Nat.pow_succ]
   have:b.toNat*256^l.length+256^l.length≤256*256^l.length:=by
    rw [←Nat.succ_mul];exact Nat.mul_le_mul_right _ (by omega)
   rw [Nat.mul_comm (256^l.length)];omega
theorem XqM (n:Nat):∀ k,XdZ (be n k)=n%256^k
 | 0=>by simp [be,Nat.mod_one]
 | k+1=>by
   have e:n%256^(k+1)=n%256+256*(n/256%256^k):=by rw [Nat.pow_succ',Nat.mod_mul]
   rw [Xj6,Xya,XqM (n/256) k,UInt8.toNat_ofNat',e]
   generalize n/256%256^k=x
   omega
theorem XzG:∀ l:List UInt8,be (XdZ l) l.length=l
 | []=>rfl
 | b::l=>by
   have h:=XoV l
   rw [List.length_cons,be]
   have e1:XdZ (b::l)/256^l.length=b.toNat:=by
    rw [Xe5,Nat.mul_comm,Nat.mul_add_div (Nat.pow_pos (by decide)),Nat.div_eq_of_lt h,Nat.add_zero]
   have e2:be (XdZ (b::l)) l.length=be (XdZ l) l.length:=by
    rw [←Xrr (XdZ (b::l)),Xe5,Nat.mul_add_mod',Xrr]
   rw [e1,e2,XzG l]
   simp
theorem XIO {l:List UInt8} {k:Nat} (h:l.length=k):be (XdZ l) k=l:=by subst h;exact XzG l
theorem be_of {l:List UInt8} {n k:Nat} (h:l.length=k) (hv:XdZ l=n):be n k=l:=by subst hv;exact XIO h
theorem XdK {l:List UInt8} {k:Nat} (n:Nat) (h:256^k≤n):XdZ (l.take k)<n:=by
 have h1:=XoV (l.take k)
 have h2:(l.take k).length≤k:=List.length_take_le _ _
 exact Nat.lt_of_lt_of_le h1 (Nat.le_trans (Nat.pow_le_pow_right (by decide) h2) h)
theorem XnD (n:Nat) (j:Nat):∀ k,be n (j+k)=be (n/256^k) j++be n k
 | 0=>by simp [be]
 | k+1=>by
   rw [show j+(k+1)=(j+k)+1 from rfl,Xj6,XnD (n/256) j k,Xj6 n k,Nat.div_div_eq_div_mul,Nat.pow_succ,Nat.mul_comm (256^k),List.append_assoc]
end Go.Vm
namespace Go.Vm.Code
open Go Go.Vm Go.Proofs
set_option maxRecDepth 100000
set_option maxHeartbeats 4000000
set_option linter.unusedVariables false
def Xfl (n:Int) (k:Int) (t17:Int) (b:List Int):Option (Sum (Int×(List Int)) (List UInt8)):=
 cond (decide (t17<(k.toNat:Int)))
  (
  let t:=wI .i64 (8*(wI .i64 ((wI .i64 (k - 1)) - t17)))
  XaK (decide (0≤t)) <|
  XaK (decide ((0:Int)≤t17∧t17<(k.toNat:Int))) <|
  XaK (decide (t17.toNat<b.length)) <|
  let row:=b.set t17.toNat (wI .u8 (n.fdiv (2^(min t.toNat 64))))
  some (.inl (wI .i64 (t17+1),row)))
  (
  XaK (decide (k.toNat≤b.length)) <|
  some (.inr (iB (b.take k.toNat))))
def Xhb (n:Int) (k:Int):Option (List UInt8):=
 cond (decide (k<1))
  (
  some ([]))
  (
  cond (decide (k>8))
   (
   some ([]))
   (
   XaK (decide (0≤k∧k≤k∧k<2^63∧(1:Int)*k≤2^48)) <|
   iter (fun st=>Xfl n k st.1 st.2) FUEL (0,List.replicate k.toNat (0))))
def XLB (x:List UInt8):Xco:=⟨.string ⟨⟨x⟩⟩,[],[]⟩
def r42 (g:Int→Int→Option (List UInt8)):Dec:=dV (asI .u64) fun (y0:Int)=>dV (asI .i64) fun (y1:Int)=>Xc5 (ofG (g y0 y1) XLB)
theorem r42_c {g:Int→Int→Option (List UInt8)} {y0:Int} {y1:Int} {x:List UInt8} (hx:g y0 y1=some x):r42 g [.int .u64 y0,.int .i64 y1] []=some (XLB x):=(XaS (XcI _)).trans ((XaS (XcI _)).trans (XaZ hx))
def s42 (g:Int→Int→Option (List UInt8)):Xbp:=⟨[.v,.v],r42 g⟩
theorem XjX {g:Int→Int→Option (List UInt8)} {y0:Int} {y1:Int} {x:List UInt8} (hx:g y0 y1=some x):(s42 g).run [.int .u64 y0,.int .i64 y1] []=some (XLB x):=r42_c hx
abbrev XvK:List (Nat×Xbp):=[]
def XkA (n:Int) (k:Int) (t17:Int) (b:List Int):VM:=
 ⟨⟨42,34,[(0,.int .u64 n),(1,.int .i64 k),(5,.slice (some ⟨0,0,none⟩) k.toNat 1),(16,.int .i64 (k.toNat:Int)),(17,.int .i64 t17)],[.code Xux,.inLoop Xux,.inBlock 0,.code Xzh],[],false,none⟩,[],[(0,.row true (vI .u8 b))],1⟩
theorem XyH (hS:Xai Tryz.prog (Xar (XvK))) (n:Int) (k:Int) (res:List UInt8):∀ fuel (st:Int×(List Int)) (o:List UInt8),iter (fun st=>Xfl n k st.1 st.2) fuel st=some o→(o=res) →
 XaD Tryz.prog 42 0 (XkA n k st.1 st.2) (fun v H _=>Res 0 (XLB res) v H):=by
 intro fuel st o h hc
 refine Xch (head:=fun st=>XkA n k st.1 st.2) (C:=fun o=>(o=res)) ?_ fuel st o h hc
 clear h hc o st fuel
 intro st o h hc
 obtain ⟨t17,b⟩:=st
 replace h:Xfl n k t17 b=some o:=h
 show XaD Tryz.prog 42 0 (XkA n k t17 b) (fun v H _=>Res 0 (XLB res) v H)
 unfold Xfl at h
 refine Xa9 Xam hS true 3000 ?_
 conv=>whnf
 refine br.h2 h ?_ ?_ ?_
 ·rfl
 ·clear h;intro hb h;conv=>whnf
  replace h:=XaK.elim h;obtain ⟨hb,h⟩:=h
  refine req.intro (by (first|rfl|(simp [wI,vI,vB,vS,bI,XfX,Xdq,XaP,Value.cells] at *;omega)|(simp [vI,vB,vS,bI,XfX,Xdq,XaP,Value.cells] at *;omega)|(simp [vI,vB,vS,bI,XfX,Xdq,XaP,Value.cells] at *;done))) ?_
  conv=>whnf
  refine XNX ?_
  conv=>whnf
  all_goals (cases h;cases hc;exact Res.z rfl rfl rfl)
 clear h;intro hb h;conv=>whnf
 let t:Int:=wI .i64 (8*(wI .i64 ((wI .i64 (k - 1)) - t17)))
 replace h:=XaK.elim h;obtain ⟨hb,h⟩:=h
 first|(refine req.intro hb ?_;conv=>whnf)|skip
 replace h:=XaK.elim h;obtain ⟨hb,h⟩:=h
 first|(refine req.intro hb ?_;conv=>whnf)|skip
 replace h:=XaK.elim h;obtain ⟨hb,h⟩:=h
 refine st_I hb (by first|rfl|(rw [Nat.zero_add,Nat.mul_one];try rfl;done)|omega) ?_
 conv=>whnf
 let row:List Int:=b.set t17.toNat (wI .u8 (n.fdiv (2^(min t.toNat 64))))
 cases h;simp only [Sum.elim_inl,XkA] at hc
 exact Xkm hc [(0,0)] rfl
theorem XHL (hS:Xai Tryz.prog (Xar (XvK))) (n:Int) (k:Int) (res:List UInt8) (h:Xhb n k=some res) :
 XaD Tryz.prog 42 0 ⟨⟨42,34,[(0,.int .u64 n),(1,.int .i64 k)],[.code XzR],[],false,none⟩,[],[],0⟩ (fun v H _=>Res 0 (XLB res) v H):=by
 unfold Xhb at h
 refine Xa9 Xam hS true 3000 ?_
 conv=>whnf
 refine br.h h ?_ ?_ ?_
 ·rfl
 ·clear h;intro hb h;conv=>whnf
  all_goals (cases h;exact Res.z rfl rfl rfl)
 clear h;intro hb h;conv=>whnf
 refine br.h h ?_ ?_ ?_
 ·rfl
 ·clear h;intro hb h;conv=>whnf
  all_goals (cases h;exact Res.z rfl rfl rfl)
 clear h;intro hb h;conv=>whnf
 replace h:=XaK.elim h;obtain ⟨hb,h⟩:=h
 first|(refine req.intro hb ?_;conv=>whnf)|skip
 refine X7h ?_
 conv=>whnf
 have hl:=XyH hS _ _ res _ _ _ h rfl;simp only [XkA] at hl
 exact Xkm hl [(0,0)] rfl
theorem ok42 (hS:Xai Tryz.prog (Xar (XvK))):Xan Tryz.prog 42 (s42 (Xhb)):=by
 refine Xan.Xau Xam (fun ar os r ha hr=>?_) ⟨Tryz.f42,rfl,by decide,rfl⟩
 replace hr:r42 (Xhb) ar (XaA os)=some r:=hr
 unfold r42 at hr
 generalize hc:XaA os=C at hr
 replace hr:=dV.elim hr;obtain ⟨v0,l1,y0,rfl,e0,hr⟩:=hr;obtain rfl:=XbP _ _ _ e0
 replace hr:=dV.elim hr;obtain ⟨v1,l2,y1,rfl,e1,hr⟩:=hr;obtain rfl:=XbP _ _ _ e1
 replace hr:=Xdg hr;obtain ⟨rfl,rfl,x,h,rfl⟩:=hr
 obtain rfl:=Xao hc
 exact ⟨_,rfl,XHL hS _ _ x h⟩
def Xaq:Int→Int→Option (List UInt8):=Xhb
theorem Xps:Xan Tryz.prog 42 (s42 Xaq):=ok42 (Xai.XaW trivial)
def Xfj (t1:List UInt8) (n:Int) (t37:Int):Option (Sum (Int×Int) (Int×Bool)):=
 cond (decide (t37<(t1.length:Int)))
  (
  XaK (decide ((0:Int)≤t37∧t37<(t1.length:Int))) <|
  ((bI t1)[t37.toNat]?).bind fun (e:Int)=>
  let t2:=Xkl .u64 (wI .u64 (n*2^8)) (wI .u64 e)
  some (.inl (t2,wI .i64 (t37+1))))
  (
  some (.inr ((n,true))))
def XgS (s:List UInt8) (ata1:Int) (k:Int):Option (Int×Bool):=
 cond (decide (k<1))
  (
  some ((0,false)))
  (
  cond (decide (k>8))
   (
   some ((0,false)))
   (
   cond (decide (ata1<0))
    (
    some ((0,false)))
    (
    let t:=decide ((wI .i64 ((s.length:Int) - k))<ata1)
    cond (t)
     (
     some ((0,false)))
     (
     XaK (decide ((0:Int)≤(wI .i64 (ata1+k))∧(wI .i64 (ata1+k))≤(s.length:Int)∧(0:Int)≤ata1∧ata1≤((wI .i64 (ata1+k)).toNat:Int))) <|
     let t1:=(s.drop ata1.toNat).take ((wI .i64 (ata1+k)).toNat - ata1.toNat)
     iter (fun st=>Xfj t1 st.1 st.2) FUEL (0,0)))))
def XLo (x:Int×Bool):Xco:=⟨.tuple ⟨[.int .u64 x.1,.bool x.2]⟩,[],[]⟩
def r40 (g:(List UInt8)→Int→Int→Option (Int×Bool)):Dec:=dV asS fun (y0:List UInt8)=>dV (asI .i64) fun (y1:Int)=>dV (asI .i64) fun (y2:Int)=>Xc5 (ofG (g y0 y1 y2) XLo)
theorem r40_c {g:(List UInt8)→Int→Int→Option (Int×Bool)} {y0:List UInt8} {y1:Int} {y2:Int} {x:Int×Bool} (hx:g y0 y1 y2=some x):r40 g [.string ⟨⟨y0⟩⟩,.int .i64 y1,.int .i64 y2] []=some (XLo x):=(XaS (XdL)).trans ((XaS (XcI _)).trans ((XaS (XcI _)).trans (XaZ hx)))
def s40 (g:(List UInt8)→Int→Int→Option (Int×Bool)):Xbp:=⟨[.v,.v,.v],r40 g⟩
theorem XmO {g:(List UInt8)→Int→Int→Option (Int×Bool)} {y0:List UInt8} {y1:Int} {y2:Int} {x:Int×Bool} (hx:g y0 y1 y2=some x):(s40 g).run [.string ⟨⟨y0⟩⟩,.int .i64 y1,.int .i64 y2] []=some (XLo x):=r40_c hx
abbrev Xvq:List (Nat×Xbp):=[]
def XkD (t1:List UInt8) (n:Int) (t37:Int):VM:=
 ⟨⟨40,48,[(8,.int .u64 n),(35,.slice (some ⟨0,0,none⟩) t1.length 1),(36,.int .i64 (t1.length:Int)),(37,.int .i64 t37)],[.code XvV,.inLoop XvV,.inBlock 0,.code XBK],[],false,none⟩,[],[(0,.row true (vI .u8 (bI t1)))],1⟩
theorem XxV (hS:Xai Tryz.prog (Xar (Xvq))) (t1:List UInt8) (res:Int×Bool):∀ fuel (st:Int×Int) (o:Int×Bool),iter (fun st=>Xfj t1 st.1 st.2) fuel st=some o→(o=res) →
 XaD Tryz.prog 40 0 (XkD t1 st.1 st.2) (fun v H _=>Res 0 (XLo res) v H):=by
 intro fuel st o h hc
 refine Xch (head:=fun st=>XkD t1 st.1 st.2) (C:=fun o=>(o=res)) ?_ fuel st o h hc
 clear h hc o st fuel
 intro st o h hc
 obtain ⟨n,t37⟩:=st
 replace h:Xfj t1 n t37=some o:=h
 show XaD Tryz.prog 40 0 (XkD t1 n t37) (fun v H _=>Res 0 (XLo res) v H)
 unfold Xfj at h
 refine Xa9 Xam hS true 3000 ?_
 conv=>whnf
 refine br.h2 h ?_ ?_ ?_
 ·rfl
 ·clear h;intro hb h;conv=>whnf
  all_goals (cases h;cases hc;exact Res.z rfl rfl rfl)
 clear h;intro hb h;conv=>whnf
 replace h:=XaK.elim h;obtain ⟨hb,h⟩:=h
 first|(refine req.intro hb ?_;conv=>whnf)|skip
 replace h:=Xak.elim h;obtain ⟨e,hy,h⟩:=h
 refine rd.I hy (by first|rfl|(rw [Nat.zero_add,Nat.mul_one];try rfl;done)|omega) ?_
 conv=>whnf
 let t2:Int:=Xkl .u64 (wI .u64 (n*2^8)) (wI .u64 e)
 cases h;simp only [Sum.elim_inl,XkD] at hc
 exact Xkm hc [(0,0)] rfl
theorem XDI (hS:Xai Tryz.prog (Xar (Xvq))) (s:List UInt8) (ata1:Int) (k:Int) (res:Int×Bool) (h:XgS s ata1 k=some res) :
 XaD Tryz.prog 40 0 ⟨⟨40,48,[(0,.string ⟨⟨s⟩⟩),(1,.int .i64 ata1),(2,.int .i64 k)],[.code XAg],[],false,none⟩,[],[],0⟩ (fun v H _=>Res 0 (XLo res) v H):=by
 unfold XgS at h
 refine Xa9 Xam hS true 3000 ?_
 conv=>whnf
 refine br.h h ?_ ?_ ?_
 ·rfl
 ·clear h;intro hb h;conv=>whnf
  all_goals (cases h;exact Res.z rfl rfl rfl)
 clear h;intro hb h;conv=>whnf
 refine br.h h ?_ ?_ ?_
 ·rfl
 ·clear h;intro hb h;conv=>whnf
  all_goals (cases h;exact Res.z rfl rfl rfl)
 clear h;intro hb h;conv=>whnf
 refine br.h h ?_ ?_ ?_
 ·rfl
 ·clear h;intro hb h;conv=>whnf
  all_goals (cases h;exact Res.z rfl rfl rfl)
 clear h;intro hb h;conv=>whnf
 let t:Bool:=decide ((wI .i64 ((s.length:Int) - k))<ata1)
 refine br.h h ?_ ?_ ?_
 ·rfl
 ·clear h;intro hb h;conv=>whnf
  all_goals (cases h;exact Res.z rfl rfl rfl)
 clear h;intro hb h;conv=>whnf
 replace h:=XaK.elim h;obtain ⟨hb,h⟩:=h
 first|(refine req.intro hb ?_;conv=>whnf)|skip
 let t1:List UInt8:=(s.drop ata1.toNat).take ((wI .i64 (ata1+k)).toNat - ata1.toNat)
 refine XNN ?_
 conv=>whnf
 have hl:=XxV hS _ res _ _ _ h rfl;simp only [XkD] at hl
 exact Xkm hl [(0,0)] rfl
theorem ok40 (hS:Xai Tryz.prog (Xar (Xvq))):Xan Tryz.prog 40 (s40 (XgS)):=by
 refine Xan.Xau Xam (fun ar os r ha hr=>?_) ⟨Tryz.f40,rfl,by decide,rfl⟩
 replace hr:r40 (XgS) ar (XaA os)=some r:=hr
 unfold r40 at hr
 generalize hc:XaA os=C at hr
 replace hr:=dV.elim hr;obtain ⟨v0,l1,y0,rfl,e0,hr⟩:=hr;obtain rfl:=Xb8 _ _ e0
 replace hr:=dV.elim hr;obtain ⟨v1,l2,y1,rfl,e1,hr⟩:=hr;obtain rfl:=XbP _ _ _ e1
 replace hr:=dV.elim hr;obtain ⟨v2,l3,y2,rfl,e2,hr⟩:=hr;obtain rfl:=XbP _ _ _ e2
 replace hr:=Xdg hr;obtain ⟨rfl,rfl,x,h,rfl⟩:=hr
 obtain rfl:=Xao hc
 exact ⟨_,rfl,XDI hS _ _ _ x h⟩
def XaG:(List UInt8)→Int→Int→Option (Int×Bool):=XgS
theorem Xs1:Xan Tryz.prog 40 (s40 XaG):=ok40 (Xai.XaW trivial)
def Xfu (k:Int) (n1:Int) (s:List UInt8) (i:Int):Option (Sum (Int×(List UInt8)×Int) (List UInt8)):=
 cond (decide (i<k))
  (
  cond (decide (k≤8))
   (
   let t:=[UInt8.ofNat (wI .u8 (n1.tmod 256)).toNat]
   XaK (decide (t.length+s.length<2^63)) <|
   some (.inl (wI .u64 (n1.tdiv 256),t++s,wI .i64 (i+1))))
   (
   some (.inr (s))))
  (
  some (.inr (s)))
def XjI (n:Int) (k:Int):Option (List UInt8):=
 iter (fun st=>Xfu k st.1 st.2.1 st.2.2) FUEL (n,[],0)
def XLz (x:List UInt8):Xco:=⟨.string ⟨⟨x⟩⟩,[],[]⟩
def r85 (g:Int→Int→Option (List UInt8)):Dec:=dV (asI .u64) fun (y0:Int)=>dV (asI .i64) fun (y1:Int)=>Xc5 (ofG (g y0 y1) XLz)
theorem r85_c {g:Int→Int→Option (List UInt8)} {y0:Int} {y1:Int} {x:List UInt8} (hx:g y0 y1=some x):r85 g [.int .u64 y0,.int .i64 y1] []=some (XLz x):=(XaS (XcI _)).trans ((XaS (XcI _)).trans (XaZ hx))
def s85 (g:Int→Int→Option (List UInt8)):Xbp:=⟨[.v,.v],r85 g⟩
theorem Xkz {g:Int→Int→Option (List UInt8)} {y0:Int} {y1:Int} {x:List UInt8} (hx:g y0 y1=some x):(s85 g).run [.int .u64 y0,.int .i64 y1] []=some (XLz x):=r85_c hx
abbrev XtW:List (Nat×Xbp):=[]
def XkR (k:Int) (n1:Int) (s:List UInt8) (i:Int):VM:=
 ⟨⟨85,26,[(0,.int .u64 n1),(1,.int .i64 k),(5,.string ⟨⟨s⟩⟩),(6,.int .i64 i)],[.code XvN,.inLoop XvN,.inBlock 0,.code Xz2],[],false,none⟩,[],[],0⟩
theorem Xw9 (hS:Xai Tryz.prog (Xar (XtW))) (k:Int) (res:List UInt8):∀ fuel (st:Int×(List UInt8)×Int) (o:List UInt8),iter (fun st=>Xfu k st.1 st.2.1 st.2.2) fuel st=some o→(o=res) →
 XaD Tryz.prog 85 0 (XkR k st.1 st.2.1 st.2.2) (fun v H _=>Res 0 (XLz res) v H):=by
 intro fuel st o h hc
 refine Xch (head:=fun st=>XkR k st.1 st.2.1 st.2.2) (C:=fun o=>(o=res)) ?_ fuel st o h hc
 clear h hc o st fuel
 intro st o h hc
 obtain ⟨n1,s,i⟩:=st
 replace h:Xfu k n1 s i=some o:=h
 show XaD Tryz.prog 85 0 (XkR k n1 s i) (fun v H _=>Res 0 (XLz res) v H)
 unfold Xfu at h
 refine Xa9 Xam hS true 3000 ?_
 conv=>whnf
 refine br.h2 h ?_ ?_ ?_
 ·rfl
 ·clear h;intro hb h;conv=>whnf
  all_goals (cases h;cases hc;exact Res.z rfl rfl rfl)
 clear h;intro hb h;conv=>whnf
 refine br.h2 h ?_ ?_ ?_
 ·rfl
 ·clear h;intro hb h;conv=>whnf
  all_goals (cases h;cases hc;exact Res.z rfl rfl rfl)
 clear h;intro hb h;conv=>whnf
 refine XIM rfl ?_
 conv=>whnf
 let t:List UInt8:=[UInt8.ofNat (wI .u8 (n1.tmod 256)).toNat]
 replace h:=XaK.elim h;obtain ⟨hb,h⟩:=h
 first|(refine req.intro hb ?_;conv=>whnf)|skip
 cases h;simp only [Sum.elim_inl,XkR] at hc
 exact Xkm hc [] rfl
theorem XJ8 (hS:Xai Tryz.prog (Xar (XtW))) (n:Int) (k:Int) (res:List UInt8) (h:XjI n k=some res) :
 XaD Tryz.prog 85 0 ⟨⟨85,26,[(0,.int .u64 n),(1,.int .i64 k)],[.code XBp],[],false,none⟩,[],[],0⟩ (fun v H _=>Res 0 (XLz res) v H):=by
 unfold XjI at h
 refine Xa9 Xam hS true 3000 ?_
 conv=>whnf
 have hl:=Xw9 hS _ res _ _ _ h rfl;simp only [XkR] at hl
 exact Xkm hl [] rfl
theorem ok85 (hS:Xai Tryz.prog (Xar (XtW))):Xan Tryz.prog 85 (s85 (XjI)):=by
 refine Xan.Xau Xam (fun ar os r ha hr=>?_) ⟨Tryz.f85,rfl,by decide,rfl⟩
 replace hr:r85 (XjI) ar (XaA os)=some r:=hr
 unfold r85 at hr
 generalize hc:XaA os=C at hr
 replace hr:=dV.elim hr;obtain ⟨v0,l1,y0,rfl,e0,hr⟩:=hr;obtain rfl:=XbP _ _ _ e0
 replace hr:=dV.elim hr;obtain ⟨v1,l2,y1,rfl,e1,hr⟩:=hr;obtain rfl:=XbP _ _ _ e1
 replace hr:=Xdg hr;obtain ⟨rfl,rfl,x,h,rfl⟩:=hr
 obtain rfl:=Xao hc
 exact ⟨_,rfl,XJ8 hS _ _ x h⟩
def XaU:Int→Int→Option (List UInt8):=XjI
theorem Xpw:Xan Tryz.prog 85 (s85 XaU):=ok85 (Xai.XaW trivial)
def Xg9 (s:List UInt8) (ata1:Int) (k:Int) (n:Int) (i:Int):Option (Sum (Int×Int) (Int×Bool)):=
 cond (decide (i<k))
  (
  XaK (decide (0≤(wI .i64 (ata1+i)))) <|
  (s[(wI .i64 (ata1+i)).toNat]?).bind fun (b:UInt8)=>
  let t1:=wI .u64 ((wI .u64 (n*256))+(wI .u64 (b.toNat:Int)))
  some (.inl (t1,wI .i64 (i+1))))
  (
  some (.inr ((n,true))))
def XjE (s:List UInt8) (ata1:Int) (k:Int):Option (Int×Bool):=
 cond (decide (k<1))
  (
  some ((0,false)))
  (
  cond (decide (k>8))
   (
   some ((0,false)))
   (
   cond (decide (ata1<0))
    (
    some ((0,false)))
    (
    cond (decide (ata1>(s.length:Int)))
     (
     some ((0,false)))
     (
     let t:=decide (k>(wI .i64 ((s.length:Int) - ata1)))
     cond (t)
      (
      some ((0,false)))
      (
      iter (fun st=>Xg9 s ata1 k st.1 st.2) FUEL (0,0))))))
def XLv (x:Int×Bool):Xco:=⟨.tuple ⟨[.int .u64 x.1,.bool x.2]⟩,[],[]⟩
def r70 (g:(List UInt8)→Int→Int→Option (Int×Bool)):Dec:=dV asS fun (y0:List UInt8)=>dV (asI .i64) fun (y1:Int)=>dV (asI .i64) fun (y2:Int)=>Xc5 (ofG (g y0 y1 y2) XLv)
theorem r70_c {g:(List UInt8)→Int→Int→Option (Int×Bool)} {y0:List UInt8} {y1:Int} {y2:Int} {x:Int×Bool} (hx:g y0 y1 y2=some x):r70 g [.string ⟨⟨y0⟩⟩,.int .i64 y1,.int .i64 y2] []=some (XLv x):=(XaS (XdL)).trans ((XaS (XcI _)).trans ((XaS (XcI _)).trans (XaZ hx)))
def s70 (g:(List UInt8)→Int→Int→Option (Int×Bool)):Xbp:=⟨[.v,.v,.v],r70 g⟩
theorem Xpv {g:(List UInt8)→Int→Int→Option (Int×Bool)} {y0:List UInt8} {y1:Int} {y2:Int} {x:Int×Bool} (hx:g y0 y1 y2=some x):(s70 g).run [.string ⟨⟨y0⟩⟩,.int .i64 y1,.int .i64 y2] []=some (XLv x):=r70_c hx
abbrev Xt1:List (Nat×Xbp):=[]
def XkC (s:List UInt8) (ata1:Int) (k:Int) (n:Int) (i:Int):VM:=
 ⟨⟨70,49,[(0,.string ⟨⟨s⟩⟩),(1,.int .i64 ata1),(2,.int .i64 k),(8,.int .u64 n),(9,.int .i64 i)],[.code Xs0,.inLoop Xs0,.inBlock 0,.code XBA],[],false,none⟩,[],[],0⟩
theorem Xwp (hS:Xai Tryz.prog (Xar (Xt1))) (s:List UInt8) (ata1:Int) (k:Int) (res:Int×Bool):∀ fuel (st:Int×Int) (o:Int×Bool),iter (fun st=>Xg9 s ata1 k st.1 st.2) fuel st=some o→(o=res) →
 XaD Tryz.prog 70 0 (XkC s ata1 k st.1 st.2) (fun v H _=>Res 0 (XLv res) v H):=by
 intro fuel st o h hc
 refine Xch (head:=fun st=>XkC s ata1 k st.1 st.2) (C:=fun o=>(o=res)) ?_ fuel st o h hc
 clear h hc o st fuel
 intro st o h hc
 obtain ⟨n,i⟩:=st
 replace h:Xg9 s ata1 k n i=some o:=h
 show XaD Tryz.prog 70 0 (XkC s ata1 k n i) (fun v H _=>Res 0 (XLv res) v H)
 unfold Xg9 at h
 refine Xa9 Xam hS true 3000 ?_
 conv=>whnf
 refine br.h2 h ?_ ?_ ?_
 ·rfl
 ·clear h;intro hb h;conv=>whnf
  all_goals (cases h;cases hc;exact Res.z rfl rfl rfl)
 clear h;intro hb h;conv=>whnf
 replace h:=XaK.elim h;obtain ⟨hb,h⟩:=h
 first|(refine req.intro hb ?_;conv=>whnf)|skip
 replace h:=Xak.elim h;obtain ⟨b,hy,h⟩:=h
 refine rdS.intro hy ?_
 conv=>whnf
 let t1:Int:=wI .u64 ((wI .u64 (n*256))+(wI .u64 (b.toNat:Int)))
 cases h;simp only [Sum.elim_inl,XkC] at hc
 exact Xkm hc [] rfl
theorem XIJ (hS:Xai Tryz.prog (Xar (Xt1))) (s:List UInt8) (ata1:Int) (k:Int) (res:Int×Bool) (h:XjE s ata1 k=some res) :
 XaD Tryz.prog 70 0 ⟨⟨70,49,[(0,.string ⟨⟨s⟩⟩),(1,.int .i64 ata1),(2,.int .i64 k)],[.code XAh],[],false,none⟩,[],[],0⟩ (fun v H _=>Res 0 (XLv res) v H):=by
 unfold XjE at h
 refine Xa9 Xam hS true 3000 ?_
 conv=>whnf
 refine br.h h ?_ ?_ ?_
 ·rfl
 ·clear h;intro hb h;conv=>whnf
  all_goals (cases h;exact Res.z rfl rfl rfl)
 clear h;intro hb h;conv=>whnf
 refine br.h h ?_ ?_ ?_
 ·rfl
 ·clear h;intro hb h;conv=>whnf
  all_goals (cases h;exact Res.z rfl rfl rfl)
 clear h;intro hb h;conv=>whnf
 refine br.h h ?_ ?_ ?_
 ·rfl
 ·clear h;intro hb h;conv=>whnf
  all_goals (cases h;exact Res.z rfl rfl rfl)
 clear h;intro hb h;conv=>whnf
 refine br.h h ?_ ?_ ?_
 ·rfl
 ·clear h;intro hb h;conv=>whnf
  all_goals (cases h;exact Res.z rfl rfl rfl)
 clear h;intro hb h;conv=>whnf
 let t:Bool:=decide (k>(wI .i64 ((s.length:Int) - ata1)))
 refine br.h h ?_ ?_ ?_
 ·rfl
 ·clear h;intro hb h;conv=>whnf
  all_goals (cases h;exact Res.z rfl rfl rfl)
 clear h;intro hb h;conv=>whnf
 have hl:=Xwp hS _ _ _ res _ _ _ h rfl;simp only [XkC] at hl
 exact Xkm hl [] rfl
theorem ok70 (hS:Xai Tryz.prog (Xar (Xt1))):Xan Tryz.prog 70 (s70 (XjE)):=by
 refine Xan.Xau Xam (fun ar os r ha hr=>?_) ⟨Tryz.f70,rfl,by decide,rfl⟩
 replace hr:r70 (XjE) ar (XaA os)=some r:=hr
 unfold r70 at hr
 generalize hc:XaA os=C at hr
 replace hr:=dV.elim hr;obtain ⟨v0,l1,y0,rfl,e0,hr⟩:=hr;obtain rfl:=Xb8 _ _ e0
 replace hr:=dV.elim hr;obtain ⟨v1,l2,y1,rfl,e1,hr⟩:=hr;obtain rfl:=XbP _ _ _ e1
 replace hr:=dV.elim hr;obtain ⟨v2,l3,y2,rfl,e2,hr⟩:=hr;obtain rfl:=XbP _ _ _ e2
 replace hr:=Xdg hr;obtain ⟨rfl,rfl,x,h,rfl⟩:=hr
 obtain rfl:=Xao hc
 exact ⟨_,rfl,XIJ hS _ _ _ x h⟩
def Xby:(List UInt8)→Int→Int→Option (Int×Bool):=XjE
theorem Xvj:Xan Tryz.prog 70 (s70 Xby):=ok70 (Xai.XaW trivial)
def Xh3 (Xby:(List UInt8)→Int→Int→Option (Int×Bool)) (s:List UInt8) (ata1:Int) (k:Int):Option Int:=
 (Xby s ata1 k).bind fun xg=>
 some (wI .i64 xg.1)
def rx44 (x:Int):Xco:=⟨.int .i64 x,[],[]⟩
def r44 (g:(List UInt8)→Int→Int→Option Int):Dec:=dV asS fun (y0:List UInt8)=>dV (asI .i64) fun (y1:Int)=>dV (asI .i64) fun (y2:Int)=>Xc5 (ofG (g y0 y1 y2) rx44)
theorem r44_c {g:(List UInt8)→Int→Int→Option Int} {y0:List UInt8} {y1:Int} {y2:Int} {x:Int} (hx:g y0 y1 y2=some x):r44 g [.string ⟨⟨y0⟩⟩,.int .i64 y1,.int .i64 y2] []=some (rx44 x):=(XaS (XdL)).trans ((XaS (XcI _)).trans ((XaS (XcI _)).trans (XaZ hx)))
def s44 (g:(List UInt8)→Int→Int→Option Int):Xbp:=⟨[.v,.v,.v],r44 g⟩
theorem Xe2 {g:(List UInt8)→Int→Int→Option Int} {y0:List UInt8} {y1:Int} {y2:Int} {x:Int} (hx:g y0 y1 y2=some x):(s44 g).run [.string ⟨⟨y0⟩⟩,.int .i64 y1,.int .i64 y2] []=some (rx44 x):=r44_c hx
abbrev XBT (Xby:(List UInt8)→Int→Int→Option (Int×Bool)):List (Nat×Xbp):=[(70,s70 Xby)]
theorem XHY (Xby:(List UInt8)→Int→Int→Option (Int×Bool)) (hS:Xai Tryz.prog (Xar (XBT Xby))) (s:List UInt8) (ata1:Int) (k:Int) (res:Int) (h:Xh3 Xby s ata1 k=some res) :
 XaD Tryz.prog 44 0 ⟨⟨44,18,[(0,.string ⟨⟨s⟩⟩),(1,.int .i64 ata1),(2,.int .i64 k)],[.code XWs],[],false,none⟩,[],[],0⟩ (fun v H _=>Res 0 (rx44 res) v H):=by
 unfold Xh3 at h
 refine Xa9 Xam hS true 3000 ?_
 conv=>whnf
 replace h:=Xak.elim h;obtain ⟨xg,hy,h⟩:=h
 refine XaH.q rfl rfl (Xpv hy) rfl rfl rfl ?_
 conv=>whnf
 all_goals (cases h;exact Res.z rfl rfl rfl)
theorem ok44 (Xby:(List UInt8)→Int→Int→Option (Int×Bool)) (hS:Xai Tryz.prog (Xar (XBT Xby))):Xan Tryz.prog 44 (s44 (Xh3 Xby)):=by
 refine Xan.Xau Xam (fun ar os r ha hr=>?_) ⟨Tryz.f44,rfl,by decide,rfl⟩
 replace hr:r44 (Xh3 Xby) ar (XaA os)=some r:=hr
 unfold r44 at hr
 generalize hc:XaA os=C at hr
 replace hr:=dV.elim hr;obtain ⟨v0,l1,y0,rfl,e0,hr⟩:=hr;obtain rfl:=Xb8 _ _ e0
 replace hr:=dV.elim hr;obtain ⟨v1,l2,y1,rfl,e1,hr⟩:=hr;obtain rfl:=XbP _ _ _ e1
 replace hr:=dV.elim hr;obtain ⟨v2,l3,y2,rfl,e2,hr⟩:=hr;obtain rfl:=XbP _ _ _ e2
 replace hr:=Xdg hr;obtain ⟨rfl,rfl,x,h,rfl⟩:=hr
 obtain rfl:=Xao hc
 exact ⟨_,rfl,XHY Xby hS _ _ _ x h⟩
def Xal:(List UInt8)→Int→Int→Option Int:=Xh3 Xby
theorem XmT:Xan Tryz.prog 44 (s44 Xal):=ok44 Xby (Xai.XaW ⟨Xvj,trivial⟩)
end Go.Vm.Code
namespace Go.Vm.Code
open Go Go.Vm
def XcG (n k:Int):List UInt8:=if 1≤k∧k≤8 then be n.toNat k.toNat else []
theorem XbZ {n k:Int} (h0:0≤n):Xaq n k=some (XcG n k):=by
 unfold Xaq Xhb XcG
 by_cases h1:k<1
 ·rw [XaV h1,if_neg (by omega)]
 by_cases h2:k>8
 ·rw [XaM h1,XaV h2,if_neg (by omega)]
 rw [XaM h1,XaM h2,Xaz (by omega),if_pos (by omega)]
 obtain ⟨m,rfl⟩:=Int.eq_ofNat_of_zero_le h0
 obtain ⟨j,rfl⟩:=Int.eq_ofNat_of_zero_le (show 0≤k by omega)
 have key:=iter_eq (step:=fun (st:Int×List Int)=>Xfl (m:Int) (j:Int) st.1 st.2) (fun st=>iB (st.2.take st.1.toNat)++be m (j - st.1.toNat)) (fun st=>0≤st.1∧st.1≤j∧st.2.length=j) (fun st=>(j - st.1).toNat) ?_ FUEL (0,List.replicate (j:Int).toNat 0) ⟨by simp,by simp,by simp⟩ (by rw [XeT];simp only;omega)
 ·rw [key];simp [iB]
 rintro ⟨p,b⟩ ⟨g1,g2,g3⟩
 simp only at g1 g2 g3 ⊢
 obtain ⟨i,rfl⟩:=Int.eq_ofNat_of_zero_le g1
 unfold Xfl
 by_cases hp:i<j
 ·refine .inr ⟨(((i+1:Nat):Int),b.set i ((m/256^(j - 1 - i)%256:Nat):Int)),?_,⟨by simp only;omega,by simp only;omega,by simp [g3]⟩,by simp only;omega,?_⟩
  ·simp (disch:=omega) only [XcC,Xaz,XaV,Int.toNat_natCast]
   have e1:min (8*((j:Int) - 1 - i)).toNat 64=8*(j - 1 - i):=by omega
   have e0:(2:Int)^(8*(j - 1 - i))=((256^(j - 1 - i):Nat):Int):=by rw [show (256:Nat)=2^8 from rfl,←Nat.pow_mul];push_cast;rfl
   rw [e1,XoP,wU8m,e0]
   rfl
  ·simp only [Int.toNat_natCast]
   have e2:j - i=(j - (i+1))+1:=by omega
   have e3:j - (i+1)=j - 1 - i:=by omega
   have e4:(b.set i ((m/256^(j - 1 - i)%256:Nat):Int)).take (i+1)=b.take i++[((m/256^(j - 1 - i)%256:Nat):Int)]:=by
    rw [List.take_succ_eq_append_getElem (by simp;omega),List.take_set_of_le (Nat.le_refl _),List.getElem_set_self]
   rw [e2,e4,be,e3]
   simp only [iB,List.map_append,List.map_cons,List.map_nil,List.append_assoc,List.cons_append,List.nil_append,Int.toNat_natCast]
   congr 2
   apply UInt8.toNat_inj.1
   simp
 ·refine .inl ?_
  obtain rfl:i=j:=by omega
  simp (disch:=omega) only [XaM,Xaz,Int.toNat_natCast]
  simp [be]
theorem Xdr {n k:Int} (h0:0≤n) (h1:n<2^64):XaU n k=some (XcG n k):=by
 unfold XaU XjI XcG
 obtain ⟨m,rfl⟩:=Int.eq_ofNat_of_zero_le h0
 by_cases hk:1≤k∧k≤8
 ·rw [if_pos hk]
  obtain ⟨j,rfl⟩:=Int.eq_ofNat_of_zero_le (show 0≤k by omega)
  have key:=iter_eq (step:=fun st=>Xfu (j:Int) st.1 st.2.1 st.2.2) (fun st=>be st.1.toNat (j - st.2.2.toNat)++st.2.1) (fun st=>0≤st.1∧st.1<2^64∧0≤st.2.2∧st.2.2≤j∧st.2.1.length<2^20+st.2.2.toNat) (fun st=>(j - st.2.2).toNat) ?_ FUEL ((m:Int),[],0) ⟨by simp,by simp only;omega,by simp,by simp,by simp⟩ (by rw [XeT];simp only;omega)
  ·rw [key];simp
  rintro ⟨n,s,p⟩ ⟨g1,g2,g3,g4,g5⟩
  simp only at g1 g2 g3 g4 g5 ⊢
  obtain ⟨i,rfl⟩:=Int.eq_ofNat_of_zero_le g3
  obtain ⟨x,rfl⟩:=Int.eq_ofNat_of_zero_le g1
  unfold Xfu
  by_cases hp:i<j
  ·refine .inr ⟨(((x/256:Nat):Int),UInt8.ofNat x::s,((i+1:Nat):Int)),?_,⟨by simp only;omega,by simp only;omega,by simp only;omega,by simp only;omega,by simp at g5 ⊢;omega⟩,by simp only;omega,?_⟩
   ·have e1:(x:Int).tmod 256=((x%256:Nat):Int):=by rw [Int.tmod_eq_emod_of_nonneg (by omega)];rfl
    have e2:(x:Int).tdiv 256=((x/256:Nat):Int):=by rw [Int.tdiv_eq_ediv_of_nonneg (by omega)];rfl
    rw [XaV (by omega),XaV (by omega),e1,e2,wU8 (by omega) (by omega)]
    simp only [List.length_cons,List.length_nil]
    rw [Xaz (by omega),XhB (by omega) (by omega),XcC (by omega) (by omega),Int.toNat_natCast]
    have e3:UInt8.ofNat (x%256)=UInt8.ofNat x:=by apply UInt8.toNat_inj.1;simp
    rw [e3];rfl
   ·simp only [Int.toNat_natCast]
    have e2:j - i=(j - (i+1))+1:=by omega
    rw [e2,Xj6];simp
  ·refine .inl ?_
   obtain rfl:i=j:=by omega
   rw [XaM (by omega)]
   simp [be]
 ·rw [if_neg hk]
  show iter _ (18446744073709551615+1) _=_
  rw [iter]
  have:Xfu k (m:Int) [] 0=some (.inr []):=by
   unfold Xfu
   by_cases h2:0<k
   ·rw [XaV h2,XaM (by omega)]
   ·rw [XaM h2]
  simp only [this]
def XsN (s:List UInt8) (p k:Int):Int×Bool:=if 1≤k∧k≤8∧0≤p∧p+k≤s.length then (((XdZ ((s.drop p.toNat).take k.toNat):Nat):Int),true) else (0,false)
theorem XnG {v i:Nat} (h:v<256^i) (hi:i≤7):v<2^56:=Nat.lt_of_lt_of_le h (by
 have:(256:Nat)^i≤256^7:=Nat.pow_le_pow_right (by decide) hi
 simpa using this)
theorem XeA {s:List UInt8} {p k:Int} (hs:s.length<2^61):XaG s p k=some (XsN s p k):=by
 unfold XaG XgS XsN
 by_cases h1:k<1
 ·rw [XaV h1,if_neg (by omega)]
 by_cases h2:k>8
 ·rw [XaM h1,XaV h2,if_neg (by omega)]
 by_cases h3:p<0
 ·rw [XaM h1,XaM h2,XaV h3,if_neg (by omega)]
 rw [XaM h1,XaM h2,XaM h3,XcC (n:=(s.length:Int) - k) (by omega) (by omega)]
 by_cases h4:(s.length:Int) - k<p
 ·simp only []
  rw [XaV h4,if_neg (by omega)]
 simp only []
 rw [XaM h4,XcC (n:=p+k) (by omega) (by omega),Xaz (by omega),if_pos (by omega)]
 obtain ⟨q,rfl⟩:=Int.eq_ofNat_of_zero_le (show 0≤p by omega)
 obtain ⟨j,rfl⟩:=Int.eq_ofNat_of_zero_le (show 0≤k by omega)
 have e:((q:Int)+j).toNat - (q:Int).toNat=j:=by omega
 rw [e]
 simp only [Int.toNat_natCast]
 generalize ht:(s.drop q).take j=t
 have hl:t.length=j:=by rw [←ht];simp;omega
 have key:=iter_eq (step:=fun st=>Xfj t st.1 st.2) (fun st=>(((st.1.toNat*256^(j - st.2.toNat)+XdZ (t.drop st.2.toNat):Nat):Int),true)) (fun st=>0≤st.1∧0≤st.2∧st.2≤j∧st.1.toNat<256^st.2.toNat) (fun st=>(j - st.2).toNat) ?_ FUEL (0,0) ⟨by simp,by simp,by simp,by simp⟩ (by rw [XeT];simp only;omega)
 ·rw [key];simp
 rintro ⟨n,x⟩ ⟨g1,g2,g3,g4⟩
 simp only at g1 g2 g3 g4 ⊢
 obtain ⟨i,rfl⟩:=Int.eq_ofNat_of_zero_le g2
 obtain ⟨v,rfl⟩:=Int.eq_ofNat_of_zero_le g1
 simp only [Int.toNat_natCast] at g4 ⊢
 unfold Xfj
 by_cases hp:i<j
 ·have hlt:i<t.length:=by omega
  have hb:=t[i].toNat_lt
  have hv:=XnG g4 (by omega)
  refine .inr ⟨(((v*256+t[i].toNat:Nat):Int),((i+1:Nat):Int)),?_,⟨by simp only;omega,by simp only;omega,by simp only;omega,?_⟩,by simp only;omega,?_⟩
  ·rw [XaV (by omega),Xaz (by omega)]
   have e1:(bI t)[(i:Int).toNat]?=some (t[i].toNat:Int):=by simp [bI,hlt]
   rw [e1,Option.bind_some]
   have e2:Xkl .u64 (wI .u64 ((v:Int)*2^8)) (wI .u64 (t[i].toNat:Int))=((v*256+t[i].toNat:Nat):Int):=by
    rw [XhB (by omega) (by omega),XhB (by omega) (by omega),Xg8 8 (by omega) (by omega) (by omega) (by omega) (by omega)];omega
   simp only [e2]
   rw [XcC (by omega) (by omega)];rfl
  ·simp only [Int.toNat_natCast]
   rw [Nat.pow_succ];omega
  ·simp only [Int.toNat_natCast]
   rw [List.drop_eq_getElem_cons hlt,Xe5]
   have e3:(t.drop (i+1)).length=j - (i+1):=by simp;omega
   have e4:j - i=(j - (i+1))+1:=by omega
   rw [e3,e4,Nat.pow_succ,Nat.add_mul,Nat.mul_assoc,Nat.mul_comm 256,Nat.add_assoc]
 ·refine .inl ?_
  obtain rfl:i=j:=by omega
  rw [XaM (by omega)]
  simp [←hl]
theorem Xig {s:List UInt8} {p k:Int} (hs:s.length<2^61):Xby s p k=some (XsN s p k):=by
 unfold Xby XjE XsN
 by_cases h1:k<1
 ·rw [XaV h1,if_neg (by omega)]
 by_cases h2:k>8
 ·rw [XaM h1,XaV h2,if_neg (by omega)]
 by_cases h3:p<0
 ·rw [XaM h1,XaM h2,XaV h3,if_neg (by omega)]
 by_cases h5:p>s.length
 ·rw [XaM h1,XaM h2,XaM h3,XaV h5,if_neg (by omega)]
 rw [XaM h1,XaM h2,XaM h3,XaM h5,XcC (n:=(s.length:Int) - p) (by omega) (by omega)]
 by_cases h4:k>(s.length:Int) - p
 ·simp only []
  rw [XaV h4,if_neg (by omega)]
 simp only []
 rw [XaM h4,if_pos (by omega)]
 obtain ⟨q,rfl⟩:=Int.eq_ofNat_of_zero_le (show 0≤p by omega)
 obtain ⟨j,rfl⟩:=Int.eq_ofNat_of_zero_le (show 0≤k by omega)
 simp only [Int.toNat_natCast]
 generalize ht:(s.drop q).take j=t
 have hl:t.length=j:=by rw [←ht];simp;omega
 have key:=iter_eq (step:=fun st=>Xg9 s (q:Int) (j:Int) st.1 st.2) (fun st=>(((st.1.toNat*256^(j - st.2.toNat)+XdZ (t.drop st.2.toNat):Nat):Int),true)) (fun st=>0≤st.1∧0≤st.2∧st.2≤j∧st.1.toNat<256^st.2.toNat) (fun st=>(j - st.2).toNat) ?_ FUEL (0,0) ⟨by simp,by simp,by simp,by simp⟩ (by rw [XeT];simp only;omega)
 ·rw [key];simp
 rintro ⟨n,x⟩ ⟨g1,g2,g3,g4⟩
 simp only at g1 g2 g3 g4 ⊢
 obtain ⟨i,rfl⟩:=Int.eq_ofNat_of_zero_le g2
 obtain ⟨v,rfl⟩:=Int.eq_ofNat_of_zero_le g1
 simp only [Int.toNat_natCast] at g4 ⊢
 unfold Xg9
 by_cases hp:i<j
 ·have hlt:i<t.length:=by omega
  have hb:=t[i].toNat_lt
  have hv:=XnG g4 (by omega)
  refine .inr ⟨(((v*256+t[i].toNat:Nat):Int),((i+1:Nat):Int)),?_,⟨by simp only;omega,by simp only;omega,by simp only;omega,?_⟩,by simp only;omega,?_⟩
  ·rw [XaV (by omega),XcC (n:=(q:Int)+i) (by omega) (by omega),Xaz (by omega)]
   have e0:((q:Int)+i).toNat=q+i:=by omega
   have e1:s[q+i]?=some t[i]:=by
    subst ht
    rw [List.getElem?_eq_getElem (by omega)]
    simp
   rw [e0,e1,Option.bind_some]
   have e2:wI .u64 ((wI .u64 ((v:Int)*256))+(wI .u64 (t[i].toNat:Int)))=((v*256+t[i].toNat:Nat):Int):=by
    rw [XhB (n:=(v:Int)*256) (by omega) (by omega),XhB (n:=(t[i].toNat:Int)) (by omega) (by omega),XhB (by omega) (by omega)];omega
   simp only [e2]
   rw [XcC (by omega) (by omega)];rfl
  ·simp only [Int.toNat_natCast]
   rw [Nat.pow_succ];omega
  ·simp only [Int.toNat_natCast]
   rw [List.drop_eq_getElem_cons hlt,Xe5]
   have e3:(t.drop (i+1)).length=j - (i+1):=by simp;omega
   have e4:j - i=(j - (i+1))+1:=by omega
   rw [e3,e4,Nat.pow_succ,Nat.add_mul,Nat.mul_assoc,Nat.mul_comm 256,Nat.add_assoc]
 ·refine .inl ?_
  obtain rfl:i=j:=by omega
  rw [XaM (by omega)]
  simp [←hl]
theorem Xgb {s:List UInt8} {p k:Int} (hs:s.length<2^61):Xal s p k=some (wI .i64 (XsN s p k).1):=by
 unfold Xal Xh3
 rw [Xig hs];rfl
end Go.Vm.Code
namespace Go.Vm.Code
open Go Go.Vm Go.Proofs
set_option maxRecDepth 100000
set_option maxHeartbeats 4000000
set_option linter.unusedVariables false
def Xg1 (Xaq:Int→Int→Option (List UInt8)) (s:List UInt8) (ata1:Int) (k:Int) (n:Int):Option (List UInt8):=
 (Xaq n k).bind fun p=>
 cond (p==[])
  (
  some (s))
  (
  cond (decide (ata1<0))
   (
   some (s))
   (
   let t:=decide ((wI .i64 ((s.length:Int) - k))<ata1)
   cond (t)
    (
    some (s))
    (
    XaK (decide ((0:Int)≤ata1∧ata1≤(s.length:Int))) <|
    XaK (decide ((s.take ata1.toNat).length+p.length<2^63)) <|
    XaK (decide ((0:Int)≤(wI .i64 (ata1+k))∧(wI .i64 (ata1+k))≤(s.length:Int))) <|
    let t1:=(s.drop (wI .i64 (ata1+k)).toNat).take (s.length - (wI .i64 (ata1+k)).toNat)
    XaK (decide (((s.take ata1.toNat)++p).length+t1.length<2^63)) <|
    some (((s.take ata1.toNat)++p)++t1))))
def rx43 (x:List UInt8):Xco:=⟨.string ⟨⟨x⟩⟩,[],[]⟩
def r43 (g:(List UInt8)→Int→Int→Int→Option (List UInt8)):Dec:=dV asS fun (y0:List UInt8)=>dV (asI .i64) fun (y1:Int)=>dV (asI .i64) fun (y2:Int)=>dV (asI .u64) fun (y3:Int)=>Xc5 (ofG (g y0 y1 y2 y3) rx43)
theorem r43_c {g:(List UInt8)→Int→Int→Int→Option (List UInt8)} {y0:List UInt8} {y1:Int} {y2:Int} {y3:Int} {x:List UInt8} (hx:g y0 y1 y2 y3=some x):r43 g [.string ⟨⟨y0⟩⟩,.int .i64 y1,.int .i64 y2,.int .u64 y3] []=some (rx43 x):=(XaS (XdL)).trans ((XaS (XcI _)).trans ((XaS (XcI _)).trans ((XaS (XcI _)).trans (XaZ hx))))
def s43 (g:(List UInt8)→Int→Int→Int→Option (List UInt8)):Xbp:=⟨[.v,.v,.v,.v],r43 g⟩
theorem XuT {g:(List UInt8)→Int→Int→Int→Option (List UInt8)} {y0:List UInt8} {y1:Int} {y2:Int} {y3:Int} {x:List UInt8} (hx:g y0 y1 y2 y3=some x):(s43 g).run [.string ⟨⟨y0⟩⟩,.int .i64 y1,.int .i64 y2,.int .u64 y3] []=some (rx43 x):=r43_c hx
abbrev Xz4 (Xaq:Int→Int→Option (List UInt8)):List (Nat×Xbp):=[(42,s42 Xaq)]
theorem XJp (Xaq:Int→Int→Option (List UInt8)) (hS:Xai Tryz.prog (Xar (Xz4 Xaq))) (s:List UInt8) (ata1:Int) (k:Int) (n:Int) (res:List UInt8) (h:Xg1 Xaq s ata1 k n=some res) :
 XaD Tryz.prog 43 0 ⟨⟨43,39,[(0,.string ⟨⟨s⟩⟩),(1,.int .i64 ata1),(2,.int .i64 k),(3,.int .u64 n)],[.code XAv],[],false,none⟩,[],[],0⟩ (fun v H _=>Res 0 (rx43 res) v H):=by
 unfold Xg1 at h
 refine Xa9 Xam hS true 3000 ?_
 conv=>whnf
 replace h:=Xak.elim h;obtain ⟨p,hy,h⟩:=h
 refine XaH.q rfl rfl (XjX hy) rfl rfl rfl ?_
 conv=>whnf
 refine br.h h ?_ ?_ ?_
 ·rfl
 ·clear h;intro hb h;conv=>whnf
  all_goals (cases h;exact Res.z rfl rfl rfl)
 clear h;intro hb h;conv=>whnf
 refine br.h h ?_ ?_ ?_
 ·rfl
 ·clear h;intro hb h;conv=>whnf
  all_goals (cases h;exact Res.z rfl rfl rfl)
 clear h;intro hb h;conv=>whnf
 let t:Bool:=decide ((wI .i64 ((s.length:Int) - k))<ata1)
 refine br.h h ?_ ?_ ?_
 ·rfl
 ·clear h;intro hb h;conv=>whnf
  all_goals (cases h;exact Res.z rfl rfl rfl)
 clear h;intro hb h;conv=>whnf
 replace h:=XaK.elim h;obtain ⟨hb,h⟩:=h
 first|(refine req.intro hb ?_;conv=>whnf)|skip
 replace h:=XaK.elim h;obtain ⟨hb,h⟩:=h
 first|(refine req.intro hb ?_;conv=>whnf)|skip
 replace h:=XaK.elim h;obtain ⟨hb,h⟩:=h
 first|(refine req.intro hb ?_;conv=>whnf)|skip
 let t1:List UInt8:=(s.drop (wI .i64 (ata1+k)).toNat).take (s.length - (wI .i64 (ata1+k)).toNat)
 replace h:=XaK.elim h;obtain ⟨hb,h⟩:=h
 first|(refine req.intro hb ?_;conv=>whnf)|skip
 all_goals (cases h;exact Res.z rfl rfl rfl)
theorem ok43 (Xaq:Int→Int→Option (List UInt8)) (hS:Xai Tryz.prog (Xar (Xz4 Xaq))):Xan Tryz.prog 43 (s43 (Xg1 Xaq)):=by
 refine Xan.Xau Xam (fun ar os r ha hr=>?_) ⟨Tryz.f43,rfl,by decide,rfl⟩
 replace hr:r43 (Xg1 Xaq) ar (XaA os)=some r:=hr
 unfold r43 at hr
 generalize hc:XaA os=C at hr
 replace hr:=dV.elim hr;obtain ⟨v0,l1,y0,rfl,e0,hr⟩:=hr;obtain rfl:=Xb8 _ _ e0
 replace hr:=dV.elim hr;obtain ⟨v1,l2,y1,rfl,e1,hr⟩:=hr;obtain rfl:=XbP _ _ _ e1
 replace hr:=dV.elim hr;obtain ⟨v2,l3,y2,rfl,e2,hr⟩:=hr;obtain rfl:=XbP _ _ _ e2
 replace hr:=dV.elim hr;obtain ⟨v3,l4,y3,rfl,e3,hr⟩:=hr;obtain rfl:=XbP _ _ _ e3
 replace hr:=Xdg hr;obtain ⟨rfl,rfl,x,h,rfl⟩:=hr
 obtain rfl:=Xao hc
 exact ⟨_,rfl,XJp Xaq hS _ _ _ _ x h⟩
def Xbn:(List UInt8)→Int→Int→Int→Option (List UInt8):=Xg1 Xaq
theorem XzV:Xan Tryz.prog 43 (s43 Xbn):=ok43 Xaq (Xai.XaW ⟨Xps,trivial⟩)
def Xjj (Xby:(List UInt8)→Int→Int→Option (Int×Bool)) (XaU:Int→Int→Option (List UInt8)) (s:List UInt8) (ata1:Int) (k:Int) (n:Int):Option (List UInt8):=
 (Xby s ata1 k).bind fun xg=>
 cond (!xg.2)
  (
  some (s))
  (
  XaK (decide ((0:Int)≤ata1∧ata1≤(s.length:Int))) <|
  (XaU n k).bind fun p=>
  XaK (decide ((s.take ata1.toNat).length+p.length<2^63)) <|
  XaK (decide ((0:Int)≤(wI .i64 (ata1+k))∧(wI .i64 (ata1+k))≤(s.length:Int))) <|
  let t:=(s.drop (wI .i64 (ata1+k)).toNat).take (s.length - (wI .i64 (ata1+k)).toNat)
  XaK (decide (((s.take ata1.toNat)++p).length+t.length<2^63)) <|
  some (((s.take ata1.toNat)++p)++t))
def rx87 (x:List UInt8):Xco:=⟨.string ⟨⟨x⟩⟩,[],[]⟩
def r87 (g:(List UInt8)→Int→Int→Int→Option (List UInt8)):Dec:=dV asS fun (y0:List UInt8)=>dV (asI .i64) fun (y1:Int)=>dV (asI .i64) fun (y2:Int)=>dV (asI .u64) fun (y3:Int)=>Xc5 (ofG (g y0 y1 y2 y3) rx87)
theorem r87_c {g:(List UInt8)→Int→Int→Int→Option (List UInt8)} {y0:List UInt8} {y1:Int} {y2:Int} {y3:Int} {x:List UInt8} (hx:g y0 y1 y2 y3=some x):r87 g [.string ⟨⟨y0⟩⟩,.int .i64 y1,.int .i64 y2,.int .u64 y3] []=some (rx87 x):=(XaS (XdL)).trans ((XaS (XcI _)).trans ((XaS (XcI _)).trans ((XaS (XcI _)).trans (XaZ hx))))
def s87 (g:(List UInt8)→Int→Int→Int→Option (List UInt8)):Xbp:=⟨[.v,.v,.v,.v],r87 g⟩
theorem XvL {g:(List UInt8)→Int→Int→Int→Option (List UInt8)} {y0:List UInt8} {y1:Int} {y2:Int} {y3:Int} {x:List UInt8} (hx:g y0 y1 y2 y3=some x):(s87 g).run [.string ⟨⟨y0⟩⟩,.int .i64 y1,.int .i64 y2,.int .u64 y3] []=some (rx87 x):=r87_c hx
abbrev XBV (Xby:(List UInt8)→Int→Int→Option (Int×Bool)) (XaU:Int→Int→Option (List UInt8)):List (Nat×Xbp):=[(70,s70 Xby),(85,s85 XaU)]
theorem XIr (Xby:(List UInt8)→Int→Int→Option (Int×Bool)) (XaU:Int→Int→Option (List UInt8)) (hS:Xai Tryz.prog (Xar (XBV Xby XaU))) (s:List UInt8) (ata1:Int) (k:Int) (n:Int) (res:List UInt8) (h:Xjj Xby XaU s ata1 k n=some res) :
 XaD Tryz.prog 87 0 ⟨⟨87,34,[(0,.string ⟨⟨s⟩⟩),(1,.int .i64 ata1),(2,.int .i64 k),(3,.int .u64 n)],[.code XBo],[],false,none⟩,[],[],0⟩ (fun v H _=>Res 0 (rx87 res) v H):=by
 unfold Xjj at h
 refine Xa9 Xam hS true 3000 ?_
 conv=>whnf
 replace h:=Xak.elim h;obtain ⟨xg,hy,h⟩:=h
 refine XaH.q rfl rfl (Xpv hy) rfl rfl rfl ?_
 conv=>whnf
 refine br.h h ?_ ?_ ?_
 ·rfl
 ·clear h;intro hb h;conv=>whnf
  all_goals (cases h;exact Res.z rfl rfl rfl)
 clear h;intro hb h;conv=>whnf
 replace h:=XaK.elim h;obtain ⟨hb,h⟩:=h
 first|(refine req.intro hb ?_;conv=>whnf)|skip
 replace h:=Xak.elim h;obtain ⟨p,hy,h⟩:=h
 refine XaH.q rfl rfl (Xkz hy) rfl rfl rfl ?_
 conv=>whnf
 replace h:=XaK.elim h;obtain ⟨hb,h⟩:=h
 first|(refine req.intro hb ?_;conv=>whnf)|skip
 replace h:=XaK.elim h;obtain ⟨hb,h⟩:=h
 first|(refine req.intro hb ?_;conv=>whnf)|skip
 let t:List UInt8:=(s.drop (wI .i64 (ata1+k)).toNat).take (s.length - (wI .i64 (ata1+k)).toNat)
 replace h:=XaK.elim h;obtain ⟨hb,h⟩:=h
 first|(refine req.intro hb ?_;conv=>whnf)|skip
 all_goals (cases h;exact Res.z rfl rfl rfl)
theorem ok87 (Xby:(List UInt8)→Int→Int→Option (Int×Bool)) (XaU:Int→Int→Option (List UInt8)) (hS:Xai Tryz.prog (Xar (XBV Xby XaU))):Xan Tryz.prog 87 (s87 (Xjj Xby XaU)):=by
 refine Xan.Xau Xam (fun ar os r ha hr=>?_) ⟨Tryz.f87,rfl,by decide,rfl⟩
 replace hr:r87 (Xjj Xby XaU) ar (XaA os)=some r:=hr
 unfold r87 at hr
 generalize hc:XaA os=C at hr
 replace hr:=dV.elim hr;obtain ⟨v0,l1,y0,rfl,e0,hr⟩:=hr;obtain rfl:=Xb8 _ _ e0
 replace hr:=dV.elim hr;obtain ⟨v1,l2,y1,rfl,e1,hr⟩:=hr;obtain rfl:=XbP _ _ _ e1
 replace hr:=dV.elim hr;obtain ⟨v2,l3,y2,rfl,e2,hr⟩:=hr;obtain rfl:=XbP _ _ _ e2
 replace hr:=dV.elim hr;obtain ⟨v3,l4,y3,rfl,e3,hr⟩:=hr;obtain rfl:=XbP _ _ _ e3
 replace hr:=Xdg hr;obtain ⟨rfl,rfl,x,h,rfl⟩:=hr
 obtain rfl:=Xao hc
 exact ⟨_,rfl,XIr Xby XaU hS _ _ _ _ x h⟩
def Xb1:(List UInt8)→Int→Int→Int→Option (List UInt8):=Xjj Xby XaU
theorem XAc:Xan Tryz.prog 87 (s87 Xb1):=ok87 Xby XaU (Xai.XaW ⟨Xvj,Xpw,trivial⟩)
def Xhe (l:List Int) (n1:Int):Option (Sum Int Int):=
 cond (decide (n1>65535))
  (
  let t:=wI .i64 ((n1.tmod 65536)+(wI .i64 (n1.tdiv 65536)))
  some (.inl t))
  (
  some (.inr (n1)))
def XgU (l:List Int) (n:Int) (i:Int):Option (Sum (Int×Int) Int):=
 cond (decide (i<(l.length:Int)))
  (
  XaK (decide ((0:Int)≤i∧i<(l.length:Int))) <|
  (l[i.toNat]?).bind fun (e:Int)=>
  some (.inl (wI .i64 (n+e),wI .i64 (i+1))))
  (
  (iter (fun st=>Xhe l st) FUEL n).bind fun o=>some (.inr (o)))
def Xju (l:List Int):Option Int:=
 iter (fun st=>XgU l st.1 st.2) FUEL (0,0)
def XpD (x:Int):Xco:=⟨.int .i64 x,[],[none]⟩
def r123 (g:(List Int)→Option Int):Dec:=dSl 0 1 (unL (asI .i64)) fun (y0:List Int)=>Xc5 (ofG (g y0) XpD)
theorem XYq {g:(List Int)→Option Int} {y0:List Int} {x:Int} (hx:g y0=some x):r123 g [.slice (some ⟨0,0,none⟩) y0.length 1] [some (vI .i64 y0)]=some (XpD x):=(Xro (XqV _ _)).trans (XaZ hx)
def s123 (g:(List Int)→Option Int):Xbp:=⟨[.sl 1],r123 g⟩
theorem XFw {g:(List Int)→Option Int} {y0:List Int} {x:Int} (hx:g y0=some x):(s123 g).run [.slice (some ⟨0,0,none⟩) y0.length 1] [some (vI .i64 y0)]=some (XpD x):=XYq hx
abbrev XnX:List (Nat×Xbp):=[]
def Xji (l:List Int) (n1:Int):VM:=
 ⟨⟨123,25,[(3,.int .i64 n1)],[.code Xp6,.inLoop Xp6,.inBlock 2,.code XuH],[],false,none⟩,[],[(0,.row false (vI .i64 l))],1⟩
def Xjc (l:List Int) (n:Int) (i:Int):VM:=
 ⟨⟨123,25,[(0,.slice (some ⟨0,0,none⟩) l.length 1),(3,.int .i64 n),(4,.int .i64 i)],[.code XpT,.inLoop XpT,.inBlock 0,.code Xuh],[],false,none⟩,[],[(0,.row false (vI .i64 l))],1⟩
theorem XtX (hS:Xai Tryz.prog (Xar (XnX))) (l:List Int) (res:Int):∀ fuel (st:Int) (o:Int),iter (fun st=>Xhe l st) fuel st=some o→(o=res) →
 XaD Tryz.prog 123 1 (Xji l st) (fun v H _=>Res 1 (XpD res) v H):=by
 intro fuel st o h hc
 refine Xch (head:=fun st=>Xji l st) (C:=fun o=>(o=res)) ?_ fuel st o h hc
 clear h hc o st fuel
 intro n1 o h hc
 replace h:Xhe l n1=some o:=h
 show XaD Tryz.prog 123 1 (Xji l n1) (fun v H _=>Res 1 (XpD res) v H)
 unfold Xhe at h
 refine Xa9 Xam hS true 3000 ?_
 conv=>whnf
 refine br.h2 h ?_ ?_ ?_
 ·rfl
 ·clear h;intro hb h;conv=>whnf
  all_goals (cases h;cases hc)
  all_goals exact Res.of [] rfl XeY (by decide) XeZ (XkV XeX)
 clear h;intro hb h;conv=>whnf
 let t:Int:=wI .i64 ((n1.tmod 65536)+(wI .i64 (n1.tdiv 65536)))
 cases h;simp only [Sum.elim_inl,Xji] at hc
 exact Xkm hc [(0,0)] rfl
theorem XuL (hS:Xai Tryz.prog (Xar (XnX))) (l:List Int) (res:Int):∀ fuel (st:Int×Int) (o:Int),iter (fun st=>XgU l st.1 st.2) fuel st=some o→(o=res) →
 XaD Tryz.prog 123 1 (Xjc l st.1 st.2) (fun v H _=>Res 1 (XpD res) v H):=by
 intro fuel st o h hc
 refine Xch (head:=fun st=>Xjc l st.1 st.2) (C:=fun o=>(o=res)) ?_ fuel st o h hc
 clear h hc o st fuel
 intro st o h hc
 obtain ⟨n,i⟩:=st
 replace h:XgU l n i=some o:=h
 show XaD Tryz.prog 123 1 (Xjc l n i) (fun v H _=>Res 1 (XpD res) v H)
 unfold XgU at h
 refine Xa9 Xam hS true 3000 ?_
 conv=>whnf
 refine br.h2 h ?_ ?_ ?_
 ·rfl
 ·clear h;intro hb h;conv=>whnf
  obtain ⟨y,hy,h2⟩:=Xak.elim h;cases h2
  have hl:=XtX hS _ res _ _ _ hy hc;simp only [Xji] at hl
  exact Xkm hl [(0,0)] rfl
 clear h;intro hb h;conv=>whnf
 replace h:=XaK.elim h;obtain ⟨hb,h⟩:=h
 first|(refine req.intro hb ?_;conv=>whnf)|skip
 replace h:=Xak.elim h;obtain ⟨e,hy,h⟩:=h
 refine rd.I hy (by first|rfl|(rw [Nat.zero_add,Nat.mul_one];try rfl;done)|omega) ?_
 conv=>whnf
 cases h;simp only [Sum.elim_inl,Xjc] at hc
 exact Xkm hc [(0,0)] rfl
theorem Xxf (hS:Xai Tryz.prog (Xar (XnX))) (l:List Int) (res:Int) (h:Xju l=some res) :
 XaD Tryz.prog 123 1 ⟨⟨123,25,[(0,.slice (some ⟨0,0,none⟩) l.length 1)],[.code Xvi],[],false,none⟩,[],[(0,.row false (vI .i64 l))],1⟩ (fun v H _=>Res 1 (XpD res) v H):=by
 unfold Xju at h
 refine Xa9 Xam hS true 3000 ?_
 conv=>whnf
 have hl:=XuL hS _ res _ _ _ h rfl;simp only [Xjc] at hl
 exact Xkm hl [(0,0)] rfl
theorem ok123 (hS:Xai Tryz.prog (Xar (XnX))):Xan Tryz.prog 123 (s123 (Xju)):=by
 refine Xan.Xau Xam (fun ar os r ha hr=>?_) ⟨Tryz.f123,rfl,by decide,rfl⟩
 replace hr:r123 (Xju) ar (XaA os)=some r:=hr
 unfold r123 at hr
 generalize hc:XaA os=C at hr
 have hq:=dSl.elim hr;clear hr;obtain ⟨c0,l1,C,y0,rfl,rfl,e0,hr⟩:=hq;obtain rfl:=Xrs e0
 replace hr:=Xdg hr;obtain ⟨rfl,rfl,x,h,rfl⟩:=hr
 obtain ⟨os,rfl,ha,hc⟩:=Xdu ha hc
 obtain rfl:=Xao hc
 exact ⟨_,rfl,Xxf hS _ x h⟩
def Xez:(List Int)→Option Int:=Xju
theorem XHG:Xan Tryz.prog 123 (s123 Xez):=ok123 (Xai.XaW trivial)
def Xd1 (Xal:(List UInt8)→Int→Int→Option Int) (s1:List UInt8) (i:Int) (out1:List Int):Option (Sum ((List UInt8)×Int×(List Int)) (List Int)):=
 cond (decide (i<(s1.length:Int)))
  (
  (Xal s1 i 2).bind fun m=>
  XaK (decide ((out1.length+1)*8≤2^47)) <|
  let row:=out1++[m]
  some (.inl (s1,wI .i64 (i+2),row)))
  (
  some (.inr (out1)))
def Xg5 (Xal:(List UInt8)→Int→Int→Option Int) (s:List UInt8):Option (List Int):=
 cond (((s.length:Int).tmod 2)==1)
  (
  XaK (decide (s.length+1<2^63)) <|
  iter (fun st=>Xd1 Xal st.1 st.2.1 st.2.2) FUEL (s++[0],0,[]))
  (
  iter (fun st=>Xd1 Xal st.1 st.2.1 st.2.2) FUEL (s,0,[]))
def Xsg (x:List Int):Xco:=⟨.slice (some ⟨0,0,none⟩) x.length 1,[(vI .i64 x)],[]⟩
def r124 (g:(List UInt8)→Option (List Int)):Dec:=dV asS fun (y0:List UInt8)=>Xc5 (ofG (g y0) Xsg)
theorem X1q {g:(List UInt8)→Option (List Int)} {y0:List UInt8} {x:List Int} (hx:g y0=some x):r124 g [.string ⟨⟨y0⟩⟩] []=some (Xsg x):=(XaS (XdL)).trans (XaZ hx)
def s124 (g:(List UInt8)→Option (List Int)):Xbp:=⟨[.v],r124 g⟩
theorem XKM {g:(List UInt8)→Option (List Int)} {y0:List UInt8} {x:List Int} (hx:g y0=some x):(s124 g).run [.string ⟨⟨y0⟩⟩] []=some (Xsg x):=X1q hx
abbrev Xqj (Xal:(List UInt8)→Int→Int→Option Int):List (Nat×Xbp):=[(44,s44 Xal)]
def Xh6 (s1:List UInt8) (i:Int) (out1:List Int):VM:=
 ⟨⟨124,24,[(0,.string ⟨⟨s1⟩⟩),(3,.slice (some ⟨0,0,none⟩) out1.length 1),(4,.int .i64 i)],[.code Xqd,.inLoop Xqd,.inBlock 0,.code XvB],[],false,none⟩,[],[(0,.row true (vI .i64 out1))],1⟩
theorem Xo9 (Xal:(List UInt8)→Int→Int→Option Int) (hS:Xai Tryz.prog (Xar (Xqj Xal))) (res:List Int):∀ fuel (st:(List UInt8)×Int×(List Int)) (o:List Int),iter (fun st=>Xd1 Xal st.1 st.2.1 st.2.2) fuel st=some o→(o=res) →
 XaD Tryz.prog 124 0 (Xh6 st.1 st.2.1 st.2.2) (fun v H _=>Res 0 (Xsg res) v H):=by
 intro fuel st o h hc
 refine Xch (head:=fun st=>Xh6 st.1 st.2.1 st.2.2) (C:=fun o=>(o=res)) ?_ fuel st o h hc
 clear h hc o st fuel
 intro st o h hc
 obtain ⟨s1,i,out1⟩:=st
 replace h:Xd1 Xal s1 i out1=some o:=h
 show XaD Tryz.prog 124 0 (Xh6 s1 i out1) (fun v H _=>Res 0 (Xsg res) v H)
 unfold Xd1 at h
 refine Xa9 Xam hS true 3000 ?_
 conv=>whnf
 refine br.h2 h ?_ ?_ ?_
 ·rfl
 ·clear h;intro hb h;conv=>whnf
  all_goals (cases h;cases hc)
  all_goals exact Res.of [0] rfl (Xsq (rn_I) (XiO rfl) XeY) (by decide) (Xsp (by decide) XeZ) XeX
 clear h;intro hb h;conv=>whnf
 replace h:=Xak.elim h;obtain ⟨m,hy,h⟩:=h
 refine XaH.q rfl rfl (Xe2 hy) rfl rfl rfl ?_
 conv=>whnf
 replace h:=XaK.elim h;obtain ⟨hb,h⟩:=h
 refine req.intro (Xu6 (of_decide_eq_true hb) (by first|rfl|omega|(simp;done)|(simp;omega)|(simp at *;omega)) rfl (by first|rfl|omega|(simp;done)|(simp;omega)|(simp at *;omega)) (by first|rfl|exact Xh8 _ _|exact XkT _|exact Xku _|exact XlM (by first|exact Xdv|exact Xda|exact XcN|exact Xcm|exact XcB|exact Xcl|exact XcT|exact XdG|exact Xd0|exact XdB|exact Xdb|exact Xck|exact XdD|exact Xb3|exact Xa8|exact Xdz|exact XdY) _|(rw [Xf7];exact Xh8 _ _)|(simp [Xh8,XkT,Xku,Xlj,Xll,Xof,Xn6];done)|(simp;exact List.all_eq_true.1 (XlM (by first|exact Xdv|exact Xda|exact XcN|exact Xcm|exact XcB|exact Xcl|exact XcT|exact XdG|exact Xd0|exact XdB|exact Xdb|exact Xck|exact XdD|exact Xb3|exact Xa8|exact Xdz|exact XdY) _))) rfl) ?_
 conv=>whnf
 let row:List Int:=out1++[m]
 refine X7C (xs:=out1) (ys:=[m]) rfl (by first|rfl|omega) (by first|rfl|omega|(simp;done)|(simp;omega)|(simp at *;omega)) (by first|rfl|omega|(simp;done)|(simp;omega)|(simp at *;omega)) ?_
 conv=>whnf
 cases h;simp only [Sum.elim_inl,Xh6] at hc
 exact Xkm hc [(0,2)] rfl
theorem Xxs (Xal:(List UInt8)→Int→Int→Option Int) (hS:Xai Tryz.prog (Xar (Xqj Xal))) (s:List UInt8) (res:List Int) (h:Xg5 Xal s=some res) :
 XaD Tryz.prog 124 0 ⟨⟨124,24,[(0,.string ⟨⟨s⟩⟩)],[.code XvF],[],false,none⟩,[],[],0⟩ (fun v H _=>Res 0 (Xsg res) v H):=by
 unfold Xg5 at h
 refine Xa9 Xam hS true 3000 ?_
 conv=>whnf
 refine br.h2 h ?_ ?_ ?_
 ·rfl
 ·clear h;intro hb h;conv=>whnf
  have hl:=Xo9 Xal hS res _ _ _ h rfl;simp only [Xh6] at hl
  refine XaD.nilT 3 1 ?_
  exact Xkm hl [(0,0)] rfl
 clear h;intro hb h;conv=>whnf
 replace h:=XaK.elim h;obtain ⟨hb,h⟩:=h
 first|(refine req.intro hb ?_;conv=>whnf)|skip
 have hl:=Xo9 Xal hS res _ _ _ h rfl;simp only [Xh6] at hl
 refine XaD.nilT 3 1 ?_
 exact Xkm hl [(0,0)] rfl
theorem ok124 (Xal:(List UInt8)→Int→Int→Option Int) (hS:Xai Tryz.prog (Xar (Xqj Xal))):Xan Tryz.prog 124 (s124 (Xg5 Xal)):=by
 refine Xan.Xau Xam (fun ar os r ha hr=>?_) ⟨Tryz.f124,rfl,by decide,rfl⟩
 replace hr:r124 (Xg5 Xal) ar (XaA os)=some r:=hr
 unfold r124 at hr
 generalize hc:XaA os=C at hr
 replace hr:=dV.elim hr;obtain ⟨v0,l1,y0,rfl,e0,hr⟩:=hr;obtain rfl:=Xb8 _ _ e0
 replace hr:=Xdg hr;obtain ⟨rfl,rfl,x,h,rfl⟩:=hr
 obtain rfl:=Xao hc
 exact ⟨_,rfl,Xxs Xal hS _ x h⟩
def XcP:(List UInt8)→Option (List Int):=Xg5 Xal
theorem XHW:Xan Tryz.prog 124 (s124 XcP):=ok124 Xal (Xai.XaW ⟨XmT,trivial⟩)
def Xjx (Xez:(List Int)→Option Int) (XcP:(List UInt8)→Option (List Int)) (s:List UInt8):Option Int:=
 (XcP s).bind fun w=>
 (Xez w).bind fun a=>
 some (a)
def XwS (x:Int):Xco:=⟨.int .i64 x,[],[]⟩
def r100 (g:(List UInt8)→Option Int):Dec:=dV asS fun (y0:List UInt8)=>Xc5 (ofG (g y0) XwS)
theorem XPK {g:(List UInt8)→Option Int} {y0:List UInt8} {x:Int} (hx:g y0=some x):r100 g [.string ⟨⟨y0⟩⟩] []=some (XwS x):=(XaS (XdL)).trans (XaZ hx)
def XJ0 (g:(List UInt8)→Option Int):Xbp:=⟨[.v],r100 g⟩
theorem XnT {g:(List UInt8)→Option Int} {y0:List UInt8} {x:Int} (hx:g y0=some x):(XJ0 g).run [.string ⟨⟨y0⟩⟩] []=some (XwS x):=XPK hx
abbrev XuC (Xez:(List Int)→Option Int) (XcP:(List UInt8)→Option (List Int)):List (Nat×Xbp):=[(123,s123 Xez),(124,s124 XcP)]
theorem Xwt (Xez:(List Int)→Option Int) (XcP:(List UInt8)→Option (List Int)) (hS:Xai Tryz.prog (Xar (XuC Xez XcP))) (s:List UInt8) (res:Int) (h:Xjx Xez XcP s=some res) :
 XaD Tryz.prog 100 0 ⟨⟨100,6,[(0,.string ⟨⟨s⟩⟩)],[.code XAl],[],false,none⟩,[],[],0⟩ (fun v H _=>Res 0 (XwS res) v H):=by
 unfold Xjx at h
 refine Xa9 Xam hS true 3000 ?_
 conv=>whnf
 replace h:=Xak.elim h;obtain ⟨w,hy,h⟩:=h
 refine XaH.Xbb [] (Xat («as»:=[.string ⟨⟨s⟩⟩]) (ws:=[]) (n:=1) (m:=0) (t':=1) (Xas rfl rfl Xbd) rfl (by rfl) (XKM hy) rfl rfl rfl rfl Xbc (XhH (rn_I) Xba) rfl) ?_
 conv=>whnf
 replace h:=Xak.elim h;obtain ⟨a,hy,h⟩:=h
 refine XaH.Xbb [] (Xat («as»:=[.slice (some ⟨0,0,none⟩) (w:List Int).length 1]) (ws:=[.win 0 0 (w.length*1) false]) (n:=0) (m:=0) (t':=1) (Xas (by first|rfl|exact Xhj rfl rfl (by first|rfl|omega) (by first|rfl|(simp;done))|exact XiN rfl rfl (by first|rfl|omega) (by first|rfl|omega) (by first|omega|(simp at *;omega))) rfl Xbd) rfl (by rfl) (XFw hy) rfl rfl rfl rfl (XgE rfl Xbc) Xba rfl) ?_
 conv=>whnf
 all_goals (cases h;exact Res.z rfl rfl rfl)
theorem ok100 (Xez:(List Int)→Option Int) (XcP:(List UInt8)→Option (List Int)) (hS:Xai Tryz.prog (Xar (XuC Xez XcP))):Xan Tryz.prog 100 (XJ0 (Xjx Xez XcP)):=by
 refine Xan.Xau Xam (fun ar os r ha hr=>?_) ⟨Tryz.f100,rfl,by decide,rfl⟩
 replace hr:r100 (Xjx Xez XcP) ar (XaA os)=some r:=hr
 unfold r100 at hr
 generalize hc:XaA os=C at hr
 replace hr:=dV.elim hr;obtain ⟨v0,l1,y0,rfl,e0,hr⟩:=hr;obtain rfl:=Xb8 _ _ e0
 replace hr:=Xdg hr;obtain ⟨rfl,rfl,x,h,rfl⟩:=hr
 obtain rfl:=Xao hc
 exact ⟨_,rfl,Xwt Xez XcP hS _ x h⟩
def Xbf:(List UInt8)→Option Int:=Xjx Xez XcP
theorem Xos:Xan Tryz.prog 100 (XJ0 Xbf):=ok100 Xez XcP (Xai.XaW ⟨XHG,XHW,trivial⟩)
def Xk9 (Xbf:(List UInt8)→Option Int) (s:List UInt8):Option Int:=
 (Xbf s).bind fun s1=>
 some (wI .i64 (65535 - s1))
def rx88 (x:Int):Xco:=⟨.int .i64 x,[],[]⟩
def r88 (g:(List UInt8)→Option Int):Dec:=dV asS fun (y0:List UInt8)=>Xc5 (ofG (g y0) rx88)
theorem r88_c {g:(List UInt8)→Option Int} {y0:List UInt8} {x:Int} (hx:g y0=some x):r88 g [.string ⟨⟨y0⟩⟩] []=some (rx88 x):=(XaS (XdL)).trans (XaZ hx)
def s88 (g:(List UInt8)→Option Int):Xbp:=⟨[.v],r88 g⟩
theorem Xth {g:(List UInt8)→Option Int} {y0:List UInt8} {x:Int} (hx:g y0=some x):(s88 g).run [.string ⟨⟨y0⟩⟩] []=some (rx88 x):=r88_c hx
abbrev XAB (Xbf:(List UInt8)→Option Int):List (Nat×Xbp):=[(100,XJ0 Xbf)]
theorem XDN (Xbf:(List UInt8)→Option Int) (hS:Xai Tryz.prog (Xar (XAB Xbf))) (s:List UInt8) (res:Int) (h:Xk9 Xbf s=some res) :
 XaD Tryz.prog 88 0 ⟨⟨88,6,[(0,.string ⟨⟨s⟩⟩)],[.code XRE],[],false,none⟩,[],[],0⟩ (fun v H _=>Res 0 (rx88 res) v H):=by
 unfold Xk9 at h
 refine Xa9 Xam hS true 3000 ?_
 conv=>whnf
 replace h:=Xak.elim h;obtain ⟨s1,hy,h⟩:=h
 refine XaH.q rfl rfl (XnT hy) rfl rfl rfl ?_
 conv=>whnf
 all_goals (cases h;exact Res.z rfl rfl rfl)
theorem ok88 (Xbf:(List UInt8)→Option Int) (hS:Xai Tryz.prog (Xar (XAB Xbf))):Xan Tryz.prog 88 (s88 (Xk9 Xbf)):=by
 refine Xan.Xau Xam (fun ar os r ha hr=>?_) ⟨Tryz.f88,rfl,by decide,rfl⟩
 replace hr:r88 (Xk9 Xbf) ar (XaA os)=some r:=hr
 unfold r88 at hr
 generalize hc:XaA os=C at hr
 replace hr:=dV.elim hr;obtain ⟨v0,l1,y0,rfl,e0,hr⟩:=hr;obtain rfl:=Xb8 _ _ e0
 replace hr:=Xdg hr;obtain ⟨rfl,rfl,x,h,rfl⟩:=hr
 obtain rfl:=Xao hc
 exact ⟨_,rfl,XDN Xbf hS _ x h⟩
def Xc1:(List UInt8)→Option Int:=Xk9 Xbf
theorem XAJ:Xan Tryz.prog 88 (s88 Xc1):=ok88 Xbf (Xai.XaW ⟨Xos,trivial⟩)
def Xia (Xbz:(List UInt8)→Option Int) (s:List UInt8):Option Int:=
 (Xbz s).bind fun s1=>
 some (wI .i64 (65535 - s1))
def rx78 (x:Int):Xco:=⟨.int .i64 x,[],[]⟩
def r78 (g:(List UInt8)→Option Int):Dec:=dV asS fun (y0:List UInt8)=>Xc5 (ofG (g y0) rx78)
theorem r78_c {g:(List UInt8)→Option Int} {y0:List UInt8} {x:Int} (hx:g y0=some x):r78 g [.string ⟨⟨y0⟩⟩] []=some (rx78 x):=(XaS (XdL)).trans (XaZ hx)
def s78 (g:(List UInt8)→Option Int):Xbp:=⟨[.v],r78 g⟩
theorem Xtw {g:(List UInt8)→Option Int} {y0:List UInt8} {x:Int} (hx:g y0=some x):(s78 g).run [.string ⟨⟨y0⟩⟩] []=some (rx78 x):=r78_c hx
abbrev XAq (Xbz:(List UInt8)→Option Int):List (Nat×Xbp):=[(112,XSE Xbz)]
theorem XIN (Xbz:(List UInt8)→Option Int) (hS:Xai Tryz.prog (Xar (XAq Xbz))) (s:List UInt8) (res:Int) (h:Xia Xbz s=some res) :
 XaD Tryz.prog 78 0 ⟨⟨78,6,[(0,.string ⟨⟨s⟩⟩)],[.code X4Z],[],false,none⟩,[],[],0⟩ (fun v H _=>Res 0 (rx78 res) v H):=by
 unfold Xia at h
 refine Xa9 Xam hS true 3000 ?_
 conv=>whnf
 replace h:=Xak.elim h;obtain ⟨s1,hy,h⟩:=h
 refine XaH.q rfl rfl (Xtt hy) rfl rfl rfl ?_
 conv=>whnf
 all_goals (cases h;exact Res.z rfl rfl rfl)
theorem ok78 (Xbz:(List UInt8)→Option Int) (hS:Xai Tryz.prog (Xar (XAq Xbz))):Xan Tryz.prog 78 (s78 (Xia Xbz)):=by
 refine Xan.Xau Xam (fun ar os r ha hr=>?_) ⟨Tryz.f78,rfl,by decide,rfl⟩
 replace hr:r78 (Xia Xbz) ar (XaA os)=some r:=hr
 unfold r78 at hr
 generalize hc:XaA os=C at hr
 replace hr:=dV.elim hr;obtain ⟨v0,l1,y0,rfl,e0,hr⟩:=hr;obtain rfl:=Xb8 _ _ e0
 replace hr:=Xdg hr;obtain ⟨rfl,rfl,x,h,rfl⟩:=hr
 obtain rfl:=Xao hc
 exact ⟨_,rfl,XIN Xbz hS _ x h⟩
def XbF:(List UInt8)→Option Int:=Xia Xbz
theorem XAC:Xan Tryz.prog 78 (s78 XbF):=ok78 Xbz (Xai.XaW ⟨Xtz,trivial⟩)
def Xfc (Xbz:(List UInt8)→Option Int) (s:List UInt8):Option Bool:=
 (Xbz s).bind fun s1=>
 some (s1==65535)
def Xxg (x:Bool):Xco:=⟨.bool x,[],[]⟩
def r131 (g:(List UInt8)→Option Bool):Dec:=dV asS fun (y0:List UInt8)=>Xc5 (ofG (g y0) Xxg)
theorem XRa {g:(List UInt8)→Option Bool} {y0:List UInt8} {x:Bool} (hx:g y0=some x):r131 g [.string ⟨⟨y0⟩⟩] []=some (Xxg x):=(XaS (XdL)).trans (XaZ hx)
def XLl (g:(List UInt8)→Option Bool):Xbp:=⟨[.v],r131 g⟩
theorem Xol {g:(List UInt8)→Option Bool} {y0:List UInt8} {x:Bool} (hx:g y0=some x):(XLl g).run [.string ⟨⟨y0⟩⟩] []=some (Xxg x):=XRa hx
abbrev Xt0 (Xbz:(List UInt8)→Option Int):List (Nat×Xbp):=[(112,XSE Xbz)]
theorem XyF (Xbz:(List UInt8)→Option Int) (hS:Xai Tryz.prog (Xar (Xt0 Xbz))) (s:List UInt8) (res:Bool) (h:Xfc Xbz s=some res) :
 XaD Tryz.prog 131 0 ⟨⟨131,6,[(0,.string ⟨⟨s⟩⟩)],[.code XBt],[],false,none⟩,[],[],0⟩ (fun v H _=>Res 0 (Xxg res) v H):=by
 unfold Xfc at h
 refine Xa9 Xam hS true 3000 ?_
 conv=>whnf
 replace h:=Xak.elim h;obtain ⟨s1,hy,h⟩:=h
 refine XaH.q rfl rfl (Xtt hy) rfl rfl rfl ?_
 conv=>whnf
 all_goals (cases h;exact Res.z rfl rfl rfl)
theorem ok131 (Xbz:(List UInt8)→Option Int) (hS:Xai Tryz.prog (Xar (Xt0 Xbz))):Xan Tryz.prog 131 (XLl (Xfc Xbz)):=by
 refine Xan.Xau Xam (fun ar os r ha hr=>?_) ⟨Tryz.f131,rfl,by decide,rfl⟩
 replace hr:r131 (Xfc Xbz) ar (XaA os)=some r:=hr
 unfold r131 at hr
 generalize hc:XaA os=C at hr
 replace hr:=dV.elim hr;obtain ⟨v0,l1,y0,rfl,e0,hr⟩:=hr;obtain rfl:=Xb8 _ _ e0
 replace hr:=Xdg hr;obtain ⟨rfl,rfl,x,h,rfl⟩:=hr
 obtain rfl:=Xao hc
 exact ⟨_,rfl,XyF Xbz hS _ x h⟩
def XaB:(List UInt8)→Option Bool:=Xfc Xbz
theorem XpO:Xan Tryz.prog 131 (XLl XaB):=ok131 Xbz (Xai.XaW ⟨Xtz,trivial⟩)
end Go.Vm.Code
namespace Go.Vm.Code
open Go Go.Vm
theorem Xxe {s:List UInt8} {i:Nat} (h:i+1<s.length):XsN s (i:Int) 2=(((s[i].toNat*256+s[i+1].toNat:Nat):Int),true):=by
 unfold XsN
 rw [if_pos (by omega)]
 have e:(s.drop (i:Int).toNat).take (2:Int).toNat=[s[i],s[i+1]]:=by
  show (s.drop i).take 2=_
  rw [List.drop_eq_getElem_cons (by omega:i<s.length),List.drop_eq_getElem_cons h];rfl
 rw [e];simp [Xe5]
def Xfo:List UInt8→List Int
 | []=>[]
 | [b]=>[((b.toNat*256:Nat):Int)]
 | b::c::l=>((b.toNat*256+c.toNat:Nat):Int)::Xfo l
theorem XrY {s:List UInt8} {i:Nat} (h:i+1<s.length):Xfo (s.drop i)=((s[i].toNat*256+s[i+1].toNat:Nat):Int)::Xfo (s.drop (i+2)):=by
 rw [List.drop_eq_getElem_cons (by omega:i<s.length),List.drop_eq_getElem_cons h];rfl
theorem Xm1:∀ s:List UInt8,s.length%2=1→Xfo (s++[0])=Xfo s
 | [],h=>by simp at h
 | [b],_=>by
   show [((b.toNat*256+0:Nat):Int)]=[((b.toNat*256:Nat):Int)]
   rw [Nat.add_zero]
 | b::c::l,h=>by
   have:=Xm1 l (by simp at h;omega)
   simp only [List.cons_append,Xfo,this]
theorem Xnt:∀ s:List UInt8,(Xfo s).sum=(Xgz s:Int)
 | []=>rfl
 | [b]=>by simp only [Xfo,Xgz,List.sum_cons,List.sum_nil,Int.add_zero]
 | b::c::l=>by
   have:=Xnt l
   simp only [Xfo,Xgz,List.sum_cons,this];omega
theorem XnA:∀ s:List UInt8,∀ e∈Xfo s,0≤e∧e≤65535
 | [],e,h=>by simp [Xfo] at h
 | [b],e,h=>by simp [Xfo] at h;have:=b.toNat_lt;omega
 | b::c::l,e,h=>by
   simp only [Xfo,List.mem_cons] at h
   rcases h with rfl|h
   ·have:=b.toNat_lt;have:=c.toNat_lt;omega
   ·exact XnA l e h
theorem Xm4:∀ s:List UInt8,(Xfo s).length=(s.length+1)/2
 | []=>rfl
 | [b]=>by simp [Xfo]
 | b::c::l=>by
   have:=Xm4 l
   simp only [Xfo,List.length_cons,this];omega
theorem XjO {s:List UInt8} (h:s.length<2^40) (he:s.length%2=0):iter (fun (st:List UInt8×Int×List Int)=>Xd1 Xal st.1 st.2.1 st.2.2) FUEL (s,0,[])=some (Xfo s):=by
 have key:=iter_eq (step:=fun (st:List UInt8×Int×List Int)=>Xd1 Xal st.1 st.2.1 st.2.2) (fun st=>st.2.2++Xfo (s.drop st.2.1.toNat)) (fun st=>st.1=s∧∃ i:Nat,st.2.1=i∧i%2=0∧i≤s.length∧st.2.2.length≤i) (fun st=>(s.length - st.2.1).toNat) ?_ FUEL (s,0,[]) ⟨rfl,0,rfl,by omega,by omega,by simp⟩ (by rw [XeT];simp only;omega)
 ·rw [key];simp
 rintro ⟨s1,p,out⟩ ⟨h1,i,h2,h3,h4,h5⟩
 simp only at h1 h2 h5 ⊢
 subst h1 h2
 unfold Xd1
 by_cases hi:i<s1.length
 ·have hi2:i+1<s1.length:=by omega
  refine .inr ⟨(s1,((i+2:Nat):Int),out++[((s1[i].toNat*256+s1[i+1].toNat:Nat):Int)]),?_,⟨rfl,i+2,rfl,by omega,by omega,by simp;omega⟩,by simp only;omega,?_⟩
  ·have b1:=s1[i].toNat_lt
   have b2:=s1[i+1].toNat_lt
   rw [XaV (by omega),Xgb (by omega),Xxe hi2,Option.bind_some,Xaz (by omega),XcC (by omega) (by omega),XcC (by omega) (by omega)];rfl
  ·simp only [Int.toNat_natCast]
   rw [XrY hi2];simp
 ·refine .inl ?_
  rw [XaM (by omega)]
  simp [List.drop_eq_nil_of_le (by omega:s1.length≤i),Xfo]
theorem Xpd {s:List UInt8} (h:s.length<2^39):XcP s=some (Xfo s):=by
 unfold XcP Xg5
 have ea:((s.length:Int).tmod 2==1)=decide (s.length%2=1):=by
  rw [Int.tmod_eq_emod_of_nonneg (by omega),Bool.eq_iff_iff,beq_iff_eq,decide_eq_true_eq];omega
 rw [ea]
 by_cases h2:s.length%2=1
 ·rw [XaV h2,Xaz (by omega),XjO (by simp only [List.length_append,List.length_cons,List.length_nil];omega) (by simp only [List.length_append,List.length_cons,List.length_nil];omega),Xm1 s h2]
 ·rw [XaM h2,XjO (by omega) (by omega)]
theorem XpN {l:List Int} {n:Int} (h0:0≤n) (h1:n<2^62):iter (fun st=>Xhe l st) FUEL n=some ((norm n.toNat:Nat):Int):=by
 refine iter_eq (fun n=>((norm n.toNat:Nat):Int)) (fun n=>0≤n∧n<2^62) (fun n=>n.toNat) ?_ FUEL _ ⟨h0,h1⟩ (by rw [XeT];omega)
 intro s ⟨a,b⟩
 unfold Xhe
 by_cases hs:s>65535
 ·refine .inr ⟨s%65536+s/65536,?_,⟨by omega,by omega⟩,by omega,?_⟩
  ·rw [XaV hs,Int.tdiv_eq_ediv_of_nonneg a,Int.tmod_eq_emod_of_nonneg a,XcC (n:=s/65536) (by omega) (by omega),XcC (by omega) (by omega)]
  ·have:norm (s%65536+s/65536).toNat=norm s.toNat:=
    (norm_eq (norm_le _) (by have:=XlV (s%65536+s/65536).toNat;omega) (by have:=XkH (s%65536+s/65536).toNat;omega)).symm
   rw [this]
 ·refine .inl ?_
  rw [XaM hs]
  have:=Xmn (n:=s.toNat) (by omega)
  simp only [this]
  rw [Int.toNat_of_nonneg a]
theorem Xr3 {l:List Int} (hl:l.length<2^40) (hr:∀ e∈l,0≤e∧e≤65535):Xez l=some ((norm l.sum.toNat:Nat):Int):=by
 unfold Xez Xju
 have key:=iter_eq (step:=fun (st:Int×Int)=>XgU l st.1 st.2) (fun st=>((norm (st.1+(l.drop st.2.toNat).sum).toNat:Nat):Int)) (fun st=>0≤st.1∧0≤st.2∧st.2≤l.length∧st.1≤st.2*65535) (fun st=>(l.length - st.2).toNat) ?_ FUEL (0,0) ⟨by simp,by simp,by simp,by simp⟩ (by rw [XeT];simp only;omega)
 ·rw [key];simp
 rintro ⟨n,p⟩ ⟨g1,g2,g3,g4⟩
 simp only at g1 g2 g3 g4 ⊢
 obtain ⟨i,rfl⟩:=Int.eq_ofNat_of_zero_le g2
 simp only [Int.toNat_natCast]
 unfold XgU
 by_cases hi:i<l.length
 ·have hx:=hr l[i] (List.getElem_mem hi)
  refine .inr ⟨(n+l[i],((i+1:Nat):Int)),?_,⟨by simp only;omega,by simp only;omega,by simp only;omega,by simp only;omega⟩,by simp only;omega,?_⟩
  ·simp (disch:=omega) only [XaV,Xaz,Int.toNat_natCast,List.getElem?_eq_getElem,Option.bind_some,XcC];rfl
  ·simp only [Int.toNat_natCast]
   rw [List.drop_eq_getElem_cons hi,List.sum_cons,Int.add_assoc]
 ·refine .inl ?_
  rw [XaM (by omega),XpN g1 (by omega),List.drop_eq_nil_of_le (by omega)]
  simp
theorem XjH {s:List UInt8} (h:s.length<2^39):Xbf s=some ((norm (Xgz s):Nat):Int):=by
 unfold Xbf Xjx
 rw [Xpd h,Option.bind_some,Xr3 (by rw [Xm4];omega) (XnA s),Xnt];rfl
def XpI (s:List UInt8) (p k n:Int):List UInt8:=if 1≤k∧k≤8∧0≤p∧p+k≤s.length then s.take p.toNat++be n.toNat k.toNat++s.drop (p+k).toNat else s
theorem Xzx {s:List UInt8} {p k n:Int} (hs:s.length<2^40) (hn:0≤n):Xbn s p k n=some (XpI s p k n):=by
 unfold Xbn Xg1 XpI
 rw [XbZ hn,Option.bind_some]
 unfold XcG
 by_cases hk:1≤k∧k≤8
 ·rw [if_pos hk]
  have e:(be n.toNat k.toNat==[])=false:=by
   rw [beq_eq_false_iff_ne];intro h;have:=congrArg List.length h;simp at this;omega
  rw [e,cond_false]
  by_cases h1:p<0
  ·rw [XaV h1,if_neg (by omega)]
  rw [XaM h1,XcC (n:=(s.length:Int) - k) (by omega) (by omega)]
  by_cases h2:(s.length:Int) - k<p
  ·simp only []
   rw [XaV h2,if_neg (by omega)]
  simp only []
  have e1:(p+k).toNat=p.toNat+k.toNat:=by omega
  have e2:((s.drop (p+k).toNat).take (s.length - (p+k).toNat))=s.drop (p+k).toNat:=List.take_of_length_le (by simp)
  rw [XaM h2,Xaz (by omega),XcC (n:=p+k) (by omega) (by omega),e2,Xaz (by simp;omega),Xaz (by omega),Xaz (by simp;omega),if_pos (by omega)]
 ·rw [if_neg hk,if_neg (by omega)];rfl
theorem Xnm {s:List UInt8} {p k n:Int} (hs:s.length<2^40) (hn:0≤n) (hn2:n<2^64):Xb1 s p k n=some (XpI s p k n):=by
 unfold Xb1 Xjj XpI
 rw [Xig (by omega),Option.bind_some]
 unfold XsN
 by_cases hc:1≤k∧k≤8∧0≤p∧p+k≤s.length
 ·rw [if_pos hc,if_pos hc]
  have e2:((s.drop (p+k).toNat).take (s.length - (p+k).toNat))=s.drop (p+k).toNat:=List.take_of_length_le (by simp)
  simp only [Bool.not_true,cond_false]
  rw [Xdr hn hn2,Option.bind_some,Xaz (by omega),XcC (n:=p+k) (by omega) (by omega),e2]
  unfold XcG
  rw [if_pos (by omega),Xaz (by simp;omega),Xaz (by omega),Xaz (by simp;omega)]
 ·rw [if_neg hc,if_neg hc];rfl
theorem X49 {s:List UInt8} (h:s.length<2^39):XbF s=some (65535 - ((norm (Xgz s):Nat):Int)):=by
 unfold XbF Xia
 have:=norm_le (Xgz s)
 rw [XAM s (by omega),Option.bind_some,XcC (by omega) (by omega)]
theorem Xo8 {s:List UInt8} (h:s.length<2^39):Xc1 s=some (65535 - ((norm (Xgz s):Nat):Int)):=by
 unfold Xc1 Xk9
 have:=norm_le (Xgz s)
 rw [XjH h,Option.bind_some,XcC (by omega) (by omega)]
theorem XnI {s:List UInt8} (h:s.length<2^39):XaB s=some (((norm (Xgz s):Nat):Int)==65535):=by
 unfold XaB Xfc
 rw [XAM s (by omega),Option.bind_some]
end Go.Vm.Code
namespace Go.Vm.Code
open Go Go.Vm Go.Proofs
set_option maxRecDepth 100000
set_option maxHeartbeats 4000000
set_option linter.unusedVariables false
def Xfb (a:Xaa):Option Bool:=
 cond (a.V6)
  (
  some (true))
  (
  cond (a.Hi==0)
   (
   some (decide (a.Lo<4294967296)))
   (
   some (false)))
def XxP (x:Bool):Xco:=⟨.bool x,[],[]⟩
def r113 (g:Xaa→Option Bool):Dec:=dV Xa7 fun (y0:Xaa)=>Xc5 (ofG (g y0) XxP)
theorem XVq {g:Xaa→Option Bool} {y0:Xaa} {x:Bool} (hx:g y0=some x):r113 g [.agg ⟨[.bool y0.V6,.int .u64 y0.Hi,.int .u64 y0.Lo]⟩] []=some (XxP x):=(XaS (XaY _)).trans (XaZ hx)
def XLx (g:Xaa→Option Bool):Xbp:=⟨[.v],r113 g⟩
theorem Xot {g:Xaa→Option Bool} {y0:Xaa} {x:Bool} (hx:g y0=some x):(XLx g).run [.agg ⟨[.bool y0.V6,.int .u64 y0.Hi,.int .u64 y0.Lo]⟩] []=some (XxP x):=XVq hx
abbrev XuQ:List (Nat×Xbp):=[]
theorem XwB (hS:Xai Tryz.prog (Xar (XuQ))) (a:Xaa) (res:Bool) (h:Xfb a=some res) :
 XaD Tryz.prog 113 0 ⟨⟨113,15,[(0,.agg ⟨[.bool a.V6,.int .u64 a.Hi,.int .u64 a.Lo]⟩)],[.code XAr],[],false,none⟩,[],[],0⟩ (fun v H _=>Res 0 (XxP res) v H):=by
 unfold Xfb at h
 refine Xa9 Xam hS true 3000 ?_
 conv=>whnf
 refine br.h h ?_ ?_ ?_
 ·rfl
 ·clear h;intro hb h;conv=>whnf
  all_goals (cases h;exact Res.z rfl rfl rfl)
 clear h;intro hb h;conv=>whnf
 refine br.h h ?_ ?_ ?_
 ·rfl
 ·clear h;intro hb h;conv=>whnf
  all_goals (cases h;exact Res.z rfl rfl rfl)
 clear h;intro hb h;conv=>whnf
 all_goals (cases h;exact Res.z rfl rfl rfl)
theorem ok113 (hS:Xai Tryz.prog (Xar (XuQ))):Xan Tryz.prog 113 (XLx (Xfb)):=by
 refine Xan.Xau Xam (fun ar os r ha hr=>?_) ⟨Tryz.f113,rfl,by decide,rfl⟩
 replace hr:r113 (Xfb) ar (XaA os)=some r:=hr
 unfold r113 at hr
 generalize hc:XaA os=C at hr
 replace hr:=dV.elim hr;obtain ⟨v0,l1,y0,rfl,e0,hr⟩:=hr;obtain rfl:=XaN _ _ e0
 replace hr:=Xdg hr;obtain ⟨rfl,rfl,x,h,rfl⟩:=hr
 obtain rfl:=Xao hc
 exact ⟨_,rfl,XwB hS _ x h⟩
def XaL:Xaa→Option Bool:=Xfb
theorem Xp3:Xan Tryz.prog 113 (XLx XaL):=ok113 (Xai.XaW trivial)
def Xhl (XaL:Xaa→Option Bool) (Xaq:Int→Int→Option (List UInt8)) (a:Xaa):Option (List UInt8):=
 (XaL a).bind fun xr=>
 cond (!xr)
  (
  some ([]))
  (
  cond (a.V6)
   (
   (Xaq a.Hi 8).bind fun p=>
   (Xaq a.Lo 8).bind fun p1=>
   XaK (decide (p.length+p1.length<2^63)) <|
   some (p++p1))
   (
   (Xaq a.Lo 4).bind fun p2=>
   some (p2)))
def rx80 (x:List UInt8):Xco:=⟨.string ⟨⟨x⟩⟩,[],[]⟩
def r80 (g:Xaa→Option (List UInt8)):Dec:=dV Xa7 fun (y0:Xaa)=>Xc5 (ofG (g y0) rx80)
theorem r80_c {g:Xaa→Option (List UInt8)} {y0:Xaa} {x:List UInt8} (hx:g y0=some x):r80 g [.agg ⟨[.bool y0.V6,.int .u64 y0.Hi,.int .u64 y0.Lo]⟩] []=some (rx80 x):=(XaS (XaY _)).trans (XaZ hx)
def s80 (g:Xaa→Option (List UInt8)):Xbp:=⟨[.v],r80 g⟩
theorem XlL {g:Xaa→Option (List UInt8)} {y0:Xaa} {x:List UInt8} (hx:g y0=some x):(s80 g).run [.agg ⟨[.bool y0.V6,.int .u64 y0.Hi,.int .u64 y0.Lo]⟩] []=some (rx80 x):=r80_c hx
abbrev XBz (XaL:Xaa→Option Bool) (Xaq:Int→Int→Option (List UInt8)):List (Nat×Xbp):=[(113,XLx XaL),(42,s42 Xaq)]
theorem XJl (XaL:Xaa→Option Bool) (Xaq:Int→Int→Option (List UInt8)) (hS:Xai Tryz.prog (Xar (XBz XaL Xaq))) (a:Xaa) (res:List UInt8) (h:Xhl XaL Xaq a=some res) :
 XaD Tryz.prog 80 0 ⟨⟨80,20,[(0,.agg ⟨[.bool a.V6,.int .u64 a.Hi,.int .u64 a.Lo]⟩)],[.code XBP],[],false,none⟩,[],[],0⟩ (fun v H _=>Res 0 (rx80 res) v H):=by
 unfold Xhl at h
 refine Xa9 Xam hS true 3000 ?_
 conv=>whnf
 replace h:=Xak.elim h;obtain ⟨xr,hy,h⟩:=h
 refine XaH.q rfl rfl (Xot hy) rfl rfl rfl ?_
 conv=>whnf
 refine br.h h ?_ ?_ ?_
 ·rfl
 ·clear h;intro hb h;conv=>whnf
  all_goals (cases h;exact Res.z rfl rfl rfl)
 clear h;intro hb h;conv=>whnf
 refine br.h2 h ?_ ?_ ?_
 ·rfl
 ·clear h;intro hb h;conv=>whnf
  replace h:=Xak.elim h;obtain ⟨p2,hy,h⟩:=h
  refine XaH.q rfl rfl (XjX hy) rfl rfl rfl ?_
  conv=>whnf
  all_goals (cases h;exact Res.z rfl rfl rfl)
 clear h;intro hb h;conv=>whnf
 replace h:=Xak.elim h;obtain ⟨p,hy,h⟩:=h
 refine XaH.q rfl rfl (XjX hy) rfl rfl rfl ?_
 conv=>whnf
 replace h:=Xak.elim h;obtain ⟨p1,hy,h⟩:=h
 refine XaH.q rfl rfl (XjX hy) rfl rfl rfl ?_
 conv=>whnf
 replace h:=XaK.elim h;obtain ⟨hb,h⟩:=h
 first|(refine req.intro hb ?_;conv=>whnf)|skip
 all_goals (cases h;exact Res.z rfl rfl rfl)
theorem ok80 (XaL:Xaa→Option Bool) (Xaq:Int→Int→Option (List UInt8)) (hS:Xai Tryz.prog (Xar (XBz XaL Xaq))):Xan Tryz.prog 80 (s80 (Xhl XaL Xaq)):=by
 refine Xan.Xau Xam (fun ar os r ha hr=>?_) ⟨Tryz.f80,rfl,by decide,rfl⟩
 replace hr:r80 (Xhl XaL Xaq) ar (XaA os)=some r:=hr
 unfold r80 at hr
 generalize hc:XaA os=C at hr
 replace hr:=dV.elim hr;obtain ⟨v0,l1,y0,rfl,e0,hr⟩:=hr;obtain rfl:=XaN _ _ e0
 replace hr:=Xdg hr;obtain ⟨rfl,rfl,x,h,rfl⟩:=hr
 obtain rfl:=Xao hc
 exact ⟨_,rfl,XJl XaL Xaq hS _ x h⟩
def Xa3:Xaa→Option (List UInt8):=Xhl XaL Xaq
theorem Xuq:Xan Tryz.prog 80 (s80 Xa3):=ok80 XaL Xaq (Xai.XaW ⟨Xp3,Xps,trivial⟩)
def Xge (a:Xaa):Option Bool:=
 cond (a.V6)
  (
  some (true))
  (
  cond (a.Hi==0)
   (
   some (decide (a.Lo<4294967296)))
   (
   some (false)))
def rx97 (x:Bool):Xco:=⟨.bool x,[],[]⟩
def r97 (g:Xaa→Option Bool):Dec:=dV Xa7 fun (y0:Xaa)=>Xc5 (ofG (g y0) rx97)
theorem r97_c {g:Xaa→Option Bool} {y0:Xaa} {x:Bool} (hx:g y0=some x):r97 g [.agg ⟨[.bool y0.V6,.int .u64 y0.Hi,.int .u64 y0.Lo]⟩] []=some (rx97 x):=(XaS (XaY _)).trans (XaZ hx)
def s97 (g:Xaa→Option Bool):Xbp:=⟨[.v],r97 g⟩
theorem XrL {g:Xaa→Option Bool} {y0:Xaa} {x:Bool} (hx:g y0=some x):(s97 g).run [.agg ⟨[.bool y0.V6,.int .u64 y0.Hi,.int .u64 y0.Lo]⟩] []=some (rx97 x):=r97_c hx
abbrev XzN:List (Nat×Xbp):=[]
theorem XF6 (hS:Xai Tryz.prog (Xar (XzN))) (a:Xaa) (res:Bool) (h:Xge a=some res) :
 XaD Tryz.prog 97 0 ⟨⟨97,15,[(0,.agg ⟨[.bool a.V6,.int .u64 a.Hi,.int .u64 a.Lo]⟩)],[.code XMA],[],false,none⟩,[],[],0⟩ (fun v H _=>Res 0 (rx97 res) v H):=by
 unfold Xge at h
 refine Xa9 Xam hS true 3000 ?_
 conv=>whnf
 refine br.h h ?_ ?_ ?_
 ·rfl
 ·clear h;intro hb h;conv=>whnf
  all_goals (cases h;exact Res.z rfl rfl rfl)
 clear h;intro hb h;conv=>whnf
 refine br.h h ?_ ?_ ?_
 ·rfl
 ·clear h;intro hb h;conv=>whnf
  all_goals (cases h;exact Res.z rfl rfl rfl)
 clear h;intro hb h;conv=>whnf
 all_goals (cases h;exact Res.z rfl rfl rfl)
theorem ok97 (hS:Xai Tryz.prog (Xar (XzN))):Xan Tryz.prog 97 (s97 (Xge)):=by
 refine Xan.Xau Xam (fun ar os r ha hr=>?_) ⟨Tryz.f97,rfl,by decide,rfl⟩
 replace hr:r97 (Xge) ar (XaA os)=some r:=hr
 unfold r97 at hr
 generalize hc:XaA os=C at hr
 replace hr:=dV.elim hr;obtain ⟨v0,l1,y0,rfl,e0,hr⟩:=hr;obtain rfl:=XaN _ _ e0
 replace hr:=Xdg hr;obtain ⟨rfl,rfl,x,h,rfl⟩:=hr
 obtain rfl:=Xao hc
 exact ⟨_,rfl,XF6 hS _ x h⟩
def Xa0:Xaa→Option Bool:=Xge
theorem Xs9:Xan Tryz.prog 97 (s97 Xa0):=ok97 (Xai.XaW trivial)
def XiJ (XaU:Int→Int→Option (List UInt8)) (Xa0:Xaa→Option Bool) (a:Xaa):Option (List UInt8):=
 (Xa0 a).bind fun xr=>
 cond (!xr)
  (
  some ([]))
  (
  cond (a.V6)
   (
   (XaU a.Hi 8).bind fun p=>
   (XaU a.Lo 8).bind fun p1=>
   XaK (decide (p.length+p1.length<2^63)) <|
   some (p++p1))
   (
   (XaU a.Lo 4).bind fun p2=>
   some (p2)))
def rx92 (x:List UInt8):Xco:=⟨.string ⟨⟨x⟩⟩,[],[]⟩
def r92 (g:Xaa→Option (List UInt8)):Dec:=dV Xa7 fun (y0:Xaa)=>Xc5 (ofG (g y0) rx92)
theorem r92_c {g:Xaa→Option (List UInt8)} {y0:Xaa} {x:List UInt8} (hx:g y0=some x):r92 g [.agg ⟨[.bool y0.V6,.int .u64 y0.Hi,.int .u64 y0.Lo]⟩] []=some (rx92 x):=(XaS (XaY _)).trans (XaZ hx)
def s92 (g:Xaa→Option (List UInt8)):Xbp:=⟨[.v],r92 g⟩
theorem Xj0 {g:Xaa→Option (List UInt8)} {y0:Xaa} {x:List UInt8} (hx:g y0=some x):(s92 g).run [.agg ⟨[.bool y0.V6,.int .u64 y0.Hi,.int .u64 y0.Lo]⟩] []=some (rx92 x):=r92_c hx
abbrev XB0 (XaU:Int→Int→Option (List UInt8)) (Xa0:Xaa→Option Bool):List (Nat×Xbp):=[(85,s85 XaU),(97,s97 Xa0)]
theorem XDV (XaU:Int→Int→Option (List UInt8)) (Xa0:Xaa→Option Bool) (hS:Xai Tryz.prog (Xar (XB0 XaU Xa0))) (a:Xaa) (res:List UInt8) (h:XiJ XaU Xa0 a=some res) :
 XaD Tryz.prog 92 0 ⟨⟨92,18,[(0,.agg ⟨[.bool a.V6,.int .u64 a.Hi,.int .u64 a.Lo]⟩)],[.code XAt],[],false,none⟩,[],[],0⟩ (fun v H _=>Res 0 (rx92 res) v H):=by
 unfold XiJ at h
 refine Xa9 Xam hS true 3000 ?_
 conv=>whnf
 replace h:=Xak.elim h;obtain ⟨xr,hy,h⟩:=h
 refine XaH.q rfl rfl (XrL hy) rfl rfl rfl ?_
 conv=>whnf
 refine br.h h ?_ ?_ ?_
 ·rfl
 ·clear h;intro hb h;conv=>whnf
  all_goals (cases h;exact Res.z rfl rfl rfl)
 clear h;intro hb h;conv=>whnf
 refine br.h2 h ?_ ?_ ?_
 ·rfl
 ·clear h;intro hb h;conv=>whnf
  replace h:=Xak.elim h;obtain ⟨p2,hy,h⟩:=h
  refine XaH.q rfl rfl (Xkz hy) rfl rfl rfl ?_
  conv=>whnf
  all_goals (cases h;exact Res.z rfl rfl rfl)
 clear h;intro hb h;conv=>whnf
 replace h:=Xak.elim h;obtain ⟨p,hy,h⟩:=h
 refine XaH.q rfl rfl (Xkz hy) rfl rfl rfl ?_
 conv=>whnf
 replace h:=Xak.elim h;obtain ⟨p1,hy,h⟩:=h
 refine XaH.q rfl rfl (Xkz hy) rfl rfl rfl ?_
 conv=>whnf
 replace h:=XaK.elim h;obtain ⟨hb,h⟩:=h
 first|(refine req.intro hb ?_;conv=>whnf)|skip
 all_goals (cases h;exact Res.z rfl rfl rfl)
theorem ok92 (XaU:Int→Int→Option (List UInt8)) (Xa0:Xaa→Option Bool) (hS:Xai Tryz.prog (Xar (XB0 XaU Xa0))):Xan Tryz.prog 92 (s92 (XiJ XaU Xa0)):=by
 refine Xan.Xau Xam (fun ar os r ha hr=>?_) ⟨Tryz.f92,rfl,by decide,rfl⟩
 replace hr:r92 (XiJ XaU Xa0) ar (XaA os)=some r:=hr
 unfold r92 at hr
 generalize hc:XaA os=C at hr
 replace hr:=dV.elim hr;obtain ⟨v0,l1,y0,rfl,e0,hr⟩:=hr;obtain rfl:=XaN _ _ e0
 replace hr:=Xdg hr;obtain ⟨rfl,rfl,x,h,rfl⟩:=hr
 obtain rfl:=Xao hc
 exact ⟨_,rfl,XDV XaU Xa0 hS _ x h⟩
def Xbl:Xaa→Option (List UInt8):=XiJ XaU Xa0
theorem Xvf:Xan Tryz.prog 92 (s92 Xbl):=ok92 XaU Xa0 (Xai.XaW ⟨Xpw,Xs9,trivial⟩)
def Xb0 (Xaq:Int→Int→Option (List UInt8)) (l:List Int) (i:Int) (c:List Int):Option (Sum (Int×(List Int)) (List UInt8)):=
 let t:=decide ((wI .i64 (i+1))<(l.length:Int))
 cond (t)
  (
  XaK (decide ((0:Int)≤i∧i<(l.length:Int))) <|
  (l[i.toNat]?).bind fun (e2:Int)=>
  XaK (decide ((0:Int)≤(wI .i64 (i+1))∧(wI .i64 (i+1))<(l.length:Int))) <|
  (l[(wI .i64 (i+1)).toNat]?).bind fun (e3:Int)=>
  (Xaq (wI .u64 e2) e3).bind fun p1=>
  XaK (decide ((c.length+p1.length)*1≤2^47)) <|
  let row:=c++(bI p1)
  some (.inl (wI .i64 (i+2),row)))
  (
  XaK (decide (c.length<2^63)) <|
  some (.inr (iB c)))
def Xfa (Xaq:Int→Int→Option (List UInt8)) (l:List Int):Option (List UInt8):=
 cond (decide (1<(l.length:Int)))
  (
  XaK (decide ((0:Int)≤(0:Int)∧(0:Int)<(l.length:Int))) <|
  (l[0]?).bind fun (e:Int)=>
  XaK (decide ((0:Int)≤(1:Int)∧(1:Int)<(l.length:Int))) <|
  (l[1]?).bind fun (e1:Int)=>
  (Xaq (wI .u64 e) e1).bind fun p=>
  XaK (decide (p.length*1≤2^47)) <|
  iter (fun st=>Xb0 Xaq l st.1 st.2) FUEL (2,bI p))
  (
  some ([]))
def XLk (x:List UInt8):Xco:=⟨.string ⟨⟨x⟩⟩,[],[none]⟩
def r82 (g:(List Int)→Option (List UInt8)):Dec:=dSl 0 1 (unL (asI .i64)) fun (y0:List Int)=>Xc5 (ofG (g y0) XLk)
theorem r82_c {g:(List Int)→Option (List UInt8)} {y0:List Int} {x:List UInt8} (hx:g y0=some x):r82 g [.slice (some ⟨0,0,none⟩) y0.length 1] [some (vI .i64 y0)]=some (XLk x):=(Xro (XqV _ _)).trans (XaZ hx)
def s82 (g:(List Int)→Option (List UInt8)):Xbp:=⟨[.sl 1],r82 g⟩
theorem Xri {g:(List Int)→Option (List UInt8)} {y0:List Int} {x:List UInt8} (hx:g y0=some x):(s82 g).run [.slice (some ⟨0,0,none⟩) y0.length 1] [some (vI .i64 y0)]=some (XLk x):=r82_c hx
abbrev Xui (Xaq:Int→Int→Option (List UInt8)):List (Nat×Xbp):=[(42,s42 Xaq)]
def XkQ (l:List Int) (i:Int) (c:List Int):VM:=
 ⟨⟨82, 25, [(0, .slice (some ⟨0, 0, none⟩) l.length 1), (3, .pointer (some ⟨1, 0, none⟩)), (4, .int .i64 i)], [.code XtC, .inLoop XtC, .inBlock 0, .code XzI], [], false, none⟩, [], [(0, .row false (vI .i64 l)), (1, .ty 184 [.pointer (some ⟨1, 0, none⟩), .func (.method "") ⟨[.slice (some ⟨12, 0, none⟩) c.length 1]⟩ ⟨[]⟩]), (12, .ty 5 (vI .u8 c))], 13⟩
theorem Xxu (Xaq:Int→Int→Option (List UInt8)) (hS:Xai Tryz.prog (Xar (Xui Xaq))) (l:List Int) (res:List UInt8):∀ fuel (st:Int×(List Int)) (o:List UInt8),iter (fun st=>Xb0 Xaq l st.1 st.2) fuel st=some o→(o=res) →
 XaD Tryz.prog 82 1 (XkQ l st.1 st.2) (fun v H _=>Res 1 (XLk res) v H):=by
 intro fuel st o h hc
 refine Xch (head:=fun st=>XkQ l st.1 st.2) (C:=fun o=>(o=res)) ?_ fuel st o h hc
 clear h hc o st fuel
 intro st o h hc
 obtain ⟨i,c⟩:=st
 replace h:Xb0 Xaq l i c=some o:=h
 show XaD Tryz.prog 82 1 (XkQ l i c) (fun v H _=>Res 1 (XLk res) v H)
 unfold Xb0 at h
 refine Xa9 Xam hS true 3000 ?_
 conv=>whnf
 let t:Bool:=decide ((wI .i64 (i+1))<(l.length:Int))
 refine br.h2 h ?_ ?_ ?_
 ·rfl
 ·clear h;intro hb h;conv=>whnf
  replace h:=XaK.elim h;obtain ⟨hb,h⟩:=h
  refine req.intro (XMV rfl (by first|rfl|(simp;done)) (by first|rfl|omega|(simp;done)|(simp;omega)|(simp at *;omega)) (of_decide_eq_true hb)) ?_
  conv=>whnf
  refine pk_us ?_
  conv=>whnf
  all_goals (cases h;cases hc)
  all_goals exact Res.of [] rfl XeY (by decide) XeZ (XkV XeX)
 clear h;intro hb h;conv=>whnf
 replace h:=XaK.elim h;obtain ⟨hb,h⟩:=h
 first|(refine req.intro hb ?_;conv=>whnf)|skip
 replace h:=Xak.elim h;obtain ⟨e2,hy,h⟩:=h
 refine rd.I hy (by first|rfl|(rw [Nat.zero_add,Nat.mul_one];try rfl;done)|omega) ?_
 conv=>whnf
 replace h:=XaK.elim h;obtain ⟨hb,h⟩:=h
 first|(refine req.intro hb ?_;conv=>whnf)|skip
 replace h:=Xak.elim h;obtain ⟨e3,hy,h⟩:=h
 refine rd.I hy (by first|rfl|(rw [Nat.zero_add,Nat.mul_one];try rfl;done)|omega) ?_
 conv=>whnf
 replace h:=Xak.elim h;obtain ⟨p1,hy,h⟩:=h
 refine XaH.q rfl rfl (XjX hy) rfl rfl rfl ?_
 conv=>whnf
 replace h:=XaK.elim h;obtain ⟨hb,h⟩:=h
 refine req.intro (XJJ (of_decide_eq_true hb) (by first|rfl|omega|(simp;done)|(simp;omega)|(simp at *;omega)) rfl rfl (by first|rfl|omega|(simp;done)|(simp;omega)|(simp at *;omega)) (by first|rfl|exact Xh8 _ _|exact XkT _|exact Xku _|exact XlM (by first|exact Xdv|exact Xda|exact XcN|exact Xcm|exact XcB|exact Xcl|exact XcT|exact XdG|exact Xd0|exact XdB|exact Xdb|exact Xck|exact XdD|exact Xb3|exact Xa8|exact Xdz|exact XdY) _|(rw [Xf7];exact Xh8 _ _)|(simp [Xh8,XkT,Xku,Xlj,Xll,Xof,Xn6];done)|(simp;exact List.all_eq_true.1 (XlM (by first|exact Xdv|exact Xda|exact XcN|exact Xcm|exact XcB|exact Xcl|exact XcT|exact XdG|exact Xd0|exact XdB|exact Xdb|exact Xck|exact XdD|exact Xb3|exact Xa8|exact Xdz|exact XdY) _))) rfl) ?_
 conv=>whnf
 let row:List Int:=c++(bI p1)
 refine XRO (xs:=c) (ys:=bI p1) (Xf7 _) (by first|rfl|omega|(simp;done)|(simp;omega)|(simp at *;omega)) (by first|rfl|omega|(simp;done)|(simp;omega)|(simp at *;omega)) ?_
 conv=>whnf
 cases h;simp only [Sum.elim_inl,XkQ] at hc
 exact Xkm hc [(0,0),(1,1),(12,23)] rfl
theorem XFg (Xaq:Int→Int→Option (List UInt8)) (hS:Xai Tryz.prog (Xar (Xui Xaq))) (l:List Int) (res:List UInt8) (h:Xfa Xaq l=some res) :
 XaD Tryz.prog 82 1 ⟨⟨82,25,[(0,.slice (some ⟨0,0,none⟩) l.length 1)],[.code XzH],[],false,none⟩,[],[(0,.row false (vI .i64 l))],1⟩ (fun v H _=>Res 1 (XLk res) v H):=by
 unfold Xfa at h
 refine Xa9 Xam hS true 3000 ?_
 conv=>whnf
 refine Xa9 Xam hS true 3000 ?_
 conv=>whnf
 refine br.h2 h ?_ ?_ ?_
 ·rfl
 ·clear h;intro hb h;conv=>whnf
  all_goals (cases h)
  all_goals exact Res.of [] rfl XeY (by decide) XeZ (XkV XeX)
 clear h;intro hb h;conv=>whnf
 replace h:=XaK.elim h;obtain ⟨hb,h⟩:=h
 first|(refine req.intro hb ?_;conv=>whnf)|skip
 replace h:=Xak.elim h;obtain ⟨e,hy,h⟩:=h
 refine rd.I hy (by first|rfl|(rw [Nat.zero_add,Nat.mul_one];try rfl;done)|omega) ?_
 conv=>whnf
 replace h:=XaK.elim h;obtain ⟨hb,h⟩:=h
 first|(refine req.intro hb ?_;conv=>whnf)|skip
 replace h:=Xak.elim h;obtain ⟨e1,hy,h⟩:=h
 refine rd.I hy (by first|rfl|(rw [Nat.zero_add,Nat.mul_one];try rfl;done)|omega) ?_
 conv=>whnf
 replace h:=Xak.elim h;obtain ⟨p,hy,h⟩:=h
 refine XaH.q rfl rfl (XjX hy) rfl rfl rfl ?_
 conv=>whnf
 replace h:=XaK.elim h;obtain ⟨hb,h⟩:=h
 refine req.intro (XwE (of_decide_eq_true hb) (by first|rfl|omega|(simp;done)|(simp;omega)|(simp at *;omega)) rfl rfl) ?_
 conv=>whnf
 refine XFu (ys:=bI p) (Xf7 _) (by first|rfl|omega|(simp;done)|(simp;omega)|(simp at *;omega)) ?_
 conv=>whnf
 have hl:=Xxu Xaq hS _ res _ _ _ h rfl;simp only [XkQ] at hl
 exact Xkm hl [(0,0),(1,1),(12,12)] rfl
theorem ok82 (Xaq:Int→Int→Option (List UInt8)) (hS:Xai Tryz.prog (Xar (Xui Xaq))):Xan Tryz.prog 82 (s82 (Xfa Xaq)):=by
 refine Xan.Xau Xam (fun ar os r ha hr=>?_) ⟨Tryz.f82,rfl,by decide,rfl⟩
 replace hr:r82 (Xfa Xaq) ar (XaA os)=some r:=hr
 unfold r82 at hr
 generalize hc:XaA os=C at hr
 have hq:=dSl.elim hr;clear hr;obtain ⟨c0,l1,C,y0,rfl,rfl,e0,hr⟩:=hq;obtain rfl:=Xrs e0
 replace hr:=Xdg hr;obtain ⟨rfl,rfl,x,h,rfl⟩:=hr
 obtain ⟨os,rfl,ha,hc⟩:=Xdu ha hc
 obtain rfl:=Xao hc
 exact ⟨_,rfl,XFg Xaq hS _ x h⟩
def Xa6:(List Int)→Option (List UInt8):=Xfa Xaq
theorem Xzm:Xan Tryz.prog 82 (s82 Xa6):=ok82 Xaq (Xai.XaW ⟨Xps,trivial⟩)
def Xed (Xa3:Xaa→Option (List UInt8)) (XaL:Xaa→Option Bool) (Xa6:(List Int)→Option (List UInt8)) (src:Xaa) (dst:Xaa) (proto:Int) (n:Int):Option (List UInt8):=
 (XaL src).bind fun xr=>
 cond (!xr)
  (
  some ([]))
  (
  (XaL dst).bind fun xr1=>
  cond (!xr1)
   (
   some ([]))
   (
   cond (!(src.V6==dst.V6))
    (
    some ([]))
    (
    (Xa3 src).bind fun p=>
    (Xa3 dst).bind fun p1=>
    XaK (decide (p.length+p1.length<2^63)) <|
    cond (src.V6)
     (
     (Xa6 [n,4,0,3,proto,1]).bind fun xr2=>
     XaK (decide ((p++p1).length+xr2.length<2^63)) <|
     some ((p++p1)++xr2))
     (
     (Xa6 [0,1,proto,1,n,2]).bind fun xr3=>
     XaK (decide ((p++p1).length+xr3.length<2^63)) <|
     some ((p++p1)++xr3)))))
def XyN (x:List UInt8):Xco:=⟨.string ⟨⟨x⟩⟩,[],[]⟩
def r109 (g:Xaa→Xaa→Int→Int→Option (List UInt8)):Dec:=dV Xa7 fun (y0:Xaa)=>dV Xa7 fun (y1:Xaa)=>dV (asI .i64) fun (y2:Int)=>dV (asI .i64) fun (y3:Int)=>Xc5 (ofG (g y0 y1 y2 y3) XyN)
theorem XOt {g:Xaa→Xaa→Int→Int→Option (List UInt8)} {y0:Xaa} {y1:Xaa} {y2:Int} {y3:Int} {x:List UInt8} (hx:g y0 y1 y2 y3=some x):r109 g [.agg ⟨[.bool y0.V6,.int .u64 y0.Hi,.int .u64 y0.Lo]⟩,.agg ⟨[.bool y1.V6,.int .u64 y1.Hi,.int .u64 y1.Lo]⟩,.int .i64 y2,.int .i64 y3] []=some (XyN x):=(XaS (XaY _)).trans ((XaS (XaY _)).trans ((XaS (XcI _)).trans ((XaS (XcI _)).trans (XaZ hx))))
def XLu (g:Xaa→Xaa→Int→Int→Option (List UInt8)):Xbp:=⟨[.v,.v,.v,.v],r109 g⟩
theorem Xqx {g:Xaa→Xaa→Int→Int→Option (List UInt8)} {y0:Xaa} {y1:Xaa} {y2:Int} {y3:Int} {x:List UInt8} (hx:g y0 y1 y2 y3=some x):(XLu g).run [.agg ⟨[.bool y0.V6,.int .u64 y0.Hi,.int .u64 y0.Lo]⟩,.agg ⟨[.bool y1.V6,.int .u64 y1.Hi,.int .u64 y1.Lo]⟩,.int .i64 y2,.int .i64 y3] []=some (XyN x):=XOt hx
abbrev XuK (Xa3:Xaa→Option (List UInt8)) (XaL:Xaa→Option Bool) (Xa6:(List Int)→Option (List UInt8)):List (Nat×Xbp):=[(80,s80 Xa3),(113,XLx XaL),(82,s82 Xa6)]
theorem XyZ (Xa3:Xaa→Option (List UInt8)) (XaL:Xaa→Option Bool) (Xa6:(List Int)→Option (List UInt8)) (hS:Xai Tryz.prog (Xar (XuK Xa3 XaL Xa6))) (src:Xaa) (dst:Xaa) (proto:Int) (n:Int) (res:List UInt8) (h:Xed Xa3 XaL Xa6 src dst proto n=some res) :
 XaD Tryz.prog 109 0 ⟨⟨109,44,[(0,.agg ⟨[.bool src.V6,.int .u64 src.Hi,.int .u64 src.Lo]⟩),(1,.agg ⟨[.bool dst.V6,.int .u64 dst.Hi,.int .u64 dst.Lo]⟩),(2,.int .i64 proto),(3,.int .i64 n)],[.code Xum],[],false,none⟩,[],[],0⟩ (fun v H _=>Res 0 (XyN res) v H):=by
 unfold Xed at h
 refine Xa9 Xam hS true 3000 ?_
 conv=>whnf
 replace h:=Xak.elim h;obtain ⟨xr,hy,h⟩:=h
 refine XaH.q rfl rfl (Xot hy) rfl rfl rfl ?_
 conv=>whnf
 refine br.h h ?_ ?_ ?_
 ·rfl
 ·clear h;intro hb h;conv=>whnf
  all_goals (cases h;exact Res.z rfl rfl rfl)
 clear h;intro hb h;conv=>whnf
 replace h:=Xak.elim h;obtain ⟨xr1,hy,h⟩:=h
 refine XaH.q rfl rfl (Xot hy) rfl rfl rfl ?_
 conv=>whnf
 refine br.h h ?_ ?_ ?_
 ·rfl
 ·clear h;intro hb h;conv=>whnf
  all_goals (cases h;exact Res.z rfl rfl rfl)
 clear h;intro hb h;conv=>whnf
 refine br.h h ?_ ?_ ?_
 ·rfl
 ·clear h;intro hb h;conv=>whnf
  all_goals (cases h;exact Res.z rfl rfl rfl)
 clear h;intro hb h;conv=>whnf
 replace h:=Xak.elim h;obtain ⟨p,hy,h⟩:=h
 refine XaH.q rfl rfl (XlL hy) rfl rfl rfl ?_
 conv=>whnf
 replace h:=Xak.elim h;obtain ⟨p1,hy,h⟩:=h
 refine XaH.q rfl rfl (XlL hy) rfl rfl rfl ?_
 conv=>whnf
 replace h:=XaK.elim h;obtain ⟨hb,h⟩:=h
 first|(refine req.intro hb ?_;conv=>whnf)|skip
 refine br.h h ?_ ?_ ?_
 ·rfl
 ·clear h;intro hb h;conv=>whnf
  replace h:=Xak.elim h;obtain ⟨xr2,hy,h⟩:=h
  refine XaH.Xbb [] (Xat («as»:=[.slice (some ⟨0,0,none⟩) ([n,4,0,3,proto,1]:List Int).length 1]) (ws:=[.win 5 0 (6*1) false]) (n:=0) (m:=0) (t':=6) (Xas (by first|rfl|exact Xhj rfl rfl (by first|rfl|omega) (by first|rfl|(simp;done))|exact XiN rfl rfl (by first|rfl|omega) (by first|rfl|omega) (by first|omega|(simp at *;omega))) rfl Xbd) rfl (by rfl) (Xri hy) rfl rfl rfl rfl (XgE rfl Xbc) Xba rfl) ?_
  conv=>whnf
  replace h:=XaK.elim h;obtain ⟨hb,h⟩:=h
  first|(refine req.intro hb ?_;conv=>whnf)|skip
  all_goals (cases h;exact Res.z rfl rfl rfl)
 clear h;intro hb h;conv=>whnf
 replace h:=Xak.elim h;obtain ⟨xr3,hy,h⟩:=h
 refine XaH.Xbb [] (Xat («as»:=[.slice (some ⟨0,0,none⟩) ([0,1,proto,1,n,2]:List Int).length 1]) (ws:=[.win 5 0 (6*1) false]) (n:=0) (m:=0) (t':=6) (Xas (by first|rfl|exact Xhj rfl rfl (by first|rfl|omega) (by first|rfl|(simp;done))|exact XiN rfl rfl (by first|rfl|omega) (by first|rfl|omega) (by first|omega|(simp at *;omega))) rfl Xbd) rfl (by rfl) (Xri hy) rfl rfl rfl rfl (XgE rfl Xbc) Xba rfl) ?_
 conv=>whnf
 replace h:=XaK.elim h;obtain ⟨hb,h⟩:=h
 first|(refine req.intro hb ?_;conv=>whnf)|skip
 all_goals (cases h;exact Res.z rfl rfl rfl)
theorem ok109 (Xa3:Xaa→Option (List UInt8)) (XaL:Xaa→Option Bool) (Xa6:(List Int)→Option (List UInt8)) (hS:Xai Tryz.prog (Xar (XuK Xa3 XaL Xa6))):Xan Tryz.prog 109 (XLu (Xed Xa3 XaL Xa6)):=by
 refine Xan.Xau Xam (fun ar os r ha hr=>?_) ⟨Tryz.f109,rfl,by decide,rfl⟩
 replace hr:r109 (Xed Xa3 XaL Xa6) ar (XaA os)=some r:=hr
 unfold r109 at hr
 generalize hc:XaA os=C at hr
 replace hr:=dV.elim hr;obtain ⟨v0,l1,y0,rfl,e0,hr⟩:=hr;obtain rfl:=XaN _ _ e0
 replace hr:=dV.elim hr;obtain ⟨v1,l2,y1,rfl,e1,hr⟩:=hr;obtain rfl:=XaN _ _ e1
 replace hr:=dV.elim hr;obtain ⟨v2,l3,y2,rfl,e2,hr⟩:=hr;obtain rfl:=XbP _ _ _ e2
 replace hr:=dV.elim hr;obtain ⟨v3,l4,y3,rfl,e3,hr⟩:=hr;obtain rfl:=XbP _ _ _ e3
 replace hr:=Xdg hr;obtain ⟨rfl,rfl,x,h,rfl⟩:=hr
 obtain rfl:=Xao hc
 exact ⟨_,rfl,XyZ Xa3 XaL Xa6 hS _ _ _ _ x h⟩
def Xav:Xaa→Xaa→Int→Int→Option (List UInt8):=Xed Xa3 XaL Xa6
theorem Xp5:Xan Tryz.prog 109 (XLu Xav):=ok109 Xa3 XaL Xa6 (Xai.XaW ⟨Xuq,Xp3,Xzm,trivial⟩)
def XiA (XaU:Int→Int→Option (List UInt8)) (n:Int) (k:Int):Option (List UInt8):=
 (XaU (wI .u64 n) k).bind fun p=>
 some (p)
def rx94 (x:List UInt8):Xco:=⟨.string ⟨⟨x⟩⟩,[],[]⟩
def r94 (g:Int→Int→Option (List UInt8)):Dec:=dV (asI .i64) fun (y0:Int)=>dV (asI .i64) fun (y1:Int)=>Xc5 (ofG (g y0 y1) rx94)
theorem r94_c {g:Int→Int→Option (List UInt8)} {y0:Int} {y1:Int} {x:List UInt8} (hx:g y0 y1=some x):r94 g [.int .i64 y0,.int .i64 y1] []=some (rx94 x):=(XaS (XcI _)).trans ((XaS (XcI _)).trans (XaZ hx))
def s94 (g:Int→Int→Option (List UInt8)):Xbp:=⟨[.v,.v],r94 g⟩
theorem Xel {g:Int→Int→Option (List UInt8)} {y0:Int} {y1:Int} {x:List UInt8} (hx:g y0 y1=some x):(s94 g).run [.int .i64 y0,.int .i64 y1] []=some (rx94 x):=r94_c hx
abbrev XBQ (XaU:Int→Int→Option (List UInt8)):List (Nat×Xbp):=[(85,s85 XaU)]
theorem XGW (XaU:Int→Int→Option (List UInt8)) (hS:Xai Tryz.prog (Xar (XBQ XaU))) (n:Int) (k:Int) (res:List UInt8) (h:XiA XaU n k=some res) :
 XaD Tryz.prog 94 0 ⟨⟨94,9,[(0,.int .i64 n),(1,.int .i64 k)],[.code XVm],[],false,none⟩,[],[],0⟩ (fun v H _=>Res 0 (rx94 res) v H):=by
 unfold XiA at h
 refine Xa9 Xam hS true 3000 ?_
 conv=>whnf
 replace h:=Xak.elim h;obtain ⟨p,hy,h⟩:=h
 refine XaH.q rfl rfl (Xkz hy) rfl rfl rfl ?_
 conv=>whnf
 all_goals (cases h;exact Res.z rfl rfl rfl)
theorem ok94 (XaU:Int→Int→Option (List UInt8)) (hS:Xai Tryz.prog (Xar (XBQ XaU))):Xan Tryz.prog 94 (s94 (XiA XaU)):=by
 refine Xan.Xau Xam (fun ar os r ha hr=>?_) ⟨Tryz.f94,rfl,by decide,rfl⟩
 replace hr:r94 (XiA XaU) ar (XaA os)=some r:=hr
 unfold r94 at hr
 generalize hc:XaA os=C at hr
 replace hr:=dV.elim hr;obtain ⟨v0,l1,y0,rfl,e0,hr⟩:=hr;obtain rfl:=XbP _ _ _ e0
 replace hr:=dV.elim hr;obtain ⟨v1,l2,y1,rfl,e1,hr⟩:=hr;obtain rfl:=XbP _ _ _ e1
 replace hr:=Xdg hr;obtain ⟨rfl,rfl,x,h,rfl⟩:=hr
 obtain rfl:=Xao hc
 exact ⟨_,rfl,XGW XaU hS _ _ x h⟩
def Xbj:Int→Int→Option (List UInt8):=XiA XaU
theorem XzS:Xan Tryz.prog 94 (s94 Xbj):=ok94 XaU (Xai.XaW ⟨Xpw,trivial⟩)
def Xf8 (Xbl:Xaa→Option (List UInt8)) (Xa0:Xaa→Option Bool) (Xbj:Int→Int→Option (List UInt8)) (src:Xaa) (dst:Xaa) (proto:Int) (n:Int):Option (List UInt8):=
 (Xa0 src).bind fun xr=>
 cond (!xr)
  (
  some ([]))
  (
  (Xa0 dst).bind fun xr1=>
  cond (!xr1)
   (
   some ([]))
   (
   cond (!(src.V6==dst.V6))
    (
    some ([]))
    (
    cond (src.V6)
     (
     (Xbl src).bind fun p=>
     (Xbl dst).bind fun p1=>
     XaK (decide (p.length+p1.length<2^63)) <|
     (Xbj n 4).bind fun n1=>
     XaK (decide ((p++p1).length+n1.length<2^63)) <|
     (Xbj 0 3).bind fun n2=>
     XaK (decide (((p++p1)++n1).length+n2.length<2^63)) <|
     (Xbj proto 1).bind fun n3=>
     XaK (decide ((((p++p1)++n1)++n2).length+n3.length<2^63)) <|
     some ((((p++p1)++n1)++n2)++n3))
     (
     (Xbl src).bind fun p2=>
     (Xbl dst).bind fun p3=>
     XaK (decide (p2.length+p3.length<2^63)) <|
     (Xbj 0 1).bind fun n4=>
     XaK (decide ((p2++p3).length+n4.length<2^63)) <|
     (Xbj proto 1).bind fun n5=>
     XaK (decide (((p2++p3)++n4).length+n5.length<2^63)) <|
     (Xbj n 2).bind fun n6=>
     XaK (decide ((((p2++p3)++n4)++n5).length+n6.length<2^63)) <|
     some ((((p2++p3)++n4)++n5)++n6)))))
def rx95 (x:List UInt8):Xco:=⟨.string ⟨⟨x⟩⟩,[],[]⟩
def r95 (g:Xaa→Xaa→Int→Int→Option (List UInt8)):Dec:=dV Xa7 fun (y0:Xaa)=>dV Xa7 fun (y1:Xaa)=>dV (asI .i64) fun (y2:Int)=>dV (asI .i64) fun (y3:Int)=>Xc5 (ofG (g y0 y1 y2 y3) rx95)
theorem r95_c {g:Xaa→Xaa→Int→Int→Option (List UInt8)} {y0:Xaa} {y1:Xaa} {y2:Int} {y3:Int} {x:List UInt8} (hx:g y0 y1 y2 y3=some x):r95 g [.agg ⟨[.bool y0.V6,.int .u64 y0.Hi,.int .u64 y0.Lo]⟩,.agg ⟨[.bool y1.V6,.int .u64 y1.Hi,.int .u64 y1.Lo]⟩,.int .i64 y2,.int .i64 y3] []=some (rx95 x):=(XaS (XaY _)).trans ((XaS (XaY _)).trans ((XaS (XcI _)).trans ((XaS (XcI _)).trans (XaZ hx))))
def s95 (g:Xaa→Xaa→Int→Int→Option (List UInt8)):Xbp:=⟨[.v,.v,.v,.v],r95 g⟩
theorem Xrm {g:Xaa→Xaa→Int→Int→Option (List UInt8)} {y0:Xaa} {y1:Xaa} {y2:Int} {y3:Int} {x:List UInt8} (hx:g y0 y1 y2 y3=some x):(s95 g).run [.agg ⟨[.bool y0.V6,.int .u64 y0.Hi,.int .u64 y0.Lo]⟩,.agg ⟨[.bool y1.V6,.int .u64 y1.Hi,.int .u64 y1.Lo]⟩,.int .i64 y2,.int .i64 y3] []=some (rx95 x):=r95_c hx
abbrev XAT (Xbl:Xaa→Option (List UInt8)) (Xa0:Xaa→Option Bool) (Xbj:Int→Int→Option (List UInt8)):List (Nat×Xbp):=[(92,s92 Xbl),(97,s97 Xa0),(94,s94 Xbj)]
theorem XDg (Xbl:Xaa→Option (List UInt8)) (Xa0:Xaa→Option Bool) (Xbj:Int→Int→Option (List UInt8)) (hS:Xai Tryz.prog (Xar (XAT Xbl Xa0 Xbj))) (src:Xaa) (dst:Xaa) (proto:Int) (n:Int) (res:List UInt8) (h:Xf8 Xbl Xa0 Xbj src dst proto n=some res) :
 XaD Tryz.prog 95 0 ⟨⟨95,52,[(0,.agg ⟨[.bool src.V6,.int .u64 src.Hi,.int .u64 src.Lo]⟩),(1,.agg ⟨[.bool dst.V6,.int .u64 dst.Hi,.int .u64 dst.Lo]⟩),(2,.int .i64 proto),(3,.int .i64 n)],[.code XzY],[],false,none⟩,[],[],0⟩ (fun v H _=>Res 0 (rx95 res) v H):=by
 unfold Xf8 at h
 refine Xa9 Xam hS true 3000 ?_
 conv=>whnf
 replace h:=Xak.elim h;obtain ⟨xr,hy,h⟩:=h
 refine XaH.q rfl rfl (XrL hy) rfl rfl rfl ?_
 conv=>whnf
 refine br.h h ?_ ?_ ?_
 ·rfl
 ·clear h;intro hb h;conv=>whnf
  all_goals (cases h;exact Res.z rfl rfl rfl)
 clear h;intro hb h;conv=>whnf
 replace h:=Xak.elim h;obtain ⟨xr1,hy,h⟩:=h
 refine XaH.q rfl rfl (XrL hy) rfl rfl rfl ?_
 conv=>whnf
 refine br.h h ?_ ?_ ?_
 ·rfl
 ·clear h;intro hb h;conv=>whnf
  all_goals (cases h;exact Res.z rfl rfl rfl)
 clear h;intro hb h;conv=>whnf
 refine br.h h ?_ ?_ ?_
 ·rfl
 ·clear h;intro hb h;conv=>whnf
  all_goals (cases h;exact Res.z rfl rfl rfl)
 clear h;intro hb h;conv=>whnf
 refine br.h h ?_ ?_ ?_
 ·rfl
 ·clear h;intro hb h;conv=>whnf
  replace h:=Xak.elim h;obtain ⟨p,hy,h⟩:=h
  refine XaH.q rfl rfl (Xj0 hy) rfl rfl rfl ?_
  conv=>whnf
  replace h:=Xak.elim h;obtain ⟨p1,hy,h⟩:=h
  refine XaH.q rfl rfl (Xj0 hy) rfl rfl rfl ?_
  conv=>whnf
  replace h:=XaK.elim h;obtain ⟨hb,h⟩:=h
  first|(refine req.intro hb ?_;conv=>whnf)|skip
  replace h:=Xak.elim h;obtain ⟨n1,hy,h⟩:=h
  refine XaH.q rfl rfl (Xel hy) rfl rfl rfl ?_
  conv=>whnf
  replace h:=XaK.elim h;obtain ⟨hb,h⟩:=h
  first|(refine req.intro hb ?_;conv=>whnf)|skip
  replace h:=Xak.elim h;obtain ⟨n2,hy,h⟩:=h
  refine XaH.q rfl rfl (Xel hy) rfl rfl rfl ?_
  conv=>whnf
  replace h:=XaK.elim h;obtain ⟨hb,h⟩:=h
  first|(refine req.intro hb ?_;conv=>whnf)|skip
  replace h:=Xak.elim h;obtain ⟨n3,hy,h⟩:=h
  refine XaH.q rfl rfl (Xel hy) rfl rfl rfl ?_
  conv=>whnf
  replace h:=XaK.elim h;obtain ⟨hb,h⟩:=h
  first|(refine req.intro hb ?_;conv=>whnf)|skip
  all_goals (cases h;exact Res.z rfl rfl rfl)
 clear h;intro hb h;conv=>whnf
 replace h:=Xak.elim h;obtain ⟨p2,hy,h⟩:=h
 refine XaH.q rfl rfl (Xj0 hy) rfl rfl rfl ?_
 conv=>whnf
 replace h:=Xak.elim h;obtain ⟨p3,hy,h⟩:=h
 refine XaH.q rfl rfl (Xj0 hy) rfl rfl rfl ?_
 conv=>whnf
 replace h:=XaK.elim h;obtain ⟨hb,h⟩:=h
 first|(refine req.intro hb ?_;conv=>whnf)|skip
 replace h:=Xak.elim h;obtain ⟨n4,hy,h⟩:=h
 refine XaH.q rfl rfl (Xel hy) rfl rfl rfl ?_
 conv=>whnf
 replace h:=XaK.elim h;obtain ⟨hb,h⟩:=h
 first|(refine req.intro hb ?_;conv=>whnf)|skip
 replace h:=Xak.elim h;obtain ⟨n5,hy,h⟩:=h
 refine XaH.q rfl rfl (Xel hy) rfl rfl rfl ?_
 conv=>whnf
 replace h:=XaK.elim h;obtain ⟨hb,h⟩:=h
 first|(refine req.intro hb ?_;conv=>whnf)|skip
 replace h:=Xak.elim h;obtain ⟨n6,hy,h⟩:=h
 refine XaH.q rfl rfl (Xel hy) rfl rfl rfl ?_
 conv=>whnf
 replace h:=XaK.elim h;obtain ⟨hb,h⟩:=h
 first|(refine req.intro hb ?_;conv=>whnf)|skip
 all_goals (cases h;exact Res.z rfl rfl rfl)
theorem ok95 (Xbl:Xaa→Option (List UInt8)) (Xa0:Xaa→Option Bool) (Xbj:Int→Int→Option (List UInt8)) (hS:Xai Tryz.prog (Xar (XAT Xbl Xa0 Xbj))):Xan Tryz.prog 95 (s95 (Xf8 Xbl Xa0 Xbj)):=by
 refine Xan.Xau Xam (fun ar os r ha hr=>?_) ⟨Tryz.f95,rfl,by decide,rfl⟩
 replace hr:r95 (Xf8 Xbl Xa0 Xbj) ar (XaA os)=some r:=hr
 unfold r95 at hr
 generalize hc:XaA os=C at hr
 replace hr:=dV.elim hr;obtain ⟨v0,l1,y0,rfl,e0,hr⟩:=hr;obtain rfl:=XaN _ _ e0
 replace hr:=dV.elim hr;obtain ⟨v1,l2,y1,rfl,e1,hr⟩:=hr;obtain rfl:=XaN _ _ e1
 replace hr:=dV.elim hr;obtain ⟨v2,l3,y2,rfl,e2,hr⟩:=hr;obtain rfl:=XbP _ _ _ e2
 replace hr:=dV.elim hr;obtain ⟨v3,l4,y3,rfl,e3,hr⟩:=hr;obtain rfl:=XbP _ _ _ e3
 replace hr:=Xdg hr;obtain ⟨rfl,rfl,x,h,rfl⟩:=hr
 obtain rfl:=Xao hc
 exact ⟨_,rfl,XDg Xbl Xa0 Xbj hS _ _ _ _ x h⟩
def Xax:Xaa→Xaa→Int→Int→Option (List UInt8):=Xf8 Xbl Xa0 Xbj
theorem Xq6:Xan Tryz.prog 95 (s95 Xax):=ok95 Xbl Xa0 Xbj (Xai.XaW ⟨Xvf,Xs9,XzS,trivial⟩)
end Go.Vm.Code
namespace Go.Vm.Code
open Go Go.Vm
def A4 (a:Xaa):Prop:=0≤a.Hi∧a.Hi<2^64∧0≤a.Lo∧a.Lo<2^64
def aok (a:Xaa):Bool:=a.V6||(a.Hi==0&&decide (a.Lo<4294967296))
theorem Xkv (a:Xaa):XaL a=some (aok a):=by
 unfold XaL Xfb aok
 cases a.V6
 ·cases (a.Hi==0)<;>rfl
 ·rfl
theorem Xjn (a:Xaa):Xa0 a=some (aok a):=by
 unfold Xa0 Xge aok
 cases a.V6
 ·cases (a.Hi==0)<;>rfl
 ·rfl
def Xci (a:Xaa):List UInt8:=cond a.V6 (be a.Hi.toNat 8++be a.Lo.toNat 8) (be a.Lo.toNat 4)
theorem Xdf (a:Xaa):(Xci a).length=cond a.V6 16 4:=by unfold Xci;cases a.V6<;>simp
theorem Xhk {n:Int} {k:Nat} (h:1≤k∧k≤8):XcG n (k:Int)=be n.toNat k:=by unfold XcG;rw [if_pos (by omega)];rfl
theorem Xou {a:Xaa} (h:A4 a) (hr:aok a=true):Xa3 a=some (Xci a):=by
 obtain ⟨h1,h2,h3,h4⟩:=h
 unfold Xa3 Xhl Xci
 rw [Xkv,Option.bind_some,hr]
 simp only [Bool.not_true,cond_false]
 cases a.V6
 ·simp only [cond_false]
  rw [XbZ h3,Option.bind_some,show (4:Int)=((4:Nat):Int) from rfl,Xhk (by omega)]
 ·simp only [cond_true]
  rw [XbZ h1,Option.bind_some,XbZ h3,Option.bind_some,show (8:Int)=((8:Nat):Int) from rfl,Xhk (by omega),Xhk (by omega),Xaz (by simp)]
theorem XlT {a:Xaa} (h:A4 a) (hr:aok a=true):Xbl a=some (Xci a):=by
 obtain ⟨h1,h2,h3,h4⟩:=h
 unfold Xbl XiJ Xci
 rw [Xjn,Option.bind_some,hr]
 simp only [Bool.not_true,cond_false]
 cases a.V6
 ·simp only [cond_false]
  rw [Xdr h3 h4,Option.bind_some,show (4:Int)=((4:Nat):Int) from rfl,Xhk (by omega)]
 ·simp only [cond_true]
  rw [Xdr h1 h2,Option.bind_some,Xdr h3 h4,Option.bind_some,show (8:Int)=((8:Nat):Int) from rfl,Xhk (by omega),Xhk (by omega),Xaz (by simp)]
theorem XmQ {n k:Int} (h0:0≤n) (h1:n<2^63):Xbj n k=some (XcG n k):=by
 unfold Xbj XiA
 rw [XhB h0 (by omega),Xdr h0 (by omega)];rfl
theorem Xbw (n k:Int):(XcG n k).length≤8:=by unfold XcG;split<;>simp<;>omega
theorem XF2 (s:List UInt8):iB (bI s)=s:=by simp [iB,bI,List.map_map,Function.comp_def]
theorem XL9 (a b:List Int):iB (a++b)=iB a++iB b:=by simp [iB]
theorem XB3 (a b:List UInt8):bI (a++b)=bI a++bI b:=by simp [bI]
theorem XqL {σ ρ:Type} {f:σ→Option (Sum σ ρ)} {n:Nat} {s s':σ} (h:f s=some (.inl s')):iter f (n+1) s=iter f n s':=by rw [iter,h]
theorem Xws {σ ρ:Type} {f:σ→Option (Sum σ ρ)} {n:Nat} {s:σ} {r:ρ} (h:f s=some (.inr r)):iter f (n+1) s=some r:=by rw [iter,h]
theorem Xvl:∃ n,FUEL=n+8:=⟨18446744073709551608,rfl⟩
theorem XAu {a b c d e f:Int} (ha:0≤a) (hc:0≤c) (he:0≤e) (ha1:a<2^63) (hc1:c<2^63) (he1:e<2^63):Xa6 [a,b,c,d,e,f]=some (XcG a b++XcG c d++XcG e f):=by
 have l1:=Xbw a b
 have l2:=Xbw c d
 have l3:=Xbw e f
 unfold Xa6 Xfa
 rw [XaV (by simp),Xaz (by simp)]
 show ((some a).bind _)=_
 rw [Option.bind_some,Xaz (by simp)]
 show ((some b).bind _)=_
 rw [Option.bind_some,XhB ha (by omega),XbZ ha,Option.bind_some,Xaz (by omega)]
 obtain ⟨n,hn⟩:=Xvl
 rw [hn]
 have s1:Xb0 Xaq [a,b,c,d,e,f] 2 (bI (XcG a b))=some (.inl (4,bI (XcG a b++XcG c d))):=by
  unfold Xb0
  simp only []
  rw [XaV (by rw [show wI .i64 (2+1)=3 from rfl];simp),Xaz (by simp)]
  show ((some c).bind _)=_
  rw [Option.bind_some,Xaz (by rw [show wI .i64 (2+1)=3 from rfl];simp)]
  show ((some d).bind _)=_
  rw [Option.bind_some,XhB hc (by omega),XbZ hc,Option.bind_some,Xaz (by simp;omega),XB3];rfl
 have s2:Xb0 Xaq [a,b,c,d,e,f] 4 (bI (XcG a b++XcG c d))=some (.inl (6,bI (XcG a b++XcG c d++XcG e f))):=by
  unfold Xb0
  simp only []
  rw [XaV (by rw [show wI .i64 (4+1)=5 from rfl];simp),Xaz (by simp)]
  show ((some e).bind _)=_
  rw [Option.bind_some,Xaz (by rw [show wI .i64 (4+1)=5 from rfl];simp)]
  show ((some f).bind _)=_
  rw [Option.bind_some,XhB he (by omega),XbZ he,Option.bind_some,Xaz (by simp;omega),XB3 (XcG a b++XcG c d)];rfl
 have s3:Xb0 Xaq [a,b,c,d,e,f] 6 (bI (XcG a b++XcG c d++XcG e f))=some (.inr (XcG a b++XcG c d++XcG e f)):=by
  unfold Xb0
  simp only []
  rw [XaM (by rw [show wI .i64 (6+1)=7 from rfl];simp),Xaz (by simp;omega),XF2]
 rw [XqL (f:=fun (st:Int×List Int)=>Xb0 Xaq [a,b,c,d,e,f] st.1 st.2) (n:=n+7) s1,XqL (n:=n+6) s2,Xws (n:=n+5) s3]
def Xnn (src dst:Xaa) (p n:Int):List UInt8:=
 if aok src=true∧aok dst=true∧src.V6=dst.V6 then Xci src++Xci dst++cond src.V6 (XcG n 4++XcG 0 3++XcG p 1) (XcG 0 1++XcG p 1++XcG n 2) else []
theorem XkG (src dst:Xaa) (p n:Int):(Xnn src dst p n).length≤56:=by
 have l1:=Xbw n 4
 have l2:=Xbw 0 3
 have l3:=Xbw p 1
 have l4:=Xbw 0 1
 have l5:=Xbw n 2
 unfold Xnn
 split
 ·rw [List.length_append,List.length_append,Xdf,Xdf]
  cases src.V6<;>cases dst.V6<;>simp<;>omega
 ·simp
theorem XmK {src dst:Xaa} {p n:Int} (h1:A4 src) (h2:A4 dst) (hp:0≤p∧p<2^63) (hn:0≤n∧n<2^63):Xav src dst p n=some (Xnn src dst p n):=by
 unfold Xav Xed Xnn
 rw [Xkv,Xkv,Option.bind_some]
 cases e1:aok src
 ·simp
 simp only [Bool.not_true,cond_false,Option.bind_some]
 cases e2:aok dst
 ·simp
 simp only [Bool.not_true,cond_false]
 by_cases e3:src.V6=dst.V6
 ·rw [if_pos (by simpa using e3),show (src.V6==dst.V6)=true by simpa using e3]
  simp only [Bool.not_true,cond_false]
  have l1:=Xdf src
  have l2:=Xdf dst
  rw [Xou h1 e1,Option.bind_some,Xou h2 e2,Option.bind_some,Xaz (by rw [l1,l2];cases src.V6<;>cases dst.V6<;>decide)]
  rw [XAu hn.1 (by omega) hp.1 hn.2 (by omega) hp.2,XAu (by omega) hp.1 hn.1 (by omega) hp.2 hn.2]
  have m1:=Xbw n 4
  have m2:=Xbw 0 3
  have m3:=Xbw p 1
  have m4:=Xbw 0 1
  have m5:=Xbw n 2
  have b1:(Xci src).length≤16:=by rw [l1];cases src.V6<;>decide
  have b2:(Xci dst).length≤16:=by rw [l2];cases dst.V6<;>decide
  cases src.V6
  ·simp only [cond_false,Option.bind_some]
   rw [Xaz (by simp only [List.length_append];omega)]
  ·simp only [cond_true,Option.bind_some]
   rw [Xaz (by simp only [List.length_append];omega)]
 ·rw [if_neg (fun h=>e3 h.2.2),show (src.V6==dst.V6)=false by simpa using e3];rfl
theorem Xjv {src dst:Xaa} {p n:Int} (h1:A4 src) (h2:A4 dst) (hp:0≤p∧p<2^63) (hn:0≤n∧n<2^63):Xax src dst p n=some (Xnn src dst p n):=by
 unfold Xax Xf8 Xnn
 rw [Xjn,Xjn,Option.bind_some]
 cases e1:aok src
 ·simp
 simp only [Bool.not_true,cond_false,Option.bind_some]
 cases e2:aok dst
 ·simp
 simp only [Bool.not_true,cond_false]
 by_cases e3:src.V6=dst.V6
 ·rw [if_pos (by simpa using e3),show (src.V6==dst.V6)=true by simpa using e3]
  simp only [Bool.not_true,cond_false]
  have l1:=Xdf src
  have l2:=Xdf dst
  have m1:=Xbw n 4
  have m2:=Xbw 0 3
  have m3:=Xbw p 1
  have m4:=Xbw 0 1
  have m5:=Xbw n 2
  have b1:(Xci src).length≤16:=by rw [l1];cases src.V6<;>decide
  have b2:(Xci dst).length≤16:=by rw [l2];cases dst.V6<;>decide
  rw [XlT h1 e1,XlT h2 e2,XmQ hn.1 hn.2,XmQ (n:=0) (k:=3) (by omega) (by omega),XmQ hp.1 hp.2,XmQ (n:=0) (k:=1) (by omega) (by omega),XmQ hn.1 hn.2]
  cases src.V6
  ·simp only [cond_false,Option.bind_some]
   rw [Xaz (by omega),Xaz (by simp only [List.length_append];omega),Xaz (by simp only [List.length_append];omega),Xaz (by simp only [List.length_append];omega)]
   simp only [List.append_assoc]
  ·simp only [cond_true,Option.bind_some]
   rw [Xaz (by omega),Xaz (by simp only [List.length_append];omega),Xaz (by simp only [List.length_append];omega),Xaz (by simp only [List.length_append];omega)]
   simp only [List.append_assoc]
 ·rw [if_neg (fun h=>e3 h.2.2),show (src.V6==dst.V6)=false by simpa using e3];rfl
theorem Xl4 (n:Int):0≤wI .u64 n∧wI .u64 n<2^64:=by rw [wU64m];omega
def XJk:List Int→List UInt8
 | a::b::l=>XcG (wI .u64 a) b++XJk l
 | _=>[]
theorem XIz {l:List Int} (he:l.length%2=0) (h2:2≤l.length) (hl:l.length≤1000):Xa6 l=some (XJk l):=by
 unfold Xa6 Xfa
 obtain ⟨a,b,r,rfl⟩:∃ a b r,l=a::b::r:=by
  match l,h2 with
  | a::b::r,_=>exact ⟨a,b,r,rfl⟩
 have p0:=Xbw (wI .u64 a) b
 rw [XaV (by simp;omega),Xaz (by simp;omega)]
 show ((some a).bind _)=_
 rw [Option.bind_some,Xaz (by simp;omega)]
 show ((some b).bind _)=_
 rw [Option.bind_some,XbZ (Xl4 a).1,Option.bind_some,Xaz (by omega)]
 generalize hL:a::b::r=L at *
 have key:=iter_eq (step:=fun (st:Int×List Int)=>Xb0 Xaq L st.1 st.2) (fun st=>iB st.2++XJk (L.drop st.1.toNat)) (fun st=>0≤st.1∧st.1≤L.length∧st.1.toNat%2=0∧st.2.length≤8*st.1.toNat) (fun st=>(L.length - st.1).toNat) ?_ FUEL (2,bI (XcG (wI .u64 a) b)) ⟨by simp,by simp only;omega,by simp,by simp;omega⟩ (by rw [XeT];simp only;omega)
 ·rw [key]
  simp only [XF2]
  subst hL;rfl
 rintro ⟨p,c⟩ ⟨g1,g2,g3,g4⟩
 simp only at g1 g2 g3 g4 ⊢
 obtain ⟨i,rfl⟩:=Int.eq_ofNat_of_zero_le g1
 simp only [Int.toNat_natCast] at g3 g4 ⊢
 unfold Xb0
 simp only []
 rw [XcC (n:=(i:Int)+1) (by omega) (by omega)]
 by_cases hi:i<L.length
 ·have hi1:i+1<L.length:=by omega
  have pl:=Xbw (wI .u64 L[i]) L[i+1]
  refine .inr ⟨(((i+2:Nat):Int),c++bI (XcG (wI .u64 L[i]) L[i+1])),?_,⟨by simp only;omega,by simp only;omega,by simp only [Int.toNat_natCast];omega,by simp;omega⟩,by simp only;omega,?_⟩
  ·rw [XaV (by omega),Xaz (by omega),Int.toNat_natCast,List.getElem?_eq_getElem hi,Option.bind_some,Xaz (by omega),show ((i:Int)+1).toNat=i+1 by omega,List.getElem?_eq_getElem hi1,Option.bind_some,XbZ (Xl4 _).1,Option.bind_some,Xaz (by omega),XcC (by omega) (by omega)];rfl
  ·simp only [Int.toNat_natCast]
   rw [XL9,XF2,List.drop_eq_getElem_cons hi,List.drop_eq_getElem_cons hi1,XJk];simp
 ·refine .inl ?_
  rw [XaM (by omega),Xaz (by omega),List.drop_eq_nil_of_le (by omega)];simp [XJk]
theorem Xy6 (n k:Int):Xbj n k=some (XcG (wI .u64 n) k):=by
 unfold Xbj XiA
 rw [Xdr (Xl4 n).1 (Xl4 n).2];rfl
end Go.Vm.Code
namespace Go.Vm.Code
open Go Go.Vm Go.Proofs
set_option maxRecDepth 100000
set_option maxHeartbeats 4000000
set_option linter.unusedVariables false
def Xdd (ra0:Xab):Option (Bool×Xab):=
 cond (!ra0.made)
  (
  some ((true,ra0)))
  (
  some ((ra0.bad,ra0)))
def rx63 (x:Bool×Xab):Xco:=⟨.bool x.1,[],[some [.string ⟨⟨x.2.s⟩⟩,.bool x.2.made,.bool x.2.bad]]⟩
def r63 (g:Xab→Option (Bool×Xab)):Dec:=dPt 0 XcJ fun (y0:Xab)=>Xc5 (ofG (g y0) rx63)
theorem r63_c {g:Xab→Option (Bool×Xab)} {y0:Xab} {x:Bool×Xab} (hx:g y0=some x):r63 g [.pointer (some ⟨0,0,none⟩)] [some [.string ⟨⟨y0.s⟩⟩,.bool y0.made,.bool y0.bad]]=some (rx63 x):=(Xmd (Xd8 _)).trans (XaZ hx)
def s63 (g:Xab→Option (Bool×Xab)):Xbp:=⟨[.pt 3],r63 g⟩
theorem Xj3 {g:Xab→Option (Bool×Xab)} {y0:Xab} {x:Bool×Xab} (hx:g y0=some x):(s63 g).run [.pointer (some ⟨0,0,none⟩)] [some [.string ⟨⟨y0.s⟩⟩,.bool y0.made,.bool y0.bad]]=some (rx63 x):=r63_c hx
abbrev XBL:List (Nat×Xbp):=[]
theorem XHM (hS:Xai Tryz.prog (Xar (XBL))) (ra0:Xab) (res:Bool×Xab) (h:Xdd ra0=some res) :
 XaD Tryz.prog 63 1 ⟨⟨63,18,[(0,.pointer (some ⟨0,0,none⟩))],[.code XNV],[],false,none⟩,[],[(0,.cells [.string ⟨⟨ra0.s⟩⟩,.bool ra0.made,.bool ra0.bad])],1⟩ (fun v H _=>Res 1 (rx63 res) v H):=by
 unfold Xdd at h
 refine Xa9 Xam hS true 3000 ?_
 conv=>whnf
 refine br.h h ?_ ?_ ?_
 ·rfl
 ·clear h;intro hb h;conv=>whnf
  all_goals (cases h)
  all_goals exact Res.of [] rfl XeY (by decide) XeZ (XlZ (rfl) (Xcb rfl) XeX)
 clear h;intro hb h;conv=>whnf
 all_goals (cases h)
 all_goals exact Res.of [] rfl XeY (by decide) XeZ (XlZ (rfl) (Xcb rfl) XeX)
theorem ok63 (hS:Xai Tryz.prog (Xar (XBL))):Xan Tryz.prog 63 (s63 (Xdd)):=by
 refine Xan.Xau Xam (fun ar os r ha hr=>?_) ⟨Tryz.f63,rfl,by decide,rfl⟩
 replace hr:r63 (Xdd) ar (XaA os)=some r:=hr
 unfold r63 at hr
 generalize hc:XaA os=C at hr
 have hq:=dPt.elim hr;clear hr;obtain ⟨c0,l1,C,y0,rfl,rfl,e0,hr⟩:=hq;obtain rfl:=Xdh _ _ e0
 replace hr:=Xdg hr;obtain ⟨rfl,rfl,x,h,rfl⟩:=hr
 obtain ⟨os,rfl,ha,hc⟩:=Xdu ha hc
 obtain rfl:=Xao hc
 exact ⟨_,rfl,XHM hS _ x h⟩
def Xae:Xab→Option (Bool×Xab):=Xdd
theorem Xnu:Xan Tryz.prog 63 (s63 Xae):=ok63 (Xai.XaW trivial)
def Xc3 (Xae:Xab→Option (Bool×Xab)) (ra0:Xab) (n:Int):Option ((List UInt8)×Xab):=
 (Xae ra0).bind fun b=>
 cond (b.1)
  (
  some (([],b.2)))
  (
  cond (decide (n<0))
   (
   some (([],Xab.mk b.2.s b.2.made true)))
   (
   cond (decide (n>(b.2.s.length:Int)))
    (
    some (([],Xab.mk b.2.s b.2.made true)))
    (
    XaK (decide ((0:Int)≤n∧n≤(b.2.s.length:Int))) <|
    XaK (decide ((0:Int)≤n∧n≤(b.2.s.length:Int))) <|
    let t:=(b.2.s.drop n.toNat).take (b.2.s.length - n.toNat)
    some ((b.2.s.take n.toNat,Xab.mk t b.2.made b.2.bad)))))
def rx64 (x:(List UInt8)×Xab):Xco:=⟨.string ⟨⟨x.1⟩⟩,[],[some [.string ⟨⟨x.2.s⟩⟩,.bool x.2.made,.bool x.2.bad]]⟩
def r64 (g:Xab→Int→Option ((List UInt8)×Xab)):Dec:=dPt 0 XcJ fun (y0:Xab)=>dV (asI .i64) fun (y1:Int)=>Xc5 (ofG (g y0 y1) rx64)
theorem r64_c {g:Xab→Int→Option ((List UInt8)×Xab)} {y0:Xab} {y1:Int} {x:(List UInt8)×Xab} (hx:g y0 y1=some x):r64 g [.pointer (some ⟨0,0,none⟩),.int .i64 y1] [some [.string ⟨⟨y0.s⟩⟩,.bool y0.made,.bool y0.bad]]=some (rx64 x):=(Xmd (Xd8 _)).trans ((XaS (XcI _)).trans (XaZ hx))
def s64 (g:Xab→Int→Option ((List UInt8)×Xab)):Xbp:=⟨[.pt 3,.v],r64 g⟩
theorem XhD {g:Xab→Int→Option ((List UInt8)×Xab)} {y0:Xab} {y1:Int} {x:(List UInt8)×Xab} (hx:g y0 y1=some x):(s64 g).run [.pointer (some ⟨0,0,none⟩),.int .i64 y1] [some [.string ⟨⟨y0.s⟩⟩,.bool y0.made,.bool y0.bad]]=some (rx64 x):=r64_c hx
abbrev XAm (Xae:Xab→Option (Bool×Xab)):List (Nat×Xbp):=[(63,s63 Xae)]
theorem XFj (Xae:Xab→Option (Bool×Xab)) (hS:Xai Tryz.prog (Xar (XAm Xae))) (ra0:Xab) (n:Int) (res:(List UInt8)×Xab) (h:Xc3 Xae ra0 n=some res) :
 XaD Tryz.prog 64 1 ⟨⟨64,38,[(0,.pointer (some ⟨0,0,none⟩)),(1,.int .i64 n)],[.code XBe],[],false,none⟩,[],[(0,.cells [.string ⟨⟨ra0.s⟩⟩,.bool ra0.made,.bool ra0.bad])],1⟩ (fun v H _=>Res 1 (rx64 res) v H):=by
 unfold Xc3 at h
 refine Xa9 Xam hS true 3000 ?_
 conv=>whnf
 replace h:=Xak.elim h;obtain ⟨b,hy,h⟩:=h
 refine XaH.Xbb [0] (Xat («as»:=[.pointer (some ⟨0,0,none⟩)]) (ws:=[.win 0 0 3 true]) (n:=0) (m:=0) (t':=1) (Xas rfl rfl Xbd) rfl (by rfl) (Xj3 hy) rfl rfl rfl rfl (XbK rfl rfl rfl ⟨rfl,Nat.le_of_ble_eq_true rfl⟩ rfl rfl Xbc) Xba rfl) ?_
 conv=>whnf
 refine br.h h ?_ ?_ ?_
 ·rfl
 ·clear h;intro hb h;conv=>whnf
  all_goals (cases h)
  all_goals exact Res.of [] rfl XeY (by decide) XeZ (XlZ (rfl) (Xcb rfl) XeX)
 clear h;intro hb h;conv=>whnf
 refine br.h h ?_ ?_ ?_
 ·rfl
 ·clear h;intro hb h;conv=>whnf
  all_goals (cases h)
  all_goals exact Res.of [] rfl XeY (by decide) XeZ (XlZ (rfl) (Xcb rfl) XeX)
 clear h;intro hb h;conv=>whnf
 refine br.h h ?_ ?_ ?_
 ·rfl
 ·clear h;intro hb h;conv=>whnf
  all_goals (cases h)
  all_goals exact Res.of [] rfl XeY (by decide) XeZ (XlZ (rfl) (Xcb rfl) XeX)
 clear h;intro hb h;conv=>whnf
 replace h:=XaK.elim h;obtain ⟨hb,h⟩:=h
 first|(refine req.intro hb ?_;conv=>whnf)|skip
 replace h:=XaK.elim h;obtain ⟨hb,h⟩:=h
 first|(refine req.intro hb ?_;conv=>whnf)|skip
 let t:List UInt8:=(b.2.s.drop n.toNat).take (b.2.s.length - n.toNat)
 all_goals (cases h)
 all_goals exact Res.of [] rfl XeY (by decide) XeZ (XlZ (rfl) (Xcb rfl) XeX)
theorem ok64 (Xae:Xab→Option (Bool×Xab)) (hS:Xai Tryz.prog (Xar (XAm Xae))):Xan Tryz.prog 64 (s64 (Xc3 Xae)):=by
 refine Xan.Xau Xam (fun ar os r ha hr=>?_) ⟨Tryz.f64,rfl,by decide,rfl⟩
 replace hr:r64 (Xc3 Xae) ar (XaA os)=some r:=hr
 unfold r64 at hr
 generalize hc:XaA os=C at hr
 have hq:=dPt.elim hr;clear hr;obtain ⟨c0,l1,C,y0,rfl,rfl,e0,hr⟩:=hq;obtain rfl:=Xdh _ _ e0
 replace hr:=dV.elim hr;obtain ⟨v1,l2,y1,rfl,e1,hr⟩:=hr;obtain rfl:=XbP _ _ _ e1
 replace hr:=Xdg hr;obtain ⟨rfl,rfl,x,h,rfl⟩:=hr
 obtain ⟨os,rfl,ha,hc⟩:=Xdu ha hc
 obtain rfl:=Xao hc
 exact ⟨_,rfl,XFj Xae hS _ _ x h⟩
def Xac:Xab→Int→Option ((List UInt8)×Xab):=Xc3 Xae
theorem XlG:Xan Tryz.prog 64 (s64 Xac):=ok64 Xae (Xai.XaW ⟨Xnu,trivial⟩)
def Xdi (XaG:(List UInt8)→Int→Int→Option (Int×Bool)) (Xac:Xab→Int→Option ((List UInt8)×Xab)) (ra0:Xab) (k:Int):Option (Int×Xab):=
 cond (decide (k<1))
  (
  (Xac ra0 (-1)).bind fun t=>
  (XaG t.1 0 (-1)).bind fun xg=>
  some ((wI .i64 xg.1,t.2)))
  (
  cond (decide (k>7))
   (
   (Xac ra0 (-1)).bind fun t1=>
   (XaG t1.1 0 (-1)).bind fun xg1=>
   some ((wI .i64 xg1.1,t1.2)))
   (
   (Xac ra0 k).bind fun t2=>
   (XaG t2.1 0 k).bind fun xg2=>
   some ((wI .i64 xg2.1,t2.2))))
def rx62 (x:Int×Xab):Xco:=⟨.int .i64 x.1,[],[some [.string ⟨⟨x.2.s⟩⟩,.bool x.2.made,.bool x.2.bad]]⟩
def r62 (g:Xab→Int→Option (Int×Xab)):Dec:=dPt 0 XcJ fun (y0:Xab)=>dV (asI .i64) fun (y1:Int)=>Xc5 (ofG (g y0 y1) rx62)
theorem r62_c {g:Xab→Int→Option (Int×Xab)} {y0:Xab} {y1:Int} {x:Int×Xab} (hx:g y0 y1=some x):r62 g [.pointer (some ⟨0,0,none⟩),.int .i64 y1] [some [.string ⟨⟨y0.s⟩⟩,.bool y0.made,.bool y0.bad]]=some (rx62 x):=(Xmd (Xd8 _)).trans ((XaS (XcI _)).trans (XaZ hx))
def s62 (g:Xab→Int→Option (Int×Xab)):Xbp:=⟨[.pt 3,.v],r62 g⟩
theorem XdQ {g:Xab→Int→Option (Int×Xab)} {y0:Xab} {y1:Int} {x:Int×Xab} (hx:g y0 y1=some x):(s62 g).run [.pointer (some ⟨0,0,none⟩),.int .i64 y1] [some [.string ⟨⟨y0.s⟩⟩,.bool y0.made,.bool y0.bad]]=some (rx62 x):=r62_c hx
abbrev XA1 (XaG:(List UInt8)→Int→Int→Option (Int×Bool)) (Xac:Xab→Int→Option ((List UInt8)×Xab)):List (Nat×Xbp):=[(40,s40 XaG),(64,s64 Xac)]
theorem XH4 (XaG:(List UInt8)→Int→Int→Option (Int×Bool)) (Xac:Xab→Int→Option ((List UInt8)×Xab)) (hS:Xai Tryz.prog (Xar (XA1 XaG Xac))) (ra0:Xab) (k:Int) (res:Int×Xab) (h:Xdi XaG Xac ra0 k=some res) :
 XaD Tryz.prog 62 1 ⟨⟨62,23,[(0,.pointer (some ⟨0,0,none⟩)),(1,.int .i64 k)],[.code XBG],[],false,none⟩,[],[(0,.cells [.string ⟨⟨ra0.s⟩⟩,.bool ra0.made,.bool ra0.bad])],1⟩ (fun v H _=>Res 1 (rx62 res) v H):=by
 unfold Xdi at h
 refine Xa9 Xam hS true 3000 ?_
 conv=>whnf
 refine br.h h ?_ ?_ ?_
 ·rfl
 ·clear h;intro hb h;conv=>whnf
  replace h:=Xak.elim h;obtain ⟨t,hy,h⟩:=h
  refine XaH.Xbb [0] (Xat («as»:=[.pointer (some ⟨0,0,none⟩),.int .i64 (-1)]) (ws:=[.win 0 0 3 true]) (n:=0) (m:=0) (t':=1) (Xas rfl rfl (Xas rfl rfl Xbd)) rfl (by rfl) (XhD hy) rfl rfl rfl rfl (XbK rfl rfl rfl ⟨rfl,Nat.le_of_ble_eq_true rfl⟩ rfl rfl Xbc) Xba rfl) ?_
  conv=>whnf
  replace h:=Xak.elim h;obtain ⟨xg,hy,h⟩:=h
  refine XaH.q rfl rfl (XmO hy) rfl rfl rfl ?_
  conv=>whnf
  all_goals (cases h)
  all_goals exact Res.of [] rfl XeY (by decide) XeZ (XlZ (rfl) (Xcb rfl) XeX)
 clear h;intro hb h;conv=>whnf
 refine br.h h ?_ ?_ ?_
 ·rfl
 ·clear h;intro hb h;conv=>whnf
  replace h:=Xak.elim h;obtain ⟨t1,hy,h⟩:=h
  refine XaH.Xbb [0] (Xat («as»:=[.pointer (some ⟨0,0,none⟩),.int .i64 (-1)]) (ws:=[.win 0 0 3 true]) (n:=0) (m:=0) (t':=1) (Xas rfl rfl (Xas rfl rfl Xbd)) rfl (by rfl) (XhD hy) rfl rfl rfl rfl (XbK rfl rfl rfl ⟨rfl,Nat.le_of_ble_eq_true rfl⟩ rfl rfl Xbc) Xba rfl) ?_
  conv=>whnf
  replace h:=Xak.elim h;obtain ⟨xg1,hy,h⟩:=h
  refine XaH.q rfl rfl (XmO hy) rfl rfl rfl ?_
  conv=>whnf
  all_goals (cases h)
  all_goals exact Res.of [] rfl XeY (by decide) XeZ (XlZ (rfl) (Xcb rfl) XeX)
 clear h;intro hb h;conv=>whnf
 replace h:=Xak.elim h;obtain ⟨t2,hy,h⟩:=h
 refine XaH.Xbb [0] (Xat («as»:=[.pointer (some ⟨0,0,none⟩),.int .i64 k]) (ws:=[.win 0 0 3 true]) (n:=0) (m:=0) (t':=1) (Xas rfl rfl (Xas rfl rfl Xbd)) rfl (by rfl) (XhD hy) rfl rfl rfl rfl (XbK rfl rfl rfl ⟨rfl,Nat.le_of_ble_eq_true rfl⟩ rfl rfl Xbc) Xba rfl) ?_
 conv=>whnf
 replace h:=Xak.elim h;obtain ⟨xg2,hy,h⟩:=h
 refine XaH.q rfl rfl (XmO hy) rfl rfl rfl ?_
 conv=>whnf
 all_goals (cases h)
 all_goals exact Res.of [] rfl XeY (by decide) XeZ (XlZ (rfl) (Xcb rfl) XeX)
theorem ok62 (XaG:(List UInt8)→Int→Int→Option (Int×Bool)) (Xac:Xab→Int→Option ((List UInt8)×Xab)) (hS:Xai Tryz.prog (Xar (XA1 XaG Xac))):Xan Tryz.prog 62 (s62 (Xdi XaG Xac)):=by
 refine Xan.Xau Xam (fun ar os r ha hr=>?_) ⟨Tryz.f62,rfl,by decide,rfl⟩
 replace hr:r62 (Xdi XaG Xac) ar (XaA os)=some r:=hr
 unfold r62 at hr
 generalize hc:XaA os=C at hr
 have hq:=dPt.elim hr;clear hr;obtain ⟨c0,l1,C,y0,rfl,rfl,e0,hr⟩:=hq;obtain rfl:=Xdh _ _ e0
 replace hr:=dV.elim hr;obtain ⟨v1,l2,y1,rfl,e1,hr⟩:=hr;obtain rfl:=XbP _ _ _ e1
 replace hr:=Xdg hr;obtain ⟨rfl,rfl,x,h,rfl⟩:=hr
 obtain ⟨os,rfl,ha,hc⟩:=Xdu ha hc
 obtain rfl:=Xao hc
 exact ⟨_,rfl,XH4 XaG Xac hS _ _ x h⟩
def Xad:Xab→Int→Option (Int×Xab):=Xdi XaG Xac
theorem Xnc:Xan Tryz.prog 62 (s62 Xad):=ok62 XaG Xac (Xai.XaW ⟨Xs1,XlG,trivial⟩)
def XhS (s:List UInt8):Option Xab:=
 some (Xab.mk s true false)
def rx61 (x:Xab):Xco:=⟨.pointer (some ⟨0,0,none⟩),[[.string ⟨⟨x.s⟩⟩,.bool x.made,.bool x.bad]],[]⟩
def r61 (g:(List UInt8)→Option Xab):Dec:=dV asS fun (y0:List UInt8)=>Xc5 (ofG (g y0) rx61)
theorem r61_c {g:(List UInt8)→Option Xab} {y0:List UInt8} {x:Xab} (hx:g y0=some x):r61 g [.string ⟨⟨y0⟩⟩] []=some (rx61 x):=(XaS (XdL)).trans (XaZ hx)
def s61 (g:(List UInt8)→Option Xab):Xbp:=⟨[.v],r61 g⟩
theorem XpA {g:(List UInt8)→Option Xab} {y0:List UInt8} {x:Xab} (hx:g y0=some x):(s61 g).run [.string ⟨⟨y0⟩⟩] []=some (rx61 x):=r61_c hx
abbrev XAp:List (Nat×Xbp):=[]
theorem XIR (hS:Xai Tryz.prog (Xar (XAp))) (s:List UInt8) (res:Xab) (h:XhS s=some res) :
 XaD Tryz.prog 61 0 ⟨⟨61,6,[(0,.string ⟨⟨s⟩⟩)],[.code XZK],[],false,none⟩,[],[],0⟩ (fun v H _=>Res 0 (rx61 res) v H):=by
 unfold XhS at h
 refine Xa9 Xam hS true 3000 ?_
 conv=>whnf
 all_goals (cases h)
 all_goals exact Res.of [0] rfl (Xsq (rfl) (Xcb rfl) XeY) (by decide) (Xsp (by decide) XeZ) XeX
theorem ok61 (hS:Xai Tryz.prog (Xar (XAp))):Xan Tryz.prog 61 (s61 (XhS)):=by
 refine Xan.Xau Xam (fun ar os r ha hr=>?_) ⟨Tryz.f61,rfl,by decide,rfl⟩
 replace hr:r61 (XhS) ar (XaA os)=some r:=hr
 unfold r61 at hr
 generalize hc:XaA os=C at hr
 replace hr:=dV.elim hr;obtain ⟨v0,l1,y0,rfl,e0,hr⟩:=hr;obtain rfl:=Xb8 _ _ e0
 replace hr:=Xdg hr;obtain ⟨rfl,rfl,x,h,rfl⟩:=hr
 obtain rfl:=Xao hc
 exact ⟨_,rfl,XIR hS _ x h⟩
def Xaw:(List UInt8)→Option Xab:=XhS
theorem XoU:Xan Tryz.prog 61 (s61 Xaw):=ok61 (Xai.XaW trivial)
end Go.Vm.Code
namespace Go.Vm.Code
open Go Go.Vm
def rdr (r:Xab) (k:Int):Xab:=if r.bad=true∨k<0∨k>r.s.length then ⟨r.s,true,true⟩ else ⟨r.s.drop k.toNat,true,false⟩
def rdt (r:Xab) (k:Int):List UInt8:=if r.bad=true∨k<0∨k>r.s.length then [] else r.s.take k.toNat
theorem Xeg {r:Xab} (h:r.made=true):Xae r=some (r.bad,r):=by
 unfold Xae Xdd
 rw [h];rfl
theorem XeR {r:Xab} {k:Int} (h:r.made=true):Xac r k=some (rdt r k,rdr r k):=by
 unfold Xac Xc3 rdt rdr
 rw [Xeg h,Option.bind_some]
 simp only []
 obtain ⟨s,m,b⟩:=r
 simp only at h ⊢
 subst h
 cases b with
 | true=>simp
 | false=>
   rw [cond_false]
   by_cases h1:k<0
   ·rw [XaV h1,if_pos (by omega),if_pos (by omega)]
   rw [XaM h1]
   by_cases h2:k>s.length
   ·rw [XaV h2,if_pos (by omega),if_pos (by omega)]
   ·have e:(s.drop k.toNat).take (s.length - k.toNat)=s.drop k.toNat:=List.take_of_length_le (by simp)
    rw [XaM h2,Xaz (by omega),Xaz (by omega),if_neg (by simp;omega),if_neg (by simp;omega),e]
theorem XfU (r:Xab) (k:Int):(rdr r k).made=true:=by unfold rdr;split<;>rfl
theorem Xqz {r:Xab} {k:Int}:(rdr r k).bad=false↔r.bad=false∧0≤k∧k≤r.s.length:=by
 unfold rdr
 split
 ·rename_i h
  simp only [Bool.true_eq_false,false_iff]
  intro ⟨a,b,c⟩
  rcases h with h|h|h
  ·rw [a] at h;cases h
  ·omega
  ·omega
 ·rename_i h
  simp only [true_iff]
  cases hb:r.bad
  ·exact ⟨rfl,by omega,by omega⟩
  ·exact absurd (.inl hb) h
theorem XFc {r:Xab} {k:Int} (h:(rdr r k).bad=false):((rdr r k).s.length:Int)=r.s.length - k:=by
 obtain ⟨a,b,c⟩:=Xqz.1 h
 unfold rdr
 rw [if_neg (by rw [a];simp;omega)]
 simp;omega
theorem Xgp {r r':Xab} {k:Int} (h:rdr r k=r') (hb:r'.bad=false):r.bad=false∧(r'.s.length:Int)+k=r.s.length:=by
 subst h
 have:=XFc hb
 exact ⟨(Xqz.1 hb).1,by omega⟩
theorem Xhi {s:List UInt8} {k:Int} (h0:0≤k) (h1:k≤s.length):rdr ⟨s,true,false⟩ k=⟨s.drop k.toNat,true,false⟩:=by
 unfold rdr;rw [if_neg (by simp;omega)]
theorem Xhq {s:List UInt8} {k:Int} (h0:0≤k) (h1:k≤s.length):rdt ⟨s,true,false⟩ k=s.take k.toNat:=by
 unfold rdt;rw [if_neg (by simp;omega)]
theorem XJK (r:Xab) (k:Int):(rdt r k).length≤r.s.length:=by
 unfold rdt;split
 ·simp
 ·rw [List.length_take];omega
def rdn (r:Xab) (k:Int):Int:=(XdZ (rdt r (if k<1∨k>7 then -1 else k)):Nat)
theorem XfT {r:Xab} {k:Int} (h:r.made=true) (hl:r.s.length<2^61):Xad r k=some (rdn r k,rdr r (if k<1∨k>7 then -1 else k)):=by
 unfold Xad Xdi rdn
 have bad:Xac r (-1)=some ([],rdr r (-1)):=by
  rw [XeR h];unfold rdt;rw [if_pos (by omega)]
 have e0:rdt r (-1)=[]:=by unfold rdt;rw [if_pos (by omega)]
 by_cases h1:k<1
 ·rw [XaV h1,bad,Option.bind_some,XeA (by simp),if_pos (by omega),Option.bind_some,e0];rfl
 rw [XaM h1]
 by_cases h2:k>7
 ·rw [XaV h2,bad,Option.bind_some,XeA (by simp),if_pos (by omega),Option.bind_some,e0];rfl
 have hlen:=XJK r k
 rw [XaM h2,XeR h,Option.bind_some,XeA (by simp only [];omega),Option.bind_some,if_neg (by omega)]
 simp only []
 unfold XsN
 by_cases hc:r.bad=true∨k<0∨k>r.s.length
 ·have e:rdt r k=[]:=by unfold rdt;rw [if_pos hc]
  rw [e,if_neg (by simp;omega)];rfl
 ·have hl2:(rdt r k).length=k.toNat:=by unfold rdt;rw [if_neg hc];simp;omega
  rw [if_pos (by omega)]
  have e2:((rdt r k).drop (0:Int).toNat).take k.toNat=rdt r k:=by
   rw [show (0:Int).toNat=0 from rfl,List.drop_zero,List.take_of_length_le (by omega)]
  have hv:XdZ (rdt r k)<2^56:=by
   have:=XoV (rdt r k)
   rw [hl2] at this
   exact XnG this (by omega)
  simp only [e2]
  rw [XcC (by omega) (by omega)]
theorem XgD {s:List UInt8} {p k:Int} (h0:0≤p) (h1:1≤k) (h8:k≤8) (h:p+k≤s.length):XsN s p k=(((XdZ ((s.drop p.toNat).take k.toNat):Nat):Int),true):=by
 unfold XsN;rw [if_pos (by omega)]
theorem Xmk (s:List UInt8):Xaw s=some ⟨s,true,false⟩:=rfl
def inR (n m:Int):Bool:=decide (0≤n∧n≤m)
theorem XGr {n m:Int}:inR n m=true↔0≤n∧n≤m:=by unfold inR;simp
theorem Xtl (n:Nat):(((n:Int).tmod 4)==0)=decide (n%4=0):=by
 rw [Int.tmod_eq_emod_of_nonneg (by omega),Bool.eq_iff_iff,beq_iff_eq,decide_eq_true_eq];omega
theorem XzJ (n:Nat):decide ((n:Int)≤40)=decide (n≤40):=by rw [Bool.eq_iff_iff,decide_eq_true_eq,decide_eq_true_eq];omega
theorem XWn (n:Nat):(20+(n:Int)).tdiv 4=(((20+n)/4:Nat):Int):=by rw [Int.tdiv_eq_ediv_of_nonneg (by omega)];omega
def vK (s:List UInt8) (p k:Nat):Int:=(XdZ ((s.drop p).take k):Nat)
theorem Xek (s:List UInt8) (p k n:Nat) (h:256^k≤n):0≤vK s p k∧vK s p k<n:=by
 have:=XdK (l:=s.drop p) (k:=k) n h
 unfold vK;omega
theorem XBb {s:List UInt8} {p k:Nat} (h1:1≤k) (h7:k≤7) (h:p+k≤s.length) (hl:s.length<2^61):Xad ⟨s.drop p,true,false⟩ (k:Int)=some (vK s p k,⟨s.drop (p+k),true,false⟩):=by
 have hd:(s.drop p).length=s.length - p:=by simp
 rw [XfT rfl (by simp only;omega),if_neg (by omega),Xhi (by omega) (by omega)]
 unfold rdn
 rw [if_neg (by omega),Xhq (by omega) (by omega),Int.toNat_natCast,List.drop_drop];rfl
theorem Xoi {s:List UInt8} {p k:Nat} (h:p+k≤s.length):Xac ⟨s.drop p,true,false⟩ (k:Int)=some ((s.drop p).take k,⟨s.drop (p+k),true,false⟩):=by
 have hd:(s.drop p).length=s.length - p:=by simp
 rw [XeR rfl,Xhi (by omega) (by omega),Xhq (by omega) (by omega),Int.toNat_natCast,List.drop_drop]
theorem XnW {s:List UInt8} {p k:Nat} (hs:s.length<2^61) (h1:1≤k) (h7:k≤7) (h:p+k≤s.length):Xal s (p:Int) (k:Int)=some (vK s p k):=by
 rw [Xgb hs,XgD (by omega) (by omega) (by omega) (by omega)]
 have:=Xek s p k (256^k) (Nat.le_refl _)
 have h8:256^k≤256^7:=Nat.pow_le_pow_right (by decide) h7
 have h9:(256:Nat)^7=72057594037927936:=by decide
 show some (wI .i64 (vK s p k))=_
 rw [XcC (by omega) (by omega)]
theorem XjS {s:List UInt8} {p:Nat} (h:p<s.length):vK s p 1=(s[p].toNat:Int):=by
 unfold vK
 rw [List.drop_eq_getElem_cons h]
 show ((XdZ [s[p]]:Nat):Int)=_
 rw [Xe5];simp
theorem Xt2 {s:List UInt8} {p:Nat} (h:p+1<s.length):vK s p 2=(s[p].toNat*256+s[p+1].toNat:Int):=by
 unfold vK
 rw [List.drop_eq_getElem_cons (by omega:p<s.length),List.drop_eq_getElem_cons h]
 show ((XdZ [s[p],s[p+1]]:Nat):Int)=_
 rw [Xe5,Xe5];simp
theorem l1 {l:List UInt8} (h:l.length=1):∃ a,l=[a]:=by
 match l,h with
 | [a],_=>exact ⟨a,rfl⟩
theorem l2 {l:List UInt8} (h:l.length=2):∃ a b,l=[a,b]:=by
 match l,h with
 | [a,b],_=>exact ⟨a,b,rfl⟩
theorem l4 {l:List UInt8} (h:l.length=4):∃ a b c d,l=[a,b,c,d]:=by
 match l,h with
 | [a,b,c,d],_=>exact ⟨a,b,c,d,rfl⟩
end Go.Vm.Code
namespace Go.Vm.Code
open Go Go.Vm Go.Proofs
set_option maxRecDepth 100000
set_option maxHeartbeats 4000000
set_option linter.unusedVariables false
def Xee (n:Int) (most:Int):Option Bool:=
 cond (decide (0≤n))
  (
  some (decide (n≤most)))
  (
  some (false))
def XxL (x:Bool):Xco:=⟨.bool x,[],[]⟩
def r114 (g:Int→Int→Option Bool):Dec:=dV (asI .i64) fun (y0:Int)=>dV (asI .i64) fun (y1:Int)=>Xc5 (ofG (g y0 y1) XxL)
theorem XOA {g:Int→Int→Option Bool} {y0:Int} {y1:Int} {x:Bool} (hx:g y0 y1=some x):r114 g [.int .i64 y0,.int .i64 y1] []=some (XxL x):=(XaS (XcI _)).trans ((XaS (XcI _)).trans (XaZ hx))
def s114 (g:Int→Int→Option Bool):Xbp:=⟨[.v,.v],r114 g⟩
theorem Xom {g:Int→Int→Option Bool} {y0:Int} {y1:Int} {x:Bool} (hx:g y0 y1=some x):(s114 g).run [.int .i64 y0,.int .i64 y1] []=some (XxL x):=XOA hx
abbrev XvQ:List (Nat×Xbp):=[]
theorem XyW (hS:Xai Tryz.prog (Xar (XvQ))) (n:Int) (most:Int) (res:Bool) (h:Xee n most=some res) :
 XaD Tryz.prog 114 0 ⟨⟨114,12,[(0,.int .i64 n),(1,.int .i64 most)],[.code Xz8],[],false,none⟩,[],[],0⟩ (fun v H _=>Res 0 (XxL res) v H):=by
 unfold Xee at h
 refine Xa9 Xam hS true 3000 ?_
 conv=>whnf
 refine br.h h ?_ ?_ ?_
 ·rfl
 ·clear h;intro hb h;conv=>whnf
  all_goals (cases h;exact Res.z rfl rfl rfl)
 clear h;intro hb h;conv=>whnf
 all_goals (cases h;exact Res.z rfl rfl rfl)
theorem ok114 (hS:Xai Tryz.prog (Xar (XvQ))):Xan Tryz.prog 114 (s114 (Xee)):=by
 refine Xan.Xau Xam (fun ar os r ha hr=>?_) ⟨Tryz.f114,rfl,by decide,rfl⟩
 replace hr:r114 (Xee) ar (XaA os)=some r:=hr
 unfold r114 at hr
 generalize hc:XaA os=C at hr
 replace hr:=dV.elim hr;obtain ⟨v0,l1,y0,rfl,e0,hr⟩:=hr;obtain rfl:=XbP _ _ _ e0
 replace hr:=dV.elim hr;obtain ⟨v1,l2,y1,rfl,e1,hr⟩:=hr;obtain rfl:=XbP _ _ _ e1
 replace hr:=Xdg hr;obtain ⟨rfl,rfl,x,h,rfl⟩:=hr
 obtain rfl:=Xao hc
 exact ⟨_,rfl,XyW hS _ _ x h⟩
def Xbr:Int→Int→Option Bool:=Xee
theorem XGS:Xan Tryz.prog 114 (s114 Xbr):=ok114 (Xai.XaW trivial)
def Xff (XaL:Xaa→Option Bool) (a:Xaa):Option Bool:=
 cond (!a.V6)
  (
  (XaL a).bind fun xr=>
  some (xr))
  (
  some (false))
def Xwk (x:Bool):Xco:=⟨.bool x,[],[]⟩
def r115 (g:Xaa→Option Bool):Dec:=dV Xa7 fun (y0:Xaa)=>Xc5 (ofG (g y0) Xwk)
theorem XYG {g:Xaa→Option Bool} {y0:Xaa} {x:Bool} (hx:g y0=some x):r115 g [.agg ⟨[.bool y0.V6,.int .u64 y0.Hi,.int .u64 y0.Lo]⟩] []=some (Xwk x):=(XaS (XaY _)).trans (XaZ hx)
def s115 (g:Xaa→Option Bool):Xbp:=⟨[.v],r115 g⟩
theorem XsW {g:Xaa→Option Bool} {y0:Xaa} {x:Bool} (hx:g y0=some x):(s115 g).run [.agg ⟨[.bool y0.V6,.int .u64 y0.Hi,.int .u64 y0.Lo]⟩] []=some (Xwk x):=XYG hx
abbrev Xvw (XaL:Xaa→Option Bool):List (Nat×Xbp):=[(113,XLx XaL)]
theorem XxJ (XaL:Xaa→Option Bool) (hS:Xai Tryz.prog (Xar (Xvw XaL))) (a:Xaa) (res:Bool) (h:Xff XaL a=some res) :
 XaD Tryz.prog 115 0 ⟨⟨115,10,[(0,.agg ⟨[.bool a.V6,.int .u64 a.Hi,.int .u64 a.Lo]⟩)],[.code XBn],[],false,none⟩,[],[],0⟩ (fun v H _=>Res 0 (Xwk res) v H):=by
 unfold Xff at h
 refine Xa9 Xam hS true 3000 ?_
 conv=>whnf
 refine br.h2 h ?_ ?_ ?_
 ·rfl
 ·clear h;intro hb h;conv=>whnf
  all_goals (cases h;exact Res.z rfl rfl rfl)
 clear h;intro hb h;conv=>whnf
 replace h:=Xak.elim h;obtain ⟨xr,hy,h⟩:=h
 refine XaH.q rfl rfl (Xot hy) rfl rfl rfl ?_
 conv=>whnf
 all_goals (cases h;exact Res.z rfl rfl rfl)
theorem ok115 (XaL:Xaa→Option Bool) (hS:Xai Tryz.prog (Xar (Xvw XaL))):Xan Tryz.prog 115 (s115 (Xff XaL)):=by
 refine Xan.Xau Xam (fun ar os r ha hr=>?_) ⟨Tryz.f115,rfl,by decide,rfl⟩
 replace hr:r115 (Xff XaL) ar (XaA os)=some r:=hr
 unfold r115 at hr
 generalize hc:XaA os=C at hr
 replace hr:=dV.elim hr;obtain ⟨v0,l1,y0,rfl,e0,hr⟩:=hr;obtain rfl:=XaN _ _ e0
 replace hr:=Xdg hr;obtain ⟨rfl,rfl,x,h,rfl⟩:=hr
 obtain rfl:=Xao hc
 exact ⟨_,rfl,XxJ XaL hS _ x h⟩
def XbW:Xaa→Option Bool:=Xff XaL
theorem XGG:Xan Tryz.prog 115 (s115 XbW):=ok115 XaL (Xai.XaW ⟨Xp3,trivial⟩)
def Xdt (XbW:Xaa→Option Bool) (Xbr:Int→Int→Option Bool) (ha0:Xah):Option Bool:=
 (Xbr ha0.Class 255).bind fun w=>
 cond (!w)
  (
  some (false))
  (
  (Xbr ha0.Mark 65535).bind fun w1=>
  cond (!w1)
   (
   some (false))
   (
   (Xbr ha0.TTL 255).bind fun w2=>
   cond (!w2)
    (
    some (false))
    (
    (Xbr ha0.Proto 255).bind fun w3=>
    cond (!w3)
     (
     some (false))
     (
     (XbW ha0.Src).bind fun f=>
     cond (f)
      (
      (XbW ha0.Dst).bind fun f1=>
      cond (f1)
       (
       cond (((ha0.Options.length:Int).tmod 4)==0)
        (
        some (decide ((ha0.Options.length:Int)≤40)))
        (
        some (false)))
       (
       some (false)))
      (
      some (false))))))
def rx81 (x:Bool):Xco:=⟨.bool x,[],[]⟩
def r81 (g:Xah→Option Bool):Dec:=dV Xd3 fun (y0:Xah)=>Xc5 (ofG (g y0) rx81)
theorem r81_c {g:Xah→Option Bool} {y0:Xah} {x:Bool} (hx:g y0=some x):r81 g [.agg ⟨[.int .i64 y0.Class,.int .i64 y0.Mark,.bool y0.Whole,.int .i64 y0.TTL,.int .i64 y0.Proto,.bool y0.Src.V6,.int .u64 y0.Src.Hi,.int .u64 y0.Src.Lo,.bool y0.Dst.V6,.int .u64 y0.Dst.Hi,.int .u64 y0.Dst.Lo,.string ⟨⟨y0.Options⟩⟩]⟩] []=some (rx81 x):=(XaS (XfF _)).trans (XaZ hx)
def s81 (g:Xah→Option Bool):Xbp:=⟨[.v],r81 g⟩
theorem XMt {g:Xah→Option Bool} {y0:Xah} {x:Bool} (hx:g y0=some x):(s81 g).run [.agg ⟨[.int .i64 y0.Class,.int .i64 y0.Mark,.bool y0.Whole,.int .i64 y0.TTL,.int .i64 y0.Proto,.bool y0.Src.V6,.int .u64 y0.Src.Hi,.int .u64 y0.Src.Lo,.bool y0.Dst.V6,.int .u64 y0.Dst.Hi,.int .u64 y0.Dst.Lo,.string ⟨⟨y0.Options⟩⟩]⟩] []=some (rx81 x):=r81_c hx
abbrev XA0 (XbW:Xaa→Option Bool) (Xbr:Int→Int→Option Bool):List (Nat×Xbp):=[(115,s115 XbW),(114,s114 Xbr)]
theorem XH9 (XbW:Xaa→Option Bool) (Xbr:Int→Int→Option Bool) (hS:Xai Tryz.prog (Xar (XA0 XbW Xbr))) (ha0:Xah) (res:Bool) (h:Xdt XbW Xbr ha0=some res) :
 XaD Tryz.prog 81 0 ⟨⟨81,46,[(0,.agg ⟨[.int .i64 ha0.Class,.int .i64 ha0.Mark,.bool ha0.Whole,.int .i64 ha0.TTL,.int .i64 ha0.Proto,.bool ha0.Src.V6,.int .u64 ha0.Src.Hi,.int .u64 ha0.Src.Lo,.bool ha0.Dst.V6,.int .u64 ha0.Dst.Hi,.int .u64 ha0.Dst.Lo,.string ⟨⟨ha0.Options⟩⟩]⟩)],[.code XSW],[],false,none⟩,[],[],0⟩ (fun v H _=>Res 0 (rx81 res) v H):=by
 unfold Xdt at h
 refine Xa9 Xam hS true 3000 ?_
 conv=>whnf
 replace h:=Xak.elim h;obtain ⟨w,hy,h⟩:=h
 refine XaH.q rfl rfl (Xom hy) rfl rfl rfl ?_
 conv=>whnf
 refine br.h h ?_ ?_ ?_
 ·rfl
 ·clear h;intro hb h;conv=>whnf
  all_goals (cases h;exact Res.z rfl rfl rfl)
 clear h;intro hb h;conv=>whnf
 replace h:=Xak.elim h;obtain ⟨w1,hy,h⟩:=h
 refine XaH.q rfl rfl (Xom hy) rfl rfl rfl ?_
 conv=>whnf
 refine br.h h ?_ ?_ ?_
 ·rfl
 ·clear h;intro hb h;conv=>whnf
  all_goals (cases h;exact Res.z rfl rfl rfl)
 clear h;intro hb h;conv=>whnf
 replace h:=Xak.elim h;obtain ⟨w2,hy,h⟩:=h
 refine XaH.q rfl rfl (Xom hy) rfl rfl rfl ?_
 conv=>whnf
 refine br.h h ?_ ?_ ?_
 ·rfl
 ·clear h;intro hb h;conv=>whnf
  all_goals (cases h;exact Res.z rfl rfl rfl)
 clear h;intro hb h;conv=>whnf
 replace h:=Xak.elim h;obtain ⟨w3,hy,h⟩:=h
 refine XaH.q rfl rfl (Xom hy) rfl rfl rfl ?_
 conv=>whnf
 refine br.h h ?_ ?_ ?_
 ·rfl
 ·clear h;intro hb h;conv=>whnf
  all_goals (cases h;exact Res.z rfl rfl rfl)
 clear h;intro hb h;conv=>whnf
 replace h:=Xak.elim h;obtain ⟨f,hy,h⟩:=h
 refine XaH.q rfl rfl (XsW hy) rfl rfl rfl ?_
 conv=>whnf
 refine br.h2 h ?_ ?_ ?_
 ·rfl
 ·clear h;intro hb h;conv=>whnf
  all_goals (cases h;exact Res.z rfl rfl rfl)
 clear h;intro hb h;conv=>whnf
 replace h:=Xak.elim h;obtain ⟨f1,hy,h⟩:=h
 refine XaH.q rfl rfl (XsW hy) rfl rfl rfl ?_
 conv=>whnf
 refine br.h2 h ?_ ?_ ?_
 ·rfl
 ·clear h;intro hb h;conv=>whnf
  all_goals (cases h;exact Res.z rfl rfl rfl)
 clear h;intro hb h;conv=>whnf
 refine br.h h ?_ ?_ ?_
 ·rfl
 ·clear h;intro hb h;conv=>whnf
  all_goals (cases h;exact Res.z rfl rfl rfl)
 clear h;intro hb h;conv=>whnf
 all_goals (cases h;exact Res.z rfl rfl rfl)
theorem ok81 (XbW:Xaa→Option Bool) (Xbr:Int→Int→Option Bool) (hS:Xai Tryz.prog (Xar (XA0 XbW Xbr))):Xan Tryz.prog 81 (s81 (Xdt XbW Xbr)):=by
 refine Xan.Xau Xam (fun ar os r ha hr=>?_) ⟨Tryz.f81,rfl,by decide,rfl⟩
 replace hr:r81 (Xdt XbW Xbr) ar (XaA os)=some r:=hr
 unfold r81 at hr
 generalize hc:XaA os=C at hr
 replace hr:=dV.elim hr;obtain ⟨v0,l1,y0,rfl,e0,hr⟩:=hr;obtain rfl:=Xe8 _ _ e0
 replace hr:=Xdg hr;obtain ⟨rfl,rfl,x,h,rfl⟩:=hr
 obtain rfl:=Xao hc
 exact ⟨_,rfl,XH9 XbW Xbr hS _ x h⟩
def Xbm:Xah→Option Bool:=Xdt XbW Xbr
theorem XYF:Xan Tryz.prog 81 (s81 Xbm):=ok81 XbW Xbr (Xai.XaW ⟨XGG,XGS,trivial⟩)
def Xf2 (Xa3:Xaa→Option (List UInt8)) (XbF:(List UInt8)→Option Int) (Xbn:(List UInt8)→Int→Int→Int→Option (List UInt8)) (Xbm:Xah→Option Bool) (Xa6:(List Int)→Option (List UInt8)) (ha0:Xah) (payload:List UInt8):Option ((List UInt8)×Int):=
 let t:=wI .i64 (20+(ha0.Options.length:Int))
 (Xbm ha0).bind fun m=>
 cond (!m)
  (
  some (([],1)))
  (
  let t1:=decide ((payload.length:Int)>(wI .i64 (65535 - t)))
  cond (t1)
   (
   some (([],5)))
   (
   cond (ha0.Whole)
    (
    (Xa6 [Xkl .i64 64 (wI .i64 (t.tdiv 4)),1,ha0.Class,1,wI .i64 (t+(payload.length:Int)),2,ha0.Mark,2,64,1,0,1,ha0.TTL,1,ha0.Proto,1,0,2]).bind fun xr=>
    (Xa3 ha0.Src).bind fun p=>
    (Xa3 ha0.Dst).bind fun p1=>
    XaK (decide (p.length+p1.length<2^63)) <|
    XaK (decide ((p++p1).length+ha0.Options.length<2^63)) <|
    XaK (decide (xr.length+((p++p1)++ha0.Options).length<2^63)) <|
    (XbF (xr++((p++p1)++ha0.Options))).bind fun xo=>
    (Xbn (xr++((p++p1)++ha0.Options)) 10 2 (wI .u64 xo)).bind fun s=>
    XaK (decide (s.length+payload.length<2^63)) <|
    some ((s++payload,0)))
    (
    (Xa6 [Xkl .i64 64 (wI .i64 (t.tdiv 4)),1,ha0.Class,1,wI .i64 (t+(payload.length:Int)),2,ha0.Mark,2,0,1,0,1,ha0.TTL,1,ha0.Proto,1,0,2]).bind fun xr1=>
    (Xa3 ha0.Src).bind fun p2=>
    (Xa3 ha0.Dst).bind fun p3=>
    XaK (decide (p2.length+p3.length<2^63)) <|
    XaK (decide ((p2++p3).length+ha0.Options.length<2^63)) <|
    XaK (decide (xr1.length+((p2++p3)++ha0.Options).length<2^63)) <|
    (XbF (xr1++((p2++p3)++ha0.Options))).bind fun xo1=>
    (Xbn (xr1++((p2++p3)++ha0.Options)) 10 2 (wI .u64 xo1)).bind fun s1=>
    XaK (decide (s1.length+payload.length<2^63)) <|
    some ((s1++payload,0)))))
def rx49 (x:(List UInt8)×Int):Xco:=⟨.tuple ⟨[.string ⟨⟨x.1⟩⟩,.int .i64 x.2]⟩,[],[]⟩
def r49 (g:Xah→(List UInt8)→Option ((List UInt8)×Int)):Dec:=dV Xd3 fun (y0:Xah)=>dV asS fun (y1:List UInt8)=>Xc5 (ofG (g y0 y1) rx49)
theorem r49_c {g:Xah→(List UInt8)→Option ((List UInt8)×Int)} {y0:Xah} {y1:List UInt8} {x:(List UInt8)×Int} (hx:g y0 y1=some x):r49 g [.agg ⟨[.int .i64 y0.Class,.int .i64 y0.Mark,.bool y0.Whole,.int .i64 y0.TTL,.int .i64 y0.Proto,.bool y0.Src.V6,.int .u64 y0.Src.Hi,.int .u64 y0.Src.Lo,.bool y0.Dst.V6,.int .u64 y0.Dst.Hi,.int .u64 y0.Dst.Lo,.string ⟨⟨y0.Options⟩⟩]⟩,.string ⟨⟨y1⟩⟩] []=some (rx49 x):=(XaS (XfF _)).trans ((XaS (XdL)).trans (XaZ hx))
def s49 (g:Xah→(List UInt8)→Option ((List UInt8)×Int)):Xbp:=⟨[.v,.v],r49 g⟩
theorem XNg {g:Xah→(List UInt8)→Option ((List UInt8)×Int)} {y0:Xah} {y1:List UInt8} {x:(List UInt8)×Int} (hx:g y0 y1=some x):(s49 g).run [.agg ⟨[.int .i64 y0.Class,.int .i64 y0.Mark,.bool y0.Whole,.int .i64 y0.TTL,.int .i64 y0.Proto,.bool y0.Src.V6,.int .u64 y0.Src.Hi,.int .u64 y0.Src.Lo,.bool y0.Dst.V6,.int .u64 y0.Dst.Hi,.int .u64 y0.Dst.Lo,.string ⟨⟨y0.Options⟩⟩]⟩,.string ⟨⟨y1⟩⟩] []=some (rx49 x):=r49_c hx
abbrev Xzw (Xa3:Xaa→Option (List UInt8)) (XbF:(List UInt8)→Option Int) (Xbn:(List UInt8)→Int→Int→Int→Option (List UInt8)) (Xbm:Xah→Option Bool) (Xa6:(List Int)→Option (List UInt8)):List (Nat×Xbp):=[(80,s80 Xa3),(78,s78 XbF),(43,s43 Xbn),(81,s81 Xbm),(82,s82 Xa6)]
theorem XIo (Xa3:Xaa→Option (List UInt8)) (XbF:(List UInt8)→Option Int) (Xbn:(List UInt8)→Int→Int→Int→Option (List UInt8)) (Xbm:Xah→Option Bool) (Xa6:(List Int)→Option (List UInt8)) (hS:Xai Tryz.prog (Xar (Xzw Xa3 XbF Xbn Xbm Xa6))) (ha0:Xah) (payload:List UInt8) (res:(List UInt8)×Int) (h:Xf2 Xa3 XbF Xbn Xbm Xa6 ha0 payload=some res) :
 XaD Tryz.prog 49 0 ⟨⟨49,62,[(0,.agg ⟨[.int .i64 ha0.Class,.int .i64 ha0.Mark,.bool ha0.Whole,.int .i64 ha0.TTL,.int .i64 ha0.Proto,.bool ha0.Src.V6,.int .u64 ha0.Src.Hi,.int .u64 ha0.Src.Lo,.bool ha0.Dst.V6,.int .u64 ha0.Dst.Hi,.int .u64 ha0.Dst.Lo,.string ⟨⟨ha0.Options⟩⟩]⟩),(1,.string ⟨⟨payload⟩⟩)],[.code XAe],[],false,none⟩,[],[],0⟩ (fun v H _=>Res 0 (rx49 res) v H):=by
 unfold Xf2 at h
 refine Xa9 Xam hS true 3000 ?_
 conv=>whnf
 let t:Int:=wI .i64 (20+(ha0.Options.length:Int))
 replace h:=Xak.elim h;obtain ⟨m,hy,h⟩:=h
 refine XaH.q rfl rfl (XMt hy) rfl rfl rfl ?_
 conv=>whnf
 refine br.h h ?_ ?_ ?_
 ·rfl
 ·clear h;intro hb h;conv=>whnf
  all_goals (cases h;exact Res.z rfl rfl rfl)
 clear h;intro hb h;conv=>whnf
 let t1:Bool:=decide ((payload.length:Int)>(wI .i64 (65535 - t)))
 refine br.h h ?_ ?_ ?_
 ·rfl
 ·clear h;intro hb h;conv=>whnf
  all_goals (cases h;exact Res.z rfl rfl rfl)
 clear h;intro hb h;conv=>whnf
 refine br.h h ?_ ?_ ?_
 ·rfl
 ·clear h;intro hb h;conv=>whnf
  replace h:=Xak.elim h;obtain ⟨xr,hy,h⟩:=h
  refine XaH.Xbb [] (Xat («as»:=[.slice (some ⟨0,0,none⟩) ([Xkl .i64 64 (wI .i64 (t.tdiv 4)),1,ha0.Class,1,wI .i64 (t+(payload.length:Int)),2,ha0.Mark,2,64,1,0,1,ha0.TTL,1,ha0.Proto,1,0,2]:List Int).length 1]) (ws:=[.win 1 0 (18*1) false]) (n:=0) (m:=0) (t':=2) (Xas (by first|rfl|exact Xhj rfl rfl (by first|rfl|omega) (by first|rfl|(simp;done))|exact XiN rfl rfl (by first|rfl|omega) (by first|rfl|omega) (by first|omega|(simp at *;omega))) rfl Xbd) rfl (by rfl) (Xri hy) rfl rfl rfl rfl (XgE rfl Xbc) Xba rfl) ?_
  conv=>whnf
  replace h:=Xak.elim h;obtain ⟨p,hy,h⟩:=h
  refine XaH.q rfl rfl (XlL hy) rfl rfl rfl ?_
  conv=>whnf
  replace h:=Xak.elim h;obtain ⟨p1,hy,h⟩:=h
  refine XaH.q rfl rfl (XlL hy) rfl rfl rfl ?_
  conv=>whnf
  replace h:=XaK.elim h;obtain ⟨hb,h⟩:=h
  first|(refine req.intro hb ?_;conv=>whnf)|skip
  replace h:=XaK.elim h;obtain ⟨hb,h⟩:=h
  first|(refine req.intro hb ?_;conv=>whnf)|skip
  replace h:=XaK.elim h;obtain ⟨hb,h⟩:=h
  first|(refine req.intro hb ?_;conv=>whnf)|skip
  replace h:=Xak.elim h;obtain ⟨xo,hy,h⟩:=h
  refine XaH.q rfl rfl (Xtw hy) rfl rfl rfl ?_
  conv=>whnf
  replace h:=Xak.elim h;obtain ⟨s,hy,h⟩:=h
  refine XaH.q rfl rfl (XuT hy) rfl rfl rfl ?_
  conv=>whnf
  replace h:=XaK.elim h;obtain ⟨hb,h⟩:=h
  first|(refine req.intro hb ?_;conv=>whnf)|skip
  all_goals (cases h;exact Res.z rfl rfl rfl)
 clear h;intro hb h;conv=>whnf
 replace h:=Xak.elim h;obtain ⟨xr1,hy,h⟩:=h
 refine XaH.Xbb [] (Xat («as»:=[.slice (some ⟨0,0,none⟩) ([Xkl .i64 64 (wI .i64 (t.tdiv 4)),1,ha0.Class,1,wI .i64 (t+(payload.length:Int)),2,ha0.Mark,2,0,1,0,1,ha0.TTL,1,ha0.Proto,1,0,2]:List Int).length 1]) (ws:=[.win 1 0 (18*1) false]) (n:=0) (m:=0) (t':=2) (Xas (by first|rfl|exact Xhj rfl rfl (by first|rfl|omega) (by first|rfl|(simp;done))|exact XiN rfl rfl (by first|rfl|omega) (by first|rfl|omega) (by first|omega|(simp at *;omega))) rfl Xbd) rfl (by rfl) (Xri hy) rfl rfl rfl rfl (XgE rfl Xbc) Xba rfl) ?_
 conv=>whnf
 replace h:=Xak.elim h;obtain ⟨p2,hy,h⟩:=h
 refine XaH.q rfl rfl (XlL hy) rfl rfl rfl ?_
 conv=>whnf
 replace h:=Xak.elim h;obtain ⟨p3,hy,h⟩:=h
 refine XaH.q rfl rfl (XlL hy) rfl rfl rfl ?_
 conv=>whnf
 replace h:=XaK.elim h;obtain ⟨hb,h⟩:=h
 first|(refine req.intro hb ?_;conv=>whnf)|skip
 replace h:=XaK.elim h;obtain ⟨hb,h⟩:=h
 first|(refine req.intro hb ?_;conv=>whnf)|skip
 replace h:=XaK.elim h;obtain ⟨hb,h⟩:=h
 first|(refine req.intro hb ?_;conv=>whnf)|skip
 replace h:=Xak.elim h;obtain ⟨xo1,hy,h⟩:=h
 refine XaH.q rfl rfl (Xtw hy) rfl rfl rfl ?_
 conv=>whnf
 replace h:=Xak.elim h;obtain ⟨s1,hy,h⟩:=h
 refine XaH.q rfl rfl (XuT hy) rfl rfl rfl ?_
 conv=>whnf
 replace h:=XaK.elim h;obtain ⟨hb,h⟩:=h
 first|(refine req.intro hb ?_;conv=>whnf)|skip
 all_goals (cases h;exact Res.z rfl rfl rfl)
theorem ok49 (Xa3:Xaa→Option (List UInt8)) (XbF:(List UInt8)→Option Int) (Xbn:(List UInt8)→Int→Int→Int→Option (List UInt8)) (Xbm:Xah→Option Bool) (Xa6:(List Int)→Option (List UInt8)) (hS:Xai Tryz.prog (Xar (Xzw Xa3 XbF Xbn Xbm Xa6))):Xan Tryz.prog 49 (s49 (Xf2 Xa3 XbF Xbn Xbm Xa6)):=by
 refine Xan.Xau Xam (fun ar os r ha hr=>?_) ⟨Tryz.f49,rfl,by decide,rfl⟩
 replace hr:r49 (Xf2 Xa3 XbF Xbn Xbm Xa6) ar (XaA os)=some r:=hr
 unfold r49 at hr
 generalize hc:XaA os=C at hr
 replace hr:=dV.elim hr;obtain ⟨v0,l1,y0,rfl,e0,hr⟩:=hr;obtain rfl:=Xe8 _ _ e0
 replace hr:=dV.elim hr;obtain ⟨v1,l2,y1,rfl,e1,hr⟩:=hr;obtain rfl:=Xb8 _ _ e1
 replace hr:=Xdg hr;obtain ⟨rfl,rfl,x,h,rfl⟩:=hr
 obtain rfl:=Xao hc
 exact ⟨_,rfl,XIo Xa3 XbF Xbn Xbm Xa6 hS _ _ x h⟩
def Xcf:Xah→(List UInt8)→Option ((List UInt8)×Int):=Xf2 Xa3 XbF Xbn Xbm Xa6
theorem XWp:Xan Tryz.prog 49 (s49 Xcf):=ok49 Xa3 XbF Xbn Xbm Xa6 (Xai.XaW ⟨Xuq,XAC,XzV,XYF,Xzm,trivial⟩)
def Xlb (n:Int) (most:Int):Option Bool:=
 cond (decide (n≥0))
  (
  some (decide (n≤most)))
  (
  some (false))
def Xx7 (x:Bool):Xco:=⟨.bool x,[],[]⟩
def r119 (g:Int→Int→Option Bool):Dec:=dV (asI .i64) fun (y0:Int)=>dV (asI .i64) fun (y1:Int)=>Xc5 (ofG (g y0 y1) Xx7)
theorem X1r {g:Int→Int→Option Bool} {y0:Int} {y1:Int} {x:Bool} (hx:g y0 y1=some x):r119 g [.int .i64 y0,.int .i64 y1] []=some (Xx7 x):=(XaS (XcI _)).trans ((XaS (XcI _)).trans (XaZ hx))
def s119 (g:Int→Int→Option Bool):Xbp:=⟨[.v,.v],r119 g⟩
theorem XnO {g:Int→Int→Option Bool} {y0:Int} {y1:Int} {x:Bool} (hx:g y0 y1=some x):(s119 g).run [.int .i64 y0,.int .i64 y1] []=some (Xx7 x):=X1r hx
abbrev XuM:List (Nat×Xbp):=[]
theorem Xy5 (hS:Xai Tryz.prog (Xar (XuM))) (n:Int) (most:Int) (res:Bool) (h:Xlb n most=some res) :
 XaD Tryz.prog 119 0 ⟨⟨119,12,[(0,.int .i64 n),(1,.int .i64 most)],[.code XBv],[],false,none⟩,[],[],0⟩ (fun v H _=>Res 0 (Xx7 res) v H):=by
 unfold Xlb at h
 refine Xa9 Xam hS true 3000 ?_
 conv=>whnf
 refine br.h h ?_ ?_ ?_
 ·rfl
 ·clear h;intro hb h;conv=>whnf
  all_goals (cases h;exact Res.z rfl rfl rfl)
 clear h;intro hb h;conv=>whnf
 all_goals (cases h;exact Res.z rfl rfl rfl)
theorem ok119 (hS:Xai Tryz.prog (Xar (XuM))):Xan Tryz.prog 119 (s119 (Xlb)):=by
 refine Xan.Xau Xam (fun ar os r ha hr=>?_) ⟨Tryz.f119,rfl,by decide,rfl⟩
 replace hr:r119 (Xlb) ar (XaA os)=some r:=hr
 unfold r119 at hr
 generalize hc:XaA os=C at hr
 replace hr:=dV.elim hr;obtain ⟨v0,l1,y0,rfl,e0,hr⟩:=hr;obtain rfl:=XbP _ _ _ e0
 replace hr:=dV.elim hr;obtain ⟨v1,l2,y1,rfl,e1,hr⟩:=hr;obtain rfl:=XbP _ _ _ e1
 replace hr:=Xdg hr;obtain ⟨rfl,rfl,x,h,rfl⟩:=hr
 obtain rfl:=Xao hc
 exact ⟨_,rfl,Xy5 hS _ _ x h⟩
def Xfe:Int→Int→Option Bool:=Xlb
theorem XDj:Xan Tryz.prog 119 (s119 Xfe):=ok119 (Xai.XaW trivial)
def Xil (Xa0:Xaa→Option Bool) (a:Xaa):Option Bool:=
 (Xa0 a).bind fun xr=>
 cond (xr)
  (
  some (!a.V6))
  (
  some (false))
def Xwx (x:Bool):Xco:=⟨.bool x,[],[]⟩
def r120 (g:Xaa→Option Bool):Dec:=dV Xa7 fun (y0:Xaa)=>Xc5 (ofG (g y0) Xwx)
theorem X3i {g:Xaa→Option Bool} {y0:Xaa} {x:Bool} (hx:g y0=some x):r120 g [.agg ⟨[.bool y0.V6,.int .u64 y0.Hi,.int .u64 y0.Lo]⟩] []=some (Xwx x):=(XaS (XaY _)).trans (XaZ hx)
def s120 (g:Xaa→Option Bool):Xbp:=⟨[.v],r120 g⟩
theorem XvH {g:Xaa→Option Bool} {y0:Xaa} {x:Bool} (hx:g y0=some x):(s120 g).run [.agg ⟨[.bool y0.V6,.int .u64 y0.Hi,.int .u64 y0.Lo]⟩] []=some (Xwx x):=X3i hx
abbrev XtH (Xa0:Xaa→Option Bool):List (Nat×Xbp):=[(97,s97 Xa0)]
theorem Xxb (Xa0:Xaa→Option Bool) (hS:Xai Tryz.prog (Xar (XtH Xa0))) (a:Xaa) (res:Bool) (h:Xil Xa0 a=some res) :
 XaD Tryz.prog 120 0 ⟨⟨120,10,[(0,.agg ⟨[.bool a.V6,.int .u64 a.Hi,.int .u64 a.Lo]⟩)],[.code XAX],[],false,none⟩,[],[],0⟩ (fun v H _=>Res 0 (Xwx res) v H):=by
 unfold Xil at h
 refine Xa9 Xam hS true 3000 ?_
 conv=>whnf
 replace h:=Xak.elim h;obtain ⟨xr,hy,h⟩:=h
 refine XaH.q rfl rfl (XrL hy) rfl rfl rfl ?_
 conv=>whnf
 refine br.h h ?_ ?_ ?_
 ·rfl
 ·clear h;intro hb h;conv=>whnf
  all_goals (cases h;exact Res.z rfl rfl rfl)
 clear h;intro hb h;conv=>whnf
 all_goals (cases h;exact Res.z rfl rfl rfl)
theorem ok120 (Xa0:Xaa→Option Bool) (hS:Xai Tryz.prog (Xar (XtH Xa0))):Xan Tryz.prog 120 (s120 (Xil Xa0)):=by
 refine Xan.Xau Xam (fun ar os r ha hr=>?_) ⟨Tryz.f120,rfl,by decide,rfl⟩
 replace hr:r120 (Xil Xa0) ar (XaA os)=some r:=hr
 unfold r120 at hr
 generalize hc:XaA os=C at hr
 replace hr:=dV.elim hr;obtain ⟨v0,l1,y0,rfl,e0,hr⟩:=hr;obtain rfl:=XaN _ _ e0
 replace hr:=Xdg hr;obtain ⟨rfl,rfl,x,h,rfl⟩:=hr
 obtain rfl:=Xao hc
 exact ⟨_,rfl,Xxb Xa0 hS _ x h⟩
def Xdl:Xaa→Option Bool:=Xil Xa0
theorem XCH:Xan Tryz.prog 120 (s120 Xdl):=ok120 Xa0 (Xai.XaW ⟨Xs9,trivial⟩)
end Go.Vm.Code
