import Derived.Test.YtddaijhjflfdmaaGreatNClientEchoese
namespace Go.Vm.Code
open Go Go.Vm Go.Proofs
set_option maxRecDepth 100000
set_option maxHeartbeats 4000000
set_option linter.unusedVariables false
def Xfz (Xae:Xap) (Xac:Xan):Option (List UInt8):=
 (Xac).bind fun n=>
 cond (!n)
  (
  some ([]))
  (
  none)
def XFH (x:List UInt8):XcU:=⟨.string ⟨⟨x⟩⟩,[],[none]⟩
abbrev XaX:=Option (List UInt8)
def r35n (g:XaX):Dec:=dNl 1<|Xd2 (ofG (g) XFH)
theorem XUL {g:XaX} {x:List UInt8} (hx:g=some x):r35n g [.pointer none] [none]=some (XFH x):=(XCS).trans (XaN hx)
abbrev XNf (Xae:Xap) (Xac:Xan):List (Nat×XbC):=[(72,s72 Xae Xac)]
theorem XCs (Xae:Xap) (Xac:Xan) (hS:Xak Tryz.prog (XaD (XNf Xae Xac))) (res:List UInt8) (h:Xfz Xae Xac=some res) :
 XaF Tryz.prog 35 1 ⟨⟨35,19,[(0,.pointer none)],[.code XyO],[],false,none⟩,[],[],1⟩ (fun v H _=>Res 1 (XFH res) v H):=by
 unfold Xfz at h
 have R1:=@Xup Xae Xac
 refine Xa4 XaC hS true 3000 ?_
 conv=>whnf
 exact W
def Xft (Xae:Xap) (Xac:Xan) (Xc6:XdM) (Xct:XcW) (c:Xab):Option ((List UInt8)×Xab):=
 (Xae c).bind fun xg=>
 cond (!xg.1)
  (
  some (([],xg.2)))
  (
  Option.elim xg.2.v_.hello
   (
   none)
   (fun n=>
   cond (n==117)
    (
    (Xct (Xab.mk xg.2.t (Xbi.mk (some 117) xg.2.v_.say xg.2.v_.hear) xg.2.clock xg.2.echo xg.2.id_)).bind fun x1=>
    some ((x1.1,x1.2.2)))
    (
    cond (n==122)
     (
     (Xc6 (Xab.mk xg.2.t (Xbi.mk (some 122) xg.2.v_.say xg.2.v_.hear) xg.2.clock xg.2.echo xg.2.id_)).bind fun x11=>
     some ((x11.1,x11.2.2)))
     (
     none))))
def rx35 (x:(List UInt8)×Xab):XcU:=⟨.string ⟨⟨x.1⟩⟩,[],[some [.int .i64 x.2.t.Proto,.bool x.2.t.Src.V6,.int .u64 x.2.t.Src.Hi,.int .u64 x.2.t.Src.Lo,.bool x.2.t.Dst.V6,.int .u64 x.2.t.Dst.Hi,.int .u64 x.2.t.Dst.Lo,.int .i64 x.2.t.SPort,.int .i64 x.2.t.DPort,fvV x.2.v_.hello,fvV x.2.v_.say,fvV x.2.v_.hear,.int .u32 x.2.clock,.int .u32 x.2.echo,.string ⟨⟨x.2.id_⟩⟩]]⟩
abbrev Xbb:=Xab→Option ((List UInt8)×Xab)
def r35 (g:Xbb):Dec:=dPt 0 XbQ fun (y0:Xab)=>Xd2 (ofG (g y0) rx35)
theorem r35_c {g:Xbb} {y0:Xab} {x:(List UInt8)×Xab} (hx:g y0=some x):r35 g [.pointer (some ⟨0,0,none⟩)] [some [.int .i64 y0.t.Proto,.bool y0.t.Src.V6,.int .u64 y0.t.Src.Hi,.int .u64 y0.t.Src.Lo,.bool y0.t.Dst.V6,.int .u64 y0.t.Dst.Hi,.int .u64 y0.t.Dst.Lo,.int .i64 y0.t.SPort,.int .i64 y0.t.DPort,fvV y0.v_.hello,fvV y0.v_.say,fvV y0.v_.hear,.int .u32 y0.clock,.int .u32 y0.echo,.string ⟨⟨y0.id_⟩⟩]]=some (rx35 x):=(Xh1 (Xci _)).trans (XaN hx)
def s35 (g:Xbb) (g2:XaX):XbC:=⟨[.pt 15],XsL 0 (r35 g) (r35n g2)⟩
theorem XIe {g:Xbb} {g2:XaX} {y0:Xab} {x:(List UInt8)×Xab} (hx:g y0=some x):(s35 g g2).run [.pointer (some ⟨0,0,none⟩)] [some [.int .i64 y0.t.Proto,.bool y0.t.Src.V6,.int .u64 y0.t.Src.Hi,.int .u64 y0.t.Src.Lo,.bool y0.t.Dst.V6,.int .u64 y0.t.Dst.Hi,.int .u64 y0.t.Dst.Lo,.int .i64 y0.t.SPort,.int .i64 y0.t.DPort,fvV y0.v_.hello,fvV y0.v_.say,fvV y0.v_.hear,.int .u32 y0.clock,.int .u32 y0.echo,.string ⟨⟨y0.id_⟩⟩]]=some (rx35 x):=r35_c hx
theorem XMm {g2:Xbb} {g:XaX} {x:List UInt8} (hx:g=some x):(s35 g2 g).run [.pointer none] [none]=some (XFH x):=XUL hx
abbrev XWw (Xae:Xap) (Xac:Xan) (Xc6:XdM) (Xct:XcW):List (Nat×XbC):=[(72,s72 Xae Xac),(122,s122 Xc6),(117,s117 Xct)]
theorem XPv (Xae:Xap) (Xac:Xan) (Xc6:XdM) (Xct:XcW) (hS:Xak Tryz.prog (XaD (XWw Xae Xac Xc6 Xct))) (c:Xab) (res:(List UInt8)×Xab) (h:Xft Xae Xac Xc6 Xct c=some res) :
 XaF Tryz.prog 35 1 ⟨⟨35,19,[(0,.pointer (some ⟨0,0,none⟩))],[.code XyO],[],false,none⟩,[],[(0,.cells [.int .i64 c.t.Proto,.bool c.t.Src.V6,.int .u64 c.t.Src.Hi,.int .u64 c.t.Src.Lo,.bool c.t.Dst.V6,.int .u64 c.t.Dst.Hi,.int .u64 c.t.Dst.Lo,.int .i64 c.t.SPort,.int .i64 c.t.DPort,fvV c.v_.hello,fvV c.v_.say,fvV c.v_.hear,.int .u32 c.clock,.int .u32 c.echo,.string ⟨⟨c.id_⟩⟩])],1⟩ (fun v H _=>Res 1 (rx35 res) v H):=by
 unfold Xft at h
 have R1:=@XsR Xae Xac
 have R2:=@XLN Xct
 have R3:=@XMh Xc6
 refine Xa4 XaC hS true 3000 ?_
 conv=>whnf
 exact W
def Xau:Xbb:=Xft Xae Xac Xc6 Xct
def Xas:XaX:=Xfz Xae Xac
theorem XVy:XbD Tryz.prog 35 (s35 Xau Xas):=by
 have hL:=XPv Xae Xac Xc6 Xct (Xak.XaJ ⟨XoC,XPQ,XMr,trivial⟩);have hN:=XCs Xae Xac (Xak.XaJ ⟨XoC,trivial⟩)
 exact okA ⟨Tryz.f35,rfl,by decide,rfl⟩
def XgS (Xbq:Xcx) (Xb2:Xdx) (c:Xab) (flags:Int) (payload:List UInt8):Option ((List UInt8)×Int×Xab):=
 (Xb2 c.clock c.echo).bind fun s=>
 (Xbq c.t flags s payload).bind fun s1=>
 some ((s1.1,s1.2,c))
def XHn (x:(List UInt8)×Int×Xab):XcU:=⟨.tuple ⟨[.string ⟨⟨x.1⟩⟩,.int .i64 x.2.1]⟩,[],[some [.int .i64 x.2.2.t.Proto,.bool x.2.2.t.Src.V6,.int .u64 x.2.2.t.Src.Hi,.int .u64 x.2.2.t.Src.Lo,.bool x.2.2.t.Dst.V6,.int .u64 x.2.2.t.Dst.Hi,.int .u64 x.2.2.t.Dst.Lo,.int .i64 x.2.2.t.SPort,.int .i64 x.2.2.t.DPort,fvV x.2.2.v_.hello,fvV x.2.2.v_.say,fvV x.2.2.v_.hear,.int .u32 x.2.2.clock,.int .u32 x.2.2.echo,.string ⟨⟨x.2.2.id_⟩⟩]]⟩
abbrev XcX:=Xab→Int→(List UInt8)→Option ((List UInt8)×Int×Xab)
def r120 (g:XcX):Dec:=dPt 0 XbQ fun (y0:Xab)=>dV (asI .i64) fun (y1:Int)=>dV asS fun (y2:List UInt8)=>Xd2 (ofG (g y0 y1 y2) XHn)
theorem XRE {g:XcX} {y0:Xab} {y1:Int} {y2:List UInt8} {x:(List UInt8)×Int×Xab} (hx:g y0 y1 y2=some x):r120 g [.pointer (some ⟨0,0,none⟩),.int .i64 y1,.string ⟨⟨y2⟩⟩] [some [.int .i64 y0.t.Proto,.bool y0.t.Src.V6,.int .u64 y0.t.Src.Hi,.int .u64 y0.t.Src.Lo,.bool y0.t.Dst.V6,.int .u64 y0.t.Dst.Hi,.int .u64 y0.t.Dst.Lo,.int .i64 y0.t.SPort,.int .i64 y0.t.DPort,fvV y0.v_.hello,fvV y0.v_.say,fvV y0.v_.hear,.int .u32 y0.clock,.int .u32 y0.echo,.string ⟨⟨y0.id_⟩⟩]]=some (XHn x):=(Xh1 (Xci _)).trans ((XaO (Xen _)).trans ((XaO (Xd3)).trans (XaN hx)))
def s120 (g:XcX):XbC:=⟨[.pt 15,.v,.v],r120 g⟩
theorem XKU {g:XcX} {y0:Xab} {y1:Int} {y2:List UInt8} {x:(List UInt8)×Int×Xab} (hx:g y0 y1 y2=some x):(s120 g).run [.pointer (some ⟨0,0,none⟩),.int .i64 y1,.string ⟨⟨y2⟩⟩] [some [.int .i64 y0.t.Proto,.bool y0.t.Src.V6,.int .u64 y0.t.Src.Hi,.int .u64 y0.t.Src.Lo,.bool y0.t.Dst.V6,.int .u64 y0.t.Dst.Hi,.int .u64 y0.t.Dst.Lo,.int .i64 y0.t.SPort,.int .i64 y0.t.DPort,fvV y0.v_.hello,fvV y0.v_.say,fvV y0.v_.hear,.int .u32 y0.clock,.int .u32 y0.echo,.string ⟨⟨y0.id_⟩⟩]]=some (XHn x):=XRE hx
abbrev XK8 (Xbq:Xcx) (Xb2:Xdx):List (Nat×XbC):=[(118,s118 Xbq),(119,s119 Xb2)]
theorem XFh (Xbq:Xcx) (Xb2:Xdx) (hS:Xak Tryz.prog (XaD (XK8 Xbq Xb2))) (c:Xab) (flags:Int) (payload:List UInt8) (res:(List UInt8)×Int×Xab) (h:XgS Xbq Xb2 c flags payload=some res) :
 XaF Tryz.prog 120 1 ⟨⟨120,26,[(0,.pointer (some ⟨0,0,none⟩)),(1,.int .i64 flags),(2,.string ⟨⟨payload⟩⟩)],[.code XIp],[],false,none⟩,[],[(0,.cells [.int .i64 c.t.Proto,.bool c.t.Src.V6,.int .u64 c.t.Src.Hi,.int .u64 c.t.Src.Lo,.bool c.t.Dst.V6,.int .u64 c.t.Dst.Hi,.int .u64 c.t.Dst.Lo,.int .i64 c.t.SPort,.int .i64 c.t.DPort,fvV c.v_.hello,fvV c.v_.say,fvV c.v_.hear,.int .u32 c.clock,.int .u32 c.echo,.string ⟨⟨c.id_⟩⟩])],1⟩ (fun v H _=>Res 1 (XHn res) v H):=by
 unfold XgS at h
 have R1:=@Xy2 Xb2
 have R2:=@XAk Xbq
 refine Xa4 XaC hS true 3000 ?_
 conv=>whnf
 exact W
def Xcr:XcX:=XgS Xbq Xb2
theorem XPk:XbD Tryz.prog 120 (s120 Xcr):=by
 have hL:=XFh Xbq Xb2 (Xak.XaJ ⟨Xz6,XzD,trivial⟩)
 exact okA ⟨Tryz.f120,rfl,by decide,rfl⟩
def Xh7 (Xa6:Xck) (c:Xab) (a1:Int) (payload:List UInt8):Option ((List UInt8)×Int×Xab):=
 (Xa6 c.t (Xay.mk false 0 0 c.id_ [] payload)).bind fun d=>
 some ((d.1,d.2,c))
def XGv (x:(List UInt8)×Int×Xab):XcU:=⟨.tuple ⟨[.string ⟨⟨x.1⟩⟩,.int .i64 x.2.1]⟩,[],[some [.int .i64 x.2.2.t.Proto,.bool x.2.2.t.Src.V6,.int .u64 x.2.2.t.Src.Hi,.int .u64 x.2.2.t.Src.Lo,.bool x.2.2.t.Dst.V6,.int .u64 x.2.2.t.Dst.Hi,.int .u64 x.2.2.t.Dst.Lo,.int .i64 x.2.2.t.SPort,.int .i64 x.2.2.t.DPort,fvV x.2.2.v_.hello,fvV x.2.2.v_.say,fvV x.2.2.v_.hear,.int .u32 x.2.2.clock,.int .u32 x.2.2.echo,.string ⟨⟨x.2.2.id_⟩⟩]]⟩
abbrev XdV:=Xab→Int→(List UInt8)→Option ((List UInt8)×Int×Xab)
def r124 (g:XdV):Dec:=dPt 0 XbQ fun (y0:Xab)=>dV (asI .i64) fun (y1:Int)=>dV asS fun (y2:List UInt8)=>Xd2 (ofG (g y0 y1 y2) XGv)
theorem XRf {g:XdV} {y0:Xab} {y1:Int} {y2:List UInt8} {x:(List UInt8)×Int×Xab} (hx:g y0 y1 y2=some x):r124 g [.pointer (some ⟨0,0,none⟩),.int .i64 y1,.string ⟨⟨y2⟩⟩] [some [.int .i64 y0.t.Proto,.bool y0.t.Src.V6,.int .u64 y0.t.Src.Hi,.int .u64 y0.t.Src.Lo,.bool y0.t.Dst.V6,.int .u64 y0.t.Dst.Hi,.int .u64 y0.t.Dst.Lo,.int .i64 y0.t.SPort,.int .i64 y0.t.DPort,fvV y0.v_.hello,fvV y0.v_.say,fvV y0.v_.hear,.int .u32 y0.clock,.int .u32 y0.echo,.string ⟨⟨y0.id_⟩⟩]]=some (XGv x):=(Xh1 (Xci _)).trans ((XaO (Xen _)).trans ((XaO (Xd3)).trans (XaN hx)))
def s124 (g:XdV):XbC:=⟨[.pt 15,.v,.v],r124 g⟩
theorem XNc {g:XdV} {y0:Xab} {y1:Int} {y2:List UInt8} {x:(List UInt8)×Int×Xab} (hx:g y0 y1 y2=some x):(s124 g).run [.pointer (some ⟨0,0,none⟩),.int .i64 y1,.string ⟨⟨y2⟩⟩] [some [.int .i64 y0.t.Proto,.bool y0.t.Src.V6,.int .u64 y0.t.Src.Hi,.int .u64 y0.t.Src.Lo,.bool y0.t.Dst.V6,.int .u64 y0.t.Dst.Hi,.int .u64 y0.t.Dst.Lo,.int .i64 y0.t.SPort,.int .i64 y0.t.DPort,fvV y0.v_.hello,fvV y0.v_.say,fvV y0.v_.hear,.int .u32 y0.clock,.int .u32 y0.echo,.string ⟨⟨y0.id_⟩⟩]]=some (XGv x):=XRf hx
abbrev XOE (Xa6:Xck):List (Nat×XbC):=[(123,s123 Xa6)]
theorem XE3 (Xa6:Xck) (hS:Xak Tryz.prog (XaD (XOE Xa6))) (c:Xab) (a1:Int) (payload:List UInt8) (res:(List UInt8)×Int×Xab) (h:Xh7 Xa6 c a1 payload=some res) :
 XaF Tryz.prog 124 1 ⟨⟨124,21,[(0,.pointer (some ⟨0,0,none⟩)),(1,.int .i64 a1),(2,.string ⟨⟨payload⟩⟩)],[.code XJf],[],false,none⟩,[],[(0,.cells [.int .i64 c.t.Proto,.bool c.t.Src.V6,.int .u64 c.t.Src.Hi,.int .u64 c.t.Src.Lo,.bool c.t.Dst.V6,.int .u64 c.t.Dst.Hi,.int .u64 c.t.Dst.Lo,.int .i64 c.t.SPort,.int .i64 c.t.DPort,fvV c.v_.hello,fvV c.v_.say,fvV c.v_.hear,.int .u32 c.clock,.int .u32 c.echo,.string ⟨⟨c.id_⟩⟩])],1⟩ (fun v H _=>Res 1 (XGv res) v H):=by
 unfold Xh7 at h
 have R1:=@XzX Xa6
 refine Xa4 XaC hS true 3000 ?_
 conv=>whnf
 exact W
def Xc4:XdV:=Xh7 Xa6
theorem XM3:XbD Tryz.prog 124 (s124 Xc4):=by
 have hL:=XE3 Xa6 (Xak.XaJ ⟨XAe,trivial⟩)
 exact okA ⟨Tryz.f124,rfl,by decide,rfl⟩
def Xgs (Xae:Xap) (Xac:Xan) (flags:Int) (payload:List UInt8):Option ((List UInt8)×Int):=
 (Xac).bind fun n=>
 cond (!n)
  (
  some (([],1)))
  (
  none)
def XC8 (x:(List UInt8)×Int):XcU:=⟨.tuple ⟨[.string ⟨⟨x.1⟩⟩,.int .i64 x.2]⟩,[],[none]⟩
abbrev Xa3:=Int→(List UInt8)→Option ((List UInt8)×Int)
def r37n (g:Xa3):Dec:=dNl 1<|dV (asI .i64) fun (y1:Int)=>dV asS fun (y2:List UInt8)=>Xd2 (ofG (g y1 y2) XC8)
theorem XQX {g:Xa3} {y1:Int} {y2:List UInt8} {x:(List UInt8)×Int} (hx:g y1 y2=some x):r37n g [.pointer none,.int .i64 y1,.string ⟨⟨y2⟩⟩] [none]=some (XC8 x):=(XCS).trans ((XaO (Xen _)).trans ((XaO (Xd3)).trans (XaN hx)))
abbrev XKS (Xae:Xap) (Xac:Xan):List (Nat×XbC):=[(72,s72 Xae Xac)]
theorem XGh (Xae:Xap) (Xac:Xan) (hS:Xak Tryz.prog (XaD (XKS Xae Xac))) (flags:Int) (payload:List UInt8) (res:(List UInt8)×Int) (h:Xgs Xae Xac flags payload=some res) :
 XaF Tryz.prog 37 1 ⟨⟨37,22,[(0,.pointer none),(1,.int .i64 flags),(2,.string ⟨⟨payload⟩⟩)],[.code XOX],[],false,none⟩,[],[],1⟩ (fun v H _=>Res 1 (XC8 res) v H):=by
 unfold Xgs at h
 have R1:=@Xup Xae Xac
 refine Xa4 XaC hS true 3000 ?_
 conv=>whnf
 exact W
def Xgw (Xae:Xap) (Xac:Xan) (Xc4:XdV) (Xcr:XcX) (c:Xab) (flags:Int) (payload:List UInt8):Option ((List UInt8)×Int×Xab):=
 (Xae c).bind fun xg=>
 cond (!xg.1)
  (
  some (([],1,xg.2)))
  (
  Option.elim xg.2.v_.say
   (
   none)
   (fun n=>
   cond (n==120)
    (
    (Xcr (Xab.mk xg.2.t (Xbi.mk xg.2.v_.hello (some 120) xg.2.v_.hear) xg.2.clock xg.2.echo xg.2.id_) flags payload).bind fun x2=>
    some ((x2.1,x2.2.1,x2.2.2)))
    (
    cond (n==124)
     (
     (Xc4 (Xab.mk xg.2.t (Xbi.mk xg.2.v_.hello (some 124) xg.2.v_.hear) xg.2.clock xg.2.echo xg.2.id_) flags payload).bind fun x21=>
     some ((x21.1,x21.2.1,x21.2.2)))
     (
     none))))
def rx37 (x:(List UInt8)×Int×Xab):XcU:=⟨.tuple ⟨[.string ⟨⟨x.1⟩⟩,.int .i64 x.2.1]⟩,[],[some [.int .i64 x.2.2.t.Proto,.bool x.2.2.t.Src.V6,.int .u64 x.2.2.t.Src.Hi,.int .u64 x.2.2.t.Src.Lo,.bool x.2.2.t.Dst.V6,.int .u64 x.2.2.t.Dst.Hi,.int .u64 x.2.2.t.Dst.Lo,.int .i64 x.2.2.t.SPort,.int .i64 x.2.2.t.DPort,fvV x.2.2.v_.hello,fvV x.2.2.v_.say,fvV x.2.2.v_.hear,.int .u32 x.2.2.clock,.int .u32 x.2.2.echo,.string ⟨⟨x.2.2.id_⟩⟩]]⟩
abbrev Xbv:=Xab→Int→(List UInt8)→Option ((List UInt8)×Int×Xab)
def r37 (g:Xbv):Dec:=dPt 0 XbQ fun (y0:Xab)=>dV (asI .i64) fun (y1:Int)=>dV asS fun (y2:List UInt8)=>Xd2 (ofG (g y0 y1 y2) rx37)
theorem r37_c {g:Xbv} {y0:Xab} {y1:Int} {y2:List UInt8} {x:(List UInt8)×Int×Xab} (hx:g y0 y1 y2=some x):r37 g [.pointer (some ⟨0,0,none⟩),.int .i64 y1,.string ⟨⟨y2⟩⟩] [some [.int .i64 y0.t.Proto,.bool y0.t.Src.V6,.int .u64 y0.t.Src.Hi,.int .u64 y0.t.Src.Lo,.bool y0.t.Dst.V6,.int .u64 y0.t.Dst.Hi,.int .u64 y0.t.Dst.Lo,.int .i64 y0.t.SPort,.int .i64 y0.t.DPort,fvV y0.v_.hello,fvV y0.v_.say,fvV y0.v_.hear,.int .u32 y0.clock,.int .u32 y0.echo,.string ⟨⟨y0.id_⟩⟩]]=some (rx37 x):=(Xh1 (Xci _)).trans ((XaO (Xen _)).trans ((XaO (Xd3)).trans (XaN hx)))
def s37 (g:Xbv) (g2:Xa3):XbC:=⟨[.pt 15,.v,.v],XsL 0 (r37 g) (r37n g2)⟩
theorem XQC {g:Xbv} {g2:Xa3} {y0:Xab} {y1:Int} {y2:List UInt8} {x:(List UInt8)×Int×Xab} (hx:g y0 y1 y2=some x):(s37 g g2).run [.pointer (some ⟨0,0,none⟩),.int .i64 y1,.string ⟨⟨y2⟩⟩] [some [.int .i64 y0.t.Proto,.bool y0.t.Src.V6,.int .u64 y0.t.Src.Hi,.int .u64 y0.t.Src.Lo,.bool y0.t.Dst.V6,.int .u64 y0.t.Dst.Hi,.int .u64 y0.t.Dst.Lo,.int .i64 y0.t.SPort,.int .i64 y0.t.DPort,fvV y0.v_.hello,fvV y0.v_.say,fvV y0.v_.hear,.int .u32 y0.clock,.int .u32 y0.echo,.string ⟨⟨y0.id_⟩⟩]]=some (rx37 x):=r37_c hx
theorem XPl {g2:Xbv} {g:Xa3} {y1:Int} {y2:List UInt8} {x:(List UInt8)×Int} (hx:g y1 y2=some x):(s37 g2 g).run [.pointer none,.int .i64 y1,.string ⟨⟨y2⟩⟩] [none]=some (XC8 x):=XQX hx
abbrev XTc (Xae:Xap) (Xac:Xan) (Xc4:XdV) (Xcr:XcX):List (Nat×XbC):=[(72,s72 Xae Xac),(124,s124 Xc4),(120,s120 Xcr)]
theorem XNd (Xae:Xap) (Xac:Xan) (Xc4:XdV) (Xcr:XcX) (hS:Xak Tryz.prog (XaD (XTc Xae Xac Xc4 Xcr))) (c:Xab) (flags:Int) (payload:List UInt8) (res:(List UInt8)×Int×Xab) (h:Xgw Xae Xac Xc4 Xcr c flags payload=some res) :
 XaF Tryz.prog 37 1 ⟨⟨37,22,[(0,.pointer (some ⟨0,0,none⟩)),(1,.int .i64 flags),(2,.string ⟨⟨payload⟩⟩)],[.code XOX],[],false,none⟩,[],[(0,.cells [.int .i64 c.t.Proto,.bool c.t.Src.V6,.int .u64 c.t.Src.Hi,.int .u64 c.t.Src.Lo,.bool c.t.Dst.V6,.int .u64 c.t.Dst.Hi,.int .u64 c.t.Dst.Lo,.int .i64 c.t.SPort,.int .i64 c.t.DPort,fvV c.v_.hello,fvV c.v_.say,fvV c.v_.hear,.int .u32 c.clock,.int .u32 c.echo,.string ⟨⟨c.id_⟩⟩])],1⟩ (fun v H _=>Res 1 (rx37 res) v H):=by
 unfold Xgw at h
 have R1:=@XsR Xae Xac
 have R2:=@XKU Xcr
 have R3:=@XNc Xc4
 refine Xa4 XaC hS true 3000 ?_
 conv=>whnf
 exact W
def XaE:Xbv:=Xgw Xae Xac Xc4 Xcr
def Xaw:Xa3:=Xgs Xae Xac
theorem XQ4:XbD Tryz.prog 37 (s37 XaE Xaw):=by
 have hL:=XNd Xae Xac Xc4 Xcr (Xak.XaJ ⟨XoC,XM3,XPk,trivial⟩);have hN:=XGh Xae Xac (Xak.XaJ ⟨XoC,trivial⟩)
 exact okA ⟨Tryz.f37,rfl,by decide,rfl⟩
def Xm1 (t:Xag):Option Xag:=
 some (Xag.mk t.Proto t.Dst t.Src t.DPort t.SPort)
def rx53 (x:Xag):XcU:=⟨.agg ⟨[.int .i64 x.Proto,.bool x.Src.V6,.int .u64 x.Src.Hi,.int .u64 x.Src.Lo,.bool x.Dst.V6,.int .u64 x.Dst.Hi,.int .u64 x.Dst.Lo,.int .i64 x.SPort,.int .i64 x.DPort]⟩,[],[]⟩
abbrev Xfj:=Xag→Option Xag
def r53 (g:Xfj):Dec:=dV Xet fun (y0:Xag)=>Xd2 (ofG (g y0) rx53)
theorem r53_c {g:Xfj} {y0:Xag} {x:Xag} (hx:g y0=some x):r53 g [.agg ⟨[.int .i64 y0.Proto,.bool y0.Src.V6,.int .u64 y0.Src.Hi,.int .u64 y0.Src.Lo,.bool y0.Dst.V6,.int .u64 y0.Dst.Hi,.int .u64 y0.Dst.Lo,.int .i64 y0.SPort,.int .i64 y0.DPort]⟩] []=some (rx53 x):=(XaO (Xev _)).trans (XaN hx)
def s53 (g:Xfj):XbC:=⟨[.v],r53 g⟩
theorem XUn {g:Xfj} {y0:Xag} {x:Xag} (hx:g y0=some x):(s53 g).run [.agg ⟨[.int .i64 y0.Proto,.bool y0.Src.V6,.int .u64 y0.Src.Hi,.int .u64 y0.Src.Lo,.bool y0.Dst.V6,.int .u64 y0.Dst.Hi,.int .u64 y0.Dst.Lo,.int .i64 y0.SPort,.int .i64 y0.DPort]⟩] []=some (rx53 x):=r53_c hx
abbrev XVf:List (Nat×XbC):=[]
theorem XLI (hS:Xak Tryz.prog (XaD (XVf))) (t:Xag) (res:Xag) (h:Xm1 t=some res) :
 XaF Tryz.prog 53 0 ⟨⟨53,16,[(0,.agg ⟨[.int .i64 t.Proto,.bool t.Src.V6,.int .u64 t.Src.Hi,.int .u64 t.Src.Lo,.bool t.Dst.V6,.int .u64 t.Dst.Hi,.int .u64 t.Dst.Lo,.int .i64 t.SPort,.int .i64 t.DPort]⟩)],[.code XUY],[],false,none⟩,[],[],0⟩ (fun v H _=>Res 0 (rx53 res) v H):=by
 unfold Xm1 at h
 refine Xa4 XaC hS true 3000 ?_
 conv=>whnf
 exact W
def Xe9:Xfj:=Xm1
theorem XSM:XbD Tryz.prog 53 (s53 Xe9):=by
 have hL:=XLI (Xak.XaJ trivial)
 exact okA ⟨Tryz.f53,rfl,by decide,rfl⟩
def XgZ (c:Xab) (a1:List UInt8) (x:Xam):Option Xab:=
 cond (x.Stamped)
  (
  some (Xab.mk c.t c.v_ c.clock x.Val c.id_))
  (
  some (c))
def XEz (x:Xab):XcU:=⟨.tuple ⟨[]⟩,[],[some [.int .i64 x.t.Proto,.bool x.t.Src.V6,.int .u64 x.t.Src.Hi,.int .u64 x.t.Src.Lo,.bool x.t.Dst.V6,.int .u64 x.t.Dst.Hi,.int .u64 x.t.Dst.Lo,.int .i64 x.t.SPort,.int .i64 x.t.DPort,fvV x.v_.hello,fvV x.v_.say,fvV x.v_.hear,.int .u32 x.clock,.int .u32 x.echo,.string ⟨⟨x.id_⟩⟩]]⟩
abbrev XcZ:=Xab→(List UInt8)→Xam→Option Xab
def r121 (g:XcZ):Dec:=dPt 0 XbQ fun (y0:Xab)=>dV asS fun (y1:List UInt8)=>dV XiU fun (y2:Xam)=>Xd2 (ofG (g y0 y1 y2) XEz)
theorem XQL {g:XcZ} {y0:Xab} {y1:List UInt8} {y2:Xam} {x:Xab} (hx:g y0 y1 y2=some x):r121 g [.pointer (some ⟨0,0,none⟩),.string ⟨⟨y1⟩⟩,.agg ⟨[.int .i64 y2.Tuple.Proto,.bool y2.Tuple.Src.V6,.int .u64 y2.Tuple.Src.Hi,.int .u64 y2.Tuple.Src.Lo,.bool y2.Tuple.Dst.V6,.int .u64 y2.Tuple.Dst.Hi,.int .u64 y2.Tuple.Dst.Lo,.int .i64 y2.Tuple.SPort,.int .i64 y2.Tuple.DPort,.int .i64 y2.Flags,.bool y2.Stamped,.int .u32 y2.Val,.int .u32 y2.Echo,.bool y2.Long,.string ⟨⟨y2.CID⟩⟩,.int .i64 y2.Size]⟩] [some [.int .i64 y0.t.Proto,.bool y0.t.Src.V6,.int .u64 y0.t.Src.Hi,.int .u64 y0.t.Src.Lo,.bool y0.t.Dst.V6,.int .u64 y0.t.Dst.Hi,.int .u64 y0.t.Dst.Lo,.int .i64 y0.t.SPort,.int .i64 y0.t.DPort,fvV y0.v_.hello,fvV y0.v_.say,fvV y0.v_.hear,.int .u32 y0.clock,.int .u32 y0.echo,.string ⟨⟨y0.id_⟩⟩]]=some (XEz x):=(Xh1 (Xci _)).trans ((XaO (Xd3)).trans ((XaO (Xms _)).trans (XaN hx)))
def s121 (g:XcZ):XbC:=⟨[.pt 15,.v,.v],r121 g⟩
theorem XNk {g:XcZ} {y0:Xab} {y1:List UInt8} {y2:Xam} {x:Xab} (hx:g y0 y1 y2=some x):(s121 g).run [.pointer (some ⟨0,0,none⟩),.string ⟨⟨y1⟩⟩,.agg ⟨[.int .i64 y2.Tuple.Proto,.bool y2.Tuple.Src.V6,.int .u64 y2.Tuple.Src.Hi,.int .u64 y2.Tuple.Src.Lo,.bool y2.Tuple.Dst.V6,.int .u64 y2.Tuple.Dst.Hi,.int .u64 y2.Tuple.Dst.Lo,.int .i64 y2.Tuple.SPort,.int .i64 y2.Tuple.DPort,.int .i64 y2.Flags,.bool y2.Stamped,.int .u32 y2.Val,.int .u32 y2.Echo,.bool y2.Long,.string ⟨⟨y2.CID⟩⟩,.int .i64 y2.Size]⟩] [some [.int .i64 y0.t.Proto,.bool y0.t.Src.V6,.int .u64 y0.t.Src.Hi,.int .u64 y0.t.Src.Lo,.bool y0.t.Dst.V6,.int .u64 y0.t.Dst.Hi,.int .u64 y0.t.Dst.Lo,.int .i64 y0.t.SPort,.int .i64 y0.t.DPort,fvV y0.v_.hello,fvV y0.v_.say,fvV y0.v_.hear,.int .u32 y0.clock,.int .u32 y0.echo,.string ⟨⟨y0.id_⟩⟩]]=some (XEz x):=XQL hx
abbrev XPq:List (Nat×XbC):=[]
theorem XCl (hS:Xak Tryz.prog (XaD (XPq))) (c:Xab) (a1:List UInt8) (x:Xam) (res:Xab) (h:XgZ c a1 x=some res) :
 XaF Tryz.prog 121 1 ⟨⟨121,13,[(0,.pointer (some ⟨0,0,none⟩)),(1,.string ⟨⟨a1⟩⟩),(2,.agg ⟨[.int .i64 x.Tuple.Proto,.bool x.Tuple.Src.V6,.int .u64 x.Tuple.Src.Hi,.int .u64 x.Tuple.Src.Lo,.bool x.Tuple.Dst.V6,.int .u64 x.Tuple.Dst.Hi,.int .u64 x.Tuple.Dst.Lo,.int .i64 x.Tuple.SPort,.int .i64 x.Tuple.DPort,.int .i64 x.Flags,.bool x.Stamped,.int .u32 x.Val,.int .u32 x.Echo,.bool x.Long,.string ⟨⟨x.CID⟩⟩,.int .i64 x.Size]⟩)],[.code XIu],[],false,none⟩,[],[(0,.cells [.int .i64 c.t.Proto,.bool c.t.Src.V6,.int .u64 c.t.Src.Hi,.int .u64 c.t.Src.Lo,.bool c.t.Dst.V6,.int .u64 c.t.Dst.Hi,.int .u64 c.t.Dst.Lo,.int .i64 c.t.SPort,.int .i64 c.t.DPort,fvV c.v_.hello,fvV c.v_.say,fvV c.v_.hear,.int .u32 c.clock,.int .u32 c.echo,.string ⟨⟨c.id_⟩⟩])],1⟩ (fun v H _=>Res 1 (XEz res) v H):=by
 unfold XgZ at h
 refine Xa4 XaC hS true 3000 ?_
 conv=>whnf
 exact W
def Xcq:XcZ:=XgZ
theorem XNM:XbD Tryz.prog 121 (s121 Xcq):=by
 have hL:=XCl (Xak.XaJ trivial)
 exact okA ⟨Tryz.f121,rfl,by decide,rfl⟩
def Xh2 (XdO:XeA) (Xed:XeY) (c:Xab) (s:List UInt8) (a2:Xam):Option Xab:=
 (XdO s).bind fun w=>
 Xbn (decide ((0:Int)≤w.2.1∧w.2.1≤(s.length:Int))) <|
 let t:=(s.drop w.2.1.toNat).take (s.length - w.2.1.toNat)
 (Xed t).bind fun xg=>
 cond (xg.2==0)
  (
  cond (xg.1.Long)
   (
   cond ((xg.1.SCID.length:Int)==8)
    (
    some (Xab.mk c.t c.v_ c.clock c.echo xg.1.SCID))
    (
    some (c)))
   (
   some (c)))
  (
  some (c))
def XEs (x:Xab):XcU:=⟨.tuple ⟨[]⟩,[],[some [.int .i64 x.t.Proto,.bool x.t.Src.V6,.int .u64 x.t.Src.Hi,.int .u64 x.t.Src.Lo,.bool x.t.Dst.V6,.int .u64 x.t.Dst.Hi,.int .u64 x.t.Dst.Lo,.int .i64 x.t.SPort,.int .i64 x.t.DPort,fvV x.v_.hello,fvV x.v_.say,fvV x.v_.hear,.int .u32 x.clock,.int .u32 x.echo,.string ⟨⟨x.id_⟩⟩]]⟩
abbrev XdL:=Xab→(List UInt8)→Xam→Option Xab
def r125 (g:XdL):Dec:=dPt 0 XbQ fun (y0:Xab)=>dV asS fun (y1:List UInt8)=>dV XiU fun (y2:Xam)=>Xd2 (ofG (g y0 y1 y2) XEs)
theorem XV0 {g:XdL} {y0:Xab} {y1:List UInt8} {y2:Xam} {x:Xab} (hx:g y0 y1 y2=some x):r125 g [.pointer (some ⟨0,0,none⟩),.string ⟨⟨y1⟩⟩,.agg ⟨[.int .i64 y2.Tuple.Proto,.bool y2.Tuple.Src.V6,.int .u64 y2.Tuple.Src.Hi,.int .u64 y2.Tuple.Src.Lo,.bool y2.Tuple.Dst.V6,.int .u64 y2.Tuple.Dst.Hi,.int .u64 y2.Tuple.Dst.Lo,.int .i64 y2.Tuple.SPort,.int .i64 y2.Tuple.DPort,.int .i64 y2.Flags,.bool y2.Stamped,.int .u32 y2.Val,.int .u32 y2.Echo,.bool y2.Long,.string ⟨⟨y2.CID⟩⟩,.int .i64 y2.Size]⟩] [some [.int .i64 y0.t.Proto,.bool y0.t.Src.V6,.int .u64 y0.t.Src.Hi,.int .u64 y0.t.Src.Lo,.bool y0.t.Dst.V6,.int .u64 y0.t.Dst.Hi,.int .u64 y0.t.Dst.Lo,.int .i64 y0.t.SPort,.int .i64 y0.t.DPort,fvV y0.v_.hello,fvV y0.v_.say,fvV y0.v_.hear,.int .u32 y0.clock,.int .u32 y0.echo,.string ⟨⟨y0.id_⟩⟩]]=some (XEs x):=(Xh1 (Xci _)).trans ((XaO (Xd3)).trans ((XaO (Xms _)).trans (XaN hx)))
def s125 (g:XdL):XbC:=⟨[.pt 15,.v,.v],r125 g⟩
theorem XK1 {g:XdL} {y0:Xab} {y1:List UInt8} {y2:Xam} {x:Xab} (hx:g y0 y1 y2=some x):(s125 g).run [.pointer (some ⟨0,0,none⟩),.string ⟨⟨y1⟩⟩,.agg ⟨[.int .i64 y2.Tuple.Proto,.bool y2.Tuple.Src.V6,.int .u64 y2.Tuple.Src.Hi,.int .u64 y2.Tuple.Src.Lo,.bool y2.Tuple.Dst.V6,.int .u64 y2.Tuple.Dst.Hi,.int .u64 y2.Tuple.Dst.Lo,.int .i64 y2.Tuple.SPort,.int .i64 y2.Tuple.DPort,.int .i64 y2.Flags,.bool y2.Stamped,.int .u32 y2.Val,.int .u32 y2.Echo,.bool y2.Long,.string ⟨⟨y2.CID⟩⟩,.int .i64 y2.Size]⟩] [some [.int .i64 y0.t.Proto,.bool y0.t.Src.V6,.int .u64 y0.t.Src.Hi,.int .u64 y0.t.Src.Lo,.bool y0.t.Dst.V6,.int .u64 y0.t.Dst.Hi,.int .u64 y0.t.Dst.Lo,.int .i64 y0.t.SPort,.int .i64 y0.t.DPort,fvV y0.v_.hello,fvV y0.v_.say,fvV y0.v_.hear,.int .u32 y0.clock,.int .u32 y0.echo,.string ⟨⟨y0.id_⟩⟩]]=some (XEs x):=XV0 hx
abbrev XKT (XdO:XeA) (Xed:XeY):List (Nat×XbC):=[(93,s93 XdO),(94,s94 Xed)]
theorem XCE (XdO:XeA) (Xed:XeY) (hS:Xak Tryz.prog (XaD (XKT XdO Xed))) (c:Xab) (s:List UInt8) (a2:Xam) (res:Xab) (h:Xh2 XdO Xed c s a2=some res) :
 XaF Tryz.prog 125 1 ⟨⟨125,41,[(0,.pointer (some ⟨0,0,none⟩)),(1,.string ⟨⟨s⟩⟩),(2,.agg ⟨[.int .i64 a2.Tuple.Proto,.bool a2.Tuple.Src.V6,.int .u64 a2.Tuple.Src.Hi,.int .u64 a2.Tuple.Src.Lo,.bool a2.Tuple.Dst.V6,.int .u64 a2.Tuple.Dst.Hi,.int .u64 a2.Tuple.Dst.Lo,.int .i64 a2.Tuple.SPort,.int .i64 a2.Tuple.DPort,.int .i64 a2.Flags,.bool a2.Stamped,.int .u32 a2.Val,.int .u32 a2.Echo,.bool a2.Long,.string ⟨⟨a2.CID⟩⟩,.int .i64 a2.Size]⟩)],[.code XI8],[],false,none⟩,[],[(0,.cells [.int .i64 c.t.Proto,.bool c.t.Src.V6,.int .u64 c.t.Src.Hi,.int .u64 c.t.Src.Lo,.bool c.t.Dst.V6,.int .u64 c.t.Dst.Hi,.int .u64 c.t.Dst.Lo,.int .i64 c.t.SPort,.int .i64 c.t.DPort,fvV c.v_.hello,fvV c.v_.say,fvV c.v_.hear,.int .u32 c.clock,.int .u32 c.echo,.string ⟨⟨c.id_⟩⟩])],1⟩ (fun v H _=>Res 1 (XEs res) v H):=by
 unfold Xh2 at h
 have R1:=@XQy XdO
 have R2:=@XH4 Xed
 refine Xa4 XaC hS true 3000 ?_
 conv=>whnf
 exact W
def Xc7:XdL:=Xh2 XdO Xed
theorem XPY:XbD Tryz.prog 125 (s125 Xc7):=by
 have hL:=XCE XdO Xed (Xak.XaJ ⟨XUO,XHX,trivial⟩)
 exact okA ⟨Tryz.f125,rfl,by decide,rfl⟩
def Xf9 (Xae:Xap) (Xac:Xan) (Xc7:XdL) (Xcq:XcZ) (XdQ:Xez) (Xe9:Xfj) (c:Xab) (s:List UInt8):Option (Int×Xab):=
 (Xae c).bind fun xg=>
 cond (!xg.1)
  (
  some ((1,xg.2)))
  (
  (XdQ s).bind fun p=>
  cond (p.2 !=0)
   (
   some ((p.2,xg.2)))
   (
   (Xe9 xg.2.t).bind fun b=>
   let t:=!((p.1.Tuple.Proto==b.Proto)&&((p.1.Tuple.Src.V6==b.Src.V6)&&((p.1.Tuple.Src.Hi==b.Src.Hi)&&((p.1.Tuple.Src.Lo==b.Src.Lo)&&((p.1.Tuple.Dst.V6==b.Dst.V6)&&((p.1.Tuple.Dst.Hi==b.Dst.Hi)&&((p.1.Tuple.Dst.Lo==b.Dst.Lo)&&((p.1.Tuple.SPort==b.SPort)&&((p.1.Tuple.DPort==b.DPort)&&true)))))))))
   cond (t)
    (
    some ((16,xg.2)))
    (
    Option.elim xg.2.v_.hear
     (
     none)
     (fun n=>
     cond (n==121)
      (
      (Xcq (Xab.mk xg.2.t (Xbi.mk xg.2.v_.hello xg.2.v_.say (some 121)) xg.2.clock xg.2.echo xg.2.id_) s p.1).bind fun x3=>
      some ((0,x3)))
      (
      cond (n==125)
       (
       (Xc7 (Xab.mk xg.2.t (Xbi.mk xg.2.v_.hello xg.2.v_.say (some 125)) xg.2.clock xg.2.echo xg.2.id_) s p.1).bind fun x31=>
       some ((0,x31)))
       (
       none))))))
def rx39 (x:Int×Xab):XcU:=⟨.int .i64 x.1,[],[some [.int .i64 x.2.t.Proto,.bool x.2.t.Src.V6,.int .u64 x.2.t.Src.Hi,.int .u64 x.2.t.Src.Lo,.bool x.2.t.Dst.V6,.int .u64 x.2.t.Dst.Hi,.int .u64 x.2.t.Dst.Lo,.int .i64 x.2.t.SPort,.int .i64 x.2.t.DPort,fvV x.2.v_.hello,fvV x.2.v_.say,fvV x.2.v_.hear,.int .u32 x.2.clock,.int .u32 x.2.echo,.string ⟨⟨x.2.id_⟩⟩]]⟩
abbrev Xby:=Xab→(List UInt8)→Option (Int×Xab)
def r39 (g:Xby):Dec:=dPt 0 XbQ fun (y0:Xab)=>dV asS fun (y1:List UInt8)=>Xd2 (ofG (g y0 y1) rx39)
theorem r39_c {g:Xby} {y0:Xab} {y1:List UInt8} {x:Int×Xab} (hx:g y0 y1=some x):r39 g [.pointer (some ⟨0,0,none⟩),.string ⟨⟨y1⟩⟩] [some [.int .i64 y0.t.Proto,.bool y0.t.Src.V6,.int .u64 y0.t.Src.Hi,.int .u64 y0.t.Src.Lo,.bool y0.t.Dst.V6,.int .u64 y0.t.Dst.Hi,.int .u64 y0.t.Dst.Lo,.int .i64 y0.t.SPort,.int .i64 y0.t.DPort,fvV y0.v_.hello,fvV y0.v_.say,fvV y0.v_.hear,.int .u32 y0.clock,.int .u32 y0.echo,.string ⟨⟨y0.id_⟩⟩]]=some (rx39 x):=(Xh1 (Xci _)).trans ((XaO (Xd3)).trans (XaN hx))
def s39 (g:Xby):XbC:=⟨[.pt 15,.v],r39 g⟩
theorem XI0 {g:Xby} {y0:Xab} {y1:List UInt8} {x:Int×Xab} (hx:g y0 y1=some x):(s39 g).run [.pointer (some ⟨0,0,none⟩),.string ⟨⟨y1⟩⟩] [some [.int .i64 y0.t.Proto,.bool y0.t.Src.V6,.int .u64 y0.t.Src.Hi,.int .u64 y0.t.Src.Lo,.bool y0.t.Dst.V6,.int .u64 y0.t.Dst.Hi,.int .u64 y0.t.Dst.Lo,.int .i64 y0.t.SPort,.int .i64 y0.t.DPort,fvV y0.v_.hello,fvV y0.v_.say,fvV y0.v_.hear,.int .u32 y0.clock,.int .u32 y0.echo,.string ⟨⟨y0.id_⟩⟩]]=some (rx39 x):=r39_c hx
abbrev XVj (Xae:Xap) (Xac:Xan) (Xc7:XdL) (Xcq:XcZ) (XdQ:Xez) (Xe9:Xfj):List (Nat×XbC):=[(72,s72 Xae Xac),(125,s125 Xc7),(121,s121 Xcq),(47,s47 XdQ),(53,s53 Xe9)]
theorem XLU (Xae:Xap) (Xac:Xan) (Xc7:XdL) (Xcq:XcZ) (XdQ:Xez) (Xe9:Xfj) (hS:Xak Tryz.prog (XaD (XVj Xae Xac Xc7 Xcq XdQ Xe9))) (c:Xab) (s:List UInt8) (res:Int×Xab) (h:Xf9 Xae Xac Xc7 Xcq XdQ Xe9 c s=some res) :
 XaF Tryz.prog 39 1 ⟨⟨39,37,[(0,.pointer (some ⟨0,0,none⟩)),(1,.string ⟨⟨s⟩⟩)],[.code XIk],[],false,none⟩,[],[(0,.cells [.int .i64 c.t.Proto,.bool c.t.Src.V6,.int .u64 c.t.Src.Hi,.int .u64 c.t.Src.Lo,.bool c.t.Dst.V6,.int .u64 c.t.Dst.Hi,.int .u64 c.t.Dst.Lo,.int .i64 c.t.SPort,.int .i64 c.t.DPort,fvV c.v_.hello,fvV c.v_.say,fvV c.v_.hear,.int .u32 c.clock,.int .u32 c.echo,.string ⟨⟨c.id_⟩⟩])],1⟩ (fun v H _=>Res 1 (rx39 res) v H):=by
 unfold Xf9 at h
 have R1:=@XsR Xae Xac
 have R2:=@XWJ XdQ
 have R3:=@XUn Xe9
 have R4:=@XNk Xcq
 have R5:=@XK1 Xc7
 refine Xa4 XaC hS true 3000 ?_
 conv=>whnf
 exact W
def Xax:Xby:=Xf9 Xae Xac Xc7 Xcq XdQ Xe9
theorem XTU:XbD Tryz.prog 39 (s39 Xax):=by
 have hL:=XLU Xae Xac Xc7 Xcq XdQ Xe9 (Xak.XaJ ⟨XoC,XPY,XNM,XWf,XSM,trivial⟩)
 exact okA ⟨Tryz.f39,rfl,by decide,rfl⟩
def XgC (Xae:Xap) (Xac:Xan) (n:Int):Option Unit:=
 (Xac).bind fun n1=>
 cond (n1)
  (
  none)
  (
  some (()))
def XEG (x:Unit):XcU:=⟨.tuple ⟨[]⟩,[],[none]⟩
abbrev Xb1:=Int→Option Unit
def r41n (g:Xb1):Dec:=dNl 1<|dV (asI .u32) fun (y1:Int)=>Xd2 (ofG (g y1) XEG)
theorem XTS {g:Xb1} {y1:Int} {x:Unit} (hx:g y1=some x):r41n g [.pointer none,.int .u32 y1] [none]=some (XEG x):=(XCS).trans ((XaO (Xen _)).trans (XaN hx))
abbrev XKE (Xae:Xap) (Xac:Xan):List (Nat×XbC):=[(72,s72 Xae Xac)]
theorem XDT (Xae:Xap) (Xac:Xan) (hS:Xak Tryz.prog (XaD (XKE Xae Xac))) (n:Int) (res:Unit) (h:XgC Xae Xac n=some res) :
 XaF Tryz.prog 41 1 ⟨⟨41,14,[(0,.pointer none),(1,.int .u32 n)],[.code XN3],[],false,none⟩,[],[],1⟩ (fun v H _=>Res 1 (XEG res) v H):=by
 unfold XgC at h
 have R1:=@Xup Xae Xac
 refine Xa4 XaC hS true 3000 ?_
 conv=>whnf
 exact W
def Xiy (Xae:Xap) (Xac:Xan) (c:Xab) (n:Int):Option Xab:=
 (Xae c).bind fun xg=>
 cond (xg.1)
  (
  some (Xab.mk xg.2.t xg.2.v_ (wI .u32 (xg.2.clock+n)) xg.2.echo xg.2.id_))
  (
  some (xg.2))
def rx41 (x:Xab):XcU:=⟨.tuple ⟨[]⟩,[],[some [.int .i64 x.t.Proto,.bool x.t.Src.V6,.int .u64 x.t.Src.Hi,.int .u64 x.t.Src.Lo,.bool x.t.Dst.V6,.int .u64 x.t.Dst.Hi,.int .u64 x.t.Dst.Lo,.int .i64 x.t.SPort,.int .i64 x.t.DPort,fvV x.v_.hello,fvV x.v_.say,fvV x.v_.hear,.int .u32 x.clock,.int .u32 x.echo,.string ⟨⟨x.id_⟩⟩]]⟩
abbrev XcE:=Xab→Int→Option Xab
def r41 (g:XcE):Dec:=dPt 0 XbQ fun (y0:Xab)=>dV (asI .u32) fun (y1:Int)=>Xd2 (ofG (g y0 y1) rx41)
theorem r41_c {g:XcE} {y0:Xab} {y1:Int} {x:Xab} (hx:g y0 y1=some x):r41 g [.pointer (some ⟨0,0,none⟩),.int .u32 y1] [some [.int .i64 y0.t.Proto,.bool y0.t.Src.V6,.int .u64 y0.t.Src.Hi,.int .u64 y0.t.Src.Lo,.bool y0.t.Dst.V6,.int .u64 y0.t.Dst.Hi,.int .u64 y0.t.Dst.Lo,.int .i64 y0.t.SPort,.int .i64 y0.t.DPort,fvV y0.v_.hello,fvV y0.v_.say,fvV y0.v_.hear,.int .u32 y0.clock,.int .u32 y0.echo,.string ⟨⟨y0.id_⟩⟩]]=some (rx41 x):=(Xh1 (Xci _)).trans ((XaO (Xen _)).trans (XaN hx))
def s41 (g:XcE) (g2:Xb1):XbC:=⟨[.pt 15,.v],XsL 0 (r41 g) (r41n g2)⟩
theorem XR4 {g:XcE} {g2:Xb1} {y0:Xab} {y1:Int} {x:Xab} (hx:g y0 y1=some x):(s41 g g2).run [.pointer (some ⟨0,0,none⟩),.int .u32 y1] [some [.int .i64 y0.t.Proto,.bool y0.t.Src.V6,.int .u64 y0.t.Src.Hi,.int .u64 y0.t.Src.Lo,.bool y0.t.Dst.V6,.int .u64 y0.t.Dst.Hi,.int .u64 y0.t.Dst.Lo,.int .i64 y0.t.SPort,.int .i64 y0.t.DPort,fvV y0.v_.hello,fvV y0.v_.say,fvV y0.v_.hear,.int .u32 y0.clock,.int .u32 y0.echo,.string ⟨⟨y0.id_⟩⟩]]=some (rx41 x):=r41_c hx
theorem XKk {g2:XcE} {g:Xb1} {y1:Int} {x:Unit} (hx:g y1=some x):(s41 g2 g).run [.pointer none,.int .u32 y1] [none]=some (XEG x):=XTS hx
abbrev XUk (Xae:Xap) (Xac:Xan):List (Nat×XbC):=[(72,s72 Xae Xac)]
theorem XML (Xae:Xap) (Xac:Xan) (hS:Xak Tryz.prog (XaD (XUk Xae Xac))) (c:Xab) (n:Int) (res:Xab) (h:Xiy Xae Xac c n=some res) :
 XaF Tryz.prog 41 1 ⟨⟨41,14,[(0,.pointer (some ⟨0,0,none⟩)),(1,.int .u32 n)],[.code XN3],[],false,none⟩,[],[(0,.cells [.int .i64 c.t.Proto,.bool c.t.Src.V6,.int .u64 c.t.Src.Hi,.int .u64 c.t.Src.Lo,.bool c.t.Dst.V6,.int .u64 c.t.Dst.Hi,.int .u64 c.t.Dst.Lo,.int .i64 c.t.SPort,.int .i64 c.t.DPort,fvV c.v_.hello,fvV c.v_.say,fvV c.v_.hear,.int .u32 c.clock,.int .u32 c.echo,.string ⟨⟨c.id_⟩⟩])],1⟩ (fun v H _=>Res 1 (rx41 res) v H):=by
 unfold Xiy at h
 have R1:=@XsR Xae Xac
 refine Xa4 XaC hS true 3000 ?_
 conv=>whnf
 exact W
def XbY:XcE:=Xiy Xae Xac
def Xbf:Xb1:=XgC Xae Xac
theorem XUa:XbD Tryz.prog 41 (s41 XbY Xbf):=by
 have hL:=XML Xae Xac (Xak.XaJ ⟨XoC,trivial⟩);have hN:=XDT Xae Xac (Xak.XaJ ⟨XoC,trivial⟩)
 exact okA ⟨Tryz.f41,rfl,by decide,rfl⟩
def Xhr (Xae:Xap) (Xac:Xan) (c:Xab):Option (Int×(List UInt8)×Xab):=
 (Xae c).bind fun xg=>
 cond (!xg.1)
  (
  some ((0,[],xg.2)))
  (
  some ((xg.2.echo,xg.2.id_,xg.2)))
def rx42 (x:Int×(List UInt8)×Xab):XcU:=⟨.tuple ⟨[.int .u32 x.1,.string ⟨⟨x.2.1⟩⟩]⟩,[],[some [.int .i64 x.2.2.t.Proto,.bool x.2.2.t.Src.V6,.int .u64 x.2.2.t.Src.Hi,.int .u64 x.2.2.t.Src.Lo,.bool x.2.2.t.Dst.V6,.int .u64 x.2.2.t.Dst.Hi,.int .u64 x.2.2.t.Dst.Lo,.int .i64 x.2.2.t.SPort,.int .i64 x.2.2.t.DPort,fvV x.2.2.v_.hello,fvV x.2.2.v_.say,fvV x.2.2.v_.hear,.int .u32 x.2.2.clock,.int .u32 x.2.2.echo,.string ⟨⟨x.2.2.id_⟩⟩]]⟩
abbrev XcC:=Xab→Option (Int×(List UInt8)×Xab)
def r42 (g:XcC):Dec:=dPt 0 XbQ fun (y0:Xab)=>Xd2 (ofG (g y0) rx42)
theorem r42_c {g:XcC} {y0:Xab} {x:Int×(List UInt8)×Xab} (hx:g y0=some x):r42 g [.pointer (some ⟨0,0,none⟩)] [some [.int .i64 y0.t.Proto,.bool y0.t.Src.V6,.int .u64 y0.t.Src.Hi,.int .u64 y0.t.Src.Lo,.bool y0.t.Dst.V6,.int .u64 y0.t.Dst.Hi,.int .u64 y0.t.Dst.Lo,.int .i64 y0.t.SPort,.int .i64 y0.t.DPort,fvV y0.v_.hello,fvV y0.v_.say,fvV y0.v_.hear,.int .u32 y0.clock,.int .u32 y0.echo,.string ⟨⟨y0.id_⟩⟩]]=some (rx42 x):=(Xh1 (Xci _)).trans (XaN hx)
def s42 (g:XcC):XbC:=⟨[.pt 15],r42 g⟩
theorem XUS {g:XcC} {y0:Xab} {x:Int×(List UInt8)×Xab} (hx:g y0=some x):(s42 g).run [.pointer (some ⟨0,0,none⟩)] [some [.int .i64 y0.t.Proto,.bool y0.t.Src.V6,.int .u64 y0.t.Src.Hi,.int .u64 y0.t.Src.Lo,.bool y0.t.Dst.V6,.int .u64 y0.t.Dst.Hi,.int .u64 y0.t.Dst.Lo,.int .i64 y0.t.SPort,.int .i64 y0.t.DPort,fvV y0.v_.hello,fvV y0.v_.say,fvV y0.v_.hear,.int .u32 y0.clock,.int .u32 y0.echo,.string ⟨⟨y0.id_⟩⟩]]=some (rx42 x):=r42_c hx
abbrev XS0 (Xae:Xap) (Xac:Xan):List (Nat×XbC):=[(72,s72 Xae Xac)]
theorem XM7 (Xae:Xap) (Xac:Xan) (hS:Xak Tryz.prog (XaD (XS0 Xae Xac))) (c:Xab) (res:Int×(List UInt8)×Xab) (h:Xhr Xae Xac c=some res) :
 XaF Tryz.prog 42 1 ⟨⟨42,15,[(0,.pointer (some ⟨0,0,none⟩))],[.code XR2],[],false,none⟩,[],[(0,.cells [.int .i64 c.t.Proto,.bool c.t.Src.V6,.int .u64 c.t.Src.Hi,.int .u64 c.t.Src.Lo,.bool c.t.Dst.V6,.int .u64 c.t.Dst.Hi,.int .u64 c.t.Dst.Lo,.int .i64 c.t.SPort,.int .i64 c.t.DPort,fvV c.v_.hello,fvV c.v_.say,fvV c.v_.hear,.int .u32 c.clock,.int .u32 c.echo,.string ⟨⟨c.id_⟩⟩])],1⟩ (fun v H _=>Res 1 (rx42 res) v H):=by
 unfold Xhr at h
 have R1:=@XsR Xae Xac
 refine Xa4 XaC hS true 3000 ?_
 conv=>whnf
 exact W
def XbO:XcC:=Xhr Xae Xac
theorem XSz:XbD Tryz.prog 42 (s42 XbO):=by
 have hL:=XM7 Xae Xac (Xak.XaJ ⟨XoC,trivial⟩)
 exact okA ⟨Tryz.f42,rfl,by decide,rfl⟩
def XCM:Option (List UInt8):=
 some ([0,0,0,0,0,0,0,0])
abbrev Xrd:=Option (List UInt8)
def Xrr:Xrd:=XCM
def Xks (XbT:Xc8) (XkF:Xn7) (Xfk:Xjz) (XbX:Xc3) (Xrr:Xrd) (c:XaY):Option ((List UInt8)×XaY):=
 cond (c.T.Proto==6)
  (
  (XbT c.Clock 0).bind fun s=>
  (XbX c.T 2 s []).bind fun s1=>
  some ((s1.1,c)))
  (
  (Xrr).bind fun n=>
  (XkF (Xay.mk true 0 1 n [0,0] [])).bind fun p=>
  (Xfk c.T p.1).bind fun d=>
  some ((d.1,c)))
abbrev XmV:=XaY→Option ((List UInt8)×XaY)
def Xk2:XmV:=Xks XbT XkF Xfk XbX Xrr
def XlC (XbT:Xc8) (XkF:Xn7) (Xfk:Xjz) (XbX:Xc3) (c:XaY) (flags:Int) (payload:List UInt8):Option ((List UInt8)×Int×XaY):=
 cond (c.T.Proto==6)
  (
  (XbT c.Clock c.Echo).bind fun s=>
  (XbX c.T flags s payload).bind fun s1=>
  some ((s1.1,s1.2,c)))
  (
  (XkF (Xay.mk false 0 0 c.ID [] payload)).bind fun p=>
  (Xfk c.T p.1).bind fun d=>
  some ((d.1,d.2,c)))
abbrev Xoj:=XaY→Int→(List UInt8)→Option ((List UInt8)×Int×XaY)
def Xmw:Xoj:=XlC XbT XkF Xfk XbX
def XpV (t:Xag):Option Xag:=
 some (Xag.mk t.Proto t.Dst t.Src t.DPort t.SPort)
def rx27 (x:Xag):XcU:=⟨.agg ⟨[.int .i64 x.Proto,.bool x.Src.V6,.int .u64 x.Src.Hi,.int .u64 x.Src.Lo,.bool x.Dst.V6,.int .u64 x.Dst.Hi,.int .u64 x.Dst.Lo,.int .i64 x.SPort,.int .i64 x.DPort]⟩,[],[]⟩
abbrev XeX:=Xag→Option Xag
def r27 (g:XeX):Dec:=dV Xet fun (y0:Xag)=>Xd2 (ofG (g y0) rx27)
theorem r27_c {g:XeX} {y0:Xag} {x:Xag} (hx:g y0=some x):r27 g [.agg ⟨[.int .i64 y0.Proto,.bool y0.Src.V6,.int .u64 y0.Src.Hi,.int .u64 y0.Src.Lo,.bool y0.Dst.V6,.int .u64 y0.Dst.Hi,.int .u64 y0.Dst.Lo,.int .i64 y0.SPort,.int .i64 y0.DPort]⟩] []=some (rx27 x):=(XaO (Xev _)).trans (XaN hx)
def s27 (g:XeX):XbC:=⟨[.v],r27 g⟩
theorem XWD {g:XeX} {y0:Xag} {x:Xag} (hx:g y0=some x):(s27 g).run [.agg ⟨[.int .i64 y0.Proto,.bool y0.Src.V6,.int .u64 y0.Src.Hi,.int .u64 y0.Src.Lo,.bool y0.Dst.V6,.int .u64 y0.Dst.Hi,.int .u64 y0.Dst.Lo,.int .i64 y0.SPort,.int .i64 y0.DPort]⟩] []=some (rx27 x):=r27_c hx
abbrev XTF:List (Nat×XbC):=[]
theorem XNY (hS:Xak Tryz.prog (XaD (XTF))) (t:Xag) (res:Xag) (h:XpV t=some res) :
 XaF Tryz.prog 27 0 ⟨⟨27,14,[(0,.agg ⟨[.int .i64 t.Proto,.bool t.Src.V6,.int .u64 t.Src.Hi,.int .u64 t.Src.Lo,.bool t.Dst.V6,.int .u64 t.Dst.Hi,.int .u64 t.Dst.Lo,.int .i64 t.SPort,.int .i64 t.DPort]⟩)],[.code XSu],[],false,none⟩,[],[],0⟩ (fun v H _=>Res 0 (rx27 res) v H):=by
 unfold XpV at h
 refine Xa4 XaC hS true 3000 ?_
 conv=>whnf
 exact W
def Xew:XeX:=XpV
theorem lift27:XbD Tryz.prog 27 (s27 Xew):=by
 have hL:=XNY (Xak.XaJ trivial)
 exact okA ⟨Tryz.f27,rfl,by decide,rfl⟩
def Xk1 (XgH:XgQ) (XbS:Xdo) (Xkg:XoG) (Xew:XeX) (c:XaY) (s:List UInt8):Option (Int×XaY):=
 (XbS s).bind fun p=>
 cond (p.2 !=0)
  (
  some ((p.2,c)))
  (
  (Xew c.T).bind fun b=>
  let t:=!((p.1.Tuple.Proto==b.Proto)&&((p.1.Tuple.Src.V6==b.Src.V6)&&((p.1.Tuple.Src.Hi==b.Src.Hi)&&((p.1.Tuple.Src.Lo==b.Src.Lo)&&((p.1.Tuple.Dst.V6==b.Dst.V6)&&((p.1.Tuple.Dst.Hi==b.Dst.Hi)&&((p.1.Tuple.Dst.Lo==b.Dst.Lo)&&((p.1.Tuple.SPort==b.SPort)&&((p.1.Tuple.DPort==b.DPort)&&true)))))))))
  cond (t)
   (
   some ((16,c)))
   (
   cond (p.1.Stamped)
    (
    (Xkg s).bind fun w=>
    Xbn (decide ((0:Int)≤w.2.1∧w.2.1≤(s.length:Int))) <|
    let t1:=(s.drop w.2.1.toNat).take (s.length - w.2.1.toNat)
    (XgH t1).bind fun xg=>
    cond (c.T.Proto==17)
     (
     cond (xg.2==0)
      (
      cond (xg.1.Long)
       (
       cond ((xg.1.SCID.length:Int)==8)
        (
        some ((0,XaY.mk c.T c.Clock p.1.Val xg.1.SCID)))
        (
        some ((0,XaY.mk c.T c.Clock p.1.Val c.ID))))
       (
       some ((0,XaY.mk c.T c.Clock p.1.Val c.ID))))
      (
      some ((0,XaY.mk c.T c.Clock p.1.Val c.ID))))
     (
     some ((0,XaY.mk c.T c.Clock p.1.Val c.ID))))
    (
    (Xkg s).bind fun w1=>
    Xbn (decide ((0:Int)≤w1.2.1∧w1.2.1≤(s.length:Int))) <|
    let t2:=(s.drop w1.2.1.toNat).take (s.length - w1.2.1.toNat)
    (XgH t2).bind fun xg1=>
    cond (c.T.Proto==17)
     (
     cond (xg1.2==0)
      (
      cond (xg1.1.Long)
       (
       cond ((xg1.1.SCID.length:Int)==8)
        (
        some ((0,XaY.mk c.T c.Clock c.Echo xg1.1.SCID)))
        (
        some ((0,c))))
       (
       some ((0,c))))
      (
      some ((0,c))))
     (
     some ((0,c))))))
abbrev XnC:=XaY→(List UInt8)→Option (Int×XaY)
def Xlq:XnC:=Xk1 XgH XbS Xkg Xew
end Go.Vm.Code
namespace Go.Vm.Code
open Go Go.Vm
def XlN (p:Int):Xbi:=cond (p==6) ⟨some 117,some 120,some 121⟩ ⟨some 122,some 124,some 125⟩
def Xk7 (x:XaY):Xab:=⟨x.T,XlN x.T.Proto,x.Clock,x.Echo,x.ID⟩
structure XzH (x:XaY):Prop where
 src:A4 x.T.Src
 dst:A4 x.T.Dst
 proto:x.T.Proto=6∨x.T.Proto=17
 clock:0≤x.Clock∧x.Clock<4294967296
 echo:0≤x.Echo∧x.Echo<4294967296
 name:x.ID.length=8
def Xou:List UInt8:=[0,0,0,0,0,0,0,0]
theorem XVN:strings_Repeat [0] 8=some Xou:=by decide +kernel
theorem XGI:Xrr=some Xou:=rfl
theorem XtP {x:XaY} (h:XzH x):Xae (Xk7 x)=some (true,Xk7 x):=by
 rcases h.proto with e|e<;>simp [Xae,Xfx,Xk7,XlN,e]
def Xv6 (x:XaY) (h:Xay):List UInt8×Int:=Xt7 x.T (XBY h).1
def XrO (x:XaY):List UInt8:=cond (x.T.Proto==6) (Xnc x.T 2 (XcS x.Clock.toNat 0) []).1 (Xv6 x ⟨true,0,1,Xou,[0,0],[]⟩).1
def XwR (x:XaY) (f:Int) (l:List UInt8):List UInt8×Int:=cond (x.T.Proto==6) (Xnc x.T f (XcS x.Clock.toNat x.Echo.toNat) l) (Xv6 x ⟨false,0,0,x.ID,[],l⟩)
theorem Xwj {h:Xay} (hk:HOK h):(XoK h).length≤60+h.Rest.length:=by
 unfold XoK
 obtain ⟨_,h2⟩:=hk
 split
 ·rename_i c;rw [if_pos c] at h2;simp only [List.length_append,Xe4];omega
 ·rename_i c;rw [if_neg c] at h2;simp only [List.length_append,Xe4];omega
theorem sd43 {a b:Int} (ha:0≤a∧a<4294967296) (hb:0≤b∧b<4294967296):Xb2 a b=some (XcS a.toNat b.toNat)∧XbT a b=some (XcS a.toNat b.toNat):=by
 have h1:=XM8 (v:=a.toNat) (e:=b.toNat) (by omega) (by omega)
 have h2:=XLr (v:=a.toNat) (e:=b.toNat) (by omega) (by omega)
 rw [Int.toNat_of_nonneg ha.1,Int.toNat_of_nonneg hb.1] at h1 h2
 exact ⟨h1,h2⟩
theorem Xre (a b:Nat):(XcS a b).length=12:=by simp [XcS]
theorem XxT {t:Xag} {h:Xay} (h1:A4 t.Src) (h2:A4 t.Dst) (hk:HOK h) (hv:0≤h.Version∧h.Version<2^32) (hr:h.Rest.length<2^17) :
 Xa6 t h=some (Xt7 t (XBY h).1)∧XkF h=some (XBY h)∧Xfk t (XBY h).1=some (Xt7 t (XBY h).1):=by
 have e:XBY h=(XoK h,0):=if_pos hk
 have hl:=Xwj hk
 refine ⟨?_,XGf hv (by omega),XAE h1 h2 (by rw [e];simp only [];omega)⟩
 unfold Xa6 Xhi
 rw [XMV hv (by omega),Option.bind_some,e,show ((XoK h,(0:Int)).2 !=0)=false from rfl,cond_false,XAb h1 h2 (by simp only [];omega)]
 rfl
theorem hokH:HOK ⟨true,0,1,Xou,[0,0],[]⟩:=by refine ⟨by simp only [];omega,?_⟩;rw [if_pos rfl];exact ⟨by decide,by decide⟩
theorem hokS {i l:List UInt8} (h:i.length=8):HOK ⟨false,0,0,i,[],l⟩:=by refine ⟨by simp only [];omega,?_⟩;rw [if_neg (by simp)];exact ⟨h,rfl,rfl⟩
theorem XwG {x:XaY} (h:XzH x):Xau (Xk7 x)=some (XrO x,Xk7 x)∧Xk2 x=some (XrO x,x):=by
 have h1:=h.src
 have h2:=h.dst
 obtain ⟨d1,d2,d3⟩:=XxT h1 h2 hokH (by decide) (by decide)
 obtain ⟨s1,s2⟩:=sd43 h.clock (b:=0) (by decide)
 have g:=XtP h
 unfold Xau Xft Xk2 Xks XrO Xv6
 rw [g,Option.bind_some,show (!(true,Xk7 x).1)=false from rfl,cond_false]
 rcases h.proto with e|e
 ·have e1:(x.T.Proto==6)=true:=by simp [e]
  have ev:(Xk7 x).v_=⟨some 117,some 120,some 121⟩:=by simp [Xk7,XlN,e]
  rw [e1]
  simp only [cond_true,ev,Option.elim_some]
  rw [show ((117:Nat)==117)=true from rfl,cond_true]
  unfold Xct XgW
  simp only []
  rw [show (Xk7 x).clock=x.Clock from rfl,show (Xk7 x).t=x.T from rfl,s1,s2]
  simp only [Option.bind_some]
  rw [XsI h1 h2 (by rw [Xre];decide) (by decide),XpC h1 h2 (by rw [Xre];decide) (by decide)]
  refine ⟨?_,rfl⟩
  simp only [Option.bind_some]
  rw [←ev];rfl
 ·have e1:(x.T.Proto==6)=false:=by simp [e]
  have ev:(Xk7 x).v_=⟨some 122,some 124,some 125⟩:=by simp [Xk7,XlN,e]
  rw [e1]
  simp only [cond_false,ev,Option.elim_some]
  rw [show ((122:Nat)==117)=false from rfl,show ((122:Nat)==122)=true from rfl,cond_true,cond_false]
  unfold Xc6 Xh4
  rw [XVN,XGI]
  simp only [Option.bind_some]
  rw [show (Xk7 x).t=x.T from rfl,d1,d2]
  simp only [Option.bind_some,d3]
  refine ⟨?_,trivial⟩
  rw [←ev];rfl
theorem XC5 {x:XaY} (h:XzH x) {f:Int} {l:List UInt8} (hl:l.length<2^16):XaE (Xk7 x) f l=some ((XwR x f l).1,(XwR x f l).2,Xk7 x)∧Xmw x f l=some ((XwR x f l).1,(XwR x f l).2,x):=by
 have h1:=h.src
 have h2:=h.dst
 obtain ⟨d1,d2,d3⟩:=XxT h1 h2 (hokS (l:=l) h.name) (by simp only [];omega) (by simp only [];omega)
 obtain ⟨s1,s2⟩:=sd43 h.clock h.echo
 have g:=XtP h
 unfold XaE Xgw Xmw XlC XwR Xv6
 rw [g,Option.bind_some,show (!(true,Xk7 x).1)=false from rfl,cond_false]
 rcases h.proto with e|e
 ·have e1:(x.T.Proto==6)=true:=by simp [e]
  have ev:(Xk7 x).v_=⟨some 117,some 120,some 121⟩:=by simp [Xk7,XlN,e]
  rw [e1]
  simp only [cond_true,ev,Option.elim_some]
  rw [show ((120:Nat)==120)=true from rfl,cond_true]
  unfold Xcr XgS
  simp only []
  rw [show (Xk7 x).clock=x.Clock from rfl,show (Xk7 x).echo=x.Echo from rfl,show (Xk7 x).t=x.T from rfl,s1,s2]
  simp only [Option.bind_some]
  rw [XsI h1 h2 (by rw [Xre];decide) (by omega),XpC h1 h2 (by rw [Xre];decide) (by omega)]
  refine ⟨?_,rfl⟩
  simp only [Option.bind_some]
  rw [←ev];rfl
 ·have e1:(x.T.Proto==6)=false:=by simp [e]
  have ev:(Xk7 x).v_=⟨some 122,some 124,some 125⟩:=by simp [Xk7,XlN,e]
  rw [e1]
  simp only [cond_false,ev,Option.elim_some]
  rw [show ((124:Nat)==120)=false from rfl,show ((124:Nat)==124)=true from rfl,cond_true,cond_false]
  unfold Xc4 Xh7
  simp only []
  rw [show (Xk7 x).t=x.T from rfl,show (Xk7 x).id_=x.ID from rfl,d1,d2]
  simp only [Option.bind_some,d3]
  refine ⟨?_,trivial⟩
  rw [←ev];rfl
theorem Xzr:∀ l,(0≤(stL l).1∧(stL l).1<4294967296)∧0≤(stL l).2.1∧(stL l).2.1<4294967296
 | []=>by simp [stL]
 | o::l=>by
   unfold stL
   split
   ·split
    ·exact ⟨XfW o.Data 0 4 4294967296 (by decide),XfW o.Data 4 4 4294967296 (by decide)⟩
    ·simp
   ·exact Xzr l
theorem z43:(0:Int)≤0∧(0:Int)<4294967296:=by decide
theorem XHz (o:O11) (n:Nat):(0≤(XhW o n).1.Val∧(XhW o n).1.Val<4294967296)∧((XhW o n).1.Tuple.Proto=17→(XhW o n).1.Stamped=false):=by
 unfold XhW
 split
 ·rename_i h6
  split
  ·exact ⟨z43,fun _=>rfl⟩
  ·refine ⟨?_,fun h=>by simp only [] at h;omega⟩
   simp only [Xvo]
   split
   ·exact (Xzr _).1
   ·decide
 ·split
  ·split
   ·exact ⟨z43,fun _=>rfl⟩
   ·split
    ·exact ⟨z43,fun _=>rfl⟩
    ·exact ⟨z43,fun _=>rfl⟩
  ·exact ⟨z43,fun _=>rfl⟩
theorem XE7 (s:List UInt8):(0≤(Xbm s).1.Val∧(Xbm s).1.Val<4294967296)∧((Xbm s).1.Tuple.Proto=17→(Xbm s).1.Stamped=false):=by
 unfold Xbm
 repeat' split
 all_goals first|exact XHz _ _|exact ⟨z43,fun _=>rfl⟩
def Xna (t:Xag):Xag:=⟨t.Proto,t.Dst,t.Src,t.DPort,t.SPort⟩
theorem Xtu (t:Xag):Xe9 t=some (Xna t)∧Xew t=some (Xna t):=⟨rfl,rfl⟩
def XyD (a b:Xag):Bool:=(a.Proto==b.Proto)&&((a.Src.V6==b.Src.V6)&&((a.Src.Hi==b.Src.Hi)&&((a.Src.Lo==b.Src.Lo)&&((a.Dst.V6==b.Dst.V6)&&((a.Dst.Hi==b.Dst.Hi)&&((a.Dst.Lo==b.Dst.Lo)&&((a.SPort==b.SPort)&&((a.DPort==b.DPort)&&true))))))))
theorem XtI {a b:Xag}:XyD a b=true↔a=b:=by
 unfold XyD
 obtain ⟨a1,⟨a2,a3,a4⟩,⟨a5,a6,a7⟩,a8,a9⟩:=a
 obtain ⟨b1,⟨b2,b3,b4⟩,⟨b5,b6,b7⟩,b8,b9⟩:=b
 simp [and_assoc]
def Xj0 (s:List UInt8):List UInt8:=(s.drop (Xbm s).2.2.1).take (s.length - (Xbm s).2.2.1)
def Xuf (x:XaY) (s:List UInt8):XaY:=
 cond (x.T.Proto==6) (cond (Xbm s).1.Stamped ⟨x.T,x.Clock,(Xbm s).1.Val,x.ID⟩ x) (if (Xpt (Xj0 s)).2=0∧(Xpt (Xj0 s)).1.Long=true∧(Xpt (Xj0 s)).1.SCID.length=8 then ⟨x.T,x.Clock,x.Echo,(Xpt (Xj0 s)).1.SCID⟩ else x)
def Xrf (x:XaY) (s:List UInt8):Int×XaY:=
 if (Xbm s).2.2.2≠0 then ((Xbm s).2.2.2,x) else if (Xbm s).1.Tuple=Xna x.T then (0,Xuf x s) else (16,x)
theorem ne43 {n:Int} (h:n≠0):(n !=0)=true:=bne_iff_ne.2 h
theorem Xya {x:XaY} (h:XzH x) {s:List UInt8} (hs:s.length<2^18):Xax (Xk7 x) s=some ((Xrf x s).1,Xk7 (Xrf x s).2)∧Xlq x s=some (Xrf x s):=by
 have hp:=XDA (s:=s) (by omega)
 have hrp:=Xpy (s:=s) (by omega)
 have hw:=XFT (s:=s) (by omega)
 have hrw:=Xzs (s:=s) (by omega)
 have hle:=(XsG s).2
 have hrl:(Xj0 s).length<2^38:=by unfold Xj0;simp only [List.length_take,List.length_drop];omega
 obtain ⟨b1,b2⟩:=Xtu x.T
 have rng:=XE7 s
 have g:=XtP h
 unfold Xax Xf9 Xlq Xk1 Xrf
 rw [g,Option.bind_some,show (!(true,Xk7 x).1)=false from rfl,cond_false,hp,hrp,Option.bind_some,Option.bind_some]
 try simp only []
 by_cases c0:(Xbm s).2.2.2=0
 ·rw [c0,show ((0:Int) !=0)=false from rfl,cond_false,cond_false,show (Xk7 x).t=x.T from rfl,b1,b2,Option.bind_some,Option.bind_some,if_neg (by simp)]
  try simp only []
  have hst:∀ b:Xag,((Xbm s).1.Tuple.Proto==b.Proto&&((Xbm s).1.Tuple.Src.V6==b.Src.V6&&((Xbm s).1.Tuple.Src.Hi==b.Src.Hi&&((Xbm s).1.Tuple.Src.Lo==b.Src.Lo&&((Xbm s).1.Tuple.Dst.V6==b.Dst.V6&&((Xbm s).1.Tuple.Dst.Hi==b.Dst.Hi&&((Xbm s).1.Tuple.Dst.Lo==b.Dst.Lo&&((Xbm s).1.Tuple.SPort==b.SPort&&((Xbm s).1.Tuple.DPort==b.DPort&&true)))))))))=XyD (Xbm s).1.Tuple b:=fun b=>rfl
  rw [hst]
  by_cases c1:(Xbm s).1.Tuple=Xna x.T
  ·rw [XtI.2 c1,if_pos c1,Bool.not_true,cond_false,cond_false]
   have hpr:(Xbm s).1.Tuple.Proto=x.T.Proto:=by rw [c1];rfl
   have hq:=Xu5 hrl
   have hrq:=Xv8 hrl
   have ho:∀ {α:Type} (y:Option α),Xbn (decide ((0:Int)≤(((Xbm s).2.2.1:Nat):Int)∧(((Xbm s).2.2.1:Nat):Int)≤(s.length:Int))) y=y:=fun y=>Xat (by omega)
   have hrs:List.take (s.length - (Xbm s).2.2.1) (List.drop (Xbm s).2.2.1 s)=Xj0 s:=rfl
   simp only [hrw,Option.bind_some,ho,Int.toNat_natCast,hrs,hrq]
   unfold Xuf
   rcases h.proto with e|e
   ·have e1:(x.T.Proto==6)=true:=by simp [e]
    have e2:(x.T.Proto==17)=false:=by simp [e]
    have ev:(Xk7 x).v_=⟨some 117,some 120,some 121⟩:=by simp [Xk7,XlN,e]
    rw [e1,e2]
    simp only [cond_true,cond_false,ev,Option.elim_some]
    rw [show ((121:Nat)==121)=true from rfl,cond_true]
    unfold Xcq XgZ
    cases c2:(Xbm s).1.Stamped
    ·simp only [cond_false,Option.bind_some]
     refine ⟨?_,by trivial⟩
     rw [←ev];rfl
    ·simp only [cond_true,Option.bind_some]
     refine ⟨?_,by trivial⟩
     rw [←ev];rfl
   ·have e1:(x.T.Proto==6)=false:=by simp [e]
    have e2:(x.T.Proto==17)=true:=by simp [e]
    have ev:(Xk7 x).v_=⟨some 122,some 124,some 125⟩:=by simp [Xk7,XlN,e]
    have c2:(Xbm s).1.Stamped=false:=rng.2 (by rw [hpr];exact e)
    rw [e1,e2,c2]
    simp only [cond_true,cond_false,ev,Option.elim_some]
    rw [show ((125:Nat)==121)=false from rfl,show ((125:Nat)==125)=true from rfl,cond_true,cond_false]
    unfold Xc7 Xh2
    simp only [hw,Option.bind_some,ho,Int.toNat_natCast,hrs,hq]
    by_cases q0:(Xpt (Xj0 s)).2=0
    ·rw [show ((Xpt (Xj0 s)).2==0)=true by simp [q0],cond_true,cond_true]
     cases q1:(Xpt (Xj0 s)).1.Long
     ·rw [cond_false,cond_false,if_neg (by simp)]
      refine ⟨?_,by trivial⟩
      rw [Option.bind_some,←ev];rfl
     ·rw [cond_true,cond_true]
      by_cases q2:(Xpt (Xj0 s)).1.SCID.length=8
      ·rw [show (((Xpt (Xj0 s)).1.SCID.length:Int)==8)=true by simp [q2],cond_true,cond_true,if_pos ⟨q0,rfl,q2⟩]
       refine ⟨?_,by trivial⟩
       rw [Option.bind_some,←ev];rfl
      ·rw [show (((Xpt (Xj0 s)).1.SCID.length:Int)==8)=false by rw [beq_eq_false_iff_ne];omega,cond_false,cond_false,if_neg (fun q=>q2 q.2.2)]
       refine ⟨?_,by trivial⟩
       rw [Option.bind_some,←ev];rfl
    ·rw [show ((Xpt (Xj0 s)).2==0)=false by simp [q0],cond_false,cond_false,if_neg (fun q=>q0 q.1)]
     refine ⟨?_,by trivial⟩
     rw [Option.bind_some,←ev];rfl
  ·have c2:XyD (Xbm s).1.Tuple (Xna x.T)=false:=by
    cases hh:XyD (Xbm s).1.Tuple (Xna x.T)
    ·rfl
    ·exact absurd (XtI.1 hh) c1
   rw [c2,if_neg c1,Bool.not_false,cond_true,cond_true]
   exact ⟨rfl,rfl⟩
 ·rw [ne43 c0,cond_true,cond_true,if_pos c0]
  exact ⟨rfl,rfl⟩
theorem XAG {a:Xaa} (h:adr a=true):aok a=true:=by
 unfold adr at h;unfold aok
 cases hv:a.V6
 ·rw [hv] at h
  simp only [Bool.false_or,Bool.and_eq_true,decide_eq_true_eq] at h ⊢
  exact ⟨beq_iff_eq.2 h.1,h.2⟩
 ·rfl
structure XqD (t:Xag):Prop where
 src:A4 t.Src
 dst:A4 t.Dst
 sa:aok t.Src=true
 da:aok t.Dst=true
 six:t.Src.V6=t.Dst.V6
 sp:0≤t.SPort∧t.SPort≤65535
 dp:0≤t.DPort∧t.DPort≤65535
theorem XP1 {t:Xag} (h1:A4 t.Src) (h2:A4 t.Dst) (h:XHc t=true):XqD t:=by
 have h3:=XFM h
 have h4:t.Src.V6=t.Dst.V6:=by
  unfold XHc at h
  simp only [Bool.and_eq_true] at h
  exact eq_of_beq h.2.2.2.2.2
 exact ⟨h1,h2,XAG h3.2.2.2.1,XAG h3.2.2.2.2,h4,h3.2.1,h3.2.2.1⟩
theorem XAY {t:Xag} (h:XqD t):XqD (Xna t):=⟨h.dst,h.src,h.da,h.sa,h.six.symm,h.dp,h.sp⟩
theorem XBj {a:Xaa} (h:aok a=true) (v:a.V6=false):four a=true:=by
 unfold four;rw [v,h];rfl
theorem XwV {t:Xag} {b:List UInt8} (h:XqD t) (hp:t.Proto=6∨t.Proto=17) (hb:b.length≤8000):(Xho t b).2=0:=by
 have key:(XnG t b).2=0∧(XnG t b).1.length≤9000:=by
  unfold XnG
  cases v:t.Src.V6
  ·have h5:H5 (Xk6 t)=true:=by
    have f1:=XBj h.sa v
    have f2:=XBj h.da (h.six▸v)
    unfold H5 Xk6
    simp only [f1,f2,Bool.and_true,Bool.and_eq_true]
    refine ⟨⟨⟨⟨⟨?_,?_⟩,?_⟩,?_⟩,?_⟩,?_⟩
    all_goals first|rfl|(rcases hp with e|e<;>rw [e]<;>rfl)
   rw [cond_false]
   unfold XJ2
   rw [if_neg (by rw [h5];decide),if_neg (by show ¬ (65535 - (20+(([]:List UInt8).length:Int))<(b.length:Int));simp only [List.length_nil];omega)]
   refine ⟨rfl,?_⟩
   have e1:=XoW (hd5 (Xk6 t) (20+(Xk6 t).Options.length+b.length)) 10 2 (65535 - (norm (Xfp (hd5 (Xk6 t) (20+(Xk6 t).Options.length+b.length))):Nat))
   have e2:=XuT (Xk6 t) (20+(Xk6 t).Options.length+b.length)
   have e3:(Xk6 t).Options.length=0:=rfl
   simp only [List.length_append]
   omega
  ·have h6:H6 (Xnd t):=⟨by show (0:Int)≤0∧(0:Int)≤255;decide,by show (0:Int)≤0∧(0:Int)≤1048575;decide,by show 0≤t.Proto∧t.Proto≤255;omega,by show (0:Int)≤64∧(64:Int)≤255;decide,v,h.six▸v⟩
   rw [cond_true]
   unfold XKb
   rw [if_neg (by simpa using h6),if_neg (by omega)]
   refine ⟨rfl,?_⟩
   simp only [List.length_append,Xnk];omega
 unfold Xho
 have hn:¬ (t.Src.V6≠t.Dst.V6∨aok t.Src=false∨aok t.Dst=false∨(t.Proto≠6∧t.Proto≠17)):=by
  rintro (a|a|a|⟨a,b⟩)
  ·exact a h.six
  ·rw [h.sa] at a;cases a
  ·rw [h.da] at a;cases a
  ·omega
 rw [if_neg hn,if_neg (by omega)]
 exact key.1
theorem XPp {src dst:Xaa} (h1:aok src=true) (h2:aok dst=true) (h3:src.V6=dst.V6) (p n:Int):Xlb src dst p n≠[]:=by
 unfold Xlb
 rw [if_pos ⟨h1,h2,h3⟩]
 intro e
 have e2:=(List.append_eq_nil_iff.1 e).2
 cases hv:src.V6
 ·rw [hv,cond_false] at e2
  have e3:=(List.append_eq_nil_iff.1 (List.append_eq_nil_iff.1 e2).1).1
  exact absurd e3 (by decide)
 ·rw [hv,cond_true] at e2
  have e3:=(List.append_eq_nil_iff.1 (List.append_eq_nil_iff.1 e2).1).2
  exact absurd e3 (by decide)
theorem Xrx {t:Xag} (h:XqD t) (hp:t.Proto=6) {f:Int} (hf:0≤f∧f≤255) {v e:Nat} (hv:v<4294967296) (he:e<4294967296) {l:List UInt8} (hl:l.length≤1000) :
 (Xnc t f (XcS v e) l).2=0∧(Xnc t f (XcS v e) l).1.length≤9000∧∃ n a b,Xbm (Xnc t f (XcS v e) l).1=(⟨t,f,true,v,e,false,[],n⟩,a,b,0):=by
 have hsl:=Xre v e
 have hst:=Xso hv he
 have ho:=XoM (d:=be v 4++be e 4) (by simp)
 have hw:W7 ⟨t.SPort,t.DPort,0,0,f,65535,0,XcS v e⟩:=⟨by simp only [];omega,by simp only [];omega⟩
 have d0:(XoL ⟨t.SPort,t.DPort,0,0,f,65535,0,XcS v e⟩ t.Src t.Dst l).2=0:=by
  unfold XoL
  have hh:H7 ⟨t.SPort,t.DPort,0,0,f,65535,0,XcS v e⟩=true:=by
   unfold H7
   simp only [Bool.and_eq_true,XuK,decide_eq_true_eq,hsl]
   exact ⟨⟨⟨⟨⟨⟨h.sp,h.dp⟩,by decide⟩,by decide⟩,hf⟩,by decide⟩,by decide⟩
  rw [if_neg (by rw [hh];decide),if_neg (XPp h.sa h.da h.six _ _),if_neg (by simp only [hsl];omega)]
 have hlen:=XrD ⟨t.SPort,t.DPort,0,0,f,65535,0,XcS v e⟩ t.Src t.Dst l
 simp only [hsl] at hlen
 have g0:=XwV (b:=(XoL ⟨t.SPort,t.DPort,0,0,f,65535,0,XcS v e⟩ t.Src t.Dst l).1) h (.inl hp) (by omega)
 have hs:Xnc t f (XcS v e) l=Xho t (XoL ⟨t.SPort,t.DPort,0,0,f,65535,0,XcS v e⟩ t.Src t.Dst l).1:=by
  unfold Xnc
  rw [if_neg (by simpa using hp),if_neg (by simpa using d0)]
 rw [hs]
 refine ⟨g0,(Xvh g0).2,?_⟩
 have hi:=XQ0 (t:=t) (l:=l) (z:=cond t.Src.V6 40 20) (n:=(Xho t (XoL ⟨t.SPort,t.DPort,0,0,f,65535,0,XcS v e⟩ t.Src t.Dst l).1).1.length) hw (by show (Xmq (XcS v e)).2=0;unfold XcS;rw [ho]) d0 hp
 have htm:=XAV h.src h.dst g0
 rw [hi,if_neg (by simp)] at htm
 have hs11:Xvo (XcS v e)=(true,(v:Int),(e:Int)):=by unfold Xvo;rw [hst];rfl
 simp only [hs11] at htm
 exact ⟨_,_,_,htm⟩
end Go.Vm.Code
namespace Go.Vm.Code
open Go Go.Vm Go.Proofs
set_option maxRecDepth 100000
set_option maxHeartbeats 4000000
set_option linter.unusedVariables false
def Xlp (XbS:Xdo) (XbO:XcC) (XbY:XcE) (Xbf:Xb1) (Xau:Xbb) (Xas:XaX) (XaE:Xbv) (Xaw:Xa3) (Xax:Xby) (strings_Repeat:XbP) (XbR:Xc9):Option Bool:=
 (XbR (Xag.mk 6 (Xaa.mk false 0 0) (Xaa.mk false 0 0) 0 0)).bind fun xr=>
 cond (!xr)
  (
  (Xas).bind fun n=>
  (XbS n).bind fun p=>
  (XbR (Xag.mk 7 (Xaa.mk false 0 0) (Xaa.mk false 0 0) 0 0)).bind fun xr1=>
  cond (!xr1)
   (
   (Xbf 1).bind fun n1=>
   (XbY (Xab.mk (Xag.mk 0 (Xaa.mk false 0 0) (Xaa.mk false 0 0) 0 0) (Xbi.mk none none none) 0 0 []) 1).bind fun xg=>
   (Xaw 0 []).bind fun n2=>
   (XbO xg).bind fun e=>
   some (false))
   (
   (strings_Repeat [0] 8).bind fun xr2=>
   (Xbf 1).bind fun n3=>
   (XbY (Xab.mk (Xag.mk 0 (Xaa.mk false 0 0) (Xaa.mk false 0 0) 0 0) (Xbi.mk none none none) 0 0 []) 1).bind fun xg1=>
   (Xaw 0 []).bind fun n4=>
   (XbO xg1).bind fun e1=>
   some (false)))
  (
  (strings_Repeat [0] 8).bind fun xr3=>
  (Xau (Xab.mk (Xag.mk 6 (Xaa.mk false 0 0) (Xaa.mk false 0 0) 0 0) (Xbi.mk (some 117) (some 120) (some 121)) 1 0 xr3)).bind fun xh=>
  (XbS xh.1).bind fun p1=>
  (XbR (Xag.mk 7 (Xaa.mk false 0 0) (Xaa.mk false 0 0) 0 0)).bind fun xr4=>
  cond (!xr4)
   (
   (Xbf 1).bind fun n5=>
   (XbY (Xab.mk (Xag.mk 0 (Xaa.mk false 0 0) (Xaa.mk false 0 0) 0 0) (Xbi.mk none none none) 0 0 []) 1).bind fun xg2=>
   (Xaw 0 []).bind fun n6=>
   (XbO xg2).bind fun e2=>
   cond (p1.2==0)
    (
    cond (p1.1.Flags==2)
     (
     cond (n6.2==1)
      (
      (Xax e2.2.2 []).bind fun t=>
      cond (t.1==1)
       (
       (Xas).bind fun n7=>
       cond (n7==[])
        (
        cond (e2.1==0)
         (
         some (e2.2.1==[]))
         (
         some (false)))
        (
        some (false)))
       (
       some (false)))
      (
      some (false)))
     (
     some (false)))
    (
    some (false)))
   (
   (strings_Repeat [0] 8).bind fun xr5=>
   (Xbf 1).bind fun n8=>
   (XbY (Xab.mk (Xag.mk 0 (Xaa.mk false 0 0) (Xaa.mk false 0 0) 0 0) (Xbi.mk none none none) 0 0 []) 1).bind fun xg3=>
   (Xaw 0 []).bind fun n9=>
   (XbO xg3).bind fun e3=>
   cond (p1.2==0)
    (
    cond (p1.1.Flags==2)
     (
     cond (n9.2==1)
      (
      (Xax e3.2.2 []).bind fun t1=>
      cond (t1.1==1)
       (
       (Xas).bind fun n10=>
       cond (n10==[])
        (
        cond (e3.1==0)
         (
         some (e3.2.1==[]))
         (
         some (false)))
        (
        some (false)))
       (
       some (false)))
      (
      some (false)))
     (
     some (false)))
    (
    some (false))))
def rx32 (x:Bool):XcU:=⟨.bool x,[],[]⟩
abbrev Xd5:=Option Bool
def r32 (g:Xd5):Dec:=Xd2 (ofG (g) rx32)
theorem r32_c {g:Xd5} {x:Bool} (hx:g=some x):r32 g [] []=some (rx32 x):=XaN hx
def s32 (g:Xd5):XbC:=⟨[],r32 g⟩
theorem XHR {g:Xd5} {x:Bool} (hx:g=some x):(s32 g).run [] []=some (rx32 x):=r32_c hx
abbrev XSQ (XbS:Xdo) (XbO:XcC) (XbY:XcE) (Xbf:Xb1) (Xau:Xbb) (Xas:XaX) (XaE:Xbv) (Xaw:Xa3) (Xax:Xby) (strings_Repeat:XbP) (XbR:Xc9):List (Nat×XbC):=[(28,s28 XbS),(42,s42 XbO),(41,s41 XbY Xbf),(35,s35 Xau Xas),(37,s37 XaE Xaw),(39,s39 Xax),(68,s68 strings_Repeat),(67,s67 XbR)]
theorem XJ8 (XbS:Xdo) (XbO:XcC) (XbY:XcE) (Xbf:Xb1) (Xau:Xbb) (Xas:XaX) (XaE:Xbv) (Xaw:Xa3) (Xax:Xby) (strings_Repeat:XbP) (XbR:Xc9) (hS:Xak Tryz.prog (XaD (XSQ XbS XbO XbY Xbf Xau Xas XaE Xaw Xax strings_Repeat XbR))) (res:Bool) (h:Xlp XbS XbO XbY Xbf Xau Xas XaE Xaw Xax strings_Repeat XbR=some res) :
 XaF Tryz.prog 32 0 ⟨⟨32,82,[],[.code XI9],[],false,none⟩,[],[],0⟩ (fun v H _=>Res 0 (rx32 res) v H):=by
 unfold Xlp at h
 have R1:=@XHL XbR
 have R2:=@XMm Xau Xas
 have R3:=@XHV XbS
 have R4:=@XKk XbY Xbf
 have R5:=@XR4 XbY Xbf
 have R6:=@XPl XaE Xaw
 have R7:=@XUS XbO
 have R8:=@XyM strings_Repeat
 have R9:=@XIe Xau Xas
 have R10:=@XI0 Xax
 refine Xa4 XaC hS true 3000 ?_
 conv=>whnf
 exact W
def Xca:Xd5:=Xlp XbS XbO XbY Xbf Xau Xas XaE Xaw Xax strings_Repeat XbR
theorem lift32:XbD Tryz.prog 32 (s32 Xca):=by
 have hL:=XJ8 XbS XbO XbY Xbf Xau Xas XaE Xaw Xax strings_Repeat XbR (Xak.XaJ ⟨XTP,XSz,XUa,XVy,XQ4,XTU,XIJ,XVG,trivial⟩)
 exact okA ⟨Tryz.f32,rfl,by decide,rfl⟩
def XdP (XbT:Xc8) (XbS:Xdo) (XbX:Xc3) (Xew:XeX) (Xau:Xbb) (XaE:Xbv) (Xax:Xby) (Xca:Xd5) (t:Xag) (l:List Int) (flags:Int) (payload:List UInt8) (last:Int) (i:Int) (c:Xab):Option (Sum (Int×Int×Xab) Bool):=
 cond (decide (i<(l.length:Int)))
  (
  (Xew (Xag.mk 6 t.Src t.Dst t.SPort t.DPort)).bind fun b=>
  Xbn (decide ((0:Int)≤i∧i<(l.length:Int))) <|
  (l[i.toNat]?).bind fun (e:Int)=>
  (XbT e 9).bind fun s=>
  (XbX b 16 s []).bind fun s1=>
  cond (s1.2 !=0)
   (
   some (.inr (false)))
   (
   (Xax c s1.1).bind fun t1=>
   cond (t1.1 !=0)
    (
    some (.inr (false)))
    (
    Xbn (decide ((0:Int)≤i∧i<(l.length:Int))) <|
    (l[i.toNat]?).bind fun (e1:Int)=>
    some (.inl (e1,wI .i64 (i+1),t1.2)))))
  (
  (XaE c (wI .i64 flags) payload).bind fun s2=>
  (XbS s2.1).bind fun p=>
  (Xau s2.2.2).bind fun xh=>
  (XbS xh.1).bind fun p1=>
  cond (s2.2.1==0)
   (
   cond (p.2==0)
    (
    let t2:=(p.1.Tuple.Proto==6)&&((p.1.Tuple.Src.V6==t.Src.V6)&&((p.1.Tuple.Src.Hi==t.Src.Hi)&&((p.1.Tuple.Src.Lo==t.Src.Lo)&&((p.1.Tuple.Dst.V6==t.Dst.V6)&&((p.1.Tuple.Dst.Hi==t.Dst.Hi)&&((p.1.Tuple.Dst.Lo==t.Dst.Lo)&&((p.1.Tuple.SPort==t.SPort)&&((p.1.Tuple.DPort==t.DPort)&&true))))))))
    cond (t2)
     (
     cond (p.1.Echo==last)
      (
      cond (p.1.Flags==(wI .i64 flags))
       (
       cond (p1.2==0)
        (
        cond (p1.1.Flags==2)
         (
         let t3:=(p1.1.Tuple.Proto==6)&&((p1.1.Tuple.Src.V6==t.Src.V6)&&((p1.1.Tuple.Src.Hi==t.Src.Hi)&&((p1.1.Tuple.Src.Lo==t.Src.Lo)&&((p1.1.Tuple.Dst.V6==t.Dst.V6)&&((p1.1.Tuple.Dst.Hi==t.Dst.Hi)&&((p1.1.Tuple.Dst.Lo==t.Dst.Lo)&&((p1.1.Tuple.SPort==t.SPort)&&((p1.1.Tuple.DPort==t.DPort)&&true))))))))
         cond (t3)
          (
          cond (p1.1.Stamped)
           (
           (Xca).bind fun a3=>
           some (.inr (a3)))
           (
           some (.inr (false))))
          (
          some (.inr (false))))
         (
         some (.inr (false))))
        (
        some (.inr (false))))
       (
       some (.inr (false))))
      (
      some (.inr (false))))
     (
     some (.inr (false))))
    (
    some (.inr (false))))
   (
   some (.inr (false))))
def Xga (XbT:Xc8) (XbS:Xdo) (XbX:Xc3) (Xew:XeX) (Xfe:Xfm) (Xau:Xbb) (Xas:XaX) (XaE:Xbv) (Xaw:Xa3) (Xax:Xby) (Xca:Xd5) (strings_Repeat:XbP) (XbR:Xc9) (t:Xag) (l:List Int) (flags:Int) (payload:List UInt8):Option Bool:=
 (Xfe (Xag.mk 6 t.Src t.Dst t.SPort t.DPort)).bind fun xr=>
 cond (!xr)
  (
  (Xca).bind fun a=>
  some (a))
  (
  cond (decide ((l.length:Int)>10))
   (
   (Xca).bind fun a1=>
   some (a1))
   (
   cond (decide ((payload.length:Int)>100))
    (
    (Xca).bind fun a2=>
    some (a2))
    (
    (XbR (Xag.mk 6 t.Src t.Dst t.SPort t.DPort)).bind fun xr1=>
    cond (!xr1)
     (
     some (false))
     (
     (strings_Repeat [0] 8).bind fun xr2=>
     iter (fun st=>XdP XbT XbS XbX Xew Xau XaE Xax Xca t l flags payload st.1 st.2.1 st.2.2) FUEL (0,0,Xab.mk (Xag.mk 6 t.Src t.Dst t.SPort t.DPort) (Xbi.mk (some 117) (some 120) (some 121)) 1 0 xr2)))))
def rx7 (x:Bool):XcU:=⟨.bool x,[],[none]⟩
abbrev Xlg:=Xag→(List Int)→Int→(List UInt8)→Option Bool
abbrev XVI (XbT:Xc8) (XbS:Xdo) (XbX:Xc3) (Xew:XeX) (Xfe:Xfm) (Xau:Xbb) (Xas:XaX) (XaE:Xbv) (Xaw:Xa3) (Xax:Xby) (Xca:Xd5) (strings_Repeat:XbP) (XbR:Xc9):List (Nat×XbC):=[(25,s25 XbT),(28,s28 XbS),(24,s24 XbX),(27,s27 Xew),(23,s23 Xfe),(35,s35 Xau Xas),(37,s37 XaE Xaw),(39,s39 Xax),(32,s32 Xca),(68,s68 strings_Repeat),(67,s67 XbR)]
def XpX (t:Xag) (l:List Int) (flags:Int) (payload:List UInt8) (last:Int) (i:Int) (c:Xab):VM:=
 ⟨⟨7,138,[(1,.slice (some ⟨0,0,none⟩) l.length 1),(2,.int .u8 flags),(3,.string ⟨⟨payload⟩⟩),(4,.pointer (some ⟨1,0,none⟩)),(9,.pointer (some ⟨5,0,none⟩)),(11,.int .u32 last),(12,.int .i64 i)],[.code XKQ,.inLoop XKQ,.inBlock 0,.code XWd],[],false,none⟩,[],[(0,.row false (vI .u32 l)),(1,.cells [.int .i64 6,.bool t.Src.V6,.int .u64 t.Src.Hi,.int .u64 t.Src.Lo,.bool t.Dst.V6,.int .u64 t.Dst.Hi,.int .u64 t.Dst.Lo,.int .i64 t.SPort,.int .i64 t.DPort]),(5,.cells [.int .i64 c.t.Proto,.bool c.t.Src.V6,.int .u64 c.t.Src.Hi,.int .u64 c.t.Src.Lo,.bool c.t.Dst.V6,.int .u64 c.t.Dst.Hi,.int .u64 c.t.Dst.Lo,.int .i64 c.t.SPort,.int .i64 c.t.DPort,fvV c.v_.hello,fvV c.v_.say,fvV c.v_.hear,.int .u32 c.clock,.int .u32 c.echo,.string ⟨⟨c.id_⟩⟩])],7⟩
theorem XNh (XbT:Xc8) (XbS:Xdo) (XbX:Xc3) (Xew:XeX) (Xfe:Xfm) (Xau:Xbb) (Xas:XaX) (XaE:Xbv) (Xaw:Xa3) (Xax:Xby) (Xca:Xd5) (strings_Repeat:XbP) (XbR:Xc9) (hS:Xak Tryz.prog (XaD (XVI XbT XbS XbX Xew Xfe Xau Xas XaE Xaw Xax Xca strings_Repeat XbR))) (t:Xag) (l:List Int) (flags:Int) (payload:List UInt8) (res:Bool):∀ fuel (st:Int×Int×Xab) (o:Bool),iter (fun st=>XdP XbT XbS XbX Xew Xau XaE Xax Xca t l flags payload st.1 st.2.1 st.2.2) fuel st=some o→(o=res) →
 XaF Tryz.prog 7 1 (XpX t l flags payload st.1 st.2.1 st.2.2) (fun v H _=>Res 1 (rx7 res) v H):=by
 intro fuel st o h hc
 refine Xdh (head:=fun st=>XpX t l flags payload st.1 st.2.1 st.2.2) (C:=fun o=>(o=res)) ?_ fuel st o h hc
 clear h hc o st fuel
 intro st o h hc
 obtain ⟨last,i,c⟩:=st
 replace h:XdP XbT XbS XbX Xew Xau XaE Xax Xca t l flags payload last i c=some o:=h
 show XaF Tryz.prog 7 1 (XpX t l flags payload last i c) (fun v H _=>Res 1 (rx7 res) v H)
 unfold XdP at h
 have R1:=@XQC XaE Xaw
 have R2:=@XHV XbS
 have R3:=@XIe Xau Xas
 have R4:=@XHR Xca
 refine Xa4 XaC hS true 3000 ?_
 conv=>whnf
 refine br.h h (by rfl) ?_ ?_
 ·clear h;intro hb h;conv=>whnf
  replace h:=Xdy.elim h;obtain ⟨b,hy,h⟩:=h
  refine Xg8.a (XWD hy) ?_
  conv=>whnf
  replace h:=Xbn.elim h;obtain ⟨hb,h⟩:=h
  try (refine req.intro hb ?_;conv=>whnf)
  replace h:=Xdy.elim h;obtain ⟨e,hy,h⟩:=h
  refine rd.I hy (by first|rfl|(rw [Nat.zero_add,Nat.mul_one];try rfl;done)|omega) ?_
  conv=>whnf
  replace h:=Xdy.elim h;obtain ⟨s,hy,h⟩:=h
  refine Xg8.a (XR3 hy) ?_
  conv=>whnf
  replace h:=Xdy.elim h;obtain ⟨s1,hy,h⟩:=h
  refine Xg8.a (XTL hy) ?_
  conv=>whnf
  refine br.h h (by rfl) ?_ ?_
  ·clear h;intro hb h;conv=>whnf
   exact W
  clear h;intro hb h;conv=>whnf
  replace h:=Xdy.elim h;obtain ⟨t1,hy,h⟩:=h
  refine Xg8.a (XI0 hy) ?_
  conv=>whnf
  refine br.h h (by rfl) ?_ ?_
  ·clear h;intro hb h;conv=>whnf
   exact W
  clear h;intro hb h;conv=>whnf
  replace h:=Xbn.elim h;obtain ⟨hb,h⟩:=h
  try (refine req.intro hb ?_;conv=>whnf)
  replace h:=Xdy.elim h;obtain ⟨e1,hy,h⟩:=h
  refine rd.I hy (by first|rfl|(rw [Nat.zero_add,Nat.mul_one];try rfl;done)|omega) ?_
  conv=>whnf
  cases h;simp only [Sum.elim_inl,XpX] at hc
  exact Xmt hc [(0,0),(1,1),(5,5)] rfl
 clear h;intro hb h;conv=>whnf
 exact W
theorem leads7 (XbT:Xc8) (XbS:Xdo) (XbX:Xc3) (Xew:XeX) (Xfe:Xfm) (Xau:Xbb) (Xas:XaX) (XaE:Xbv) (Xaw:Xa3) (Xax:Xby) (Xca:Xd5) (strings_Repeat:XbP) (XbR:Xc9) (hS:Xak Tryz.prog (XaD (XVI XbT XbS XbX Xew Xfe Xau Xas XaE Xaw Xax Xca strings_Repeat XbR))) (t:Xag) (l:List Int) (flags:Int) (payload:List UInt8) (res:Bool) (h:Xga XbT XbS XbX Xew Xfe Xau Xas XaE Xaw Xax Xca strings_Repeat XbR t l flags payload=some res) :
 XaF Tryz.prog 7 1 ⟨⟨7,138,[(0,.agg ⟨[.int .i64 t.Proto,.bool t.Src.V6,.int .u64 t.Src.Hi,.int .u64 t.Src.Lo,.bool t.Dst.V6,.int .u64 t.Dst.Hi,.int .u64 t.Dst.Lo,.int .i64 t.SPort,.int .i64 t.DPort]⟩),(1,.slice (some ⟨0,0,none⟩) l.length 1),(2,.int .u8 flags),(3,.string ⟨⟨payload⟩⟩)],[.code XRC],[],false,none⟩,[],[(0,.row false (vI .u32 l))],1⟩ (fun v H _=>Res 1 (rx7 res) v H):=by
 unfold Xga at h
 have R1:=@XHR Xca
 refine Xa4 XaC hS true 3000 ?_
 conv=>whnf
 replace h:=Xdy.elim h;obtain ⟨xr,hy,h⟩:=h
 refine Xg8.a (XWo hy) ?_
 conv=>whnf
 refine br.h h (by rfl) ?_ ?_
 ·clear h;intro hb h;conv=>whnf
  exact W
 clear h;intro hb h;conv=>whnf
 refine br.h h (by rfl) ?_ ?_
 ·clear h;intro hb h;conv=>whnf
  exact W
 clear h;intro hb h;conv=>whnf
 refine br.h h (by rfl) ?_ ?_
 ·clear h;intro hb h;conv=>whnf
  exact W
 clear h;intro hb h;conv=>whnf
 replace h:=Xdy.elim h;obtain ⟨xr1,hy,h⟩:=h
 refine Xg8.a (XHL hy) ?_
 conv=>whnf
 refine br.h h (by rfl) ?_ ?_
 ·clear h;intro hb h;conv=>whnf
  exact W
 clear h;intro hb h;conv=>whnf
 replace h:=Xdy.elim h;obtain ⟨xr2,hy,h⟩:=h
 refine Xg8.a (XyM hy) ?_
 conv=>whnf
 have hl:=XNh XbT XbS XbX Xew Xfe Xau Xas XaE Xaw Xax Xca strings_Repeat XbR hS _ _ _ _ res _ _ _ h rfl;simp only [XpX] at hl
 exact Xmt hl [(0,0),(1,1),(5,5)] rfl
def XjY:Xlg:=Xga XbT XbS XbX Xew Xfe Xau Xas XaE Xaw Xax Xca strings_Repeat XbR
end Go.Vm.Code
namespace Go.Vm.Code
open Go Go.Vm
theorem XrA:Xca=some true:=by decide +kernel
theorem Xug {x:XaY} (hp:x.T.Proto=6) {s:List UInt8} {n:Int} {a b:Nat} {v e f:Int} (ht:Xbm s=(⟨Xna x.T,f,true,v,e,false,[],n⟩,a,b,0)):Xrf x s=(0,⟨x.T,x.Clock,v,x.ID⟩):=by
 unfold Xrf Xuf
 rw [ht,if_neg (by simp),if_pos rfl,show (x.T.Proto==6)=true by simp [hp],cond_true]
 rfl
theorem XCH {t:Xag} (hg:XqD ⟨6,t.Src,t.Dst,t.SPort,t.DPort⟩) {l:List Int} (hl:l.length≤10) (hu:∀ n∈l,0≤n∧n<4294967296) {flags:Int} (hf:0≤flags∧flags≤255) {p:List UInt8} (hpl:p.length≤100) :
 iter (fun st=>XdP XbT XbS XbX Xew Xau XaE Xax Xca t l flags p st.1 st.2.1 st.2.2) FUEL (0,0,Xk7 ⟨⟨6,t.Src,t.Dst,t.SPort,t.DPort⟩,1,0,Xou⟩)=some true:=by
 have hgb:=XAY hg
 refine iter_eq (fun _=>true) (fun st:Int×Int×Xab=>∃ (e:Int) (i:Nat),(0≤e∧e<4294967296)∧i≤l.length∧st=(e,(i:Int),Xk7 ⟨⟨6,t.Src,t.Dst,t.SPort,t.DPort⟩,1,e,Xou⟩)) (fun st=>l.length+1 - st.2.1.toNat) ?_ FUEL _ ⟨0,0,by omega,by omega,rfl⟩ (by rw [XgO];simp only [];omega)
 rintro st ⟨e,i,he,hi,rfl⟩
 simp only []
 have hx:XzH ⟨⟨6,t.Src,t.Dst,t.SPort,t.DPort⟩,1,e,Xou⟩:=⟨hg.src,hg.dst,.inl rfl,by simp only [];omega,he,rfl⟩
 unfold XdP
 by_cases c:i<l.length
 ·have hn:=hu _ (List.getElem_mem c)
  have hw:wI .i64 ((i:Int)+1)=((i+1:Nat):Int):=by rw [XdY (by omega) (by omega)];rfl
  refine .inr ⟨(l[i],((i+1:Nat):Int),Xk7 ⟨⟨6,t.Src,t.Dst,t.SPort,t.DPort⟩,1,l[i],Xou⟩),?_,⟨l[i],i+1,hn,by omega,rfl⟩,by simp only [];omega,trivial⟩
  obtain ⟨g0,g9,n,a,b,gt⟩:=Xrx hgb rfl (f:=16) (by omega) (v:=(l[i]).toNat) (e:=9) (by omega) (by omega) (l:=[]) (by simp)
  rw [Int.toNat_of_nonneg hn.1] at gt
  have hst:=(sd43 hn (b:=9) (by omega)).2
  have htk:=Xug (x:=⟨⟨6,t.Src,t.Dst,t.SPort,t.DPort⟩,1,e,Xou⟩) rfl gt
  have htk2:=(Xya hx (s:=(Xnc (Xna ⟨6,t.Src,t.Dst,t.SPort,t.DPort⟩) 16 (XcS (l[i]).toNat 9) []).1) (by omega)).1
  rw [htk] at htk2
  rw [XaP (by omega),(Xtu _).2,Option.bind_some,Xat (by omega),Int.toNat_natCast,List.getElem?_eq_getElem c,Option.bind_some,hst,Option.bind_some,show Int.toNat 9=9 from rfl,XpC hgb.src hgb.dst (by rw [Xre];decide) (by decide),Option.bind_some,g0]
  rw [show ((0:Int) !=0)=false from rfl,cond_false,htk2,Option.bind_some]
  simp only []
  rw [show ((0:Int) !=0)=false from rfl,cond_false,Xat (by omega),Option.bind_some,hw]
 ·refine .inl ?_
  have hfl:wI .i64 flags=flags:=XdY (by omega) (by omega)
  have hsay:=(XC5 hx (f:=flags) (l:=p) (by omega)).1
  have hhel:=(XwG hx).1
  obtain ⟨s0,s9,n,a,b,gs⟩:=Xrx hg rfl hf (v:=1) (e:=e.toNat) (by omega) (by omega) (l:=p) (by omega)
  obtain ⟨q0,q9,m,a2,b2,gq⟩:=Xrx hg rfl (f:=2) (by omega) (v:=1) (e:=0) (by omega) (by omega) (l:=[]) (by simp)
  have e1:XwR ⟨⟨6,t.Src,t.Dst,t.SPort,t.DPort⟩,1,e,Xou⟩ flags p=Xnc ⟨6,t.Src,t.Dst,t.SPort,t.DPort⟩ flags (XcS 1 e.toNat) p:=rfl
  have e2:XrO ⟨⟨6,t.Src,t.Dst,t.SPort,t.DPort⟩,1,e,Xou⟩=(Xnc ⟨6,t.Src,t.Dst,t.SPort,t.DPort⟩ 2 (XcS 1 0) []).1:=rfl
  rw [XaI (by omega),hfl,hsay,e1,Option.bind_some]
  simp only []
  rw [Xpy (by omega),Option.bind_some,hhel,Option.bind_some,e2]
  simp only []
  rw [Xpy (by omega),Option.bind_some,gs,gq,s0,XrA,Int.toNat_of_nonneg he.1]
  simp only [beq_self_eq_true,Bool.and_self,cond_true,Option.bind_some]
theorem clientEchoes (t:Xag) (l:List Int) (flags:Int) (p:List UInt8) (h1:A4 t.Src) (h2:A4 t.Dst) (hu:∀ n∈l,0≤n∧n<4294967296) (hf:0≤flags∧flags≤255):XjY t l flags p=some true:=by
 unfold XjY Xga
 rw [XAC,Xw6,Option.bind_some,XrA]
 cases ht:XHc ⟨6,t.Src,t.Dst,t.SPort,t.DPort⟩
 ·rfl
 ·rw [Bool.not_true,cond_false]
  by_cases c:10<l.length
  ·rw [XaP (by omega)];rfl
  rw [XaI (by omega)]
  by_cases c2:100<p.length
  ·rw [XaP (by omega)];rfl
  rw [XaI (by omega),Option.bind_some,Bool.not_true,cond_false,XVN,Option.bind_some]
  have he:=XCH (XP1 h1 h2 ht) (l:=l) (by omega) hu hf (p:=p) (by omega)
  rw [XrA,show Xk7 ⟨⟨6,t.Src,t.Dst,t.SPort,t.DPort⟩,1,0,Xou⟩=⟨⟨6,t.Src,t.Dst,t.SPort,t.DPort⟩,⟨some 117,some 120,some 121⟩,1,0,Xou⟩ from rfl] at he
  rw [he]
end Go.Vm.Code
