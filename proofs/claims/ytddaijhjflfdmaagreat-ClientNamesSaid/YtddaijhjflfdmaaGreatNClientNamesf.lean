import Derived.Test.YtddaijhjflfdmaaGreatNClientNamese
namespace Go.Vm.Code
open Go Go.Vm Go.Proofs
set_option maxRecDepth 100000
set_option maxHeartbeats 4000000
set_option linter.unusedVariables false
def Xh1 (Xa8:Xcl) (strings_Repeat:XbR) (c:Xab):Option ((List UInt8)×Int×Xab):=
 (strings_Repeat [0] 8).bind fun xr=>
 (Xa8 c.t (Xat.mk true 0 1 xr [0,0] [])).bind fun d=>
 some ((d.1,d.2,c))
def XGN (x:(List UInt8)×Int×Xab):XcU:=⟨.tuple ⟨[.string ⟨⟨x.1⟩⟩,.int .i64 x.2.1]⟩,[],[some [.int .i64 x.2.2.t.Proto,.bool x.2.2.t.Src.V6,.int .u64 x.2.2.t.Src.Hi,.int .u64 x.2.2.t.Src.Lo,.bool x.2.2.t.Dst.V6,.int .u64 x.2.2.t.Dst.Hi,.int .u64 x.2.2.t.Dst.Lo,.int .i64 x.2.2.t.SPort,.int .i64 x.2.2.t.DPort,fvV x.2.2.v_.hello,fvV x.2.2.v_.say,fvV x.2.2.v_.hear,.int .u32 x.2.2.clock,.int .u32 x.2.2.echo,.string ⟨⟨x.2.2.id_⟩⟩]]⟩
abbrev XdH:=Xab→Option ((List UInt8)×Int×Xab)
def r122 (g:XdH):Dec:=dPt 0 XbU fun (y0:Xab)=>XdX (ofG (g y0) XGN)
theorem XSM {g:XdH} {y0:Xab} {x:(List UInt8)×Int×Xab} (hx:g y0=some x):r122 g [.pointer (some ⟨0,0,none⟩)] [some [.int .i64 y0.t.Proto,.bool y0.t.Src.V6,.int .u64 y0.t.Src.Hi,.int .u64 y0.t.Src.Lo,.bool y0.t.Dst.V6,.int .u64 y0.t.Dst.Hi,.int .u64 y0.t.Dst.Lo,.int .i64 y0.t.SPort,.int .i64 y0.t.DPort,fvV y0.v_.hello,fvV y0.v_.say,fvV y0.v_.hear,.int .u32 y0.clock,.int .u32 y0.echo,.string ⟨⟨y0.id_⟩⟩]]=some (XGN x):=(Xie (Xch _)).trans (XaQ hx)
def s122 (g:XdH):XbE:=⟨[.pt 15],r122 g⟩
theorem XOT {g:XdH} {y0:Xab} {x:(List UInt8)×Int×Xab} (hx:g y0=some x):(s122 g).run [.pointer (some ⟨0,0,none⟩)] [some [.int .i64 y0.t.Proto,.bool y0.t.Src.V6,.int .u64 y0.t.Src.Hi,.int .u64 y0.t.Src.Lo,.bool y0.t.Dst.V6,.int .u64 y0.t.Dst.Hi,.int .u64 y0.t.Dst.Lo,.int .i64 y0.t.SPort,.int .i64 y0.t.DPort,fvV y0.v_.hello,fvV y0.v_.say,fvV y0.v_.hear,.int .u32 y0.clock,.int .u32 y0.echo,.string ⟨⟨y0.id_⟩⟩]]=some (XGN x):=XSM hx
abbrev XPT (Xa8:Xcl) (strings_Repeat:XbR):List (Nat×XbE):=[(123,s123 Xa8),(68,s68 strings_Repeat)]
theorem XFz (Xa8:Xcl) (strings_Repeat:XbR) (hS:Xak Tryz.prog (XaD (XPT Xa8 strings_Repeat))) (c:Xab) (res:(List UInt8)×Int×Xab) (h:Xh1 Xa8 strings_Repeat c=some res) :
 XaG Tryz.prog 122 1 ⟨⟨122,13,[(0,.pointer (some ⟨0,0,none⟩))],[.code XJw],[],false,none⟩,[],[(0,.cells [.int .i64 c.t.Proto,.bool c.t.Src.V6,.int .u64 c.t.Src.Hi,.int .u64 c.t.Src.Lo,.bool c.t.Dst.V6,.int .u64 c.t.Dst.Hi,.int .u64 c.t.Dst.Lo,.int .i64 c.t.SPort,.int .i64 c.t.DPort,fvV c.v_.hello,fvV c.v_.say,fvV c.v_.hear,.int .u32 c.clock,.int .u32 c.echo,.string ⟨⟨c.id_⟩⟩])],1⟩ (fun v H _=>Res 1 (XGN res) v H):=by
 unfold Xh1 at h
 have R1:=@XBn strings_Repeat
 have R2:=@XAg Xa8
 refine Xa6 XaE hS true 3000 ?_
 conv=>whnf
 exact W
def Xc2:XdH:=Xh1 Xa8 strings_Repeat
theorem XLe:XbM Tryz.prog 122 (s122 Xc2):=by
 have hL:=XFz Xa8 strings_Repeat (Xak.XaM ⟨XzD,XH3,trivial⟩)
 exact okA ⟨Tryz.f122,rfl,by decide,rfl⟩
def XfH (Xae:Xap) (Xac:Xan):Option (List UInt8):=
 (Xac).bind fun n=>
 cond (!n)
  (
  some ([]))
  (
  none)
def XG5 (x:List UInt8):XcU:=⟨.string ⟨⟨x⟩⟩,[],[none]⟩
abbrev XaZ:=Option (List UInt8)
def r35n (g:XaZ):Dec:=dNl 1<|XdX (ofG (g) XG5)
theorem XWx {g:XaZ} {x:List UInt8} (hx:g=some x):r35n g [.pointer none] [none]=some (XG5 x):=(XC3).trans (XaQ hx)
abbrev XPJ (Xae:Xap) (Xac:Xan):List (Nat×XbE):=[(72,s72 Xae Xac)]
theorem XEz (Xae:Xap) (Xac:Xan) (hS:Xak Tryz.prog (XaD (XPJ Xae Xac))) (res:List UInt8) (h:XfH Xae Xac=some res) :
 XaG Tryz.prog 35 1 ⟨⟨35,19,[(0,.pointer none)],[.code XA4],[],false,none⟩,[],[],1⟩ (fun v H _=>Res 1 (XG5 res) v H):=by
 unfold XfH at h
 have R1:=@XuI Xae Xac
 refine Xa6 XaE hS true 3000 ?_
 conv=>whnf
 exact W
def Xfq (Xae:Xap) (Xac:Xan) (Xc2:XdH) (Xcs:XcZ) (c:Xab):Option ((List UInt8)×Xab):=
 (Xae c).bind fun xg=>
 cond (!xg.1)
  (
  some (([],xg.2)))
  (
  Option.elim xg.2.v_.hello
   (
   none)
   (fun n=>
   cond (n==117)
    (
    (Xcs (Xab.mk xg.2.t (Xbj.mk (some 117) xg.2.v_.say xg.2.v_.hear) xg.2.clock xg.2.echo xg.2.id_)).bind fun x1=>
    some ((x1.1,x1.2.2)))
    (
    cond (n==122)
     (
     (Xc2 (Xab.mk xg.2.t (Xbj.mk (some 122) xg.2.v_.say xg.2.v_.hear) xg.2.clock xg.2.echo xg.2.id_)).bind fun x11=>
     some ((x11.1,x11.2.2)))
     (
     none))))
def rx35 (x:(List UInt8)×Xab):XcU:=⟨.string ⟨⟨x.1⟩⟩,[],[some [.int .i64 x.2.t.Proto,.bool x.2.t.Src.V6,.int .u64 x.2.t.Src.Hi,.int .u64 x.2.t.Src.Lo,.bool x.2.t.Dst.V6,.int .u64 x.2.t.Dst.Hi,.int .u64 x.2.t.Dst.Lo,.int .i64 x.2.t.SPort,.int .i64 x.2.t.DPort,fvV x.2.v_.hello,fvV x.2.v_.say,fvV x.2.v_.hear,.int .u32 x.2.clock,.int .u32 x.2.echo,.string ⟨⟨x.2.id_⟩⟩]]⟩
abbrev Xbd:=Xab→Option ((List UInt8)×Xab)
def r35 (g:Xbd):Dec:=dPt 0 XbU fun (y0:Xab)=>XdX (ofG (g y0) rx35)
theorem r35_c {g:Xbd} {y0:Xab} {x:(List UInt8)×Xab} (hx:g y0=some x):r35 g [.pointer (some ⟨0,0,none⟩)] [some [.int .i64 y0.t.Proto,.bool y0.t.Src.V6,.int .u64 y0.t.Src.Hi,.int .u64 y0.t.Src.Lo,.bool y0.t.Dst.V6,.int .u64 y0.t.Dst.Hi,.int .u64 y0.t.Dst.Lo,.int .i64 y0.t.SPort,.int .i64 y0.t.DPort,fvV y0.v_.hello,fvV y0.v_.say,fvV y0.v_.hear,.int .u32 y0.clock,.int .u32 y0.echo,.string ⟨⟨y0.id_⟩⟩]]=some (rx35 x):=(Xie (Xch _)).trans (XaQ hx)
def s35 (g:Xbd) (g2:XaZ):XbE:=⟨[.pt 15],XsB 0 (r35 g) (r35n g2)⟩
theorem XJn {g:Xbd} {g2:XaZ} {y0:Xab} {x:(List UInt8)×Xab} (hx:g y0=some x):(s35 g g2).run [.pointer (some ⟨0,0,none⟩)] [some [.int .i64 y0.t.Proto,.bool y0.t.Src.V6,.int .u64 y0.t.Src.Hi,.int .u64 y0.t.Src.Lo,.bool y0.t.Dst.V6,.int .u64 y0.t.Dst.Hi,.int .u64 y0.t.Dst.Lo,.int .i64 y0.t.SPort,.int .i64 y0.t.DPort,fvV y0.v_.hello,fvV y0.v_.say,fvV y0.v_.hear,.int .u32 y0.clock,.int .u32 y0.echo,.string ⟨⟨y0.id_⟩⟩]]=some (rx35 x):=r35_c hx
theorem XOV {g2:Xbd} {g:XaZ} {x:List UInt8} (hx:g=some x):(s35 g2 g).run [.pointer none] [none]=some (XG5 x):=XWx hx
abbrev XS8 (Xae:Xap) (Xac:Xan) (Xc2:XdH) (Xcs:XcZ):List (Nat×XbE):=[(72,s72 Xae Xac),(122,s122 Xc2),(117,s117 Xcs)]
theorem XOA (Xae:Xap) (Xac:Xan) (Xc2:XdH) (Xcs:XcZ) (hS:Xak Tryz.prog (XaD (XS8 Xae Xac Xc2 Xcs))) (c:Xab) (res:(List UInt8)×Xab) (h:Xfq Xae Xac Xc2 Xcs c=some res) :
 XaG Tryz.prog 35 1 ⟨⟨35,19,[(0,.pointer (some ⟨0,0,none⟩))],[.code XA4],[],false,none⟩,[],[(0,.cells [.int .i64 c.t.Proto,.bool c.t.Src.V6,.int .u64 c.t.Src.Hi,.int .u64 c.t.Src.Lo,.bool c.t.Dst.V6,.int .u64 c.t.Dst.Hi,.int .u64 c.t.Dst.Lo,.int .i64 c.t.SPort,.int .i64 c.t.DPort,fvV c.v_.hello,fvV c.v_.say,fvV c.v_.hear,.int .u32 c.clock,.int .u32 c.echo,.string ⟨⟨c.id_⟩⟩])],1⟩ (fun v H _=>Res 1 (rx35 res) v H):=by
 unfold Xfq at h
 have R1:=@Xtn Xae Xac
 have R2:=@XLd Xcs
 have R3:=@XOT Xc2
 refine Xa6 XaE hS true 3000 ?_
 conv=>whnf
 exact W
def Xau:Xbd:=Xfq Xae Xac Xc2 Xcs
def Xas:XaZ:=XfH Xae Xac
theorem XUJ:XbM Tryz.prog 35 (s35 Xau Xas):=by
 have hL:=XOA Xae Xac Xc2 Xcs (Xak.XaM ⟨XoM,XLe,XLn,trivial⟩);have hN:=XEz Xae Xac (Xak.XaM ⟨XoM,trivial⟩)
 exact okA ⟨Tryz.f35,rfl,by decide,rfl⟩
def XgY (Xbs:Xcx) (Xb4:Xdt) (c:Xab) (flags:Int) (payload:List UInt8):Option ((List UInt8)×Int×Xab):=
 (Xb4 c.clock c.echo).bind fun s=>
 (Xbs c.t flags s payload).bind fun s1=>
 some ((s1.1,s1.2,c))
def XDg (x:(List UInt8)×Int×Xab):XcU:=⟨.tuple ⟨[.string ⟨⟨x.1⟩⟩,.int .i64 x.2.1]⟩,[],[some [.int .i64 x.2.2.t.Proto,.bool x.2.2.t.Src.V6,.int .u64 x.2.2.t.Src.Hi,.int .u64 x.2.2.t.Src.Lo,.bool x.2.2.t.Dst.V6,.int .u64 x.2.2.t.Dst.Hi,.int .u64 x.2.2.t.Dst.Lo,.int .i64 x.2.2.t.SPort,.int .i64 x.2.2.t.DPort,fvV x.2.2.v_.hello,fvV x.2.2.v_.say,fvV x.2.2.v_.hear,.int .u32 x.2.2.clock,.int .u32 x.2.2.echo,.string ⟨⟨x.2.2.id_⟩⟩]]⟩
abbrev XcV:=Xab→Int→(List UInt8)→Option ((List UInt8)×Int×Xab)
def r120 (g:XcV):Dec:=dPt 0 XbU fun (y0:Xab)=>dV (asI .i64) fun (y1:Int)=>dV asS fun (y2:List UInt8)=>XdX (ofG (g y0 y1 y2) XDg)
theorem XQO {g:XcV} {y0:Xab} {y1:Int} {y2:List UInt8} {x:(List UInt8)×Int×Xab} (hx:g y0 y1 y2=some x):r120 g [.pointer (some ⟨0,0,none⟩),.int .i64 y1,.string ⟨⟨y2⟩⟩] [some [.int .i64 y0.t.Proto,.bool y0.t.Src.V6,.int .u64 y0.t.Src.Hi,.int .u64 y0.t.Src.Lo,.bool y0.t.Dst.V6,.int .u64 y0.t.Dst.Hi,.int .u64 y0.t.Dst.Lo,.int .i64 y0.t.SPort,.int .i64 y0.t.DPort,fvV y0.v_.hello,fvV y0.v_.say,fvV y0.v_.hear,.int .u32 y0.clock,.int .u32 y0.echo,.string ⟨⟨y0.id_⟩⟩]]=some (XDg x):=(Xie (Xch _)).trans ((XaS (XeL _)).trans ((XaS (Xd4)).trans (XaQ hx)))
def s120 (g:XcV):XbE:=⟨[.pt 15,.v,.v],r120 g⟩
theorem XPz {g:XcV} {y0:Xab} {y1:Int} {y2:List UInt8} {x:(List UInt8)×Int×Xab} (hx:g y0 y1 y2=some x):(s120 g).run [.pointer (some ⟨0,0,none⟩),.int .i64 y1,.string ⟨⟨y2⟩⟩] [some [.int .i64 y0.t.Proto,.bool y0.t.Src.V6,.int .u64 y0.t.Src.Hi,.int .u64 y0.t.Src.Lo,.bool y0.t.Dst.V6,.int .u64 y0.t.Dst.Hi,.int .u64 y0.t.Dst.Lo,.int .i64 y0.t.SPort,.int .i64 y0.t.DPort,fvV y0.v_.hello,fvV y0.v_.say,fvV y0.v_.hear,.int .u32 y0.clock,.int .u32 y0.echo,.string ⟨⟨y0.id_⟩⟩]]=some (XDg x):=XQO hx
abbrev XLf (Xbs:Xcx) (Xb4:Xdt):List (Nat×XbE):=[(118,s118 Xbs),(119,s119 Xb4)]
theorem XFe (Xbs:Xcx) (Xb4:Xdt) (hS:Xak Tryz.prog (XaD (XLf Xbs Xb4))) (c:Xab) (flags:Int) (payload:List UInt8) (res:(List UInt8)×Int×Xab) (h:XgY Xbs Xb4 c flags payload=some res) :
 XaG Tryz.prog 120 1 ⟨⟨120,26,[(0,.pointer (some ⟨0,0,none⟩)),(1,.int .i64 flags),(2,.string ⟨⟨payload⟩⟩)],[.code XIG],[],false,none⟩,[],[(0,.cells [.int .i64 c.t.Proto,.bool c.t.Src.V6,.int .u64 c.t.Src.Hi,.int .u64 c.t.Src.Lo,.bool c.t.Dst.V6,.int .u64 c.t.Dst.Hi,.int .u64 c.t.Dst.Lo,.int .i64 c.t.SPort,.int .i64 c.t.DPort,fvV c.v_.hello,fvV c.v_.say,fvV c.v_.hear,.int .u32 c.clock,.int .u32 c.echo,.string ⟨⟨c.id_⟩⟩])],1⟩ (fun v H _=>Res 1 (XDg res) v H):=by
 unfold XgY at h
 have R1:=@XBw Xb4
 have R2:=@XzO Xbs
 refine Xa6 XaE hS true 3000 ?_
 conv=>whnf
 exact W
def Xcu:XcV:=XgY Xbs Xb4
theorem XM7:XbM Tryz.prog 120 (s120 Xcu):=by
 have hL:=XFe Xbs Xb4 (Xak.XaM ⟨XAd,XAv,trivial⟩)
 exact okA ⟨Tryz.f120,rfl,by decide,rfl⟩
def Xh6 (Xa8:Xcl) (c:Xab) (a1:Int) (payload:List UInt8):Option ((List UInt8)×Int×Xab):=
 (Xa8 c.t (Xat.mk false 0 0 c.id_ [] payload)).bind fun d=>
 some ((d.1,d.2,c))
def XDJ (x:(List UInt8)×Int×Xab):XcU:=⟨.tuple ⟨[.string ⟨⟨x.1⟩⟩,.int .i64 x.2.1]⟩,[],[some [.int .i64 x.2.2.t.Proto,.bool x.2.2.t.Src.V6,.int .u64 x.2.2.t.Src.Hi,.int .u64 x.2.2.t.Src.Lo,.bool x.2.2.t.Dst.V6,.int .u64 x.2.2.t.Dst.Hi,.int .u64 x.2.2.t.Dst.Lo,.int .i64 x.2.2.t.SPort,.int .i64 x.2.2.t.DPort,fvV x.2.2.v_.hello,fvV x.2.2.v_.say,fvV x.2.2.v_.hear,.int .u32 x.2.2.clock,.int .u32 x.2.2.echo,.string ⟨⟨x.2.2.id_⟩⟩]]⟩
abbrev XdP:=Xab→Int→(List UInt8)→Option ((List UInt8)×Int×Xab)
def r124 (g:XdP):Dec:=dPt 0 XbU fun (y0:Xab)=>dV (asI .i64) fun (y1:Int)=>dV asS fun (y2:List UInt8)=>XdX (ofG (g y0 y1 y2) XDJ)
theorem XVy {g:XdP} {y0:Xab} {y1:Int} {y2:List UInt8} {x:(List UInt8)×Int×Xab} (hx:g y0 y1 y2=some x):r124 g [.pointer (some ⟨0,0,none⟩),.int .i64 y1,.string ⟨⟨y2⟩⟩] [some [.int .i64 y0.t.Proto,.bool y0.t.Src.V6,.int .u64 y0.t.Src.Hi,.int .u64 y0.t.Src.Lo,.bool y0.t.Dst.V6,.int .u64 y0.t.Dst.Hi,.int .u64 y0.t.Dst.Lo,.int .i64 y0.t.SPort,.int .i64 y0.t.DPort,fvV y0.v_.hello,fvV y0.v_.say,fvV y0.v_.hear,.int .u32 y0.clock,.int .u32 y0.echo,.string ⟨⟨y0.id_⟩⟩]]=some (XDJ x):=(Xie (Xch _)).trans ((XaS (XeL _)).trans ((XaS (Xd4)).trans (XaQ hx)))
def s124 (g:XdP):XbE:=⟨[.pt 15,.v,.v],r124 g⟩
theorem XN9 {g:XdP} {y0:Xab} {y1:Int} {y2:List UInt8} {x:(List UInt8)×Int×Xab} (hx:g y0 y1 y2=some x):(s124 g).run [.pointer (some ⟨0,0,none⟩),.int .i64 y1,.string ⟨⟨y2⟩⟩] [some [.int .i64 y0.t.Proto,.bool y0.t.Src.V6,.int .u64 y0.t.Src.Hi,.int .u64 y0.t.Src.Lo,.bool y0.t.Dst.V6,.int .u64 y0.t.Dst.Hi,.int .u64 y0.t.Dst.Lo,.int .i64 y0.t.SPort,.int .i64 y0.t.DPort,fvV y0.v_.hello,fvV y0.v_.say,fvV y0.v_.hear,.int .u32 y0.clock,.int .u32 y0.echo,.string ⟨⟨y0.id_⟩⟩]]=some (XDJ x):=XVy hx
abbrev XMw (Xa8:Xcl):List (Nat×XbE):=[(123,s123 Xa8)]
theorem XGY (Xa8:Xcl) (hS:Xak Tryz.prog (XaD (XMw Xa8))) (c:Xab) (a1:Int) (payload:List UInt8) (res:(List UInt8)×Int×Xab) (h:Xh6 Xa8 c a1 payload=some res) :
 XaG Tryz.prog 124 1 ⟨⟨124,21,[(0,.pointer (some ⟨0,0,none⟩)),(1,.int .i64 a1),(2,.string ⟨⟨payload⟩⟩)],[.code XI9],[],false,none⟩,[],[(0,.cells [.int .i64 c.t.Proto,.bool c.t.Src.V6,.int .u64 c.t.Src.Hi,.int .u64 c.t.Src.Lo,.bool c.t.Dst.V6,.int .u64 c.t.Dst.Hi,.int .u64 c.t.Dst.Lo,.int .i64 c.t.SPort,.int .i64 c.t.DPort,fvV c.v_.hello,fvV c.v_.say,fvV c.v_.hear,.int .u32 c.clock,.int .u32 c.echo,.string ⟨⟨c.id_⟩⟩])],1⟩ (fun v H _=>Res 1 (XDJ res) v H):=by
 unfold Xh6 at h
 have R1:=@XAg Xa8
 refine Xa6 XaE hS true 3000 ?_
 conv=>whnf
 exact W
def Xc1:XdP:=Xh6 Xa8
theorem XJI:XbM Tryz.prog 124 (s124 Xc1):=by
 have hL:=XGY Xa8 (Xak.XaM ⟨XzD,trivial⟩)
 exact okA ⟨Tryz.f124,rfl,by decide,rfl⟩
def Xgk (Xae:Xap) (Xac:Xan) (flags:Int) (payload:List UInt8):Option ((List UInt8)×Int):=
 (Xac).bind fun n=>
 cond (!n)
  (
  some (([],1)))
  (
  none)
def XE9 (x:(List UInt8)×Int):XcU:=⟨.tuple ⟨[.string ⟨⟨x.1⟩⟩,.int .i64 x.2]⟩,[],[none]⟩
abbrev Xa5:=Int→(List UInt8)→Option ((List UInt8)×Int)
def r37n (g:Xa5):Dec:=dNl 1<|dV (asI .i64) fun (y1:Int)=>dV asS fun (y2:List UInt8)=>XdX (ofG (g y1 y2) XE9)
theorem XVL {g:Xa5} {y1:Int} {y2:List UInt8} {x:(List UInt8)×Int} (hx:g y1 y2=some x):r37n g [.pointer none,.int .i64 y1,.string ⟨⟨y2⟩⟩] [none]=some (XE9 x):=(XC3).trans ((XaS (XeL _)).trans ((XaS (Xd4)).trans (XaQ hx)))
abbrev XLq (Xae:Xap) (Xac:Xan):List (Nat×XbE):=[(72,s72 Xae Xac)]
theorem XCm (Xae:Xap) (Xac:Xan) (hS:Xak Tryz.prog (XaD (XLq Xae Xac))) (flags:Int) (payload:List UInt8) (res:(List UInt8)×Int) (h:Xgk Xae Xac flags payload=some res) :
 XaG Tryz.prog 37 1 ⟨⟨37,22,[(0,.pointer none),(1,.int .i64 flags),(2,.string ⟨⟨payload⟩⟩)],[.code XMo],[],false,none⟩,[],[],1⟩ (fun v H _=>Res 1 (XE9 res) v H):=by
 unfold Xgk at h
 have R1:=@XuI Xae Xac
 refine Xa6 XaE hS true 3000 ?_
 conv=>whnf
 exact W
def Xgr (Xae:Xap) (Xac:Xan) (Xc1:XdP) (Xcu:XcV) (c:Xab) (flags:Int) (payload:List UInt8):Option ((List UInt8)×Int×Xab):=
 (Xae c).bind fun xg=>
 cond (!xg.1)
  (
  some (([],1,xg.2)))
  (
  Option.elim xg.2.v_.say
   (
   none)
   (fun n=>
   cond (n==120)
    (
    (Xcu (Xab.mk xg.2.t (Xbj.mk xg.2.v_.hello (some 120) xg.2.v_.hear) xg.2.clock xg.2.echo xg.2.id_) flags payload).bind fun x2=>
    some ((x2.1,x2.2.1,x2.2.2)))
    (
    cond (n==124)
     (
     (Xc1 (Xab.mk xg.2.t (Xbj.mk xg.2.v_.hello (some 124) xg.2.v_.hear) xg.2.clock xg.2.echo xg.2.id_) flags payload).bind fun x21=>
     some ((x21.1,x21.2.1,x21.2.2)))
     (
     none))))
def rx37 (x:(List UInt8)×Int×Xab):XcU:=⟨.tuple ⟨[.string ⟨⟨x.1⟩⟩,.int .i64 x.2.1]⟩,[],[some [.int .i64 x.2.2.t.Proto,.bool x.2.2.t.Src.V6,.int .u64 x.2.2.t.Src.Hi,.int .u64 x.2.2.t.Src.Lo,.bool x.2.2.t.Dst.V6,.int .u64 x.2.2.t.Dst.Hi,.int .u64 x.2.2.t.Dst.Lo,.int .i64 x.2.2.t.SPort,.int .i64 x.2.2.t.DPort,fvV x.2.2.v_.hello,fvV x.2.2.v_.say,fvV x.2.2.v_.hear,.int .u32 x.2.2.clock,.int .u32 x.2.2.echo,.string ⟨⟨x.2.2.id_⟩⟩]]⟩
abbrev Xby:=Xab→Int→(List UInt8)→Option ((List UInt8)×Int×Xab)
def r37 (g:Xby):Dec:=dPt 0 XbU fun (y0:Xab)=>dV (asI .i64) fun (y1:Int)=>dV asS fun (y2:List UInt8)=>XdX (ofG (g y0 y1 y2) rx37)
theorem r37_c {g:Xby} {y0:Xab} {y1:Int} {y2:List UInt8} {x:(List UInt8)×Int×Xab} (hx:g y0 y1 y2=some x):r37 g [.pointer (some ⟨0,0,none⟩),.int .i64 y1,.string ⟨⟨y2⟩⟩] [some [.int .i64 y0.t.Proto,.bool y0.t.Src.V6,.int .u64 y0.t.Src.Hi,.int .u64 y0.t.Src.Lo,.bool y0.t.Dst.V6,.int .u64 y0.t.Dst.Hi,.int .u64 y0.t.Dst.Lo,.int .i64 y0.t.SPort,.int .i64 y0.t.DPort,fvV y0.v_.hello,fvV y0.v_.say,fvV y0.v_.hear,.int .u32 y0.clock,.int .u32 y0.echo,.string ⟨⟨y0.id_⟩⟩]]=some (rx37 x):=(Xie (Xch _)).trans ((XaS (XeL _)).trans ((XaS (Xd4)).trans (XaQ hx)))
def s37 (g:Xby) (g2:Xa5):XbE:=⟨[.pt 15,.v,.v],XsB 0 (r37 g) (r37n g2)⟩
theorem XQC {g:Xby} {g2:Xa5} {y0:Xab} {y1:Int} {y2:List UInt8} {x:(List UInt8)×Int×Xab} (hx:g y0 y1 y2=some x):(s37 g g2).run [.pointer (some ⟨0,0,none⟩),.int .i64 y1,.string ⟨⟨y2⟩⟩] [some [.int .i64 y0.t.Proto,.bool y0.t.Src.V6,.int .u64 y0.t.Src.Hi,.int .u64 y0.t.Src.Lo,.bool y0.t.Dst.V6,.int .u64 y0.t.Dst.Hi,.int .u64 y0.t.Dst.Lo,.int .i64 y0.t.SPort,.int .i64 y0.t.DPort,fvV y0.v_.hello,fvV y0.v_.say,fvV y0.v_.hear,.int .u32 y0.clock,.int .u32 y0.echo,.string ⟨⟨y0.id_⟩⟩]]=some (rx37 x):=r37_c hx
theorem XMz {g2:Xby} {g:Xa5} {y1:Int} {y2:List UInt8} {x:(List UInt8)×Int} (hx:g y1 y2=some x):(s37 g2 g).run [.pointer none,.int .i64 y1,.string ⟨⟨y2⟩⟩] [none]=some (XE9 x):=XVL hx
abbrev XTm (Xae:Xap) (Xac:Xan) (Xc1:XdP) (Xcu:XcV):List (Nat×XbE):=[(72,s72 Xae Xac),(124,s124 Xc1),(120,s120 Xcu)]
theorem XKT (Xae:Xap) (Xac:Xan) (Xc1:XdP) (Xcu:XcV) (hS:Xak Tryz.prog (XaD (XTm Xae Xac Xc1 Xcu))) (c:Xab) (flags:Int) (payload:List UInt8) (res:(List UInt8)×Int×Xab) (h:Xgr Xae Xac Xc1 Xcu c flags payload=some res) :
 XaG Tryz.prog 37 1 ⟨⟨37,22,[(0,.pointer (some ⟨0,0,none⟩)),(1,.int .i64 flags),(2,.string ⟨⟨payload⟩⟩)],[.code XMo],[],false,none⟩,[],[(0,.cells [.int .i64 c.t.Proto,.bool c.t.Src.V6,.int .u64 c.t.Src.Hi,.int .u64 c.t.Src.Lo,.bool c.t.Dst.V6,.int .u64 c.t.Dst.Hi,.int .u64 c.t.Dst.Lo,.int .i64 c.t.SPort,.int .i64 c.t.DPort,fvV c.v_.hello,fvV c.v_.say,fvV c.v_.hear,.int .u32 c.clock,.int .u32 c.echo,.string ⟨⟨c.id_⟩⟩])],1⟩ (fun v H _=>Res 1 (rx37 res) v H):=by
 unfold Xgr at h
 have R1:=@Xtn Xae Xac
 have R2:=@XPz Xcu
 have R3:=@XN9 Xc1
 refine Xa6 XaE hS true 3000 ?_
 conv=>whnf
 exact W
def XaF:Xby:=Xgr Xae Xac Xc1 Xcu
def Xax:Xa5:=Xgk Xae Xac
theorem XWm:XbM Tryz.prog 37 (s37 XaF Xax):=by
 have hL:=XKT Xae Xac Xc1 Xcu (Xak.XaM ⟨XoM,XJI,XM7,trivial⟩);have hN:=XCm Xae Xac (Xak.XaM ⟨XoM,trivial⟩)
 exact okA ⟨Tryz.f37,rfl,by decide,rfl⟩
def XmS (t:Xag):Option Xag:=
 some (Xag.mk t.Proto t.Dst t.Src t.DPort t.SPort)
def rx53 (x:Xag):XcU:=⟨.agg ⟨[.int .i64 x.Proto,.bool x.Src.V6,.int .u64 x.Src.Hi,.int .u64 x.Src.Lo,.bool x.Dst.V6,.int .u64 x.Dst.Hi,.int .u64 x.Dst.Lo,.int .i64 x.SPort,.int .i64 x.DPort]⟩,[],[]⟩
abbrev Xfh:=Xag→Option Xag
def r53 (g:Xfh):Dec:=dV Xd6 fun (y0:Xag)=>XdX (ofG (g y0) rx53)
theorem r53_c {g:Xfh} {y0:Xag} {x:Xag} (hx:g y0=some x):r53 g [.agg ⟨[.int .i64 y0.Proto,.bool y0.Src.V6,.int .u64 y0.Src.Hi,.int .u64 y0.Src.Lo,.bool y0.Dst.V6,.int .u64 y0.Dst.Hi,.int .u64 y0.Dst.Lo,.int .i64 y0.SPort,.int .i64 y0.DPort]⟩] []=some (rx53 x):=(XaS (Xer _)).trans (XaQ hx)
def s53 (g:Xfh):XbE:=⟨[.v],r53 g⟩
theorem XUr {g:Xfh} {y0:Xag} {x:Xag} (hx:g y0=some x):(s53 g).run [.agg ⟨[.int .i64 y0.Proto,.bool y0.Src.V6,.int .u64 y0.Src.Hi,.int .u64 y0.Src.Lo,.bool y0.Dst.V6,.int .u64 y0.Dst.Hi,.int .u64 y0.Dst.Lo,.int .i64 y0.SPort,.int .i64 y0.DPort]⟩] []=some (rx53 x):=r53_c hx
abbrev XUk:List (Nat×XbE):=[]
theorem XNr (hS:Xak Tryz.prog (XaD (XUk))) (t:Xag) (res:Xag) (h:XmS t=some res) :
 XaG Tryz.prog 53 0 ⟨⟨53,16,[(0,.agg ⟨[.int .i64 t.Proto,.bool t.Src.V6,.int .u64 t.Src.Hi,.int .u64 t.Src.Lo,.bool t.Dst.V6,.int .u64 t.Dst.Hi,.int .u64 t.Dst.Lo,.int .i64 t.SPort,.int .i64 t.DPort]⟩)],[.code XSR],[],false,none⟩,[],[],0⟩ (fun v H _=>Res 0 (rx53 res) v H):=by
 unfold XmS at h
 refine Xa6 XaE hS true 3000 ?_
 conv=>whnf
 exact W
def Xe5:Xfh:=XmS
theorem XRQ:XbM Tryz.prog 53 (s53 Xe5):=by
 have hL:=XNr (Xak.XaM trivial)
 exact okA ⟨Tryz.f53,rfl,by decide,rfl⟩
def Xg1 (c:Xab) (a1:List UInt8) (x:Xam):Option Xab:=
 cond (x.Stamped)
  (
  some (Xab.mk c.t c.v_ c.clock x.Val c.id_))
  (
  some (c))
def XEq (x:Xab):XcU:=⟨.tuple ⟨[]⟩,[],[some [.int .i64 x.t.Proto,.bool x.t.Src.V6,.int .u64 x.t.Src.Hi,.int .u64 x.t.Src.Lo,.bool x.t.Dst.V6,.int .u64 x.t.Dst.Hi,.int .u64 x.t.Dst.Lo,.int .i64 x.t.SPort,.int .i64 x.t.DPort,fvV x.v_.hello,fvV x.v_.say,fvV x.v_.hear,.int .u32 x.clock,.int .u32 x.echo,.string ⟨⟨x.id_⟩⟩]]⟩
abbrev XcW:=Xab→(List UInt8)→Xam→Option Xab
def r121 (g:XcW):Dec:=dPt 0 XbU fun (y0:Xab)=>dV asS fun (y1:List UInt8)=>dV XiY fun (y2:Xam)=>XdX (ofG (g y0 y1 y2) XEq)
theorem XRu {g:XcW} {y0:Xab} {y1:List UInt8} {y2:Xam} {x:Xab} (hx:g y0 y1 y2=some x):r121 g [.pointer (some ⟨0,0,none⟩),.string ⟨⟨y1⟩⟩,.agg ⟨[.int .i64 y2.Tuple.Proto,.bool y2.Tuple.Src.V6,.int .u64 y2.Tuple.Src.Hi,.int .u64 y2.Tuple.Src.Lo,.bool y2.Tuple.Dst.V6,.int .u64 y2.Tuple.Dst.Hi,.int .u64 y2.Tuple.Dst.Lo,.int .i64 y2.Tuple.SPort,.int .i64 y2.Tuple.DPort,.int .i64 y2.Flags,.bool y2.Stamped,.int .u32 y2.Val,.int .u32 y2.Echo,.bool y2.Long,.string ⟨⟨y2.CID⟩⟩,.int .i64 y2.Size]⟩] [some [.int .i64 y0.t.Proto,.bool y0.t.Src.V6,.int .u64 y0.t.Src.Hi,.int .u64 y0.t.Src.Lo,.bool y0.t.Dst.V6,.int .u64 y0.t.Dst.Hi,.int .u64 y0.t.Dst.Lo,.int .i64 y0.t.SPort,.int .i64 y0.t.DPort,fvV y0.v_.hello,fvV y0.v_.say,fvV y0.v_.hear,.int .u32 y0.clock,.int .u32 y0.echo,.string ⟨⟨y0.id_⟩⟩]]=some (XEq x):=(Xie (Xch _)).trans ((XaS (Xd4)).trans ((XaS (Xms _)).trans (XaQ hx)))
def s121 (g:XcW):XbE:=⟨[.pt 15,.v,.v],r121 g⟩
theorem XLL {g:XcW} {y0:Xab} {y1:List UInt8} {y2:Xam} {x:Xab} (hx:g y0 y1 y2=some x):(s121 g).run [.pointer (some ⟨0,0,none⟩),.string ⟨⟨y1⟩⟩,.agg ⟨[.int .i64 y2.Tuple.Proto,.bool y2.Tuple.Src.V6,.int .u64 y2.Tuple.Src.Hi,.int .u64 y2.Tuple.Src.Lo,.bool y2.Tuple.Dst.V6,.int .u64 y2.Tuple.Dst.Hi,.int .u64 y2.Tuple.Dst.Lo,.int .i64 y2.Tuple.SPort,.int .i64 y2.Tuple.DPort,.int .i64 y2.Flags,.bool y2.Stamped,.int .u32 y2.Val,.int .u32 y2.Echo,.bool y2.Long,.string ⟨⟨y2.CID⟩⟩,.int .i64 y2.Size]⟩] [some [.int .i64 y0.t.Proto,.bool y0.t.Src.V6,.int .u64 y0.t.Src.Hi,.int .u64 y0.t.Src.Lo,.bool y0.t.Dst.V6,.int .u64 y0.t.Dst.Hi,.int .u64 y0.t.Dst.Lo,.int .i64 y0.t.SPort,.int .i64 y0.t.DPort,fvV y0.v_.hello,fvV y0.v_.say,fvV y0.v_.hear,.int .u32 y0.clock,.int .u32 y0.echo,.string ⟨⟨y0.id_⟩⟩]]=some (XEq x):=XRu hx
abbrev XPZ:List (Nat×XbE):=[]
theorem XD6 (hS:Xak Tryz.prog (XaD (XPZ))) (c:Xab) (a1:List UInt8) (x:Xam) (res:Xab) (h:Xg1 c a1 x=some res) :
 XaG Tryz.prog 121 1 ⟨⟨121,13,[(0,.pointer (some ⟨0,0,none⟩)),(1,.string ⟨⟨a1⟩⟩),(2,.agg ⟨[.int .i64 x.Tuple.Proto,.bool x.Tuple.Src.V6,.int .u64 x.Tuple.Src.Hi,.int .u64 x.Tuple.Src.Lo,.bool x.Tuple.Dst.V6,.int .u64 x.Tuple.Dst.Hi,.int .u64 x.Tuple.Dst.Lo,.int .i64 x.Tuple.SPort,.int .i64 x.Tuple.DPort,.int .i64 x.Flags,.bool x.Stamped,.int .u32 x.Val,.int .u32 x.Echo,.bool x.Long,.string ⟨⟨x.CID⟩⟩,.int .i64 x.Size]⟩)],[.code XHN],[],false,none⟩,[],[(0,.cells [.int .i64 c.t.Proto,.bool c.t.Src.V6,.int .u64 c.t.Src.Hi,.int .u64 c.t.Src.Lo,.bool c.t.Dst.V6,.int .u64 c.t.Dst.Hi,.int .u64 c.t.Dst.Lo,.int .i64 c.t.SPort,.int .i64 c.t.DPort,fvV c.v_.hello,fvV c.v_.say,fvV c.v_.hear,.int .u32 c.clock,.int .u32 c.echo,.string ⟨⟨c.id_⟩⟩])],1⟩ (fun v H _=>Res 1 (XEq res) v H):=by
 unfold Xg1 at h
 refine Xa6 XaE hS true 3000 ?_
 conv=>whnf
 exact W
def Xct:XcW:=Xg1
theorem XOq:XbM Tryz.prog 121 (s121 Xct):=by
 have hL:=XD6 (Xak.XaM trivial)
 exact okA ⟨Tryz.f121,rfl,by decide,rfl⟩
def Xic (XdI:Xev) (Xec:XeT) (c:Xab) (s:List UInt8) (a2:Xam):Option Xab:=
 (XdI s).bind fun w=>
 Xbh (decide ((0:Int)≤w.2.1∧w.2.1≤(s.length:Int))) <|
 let t:=(s.drop w.2.1.toNat).take (s.length - w.2.1.toNat)
 (Xec t).bind fun xg=>
 cond (xg.2==0)
  (
  cond (xg.1.Long)
   (
   cond ((xg.1.SCID.length:Int)==8)
    (
    some (Xab.mk c.t c.v_ c.clock c.echo xg.1.SCID))
    (
    some (c)))
   (
   some (c)))
  (
  some (c))
def XF6 (x:Xab):XcU:=⟨.tuple ⟨[]⟩,[],[some [.int .i64 x.t.Proto,.bool x.t.Src.V6,.int .u64 x.t.Src.Hi,.int .u64 x.t.Src.Lo,.bool x.t.Dst.V6,.int .u64 x.t.Dst.Hi,.int .u64 x.t.Dst.Lo,.int .i64 x.t.SPort,.int .i64 x.t.DPort,fvV x.v_.hello,fvV x.v_.say,fvV x.v_.hear,.int .u32 x.clock,.int .u32 x.echo,.string ⟨⟨x.id_⟩⟩]]⟩
abbrev XdL:=Xab→(List UInt8)→Xam→Option Xab
def r125 (g:XdL):Dec:=dPt 0 XbU fun (y0:Xab)=>dV asS fun (y1:List UInt8)=>dV XiY fun (y2:Xam)=>XdX (ofG (g y0 y1 y2) XF6)
theorem XT4 {g:XdL} {y0:Xab} {y1:List UInt8} {y2:Xam} {x:Xab} (hx:g y0 y1 y2=some x):r125 g [.pointer (some ⟨0,0,none⟩),.string ⟨⟨y1⟩⟩,.agg ⟨[.int .i64 y2.Tuple.Proto,.bool y2.Tuple.Src.V6,.int .u64 y2.Tuple.Src.Hi,.int .u64 y2.Tuple.Src.Lo,.bool y2.Tuple.Dst.V6,.int .u64 y2.Tuple.Dst.Hi,.int .u64 y2.Tuple.Dst.Lo,.int .i64 y2.Tuple.SPort,.int .i64 y2.Tuple.DPort,.int .i64 y2.Flags,.bool y2.Stamped,.int .u32 y2.Val,.int .u32 y2.Echo,.bool y2.Long,.string ⟨⟨y2.CID⟩⟩,.int .i64 y2.Size]⟩] [some [.int .i64 y0.t.Proto,.bool y0.t.Src.V6,.int .u64 y0.t.Src.Hi,.int .u64 y0.t.Src.Lo,.bool y0.t.Dst.V6,.int .u64 y0.t.Dst.Hi,.int .u64 y0.t.Dst.Lo,.int .i64 y0.t.SPort,.int .i64 y0.t.DPort,fvV y0.v_.hello,fvV y0.v_.say,fvV y0.v_.hear,.int .u32 y0.clock,.int .u32 y0.echo,.string ⟨⟨y0.id_⟩⟩]]=some (XF6 x):=(Xie (Xch _)).trans ((XaS (Xd4)).trans ((XaS (Xms _)).trans (XaQ hx)))
def s125 (g:XdL):XbE:=⟨[.pt 15,.v,.v],r125 g⟩
theorem XMU {g:XdL} {y0:Xab} {y1:List UInt8} {y2:Xam} {x:Xab} (hx:g y0 y1 y2=some x):(s125 g).run [.pointer (some ⟨0,0,none⟩),.string ⟨⟨y1⟩⟩,.agg ⟨[.int .i64 y2.Tuple.Proto,.bool y2.Tuple.Src.V6,.int .u64 y2.Tuple.Src.Hi,.int .u64 y2.Tuple.Src.Lo,.bool y2.Tuple.Dst.V6,.int .u64 y2.Tuple.Dst.Hi,.int .u64 y2.Tuple.Dst.Lo,.int .i64 y2.Tuple.SPort,.int .i64 y2.Tuple.DPort,.int .i64 y2.Flags,.bool y2.Stamped,.int .u32 y2.Val,.int .u32 y2.Echo,.bool y2.Long,.string ⟨⟨y2.CID⟩⟩,.int .i64 y2.Size]⟩] [some [.int .i64 y0.t.Proto,.bool y0.t.Src.V6,.int .u64 y0.t.Src.Hi,.int .u64 y0.t.Src.Lo,.bool y0.t.Dst.V6,.int .u64 y0.t.Dst.Hi,.int .u64 y0.t.Dst.Lo,.int .i64 y0.t.SPort,.int .i64 y0.t.DPort,fvV y0.v_.hello,fvV y0.v_.say,fvV y0.v_.hear,.int .u32 y0.clock,.int .u32 y0.echo,.string ⟨⟨y0.id_⟩⟩]]=some (XF6 x):=XT4 hx
abbrev XNG (XdI:Xev) (Xec:XeT):List (Nat×XbE):=[(93,s93 XdI),(94,s94 Xec)]
theorem XDW (XdI:Xev) (Xec:XeT) (hS:Xak Tryz.prog (XaD (XNG XdI Xec))) (c:Xab) (s:List UInt8) (a2:Xam) (res:Xab) (h:Xic XdI Xec c s a2=some res) :
 XaG Tryz.prog 125 1 ⟨⟨125,41,[(0,.pointer (some ⟨0,0,none⟩)),(1,.string ⟨⟨s⟩⟩),(2,.agg ⟨[.int .i64 a2.Tuple.Proto,.bool a2.Tuple.Src.V6,.int .u64 a2.Tuple.Src.Hi,.int .u64 a2.Tuple.Src.Lo,.bool a2.Tuple.Dst.V6,.int .u64 a2.Tuple.Dst.Hi,.int .u64 a2.Tuple.Dst.Lo,.int .i64 a2.Tuple.SPort,.int .i64 a2.Tuple.DPort,.int .i64 a2.Flags,.bool a2.Stamped,.int .u32 a2.Val,.int .u32 a2.Echo,.bool a2.Long,.string ⟨⟨a2.CID⟩⟩,.int .i64 a2.Size]⟩)],[.code XJA],[],false,none⟩,[],[(0,.cells [.int .i64 c.t.Proto,.bool c.t.Src.V6,.int .u64 c.t.Src.Hi,.int .u64 c.t.Src.Lo,.bool c.t.Dst.V6,.int .u64 c.t.Dst.Hi,.int .u64 c.t.Dst.Lo,.int .i64 c.t.SPort,.int .i64 c.t.DPort,fvV c.v_.hello,fvV c.v_.say,fvV c.v_.hear,.int .u32 c.clock,.int .u32 c.echo,.string ⟨⟨c.id_⟩⟩])],1⟩ (fun v H _=>Res 1 (XF6 res) v H):=by
 unfold Xic at h
 have R1:=@XWe XdI
 have R2:=@XIf Xec
 refine Xa6 XaE hS true 3000 ?_
 conv=>whnf
 exact W
def Xc5:XdL:=Xic XdI Xec
theorem XJO:XbM Tryz.prog 125 (s125 Xc5):=by
 have hL:=XDW XdI Xec (Xak.XaM ⟨XSo,XJp,trivial⟩)
 exact okA ⟨Tryz.f125,rfl,by decide,rfl⟩
def Xf0 (Xae:Xap) (Xac:Xan) (Xc5:XdL) (Xct:XcW) (XdO:XeA) (Xe5:Xfh) (c:Xab) (s:List UInt8):Option (Int×Xab):=
 (Xae c).bind fun xg=>
 cond (!xg.1)
  (
  some ((1,xg.2)))
  (
  (XdO s).bind fun p=>
  cond (p.2 !=0)
   (
   some ((p.2,xg.2)))
   (
   (Xe5 xg.2.t).bind fun b=>
   let t:=!((p.1.Tuple.Proto==b.Proto)&&((p.1.Tuple.Src.V6==b.Src.V6)&&((p.1.Tuple.Src.Hi==b.Src.Hi)&&((p.1.Tuple.Src.Lo==b.Src.Lo)&&((p.1.Tuple.Dst.V6==b.Dst.V6)&&((p.1.Tuple.Dst.Hi==b.Dst.Hi)&&((p.1.Tuple.Dst.Lo==b.Dst.Lo)&&((p.1.Tuple.SPort==b.SPort)&&((p.1.Tuple.DPort==b.DPort)&&true)))))))))
   cond (t)
    (
    some ((16,xg.2)))
    (
    Option.elim xg.2.v_.hear
     (
     none)
     (fun n=>
     cond (n==121)
      (
      (Xct (Xab.mk xg.2.t (Xbj.mk xg.2.v_.hello xg.2.v_.say (some 121)) xg.2.clock xg.2.echo xg.2.id_) s p.1).bind fun x3=>
      some ((0,x3)))
      (
      cond (n==125)
       (
       (Xc5 (Xab.mk xg.2.t (Xbj.mk xg.2.v_.hello xg.2.v_.say (some 125)) xg.2.clock xg.2.echo xg.2.id_) s p.1).bind fun x31=>
       some ((0,x31)))
       (
       none))))))
def rx39 (x:Int×Xab):XcU:=⟨.int .i64 x.1,[],[some [.int .i64 x.2.t.Proto,.bool x.2.t.Src.V6,.int .u64 x.2.t.Src.Hi,.int .u64 x.2.t.Src.Lo,.bool x.2.t.Dst.V6,.int .u64 x.2.t.Dst.Hi,.int .u64 x.2.t.Dst.Lo,.int .i64 x.2.t.SPort,.int .i64 x.2.t.DPort,fvV x.2.v_.hello,fvV x.2.v_.say,fvV x.2.v_.hear,.int .u32 x.2.clock,.int .u32 x.2.echo,.string ⟨⟨x.2.id_⟩⟩]]⟩
abbrev XbB:=Xab→(List UInt8)→Option (Int×Xab)
def r39 (g:XbB):Dec:=dPt 0 XbU fun (y0:Xab)=>dV asS fun (y1:List UInt8)=>XdX (ofG (g y0 y1) rx39)
theorem r39_c {g:XbB} {y0:Xab} {y1:List UInt8} {x:Int×Xab} (hx:g y0 y1=some x):r39 g [.pointer (some ⟨0,0,none⟩),.string ⟨⟨y1⟩⟩] [some [.int .i64 y0.t.Proto,.bool y0.t.Src.V6,.int .u64 y0.t.Src.Hi,.int .u64 y0.t.Src.Lo,.bool y0.t.Dst.V6,.int .u64 y0.t.Dst.Hi,.int .u64 y0.t.Dst.Lo,.int .i64 y0.t.SPort,.int .i64 y0.t.DPort,fvV y0.v_.hello,fvV y0.v_.say,fvV y0.v_.hear,.int .u32 y0.clock,.int .u32 y0.echo,.string ⟨⟨y0.id_⟩⟩]]=some (rx39 x):=(Xie (Xch _)).trans ((XaS (Xd4)).trans (XaQ hx))
def s39 (g:XbB):XbE:=⟨[.pt 15,.v],r39 g⟩
theorem XIc {g:XbB} {y0:Xab} {y1:List UInt8} {x:Int×Xab} (hx:g y0 y1=some x):(s39 g).run [.pointer (some ⟨0,0,none⟩),.string ⟨⟨y1⟩⟩] [some [.int .i64 y0.t.Proto,.bool y0.t.Src.V6,.int .u64 y0.t.Src.Hi,.int .u64 y0.t.Src.Lo,.bool y0.t.Dst.V6,.int .u64 y0.t.Dst.Hi,.int .u64 y0.t.Dst.Lo,.int .i64 y0.t.SPort,.int .i64 y0.t.DPort,fvV y0.v_.hello,fvV y0.v_.say,fvV y0.v_.hear,.int .u32 y0.clock,.int .u32 y0.echo,.string ⟨⟨y0.id_⟩⟩]]=some (rx39 x):=r39_c hx
abbrev XTT (Xae:Xap) (Xac:Xan) (Xc5:XdL) (Xct:XcW) (XdO:XeA) (Xe5:Xfh):List (Nat×XbE):=[(72,s72 Xae Xac),(125,s125 Xc5),(121,s121 Xct),(47,s47 XdO),(53,s53 Xe5)]
theorem XJT (Xae:Xap) (Xac:Xan) (Xc5:XdL) (Xct:XcW) (XdO:XeA) (Xe5:Xfh) (hS:Xak Tryz.prog (XaD (XTT Xae Xac Xc5 Xct XdO Xe5))) (c:Xab) (s:List UInt8) (res:Int×Xab) (h:Xf0 Xae Xac Xc5 Xct XdO Xe5 c s=some res) :
 XaG Tryz.prog 39 1 ⟨⟨39,37,[(0,.pointer (some ⟨0,0,none⟩)),(1,.string ⟨⟨s⟩⟩)],[.code XIS],[],false,none⟩,[],[(0,.cells [.int .i64 c.t.Proto,.bool c.t.Src.V6,.int .u64 c.t.Src.Hi,.int .u64 c.t.Src.Lo,.bool c.t.Dst.V6,.int .u64 c.t.Dst.Hi,.int .u64 c.t.Dst.Lo,.int .i64 c.t.SPort,.int .i64 c.t.DPort,fvV c.v_.hello,fvV c.v_.say,fvV c.v_.hear,.int .u32 c.clock,.int .u32 c.echo,.string ⟨⟨c.id_⟩⟩])],1⟩ (fun v H _=>Res 1 (rx39 res) v H):=by
 unfold Xf0 at h
 have R1:=@Xtn Xae Xac
 have R2:=@XUu XdO
 have R3:=@XUr Xe5
 have R4:=@XLL Xct
 have R5:=@XMU Xc5
 refine Xa6 XaE hS true 3000 ?_
 conv=>whnf
 exact W
def Xay:XbB:=Xf0 Xae Xac Xc5 Xct XdO Xe5
theorem XSn:XbM Tryz.prog 39 (s39 Xay):=by
 have hL:=XJT Xae Xac Xc5 Xct XdO Xe5 (Xak.XaM ⟨XoM,XJO,XOq,XTb,XRQ,trivial⟩)
 exact okA ⟨Tryz.f39,rfl,by decide,rfl⟩
def XgC (Xae:Xap) (Xac:Xan) (n:Int):Option Unit:=
 (Xac).bind fun n1=>
 cond (n1)
  (
  none)
  (
  some (()))
def XHo (x:Unit):XcU:=⟨.tuple ⟨[]⟩,[],[none]⟩
abbrev Xb1:=Int→Option Unit
def r41n (g:Xb1):Dec:=dNl 1<|dV (asI .u32) fun (y1:Int)=>XdX (ofG (g y1) XHo)
theorem XTZ {g:Xb1} {y1:Int} {x:Unit} (hx:g y1=some x):r41n g [.pointer none,.int .u32 y1] [none]=some (XHo x):=(XC3).trans ((XaS (XeL _)).trans (XaQ hx))
abbrev XMW (Xae:Xap) (Xac:Xan):List (Nat×XbE):=[(72,s72 Xae Xac)]
theorem XGD (Xae:Xap) (Xac:Xan) (hS:Xak Tryz.prog (XaD (XMW Xae Xac))) (n:Int) (res:Unit) (h:XgC Xae Xac n=some res) :
 XaG Tryz.prog 41 1 ⟨⟨41,14,[(0,.pointer none),(1,.int .u32 n)],[.code XOr],[],false,none⟩,[],[],1⟩ (fun v H _=>Res 1 (XHo res) v H):=by
 unfold XgC at h
 have R1:=@XuI Xae Xac
 refine Xa6 XaE hS true 3000 ?_
 conv=>whnf
 exact W
def XiB (Xae:Xap) (Xac:Xan) (c:Xab) (n:Int):Option Xab:=
 (Xae c).bind fun xg=>
 cond (xg.1)
  (
  some (Xab.mk xg.2.t xg.2.v_ (wI .u32 (xg.2.clock+n)) xg.2.echo xg.2.id_))
  (
  some (xg.2))
def rx41 (x:Xab):XcU:=⟨.tuple ⟨[]⟩,[],[some [.int .i64 x.t.Proto,.bool x.t.Src.V6,.int .u64 x.t.Src.Hi,.int .u64 x.t.Src.Lo,.bool x.t.Dst.V6,.int .u64 x.t.Dst.Hi,.int .u64 x.t.Dst.Lo,.int .i64 x.t.SPort,.int .i64 x.t.DPort,fvV x.v_.hello,fvV x.v_.say,fvV x.v_.hear,.int .u32 x.clock,.int .u32 x.echo,.string ⟨⟨x.id_⟩⟩]]⟩
abbrev XcE:=Xab→Int→Option Xab
def r41 (g:XcE):Dec:=dPt 0 XbU fun (y0:Xab)=>dV (asI .u32) fun (y1:Int)=>XdX (ofG (g y0 y1) rx41)
theorem r41_c {g:XcE} {y0:Xab} {y1:Int} {x:Xab} (hx:g y0 y1=some x):r41 g [.pointer (some ⟨0,0,none⟩),.int .u32 y1] [some [.int .i64 y0.t.Proto,.bool y0.t.Src.V6,.int .u64 y0.t.Src.Hi,.int .u64 y0.t.Src.Lo,.bool y0.t.Dst.V6,.int .u64 y0.t.Dst.Hi,.int .u64 y0.t.Dst.Lo,.int .i64 y0.t.SPort,.int .i64 y0.t.DPort,fvV y0.v_.hello,fvV y0.v_.say,fvV y0.v_.hear,.int .u32 y0.clock,.int .u32 y0.echo,.string ⟨⟨y0.id_⟩⟩]]=some (rx41 x):=(Xie (Xch _)).trans ((XaS (XeL _)).trans (XaQ hx))
def s41 (g:XcE) (g2:Xb1):XbE:=⟨[.pt 15,.v],XsB 0 (r41 g) (r41n g2)⟩
theorem XSq {g:XcE} {g2:Xb1} {y0:Xab} {y1:Int} {x:Xab} (hx:g y0 y1=some x):(s41 g g2).run [.pointer (some ⟨0,0,none⟩),.int .u32 y1] [some [.int .i64 y0.t.Proto,.bool y0.t.Src.V6,.int .u64 y0.t.Src.Hi,.int .u64 y0.t.Src.Lo,.bool y0.t.Dst.V6,.int .u64 y0.t.Dst.Hi,.int .u64 y0.t.Dst.Lo,.int .i64 y0.t.SPort,.int .i64 y0.t.DPort,fvV y0.v_.hello,fvV y0.v_.say,fvV y0.v_.hear,.int .u32 y0.clock,.int .u32 y0.echo,.string ⟨⟨y0.id_⟩⟩]]=some (rx41 x):=r41_c hx
theorem XKy {g2:XcE} {g:Xb1} {y1:Int} {x:Unit} (hx:g y1=some x):(s41 g2 g).run [.pointer none,.int .u32 y1] [none]=some (XHo x):=XTZ hx
abbrev XRq (Xae:Xap) (Xac:Xan):List (Nat×XbE):=[(72,s72 Xae Xac)]
theorem XPh (Xae:Xap) (Xac:Xan) (hS:Xak Tryz.prog (XaD (XRq Xae Xac))) (c:Xab) (n:Int) (res:Xab) (h:XiB Xae Xac c n=some res) :
 XaG Tryz.prog 41 1 ⟨⟨41,14,[(0,.pointer (some ⟨0,0,none⟩)),(1,.int .u32 n)],[.code XOr],[],false,none⟩,[],[(0,.cells [.int .i64 c.t.Proto,.bool c.t.Src.V6,.int .u64 c.t.Src.Hi,.int .u64 c.t.Src.Lo,.bool c.t.Dst.V6,.int .u64 c.t.Dst.Hi,.int .u64 c.t.Dst.Lo,.int .i64 c.t.SPort,.int .i64 c.t.DPort,fvV c.v_.hello,fvV c.v_.say,fvV c.v_.hear,.int .u32 c.clock,.int .u32 c.echo,.string ⟨⟨c.id_⟩⟩])],1⟩ (fun v H _=>Res 1 (rx41 res) v H):=by
 unfold XiB at h
 have R1:=@Xtn Xae Xac
 refine Xa6 XaE hS true 3000 ?_
 conv=>whnf
 exact W
def XbY:XcE:=XiB Xae Xac
def Xbg:Xb1:=XgC Xae Xac
theorem XWb:XbM Tryz.prog 41 (s41 XbY Xbg):=by
 have hL:=XPh Xae Xac (Xak.XaM ⟨XoM,trivial⟩);have hN:=XGD Xae Xac (Xak.XaM ⟨XoM,trivial⟩)
 exact okA ⟨Tryz.f41,rfl,by decide,rfl⟩
def Xf3 (Xae:Xap) (Xac:Xan) (c:Xab):Option (Int×(List UInt8)×Xab):=
 (Xae c).bind fun xg=>
 cond (!xg.1)
  (
  some ((0,[],xg.2)))
  (
  some ((xg.2.echo,xg.2.id_,xg.2)))
def rx42 (x:Int×(List UInt8)×Xab):XcU:=⟨.tuple ⟨[.int .u32 x.1,.string ⟨⟨x.2.1⟩⟩]⟩,[],[some [.int .i64 x.2.2.t.Proto,.bool x.2.2.t.Src.V6,.int .u64 x.2.2.t.Src.Hi,.int .u64 x.2.2.t.Src.Lo,.bool x.2.2.t.Dst.V6,.int .u64 x.2.2.t.Dst.Hi,.int .u64 x.2.2.t.Dst.Lo,.int .i64 x.2.2.t.SPort,.int .i64 x.2.2.t.DPort,fvV x.2.2.v_.hello,fvV x.2.2.v_.say,fvV x.2.2.v_.hear,.int .u32 x.2.2.clock,.int .u32 x.2.2.echo,.string ⟨⟨x.2.2.id_⟩⟩]]⟩
abbrev Xbz:=Xab→Option (Int×(List UInt8)×Xab)
def r42 (g:Xbz):Dec:=dPt 0 XbU fun (y0:Xab)=>XdX (ofG (g y0) rx42)
theorem r42_c {g:Xbz} {y0:Xab} {x:Int×(List UInt8)×Xab} (hx:g y0=some x):r42 g [.pointer (some ⟨0,0,none⟩)] [some [.int .i64 y0.t.Proto,.bool y0.t.Src.V6,.int .u64 y0.t.Src.Hi,.int .u64 y0.t.Src.Lo,.bool y0.t.Dst.V6,.int .u64 y0.t.Dst.Hi,.int .u64 y0.t.Dst.Lo,.int .i64 y0.t.SPort,.int .i64 y0.t.DPort,fvV y0.v_.hello,fvV y0.v_.say,fvV y0.v_.hear,.int .u32 y0.clock,.int .u32 y0.echo,.string ⟨⟨y0.id_⟩⟩]]=some (rx42 x):=(Xie (Xch _)).trans (XaQ hx)
def s42 (g:Xbz):XbE:=⟨[.pt 15],r42 g⟩
theorem XIC {g:Xbz} {y0:Xab} {x:Int×(List UInt8)×Xab} (hx:g y0=some x):(s42 g).run [.pointer (some ⟨0,0,none⟩)] [some [.int .i64 y0.t.Proto,.bool y0.t.Src.V6,.int .u64 y0.t.Src.Hi,.int .u64 y0.t.Src.Lo,.bool y0.t.Dst.V6,.int .u64 y0.t.Dst.Hi,.int .u64 y0.t.Dst.Lo,.int .i64 y0.t.SPort,.int .i64 y0.t.DPort,fvV y0.v_.hello,fvV y0.v_.say,fvV y0.v_.hear,.int .u32 y0.clock,.int .u32 y0.echo,.string ⟨⟨y0.id_⟩⟩]]=some (rx42 x):=r42_c hx
abbrev XRr (Xae:Xap) (Xac:Xan):List (Nat×XbE):=[(72,s72 Xae Xac)]
theorem XPq (Xae:Xap) (Xac:Xan) (hS:Xak Tryz.prog (XaD (XRr Xae Xac))) (c:Xab) (res:Int×(List UInt8)×Xab) (h:Xf3 Xae Xac c=some res) :
 XaG Tryz.prog 42 1 ⟨⟨42,15,[(0,.pointer (some ⟨0,0,none⟩))],[.code XT0],[],false,none⟩,[],[(0,.cells [.int .i64 c.t.Proto,.bool c.t.Src.V6,.int .u64 c.t.Src.Hi,.int .u64 c.t.Src.Lo,.bool c.t.Dst.V6,.int .u64 c.t.Dst.Hi,.int .u64 c.t.Dst.Lo,.int .i64 c.t.SPort,.int .i64 c.t.DPort,fvV c.v_.hello,fvV c.v_.say,fvV c.v_.hear,.int .u32 c.clock,.int .u32 c.echo,.string ⟨⟨c.id_⟩⟩])],1⟩ (fun v H _=>Res 1 (rx42 res) v H):=by
 unfold Xf3 at h
 have R1:=@Xtn Xae Xac
 refine Xa6 XaE hS true 3000 ?_
 conv=>whnf
 exact W
def Xav:Xbz:=Xf3 Xae Xac
theorem XSV:XbM Tryz.prog 42 (s42 Xav):=by
 have hL:=XPq Xae Xac (Xak.XaM ⟨XoM,trivial⟩)
 exact okA ⟨Tryz.f42,rfl,by decide,rfl⟩
def XEV:Option (List UInt8):=
 some ([0,0,0,0,0,0,0,0])
abbrev Xrc:=Option (List UInt8)
def XrX:Xrc:=XEV
def Xkk (Xf6:Xj9) (Xey:Xe3) (XbF:XcJ) (XgJ:Xj1) (XrX:Xrc) (c:XaY):Option ((List UInt8)×XaY):=
 cond (c.T.Proto==6)
  (
  (Xf6 c.Clock 0).bind fun s=>
  (XgJ c.T 2 s []).bind fun s1=>
  some ((s1.1,c)))
  (
  (XrX).bind fun n=>
  (Xey (Xat.mk true 0 1 n [0,0] [])).bind fun p=>
  (XbF c.T p.1).bind fun d=>
  some ((d.1,c)))
abbrev XmN:=XaY→Option ((List UInt8)×XaY)
def Xk1:XmN:=Xkk Xf6 Xey XbF XgJ XrX
def XlO (Xf6:Xj9) (Xey:Xe3) (XbF:XcJ) (XgJ:Xj1) (c:XaY) (flags:Int) (payload:List UInt8):Option ((List UInt8)×Int×XaY):=
 cond (c.T.Proto==6)
  (
  (Xf6 c.Clock c.Echo).bind fun s=>
  (XgJ c.T flags s payload).bind fun s1=>
  some ((s1.1,s1.2,c)))
  (
  (Xey (Xat.mk false 0 0 c.ID [] payload)).bind fun p=>
  (XbF c.T p.1).bind fun d=>
  some ((d.1,d.2,c)))
abbrev Xoo:=XaY→Int→(List UInt8)→Option ((List UInt8)×Int×XaY)
def XmF:Xoo:=XlO Xf6 Xey XbF XgJ
def XpQ (t:Xag):Option Xag:=
 some (Xag.mk t.Proto t.Dst t.Src t.DPort t.SPort)
def rx27 (x:Xag):XcU:=⟨.agg ⟨[.int .i64 x.Proto,.bool x.Src.V6,.int .u64 x.Src.Hi,.int .u64 x.Src.Lo,.bool x.Dst.V6,.int .u64 x.Dst.Hi,.int .u64 x.Dst.Lo,.int .i64 x.SPort,.int .i64 x.DPort]⟩,[],[]⟩
abbrev XeX:=Xag→Option Xag
def r27 (g:XeX):Dec:=dV Xd6 fun (y0:Xag)=>XdX (ofG (g y0) rx27)
theorem r27_c {g:XeX} {y0:Xag} {x:Xag} (hx:g y0=some x):r27 g [.agg ⟨[.int .i64 y0.Proto,.bool y0.Src.V6,.int .u64 y0.Src.Hi,.int .u64 y0.Src.Lo,.bool y0.Dst.V6,.int .u64 y0.Dst.Hi,.int .u64 y0.Dst.Lo,.int .i64 y0.SPort,.int .i64 y0.DPort]⟩] []=some (rx27 x):=(XaS (Xer _)).trans (XaQ hx)
def s27 (g:XeX):XbE:=⟨[.v],r27 g⟩
theorem XV2 {g:XeX} {y0:Xag} {x:Xag} (hx:g y0=some x):(s27 g).run [.agg ⟨[.int .i64 y0.Proto,.bool y0.Src.V6,.int .u64 y0.Src.Hi,.int .u64 y0.Src.Lo,.bool y0.Dst.V6,.int .u64 y0.Dst.Hi,.int .u64 y0.Dst.Lo,.int .i64 y0.SPort,.int .i64 y0.DPort]⟩] []=some (rx27 x):=r27_c hx
abbrev XUo:List (Nat×XbE):=[]
theorem XPb (hS:Xak Tryz.prog (XaD (XUo))) (t:Xag) (res:Xag) (h:XpQ t=some res) :
 XaG Tryz.prog 27 0 ⟨⟨27,14,[(0,.agg ⟨[.int .i64 t.Proto,.bool t.Src.V6,.int .u64 t.Src.Hi,.int .u64 t.Src.Lo,.bool t.Dst.V6,.int .u64 t.Dst.Hi,.int .u64 t.Dst.Lo,.int .i64 t.SPort,.int .i64 t.DPort]⟩)],[.code XRm],[],false,none⟩,[],[],0⟩ (fun v H _=>Res 0 (rx27 res) v H):=by
 unfold XpQ at h
 refine Xa6 XaE hS true 3000 ?_
 conv=>whnf
 exact W
def Xes:XeX:=XpQ
theorem lift27:XbM Tryz.prog 27 (s27 Xes):=by
 have hL:=XPb (Xak.XaM trivial)
 exact okA ⟨Tryz.f27,rfl,by decide,rfl⟩
def Xk2 (XgD:Xg0) (XbT:Xdl) (Xki:XoH) (Xes:XeX) (c:XaY) (s:List UInt8):Option (Int×XaY):=
 (XbT s).bind fun p=>
 cond (p.2 !=0)
  (
  some ((p.2,c)))
  (
  (Xes c.T).bind fun b=>
  let t:=!((p.1.Tuple.Proto==b.Proto)&&((p.1.Tuple.Src.V6==b.Src.V6)&&((p.1.Tuple.Src.Hi==b.Src.Hi)&&((p.1.Tuple.Src.Lo==b.Src.Lo)&&((p.1.Tuple.Dst.V6==b.Dst.V6)&&((p.1.Tuple.Dst.Hi==b.Dst.Hi)&&((p.1.Tuple.Dst.Lo==b.Dst.Lo)&&((p.1.Tuple.SPort==b.SPort)&&((p.1.Tuple.DPort==b.DPort)&&true)))))))))
  cond (t)
   (
   some ((16,c)))
   (
   cond (p.1.Stamped)
    (
    (Xki s).bind fun w=>
    Xbh (decide ((0:Int)≤w.2.1∧w.2.1≤(s.length:Int))) <|
    let t1:=(s.drop w.2.1.toNat).take (s.length - w.2.1.toNat)
    (XgD t1).bind fun xg=>
    cond (c.T.Proto==17)
     (
     cond (xg.2==0)
      (
      cond (xg.1.Long)
       (
       cond ((xg.1.SCID.length:Int)==8)
        (
        some ((0,XaY.mk c.T c.Clock p.1.Val xg.1.SCID)))
        (
        some ((0,XaY.mk c.T c.Clock p.1.Val c.ID))))
       (
       some ((0,XaY.mk c.T c.Clock p.1.Val c.ID))))
      (
      some ((0,XaY.mk c.T c.Clock p.1.Val c.ID))))
     (
     some ((0,XaY.mk c.T c.Clock p.1.Val c.ID))))
    (
    (Xki s).bind fun w1=>
    Xbh (decide ((0:Int)≤w1.2.1∧w1.2.1≤(s.length:Int))) <|
    let t2:=(s.drop w1.2.1.toNat).take (s.length - w1.2.1.toNat)
    (XgD t2).bind fun xg1=>
    cond (c.T.Proto==17)
     (
     cond (xg1.2==0)
      (
      cond (xg1.1.Long)
       (
       cond ((xg1.1.SCID.length:Int)==8)
        (
        some ((0,XaY.mk c.T c.Clock c.Echo xg1.1.SCID)))
        (
        some ((0,c))))
       (
       some ((0,c))))
      (
      some ((0,c))))
     (
     some ((0,c))))))
abbrev Xna:=XaY→(List UInt8)→Option (Int×XaY)
def Xlt:Xna:=Xk2 XgD XbT Xki Xes
end Go.Vm.Code
namespace Go.Vm.Code
open Go Go.Vm
def Xlo (p:Int):Xbj:=cond (p==6) ⟨some 117,some 120,some 121⟩ ⟨some 122,some 124,some 125⟩
def Xk4 (x:XaY):Xab:=⟨x.T,Xlo x.T.Proto,x.Clock,x.Echo,x.ID⟩
structure Xwi (x:XaY):Prop where
 src:A4 x.T.Src
 dst:A4 x.T.Dst
 proto:x.T.Proto=6∨x.T.Proto=17
 clock:0≤x.Clock∧x.Clock<4294967296
 echo:0≤x.Echo∧x.Echo<4294967296
 name:x.ID.length=8
def Xnm:List UInt8:=[0,0,0,0,0,0,0,0]
theorem XSK:strings_Repeat [0] 8=some Xnm:=by decide +kernel
theorem XCY:XrX=some Xnm:=rfl
theorem XrL {x:XaY} (h:Xwi x):Xae (Xk4 x)=some (true,Xk4 x):=by
 rcases h.proto with e|e<;>simp [Xae,Xft,Xk4,Xlo,e]
def XvR (x:XaY) (h:Xat):List UInt8×Int:=Xjk x.T (XmB h).1
def Xsa (x:XaY):List UInt8:=cond (x.T.Proto==6) (XwJ x.T 2 (XiO x.Clock.toNat 0) []).1 (XvR x ⟨true,0,1,Xnm,[0,0],[]⟩).1
def Xwl (x:XaY) (f:Int) (l:List UInt8):List UInt8×Int:=cond (x.T.Proto==6) (XwJ x.T f (XiO x.Clock.toNat x.Echo.toNat) l) (XvR x ⟨false,0,0,x.ID,[],l⟩)
theorem Xmg {h:Xat} (hk:HOK h):(XgL h).length≤60+h.Rest.length:=by
 unfold XgL
 obtain ⟨_,h2⟩:=hk
 split
 ·rename_i c;rw [if_pos c] at h2;simp only [List.length_append,Xhd];omega
 ·rename_i c;rw [if_neg c] at h2;simp only [List.length_append,Xhd];omega
theorem sd43 {a b:Int} (ha:0≤a∧a<4294967296) (hb:0≤b∧b<4294967296):Xb4 a b=some (XiO a.toNat b.toNat)∧Xf6 a b=some (XiO a.toNat b.toNat):=by
 have h1:=XL7 (v:=a.toNat) (e:=b.toNat) (by omega) (by omega)
 have h2:=XMH (v:=a.toNat) (e:=b.toNat) (by omega) (by omega)
 rw [Int.toNat_of_nonneg ha.1,Int.toNat_of_nonneg hb.1] at h1 h2
 exact ⟨h1,h2⟩
theorem Xu7 (a b:Nat):(XiO a b).length=12:=by simp [XiO]
theorem Xu1 {t:Xag} {h:Xat} (h1:A4 t.Src) (h2:A4 t.Dst) (hk:HOK h) (hv:0≤h.Version∧h.Version<2^32) (hr:h.Rest.length<2^17) :
 Xa8 t h=some (Xjk t (XmB h).1)∧Xey h=some (XmB h)∧XbF t (XmB h).1=some (Xjk t (XmB h).1):=by
 have e:XmB h=(XgL h,0):=if_pos hk
 have hl:=Xmg hk
 refine ⟨?_,XD9 hv (by omega),XzC h1 h2 (by rw [e];simp only [];omega)⟩
 unfold Xa8 Xhl
 rw [XPd hv (by omega),Option.bind_some,e,show ((XgL h,(0:Int)).2 !=0)=false from rfl,cond_false,XzJ h1 h2 (by simp only [];omega)]
 rfl
theorem hokH:HOK ⟨true,0,1,Xnm,[0,0],[]⟩:=by refine ⟨by simp only [];omega,?_⟩;rw [if_pos rfl];exact ⟨by decide,by decide⟩
theorem hokS {i l:List UInt8} (h:i.length=8):HOK ⟨false,0,0,i,[],l⟩:=by refine ⟨by simp only [];omega,?_⟩;rw [if_neg (by simp)];exact ⟨h,rfl,rfl⟩
theorem XwS {x:XaY} (h:Xwi x):Xau (Xk4 x)=some (Xsa x,Xk4 x)∧Xk1 x=some (Xsa x,x):=by
 have h1:=h.src
 have h2:=h.dst
 obtain ⟨d1,d2,d3⟩:=Xu1 h1 h2 hokH (by decide) (by decide)
 obtain ⟨s1,s2⟩:=sd43 h.clock (b:=0) (by decide)
 have g:=XrL h
 unfold Xau Xfq Xk1 Xkk Xsa XvR
 rw [g,Option.bind_some,show (!(true,Xk4 x).1)=false from rfl,cond_false]
 rcases h.proto with e|e
 ·have e1:(x.T.Proto==6)=true:=by simp [e]
  have ev:(Xk4 x).v_=⟨some 117,some 120,some 121⟩:=by simp [Xk4,Xlo,e]
  rw [e1]
  simp only [cond_true,ev,Option.elim_some]
  rw [show ((117:Nat)==117)=true from rfl,cond_true]
  unfold Xcs XgQ
  simp only []
  rw [show (Xk4 x).clock=x.Clock from rfl,show (Xk4 x).t=x.T from rfl,s1,s2]
  simp only [Option.bind_some]
  rw [Xtu h1 h2 (by rw [Xu7];decide) (by decide),Xs8 h1 h2 (by rw [Xu7];decide) (by decide)]
  refine ⟨?_,rfl⟩
  simp only [Option.bind_some]
  rw [←ev];rfl
 ·have e1:(x.T.Proto==6)=false:=by simp [e]
  have ev:(Xk4 x).v_=⟨some 122,some 124,some 125⟩:=by simp [Xk4,Xlo,e]
  rw [e1]
  simp only [cond_false,ev,Option.elim_some]
  rw [show ((122:Nat)==117)=false from rfl,show ((122:Nat)==122)=true from rfl,cond_true,cond_false]
  unfold Xc2 Xh1
  rw [XSK,XCY]
  simp only [Option.bind_some]
  rw [show (Xk4 x).t=x.T from rfl,d1,d2]
  simp only [Option.bind_some,d3]
  refine ⟨?_,trivial⟩
  rw [←ev];rfl
theorem XB9 {x:XaY} (h:Xwi x) {f:Int} {l:List UInt8} (hl:l.length<2^16):XaF (Xk4 x) f l=some ((Xwl x f l).1,(Xwl x f l).2,Xk4 x)∧XmF x f l=some ((Xwl x f l).1,(Xwl x f l).2,x):=by
 have h1:=h.src
 have h2:=h.dst
 obtain ⟨d1,d2,d3⟩:=Xu1 h1 h2 (hokS (l:=l) h.name) (by simp only [];omega) (by simp only [];omega)
 obtain ⟨s1,s2⟩:=sd43 h.clock h.echo
 have g:=XrL h
 unfold XaF Xgr XmF XlO Xwl XvR
 rw [g,Option.bind_some,show (!(true,Xk4 x).1)=false from rfl,cond_false]
 rcases h.proto with e|e
 ·have e1:(x.T.Proto==6)=true:=by simp [e]
  have ev:(Xk4 x).v_=⟨some 117,some 120,some 121⟩:=by simp [Xk4,Xlo,e]
  rw [e1]
  simp only [cond_true,ev,Option.elim_some]
  rw [show ((120:Nat)==120)=true from rfl,cond_true]
  unfold Xcu XgY
  simp only []
  rw [show (Xk4 x).clock=x.Clock from rfl,show (Xk4 x).echo=x.Echo from rfl,show (Xk4 x).t=x.T from rfl,s1,s2]
  simp only [Option.bind_some]
  rw [Xtu h1 h2 (by rw [Xu7];decide) (by omega),Xs8 h1 h2 (by rw [Xu7];decide) (by omega)]
  refine ⟨?_,rfl⟩
  simp only [Option.bind_some]
  rw [←ev];rfl
 ·have e1:(x.T.Proto==6)=false:=by simp [e]
  have ev:(Xk4 x).v_=⟨some 122,some 124,some 125⟩:=by simp [Xk4,Xlo,e]
  rw [e1]
  simp only [cond_false,ev,Option.elim_some]
  rw [show ((124:Nat)==120)=false from rfl,show ((124:Nat)==124)=true from rfl,cond_true,cond_false]
  unfold Xc1 Xh6
  simp only []
  rw [show (Xk4 x).t=x.T from rfl,show (Xk4 x).id_=x.ID from rfl,d1,d2]
  simp only [Option.bind_some,d3]
  refine ⟨?_,trivial⟩
  rw [←ev];rfl
theorem XAI:∀ l,(0≤(stL l).1∧(stL l).1<4294967296)∧0≤(stL l).2.1∧(stL l).2.1<4294967296
 | []=>by simp [stL]
 | o::l=>by
   unfold stL
   split
   ·split
    ·exact ⟨XfQ o.Data 0 4 4294967296 (by decide),XfQ o.Data 4 4 4294967296 (by decide)⟩
    ·simp
   ·exact XAI l
theorem z43:(0:Int)≤0∧(0:Int)<4294967296:=by decide
theorem XDV (o:O11) (n:Nat):(0≤(XhW o n).1.Val∧(XhW o n).1.Val<4294967296)∧((XhW o n).1.Tuple.Proto=17→(XhW o n).1.Stamped=false):=by
 unfold XhW
 split
 ·rename_i h6
  split
  ·exact ⟨z43,fun _=>rfl⟩
  ·refine ⟨?_,fun h=>by simp only [] at h;omega⟩
   simp only [XEb]
   split
   ·exact (XAI _).1
   ·decide
 ·split
  ·split
   ·exact ⟨z43,fun _=>rfl⟩
   ·split
    ·exact ⟨z43,fun _=>rfl⟩
    ·exact ⟨z43,fun _=>rfl⟩
  ·exact ⟨z43,fun _=>rfl⟩
theorem XC2 (s:List UInt8):(0≤(Xbn s).1.Val∧(Xbn s).1.Val<4294967296)∧((Xbn s).1.Tuple.Proto=17→(Xbn s).1.Stamped=false):=by
 unfold Xbn
 repeat' split
 all_goals first|exact XDV _ _|exact ⟨z43,fun _=>rfl⟩
def XnM (t:Xag):Xag:=⟨t.Proto,t.Dst,t.Src,t.DPort,t.SPort⟩
theorem XsY (t:Xag):Xe5 t=some (XnM t)∧Xes t=some (XnM t):=⟨rfl,rfl⟩
def XyP (a b:Xag):Bool:=(a.Proto==b.Proto)&&((a.Src.V6==b.Src.V6)&&((a.Src.Hi==b.Src.Hi)&&((a.Src.Lo==b.Src.Lo)&&((a.Dst.V6==b.Dst.V6)&&((a.Dst.Hi==b.Dst.Hi)&&((a.Dst.Lo==b.Dst.Lo)&&((a.SPort==b.SPort)&&((a.DPort==b.DPort)&&true))))))))
theorem XsV {a b:Xag}:XyP a b=true↔a=b:=by
 unfold XyP
 obtain ⟨a1,⟨a2,a3,a4⟩,⟨a5,a6,a7⟩,a8,a9⟩:=a
 obtain ⟨b1,⟨b2,b3,b4⟩,⟨b5,b6,b7⟩,b8,b9⟩:=b
 simp [and_assoc]
def Xi9 (s:List UInt8):List UInt8:=(s.drop (Xbn s).2.2.1).take (s.length - (Xbn s).2.2.1)
def Xu5 (x:XaY) (s:List UInt8):XaY:=
 cond (x.T.Proto==6) (cond (Xbn s).1.Stamped ⟨x.T,x.Clock,(Xbn s).1.Val,x.ID⟩ x) (if (Xn4 (Xi9 s)).2=0∧(Xn4 (Xi9 s)).1.Long=true∧(Xn4 (Xi9 s)).1.SCID.length=8 then ⟨x.T,x.Clock,x.Echo,(Xn4 (Xi9 s)).1.SCID⟩ else x)
def XqU (x:XaY) (s:List UInt8):Int×XaY:=
 if (Xbn s).2.2.2≠0 then ((Xbn s).2.2.2,x) else if (Xbn s).1.Tuple=XnM x.T then (0,Xu5 x s) else (16,x)
theorem ne43 {n:Int} (h:n≠0):(n !=0)=true:=bne_iff_ne.2 h
theorem Xy4 {x:XaY} (h:Xwi x) {s:List UInt8} (hs:s.length<2^18):Xay (Xk4 x) s=some ((XqU x s).1,Xk4 (XqU x s).2)∧Xlt x s=some (XqU x s):=by
 have hp:=XCQ (s:=s) (by omega)
 have hrp:=XpE (s:=s) (by omega)
 have hw:=XDZ (s:=s) (by omega)
 have hrw:=Xx4 (s:=s) (by omega)
 have hle:=(Xtb s).2
 have hrl:(Xi9 s).length<2^38:=by unfold Xi9;simp only [List.length_take,List.length_drop];omega
 obtain ⟨b1,b2⟩:=XsY x.T
 have rng:=XC2 s
 have g:=XrL h
 unfold Xay Xf0 Xlt Xk2 XqU
 rw [g,Option.bind_some,show (!(true,Xk4 x).1)=false from rfl,cond_false,hp,hrp,Option.bind_some,Option.bind_some]
 try simp only []
 by_cases c0:(Xbn s).2.2.2=0
 ·rw [c0,show ((0:Int) !=0)=false from rfl,cond_false,cond_false,show (Xk4 x).t=x.T from rfl,b1,b2,Option.bind_some,Option.bind_some,if_neg (by simp)]
  try simp only []
  have hst:∀ b:Xag,((Xbn s).1.Tuple.Proto==b.Proto&&((Xbn s).1.Tuple.Src.V6==b.Src.V6&&((Xbn s).1.Tuple.Src.Hi==b.Src.Hi&&((Xbn s).1.Tuple.Src.Lo==b.Src.Lo&&((Xbn s).1.Tuple.Dst.V6==b.Dst.V6&&((Xbn s).1.Tuple.Dst.Hi==b.Dst.Hi&&((Xbn s).1.Tuple.Dst.Lo==b.Dst.Lo&&((Xbn s).1.Tuple.SPort==b.SPort&&((Xbn s).1.Tuple.DPort==b.DPort&&true)))))))))=XyP (Xbn s).1.Tuple b:=fun b=>rfl
  rw [hst]
  by_cases c1:(Xbn s).1.Tuple=XnM x.T
  ·rw [XsV.2 c1,if_pos c1,Bool.not_true,cond_false,cond_false]
   have hpr:(Xbn s).1.Tuple.Proto=x.T.Proto:=by rw [c1];rfl
   have hq:=Xv5 hrl
   have hrq:=XvP hrl
   have ho:∀ {α:Type} (y:Option α),Xbh (decide ((0:Int)≤(((Xbn s).2.2.1:Nat):Int)∧(((Xbn s).2.2.1:Nat):Int)≤(s.length:Int))) y=y:=fun y=>Xar (by omega)
   have hrs:List.take (s.length - (Xbn s).2.2.1) (List.drop (Xbn s).2.2.1 s)=Xi9 s:=rfl
   simp only [hrw,Option.bind_some,ho,Int.toNat_natCast,hrs,hrq]
   unfold Xu5
   rcases h.proto with e|e
   ·have e1:(x.T.Proto==6)=true:=by simp [e]
    have e2:(x.T.Proto==17)=false:=by simp [e]
    have ev:(Xk4 x).v_=⟨some 117,some 120,some 121⟩:=by simp [Xk4,Xlo,e]
    rw [e1,e2]
    simp only [cond_true,cond_false,ev,Option.elim_some]
    rw [show ((121:Nat)==121)=true from rfl,cond_true]
    unfold Xct Xg1
    cases c2:(Xbn s).1.Stamped
    ·simp only [cond_false,Option.bind_some]
     refine ⟨?_,by trivial⟩
     rw [←ev];rfl
    ·simp only [cond_true,Option.bind_some]
     refine ⟨?_,by trivial⟩
     rw [←ev];rfl
   ·have e1:(x.T.Proto==6)=false:=by simp [e]
    have e2:(x.T.Proto==17)=true:=by simp [e]
    have ev:(Xk4 x).v_=⟨some 122,some 124,some 125⟩:=by simp [Xk4,Xlo,e]
    have c2:(Xbn s).1.Stamped=false:=rng.2 (by rw [hpr];exact e)
    rw [e1,e2,c2]
    simp only [cond_true,cond_false,ev,Option.elim_some]
    rw [show ((125:Nat)==121)=false from rfl,show ((125:Nat)==125)=true from rfl,cond_true,cond_false]
    unfold Xc5 Xic
    simp only [hw,Option.bind_some,ho,Int.toNat_natCast,hrs,hq]
    by_cases q0:(Xn4 (Xi9 s)).2=0
    ·rw [show ((Xn4 (Xi9 s)).2==0)=true by simp [q0],cond_true,cond_true]
     cases q1:(Xn4 (Xi9 s)).1.Long
     ·rw [cond_false,cond_false,if_neg (by simp)]
      refine ⟨?_,by trivial⟩
      rw [Option.bind_some,←ev];rfl
     ·rw [cond_true,cond_true]
      by_cases q2:(Xn4 (Xi9 s)).1.SCID.length=8
      ·rw [show (((Xn4 (Xi9 s)).1.SCID.length:Int)==8)=true by simp [q2],cond_true,cond_true,if_pos ⟨q0,rfl,q2⟩]
       refine ⟨?_,by trivial⟩
       rw [Option.bind_some,←ev];rfl
      ·rw [show (((Xn4 (Xi9 s)).1.SCID.length:Int)==8)=false by rw [beq_eq_false_iff_ne];omega,cond_false,cond_false,if_neg (fun q=>q2 q.2.2)]
       refine ⟨?_,by trivial⟩
       rw [Option.bind_some,←ev];rfl
    ·rw [show ((Xn4 (Xi9 s)).2==0)=false by simp [q0],cond_false,cond_false,if_neg (fun q=>q0 q.1)]
     refine ⟨?_,by trivial⟩
     rw [Option.bind_some,←ev];rfl
  ·have c2:XyP (Xbn s).1.Tuple (XnM x.T)=false:=by
    cases hh:XyP (Xbn s).1.Tuple (XnM x.T)
    ·rfl
    ·exact absurd (XsV.1 hh) c1
   rw [c2,if_neg c1,Bool.not_false,cond_true,cond_true]
   exact ⟨rfl,rfl⟩
 ·rw [ne43 c0,cond_true,cond_true,if_pos c0]
  exact ⟨rfl,rfl⟩
theorem XBb {x:XaY} (h:Xwi x):Xav (Xk4 x)=some (x.Echo,x.ID,Xk4 x):=by
 unfold Xav Xf3
 rw [XrL h];rfl
theorem XAT {a:Xaa} (h:adr a=true):aok a=true:=by
 unfold adr at h;unfold aok
 cases hv:a.V6
 ·rw [hv] at h
  simp only [Bool.false_or,Bool.and_eq_true,decide_eq_true_eq] at h ⊢
  exact ⟨beq_iff_eq.2 h.1,h.2⟩
 ·rfl
structure XqV (t:Xag):Prop where
 src:A4 t.Src
 dst:A4 t.Dst
 sa:aok t.Src=true
 da:aok t.Dst=true
 six:t.Src.V6=t.Dst.V6
 sp:0≤t.SPort∧t.SPort≤65535
 dp:0≤t.DPort∧t.DPort≤65535
theorem XLN {t:Xag} (h1:A4 t.Src) (h2:A4 t.Dst) (h:XGH t=true):XqV t:=by
 have h3:=XEY h
 have h4:t.Src.V6=t.Dst.V6:=by
  unfold XGH at h
  simp only [Bool.and_eq_true] at h
  exact eq_of_beq h.2.2.2.2.2
 exact ⟨h1,h2,XAT h3.2.2.2.1,XAT h3.2.2.2.2,h4,h3.2.1,h3.2.2.1⟩
theorem XA5 {t:Xag} (h:XqV t):XqV (XnM t):=⟨h.dst,h.src,h.da,h.sa,h.six.symm,h.dp,h.sp⟩
theorem XxU {a:Xaa} (h:aok a=true) (v:a.V6=false):four a=true:=by
 unfold four;rw [v,h];rfl
theorem Xxf {t:Xag} {b:List UInt8} (h:XqV t) (hp:t.Proto=6∨t.Proto=17) (hb:b.length≤8000):(Xg6 t b).2=0:=by
 have key:(XnL t b).2=0∧(XnL t b).1.length≤9000:=by
  unfold XnL
  cases v:t.Src.V6
  ·have h5:H5 (Xk7 t)=true:=by
    have f1:=XxU h.sa v
    have f2:=XxU h.da (h.six▸v)
    unfold H5 Xk7
    simp only [f1,f2,Bool.and_true,Bool.and_eq_true]
    refine ⟨⟨⟨⟨⟨?_,?_⟩,?_⟩,?_⟩,?_⟩,?_⟩
    all_goals first|rfl|(rcases hp with e|e<;>rw [e]<;>rfl)
   rw [cond_false]
   unfold XLO
   rw [if_neg (by rw [h5];decide),if_neg (by show ¬ (65535 - (20+(([]:List UInt8).length:Int))<(b.length:Int));simp only [List.length_nil];omega)]
   refine ⟨rfl,?_⟩
   have e1:=Xo0 (hd5 (Xk7 t) (20+(Xk7 t).Options.length+b.length)) 10 2 (65535 - (norm (Xfj (hd5 (Xk7 t) (20+(Xk7 t).Options.length+b.length))):Nat))
   have e2:=XuD (Xk7 t) (20+(Xk7 t).Options.length+b.length)
   have e3:(Xk7 t).Options.length=0:=rfl
   simp only [List.length_append]
   omega
  ·have h6:H6 (XnS t):=⟨by show (0:Int)≤0∧(0:Int)≤255;decide,by show (0:Int)≤0∧(0:Int)≤1048575;decide,by show 0≤t.Proto∧t.Proto≤255;omega,by show (0:Int)≤64∧(64:Int)≤255;decide,v,h.six▸v⟩
   rw [cond_true]
   unfold XKP
   rw [if_neg (by simpa using h6),if_neg (by omega)]
   refine ⟨rfl,?_⟩
   simp only [List.length_append,XnJ];omega
 unfold Xg6
 have hn:¬ (t.Src.V6≠t.Dst.V6∨aok t.Src=false∨aok t.Dst=false∨(t.Proto≠6∧t.Proto≠17)):=by
  rintro (a|a|a|⟨a,b⟩)
  ·exact a h.six
  ·rw [h.sa] at a;cases a
  ·rw [h.da] at a;cases a
  ·omega
 rw [if_neg hn,if_neg (by omega)]
 exact key.1
theorem XJJ {src dst:Xaa} (h1:aok src=true) (h2:aok dst=true) (h3:src.V6=dst.V6) (p n:Int):Xma src dst p n≠[]:=by
 unfold Xma
 rw [if_pos ⟨h1,h2,h3⟩]
 intro e
 have e2:=(List.append_eq_nil_iff.1 e).2
 cases hv:src.V6
 ·rw [hv,cond_false] at e2
  have e3:=(List.append_eq_nil_iff.1 (List.append_eq_nil_iff.1 e2).1).1
  exact absurd e3 (by decide)
 ·rw [hv,cond_true] at e2
  have e3:=(List.append_eq_nil_iff.1 (List.append_eq_nil_iff.1 e2).1).2
  exact absurd e3 (by decide)
theorem Xr1 {t:Xag} (h:XqV t) (hp:t.Proto=17) {l:List UInt8} (hl:l.length≤2000) :
 (Xjk t l).2=0∧(Xjk t l).1.length≤9000∧∃ n a,Xbn (Xjk t l).1=(⟨t,0,false,0,0,(Xxy l).1,(Xxy l).2,n⟩,a,(Xjk t l).1.length - l.length,0)∧l.length≤(Xjk t l).1.length∧(Xjk t l).1.drop ((Xjk t l).1.length - l.length)=l:=by
 have d0:(Xmq ⟨t.SPort,t.DPort⟩ t.Src t.Dst l).2=0:=by
  unfold Xmq
  have hh:(port t.SPort&&port t.DPort)=true:=by
   have h1:=h.sp;have h2:=h.dp
   rw [Bool.and_eq_true];exact ⟨XjU.2 h1,XjU.2 h2⟩
  simp only [hh]
  rw [if_neg (by decide),if_neg (XJJ h.sa h.da h.six _ _),if_neg (by omega)]
 have hlen:=Xr9 ⟨t.SPort,t.DPort⟩ t.Src t.Dst l
 have g0:=Xxf (b:=(Xmq ⟨t.SPort,t.DPort⟩ t.Src t.Dst l).1) h (.inr hp) (by omega)
 have hs:Xjk t l=Xg6 t (Xmq ⟨t.SPort,t.DPort⟩ t.Src t.Dst l).1:=by
  unfold Xjk
  rw [if_neg (by simpa using hp),if_neg (by simpa using d0)]
 rw [hs]
 refine ⟨g0,(Xrx g0).2,?_⟩
 have hi:=XQ2 (t:=t) (h:=⟨t.SPort,t.DPort⟩) (l:=l) (z:=cond t.Src.V6 40 20) (n:=(Xg6 t (Xmq ⟨t.SPort,t.DPort⟩ t.Src t.Dst l).1).1.length) d0 hp
 have htm:=Xze h.src h.dst g0
 rw [hi,if_neg (by simp)] at htm
 obtain ⟨_,_,_,_,c⟩:=Xu3 d0
 have hb:(Xmq ⟨t.SPort,t.DPort⟩ t.Src t.Dst l).1=(be t.SPort.toNat 2++be t.DPort.toNat 2++be (8+l.length) 2++be (ck8 (Xma t.Src t.Dst 17 (8+l.length)) (u8 ⟨t.SPort,t.DPort⟩ l)).toNat 2)++l:=by rw [c];rfl
 have hend:(Xg6 t (Xmq ⟨t.SPort,t.DPort⟩ t.Src t.Dst l).1).1.drop ((Xg6 t (Xmq ⟨t.SPort,t.DPort⟩ t.Src t.Dst l).1).1.length - l.length)=l:=by
  obtain ⟨_,_,_,_,_,q⟩:=XrN g0
  have de:∀ X:List UInt8,(X++l).drop ((X++l).length - l.length)=l:=fun X=>by rw [List.length_append,Nat.add_sub_cancel];exact List.drop_left
  rcases q with ⟨v,hh,hl,e⟩|⟨v,hh,hl,e⟩
  ·rw [e];simp only [];rw [hb,←List.append_assoc];exact de _
  ·rw [e];simp only [];rw [hb,←List.append_assoc];exact de _
 have hlb:(Xmq ⟨t.SPort,t.DPort⟩ t.Src t.Dst l).1.length=8+l.length:=by rw [c];exact Xv0 _ _ _
 have ml:=(Xrx g0).1
 refine ⟨_,_,htm,by omega,hend⟩
theorem XtE {h:Xat} (hk:HOK h) (hv:0≤h.Version∧h.Version<2^32):Xxy (XmB h).1=(h.Long,h.DCID):=by
 rw [show XmB h=(XgL h,0) from if_pos hk]
 unfold Xxy
 rw [XsE hk hv,if_pos rfl]
end Go.Vm.Code
namespace Go.Vm.Code
open Go Go.Vm Go.Proofs
set_option maxRecDepth 100000
set_option maxHeartbeats 4000000
set_option linter.unusedVariables false
def XlS (XbT:Xdl) (Xav:Xbz) (XbY:XcE) (Xbg:Xb1) (Xau:Xbd) (Xas:XaZ) (XaF:Xby) (Xax:Xa5) (Xay:XbB) (strings_Repeat:XbR) (XbS:Xc3):Option Bool:=
 (XbS (Xag.mk 6 (Xaa.mk false 0 0) (Xaa.mk false 0 0) 0 0)).bind fun xr=>
 cond (!xr)
  (
  (Xas).bind fun n=>
  (XbT n).bind fun p=>
  (XbS (Xag.mk 7 (Xaa.mk false 0 0) (Xaa.mk false 0 0) 0 0)).bind fun xr1=>
  cond (!xr1)
   (
   (Xbg 1).bind fun n1=>
   (XbY (Xab.mk (Xag.mk 0 (Xaa.mk false 0 0) (Xaa.mk false 0 0) 0 0) (Xbj.mk none none none) 0 0 []) 1).bind fun xg=>
   (Xax 0 []).bind fun n2=>
   (Xav xg).bind fun e=>
   some (false))
   (
   (strings_Repeat [0] 8).bind fun xr2=>
   (Xbg 1).bind fun n3=>
   (XbY (Xab.mk (Xag.mk 0 (Xaa.mk false 0 0) (Xaa.mk false 0 0) 0 0) (Xbj.mk none none none) 0 0 []) 1).bind fun xg1=>
   (Xax 0 []).bind fun n4=>
   (Xav xg1).bind fun e1=>
   some (false)))
  (
  (strings_Repeat [0] 8).bind fun xr3=>
  (Xau (Xab.mk (Xag.mk 6 (Xaa.mk false 0 0) (Xaa.mk false 0 0) 0 0) (Xbj.mk (some 117) (some 120) (some 121)) 1 0 xr3)).bind fun xh=>
  (XbT xh.1).bind fun p1=>
  (XbS (Xag.mk 7 (Xaa.mk false 0 0) (Xaa.mk false 0 0) 0 0)).bind fun xr4=>
  cond (!xr4)
   (
   (Xbg 1).bind fun n5=>
   (XbY (Xab.mk (Xag.mk 0 (Xaa.mk false 0 0) (Xaa.mk false 0 0) 0 0) (Xbj.mk none none none) 0 0 []) 1).bind fun xg2=>
   (Xax 0 []).bind fun n6=>
   (Xav xg2).bind fun e2=>
   cond (p1.2==0)
    (
    cond (p1.1.Flags==2)
     (
     cond (n6.2==1)
      (
      (Xay e2.2.2 []).bind fun t=>
      cond (t.1==1)
       (
       (Xas).bind fun n7=>
       cond (n7==[])
        (
        cond (e2.1==0)
         (
         some (e2.2.1==[]))
         (
         some (false)))
        (
        some (false)))
       (
       some (false)))
      (
      some (false)))
     (
     some (false)))
    (
    some (false)))
   (
   (strings_Repeat [0] 8).bind fun xr5=>
   (Xbg 1).bind fun n8=>
   (XbY (Xab.mk (Xag.mk 0 (Xaa.mk false 0 0) (Xaa.mk false 0 0) 0 0) (Xbj.mk none none none) 0 0 []) 1).bind fun xg3=>
   (Xax 0 []).bind fun n9=>
   (Xav xg3).bind fun e3=>
   cond (p1.2==0)
    (
    cond (p1.1.Flags==2)
     (
     cond (n9.2==1)
      (
      (Xay e3.2.2 []).bind fun t1=>
      cond (t1.1==1)
       (
       (Xas).bind fun n10=>
       cond (n10==[])
        (
        cond (e3.1==0)
         (
         some (e3.2.1==[]))
         (
         some (false)))
        (
        some (false)))
       (
       some (false)))
      (
      some (false)))
     (
     some (false)))
    (
    some (false))))
def rx32 (x:Bool):XcU:=⟨.bool x,[],[]⟩
abbrev XdY:=Option Bool
def r32 (g:XdY):Dec:=XdX (ofG (g) rx32)
theorem r32_c {g:XdY} {x:Bool} (hx:g=some x):r32 g [] []=some (rx32 x):=XaQ hx
def s32 (g:XdY):XbE:=⟨[],r32 g⟩
theorem XJF {g:XdY} {x:Bool} (hx:g=some x):(s32 g).run [] []=some (rx32 x):=r32_c hx
abbrev XVX (XbT:Xdl) (Xav:Xbz) (XbY:XcE) (Xbg:Xb1) (Xau:Xbd) (Xas:XaZ) (XaF:Xby) (Xax:Xa5) (Xay:XbB) (strings_Repeat:XbR) (XbS:Xc3):List (Nat×XbE):=[(28,s28 XbT),(42,s42 Xav),(41,s41 XbY Xbg),(35,s35 Xau Xas),(37,s37 XaF Xax),(39,s39 Xay),(68,s68 strings_Repeat),(67,s67 XbS)]
theorem XP5 (XbT:Xdl) (Xav:Xbz) (XbY:XcE) (Xbg:Xb1) (Xau:Xbd) (Xas:XaZ) (XaF:Xby) (Xax:Xa5) (Xay:XbB) (strings_Repeat:XbR) (XbS:Xc3) (hS:Xak Tryz.prog (XaD (XVX XbT Xav XbY Xbg Xau Xas XaF Xax Xay strings_Repeat XbS))) (res:Bool) (h:XlS XbT Xav XbY Xbg Xau Xas XaF Xax Xay strings_Repeat XbS=some res) :
 XaG Tryz.prog 32 0 ⟨⟨32,82,[],[.code XH7],[],false,none⟩,[],[],0⟩ (fun v H _=>Res 0 (rx32 res) v H):=by
 unfold XlS at h
 have R1:=@XJB XbS
 have R2:=@XOV Xau Xas
 have R3:=@XHQ XbT
 have R4:=@XKy XbY Xbg
 have R5:=@XSq XbY Xbg
 have R6:=@XMz XaF Xax
 have R7:=@XIC Xav
 have R8:=@XBn strings_Repeat
 have R9:=@XJn Xau Xas
 have R10:=@XIc Xay
 refine Xa6 XaE hS true 3000 ?_
 conv=>whnf
 exact W
def Xb3:XdY:=XlS XbT Xav XbY Xbg Xau Xas XaF Xax Xay strings_Repeat XbS
theorem lift32:XbM Tryz.prog 32 (s32 Xb3):=by
 have hL:=XP5 XbT Xav XbY Xbg Xau Xas XaF Xax Xay strings_Repeat XbS (Xak.XaM ⟨XVu,XSV,XWb,XUJ,XWm,XSn,XH3,XUI,trivial⟩)
 exact okA ⟨Tryz.f32,rfl,by decide,rfl⟩
def Xed (Xey:Xe3) (XbF:XcJ) (XbT:Xdl) (Xes:XeX) (Xav:Xbz) (Xau:Xbd) (XaF:Xby) (Xay:XbB) (Xb3:XdY) (t:Xag) (l:List (List UInt8)) (payload:List UInt8) (last:List UInt8) (i:Int) (c:Xab):Option (Sum ((List UInt8)×Int×Xab) Bool):=
 cond (decide (i<(l.length:Int)))
  (
  Xbh (decide ((0:Int)≤i∧i<(l.length:Int))) <|
  (l[i.toNat]?).bind fun (e:List UInt8)=>
  cond (decide ((e.length:Int)>20))
   (
   (Xb3).bind fun a3=>
   some (.inr (a3)))
   (
   Xbh (decide ((0:Int)≤i∧i<(l.length:Int))) <|
   (l[i.toNat]?).bind fun (e1:List UInt8)=>
   (Xey (Xat.mk true 0 1 [97,98] e1 payload)).bind fun p=>
   (Xes (Xag.mk 17 t.Src t.Dst t.SPort t.DPort)).bind fun b=>
   (XbF b p.1).bind fun d=>
   cond (p.2 !=0)
    (
    some (.inr (false)))
    (
    cond (d.2 !=0)
     (
     some (.inr (false)))
     (
     (Xay c d.1).bind fun t1=>
     cond (t1.1 !=0)
      (
      some (.inr (false)))
      (
      Xbh (decide ((0:Int)≤i∧i<(l.length:Int))) <|
      (l[i.toNat]?).bind fun (e2:List UInt8)=>
      cond ((e2.length:Int)==8)
       (
       Xbh (decide ((0:Int)≤i∧i<(l.length:Int))) <|
       (l[i.toNat]?).bind fun (e3:List UInt8)=>
       some (.inl (e3,wI .i64 (i+1),t1.2)))
       (
       some (.inl (last,wI .i64 (i+1),t1.2))))))))
  (
  (XaF c 0 payload).bind fun s=>
  (XbT s.1).bind fun p1=>
  (Xau s.2.2).bind fun xh=>
  (XbT xh.1).bind fun p2=>
  (Xav xh.2).bind fun e4=>
  cond (s.2.1==0)
   (
   cond (p1.2==0)
    (
    let t2:=(p1.1.Tuple.Proto==17)&&((p1.1.Tuple.Src.V6==t.Src.V6)&&((p1.1.Tuple.Src.Hi==t.Src.Hi)&&((p1.1.Tuple.Src.Lo==t.Src.Lo)&&((p1.1.Tuple.Dst.V6==t.Dst.V6)&&((p1.1.Tuple.Dst.Hi==t.Dst.Hi)&&((p1.1.Tuple.Dst.Lo==t.Dst.Lo)&&((p1.1.Tuple.SPort==t.SPort)&&((p1.1.Tuple.DPort==t.DPort)&&true))))))))
    cond (t2)
     (
     cond (!p1.1.Long)
      (
      cond (p1.1.CID==last)
       (
       cond (e4.2.1==last)
        (
        let t3:=decide ((s.1.length:Int)≥(payload.length:Int))
        cond (t3)
         (
         let t4:=wI .i64 ((s.1.length:Int) - (payload.length:Int))
         Xbh (decide ((0:Int)≤t4∧t4≤(s.1.length:Int))) <|
         let t5:=(s.1.drop t4.toNat).take (s.1.length - t4.toNat)
         cond (t5==payload)
          (
          cond (p2.2==0)
           (
           cond (p2.1.Long)
            (
            let t6:=(p2.1.Tuple.Proto==17)&&((p2.1.Tuple.Src.V6==t.Src.V6)&&((p2.1.Tuple.Src.Hi==t.Src.Hi)&&((p2.1.Tuple.Src.Lo==t.Src.Lo)&&((p2.1.Tuple.Dst.V6==t.Dst.V6)&&((p2.1.Tuple.Dst.Hi==t.Dst.Hi)&&((p2.1.Tuple.Dst.Lo==t.Dst.Lo)&&((p2.1.Tuple.SPort==t.SPort)&&((p2.1.Tuple.DPort==t.DPort)&&true))))))))
            cond (t6)
             (
             cond ((p2.1.CID.length:Int)==8)
              (
              (Xb3).bind fun a4=>
              some (.inr (a4)))
              (
              some (.inr (false))))
             (
             some (.inr (false))))
            (
            some (.inr (false))))
           (
           some (.inr (false))))
          (
          some (.inr (false))))
         (
         some (.inr (false))))
        (
        some (.inr (false))))
       (
       some (.inr (false))))
      (
      some (.inr (false))))
     (
     some (.inr (false))))
    (
    some (.inr (false))))
   (
   some (.inr (false))))
def Xgu (Xey:Xe3) (XbF:XcJ) (XbT:Xdl) (Xes:XeX) (Xfi:Xfg) (Xav:Xbz) (Xau:Xbd) (Xas:XaZ) (XaF:Xby) (Xax:Xa5) (Xay:XbB) (Xb3:XdY) (strings_Repeat:XbR) (XbS:Xc3) (t:Xag) (l:List (List UInt8)) (payload:List UInt8):Option Bool:=
 (Xfi (Xag.mk 17 t.Src t.Dst t.SPort t.DPort)).bind fun xr=>
 cond (!xr)
  (
  (Xb3).bind fun a=>
  some (a))
  (
  cond (decide ((l.length:Int)>10))
   (
   (Xb3).bind fun a1=>
   some (a1))
   (
   cond (decide ((payload.length:Int)>100))
    (
    (Xb3).bind fun a2=>
    some (a2))
    (
    (XbS (Xag.mk 17 t.Src t.Dst t.SPort t.DPort)).bind fun xr1=>
    cond (!xr1)
     (
     some (false))
     (
     (strings_Repeat [0] 8).bind fun xr2=>
     iter (fun st=>Xed Xey XbF XbT Xes Xav Xau XaF Xay Xb3 t l payload st.1 st.2.1 st.2.2) FUEL ([0,0,0,0,0,0,0,0],0,Xab.mk (Xag.mk 17 t.Src t.Dst t.SPort t.DPort) (Xbj.mk (some 122) (some 124) (some 125)) 1 0 xr2)))))
def rx8 (x:Bool):XcU:=⟨.bool x,[],[none]⟩
abbrev Xg8:=Xag→(List (List UInt8))→(List UInt8)→Option Bool
def r8 (g:Xg8):Dec:=dV Xd6 fun (y0:Xag)=>dSl 0 1 (unL asS) fun (y1:List (List UInt8))=>dV asS fun (y2:List UInt8)=>XdX (ofG (g y0 y1 y2) rx8)
def s8 (g:Xg8):XbE:=⟨[.v,.sl 1,.v],r8 g⟩
abbrev XQE (Xey:Xe3) (XbF:XcJ) (XbT:Xdl) (Xes:XeX) (Xfi:Xfg) (Xav:Xbz) (Xau:Xbd) (Xas:XaZ) (XaF:Xby) (Xax:Xa5) (Xay:XbB) (Xb3:XdY) (strings_Repeat:XbR) (XbS:Xc3):List (Nat×XbE):=[(43,s43 Xey),(44,s44 XbF),(28,s28 XbT),(27,s27 Xes),(23,s23 Xfi),(42,s42 Xav),(35,s35 Xau Xas),(37,s37 XaF Xax),(39,s39 Xay),(32,s32 Xb3),(68,s68 strings_Repeat),(67,s67 XbS)]
def Xox (t:Xag) (l:List (List UInt8)) (payload:List UInt8) (last:List UInt8) (i:Int) (c:Xab):VM:=
 ⟨⟨8,188,[(1,.slice (some ⟨0,0,none⟩) l.length 1),(2,.string ⟨⟨payload⟩⟩),(3,.pointer (some ⟨1,0,none⟩)),(7,.pointer (some ⟨5,0,none⟩)),(9,.string ⟨⟨last⟩⟩),(10,.int .i64 i)],[.code XLt,.inLoop XLt,.inBlock 0,.code XVf],[],false,none⟩,[],[(0,.row false (vS l)),(1,.cells [.int .i64 17,.bool t.Src.V6,.int .u64 t.Src.Hi,.int .u64 t.Src.Lo,.bool t.Dst.V6,.int .u64 t.Dst.Hi,.int .u64 t.Dst.Lo,.int .i64 t.SPort,.int .i64 t.DPort]),(5,.cells [.int .i64 c.t.Proto,.bool c.t.Src.V6,.int .u64 c.t.Src.Hi,.int .u64 c.t.Src.Lo,.bool c.t.Dst.V6,.int .u64 c.t.Dst.Hi,.int .u64 c.t.Dst.Lo,.int .i64 c.t.SPort,.int .i64 c.t.DPort,fvV c.v_.hello,fvV c.v_.say,fvV c.v_.hear,.int .u32 c.clock,.int .u32 c.echo,.string ⟨⟨c.id_⟩⟩])],7⟩
theorem XKK (Xey:Xe3) (XbF:XcJ) (XbT:Xdl) (Xes:XeX) (Xfi:Xfg) (Xav:Xbz) (Xau:Xbd) (Xas:XaZ) (XaF:Xby) (Xax:Xa5) (Xay:XbB) (Xb3:XdY) (strings_Repeat:XbR) (XbS:Xc3) (hS:Xak Tryz.prog (XaD (XQE Xey XbF XbT Xes Xfi Xav Xau Xas XaF Xax Xay Xb3 strings_Repeat XbS))) (t:Xag) (l:List (List UInt8)) (payload:List UInt8) (res:Bool):∀ fuel (st:(List UInt8)×Int×Xab) (o:Bool),iter (fun st=>Xed Xey XbF XbT Xes Xav Xau XaF Xay Xb3 t l payload st.1 st.2.1 st.2.2) fuel st=some o→(o=res) →
 XaG Tryz.prog 8 1 (Xox t l payload st.1 st.2.1 st.2.2) (fun v H _=>Res 1 (rx8 res) v H):=by
 intro fuel st o h hc
 refine Xde (head:=fun st=>Xox t l payload st.1 st.2.1 st.2.2) (C:=fun o=>(o=res)) ?_ fuel st o h hc
 clear h hc o st fuel
 intro st o h hc
 obtain ⟨last,i,c⟩:=st
 replace h:Xed Xey XbF XbT Xes Xav Xau XaF Xay Xb3 t l payload last i c=some o:=h
 show XaG Tryz.prog 8 1 (Xox t l payload last i c) (fun v H _=>Res 1 (rx8 res) v H)
 unfold Xed at h
 have R1:=@XJF Xb3
 have R2:=@XQC XaF Xax
 have R3:=@XHQ XbT
 have R4:=@XJn Xau Xas
 have R5:=@XIC Xav
 refine Xa6 XaE hS true 3000 ?_
 conv=>whnf
 refine br.h h (by rfl) ?_ ?_
 ·clear h;intro hb h;conv=>whnf
  replace h:=Xbh.elim h;obtain ⟨hb,h⟩:=h
  try (refine req.intro hb ?_;conv=>whnf)
  replace h:=Xdg.elim h;obtain ⟨e,hy,h⟩:=h
  refine rd.S hy (by first|rfl|(rw [Nat.zero_add,Nat.mul_one];try rfl;done)|omega) ?_
  conv=>whnf
  refine br.h h (by rfl) ?_ ?_
  ·clear h;intro hb h;conv=>whnf
   exact W
  clear h;intro hb h;conv=>whnf
  replace h:=Xbh.elim h;obtain ⟨hb,h⟩:=h
  try (refine req.intro hb ?_;conv=>whnf)
  replace h:=Xdg.elim h;obtain ⟨e1,hy,h⟩:=h
  refine rd.S hy (by first|rfl|(rw [Nat.zero_add,Nat.mul_one];try rfl;done)|omega) ?_
  conv=>whnf
  replace h:=Xdg.elim h;obtain ⟨p,hy,h⟩:=h
  refine Xg9.a (XTK hy) ?_
  conv=>whnf
  replace h:=Xdg.elim h;obtain ⟨b,hy,h⟩:=h
  refine Xg9.a (XV2 hy) ?_
  conv=>whnf
  replace h:=Xdg.elim h;obtain ⟨d,hy,h⟩:=h
  refine Xg9.a (XQM hy) ?_
  conv=>whnf
  refine br.h h (by rfl) ?_ ?_
  ·clear h;intro hb h;conv=>whnf
   exact W
  clear h;intro hb h;conv=>whnf
  refine br.h h (by rfl) ?_ ?_
  ·clear h;intro hb h;conv=>whnf
   exact W
  clear h;intro hb h;conv=>whnf
  replace h:=Xdg.elim h;obtain ⟨t1,hy,h⟩:=h
  refine Xg9.a (XIc hy) ?_
  conv=>whnf
  refine br.h h (by rfl) ?_ ?_
  ·clear h;intro hb h;conv=>whnf
   exact W
  clear h;intro hb h;conv=>whnf
  replace h:=Xbh.elim h;obtain ⟨hb,h⟩:=h
  try (refine req.intro hb ?_;conv=>whnf)
  replace h:=Xdg.elim h;obtain ⟨e2,hy,h⟩:=h
  refine rd.S hy (by first|rfl|(rw [Nat.zero_add,Nat.mul_one];try rfl;done)|omega) ?_
  conv=>whnf
  refine br.h2 h (by rfl) ?_ ?_
  ·clear h;intro hb h;conv=>whnf
   cases h;simp only [Sum.elim_inl,Xox] at hc
   exact Xmp hc [(0,0),(1,1),(5,5)] rfl
  clear h;intro hb h;conv=>whnf
  replace h:=Xbh.elim h;obtain ⟨hb,h⟩:=h
  try (refine req.intro hb ?_;conv=>whnf)
  replace h:=Xdg.elim h;obtain ⟨e3,hy,h⟩:=h
  refine rd.S hy (by first|rfl|(rw [Nat.zero_add,Nat.mul_one];try rfl;done)|omega) ?_
  conv=>whnf
  cases h;simp only [Sum.elim_inl,Xox] at hc
  exact Xmp hc [(0,0),(1,1),(5,5)] rfl
 clear h;intro hb h;conv=>whnf
 exact W
theorem leads8 (Xey:Xe3) (XbF:XcJ) (XbT:Xdl) (Xes:XeX) (Xfi:Xfg) (Xav:Xbz) (Xau:Xbd) (Xas:XaZ) (XaF:Xby) (Xax:Xa5) (Xay:XbB) (Xb3:XdY) (strings_Repeat:XbR) (XbS:Xc3) (hS:Xak Tryz.prog (XaD (XQE Xey XbF XbT Xes Xfi Xav Xau Xas XaF Xax Xay Xb3 strings_Repeat XbS))) (t:Xag) (l:List (List UInt8)) (payload:List UInt8) (res:Bool) (h:Xgu Xey XbF XbT Xes Xfi Xav Xau Xas XaF Xax Xay Xb3 strings_Repeat XbS t l payload=some res) :
 XaG Tryz.prog 8 1 ⟨⟨8,188,[(0,.agg ⟨[.int .i64 t.Proto,.bool t.Src.V6,.int .u64 t.Src.Hi,.int .u64 t.Src.Lo,.bool t.Dst.V6,.int .u64 t.Dst.Hi,.int .u64 t.Dst.Lo,.int .i64 t.SPort,.int .i64 t.DPort]⟩),(1,.slice (some ⟨0,0,none⟩) l.length 1),(2,.string ⟨⟨payload⟩⟩)],[.code XT9],[],false,none⟩,[],[(0,.row false (vS l))],1⟩ (fun v H _=>Res 1 (rx8 res) v H):=by
 unfold Xgu at h
 have R1:=@XJF Xb3
 refine Xa6 XaE hS true 3000 ?_
 conv=>whnf
 replace h:=Xdg.elim h;obtain ⟨xr,hy,h⟩:=h
 refine Xg9.a (XTs hy) ?_
 conv=>whnf
 refine br.h h (by rfl) ?_ ?_
 ·clear h;intro hb h;conv=>whnf
  exact W
 clear h;intro hb h;conv=>whnf
 refine br.h h (by rfl) ?_ ?_
 ·clear h;intro hb h;conv=>whnf
  exact W
 clear h;intro hb h;conv=>whnf
 refine br.h h (by rfl) ?_ ?_
 ·clear h;intro hb h;conv=>whnf
  exact W
 clear h;intro hb h;conv=>whnf
 replace h:=Xdg.elim h;obtain ⟨xr1,hy,h⟩:=h
 refine Xg9.a (XJB hy) ?_
 conv=>whnf
 refine br.h h (by rfl) ?_ ?_
 ·clear h;intro hb h;conv=>whnf
  exact W
 clear h;intro hb h;conv=>whnf
 replace h:=Xdg.elim h;obtain ⟨xr2,hy,h⟩:=h
 refine Xg9.a (XBn hy) ?_
 conv=>whnf
 have hl:=XKK Xey XbF XbT Xes Xfi Xav Xau Xas XaF Xax Xay Xb3 strings_Repeat XbS hS _ _ _ res _ _ _ h rfl;simp only [Xox] at hl
 exact Xmp hl [(0,0),(1,1),(5,5)] rfl
def Xkq:Xg8:=Xgu Xey XbF XbT Xes Xfi Xav Xau Xas XaF Xax Xay Xb3 strings_Repeat XbS
end Go.Vm.Code
namespace Go.Vm.Code
open Go Go.Vm
theorem Xpb:Xb3=some true:=by decide +kernel
theorem XwL {x:XaY} (hp:x.T.Proto=17) {s:List UInt8} {h:Xat} (hk:HOK h) (hv:0≤h.Version∧h.Version<2^32) (hL:h.Long=true) {p:Xam} {a:Nat} (hP:p.Tuple=XnM x.T) (ht:Xbn s=(p,a,s.length - (XmB h).1.length,0)) (hd:s.drop (s.length - (XmB h).1.length)=(XmB h).1) (hle:(XmB h).1.length≤s.length) :
 XqU x s=(0,if h.SCID.length=8 then ⟨x.T,x.Clock,x.Echo,h.SCID⟩ else x):=by
 have hr:Xi9 s=XgL h:=by
  unfold Xi9
  rw [ht]
  simp only []
  rw [hd,show XmB h=(XgL h,0) from if_pos hk]
  rw [show XmB h=(XgL h,0) from if_pos hk] at hle
  exact List.take_of_length_le (by simp only [] at hle ⊢;omega)
 have hq:=XsE hk hv
 unfold XqU Xu5
 rw [hr,hq,ht]
 simp only []
 rw [if_neg (by simp),if_pos hP,show (x.T.Proto==6)=false by simp [hp],cond_false,hL]
 simp only [true_and]
theorem XtU {h:Xat}:∃ X,XgL h=X++h.Rest:=by
 unfold XgL
 split
 ·exact ⟨_,rfl⟩
 ·exact ⟨_,rfl⟩
theorem hokL {i l:List UInt8} (h:i.length≤20):HOK ⟨true,0,1,[97,98],i,l⟩:=by refine ⟨by simp only [];omega,?_⟩;rw [if_pos rfl];exact ⟨by simp,h⟩
theorem XJ3 {t:Xag} (hg:XqV ⟨17,t.Src,t.Dst,t.SPort,t.DPort⟩) {l:List (List UInt8)} (hl:l.length≤10) {p:List UInt8} (hpl:p.length≤100) :
 iter (fun st=>Xed Xey XbF XbT Xes Xav Xau XaF Xay Xb3 t l p st.1 st.2.1 st.2.2) FUEL (Xnm,0,Xk4 ⟨⟨17,t.Src,t.Dst,t.SPort,t.DPort⟩,1,0,Xnm⟩)=some true:=by
 have hgb:=XA5 hg
 refine iter_eq (fun _=>true) (fun st:List UInt8×Int×Xab=>∃ (d:List UInt8) (i:Nat),d.length=8∧i≤l.length∧st=(d,(i:Int),Xk4 ⟨⟨17,t.Src,t.Dst,t.SPort,t.DPort⟩,1,0,d⟩)) (fun st=>l.length+1 - st.2.1.toNat) ?_ FUEL _ ⟨Xnm,0,rfl,by omega,rfl⟩ (by rw [XgM];simp only [];omega)
 rintro st ⟨d,i,hd,hi,rfl⟩
 simp only []
 have hx:Xwi ⟨⟨17,t.Src,t.Dst,t.SPort,t.DPort⟩,1,0,d⟩:=⟨hg.src,hg.dst,.inr rfl,by simp only [];omega,by simp only [];omega,hd⟩
 unfold Xed
 by_cases c:i<l.length
 ·rw [XaP (by omega),Xar (by omega),Int.toNat_natCast,List.getElem?_eq_getElem c,Option.bind_some]
  by_cases c20:20<(l[i]).length
  ·rw [XaP (by omega),Xpb];exact .inl rfl
  have hw:wI .i64 ((i:Int)+1)=((i+1:Nat):Int):=by rw [XdT (by omega) (by omega)];rfl
  have hk:=hokL (i:=l[i]) (l:=p) (by omega)
  have hbl:=Xmg hk
  have hv:(0:Int)≤1∧(1:Int)<2^32:=by decide
  have hpq:XmB ⟨true,0,1,[97,98],l[i],p⟩=(XgL ⟨true,0,1,[97,98],l[i],p⟩,0):=if_pos hk
  obtain ⟨_,d2,d3⟩:=Xu1 hgb.src hgb.dst hk hv (by simp only [];omega)
  obtain ⟨g0,g9,n,a,gt,gl,gd⟩:=Xr1 hgb rfl (l:=(XmB ⟨true,0,1,[97,98],l[i],p⟩).1) (by rw [hpq];simp only [] at hbl ⊢;omega)
  have htk:=XwL (x:=⟨⟨17,t.Src,t.Dst,t.SPort,t.DPort⟩,1,0,d⟩) rfl hk hv rfl rfl gt gd gl
  have htk2:=(Xy4 hx (s:=(Xjk (XnM ⟨17,t.Src,t.Dst,t.SPort,t.DPort⟩) (XmB ⟨true,0,1,[97,98],l[i],p⟩).1).1) (by omega)).1
  rw [htk] at htk2
  rw [XaK (by omega),Xar (by omega),Option.bind_some,d2,Option.bind_some,(XsY _).2,Option.bind_some,d3,Option.bind_some,g0,htk2]
  rw [show ((XmB ⟨true,0,1,[97,98],l[i],p⟩).2 !=0)=false by rw [hpq];rfl,cond_false,show ((0:Int) !=0)=false from rfl,cond_false,Option.bind_some]
  simp only []
  rw [show ((0:Int) !=0)=false from rfl,cond_false,Xar (by omega),Option.bind_some,hw]
  refine .inr ?_
  by_cases c8:(l[i]).length=8
  ·rw [show (((l[i]).length:Int)==8)=true by simp [c8],cond_true,Xar (by omega),Option.bind_some,if_pos c8]
   exact ⟨_,rfl,⟨l[i],i+1,c8,by omega,rfl⟩,by simp only [];omega,trivial⟩
  ·rw [show (((l[i]).length:Int)==8)=false by rw [beq_eq_false_iff_ne];omega,cond_false,if_neg c8]
   exact ⟨_,rfl,⟨d,i+1,hd,by omega,rfl⟩,by simp only [];omega,trivial⟩
 ·refine .inl ?_
  have hsay:=(XB9 hx (f:=0) (l:=p) (by omega)).1
  have hhel:=(XwS hx).1
  have hech:=XBb hx
  have hk1:=hokS (i:=d) (l:=p) hd
  have hbl1:=Xmg hk1
  have hbl2:=Xmg hokH
  have hp1:XmB ⟨false,0,0,d,[],p⟩=(XgL ⟨false,0,0,d,[],p⟩,0):=if_pos hk1
  have hp2:XmB ⟨true,0,1,Xnm,[0,0],[]⟩=(XgL ⟨true,0,1,Xnm,[0,0],[]⟩,0):=if_pos hokH
  obtain ⟨s0,s9,n,a,gs,sl,sd⟩:=Xr1 hg rfl (l:=(XmB ⟨false,0,0,d,[],p⟩).1) (by rw [hp1];simp only [] at hbl1 ⊢;omega)
  obtain ⟨q0,q9,m,a2,gq,_,_⟩:=Xr1 hg rfl (l:=(XmB ⟨true,0,1,Xnm,[0,0],[]⟩).1) (by rw [hp2];simp only [List.length_nil] at hbl2 ⊢;omega)
  rw [XtE hk1 (by show (0:Int)≤0∧(0:Int)<2^32;decide)] at gs
  rw [XtE hokH (by decide)] at gq
  have e1:Xwl ⟨⟨17,t.Src,t.Dst,t.SPort,t.DPort⟩,1,0,d⟩ 0 p=Xjk ⟨17,t.Src,t.Dst,t.SPort,t.DPort⟩ (XmB ⟨false,0,0,d,[],p⟩).1:=rfl
  have e2:Xsa ⟨⟨17,t.Src,t.Dst,t.SPort,t.DPort⟩,1,0,d⟩=(Xjk ⟨17,t.Src,t.Dst,t.SPort,t.DPort⟩ (XmB ⟨true,0,1,Xnm,[0,0],[]⟩).1).1:=rfl
  obtain ⟨X,hX⟩:=XtU (h:=⟨false,0,0,d,[],p⟩)
  simp only [] at hX
  rw [hp1] at sd sl
  have hend:(Xjk ⟨17,t.Src,t.Dst,t.SPort,t.DPort⟩ (XmB ⟨false,0,0,d,[],p⟩).1).1.drop ((Xjk ⟨17,t.Src,t.Dst,t.SPort,t.DPort⟩ (XmB ⟨false,0,0,d,[],p⟩).1).1.length - p.length)=p:=by
   rw [hp1]
   simp only [] at sd sl ⊢
   generalize (Xjk ⟨17,t.Src,t.Dst,t.SPort,t.DPort⟩ (XgL ⟨false,0,0,d,[],p⟩)).1=Y at *
   have hXl:(XgL ⟨false,0,0,d,[],p⟩).length=X.length+p.length:=by rw [hX,List.length_append]
   rw [show Y.length - p.length=(Y.length - (XgL ⟨false,0,0,d,[],p⟩).length)+X.length by omega,←List.drop_drop,sd,hX]
   exact List.drop_left
  have hlen:p.length≤(Xjk ⟨17,t.Src,t.Dst,t.SPort,t.DPort⟩ (XmB ⟨false,0,0,d,[],p⟩).1).1.length:=by
   have hXl:(XgL ⟨false,0,0,d,[],p⟩).length=X.length+p.length:=by rw [hX,List.length_append]
   rw [hp1];simp only [] at sl ⊢;omega
  rw [XaK (by omega),hsay,e1,Option.bind_some]
  simp only []
  rw [XpE (by omega),Option.bind_some,hhel,Option.bind_some,e2]
  simp only []
  rw [XpE (by omega),Option.bind_some,hech,Option.bind_some,gs,gq,s0,Xpb]
  generalize (Xjk ⟨17,t.Src,t.Dst,t.SPort,t.DPort⟩ (XmB ⟨false,0,0,d,[],p⟩).1).1=Y at *
  simp only [beq_self_eq_true,Bool.and_self,cond_true,Option.bind_some,Bool.not_false]
  rw [XaP (by omega),XdT (by omega) (by omega),Xar (by omega),show ((Y.length:Int) - (p.length:Int)).toNat=Y.length - p.length by omega,hend,List.take_of_length_le (by omega)]
  simp only [beq_self_eq_true,cond_true]
  rfl
theorem clientNames (t:Xag) (l:List (List UInt8)) (p:List UInt8) (h1:A4 t.Src) (h2:A4 t.Dst):Xkq t l p=some true:=by
 unfold Xkq Xgu
 rw [XyK,XwT,Option.bind_some,Xpb]
 cases ht:XGH ⟨17,t.Src,t.Dst,t.SPort,t.DPort⟩
 ·rfl
 ·rw [Bool.not_true,cond_false]
  by_cases c:10<l.length
  ·rw [XaP (by omega)];rfl
  rw [XaK (by omega)]
  by_cases c2:100<p.length
  ·rw [XaP (by omega)];rfl
  rw [XaK (by omega),Option.bind_some,Bool.not_true,cond_false,XSK,Option.bind_some]
  have he:=XJ3 (XLN h1 h2 ht) (l:=l) (by omega) (p:=p) (by omega)
  rw [Xpb,show Xk4 ⟨⟨17,t.Src,t.Dst,t.SPort,t.DPort⟩,1,0,Xnm⟩=⟨⟨17,t.Src,t.Dst,t.SPort,t.DPort⟩,⟨some 122,some 124,some 125⟩,1,0,Xnm⟩ from rfl] at he
  rw [show ([0,0,0,0,0,0,0,0]:List UInt8)=Xnm from rfl,he]
end Go.Vm.Code
