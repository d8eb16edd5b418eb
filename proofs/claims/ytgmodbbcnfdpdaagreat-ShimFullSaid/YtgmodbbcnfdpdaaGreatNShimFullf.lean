import Derived.Test.YtgmodbbcnfdpdaaGreatNShimFulle
namespace Go.Vm.Code
open Go Go.Vm Go.Proofs
set_option maxRecDepth 100000
set_option maxHeartbeats 4000000
set_option linter.unusedVariables false
def XlX (Xb6:Xc0) (stamp:Int) (cookie:Int):Option Int:=
 (Xb6 stamp).bind fun l=>
 let t:=Xwm .u32 (wI .u32 ((wI .u32 cookie)*2^16)) (wI .u32 l)
 some (t)
def rx66 (x:Int):Xc4:=⟨.int .u32 x,[],[]⟩
abbrev XeH:=Int→Int→Option Int
def r66 (g:XeH):Dec:=dV (asI .u32) fun (y0:Int)=>dV (asI .u16) fun (y1:Int)=>XdY (ofG (g y0 y1) rx66)
theorem r66_c {g:XeH} {y0:Int} {y1:Int} {x:Int} (hx:g y0 y1=some x):r66 g [.int .u32 y0,.int .u16 y1] []=some (rx66 x):=(Xbb (Xdo _)).trans ((Xbb (Xdo _)).trans (Xbc hx))
def s66 (g:XeH):Xb3:=⟨[.v,.v],r66 g⟩
theorem XNR {g:XeH} {y0:Int} {y1:Int} {x:Int} (hx:g y0 y1=some x):(s66 g).run [.int .u32 y0,.int .u16 y1] []=some (rx66 x):=r66_c hx
abbrev XRQ (Xb6:Xc0):List (Nat×Xb3):=[(59,s59 Xb6)]
theorem XJy (Xb6:Xc0) (hS:Xar Tryz.prog (XaI (XRQ Xb6))) (stamp:Int) (cookie:Int) (res:Int) (h:XlX Xb6 stamp cookie=some res) :
 XaO Tryz.prog 66 0 ⟨⟨66,12,[(0,.int .u32 stamp),(1,.int .u16 cookie)],[.code XPJ],[],false,none⟩,[],[],0⟩ (fun v H _=>Res 0 (rx66 res) v H):=by
 unfold XlX at h
 have R1:=@XAN Xb6
 refine XbD XaQ hS true 3000 ?_
 conv=>whnf
 exact W
def Xfk:XeH:=XlX Xb6
theorem XUf:Xb8 Tryz.prog 66 (s66 Xfk):=by
 have hL:=XJy Xb6 (Xar.Xa6 ⟨Xze,trivial⟩)
 exact okA ⟨Tryz.f66,rfl,by decide,rfl⟩
def Xky (Xfk:XeH) (p:Xav) (a1:Int):Option (Int×Int):=
 (Xfk p.Val a1).bind fun l=>
 some ((l,a1))
def rx65 (x:Int×Int):Xc4:=⟨.int .u32 x.1,[],[some [.int .u16 x.2]]⟩
abbrev Xeh:=Xav→Int→Option (Int×Int)
def r65 (g:Xeh):Dec:=dV Xij fun (y0:Xav)=>dPt 0 (un1 (asI .u16)) fun (y1:Int)=>XdY (ofG (g y0 y1) rx65)
theorem r65_c {g:Xeh} {y0:Xav} {y1:Int} {x:Int×Int} (hx:g y0 y1=some x):r65 g [.agg ⟨[.int .i64 y0.Tuple.Proto,.bool y0.Tuple.Src.V6,.int .u64 y0.Tuple.Src.Hi,.int .u64 y0.Tuple.Src.Lo,.bool y0.Tuple.Dst.V6,.int .u64 y0.Tuple.Dst.Hi,.int .u64 y0.Tuple.Dst.Lo,.int .i64 y0.Tuple.SPort,.int .i64 y0.Tuple.DPort,.int .i64 y0.Flags,.bool y0.Stamped,.int .u32 y0.Val,.int .u32 y0.Echo,.bool y0.Long,.string ⟨⟨y0.CID⟩⟩,.int .i64 y0.Size]⟩,.pointer (some ⟨0,0,none⟩)] [some [.int .u16 y1]]=some (rx65 x):=(Xbb (XlL _)).trans ((XmV (XPE (Xdo _))).trans (Xbc hx))
def s65 (g:Xeh):Xb3:=⟨[.v,.pt 1],r65 g⟩
theorem XNB {g:Xeh} {y0:Xav} {y1:Int} {x:Int×Int} (hx:g y0 y1=some x):(s65 g).run [.agg ⟨[.int .i64 y0.Tuple.Proto,.bool y0.Tuple.Src.V6,.int .u64 y0.Tuple.Src.Hi,.int .u64 y0.Tuple.Src.Lo,.bool y0.Tuple.Dst.V6,.int .u64 y0.Tuple.Dst.Hi,.int .u64 y0.Tuple.Dst.Lo,.int .i64 y0.Tuple.SPort,.int .i64 y0.Tuple.DPort,.int .i64 y0.Flags,.bool y0.Stamped,.int .u32 y0.Val,.int .u32 y0.Echo,.bool y0.Long,.string ⟨⟨y0.CID⟩⟩,.int .i64 y0.Size]⟩,.pointer (some ⟨0,0,none⟩)] [some [.int .u16 y1]]=some (rx65 x):=r65_c hx
abbrev XSi (Xfk:XeH):List (Nat×Xb3):=[(66,s66 Xfk)]
theorem XK1 (Xfk:XeH) (hS:Xar Tryz.prog (XaI (XSi Xfk))) (p:Xav) (a1:Int) (res:Int×Int) (h:Xky Xfk p a1=some res) :
 XaO Tryz.prog 65 1 ⟨⟨65,8,[(0,.agg ⟨[.int .i64 p.Tuple.Proto,.bool p.Tuple.Src.V6,.int .u64 p.Tuple.Src.Hi,.int .u64 p.Tuple.Src.Lo,.bool p.Tuple.Dst.V6,.int .u64 p.Tuple.Dst.Hi,.int .u64 p.Tuple.Dst.Lo,.int .i64 p.Tuple.SPort,.int .i64 p.Tuple.DPort,.int .i64 p.Flags,.bool p.Stamped,.int .u32 p.Val,.int .u32 p.Echo,.bool p.Long,.string ⟨⟨p.CID⟩⟩,.int .i64 p.Size]⟩),(1,.pointer (some ⟨0,0,none⟩))],[.code XRg],[],false,none⟩,[],[(0,.cells [.int .u16 a1])],1⟩ (fun v H _=>Res 1 (rx65 res) v H):=by
 unfold Xky at h
 have R1:=@XNR Xfk
 refine XbD XaQ hS true 3000 ?_
 conv=>whnf
 exact W
def Xes:Xeh:=Xky Xfk
theorem XRy:Xb8 Tryz.prog 65 (s65 Xes):=by
 have hL:=XK1 Xfk (Xar.Xa6 ⟨XUf,trivial⟩)
 exact okA ⟨Tryz.f65,rfl,by decide,rfl⟩
def Xig (Xb6:Xc0) (now:Int) (low:Int):Option Int:=
 (Xb6 now).bind fun l=>
 let t:=wI .u32 (now - (wI .u32 (wI .u16 (l - low))))
 some (t)
def rx58 (x:Int):Xc4:=⟨.int .u32 x,[],[]⟩
abbrev XdK:=Int→Int→Option Int
def r58 (g:XdK):Dec:=dV (asI .u32) fun (y0:Int)=>dV (asI .u16) fun (y1:Int)=>XdY (ofG (g y0 y1) rx58)
theorem r58_c {g:XdK} {y0:Int} {y1:Int} {x:Int} (hx:g y0 y1=some x):r58 g [.int .u32 y0,.int .u16 y1] []=some (rx58 x):=(Xbb (Xdo _)).trans ((Xbb (Xdo _)).trans (Xbc hx))
def s58 (g:XdK):Xb3:=⟨[.v,.v],r58 g⟩
theorem XTS {g:XdK} {y0:Int} {y1:Int} {x:Int} (hx:g y0 y1=some x):(s58 g).run [.int .u32 y0,.int .u16 y1] []=some (rx58 x):=r58_c hx
abbrev XNv (Xb6:Xc0):List (Nat×Xb3):=[(59,s59 Xb6)]
theorem XLY (Xb6:Xc0) (hS:Xar Tryz.prog (XaI (XNv Xb6))) (now:Int) (low:Int) (res:Int) (h:Xig Xb6 now low=some res) :
 XaO Tryz.prog 58 0 ⟨⟨58,12,[(0,.int .u32 now),(1,.int .u16 low)],[.code XOV],[],false,none⟩,[],[],0⟩ (fun v H _=>Res 0 (rx58 res) v H):=by
 unfold Xig at h
 have R1:=@XAN Xb6
 refine XbD XaQ hS true 3000 ?_
 conv=>whnf
 exact W
def Xdb:XdK:=Xig Xb6
theorem XPG:Xb8 Tryz.prog 58 (s58 Xdb):=by
 have hL:=XLY Xb6 (Xar.Xa6 ⟨Xze,trivial⟩)
 exact okA ⟨Tryz.f58,rfl,by decide,rfl⟩
def Xj7 (Xb6:Xc0) (Xdb:XdK) (p:Xav) (a1:Int):Option (Int×Int):=
 (Xb6 p.Echo).bind fun l=>
 (Xdb a1 l).bind fun xr=>
 some ((xr,a1))
def rx57 (x:Int×Int):Xc4:=⟨.int .u32 x.1,[],[some [.int .u32 x.2]]⟩
abbrev XeJ:=Xav→Int→Option (Int×Int)
def r57 (g:XeJ):Dec:=dV Xij fun (y0:Xav)=>dPt 0 (un1 (asI .u32)) fun (y1:Int)=>XdY (ofG (g y0 y1) rx57)
theorem r57_c {g:XeJ} {y0:Xav} {y1:Int} {x:Int×Int} (hx:g y0 y1=some x):r57 g [.agg ⟨[.int .i64 y0.Tuple.Proto,.bool y0.Tuple.Src.V6,.int .u64 y0.Tuple.Src.Hi,.int .u64 y0.Tuple.Src.Lo,.bool y0.Tuple.Dst.V6,.int .u64 y0.Tuple.Dst.Hi,.int .u64 y0.Tuple.Dst.Lo,.int .i64 y0.Tuple.SPort,.int .i64 y0.Tuple.DPort,.int .i64 y0.Flags,.bool y0.Stamped,.int .u32 y0.Val,.int .u32 y0.Echo,.bool y0.Long,.string ⟨⟨y0.CID⟩⟩,.int .i64 y0.Size]⟩,.pointer (some ⟨0,0,none⟩)] [some [.int .u32 y1]]=some (rx57 x):=(Xbb (XlL _)).trans ((XmV (XPE (Xdo _))).trans (Xbc hx))
def s57 (g:XeJ):Xb3:=⟨[.v,.pt 1],r57 g⟩
theorem XQd {g:XeJ} {y0:Xav} {y1:Int} {x:Int×Int} (hx:g y0 y1=some x):(s57 g).run [.agg ⟨[.int .i64 y0.Tuple.Proto,.bool y0.Tuple.Src.V6,.int .u64 y0.Tuple.Src.Hi,.int .u64 y0.Tuple.Src.Lo,.bool y0.Tuple.Dst.V6,.int .u64 y0.Tuple.Dst.Hi,.int .u64 y0.Tuple.Dst.Lo,.int .i64 y0.Tuple.SPort,.int .i64 y0.Tuple.DPort,.int .i64 y0.Flags,.bool y0.Stamped,.int .u32 y0.Val,.int .u32 y0.Echo,.bool y0.Long,.string ⟨⟨y0.CID⟩⟩,.int .i64 y0.Size]⟩,.pointer (some ⟨0,0,none⟩)] [some [.int .u32 y1]]=some (rx57 x):=r57_c hx
abbrev XT4 (Xb6:Xc0) (Xdb:XdK):List (Nat×Xb3):=[(59,s59 Xb6),(58,s58 Xdb)]
theorem XI8 (Xb6:Xc0) (Xdb:XdK) (hS:Xar Tryz.prog (XaI (XT4 Xb6 Xdb))) (p:Xav) (a1:Int) (res:Int×Int) (h:Xj7 Xb6 Xdb p a1=some res) :
 XaO Tryz.prog 57 1 ⟨⟨57,9,[(0,.agg ⟨[.int .i64 p.Tuple.Proto,.bool p.Tuple.Src.V6,.int .u64 p.Tuple.Src.Hi,.int .u64 p.Tuple.Src.Lo,.bool p.Tuple.Dst.V6,.int .u64 p.Tuple.Dst.Hi,.int .u64 p.Tuple.Dst.Lo,.int .i64 p.Tuple.SPort,.int .i64 p.Tuple.DPort,.int .i64 p.Flags,.bool p.Stamped,.int .u32 p.Val,.int .u32 p.Echo,.bool p.Long,.string ⟨⟨p.CID⟩⟩,.int .i64 p.Size]⟩),(1,.pointer (some ⟨0,0,none⟩))],[.code XNj],[],false,none⟩,[],[(0,.cells [.int .u32 a1])],1⟩ (fun v H _=>Res 1 (rx57 res) v H):=by
 unfold Xj7 at h
 have R1:=@XAN Xb6
 have R2:=@XTS Xdb
 refine XbD XaQ hS true 3000 ?_
 conv=>whnf
 exact W
def Xei:XeJ:=Xj7 Xb6 Xdb
theorem XSy:Xb8 Tryz.prog 57 (s57 Xei):=by
 have hL:=XI8 Xb6 Xdb (Xar.Xa6 ⟨Xze,XPG,trivial⟩)
 exact okA ⟨Tryz.f57,rfl,by decide,rfl⟩
end Go.Vm.Code
namespace Go.Vm.Code
open Go Go.Vm
def Xqa (now e:Int):Int:=(now - (now%65536 - e%65536)%65536)%4294967296
theorem XAD {p:Xav} {now:Int}:Xei p now=some (Xqa now p.Echo,now):=by
 unfold Xei Xj7 Xdb Xig Xb6 Xlu Xqa
 simp only [Option.bind_some]
 rw [XLC,XLC,XLC,XQR (n:=(now%65536 - p.Echo%65536)%65536) (by omega) (by omega),XSk]
end Go.Vm.Code
namespace Go.Vm.Code
open Go Go.Vm Go.Proofs
set_option maxRecDepth 100000
set_option maxHeartbeats 4000000
set_option linter.unusedVariables false
def Xnw (XaE:XbL) (Xat:Xbe) (Xa4:Xck) (Xes:Xeh) (Xbj:Xcv) (Xb2:XcZ) (s:List UInt8) (cookie:Int):Option ((List UInt8)×Int):=
 (Xat s).bind fun p=>
 cond (p.2 !=0)
  (
  some (([],p.2)))
  (
  cond (!p.1.Stamped)
   (
   some (([],6)))
   (
   (Xa4 s).bind fun w=>
   XbU (decide ((0:Int)≤w.2.1∧w.2.1≤(s.length:Int)∧(0:Int)≤(wI .i64 (w.1+20))∧(wI .i64 (w.1+20))≤(w.2.1.toNat:Int))) <|
   let t:=(s.drop (wI .i64 (w.1+20)).toNat).take (w.2.1.toNat - (wI .i64 (w.1+20)).toNat)
   (Xb2 t).bind fun s1=>
   XbU (decide ((0:Int)≤w.1∧w.1≤(s.length:Int))) <|
   let t1:=(s.drop w.1.toNat).take (s.length - w.1.toNat)
   (Xes p.1 cookie).bind fun x1=>
   (XaE (wI .u64 x1.1) 4).bind fun p1=>
   (Xbj t1 (wI .i64 ((wI .i64 (20+s1.2.2))+0)) p1 16).bind fun p2=>
   cond (!p2.2)
    (
    some (([],3)))
    (
    XbU (decide ((0:Int)≤w.1∧w.1≤(s.length:Int))) <|
    XbU (decide ((s.take w.1.toNat).length+p2.1.length<2^63)) <|
    some (((s.take w.1.toNat)++p2.1,0)))))
def rx37 (x:(List UInt8)×Int):Xc4:=⟨.tuple ⟨[.string ⟨⟨x.1⟩⟩,.int .i64 x.2]⟩,[],[]⟩
abbrev XdX:=(List UInt8)→Int→Option ((List UInt8)×Int)
def r37 (g:XdX):Dec:=dV asS fun (y0:List UInt8)=>dV (asI .u16) fun (y1:Int)=>XdY (ofG (g y0 y1) rx37)
theorem r37_c {g:XdX} {y0:List UInt8} {y1:Int} {x:(List UInt8)×Int} (hx:g y0 y1=some x):r37 g [.string ⟨⟨y0⟩⟩,.int .u16 y1] []=some (rx37 x):=(Xbb (Xeb)).trans ((Xbb (Xdo _)).trans (Xbc hx))
def s37 (g:XdX):Xb3:=⟨[.v,.v],r37 g⟩
theorem XF4 {g:XdX} {y0:List UInt8} {y1:Int} {x:(List UInt8)×Int} (hx:g y0 y1=some x):(s37 g).run [.string ⟨⟨y0⟩⟩,.int .u16 y1] []=some (rx37 x):=r37_c hx
abbrev XP1 (XaE:XbL) (Xat:Xbe) (Xa4:Xck) (Xes:Xeh) (Xbj:Xcv) (Xb2:XcZ):List (Nat×Xb3):=[(71,s71 XaE),(30,s30 Xat),(67,s67 Xa4),(65,s65 Xes),(70,s70 Xbj),(91,s91 Xb2)]
theorem XIp (XaE:XbL) (Xat:Xbe) (Xa4:Xck) (Xes:Xeh) (Xbj:Xcv) (Xb2:XcZ) (hS:Xar Tryz.prog (XaI (XP1 XaE Xat Xa4 Xes Xbj Xb2))) (s:List UInt8) (cookie:Int) (res:(List UInt8)×Int) (h:Xnw XaE Xat Xa4 Xes Xbj Xb2 s cookie=some res) :
 XaO Tryz.prog 37 0 ⟨⟨37,11,[(0,.string ⟨⟨s⟩⟩),(1,.int .u16 cookie)],[.code XQc],[],false,none⟩,[],[],0⟩ (fun v H _=>Res 0 (rx37 res) v H):=by
 unfold Xnw at h
 have R1:=@Xqc Xat
 have R2:=@Xzf Xa4
 have R3:=@Xyy Xb2
 have R4:=@XNB Xes
 have R5:=@XpM XaE
 have R6:=@Xz8 Xbj
 refine XbD XaQ hS true 3000 ?_
 conv=>whnf
 exact W
def Xc6:XdX:=Xnw XaE Xat Xa4 Xes Xbj Xb2
theorem XGE:Xb8 Tryz.prog 37 (s37 Xc6):=by
 have hL:=XIp XaE Xat Xa4 Xes Xbj Xb2 (Xar.Xa6 ⟨XqC,XqT,Xz3,XRy,Xy8,XyP,trivial⟩)
 exact okA ⟨Tryz.f37,rfl,by decide,rfl⟩
def XmI (XaE:XbL) (Xat:Xbe) (Xa4:Xck) (Xei:XeJ) (Xbj:Xcv) (Xb2:XcZ) (s:List UInt8) (now:Int):Option ((List UInt8)×Int):=
 (Xat s).bind fun p=>
 cond (p.2 !=0)
  (
  some (([],p.2)))
  (
  cond (!p.1.Stamped)
   (
   some (([],6)))
   (
   (Xa4 s).bind fun w=>
   XbU (decide ((0:Int)≤w.2.1∧w.2.1≤(s.length:Int)∧(0:Int)≤(wI .i64 (w.1+20))∧(wI .i64 (w.1+20))≤(w.2.1.toNat:Int))) <|
   let t:=(s.drop (wI .i64 (w.1+20)).toNat).take (w.2.1.toNat - (wI .i64 (w.1+20)).toNat)
   (Xb2 t).bind fun s1=>
   XbU (decide ((0:Int)≤w.1∧w.1≤(s.length:Int))) <|
   let t1:=(s.drop w.1.toNat).take (s.length - w.1.toNat)
   (Xei p.1 now).bind fun x1=>
   (XaE (wI .u64 x1.1) 4).bind fun p1=>
   (Xbj t1 (wI .i64 ((wI .i64 (20+s1.2.2))+4)) p1 16).bind fun p2=>
   cond (!p2.2)
    (
    some (([],3)))
    (
    XbU (decide ((0:Int)≤w.1∧w.1≤(s.length:Int))) <|
    XbU (decide ((s.take w.1.toNat).length+p2.1.length<2^63)) <|
    some (((s.take w.1.toNat)++p2.1,0)))))
def rx32 (x:(List UInt8)×Int):Xc4:=⟨.tuple ⟨[.string ⟨⟨x.1⟩⟩,.int .i64 x.2]⟩,[],[]⟩
abbrev Xf8:=(List UInt8)→Int→Option ((List UInt8)×Int)
def r32 (g:Xf8):Dec:=dV asS fun (y0:List UInt8)=>dV (asI .u32) fun (y1:Int)=>XdY (ofG (g y0 y1) rx32)
theorem r32_c {g:Xf8} {y0:List UInt8} {y1:Int} {x:(List UInt8)×Int} (hx:g y0 y1=some x):r32 g [.string ⟨⟨y0⟩⟩,.int .u32 y1] []=some (rx32 x):=(Xbb (Xeb)).trans ((Xbb (Xdo _)).trans (Xbc hx))
def s32 (g:Xf8):Xb3:=⟨[.v,.v],r32 g⟩
theorem XO3 {g:Xf8} {y0:List UInt8} {y1:Int} {x:(List UInt8)×Int} (hx:g y0 y1=some x):(s32 g).run [.string ⟨⟨y0⟩⟩,.int .u32 y1] []=some (rx32 x):=r32_c hx
abbrev XRI (XaE:XbL) (Xat:Xbe) (Xa4:Xck) (Xei:XeJ) (Xbj:Xcv) (Xb2:XcZ):List (Nat×Xb3):=[(71,s71 XaE),(30,s30 Xat),(67,s67 Xa4),(57,s57 Xei),(70,s70 Xbj),(91,s91 Xb2)]
theorem XKc (XaE:XbL) (Xat:Xbe) (Xa4:Xck) (Xei:XeJ) (Xbj:Xcv) (Xb2:XcZ) (hS:Xar Tryz.prog (XaI (XRI XaE Xat Xa4 Xei Xbj Xb2))) (s:List UInt8) (now:Int) (res:(List UInt8)×Int) (h:XmI XaE Xat Xa4 Xei Xbj Xb2 s now=some res) :
 XaO Tryz.prog 32 0 ⟨⟨32,11,[(0,.string ⟨⟨s⟩⟩),(1,.int .u32 now)],[.code XPN],[],false,none⟩,[],[],0⟩ (fun v H _=>Res 0 (rx32 res) v H):=by
 unfold XmI at h
 have R1:=@Xqc Xat
 have R2:=@Xzf Xa4
 have R3:=@Xyy Xb2
 have R4:=@XQd Xei
 have R5:=@XpM XaE
 have R6:=@Xz8 Xbj
 refine XbD XaQ hS true 3000 ?_
 conv=>whnf
 exact W
def Xf0:Xf8:=XmI XaE Xat Xa4 Xei Xbj Xb2
theorem XR2:Xb8 Tryz.prog 32 (s32 Xf0):=by
 have hL:=XKc XaE Xat Xa4 Xei Xbj Xb2 (Xar.Xa6 ⟨XqC,XqT,Xz3,XSy,Xy8,XyP,trivial⟩)
 exact okA ⟨Tryz.f32,rfl,by decide,rfl⟩
end Go.Vm.Code
namespace Go.Vm.Code
open Go Go.Vm
theorem XsH {B w:List UInt8} {i j:Nat} (hw:w≠[]) (h1:i+w.length≤B.length) (hj:j+2≤B.length) (hj2:j%2=0) (ho:j+2≤i∨i+w.length≤j):∃ b',Xmd B i w j=(b',true)∧b'.length=B.length∧Xdp b'%65535=Xdp B%65535 ∧
 (∀ k,(k<i∨i+w.length≤k)→k≠j→k≠j+1→b'[k]?=B[k]?)∧(∀ k,i≤k→k<i+w.length→b'[k]?=w[k - i]?):=by
 obtain ⟨d,d1,d2,d3⟩:=Xqe (b:=B) (w:=w) (i:=i) (j:=j) hw h1 hj hj2 ho
 have hl:=XqY h1
 have hl2:=XvH (s:=XpX B i w) (p:=j) (k:=2) (n:=d) (by omega)
 refine ⟨sset (XpX B i w) j 2 d,?_,by omega,d3,fun k h h' h3=>?_,fun k h h'=>?_⟩
 ·unfold Xmd
  rw [if_neg (by omega),if_neg hw,if_neg (by omega),d1,Int.toNat_natCast]
 ·rw [Xvz (by omega),XmZ h1]
  have e:(if k<i then B[k]? else if k<i+w.length then w[k - i]? else B[k]?)=B[k]?:=by
   by_cases c:k<i
   ·rw [if_pos c]
   ·rw [if_neg c,if_neg (by omega)]
  rw [e]
  by_cases c1:k<j
  ·rw [if_pos c1]
  ·rw [if_neg c1,if_neg (by omega)]
 ·rw [Xvz (by omega),XmZ h1,if_neg (show ¬ k<i by omega),if_pos h']
  by_cases c1:k<j
  ·rw [if_pos c1]
  ·rw [if_neg c1,if_neg (by omega)]
def Xnt (s:List UInt8):Nat:=(Xhg (Xkp (Xay s).body (Xay s).src (Xay s).dst).1.Options).2.2.toNat
def XpZ (s:List UInt8) (off:Nat) (v:Int):List UInt8:=s.take (Xay s).size++(Xmd (Xay s).body (20+Xnt s+off) (be v.toNat 4) 16).1
theorem XwQ {s:List UInt8} {off:Nat} {v:Int} (hoff:off=0∨off=4) (h:(Xbz s).2.2.2=0) (hs:(Xbz s).1.Stamped=true) (hv:0≤v∧v<4294967296) :
 (Xmd (Xay s).body (20+Xnt s+off) (be v.toNat 4) 16).2=true∧(XpZ s off v).length=s.length ∧
 Xbz (XpZ s off v)=({(Xbz s).1 with Val:=if off=0 then v else (Xbz s).1.Val,Echo:=if off=0 then (Xbz s).1.Echo else v},(Xbz s).2.1,(Xbz s).2.2.1,0) ∧
 (∀ k,(k<(Xay s).size+16∨(Xay s).size+18≤k)→(k<(Xay s).size+20+Xnt s+off∨(Xay s).size+20+Xnt s+off+4≤k)→(XpZ s off v)[k]?=s[k]?):=by
 obtain ⟨k1,k2,k3,k4,k5,k6,k7⟩:=Xjw h hs
 have hq:(Xhg (Xkp (Xay s).body (Xay s).src (Xay s).dst).1.Options).2.2=(Xnt s:Int):=by unfold Xnt;omega
 obtain ⟨_,_,_,hB⟩:=Xnx (b':=(Xay s).body) (p:=Xnt s) h hs hq (.inl rfl) rfl (fun _ _ _ _=>rfl) rfl
 have hbl:=Xi2 k1
 obtain ⟨_,sw2⟩:=XlW (b:=(Xay s).body) k1 rfl
 obtain ⟨b',e1,e2,e3,e4,e5⟩:=XsH (B:=(Xay s).body) (w:=be v.toNat 4) (i:=20+Xnt s+off) (j:=16) (by intro e;have:=congrArg List.length e;rw [Xea] at this;exact absurd this (by decide)) (by rw [Xea];omega) (by omega) (by decide) (.inl (by omega))
 rw [Xea] at e4 e5
 have hw:vK b' (20+Xnt s+off) 4=v:=by
  have:(b'.drop (20+Xnt s+off)).take 4=be v.toNat 4:=by
   apply List.ext_getElem?
   intro x
   rw [List.getElem?_take]
   split
   ·rw [List.getElem?_drop,e5 _ (by omega) (by omega)];congr 1;omega
   ·rw [List.getElem?_eq_none (by rw [Xea];omega)]
  rw [Xjv (n:=v.toNat) this rfl (by omega)];omega
 have hsame:∀ x,(x+4≤20+Xnt s+off∨20+Xnt s+off+4≤x)→18≤x→vK b' x 4=vK (Xay s).body x 4:=fun x hx h18=>by
  unfold vK
  rw [Xl3 (fun k a1 a2=>e4 k (by omega) (by omega) (by omega))]
 obtain ⟨t1,t2,t3,_⟩:=Xnx (b':=b') (p:=Xnt s+off) (q:=Xnt s) h hs hq (by omega) e2 (fun k a1 a2 a3=>e4 k (by omega) a1 a2) e3
 unfold XpZ
 rw [e1]
 simp only
 refine ⟨trivial,by rw [List.length_append,List.length_take];omega,?_,fun k a1 a2=>?_⟩
 ·rw [t1]
  rcases hoff with rfl|rfl
  ·simp only [if_true]
   rw [t3,←hsame (20+(Xnt s+4)) (by omega) (by omega),show 20+Xnt s=20+Xnt s+0 from rfl,hw]
  ·simp only [show ¬ ((4:Nat)=0) by decide,if_false]
   rw [t2,←hsame (20+Xnt s) (by omega) (by omega),show 20+(Xnt s+4)=20+Xnt s+4 by omega,hw]
 ·rw [List.getElem?_append,List.length_take]
  by_cases c:k<(Xay s).size
  ·rw [if_pos (by omega),List.getElem?_take_of_lt c]
  ·rw [if_neg (by omega),show min (Xay s).size s.length=(Xay s).size by omega,e4 _ (by omega) (by omega) (by omega),sw2,List.getElem?_drop]
   congr 1;omega
theorem XE6 {s:List UInt8} {off:Nat} {v x:Int} (hl:s.length<900) (hoff:off=0∨off=4) (h:(Xbz s).2.2.2=0) (hs:(Xbz s).1.Stamped=true) (hv:0≤v∧v<4294967296) :
 ((Xa4 s).bind fun w=>
 XbU (decide ((0:Int)≤w.2.1∧w.2.1≤(s.length:Int)∧(0:Int)≤(wI .i64 (w.1+20))∧(wI .i64 (w.1+20))≤(w.2.1.toNat:Int))) <|
 (Xb2 ((s.drop (wI .i64 (w.1+20)).toNat).take (w.2.1.toNat - (wI .i64 (w.1+20)).toNat))).bind fun s1=>
 XbU (decide ((0:Int)≤w.1∧w.1≤(s.length:Int))) <|
 (some (v,x)).bind fun (x1:Int×Int)=>
 (XaE (wI .u64 x1.1) 4).bind fun p1=>
 (Xbj ((s.drop w.1.toNat).take (s.length - w.1.toNat)) (wI .i64 ((wI .i64 (20+s1.2.2))+(off:Int))) p1 16).bind fun p2=>
 cond (!p2.2)
  (
  some (([],3)))
  (
  XbU (decide ((0:Int)≤w.1∧w.1≤(s.length:Int))) <|
  XbU (decide ((s.take w.1.toNat).length+p2.1.length<2^63)) <|
  some (((s.take w.1.toNat)++p2.1,(0:Int)))))=some (XpZ s off v,0):=by
 obtain ⟨k1,k2,k3,k4,k5,k6,k7⟩:=Xjw h hs
 obtain ⟨p1,p2,_,_⟩:=XwQ (off:=off) (v:=v) hoff h hs hv
 have hbl:=Xi2 k1
 obtain ⟨_,sw2⟩:=XlW (b:=(Xay s).body) k1 rfl
 obtain ⟨l20,v5,ln,o7,g7⟩:=Xt9 k5
 have hq:(Xhg (Xkp (Xay s).body (Xay s).src (Xay s).dst).1.Options).2.2=(Xnt s:Int):=by unfold Xnt;omega
 obtain ⟨_,_,_,hB⟩:=Xnx (b':=(Xay s).body) (p:=Xnt s) h hs hq (.inl rfl) rfl (fun _ _ _ _=>rfl) rfl
 rw [g7] at hq
 simp only [hd7] at hq
 have hin:(XiW (Xay s) s.length).2.1=((Xay s).body.drop (20+n7 (Xay s).body)).length:=by
  unfold XiW
  rw [if_pos k2,g7]
  simp
 have ha:(Xbz s).2.1=(Xay s).size:=by rw [k7];simp only;omega
 have hb:(Xbz s).2.2.1=(Xay s).size+(20+n7 (Xay s).body):=by rw [k7];simp only;rw [hin,List.length_drop];omega
 have hw:((Xmd (Xay s).body (20+Xnt s+off) (be v.toNat 4) 16).1).length=(Xay s).body.length:=by
  unfold XpZ at p2
  rw [List.length_append,List.length_take] at p2;omega
 rw [XCO (by omega),ha,hb,h,Option.bind_some]
 simp only []
 unfold XpZ
 generalize hz:(Xay s).size=z at *
 have e1:wI .i64 ((z:Int)+20)=((z+20:Nat):Int):=by rw [Xe0 (by omega) (by omega)];omega
 simp only [e1,Int.toNat_natCast]
 have e2:(s.drop (z+20)).take (z+(20+n7 (Xay s).body) - (z+20))=((Xay s).body.drop 20).take (n7 (Xay s).body):=by
  rw [sw2,List.drop_drop];congr 1;omega
 have e3:(s.drop z).take (s.length - z)=(Xay s).body:=by rw [sw2];exact List.take_of_length_le (by rw [List.length_drop];omega)
 rw [e2,e3,Xa9 (by omega),Xxu (by rw [List.length_take,List.length_drop];omega),Option.bind_some,hq,Xa9 (by omega),Option.bind_some]
 have hput:XaE (wI .u64 v) 4=some (be v.toNat 4):=by
  rw [Xkr (by omega) (by omega),Xfy (by omega)]
  rw [show XeA v 4=be v.toNat 4 from Xf7 (k:=4) (by omega)]
 have e4:wI .i64 (wI .i64 (20+(Xnt s:Int))+(off:Int))=((20+Xnt s+off:Nat):Int):=by
  rw [Xe0 (n:=20+(Xnt s:Int)) (by omega) (by omega),Xe0 (by omega) (by omega)];omega
 simp only []
 rw [hput,Option.bind_some,e4,show (16:Int)=((16:Nat):Int) from rfl,XD4 (by omega) (by rw [Xea];omega) (by omega) (by omega) (by decide),Option.bind_some,p1,Bool.not_true,cond_false,Xa9 (by omega),Xa9 (by rw [List.length_take,hw];omega)]
def XM6 (s:List UInt8) (now:Int):List UInt8×Int:=if (Xbz s).2.2.2≠0 then ([],(Xbz s).2.2.2) else if (Xbz s).1.Stamped=false then ([],6) else (XpZ s 4 (Xqa now (Xbz s).1.Echo),0)
theorem XNq {s:List UInt8} {now:Int} (hl:s.length<900):Xf0 s now=some (XM6 s now):=by
 unfold Xf0 XmI XM6
 rw [XvF (by omega),Option.bind_some]
 by_cases h:(Xbz s).2.2.2=0
 ·rw [if_neg (by simpa using h),show ((Xbz s).2.2.2 !=0)=false by simpa using h,cond_false]
  cases hs:(Xbz s).1.Stamped
  ·rfl
  ·rw [if_neg (by decide)]
   simp only [Bool.not_true,cond_false,XAD]
   exact XE6 (off:=4) hl (.inr rfl) h hs (by unfold Xqa;omega)
 ·rw [if_pos h,show ((Xbz s).2.2.2 !=0)=true by simpa using h];rfl
end Go.Vm.Code
namespace Go.Vm.Code
open Go Go.Vm Go.Proofs
set_option maxRecDepth 100000
set_option maxHeartbeats 4000000
set_option linter.unusedVariables false
def Xmc (Xcg:XdU) (Xax:Xby) (XaE:XbL) (Xat:Xbe) (Xa4:Xck) (XdB:Xet) (Xbj:Xcv) (s:List UInt8) (ida1:Int):Option ((List UInt8)×Int):=
 (Xat s).bind fun p=>
 cond (p.2 !=0)
  (
  some (([],p.2)))
  (
  (Xa4 s).bind fun w=>
  XbU (decide ((0:Int)≤w.2.1∧w.2.1≤(s.length:Int))) <|
  let t:=(s.drop w.2.1.toNat).take (s.length - w.2.1.toNat)
  (XdB t).bind fun xg=>
  cond (p.1.Tuple.Proto !=17)
   (
   some (([],6)))
   (
   cond (xg.2 !=0)
    (
    some (([],6)))
    (
    cond (!xg.1.Long)
     (
     some (([],6)))
     (
     cond ((xg.1.SCID.length:Int) !=8)
      (
      some (([],3)))
      (
      (Xax s (wI .i64 (w.1+6)) 2).bind fun xg1=>
      XbU (decide ((0:Int)≤w.1∧w.1≤(s.length:Int))) <|
      let t1:=(s.drop w.1.toNat).take (s.length - w.1.toNat)
      (XaE ida1 8).bind fun p1=>
      (Xbj t1 (wI .i64 (15+(xg.1.DCID.length:Int))) p1 6).bind fun p2=>
      cond (!p2.2)
       (
       some (([],3)))
       (
       (Xax p2.1 6 2).bind fun xg2=>
       cond (xg1.1==0)
        (
        XbU (decide ((0:Int)≤w.1∧w.1≤(s.length:Int))) <|
        (Xcg p2.1 6 2 0).bind fun s1=>
        XbU (decide ((s.take w.1.toNat).length+s1.length<2^63)) <|
        some (((s.take w.1.toNat)++s1,0)))
        (
        cond (xg2.1==0)
         (
         XbU (decide ((0:Int)≤w.1∧w.1≤(s.length:Int))) <|
         (Xcg p2.1 6 2 65535).bind fun s2=>
         XbU (decide ((s.take w.1.toNat).length+s2.length<2^63)) <|
         some (((s.take w.1.toNat)++s2,0)))
         (
         XbU (decide ((0:Int)≤w.1∧w.1≤(s.length:Int))) <|
         (Xcg p2.1 6 2 xg2.1).bind fun s3=>
         XbU (decide ((s.take w.1.toNat).length+s3.length<2^63)) <|
         some (((s.take w.1.toNat)++s3,0))))))))))
def rx38 (x:(List UInt8)×Int):Xc4:=⟨.tuple ⟨[.string ⟨⟨x.1⟩⟩,.int .i64 x.2]⟩,[],[]⟩
abbrev XdF:=(List UInt8)→Int→Option ((List UInt8)×Int)
def r38 (g:XdF):Dec:=dV asS fun (y0:List UInt8)=>dV (asI .u64) fun (y1:Int)=>XdY (ofG (g y0 y1) rx38)
theorem r38_c {g:XdF} {y0:List UInt8} {y1:Int} {x:(List UInt8)×Int} (hx:g y0 y1=some x):r38 g [.string ⟨⟨y0⟩⟩,.int .u64 y1] []=some (rx38 x):=(Xbb (Xeb)).trans ((Xbb (Xdo _)).trans (Xbc hx))
def s38 (g:XdF):Xb3:=⟨[.v,.v],r38 g⟩
theorem XGY {g:XdF} {y0:List UInt8} {y1:Int} {x:(List UInt8)×Int} (hx:g y0 y1=some x):(s38 g).run [.string ⟨⟨y0⟩⟩,.int .u64 y1] []=some (rx38 x):=r38_c hx
abbrev XO0 (Xcg:XdU) (Xax:Xby) (XaE:XbL) (Xat:Xbe) (Xa4:Xck) (XdB:Xet) (Xbj:Xcv):List (Nat×Xb3):=[(72,s72 Xcg),(69,s69 Xax),(71,s71 XaE),(30,s30 Xat),(67,s67 Xa4),(68,s68 XdB),(70,s70 Xbj)]
theorem XIh (Xcg:XdU) (Xax:Xby) (XaE:XbL) (Xat:Xbe) (Xa4:Xck) (XdB:Xet) (Xbj:Xcv) (hS:Xar Tryz.prog (XaI (XO0 Xcg Xax XaE Xat Xa4 XdB Xbj))) (s:List UInt8) (ida1:Int) (res:(List UInt8)×Int) (h:Xmc Xcg Xax XaE Xat Xa4 XdB Xbj s ida1=some res) :
 XaO Tryz.prog 38 0 ⟨⟨38,98,[(0,.string ⟨⟨s⟩⟩),(1,.int .u64 ida1)],[.code XHw],[],false,none⟩,[],[],0⟩ (fun v H _=>Res 0 (rx38 res) v H):=by
 unfold Xmc at h
 have R1:=@Xqc Xat
 have R2:=@Xzf Xa4
 have R3:=@XGK XdB
 have R4:=@Xo3 Xax
 have R5:=@XpM XaE
 have R6:=@Xz8 Xbj
 have R7:=@XGr Xcg
 refine XbD XaQ hS true 3000 ?_
 conv=>whnf
 exact W
def XcE:XdF:=Xmc Xcg Xax XaE Xat Xa4 XdB Xbj
theorem XHn:Xb8 Tryz.prog 38 (s38 XcE):=by
 have hL:=XIh Xcg Xax XaE Xat Xa4 XdB Xbj (Xar.Xa6 ⟨XHC,XqQ,XqC,XqT,Xz3,XF2,Xy8,trivial⟩)
 exact okA ⟨Tryz.f38,rfl,by decide,rfl⟩
end Go.Vm.Code
namespace Go.Vm.Code
open Go Go.Vm
end Go.Vm.Code
namespace Go.Vm.Code
open Go Go.Vm Go.Proofs
set_option maxRecDepth 100000
set_option maxHeartbeats 4000000
set_option linter.unusedVariables false
def Xhw:Option Bool:=
 some (false)
def XuZ (x:Bool):Xc4:=⟨.bool x,[],[none,none]⟩
abbrev Xao:=Option Bool
def XxS (g:Xao):Dec:=dNl 2<|XdY (ofG (g) XuZ)
theorem XLF {g:Xao} {x:Bool} (hx:g=some x):XxS g [.pointer none] [none,none]=some (XuZ x):=(Xzm).trans (Xbc hx)
abbrev XBQ:List (Nat×Xb3):=[]
theorem XAP (hS:Xar Tryz.prog (XaI (XBQ))) (res:Bool) (h:Xhw=some res) :
 XaO Tryz.prog 28 2 ⟨⟨28,12,[(0,.pointer none)],[.code XDO],[],false,none⟩,[],[],2⟩ (fun v H _=>Res 2 (XuZ res) v H):=by
 unfold Xhw at h
 refine XbD XaQ hS true 3000 ?_
 conv=>whnf
 exact W
def Xhz (ha0:XbC):Option Bool:=
 some (false)
def XvN (x:Bool):Xc4:=⟨.bool x,[],[none,none]⟩
abbrev Xap:=XbC→Option Bool
def XtW (g:Xap):Dec:=dTr 2 (Xfv 0) fun (y0:XbC)=>XdY (ofG (g y0) XvN)
theorem XMQ {g:Xap} {y0:XbC} {x:Bool} (hx:g y0=some x):XtW g [.pointer (some ⟨0,0,none⟩)] [some [.int .i64 y0.id_,.int .u32 y0.clock,.map none],none]=some (XvN x):=(Xkm rfl rfl (Xic 0 _)).trans (Xbc hx)
abbrev XBu:List (Nat×Xb3):=[]
theorem XyO (hS:Xar Tryz.prog (XaI (XBu))) (ha0:XbC) (res:Bool) (h:Xhz ha0=some res) :
 XaO Tryz.prog 28 2 ⟨⟨28,12,[(0,.pointer (some ⟨0,0,none⟩))],[.code XDO],[],false,none⟩,[],[(0,.row false [.int .i64 ha0.id_,.int .u32 ha0.clock,.map none])],2⟩ (fun v H _=>Res 2 (XvN res) v H):=by
 unfold Xhz at h
 refine XbD XaQ hS true 3000 ?_
 conv=>whnf
 exact W
def Xhv (ha0:Xah):Option (Bool×Xah):=
 some ((true,ha0))
def XuL (x:Bool×Xah):Xc4:=⟨.bool x.1,[],[none,some (.float .f64 0::vT XaC x.2.cookies)]⟩
abbrev Xaq:=Xah→Option (Bool×Xah)
def Xtw (g:Xaq):Dec:=dTr 2 (XdI 0) fun (y0:Xah)=>XdY (ofG (g y0) XuL)
theorem XJI {g:Xaq} {y0:Xah} {x:Bool×Xah} (hx:g y0=some x):Xtw g [.pointer (some ⟨0,0,none⟩)] [some [.int .i64 y0.id_,.int .u32 y0.clock,.map (some 1)],some (vT XaC y0.cookies)]=some (XuL x):=(Xkm rfl rfl (Xe2 0 _)).trans (Xbc hx)
abbrev XFk:List (Nat×Xb3):=[]
theorem XzY (hS:Xar Tryz.prog (XaI (XFk))) (ha0:Xah) (res:Bool×Xah) (h:Xhv ha0=some res) :
 XaO Tryz.prog 28 2 ⟨⟨28,12,[(0,.pointer (some ⟨0,0,none⟩))],[.code XDO],[],false,none⟩,[],[(0,.row false [.int .i64 ha0.id_,.int .u32 ha0.clock,.map (some 1)]),(1,.mp (vT XaC ha0.cookies))],2⟩ (fun v H _=>Res 2 (XuL res) v H):=by
 unfold Xhv at h
 refine XbD XaQ hS true 3000 ?_
 conv=>whnf
 exact W
def s28 (g0:Xao) (g1:Xap) (g2:Xaq):Xb3:=⟨[.tr [⟨none,0,0,0,none⟩,⟨some 0,2,0,3,none⟩]],orD (XxS g0) (orD (XtW g1) (Xtw g2))⟩
theorem Xou {g0:Xao} {g1:Xap} {g2:Xaq} {x:Bool} (hx:g0=some x):(s28 g0 g1 g2).run [.pointer none] [none,none]=some (XuZ x):=XrN (a:=XxS g0) (b:=orD (XtW g1) (Xtw g2)) (XLF hx)
theorem Xu1 {g0:Xao} {g1:Xap} {g2:Xaq} {y0:XbC} {x:Bool} (hx:g1 y0=some x):(s28 g0 g1 g2).run [.pointer (some ⟨0,0,none⟩)] [some [.int .i64 y0.id_,.int .u32 y0.clock,.map none],none]=some (XvN x):=Xp1 (a:=XxS g0) (b:=orD (XtW g1) (Xtw g2)) rfl (XrN (a:=XtW g1) (b:=Xtw g2) (XMQ hx))
theorem XmB {g0:Xao} {g1:Xap} {g2:Xaq} {y0:Xah} {x:Bool×Xah} (hx:g2 y0=some x):(s28 g0 g1 g2).run [.pointer (some ⟨0,0,none⟩)] [some [.int .i64 y0.id_,.int .u32 y0.clock,.map (some 1)],some (vT XaC y0.cookies)]=some (XuL x):=Xp1 (a:=XxS g0) (b:=orD (XtW g1) (Xtw g2)) rfl (Xp1 (a:=XtW g1) (b:=Xtw g2) rfl (XJI hx))
def Xac:Xao:=Xhw
def Xad:Xap:=Xhz
def Xab:Xaq:=Xhv
theorem XkN:Xb8 Tryz.prog 28 (s28 Xac Xad Xab):=by
 have L0:=XAP (Xar.Xa6 trivial)
 have L1:=XyO (Xar.Xa6 trivial)
 have L2:=XzY (Xar.Xa6 trivial)
 exact okA ⟨Tryz.f28,rfl,by decide,rfl⟩
def Xgl (ha0:Xah) (t:Xai) (c:XaN):Option (Int×Xah):=
 cond (Xb0 t ha0.cookies)
  (
  cond (!c.First)
   (
   some ((0,ha0)))
   (
   let m:=XaM t c.Cookie ha0.cookies
   some ((0,Xah.mk ha0.id_ ha0.clock m))))
  (
  cond ((ha0.cookies.length:Int)==64)
   (
   some ((9,ha0)))
   (
   let m1:=XaM t c.Cookie ha0.cookies
   some ((0,Xah.mk ha0.id_ ha0.clock m1))))
def XuE (x:Int×Xah):Xc4:=⟨.int .i64 x.1,[],[none,some (.float .f64 0::vT XaC x.2.cookies)]⟩
abbrev XcL:=Xah→Xai→XaN→Option (Int×Xah)
def XQx (g:XcL):Dec:=dTr 2 (XdI 0) fun (y0:Xah)=>dV XdQ fun (y1:Xai)=>dV XiX fun (y2:XaN)=>XdY (ofG (g y0 y1 y2) XuE)
theorem XK8 {g:XcL} {y0:Xah} {y1:Xai} {y2:XaN} {x:Int×Xah} (hx:g y0 y1 y2=some x):XQx g [.pointer (some ⟨0,0,none⟩),.agg ⟨[.int .i64 y1.Proto,.bool y1.Src.V6,.int .u64 y1.Src.Hi,.int .u64 y1.Src.Lo,.bool y1.Dst.V6,.int .u64 y1.Dst.Hi,.int .u64 y1.Dst.Lo,.int .i64 y1.SPort,.int .i64 y1.DPort]⟩,.agg ⟨[.bool y2.V6,.int .i64 y2.Backend,.int .u64 y2.Cookie,.bool y2.First,.int .i64 y2.Instance]⟩] [some [.int .i64 y0.id_,.int .u32 y0.clock,.map (some 1)],some (vT XaC y0.cookies)]=some (XuE x):=(Xkm rfl rfl (Xe2 0 _)).trans ((Xbb (XdT _)).trans ((Xbb (XmN _)).trans (Xbc hx)))
abbrev XCE:List (Nat×Xb3):=[]
theorem XyT (hS:Xar Tryz.prog (XaI (XCE))) (ha0:Xah) (t:Xai) (c:XaN) (res:Int×Xah) (h:Xgl ha0 t c=some res) :
 XaO Tryz.prog 31 2 ⟨⟨31,43,[(0,.pointer (some ⟨0,0,none⟩)),(1,.agg ⟨[.int .i64 t.Proto,.bool t.Src.V6,.int .u64 t.Src.Hi,.int .u64 t.Src.Lo,.bool t.Dst.V6,.int .u64 t.Dst.Hi,.int .u64 t.Dst.Lo,.int .i64 t.SPort,.int .i64 t.DPort]⟩),(2,.agg ⟨[.bool c.V6,.int .i64 c.Backend,.int .u64 c.Cookie,.bool c.First,.int .i64 c.Instance]⟩)],[.code XGW],[],false,none⟩,[],[(0,.row false [.int .i64 ha0.id_,.int .u32 ha0.clock,.map (some 1)]),(1,.mp (vT XaC ha0.cookies))],2⟩ (fun v H _=>Res 2 (XuE res) v H):=by
 unfold Xgl at h
 refine XbD XaQ hS true 3000 ?_
 conv=>whnf
 refine ⟨.int .u64 (XbZ 0 t ha0.cookies),Xb0 t ha0.cookies,Xd8.get _ t ha0.cookies,?_⟩
 conv=>whnf
 refine br.h h (by rfl) ?_ ?_
 ·clear h;intro hb h;conv=>whnf
  refine br.h h (by rfl) ?_ ?_
  ·clear h;intro hb h;conv=>whnf
   exact W
  clear h;intro hb h;conv=>whnf
  refine br.neg ?_ ?_;(focus (clear h;first|assumption|(simp_all;done)))
  conv=>whnf
  let m:List Xan:=XaM t c.Cookie ha0.cookies
  refine ⟨vT XaC m,Xd8.put _ _ ha0.cookies,?_⟩
  conv=>whnf
  exact W
 clear h;intro hb h;conv=>whnf
 refine br.pos ?_ ?_;(focus (clear h;first|assumption|(simp_all;done)))
 conv=>whnf
 refine ⟨ha0.cookies.length,Xd8.length _,?_⟩
 conv=>whnf
 refine br.h h (by rfl) ?_ ?_
 ·clear h;intro hb h;conv=>whnf
  exact W
 clear h;intro hb h;conv=>whnf
 let m1:List Xan:=XaM t c.Cookie ha0.cookies
 refine ⟨vT XaC m1,Xd8.put _ _ ha0.cookies,?_⟩
 conv=>whnf
 exact W
def s31 (g0:XcL):Xb3:=⟨[.tr [⟨none,0,0,0,none⟩,⟨some 0,2,0,3,none⟩],.v,.v],XQx g0⟩
theorem XC4 {g0:XcL} {y0:Xah} {y1:Xai} {y2:XaN} {x:Int×Xah} (hx:g0 y0 y1 y2=some x):(s31 g0).run [.pointer (some ⟨0,0,none⟩),.agg ⟨[.int .i64 y1.Proto,.bool y1.Src.V6,.int .u64 y1.Src.Hi,.int .u64 y1.Src.Lo,.bool y1.Dst.V6,.int .u64 y1.Dst.Hi,.int .u64 y1.Dst.Lo,.int .i64 y1.SPort,.int .i64 y1.DPort]⟩,.agg ⟨[.bool y2.V6,.int .i64 y2.Backend,.int .u64 y2.Cookie,.bool y2.First,.int .i64 y2.Instance]⟩] [some [.int .i64 y0.id_,.int .u32 y0.clock,.map (some 1)],some (vT XaC y0.cookies)]=some (XuE x):=XK8 hx
def Xch:XcL:=Xgl
theorem XTo:Xb8 Tryz.prog 31 (s31 Xch):=by
 have L0:=XyT (Xar.Xa6 trivial)
 exact okA ⟨Tryz.f31,rfl,by decide,rfl⟩
def XhP (Xer:Xfa) (Xac:Xao) (Xad:Xap) (Xab:Xaq) (s:List UInt8):Option ((List UInt8)×Int):=
 (Xac).bind fun n=>
 cond (!n)
  (
  some (([],1)))
  (
  (Xer s).bind fun xg=>
  cond (xg.2.2 !=0)
   (
   some (([],xg.2.2)))
   (
   none))
def Xvd (x:(List UInt8)×Int):Xc4:=⟨.tuple ⟨[.string ⟨⟨x.1⟩⟩,.int .i64 x.2]⟩,[],[none,none]⟩
abbrev XbK:=(List UInt8)→Option ((List UInt8)×Int)
def XBZ (g:XbK):Dec:=dNl 2<|dV asS fun (y1:List UInt8)=>XdY (ofG (g y1) Xvd)
theorem XIu {g:XbK} {y1:List UInt8} {x:(List UInt8)×Int} (hx:g y1=some x):XBZ g [.pointer none,.string ⟨⟨y1⟩⟩] [none,none]=some (Xvd x):=(Xzm).trans ((Xbb (Xeb)).trans (Xbc hx))
abbrev XDt (Xer:Xfa) (Xac:Xao) (Xad:Xap) (Xab:Xaq):List (Nat×Xb3):=[(29,s29 Xer),(28,s28 Xac Xad Xab)]
theorem XyW (Xer:Xfa) (Xac:Xao) (Xad:Xap) (Xab:Xaq) (hS:Xar Tryz.prog (XaI (XDt Xer Xac Xad Xab))) (s:List UInt8) (res:(List UInt8)×Int) (h:XhP Xer Xac Xad Xab s=some res) :
 XaO Tryz.prog 10 2 ⟨⟨10,57,[(0,.pointer none),(1,.string ⟨⟨s⟩⟩)],[.code Xx5],[],false,none⟩,[],[],2⟩ (fun v H _=>Res 2 (Xvd res) v H):=by
 unfold XhP at h
 have R1:=@Xou Xac Xad Xab
 have R2:=@XFB Xer
 refine XbD XaQ hS true 3000 ?_
 conv=>whnf
 exact W
def Xgr (Xer:Xfa) (Xat:Xbe) (Xac:Xao) (Xad:Xap) (Xab:Xaq) (Xch:XcL) (Xf0:Xf8) (ha0:Xah) (s:List UInt8):Option ((List UInt8)×Int×Xah):=
 (Xab ha0).bind fun x1=>
 cond (!x1.1)
  (
  some (([],1,Xah.mk ha0.id_ ha0.clock x1.2.cookies)))
  (
  (Xer s).bind fun xg=>
  cond (xg.2.2 !=0)
   (
   some (([],xg.2.2,Xah.mk ha0.id_ ha0.clock x1.2.cookies)))
   (
   cond (xg.1.Backend !=ha0.id_)
    (
    some (([],16,Xah.mk ha0.id_ ha0.clock x1.2.cookies)))
    (
    (Xat xg.2.1).bind fun p=>
    cond (p.2==0)
     (
     (Xch (Xah.mk ha0.id_ ha0.clock x1.2.cookies) p.1.Tuple xg.1).bind fun x11=>
     cond (x11.1 !=0)
      (
      some (([],x11.1,Xah.mk ha0.id_ ha0.clock x11.2.cookies)))
      (
      cond (p.1.Stamped)
       (
       (Xf0 xg.2.1 ha0.clock).bind fun i=>
       some ((i.1,i.2,Xah.mk ha0.id_ ha0.clock x11.2.cookies)))
       (
       some ((xg.2.1,0,Xah.mk ha0.id_ ha0.clock x11.2.cookies)))))
     (
     cond (p.2 !=0)
      (
      some (([],p.2,Xah.mk ha0.id_ ha0.clock x1.2.cookies)))
      (
      cond (p.1.Stamped)
       (
       (Xf0 xg.2.1 ha0.clock).bind fun i1=>
       some ((i1.1,i1.2,Xah.mk ha0.id_ ha0.clock x1.2.cookies)))
       (
       some ((xg.2.1,0,Xah.mk ha0.id_ ha0.clock x1.2.cookies))))))))
def Xuq (x:(List UInt8)×Int×Xah):Xc4:=⟨.tuple ⟨[.string ⟨⟨x.1⟩⟩,.int .i64 x.2.1]⟩,[],[none,some (.float .f64 0::vT XaC x.2.2.cookies)]⟩
abbrev Xbk:=Xah→(List UInt8)→Option ((List UInt8)×Int×Xah)
def XBl (g:Xbk):Dec:=dTr 2 (XdI 0) fun (y0:Xah)=>dV asS fun (y1:List UInt8)=>XdY (ofG (g y0 y1) Xuq)
theorem XKf {g:Xbk} {y0:Xah} {y1:List UInt8} {x:(List UInt8)×Int×Xah} (hx:g y0 y1=some x):XBl g [.pointer (some ⟨0,0,none⟩),.string ⟨⟨y1⟩⟩] [some [.int .i64 y0.id_,.int .u32 y0.clock,.map (some 1)],some (vT XaC y0.cookies)]=some (Xuq x):=(Xkm rfl rfl (Xe2 0 _)).trans ((Xbb (Xeb)).trans (Xbc hx))
abbrev XCr (Xer:Xfa) (Xat:Xbe) (Xac:Xao) (Xad:Xap) (Xab:Xaq) (Xch:XcL) (Xf0:Xf8):List (Nat×Xb3):=[(29,s29 Xer),(30,s30 Xat),(28,s28 Xac Xad Xab),(31,s31 Xch),(32,s32 Xf0)]
theorem Xx6 (Xer:Xfa) (Xat:Xbe) (Xac:Xao) (Xad:Xap) (Xab:Xaq) (Xch:XcL) (Xf0:Xf8) (hS:Xar Tryz.prog (XaI (XCr Xer Xat Xac Xad Xab Xch Xf0))) (ha0:Xah) (s:List UInt8) (res:(List UInt8)×Int×Xah) (h:Xgr Xer Xat Xac Xad Xab Xch Xf0 ha0 s=some res) :
 XaO Tryz.prog 10 2 ⟨⟨10,57,[(0,.pointer (some ⟨0,0,none⟩)),(1,.string ⟨⟨s⟩⟩)],[.code Xx5],[],false,none⟩,[],[(0,.row false [.int .i64 ha0.id_,.int .u32 ha0.clock,.map (some 1)]),(1,.mp (vT XaC ha0.cookies))],2⟩ (fun v H _=>Res 2 (Xuq res) v H):=by
 unfold Xgr at h
 have R1:=@XmB Xac Xad Xab
 have R2:=@XFB Xer
 have R3:=@Xqc Xat
 have R4:=@XC4 Xch
 have R5:=@XO3 Xf0
 refine XbD XaQ hS true 3000 ?_
 conv=>whnf
 exact W
def s10 (g0:XbK) (g1:Xbk):Xb3:=⟨[.tr [⟨none,0,0,0,none⟩,⟨some 0,2,0,3,none⟩],.v],orD (XBZ g0) (XBl g1)⟩
theorem XFe {g0:XbK} {g1:Xbk} {y1:List UInt8} {x:(List UInt8)×Int} (hx:g0 y1=some x):(s10 g0 g1).run [.pointer none,.string ⟨⟨y1⟩⟩] [none,none]=some (Xvd x):=XrN (a:=XBZ g0) (b:=XBl g1) (XIu hx)
theorem XmG {g0:XbK} {g1:Xbk} {y0:Xah} {y1:List UInt8} {x:(List UInt8)×Int×Xah} (hx:g1 y0 y1=some x):(s10 g0 g1).run [.pointer (some ⟨0,0,none⟩),.string ⟨⟨y1⟩⟩] [some [.int .i64 y0.id_,.int .u32 y0.clock,.map (some 1)],some (vT XaC y0.cookies)]=some (Xuq x):=Xp1 (a:=XBZ g0) (b:=XBl g1) rfl (XKf hx)
def XaV:XbK:=XhP Xer Xac Xad Xab
def Xas:Xbk:=Xgr Xer Xat Xac Xad Xab Xch Xf0
theorem XTn:Xb8 Tryz.prog 10 (s10 XaV Xas):=by
 have L0:=XyW Xer Xac Xad Xab (Xar.Xa6 ⟨XHq,XkN,trivial⟩)
 have L1:=Xx6 Xer Xat Xac Xad Xab Xch Xf0 (Xar.Xa6 ⟨XHq,XqT,XkN,XTo,XR2,trivial⟩)
 exact okA ⟨Tryz.f10,rfl,by decide,rfl⟩
def XgP (Xac:Xao) (Xad:Xap) (Xab:Xaq) (t:Xai):Option (Int×Bool):=
 (Xac).bind fun n=>
 cond (!n)
  (
  some ((0,false)))
  (
  none)
def Xvm (x:Int×Bool):Xc4:=⟨.tuple ⟨[.int .u64 x.1,.bool x.2]⟩,[],[none,none]⟩
abbrev XaA:=Xai→Option (Int×Bool)
def Xz4 (g:XaA):Dec:=dNl 2<|dV XdQ fun (y1:Xai)=>XdY (ofG (g y1) Xvm)
theorem XIP {g:XaA} {y1:Xai} {x:Int×Bool} (hx:g y1=some x):Xz4 g [.pointer none,.agg ⟨[.int .i64 y1.Proto,.bool y1.Src.V6,.int .u64 y1.Src.Hi,.int .u64 y1.Src.Lo,.bool y1.Dst.V6,.int .u64 y1.Dst.Hi,.int .u64 y1.Dst.Lo,.int .i64 y1.SPort,.int .i64 y1.DPort]⟩] [none,none]=some (Xvm x):=(Xzm).trans ((Xbb (XdT _)).trans (Xbc hx))
abbrev XEh (Xac:Xao) (Xad:Xap) (Xab:Xaq):List (Nat×Xb3):=[(28,s28 Xac Xad Xab)]
theorem Xx9 (Xac:Xao) (Xad:Xap) (Xab:Xaq) (hS:Xar Tryz.prog (XaI (XEh Xac Xad Xab))) (t:Xai) (res:Int×Bool) (h:XgP Xac Xad Xab t=some res) :
 XaO Tryz.prog 17 2 ⟨⟨17,22,[(0,.pointer none),(1,.agg ⟨[.int .i64 t.Proto,.bool t.Src.V6,.int .u64 t.Src.Hi,.int .u64 t.Src.Lo,.bool t.Dst.V6,.int .u64 t.Dst.Hi,.int .u64 t.Dst.Lo,.int .i64 t.SPort,.int .i64 t.DPort]⟩)],[.code XuR],[],false,none⟩,[],[],2⟩ (fun v H _=>Res 2 (Xvm res) v H):=by
 unfold XgP at h
 have R1:=@Xou Xac Xad Xab
 refine XbD XaQ hS true 3000 ?_
 conv=>whnf
 exact W
def XgQ (Xac:Xao) (Xad:Xap) (Xab:Xaq) (ha0:XbC) (t:Xai):Option (Int×Bool):=
 (Xad (XbC.mk ha0.id_ ha0.clock NilMap.mk)).bind fun x0=>
 cond (!x0)
  (
  some ((0,false)))
  (
  some ((0,false)))
def XvO (x:Int×Bool):Xc4:=⟨.tuple ⟨[.int .u64 x.1,.bool x.2]⟩,[],[none,none]⟩
abbrev XaB:=XbC→Xai→Option (Int×Bool)
def XtC (g:XaB):Dec:=dTr 2 (Xfv 0) fun (y0:XbC)=>dV XdQ fun (y1:Xai)=>XdY (ofG (g y0 y1) XvO)
theorem XJR {g:XaB} {y0:XbC} {y1:Xai} {x:Int×Bool} (hx:g y0 y1=some x):XtC g [.pointer (some ⟨0,0,none⟩),.agg ⟨[.int .i64 y1.Proto,.bool y1.Src.V6,.int .u64 y1.Src.Hi,.int .u64 y1.Src.Lo,.bool y1.Dst.V6,.int .u64 y1.Dst.Hi,.int .u64 y1.Dst.Lo,.int .i64 y1.SPort,.int .i64 y1.DPort]⟩] [some [.int .i64 y0.id_,.int .u32 y0.clock,.map none],none]=some (XvO x):=(Xkm rfl rfl (Xic 0 _)).trans ((Xbb (XdT _)).trans (Xbc hx))
abbrev XBy (Xac:Xao) (Xad:Xap) (Xab:Xaq):List (Nat×Xb3):=[(28,s28 Xac Xad Xab)]
theorem Xy3 (Xac:Xao) (Xad:Xap) (Xab:Xaq) (hS:Xar Tryz.prog (XaI (XBy Xac Xad Xab))) (ha0:XbC) (t:Xai) (res:Int×Bool) (h:XgQ Xac Xad Xab ha0 t=some res) :
 XaO Tryz.prog 17 2 ⟨⟨17,22,[(0,.pointer (some ⟨0,0,none⟩)),(1,.agg ⟨[.int .i64 t.Proto,.bool t.Src.V6,.int .u64 t.Src.Hi,.int .u64 t.Src.Lo,.bool t.Dst.V6,.int .u64 t.Dst.Hi,.int .u64 t.Dst.Lo,.int .i64 t.SPort,.int .i64 t.DPort]⟩)],[.code XuR],[],false,none⟩,[],[(0,.row false [.int .i64 ha0.id_,.int .u32 ha0.clock,.map none])],2⟩ (fun v H _=>Res 2 (XvO res) v H):=by
 unfold XgQ at h
 have R1:=@Xu1 Xac Xad Xab
 refine XbD XaQ hS true 3000 ?_
 conv=>whnf
 exact W
def XgT (Xac:Xao) (Xad:Xap) (Xab:Xaq) (ha0:Xah) (t:Xai):Option (Int×Bool×Xah):=
 (Xab ha0).bind fun x1=>
 cond (!x1.1)
  (
  some ((0,false,Xah.mk ha0.id_ ha0.clock x1.2.cookies)))
  (
  some ((XbZ 0 t x1.2.cookies,Xb0 t x1.2.cookies,Xah.mk ha0.id_ ha0.clock x1.2.cookies)))
def Xvs (x:Int×Bool×Xah):Xc4:=⟨.tuple ⟨[.int .u64 x.1,.bool x.2.1]⟩,[],[none,some (.float .f64 0::vT XaC x.2.2.cookies)]⟩
abbrev Xaw:=Xah→Xai→Option (Int×Bool×Xah)
def Xtl (g:Xaw):Dec:=dTr 2 (XdI 0) fun (y0:Xah)=>dV XdQ fun (y1:Xai)=>XdY (ofG (g y0 y1) Xvs)
theorem XIt {g:Xaw} {y0:Xah} {y1:Xai} {x:Int×Bool×Xah} (hx:g y0 y1=some x):Xtl g [.pointer (some ⟨0,0,none⟩),.agg ⟨[.int .i64 y1.Proto,.bool y1.Src.V6,.int .u64 y1.Src.Hi,.int .u64 y1.Src.Lo,.bool y1.Dst.V6,.int .u64 y1.Dst.Hi,.int .u64 y1.Dst.Lo,.int .i64 y1.SPort,.int .i64 y1.DPort]⟩] [some [.int .i64 y0.id_,.int .u32 y0.clock,.map (some 1)],some (vT XaC y0.cookies)]=some (Xvs x):=(Xkm rfl rfl (Xe2 0 _)).trans ((Xbb (XdT _)).trans (Xbc hx))
abbrev XDJ (Xac:Xao) (Xad:Xap) (Xab:Xaq):List (Nat×Xb3):=[(28,s28 Xac Xad Xab)]
theorem XyG (Xac:Xao) (Xad:Xap) (Xab:Xaq) (hS:Xar Tryz.prog (XaI (XDJ Xac Xad Xab))) (ha0:Xah) (t:Xai) (res:Int×Bool×Xah) (h:XgT Xac Xad Xab ha0 t=some res) :
 XaO Tryz.prog 17 2 ⟨⟨17,22,[(0,.pointer (some ⟨0,0,none⟩)),(1,.agg ⟨[.int .i64 t.Proto,.bool t.Src.V6,.int .u64 t.Src.Hi,.int .u64 t.Src.Lo,.bool t.Dst.V6,.int .u64 t.Dst.Hi,.int .u64 t.Dst.Lo,.int .i64 t.SPort,.int .i64 t.DPort]⟩)],[.code XuR],[],false,none⟩,[],[(0,.row false [.int .i64 ha0.id_,.int .u32 ha0.clock,.map (some 1)]),(1,.mp (vT XaC ha0.cookies))],2⟩ (fun v H _=>Res 2 (Xvs res) v H):=by
 unfold XgT at h
 refine XbD XaQ hS true 3000 ?_
 conv=>whnf
 replace h:=Xdj.elim h;obtain ⟨x1,hy,h⟩:=h
 refine XfS.a (XmB hy) ?_
 conv=>whnf
 refine br.h h (by rfl) ?_ ?_
 ·clear h;intro hb h;conv=>whnf
  exact W
 clear h;intro hb h;conv=>whnf
 refine ⟨.int .u64 (XbZ 0 t x1.2.cookies),Xb0 t x1.2.cookies,Xd8.get _ t x1.2.cookies,?_⟩
 conv=>whnf
 exact W
def s17 (g0:XaA) (g1:XaB) (g2:Xaw):Xb3:=⟨[.tr [⟨none,0,0,0,none⟩,⟨some 0,2,0,3,none⟩],.v],orD (Xz4 g0) (orD (XtC g1) (Xtl g2))⟩
theorem XBx {g0:XaA} {g1:XaB} {g2:Xaw} {y1:Xai} {x:Int×Bool} (hx:g0 y1=some x):(s17 g0 g1 g2).run [.pointer none,.agg ⟨[.int .i64 y1.Proto,.bool y1.Src.V6,.int .u64 y1.Src.Hi,.int .u64 y1.Src.Lo,.bool y1.Dst.V6,.int .u64 y1.Dst.Hi,.int .u64 y1.Dst.Lo,.int .i64 y1.SPort,.int .i64 y1.DPort]⟩] [none,none]=some (Xvm x):=XrN (a:=Xz4 g0) (b:=orD (XtC g1) (Xtl g2)) (XIP hx)
theorem XuV {g0:XaA} {g1:XaB} {g2:Xaw} {y0:XbC} {y1:Xai} {x:Int×Bool} (hx:g1 y0 y1=some x):(s17 g0 g1 g2).run [.pointer (some ⟨0,0,none⟩),.agg ⟨[.int .i64 y1.Proto,.bool y1.Src.V6,.int .u64 y1.Src.Hi,.int .u64 y1.Src.Lo,.bool y1.Dst.V6,.int .u64 y1.Dst.Hi,.int .u64 y1.Dst.Lo,.int .i64 y1.SPort,.int .i64 y1.DPort]⟩] [some [.int .i64 y0.id_,.int .u32 y0.clock,.map none],none]=some (XvO x):=Xp1 (a:=Xz4 g0) (b:=orD (XtC g1) (Xtl g2)) rfl (XrN (a:=XtC g1) (b:=Xtl g2) (XJR hx))
theorem XmC {g0:XaA} {g1:XaB} {g2:Xaw} {y0:Xah} {y1:Xai} {x:Int×Bool×Xah} (hx:g2 y0 y1=some x):(s17 g0 g1 g2).run [.pointer (some ⟨0,0,none⟩),.agg ⟨[.int .i64 y1.Proto,.bool y1.Src.V6,.int .u64 y1.Src.Hi,.int .u64 y1.Src.Lo,.bool y1.Dst.V6,.int .u64 y1.Dst.Hi,.int .u64 y1.Dst.Lo,.int .i64 y1.SPort,.int .i64 y1.DPort]⟩] [some [.int .i64 y0.id_,.int .u32 y0.clock,.map (some 1)],some (vT XaC y0.cookies)]=some (Xvs x):=Xp1 (a:=Xz4 g0) (b:=orD (XtC g1) (Xtl g2)) rfl (Xp1 (a:=XtC g1) (b:=Xtl g2) rfl (XIt hx))
def Xal:XaA:=XgP Xac Xad Xab
def Xak:XaB:=XgQ Xac Xad Xab
def Xaf:Xaw:=XgT Xac Xad Xab
theorem Xsj:Xb8 Tryz.prog 17 (s17 Xal Xak Xaf):=by
 have L0:=Xx9 Xac Xad Xab (Xar.Xa6 ⟨XkN,trivial⟩)
 have L1:=Xy3 Xac Xad Xab (Xar.Xa6 ⟨XkN,trivial⟩)
 have L2:=XyG Xac Xad Xab (Xar.Xa6 ⟨XkN,trivial⟩)
 exact okA ⟨Tryz.f17,rfl,by decide,rfl⟩
def XhY (Xat:Xbe) (Xal:XaA) (Xak:XaB) (Xaf:Xaw) (Xac:Xao) (Xad:Xap) (Xab:Xaq) (XcE:XdF) (Xc6:XdX) (XcF:Xdt) (ha0:XbC) (s:List UInt8):Option ((List UInt8)×Int):=
 (Xad (XbC.mk ha0.id_ ha0.clock NilMap.mk)).bind fun x0=>
 cond (!x0)
  (
  some (([],1)))
  (
  (Xat s).bind fun p=>
  cond (p.2 !=0)
   (
   some (([],p.2)))
   (
   (XcF p.1.Tuple).bind fun b=>
   (Xak (XbC.mk ha0.id_ ha0.clock NilMap.mk) b).bind fun x01=>
   cond (!x01.2)
    (
    some (([],13)))
    (
    cond (p.1.Stamped)
     (
     (Xc6 s (wI .u16 x01.1)).bind fun xo=>
     some ((xo.1,xo.2)))
     (
     (XcE s x01.1).bind fun n=>
     cond (n.2==0)
      (
      some ((n.1,0)))
      (
      some ((s,0)))))))
def Xu8 (x:(List UInt8)×Int):Xc4:=⟨.tuple ⟨[.string ⟨⟨x.1⟩⟩,.int .i64 x.2]⟩,[],[none,none]⟩
abbrev XcA:=XbC→(List UInt8)→Option ((List UInt8)×Int)
def XCb (g:XcA):Dec:=dTr 2 (Xfv 0) fun (y0:XbC)=>dV asS fun (y1:List UInt8)=>XdY (ofG (g y0 y1) Xu8)
theorem XIE {g:XcA} {y0:XbC} {y1:List UInt8} {x:(List UInt8)×Int} (hx:g y0 y1=some x):XCb g [.pointer (some ⟨0,0,none⟩),.string ⟨⟨y1⟩⟩] [some [.int .i64 y0.id_,.int .u32 y0.clock,.map none],none]=some (Xu8 x):=(Xkm rfl rfl (Xic 0 _)).trans ((Xbb (Xeb)).trans (Xbc hx))
abbrev XB9 (Xat:Xbe) (Xal:XaA) (Xak:XaB) (Xaf:Xaw) (Xac:Xao) (Xad:Xap) (Xab:Xaq) (XcE:XdF) (Xc6:XdX) (XcF:Xdt):List (Nat×Xb3):=[(30,s30 Xat),(17,s17 Xal Xak Xaf),(28,s28 Xac Xad Xab),(38,s38 XcE),(37,s37 Xc6),(36,s36 XcF)]
theorem XzM (Xat:Xbe) (Xal:XaA) (Xak:XaB) (Xaf:Xaw) (Xac:Xao) (Xad:Xap) (Xab:Xaq) (XcE:XdF) (Xc6:XdX) (XcF:Xdt) (hS:Xar Tryz.prog (XaI (XB9 Xat Xal Xak Xaf Xac Xad Xab XcE Xc6 XcF))) (ha0:XbC) (s:List UInt8) (res:(List UInt8)×Int) (h:XhY Xat Xal Xak Xaf Xac Xad Xab XcE Xc6 XcF ha0 s=some res) :
 XaO Tryz.prog 12 2 ⟨⟨12,53,[(0,.pointer (some ⟨0,0,none⟩)),(1,.string ⟨⟨s⟩⟩)],[.code Xw4],[],false,none⟩,[],[(0,.row false [.int .i64 ha0.id_,.int .u32 ha0.clock,.map none])],2⟩ (fun v H _=>Res 2 (Xu8 res) v H):=by
 unfold XhY at h
 have R1:=@Xu1 Xac Xad Xab
 have R2:=@Xqc Xat
 have R3:=@XGd XcF
 have R4:=@XuV Xal Xak Xaf
 have R5:=@XF4 Xc6
 have R6:=@XGY XcE
 refine XbD XaQ hS true 3000 ?_
 conv=>whnf
 exact W
def XhQ (Xat:Xbe) (Xal:XaA) (Xak:XaB) (Xaf:Xaw) (Xac:Xao) (Xad:Xap) (Xab:Xaq) (XcE:XdF) (Xc6:XdX) (XcF:Xdt) (ha0:Xah) (s:List UInt8):Option ((List UInt8)×Int×Xah):=
 (Xab ha0).bind fun x1=>
 cond (!x1.1)
  (
  some (([],1,Xah.mk ha0.id_ ha0.clock x1.2.cookies)))
  (
  (Xat s).bind fun p=>
  cond (p.2 !=0)
   (
   some (([],p.2,Xah.mk ha0.id_ ha0.clock x1.2.cookies)))
   (
   (XcF p.1.Tuple).bind fun b=>
   (Xaf (Xah.mk ha0.id_ ha0.clock x1.2.cookies) b).bind fun x11=>
   cond (!x11.2.1)
    (
    some (([],13,Xah.mk ha0.id_ ha0.clock x11.2.2.cookies)))
    (
    cond (p.1.Stamped)
     (
     (Xc6 s (wI .u16 x11.1)).bind fun xo=>
     some ((xo.1,xo.2,Xah.mk ha0.id_ ha0.clock x11.2.2.cookies)))
     (
     (XcE s x11.1).bind fun n=>
     cond (n.2==0)
      (
      some ((n.1,0,Xah.mk ha0.id_ ha0.clock x11.2.2.cookies)))
      (
      some ((s,0,Xah.mk ha0.id_ ha0.clock x11.2.2.cookies)))))))
def Xvq (x:(List UInt8)×Int×Xah):Xc4:=⟨.tuple ⟨[.string ⟨⟨x.1⟩⟩,.int .i64 x.2.1]⟩,[],[none,some (.float .f64 0::vT XaC x.2.2.cookies)]⟩
abbrev XcB:=Xah→(List UInt8)→Option ((List UInt8)×Int×Xah)
def XDU (g:XcB):Dec:=dTr 2 (XdI 0) fun (y0:Xah)=>dV asS fun (y1:List UInt8)=>XdY (ofG (g y0 y1) Xvq)
theorem XJZ {g:XcB} {y0:Xah} {y1:List UInt8} {x:(List UInt8)×Int×Xah} (hx:g y0 y1=some x):XDU g [.pointer (some ⟨0,0,none⟩),.string ⟨⟨y1⟩⟩] [some [.int .i64 y0.id_,.int .u32 y0.clock,.map (some 1)],some (vT XaC y0.cookies)]=some (Xvq x):=(Xkm rfl rfl (Xe2 0 _)).trans ((Xbb (Xeb)).trans (Xbc hx))
abbrev XCC (Xat:Xbe) (Xal:XaA) (Xak:XaB) (Xaf:Xaw) (Xac:Xao) (Xad:Xap) (Xab:Xaq) (XcE:XdF) (Xc6:XdX) (XcF:Xdt):List (Nat×Xb3):=[(30,s30 Xat),(17,s17 Xal Xak Xaf),(28,s28 Xac Xad Xab),(38,s38 XcE),(37,s37 Xc6),(36,s36 XcF)]
theorem XyY (Xat:Xbe) (Xal:XaA) (Xak:XaB) (Xaf:Xaw) (Xac:Xao) (Xad:Xap) (Xab:Xaq) (XcE:XdF) (Xc6:XdX) (XcF:Xdt) (hS:Xar Tryz.prog (XaI (XCC Xat Xal Xak Xaf Xac Xad Xab XcE Xc6 XcF))) (ha0:Xah) (s:List UInt8) (res:(List UInt8)×Int×Xah) (h:XhQ Xat Xal Xak Xaf Xac Xad Xab XcE Xc6 XcF ha0 s=some res) :
 XaO Tryz.prog 12 2 ⟨⟨12,53,[(0,.pointer (some ⟨0,0,none⟩)),(1,.string ⟨⟨s⟩⟩)],[.code Xw4],[],false,none⟩,[],[(0,.row false [.int .i64 ha0.id_,.int .u32 ha0.clock,.map (some 1)]),(1,.mp (vT XaC ha0.cookies))],2⟩ (fun v H _=>Res 2 (Xvq res) v H):=by
 unfold XhQ at h
 have R1:=@XmB Xac Xad Xab
 have R2:=@Xqc Xat
 have R3:=@XGd XcF
 have R4:=@XmC Xal Xak Xaf
 have R5:=@XF4 Xc6
 have R6:=@XGY XcE
 refine XbD XaQ hS true 3000 ?_
 conv=>whnf
 exact W
def s12 (g0:XcA) (g1:XcB):Xb3:=⟨[.tr [⟨none,0,0,0,none⟩,⟨some 0,2,0,3,none⟩],.v],orD (XCb g0) (XDU g1)⟩
theorem XEI {g0:XcA} {g1:XcB} {y0:XbC} {y1:List UInt8} {x:(List UInt8)×Int} (hx:g0 y0 y1=some x):(s12 g0 g1).run [.pointer (some ⟨0,0,none⟩),.string ⟨⟨y1⟩⟩] [some [.int .i64 y0.id_,.int .u32 y0.clock,.map none],none]=some (Xu8 x):=XrN (a:=XCb g0) (b:=XDU g1) (XIE hx)
theorem XCN {g0:XcA} {g1:XcB} {y0:Xah} {y1:List UInt8} {x:(List UInt8)×Int×Xah} (hx:g1 y0 y1=some x):(s12 g0 g1).run [.pointer (some ⟨0,0,none⟩),.string ⟨⟨y1⟩⟩] [some [.int .i64 y0.id_,.int .u32 y0.clock,.map (some 1)],some (vT XaC y0.cookies)]=some (Xvq x):=Xp1 (a:=XCb g0) (b:=XDU g1) rfl (XJZ hx)
def Xcp:XcA:=XhY Xat Xal Xak Xaf Xac Xad Xab XcE Xc6 XcF
def Xcq:XcB:=XhQ Xat Xal Xak Xaf Xac Xad Xab XcE Xc6 XcF
theorem XT6:Xb8 Tryz.prog 12 (s12 Xcp Xcq):=by
 have L0:=XzM Xat Xal Xak Xaf Xac Xad Xab XcE Xc6 XcF (Xar.Xa6 ⟨XqT,Xsj,XkN,XHn,XGE,XGM,trivial⟩)
 have L1:=XyY Xat Xal Xak Xaf Xac Xad Xab XcE Xc6 XcF (Xar.Xa6 ⟨XqT,Xsj,XkN,XHn,XGE,XGM,trivial⟩)
 exact okA ⟨Tryz.f12,rfl,by decide,rfl⟩
def XgU (Xal:XaA) (Xak:XaB) (Xaf:Xaw) (ha0:XbC) (t:Xai):Option Bool:=
 (Xak (XbC.mk ha0.id_ ha0.clock NilMap.mk) t).bind fun x0=>
 cond (x0.2)
  (
  some (x0.2))
  (
  some (x0.2))
def Xun (x:Bool):Xc4:=⟨.bool x,[],[none,none]⟩
abbrev Xbp:=XbC→Xai→Option Bool
def XCe (g:Xbp):Dec:=dTr 2 (Xfv 0) fun (y0:XbC)=>dV XdQ fun (y1:Xai)=>XdY (ofG (g y0 y1) Xun)
theorem XLt {g:Xbp} {y0:XbC} {y1:Xai} {x:Bool} (hx:g y0 y1=some x):XCe g [.pointer (some ⟨0,0,none⟩),.agg ⟨[.int .i64 y1.Proto,.bool y1.Src.V6,.int .u64 y1.Src.Hi,.int .u64 y1.Src.Lo,.bool y1.Dst.V6,.int .u64 y1.Dst.Hi,.int .u64 y1.Dst.Lo,.int .i64 y1.SPort,.int .i64 y1.DPort]⟩] [some [.int .i64 y0.id_,.int .u32 y0.clock,.map none],none]=some (Xun x):=(Xkm rfl rfl (Xic 0 _)).trans ((Xbb (XdT _)).trans (Xbc hx))
abbrev XCd (Xal:XaA) (Xak:XaB) (Xaf:Xaw):List (Nat×Xb3):=[(17,s17 Xal Xak Xaf)]
theorem Xzi (Xal:XaA) (Xak:XaB) (Xaf:Xaw) (hS:Xar Tryz.prog (XaI (XCd Xal Xak Xaf))) (ha0:XbC) (t:Xai) (res:Bool) (h:XgU Xal Xak Xaf ha0 t=some res) :
 XaO Tryz.prog 14 2 ⟨⟨14,20,[(0,.pointer (some ⟨0,0,none⟩)),(1,.agg ⟨[.int .i64 t.Proto,.bool t.Src.V6,.int .u64 t.Src.Hi,.int .u64 t.Src.Lo,.bool t.Dst.V6,.int .u64 t.Dst.Hi,.int .u64 t.Dst.Lo,.int .i64 t.SPort,.int .i64 t.DPort]⟩)],[.code Xz2],[],false,none⟩,[],[(0,.row false [.int .i64 ha0.id_,.int .u32 ha0.clock,.map none])],2⟩ (fun v H _=>Res 2 (Xun res) v H):=by
 unfold XgU at h
 have R1:=@XuV Xal Xak Xaf
 refine XbD XaQ hS true 3000 ?_
 conv=>whnf
 exact W
def XfE (Xal:XaA) (Xak:XaB) (Xaf:Xaw) (ha0:Xah) (t:Xai):Option (Bool×Xah):=
 (Xaf ha0 t).bind fun x1=>
 cond (x1.2.1)
  (
  let m:=XbS t x1.2.2.cookies
  some ((x1.2.1,Xah.mk ha0.id_ ha0.clock m)))
  (
  some ((x1.2.1,Xah.mk ha0.id_ ha0.clock x1.2.2.cookies)))
def Xu5 (x:Bool×Xah):Xc4:=⟨.bool x.1,[],[none,some (.float .f64 0::vT XaC x.2.cookies)]⟩
abbrev Xba:=Xah→Xai→Option (Bool×Xah)
def XEx (g:Xba):Dec:=dTr 2 (XdI 0) fun (y0:Xah)=>dV XdQ fun (y1:Xai)=>XdY (ofG (g y0 y1) Xu5)
theorem XJ2 {g:Xba} {y0:Xah} {y1:Xai} {x:Bool×Xah} (hx:g y0 y1=some x):XEx g [.pointer (some ⟨0,0,none⟩),.agg ⟨[.int .i64 y1.Proto,.bool y1.Src.V6,.int .u64 y1.Src.Hi,.int .u64 y1.Src.Lo,.bool y1.Dst.V6,.int .u64 y1.Dst.Hi,.int .u64 y1.Dst.Lo,.int .i64 y1.SPort,.int .i64 y1.DPort]⟩] [some [.int .i64 y0.id_,.int .u32 y0.clock,.map (some 1)],some (vT XaC y0.cookies)]=some (Xu5 x):=(Xkm rfl rfl (Xe2 0 _)).trans ((Xbb (XdT _)).trans (Xbc hx))
abbrev XCU (Xal:XaA) (Xak:XaB) (Xaf:Xaw):List (Nat×Xb3):=[(17,s17 Xal Xak Xaf)]
theorem XyK (Xal:XaA) (Xak:XaB) (Xaf:Xaw) (hS:Xar Tryz.prog (XaI (XCU Xal Xak Xaf))) (ha0:Xah) (t:Xai) (res:Bool×Xah) (h:XfE Xal Xak Xaf ha0 t=some res) :
 XaO Tryz.prog 14 2 ⟨⟨14,20,[(0,.pointer (some ⟨0,0,none⟩)),(1,.agg ⟨[.int .i64 t.Proto,.bool t.Src.V6,.int .u64 t.Src.Hi,.int .u64 t.Src.Lo,.bool t.Dst.V6,.int .u64 t.Dst.Hi,.int .u64 t.Dst.Lo,.int .i64 t.SPort,.int .i64 t.DPort]⟩)],[.code Xz2],[],false,none⟩,[],[(0,.row false [.int .i64 ha0.id_,.int .u32 ha0.clock,.map (some 1)]),(1,.mp (vT XaC ha0.cookies))],2⟩ (fun v H _=>Res 2 (Xu5 res) v H):=by
 unfold XfE at h
 refine XbD XaQ hS true 3000 ?_
 conv=>whnf
 replace h:=Xdj.elim h;obtain ⟨x1,hy,h⟩:=h
 refine XfS.a (XmC hy) ?_
 conv=>whnf
 refine br.h2 h (by rfl) ?_ ?_
 ·clear h;intro hb h;conv=>whnf
  exact W
 clear h;intro hb h;conv=>whnf
 let m:List Xan:=XbS t x1.2.2.cookies
 refine ⟨vT XaC m,Xd8.del _ x1.2.2.cookies,?_⟩
 conv=>whnf
 exact W
def s14 (g0:Xbp) (g1:Xba):Xb3:=⟨[.tr [⟨none,0,0,0,none⟩,⟨some 0,2,0,3,none⟩],.v],orD (XCe g0) (XEx g1)⟩
theorem XCI {g0:Xbp} {g1:Xba} {y0:XbC} {y1:Xai} {x:Bool} (hx:g0 y0 y1=some x):(s14 g0 g1).run [.pointer (some ⟨0,0,none⟩),.agg ⟨[.int .i64 y1.Proto,.bool y1.Src.V6,.int .u64 y1.Src.Hi,.int .u64 y1.Src.Lo,.bool y1.Dst.V6,.int .u64 y1.Dst.Hi,.int .u64 y1.Dst.Lo,.int .i64 y1.SPort,.int .i64 y1.DPort]⟩] [some [.int .i64 y0.id_,.int .u32 y0.clock,.map none],none]=some (Xun x):=XrN (a:=XCe g0) (b:=XEx g1) (XLt hx)
theorem XD6 {g0:Xbp} {g1:Xba} {y0:Xah} {y1:Xai} {x:Bool×Xah} (hx:g1 y0 y1=some x):(s14 g0 g1).run [.pointer (some ⟨0,0,none⟩),.agg ⟨[.int .i64 y1.Proto,.bool y1.Src.V6,.int .u64 y1.Src.Hi,.int .u64 y1.Src.Lo,.bool y1.Dst.V6,.int .u64 y1.Dst.Hi,.int .u64 y1.Dst.Lo,.int .i64 y1.SPort,.int .i64 y1.DPort]⟩] [some [.int .i64 y0.id_,.int .u32 y0.clock,.map (some 1)],some (vT XaC y0.cookies)]=some (Xu5 x):=Xp1 (a:=XCe g0) (b:=XEx g1) rfl (XJ2 hx)
def XaJ:Xbp:=XgU Xal Xak Xaf
def Xau:Xba:=XfE Xal Xak Xaf
theorem XOT:Xb8 Tryz.prog 14 (s14 XaJ Xau):=by
 have L0:=Xzi Xal Xak Xaf (Xar.Xa6 ⟨Xsj,trivial⟩)
 have L1:=XyK Xal Xak Xaf (Xar.Xa6 ⟨Xsj,trivial⟩)
 exact okA ⟨Tryz.f14,rfl,by decide,rfl⟩
def Xiw (Xac:Xao) (Xad:Xap) (Xab:Xaq):Option Int:=
 (Xac).bind fun n=>
 cond (!n)
  (
  some (0))
  (
  none)
def Xvw (x:Int):Xc4:=⟨.int .i64 x,[],[none,none]⟩
abbrev XbQ:=Option Int
def XBv (g:XbQ):Dec:=dNl 2<|XdY (ofG (g) Xvw)
theorem XIy {g:XbQ} {x:Int} (hx:g=some x):XBv g [.pointer none] [none,none]=some (Xvw x):=(Xzm).trans (Xbc hx)
abbrev XFm (Xac:Xao) (Xad:Xap) (Xab:Xaq):List (Nat×Xb3):=[(28,s28 Xac Xad Xab)]
theorem Xzw (Xac:Xao) (Xad:Xap) (Xab:Xaq) (hS:Xar Tryz.prog (XaI (XFm Xac Xad Xab))) (res:Int) (h:Xiw Xac Xad Xab=some res) :
 XaO Tryz.prog 19 2 ⟨⟨19,11,[(0,.pointer none)],[.code XLp],[],false,none⟩,[],[],2⟩ (fun v H _=>Res 2 (Xvw res) v H):=by
 unfold Xiw at h
 have R1:=@Xou Xac Xad Xab
 refine XbD XaQ hS true 3000 ?_
 conv=>whnf
 exact W
def Xis (Xac:Xao) (Xad:Xap) (Xab:Xaq) (ha0:Xah):Option (Int×Xah):=
 (Xab ha0).bind fun x1=>
 cond (!x1.1)
  (
  some ((0,Xah.mk ha0.id_ ha0.clock x1.2.cookies)))
  (
  some (((x1.2.cookies.length:Int),Xah.mk ha0.id_ ha0.clock x1.2.cookies)))
def Xut (x:Int×Xah):Xc4:=⟨.int .i64 x.1,[],[none,some (.float .f64 0::vT XaC x.2.cookies)]⟩
abbrev Xbv:=Xah→Option (Int×Xah)
def XEk (g:Xbv):Dec:=dTr 2 (XdI 0) fun (y0:Xah)=>XdY (ofG (g y0) Xut)
theorem XLr {g:Xbv} {y0:Xah} {x:Int×Xah} (hx:g y0=some x):XEk g [.pointer (some ⟨0,0,none⟩)] [some [.int .i64 y0.id_,.int .u32 y0.clock,.map (some 1)],some (vT XaC y0.cookies)]=some (Xut x):=(Xkm rfl rfl (Xe2 0 _)).trans (Xbc hx)
abbrev XEu (Xac:Xao) (Xad:Xap) (Xab:Xaq):List (Nat×Xb3):=[(28,s28 Xac Xad Xab)]
theorem XAG (Xac:Xao) (Xad:Xap) (Xab:Xaq) (hS:Xar Tryz.prog (XaI (XEu Xac Xad Xab))) (ha0:Xah) (res:Int×Xah) (h:Xis Xac Xad Xab ha0=some res) :
 XaO Tryz.prog 19 2 ⟨⟨19,11,[(0,.pointer (some ⟨0,0,none⟩))],[.code XLp],[],false,none⟩,[],[(0,.row false [.int .i64 ha0.id_,.int .u32 ha0.clock,.map (some 1)]),(1,.mp (vT XaC ha0.cookies))],2⟩ (fun v H _=>Res 2 (Xut res) v H):=by
 unfold Xis at h
 refine XbD XaQ hS true 3000 ?_
 conv=>whnf
 replace h:=Xdj.elim h;obtain ⟨x1,hy,h⟩:=h
 refine XfS.a (XmB hy) ?_
 conv=>whnf
 refine br.h h (by rfl) ?_ ?_
 ·clear h;intro hb h;conv=>whnf
  exact W
 clear h;intro hb h;conv=>whnf
 refine ⟨x1.2.cookies.length,Xd8.length _,?_⟩
 conv=>whnf
 exact W
def s19 (g0:XbQ) (g1:Xbv):Xb3:=⟨[.tr [⟨none,0,0,0,none⟩,⟨some 0,2,0,3,none⟩]],orD (XBv g0) (XEk g1)⟩
theorem XEJ {g0:XbQ} {g1:Xbv} {x:Int} (hx:g0=some x):(s19 g0 g1).run [.pointer none] [none,none]=some (Xvw x):=XrN (a:=XBv g0) (b:=XEk g1) (XIy hx)
theorem Xrw {g0:XbQ} {g1:Xbv} {y0:Xah} {x:Int×Xah} (hx:g1 y0=some x):(s19 g0 g1).run [.pointer (some ⟨0,0,none⟩)] [some [.int .i64 y0.id_,.int .u32 y0.clock,.map (some 1)],some (vT XaC y0.cookies)]=some (Xut x):=Xp1 (a:=XBv g0) (b:=XEk g1) rfl (XLr hx)
def Xa5:XbQ:=Xiw Xac Xad Xab
def XaF:Xbv:=Xis Xac Xad Xab
theorem XQt:Xb8 Tryz.prog 19 (s19 Xa5 XaF):=by
 have L0:=Xzw Xac Xad Xab (Xar.Xa6 ⟨XkN,trivial⟩)
 have L1:=XAG Xac Xad Xab (Xar.Xa6 ⟨XkN,trivial⟩)
 exact okA ⟨Tryz.f19,rfl,by decide,rfl⟩
def Xja (Xac:Xao) (Xad:Xap) (Xab:Xaq) (clock:Int):Option Unit:=
 (Xac).bind fun n=>
 cond (n)
  (
  none)
  (
  some (()))
def XuQ (x:Unit):Xc4:=⟨.tuple ⟨[]⟩,[],[none,none]⟩
abbrev Xdk:=Int→Option Unit
def XIG (g:Xdk):Dec:=dNl 2<|dV (asI .u32) fun (y1:Int)=>XdY (ofG (g y1) XuQ)
theorem XI3 {g:Xdk} {y1:Int} {x:Unit} (hx:g y1=some x):XIG g [.pointer none,.int .u32 y1] [none,none]=some (XuQ x):=(Xzm).trans ((Xbb (Xdo _)).trans (Xbc hx))
abbrev XCY (Xac:Xao) (Xad:Xap) (Xab:Xaq):List (Nat×Xb3):=[(28,s28 Xac Xad Xab)]
theorem Xyq (Xac:Xao) (Xad:Xap) (Xab:Xaq) (hS:Xar Tryz.prog (XaI (XCY Xac Xad Xab))) (clock:Int) (res:Unit) (h:Xja Xac Xad Xab clock=some res) :
 XaO Tryz.prog 16 2 ⟨⟨16,10,[(0,.pointer none),(1,.int .u32 clock)],[.code XLJ],[],false,none⟩,[],[],2⟩ (fun v H _=>Res 2 (XuQ res) v H):=by
 unfold Xja at h
 have R1:=@Xou Xac Xad Xab
 refine XbD XaQ hS true 3000 ?_
 conv=>whnf
 exact W
def XiY (Xac:Xao) (Xad:Xap) (Xab:Xaq) (ha0:Xah) (clock:Int):Option Xah:=
 (Xab ha0).bind fun x1=>
 cond (x1.1)
  (
  some (Xah.mk ha0.id_ clock x1.2.cookies))
  (
  some (Xah.mk ha0.id_ ha0.clock x1.2.cookies))
def XFt (x:Xah):Xc4:=⟨.tuple ⟨[]⟩,[],[some [.int .i64 x.id_,.int .u32 x.clock,.map (some 1)],some (.float .f64 0::vT XaC x.cookies)]⟩
abbrev XdN:=Xah→Int→Option Xah
def XQj (g:XdN):Dec:=dTr 2 (XdI 0) fun (y0:Xah)=>dV (asI .u32) fun (y1:Int)=>XdY (ofG (g y0 y1) XFt)
abbrev XCs (Xac:Xao) (Xad:Xap) (Xab:Xaq):List (Nat×Xb3):=[(28,s28 Xac Xad Xab)]
theorem XxL (Xac:Xao) (Xad:Xap) (Xab:Xaq) (hS:Xar Tryz.prog (XaI (XCs Xac Xad Xab))) (ha0:Xah) (clock:Int) (res:Xah) (h:XiY Xac Xad Xab ha0 clock=some res) :
 XaO Tryz.prog 16 2 ⟨⟨16,10,[(0,.pointer (some ⟨0,0,none⟩)),(1,.int .u32 clock)],[.code XLJ],[],false,none⟩,[],[(0,.cells [.int .i64 ha0.id_,.int .u32 ha0.clock,.map (some 1)]),(1,.mp (vT XaC ha0.cookies))],2⟩ (fun v H _=>Res 2 (XFt res) v H):=by
 unfold XiY at h
 have R1:=@XmB Xac Xad Xab
 refine XbD XaQ hS true 3000 ?_
 conv=>whnf
 exact W
def s16 (g0:Xdk) (g1:XdN):Xb3:=⟨[.tr [⟨none,0,0,1,none⟩,⟨some 0,2,0,3,none⟩],.v],orD (XIG g0) (XQj g1)⟩
theorem XDg {g0:Xdk} {g1:XdN} {y1:Int} {x:Unit} (hx:g0 y1=some x):(s16 g0 g1).run [.pointer none,.int .u32 y1] [none,none]=some (XuQ x):=XrN (a:=XIG g0) (b:=XQj g1) (XI3 hx)
def Xc5:Xdk:=Xja Xac Xad Xab
def Xdq:XdN:=XiY Xac Xad Xab
theorem XRc:Xb8 Tryz.prog 16 (s16 Xc5 Xdq):=by
 have L0:=Xyq Xac Xad Xab (Xar.Xa6 ⟨XkN,trivial⟩)
 have L1:=XxL Xac Xad Xab (Xar.Xa6 ⟨XkN,trivial⟩)
 exact okA ⟨Tryz.f16,rfl,by decide,rfl⟩
end Go.Vm.Code
namespace Go.Vm.Code
open Go Go.Vm
theorem XCm (a b:Xai):XbA a b=XLm a b:=rfl
theorem Xmf {a b:Xai}:XbA a b=true↔a=b:=by rw [XCm];exact XAt
theorem XuJ {a b:Xai} (h:a≠b):XbA a b=false:=by
 cases hb:XbA a b
 ·rfl
 ·exact absurd (Xmf.1 hb) h
theorem XEq (a:Xai):XbA a a=true:=Xmf.2 rfl
def Xho (m:List Xan):List Xai:=m.map fun e=>e.key
theorem XAm (t:Xai) (e:Xan) (m:List Xan):Xb0 t (e::m)=(XbA t e.key||Xb0 t m):=rfl
theorem Xf5 (z:Int) (t:Xai) (e:Xan) (m:List Xan):XbZ z t (e::m)=cond (XbA t e.key) e.val (XbZ z t m):=rfl
theorem Xmn (t:Xai) (v:Int) (e:Xan) (m:List Xan):XaM t v (e::m)=cond (XbA t e.key) (⟨e.key,v⟩::m) (e::XaM t v m):=rfl
theorem Xz9 (t:Xai) (e:Xan) (m:List Xan):XbS t (e::m)=cond (XbA t e.key) m (e::XbS t m):=rfl
theorem Xhs {t:Xai}:∀ {m:List Xan},Xb0 t m=true↔t∈Xho m
 | []=>by simp [Xb0,XGJ,Xho]
 | e::m=>by
   rw [XAm,Bool.or_eq_true,Xmf,Xhs]
   simp [Xho]
theorem Xnv {t:Xai} {m:List Xan}:Xb0 t m=false↔t ∉ Xho m:=by
 rw [←Xhs];simp
theorem XmA {t:Xai} {v:Int}:∀ {m:List Xan},t ∉ Xho m→XaM t v m=m++[⟨t,v⟩]
 | [],_=>rfl
 | e::m,h=>by
   simp only [Xho,List.map_cons,List.mem_cons,not_or] at h
   rw [Xmn,XuJ h.1,cond_false,XmA h.2];rfl
theorem XkL {t:Xai} {v:Int}:∀ {m:List Xan},t∈Xho m→Xho (XaM t v m)=Xho m
 | [],h=>by simp [Xho] at h
 | e::m,h=>by
   rw [Xmn]
   cases hb:XbA t e.key
   ·rw [cond_false]
    have:t∈Xho m:=by
     rcases List.mem_cons.1 h with h|h
     ·rw [Xmf.2 h] at hb;cases hb
     ·exact h
    show e.key::Xho _=e.key::Xho m
    rw [XkL this]
   ·rfl
theorem Xoh {z:Int} {t:Xai} {v:Int}:∀ {m:List Xan},XbZ z t (XaM t v m)=v
 | []=>by
   show XbZ z t [⟨t,v⟩]=v
   rw [Xf5,XEq];rfl
 | e::m=>by
   rw [Xmn]
   cases hb:XbA t e.key
   ·rw [cond_false,Xf5,hb,cond_false,Xoh]
   ·rw [cond_true,Xf5,hb,cond_true]
theorem Xqw {z:Int} {t u:Xai} {v:Int} (hu:u≠t):∀ {m:List Xan},XbZ z u (XaM t v m)=XbZ z u m
 | []=>by
   show XbZ z u [⟨t,v⟩]=_
   rw [Xf5,XuJ hu];rfl
 | e::m=>by
   rw [Xmn]
   cases hb:XbA t e.key
   ·rw [cond_false,Xf5,Xf5,Xqw hu]
   ·rw [cond_true,Xf5,Xf5,←Xmf.1 hb,XuJ hu];rfl
theorem Xq8 {t u:Xai} {v:Int} {m:List Xan}:u∈Xho (XaM t v m)↔u=t∨u∈Xho m:=by
 by_cases h:t∈Xho m
 ·rw [XkL h]
  exact ⟨.inr,fun hh=>by rcases hh with rfl|hh;exact h;exact hh⟩
 ·rw [XmA h]
  simp [Xho,or_comm]
theorem XBq {t:Xai} {v:Int} {m:List Xan} (h:t∈Xho m):(XaM t v m).length=m.length:=by
 have:=congrArg List.length (XkL (v:=v) h)
 simpa [Xho] using this
theorem Xv8 {t:Xai} {v:Int} {m:List Xan} (hn:(Xho m).Nodup):(Xho (XaM t v m)).Nodup:=by
 by_cases h:t∈Xho m
 ·rw [XkL h];exact hn
 ·rw [XmA h]
  simp only [Xho,List.map_append,List.map_cons,List.map_nil]
  rw [List.nodup_append]
  refine ⟨hn,by simp,fun a ha b hb=>?_⟩
  simp only [List.mem_singleton] at hb
  subst hb
  exact fun e=>h (by rw [←e];exact ha)
theorem XmR {t:Xai}:∀ {m:List Xan},(Xho m).Nodup→(∀ u,u∈Xho (XbS t m)↔u∈Xho m∧u≠t)∧(Xho (XbS t m)).Nodup∧(t∈Xho m→(XbS t m).length+1=m.length)∧(t ∉ Xho m→XbS t m=m)∧∀ z u,u≠t→XbZ z u (XbS t m)=XbZ z u m
 | [],_=>⟨fun u=>by simp [Xho,XbS,XA4],by simp [Xho,XbS,XA4],fun h=>by simp [Xho] at h,fun _=>rfl,fun _ _ _=>rfl⟩
 | e::m,hn=>by
   have hn':e.key ∉ Xho m∧(Xho m).Nodup:=by simpa [Xho] using hn
   obtain ⟨h1,h2,h3,h4,h5⟩:=XmR (t:=t) hn'.2
   rw [Xz9]
   cases hb:XbA t e.key
   ·have hne:e.key≠t:=fun h=>by rw [Xmf.2 h.symm] at hb;cases hb
    rw [cond_false]
    have hk:∀ l:List Xan,Xho (e::l)=e.key::Xho l:=fun _=>rfl
    refine ⟨fun u=>?_,?_,fun h=>?_,fun h=>?_,fun z u hu=>?_⟩
    ·rw [hk,hk,List.mem_cons,List.mem_cons,h1]
     constructor
     ·rintro (rfl|⟨a,b⟩)
      ·exact ⟨.inl rfl,hne⟩
      ·exact ⟨.inr a,b⟩
     ·rintro ⟨rfl|a,b⟩
      ·exact .inl rfl
      ·exact .inr ⟨a,b⟩
    ·rw [hk,List.nodup_cons,h1];exact ⟨fun h=>hn'.1 h.1,h2⟩
    ·rw [hk] at h
     rcases List.mem_cons.1 h with h|h
     ·exact absurd h.symm hne
     ·simp only [List.length_cons];rw [h3 h]
    ·rw [hk,List.mem_cons,not_or] at h;rw [h4 h.2]
    ·rw [Xf5,Xf5,h5 z u hu]
   ·have he:=Xmf.1 hb
    rw [cond_true]
    refine ⟨fun u=>?_,hn'.2,fun _=>rfl,fun h=>absurd (by simp [Xho,he]) h,fun z u hu=>?_⟩
    ·show u∈Xho m↔u∈e.key::Xho m∧u≠t
     rw [List.mem_cons]
     constructor
     ·intro hu;exact ⟨.inr hu,fun e2=>hn'.1 (by rw [←he,←e2];exact hu)⟩
     ·rintro ⟨a|a,b⟩
      ·exact absurd (a.trans he.symm) b
      ·exact a
    ·rw [Xf5,←he,XuJ hu];rfl
theorem XzQ (s:List UInt8):(Xh6 s).2.1.length≤s.length:=by
 unfold Xh6
 repeat' split
 all_goals simp
def XfW (m:List Xan) (t:Xai) (c:XaN):Int×List Xan:=
 if Xb0 t m=true then (if c.First=true then (0,XaM t c.Cookie m) else (0,m)) else if m.length=64 then (9,m) else (0,XaM t c.Cookie m)
theorem Xyw {i k:Int} {m:List Xan} {t:Xai} {c:XaN}:Xch ⟨i,k,m⟩ t c=some ((XfW m t c).1,⟨i,k,(XfW m t c).2⟩):=by
 unfold Xch Xgl XfW
 cases h1:Xb0 t m
 ·rw [cond_false,if_neg (by simp)]
  by_cases h2:m.length=64
  ·rw [show ((m.length:Int)==64)=true by rw [h2];rfl,cond_true,if_pos h2]
  ·rw [show ((m.length:Int)==64)=false by rw [beq_eq_false_iff_ne];omega,cond_false,if_neg h2]
 ·rw [cond_true,if_pos rfl]
  cases c.First<;>rfl
def Xsd (i k:Int) (m:List Xan) (s:List UInt8):List UInt8×Int×List Xan:=
 if (Xh6 s).2.2≠0 then ([],(Xh6 s).2.2,m) else if (Xh6 s).1.Backend≠i then ([],16,m) else if (Xbz (Xh6 s).2.1).2.2.2≠0 then ([],(Xbz (Xh6 s).2.1).2.2.2,m) else
  if (XfW m (Xbz (Xh6 s).2.1).1.Tuple (Xh6 s).1).1≠0 then ([],(XfW m (Xbz (Xh6 s).2.1).1.Tuple (Xh6 s).1).1,(XfW m (Xbz (Xh6 s).2.1).1.Tuple (Xh6 s).1).2) else
   if (Xbz (Xh6 s).2.1).1.Stamped=true then ((XM6 (Xh6 s).2.1 k).1,(XM6 (Xh6 s).2.1 k).2,(XfW m (Xbz (Xh6 s).2.1).1.Tuple (Xh6 s).1).2) else ((Xh6 s).2.1,0,(XfW m (Xbz (Xh6 s).2.1).1.Tuple (Xh6 s).1).2)
theorem nz {n:Int} (h:n≠0):(n !=0)=true:=bne_iff_ne.2 h
theorem ez {n:Int} (h:¬ n≠0):(n !=0)=false:=by simpa using h
theorem Xw5 {i k:Int} {m:List Xan} {s:List UInt8} (hs:s.length<900):Xas ⟨i,k,m⟩ s=some ((Xsd i k m s).1,(Xsd i k m s).2.1,⟨i,k,(Xsd i k m s).2.2⟩):=by
 have hl:=XzQ s
 unfold Xas Xgr Xsd
 rw [show Xab ⟨i,k,m⟩=some (true,⟨i,k,m⟩) from rfl,Option.bind_some]
 simp only [Bool.not_true,cond_false]
 rw [XKi (by omega),Option.bind_some]
 generalize Xh6 s=g at *
 by_cases h1:g.2.2≠0
 ·rw [nz h1,cond_true,if_pos h1]
 rw [ez h1,cond_false,if_neg h1]
 by_cases h2:g.1.Backend≠i
 ·rw [show (g.1.Backend !=i)=true from bne_iff_ne.2 h2,cond_true,if_pos h2]
 rw [show (g.1.Backend !=i)=false by simpa using h2,cond_false,if_neg h2,XvF (by omega),Option.bind_some]
 simp only []
 by_cases h3:(Xbz g.2.1).2.2.2≠0
 ·rw [show ((Xbz g.2.1).2.2.2==0)=false by simpa using h3,cond_false,nz h3,cond_true,if_pos h3]
 rw [show ((Xbz g.2.1).2.2.2==0)=true by simpa using h3,cond_true,if_neg h3,Xyw,Option.bind_some]
 simp only []
 generalize XfW m (Xbz g.2.1).1.Tuple g.1=q
 by_cases h4:q.1≠0
 ·rw [nz h4,cond_true,if_pos h4]
 rw [ez h4,cond_false,if_neg h4]
 cases h5:(Xbz g.2.1).1.Stamped
 ·rw [cond_false,if_neg (by decide)]
 ·rw [cond_true,if_pos rfl,XNq (by omega),Option.bind_some]
theorem Xi9 {i k:Int} {m:List Xan} {t:Xai}:Xaf ⟨i,k,m⟩ t=some (XbZ 0 t m,Xb0 t m,⟨i,k,m⟩):=rfl
theorem Xok {i k:Int} {m:List Xan}:XaF ⟨i,k,m⟩=some ((m.length:Int),⟨i,k,m⟩):=rfl
theorem XoU {i k:Int} {m:List Xan} {t:Xai} (hn:(Xho m).Nodup):Xau ⟨i,k,m⟩ t=some (Xb0 t m,⟨i,k,XbS t m⟩):=by
 unfold Xau XfE
 rw [Xi9,Option.bind_some]
 simp only []
 cases h:Xb0 t m
 ·rw [cond_false,(XmR hn).2.2.2.1 (Xnv.1 h)]
 ·rfl
theorem XtJ {a b c d e f g r:List UInt8} (ha:a.length=3) (hb:b.length=1) (hc:c.length=2) (hd:d.length=1) (he:e.length=1) (hf:f.length=2) (hg:g.length=8) :
 let s:=a++b++c++d++e++f++g++r
 s.take 3=a∧(s.drop 3).take 1=b∧(s.drop 4).take 2=c∧(s.drop 6).take 1=d∧(s.drop 7).take 1=e∧(s.drop 10).take 8=g∧s.drop 18=r∧s.take 8=a++b++c++d++e∧s.drop 10=g++r:=by
 have da:∀ x:List UInt8,(a++x).drop 3=x:=fun x=>by rw [←ha];exact List.drop_left
 have db:∀ x:List UInt8,(b++x).drop 1=x:=fun x=>by rw [←hb];exact List.drop_left
 have dc:∀ x:List UInt8,(c++x).drop 2=x:=fun x=>by rw [←hc];exact List.drop_left
 have dd:∀ x:List UInt8,(d++x).drop 1=x:=fun x=>by rw [←hd];exact List.drop_left
 have de:∀ x:List UInt8,(e++x).drop 1=x:=fun x=>by rw [←he];exact List.drop_left
 have df:∀ x:List UInt8,(f++x).drop 2=x:=fun x=>by rw [←hf];exact List.drop_left
 have dg:∀ x:List UInt8,(g++x).drop 8=x:=fun x=>by rw [←hg];exact List.drop_left
 simp only []
 have e8:(a++b++c++d++e++f++g++r).take 8=a++b++c++d++e:=by
  rw [show a++b++c++d++e++f++g++r=(a++b++c++d++e)++(f++g++r) by simp,show 8=(a++b++c++d++e).length by simp;omega]
  exact List.take_left
 rw [e8]
 simp only [List.append_assoc]
 have e4:(a++(b++(c++(d++(e++(f++(g++r))))))).drop 4=c++(d++(e++(f++(g++r)))):=by rw [show 4=3+1 from rfl,←List.drop_drop,da,db]
 have e6:(a++(b++(c++(d++(e++(f++(g++r))))))).drop 6=d++(e++(f++(g++r))):=by rw [show 6=4+2 from rfl,←List.drop_drop,e4,dc]
 have e7:(a++(b++(c++(d++(e++(f++(g++r))))))).drop 7=e++(f++(g++r)):=by rw [show 7=6+1 from rfl,←List.drop_drop,e6,dd]
 have e10:(a++(b++(c++(d++(e++(f++(g++r))))))).drop 10=g++r:=by rw [show 10=(7+1)+2 from rfl,←List.drop_drop,←List.drop_drop,e7,de,df]
 have e18:(a++(b++(c++(d++(e++(f++(g++r))))))).drop 18=r:=by rw [show 18=10+8 from rfl,←List.drop_drop,e10,dg]
 refine ⟨by rw [←ha];exact List.take_left,?_,?_,?_,?_,?_,e18,trivial,e10⟩
 ·rw [da,←hb];exact List.take_left
 ·rw [e4,←hc];exact List.take_left
 ·rw [e6,←hd];exact List.take_left
 ·rw [e7,←he];exact List.take_left
 ·rw [e10,←hg];exact List.take_left
theorem XE2 (c:XaN):hd c=[71,85,1]++be (kd c.V6) 1++be c.Backend.toNat 2++be (bt c.First) 1++be c.Instance.toNat 1++be (65535 - norm (Xdp (hd0 c))) 2++be c.Cookie.toNat 8:=by
 obtain ⟨_,_,_,_,_,_,_,p8,p9⟩:=XtJ (a:=[71,85,1]) (b:=be (kd c.V6) 1) (c:=be c.Backend.toNat 2) (d:=be (bt c.First) 1) (e:=be c.Instance.toNat 1) (f:=be 0 2) (g:=be c.Cookie.toNat 8) (r:=[]) rfl (by simp) (by simp) (by simp) (by simp) (by simp) (by simp)
 simp only [List.append_nil] at p8 p9
 unfold hd sset
 rw [show hd0 c=[71,85,1]++be (kd c.V6) 1++be c.Backend.toNat 2++be (bt c.First) 1++be c.Instance.toNat 1++be 0 2++be c.Cookie.toNat 8 from rfl,p8,p9]
theorem XOX (c:XaN):Xdp (hd c)%65535=0∧Xdp (hd c)≠0:=by
 have n1:=norm_le (Xdp (hd0 c))
 have n2:=XiI (Xdp (hd0 c))
 have n3:=Xi7 (Xdp (hd0 c))
 have w:=XsI (s:=hd0 c) (p:=8) (k:=2) (n:=65535 - norm (Xdp (hd0 c))) (by rw [XkI];omega) (by omega) (by omega)
 have z:((hd0 c).drop 8).take 2=be 0 2:=by
  obtain ⟨_,_,_,_,p5,_,_,_,_⟩:=XtJ (a:=[71,85,1]) (b:=be (kd c.V6) 1) (c:=be c.Backend.toNat 2) (d:=be (bt c.First) 1) (e:=be c.Instance.toNat 1) (f:=be 0 2) (g:=be c.Cookie.toNat 8) (r:=[]) rfl (by simp) (by simp) (by simp) (by simp) (by simp) (by simp)
  unfold hd0
  rw [show [71,85,1]++be (kd c.V6) 1++be c.Backend.toNat 2++be (bt c.First) 1++be c.Instance.toNat 1++be 0 2++be c.Cookie.toNat 8=([71,85,1]++be (kd c.V6) 1++be c.Backend.toNat 2++be (bt c.First) 1++be c.Instance.toNat 1)++(be 0 2++be c.Cookie.toNat 8) by simp,
   List.drop_append_of_le_length (by simp),List.drop_of_length_le (by simp),List.nil_append,List.take_append_of_le_length (by simp),List.take_of_length_le (by simp)]
 rw [z,Xjj (by omega),Xjj (by omega)] at w
 unfold hd
 omega
theorem XFj {c:XaN} {l:List UInt8} (h:C10 c) (hc:0≤c.Cookie∧c.Cookie<2^64) (hl:l.length≤9000):Xh6 (hd c++l)=(c,l,0):=by
 obtain ⟨⟨a1,a2⟩,a3,a4⟩:=h
 have hlen:=Xxf c
 have hsum:=XOX c
 have tk:(hd c++l).take 18=hd c:=by rw [←hlen];exact List.take_left
 obtain ⟨p1,p2,p3,p4,p5,p6,p7,_,_⟩:=XtJ (a:=[71,85,1]) (b:=be (kd c.V6) 1) (c:=be c.Backend.toNat 2) (d:=be (bt c.First) 1) (e:=be c.Instance.toNat 1) (f:=be (65535 - norm (Xdp (hd0 c))) 2) (g:=be c.Cookie.toNat 8) (r:=l) rfl (by simp) (by simp) (by simp) (by simp) (by simp) (by simp)
 rw [←XE2] at p1 p2 p3 p4 p5 p6 p7
 have k1:kd c.V6<256:=by cases c.V6<;>decide
 have k2:bt c.First<256:=by cases c.First<;>decide
 have v3:b1 (hd c++l) 3=kd c.V6:=by unfold b1;rw [p2,XfI (by omega)]
 have v6:b1 (hd c++l) 6=bt c.First:=by unfold b1;rw [p4,XfI (by omega)]
 have v7:b1 (hd c++l) 7=c.Instance.toNat:=by unfold b1;rw [p5,XfI (by omega)]
 unfold Xh6
 rw [if_neg (by simp;omega),if_neg (by rw [p1];simp),v3,if_neg (by cases c.V6<;>simp [kd]),v6,if_neg (by cases c.First<;>simp [bt]),if_neg (by simp;omega),tk,if_neg (by rw [XiG hsum.1 hsum.2];simp),v7,p3,p6,p7,XfI (by omega),XfI (by omega)]
 obtain ⟨v,b,k,f,i⟩:=c
 simp only at a1 a2 a3 a4 hc ⊢
 rw [Int.toNat_of_nonneg a1,Int.toNat_of_nonneg a3,Int.toNat_of_nonneg hc.1]
 cases v<;>cases f<;>rfl
end Go.Vm.Code
namespace Go.Vm.Code
open Go Go.Vm Go.Proofs
set_option maxRecDepth 100000
set_option maxHeartbeats 4000000
set_option linter.unusedVariables false
def XkE (Xal:XaA) (Xak:XaB) (Xaf:Xaw) (XaJ:Xbp) (Xau:Xba) (Xc5:Xdk) (Xdq:XdN) (Xa5:XbQ) (XaF:Xbv) (Xcp:XcA) (Xcq:XcB) (XaV:XbK) (Xas:Xbk):Option Bool:=
 (Xas (Xah.mk 7 0 ([]:List Xan)) []).bind fun x1=>
 (Xcq (Xah.mk 7 0 x1.2.2.cookies) []).bind fun x11=>
 (Xc5 1).bind fun n=>
 (XaV []).bind fun n1=>
 (Xcp (XbC.mk 0 0 NilMap.mk) []).bind fun x0=>
 (Xal (Xai.mk 0 (Xag.mk false 0 0) (Xag.mk false 0 0) 0 0)).bind fun n2=>
 cond (x1.2.1==2)
  (
  cond (x11.2.1==2)
   (
   cond (n1.2==1)
    (
    cond (x0.2==1)
     (
     cond (!n2.2)
      (
      (XaJ (XbC.mk 0 0 NilMap.mk) (Xai.mk 0 (Xag.mk false 0 0) (Xag.mk false 0 0) 0 0)).bind fun x01=>
      cond (!x01)
       (
       (Xa5).bind fun n3=>
       cond (n3==0)
        (
        some (true))
        (
        some (false)))
       (
       some (false)))
      (
      some (false)))
     (
     some (false)))
    (
    some (false)))
   (
   some (false)))
  (
  some (false))
def rx7 (x:Bool):Xc4:=⟨.bool x,[],[]⟩
abbrev XcN:=Option Bool
def r7 (g:XcN):Dec:=XdY (ofG (g) rx7)
theorem r7_c {g:XcN} {x:Bool} (hx:g=some x):r7 g [] []=some (rx7 x):=Xbc hx
def s7 (g:XcN):Xb3:=⟨[],r7 g⟩
theorem r7_eq {g:XcN} {x:Bool} (hx:g=some x):(s7 g).run [] []=some (rx7 x):=r7_c hx
abbrev sums7 (Xal:XaA) (Xak:XaB) (Xaf:Xaw) (XaJ:Xbp) (Xau:Xba) (Xc5:Xdk) (Xdq:XdN) (Xa5:XbQ) (XaF:Xbv) (Xcp:XcA) (Xcq:XcB) (XaV:XbK) (Xas:Xbk):List (Nat×Xb3):=[(17,s17 Xal Xak Xaf),(14,s14 XaJ Xau),(16,s16 Xc5 Xdq),(19,s19 Xa5 XaF),(12,s12 Xcp Xcq),(10,s10 XaV Xas)]
theorem XSN (Xal:XaA) (Xak:XaB) (Xaf:Xaw) (XaJ:Xbp) (Xau:Xba) (Xc5:Xdk) (Xdq:XdN) (Xa5:XbQ) (XaF:Xbv) (Xcp:XcA) (Xcq:XcB) (XaV:XbK) (Xas:Xbk) (hS:Xar Tryz.prog (XaI (sums7 Xal Xak Xaf XaJ Xau Xc5 Xdq Xa5 XaF Xcp Xcq XaV Xas))) (res:Bool) (h:XkE Xal Xak Xaf XaJ Xau Xc5 Xdq Xa5 XaF Xcp Xcq XaV Xas=some res) :
 XaO Tryz.prog 7 0 ⟨⟨7,80,[],[.code XOK],[],false,none⟩,[],[],0⟩ (fun v H _=>Res 0 (rx7 res) v H):=by
 unfold XkE at h
 have R1:=@XmG XaV Xas
 have R2:=@XCN Xcp Xcq
 have R3:=@XDg Xc5 Xdq
 have R4:=@XFe XaV Xas
 have R5:=@XEI Xcp Xcq
 have R6:=@XBx Xal Xak Xaf
 have R7:=@XCI XaJ Xau
 have R8:=@XEJ Xa5 XaF
 refine XbD XaQ hS true 3000 ?_
 conv=>whnf
 exact W
def XbW:XcN:=XkE Xal Xak Xaf XaJ Xau Xc5 Xdq Xa5 XaF Xcp Xcq XaV Xas
theorem lift7:Xb8 Tryz.prog 7 (s7 XbW):=by
 have hL:=XSN Xal Xak Xaf XaJ Xau Xc5 Xdq Xa5 XaF Xcp Xcq XaV Xas (Xar.Xa6 ⟨Xsj,XOT,XRc,XQt,XT6,XTn,trivial⟩)
 exact okA ⟨Tryz.f7,rfl,by decide,rfl⟩
end Go.Vm.Code
namespace Go.Vm.Code
open Go Go.Vm
theorem XJ1:XbW=some true:=by decide +kernel
theorem XzC {t:Xai} (h:XuH t) (hp:t.Proto=6) {f:Int} (hf:0≤f∧f≤255) {v e:Nat} (hv:v<4294967296) (he:e<4294967296) {l:List UInt8} (hl:l.length≤100):(XpV t f (Xdl v e) l).1.length≤72+l.length:=by
 obtain ⟨g0,_⟩:=XuD h hp hf hv he (l:=l) (by omega)
 unfold XpV at g0 ⊢
 rw [if_neg (by simpa using hp)] at g0 ⊢
 split at g0
 ·rename_i c;exact absurd g0 c
 ·rename_i c
  rw [if_neg c]
  have h1:=(XrF g0).1
  have h2:=XrM ⟨t.SPort,t.DPort,0,0,f,65535,0,Xdl v e⟩ t.Src t.Dst l
  simp only [Xzy] at h2
  cases hv:t.Src.V6<;>simp only [hv,cond_true,cond_false] at h1<;>omega
def XoX (t:Xai) (c:Int) (f:Bool):XaN:=⟨t.Src.V6,7,c,f,0⟩
theorem XAw {t:Xai} {c:Int} {f:Bool} {l:List UInt8} (hc:0≤c∧c<2^64) (hl:l.length≤9000):(Xp0 (XoX t c f) l).2=0∧Xh6 (Xp0 (XoX t c f) l).1=(XoX t c f,l,0)∧(Xp0 (XoX t c f) l).1.length=18+l.length:=by
 have hC:C10 (XoX t c f):=⟨by simp only [XoX];omega,by simp only [XoX];omega⟩
 have e:Xp0 (XoX t c f) l=(hd (XoX t c f)++l,0):=by
  unfold Xp0
  rw [if_neg (by simpa using hC),if_neg (by omega)]
 rw [e]
 exact ⟨rfl,XFj hC hc hl,by simp [Xxf]⟩
theorem XBW {k c:Int} {m:List Xan} {t:Xai} {f:Bool} {l:List UInt8} {fl v e n:Int} {a b:Nat} (hc:0≤c∧c<2^64) (hl:l.length<800) (ht:Xbz l=(⟨t,fl,true,v,e,false,[],n⟩,a,b,0)) :
 Xas ⟨7,k,m⟩ (Xp0 (XoX t c f) l).1=some (if (XfW m t (XoX t c f)).1≠0 then [] else XpZ l 4 (Xqa k e),(XfW m t (XoX t c f)).1,⟨7,k,(XfW m t (XoX t c f)).2⟩):=by
 obtain ⟨_,g,gl⟩:=XAw (t:=t) (f:=f) hc (l:=l) (by omega)
 rw [Xw5 (by omega)]
 unfold Xsd
 rw [g,if_neg (by simp),if_neg (by simp [XoX]),ht,if_neg (by simp)]
 simp only []
 have hin:XM6 l k=(XpZ l 4 (Xqa k e),0):=by
  unfold XM6
  rw [ht];rfl
 by_cases h4:(XfW m t (XoX t c f)).1≠0
 ·rw [if_pos h4,if_pos h4]
 ·have h5:(XfW m t (XoX t c f)).1=0:=by simpa using h4
  rw [if_neg h4,if_neg h4,if_pos trivial,hin,h5]
end Go.Vm.Code
namespace Go.Vm.Code
open Go Go.Vm Go.Proofs
set_option maxRecDepth 100000
set_option maxHeartbeats 4000000
set_option linter.unusedVariables false
def Xif (XdC:Xee) (XhZ:Xg5) (XdO:Xeg) (t:Xai) (cookie:Int) (first:Bool):Option (List UInt8):=
 (XdC 1 2).bind fun s=>
 (XdO t 16 s []).bind fun s1=>
 (XhZ (XaN.mk t.Src.V6 7 cookie first 0) s1.1).bind fun p=>
 some (p.1)
def rx26 (x:List UInt8):Xc4:=⟨.string ⟨⟨x⟩⟩,[],[]⟩
abbrev Xcr:=Xai→Int→Bool→Option (List UInt8)
def r26 (g:Xcr):Dec:=dV XdQ fun (y0:Xai)=>dV (asI .u64) fun (y1:Int)=>dV asB fun (y2:Bool)=>XdY (ofG (g y0 y1 y2) rx26)
theorem r26_c {g:Xcr} {y0:Xai} {y1:Int} {y2:Bool} {x:List UInt8} (hx:g y0 y1 y2=some x):r26 g [.agg ⟨[.int .i64 y0.Proto,.bool y0.Src.V6,.int .u64 y0.Src.Hi,.int .u64 y0.Src.Lo,.bool y0.Dst.V6,.int .u64 y0.Dst.Hi,.int .u64 y0.Dst.Lo,.int .i64 y0.SPort,.int .i64 y0.DPort]⟩,.int .u64 y1,.bool y2] []=some (rx26 x):=(Xbb (XdT _)).trans ((Xbb (Xdo _)).trans ((Xbb (XIN)).trans (Xbc hx)))
def s26 (g:Xcr):Xb3:=⟨[.v,.v,.v],r26 g⟩
theorem Xvh {g:Xcr} {y0:Xai} {y1:Int} {y2:Bool} {x:List UInt8} (hx:g y0 y1 y2=some x):(s26 g).run [.agg ⟨[.int .i64 y0.Proto,.bool y0.Src.V6,.int .u64 y0.Src.Hi,.int .u64 y0.Src.Lo,.bool y0.Dst.V6,.int .u64 y0.Dst.Hi,.int .u64 y0.Dst.Lo,.int .i64 y0.SPort,.int .i64 y0.DPort]⟩,.int .u64 y1,.bool y2] []=some (rx26 x):=r26_c hx
abbrev XQ5 (XdC:Xee) (XhZ:Xg5) (XdO:Xeg):List (Nat×Xb3):=[(22,s22 XdC),(23,s23 XhZ),(21,s21 XdO)]
theorem XID (XdC:Xee) (XhZ:Xg5) (XdO:Xeg) (hS:Xar Tryz.prog (XaI (XQ5 XdC XhZ XdO))) (t:Xai) (cookie:Int) (first:Bool) (res:List UInt8) (h:Xif XdC XhZ XdO t cookie first=some res) :
 XaO Tryz.prog 26 0 ⟨⟨26,29,[(0,.agg ⟨[.int .i64 t.Proto,.bool t.Src.V6,.int .u64 t.Src.Hi,.int .u64 t.Src.Lo,.bool t.Dst.V6,.int .u64 t.Dst.Hi,.int .u64 t.Dst.Lo,.int .i64 t.SPort,.int .i64 t.DPort]⟩),(1,.int .u64 cookie),(2,.bool first)],[.code XN7],[],false,none⟩,[],[],0⟩ (fun v H _=>Res 0 (rx26 res) v H):=by
 unfold Xif at h
 have R1:=@XPH XdC
 have R2:=@XPL XdO
 have R3:=@XQV XhZ
 refine XbD XaQ hS true 3000 ?_
 conv=>whnf
 exact W
def XaL:Xcr:=Xif XdC XhZ XdO
theorem lift26:Xb8 Tryz.prog 26 (s26 XaL):=by
 have hL:=XID XdC XhZ XdO (Xar.Xa6 ⟨XOa,XNE,XSM,trivial⟩)
 exact okA ⟨Tryz.f26,rfl,by decide,rfl⟩
def XlU (six:Bool) (i:Int):Option Xai:=
 some (Xai.mk 6 (Xag.mk six 0 1) (Xag.mk six 0 2) i 80)
def rx27 (x:Xai):Xc4:=⟨.agg ⟨[.int .i64 x.Proto,.bool x.Src.V6,.int .u64 x.Src.Hi,.int .u64 x.Src.Lo,.bool x.Dst.V6,.int .u64 x.Dst.Hi,.int .u64 x.Dst.Lo,.int .i64 x.SPort,.int .i64 x.DPort]⟩,[],[]⟩
abbrev Xdd:=Bool→Int→Option Xai
def r27 (g:Xdd):Dec:=dV asB fun (y0:Bool)=>dV (asI .i64) fun (y1:Int)=>XdY (ofG (g y0 y1) rx27)
theorem r27_c {g:Xdd} {y0:Bool} {y1:Int} {x:Xai} (hx:g y0 y1=some x):r27 g [.bool y0,.int .i64 y1] []=some (rx27 x):=(Xbb (XIN)).trans ((Xbb (Xdo _)).trans (Xbc hx))
def s27 (g:Xdd):Xb3:=⟨[.v,.v],r27 g⟩
theorem Xp8 {g:Xdd} {y0:Bool} {y1:Int} {x:Xai} (hx:g y0 y1=some x):(s27 g).run [.bool y0,.int .i64 y1] []=some (rx27 x):=r27_c hx
abbrev XPT:List (Nat×Xb3):=[]
theorem XI5 (hS:Xar Tryz.prog (XaI (XPT))) (six:Bool) (i:Int) (res:Xai) (h:XlU six i=some res) :
 XaO Tryz.prog 27 0 ⟨⟨27,11,[(0,.bool six),(1,.int .i64 i)],[.code XOS],[],false,none⟩,[],[],0⟩ (fun v H _=>Res 0 (rx27 res) v H):=by
 unfold XlU at h
 refine XbD XaQ hS true 3000 ?_
 conv=>whnf
 exact W
def Xa3:Xdd:=XlU
theorem lift27:Xb8 Tryz.prog 27 (s27 Xa3):=by
 have hL:=XI5 (Xar.Xa6 trivial)
 exact okA ⟨Tryz.f27,rfl,by decide,rfl⟩
def Xel (XbW:XcN) (XaL:Xcr) (Xa3:Xdd) (Xaf:Xaw) (Xau:Xba) (XaF:Xbv) (Xas:Xbk) (six:Bool) (first:Bool) (cookie:Int) (other:Int) (ata4:Int) (i1:Int) (c4:List Xan):Option (Sum (Int×(List Xan)) Bool):=
 cond (decide (i1<64))
  (
  (Xa3 six i1).bind fun f4=>
  (Xaf (Xah.mk 7 0 c4) f4).bind fun x16=>
  cond (!x16.2.1)
   (
   some (.inr (false)))
   (
   let t:=x16.1 !=(wI .u64 (cookie+(wI .u64 i1)))
   cond (t)
    (
    some (.inr (false)))
    (
    some (.inl (wI .i64 (i1+1),x16.2.2.cookies)))))
  (
  (Xa3 six ((wI .i64 ata4).tmod 64)).bind fun f5=>
  (XaL f5 other false).bind fun c5=>
  (Xas (Xah.mk 7 0 c4) c5).bind fun x17=>
  (Xa3 six ((wI .i64 ata4).tmod 64)).bind fun f6=>
  (Xaf (Xah.mk 7 0 x17.2.2.cookies) f6).bind fun x18=>
  (Xa3 six ((wI .i64 ata4).tmod 64)).bind fun f7=>
  (XaL f7 other true).bind fun c6=>
  (Xas (Xah.mk 7 0 x18.2.2.cookies) c6).bind fun x19=>
  (Xa3 six ((wI .i64 ata4).tmod 64)).bind fun f8=>
  (Xaf (Xah.mk 7 0 x19.2.2.cookies) f8).bind fun x110=>
  cond (x17.2.1 !=0)
   (
   some (.inr (false)))
   (
   cond (!x18.2.1)
    (
    some (.inr (false)))
    (
    let t1:=wI .u64 (cookie+(wI .u64 ((wI .i64 ata4).tmod 64)))
    cond (x18.1 !=t1)
     (
     some (.inr (false)))
     (
     cond (x19.2.1 !=0)
      (
      some (.inr (false)))
      (
      cond (!x110.2.1)
       (
       some (.inr (false)))
       (
       cond (x110.1 !=other)
        (
        some (.inr (false)))
        (
        (XaF (Xah.mk 7 0 x110.2.2.cookies)).bind fun x111=>
        cond (x111.1 !=64)
         (
         some (.inr (false)))
         (
         (Xa3 six ((wI .i64 ata4).tmod 64)).bind fun f9=>
         (Xau (Xah.mk 7 0 x111.2.cookies) f9).bind fun x112=>
         cond (x112.1)
          (
          (Xa3 six ((wI .i64 ata4).tmod 64)).bind fun f10=>
          (Xau (Xah.mk 7 0 x112.2.cookies) f10).bind fun x113=>
          cond (!x113.1)
           (
           (XaF (Xah.mk 7 0 x113.2.cookies)).bind fun x114=>
           (Xa3 six 100).bind fun f11=>
           (XaL f11 other first).bind fun c7=>
           (Xas (Xah.mk 7 0 x114.2.cookies) c7).bind fun x115=>
           (Xa3 six 100).bind fun f12=>
           (Xaf (Xah.mk 7 0 x115.2.2.cookies) f12).bind fun x116=>
           (Xa3 six ((wI .i64 ata4).tmod 64)).bind fun f13=>
           (XaL f13 other first).bind fun c8=>
           (Xas (Xah.mk 7 0 x116.2.2.cookies) c8).bind fun x117=>
           cond (x114.1==63)
            (
            cond (x115.2.1==0)
             (
             cond (x116.2.1)
              (
              cond (x116.1==other)
               (
               cond (x117.2.1==9)
                (
                (XbW).bind fun a=>
                some (.inr (a)))
                (
                some (.inr (false))))
               (
               some (.inr (false))))
              (
              some (.inr (false))))
             (
             some (.inr (false))))
            (
            some (.inr (false))))
           (
           (Xa3 six 100).bind fun f14=>
           (XaL f14 other first).bind fun c9=>
           (Xas (Xah.mk 7 0 x113.2.cookies) c9).bind fun x118=>
           (Xa3 six 100).bind fun f15=>
           (Xaf (Xah.mk 7 0 x118.2.2.cookies) f15).bind fun x119=>
           (Xa3 six ((wI .i64 ata4).tmod 64)).bind fun f16=>
           (XaL f16 other first).bind fun c10=>
           (Xas (Xah.mk 7 0 x119.2.2.cookies) c10).bind fun x120=>
           some (.inr (false))))
          (
          (Xa3 six 100).bind fun f17=>
          (XaL f17 other first).bind fun c11=>
          (Xas (Xah.mk 7 0 x112.2.cookies) c11).bind fun x121=>
          (Xa3 six 100).bind fun f18=>
          (Xaf (Xah.mk 7 0 x121.2.2.cookies) f18).bind fun x122=>
          (Xa3 six ((wI .i64 ata4).tmod 64)).bind fun f19=>
          (XaL f19 other first).bind fun c12=>
          (Xas (Xah.mk 7 0 x122.2.2.cookies) c12).bind fun x123=>
          some (.inr (false)))))))))))
def Xfh (XbW:XcN) (XaL:Xcr) (Xa3:Xdd) (Xaf:Xaw) (Xau:Xba) (XaF:Xbv) (Xas:Xbk) (six:Bool) (first:Bool) (cookie:Int) (other:Int) (ata4:Int) (i:Int) (c:List Xan):Option (Sum (Int×(List Xan)) Bool):=
 cond (decide (i<64))
  (
  (Xa3 six i).bind fun f=>
  (XaL f (wI .u64 (cookie+(wI .u64 i))) first).bind fun c1=>
  (Xas (Xah.mk 7 0 c) c1).bind fun x1=>
  cond (x1.2.1 !=0)
   (
   some (.inr (false)))
   (
   (XaF (Xah.mk 7 0 x1.2.2.cookies)).bind fun x11=>
   cond (x11.1 !=(wI .i64 (i+1)))
    (
    some (.inr (false)))
    (
    some (.inl (wI .i64 (i+1),x11.2.cookies)))))
  (
  (Xa3 six 100).bind fun f1=>
  (XaL f1 other true).bind fun c2=>
  (Xas (Xah.mk 7 0 c) c2).bind fun x12=>
  (Xa3 six 100).bind fun f2=>
  (XaL f2 other false).bind fun c3=>
  (Xas (Xah.mk 7 0 x12.2.2.cookies) c3).bind fun x13=>
  (Xa3 six 100).bind fun f3=>
  (Xaf (Xah.mk 7 0 x13.2.2.cookies) f3).bind fun x14=>
  cond (x12.2.1 !=9)
   (
   some (.inr (false)))
   (
   cond (x13.2.1 !=9)
    (
    some (.inr (false)))
    (
    cond (x14.2.1)
     (
     some (.inr (false)))
     (
     (XaF (Xah.mk 7 0 x14.2.2.cookies)).bind fun x15=>
     cond (x15.1 !=64)
      (
      some (.inr (false)))
      (
      (iter (fun st=>Xel XbW XaL Xa3 Xaf Xau XaF Xas six first cookie other ata4 st.1 st.2) FUEL (0,x15.2.cookies)).bind fun o=>some (.inr (o)))))))
def XhA (XbW:XcN) (XaL:Xcr) (Xa3:Xdd) (Xal:XaA) (Xak:XaB) (Xaf:Xaw) (XaJ:Xbp) (Xau:Xba) (Xa5:XbQ) (XaF:Xbv) (XaV:XbK) (Xas:Xbk) (six:Bool) (first:Bool) (cookie:Int) (other:Int) (ata4:Int):Option Bool:=
 iter (fun st=>Xfh XbW XaL Xa3 Xaf Xau XaF Xas six first cookie other ata4 st.1 st.2) FUEL (0,([]:List Xan))
def rx5 (x:Bool):Xc4:=⟨.bool x,[],[]⟩
abbrev XhT:=Bool→Bool→Int→Int→Int→Option Bool
def r5 (g:XhT):Dec:=dV asB fun (y0:Bool)=>dV asB fun (y1:Bool)=>dV (asI .u64) fun (y2:Int)=>dV (asI .u64) fun (y3:Int)=>dV (asI .u8) fun (y4:Int)=>XdY (ofG (g y0 y1 y2 y3 y4) rx5)
def s5 (g:XhT):Xb3:=⟨[.v,.v,.v,.v,.v],r5 g⟩
abbrev XMT (XbW:XcN) (XaL:Xcr) (Xa3:Xdd) (Xal:XaA) (Xak:XaB) (Xaf:Xaw) (XaJ:Xbp) (Xau:Xba) (Xa5:XbQ) (XaF:Xbv) (XaV:XbK) (Xas:Xbk):List (Nat×Xb3):=[(7,s7 XbW),(26,s26 XaL),(27,s27 Xa3),(17,s17 Xal Xak Xaf),(14,s14 XaJ Xau),(19,s19 Xa5 XaF),(10,s10 XaV Xas)]
def Xpn (six:Bool) (first:Bool) (cookie:Int) (other:Int) (ata4:Int) (i1:Int) (c4:List Xan):VM:=
 ⟨⟨5,268,[(0,.bool six),(1,.bool first),(2,.int .u64 cookie),(3,.int .u64 other),(11,.pointer (some ⟨1,0,none⟩)),(15,.int .i64 ((wI .i64 ata4).tmod 64)),(22,.int .i64 i1)],[.code XMX,.inLoop XMX,.inBlock 2,.code XT8],[],false,none⟩,[],[(0,.mp (vT XaC c4)),(1,.cells [.int .i64 7,.int .u32 0,.map (some 0)])],2⟩
def XpF (six:Bool) (first:Bool) (cookie:Int) (other:Int) (ata4:Int) (i:Int) (c:List Xan):VM:=
 ⟨⟨5,268,[(0,.bool six),(1,.bool first),(2,.int .u64 cookie),(3,.int .u64 other),(4,.int .u8 ata4),(11,.pointer (some ⟨1,0,none⟩)),(12,.int .i64 i)],[.code XL5,.inLoop XL5,.inBlock 0,.code XP0],[],false,none⟩,[],[(0,.mp (vT XaC c)),(1,.cells [.int .i64 7,.int .u32 0,.map (some 0)])],2⟩
theorem XLf (XbW:XcN) (XaL:Xcr) (Xa3:Xdd) (Xal:XaA) (Xak:XaB) (Xaf:Xaw) (XaJ:Xbp) (Xau:Xba) (Xa5:XbQ) (XaF:Xbv) (XaV:XbK) (Xas:Xbk) (hS:Xar Tryz.prog (XaI (XMT XbW XaL Xa3 Xal Xak Xaf XaJ Xau Xa5 XaF XaV Xas))) (six:Bool) (first:Bool) (cookie:Int) (other:Int) (ata4:Int) (res:Bool):∀ fuel (st:Int×(List Xan)) (o:Bool),iter (fun st=>Xel XbW XaL Xa3 Xaf Xau XaF Xas six first cookie other ata4 st.1 st.2) fuel st=some o→(o=res) →
 XaO Tryz.prog 5 0 (Xpn six first cookie other ata4 st.1 st.2) (fun v H _=>Res 0 (rx5 res) v H):=by
 intro fuel st o h hc
 refine Xdh (head:=fun st=>Xpn six first cookie other ata4 st.1 st.2) (C:=fun o=>(o=res)) ?_ fuel st o h hc
 clear h hc o st fuel
 intro st o h hc
 obtain ⟨i1,c4⟩:=st
 replace h:Xel XbW XaL Xa3 Xaf Xau XaF Xas six first cookie other ata4 i1 c4=some o:=h
 show XaO Tryz.prog 5 0 (Xpn six first cookie other ata4 i1 c4) (fun v H _=>Res 0 (rx5 res) v H)
 unfold Xel at h
 have R1:=@Xp8 Xa3
 have R2:=@Xvh XaL
 have R3:=@XmG XaV Xas
 have R4:=@XmC Xal Xak Xaf
 have R5:=@Xrw Xa5 XaF
 have R6:=@XD6 XaJ Xau
 have R7:=@r7_eq XbW
 refine XbD XaQ hS true 3000 ?_
 conv=>whnf
 refine br.h h (by rfl) ?_ ?_
 ·clear h;intro hb h;conv=>whnf
  replace h:=Xdj.elim h;obtain ⟨f4,hy,h⟩:=h
  refine XfS.a (Xp8 hy) ?_
  conv=>whnf
  replace h:=Xdj.elim h;obtain ⟨x16,hy,h⟩:=h
  refine XfS.a (XmC hy) ?_
  conv=>whnf
  refine br.h h (by rfl) ?_ ?_
  ·clear h;intro hb h;conv=>whnf
   exact W
  clear h;intro hb h;conv=>whnf
  let t:Bool:=x16.1 !=(wI .u64 (cookie+(wI .u64 i1)))
  refine br.h h (by rfl) ?_ ?_
  ·clear h;intro hb h;conv=>whnf
   exact W
  clear h;intro hb h;conv=>whnf
  cases h;simp only [Sum.elim_inl,Xpn] at hc
  exact Xn8 hc [(0,0),(1,1)] rfl
 clear h;intro hb h;conv=>whnf
 exact W
theorem XIX (XbW:XcN) (XaL:Xcr) (Xa3:Xdd) (Xal:XaA) (Xak:XaB) (Xaf:Xaw) (XaJ:Xbp) (Xau:Xba) (Xa5:XbQ) (XaF:Xbv) (XaV:XbK) (Xas:Xbk) (hS:Xar Tryz.prog (XaI (XMT XbW XaL Xa3 Xal Xak Xaf XaJ Xau Xa5 XaF XaV Xas))) (six:Bool) (first:Bool) (cookie:Int) (other:Int) (ata4:Int) (res:Bool):∀ fuel (st:Int×(List Xan)) (o:Bool),iter (fun st=>Xfh XbW XaL Xa3 Xaf Xau XaF Xas six first cookie other ata4 st.1 st.2) fuel st=some o→(o=res) →
 XaO Tryz.prog 5 0 (XpF six first cookie other ata4 st.1 st.2) (fun v H _=>Res 0 (rx5 res) v H):=by
 intro fuel st o h hc
 refine Xdh (head:=fun st=>XpF six first cookie other ata4 st.1 st.2) (C:=fun o=>(o=res)) ?_ fuel st o h hc
 clear h hc o st fuel
 intro st o h hc
 obtain ⟨i,c⟩:=st
 replace h:Xfh XbW XaL Xa3 Xaf Xau XaF Xas six first cookie other ata4 i c=some o:=h
 show XaO Tryz.prog 5 0 (XpF six first cookie other ata4 i c) (fun v H _=>Res 0 (rx5 res) v H)
 unfold Xfh at h
 refine XbD XaQ hS true 3000 ?_
 conv=>whnf
 refine br.h h (by rfl) ?_ ?_
 ·clear h;intro hb h;conv=>whnf
  replace h:=Xdj.elim h;obtain ⟨f,hy,h⟩:=h
  refine XfS.a (Xp8 hy) ?_
  conv=>whnf
  replace h:=Xdj.elim h;obtain ⟨c1,hy,h⟩:=h
  refine XfS.a (Xvh hy) ?_
  conv=>whnf
  replace h:=Xdj.elim h;obtain ⟨x1,hy,h⟩:=h
  refine XfS.a (XmG hy) ?_
  conv=>whnf
  refine br.h h (by rfl) ?_ ?_
  ·clear h;intro hb h;conv=>whnf
   exact W
  clear h;intro hb h;conv=>whnf
  replace h:=Xdj.elim h;obtain ⟨x11,hy,h⟩:=h
  refine XfS.a (Xrw hy) ?_
  conv=>whnf
  refine br.h h (by rfl) ?_ ?_
  ·clear h;intro hb h;conv=>whnf
   exact W
  clear h;intro hb h;conv=>whnf
  cases h;simp only [Sum.elim_inl,XpF] at hc
  exact Xn8 hc [(0,0),(1,1)] rfl
 clear h;intro hb h;conv=>whnf
 replace h:=Xdj.elim h;obtain ⟨f1,hy,h⟩:=h
 refine XfS.a (Xp8 hy) ?_
 conv=>whnf
 replace h:=Xdj.elim h;obtain ⟨c2,hy,h⟩:=h
 refine XfS.a (Xvh hy) ?_
 conv=>whnf
 replace h:=Xdj.elim h;obtain ⟨x12,hy,h⟩:=h
 refine XfS.a (XmG hy) ?_
 conv=>whnf
 replace h:=Xdj.elim h;obtain ⟨f2,hy,h⟩:=h
 refine XfS.a (Xp8 hy) ?_
 conv=>whnf
 replace h:=Xdj.elim h;obtain ⟨c3,hy,h⟩:=h
 refine XfS.a (Xvh hy) ?_
 conv=>whnf
 replace h:=Xdj.elim h;obtain ⟨x13,hy,h⟩:=h
 refine XfS.a (XmG hy) ?_
 conv=>whnf
 replace h:=Xdj.elim h;obtain ⟨f3,hy,h⟩:=h
 refine XfS.a (Xp8 hy) ?_
 conv=>whnf
 replace h:=Xdj.elim h;obtain ⟨x14,hy,h⟩:=h
 refine XfS.a (XmC hy) ?_
 conv=>whnf
 refine br.h h (by rfl) ?_ ?_
 ·clear h;intro hb h;conv=>whnf
  exact W
 clear h;intro hb h;conv=>whnf
 refine br.h h (by rfl) ?_ ?_
 ·clear h;intro hb h;conv=>whnf
  exact W
 clear h;intro hb h;conv=>whnf
 refine br.h h (by rfl) ?_ ?_
 ·clear h;intro hb h;conv=>whnf
  exact W
 clear h;intro hb h;conv=>whnf
 replace h:=Xdj.elim h;obtain ⟨x15,hy,h⟩:=h
 refine XfS.a (Xrw hy) ?_
 conv=>whnf
 refine br.h h (by rfl) ?_ ?_
 ·clear h;intro hb h;conv=>whnf
  exact W
 clear h;intro hb h;conv=>whnf
 obtain ⟨y,hy,h2⟩:=Xdj.elim h;cases h2
 have hl:=XLf XbW XaL Xa3 Xal Xak Xaf XaJ Xau Xa5 XaF XaV Xas hS _ _ _ _ _ res _ _ _ hy hc;simp only [Xpn] at hl
 exact Xn8 hl [(0,0),(1,1)] rfl
theorem leads5 (XbW:XcN) (XaL:Xcr) (Xa3:Xdd) (Xal:XaA) (Xak:XaB) (Xaf:Xaw) (XaJ:Xbp) (Xau:Xba) (Xa5:XbQ) (XaF:Xbv) (XaV:XbK) (Xas:Xbk) (hS:Xar Tryz.prog (XaI (XMT XbW XaL Xa3 Xal Xak Xaf XaJ Xau Xa5 XaF XaV Xas))) (six:Bool) (first:Bool) (cookie:Int) (other:Int) (ata4:Int) (res:Bool) (h:XhA XbW XaL Xa3 Xal Xak Xaf XaJ Xau Xa5 XaF XaV Xas six first cookie other ata4=some res) :
 XaO Tryz.prog 5 0 ⟨⟨5,268,[(0,.bool six),(1,.bool first),(2,.int .u64 cookie),(3,.int .u64 other),(4,.int .u8 ata4)],[.code XRC],[],false,none⟩,[],[],0⟩ (fun v H _=>Res 0 (rx5 res) v H):=by
 unfold XhA at h
 refine XbD XaQ hS true 3000 ?_
 conv=>whnf
 have hl:=XIX XbW XaL Xa3 Xal Xak Xaf XaJ Xau Xa5 XaF XaV Xas hS _ _ _ _ _ res _ _ _ h rfl;simp only [XpF] at hl
 exact Xn8 hl [(0,0),(1,1)] rfl
def XlH:XhT:=XhA XbW XaL Xa3 Xal Xak Xaf XaJ Xau Xa5 XaF XaV Xas
end Go.Vm.Code
namespace Go.Vm.Code
open Go Go.Vm
def Xh0 (six:Bool) (i:Int):Xai:=⟨6,⟨six,0,1⟩,⟨six,0,2⟩,i,80⟩
theorem XrG (six:Bool) (i:Int):Xa3 six i=some (Xh0 six i):=rfl
theorem XzB {six:Bool} {i:Int} (h:0≤i∧i≤65535):XuH (Xh0 six i):=by
 refine ⟨?_,?_,?_,?_,rfl,h,by simp only [Xh0];omega⟩
 ·exact ⟨by simp only [Xh0];omega,by simp only [Xh0];omega,by simp only [Xh0];omega,by simp only [Xh0];omega⟩
 ·exact ⟨by simp only [Xh0];omega,by simp only [Xh0];omega,by simp only [Xh0];omega,by simp only [Xh0];omega⟩
 ·cases six<;>rfl
 ·cases six<;>rfl
theorem Xvf {six:Bool} {i j:Int} (h:Xh0 six i=Xh0 six j):i=j:=congrArg Xai.SPort h
def sg37 (t:Xai):List UInt8:=(XpV t 16 (Xdl 1 2) []).1
theorem XjP {six:Bool} {i c:Int} {f:Bool} (h:0≤i∧i≤65535) (hc:0≤c∧c<2^64):XaL (Xh0 six i) c f=some (Xp0 (XoX (Xh0 six i) c f) (sg37 (Xh0 six i))).1:=by
 have hg:=XzB (six:=six) h
 have hs:XdC 1 2=some (Xdl 1 2):=XIa (v:=1) (e:=2) (by omega) (by omega)
 unfold XaL Xif
 rw [hs,Option.bind_some,Xxq hg.src hg.dst (by rw [Xzy];decide) (by decide),Option.bind_some,XzK (c:=⟨(Xh0 six i).Src.V6,7,c,f,0⟩) hc]
 rfl
theorem Xl9 {six:Bool} {i c:Int} {f:Bool} (h:0≤i∧i≤65535) (hc:0≤c∧c<2^64) (m:List Xan):∃ o,Xas ⟨7,0,m⟩ (Xp0 (XoX (Xh0 six i) c f) (sg37 (Xh0 six i))).1=some (o,(XfW m (Xh0 six i) (XoX (Xh0 six i) c f)).1,⟨7,0,(XfW m (Xh0 six i) (XoX (Xh0 six i) c f)).2⟩):=by
 have hg:=XzB (six:=six) h
 obtain ⟨_,_,n,a,b,ht⟩:=XuD hg rfl (f:=16) (by omega) (v:=1) (e:=2) (by omega) (by omega) (l:=[]) (by simp)
 have hl:=XzC hg rfl (f:=16) (by omega) (v:=1) (e:=2) (by omega) (by omega) (l:=[]) (by simp)
 simp only [List.length_nil] at hl
 exact ⟨_,XBW (l:=sg37 (Xh0 six i)) hc (by unfold sg37;omega) ht⟩
theorem XuA {m:List Xan} {t:Xai} {c:XaN} (h:t ∉ Xho m) (hl:m.length≠64):XfW m t c=(0,XaM t c.Cookie m):=by
 unfold XfW;rw [if_neg (by rw [Xhs];exact h),if_neg hl]
theorem XsJ {m:List Xan} {t:Xai} {c:XaN} (h:t ∉ Xho m) (hl:m.length=64):XfW m t c=(9,m):=by
 unfold XfW;rw [if_neg (by rw [Xhs];exact h),if_pos hl]
theorem XD9 {m:List Xan} {t:Xai} {c:XaN} (h:t∈Xho m) (hf:c.First=false):XfW m t c=(0,m):=by
 unfold XfW;rw [if_pos (Xhs.2 h),if_neg (by simp [hf])]
theorem Xwf {m:List Xan} {t:Xai} {c:XaN} (h:t∈Xho m) (hf:c.First=true):XfW m t c=(0,XaM t c.Cookie m):=by
 unfold XfW;rw [if_pos (Xhs.2 h),if_pos hf]
def XyQ (cookie:Int) (i:Int):Int:=wI .u64 (cookie+(wI .u64 i))
theorem XTQ (c i:Int):0≤XyQ c i∧XyQ c i<2^64:=by
 have:XyQ c i=(c+wI .u64 i)%18446744073709551616:=rfl
 omega
structure Kept (six:Bool) (cookie:Int) (i:Nat) (m:List Xan):Prop where
 keys:Xho m=(List.range i).map fun j:Nat=>Xh0 six (j:Int)
 vals:∀ j:Nat,j<i→XbZ 0 (Xh0 six (j:Int)) m=XyQ cookie (j:Int)
theorem Kept.mem {six:Bool} {cookie:Int} {i:Nat} {m:List Xan} (h:Kept six cookie i m) {k:Int}:Xh0 six k∈Xho m↔0≤k∧k<i:=by
 rw [h.keys,List.mem_map]
 constructor
 ·rintro ⟨j,hj,e⟩
  have:=Xvf e
  rw [List.mem_range] at hj
  omega
 ·rintro ⟨a,b⟩
  exact ⟨k.toNat,List.mem_range.2 (by omega),by rw [Int.toNat_of_nonneg a]⟩
theorem Kept.len {six:Bool} {cookie:Int} {i:Nat} {m:List Xan} (h:Kept six cookie i m):m.length=i:=by
 have:=congrArg List.length h.keys
 simpa [Xho] using this
theorem Kept.nodup {six:Bool} {cookie:Int} {i:Nat} {m:List Xan} (h:Kept six cookie i m):(Xho m).Nodup:=by
 rw [h.keys]
 refine List.Pairwise.map _ (fun a b hab e=>hab ?_) List.nodup_range
 have:=Xvf e
 omega
theorem Kept.more {six:Bool} {cookie:Int} {i:Nat} {m:List Xan} (h:Kept six cookie i m):Kept six cookie (i+1) (XaM (Xh0 six (i:Int)) (XyQ cookie (i:Int)) m):=by
 have hn:Xh0 six (i:Int) ∉ Xho m:=by rw [h.mem];omega
 refine ⟨?_,fun j hj=>?_⟩
 ·rw [XmA hn,List.range_succ,List.map_append,←h.keys];simp [Xho]
 ·by_cases e:j=i
  ·subst e;exact Xoh
  ·rw [Xqw (fun e2=>e (by have:=Xvf e2;omega))];exact h.vals j (by omega)
theorem XIY {six first:Bool} {cookie other at4:Int} (ho:0≤other∧other<2^64) (ha:0≤at4∧at4≤255) {m:List Xan} (hm:Kept six cookie 64 m) :
 iter (fun st=>Xel XbW XaL Xa3 Xaf Xau XaF Xas six first cookie other at4 st.1 st.2) FUEL (0,m)=some true:=by
 refine iter_eq (fun _=>true) (fun st:Int×List Xan=>∃ i:Nat,i≤64∧st=((i:Int),m)) (fun st=>65 - st.1.toNat) ?_ FUEL _ ⟨0,by omega,rfl⟩ (by rw [XgR];simp only [];omega)
 rintro st ⟨i,hi,rfl⟩
 simp only []
 unfold Xel
 by_cases c:i<64
 ·have hw:wI .i64 ((i:Int)+1)=((i+1:Nat):Int):=by rw [Xe0 (by omega) (by omega)];rfl
  refine .inr ⟨(((i+1:Nat):Int),m),?_,⟨i+1,by omega,rfl⟩,by simp only [];omega,trivial⟩
  rw [XbB (by omega),XrG,Option.bind_some,Xi9,Option.bind_some]
  simp only []
  rw [Xhs.2 (hm.mem.2 ⟨by omega,by omega⟩),Bool.not_true,cond_false,hm.vals i c,show (XyQ cookie (i:Int) !=wI .u64 (cookie+wI .u64 (i:Int)))=false from bne_self_eq_false' ..,cond_false,hw]
 ·refine .inl ?_
  have hk:(wI .i64 at4).tmod 64=at4%64:=by rw [Xe0 (by omega) (by omega),Int.tmod_eq_emod_of_nonneg ha.1]
  have hk2:0≤at4%64∧at4%64<64:=by omega
  generalize at4%64=k at hk hk2
  have kk:0≤k∧k≤65535:=by omega
  have hml:=hm.len
  have hmem:Xh0 six k∈Xho m:=hm.mem.2 ⟨hk2.1,by omega⟩
  obtain ⟨k',rfl⟩:=Int.eq_ofNat_of_zero_le hk2.1
  have n100:∀ {j:Int},j<64→Xh0 six 100≠Xh0 six j:=fun hj e=>by have:=Xvf e;omega
  rw [Xbd (by omega),hk]
  simp only [XrG,Option.bind_some]
  obtain ⟨o1,t1⟩:=Xl9 (six:=six) (f:=false) kk ho m
  rw [XD9 hmem rfl] at t1
  obtain ⟨o2,t2⟩:=Xl9 (six:=six) (f:=true) kk ho m
  rw [Xwf hmem rfl] at t2
  have hc1:(XoX (Xh0 six (k':Int)) other true).Cookie=other:=rfl
  rw [hc1] at t2
  simp only [XjP kk ho,Option.bind_some,t1,Xi9]
  rw [t2]
  simp only [Option.bind_some,Xi9]
  have h2:Xh0 six (k':Int)∈Xho (XaM (Xh0 six (k':Int)) other m):=Xq8.2 (.inl rfl)
  have hn2:=Xv8 (t:=Xh0 six (k':Int)) (v:=other) hm.nodup
  have hl2:=XBq (v:=other) hmem
  have hk3:∀ u,u∈Xho (XaM (Xh0 six (k':Int)) other m)↔u∈Xho m:=fun u=>by rw [XkL hmem]
  rw [hm.vals k' (by omega),Xhs.2 hmem,Xhs.2 h2,Xoh]
  generalize XaM (Xh0 six (k':Int)) other m=m2 at *
  rw [show ((0:Int) !=0)=false from rfl,cond_false,Bool.not_true,cond_false,show (XyQ cookie (k':Int) !=wI .u64 (cookie+wI .u64 (k':Int)))=false from bne_self_eq_false' ..,cond_false,cond_false,cond_false,show (other !=other)=false from bne_self_eq_false' ..,cond_false,Xok,Option.bind_some]
  simp only []
  rw [hl2,hm.len,show (((64:Nat):Int) !=64)=false from rfl,cond_false,XoU hn2,Option.bind_some]
  simp only []
  obtain ⟨d1,d2,d3,d4,d5⟩:=XmR (t:=Xh0 six (k':Int)) hn2
  have hl3:=d3 h2
  have hg3:Xh0 six (k':Int) ∉ Xho (XbS (Xh0 six (k':Int)) m2):=by rw [d1];exact fun h=>h.2 rfl
  have h100:Xh0 six 100 ∉ Xho (XbS (Xh0 six (k':Int)) m2):=fun h=>by have:=hm.mem.1 ((hk3 _).1 ((d1 _).1 h).1);omega
  rw [Xhs.2 h2,cond_true]
  generalize XbS (Xh0 six (k':Int)) m2=m3 at *
  rw [XoU d2,Option.bind_some]
  simp only []
  rw [(XmR d2).2.2.2.1 hg3,Xnv.2 hg3,Bool.not_false,cond_true,Xok,Option.bind_some]
  simp only []
  obtain ⟨o3,t3⟩:=Xl9 (six:=six) (i:=100) (f:=first) (by omega) ho m3
  rw [XuA h100 (by omega)] at t3
  have hc3:(XoX (Xh0 six 100) other first).Cookie=other:=rfl
  rw [hc3] at t3
  rw [XjP (i:=100) (by omega) ho,Option.bind_some,t3,Option.bind_some]
  simp only []
  have h4:Xh0 six (k':Int) ∉ Xho (XaM (Xh0 six 100) other m3):=by
   rw [Xq8]
   exact fun h=>by
    rcases h with h|h
    ·exact n100 (j:=(k':Int)) (by omega) h.symm
    ·exact hg3 h
  have h5:Xh0 six 100∈Xho (XaM (Xh0 six 100) other m3):=Xq8.2 (.inl rfl)
  have hl4:(XaM (Xh0 six 100) other m3).length=64:=by rw [XmA h100,List.length_append,List.length_singleton];omega
  obtain ⟨o4,t4⟩:=Xl9 (six:=six) (f:=first) kk ho (XaM (Xh0 six 100) other m3)
  rw [XsJ h4 hl4] at t4
  rw [t4,Option.bind_some,Xhs.2 h5,Xoh]
  simp only []
  rw [show ((m3.length:Int)==63)=true by rw [beq_iff_eq];omega,cond_true,show ((0:Int)==0)=true from rfl,cond_true,cond_true,beq_self_eq_true,cond_true,show ((9:Int)==9)=true from rfl,cond_true,XJ1]
  rfl
theorem shimFull (six first:Bool) (cookie other at4:Int) (ho:0≤other∧other<2^64) (ha:0≤at4∧at4≤255):XlH six first cookie other at4=some true:=by
 unfold XlH XhA
 refine iter_eq (fun _=>true) (fun st:Int×List Xan=>∃ i:Nat,i≤64∧st.1=(i:Int)∧Kept six cookie i st.2) (fun st=>65 - st.1.toNat) ?_ FUEL _ ⟨0,by omega,rfl,rfl,fun j hj=>absurd hj (Nat.not_lt_zero _)⟩ (by rw [XgR];simp only [];omega)
 rintro ⟨x,m⟩ ⟨i,hi,rfl,hm⟩
 simp only [] at hm ⊢
 unfold Xfh
 by_cases c:i<64
 ·have hw:wI .i64 ((i:Int)+1)=((i+1:Nat):Int):=by rw [Xe0 (by omega) (by omega)];rfl
  have hn:Xh0 six (i:Int) ∉ Xho m:=by rw [hm.mem];omega
  have ii:0≤(i:Int)∧(i:Int)≤65535:=by omega
  have hcr:=XTQ cookie (i:Int)
  obtain ⟨o1,t1⟩:=Xl9 (six:=six) (f:=first) ii hcr m
  rw [XuA hn (by rw [hm.len];omega)] at t1
  have hm2:=hm.more
  refine .inr ⟨(((i+1:Nat):Int),XaM (Xh0 six (i:Int)) (XyQ cookie (i:Int)) m),?_,⟨i+1,by omega,rfl,hm2⟩,by simp only [];omega,trivial⟩
  have hc1:(XoX (Xh0 six (i:Int)) (XyQ cookie (i:Int)) first).Cookie=XyQ cookie (i:Int):=rfl
  rw [hc1] at t1
  rw [XbB (by omega),XrG,Option.bind_some,show wI .u64 (cookie+wI .u64 (i:Int))=XyQ cookie (i:Int) from rfl,XjP ii hcr,Option.bind_some,t1,Option.bind_some]
  simp only []
  rw [show ((0:Int) !=0)=false from rfl,cond_false,Xok,Option.bind_some]
  simp only []
  rw [hm2.len,hw,show (((i+1:Nat):Int) !=((i+1:Nat):Int))=false from bne_self_eq_false' ..,cond_false]
 ·have e:i=64:=by omega
  subst e
  refine .inl ?_
  have hn:Xh0 six 100 ∉ Xho m:=by rw [hm.mem];omega
  obtain ⟨o1,t1⟩:=Xl9 (six:=six) (i:=100) (f:=true) (by omega) ho m
  obtain ⟨o2,t2⟩:=Xl9 (six:=six) (i:=100) (f:=false) (by omega) ho m
  rw [XsJ hn hm.len] at t1 t2
  rw [Xbd (by omega),XrG,Option.bind_some,XjP (i:=100) (by omega) ho,Option.bind_some,t1,Option.bind_some]
  simp only []
  rw [Option.bind_some,XjP (i:=100) (by omega) ho,Option.bind_some,t2,Option.bind_some]
  simp only []
  rw [Option.bind_some,Xi9,Option.bind_some]
  simp only []
  rw [show ((9:Int) !=9)=false from rfl,cond_false,cond_false,Xnv.2 hn,cond_false,Xok,Option.bind_some]
  simp only []
  rw [hm.len,show (((64:Nat):Int) !=64)=false from rfl,cond_false,XIY ho ha hm]
  rfl
end Go.Vm.Code
