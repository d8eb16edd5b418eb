import Derived.Test.YtddaijhjflfdmaaGreatNClientPlaysd
namespace Go.Vm.Code
open Go Go.Vm Go.Proofs
set_option maxRecDepth 100000
set_option maxHeartbeats 4000000
set_option linter.unusedVariables false
def Xhy (Xeo:Xfa) (XcB:Xey) (ha0:Xan):Option Bool:=
 (XcB ha0.Class 255).bind fun w=>
 cond (!w)
  (
  some (false))
  (
  (XcB ha0.Mark 65535).bind fun w1=>
  cond (!w1)
   (
   some (false))
   (
   (XcB ha0.TTL 255).bind fun w2=>
   cond (!w2)
    (
    some (false))
    (
    (XcB ha0.Proto 255).bind fun w3=>
    cond (!w3)
     (
     some (false))
     (
     (Xeo ha0.Src).bind fun f=>
     cond (f)
      (
      (Xeo ha0.Dst).bind fun f1=>
      cond (f1)
       (
       cond (((ha0.Options.length:Int).tmod 4)==0)
        (
        some (decide ((ha0.Options.length:Int)≤40)))
        (
        some (false)))
       (
       some (false)))
      (
      some (false))))))
def XCx (x:Bool):XcS:=⟨.bool x,[],[]⟩
abbrev XdE:=Xan→Option Bool
def r199 (g:XdE):Dec:=dV Xgy fun (y0:Xan)=>XdJ (ofG (g y0) XCx)
theorem XV1 {g:XdE} {y0:Xan} {x:Bool} (hx:g y0=some x):r199 g [.agg ⟨[.int .i64 y0.Class,.int .i64 y0.Mark,.bool y0.Whole,.int .i64 y0.TTL,.int .i64 y0.Proto,.bool y0.Src.V6,.int .u64 y0.Src.Hi,.int .u64 y0.Src.Lo,.bool y0.Dst.V6,.int .u64 y0.Dst.Hi,.int .u64 y0.Dst.Lo,.string ⟨⟨y0.Options⟩⟩]⟩] []=some (XCx x):=(XaP (Xiv _)).trans (XaN hx)
def s199 (g:XdE):Xbz:=⟨[.v],r199 g⟩
theorem XKp {g:XdE} {y0:Xan} {x:Bool} (hx:g y0=some x):(s199 g).run [.agg ⟨[.int .i64 y0.Class,.int .i64 y0.Mark,.bool y0.Whole,.int .i64 y0.TTL,.int .i64 y0.Proto,.bool y0.Src.V6,.int .u64 y0.Src.Hi,.int .u64 y0.Src.Lo,.bool y0.Dst.V6,.int .u64 y0.Dst.Hi,.int .u64 y0.Dst.Lo,.string ⟨⟨y0.Options⟩⟩]⟩] []=some (XCx x):=XV1 hx
abbrev XPn (Xeo:Xfa) (XcB:Xey):List (Nat×Xbz):=[(204,s204 Xeo),(203,s203 XcB)]
theorem XB2 (Xeo:Xfa) (XcB:Xey) (hS:Xaj Tryz.prog (XaI (XPn Xeo XcB))) (ha0:Xan) (res:Bool) (h:Xhy Xeo XcB ha0=some res) :
 XaJ Tryz.prog 199 0 ⟨⟨199,46,[(0,.agg ⟨[.int .i64 ha0.Class,.int .i64 ha0.Mark,.bool ha0.Whole,.int .i64 ha0.TTL,.int .i64 ha0.Proto,.bool ha0.Src.V6,.int .u64 ha0.Src.Hi,.int .u64 ha0.Src.Lo,.bool ha0.Dst.V6,.int .u64 ha0.Dst.Hi,.int .u64 ha0.Dst.Lo,.string ⟨⟨ha0.Options⟩⟩]⟩)],[.code XJF],[],false,none⟩,[],[],0⟩ (fun v H _=>Res 0 (XCx res) v H):=by
 unfold Xhy at h
 have R1:=@XLa XcB
 have R2:=@XO2 Xeo
 refine Xa7 XaE hS true 3000 ?_
 conv=>whnf
 exact W
def XcJ:XdE:=Xhy Xeo XcB
theorem XNk:XbB Tryz.prog 199 (s199 XcJ):=by
 have hL:=XB2 Xeo XcB (Xaj.XaK ⟨XLI,XLw,trivial⟩)
 exact okA ⟨Tryz.f199,rfl,by decide,rfl⟩
def Xlc (Xb7:Xeu) (XbJ:XdC) (Xa5:Xc3) (XcJ:XdE) (Xb9:Xet) (ha0:Xan) (payload:List UInt8):Option ((List UInt8)×Int):=
 let t:=wI .i64 (20+(ha0.Options.length:Int))
 (XcJ ha0).bind fun m=>
 cond (!m)
  (
  some (([],1)))
  (
  let t1:=decide ((payload.length:Int)>(wI .i64 (65535 - t)))
  cond (t1)
   (
   some (([],5)))
   (
   cond (ha0.Whole)
    (
    (Xb9 [XlD .i64 64 (wI .i64 (t.tdiv 4)),1,ha0.Class,1,wI .i64 (t+(payload.length:Int)),2,ha0.Mark,2,64,1,0,1,ha0.TTL,1,ha0.Proto,1,0,2]).bind fun xr=>
    (Xb7 ha0.Src).bind fun p=>
    (Xb7 ha0.Dst).bind fun p1=>
    Xbn (decide (p.length+p1.length<2^63)) <|
    Xbn (decide ((p++p1).length+ha0.Options.length<2^63)) <|
    Xbn (decide (xr.length+((p++p1)++ha0.Options).length<2^63)) <|
    (XbJ (xr++((p++p1)++ha0.Options))).bind fun xo=>
    (Xa5 (xr++((p++p1)++ha0.Options)) 10 2 (wI .u64 xo)).bind fun s=>
    Xbn (decide (s.length+payload.length<2^63)) <|
    some ((s++payload,0)))
    (
    (Xb9 [XlD .i64 64 (wI .i64 (t.tdiv 4)),1,ha0.Class,1,wI .i64 (t+(payload.length:Int)),2,ha0.Mark,2,0,1,0,1,ha0.TTL,1,ha0.Proto,1,0,2]).bind fun xr1=>
    (Xb7 ha0.Src).bind fun p2=>
    (Xb7 ha0.Dst).bind fun p3=>
    Xbn (decide (p2.length+p3.length<2^63)) <|
    Xbn (decide ((p2++p3).length+ha0.Options.length<2^63)) <|
    Xbn (decide (xr1.length+((p2++p3)++ha0.Options).length<2^63)) <|
    (XbJ (xr1++((p2++p3)++ha0.Options))).bind fun xo1=>
    (Xa5 (xr1++((p2++p3)++ha0.Options)) 10 2 (wI .u64 xo1)).bind fun s1=>
    Xbn (decide (s1.length+payload.length<2^63)) <|
    some ((s1++payload,0)))))
def XCF (x:(List UInt8)×Int):XcS:=⟨.tuple ⟨[.string ⟨⟨x.1⟩⟩,.int .i64 x.2]⟩,[],[]⟩
abbrev XfA:=Xan→(List UInt8)→Option ((List UInt8)×Int)
def r185 (g:XfA):Dec:=dV Xgy fun (y0:Xan)=>dV asS fun (y1:List UInt8)=>XdJ (ofG (g y0 y1) XCF)
theorem XSG {g:XfA} {y0:Xan} {y1:List UInt8} {x:(List UInt8)×Int} (hx:g y0 y1=some x):r185 g [.agg ⟨[.int .i64 y0.Class,.int .i64 y0.Mark,.bool y0.Whole,.int .i64 y0.TTL,.int .i64 y0.Proto,.bool y0.Src.V6,.int .u64 y0.Src.Hi,.int .u64 y0.Src.Lo,.bool y0.Dst.V6,.int .u64 y0.Dst.Hi,.int .u64 y0.Dst.Lo,.string ⟨⟨y0.Options⟩⟩]⟩,.string ⟨⟨y1⟩⟩] []=some (XCF x):=(XaP (Xiv _)).trans ((XaP (XdL)).trans (XaN hx))
def s185 (g:XfA):Xbz:=⟨[.v,.v],r185 g⟩
theorem XJ9 {g:XfA} {y0:Xan} {y1:List UInt8} {x:(List UInt8)×Int} (hx:g y0 y1=some x):(s185 g).run [.agg ⟨[.int .i64 y0.Class,.int .i64 y0.Mark,.bool y0.Whole,.int .i64 y0.TTL,.int .i64 y0.Proto,.bool y0.Src.V6,.int .u64 y0.Src.Hi,.int .u64 y0.Src.Lo,.bool y0.Dst.V6,.int .u64 y0.Dst.Hi,.int .u64 y0.Dst.Lo,.string ⟨⟨y0.Options⟩⟩]⟩,.string ⟨⟨y1⟩⟩] []=some (XCF x):=XSG hx
abbrev XKt (Xb7:Xeu) (XbJ:XdC) (Xa5:Xc3) (XcJ:XdE) (Xb9:Xet):List (Nat×Xbz):=[(195,XWW Xb7),(183,XRq XbJ),(98,s98 Xa5),(199,s199 XcJ),(196,s196 Xb9)]
theorem XD7 (Xb7:Xeu) (XbJ:XdC) (Xa5:Xc3) (XcJ:XdE) (Xb9:Xet) (hS:Xaj Tryz.prog (XaI (XKt Xb7 XbJ Xa5 XcJ Xb9))) (ha0:Xan) (payload:List UInt8) (res:(List UInt8)×Int) (h:Xlc Xb7 XbJ Xa5 XcJ Xb9 ha0 payload=some res) :
 XaJ Tryz.prog 185 0 ⟨⟨185,62,[(0,.agg ⟨[.int .i64 ha0.Class,.int .i64 ha0.Mark,.bool ha0.Whole,.int .i64 ha0.TTL,.int .i64 ha0.Proto,.bool ha0.Src.V6,.int .u64 ha0.Src.Hi,.int .u64 ha0.Src.Lo,.bool ha0.Dst.V6,.int .u64 ha0.Dst.Hi,.int .u64 ha0.Dst.Lo,.string ⟨⟨ha0.Options⟩⟩]⟩),(1,.string ⟨⟨payload⟩⟩)],[.code XxI],[],false,none⟩,[],[],0⟩ (fun v H _=>Res 0 (XCF res) v H):=by
 unfold Xlc at h
 have R1:=@XKp XcJ
 have R2:=@Xza Xb9
 have R3:=@Xt9 Xb7
 have R4:=@Xuj XbJ
 have R5:=@XA5 Xa5
 refine Xa7 XaE hS true 3000 ?_
 conv=>whnf
 exact W
def XeK:XfA:=Xlc Xb7 XbJ Xa5 XcJ Xb9
theorem XN2:XbB Tryz.prog 185 (s185 XeK):=by
 have hL:=XD7 Xb7 XbJ Xa5 XcJ Xb9 (Xaj.XaK ⟨Xuo,XtO,XAK,XNk,Xyf,trivial⟩)
 exact okA ⟨Tryz.f185,rfl,by decide,rfl⟩
def Xr7 (n:Int) (most:Int):Option Bool:=
 cond (decide (n≥0))
  (
  some (decide (n≤most)))
  (
  some (false))
def XG7 (x:Bool):XcS:=⟨.bool x,[],[]⟩
abbrev Xjd:=Int→Int→Option Bool
def r175 (g:Xjd):Dec:=dV (asI .i64) fun (y0:Int)=>dV (asI .i64) fun (y1:Int)=>XdJ (ofG (g y0 y1) XG7)
theorem XUK {g:Xjd} {y0:Int} {y1:Int} {x:Bool} (hx:g y0 y1=some x):r175 g [.int .i64 y0,.int .i64 y1] []=some (XG7 x):=(XaP (Xen _)).trans ((XaP (Xen _)).trans (XaN hx))
def s175 (g:Xjd):Xbz:=⟨[.v,.v],r175 g⟩
theorem XNL {g:Xjd} {y0:Int} {y1:Int} {x:Bool} (hx:g y0 y1=some x):(s175 g).run [.int .i64 y0,.int .i64 y1] []=some (XG7 x):=XUK hx
abbrev XNT:List (Nat×Xbz):=[]
theorem XE1 (hS:Xaj Tryz.prog (XaI (XNT))) (n:Int) (most:Int) (res:Bool) (h:Xr7 n most=some res) :
 XaJ Tryz.prog 175 0 ⟨⟨175,12,[(0,.int .i64 n),(1,.int .i64 most)],[.code XHK],[],false,none⟩,[],[],0⟩ (fun v H _=>Res 0 (XG7 res) v H):=by
 unfold Xr7 at h
 refine Xa7 XaE hS true 3000 ?_
 conv=>whnf
 exact W
def Xjx:Xjd:=Xr7
theorem XQq:XbB Tryz.prog 175 (s175 Xjx):=by
 have hL:=XE1 (Xaj.XaK trivial)
 exact okA ⟨Tryz.f175,rfl,by decide,rfl⟩
def Xnz (XaT:Xcm) (a:Xab):Option Bool:=
 (XaT a).bind fun xr=>
 cond (xr)
  (
  some (!a.V6))
  (
  some (false))
def XGg (x:Bool):XcS:=⟨.bool x,[],[]⟩
abbrev Xg2:=Xab→Option Bool
def r176 (g:Xg2):Dec:=dV Xb5 fun (y0:Xab)=>XdJ (ofG (g y0) XGg)
theorem XSw {g:Xg2} {y0:Xab} {x:Bool} (hx:g y0=some x):r176 g [.agg ⟨[.bool y0.V6,.int .u64 y0.Hi,.int .u64 y0.Lo]⟩] []=some (XGg x):=(XaP (XbO _)).trans (XaN hx)
def s176 (g:Xg2):Xbz:=⟨[.v],r176 g⟩
theorem XP9 {g:Xg2} {y0:Xab} {x:Bool} (hx:g y0=some x):(s176 g).run [.agg ⟨[.bool y0.V6,.int .u64 y0.Hi,.int .u64 y0.Lo]⟩] []=some (XGg x):=XSw hx
abbrev XPb (XaT:Xcm):List (Nat×Xbz):=[(59,s59 XaT)]
theorem XF3 (XaT:Xcm) (hS:Xaj Tryz.prog (XaI (XPb XaT))) (a:Xab) (res:Bool) (h:Xnz XaT a=some res) :
 XaJ Tryz.prog 176 0 ⟨⟨176,10,[(0,.agg ⟨[.bool a.V6,.int .u64 a.Hi,.int .u64 a.Lo]⟩)],[.code XJH],[],false,none⟩,[],[],0⟩ (fun v H _=>Res 0 (XGg res) v H):=by
 unfold Xnz at h
 have R1:=@XsX XaT
 refine Xa7 XaE hS true 3000 ?_
 conv=>whnf
 exact W
def XgL:Xg2:=Xnz XaT
theorem XMd:XbB Tryz.prog 176 (s176 XgL):=by
 have hL:=XF3 XaT (Xaj.XaK ⟨XsV,trivial⟩)
 exact okA ⟨Tryz.f176,rfl,by decide,rfl⟩
def Xmb (XgL:Xg2) (Xjx:Xjd) (ha0:Xan):Option Bool:=
 (Xjx ha0.Class 255).bind fun i=>
 cond (i)
  (
  (Xjx ha0.Mark 65535).bind fun i1=>
  cond (i1)
   (
   (Xjx ha0.TTL 255).bind fun i2=>
   cond (i2)
    (
    (Xjx ha0.Proto 255).bind fun i3=>
    cond (i3)
     (
     (XgL ha0.Src).bind fun f=>
     cond (f)
      (
      (XgL ha0.Dst).bind fun f1=>
      cond (f1)
       (
       cond (decide ((ha0.Options.length:Int)≤40))
        (
        some (((ha0.Options.length:Int).tmod 4)==0))
        (
        some (false)))
       (
       some (false)))
      (
      some (false)))
     (
     some (false)))
    (
    some (false)))
   (
   some (false)))
  (
  some (false))
def XFK (x:Bool):XcS:=⟨.bool x,[],[]⟩
abbrev Xgc:=Xan→Option Bool
def r151 (g:Xgc):Dec:=dV Xgy fun (y0:Xan)=>XdJ (ofG (g y0) XFK)
theorem XRn {g:Xgc} {y0:Xan} {x:Bool} (hx:g y0=some x):r151 g [.agg ⟨[.int .i64 y0.Class,.int .i64 y0.Mark,.bool y0.Whole,.int .i64 y0.TTL,.int .i64 y0.Proto,.bool y0.Src.V6,.int .u64 y0.Src.Hi,.int .u64 y0.Src.Lo,.bool y0.Dst.V6,.int .u64 y0.Dst.Hi,.int .u64 y0.Dst.Lo,.string ⟨⟨y0.Options⟩⟩]⟩] []=some (XFK x):=(XaP (Xiv _)).trans (XaN hx)
def s151 (g:Xgc):Xbz:=⟨[.v],r151 g⟩
theorem XPJ {g:Xgc} {y0:Xan} {x:Bool} (hx:g y0=some x):(s151 g).run [.agg ⟨[.int .i64 y0.Class,.int .i64 y0.Mark,.bool y0.Whole,.int .i64 y0.TTL,.int .i64 y0.Proto,.bool y0.Src.V6,.int .u64 y0.Src.Hi,.int .u64 y0.Src.Lo,.bool y0.Dst.V6,.int .u64 y0.Dst.Hi,.int .u64 y0.Dst.Lo,.string ⟨⟨y0.Options⟩⟩]⟩] []=some (XFK x):=XRn hx
abbrev XJZ (XgL:Xg2) (Xjx:Xjd):List (Nat×Xbz):=[(176,s176 XgL),(175,s175 Xjx)]
theorem XDp (XgL:Xg2) (Xjx:Xjd) (hS:Xaj Tryz.prog (XaI (XJZ XgL Xjx))) (ha0:Xan) (res:Bool) (h:Xmb XgL Xjx ha0=some res) :
 XaJ Tryz.prog 151 0 ⟨⟨151,44,[(0,.agg ⟨[.int .i64 ha0.Class,.int .i64 ha0.Mark,.bool ha0.Whole,.int .i64 ha0.TTL,.int .i64 ha0.Proto,.bool ha0.Src.V6,.int .u64 ha0.Src.Hi,.int .u64 ha0.Src.Lo,.bool ha0.Dst.V6,.int .u64 ha0.Dst.Hi,.int .u64 ha0.Dst.Lo,.string ⟨⟨ha0.Options⟩⟩]⟩)],[.code XIl],[],false,none⟩,[],[],0⟩ (fun v H _=>Res 0 (XFK res) v H):=by
 unfold Xmb at h
 have R1:=@XNL Xjx
 have R2:=@XP9 XgL
 refine Xa7 XaE hS true 3000 ?_
 conv=>whnf
 exact W
def Xf4:Xgc:=Xmb XgL Xjx
theorem XLU:XbB Tryz.prog 151 (s151 Xf4):=by
 have hL:=XDp XgL Xjx (Xaj.XaK ⟨XMd,XQq,trivial⟩)
 exact okA ⟨Tryz.f151,rfl,by decide,rfl⟩
def Xpi (XeH:XfC) (XcP:XeZ) (XcA:XeX) (Xf4:Xgc) (Xch:Xf1) (ha0:Xan) (payload:List UInt8):Option ((List UInt8)×Int):=
 (Xf4 ha0).bind fun xr=>
 cond (!xr)
  (
  some (([],1)))
  (
  let t:=wI .i64 (20+(ha0.Options.length:Int))
  let t1:=decide ((payload.length:Int)>(wI .i64 (65535 - t)))
  cond (t1)
   (
   some (([],5)))
   (
   cond (ha0.Whole)
    (
    (Xch (wI .i64 (64+(wI .i64 (t.tdiv 4)))) 1).bind fun n=>
    (Xch ha0.Class 1).bind fun n1=>
    Xbn (decide (n.length+n1.length<2^63)) <|
    (Xch (wI .i64 (t+(payload.length:Int))) 2).bind fun n2=>
    Xbn (decide ((n++n1).length+n2.length<2^63)) <|
    (Xch ha0.Mark 2).bind fun n3=>
    Xbn (decide (((n++n1)++n2).length+n3.length<2^63)) <|
    (Xch 64 1).bind fun n4=>
    Xbn (decide ((((n++n1)++n2)++n3).length+n4.length<2^63)) <|
    (Xch 0 1).bind fun n5=>
    Xbn (decide (((((n++n1)++n2)++n3)++n4).length+n5.length<2^63)) <|
    (Xch ha0.TTL 1).bind fun n6=>
    Xbn (decide ((((((n++n1)++n2)++n3)++n4)++n5).length+n6.length<2^63)) <|
    let t2:=(((((n++n1)++n2)++n3)++n4)++n5)++n6
    (Xch ha0.Proto 1).bind fun n7=>
    Xbn (decide (t2.length+n7.length<2^63)) <|
    (Xch 0 2).bind fun n8=>
    Xbn (decide ((t2++n7).length+n8.length<2^63)) <|
    (XcA ha0.Src).bind fun p=>
    Xbn (decide (((t2++n7)++n8).length+p.length<2^63)) <|
    (XcA ha0.Dst).bind fun p1=>
    Xbn (decide ((((t2++n7)++n8)++p).length+p1.length<2^63)) <|
    Xbn (decide (((((t2++n7)++n8)++p)++p1).length+ha0.Options.length<2^63)) <|
    let t3:=((((t2++n7)++n8)++p)++p1)++ha0.Options
    (XeH t3).bind fun xo=>
    (XcP t3 10 2 (wI .u64 xo)).bind fun s=>
    Xbn (decide (s.length+payload.length<2^63)) <|
    some ((s++payload,0)))
    (
    (Xch (wI .i64 (64+(wI .i64 (t.tdiv 4)))) 1).bind fun n9=>
    (Xch ha0.Class 1).bind fun n10=>
    Xbn (decide (n9.length+n10.length<2^63)) <|
    (Xch (wI .i64 (t+(payload.length:Int))) 2).bind fun n11=>
    Xbn (decide ((n9++n10).length+n11.length<2^63)) <|
    (Xch ha0.Mark 2).bind fun n12=>
    Xbn (decide (((n9++n10)++n11).length+n12.length<2^63)) <|
    (Xch 0 1).bind fun n13=>
    Xbn (decide ((((n9++n10)++n11)++n12).length+n13.length<2^63)) <|
    (Xch 0 1).bind fun n14=>
    Xbn (decide (((((n9++n10)++n11)++n12)++n13).length+n14.length<2^63)) <|
    let t4:=((((n9++n10)++n11)++n12)++n13)++n14
    (Xch ha0.TTL 1).bind fun n15=>
    Xbn (decide (t4.length+n15.length<2^63)) <|
    (Xch ha0.Proto 1).bind fun n16=>
    Xbn (decide ((t4++n15).length+n16.length<2^63)) <|
    (Xch 0 2).bind fun n17=>
    Xbn (decide (((t4++n15)++n16).length+n17.length<2^63)) <|
    (XcA ha0.Src).bind fun p2=>
    Xbn (decide ((((t4++n15)++n16)++n17).length+p2.length<2^63)) <|
    (XcA ha0.Dst).bind fun p3=>
    Xbn (decide (((((t4++n15)++n16)++n17)++p2).length+p3.length<2^63)) <|
    let t5:=((((t4++n15)++n16)++n17)++p2)++p3
    Xbn (decide (t5.length+ha0.Options.length<2^63)) <|
    (XeH (t5++ha0.Options)).bind fun xo1=>
    (XcP (t5++ha0.Options) 10 2 (wI .u64 xo1)).bind fun s1=>
    Xbn (decide (s1.length+payload.length<2^63)) <|
    some ((s1++payload,0)))))
def XC4 (x:(List UInt8)×Int):XcS:=⟨.tuple ⟨[.string ⟨⟨x.1⟩⟩,.int .i64 x.2]⟩,[],[]⟩
abbrev XhZ:=Xan→(List UInt8)→Option ((List UInt8)×Int)
def r104 (g:XhZ):Dec:=dV Xgy fun (y0:Xan)=>dV asS fun (y1:List UInt8)=>XdJ (ofG (g y0 y1) XC4)
theorem XTm {g:XhZ} {y0:Xan} {y1:List UInt8} {x:(List UInt8)×Int} (hx:g y0 y1=some x):r104 g [.agg ⟨[.int .i64 y0.Class,.int .i64 y0.Mark,.bool y0.Whole,.int .i64 y0.TTL,.int .i64 y0.Proto,.bool y0.Src.V6,.int .u64 y0.Src.Hi,.int .u64 y0.Src.Lo,.bool y0.Dst.V6,.int .u64 y0.Dst.Hi,.int .u64 y0.Dst.Lo,.string ⟨⟨y0.Options⟩⟩]⟩,.string ⟨⟨y1⟩⟩] []=some (XC4 x):=(XaP (Xiv _)).trans ((XaP (XdL)).trans (XaN hx))
def s104 (g:XhZ):Xbz:=⟨[.v,.v],r104 g⟩
theorem XLQ {g:XhZ} {y0:Xan} {y1:List UInt8} {x:(List UInt8)×Int} (hx:g y0 y1=some x):(s104 g).run [.agg ⟨[.int .i64 y0.Class,.int .i64 y0.Mark,.bool y0.Whole,.int .i64 y0.TTL,.int .i64 y0.Proto,.bool y0.Src.V6,.int .u64 y0.Src.Hi,.int .u64 y0.Src.Lo,.bool y0.Dst.V6,.int .u64 y0.Dst.Hi,.int .u64 y0.Dst.Lo,.string ⟨⟨y0.Options⟩⟩]⟩,.string ⟨⟨y1⟩⟩] []=some (XC4 x):=XTm hx
abbrev XMM (XeH:XfC) (XcP:XeZ) (XcA:XeX) (Xf4:Xgc) (Xch:Xf1):List (Nat×Xbz):=[(65,s65 XeH),(64,s64 XcP),(146,XSO XcA),(151,s151 Xf4),(147,s147 Xch)]
theorem XGM (XeH:XfC) (XcP:XeZ) (XcA:XeX) (Xf4:Xgc) (Xch:Xf1) (hS:Xaj Tryz.prog (XaI (XMM XeH XcP XcA Xf4 Xch))) (ha0:Xan) (payload:List UInt8) (res:(List UInt8)×Int) (h:Xpi XeH XcP XcA Xf4 Xch ha0 payload=some res) :
 XaJ Tryz.prog 104 0 ⟨⟨104,74,[(0,.agg ⟨[.int .i64 ha0.Class,.int .i64 ha0.Mark,.bool ha0.Whole,.int .i64 ha0.TTL,.int .i64 ha0.Proto,.bool ha0.Src.V6,.int .u64 ha0.Src.Hi,.int .u64 ha0.Src.Lo,.bool ha0.Dst.V6,.int .u64 ha0.Dst.Hi,.int .u64 ha0.Dst.Lo,.string ⟨⟨ha0.Options⟩⟩]⟩),(1,.string ⟨⟨payload⟩⟩)],[.code XAr],[],false,none⟩,[],[],0⟩ (fun v H _=>Res 0 (XC4 res) v H):=by
 unfold Xpi at h
 have R1:=@XPJ Xf4
 have R2:=@XAk Xch
 have R3:=@Xt6 XcA
 have R4:=@XAb XeH
 have R5:=@Xz9 XcP
 refine Xa7 XaE hS true 3000 ?_
 conv=>whnf
 exact W
def Xij:XhZ:=Xpi XeH XcP XcA Xf4 Xch
theorem XLZ:XbB Tryz.prog 104 (s104 Xij):=by
 have hL:=XGM XeH XcP XcA Xf4 Xch (Xaj.XaK ⟨XBc,Xyj,Xut,XLU,Xyy,trivial⟩)
 exact okA ⟨Tryz.f104,rfl,by decide,rfl⟩
end Go.Vm.Code
namespace Go.Vm.Code
open Go Go.Vm
theorem XwQ (n m:Int):XcB n m=some (inR n m):=by
 unfold XcB Xi3 inR
 by_cases h:0≤n
 ·rw [XaW h];simp [h]
 ·rw [XaO h];simp [h]
theorem XSA (n m:Int):Xjx n m=some (inR n m):=by
 unfold Xjx Xr7 inR
 by_cases h:0≤n
 ·rw [XaW (by omega)];simp [h]
 ·rw [XaO (by omega)];simp [h]
def four (a:Xab):Bool:=!a.V6&&aok a
theorem XLv (a:Xab):Xeo a=some (four a):=by
 unfold Xeo Xj5 four
 rw [XkS];cases a.V6<;>rfl
theorem XFv (a:Xab):XgL a=some (four a):=by
 unfold XgL Xnz four
 rw [XjM];cases aok a<;>cases a.V6<;>rfl
def H5 (h:Xan):Bool:=inR h.Class 255&&inR h.Mark 65535&&inR h.TTL 255&&inR h.Proto 255&&four h.Src&&four h.Dst&&decide (h.Options.length%4=0)&&decide (h.Options.length≤40)
theorem XLF (h:Xan):XcJ h=some (H5 h):=by
 unfold XcJ Xhy H5
 simp only [XwQ,XLv,Option.bind_some,XrO,XvY]
 cases inR h.Class 255<;>cases inR h.Mark 65535<;>cases inR h.TTL 255<;>cases inR h.Proto 255<;>cases four h.Src<;>cases four h.Dst<;>cases decide (h.Options.length%4=0)<;>rfl
theorem Xzi (h:Xan):Xf4 h=some (H5 h):=by
 unfold Xf4 Xmb H5
 simp only [XSA,XFv,Option.bind_some,XrO,XvY]
 cases inR h.Class 255<;>cases inR h.Mark 65535<;>cases inR h.TTL 255<;>cases inR h.Proto 255<;>cases four h.Src<;>cases four h.Dst<;>cases decide (h.Options.length%4=0)<;>cases decide (h.Options.length≤40)<;>rfl
def hd5 (h:Xan) (n:Int):List UInt8:=
 Xc9 (64+((20+h.Options.length)/4:Nat)) 1++Xc9 h.Class 1++Xc9 n 2++Xc9 h.Mark 2++Xc9 (cond h.Whole 64 0) 1++Xc9 0 1++Xc9 h.TTL 1++Xc9 h.Proto 1++Xc9 0 2++XeL h.Src++XeL h.Dst++h.Options
theorem Xyc (h:Xan) (n:Int):(hd5 h n).length≤104+h.Options.length:=by
 have a1:=Xbm (64+((20+h.Options.length)/4:Nat)) 1
 have a2:=Xbm h.Class 1
 have a3:=Xbm n 2
 have a4:=Xbm h.Mark 2
 have a5:=Xbm (cond h.Whole 64 0) 1
 have a6:=Xbm 0 1
 have a7:=Xbm h.TTL 1
 have a8:=Xbm h.Proto 1
 have a9:=Xbm 0 2
 have b1:(XeL h.Src).length≤16:=by rw [Xfs];cases h.Src.V6<;>decide
 have b2:(XeL h.Dst).length≤16:=by rw [Xfs];cases h.Dst.V6<;>decide
 unfold hd5
 simp only [List.length_append];omega
def XQZ (h:Xan) (l:List UInt8):List UInt8×Int:=
 if H5 h=false then ([],1) else if 65535 - (20+(h.Options.length:Int))<l.length then ([],5) else
  (XtG (hd5 h (20+h.Options.length+l.length)) 10 2 (65535 - (norm (Xic (hd5 h (20+h.Options.length+l.length))):Nat))++l,0)
theorem Xru (s:List UInt8) (p k n:Int):(XtG s p k n).length≤s.length+8:=by
 unfold XtG
 split
 ·simp;omega
 ·omega
theorem XCz {t l:List UInt8} (ht:t.length≤2^20) (hl:l.length<2^30):((XbJ t).bind fun xo=>(Xa5 t 10 2 (wI .u64 xo)).bind fun s=>Xbn (decide (s.length+l.length<2^63)) (some (s++l,(0:Int))))=some (XtG t 10 2 (65535 - (norm (Xic t):Nat))++l,0):=by
 have:=norm_le (Xic t)
 have hs:=Xru t 10 2 (65535 - (norm (Xic t):Nat))
 rw [XD9 (by omega),Option.bind_some,Xgt (by omega) (by omega),Xvl (by omega) (by omega),Option.bind_some,XaA (by omega)]
theorem Xtw {t l:List UInt8} (ht:t.length≤2^20) (hl:l.length<2^30):((XeH t).bind fun xo=>(XcP t 10 2 (wI .u64 xo)).bind fun s=>Xbn (decide (s.length+l.length<2^63)) (some (s++l,(0:Int))))=some (XtG t 10 2 (65535 - (norm (Xic t):Nat))++l,0):=by
 have:=norm_le (Xic t)
 have hs:=Xru t 10 2 (65535 - (norm (Xic t):Nat))
 rw [Xpz (by omega),Option.bind_some,Xgt (by omega) (by omega),Xmd (by omega) (by omega) (by omega),Option.bind_some,XaA (by omega)]
theorem XIC {h:Xan} (hh:H5 h=true):(0≤h.Class∧h.Class≤255)∧(0≤h.Mark∧h.Mark≤65535)∧(0≤h.TTL∧h.TTL≤255)∧(0≤h.Proto∧h.Proto≤255)∧(h.Src.V6=false∧aok h.Src=true)∧(h.Dst.V6=false∧aok h.Dst=true)∧h.Options.length%4=0∧h.Options.length≤40:=by
 unfold H5 four at hh
 simp only [Bool.and_eq_true,XAY,Bool.not_eq_true',decide_eq_true_eq] at hh
 obtain ⟨⟨⟨⟨⟨⟨⟨a,b⟩,c⟩,d⟩,e⟩,f⟩,g⟩,i⟩:=hh
 exact ⟨a,b,c,d,e,f,g,i⟩
theorem p5_eq {h:Xan} {l:List UInt8} (h1:A4 h.Src) (h2:A4 h.Dst) (hl:l.length<2^20) (ho:h.Options.length<2^20):XeK h l=some (XQZ h l):=by
 unfold XeK Xlc XQZ
 rw [XLF,Option.bind_some]
 cases hh:H5 h
 ·rfl
 obtain ⟨q1,q2,q3,q4,q5,q6,q7,q8⟩:=XIC hh
 simp only [Bool.not_true,cond_false]
 rw [if_neg (by decide),Xed (n:=20+(h.Options.length:Int)) (by omega) (by omega),Xed (n:=65535 - (20+(h.Options.length:Int))) (by omega) (by omega)]
 by_cases h5:(l.length:Int)>65535 - (20+(h.Options.length:Int))
 ·rw [XaW h5,if_pos (by omega)]
 rw [XaO h5,if_neg (by omega)]
 have b1:(XeL h.Src).length≤16:=by rw [Xfs];cases h.Src.V6<;>decide
 have b2:(XeL h.Dst).length≤16:=by rw [Xfs];cases h.Dst.V6<;>decide
 have eo:XlD .i64 64 (wI .i64 (((20+h.Options.length)/4:Nat):Int))=64+(((20+h.Options.length)/4:Nat):Int):=by
  rw [Xed (by omega) (by omega)]
  exact Xra 4 (a:=4) (by omega) (by omega) (by omega) (by omega) (by omega)
 have hlen:=Xyc h (20+h.Options.length+l.length)
 have key:∀ fl:Int,fl=cond h.Whole 64 0→((Xb9 [64+(((20+h.Options.length)/4:Nat):Int),1,h.Class,1,20+(h.Options.length:Int)+l.length,2,h.Mark,2,fl,1,0,1,h.TTL,1,h.Proto,1,0,2]).bind fun xr=>Xbn (decide ((XeL h.Src).length+(XeL h.Dst).length<2^63))<|Xbn (decide ((XeL h.Src++XeL h.Dst).length+h.Options.length<2^63))<|Xbn (decide (xr.length+((XeL h.Src++XeL h.Dst)++h.Options).length<2^63)) <|
  (XbJ (xr++((XeL h.Src++XeL h.Dst)++h.Options))).bind fun xo=>(Xa5 (xr++((XeL h.Src++XeL h.Dst)++h.Options)) 10 2 (wI .u64 xo)).bind fun s=>Xbn (decide (s.length+l.length<2^63)) (some (s++l,(0:Int))))=some (XtG (hd5 h (20+h.Options.length+l.length)) 10 2 (65535 - (norm (Xic (hd5 h (20+h.Options.length+l.length))):Nat))++l,0):=by
  intro fl hfl
  have hfr:0≤fl∧fl≤64:=by subst hfl;cases h.Whole<;>decide
  have hrow:XOo [64+(((20+h.Options.length)/4:Nat):Int),1,h.Class,1,20+(h.Options.length:Int)+l.length,2,h.Mark,2,fl,1,0,1,h.TTL,1,h.Proto,1,0,2]=Xc9 (64+((20+h.Options.length)/4:Nat)) 1++(Xc9 h.Class 1++(Xc9 (20+(h.Options.length:Int)+l.length) 2++(Xc9 h.Mark 2++(Xc9 fl 1++(Xc9 0 1++(Xc9 h.TTL 1++(Xc9 h.Proto 1++(Xc9 0 2++[])))))))):=by
   simp only [XOo]
   rw [Xgt (n:=64+(((20+h.Options.length)/4:Nat):Int)) (by omega) (by omega),Xgt q1.1 (by omega),Xgt (n:=20+(h.Options.length:Int)+l.length) (by omega) (by omega),Xgt q2.1 (by omega),Xgt hfr.1 (by omega),Xgt q3.1 (by omega),Xgt q4.1 (by omega),show wI .u64 0=0 from rfl]
  rw [XLe (by simp) (by simp) (by simp),hrow,Option.bind_some]
  have e:Xc9 (64+((20+h.Options.length)/4:Nat)) 1++(Xc9 h.Class 1++(Xc9 (20+(h.Options.length:Int)+l.length) 2++(Xc9 h.Mark 2++(Xc9 fl 1++(Xc9 0 1++(Xc9 h.TTL 1++(Xc9 h.Proto 1++(Xc9 0 2++[]))))))))++(XeL h.Src++XeL h.Dst++h.Options)=hd5 h (20+h.Options.length+l.length):=by
   subst hfl;unfold hd5;simp only [List.append_assoc,List.append_nil]
  have hl2:=congrArg List.length e
  rw [List.length_append] at hl2
  rw [XaA (by omega),XaA (by simp only [List.length_append];omega),XaA (by omega),e]
  exact XCz (by omega) (by omega)
 rw [Xed (n:=20+(h.Options.length:Int)+l.length) (by omega) (by omega),XM5,eo,Xrt h1 q5.2,Xrt h2 q6.2]
 simp only [Option.bind_some]
 cases hw:h.Whole
 ·rw [cond_false]
  have:=key 0 (by rw [hw];rfl)
  rw [hw] at *
  exact this
 ·rw [cond_true]
  have:=key 64 (by rw [hw];rfl)
  exact this
theorem XRB {h:Xan} {l:List UInt8} (h1:A4 h.Src) (h2:A4 h.Dst) (hl:l.length<2^20) (ho:h.Options.length<2^20):Xij h l=some (XQZ h l):=by
 unfold Xij Xpi XQZ
 rw [Xzi,Option.bind_some]
 cases hh:H5 h
 ·rfl
 obtain ⟨q1,q2,q3,q4,q5,q6,q7,q8⟩:=XIC hh
 simp only [Bool.not_true,cond_false]
 rw [if_neg (by decide),Xed (n:=20+(h.Options.length:Int)) (by omega) (by omega),Xed (n:=65535 - (20+(h.Options.length:Int))) (by omega) (by omega)]
 by_cases h5:(l.length:Int)>65535 - (20+(h.Options.length:Int))
 ·rw [XaW h5,if_pos (by omega)]
 rw [XaO h5,if_neg (by omega)]
 have b1:(XeL h.Src).length≤16:=by rw [Xfs];cases h.Src.V6<;>decide
 have b2:(XeL h.Dst).length≤16:=by rw [Xfs];cases h.Dst.V6<;>decide
 rw [Xed (n:=20+(h.Options.length:Int)+l.length) (by omega) (by omega),XM5,Xed (n:=(((20+h.Options.length)/4:Nat):Int)) (by omega) (by omega),Xed (n:=64+(((20+h.Options.length)/4:Nat):Int)) (by omega) (by omega),Xps h1 q5.2,Xps h2 q6.2]
 simp only [XFM,Option.bind_some]
 rw [Xgt (n:=64+(((20+h.Options.length)/4:Nat):Int)) (by omega) (by omega),Xgt q1.1 (by omega),Xgt (n:=20+(h.Options.length:Int)+l.length) (by omega) (by omega),Xgt q2.1 (by omega),Xgt q3.1 (by omega),Xgt q4.1 (by omega),show wI .u64 0=0 from rfl,show wI .u64 64=64 from rfl]
 have a1:=Xbm (64+((20+h.Options.length)/4:Nat)) 1
 have a2:=Xbm h.Class 1
 have a3:=Xbm (20+(h.Options.length:Int)+l.length) 2
 have a4:=Xbm h.Mark 2
 have a5:=Xbm 64 1
 have a6:=Xbm 0 1
 have a7:=Xbm h.TTL 1
 have a8:=Xbm h.Proto 1
 have a9:=Xbm 0 2
 have hlen:=Xyc h (20+h.Options.length+l.length)
 cases hw:h.Whole
 ·rw [cond_false]
  have e:Xc9 (64+((20+h.Options.length)/4:Nat)) 1++Xc9 h.Class 1++Xc9 (20+(h.Options.length:Int)+l.length) 2++Xc9 h.Mark 2++Xc9 0 1++Xc9 0 1++Xc9 h.TTL 1++Xc9 h.Proto 1++Xc9 0 2++XeL h.Src++XeL h.Dst++h.Options=hd5 h (20+h.Options.length+l.length):=by unfold hd5;rw [hw];rfl
  iterate 11 rw [XaA (by first|omega|(simp only [List.length_append];omega))]
  rw [e]
  exact Xtw (by omega) (by omega)
 ·rw [cond_true]
  have e:Xc9 (64+((20+h.Options.length)/4:Nat)) 1++Xc9 h.Class 1++Xc9 (20+(h.Options.length:Int)+l.length) 2++Xc9 h.Mark 2++Xc9 64 1++Xc9 0 1++Xc9 h.TTL 1++Xc9 h.Proto 1++Xc9 0 2++XeL h.Src++XeL h.Dst++h.Options=hd5 h (20+h.Options.length+l.length):=by unfold hd5;rw [hw];rfl
  iterate 11 rw [XaA (by first|omega|(simp only [List.length_append];omega))]
  rw [e]
  exact Xtw (by omega) (by omega)
theorem Xwj:∀ i:Fin 16,i.val≠14→Nat.testBit 18446744073709535231 i.val=true:=by decide +kernel
theorem Xwe {x:Nat} (hx:x<65536):x &&& 18446744073709535231=0↔x=0∨x=16384:=by
 constructor
 ·intro h
  have hbit:∀ i,i≠14→x.testBit i=false:=by
   intro i hi
   by_cases h16:i<16
   ·have h1:(x &&& 18446744073709535231).testBit i=false:=by rw [h];exact Nat.zero_testBit i
    rw [Nat.testBit_and,Xwj ⟨i,h16⟩ hi,Bool.and_true] at h1
    exact h1
   ·exact Nat.testBit_lt_two_pow (Nat.lt_of_lt_of_le hx (by
     have:2^16≤2^i:=Nat.pow_le_pow_right (by decide) (by omega)
     omega))
  cases h14:x.testBit 14
  ·left
   apply Nat.eq_of_testBit_eq
   intro i
   rw [Nat.zero_testBit]
   by_cases hi:i=14
   ·rw [hi,h14]
   ·exact hbit i hi
  ·right
   apply Nat.eq_of_testBit_eq
   intro i
   rw [show (16384:Nat)=2^14 from rfl,Nat.testBit_two_pow]
   by_cases hi:i=14
   ·rw [hi,h14];rfl
   ·rw [hbit i hi,decide_eq_false (fun e=>hi e.symm)]
 ·rintro (h|h)
  ·rw [h];rfl
  ·rw [h];rfl
theorem XSU {x:Nat} (hx:x<65536):XEu .i64 (x:Int) 16384=((x &&& 18446744073709535231:Nat):Int):=by
 have h:x &&& 18446744073709535231≤x:=Nat.and_le_left
 show IntKind.wrap .i64 _=_
 rw [show IntKind.bits .i64=64 from rfl,BitVec.toNat_and,XKE (by omega),show (~~~ (BitVec.ofInt 64 16384)).toNat=18446744073709535231 from rfl]
 exact Xed (by omega) (by omega)
theorem XzX {a b:UInt8}:(XEu .i64 ((a.toNat:Int)*256+b.toNat) 16384 !=0)=decide ((a.toNat:Int)*256+b.toNat≠0∧(a.toNat:Int)*256+b.toNat≠16384):=by
 have h1:=a.toNat_lt
 have h2:=b.toNat_lt
 have hx:a.toNat*256+b.toNat<65536:=by omega
 rw [show (a.toNat:Int)*256+b.toNat=((a.toNat*256+b.toNat:Nat):Int) by omega,XSU hx,Bool.eq_iff_iff,bne_iff_ne,decide_eq_true_eq]
 have hz:=Xwe hx
 generalize a.toNat*256+b.toNat=x at *
 generalize x &&& 18446744073709535231=y at *
 constructor
 ·intro h
  have:¬ (x=0∨x=16384):=fun e=>h (by have:=hz.2 e;omega)
  omega
 ·intro h e
  have:=hz.1 (by omega)
  omega
end Go.Vm.Code
namespace Go.Vm.Code
open Go Go.Vm Go.Proofs
set_option maxRecDepth 100000
set_option maxHeartbeats 4000000
set_option linter.unusedVariables false
def Xix (ha0:Xay):Option Bool:=
 cond (decide (ha0.Class<0))
  (
  some (false))
  (
  cond (decide (ha0.Class>255))
   (
   some (false))
   (
   cond (decide (ha0.Label<0))
    (
    some (false))
    (
    cond (decide (ha0.Label>1048575))
     (
     some (false))
     (
     cond (decide (ha0.Next<0))
      (
      some (false))
      (
      cond (decide (ha0.Next>255))
       (
       some (false))
       (
       cond (decide (ha0.Hop<0))
        (
        some (false))
        (
        cond (decide (ha0.Hop>255))
         (
         some (false))
         (
         cond (ha0.Src.V6)
          (
          some (ha0.Dst.V6))
          (
          some (false))))))))))
def XGj (x:Bool):XcS:=⟨.bool x,[],[]⟩
abbrev Xd8:=Xay→Option Bool
def r198 (g:Xd8):Dec:=dV XgX fun (y0:Xay)=>XdJ (ofG (g y0) XGj)
theorem XTr {g:Xd8} {y0:Xay} {x:Bool} (hx:g y0=some x):r198 g [.agg ⟨[.int .i64 y0.Class,.int .i64 y0.Label,.int .i64 y0.Next,.int .i64 y0.Hop,.bool y0.Src.V6,.int .u64 y0.Src.Hi,.int .u64 y0.Src.Lo,.bool y0.Dst.V6,.int .u64 y0.Dst.Hi,.int .u64 y0.Dst.Lo]⟩] []=some (XGj x):=(XaP (Xi6 _)).trans (XaN hx)
def s198 (g:Xd8):Xbz:=⟨[.v],r198 g⟩
theorem XLu {g:Xd8} {y0:Xay} {x:Bool} (hx:g y0=some x):(s198 g).run [.agg ⟨[.int .i64 y0.Class,.int .i64 y0.Label,.int .i64 y0.Next,.int .i64 y0.Hop,.bool y0.Src.V6,.int .u64 y0.Src.Hi,.int .u64 y0.Src.Lo,.bool y0.Dst.V6,.int .u64 y0.Dst.Hi,.int .u64 y0.Dst.Lo]⟩] []=some (XGj x):=XTr hx
abbrev XL5:List (Nat×Xbz):=[]
theorem XGt (hS:Xaj Tryz.prog (XaI (XL5))) (ha0:Xay) (res:Bool) (h:Xix ha0=some res) :
 XaJ Tryz.prog 198 0 ⟨⟨198,42,[(0,.agg ⟨[.int .i64 ha0.Class,.int .i64 ha0.Label,.int .i64 ha0.Next,.int .i64 ha0.Hop,.bool ha0.Src.V6,.int .u64 ha0.Src.Hi,.int .u64 ha0.Src.Lo,.bool ha0.Dst.V6,.int .u64 ha0.Dst.Hi,.int .u64 ha0.Dst.Lo]⟩)],[.code Xzx],[],false,none⟩,[],[],0⟩ (fun v H _=>Res 0 (XGj res) v H):=by
 unfold Xix at h
 refine Xa7 XaE hS true 3000 ?_
 conv=>whnf
 refine Xa7 XaE hS true 3000 ?_
 conv=>whnf
 refine br.h h (by rfl) ?_ ?_
 ·clear h;intro hb h;conv=>whnf
  exact W
 clear h;intro hb h;conv=>whnf
 refine br.h h (by rfl) ?_ ?_
 ·clear h;intro hb h;conv=>whnf
  exact W
 clear h;intro hb h;conv=>whnf
 refine Xa7 XaE hS true 3000 ?_
 conv=>whnf
 refine br.h h (by rfl) ?_ ?_
 ·clear h;intro hb h;conv=>whnf
  exact W
 clear h;intro hb h;conv=>whnf
 refine br.h h (by rfl) ?_ ?_
 ·clear h;intro hb h;conv=>whnf
  exact W
 clear h;intro hb h;conv=>whnf
 refine Xa7 XaE hS true 3000 ?_
 conv=>whnf
 refine br.h h (by rfl) ?_ ?_
 ·clear h;intro hb h;conv=>whnf
  exact W
 clear h;intro hb h;conv=>whnf
 refine br.h h (by rfl) ?_ ?_
 ·clear h;intro hb h;conv=>whnf
  exact W
 clear h;intro hb h;conv=>whnf
 refine Xa7 XaE hS true 3000 ?_
 conv=>whnf
 refine br.h h (by rfl) ?_ ?_
 ·clear h;intro hb h;conv=>whnf
  exact W
 clear h;intro hb h;conv=>whnf
 refine br.h h (by rfl) ?_ ?_
 ·clear h;intro hb h;conv=>whnf
  exact W
 clear h;intro hb h;conv=>whnf
 refine Xa7 XaE hS true 3000 ?_
 conv=>whnf
 exact W
def Xc0:Xd8:=Xix
theorem XOh:XbB Tryz.prog 198 (s198 Xc0):=by
 have hL:=XGt (Xaj.XaK trivial)
 exact okA ⟨Tryz.f198,rfl,by decide,rfl⟩
def Xmx (Xb7:Xeu) (Xc0:Xd8) (Xak:XaY) (ha0:Xay) (payload:List UInt8):Option ((List UInt8)×Int):=
 (Xc0 ha0).bind fun m=>
 cond (!m)
  (
  some (([],1)))
  (
  cond (decide ((payload.length:Int)>65535))
   (
   some (([],5)))
   (
   let t:=XlD .u64 1610612736 (wI .u64 ((wI .u64 ha0.Class)*2^20))
   (Xak (XlD .u64 t (wI .u64 ha0.Label)) 4).bind fun p=>
   let t1:=wI .u64 ((wI .u64 (payload.length:Int))*2^16)
   let t2:=XlD .u64 t1 (wI .u64 ((wI .u64 ha0.Next)*2^8))
   (Xak (XlD .u64 t2 (wI .u64 ha0.Hop)) 4).bind fun p1=>
   Xbn (decide (p.length+p1.length<2^63)) <|
   (Xb7 ha0.Src).bind fun p2=>
   Xbn (decide ((p++p1).length+p2.length<2^63)) <|
   (Xb7 ha0.Dst).bind fun p3=>
   Xbn (decide (((p++p1)++p2).length+p3.length<2^63)) <|
   Xbn (decide ((((p++p1)++p2)++p3).length+payload.length<2^63)) <|
   some (((((p++p1)++p2)++p3)++payload,0))))
def XHa (x:(List UInt8)×Int):XcS:=⟨.tuple ⟨[.string ⟨⟨x.1⟩⟩,.int .i64 x.2]⟩,[],[]⟩
abbrev Xgn:=Xay→(List UInt8)→Option ((List UInt8)×Int)
def r184 (g:Xgn):Dec:=dV XgX fun (y0:Xay)=>dV asS fun (y1:List UInt8)=>XdJ (ofG (g y0 y1) XHa)
theorem XRR {g:Xgn} {y0:Xay} {y1:List UInt8} {x:(List UInt8)×Int} (hx:g y0 y1=some x):r184 g [.agg ⟨[.int .i64 y0.Class,.int .i64 y0.Label,.int .i64 y0.Next,.int .i64 y0.Hop,.bool y0.Src.V6,.int .u64 y0.Src.Hi,.int .u64 y0.Src.Lo,.bool y0.Dst.V6,.int .u64 y0.Dst.Hi,.int .u64 y0.Dst.Lo]⟩,.string ⟨⟨y1⟩⟩] []=some (XHa x):=(XaP (Xi6 _)).trans ((XaP (XdL)).trans (XaN hx))
def s184 (g:Xgn):Xbz:=⟨[.v,.v],r184 g⟩
theorem XNw {g:Xgn} {y0:Xay} {y1:List UInt8} {x:(List UInt8)×Int} (hx:g y0 y1=some x):(s184 g).run [.agg ⟨[.int .i64 y0.Class,.int .i64 y0.Label,.int .i64 y0.Next,.int .i64 y0.Hop,.bool y0.Src.V6,.int .u64 y0.Src.Hi,.int .u64 y0.Src.Lo,.bool y0.Dst.V6,.int .u64 y0.Dst.Hi,.int .u64 y0.Dst.Lo]⟩,.string ⟨⟨y1⟩⟩] []=some (XHa x):=XRR hx
abbrev XKo (Xb7:Xeu) (Xc0:Xd8) (Xak:XaY):List (Nat×Xbz):=[(195,XWW Xb7),(198,s198 Xc0),(97,s97 Xak)]
theorem XEt (Xb7:Xeu) (Xc0:Xd8) (Xak:XaY) (hS:Xaj Tryz.prog (XaI (XKo Xb7 Xc0 Xak))) (ha0:Xay) (payload:List UInt8) (res:(List UInt8)×Int) (h:Xmx Xb7 Xc0 Xak ha0 payload=some res) :
 XaJ Tryz.prog 184 0 ⟨⟨184,53,[(0,.agg ⟨[.int .i64 ha0.Class,.int .i64 ha0.Label,.int .i64 ha0.Next,.int .i64 ha0.Hop,.bool ha0.Src.V6,.int .u64 ha0.Src.Hi,.int .u64 ha0.Src.Lo,.bool ha0.Dst.V6,.int .u64 ha0.Dst.Hi,.int .u64 ha0.Dst.Lo]⟩),(1,.string ⟨⟨payload⟩⟩)],[.code XxP],[],false,none⟩,[],[],0⟩ (fun v H _=>Res 0 (XHa res) v H):=by
 unfold Xmx at h
 have R1:=@XLu Xc0
 have R2:=@Xl3 Xak
 have R3:=@Xt9 Xb7
 refine Xa7 XaE hS true 3000 ?_
 conv=>whnf
 exact W
def Xfm:Xgn:=Xmx Xb7 Xc0 Xak
theorem XMa:XbB Tryz.prog 184 (s184 Xfm):=by
 have hL:=XEt Xb7 Xc0 Xak (Xaj.XaK ⟨Xuo,XOh,Xnh,trivial⟩)
 exact okA ⟨Tryz.f184,rfl,by decide,rfl⟩
def Xsh (n:Int) (most:Int):Option Bool:=
 cond (decide (n≥0))
  (
  some (decide (n≤most)))
  (
  some (false))
def XHp (x:Bool):XcS:=⟨.bool x,[],[]⟩
abbrev Xjh:=Int→Int→Option Bool
def r174 (g:Xjh):Dec:=dV (asI .i64) fun (y0:Int)=>dV (asI .i64) fun (y1:Int)=>XdJ (ofG (g y0 y1) XHp)
theorem XSE {g:Xjh} {y0:Int} {y1:Int} {x:Bool} (hx:g y0 y1=some x):r174 g [.int .i64 y0,.int .i64 y1] []=some (XHp x):=(XaP (Xen _)).trans ((XaP (Xen _)).trans (XaN hx))
def s174 (g:Xjh):Xbz:=⟨[.v,.v],r174 g⟩
theorem XQx {g:Xjh} {y0:Int} {y1:Int} {x:Bool} (hx:g y0 y1=some x):(s174 g).run [.int .i64 y0,.int .i64 y1] []=some (XHp x):=XSE hx
abbrev XP6:List (Nat×Xbz):=[]
theorem XGL (hS:Xaj Tryz.prog (XaI (XP6))) (n:Int) (most:Int) (res:Bool) (h:Xsh n most=some res) :
 XaJ Tryz.prog 174 0 ⟨⟨174,12,[(0,.int .i64 n),(1,.int .i64 most)],[.code XIv],[],false,none⟩,[],[],0⟩ (fun v H _=>Res 0 (XHp res) v H):=by
 unfold Xsh at h
 refine Xa7 XaE hS true 3000 ?_
 conv=>whnf
 exact W
def Xjw:Xjh:=Xsh
theorem XP1:XbB Tryz.prog 174 (s174 Xjw):=by
 have hL:=XGL (Xaj.XaK trivial)
 exact okA ⟨Tryz.f174,rfl,by decide,rfl⟩
def Xme (Xjw:Xjh) (ha0:Xay):Option Bool:=
 (Xjw ha0.Class 255).bind fun i=>
 cond (i)
  (
  (Xjw ha0.Label 1048575).bind fun i1=>
  cond (i1)
   (
   (Xjw ha0.Next 255).bind fun i2=>
   cond (i2)
    (
    (Xjw ha0.Hop 255).bind fun i3=>
    cond (i3)
     (
     cond (ha0.Src.V6)
      (
      some (ha0.Dst.V6))
      (
      some (false)))
     (
     some (false)))
    (
    some (false)))
   (
   some (false)))
  (
  some (false))
def XC7 (x:Bool):XcS:=⟨.bool x,[],[]⟩
abbrev Xgm:=Xay→Option Bool
def r149 (g:Xgm):Dec:=dV XgX fun (y0:Xay)=>XdJ (ofG (g y0) XC7)
theorem XWX {g:Xgm} {y0:Xay} {x:Bool} (hx:g y0=some x):r149 g [.agg ⟨[.int .i64 y0.Class,.int .i64 y0.Label,.int .i64 y0.Next,.int .i64 y0.Hop,.bool y0.Src.V6,.int .u64 y0.Src.Hi,.int .u64 y0.Src.Lo,.bool y0.Dst.V6,.int .u64 y0.Dst.Hi,.int .u64 y0.Dst.Lo]⟩] []=some (XC7 x):=(XaP (Xi6 _)).trans (XaN hx)
def s149 (g:Xgm):Xbz:=⟨[.v],r149 g⟩
theorem XKR {g:Xgm} {y0:Xay} {x:Bool} (hx:g y0=some x):(s149 g).run [.agg ⟨[.int .i64 y0.Class,.int .i64 y0.Label,.int .i64 y0.Next,.int .i64 y0.Hop,.bool y0.Src.V6,.int .u64 y0.Src.Hi,.int .u64 y0.Src.Lo,.bool y0.Dst.V6,.int .u64 y0.Dst.Hi,.int .u64 y0.Dst.Lo]⟩] []=some (XC7 x):=XWX hx
abbrev XKH (Xjw:Xjh):List (Nat×Xbz):=[(174,s174 Xjw)]
theorem XDw (Xjw:Xjh) (hS:Xaj Tryz.prog (XaI (XKH Xjw))) (ha0:Xay) (res:Bool) (h:Xme Xjw ha0=some res) :
 XaJ Tryz.prog 149 0 ⟨⟨149,31,[(0,.agg ⟨[.int .i64 ha0.Class,.int .i64 ha0.Label,.int .i64 ha0.Next,.int .i64 ha0.Hop,.bool ha0.Src.V6,.int .u64 ha0.Src.Hi,.int .u64 ha0.Src.Lo,.bool ha0.Dst.V6,.int .u64 ha0.Dst.Hi,.int .u64 ha0.Dst.Lo]⟩)],[.code XIR],[],false,none⟩,[],[],0⟩ (fun v H _=>Res 0 (XC7 res) v H):=by
 unfold Xme at h
 have R1:=@XQx Xjw
 refine Xa7 XaE hS true 3000 ?_
 conv=>whnf
 exact W
def Xga:Xgm:=Xme Xjw
theorem XMX:XbB Tryz.prog 149 (s149 Xga):=by
 have hL:=XDw Xjw (Xaj.XaK ⟨XP1,trivial⟩)
 exact okA ⟨Tryz.f149,rfl,by decide,rfl⟩
def XoV (Xa3:Xck) (n:Int) (k:Int):Option (List UInt8):=
 (Xa3 (wI .u64 n) k).bind fun p=>
 some (p)
def XGv (x:List UInt8):XcS:=⟨.string ⟨⟨x⟩⟩,[],[]⟩
abbrev XhQ:=Int→Int→Option (List UInt8)
def r150 (g:XhQ):Dec:=dV (asI .i64) fun (y0:Int)=>dV (asI .i64) fun (y1:Int)=>XdJ (ofG (g y0 y1) XGv)
theorem XWJ {g:XhQ} {y0:Int} {y1:Int} {x:List UInt8} (hx:g y0 y1=some x):r150 g [.int .i64 y0,.int .i64 y1] []=some (XGv x):=(XaP (Xen _)).trans ((XaP (Xen _)).trans (XaN hx))
def s150 (g:XhQ):Xbz:=⟨[.v,.v],r150 g⟩
theorem XPG {g:XhQ} {y0:Int} {y1:Int} {x:List UInt8} (hx:g y0 y1=some x):(s150 g).run [.int .i64 y0,.int .i64 y1] []=some (XGv x):=XWJ hx
abbrev XPu (Xa3:Xck):List (Nat×Xbz):=[(63,s63 Xa3)]
theorem XHu (Xa3:Xck) (hS:Xaj Tryz.prog (XaI (XPu Xa3))) (n:Int) (k:Int) (res:List UInt8) (h:XoV Xa3 n k=some res) :
 XaJ Tryz.prog 150 0 ⟨⟨150,9,[(0,.int .i64 n),(1,.int .i64 k)],[.code XIY],[],false,none⟩,[],[],0⟩ (fun v H _=>Res 0 (XGv res) v H):=by
 unfold XoV at h
 have R1:=@Xpy Xa3
 refine Xa7 XaE hS true 3000 ?_
 conv=>whnf
 exact W
def Xhq:XhQ:=XoV Xa3
theorem XQE:XbB Tryz.prog 150 (s150 Xhq):=by
 have hL:=XHu Xa3 (Xaj.XaK ⟨XpH,trivial⟩)
 exact okA ⟨Tryz.f150,rfl,by decide,rfl⟩
def Xpl (XcA:XeX) (Xga:Xgm) (Xhq:XhQ) (ha0:Xay) (payload:List UInt8):Option ((List UInt8)×Int):=
 (Xga ha0).bind fun xr=>
 cond (!xr)
  (
  some (([],1)))
  (
  cond (decide ((payload.length:Int)>65535))
   (
   some (([],5)))
   (
   let t:=wI .i64 (1610612736+(wI .i64 (ha0.Class*1048576)))
   (Xhq (wI .i64 (t+ha0.Label)) 4).bind fun n=>
   (Xhq (payload.length:Int) 2).bind fun n1=>
   Xbn (decide (n.length+n1.length<2^63)) <|
   (Xhq ha0.Next 1).bind fun n2=>
   Xbn (decide ((n++n1).length+n2.length<2^63)) <|
   (Xhq ha0.Hop 1).bind fun n3=>
   Xbn (decide (((n++n1)++n2).length+n3.length<2^63)) <|
   (XcA ha0.Src).bind fun p=>
   Xbn (decide ((((n++n1)++n2)++n3).length+p.length<2^63)) <|
   (XcA ha0.Dst).bind fun p1=>
   Xbn (decide (((((n++n1)++n2)++n3)++p).length+p1.length<2^63)) <|
   Xbn (decide ((((((n++n1)++n2)++n3)++p)++p1).length+payload.length<2^63)) <|
   let t1:=(((((n++n1)++n2)++n3)++p)++p1)++payload
   some ((t1,0))))
def XEc (x:(List UInt8)×Int):XcS:=⟨.tuple ⟨[.string ⟨⟨x.1⟩⟩,.int .i64 x.2]⟩,[],[]⟩
abbrev Xh4:=Xay→(List UInt8)→Option ((List UInt8)×Int)
def r103 (g:Xh4):Dec:=dV XgX fun (y0:Xay)=>dV asS fun (y1:List UInt8)=>XdJ (ofG (g y0 y1) XEc)
theorem XVO {g:Xh4} {y0:Xay} {y1:List UInt8} {x:(List UInt8)×Int} (hx:g y0 y1=some x):r103 g [.agg ⟨[.int .i64 y0.Class,.int .i64 y0.Label,.int .i64 y0.Next,.int .i64 y0.Hop,.bool y0.Src.V6,.int .u64 y0.Src.Hi,.int .u64 y0.Src.Lo,.bool y0.Dst.V6,.int .u64 y0.Dst.Hi,.int .u64 y0.Dst.Lo]⟩,.string ⟨⟨y1⟩⟩] []=some (XEc x):=(XaP (Xi6 _)).trans ((XaP (XdL)).trans (XaN hx))
def s103 (g:Xh4):Xbz:=⟨[.v,.v],r103 g⟩
theorem XKF {g:Xh4} {y0:Xay} {y1:List UInt8} {x:(List UInt8)×Int} (hx:g y0 y1=some x):(s103 g).run [.agg ⟨[.int .i64 y0.Class,.int .i64 y0.Label,.int .i64 y0.Next,.int .i64 y0.Hop,.bool y0.Src.V6,.int .u64 y0.Src.Hi,.int .u64 y0.Src.Lo,.bool y0.Dst.V6,.int .u64 y0.Dst.Hi,.int .u64 y0.Dst.Lo]⟩,.string ⟨⟨y1⟩⟩] []=some (XEc x):=XVO hx
abbrev XKQ (XcA:XeX) (Xga:Xgm) (Xhq:XhQ):List (Nat×Xbz):=[(146,XSO XcA),(149,s149 Xga),(150,s150 Xhq)]
theorem XFq (XcA:XeX) (Xga:Xgm) (Xhq:XhQ) (hS:Xaj Tryz.prog (XaI (XKQ XcA Xga Xhq))) (ha0:Xay) (payload:List UInt8) (res:(List UInt8)×Int) (h:Xpl XcA Xga Xhq ha0 payload=some res) :
 XaJ Tryz.prog 103 0 ⟨⟨103,42,[(0,.agg ⟨[.int .i64 ha0.Class,.int .i64 ha0.Label,.int .i64 ha0.Next,.int .i64 ha0.Hop,.bool ha0.Src.V6,.int .u64 ha0.Src.Hi,.int .u64 ha0.Src.Lo,.bool ha0.Dst.V6,.int .u64 ha0.Dst.Hi,.int .u64 ha0.Dst.Lo]⟩),(1,.string ⟨⟨payload⟩⟩)],[.code XA4],[],false,none⟩,[],[],0⟩ (fun v H _=>Res 0 (XEc res) v H):=by
 unfold Xpl at h
 have R1:=@XKR Xga
 have R2:=@XPG Xhq
 have R3:=@Xt6 XcA
 refine Xa7 XaE hS true 3000 ?_
 conv=>whnf
 exact W
def Xim:Xh4:=Xpl XcA Xga Xhq
theorem XP3:XbB Tryz.prog 103 (s103 Xim):=by
 have hL:=XFq XcA Xga Xhq (Xaj.XaK ⟨Xut,XMX,XQE,trivial⟩)
 exact okA ⟨Tryz.f103,rfl,by decide,rfl⟩
end Go.Vm.Code
namespace Go.Vm.Code
open Go Go.Vm
def Xp4 (a:Xab):Prop:=(0≤a.Hi∧a.Hi<2^64)∧0≤a.Lo∧a.Lo<2^64
def Xqz (a:Xab):List UInt8:=be a.Hi.toNat 8++be a.Lo.toNat 8
theorem XsW {a:Xab} (h:Xp4 a) (h6:a.V6=true):Xb7 a=some (Xqz a):=by
 unfold Xb7 XlU XaH XiS
 rw [h6]
 simp only [cond_true,Option.bind_some,Bool.not_true,cond_false]
 rw [XbH h.1.1,XbH h.2.1]
 simp only [Option.bind_some,Xc9]
 rw [if_pos (by omega),if_pos (by omega),XaA (by simp)];rfl
theorem XvM {a:Xab} (h:Xp4 a) (h6:a.V6=true):XcA a=some (Xqz a):=by
 unfold XcA XnB XaT XkM
 rw [h6]
 simp only [cond_true,Option.bind_some,Bool.not_true,cond_false]
 rw [Xdq h.1.1 h.1.2,Xdq h.2.1 h.2.2]
 simp only [Option.bind_some,Xc9]
 rw [if_pos (by omega),if_pos (by omega),XaA (by simp)];rfl
def Xw8 (s:List UInt8):Xab:=⟨true,(Xgf (s.take 8):Nat),(Xgf (s.drop 8):Nat)⟩
def H6 (h:Xay):Prop:=(0≤h.Class∧h.Class≤255)∧(0≤h.Label∧h.Label≤1048575)∧(0≤h.Next∧h.Next≤255)∧(0≤h.Hop∧h.Hop≤255)∧h.Src.V6=true∧h.Dst.V6=true
instance (h:Xay):Decidable (H6 h):=inferInstanceAs (Decidable (_∧_))
theorem XNe (h:Xay):Xc0 h=some (decide (H6 h)):=by
 unfold Xc0 Xix
 simp only [Xr2]
 by_cases hh:H6 h
 ·rw [decide_eq_true hh]
  obtain ⟨a,b,c,d,e,f⟩:=hh
  rw [if_neg (by omega),if_neg (by omega),if_neg (by omega),if_neg (by omega),if_neg (by omega),if_neg (by omega),if_neg (by omega),if_neg (by omega),e,f];rfl
 ·rw [decide_eq_false hh]
  unfold H6 at hh
  repeat' split
  all_goals first|rfl|skip
  cases e:h.Src.V6
  ·rfl
  ·rw [cond_true]
   cases f:h.Dst.V6
   ·rfl
   ·exact absurd ⟨by omega,by omega,by omega,by omega,e,f⟩ hh
theorem XRE (n m:Int):Xjw n m=some (decide (0≤n∧n≤m)):=by
 unfold Xjw Xsh
 by_cases h:n≥0
 ·rw [XaW h];congr 1;rw [Bool.eq_iff_iff,decide_eq_true_eq,decide_eq_true_eq];omega
 ·rw [XaO h];congr 1;symm;exact decide_eq_false (by omega)
theorem XAh (h:Xay):Xga h=some (decide (H6 h)):=by
 unfold Xga Xme
 simp only [XRE,Option.bind_some,Xr2]
 by_cases hh:H6 h
 ·rw [decide_eq_true hh]
  obtain ⟨a,b,c,d,e,f⟩:=hh
  rw [if_pos a,if_pos b,if_pos c,if_pos d,e,f];rfl
 ·rw [decide_eq_false hh]
  unfold H6 at hh
  repeat' split
  all_goals first|rfl|skip
  cases e:h.Src.V6
  ·rfl
  ·rw [cond_true]
   cases f:h.Dst.V6
   ·rfl
   ·exact absurd ⟨by assumption,by assumption,by assumption,by assumption,e,f⟩ hh
def headB (h:Xay) (n:Nat):List UInt8:=be (6*2^28+h.Class.toNat*2^20+h.Label.toNat) 4++be n 2++be h.Next.toNat 1++be h.Hop.toNat 1++Xqz h.Src++Xqz h.Dst
def XVW (h:Xay) (p:List UInt8):List UInt8×Int:=if ¬ H6 h then ([],1) else if p.length>65535 then ([],5) else (headB h p.length++p,0)
theorem XOl {h:Xay} {p:List UInt8} (hs:Xp4 h.Src) (hd:Xp4 h.Dst) (hp:p.length<2^60):Xfm h p=some (XVW h p):=by
 unfold Xfm Xmx XVW
 rw [XNe,Option.bind_some]
 by_cases hh:H6 h
 ·rw [decide_eq_true hh,Bool.not_true,cond_false,if_neg (by simpa using hh)]
  obtain ⟨a,b,c,d,e,f⟩:=hh
  by_cases h5:(p.length:Int)>65535
  ·rw [XaW h5,if_pos (by omega)]
  rw [XaO h5,if_neg (by omega)]
  simp only []
  rw [XsW hs e,XsW hd f]
  obtain ⟨C,hC⟩:=Int.eq_ofNat_of_zero_le a.1
  obtain ⟨L,hL⟩:=Int.eq_ofNat_of_zero_le b.1
  obtain ⟨X,hX⟩:=Int.eq_ofNat_of_zero_le c.1
  obtain ⟨O,hO⟩:=Int.eq_ofNat_of_zero_le d.1
  rw [hC] at a;rw [hL] at b;rw [hX] at c;rw [hO] at d
  have e1:XlD .u64 (XlD .u64 1610612736 (wI .u64 ((wI .u64 h.Class)*2^20))) (wI .u64 h.Label)=((6*2^28+C*2^20+L:Nat):Int):=by
   rw [hC,hL,Xgt (n:=(C:Int)) (by omega) (by omega),Xgt (n:=(L:Int)) (by omega) (by omega),Xgt (n:=(C:Int)*2^20) (by omega) (by omega)]
   have g1:XlD .u64 1610612736 ((C:Int)*2^20)=((6*2^8+C:Nat):Int)*2^20:=by
    have:=Xhc 28 (a:=6) (b:=(C:Int)*2^20) (by omega) (by omega) (by omega) (by omega) (by omega)
    rw [show (6:Int)*2^28=1610612736 from rfl] at this
    rw [this];omega
   rw [g1,Xhc 20 (by omega) (by omega) (by omega) (by omega) (by omega)];omega
  have e2:XlD .u64 (XlD .u64 (wI .u64 ((wI .u64 (p.length:Int))*2^16)) (wI .u64 ((wI .u64 h.Next)*2^8))) (wI .u64 h.Hop)=((p.length*2^16+X*2^8+O:Nat):Int):=by
   rw [hX,hO,Xgt (n:=(X:Int)) (by omega) (by omega),Xgt (n:=(O:Int)) (by omega) (by omega),Xgt (n:=(p.length:Int)) (by omega) (by omega),Xgt (n:=(X:Int)*2^8) (by omega) (by omega),Xgt (n:=(p.length:Int)*2^16) (by omega) (by omega)]
   have g1:XlD .u64 ((p.length:Int)*2^16) ((X:Int)*2^8)=((p.length*2^8+X:Nat):Int)*2^8:=by
    rw [Xhc 16 (by omega) (by omega) (by omega) (by omega) (by omega)];omega
   rw [g1,Xhc 8 (by omega) (by omega) (by omega) (by omega) (by omega)];omega
  rw [e1,e2,XbH (by omega),XbH (by omega)]
  simp only [Option.bind_some,Xc9]
  have e3:be (p.length*2^16+X*2^8+O) 4=be p.length 2++be X 1++be O 1:=by
   refine be_of (by simp) ?_
   rw [val_append,val_append,XvT,XvT,XvT]
   simp only [Xq2]
   omega
  rw [if_pos (by omega),if_pos (by omega)]
  have hl:(be (6*2^28+C*2^20+L) 4).length=4:=Xq2 _ _
  simp only [Int.toNat_natCast,show (4:Int).toNat=4 from rfl,e3]
  rw [XaA (by simp),XaA (by simp [Xqz]),XaA (by simp [Xqz]),XaA (by simp [Xqz];omega)]
  simp [headB,hC,hL,hX,hO]
 ·rw [decide_eq_false hh,Bool.not_false,cond_true,if_pos hh]
theorem num6 {n k:Int} (h0:0≤n) (h1:n<2^64):Xhq n k=some (Xc9 n k):=by
 unfold Xhq XoV
 rw [Xgt h0 (by omega),Xdq h0 h1];rfl
theorem XG0 {h:Xay} {p:List UInt8} (hs:Xp4 h.Src) (hd:Xp4 h.Dst) (hp:p.length<2^60):Xim h p=some (XVW h p):=by
 unfold Xim Xpl XVW
 rw [XAh,Option.bind_some]
 by_cases hh:H6 h
 ·rw [decide_eq_true hh,Bool.not_true,cond_false,if_neg (by simpa using hh)]
  obtain ⟨a,b,c,d,e,f⟩:=hh
  by_cases h5:(p.length:Int)>65535
  ·rw [XaW h5,if_pos (by omega)]
  rw [XaO h5,if_neg (by omega)]
  simp only []
  obtain ⟨C,hC⟩:=Int.eq_ofNat_of_zero_le a.1
  obtain ⟨L,hL⟩:=Int.eq_ofNat_of_zero_le b.1
  rw [hC] at a;rw [hL] at b
  have e1:wI .i64 (wI .i64 (1610612736+(wI .i64 (h.Class*1048576)))+h.Label)=((6*2^28+C*2^20+L:Nat):Int):=by
   rw [hC,hL,Xed (n:=(C:Int)*1048576) (by omega) (by omega),Xed (n:=1610612736+(C:Int)*1048576) (by omega) (by omega),Xed (by omega) (by omega)];omega
  rw [e1,XvM hs e,XvM hd f,num6 (by omega) (by omega),num6 (by omega) (by omega),num6 c.1 (by omega),num6 d.1 (by omega)]
  simp only [Option.bind_some,Xc9]
  rw [if_pos (by omega),if_pos (by omega),if_pos (by omega),if_pos (by omega)]
  simp only [Int.toNat_natCast,show (4:Int).toNat=4 from rfl,show (2:Int).toNat=2 from rfl,show (1:Int).toNat=1 from rfl]
  rw [XaA (by simp),XaA (by simp),XaA (by simp),XaA (by simp [Xqz]),XaA (by simp [Xqz]),XaA (by simp [Xqz];omega)]
  simp [headB,hC,hL]
 ·rw [decide_eq_false hh,Bool.not_false,cond_true,if_pos hh]
end Go.Vm.Code
namespace Go.Vm.Code
open Go Go.Vm Go.Proofs
set_option maxRecDepth 100000
set_option maxHeartbeats 4000000
set_option linter.unusedVariables false
def XlE (Xbq:Xc2) (s:List UInt8):Option (Xab×Bool):=
 cond ((s.length:Int)==4)
  (
  (Xbq s 0 4).bind fun xg=>
  some ((Xab.mk false 0 xg.1,true)))
  (
  cond ((s.length:Int)==16)
   (
   (Xbq s 0 8).bind fun xg1=>
   (Xbq s 8 8).bind fun xg2=>
   some ((Xab.mk true xg1.1 xg2.1,true)))
   (
   some ((Xab.mk false 0 0,false))))
def XG6 (x:Xab×Bool):XcS:=⟨.tuple ⟨[.agg ⟨[.bool x.1.V6,.int .u64 x.1.Hi,.int .u64 x.1.Lo]⟩,.bool x.2]⟩,[],[]⟩
abbrev Xfj:=(List UInt8)→Option (Xab×Bool)
def r202 (g:Xfj):Dec:=dV asS fun (y0:List UInt8)=>XdJ (ofG (g y0) XG6)
theorem XUc {g:Xfj} {y0:List UInt8} {x:Xab×Bool} (hx:g y0=some x):r202 g [.string ⟨⟨y0⟩⟩] []=some (XG6 x):=(XaP (XdL)).trans (XaN hx)
def s202 (g:Xfj):Xbz:=⟨[.v],r202 g⟩
theorem XzB {g:Xfj} {y0:List UInt8} {x:Xab×Bool} (hx:g y0=some x):(s202 g).run [.string ⟨⟨y0⟩⟩] []=some (XG6 x):=XUc hx
abbrev XPm (Xbq:Xc2):List (Nat×Xbz):=[(95,s95 Xbq)]
theorem XFf (Xbq:Xc2) (hS:Xaj Tryz.prog (XaI (XPm Xbq))) (s:List UInt8) (res:Xab×Bool) (h:XlE Xbq s=some res) :
 XaJ Tryz.prog 202 0 ⟨⟨202,35,[(0,.string ⟨⟨s⟩⟩)],[.code XAf],[],false,none⟩,[],[],0⟩ (fun v H _=>Res 0 (XG6 res) v H):=by
 unfold XlE at h
 have R1:=@XAz Xbq
 refine Xa7 XaE hS true 3000 ?_
 conv=>whnf
 exact W
def XdH:Xfj:=XlE Xbq
theorem XBn:XbB Tryz.prog 202 (s202 XdH):=by
 have hL:=XFf Xbq (Xaj.XaK ⟨XxB,trivial⟩)
 exact okA ⟨Tryz.f202,rfl,by decide,rfl⟩
def Xns (Xdg:Xe0) (s:List UInt8):Option (Xab×Bool):=
 cond ((s.length:Int)==4)
  (
  (Xdg s 0 4).bind fun xg=>
  some ((Xab.mk false 0 xg.1,true)))
  (
  cond ((s.length:Int)==16)
   (
   (Xdg s 0 8).bind fun xg1=>
   (Xdg s 8 8).bind fun xg2=>
   some ((Xab.mk true xg1.1 xg2.1,true)))
   (
   some ((Xab.mk false 0 0,false))))
def XHh (x:Xab×Bool):XcS:=⟨.tuple ⟨[.agg ⟨[.bool x.1.V6,.int .u64 x.1.Hi,.int .u64 x.1.Lo]⟩,.bool x.2]⟩,[],[]⟩
abbrev Xf5:=(List UInt8)→Option (Xab×Bool)
def r177 (g:Xf5):Dec:=dV asS fun (y0:List UInt8)=>XdJ (ofG (g y0) XHh)
theorem XTY {g:Xf5} {y0:List UInt8} {x:Xab×Bool} (hx:g y0=some x):r177 g [.string ⟨⟨y0⟩⟩] []=some (XHh x):=(XaP (XdL)).trans (XaN hx)
def s177 (g:Xf5):Xbz:=⟨[.v],r177 g⟩
theorem XAm {g:Xf5} {y0:List UInt8} {x:Xab×Bool} (hx:g y0=some x):(s177 g).run [.string ⟨⟨y0⟩⟩] []=some (XHh x):=XTY hx
abbrev XNR (Xdg:Xe0):List (Nat×Xbz):=[(87,s87 Xdg)]
theorem XHx (Xdg:Xe0) (hS:Xaj Tryz.prog (XaI (XNR Xdg))) (s:List UInt8) (res:Xab×Bool) (h:Xns Xdg s=some res) :
 XaJ Tryz.prog 177 0 ⟨⟨177,37,[(0,.string ⟨⟨s⟩⟩)],[.code XyT],[],false,none⟩,[],[],0⟩ (fun v H _=>Res 0 (XHh res) v H):=by
 unfold Xns at h
 have R1:=@Xy9 Xdg
 refine Xa7 XaE hS true 3000 ?_
 conv=>whnf
 exact W
def Xes:Xf5:=Xns Xdg
theorem Xyi:XbB Tryz.prog 177 (s177 Xes):=by
 have hL:=XHx Xdg (Xaj.XaK ⟨Xyl,trivial⟩)
 exact okA ⟨Tryz.f177,rfl,by decide,rfl⟩
end Go.Vm.Code
namespace Go.Vm.Code
open Go Go.Vm
theorem Xrh {s:List UInt8} (h:s.length=16):XdH s=some (Xw8 s,true):=by
 unfold XdH XlE
 have e1:((s.length:Int)==4)=false:=by rw [h];rfl
 have e2:((s.length:Int)==16)=true:=by rw [h];rfl
 have e3:(s.drop 8).take 8=s.drop 8:=List.take_of_length_le (by simp;omega)
 rw [e1,e2,cond_false,cond_true,XgZ (by omega),XgZ (by omega),Xju (p:=0) (k:=8) (by omega) (by omega) (by omega) (by omega),Xju (p:=8) (k:=8) (by omega) (by omega) (by omega) (by omega)]
 show some ((⟨true,((Xgf ((s.drop 0).take 8):Nat):Int),((Xgf ((s.drop 8).take 8):Nat):Int)⟩:Xab),true)=_
 rw [e3];rfl
theorem Xsu {s:List UInt8} (h:s.length=16):Xes s=some (Xw8 s,true):=by
 unfold Xes Xns
 have e1:((s.length:Int)==4)=false:=by rw [h];rfl
 have e2:((s.length:Int)==16)=true:=by rw [h];rfl
 have e3:(s.drop 8).take 8=s.drop 8:=List.take_of_length_le (by simp;omega)
 rw [e1,e2,cond_false,cond_true,XkT (by omega),XkT (by omega),Xju (p:=0) (k:=8) (by omega) (by omega) (by omega) (by omega),Xju (p:=8) (k:=8) (by omega) (by omega) (by omega) (by omega)]
 show some ((⟨true,((Xgf ((s.drop 0).take 8):Nat):Int),((Xgf ((s.drop 8).take 8):Nat):Int)⟩:Xab),true)=_
 rw [e3];rfl
def adr4 (s:List UInt8) (p:Nat):Xab:=⟨false,0,vK s p 4⟩
theorem aget4 {s:List UInt8} (h:s.length=4):XdH s=some (⟨false,0,vK s 0 4⟩,true):=by
 unfold XdH XlE
 rw [show ((s.length:Int)==4)=true by rw [h];rfl,cond_true,XgZ (by omega),Xju (by omega) (by omega) (by omega) (by omega)];rfl
theorem XIt {s:List UInt8} (h:s.length=4):Xes s=some (⟨false,0,vK s 0 4⟩,true):=by
 unfold Xes Xns
 rw [show ((s.length:Int)==4)=true by rw [h];rfl,cond_true,XkT (by omega),Xju (by omega) (by omega) (by omega) (by omega)];rfl
end Go.Vm.Code
namespace Go.Vm.Code
open Go Go.Vm Go.Proofs
set_option maxRecDepth 100000
set_option maxHeartbeats 4000000
set_option linter.unusedVariables false
def Xfp (XdH:Xfj) (Xaf:XaB) (f:XdX):Option (Xab×Xag):=
 (Xaf f.Reader 4).bind fun t=>
 (XdH t.1).bind fun xg=>
 some ((xg.1,t.2))
def XEL (x:Xab×Xag):XcS:=⟨.agg ⟨[.bool x.1.V6,.int .u64 x.1.Hi,.int .u64 x.1.Lo]⟩,[],[some [.string ⟨⟨x.2.s⟩⟩,.bool x.2.made,.bool x.2.bad]]⟩
abbrev Xcj:=XdX→Option (Xab×Xag)
def r201 (g:Xcj):Dec:=dTr 1 (Xiq 0) fun (y0:XdX)=>XdJ (ofG (g y0) XEL)
theorem XSD {g:Xcj} {y0:XdX} {x:Xab×Xag} (hx:g y0=some x):r201 g [.agg ⟨[.pointer (some ⟨0,0,none⟩)]⟩] [some [.string ⟨⟨y0.Reader.s⟩⟩,.bool y0.Reader.made,.bool y0.Reader.bad]]=some (XEL x):=(XRf rfl rfl (Xoz 0 _)).trans (XaN hx)
def s201 (g:Xcj):Xbz:=⟨[.tr [⟨none,0,0,1,none⟩]],r201 g⟩
theorem XNG {g:Xcj} {y0:XdX} {x:Xab×Xag} (hx:g y0=some x):(s201 g).run [.agg ⟨[.pointer (some ⟨0,0,none⟩)]⟩] [some [.string ⟨⟨y0.Reader.s⟩⟩,.bool y0.Reader.made,.bool y0.Reader.bad]]=some (XEL x):=XSD hx
abbrev XKY (XdH:Xfj) (Xaf:XaB):List (Nat×Xbz):=[(202,s202 XdH),(129,XBJ Xaf)]
theorem XD0 (XdH:Xfj) (Xaf:XaB) (hS:Xaj Tryz.prog (XaI (XKY XdH Xaf))) (f:XdX) (res:Xab×Xag) (h:Xfp XdH Xaf f=some res) :
 XaJ Tryz.prog 201 1 ⟨⟨201,13,[(0,.agg ⟨[.pointer (some ⟨0,0,none⟩)]⟩)],[.code XH7],[],false,none⟩,[],[(0,.cells [.string ⟨⟨f.Reader.s⟩⟩,.bool f.Reader.made,.bool f.Reader.bad])],1⟩ (fun v H _=>Res 1 (XEL res) v H):=by
 unfold Xfp at h
 have R1:=@XlJ Xaf
 have R2:=@XzB XdH
 refine Xa7 XaE hS true 3000 ?_
 conv=>whnf
 exact W
def Xbu:Xcj:=Xfp XdH Xaf
theorem XO0:XbB Tryz.prog 201 (s201 Xbu):=by
 have hL:=XD0 XdH Xaf (Xaj.XaK ⟨XBn,XlX,trivial⟩)
 exact okA ⟨Tryz.f201,rfl,by decide,rfl⟩
def Xk4 (Xbi:XcN) (Xbu:Xcj) (Xbd:Xcl) (Xad:XaL) (Xaf:XaB) (s:List UInt8):Option (Xan×(List UInt8)×Int):=
 cond (decide ((s.length:Int)<20))
  (
  some ((Xan.mk 0 0 false 0 0 (Xab.mk false 0 0) (Xab.mk false 0 0) [],[],2)))
  (
  (Xbd s).bind fun n=>
  (Xad n 1).bind fun n1=>
  (Xad n1.2 1).bind fun n2=>
  (Xad n2.2 2).bind fun n3=>
  cond ((n1.1.fdiv (2^4)) !=4)
   (
   some ((Xan.mk 0 0 false 0 0 (Xab.mk false 0 0) (Xab.mk false 0 0) [],[],3)))
   (
   let t:=decide ((wI .i64 ((XnT .i64 n1.1 15)*4))<20)
   cond (t)
    (
    some ((Xan.mk 0 0 false 0 0 (Xab.mk false 0 0) (Xab.mk false 0 0) [],[],3)))
    (
    let t1:=decide (n3.1<(wI .i64 ((XnT .i64 n1.1 15)*4)))
    cond (t1)
     (
     some ((Xan.mk 0 0 false 0 0 (Xab.mk false 0 0) (Xab.mk false 0 0) [],[],3)))
     (
     cond (decide (n3.1>(s.length:Int)))
      (
      some ((Xan.mk 0 0 false 0 0 (Xab.mk false 0 0) (Xab.mk false 0 0) [],[],2)))
      (
      Xbn (decide ((0:Int)≤(wI .i64 ((XnT .i64 n1.1 15)*4))∧(wI .i64 ((XnT .i64 n1.1 15)*4))≤(s.length:Int))) <|
      let t2:=s.take (wI .i64 ((XnT .i64 n1.1 15)*4)).toNat
      (Xbi t2).bind fun xr=>
      cond (!xr)
       (
       some ((Xan.mk 0 0 false 0 0 (Xab.mk false 0 0) (Xab.mk false 0 0) [],[],4)))
       (
       (Xad n3.2 2).bind fun n4=>
       (Xad n4.2 2).bind fun n5=>
       cond ((XEu .i64 n5.1 16384) !=0)
        (
        some ((Xan.mk 0 0 false 0 0 (Xab.mk false 0 0) (Xab.mk false 0 0) [],[],7)))
        (
        (Xad n5.2 1).bind fun n6=>
        (Xad n6.2 1).bind fun n7=>
        (Xad n7.2 2).bind fun n8=>
        (Xbu (XdX.mk n8.2)).bind fun a=>
        (Xbu (XdX.mk a.2)).bind fun a1=>
        let t3:=wI .i64 ((wI .i64 ((XnT .i64 n1.1 15)*4)) - 20)
        (Xaf a1.2 t3).bind fun t4=>
        let t5:=wI .i64 (n3.1 - (wI .i64 ((XnT .i64 n1.1 15)*4)))
        (Xaf t4.2 t5).bind fun t6=>
        some ((Xan.mk n2.1 n4.1 (n5.1 !=0) n6.1 n7.1 a.1 a1.1 t4.1,t6.1,0)))))))))
def XC3 (x:Xan×(List UInt8)×Int):XcS:=⟨.tuple ⟨[.agg ⟨[.int .i64 x.1.Class,.int .i64 x.1.Mark,.bool x.1.Whole,.int .i64 x.1.TTL,.int .i64 x.1.Proto,.bool x.1.Src.V6,.int .u64 x.1.Src.Hi,.int .u64 x.1.Src.Lo,.bool x.1.Dst.V6,.int .u64 x.1.Dst.Hi,.int .u64 x.1.Dst.Lo,.string ⟨⟨x.1.Options⟩⟩]⟩,.string ⟨⟨x.2.1⟩⟩,.int .i64 x.2.2]⟩,[],[]⟩
abbrev XfE:=(List UInt8)→Option (Xan×(List UInt8)×Int)
def r190 (g:XfE):Dec:=dV asS fun (y0:List UInt8)=>XdJ (ofG (g y0) XC3)
theorem XWN {g:XfE} {y0:List UInt8} {x:Xan×(List UInt8)×Int} (hx:g y0=some x):r190 g [.string ⟨⟨y0⟩⟩] []=some (XC3 x):=(XaP (XdL)).trans (XaN hx)
def s190 (g:XfE):Xbz:=⟨[.v],r190 g⟩
theorem XJ4 {g:XfE} {y0:List UInt8} {x:Xan×(List UInt8)×Int} (hx:g y0=some x):(s190 g).run [.string ⟨⟨y0⟩⟩] []=some (XC3 x):=XWN hx
abbrev XMT (Xbi:XcN) (Xbu:Xcj) (Xbd:Xcl) (Xad:XaL) (Xaf:XaB):List (Nat×Xbz):=[(80,s80 Xbi),(201,s201 Xbu),(77,s77 Xbd),(78,s78 Xad),(129,XBJ Xaf)]
theorem XFe (Xbi:XcN) (Xbu:Xcj) (Xbd:Xcl) (Xad:XaL) (Xaf:XaB) (hS:Xaj Tryz.prog (XaI (XMT Xbi Xbu Xbd Xad Xaf))) (s:List UInt8) (res:Xan×(List UInt8)×Int) (h:Xk4 Xbi Xbu Xbd Xad Xaf s=some res) :
 XaJ Tryz.prog 190 0 ⟨⟨190,102,[(0,.string ⟨⟨s⟩⟩)],[.code XyJ],[],false,none⟩,[],[],0⟩ (fun v H _=>Res 0 (XC3 res) v H):=by
 unfold Xk4 at h
 have R1:=@XtD Xbd
 have R2:=@XmI Xad
 have R3:=@Xyx Xbi
 have R4:=@XNG Xbu
 have R5:=@XlJ Xaf
 refine Xa7 XaE hS true 3000 ?_
 conv=>whnf
 exact W
def Xfc:XfE:=Xk4 Xbi Xbu Xbd Xad Xaf
theorem XPL:XbB Tryz.prog 190 (s190 Xfc):=by
 have hL:=XFe Xbi Xbu Xbd Xad Xaf (Xaj.XaK ⟨XAO,XO0,XsS,XqP,XlX,trivial⟩)
 exact okA ⟨Tryz.f190,rfl,by decide,rfl⟩
def Xpk (Xas:XbL) (Xcy:Xd6) (Xes:Xf5) (s:List UInt8):Option (Xan×(List UInt8)×Int):=
 cond (decide ((s.length:Int)<20))
  (
  some ((Xan.mk 0 0 false 0 0 (Xab.mk false 0 0) (Xab.mk false 0 0) [],[],2)))
  (
  (s[0]?).bind fun (b:UInt8)=>
  let t:=wI .i64 (4*(wI .i64 ((b.toNat:Int).tmod 16)))
  (Xas s 2 2).bind fun m=>
  (s[0]?).bind fun (b1:UInt8)=>
  cond ((wI .u8 ((b1.toNat:Int).tdiv 16)) !=4)
   (
   some ((Xan.mk 0 0 false 0 0 (Xab.mk false 0 0) (Xab.mk false 0 0) [],[],3)))
   (
   cond (decide (t<20))
    (
    some ((Xan.mk 0 0 false 0 0 (Xab.mk false 0 0) (Xab.mk false 0 0) [],[],3)))
    (
    cond (decide (m<t))
     (
     some ((Xan.mk 0 0 false 0 0 (Xab.mk false 0 0) (Xab.mk false 0 0) [],[],3)))
     (
     cond (decide ((s.length:Int)<m))
      (
      some ((Xan.mk 0 0 false 0 0 (Xab.mk false 0 0) (Xab.mk false 0 0) [],[],2)))
      (
      Xbn (decide ((0:Int)≤t∧t≤(s.length:Int))) <|
      (Xcy (s.take t.toNat)).bind fun s1=>
      cond (s1 !=65535)
       (
       some ((Xan.mk 0 0 false 0 0 (Xab.mk false 0 0) (Xab.mk false 0 0) [],[],4)))
       (
       (s[6]?).bind fun (b2:UInt8)=>
       cond ((b2.toNat:Int) !=0)
        (
        (s[6]?).bind fun (b3:UInt8)=>
        cond ((b3.toNat:Int) !=64)
         (
         some ((Xan.mk 0 0 false 0 0 (Xab.mk false 0 0) (Xab.mk false 0 0) [],[],7)))
         (
         (s[7]?).bind fun (b4:UInt8)=>
         cond ((b4.toNat:Int) !=0)
          (
          some ((Xan.mk 0 0 false 0 0 (Xab.mk false 0 0) (Xab.mk false 0 0) [],[],7)))
          (
          Xbn (decide ((0:Int)≤(16:Int)∧(16:Int)≤(s.length:Int)∧(0:Int)≤(12:Int)∧(12:Int)≤(16:Int))) <|
          (Xes ((s.drop 12).take 4)).bind fun xg=>
          Xbn (decide ((0:Int)≤(20:Int)∧(20:Int)≤(s.length:Int)∧(0:Int)≤(16:Int)∧(16:Int)≤(20:Int))) <|
          (Xes ((s.drop 16).take 4)).bind fun xg1=>
          (s[1]?).bind fun (b5:UInt8)=>
          (Xas s 4 2).bind fun m1=>
          (s[6]?).bind fun (b6:UInt8)=>
          (s[8]?).bind fun (b7:UInt8)=>
          (s[9]?).bind fun (b8:UInt8)=>
          Xbn (decide ((0:Int)≤t∧t≤(s.length:Int)∧(0:Int)≤(20:Int)∧(20:Int)≤(t.toNat:Int))) <|
          Xbn (decide ((0:Int)≤m∧m≤(s.length:Int)∧(0:Int)≤t∧t≤(m.toNat:Int))) <|
          let t1:=(s.drop t.toNat).take (m.toNat - t.toNat)
          some ((Xan.mk (wI .i64 (b5.toNat:Int)) m1 ((b6.toNat:Int)==64) (wI .i64 (b7.toNat:Int)) (wI .i64 (b8.toNat:Int)) xg.1 xg1.1 ((s.drop 20).take (t.toNat - 20)),t1,0)))))
        (
        (s[7]?).bind fun (b9:UInt8)=>
        cond ((b9.toNat:Int) !=0)
         (
         some ((Xan.mk 0 0 false 0 0 (Xab.mk false 0 0) (Xab.mk false 0 0) [],[],7)))
         (
         Xbn (decide ((0:Int)≤(16:Int)∧(16:Int)≤(s.length:Int)∧(0:Int)≤(12:Int)∧(12:Int)≤(16:Int))) <|
         (Xes ((s.drop 12).take 4)).bind fun xg2=>
         Xbn (decide ((0:Int)≤(20:Int)∧(20:Int)≤(s.length:Int)∧(0:Int)≤(16:Int)∧(16:Int)≤(20:Int))) <|
         (Xes ((s.drop 16).take 4)).bind fun xg3=>
         (s[1]?).bind fun (b10:UInt8)=>
         (Xas s 4 2).bind fun m2=>
         (s[6]?).bind fun (b11:UInt8)=>
         (s[8]?).bind fun (b12:UInt8)=>
         (s[9]?).bind fun (b13:UInt8)=>
         Xbn (decide ((0:Int)≤t∧t≤(s.length:Int)∧(0:Int)≤(20:Int)∧(20:Int)≤(t.toNat:Int))) <|
         Xbn (decide ((0:Int)≤m∧m≤(s.length:Int)∧(0:Int)≤t∧t≤(m.toNat:Int))) <|
         let t2:=(s.drop t.toNat).take (m.toNat - t.toNat)
         some ((Xan.mk (wI .i64 (b10.toNat:Int)) m2 ((b11.toNat:Int)==64) (wI .i64 (b12.toNat:Int)) (wI .i64 (b13.toNat:Int)) xg2.1 xg3.1 ((s.drop 20).take (t.toNat - 20)),t2,0))))))))))
def XFa (x:Xan×(List UInt8)×Int):XcS:=⟨.tuple ⟨[.agg ⟨[.int .i64 x.1.Class,.int .i64 x.1.Mark,.bool x.1.Whole,.int .i64 x.1.TTL,.int .i64 x.1.Proto,.bool x.1.Src.V6,.int .u64 x.1.Src.Hi,.int .u64 x.1.Src.Lo,.bool x.1.Dst.V6,.int .u64 x.1.Dst.Hi,.int .u64 x.1.Dst.Lo,.string ⟨⟨x.1.Options⟩⟩]⟩,.string ⟨⟨x.2.1⟩⟩,.int .i64 x.2.2]⟩,[],[]⟩
abbrev XhW:=(List UInt8)→Option (Xan×(List UInt8)×Int)
def r152 (g:XhW):Dec:=dV asS fun (y0:List UInt8)=>XdJ (ofG (g y0) XFa)
theorem XWq {g:XhW} {y0:List UInt8} {x:Xan×(List UInt8)×Int} (hx:g y0=some x):r152 g [.string ⟨⟨y0⟩⟩] []=some (XFa x):=(XaP (XdL)).trans (XaN hx)
def s152 (g:XhW):Xbz:=⟨[.v],r152 g⟩
theorem XN3 {g:XhW} {y0:List UInt8} {x:Xan×(List UInt8)×Int} (hx:g y0=some x):(s152 g).run [.string ⟨⟨y0⟩⟩] []=some (XFa x):=XWq hx
abbrev XQo (Xas:XbL) (Xcy:Xd6) (Xes:Xf5):List (Nat×Xbz):=[(88,s88 Xas),(86,s86 Xcy),(177,s177 Xes)]
theorem XCE (Xas:XbL) (Xcy:Xd6) (Xes:Xf5) (hS:Xaj Tryz.prog (XaI (XQo Xas Xcy Xes))) (s:List UInt8) (res:Xan×(List UInt8)×Int) (h:Xpk Xas Xcy Xes s=some res) :
 XaJ Tryz.prog 152 0 ⟨⟨152,97,[(0,.string ⟨⟨s⟩⟩)],[.code XyL],[],false,none⟩,[],[],0⟩ (fun v H _=>Res 0 (XFa res) v H):=by
 unfold Xpk at h
 have R1:=@XoB Xas
 have R2:=@XvE Xcy
 have R3:=@XAm Xes
 refine Xa7 XaE hS true 3000 ?_
 conv=>whnf
 exact W
def XiG:XhW:=Xpk Xas Xcy Xes
theorem XO7:XbB Tryz.prog 152 (s152 XiG):=by
 have hL:=XCE Xas Xcy Xes (Xaj.XaK ⟨Xqe,Xu9,Xyi,trivial⟩)
 exact okA ⟨Tryz.f152,rfl,by decide,rfl⟩
end Go.Vm.Code
namespace Go.Vm.Code
open Go Go.Vm
def Xqa:Xan:=⟨0,0,false,0,0,⟨false,0,0⟩,⟨false,0,0⟩,[]⟩
def Xkj (s:List UInt8):Xan×List UInt8×Int:=
 if s.length<20 then (Xqa,[],2) else if vK s 0 1/16≠4 then (Xqa,[],3) else if vK s 0 1%16*4<20 then (Xqa,[],3) else if vK s 2 2<vK s 0 1%16*4 then (Xqa,[],3) else if (s.length:Int)<vK s 2 2 then (Xqa,[],2) else
  if norm (Xic (s.take (vK s 0 1%16*4).toNat))≠65535 then (Xqa,[],4) else if vK s 6 2≠0∧vK s 6 2≠16384 then (Xqa,[],7) else
   (⟨vK s 1 1,vK s 4 2,vK s 6 2 !=0,vK s 8 1,vK s 9 1,adr4 s 12,adr4 s 16,(s.drop 20).take ((vK s 0 1%16*4).toNat - 20)⟩,(s.drop (vK s 0 1%16*4).toNat).take ((vK s 2 2).toNat - (vK s 0 1%16*4).toNat),0)
theorem Xz1 (s:List UInt8) (p:Nat):vK ((s.drop p).take 4) 0 4=vK s p 4:=by unfold vK;simp [List.take_take]
theorem XSn {s:List UInt8} {p:Nat} (h:p+4≤s.length):Xbu ⟨⟨s.drop p,true,false⟩⟩=some (adr4 s p,⟨s.drop (p+4),true,false⟩):=by
 unfold Xbu Xfp
 rw [show (4:Int)=((4:Nat):Int) from rfl,Xrp h,Option.bind_some,aget4 (by simp;omega),Option.bind_some,Xz1];rfl
theorem g5_eq {s:List UInt8} (hs:s.length<2^38):Xfc s=some (Xkj s):=by
 unfold Xfc Xk4 Xkj
 by_cases h0:s.length<20
 ·rw [XaW (by omega),if_pos h0];rfl
 rw [XaO (by omega),if_neg h0,Xqd,Option.bind_some]
 have N:∀ (p k:Nat),1≤k→k≤7→p+k≤20→Xad ⟨s.drop p,true,false⟩ (k:Int)=some (vK s p k,⟨s.drop (p+k),true,false⟩):=fun p k a b c=>XI7 a b (by omega) (by omega)
 have N0:Xad ⟨s,true,false⟩ 1=some (vK s 0 1,⟨s.drop 1,true,false⟩):=N 0 1 (by omega) (by omega) (by omega)
 have N1:Xad ⟨s.drop 1,true,false⟩ 1=some (vK s 1 1,⟨s.drop 2,true,false⟩):=N 1 1 (by omega) (by omega) (by omega)
 have N2:Xad ⟨s.drop 2,true,false⟩ 2=some (vK s 2 2,⟨s.drop 4,true,false⟩):=N 2 2 (by omega) (by omega) (by omega)
 have N4:Xad ⟨s.drop 4,true,false⟩ 2=some (vK s 4 2,⟨s.drop 6,true,false⟩):=N 4 2 (by omega) (by omega) (by omega)
 have N6:Xad ⟨s.drop 6,true,false⟩ 2=some (vK s 6 2,⟨s.drop 8,true,false⟩):=N 6 2 (by omega) (by omega) (by omega)
 have N8:Xad ⟨s.drop 8,true,false⟩ 1=some (vK s 8 1,⟨s.drop 9,true,false⟩):=N 8 1 (by omega) (by omega) (by omega)
 have N9:Xad ⟨s.drop 9,true,false⟩ 1=some (vK s 9 1,⟨s.drop 10,true,false⟩):=N 9 1 (by omega) (by omega) (by omega)
 have N10:Xad ⟨s.drop 10,true,false⟩ 2=some (vK s 10 2,⟨s.drop 12,true,false⟩):=N 10 2 (by omega) (by omega) (by omega)
 rw [N0,Option.bind_some,N1,Option.bind_some,N2,Option.bind_some]
 simp only []
 rw [N4]
 simp only [Option.bind_some]
 rw [N6,Xs8,show ((2:Int)^4)=16 from rfl]
 have r0:=Xgl s 0 1 256 (by decide)
 have r2:=Xgl s 2 2 65536 (by decide)
 have ea:XnT .i64 (vK s 0 1) 15=vK s 0 1%16:=XjW 4 rfl (by omega) (by omega) (by omega)
 rw [ea,Xed (n:=vK s 0 1%16*4) (by omega) (by omega)]
 have hz:(⟨0,0,false,0,0,⟨false,0,0⟩,⟨false,0,0⟩,[]⟩:Xan)=Xqa:=rfl
 rw [hz]
 by_cases g1:vK s 0 1/16=4
 ·rw [show (vK s 0 1/16 !=4)=false by simpa using g1,cond_false,if_neg (by simpa using g1)]
  obtain ⟨t,ht⟩:=Int.eq_ofNat_of_zero_le (show 0≤vK s 0 1%16*4 by omega)
  rw [ht]
  simp only [Option.bind_some,Int.toNat_natCast]
  by_cases g2:(t:Int)<20
  ·rw [XaW g2,if_pos g2]
  rw [XaO g2,if_neg g2]
  by_cases g3:vK s 2 2<t
  ·rw [XaW g3,if_pos g3]
  rw [XaO g3,if_neg g3]
  by_cases g4:(s.length:Int)<vK s 2 2
  ·rw [XaW (by omega),if_pos g4]
  rw [XaO (by omega),if_neg g4,XaA (by omega),XrY (by simp;omega),Option.bind_some]
  by_cases g5:norm (Xic (s.take t))=65535
  ·rw [if_neg (by simpa using g5),g5]
   simp only [show ((((65535:Nat):Int)==65535))=true from rfl,Bool.not_true,cond_false]
   have e6:=Xy8 (s:=s) (p:=6) (by omega)
   rw [show (XEu .i64 (vK s 6 2) 16384 !=0)=decide (vK s 6 2≠0∧vK s 6 2≠16384) by rw [e6];exact XzX,Xr2]
   split
   ·rfl
   obtain ⟨m,hm⟩:=Int.eq_ofNat_of_zero_le r2.1
   rw [N8,Option.bind_some,N9,Option.bind_some,N10,Option.bind_some,XSn (by omega),Option.bind_some,XSn (by omega),Option.bind_some,Xed (n:=(t:Int) - 20) (by omega) (by omega),hm,Xed (n:=(m:Int) - t) (by omega) (by omega)]
   simp only []
   rw [show (t:Int) - 20=((t - 20:Nat):Int) by omega,show (m:Int) - t=((m - t:Nat):Int) by omega,Xrp (by omega),Option.bind_some]
   simp only []
   rw [Xrp (by omega),Option.bind_some,show 12+4+4+(t - 20)=t by omega,Int.toNat_natCast]
  ·rw [if_pos (by simpa using g5),show ((((norm (Xic (s.take t)):Nat):Int)==65535))=false by simp;omega];rfl
 ·rw [show (vK s 0 1/16 !=4)=true by simpa using g1,cond_true,if_pos (by simpa using g1)]
theorem XSy {s:List UInt8} (hs:s.length<2^38):XiG s=some (Xkj s):=by
 unfold XiG Xpk Xkj
 by_cases h0:s.length<20
 ·rw [XaW (by omega),if_pos h0];rfl
 rw [XaO (by omega),if_neg h0]
 have G:∀ i:Nat,(h:i<20)→s[i]?=some (s[i]'(by omega)):=fun i h=>List.getElem?_eq_getElem (by omega)
 have M:∀ (p k:Nat),1≤k→k≤7→p+k≤20→Xas s (p:Int) (k:Int)=some (vK s p k):=fun p k a b c=>XrU (by omega) a b (by omega)
 have M2:Xas s 2 2=some (vK s 2 2):=M 2 2 (by omega) (by omega) (by omega)
 have M4:Xas s 4 2=some (vK s 4 2):=M 4 2 (by omega) (by omega) (by omega)
 rw [G 0 (by omega),G 1 (by omega),G 6 (by omega),G 7 (by omega),G 8 (by omega),G 9 (by omega),M2,M4]
 have e0:=XmM (s:=s) (p:=0) (by omega)
 have e1:=XmM (s:=s) (p:=1) (by omega)
 have e8:=XmM (s:=s) (p:=8) (by omega)
 have e9:=XmM (s:=s) (p:=9) (by omega)
 have e6:vK s 6 2=(s[6].toNat*256+s[7].toNat:Int):=Xy8 (s:=s) (p:=6) (by omega)
 have r0:=Xgl s 0 1 256 (by decide)
 have r1:=Xgl s 1 1 256 (by decide)
 have r8:=Xgl s 8 1 256 (by decide)
 have r9:=Xgl s 9 1 256 (by decide)
 have r2:=Xgl s 2 2 65536 (by decide)
 simp only [Option.bind_some]
 rw [←e0,←e1,←e8,←e9,Int.tmod_eq_emod_of_nonneg r0.1,Int.tdiv_eq_ediv_of_nonneg r0.1,Xed (n:=vK s 0 1%16) (by omega) (by omega),Xed (n:=4*(vK s 0 1%16)) (by omega) (by omega),wU8 (n:=vK s 0 1/16) (by omega) (by omega),Xed (n:=vK s 1 1) (by omega) (by omega),Xed (n:=vK s 8 1) (by omega) (by omega),Xed (n:=vK s 9 1) (by omega) (by omega)]
 have hz:(⟨0,0,false,0,0,⟨false,0,0⟩,⟨false,0,0⟩,[]⟩:Xan)=Xqa:=rfl
 rw [hz,Int.mul_comm 4]
 by_cases g1:vK s 0 1/16=4
 ·rw [show (vK s 0 1/16 !=4)=false by simpa using g1,cond_false,if_neg (by simpa using g1)]
  obtain ⟨t,ht⟩:=Int.eq_ofNat_of_zero_le (show 0≤vK s 0 1%16*4 by omega)
  rw [ht]
  simp only [Int.toNat_natCast]
  by_cases g2:(t:Int)<20
  ·rw [XaW g2,if_pos g2]
  rw [XaO g2,if_neg g2]
  by_cases g3:vK s 2 2<t
  ·rw [XaW g3,if_pos g3]
  rw [XaO g3,if_neg g3]
  by_cases g4:(s.length:Int)<vK s 2 2
  ·rw [XaW (by omega),if_pos g4]
  rw [XaO (by omega),if_neg g4,XaA (by omega),Xmi (by simp;omega),Option.bind_some]
  by_cases g5:norm (Xic (s.take t))=65535
  ·rw [if_neg (by simpa using g5),g5]
   simp only [show ((((65535:Nat):Int) !=65535))=false from rfl,cond_false]
   have a1:=XIt (s:=(s.drop 12).take 4) (by simp;omega)
   have a2:=XIt (s:=(s.drop 16).take 4) (by simp;omega)
   rw [a1,a2,Xz1,Xz1]
   obtain ⟨m,hm⟩:=Int.eq_ofNat_of_zero_le r2.1
   rw [hm]
   simp only [Option.bind_some,Int.toNat_natCast]
   rw [XaA (p:=(0:Int)≤16∧(16:Int)≤(s.length:Int)∧(0:Int)≤12∧(12:Int)≤16) (by omega),XaA (p:=(0:Int)≤20∧(20:Int)≤(s.length:Int)∧(0:Int)≤16∧(16:Int)≤20) (by omega),XaA (p:=(0:Int)≤(t:Int)∧(t:Int)≤(s.length:Int)∧(0:Int)≤20∧(20:Int)≤(t:Int)) (by omega),XaA (p:=(0:Int)≤(m:Int)∧(m:Int)≤(s.length:Int)∧(0:Int)≤(t:Int)∧(t:Int)≤(m:Int)) (by omega)]
   have b6:=s[6].toNat_lt
   have b7:=s[7].toNat_lt
   by_cases k6:(s[6].toNat:Int)=0
   ·rw [show ((s[6].toNat:Int) !=0)=false by simpa using k6,cond_false]
    by_cases k7:(s[7].toNat:Int)=0
    ·rw [show ((s[7].toNat:Int) !=0)=false by simpa using k7,cond_false,if_neg (by rw [e6];omega),show (vK s 6 2 !=0)=false by rw [e6,k6,k7];rfl,k6];rfl
    ·rw [show ((s[7].toNat:Int) !=0)=true by simpa using k7,cond_true,if_pos (by rw [e6];omega)]
   ·rw [show ((s[6].toNat:Int) !=0)=true by simpa using k6,cond_true]
    by_cases k8:(s[6].toNat:Int)=64
    ·rw [show ((s[6].toNat:Int) !=64)=false by rw [k8];rfl,cond_false]
     by_cases k7:(s[7].toNat:Int)=0
     ·rw [show ((s[7].toNat:Int) !=0)=false by simpa using k7,cond_false,if_neg (by rw [e6];omega),show (vK s 6 2 !=0)=true by rw [e6,k8,k7];rfl,k8];rfl
     ·rw [show ((s[7].toNat:Int) !=0)=true by simpa using k7,cond_true,if_pos (by rw [e6];omega)]
    ·rw [show ((s[6].toNat:Int) !=64)=true by simpa using k8,cond_true,if_pos (by rw [e6];omega)]
  ·rw [if_pos (by simpa using g5),show ((((norm (Xic (s.take t)):Nat):Int) !=65535))=true by simp;omega];rfl
 ·rw [show (vK s 0 1/16 !=4)=true by simpa using g1,cond_true,if_pos (by simpa using g1)]
end Go.Vm.Code
namespace Go.Vm.Code
open Go Go.Vm Go.Proofs
set_option maxRecDepth 100000
set_option maxHeartbeats 4000000
set_option linter.unusedVariables false
def Xmh (XdH:Xfj) (Xbd:Xcl) (Xai:XaM) (Xad:XaL) (Xaf:XaB) (s:List UInt8):Option (Xay×(List UInt8)×Int):=
 (Xbd s).bind fun n=>
 (Xad n 4).bind fun n1=>
 (Xad n1.2 2).bind fun n2=>
 (Xad n2.2 1).bind fun n3=>
 (Xad n3.2 1).bind fun n4=>
 (Xaf n4.2 16).bind fun t=>
 (Xaf t.2 16).bind fun t1=>
 (Xai t1.2).bind fun b=>
 cond (b.1)
  (
  some ((Xay.mk 0 0 0 0 (Xab.mk false 0 0) (Xab.mk false 0 0),[],2)))
  (
  cond ((n1.1.fdiv (2^28)) !=6)
   (
   some ((Xay.mk 0 0 0 0 (Xab.mk false 0 0) (Xab.mk false 0 0),[],3)))
   (
   (XdH t.1).bind fun xg=>
   (XdH t1.1).bind fun xg1=>
   (Xaf b.2 n2.1).bind fun t2=>
   (Xai t2.2).bind fun b1=>
   cond (b1.1)
    (
    some ((Xay.mk 0 0 0 0 (Xab.mk false 0 0) (Xab.mk false 0 0),[],2)))
    (
    some ((Xay.mk (XnT .i64 (n1.1.fdiv (2^20)) 255) (XnT .i64 n1.1 1048575) n3.1 n4.1 xg.1 xg1.1,t2.1,0)))))
def XEN (x:Xay×(List UInt8)×Int):XcS:=⟨.tuple ⟨[.agg ⟨[.int .i64 x.1.Class,.int .i64 x.1.Label,.int .i64 x.1.Next,.int .i64 x.1.Hop,.bool x.1.Src.V6,.int .u64 x.1.Src.Hi,.int .u64 x.1.Src.Lo,.bool x.1.Dst.V6,.int .u64 x.1.Dst.Hi,.int .u64 x.1.Dst.Lo]⟩,.string ⟨⟨x.2.1⟩⟩,.int .i64 x.2.2]⟩,[],[]⟩
abbrev Xgd:=(List UInt8)→Option (Xay×(List UInt8)×Int)
def r191 (g:Xgd):Dec:=dV asS fun (y0:List UInt8)=>XdJ (ofG (g y0) XEN)
theorem XTv {g:Xgd} {y0:List UInt8} {x:Xay×(List UInt8)×Int} (hx:g y0=some x):r191 g [.string ⟨⟨y0⟩⟩] []=some (XEN x):=(XaP (XdL)).trans (XaN hx)
def s191 (g:Xgd):Xbz:=⟨[.v],r191 g⟩
theorem XQs {g:Xgd} {y0:List UInt8} {x:Xay×(List UInt8)×Int} (hx:g y0=some x):(s191 g).run [.string ⟨⟨y0⟩⟩] []=some (XEN x):=XTv hx
abbrev XOS (XdH:Xfj) (Xbd:Xcl) (Xai:XaM) (Xad:XaL) (Xaf:XaB):List (Nat×Xbz):=[(202,s202 XdH),(77,s77 Xbd),(138,XIN Xai),(78,s78 Xad),(129,XBJ Xaf)]
theorem XGP (XdH:Xfj) (Xbd:Xcl) (Xai:XaM) (Xad:XaL) (Xaf:XaB) (hS:Xaj Tryz.prog (XaI (XOS XdH Xbd Xai Xad Xaf))) (s:List UInt8) (res:Xay×(List UInt8)×Int) (h:Xmh XdH Xbd Xai Xad Xaf s=some res) :
 XaJ Tryz.prog 191 0 ⟨⟨191,59,[(0,.string ⟨⟨s⟩⟩)],[.code XAq],[],false,none⟩,[],[],0⟩ (fun v H _=>Res 0 (XEN res) v H):=by
 unfold Xmh at h
 have R1:=@XtD Xbd
 have R2:=@XmI Xad
 have R3:=@XlJ Xaf
 have R4:=@Xm7 Xai
 have R5:=@XzB XdH
 refine Xa7 XaE hS true 3000 ?_
 conv=>whnf
 exact W
def XfY:Xgd:=Xmh XdH Xbd Xai Xad Xaf
theorem XOO:XbB Tryz.prog 191 (s191 XfY):=by
 have hL:=XGP XdH Xbd Xai Xad Xaf (Xaj.XaK ⟨XBn,XsS,Xoe,XqP,XlX,trivial⟩)
 exact okA ⟨Tryz.f191,rfl,by decide,rfl⟩
def XoY (Xas:XbL) (Xes:Xf5) (s:List UInt8):Option (Xay×(List UInt8)×Int):=
 cond (decide ((s.length:Int)<40))
  (
  some ((Xay.mk 0 0 0 0 (Xab.mk false 0 0) (Xab.mk false 0 0),[],2)))
  (
  (Xas s 0 4).bind fun m=>
  (Xas s 4 2).bind fun m1=>
  cond ((wI .i64 (m.tdiv 268435456)) !=6)
   (
   some ((Xay.mk 0 0 0 0 (Xab.mk false 0 0) (Xab.mk false 0 0),[],3)))
   (
   let t:=decide ((wI .i64 ((s.length:Int) - 40))<m1)
   cond (t)
    (
    some ((Xay.mk 0 0 0 0 (Xab.mk false 0 0) (Xab.mk false 0 0),[],2)))
    (
    Xbn (decide ((0:Int)≤(24:Int)∧(24:Int)≤(s.length:Int)∧(0:Int)≤(8:Int)∧(8:Int)≤(24:Int))) <|
    (Xes ((s.drop 8).take 16)).bind fun xg=>
    Xbn (decide ((0:Int)≤(40:Int)∧(40:Int)≤(s.length:Int)∧(0:Int)≤(24:Int)∧(24:Int)≤(40:Int))) <|
    (Xes ((s.drop 24).take 16)).bind fun xg1=>
    (s[6]?).bind fun (b:UInt8)=>
    (s[7]?).bind fun (b1:UInt8)=>
    Xbn (decide ((0:Int)≤(wI .i64 (40+m1))∧(wI .i64 (40+m1))≤(s.length:Int)∧(0:Int)≤(40:Int)∧(40:Int)≤((wI .i64 (40+m1)).toNat:Int))) <|
    let t1:=(s.drop 40).take ((wI .i64 (40+m1)).toNat - 40)
    some ((Xay.mk ((wI .i64 (m.tdiv 1048576)).tmod 256) (m.tmod 1048576) (wI .i64 (b.toNat:Int)) (wI .i64 (b1.toNat:Int)) xg.1 xg1.1,t1,0)))))
def XHo (x:Xay×(List UInt8)×Int):XcS:=⟨.tuple ⟨[.agg ⟨[.int .i64 x.1.Class,.int .i64 x.1.Label,.int .i64 x.1.Next,.int .i64 x.1.Hop,.bool x.1.Src.V6,.int .u64 x.1.Src.Hi,.int .u64 x.1.Src.Lo,.bool x.1.Dst.V6,.int .u64 x.1.Dst.Hi,.int .u64 x.1.Dst.Lo]⟩,.string ⟨⟨x.2.1⟩⟩,.int .i64 x.2.2]⟩,[],[]⟩
abbrev Xh6:=(List UInt8)→Option (Xay×(List UInt8)×Int)
def r153 (g:Xh6):Dec:=dV asS fun (y0:List UInt8)=>XdJ (ofG (g y0) XHo)
theorem XTz {g:Xh6} {y0:List UInt8} {x:Xay×(List UInt8)×Int} (hx:g y0=some x):r153 g [.string ⟨⟨y0⟩⟩] []=some (XHo x):=(XaP (XdL)).trans (XaN hx)
def s153 (g:Xh6):Xbz:=⟨[.v],r153 g⟩
theorem XPS {g:Xh6} {y0:List UInt8} {x:Xay×(List UInt8)×Int} (hx:g y0=some x):(s153 g).run [.string ⟨⟨y0⟩⟩] []=some (XHo x):=XTz hx
abbrev XQl (Xas:XbL) (Xes:Xf5):List (Nat×Xbz):=[(88,s88 Xas),(177,s177 Xes)]
theorem XFm (Xas:XbL) (Xes:Xf5) (hS:Xaj Tryz.prog (XaI (XQl Xas Xes))) (s:List UInt8) (res:Xay×(List UInt8)×Int) (h:XoY Xas Xes s=some res) :
 XaJ Tryz.prog 153 0 ⟨⟨153,59,[(0,.string ⟨⟨s⟩⟩)],[.code XBu],[],false,none⟩,[],[],0⟩ (fun v H _=>Res 0 (XHo res) v H):=by
 unfold XoY at h
 have R1:=@XoB Xas
 have R2:=@XAm Xes
 refine Xa7 XaE hS true 3000 ?_
 conv=>whnf
 exact W
def XiY:Xh6:=XoY Xas Xes
theorem XNt:XbB Tryz.prog 153 (s153 XiY):=by
 have hL:=XFm Xas Xes (Xaj.XaK ⟨Xqe,Xyi,trivial⟩)
 exact okA ⟨Tryz.f153,rfl,by decide,rfl⟩
end Go.Vm.Code
namespace Go.Vm.Code
open Go Go.Vm
def zero6:Xay:=⟨0,0,0,0,⟨false,0,0⟩,⟨false,0,0⟩⟩
def XLN (s:List UInt8):Xay:=
 let m:=Xgf (s.take 4)
 ⟨((m/2^20%256:Nat):Int),((m%2^20:Nat):Int),((Xgf ((s.drop 6).take 1):Nat):Int),((Xgf ((s.drop 7).take 1):Nat):Int),Xw8 ((s.drop 8).take 16),Xw8 ((s.drop 24).take 16)⟩
def Xmo (s:List UInt8):Xay×List UInt8×Int:=
 if s.length<40 then (zero6,[],2) else if Xgf (s.take 4)/2^28≠6 then (zero6,[],3) else if s.length - 40<Xgf ((s.drop 4).take 2) then (zero6,[],2) else
  (XLN s,(s.drop 40).take (Xgf ((s.drop 4).take 2)),0)
theorem XOX {s:List UInt8} (h:s.length<2^60):XfY s=some (Xmo s):=by
 unfold XfY Xmh
 rw [Xqd,Option.bind_some]
 by_cases hs:s.length<40
 ·have e:Xmo s=(zero6,[],2):=by unfold Xmo;rw [if_pos hs]
  rw [Xit rfl (by simp only [];omega),Option.bind_some]
  simp only []
  have b1:∀ (r:Xag) (k:Int),(rdr r k).s.length≤r.s.length:=by intro r k;unfold rdr;split<;>simp
  have l1:=b1 ⟨s,true,false⟩ (if (4:Int)<1∨(4:Int)>7 then -1 else 4)
  simp only at l1
  generalize hr1:rdr ⟨s,true,false⟩ (if (4:Int)<1∨(4:Int)>7 then -1 else 4)=r1 at *
  have m1:r1.made=true:=by rw [←hr1];exact Xio _ _
  rw [Xit m1 (by omega),Option.bind_some]
  simp only []
  have l2:=b1 r1 (if (2:Int)<1∨(2:Int)>7 then -1 else 2)
  generalize hr2:rdr r1 (if (2:Int)<1∨(2:Int)>7 then -1 else 2)=r2 at *
  have m2:r2.made=true:=by rw [←hr2];exact Xio _ _
  rw [Xit m2 (by omega),Option.bind_some]
  simp only []
  have l3:=b1 r2 (if (1:Int)<1∨(1:Int)>7 then -1 else 1)
  generalize hr3:rdr r2 (if (1:Int)<1∨(1:Int)>7 then -1 else 1)=r3 at *
  have m3:r3.made=true:=by rw [←hr3];exact Xio _ _
  rw [Xit m3 (by omega),Option.bind_some]
  simp only []
  have l4:=b1 r3 (if (1:Int)<1∨(1:Int)>7 then -1 else 1)
  generalize hr4:rdr r3 (if (1:Int)<1∨(1:Int)>7 then -1 else 1)=r4 at *
  have m4:r4.made=true:=by rw [←hr4];exact Xio _ _
  rw [Xg8 m4,Option.bind_some]
  simp only []
  generalize hr5:rdr r4 16=r5 at *
  have m5:r5.made=true:=by rw [←hr5];exact Xio _ _
  rw [Xg8 m5,Option.bind_some]
  simp only []
  generalize hr6:rdr r5 16=r6 at *
  have m6:r6.made=true:=by rw [←hr6];exact Xio _ _
  rw [XgJ m6,Option.bind_some]
  have hb:r6.bad=true:=by
   cases hb:r6.bad with
   | true=>rfl
   | false=>
     exfalso
     obtain ⟨a5,n6⟩:=Xi8 hr6 hb
     obtain ⟨a4,n5⟩:=Xi8 hr5 a5
     obtain ⟨a3,n4⟩:=Xi8 hr4 a4
     obtain ⟨a2,n3⟩:=Xi8 hr3 a3
     obtain ⟨a1,n2⟩:=Xi8 hr2 a2
     obtain ⟨a0,n1⟩:=Xi8 hr1 a1
     rw [show (if (4:Int)<1∨(4:Int)>7 then -1 else 4:Int)=4 by decide] at n1
     simp only at n1
     omega
  simp only [hb,cond_true]
  rw [e];rfl
 ·have i4:(if (4:Int)<1∨(4:Int)>7 then -1 else 4:Int)=4:=by decide
  have i2:(if (2:Int)<1∨(2:Int)>7 then -1 else 2:Int)=2:=by decide
  have i1:(if (1:Int)<1∨(1:Int)>7 then -1 else 1:Int)=1:=by decide
  have t4:(4:Int).toNat=4:=rfl
  have t2:(2:Int).toNat=2:=rfl
  have t1:(1:Int).toNat=1:=rfl
  have t16:(16:Int).toNat=16:=rfl
  rw [Xit rfl (by simp only [];omega),Option.bind_some]
  simp only [rdn,i4]
  rw [Xj2 (by omega) (by omega),XjT (by omega) (by omega),t4]
  rw [Xit rfl (by simp;omega),Option.bind_some]
  simp only [rdn,i2]
  rw [Xj2 (by omega) (by simp;omega),XjT (by omega) (by simp;omega),t2,List.drop_drop]
  rw [Xit rfl (by simp;omega),Option.bind_some]
  simp only [rdn,i1]
  rw [Xj2 (by omega) (by simp;omega),XjT (by omega) (by simp;omega),t1,List.drop_drop]
  rw [Xit rfl (by simp;omega),Option.bind_some]
  simp only [rdn,i1]
  rw [Xj2 (by omega) (by simp;omega),XjT (by omega) (by simp;omega),t1,List.drop_drop]
  rw [Xg8 rfl,Option.bind_some]
  simp only []
  rw [Xj2 (by omega) (by simp;omega),XjT (by omega) (by simp;omega),t16,List.drop_drop]
  rw [Xg8 rfl,Option.bind_some]
  simp only []
  rw [Xj2 (by omega) (by simp;omega),XjT (by omega) (by simp;omega),t16,List.drop_drop]
  rw [XgJ rfl,Option.bind_some]
  simp only [cond_false,Nat.reduceAdd]
  have v4:Xgf (s.take 4)<2^32:=XfJ _ (by decide)
  have v2:Xgf ((s.drop 4).take 2)<2^16:=XfJ _ (by decide)
  unfold Xmo
  rw [if_neg hs]
  have e1:((((Xgf (s.take 4):Nat):Int).fdiv (2^28)) !=6)=decide (Xgf (s.take 4)/2^28≠6):=by
   rw [Xs8,Bool.eq_iff_iff,bne_iff_ne,decide_eq_true_eq];omega
  rw [e1]
  by_cases h6:Xgf (s.take 4)/2^28≠6
  ·rw [XaW h6,if_pos h6];rfl
  rw [XaO h6,if_neg h6]
  rw [Xrh (by simp;omega),Xrh (by simp;omega)]
  simp only [Option.bind_some]
  rw [Xg8 rfl,Option.bind_some]
  by_cases hn:s.length - 40<Xgf ((s.drop 4).take 2)
  ·rw [XgJ (Xio _ _),Option.bind_some]
   have hb:(rdr ⟨s.drop 40,true,false⟩ ((Xgf ((s.drop 4).take 2):Nat):Int)).bad=true:=by
    cases hb:(rdr ⟨s.drop 40,true,false⟩ ((Xgf ((s.drop 4).take 2):Nat):Int)).bad with
    | true=>rfl
    | false=>
      exfalso
      obtain ⟨_,_,c⟩:=Xuy.1 hb
      simp at c;omega
   simp only [hb,cond_true]
   rw [if_pos hn];rfl
  ·rw [Xj2 (by omega) (by simp;omega),XjT (by omega) (by simp;omega),XgJ rfl,Option.bind_some]
   simp only [cond_false,Int.toNat_natCast]
   rw [if_neg hn]
   unfold XLN
   simp only []
   have e2:XnT .i64 ((((Xgf (s.take 4):Nat):Int)).fdiv (2^20)) 255=((Xgf (s.take 4)/2^20%256:Nat):Int):=by
    rw [Xs8,XjW (m:=255) 8 (by decide) (by decide) (by omega) (by omega)];omega
   have e3:XnT .i64 ((Xgf (s.take 4):Nat):Int) 1048575=((Xgf (s.take 4)%2^20:Nat):Int):=by
    rw [XjW (m:=1048575) 20 (by decide) (by decide) (by omega) (by omega)];omega
   rw [e2,e3]
theorem XGr {s:List UInt8} (h:s.length<2^60):XiY s=some (Xmo s):=by
 unfold XiY XoY Xmo
 by_cases hs:s.length<40
 ·rw [XaW (by omega),if_pos hs];rfl
 rw [XaO (by omega),if_neg hs]
 have v4:Xgf (s.take 4)<2^32:=XfJ _ (by decide)
 have v2:Xgf ((s.drop 4).take 2)<2^16:=XfJ _ (by decide)
 rw [XiQ (by omega),XiQ (by omega),Xju (p:=0) (k:=4) (by omega) (by omega) (by omega) (by omega),Xju (p:=4) (k:=2) (by omega) (by omega) (by omega) (by omega)]
 simp only [Option.bind_some,show (0:Int).toNat=0 from rfl,show (4:Int).toNat=4 from rfl,show (2:Int).toNat=2 from rfl,List.drop_zero]
 rw [Xed (n:=((Xgf (s.take 4):Nat):Int)) (by omega) (by omega),Xed (n:=((Xgf ((s.drop 4).take 2):Nat):Int)) (by omega) (by omega)]
 have e1:((wI .i64 ((((Xgf (s.take 4):Nat):Int)).tdiv 268435456)) !=6)=decide (Xgf (s.take 4)/2^28≠6):=by
  rw [Int.tdiv_eq_ediv_of_nonneg (by omega),Xed (by omega) (by omega),Bool.eq_iff_iff,bne_iff_ne,decide_eq_true_eq];omega
 rw [e1]
 by_cases h6:Xgf (s.take 4)/2^28≠6
 ·rw [XaW h6,if_pos h6];rfl
 rw [XaO h6,if_neg h6,Xed (n:=(s.length:Int) - 40) (by omega) (by omega)]
 by_cases hn:s.length - 40<Xgf ((s.drop 4).take 2)
 ·rw [XaW (by omega),if_pos hn];rfl
 rw [XaO (by omega),if_neg hn,XaA (by omega),Xsu (by simp;omega),Option.bind_some,XaA (by omega),Xsu (by simp;omega),Option.bind_some,List.getElem?_eq_getElem (by omega:6<s.length),Option.bind_some,
  List.getElem?_eq_getElem (by omega:7<s.length),Option.bind_some,Xed (n:=40+((Xgf ((s.drop 4).take 2):Nat):Int)) (by omega) (by omega),XaA (by omega)]
 have b6:=s[6].toNat_lt
 have b7:=s[7].toNat_lt
 have e6:(s.drop 6).take 1=[s[6]]:=by rw [List.drop_eq_getElem_cons (by omega:6<s.length)];rfl
 have e7:(s.drop 7).take 1=[s[7]]:=by rw [List.drop_eq_getElem_cons (by omega:7<s.length)];rfl
 have e8:(40+((Xgf ((s.drop 4).take 2):Nat):Int)).toNat - 40=Xgf ((s.drop 4).take 2):=by omega
 unfold XLN
 simp only [e6,e7,e8,XhD,XN0]
 rw [Int.tdiv_eq_ediv_of_nonneg (by omega),Xed (n:=((Xgf (s.take 4):Nat):Int)/1048576) (by omega) (by omega),Int.tmod_eq_emod_of_nonneg (by omega),Int.tmod_eq_emod_of_nonneg (by omega),Xed (n:=(s[6].toNat:Int)) (by omega) (by omega),Xed (n:=(s[7].toNat:Int)) (by omega) (by omega)]
 simp
end Go.Vm.Code
namespace Go.Vm.Code
open Go Go.Vm Go.Proofs
set_option maxRecDepth 100000
set_option maxHeartbeats 4000000
set_option linter.unusedVariables false
def XiM (text:List UInt8) (i:Int) (c:List Xdu):Option (Sum (Int×(List Xdu)) ((List Xdu)×Int)):=
 cond (decide (i<(text.length:Int)))
  (
  Xbn (decide (0≤i)) <|
  (text[i.toNat]?).bind fun (b:UInt8)=>
  cond ((b.toNat:Int)==0)
   (
   some (.inr ((c,0))))
   (
   cond ((b.toNat:Int)==1)
    (
    some (.inl (wI .i64 (i+1),c)))
    (
    let t:=decide ((wI .i64 (i+1))<(text.length:Int))
    cond (t)
     (
     Xbn (decide (0≤(wI .i64 (i+1)))) <|
     (text[(wI .i64 (i+1)).toNat]?).bind fun (b1:UInt8)=>
     cond (decide ((wI .i64 (b1.toNat:Int))<2))
      (
      some (.inr (([],3))))
      (
      let t1:=decide ((wI .i64 (b1.toNat:Int))>(wI .i64 ((text.length:Int) - i)))
      cond (t1)
       (
       some (.inr (([],3))))
       (
       Xbn (decide (0≤i)) <|
       (text[i.toNat]?).bind fun (b2:UInt8)=>
       Xbn (decide ((0:Int)≤(wI .i64 (i+(wI .i64 (b1.toNat:Int))))∧(wI .i64 (i+(wI .i64 (b1.toNat:Int))))≤(text.length:Int)∧(0:Int)≤(wI .i64 (i+2))∧(wI .i64 (i+2))≤((wI .i64 (i+(wI .i64 (b1.toNat:Int)))).toNat:Int))) <|
       let t2:=(text.drop (wI .i64 (i+2)).toNat).take ((wI .i64 (i+(wI .i64 (b1.toNat:Int)))).toNat - (wI .i64 (i+2)).toNat)
       cond (decide ((wI .i64 (i+2))<0))
        (
        some (.inr (([],3))))
        (
        Xbn (decide ((c.length+1)*24≤2^47)) <|
        let row:=c++[Xdu.mk (wI .i64 (b2.toNat:Int)) t2]
        some (.inl (wI .i64 (i+(wI .i64 (b1.toNat:Int))),row))))))
     (
     some (.inr (([],3)))))))
  (
  some (.inr ((c,0))))
def XnK (text:List UInt8):Option ((List Xdu)×Int):=
 iter (fun st=>XiM text st.1 st.2) FUEL (0,[])
def XuF (x:(List Xdu)×Int):XcS:=⟨.tuple ⟨[.slice (some ⟨0,0,none⟩) x.1.length 2,.int .i64 x.2]⟩,[(vT XhF x.1)],[]⟩
abbrev Xe4:=(List UInt8)→Option ((List Xdu)×Int)
def r169 (g:Xe4):Dec:=dV asS fun (y0:List UInt8)=>XdJ (ofG (g y0) XuF)
theorem XUd {g:Xe4} {y0:List UInt8} {x:(List Xdu)×Int} (hx:g y0=some x):r169 g [.string ⟨⟨y0⟩⟩] []=some (XuF x):=(XaP (XdL)).trans (XaN hx)
def s169 (g:Xe4):Xbz:=⟨[.v],r169 g⟩
theorem Xzq {g:Xe4} {y0:List UInt8} {x:(List Xdu)×Int} (hx:g y0=some x):(s169 g).run [.string ⟨⟨y0⟩⟩] []=some (XuF x):=XUd hx
abbrev Xyd:List (Nat×Xbz):=[]
def XkJ (text:List UInt8) (i:Int) (c:List Xdu):VM:=
 ⟨⟨193,62,[(0,.func (.yield 5) #[] #[]),(1,.pointer (some ⟨3,0,none⟩)),(3,.int .i64 i)],[.code Xqb,.inLoop Xqb,.inBlock 0],[],false,none⟩,[⟨169,18,[(2,.pointer (some ⟨0,0,none⟩)),(3,.pointer (some ⟨1,0,none⟩)),(4,.pointer (some ⟨2,0,none⟩))],[.inRangeFunc 5,.inBlock 0,.code Xzf],[4],false,none⟩],[(0,.cells [.slice none 0 0]),(1,.cells [.int .i64 0]),(2,.cells [.slice (some ⟨6,0,none⟩) c.length 2]),(3,.cells [.string ⟨⟨text⟩⟩]),(4,.marks),(5,.loop ⟨.ready,none,169,18,[(2,.pointer (some ⟨0,0,none⟩)),(3,.pointer (some ⟨1,0,none⟩)),(4,.pointer (some ⟨2,0,none⟩))],[8],XIk,XxR,4⟩),(6,.row true (vT XhF c))],7⟩
theorem Xx3 (hS:Xaj Tryz.prog (XaI (Xyd))) (text:List UInt8) (res:(List Xdu)×Int):∀ fuel (st:Int×(List Xdu)) (o:(List Xdu)×Int),iter (fun st=>XiM text st.1 st.2) fuel st=some o→(o=res) →
 XaJ Tryz.prog 169 0 (XkJ text st.1 st.2) (fun v H t=>∃ v' H' t',Xxa v H t v' H' t'∧Res 0 (XuF res) v' H'):=by
 intro fuel st o h hc
 refine XcX (head:=fun st=>XkJ text st.1 st.2) (C:=fun o=>(o=res)) ?_ fuel st o h hc
 clear h hc o st fuel
 intro st o h hc
 obtain ⟨i,c⟩:=st
 replace h:XiM text i c=some o:=h
 show XaJ Tryz.prog 169 0 (XkJ text i c) (fun v H t=>∃ v' H' t',Xxa v H t v' H' t'∧Res 0 (XuF res) v' H')
 unfold XiM at h
 refine Xa7 XaE hS true 3000 ?_
 conv=>whnf
 refine br.h2 h (by rfl) ?_ ?_
 ·clear h;intro hb h;conv=>whnf
  all_goals (cases h;cases hc)
  all_goals exact ⟨_,_,_,(.refl _ _ _),Res.of [6] rfl (XtI (XbA Xbo) (Xht rfl) Xtb) (by decide) (XtF (by decide) Xtq) Xsw⟩
 clear h;intro hb h;conv=>whnf
 replace h:=Xbn.elim h;obtain ⟨hb,h⟩:=h
 try (refine req.intro hb ?_;conv=>whnf)
 replace h:=XcR.elim h;obtain ⟨b,hy,h⟩:=h
 refine rdS.intro hy ?_
 conv=>whnf
 refine br.h h (by rfl) ?_ ?_
 ·clear h;intro hb h;conv=>whnf
  all_goals (cases h;cases hc)
  all_goals exact ⟨_,_,_,(.refl _ _ _),Res.of [6] rfl (XtI (XbA Xbo) (Xht rfl) Xtb) (by decide) (XtF (by decide) Xtq) Xsw⟩
 clear h;intro hb h;conv=>whnf
 refine br.h h (by rfl) ?_ ?_
 ·clear h;intro hb h;conv=>whnf
  cases h;simp only [Sum.elim_inl,XkJ] at hc
  exact XF1 hc [(0,0),(1,1),(2,2),(3,3),(4,4),(5,5),(6,6)] rfl
 clear h;intro hb h;conv=>whnf
 let t:Bool:=decide ((wI .i64 (i+1))<(text.length:Int))
 refine br.h2 h (by rfl) ?_ ?_
 ·clear h;intro hb h;conv=>whnf
  all_goals (cases h;cases hc)
  all_goals exact ⟨_,_,_,(.val (.tup (.cons (.nil _ _) (.cons (.same _) .nil))) (.refl _ _ _)),Res.of [8] rfl (XtI (XbA Xbo) (Xht rfl) Xtb) (by decide) (XtF (by decide) Xtq) Xsw⟩
 clear h;intro hb h;conv=>whnf
 replace h:=Xbn.elim h;obtain ⟨hb,h⟩:=h
 try (refine req.intro hb ?_;conv=>whnf)
 replace h:=XcR.elim h;obtain ⟨b1,hy,h⟩:=h
 refine rdS.intro hy ?_
 conv=>whnf
 refine br.h h (by rfl) ?_ ?_
 ·clear h;intro hb h;conv=>whnf
  all_goals (cases h;cases hc)
  all_goals exact ⟨_,_,_,(.val (.tup (.cons (.nil _ _) (.cons (.same _) .nil))) (.refl _ _ _)),Res.of [8] rfl (XtI (XbA Xbo) (Xht rfl) Xtb) (by decide) (XtF (by decide) Xtq) Xsw⟩
 clear h;intro hb h;conv=>whnf
 let t1:Bool:=decide ((wI .i64 (b1.toNat:Int))>(wI .i64 ((text.length:Int) - i)))
 refine br.h h (by rfl) ?_ ?_
 ·clear h;intro hb h;conv=>whnf
  all_goals (cases h;cases hc)
  all_goals exact ⟨_,_,_,(.val (.tup (.cons (.nil _ _) (.cons (.same _) .nil))) (.refl _ _ _)),Res.of [8] rfl (XtI (XbA Xbo) (Xht rfl) Xtb) (by decide) (XtF (by decide) Xtq) Xsw⟩
 clear h;intro hb h;conv=>whnf
 replace h:=Xbn.elim h;obtain ⟨hb,h⟩:=h
 try (refine req.intro hb ?_;conv=>whnf)
 replace h:=XcR.elim h;obtain ⟨b2,hy,h⟩:=h
 refine rdS.intro hy ?_
 conv=>whnf
 replace h:=Xbn.elim h;obtain ⟨hb,h⟩:=h
 try (refine req.intro hb ?_;conv=>whnf)
 let t2:List UInt8:=(text.drop (wI .i64 (i+2)).toNat).take ((wI .i64 (i+(wI .i64 (b1.toNat:Int)))).toNat - (wI .i64 (i+2)).toNat)
 refine br.h h (by rfl) ?_ ?_
 ·clear h;intro hb h;conv=>whnf
  all_goals (cases h;cases hc)
  all_goals exact ⟨_,_,_,(.val (.tup (.cons (.nil _ _) (.cons (.same _) .nil))) (.refl _ _ _)),Res.of [24] rfl (XtI (XbA Xbo) (Xht rfl) Xtb) (by decide) (XtF (by decide) Xtq) Xsw⟩
 clear h;intro hb h;conv=>whnf
 replace h:=Xbn.elim h;obtain ⟨hb,h⟩:=h
 refine req.intro (XAu (of_decide_eq_true hb) (by first|rfl|omega|(simp;done)|(simp;omega)|(simp at *;omega)) rfl (by first|rfl|omega|(simp;done)|(simp;omega)|(simp at *;omega)) (by first|rfl|exact Xip _ _|exact XkF _|exact XkQ _|exact Xlp (by first|exact XdS|exact Xdk|exact XdZ|exact Xcs|exact Xce|exact XdT|exact XcU|exact XcF|exact Xdl|exact XdR|exact XcV|exact XdY|exact Xez|exact Xcr|exact Xcp|exact XeC|exact XcT) _|(rw [Xfu];exact Xip _ _)|(simp [Xip,XkF,XkQ,XlT,XlG,Xm2,Xm9];done)|(simp;exact List.all_eq_true.1 (Xlp (by first|exact XdS|exact Xdk|exact XdZ|exact Xcs|exact Xce|exact XdT|exact XcU|exact XcF|exact Xdl|exact XdR|exact XcV|exact XdY|exact Xez|exact Xcr|exact Xcp|exact XeC|exact XcT) _))) rfl) ?_
 conv=>whnf
 let row:List Xdu:=c++[Xdu.mk (wI .i64 (b2.toNat:Int)) t2]
 first|have hlen_row:row.length=_:=List.length_append ..|skip
 refine XJw XfH (xs:=c) (ys:=[Xdu.mk (wI .i64 (b2.toNat:Int)) t2]) rfl (by first|rfl|omega) (by first|rfl|omega|(simp;done)|(simp;omega)|(simp at *;omega)) (by first|rfl|omega|(simp;done)|(simp;omega)|(simp at *;omega)) ?_
 conv=>whnf
 cases h;simp only [Sum.elim_inl,XkJ] at hc
 exact XF1 hc [(0,0),(1,1),(2,2),(3,3),(4,4),(5,5),(6,25)] rfl
theorem XFI (hS:Xaj Tryz.prog (XaI (Xyd))) (text:List UInt8) (res:(List Xdu)×Int) (h:XnK text=some res) :
 XaJ Tryz.prog 169 0 ⟨⟨169,18,[(0,.string ⟨⟨text⟩⟩)],[.code XzL],[],false,none⟩,[],[],0⟩ (fun v H _=>Res 0 (XuF res) v H):=by
 refine XaJ.nilW (R:=fun v' H'=>Res 0 (XuF res) v' H') ?_
 unfold XnK at h
 refine Xa7 XaE hS true 3000 ?_
 conv=>whnf
 have hl:=Xx3 hS _ res _ _ _ h rfl;simp only [XkJ] at hl
 refine XaJ.nilC 2 0 2 ?_
 exact XF1 hl [(0,0),(1,1),(2,2),(3,3),(4,4),(5,5),(6,6)] rfl
def XdW:Xe4:=XnK
theorem XBr:XbB Tryz.prog 169 (s169 XdW):=by
 have hL:=XFI (Xaj.XaK trivial)
 exact okA ⟨Tryz.f169,rfl,by decide,rfl⟩
def XiT (options:List UInt8) (i:Int) (out1:List Xc4):Option (Sum (Int×(List Xc4)) ((List Xc4)×Int)):=
 cond (decide (i<(options.length:Int)))
  (
  Xbn (decide (0≤i)) <|
  (options[i.toNat]?).bind fun (b:UInt8)=>
  cond ((b.toNat:Int) !=0)
   (
   Xbn (decide (0≤i)) <|
   (options[i.toNat]?).bind fun (b1:UInt8)=>
   cond ((b1.toNat:Int)==1)
    (
    some (.inl (wI .i64 (i+1),out1)))
    (
    let t:=decide ((wI .i64 (i+1))≥(options.length:Int))
    cond (t)
     (
     some (.inr (([],3))))
     (
     Xbn (decide (0≤(wI .i64 (i+1)))) <|
     (options[(wI .i64 (i+1)).toNat]?).bind fun (b2:UInt8)=>
     cond (decide ((b2.toNat:Int)<2))
      (
      some (.inr (([],3))))
      (
      Xbn (decide (0≤(wI .i64 (i+1)))) <|
      (options[(wI .i64 (i+1)).toNat]?).bind fun (b3:UInt8)=>
      let t1:=decide ((wI .i64 (b3.toNat:Int))>(wI .i64 ((options.length:Int) - i)))
      cond (t1)
       (
       some (.inr (([],3))))
       (
       Xbn (decide (0≤(wI .i64 (i+1)))) <|
       (options[(wI .i64 (i+1)).toNat]?).bind fun (b4:UInt8)=>
       Xbn (decide (0≤i)) <|
       (options[i.toNat]?).bind fun (b5:UInt8)=>
       Xbn (decide ((0:Int)≤(wI .i64 (i+(wI .i64 (b4.toNat:Int))))∧(wI .i64 (i+(wI .i64 (b4.toNat:Int))))≤(options.length:Int)∧(0:Int)≤(wI .i64 (i+2))∧(wI .i64 (i+2))≤((wI .i64 (i+(wI .i64 (b4.toNat:Int)))).toNat:Int))) <|
       let t2:=(options.drop (wI .i64 (i+2)).toNat).take ((wI .i64 (i+(wI .i64 (b4.toNat:Int)))).toNat - (wI .i64 (i+2)).toNat)
       Xbn (decide ((out1.length+1)*32≤2^47)) <|
       let row:=out1++[Xc4.mk (wI .i64 (b5.toNat:Int)) t2 (wI .i64 (i+2))]
       some (.inl (wI .i64 (i+(wI .i64 (b4.toNat:Int))),row)))))))
   (
   some (.inr ((out1,0)))))
  (
  some (.inr ((out1,0))))
def XnL (options:List UInt8):Option ((List Xc4)×Int):=
 iter (fun st=>XiT options st.1 st.2) FUEL (0,[])
def XtX (x:(List Xc4)×Int):XcS:=⟨.tuple ⟨[.slice (some ⟨0,0,none⟩) x.1.length 3,.int .i64 x.2]⟩,[(vT Xhh x.1)],[]⟩
abbrev Xe3:=(List UInt8)→Option ((List Xc4)×Int)
def r154 (g:Xe3):Dec:=dV asS fun (y0:List UInt8)=>XdJ (ofG (g y0) XtX)
theorem XRg {g:Xe3} {y0:List UInt8} {x:(List Xc4)×Int} (hx:g y0=some x):r154 g [.string ⟨⟨y0⟩⟩] []=some (XtX x):=(XaP (XdL)).trans (XaN hx)
def s154 (g:Xe3):Xbz:=⟨[.v],r154 g⟩
theorem XAV {g:Xe3} {y0:List UInt8} {x:(List Xc4)×Int} (hx:g y0=some x):(s154 g).run [.string ⟨⟨y0⟩⟩] []=some (XtX x):=XRg hx
abbrev Xx9:List (Nat×Xbz):=[]
def XkN (options:List UInt8) (i:Int) (out1:List Xc4):VM:=
 ⟨⟨154,73,[(0,.string ⟨⟨options⟩⟩),(4,.slice (some ⟨0,0,none⟩) out1.length 3),(5,.int .i64 i)],[.code Xuk,.inLoop Xuk,.inBlock 0,.code XyM],[],false,none⟩,[],[(0,.row true (vT Xhh out1))],1⟩
theorem Xx7 (hS:Xaj Tryz.prog (XaI (Xx9))) (options:List UInt8) (res:(List Xc4)×Int):∀ fuel (st:Int×(List Xc4)) (o:(List Xc4)×Int),iter (fun st=>XiT options st.1 st.2) fuel st=some o→(o=res) →
 XaJ Tryz.prog 154 0 (XkN options st.1 st.2) (fun v H t=>∃ v' H' t',Xxa v H t v' H' t'∧Res 0 (XtX res) v' H'):=by
 intro fuel st o h hc
 refine XcX (head:=fun st=>XkN options st.1 st.2) (C:=fun o=>(o=res)) ?_ fuel st o h hc
 clear h hc o st fuel
 intro st o h hc
 obtain ⟨i,out1⟩:=st
 replace h:XiT options i out1=some o:=h
 show XaJ Tryz.prog 154 0 (XkN options i out1) (fun v H t=>∃ v' H' t',Xxa v H t v' H' t'∧Res 0 (XtX res) v' H')
 unfold XiT at h
 refine Xa7 XaE hS true 3000 ?_
 conv=>whnf
 refine br.h2 h (by rfl) ?_ ?_
 ·clear h;intro hb h;conv=>whnf
  all_goals (cases h;cases hc)
  all_goals exact ⟨_,_,_,(.refl _ _ _),Res.of [0] rfl (XtI (XbA Xbx) (Xht rfl) Xtb) (by decide) (XtF (by decide) Xtq) Xsw⟩
 clear h;intro hb h;conv=>whnf
 replace h:=Xbn.elim h;obtain ⟨hb,h⟩:=h
 try (refine req.intro hb ?_;conv=>whnf)
 replace h:=XcR.elim h;obtain ⟨b,hy,h⟩:=h
 refine rdS.intro hy ?_
 conv=>whnf
 refine br.h2 h (by rfl) ?_ ?_
 ·clear h;intro hb h;conv=>whnf
  all_goals (cases h;cases hc)
  all_goals exact ⟨_,_,_,(.refl _ _ _),Res.of [0] rfl (XtI (XbA Xbx) (Xht rfl) Xtb) (by decide) (XtF (by decide) Xtq) Xsw⟩
 clear h;intro hb h;conv=>whnf
 replace h:=Xbn.elim h;obtain ⟨hb,h⟩:=h
 try (refine req.intro hb ?_;conv=>whnf)
 replace h:=XcR.elim h;obtain ⟨b1,hy,h⟩:=h
 refine rdS.intro hy ?_
 conv=>whnf
 refine br.h h (by rfl) ?_ ?_
 ·clear h;intro hb h;conv=>whnf
  cases h;simp only [Sum.elim_inl,XkN] at hc
  exact Xkz hc [(0,0)] rfl
 clear h;intro hb h;conv=>whnf
 let t:Bool:=decide ((wI .i64 (i+1))≥(options.length:Int))
 refine br.h h (by rfl) ?_ ?_
 ·clear h;intro hb h;conv=>whnf
  all_goals (cases h;cases hc)
  all_goals exact ⟨_,_,_,(.val (.tup (.cons (.nil _ _) (.cons (.same _) .nil))) (.refl _ _ _)),Res.of [1] rfl (XtI (XbA Xbx) (Xht rfl) Xtb) (by decide) (XtF (by decide) Xtq) Xsw⟩
 clear h;intro hb h;conv=>whnf
 replace h:=Xbn.elim h;obtain ⟨hb,h⟩:=h
 try (refine req.intro hb ?_;conv=>whnf)
 replace h:=XcR.elim h;obtain ⟨b2,hy,h⟩:=h
 refine rdS.intro hy ?_
 conv=>whnf
 refine br.h h (by rfl) ?_ ?_
 ·clear h;intro hb h;conv=>whnf
  all_goals (cases h;cases hc)
  all_goals exact ⟨_,_,_,(.val (.tup (.cons (.nil _ _) (.cons (.same _) .nil))) (.refl _ _ _)),Res.of [1] rfl (XtI (XbA Xbx) (Xht rfl) Xtb) (by decide) (XtF (by decide) Xtq) Xsw⟩
 clear h;intro hb h;conv=>whnf
 replace h:=Xbn.elim h;obtain ⟨hb,h⟩:=h
 try (refine req.intro hb ?_;conv=>whnf)
 replace h:=XcR.elim h;obtain ⟨b3,hy,h⟩:=h
 refine rdS.intro hy ?_
 conv=>whnf
 let t1:Bool:=decide ((wI .i64 (b3.toNat:Int))>(wI .i64 ((options.length:Int) - i)))
 refine br.h h (by rfl) ?_ ?_
 ·clear h;intro hb h;conv=>whnf
  all_goals (cases h;cases hc)
  all_goals exact ⟨_,_,_,(.val (.tup (.cons (.nil _ _) (.cons (.same _) .nil))) (.refl _ _ _)),Res.of [1] rfl (XtI (XbA Xbx) (Xht rfl) Xtb) (by decide) (XtF (by decide) Xtq) Xsw⟩
 clear h;intro hb h;conv=>whnf
 replace h:=Xbn.elim h;obtain ⟨hb,h⟩:=h
 try (refine req.intro hb ?_;conv=>whnf)
 replace h:=XcR.elim h;obtain ⟨b4,hy,h⟩:=h
 refine rdS.intro hy ?_
 conv=>whnf
 replace h:=Xbn.elim h;obtain ⟨hb,h⟩:=h
 try (refine req.intro hb ?_;conv=>whnf)
 replace h:=XcR.elim h;obtain ⟨b5,hy,h⟩:=h
 refine rdS.intro hy ?_
 conv=>whnf
 replace h:=Xbn.elim h;obtain ⟨hb,h⟩:=h
 try (refine req.intro hb ?_;conv=>whnf)
 let t2:List UInt8:=(options.drop (wI .i64 (i+2)).toNat).take ((wI .i64 (i+(wI .i64 (b4.toNat:Int)))).toNat - (wI .i64 (i+2)).toNat)
 replace h:=Xbn.elim h;obtain ⟨hb,h⟩:=h
 refine req.intro (XAu (of_decide_eq_true hb) (by first|rfl|omega|(simp;done)|(simp;omega)|(simp at *;omega)) rfl (by first|rfl|omega|(simp;done)|(simp;omega)|(simp at *;omega)) (by first|rfl|exact Xip _ _|exact XkF _|exact XkQ _|exact Xlp (by first|exact XdS|exact Xdk|exact XdZ|exact Xcs|exact Xce|exact XdT|exact XcU|exact XcF|exact Xdl|exact XdR|exact XcV|exact XdY|exact Xez|exact Xcr|exact Xcp|exact XeC|exact XcT) _|(rw [Xfu];exact Xip _ _)|(simp [Xip,XkF,XkQ,XlT,XlG,Xm2,Xm9];done)|(simp;exact List.all_eq_true.1 (Xlp (by first|exact XdS|exact Xdk|exact XdZ|exact Xcs|exact Xce|exact XdT|exact XcU|exact XcF|exact Xdl|exact XdR|exact XcV|exact XdY|exact Xez|exact Xcr|exact Xcp|exact XeC|exact XcT) _))) rfl) ?_
 conv=>whnf
 let row:List Xc4:=out1++[Xc4.mk (wI .i64 (b5.toNat:Int)) t2 (wI .i64 (i+2))]
 first|have hlen_row:row.length=_:=List.length_append ..|skip
 refine XJw Xdc (xs:=out1) (ys:=[Xc4.mk (wI .i64 (b5.toNat:Int)) t2 (wI .i64 (i+2))]) rfl (by first|rfl|omega) (by first|rfl|omega|(simp;done)|(simp;omega)|(simp at *;omega)) (by first|rfl|omega|(simp;done)|(simp;omega)|(simp at *;omega)) ?_
 conv=>whnf
 cases h;simp only [Sum.elim_inl,XkN] at hc
 exact Xkz hc [(0,18)] rfl
theorem XG5 (hS:Xaj Tryz.prog (XaI (Xx9))) (options:List UInt8) (res:(List Xc4)×Int) (h:XnL options=some res) :
 XaJ Tryz.prog 154 0 ⟨⟨154,73,[(0,.string ⟨⟨options⟩⟩)],[.code XAs],[],false,none⟩,[],[],0⟩ (fun v H _=>Res 0 (XtX res) v H):=by
 refine XaJ.nilW (R:=fun v' H'=>Res 0 (XtX res) v' H') ?_
 unfold XnL at h
 refine Xa7 XaE hS true 3000 ?_
 conv=>whnf
 have hl:=Xx7 hS _ res _ _ _ h rfl;simp only [XkN] at hl
 refine XaJ.nilT 4 3 ?_
 exact Xkz hl [(0,0)] rfl
def XdU:Xe3:=XnL
theorem Xy2:XbB Tryz.prog 154 (s154 XdU):=by
 have hL:=XG5 (Xaj.XaK trivial)
 exact okA ⟨Tryz.f154,rfl,by decide,rfl⟩
end Go.Vm.Code
namespace Go.Vm.Code
open Go Go.Vm
structure XzG where
 Kind:Int
 Data:List UInt8
 At:Int
def toR (o:XzG):Xc4:=⟨o.Kind,o.Data,o.At⟩
def ofR (o:Xc4):XzG:=⟨o.Kind,o.Data,o.At⟩
theorem Xx0 (c:List Xc4):(c.map ofR).map toR=c:=by
 rw [List.map_map,show toR∘ofR=id from rfl,List.map_id]
def Xkq (s:List UInt8):Nat→Nat→List XzG→List XzG×Int
 | 0,_,out=>(out,0)
 | n+1,i,out=>match s[i]? with
   | none=>(out,0)
   | some b=>if b=0 then (out,0) else if b=1 then Xkq s n (i+1) out else match s[i+1]? with
     | none=>([],3)
     | some k=>if k.toNat<2 then ([],3) else if s.length - i<k.toNat then ([],3) else
        Xkq s (n+1 - k.toNat) (i+k.toNat) (out++[⟨(b.toNat:Int),(s.drop (i+2)).take (k.toNat - 2),((i+2:Nat):Int)⟩])
termination_by n=>n
decreasing_by all_goals omega
def XnZ (s:List UInt8):List XzG×Int:=Xkq s s.length 0 []
def strip (o:XzG):Xdu:=⟨o.Kind,o.Data⟩
theorem XWF {s:List UInt8} (hs:s.length<2^20):XdU s=some ((XnZ s).1.map toR,(XnZ s).2):=by
 unfold XdU XnL XnZ
 have key:=iter_eq (step:=fun (st:Int×List Xc4)=>XiT s st.1 st.2) (fun st=>((Xkq s (s.length - st.1.toNat) st.1.toNat (st.2.map ofR)).1.map toR,(Xkq s (s.length - st.1.toNat) st.1.toNat (st.2.map ofR)).2)) (fun st=>0≤st.1∧st.1≤s.length∧(st.2.length:Int)≤st.1) (fun st=>s.length - st.1.toNat) ?_ FUEL (0,[]) ⟨by simp,by simp,by simp⟩ (by rw [Xgx];simp only;omega)
 ·rw [key];rfl
 rintro ⟨p,out⟩ ⟨g1,g2,g3⟩
 simp only at g1 g2 g3 ⊢
 obtain ⟨i,rfl⟩:=Int.eq_ofNat_of_zero_le g1
 simp only [Int.toNat_natCast]
 unfold XiT
 by_cases hi:i<s.length
 ·obtain ⟨n,hn⟩:∃ n,s.length - i=n+1:=⟨s.length - i - 1,by omega⟩
  have e:s[i]?=some s[i]:=List.getElem?_eq_getElem hi
  rw [XaW (by omega),XaA (by omega),Int.toNat_natCast,e,Option.bind_some,hn,Xkq,e]
  by_cases h0:s[i]=0
  ·refine .inl ?_
   rw [show ((s[i].toNat:Int) !=0)=false by rw [h0];rfl,cond_false]
   simp only [h0,if_true,Xx0]
  rw [show ((s[i].toNat:Int) !=0)=true by simp;intro hx;exact h0 (UInt8.toNat_inj.1 (by simpa using hx)),cond_true,XaA (by omega),Option.bind_some]
  simp only [if_neg h0]
  by_cases h1:s[i]=1
  ·refine .inr ⟨(((i+1:Nat):Int),out),?_,⟨by simp only;omega,by simp only;omega,by simp only;omega⟩,by simp only;omega,?_⟩
   ·rw [show ((s[i].toNat:Int)==1)=true by rw [h1];rfl,cond_true,Xed (by omega) (by omega)];rfl
   ·simp only [Int.toNat_natCast,if_pos h1]
    rw [show s.length - (i+1)=n by omega]
  rw [show ((s[i].toNat:Int)==1)=false by simp;intro hx;exact h1 (UInt8.toNat_inj.1 (by simp;omega)),cond_false]
  simp only [if_neg h1]
  rw [Xed (n:=(i:Int)+1) (by omega) (by omega)]
  by_cases h2:s.length≤i+1
  ·refine .inl ?_
   rw [XaW (by omega),List.getElem?_eq_none (by omega)];rfl
  have hi1:i+1<s.length:=by omega
  have e1:s[i+1]?=some s[i+1]:=List.getElem?_eq_getElem hi1
  have b1:=s[i+1].toNat_lt
  rw [XaO (by omega),show ((i:Int)+1).toNat=i+1 by omega,e1,XaA (by omega),Option.bind_some]
  simp only [Option.bind_some]
  by_cases h3:s[i+1].toNat<2
  ·refine .inl ?_
   rw [XaW (by omega),if_pos h3];rfl
  rw [XaO (by omega),if_neg h3,XaA (by omega),Xed (n:=(s[i+1].toNat:Int)) (by omega) (by omega),Xed (n:=(s.length:Int) - i) (by omega) (by omega)]
  by_cases h4:s.length - i<s[i+1].toNat
  ·refine .inl ?_
   rw [XaW (by omega),if_pos h4];rfl
  refine .inr ⟨(((i+s[i+1].toNat:Nat):Int),out++[⟨(s[i].toNat:Int),(s.drop (i+2)).take (s[i+1].toNat - 2),((i+2:Nat):Int)⟩]),?_,⟨by simp only;omega,by simp only;omega,by simp;omega⟩,by simp only;omega,?_⟩
  ·have b0:=s[i].toNat_lt
   rw [XaO (by omega),XaA (by omega),XaA (by omega),Xed (n:=(i:Int)+s[i+1].toNat) (by omega) (by omega),Xed (n:=(i:Int)+2) (by omega) (by omega),Xed (n:=(s[i].toNat:Int)) (by omega) (by omega),XaA (by omega),XaA (by omega),show ((i:Int)+s[i+1].toNat).toNat - ((i:Int)+2).toNat=s[i+1].toNat - 2 by omega,show ((i:Int)+2).toNat=i+2 by omega];rfl
  ·rw [if_neg h4]
   simp only [Int.toNat_natCast]
   rw [show s.length - (i+s[i+1].toNat)=n+1 - s[i+1].toNat by omega,List.map_append];rfl
 ·refine .inl ?_
  rw [XaO (by omega),show s.length - i=0 by omega,Xkq,Xx0]
theorem Xwx (s:List UInt8):∀ (n i:Nat) (o1 o2:List XzG),o1.map strip=o2.map strip→(Xkq s n i o1).1.map strip=(Xkq s n i o2).1.map strip∧(Xkq s n i o1).2=(Xkq s n i o2).2:=by
 intro n
 induction n using Nat.strongRecOn with
 | ind n ih=>
   intro i o1 o2 h
   cases n with
   | zero=>rw [Xkq,Xkq];exact ⟨h,rfl⟩
   | succ n=>
     rw [Xkq,Xkq]
     split
     ·exact ⟨h,rfl⟩
     split
     ·exact ⟨h,rfl⟩
     split
     ·exact ih n (by omega) _ _ _ h
     split
     ·exact ⟨rfl,rfl⟩
     split
     ·exact ⟨rfl,rfl⟩
     split
     ·exact ⟨rfl,rfl⟩
     exact ih _ (by omega) _ _ _ (by simp [h,strip])
def Xnb (o:Xdu):XzG:=⟨o.Kind,o.Data,0⟩
theorem XvH (c:List Xdu):(c.map Xnb).map strip=c:=by
 rw [List.map_map,show strip∘Xnb=id from rfl,List.map_id]
theorem XSI {s:List UInt8} (hs:s.length<2^20):XdW s=some ((XnZ s).1.map strip,(XnZ s).2):=by
 unfold XdW XnK XnZ
 have key:=iter_eq (step:=fun (st:Int×List Xdu)=>XiM s st.1 st.2) (fun st=>((Xkq s (s.length - st.1.toNat) st.1.toNat (st.2.map Xnb)).1.map strip,(Xkq s (s.length - st.1.toNat) st.1.toNat (st.2.map Xnb)).2)) (fun st=>0≤st.1∧st.1≤s.length∧(st.2.length:Int)≤st.1) (fun st=>s.length - st.1.toNat) ?_ FUEL (0,[]) ⟨by simp,by simp,by simp⟩ (by rw [Xgx];simp only;omega)
 ·rw [key];rfl
 rintro ⟨p,out⟩ ⟨g1,g2,g3⟩
 simp only at g1 g2 g3 ⊢
 obtain ⟨i,rfl⟩:=Int.eq_ofNat_of_zero_le g1
 simp only [Int.toNat_natCast]
 unfold XiM
 by_cases hi:i<s.length
 ·obtain ⟨n,hn⟩:∃ n,s.length - i=n+1:=⟨s.length - i - 1,by omega⟩
  have e:s[i]?=some s[i]:=List.getElem?_eq_getElem hi
  rw [XaW (by omega),XaA (by omega),Int.toNat_natCast,e,Option.bind_some,hn,Xkq,e]
  by_cases h0:s[i]=0
  ·refine .inl ?_
   rw [show ((s[i].toNat:Int)==0)=true by rw [h0];rfl,cond_true]
   simp only [h0,if_true,XvH]
  rw [show ((s[i].toNat:Int)==0)=false by simp;intro hx;exact h0 (UInt8.toNat_inj.1 (by simpa using hx)),cond_false]
  simp only [if_neg h0]
  by_cases h1:s[i]=1
  ·refine .inr ⟨(((i+1:Nat):Int),out),?_,⟨by simp only;omega,by simp only;omega,by simp only;omega⟩,by simp only;omega,?_⟩
   ·rw [show ((s[i].toNat:Int)==1)=true by rw [h1];rfl,cond_true,Xed (by omega) (by omega)];rfl
   ·simp only [Int.toNat_natCast,if_pos h1]
    rw [show s.length - (i+1)=n by omega]
  rw [show ((s[i].toNat:Int)==1)=false by simp;intro hx;exact h1 (UInt8.toNat_inj.1 (by simp;omega)),cond_false]
  simp only [if_neg h1]
  rw [Xed (n:=(i:Int)+1) (by omega) (by omega)]
  by_cases h2:s.length≤i+1
  ·refine .inl ?_
   rw [XaO (by omega),List.getElem?_eq_none (by omega)];rfl
  have hi1:i+1<s.length:=by omega
  have e1:s[i+1]?=some s[i+1]:=List.getElem?_eq_getElem hi1
  have b1:=s[i+1].toNat_lt
  rw [XaW (by omega),show ((i:Int)+1).toNat=i+1 by omega,e1,XaA (by omega),Option.bind_some]
  simp only [Option.bind_some]
  rw [Xed (n:=(s[i+1].toNat:Int)) (by omega) (by omega)]
  by_cases h3:s[i+1].toNat<2
  ·refine .inl ?_
   rw [XaW (by omega),if_pos h3];rfl
  rw [XaO (by omega),if_neg h3,Xed (n:=(s.length:Int) - i) (by omega) (by omega)]
  by_cases h4:s.length - i<s[i+1].toNat
  ·refine .inl ?_
   rw [XaW (by omega),if_pos h4];rfl
  refine .inr ⟨(((i+s[i+1].toNat:Nat):Int),out++[⟨(s[i].toNat:Int),(s.drop (i+2)).take (s[i+1].toNat - 2)⟩]),?_,⟨by simp only;omega,by simp only;omega,by simp;omega⟩,by simp only;omega,?_⟩
  ·have b0:=s[i].toNat_lt
   rw [XaO (by omega),XaA (by omega),Xed (n:=(i:Int)+s[i+1].toNat) (by omega) (by omega),Xed (n:=(i:Int)+2) (by omega) (by omega),Xed (n:=(s[i].toNat:Int)) (by omega) (by omega),XaA (by omega),XaO (by omega),XaA (by omega),show ((i:Int)+s[i+1].toNat).toNat - ((i:Int)+2).toNat=s[i+1].toNat - 2 by omega,show ((i:Int)+2).toNat=i+2 by omega];rfl
  ·rw [if_neg h4]
   simp only [Int.toNat_natCast]
   rw [show s.length - (i+s[i+1].toNat)=n+1 - s[i+1].toNat by omega]
   have:=Xwx s (n+1 - s[i+1].toNat) (i+s[i+1].toNat) ((out++[(⟨(s[i].toNat:Int),(s.drop (i+2)).take (s[i+1].toNat - 2)⟩:Xdu)]).map Xnb) (out.map Xnb++[(⟨(s[i].toNat:Int),(s.drop (i+2)).take (s[i+1].toNat - 2),((i+2:Nat):Int)⟩:XzG)]) (by simp [strip,Xnb])
   rw [this.1,this.2]
 ·refine .inl ?_
  rw [XaO (by omega),show s.length - i=0 by omega,Xkq,XvH]
theorem XuU {A B:List UInt8} {p:Nat} {c:Int} (hA:A.length=p):XtG (A++(be 0 2++B)) (p:Int) 2 c=A++(be c.toNat 2++B):=by
 subst hA
 unfold XtG
 rw [if_pos (by simp only [List.length_append,Xq2];omega),Int.toNat_natCast,List.take_left,show ((A.length:Int)+2).toNat=A.length+2 by omega,←List.drop_drop,List.drop_left,show (be 0 2++B).drop 2=B from rfl,List.append_assoc];rfl
def ckN (W:Nat):Nat:=65535 - norm W
theorem XJD (a b:Nat) (hb:b<65536):be (a*65536+b) 4=be a 2++be b 2:=by
 rw [Xpc _ 2 2,show (256:Nat)^2=65536 from rfl,show (a*65536+b)/65536=a by omega,←XqO (a*65536+b) 2,show (256:Nat)^2=65536 from rfl,show (a*65536+b)%65536=b by omega]
theorem XzN (a b:Nat) (hb:b<4294967296):be (a*4294967296+b) 8=be a 4++be b 4:=by
 rw [Xpc _ 4 4,show (256:Nat)^4=4294967296 from rfl,show (a*4294967296+b)/4294967296=a by omega,←XqO (a*4294967296+b) 4,show (256:Nat)^4=4294967296 from rfl,show (a*4294967296+b)%4294967296=b by omega]
theorem XRm (a b:Nat) (hb:b<256):be (a*256+b) 2=be a 1++be b 1:=by
 rw [Xpc _ 1 1,show (256:Nat)^1=256 from rfl,show (a*256+b)/256=a by omega,←XqO (a*256+b) 1,show (256:Nat)^1=256 from rfl,show (a*256+b)%256=b by omega]
end Go.Vm.Code
namespace Go.Vm.Code
open Go Go.Vm Go.Proofs
set_option maxRecDepth 100000
set_option maxHeartbeats 4000000
set_option linter.unusedVariables false
def Xhl (most:Int) (l:List Int) (t9:Int):Option (Sum Int Bool):=
 cond (decide (t9<(l.length:Int)))
  (
  Xbn (decide ((0:Int)≤t9∧t9<(l.length:Int))) <|
  (l[t9.toNat]?).bind fun (e:Int)=>
  cond (decide (e<0))
   (
   some (.inr (false)))
   (
   cond (decide (e>most))
    (
    some (.inr (false)))
    (
    some (.inl (wI .i64 (t9+1))))))
  (
  some (.inr (true)))
def Xln (most:Int) (l:List Int):Option Bool:=
 iter (fun st=>Xhl most l st) FUEL 0
def Xw5 (x:Bool):XcS:=⟨.bool x,[],[none]⟩
abbrev Xfw:=Int→(List Int)→Option Bool
def r197 (g:Xfw):Dec:=dV (asI .i64) fun (y0:Int)=>dSl 0 1 (unL (asI .i64)) fun (y1:List Int)=>XdJ (ofG (g y0 y1) Xw5)
theorem XTh {g:Xfw} {y0:Int} {y1:List Int} {x:Bool} (hx:g y0 y1=some x):r197 g [.int .i64 y0,.slice (some ⟨0,0,none⟩) y1.length 1] [some (vI .i64 y1)]=some (Xw5 x):=(XaP (Xen _)).trans ((XsB (Xvt _ _)).trans (XaN hx))
def s197 (g:Xfw):Xbz:=⟨[.v,.sl 1],r197 g⟩
theorem XQu {g:Xfw} {y0:Int} {y1:List Int} {x:Bool} (hx:g y0 y1=some x):(s197 g).run [.int .i64 y0,.slice (some ⟨0,0,none⟩) y1.length 1] [some (vI .i64 y1)]=some (Xw5 x):=XTh hx
abbrev XzP:List (Nat×Xbz):=[]
def XlM (most:Int) (l:List Int) (t9:Int):VM:=
 ⟨⟨197,21,[(0,.int .i64 most),(7,.slice (some ⟨0,0,none⟩) l.length 1),(8,.int .i64 (l.length:Int)),(9,.int .i64 t9)],[.code XtK,.inLoop XtK,.inBlock 0,.code XxM],[],false,none⟩,[],[(0,.row false (vI .i64 l))],1⟩
theorem XzJ (hS:Xaj Tryz.prog (XaI (XzP))) (most:Int) (l:List Int) (res:Bool):∀ fuel (st:Int) (o:Bool),iter (fun st=>Xhl most l st) fuel st=some o→(o=res) →
 XaJ Tryz.prog 197 1 (XlM most l st) (fun v H _=>Res 1 (Xw5 res) v H):=by
 intro fuel st o h hc
 refine XcX (head:=fun st=>XlM most l st) (C:=fun o=>(o=res)) ?_ fuel st o h hc
 clear h hc o st fuel
 intro t9 o h hc
 replace h:Xhl most l t9=some o:=h
 show XaJ Tryz.prog 197 1 (XlM most l t9) (fun v H _=>Res 1 (Xw5 res) v H)
 unfold Xhl at h
 refine Xa7 XaE hS true 3000 ?_
 conv=>whnf
 refine br.h2 h (by rfl) ?_ ?_
 ·clear h;intro hb h;conv=>whnf
  exact W
 clear h;intro hb h;conv=>whnf
 replace h:=Xbn.elim h;obtain ⟨hb,h⟩:=h
 try (refine req.intro hb ?_;conv=>whnf)
 replace h:=XcR.elim h;obtain ⟨e,hy,h⟩:=h
 refine rd.I hy (by first|rfl|(rw [Nat.zero_add,Nat.mul_one];try rfl;done)|omega) ?_
 conv=>whnf
 refine br.h h (by rfl) ?_ ?_
 ·clear h;intro hb h;conv=>whnf
  exact W
 clear h;intro hb h;conv=>whnf
 refine br.h h (by rfl) ?_ ?_
 ·clear h;intro hb h;conv=>whnf
  exact W
 clear h;intro hb h;conv=>whnf
 cases h;simp only [Sum.elim_inl,XlM] at hc
 exact Xkz hc [(0,0)] rfl
theorem XGa (hS:Xaj Tryz.prog (XaI (XzP))) (most:Int) (l:List Int) (res:Bool) (h:Xln most l=some res) :
 XaJ Tryz.prog 197 1 ⟨⟨197,21,[(0,.int .i64 most),(1,.slice (some ⟨0,0,none⟩) l.length 1)],[.code XyB],[],false,none⟩,[],[(0,.row false (vI .i64 l))],1⟩ (fun v H _=>Res 1 (Xw5 res) v H):=by
 unfold Xln at h
 refine Xa7 XaE hS true 3000 ?_
 conv=>whnf
 have hl:=XzJ hS _ _ res _ _ _ h rfl;simp only [XlM] at hl
 exact Xkz hl [(0,0)] rfl
def XeY:Xfw:=Xln
theorem XK2:XbB Tryz.prog 197 (s197 XeY):=by
 have hL:=XGa (Xaj.XaK trivial)
 exact okA ⟨Tryz.f197,rfl,by decide,rfl⟩
def XjA (XeY:Xfw) (ha0:XaC):Option Bool:=
 (XeY 65535 [ha0.SPort,ha0.DPort,ha0.Window,ha0.Urgent]).bind fun w=>
 cond (w)
  (
  (XeY 255 [ha0.Flags]).bind fun w1=>
  cond (w1)
   (
   cond (((ha0.Options.length:Int).tmod 4)==0)
    (
    some (decide ((ha0.Options.length:Int)≤40)))
    (
    some (false)))
   (
   some (false)))
  (
  some (false))
def XE6 (x:Bool):XcS:=⟨.bool x,[],[]⟩
abbrev XeO:=XaC→Option Bool
def r181 (g:XeO):Dec:=dV XhO fun (y0:XaC)=>XdJ (ofG (g y0) XE6)
theorem XTi {g:XeO} {y0:XaC} {x:Bool} (hx:g y0=some x):r181 g [.agg ⟨[.int .i64 y0.SPort,.int .i64 y0.DPort,.int .u32 y0.Seq,.int .u32 y0.Ack,.int .i64 y0.Flags,.int .i64 y0.Window,.int .i64 y0.Urgent,.string ⟨⟨y0.Options⟩⟩]⟩] []=some (XE6 x):=(XaP (Xjf _)).trans (XaN hx)
def s181 (g:XeO):Xbz:=⟨[.v],r181 g⟩
theorem XQd {g:XeO} {y0:XaC} {x:Bool} (hx:g y0=some x):(s181 g).run [.agg ⟨[.int .i64 y0.SPort,.int .i64 y0.DPort,.int .u32 y0.Seq,.int .u32 y0.Ack,.int .i64 y0.Flags,.int .i64 y0.Window,.int .i64 y0.Urgent,.string ⟨⟨y0.Options⟩⟩]⟩] []=some (XE6 x):=XTi hx
abbrev XQf (XeY:Xfw):List (Nat×Xbz):=[(197,s197 XeY)]
theorem XEM (XeY:Xfw) (hS:Xaj Tryz.prog (XaI (XQf XeY))) (ha0:XaC) (res:Bool) (h:XjA XeY ha0=some res) :
 XaJ Tryz.prog 181 0 ⟨⟨181,32,[(0,.agg ⟨[.int .i64 ha0.SPort,.int .i64 ha0.DPort,.int .u32 ha0.Seq,.int .u32 ha0.Ack,.int .i64 ha0.Flags,.int .i64 ha0.Window,.int .i64 ha0.Urgent,.string ⟨⟨ha0.Options⟩⟩]⟩)],[.code XHL],[],false,none⟩,[],[],0⟩ (fun v H _=>Res 0 (XE6 res) v H):=by
 unfold XjA at h
 have R1:=@XQu XeY
 refine Xa7 XaE hS true 3000 ?_
 conv=>whnf
 exact W
def Xd2:XeO:=XjA XeY
theorem XNa:XbB Tryz.prog 181 (s181 Xd2):=by
 have hL:=XEM XeY (Xaj.XaK ⟨XK2,trivial⟩)
 exact okA ⟨Tryz.f181,rfl,by decide,rfl⟩
def Xjb (Xak:XaY) (ha0:XaC):Option (List UInt8):=
 let t:=wI .i64 (20+(ha0.Options.length:Int))
 let t1:=XlD .u64 (wI .u64 ((wI .u64 ha0.SPort)*2^16)) (wI .u64 ha0.DPort)
 (Xak t1 4).bind fun p=>
 let t2:=XlD .u64 (wI .u64 ((wI .u64 ha0.Seq)*2^32)) (wI .u64 ha0.Ack)
 (Xak t2 8).bind fun p1=>
 let t3:=wI .u64 ((wI .u64 ((wI .u64 t).tdiv 4))*2^12)
 (Xak (XlD .u64 t3 (wI .u64 ha0.Flags)) 2).bind fun p2=>
 (Xak (wI .u64 ha0.Window) 2).bind fun p3=>
 Xbn (decide (p2.length+p3.length<2^63)) <|
 Xbn (decide (p.length+p1.length<2^63)) <|
 Xbn (decide ((p++p1).length+(p2++p3).length<2^63)) <|
 (Xak (wI .u64 ha0.Urgent) 4).bind fun p4=>
 Xbn (decide (((p++p1)++(p2++p3)).length+p4.length<2^63)) <|
 Xbn (decide ((((p++p1)++(p2++p3))++p4).length+ha0.Options.length<2^63)) <|
 let t4:=(((p++p1)++(p2++p3))++p4)++ha0.Options
 some (t4)
def XCA (x:List UInt8):XcS:=⟨.string ⟨⟨x⟩⟩,[],[]⟩
abbrev XeA:=XaC→Option (List UInt8)
def r182 (g:XeA):Dec:=dV XhO fun (y0:XaC)=>XdJ (ofG (g y0) XCA)
theorem XR8 {g:XeA} {y0:XaC} {x:List UInt8} (hx:g y0=some x):r182 g [.agg ⟨[.int .i64 y0.SPort,.int .i64 y0.DPort,.int .u32 y0.Seq,.int .u32 y0.Ack,.int .i64 y0.Flags,.int .i64 y0.Window,.int .i64 y0.Urgent,.string ⟨⟨y0.Options⟩⟩]⟩] []=some (XCA x):=(XaP (Xjf _)).trans (XaN hx)
def s182 (g:XeA):Xbz:=⟨[.v],r182 g⟩
theorem XN9 {g:XeA} {y0:XaC} {x:List UInt8} (hx:g y0=some x):(s182 g).run [.agg ⟨[.int .i64 y0.SPort,.int .i64 y0.DPort,.int .u32 y0.Seq,.int .u32 y0.Ack,.int .i64 y0.Flags,.int .i64 y0.Window,.int .i64 y0.Urgent,.string ⟨⟨y0.Options⟩⟩]⟩] []=some (XCA x):=XR8 hx
abbrev XJW (Xak:XaY):List (Nat×Xbz):=[(97,s97 Xak)]
theorem XGV (Xak:XaY) (hS:Xaj Tryz.prog (XaI (XJW Xak))) (ha0:XaC) (res:List UInt8) (h:Xjb Xak ha0=some res) :
 XaJ Tryz.prog 182 0 ⟨⟨182,56,[(0,.agg ⟨[.int .i64 ha0.SPort,.int .i64 ha0.DPort,.int .u32 ha0.Seq,.int .u32 ha0.Ack,.int .i64 ha0.Flags,.int .i64 ha0.Window,.int .i64 ha0.Urgent,.string ⟨⟨ha0.Options⟩⟩]⟩)],[.code Xzy],[],false,none⟩,[],[],0⟩ (fun v H _=>Res 0 (XCA res) v H):=by
 unfold Xjb at h
 have R1:=@Xl3 Xak
 refine Xa7 XaE hS true 3000 ?_
 conv=>whnf
 exact W
def Xdv:XeA:=Xjb Xak
theorem XPV:XbB Tryz.prog 182 (s182 Xdv):=by
 have hL:=XGV Xak (Xaj.XaK ⟨Xnh,trivial⟩)
 exact okA ⟨Tryz.f182,rfl,by decide,rfl⟩
def Xpd (XbJ:XdC) (Xa5:Xc3) (XaG:XbM) (Xdv:XeA) (Xd2:XeO) (ha0:XaC) (src:Xab) (dst:Xab) (payload:List UInt8):Option ((List UInt8)×Int):=
 let t:=wI .i64 (20+(ha0.Options.length:Int))
 (XaG src dst 6 (wI .i64 (t+(payload.length:Int)))).bind fun p=>
 (Xd2 ha0).bind fun m=>
 cond (!m)
  (
  some (([],1)))
  (
  cond (p==[])
   (
   some (([],1)))
   (
   let t1:=decide ((payload.length:Int)>(wI .i64 (65535 - t)))
   cond (t1)
    (
    some (([],5)))
    (
    (Xdv ha0).bind fun l=>
    Xbn (decide (l.length+payload.length<2^63)) <|
    Xbn (decide (p.length+(l++payload).length<2^63)) <|
    (XbJ (p++(l++payload))).bind fun xo=>
    (Xa5 (l++payload) 16 2 (wI .u64 xo)).bind fun s=>
    some ((s,0)))))
def XGz (x:(List UInt8)×Int):XcS:=⟨.tuple ⟨[.string ⟨⟨x.1⟩⟩,.int .i64 x.2]⟩,[],[]⟩
abbrev Xh7:=XaC→Xab→Xab→(List UInt8)→Option ((List UInt8)×Int)
def r160 (g:Xh7):Dec:=dV XhO fun (y0:XaC)=>dV Xb5 fun (y1:Xab)=>dV Xb5 fun (y2:Xab)=>dV asS fun (y3:List UInt8)=>XdJ (ofG (g y0 y1 y2 y3) XGz)
theorem XSb {g:Xh7} {y0:XaC} {y1:Xab} {y2:Xab} {y3:List UInt8} {x:(List UInt8)×Int} (hx:g y0 y1 y2 y3=some x):r160 g [.agg ⟨[.int .i64 y0.SPort,.int .i64 y0.DPort,.int .u32 y0.Seq,.int .u32 y0.Ack,.int .i64 y0.Flags,.int .i64 y0.Window,.int .i64 y0.Urgent,.string ⟨⟨y0.Options⟩⟩]⟩,.agg ⟨[.bool y1.V6,.int .u64 y1.Hi,.int .u64 y1.Lo]⟩,.agg ⟨[.bool y2.V6,.int .u64 y2.Hi,.int .u64 y2.Lo]⟩,.string ⟨⟨y3⟩⟩] []=some (XGz x):=(XaP (Xjf _)).trans ((XaP (XbO _)).trans ((XaP (XbO _)).trans ((XaP (XdL)).trans (XaN hx))))
def s160 (g:Xh7):Xbz:=⟨[.v,.v,.v,.v],r160 g⟩
theorem XK3 {g:Xh7} {y0:XaC} {y1:Xab} {y2:Xab} {y3:List UInt8} {x:(List UInt8)×Int} (hx:g y0 y1 y2 y3=some x):(s160 g).run [.agg ⟨[.int .i64 y0.SPort,.int .i64 y0.DPort,.int .u32 y0.Seq,.int .u32 y0.Ack,.int .i64 y0.Flags,.int .i64 y0.Window,.int .i64 y0.Urgent,.string ⟨⟨y0.Options⟩⟩]⟩,.agg ⟨[.bool y1.V6,.int .u64 y1.Hi,.int .u64 y1.Lo]⟩,.agg ⟨[.bool y2.V6,.int .u64 y2.Hi,.int .u64 y2.Lo]⟩,.string ⟨⟨y3⟩⟩] []=some (XGz x):=XSb hx
abbrev XPf (XbJ:XdC) (Xa5:Xc3) (XaG:XbM) (Xdv:XeA) (Xd2:XeO):List (Nat×Xbz):=[(183,XRq XbJ),(98,s98 Xa5),(180,XQS XaG),(182,s182 Xdv),(181,s181 Xd2)]
theorem XCI (XbJ:XdC) (Xa5:Xc3) (XaG:XbM) (Xdv:XeA) (Xd2:XeO) (hS:Xaj Tryz.prog (XaI (XPf XbJ Xa5 XaG Xdv Xd2))) (ha0:XaC) (src:Xab) (dst:Xab) (payload:List UInt8) (res:(List UInt8)×Int) (h:Xpd XbJ Xa5 XaG Xdv Xd2 ha0 src dst payload=some res) :
 XaJ Tryz.prog 160 0 ⟨⟨160,49,[(0,.agg ⟨[.int .i64 ha0.SPort,.int .i64 ha0.DPort,.int .u32 ha0.Seq,.int .u32 ha0.Ack,.int .i64 ha0.Flags,.int .i64 ha0.Window,.int .i64 ha0.Urgent,.string ⟨⟨ha0.Options⟩⟩]⟩),(1,.agg ⟨[.bool src.V6,.int .u64 src.Hi,.int .u64 src.Lo]⟩),(2,.agg ⟨[.bool dst.V6,.int .u64 dst.Hi,.int .u64 dst.Lo]⟩),(3,.string ⟨⟨payload⟩⟩)],[.code XyF],[],false,none⟩,[],[],0⟩ (fun v H _=>Res 0 (XGz res) v H):=by
 unfold Xpd at h
 have R1:=@XrC XaG
 have R2:=@XQd Xd2
 have R3:=@XN9 Xdv
 have R4:=@Xuj XbJ
 have R5:=@XA5 Xa5
 refine Xa7 XaE hS true 3000 ?_
 conv=>whnf
 exact W
def XiJ:Xh7:=Xpd XbJ Xa5 XaG Xdv Xd2
theorem XL4:XbB Tryz.prog 160 (s160 XiJ):=by
 have hL:=XCI XbJ Xa5 XaG Xdv Xd2 (Xaj.XaK ⟨XtO,XAK,XrB,XPV,XNa,trivial⟩)
 exact okA ⟨Tryz.f160,rfl,by decide,rfl⟩
def Xla (Xbd:Xcl) (Xad:XaL) (Xaf:XaB) (s:List UInt8) (size:Int):Option XaC:=
 (Xbd s).bind fun n=>
 (Xad n 2).bind fun n1=>
 (Xad n1.2 2).bind fun n2=>
 (Xad n2.2 4).bind fun n3=>
 (Xad n3.2 4).bind fun n4=>
 (Xad n4.2 2).bind fun n5=>
 (Xad n5.2 2).bind fun n6=>
 (Xad n6.2 2).bind fun n7=>
 (Xad n7.2 2).bind fun n8=>
 (Xaf n8.2 (wI .i64 (size - 20))).bind fun t=>
 some (XaC.mk n1.1 n2.1 (wI .u32 n3.1) (wI .u32 n4.1) (XnT .i64 n5.1 255) n6.1 n8.1 t.1)
def XFn (x:XaC):XcS:=⟨.agg ⟨[.int .i64 x.SPort,.int .i64 x.DPort,.int .u32 x.Seq,.int .u32 x.Ack,.int .i64 x.Flags,.int .i64 x.Window,.int .i64 x.Urgent,.string ⟨⟨x.Options⟩⟩]⟩,[],[]⟩
abbrev XfF:=(List UInt8)→Int→Option XaC
def r192 (g:XfF):Dec:=dV asS fun (y0:List UInt8)=>dV (asI .i64) fun (y1:Int)=>XdJ (ofG (g y0 y1) XFn)
theorem XQY {g:XfF} {y0:List UInt8} {y1:Int} {x:XaC} (hx:g y0 y1=some x):r192 g [.string ⟨⟨y0⟩⟩,.int .i64 y1] []=some (XFn x):=(XaP (XdL)).trans ((XaP (Xen _)).trans (XaN hx))
def s192 (g:XfF):Xbz:=⟨[.v,.v],r192 g⟩
theorem XNm {g:XfF} {y0:List UInt8} {y1:Int} {x:XaC} (hx:g y0 y1=some x):(s192 g).run [.string ⟨⟨y0⟩⟩,.int .i64 y1] []=some (XFn x):=XQY hx
abbrev XOs (Xbd:Xcl) (Xad:XaL) (Xaf:XaB):List (Nat×Xbz):=[(77,s77 Xbd),(78,s78 Xad),(129,XBJ Xaf)]
theorem XD1 (Xbd:Xcl) (Xad:XaL) (Xaf:XaB) (hS:Xaj Tryz.prog (XaI (XOs Xbd Xad Xaf))) (s:List UInt8) (size:Int) (res:XaC) (h:Xla Xbd Xad Xaf s size=some res) :
 XaJ Tryz.prog 192 0 ⟨⟨192,38,[(0,.string ⟨⟨s⟩⟩),(1,.int .i64 size)],[.code XAd],[],false,none⟩,[],[],0⟩ (fun v H _=>Res 0 (XFn res) v H):=by
 unfold Xla at h
 have R1:=@XtD Xbd
 have R2:=@XmI Xad
 have R3:=@XlJ Xaf
 refine Xa7 XaE hS true 3000 ?_
 conv=>whnf
 exact W
def Xff:XfF:=Xla Xbd Xad Xaf
theorem XOr:XbB Tryz.prog 192 (s192 Xff):=by
 have hL:=XD1 Xbd Xad Xaf (Xaj.XaK ⟨XsS,XqP,XlX,trivial⟩)
 exact okA ⟨Tryz.f192,rfl,by decide,rfl⟩
def Xpm (Xbi:XcN) (XaG:XbM) (XdW:Xe4) (Xff:XfF) (s:List UInt8) (src:Xab) (dst:Xab):Option (XaC×(List UInt8)×Int):=
 cond (decide ((s.length:Int)<20))
  (
  some ((XaC.mk 0 0 0 0 0 0 0 [],[],2)))
  (
  (s[12]?).bind fun (b:UInt8)=>
  (s[12]?).bind fun (b1:UInt8)=>
  let t:=wI .i64 (4*(wI .i64 ((b.toNat:Int).fdiv (2^4))))
  cond (decide (t<20))
   (
   some ((XaC.mk 0 0 0 0 0 0 0 [],[],3)))
   (
   cond ((XnT .u8 (b1.toNat:Int) 15) !=0)
    (
    some ((XaC.mk 0 0 0 0 0 0 0 [],[],3)))
    (
    cond (decide (t>(s.length:Int)))
     (
     some ((XaC.mk 0 0 0 0 0 0 0 [],[],2)))
     (
     (XaG src dst 6 (s.length:Int)).bind fun p=>
     cond (p==[])
      (
      some ((XaC.mk 0 0 0 0 0 0 0 [],[],1)))
      (
      Xbn (decide (p.length+s.length<2^63)) <|
      (Xbi (p++s)).bind fun xr=>
      cond (!xr)
       (
       some ((XaC.mk 0 0 0 0 0 0 0 [],[],4)))
       (
       (Xff s t).bind fun p1=>
       (XdW p1.Options).bind fun l=>
       cond (l.2 !=0)
        (
        some ((XaC.mk 0 0 0 0 0 0 0 [],[],l.2)))
        (
        Xbn (decide ((0:Int)≤t∧t≤(s.length:Int))) <|
        let t1:=(s.drop t.toNat).take (s.length - t.toNat)
        some ((p1,t1,0)))))))))
def XFp (x:XaC×(List UInt8)×Int):XcS:=⟨.tuple ⟨[.agg ⟨[.int .i64 x.1.SPort,.int .i64 x.1.DPort,.int .u32 x.1.Seq,.int .u32 x.1.Ack,.int .i64 x.1.Flags,.int .i64 x.1.Window,.int .i64 x.1.Urgent,.string ⟨⟨x.1.Options⟩⟩]⟩,.string ⟨⟨x.2.1⟩⟩,.int .i64 x.2.2]⟩,[],[]⟩
abbrev XhU:=(List UInt8)→Xab→Xab→Option (XaC×(List UInt8)×Int)
def r167 (g:XhU):Dec:=dV asS fun (y0:List UInt8)=>dV Xb5 fun (y1:Xab)=>dV Xb5 fun (y2:Xab)=>XdJ (ofG (g y0 y1 y2) XFp)
theorem XSl {g:XhU} {y0:List UInt8} {y1:Xab} {y2:Xab} {x:XaC×(List UInt8)×Int} (hx:g y0 y1 y2=some x):r167 g [.string ⟨⟨y0⟩⟩,.agg ⟨[.bool y1.V6,.int .u64 y1.Hi,.int .u64 y1.Lo]⟩,.agg ⟨[.bool y2.V6,.int .u64 y2.Hi,.int .u64 y2.Lo]⟩] []=some (XFp x):=(XaP (XdL)).trans ((XaP (XbO _)).trans ((XaP (XbO _)).trans (XaN hx)))
def s167 (g:XhU):Xbz:=⟨[.v,.v,.v],r167 g⟩
theorem XMN {g:XhU} {y0:List UInt8} {y1:Xab} {y2:Xab} {x:XaC×(List UInt8)×Int} (hx:g y0 y1 y2=some x):(s167 g).run [.string ⟨⟨y0⟩⟩,.agg ⟨[.bool y1.V6,.int .u64 y1.Hi,.int .u64 y1.Lo]⟩,.agg ⟨[.bool y2.V6,.int .u64 y2.Hi,.int .u64 y2.Lo]⟩] []=some (XFp x):=XSl hx
abbrev XNr (Xbi:XcN) (XaG:XbM) (XdW:Xe4) (Xff:XfF):List (Nat×Xbz):=[(80,s80 Xbi),(180,XQS XaG),(169,s169 XdW),(192,s192 Xff)]
theorem XB9 (Xbi:XcN) (XaG:XbM) (XdW:Xe4) (Xff:XfF) (hS:Xaj Tryz.prog (XaI (XNr Xbi XaG XdW Xff))) (s:List UInt8) (src:Xab) (dst:Xab) (res:XaC×(List UInt8)×Int) (h:Xpm Xbi XaG XdW Xff s src dst=some res) :
 XaJ Tryz.prog 167 0 ⟨⟨167,76,[(0,.string ⟨⟨s⟩⟩),(1,.agg ⟨[.bool src.V6,.int .u64 src.Hi,.int .u64 src.Lo]⟩),(2,.agg ⟨[.bool dst.V6,.int .u64 dst.Hi,.int .u64 dst.Lo]⟩)],[.code Xy7],[],false,none⟩,[],[],0⟩ (fun v H _=>Res 0 (XFp res) v H):=by
 unfold Xpm at h
 have R1:=@XrC XaG
 have R2:=@Xyx Xbi
 have R3:=@XNm Xff
 have R4:=@Xzq XdW
 refine Xa7 XaE hS true 3000 ?_
 conv=>whnf
 exact W
def XiV:XhU:=Xpm Xbi XaG XdW Xff
theorem XPj:XbB Tryz.prog 167 (s167 XiV):=by
 have hL:=XB9 Xbi XaG XdW Xff (Xaj.XaK ⟨XAO,XrB,XBr,XOr,trivial⟩)
 exact okA ⟨Tryz.f167,rfl,by decide,rfl⟩
def Xnj (Xa3:Xck) (n:Int) (k:Int):Option (List UInt8):=
 (Xa3 (wI .u64 n) k).bind fun p=>
 some (p)
def rx62 (x:List UInt8):XcS:=⟨.string ⟨⟨x⟩⟩,[],[]⟩
abbrev XfV:=Int→Int→Option (List UInt8)
def r62 (g:XfV):Dec:=dV (asI .i64) fun (y0:Int)=>dV (asI .i64) fun (y1:Int)=>XdJ (ofG (g y0 y1) rx62)
theorem r62_c {g:XfV} {y0:Int} {y1:Int} {x:List UInt8} (hx:g y0 y1=some x):r62 g [.int .i64 y0,.int .i64 y1] []=some (rx62 x):=(XaP (Xen _)).trans ((XaP (Xen _)).trans (XaN hx))
def s62 (g:XfV):Xbz:=⟨[.v,.v],r62 g⟩
theorem XHG {g:XfV} {y0:Int} {y1:Int} {x:List UInt8} (hx:g y0 y1=some x):(s62 g).run [.int .i64 y0,.int .i64 y1] []=some (rx62 x):=r62_c hx
abbrev XV3 (Xa3:Xck):List (Nat×Xbz):=[(63,s63 Xa3)]
theorem XOv (Xa3:Xck) (hS:Xaj Tryz.prog (XaI (XV3 Xa3))) (n:Int) (k:Int) (res:List UInt8) (h:Xnj Xa3 n k=some res) :
 XaJ Tryz.prog 62 0 ⟨⟨62,9,[(0,.int .i64 n),(1,.int .i64 k)],[.code XVZ],[],false,none⟩,[],[],0⟩ (fun v H _=>Res 0 (rx62 res) v H):=by
 unfold Xnj at h
 have R1:=@Xpy Xa3
 refine Xa7 XaE hS true 3000 ?_
 conv=>whnf
 exact W
def Xdr:XfV:=Xnj Xa3
theorem XHP:XbB Tryz.prog 62 (s62 Xdr):=by
 have hL:=XOv Xa3 (Xaj.XaK ⟨XpH,trivial⟩)
 exact okA ⟨Tryz.f62,rfl,by decide,rfl⟩
def Xrj (n:Int) (most:Int):Option Bool:=
 cond (decide (n≥0))
  (
  some (decide (n≤most)))
  (
  some (false))
def XEx (x:Bool):XcS:=⟨.bool x,[],[]⟩
abbrev Xjq:=Int→Int→Option Bool
def r148 (g:Xjq):Dec:=dV (asI .i64) fun (y0:Int)=>dV (asI .i64) fun (y1:Int)=>XdJ (ofG (g y0 y1) XEx)
theorem XTd {g:Xjq} {y0:Int} {y1:Int} {x:Bool} (hx:g y0 y1=some x):r148 g [.int .i64 y0,.int .i64 y1] []=some (XEx x):=(XaP (Xen _)).trans ((XaP (Xen _)).trans (XaN hx))
def s148 (g:Xjq):Xbz:=⟨[.v,.v],r148 g⟩
theorem XOZ {g:Xjq} {y0:Int} {y1:Int} {x:Bool} (hx:g y0 y1=some x):(s148 g).run [.int .i64 y0,.int .i64 y1] []=some (XEx x):=XTd hx
abbrev XK1:List (Nat×Xbz):=[]
theorem XG1 (hS:Xaj Tryz.prog (XaI (XK1))) (n:Int) (most:Int) (res:Bool) (h:Xrj n most=some res) :
 XaJ Tryz.prog 148 0 ⟨⟨148,12,[(0,.int .i64 n),(1,.int .i64 most)],[.code XJv],[],false,none⟩,[],[],0⟩ (fun v H _=>Res 0 (XEx res) v H):=by
 unfold Xrj at h
 refine Xa7 XaE hS true 3000 ?_
 conv=>whnf
 exact W
def Xjo:Xjq:=Xrj
theorem XLz:XbB Tryz.prog 148 (s148 Xjo):=by
 have hL:=XG1 (Xaj.XaK trivial)
 exact okA ⟨Tryz.f148,rfl,by decide,rfl⟩
def Xmp (Xjo:Xjq) (ha0:XaC):Option Bool:=
 (Xjo ha0.SPort 65535).bind fun i=>
 cond (i)
  (
  (Xjo ha0.DPort 65535).bind fun i1=>
  cond (i1)
   (
   (Xjo ha0.Flags 255).bind fun i2=>
   cond (i2)
    (
    (Xjo ha0.Window 65535).bind fun i3=>
    cond (i3)
     (
     (Xjo ha0.Urgent 65535).bind fun i4=>
     cond (i4)
      (
      cond (decide ((ha0.Options.length:Int)≤40))
       (
       some (((ha0.Options.length:Int).tmod 4)==0))
       (
       some (false)))
      (
      some (false)))
     (
     some (false)))
    (
    some (false)))
   (
   some (false)))
  (
  some (false))
def XFb (x:Bool):XcS:=⟨.bool x,[],[]⟩
abbrev Xgg:=XaC→Option Bool
def r102 (g:Xgg):Dec:=dV XhO fun (y0:XaC)=>XdJ (ofG (g y0) XFb)
theorem XTp {g:Xgg} {y0:XaC} {x:Bool} (hx:g y0=some x):r102 g [.agg ⟨[.int .i64 y0.SPort,.int .i64 y0.DPort,.int .u32 y0.Seq,.int .u32 y0.Ack,.int .i64 y0.Flags,.int .i64 y0.Window,.int .i64 y0.Urgent,.string ⟨⟨y0.Options⟩⟩]⟩] []=some (XFb x):=(XaP (Xjf _)).trans (XaN hx)
def s102 (g:Xgg):Xbz:=⟨[.v],r102 g⟩
theorem XON {g:Xgg} {y0:XaC} {x:Bool} (hx:g y0=some x):(s102 g).run [.agg ⟨[.int .i64 y0.SPort,.int .i64 y0.DPort,.int .u32 y0.Seq,.int .u32 y0.Ack,.int .i64 y0.Flags,.int .i64 y0.Window,.int .i64 y0.Urgent,.string ⟨⟨y0.Options⟩⟩]⟩] []=some (XFb x):=XTp hx
abbrev XKZ (Xjo:Xjq):List (Nat×Xbz):=[(148,s148 Xjo)]
theorem XDJ (Xjo:Xjq) (hS:Xaj Tryz.prog (XaI (XKZ Xjo))) (ha0:XaC) (res:Bool) (h:Xmp Xjo ha0=some res) :
 XaJ Tryz.prog 102 0 ⟨⟨102,39,[(0,.agg ⟨[.int .i64 ha0.SPort,.int .i64 ha0.DPort,.int .u32 ha0.Seq,.int .u32 ha0.Ack,.int .i64 ha0.Flags,.int .i64 ha0.Window,.int .i64 ha0.Urgent,.string ⟨⟨ha0.Options⟩⟩]⟩)],[.code XJy],[],false,none⟩,[],[],0⟩ (fun v H _=>Res 0 (XFb res) v H):=by
 unfold Xmp at h
 have R1:=@XOZ Xjo
 refine Xa7 XaE hS true 3000 ?_
 conv=>whnf
 exact W
def XfS:Xgg:=Xmp Xjo
theorem XMB:XbB Tryz.prog 102 (s102 XfS):=by
 have hL:=XDJ Xjo (Xaj.XaK ⟨XLz,trivial⟩)
 exact okA ⟨Tryz.f102,rfl,by decide,rfl⟩
def Xpn (XeH:XfC) (XcP:XeZ) (Xbc:Xct) (XfS:Xgg) (Xdr:XfV) (ha0:XaC) (src:Xab) (dst:Xab) (payload:List UInt8):Option ((List UInt8)×Int):=
 let t:=wI .i64 (20+(ha0.Options.length:Int))
 (Xbc src dst 6 (wI .i64 (t+(payload.length:Int)))).bind fun p=>
 (XfS ha0).bind fun xr=>
 cond (!xr)
  (
  some (([],1)))
  (
  cond (p==[])
   (
   some (([],1)))
   (
   let t1:=decide ((payload.length:Int)>(wI .i64 (65535 - t)))
   cond (t1)
    (
    some (([],5)))
    (
    (Xdr ha0.SPort 2).bind fun n=>
    (Xdr ha0.DPort 2).bind fun n1=>
    Xbn (decide (n.length+n1.length<2^63)) <|
    (Xdr (wI .i64 ha0.Seq) 4).bind fun n2=>
    Xbn (decide ((n++n1).length+n2.length<2^63)) <|
    (Xdr (wI .i64 ha0.Ack) 4).bind fun n3=>
    Xbn (decide (((n++n1)++n2).length+n3.length<2^63)) <|
    (Xdr (wI .i64 (4*t)) 1).bind fun n4=>
    Xbn (decide ((((n++n1)++n2)++n3).length+n4.length<2^63)) <|
    (Xdr ha0.Flags 1).bind fun n5=>
    Xbn (decide (((((n++n1)++n2)++n3)++n4).length+n5.length<2^63)) <|
    (Xdr ha0.Window 2).bind fun n6=>
    Xbn (decide ((((((n++n1)++n2)++n3)++n4)++n5).length+n6.length<2^63)) <|
    let t2:=(((((n++n1)++n2)++n3)++n4)++n5)++n6
    (Xdr 0 2).bind fun n7=>
    Xbn (decide (t2.length+n7.length<2^63)) <|
    (Xdr ha0.Urgent 2).bind fun n8=>
    Xbn (decide ((t2++n7).length+n8.length<2^63)) <|
    Xbn (decide (((t2++n7)++n8).length+ha0.Options.length<2^63)) <|
    Xbn (decide ((((t2++n7)++n8)++ha0.Options).length+payload.length<2^63)) <|
    let t3:=(((t2++n7)++n8)++ha0.Options)++payload
    Xbn (decide (p.length+t3.length<2^63)) <|
    (XeH (p++t3)).bind fun xo=>
    (XcP t3 16 2 (wI .u64 xo)).bind fun s=>
    some ((s,0)))))
def rx60 (x:(List UInt8)×Int):XcS:=⟨.tuple ⟨[.string ⟨⟨x.1⟩⟩,.int .i64 x.2]⟩,[],[]⟩
abbrev XhM:=XaC→Xab→Xab→(List UInt8)→Option ((List UInt8)×Int)
def r60 (g:XhM):Dec:=dV XhO fun (y0:XaC)=>dV Xb5 fun (y1:Xab)=>dV Xb5 fun (y2:Xab)=>dV asS fun (y3:List UInt8)=>XdJ (ofG (g y0 y1 y2 y3) rx60)
theorem r60_c {g:XhM} {y0:XaC} {y1:Xab} {y2:Xab} {y3:List UInt8} {x:(List UInt8)×Int} (hx:g y0 y1 y2 y3=some x):r60 g [.agg ⟨[.int .i64 y0.SPort,.int .i64 y0.DPort,.int .u32 y0.Seq,.int .u32 y0.Ack,.int .i64 y0.Flags,.int .i64 y0.Window,.int .i64 y0.Urgent,.string ⟨⟨y0.Options⟩⟩]⟩,.agg ⟨[.bool y1.V6,.int .u64 y1.Hi,.int .u64 y1.Lo]⟩,.agg ⟨[.bool y2.V6,.int .u64 y2.Hi,.int .u64 y2.Lo]⟩,.string ⟨⟨y3⟩⟩] []=some (rx60 x):=(XaP (Xjf _)).trans ((XaP (XbO _)).trans ((XaP (XbO _)).trans ((XaP (XdL)).trans (XaN hx))))
def s60 (g:XhM):Xbz:=⟨[.v,.v,.v,.v],r60 g⟩
theorem XT0 {g:XhM} {y0:XaC} {y1:Xab} {y2:Xab} {y3:List UInt8} {x:(List UInt8)×Int} (hx:g y0 y1 y2 y3=some x):(s60 g).run [.agg ⟨[.int .i64 y0.SPort,.int .i64 y0.DPort,.int .u32 y0.Seq,.int .u32 y0.Ack,.int .i64 y0.Flags,.int .i64 y0.Window,.int .i64 y0.Urgent,.string ⟨⟨y0.Options⟩⟩]⟩,.agg ⟨[.bool y1.V6,.int .u64 y1.Hi,.int .u64 y1.Lo]⟩,.agg ⟨[.bool y2.V6,.int .u64 y2.Hi,.int .u64 y2.Lo]⟩,.string ⟨⟨y3⟩⟩] []=some (rx60 x):=r60_c hx
abbrev XRK (XeH:XfC) (XcP:XeZ) (Xbc:Xct) (XfS:Xgg) (Xdr:XfV):List (Nat×Xbz):=[(65,s65 XeH),(64,s64 XcP),(101,XQP Xbc),(102,s102 XfS),(62,s62 Xdr)]
theorem XNU (XeH:XfC) (XcP:XeZ) (Xbc:Xct) (XfS:Xgg) (Xdr:XfV) (hS:Xaj Tryz.prog (XaI (XRK XeH XcP Xbc XfS Xdr))) (ha0:XaC) (src:Xab) (dst:Xab) (payload:List UInt8) (res:(List UInt8)×Int) (h:Xpn XeH XcP Xbc XfS Xdr ha0 src dst payload=some res) :
 XaJ Tryz.prog 60 0 ⟨⟨60,83,[(0,.agg ⟨[.int .i64 ha0.SPort,.int .i64 ha0.DPort,.int .u32 ha0.Seq,.int .u32 ha0.Ack,.int .i64 ha0.Flags,.int .i64 ha0.Window,.int .i64 ha0.Urgent,.string ⟨⟨ha0.Options⟩⟩]⟩),(1,.agg ⟨[.bool src.V6,.int .u64 src.Hi,.int .u64 src.Lo]⟩),(2,.agg ⟨[.bool dst.V6,.int .u64 dst.Hi,.int .u64 dst.Lo]⟩),(3,.string ⟨⟨payload⟩⟩)],[.code XJo],[],false,none⟩,[],[],0⟩ (fun v H _=>Res 0 (rx60 res) v H):=by
 unfold Xpn at h
 have R1:=@Xr9 Xbc
 have R2:=@XON XfS
 have R3:=@XHG Xdr
 have R4:=@XAb XeH
 have R5:=@Xz9 XcP
 refine Xa7 XaE hS true 3000 ?_
 conv=>whnf
 exact W
def XiH:XhM:=Xpn XeH XcP Xbc XfS Xdr
theorem XVM:XbB Tryz.prog 60 (s60 XiH):=by
 have hL:=XNU XeH XcP Xbc XfS Xdr (Xaj.XaK ⟨XBc,Xyj,Xro,XMB,XHP,trivial⟩)
 exact okA ⟨Tryz.f60,rfl,by decide,rfl⟩
def Xo0 (Xas:XbL) (Xcy:Xd6) (Xbc:Xct) (XdU:Xe3) (s:List UInt8) (src:Xab) (dst:Xab):Option (XaC×(List UInt8)×Int):=
 cond (decide ((s.length:Int)<20))
  (
  some ((XaC.mk 0 0 0 0 0 0 0 [],[],2)))
  (
  (s[12]?).bind fun (b:UInt8)=>
  let t:=wI .i64 (wI .u8 ((b.toNat:Int).tdiv 16))
  cond (decide ((wI .i64 (4*t))<20))
   (
   some ((XaC.mk 0 0 0 0 0 0 0 [],[],3)))
   (
   (s[12]?).bind fun (b1:UInt8)=>
   cond (((b1.toNat:Int).tmod 16) !=0)
    (
    some ((XaC.mk 0 0 0 0 0 0 0 [],[],3)))
    (
    let t1:=decide ((s.length:Int)<(wI .i64 (4*t)))
    cond (t1)
     (
     some ((XaC.mk 0 0 0 0 0 0 0 [],[],2)))
     (
     (Xbc src dst 6 (s.length:Int)).bind fun p=>
     cond (p==[])
      (
      some ((XaC.mk 0 0 0 0 0 0 0 [],[],1)))
      (
      Xbn (decide (p.length+s.length<2^63)) <|
      (Xcy (p++s)).bind fun s1=>
      cond (s1 !=65535)
       (
       some ((XaC.mk 0 0 0 0 0 0 0 [],[],4)))
       (
       Xbn (decide ((0:Int)≤(wI .i64 (4*t))∧(wI .i64 (4*t))≤(s.length:Int)∧(0:Int)≤(20:Int)∧(20:Int)≤((wI .i64 (4*t)).toNat:Int))) <|
       let t2:=(s.drop 20).take ((wI .i64 (4*t)).toNat - 20)
       (XdU t2).bind fun l=>
       cond (l.2 !=0)
        (
        some ((XaC.mk 0 0 0 0 0 0 0 [],[],l.2)))
        (
        (Xas s 0 2).bind fun m=>
        (Xas s 2 2).bind fun m1=>
        (Xas s 4 4).bind fun m2=>
        (Xas s 8 4).bind fun m3=>
        (s[13]?).bind fun (b2:UInt8)=>
        (Xas s 14 2).bind fun m4=>
        (Xas s 18 2).bind fun m5=>
        Xbn (decide ((0:Int)≤(wI .i64 (4*t))∧(wI .i64 (4*t))≤(s.length:Int)∧(0:Int)≤(20:Int)∧(20:Int)≤((wI .i64 (4*t)).toNat:Int))) <|
        let t3:=(s.drop 20).take ((wI .i64 (4*t)).toNat - 20)
        Xbn (decide ((0:Int)≤(wI .i64 (4*t))∧(wI .i64 (4*t))≤(s.length:Int))) <|
        let t4:=(s.drop (wI .i64 (4*t)).toNat).take (s.length - (wI .i64 (4*t)).toNat)
        some ((XaC.mk m m1 (wI .u32 m2) (wI .u32 m3) (wI .i64 (b2.toNat:Int)) m4 m5 t3,t4,0)))))))))
def XBY (x:XaC×(List UInt8)×Int):XcS:=⟨.tuple ⟨[.agg ⟨[.int .i64 x.1.SPort,.int .i64 x.1.DPort,.int .u32 x.1.Seq,.int .u32 x.1.Ack,.int .i64 x.1.Flags,.int .i64 x.1.Window,.int .i64 x.1.Urgent,.string ⟨⟨x.1.Options⟩⟩]⟩,.string ⟨⟨x.2.1⟩⟩,.int .i64 x.2.2]⟩,[],[]⟩
abbrev XhP:=(List UInt8)→Xab→Xab→Option (XaC×(List UInt8)×Int)
def r106 (g:XhP):Dec:=dV asS fun (y0:List UInt8)=>dV Xb5 fun (y1:Xab)=>dV Xb5 fun (y2:Xab)=>XdJ (ofG (g y0 y1 y2) XBY)
theorem XS4 {g:XhP} {y0:List UInt8} {y1:Xab} {y2:Xab} {x:XaC×(List UInt8)×Int} (hx:g y0 y1 y2=some x):r106 g [.string ⟨⟨y0⟩⟩,.agg ⟨[.bool y1.V6,.int .u64 y1.Hi,.int .u64 y1.Lo]⟩,.agg ⟨[.bool y2.V6,.int .u64 y2.Hi,.int .u64 y2.Lo]⟩] []=some (XBY x):=(XaP (XdL)).trans ((XaP (XbO _)).trans ((XaP (XbO _)).trans (XaN hx)))
def s106 (g:XhP):Xbz:=⟨[.v,.v,.v],r106 g⟩
theorem XQr {g:XhP} {y0:List UInt8} {y1:Xab} {y2:Xab} {x:XaC×(List UInt8)×Int} (hx:g y0 y1 y2=some x):(s106 g).run [.string ⟨⟨y0⟩⟩,.agg ⟨[.bool y1.V6,.int .u64 y1.Hi,.int .u64 y1.Lo]⟩,.agg ⟨[.bool y2.V6,.int .u64 y2.Hi,.int .u64 y2.Lo]⟩] []=some (XBY x):=XS4 hx
abbrev XMh (Xas:XbL) (Xcy:Xd6) (Xbc:Xct) (XdU:Xe3):List (Nat×Xbz):=[(88,s88 Xas),(86,s86 Xcy),(101,XQP Xbc),(154,s154 XdU)]
theorem XFZ (Xas:XbL) (Xcy:Xd6) (Xbc:Xct) (XdU:Xe3) (hS:Xaj Tryz.prog (XaI (XMh Xas Xcy Xbc XdU))) (s:List UInt8) (src:Xab) (dst:Xab) (res:XaC×(List UInt8)×Int) (h:Xo0 Xas Xcy Xbc XdU s src dst=some res) :
 XaJ Tryz.prog 106 0 ⟨⟨106,85,[(0,.string ⟨⟨s⟩⟩),(1,.agg ⟨[.bool src.V6,.int .u64 src.Hi,.int .u64 src.Lo]⟩),(2,.agg ⟨[.bool dst.V6,.int .u64 dst.Hi,.int .u64 dst.Lo]⟩)],[.code XzA],[],false,none⟩,[],[],0⟩ (fun v H _=>Res 0 (XBY res) v H):=by
 unfold Xo0 at h
 have R1:=@Xr9 Xbc
 have R2:=@XvE Xcy
 have R3:=@XAV XdU
 have R4:=@XoB Xas
 refine Xa7 XaE hS true 3000 ?_
 conv=>whnf
 exact W
def Xi0:XhP:=Xo0 Xas Xcy Xbc XdU
theorem XMc:XbB Tryz.prog 106 (s106 Xi0):=by
 have hL:=XFZ Xas Xcy Xbc XdU (Xaj.XaK ⟨Xqe,Xu9,Xro,Xy2,trivial⟩)
 exact okA ⟨Tryz.f106,rfl,by decide,rfl⟩
end Go.Vm.Code
namespace Go.Vm.Code
open Go Go.Vm
def H7 (h:XaC):Bool:=inR h.SPort 65535&&inR h.DPort 65535&&inR h.Window 65535&&inR h.Urgent 65535&&inR h.Flags 255&&decide (h.Options.length%4=0)&&decide (h.Options.length≤40)
theorem XIu {h:XaC} (hh:H7 h=true):(0≤h.SPort∧h.SPort≤65535)∧(0≤h.DPort∧h.DPort≤65535)∧(0≤h.Window∧h.Window≤65535)∧(0≤h.Urgent∧h.Urgent≤65535)∧(0≤h.Flags∧h.Flags≤255)∧h.Options.length%4=0∧h.Options.length≤40:=by
 unfold H7 at hh
 simp only [Bool.and_eq_true,XAY,decide_eq_true_eq] at hh
 obtain ⟨⟨⟨⟨⟨⟨a,b⟩,c⟩,d⟩,e⟩,f⟩,g⟩:=hh
 exact ⟨a,b,c,d,e,f,g⟩
def W7 (h:XaC):Prop:=(0≤h.Seq∧h.Seq<4294967296)∧0≤h.Ack∧h.Ack<4294967296
def ha7 (h:XaC):List UInt8:=be h.SPort.toNat 2++be h.DPort.toNat 2++be h.Seq.toNat 4++be h.Ack.toNat 4++be (4*(20+h.Options.length)) 1++be h.Flags.toNat 1++be h.Window.toNat 2
def hc7 (h:XaC) (c:Nat):List UInt8:=ha7 h++(be c 2++(be h.Urgent.toNat 2++h.Options))
theorem Xue (h:XaC):(ha7 h).length=16:=by simp [ha7]
theorem XtQ (h:XaC) (c:Nat):(hc7 h c).length=20+h.Options.length:=by simp [hc7,Xue];omega
theorem XrW (h:XaC) (c:Nat) (l:List UInt8):hc7 h c++l=ha7 h++(be c 2++(be h.Urgent.toNat 2++(h.Options++l))):=by simp only [hc7,List.append_assoc]
def ck7 (p:List UInt8) (h:XaC) (l:List UInt8):Nat:=ckN (Xic (p++(hc7 h 0++l)))
def Xt4 (h:XaC) (src dst:Xab) (l:List UInt8):List UInt8×Int:=
 if H7 h=false then ([],1) else if XoU src dst 6 (20+h.Options.length+l.length)=[] then ([],1) else if 65535 - (20+(h.Options.length:Int))<l.length then ([],5) else
  (hc7 h (ck7 (XoU src dst 6 (20+h.Options.length+l.length)) h l)++l,0)
def XqB:XaC:=⟨0,0,0,0,0,0,0,[]⟩
def XkU (s:List UInt8) (src dst:Xab):XaC×List UInt8×Int:=
 if s.length<20 then (XqB,[],2) else if 4*(vK s 12 1/16)<20 then (XqB,[],3) else if vK s 12 1%16≠0 then (XqB,[],3) else if (s.length:Int)<4*(vK s 12 1/16) then (XqB,[],2) else
  if XoU src dst 6 s.length=[] then (XqB,[],1) else if norm (Xic (XoU src dst 6 s.length++s))≠65535 then (XqB,[],4) else
   if (XnZ ((s.drop 20).take ((4*(vK s 12 1/16)).toNat - 20))).2≠0 then (XqB,[],(XnZ ((s.drop 20).take ((4*(vK s 12 1/16)).toNat - 20))).2) else
   (⟨vK s 0 2,vK s 2 2,vK s 4 4,vK s 8 4,vK s 13 1,vK s 14 2,vK s 18 2,(s.drop 20).take ((4*(vK s 12 1/16)).toNat - 20)⟩,s.drop (4*(vK s 12 1/16)).toNat,0)
theorem XTn (h:XaC):Xc9 h.SPort 2++Xc9 h.DPort 2++Xc9 h.Seq 4++Xc9 h.Ack 4++Xc9 (4*(20+(h.Options.length:Int))) 1++Xc9 h.Flags 1++Xc9 h.Window 2++Xc9 0 2++Xc9 h.Urgent 2++h.Options=hc7 h 0:=by
 have p4:∀ n:Int,Xc9 n 4=be n.toNat 4:=fun n=>Xif (k:=4) (by omega)
 have p2:∀ n:Int,Xc9 n 2=be n.toNat 2:=fun n=>Xif (k:=2) (by omega)
 have p1:∀ n:Int,Xc9 n 1=be n.toNat 1:=fun n=>Xif (k:=1) (by omega)
 simp only [p4,p2,p1,show (4*(20+(h.Options.length:Int))).toNat=4*(20+h.Options.length) by omega,show (0:Int).toNat=0 from rfl]
 simp only [hc7,ha7,List.append_assoc]
theorem XE3 {p t:List UInt8} {A B:List UInt8} (ht:t=A++(be 0 2++B)) (hA:A.length=16) (hl:p.length<2^30) (hl2:t.length<2^30):((XbJ (p++t)).bind fun xo=>(Xa5 t 16 2 (wI .u64 xo)).bind fun s=>some (s,(0:Int)))=some (A++(be (ckN (Xic (p++t))) 2++B),0):=by
 have n:=norm_le (Xic (p++t))
 rw [XD9 (by rw [List.length_append];omega),Option.bind_some,Xgt (by omega) (by omega),Xvl (by omega) (by omega),Option.bind_some]
 have:=XuU (A:=A) (B:=B) (p:=16) (c:=65535 - ((norm (Xic (p++t)):Nat):Int)) hA
 rw [←ht] at this
 rw [show ((16:Nat):Int)=16 from rfl] at this
 rw [this]
 unfold ckN
 rw [show (65535 - ((norm (Xic (p++t)):Nat):Int)).toNat=65535 - norm (Xic (p++t)) by omega]
theorem XAG {p t:List UInt8} {A B:List UInt8} (ht:t=A++(be 0 2++B)) (hA:A.length=16) (hl:p.length<2^30) (hl2:t.length<2^30):((XeH (p++t)).bind fun xo=>(XcP t 16 2 (wI .u64 xo)).bind fun s=>some (s,(0:Int)))=some (A++(be (ckN (Xic (p++t))) 2++B),0):=by
 have n:=norm_le (Xic (p++t))
 rw [Xpz (by rw [List.length_append];omega),Option.bind_some,Xgt (by omega) (by omega),Xmd (by omega) (by omega) (by omega),Option.bind_some]
 have:=XuU (A:=A) (B:=B) (p:=16) (c:=65535 - ((norm (Xic (p++t)):Nat):Int)) hA
 rw [←ht] at this
 rw [show ((16:Nat):Int)=16 from rfl] at this
 rw [this]
 unfold ckN
 rw [show (65535 - ((norm (Xic (p++t)):Nat):Int)).toNat=65535 - norm (Xic (p++t)) by omega]
theorem Xq9 {m:Int} {l:List Int} (h:l.length<2^20):XeY m l=some (l.all fun x=>inR x m):=by
 unfold XeY Xln
 have key:=iter_eq (step:=fun st=>Xhl m l st) (fun st=>(l.drop st.toNat).all fun x=>inR x m) (fun st=>0≤st∧st≤l.length) (fun st=>((l.length:Int) - st).toNat) ?_ FUEL 0 ⟨by omega,by omega⟩ (by rw [Xgx];omega)
 ·rw [key];simp
 intro st ⟨g1,g2⟩
 obtain ⟨i,rfl⟩:=Int.eq_ofNat_of_zero_le g1
 unfold Xhl
 simp only [Int.toNat_natCast]
 by_cases hp:i<l.length
 ·have ed:l.drop i=l[i]::l.drop (i+1):=List.drop_eq_getElem_cons hp
  rw [XaW (by omega),XaA (by omega),List.getElem?_eq_getElem hp,Option.bind_some]
  by_cases hb:l[i]<0
  ·refine .inl ?_
   rw [XaW hb,ed,List.all_cons,show inR l[i] m=false by unfold inR;simp;omega,Bool.false_and]
  by_cases hc:l[i]>m
  ·refine .inl ?_
   rw [XaO hb,XaW hc,ed,List.all_cons,show inR l[i] m=false by unfold inR;simp;omega,Bool.false_and]
  ·refine .inr ⟨((i+1:Nat):Int),?_,⟨by omega,by omega⟩,by omega,?_⟩
   ·rw [XaO hb,XaO hc,Xed (by omega) (by omega)];rfl
   ·rw [Int.toNat_natCast,ed,List.all_cons,show inR l[i] m=true by unfold inR;simp;omega,Bool.true_and]
 ·refine .inl ?_
  rw [XaO (by omega),List.drop_of_length_le (by omega)];rfl
theorem XVD (n m:Int):Xjo n m=some (inR n m):=by
 unfold Xjo Xrj inR
 by_cases h:0≤n
 ·rw [XaW (by omega)];simp [h]
 ·rw [XaO (by omega)];simp [h]
theorem XQB (h:XaC):Xd2 h=some (H7 h):=by
 unfold Xd2 XjA H7
 rw [Xq9 (by simp),Xq9 (by simp)]
 simp only [Option.bind_some,XrO,XvY,List.all_cons,List.all_nil,Bool.and_true]
 cases inR h.SPort 65535<;>cases inR h.DPort 65535<;>cases inR h.Window 65535<;>cases inR h.Urgent 65535<;>cases inR h.Flags 255<;>cases decide (h.Options.length%4=0)<;>rfl
theorem XxH (h:XaC):XfS h=some (H7 h):=by
 unfold XfS Xmp H7
 simp only [XVD,Option.bind_some,XrO,XvY]
 cases inR h.SPort 65535<;>cases inR h.DPort 65535<;>cases inR h.Window 65535<;>cases inR h.Urgent 65535<;>cases inR h.Flags 255<;>cases decide (h.Options.length%4=0)<;>cases decide (h.Options.length≤40)<;>rfl
theorem XPN (n k:Int):Xdr n k=some (Xc9 (wI .u64 n) k):=by
 unfold Xdr Xnj
 rw [Xdq (Xmu n).1 (Xmu n).2];rfl
theorem put4 (n:Int):Xc9 n 4=be n.toNat 4:=Xif (k:=4) (by omega)
theorem put8' (n:Int):Xc9 n 8=be n.toNat 8:=Xif (k:=8) (by omega)
theorem XQ7 (n:Int):Xc9 n 2=be n.toNat 2:=Xif (k:=2) (by omega)
theorem XHy {h:XaC} (hh:H7 h=true) (hw:W7 h):Xdv h=some (hc7 h 0):=by
 obtain ⟨q1,q2,q3,q4,q5,q6,q7⟩:=XIu hh
 obtain ⟨w1,w2⟩:=hw
 unfold Xdv Xjb
 obtain ⟨sp,hsp⟩:=Int.eq_ofNat_of_zero_le q1.1
 obtain ⟨dp,hdp⟩:=Int.eq_ofNat_of_zero_le q2.1
 obtain ⟨wi,hwi⟩:=Int.eq_ofNat_of_zero_le q3.1
 obtain ⟨ur,hur⟩:=Int.eq_ofNat_of_zero_le q4.1
 obtain ⟨fl,hfl⟩:=Int.eq_ofNat_of_zero_le q5.1
 obtain ⟨sq,hsq⟩:=Int.eq_ofNat_of_zero_le w1.1
 obtain ⟨ak,hak⟩:=Int.eq_ofNat_of_zero_le w2.1
 rw [hsp] at q1;rw [hdp] at q2;rw [hwi] at q3;rw [hur] at q4;rw [hfl] at q5;rw [hsq] at w1;rw [hak] at w2
 rw [hsp,hdp,hwi,hur,hfl,hsq,hak]
 have e1:XlD .u64 (wI .u64 ((wI .u64 (sp:Int))*2^16)) (wI .u64 (dp:Int))=((sp*65536+dp:Nat):Int):=by
  rw [Xgt (n:=(sp:Int)) (by omega) (by omega),Xgt (n:=(dp:Int)) (by omega) (by omega),Xgt (n:=(sp:Int)*2^16) (by omega) (by omega),Xhc 16 (by omega) (by omega) (by omega) (by omega) (by omega)];omega
 have e2:XlD .u64 (wI .u64 ((wI .u64 (sq:Int))*2^32)) (wI .u64 (ak:Int))=((sq*4294967296+ak:Nat):Int):=by
  rw [Xgt (n:=(sq:Int)) (by omega) (by omega),Xgt (n:=(ak:Int)) (by omega) (by omega),Xgt (n:=(sq:Int)*2^32) (by omega) (by omega),Xhc 32 (by omega) (by omega) (by omega) (by omega) (by omega)];omega
 have e3:XlD .u64 (wI .u64 ((wI .u64 ((wI .u64 (wI .i64 (20+(h.Options.length:Int)))).tdiv 4))*2^12)) (wI .u64 (fl:Int))=((4*(20+h.Options.length)*256+fl:Nat):Int):=by
  rw [Xed (n:=20+(h.Options.length:Int)) (by omega) (by omega),Xgt (n:=20+(h.Options.length:Int)) (by omega) (by omega),XM5,Xgt (n:=(((20+h.Options.length)/4:Nat):Int)) (by omega) (by omega),Xgt (n:=(fl:Int)) (by omega) (by omega),Xgt (n:=(((20+h.Options.length)/4:Nat):Int)*2^12) (by omega) (by omega),Xhc 12 (by omega) (by omega) (by omega) (by omega) (by omega)];omega
 simp only [e1,e2,e3]
 have k1:Xak ((sp*65536+dp:Nat):Int) 4=some (be sp 2++be dp 2):=by
  rw [XbH (by omega),put4,Int.toNat_natCast,XJD _ _ (by omega)]
 have k2:Xak ((sq*4294967296+ak:Nat):Int) 8=some (be sq 4++be ak 4):=by
  rw [XbH (by omega),put8',Int.toNat_natCast,XzN _ _ (by omega)]
 have k3:Xak ((4*(20+h.Options.length)*256+fl:Nat):Int) 2=some (be (4*(20+h.Options.length)) 1++be fl 1):=by
  rw [XbH (by omega),XQ7,Int.toNat_natCast,XRm _ _ (by omega)]
 have k4:Xak (wI .u64 (wi:Int)) 2=some (be wi 2):=by
  rw [Xgt (by omega) (by omega),XbH (by omega),XQ7,Int.toNat_natCast]
 have k5:Xak (wI .u64 (ur:Int)) 4=some (be 0 2++be ur 2):=by
  have:=XJD 0 ur (by omega)
  rw [Nat.zero_mul,Nat.zero_add] at this
  rw [Xgt (by omega) (by omega),XbH (by omega),put4,Int.toNat_natCast,this]
 rw [k1,Option.bind_some,k2,Option.bind_some,k3,Option.bind_some,k4,Option.bind_some,k5,Option.bind_some]
 rw [XaA (by simp),XaA (by simp),XaA (by simp),XaA (by simp),XaA (by simp;omega)]
 unfold hc7 ha7
 rw [hsp,hdp,hwi,hur,hfl,hsq,hak]
 simp only [Int.toNat_natCast,List.append_assoc]
theorem XGi {h:XaC} {src dst:Xab} {l:List UInt8} (hw:W7 h) (h1:A4 src) (h2:A4 dst) (hl:l.length<2^20) (ho:h.Options.length<2^20):XiJ h src dst l=some (Xt4 h src dst l):=by
 unfold XiJ Xpd Xt4
 simp only []
 rw [Xed (n:=20+(h.Options.length:Int)) (by omega) (by omega),Xed (n:=20+(h.Options.length:Int)+l.length) (by omega) (by omega),XnU h1 h2 (by omega) (by omega),Option.bind_some,XQB,Option.bind_some]
 have hp:=Xkk src dst 6 (20+(h.Options.length:Int)+l.length)
 generalize XoU src dst 6 (20+(h.Options.length:Int)+l.length)=p at *
 cases hh:H7 h
 ·rfl
 rw [Bool.not_true,cond_false,if_neg (by decide)]
 by_cases e3:p=[]
 ·subst e3;rfl
 rw [show (p==[])=false by simpa using e3,cond_false,if_neg e3,Xed (n:=65535 - (20+(h.Options.length:Int))) (by omega) (by omega)]
 by_cases h5:(l.length:Int)>65535 - (20+(h.Options.length:Int))
 ·rw [XaW h5,if_pos (by omega)]
 rw [XaO h5,if_neg (by omega),XHy hh hw,Option.bind_some]
 have hlen:=XtQ h 0
 rw [XaA (by omega),XaA (by simp only [List.length_append];omega)]
 have:=XE3 (p:=p) (t:=hc7 h 0++l) (XrW h 0 l) (Xue h) (by omega) (by simp only [List.length_append];omega)
 rw [this]
 unfold ck7
 rw [XrW h (ckN _) l]
theorem XG4 {h:XaC} {src dst:Xab} {l:List UInt8} (hw:W7 h) (h1:A4 src) (h2:A4 dst) (hl:l.length<2^20) (ho:h.Options.length<2^20):XiH h src dst l=some (Xt4 h src dst l):=by
 unfold XiH Xpn Xt4
 simp only []
 rw [Xed (n:=20+(h.Options.length:Int)) (by omega) (by omega),Xed (n:=20+(h.Options.length:Int)+l.length) (by omega) (by omega),Xma h1 h2 (by omega) (by omega),Option.bind_some,XxH,Option.bind_some]
 have hp:=Xkk src dst 6 (20+(h.Options.length:Int)+l.length)
 generalize XoU src dst 6 (20+(h.Options.length:Int)+l.length)=p at *
 cases hh:H7 h
 ·rfl
 rw [Bool.not_true,cond_false,if_neg (by decide)]
 by_cases e3:p=[]
 ·subst e3;rfl
 rw [show (p==[])=false by simpa using e3,cond_false,if_neg e3,Xed (n:=65535 - (20+(h.Options.length:Int))) (by omega) (by omega)]
 by_cases h5:(l.length:Int)>65535 - (20+(h.Options.length:Int))
 ·rw [XaW h5,if_pos (by omega)]
 rw [XaO h5,if_neg (by omega)]
 obtain ⟨q1,q2,q3,q4,q5,q6,q7⟩:=XIu hh
 obtain ⟨w1,w2⟩:=hw
 simp only [XPN,Option.bind_some]
 rw [Xed (n:=h.Seq) (by omega) (by omega),Xed (n:=h.Ack) (by omega) (by omega),Xed (n:=4*(20+(h.Options.length:Int))) (by omega) (by omega),Xgt q1.1 (by omega),Xgt q2.1 (by omega),Xgt w1.1 (by omega),Xgt w2.1 (by omega),Xgt (n:=4*(20+(h.Options.length:Int))) (by omega) (by omega),Xgt q5.1 (by omega),Xgt q3.1 (by omega),Xgt q4.1 (by omega),show wI .u64 0=0 from rfl]
 have hd:=XTn h
 have a1:=Xbm h.SPort 2
 have a2:=Xbm h.DPort 2
 have a3:=Xbm h.Seq 4
 have a4:=Xbm h.Ack 4
 have a5:=Xbm (4*(20+(h.Options.length:Int))) 1
 have a6:=Xbm h.Flags 1
 have a7:=Xbm h.Window 2
 have a8:=Xbm 0 2
 have a9:=Xbm h.Urgent 2
 have hlen:=XtQ h 0
 iterate 10 rw [XaA (by first|omega|(simp only [List.length_append];omega))]
 rw [hd,XaA (by simp only [List.length_append];omega)]
 have:=XAG (p:=p) (t:=hc7 h 0++l) (XrW h 0 l) (Xue h) (by omega) (by simp only [List.length_append];omega)
 rw [this]
 unfold ck7
 rw [XrW h (ckN _) l]
theorem Xwr {s:List UInt8} {n:Nat} (hs:s.length<2^38) (h20:20≤n) (hn:n≤s.length):Xff s (n:Int)=some ⟨vK s 0 2,vK s 2 2,vK s 4 4,vK s 8 4,vK s 13 1,vK s 14 2,vK s 18 2,(s.drop 20).take (n - 20)⟩:=by
 unfold Xff Xla
 have N:∀ (p k:Nat),1≤k→k≤7→p+k≤20→Xad ⟨s.drop p,true,false⟩ (k:Int)=some (vK s p k,⟨s.drop (p+k),true,false⟩):=fun p k a b c=>XI7 a b (by omega) (by omega)
 have N0:Xad ⟨s,true,false⟩ 2=some (vK s 0 2,⟨s.drop 2,true,false⟩):=N 0 2 (by omega) (by omega) (by omega)
 have N2:Xad ⟨s.drop 2,true,false⟩ 2=some (vK s 2 2,⟨s.drop 4,true,false⟩):=N 2 2 (by omega) (by omega) (by omega)
 have N4:Xad ⟨s.drop 4,true,false⟩ 4=some (vK s 4 4,⟨s.drop 8,true,false⟩):=N 4 4 (by omega) (by omega) (by omega)
 have N8:Xad ⟨s.drop 8,true,false⟩ 4=some (vK s 8 4,⟨s.drop 12,true,false⟩):=N 8 4 (by omega) (by omega) (by omega)
 have N12:Xad ⟨s.drop 12,true,false⟩ 2=some (vK s 12 2,⟨s.drop 14,true,false⟩):=N 12 2 (by omega) (by omega) (by omega)
 have N14:Xad ⟨s.drop 14,true,false⟩ 2=some (vK s 14 2,⟨s.drop 16,true,false⟩):=N 14 2 (by omega) (by omega) (by omega)
 have N16:Xad ⟨s.drop 16,true,false⟩ 2=some (vK s 16 2,⟨s.drop 18,true,false⟩):=N 16 2 (by omega) (by omega) (by omega)
 have N18:Xad ⟨s.drop 18,true,false⟩ 2=some (vK s 18 2,⟨s.drop 20,true,false⟩):=N 18 2 (by omega) (by omega) (by omega)
 have r4:=Xgl s 4 4 4294967296 (by decide)
 have r8:=Xgl s 8 4 4294967296 (by decide)
 have r12:=Xgl s 12 2 65536 (by decide)
 rw [Xqd,Option.bind_some,N0,Option.bind_some]
 simp only []
 rw [N2,Option.bind_some]
 simp only []
 rw [N4,Option.bind_some]
 simp only []
 rw [N8,Option.bind_some]
 simp only []
 rw [N12,Option.bind_some]
 simp only []
 rw [N14,Option.bind_some]
 simp only []
 rw [N16,Option.bind_some]
 simp only []
 rw [N18,Option.bind_some]
 simp only []
 rw [Xed (n:=(n:Int) - 20) (by omega) (by omega),show (n:Int) - 20=((n - 20:Nat):Int) by omega,Xrp (by omega),Option.bind_some,XEn r4.1 r4.2,XEn r8.1 r8.2,XjW 8 (by decide) (by omega) (by omega) (by omega)]
 have e12:vK s 12 2=(s[12].toNat*256+s[13].toNat:Int):=Xy8 (s:=s) (p:=12) (by omega)
 have e13:=XmM (s:=s) (p:=13) (by omega)
 have b13:=s[13].toNat_lt
 rw [show vK s 12 2%2^8=vK s 13 1 by rw [e12,e13];omega]
theorem and15:∀ x:Fin 256,XnT .u8 ((x.val:Nat):Int) 15=((x.val:Nat):Int)%16:=by decide +kernel
theorem XGx {s:List UInt8} {src dst:Xab} (h1:A4 src) (h2:A4 dst) (hs:s.length<2^19):XiV s src dst=some (XkU s src dst):=by
 unfold XiV Xpm XkU
 have hz:(⟨0,0,0,0,0,0,0,[]⟩:XaC)=XqB:=rfl
 rw [hz]
 by_cases h0:s.length<20
 ·rw [XaW (by omega),if_pos h0]
 rw [XaO (by omega),if_neg h0,List.getElem?_eq_getElem (show 12<s.length by omega)]
 have e12:=XmM (s:=s) (p:=12) (by omega)
 have r12:=Xgl s 12 1 256 (by decide)
 have hb:=s[12].toNat_lt
 simp only [Option.bind_some]
 rw [←e12,Xs8,show ((2:Int)^4)=16 from rfl,Xed (n:=vK s 12 1/16) (by omega) (by omega),Xed (n:=4*(vK s 12 1/16)) (by omega) (by omega)]
 have ea:XnT .u8 (vK s 12 1) 15=vK s 12 1%16:=by
  rw [e12];exact and15 ⟨s[12].toNat,hb⟩
 rw [ea]
 obtain ⟨t,ht⟩:=Int.eq_ofNat_of_zero_le (show 0≤4*(vK s 12 1/16) by omega)
 rw [ht]
 simp only [Int.toNat_natCast]
 by_cases g2:(t:Int)<20
 ·rw [XaW g2,if_pos g2]
 rw [XaO g2,if_neg g2]
 by_cases g3:vK s 12 1%16=0
 ·rw [show (vK s 12 1%16 !=0)=false by simpa using g3,cond_false,if_neg (by simpa using g3)]
  by_cases g4:(s.length:Int)<t
  ·rw [XaW (by omega),if_pos g4]
  rw [XaO (by omega),if_neg g4,XnU h1 h2 (by omega) (by omega),Option.bind_some]
  have hp:=Xkk src dst 6 (s.length:Int)
  generalize XoU src dst 6 (s.length:Int)=p at *
  by_cases e3:p=[]
  ·subst e3;rfl
  rw [show (p==[])=false by simpa using e3,cond_false,if_neg e3,XaA (by omega),XrY (by simp only [List.length_append];omega),Option.bind_some]
  by_cases g5:norm (Xic (p++s))=65535
  ·rw [if_neg (by simpa using g5),g5,show ((((65535:Nat):Int)==65535))=true from rfl,Bool.not_true,cond_false,Xwr (by omega) (by omega) (by omega),Option.bind_some,XSI (by simp;omega),Option.bind_some]
   by_cases g6:(XnZ ((s.drop 20).take (t - 20))).2=0
   ·rw [if_neg (by simpa using g6)]
    simp only [g6,bne_self_eq_false,cond_false]
    rw [XaA (by omega),List.take_of_length_le (i:=s.length - t) (by simp)]
   ·rw [if_pos (by simpa using g6),show ((XnZ ((s.drop 20).take (t - 20))).2 !=0)=true by simpa using g6];rfl
  ·rw [if_pos (by simpa using g5),show ((((norm (Xic (p++s)):Nat):Int)==65535))=false by simp;omega];rfl
 ·rw [show (vK s 12 1%16 !=0)=true by simpa using g3,cond_true,if_pos (by simpa using g3)]
theorem XC6 {s:List UInt8} {src dst:Xab} (h1:A4 src) (h2:A4 dst) (hs:s.length<2^19):Xi0 s src dst=some (XkU s src dst):=by
 unfold Xi0 Xo0 XkU
 have hz:(⟨0,0,0,0,0,0,0,[]⟩:XaC)=XqB:=rfl
 rw [hz]
 by_cases h0:s.length<20
 ·rw [XaW (by omega),if_pos h0]
 rw [XaO (by omega),if_neg h0,List.getElem?_eq_getElem (show 12<s.length by omega),List.getElem?_eq_getElem (show 13<s.length by omega)]
 have e12:=XmM (s:=s) (p:=12) (by omega)
 have e13:=XmM (s:=s) (p:=13) (by omega)
 have r12:=Xgl s 12 1 256 (by decide)
 have r13:=Xgl s 13 1 256 (by decide)
 have r4:=Xgl s 4 4 4294967296 (by decide)
 have r8:=Xgl s 8 4 4294967296 (by decide)
 simp only [Option.bind_some]
 rw [←e12,←e13,Int.tmod_eq_emod_of_nonneg r12.1,Int.tdiv_eq_ediv_of_nonneg r12.1,wU8 (n:=vK s 12 1/16) (by omega) (by omega),Xed (n:=vK s 12 1/16) (by omega) (by omega),Xed (n:=4*(vK s 12 1/16)) (by omega) (by omega),Xed (n:=vK s 13 1) (by omega) (by omega)]
 obtain ⟨t,ht⟩:=Int.eq_ofNat_of_zero_le (show 0≤4*(vK s 12 1/16) by omega)
 rw [ht]
 simp only [Int.toNat_natCast]
 by_cases g2:(t:Int)<20
 ·rw [XaW g2,if_pos g2]
 rw [XaO g2,if_neg g2]
 by_cases g3:vK s 12 1%16=0
 ·rw [show (vK s 12 1%16 !=0)=false by simpa using g3,cond_false,if_neg (by simpa using g3)]
  by_cases g4:(s.length:Int)<t
  ·rw [XaW (by omega),if_pos g4]
  rw [XaO (by omega),if_neg g4,Xma h1 h2 (by omega) (by omega),Option.bind_some]
  have hp:=Xkk src dst 6 (s.length:Int)
  generalize XoU src dst 6 (s.length:Int)=p at *
  by_cases e3:p=[]
  ·subst e3;rfl
  rw [show (p==[])=false by simpa using e3,cond_false,if_neg e3,XaA (by omega),Xmi (by simp only [List.length_append];omega),Option.bind_some]
  by_cases g5:norm (Xic (p++s))=65535
  ·rw [if_neg (by simpa using g5),g5,show ((((65535:Nat):Int) !=65535))=false from rfl,cond_false,XaA (by omega),XWF (by simp;omega),Option.bind_some]
   by_cases g6:(XnZ ((s.drop 20).take (t - 20))).2=0
   ·rw [if_neg (by simpa using g6)]
    simp only [g6,bne_self_eq_false,cond_false]
    have M:∀ (p k:Nat),1≤k→k≤7→p+k≤20→Xas s (p:Int) (k:Int)=some (vK s p k):=fun p k a b c=>XrU (by omega) a b (by omega)
    have M0:Xas s 0 2=some (vK s 0 2):=M 0 2 (by omega) (by omega) (by omega)
    have M2:Xas s 2 2=some (vK s 2 2):=M 2 2 (by omega) (by omega) (by omega)
    have M4:Xas s 4 4=some (vK s 4 4):=M 4 4 (by omega) (by omega) (by omega)
    have M8:Xas s 8 4=some (vK s 8 4):=M 8 4 (by omega) (by omega) (by omega)
    have M14:Xas s 14 2=some (vK s 14 2):=M 14 2 (by omega) (by omega) (by omega)
    have M18:Xas s 18 2=some (vK s 18 2):=M 18 2 (by omega) (by omega) (by omega)
    rw [M0,M2,M4,M8,M14,M18]
    simp only [Option.bind_some]
    rw [XaA (by omega),XaA (by omega),List.take_of_length_le (i:=s.length - t) (by simp),XEn r4.1 r4.2,XEn r8.1 r8.2]
   ·rw [if_pos (by simpa using g6),show ((XnZ ((s.drop 20).take (t - 20))).2 !=0)=true by simpa using g6];rfl
  ·rw [if_pos (by simpa using g5),show ((((norm (Xic (p++s)):Nat):Int) !=65535))=true by simp;omega];rfl
 ·rw [show (vK s 12 1%16 !=0)=true by simpa using g3,cond_true,if_pos (by simpa using g3)]
end Go.Vm.Code
namespace Go.Vm.Code
open Go Go.Vm Go.Proofs
set_option maxRecDepth 100000
set_option maxHeartbeats 4000000
set_option linter.unusedVariables false
def Xh2 (Xbq:Xc2) (text:List UInt8) (i:Int):Option (Sum Int (Int×Int×Int)):=
 cond (decide (i<(text.length:Int)))
  (
  Xbn (decide (0≤i)) <|
  (text[i.toNat]?).bind fun (b:UInt8)=>
  cond ((b.toNat:Int)==0)
   (
   some (.inr ((0,0,(-1)))))
   (
   cond ((b.toNat:Int)==1)
    (
    some (.inl (wI .i64 (i+1))))
    (
    let t:=decide ((wI .i64 (i+1))<(text.length:Int))
    cond (t)
     (
     Xbn (decide (0≤(wI .i64 (i+1)))) <|
     (text[(wI .i64 (i+1)).toNat]?).bind fun (b1:UInt8)=>
     cond (decide ((wI .i64 (b1.toNat:Int))<2))
      (
      some (.inr ((0,0,(-1)))))
      (
      let t1:=decide ((wI .i64 (b1.toNat:Int))>(wI .i64 ((text.length:Int) - i)))
      cond (t1)
       (
       some (.inr ((0,0,(-1)))))
       (
       Xbn (decide (0≤i)) <|
       (text[i.toNat]?).bind fun (b2:UInt8)=>
       Xbn (decide ((0:Int)≤(wI .i64 (i+(wI .i64 (b1.toNat:Int))))∧(wI .i64 (i+(wI .i64 (b1.toNat:Int))))≤(text.length:Int)∧(0:Int)≤(wI .i64 (i+2))∧(wI .i64 (i+2))≤((wI .i64 (i+(wI .i64 (b1.toNat:Int)))).toNat:Int))) <|
       let t2:=(text.drop (wI .i64 (i+2)).toNat).take ((wI .i64 (i+(wI .i64 (b1.toNat:Int)))).toNat - (wI .i64 (i+2)).toNat)
       cond ((wI .i64 (b2.toNat:Int)) !=8)
        (
        some (.inl (wI .i64 (i+(wI .i64 (b1.toNat:Int))))))
        (
        (Xbq t2 0 8).bind fun xg=>
        cond (xg.2)
         (
         cond ((t2.length:Int)==8)
          (
          some (.inr ((wI .u32 (xg.1.fdiv (2^32)),wI .u32 xg.1,wI .i64 (i+2)))))
          (
          some (.inr ((0,0,(-1))))))
         (
         some (.inr ((0,0,(-1)))))))))
     (
     some (.inr ((0,0,(-1))))))))
  (
  some (.inr ((0,0,(-1)))))
def XmA (Xbq:Xc2) (XdW:Xe4) (text:List UInt8):Option (Int×Int×Int):=
 (XdW text).bind fun l=>
 cond (l.2 !=0)
  (
  some ((0,0,(-1))))
  (
  iter (fun st=>Xh2 Xbq text st) FUEL 0)
def Xwz (x:Int×Int×Int):XcS:=⟨.tuple ⟨[.int .u32 x.1,.int .u32 x.2.1,.int .i64 x.2.2]⟩,[],[]⟩
abbrev Xge:=(List UInt8)→Option (Int×Int×Int)
def r134 (g:Xge):Dec:=dV asS fun (y0:List UInt8)=>XdJ (ofG (g y0) Xwz)
theorem XTo {g:Xge} {y0:List UInt8} {x:Int×Int×Int} (hx:g y0=some x):r134 g [.string ⟨⟨y0⟩⟩] []=some (Xwz x):=(XaP (XdL)).trans (XaN hx)
def s134 (g:Xge):Xbz:=⟨[.v],r134 g⟩
theorem XKk {g:Xge} {y0:List UInt8} {x:Int×Int×Int} (hx:g y0=some x):(s134 g).run [.string ⟨⟨y0⟩⟩] []=some (Xwz x):=XTo hx
abbrev XAH (Xbq:Xc2) (XdW:Xe4):List (Nat×Xbz):=[(95,s95 Xbq),(169,s169 XdW)]
def XkP (text:List UInt8) (i:Int):VM:=
 ⟨⟨193,62,[(0,.func (.yield 6) #[] #[]),(1,.pointer (some ⟨4,0,none⟩)),(3,.int .i64 i)],[.code Xqb,.inLoop Xqb,.inBlock 0],[],false,none⟩,[⟨134,46,[(2,.pointer (some ⟨0,0,none⟩)),(3,.pointer (some ⟨1,0,none⟩)),(4,.pointer (some ⟨2,0,none⟩))],[.inRangeFunc 6,.inBlock 0,.code XyA],[5],false,none⟩],[(0,.cells [.int .u32 0]),(1,.cells [.int .u32 0]),(2,.cells [.int .i64 0]),(4,.cells [.string ⟨⟨text⟩⟩]),(5,.marks),(6,.loop ⟨.ready,none,134,46,[(2,.pointer (some ⟨0,0,none⟩)),(3,.pointer (some ⟨1,0,none⟩)),(4,.pointer (some ⟨2,0,none⟩))],[19],XIH,Xzl,5⟩)],7⟩
theorem Xy1 (Xbq:Xc2) (XdW:Xe4) (hS:Xaj Tryz.prog (XaI (XAH Xbq XdW))) (text:List UInt8) (res:Int×Int×Int):∀ fuel (st:Int) (o:Int×Int×Int),iter (fun st=>Xh2 Xbq text st) fuel st=some o→(o=res) →
 XaJ Tryz.prog 134 0 (XkP text st) (fun v H _=>Res 0 (Xwz res) v H):=by
 intro fuel st o h hc
 refine XcX (head:=fun st=>XkP text st) (C:=fun o=>(o=res)) ?_ fuel st o h hc
 clear h hc o st fuel
 intro i o h hc
 replace h:Xh2 Xbq text i=some o:=h
 show XaJ Tryz.prog 134 0 (XkP text i) (fun v H _=>Res 0 (Xwz res) v H)
 unfold Xh2 at h
 have R1:=@XAz Xbq
 refine Xa7 XaE hS true 3000 ?_
 conv=>whnf
 refine br.h2 h (by rfl) ?_ ?_
 ·clear h;intro hb h;conv=>whnf
  exact W
 clear h;intro hb h;conv=>whnf
 replace h:=Xbn.elim h;obtain ⟨hb,h⟩:=h
 try (refine req.intro hb ?_;conv=>whnf)
 replace h:=XcR.elim h;obtain ⟨b,hy,h⟩:=h
 refine rdS.intro hy ?_
 conv=>whnf
 refine br.h h (by rfl) ?_ ?_
 ·clear h;intro hb h;conv=>whnf
  exact W
 clear h;intro hb h;conv=>whnf
 refine br.h h (by rfl) ?_ ?_
 ·clear h;intro hb h;conv=>whnf
  cases h;simp only [Sum.elim_inl,XkP] at hc
  exact XF1 hc [(0,0),(1,1),(2,2),(4,4),(5,5),(6,6)] rfl
 clear h;intro hb h;conv=>whnf
 let t:Bool:=decide ((wI .i64 (i+1))<(text.length:Int))
 refine br.h2 h (by rfl) ?_ ?_
 ·clear h;intro hb h;conv=>whnf
  exact W
 clear h;intro hb h;conv=>whnf
 replace h:=Xbn.elim h;obtain ⟨hb,h⟩:=h
 try (refine req.intro hb ?_;conv=>whnf)
 replace h:=XcR.elim h;obtain ⟨b1,hy,h⟩:=h
 refine rdS.intro hy ?_
 conv=>whnf
 refine br.h h (by rfl) ?_ ?_
 ·clear h;intro hb h;conv=>whnf
  exact W
 clear h;intro hb h;conv=>whnf
 let t1:Bool:=decide ((wI .i64 (b1.toNat:Int))>(wI .i64 ((text.length:Int) - i)))
 refine br.h h (by rfl) ?_ ?_
 ·clear h;intro hb h;conv=>whnf
  exact W
 clear h;intro hb h;conv=>whnf
 replace h:=Xbn.elim h;obtain ⟨hb,h⟩:=h
 try (refine req.intro hb ?_;conv=>whnf)
 replace h:=XcR.elim h;obtain ⟨b2,hy,h⟩:=h
 refine rdS.intro hy ?_
 conv=>whnf
 replace h:=Xbn.elim h;obtain ⟨hb,h⟩:=h
 try (refine req.intro hb ?_;conv=>whnf)
 let t2:List UInt8:=(text.drop (wI .i64 (i+2)).toNat).take ((wI .i64 (i+(wI .i64 (b1.toNat:Int)))).toNat - (wI .i64 (i+2)).toNat)
 refine br.h h (by rfl) ?_ ?_
 ·clear h;intro hb h;conv=>whnf
  cases h;simp only [Sum.elim_inl,XkP] at hc
  exact XF1 hc [(0,0),(1,1),(2,2),(4,4),(5,5),(6,6)] rfl
 clear h;intro hb h;conv=>whnf
 exact W
theorem XE0 (Xbq:Xc2) (XdW:Xe4) (hS:Xaj Tryz.prog (XaI (XAH Xbq XdW))) (text:List UInt8) (res:Int×Int×Int) (h:XmA Xbq XdW text=some res) :
 XaJ Tryz.prog 134 0 ⟨⟨134,46,[(0,.string ⟨⟨text⟩⟩)],[.code XBo],[],false,none⟩,[],[],0⟩ (fun v H _=>Res 0 (Xwz res) v H):=by
 unfold XmA at h
 refine Xa7 XaE hS true 3000 ?_
 conv=>whnf
 replace h:=XcR.elim h;obtain ⟨l,hy,h⟩:=h
 refine Xgw.a (Xzq hy) ?_
 conv=>whnf
 refine br.h h (by rfl) ?_ ?_
 ·clear h;intro hb h;conv=>whnf
  exact W
 clear h;intro hb h;conv=>whnf
 have hl:=Xy1 Xbq XdW hS _ res _ _ _ h rfl;simp only [XkP] at hl
 exact XF1 hl [(0,0),(1,1),(2,2),(4,4),(5,5),(6,6)] rfl
def Xf2:Xge:=XmA Xbq XdW
theorem XPM:XbB Tryz.prog 134 (s134 Xf2):=by
 have hL:=XE0 Xbq XdW (Xaj.XaK ⟨XxB,XBr,trivial⟩)
 exact okA ⟨Tryz.f134,rfl,by decide,rfl⟩
def Xki (Xak:XaY) (val:Int) (echo:Int):Option (List UInt8):=
 (Xak 16844810 4).bind fun p=>
 let t:=XlD .u64 (wI .u64 ((wI .u64 val)*2^32)) (wI .u64 echo)
 (Xak t 8).bind fun p1=>
 Xbn (decide (p.length+p1.length<2^63)) <|
 some (p++p1)
def XB6 (x:List UInt8):XcS:=⟨.string ⟨⟨x⟩⟩,[],[]⟩
abbrev XdQ:=Int→Int→Option (List UInt8)
def r119 (g:XdQ):Dec:=dV (asI .u32) fun (y0:Int)=>dV (asI .u32) fun (y1:Int)=>XdJ (ofG (g y0 y1) XB6)
theorem XVt {g:XdQ} {y0:Int} {y1:Int} {x:List UInt8} (hx:g y0 y1=some x):r119 g [.int .u32 y0,.int .u32 y1] []=some (XB6 x):=(XaP (Xen _)).trans ((XaP (Xen _)).trans (XaN hx))
def s119 (g:XdQ):Xbz:=⟨[.v,.v],r119 g⟩
theorem XzS {g:XdQ} {y0:Int} {y1:Int} {x:List UInt8} (hx:g y0 y1=some x):(s119 g).run [.int .u32 y0,.int .u32 y1] []=some (XB6 x):=XVt hx
abbrev XN8 (Xak:XaY):List (Nat×Xbz):=[(97,s97 Xak)]
theorem XDR (Xak:XaY) (hS:Xaj Tryz.prog (XaI (XN8 Xak))) (val:Int) (echo:Int) (res:List UInt8) (h:Xki Xak val echo=some res) :
 XaJ Tryz.prog 119 0 ⟨⟨119,14,[(0,.int .u32 val),(1,.int .u32 echo)],[.code XI1],[],false,none⟩,[],[],0⟩ (fun v H _=>Res 0 (XB6 res) v H):=by
 unfold Xki at h
 have R1:=@Xl3 Xak
 refine Xa7 XaE hS true 3000 ?_
 conv=>whnf
 exact W
def Xcb:XdQ:=Xki Xak
theorem XA7:XbB Tryz.prog 119 (s119 Xcb):=by
 have hL:=XDR Xak (Xaj.XaK ⟨Xnh,trivial⟩)
 exact okA ⟨Tryz.f119,rfl,by decide,rfl⟩
def Xh8 (Xas:XbL) (l:(List Xc4)×Int) (i:Int):Option (Sum Int (Int×Int×Int)):=
 cond (decide (i<(l.1.length:Int)))
  (
  Xbn (decide ((0:Int)≤i∧i<(l.1.length:Int))) <|
  (l.1[i.toNat]?).bind fun (e:Xc4)=>
  cond (e.Kind==8)
   (
   Xbn (decide ((0:Int)≤i∧i<(l.1.length:Int))) <|
   cond ((e.Data.length:Int) !=8)
    (
    some (.inr ((0,0,(-1)))))
    (
    Xbn (decide ((0:Int)≤i∧i<(l.1.length:Int))) <|
    (Xas e.Data 0 4).bind fun m=>
    Xbn (decide ((0:Int)≤i∧i<(l.1.length:Int))) <|
    (Xas e.Data 4 4).bind fun m1=>
    Xbn (decide ((0:Int)≤i∧i<(l.1.length:Int))) <|
    some (.inr ((wI .u32 m,wI .u32 m1,e.At)))))
   (
   some (.inl (wI .i64 (i+1)))))
  (
  some (.inr ((0,0,(-1)))))
def Xms (Xas:XbL) (XdU:Xe3) (options:List UInt8):Option (Int×Int×Int):=
 (XdU options).bind fun l=>
 iter (fun st=>Xh8 Xas l st) FUEL 0
def XwJ (x:Int×Int×Int):XcS:=⟨.tuple ⟨[.int .u32 x.1,.int .u32 x.2.1,.int .i64 x.2.2]⟩,[],[]⟩
abbrev Xgj:=(List UInt8)→Option (Int×Int×Int)
def r107 (g:Xgj):Dec:=dV asS fun (y0:List UInt8)=>XdJ (ofG (g y0) XwJ)
theorem XVh {g:Xgj} {y0:List UInt8} {x:Int×Int×Int} (hx:g y0=some x):r107 g [.string ⟨⟨y0⟩⟩] []=some (XwJ x):=(XaP (XdL)).trans (XaN hx)
def s107 (g:Xgj):Xbz:=⟨[.v],r107 g⟩
theorem XNi {g:Xgj} {y0:List UInt8} {x:Int×Int×Int} (hx:g y0=some x):(s107 g).run [.string ⟨⟨y0⟩⟩] []=some (XwJ x):=XVh hx
abbrev XzE (Xas:XbL) (XdU:Xe3):List (Nat×Xbz):=[(88,s88 Xas),(154,s154 XdU)]
def Xl2 (l:(List Xc4)×Int) (i:Int):VM:=
 ⟨⟨107,51,[(5,.slice (some ⟨0,0,none⟩) l.1.length 3),(7,.int .i64 i)],[.code XuP,.inLoop XuP,.inBlock 0,.code Xyq],[],false,none⟩,[],[(0,.row true (vT Xhh l.1))],1⟩
theorem Xxp (Xas:XbL) (XdU:Xe3) (hS:Xaj Tryz.prog (XaI (XzE Xas XdU))) (l:(List Xc4)×Int) (res:Int×Int×Int):∀ fuel (st:Int) (o:Int×Int×Int),iter (fun st=>Xh8 Xas l st) fuel st=some o→(o=res) →
 XaJ Tryz.prog 107 0 (Xl2 l st) (fun v H _=>Res 0 (XwJ res) v H):=by
 intro fuel st o h hc
 refine XcX (head:=fun st=>Xl2 l st) (C:=fun o=>(o=res)) ?_ fuel st o h hc
 clear h hc o st fuel
 intro i o h hc
 replace h:Xh8 Xas l i=some o:=h
 show XaJ Tryz.prog 107 0 (Xl2 l i) (fun v H _=>Res 0 (XwJ res) v H)
 unfold Xh8 at h
 refine Xa7 XaE hS true 3000 ?_
 conv=>whnf
 refine br.h2 h (by rfl) ?_ ?_
 ·clear h;intro hb h;conv=>whnf
  exact W
 clear h;intro hb h;conv=>whnf
 replace h:=Xbn.elim h;obtain ⟨hb,h⟩:=h
 try (refine req.intro hb ?_;conv=>whnf)
 replace h:=XcR.elim h;obtain ⟨e,hy,h⟩:=h
 refine rd.T (j:=0) Xdc hy (by first|omega|exact Nat.zero_add _|exact congrArg (·+_) (Nat.zero_add _)) (by decide) rfl ?_
 conv=>whnf
 refine br.h2 h (by rfl) ?_ ?_
 ·clear h;intro hb h;conv=>whnf
  cases h;simp only [Sum.elim_inl,Xl2] at hc
  exact Xkz hc [(0,0)] rfl
 clear h;intro hb h;conv=>whnf
 replace h:=Xbn.elim h;obtain ⟨hb,h⟩:=h
 try (refine req.intro hb ?_;conv=>whnf)
 refine rd.T (i:=i.toNat) (x:=e) (j:=1) Xdc (by assumption) (by first|omega|exact Nat.zero_add _|exact congrArg (·+_) (Nat.zero_add _)) (by decide) rfl ?_
 conv=>whnf
 refine br.h h (by rfl) ?_ ?_
 ·clear h;intro hb h;conv=>whnf
  exact W
 clear h;intro hb h;conv=>whnf
 replace h:=Xbn.elim h;obtain ⟨hb,h⟩:=h
 try (refine req.intro hb ?_;conv=>whnf)
 refine rd.T (i:=i.toNat) (x:=e) (j:=1) Xdc (by assumption) (by first|omega|exact Nat.zero_add _|exact congrArg (·+_) (Nat.zero_add _)) (by decide) rfl ?_
 conv=>whnf
 replace h:=XcR.elim h;obtain ⟨m,hy,h⟩:=h
 refine Xgw.a (XoB hy) ?_
 conv=>whnf
 replace h:=Xbn.elim h;obtain ⟨hb,h⟩:=h
 try (refine req.intro hb ?_;conv=>whnf)
 refine rd.T (i:=i.toNat) (x:=e) (j:=1) Xdc (by assumption) (by first|omega|exact Nat.zero_add _|exact congrArg (·+_) (Nat.zero_add _)) (by decide) rfl ?_
 conv=>whnf
 replace h:=XcR.elim h;obtain ⟨m1,hy,h⟩:=h
 refine Xgw.a (XoB hy) ?_
 conv=>whnf
 replace h:=Xbn.elim h;obtain ⟨hb,h⟩:=h
 try (refine req.intro hb ?_;conv=>whnf)
 refine rd.T (i:=i.toNat) (x:=e) (j:=2) Xdc (by assumption) (by first|omega|exact Nat.zero_add _|exact congrArg (·+_) (Nat.zero_add _)) (by decide) rfl ?_
 conv=>whnf
 exact W
theorem XBW (Xas:XbL) (XdU:Xe3) (hS:Xaj Tryz.prog (XaI (XzE Xas XdU))) (options:List UInt8) (res:Int×Int×Int) (h:Xms Xas XdU options=some res) :
 XaJ Tryz.prog 107 0 ⟨⟨107,51,[(0,.string ⟨⟨options⟩⟩)],[.code Xz2],[],false,none⟩,[],[],0⟩ (fun v H _=>Res 0 (XwJ res) v H):=by
 unfold Xms at h
 refine Xa7 XaE hS true 3000 ?_
 conv=>whnf
 replace h:=XcR.elim h;obtain ⟨l,hy,h⟩:=h
 refine Xgw.a (XAV hy) ?_
 conv=>whnf
 have hl:=Xxp Xas XdU hS _ res _ _ _ h rfl;simp only [Xl2] at hl
 exact Xkz hl [(0,0)] rfl
def Xf0:Xgj:=Xms Xas XdU
theorem XM0:XbB Tryz.prog 107 (s107 Xf0):=by
 have hL:=XBW Xas XdU (Xaj.XaK ⟨Xqe,Xy2,trivial⟩)
 exact okA ⟨Tryz.f107,rfl,by decide,rfl⟩
def Xj7 (Xdr:XfV) (val:Int) (echo:Int):Option (List UInt8):=
 (Xdr (wI .i64 val) 4).bind fun n=>
 Xbn (decide (4+n.length<2^63)) <|
 (Xdr (wI .i64 echo) 4).bind fun n1=>
 Xbn (decide (([1,1,8,10]++n).length+n1.length<2^63)) <|
 some (([1,1,8,10]++n)++n1)
def rx25 (x:List UInt8):XcS:=⟨.string ⟨⟨x⟩⟩,[],[]⟩
abbrev XdN:=Int→Int→Option (List UInt8)
def r25 (g:XdN):Dec:=dV (asI .u32) fun (y0:Int)=>dV (asI .u32) fun (y1:Int)=>XdJ (ofG (g y0 y1) rx25)
theorem r25_c {g:XdN} {y0:Int} {y1:Int} {x:List UInt8} (hx:g y0 y1=some x):r25 g [.int .u32 y0,.int .u32 y1] []=some (rx25 x):=(XaP (Xen _)).trans ((XaP (Xen _)).trans (XaN hx))
def s25 (g:XdN):Xbz:=⟨[.v,.v],r25 g⟩
theorem XJb {g:XdN} {y0:Int} {y1:Int} {x:List UInt8} (hx:g y0 y1=some x):(s25 g).run [.int .u32 y0,.int .u32 y1] []=some (rx25 x):=r25_c hx
abbrev XU3 (Xdr:XfV):List (Nat×Xbz):=[(62,s62 Xdr)]
theorem XNA (Xdr:XfV) (hS:Xaj Tryz.prog (XaI (XU3 Xdr))) (val:Int) (echo:Int) (res:List UInt8) (h:Xj7 Xdr val echo=some res) :
 XaJ Tryz.prog 25 0 ⟨⟨25,13,[(0,.int .u32 val),(1,.int .u32 echo)],[.code XTI],[],false,none⟩,[],[],0⟩ (fun v H _=>Res 0 (rx25 res) v H):=by
 unfold Xj7 at h
 have R1:=@XHG Xdr
 refine Xa7 XaE hS true 3000 ?_
 conv=>whnf
 exact W
def Xcc:XdN:=Xj7 Xdr
theorem XJO:XbB Tryz.prog 25 (s25 Xcc):=by
 have hL:=XNA Xdr (Xaj.XaK ⟨XHP,trivial⟩)
 exact okA ⟨Tryz.f25,rfl,by decide,rfl⟩
end Go.Vm.Code
namespace Go.Vm.Code
open Go Go.Vm
def stL:List XzG→Int×Int×Int
 | []=>(0,0,-1)
 | o::l=>if o.Kind=8 then (if o.Data.length=8 then (vK o.Data 0 4,vK o.Data 4 4,o.At) else (0,0,-1)) else stL l
def XmD (s:List UInt8):Int×Int×Int:=stL (XnZ s).1
theorem Xo5 (s:List UInt8):∀ (n i:Nat) (out:List XzG),Xkq s n i out=if (Xkq s n i []).2=0 then (out++(Xkq s n i []).1,0) else ([],3):=by
 intro n
 induction n using Nat.strongRecOn with
 | ind n ih=>
   intro i out
   cases n with
   | zero=>rw [Xkq,Xkq];simp
   | succ n=>
     have e:∀ o,Xkq s (n+1) i o=match s[i]? with
      | none=>(o,0)
      | some b=>if b=0 then (o,0) else if b=1 then Xkq s n (i+1) o else match s[i+1]? with
        | none=>([],3)
        | some k=>if k.toNat<2 then ([],3) else if s.length - i<k.toNat then ([],3) else
           Xkq s (n+1 - k.toNat) (i+k.toNat) (o++[⟨(b.toNat:Int),(s.drop (i+2)).take (k.toNat - 2),((i+2:Nat):Int)⟩]):=fun o=>by rw [Xkq];try (cases s[i]?<;>cases s[i+1]?<;>rfl)
     rw [e out,e []]
     cases s[i]? with
     | none=>simp
     | some b=>
       simp only
       by_cases h0:b=0
       ·simp [h0]
       rw [if_neg h0,if_neg h0]
       by_cases h1:b=1
       ·rw [if_pos h1,if_pos h1];exact ih n (by omega) _ _
       rw [if_neg h1,if_neg h1]
       cases s[i+1]? with
       | none=>simp
       | some k=>
         simp only
         by_cases h2:k.toNat<2
         ·simp [h2]
         by_cases h3:s.length - i<k.toNat
         ·simp [h2,h3]
         rw [if_neg h2,if_neg h2,if_neg h3,if_neg h3,ih _ (by omega) _ (out++_),ih _ (by omega) _ ([]++_)]
         by_cases hz:(Xkq s (n+1 - k.toNat) (i+k.toNat) []).2=0
         ·simp [hz]
         ·simp [hz]
theorem Xu6 {s:List UInt8} (h:(XnZ s).2≠0):(XnZ s).1=[]:=by
 unfold XnZ at *
 have:=Xo5 s s.length 0 []
 rw [if_neg h] at this
 rw [this]
theorem XKh {s:List UInt8}:∀ (n i:Nat),∀ o∈(Xkq s n i []).1,i≤o.At.toNat∧0≤o.At∧o.At.toNat+o.Data.length≤s.length∨(Xkq s n i []).2≠0:=by
 intro n
 induction n using Nat.strongRecOn with
 | ind n ih=>
   intro i o ho
   cases n with
   | zero=>rw [Xkq] at ho;simp at ho
   | succ n=>
     rw [Xkq] at ho ⊢
     cases hb:s[i]? with
     | none=>rw [hb] at ho;simp at ho
     | some b=>
       rw [hb] at ho
       simp only at ho ⊢
       by_cases h0:b=0
       ·rw [if_pos h0] at ho;simp at ho
       rw [if_neg h0] at ho ⊢
       by_cases h1:b=1
       ·rw [if_pos h1] at ho ⊢
        rcases ih n (by omega) _ o ho with h|h
        ·left;omega
        ·right;exact h
       rw [if_neg h1] at ho ⊢
       cases hk:s[i+1]? with
       | none=>rw [hk] at ho;simp at ho
       | some k=>
         rw [hk] at ho
         simp only at ho ⊢
         by_cases h2:k.toNat<2
         ·rw [if_pos h2] at ho;simp at ho
         rw [if_neg h2] at ho ⊢
         by_cases h3:s.length - i<k.toNat
         ·rw [if_pos h3] at ho;simp at ho
         rw [if_neg h3] at ho ⊢
         rw [Xo5] at ho ⊢
         by_cases hz:(Xkq s (n+1 - k.toNat) (i+k.toNat) []).2=0
         ·rw [if_pos hz] at ho
          simp only [List.nil_append,List.mem_append,List.mem_singleton] at ho
          left
          have hi:i<s.length:=by
           rcases Nat.lt_or_ge i s.length with h|h
           ·exact h
           ·rw [List.getElem?_eq_none h] at hb;cases hb
          rcases ho with rfl|ho
          ·simp only [List.length_take,List.length_drop];omega
          ·rcases ih _ (by omega) _ o ho with h|h
           ·omega
           ·exact absurd hz h
         ·right;rw [if_neg hz];decide
theorem XM6 {s:List UInt8} (hs:s.length<2^20):Xf0 s=some (XmD s):=by
 unfold Xf0 Xms XmD
 rw [XWF hs,Option.bind_some]
 have hlen:∀ o∈(XnZ s).1,o.Data.length<2^61:=by
  intro o ho
  unfold XnZ at ho
  rcases XKh _ _ o ho with h|h
  ·omega
  ·have:=Xu6 (s:=s) h
   unfold XnZ at this
   rw [this] at ho;simp at ho
 have hcount:(XnZ s).1.length<2^60:=by
  have key:∀ n i out,(Xkq s n i out).1.length≤out.length+n:=by
   intro n
   induction n using Nat.strongRecOn with
   | ind n ih=>
     intro i out
     cases n with
     | zero=>rw [Xkq];simp
     | succ n=>
       rw [Xkq]
       split
       ·simp
       split
       ·simp
       split
       ·have:=ih n (by omega) (i+1) out;omega
       split
       ·simp
       split
       ·simp
       split
       ·simp
       refine Nat.le_trans (ih _ (by omega) _ _) ?_
       simp;omega
  have:=key s.length 0 []
  unfold XnZ
  simp at this;omega
 generalize XnZ s=L at *
 have key:=iter_eq (step:=fun st=>Xh8 Xas (L.1.map toR,L.2) st) (fun st=>stL (L.1.drop st.toNat)) (fun st=>0≤st∧st≤L.1.length) (fun st=>((L.1.length:Int) - st).toNat) ?_ FUEL 0 ⟨by omega,by omega⟩ (by rw [Xgx];omega)
 ·rw [key];simp
 intro st ⟨g1,g2⟩
 obtain ⟨i,rfl⟩:=Int.eq_ofNat_of_zero_le g1
 unfold Xh8
 simp only [Int.toNat_natCast,List.length_map,List.getElem?_map]
 by_cases hp:i<L.1.length
 ·have ed:L.1.drop i=L.1[i]::L.1.drop (i+1):=List.drop_eq_getElem_cons hp
  have hd:=hlen _ (List.getElem_mem hp)
  rw [XaW (by omega),XaA (by omega),List.getElem?_eq_getElem hp,Option.map_some,Option.bind_some,ed,stL]
  simp only [toR]
  by_cases h8:L.1[i].Kind=8
  ·refine .inl ?_
   rw [show (L.1[i].Kind==8)=true by simpa using h8,cond_true,if_pos h8,XaA (by omega)]
   by_cases hl:L.1[i].Data.length=8
   ·have r0:=Xgl L.1[i].Data 0 4 4294967296 (by decide)
    have r4:=Xgl L.1[i].Data 4 4 4294967296 (by decide)
    have m0:Xas L.1[i].Data 0 4=some (vK L.1[i].Data 0 4):=XrU (p:=0) (k:=4) hd (by omega) (by omega) (by omega)
    have m4:Xas L.1[i].Data 4 4=some (vK L.1[i].Data 4 4):=XrU (p:=4) (k:=4) hd (by omega) (by omega) (by omega)
    rw [show (((L.1[i].Data.length:Nat):Int) !=8)=false by simp;omega,cond_false,if_pos hl,XaA (by omega),m0,Option.bind_some,XaA (by omega),m4,Option.bind_some,XaA (by omega),XEn r0.1 r0.2,XEn r4.1 r4.2]
   ·rw [show (((L.1[i].Data.length:Nat):Int) !=8)=true by simp;omega,cond_true,if_neg hl]
  ·refine .inr ⟨((i+1:Nat):Int),?_,⟨by omega,by omega⟩,by omega,?_⟩
   ·rw [show (L.1[i].Kind==8)=false by simpa using h8,cond_false,Xed (by omega) (by omega)];rfl
   ·rw [if_neg h8,Int.toNat_natCast]
 ·refine .inl ?_
  rw [XaO (by omega),List.drop_of_length_le (by omega)];rfl
theorem val8 {t:List UInt8} (h:t.length=8):((Xgf t:Nat):Int)=vK t 0 4*4294967296+vK t 4 4:=by
 unfold vK
 have e:t.take 4++(t.drop 4).take 4=t:=by rw [List.take_of_length_le (l:=t.drop 4) (by simp;omega),List.take_append_drop]
 have:=val_append (t.take 4) ((t.drop 4).take 4)
 rw [e,show ((t.drop 4).take 4).length=4 by simp;omega] at this
 rw [List.drop_zero,this]
 omega
theorem XOb {s:List UInt8} (hs:s.length<2^20):Xf2 s=some (XmD s):=by
 unfold Xf2 XmA
 rw [XSI hs,Option.bind_some]
 by_cases hz:(XnZ s).2=0
 ·rw [show ((XnZ s).2 !=0)=false by simpa using hz,cond_false]
  unfold XmD XnZ
  unfold XnZ at hz
  have key:=iter_eq (step:=fun st=>Xh2 Xbq s st) (fun st=>stL (Xkq s (s.length - st.toNat) st.toNat []).1) (fun st=>0≤st∧st≤s.length∧(Xkq s (s.length - st.toNat) st.toNat []).2=0) (fun st=>s.length - st.toNat) ?_ FUEL 0 ⟨by omega,by omega,by simpa using hz⟩ (by rw [Xgx];omega)
  ·rw [key];rfl
  intro st ⟨g1,g2,g3⟩
  obtain ⟨i,rfl⟩:=Int.eq_ofNat_of_zero_le g1
  simp only [Int.toNat_natCast] at g3 ⊢
  unfold Xh2
  by_cases hi:i<s.length
  ·obtain ⟨n,hn⟩:∃ n,s.length - i=n+1:=⟨s.length - i - 1,by omega⟩
   have e:s[i]?=some s[i]:=List.getElem?_eq_getElem hi
   rw [hn,Xkq,e] at g3
   simp only at g3
   rw [XaW (by omega),XaA (by omega),Int.toNat_natCast,e,Option.bind_some,hn,Xkq,e]
   by_cases h0:s[i]=0
   ·refine .inl ?_
    rw [show ((s[i].toNat:Int)==0)=true by rw [h0];rfl,cond_true]
    simp only [h0,if_true];rfl
   rw [show ((s[i].toNat:Int)==0)=false by simp;intro hx;exact h0 (UInt8.toNat_inj.1 (by simpa using hx)),cond_false]
   rw [if_neg h0] at g3
   simp only [if_neg h0]
   by_cases h1:s[i]=1
   ·rw [if_pos h1] at g3
    refine .inr ⟨((i+1:Nat):Int),?_,⟨by omega,by omega,?_⟩,by omega,?_⟩
    ·rw [show ((s[i].toNat:Int)==1)=true by rw [h1];rfl,cond_true,Xed (by omega) (by omega)];rfl
    ·rw [Int.toNat_natCast,show s.length - (i+1)=n by omega];exact g3
    ·simp only [Int.toNat_natCast,if_pos h1]
     rw [show s.length - (i+1)=n by omega]
   rw [show ((s[i].toNat:Int)==1)=false by simp;intro hx;exact h1 (UInt8.toNat_inj.1 (by simp;omega)),cond_false]
   rw [if_neg h1] at g3
   simp only [if_neg h1]
   rw [Xed (n:=(i:Int)+1) (by omega) (by omega)]
   by_cases h2:s.length≤i+1
   ·rw [List.getElem?_eq_none (by omega)] at g3
    simp at g3
   have hi1:i+1<s.length:=by omega
   have e1:s[i+1]?=some s[i+1]:=List.getElem?_eq_getElem hi1
   have b1:=s[i+1].toNat_lt
   rw [e1] at g3
   simp only at g3
   rw [XaW (by omega),show ((i:Int)+1).toNat=i+1 by omega,e1,XaA (by omega),Option.bind_some]
   simp only [Option.bind_some]
   rw [Xed (n:=(s[i+1].toNat:Int)) (by omega) (by omega)]
   by_cases h3:s[i+1].toNat<2
   ·rw [if_pos h3] at g3
    exact absurd g3 (by decide)
   rw [if_neg h3] at g3
   rw [XaO (by omega),if_neg h3,Xed (n:=(s.length:Int) - i) (by omega) (by omega)]
   by_cases h4:s.length - i<s[i+1].toNat
   ·rw [if_pos h4] at g3
    exact absurd g3 (by decide)
   rw [if_neg h4,Xo5] at g3
   have b0:=s[i].toNat_lt
   have hz2:(Xkq s (n+1 - s[i+1].toNat) (i+s[i+1].toNat) []).2=0:=by
    apply Decidable.byContradiction
    intro hx
    rw [if_neg hx] at g3
    exact absurd g3 (by decide)
   rw [if_neg h4,Xo5,if_pos hz2,XaO (by omega),XaA (by omega),Xed (n:=(i:Int)+s[i+1].toNat) (by omega) (by omega),Xed (n:=(i:Int)+2) (by omega) (by omega),Xed (n:=(s[i].toNat:Int)) (by omega) (by omega),XaA (by omega),show ((i:Int)+s[i+1].toNat).toNat - ((i:Int)+2).toNat=s[i+1].toNat - 2 by omega,show ((i:Int)+2).toNat=i+2 by omega]
   simp only [List.nil_append,List.cons_append,stL]
   have hdl:((s.drop (i+2)).take (s[i+1].toNat - 2)).length=s[i+1].toNat - 2:=by simp;omega
   generalize (s.drop (i+2)).take (s[i+1].toNat - 2)=D at *
   by_cases h8:(s[i].toNat:Int)=8
   ·refine .inl ?_
    rw [show ((s[i].toNat:Int) !=8)=false by simpa using h8,cond_false,if_pos h8,XgZ (by omega),Option.bind_some]
    by_cases hl:D.length=8
    ·rw [Xju (by omega) (by omega) (by omega) (by omega),if_pos hl]
     have r0:=Xgl D 0 4 4294967296 (by decide)
     have r4:=Xgl D 4 4 4294967296 (by decide)
     have hv:=val8 hl
     have ev:(D.drop (0:Int).toNat).take (8:Int).toNat=D:=by
      rw [show (0:Int).toNat=0 from rfl,show (8:Int).toNat=8 from rfl,List.drop_zero,List.take_of_length_le (by omega)]
     simp only [cond_true,ev]
     rw [show ((D.length:Int)==8)=true by simp;omega,cond_true,hv,Xs8,show ((2:Int)^32)=4294967296 from rfl,show (vK D 0 4*4294967296+vK D 4 4)/4294967296=vK D 0 4 by omega,XEn r0.1 r0.2,wU32m,show (vK D 0 4*4294967296+vK D 4 4)%4294967296=vK D 4 4 by omega];rfl
    ·rw [if_neg hl]
     rw [show ((D.length:Int)==8)=false by simp;omega]
     cases (Xxn D 0 8).2<;>rfl
   ·refine .inr ⟨((i+s[i+1].toNat:Nat):Int),?_,⟨by omega,by omega,?_⟩,by omega,?_⟩
    ·rw [show ((s[i].toNat:Int) !=8)=true by simpa using h8,cond_true];rfl
    ·rw [Int.toNat_natCast,show s.length - (i+s[i+1].toNat)=n+1 - s[i+1].toNat by omega];exact hz2
    ·rw [Int.toNat_natCast,show s.length - (i+s[i+1].toNat)=n+1 - s[i+1].toNat by omega,if_neg h8]
  ·refine .inl ?_
   rw [XaO (by omega),show s.length - i=0 by omega,Xkq];rfl
 ·rw [show ((XnZ s).2 !=0)=true by simpa using hz,cond_true]
  unfold XmD
  rw [Xu6 hz];rfl
def Xja (v e:Nat):List UInt8:=[1,1,8,10]++(be v 4++be e 4)
theorem XMn {v e:Nat} (hv:v<4294967296) (he:e<4294967296):Xcb (v:Int) (e:Int)=some (Xja v e):=by
 unfold Xcb Xki Xja
 have k1:Xak 16844810 4=some [1,1,8,10]:=by rw [XbH (by omega)];rfl
 have k2:Xak (XlD .u64 (wI .u64 ((wI .u64 (v:Int))*2^32)) (wI .u64 (e:Int))) 8=some (be v 4++be e 4):=by
  have e2:XlD .u64 (wI .u64 ((wI .u64 (v:Int))*2^32)) (wI .u64 (e:Int))=((v*4294967296+e:Nat):Int):=by
   rw [Xgt (n:=(v:Int)) (by omega) (by omega),Xgt (n:=(e:Int)) (by omega) (by omega),Xgt (n:=(v:Int)*2^32) (by omega) (by omega),Xhc 32 (by omega) (by omega) (by omega) (by omega) (by omega)];omega
  rw [e2,XbH (by omega),show Xc9 ((v*4294967296+e:Nat):Int) 8=be ((v*4294967296+e:Nat):Int).toNat 8 from Xif (k:=8) (by omega),Int.toNat_natCast,XzN _ _ (by omega)]
 rw [k1,Option.bind_some]
 simp only []
 rw [k2,Option.bind_some,XaA (by simp)]
theorem XPF {v e:Nat} (hv:v<4294967296) (he:e<4294967296):Xcc (v:Int) (e:Int)=some (Xja v e):=by
 have num:∀ n:Nat,n<4294967296→Xdr (wI .i64 (n:Int)) 4=some (be n 4):=fun n hn=>by
  unfold Xdr Xnj
  rw [Xed (by omega) (by omega),Xgt (by omega) (by omega),Xdq (by omega) (by omega),show Xc9 (n:Int) 4=be (n:Int).toNat 4 from Xif (k:=4) (by omega),Int.toNat_natCast];rfl
 unfold Xcc Xj7 Xja
 rw [num v hv,num e he,Option.bind_some,Option.bind_some,XaA (by simp),XaA (by simp),List.append_assoc]
theorem Xoq (r:Xag) (k:Int):(rdr r k).s.length≤r.s.length:=by unfold rdr;split<;>simp
def b1 (s:List UInt8) (i:Nat):Nat:=Xgf ((s.drop i).take 1)
theorem XHM {s:List UInt8} {i:Nat} (h:i<s.length):b1 s i=s[i].toNat:=by
 unfold b1
 rw [List.drop_eq_getElem_cons h]
 show Xgf [s[i]]=_
 rw [XhD];simp
theorem XHg (s:List UInt8) (i:Nat):b1 s i<256:=XfJ _ (by decide)
end Go.Vm.Code
namespace Go.Vm.Code
open Go Go.Vm Go.Proofs
set_option maxRecDepth 100000
set_option maxHeartbeats 4000000
set_option linter.unusedVariables false
def Xnn (n:Int):Option Bool:=
 cond (decide (0≤n))
  (
  some (decide (n≤65535)))
  (
  some (false))
def XHk (x:Bool):XcS:=⟨.bool x,[],[]⟩
abbrev Xgr:=Int→Option Bool
def r200 (g:Xgr):Dec:=dV (asI .i64) fun (y0:Int)=>XdJ (ofG (g y0) XHk)
theorem XV5 {g:Xgr} {y0:Int} {x:Bool} (hx:g y0=some x):r200 g [.int .i64 y0] []=some (XHk x):=(XaP (Xen _)).trans (XaN hx)
def s200 (g:Xgr):Xbz:=⟨[.v],r200 g⟩
theorem XBl {g:Xgr} {y0:Int} {x:Bool} (hx:g y0=some x):(s200 g).run [.int .i64 y0] []=some (XHk x):=XV5 hx
abbrev XNy:List (Nat×Xbz):=[]
theorem XHB (hS:Xaj Tryz.prog (XaI (XNy))) (n:Int) (res:Bool) (h:Xnn n=some res) :
 XaJ Tryz.prog 200 0 ⟨⟨200,9,[(0,.int .i64 n)],[.code XJM],[],false,none⟩,[],[],0⟩ (fun v H _=>Res 0 (XHk res) v H):=by
 unfold Xnn at h
 refine Xa7 XaE hS true 3000 ?_
 conv=>whnf
 exact W
def XfK:Xgr:=Xnn
theorem XJ0:XbB Tryz.prog 200 (s200 XfK):=by
 have hL:=XHB (Xaj.XaK trivial)
 exact okA ⟨Tryz.f200,rfl,by decide,rfl⟩
def Xfd (XbJ:XdC) (Xa5:Xc3) (Xak:XaY) (ha0:XaR) (payload:List UInt8) (p:List UInt8) (t48:Int) (c:List Int):Option (Sum (Int×(List Int)) ((List UInt8)×Int)):=
 cond (decide (t48<4))
  (
  Xbn (decide (0≤t48∧t48<4)) <|
  ([ha0.SPort,ha0.DPort,wI .i64 (8+(payload.length:Int)),0][t48.toNat]?).bind fun (e:Int)=>
  (Xak (wI .u64 e) 2).bind fun p4=>
  Xbn (decide ((c.length+p4.length)*1≤2^47)) <|
  let row:=c++(bI p4)
  some (.inl (wI .i64 (t48+1),row)))
  (
  Xbn (decide ((c.length+payload.length)*1≤2^47)) <|
  let row1:=c++(bI payload)
  Xbn (decide (row1.length<2^63)) <|
  Xbn (decide (p.length+(iB row1).length<2^63)) <|
  (XbJ (p++(iB row1))).bind fun xo=>
  cond (xo==0)
   (
   (Xa5 (iB row1) 6 2 65535).bind fun s=>
   some (.inr ((s,0))))
   (
   (Xa5 (iB row1) 6 2 (wI .u64 xo)).bind fun s1=>
   some (.inr ((s1,0)))))
def Xo9 (XbJ:XdC) (Xa5:Xc3) (XaG:XbM) (Xak:XaY) (XfK:Xgr) (ha0:XaR) (src:Xab) (dst:Xab) (payload:List UInt8):Option ((List UInt8)×Int):=
 (XaG src dst 17 (wI .i64 (8+(payload.length:Int)))).bind fun p=>
 (XfK ha0.SPort).bind fun p1=>
 cond (!p1)
  (
  some (([],1)))
  (
  (XfK ha0.DPort).bind fun p2=>
  cond (!p2)
   (
   some (([],1)))
   (
   cond (p==[])
    (
    some (([],1)))
    (
    let t:=decide ((wI .i64 (8+(payload.length:Int)))>65535)
    cond (t)
     (
     some (([],5)))
     (
     (Xak (wI .u64 ha0.SPort) 2).bind fun p3=>
     Xbn (decide (p3.length*1≤2^47)) <|
     iter (fun st=>Xfd XbJ Xa5 Xak ha0 payload p st.1 st.2) FUEL (1,bI p3)))))
def Xw0 (x:(List UInt8)×Int):XcS:=⟨.tuple ⟨[.string ⟨⟨x.1⟩⟩,.int .i64 x.2]⟩,[],[]⟩
abbrev XhN:=XaR→Xab→Xab→(List UInt8)→Option ((List UInt8)×Int)
def r188 (g:XhN):Dec:=dV XkG fun (y0:XaR)=>dV Xb5 fun (y1:Xab)=>dV Xb5 fun (y2:Xab)=>dV asS fun (y3:List UInt8)=>XdJ (ofG (g y0 y1 y2 y3) Xw0)
theorem XWH {g:XhN} {y0:XaR} {y1:Xab} {y2:Xab} {y3:List UInt8} {x:(List UInt8)×Int} (hx:g y0 y1 y2 y3=some x):r188 g [.agg ⟨[.int .i64 y0.SPort,.int .i64 y0.DPort]⟩,.agg ⟨[.bool y1.V6,.int .u64 y1.Hi,.int .u64 y1.Lo]⟩,.agg ⟨[.bool y2.V6,.int .u64 y2.Hi,.int .u64 y2.Lo]⟩,.string ⟨⟨y3⟩⟩] []=some (Xw0 x):=(XaP (XoO _)).trans ((XaP (XbO _)).trans ((XaP (XbO _)).trans ((XaP (XdL)).trans (XaN hx))))
def s188 (g:XhN):Xbz:=⟨[.v,.v,.v,.v],r188 g⟩
theorem XN5 {g:XhN} {y0:XaR} {y1:Xab} {y2:Xab} {y3:List UInt8} {x:(List UInt8)×Int} (hx:g y0 y1 y2 y3=some x):(s188 g).run [.agg ⟨[.int .i64 y0.SPort,.int .i64 y0.DPort]⟩,.agg ⟨[.bool y1.V6,.int .u64 y1.Hi,.int .u64 y1.Lo]⟩,.agg ⟨[.bool y2.V6,.int .u64 y2.Hi,.int .u64 y2.Lo]⟩,.string ⟨⟨y3⟩⟩] []=some (Xw0 x):=XWH hx
abbrev XzC (XbJ:XdC) (Xa5:Xc3) (XaG:XbM) (Xak:XaY) (XfK:Xgr):List (Nat×Xbz):=[(183,XRq XbJ),(98,s98 Xa5),(180,XQS XaG),(97,s97 Xak),(200,s200 XfK)]
def Xlw (ha0:XaR) (payload:List UInt8) (p:List UInt8) (t48:Int) (c:List Int):VM:=
 ⟨⟨188, 69, [(3, .string ⟨⟨payload⟩⟩), (11, .string ⟨⟨p⟩⟩), (12, .pointer (some ⟨3, 0, none⟩)), (47, .agg ⟨[.int .i64 ha0.SPort, .int .i64 ha0.DPort, .int .i64 (wI .i64 (8 + (payload.length : Int))), .int .i64 0]⟩), (48, .int .i64 t48)], [.code XtP, .inLoop XtP, .inBlock 1, .code XxO], [], false, none⟩, [], [(3, .ty 171 [.pointer (some ⟨3, 0, none⟩), .func (.method "") ⟨[.slice (some ⟨4, 0, none⟩) c.length 1]⟩ ⟨[]⟩]), (4, .ty 5 (vI .u8 c))], 5⟩
theorem XxL (XbJ:XdC) (Xa5:Xc3) (XaG:XbM) (Xak:XaY) (XfK:Xgr) (hS:Xaj Tryz.prog (XaI (XzC XbJ Xa5 XaG Xak XfK))) (ha0:XaR) (payload:List UInt8) (p:List UInt8) (res:(List UInt8)×Int):∀ fuel (st:Int×(List Int)) (o:(List UInt8)×Int),iter (fun st=>Xfd XbJ Xa5 Xak ha0 payload p st.1 st.2) fuel st=some o→(o=res) →
 XaJ Tryz.prog 188 0 (Xlw ha0 payload p st.1 st.2) (fun v H _=>Res 0 (Xw0 res) v H):=by
 intro fuel st o h hc
 refine XcX (head:=fun st=>Xlw ha0 payload p st.1 st.2) (C:=fun o=>(o=res)) ?_ fuel st o h hc
 clear h hc o st fuel
 intro st o h hc
 obtain ⟨t48,c⟩:=st
 replace h:Xfd XbJ Xa5 Xak ha0 payload p t48 c=some o:=h
 show XaJ Tryz.prog 188 0 (Xlw ha0 payload p t48 c) (fun v H _=>Res 0 (Xw0 res) v H)
 unfold Xfd at h
 have R1:=@Xuj XbJ
 have R2:=@XA5 Xa5
 refine Xa7 XaE hS true 3000 ?_
 conv=>whnf
 refine br.h h (by rfl) ?_ ?_
 ·clear h;intro hb h;conv=>whnf
  replace h:=Xbn.elim h;obtain ⟨hb,h⟩:=h
  try (refine req.intro hb ?_;conv=>whnf)
  replace h:=XcR.elim h;obtain ⟨e,hy,h⟩:=h
  refine rd.I hy (by first|rfl|(rw [Nat.zero_add,Nat.mul_one];try rfl;done)|omega) ?_
  conv=>whnf
  replace h:=XcR.elim h;obtain ⟨p4,hy,h⟩:=h
  refine Xgw.a (Xl3 hy) ?_
  conv=>whnf
  replace h:=Xbn.elim h;obtain ⟨hb,h⟩:=h
  first|refine req.intro (Xt7 (of_decide_eq_true hb) (by first|rfl|omega|(simp;done)|(simp;omega)|(simp at *;omega)) rfl rfl (by first|rfl|omega|(simp;done)|(simp;omega)|(simp at *;omega)) (by first|rfl|exact Xip _ _|exact XkF _|exact XkQ _|exact Xlp (by first|exact XdS|exact Xdk|exact XdZ|exact Xcs|exact Xce|exact XdT|exact XcU|exact XcF|exact Xdl|exact XdR|exact XcV|exact XdY|exact Xez|exact Xcr|exact Xcp|exact XeC|exact XcT) _|(rw [Xfu];exact Xip _ _)|(simp [Xip,XkF,XkQ,XlT,XlG,Xm2,Xm9];done)|(simp;exact List.all_eq_true.1 (Xlp (by first|exact XdS|exact Xdk|exact XdZ|exact Xcs|exact Xce|exact XdT|exact XcU|exact XcF|exact Xdl|exact XdR|exact XcV|exact XdY|exact Xez|exact Xcr|exact Xcp|exact XeC|exact XcT) _))) rfl) ?_|skip
  conv=>whnf
  let row:List Int:=c++(bI p4)
  first|have hlen_row:row.length=_:=List.length_append ..|skip
  refine XxW (xs:=c) (ys:=bI p4) (Xfu _) (by first|rfl|omega|(simp;done)|(simp;omega)|(simp at *;omega)) (by first|rfl|omega|(simp;done)|(simp;omega)|(simp at *;omega)) ?_
  conv=>whnf
  cases h;simp only [Sum.elim_inl,Xlw] at hc
  exact Xkz hc [(3,3),(4,5)] rfl
 clear h;intro hb h;conv=>whnf
 replace h:=Xbn.elim h;obtain ⟨hb,h⟩:=h
 first|refine req.intro (Xt7 (of_decide_eq_true hb) (by first|rfl|omega|(simp;done)|(simp;omega)|(simp at *;omega)) rfl rfl (by first|rfl|omega|(simp;done)|(simp;omega)|(simp at *;omega)) (by first|rfl|exact Xip _ _|exact XkF _|exact XkQ _|exact Xlp (by first|exact XdS|exact Xdk|exact XdZ|exact Xcs|exact Xce|exact XdT|exact XcU|exact XcF|exact Xdl|exact XdR|exact XcV|exact XdY|exact Xez|exact Xcr|exact Xcp|exact XeC|exact XcT) _|(rw [Xfu];exact Xip _ _)|(simp [Xip,XkF,XkQ,XlT,XlG,Xm2,Xm9];done)|(simp;exact List.all_eq_true.1 (Xlp (by first|exact XdS|exact Xdk|exact XdZ|exact Xcs|exact Xce|exact XdT|exact XcU|exact XcF|exact Xdl|exact XdR|exact XcV|exact XdY|exact Xez|exact Xcr|exact Xcp|exact XeC|exact XcT) _))) rfl) ?_|skip
 conv=>whnf
 let row1:List Int:=c++(bI payload)
 first|have hlen_row1:row1.length=_:=List.length_append ..|skip
 refine XxW (xs:=c) (ys:=bI payload) (Xfu _) (by first|rfl|omega|(simp;done)|(simp;omega)|(simp at *;omega)) (by first|rfl|omega|(simp;done)|(simp;omega)|(simp at *;omega)) ?_
 conv=>whnf
 replace h:=Xbn.elim h;obtain ⟨hb,h⟩:=h
 refine req.intro (XIU rfl (by first|rfl|(simp;done)) (by first|rfl|omega|(simp;done)|(simp;omega)|(simp at *;omega)) (of_decide_eq_true hb)) ?_
 conv=>whnf
 refine XUn ?_
 conv=>whnf
 exact W
theorem XCm (XbJ:XdC) (Xa5:Xc3) (XaG:XbM) (Xak:XaY) (XfK:Xgr) (hS:Xaj Tryz.prog (XaI (XzC XbJ Xa5 XaG Xak XfK))) (ha0:XaR) (src:Xab) (dst:Xab) (payload:List UInt8) (res:(List UInt8)×Int) (h:Xo9 XbJ Xa5 XaG Xak XfK ha0 src dst payload=some res) :
 XaJ Tryz.prog 188 0 ⟨⟨188,69,[(0,.agg ⟨[.int .i64 ha0.SPort,.int .i64 ha0.DPort]⟩),(1,.agg ⟨[.bool src.V6,.int .u64 src.Hi,.int .u64 src.Lo]⟩),(2,.agg ⟨[.bool dst.V6,.int .u64 dst.Hi,.int .u64 dst.Lo]⟩),(3,.string ⟨⟨payload⟩⟩)],[.code XBa],[],false,none⟩,[],[],0⟩ (fun v H _=>Res 0 (Xw0 res) v H):=by
 unfold Xo9 at h
 refine Xa7 XaE hS true 3000 ?_
 conv=>whnf
 replace h:=XcR.elim h;obtain ⟨p,hy,h⟩:=h
 refine Xgw.a (XrC hy) ?_
 conv=>whnf
 replace h:=XcR.elim h;obtain ⟨p1,hy,h⟩:=h
 refine Xgw.a (XBl hy) ?_
 conv=>whnf
 refine br.h h (by rfl) ?_ ?_
 ·clear h;intro hb h;conv=>whnf
  exact W
 clear h;intro hb h;conv=>whnf
 replace h:=XcR.elim h;obtain ⟨p2,hy,h⟩:=h
 refine Xgw.a (XBl hy) ?_
 conv=>whnf
 refine br.h h (by rfl) ?_ ?_
 ·clear h;intro hb h;conv=>whnf
  exact W
 clear h;intro hb h;conv=>whnf
 refine br.h h (by rfl) ?_ ?_
 ·clear h;intro hb h;conv=>whnf
  exact W
 clear h;intro hb h;conv=>whnf
 let t:Bool:=decide ((wI .i64 (8+(payload.length:Int)))>65535)
 refine br.h h (by rfl) ?_ ?_
 ·clear h;intro hb h;conv=>whnf
  exact W
 clear h;intro hb h;conv=>whnf
 refine Xa7 XaE hS true 3000 ?_
 conv=>whnf
 replace h:=XcR.elim h;obtain ⟨p3,hy,h⟩:=h
 refine Xgw.a (Xl3 hy) ?_
 conv=>whnf
 replace h:=Xbn.elim h;obtain ⟨hb,h⟩:=h
 refine req.intro (Xv7 (of_decide_eq_true hb) (by first|rfl|omega|(simp;done)|(simp;omega)|(simp at *;omega)) rfl rfl) ?_
 conv=>whnf
 refine XxG (ys:=bI p3) (Xfu _) (by first|rfl|omega|(simp;done)|(simp;omega)|(simp at *;omega)) ?_
 conv=>whnf
 have hl:=XxL XbJ Xa5 XaG Xak XfK hS _ _ _ res _ _ _ h rfl;simp only [Xlw] at hl
 exact Xkz hl [(3,3),(4,4)] rfl
def XiX:XhN:=Xo9 XbJ Xa5 XaG Xak XfK
theorem XP2:XbB Tryz.prog 188 (s188 XiX):=by
 have hL:=XCm XbJ Xa5 XaG Xak XfK (Xaj.XaK ⟨XtO,XAK,XrB,Xnh,XJ0,trivial⟩)
 exact okA ⟨Tryz.f188,rfl,by decide,rfl⟩
def Xo1 (Xbi:XcN) (XaG:XbM) (Xbd:Xcl) (Xai:XaM) (Xad:XaL) (s:List UInt8) (src:Xab) (dst:Xab):Option (XaR×(List UInt8)×Int):=
 (Xbd s).bind fun n=>
 (Xad n 2).bind fun n1=>
 (Xad n1.2 2).bind fun n2=>
 (Xad n2.2 2).bind fun n3=>
 (Xad n3.2 2).bind fun n4=>
 (Xai n4.2).bind fun b=>
 cond (b.1)
  (
  some ((XaR.mk 0 0,[],2)))
  (
  cond (decide (n3.1<8))
   (
   some ((XaR.mk 0 0,[],3)))
   (
   cond (decide (n3.1>(s.length:Int)))
    (
    some ((XaR.mk 0 0,[],2)))
    (
    (XaG src dst 17 n3.1).bind fun p=>
    cond (p==[])
     (
     some ((XaR.mk 0 0,[],1)))
     (
     cond (n4.1==0)
      (
      cond (src.V6)
       (
       some ((XaR.mk 0 0,[],4)))
       (
       cond (n4.1 !=0)
        (
        Xbn (decide ((0:Int)≤n3.1∧n3.1≤(s.length:Int))) <|
        Xbn (decide (p.length+(s.take n3.1.toNat).length<2^63)) <|
        (Xbi (p++(s.take n3.1.toNat))).bind fun xr=>
        cond (!xr)
         (
         some ((XaR.mk 0 0,[],4)))
         (
         Xbn (decide ((0:Int)≤n3.1∧n3.1≤(s.length:Int)∧(0:Int)≤(8:Int)∧(8:Int)≤(n3.1.toNat:Int))) <|
         some ((XaR.mk n1.1 n2.1,(s.drop 8).take (n3.1.toNat - 8),0))))
        (
        Xbn (decide ((0:Int)≤n3.1∧n3.1≤(s.length:Int)∧(0:Int)≤(8:Int)∧(8:Int)≤(n3.1.toNat:Int))) <|
        some ((XaR.mk n1.1 n2.1,(s.drop 8).take (n3.1.toNat - 8),0)))))
      (
      cond (n4.1 !=0)
       (
       Xbn (decide ((0:Int)≤n3.1∧n3.1≤(s.length:Int))) <|
       Xbn (decide (p.length+(s.take n3.1.toNat).length<2^63)) <|
       (Xbi (p++(s.take n3.1.toNat))).bind fun xr1=>
       cond (!xr1)
        (
        some ((XaR.mk 0 0,[],4)))
        (
        Xbn (decide ((0:Int)≤n3.1∧n3.1≤(s.length:Int)∧(0:Int)≤(8:Int)∧(8:Int)≤(n3.1.toNat:Int))) <|
        some ((XaR.mk n1.1 n2.1,(s.drop 8).take (n3.1.toNat - 8),0))))
       (
       Xbn (decide ((0:Int)≤n3.1∧n3.1≤(s.length:Int)∧(0:Int)≤(8:Int)∧(8:Int)≤(n3.1.toNat:Int))) <|
       some ((XaR.mk n1.1 n2.1,(s.drop 8).take (n3.1.toNat - 8),0))))))))
def XCX (x:XaR×(List UInt8)×Int):XcS:=⟨.tuple ⟨[.agg ⟨[.int .i64 x.1.SPort,.int .i64 x.1.DPort]⟩,.string ⟨⟨x.2.1⟩⟩,.int .i64 x.2.2]⟩,[],[]⟩
abbrev Xh5:=(List UInt8)→Xab→Xab→Option (XaR×(List UInt8)×Int)
def r168 (g:Xh5):Dec:=dV asS fun (y0:List UInt8)=>dV Xb5 fun (y1:Xab)=>dV Xb5 fun (y2:Xab)=>XdJ (ofG (g y0 y1 y2) XCX)
theorem XVc {g:Xh5} {y0:List UInt8} {y1:Xab} {y2:Xab} {x:XaR×(List UInt8)×Int} (hx:g y0 y1 y2=some x):r168 g [.string ⟨⟨y0⟩⟩,.agg ⟨[.bool y1.V6,.int .u64 y1.Hi,.int .u64 y1.Lo]⟩,.agg ⟨[.bool y2.V6,.int .u64 y2.Hi,.int .u64 y2.Lo]⟩] []=some (XCX x):=(XaP (XdL)).trans ((XaP (XbO _)).trans ((XaP (XbO _)).trans (XaN hx)))
def s168 (g:Xh5):Xbz:=⟨[.v,.v,.v],r168 g⟩
theorem XOI {g:Xh5} {y0:List UInt8} {y1:Xab} {y2:Xab} {x:XaR×(List UInt8)×Int} (hx:g y0 y1 y2=some x):(s168 g).run [.string ⟨⟨y0⟩⟩,.agg ⟨[.bool y1.V6,.int .u64 y1.Hi,.int .u64 y1.Lo]⟩,.agg ⟨[.bool y2.V6,.int .u64 y2.Hi,.int .u64 y2.Lo]⟩] []=some (XCX x):=XVc hx
abbrev XLk (Xbi:XcN) (XaG:XbM) (Xbd:Xcl) (Xai:XaM) (Xad:XaL):List (Nat×Xbz):=[(80,s80 Xbi),(180,XQS XaG),(77,s77 Xbd),(138,XIN Xai),(78,s78 Xad)]
theorem XDT (Xbi:XcN) (XaG:XbM) (Xbd:Xcl) (Xai:XaM) (Xad:XaL) (hS:Xaj Tryz.prog (XaI (XLk Xbi XaG Xbd Xai Xad))) (s:List UInt8) (src:Xab) (dst:Xab) (res:XaR×(List UInt8)×Int) (h:Xo1 Xbi XaG Xbd Xai Xad s src dst=some res) :
 XaJ Tryz.prog 168 0 ⟨⟨168,70,[(0,.string ⟨⟨s⟩⟩),(1,.agg ⟨[.bool src.V6,.int .u64 src.Hi,.int .u64 src.Lo]⟩),(2,.agg ⟨[.bool dst.V6,.int .u64 dst.Hi,.int .u64 dst.Lo]⟩)],[.code XBv],[],false,none⟩,[],[],0⟩ (fun v H _=>Res 0 (XCX res) v H):=by
 unfold Xo1 at h
 have R1:=@Xyx Xbi
 refine Xa7 XaE hS true 3000 ?_
 conv=>whnf
 replace h:=XcR.elim h;obtain ⟨n,hy,h⟩:=h
 refine Xgw.a (XtD hy) ?_
 conv=>whnf
 replace h:=XcR.elim h;obtain ⟨n1,hy,h⟩:=h
 refine Xgw.a (XmI hy) ?_
 conv=>whnf
 replace h:=XcR.elim h;obtain ⟨n2,hy,h⟩:=h
 refine Xgw.a (XmI hy) ?_
 conv=>whnf
 replace h:=XcR.elim h;obtain ⟨n3,hy,h⟩:=h
 refine Xgw.a (XmI hy) ?_
 conv=>whnf
 replace h:=XcR.elim h;obtain ⟨n4,hy,h⟩:=h
 refine Xgw.a (XmI hy) ?_
 conv=>whnf
 replace h:=XcR.elim h;obtain ⟨b,hy,h⟩:=h
 refine Xgw.a (Xm7 hy) ?_
 conv=>whnf
 refine br.h h (by rfl) ?_ ?_
 ·clear h;intro hb h;conv=>whnf
  exact W
 clear h;intro hb h;conv=>whnf
 refine br.h h (by rfl) ?_ ?_
 ·clear h;intro hb h;conv=>whnf
  exact W
 clear h;intro hb h;conv=>whnf
 refine br.h h (by rfl) ?_ ?_
 ·clear h;intro hb h;conv=>whnf
  exact W
 clear h;intro hb h;conv=>whnf
 replace h:=XcR.elim h;obtain ⟨p,hy,h⟩:=h
 refine Xgw.a (XrC hy) ?_
 conv=>whnf
 refine br.h h (by rfl) ?_ ?_
 ·clear h;intro hb h;conv=>whnf
  exact W
 clear h;intro hb h;conv=>whnf
 refine br.h2 h (by rfl) ?_ ?_
 ·clear h;intro hb h;conv=>whnf
  exact W
 clear h;intro hb h;conv=>whnf
 refine br.h h (by rfl) ?_ ?_
 ·clear h;intro hb h;conv=>whnf
  refine br.pos ?_ ?_;(focus (clear h;first|assumption|(simp_all;done)))
  conv=>whnf
  exact W
 clear h;intro hb h;conv=>whnf
 exact W
def XiW:Xh5:=Xo1 Xbi XaG Xbd Xai Xad
theorem XP0:XbB Tryz.prog 168 (s168 XiW):=by
 have hL:=XDT Xbi XaG Xbd Xai Xad (Xaj.XaK ⟨XAO,XrB,XsS,Xoe,XqP,trivial⟩)
 exact okA ⟨Tryz.f168,rfl,by decide,rfl⟩
def XrL (n:Int):Option Bool:=
 cond (decide (n≥0))
  (
  some (decide (n≤65535)))
  (
  some (false))
def XCf (x:Bool):XcS:=⟨.bool x,[],[]⟩
abbrev Xjg:=Int→Option Bool
def r127 (g:Xjg):Dec:=dV (asI .i64) fun (y0:Int)=>XdJ (ofG (g y0) XCf)
theorem XWg {g:Xjg} {y0:Int} {x:Bool} (hx:g y0=some x):r127 g [.int .i64 y0] []=some (XCf x):=(XaP (Xen _)).trans (XaN hx)
def s127 (g:Xjg):Xbz:=⟨[.v],r127 g⟩
theorem XKj {g:Xjg} {y0:Int} {x:Bool} (hx:g y0=some x):(s127 g).run [.int .i64 y0] []=some (XCf x):=XWg hx
abbrev XMS:List (Nat×Xbz):=[]
theorem XCl (hS:Xaj Tryz.prog (XaI (XMS))) (n:Int) (res:Bool) (h:XrL n=some res) :
 XaJ Tryz.prog 127 0 ⟨⟨127,9,[(0,.int .i64 n)],[.code XIF],[],false,none⟩,[],[],0⟩ (fun v H _=>Res 0 (XCf res) v H):=by
 unfold XrL at h
 refine Xa7 XaE hS true 3000 ?_
 conv=>whnf
 exact W
def Xkb:Xjg:=XrL
theorem XNc:XbB Tryz.prog 127 (s127 Xkb):=by
 have hL:=XCl (Xaj.XaK trivial)
 exact okA ⟨Tryz.f127,rfl,by decide,rfl⟩
def Xpr (Xa3:Xck) (XeH:XfC) (XcP:XeZ) (Xbc:Xct) (Xkb:Xjg) (ha0:XaR) (src:Xab) (dst:Xab) (payload:List UInt8):Option ((List UInt8)×Int):=
 (Xbc src dst 17 (wI .i64 (8+(payload.length:Int)))).bind fun p=>
 (Xkb ha0.SPort).bind fun i=>
 cond (!i)
  (
  some (([],1)))
  (
  (Xkb ha0.DPort).bind fun i1=>
  cond (!i1)
   (
   some (([],1)))
   (
   cond (p==[])
    (
    some (([],1)))
    (
    let t:=decide ((wI .i64 (8+(payload.length:Int)))>65535)
    cond (t)
     (
     some (([],5)))
     (
     (Xa3 (wI .u64 ha0.SPort) 2).bind fun p1=>
     (Xa3 (wI .u64 ha0.DPort) 2).bind fun p2=>
     Xbn (decide (p1.length+p2.length<2^63)) <|
     let t1:=wI .u64 (wI .i64 (8+(payload.length:Int)))
     (Xa3 t1 2).bind fun p3=>
     Xbn (decide ((p1++p2).length+p3.length<2^63)) <|
     Xbn (decide (((p1++p2)++p3).length+2<2^63)) <|
     Xbn (decide ((((p1++p2)++p3)++[0,0]).length+payload.length<2^63)) <|
     let t2:=(((p1++p2)++p3)++[0,0])++payload
     Xbn (decide (p.length+t2.length<2^63)) <|
     (XeH (p++t2)).bind fun xo=>
     cond (xo==0)
      (
      (XcP t2 6 2 65535).bind fun s=>
      some ((s,0)))
      (
      (XcP t2 6 2 (wI .u64 xo)).bind fun s1=>
      some ((s1,0)))))))
def rx75 (x:(List UInt8)×Int):XcS:=⟨.tuple ⟨[.string ⟨⟨x.1⟩⟩,.int .i64 x.2]⟩,[],[]⟩
abbrev XhR:=XaR→Xab→Xab→(List UInt8)→Option ((List UInt8)×Int)
def r75 (g:XhR):Dec:=dV XkG fun (y0:XaR)=>dV Xb5 fun (y1:Xab)=>dV Xb5 fun (y2:Xab)=>dV asS fun (y3:List UInt8)=>XdJ (ofG (g y0 y1 y2 y3) rx75)
theorem r75_c {g:XhR} {y0:XaR} {y1:Xab} {y2:Xab} {y3:List UInt8} {x:(List UInt8)×Int} (hx:g y0 y1 y2 y3=some x):r75 g [.agg ⟨[.int .i64 y0.SPort,.int .i64 y0.DPort]⟩,.agg ⟨[.bool y1.V6,.int .u64 y1.Hi,.int .u64 y1.Lo]⟩,.agg ⟨[.bool y2.V6,.int .u64 y2.Hi,.int .u64 y2.Lo]⟩,.string ⟨⟨y3⟩⟩] []=some (rx75 x):=(XaP (XoO _)).trans ((XaP (XbO _)).trans ((XaP (XbO _)).trans ((XaP (XdL)).trans (XaN hx))))
def s75 (g:XhR):Xbz:=⟨[.v,.v,.v,.v],r75 g⟩
theorem XT6 {g:XhR} {y0:XaR} {y1:Xab} {y2:Xab} {y3:List UInt8} {x:(List UInt8)×Int} (hx:g y0 y1 y2 y3=some x):(s75 g).run [.agg ⟨[.int .i64 y0.SPort,.int .i64 y0.DPort]⟩,.agg ⟨[.bool y1.V6,.int .u64 y1.Hi,.int .u64 y1.Lo]⟩,.agg ⟨[.bool y2.V6,.int .u64 y2.Hi,.int .u64 y2.Lo]⟩,.string ⟨⟨y3⟩⟩] []=some (rx75 x):=r75_c hx
abbrev XV2 (Xa3:Xck) (XeH:XfC) (XcP:XeZ) (Xbc:Xct) (Xkb:Xjg):List (Nat×Xbz):=[(63,s63 Xa3),(65,s65 XeH),(64,s64 XcP),(101,XQP Xbc),(127,s127 Xkb)]
theorem XLD (Xa3:Xck) (XeH:XfC) (XcP:XeZ) (Xbc:Xct) (Xkb:Xjg) (hS:Xaj Tryz.prog (XaI (XV2 Xa3 XeH XcP Xbc Xkb))) (ha0:XaR) (src:Xab) (dst:Xab) (payload:List UInt8) (res:(List UInt8)×Int) (h:Xpr Xa3 XeH XcP Xbc Xkb ha0 src dst payload=some res) :
 XaJ Tryz.prog 75 0 ⟨⟨75,63,[(0,.agg ⟨[.int .i64 ha0.SPort,.int .i64 ha0.DPort]⟩),(1,.agg ⟨[.bool src.V6,.int .u64 src.Hi,.int .u64 src.Lo]⟩),(2,.agg ⟨[.bool dst.V6,.int .u64 dst.Hi,.int .u64 dst.Lo]⟩),(3,.string ⟨⟨payload⟩⟩)],[.code XIo],[],false,none⟩,[],[],0⟩ (fun v H _=>Res 0 (rx75 res) v H):=by
 unfold Xpr at h
 have R1:=@Xr9 Xbc
 have R2:=@XKj Xkb
 have R3:=@Xpy Xa3
 have R4:=@XAb XeH
 have R5:=@Xz9 XcP
 refine Xa7 XaE hS true 3000 ?_
 conv=>whnf
 exact W
def XiL:XhR:=Xpr Xa3 XeH XcP Xbc Xkb
theorem XRe:XbB Tryz.prog 75 (s75 XiL):=by
 have hL:=XLD Xa3 XeH XcP Xbc Xkb (Xaj.XaK ⟨XpH,XBc,Xyj,Xro,XNc,trivial⟩)
 exact okA ⟨Tryz.f75,rfl,by decide,rfl⟩
def Xpp (Xas:XbL) (Xcy:Xd6) (Xbc:Xct) (s:List UInt8) (src:Xab) (dst:Xab):Option (XaR×(List UInt8)×Int):=
 cond (decide ((s.length:Int)<8))
  (
  some ((XaR.mk 0 0,[],2)))
  (
  (Xas s 4 2).bind fun m=>
  cond (decide (m<8))
   (
   some ((XaR.mk 0 0,[],3)))
   (
   cond (decide ((s.length:Int)<m))
    (
    some ((XaR.mk 0 0,[],2)))
    (
    (Xbc src dst 17 m).bind fun p=>
    cond (p==[])
     (
     some ((XaR.mk 0 0,[],1)))
     (
     (Xas s 6 2).bind fun m1=>
     cond (m1==0)
      (
      cond (src.V6)
       (
       some ((XaR.mk 0 0,[],4)))
       (
       (Xas s 0 2).bind fun m2=>
       (Xas s 2 2).bind fun m3=>
       Xbn (decide ((0:Int)≤m∧m≤(s.length:Int)∧(0:Int)≤(8:Int)∧(8:Int)≤(m.toNat:Int))) <|
       some ((XaR.mk m2 m3,(s.drop 8).take (m.toNat - 8),0))))
      (
      Xbn (decide ((0:Int)≤m∧m≤(s.length:Int))) <|
      Xbn (decide (p.length+(s.take m.toNat).length<2^63)) <|
      (Xcy (p++(s.take m.toNat))).bind fun s1=>
      cond (s1 !=65535)
       (
       some ((XaR.mk 0 0,[],4)))
       (
       (Xas s 0 2).bind fun m4=>
       (Xas s 2 2).bind fun m5=>
       Xbn (decide ((0:Int)≤m∧m≤(s.length:Int)∧(0:Int)≤(8:Int)∧(8:Int)≤(m.toNat:Int))) <|
       some ((XaR.mk m4 m5,(s.drop 8).take (m.toNat - 8),0))))))))
def XDl (x:XaR×(List UInt8)×Int):XcS:=⟨.tuple ⟨[.agg ⟨[.int .i64 x.1.SPort,.int .i64 x.1.DPort]⟩,.string ⟨⟨x.2.1⟩⟩,.int .i64 x.2.2]⟩,[],[]⟩
abbrev Xh3:=(List UInt8)→Xab→Xab→Option (XaR×(List UInt8)×Int)
def r108 (g:Xh3):Dec:=dV asS fun (y0:List UInt8)=>dV Xb5 fun (y1:Xab)=>dV Xb5 fun (y2:Xab)=>XdJ (ofG (g y0 y1 y2) XDl)
theorem XUT {g:Xh3} {y0:List UInt8} {y1:Xab} {y2:Xab} {x:XaR×(List UInt8)×Int} (hx:g y0 y1 y2=some x):r108 g [.string ⟨⟨y0⟩⟩,.agg ⟨[.bool y1.V6,.int .u64 y1.Hi,.int .u64 y1.Lo]⟩,.agg ⟨[.bool y2.V6,.int .u64 y2.Hi,.int .u64 y2.Lo]⟩] []=some (XDl x):=(XaP (XdL)).trans ((XaP (XbO _)).trans ((XaP (XbO _)).trans (XaN hx)))
def s108 (g:Xh3):Xbz:=⟨[.v,.v,.v],r108 g⟩
theorem XME {g:Xh3} {y0:List UInt8} {y1:Xab} {y2:Xab} {x:XaR×(List UInt8)×Int} (hx:g y0 y1 y2=some x):(s108 g).run [.string ⟨⟨y0⟩⟩,.agg ⟨[.bool y1.V6,.int .u64 y1.Hi,.int .u64 y1.Lo]⟩,.agg ⟨[.bool y2.V6,.int .u64 y2.Hi,.int .u64 y2.Lo]⟩] []=some (XDl x):=XUT hx
abbrev XMF (Xas:XbL) (Xcy:Xd6) (Xbc:Xct):List (Nat×Xbz):=[(88,s88 Xas),(86,s86 Xcy),(101,XQP Xbc)]
theorem XCi (Xas:XbL) (Xcy:Xd6) (Xbc:Xct) (hS:Xaj Tryz.prog (XaI (XMF Xas Xcy Xbc))) (s:List UInt8) (src:Xab) (dst:Xab) (res:XaR×(List UInt8)×Int) (h:Xpp Xas Xcy Xbc s src dst=some res) :
 XaJ Tryz.prog 108 0 ⟨⟨108,54,[(0,.string ⟨⟨s⟩⟩),(1,.agg ⟨[.bool src.V6,.int .u64 src.Hi,.int .u64 src.Lo]⟩),(2,.agg ⟨[.bool dst.V6,.int .u64 dst.Hi,.int .u64 dst.Lo]⟩)],[.code Xyp],[],false,none⟩,[],[],0⟩ (fun v H _=>Res 0 (XDl res) v H):=by
 unfold Xpp at h
 have R1:=@XoB Xas
 have R2:=@Xr9 Xbc
 have R3:=@XvE Xcy
 refine Xa7 XaE hS true 3000 ?_
 conv=>whnf
 exact W
def XiZ:Xh3:=Xpp Xas Xcy Xbc
theorem XKx:XbB Tryz.prog 108 (s108 XiZ):=by
 have hL:=XCi Xas Xcy Xbc (Xaj.XaK ⟨Xqe,Xu9,Xro,trivial⟩)
 exact okA ⟨Tryz.f108,rfl,by decide,rfl⟩
end Go.Vm.Code
namespace Go.Vm.Code
open Go Go.Vm
def port (n:Int):Bool:=decide (0≤n∧n≤65535)
theorem port_eq (n:Int):XfK n=some (port n):=by
 unfold XfK Xnn port
 by_cases h:0≤n
 ·rw [XaW h];simp [h]
 ·rw [XaO h];simp [h]
theorem XIh (n:Int):Xkb n=some (port n):=by
 unfold Xkb XrL port
 by_cases h:0≤n
 ·rw [XaW (by omega)];simp [h]
 ·rw [XaO (by omega)];simp [h]
theorem XoZ {n:Int}:port n=true↔0≤n∧n≤65535:=by unfold port;simp
def u8 (h:XaR) (l:List UInt8):List UInt8:=Xc9 h.SPort 2++Xc9 h.DPort 2++Xc9 (8+l.length) 2++[0,0]++l
theorem XyH {h:XaR} {l:List UInt8}:(u8 h l).length≤26+l.length:=by
 have l1:=Xbm h.SPort 2
 have l2:=Xbm h.DPort 2
 have l3:=Xbm (8+l.length) 2
 unfold u8;simp only [List.length_append,List.length_cons,List.length_nil];omega
def ck8 (p t:List UInt8):Int:=if norm (Xic (p++t))=65535 then 65535 else 65535 - (norm (Xic (p++t)):Nat)
def Xuz (h:XaR) (src dst:Xab) (l:List UInt8):List UInt8×Int:=
 if (port h.SPort&&port h.DPort)=false then ([],1) else if XoU src dst 17 (8+l.length)=[] then ([],1) else if 65535<8+l.length then ([],5) else
  (XtG (u8 h l) 6 2 (ck8 (XoU src dst 17 (8+l.length)) (u8 h l)),0)
theorem XOU {p t:List UInt8} (hp:p.length≤2^30) (ht:t.length≤2^30):((XbJ (p++t)).bind fun xo=>cond (xo==0) ((Xa5 t 6 2 65535).bind fun s=>some (s,(0:Int))) ((Xa5 t 6 2 (wI .u64 xo)).bind fun s1=>some (s1,0)))=some (XtG t 6 2 (ck8 p t),0):=by
 have:=norm_le (Xic (p++t))
 rw [XD9 (by simp only [List.length_append];omega),Option.bind_some]
 unfold ck8
 by_cases h:norm (Xic (p++t))=65535
 ·rw [if_pos h,h]
  show ((Xa5 t 6 2 65535).bind _)=_
  rw [Xvl (by omega) (by omega)];rfl
 ·rw [if_neg h,show ((65535 - ((norm (Xic (p++t)):Nat):Int))==0)=false by simp;omega,cond_false,Xgt (by omega) (by omega),Xvl (by omega) (by omega)];rfl
theorem XCc {p t:List UInt8} (hp:p.length≤2^30) (ht:t.length≤2^30):((XeH (p++t)).bind fun xo=>cond (xo==0) ((XcP t 6 2 65535).bind fun s=>some (s,(0:Int))) ((XcP t 6 2 (wI .u64 xo)).bind fun s1=>some (s1,0)))=some (XtG t 6 2 (ck8 p t),0):=by
 have:=norm_le (Xic (p++t))
 rw [Xpz (by simp only [List.length_append];omega),Option.bind_some]
 unfold ck8
 by_cases h:norm (Xic (p++t))=65535
 ·rw [if_pos h,h]
  show ((XcP t 6 2 65535).bind _)=_
  rw [Xmd (by omega) (by omega) (by omega)];rfl
 ·rw [if_neg h,show ((65535 - ((norm (Xic (p++t)):Nat):Int))==0)=false by simp;omega,cond_false,Xgt (by omega) (by omega),Xmd (by omega) (by omega) (by omega)];rfl
theorem XNK {h:XaR} {src dst:Xab} {l:List UInt8} (h1:A4 src) (h2:A4 dst) (hl:l.length<2^20):XiX h src dst l=some (Xuz h src dst l):=by
 unfold XiX Xo9 Xuz
 rw [Xed (n:=8+(l.length:Int)) (by omega) (by omega),XnU h1 h2 (by omega) (by omega),port_eq,port_eq]
 have hp:=Xkk src dst 17 (8+(l.length:Int))
 generalize XoU src dst 17 (8+(l.length:Int))=p at *
 simp only [Option.bind_some]
 cases e1:port h.SPort
 ·rfl
 cases e2:port h.DPort
 ·rfl
 simp only [Bool.not_true,cond_false,Bool.and_self]
 by_cases e3:p=[]
 ·subst e3;rfl
 rw [show (p==[])=false by simpa using e3,cond_false,if_neg (by decide),if_neg e3]
 by_cases e4:8+(l.length:Int)>65535
 ·rw [XaW e4,if_pos (by omega)]
 rw [XaO e4,if_neg (by omega)]
 have p1:=XoZ.1 e1
 have p2:=XoZ.1 e2
 have l1:=Xbm h.SPort 2
 have l2:=Xbm h.DPort 2
 have l3:=Xbm (8+(l.length:Int)) 2
 rw [Xgt p1.1 (by omega),XbH p1.1,Option.bind_some,XaA (by omega)]
 obtain ⟨n,hn⟩:=Xtz
 rw [hn]
 have s1:Xfd XbJ Xa5 Xak h l p 1 (bI (Xc9 h.SPort 2))=some (.inl (2,bI (Xc9 h.SPort 2++Xc9 h.DPort 2))):=by
  unfold Xfd
  rw [XaW (by omega),XaA (by omega)]
  show ((some h.DPort).bind _)=_
  rw [Option.bind_some,Xgt p2.1 (by omega),XbH p2.1,Option.bind_some,XaA (by simp;omega),XqU];rfl
 have s2:Xfd XbJ Xa5 Xak h l p 2 (bI (Xc9 h.SPort 2++Xc9 h.DPort 2))=some (.inl (3,bI (Xc9 h.SPort 2++Xc9 h.DPort 2++Xc9 (8+(l.length:Int)) 2))):=by
  unfold Xfd
  rw [XaW (by omega),XaA (by omega)]
  show ((some (wI .i64 (8+(l.length:Int)))).bind _)=_
  rw [Option.bind_some,Xed (n:=8+(l.length:Int)) (by omega) (by omega),Xgt (by omega) (by omega),XbH (by omega),Option.bind_some,XaA (by simp;omega),XqU (Xc9 h.SPort 2++Xc9 h.DPort 2)];rfl
 have s3:Xfd XbJ Xa5 Xak h l p 3 (bI (Xc9 h.SPort 2++Xc9 h.DPort 2++Xc9 (8+(l.length:Int)) 2))=some (.inl (4,bI (Xc9 h.SPort 2++Xc9 h.DPort 2++Xc9 (8+(l.length:Int)) 2++[0,0]))):=by
  unfold Xfd
  rw [XaW (by omega),XaA (by omega)]
  show ((some (0:Int)).bind _)=_
  rw [Option.bind_some,Xgt (n:=0) (by omega) (by omega),XbH (by omega),Option.bind_some,show Xc9 0 2=[0,0] from rfl,XaA (by simp;omega),XqU (Xc9 h.SPort 2++Xc9 h.DPort 2++Xc9 (8+(l.length:Int)) 2)];rfl
 have s4:Xfd XbJ Xa5 Xak h l p 4 (bI (Xc9 h.SPort 2++Xc9 h.DPort 2++Xc9 (8+(l.length:Int)) 2++[0,0]))=some (.inr (XtG (u8 h l) 6 2 (ck8 p (u8 h l)),0)):=by
  unfold Xfd
  have hu:=XyH (h:=h) (l:=l)
  have e:iB (bI (Xc9 h.SPort 2++Xc9 h.DPort 2++Xc9 (8+(l.length:Int)) 2++[0,0])++bI l)=u8 h l:=by rw [←XqU,XDG];rfl
  rw [XaO (by omega),XaA (by simp only [XIE,List.length_append,List.length_cons,List.length_nil];omega)]
  simp only [e]
  rw [XaA (by simp only [XIE,List.length_append,List.length_cons,List.length_nil];omega),XaA (by omega)]
  have:=XOU (p:=p) (t:=u8 h l) (by omega) (by omega)
  rw [XD9 (by simp only [List.length_append];omega),Option.bind_some] at this ⊢
  cases hx:((65535 - ((norm (Xic (p++u8 h l)):Nat):Int))==0)<;>rw [hx] at this
  ·simp only [cond_false] at this ⊢
   obtain ⟨s,a,b⟩:=XcR.elim this
   cases b
   rw [a,Option.bind_some]
  ·simp only [cond_true] at this ⊢
   obtain ⟨s,a,b⟩:=XcR.elim this
   cases b
   rw [a,Option.bind_some]
 rw [XnD (f:=fun (st:Int×List Int)=>Xfd XbJ Xa5 Xak h l p st.1 st.2) (n:=n+7) s1,XnD (n:=n+6) s2,XnD (n:=n+5) s3,Xvz (n:=n+4) s4]
theorem XE2 {h:XaR} {src dst:Xab} {l:List UInt8} (h1:A4 src) (h2:A4 dst) (hl:l.length<2^20):XiL h src dst l=some (Xuz h src dst l):=by
 unfold XiL Xpr Xuz
 rw [Xed (n:=8+(l.length:Int)) (by omega) (by omega),Xma h1 h2 (by omega) (by omega),XIh,XIh]
 have hp:=Xkk src dst 17 (8+(l.length:Int))
 generalize XoU src dst 17 (8+(l.length:Int))=p at *
 simp only [Option.bind_some]
 cases e1:port h.SPort
 ·rfl
 cases e2:port h.DPort
 ·rfl
 simp only [Bool.not_true,cond_false,Bool.and_self]
 by_cases e3:p=[]
 ·subst e3;rfl
 rw [show (p==[])=false by simpa using e3,cond_false,if_neg (by decide),if_neg e3]
 by_cases e4:8+(l.length:Int)>65535
 ·rw [XaW e4,if_pos (by omega)]
 rw [XaO e4,if_neg (by omega)]
 have p1:=XoZ.1 e1
 have p2:=XoZ.1 e2
 have l1:=Xbm h.SPort 2
 have l2:=Xbm h.DPort 2
 have l3:=Xbm (8+(l.length:Int)) 2
 have hu:=XyH (h:=h) (l:=l)
 rw [Xgt p1.1 (by omega),Xgt p2.1 (by omega),Xgt (n:=8+(l.length:Int)) (by omega) (by omega),Xdq p1.1 (by omega),Xdq p2.1 (by omega),Xdq (n:=8+(l.length:Int)) (by omega) (by omega)]
 simp only [Option.bind_some]
 have e:Xc9 h.SPort 2++Xc9 h.DPort 2++Xc9 (8+(l.length:Int)) 2++[0,0]++l=u8 h l:=rfl
 rw [XaA (by omega),XaA (by simp only [List.length_append];omega),XaA (by simp only [List.length_append];omega),XaA (by simp only [List.length_append,List.length_cons,List.length_nil];omega),e,XaA (by omega)]
 exact XCc (by omega) (by omega)
def v2 (s:List UInt8) (p:Nat):Int:=(Xgf ((s.drop p).take 2):Nat)
theorem XzH (s:List UInt8) (p:Nat):0≤v2 s p∧v2 s p<65536:=by
 have:=XfJ (l:=s.drop p) (k:=2) 65536 (by decide)
 unfold v2;omega
theorem XCe {s:List UInt8} {p:Nat} (hs:s.length<2^61) (h:p+2≤s.length):Xas s (p:Int) 2=some (v2 s p):=by
 rw [XiQ hs,Xju (by omega) (by omega) (by omega) (by omega)]
 have:=XzH s p
 show some (wI .i64 (v2 s p))=_
 rw [Xed (by omega) (by omega)]
theorem XSS {r:Xag} (h:r.made=true) (hl:r.s.length<2^61):Xad r 2=some (rdn r 2,rdr r 2):=by
 rw [Xit h hl,if_neg (by omega)]
theorem Xsa {s:List UInt8} (h:2≤s.length) (hl:s.length<2^61):Xad ⟨s,true,false⟩ 2=some (v2 s 0,⟨s.drop 2,true,false⟩):=by
 rw [XSS rfl hl,Xj2 (by omega) (by omega)]
 unfold rdn
 rw [if_neg (by omega),XjT (by omega) (by omega)];rfl
theorem XLm (s:List UInt8) (p q:Nat):v2 (s.drop p) q=v2 s (p+q):=by unfold v2;rw [List.drop_drop]
def Xs9:XaR:=⟨0,0⟩
def Xkh (s:List UInt8) (src dst:Xab):XaR×List UInt8×Int:=
 if s.length<8 then (Xs9,[],2) else if v2 s 4<8 then (Xs9,[],3) else if (s.length:Int)<v2 s 4 then (Xs9,[],2) else if XoU src dst 17 (v2 s 4)=[] then (Xs9,[],1) else
  if v2 s 6=0 then (if src.V6=true then (Xs9,[],4) else (⟨v2 s 0,v2 s 2⟩,(s.drop 8).take ((v2 s 4).toNat - 8),0)) else
   if norm (Xic (XoU src dst 17 (v2 s 4)++s.take (v2 s 4).toNat))≠65535 then (Xs9,[],4) else (⟨v2 s 0,v2 s 2⟩,(s.drop 8).take ((v2 s 4).toNat - 8),0)
theorem XN7 {s:List UInt8} {src dst:Xab} (h1:A4 src) (h2:A4 dst) (hs:s.length<2^38):XiW s src dst=some (Xkh s src dst):=by
 unfold XiW Xo1 Xkh
 rw [Xqd,Option.bind_some]
 by_cases h8:s.length<8
 ·rw [if_pos h8]
  have m1:=Xio ⟨s,true,false⟩ 2
  have m2:=Xio (rdr ⟨s,true,false⟩ 2) 2
  have m3:=Xio (rdr (rdr ⟨s,true,false⟩ 2) 2) 2
  have m4:=Xio (rdr (rdr (rdr ⟨s,true,false⟩ 2) 2) 2) 2
  have k1:=Xoq ⟨s,true,false⟩ 2
  have k2:=Xoq (rdr ⟨s,true,false⟩ 2) 2
  have k3:=Xoq (rdr (rdr ⟨s,true,false⟩ 2) 2) 2
  simp only at k1
  rw [XSS rfl (by simp only;omega),Option.bind_some]
  rw [XSS m1 (by omega),Option.bind_some]
  rw [XSS m2 (by omega),Option.bind_some]
  rw [XSS m3 (by omega),Option.bind_some,XgJ m4,Option.bind_some]
  have hb:(rdr (rdr (rdr (rdr ⟨s,true,false⟩ 2) 2) 2) 2).bad=true:=by
   cases hb:(rdr (rdr (rdr (rdr ⟨s,true,false⟩ 2) 2) 2) 2).bad
   ·exfalso
    obtain ⟨b3,l3⟩:=Xi8 rfl hb
    obtain ⟨b2,l2⟩:=Xi8 rfl b3
    obtain ⟨b1,l1⟩:=Xi8 rfl b2
    obtain ⟨b0,l0⟩:=Xi8 rfl b1
    simp only at l0
    omega
   ·rfl
  simp only [hb,cond_true];rfl
 ·rw [if_neg h8]
  rw [Xsa (by omega) (by omega),Option.bind_some,Xsa (by simp;omega) (by simp;omega),Option.bind_some]
  simp only [List.drop_drop]
  rw [Xsa (by simp;omega) (by simp;omega),Option.bind_some]
  simp only [List.drop_drop]
  rw [Xsa (by simp;omega) (by simp;omega),Option.bind_some,XgJ rfl,Option.bind_some]
  simp only [cond_false,XLm,Nat.add_zero,Nat.reduceAdd]
  have r4:=XzH s 4
  have hp:=Xkk src dst 17 (v2 s 4)
  have hz:(⟨0,0⟩:XaR)=Xs9:=rfl
  rw [hz]
  generalize hm:v2 s 4=m at *
  by_cases g1:m<8
  ·rw [XaW g1,if_pos g1]
  rw [XaO g1,if_neg g1]
  by_cases g2:(s.length:Int)<m
  ·rw [XaW (by omega),if_pos g2]
  rw [XaO (by omega),if_neg g2,XnU h1 h2 (by omega) (by omega),Option.bind_some]
  generalize XoU src dst 17 m=p at *
  by_cases g3:p=[]
  ·subst g3;rw [if_pos rfl];rfl
  rw [if_neg g3,show (p==[])=false by simpa using g3,cond_false]
  have hr:Xbi (p++s.take m.toNat)=some (((norm (Xic (p++s.take m.toNat)):Nat):Int)==65535):=XrY (by simp;omega)
  by_cases g4:v2 s 6=0
  ·rw [if_pos g4,g4]
   simp only [beq_self_eq_true,cond_true,bne_self_eq_false,cond_false]
   cases src.V6
   ·rw [if_neg (by decide),cond_false,XaA (by omega)]
   ·rw [if_pos rfl,cond_true]
  ·rw [if_neg g4,show (v2 s 6==0)=false by simpa using g4,show (v2 s 6 !=0)=true by simpa using g4]
   simp only [cond_false,cond_true]
   rw [XaA (by omega),XaA (by simp only [List.length_take];omega),hr,Option.bind_some,XaA (by omega)]
   by_cases g5:norm (Xic (p++s.take m.toNat))=65535
   ·rw [if_neg (by simpa using g5),g5];rfl
   ·rw [if_pos (by simpa using g5),show ((((norm (Xic (p++s.take m.toNat)):Nat):Int)==65535))=false by simp;omega];rfl
theorem XDx {s:List UInt8} {src dst:Xab} (h1:A4 src) (h2:A4 dst) (hs:s.length<2^38):XiZ s src dst=some (Xkh s src dst):=by
 unfold XiZ Xpp Xkh
 by_cases h8:s.length<8
 ·rw [if_pos h8,XaW (by omega)];rfl
 rw [if_neg h8,XaO (by omega),show (4:Int)=((4:Nat):Int) from rfl,show (6:Int)=((6:Nat):Int) from rfl,show Xas s 0 2=Xas s ((0:Nat):Int) 2 from rfl,show Xas s 2 2=Xas s ((2:Nat):Int) 2 from rfl,XCe (by omega) (by omega),XCe (by omega) (by omega),XCe (by omega) (by omega),XCe (by omega) (by omega)]
 simp only [Option.bind_some]
 have r4:=XzH s 4
 have hp:=Xkk src dst 17 (v2 s 4)
 have hz:(⟨0,0⟩:XaR)=Xs9:=rfl
 rw [hz]
 generalize hm:v2 s 4=m at *
 by_cases g1:m<8
 ·rw [XaW g1,if_pos g1]
 rw [XaO g1,if_neg g1]
 by_cases g2:(s.length:Int)<m
 ·rw [XaW (by omega),if_pos g2]
 rw [XaO (by omega),if_neg g2,Xma h1 h2 (by omega) (by omega),Option.bind_some]
 generalize XoU src dst 17 m=p at *
 by_cases g3:p=[]
 ·subst g3;rw [if_pos rfl];rfl
 rw [if_neg g3,show (p==[])=false by simpa using g3,cond_false]
 by_cases g4:v2 s 6=0
 ·rw [if_pos g4,g4]
  simp only [beq_self_eq_true,cond_true]
  cases src.V6
  ·rw [if_neg (by decide),cond_false,XaA (by omega)]
  ·rw [if_pos rfl,cond_true]
 ·rw [if_neg g4,show (v2 s 6==0)=false by simpa using g4]
  simp only [cond_false]
  rw [XaA (by omega),XaA (by simp only [List.length_take];omega),Xmi (by simp;omega),Option.bind_some,XaA (by omega)]
  by_cases g5:norm (Xic (p++s.take m.toNat))=65535
  ·rw [if_neg (by simpa using g5),g5];rfl
  ·rw [if_pos (by simpa using g5),show ((((norm (Xic (p++s.take m.toNat)):Nat):Int) !=65535))=true by simp;omega];rfl
end Go.Vm.Code
namespace Go.Vm.Code
open Go Go.Vm Go.Proofs
set_option maxRecDepth 100000
set_option maxHeartbeats 4000000
set_option linter.unusedVariables false
def Xi1 (ha0:XaD):Option Bool:=
 cond (decide (ha0.Bits<0))
  (
  some (false))
  (
  cond (decide (ha0.Bits≥64))
   (
   some (false))
   (
   cond (ha0.Long)
    (
    let t:=if (ha0.SCID.length:Int)>(ha0.DCID.length:Int) then (ha0.SCID.length:Int) else (ha0.DCID.length:Int)
    some (decide (t≤20)))
    (
    cond ((ha0.DCID.length:Int)==8)
     (
     cond (ha0.SCID==[])
      (
      some (ha0.Version==0))
      (
      some (false)))
     (
     some (false)))))
def XFV (x:Bool):XcS:=⟨.bool x,[],[]⟩
abbrev XeD:=XaD→Option Bool
def r186 (g:XeD):Dec:=dV XhI fun (y0:XaD)=>XdJ (ofG (g y0) XFV)
theorem XUL {g:XeD} {y0:XaD} {x:Bool} (hx:g y0=some x):r186 g [.agg ⟨[.bool y0.Long,.int .i64 y0.Bits,.int .u32 y0.Version,.string ⟨⟨y0.DCID⟩⟩,.string ⟨⟨y0.SCID⟩⟩,.string ⟨⟨y0.Rest⟩⟩]⟩] []=some (XFV x):=(XaP (XjE _)).trans (XaN hx)
def s186 (g:XeD):Xbz:=⟨[.v],r186 g⟩
theorem XPP {g:XeD} {y0:XaD} {x:Bool} (hx:g y0=some x):(s186 g).run [.agg ⟨[.bool y0.Long,.int .i64 y0.Bits,.int .u32 y0.Version,.string ⟨⟨y0.DCID⟩⟩,.string ⟨⟨y0.SCID⟩⟩,.string ⟨⟨y0.Rest⟩⟩]⟩] []=some (XFV x):=XUL hx
abbrev XKa:List (Nat×Xbz):=[]
theorem XFg (hS:Xaj Tryz.prog (XaI (XKa))) (ha0:XaD) (res:Bool) (h:Xi1 ha0=some res) :
 XaJ Tryz.prog 186 0 ⟨⟨186,35,[(0,.agg ⟨[.bool ha0.Long,.int .i64 ha0.Bits,.int .u32 ha0.Version,.string ⟨⟨ha0.DCID⟩⟩,.string ⟨⟨ha0.SCID⟩⟩,.string ⟨⟨ha0.Rest⟩⟩]⟩)],[.code Xx5],[],false,none⟩,[],[],0⟩ (fun v H _=>Res 0 (XFV res) v H):=by
 unfold Xi1 at h
 refine Xa7 XaE hS true 3000 ?_
 conv=>whnf
 exact W
def Xdt:XeD:=Xi1
theorem XKq:XbB Tryz.prog 186 (s186 Xdt):=by
 have hL:=XFg (Xaj.XaK trivial)
 exact okA ⟨Tryz.f186,rfl,by decide,rfl⟩
def XjF (Xak:XaY) (ida0:List UInt8):Option (List UInt8):=
 (Xak (wI .u64 (ida0.length:Int)) 1).bind fun p=>
 Xbn (decide (p.length+ida0.length<2^63)) <|
 some (p++ida0)
def XGC (x:List UInt8):XcS:=⟨.string ⟨⟨x⟩⟩,[],[]⟩
abbrev XeP:=(List UInt8)→Option (List UInt8)
def r187 (g:XeP):Dec:=dV asS fun (y0:List UInt8)=>XdJ (ofG (g y0) XGC)
theorem XSc {g:XeP} {y0:List UInt8} {x:List UInt8} (hx:g y0=some x):r187 g [.string ⟨⟨y0⟩⟩] []=some (XGC x):=(XaP (XdL)).trans (XaN hx)
def s187 (g:XeP):Xbz:=⟨[.v],r187 g⟩
theorem XKM {g:XeP} {y0:List UInt8} {x:List UInt8} (hx:g y0=some x):(s187 g).run [.string ⟨⟨y0⟩⟩] []=some (XGC x):=XSc hx
abbrev XNV (Xak:XaY):List (Nat×Xbz):=[(97,s97 Xak)]
theorem XEy (Xak:XaY) (hS:Xaj Tryz.prog (XaI (XNV Xak))) (ida0:List UInt8) (res:List UInt8) (h:XjF Xak ida0=some res) :
 XaJ Tryz.prog 187 0 ⟨⟨187,9,[(0,.string ⟨⟨ida0⟩⟩)],[.code XJq],[],false,none⟩,[],[],0⟩ (fun v H _=>Res 0 (XGC res) v H):=by
 unfold XjF at h
 have R1:=@Xl3 Xak
 refine Xa7 XaE hS true 3000 ?_
 conv=>whnf
 exact W
def XdI:XeP:=XjF Xak
theorem XOa:XbB Tryz.prog 187 (s187 XdI):=by
 have hL:=XEy Xak (Xaj.XaK ⟨Xnh,trivial⟩)
 exact okA ⟨Tryz.f187,rfl,by decide,rfl⟩
def XnQ (Xak:XaY) (Xdt:XeD) (XdI:XeP) (ha0:XaD):Option ((List UInt8)×Int):=
 (Xdt ha0).bind fun m=>
 cond (!m)
  (
  some (([],1)))
  (
  cond (ha0.Long)
   (
   (Xak (wI .u64 (XlD .i64 192 ha0.Bits)) 1).bind fun p=>
   (Xak (wI .u64 ha0.Version) 4).bind fun p1=>
   Xbn (decide (p.length+p1.length<2^63)) <|
   (XdI ha0.DCID).bind fun c=>
   Xbn (decide ((p++p1).length+c.length<2^63)) <|
   (XdI ha0.SCID).bind fun c1=>
   Xbn (decide (((p++p1)++c).length+c1.length<2^63)) <|
   Xbn (decide ((((p++p1)++c)++c1).length+ha0.Rest.length<2^63)) <|
   some (((((p++p1)++c)++c1)++ha0.Rest,0)))
   (
   (Xak (wI .u64 (XlD .i64 64 ha0.Bits)) 1).bind fun p2=>
   Xbn (decide (p2.length+ha0.DCID.length<2^63)) <|
   Xbn (decide ((p2++ha0.DCID).length+ha0.Rest.length<2^63)) <|
   some (((p2++ha0.DCID)++ha0.Rest,0))))
def XDr (x:(List UInt8)×Int):XcS:=⟨.tuple ⟨[.string ⟨⟨x.1⟩⟩,.int .i64 x.2]⟩,[],[]⟩
abbrev Xg3:=XaD→Option ((List UInt8)×Int)
def r162 (g:Xg3):Dec:=dV XhI fun (y0:XaD)=>XdJ (ofG (g y0) XDr)
theorem XU8 {g:Xg3} {y0:XaD} {x:(List UInt8)×Int} (hx:g y0=some x):r162 g [.agg ⟨[.bool y0.Long,.int .i64 y0.Bits,.int .u32 y0.Version,.string ⟨⟨y0.DCID⟩⟩,.string ⟨⟨y0.SCID⟩⟩,.string ⟨⟨y0.Rest⟩⟩]⟩] []=some (XDr x):=(XaP (XjE _)).trans (XaN hx)
def s162 (g:Xg3):Xbz:=⟨[.v],r162 g⟩
theorem XM8 {g:Xg3} {y0:XaD} {x:(List UInt8)×Int} (hx:g y0=some x):(s162 g).run [.agg ⟨[.bool y0.Long,.int .i64 y0.Bits,.int .u32 y0.Version,.string ⟨⟨y0.DCID⟩⟩,.string ⟨⟨y0.SCID⟩⟩,.string ⟨⟨y0.Rest⟩⟩]⟩] []=some (XDr x):=XU8 hx
abbrev XLl (Xak:XaY) (Xdt:XeD) (XdI:XeP):List (Nat×Xbz):=[(97,s97 Xak),(186,s186 Xdt),(187,s187 XdI)]
theorem XEi (Xak:XaY) (Xdt:XeD) (XdI:XeP) (hS:Xaj Tryz.prog (XaI (XLl Xak Xdt XdI))) (ha0:XaD) (res:(List UInt8)×Int) (h:XnQ Xak Xdt XdI ha0=some res) :
 XaJ Tryz.prog 162 0 ⟨⟨162,43,[(0,.agg ⟨[.bool ha0.Long,.int .i64 ha0.Bits,.int .u32 ha0.Version,.string ⟨⟨ha0.DCID⟩⟩,.string ⟨⟨ha0.SCID⟩⟩,.string ⟨⟨ha0.Rest⟩⟩]⟩)],[.code Xx4],[],false,none⟩,[],[],0⟩ (fun v H _=>Res 0 (XDr res) v H):=by
 unfold XnQ at h
 have R1:=@XPP Xdt
 have R2:=@Xl3 Xak
 have R3:=@XKM XdI
 refine Xa7 XaE hS true 3000 ?_
 conv=>whnf
 exact W
def Xha:Xg3:=XnQ Xak Xdt XdI
theorem XMG:XbB Tryz.prog 162 (s162 Xha):=by
 have hL:=XEi Xak Xdt XdI (Xaj.XaK ⟨Xnh,XKq,XOa,trivial⟩)
 exact okA ⟨Tryz.f162,rfl,by decide,rfl⟩
def XgM (Xai:XaM) (Xaf:XaB) (ra0:Xag):Option ((List UInt8)×Xag):=
 (Xai ra0).bind fun b=>
 cond (b.1)
  (
  some (([],b.2)))
  (
  (Xaf b.2 (b.2.s.length:Int)).bind fun t=>
  some ((t.1,t.2)))
def XFl (x:(List UInt8)×Xag):XcS:=⟨.string ⟨⟨x.1⟩⟩,[],[some [.string ⟨⟨x.2.s⟩⟩,.bool x.2.made,.bool x.2.bad]]⟩
abbrev Xc1:=Xag→Option ((List UInt8)×Xag)
def r139 (g:Xc1):Dec:=dPt 0 Xei fun (y0:Xag)=>XdJ (ofG (g y0) XFl)
theorem XTC {g:Xc1} {y0:Xag} {x:(List UInt8)×Xag} (hx:g y0=some x):r139 g [.pointer (some ⟨0,0,none⟩)] [some [.string ⟨⟨y0.s⟩⟩,.bool y0.made,.bool y0.bad]]=some (XFl x):=(Xhm (XgB _)).trans (XaN hx)
def s139 (g:Xc1):Xbz:=⟨[.pt 3],r139 g⟩
theorem XNF {g:Xc1} {y0:Xag} {x:(List UInt8)×Xag} (hx:g y0=some x):(s139 g).run [.pointer (some ⟨0,0,none⟩)] [some [.string ⟨⟨y0.s⟩⟩,.bool y0.made,.bool y0.bad]]=some (XFl x):=XTC hx
abbrev XLA (Xai:XaM) (Xaf:XaB):List (Nat×Xbz):=[(138,XIN Xai),(129,XBJ Xaf)]
theorem XGF (Xai:XaM) (Xaf:XaB) (hS:Xaj Tryz.prog (XaI (XLA Xai Xaf))) (ra0:Xag) (res:(List UInt8)×Xag) (h:XgM Xai Xaf ra0=some res) :
 XaJ Tryz.prog 139 1 ⟨⟨139,12,[(0,.pointer (some ⟨0,0,none⟩))],[.code XIf],[],false,none⟩,[],[(0,.cells [.string ⟨⟨ra0.s⟩⟩,.bool ra0.made,.bool ra0.bad])],1⟩ (fun v H _=>Res 1 (XFl res) v H):=by
 unfold XgM at h
 have R1:=@Xm7 Xai
 have R2:=@XlJ Xaf
 refine Xa7 XaE hS true 3000 ?_
 conv=>whnf
 exact W
def Xb3:Xc1:=XgM Xai Xaf
theorem XNI:XbB Tryz.prog 139 (s139 Xb3):=by
 have hL:=XGF Xai Xaf (Xaj.XaK ⟨Xoe,XlX,trivial⟩)
 exact okA ⟨Tryz.f139,rfl,by decide,rfl⟩
def XnR (Xai:XaM) (Xad:XaL) (Xaf:XaB) (ra0:Xag):Option ((List UInt8)×Int×Xag):=
 (Xad ra0 1).bind fun n=>
 (Xai n.2).bind fun b=>
 cond (!b.1)
  (
  cond (decide (n.1>20))
   (
   some (([],3,b.2)))
   (
   (Xaf b.2 n.1).bind fun t=>
   (Xai t.2).bind fun b1=>
   cond (b1.1)
    (
    some (([],2,b1.2)))
    (
    some ((t.1,0,b1.2)))))
  (
  (Xaf b.2 n.1).bind fun t1=>
  (Xai t1.2).bind fun b2=>
  cond (b2.1)
   (
   some (([],2,b2.2)))
   (
   some ((t1.1,0,b2.2))))
def XDm (x:(List UInt8)×Int×Xag):XcS:=⟨.tuple ⟨[.string ⟨⟨x.1⟩⟩,.int .i64 x.2.1]⟩,[],[some [.string ⟨⟨x.2.2.s⟩⟩,.bool x.2.2.made,.bool x.2.2.bad]]⟩
abbrev XhT:=Xag→Option ((List UInt8)×Int×Xag)
def r141 (g:XhT):Dec:=dPt 0 Xei fun (y0:Xag)=>XdJ (ofG (g y0) XDm)
theorem XSW {g:XhT} {y0:Xag} {x:(List UInt8)×Int×Xag} (hx:g y0=some x):r141 g [.pointer (some ⟨0,0,none⟩)] [some [.string ⟨⟨y0.s⟩⟩,.bool y0.made,.bool y0.bad]]=some (XDm x):=(Xhm (XgB _)).trans (XaN hx)
def s141 (g:XhT):Xbz:=⟨[.pt 3],r141 g⟩
theorem Xx8 {g:XhT} {y0:Xag} {x:(List UInt8)×Int×Xag} (hx:g y0=some x):(s141 g).run [.pointer (some ⟨0,0,none⟩)] [some [.string ⟨⟨y0.s⟩⟩,.bool y0.made,.bool y0.bad]]=some (XDm x):=XSW hx
abbrev XLV (Xai:XaM) (Xad:XaL) (Xaf:XaB):List (Nat×Xbz):=[(138,XIN Xai),(78,s78 Xad),(129,XBJ Xaf)]
theorem XEj (Xai:XaM) (Xad:XaL) (Xaf:XaB) (hS:Xaj Tryz.prog (XaI (XLV Xai Xad Xaf))) (ra0:Xag) (res:(List UInt8)×Int×Xag) (h:XnR Xai Xad Xaf ra0=some res) :
 XaJ Tryz.prog 141 1 ⟨⟨141,21,[(0,.pointer (some ⟨0,0,none⟩))],[.code Xy5],[],false,none⟩,[],[(0,.cells [.string ⟨⟨ra0.s⟩⟩,.bool ra0.made,.bool ra0.bad])],1⟩ (fun v H _=>Res 1 (XDm res) v H):=by
 unfold XnR at h
 have R1:=@XmI Xad
 have R2:=@Xm7 Xai
 have R3:=@XlJ Xaf
 refine Xa7 XaE hS true 3000 ?_
 conv=>whnf
 exact W
def XhJ:XhT:=XnR Xai Xad Xaf
theorem XNf:XbB Tryz.prog 141 (s141 XhJ):=by
 have hL:=XEj Xai Xad Xaf (Xaj.XaK ⟨Xoe,XqP,XlX,trivial⟩)
 exact okA ⟨Tryz.f141,rfl,by decide,rfl⟩
def XnH (Xbd:Xcl) (Xai:XaM) (Xad:XaL) (Xb3:Xc1) (Xaf:XaB) (XhJ:XhT) (s:List UInt8):Option (XaD×Int):=
 (Xbd s).bind fun n=>
 (Xad n 1).bind fun n1=>
 (Xai n1.2).bind fun b=>
 cond (b.1)
  (
  some ((XaD.mk false 0 0 [] [] [],2)))
  (
  cond ((XnT .i64 n1.1 64)==0)
   (
   some ((XaD.mk false 0 0 [] [] [],3)))
   (
   cond (!((XnT .i64 n1.1 128) !=0))
    (
    (Xaf b.2 8).bind fun t=>
    (Xai t.2).bind fun b1=>
    cond (b1.1)
     (
     some ((XaD.mk false 0 0 [] [] [],2)))
     (
     (Xb3 b1.2).bind fun xr=>
     some ((XaD.mk ((XnT .i64 n1.1 128) !=0) (XnT .i64 n1.1 63) 0 t.1 [] xr.1,0))))
    (
    (Xad b.2 4).bind fun n2=>
    (XhJ n2.2).bind fun i=>
    cond (i.2.1 !=0)
     (
     some ((XaD.mk false 0 0 [] [] [],i.2.1)))
     (
     (XhJ i.2.2).bind fun i1=>
     cond (i1.2.1 !=0)
      (
      some ((XaD.mk false 0 0 [] [] [],i1.2.1)))
      (
      (Xb3 i1.2.2).bind fun xr1=>
      some ((XaD.mk ((XnT .i64 n1.1 128) !=0) (XnT .i64 n1.1 63) (wI .u32 n2.1) i.1 i1.1 xr1.1,0)))))))
def rx94 (x:XaD×Int):XcS:=⟨.tuple ⟨[.agg ⟨[.bool x.1.Long,.int .i64 x.1.Bits,.int .u32 x.1.Version,.string ⟨⟨x.1.DCID⟩⟩,.string ⟨⟨x.1.SCID⟩⟩,.string ⟨⟨x.1.Rest⟩⟩]⟩,.int .i64 x.2]⟩,[],[]⟩
abbrev Xfk:=(List UInt8)→Option (XaD×Int)
def r94 (g:Xfk):Dec:=dV asS fun (y0:List UInt8)=>XdJ (ofG (g y0) rx94)
theorem r94_c {g:Xfk} {y0:List UInt8} {x:XaD×Int} (hx:g y0=some x):r94 g [.string ⟨⟨y0⟩⟩] []=some (rx94 x):=(XaP (XdL)).trans (XaN hx)
def s94 (g:Xfk):Xbz:=⟨[.v],r94 g⟩
theorem XHW {g:Xfk} {y0:List UInt8} {x:XaD×Int} (hx:g y0=some x):(s94 g).run [.string ⟨⟨y0⟩⟩] []=some (rx94 x):=r94_c hx
abbrev XRp (Xbd:Xcl) (Xai:XaM) (Xad:XaL) (Xb3:Xc1) (Xaf:XaB) (XhJ:XhT):List (Nat×Xbz):=[(77,s77 Xbd),(138,XIN Xai),(78,s78 Xad),(139,s139 Xb3),(129,XBJ Xaf),(141,s141 XhJ)]
theorem XOc (Xbd:Xcl) (Xai:XaM) (Xad:XaL) (Xb3:Xc1) (Xaf:XaB) (XhJ:XhT) (hS:Xaj Tryz.prog (XaI (XRp Xbd Xai Xad Xb3 Xaf XhJ))) (s:List UInt8) (res:XaD×Int) (h:XnH Xbd Xai Xad Xb3 Xaf XhJ s=some res) :
 XaJ Tryz.prog 94 0 ⟨⟨94,60,[(0,.string ⟨⟨s⟩⟩)],[.code XIP],[],false,none⟩,[],[],0⟩ (fun v H _=>Res 0 (rx94 res) v H):=by
 unfold XnH at h
 have R1:=@XlJ Xaf
 have R2:=@Xm7 Xai
 have R3:=@XNF Xb3
 refine Xa7 XaE hS true 3000 ?_
 conv=>whnf
 replace h:=XcR.elim h;obtain ⟨n,hy,h⟩:=h
 refine Xgw.a (XtD hy) ?_
 conv=>whnf
 replace h:=XcR.elim h;obtain ⟨n1,hy,h⟩:=h
 refine Xgw.a (XmI hy) ?_
 conv=>whnf
 replace h:=XcR.elim h;obtain ⟨b,hy,h⟩:=h
 refine Xgw.a (Xm7 hy) ?_
 conv=>whnf
 refine br.h h (by rfl) ?_ ?_
 ·clear h;intro hb h;conv=>whnf
  exact W
 clear h;intro hb h;conv=>whnf
 refine br.h h (by rfl) ?_ ?_
 ·clear h;intro hb h;conv=>whnf
  exact W
 clear h;intro hb h;conv=>whnf
 refine br.h h (by rfl) ?_ ?_
 ·clear h;intro hb h;conv=>whnf
  exact W
 clear h;intro hb h;conv=>whnf
 replace h:=XcR.elim h;obtain ⟨n2,hy,h⟩:=h
 refine Xgw.a (XmI hy) ?_
 conv=>whnf
 refine Xa7 XaE hS true 3000 ?_
 conv=>whnf
 replace h:=XcR.elim h;obtain ⟨i,hy,h⟩:=h
 refine Xgw.a (Xx8 hy) ?_
 conv=>whnf
 refine br.h h (by rfl) ?_ ?_
 ·clear h;intro hb h;conv=>whnf
  refine br.pos ?_ ?_;(focus (clear h;first|assumption|(simp_all;done)))
  conv=>whnf
  exact W
 clear h;intro hb h;conv=>whnf
 refine Xa7 XaE hS true 3000 ?_
 conv=>whnf
 replace h:=XcR.elim h;obtain ⟨i1,hy,h⟩:=h
 refine Xgw.a (Xx8 hy) ?_
 conv=>whnf
 refine br.h h (by rfl) ?_ ?_
 ·clear h;intro hb h;conv=>whnf
  refine br.pos ?_ ?_;(focus (clear h;first|assumption|(simp_all;done)))
  conv=>whnf
  exact W
 clear h;intro hb h;conv=>whnf
 refine Xa7 XaE hS true 3000 ?_
 conv=>whnf
 exact W
def Xev:Xfk:=XnH Xbd Xai Xad Xb3 Xaf XhJ
theorem XI2:XbB Tryz.prog 94 (s94 Xev):=by
 have hL:=XOc Xbd Xai Xad Xb3 Xaf XhJ (Xaj.XaK ⟨XsS,Xoe,XqP,XNI,XlX,XNf,trivial⟩)
 exact okA ⟨Tryz.f94,rfl,by decide,rfl⟩
def Xo3 (Xa3:Xck) (ha0:XaD):Option ((List UInt8)×Int):=
 cond (decide (ha0.Bits<0))
  (
  some (([],1)))
  (
  cond (decide (ha0.Bits>63))
   (
   some (([],1)))
   (
   cond (ha0.Long)
    (
    cond (decide ((ha0.DCID.length:Int)>20))
     (
     some (([],1)))
     (
     cond (decide ((ha0.SCID.length:Int)>20))
      (
      some (([],1)))
      (
      (Xa3 (wI .u64 (wI .i64 (192+ha0.Bits))) 1).bind fun p=>
      (Xa3 (wI .u64 ha0.Version) 4).bind fun p1=>
      Xbn (decide (p.length+p1.length<2^63)) <|
      (Xa3 (wI .u64 (ha0.DCID.length:Int)) 1).bind fun p2=>
      Xbn (decide ((p++p1).length+p2.length<2^63)) <|
      Xbn (decide (((p++p1)++p2).length+ha0.DCID.length<2^63)) <|
      (Xa3 (wI .u64 (ha0.SCID.length:Int)) 1).bind fun p3=>
      Xbn (decide ((((p++p1)++p2)++ha0.DCID).length+p3.length<2^63)) <|
      Xbn (decide (((((p++p1)++p2)++ha0.DCID)++p3).length+ha0.SCID.length<2^63)) <|
      let t:=((((p++p1)++p2)++ha0.DCID)++p3)++ha0.SCID
      Xbn (decide (t.length+ha0.Rest.length<2^63)) <|
      some ((t++ha0.Rest,0)))))
    (
    cond ((ha0.DCID.length:Int) !=8)
     (
     some (([],1)))
     (
     cond (!(ha0.SCID==[]))
      (
      some (([],1)))
      (
      cond (ha0.Version !=0)
       (
       some (([],1)))
       (
       (Xa3 (wI .u64 (wI .i64 (64+ha0.Bits))) 1).bind fun p4=>
       Xbn (decide (p4.length+ha0.DCID.length<2^63)) <|
       Xbn (decide ((p4++ha0.DCID).length+ha0.Rest.length<2^63)) <|
       some (((p4++ha0.DCID)++ha0.Rest,0))))))))
def rx43 (x:(List UInt8)×Int):XcS:=⟨.tuple ⟨[.string ⟨⟨x.1⟩⟩,.int .i64 x.2]⟩,[],[]⟩
abbrev XfX:=XaD→Option ((List UInt8)×Int)
def r43 (g:XfX):Dec:=dV XhI fun (y0:XaD)=>XdJ (ofG (g y0) rx43)
theorem r43_c {g:XfX} {y0:XaD} {x:(List UInt8)×Int} (hx:g y0=some x):r43 g [.agg ⟨[.bool y0.Long,.int .i64 y0.Bits,.int .u32 y0.Version,.string ⟨⟨y0.DCID⟩⟩,.string ⟨⟨y0.SCID⟩⟩,.string ⟨⟨y0.Rest⟩⟩]⟩] []=some (rx43 x):=(XaP (XjE _)).trans (XaN hx)
def s43 (g:XfX):Xbz:=⟨[.v],r43 g⟩
theorem XIO {g:XfX} {y0:XaD} {x:(List UInt8)×Int} (hx:g y0=some x):(s43 g).run [.agg ⟨[.bool y0.Long,.int .i64 y0.Bits,.int .u32 y0.Version,.string ⟨⟨y0.DCID⟩⟩,.string ⟨⟨y0.SCID⟩⟩,.string ⟨⟨y0.Rest⟩⟩]⟩] []=some (rx43 x):=r43_c hx
abbrev XTy (Xa3:Xck):List (Nat×Xbz):=[(63,s63 Xa3)]
theorem XPg (Xa3:Xck) (hS:Xaj Tryz.prog (XaI (XTy Xa3))) (ha0:XaD) (res:(List UInt8)×Int) (h:Xo3 Xa3 ha0=some res) :
 XaJ Tryz.prog 43 0 ⟨⟨43,80,[(0,.agg ⟨[.bool ha0.Long,.int .i64 ha0.Bits,.int .u32 ha0.Version,.string ⟨⟨ha0.DCID⟩⟩,.string ⟨⟨ha0.SCID⟩⟩,.string ⟨⟨ha0.Rest⟩⟩]⟩)],[.code XJc],[],false,none⟩,[],[],0⟩ (fun v H _=>Res 0 (rx43 res) v H):=by
 unfold Xo3 at h
 have R1:=@Xpy Xa3
 refine Xa7 XaE hS true 3000 ?_
 conv=>whnf
 exact W
def Xe8:XfX:=Xo3 Xa3
theorem XJJ:XbB Tryz.prog 43 (s43 Xe8):=by
 have hL:=XPg Xa3 (Xaj.XaK ⟨XpH,trivial⟩)
 exact okA ⟨Tryz.f43,rfl,by decide,rfl⟩
def XrZ (s:List UInt8) (ata1:Int):Option ((List UInt8)×Int×Int):=
 cond (decide (ata1≥(s.length:Int)))
  (
  some (([],2,0)))
  (
  Xbn (decide (0≤ata1)) <|
  (s[ata1.toNat]?).bind fun (b:UInt8)=>
  cond (decide ((wI .i64 (b.toNat:Int))>20))
   (
   some (([],3,0)))
   (
   let t:=wI .i64 ((wI .i64 ((s.length:Int) - ata1)) - 1)
   cond (decide ((wI .i64 (b.toNat:Int))>t))
    (
    some (([],2,0)))
    (
    let t1:=wI .i64 ((wI .i64 (ata1+1))+(wI .i64 (b.toNat:Int)))
    Xbn (decide ((0:Int)≤t1∧t1≤(s.length:Int)∧(0:Int)≤(wI .i64 (ata1+1))∧(wI .i64 (ata1+1))≤(t1.toNat:Int))) <|
    let t2:=(s.drop (wI .i64 (ata1+1)).toNat).take (t1.toNat - (wI .i64 (ata1+1)).toNat)
    let t3:=wI .i64 ((wI .i64 (ata1+1))+(wI .i64 (b.toNat:Int)))
    some ((t2,0,t3)))))
def XCZ (x:(List UInt8)×Int×Int):XcS:=⟨.tuple ⟨[.string ⟨⟨x.1⟩⟩,.int .i64 x.2.1,.int .i64 x.2.2]⟩,[],[]⟩
abbrev Xjl:=(List UInt8)→Int→Option ((List UInt8)×Int×Int)
def r126 (g:Xjl):Dec:=dV asS fun (y0:List UInt8)=>dV (asI .i64) fun (y1:Int)=>XdJ (ofG (g y0 y1) XCZ)
theorem XSa {g:Xjl} {y0:List UInt8} {y1:Int} {x:(List UInt8)×Int×Int} (hx:g y0 y1=some x):r126 g [.string ⟨⟨y0⟩⟩,.int .i64 y1] []=some (XCZ x):=(XaP (XdL)).trans ((XaP (Xen _)).trans (XaN hx))
def s126 (g:Xjl):Xbz:=⟨[.v,.v],r126 g⟩
theorem XKi {g:Xjl} {y0:List UInt8} {y1:Int} {x:(List UInt8)×Int×Int} (hx:g y0 y1=some x):(s126 g).run [.string ⟨⟨y0⟩⟩,.int .i64 y1] []=some (XCZ x):=XSa hx
abbrev XOK:List (Nat×Xbz):=[]
theorem XDj (hS:Xaj Tryz.prog (XaI (XOK))) (s:List UInt8) (ata1:Int) (res:(List UInt8)×Int×Int) (h:XrZ s ata1=some res) :
 XaJ Tryz.prog 126 0 ⟨⟨126,37,[(0,.string ⟨⟨s⟩⟩),(1,.int .i64 ata1)],[.code Xx1],[],false,none⟩,[],[],0⟩ (fun v H _=>Res 0 (XCZ res) v H):=by
 unfold XrZ at h
 refine Xa7 XaE hS true 3000 ?_
 conv=>whnf
 exact W
def Xkg:Xjl:=XrZ
theorem XO4:XbB Tryz.prog 126 (s126 Xkg):=by
 have hL:=XDj (Xaj.XaK trivial)
 exact okA ⟨Tryz.f126,rfl,by decide,rfl⟩
def Xpe (Xas:XbL) (Xkg:Xjl) (s:List UInt8):Option (XaD×Int):=
 cond (s==[])
  (
  some ((XaD.mk false 0 0 [] [] [],2)))
  (
  (s[0]?).bind fun (b:UInt8)=>
  let t:=(wI .u8 ((b.toNat:Int).tdiv 64)).tmod 2
  cond (t==0)
   (
   some ((XaD.mk false 0 0 [] [] [],3)))
   (
   (s[0]?).bind fun (b1:UInt8)=>
   (s[0]?).bind fun (b2:UInt8)=>
   cond (!(decide ((b1.toNat:Int)≥128)))
    (
    cond (decide ((s.length:Int)<9))
     (
     some ((XaD.mk false 0 0 [] [] [],2)))
     (
     Xbn (decide ((0:Int)≤(9:Int)∧(9:Int)≤(s.length:Int)∧(0:Int)≤(1:Int)∧(1:Int)≤(9:Int))) <|
     Xbn (decide ((0:Int)≤(9:Int)∧(9:Int)≤(s.length:Int))) <|
     some ((XaD.mk (decide ((b1.toNat:Int)≥128)) (wI .i64 ((b2.toNat:Int).tmod 64)) 0 ((s.drop 1).take 8) [] ((s.drop 9).take (s.length - 9)),0))))
    (
    cond (decide ((s.length:Int)<5))
     (
     some ((XaD.mk false 0 0 [] [] [],2)))
     (
     (Xas s 1 4).bind fun m=>
     (Xkg s 5).bind fun i=>
     cond (i.2.1 !=0)
      (
      some ((XaD.mk false 0 0 [] [] [],i.2.1)))
      (
      (Xkg s i.2.2).bind fun i1=>
      cond (i1.2.1 !=0)
       (
       some ((XaD.mk false 0 0 [] [] [],i1.2.1)))
       (
       Xbn (decide ((0:Int)≤i1.2.2∧i1.2.2≤(s.length:Int))) <|
       let t1:=(s.drop i1.2.2.toNat).take (s.length - i1.2.2.toNat)
       some ((XaD.mk (decide ((b1.toNat:Int)≥128)) (wI .i64 ((b2.toNat:Int).tmod 64)) (wI .u32 m) i.1 i1.1 t1,0))))))))
def rx74 (x:XaD×Int):XcS:=⟨.tuple ⟨[.agg ⟨[.bool x.1.Long,.int .i64 x.1.Bits,.int .u32 x.1.Version,.string ⟨⟨x.1.DCID⟩⟩,.string ⟨⟨x.1.SCID⟩⟩,.string ⟨⟨x.1.Rest⟩⟩]⟩,.int .i64 x.2]⟩,[],[]⟩
abbrev XfW:=(List UInt8)→Option (XaD×Int)
def r74 (g:XfW):Dec:=dV asS fun (y0:List UInt8)=>XdJ (ofG (g y0) rx74)
theorem r74_c {g:XfW} {y0:List UInt8} {x:XaD×Int} (hx:g y0=some x):r74 g [.string ⟨⟨y0⟩⟩] []=some (rx74 x):=(XaP (XdL)).trans (XaN hx)
def s74 (g:XfW):Xbz:=⟨[.v],r74 g⟩
theorem XIg {g:XfW} {y0:List UInt8} {x:XaD×Int} (hx:g y0=some x):(s74 g).run [.string ⟨⟨y0⟩⟩] []=some (rx74 x):=r74_c hx
abbrev XTe (Xas:XbL) (Xkg:Xjl):List (Nat×Xbz):=[(88,s88 Xas),(126,s126 Xkg)]
theorem XPa (Xas:XbL) (Xkg:Xjl) (hS:Xaj Tryz.prog (XaI (XTe Xas Xkg))) (s:List UInt8) (res:XaD×Int) (h:Xpe Xas Xkg s=some res) :
 XaJ Tryz.prog 74 0 ⟨⟨74,79,[(0,.string ⟨⟨s⟩⟩)],[.code XI5],[],false,none⟩,[],[],0⟩ (fun v H _=>Res 0 (rx74 res) v H):=by
 unfold Xpe at h
 have R1:=@XoB Xas
 have R2:=@XKi Xkg
 refine Xa7 XaE hS true 3000 ?_
 conv=>whnf
 exact W
def Xe6:XfW:=Xpe Xas Xkg
theorem XIa:XbB Tryz.prog 74 (s74 Xe6):=by
 have hL:=XPa Xas Xkg (Xaj.XaK ⟨Xqe,XO4,trivial⟩)
 exact okA ⟨Tryz.f74,rfl,by decide,rfl⟩
end Go.Vm.Code
namespace Go.Vm.Code
open Go Go.Vm
def HOK (h:XaD):Prop:=(0≤h.Bits∧h.Bits<64)∧if h.Long=true then h.DCID.length≤20∧h.SCID.length≤20 else h.DCID.length=8∧h.SCID=[]∧h.Version=0
instance (h:XaD):Decidable (HOK h):=by unfold HOK;exact inferInstance
def XoN (h:XaD):List UInt8:=if h.Long=true then be (192+h.Bits.toNat) 1++be h.Version.toNat 4++(be h.DCID.length 1++h.DCID)++(be h.SCID.length 1++h.SCID)++h.Rest else be (64+h.Bits.toNat) 1++h.DCID++h.Rest
def XBR (h:XaD):List UInt8×Int:=if HOK h then (XoN h,0) else ([],1)
theorem XEG:∀ b:Fin 64,XlD .i64 192 ((b.val:Nat):Int)=((192+b.val:Nat):Int)∧XlD .i64 64 ((b.val:Nat):Int)=((64+b.val:Nat):Int):=by decide +kernel
theorem XM3 (h:XaD):Xdt h=some (decide (HOK h)):=by
 unfold Xdt Xi1
 by_cases h1:h.Bits<0
 ·rw [XaW h1,decide_eq_false (p:=HOK h) (fun q=>by have:=q.1.1;omega)]
 by_cases h2:h.Bits≥64
 ·rw [XaO h1,XaW h2,decide_eq_false (p:=HOK h) (fun q=>by have:=q.1.2;omega)]
 rw [XaO h1,XaO h2]
 cases hl:h.Long with
 | true=>
   rw [cond_true]
   simp only []
   congr 1
   rw [decide_eq_decide]
   unfold HOK
   rw [if_pos hl]
   split<;>constructor<;>intro q<;>omega
 | false=>
   have nl:¬ h.Long=true:=by rw [hl];simp
   rw [cond_false]
   by_cases h3:h.DCID.length=8
   ·have:(((h.DCID.length:Nat):Int)==8)=true:=by rw [beq_iff_eq];omega
    rw [this,cond_true]
    by_cases h4:h.SCID=[]
    ·have:(h.SCID==[])=true:=by rw [beq_iff_eq];exact h4
     rw [this,cond_true]
     congr 1
     rw [Bool.eq_iff_iff,beq_iff_eq,decide_eq_true_eq]
     unfold HOK
     rw [if_neg nl]
     exact ⟨fun q=>⟨by omega,h3,h4,q⟩,fun q=>q.2.2.2⟩
    ·have:(h.SCID==[])=false:=by rw [beq_eq_false_iff_ne];exact h4
     rw [this,cond_false,decide_eq_false (p:=HOK h) (fun q=>by have:=q.2;rw [if_neg nl] at this;exact h4 this.2.1)]
   ·have:(((h.DCID.length:Nat):Int)==8)=false:=by rw [beq_eq_false_iff_ne];omega
    rw [this,cond_false,decide_eq_false (p:=HOK h) (fun q=>by have:=q.2;rw [if_neg nl] at this;exact h3 this.1)]
theorem XqI {s:List UInt8} (h:s.length≤20):XdI s=some (be s.length 1++s):=by
 unfold XdI XjF
 rw [Xgt (by omega) (by omega),XbH (by omega),Option.bind_some]
 unfold Xc9
 rw [if_pos (by omega),show (1:Int).toNat=1 from rfl,Int.toNat_natCast]
 rw [XaA (by simp;omega)]
theorem XJX {h:XaD} (hv:0≤h.Version∧h.Version<2^32) (hr:h.Rest.length<2^38):Xha h=some (XBR h):=by
 unfold Xha XnQ XBR
 rw [XM3,Option.bind_some]
 by_cases hk:HOK h
 ·rw [decide_eq_true hk,Bool.not_true,cond_false,if_pos hk]
  obtain ⟨⟨b0,b1'⟩,hk⟩:=hk
  obtain ⟨b,hb⟩:=Int.eq_ofNat_of_zero_le b0
  have hi:=XEG ⟨b,by omega⟩
  simp only at hi
  obtain ⟨v,hvv⟩:=Int.eq_ofNat_of_zero_le hv.1
  rw [hb,hvv]
  unfold XoN
  cases hl:h.Long with
  | true=>
    rw [hl] at hk
    simp only [if_true] at hk ⊢
    rw [cond_true,hi.1,Xgt (by omega) (by omega),Xgt (by omega) (by omega),XbH (by omega),Option.bind_some,XbH (by omega),Option.bind_some]
    unfold Xc9
    rw [if_pos (by omega),if_pos (by omega)]
    rw [XaA (by simp),XqI hk.1,Option.bind_some,XaA (by simp;omega),XqI hk.2,Option.bind_some,XaA (by simp;omega),XaA (by simp;omega),hb,hvv]
    simp only [Int.toNat_natCast,show (1:Int).toNat=1 from rfl,show (4:Int).toNat=4 from rfl]
  | false=>
    rw [hl] at hk
    simp only [Bool.false_eq_true,if_false] at hk ⊢
    rw [cond_false,hi.2,Xgt (by omega) (by omega),XbH (by omega),Option.bind_some]
    unfold Xc9
    rw [if_pos (by omega),XaA (by simp;omega),XaA (by simp;omega),hb]
    simp only [Int.toNat_natCast,show (1:Int).toNat=1 from rfl]
 ·rw [decide_eq_false hk,Bool.not_false,cond_true,if_neg hk]
theorem XEb {h:XaD} (hv:0≤h.Version∧h.Version<2^32) (hr:h.Rest.length<2^38):Xe8 h=some (XBR h):=by
 unfold Xe8 Xo3 XBR
 by_cases h1:h.Bits<0
 ·rw [XaW h1,if_neg (fun q=>by have:=q.1.1;omega)]
 by_cases h2:h.Bits>63
 ·rw [XaO h1,XaW h2,if_neg (fun q=>by have:=q.1.2;omega)]
 rw [XaO h1,XaO h2]
 obtain ⟨b,hb⟩:=Int.eq_ofNat_of_zero_le (show 0≤h.Bits by omega)
 obtain ⟨v,hvv⟩:=Int.eq_ofNat_of_zero_le hv.1
 cases hl:h.Long with
 | true=>
   rw [cond_true]
   by_cases h3:(h.DCID.length:Int)>20
   ·rw [XaW h3,if_neg (fun q=>by have:=q.2;rw [if_pos hl] at this;omega)]
   by_cases h4:(h.SCID.length:Int)>20
   ·rw [XaO h3,XaW h4,if_neg (fun q=>by have:=q.2;rw [if_pos hl] at this;omega)]
   have hk:HOK h:=⟨by omega,by rw [if_pos hl];omega⟩
   rw [XaO h3,XaO h4,if_pos hk]
   unfold XoN
   rw [if_pos hl,hb,hvv,Xed (by omega) (by omega),Xgt (by omega) (by omega),Xgt (by omega) (by omega),Xgt (by omega) (by omega),Xgt (by omega) (by omega),Xdq (by omega) (by omega),Option.bind_some,Xdq (by omega) (by omega),Option.bind_some]
   unfold Xc9
   rw [if_pos (by omega),if_pos (by omega)]
   rw [XaA (by simp),Xdq (by omega) (by omega),Option.bind_some]
   unfold Xc9
   rw [if_pos (by omega),XaA (by simp),XaA (by simp;omega),Xdq (by omega) (by omega),Option.bind_some]
   unfold Xc9
   rw [if_pos (by omega),XaA (by simp;omega),XaA (by simp;omega),XaA (by simp;omega)]
   have e:((192:Int)+(b:Int)).toNat=192+b:=by omega
   simp only [Int.toNat_natCast,show (1:Int).toNat=1 from rfl,show (4:Int).toNat=4 from rfl,e,List.append_assoc]
 | false=>
   rw [cond_false]
   have nl:¬ h.Long=true:=by rw [hl];simp
   by_cases h3:h.DCID.length=8
   ·have:(((h.DCID.length:Nat):Int) !=8)=false:=by rw [bne_eq_false_iff_eq];omega
    rw [this,cond_false]
    by_cases h4:h.SCID=[]
    ·have:(h.SCID==[])=true:=by rw [beq_iff_eq];exact h4
     rw [this,Bool.not_true,cond_false]
     by_cases h5:h.Version=0
     ·have:(h.Version !=0)=false:=by rw [bne_eq_false_iff_eq];exact h5
      have hk:HOK h:=⟨by omega,by rw [if_neg nl];exact ⟨h3,h4,h5⟩⟩
      rw [this,cond_false,if_pos hk]
      unfold XoN
      rw [if_neg nl,hb,Xed (by omega) (by omega),Xgt (by omega) (by omega),Xdq (by omega) (by omega),Option.bind_some]
      unfold Xc9
      rw [if_pos (by omega),XaA (by simp;omega),XaA (by simp;omega)]
      have e:((64:Int)+(b:Int)).toNat=64+b:=by omega
      simp only [Int.toNat_natCast,show (1:Int).toNat=1 from rfl,e]
     ·have:(h.Version !=0)=true:=by rw [bne_iff_ne];exact h5
      rw [this,cond_true,if_neg (fun q=>by have:=q.2;rw [if_neg nl] at this;exact h5 this.2.2)]
    ·have:(h.SCID==[])=false:=by rw [beq_eq_false_iff_ne];exact h4
     rw [this,Bool.not_false,cond_true,if_neg (fun q=>by have:=q.2;rw [if_neg nl] at this;exact h4 this.2.1)]
   ·have:(((h.DCID.length:Nat):Int) !=8)=true:=by rw [bne_iff_ne];omega
    rw [this,cond_true,if_neg (fun q=>by have:=q.2;rw [if_neg nl] at this;exact h3 this.1)]
def Xw6:XaD:=⟨false,0,0,[],[],[]⟩
def idS (s:List UInt8) (p:Nat):List UInt8×Int×Nat:=
 if s.length≤p then ([],2,0) else if 20<b1 s p then ([],3,0) else if s.length<p+1+b1 s p then ([],2,0) else ((s.drop (p+1)).take (b1 s p),0,p+1+b1 s p)
theorem XHR {s:List UInt8} {p:Nat} (h:s.length<2^38):Xkg s (p:Int)=some ((idS s p).1,(idS s p).2.1,(((idS s p).2.2:Nat):Int)):=by
 unfold Xkg XrZ idS
 by_cases h1:s.length≤p
 ·rw [XaW (by omega),if_pos h1];rfl
 have e1:s[(p:Int).toNat]?=some (s[p]'(by omega)):=by rw [Int.toNat_natCast];exact List.getElem?_eq_getElem (by omega)
 have hb:=XHg s p
 rw [XaO (by omega),if_neg h1,XaA (by omega),e1,Option.bind_some,←XHM (by omega),Xed (n:=((b1 s p:Nat):Int)) (by omega) (by omega)]
 by_cases h2:20<b1 s p
 ·rw [XaW (by omega),if_pos h2];rfl
 rw [XaO (by omega),if_neg h2,Xed (n:=(s.length:Int) - p) (by omega) (by omega),Xed (by omega) (by omega),Xed (n:=(p:Int)+1) (by omega) (by omega),Xed (n:=(p:Int)+1+((b1 s p:Nat):Int)) (by omega) (by omega)]
 simp only []
 by_cases h3:s.length<p+1+b1 s p
 ·rw [XaW (by omega),if_pos h3];rfl
 rw [XaO (by omega),if_neg h3,XaA (by omega)]
 have f1:((p:Int)+1).toNat=p+1:=by omega
 have f2:((p:Int)+1+((b1 s p:Nat):Int)).toNat - (p+1)=b1 s p:=by omega
 rw [f1,f2]
 simp
theorem i17:(if (1:Int)<1∨(1:Int)>7 then -1 else 1:Int)=1:=by decide
theorem i47:(if (4:Int)<1∨(4:Int)>7 then -1 else 4:Int)=4:=by decide
theorem XpS (s:List UInt8) (k:Int):rdr ⟨s,true,true⟩ k=⟨s,true,true⟩:=by unfold rdr;rw [if_pos (.inl rfl)]
theorem XK0 (s:List UInt8) (h:s.length<2^38):XhJ ⟨s,true,true⟩=some ([],2,⟨s,true,true⟩):=by
 unfold XhJ XnR
 rw [Xit rfl (by simp only [];omega),Option.bind_some]
 simp only [XpS]
 rw [XgJ rfl,Option.bind_some]
 simp only [Bool.not_true,cond_false]
 rw [Xg8 rfl,Option.bind_some]
 simp only [XpS]
 rw [XgJ rfl,Option.bind_some]
 rfl
theorem XI0 {s:List UInt8} {p:Nat} (h:s.length<2^38):∃ r,XhJ ⟨s.drop p,true,false⟩=some ((idS s p).1,(idS s p).2.1,r)∧((idS s p).2.1=0→r=⟨s.drop (idS s p).2.2,true,false⟩):=by
 have hb:=XHg s p
 have ld:(s.drop p).length=s.length - p:=List.length_drop ..
 unfold XhJ XnR idS
 rw [Xit rfl (by simp only [];omega),Option.bind_some]
 simp only [rdn,i17]
 by_cases h1:s.length≤p
 ·have hr:rdr ⟨s.drop p,true,false⟩ 1=⟨s.drop p,true,true⟩:=by unfold rdr;rw [if_pos (.inr (.inr (by simp only [];omega)))]
  rw [if_pos h1,hr,XgJ rfl,Option.bind_some]
  simp only [Bool.not_true,cond_false]
  rw [Xg8 rfl,Option.bind_some]
  simp only [XpS]
  rw [XgJ rfl,Option.bind_some]
  exact ⟨_,rfl,fun q=>by cases q⟩
 ·rw [if_neg h1,Xj2 (by omega) (by omega),XjT (by omega) (by omega),show (1:Int).toNat=1 from rfl,List.drop_drop,show Xgf ((s.drop p).take 1)=b1 s p from rfl,XgJ rfl,Option.bind_some]
  simp only [Bool.not_false,cond_true]
  have ld2:(s.drop (p+1)).length=s.length - (p+1):=List.length_drop ..
  by_cases h2:20<b1 s p
  ·rw [XaW (by omega),if_pos h2]
   exact ⟨_,rfl,fun q=>by cases q⟩
  rw [XaO (by omega),if_neg h2,Xg8 rfl,Option.bind_some]
  by_cases h3:s.length<p+1+b1 s p
  ·have hr:rdr ⟨s.drop (p+1),true,false⟩ ((b1 s p:Nat):Int)=⟨s.drop (p+1),true,true⟩:=by unfold rdr;rw [if_pos (.inr (.inr (by simp only [];omega)))]
   rw [if_pos h3,hr,XgJ rfl,Option.bind_some]
   exact ⟨_,rfl,fun q=>by cases q⟩
  ·rw [if_neg h3,Xj2 (by omega) (by omega),XjT (by omega) (by omega),XgJ rfl,Option.bind_some,Int.toNat_natCast,List.drop_drop]
   exact ⟨_,rfl,fun _=>rfl⟩
def XoW (s:List UInt8):XaD×Int:=
 if s=[] then (Xw6,2) else if b1 s 0/64%2=0 then (Xw6,3) else
 if b1 s 0<128 then if s.length<9 then (Xw6,2) else (⟨false,((b1 s 0%64:Nat):Int),0,(s.drop 1).take 8,[],s.drop 9⟩,0)
 else if s.length<5 then (Xw6,2) else if (idS s 5).2.1≠0 then (Xw6,(idS s 5).2.1) else if (idS s (idS s 5).2.2).2.1≠0 then (Xw6,(idS s (idS s 5).2.2).2.1) else
 (⟨true,((b1 s 0%64:Nat):Int),((Xgf ((s.drop 1).take 4):Nat):Int),(idS s 5).1,(idS s (idS s 5).2.2).1,s.drop (idS s (idS s 5).2.2).2.2⟩,0)
theorem XTk:∀ v:Fin 256,((wI .u8 (((v.val:Nat):Int).tdiv 64)).tmod 2=((v.val/64%2:Nat):Int)∧wI .i64 (((v.val:Nat):Int).tmod 64)=((v.val%64:Nat):Int))∧XnT .i64 ((v.val:Nat):Int) 64=((v.val/64%2*64:Nat):Int)∧XnT .i64 ((v.val:Nat):Int) 128=((v.val/128*128:Nat):Int)∧XnT .i64 ((v.val:Nat):Int) 63=((v.val%64:Nat):Int):=by decide +kernel
theorem XTT {s:List UInt8} {p:Nat} (h:(idS s p).2.1=0):(idS s p).2.2≤s.length:=by
 unfold idS at h ⊢
 split
 ·simp
 split
 ·simp
 split
 ·simp
 ·simp only [];omega
theorem Xv0 {s:List UInt8} (h:s.length<2^38):Xe6 s=some (XoW s):=by
 unfold Xe6 Xpe XoW
 by_cases h0:s=[]
 ·subst h0;rfl
 have hl:0<s.length:=List.length_pos_iff.2 h0
 have hb:=XHg s 0
 obtain ⟨⟨q1,q2⟩,-⟩:=XTk ⟨b1 s 0,hb⟩
 simp only at q1 q2
 have e0:s[0]?=some s[0]:=List.getElem?_eq_getElem hl
 have e1:s[0].toNat=b1 s 0:=(XHM hl).symm
 have es:(s==[])=false:=by rw [beq_eq_false_iff_ne];exact h0
 rw [es,cond_false,if_neg h0,e0]
 simp only [Option.bind_some,e1,q1,q2]
 by_cases h1:b1 s 0/64%2=0
 ·have:((((b1 s 0/64%2:Nat):Int))==0)=true:=by rw [beq_iff_eq];omega
  rw [this,cond_true,if_pos h1];rfl
 have:((((b1 s 0/64%2:Nat):Int))==0)=false:=by rw [beq_eq_false_iff_ne];omega
 rw [this,cond_false,if_neg h1]
 by_cases h2:b1 s 0<128
 ·rw [decide_eq_false (show ¬ ((b1 s 0:Nat):Int)≥128 by omega),Bool.not_false,cond_true,if_pos h2]
  by_cases h3:s.length<9
  ·rw [XaW (by omega),if_pos h3];rfl
  rw [XaO (by omega),if_neg h3,XaA (by omega),XaA (by omega),List.take_of_length_le (l:=s.drop 9) (by simp)]
 ·rw [decide_eq_true (show ((b1 s 0:Nat):Int)≥128 by omega),Bool.not_true,cond_false,if_neg h2]
  by_cases h3:s.length<5
  ·rw [XaW (by omega),if_pos h3];rfl
  have hv:Xgf ((s.drop 1).take 4)<2^32:=XfJ _ (by decide)
  have rid5:=XHR (s:=s) (p:=5) h
  rw [show ((5:Nat):Int)=5 from rfl] at rid5
  rw [XaO (by omega),if_neg h3,XiQ (by omega),Option.bind_some,Xju (by omega) (by omega) (by omega) (by omega),rid5,Option.bind_some]
  simp only []
  by_cases h4:(idS s 5).2.1=0
  ·have:((idS s 5).2.1 !=0)=false:=by rw [bne_eq_false_iff_eq];exact h4
   rw [this,cond_false,if_neg (by omega),XHR h,Option.bind_some]
   simp only []
   by_cases h5:(idS s (idS s 5).2.2).2.1=0
   ·have:((idS s (idS s 5).2.2).2.1 !=0)=false:=by rw [bne_eq_false_iff_eq];exact h5
    have hle:=XTT h5
    rw [this,cond_false,if_neg (by omega),XaA (by omega),Int.toNat_natCast,List.take_of_length_le (l:=s.drop (idS s (idS s 5).2.2).2.2) (by simp)]
    simp only [show (1:Int).toNat=1 from rfl,show (4:Int).toNat=4 from rfl]
    rw [Xed (n:=((Xgf ((s.drop 1).take 4):Nat):Int)) (by omega) (by omega),XEn (by omega) (by omega)]
   ·have:((idS s (idS s 5).2.2).2.1 !=0)=true:=by rw [bne_iff_ne];exact h5
    rw [this,cond_true,if_pos h5];rfl
  ·have:((idS s 5).2.1 !=0)=true:=by rw [bne_iff_ne];exact h4
   rw [this,cond_true,if_pos h4];rfl
theorem XxV {r:Xag} (h:r.made=true) (hb:r.bad=false):Xb3 r=some (r.s,rdr r r.s.length):=by
 unfold Xb3 XgM
 rw [XgJ h,Option.bind_some]
 simp only [hb,cond_false]
 rw [Xg8 h,Option.bind_some]
 have:rdt r r.s.length=r.s:=by unfold rdt;rw [if_neg (by rw [hb];simp),Int.toNat_natCast,List.take_length]
 rw [this]
theorem Xvr {s:List UInt8} (h:s.length<2^38):Xev s=some (XoW s):=by
 unfold Xev XnH XoW
 by_cases h0:s=[]
 ·subst h0;decide +kernel
 have hl:0<s.length:=List.length_pos_iff.2 h0
 have hb:=XHg s 0
 obtain ⟨-,q1,q2,q3⟩:=XTk ⟨b1 s 0,hb⟩
 simp only at q1 q2 q3
 have l1:(s.drop 1).length=s.length - 1:=List.length_drop ..
 rw [if_neg h0,Xqd,Option.bind_some,Xit rfl (by simp only [];omega),Option.bind_some]
 simp only [rdn,i17]
 rw [Xj2 (by omega) (by omega),XjT (by omega) (by omega),show (1:Int).toNat=1 from rfl,XgJ rfl,Option.bind_some,show Xgf (s.take 1)=b1 s 0 from rfl,q1,q2,q3]
 simp only [cond_false]
 by_cases h1:b1 s 0/64%2=0
 ·have:((((b1 s 0/64%2*64:Nat):Int))==0)=true:=by rw [beq_iff_eq];omega
  rw [this,cond_true,if_pos h1];rfl
 have:((((b1 s 0/64%2*64:Nat):Int))==0)=false:=by rw [beq_eq_false_iff_ne];omega
 rw [this,cond_false,if_neg h1]
 by_cases h2:b1 s 0<128
 ·have:((((b1 s 0/128*128:Nat):Int)) !=0)=false:=by rw [bne_eq_false_iff_eq];omega
  rw [this,Bool.not_false,cond_true,if_pos h2,Xg8 rfl,Option.bind_some]
  by_cases h3:s.length<9
  ·have hr:rdr ⟨s.drop 1,true,false⟩ 8=⟨s.drop 1,true,true⟩:=by unfold rdr;rw [if_pos (.inr (.inr (by simp only [];omega)))]
   rw [if_pos h3,hr,XgJ rfl,Option.bind_some];rfl
  ·rw [if_neg h3,Xj2 (by omega) (by omega),XjT (by omega) (by omega),XgJ rfl,Option.bind_some]
   simp only [cond_false]
   rw [XxV rfl rfl,Option.bind_some,List.drop_drop]
   rfl
 ·have:((((b1 s 0/128*128:Nat):Int)) !=0)=true:=by rw [bne_iff_ne];omega
  rw [this,Bool.not_true,cond_false,if_neg h2,Xit rfl (by simp only [];omega),Option.bind_some]
  simp only [rdn,i47]
  by_cases h3:s.length<5
  ·have hr:rdr ⟨s.drop 1,true,false⟩ 4=⟨s.drop 1,true,true⟩:=by unfold rdr;rw [if_pos (.inr (.inr (by simp only [];omega)))]
   rw [if_pos h3,hr,XK0 _ (by omega),Option.bind_some];rfl
  have hv:Xgf ((s.drop 1).take 4)<2^32:=XfJ _ (by decide)
  obtain ⟨r,er,hr⟩:=XI0 (s:=s) (p:=5) h
  rw [if_neg h3,Xj2 (by omega) (by omega),XjT (by omega) (by omega),show (4:Int).toNat=4 from rfl,List.drop_drop,er,Option.bind_some]
  simp only []
  by_cases h4:(idS s 5).2.1=0
  ·have:((idS s 5).2.1 !=0)=false:=by rw [bne_eq_false_iff_eq];exact h4
   obtain ⟨r',er',hr'⟩:=XI0 (s:=s) (p:=(idS s 5).2.2) h
   rw [this,cond_false,if_neg (by omega),hr h4,er',Option.bind_some]
   simp only []
   by_cases h5:(idS s (idS s 5).2.2).2.1=0
   ·have:((idS s (idS s 5).2.2).2.1 !=0)=false:=by rw [bne_eq_false_iff_eq];exact h5
    rw [this,cond_false,if_neg (by omega),hr' h5,XxV rfl rfl,Option.bind_some,XEn (by omega) (by omega)]
   ·have:((idS s (idS s 5).2.2).2.1 !=0)=true:=by rw [bne_iff_ne];exact h5
    rw [this,cond_true,if_pos h5];rfl
  ·have:((idS s 5).2.1 !=0)=true:=by rw [bne_iff_ne];exact h4
   rw [this,cond_true,if_pos h4];rfl
end Go.Vm.Code
namespace Go.Vm.Code
open Go Go.Vm Go.Proofs
set_option maxRecDepth 100000
set_option maxHeartbeats 4000000
set_option linter.unusedVariables false
def Xi4 (Xfc:XfE) (XfY:Xgd) (s:List UInt8):Option (XaS×Int):=
 (s[0]?).bind fun (b:UInt8)=>
 cond (((b.toNat:Int).fdiv (2^4))==4)
  (
  (Xfc s).bind fun xg=>
  cond (xg.2.2 !=0)
   (
   some ((XaS.mk (Xab.mk false 0 0) (Xab.mk false 0 0) 0 [],xg.2.2)))
   (
   let t:=wI .i64 (20+(xg.1.Options.length:Int))
   let t1:=(s.length:Int) !=(wI .i64 (t+(xg.2.1.length:Int)))
   cond (t1)
    (
    some ((XaS.mk (Xab.mk false 0 0) (Xab.mk false 0 0) 0 [],5)))
    (
    some ((XaS.mk xg.1.Src xg.1.Dst xg.1.Proto xg.2.1,0)))))
  (
  cond (((b.toNat:Int).fdiv (2^4))==6)
   (
   (XfY s).bind fun xg1=>
   cond (xg1.2.2 !=0)
    (
    some ((XaS.mk (Xab.mk false 0 0) (Xab.mk false 0 0) 0 [],xg1.2.2)))
    (
    let t2:=(s.length:Int) !=(wI .i64 (40+(xg1.2.1.length:Int)))
    cond (t2)
     (
     some ((XaS.mk (Xab.mk false 0 0) (Xab.mk false 0 0) 0 [],5)))
     (
     some ((XaS.mk xg1.1.Src xg1.1.Dst xg1.1.Next xg1.2.1,0)))))
   (
   some ((XaS.mk (Xab.mk false 0 0) (Xab.mk false 0 0) 0 [],3))))
def XCV (x:XaS×Int):XcS:=⟨.tuple ⟨[.agg ⟨[.bool x.1.src.V6,.int .u64 x.1.src.Hi,.int .u64 x.1.src.Lo,.bool x.1.dst.V6,.int .u64 x.1.dst.Hi,.int .u64 x.1.dst.Lo,.int .i64 x.1.proto,.string ⟨⟨x.1.body⟩⟩]⟩,.int .i64 x.2]⟩,[],[]⟩
abbrev XeB:=(List UInt8)→Option (XaS×Int)
def r131 (g:XeB):Dec:=dV asS fun (y0:List UInt8)=>XdJ (ofG (g y0) XCV)
theorem XRD {g:XeB} {y0:List UInt8} {x:XaS×Int} (hx:g y0=some x):r131 g [.string ⟨⟨y0⟩⟩] []=some (XCV x):=(XaP (XdL)).trans (XaN hx)
def s131 (g:XeB):Xbz:=⟨[.v],r131 g⟩
theorem XMw {g:XeB} {y0:List UInt8} {x:XaS×Int} (hx:g y0=some x):(s131 g).run [.string ⟨⟨y0⟩⟩] []=some (XCV x):=XRD hx
abbrev XNx (Xfc:XfE) (XfY:Xgd):List (Nat×Xbz):=[(190,s190 Xfc),(191,s191 XfY)]
theorem XEC (Xfc:XfE) (XfY:Xgd) (hS:Xaj Tryz.prog (XaI (XNx Xfc XfY))) (s:List UInt8) (res:XaS×Int) (h:Xi4 Xfc XfY s=some res) :
 XaJ Tryz.prog 131 0 ⟨⟨131,61,[(0,.string ⟨⟨s⟩⟩)],[.code XAL],[],false,none⟩,[],[],0⟩ (fun v H _=>Res 0 (XCV res) v H):=by
 unfold Xi4 at h
 have R1:=@XJ4 Xfc
 have R2:=@XQs XfY
 refine Xa7 XaE hS true 3000 ?_
 conv=>whnf
 exact W
def Xdx:XeB:=Xi4 Xfc XfY
theorem XMe:XbB Tryz.prog 131 (s131 Xdx):=by
 have hL:=XEC Xfc XfY (Xaj.XaK ⟨XPL,XOO,trivial⟩)
 exact okA ⟨Tryz.f131,rfl,by decide,rfl⟩
def XfI (XiV:XhU) (Xf2:Xge) (oa0:XaS) (p:Xal):Option (Int×Int×Xal):=
 (XiV oa0.body oa0.src oa0.dst).bind fun xg=>
 cond (xg.2.2 !=0)
  (
  some ((0,xg.2.2,p)))
  (
  (Xf2 xg.1.Options).bind fun s=>
  cond (decide (s.2.2≥0))
   (
   some (((xg.2.1.length:Int),0,Xal.mk (Xah.mk p.Tuple.Proto p.Tuple.Src p.Tuple.Dst xg.1.SPort xg.1.DPort) xg.1.Flags true s.1 s.2.1 p.Long p.CID p.Size)))
   (
   some (((xg.2.1.length:Int),0,Xal.mk (Xah.mk p.Tuple.Proto p.Tuple.Src p.Tuple.Dst xg.1.SPort xg.1.DPort) xg.1.Flags p.Stamped p.Val p.Echo p.Long p.CID p.Size))))
def XD6 (x:Int×Int×Xal):XcS:=⟨.tuple ⟨[.int .i64 x.1,.int .i64 x.2.1]⟩,[],[some [.int .i64 x.2.2.Tuple.Proto,.bool x.2.2.Tuple.Src.V6,.int .u64 x.2.2.Tuple.Src.Hi,.int .u64 x.2.2.Tuple.Src.Lo,.bool x.2.2.Tuple.Dst.V6,.int .u64 x.2.2.Tuple.Dst.Hi,.int .u64 x.2.2.Tuple.Dst.Lo,.int .i64 x.2.2.Tuple.SPort,.int .i64 x.2.2.Tuple.DPort,.int .i64 x.2.2.Flags,.bool x.2.2.Stamped,.int .u32 x.2.2.Val,.int .u32 x.2.2.Echo,.bool x.2.2.Long,.string ⟨⟨x.2.2.CID⟩⟩,.int .i64 x.2.2.Size]]⟩
abbrev Xcw:=XaS→Xal→Option (Int×Int×Xal)
def r132 (g:Xcw):Dec:=dV Xhw fun (y0:XaS)=>dPt 0 XhY fun (y1:Xal)=>XdJ (ofG (g y0 y1) XD6)
theorem XSK {g:Xcw} {y0:XaS} {y1:Xal} {x:Int×Int×Xal} (hx:g y0 y1=some x):r132 g [.agg ⟨[.bool y0.src.V6,.int .u64 y0.src.Hi,.int .u64 y0.src.Lo,.bool y0.dst.V6,.int .u64 y0.dst.Hi,.int .u64 y0.dst.Lo,.int .i64 y0.proto,.string ⟨⟨y0.body⟩⟩]⟩,.pointer (some ⟨0,0,none⟩)] [some [.int .i64 y1.Tuple.Proto,.bool y1.Tuple.Src.V6,.int .u64 y1.Tuple.Src.Hi,.int .u64 y1.Tuple.Src.Lo,.bool y1.Tuple.Dst.V6,.int .u64 y1.Tuple.Dst.Hi,.int .u64 y1.Tuple.Dst.Lo,.int .i64 y1.Tuple.SPort,.int .i64 y1.Tuple.DPort,.int .i64 y1.Flags,.bool y1.Stamped,.int .u32 y1.Val,.int .u32 y1.Echo,.bool y1.Long,.string ⟨⟨y1.CID⟩⟩,.int .i64 y1.Size]]=some (XD6 x):=(XaP (Xlo _)).trans ((Xhm (XmQ _)).trans (XaN hx))
def s132 (g:Xcw):Xbz:=⟨[.v,.pt 16],r132 g⟩
theorem XMY {g:Xcw} {y0:XaS} {y1:Xal} {x:Int×Int×Xal} (hx:g y0 y1=some x):(s132 g).run [.agg ⟨[.bool y0.src.V6,.int .u64 y0.src.Hi,.int .u64 y0.src.Lo,.bool y0.dst.V6,.int .u64 y0.dst.Hi,.int .u64 y0.dst.Lo,.int .i64 y0.proto,.string ⟨⟨y0.body⟩⟩]⟩,.pointer (some ⟨0,0,none⟩)] [some [.int .i64 y1.Tuple.Proto,.bool y1.Tuple.Src.V6,.int .u64 y1.Tuple.Src.Hi,.int .u64 y1.Tuple.Src.Lo,.bool y1.Tuple.Dst.V6,.int .u64 y1.Tuple.Dst.Hi,.int .u64 y1.Tuple.Dst.Lo,.int .i64 y1.Tuple.SPort,.int .i64 y1.Tuple.DPort,.int .i64 y1.Flags,.bool y1.Stamped,.int .u32 y1.Val,.int .u32 y1.Echo,.bool y1.Long,.string ⟨⟨y1.CID⟩⟩,.int .i64 y1.Size]]=some (XD6 x):=XSK hx
abbrev XLE (XiV:XhU) (Xf2:Xge):List (Nat×Xbz):=[(167,s167 XiV),(134,s134 Xf2)]
theorem XGS (XiV:XhU) (Xf2:Xge) (hS:Xaj Tryz.prog (XaI (XLE XiV Xf2))) (oa0:XaS) (p:Xal) (res:Int×Int×Xal) (h:XfI XiV Xf2 oa0 p=some res) :
 XaJ Tryz.prog 132 1 ⟨⟨132,65,[(0,.agg ⟨[.bool oa0.src.V6,.int .u64 oa0.src.Hi,.int .u64 oa0.src.Lo,.bool oa0.dst.V6,.int .u64 oa0.dst.Hi,.int .u64 oa0.dst.Lo,.int .i64 oa0.proto,.string ⟨⟨oa0.body⟩⟩]⟩),(1,.pointer (some ⟨0,0,none⟩))],[.code Xym],[],false,none⟩,[],[(0,.cells [.int .i64 p.Tuple.Proto,.bool p.Tuple.Src.V6,.int .u64 p.Tuple.Src.Hi,.int .u64 p.Tuple.Src.Lo,.bool p.Tuple.Dst.V6,.int .u64 p.Tuple.Dst.Hi,.int .u64 p.Tuple.Dst.Lo,.int .i64 p.Tuple.SPort,.int .i64 p.Tuple.DPort,.int .i64 p.Flags,.bool p.Stamped,.int .u32 p.Val,.int .u32 p.Echo,.bool p.Long,.string ⟨⟨p.CID⟩⟩,.int .i64 p.Size])],1⟩ (fun v H _=>Res 1 (XD6 res) v H):=by
 unfold XfI at h
 have R1:=@XMN XiV
 have R2:=@XKk Xf2
 refine Xa7 XaE hS true 3000 ?_
 conv=>whnf
 exact W
def XbK:Xcw:=XfI XiV Xf2
theorem XPQ:XbB Tryz.prog 132 (s132 XbK):=by
 have hL:=XGS XiV Xf2 (Xaj.XaK ⟨XPj,XPM,trivial⟩)
 exact okA ⟨Tryz.f132,rfl,by decide,rfl⟩
def Xfo (Xev:Xfk) (XiW:Xh5) (oa0:XaS) (p:Xal):Option (Int×Int×Xal):=
 (XiW oa0.body oa0.src oa0.dst).bind fun xg=>
 cond (xg.2.2 !=0)
  (
  some ((0,xg.2.2,p)))
  (
  let t:=(xg.2.1.length:Int) !=(wI .i64 ((oa0.body.length:Int) - 8))
  cond (t)
   (
   some ((0,5,p)))
   (
   (Xev xg.2.1).bind fun xg1=>
   cond (xg1.2==0)
    (
    some (((xg.2.1.length:Int),0,Xal.mk (Xah.mk p.Tuple.Proto p.Tuple.Src p.Tuple.Dst xg.1.SPort xg.1.DPort) p.Flags p.Stamped p.Val p.Echo xg1.1.Long xg1.1.DCID p.Size)))
    (
    some (((xg.2.1.length:Int),0,Xal.mk (Xah.mk p.Tuple.Proto p.Tuple.Src p.Tuple.Dst xg.1.SPort xg.1.DPort) p.Flags p.Stamped p.Val p.Echo p.Long p.CID p.Size)))))
def XFR (x:Int×Int×Xal):XcS:=⟨.tuple ⟨[.int .i64 x.1,.int .i64 x.2.1]⟩,[],[some [.int .i64 x.2.2.Tuple.Proto,.bool x.2.2.Tuple.Src.V6,.int .u64 x.2.2.Tuple.Src.Hi,.int .u64 x.2.2.Tuple.Src.Lo,.bool x.2.2.Tuple.Dst.V6,.int .u64 x.2.2.Tuple.Dst.Hi,.int .u64 x.2.2.Tuple.Dst.Lo,.int .i64 x.2.2.Tuple.SPort,.int .i64 x.2.2.Tuple.DPort,.int .i64 x.2.2.Flags,.bool x.2.2.Stamped,.int .u32 x.2.2.Val,.int .u32 x.2.2.Echo,.bool x.2.2.Long,.string ⟨⟨x.2.2.CID⟩⟩,.int .i64 x.2.2.Size]]⟩
abbrev Xco:=XaS→Xal→Option (Int×Int×Xal)
def r133 (g:Xco):Dec:=dV Xhw fun (y0:XaS)=>dPt 0 XhY fun (y1:Xal)=>XdJ (ofG (g y0 y1) XFR)
theorem XQT {g:Xco} {y0:XaS} {y1:Xal} {x:Int×Int×Xal} (hx:g y0 y1=some x):r133 g [.agg ⟨[.bool y0.src.V6,.int .u64 y0.src.Hi,.int .u64 y0.src.Lo,.bool y0.dst.V6,.int .u64 y0.dst.Hi,.int .u64 y0.dst.Lo,.int .i64 y0.proto,.string ⟨⟨y0.body⟩⟩]⟩,.pointer (some ⟨0,0,none⟩)] [some [.int .i64 y1.Tuple.Proto,.bool y1.Tuple.Src.V6,.int .u64 y1.Tuple.Src.Hi,.int .u64 y1.Tuple.Src.Lo,.bool y1.Tuple.Dst.V6,.int .u64 y1.Tuple.Dst.Hi,.int .u64 y1.Tuple.Dst.Lo,.int .i64 y1.Tuple.SPort,.int .i64 y1.Tuple.DPort,.int .i64 y1.Flags,.bool y1.Stamped,.int .u32 y1.Val,.int .u32 y1.Echo,.bool y1.Long,.string ⟨⟨y1.CID⟩⟩,.int .i64 y1.Size]]=some (XFR x):=(XaP (Xlo _)).trans ((Xhm (XmQ _)).trans (XaN hx))
def s133 (g:Xco):Xbz:=⟨[.v,.pt 16],r133 g⟩
theorem XPz {g:Xco} {y0:XaS} {y1:Xal} {x:Int×Int×Xal} (hx:g y0 y1=some x):(s133 g).run [.agg ⟨[.bool y0.src.V6,.int .u64 y0.src.Hi,.int .u64 y0.src.Lo,.bool y0.dst.V6,.int .u64 y0.dst.Hi,.int .u64 y0.dst.Lo,.int .i64 y0.proto,.string ⟨⟨y0.body⟩⟩]⟩,.pointer (some ⟨0,0,none⟩)] [some [.int .i64 y1.Tuple.Proto,.bool y1.Tuple.Src.V6,.int .u64 y1.Tuple.Src.Hi,.int .u64 y1.Tuple.Src.Lo,.bool y1.Tuple.Dst.V6,.int .u64 y1.Tuple.Dst.Hi,.int .u64 y1.Tuple.Dst.Lo,.int .i64 y1.Tuple.SPort,.int .i64 y1.Tuple.DPort,.int .i64 y1.Flags,.bool y1.Stamped,.int .u32 y1.Val,.int .u32 y1.Echo,.bool y1.Long,.string ⟨⟨y1.CID⟩⟩,.int .i64 y1.Size]]=some (XFR x):=XQT hx
abbrev XQk (Xev:Xfk) (XiW:Xh5):List (Nat×Xbz):=[(94,s94 Xev),(168,s168 XiW)]
theorem XGY (Xev:Xfk) (XiW:Xh5) (hS:Xaj Tryz.prog (XaI (XQk Xev XiW))) (oa0:XaS) (p:Xal) (res:Int×Int×Xal) (h:Xfo Xev XiW oa0 p=some res) :
 XaJ Tryz.prog 133 1 ⟨⟨133,65,[(0,.agg ⟨[.bool oa0.src.V6,.int .u64 oa0.src.Hi,.int .u64 oa0.src.Lo,.bool oa0.dst.V6,.int .u64 oa0.dst.Hi,.int .u64 oa0.dst.Lo,.int .i64 oa0.proto,.string ⟨⟨oa0.body⟩⟩]⟩),(1,.pointer (some ⟨0,0,none⟩))],[.code Xz6],[],false,none⟩,[],[(0,.cells [.int .i64 p.Tuple.Proto,.bool p.Tuple.Src.V6,.int .u64 p.Tuple.Src.Hi,.int .u64 p.Tuple.Src.Lo,.bool p.Tuple.Dst.V6,.int .u64 p.Tuple.Dst.Hi,.int .u64 p.Tuple.Dst.Lo,.int .i64 p.Tuple.SPort,.int .i64 p.Tuple.DPort,.int .i64 p.Flags,.bool p.Stamped,.int .u32 p.Val,.int .u32 p.Echo,.bool p.Long,.string ⟨⟨p.CID⟩⟩,.int .i64 p.Size])],1⟩ (fun v H _=>Res 1 (XFR res) v H):=by
 unfold Xfo at h
 have R1:=@XOI XiW
 have R2:=@XHW Xev
 refine Xa7 XaE hS true 3000 ?_
 conv=>whnf
 exact W
def Xbw:Xco:=Xfo Xev XiW
theorem XMR:XbB Tryz.prog 133 (s133 Xbw):=by
 have hL:=XGY Xev XiW (Xaj.XaK ⟨XI2,XP0,trivial⟩)
 exact okA ⟨Tryz.f133,rfl,by decide,rfl⟩
def Xkd (Xdx:XeB) (Xbw:Xco) (XbK:Xcw) (s:List UInt8):Option (Xal×Int×Int×Int):=
 cond (decide ((s.length:Int)>9000))
  (
  some ((Xal.mk (Xah.mk 0 (Xab.mk false 0 0) (Xab.mk false 0 0) 0 0) 0 false 0 0 false [] 0,0,0,5)))
  (
  cond (s==[])
   (
   some ((Xal.mk (Xah.mk 0 (Xab.mk false 0 0) (Xab.mk false 0 0) 0 0) 0 false 0 0 false [] 0,0,0,2)))
   (
   (Xdx s).bind fun xo=>
   cond (xo.2 !=0)
    (
    some ((Xal.mk (Xah.mk 0 (Xab.mk false 0 0) (Xab.mk false 0 0) 0 0) 0 false 0 0 false [] 0,0,0,xo.2)))
    (
    cond (xo.1.proto==6)
     (
     (XbK xo.1 (Xal.mk (Xah.mk xo.1.proto xo.1.src xo.1.dst 0 0) 0 false 0 0 false [] (s.length:Int))).bind fun s1=>
     cond (s1.2.1 !=0)
      (
      some ((Xal.mk (Xah.mk 0 (Xab.mk false 0 0) (Xab.mk false 0 0) 0 0) 0 false 0 0 false [] 0,0,0,s1.2.1)))
      (
      some ((s1.2.2,(xo.1.body.length:Int),s1.1,0))))
     (
     cond (xo.1.proto==17)
      (
      (Xbw xo.1 (Xal.mk (Xah.mk xo.1.proto xo.1.src xo.1.dst 0 0) 0 false 0 0 false [] (s.length:Int))).bind fun d=>
      cond (d.2.1 !=0)
       (
       some ((Xal.mk (Xah.mk 0 (Xab.mk false 0 0) (Xab.mk false 0 0) 0 0) 0 false 0 0 false [] 0,0,0,d.2.1)))
       (
       some ((d.2.2,(xo.1.body.length:Int),d.1,0))))
      (
      some ((Xal.mk (Xah.mk 0 (Xab.mk false 0 0) (Xab.mk false 0 0) 0 0) 0 false 0 0 false [] 0,0,0,6)))))))
def rx81 (x:Xal×Int×Int×Int):XcS:=⟨.tuple ⟨[.agg ⟨[.int .i64 x.1.Tuple.Proto,.bool x.1.Tuple.Src.V6,.int .u64 x.1.Tuple.Src.Hi,.int .u64 x.1.Tuple.Src.Lo,.bool x.1.Tuple.Dst.V6,.int .u64 x.1.Tuple.Dst.Hi,.int .u64 x.1.Tuple.Dst.Lo,.int .i64 x.1.Tuple.SPort,.int .i64 x.1.Tuple.DPort,.int .i64 x.1.Flags,.bool x.1.Stamped,.int .u32 x.1.Val,.int .u32 x.1.Echo,.bool x.1.Long,.string ⟨⟨x.1.CID⟩⟩,.int .i64 x.1.Size]⟩,.int .i64 x.2.1,.int .i64 x.2.2.1,.int .i64 x.2.2.2]⟩,[],[]⟩
abbrev XdP:=(List UInt8)→Option (Xal×Int×Int×Int)
def r81 (g:XdP):Dec:=dV asS fun (y0:List UInt8)=>XdJ (ofG (g y0) rx81)
theorem r81_c {g:XdP} {y0:List UInt8} {x:Xal×Int×Int×Int} (hx:g y0=some x):r81 g [.string ⟨⟨y0⟩⟩] []=some (rx81 x):=(XaP (XdL)).trans (XaN hx)
def s81 (g:XdP):Xbz:=⟨[.v],r81 g⟩
theorem XJe {g:XdP} {y0:List UInt8} {x:Xal×Int×Int×Int} (hx:g y0=some x):(s81 g).run [.string ⟨⟨y0⟩⟩] []=some (rx81 x):=r81_c hx
abbrev XR1 (Xdx:XeB) (Xbw:Xco) (XbK:Xcw):List (Nat×Xbz):=[(131,s131 Xdx),(133,s133 Xbw),(132,s132 XbK)]
theorem XJ6 (Xdx:XeB) (Xbw:Xco) (XbK:Xcw) (hS:Xaj Tryz.prog (XaI (XR1 Xdx Xbw XbK))) (s:List UInt8) (res:Xal×Int×Int×Int) (h:Xkd Xdx Xbw XbK s=some res) :
 XaJ Tryz.prog 81 0 ⟨⟨81,63,[(0,.string ⟨⟨s⟩⟩)],[.code XH2],[],false,none⟩,[],[],0⟩ (fun v H _=>Res 0 (rx81 res) v H):=by
 unfold Xkd at h
 have R1:=@XMw Xdx
 have R2:=@XMY XbK
 have R3:=@XPz Xbw
 refine Xa7 XaE hS true 3000 ?_
 conv=>whnf
 exact W
def Xci:XdP:=Xkd Xdx Xbw XbK
theorem XIq:XbB Tryz.prog 81 (s81 Xci):=by
 have hL:=XJ6 Xdx Xbw XbK (Xaj.XaK ⟨XMe,XMR,XPQ,trivial⟩)
 exact okA ⟨Tryz.f81,rfl,by decide,rfl⟩
def XjC (Xci:XdP) (s:List UInt8):Option (Xal×Int):=
 (Xci s).bind fun t=>
 some ((t.1,t.2.2.2))
def rx47 (x:Xal×Int):XcS:=⟨.tuple ⟨[.agg ⟨[.int .i64 x.1.Tuple.Proto,.bool x.1.Tuple.Src.V6,.int .u64 x.1.Tuple.Src.Hi,.int .u64 x.1.Tuple.Src.Lo,.bool x.1.Tuple.Dst.V6,.int .u64 x.1.Tuple.Dst.Hi,.int .u64 x.1.Tuple.Dst.Lo,.int .i64 x.1.Tuple.SPort,.int .i64 x.1.Tuple.DPort,.int .i64 x.1.Flags,.bool x.1.Stamped,.int .u32 x.1.Val,.int .u32 x.1.Echo,.bool x.1.Long,.string ⟨⟨x.1.CID⟩⟩,.int .i64 x.1.Size]⟩,.int .i64 x.2]⟩,[],[]⟩
abbrev XeU:=(List UInt8)→Option (Xal×Int)
def r47 (g:XeU):Dec:=dV asS fun (y0:List UInt8)=>XdJ (ofG (g y0) rx47)
theorem r47_c {g:XeU} {y0:List UInt8} {x:Xal×Int} (hx:g y0=some x):r47 g [.string ⟨⟨y0⟩⟩] []=some (rx47 x):=(XaP (XdL)).trans (XaN hx)
def s47 (g:XeU):Xbz:=⟨[.v],r47 g⟩
theorem XUg {g:XeU} {y0:List UInt8} {x:Xal×Int} (hx:g y0=some x):(s47 g).run [.string ⟨⟨y0⟩⟩] []=some (rx47 x):=r47_c hx
abbrev XWK (Xci:XdP):List (Nat×Xbz):=[(81,s81 Xci)]
theorem XOD (Xci:XdP) (hS:Xaj Tryz.prog (XaI (XWK Xci))) (s:List UInt8) (res:Xal×Int) (h:XjC Xci s=some res) :
 XaJ Tryz.prog 47 0 ⟨⟨47,17,[(0,.string ⟨⟨s⟩⟩)],[.code XUP],[],false,none⟩,[],[],0⟩ (fun v H _=>Res 0 (rx47 res) v H):=by
 unfold XjC at h
 have R1:=@XJe Xci
 refine Xa7 XaE hS true 3000 ?_
 conv=>whnf
 exact W
def Xd3:XeU:=XjC Xci
theorem XUN:XbB Tryz.prog 47 (s47 Xd3):=by
 have hL:=XOD Xci (Xaj.XaK ⟨XIq,trivial⟩)
 exact okA ⟨Tryz.f47,rfl,by decide,rfl⟩
def XjK (Xci:XdP) (s:List UInt8):Option (Int×Int×Int):=
 (Xci s).bind fun t=>
 cond (t.2.2.2 !=0)
  (
  some ((0,0,t.2.2.2)))
  (
  some ((wI .i64 ((s.length:Int) - t.2.1),wI .i64 ((s.length:Int) - t.2.2.1),0)))
def rx93 (x:Int×Int×Int):XcS:=⟨.tuple ⟨[.int .i64 x.1,.int .i64 x.2.1,.int .i64 x.2.2]⟩,[],[]⟩
abbrev XeQ:=(List UInt8)→Option (Int×Int×Int)
def r93 (g:XeQ):Dec:=dV asS fun (y0:List UInt8)=>XdJ (ofG (g y0) rx93)
theorem r93_c {g:XeQ} {y0:List UInt8} {x:Int×Int×Int} (hx:g y0=some x):r93 g [.string ⟨⟨y0⟩⟩] []=some (rx93 x):=(XaP (XdL)).trans (XaN hx)
def s93 (g:XeQ):Xbz:=⟨[.v],r93 g⟩
theorem XTW {g:XeQ} {y0:List UInt8} {x:Int×Int×Int} (hx:g y0=some x):(s93 g).run [.string ⟨⟨y0⟩⟩] []=some (rx93 x):=r93_c hx
abbrev XVm (Xci:XdP):List (Nat×Xbz):=[(81,s81 Xci)]
theorem XMZ (Xci:XdP) (hS:Xaj Tryz.prog (XaI (XVm Xci))) (s:List UInt8) (res:Int×Int×Int) (h:XjK Xci s=some res) :
 XaJ Tryz.prog 93 0 ⟨⟨93,27,[(0,.string ⟨⟨s⟩⟩)],[.code XIc],[],false,none⟩,[],[],0⟩ (fun v H _=>Res 0 (rx93 res) v H):=by
 unfold XjK at h
 have R1:=@XJe Xci
 refine Xa7 XaE hS true 3000 ?_
 conv=>whnf
 exact W
def Xd4:XeQ:=XjK Xci
theorem XU1:XbB Tryz.prog 93 (s93 Xd4):=by
 have hL:=XMZ Xci (Xaj.XaK ⟨XIq,trivial⟩)
 exact okA ⟨Tryz.f93,rfl,by decide,rfl⟩
end Go.Vm.Code
