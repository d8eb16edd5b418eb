import Derived.Test.YtiknkhbngadaeaaGreatNStampPackete
namespace Go.Vm.Code
open Go Go.Vm Go.Proofs
set_option maxRecDepth 100000
set_option maxHeartbeats 4000000
set_option linter.unusedVariables false
def XhH (Xes:(List UInt8)→Option (Xak×(List UInt8)×Int)) (Xep:(List UInt8)→Option (Xao×(List UInt8)×Int)) (s:List UInt8):Option (Xb7×Int):=
 (s[0]?).bind fun (b:UInt8)=>
 cond ((wI .u8 ((b.toNat:Int).tdiv 16))==4)
  (
  (Xes s).bind fun xg=>
  let t:=wI .i64 (20+(xg.1.Options.length:Int))
  some ((Xb7.mk xg.1.Src xg.1.Dst xg.1.Proto t xg.2.1,xg.2.2)))
  (
  (s[0]?).bind fun (b1:UInt8)=>
  cond ((wI .u8 ((b1.toNat:Int).tdiv 16))==6)
   (
   (Xep s).bind fun xg1=>
   some ((Xb7.mk xg1.1.Src xg1.1.Dst xg1.1.Next 40 xg1.2.1,xg1.2.2)))
   (
   some ((Xb7.mk (Xab.mk false 0 0) (Xab.mk false 0 0) 0 0 [],3))))
def rx56 (x:Xb7×Int):Xcw:=⟨.tuple ⟨[.agg ⟨[.bool x.1.src.V6,.int .u64 x.1.src.Hi,.int .u64 x.1.src.Lo,.bool x.1.dst.V6,.int .u64 x.1.dst.Hi,.int .u64 x.1.dst.Lo,.int .i64 x.1.proto,.int .i64 x.1.size,.string ⟨⟨x.1.body⟩⟩]⟩,.int .i64 x.2]⟩,[],[]⟩
def r56 (g:(List UInt8)→Option (Xb7×Int)):Dec:=dV asS fun (y0:List UInt8)=>Xdd (ofG (g y0) rx56)
theorem r56_c {g:(List UInt8)→Option (Xb7×Int)} {y0:List UInt8} {x:Xb7×Int} (hx:g y0=some x):r56 g [.string ⟨⟨y0⟩⟩] []=some (rx56 x):=(XaX (XcI)).trans (Xa3 hx)
def s56 (g:(List UInt8)→Option (Xb7×Int)):Xbu:=⟨[.v],r56 g⟩
theorem XJi {g:(List UInt8)→Option (Xb7×Int)} {y0:List UInt8} {x:Xb7×Int} (hx:g y0=some x):(s56 g).run [.string ⟨⟨y0⟩⟩] []=some (rx56 x):=r56_c hx
abbrev XBh (Xes:(List UInt8)→Option (Xak×(List UInt8)×Int)) (Xep:(List UInt8)→Option (Xao×(List UInt8)×Int)):List (Nat×Xbu):=[(98,s98 Xes),(99,s99 Xep)]
theorem XDm (Xes:(List UInt8)→Option (Xak×(List UInt8)×Int)) (Xep:(List UInt8)→Option (Xao×(List UInt8)×Int)) (hS:Xah Tryz.prog (Xav (XBh Xes Xep))) (s:List UInt8) (res:Xb7×Int) (h:XhH Xes Xep s=some res) :
 XaK Tryz.prog 56 0 ⟨⟨56,53,[(0,.string ⟨⟨s⟩⟩)],[.code XzC],[],false,none⟩,[],[],0⟩ (fun v H _=>Res 0 (rx56 res) v H):=by
 unfold XhH at h
 refine Xbi Xan hS true 3000 ?_
 conv=>whnf
 replace h:=Xai.elim h;obtain ⟨b,hy,h⟩:=h
 refine rdS.intro hy ?_
 conv=>whnf
 refine br.h h (by rfl) ?_ ?_
 ·clear h;intro hb h;conv=>whnf
  replace h:=Xai.elim h;obtain ⟨xg,hy,h⟩:=h
  refine XaJ.p (XJN hy) ?_
  conv=>whnf
  let t:Int:=wI .i64 (20+(xg.1.Options.length:Int))
  all_goals (cases h;exact Res.y)
 clear h;intro hb h;conv=>whnf
 replace h:=Xai.elim h;obtain ⟨b1,hy,h⟩:=h
 refine rdS.intro hy ?_
 conv=>whnf
 refine br.h2 h (by rfl) ?_ ?_
 ·clear h;intro hb h;conv=>whnf
  all_goals (cases h;exact Res.y)
 clear h;intro hb h;conv=>whnf
 replace h:=Xai.elim h;obtain ⟨xg1,hy,h⟩:=h
 refine XaJ.p (XHk hy) ?_
 conv=>whnf
 all_goals (cases h;exact Res.y)
theorem ok56 (Xes:(List UInt8)→Option (Xak×(List UInt8)×Int)) (Xep:(List UInt8)→Option (Xao×(List UInt8)×Int)) (hS:Xah Tryz.prog (Xav (XBh Xes Xep))):Xar Tryz.prog 56 (s56 (XhH Xes Xep)):=by
 refine Xar.Xax Xan (fun ar os r ha hr=>?_) ⟨Tryz.f56,rfl,by decide,rfl⟩
 replace hr:r56 (XhH Xes Xep) ar (XaH os)=some r:=hr
 unfold r56 at hr
 generalize hc:XaH os=C at hr
 replace hr:=dV.elim hr;obtain ⟨v0,l1,y0,rfl,e0,hr⟩:=hr;obtain rfl:=XbM _ _ e0
 replace hr:=Xdw hr;obtain ⟨rfl,rfl,x,h,rfl⟩:=hr
 obtain rfl:=Xat hc
 exact ⟨_,rfl,XDm Xes Xep hS _ x h⟩
def Xds:(List UInt8)→Option (Xb7×Int):=XhH Xes Xep
theorem XK2:Xar Tryz.prog 56 (s56 Xds):=ok56 Xes Xep (Xah.Xa0 ⟨XLa,XHY,trivial⟩)
def XhR (Xet:(List UInt8)→Xab→Xab→Option (Xas×(List UInt8)×Int)) (XcF:(List UInt8)→Option (Int×Int×Int)) (Xew:(List UInt8)→Xab→Xab→Option (XaV×(List UInt8)×Int)) (XbX:(List UInt8)→Option (XaI×Int)) (Xds:(List UInt8)→Option (Xb7×Int)) (s:List UInt8):Option (Xae×Int×Int×Int):=
 cond (decide ((s.length:Int)>9000))
  (
  some ((Xae.mk (XaA.mk 0 (Xab.mk false 0 0) (Xab.mk false 0 0) 0 0) 0 false 0 0 false [] 0,0,0,5)))
  (
  cond (s==[])
   (
   some ((Xae.mk (XaA.mk 0 (Xab.mk false 0 0) (Xab.mk false 0 0) 0 0) 0 false 0 0 false [] 0,0,0,2)))
   (
   (Xds s).bind fun xr=>
   cond (xr.2 !=0)
    (
    some ((Xae.mk (XaA.mk 0 (Xab.mk false 0 0) (Xab.mk false 0 0) 0 0) 0 false 0 0 false [] 0,0,0,xr.2)))
    (
    let t:=wI .i64 (xr.1.size+(xr.1.body.length:Int))
    cond (t !=(s.length:Int))
     (
     some ((Xae.mk (XaA.mk 0 (Xab.mk false 0 0) (Xab.mk false 0 0) 0 0) 0 false 0 0 false [] 0,0,0,5)))
     (
     cond (xr.1.proto==6)
      (
      (Xet xr.1.body xr.1.src xr.1.dst).bind fun xg=>
      cond (xg.2.2 !=0)
       (
       some ((Xae.mk (XaA.mk 0 (Xab.mk false 0 0) (Xab.mk false 0 0) 0 0) 0 false 0 0 false [] 0,0,0,xg.2.2)))
       (
       (XcF xg.1.Options).bind fun s1=>
       cond (decide (s1.2.2≥0))
        (
        let t1:=wI .i64 ((wI .i64 (xr.1.size+20))+(xg.1.Options.length:Int))
        some ((Xae.mk (XaA.mk xr.1.proto xr.1.src xr.1.dst xg.1.SPort xg.1.DPort) xg.1.Flags true s1.1 s1.2.1 false [] (s.length:Int),xr.1.size,t1,0)))
        (
        let t2:=wI .i64 ((wI .i64 (xr.1.size+20))+(xg.1.Options.length:Int))
        some ((Xae.mk (XaA.mk xr.1.proto xr.1.src xr.1.dst xg.1.SPort xg.1.DPort) xg.1.Flags false 0 0 false [] (s.length:Int),xr.1.size,t2,0)))))
      (
      cond (xr.1.proto !=17)
       (
       some ((Xae.mk (XaA.mk 0 (Xab.mk false 0 0) (Xab.mk false 0 0) 0 0) 0 false 0 0 false [] 0,0,0,6)))
       (
       (Xew xr.1.body xr.1.src xr.1.dst).bind fun xg1=>
       cond (xg1.2.2 !=0)
        (
        some ((Xae.mk (XaA.mk 0 (Xab.mk false 0 0) (Xab.mk false 0 0) 0 0) 0 false 0 0 false [] 0,0,0,xg1.2.2)))
        (
        let t3:=(wI .i64 ((xg1.2.1.length:Int)+8)) !=(xr.1.body.length:Int)
        cond (t3)
         (
         some ((Xae.mk (XaA.mk 0 (Xab.mk false 0 0) (Xab.mk false 0 0) 0 0) 0 false 0 0 false [] 0,0,0,5)))
         (
         (XbX xg1.2.1).bind fun xg2=>
         cond (xg2.2==0)
          (
          some ((Xae.mk (XaA.mk xr.1.proto xr.1.src xr.1.dst xg1.1.SPort xg1.1.DPort) 0 false 0 0 xg2.1.Long xg2.1.DCID (s.length:Int),xr.1.size,wI .i64 (xr.1.size+8),0)))
          (
          some ((Xae.mk (XaA.mk xr.1.proto xr.1.src xr.1.dst xg1.1.SPort xg1.1.DPort) 0 false 0 0 false [] (s.length:Int),xr.1.size,wI .i64 (xr.1.size+8),0)))))))))))
def rx31 (x:Xae×Int×Int×Int):Xcw:=⟨.tuple ⟨[.agg ⟨[.int .i64 x.1.Tuple.Proto,.bool x.1.Tuple.Src.V6,.int .u64 x.1.Tuple.Src.Hi,.int .u64 x.1.Tuple.Src.Lo,.bool x.1.Tuple.Dst.V6,.int .u64 x.1.Tuple.Dst.Hi,.int .u64 x.1.Tuple.Dst.Lo,.int .i64 x.1.Tuple.SPort,.int .i64 x.1.Tuple.DPort,.int .i64 x.1.Flags,.bool x.1.Stamped,.int .u32 x.1.Val,.int .u32 x.1.Echo,.bool x.1.Long,.string ⟨⟨x.1.CID⟩⟩,.int .i64 x.1.Size]⟩,.int .i64 x.2.1,.int .i64 x.2.2.1,.int .i64 x.2.2.2]⟩,[],[]⟩
def r31 (g:(List UInt8)→Option (Xae×Int×Int×Int)):Dec:=dV asS fun (y0:List UInt8)=>Xdd (ofG (g y0) rx31)
theorem r31_c {g:(List UInt8)→Option (Xae×Int×Int×Int)} {y0:List UInt8} {x:Xae×Int×Int×Int} (hx:g y0=some x):r31 g [.string ⟨⟨y0⟩⟩] []=some (rx31 x):=(XaX (XcI)).trans (Xa3 hx)
def s31 (g:(List UInt8)→Option (Xae×Int×Int×Int)):Xbu:=⟨[.v],r31 g⟩
theorem Xz1 {g:(List UInt8)→Option (Xae×Int×Int×Int)} {y0:List UInt8} {x:Xae×Int×Int×Int} (hx:g y0=some x):(s31 g).run [.string ⟨⟨y0⟩⟩] []=some (rx31 x):=r31_c hx
abbrev Xzq (Xet:(List UInt8)→Xab→Xab→Option (Xas×(List UInt8)×Int)) (XcF:(List UInt8)→Option (Int×Int×Int)) (Xew:(List UInt8)→Xab→Xab→Option (XaV×(List UInt8)×Int)) (XbX:(List UInt8)→Option (XaI×Int)) (Xds:(List UInt8)→Option (Xb7×Int)):List (Nat×Xbu):=[(57,s57 Xet),(58,s58 XcF),(59,s59 Xew),(21,s21 XbX),(56,s56 Xds)]
theorem XF3 (Xet:(List UInt8)→Xab→Xab→Option (Xas×(List UInt8)×Int)) (XcF:(List UInt8)→Option (Int×Int×Int)) (Xew:(List UInt8)→Xab→Xab→Option (XaV×(List UInt8)×Int)) (XbX:(List UInt8)→Option (XaI×Int)) (Xds:(List UInt8)→Option (Xb7×Int)) (hS:Xah Tryz.prog (Xav (Xzq Xet XcF Xew XbX Xds))) (s:List UInt8) (res:Xae×Int×Int×Int) (h:XhR Xet XcF Xew XbX Xds s=some res) :
 XaK Tryz.prog 31 0 ⟨⟨31,161,[(0,.string ⟨⟨s⟩⟩)],[.code XBK],[],false,none⟩,[],[],0⟩ (fun v H _=>Res 0 (rx31 res) v H):=by
 unfold XhR at h
 refine Xbi Xan hS true 3000 ?_
 conv=>whnf
 refine br.h h (by rfl) ?_ ?_
 ·clear h;intro hb h;conv=>whnf
  all_goals (cases h;exact Res.y)
 clear h;intro hb h;conv=>whnf
 refine br.h h (by rfl) ?_ ?_
 ·clear h;intro hb h;conv=>whnf
  all_goals (cases h;exact Res.y)
 clear h;intro hb h;conv=>whnf
 replace h:=Xai.elim h;obtain ⟨xr,hy,h⟩:=h
 refine XaJ.p (XJi hy) ?_
 conv=>whnf
 refine br.h h (by rfl) ?_ ?_
 ·clear h;intro hb h;conv=>whnf
  all_goals (cases h;exact Res.y)
 clear h;intro hb h;conv=>whnf
 let t:Int:=wI .i64 (xr.1.size+(xr.1.body.length:Int))
 refine br.h h (by rfl) ?_ ?_
 ·clear h;intro hb h;conv=>whnf
  all_goals (cases h;exact Res.y)
 clear h;intro hb h;conv=>whnf
 refine br.h h (by rfl) ?_ ?_
 ·clear h;intro hb h;conv=>whnf
  replace h:=Xai.elim h;obtain ⟨xg,hy,h⟩:=h
  refine XaJ.p (XIT hy) ?_
  conv=>whnf
  refine br.h h (by rfl) ?_ ?_
  ·clear h;intro hb h;conv=>whnf
   all_goals (cases h;exact Res.y)
  clear h;intro hb h;conv=>whnf
  replace h:=Xai.elim h;obtain ⟨s1,hy,h⟩:=h
  refine XaJ.p (XGH hy) ?_
  conv=>whnf
  refine br.h h (by rfl) ?_ ?_
  ·clear h;intro hb h;conv=>whnf
   let t1:Int:=wI .i64 ((wI .i64 (xr.1.size+20))+(xg.1.Options.length:Int))
   all_goals (cases h;exact Res.y)
  clear h;intro hb h;conv=>whnf
  let t2:Int:=wI .i64 ((wI .i64 (xr.1.size+20))+(xg.1.Options.length:Int))
  all_goals (cases h;exact Res.y)
 clear h;intro hb h;conv=>whnf
 refine br.h h (by rfl) ?_ ?_
 ·clear h;intro hb h;conv=>whnf
  all_goals (cases h;exact Res.y)
 clear h;intro hb h;conv=>whnf
 replace h:=Xai.elim h;obtain ⟨xg1,hy,h⟩:=h
 refine XaJ.p (XIw hy) ?_
 conv=>whnf
 refine br.h h (by rfl) ?_ ?_
 ·clear h;intro hb h;conv=>whnf
  all_goals (cases h;exact Res.y)
 clear h;intro hb h;conv=>whnf
 let t3:Bool:=(wI .i64 ((xg1.2.1.length:Int)+8)) !=(xr.1.body.length:Int)
 refine br.h h (by rfl) ?_ ?_
 ·clear h;intro hb h;conv=>whnf
  all_goals (cases h;exact Res.y)
 clear h;intro hb h;conv=>whnf
 replace h:=Xai.elim h;obtain ⟨xg2,hy,h⟩:=h
 refine XaJ.p (XoX hy) ?_
 conv=>whnf
 refine br.h h (by rfl) ?_ ?_
 ·clear h;intro hb h;conv=>whnf
  all_goals (cases h;exact Res.y)
 clear h;intro hb h;conv=>whnf
 all_goals (cases h;exact Res.y)
theorem ok31 (Xet:(List UInt8)→Xab→Xab→Option (Xas×(List UInt8)×Int)) (XcF:(List UInt8)→Option (Int×Int×Int)) (Xew:(List UInt8)→Xab→Xab→Option (XaV×(List UInt8)×Int)) (XbX:(List UInt8)→Option (XaI×Int)) (Xds:(List UInt8)→Option (Xb7×Int)) (hS:Xah Tryz.prog (Xav (Xzq Xet XcF Xew XbX Xds))):Xar Tryz.prog 31 (s31 (XhR Xet XcF Xew XbX Xds)):=by
 refine Xar.Xax Xan (fun ar os r ha hr=>?_) ⟨Tryz.f31,rfl,by decide,rfl⟩
 replace hr:r31 (XhR Xet XcF Xew XbX Xds) ar (XaH os)=some r:=hr
 unfold r31 at hr
 generalize hc:XaH os=C at hr
 replace hr:=dV.elim hr;obtain ⟨v0,l1,y0,rfl,e0,hr⟩:=hr;obtain rfl:=XbM _ _ e0
 replace hr:=Xdw hr;obtain ⟨rfl,rfl,x,h,rfl⟩:=hr
 obtain rfl:=Xat hc
 exact ⟨_,rfl,XF3 Xet XcF Xew XbX Xds hS _ x h⟩
def XbP:(List UInt8)→Option (Xae×Int×Int×Int):=XhR Xet XcF Xew XbX Xds
theorem XAt:Xar Tryz.prog 31 (s31 XbP):=ok31 Xet XcF Xew XbX Xds (Xah.Xa0 ⟨XGZ,XIq,XIH,XLG,XK2,trivial⟩)
def XgZ (XbP:(List UInt8)→Option (Xae×Int×Int×Int)) (s:List UInt8):Option (Xae×Int):=
 (XbP s).bind fun t=>
 some ((t.1,t.2.2.2))
def rx15 (x:Xae×Int):Xcw:=⟨.tuple ⟨[.agg ⟨[.int .i64 x.1.Tuple.Proto,.bool x.1.Tuple.Src.V6,.int .u64 x.1.Tuple.Src.Hi,.int .u64 x.1.Tuple.Src.Lo,.bool x.1.Tuple.Dst.V6,.int .u64 x.1.Tuple.Dst.Hi,.int .u64 x.1.Tuple.Dst.Lo,.int .i64 x.1.Tuple.SPort,.int .i64 x.1.Tuple.DPort,.int .i64 x.1.Flags,.bool x.1.Stamped,.int .u32 x.1.Val,.int .u32 x.1.Echo,.bool x.1.Long,.string ⟨⟨x.1.CID⟩⟩,.int .i64 x.1.Size]⟩,.int .i64 x.2]⟩,[],[]⟩
def r15 (g:(List UInt8)→Option (Xae×Int)):Dec:=dV asS fun (y0:List UInt8)=>Xdd (ofG (g y0) rx15)
theorem r15_c {g:(List UInt8)→Option (Xae×Int)} {y0:List UInt8} {x:Xae×Int} (hx:g y0=some x):r15 g [.string ⟨⟨y0⟩⟩] []=some (rx15 x):=(XaX (XcI)).trans (Xa3 hx)
def s15 (g:(List UInt8)→Option (Xae×Int)):Xbu:=⟨[.v],r15 g⟩
theorem XkH {g:(List UInt8)→Option (Xae×Int)} {y0:List UInt8} {x:Xae×Int} (hx:g y0=some x):(s15 g).run [.string ⟨⟨y0⟩⟩] []=some (rx15 x):=r15_c hx
abbrev XBx (XbP:(List UInt8)→Option (Xae×Int×Int×Int)):List (Nat×Xbu):=[(31,s31 XbP)]
theorem XEy (XbP:(List UInt8)→Option (Xae×Int×Int×Int)) (hS:Xah Tryz.prog (Xav (XBx XbP))) (s:List UInt8) (res:Xae×Int) (h:XgZ XbP s=some res) :
 XaK Tryz.prog 15 0 ⟨⟨15,17,[(0,.string ⟨⟨s⟩⟩)],[.code XHb],[],false,none⟩,[],[],0⟩ (fun v H _=>Res 0 (rx15 res) v H):=by
 unfold XgZ at h
 refine Xbi Xan hS true 3000 ?_
 conv=>whnf
 replace h:=Xai.elim h;obtain ⟨t,hy,h⟩:=h
 refine XaJ.p (Xz1 hy) ?_
 conv=>whnf
 all_goals (cases h;exact Res.y)
theorem ok15 (XbP:(List UInt8)→Option (Xae×Int×Int×Int)) (hS:Xah Tryz.prog (Xav (XBx XbP))):Xar Tryz.prog 15 (s15 (XgZ XbP)):=by
 refine Xar.Xax Xan (fun ar os r ha hr=>?_) ⟨Tryz.f15,rfl,by decide,rfl⟩
 replace hr:r15 (XgZ XbP) ar (XaH os)=some r:=hr
 unfold r15 at hr
 generalize hc:XaH os=C at hr
 replace hr:=dV.elim hr;obtain ⟨v0,l1,y0,rfl,e0,hr⟩:=hr;obtain rfl:=XbM _ _ e0
 replace hr:=Xdw hr;obtain ⟨rfl,rfl,x,h,rfl⟩:=hr
 obtain rfl:=Xat hc
 exact ⟨_,rfl,XEy XbP hS _ x h⟩
def Xbb:(List UInt8)→Option (Xae×Int):=XgZ XbP
theorem XJr:Xar Tryz.prog 15 (s15 Xbb):=ok15 XbP (Xah.Xa0 ⟨XAt,trivial⟩)
def XgP (XbP:(List UInt8)→Option (Xae×Int×Int×Int)) (s:List UInt8):Option (Int×Int×Int):=
 (XbP s).bind fun t=>
 some ((t.2.1,t.2.2.1,t.2.2.2))
def rx20 (x:Int×Int×Int):Xcw:=⟨.tuple ⟨[.int .i64 x.1,.int .i64 x.2.1,.int .i64 x.2.2]⟩,[],[]⟩
def r20 (g:(List UInt8)→Option (Int×Int×Int)):Dec:=dV asS fun (y0:List UInt8)=>Xdd (ofG (g y0) rx20)
theorem r20_c {g:(List UInt8)→Option (Int×Int×Int)} {y0:List UInt8} {x:Int×Int×Int} (hx:g y0=some x):r20 g [.string ⟨⟨y0⟩⟩] []=some (rx20 x):=(XaX (XcI)).trans (Xa3 hx)
def s20 (g:(List UInt8)→Option (Int×Int×Int)):Xbu:=⟨[.v],r20 g⟩
theorem Xrx {g:(List UInt8)→Option (Int×Int×Int)} {y0:List UInt8} {x:Int×Int×Int} (hx:g y0=some x):(s20 g).run [.string ⟨⟨y0⟩⟩] []=some (rx20 x):=r20_c hx
abbrev XBF (XbP:(List UInt8)→Option (Xae×Int×Int×Int)):List (Nat×Xbu):=[(31,s31 XbP)]
theorem XE7 (XbP:(List UInt8)→Option (Xae×Int×Int×Int)) (hS:Xah Tryz.prog (Xav (XBF XbP))) (s:List UInt8) (res:Int×Int×Int) (h:XgP XbP s=some res) :
 XaK Tryz.prog 20 0 ⟨⟨20,19,[(0,.string ⟨⟨s⟩⟩)],[.code XLr],[],false,none⟩,[],[],0⟩ (fun v H _=>Res 0 (rx20 res) v H):=by
 unfold XgP at h
 refine Xbi Xan hS true 3000 ?_
 conv=>whnf
 replace h:=Xai.elim h;obtain ⟨t,hy,h⟩:=h
 refine XaJ.p (Xz1 hy) ?_
 conv=>whnf
 all_goals (cases h;exact Res.y)
theorem ok20 (XbP:(List UInt8)→Option (Xae×Int×Int×Int)) (hS:Xah Tryz.prog (Xav (XBF XbP))):Xar Tryz.prog 20 (s20 (XgP XbP)):=by
 refine Xar.Xax Xan (fun ar os r ha hr=>?_) ⟨Tryz.f20,rfl,by decide,rfl⟩
 replace hr:r20 (XgP XbP) ar (XaH os)=some r:=hr
 unfold r20 at hr
 generalize hc:XaH os=C at hr
 replace hr:=dV.elim hr;obtain ⟨v0,l1,y0,rfl,e0,hr⟩:=hr;obtain rfl:=XbM _ _ e0
 replace hr:=Xdw hr;obtain ⟨rfl,rfl,x,h,rfl⟩:=hr
 obtain rfl:=Xat hc
 exact ⟨_,rfl,XE7 XbP hS _ x h⟩
def Xci:(List UInt8)→Option (Int×Int×Int):=XgP XbP
theorem lift20:Xar Tryz.prog 20 (s20 Xci):=ok20 XbP (Xah.Xa0 ⟨XAt,trivial⟩)
end Go.Vm.Code
namespace Go.Vm.Code
open Go Go.Vm
def Xke (s:List UInt8):Xb7×Int:=
 if vK s 0 1/16=4 then (⟨(Xgx s).1.Src,(Xgx s).1.Dst,(Xgx s).1.Proto,20+((Xgx s).1.Options.length:Int),(Xgx s).2.1⟩,(Xgx s).2.2)
 else if vK s 0 1/16=6 then (⟨(Xh5 s).1.Src,(Xh5 s).1.Dst,(Xh5 s).1.Next,40,(Xh5 s).2.1⟩,(Xh5 s).2.2)
 else (⟨⟨false,0,0⟩,⟨false,0,0⟩,0,0,[]⟩,3)
theorem XrW (s:List UInt8):(Xgx s).1.Options.length≤s.length∧(Xgx s).2.1.length≤s.length:=by
 unfold Xgx
 repeat' split
 all_goals simp [Xmb]
 omega
theorem XxW (s:List UInt8):(Xh5 s).2.1.length≤s.length:=by
 unfold Xh5
 repeat' split
 all_goals simp
 omega
theorem XCt {s:List UInt8} (hs:s.length<2^19) (hn:s≠[]):Xds s=some (Xke s):=by
 unfold Xds XhH Xke
 have h0:0<s.length:=List.length_pos_iff.2 hn
 have e0:=XiH (s:=s) (p:=0) h0
 have r0:=XdE s 0 1 256 (by decide)
 obtain ⟨b1,b2⟩:=XrW s
 rw [List.getElem?_eq_getElem h0,Option.bind_some,←e0,Int.tdiv_eq_ediv_of_nonneg (by omega),wU8 (by omega) (by omega),XJK (by omega),XyB (by omega),Option.bind_some,Option.bind_some]
 by_cases g1:vK s 0 1/16=4
 ·rw [if_pos g1,show (vK s 0 1/16==4)=true by simpa using g1,cond_true]
  rw [XcC (n:=20+((Xgx s).1.Options.length:Int)) (by omega) (by omega)]
 ·rw [if_neg g1,show (vK s 0 1/16==4)=false by simpa using g1,cond_false,Option.bind_some,←e0,Int.tdiv_eq_ediv_of_nonneg (by omega),wU8 (by omega) (by omega)]
  by_cases g4:vK s 0 1/16=6
  ·rw [if_pos g4,show (vK s 0 1/16==6)=true by simpa using g4,cond_true]
  ·rw [if_neg g4,show (vK s 0 1/16==6)=false by simpa using g4,cond_false]
theorem Xxj {s:List UInt8} (h:(Xke s).2≠0):(Xag s).err=(Xke s).2:=by
 unfold Xke Xag at *
 split
 ·rename_i g;rw [if_pos g] at h;rw [if_pos h];rfl
 ·rename_i g;rw [if_neg g] at h
  split
  ·rename_i g2;rw [if_pos g2] at h;rw [if_pos h];rfl
  ·rfl
theorem XtC {s:List UInt8} (h:(Xke s).2=0) (h2:(Xke s).1.size+((Xke s).1.body.length:Int)≠(s.length:Int)):(Xag s).err=5:=by
 unfold Xke Xag at *
 split
 ·rename_i g;rw [if_pos g] at h h2;rw [if_neg (by simpa using h),if_pos (by simp only [] at h2;omega)];rfl
 ·rename_i g;rw [if_neg g] at h h2
  split
  ·rename_i g2;rw [if_pos g2] at h h2;rw [if_neg (by simpa using h),if_pos (by simp only [] at h2;omega)];rfl
  ·rename_i g2;rw [if_neg g2] at h;exact absurd h (by decide)
theorem XFo {s:List UInt8} (h:(Xke s).2=0) (h2:(Xke s).1.size+((Xke s).1.body.length:Int)=(s.length:Int)):(Xag s).err=0∧(Xke s).1=⟨(Xag s).src,(Xag s).dst,(Xag s).proto,((Xag s).size:Int),(Xag s).body⟩:=by
 unfold Xke Xag at *
 by_cases g:vK s 0 1/16=4
 ·rw [if_pos g] at h h2;rw [if_pos g,if_pos g,if_neg (by simpa using h),if_neg (by simp only [] at h2;omega)];exact ⟨rfl,rfl⟩
 ·rw [if_neg g] at h h2
  by_cases g2:vK s 0 1/16=6
  ·rw [if_pos g2] at h h2;rw [if_neg g,if_neg g,if_pos g2,if_pos g2,if_neg (by simpa using h),if_neg (by simp only [] at h2;omega)];exact ⟨rfl,rfl⟩
  ·rw [if_neg g2] at h;exact absurd h (by decide)
theorem Xyh {b:List UInt8} {src dst:Xab} (h:(Xfm b src dst).2.2=0):20+(Xfm b src dst).1.Options.length+(Xfm b src dst).2.1.length=b.length:=by
 have r:=XdE b 12 1 256 (by decide)
 unfold Xfm at h ⊢
 by_cases g0:b.length<20
 ·rw [if_pos g0] at h;exact absurd h (by decide)
 by_cases g1:4*(vK b 12 1/16)<20
 ·rw [if_neg g0,if_pos g1] at h;exact absurd h (by decide)
 by_cases g2:vK b 12 1%16≠0
 ·rw [if_neg g0,if_neg g1,if_pos g2] at h;exact absurd h (by decide)
 by_cases g3:(b.length:Int)<4*(vK b 12 1/16)
 ·rw [if_neg g0,if_neg g1,if_neg g2,if_pos g3] at h;exact absurd h (by decide)
 by_cases g4:Xlw src dst 6 b.length=[]
 ·rw [if_neg g0,if_neg g1,if_neg g2,if_neg g3,if_pos g4] at h;exact absurd h (by decide)
 by_cases g5:norm (Xdp (Xlw src dst 6 b.length++b))≠65535
 ·rw [if_neg g0,if_neg g1,if_neg g2,if_neg g3,if_neg g4,if_pos g5] at h;exact absurd h (by decide)
 by_cases g6:(Xi4 ((b.drop 20).take ((4*(vK b 12 1/16)).toNat - 20))).2≠0
 ·rw [if_neg g0,if_neg g1,if_neg g2,if_neg g3,if_neg g4,if_neg g5,if_pos g6] at h;exact absurd h g6
 rw [if_neg g0,if_neg g1,if_neg g2,if_neg g3,if_neg g4,if_neg g5,if_neg g6]
 simp only [List.length_take,List.length_drop]
 omega
theorem Xr7 {s:List UInt8} (hs:s.length<2^19):XbP s=some ((Xaq s).1,((Xaq s).2.1:Int),((Xaq s).2.2.1:Int),(Xaq s).2.2.2):=by
 unfold XbP XhR
 have hz:(⟨⟨0,⟨false,0,0⟩,⟨false,0,0⟩,0,0⟩,0,false,0,0,false,[],0⟩:Xae)=zP:=rfl
 rw [hz]
 simp only []
 by_cases g1:9000<s.length
 ·have hT:Xaq s=(zP,0,0,5):=by unfold Xaq;rw [if_pos g1]
  rw [XaZ (by omega),hT];rfl
 rw [XaO (by omega)]
 by_cases g2:s=[]
 ·subst g2;rfl
 rw [show (s==[])=false by simpa using g2,cond_false,XCt hs g2,Option.bind_some]
 by_cases g3:(Xke s).2=0
 ·rw [show ((Xke s).2 !=0)=false by simpa using g3,cond_false]
  have bs:(Xke s).1.body.length≤s.length∧0≤(Xke s).1.size∧(Xke s).1.size≤40+(s.length:Int):=by
   obtain ⟨b1,b2⟩:=XrW s
   have b3:=XxW s
   unfold Xke
   split
   ·exact ⟨b2,by simp only [];omega,by simp only [];omega⟩
   split
   ·exact ⟨b3,by simp only [];omega,by simp only [];omega⟩
   ·exact ⟨by simp,by simp only [];omega,by simp only [];omega⟩
  rw [XcC (n:=(Xke s).1.size+((Xke s).1.body.length:Int)) (by omega) (by omega)]
  by_cases gl:(Xke s).1.size+((Xke s).1.body.length:Int)=(s.length:Int)
  ·obtain ⟨k1,k2⟩:=XFo g3 gl
   rw [show ((Xke s).1.size+((Xke s).1.body.length:Int) !=(s.length:Int))=false by simpa using gl,k2]
   simp only [cond_false]
   obtain ⟨a1,a2⟩:=XoU s
   have hb:=XdT k1
   have hE:(Xez (Xag s) s.length).2.2≠0→Xaq s=(zP,0,0,(Xez (Xag s) s.length).2.2):=fun g4=>by
    unfold Xaq;rw [if_neg g1,if_neg g2,if_neg (by simpa using k1),if_pos g4]
   have hO:(Xez (Xag s) s.length).2.2=0→Xaq s=((Xez (Xag s) s.length).1,s.length - (Xag s).body.length,s.length - (Xez (Xag s) s.length).2.1,0):=fun g4=>by
    unfold Xaq;rw [if_neg g1,if_neg g2,if_neg (by simpa using k1),if_neg (by simpa using g4)]
   generalize hO':Xag s=o at *
   by_cases p6:o.proto=6
   ·rw [show (o.proto==6)=true by simpa using p6,cond_true,Xyb a1 a2 (by omega),Option.bind_some]
    by_cases g:(Xfm o.body o.src o.dst).2.2=0
    ·have hl7:=Xyh g
     have hin:Xez o s.length=(⟨⟨o.proto,o.src,o.dst,(Xfm o.body o.src o.dst).1.SPort,(Xfm o.body o.src o.dst).1.DPort⟩,(Xfm o.body o.src o.dst).1.Flags,(Xsw (Xfm o.body o.src o.dst).1.Options).1,(Xsw (Xfm o.body o.src o.dst).1.Options).2.1,(Xsw (Xfm o.body o.src o.dst).1.Options).2.2,false,[],s.length⟩,(Xfm o.body o.src o.dst).2.1.length,0):=by
      unfold Xez;rw [if_pos p6,if_neg (by simpa using g)]
     rw [hO (by rw [hin]),hin]
     rw [show ((Xfm o.body o.src o.dst).2.2 !=0)=false by simpa using g,cond_false,XGc (by omega),Option.bind_some]
     simp only []
     rw [XcC (n:=(o.size:Int)+20) (by omega) (by omega),XcC (n:=(o.size:Int)+20+((Xfm o.body o.src o.dst).1.Options.length:Int)) (by omega) (by omega),show ((s.length - o.body.length:Nat):Int)=(o.size:Int) by omega,show ((s.length - (Xfm o.body o.src o.dst).2.1.length:Nat):Int)=(o.size:Int)+20+((Xfm o.body o.src o.dst).1.Options.length:Int) by omega]
     unfold Xsw
     by_cases g5:0≤(Xeh (Xfm o.body o.src o.dst).1.Options).2.2
     ·rw [if_pos g5,XaZ (by omega)]
     ·rw [if_neg g5,XaO (by omega)]
    ·have hin:Xez o s.length=(zP,0,(Xfm o.body o.src o.dst).2.2):=by
      unfold Xez;rw [if_pos p6,if_pos g]
     rw [hE (by rw [hin];exact g),hin,show ((Xfm o.body o.src o.dst).2.2 !=0)=true by simpa using g];rfl
   ·rw [show (o.proto==6)=false by simpa using p6,cond_false]
    by_cases p17:o.proto=17
    ·rw [show (o.proto !=17)=false by simpa using p17,cond_false,Xw6 a1 a2 (by omega),Option.bind_some]
     by_cases g:(Xfj o.body o.src o.dst).2.2=0
     ·have hb8:(Xfj o.body o.src o.dst).2.1.length≤o.body.length:=by
       unfold Xfj
       repeat' split
       all_goals simp
       all_goals omega
      rw [show ((Xfj o.body o.src o.dst).2.2 !=0)=false by simpa using g,cond_false]
      rw [XcC (n:=((Xfj o.body o.src o.dst).2.1.length:Int)+8) (by omega) (by omega)]
      by_cases g6:(Xfj o.body o.src o.dst).2.1.length+8=o.body.length
      ·have hin:Xez o s.length=(⟨⟨o.proto,o.src,o.dst,(Xfj o.body o.src o.dst).1.SPort,(Xfj o.body o.src o.dst).1.DPort⟩,0,false,0,0,(Xsk (Xfj o.body o.src o.dst).2.1).1,(Xsk (Xfj o.body o.src o.dst).2.1).2,s.length⟩,(Xfj o.body o.src o.dst).2.1.length,0):=by
        unfold Xez;rw [if_neg p6,if_pos p17,if_neg (by simpa using g),if_neg (by simpa using g6)]
       rw [hO (by rw [hin]),hin,show (((Xfj o.body o.src o.dst).2.1.length:Int)+8 !=(o.body.length:Int))=false by simp;omega,cond_false,XrO (by omega),Option.bind_some,XcC (n:=(o.size:Int)+8) (by omega) (by omega)]
       simp only []
       rw [show ((s.length - o.body.length:Nat):Int)=(o.size:Int) by omega,show ((s.length - (Xfj o.body o.src o.dst).2.1.length:Nat):Int)=(o.size:Int)+8 by omega]
       unfold Xsk
       by_cases g5:(XeW (Xfj o.body o.src o.dst).2.1).2=0
       ·rw [if_pos g5,show ((XeW (Xfj o.body o.src o.dst).2.1).2==0)=true by simpa using g5,cond_true]
       ·rw [if_neg g5,show ((XeW (Xfj o.body o.src o.dst).2.1).2==0)=false by simpa using g5,cond_false]
      ·have hin:Xez o s.length=(zP,0,5):=by
        unfold Xez;rw [if_neg p6,if_pos p17,if_neg (by simpa using g),if_pos g6]
       rw [hE (by rw [hin];decide),hin,show (((Xfj o.body o.src o.dst).2.1.length:Int)+8 !=(o.body.length:Int))=true by simp;omega];rfl
     ·have hin:Xez o s.length=(zP,0,(Xfj o.body o.src o.dst).2.2):=by
       unfold Xez;rw [if_neg p6,if_pos p17,if_pos g]
      rw [hE (by rw [hin];exact g),hin,show ((Xfj o.body o.src o.dst).2.2 !=0)=true by simpa using g];rfl
    ·have hin:Xez o s.length=(zP,0,6):=by
      unfold Xez;rw [if_neg p6,if_neg p17]
     rw [hE (by rw [hin];decide),hin,show (o.proto !=17)=true by simpa using p17];rfl
  ·have hT:Xaq s=(zP,0,0,5):=by
    have e:=XtC g3 gl
    unfold Xaq;rw [if_neg g1,if_neg g2,if_pos (by rw [e];decide),e]
   rw [hT,show ((Xke s).1.size+((Xke s).1.body.length:Int) !=(s.length:Int))=true by simpa using gl];rfl
 ·have hT:Xaq s=(zP,0,0,(Xke s).2):=by
   have e:=Xxj g3
   unfold Xaq;rw [if_neg g1,if_neg g2,if_pos (by rw [e];exact g3),e]
  rw [hT,show ((Xke s).2 !=0)=true by simpa using g3];rfl
theorem Xks {s:List UInt8} (hs:s.length<2^19):Xbb s=some ((Xaq s).1,(Xaq s).2.2.2):=by
 unfold Xbb XgZ
 rw [Xr7 hs,Option.bind_some]
theorem XtT {s:List UInt8} (hs:s.length<2^19):Xci s=some (((Xaq s).2.1:Int),((Xaq s).2.2.1:Int),(Xaq s).2.2.2):=by
 unfold Xci XgP
 rw [Xr7 hs,Option.bind_some]
end Go.Vm.Code
namespace Go.Vm.Code
open Go Go.Vm Go.Proofs
set_option maxRecDepth 100000
set_option maxHeartbeats 4000000
set_option linter.unusedVariables false
def XkQ (XaG:Xab→Option Bool) (XeK:Xak→(List UInt8)→Option ((List UInt8)×Int)) (XeL:Xao→(List UInt8)→Option ((List UInt8)×Int)) (t:XaA) (body:List UInt8):Option ((List UInt8)×Int):=
 cond (!(t.Src.V6==t.Dst.V6))
  (
  some (([],1)))
  (
  (XaG t.Src).bind fun xr=>
  cond (!xr)
   (
   some (([],1)))
   (
   (XaG t.Dst).bind fun xr1=>
   cond (!xr1)
    (
    some (([],1)))
    (
    cond (t.Proto !=6)
     (
     cond (t.Proto !=17)
      (
      some (([],1)))
      (
      (XeL (Xao.mk 0 0 t.Proto 64 t.Src t.Dst) body).bind fun p=>
      cond (!t.Src.V6)
       (
       (XeK (Xak.mk 0 0 true 64 t.Proto t.Src t.Dst []) body).bind fun p1=>
       cond (p1.2==0)
        (
        cond (decide ((p1.1.length:Int)>9000))
         (
         some (([],5)))
         (
         some ((p1.1,p1.2))))
        (
        some ((p1.1,p1.2))))
       (
       cond (p.2==0)
        (
        cond (decide ((p.1.length:Int)>9000))
         (
         some (([],5)))
         (
         some ((p.1,p.2))))
        (
        some ((p.1,p.2))))))
     (
     (XeL (Xao.mk 0 0 t.Proto 64 t.Src t.Dst) body).bind fun p2=>
     cond (!t.Src.V6)
      (
      (XeK (Xak.mk 0 0 true 64 t.Proto t.Src t.Dst []) body).bind fun p3=>
      cond (p3.2==0)
       (
       cond (decide ((p3.1.length:Int)>9000))
        (
        some (([],5)))
        (
        some ((p3.1,p3.2))))
       (
       some ((p3.1,p3.2))))
      (
      cond (p2.2==0)
       (
       cond (decide ((p2.1.length:Int)>9000))
        (
        some (([],5)))
        (
        some ((p2.1,p2.2))))
       (
       some ((p2.1,p2.2))))))))
def rx54 (x:(List UInt8)×Int):Xcw:=⟨.tuple ⟨[.string ⟨⟨x.1⟩⟩,.int .i64 x.2]⟩,[],[]⟩
def r54 (g:XaA→(List UInt8)→Option ((List UInt8)×Int)):Dec:=dV Xg6 fun (y0:XaA)=>dV asS fun (y1:List UInt8)=>Xdd (ofG (g y0 y1) rx54)
theorem r54_c {g:XaA→(List UInt8)→Option ((List UInt8)×Int)} {y0:XaA} {y1:List UInt8} {x:(List UInt8)×Int} (hx:g y0 y1=some x):r54 g [.agg ⟨[.int .i64 y0.Proto,.bool y0.Src.V6,.int .u64 y0.Src.Hi,.int .u64 y0.Src.Lo,.bool y0.Dst.V6,.int .u64 y0.Dst.Hi,.int .u64 y0.Dst.Lo,.int .i64 y0.SPort,.int .i64 y0.DPort]⟩,.string ⟨⟨y1⟩⟩] []=some (rx54 x):=(XaX (Xkp _)).trans ((XaX (XcI)).trans (Xa3 hx))
def s54 (g:XaA→(List UInt8)→Option ((List UInt8)×Int)):Xbu:=⟨[.v,.v],r54 g⟩
theorem XIA {g:XaA→(List UInt8)→Option ((List UInt8)×Int)} {y0:XaA} {y1:List UInt8} {x:(List UInt8)×Int} (hx:g y0 y1=some x):(s54 g).run [.agg ⟨[.int .i64 y0.Proto,.bool y0.Src.V6,.int .u64 y0.Src.Hi,.int .u64 y0.Src.Lo,.bool y0.Dst.V6,.int .u64 y0.Dst.Hi,.int .u64 y0.Dst.Lo,.int .i64 y0.SPort,.int .i64 y0.DPort]⟩,.string ⟨⟨y1⟩⟩] []=some (rx54 x):=r54_c hx
abbrev XAv (XaG:Xab→Option Bool) (XeK:Xak→(List UInt8)→Option ((List UInt8)×Int)) (XeL:Xao→(List UInt8)→Option ((List UInt8)×Int)):List (Nat×Xbu):=[(97,s97 XaG),(52,s52 XeK),(51,s51 XeL)]
theorem XDO (XaG:Xab→Option Bool) (XeK:Xak→(List UInt8)→Option ((List UInt8)×Int)) (XeL:Xao→(List UInt8)→Option ((List UInt8)×Int)) (hS:Xah Tryz.prog (Xav (XAv XaG XeK XeL))) (t:XaA) (body:List UInt8) (res:(List UInt8)×Int) (h:XkQ XaG XeK XeL t body=some res) :
 XaK Tryz.prog 54 0 ⟨⟨54,74,[(0,.agg ⟨[.int .i64 t.Proto,.bool t.Src.V6,.int .u64 t.Src.Hi,.int .u64 t.Src.Lo,.bool t.Dst.V6,.int .u64 t.Dst.Hi,.int .u64 t.Dst.Lo,.int .i64 t.SPort,.int .i64 t.DPort]⟩),(1,.string ⟨⟨body⟩⟩)],[.code XAH],[],false,none⟩,[],[],0⟩ (fun v H _=>Res 0 (rx54 res) v H):=by
 unfold XkQ at h
 refine Xbi Xan hS true 3000 ?_
 conv=>whnf
 refine br.h h (by rfl) ?_ ?_
 ·clear h;intro hb h;conv=>whnf
  all_goals (cases h;exact Res.y)
 clear h;intro hb h;conv=>whnf
 replace h:=Xai.elim h;obtain ⟨xr,hy,h⟩:=h
 refine XaJ.p (Xnt hy) ?_
 conv=>whnf
 refine br.h h (by rfl) ?_ ?_
 ·clear h;intro hb h;conv=>whnf
  all_goals (cases h;exact Res.y)
 clear h;intro hb h;conv=>whnf
 replace h:=Xai.elim h;obtain ⟨xr1,hy,h⟩:=h
 refine XaJ.p (Xnt hy) ?_
 conv=>whnf
 refine br.h h (by rfl) ?_ ?_
 ·clear h;intro hb h;conv=>whnf
  all_goals (cases h;exact Res.y)
 clear h;intro hb h;conv=>whnf
 refine br.h2 h (by rfl) ?_ ?_
 ·clear h;intro hb h;conv=>whnf
  replace h:=Xai.elim h;obtain ⟨p2,hy,h⟩:=h
  refine XaJ.p (XAk hy) ?_
  conv=>whnf
  refine br.h2 h (by rfl) ?_ ?_
  ·clear h;intro hb h;conv=>whnf
   refine br.h2 h (by rfl) ?_ ?_
   ·clear h;intro hb h;conv=>whnf
    all_goals (cases h;exact Res.y)
   clear h;intro hb h;conv=>whnf
   refine br.h h (by rfl) ?_ ?_
   ·clear h;intro hb h;conv=>whnf
    all_goals (cases h;exact Res.y)
   clear h;intro hb h;conv=>whnf
   all_goals (cases h;exact Res.y)
  clear h;intro hb h;conv=>whnf
  replace h:=Xai.elim h;obtain ⟨p3,hy,h⟩:=h
  refine XaJ.p (XBA hy) ?_
  conv=>whnf
  refine br.h2 h (by rfl) ?_ ?_
  ·clear h;intro hb h;conv=>whnf
   all_goals (cases h;exact Res.y)
  clear h;intro hb h;conv=>whnf
  refine br.h h (by rfl) ?_ ?_
  ·clear h;intro hb h;conv=>whnf
   all_goals (cases h;exact Res.y)
  clear h;intro hb h;conv=>whnf
  all_goals (cases h;exact Res.y)
 clear h;intro hb h;conv=>whnf
 refine br.h h (by rfl) ?_ ?_
 ·clear h;intro hb h;conv=>whnf
  all_goals (cases h;exact Res.y)
 clear h;intro hb h;conv=>whnf
 replace h:=Xai.elim h;obtain ⟨p,hy,h⟩:=h
 refine XaJ.p (XAk hy) ?_
 conv=>whnf
 refine br.h2 h (by rfl) ?_ ?_
 ·clear h;intro hb h;conv=>whnf
  refine br.h2 h (by rfl) ?_ ?_
  ·clear h;intro hb h;conv=>whnf
   all_goals (cases h;exact Res.y)
  clear h;intro hb h;conv=>whnf
  refine br.h h (by rfl) ?_ ?_
  ·clear h;intro hb h;conv=>whnf
   all_goals (cases h;exact Res.y)
  clear h;intro hb h;conv=>whnf
  all_goals (cases h;exact Res.y)
 clear h;intro hb h;conv=>whnf
 replace h:=Xai.elim h;obtain ⟨p1,hy,h⟩:=h
 refine XaJ.p (XBA hy) ?_
 conv=>whnf
 refine br.h2 h (by rfl) ?_ ?_
 ·clear h;intro hb h;conv=>whnf
  all_goals (cases h;exact Res.y)
 clear h;intro hb h;conv=>whnf
 refine br.h h (by rfl) ?_ ?_
 ·clear h;intro hb h;conv=>whnf
  all_goals (cases h;exact Res.y)
 clear h;intro hb h;conv=>whnf
 all_goals (cases h;exact Res.y)
theorem ok54 (XaG:Xab→Option Bool) (XeK:Xak→(List UInt8)→Option ((List UInt8)×Int)) (XeL:Xao→(List UInt8)→Option ((List UInt8)×Int)) (hS:Xah Tryz.prog (Xav (XAv XaG XeK XeL))):Xar Tryz.prog 54 (s54 (XkQ XaG XeK XeL)):=by
 refine Xar.Xax Xan (fun ar os r ha hr=>?_) ⟨Tryz.f54,rfl,by decide,rfl⟩
 replace hr:r54 (XkQ XaG XeK XeL) ar (XaH os)=some r:=hr
 unfold r54 at hr
 generalize hc:XaH os=C at hr
 replace hr:=dV.elim hr;obtain ⟨v0,l1,y0,rfl,e0,hr⟩:=hr;obtain rfl:=XjQ _ _ e0
 replace hr:=dV.elim hr;obtain ⟨v1,l2,y1,rfl,e1,hr⟩:=hr;obtain rfl:=XbM _ _ e1
 replace hr:=Xdw hr;obtain ⟨rfl,rfl,x,h,rfl⟩:=hr
 obtain rfl:=Xat hc
 exact ⟨_,rfl,XDO XaG XeK XeL hS _ _ x h⟩
def XeV:XaA→(List UInt8)→Option ((List UInt8)×Int):=XkQ XaG XeK XeL
theorem XJw:Xar Tryz.prog 54 (s54 XeV):=ok54 XaG XeK XeL (Xah.Xa0 ⟨Xrd,XK3,XHL,trivial⟩)
def Xgr (XeU:Xas→Xab→Xab→(List UInt8)→Option ((List UInt8)×Int)) (XeV:XaA→(List UInt8)→Option ((List UInt8)×Int)) (t:XaA) (flags:Int) (options:List UInt8) (payload:List UInt8):Option ((List UInt8)×Int):=
 cond (t.Proto !=6)
  (
  some (([],1)))
  (
  (XeU (Xas.mk t.SPort t.DPort 0 0 flags 65535 0 options) t.Src t.Dst payload).bind fun p=>
  cond (p.2 !=0)
   (
   some (([],p.2)))
   (
   (XeV t p.1).bind fun p1=>
   some ((p1.1,p1.2))))
def rx29 (x:(List UInt8)×Int):Xcw:=⟨.tuple ⟨[.string ⟨⟨x.1⟩⟩,.int .i64 x.2]⟩,[],[]⟩
def r29 (g:XaA→Int→(List UInt8)→(List UInt8)→Option ((List UInt8)×Int)):Dec:=dV Xg6 fun (y0:XaA)=>dV (asI .i64) fun (y1:Int)=>dV asS fun (y2:List UInt8)=>dV asS fun (y3:List UInt8)=>Xdd (ofG (g y0 y1 y2 y3) rx29)
theorem r29_c {g:XaA→Int→(List UInt8)→(List UInt8)→Option ((List UInt8)×Int)} {y0:XaA} {y1:Int} {y2:List UInt8} {y3:List UInt8} {x:(List UInt8)×Int} (hx:g y0 y1 y2 y3=some x):r29 g [.agg ⟨[.int .i64 y0.Proto,.bool y0.Src.V6,.int .u64 y0.Src.Hi,.int .u64 y0.Src.Lo,.bool y0.Dst.V6,.int .u64 y0.Dst.Hi,.int .u64 y0.Dst.Lo,.int .i64 y0.SPort,.int .i64 y0.DPort]⟩,.int .i64 y1,.string ⟨⟨y2⟩⟩,.string ⟨⟨y3⟩⟩] []=some (rx29 x):=(XaX (Xkp _)).trans ((XaX (Xcv _)).trans ((XaX (XcI)).trans ((XaX (XcI)).trans (Xa3 hx))))
def s29 (g:XaA→Int→(List UInt8)→(List UInt8)→Option ((List UInt8)×Int)):Xbu:=⟨[.v,.v,.v,.v],r29 g⟩
theorem XBS {g:XaA→Int→(List UInt8)→(List UInt8)→Option ((List UInt8)×Int)} {y0:XaA} {y1:Int} {y2:List UInt8} {y3:List UInt8} {x:(List UInt8)×Int} (hx:g y0 y1 y2 y3=some x):(s29 g).run [.agg ⟨[.int .i64 y0.Proto,.bool y0.Src.V6,.int .u64 y0.Src.Hi,.int .u64 y0.Src.Lo,.bool y0.Dst.V6,.int .u64 y0.Dst.Hi,.int .u64 y0.Dst.Lo,.int .i64 y0.SPort,.int .i64 y0.DPort]⟩,.int .i64 y1,.string ⟨⟨y2⟩⟩,.string ⟨⟨y3⟩⟩] []=some (rx29 x):=r29_c hx
abbrev Xz3 (XeU:Xas→Xab→Xab→(List UInt8)→Option ((List UInt8)×Int)) (XeV:XaA→(List UInt8)→Option ((List UInt8)×Int)):List (Nat×Xbu):=[(53,s53 XeU),(54,s54 XeV)]
theorem XEA (XeU:Xas→Xab→Xab→(List UInt8)→Option ((List UInt8)×Int)) (XeV:XaA→(List UInt8)→Option ((List UInt8)×Int)) (hS:Xah Tryz.prog (Xav (Xz3 XeU XeV))) (t:XaA) (flags:Int) (options:List UInt8) (payload:List UInt8) (res:(List UInt8)×Int) (h:Xgr XeU XeV t flags options payload=some res) :
 XaK Tryz.prog 29 0 ⟨⟨29,39,[(0,.agg ⟨[.int .i64 t.Proto,.bool t.Src.V6,.int .u64 t.Src.Hi,.int .u64 t.Src.Lo,.bool t.Dst.V6,.int .u64 t.Dst.Hi,.int .u64 t.Dst.Lo,.int .i64 t.SPort,.int .i64 t.DPort]⟩),(1,.int .i64 flags),(2,.string ⟨⟨options⟩⟩),(3,.string ⟨⟨payload⟩⟩)],[.code XBs],[],false,none⟩,[],[],0⟩ (fun v H _=>Res 0 (rx29 res) v H):=by
 unfold Xgr at h
 refine Xbi Xan hS true 3000 ?_
 conv=>whnf
 refine br.h h (by rfl) ?_ ?_
 ·clear h;intro hb h;conv=>whnf
  all_goals (cases h;exact Res.y)
 clear h;intro hb h;conv=>whnf
 replace h:=Xai.elim h;obtain ⟨p,hy,h⟩:=h
 refine XaJ.p (XKQ hy) ?_
 conv=>whnf
 refine br.h h (by rfl) ?_ ?_
 ·clear h;intro hb h;conv=>whnf
  all_goals (cases h;exact Res.y)
 clear h;intro hb h;conv=>whnf
 replace h:=Xai.elim h;obtain ⟨p1,hy,h⟩:=h
 refine XaJ.p (XIA hy) ?_
 conv=>whnf
 all_goals (cases h;exact Res.y)
theorem ok29 (XeU:Xas→Xab→Xab→(List UInt8)→Option ((List UInt8)×Int)) (XeV:XaA→(List UInt8)→Option ((List UInt8)×Int)) (hS:Xah Tryz.prog (Xav (Xz3 XeU XeV))):Xar Tryz.prog 29 (s29 (Xgr XeU XeV)):=by
 refine Xar.Xax Xan (fun ar os r ha hr=>?_) ⟨Tryz.f29,rfl,by decide,rfl⟩
 replace hr:r29 (Xgr XeU XeV) ar (XaH os)=some r:=hr
 unfold r29 at hr
 generalize hc:XaH os=C at hr
 replace hr:=dV.elim hr;obtain ⟨v0,l1,y0,rfl,e0,hr⟩:=hr;obtain rfl:=XjQ _ _ e0
 replace hr:=dV.elim hr;obtain ⟨v1,l2,y1,rfl,e1,hr⟩:=hr;obtain rfl:=XbF _ _ _ e1
 replace hr:=dV.elim hr;obtain ⟨v2,l3,y2,rfl,e2,hr⟩:=hr;obtain rfl:=XbM _ _ e2
 replace hr:=dV.elim hr;obtain ⟨v3,l4,y3,rfl,e3,hr⟩:=hr;obtain rfl:=XbM _ _ e3
 replace hr:=Xdw hr;obtain ⟨rfl,rfl,x,h,rfl⟩:=hr
 obtain rfl:=Xat hc
 exact ⟨_,rfl,XEA XeU XeV hS _ _ _ _ x h⟩
def Xb0:XaA→Int→(List UInt8)→(List UInt8)→Option ((List UInt8)×Int):=Xgr XeU XeV
theorem XJe:Xar Tryz.prog 29 (s29 Xb0):=ok29 XeU XeV (Xah.Xa0 ⟨XLj,XJw,trivial⟩)
def Xgs (Xb8:Int→Int→Option (List UInt8)) (Xbb:(List UInt8)→Option (Xae×Int)) (Xb0:XaA→Int→(List UInt8)→(List UInt8)→Option ((List UInt8)×Int)) (Xbs:(List UInt8)→Int→Option ((List UInt8)×Int)):Option Bool:=
 (Xb0 (XaA.mk 6 (Xab.mk false 0 1) (Xab.mk false 0 2) 0 0) 16 [] []).bind fun s=>
 (Xb8 74565 7).bind fun s1=>
 (Xb0 (XaA.mk 6 (Xab.mk false 0 1) (Xab.mk false 0 2) 0 0) 16 s1 []).bind fun s2=>
 (Xbs s.1 1).bind fun xo=>
 (Xbs s2.1 43981).bind fun xo1=>
 (Xbb xo1.1).bind fun p=>
 cond (xo.2==6)
  (
  cond (xo1.2==0)
   (
   cond (p.2==0)
    (
    some (p.1.Val==2882347845))
    (
    some (false)))
   (
   some (false)))
  (
  some (false))
def rx14 (x:Bool):Xcw:=⟨.bool x,[],[]⟩
def r14 (g:Option Bool):Dec:=Xdd (ofG (g) rx14)
theorem r14_c {g:Option Bool} {x:Bool} (hx:g=some x):r14 g [] []=some (rx14 x):=Xa3 hx
def s14 (g:Option Bool):Xbu:=⟨[],r14 g⟩
theorem Xnk {g:Option Bool} {x:Bool} (hx:g=some x):(s14 g).run [] []=some (rx14 x):=r14_c hx
abbrev Xz0 (Xb8:Int→Int→Option (List UInt8)) (Xbb:(List UInt8)→Option (Xae×Int)) (Xb0:XaA→Int→(List UInt8)→(List UInt8)→Option ((List UInt8)×Int)) (Xbs:(List UInt8)→Int→Option ((List UInt8)×Int)):List (Nat×Xbu):=[(30,s30 Xb8),(15,s15 Xbb),(29,s29 Xb0),(16,s16 Xbs)]
theorem XEY (Xb8:Int→Int→Option (List UInt8)) (Xbb:(List UInt8)→Option (Xae×Int)) (Xb0:XaA→Int→(List UInt8)→(List UInt8)→Option ((List UInt8)×Int)) (Xbs:(List UInt8)→Int→Option ((List UInt8)×Int)) (hS:Xah Tryz.prog (Xav (Xz0 Xb8 Xbb Xb0 Xbs))) (res:Bool) (h:Xgs Xb8 Xbb Xb0 Xbs=some res) :
 XaK Tryz.prog 14 0 ⟨⟨14,56,[],[.code XA1],[],false,none⟩,[],[],0⟩ (fun v H _=>Res 0 (rx14 res) v H):=by
 unfold Xgs at h
 refine Xbi Xan hS true 3000 ?_
 conv=>whnf
 replace h:=Xai.elim h;obtain ⟨s,hy,h⟩:=h
 refine XaJ.p (XBS hy) ?_
 conv=>whnf
 replace h:=Xai.elim h;obtain ⟨s1,hy,h⟩:=h
 refine XaJ.p (XGJ hy) ?_
 conv=>whnf
 replace h:=Xai.elim h;obtain ⟨s2,hy,h⟩:=h
 refine XaJ.p (XBS hy) ?_
 conv=>whnf
 replace h:=Xai.elim h;obtain ⟨xo,hy,h⟩:=h
 refine XaJ.p (Xvs hy) ?_
 conv=>whnf
 replace h:=Xai.elim h;obtain ⟨xo1,hy,h⟩:=h
 refine XaJ.p (Xvs hy) ?_
 conv=>whnf
 replace h:=Xai.elim h;obtain ⟨p,hy,h⟩:=h
 refine XaJ.p (XkH hy) ?_
 conv=>whnf
 refine br.h2 h (by rfl) ?_ ?_
 ·clear h;intro hb h;conv=>whnf
  all_goals (cases h;exact Res.y)
 clear h;intro hb h;conv=>whnf
 refine br.h2 h (by rfl) ?_ ?_
 ·clear h;intro hb h;conv=>whnf
  all_goals (cases h;exact Res.y)
 clear h;intro hb h;conv=>whnf
 refine br.h h (by rfl) ?_ ?_
 ·clear h;intro hb h;conv=>whnf
  all_goals (cases h;exact Res.y)
 clear h;intro hb h;conv=>whnf
 all_goals (cases h;exact Res.y)
theorem ok14 (Xb8:Int→Int→Option (List UInt8)) (Xbb:(List UInt8)→Option (Xae×Int)) (Xb0:XaA→Int→(List UInt8)→(List UInt8)→Option ((List UInt8)×Int)) (Xbs:(List UInt8)→Int→Option ((List UInt8)×Int)) (hS:Xah Tryz.prog (Xav (Xz0 Xb8 Xbb Xb0 Xbs))):Xar Tryz.prog 14 (s14 (Xgs Xb8 Xbb Xb0 Xbs)):=by
 refine Xar.Xax Xan (fun ar os r ha hr=>?_) ⟨Tryz.f14,rfl,by decide,rfl⟩
 replace hr:r14 (Xgs Xb8 Xbb Xb0 Xbs) ar (XaH os)=some r:=hr
 unfold r14 at hr
 generalize hc:XaH os=C at hr
 replace hr:=Xdw hr;obtain ⟨rfl,rfl,x,h,rfl⟩:=hr
 obtain rfl:=Xat hc
 exact ⟨_,rfl,XEY Xb8 Xbb Xb0 Xbs hS x h⟩
def Xa5:Option Bool:=Xgs Xb8 Xbb Xb0 Xbs
theorem lift14:Xar Tryz.prog 14 (s14 Xa5):=ok14 Xb8 Xbb Xb0 Xbs (Xah.Xa0 ⟨XHA,XJr,XJe,XIF,trivial⟩)
def Xbz (Xa5:Option Bool) (ida3:Int) (i1:Int) (n1:Int) (k:Int) (xh:Bool) (xh1:Int) (xh2:Int) (xh3:List UInt8) (xh4:List UInt8) (xh5:List UInt8):Option (Sum (Int×Int×Int×Bool×Int×Int×(List UInt8)×(List UInt8)×(List UInt8)) Bool):=
 cond (decide (k<(xh4.length:Int)))
  (
  XaE (decide (0≤k)) <|
  (xh4[k.toNat]?).bind fun (b:UInt8)=>
  let t7:=wI .u64 ((wI .u64 (n1*2^8))+(wI .u64 (b.toNat:Int)))
  some (.inl (i1,t7,wI .i64 (k+1),xh,xh1,xh2,xh3,xh4,xh5)))
  (
  cond (i1==0)
   (
   cond (n1==ida3)
    (
    (Xa5).bind fun a2=>
    some (.inr (a2)))
    (
    some (.inr (false))))
   (
   some (.inr (false))))
def Xea (XbX:(List UInt8)→Option (XaI×Int)) (Xbb:(List UInt8)→Option (Xae×Int)) (Xci:(List UInt8)→Option (Int×Int×Int)) (Xa5:Option Bool) (Xbo:(List UInt8)→(List UInt8)→Option Int) (Xc9:(List UInt8)→Int→Option ((List UInt8)×Int)) (XbT:(List UInt8)→Int→Option ((List UInt8)×Int)) (Xbs:(List UInt8)→Int→Option ((List UInt8)×Int)) (s:List UInt8) (cookie:Int) (now:Int) (ida3:Int):Option Bool:=
 cond (decide ((s.length:Int)>200))
  (
  (Xa5).bind fun a=>
  some (a))
  (
  (Xbb s).bind fun p=>
  (Xbs s cookie).bind fun xo=>
  cond (xo.2==0)
   (
   (Xbb xo.1).bind fun p1=>
   cond (p.2 !=0)
    (
    some (false))
    (
    cond (p1.2 !=0)
     (
     some (false))
     (
     let t:=wI .u32 ((wI .u32 ((wI .u32 cookie)*2^16))+(p.1.Val.tmod 65536))
     cond (p1.1.Val !=t)
      (
      some (false))
      (
      cond ((xo.1.length:Int) !=(s.length:Int))
       (
       some (false))
       (
       (Xbo s xo.1).bind fun xo1=>
       cond (decide (xo1>4))
        (
        some (false))
        (
        let t1:=!((p1.1.Tuple.Proto==p.1.Tuple.Proto)&&((p1.1.Tuple.Src.V6==p.1.Tuple.Src.V6)&&((p1.1.Tuple.Src.Hi==p.1.Tuple.Src.Hi)&&((p1.1.Tuple.Src.Lo==p.1.Tuple.Src.Lo)&&((p1.1.Tuple.Dst.V6==p.1.Tuple.Dst.V6)&&((p1.1.Tuple.Dst.Hi==p.1.Tuple.Dst.Hi)&&((p1.1.Tuple.Dst.Lo==p.1.Tuple.Dst.Lo)&&((p1.1.Tuple.SPort==p.1.Tuple.SPort)&&((p1.1.Tuple.DPort==p.1.Tuple.DPort)&&((p1.1.Flags==p.1.Flags)&&((p1.1.Stamped==p.1.Stamped)&&((p.1.Val==p.1.Val)&&((p1.1.Echo==p.1.Echo)&&((p1.1.Long==p.1.Long)&&((p1.1.CID==p.1.CID)&&((p1.1.Size==p.1.Size)&&true))))))))))))))))
        cond (t1)
         (
         some (false))
         (
         (Xc9 s now).bind fun i=>
         cond (i.2==0)
          (
          (Xbb i.1).bind fun p2=>
          cond (p2.2 !=0)
           (
           some (false))
           (
           let t2:=(p2.1.Echo.tmod 65536) !=(p.1.Echo.tmod 65536)
           cond (t2)
            (
            some (false))
            (
            let t3:=decide ((wI .u32 (now - p2.1.Echo))≥65536)
            cond (t3)
             (
             some (false))
             (
             cond ((i.1.length:Int) !=(s.length:Int))
              (
              some (false))
              (
              (Xbo s i.1).bind fun xo2=>
              cond (decide (xo2>4))
               (
               some (false))
               (
               let t4:=!((p2.1.Tuple.Proto==p.1.Tuple.Proto)&&((p2.1.Tuple.Src.V6==p.1.Tuple.Src.V6)&&((p2.1.Tuple.Src.Hi==p.1.Tuple.Src.Hi)&&((p2.1.Tuple.Src.Lo==p.1.Tuple.Src.Lo)&&((p2.1.Tuple.Dst.V6==p.1.Tuple.Dst.V6)&&((p2.1.Tuple.Dst.Hi==p.1.Tuple.Dst.Hi)&&((p2.1.Tuple.Dst.Lo==p.1.Tuple.Dst.Lo)&&((p2.1.Tuple.SPort==p.1.Tuple.SPort)&&((p2.1.Tuple.DPort==p.1.Tuple.DPort)&&((p2.1.Flags==p.1.Flags)&&((p2.1.Stamped==p.1.Stamped)&&((p2.1.Val==p.1.Val)&&((p.1.Echo==p.1.Echo)&&((p2.1.Long==p.1.Long)&&((p2.1.CID==p.1.CID)&&((p2.1.Size==p.1.Size)&&true))))))))))))))))
               cond (t4)
                (
                some (false))
                (
                (XbT s ida3).bind fun n=>
                cond (n.2 !=0)
                 (
                 cond (n.1==[])
                  (
                  (Xa5).bind fun a1=>
                  some (a1))
                  (
                  some (false)))
                 (
                 (Xbb n.1).bind fun p3=>
                 (Xci n.1).bind fun w=>
                 cond (p3.2 !=0)
                  (
                  some (false))
                  (
                  let t5:=!((p3.1.Tuple.Proto==p.1.Tuple.Proto)&&((p3.1.Tuple.Src.V6==p.1.Tuple.Src.V6)&&((p3.1.Tuple.Src.Hi==p.1.Tuple.Src.Hi)&&((p3.1.Tuple.Src.Lo==p.1.Tuple.Src.Lo)&&((p3.1.Tuple.Dst.V6==p.1.Tuple.Dst.V6)&&((p3.1.Tuple.Dst.Hi==p.1.Tuple.Dst.Hi)&&((p3.1.Tuple.Dst.Lo==p.1.Tuple.Dst.Lo)&&((p3.1.Tuple.SPort==p.1.Tuple.SPort)&&((p3.1.Tuple.DPort==p.1.Tuple.DPort)&&((p3.1.Flags==p.1.Flags)&&((p3.1.Stamped==p.1.Stamped)&&((p3.1.Val==p.1.Val)&&((p3.1.Echo==p.1.Echo)&&((p3.1.Long==p.1.Long)&&((p3.1.CID==p.1.CID)&&((p3.1.Size==p.1.Size)&&true))))))))))))))))
                  cond (t5)
                   (
                   some (false))
                   (
                   cond ((n.1.length:Int) !=(s.length:Int))
                    (
                    some (false))
                    (
                    (Xbo s n.1).bind fun xo3=>
                    cond (decide (xo3>10))
                     (
                     some (false))
                     (
                     cond (decide (w.2.1>(n.1.length:Int)))
                      (
                      some (false))
                      (
                      XaE (decide ((0:Int)≤w.2.1∧w.2.1≤(n.1.length:Int))) <|
                      let t6:=(n.1.drop w.2.1.toNat).take (n.1.length - w.2.1.toNat)
                      (XbX t6).bind fun xg=>
                      iter (fun st=>Xbz Xa5 ida3 st.1 st.2.1 st.2.2.1 st.2.2.2.1 st.2.2.2.2.1 st.2.2.2.2.2.1 st.2.2.2.2.2.2.1 st.2.2.2.2.2.2.2.1 st.2.2.2.2.2.2.2.2) FUEL (xg.2,0,0,xg.1.Long,xg.1.Bits,xg.1.Version,xg.1.DCID,xg.1.SCID,xg.1.Rest))))))))))))))
          (
          (XbT s ida3).bind fun n2=>
          cond (n2.2 !=0)
           (
           cond (n2.1==[])
            (
            (Xa5).bind fun a3=>
            some (a3))
            (
            some (false)))
           (
           (Xbb n2.1).bind fun p4=>
           (Xci n2.1).bind fun w1=>
           cond (p4.2 !=0)
            (
            some (false))
            (
            let t8:=!((p4.1.Tuple.Proto==p.1.Tuple.Proto)&&((p4.1.Tuple.Src.V6==p.1.Tuple.Src.V6)&&((p4.1.Tuple.Src.Hi==p.1.Tuple.Src.Hi)&&((p4.1.Tuple.Src.Lo==p.1.Tuple.Src.Lo)&&((p4.1.Tuple.Dst.V6==p.1.Tuple.Dst.V6)&&((p4.1.Tuple.Dst.Hi==p.1.Tuple.Dst.Hi)&&((p4.1.Tuple.Dst.Lo==p.1.Tuple.Dst.Lo)&&((p4.1.Tuple.SPort==p.1.Tuple.SPort)&&((p4.1.Tuple.DPort==p.1.Tuple.DPort)&&((p4.1.Flags==p.1.Flags)&&((p4.1.Stamped==p.1.Stamped)&&((p4.1.Val==p.1.Val)&&((p4.1.Echo==p.1.Echo)&&((p4.1.Long==p.1.Long)&&((p4.1.CID==p.1.CID)&&((p4.1.Size==p.1.Size)&&true))))))))))))))))
            cond (t8)
             (
             some (false))
             (
             cond ((n2.1.length:Int) !=(s.length:Int))
              (
              some (false))
              (
              (Xbo s n2.1).bind fun xo4=>
              cond (decide (xo4>10))
               (
               some (false))
               (
               cond (decide (w1.2.1>(n2.1.length:Int)))
                (
                some (false))
                (
                XaE (decide ((0:Int)≤w1.2.1∧w1.2.1≤(n2.1.length:Int))) <|
                let t9:=(n2.1.drop w1.2.1.toNat).take (n2.1.length - w1.2.1.toNat)
                (XbX t9).bind fun xg1=>
                iter (fun st=>Xbz Xa5 ida3 st.1 st.2.1 st.2.2.1 st.2.2.2.1 st.2.2.2.2.1 st.2.2.2.2.2.1 st.2.2.2.2.2.2.1 st.2.2.2.2.2.2.2.1 st.2.2.2.2.2.2.2.2) FUEL (xg1.2,0,0,xg1.1.Long,xg1.1.Bits,xg1.1.Version,xg1.1.DCID,xg1.1.SCID,xg1.1.Rest)))))))))))))))
   (
   (Xc9 s now).bind fun i2=>
   cond (i2.2==0)
    (
    (Xbb i2.1).bind fun p5=>
    cond (p.2 !=0)
     (
     some (false))
     (
     cond (p5.2 !=0)
      (
      some (false))
      (
      let t10:=(p5.1.Echo.tmod 65536) !=(p.1.Echo.tmod 65536)
      cond (t10)
       (
       some (false))
       (
       let t11:=decide ((wI .u32 (now - p5.1.Echo))≥65536)
       cond (t11)
        (
        some (false))
        (
        cond ((i2.1.length:Int) !=(s.length:Int))
         (
         some (false))
         (
         (Xbo s i2.1).bind fun xo5=>
         cond (decide (xo5>4))
          (
          some (false))
          (
          let t12:=!((p5.1.Tuple.Proto==p.1.Tuple.Proto)&&((p5.1.Tuple.Src.V6==p.1.Tuple.Src.V6)&&((p5.1.Tuple.Src.Hi==p.1.Tuple.Src.Hi)&&((p5.1.Tuple.Src.Lo==p.1.Tuple.Src.Lo)&&((p5.1.Tuple.Dst.V6==p.1.Tuple.Dst.V6)&&((p5.1.Tuple.Dst.Hi==p.1.Tuple.Dst.Hi)&&((p5.1.Tuple.Dst.Lo==p.1.Tuple.Dst.Lo)&&((p5.1.Tuple.SPort==p.1.Tuple.SPort)&&((p5.1.Tuple.DPort==p.1.Tuple.DPort)&&((p5.1.Flags==p.1.Flags)&&((p5.1.Stamped==p.1.Stamped)&&((p5.1.Val==p.1.Val)&&((p.1.Echo==p.1.Echo)&&((p5.1.Long==p.1.Long)&&((p5.1.CID==p.1.CID)&&((p5.1.Size==p.1.Size)&&true))))))))))))))))
          cond (t12)
           (
           some (false))
           (
           (XbT s ida3).bind fun n3=>
           cond (n3.2 !=0)
            (
            cond (n3.1==[])
             (
             (Xa5).bind fun a4=>
             some (a4))
             (
             some (false)))
            (
            (Xbb n3.1).bind fun p6=>
            (Xci n3.1).bind fun w2=>
            cond (p6.2 !=0)
             (
             some (false))
             (
             let t13:=!((p6.1.Tuple.Proto==p.1.Tuple.Proto)&&((p6.1.Tuple.Src.V6==p.1.Tuple.Src.V6)&&((p6.1.Tuple.Src.Hi==p.1.Tuple.Src.Hi)&&((p6.1.Tuple.Src.Lo==p.1.Tuple.Src.Lo)&&((p6.1.Tuple.Dst.V6==p.1.Tuple.Dst.V6)&&((p6.1.Tuple.Dst.Hi==p.1.Tuple.Dst.Hi)&&((p6.1.Tuple.Dst.Lo==p.1.Tuple.Dst.Lo)&&((p6.1.Tuple.SPort==p.1.Tuple.SPort)&&((p6.1.Tuple.DPort==p.1.Tuple.DPort)&&((p6.1.Flags==p.1.Flags)&&((p6.1.Stamped==p.1.Stamped)&&((p6.1.Val==p.1.Val)&&((p6.1.Echo==p.1.Echo)&&((p6.1.Long==p.1.Long)&&((p6.1.CID==p.1.CID)&&((p6.1.Size==p.1.Size)&&true))))))))))))))))
             cond (t13)
              (
              some (false))
              (
              cond ((n3.1.length:Int) !=(s.length:Int))
               (
               some (false))
               (
               (Xbo s n3.1).bind fun xo6=>
               cond (decide (xo6>10))
                (
                some (false))
                (
                cond (decide (w2.2.1>(n3.1.length:Int)))
                 (
                 some (false))
                 (
                 XaE (decide ((0:Int)≤w2.2.1∧w2.2.1≤(n3.1.length:Int))) <|
                 let t14:=(n3.1.drop w2.2.1.toNat).take (n3.1.length - w2.2.1.toNat)
                 (XbX t14).bind fun xg2=>
                 iter (fun st=>Xbz Xa5 ida3 st.1 st.2.1 st.2.2.1 st.2.2.2.1 st.2.2.2.2.1 st.2.2.2.2.2.1 st.2.2.2.2.2.2.1 st.2.2.2.2.2.2.2.1 st.2.2.2.2.2.2.2.2) FUEL (xg2.2,0,0,xg2.1.Long,xg2.1.Bits,xg2.1.Version,xg2.1.DCID,xg2.1.SCID,xg2.1.Rest)))))))))))))))
    (
    (XbT s ida3).bind fun n4=>
    cond (n4.2 !=0)
     (
     cond (n4.1==[])
      (
      (Xa5).bind fun a5=>
      some (a5))
      (
      some (false)))
     (
     (Xbb n4.1).bind fun p7=>
     (Xci n4.1).bind fun w3=>
     cond (p.2 !=0)
      (
      some (false))
      (
      cond (p7.2 !=0)
       (
       some (false))
       (
       let t15:=!((p7.1.Tuple.Proto==p.1.Tuple.Proto)&&((p7.1.Tuple.Src.V6==p.1.Tuple.Src.V6)&&((p7.1.Tuple.Src.Hi==p.1.Tuple.Src.Hi)&&((p7.1.Tuple.Src.Lo==p.1.Tuple.Src.Lo)&&((p7.1.Tuple.Dst.V6==p.1.Tuple.Dst.V6)&&((p7.1.Tuple.Dst.Hi==p.1.Tuple.Dst.Hi)&&((p7.1.Tuple.Dst.Lo==p.1.Tuple.Dst.Lo)&&((p7.1.Tuple.SPort==p.1.Tuple.SPort)&&((p7.1.Tuple.DPort==p.1.Tuple.DPort)&&((p7.1.Flags==p.1.Flags)&&((p7.1.Stamped==p.1.Stamped)&&((p7.1.Val==p.1.Val)&&((p7.1.Echo==p.1.Echo)&&((p7.1.Long==p.1.Long)&&((p7.1.CID==p.1.CID)&&((p7.1.Size==p.1.Size)&&true))))))))))))))))
       cond (t15)
        (
        some (false))
        (
        cond ((n4.1.length:Int) !=(s.length:Int))
         (
         some (false))
         (
         (Xbo s n4.1).bind fun xo7=>
         cond (decide (xo7>10))
          (
          some (false))
          (
          cond (decide (w3.2.1>(n4.1.length:Int)))
           (
           some (false))
           (
           XaE (decide ((0:Int)≤w3.2.1∧w3.2.1≤(n4.1.length:Int))) <|
           let t16:=(n4.1.drop w3.2.1.toNat).take (n4.1.length - w3.2.1.toNat)
           (XbX t16).bind fun xg3=>
           iter (fun st=>Xbz Xa5 ida3 st.1 st.2.1 st.2.2.1 st.2.2.2.1 st.2.2.2.2.1 st.2.2.2.2.2.1 st.2.2.2.2.2.2.1 st.2.2.2.2.2.2.2.1 st.2.2.2.2.2.2.2.2) FUEL (xg3.2,0,0,xg3.1.Long,xg3.1.Bits,xg3.1.Version,xg3.1.DCID,xg3.1.SCID,xg3.1.Rest)))))))))))
def rx4 (x:Bool):Xcw:=⟨.bool x,[],[]⟩
def r4 (g:(List UInt8)→Int→Int→Int→Option Bool):Dec:=dV asS fun (y0:List UInt8)=>dV (asI .u16) fun (y1:Int)=>dV (asI .u32) fun (y2:Int)=>dV (asI .u64) fun (y3:Int)=>Xdd (ofG (g y0 y1 y2 y3) rx4)
def s4 (g:(List UInt8)→Int→Int→Int→Option Bool):Xbu:=⟨[.v,.v,.v,.v],r4 g⟩
abbrev XJn (XbX:(List UInt8)→Option (XaI×Int)) (Xbb:(List UInt8)→Option (Xae×Int)) (Xci:(List UInt8)→Option (Int×Int×Int)) (Xa5:Option Bool) (Xbo:(List UInt8)→(List UInt8)→Option Int) (Xc9:(List UInt8)→Int→Option ((List UInt8)×Int)) (XbT:(List UInt8)→Int→Option ((List UInt8)×Int)) (Xbs:(List UInt8)→Int→Option ((List UInt8)×Int)):List (Nat×Xbu):=[(21,s21 XbX),(15,s15 Xbb),(20,s20 Xci),(14,s14 Xa5),(17,s17 Xbo),(18,s18 Xc9),(19,s19 XbT),(16,s16 Xbs)]
def XiL (ida3:Int) (i1:Int) (n1:Int) (k:Int) (xh:Bool) (xh1:Int) (xh2:Int) (xh3:List UInt8) (xh4:List UInt8) (xh5:List UInt8):VM:=
 ⟨⟨4,229,[(3,.int .u64 ida3),(26,.pointer (some ⟨4,0,none⟩)),(27,.int .i64 i1),(28,.int .u64 n1),(29,.int .i64 k)],[.code XDR,.inLoop XDR,.inBlock 0,.code XJq],[],false,none⟩,[],[(4,.cells [.bool xh,.int .i64 xh1,.int .u32 xh2,.string ⟨⟨xh3⟩⟩,.string ⟨⟨xh4⟩⟩,.string ⟨⟨xh5⟩⟩])],5⟩
theorem XoN (XbX:(List UInt8)→Option (XaI×Int)) (Xbb:(List UInt8)→Option (Xae×Int)) (Xci:(List UInt8)→Option (Int×Int×Int)) (Xa5:Option Bool) (Xbo:(List UInt8)→(List UInt8)→Option Int) (Xc9:(List UInt8)→Int→Option ((List UInt8)×Int)) (XbT:(List UInt8)→Int→Option ((List UInt8)×Int)) (Xbs:(List UInt8)→Int→Option ((List UInt8)×Int)) (hS:Xah Tryz.prog (Xav (XJn XbX Xbb Xci Xa5 Xbo Xc9 XbT Xbs))) (ida3:Int) (res:Bool):∀ fuel (st:Int×Int×Int×Bool×Int×Int×(List UInt8)×(List UInt8)×(List UInt8)) (o:Bool),iter (fun st=>Xbz Xa5 ida3 st.1 st.2.1 st.2.2.1 st.2.2.2.1 st.2.2.2.2.1 st.2.2.2.2.2.1 st.2.2.2.2.2.2.1 st.2.2.2.2.2.2.2.1 st.2.2.2.2.2.2.2.2) fuel st=some o→(o=res) →
 XaK Tryz.prog 4 0 (XiL ida3 st.1 st.2.1 st.2.2.1 st.2.2.2.1 st.2.2.2.2.1 st.2.2.2.2.2.1 st.2.2.2.2.2.2.1 st.2.2.2.2.2.2.2.1 st.2.2.2.2.2.2.2.2) (fun v H _=>Res 0 (rx4 res) v H):=by
 intro fuel st o h hc
 refine XbY (head:=fun st=>XiL ida3 st.1 st.2.1 st.2.2.1 st.2.2.2.1 st.2.2.2.2.1 st.2.2.2.2.2.1 st.2.2.2.2.2.2.1 st.2.2.2.2.2.2.2.1 st.2.2.2.2.2.2.2.2) (C:=fun o=>(o=res)) ?_ fuel st o h hc
 clear h hc o st fuel
 intro st o h hc
 obtain ⟨i1,n1,k,xh,xh1,xh2,xh3,xh4,xh5⟩:=st
 replace h:Xbz Xa5 ida3 i1 n1 k xh xh1 xh2 xh3 xh4 xh5=some o:=h
 show XaK Tryz.prog 4 0 (XiL ida3 i1 n1 k xh xh1 xh2 xh3 xh4 xh5) (fun v H _=>Res 0 (rx4 res) v H)
 unfold Xbz at h
 refine Xbi Xan hS true 3000 ?_
 conv=>whnf
 refine br.h h (by rfl) ?_ ?_
 ·clear h;intro hb h;conv=>whnf
  replace h:=XaE.elim h;obtain ⟨hb,h⟩:=h
  try (refine req.intro hb ?_;conv=>whnf)
  replace h:=Xai.elim h;obtain ⟨b,hy,h⟩:=h
  refine rdS.intro hy ?_
  conv=>whnf
  let t7:Int:=wI .u64 ((wI .u64 (n1*2^8))+(wI .u64 (b.toNat:Int)))
  cases h;simp only [Sum.elim_inl,XiL] at hc
  exact XjC hc [(4,4)] rfl
 clear h;intro hb h;conv=>whnf
 refine br.h2 h (by rfl) ?_ ?_
 ·clear h;intro hb h;conv=>whnf
  all_goals (cases h;cases hc;exact Res.y)
 clear h;intro hb h;conv=>whnf
 refine br.h2 h (by rfl) ?_ ?_
 ·clear h;intro hb h;conv=>whnf
  all_goals (cases h;cases hc;exact Res.y)
 clear h;intro hb h;conv=>whnf
 replace h:=Xai.elim h;obtain ⟨a2,hy,h⟩:=h
 refine XaJ.p (Xnk hy) ?_
 conv=>whnf
 all_goals (cases h;cases hc;exact Res.y)
theorem leads4 (XbX:(List UInt8)→Option (XaI×Int)) (Xbb:(List UInt8)→Option (Xae×Int)) (Xci:(List UInt8)→Option (Int×Int×Int)) (Xa5:Option Bool) (Xbo:(List UInt8)→(List UInt8)→Option Int) (Xc9:(List UInt8)→Int→Option ((List UInt8)×Int)) (XbT:(List UInt8)→Int→Option ((List UInt8)×Int)) (Xbs:(List UInt8)→Int→Option ((List UInt8)×Int)) (hS:Xah Tryz.prog (Xav (XJn XbX Xbb Xci Xa5 Xbo Xc9 XbT Xbs))) (s:List UInt8) (cookie:Int) (now:Int) (ida3:Int) (res:Bool) (h:Xea XbX Xbb Xci Xa5 Xbo Xc9 XbT Xbs s cookie now ida3=some res) :
 XaK Tryz.prog 4 0 ⟨⟨4,229,[(0,.string ⟨⟨s⟩⟩),(1,.int .u16 cookie),(2,.int .u32 now),(3,.int .u64 ida3)],[.code XJ2],[],false,none⟩,[],[],0⟩ (fun v H _=>Res 0 (rx4 res) v H):=by
 unfold Xea at h
 refine Xbi Xan hS true 3000 ?_
 conv=>whnf
 refine br.h h (by rfl) ?_ ?_
 ·clear h;intro hb h;conv=>whnf
  replace h:=Xai.elim h;obtain ⟨a,hy,h⟩:=h
  refine XaJ.p (Xnk hy) ?_
  conv=>whnf
  all_goals (cases h;exact Res.y)
 clear h;intro hb h;conv=>whnf
 replace h:=Xai.elim h;obtain ⟨p,hy,h⟩:=h
 refine XaJ.p (XkH hy) ?_
 conv=>whnf
 replace h:=Xai.elim h;obtain ⟨xo,hy,h⟩:=h
 refine XaJ.p (Xvs hy) ?_
 conv=>whnf
 refine br.h2 h (by rfl) ?_ ?_
 ·clear h;intro hb h;conv=>whnf
  replace h:=Xai.elim h;obtain ⟨i2,hy,h⟩:=h
  refine XaJ.p (XBr hy) ?_
  conv=>whnf
  refine br.h2 h (by rfl) ?_ ?_
  ·clear h;intro hb h;conv=>whnf
   replace h:=Xai.elim h;obtain ⟨n4,hy,h⟩:=h
   refine XaJ.p (Xr9 hy) ?_
   conv=>whnf
   refine br.h h (by rfl) ?_ ?_
   ·clear h;intro hb h;conv=>whnf
    refine br.h2 h (by rfl) ?_ ?_
    ·clear h;intro hb h;conv=>whnf
     all_goals (cases h;exact Res.y)
    clear h;intro hb h;conv=>whnf
    replace h:=Xai.elim h;obtain ⟨a5,hy,h⟩:=h
    refine XaJ.p (Xnk hy) ?_
    conv=>whnf
    all_goals (cases h;exact Res.y)
   clear h;intro hb h;conv=>whnf
   replace h:=Xai.elim h;obtain ⟨p7,hy,h⟩:=h
   refine XaJ.p (XkH hy) ?_
   conv=>whnf
   replace h:=Xai.elim h;obtain ⟨w3,hy,h⟩:=h
   refine XaJ.p (Xrx hy) ?_
   conv=>whnf
   refine br.h h (by rfl) ?_ ?_
   ·clear h;intro hb h;conv=>whnf
    all_goals (cases h;exact Res.y)
   clear h;intro hb h;conv=>whnf
   refine br.h h (by rfl) ?_ ?_
   ·clear h;intro hb h;conv=>whnf
    all_goals (cases h;exact Res.y)
   clear h;intro hb h;conv=>whnf
   let t15:Bool:=!((p7.1.Tuple.Proto==p.1.Tuple.Proto)&&((p7.1.Tuple.Src.V6==p.1.Tuple.Src.V6)&&((p7.1.Tuple.Src.Hi==p.1.Tuple.Src.Hi)&&((p7.1.Tuple.Src.Lo==p.1.Tuple.Src.Lo)&&((p7.1.Tuple.Dst.V6==p.1.Tuple.Dst.V6)&&((p7.1.Tuple.Dst.Hi==p.1.Tuple.Dst.Hi)&&((p7.1.Tuple.Dst.Lo==p.1.Tuple.Dst.Lo)&&((p7.1.Tuple.SPort==p.1.Tuple.SPort)&&((p7.1.Tuple.DPort==p.1.Tuple.DPort)&&((p7.1.Flags==p.1.Flags)&&((p7.1.Stamped==p.1.Stamped)&&((p7.1.Val==p.1.Val)&&((p7.1.Echo==p.1.Echo)&&((p7.1.Long==p.1.Long)&&((p7.1.CID==p.1.CID)&&((p7.1.Size==p.1.Size)&&true))))))))))))))))
   refine br.h h (by rfl) ?_ ?_
   ·clear h;intro hb h;conv=>whnf
    all_goals (cases h;exact Res.y)
   clear h;intro hb h;conv=>whnf
   refine br.h h (by rfl) ?_ ?_
   ·clear h;intro hb h;conv=>whnf
    all_goals (cases h;exact Res.y)
   clear h;intro hb h;conv=>whnf
   replace h:=Xai.elim h;obtain ⟨xo7,hy,h⟩:=h
   refine XaJ.p (Xmk hy) ?_
   conv=>whnf
   refine br.h h (by rfl) ?_ ?_
   ·clear h;intro hb h;conv=>whnf
    all_goals (cases h;exact Res.y)
   clear h;intro hb h;conv=>whnf
   refine br.h h (by rfl) ?_ ?_
   ·clear h;intro hb h;conv=>whnf
    all_goals (cases h;exact Res.y)
   clear h;intro hb h;conv=>whnf
   replace h:=XaE.elim h;obtain ⟨hb,h⟩:=h
   try (refine req.intro hb ?_;conv=>whnf)
   let t16:List UInt8:=(n4.1.drop w3.2.1.toNat).take (n4.1.length - w3.2.1.toNat)
   replace h:=Xai.elim h;obtain ⟨xg3,hy,h⟩:=h
   refine XaJ.p (XoX hy) ?_
   conv=>whnf
   have hl:=XoN XbX Xbb Xci Xa5 Xbo Xc9 XbT Xbs hS _ res _ _ _ h rfl;simp only [XiL] at hl
   exact XjC hl [(4,2)] rfl
  clear h;intro hb h;conv=>whnf
  replace h:=Xai.elim h;obtain ⟨p5,hy,h⟩:=h
  refine XaJ.p (XkH hy) ?_
  conv=>whnf
  refine br.h h (by rfl) ?_ ?_
  ·clear h;intro hb h;conv=>whnf
   all_goals (cases h;exact Res.y)
  clear h;intro hb h;conv=>whnf
  refine br.h h (by rfl) ?_ ?_
  ·clear h;intro hb h;conv=>whnf
   all_goals (cases h;exact Res.y)
  clear h;intro hb h;conv=>whnf
  let t10:Bool:=(p5.1.Echo.tmod 65536) !=(p.1.Echo.tmod 65536)
  refine br.h h (by rfl) ?_ ?_
  ·clear h;intro hb h;conv=>whnf
   all_goals (cases h;exact Res.y)
  clear h;intro hb h;conv=>whnf
  let t11:Bool:=decide ((wI .u32 (now - p5.1.Echo))≥65536)
  refine br.h h (by rfl) ?_ ?_
  ·clear h;intro hb h;conv=>whnf
   all_goals (cases h;exact Res.y)
  clear h;intro hb h;conv=>whnf
  refine br.h h (by rfl) ?_ ?_
  ·clear h;intro hb h;conv=>whnf
   all_goals (cases h;exact Res.y)
  clear h;intro hb h;conv=>whnf
  replace h:=Xai.elim h;obtain ⟨xo5,hy,h⟩:=h
  refine XaJ.p (Xmk hy) ?_
  conv=>whnf
  refine br.h h (by rfl) ?_ ?_
  ·clear h;intro hb h;conv=>whnf
   all_goals (cases h;exact Res.y)
  clear h;intro hb h;conv=>whnf
  let t12:Bool:=!((p5.1.Tuple.Proto==p.1.Tuple.Proto)&&((p5.1.Tuple.Src.V6==p.1.Tuple.Src.V6)&&((p5.1.Tuple.Src.Hi==p.1.Tuple.Src.Hi)&&((p5.1.Tuple.Src.Lo==p.1.Tuple.Src.Lo)&&((p5.1.Tuple.Dst.V6==p.1.Tuple.Dst.V6)&&((p5.1.Tuple.Dst.Hi==p.1.Tuple.Dst.Hi)&&((p5.1.Tuple.Dst.Lo==p.1.Tuple.Dst.Lo)&&((p5.1.Tuple.SPort==p.1.Tuple.SPort)&&((p5.1.Tuple.DPort==p.1.Tuple.DPort)&&((p5.1.Flags==p.1.Flags)&&((p5.1.Stamped==p.1.Stamped)&&((p5.1.Val==p.1.Val)&&((p.1.Echo==p.1.Echo)&&((p5.1.Long==p.1.Long)&&((p5.1.CID==p.1.CID)&&((p5.1.Size==p.1.Size)&&true))))))))))))))))
  refine br.h h (by rfl) ?_ ?_
  ·clear h;intro hb h;conv=>whnf
   all_goals (cases h;exact Res.y)
  clear h;intro hb h;conv=>whnf
  replace h:=Xai.elim h;obtain ⟨n3,hy,h⟩:=h
  refine XaJ.p (Xr9 hy) ?_
  conv=>whnf
  refine br.h h (by rfl) ?_ ?_
  ·clear h;intro hb h;conv=>whnf
   refine br.h2 h (by rfl) ?_ ?_
   ·clear h;intro hb h;conv=>whnf
    all_goals (cases h;exact Res.y)
   clear h;intro hb h;conv=>whnf
   replace h:=Xai.elim h;obtain ⟨a4,hy,h⟩:=h
   refine XaJ.p (Xnk hy) ?_
   conv=>whnf
   all_goals (cases h;exact Res.y)
  clear h;intro hb h;conv=>whnf
  replace h:=Xai.elim h;obtain ⟨p6,hy,h⟩:=h
  refine XaJ.p (XkH hy) ?_
  conv=>whnf
  replace h:=Xai.elim h;obtain ⟨w2,hy,h⟩:=h
  refine XaJ.p (Xrx hy) ?_
  conv=>whnf
  refine br.neg ?_ ?_;(focus (clear h;first|assumption|(simp_all;done)))
  conv=>whnf
  refine br.h h (by rfl) ?_ ?_
  ·clear h;intro hb h;conv=>whnf
   all_goals (cases h;exact Res.y)
  clear h;intro hb h;conv=>whnf
  let t13:Bool:=!((p6.1.Tuple.Proto==p.1.Tuple.Proto)&&((p6.1.Tuple.Src.V6==p.1.Tuple.Src.V6)&&((p6.1.Tuple.Src.Hi==p.1.Tuple.Src.Hi)&&((p6.1.Tuple.Src.Lo==p.1.Tuple.Src.Lo)&&((p6.1.Tuple.Dst.V6==p.1.Tuple.Dst.V6)&&((p6.1.Tuple.Dst.Hi==p.1.Tuple.Dst.Hi)&&((p6.1.Tuple.Dst.Lo==p.1.Tuple.Dst.Lo)&&((p6.1.Tuple.SPort==p.1.Tuple.SPort)&&((p6.1.Tuple.DPort==p.1.Tuple.DPort)&&((p6.1.Flags==p.1.Flags)&&((p6.1.Stamped==p.1.Stamped)&&((p6.1.Val==p.1.Val)&&((p6.1.Echo==p.1.Echo)&&((p6.1.Long==p.1.Long)&&((p6.1.CID==p.1.CID)&&((p6.1.Size==p.1.Size)&&true))))))))))))))))
  refine br.h h (by rfl) ?_ ?_
  ·clear h;intro hb h;conv=>whnf
   all_goals (cases h;exact Res.y)
  clear h;intro hb h;conv=>whnf
  refine br.h h (by rfl) ?_ ?_
  ·clear h;intro hb h;conv=>whnf
   all_goals (cases h;exact Res.y)
  clear h;intro hb h;conv=>whnf
  replace h:=Xai.elim h;obtain ⟨xo6,hy,h⟩:=h
  refine XaJ.p (Xmk hy) ?_
  conv=>whnf
  refine br.h h (by rfl) ?_ ?_
  ·clear h;intro hb h;conv=>whnf
   all_goals (cases h;exact Res.y)
  clear h;intro hb h;conv=>whnf
  refine br.h h (by rfl) ?_ ?_
  ·clear h;intro hb h;conv=>whnf
   all_goals (cases h;exact Res.y)
  clear h;intro hb h;conv=>whnf
  replace h:=XaE.elim h;obtain ⟨hb,h⟩:=h
  try (refine req.intro hb ?_;conv=>whnf)
  let t14:List UInt8:=(n3.1.drop w2.2.1.toNat).take (n3.1.length - w2.2.1.toNat)
  replace h:=Xai.elim h;obtain ⟨xg2,hy,h⟩:=h
  refine XaJ.p (XoX hy) ?_
  conv=>whnf
  have hl:=XoN XbX Xbb Xci Xa5 Xbo Xc9 XbT Xbs hS _ res _ _ _ h rfl;simp only [XiL] at hl
  exact XjC hl [(4,3)] rfl
 clear h;intro hb h;conv=>whnf
 replace h:=Xai.elim h;obtain ⟨p1,hy,h⟩:=h
 refine XaJ.p (XkH hy) ?_
 conv=>whnf
 refine br.h h (by rfl) ?_ ?_
 ·clear h;intro hb h;conv=>whnf
  all_goals (cases h;exact Res.y)
 clear h;intro hb h;conv=>whnf
 refine br.h h (by rfl) ?_ ?_
 ·clear h;intro hb h;conv=>whnf
  all_goals (cases h;exact Res.y)
 clear h;intro hb h;conv=>whnf
 let t:Int:=wI .u32 ((wI .u32 ((wI .u32 cookie)*2^16))+(p.1.Val.tmod 65536))
 refine br.h h (by rfl) ?_ ?_
 ·clear h;intro hb h;conv=>whnf
  all_goals (cases h;exact Res.y)
 clear h;intro hb h;conv=>whnf
 refine br.h h (by rfl) ?_ ?_
 ·clear h;intro hb h;conv=>whnf
  all_goals (cases h;exact Res.y)
 clear h;intro hb h;conv=>whnf
 replace h:=Xai.elim h;obtain ⟨xo1,hy,h⟩:=h
 refine XaJ.p (Xmk hy) ?_
 conv=>whnf
 refine br.h h (by rfl) ?_ ?_
 ·clear h;intro hb h;conv=>whnf
  all_goals (cases h;exact Res.y)
 clear h;intro hb h;conv=>whnf
 let t1:Bool:=!((p1.1.Tuple.Proto==p.1.Tuple.Proto)&&((p1.1.Tuple.Src.V6==p.1.Tuple.Src.V6)&&((p1.1.Tuple.Src.Hi==p.1.Tuple.Src.Hi)&&((p1.1.Tuple.Src.Lo==p.1.Tuple.Src.Lo)&&((p1.1.Tuple.Dst.V6==p.1.Tuple.Dst.V6)&&((p1.1.Tuple.Dst.Hi==p.1.Tuple.Dst.Hi)&&((p1.1.Tuple.Dst.Lo==p.1.Tuple.Dst.Lo)&&((p1.1.Tuple.SPort==p.1.Tuple.SPort)&&((p1.1.Tuple.DPort==p.1.Tuple.DPort)&&((p1.1.Flags==p.1.Flags)&&((p1.1.Stamped==p.1.Stamped)&&((p.1.Val==p.1.Val)&&((p1.1.Echo==p.1.Echo)&&((p1.1.Long==p.1.Long)&&((p1.1.CID==p.1.CID)&&((p1.1.Size==p.1.Size)&&true))))))))))))))))
 refine br.h h (by rfl) ?_ ?_
 ·clear h;intro hb h;conv=>whnf
  all_goals (cases h;exact Res.y)
 clear h;intro hb h;conv=>whnf
 replace h:=Xai.elim h;obtain ⟨i,hy,h⟩:=h
 refine XaJ.p (XBr hy) ?_
 conv=>whnf
 refine br.h2 h (by rfl) ?_ ?_
 ·clear h;intro hb h;conv=>whnf
  replace h:=Xai.elim h;obtain ⟨n2,hy,h⟩:=h
  refine XaJ.p (Xr9 hy) ?_
  conv=>whnf
  refine br.h h (by rfl) ?_ ?_
  ·clear h;intro hb h;conv=>whnf
   refine br.h2 h (by rfl) ?_ ?_
   ·clear h;intro hb h;conv=>whnf
    all_goals (cases h;exact Res.y)
   clear h;intro hb h;conv=>whnf
   replace h:=Xai.elim h;obtain ⟨a3,hy,h⟩:=h
   refine XaJ.p (Xnk hy) ?_
   conv=>whnf
   all_goals (cases h;exact Res.y)
  clear h;intro hb h;conv=>whnf
  replace h:=Xai.elim h;obtain ⟨p4,hy,h⟩:=h
  refine XaJ.p (XkH hy) ?_
  conv=>whnf
  replace h:=Xai.elim h;obtain ⟨w1,hy,h⟩:=h
  refine XaJ.p (Xrx hy) ?_
  conv=>whnf
  refine br.neg ?_ ?_;(focus (clear h;first|assumption|(simp_all;done)))
  conv=>whnf
  refine br.h h (by rfl) ?_ ?_
  ·clear h;intro hb h;conv=>whnf
   all_goals (cases h;exact Res.y)
  clear h;intro hb h;conv=>whnf
  let t8:Bool:=!((p4.1.Tuple.Proto==p.1.Tuple.Proto)&&((p4.1.Tuple.Src.V6==p.1.Tuple.Src.V6)&&((p4.1.Tuple.Src.Hi==p.1.Tuple.Src.Hi)&&((p4.1.Tuple.Src.Lo==p.1.Tuple.Src.Lo)&&((p4.1.Tuple.Dst.V6==p.1.Tuple.Dst.V6)&&((p4.1.Tuple.Dst.Hi==p.1.Tuple.Dst.Hi)&&((p4.1.Tuple.Dst.Lo==p.1.Tuple.Dst.Lo)&&((p4.1.Tuple.SPort==p.1.Tuple.SPort)&&((p4.1.Tuple.DPort==p.1.Tuple.DPort)&&((p4.1.Flags==p.1.Flags)&&((p4.1.Stamped==p.1.Stamped)&&((p4.1.Val==p.1.Val)&&((p4.1.Echo==p.1.Echo)&&((p4.1.Long==p.1.Long)&&((p4.1.CID==p.1.CID)&&((p4.1.Size==p.1.Size)&&true))))))))))))))))
  refine br.h h (by rfl) ?_ ?_
  ·clear h;intro hb h;conv=>whnf
   all_goals (cases h;exact Res.y)
  clear h;intro hb h;conv=>whnf
  refine br.h h (by rfl) ?_ ?_
  ·clear h;intro hb h;conv=>whnf
   all_goals (cases h;exact Res.y)
  clear h;intro hb h;conv=>whnf
  replace h:=Xai.elim h;obtain ⟨xo4,hy,h⟩:=h
  refine XaJ.p (Xmk hy) ?_
  conv=>whnf
  refine br.h h (by rfl) ?_ ?_
  ·clear h;intro hb h;conv=>whnf
   all_goals (cases h;exact Res.y)
  clear h;intro hb h;conv=>whnf
  refine br.h h (by rfl) ?_ ?_
  ·clear h;intro hb h;conv=>whnf
   all_goals (cases h;exact Res.y)
  clear h;intro hb h;conv=>whnf
  replace h:=XaE.elim h;obtain ⟨hb,h⟩:=h
  try (refine req.intro hb ?_;conv=>whnf)
  let t9:List UInt8:=(n2.1.drop w1.2.1.toNat).take (n2.1.length - w1.2.1.toNat)
  replace h:=Xai.elim h;obtain ⟨xg1,hy,h⟩:=h
  refine XaJ.p (XoX hy) ?_
  conv=>whnf
  have hl:=XoN XbX Xbb Xci Xa5 Xbo Xc9 XbT Xbs hS _ res _ _ _ h rfl;simp only [XiL] at hl
  exact XjC hl [(4,3)] rfl
 clear h;intro hb h;conv=>whnf
 replace h:=Xai.elim h;obtain ⟨p2,hy,h⟩:=h
 refine XaJ.p (XkH hy) ?_
 conv=>whnf
 refine br.neg ?_ ?_;(focus (clear h;first|assumption|(simp_all;done)))
 conv=>whnf
 refine br.h h (by rfl) ?_ ?_
 ·clear h;intro hb h;conv=>whnf
  all_goals (cases h;exact Res.y)
 clear h;intro hb h;conv=>whnf
 let t2:Bool:=(p2.1.Echo.tmod 65536) !=(p.1.Echo.tmod 65536)
 refine br.h h (by rfl) ?_ ?_
 ·clear h;intro hb h;conv=>whnf
  all_goals (cases h;exact Res.y)
 clear h;intro hb h;conv=>whnf
 let t3:Bool:=decide ((wI .u32 (now - p2.1.Echo))≥65536)
 refine br.h h (by rfl) ?_ ?_
 ·clear h;intro hb h;conv=>whnf
  all_goals (cases h;exact Res.y)
 clear h;intro hb h;conv=>whnf
 refine br.h h (by rfl) ?_ ?_
 ·clear h;intro hb h;conv=>whnf
  all_goals (cases h;exact Res.y)
 clear h;intro hb h;conv=>whnf
 replace h:=Xai.elim h;obtain ⟨xo2,hy,h⟩:=h
 refine XaJ.p (Xmk hy) ?_
 conv=>whnf
 refine br.h h (by rfl) ?_ ?_
 ·clear h;intro hb h;conv=>whnf
  all_goals (cases h;exact Res.y)
 clear h;intro hb h;conv=>whnf
 let t4:Bool:=!((p2.1.Tuple.Proto==p.1.Tuple.Proto)&&((p2.1.Tuple.Src.V6==p.1.Tuple.Src.V6)&&((p2.1.Tuple.Src.Hi==p.1.Tuple.Src.Hi)&&((p2.1.Tuple.Src.Lo==p.1.Tuple.Src.Lo)&&((p2.1.Tuple.Dst.V6==p.1.Tuple.Dst.V6)&&((p2.1.Tuple.Dst.Hi==p.1.Tuple.Dst.Hi)&&((p2.1.Tuple.Dst.Lo==p.1.Tuple.Dst.Lo)&&((p2.1.Tuple.SPort==p.1.Tuple.SPort)&&((p2.1.Tuple.DPort==p.1.Tuple.DPort)&&((p2.1.Flags==p.1.Flags)&&((p2.1.Stamped==p.1.Stamped)&&((p2.1.Val==p.1.Val)&&((p.1.Echo==p.1.Echo)&&((p2.1.Long==p.1.Long)&&((p2.1.CID==p.1.CID)&&((p2.1.Size==p.1.Size)&&true))))))))))))))))
 refine br.h h (by rfl) ?_ ?_
 ·clear h;intro hb h;conv=>whnf
  all_goals (cases h;exact Res.y)
 clear h;intro hb h;conv=>whnf
 replace h:=Xai.elim h;obtain ⟨n,hy,h⟩:=h
 refine XaJ.p (Xr9 hy) ?_
 conv=>whnf
 refine br.h h (by rfl) ?_ ?_
 ·clear h;intro hb h;conv=>whnf
  refine br.h2 h (by rfl) ?_ ?_
  ·clear h;intro hb h;conv=>whnf
   all_goals (cases h;exact Res.y)
  clear h;intro hb h;conv=>whnf
  replace h:=Xai.elim h;obtain ⟨a1,hy,h⟩:=h
  refine XaJ.p (Xnk hy) ?_
  conv=>whnf
  all_goals (cases h;exact Res.y)
 clear h;intro hb h;conv=>whnf
 replace h:=Xai.elim h;obtain ⟨p3,hy,h⟩:=h
 refine XaJ.p (XkH hy) ?_
 conv=>whnf
 replace h:=Xai.elim h;obtain ⟨w,hy,h⟩:=h
 refine XaJ.p (Xrx hy) ?_
 conv=>whnf
 refine br.neg ?_ ?_;(focus (clear h;first|assumption|(simp_all;done)))
 conv=>whnf
 refine br.h h (by rfl) ?_ ?_
 ·clear h;intro hb h;conv=>whnf
  all_goals (cases h;exact Res.y)
 clear h;intro hb h;conv=>whnf
 let t5:Bool:=!((p3.1.Tuple.Proto==p.1.Tuple.Proto)&&((p3.1.Tuple.Src.V6==p.1.Tuple.Src.V6)&&((p3.1.Tuple.Src.Hi==p.1.Tuple.Src.Hi)&&((p3.1.Tuple.Src.Lo==p.1.Tuple.Src.Lo)&&((p3.1.Tuple.Dst.V6==p.1.Tuple.Dst.V6)&&((p3.1.Tuple.Dst.Hi==p.1.Tuple.Dst.Hi)&&((p3.1.Tuple.Dst.Lo==p.1.Tuple.Dst.Lo)&&((p3.1.Tuple.SPort==p.1.Tuple.SPort)&&((p3.1.Tuple.DPort==p.1.Tuple.DPort)&&((p3.1.Flags==p.1.Flags)&&((p3.1.Stamped==p.1.Stamped)&&((p3.1.Val==p.1.Val)&&((p3.1.Echo==p.1.Echo)&&((p3.1.Long==p.1.Long)&&((p3.1.CID==p.1.CID)&&((p3.1.Size==p.1.Size)&&true))))))))))))))))
 refine br.h h (by rfl) ?_ ?_
 ·clear h;intro hb h;conv=>whnf
  all_goals (cases h;exact Res.y)
 clear h;intro hb h;conv=>whnf
 refine br.h h (by rfl) ?_ ?_
 ·clear h;intro hb h;conv=>whnf
  all_goals (cases h;exact Res.y)
 clear h;intro hb h;conv=>whnf
 replace h:=Xai.elim h;obtain ⟨xo3,hy,h⟩:=h
 refine XaJ.p (Xmk hy) ?_
 conv=>whnf
 refine br.h h (by rfl) ?_ ?_
 ·clear h;intro hb h;conv=>whnf
  all_goals (cases h;exact Res.y)
 clear h;intro hb h;conv=>whnf
 refine br.h h (by rfl) ?_ ?_
 ·clear h;intro hb h;conv=>whnf
  all_goals (cases h;exact Res.y)
 clear h;intro hb h;conv=>whnf
 replace h:=XaE.elim h;obtain ⟨hb,h⟩:=h
 try (refine req.intro hb ?_;conv=>whnf)
 let t6:List UInt8:=(n.1.drop w.2.1.toNat).take (n.1.length - w.2.1.toNat)
 replace h:=Xai.elim h;obtain ⟨xg,hy,h⟩:=h
 refine XaJ.p (XoX hy) ?_
 conv=>whnf
 have hl:=XoN XbX Xbb Xci Xa5 Xbo Xc9 XbT Xbs hS _ res _ _ _ h rfl;simp only [XiL] at hl
 exact XjC hl [(4,4)] rfl
def XhC:(List UInt8)→Int→Int→Int→Option Bool:=Xea XbX Xbb Xci Xa5 Xbo Xc9 XbT Xbs
end Go.Vm.Code
namespace Go.Vm.Code
open Go Go.Vm
theorem Xl2:Xa5=some true:=by decide +kernel
theorem Xmf:(([]:List UInt8)==[])=true:=rfl
theorem XEz {a b:Nat} (h:a%65536=b%65536) {j:Nat} (hj:2≤j):(be a 4)[j]?=(be b 4)[j]?:=by
 have e:∀ n:Nat,be n 4=be (n/65536) 2++be (n%65536) 2:=fun n=>by
  rw [show (4:Nat)=2+2 from rfl,Xrs,show (256:Nat)^2=65536 from rfl,←Xrt n 2,show (256:Nat)^2=65536 from rfl]
 rw [e a,e b,List.getElem?_append_right (by rw [Xdy];omega),List.getElem?_append_right (by rw [Xdy];omega),h,Xdy,Xdy]
theorem XmL {s:List UInt8} {off:Nat} {v:Int} (hl:s.length<900) (hoff:off=0∨off=4) (h:(Xaq s).2.2.2=0) (hs:(Xaq s).1.Stamped=true) (hv:0≤v∧v<4294967296)
 (hm:v%65536=(if off=0 then (Xaq s).1.Val else (Xaq s).1.Echo)%65536):∃ n:Nat,Xbo s (XkJ s off v)=some (n:Int)∧n≤4:=by
 obtain ⟨k1,k2,k3,k4,k5,k6,k7⟩:=XdZ h hs
 have hq:(Xeh (Xfm (Xag s).body (Xag s).src (Xag s).dst).1.Options).2.2=(Xhf s:Int):=by unfold Xhf;omega
 obtain ⟨_,t2,t3,hB⟩:=Xh3 (b':=(Xag s).body) (p:=Xhf s) h hs hq (.inl rfl) rfl (fun _ _ _ _=>rfl) rfl
 obtain ⟨z1,z2,z3,z4⟩:=Xjt hoff h hs hv
 have hbl:=XdT k1
 obtain ⟨_,sw2⟩:=Xf6 (b:=(Xag s).body) k1 rfl
 have hold:∀ j,j<4→s[(Xag s).size+20+Xhf s+off+j]?=(be (Xdf (((Xag s).body.drop (20+Xhf s+off)).take 4)) 4)[j]?:=fun j hj=>by
  rw [Xtr (by rw [List.length_take,List.length_drop];omega),List.getElem?_take,if_pos hj,List.getElem?_drop,sw2,List.getElem?_drop]
  congr 1;omega
 have hnew:∀ j,j<4→(XkJ s off v)[(Xag s).size+20+Xhf s+off+j]?=(be v.toNat 4)[j]?:=fun j hj=>by
  obtain ⟨b',e1,e2,e3,e4,e5⟩:=Xi0 (B:=(Xag s).body) (w:=be v.toNat 4) (i:=20+Xhf s+off) (j:=16) (by intro e;have:=congrArg List.length e;rw [Xdy] at this;exact absurd this (by decide)) (by rw [Xdy];omega) (by omega) (by decide) (.inl (by omega))
  rw [Xdy] at e5
  unfold XkJ
  rw [e1,List.getElem?_append_right (by rw [List.length_take];omega),List.length_take,show (Xag s).size+20+Xhf s+off+j - min (Xag s).size s.length=20+Xhf s+off+j by omega,e5 _ (by omega) (by omega)]
  congr 1;omega
 have hval:v.toNat%65536=Xdf (((Xag s).body.drop (20+Xhf s+off)).take 4)%65536:=by
  have e:(if off=0 then (Xaq s).1.Val else (Xaq s).1.Echo)=vK (Xag s).body (20+Xhf s+off) 4:=by
   rcases hoff with rfl|rfl
   ·rw [if_pos rfl,t2];rfl
   ·rw [if_neg (by decide),t3];rfl
  rw [e] at hm
  unfold vK at hm
  omega
 exact Xri (p:=(Xag s).size+20+Xhf s+off) (m:=2) (j:=(Xag s).size+16) (by omega) (by omega) (fun k a1 a2=>by
  by_cases c:k<(Xag s).size+20+Xhf s+off∨(Xag s).size+20+Xhf s+off+4≤k
  ·exact z4 k a2 c
  ·obtain ⟨j,rfl⟩:∃ j,k=(Xag s).size+20+Xhf s+off+j:=⟨k - ((Xag s).size+20+Xhf s+off),by omega⟩
   rw [hnew j (by omega),hold j (by omega),XEz hval (by omega)])
theorem XFd {i:Int} (h0:0≤i) (h1:i<2^64) (st:Bool×Int×Int×List UInt8×List UInt8×List UInt8) (hst:st.2.2.2.2.1=be i.toNat 8) :
 iter (fun (st:Int×Int×Int×Bool×Int×Int×List UInt8×List UInt8×List UInt8)=>Xbz Xa5 i st.1 st.2.1 st.2.2.1 st.2.2.2.1 st.2.2.2.2.1 st.2.2.2.2.2.1 st.2.2.2.2.2.2.1 st.2.2.2.2.2.2.2.1 st.2.2.2.2.2.2.2.2) FUEL (0,0,0,st.1,st.2.1,st.2.2.1,st.2.2.2.1,st.2.2.2.2.1,st.2.2.2.2.2)=some true:=by
 have key:=iter_eq (step:=fun (st:Int×Int×Int×Bool×Int×Int×List UInt8×List UInt8×List UInt8)=>Xbz Xa5 i st.1 st.2.1 st.2.2.1 st.2.2.2.1 st.2.2.2.2.1 st.2.2.2.2.2.1 st.2.2.2.2.2.2.1 st.2.2.2.2.2.2.2.1 st.2.2.2.2.2.2.2.2) (fun _=>true)
  (fun st=>st.1=0∧0≤st.2.2.1∧st.2.2.1≤8∧st.2.2.2.2.2.2.2.1=be i.toNat 8∧st.2.1=((Xdf ((be i.toNat 8).take st.2.2.1.toNat):Nat):Int)) (fun st=>(8 - st.2.2.1).toNat) ?_ FUEL (0,0,0,st.1,st.2.1,st.2.2.1,st.2.2.2.1,st.2.2.2.2.1,st.2.2.2.2.2) ⟨rfl,by simp,by simp,hst,rfl⟩ (by rw [Xer];simp only;omega)
 ·exact key
 rintro ⟨i1,n1,k,x0,x1,x2,x3,x4,x5⟩ ⟨g1,g2,g3,g4,g5⟩
 simp only at g1 g2 g3 g4 g5 ⊢
 subst g1 g4
 obtain ⟨j,rfl⟩:=Int.eq_ofNat_of_zero_le g2
 rw [Int.toNat_natCast] at g5
 unfold Xbz
 by_cases hj:j<8
 ·have hjl:j<(be i.toNat 8).length:=by rw [Xdy];exact hj
  have hlt:=Xnj ((be i.toNat 8).take j)
  rw [List.length_take,Xdy,Nat.min_eq_left (by omega)] at hlt
  have hlt2:=Xl5 hlt (by omega)
  have hb:=(be i.toNat 8)[j].toNat_lt
  refine .inr ⟨(0,n1*256+((be i.toNat 8)[j].toNat:Int),((j+1:Nat):Int),x0,x1,x2,x3,be i.toNat 8,x5),?_,⟨rfl,by simp only;omega,by simp only;omega,rfl,?_⟩,by simp only;omega,trivial⟩
  ·rw [XaZ (by rw [Xdy];omega),XaL (by omega),Int.toNat_natCast,List.getElem?_eq_getElem hjl,Option.bind_some,g5]
   simp only []
   rw [show (2:Int)^8=256 from rfl,XpZ (n:=((Xdf ((be i.toNat 8).take j):Nat):Int)*256) (by omega) (by omega),XpZ (n:=((be i.toNat 8)[j].toNat:Int)) (by omega) (by omega),XpZ (by omega) (by omega),XcC (by omega) (by omega)];rfl
  ·simp only [Int.toNat_natCast]
   rw [List.take_succ_eq_append_getElem hjl,Xrz,g5];omega
 ·refine .inl ?_
  have:j=8:=by omega
  subst this
  have e8:i.toNat<256^8:=by
   have e:(256:Nat)^8=18446744073709551616:=by decide
   rw [e];omega
  rw [List.take_of_length_le (by simp),Xkh e8] at g5
  rw [XaO (by rw [Xdy];omega),beq_self_eq_true,cond_true,show (n1==i)=true by rw [beq_iff_eq];omega,cond_true,Xl2];rfl
theorem stampPacket (s:List UInt8) (c now i:Int) (hc:0≤c∧c<65536) (hn:0≤now∧now<4294967296) (h0:0≤i) (h1:i<2^64):XhC s c now i=some true:=by
 unfold XhC Xea
 by_cases g:200<s.length
 ·rw [XaZ (by omega),Xl2];rfl
 rw [XaO (by omega),Xks (by omega),Option.bind_some,XCA (by omega) hc,Option.bind_some]
 have ha:(Xa5).bind (fun a1=>some a1)=some true:=by rw [Xl2];rfl
 by_cases h:(Xaq s).2.2.2=0
 ·have h':((Xaq s).2.2.2 !=0)=false:=by simpa using h
  cases hs:(Xaq s).1.Stamped
  ·
   have eo:XpF s c=([],6):=by unfold XpF;rw [if_neg (by omega),if_pos hs]
   have ei:Xz5 s now=([],6):=by unfold Xz5;rw [if_neg (by omega),if_pos hs]
   rw [eo]
   simp only []
   rw [show ((6:Int)==0)=false from rfl,cond_false,Xvq (by omega),Option.bind_some,ei]
   simp only []
   rw [show ((6:Int)==0)=false from rfl,cond_false,XoC (by omega) h0,Option.bind_some]
   unfold name36
   rw [if_neg (by omega)]
   by_cases hp:(Xaq s).1.Tuple.Proto≠17
   ·rw [if_pos hp];simp only [];rw [show ((6:Int) !=0)=true from by decide,cond_true,Xmf,cond_true];exact ha
   rw [if_neg hp]
   by_cases q0:(XeW (s.drop (Xaq s).2.2.1)).2≠0
   ·rw [if_pos q0];simp only [];rw [show ((6:Int) !=0)=true from by decide,cond_true,Xmf,cond_true];exact ha
   rw [if_neg q0]
   by_cases q1:(XeW (s.drop (Xaq s).2.2.1)).1.Long=false
   ·rw [if_pos q1];simp only [];rw [show ((6:Int) !=0)=true from by decide,cond_true,Xmf,cond_true];exact ha
   rw [if_neg q1]
   by_cases q8:(XeW (s.drop (Xaq s).2.2.1)).1.SCID.length≠8
   ·rw [if_pos q8];simp only [];rw [show ((3:Int) !=0)=true from by decide,cond_true,Xmf,cond_true];exact ha
   rw [if_neg q8]
   obtain ⟨n3,w2,w3,sw2,d1,d2,eD,p1,p2,nl,tn,same,y1,y2⟩:=XpD (i:=i) h (by omega) (by omega) (by simpa using q1) (by omega)
   have hle:=(XmE s).2
   obtain ⟨x,e1,e2⟩:=Xri (m:=8) (by omega) (by omega) same
   simp only []
   rw [show ((0:Int) !=0)=false from rfl,cond_false,Xks (by omega),Option.bind_some,XtT (by omega),Option.bind_some,tn]
   simp only [hs,beq_self_eq_true,Bool.and_self,Bool.not_true,cond_false,h',nl,bne_self_eq_false,e1,Option.bind_some]
   rw [XaO (by omega),XaO (by omega),XaL (by omega)]
   simp only [Int.toNat_natCast]
   rw [List.take_of_length_le (by rw [List.length_drop,nl];omega),XrO (by rw [List.length_drop];omega),Option.bind_some,y1]
   exact XFd h0 h1 ((XeW ((Xq6 s i).drop (Xaq s).2.2.1)).1.Long,(XeW ((Xq6 s i).drop (Xaq s).2.2.1)).1.Bits,(XeW ((Xq6 s i).drop (Xaq s).2.2.1)).1.Version,(XeW ((Xq6 s i).drop (Xaq s).2.2.1)).1.DCID,(XeW ((Xq6 s i).drop (Xaq s).2.2.1)).1.SCID,(XeW ((Xq6 s i).drop (Xaq s).2.2.1)).1.Rest) y2
  ·
   obtain ⟨⟨r1,r2⟩,r3,r4⟩:=XmI h hs
   obtain ⟨k1,k2,_,_,k5,_,k7⟩:=XdZ h hs
   have eo:XpF s c=(XkJ s 0 (XjW (Xaq s).1.Val c),0):=by unfold XpF;rw [if_neg (by omega),if_neg (by rw [hs];decide)]
   have ei:Xz5 s now=(XkJ s 4 (Xhp now (Xaq s).1.Echo),0):=by unfold Xz5;rw [if_neg (by omega),if_neg (by rw [hs];decide)]
   have v1:0≤XjW (Xaq s).1.Val c∧XjW (Xaq s).1.Val c<4294967296:=by unfold XjW;omega
   have v2':0≤Xhp now (Xaq s).1.Echo∧Xhp now (Xaq s).1.Echo<4294967296:=by unfold Xhp;omega
   obtain ⟨_,l1,z1,_⟩:=Xjt (off:=0) (.inl rfl) h hs v1
   obtain ⟨_,l2,z2,_⟩:=Xjt (off:=4) (.inr rfl) h hs v2'
   obtain ⟨x1,o1,o1'⟩:=XmL (off:=0) (by omega) (.inl rfl) h hs v1 (by rw [if_pos rfl];unfold XjW;omega)
   obtain ⟨x2,o2,o2'⟩:=XmL (off:=4) (by omega) (.inr rfl) h hs v2' (by rw [if_neg (by decide)];unfold Xhp;omega)
   rw [eo]
   simp only []
   rw [beq_self_eq_true,cond_true,Xks (by omega),Option.bind_some,z1,h',cond_false]
   simp only [if_true]
   rw [show ((0:Int) !=0)=false from rfl,cond_false]
   have et:wI .u32 ((wI .u32 ((wI .u32 c)*2^16))+((Xaq s).1.Val.tmod 65536))=XjW (Xaq s).1.Val c:=by
    rw [Int.tmod_eq_emod_of_nonneg r1,Xpv (n:=c) (by omega) (by omega),show (2:Int)^16=65536 from rfl,Xpv (n:=c*65536) (by omega) (by omega),Xpv (by omega) (by omega)];rfl
   rw [et]
   simp only [hs,bne_self_eq_false,cond_false,l1,o1,Option.bind_some,beq_self_eq_true,Bool.and_self,Bool.not_true]
   rw [XaO (by omega),Xvq (by omega),Option.bind_some,ei]
   simp only []
   rw [beq_self_eq_true,cond_true,Xks (by omega),Option.bind_some,z2]
   simp only [show ¬ ((4:Nat)=0) by decide,if_false]
   rw [show ((0:Int) !=0)=false from rfl,cond_false]
   have e2:((Xhp now (Xaq s).1.Echo).tmod 65536 !=(Xaq s).1.Echo.tmod 65536)=false:=by
    rw [Int.tmod_eq_emod_of_nonneg v2'.1,Int.tmod_eq_emod_of_nonneg r3]
    have:Xhp now (Xaq s).1.Echo%65536=(Xaq s).1.Echo%65536:=by unfold Xhp;omega
    rw [this,bne_self_eq_false]
   have e3:¬ wI .u32 (now - Xhp now (Xaq s).1.Echo)≥65536:=by
    rw [XE4];unfold Xhp;omega
   rw [e2,cond_false,XaO e3]
   simp only [hs,bne_self_eq_false,cond_false,l2,o2,Option.bind_some,beq_self_eq_true,Bool.and_self,Bool.not_true]
   rw [XaO (by omega),XoC (by omega) h0,Option.bind_some]
   have en:name36 s i=([],6):=by
    unfold name36
    rw [if_neg (by omega),if_pos]
    have:(Xaq s).1.Tuple.Proto=6:=by
     rw [k7]
     unfold Xez
     rw [if_pos k2,if_neg (by omega)];exact k2
    omega
   rw [en,Xl2]
   rfl
 ·have eo:XpF s c=([],(Xaq s).2.2.2):=by unfold XpF;rw [if_pos h]
  have ei:Xz5 s now=([],(Xaq s).2.2.2):=by unfold Xz5;rw [if_pos h]
  have en:name36 s i=([],(Xaq s).2.2.2):=by unfold name36;rw [if_pos h]
  have h1':((Xaq s).2.2.2==0)=false:=by simpa using h
  have h2':((Xaq s).2.2.2 !=0)=true:=by simpa using h
  rw [eo]
  simp only []
  rw [h1',cond_false,Xvq (by omega),Option.bind_some,ei]
  simp only []
  rw [h1',cond_false,XoC (by omega) h0,Option.bind_some,en]
  simp only []
  rw [h2',cond_true,Xmf,cond_true]
  exact ha
end Go.Vm.Code
