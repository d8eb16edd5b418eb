import Derived.Test.YtiknkhbngadaeaaGreatNMtuTellsd
namespace Go.Vm.Code
open Go Go.Vm Go.Proofs
set_option maxRecDepth 100000
set_option maxHeartbeats 4000000
set_option linter.unusedVariables false
def Xg5 (Xdn:Xaa→Option Bool) (Xff:Int→Int→Option Bool) (ha0:Xah):Option Bool:=
 (Xff ha0.Class 255).bind fun i=>
 cond (i)
  (
  (Xff ha0.Mark 65535).bind fun i1=>
  cond (i1)
   (
   (Xff ha0.TTL 255).bind fun i2=>
   cond (i2)
    (
    (Xff ha0.Proto 255).bind fun i3=>
    cond (i3)
     (
     (Xdn ha0.Src).bind fun f=>
     cond (f)
      (
      (Xdn ha0.Dst).bind fun f1=>
      cond (f1)
       (
       cond (decide ((ha0.Options.length:Int)≤40))
        (
        some (((ha0.Options.length:Int).tmod 4)==0))
        (
        some (false)))
       (
       some (false)))
      (
      some (false)))
     (
     some (false)))
    (
    some (false)))
   (
   some (false)))
  (
  some (false))
def rx93 (x:Bool):Xco:=⟨.bool x,[],[]⟩
def r93 (g:Xah→Option Bool):Dec:=dV Xd2 fun (y0:Xah)=>Xc4 (ofG (g y0) rx93)
theorem r93_c {g:Xah→Option Bool} {y0:Xah} {x:Bool} (hx:g y0=some x):r93 g [.agg ⟨[.int .i64 y0.Class,.int .i64 y0.Mark,.bool y0.Whole,.int .i64 y0.TTL,.int .i64 y0.Proto,.bool y0.Src.V6,.int .u64 y0.Src.Hi,.int .u64 y0.Src.Lo,.bool y0.Dst.V6,.int .u64 y0.Dst.Hi,.int .u64 y0.Dst.Lo,.string ⟨⟨y0.Options⟩⟩]⟩] []=some (rx93 x):=(XaS (XfI _)).trans (XaZ hx)
def s93 (g:Xah→Option Bool):Xbp:=⟨[.v],r93 g⟩
theorem XV5 {g:Xah→Option Bool} {y0:Xah} {x:Bool} (hx:g y0=some x):(s93 g).run [.agg ⟨[.int .i64 y0.Class,.int .i64 y0.Mark,.bool y0.Whole,.int .i64 y0.TTL,.int .i64 y0.Proto,.bool y0.Src.V6,.int .u64 y0.Src.Hi,.int .u64 y0.Src.Lo,.bool y0.Dst.V6,.int .u64 y0.Dst.Hi,.int .u64 y0.Dst.Lo,.string ⟨⟨y0.Options⟩⟩]⟩] []=some (rx93 x):=r93_c hx
abbrev Xzd (Xdn:Xaa→Option Bool) (Xff:Int→Int→Option Bool):List (Nat×Xbp):=[(120,s120 Xdn),(119,s119 Xff)]
theorem XKS (Xdn:Xaa→Option Bool) (Xff:Int→Int→Option Bool) (hS:Xai Tryz.prog (Xar (Xzd Xdn Xff))) (ha0:Xah) (res:Bool) (h:Xg5 Xdn Xff ha0=some res) :
 XaD Tryz.prog 93 0 ⟨⟨93,44,[(0,.agg ⟨[.int .i64 ha0.Class,.int .i64 ha0.Mark,.bool ha0.Whole,.int .i64 ha0.TTL,.int .i64 ha0.Proto,.bool ha0.Src.V6,.int .u64 ha0.Src.Hi,.int .u64 ha0.Src.Lo,.bool ha0.Dst.V6,.int .u64 ha0.Dst.Hi,.int .u64 ha0.Dst.Lo,.string ⟨⟨ha0.Options⟩⟩]⟩)],[.code XTC],[],false,none⟩,[],[],0⟩ (fun v H _=>Res 0 (rx93 res) v H):=by
 unfold Xg5 at h
 refine Xa9 Xam hS true 3000 ?_
 conv=>whnf
 replace h:=Xak.elim h;obtain ⟨i,hy,h⟩:=h
 refine XaG.q rfl rfl (XnM hy) rfl rfl rfl ?_
 conv=>whnf
 refine br.h2 h ?_ ?_ ?_
 ·rfl
 ·clear h;intro hb h;conv=>whnf
  all_goals (cases h;exact Res.z rfl rfl rfl)
 clear h;intro hb h;conv=>whnf
 replace h:=Xak.elim h;obtain ⟨i1,hy,h⟩:=h
 refine XaG.q rfl rfl (XnM hy) rfl rfl rfl ?_
 conv=>whnf
 refine br.h2 h ?_ ?_ ?_
 ·rfl
 ·clear h;intro hb h;conv=>whnf
  all_goals (cases h;exact Res.z rfl rfl rfl)
 clear h;intro hb h;conv=>whnf
 replace h:=Xak.elim h;obtain ⟨i2,hy,h⟩:=h
 refine XaG.q rfl rfl (XnM hy) rfl rfl rfl ?_
 conv=>whnf
 refine br.h2 h ?_ ?_ ?_
 ·rfl
 ·clear h;intro hb h;conv=>whnf
  all_goals (cases h;exact Res.z rfl rfl rfl)
 clear h;intro hb h;conv=>whnf
 replace h:=Xak.elim h;obtain ⟨i3,hy,h⟩:=h
 refine XaG.q rfl rfl (XnM hy) rfl rfl rfl ?_
 conv=>whnf
 refine br.h2 h ?_ ?_ ?_
 ·rfl
 ·clear h;intro hb h;conv=>whnf
  all_goals (cases h;exact Res.z rfl rfl rfl)
 clear h;intro hb h;conv=>whnf
 replace h:=Xak.elim h;obtain ⟨f,hy,h⟩:=h
 refine XaG.q rfl rfl (Xvk hy) rfl rfl rfl ?_
 conv=>whnf
 refine br.h2 h ?_ ?_ ?_
 ·rfl
 ·clear h;intro hb h;conv=>whnf
  all_goals (cases h;exact Res.z rfl rfl rfl)
 clear h;intro hb h;conv=>whnf
 replace h:=Xak.elim h;obtain ⟨f1,hy,h⟩:=h
 refine XaG.q rfl rfl (Xvk hy) rfl rfl rfl ?_
 conv=>whnf
 refine br.h2 h ?_ ?_ ?_
 ·rfl
 ·clear h;intro hb h;conv=>whnf
  all_goals (cases h;exact Res.z rfl rfl rfl)
 clear h;intro hb h;conv=>whnf
 refine br.h h ?_ ?_ ?_
 ·rfl
 ·clear h;intro hb h;conv=>whnf
  all_goals (cases h;exact Res.z rfl rfl rfl)
 clear h;intro hb h;conv=>whnf
 all_goals (cases h;exact Res.z rfl rfl rfl)
theorem ok93 (Xdn:Xaa→Option Bool) (Xff:Int→Int→Option Bool) (hS:Xai Tryz.prog (Xar (Xzd Xdn Xff))):Xan Tryz.prog 93 (s93 (Xg5 Xdn Xff)):=by
 refine Xan.Xau Xam (fun ar os r ha hr=>?_) ⟨Tryz.f93,rfl,by decide,rfl⟩
 replace hr:r93 (Xg5 Xdn Xff) ar (XaA os)=some r:=hr
 unfold r93 at hr
 generalize hc:XaA os=C at hr
 replace hr:=dV.elim hr;obtain ⟨v0,l1,y0,rfl,e0,hr⟩:=hr;obtain rfl:=Xe8 _ _ e0
 replace hr:=Xdf hr;obtain ⟨rfl,rfl,x,h,rfl⟩:=hr
 obtain rfl:=Xao hc
 exact ⟨_,rfl,XKS Xdn Xff hS _ x h⟩
def XcQ:Xah→Option Bool:=Xg5 Xdn Xff
theorem X25:Xan Tryz.prog 93 (s93 XcQ):=ok93 Xdn Xff (Xai.XaW ⟨XKh,XK4,trivial⟩)
def Xjm (Xc1:(List UInt8)→Option Int) (Xb1:(List UInt8)→Int→Int→Int→Option (List UInt8)) (Xbl:Xaa→Option (List UInt8)) (XcQ:Xah→Option Bool) (Xbj:Int→Int→Option (List UInt8)) (ha0:Xah) (payload:List UInt8):Option ((List UInt8)×Int):=
 (XcQ ha0).bind fun xr=>
 cond (!xr)
  (
  some (([],1)))
  (
  let t:=wI .i64 (20+(ha0.Options.length:Int))
  let t1:=decide ((payload.length:Int)>(wI .i64 (65535 - t)))
  cond (t1)
   (
   some (([],5)))
   (
   cond (ha0.Whole)
    (
    (Xbj (wI .i64 (64+(wI .i64 (t.tdiv 4)))) 1).bind fun n=>
    (Xbj ha0.Class 1).bind fun n1=>
    XaK (decide (n.length+n1.length<2^63)) <|
    (Xbj (wI .i64 (t+(payload.length:Int))) 2).bind fun n2=>
    XaK (decide ((n++n1).length+n2.length<2^63)) <|
    (Xbj ha0.Mark 2).bind fun n3=>
    XaK (decide (((n++n1)++n2).length+n3.length<2^63)) <|
    (Xbj 64 1).bind fun n4=>
    XaK (decide ((((n++n1)++n2)++n3).length+n4.length<2^63)) <|
    (Xbj 0 1).bind fun n5=>
    XaK (decide (((((n++n1)++n2)++n3)++n4).length+n5.length<2^63)) <|
    (Xbj ha0.TTL 1).bind fun n6=>
    XaK (decide ((((((n++n1)++n2)++n3)++n4)++n5).length+n6.length<2^63)) <|
    let t2:=(((((n++n1)++n2)++n3)++n4)++n5)++n6
    (Xbj ha0.Proto 1).bind fun n7=>
    XaK (decide (t2.length+n7.length<2^63)) <|
    (Xbj 0 2).bind fun n8=>
    XaK (decide ((t2++n7).length+n8.length<2^63)) <|
    (Xbl ha0.Src).bind fun p=>
    XaK (decide (((t2++n7)++n8).length+p.length<2^63)) <|
    (Xbl ha0.Dst).bind fun p1=>
    XaK (decide ((((t2++n7)++n8)++p).length+p1.length<2^63)) <|
    XaK (decide (((((t2++n7)++n8)++p)++p1).length+ha0.Options.length<2^63)) <|
    let t3:=((((t2++n7)++n8)++p)++p1)++ha0.Options
    (Xc1 t3).bind fun xo=>
    (Xb1 t3 10 2 (wI .u64 xo)).bind fun s=>
    XaK (decide (s.length+payload.length<2^63)) <|
    some ((s++payload,0)))
    (
    (Xbj (wI .i64 (64+(wI .i64 (t.tdiv 4)))) 1).bind fun n9=>
    (Xbj ha0.Class 1).bind fun n10=>
    XaK (decide (n9.length+n10.length<2^63)) <|
    (Xbj (wI .i64 (t+(payload.length:Int))) 2).bind fun n11=>
    XaK (decide ((n9++n10).length+n11.length<2^63)) <|
    (Xbj ha0.Mark 2).bind fun n12=>
    XaK (decide (((n9++n10)++n11).length+n12.length<2^63)) <|
    (Xbj 0 1).bind fun n13=>
    XaK (decide ((((n9++n10)++n11)++n12).length+n13.length<2^63)) <|
    (Xbj 0 1).bind fun n14=>
    XaK (decide (((((n9++n10)++n11)++n12)++n13).length+n14.length<2^63)) <|
    let t4:=((((n9++n10)++n11)++n12)++n13)++n14
    (Xbj ha0.TTL 1).bind fun n15=>
    XaK (decide (t4.length+n15.length<2^63)) <|
    (Xbj ha0.Proto 1).bind fun n16=>
    XaK (decide ((t4++n15).length+n16.length<2^63)) <|
    (Xbj 0 2).bind fun n17=>
    XaK (decide (((t4++n15)++n16).length+n17.length<2^63)) <|
    (Xbl ha0.Src).bind fun p2=>
    XaK (decide ((((t4++n15)++n16)++n17).length+p2.length<2^63)) <|
    (Xbl ha0.Dst).bind fun p3=>
    XaK (decide (((((t4++n15)++n16)++n17)++p2).length+p3.length<2^63)) <|
    let t5:=((((t4++n15)++n16)++n17)++p2)++p3
    XaK (decide (t5.length+ha0.Options.length<2^63)) <|
    (Xc1 (t5++ha0.Options)).bind fun xo1=>
    (Xb1 (t5++ha0.Options) 10 2 (wI .u64 xo1)).bind fun s1=>
    XaK (decide (s1.length+payload.length<2^63)) <|
    some ((s1++payload,0)))))
def rx52 (x:(List UInt8)×Int):Xco:=⟨.tuple ⟨[.string ⟨⟨x.1⟩⟩,.int .i64 x.2]⟩,[],[]⟩
def r52 (g:Xah→(List UInt8)→Option ((List UInt8)×Int)):Dec:=dV Xd2 fun (y0:Xah)=>dV asS fun (y1:List UInt8)=>Xc4 (ofG (g y0 y1) rx52)
theorem r52_c {g:Xah→(List UInt8)→Option ((List UInt8)×Int)} {y0:Xah} {y1:List UInt8} {x:(List UInt8)×Int} (hx:g y0 y1=some x):r52 g [.agg ⟨[.int .i64 y0.Class,.int .i64 y0.Mark,.bool y0.Whole,.int .i64 y0.TTL,.int .i64 y0.Proto,.bool y0.Src.V6,.int .u64 y0.Src.Hi,.int .u64 y0.Src.Lo,.bool y0.Dst.V6,.int .u64 y0.Dst.Hi,.int .u64 y0.Dst.Lo,.string ⟨⟨y0.Options⟩⟩]⟩,.string ⟨⟨y1⟩⟩] []=some (rx52 x):=(XaS (XfI _)).trans ((XaS (XdJ)).trans (XaZ hx))
def s52 (g:Xah→(List UInt8)→Option ((List UInt8)×Int)):Xbp:=⟨[.v,.v],r52 g⟩
theorem XUi {g:Xah→(List UInt8)→Option ((List UInt8)×Int)} {y0:Xah} {y1:List UInt8} {x:(List UInt8)×Int} (hx:g y0 y1=some x):(s52 g).run [.agg ⟨[.int .i64 y0.Class,.int .i64 y0.Mark,.bool y0.Whole,.int .i64 y0.TTL,.int .i64 y0.Proto,.bool y0.Src.V6,.int .u64 y0.Src.Hi,.int .u64 y0.Src.Lo,.bool y0.Dst.V6,.int .u64 y0.Dst.Hi,.int .u64 y0.Dst.Lo,.string ⟨⟨y0.Options⟩⟩]⟩,.string ⟨⟨y1⟩⟩] []=some (rx52 x):=r52_c hx
abbrev XAT (Xc1:(List UInt8)→Option Int) (Xb1:(List UInt8)→Int→Int→Int→Option (List UInt8)) (Xbl:Xaa→Option (List UInt8)) (XcQ:Xah→Option Bool) (Xbj:Int→Int→Option (List UInt8)):List (Nat×Xbp):=[(88,s88 Xc1),(87,s87 Xb1),(92,s92 Xbl),(93,s93 XcQ),(94,s94 Xbj)]
theorem XFv (Xc1:(List UInt8)→Option Int) (Xb1:(List UInt8)→Int→Int→Int→Option (List UInt8)) (Xbl:Xaa→Option (List UInt8)) (XcQ:Xah→Option Bool) (Xbj:Int→Int→Option (List UInt8)) (hS:Xai Tryz.prog (Xar (XAT Xc1 Xb1 Xbl XcQ Xbj))) (ha0:Xah) (payload:List UInt8) (res:(List UInt8)×Int) (h:Xjm Xc1 Xb1 Xbl XcQ Xbj ha0 payload=some res) :
 XaD Tryz.prog 52 0 ⟨⟨52,74,[(0,.agg ⟨[.int .i64 ha0.Class,.int .i64 ha0.Mark,.bool ha0.Whole,.int .i64 ha0.TTL,.int .i64 ha0.Proto,.bool ha0.Src.V6,.int .u64 ha0.Src.Hi,.int .u64 ha0.Src.Lo,.bool ha0.Dst.V6,.int .u64 ha0.Dst.Hi,.int .u64 ha0.Dst.Lo,.string ⟨⟨ha0.Options⟩⟩]⟩),(1,.string ⟨⟨payload⟩⟩)],[.code XBS],[],false,none⟩,[],[],0⟩ (fun v H _=>Res 0 (rx52 res) v H):=by
 unfold Xjm at h
 refine Xa9 Xam hS true 3000 ?_
 conv=>whnf
 replace h:=Xak.elim h;obtain ⟨xr,hy,h⟩:=h
 refine XaG.q rfl rfl (XV5 hy) rfl rfl rfl ?_
 conv=>whnf
 refine br.h h ?_ ?_ ?_
 ·rfl
 ·clear h;intro hb h;conv=>whnf
  all_goals (cases h;exact Res.z rfl rfl rfl)
 clear h;intro hb h;conv=>whnf
 let t:Int:=wI .i64 (20+(ha0.Options.length:Int))
 let t1:Bool:=decide ((payload.length:Int)>(wI .i64 (65535 - t)))
 refine br.h h ?_ ?_ ?_
 ·rfl
 ·clear h;intro hb h;conv=>whnf
  all_goals (cases h;exact Res.z rfl rfl rfl)
 clear h;intro hb h;conv=>whnf
 refine br.h h ?_ ?_ ?_
 ·rfl
 ·clear h;intro hb h;conv=>whnf
  replace h:=Xak.elim h;obtain ⟨n,hy,h⟩:=h
  refine XaG.q rfl rfl (Xen hy) rfl rfl rfl ?_
  conv=>whnf
  replace h:=Xak.elim h;obtain ⟨n1,hy,h⟩:=h
  refine XaG.q rfl rfl (Xen hy) rfl rfl rfl ?_
  conv=>whnf
  replace h:=XaK.elim h;obtain ⟨hb,h⟩:=h
  first|(refine req.intro hb ?_;conv=>whnf)|skip
  replace h:=Xak.elim h;obtain ⟨n2,hy,h⟩:=h
  refine XaG.q rfl rfl (Xen hy) rfl rfl rfl ?_
  conv=>whnf
  replace h:=XaK.elim h;obtain ⟨hb,h⟩:=h
  first|(refine req.intro hb ?_;conv=>whnf)|skip
  replace h:=Xak.elim h;obtain ⟨n3,hy,h⟩:=h
  refine XaG.q rfl rfl (Xen hy) rfl rfl rfl ?_
  conv=>whnf
  replace h:=XaK.elim h;obtain ⟨hb,h⟩:=h
  first|(refine req.intro hb ?_;conv=>whnf)|skip
  replace h:=Xak.elim h;obtain ⟨n4,hy,h⟩:=h
  refine XaG.q rfl rfl (Xen hy) rfl rfl rfl ?_
  conv=>whnf
  replace h:=XaK.elim h;obtain ⟨hb,h⟩:=h
  first|(refine req.intro hb ?_;conv=>whnf)|skip
  replace h:=Xak.elim h;obtain ⟨n5,hy,h⟩:=h
  refine XaG.q rfl rfl (Xen hy) rfl rfl rfl ?_
  conv=>whnf
  replace h:=XaK.elim h;obtain ⟨hb,h⟩:=h
  first|(refine req.intro hb ?_;conv=>whnf)|skip
  replace h:=Xak.elim h;obtain ⟨n6,hy,h⟩:=h
  refine XaG.q rfl rfl (Xen hy) rfl rfl rfl ?_
  conv=>whnf
  replace h:=XaK.elim h;obtain ⟨hb,h⟩:=h
  first|(refine req.intro hb ?_;conv=>whnf)|skip
  let t2:List UInt8:=(((((n++n1)++n2)++n3)++n4)++n5)++n6
  replace h:=Xak.elim h;obtain ⟨n7,hy,h⟩:=h
  refine XaG.q rfl rfl (Xen hy) rfl rfl rfl ?_
  conv=>whnf
  replace h:=XaK.elim h;obtain ⟨hb,h⟩:=h
  first|(refine req.intro hb ?_;conv=>whnf)|skip
  replace h:=Xak.elim h;obtain ⟨n8,hy,h⟩:=h
  refine XaG.q rfl rfl (Xen hy) rfl rfl rfl ?_
  conv=>whnf
  replace h:=XaK.elim h;obtain ⟨hb,h⟩:=h
  first|(refine req.intro hb ?_;conv=>whnf)|skip
  replace h:=Xak.elim h;obtain ⟨p,hy,h⟩:=h
  refine XaG.q rfl rfl (XjX hy) rfl rfl rfl ?_
  conv=>whnf
  replace h:=XaK.elim h;obtain ⟨hb,h⟩:=h
  first|(refine req.intro hb ?_;conv=>whnf)|skip
  replace h:=Xak.elim h;obtain ⟨p1,hy,h⟩:=h
  refine XaG.q rfl rfl (XjX hy) rfl rfl rfl ?_
  conv=>whnf
  replace h:=XaK.elim h;obtain ⟨hb,h⟩:=h
  first|(refine req.intro hb ?_;conv=>whnf)|skip
  replace h:=XaK.elim h;obtain ⟨hb,h⟩:=h
  first|(refine req.intro hb ?_;conv=>whnf)|skip
  let t3:List UInt8:=((((t2++n7)++n8)++p)++p1)++ha0.Options
  replace h:=Xak.elim h;obtain ⟨xo,hy,h⟩:=h
  refine XaG.q rfl rfl (Xvi hy) rfl rfl rfl ?_
  conv=>whnf
  replace h:=Xak.elim h;obtain ⟨s,hy,h⟩:=h
  refine XaG.q rfl rfl (Xve hy) rfl rfl rfl ?_
  conv=>whnf
  replace h:=XaK.elim h;obtain ⟨hb,h⟩:=h
  first|(refine req.intro hb ?_;conv=>whnf)|skip
  all_goals (cases h;exact Res.z rfl rfl rfl)
 clear h;intro hb h;conv=>whnf
 replace h:=Xak.elim h;obtain ⟨n9,hy,h⟩:=h
 refine XaG.q rfl rfl (Xen hy) rfl rfl rfl ?_
 conv=>whnf
 replace h:=Xak.elim h;obtain ⟨n10,hy,h⟩:=h
 refine XaG.q rfl rfl (Xen hy) rfl rfl rfl ?_
 conv=>whnf
 replace h:=XaK.elim h;obtain ⟨hb,h⟩:=h
 first|(refine req.intro hb ?_;conv=>whnf)|skip
 replace h:=Xak.elim h;obtain ⟨n11,hy,h⟩:=h
 refine XaG.q rfl rfl (Xen hy) rfl rfl rfl ?_
 conv=>whnf
 replace h:=XaK.elim h;obtain ⟨hb,h⟩:=h
 first|(refine req.intro hb ?_;conv=>whnf)|skip
 replace h:=Xak.elim h;obtain ⟨n12,hy,h⟩:=h
 refine XaG.q rfl rfl (Xen hy) rfl rfl rfl ?_
 conv=>whnf
 replace h:=XaK.elim h;obtain ⟨hb,h⟩:=h
 first|(refine req.intro hb ?_;conv=>whnf)|skip
 replace h:=Xak.elim h;obtain ⟨n13,hy,h⟩:=h
 refine XaG.q rfl rfl (Xen hy) rfl rfl rfl ?_
 conv=>whnf
 replace h:=XaK.elim h;obtain ⟨hb,h⟩:=h
 first|(refine req.intro hb ?_;conv=>whnf)|skip
 replace h:=Xak.elim h;obtain ⟨n14,hy,h⟩:=h
 refine XaG.q rfl rfl (Xen hy) rfl rfl rfl ?_
 conv=>whnf
 replace h:=XaK.elim h;obtain ⟨hb,h⟩:=h
 first|(refine req.intro hb ?_;conv=>whnf)|skip
 let t4:List UInt8:=((((n9++n10)++n11)++n12)++n13)++n14
 replace h:=Xak.elim h;obtain ⟨n15,hy,h⟩:=h
 refine XaG.q rfl rfl (Xen hy) rfl rfl rfl ?_
 conv=>whnf
 replace h:=XaK.elim h;obtain ⟨hb,h⟩:=h
 first|(refine req.intro hb ?_;conv=>whnf)|skip
 replace h:=Xak.elim h;obtain ⟨n16,hy,h⟩:=h
 refine XaG.q rfl rfl (Xen hy) rfl rfl rfl ?_
 conv=>whnf
 replace h:=XaK.elim h;obtain ⟨hb,h⟩:=h
 first|(refine req.intro hb ?_;conv=>whnf)|skip
 replace h:=Xak.elim h;obtain ⟨n17,hy,h⟩:=h
 refine XaG.q rfl rfl (Xen hy) rfl rfl rfl ?_
 conv=>whnf
 replace h:=XaK.elim h;obtain ⟨hb,h⟩:=h
 first|(refine req.intro hb ?_;conv=>whnf)|skip
 replace h:=Xak.elim h;obtain ⟨p2,hy,h⟩:=h
 refine XaG.q rfl rfl (XjX hy) rfl rfl rfl ?_
 conv=>whnf
 replace h:=XaK.elim h;obtain ⟨hb,h⟩:=h
 first|(refine req.intro hb ?_;conv=>whnf)|skip
 replace h:=Xak.elim h;obtain ⟨p3,hy,h⟩:=h
 refine XaG.q rfl rfl (XjX hy) rfl rfl rfl ?_
 conv=>whnf
 replace h:=XaK.elim h;obtain ⟨hb,h⟩:=h
 first|(refine req.intro hb ?_;conv=>whnf)|skip
 let t5:List UInt8:=((((t4++n15)++n16)++n17)++p2)++p3
 replace h:=XaK.elim h;obtain ⟨hb,h⟩:=h
 first|(refine req.intro hb ?_;conv=>whnf)|skip
 replace h:=Xak.elim h;obtain ⟨xo1,hy,h⟩:=h
 refine XaG.q rfl rfl (Xvi hy) rfl rfl rfl ?_
 conv=>whnf
 replace h:=Xak.elim h;obtain ⟨s1,hy,h⟩:=h
 refine XaG.q rfl rfl (Xve hy) rfl rfl rfl ?_
 conv=>whnf
 replace h:=XaK.elim h;obtain ⟨hb,h⟩:=h
 first|(refine req.intro hb ?_;conv=>whnf)|skip
 all_goals (cases h;exact Res.z rfl rfl rfl)
theorem ok52 (Xc1:(List UInt8)→Option Int) (Xb1:(List UInt8)→Int→Int→Int→Option (List UInt8)) (Xbl:Xaa→Option (List UInt8)) (XcQ:Xah→Option Bool) (Xbj:Int→Int→Option (List UInt8)) (hS:Xai Tryz.prog (Xar (XAT Xc1 Xb1 Xbl XcQ Xbj))):Xan Tryz.prog 52 (s52 (Xjm Xc1 Xb1 Xbl XcQ Xbj)):=by
 refine Xan.Xau Xam (fun ar os r ha hr=>?_) ⟨Tryz.f52,rfl,by decide,rfl⟩
 replace hr:r52 (Xjm Xc1 Xb1 Xbl XcQ Xbj) ar (XaA os)=some r:=hr
 unfold r52 at hr
 generalize hc:XaA os=C at hr
 replace hr:=dV.elim hr;obtain ⟨v0,l1,y0,rfl,e0,hr⟩:=hr;obtain rfl:=Xe8 _ _ e0
 replace hr:=dV.elim hr;obtain ⟨v1,l2,y1,rfl,e1,hr⟩:=hr;obtain rfl:=Xb7 _ _ e1
 replace hr:=Xdf hr;obtain ⟨rfl,rfl,x,h,rfl⟩:=hr
 obtain rfl:=Xao hc
 exact ⟨_,rfl,XFv Xc1 Xb1 Xbl XcQ Xbj hS _ _ x h⟩
def Xey:Xah→(List UInt8)→Option ((List UInt8)×Int):=Xjm Xc1 Xb1 Xbl XcQ Xbj
theorem XRJ:Xan Tryz.prog 52 (s52 Xey):=ok52 Xc1 Xb1 Xbl XcQ Xbj (Xai.XaW ⟨XAh,Xzj,XvA,X25,Xzl,trivial⟩)
end Go.Vm.Code
namespace Go.Vm.Code
open Go Go.Vm
theorem Xr4 (n m:Int):Xbq n m=some (inR n m):=by
 unfold Xbq Xed inR
 by_cases h:0≤n
 ·rw [XaV h];simp [h]
 ·rw [XaM h];simp [h]
theorem XPP (n m:Int):Xff n m=some (inR n m):=by
 unfold Xff Xlo inR
 by_cases h:0≤n
 ·rw [XaV (by omega)];simp [h]
 ·rw [XaM (by omega)];simp [h]
def four (a:Xaa):Bool:=!a.V6&&aok a
theorem XJJ (a:Xaa):XbW a=some (four a):=by
 unfold XbW Xfx four
 rw [Xkw];cases a.V6<;>rfl
theorem Xyr (a:Xaa):Xdn a=some (four a):=by
 unfold Xdn Xh1 four
 rw [Xjv];cases aok a<;>cases a.V6<;>rfl
def H5 (h:Xah):Bool:=inR h.Class 255&&inR h.Mark 65535&&inR h.TTL 255&&inR h.Proto 255&&four h.Src&&four h.Dst&&decide (h.Options.length%4=0)&&decide (h.Options.length≤40)
theorem XGT (h:Xah):Xbo h=some (H5 h):=by
 unfold Xbo Xds H5
 simp only [Xr4,XJJ,Option.bind_some,Xvg,XAq]
 cases inR h.Class 255<;>cases inR h.Mark 65535<;>cases inR h.TTL 255<;>cases inR h.Proto 255<;>cases four h.Src<;>cases four h.Dst<;>cases decide (h.Options.length%4=0)<;>rfl
theorem Xvs (h:Xah):XcQ h=some (H5 h):=by
 unfold XcQ Xg5 H5
 simp only [XPP,Xyr,Option.bind_some,Xvg,XAq]
 cases inR h.Class 255<;>cases inR h.Mark 65535<;>cases inR h.TTL 255<;>cases inR h.Proto 255<;>cases four h.Src<;>cases four h.Dst<;>cases decide (h.Options.length%4=0)<;>cases decide (h.Options.length≤40)<;>rfl
def hd5 (h:Xah) (n:Int):List UInt8:=
 XcG (64+((20+h.Options.length)/4:Nat)) 1++XcG h.Class 1++XcG n 2++XcG h.Mark 2++XcG (cond h.Whole 64 0) 1++XcG 0 1++XcG h.TTL 1++XcG h.Proto 1++XcG 0 2++Xcf h.Src++Xcf h.Dst++h.Options
theorem Xui (h:Xah) (n:Int):(hd5 h n).length≤104+h.Options.length:=by
 have a1:=Xbw (64+((20+h.Options.length)/4:Nat)) 1
 have a2:=Xbw h.Class 1
 have a3:=Xbw n 2
 have a4:=Xbw h.Mark 2
 have a5:=Xbw (cond h.Whole 64 0) 1
 have a6:=Xbw 0 1
 have a7:=Xbw h.TTL 1
 have a8:=Xbw h.Proto 1
 have a9:=Xbw 0 2
 have b1:(Xcf h.Src).length≤16:=by rw [Xdi];cases h.Src.V6<;>decide
 have b2:(Xcf h.Dst).length≤16:=by rw [Xdi];cases h.Dst.V6<;>decide
 unfold hd5
 simp only [List.length_append];omega
def XOa (h:Xah) (l:List UInt8):List UInt8×Int:=
 if H5 h=false then ([],1) else if 65535 - (20+(h.Options.length:Int))<l.length then ([],5) else
  (XpI (hd5 h (20+h.Options.length+l.length)) 10 2 (65535 - (norm (Xgz (hd5 h (20+h.Options.length+l.length))):Nat))++l,0)
theorem Xrh (s:List UInt8) (p k n:Int):(XpI s p k n).length≤s.length+8:=by
 unfold XpI
 split
 ·simp;omega
 ·omega
theorem XwA {t l:List UInt8} (ht:t.length≤2^20) (hl:l.length<2^30):((XbG t).bind fun xo=>(Xbm t 10 2 (wI .u64 xo)).bind fun s=>XaK (decide (s.length+l.length<2^63)) (some (s++l,(0:Int))))=some (XpI t 10 2 (65535 - (norm (Xgz t):Nat))++l,0):=by
 have:=norm_le (Xgz t)
 have hs:=Xrh t 10 2 (65535 - (norm (Xgz t):Nat))
 rw [X2y (by omega),Option.bind_some,Xhv (by omega) (by omega),XAP (by omega) (by omega),Option.bind_some,Xaz (by omega)]
theorem XpB {t l:List UInt8} (ht:t.length≤2^20) (hl:l.length<2^30):((Xc1 t).bind fun xo=>(Xb1 t 10 2 (wI .u64 xo)).bind fun s=>XaK (decide (s.length+l.length<2^63)) (some (s++l,(0:Int))))=some (XpI t 10 2 (65535 - (norm (Xgz t):Nat))++l,0):=by
 have:=norm_le (Xgz t)
 have hs:=Xrh t 10 2 (65535 - (norm (Xgz t):Nat))
 rw [XoM (by omega),Option.bind_some,Xhv (by omega) (by omega),Xnc (by omega) (by omega) (by omega),Option.bind_some,Xaz (by omega)]
theorem XBk {h:Xah} (hh:H5 h=true):(0≤h.Class∧h.Class≤255)∧(0≤h.Mark∧h.Mark≤65535)∧(0≤h.TTL∧h.TTL≤255)∧(0≤h.Proto∧h.Proto≤255)∧(h.Src.V6=false∧aok h.Src=true)∧(h.Dst.V6=false∧aok h.Dst=true)∧h.Options.length%4=0∧h.Options.length≤40:=by
 unfold H5 four at hh
 simp only [Bool.and_eq_true,XC3,Bool.not_eq_true',decide_eq_true_eq] at hh
 obtain ⟨⟨⟨⟨⟨⟨⟨a,b⟩,c⟩,d⟩,e⟩,f⟩,g⟩,i⟩:=hh
 exact ⟨a,b,c,d,e,f,g,i⟩
theorem p5_eq {h:Xah} {l:List UInt8} (h1:A4 h.Src) (h2:A4 h.Dst) (hl:l.length<2^20) (ho:h.Options.length<2^20):Xcg h l=some (XOa h l):=by
 unfold Xcg XfX XOa
 rw [XGT,Option.bind_some]
 cases hh:H5 h
 ·rfl
 obtain ⟨q1,q2,q3,q4,q5,q6,q7,q8⟩:=XBk hh
 simp only [Bool.not_true,cond_false]
 rw [if_neg (by decide),XcC (n:=20+(h.Options.length:Int)) (by omega) (by omega),XcC (n:=65535 - (20+(h.Options.length:Int))) (by omega) (by omega)]
 by_cases h5:(l.length:Int)>65535 - (20+(h.Options.length:Int))
 ·rw [XaV h5,if_pos (by omega)]
 rw [XaM h5,if_neg (by omega)]
 have b1:(Xcf h.Src).length≤16:=by rw [Xdi];cases h.Src.V6<;>decide
 have b2:(Xcf h.Dst).length≤16:=by rw [Xdi];cases h.Dst.V6<;>decide
 have eo:Xkl .i64 64 (wI .i64 (((20+h.Options.length)/4:Nat):Int))=64+(((20+h.Options.length)/4:Nat):Int):=by
  rw [XcC (by omega) (by omega)]
  exact Xm7 4 (a:=4) (by omega) (by omega) (by omega) (by omega) (by omega)
 have hlen:=Xui h (20+h.Options.length+l.length)
 have key:∀ fl:Int,fl=cond h.Whole 64 0→((Xa6 [64+(((20+h.Options.length)/4:Nat):Int),1,h.Class,1,20+(h.Options.length:Int)+l.length,2,h.Mark,2,fl,1,0,1,h.TTL,1,h.Proto,1,0,2]).bind fun xr=>XaK (decide ((Xcf h.Src).length+(Xcf h.Dst).length<2^63))<|XaK (decide ((Xcf h.Src++Xcf h.Dst).length+h.Options.length<2^63))<|XaK (decide (xr.length+((Xcf h.Src++Xcf h.Dst)++h.Options).length<2^63)) <|
  (XbG (xr++((Xcf h.Src++Xcf h.Dst)++h.Options))).bind fun xo=>(Xbm (xr++((Xcf h.Src++Xcf h.Dst)++h.Options)) 10 2 (wI .u64 xo)).bind fun s=>XaK (decide (s.length+l.length<2^63)) (some (s++l,(0:Int))))=some (XpI (hd5 h (20+h.Options.length+l.length)) 10 2 (65535 - (norm (Xgz (hd5 h (20+h.Options.length+l.length))):Nat))++l,0):=by
  intro fl hfl
  have hfr:0≤fl∧fl≤64:=by subst hfl;cases h.Whole<;>decide
  have hrow:XCN [64+(((20+h.Options.length)/4:Nat):Int),1,h.Class,1,20+(h.Options.length:Int)+l.length,2,h.Mark,2,fl,1,0,1,h.TTL,1,h.Proto,1,0,2]=XcG (64+((20+h.Options.length)/4:Nat)) 1++(XcG h.Class 1++(XcG (20+(h.Options.length:Int)+l.length) 2++(XcG h.Mark 2++(XcG fl 1++(XcG 0 1++(XcG h.TTL 1++(XcG h.Proto 1++(XcG 0 2++[])))))))):=by
   simp only [XCN]
   rw [Xhv (n:=64+(((20+h.Options.length)/4:Nat):Int)) (by omega) (by omega),Xhv q1.1 (by omega),Xhv (n:=20+(h.Options.length:Int)+l.length) (by omega) (by omega),Xhv q2.1 (by omega),Xhv hfr.1 (by omega),Xhv q3.1 (by omega),Xhv q4.1 (by omega),show wI .u64 0=0 from rfl]
  rw [XFB (by simp) (by simp) (by simp),hrow,Option.bind_some]
  have e:XcG (64+((20+h.Options.length)/4:Nat)) 1++(XcG h.Class 1++(XcG (20+(h.Options.length:Int)+l.length) 2++(XcG h.Mark 2++(XcG fl 1++(XcG 0 1++(XcG h.TTL 1++(XcG h.Proto 1++(XcG 0 2++[]))))))))++(Xcf h.Src++Xcf h.Dst++h.Options)=hd5 h (20+h.Options.length+l.length):=by
   subst hfl;unfold hd5;simp only [List.append_assoc,List.append_nil]
  have hl2:=congrArg List.length e
  rw [List.length_append] at hl2
  rw [Xaz (by omega),Xaz (by simp only [List.length_append];omega),Xaz (by omega),e]
  exact XwA (by omega) (by omega)
 rw [XcC (n:=20+(h.Options.length:Int)+l.length) (by omega) (by omega),X3o,eo,Xn6 h1 q5.2,Xn6 h2 q6.2]
 simp only [Option.bind_some]
 cases hw:h.Whole
 ·rw [cond_false]
  have:=key 0 (by rw [hw];rfl)
  rw [hw] at *
  exact this
 ·rw [cond_true]
  have:=key 64 (by rw [hw];rfl)
  exact this
theorem X08 {h:Xah} {l:List UInt8} (h1:A4 h.Src) (h2:A4 h.Dst) (hl:l.length<2^20) (ho:h.Options.length<2^20):Xey h l=some (XOa h l):=by
 unfold Xey Xjm XOa
 rw [Xvs,Option.bind_some]
 cases hh:H5 h
 ·rfl
 obtain ⟨q1,q2,q3,q4,q5,q6,q7,q8⟩:=XBk hh
 simp only [Bool.not_true,cond_false]
 rw [if_neg (by decide),XcC (n:=20+(h.Options.length:Int)) (by omega) (by omega),XcC (n:=65535 - (20+(h.Options.length:Int))) (by omega) (by omega)]
 by_cases h5:(l.length:Int)>65535 - (20+(h.Options.length:Int))
 ·rw [XaV h5,if_pos (by omega)]
 rw [XaM h5,if_neg (by omega)]
 have b1:(Xcf h.Src).length≤16:=by rw [Xdi];cases h.Src.V6<;>decide
 have b2:(Xcf h.Dst).length≤16:=by rw [Xdi];cases h.Dst.V6<;>decide
 rw [XcC (n:=20+(h.Options.length:Int)+l.length) (by omega) (by omega),X3o,XcC (n:=(((20+h.Options.length)/4:Nat):Int)) (by omega) (by omega),XcC (n:=64+(((20+h.Options.length)/4:Nat):Int)) (by omega) (by omega),XlS h1 q5.2,XlS h2 q6.2]
 simp only [Xxf,Option.bind_some]
 rw [Xhv (n:=64+(((20+h.Options.length)/4:Nat):Int)) (by omega) (by omega),Xhv q1.1 (by omega),Xhv (n:=20+(h.Options.length:Int)+l.length) (by omega) (by omega),Xhv q2.1 (by omega),Xhv q3.1 (by omega),Xhv q4.1 (by omega),show wI .u64 0=0 from rfl,show wI .u64 64=64 from rfl]
 have a1:=Xbw (64+((20+h.Options.length)/4:Nat)) 1
 have a2:=Xbw h.Class 1
 have a3:=Xbw (20+(h.Options.length:Int)+l.length) 2
 have a4:=Xbw h.Mark 2
 have a5:=Xbw 64 1
 have a6:=Xbw 0 1
 have a7:=Xbw h.TTL 1
 have a8:=Xbw h.Proto 1
 have a9:=Xbw 0 2
 have hlen:=Xui h (20+h.Options.length+l.length)
 cases hw:h.Whole
 ·rw [cond_false]
  have e:XcG (64+((20+h.Options.length)/4:Nat)) 1++XcG h.Class 1++XcG (20+(h.Options.length:Int)+l.length) 2++XcG h.Mark 2++XcG 0 1++XcG 0 1++XcG h.TTL 1++XcG h.Proto 1++XcG 0 2++Xcf h.Src++Xcf h.Dst++h.Options=hd5 h (20+h.Options.length+l.length):=by unfold hd5;rw [hw];rfl
  iterate 11 rw [Xaz (by first|omega|(simp only [List.length_append];omega))]
  rw [e]
  exact XpB (by omega) (by omega)
 ·rw [cond_true]
  have e:XcG (64+((20+h.Options.length)/4:Nat)) 1++XcG h.Class 1++XcG (20+(h.Options.length:Int)+l.length) 2++XcG h.Mark 2++XcG 64 1++XcG 0 1++XcG h.TTL 1++XcG h.Proto 1++XcG 0 2++Xcf h.Src++Xcf h.Dst++h.Options=hd5 h (20+h.Options.length+l.length):=by unfold hd5;rw [hw];rfl
  iterate 11 rw [Xaz (by first|omega|(simp only [List.length_append];omega))]
  rw [e]
  exact XpB (by omega) (by omega)
theorem Xr3:∀ i:Fin 16,i.val≠14→Nat.testBit 18446744073709535231 i.val=true:=by decide +kernel
theorem Xsg {x:Nat} (hx:x<65536):x &&& 18446744073709535231=0↔x=0∨x=16384:=by
 constructor
 ·intro h
  have hbit:∀ i,i≠14→x.testBit i=false:=by
   intro i hi
   by_cases h16:i<16
   ·have h1:(x &&& 18446744073709535231).testBit i=false:=by rw [h];exact Nat.zero_testBit i
    rw [Nat.testBit_and,Xr3 ⟨i,h16⟩ hi,Bool.and_true] at h1
    exact h1
   ·exact Nat.testBit_lt_two_pow (Nat.lt_of_lt_of_le hx (by
     have:2^16≤2^i:=Nat.pow_le_pow_right (by decide) (by omega)
     omega))
  cases h14:x.testBit 14
  ·left
   apply Nat.eq_of_testBit_eq
   intro i
   rw [Nat.zero_testBit]
   by_cases hi:i=14
   ·rw [hi,h14]
   ·exact hbit i hi
  ·right
   apply Nat.eq_of_testBit_eq
   intro i
   rw [show (16384:Nat)=2^14 from rfl,Nat.testBit_two_pow]
   by_cases hi:i=14
   ·rw [hi,h14];rfl
   ·rw [hbit i hi,decide_eq_false (fun e=>hi e.symm)]
 ·rintro (h|h)
  ·rw [h];rfl
  ·rw [h];rfl
theorem X1b {x:Nat} (hx:x<65536):Xwp .i64 (x:Int) 16384=((x &&& 18446744073709535231:Nat):Int):=by
 have h:x &&& 18446744073709535231≤x:=Nat.and_le_left
 show IntKind.wrap .i64 _=_
 rw [show IntKind.bits .i64=64 from rfl,BitVec.toNat_and,XHI (by omega),show (~~~ (BitVec.ofInt 64 16384)).toNat=18446744073709535231 from rfl]
 exact XcC (by omega) (by omega)
theorem Xs7 {a b:UInt8}:(Xwp .i64 ((a.toNat:Int)*256+b.toNat) 16384 !=0)=decide ((a.toNat:Int)*256+b.toNat≠0∧(a.toNat:Int)*256+b.toNat≠16384):=by
 have h1:=a.toNat_lt
 have h2:=b.toNat_lt
 have hx:a.toNat*256+b.toNat<65536:=by omega
 rw [show (a.toNat:Int)*256+b.toNat=((a.toNat*256+b.toNat:Nat):Int) by omega,X1b hx,Bool.eq_iff_iff,bne_iff_ne,decide_eq_true_eq]
 have hz:=Xsg hx
 generalize a.toNat*256+b.toNat=x at *
 generalize x &&& 18446744073709535231=y at *
 constructor
 ·intro h
  have:¬ (x=0∨x=16384):=fun e=>h (by have:=hz.2 e;omega)
  omega
 ·intro h e
  have:=hz.1 (by omega)
  omega
end Go.Vm.Code
namespace Go.Vm.Code
open Go Go.Vm Go.Proofs
set_option maxRecDepth 100000
set_option maxHeartbeats 4000000
set_option linter.unusedVariables false
def XdP (ha0:Xaj):Option Bool:=
 cond (decide (ha0.Class<0))
  (
  some (false))
  (
  cond (decide (ha0.Class>255))
   (
   some (false))
   (
   cond (decide (ha0.Label<0))
    (
    some (false))
    (
    cond (decide (ha0.Label>1048575))
     (
     some (false))
     (
     cond (decide (ha0.Next<0))
      (
      some (false))
      (
      cond (decide (ha0.Next>255))
       (
       some (false))
       (
       cond (decide (ha0.Hop<0))
        (
        some (false))
        (
        cond (decide (ha0.Hop>255))
         (
         some (false))
         (
         cond (ha0.Src.V6)
          (
          some (ha0.Dst.V6))
          (
          some (false))))))))))
def rx79 (x:Bool):Xco:=⟨.bool x,[],[]⟩
def r79 (g:Xaj→Option Bool):Dec:=dV XeE fun (y0:Xaj)=>Xc4 (ofG (g y0) rx79)
theorem r79_c {g:Xaj→Option Bool} {y0:Xaj} {x:Bool} (hx:g y0=some x):r79 g [.agg ⟨[.int .i64 y0.Class,.int .i64 y0.Label,.int .i64 y0.Next,.int .i64 y0.Hop,.bool y0.Src.V6,.int .u64 y0.Src.Hi,.int .u64 y0.Src.Lo,.bool y0.Dst.V6,.int .u64 y0.Dst.Hi,.int .u64 y0.Dst.Lo]⟩] []=some (rx79 x):=(XaS (Xgn _)).trans (XaZ hx)
def s79 (g:Xaj→Option Bool):Xbp:=⟨[.v],r79 g⟩
theorem XUg {g:Xaj→Option Bool} {y0:Xaj} {x:Bool} (hx:g y0=some x):(s79 g).run [.agg ⟨[.int .i64 y0.Class,.int .i64 y0.Label,.int .i64 y0.Next,.int .i64 y0.Hop,.bool y0.Src.V6,.int .u64 y0.Src.Hi,.int .u64 y0.Src.Lo,.bool y0.Dst.V6,.int .u64 y0.Dst.Hi,.int .u64 y0.Dst.Lo]⟩] []=some (rx79 x):=r79_c hx
abbrev Xzu:List (Nat×Xbp):=[]
theorem XHp (hS:Xai Tryz.prog (Xar (Xzu))) (ha0:Xaj) (res:Bool) (h:XdP ha0=some res) :
 XaD Tryz.prog 79 0 ⟨⟨79,42,[(0,.agg ⟨[.int .i64 ha0.Class,.int .i64 ha0.Label,.int .i64 ha0.Next,.int .i64 ha0.Hop,.bool ha0.Src.V6,.int .u64 ha0.Src.Hi,.int .u64 ha0.Src.Lo,.bool ha0.Dst.V6,.int .u64 ha0.Dst.Hi,.int .u64 ha0.Dst.Lo]⟩)],[.code XAd],[],false,none⟩,[],[],0⟩ (fun v H _=>Res 0 (rx79 res) v H):=by
 unfold XdP at h
 refine Xa9 Xam hS true 3000 ?_
 conv=>whnf
 refine Xa9 Xam hS true 3000 ?_
 conv=>whnf
 refine br.h h ?_ ?_ ?_
 ·rfl
 ·clear h;intro hb h;conv=>whnf
  all_goals (cases h;exact Res.z rfl rfl rfl)
 clear h;intro hb h;conv=>whnf
 refine br.h h ?_ ?_ ?_
 ·rfl
 ·clear h;intro hb h;conv=>whnf
  all_goals (cases h;exact Res.z rfl rfl rfl)
 clear h;intro hb h;conv=>whnf
 refine Xa9 Xam hS true 3000 ?_
 conv=>whnf
 refine br.h h ?_ ?_ ?_
 ·rfl
 ·clear h;intro hb h;conv=>whnf
  all_goals (cases h;exact Res.z rfl rfl rfl)
 clear h;intro hb h;conv=>whnf
 refine br.h h ?_ ?_ ?_
 ·rfl
 ·clear h;intro hb h;conv=>whnf
  all_goals (cases h;exact Res.z rfl rfl rfl)
 clear h;intro hb h;conv=>whnf
 refine Xa9 Xam hS true 3000 ?_
 conv=>whnf
 refine br.h h ?_ ?_ ?_
 ·rfl
 ·clear h;intro hb h;conv=>whnf
  all_goals (cases h;exact Res.z rfl rfl rfl)
 clear h;intro hb h;conv=>whnf
 refine br.h h ?_ ?_ ?_
 ·rfl
 ·clear h;intro hb h;conv=>whnf
  all_goals (cases h;exact Res.z rfl rfl rfl)
 clear h;intro hb h;conv=>whnf
 refine Xa9 Xam hS true 3000 ?_
 conv=>whnf
 refine br.h h ?_ ?_ ?_
 ·rfl
 ·clear h;intro hb h;conv=>whnf
  all_goals (cases h;exact Res.z rfl rfl rfl)
 clear h;intro hb h;conv=>whnf
 refine br.h h ?_ ?_ ?_
 ·rfl
 ·clear h;intro hb h;conv=>whnf
  all_goals (cases h;exact Res.z rfl rfl rfl)
 clear h;intro hb h;conv=>whnf
 refine Xa9 Xam hS true 3000 ?_
 conv=>whnf
 refine br.h h ?_ ?_ ?_
 ·rfl
 ·clear h;intro hb h;conv=>whnf
  all_goals (cases h;exact Res.z rfl rfl rfl)
 clear h;intro hb h;conv=>whnf
 all_goals (cases h;exact Res.z rfl rfl rfl)
theorem ok79 (hS:Xai Tryz.prog (Xar (Xzu))):Xan Tryz.prog 79 (s79 (XdP)):=by
 refine Xan.Xau Xam (fun ar os r ha hr=>?_) ⟨Tryz.f79,rfl,by decide,rfl⟩
 replace hr:r79 (XdP) ar (XaA os)=some r:=hr
 unfold r79 at hr
 generalize hc:XaA os=C at hr
 replace hr:=dV.elim hr;obtain ⟨v0,l1,y0,rfl,e0,hr⟩:=hr;obtain rfl:=XfM _ _ e0
 replace hr:=Xdf hr;obtain ⟨rfl,rfl,x,h,rfl⟩:=hr
 obtain rfl:=Xao hc
 exact ⟨_,rfl,XHp hS _ x h⟩
def Xbv:Xaj→Option Bool:=XdP
theorem XRX:Xan Tryz.prog 79 (s79 Xbv):=ok79 (Xai.XaW trivial)
def XgX (Xa3:Xaa→Option (List UInt8)) (Xbv:Xaj→Option Bool) (Xaq:Int→Int→Option (List UInt8)) (ha0:Xaj) (payload:List UInt8):Option ((List UInt8)×Int):=
 (Xbv ha0).bind fun m=>
 cond (!m)
  (
  some (([],1)))
  (
  cond (decide ((payload.length:Int)>65535))
   (
   some (([],5)))
   (
   let t:=Xkl .u64 1610612736 (wI .u64 ((wI .u64 ha0.Class)*2^20))
   (Xaq (Xkl .u64 t (wI .u64 ha0.Label)) 4).bind fun p=>
   let t1:=wI .u64 ((wI .u64 (payload.length:Int))*2^16)
   let t2:=Xkl .u64 t1 (wI .u64 ((wI .u64 ha0.Next)*2^8))
   (Xaq (Xkl .u64 t2 (wI .u64 ha0.Hop)) 4).bind fun p1=>
   XaK (decide (p.length+p1.length<2^63)) <|
   (Xa3 ha0.Src).bind fun p2=>
   XaK (decide ((p++p1).length+p2.length<2^63)) <|
   (Xa3 ha0.Dst).bind fun p3=>
   XaK (decide (((p++p1)++p2).length+p3.length<2^63)) <|
   XaK (decide ((((p++p1)++p2)++p3).length+payload.length<2^63)) <|
   some (((((p++p1)++p2)++p3)++payload,0))))
def rx48 (x:(List UInt8)×Int):Xco:=⟨.tuple ⟨[.string ⟨⟨x.1⟩⟩,.int .i64 x.2]⟩,[],[]⟩
def r48 (g:Xaj→(List UInt8)→Option ((List UInt8)×Int)):Dec:=dV XeE fun (y0:Xaj)=>dV asS fun (y1:List UInt8)=>Xc4 (ofG (g y0 y1) rx48)
theorem r48_c {g:Xaj→(List UInt8)→Option ((List UInt8)×Int)} {y0:Xaj} {y1:List UInt8} {x:(List UInt8)×Int} (hx:g y0 y1=some x):r48 g [.agg ⟨[.int .i64 y0.Class,.int .i64 y0.Label,.int .i64 y0.Next,.int .i64 y0.Hop,.bool y0.Src.V6,.int .u64 y0.Src.Hi,.int .u64 y0.Src.Lo,.bool y0.Dst.V6,.int .u64 y0.Dst.Hi,.int .u64 y0.Dst.Lo]⟩,.string ⟨⟨y1⟩⟩] []=some (rx48 x):=(XaS (Xgn _)).trans ((XaS (XdJ)).trans (XaZ hx))
def s48 (g:Xaj→(List UInt8)→Option ((List UInt8)×Int)):Xbp:=⟨[.v,.v],r48 g⟩
theorem X2n {g:Xaj→(List UInt8)→Option ((List UInt8)×Int)} {y0:Xaj} {y1:List UInt8} {x:(List UInt8)×Int} (hx:g y0 y1=some x):(s48 g).run [.agg ⟨[.int .i64 y0.Class,.int .i64 y0.Label,.int .i64 y0.Next,.int .i64 y0.Hop,.bool y0.Src.V6,.int .u64 y0.Src.Hi,.int .u64 y0.Src.Lo,.bool y0.Dst.V6,.int .u64 y0.Dst.Hi,.int .u64 y0.Dst.Lo]⟩,.string ⟨⟨y1⟩⟩] []=some (rx48 x):=r48_c hx
abbrev XBH (Xa3:Xaa→Option (List UInt8)) (Xbv:Xaj→Option Bool) (Xaq:Int→Int→Option (List UInt8)):List (Nat×Xbp):=[(80,s80 Xa3),(79,s79 Xbv),(42,s42 Xaq)]
theorem XKT (Xa3:Xaa→Option (List UInt8)) (Xbv:Xaj→Option Bool) (Xaq:Int→Int→Option (List UInt8)) (hS:Xai Tryz.prog (Xar (XBH Xa3 Xbv Xaq))) (ha0:Xaj) (payload:List UInt8) (res:(List UInt8)×Int) (h:XgX Xa3 Xbv Xaq ha0 payload=some res) :
 XaD Tryz.prog 48 0 ⟨⟨48,53,[(0,.agg ⟨[.int .i64 ha0.Class,.int .i64 ha0.Label,.int .i64 ha0.Next,.int .i64 ha0.Hop,.bool ha0.Src.V6,.int .u64 ha0.Src.Hi,.int .u64 ha0.Src.Lo,.bool ha0.Dst.V6,.int .u64 ha0.Dst.Hi,.int .u64 ha0.Dst.Lo]⟩),(1,.string ⟨⟨payload⟩⟩)],[.code XBv],[],false,none⟩,[],[],0⟩ (fun v H _=>Res 0 (rx48 res) v H):=by
 unfold XgX at h
 refine Xa9 Xam hS true 3000 ?_
 conv=>whnf
 replace h:=Xak.elim h;obtain ⟨m,hy,h⟩:=h
 refine XaG.q rfl rfl (XUg hy) rfl rfl rfl ?_
 conv=>whnf
 refine br.h h ?_ ?_ ?_
 ·rfl
 ·clear h;intro hb h;conv=>whnf
  all_goals (cases h;exact Res.z rfl rfl rfl)
 clear h;intro hb h;conv=>whnf
 refine br.h h ?_ ?_ ?_
 ·rfl
 ·clear h;intro hb h;conv=>whnf
  all_goals (cases h;exact Res.z rfl rfl rfl)
 clear h;intro hb h;conv=>whnf
 let t:Int:=Xkl .u64 1610612736 (wI .u64 ((wI .u64 ha0.Class)*2^20))
 replace h:=Xak.elim h;obtain ⟨p,hy,h⟩:=h
 refine XaG.q rfl rfl (Xj1 hy) rfl rfl rfl ?_
 conv=>whnf
 let t1:Int:=wI .u64 ((wI .u64 (payload.length:Int))*2^16)
 let t2:Int:=Xkl .u64 t1 (wI .u64 ((wI .u64 ha0.Next)*2^8))
 replace h:=Xak.elim h;obtain ⟨p1,hy,h⟩:=h
 refine XaG.q rfl rfl (Xj1 hy) rfl rfl rfl ?_
 conv=>whnf
 replace h:=XaK.elim h;obtain ⟨hb,h⟩:=h
 first|(refine req.intro hb ?_;conv=>whnf)|skip
 replace h:=Xak.elim h;obtain ⟨p2,hy,h⟩:=h
 refine XaG.q rfl rfl (XlJ hy) rfl rfl rfl ?_
 conv=>whnf
 replace h:=XaK.elim h;obtain ⟨hb,h⟩:=h
 first|(refine req.intro hb ?_;conv=>whnf)|skip
 replace h:=Xak.elim h;obtain ⟨p3,hy,h⟩:=h
 refine XaG.q rfl rfl (XlJ hy) rfl rfl rfl ?_
 conv=>whnf
 replace h:=XaK.elim h;obtain ⟨hb,h⟩:=h
 first|(refine req.intro hb ?_;conv=>whnf)|skip
 replace h:=XaK.elim h;obtain ⟨hb,h⟩:=h
 first|(refine req.intro hb ?_;conv=>whnf)|skip
 all_goals (cases h;exact Res.z rfl rfl rfl)
theorem ok48 (Xa3:Xaa→Option (List UInt8)) (Xbv:Xaj→Option Bool) (Xaq:Int→Int→Option (List UInt8)) (hS:Xai Tryz.prog (Xar (XBH Xa3 Xbv Xaq))):Xan Tryz.prog 48 (s48 (XgX Xa3 Xbv Xaq)):=by
 refine Xan.Xau Xam (fun ar os r ha hr=>?_) ⟨Tryz.f48,rfl,by decide,rfl⟩
 replace hr:r48 (XgX Xa3 Xbv Xaq) ar (XaA os)=some r:=hr
 unfold r48 at hr
 generalize hc:XaA os=C at hr
 replace hr:=dV.elim hr;obtain ⟨v0,l1,y0,rfl,e0,hr⟩:=hr;obtain rfl:=XfM _ _ e0
 replace hr:=dV.elim hr;obtain ⟨v1,l2,y1,rfl,e1,hr⟩:=hr;obtain rfl:=Xb7 _ _ e1
 replace hr:=Xdf hr;obtain ⟨rfl,rfl,x,h,rfl⟩:=hr
 obtain rfl:=Xao hc
 exact ⟨_,rfl,XKT Xa3 Xbv Xaq hS _ _ x h⟩
def XcN:Xaj→(List UInt8)→Option ((List UInt8)×Int):=XgX Xa3 Xbv Xaq
theorem X5W:Xan Tryz.prog 48 (s48 XcN):=ok48 Xa3 Xbv Xaq (Xai.XaW ⟨XtT,XRX,Xpl,trivial⟩)
def Xle (n:Int) (most:Int):Option Bool:=
 cond (decide (n≥0))
  (
  some (decide (n≤most)))
  (
  some (false))
def XwP (x:Bool):Xco:=⟨.bool x,[],[]⟩
def r118 (g:Int→Int→Option Bool):Dec:=dV (asI .i64) fun (y0:Int)=>dV (asI .i64) fun (y1:Int)=>Xc4 (ofG (g y0 y1) XwP)
theorem XXH {g:Int→Int→Option Bool} {y0:Int} {y1:Int} {x:Bool} (hx:g y0 y1=some x):r118 g [.int .i64 y0,.int .i64 y1] []=some (XwP x):=(XaS (XcI _)).trans ((XaS (XcI _)).trans (XaZ hx))
def s118 (g:Int→Int→Option Bool):Xbp:=⟨[.v,.v],r118 g⟩
theorem XnP {g:Int→Int→Option Bool} {y0:Int} {y1:Int} {x:Bool} (hx:g y0 y1=some x):(s118 g).run [.int .i64 y0,.int .i64 y1] []=some (XwP x):=XXH hx
abbrev XuO:List (Nat×Xbp):=[]
theorem Xxo (hS:Xai Tryz.prog (Xar (XuO))) (n:Int) (most:Int) (res:Bool) (h:Xle n most=some res) :
 XaD Tryz.prog 118 0 ⟨⟨118,12,[(0,.int .i64 n),(1,.int .i64 most)],[.code XzL],[],false,none⟩,[],[],0⟩ (fun v H _=>Res 0 (XwP res) v H):=by
 unfold Xle at h
 refine Xa9 Xam hS true 3000 ?_
 conv=>whnf
 refine br.h h ?_ ?_ ?_
 ·rfl
 ·clear h;intro hb h;conv=>whnf
  all_goals (cases h;exact Res.z rfl rfl rfl)
 clear h;intro hb h;conv=>whnf
 all_goals (cases h;exact Res.z rfl rfl rfl)
theorem ok118 (hS:Xai Tryz.prog (Xar (XuO))):Xan Tryz.prog 118 (s118 (Xle)):=by
 refine Xan.Xau Xam (fun ar os r ha hr=>?_) ⟨Tryz.f118,rfl,by decide,rfl⟩
 replace hr:r118 (Xle) ar (XaA os)=some r:=hr
 unfold r118 at hr
 generalize hc:XaA os=C at hr
 replace hr:=dV.elim hr;obtain ⟨v0,l1,y0,rfl,e0,hr⟩:=hr;obtain rfl:=XbO _ _ _ e0
 replace hr:=dV.elim hr;obtain ⟨v1,l2,y1,rfl,e1,hr⟩:=hr;obtain rfl:=XbO _ _ _ e1
 replace hr:=Xdf hr;obtain ⟨rfl,rfl,x,h,rfl⟩:=hr
 obtain rfl:=Xao hc
 exact ⟨_,rfl,Xxo hS _ _ x h⟩
def Xfk:Int→Int→Option Bool:=Xle
theorem XFn:Xan Tryz.prog 118 (s118 Xfk):=ok118 (Xai.XaW trivial)
def XgR (Xfk:Int→Int→Option Bool) (ha0:Xaj):Option Bool:=
 (Xfk ha0.Class 255).bind fun i=>
 cond (i)
  (
  (Xfk ha0.Label 1048575).bind fun i1=>
  cond (i1)
   (
   (Xfk ha0.Next 255).bind fun i2=>
   cond (i2)
    (
    (Xfk ha0.Hop 255).bind fun i3=>
    cond (i3)
     (
     cond (ha0.Src.V6)
      (
      some (ha0.Dst.V6))
      (
      some (false)))
     (
     some (false)))
    (
    some (false)))
   (
   some (false)))
  (
  some (false))
def rx90 (x:Bool):Xco:=⟨.bool x,[],[]⟩
def r90 (g:Xaj→Option Bool):Dec:=dV XeE fun (y0:Xaj)=>Xc4 (ofG (g y0) rx90)
theorem r90_c {g:Xaj→Option Bool} {y0:Xaj} {x:Bool} (hx:g y0=some x):r90 g [.agg ⟨[.int .i64 y0.Class,.int .i64 y0.Label,.int .i64 y0.Next,.int .i64 y0.Hop,.bool y0.Src.V6,.int .u64 y0.Src.Hi,.int .u64 y0.Src.Lo,.bool y0.Dst.V6,.int .u64 y0.Dst.Hi,.int .u64 y0.Dst.Lo]⟩] []=some (rx90 x):=(XaS (Xgn _)).trans (XaZ hx)
def s90 (g:Xaj→Option Bool):Xbp:=⟨[.v],r90 g⟩
theorem XRC {g:Xaj→Option Bool} {y0:Xaj} {x:Bool} (hx:g y0=some x):(s90 g).run [.agg ⟨[.int .i64 y0.Class,.int .i64 y0.Label,.int .i64 y0.Next,.int .i64 y0.Hop,.bool y0.Src.V6,.int .u64 y0.Src.Hi,.int .u64 y0.Src.Lo,.bool y0.Dst.V6,.int .u64 y0.Dst.Hi,.int .u64 y0.Dst.Lo]⟩] []=some (rx90 x):=r90_c hx
abbrev XAm (Xfk:Int→Int→Option Bool):List (Nat×Xbp):=[(118,s118 Xfk)]
theorem XJr (Xfk:Int→Int→Option Bool) (hS:Xai Tryz.prog (Xar (XAm Xfk))) (ha0:Xaj) (res:Bool) (h:XgR Xfk ha0=some res) :
 XaD Tryz.prog 90 0 ⟨⟨90,31,[(0,.agg ⟨[.int .i64 ha0.Class,.int .i64 ha0.Label,.int .i64 ha0.Next,.int .i64 ha0.Hop,.bool ha0.Src.V6,.int .u64 ha0.Src.Hi,.int .u64 ha0.Src.Lo,.bool ha0.Dst.V6,.int .u64 ha0.Dst.Hi,.int .u64 ha0.Dst.Lo]⟩)],[.code XOU],[],false,none⟩,[],[],0⟩ (fun v H _=>Res 0 (rx90 res) v H):=by
 unfold XgR at h
 refine Xa9 Xam hS true 3000 ?_
 conv=>whnf
 replace h:=Xak.elim h;obtain ⟨i,hy,h⟩:=h
 refine XaG.q rfl rfl (XnP hy) rfl rfl rfl ?_
 conv=>whnf
 refine br.h2 h ?_ ?_ ?_
 ·rfl
 ·clear h;intro hb h;conv=>whnf
  all_goals (cases h;exact Res.z rfl rfl rfl)
 clear h;intro hb h;conv=>whnf
 replace h:=Xak.elim h;obtain ⟨i1,hy,h⟩:=h
 refine XaG.q rfl rfl (XnP hy) rfl rfl rfl ?_
 conv=>whnf
 refine br.h2 h ?_ ?_ ?_
 ·rfl
 ·clear h;intro hb h;conv=>whnf
  all_goals (cases h;exact Res.z rfl rfl rfl)
 clear h;intro hb h;conv=>whnf
 replace h:=Xak.elim h;obtain ⟨i2,hy,h⟩:=h
 refine XaG.q rfl rfl (XnP hy) rfl rfl rfl ?_
 conv=>whnf
 refine br.h2 h ?_ ?_ ?_
 ·rfl
 ·clear h;intro hb h;conv=>whnf
  all_goals (cases h;exact Res.z rfl rfl rfl)
 clear h;intro hb h;conv=>whnf
 replace h:=Xak.elim h;obtain ⟨i3,hy,h⟩:=h
 refine XaG.q rfl rfl (XnP hy) rfl rfl rfl ?_
 conv=>whnf
 refine br.h2 h ?_ ?_ ?_
 ·rfl
 ·clear h;intro hb h;conv=>whnf
  all_goals (cases h;exact Res.z rfl rfl rfl)
 clear h;intro hb h;conv=>whnf
 refine br.h h ?_ ?_ ?_
 ·rfl
 ·clear h;intro hb h;conv=>whnf
  all_goals (cases h;exact Res.z rfl rfl rfl)
 clear h;intro hb h;conv=>whnf
 all_goals (cases h;exact Res.z rfl rfl rfl)
theorem ok90 (Xfk:Int→Int→Option Bool) (hS:Xai Tryz.prog (Xar (XAm Xfk))):Xan Tryz.prog 90 (s90 (XgR Xfk)):=by
 refine Xan.Xau Xam (fun ar os r ha hr=>?_) ⟨Tryz.f90,rfl,by decide,rfl⟩
 replace hr:r90 (XgR Xfk) ar (XaA os)=some r:=hr
 unfold r90 at hr
 generalize hc:XaA os=C at hr
 replace hr:=dV.elim hr;obtain ⟨v0,l1,y0,rfl,e0,hr⟩:=hr;obtain rfl:=XfM _ _ e0
 replace hr:=Xdf hr;obtain ⟨rfl,rfl,x,h,rfl⟩:=hr
 obtain rfl:=Xao hc
 exact ⟨_,rfl,XJr Xfk hS _ x h⟩
def XcX:Xaj→Option Bool:=XgR Xfk
theorem XTH:Xan Tryz.prog 90 (s90 XcX):=ok90 Xfk (Xai.XaW ⟨XFn,trivial⟩)
def XjE (XaU:Int→Int→Option (List UInt8)) (n:Int) (k:Int):Option (List UInt8):=
 (XaU (wI .u64 n) k).bind fun p=>
 some (p)
def rx91 (x:List UInt8):Xco:=⟨.string ⟨⟨x⟩⟩,[],[]⟩
def r91 (g:Int→Int→Option (List UInt8)):Dec:=dV (asI .i64) fun (y0:Int)=>dV (asI .i64) fun (y1:Int)=>Xc4 (ofG (g y0 y1) rx91)
theorem r91_c {g:Int→Int→Option (List UInt8)} {y0:Int} {y1:Int} {x:List UInt8} (hx:g y0 y1=some x):r91 g [.int .i64 y0,.int .i64 y1] []=some (rx91 x):=(XaS (XcI _)).trans ((XaS (XcI _)).trans (XaZ hx))
def s91 (g:Int→Int→Option (List UInt8)):Xbp:=⟨[.v,.v],r91 g⟩
theorem XqM {g:Int→Int→Option (List UInt8)} {y0:Int} {y1:Int} {x:List UInt8} (hx:g y0 y1=some x):(s91 g).run [.int .i64 y0,.int .i64 y1] []=some (rx91 x):=r91_c hx
abbrev Xz3 (XaU:Int→Int→Option (List UInt8)):List (Nat×Xbp):=[(85,s85 XaU)]
theorem XEv (XaU:Int→Int→Option (List UInt8)) (hS:Xai Tryz.prog (Xar (Xz3 XaU))) (n:Int) (k:Int) (res:List UInt8) (h:XjE XaU n k=some res) :
 XaD Tryz.prog 91 0 ⟨⟨91,9,[(0,.int .i64 n),(1,.int .i64 k)],[.code XSy],[],false,none⟩,[],[],0⟩ (fun v H _=>Res 0 (rx91 res) v H):=by
 unfold XjE at h
 refine Xa9 Xam hS true 3000 ?_
 conv=>whnf
 replace h:=Xak.elim h;obtain ⟨p,hy,h⟩:=h
 refine XaG.q rfl rfl (XkU hy) rfl rfl rfl ?_
 conv=>whnf
 all_goals (cases h;exact Res.z rfl rfl rfl)
theorem ok91 (XaU:Int→Int→Option (List UInt8)) (hS:Xai Tryz.prog (Xar (Xz3 XaU))):Xan Tryz.prog 91 (s91 (XjE XaU)):=by
 refine Xan.Xau Xam (fun ar os r ha hr=>?_) ⟨Tryz.f91,rfl,by decide,rfl⟩
 replace hr:r91 (XjE XaU) ar (XaA os)=some r:=hr
 unfold r91 at hr
 generalize hc:XaA os=C at hr
 replace hr:=dV.elim hr;obtain ⟨v0,l1,y0,rfl,e0,hr⟩:=hr;obtain rfl:=XbO _ _ _ e0
 replace hr:=dV.elim hr;obtain ⟨v1,l2,y1,rfl,e1,hr⟩:=hr;obtain rfl:=XbO _ _ _ e1
 replace hr:=Xdf hr;obtain ⟨rfl,rfl,x,h,rfl⟩:=hr
 obtain rfl:=Xao hc
 exact ⟨_,rfl,XEv XaU hS _ _ x h⟩
def XdV:Int→Int→Option (List UInt8):=XjE XaU
theorem X5V:Xan Tryz.prog 91 (s91 XdV):=ok91 XaU (Xai.XaW ⟨Xpz,trivial⟩)
def Xjn (Xbl:Xaa→Option (List UInt8)) (XcX:Xaj→Option Bool) (XdV:Int→Int→Option (List UInt8)) (ha0:Xaj) (payload:List UInt8):Option ((List UInt8)×Int):=
 (XcX ha0).bind fun xr=>
 cond (!xr)
  (
  some (([],1)))
  (
  cond (decide ((payload.length:Int)>65535))
   (
   some (([],5)))
   (
   let t:=wI .i64 (1610612736+(wI .i64 (ha0.Class*1048576)))
   (XdV (wI .i64 (t+ha0.Label)) 4).bind fun n=>
   (XdV (payload.length:Int) 2).bind fun n1=>
   XaK (decide (n.length+n1.length<2^63)) <|
   (XdV ha0.Next 1).bind fun n2=>
   XaK (decide ((n++n1).length+n2.length<2^63)) <|
   (XdV ha0.Hop 1).bind fun n3=>
   XaK (decide (((n++n1)++n2).length+n3.length<2^63)) <|
   (Xbl ha0.Src).bind fun p=>
   XaK (decide ((((n++n1)++n2)++n3).length+p.length<2^63)) <|
   (Xbl ha0.Dst).bind fun p1=>
   XaK (decide (((((n++n1)++n2)++n3)++p).length+p1.length<2^63)) <|
   XaK (decide ((((((n++n1)++n2)++n3)++p)++p1).length+payload.length<2^63)) <|
   let t1:=(((((n++n1)++n2)++n3)++p)++p1)++payload
   some ((t1,0))))
def rx51 (x:(List UInt8)×Int):Xco:=⟨.tuple ⟨[.string ⟨⟨x.1⟩⟩,.int .i64 x.2]⟩,[],[]⟩
def r51 (g:Xaj→(List UInt8)→Option ((List UInt8)×Int)):Dec:=dV XeE fun (y0:Xaj)=>dV asS fun (y1:List UInt8)=>Xc4 (ofG (g y0 y1) rx51)
theorem r51_c {g:Xaj→(List UInt8)→Option ((List UInt8)×Int)} {y0:Xaj} {y1:List UInt8} {x:(List UInt8)×Int} (hx:g y0 y1=some x):r51 g [.agg ⟨[.int .i64 y0.Class,.int .i64 y0.Label,.int .i64 y0.Next,.int .i64 y0.Hop,.bool y0.Src.V6,.int .u64 y0.Src.Hi,.int .u64 y0.Src.Lo,.bool y0.Dst.V6,.int .u64 y0.Dst.Hi,.int .u64 y0.Dst.Lo]⟩,.string ⟨⟨y1⟩⟩] []=some (rx51 x):=(XaS (Xgn _)).trans ((XaS (XdJ)).trans (XaZ hx))
def s51 (g:Xaj→(List UInt8)→Option ((List UInt8)×Int)):Xbp:=⟨[.v,.v],r51 g⟩
theorem XNJ {g:Xaj→(List UInt8)→Option ((List UInt8)×Int)} {y0:Xaj} {y1:List UInt8} {x:(List UInt8)×Int} (hx:g y0 y1=some x):(s51 g).run [.agg ⟨[.int .i64 y0.Class,.int .i64 y0.Label,.int .i64 y0.Next,.int .i64 y0.Hop,.bool y0.Src.V6,.int .u64 y0.Src.Hi,.int .u64 y0.Src.Lo,.bool y0.Dst.V6,.int .u64 y0.Dst.Hi,.int .u64 y0.Dst.Lo]⟩,.string ⟨⟨y1⟩⟩] []=some (rx51 x):=r51_c hx
abbrev XAR (Xbl:Xaa→Option (List UInt8)) (XcX:Xaj→Option Bool) (XdV:Int→Int→Option (List UInt8)):List (Nat×Xbp):=[(92,s92 Xbl),(90,s90 XcX),(91,s91 XdV)]
theorem XG3 (Xbl:Xaa→Option (List UInt8)) (XcX:Xaj→Option Bool) (XdV:Int→Int→Option (List UInt8)) (hS:Xai Tryz.prog (Xar (XAR Xbl XcX XdV))) (ha0:Xaj) (payload:List UInt8) (res:(List UInt8)×Int) (h:Xjn Xbl XcX XdV ha0 payload=some res) :
 XaD Tryz.prog 51 0 ⟨⟨51,42,[(0,.agg ⟨[.int .i64 ha0.Class,.int .i64 ha0.Label,.int .i64 ha0.Next,.int .i64 ha0.Hop,.bool ha0.Src.V6,.int .u64 ha0.Src.Hi,.int .u64 ha0.Src.Lo,.bool ha0.Dst.V6,.int .u64 ha0.Dst.Hi,.int .u64 ha0.Dst.Lo]⟩),(1,.string ⟨⟨payload⟩⟩)],[.code XBX],[],false,none⟩,[],[],0⟩ (fun v H _=>Res 0 (rx51 res) v H):=by
 unfold Xjn at h
 refine Xa9 Xam hS true 3000 ?_
 conv=>whnf
 replace h:=Xak.elim h;obtain ⟨xr,hy,h⟩:=h
 refine XaG.q rfl rfl (XRC hy) rfl rfl rfl ?_
 conv=>whnf
 refine br.h h ?_ ?_ ?_
 ·rfl
 ·clear h;intro hb h;conv=>whnf
  all_goals (cases h;exact Res.z rfl rfl rfl)
 clear h;intro hb h;conv=>whnf
 refine br.h h ?_ ?_ ?_
 ·rfl
 ·clear h;intro hb h;conv=>whnf
  all_goals (cases h;exact Res.z rfl rfl rfl)
 clear h;intro hb h;conv=>whnf
 let t:Int:=wI .i64 (1610612736+(wI .i64 (ha0.Class*1048576)))
 replace h:=Xak.elim h;obtain ⟨n,hy,h⟩:=h
 refine XaG.q rfl rfl (XqM hy) rfl rfl rfl ?_
 conv=>whnf
 replace h:=Xak.elim h;obtain ⟨n1,hy,h⟩:=h
 refine XaG.q rfl rfl (XqM hy) rfl rfl rfl ?_
 conv=>whnf
 replace h:=XaK.elim h;obtain ⟨hb,h⟩:=h
 first|(refine req.intro hb ?_;conv=>whnf)|skip
 replace h:=Xak.elim h;obtain ⟨n2,hy,h⟩:=h
 refine XaG.q rfl rfl (XqM hy) rfl rfl rfl ?_
 conv=>whnf
 replace h:=XaK.elim h;obtain ⟨hb,h⟩:=h
 first|(refine req.intro hb ?_;conv=>whnf)|skip
 replace h:=Xak.elim h;obtain ⟨n3,hy,h⟩:=h
 refine XaG.q rfl rfl (XqM hy) rfl rfl rfl ?_
 conv=>whnf
 replace h:=XaK.elim h;obtain ⟨hb,h⟩:=h
 first|(refine req.intro hb ?_;conv=>whnf)|skip
 replace h:=Xak.elim h;obtain ⟨p,hy,h⟩:=h
 refine XaG.q rfl rfl (XjX hy) rfl rfl rfl ?_
 conv=>whnf
 replace h:=XaK.elim h;obtain ⟨hb,h⟩:=h
 first|(refine req.intro hb ?_;conv=>whnf)|skip
 replace h:=Xak.elim h;obtain ⟨p1,hy,h⟩:=h
 refine XaG.q rfl rfl (XjX hy) rfl rfl rfl ?_
 conv=>whnf
 replace h:=XaK.elim h;obtain ⟨hb,h⟩:=h
 first|(refine req.intro hb ?_;conv=>whnf)|skip
 replace h:=XaK.elim h;obtain ⟨hb,h⟩:=h
 first|(refine req.intro hb ?_;conv=>whnf)|skip
 let t1:List UInt8:=(((((n++n1)++n2)++n3)++p)++p1)++payload
 all_goals (cases h;exact Res.z rfl rfl rfl)
theorem ok51 (Xbl:Xaa→Option (List UInt8)) (XcX:Xaj→Option Bool) (XdV:Int→Int→Option (List UInt8)) (hS:Xai Tryz.prog (Xar (XAR Xbl XcX XdV))):Xan Tryz.prog 51 (s51 (Xjn Xbl XcX XdV)):=by
 refine Xan.Xau Xam (fun ar os r ha hr=>?_) ⟨Tryz.f51,rfl,by decide,rfl⟩
 replace hr:r51 (Xjn Xbl XcX XdV) ar (XaA os)=some r:=hr
 unfold r51 at hr
 generalize hc:XaA os=C at hr
 replace hr:=dV.elim hr;obtain ⟨v0,l1,y0,rfl,e0,hr⟩:=hr;obtain rfl:=XfM _ _ e0
 replace hr:=dV.elim hr;obtain ⟨v1,l2,y1,rfl,e1,hr⟩:=hr;obtain rfl:=Xb7 _ _ e1
 replace hr:=Xdf hr;obtain ⟨rfl,rfl,x,h,rfl⟩:=hr
 obtain rfl:=Xao hc
 exact ⟨_,rfl,XG3 Xbl XcX XdV hS _ _ x h⟩
def XeD:Xaj→(List UInt8)→Option ((List UInt8)×Int):=Xjn Xbl XcX XdV
theorem X5D:Xan Tryz.prog 51 (s51 XeD):=ok51 Xbl XcX XdV (Xai.XaW ⟨XvA,XTH,X5V,trivial⟩)
end Go.Vm.Code
namespace Go.Vm.Code
open Go Go.Vm
def XmD (a:Xaa):Prop:=(0≤a.Hi∧a.Hi<2^64)∧0≤a.Lo∧a.Lo<2^64
def XmY (a:Xaa):List UInt8:=be a.Hi.toNat 8++be a.Lo.toNat 8
theorem XoO {a:Xaa} (h:XmD a) (h6:a.V6=true):Xa3 a=some (XmY a):=by
 unfold Xa3 Xhj XaL Xfb
 rw [h6]
 simp only [cond_true,Option.bind_some,Bool.not_true,cond_false]
 rw [XbY h.1.1,XbY h.2.1]
 simp only [Option.bind_some,XcG]
 rw [if_pos (by omega),if_pos (by omega),Xaz (by simp)];rfl
theorem Xrv {a:Xaa} (h:XmD a) (h6:a.V6=true):Xbl a=some (XmY a):=by
 unfold Xbl XiB Xa0 Xgc
 rw [h6]
 simp only [cond_true,Option.bind_some,Bool.not_true,cond_false]
 rw [Xdt h.1.1 h.1.2,Xdt h.2.1 h.2.2]
 simp only [Option.bind_some,XcG]
 rw [if_pos (by omega),if_pos (by omega),Xaz (by simp)];rfl
def XsF (s:List UInt8):Xaa:=⟨true,(Xd0 (s.take 8):Nat),(Xd0 (s.drop 8):Nat)⟩
def H6 (h:Xaj):Prop:=(0≤h.Class∧h.Class≤255)∧(0≤h.Label∧h.Label≤1048575)∧(0≤h.Next∧h.Next≤255)∧(0≤h.Hop∧h.Hop≤255)∧h.Src.V6=true∧h.Dst.V6=true
instance (h:Xaj):Decidable (H6 h):=inferInstanceAs (Decidable (_∧_))
theorem XCV (h:Xaj):Xbv h=some (decide (H6 h)):=by
 unfold Xbv XdP
 simp only [Xiy]
 by_cases hh:H6 h
 ·rw [decide_eq_true hh]
  obtain ⟨a,b,c,d,e,f⟩:=hh
  rw [if_neg (by omega),if_neg (by omega),if_neg (by omega),if_neg (by omega),if_neg (by omega),if_neg (by omega),if_neg (by omega),if_neg (by omega),e,f];rfl
 ·rw [decide_eq_false hh]
  unfold H6 at hh
  repeat' split
  all_goals first|rfl|skip
  cases e:h.Src.V6
  ·rfl
  ·rw [cond_true]
   cases f:h.Dst.V6
   ·rfl
   ·exact absurd ⟨by omega,by omega,by omega,by omega,e,f⟩ hh
theorem X2C (n m:Int):Xfk n m=some (decide (0≤n∧n≤m)):=by
 unfold Xfk Xle
 by_cases h:n≥0
 ·rw [XaV h];congr 1;rw [Bool.eq_iff_iff,decide_eq_true_eq,decide_eq_true_eq];omega
 ·rw [XaM h];congr 1;symm;exact decide_eq_false (by omega)
theorem XsW (h:Xaj):XcX h=some (decide (H6 h)):=by
 unfold XcX XgR
 simp only [X2C,Option.bind_some,Xiy]
 by_cases hh:H6 h
 ·rw [decide_eq_true hh]
  obtain ⟨a,b,c,d,e,f⟩:=hh
  rw [if_pos a,if_pos b,if_pos c,if_pos d,e,f];rfl
 ·rw [decide_eq_false hh]
  unfold H6 at hh
  repeat' split
  all_goals first|rfl|skip
  cases e:h.Src.V6
  ·rfl
  ·rw [cond_true]
   cases f:h.Dst.V6
   ·rfl
   ·exact absurd ⟨by assumption,by assumption,by assumption,by assumption,e,f⟩ hh
def headB (h:Xaj) (n:Nat):List UInt8:=be (6*2^28+h.Class.toNat*2^20+h.Label.toNat) 4++be n 2++be h.Next.toNat 1++be h.Hop.toNat 1++XmY h.Src++XmY h.Dst
def XSc (h:Xaj) (p:List UInt8):List UInt8×Int:=if ¬ H6 h then ([],1) else if p.length>65535 then ([],5) else (headB h p.length++p,0)
theorem XDw {h:Xaj} {p:List UInt8} (hs:XmD h.Src) (hd:XmD h.Dst) (hp:p.length<2^60):XcN h p=some (XSc h p):=by
 unfold XcN XgX XSc
 rw [XCV,Option.bind_some]
 by_cases hh:H6 h
 ·rw [decide_eq_true hh,Bool.not_true,cond_false,if_neg (by simpa using hh)]
  obtain ⟨a,b,c,d,e,f⟩:=hh
  by_cases h5:(p.length:Int)>65535
  ·rw [XaV h5,if_pos (by omega)]
  rw [XaM h5,if_neg (by omega)]
  simp only []
  rw [XoO hs e,XoO hd f]
  obtain ⟨C,hC⟩:=Int.eq_ofNat_of_zero_le a.1
  obtain ⟨L,hL⟩:=Int.eq_ofNat_of_zero_le b.1
  obtain ⟨X,hX⟩:=Int.eq_ofNat_of_zero_le c.1
  obtain ⟨O,hO⟩:=Int.eq_ofNat_of_zero_le d.1
  rw [hC] at a;rw [hL] at b;rw [hX] at c;rw [hO] at d
  have e1:Xkl .u64 (Xkl .u64 1610612736 (wI .u64 ((wI .u64 h.Class)*2^20))) (wI .u64 h.Label)=((6*2^28+C*2^20+L:Nat):Int):=by
   rw [hC,hL,Xhv (n:=(C:Int)) (by omega) (by omega),Xhv (n:=(L:Int)) (by omega) (by omega),Xhv (n:=(C:Int)*2^20) (by omega) (by omega)]
   have g1:Xkl .u64 1610612736 ((C:Int)*2^20)=((6*2^8+C:Nat):Int)*2^20:=by
    have:=Xhe 28 (a:=6) (b:=(C:Int)*2^20) (by omega) (by omega) (by omega) (by omega) (by omega)
    rw [show (6:Int)*2^28=1610612736 from rfl] at this
    rw [this];omega
   rw [g1,Xhe 20 (by omega) (by omega) (by omega) (by omega) (by omega)];omega
  have e2:Xkl .u64 (Xkl .u64 (wI .u64 ((wI .u64 (p.length:Int))*2^16)) (wI .u64 ((wI .u64 h.Next)*2^8))) (wI .u64 h.Hop)=((p.length*2^16+X*2^8+O:Nat):Int):=by
   rw [hX,hO,Xhv (n:=(X:Int)) (by omega) (by omega),Xhv (n:=(O:Int)) (by omega) (by omega),Xhv (n:=(p.length:Int)) (by omega) (by omega),Xhv (n:=(X:Int)*2^8) (by omega) (by omega),Xhv (n:=(p.length:Int)*2^16) (by omega) (by omega)]
   have g1:Xkl .u64 ((p.length:Int)*2^16) ((X:Int)*2^8)=((p.length*2^8+X:Nat):Int)*2^8:=by
    rw [Xhe 16 (by omega) (by omega) (by omega) (by omega) (by omega)];omega
   rw [g1,Xhe 8 (by omega) (by omega) (by omega) (by omega) (by omega)];omega
  rw [e1,e2,XbY (by omega),XbY (by omega)]
  simp only [Option.bind_some,XcG]
  have e3:be (p.length*2^16+X*2^8+O) 4=be p.length 2++be X 1++be O 1:=by
   refine be_of (by simp) ?_
   rw [val_append,val_append,XqJ,XqJ,XqJ]
   simp only [XrK]
   omega
  rw [if_pos (by omega),if_pos (by omega)]
  have hl:(be (6*2^28+C*2^20+L) 4).length=4:=XrK _ _
  simp only [Int.toNat_natCast,show (4:Int).toNat=4 from rfl,e3]
  rw [Xaz (by simp),Xaz (by simp [XmY]),Xaz (by simp [XmY]),Xaz (by simp [XmY];omega)]
  simp [headB,hC,hL,hX,hO]
 ·rw [decide_eq_false hh,Bool.not_false,cond_true,if_pos hh]
theorem num6 {n k:Int} (h0:0≤n) (h1:n<2^64):XdV n k=some (XcG n k):=by
 unfold XdV XjE
 rw [Xhv h0 (by omega),Xdt h0 h1];rfl
theorem XxE {h:Xaj} {p:List UInt8} (hs:XmD h.Src) (hd:XmD h.Dst) (hp:p.length<2^60):XeD h p=some (XSc h p):=by
 unfold XeD Xjn XSc
 rw [XsW,Option.bind_some]
 by_cases hh:H6 h
 ·rw [decide_eq_true hh,Bool.not_true,cond_false,if_neg (by simpa using hh)]
  obtain ⟨a,b,c,d,e,f⟩:=hh
  by_cases h5:(p.length:Int)>65535
  ·rw [XaV h5,if_pos (by omega)]
  rw [XaM h5,if_neg (by omega)]
  simp only []
  obtain ⟨C,hC⟩:=Int.eq_ofNat_of_zero_le a.1
  obtain ⟨L,hL⟩:=Int.eq_ofNat_of_zero_le b.1
  rw [hC] at a;rw [hL] at b
  have e1:wI .i64 (wI .i64 (1610612736+(wI .i64 (h.Class*1048576)))+h.Label)=((6*2^28+C*2^20+L:Nat):Int):=by
   rw [hC,hL,XcC (n:=(C:Int)*1048576) (by omega) (by omega),XcC (n:=1610612736+(C:Int)*1048576) (by omega) (by omega),XcC (by omega) (by omega)];omega
  rw [e1,Xrv hs e,Xrv hd f,num6 (by omega) (by omega),num6 (by omega) (by omega),num6 c.1 (by omega),num6 d.1 (by omega)]
  simp only [Option.bind_some,XcG]
  rw [if_pos (by omega),if_pos (by omega),if_pos (by omega),if_pos (by omega)]
  simp only [Int.toNat_natCast,show (4:Int).toNat=4 from rfl,show (2:Int).toNat=2 from rfl,show (1:Int).toNat=1 from rfl]
  rw [Xaz (by simp),Xaz (by simp),Xaz (by simp),Xaz (by simp [XmY]),Xaz (by simp [XmY]),Xaz (by simp [XmY];omega)]
  simp [headB,hC,hL]
 ·rw [decide_eq_false hh,Bool.not_false,cond_true,if_pos hh]
end Go.Vm.Code
namespace Go.Vm.Code
open Go Go.Vm Go.Proofs
set_option maxRecDepth 100000
set_option maxHeartbeats 4000000
set_option linter.unusedVariables false
def Xhp (XaH:(List UInt8)→Int→Int→Option (Int×Bool)) (s:List UInt8):Option (Xaa×Bool):=
 cond ((s.length:Int)==4)
  (
  (XaH s 0 4).bind fun xg=>
  some ((Xaa.mk false 0 xg.1,true)))
  (
  cond ((s.length:Int)==16)
   (
   (XaH s 0 8).bind fun xg1=>
   (XaH s 8 8).bind fun xg2=>
   some ((Xaa.mk true xg1.1 xg2.1,true)))
   (
   some ((Xaa.mk false 0 0,false))))
def XyA (x:Xaa×Bool):Xco:=⟨.tuple ⟨[.agg ⟨[.bool x.1.V6,.int .u64 x.1.Hi,.int .u64 x.1.Lo]⟩,.bool x.2]⟩,[],[]⟩
def r135 (g:(List UInt8)→Option (Xaa×Bool)):Dec:=dV asS fun (y0:List UInt8)=>Xc4 (ofG (g y0) XyA)
theorem XSz {g:(List UInt8)→Option (Xaa×Bool)} {y0:List UInt8} {x:Xaa×Bool} (hx:g y0=some x):r135 g [.string ⟨⟨y0⟩⟩] []=some (XyA x):=(XaS (XdJ)).trans (XaZ hx)
def XZP (g:(List UInt8)→Option (Xaa×Bool)):Xbp:=⟨[.v],r135 g⟩
theorem Xqs {g:(List UInt8)→Option (Xaa×Bool)} {y0:List UInt8} {x:Xaa×Bool} (hx:g y0=some x):(XZP g).run [.string ⟨⟨y0⟩⟩] []=some (XyA x):=XSz hx
abbrev Xul (XaH:(List UInt8)→Int→Int→Option (Int×Bool)):List (Nat×Xbp):=[(40,s40 XaH)]
theorem XwX (XaH:(List UInt8)→Int→Int→Option (Int×Bool)) (hS:Xai Tryz.prog (Xar (Xul XaH))) (s:List UInt8) (res:Xaa×Bool) (h:Xhp XaH s=some res) :
 XaD Tryz.prog 135 0 ⟨⟨135,35,[(0,.string ⟨⟨s⟩⟩)],[.code Xt5],[],false,none⟩,[],[],0⟩ (fun v H _=>Res 0 (XyA res) v H):=by
 unfold Xhp at h
 refine Xa9 Xam hS true 3000 ?_
 conv=>whnf
 refine br.h h ?_ ?_ ?_
 ·rfl
 ·clear h;intro hb h;conv=>whnf
  replace h:=Xak.elim h;obtain ⟨xg,hy,h⟩:=h
  refine XaG.q rfl rfl (Xmc hy) rfl rfl rfl ?_
  conv=>whnf
  all_goals (cases h;exact Res.z rfl rfl rfl)
 clear h;intro hb h;conv=>whnf
 refine br.h2 h ?_ ?_ ?_
 ·rfl
 ·clear h;intro hb h;conv=>whnf
  all_goals (cases h;exact Res.z rfl rfl rfl)
 clear h;intro hb h;conv=>whnf
 replace h:=Xak.elim h;obtain ⟨xg1,hy,h⟩:=h
 refine XaG.q rfl rfl (Xmc hy) rfl rfl rfl ?_
 conv=>whnf
 replace h:=Xak.elim h;obtain ⟨xg2,hy,h⟩:=h
 refine XaG.q rfl rfl (Xmc hy) rfl rfl rfl ?_
 conv=>whnf
 all_goals (cases h;exact Res.z rfl rfl rfl)
theorem ok135 (XaH:(List UInt8)→Int→Int→Option (Int×Bool)) (hS:Xai Tryz.prog (Xar (Xul XaH))):Xan Tryz.prog 135 (XZP (Xhp XaH)):=by
 refine Xan.Xau Xam (fun ar os r ha hr=>?_) ⟨Tryz.f135,rfl,by decide,rfl⟩
 replace hr:r135 (Xhp XaH) ar (XaA os)=some r:=hr
 unfold r135 at hr
 generalize hc:XaA os=C at hr
 replace hr:=dV.elim hr;obtain ⟨v0,l1,y0,rfl,e0,hr⟩:=hr;obtain rfl:=Xb7 _ _ e0
 replace hr:=Xdf hr;obtain ⟨rfl,rfl,x,h,rfl⟩:=hr
 obtain rfl:=Xao hc
 exact ⟨_,rfl,XwX XaH hS _ x h⟩
def XbH:(List UInt8)→Option (Xaa×Bool):=Xhp XaH
theorem XuP:Xan Tryz.prog 135 (XZP XbH):=ok135 XaH (Xai.XaW ⟨Xtf,trivial⟩)
def Xiv (Xbz:(List UInt8)→Int→Int→Option (Int×Bool)) (s:List UInt8):Option (Xaa×Bool):=
 cond ((s.length:Int)==4)
  (
  (Xbz s 0 4).bind fun xg=>
  some ((Xaa.mk false 0 xg.1,true)))
  (
  cond ((s.length:Int)==16)
   (
   (Xbz s 0 8).bind fun xg1=>
   (Xbz s 8 8).bind fun xg2=>
   some ((Xaa.mk true xg1.1 xg2.1,true)))
   (
   some ((Xaa.mk false 0 0,false))))
def XyW (x:Xaa×Bool):Xco:=⟨.tuple ⟨[.agg ⟨[.bool x.1.V6,.int .u64 x.1.Hi,.int .u64 x.1.Lo]⟩,.bool x.2]⟩,[],[]⟩
def r122 (g:(List UInt8)→Option (Xaa×Bool)):Dec:=dV asS fun (y0:List UInt8)=>Xc4 (ofG (g y0) XyW)
theorem XTb {g:(List UInt8)→Option (Xaa×Bool)} {y0:List UInt8} {x:Xaa×Bool} (hx:g y0=some x):r122 g [.string ⟨⟨y0⟩⟩] []=some (XyW x):=(XaS (XdJ)).trans (XaZ hx)
def X4U (g:(List UInt8)→Option (Xaa×Bool)):Xbp:=⟨[.v],r122 g⟩
theorem Xlw {g:(List UInt8)→Option (Xaa×Bool)} {y0:List UInt8} {x:Xaa×Bool} (hx:g y0=some x):(X4U g).run [.string ⟨⟨y0⟩⟩] []=some (XyW x):=XTb hx
abbrev XuA (Xbz:(List UInt8)→Int→Int→Option (Int×Bool)):List (Nat×Xbp):=[(70,s70 Xbz)]
theorem XxV (Xbz:(List UInt8)→Int→Int→Option (Int×Bool)) (hS:Xai Tryz.prog (Xar (XuA Xbz))) (s:List UInt8) (res:Xaa×Bool) (h:Xiv Xbz s=some res) :
 XaD Tryz.prog 122 0 ⟨⟨122,37,[(0,.string ⟨⟨s⟩⟩)],[.code Xuf],[],false,none⟩,[],[],0⟩ (fun v H _=>Res 0 (XyW res) v H):=by
 unfold Xiv at h
 refine Xa9 Xam hS true 3000 ?_
 conv=>whnf
 refine br.h h ?_ ?_ ?_
 ·rfl
 ·clear h;intro hb h;conv=>whnf
  replace h:=Xak.elim h;obtain ⟨xg,hy,h⟩:=h
  refine XaG.q rfl rfl (Xps hy) rfl rfl rfl ?_
  conv=>whnf
  all_goals (cases h;exact Res.z rfl rfl rfl)
 clear h;intro hb h;conv=>whnf
 refine br.h2 h ?_ ?_ ?_
 ·rfl
 ·clear h;intro hb h;conv=>whnf
  all_goals (cases h;exact Res.z rfl rfl rfl)
 clear h;intro hb h;conv=>whnf
 replace h:=Xak.elim h;obtain ⟨xg1,hy,h⟩:=h
 refine XaG.q rfl rfl (Xps hy) rfl rfl rfl ?_
 conv=>whnf
 replace h:=Xak.elim h;obtain ⟨xg2,hy,h⟩:=h
 refine XaG.q rfl rfl (Xps hy) rfl rfl rfl ?_
 conv=>whnf
 all_goals (cases h;exact Res.z rfl rfl rfl)
theorem ok122 (Xbz:(List UInt8)→Int→Int→Option (Int×Bool)) (hS:Xai Tryz.prog (Xar (XuA Xbz))):Xan Tryz.prog 122 (X4U (Xiv Xbz)):=by
 refine Xan.Xau Xam (fun ar os r ha hr=>?_) ⟨Tryz.f122,rfl,by decide,rfl⟩
 replace hr:r122 (Xiv Xbz) ar (XaA os)=some r:=hr
 unfold r122 at hr
 generalize hc:XaA os=C at hr
 replace hr:=dV.elim hr;obtain ⟨v0,l1,y0,rfl,e0,hr⟩:=hr;obtain rfl:=Xb7 _ _ e0
 replace hr:=Xdf hr;obtain ⟨rfl,rfl,x,h,rfl⟩:=hr
 obtain rfl:=Xao hc
 exact ⟨_,rfl,XxV Xbz hS _ x h⟩
def XbV:(List UInt8)→Option (Xaa×Bool):=Xiv Xbz
theorem XuS:Xan Tryz.prog 122 (X4U XbV):=ok122 Xbz (Xai.XaW ⟨Xtp,trivial⟩)
end Go.Vm.Code
namespace Go.Vm.Code
open Go Go.Vm
theorem Xng {s:List UInt8} (h:s.length=16):XbH s=some (XsF s,true):=by
 unfold XbH Xhp
 have e1:((s.length:Int)==4)=false:=by rw [h];rfl
 have e2:((s.length:Int)==16)=true:=by rw [h];rfl
 have e3:(s.drop 8).take 8=s.drop 8:=List.take_of_length_le (by simp;omega)
 rw [e1,e2,cond_false,cond_true,XeJ (by omega),XeJ (by omega),XgE (p:=0) (k:=8) (by omega) (by omega) (by omega) (by omega),XgE (p:=8) (k:=8) (by omega) (by omega) (by omega) (by omega)]
 show some ((⟨true,((Xd0 ((s.drop 0).take 8):Nat):Int),((Xd0 ((s.drop 8).take 8):Nat):Int)⟩:Xaa),true)=_
 rw [e3];rfl
theorem Xpm {s:List UInt8} (h:s.length=16):XbV s=some (XsF s,true):=by
 unfold XbV Xiv
 have e1:((s.length:Int)==4)=false:=by rw [h];rfl
 have e2:((s.length:Int)==16)=true:=by rw [h];rfl
 have e3:(s.drop 8).take 8=s.drop 8:=List.take_of_length_le (by simp;omega)
 rw [e1,e2,cond_false,cond_true,XhW (by omega),XhW (by omega),XgE (p:=0) (k:=8) (by omega) (by omega) (by omega) (by omega),XgE (p:=8) (k:=8) (by omega) (by omega) (by omega) (by omega)]
 show some ((⟨true,((Xd0 ((s.drop 0).take 8):Nat):Int),((Xd0 ((s.drop 8).take 8):Nat):Int)⟩:Xaa),true)=_
 rw [e3];rfl
def adr4 (s:List UInt8) (p:Nat):Xaa:=⟨false,0,vK s p 4⟩
theorem aget4 {s:List UInt8} (h:s.length=4):XbH s=some (⟨false,0,vK s 0 4⟩,true):=by
 unfold XbH Xhp
 rw [show ((s.length:Int)==4)=true by rw [h];rfl,cond_true,XeJ (by omega),XgE (by omega) (by omega) (by omega) (by omega)];rfl
theorem XzB {s:List UInt8} (h:s.length=4):XbV s=some (⟨false,0,vK s 0 4⟩,true):=by
 unfold XbV Xiv
 rw [show ((s.length:Int)==4)=true by rw [h];rfl,cond_true,XhW (by omega),XgE (by omega) (by omega) (by omega) (by omega)];rfl
end Go.Vm.Code
namespace Go.Vm.Code
open Go Go.Vm Go.Proofs
set_option maxRecDepth 100000
set_option maxHeartbeats 4000000
set_option linter.unusedVariables false
def Xb5 (XbH:(List UInt8)→Option (Xaa×Bool)) (Xac:Xab→Int→Option ((List UInt8)×Xab)) (f:Xbr):Option (Xaa×Xab):=
 (Xac f.Reader 4).bind fun t=>
 (XbH t.1).bind fun xg=>
 some ((xg.1,t.2))
def XyT (x:Xaa×Xab):Xco:=⟨.agg ⟨[.bool x.1.V6,.int .u64 x.1.Hi,.int .u64 x.1.Lo]⟩,[],[some [.string ⟨⟨x.2.s⟩⟩,.bool x.2.made,.bool x.2.bad]]⟩
def r134 (g:Xbr→Option (Xaa×Xab)):Dec:=dTr 1 (XfG 0) fun (y0:Xbr)=>Xc4 (ofG (g y0) XyT)
theorem XQD {g:Xbr→Option (Xaa×Xab)} {y0:Xbr} {x:Xaa×Xab} (hx:g y0=some x):r134 g [.agg ⟨[.pointer (some ⟨0,0,none⟩)]⟩] [some [.string ⟨⟨y0.Reader.s⟩⟩,.bool y0.Reader.made,.bool y0.Reader.bad]]=some (XyT x):=(XNZ rfl rfl (Xlg 0 _)).trans (XaZ hx)
def s134 (g:Xbr→Option (Xaa×Xab)):Xbp:=⟨[.tr [⟨none,0,0,1,none⟩]],r134 g⟩
theorem XtL {g:Xbr→Option (Xaa×Xab)} {y0:Xbr} {x:Xaa×Xab} (hx:g y0=some x):(s134 g).run [.agg ⟨[.pointer (some ⟨0,0,none⟩)]⟩] [some [.string ⟨⟨y0.Reader.s⟩⟩,.bool y0.Reader.made,.bool y0.Reader.bad]]=some (XyT x):=XQD hx
abbrev Xs8 (XbH:(List UInt8)→Option (Xaa×Bool)) (Xac:Xab→Int→Option ((List UInt8)×Xab)):List (Nat×Xbp):=[(135,XZP XbH),(64,s64 Xac)]
theorem Xww (XbH:(List UInt8)→Option (Xaa×Bool)) (Xac:Xab→Int→Option ((List UInt8)×Xab)) (hS:Xai Tryz.prog (Xar (Xs8 XbH Xac))) (f:Xbr) (res:Xaa×Xab) (h:Xb5 XbH Xac f=some res) :
 XaD Tryz.prog 134 1 ⟨⟨134,13,[(0,.agg ⟨[.pointer (some ⟨0,0,none⟩)]⟩)],[.code XBy],[],false,none⟩,[],[(0,.cells [.string ⟨⟨f.Reader.s⟩⟩,.bool f.Reader.made,.bool f.Reader.bad])],1⟩ (fun v H _=>Res 1 (XyT res) v H):=by
 unfold Xb5 at h
 refine Xa9 Xam hS true 3000 ?_
 conv=>whnf
 replace h:=Xak.elim h;obtain ⟨t,hy,h⟩:=h
 refine XaG.Xba [0] (Xat (aqs:=[.pointer (some ⟨0,0,none⟩),.int .i64 4]) (ws:=[.win 0 0 3 true]) (n:=0) (m:=0) (t':=3) (Xas rfl rfl (Xas rfl rfl Xbd)) rfl (by rfl) (Xhy hy) rfl rfl rfl rfl (XbK rfl rfl rfl ⟨rfl,Nat.le_of_ble_eq_true rfl⟩ rfl rfl Xbc) Xbb rfl) ?_
 conv=>whnf
 replace h:=Xak.elim h;obtain ⟨xg,hy,h⟩:=h
 refine XaG.q rfl rfl (Xqs hy) rfl rfl rfl ?_
 conv=>whnf
 all_goals (cases h)
 all_goals exact Res.of [] rfl XeZ (by decide) XeW (XlX (rfl) (Xca rfl) XeY)
theorem ok134 (XbH:(List UInt8)→Option (Xaa×Bool)) (Xac:Xab→Int→Option ((List UInt8)×Xab)) (hS:Xai Tryz.prog (Xar (Xs8 XbH Xac))):Xan Tryz.prog 134 (s134 (Xb5 XbH Xac)):=by
 refine Xan.Xau Xam (fun ar os r ha hr=>?_) ⟨Tryz.f134,rfl,by decide,rfl⟩
 replace hr:r134 (Xb5 XbH Xac) ar (XaA os)=some r:=hr
 unfold r134 at hr
 generalize hc:XaA os=C at hr
 have hq:=dTr.elim hr;clear hr;obtain ⟨v0,l1,c0,C,y0,rfl,rfl,e0,hr⟩:=hq;obtain ⟨rfl,rfl⟩:=Xku e0;simp only [List.nil_append,List.cons_append] at hc
 replace hr:=Xdf hr;obtain ⟨rfl,rfl,x,h,rfl⟩:=hr
 obtain ⟨os,rfl,ha,hc⟩:=Xdr ha hc
 obtain rfl:=Xao hc
 exact ⟨_,rfl,Xww XbH Xac hS _ x h⟩
def XaI:Xbr→Option (Xaa×Xab):=Xb5 XbH Xac
theorem XGp:Xan Tryz.prog 134 (s134 XaI):=ok134 XbH Xac (Xai.XaW ⟨XuP,XlK,trivial⟩)
def Xf0 (XaB:(List UInt8)→Option Bool) (XaI:Xbr→Option (Xaa×Xab)) (Xaw:(List UInt8)→Option Xab) (Xad:Xab→Int→Option (Int×Xab)) (Xac:Xab→Int→Option ((List UInt8)×Xab)) (s:List UInt8):Option (Xah×(List UInt8)×Int):=
 cond (decide ((s.length:Int)<20))
  (
  some ((Xah.mk 0 0 false 0 0 (Xaa.mk false 0 0) (Xaa.mk false 0 0) [],[],2)))
  (
  (Xaw s).bind fun n=>
  (Xad n 1).bind fun n1=>
  (Xad n1.2 1).bind fun n2=>
  (Xad n2.2 2).bind fun n3=>
  cond ((n1.1.fdiv (2^4)) !=4)
   (
   some ((Xah.mk 0 0 false 0 0 (Xaa.mk false 0 0) (Xaa.mk false 0 0) [],[],3)))
   (
   let t:=decide ((wI .i64 ((XjC .i64 n1.1 15)*4))<20)
   cond (t)
    (
    some ((Xah.mk 0 0 false 0 0 (Xaa.mk false 0 0) (Xaa.mk false 0 0) [],[],3)))
    (
    let t1:=decide (n3.1<(wI .i64 ((XjC .i64 n1.1 15)*4)))
    cond (t1)
     (
     some ((Xah.mk 0 0 false 0 0 (Xaa.mk false 0 0) (Xaa.mk false 0 0) [],[],3)))
     (
     cond (decide (n3.1>(s.length:Int)))
      (
      some ((Xah.mk 0 0 false 0 0 (Xaa.mk false 0 0) (Xaa.mk false 0 0) [],[],2)))
      (
      XaK (decide ((0:Int)≤(wI .i64 ((XjC .i64 n1.1 15)*4))∧(wI .i64 ((XjC .i64 n1.1 15)*4))≤(s.length:Int))) <|
      let t2:=s.take (wI .i64 ((XjC .i64 n1.1 15)*4)).toNat
      (XaB t2).bind fun xr=>
      cond (!xr)
       (
       some ((Xah.mk 0 0 false 0 0 (Xaa.mk false 0 0) (Xaa.mk false 0 0) [],[],4)))
       (
       (Xad n3.2 2).bind fun n4=>
       (Xad n4.2 2).bind fun n5=>
       cond ((Xwp .i64 n5.1 16384) !=0)
        (
        some ((Xah.mk 0 0 false 0 0 (Xaa.mk false 0 0) (Xaa.mk false 0 0) [],[],7)))
        (
        (Xad n5.2 1).bind fun n6=>
        (Xad n6.2 1).bind fun n7=>
        (Xad n7.2 2).bind fun n8=>
        (XaI (Xbr.mk n8.2)).bind fun a=>
        (XaI (Xbr.mk a.2)).bind fun a1=>
        let t3:=wI .i64 ((wI .i64 ((XjC .i64 n1.1 15)*4)) - 20)
        (Xac a1.2 t3).bind fun t4=>
        let t5:=wI .i64 (n3.1 - (wI .i64 ((XjC .i64 n1.1 15)*4)))
        (Xac t4.2 t5).bind fun t6=>
        some ((Xah.mk n2.1 n4.1 (n5.1 !=0) n6.1 n7.1 a.1 a1.1 t4.1,t6.1,0)))))))))
def XyO (x:Xah×(List UInt8)×Int):Xco:=⟨.tuple ⟨[.agg ⟨[.int .i64 x.1.Class,.int .i64 x.1.Mark,.bool x.1.Whole,.int .i64 x.1.TTL,.int .i64 x.1.Proto,.bool x.1.Src.V6,.int .u64 x.1.Src.Hi,.int .u64 x.1.Src.Lo,.bool x.1.Dst.V6,.int .u64 x.1.Dst.Hi,.int .u64 x.1.Dst.Lo,.string ⟨⟨x.1.Options⟩⟩]⟩,.string ⟨⟨x.2.1⟩⟩,.int .i64 x.2.2]⟩,[],[]⟩
def r129 (g:(List UInt8)→Option (Xah×(List UInt8)×Int)):Dec:=dV asS fun (y0:List UInt8)=>Xc4 (ofG (g y0) XyO)
theorem XZ9 {g:(List UInt8)→Option (Xah×(List UInt8)×Int)} {y0:List UInt8} {x:Xah×(List UInt8)×Int} (hx:g y0=some x):r129 g [.string ⟨⟨y0⟩⟩] []=some (XyO x):=(XaS (XdJ)).trans (XaZ hx)
def s129 (g:(List UInt8)→Option (Xah×(List UInt8)×Int)):Xbp:=⟨[.v],r129 g⟩
theorem XGl {g:(List UInt8)→Option (Xah×(List UInt8)×Int)} {y0:List UInt8} {x:Xah×(List UInt8)×Int} (hx:g y0=some x):(s129 g).run [.string ⟨⟨y0⟩⟩] []=some (XyO x):=XZ9 hx
abbrev Xu9 (XaB:(List UInt8)→Option Bool) (XaI:Xbr→Option (Xaa×Xab)) (Xaw:(List UInt8)→Option Xab) (Xad:Xab→Int→Option (Int×Xab)) (Xac:Xab→Int→Option ((List UInt8)×Xab)):List (Nat×Xbp):=[(131,XLn XaB),(134,s134 XaI),(61,s61 Xaw),(62,s62 Xad),(64,s64 Xac)]
theorem Xx0 (XaB:(List UInt8)→Option Bool) (XaI:Xbr→Option (Xaa×Xab)) (Xaw:(List UInt8)→Option Xab) (Xad:Xab→Int→Option (Int×Xab)) (Xac:Xab→Int→Option ((List UInt8)×Xab)) (hS:Xai Tryz.prog (Xar (Xu9 XaB XaI Xaw Xad Xac))) (s:List UInt8) (res:Xah×(List UInt8)×Int) (h:Xf0 XaB XaI Xaw Xad Xac s=some res) :
 XaD Tryz.prog 129 0 ⟨⟨129,102,[(0,.string ⟨⟨s⟩⟩)],[.code Xue],[],false,none⟩,[],[],0⟩ (fun v H _=>Res 0 (XyO res) v H):=by
 unfold Xf0 at h
 refine Xa9 Xam hS true 3000 ?_
 conv=>whnf
 refine br.h h ?_ ?_ ?_
 ·rfl
 ·clear h;intro hb h;conv=>whnf
  all_goals (cases h;exact Res.z rfl rfl rfl)
 clear h;intro hb h;conv=>whnf
 replace h:=Xak.elim h;obtain ⟨n,hy,h⟩:=h
 refine XaG.Xba [1] (Xat (aqs:=[.string ⟨⟨s⟩⟩]) (ws:=[]) (n:=1) (m:=0) (t':=2) (Xas rfl rfl Xbd) rfl (by rfl) (Xpf hy) rfl rfl rfl rfl Xbc (XhO (rfl) Xbb) rfl) ?_
 conv=>whnf
 replace h:=Xak.elim h;obtain ⟨n1,hy,h⟩:=h
 refine XaG.Xba [1] (Xat (aqs:=[.pointer (some ⟨0,0,none⟩),.int .i64 1]) (ws:=[.win 1 0 3 true]) (n:=0) (m:=0) (t':=3) (Xas rfl rfl (Xas rfl rfl Xbd)) rfl (by rfl) (XdR hy) rfl rfl rfl rfl (XbK rfl rfl rfl ⟨rfl,Nat.le_of_ble_eq_true rfl⟩ rfl rfl Xbc) Xbb rfl) ?_
 conv=>whnf
 replace h:=Xak.elim h;obtain ⟨n2,hy,h⟩:=h
 refine XaG.Xba [1] (Xat (aqs:=[.pointer (some ⟨0,0,none⟩),.int .i64 1]) (ws:=[.win 1 0 3 true]) (n:=0) (m:=0) (t':=3) (Xas rfl rfl (Xas rfl rfl Xbd)) rfl (by rfl) (XdR hy) rfl rfl rfl rfl (XbK rfl rfl rfl ⟨rfl,Nat.le_of_ble_eq_true rfl⟩ rfl rfl Xbc) Xbb rfl) ?_
 conv=>whnf
 replace h:=Xak.elim h;obtain ⟨n3,hy,h⟩:=h
 refine XaG.Xba [1] (Xat (aqs:=[.pointer (some ⟨0,0,none⟩),.int .i64 2]) (ws:=[.win 1 0 3 true]) (n:=0) (m:=0) (t':=4) (Xas rfl rfl (Xas rfl rfl Xbd)) rfl (by rfl) (XdR hy) rfl rfl rfl rfl (XbK rfl rfl rfl ⟨rfl,Nat.le_of_ble_eq_true rfl⟩ rfl rfl Xbc) Xbb rfl) ?_
 conv=>whnf
 refine br.h h ?_ ?_ ?_
 ·rfl
 ·clear h;intro hb h;conv=>whnf
  all_goals (cases h;exact Res.z rfl rfl rfl)
 clear h;intro hb h;conv=>whnf
 let t:Bool:=decide ((wI .i64 ((XjC .i64 n1.1 15)*4))<20)
 refine br.h h ?_ ?_ ?_
 ·rfl
 ·clear h;intro hb h;conv=>whnf
  all_goals (cases h;exact Res.z rfl rfl rfl)
 clear h;intro hb h;conv=>whnf
 let t1:Bool:=decide (n3.1<(wI .i64 ((XjC .i64 n1.1 15)*4)))
 refine br.h h ?_ ?_ ?_
 ·rfl
 ·clear h;intro hb h;conv=>whnf
  all_goals (cases h;exact Res.z rfl rfl rfl)
 clear h;intro hb h;conv=>whnf
 refine br.h h ?_ ?_ ?_
 ·rfl
 ·clear h;intro hb h;conv=>whnf
  all_goals (cases h;exact Res.z rfl rfl rfl)
 clear h;intro hb h;conv=>whnf
 replace h:=XaK.elim h;obtain ⟨hb,h⟩:=h
 first|(refine req.intro hb ?_;conv=>whnf)|skip
 let t2:List UInt8:=s.take (wI .i64 ((XjC .i64 n1.1 15)*4)).toNat
 replace h:=Xak.elim h;obtain ⟨xr,hy,h⟩:=h
 refine XaG.q rfl rfl (Xoo hy) rfl rfl rfl ?_
 conv=>whnf
 refine br.h h ?_ ?_ ?_
 ·rfl
 ·clear h;intro hb h;conv=>whnf
  all_goals (cases h;exact Res.z rfl rfl rfl)
 clear h;intro hb h;conv=>whnf
 replace h:=Xak.elim h;obtain ⟨n4,hy,h⟩:=h
 refine XaG.Xba [1] (Xat (aqs:=[.pointer (some ⟨0,0,none⟩),.int .i64 2]) (ws:=[.win 1 0 3 true]) (n:=0) (m:=0) (t':=4) (Xas rfl rfl (Xas rfl rfl Xbd)) rfl (by rfl) (XdR hy) rfl rfl rfl rfl (XbK rfl rfl rfl ⟨rfl,Nat.le_of_ble_eq_true rfl⟩ rfl rfl Xbc) Xbb rfl) ?_
 conv=>whnf
 replace h:=Xak.elim h;obtain ⟨n5,hy,h⟩:=h
 refine XaG.Xba [1] (Xat (aqs:=[.pointer (some ⟨0,0,none⟩),.int .i64 2]) (ws:=[.win 1 0 3 true]) (n:=0) (m:=0) (t':=4) (Xas rfl rfl (Xas rfl rfl Xbd)) rfl (by rfl) (XdR hy) rfl rfl rfl rfl (XbK rfl rfl rfl ⟨rfl,Nat.le_of_ble_eq_true rfl⟩ rfl rfl Xbc) Xbb rfl) ?_
 conv=>whnf
 refine br.h h ?_ ?_ ?_
 ·rfl
 ·clear h;intro hb h;conv=>whnf
  all_goals (cases h;exact Res.z rfl rfl rfl)
 clear h;intro hb h;conv=>whnf
 replace h:=Xak.elim h;obtain ⟨n6,hy,h⟩:=h
 refine XaG.Xba [1] (Xat (aqs:=[.pointer (some ⟨0,0,none⟩),.int .i64 1]) (ws:=[.win 1 0 3 true]) (n:=0) (m:=0) (t':=6) (Xas rfl rfl (Xas rfl rfl Xbd)) rfl (by rfl) (XdR hy) rfl rfl rfl rfl (XbK rfl rfl rfl ⟨rfl,Nat.le_of_ble_eq_true rfl⟩ rfl rfl Xbc) Xbb rfl) ?_
 conv=>whnf
 replace h:=Xak.elim h;obtain ⟨n7,hy,h⟩:=h
 refine XaG.Xba [1] (Xat (aqs:=[.pointer (some ⟨0,0,none⟩),.int .i64 1]) (ws:=[.win 1 0 3 true]) (n:=0) (m:=0) (t':=9) (Xas rfl rfl (Xas rfl rfl Xbd)) rfl (by rfl) (XdR hy) rfl rfl rfl rfl (XbK rfl rfl rfl ⟨rfl,Nat.le_of_ble_eq_true rfl⟩ rfl rfl Xbc) Xbb rfl) ?_
 conv=>whnf
 replace h:=Xak.elim h;obtain ⟨n8,hy,h⟩:=h
 refine XaG.Xba [1] (Xat (aqs:=[.pointer (some ⟨0,0,none⟩),.int .i64 2]) (ws:=[.win 1 0 3 true]) (n:=0) (m:=0) (t':=11) (Xas rfl rfl (Xas rfl rfl Xbd)) rfl (by rfl) (XdR hy) rfl rfl rfl rfl (XbK rfl rfl rfl ⟨rfl,Nat.le_of_ble_eq_true rfl⟩ rfl rfl Xbc) Xbb rfl) ?_
 conv=>whnf
 replace h:=Xak.elim h;obtain ⟨a,hy,h⟩:=h
 refine XaG.Xba [1] (Xat (aqs:=[.agg ⟨[.pointer (some ⟨0,0,none⟩)]⟩]) (ws:=[.blk 1 true]) (n:=0) (m:=0) (t':=12) (Xas (X45 rfl rfl (XUC rfl rfl rfl rfl XAD) rfl) rfl Xbd) rfl (by rfl) (XtL hy) rfl rfl rfl rfl (XBB rfl rfl rfl rfl Xbc) Xbb rfl) ?_
 conv=>whnf
 replace h:=Xak.elim h;obtain ⟨a1,hy,h⟩:=h
 refine XaG.Xba [1] (Xat (aqs:=[.agg ⟨[.pointer (some ⟨0,0,none⟩)]⟩]) (ws:=[.blk 1 true]) (n:=0) (m:=0) (t':=14) (Xas (X45 rfl rfl (XUC rfl rfl rfl rfl XAD) rfl) rfl Xbd) rfl (by rfl) (XtL hy) rfl rfl rfl rfl (XBB rfl rfl rfl rfl Xbc) Xbb rfl) ?_
 conv=>whnf
 let t3:Int:=wI .i64 ((wI .i64 ((XjC .i64 n1.1 15)*4)) - 20)
 replace h:=Xak.elim h;obtain ⟨t4,hy,h⟩:=h
 refine XaG.Xba [1] (Xat (aqs:=[.pointer (some ⟨0,0,none⟩),.int .i64 t3]) (ws:=[.win 1 0 3 true]) (n:=0) (m:=0) (t':=16) (Xas rfl rfl (Xas rfl rfl Xbd)) rfl (by rfl) (Xhy hy) rfl rfl rfl rfl (XbK rfl rfl rfl ⟨rfl,Nat.le_of_ble_eq_true rfl⟩ rfl rfl Xbc) Xbb rfl) ?_
 conv=>whnf
 let t5:Int:=wI .i64 (n3.1 - (wI .i64 ((XjC .i64 n1.1 15)*4)))
 replace h:=Xak.elim h;obtain ⟨t6,hy,h⟩:=h
 refine XaG.Xba [1] (Xat (aqs:=[.pointer (some ⟨0,0,none⟩),.int .i64 t5]) (ws:=[.win 1 0 3 true]) (n:=0) (m:=0) (t':=22) (Xas rfl rfl (Xas rfl rfl Xbd)) rfl (by rfl) (Xhy hy) rfl rfl rfl rfl (XbK rfl rfl rfl ⟨rfl,Nat.le_of_ble_eq_true rfl⟩ rfl rfl Xbc) Xbb rfl) ?_
 conv=>whnf
 all_goals (cases h;exact Res.z rfl rfl rfl)
theorem ok129 (XaB:(List UInt8)→Option Bool) (XaI:Xbr→Option (Xaa×Xab)) (Xaw:(List UInt8)→Option Xab) (Xad:Xab→Int→Option (Int×Xab)) (Xac:Xab→Int→Option ((List UInt8)×Xab)) (hS:Xai Tryz.prog (Xar (Xu9 XaB XaI Xaw Xad Xac))):Xan Tryz.prog 129 (s129 (Xf0 XaB XaI Xaw Xad Xac)):=by
 refine Xan.Xau Xam (fun ar os r ha hr=>?_) ⟨Tryz.f129,rfl,by decide,rfl⟩
 replace hr:r129 (Xf0 XaB XaI Xaw Xad Xac) ar (XaA os)=some r:=hr
 unfold r129 at hr
 generalize hc:XaA os=C at hr
 replace hr:=dV.elim hr;obtain ⟨v0,l1,y0,rfl,e0,hr⟩:=hr;obtain rfl:=Xb7 _ _ e0
 replace hr:=Xdf hr;obtain ⟨rfl,rfl,x,h,rfl⟩:=hr
 obtain rfl:=Xao hc
 exact ⟨_,rfl,Xx0 XaB XaI Xaw Xad Xac hS _ x h⟩
def Xci:(List UInt8)→Option (Xah×(List UInt8)×Int):=Xf0 XaB XaI Xaw Xad Xac
theorem XHS:Xan Tryz.prog 129 (s129 Xci):=ok129 XaB XaI Xaw Xad Xac (Xai.XaW ⟨XpS,XGp,Xph,Xnn,XlK,trivial⟩)
def Xju (Xal:(List UInt8)→Int→Int→Option Int) (Xbf:(List UInt8)→Option Int) (XbV:(List UInt8)→Option (Xaa×Bool)) (s:List UInt8):Option (Xah×(List UInt8)×Int):=
 cond (decide ((s.length:Int)<20))
  (
  some ((Xah.mk 0 0 false 0 0 (Xaa.mk false 0 0) (Xaa.mk false 0 0) [],[],2)))
  (
  (s[0]?).bind fun (b:UInt8)=>
  let t:=wI .i64 (4*(wI .i64 ((b.toNat:Int).tmod 16)))
  (Xal s 2 2).bind fun m=>
  (s[0]?).bind fun (b1:UInt8)=>
  cond ((wI .u8 ((b1.toNat:Int).tdiv 16)) !=4)
   (
   some ((Xah.mk 0 0 false 0 0 (Xaa.mk false 0 0) (Xaa.mk false 0 0) [],[],3)))
   (
   cond (decide (t<20))
    (
    some ((Xah.mk 0 0 false 0 0 (Xaa.mk false 0 0) (Xaa.mk false 0 0) [],[],3)))
    (
    cond (decide (m<t))
     (
     some ((Xah.mk 0 0 false 0 0 (Xaa.mk false 0 0) (Xaa.mk false 0 0) [],[],3)))
     (
     cond (decide ((s.length:Int)<m))
      (
      some ((Xah.mk 0 0 false 0 0 (Xaa.mk false 0 0) (Xaa.mk false 0 0) [],[],2)))
      (
      XaK (decide ((0:Int)≤t∧t≤(s.length:Int))) <|
      (Xbf (s.take t.toNat)).bind fun s1=>
      cond (s1 !=65535)
       (
       some ((Xah.mk 0 0 false 0 0 (Xaa.mk false 0 0) (Xaa.mk false 0 0) [],[],4)))
       (
       (s[6]?).bind fun (b2:UInt8)=>
       cond ((b2.toNat:Int) !=0)
        (
        (s[6]?).bind fun (b3:UInt8)=>
        cond ((b3.toNat:Int) !=64)
         (
         some ((Xah.mk 0 0 false 0 0 (Xaa.mk false 0 0) (Xaa.mk false 0 0) [],[],7)))
         (
         (s[7]?).bind fun (b4:UInt8)=>
         cond ((b4.toNat:Int) !=0)
          (
          some ((Xah.mk 0 0 false 0 0 (Xaa.mk false 0 0) (Xaa.mk false 0 0) [],[],7)))
          (
          XaK (decide ((0:Int)≤(16:Int)∧(16:Int)≤(s.length:Int)∧(0:Int)≤(12:Int)∧(12:Int)≤(16:Int))) <|
          (XbV ((s.drop 12).take 4)).bind fun xg=>
          XaK (decide ((0:Int)≤(20:Int)∧(20:Int)≤(s.length:Int)∧(0:Int)≤(16:Int)∧(16:Int)≤(20:Int))) <|
          (XbV ((s.drop 16).take 4)).bind fun xg1=>
          (s[1]?).bind fun (b5:UInt8)=>
          (Xal s 4 2).bind fun m1=>
          (s[6]?).bind fun (b6:UInt8)=>
          (s[8]?).bind fun (b7:UInt8)=>
          (s[9]?).bind fun (b8:UInt8)=>
          XaK (decide ((0:Int)≤t∧t≤(s.length:Int)∧(0:Int)≤(20:Int)∧(20:Int)≤(t.toNat:Int))) <|
          XaK (decide ((0:Int)≤m∧m≤(s.length:Int)∧(0:Int)≤t∧t≤(m.toNat:Int))) <|
          let t1:=(s.drop t.toNat).take (m.toNat - t.toNat)
          some ((Xah.mk (wI .i64 (b5.toNat:Int)) m1 ((b6.toNat:Int)==64) (wI .i64 (b7.toNat:Int)) (wI .i64 (b8.toNat:Int)) xg.1 xg1.1 ((s.drop 20).take (t.toNat - 20)),t1,0)))))
        (
        (s[7]?).bind fun (b9:UInt8)=>
        cond ((b9.toNat:Int) !=0)
         (
         some ((Xah.mk 0 0 false 0 0 (Xaa.mk false 0 0) (Xaa.mk false 0 0) [],[],7)))
         (
         XaK (decide ((0:Int)≤(16:Int)∧(16:Int)≤(s.length:Int)∧(0:Int)≤(12:Int)∧(12:Int)≤(16:Int))) <|
         (XbV ((s.drop 12).take 4)).bind fun xg2=>
         XaK (decide ((0:Int)≤(20:Int)∧(20:Int)≤(s.length:Int)∧(0:Int)≤(16:Int)∧(16:Int)≤(20:Int))) <|
         (XbV ((s.drop 16).take 4)).bind fun xg3=>
         (s[1]?).bind fun (b10:UInt8)=>
         (Xal s 4 2).bind fun m2=>
         (s[6]?).bind fun (b11:UInt8)=>
         (s[8]?).bind fun (b12:UInt8)=>
         (s[9]?).bind fun (b13:UInt8)=>
         XaK (decide ((0:Int)≤t∧t≤(s.length:Int)∧(0:Int)≤(20:Int)∧(20:Int)≤(t.toNat:Int))) <|
         XaK (decide ((0:Int)≤m∧m≤(s.length:Int)∧(0:Int)≤t∧t≤(m.toNat:Int))) <|
         let t2:=(s.drop t.toNat).take (m.toNat - t.toNat)
         some ((Xah.mk (wI .i64 (b10.toNat:Int)) m2 ((b11.toNat:Int)==64) (wI .i64 (b12.toNat:Int)) (wI .i64 (b13.toNat:Int)) xg2.1 xg3.1 ((s.drop 20).take (t.toNat - 20)),t2,0))))))))))
def rx98 (x:Xah×(List UInt8)×Int):Xco:=⟨.tuple ⟨[.agg ⟨[.int .i64 x.1.Class,.int .i64 x.1.Mark,.bool x.1.Whole,.int .i64 x.1.TTL,.int .i64 x.1.Proto,.bool x.1.Src.V6,.int .u64 x.1.Src.Hi,.int .u64 x.1.Src.Lo,.bool x.1.Dst.V6,.int .u64 x.1.Dst.Hi,.int .u64 x.1.Dst.Lo,.string ⟨⟨x.1.Options⟩⟩]⟩,.string ⟨⟨x.2.1⟩⟩,.int .i64 x.2.2]⟩,[],[]⟩
def r98 (g:(List UInt8)→Option (Xah×(List UInt8)×Int)):Dec:=dV asS fun (y0:List UInt8)=>Xc4 (ofG (g y0) rx98)
theorem r98_c {g:(List UInt8)→Option (Xah×(List UInt8)×Int)} {y0:List UInt8} {x:Xah×(List UInt8)×Int} (hx:g y0=some x):r98 g [.string ⟨⟨y0⟩⟩] []=some (rx98 x):=(XaS (XdJ)).trans (XaZ hx)
def s98 (g:(List UInt8)→Option (Xah×(List UInt8)×Int)):Xbp:=⟨[.v],r98 g⟩
theorem XXp {g:(List UInt8)→Option (Xah×(List UInt8)×Int)} {y0:List UInt8} {x:Xah×(List UInt8)×Int} (hx:g y0=some x):(s98 g).run [.string ⟨⟨y0⟩⟩] []=some (rx98 x):=r98_c hx
abbrev XA5 (Xal:(List UInt8)→Int→Int→Option Int) (Xbf:(List UInt8)→Option Int) (XbV:(List UInt8)→Option (Xaa×Bool)):List (Nat×Xbp):=[(44,s44 Xal),(100,XG0 Xbf),(122,X4U XbV)]
theorem XE8 (Xal:(List UInt8)→Int→Int→Option Int) (Xbf:(List UInt8)→Option Int) (XbV:(List UInt8)→Option (Xaa×Bool)) (hS:Xai Tryz.prog (Xar (XA5 Xal Xbf XbV))) (s:List UInt8) (res:Xah×(List UInt8)×Int) (h:Xju Xal Xbf XbV s=some res) :
 XaD Tryz.prog 98 0 ⟨⟨98,97,[(0,.string ⟨⟨s⟩⟩)],[.code Xz5],[],false,none⟩,[],[],0⟩ (fun v H _=>Res 0 (rx98 res) v H):=by
 unfold Xju at h
 refine Xa9 Xam hS true 3000 ?_
 conv=>whnf
 refine br.h h ?_ ?_ ?_
 ·rfl
 ·clear h;intro hb h;conv=>whnf
  all_goals (cases h;exact Res.z rfl rfl rfl)
 clear h;intro hb h;conv=>whnf
 replace h:=Xak.elim h;obtain ⟨b,hy,h⟩:=h
 refine rdS.intro hy ?_
 conv=>whnf
 let t:Int:=wI .i64 (4*(wI .i64 ((b.toNat:Int).tmod 16)))
 replace h:=Xak.elim h;obtain ⟨m,hy,h⟩:=h
 refine XaG.q rfl rfl (Xe3 hy) rfl rfl rfl ?_
 conv=>whnf
 replace h:=Xak.elim h;obtain ⟨b1,hy,h⟩:=h
 refine rdS.intro hy ?_
 conv=>whnf
 refine br.h h ?_ ?_ ?_
 ·rfl
 ·clear h;intro hb h;conv=>whnf
  all_goals (cases h;exact Res.z rfl rfl rfl)
 clear h;intro hb h;conv=>whnf
 refine br.h h ?_ ?_ ?_
 ·rfl
 ·clear h;intro hb h;conv=>whnf
  all_goals (cases h;exact Res.z rfl rfl rfl)
 clear h;intro hb h;conv=>whnf
 refine br.h h ?_ ?_ ?_
 ·rfl
 ·clear h;intro hb h;conv=>whnf
  all_goals (cases h;exact Res.z rfl rfl rfl)
 clear h;intro hb h;conv=>whnf
 refine br.h h ?_ ?_ ?_
 ·rfl
 ·clear h;intro hb h;conv=>whnf
  all_goals (cases h;exact Res.z rfl rfl rfl)
 clear h;intro hb h;conv=>whnf
 replace h:=XaK.elim h;obtain ⟨hb,h⟩:=h
 first|(refine req.intro hb ?_;conv=>whnf)|skip
 replace h:=Xak.elim h;obtain ⟨s1,hy,h⟩:=h
 refine XaG.q rfl rfl (Xn2 hy) rfl rfl rfl ?_
 conv=>whnf
 refine br.h h ?_ ?_ ?_
 ·rfl
 ·clear h;intro hb h;conv=>whnf
  all_goals (cases h;exact Res.z rfl rfl rfl)
 clear h;intro hb h;conv=>whnf
 replace h:=Xak.elim h;obtain ⟨b2,hy,h⟩:=h
 refine rdS.intro hy ?_
 conv=>whnf
 refine br.h2 h ?_ ?_ ?_
 ·rfl
 ·clear h;intro hb h;conv=>whnf
  replace h:=Xak.elim h;obtain ⟨b9,hy,h⟩:=h
  refine rdS.intro hy ?_
  conv=>whnf
  refine br.h h ?_ ?_ ?_
  ·rfl
  ·clear h;intro hb h;conv=>whnf
   all_goals (cases h;exact Res.z rfl rfl rfl)
  clear h;intro hb h;conv=>whnf
  replace h:=XaK.elim h;obtain ⟨hb,h⟩:=h
  first|(refine req.intro hb ?_;conv=>whnf)|skip
  replace h:=Xak.elim h;obtain ⟨xg2,hy,h⟩:=h
  refine XaG.q rfl rfl (Xlw hy) rfl rfl rfl ?_
  conv=>whnf
  replace h:=XaK.elim h;obtain ⟨hb,h⟩:=h
  first|(refine req.intro hb ?_;conv=>whnf)|skip
  replace h:=Xak.elim h;obtain ⟨xg3,hy,h⟩:=h
  refine XaG.q rfl rfl (Xlw hy) rfl rfl rfl ?_
  conv=>whnf
  replace h:=Xak.elim h;obtain ⟨b10,hy,h⟩:=h
  refine rdS.intro hy ?_
  conv=>whnf
  replace h:=Xak.elim h;obtain ⟨m2,hy,h⟩:=h
  refine XaG.q rfl rfl (Xe3 hy) rfl rfl rfl ?_
  conv=>whnf
  replace h:=Xak.elim h;obtain ⟨b11,hy,h⟩:=h
  refine rdS.intro hy ?_
  conv=>whnf
  replace h:=Xak.elim h;obtain ⟨b12,hy,h⟩:=h
  refine rdS.intro hy ?_
  conv=>whnf
  replace h:=Xak.elim h;obtain ⟨b13,hy,h⟩:=h
  refine rdS.intro hy ?_
  conv=>whnf
  replace h:=XaK.elim h;obtain ⟨hb,h⟩:=h
  first|(refine req.intro hb ?_;conv=>whnf)|skip
  replace h:=XaK.elim h;obtain ⟨hb,h⟩:=h
  first|(refine req.intro hb ?_;conv=>whnf)|skip
  let t2:List UInt8:=(s.drop t.toNat).take (m.toNat - t.toNat)
  all_goals (cases h;exact Res.z rfl rfl rfl)
 clear h;intro hb h;conv=>whnf
 replace h:=Xak.elim h;obtain ⟨b3,hy,h⟩:=h
 refine rdS.intro hy ?_
 conv=>whnf
 refine br.h h ?_ ?_ ?_
 ·rfl
 ·clear h;intro hb h;conv=>whnf
  all_goals (cases h;exact Res.z rfl rfl rfl)
 clear h;intro hb h;conv=>whnf
 replace h:=Xak.elim h;obtain ⟨b4,hy,h⟩:=h
 refine rdS.intro hy ?_
 conv=>whnf
 refine br.h h ?_ ?_ ?_
 ·rfl
 ·clear h;intro hb h;conv=>whnf
  all_goals (cases h;exact Res.z rfl rfl rfl)
 clear h;intro hb h;conv=>whnf
 replace h:=XaK.elim h;obtain ⟨hb,h⟩:=h
 first|(refine req.intro hb ?_;conv=>whnf)|skip
 replace h:=Xak.elim h;obtain ⟨xg,hy,h⟩:=h
 refine XaG.q rfl rfl (Xlw hy) rfl rfl rfl ?_
 conv=>whnf
 replace h:=XaK.elim h;obtain ⟨hb,h⟩:=h
 first|(refine req.intro hb ?_;conv=>whnf)|skip
 replace h:=Xak.elim h;obtain ⟨xg1,hy,h⟩:=h
 refine XaG.q rfl rfl (Xlw hy) rfl rfl rfl ?_
 conv=>whnf
 replace h:=Xak.elim h;obtain ⟨b5,hy,h⟩:=h
 refine rdS.intro hy ?_
 conv=>whnf
 replace h:=Xak.elim h;obtain ⟨m1,hy,h⟩:=h
 refine XaG.q rfl rfl (Xe3 hy) rfl rfl rfl ?_
 conv=>whnf
 replace h:=Xak.elim h;obtain ⟨b6,hy,h⟩:=h
 refine rdS.intro hy ?_
 conv=>whnf
 replace h:=Xak.elim h;obtain ⟨b7,hy,h⟩:=h
 refine rdS.intro hy ?_
 conv=>whnf
 replace h:=Xak.elim h;obtain ⟨b8,hy,h⟩:=h
 refine rdS.intro hy ?_
 conv=>whnf
 replace h:=XaK.elim h;obtain ⟨hb,h⟩:=h
 first|(refine req.intro hb ?_;conv=>whnf)|skip
 replace h:=XaK.elim h;obtain ⟨hb,h⟩:=h
 first|(refine req.intro hb ?_;conv=>whnf)|skip
 let t1:List UInt8:=(s.drop t.toNat).take (m.toNat - t.toNat)
 all_goals (cases h;exact Res.z rfl rfl rfl)
theorem ok98 (Xal:(List UInt8)→Int→Int→Option Int) (Xbf:(List UInt8)→Option Int) (XbV:(List UInt8)→Option (Xaa×Bool)) (hS:Xai Tryz.prog (Xar (XA5 Xal Xbf XbV))):Xan Tryz.prog 98 (s98 (Xju Xal Xbf XbV)):=by
 refine Xan.Xau Xam (fun ar os r ha hr=>?_) ⟨Tryz.f98,rfl,by decide,rfl⟩
 replace hr:r98 (Xju Xal Xbf XbV) ar (XaA os)=some r:=hr
 unfold r98 at hr
 generalize hc:XaA os=C at hr
 replace hr:=dV.elim hr;obtain ⟨v0,l1,y0,rfl,e0,hr⟩:=hr;obtain rfl:=Xb7 _ _ e0
 replace hr:=Xdf hr;obtain ⟨rfl,rfl,x,h,rfl⟩:=hr
 obtain rfl:=Xao hc
 exact ⟨_,rfl,XE8 Xal Xbf XbV hS _ x h⟩
def XeM:(List UInt8)→Option (Xah×(List UInt8)×Int):=Xju Xal Xbf XbV
theorem XYD:Xan Tryz.prog 98 (s98 XeM):=ok98 Xal Xbf XbV (Xai.XaW ⟨Xmh,XnK,XuS,trivial⟩)
end Go.Vm.Code
namespace Go.Vm.Code
open Go Go.Vm
def Xms:Xah:=⟨0,0,false,0,0,⟨false,0,0⟩,⟨false,0,0⟩,[]⟩
def XgN (s:List UInt8):Xah×List UInt8×Int:=
 if s.length<20 then (Xms,[],2) else if vK s 0 1/16≠4 then (Xms,[],3) else if vK s 0 1%16*4<20 then (Xms,[],3) else if vK s 2 2<vK s 0 1%16*4 then (Xms,[],3) else if (s.length:Int)<vK s 2 2 then (Xms,[],2) else
  if norm (Xgz (s.take (vK s 0 1%16*4).toNat))≠65535 then (Xms,[],4) else if vK s 6 2≠0∧vK s 6 2≠16384 then (Xms,[],7) else
   (⟨vK s 1 1,vK s 4 2,vK s 6 2 !=0,vK s 8 1,vK s 9 1,adr4 s 12,adr4 s 16,(s.drop 20).take ((vK s 0 1%16*4).toNat - 20)⟩,(s.drop (vK s 0 1%16*4).toNat).take ((vK s 2 2).toNat - (vK s 0 1%16*4).toNat),0)
theorem Xt0 (s:List UInt8) (p:Nat):vK ((s.drop p).take 4) 0 4=vK s p 4:=by unfold vK;simp [List.take_take]
theorem X18 {s:List UInt8} {p:Nat} (h:p+4≤s.length):XaI ⟨⟨s.drop p,true,false⟩⟩=some (adr4 s p,⟨s.drop (p+4),true,false⟩):=by
 unfold XaI Xb5
 rw [show (4:Int)=((4:Nat):Int) from rfl,XnG h,Option.bind_some,aget4 (by simp;omega),Option.bind_some,Xt0];rfl
theorem g5_eq {s:List UInt8} (hs:s.length<2^38):Xci s=some (XgN s):=by
 unfold Xci Xf0 XgN
 by_cases h0:s.length<20
 ·rw [XaV (by omega),if_pos h0];rfl
 rw [XaM (by omega),if_neg h0,XmR,Option.bind_some]
 have N:∀ (p k:Nat),1≤k→k≤7→p+k≤20→Xad ⟨s.drop p,true,false⟩ (k:Int)=some (vK s p k,⟨s.drop (p+k),true,false⟩):=fun p k a b c=>XBZ a b (by omega) (by omega)
 have N0:Xad ⟨s,true,false⟩ 1=some (vK s 0 1,⟨s.drop 1,true,false⟩):=N 0 1 (by omega) (by omega) (by omega)
 have N1:Xad ⟨s.drop 1,true,false⟩ 1=some (vK s 1 1,⟨s.drop 2,true,false⟩):=N 1 1 (by omega) (by omega) (by omega)
 have N2:Xad ⟨s.drop 2,true,false⟩ 2=some (vK s 2 2,⟨s.drop 4,true,false⟩):=N 2 2 (by omega) (by omega) (by omega)
 have N4:Xad ⟨s.drop 4,true,false⟩ 2=some (vK s 4 2,⟨s.drop 6,true,false⟩):=N 4 2 (by omega) (by omega) (by omega)
 have N6:Xad ⟨s.drop 6,true,false⟩ 2=some (vK s 6 2,⟨s.drop 8,true,false⟩):=N 6 2 (by omega) (by omega) (by omega)
 have N8:Xad ⟨s.drop 8,true,false⟩ 1=some (vK s 8 1,⟨s.drop 9,true,false⟩):=N 8 1 (by omega) (by omega) (by omega)
 have N9:Xad ⟨s.drop 9,true,false⟩ 1=some (vK s 9 1,⟨s.drop 10,true,false⟩):=N 9 1 (by omega) (by omega) (by omega)
 have N10:Xad ⟨s.drop 10,true,false⟩ 2=some (vK s 10 2,⟨s.drop 12,true,false⟩):=N 10 2 (by omega) (by omega) (by omega)
 rw [N0,Option.bind_some,N1,Option.bind_some,N2,Option.bind_some]
 simp only []
 rw [N4]
 simp only [Option.bind_some]
 rw [N6,XoJ,show ((2:Int)^4)=16 from rfl]
 have r0:=Xej s 0 1 256 (by decide)
 have r2:=Xej s 2 2 65536 (by decide)
 have ea:XjC .i64 (vK s 0 1) 15=vK s 0 1%16:=Xho 4 rfl (by omega) (by omega) (by omega)
 rw [ea,XcC (n:=vK s 0 1%16*4) (by omega) (by omega)]
 have hz:(⟨0,0,false,0,0,⟨false,0,0⟩,⟨false,0,0⟩,[]⟩:Xah)=Xms:=rfl
 rw [hz]
 by_cases g1:vK s 0 1/16=4
 ·rw [show (vK s 0 1/16 !=4)=false by simpa using g1,cond_false,if_neg (by simpa using g1)]
  obtain ⟨t,ht⟩:=Int.eq_ofNat_of_zero_le (show 0≤vK s 0 1%16*4 by omega)
  rw [ht]
  simp only [Option.bind_some,Int.toNat_natCast]
  by_cases g2:(t:Int)<20
  ·rw [XaV g2,if_pos g2]
  rw [XaM g2,if_neg g2]
  by_cases g3:vK s 2 2<t
  ·rw [XaV g3,if_pos g3]
  rw [XaM g3,if_neg g3]
  by_cases g4:(s.length:Int)<vK s 2 2
  ·rw [XaV (by omega),if_pos g4]
  rw [XaM (by omega),if_neg g4,Xaz (by omega),XnH (by simp;omega),Option.bind_some]
  by_cases g5:norm (Xgz (s.take t))=65535
  ·rw [if_neg (by simpa using g5),g5]
   simp only [show ((((65535:Nat):Int)==65535))=true from rfl,Bool.not_true,cond_false]
   have e6:=Xtu (s:=s) (p:=6) (by omega)
   rw [show (Xwp .i64 (vK s 6 2) 16384 !=0)=decide (vK s 6 2≠0∧vK s 6 2≠16384) by rw [e6];exact Xs7,Xiy]
   split
   ·rfl
   obtain ⟨m,hm⟩:=Int.eq_ofNat_of_zero_le r2.1
   rw [N8,Option.bind_some,N9,Option.bind_some,N10,Option.bind_some,X18 (by omega),Option.bind_some,X18 (by omega),Option.bind_some,XcC (n:=(t:Int) - 20) (by omega) (by omega),hm,XcC (n:=(m:Int) - t) (by omega) (by omega)]
   simp only []
   rw [show (t:Int) - 20=((t - 20:Nat):Int) by omega,show (m:Int) - t=((m - t:Nat):Int) by omega,XnG (by omega),Option.bind_some]
   simp only []
   rw [XnG (by omega),Option.bind_some,show 12+4+4+(t - 20)=t by omega,Int.toNat_natCast]
  ·rw [if_pos (by simpa using g5),show ((((norm (Xgz (s.take t)):Nat):Int)==65535))=false by simp;omega];rfl
 ·rw [show (vK s 0 1/16 !=4)=true by simpa using g1,cond_true,if_pos (by simpa using g1)]
theorem XX0 {s:List UInt8} (hs:s.length<2^38):XeM s=some (XgN s):=by
 unfold XeM Xju XgN
 by_cases h0:s.length<20
 ·rw [XaV (by omega),if_pos h0];rfl
 rw [XaM (by omega),if_neg h0]
 have G:∀ i:Nat,(h:i<20)→s[i]?=some (s[i]'(by omega)):=fun i h=>List.getElem?_eq_getElem (by omega)
 have M:∀ (p k:Nat),1≤k→k≤7→p+k≤20→Xal s (p:Int) (k:Int)=some (vK s p k):=fun p k a b c=>XnU (by omega) a b (by omega)
 have M2:Xal s 2 2=some (vK s 2 2):=M 2 2 (by omega) (by omega) (by omega)
 have M4:Xal s 4 2=some (vK s 4 2):=M 4 2 (by omega) (by omega) (by omega)
 rw [G 0 (by omega),G 1 (by omega),G 6 (by omega),G 7 (by omega),G 8 (by omega),G 9 (by omega),M2,M4]
 have e0:=XjZ (s:=s) (p:=0) (by omega)
 have e1:=XjZ (s:=s) (p:=1) (by omega)
 have e8:=XjZ (s:=s) (p:=8) (by omega)
 have e9:=XjZ (s:=s) (p:=9) (by omega)
 have e6:vK s 6 2=(s[6].toNat*256+s[7].toNat:Int):=Xtu (s:=s) (p:=6) (by omega)
 have r0:=Xej s 0 1 256 (by decide)
 have r1:=Xej s 1 1 256 (by decide)
 have r8:=Xej s 8 1 256 (by decide)
 have r9:=Xej s 9 1 256 (by decide)
 have r2:=Xej s 2 2 65536 (by decide)
 simp only [Option.bind_some]
 rw [←e0,←e1,←e8,←e9,Int.tmod_eq_emod_of_nonneg r0.1,Int.tdiv_eq_ediv_of_nonneg r0.1,XcC (n:=vK s 0 1%16) (by omega) (by omega),XcC (n:=4*(vK s 0 1%16)) (by omega) (by omega),wU8 (n:=vK s 0 1/16) (by omega) (by omega),XcC (n:=vK s 1 1) (by omega) (by omega),XcC (n:=vK s 8 1) (by omega) (by omega),XcC (n:=vK s 9 1) (by omega) (by omega)]
 have hz:(⟨0,0,false,0,0,⟨false,0,0⟩,⟨false,0,0⟩,[]⟩:Xah)=Xms:=rfl
 rw [hz,Int.mul_comm 4]
 by_cases g1:vK s 0 1/16=4
 ·rw [show (vK s 0 1/16 !=4)=false by simpa using g1,cond_false,if_neg (by simpa using g1)]
  obtain ⟨t,ht⟩:=Int.eq_ofNat_of_zero_le (show 0≤vK s 0 1%16*4 by omega)
  rw [ht]
  simp only [Int.toNat_natCast]
  by_cases g2:(t:Int)<20
  ·rw [XaV g2,if_pos g2]
  rw [XaM g2,if_neg g2]
  by_cases g3:vK s 2 2<t
  ·rw [XaV g3,if_pos g3]
  rw [XaM g3,if_neg g3]
  by_cases g4:(s.length:Int)<vK s 2 2
  ·rw [XaV (by omega),if_pos g4]
  rw [XaM (by omega),if_neg g4,Xaz (by omega),XjG (by simp;omega),Option.bind_some]
  by_cases g5:norm (Xgz (s.take t))=65535
  ·rw [if_neg (by simpa using g5),g5]
   simp only [show ((((65535:Nat):Int) !=65535))=false from rfl,cond_false]
   have a1:=XzB (s:=(s.drop 12).take 4) (by simp;omega)
   have a2:=XzB (s:=(s.drop 16).take 4) (by simp;omega)
   rw [a1,a2,Xt0,Xt0]
   obtain ⟨m,hm⟩:=Int.eq_ofNat_of_zero_le r2.1
   rw [hm]
   simp only [Option.bind_some,Int.toNat_natCast]
   rw [Xaz (p:=(0:Int)≤16∧(16:Int)≤(s.length:Int)∧(0:Int)≤12∧(12:Int)≤16) (by omega),Xaz (p:=(0:Int)≤20∧(20:Int)≤(s.length:Int)∧(0:Int)≤16∧(16:Int)≤20) (by omega),Xaz (p:=(0:Int)≤(t:Int)∧(t:Int)≤(s.length:Int)∧(0:Int)≤20∧(20:Int)≤(t:Int)) (by omega),Xaz (p:=(0:Int)≤(m:Int)∧(m:Int)≤(s.length:Int)∧(0:Int)≤(t:Int)∧(t:Int)≤(m:Int)) (by omega)]
   have b6:=s[6].toNat_lt
   have b7:=s[7].toNat_lt
   by_cases k6:(s[6].toNat:Int)=0
   ·rw [show ((s[6].toNat:Int) !=0)=false by simpa using k6,cond_false]
    by_cases k7:(s[7].toNat:Int)=0
    ·rw [show ((s[7].toNat:Int) !=0)=false by simpa using k7,cond_false,if_neg (by rw [e6];omega),show (vK s 6 2 !=0)=false by rw [e6,k6,k7];rfl,k6];rfl
    ·rw [show ((s[7].toNat:Int) !=0)=true by simpa using k7,cond_true,if_pos (by rw [e6];omega)]
   ·rw [show ((s[6].toNat:Int) !=0)=true by simpa using k6,cond_true]
    by_cases k8:(s[6].toNat:Int)=64
    ·rw [show ((s[6].toNat:Int) !=64)=false by rw [k8];rfl,cond_false]
     by_cases k7:(s[7].toNat:Int)=0
     ·rw [show ((s[7].toNat:Int) !=0)=false by simpa using k7,cond_false,if_neg (by rw [e6];omega),show (vK s 6 2 !=0)=true by rw [e6,k8,k7];rfl,k8];rfl
     ·rw [show ((s[7].toNat:Int) !=0)=true by simpa using k7,cond_true,if_pos (by rw [e6];omega)]
    ·rw [show ((s[6].toNat:Int) !=64)=true by simpa using k8,cond_true,if_pos (by rw [e6];omega)]
  ·rw [if_pos (by simpa using g5),show ((((norm (Xgz (s.take t)):Nat):Int) !=65535))=true by simp;omega];rfl
 ·rw [show (vK s 0 1/16 !=4)=true by simpa using g1,cond_true,if_pos (by simpa using g1)]
end Go.Vm.Code
namespace Go.Vm.Code
open Go Go.Vm Go.Proofs
set_option maxRecDepth 100000
set_option maxHeartbeats 4000000
set_option linter.unusedVariables false
def XgU (XbH:(List UInt8)→Option (Xaa×Bool)) (Xaw:(List UInt8)→Option Xab) (Xae:Xab→Option (Bool×Xab)) (Xad:Xab→Int→Option (Int×Xab)) (Xac:Xab→Int→Option ((List UInt8)×Xab)) (s:List UInt8):Option (Xaj×(List UInt8)×Int):=
 (Xaw s).bind fun n=>
 (Xad n 4).bind fun n1=>
 (Xad n1.2 2).bind fun n2=>
 (Xad n2.2 1).bind fun n3=>
 (Xad n3.2 1).bind fun n4=>
 (Xac n4.2 16).bind fun t=>
 (Xac t.2 16).bind fun t1=>
 (Xae t1.2).bind fun b=>
 cond (b.1)
  (
  some ((Xaj.mk 0 0 0 0 (Xaa.mk false 0 0) (Xaa.mk false 0 0),[],2)))
  (
  cond ((n1.1.fdiv (2^28)) !=6)
   (
   some ((Xaj.mk 0 0 0 0 (Xaa.mk false 0 0) (Xaa.mk false 0 0),[],3)))
   (
   (XbH t.1).bind fun xg=>
   (XbH t1.1).bind fun xg1=>
   (Xac b.2 n2.1).bind fun t2=>
   (Xae t2.2).bind fun b1=>
   cond (b1.1)
    (
    some ((Xaj.mk 0 0 0 0 (Xaa.mk false 0 0) (Xaa.mk false 0 0),[],2)))
    (
    some ((Xaj.mk (XjC .i64 (n1.1.fdiv (2^20)) 255) (XjC .i64 n1.1 1048575) n3.1 n4.1 xg.1 xg1.1,t2.1,0)))))
def XwB (x:Xaj×(List UInt8)×Int):Xco:=⟨.tuple ⟨[.agg ⟨[.int .i64 x.1.Class,.int .i64 x.1.Label,.int .i64 x.1.Next,.int .i64 x.1.Hop,.bool x.1.Src.V6,.int .u64 x.1.Src.Hi,.int .u64 x.1.Src.Lo,.bool x.1.Dst.V6,.int .u64 x.1.Dst.Hi,.int .u64 x.1.Dst.Lo]⟩,.string ⟨⟨x.2.1⟩⟩,.int .i64 x.2.2]⟩,[],[]⟩
def r130 (g:(List UInt8)→Option (Xaj×(List UInt8)×Int)):Dec:=dV asS fun (y0:List UInt8)=>Xc4 (ofG (g y0) XwB)
theorem X36 {g:(List UInt8)→Option (Xaj×(List UInt8)×Int)} {y0:List UInt8} {x:Xaj×(List UInt8)×Int} (hx:g y0=some x):r130 g [.string ⟨⟨y0⟩⟩] []=some (XwB x):=(XaS (XdJ)).trans (XaZ hx)
def s130 (g:(List UInt8)→Option (Xaj×(List UInt8)×Int)):Xbp:=⟨[.v],r130 g⟩
theorem XDj {g:(List UInt8)→Option (Xaj×(List UInt8)×Int)} {y0:List UInt8} {x:Xaj×(List UInt8)×Int} (hx:g y0=some x):(s130 g).run [.string ⟨⟨y0⟩⟩] []=some (XwB x):=X36 hx
abbrev Xuh (XbH:(List UInt8)→Option (Xaa×Bool)) (Xaw:(List UInt8)→Option Xab) (Xae:Xab→Option (Bool×Xab)) (Xad:Xab→Int→Option (Int×Xab)) (Xac:Xab→Int→Option ((List UInt8)×Xab)):List (Nat×Xbp):=[(135,XZP XbH),(61,s61 Xaw),(63,s63 Xae),(62,s62 Xad),(64,s64 Xac)]
theorem XyF (XbH:(List UInt8)→Option (Xaa×Bool)) (Xaw:(List UInt8)→Option Xab) (Xae:Xab→Option (Bool×Xab)) (Xad:Xab→Int→Option (Int×Xab)) (Xac:Xab→Int→Option ((List UInt8)×Xab)) (hS:Xai Tryz.prog (Xar (Xuh XbH Xaw Xae Xad Xac))) (s:List UInt8) (res:Xaj×(List UInt8)×Int) (h:XgU XbH Xaw Xae Xad Xac s=some res) :
 XaD Tryz.prog 130 0 ⟨⟨130,59,[(0,.string ⟨⟨s⟩⟩)],[.code Xtg],[],false,none⟩,[],[],0⟩ (fun v H _=>Res 0 (XwB res) v H):=by
 unfold XgU at h
 refine Xa9 Xam hS true 3000 ?_
 conv=>whnf
 replace h:=Xak.elim h;obtain ⟨n,hy,h⟩:=h
 refine XaG.Xba [1] (Xat (aqs:=[.string ⟨⟨s⟩⟩]) (ws:=[]) (n:=1) (m:=0) (t':=2) (Xas rfl rfl Xbd) rfl (by rfl) (Xpf hy) rfl rfl rfl rfl Xbc (XhO (rfl) Xbb) rfl) ?_
 conv=>whnf
 replace h:=Xak.elim h;obtain ⟨n1,hy,h⟩:=h
 refine XaG.Xba [1] (Xat (aqs:=[.pointer (some ⟨0,0,none⟩),.int .i64 4]) (ws:=[.win 1 0 3 true]) (n:=0) (m:=0) (t':=2) (Xas rfl rfl (Xas rfl rfl Xbd)) rfl (by rfl) (XdR hy) rfl rfl rfl rfl (XbK rfl rfl rfl ⟨rfl,Nat.le_of_ble_eq_true rfl⟩ rfl rfl Xbc) Xbb rfl) ?_
 conv=>whnf
 replace h:=Xak.elim h;obtain ⟨n2,hy,h⟩:=h
 refine XaG.Xba [1] (Xat (aqs:=[.pointer (some ⟨0,0,none⟩),.int .i64 2]) (ws:=[.win 1 0 3 true]) (n:=0) (m:=0) (t':=2) (Xas rfl rfl (Xas rfl rfl Xbd)) rfl (by rfl) (XdR hy) rfl rfl rfl rfl (XbK rfl rfl rfl ⟨rfl,Nat.le_of_ble_eq_true rfl⟩ rfl rfl Xbc) Xbb rfl) ?_
 conv=>whnf
 replace h:=Xak.elim h;obtain ⟨n3,hy,h⟩:=h
 refine XaG.Xba [1] (Xat (aqs:=[.pointer (some ⟨0,0,none⟩),.int .i64 1]) (ws:=[.win 1 0 3 true]) (n:=0) (m:=0) (t':=2) (Xas rfl rfl (Xas rfl rfl Xbd)) rfl (by rfl) (XdR hy) rfl rfl rfl rfl (XbK rfl rfl rfl ⟨rfl,Nat.le_of_ble_eq_true rfl⟩ rfl rfl Xbc) Xbb rfl) ?_
 conv=>whnf
 replace h:=Xak.elim h;obtain ⟨n4,hy,h⟩:=h
 refine XaG.Xba [1] (Xat (aqs:=[.pointer (some ⟨0,0,none⟩),.int .i64 1]) (ws:=[.win 1 0 3 true]) (n:=0) (m:=0) (t':=2) (Xas rfl rfl (Xas rfl rfl Xbd)) rfl (by rfl) (XdR hy) rfl rfl rfl rfl (XbK rfl rfl rfl ⟨rfl,Nat.le_of_ble_eq_true rfl⟩ rfl rfl Xbc) Xbb rfl) ?_
 conv=>whnf
 replace h:=Xak.elim h;obtain ⟨t,hy,h⟩:=h
 refine XaG.Xba [1] (Xat (aqs:=[.pointer (some ⟨0,0,none⟩),.int .i64 16]) (ws:=[.win 1 0 3 true]) (n:=0) (m:=0) (t':=3) (Xas rfl rfl (Xas rfl rfl Xbd)) rfl (by rfl) (Xhy hy) rfl rfl rfl rfl (XbK rfl rfl rfl ⟨rfl,Nat.le_of_ble_eq_true rfl⟩ rfl rfl Xbc) Xbb rfl) ?_
 conv=>whnf
 replace h:=Xak.elim h;obtain ⟨t1,hy,h⟩:=h
 refine XaG.Xba [1] (Xat (aqs:=[.pointer (some ⟨0,0,none⟩),.int .i64 16]) (ws:=[.win 1 0 3 true]) (n:=0) (m:=0) (t':=3) (Xas rfl rfl (Xas rfl rfl Xbd)) rfl (by rfl) (Xhy hy) rfl rfl rfl rfl (XbK rfl rfl rfl ⟨rfl,Nat.le_of_ble_eq_true rfl⟩ rfl rfl Xbc) Xbb rfl) ?_
 conv=>whnf
 replace h:=Xak.elim h;obtain ⟨b,hy,h⟩:=h
 refine XaG.Xba [1] (Xat (aqs:=[.pointer (some ⟨0,0,none⟩)]) (ws:=[.win 1 0 3 true]) (n:=0) (m:=0) (t':=3) (Xas rfl rfl Xbd) rfl (by rfl) (XjQ hy) rfl rfl rfl rfl (XbK rfl rfl rfl ⟨rfl,Nat.le_of_ble_eq_true rfl⟩ rfl rfl Xbc) Xbb rfl) ?_
 conv=>whnf
 refine br.h h ?_ ?_ ?_
 ·rfl
 ·clear h;intro hb h;conv=>whnf
  all_goals (cases h;exact Res.z rfl rfl rfl)
 clear h;intro hb h;conv=>whnf
 refine br.h h ?_ ?_ ?_
 ·rfl
 ·clear h;intro hb h;conv=>whnf
  all_goals (cases h;exact Res.z rfl rfl rfl)
 clear h;intro hb h;conv=>whnf
 replace h:=Xak.elim h;obtain ⟨xg,hy,h⟩:=h
 refine XaG.q rfl rfl (Xqs hy) rfl rfl rfl ?_
 conv=>whnf
 replace h:=Xak.elim h;obtain ⟨xg1,hy,h⟩:=h
 refine XaG.q rfl rfl (Xqs hy) rfl rfl rfl ?_
 conv=>whnf
 replace h:=Xak.elim h;obtain ⟨t2,hy,h⟩:=h
 refine XaG.Xba [1] (Xat (aqs:=[.pointer (some ⟨0,0,none⟩),.int .i64 n2.1]) (ws:=[.win 1 0 3 true]) (n:=0) (m:=0) (t':=3) (Xas rfl rfl (Xas rfl rfl Xbd)) rfl (by rfl) (Xhy hy) rfl rfl rfl rfl (XbK rfl rfl rfl ⟨rfl,Nat.le_of_ble_eq_true rfl⟩ rfl rfl Xbc) Xbb rfl) ?_
 conv=>whnf
 replace h:=Xak.elim h;obtain ⟨b1,hy,h⟩:=h
 refine XaG.Xba [1] (Xat (aqs:=[.pointer (some ⟨0,0,none⟩)]) (ws:=[.win 1 0 3 true]) (n:=0) (m:=0) (t':=3) (Xas rfl rfl Xbd) rfl (by rfl) (XjQ hy) rfl rfl rfl rfl (XbK rfl rfl rfl ⟨rfl,Nat.le_of_ble_eq_true rfl⟩ rfl rfl Xbc) Xbb rfl) ?_
 conv=>whnf
 refine br.h h ?_ ?_ ?_
 ·rfl
 ·clear h;intro hb h;conv=>whnf
  all_goals (cases h;exact Res.z rfl rfl rfl)
 clear h;intro hb h;conv=>whnf
 all_goals (cases h;exact Res.z rfl rfl rfl)
theorem ok130 (XbH:(List UInt8)→Option (Xaa×Bool)) (Xaw:(List UInt8)→Option Xab) (Xae:Xab→Option (Bool×Xab)) (Xad:Xab→Int→Option (Int×Xab)) (Xac:Xab→Int→Option ((List UInt8)×Xab)) (hS:Xai Tryz.prog (Xar (Xuh XbH Xaw Xae Xad Xac))):Xan Tryz.prog 130 (s130 (XgU XbH Xaw Xae Xad Xac)):=by
 refine Xan.Xau Xam (fun ar os r ha hr=>?_) ⟨Tryz.f130,rfl,by decide,rfl⟩
 replace hr:r130 (XgU XbH Xaw Xae Xad Xac) ar (XaA os)=some r:=hr
 unfold r130 at hr
 generalize hc:XaA os=C at hr
 replace hr:=dV.elim hr;obtain ⟨v0,l1,y0,rfl,e0,hr⟩:=hr;obtain rfl:=Xb7 _ _ e0
 replace hr:=Xdf hr;obtain ⟨rfl,rfl,x,h,rfl⟩:=hr
 obtain rfl:=Xao hc
 exact ⟨_,rfl,XyF XbH Xaw Xae Xad Xac hS _ x h⟩
def XcS:(List UInt8)→Option (Xaj×(List UInt8)×Int):=XgU XbH Xaw Xae Xad Xac
theorem XEs:Xan Tryz.prog 130 (s130 XcS):=ok130 XbH Xaw Xae Xad Xac (Xai.XaW ⟨XuP,Xph,Xne,Xnn,XlK,trivial⟩)
def XjB (Xal:(List UInt8)→Int→Int→Option Int) (XbV:(List UInt8)→Option (Xaa×Bool)) (s:List UInt8):Option (Xaj×(List UInt8)×Int):=
 cond (decide ((s.length:Int)<40))
  (
  some ((Xaj.mk 0 0 0 0 (Xaa.mk false 0 0) (Xaa.mk false 0 0),[],2)))
  (
  (Xal s 0 4).bind fun m=>
  (Xal s 4 2).bind fun m1=>
  cond ((wI .i64 (m.tdiv 268435456)) !=6)
   (
   some ((Xaj.mk 0 0 0 0 (Xaa.mk false 0 0) (Xaa.mk false 0 0),[],3)))
   (
   let t:=decide ((wI .i64 ((s.length:Int) - 40))<m1)
   cond (t)
    (
    some ((Xaj.mk 0 0 0 0 (Xaa.mk false 0 0) (Xaa.mk false 0 0),[],2)))
    (
    XaK (decide ((0:Int)≤(24:Int)∧(24:Int)≤(s.length:Int)∧(0:Int)≤(8:Int)∧(8:Int)≤(24:Int))) <|
    (XbV ((s.drop 8).take 16)).bind fun xg=>
    XaK (decide ((0:Int)≤(40:Int)∧(40:Int)≤(s.length:Int)∧(0:Int)≤(24:Int)∧(24:Int)≤(40:Int))) <|
    (XbV ((s.drop 24).take 16)).bind fun xg1=>
    (s[6]?).bind fun (b:UInt8)=>
    (s[7]?).bind fun (b1:UInt8)=>
    XaK (decide ((0:Int)≤(wI .i64 (40+m1))∧(wI .i64 (40+m1))≤(s.length:Int)∧(0:Int)≤(40:Int)∧(40:Int)≤((wI .i64 (40+m1)).toNat:Int))) <|
    let t1:=(s.drop 40).take ((wI .i64 (40+m1)).toNat - 40)
    some ((Xaj.mk ((wI .i64 (m.tdiv 1048576)).tmod 256) (m.tmod 1048576) (wI .i64 (b.toNat:Int)) (wI .i64 (b1.toNat:Int)) xg.1 xg1.1,t1,0)))))
def rx99 (x:Xaj×(List UInt8)×Int):Xco:=⟨.tuple ⟨[.agg ⟨[.int .i64 x.1.Class,.int .i64 x.1.Label,.int .i64 x.1.Next,.int .i64 x.1.Hop,.bool x.1.Src.V6,.int .u64 x.1.Src.Hi,.int .u64 x.1.Src.Lo,.bool x.1.Dst.V6,.int .u64 x.1.Dst.Hi,.int .u64 x.1.Dst.Lo]⟩,.string ⟨⟨x.2.1⟩⟩,.int .i64 x.2.2]⟩,[],[]⟩
def r99 (g:(List UInt8)→Option (Xaj×(List UInt8)×Int)):Dec:=dV asS fun (y0:List UInt8)=>Xc4 (ofG (g y0) rx99)
theorem r99_c {g:(List UInt8)→Option (Xaj×(List UInt8)×Int)} {y0:List UInt8} {x:Xaj×(List UInt8)×Int} (hx:g y0=some x):r99 g [.string ⟨⟨y0⟩⟩] []=some (rx99 x):=(XaS (XdJ)).trans (XaZ hx)
def s99 (g:(List UInt8)→Option (Xaj×(List UInt8)×Int)):Xbp:=⟨[.v],r99 g⟩
theorem XUK {g:(List UInt8)→Option (Xaj×(List UInt8)×Int)} {y0:List UInt8} {x:Xaj×(List UInt8)×Int} (hx:g y0=some x):(s99 g).run [.string ⟨⟨y0⟩⟩] []=some (rx99 x):=r99_c hx
abbrev XB1 (Xal:(List UInt8)→Int→Int→Option Int) (XbV:(List UInt8)→Option (Xaa×Bool)):List (Nat×Xbp):=[(44,s44 Xal),(122,X4U XbV)]
theorem XEm (Xal:(List UInt8)→Int→Int→Option Int) (XbV:(List UInt8)→Option (Xaa×Bool)) (hS:Xai Tryz.prog (Xar (XB1 Xal XbV))) (s:List UInt8) (res:Xaj×(List UInt8)×Int) (h:XjB Xal XbV s=some res) :
 XaD Tryz.prog 99 0 ⟨⟨99,59,[(0,.string ⟨⟨s⟩⟩)],[.code Xzg],[],false,none⟩,[],[],0⟩ (fun v H _=>Res 0 (rx99 res) v H):=by
 unfold XjB at h
 refine Xa9 Xam hS true 3000 ?_
 conv=>whnf
 refine br.h h ?_ ?_ ?_
 ·rfl
 ·clear h;intro hb h;conv=>whnf
  all_goals (cases h;exact Res.z rfl rfl rfl)
 clear h;intro hb h;conv=>whnf
 replace h:=Xak.elim h;obtain ⟨m,hy,h⟩:=h
 refine XaG.q rfl rfl (Xe3 hy) rfl rfl rfl ?_
 conv=>whnf
 replace h:=Xak.elim h;obtain ⟨m1,hy,h⟩:=h
 refine XaG.q rfl rfl (Xe3 hy) rfl rfl rfl ?_
 conv=>whnf
 refine br.h h ?_ ?_ ?_
 ·rfl
 ·clear h;intro hb h;conv=>whnf
  all_goals (cases h;exact Res.z rfl rfl rfl)
 clear h;intro hb h;conv=>whnf
 let t:Bool:=decide ((wI .i64 ((s.length:Int) - 40))<m1)
 refine br.h h ?_ ?_ ?_
 ·rfl
 ·clear h;intro hb h;conv=>whnf
  all_goals (cases h;exact Res.z rfl rfl rfl)
 clear h;intro hb h;conv=>whnf
 replace h:=XaK.elim h;obtain ⟨hb,h⟩:=h
 first|(refine req.intro hb ?_;conv=>whnf)|skip
 replace h:=Xak.elim h;obtain ⟨xg,hy,h⟩:=h
 refine XaG.q rfl rfl (Xlw hy) rfl rfl rfl ?_
 conv=>whnf
 replace h:=XaK.elim h;obtain ⟨hb,h⟩:=h
 first|(refine req.intro hb ?_;conv=>whnf)|skip
 replace h:=Xak.elim h;obtain ⟨xg1,hy,h⟩:=h
 refine XaG.q rfl rfl (Xlw hy) rfl rfl rfl ?_
 conv=>whnf
 replace h:=Xak.elim h;obtain ⟨b,hy,h⟩:=h
 refine rdS.intro hy ?_
 conv=>whnf
 replace h:=Xak.elim h;obtain ⟨b1,hy,h⟩:=h
 refine rdS.intro hy ?_
 conv=>whnf
 replace h:=XaK.elim h;obtain ⟨hb,h⟩:=h
 first|(refine req.intro hb ?_;conv=>whnf)|skip
 let t1:List UInt8:=(s.drop 40).take ((wI .i64 (40+m1)).toNat - 40)
 all_goals (cases h;exact Res.z rfl rfl rfl)
theorem ok99 (Xal:(List UInt8)→Int→Int→Option Int) (XbV:(List UInt8)→Option (Xaa×Bool)) (hS:Xai Tryz.prog (Xar (XB1 Xal XbV))):Xan Tryz.prog 99 (s99 (XjB Xal XbV)):=by
 refine Xan.Xau Xam (fun ar os r ha hr=>?_) ⟨Tryz.f99,rfl,by decide,rfl⟩
 replace hr:r99 (XjB Xal XbV) ar (XaA os)=some r:=hr
 unfold r99 at hr
 generalize hc:XaA os=C at hr
 replace hr:=dV.elim hr;obtain ⟨v0,l1,y0,rfl,e0,hr⟩:=hr;obtain rfl:=Xb7 _ _ e0
 replace hr:=Xdf hr;obtain ⟨rfl,rfl,x,h,rfl⟩:=hr
 obtain rfl:=Xao hc
 exact ⟨_,rfl,XEm Xal XbV hS _ x h⟩
def Xew:(List UInt8)→Option (Xaj×(List UInt8)×Int):=XjB Xal XbV
theorem XPZ:Xan Tryz.prog 99 (s99 Xew):=ok99 Xal XbV (Xai.XaW ⟨Xmh,XuS,trivial⟩)
end Go.Vm.Code
namespace Go.Vm.Code
open Go Go.Vm
def zero6:Xaj:=⟨0,0,0,0,⟨false,0,0⟩,⟨false,0,0⟩⟩
def XDy (s:List UInt8):Xaj:=
 let m:=Xd0 (s.take 4)
 ⟨((m/2^20%256:Nat):Int),((m%2^20:Nat):Int),((Xd0 ((s.drop 6).take 1):Nat):Int),((Xd0 ((s.drop 7).take 1):Nat):Int),XsF ((s.drop 8).take 16),XsF ((s.drop 24).take 16)⟩
def XiT (s:List UInt8):Xaj×List UInt8×Int:=
 if s.length<40 then (zero6,[],2) else if Xd0 (s.take 4)/2^28≠6 then (zero6,[],3) else if s.length - 40<Xd0 ((s.drop 4).take 2) then (zero6,[],2) else
  (XDy s,(s.drop 40).take (Xd0 ((s.drop 4).take 2)),0)
theorem XKB {s:List UInt8} (h:s.length<2^60):XcS s=some (XiT s):=by
 unfold XcS XgU
 rw [XmR,Option.bind_some]
 by_cases hs:s.length<40
 ·have e:XiT s=(zero6,[],2):=by unfold XiT;rw [if_pos hs]
  rw [XfO rfl (by simp only [];omega),Option.bind_some]
  simp only []
  have b1:∀ (r:Xab) (k:Int),(rdr r k).s.length≤r.s.length:=by intro r k;unfold rdr;split<;>simp
  have l1:=b1 ⟨s,true,false⟩ (if (4:Int)<1∨(4:Int)>7 then -1 else 4)
  simp only at l1
  generalize hr1:rdr ⟨s,true,false⟩ (if (4:Int)<1∨(4:Int)>7 then -1 else 4)=r1 at *
  have m1:r1.made=true:=by rw [←hr1];exact XfL _ _
  rw [XfO m1 (by omega),Option.bind_some]
  simp only []
  have l2:=b1 r1 (if (2:Int)<1∨(2:Int)>7 then -1 else 2)
  generalize hr2:rdr r1 (if (2:Int)<1∨(2:Int)>7 then -1 else 2)=r2 at *
  have m2:r2.made=true:=by rw [←hr2];exact XfL _ _
  rw [XfO m2 (by omega),Option.bind_some]
  simp only []
  have l3:=b1 r2 (if (1:Int)<1∨(1:Int)>7 then -1 else 1)
  generalize hr3:rdr r2 (if (1:Int)<1∨(1:Int)>7 then -1 else 1)=r3 at *
  have m3:r3.made=true:=by rw [←hr3];exact XfL _ _
  rw [XfO m3 (by omega),Option.bind_some]
  simp only []
  have l4:=b1 r3 (if (1:Int)<1∨(1:Int)>7 then -1 else 1)
  generalize hr4:rdr r3 (if (1:Int)<1∨(1:Int)>7 then -1 else 1)=r4 at *
  have m4:r4.made=true:=by rw [←hr4];exact XfL _ _
  rw [XeP m4,Option.bind_some]
  simp only []
  generalize hr5:rdr r4 16=r5 at *
  have m5:r5.made=true:=by rw [←hr5];exact XfL _ _
  rw [XeP m5,Option.bind_some]
  simp only []
  generalize hr6:rdr r5 16=r6 at *
  have m6:r6.made=true:=by rw [←hr6];exact XfL _ _
  rw [Xeg m6,Option.bind_some]
  have hb:r6.bad=true:=by
   cases hb:r6.bad with
   | true=>rfl
   | false=>
     exfalso
     obtain ⟨a5,n6⟩:=Xgo hr6 hb
     obtain ⟨a4,n5⟩:=Xgo hr5 a5
     obtain ⟨a3,n4⟩:=Xgo hr4 a4
     obtain ⟨a2,n3⟩:=Xgo hr3 a3
     obtain ⟨a1,n2⟩:=Xgo hr2 a2
     obtain ⟨a0,n1⟩:=Xgo hr1 a1
     rw [show (if (4:Int)<1∨(4:Int)>7 then -1 else 4:Int)=4 by decide] at n1
     simp only at n1
     omega
  simp only [hb,cond_true]
  rw [e];rfl
 ·have i4:(if (4:Int)<1∨(4:Int)>7 then -1 else 4:Int)=4:=by decide
  have i2:(if (2:Int)<1∨(2:Int)>7 then -1 else 2:Int)=2:=by decide
  have i1:(if (1:Int)<1∨(1:Int)>7 then -1 else 1:Int)=1:=by decide
  have t4:(4:Int).toNat=4:=rfl
  have t2:(2:Int).toNat=2:=rfl
  have t1:(1:Int).toNat=1:=rfl
  have t16:(16:Int).toNat=16:=rfl
  rw [XfO rfl (by simp only [];omega),Option.bind_some]
  simp only [rdn,i4]
  rw [Xhg (by omega) (by omega),Xhq (by omega) (by omega),t4]
  rw [XfO rfl (by simp;omega),Option.bind_some]
  simp only [rdn,i2]
  rw [Xhg (by omega) (by simp;omega),Xhq (by omega) (by simp;omega),t2,List.drop_drop]
  rw [XfO rfl (by simp;omega),Option.bind_some]
  simp only [rdn,i1]
  rw [Xhg (by omega) (by simp;omega),Xhq (by omega) (by simp;omega),t1,List.drop_drop]
  rw [XfO rfl (by simp;omega),Option.bind_some]
  simp only [rdn,i1]
  rw [Xhg (by omega) (by simp;omega),Xhq (by omega) (by simp;omega),t1,List.drop_drop]
  rw [XeP rfl,Option.bind_some]
  simp only []
  rw [Xhg (by omega) (by simp;omega),Xhq (by omega) (by simp;omega),t16,List.drop_drop]
  rw [XeP rfl,Option.bind_some]
  simp only []
  rw [Xhg (by omega) (by simp;omega),Xhq (by omega) (by simp;omega),t16,List.drop_drop]
  rw [Xeg rfl,Option.bind_some]
  simp only [cond_false,Nat.reduceAdd]
  have v4:Xd0 (s.take 4)<2^32:=XdK _ (by decide)
  have v2:Xd0 ((s.drop 4).take 2)<2^16:=XdK _ (by decide)
  unfold XiT
  rw [if_neg hs]
  have e1:((((Xd0 (s.take 4):Nat):Int).fdiv (2^28)) !=6)=decide (Xd0 (s.take 4)/2^28≠6):=by
   rw [XoJ,Bool.eq_iff_iff,bne_iff_ne,decide_eq_true_eq];omega
  rw [e1]
  by_cases h6:Xd0 (s.take 4)/2^28≠6
  ·rw [XaV h6,if_pos h6];rfl
  rw [XaM h6,if_neg h6]
  rw [Xng (by simp;omega),Xng (by simp;omega)]
  simp only [Option.bind_some]
  rw [XeP rfl,Option.bind_some]
  by_cases hn:s.length - 40<Xd0 ((s.drop 4).take 2)
  ·rw [Xeg (XfL _ _),Option.bind_some]
   have hb:(rdr ⟨s.drop 40,true,false⟩ ((Xd0 ((s.drop 4).take 2):Nat):Int)).bad=true:=by
    cases hb:(rdr ⟨s.drop 40,true,false⟩ ((Xd0 ((s.drop 4).take 2):Nat):Int)).bad with
    | true=>rfl
    | false=>
      exfalso
      obtain ⟨_,_,c⟩:=Xqv.1 hb
      simp at c;omega
   simp only [hb,cond_true]
   rw [if_pos hn];rfl
  ·rw [Xhg (by omega) (by simp;omega),Xhq (by omega) (by simp;omega),Xeg rfl,Option.bind_some]
   simp only [cond_false,Int.toNat_natCast]
   rw [if_neg hn]
   unfold XDy
   simp only []
   have e2:XjC .i64 ((((Xd0 (s.take 4):Nat):Int)).fdiv (2^20)) 255=((Xd0 (s.take 4)/2^20%256:Nat):Int):=by
    rw [XoJ,Xho (m:=255) 8 (by decide) (by decide) (by omega) (by omega)];omega
   have e3:XjC .i64 ((Xd0 (s.take 4):Nat):Int) 1048575=((Xd0 (s.take 4)%2^20:Nat):Int):=by
    rw [Xho (m:=1048575) 20 (by decide) (by decide) (by omega) (by omega)];omega
   rw [e2,e3]
theorem XyG {s:List UInt8} (h:s.length<2^60):Xew s=some (XiT s):=by
 unfold Xew XjB XiT
 by_cases hs:s.length<40
 ·rw [XaV (by omega),if_pos hs];rfl
 rw [XaM (by omega),if_neg hs]
 have v4:Xd0 (s.take 4)<2^32:=XdK _ (by decide)
 have v2:Xd0 ((s.drop 4).take 2)<2^16:=XdK _ (by decide)
 rw [Xf1 (by omega),Xf1 (by omega),XgE (p:=0) (k:=4) (by omega) (by omega) (by omega) (by omega),XgE (p:=4) (k:=2) (by omega) (by omega) (by omega) (by omega)]
 simp only [Option.bind_some,show (0:Int).toNat=0 from rfl,show (4:Int).toNat=4 from rfl,show (2:Int).toNat=2 from rfl,List.drop_zero]
 rw [XcC (n:=((Xd0 (s.take 4):Nat):Int)) (by omega) (by omega),XcC (n:=((Xd0 ((s.drop 4).take 2):Nat):Int)) (by omega) (by omega)]
 have e1:((wI .i64 ((((Xd0 (s.take 4):Nat):Int)).tdiv 268435456)) !=6)=decide (Xd0 (s.take 4)/2^28≠6):=by
  rw [Int.tdiv_eq_ediv_of_nonneg (by omega),XcC (by omega) (by omega),Bool.eq_iff_iff,bne_iff_ne,decide_eq_true_eq];omega
 rw [e1]
 by_cases h6:Xd0 (s.take 4)/2^28≠6
 ·rw [XaV h6,if_pos h6];rfl
 rw [XaM h6,if_neg h6,XcC (n:=(s.length:Int) - 40) (by omega) (by omega)]
 by_cases hn:s.length - 40<Xd0 ((s.drop 4).take 2)
 ·rw [XaV (by omega),if_pos hn];rfl
 rw [XaM (by omega),if_neg hn,Xaz (by omega),Xpm (by simp;omega),Option.bind_some,Xaz (by omega),Xpm (by simp;omega),Option.bind_some,List.getElem?_eq_getElem (by omega:6<s.length),Option.bind_some,
  List.getElem?_eq_getElem (by omega:7<s.length),Option.bind_some,XcC (n:=40+((Xd0 ((s.drop 4).take 2):Nat):Int)) (by omega) (by omega),Xaz (by omega)]
 have b6:=s[6].toNat_lt
 have b7:=s[7].toNat_lt
 have e6:(s.drop 6).take 1=[s[6]]:=by rw [List.drop_eq_getElem_cons (by omega:6<s.length)];rfl
 have e7:(s.drop 7).take 1=[s[7]]:=by rw [List.drop_eq_getElem_cons (by omega:7<s.length)];rfl
 have e8:(40+((Xd0 ((s.drop 4).take 2):Nat):Int)).toNat - 40=Xd0 ((s.drop 4).take 2):=by omega
 unfold XDy
 simp only [e6,e7,e8,Xe6,XFk]
 rw [Int.tdiv_eq_ediv_of_nonneg (by omega),XcC (n:=((Xd0 (s.take 4):Nat):Int)/1048576) (by omega) (by omega),Int.tmod_eq_emod_of_nonneg (by omega),Int.tmod_eq_emod_of_nonneg (by omega),XcC (n:=(s[6].toNat:Int)) (by omega) (by omega),XcC (n:=(s[7].toNat:Int)) (by omega) (by omega)]
 simp
end Go.Vm.Code
namespace Go.Vm.Code
open Go Go.Vm Go.Proofs
set_option maxRecDepth 100000
set_option maxHeartbeats 4000000
set_option linter.unusedVariables false
def Xf8 (text:List UInt8) (i:Int) (c:List XbL):Option (Sum (Int×(List XbL)) ((List XbL)×Int)):=
 cond (decide (i<(text.length:Int)))
  (
  XaK (decide (0≤i)) <|
  (text[i.toNat]?).bind fun (b:UInt8)=>
  cond ((b.toNat:Int)==0)
   (
   some (.inr ((c,0))))
   (
   cond ((b.toNat:Int)==1)
    (
    some (.inl (wI .i64 (i+1),c)))
    (
    let t:=decide ((wI .i64 (i+1))<(text.length:Int))
    cond (t)
     (
     XaK (decide (0≤(wI .i64 (i+1)))) <|
     (text[(wI .i64 (i+1)).toNat]?).bind fun (b1:UInt8)=>
     cond (decide ((wI .i64 (b1.toNat:Int))<2))
      (
      some (.inr (([],3))))
      (
      let t1:=decide ((wI .i64 (b1.toNat:Int))>(wI .i64 ((text.length:Int) - i)))
      cond (t1)
       (
       some (.inr (([],3))))
       (
       XaK (decide (0≤i)) <|
       (text[i.toNat]?).bind fun (b2:UInt8)=>
       XaK (decide ((0:Int)≤(wI .i64 (i+(wI .i64 (b1.toNat:Int))))∧(wI .i64 (i+(wI .i64 (b1.toNat:Int))))≤(text.length:Int)∧(0:Int)≤(wI .i64 (i+2))∧(wI .i64 (i+2))≤((wI .i64 (i+(wI .i64 (b1.toNat:Int)))).toNat:Int))) <|
       let t2:=(text.drop (wI .i64 (i+2)).toNat).take ((wI .i64 (i+(wI .i64 (b1.toNat:Int)))).toNat - (wI .i64 (i+2)).toNat)
       cond (decide ((wI .i64 (i+2))<0))
        (
        some (.inr (([],3))))
        (
        XaK (decide ((c.length+1)*24≤2^47)) <|
        let row:=c++[XbL.mk (wI .i64 (b2.toNat:Int)) t2]
        some (.inl (wI .i64 (i+(wI .i64 (b1.toNat:Int))),row))))))
     (
     some (.inr (([],3)))))))
  (
  some (.inr ((c,0))))
def Xh0 (text:List UInt8):Option ((List XbL)×Int):=
 iter (fun st=>Xf8 text st.1 st.2) FUEL (0,[])
def XpU (x:(List XbL)×Int):Xco:=⟨.tuple ⟨[.slice (some ⟨0,0,none⟩) x.1.length 2,.int .i64 x.2]⟩,[(vT Xgp x.1)],[]⟩
def r102 (g:(List UInt8)→Option ((List XbL)×Int)):Dec:=dV asS fun (y0:List UInt8)=>Xc4 (ofG (g y0) XpU)
theorem XVC {g:(List UInt8)→Option ((List XbL)×Int)} {y0:List UInt8} {x:(List XbL)×Int} (hx:g y0=some x):r102 g [.string ⟨⟨y0⟩⟩] []=some (XpU x):=(XaS (XdJ)).trans (XaZ hx)
def XSG (g:(List UInt8)→Option ((List XbL)×Int)):Xbp:=⟨[.v],r102 g⟩
theorem Xup {g:(List UInt8)→Option ((List XbL)×Int)} {y0:List UInt8} {x:(List XbL)×Int} (hx:g y0=some x):(XSG g).run [.string ⟨⟨y0⟩⟩] []=some (XpU x):=XVC hx
abbrev Xp9:List (Nat×Xbp):=[]
def Xh7 (text:List UInt8) (i:Int) (c:List XbL):VM:=
 ⟨⟨125,62,[(0,.func (.yield 5) #[] #[]),(1,.pointer (some ⟨3,0,none⟩)),(3,.int .i64 i)],[.code Xmo,.inLoop Xmo,.inBlock 0],[],false,none⟩,[⟨102,18,[(2,.pointer (some ⟨0,0,none⟩)),(3,.pointer (some ⟨1,0,none⟩)),(4,.pointer (some ⟨2,0,none⟩))],[.inRangeFunc 5,.inBlock 0,.code Xtl],[4],false,none⟩],[(0,.cells [.slice none 0 0]),(1,.cells [.int .i64 0]),(2,.cells [.slice (some ⟨6,0,none⟩) c.length 2]),(3,.cells [.string ⟨⟨text⟩⟩]),(4,.marks),(5,.loop ⟨.ready,none,102,18,[(2,.pointer (some ⟨0,0,none⟩)),(3,.pointer (some ⟨1,0,none⟩)),(4,.pointer (some ⟨2,0,none⟩))],[8],Xzc,Xvw,4⟩),(6,.row true (vT Xgp c))],7⟩
theorem XuI (hS:Xai Tryz.prog (Xar (Xp9))) (text:List UInt8) (res:(List XbL)×Int):∀ fuel (st:Int×(List XbL)) (o:(List XbL)×Int),iter (fun st=>Xf8 text st.1 st.2) fuel st=some o→(o=res) →
 XaD Tryz.prog 102 0 (Xh7 text st.1 st.2) (fun v H t=>∃ v' H' t',XsI v H t v' H' t'∧Res 0 (XpU res) v' H'):=by
 intro fuel st o h hc
 refine Xcm (head:=fun st=>Xh7 text st.1 st.2) (C:=fun o=>(o=res)) ?_ fuel st o h hc
 clear h hc o st fuel
 intro st o h hc
 obtain ⟨i,c⟩:=st
 replace h:Xf8 text i c=some o:=h
 show XaD Tryz.prog 102 0 (Xh7 text i c) (fun v H t=>∃ v' H' t',XsI v H t v' H' t'∧Res 0 (XpU res) v' H')
 unfold Xf8 at h
 refine Xa9 Xam hS true 3000 ?_
 conv=>whnf
 refine br.h2 h ?_ ?_ ?_
 ·rfl
 ·clear h;intro hb h;conv=>whnf
  all_goals (cases h;cases hc)
  all_goals exact ⟨_,_,_,(.refl _ _ _),Res.of [6] rfl (Xr2 (XpV Xcb) (XiN rfl) XeZ) (by decide) (XsB (by decide) XeW) XeY⟩
 clear h;intro hb h;conv=>whnf
 replace h:=XaK.elim h;obtain ⟨hb,h⟩:=h
 first|(refine req.intro hb ?_;conv=>whnf)|skip
 replace h:=Xak.elim h;obtain ⟨b,hy,h⟩:=h
 refine rdS.intro hy ?_
 conv=>whnf
 refine br.h h ?_ ?_ ?_
 ·rfl
 ·clear h;intro hb h;conv=>whnf
  all_goals (cases h;cases hc)
  all_goals exact ⟨_,_,_,(.refl _ _ _),Res.of [6] rfl (Xr2 (XpV Xcb) (XiN rfl) XeZ) (by decide) (XsB (by decide) XeW) XeY⟩
 clear h;intro hb h;conv=>whnf
 refine br.h h ?_ ?_ ?_
 ·rfl
 ·clear h;intro hb h;conv=>whnf
  cases h;simp only [Sum.elim_inl,Xh7] at hc
  exact XxQ hc [(0,0),(1,1),(2,2),(3,3),(4,4),(5,5),(6,6)] rfl
 clear h;intro hb h;conv=>whnf
 let t:Bool:=decide ((wI .i64 (i+1))<(text.length:Int))
 refine br.h2 h ?_ ?_ ?_
 ·rfl
 ·clear h;intro hb h;conv=>whnf
  all_goals (cases h;cases hc)
  all_goals exact ⟨_,_,_,(.val (.tup (.cons (.nil _ _) (.cons (.same _) .nil))) (.refl _ _ _)),Res.of [8] rfl (Xr2 (XpV Xcb) (XiN rfl) XeZ) (by decide) (XsB (by decide) XeW) XeY⟩
 clear h;intro hb h;conv=>whnf
 replace h:=XaK.elim h;obtain ⟨hb,h⟩:=h
 first|(refine req.intro hb ?_;conv=>whnf)|skip
 replace h:=Xak.elim h;obtain ⟨b1,hy,h⟩:=h
 refine rdS.intro hy ?_
 conv=>whnf
 refine br.h h ?_ ?_ ?_
 ·rfl
 ·clear h;intro hb h;conv=>whnf
  all_goals (cases h;cases hc)
  all_goals exact ⟨_,_,_,(.val (.tup (.cons (.nil _ _) (.cons (.same _) .nil))) (.refl _ _ _)),Res.of [8] rfl (Xr2 (XpV Xcb) (XiN rfl) XeZ) (by decide) (XsB (by decide) XeW) XeY⟩
 clear h;intro hb h;conv=>whnf
 let t1:Bool:=decide ((wI .i64 (b1.toNat:Int))>(wI .i64 ((text.length:Int) - i)))
 refine br.h h ?_ ?_ ?_
 ·rfl
 ·clear h;intro hb h;conv=>whnf
  all_goals (cases h;cases hc)
  all_goals exact ⟨_,_,_,(.val (.tup (.cons (.nil _ _) (.cons (.same _) .nil))) (.refl _ _ _)),Res.of [8] rfl (Xr2 (XpV Xcb) (XiN rfl) XeZ) (by decide) (XsB (by decide) XeW) XeY⟩
 clear h;intro hb h;conv=>whnf
 replace h:=XaK.elim h;obtain ⟨hb,h⟩:=h
 first|(refine req.intro hb ?_;conv=>whnf)|skip
 replace h:=Xak.elim h;obtain ⟨b2,hy,h⟩:=h
 refine rdS.intro hy ?_
 conv=>whnf
 replace h:=XaK.elim h;obtain ⟨hb,h⟩:=h
 first|(refine req.intro hb ?_;conv=>whnf)|skip
 let t2:List UInt8:=(text.drop (wI .i64 (i+2)).toNat).take ((wI .i64 (i+(wI .i64 (b1.toNat:Int)))).toNat - (wI .i64 (i+2)).toNat)
 refine br.h h ?_ ?_ ?_
 ·rfl
 ·clear h;intro hb h;conv=>whnf
  all_goals (cases h;cases hc)
  all_goals exact ⟨_,_,_,(.val (.tup (.cons (.nil _ _) (.cons (.same _) .nil))) (.refl _ _ _)),Res.of [24] rfl (Xr2 (XpV Xcb) (XiN rfl) XeZ) (by decide) (XsB (by decide) XeW) XeY⟩
 clear h;intro hb h;conv=>whnf
 replace h:=XaK.elim h;obtain ⟨hb,h⟩:=h
 refine req.intro (XvN (of_decide_eq_true hb) (by first|rfl|omega|(simp;done)|(simp;omega)|(simp at *;omega)) rfl (by first|rfl|omega|(simp;done)|(simp;omega)|(simp at *;omega)) (by first|rfl|exact Xh5 _ _|exact XkF _|exact XkI _|exact XlD (by first|exact XdC|exact Xc9|exact XcM|exact Xce|exact XcB|exact Xcn|exact XcP|exact XdE|exact XdY|exact Xdw|exact Xdb|exact Xcj|exact Xdz|exact Xb3|exact Xa7|exact XdF|exact Xd1) _|(rw [Xgd];exact Xh5 _ _)|(simp [Xh5,XkF,XkI,Xlj,Xlb,XnT,Xn7];done)|(simp;exact List.all_eq_true.1 (XlD (by first|exact XdC|exact Xc9|exact XcM|exact Xce|exact XcB|exact Xcn|exact XcP|exact XdE|exact XdY|exact Xdw|exact Xdb|exact Xcj|exact Xdz|exact Xb3|exact Xa7|exact XdF|exact Xd1) _))) rfl) ?_
 conv=>whnf
 let row:List XbL:=c++[XbL.mk (wI .i64 (b2.toNat:Int)) t2]
 refine XBU Xhz (xs:=c) (ys:=[XbL.mk (wI .i64 (b2.toNat:Int)) t2]) rfl (by first|rfl|omega) (by first|rfl|omega|(simp;done)|(simp;omega)|(simp at *;omega)) (by first|rfl|omega|(simp;done)|(simp;omega)|(simp at *;omega)) ?_
 conv=>whnf
 cases h;simp only [Sum.elim_inl,Xh7] at hc
 exact XxQ hc [(0,0),(1,1),(2,2),(3,3),(4,4),(5,5),(6,25)] rfl
theorem XwS (hS:Xai Tryz.prog (Xar (Xp9))) (text:List UInt8) (res:(List XbL)×Int) (h:Xh0 text=some res) :
 XaD Tryz.prog 102 0 ⟨⟨102,18,[(0,.string ⟨⟨text⟩⟩)],[.code Xt9],[],false,none⟩,[],[],0⟩ (fun v H _=>Res 0 (XpU res) v H):=by
 refine XaD.nilW (R:=fun v' H'=>Res 0 (XpU res) v' H') ?_
 unfold Xh0 at h
 refine Xa9 Xam hS true 3000 ?_
 conv=>whnf
 have hl:=XuI hS _ res _ _ _ h rfl;simp only [Xh7] at hl
 refine XaD.nilC 2 0 2 ?_
 exact XxQ hl [(0,0),(1,1),(2,2),(3,3),(4,4),(5,5),(6,6)] rfl
theorem ok102 (hS:Xai Tryz.prog (Xar (Xp9))):Xan Tryz.prog 102 (XSG (Xh0)):=by
 refine Xan.Xau Xam (fun ar os r ha hr=>?_) ⟨Tryz.f102,rfl,by decide,rfl⟩
 replace hr:r102 (Xh0) ar (XaA os)=some r:=hr
 unfold r102 at hr
 generalize hc:XaA os=C at hr
 replace hr:=dV.elim hr;obtain ⟨v0,l1,y0,rfl,e0,hr⟩:=hr;obtain rfl:=Xb7 _ _ e0
 replace hr:=Xdf hr;obtain ⟨rfl,rfl,x,h,rfl⟩:=hr
 obtain rfl:=Xao hc
 exact ⟨_,rfl,XwS hS _ x h⟩
def XbJ:(List UInt8)→Option ((List XbL)×Int):=Xh0
theorem XuZ:Xan Tryz.prog 102 (XSG XbJ):=ok102 (Xai.XaW trivial)
def Xga (options:List UInt8) (i:Int) (out1:List XbD):Option (Sum (Int×(List XbD)) ((List XbD)×Int)):=
 cond (decide (i<(options.length:Int)))
  (
  XaK (decide (0≤i)) <|
  (options[i.toNat]?).bind fun (b:UInt8)=>
  cond ((b.toNat:Int) !=0)
   (
   XaK (decide (0≤i)) <|
   (options[i.toNat]?).bind fun (b1:UInt8)=>
   cond ((b1.toNat:Int)==1)
    (
    some (.inl (wI .i64 (i+1),out1)))
    (
    let t:=decide ((wI .i64 (i+1))≥(options.length:Int))
    cond (t)
     (
     some (.inr (([],3))))
     (
     XaK (decide (0≤(wI .i64 (i+1)))) <|
     (options[(wI .i64 (i+1)).toNat]?).bind fun (b2:UInt8)=>
     cond (decide ((b2.toNat:Int)<2))
      (
      some (.inr (([],3))))
      (
      XaK (decide (0≤(wI .i64 (i+1)))) <|
      (options[(wI .i64 (i+1)).toNat]?).bind fun (b3:UInt8)=>
      let t1:=decide ((wI .i64 (b3.toNat:Int))>(wI .i64 ((options.length:Int) - i)))
      cond (t1)
       (
       some (.inr (([],3))))
       (
       XaK (decide (0≤(wI .i64 (i+1)))) <|
       (options[(wI .i64 (i+1)).toNat]?).bind fun (b4:UInt8)=>
       XaK (decide (0≤i)) <|
       (options[i.toNat]?).bind fun (b5:UInt8)=>
       XaK (decide ((0:Int)≤(wI .i64 (i+(wI .i64 (b4.toNat:Int))))∧(wI .i64 (i+(wI .i64 (b4.toNat:Int))))≤(options.length:Int)∧(0:Int)≤(wI .i64 (i+2))∧(wI .i64 (i+2))≤((wI .i64 (i+(wI .i64 (b4.toNat:Int)))).toNat:Int))) <|
       let t2:=(options.drop (wI .i64 (i+2)).toNat).take ((wI .i64 (i+(wI .i64 (b4.toNat:Int)))).toNat - (wI .i64 (i+2)).toNat)
       XaK (decide ((out1.length+1)*32≤2^47)) <|
       let row:=out1++[XbD.mk (wI .i64 (b5.toNat:Int)) t2 (wI .i64 (i+2))]
       some (.inl (wI .i64 (i+(wI .i64 (b4.toNat:Int))),row)))))))
   (
   some (.inr ((out1,0)))))
  (
  some (.inr ((out1,0))))
def XhQ (options:List UInt8):Option ((List XbD)×Int):=
 iter (fun st=>Xga options st.1 st.2) FUEL (0,[])
def Xqz (x:(List XbD)×Int):Xco:=⟨.tuple ⟨[.slice (some ⟨0,0,none⟩) x.1.length 3,.int .i64 x.2]⟩,[(vT XfQ x.1)],[]⟩
def r101 (g:(List UInt8)→Option ((List XbD)×Int)):Dec:=dV asS fun (y0:List UInt8)=>Xc4 (ofG (g y0) Xqz)
theorem X0N {g:(List UInt8)→Option ((List XbD)×Int)} {y0:List UInt8} {x:(List XbD)×Int} (hx:g y0=some x):r101 g [.string ⟨⟨y0⟩⟩] []=some (Xqz x):=(XaS (XdJ)).trans (XaZ hx)
def X0t (g:(List UInt8)→Option ((List XbD)×Int)):Xbp:=⟨[.v],r101 g⟩
theorem XuK {g:(List UInt8)→Option ((List XbD)×Int)} {y0:List UInt8} {x:(List XbD)×Int} (hx:g y0=some x):(X0t g).run [.string ⟨⟨y0⟩⟩] []=some (Xqz x):=X0N hx
abbrev XqG:List (Nat×Xbp):=[]
def XhU (options:List UInt8) (i:Int) (out1:List XbD):VM:=
 ⟨⟨101,73,[(0,.string ⟨⟨options⟩⟩),(4,.slice (some ⟨0,0,none⟩) out1.length 3),(5,.int .i64 i)],[.code XpN,.inLoop XpN,.inBlock 0,.code Xuc],[],false,none⟩,[],[(0,.row true (vT XfQ out1))],1⟩
theorem XtU (hS:Xai Tryz.prog (Xar (XqG))) (options:List UInt8) (res:(List XbD)×Int):∀ fuel (st:Int×(List XbD)) (o:(List XbD)×Int),iter (fun st=>Xga options st.1 st.2) fuel st=some o→(o=res) →
 XaD Tryz.prog 101 0 (XhU options st.1 st.2) (fun v H t=>∃ v' H' t',XsI v H t v' H' t'∧Res 0 (Xqz res) v' H'):=by
 intro fuel st o h hc
 refine Xcm (head:=fun st=>XhU options st.1 st.2) (C:=fun o=>(o=res)) ?_ fuel st o h hc
 clear h hc o st fuel
 intro st o h hc
 obtain ⟨i,out1⟩:=st
 replace h:Xga options i out1=some o:=h
 show XaD Tryz.prog 101 0 (XhU options i out1) (fun v H t=>∃ v' H' t',XsI v H t v' H' t'∧Res 0 (Xqz res) v' H')
 unfold Xga at h
 refine Xa9 Xam hS true 3000 ?_
 conv=>whnf
 refine br.h2 h ?_ ?_ ?_
 ·rfl
 ·clear h;intro hb h;conv=>whnf
  all_goals (cases h;cases hc)
  all_goals exact ⟨_,_,_,(.refl _ _ _),Res.of [0] rfl (Xr2 (XpV Xct) (XiN rfl) XeZ) (by decide) (XsB (by decide) XeW) XeY⟩
 clear h;intro hb h;conv=>whnf
 replace h:=XaK.elim h;obtain ⟨hb,h⟩:=h
 first|(refine req.intro hb ?_;conv=>whnf)|skip
 replace h:=Xak.elim h;obtain ⟨b,hy,h⟩:=h
 refine rdS.intro hy ?_
 conv=>whnf
 refine br.h2 h ?_ ?_ ?_
 ·rfl
 ·clear h;intro hb h;conv=>whnf
  all_goals (cases h;cases hc)
  all_goals exact ⟨_,_,_,(.refl _ _ _),Res.of [0] rfl (Xr2 (XpV Xct) (XiN rfl) XeZ) (by decide) (XsB (by decide) XeW) XeY⟩
 clear h;intro hb h;conv=>whnf
 replace h:=XaK.elim h;obtain ⟨hb,h⟩:=h
 first|(refine req.intro hb ?_;conv=>whnf)|skip
 replace h:=Xak.elim h;obtain ⟨b1,hy,h⟩:=h
 refine rdS.intro hy ?_
 conv=>whnf
 refine br.h h ?_ ?_ ?_
 ·rfl
 ·clear h;intro hb h;conv=>whnf
  cases h;simp only [Sum.elim_inl,XhU] at hc
  exact Xkm hc [(0,0)] rfl
 clear h;intro hb h;conv=>whnf
 let t:Bool:=decide ((wI .i64 (i+1))≥(options.length:Int))
 refine br.h h ?_ ?_ ?_
 ·rfl
 ·clear h;intro hb h;conv=>whnf
  all_goals (cases h;cases hc)
  all_goals exact ⟨_,_,_,(.val (.tup (.cons (.nil _ _) (.cons (.same _) .nil))) (.refl _ _ _)),Res.of [1] rfl (Xr2 (XpV Xct) (XiN rfl) XeZ) (by decide) (XsB (by decide) XeW) XeY⟩
 clear h;intro hb h;conv=>whnf
 replace h:=XaK.elim h;obtain ⟨hb,h⟩:=h
 first|(refine req.intro hb ?_;conv=>whnf)|skip
 replace h:=Xak.elim h;obtain ⟨b2,hy,h⟩:=h
 refine rdS.intro hy ?_
 conv=>whnf
 refine br.h h ?_ ?_ ?_
 ·rfl
 ·clear h;intro hb h;conv=>whnf
  all_goals (cases h;cases hc)
  all_goals exact ⟨_,_,_,(.val (.tup (.cons (.nil _ _) (.cons (.same _) .nil))) (.refl _ _ _)),Res.of [1] rfl (Xr2 (XpV Xct) (XiN rfl) XeZ) (by decide) (XsB (by decide) XeW) XeY⟩
 clear h;intro hb h;conv=>whnf
 replace h:=XaK.elim h;obtain ⟨hb,h⟩:=h
 first|(refine req.intro hb ?_;conv=>whnf)|skip
 replace h:=Xak.elim h;obtain ⟨b3,hy,h⟩:=h
 refine rdS.intro hy ?_
 conv=>whnf
 let t1:Bool:=decide ((wI .i64 (b3.toNat:Int))>(wI .i64 ((options.length:Int) - i)))
 refine br.h h ?_ ?_ ?_
 ·rfl
 ·clear h;intro hb h;conv=>whnf
  all_goals (cases h;cases hc)
  all_goals exact ⟨_,_,_,(.val (.tup (.cons (.nil _ _) (.cons (.same _) .nil))) (.refl _ _ _)),Res.of [1] rfl (Xr2 (XpV Xct) (XiN rfl) XeZ) (by decide) (XsB (by decide) XeW) XeY⟩
 clear h;intro hb h;conv=>whnf
 replace h:=XaK.elim h;obtain ⟨hb,h⟩:=h
 first|(refine req.intro hb ?_;conv=>whnf)|skip
 replace h:=Xak.elim h;obtain ⟨b4,hy,h⟩:=h
 refine rdS.intro hy ?_
 conv=>whnf
 replace h:=XaK.elim h;obtain ⟨hb,h⟩:=h
 first|(refine req.intro hb ?_;conv=>whnf)|skip
 replace h:=Xak.elim h;obtain ⟨b5,hy,h⟩:=h
 refine rdS.intro hy ?_
 conv=>whnf
 replace h:=XaK.elim h;obtain ⟨hb,h⟩:=h
 first|(refine req.intro hb ?_;conv=>whnf)|skip
 let t2:List UInt8:=(options.drop (wI .i64 (i+2)).toNat).take ((wI .i64 (i+(wI .i64 (b4.toNat:Int)))).toNat - (wI .i64 (i+2)).toNat)
 replace h:=XaK.elim h;obtain ⟨hb,h⟩:=h
 refine req.intro (XvN (of_decide_eq_true hb) (by first|rfl|omega|(simp;done)|(simp;omega)|(simp at *;omega)) rfl (by first|rfl|omega|(simp;done)|(simp;omega)|(simp at *;omega)) (by first|rfl|exact Xh5 _ _|exact XkF _|exact XkI _|exact XlD (by first|exact XdC|exact Xc9|exact XcM|exact Xce|exact XcB|exact Xcn|exact XcP|exact XdE|exact XdY|exact Xdw|exact Xdb|exact Xcj|exact Xdz|exact Xb3|exact Xa7|exact XdF|exact Xd1) _|(rw [Xgd];exact Xh5 _ _)|(simp [Xh5,XkF,XkI,Xlj,Xlb,XnT,Xn7];done)|(simp;exact List.all_eq_true.1 (XlD (by first|exact XdC|exact Xc9|exact XcM|exact Xce|exact XcB|exact Xcn|exact XcP|exact XdE|exact XdY|exact Xdw|exact Xdb|exact Xcj|exact Xdz|exact Xb3|exact Xa7|exact XdF|exact Xd1) _))) rfl) ?_
 conv=>whnf
 let row:List XbD:=out1++[XbD.mk (wI .i64 (b5.toNat:Int)) t2 (wI .i64 (i+2))]
 refine XBU Xdy (xs:=out1) (ys:=[XbD.mk (wI .i64 (b5.toNat:Int)) t2 (wI .i64 (i+2))]) rfl (by first|rfl|omega) (by first|rfl|omega|(simp;done)|(simp;omega)|(simp at *;omega)) (by first|rfl|omega|(simp;done)|(simp;omega)|(simp at *;omega)) ?_
 conv=>whnf
 cases h;simp only [Sum.elim_inl,XhU] at hc
 exact Xkm hc [(0,18)] rfl
theorem Xyx (hS:Xai Tryz.prog (Xar (XqG))) (options:List UInt8) (res:(List XbD)×Int) (h:XhQ options=some res) :
 XaD Tryz.prog 101 0 ⟨⟨101,73,[(0,.string ⟨⟨options⟩⟩)],[.code XtV],[],false,none⟩,[],[],0⟩ (fun v H _=>Res 0 (Xqz res) v H):=by
 refine XaD.nilW (R:=fun v' H'=>Res 0 (Xqz res) v' H') ?_
 unfold XhQ at h
 refine Xa9 Xam hS true 3000 ?_
 conv=>whnf
 have hl:=XtU hS _ res _ _ _ h rfl;simp only [XhU] at hl
 refine XaD.nilT 4 3 ?_
 exact Xkm hl [(0,0)] rfl
theorem ok101 (hS:Xai Tryz.prog (Xar (XqG))):Xan Tryz.prog 101 (X0t (XhQ)):=by
 refine Xan.Xau Xam (fun ar os r ha hr=>?_) ⟨Tryz.f101,rfl,by decide,rfl⟩
 replace hr:r101 (XhQ) ar (XaA os)=some r:=hr
 unfold r101 at hr
 generalize hc:XaA os=C at hr
 replace hr:=dV.elim hr;obtain ⟨v0,l1,y0,rfl,e0,hr⟩:=hr;obtain rfl:=Xb7 _ _ e0
 replace hr:=Xdf hr;obtain ⟨rfl,rfl,x,h,rfl⟩:=hr
 obtain rfl:=Xao hc
 exact ⟨_,rfl,Xyx hS _ x h⟩
def XbI:(List UInt8)→Option ((List XbD)×Int):=XhQ
theorem XuT:Xan Tryz.prog 101 (X0t XbI):=ok101 (Xai.XaW trivial)
end Go.Vm.Code
namespace Go.Vm.Code
open Go Go.Vm
structure XvC where
 Kind:Int
 Data:List UInt8
 At:Int
def toR (o:XvC):XbD:=⟨o.Kind,o.Data,o.At⟩
def ofR (o:XbD):XvC:=⟨o.Kind,o.Data,o.At⟩
theorem Xuu (c:List XbD):(c.map ofR).map toR=c:=by
 rw [List.map_map,show toR∘ofR=id from rfl,List.map_id]
def XhL (s:List UInt8):Nat→Nat→List XvC→List XvC×Int
 | 0,_,out=>(out,0)
 | n+1,i,out=>match s[i]? with
   | none=>(out,0)
   | some b=>if b=0 then (out,0) else if b=1 then XhL s n (i+1) out else match s[i+1]? with
     | none=>([],3)
     | some k=>if k.toNat<2 then ([],3) else if s.length - i<k.toNat then ([],3) else
        XhL s (n+1 - k.toNat) (i+k.toNat) (out++[⟨(b.toNat:Int),(s.drop (i+2)).take (k.toNat - 2),((i+2:Nat):Int)⟩])
termination_by n=>n
decreasing_by all_goals omega
def Xk0 (s:List UInt8):List XvC×Int:=XhL s s.length 0 []
def strip (o:XvC):XbL:=⟨o.Kind,o.Data⟩
theorem X5n {s:List UInt8} (hs:s.length<2^20):XbI s=some ((Xk0 s).1.map toR,(Xk0 s).2):=by
 unfold XbI XhQ Xk0
 have key:=iter_eq (step:=fun (st:Int×List XbD)=>Xga s st.1 st.2) (fun st=>((XhL s (s.length - st.1.toNat) st.1.toNat (st.2.map ofR)).1.map toR,(XhL s (s.length - st.1.toNat) st.1.toNat (st.2.map ofR)).2)) (fun st=>0≤st.1∧st.1≤s.length∧(st.2.length:Int)≤st.1) (fun st=>s.length - st.1.toNat) ?_ FUEL (0,[]) ⟨by simp,by simp,by simp⟩ (by rw [XeV];simp only;omega)
 ·rw [key];rfl
 rintro ⟨p,out⟩ ⟨g1,g2,g3⟩
 simp only at g1 g2 g3 ⊢
 obtain ⟨i,rfl⟩:=Int.eq_ofNat_of_zero_le g1
 simp only [Int.toNat_natCast]
 unfold Xga
 by_cases hi:i<s.length
 ·obtain ⟨n,hn⟩:∃ n,s.length - i=n+1:=⟨s.length - i - 1,by omega⟩
  have e:s[i]?=some s[i]:=List.getElem?_eq_getElem hi
  rw [XaV (by omega),Xaz (by omega),Int.toNat_natCast,e,Option.bind_some,hn,XhL,e]
  by_cases h0:s[i]=0
  ·refine .inl ?_
   rw [show ((s[i].toNat:Int) !=0)=false by rw [h0];rfl,cond_false]
   simp only [h0,if_true,Xuu]
  rw [show ((s[i].toNat:Int) !=0)=true by simp;intro hx;exact h0 (UInt8.toNat_inj.1 (by simpa using hx)),cond_true,Xaz (by omega),Option.bind_some]
  simp only [if_neg h0]
  by_cases h1:s[i]=1
  ·refine .inr ⟨(((i+1:Nat):Int),out),?_,⟨by simp only;omega,by simp only;omega,by simp only;omega⟩,by simp only;omega,?_⟩
   ·rw [show ((s[i].toNat:Int)==1)=true by rw [h1];rfl,cond_true,XcC (by omega) (by omega)];rfl
   ·simp only [Int.toNat_natCast,if_pos h1]
    rw [show s.length - (i+1)=n by omega]
  rw [show ((s[i].toNat:Int)==1)=false by simp;intro hx;exact h1 (UInt8.toNat_inj.1 (by simp;omega)),cond_false]
  simp only [if_neg h1]
  rw [XcC (n:=(i:Int)+1) (by omega) (by omega)]
  by_cases h2:s.length≤i+1
  ·refine .inl ?_
   rw [XaV (by omega),List.getElem?_eq_none (by omega)];rfl
  have hi1:i+1<s.length:=by omega
  have e1:s[i+1]?=some s[i+1]:=List.getElem?_eq_getElem hi1
  have b1:=s[i+1].toNat_lt
  rw [XaM (by omega),show ((i:Int)+1).toNat=i+1 by omega,e1,Xaz (by omega),Option.bind_some]
  simp only [Option.bind_some]
  by_cases h3:s[i+1].toNat<2
  ·refine .inl ?_
   rw [XaV (by omega),if_pos h3];rfl
  rw [XaM (by omega),if_neg h3,Xaz (by omega),XcC (n:=(s[i+1].toNat:Int)) (by omega) (by omega),XcC (n:=(s.length:Int) - i) (by omega) (by omega)]
  by_cases h4:s.length - i<s[i+1].toNat
  ·refine .inl ?_
   rw [XaV (by omega),if_pos h4];rfl
  refine .inr ⟨(((i+s[i+1].toNat:Nat):Int),out++[⟨(s[i].toNat:Int),(s.drop (i+2)).take (s[i+1].toNat - 2),((i+2:Nat):Int)⟩]),?_,⟨by simp only;omega,by simp only;omega,by simp;omega⟩,by simp only;omega,?_⟩
  ·have b0:=s[i].toNat_lt
   rw [XaM (by omega),Xaz (by omega),Xaz (by omega),XcC (n:=(i:Int)+s[i+1].toNat) (by omega) (by omega),XcC (n:=(i:Int)+2) (by omega) (by omega),XcC (n:=(s[i].toNat:Int)) (by omega) (by omega),Xaz (by omega),Xaz (by omega),show ((i:Int)+s[i+1].toNat).toNat - ((i:Int)+2).toNat=s[i+1].toNat - 2 by omega,show ((i:Int)+2).toNat=i+2 by omega];rfl
  ·rw [if_neg h4]
   simp only [Int.toNat_natCast]
   rw [show s.length - (i+s[i+1].toNat)=n+1 - s[i+1].toNat by omega,List.map_append];rfl
 ·refine .inl ?_
  rw [XaM (by omega),show s.length - i=0 by omega,XhL,Xuu]
theorem XrY (s:List UInt8):∀ (n i:Nat) (o1 o2:List XvC),o1.map strip=o2.map strip→(XhL s n i o1).1.map strip=(XhL s n i o2).1.map strip∧(XhL s n i o1).2=(XhL s n i o2).2:=by
 intro n
 induction n using Nat.strongRecOn with
 | ind n ih=>
   intro i o1 o2 h
   cases n with
   | zero=>rw [XhL,XhL];exact ⟨h,rfl⟩
   | succ n=>
     rw [XhL,XhL]
     split
     ·exact ⟨h,rfl⟩
     split
     ·exact ⟨h,rfl⟩
     split
     ·exact ih n (by omega) _ _ _ h
     split
     ·exact ⟨rfl,rfl⟩
     split
     ·exact ⟨rfl,rfl⟩
     split
     ·exact ⟨rfl,rfl⟩
     exact ih _ (by omega) _ _ _ (by simp [h,strip])
def Xki (o:XbL):XvC:=⟨o.Kind,o.Data,0⟩
theorem Xrm (c:List XbL):(c.map Xki).map strip=c:=by
 rw [List.map_map,show strip∘Xki=id from rfl,List.map_id]
theorem XZ6 {s:List UInt8} (hs:s.length<2^20):XbJ s=some ((Xk0 s).1.map strip,(Xk0 s).2):=by
 unfold XbJ Xh0 Xk0
 have key:=iter_eq (step:=fun (st:Int×List XbL)=>Xf8 s st.1 st.2) (fun st=>((XhL s (s.length - st.1.toNat) st.1.toNat (st.2.map Xki)).1.map strip,(XhL s (s.length - st.1.toNat) st.1.toNat (st.2.map Xki)).2)) (fun st=>0≤st.1∧st.1≤s.length∧(st.2.length:Int)≤st.1) (fun st=>s.length - st.1.toNat) ?_ FUEL (0,[]) ⟨by simp,by simp,by simp⟩ (by rw [XeV];simp only;omega)
 ·rw [key];rfl
 rintro ⟨p,out⟩ ⟨g1,g2,g3⟩
 simp only at g1 g2 g3 ⊢
 obtain ⟨i,rfl⟩:=Int.eq_ofNat_of_zero_le g1
 simp only [Int.toNat_natCast]
 unfold Xf8
 by_cases hi:i<s.length
 ·obtain ⟨n,hn⟩:∃ n,s.length - i=n+1:=⟨s.length - i - 1,by omega⟩
  have e:s[i]?=some s[i]:=List.getElem?_eq_getElem hi
  rw [XaV (by omega),Xaz (by omega),Int.toNat_natCast,e,Option.bind_some,hn,XhL,e]
  by_cases h0:s[i]=0
  ·refine .inl ?_
   rw [show ((s[i].toNat:Int)==0)=true by rw [h0];rfl,cond_true]
   simp only [h0,if_true,Xrm]
  rw [show ((s[i].toNat:Int)==0)=false by simp;intro hx;exact h0 (UInt8.toNat_inj.1 (by simpa using hx)),cond_false]
  simp only [if_neg h0]
  by_cases h1:s[i]=1
  ·refine .inr ⟨(((i+1:Nat):Int),out),?_,⟨by simp only;omega,by simp only;omega,by simp only;omega⟩,by simp only;omega,?_⟩
   ·rw [show ((s[i].toNat:Int)==1)=true by rw [h1];rfl,cond_true,XcC (by omega) (by omega)];rfl
   ·simp only [Int.toNat_natCast,if_pos h1]
    rw [show s.length - (i+1)=n by omega]
  rw [show ((s[i].toNat:Int)==1)=false by simp;intro hx;exact h1 (UInt8.toNat_inj.1 (by simp;omega)),cond_false]
  simp only [if_neg h1]
  rw [XcC (n:=(i:Int)+1) (by omega) (by omega)]
  by_cases h2:s.length≤i+1
  ·refine .inl ?_
   rw [XaM (by omega),List.getElem?_eq_none (by omega)];rfl
  have hi1:i+1<s.length:=by omega
  have e1:s[i+1]?=some s[i+1]:=List.getElem?_eq_getElem hi1
  have b1:=s[i+1].toNat_lt
  rw [XaV (by omega),show ((i:Int)+1).toNat=i+1 by omega,e1,Xaz (by omega),Option.bind_some]
  simp only [Option.bind_some]
  rw [XcC (n:=(s[i+1].toNat:Int)) (by omega) (by omega)]
  by_cases h3:s[i+1].toNat<2
  ·refine .inl ?_
   rw [XaV (by omega),if_pos h3];rfl
  rw [XaM (by omega),if_neg h3,XcC (n:=(s.length:Int) - i) (by omega) (by omega)]
  by_cases h4:s.length - i<s[i+1].toNat
  ·refine .inl ?_
   rw [XaV (by omega),if_pos h4];rfl
  refine .inr ⟨(((i+s[i+1].toNat:Nat):Int),out++[⟨(s[i].toNat:Int),(s.drop (i+2)).take (s[i+1].toNat - 2)⟩]),?_,⟨by simp only;omega,by simp only;omega,by simp;omega⟩,by simp only;omega,?_⟩
  ·have b0:=s[i].toNat_lt
   rw [XaM (by omega),Xaz (by omega),XcC (n:=(i:Int)+s[i+1].toNat) (by omega) (by omega),XcC (n:=(i:Int)+2) (by omega) (by omega),XcC (n:=(s[i].toNat:Int)) (by omega) (by omega),Xaz (by omega),XaM (by omega),Xaz (by omega),show ((i:Int)+s[i+1].toNat).toNat - ((i:Int)+2).toNat=s[i+1].toNat - 2 by omega,show ((i:Int)+2).toNat=i+2 by omega];rfl
  ·rw [if_neg h4]
   simp only [Int.toNat_natCast]
   rw [show s.length - (i+s[i+1].toNat)=n+1 - s[i+1].toNat by omega]
   have:=XrY s (n+1 - s[i+1].toNat) (i+s[i+1].toNat) ((out++[(⟨(s[i].toNat:Int),(s.drop (i+2)).take (s[i+1].toNat - 2)⟩:XbL)]).map Xki) (out.map Xki++[(⟨(s[i].toNat:Int),(s.drop (i+2)).take (s[i+1].toNat - 2),((i+2:Nat):Int)⟩:XvC)]) (by simp [strip,Xki])
   rw [this.1,this.2]
 ·refine .inl ?_
  rw [XaM (by omega),show s.length - i=0 by omega,XhL,Xrm]
theorem Xrt {A B:List UInt8} {p:Nat} {c:Int} (hA:A.length=p):XpI (A++(be 0 2++B)) (p:Int) 2 c=A++(be c.toNat 2++B):=by
 subst hA
 unfold XpI
 rw [if_pos (by simp only [List.length_append,XrK];omega),Int.toNat_natCast,List.take_left,show ((A.length:Int)+2).toNat=A.length+2 by omega,←List.drop_drop,List.drop_left,show (be 0 2++B).drop 2=B from rfl,List.append_assoc];rfl
def ckN (W:Nat):Nat:=65535 - norm W
theorem X3R (a b:Nat) (hb:b<256):be (a*256+b) 2=be a 1++be b 1:=by
 rw [XnD _ 1 1,show (256:Nat)^1=256 from rfl,show (a*256+b)/256=a by omega,←Xq7 (a*256+b) 1,show (256:Nat)^1=256 from rfl,show (a*256+b)%256=b by omega]
end Go.Vm.Code
namespace Go.Vm.Code
open Go Go.Vm Go.Proofs
set_option maxRecDepth 100000
set_option maxHeartbeats 4000000
set_option linter.unusedVariables false
def Xf6 (Xaw:(List UInt8)→Option Xab) (Xad:Xab→Int→Option (Int×Xab)) (Xac:Xab→Int→Option ((List UInt8)×Xab)) (s:List UInt8) (size:Int):Option XaF:=
 (Xaw s).bind fun n=>
 (Xad n 2).bind fun n1=>
 (Xad n1.2 2).bind fun n2=>
 (Xad n2.2 4).bind fun n3=>
 (Xad n3.2 4).bind fun n4=>
 (Xad n4.2 2).bind fun n5=>
 (Xad n5.2 2).bind fun n6=>
 (Xad n6.2 2).bind fun n7=>
 (Xad n7.2 2).bind fun n8=>
 (Xac n8.2 (wI .i64 (size - 20))).bind fun t=>
 some (XaF.mk n1.1 n2.1 (wI .u32 n3.1) (wI .u32 n4.1) (XjC .i64 n5.1 255) n6.1 n8.1 t.1)
def XxP (x:XaF):Xco:=⟨.agg ⟨[.int .i64 x.SPort,.int .i64 x.DPort,.int .u32 x.Seq,.int .u32 x.Ack,.int .i64 x.Flags,.int .i64 x.Window,.int .i64 x.Urgent,.string ⟨⟨x.Options⟩⟩]⟩,[],[]⟩
def r132 (g:(List UInt8)→Int→Option XaF):Dec:=dV asS fun (y0:List UInt8)=>dV (asI .i64) fun (y1:Int)=>Xc4 (ofG (g y0 y1) XxP)
theorem XUa {g:(List UInt8)→Int→Option XaF} {y0:List UInt8} {y1:Int} {x:XaF} (hx:g y0 y1=some x):r132 g [.string ⟨⟨y0⟩⟩,.int .i64 y1] []=some (XxP x):=(XaS (XdJ)).trans ((XaS (XcI _)).trans (XaZ hx))
def s132 (g:(List UInt8)→Int→Option XaF):Xbp:=⟨[.v,.v],r132 g⟩
theorem XC5 {g:(List UInt8)→Int→Option XaF} {y0:List UInt8} {y1:Int} {x:XaF} (hx:g y0 y1=some x):(s132 g).run [.string ⟨⟨y0⟩⟩,.int .i64 y1] []=some (XxP x):=XUa hx
abbrev Xua (Xaw:(List UInt8)→Option Xab) (Xad:Xab→Int→Option (Int×Xab)) (Xac:Xab→Int→Option ((List UInt8)×Xab)):List (Nat×Xbp):=[(61,s61 Xaw),(62,s62 Xad),(64,s64 Xac)]
theorem XwN (Xaw:(List UInt8)→Option Xab) (Xad:Xab→Int→Option (Int×Xab)) (Xac:Xab→Int→Option ((List UInt8)×Xab)) (hS:Xai Tryz.prog (Xar (Xua Xaw Xad Xac))) (s:List UInt8) (size:Int) (res:XaF) (h:Xf6 Xaw Xad Xac s size=some res) :
 XaD Tryz.prog 132 0 ⟨⟨132,38,[(0,.string ⟨⟨s⟩⟩),(1,.int .i64 size)],[.code XuD],[],false,none⟩,[],[],0⟩ (fun v H _=>Res 0 (XxP res) v H):=by
 unfold Xf6 at h
 refine Xa9 Xam hS true 3000 ?_
 conv=>whnf
 replace h:=Xak.elim h;obtain ⟨n,hy,h⟩:=h
 refine XaG.Xba [1] (Xat (aqs:=[.string ⟨⟨s⟩⟩]) (ws:=[]) (n:=1) (m:=0) (t':=2) (Xas rfl rfl Xbd) rfl (by rfl) (Xpf hy) rfl rfl rfl rfl Xbc (XhO (rfl) Xbb) rfl) ?_
 conv=>whnf
 replace h:=Xak.elim h;obtain ⟨n1,hy,h⟩:=h
 refine XaG.Xba [1] (Xat (aqs:=[.pointer (some ⟨0,0,none⟩),.int .i64 2]) (ws:=[.win 1 0 3 true]) (n:=0) (m:=0) (t':=2) (Xas rfl rfl (Xas rfl rfl Xbd)) rfl (by rfl) (XdR hy) rfl rfl rfl rfl (XbK rfl rfl rfl ⟨rfl,Nat.le_of_ble_eq_true rfl⟩ rfl rfl Xbc) Xbb rfl) ?_
 conv=>whnf
 replace h:=Xak.elim h;obtain ⟨n2,hy,h⟩:=h
 refine XaG.Xba [1] (Xat (aqs:=[.pointer (some ⟨0,0,none⟩),.int .i64 2]) (ws:=[.win 1 0 3 true]) (n:=0) (m:=0) (t':=2) (Xas rfl rfl (Xas rfl rfl Xbd)) rfl (by rfl) (XdR hy) rfl rfl rfl rfl (XbK rfl rfl rfl ⟨rfl,Nat.le_of_ble_eq_true rfl⟩ rfl rfl Xbc) Xbb rfl) ?_
 conv=>whnf
 replace h:=Xak.elim h;obtain ⟨n3,hy,h⟩:=h
 refine XaG.Xba [1] (Xat (aqs:=[.pointer (some ⟨0,0,none⟩),.int .i64 4]) (ws:=[.win 1 0 3 true]) (n:=0) (m:=0) (t':=2) (Xas rfl rfl (Xas rfl rfl Xbd)) rfl (by rfl) (XdR hy) rfl rfl rfl rfl (XbK rfl rfl rfl ⟨rfl,Nat.le_of_ble_eq_true rfl⟩ rfl rfl Xbc) Xbb rfl) ?_
 conv=>whnf
 replace h:=Xak.elim h;obtain ⟨n4,hy,h⟩:=h
 refine XaG.Xba [1] (Xat (aqs:=[.pointer (some ⟨0,0,none⟩),.int .i64 4]) (ws:=[.win 1 0 3 true]) (n:=0) (m:=0) (t':=2) (Xas rfl rfl (Xas rfl rfl Xbd)) rfl (by rfl) (XdR hy) rfl rfl rfl rfl (XbK rfl rfl rfl ⟨rfl,Nat.le_of_ble_eq_true rfl⟩ rfl rfl Xbc) Xbb rfl) ?_
 conv=>whnf
 replace h:=Xak.elim h;obtain ⟨n5,hy,h⟩:=h
 refine XaG.Xba [1] (Xat (aqs:=[.pointer (some ⟨0,0,none⟩),.int .i64 2]) (ws:=[.win 1 0 3 true]) (n:=0) (m:=0) (t':=3) (Xas rfl rfl (Xas rfl rfl Xbd)) rfl (by rfl) (XdR hy) rfl rfl rfl rfl (XbK rfl rfl rfl ⟨rfl,Nat.le_of_ble_eq_true rfl⟩ rfl rfl Xbc) Xbb rfl) ?_
 conv=>whnf
 replace h:=Xak.elim h;obtain ⟨n6,hy,h⟩:=h
 refine XaG.Xba [1] (Xat (aqs:=[.pointer (some ⟨0,0,none⟩),.int .i64 2]) (ws:=[.win 1 0 3 true]) (n:=0) (m:=0) (t':=3) (Xas rfl rfl (Xas rfl rfl Xbd)) rfl (by rfl) (XdR hy) rfl rfl rfl rfl (XbK rfl rfl rfl ⟨rfl,Nat.le_of_ble_eq_true rfl⟩ rfl rfl Xbc) Xbb rfl) ?_
 conv=>whnf
 replace h:=Xak.elim h;obtain ⟨n7,hy,h⟩:=h
 refine XaG.Xba [1] (Xat (aqs:=[.pointer (some ⟨0,0,none⟩),.int .i64 2]) (ws:=[.win 1 0 3 true]) (n:=0) (m:=0) (t':=3) (Xas rfl rfl (Xas rfl rfl Xbd)) rfl (by rfl) (XdR hy) rfl rfl rfl rfl (XbK rfl rfl rfl ⟨rfl,Nat.le_of_ble_eq_true rfl⟩ rfl rfl Xbc) Xbb rfl) ?_
 conv=>whnf
 replace h:=Xak.elim h;obtain ⟨n8,hy,h⟩:=h
 refine XaG.Xba [1] (Xat (aqs:=[.pointer (some ⟨0,0,none⟩),.int .i64 2]) (ws:=[.win 1 0 3 true]) (n:=0) (m:=0) (t':=3) (Xas rfl rfl (Xas rfl rfl Xbd)) rfl (by rfl) (XdR hy) rfl rfl rfl rfl (XbK rfl rfl rfl ⟨rfl,Nat.le_of_ble_eq_true rfl⟩ rfl rfl Xbc) Xbb rfl) ?_
 conv=>whnf
 replace h:=Xak.elim h;obtain ⟨t,hy,h⟩:=h
 refine XaG.Xba [1] (Xat (aqs:=[.pointer (some ⟨0,0,none⟩),.int .i64 (wI .i64 (size - 20))]) (ws:=[.win 1 0 3 true]) (n:=0) (m:=0) (t':=3) (Xas rfl rfl (Xas rfl rfl Xbd)) rfl (by rfl) (Xhy hy) rfl rfl rfl rfl (XbK rfl rfl rfl ⟨rfl,Nat.le_of_ble_eq_true rfl⟩ rfl rfl Xbc) Xbb rfl) ?_
 conv=>whnf
 all_goals (cases h;exact Res.z rfl rfl rfl)
theorem ok132 (Xaw:(List UInt8)→Option Xab) (Xad:Xab→Int→Option (Int×Xab)) (Xac:Xab→Int→Option ((List UInt8)×Xab)) (hS:Xai Tryz.prog (Xar (Xua Xaw Xad Xac))):Xan Tryz.prog 132 (s132 (Xf6 Xaw Xad Xac)):=by
 refine Xan.Xau Xam (fun ar os r ha hr=>?_) ⟨Tryz.f132,rfl,by decide,rfl⟩
 replace hr:r132 (Xf6 Xaw Xad Xac) ar (XaA os)=some r:=hr
 unfold r132 at hr
 generalize hc:XaA os=C at hr
 replace hr:=dV.elim hr;obtain ⟨v0,l1,y0,rfl,e0,hr⟩:=hr;obtain rfl:=Xb7 _ _ e0
 replace hr:=dV.elim hr;obtain ⟨v1,l2,y1,rfl,e1,hr⟩:=hr;obtain rfl:=XbO _ _ _ e1
 replace hr:=Xdf hr;obtain ⟨rfl,rfl,x,h,rfl⟩:=hr
 obtain rfl:=Xao hc
 exact ⟨_,rfl,XwN Xaw Xad Xac hS _ _ x h⟩
def Xcl:(List UInt8)→Int→Option XaF:=Xf6 Xaw Xad Xac
theorem XEP:Xan Tryz.prog 132 (s132 Xcl):=ok132 Xaw Xad Xac (Xai.XaW ⟨Xph,Xnn,XlK,trivial⟩)
def Xjt (XaB:(List UInt8)→Option Bool) (Xav:Xaa→Xaa→Int→Int→Option (List UInt8)) (XbJ:(List UInt8)→Option ((List XbL)×Int)) (Xcl:(List UInt8)→Int→Option XaF) (s:List UInt8) (src:Xaa) (dst:Xaa):Option (XaF×(List UInt8)×Int):=
 cond (decide ((s.length:Int)<20))
  (
  some ((XaF.mk 0 0 0 0 0 0 0 [],[],2)))
  (
  (s[12]?).bind fun (b:UInt8)=>
  (s[12]?).bind fun (b1:UInt8)=>
  let t:=wI .i64 (4*(wI .i64 ((b.toNat:Int).fdiv (2^4))))
  cond (decide (t<20))
   (
   some ((XaF.mk 0 0 0 0 0 0 0 [],[],3)))
   (
   cond ((XjC .u8 (b1.toNat:Int) 15) !=0)
    (
    some ((XaF.mk 0 0 0 0 0 0 0 [],[],3)))
    (
    cond (decide (t>(s.length:Int)))
     (
     some ((XaF.mk 0 0 0 0 0 0 0 [],[],2)))
     (
     (Xav src dst 6 (s.length:Int)).bind fun p=>
     cond (p==[])
      (
      some ((XaF.mk 0 0 0 0 0 0 0 [],[],1)))
      (
      XaK (decide (p.length+s.length<2^63)) <|
      (XaB (p++s)).bind fun xr=>
      cond (!xr)
       (
       some ((XaF.mk 0 0 0 0 0 0 0 [],[],4)))
       (
       (Xcl s t).bind fun p1=>
       (XbJ p1.Options).bind fun l=>
       cond (l.2 !=0)
        (
        some ((XaF.mk 0 0 0 0 0 0 0 [],[],l.2)))
        (
        XaK (decide ((0:Int)≤t∧t≤(s.length:Int))) <|
        let t1:=(s.drop t.toNat).take (s.length - t.toNat)
        some ((p1,t1,0)))))))))
def XwH (x:XaF×(List UInt8)×Int):Xco:=⟨.tuple ⟨[.agg ⟨[.int .i64 x.1.SPort,.int .i64 x.1.DPort,.int .u32 x.1.Seq,.int .u32 x.1.Ack,.int .i64 x.1.Flags,.int .i64 x.1.Window,.int .i64 x.1.Urgent,.string ⟨⟨x.1.Options⟩⟩]⟩,.string ⟨⟨x.2.1⟩⟩,.int .i64 x.2.2]⟩,[],[]⟩
def r107 (g:(List UInt8)→Xaa→Xaa→Option (XaF×(List UInt8)×Int)):Dec:=dV asS fun (y0:List UInt8)=>dV Xa8 fun (y1:Xaa)=>dV Xa8 fun (y2:Xaa)=>Xc4 (ofG (g y0 y1 y2) XwH)
theorem XZU {g:(List UInt8)→Xaa→Xaa→Option (XaF×(List UInt8)×Int)} {y0:List UInt8} {y1:Xaa} {y2:Xaa} {x:XaF×(List UInt8)×Int} (hx:g y0 y1 y2=some x):r107 g [.string ⟨⟨y0⟩⟩,.agg ⟨[.bool y1.V6,.int .u64 y1.Hi,.int .u64 y1.Lo]⟩,.agg ⟨[.bool y2.V6,.int .u64 y2.Hi,.int .u64 y2.Lo]⟩] []=some (XwH x):=(XaS (XdJ)).trans ((XaS (XaY _)).trans ((XaS (XaY _)).trans (XaZ hx)))
def s107 (g:(List UInt8)→Xaa→Xaa→Option (XaF×(List UInt8)×Int)):Xbp:=⟨[.v,.v,.v],r107 g⟩
theorem XGY {g:(List UInt8)→Xaa→Xaa→Option (XaF×(List UInt8)×Int)} {y0:List UInt8} {y1:Xaa} {y2:Xaa} {x:XaF×(List UInt8)×Int} (hx:g y0 y1 y2=some x):(s107 g).run [.string ⟨⟨y0⟩⟩,.agg ⟨[.bool y1.V6,.int .u64 y1.Hi,.int .u64 y1.Lo]⟩,.agg ⟨[.bool y2.V6,.int .u64 y2.Hi,.int .u64 y2.Lo]⟩] []=some (XwH x):=XZU hx
abbrev XtH (XaB:(List UInt8)→Option Bool) (Xav:Xaa→Xaa→Int→Int→Option (List UInt8)) (XbJ:(List UInt8)→Option ((List XbL)×Int)) (Xcl:(List UInt8)→Int→Option XaF):List (Nat×Xbp):=[(131,XLn XaB),(109,XLr Xav),(102,XSG XbJ),(132,s132 Xcl)]
theorem Xwy (XaB:(List UInt8)→Option Bool) (Xav:Xaa→Xaa→Int→Int→Option (List UInt8)) (XbJ:(List UInt8)→Option ((List XbL)×Int)) (Xcl:(List UInt8)→Int→Option XaF) (hS:Xai Tryz.prog (Xar (XtH XaB Xav XbJ Xcl))) (s:List UInt8) (src:Xaa) (dst:Xaa) (res:XaF×(List UInt8)×Int) (h:Xjt XaB Xav XbJ Xcl s src dst=some res) :
 XaD Tryz.prog 107 0 ⟨⟨107,76,[(0,.string ⟨⟨s⟩⟩),(1,.agg ⟨[.bool src.V6,.int .u64 src.Hi,.int .u64 src.Lo]⟩),(2,.agg ⟨[.bool dst.V6,.int .u64 dst.Hi,.int .u64 dst.Lo]⟩)],[.code Xuz],[],false,none⟩,[],[],0⟩ (fun v H _=>Res 0 (XwH res) v H):=by
 unfold Xjt at h
 refine Xa9 Xam hS true 3000 ?_
 conv=>whnf
 refine br.h h ?_ ?_ ?_
 ·rfl
 ·clear h;intro hb h;conv=>whnf
  all_goals (cases h;exact Res.z rfl rfl rfl)
 clear h;intro hb h;conv=>whnf
 replace h:=Xak.elim h;obtain ⟨b,hy,h⟩:=h
 refine rdS.intro hy ?_
 conv=>whnf
 replace h:=Xak.elim h;obtain ⟨b1,hy,h⟩:=h
 refine rdS.intro hy ?_
 conv=>whnf
 let t:Int:=wI .i64 (4*(wI .i64 ((b.toNat:Int).fdiv (2^4))))
 refine br.h h ?_ ?_ ?_
 ·rfl
 ·clear h;intro hb h;conv=>whnf
  all_goals (cases h;exact Res.z rfl rfl rfl)
 clear h;intro hb h;conv=>whnf
 refine br.h h ?_ ?_ ?_
 ·rfl
 ·clear h;intro hb h;conv=>whnf
  all_goals (cases h;exact Res.z rfl rfl rfl)
 clear h;intro hb h;conv=>whnf
 refine br.h h ?_ ?_ ?_
 ·rfl
 ·clear h;intro hb h;conv=>whnf
  all_goals (cases h;exact Res.z rfl rfl rfl)
 clear h;intro hb h;conv=>whnf
 replace h:=Xak.elim h;obtain ⟨p,hy,h⟩:=h
 refine XaG.q rfl rfl (Xqo hy) rfl rfl rfl ?_
 conv=>whnf
 refine br.h h ?_ ?_ ?_
 ·rfl
 ·clear h;intro hb h;conv=>whnf
  all_goals (cases h;exact Res.z rfl rfl rfl)
 clear h;intro hb h;conv=>whnf
 replace h:=XaK.elim h;obtain ⟨hb,h⟩:=h
 first|(refine req.intro hb ?_;conv=>whnf)|skip
 replace h:=Xak.elim h;obtain ⟨xr,hy,h⟩:=h
 refine XaG.q rfl rfl (Xoo hy) rfl rfl rfl ?_
 conv=>whnf
 refine br.h h ?_ ?_ ?_
 ·rfl
 ·clear h;intro hb h;conv=>whnf
  all_goals (cases h;exact Res.z rfl rfl rfl)
 clear h;intro hb h;conv=>whnf
 replace h:=Xak.elim h;obtain ⟨p1,hy,h⟩:=h
 refine XaG.q rfl rfl (XC5 hy) rfl rfl rfl ?_
 conv=>whnf
 replace h:=Xak.elim h;obtain ⟨l,hy,h⟩:=h
 refine XaG.Xba [] (Xat (aqs:=[.string ⟨⟨p1.Options⟩⟩]) (ws:=[]) (n:=1) (m:=0) (t':=13) (Xas rfl rfl Xbd) rfl (by rfl) (Xup hy) rfl rfl rfl rfl Xbc (XhO (XpV Xcb) Xbb) rfl) ?_
 conv=>whnf
 refine br.h h ?_ ?_ ?_
 ·rfl
 ·clear h;intro hb h;conv=>whnf
  all_goals (cases h;exact Res.z rfl rfl rfl)
 clear h;intro hb h;conv=>whnf
 replace h:=XaK.elim h;obtain ⟨hb,h⟩:=h
 first|(refine req.intro hb ?_;conv=>whnf)|skip
 let t1:List UInt8:=(s.drop t.toNat).take (s.length - t.toNat)
 all_goals (cases h;exact Res.z rfl rfl rfl)
theorem ok107 (XaB:(List UInt8)→Option Bool) (Xav:Xaa→Xaa→Int→Int→Option (List UInt8)) (XbJ:(List UInt8)→Option ((List XbL)×Int)) (Xcl:(List UInt8)→Int→Option XaF) (hS:Xai Tryz.prog (Xar (XtH XaB Xav XbJ Xcl))):Xan Tryz.prog 107 (s107 (Xjt XaB Xav XbJ Xcl)):=by
 refine Xan.Xau Xam (fun ar os r ha hr=>?_) ⟨Tryz.f107,rfl,by decide,rfl⟩
 replace hr:r107 (Xjt XaB Xav XbJ Xcl) ar (XaA os)=some r:=hr
 unfold r107 at hr
 generalize hc:XaA os=C at hr
 replace hr:=dV.elim hr;obtain ⟨v0,l1,y0,rfl,e0,hr⟩:=hr;obtain rfl:=Xb7 _ _ e0
 replace hr:=dV.elim hr;obtain ⟨v1,l2,y1,rfl,e1,hr⟩:=hr;obtain rfl:=XaN _ _ e1
 replace hr:=dV.elim hr;obtain ⟨v2,l3,y2,rfl,e2,hr⟩:=hr;obtain rfl:=XaN _ _ e2
 replace hr:=Xdf hr;obtain ⟨rfl,rfl,x,h,rfl⟩:=hr
 obtain rfl:=Xao hc
 exact ⟨_,rfl,Xwy XaB Xav XbJ Xcl hS _ _ _ x h⟩
def XeC:(List UInt8)→Xaa→Xaa→Option (XaF×(List UInt8)×Int):=Xjt XaB Xav XbJ Xcl
theorem XFz:Xan Tryz.prog 107 (s107 XeC):=ok107 XaB Xav XbJ Xcl (Xai.XaW ⟨XpS,Xqy,XuZ,XEP,trivial⟩)
def Xjz (Xal:(List UInt8)→Int→Int→Option Int) (Xbf:(List UInt8)→Option Int) (Xax:Xaa→Xaa→Int→Int→Option (List UInt8)) (XbI:(List UInt8)→Option ((List XbD)×Int)) (s:List UInt8) (src:Xaa) (dst:Xaa):Option (XaF×(List UInt8)×Int):=
 cond (decide ((s.length:Int)<20))
  (
  some ((XaF.mk 0 0 0 0 0 0 0 [],[],2)))
  (
  (s[12]?).bind fun (b:UInt8)=>
  let t:=wI .i64 (wI .u8 ((b.toNat:Int).tdiv 16))
  cond (decide ((wI .i64 (4*t))<20))
   (
   some ((XaF.mk 0 0 0 0 0 0 0 [],[],3)))
   (
   (s[12]?).bind fun (b1:UInt8)=>
   cond (((b1.toNat:Int).tmod 16) !=0)
    (
    some ((XaF.mk 0 0 0 0 0 0 0 [],[],3)))
    (
    let t1:=decide ((s.length:Int)<(wI .i64 (4*t)))
    cond (t1)
     (
     some ((XaF.mk 0 0 0 0 0 0 0 [],[],2)))
     (
     (Xax src dst 6 (s.length:Int)).bind fun p=>
     cond (p==[])
      (
      some ((XaF.mk 0 0 0 0 0 0 0 [],[],1)))
      (
      XaK (decide (p.length+s.length<2^63)) <|
      (Xbf (p++s)).bind fun s1=>
      cond (s1 !=65535)
       (
       some ((XaF.mk 0 0 0 0 0 0 0 [],[],4)))
       (
       XaK (decide ((0:Int)≤(wI .i64 (4*t))∧(wI .i64 (4*t))≤(s.length:Int)∧(0:Int)≤(20:Int)∧(20:Int)≤((wI .i64 (4*t)).toNat:Int))) <|
       let t2:=(s.drop 20).take ((wI .i64 (4*t)).toNat - 20)
       (XbI t2).bind fun l=>
       cond (l.2 !=0)
        (
        some ((XaF.mk 0 0 0 0 0 0 0 [],[],l.2)))
        (
        (Xal s 0 2).bind fun m=>
        (Xal s 2 2).bind fun m1=>
        (Xal s 4 4).bind fun m2=>
        (Xal s 8 4).bind fun m3=>
        (s[13]?).bind fun (b2:UInt8)=>
        (Xal s 14 2).bind fun m4=>
        (Xal s 18 2).bind fun m5=>
        XaK (decide ((0:Int)≤(wI .i64 (4*t))∧(wI .i64 (4*t))≤(s.length:Int)∧(0:Int)≤(20:Int)∧(20:Int)≤((wI .i64 (4*t)).toNat:Int))) <|
        let t3:=(s.drop 20).take ((wI .i64 (4*t)).toNat - 20)
        XaK (decide ((0:Int)≤(wI .i64 (4*t))∧(wI .i64 (4*t))≤(s.length:Int))) <|
        let t4:=(s.drop (wI .i64 (4*t)).toNat).take (s.length - (wI .i64 (4*t)).toNat)
        some ((XaF.mk m m1 (wI .u32 m2) (wI .u32 m3) (wI .i64 (b2.toNat:Int)) m4 m5 t3,t4,0)))))))))
def rx57 (x:XaF×(List UInt8)×Int):Xco:=⟨.tuple ⟨[.agg ⟨[.int .i64 x.1.SPort,.int .i64 x.1.DPort,.int .u32 x.1.Seq,.int .u32 x.1.Ack,.int .i64 x.1.Flags,.int .i64 x.1.Window,.int .i64 x.1.Urgent,.string ⟨⟨x.1.Options⟩⟩]⟩,.string ⟨⟨x.2.1⟩⟩,.int .i64 x.2.2]⟩,[],[]⟩
def r57 (g:(List UInt8)→Xaa→Xaa→Option (XaF×(List UInt8)×Int)):Dec:=dV asS fun (y0:List UInt8)=>dV Xa8 fun (y1:Xaa)=>dV Xa8 fun (y2:Xaa)=>Xc4 (ofG (g y0 y1 y2) rx57)
theorem r57_c {g:(List UInt8)→Xaa→Xaa→Option (XaF×(List UInt8)×Int)} {y0:List UInt8} {y1:Xaa} {y2:Xaa} {x:XaF×(List UInt8)×Int} (hx:g y0 y1 y2=some x):r57 g [.string ⟨⟨y0⟩⟩,.agg ⟨[.bool y1.V6,.int .u64 y1.Hi,.int .u64 y1.Lo]⟩,.agg ⟨[.bool y2.V6,.int .u64 y2.Hi,.int .u64 y2.Lo]⟩] []=some (rx57 x):=(XaS (XdJ)).trans ((XaS (XaY _)).trans ((XaS (XaY _)).trans (XaZ hx)))
def s57 (g:(List UInt8)→Xaa→Xaa→Option (XaF×(List UInt8)×Int)):Xbp:=⟨[.v,.v,.v],r57 g⟩
theorem X1U {g:(List UInt8)→Xaa→Xaa→Option (XaF×(List UInt8)×Int)} {y0:List UInt8} {y1:Xaa} {y2:Xaa} {x:XaF×(List UInt8)×Int} (hx:g y0 y1 y2=some x):(s57 g).run [.string ⟨⟨y0⟩⟩,.agg ⟨[.bool y1.V6,.int .u64 y1.Hi,.int .u64 y1.Lo]⟩,.agg ⟨[.bool y2.V6,.int .u64 y2.Hi,.int .u64 y2.Lo]⟩] []=some (rx57 x):=r57_c hx
abbrev XBq (Xal:(List UInt8)→Int→Int→Option Int) (Xbf:(List UInt8)→Option Int) (Xax:Xaa→Xaa→Int→Int→Option (List UInt8)) (XbI:(List UInt8)→Option ((List XbD)×Int)):List (Nat×Xbp):=[(44,s44 Xal),(100,XG0 Xbf),(95,s95 Xax),(101,X0t XbI)]
theorem XIw (Xal:(List UInt8)→Int→Int→Option Int) (Xbf:(List UInt8)→Option Int) (Xax:Xaa→Xaa→Int→Int→Option (List UInt8)) (XbI:(List UInt8)→Option ((List XbD)×Int)) (hS:Xai Tryz.prog (Xar (XBq Xal Xbf Xax XbI))) (s:List UInt8) (src:Xaa) (dst:Xaa) (res:XaF×(List UInt8)×Int) (h:Xjz Xal Xbf Xax XbI s src dst=some res) :
 XaD Tryz.prog 57 0 ⟨⟨57,85,[(0,.string ⟨⟨s⟩⟩),(1,.agg ⟨[.bool src.V6,.int .u64 src.Hi,.int .u64 src.Lo]⟩),(2,.agg ⟨[.bool dst.V6,.int .u64 dst.Hi,.int .u64 dst.Lo]⟩)],[.code XzQ],[],false,none⟩,[],[],0⟩ (fun v H _=>Res 0 (rx57 res) v H):=by
 unfold Xjz at h
 refine Xa9 Xam hS true 3000 ?_
 conv=>whnf
 refine br.h h ?_ ?_ ?_
 ·rfl
 ·clear h;intro hb h;conv=>whnf
  all_goals (cases h;exact Res.z rfl rfl rfl)
 clear h;intro hb h;conv=>whnf
 replace h:=Xak.elim h;obtain ⟨b,hy,h⟩:=h
 refine rdS.intro hy ?_
 conv=>whnf
 let t:Int:=wI .i64 (wI .u8 ((b.toNat:Int).tdiv 16))
 refine br.h h ?_ ?_ ?_
 ·rfl
 ·clear h;intro hb h;conv=>whnf
  all_goals (cases h;exact Res.z rfl rfl rfl)
 clear h;intro hb h;conv=>whnf
 replace h:=Xak.elim h;obtain ⟨b1,hy,h⟩:=h
 refine rdS.intro hy ?_
 conv=>whnf
 refine br.h h ?_ ?_ ?_
 ·rfl
 ·clear h;intro hb h;conv=>whnf
  all_goals (cases h;exact Res.z rfl rfl rfl)
 clear h;intro hb h;conv=>whnf
 let t1:Bool:=decide ((s.length:Int)<(wI .i64 (4*t)))
 refine br.h h ?_ ?_ ?_
 ·rfl
 ·clear h;intro hb h;conv=>whnf
  all_goals (cases h;exact Res.z rfl rfl rfl)
 clear h;intro hb h;conv=>whnf
 replace h:=Xak.elim h;obtain ⟨p,hy,h⟩:=h
 refine XaG.q rfl rfl (Xrb hy) rfl rfl rfl ?_
 conv=>whnf
 refine br.h h ?_ ?_ ?_
 ·rfl
 ·clear h;intro hb h;conv=>whnf
  all_goals (cases h;exact Res.z rfl rfl rfl)
 clear h;intro hb h;conv=>whnf
 replace h:=XaK.elim h;obtain ⟨hb,h⟩:=h
 first|(refine req.intro hb ?_;conv=>whnf)|skip
 replace h:=Xak.elim h;obtain ⟨s1,hy,h⟩:=h
 refine XaG.q rfl rfl (Xn2 hy) rfl rfl rfl ?_
 conv=>whnf
 refine br.h h ?_ ?_ ?_
 ·rfl
 ·clear h;intro hb h;conv=>whnf
  all_goals (cases h;exact Res.z rfl rfl rfl)
 clear h;intro hb h;conv=>whnf
 replace h:=XaK.elim h;obtain ⟨hb,h⟩:=h
 first|(refine req.intro hb ?_;conv=>whnf)|skip
 let t2:List UInt8:=(s.drop 20).take ((wI .i64 (4*t)).toNat - 20)
 replace h:=Xak.elim h;obtain ⟨l,hy,h⟩:=h
 refine XaG.Xba [] (Xat (aqs:=[.string ⟨⟨t2⟩⟩]) (ws:=[]) (n:=1) (m:=0) (t':=4) (Xas rfl rfl Xbd) rfl (by rfl) (XuK hy) rfl rfl rfl rfl Xbc (XhO (XpV Xct) Xbb) rfl) ?_
 conv=>whnf
 refine br.h h ?_ ?_ ?_
 ·rfl
 ·clear h;intro hb h;conv=>whnf
  all_goals (cases h;exact Res.z rfl rfl rfl)
 clear h;intro hb h;conv=>whnf
 replace h:=Xak.elim h;obtain ⟨m,hy,h⟩:=h
 refine XaG.q rfl rfl (Xe3 hy) rfl rfl rfl ?_
 conv=>whnf
 replace h:=Xak.elim h;obtain ⟨m1,hy,h⟩:=h
 refine XaG.q rfl rfl (Xe3 hy) rfl rfl rfl ?_
 conv=>whnf
 replace h:=Xak.elim h;obtain ⟨m2,hy,h⟩:=h
 refine XaG.q rfl rfl (Xe3 hy) rfl rfl rfl ?_
 conv=>whnf
 replace h:=Xak.elim h;obtain ⟨m3,hy,h⟩:=h
 refine XaG.q rfl rfl (Xe3 hy) rfl rfl rfl ?_
 conv=>whnf
 replace h:=Xak.elim h;obtain ⟨b2,hy,h⟩:=h
 refine rdS.intro hy ?_
 conv=>whnf
 replace h:=Xak.elim h;obtain ⟨m4,hy,h⟩:=h
 refine XaG.q rfl rfl (Xe3 hy) rfl rfl rfl ?_
 conv=>whnf
 replace h:=Xak.elim h;obtain ⟨m5,hy,h⟩:=h
 refine XaG.q rfl rfl (Xe3 hy) rfl rfl rfl ?_
 conv=>whnf
 replace h:=XaK.elim h;obtain ⟨hb,h⟩:=h
 first|(refine req.intro hb ?_;conv=>whnf)|skip
 let t3:List UInt8:=(s.drop 20).take ((wI .i64 (4*t)).toNat - 20)
 replace h:=XaK.elim h;obtain ⟨hb,h⟩:=h
 first|(refine req.intro hb ?_;conv=>whnf)|skip
 let t4:List UInt8:=(s.drop (wI .i64 (4*t)).toNat).take (s.length - (wI .i64 (4*t)).toNat)
 all_goals (cases h;exact Res.z rfl rfl rfl)
theorem ok57 (Xal:(List UInt8)→Int→Int→Option Int) (Xbf:(List UInt8)→Option Int) (Xax:Xaa→Xaa→Int→Int→Option (List UInt8)) (XbI:(List UInt8)→Option ((List XbD)×Int)) (hS:Xai Tryz.prog (Xar (XBq Xal Xbf Xax XbI))):Xan Tryz.prog 57 (s57 (Xjz Xal Xbf Xax XbI)):=by
 refine Xan.Xau Xam (fun ar os r ha hr=>?_) ⟨Tryz.f57,rfl,by decide,rfl⟩
 replace hr:r57 (Xjz Xal Xbf Xax XbI) ar (XaA os)=some r:=hr
 unfold r57 at hr
 generalize hc:XaA os=C at hr
 replace hr:=dV.elim hr;obtain ⟨v0,l1,y0,rfl,e0,hr⟩:=hr;obtain rfl:=Xb7 _ _ e0
 replace hr:=dV.elim hr;obtain ⟨v1,l2,y1,rfl,e1,hr⟩:=hr;obtain rfl:=XaN _ _ e1
 replace hr:=dV.elim hr;obtain ⟨v2,l3,y2,rfl,e2,hr⟩:=hr;obtain rfl:=XaN _ _ e2
 replace hr:=Xdf hr;obtain ⟨rfl,rfl,x,h,rfl⟩:=hr
 obtain rfl:=Xao hc
 exact ⟨_,rfl,XIw Xal Xbf Xax XbI hS _ _ _ x h⟩
def XeG:(List UInt8)→Xaa→Xaa→Option (XaF×(List UInt8)×Int):=Xjz Xal Xbf Xax XbI
theorem XQy:Xan Tryz.prog 57 (s57 XeG):=ok57 Xal Xbf Xax XbI (Xai.XaW ⟨Xmh,XnK,XrS,XuT,trivial⟩)
end Go.Vm.Code
namespace Go.Vm.Code
open Go Go.Vm
def Xm0:XaF:=⟨0,0,0,0,0,0,0,[]⟩
def Xig (s:List UInt8) (src dst:Xaa):XaF×List UInt8×Int:=
 if s.length<20 then (Xm0,[],2) else if 4*(vK s 12 1/16)<20 then (Xm0,[],3) else if vK s 12 1%16≠0 then (Xm0,[],3) else if (s.length:Int)<4*(vK s 12 1/16) then (Xm0,[],2) else
  if Xnf src dst 6 s.length=[] then (Xm0,[],1) else if norm (Xgz (Xnf src dst 6 s.length++s))≠65535 then (Xm0,[],4) else
   if (Xk0 ((s.drop 20).take ((4*(vK s 12 1/16)).toNat - 20))).2≠0 then (Xm0,[],(Xk0 ((s.drop 20).take ((4*(vK s 12 1/16)).toNat - 20))).2) else
   (⟨vK s 0 2,vK s 2 2,vK s 4 4,vK s 8 4,vK s 13 1,vK s 14 2,vK s 18 2,(s.drop 20).take ((4*(vK s 12 1/16)).toNat - 20)⟩,s.drop (4*(vK s 12 1/16)).toNat,0)
theorem Xsb {s:List UInt8} {n:Nat} (hs:s.length<2^38) (h20:20≤n) (hn:n≤s.length):Xcl s (n:Int)=some ⟨vK s 0 2,vK s 2 2,vK s 4 4,vK s 8 4,vK s 13 1,vK s 14 2,vK s 18 2,(s.drop 20).take (n - 20)⟩:=by
 unfold Xcl Xf6
 have N:∀ (p k:Nat),1≤k→k≤7→p+k≤20→Xad ⟨s.drop p,true,false⟩ (k:Int)=some (vK s p k,⟨s.drop (p+k),true,false⟩):=fun p k a b c=>XBZ a b (by omega) (by omega)
 have N0:Xad ⟨s,true,false⟩ 2=some (vK s 0 2,⟨s.drop 2,true,false⟩):=N 0 2 (by omega) (by omega) (by omega)
 have N2:Xad ⟨s.drop 2,true,false⟩ 2=some (vK s 2 2,⟨s.drop 4,true,false⟩):=N 2 2 (by omega) (by omega) (by omega)
 have N4:Xad ⟨s.drop 4,true,false⟩ 4=some (vK s 4 4,⟨s.drop 8,true,false⟩):=N 4 4 (by omega) (by omega) (by omega)
 have N8:Xad ⟨s.drop 8,true,false⟩ 4=some (vK s 8 4,⟨s.drop 12,true,false⟩):=N 8 4 (by omega) (by omega) (by omega)
 have N12:Xad ⟨s.drop 12,true,false⟩ 2=some (vK s 12 2,⟨s.drop 14,true,false⟩):=N 12 2 (by omega) (by omega) (by omega)
 have N14:Xad ⟨s.drop 14,true,false⟩ 2=some (vK s 14 2,⟨s.drop 16,true,false⟩):=N 14 2 (by omega) (by omega) (by omega)
 have N16:Xad ⟨s.drop 16,true,false⟩ 2=some (vK s 16 2,⟨s.drop 18,true,false⟩):=N 16 2 (by omega) (by omega) (by omega)
 have N18:Xad ⟨s.drop 18,true,false⟩ 2=some (vK s 18 2,⟨s.drop 20,true,false⟩):=N 18 2 (by omega) (by omega) (by omega)
 have r4:=Xej s 4 4 4294967296 (by decide)
 have r8:=Xej s 8 4 4294967296 (by decide)
 have r12:=Xej s 12 2 65536 (by decide)
 rw [XmR,Option.bind_some,N0,Option.bind_some]
 simp only []
 rw [N2,Option.bind_some]
 simp only []
 rw [N4,Option.bind_some]
 simp only []
 rw [N8,Option.bind_some]
 simp only []
 rw [N12,Option.bind_some]
 simp only []
 rw [N14,Option.bind_some]
 simp only []
 rw [N16,Option.bind_some]
 simp only []
 rw [N18,Option.bind_some]
 simp only []
 rw [XcC (n:=(n:Int) - 20) (by omega) (by omega),show (n:Int) - 20=((n - 20:Nat):Int) by omega,XnG (by omega),Option.bind_some,XwG r4.1 r4.2,XwG r8.1 r8.2,Xho 8 (by decide) (by omega) (by omega) (by omega)]
 have e12:vK s 12 2=(s[12].toNat*256+s[13].toNat:Int):=Xtu (s:=s) (p:=12) (by omega)
 have e13:=XjZ (s:=s) (p:=13) (by omega)
 have b13:=s[13].toNat_lt
 rw [show vK s 12 2%2^8=vK s 13 1 by rw [e12,e13];omega]
theorem and15:∀ x:Fin 256,XjC .u8 ((x.val:Nat):Int) 15=((x.val:Nat):Int)%16:=by decide +kernel
theorem Xwo {s:List UInt8} {src dst:Xaa} (h1:A4 src) (h2:A4 dst) (hs:s.length<2^19):XeC s src dst=some (Xig s src dst):=by
 unfold XeC Xjt Xig
 have hz:(⟨0,0,0,0,0,0,0,[]⟩:XaF)=Xm0:=rfl
 rw [hz]
 by_cases h0:s.length<20
 ·rw [XaV (by omega),if_pos h0]
 rw [XaM (by omega),if_neg h0,List.getElem?_eq_getElem (show 12<s.length by omega)]
 have e12:=XjZ (s:=s) (p:=12) (by omega)
 have r12:=Xej s 12 1 256 (by decide)
 have hb:=s[12].toNat_lt
 simp only [Option.bind_some]
 rw [←e12,XoJ,show ((2:Int)^4)=16 from rfl,XcC (n:=vK s 12 1/16) (by omega) (by omega),XcC (n:=4*(vK s 12 1/16)) (by omega) (by omega)]
 have ea:XjC .u8 (vK s 12 1) 15=vK s 12 1%16:=by
  rw [e12];exact and15 ⟨s[12].toNat,hb⟩
 rw [ea]
 obtain ⟨t,ht⟩:=Int.eq_ofNat_of_zero_le (show 0≤4*(vK s 12 1/16) by omega)
 rw [ht]
 simp only [Int.toNat_natCast]
 by_cases g2:(t:Int)<20
 ·rw [XaV g2,if_pos g2]
 rw [XaM g2,if_neg g2]
 by_cases g3:vK s 12 1%16=0
 ·rw [show (vK s 12 1%16 !=0)=false by simpa using g3,cond_false,if_neg (by simpa using g3)]
  by_cases g4:(s.length:Int)<t
  ·rw [XaV (by omega),if_pos g4]
  rw [XaM (by omega),if_neg g4,Xma h1 h2 (by omega) (by omega),Option.bind_some]
  have hp:=XkL src dst 6 (s.length:Int)
  generalize Xnf src dst 6 (s.length:Int)=p at *
  by_cases e3:p=[]
  ·subst e3;rfl
  rw [show (p==[])=false by simpa using e3,cond_false,if_neg e3,Xaz (by omega),XnH (by simp only [List.length_append];omega),Option.bind_some]
  by_cases g5:norm (Xgz (p++s))=65535
  ·rw [if_neg (by simpa using g5),g5,show ((((65535:Nat):Int)==65535))=true from rfl,Bool.not_true,cond_false,Xsb (by omega) (by omega) (by omega),Option.bind_some,XZ6 (by simp;omega),Option.bind_some]
   by_cases g6:(Xk0 ((s.drop 20).take (t - 20))).2=0
   ·rw [if_neg (by simpa using g6)]
    simp only [g6,bne_self_eq_false,cond_false]
    rw [Xaz (by omega),List.take_of_length_le (i:=s.length - t) (by simp)]
   ·rw [if_pos (by simpa using g6),show ((Xk0 ((s.drop 20).take (t - 20))).2 !=0)=true by simpa using g6];rfl
  ·rw [if_pos (by simpa using g5),show ((((norm (Xgz (p++s)):Nat):Int)==65535))=false by simp;omega];rfl
 ·rw [show (vK s 12 1%16 !=0)=true by simpa using g3,cond_true,if_pos (by simpa using g3)]
theorem XyU {s:List UInt8} {src dst:Xaa} (h1:A4 src) (h2:A4 dst) (hs:s.length<2^19):XeG s src dst=some (Xig s src dst):=by
 unfold XeG Xjz Xig
 have hz:(⟨0,0,0,0,0,0,0,[]⟩:XaF)=Xm0:=rfl
 rw [hz]
 by_cases h0:s.length<20
 ·rw [XaV (by omega),if_pos h0]
 rw [XaM (by omega),if_neg h0,List.getElem?_eq_getElem (show 12<s.length by omega),List.getElem?_eq_getElem (show 13<s.length by omega)]
 have e12:=XjZ (s:=s) (p:=12) (by omega)
 have e13:=XjZ (s:=s) (p:=13) (by omega)
 have r12:=Xej s 12 1 256 (by decide)
 have r13:=Xej s 13 1 256 (by decide)
 have r4:=Xej s 4 4 4294967296 (by decide)
 have r8:=Xej s 8 4 4294967296 (by decide)
 simp only [Option.bind_some]
 rw [←e12,←e13,Int.tmod_eq_emod_of_nonneg r12.1,Int.tdiv_eq_ediv_of_nonneg r12.1,wU8 (n:=vK s 12 1/16) (by omega) (by omega),XcC (n:=vK s 12 1/16) (by omega) (by omega),XcC (n:=4*(vK s 12 1/16)) (by omega) (by omega),XcC (n:=vK s 13 1) (by omega) (by omega)]
 obtain ⟨t,ht⟩:=Int.eq_ofNat_of_zero_le (show 0≤4*(vK s 12 1/16) by omega)
 rw [ht]
 simp only [Int.toNat_natCast]
 by_cases g2:(t:Int)<20
 ·rw [XaV g2,if_pos g2]
 rw [XaM g2,if_neg g2]
 by_cases g3:vK s 12 1%16=0
 ·rw [show (vK s 12 1%16 !=0)=false by simpa using g3,cond_false,if_neg (by simpa using g3)]
  by_cases g4:(s.length:Int)<t
  ·rw [XaV (by omega),if_pos g4]
  rw [XaM (by omega),if_neg g4,XjK h1 h2 (by omega) (by omega),Option.bind_some]
  have hp:=XkL src dst 6 (s.length:Int)
  generalize Xnf src dst 6 (s.length:Int)=p at *
  by_cases e3:p=[]
  ·subst e3;rfl
  rw [show (p==[])=false by simpa using e3,cond_false,if_neg e3,Xaz (by omega),XjG (by simp only [List.length_append];omega),Option.bind_some]
  by_cases g5:norm (Xgz (p++s))=65535
  ·rw [if_neg (by simpa using g5),g5,show ((((65535:Nat):Int) !=65535))=false from rfl,cond_false,Xaz (by omega),X5n (by simp;omega),Option.bind_some]
   by_cases g6:(Xk0 ((s.drop 20).take (t - 20))).2=0
   ·rw [if_neg (by simpa using g6)]
    simp only [g6,bne_self_eq_false,cond_false]
    have M:∀ (p k:Nat),1≤k→k≤7→p+k≤20→Xal s (p:Int) (k:Int)=some (vK s p k):=fun p k a b c=>XnU (by omega) a b (by omega)
    have M0:Xal s 0 2=some (vK s 0 2):=M 0 2 (by omega) (by omega) (by omega)
    have M2:Xal s 2 2=some (vK s 2 2):=M 2 2 (by omega) (by omega) (by omega)
    have M4:Xal s 4 4=some (vK s 4 4):=M 4 4 (by omega) (by omega) (by omega)
    have M8:Xal s 8 4=some (vK s 8 4):=M 8 4 (by omega) (by omega) (by omega)
    have M14:Xal s 14 2=some (vK s 14 2):=M 14 2 (by omega) (by omega) (by omega)
    have M18:Xal s 18 2=some (vK s 18 2):=M 18 2 (by omega) (by omega) (by omega)
    rw [M0,M2,M4,M8,M14,M18]
    simp only [Option.bind_some]
    rw [Xaz (by omega),Xaz (by omega),List.take_of_length_le (i:=s.length - t) (by simp),XwG r4.1 r4.2,XwG r8.1 r8.2]
   ·rw [if_pos (by simpa using g6),show ((Xk0 ((s.drop 20).take (t - 20))).2 !=0)=true by simpa using g6];rfl
  ·rw [if_pos (by simpa using g5),show ((((norm (Xgz (p++s)):Nat):Int) !=65535))=true by simp;omega];rfl
 ·rw [show (vK s 12 1%16 !=0)=true by simpa using g3,cond_true,if_pos (by simpa using g3)]
end Go.Vm.Code
namespace Go.Vm.Code
open Go Go.Vm Go.Proofs
set_option maxRecDepth 100000
set_option maxHeartbeats 4000000
set_option linter.unusedVariables false
def Xfm (XaH:(List UInt8)→Int→Int→Option (Int×Bool)) (text:List UInt8) (i:Int):Option (Sum Int (Int×Int×Int)):=
 cond (decide (i<(text.length:Int)))
  (
  XaK (decide (0≤i)) <|
  (text[i.toNat]?).bind fun (b:UInt8)=>
  cond ((b.toNat:Int)==0)
   (
   some (.inr ((0,0,(-1)))))
   (
   cond ((b.toNat:Int)==1)
    (
    some (.inl (wI .i64 (i+1))))
    (
    let t:=decide ((wI .i64 (i+1))<(text.length:Int))
    cond (t)
     (
     XaK (decide (0≤(wI .i64 (i+1)))) <|
     (text[(wI .i64 (i+1)).toNat]?).bind fun (b1:UInt8)=>
     cond (decide ((wI .i64 (b1.toNat:Int))<2))
      (
      some (.inr ((0,0,(-1)))))
      (
      let t1:=decide ((wI .i64 (b1.toNat:Int))>(wI .i64 ((text.length:Int) - i)))
      cond (t1)
       (
       some (.inr ((0,0,(-1)))))
       (
       XaK (decide (0≤i)) <|
       (text[i.toNat]?).bind fun (b2:UInt8)=>
       XaK (decide ((0:Int)≤(wI .i64 (i+(wI .i64 (b1.toNat:Int))))∧(wI .i64 (i+(wI .i64 (b1.toNat:Int))))≤(text.length:Int)∧(0:Int)≤(wI .i64 (i+2))∧(wI .i64 (i+2))≤((wI .i64 (i+(wI .i64 (b1.toNat:Int)))).toNat:Int))) <|
       let t2:=(text.drop (wI .i64 (i+2)).toNat).take ((wI .i64 (i+(wI .i64 (b1.toNat:Int)))).toNat - (wI .i64 (i+2)).toNat)
       cond ((wI .i64 (b2.toNat:Int)) !=8)
        (
        some (.inl (wI .i64 (i+(wI .i64 (b1.toNat:Int))))))
        (
        (XaH t2 0 8).bind fun xg=>
        cond (xg.2)
         (
         cond ((t2.length:Int)==8)
          (
          some (.inr ((wI .u32 (xg.1.fdiv (2^32)),wI .u32 xg.1,wI .i64 (i+2)))))
          (
          some (.inr ((0,0,(-1))))))
         (
         some (.inr ((0,0,(-1)))))))))
     (
     some (.inr ((0,0,(-1))))))))
  (
  some (.inr ((0,0,(-1)))))
def Xg4 (XaH:(List UInt8)→Int→Int→Option (Int×Bool)) (XbJ:(List UInt8)→Option ((List XbL)×Int)) (text:List UInt8):Option (Int×Int×Int):=
 (XbJ text).bind fun l=>
 cond (l.2 !=0)
  (
  some ((0,0,(-1))))
  (
  iter (fun st=>Xfm XaH text st) FUEL 0)
def XLx (x:Int×Int×Int):Xco:=⟨.tuple ⟨[.int .u32 x.1,.int .u32 x.2.1,.int .i64 x.2.2]⟩,[],[]⟩
def r60 (g:(List UInt8)→Option (Int×Int×Int)):Dec:=dV asS fun (y0:List UInt8)=>Xc4 (ofG (g y0) XLx)
theorem r60_c {g:(List UInt8)→Option (Int×Int×Int)} {y0:List UInt8} {x:Int×Int×Int} (hx:g y0=some x):r60 g [.string ⟨⟨y0⟩⟩] []=some (XLx x):=(XaS (XdJ)).trans (XaZ hx)
def s60 (g:(List UInt8)→Option (Int×Int×Int)):Xbp:=⟨[.v],r60 g⟩
theorem X0Y {g:(List UInt8)→Option (Int×Int×Int)} {y0:List UInt8} {x:Int×Int×Int} (hx:g y0=some x):(s60 g).run [.string ⟨⟨y0⟩⟩] []=some (XLx x):=r60_c hx
abbrev XsU (XaH:(List UInt8)→Int→Int→Option (Int×Bool)) (XbJ:(List UInt8)→Option ((List XbL)×Int)):List (Nat×Xbp):=[(40,s40 XaH),(102,XSG XbJ)]
def Xjk (text:List UInt8) (i:Int):VM:=
 ⟨⟨125,62,[(0,.func (.yield 6) #[] #[]),(1,.pointer (some ⟨4,0,none⟩)),(3,.int .i64 i)],[.code Xmo,.inLoop Xmo,.inBlock 0],[],false,none⟩,[⟨60,46,[(2,.pointer (some ⟨0,0,none⟩)),(3,.pointer (some ⟨1,0,none⟩)),(4,.pointer (some ⟨2,0,none⟩))],[.inRangeFunc 6,.inBlock 0,.code Xz2],[5],false,none⟩],[(0,.cells [.int .u32 0]),(1,.cells [.int .u32 0]),(2,.cells [.int .i64 0]),(4,.cells [.string ⟨⟨text⟩⟩]),(5,.marks),(6,.loop ⟨.ready,none,60,46,[(2,.pointer (some ⟨0,0,none⟩)),(3,.pointer (some ⟨1,0,none⟩)),(4,.pointer (some ⟨2,0,none⟩))],[19],XPF,XAn,5⟩)],7⟩
theorem XxM (XaH:(List UInt8)→Int→Int→Option (Int×Bool)) (XbJ:(List UInt8)→Option ((List XbL)×Int)) (hS:Xai Tryz.prog (Xar (XsU XaH XbJ))) (text:List UInt8) (res:Int×Int×Int):∀ fuel (st:Int) (o:Int×Int×Int),iter (fun st=>Xfm XaH text st) fuel st=some o→(o=res) →
 XaD Tryz.prog 60 0 (Xjk text st) (fun v H _=>Res 0 (XLx res) v H):=by
 intro fuel st o h hc
 refine Xcm (head:=fun st=>Xjk text st) (C:=fun o=>(o=res)) ?_ fuel st o h hc
 clear h hc o st fuel
 intro i o h hc
 replace h:Xfm XaH text i=some o:=h
 show XaD Tryz.prog 60 0 (Xjk text i) (fun v H _=>Res 0 (XLx res) v H)
 unfold Xfm at h
 refine Xa9 Xam hS true 3000 ?_
 conv=>whnf
 refine br.h2 h ?_ ?_ ?_
 ·rfl
 ·clear h;intro hb h;conv=>whnf
  all_goals (cases h;cases hc;exact Res.z rfl rfl rfl)
 clear h;intro hb h;conv=>whnf
 replace h:=XaK.elim h;obtain ⟨hb,h⟩:=h
 first|(refine req.intro hb ?_;conv=>whnf)|skip
 replace h:=Xak.elim h;obtain ⟨b,hy,h⟩:=h
 refine rdS.intro hy ?_
 conv=>whnf
 refine br.h h ?_ ?_ ?_
 ·rfl
 ·clear h;intro hb h;conv=>whnf
  all_goals (cases h;cases hc;exact Res.z rfl rfl rfl)
 clear h;intro hb h;conv=>whnf
 refine br.h h ?_ ?_ ?_
 ·rfl
 ·clear h;intro hb h;conv=>whnf
  cases h;simp only [Sum.elim_inl,Xjk] at hc
  exact XxQ hc [(0,0),(1,1),(2,2),(4,4),(5,5),(6,6)] rfl
 clear h;intro hb h;conv=>whnf
 let t:Bool:=decide ((wI .i64 (i+1))<(text.length:Int))
 refine br.h2 h ?_ ?_ ?_
 ·rfl
 ·clear h;intro hb h;conv=>whnf
  all_goals (cases h;cases hc;exact Res.z rfl rfl rfl)
 clear h;intro hb h;conv=>whnf
 replace h:=XaK.elim h;obtain ⟨hb,h⟩:=h
 first|(refine req.intro hb ?_;conv=>whnf)|skip
 replace h:=Xak.elim h;obtain ⟨b1,hy,h⟩:=h
 refine rdS.intro hy ?_
 conv=>whnf
 refine br.h h ?_ ?_ ?_
 ·rfl
 ·clear h;intro hb h;conv=>whnf
  all_goals (cases h;cases hc;exact Res.z rfl rfl rfl)
 clear h;intro hb h;conv=>whnf
 let t1:Bool:=decide ((wI .i64 (b1.toNat:Int))>(wI .i64 ((text.length:Int) - i)))
 refine br.h h ?_ ?_ ?_
 ·rfl
 ·clear h;intro hb h;conv=>whnf
  all_goals (cases h;cases hc;exact Res.z rfl rfl rfl)
 clear h;intro hb h;conv=>whnf
 replace h:=XaK.elim h;obtain ⟨hb,h⟩:=h
 first|(refine req.intro hb ?_;conv=>whnf)|skip
 replace h:=Xak.elim h;obtain ⟨b2,hy,h⟩:=h
 refine rdS.intro hy ?_
 conv=>whnf
 replace h:=XaK.elim h;obtain ⟨hb,h⟩:=h
 first|(refine req.intro hb ?_;conv=>whnf)|skip
 let t2:List UInt8:=(text.drop (wI .i64 (i+2)).toNat).take ((wI .i64 (i+(wI .i64 (b1.toNat:Int)))).toNat - (wI .i64 (i+2)).toNat)
 refine br.h h ?_ ?_ ?_
 ·rfl
 ·clear h;intro hb h;conv=>whnf
  cases h;simp only [Sum.elim_inl,Xjk] at hc
  exact XxQ hc [(0,0),(1,1),(2,2),(4,4),(5,5),(6,6)] rfl
 clear h;intro hb h;conv=>whnf
 replace h:=Xak.elim h;obtain ⟨xg,hy,h⟩:=h
 refine XaG.q rfl rfl (Xmc hy) rfl rfl rfl ?_
 conv=>whnf
 refine br.h2 h ?_ ?_ ?_
 ·rfl
 ·clear h;intro hb h;conv=>whnf
  all_goals (cases h;cases hc;exact Res.z rfl rfl rfl)
 clear h;intro hb h;conv=>whnf
 refine br.h h ?_ ?_ ?_
 ·rfl
 ·clear h;intro hb h;conv=>whnf
  all_goals (cases h;cases hc;exact Res.z rfl rfl rfl)
 clear h;intro hb h;conv=>whnf
 all_goals (cases h;cases hc;exact Res.z rfl rfl rfl)
theorem XHV (XaH:(List UInt8)→Int→Int→Option (Int×Bool)) (XbJ:(List UInt8)→Option ((List XbL)×Int)) (hS:Xai Tryz.prog (Xar (XsU XaH XbJ))) (text:List UInt8) (res:Int×Int×Int) (h:Xg4 XaH XbJ text=some res) :
 XaD Tryz.prog 60 0 ⟨⟨60,46,[(0,.string ⟨⟨text⟩⟩)],[.code XAY],[],false,none⟩,[],[],0⟩ (fun v H _=>Res 0 (XLx res) v H):=by
 unfold Xg4 at h
 refine Xa9 Xam hS true 3000 ?_
 conv=>whnf
 replace h:=Xak.elim h;obtain ⟨l,hy,h⟩:=h
 refine XaG.Xba [] (Xat (aqs:=[.string ⟨⟨text⟩⟩]) (ws:=[]) (n:=1) (m:=0) (t':=4) (Xas rfl rfl Xbd) rfl (by rfl) (Xup hy) rfl rfl rfl rfl Xbc (XhO (XpV Xcb) Xbb) rfl) ?_
 conv=>whnf
 refine br.h h ?_ ?_ ?_
 ·rfl
 ·clear h;intro hb h;conv=>whnf
  all_goals (cases h;exact Res.z rfl rfl rfl)
 clear h;intro hb h;conv=>whnf
 have hl:=XxM XaH XbJ hS _ res _ _ _ h rfl;simp only [Xjk] at hl
 exact XxQ hl [(0,0),(1,1),(2,2),(4,4),(5,5),(6,6)] rfl
theorem ok60 (XaH:(List UInt8)→Int→Int→Option (Int×Bool)) (XbJ:(List UInt8)→Option ((List XbL)×Int)) (hS:Xai Tryz.prog (Xar (XsU XaH XbJ))):Xan Tryz.prog 60 (s60 (Xg4 XaH XbJ)):=by
 refine Xan.Xau Xam (fun ar os r ha hr=>?_) ⟨Tryz.f60,rfl,by decide,rfl⟩
 replace hr:r60 (Xg4 XaH XbJ) ar (XaA os)=some r:=hr
 unfold r60 at hr
 generalize hc:XaA os=C at hr
 replace hr:=dV.elim hr;obtain ⟨v0,l1,y0,rfl,e0,hr⟩:=hr;obtain rfl:=Xb7 _ _ e0
 replace hr:=Xdf hr;obtain ⟨rfl,rfl,x,h,rfl⟩:=hr
 obtain rfl:=Xao hc
 exact ⟨_,rfl,XHV XaH XbJ hS _ x h⟩
def XcV:(List UInt8)→Option (Int×Int×Int):=Xg4 XaH XbJ
theorem XVk:Xan Tryz.prog 60 (s60 XcV):=ok60 XaH XbJ (Xai.XaW ⟨Xtf,XuZ,trivial⟩)
def Xfj (Xal:(List UInt8)→Int→Int→Option Int) (l:(List XbD)×Int) (i:Int):Option (Sum Int (Int×Int×Int)):=
 cond (decide (i<(l.1.length:Int)))
  (
  XaK (decide ((0:Int)≤i∧i<(l.1.length:Int))) <|
  (l.1[i.toNat]?).bind fun (e:XbD)=>
  cond (e.Kind==8)
   (
   XaK (decide ((0:Int)≤i∧i<(l.1.length:Int))) <|
   cond ((e.Data.length:Int) !=8)
    (
    some (.inr ((0,0,(-1)))))
    (
    XaK (decide ((0:Int)≤i∧i<(l.1.length:Int))) <|
    (Xal e.Data 0 4).bind fun m=>
    XaK (decide ((0:Int)≤i∧i<(l.1.length:Int))) <|
    (Xal e.Data 4 4).bind fun m1=>
    XaK (decide ((0:Int)≤i∧i<(l.1.length:Int))) <|
    some (.inr ((wI .u32 m,wI .u32 m1,e.At)))))
   (
   some (.inl (wI .i64 (i+1)))))
  (
  some (.inr ((0,0,(-1)))))
def XgT (Xal:(List UInt8)→Int→Int→Option Int) (XbI:(List UInt8)→Option ((List XbD)×Int)) (options:List UInt8):Option (Int×Int×Int):=
 (XbI options).bind fun l=>
 iter (fun st=>Xfj Xal l st) FUEL 0
def XLm (x:Int×Int×Int):Xco:=⟨.tuple ⟨[.int .u32 x.1,.int .u32 x.2.1,.int .i64 x.2.2]⟩,[],[]⟩
def r58 (g:(List UInt8)→Option (Int×Int×Int)):Dec:=dV asS fun (y0:List UInt8)=>Xc4 (ofG (g y0) XLm)
theorem r58_c {g:(List UInt8)→Option (Int×Int×Int)} {y0:List UInt8} {x:Int×Int×Int} (hx:g y0=some x):r58 g [.string ⟨⟨y0⟩⟩] []=some (XLm x):=(XaS (XdJ)).trans (XaZ hx)
def s58 (g:(List UInt8)→Option (Int×Int×Int)):Xbp:=⟨[.v],r58 g⟩
theorem XOT {g:(List UInt8)→Option (Int×Int×Int)} {y0:List UInt8} {x:Int×Int×Int} (hx:g y0=some x):(s58 g).run [.string ⟨⟨y0⟩⟩] []=some (XLm x):=r58_c hx
abbrev Xuv (Xal:(List UInt8)→Int→Int→Option Int) (XbI:(List UInt8)→Option ((List XbD)×Int)):List (Nat×Xbp):=[(44,s44 Xal),(101,X0t XbI)]
def XkR (l:(List XbD)×Int) (i:Int):VM:=
 ⟨⟨58,51,[(5,.slice (some ⟨0,0,none⟩) l.1.length 3),(7,.int .i64 i)],[.code Xt6,.inLoop Xt6,.inBlock 0,.code XAo],[],false,none⟩,[],[(0,.row true (vT XfQ l.1))],1⟩
theorem Xw2 (Xal:(List UInt8)→Int→Int→Option Int) (XbI:(List UInt8)→Option ((List XbD)×Int)) (hS:Xai Tryz.prog (Xar (Xuv Xal XbI))) (l:(List XbD)×Int) (res:Int×Int×Int):∀ fuel (st:Int) (o:Int×Int×Int),iter (fun st=>Xfj Xal l st) fuel st=some o→(o=res) →
 XaD Tryz.prog 58 0 (XkR l st) (fun v H _=>Res 0 (XLm res) v H):=by
 intro fuel st o h hc
 refine Xcm (head:=fun st=>XkR l st) (C:=fun o=>(o=res)) ?_ fuel st o h hc
 clear h hc o st fuel
 intro i o h hc
 replace h:Xfj Xal l i=some o:=h
 show XaD Tryz.prog 58 0 (XkR l i) (fun v H _=>Res 0 (XLm res) v H)
 unfold Xfj at h
 refine Xa9 Xam hS true 3000 ?_
 conv=>whnf
 refine br.h2 h ?_ ?_ ?_
 ·rfl
 ·clear h;intro hb h;conv=>whnf
  all_goals (cases h;cases hc;exact Res.z rfl rfl rfl)
 clear h;intro hb h;conv=>whnf
 replace h:=XaK.elim h;obtain ⟨hb,h⟩:=h
 first|(refine req.intro hb ?_;conv=>whnf)|skip
 replace h:=Xak.elim h;obtain ⟨e,hy,h⟩:=h
 refine rd.T (j:=0) Xdy hy (by first|omega|exact Nat.zero_add _|exact congrArg (·+_) (Nat.zero_add _)) (by decide) rfl ?_
 conv=>whnf
 refine br.h2 h ?_ ?_ ?_
 ·rfl
 ·clear h;intro hb h;conv=>whnf
  cases h;simp only [Sum.elim_inl,XkR] at hc
  exact Xkm hc [(0,0)] rfl
 clear h;intro hb h;conv=>whnf
 replace h:=XaK.elim h;obtain ⟨hb,h⟩:=h
 first|(refine req.intro hb ?_;conv=>whnf)|skip
 refine rd.T (i:=i.toNat) (x:=e) (j:=1) Xdy (by assumption) (by first|omega|exact Nat.zero_add _|exact congrArg (·+_) (Nat.zero_add _)) (by decide) rfl ?_
 conv=>whnf
 refine br.h h ?_ ?_ ?_
 ·rfl
 ·clear h;intro hb h;conv=>whnf
  all_goals (cases h;cases hc;exact Res.z rfl rfl rfl)
 clear h;intro hb h;conv=>whnf
 replace h:=XaK.elim h;obtain ⟨hb,h⟩:=h
 first|(refine req.intro hb ?_;conv=>whnf)|skip
 refine rd.T (i:=i.toNat) (x:=e) (j:=1) Xdy (by assumption) (by first|omega|exact Nat.zero_add _|exact congrArg (·+_) (Nat.zero_add _)) (by decide) rfl ?_
 conv=>whnf
 replace h:=Xak.elim h;obtain ⟨m,hy,h⟩:=h
 refine XaG.q rfl rfl (Xe3 hy) rfl rfl rfl ?_
 conv=>whnf
 replace h:=XaK.elim h;obtain ⟨hb,h⟩:=h
 first|(refine req.intro hb ?_;conv=>whnf)|skip
 refine rd.T (i:=i.toNat) (x:=e) (j:=1) Xdy (by assumption) (by first|omega|exact Nat.zero_add _|exact congrArg (·+_) (Nat.zero_add _)) (by decide) rfl ?_
 conv=>whnf
 replace h:=Xak.elim h;obtain ⟨m1,hy,h⟩:=h
 refine XaG.q rfl rfl (Xe3 hy) rfl rfl rfl ?_
 conv=>whnf
 replace h:=XaK.elim h;obtain ⟨hb,h⟩:=h
 first|(refine req.intro hb ?_;conv=>whnf)|skip
 refine rd.T (i:=i.toNat) (x:=e) (j:=2) Xdy (by assumption) (by first|omega|exact Nat.zero_add _|exact congrArg (·+_) (Nat.zero_add _)) (by decide) rfl ?_
 conv=>whnf
 all_goals (cases h;cases hc;exact Res.z rfl rfl rfl)
theorem XIR (Xal:(List UInt8)→Int→Int→Option Int) (XbI:(List UInt8)→Option ((List XbD)×Int)) (hS:Xai Tryz.prog (Xar (Xuv Xal XbI))) (options:List UInt8) (res:Int×Int×Int) (h:XgT Xal XbI options=some res) :
 XaD Tryz.prog 58 0 ⟨⟨58,51,[(0,.string ⟨⟨options⟩⟩)],[.code XzZ],[],false,none⟩,[],[],0⟩ (fun v H _=>Res 0 (XLm res) v H):=by
 unfold XgT at h
 refine Xa9 Xam hS true 3000 ?_
 conv=>whnf
 replace h:=Xak.elim h;obtain ⟨l,hy,h⟩:=h
 refine XaG.Xba [] (Xat (aqs:=[.string ⟨⟨options⟩⟩]) (ws:=[]) (n:=1) (m:=0) (t':=1) (Xas rfl rfl Xbd) rfl (by rfl) (XuK hy) rfl rfl rfl rfl Xbc (XhO (XpV Xct) Xbb) rfl) ?_
 conv=>whnf
 have hl:=Xw2 Xal XbI hS _ res _ _ _ h rfl;simp only [XkR] at hl
 exact Xkm hl [(0,0)] rfl
theorem ok58 (Xal:(List UInt8)→Int→Int→Option Int) (XbI:(List UInt8)→Option ((List XbD)×Int)) (hS:Xai Tryz.prog (Xar (Xuv Xal XbI))):Xan Tryz.prog 58 (s58 (XgT Xal XbI)):=by
 refine Xan.Xau Xam (fun ar os r ha hr=>?_) ⟨Tryz.f58,rfl,by decide,rfl⟩
 replace hr:r58 (XgT Xal XbI) ar (XaA os)=some r:=hr
 unfold r58 at hr
 generalize hc:XaA os=C at hr
 replace hr:=dV.elim hr;obtain ⟨v0,l1,y0,rfl,e0,hr⟩:=hr;obtain rfl:=Xb7 _ _ e0
 replace hr:=Xdf hr;obtain ⟨rfl,rfl,x,h,rfl⟩:=hr
 obtain rfl:=Xao hc
 exact ⟨_,rfl,XIR Xal XbI hS _ x h⟩
def XcY:(List UInt8)→Option (Int×Int×Int):=XgT Xal XbI
theorem X3A:Xan Tryz.prog 58 (s58 XcY):=ok58 Xal XbI (Xai.XaW ⟨Xmh,XuT,trivial⟩)
end Go.Vm.Code
namespace Go.Vm.Code
open Go Go.Vm
def stL:List XvC→Int×Int×Int
 | []=>(0,0,-1)
 | o::l=>if o.Kind=8 then (if o.Data.length=8 then (vK o.Data 0 4,vK o.Data 4 4,o.At) else (0,0,-1)) else stL l
def Xj0 (s:List UInt8):Int×Int×Int:=stL (Xk0 s).1
theorem XlT (s:List UInt8):∀ (n i:Nat) (out:List XvC),XhL s n i out=if (XhL s n i []).2=0 then (out++(XhL s n i []).1,0) else ([],3):=by
 intro n
 induction n using Nat.strongRecOn with
 | ind n ih=>
   intro i out
   cases n with
   | zero=>rw [XhL,XhL];simp
   | succ n=>
     have e:∀ o,XhL s (n+1) i o=match s[i]? with
      | none=>(o,0)
      | some b=>if b=0 then (o,0) else if b=1 then XhL s n (i+1) o else match s[i+1]? with
        | none=>([],3)
        | some k=>if k.toNat<2 then ([],3) else if s.length - i<k.toNat then ([],3) else
           XhL s (n+1 - k.toNat) (i+k.toNat) (o++[⟨(b.toNat:Int),(s.drop (i+2)).take (k.toNat - 2),((i+2:Nat):Int)⟩]):=fun o=>by rw [XhL];try (cases s[i]?<;>cases s[i+1]?<;>rfl)
     rw [e out,e []]
     cases s[i]? with
     | none=>simp
     | some b=>
       simp only
       by_cases h0:b=0
       ·simp [h0]
       rw [if_neg h0,if_neg h0]
       by_cases h1:b=1
       ·rw [if_pos h1,if_pos h1];exact ih n (by omega) _ _
       rw [if_neg h1,if_neg h1]
       cases s[i+1]? with
       | none=>simp
       | some k=>
         simp only
         by_cases h2:k.toNat<2
         ·simp [h2]
         by_cases h3:s.length - i<k.toNat
         ·simp [h2,h3]
         rw [if_neg h2,if_neg h2,if_neg h3,if_neg h3,ih _ (by omega) _ (out++_),ih _ (by omega) _ ([]++_)]
         by_cases hz:(XhL s (n+1 - k.toNat) (i+k.toNat) []).2=0
         ·simp [hz]
         ·simp [hz]
theorem Xrr {s:List UInt8} (h:(Xk0 s).2≠0):(Xk0 s).1=[]:=by
 unfold Xk0 at *
 have:=XlT s s.length 0 []
 rw [if_neg h] at this
 rw [this]
theorem XHd {s:List UInt8}:∀ (n i:Nat),∀ o∈(XhL s n i []).1,i≤o.At.toNat∧0≤o.At∧o.At.toNat+o.Data.length≤s.length∨(XhL s n i []).2≠0:=by
 intro n
 induction n using Nat.strongRecOn with
 | ind n ih=>
   intro i o ho
   cases n with
   | zero=>rw [XhL] at ho;simp at ho
   | succ n=>
     rw [XhL] at ho ⊢
     cases hb:s[i]? with
     | none=>rw [hb] at ho;simp at ho
     | some b=>
       rw [hb] at ho
       simp only at ho ⊢
       by_cases h0:b=0
       ·rw [if_pos h0] at ho;simp at ho
       rw [if_neg h0] at ho ⊢
       by_cases h1:b=1
       ·rw [if_pos h1] at ho ⊢
        rcases ih n (by omega) _ o ho with h|h
        ·left;omega
        ·right;exact h
       rw [if_neg h1] at ho ⊢
       cases hk:s[i+1]? with
       | none=>rw [hk] at ho;simp at ho
       | some k=>
         rw [hk] at ho
         simp only at ho ⊢
         by_cases h2:k.toNat<2
         ·rw [if_pos h2] at ho;simp at ho
         rw [if_neg h2] at ho ⊢
         by_cases h3:s.length - i<k.toNat
         ·rw [if_pos h3] at ho;simp at ho
         rw [if_neg h3] at ho ⊢
         rw [XlT] at ho ⊢
         by_cases hz:(XhL s (n+1 - k.toNat) (i+k.toNat) []).2=0
         ·rw [if_pos hz] at ho
          simp only [List.nil_append,List.mem_append,List.mem_singleton] at ho
          left
          have hi:i<s.length:=by
           rcases Nat.lt_or_ge i s.length with h|h
           ·exact h
           ·rw [List.getElem?_eq_none h] at hb;cases hb
          rcases ho with rfl|ho
          ·simp only [List.length_take,List.length_drop];omega
          ·rcases ih _ (by omega) _ o ho with h|h
           ·omega
           ·exact absurd hz h
         ·right;rw [if_neg hz];decide
theorem XKK {s:List UInt8} (hs:s.length<2^20):XcY s=some (Xj0 s):=by
 unfold XcY XgT Xj0
 rw [X5n hs,Option.bind_some]
 have hlen:∀ o∈(Xk0 s).1,o.Data.length<2^61:=by
  intro o ho
  unfold Xk0 at ho
  rcases XHd _ _ o ho with h|h
  ·omega
  ·have:=Xrr (s:=s) h
   unfold Xk0 at this
   rw [this] at ho;simp at ho
 have hcount:(Xk0 s).1.length<2^60:=by
  have key:∀ n i out,(XhL s n i out).1.length≤out.length+n:=by
   intro n
   induction n using Nat.strongRecOn with
   | ind n ih=>
     intro i out
     cases n with
     | zero=>rw [XhL];simp
     | succ n=>
       rw [XhL]
       split
       ·simp
       split
       ·simp
       split
       ·have:=ih n (by omega) (i+1) out;omega
       split
       ·simp
       split
       ·simp
       split
       ·simp
       refine Nat.le_trans (ih _ (by omega) _ _) ?_
       simp;omega
  have:=key s.length 0 []
  unfold Xk0
  simp at this;omega
 generalize Xk0 s=L at *
 have key:=iter_eq (step:=fun st=>Xfj Xal (L.1.map toR,L.2) st) (fun st=>stL (L.1.drop st.toNat)) (fun st=>0≤st∧st≤L.1.length) (fun st=>((L.1.length:Int) - st).toNat) ?_ FUEL 0 ⟨by omega,by omega⟩ (by rw [XeV];omega)
 ·rw [key];simp
 intro st ⟨g1,g2⟩
 obtain ⟨i,rfl⟩:=Int.eq_ofNat_of_zero_le g1
 unfold Xfj
 simp only [Int.toNat_natCast,List.length_map,List.getElem?_map]
 by_cases hp:i<L.1.length
 ·have ed:L.1.drop i=L.1[i]::L.1.drop (i+1):=List.drop_eq_getElem_cons hp
  have hd:=hlen _ (List.getElem_mem hp)
  rw [XaV (by omega),Xaz (by omega),List.getElem?_eq_getElem hp,Option.map_some,Option.bind_some,ed,stL]
  simp only [toR]
  by_cases h8:L.1[i].Kind=8
  ·refine .inl ?_
   rw [show (L.1[i].Kind==8)=true by simpa using h8,cond_true,if_pos h8,Xaz (by omega)]
   by_cases hl:L.1[i].Data.length=8
   ·have r0:=Xej L.1[i].Data 0 4 4294967296 (by decide)
    have r4:=Xej L.1[i].Data 4 4 4294967296 (by decide)
    have m0:Xal L.1[i].Data 0 4=some (vK L.1[i].Data 0 4):=XnU (p:=0) (k:=4) hd (by omega) (by omega) (by omega)
    have m4:Xal L.1[i].Data 4 4=some (vK L.1[i].Data 4 4):=XnU (p:=4) (k:=4) hd (by omega) (by omega) (by omega)
    rw [show (((L.1[i].Data.length:Nat):Int) !=8)=false by simp;omega,cond_false,if_pos hl,Xaz (by omega),m0,Option.bind_some,Xaz (by omega),m4,Option.bind_some,Xaz (by omega),XwG r0.1 r0.2,XwG r4.1 r4.2]
   ·rw [show (((L.1[i].Data.length:Nat):Int) !=8)=true by simp;omega,cond_true,if_neg hl]
  ·refine .inr ⟨((i+1:Nat):Int),?_,⟨by omega,by omega⟩,by omega,?_⟩
   ·rw [show (L.1[i].Kind==8)=false by simpa using h8,cond_false,XcC (by omega) (by omega)];rfl
   ·rw [if_neg h8,Int.toNat_natCast]
 ·refine .inl ?_
  rw [XaM (by omega),List.drop_of_length_le (by omega)];rfl
theorem val8 {t:List UInt8} (h:t.length=8):((Xd0 t:Nat):Int)=vK t 0 4*4294967296+vK t 4 4:=by
 unfold vK
 have e:t.take 4++(t.drop 4).take 4=t:=by rw [List.take_of_length_le (l:=t.drop 4) (by simp;omega),List.take_append_drop]
 have:=val_append (t.take 4) ((t.drop 4).take 4)
 rw [e,show ((t.drop 4).take 4).length=4 by simp;omega] at this
 rw [List.drop_zero,this]
 omega
theorem XG1 {s:List UInt8} (hs:s.length<2^20):XcV s=some (Xj0 s):=by
 unfold XcV Xg4
 rw [XZ6 hs,Option.bind_some]
 by_cases hz:(Xk0 s).2=0
 ·rw [show ((Xk0 s).2 !=0)=false by simpa using hz,cond_false]
  unfold Xj0 Xk0
  unfold Xk0 at hz
  have key:=iter_eq (step:=fun st=>Xfm XaH s st) (fun st=>stL (XhL s (s.length - st.toNat) st.toNat []).1) (fun st=>0≤st∧st≤s.length∧(XhL s (s.length - st.toNat) st.toNat []).2=0) (fun st=>s.length - st.toNat) ?_ FUEL 0 ⟨by omega,by omega,by simpa using hz⟩ (by rw [XeV];omega)
  ·rw [key];rfl
  intro st ⟨g1,g2,g3⟩
  obtain ⟨i,rfl⟩:=Int.eq_ofNat_of_zero_le g1
  simp only [Int.toNat_natCast] at g3 ⊢
  unfold Xfm
  by_cases hi:i<s.length
  ·obtain ⟨n,hn⟩:∃ n,s.length - i=n+1:=⟨s.length - i - 1,by omega⟩
   have e:s[i]?=some s[i]:=List.getElem?_eq_getElem hi
   rw [hn,XhL,e] at g3
   simp only at g3
   rw [XaV (by omega),Xaz (by omega),Int.toNat_natCast,e,Option.bind_some,hn,XhL,e]
   by_cases h0:s[i]=0
   ·refine .inl ?_
    rw [show ((s[i].toNat:Int)==0)=true by rw [h0];rfl,cond_true]
    simp only [h0,if_true];rfl
   rw [show ((s[i].toNat:Int)==0)=false by simp;intro hx;exact h0 (UInt8.toNat_inj.1 (by simpa using hx)),cond_false]
   rw [if_neg h0] at g3
   simp only [if_neg h0]
   by_cases h1:s[i]=1
   ·rw [if_pos h1] at g3
    refine .inr ⟨((i+1:Nat):Int),?_,⟨by omega,by omega,?_⟩,by omega,?_⟩
    ·rw [show ((s[i].toNat:Int)==1)=true by rw [h1];rfl,cond_true,XcC (by omega) (by omega)];rfl
    ·rw [Int.toNat_natCast,show s.length - (i+1)=n by omega];exact g3
    ·simp only [Int.toNat_natCast,if_pos h1]
     rw [show s.length - (i+1)=n by omega]
   rw [show ((s[i].toNat:Int)==1)=false by simp;intro hx;exact h1 (UInt8.toNat_inj.1 (by simp;omega)),cond_false]
   rw [if_neg h1] at g3
   simp only [if_neg h1]
   rw [XcC (n:=(i:Int)+1) (by omega) (by omega)]
   by_cases h2:s.length≤i+1
   ·rw [List.getElem?_eq_none (by omega)] at g3
    simp at g3
   have hi1:i+1<s.length:=by omega
   have e1:s[i+1]?=some s[i+1]:=List.getElem?_eq_getElem hi1
   have b1:=s[i+1].toNat_lt
   rw [e1] at g3
   simp only at g3
   rw [XaV (by omega),show ((i:Int)+1).toNat=i+1 by omega,e1,Xaz (by omega),Option.bind_some]
   simp only [Option.bind_some]
   rw [XcC (n:=(s[i+1].toNat:Int)) (by omega) (by omega)]
   by_cases h3:s[i+1].toNat<2
   ·rw [if_pos h3] at g3
    exact absurd g3 (by decide)
   rw [if_neg h3] at g3
   rw [XaM (by omega),if_neg h3,XcC (n:=(s.length:Int) - i) (by omega) (by omega)]
   by_cases h4:s.length - i<s[i+1].toNat
   ·rw [if_pos h4] at g3
    exact absurd g3 (by decide)
   rw [if_neg h4,XlT] at g3
   have b0:=s[i].toNat_lt
   have hz2:(XhL s (n+1 - s[i+1].toNat) (i+s[i+1].toNat) []).2=0:=by
    apply Decidable.byContradiction
    intro hx
    rw [if_neg hx] at g3
    exact absurd g3 (by decide)
   rw [if_neg h4,XlT,if_pos hz2,XaM (by omega),Xaz (by omega),XcC (n:=(i:Int)+s[i+1].toNat) (by omega) (by omega),XcC (n:=(i:Int)+2) (by omega) (by omega),XcC (n:=(s[i].toNat:Int)) (by omega) (by omega),Xaz (by omega),show ((i:Int)+s[i+1].toNat).toNat - ((i:Int)+2).toNat=s[i+1].toNat - 2 by omega,show ((i:Int)+2).toNat=i+2 by omega]
   simp only [List.nil_append,List.cons_append,stL]
   have hdl:((s.drop (i+2)).take (s[i+1].toNat - 2)).length=s[i+1].toNat - 2:=by simp;omega
   generalize (s.drop (i+2)).take (s[i+1].toNat - 2)=D at *
   by_cases h8:(s[i].toNat:Int)=8
   ·refine .inl ?_
    rw [show ((s[i].toNat:Int) !=8)=false by simpa using h8,cond_false,if_pos h8,XeJ (by omega),Option.bind_some]
    by_cases hl:D.length=8
    ·rw [XgE (by omega) (by omega) (by omega) (by omega),if_pos hl]
     have r0:=Xej D 0 4 4294967296 (by decide)
     have r4:=Xej D 4 4 4294967296 (by decide)
     have hv:=val8 hl
     have ev:(D.drop (0:Int).toNat).take (8:Int).toNat=D:=by
      rw [show (0:Int).toNat=0 from rfl,show (8:Int).toNat=8 from rfl,List.drop_zero,List.take_of_length_le (by omega)]
     simp only [cond_true,ev]
     rw [show ((D.length:Int)==8)=true by simp;omega,cond_true,hv,XoJ,show ((2:Int)^32)=4294967296 from rfl,show (vK D 0 4*4294967296+vK D 4 4)/4294967296=vK D 0 4 by omega,XwG r0.1 r0.2,wU32m,show (vK D 0 4*4294967296+vK D 4 4)%4294967296=vK D 4 4 by omega];rfl
    ·rw [if_neg hl]
     rw [show ((D.length:Int)==8)=false by simp;omega]
     cases (XsL D 0 8).2<;>rfl
   ·refine .inr ⟨((i+s[i+1].toNat:Nat):Int),?_,⟨by omega,by omega,?_⟩,by omega,?_⟩
    ·rw [show ((s[i].toNat:Int) !=8)=true by simpa using h8,cond_true];rfl
    ·rw [Int.toNat_natCast,show s.length - (i+s[i+1].toNat)=n+1 - s[i+1].toNat by omega];exact hz2
    ·rw [Int.toNat_natCast,show s.length - (i+s[i+1].toNat)=n+1 - s[i+1].toNat by omega,if_neg h8]
  ·refine .inl ?_
   rw [XaM (by omega),show s.length - i=0 by omega,XhL];rfl
 ·rw [show ((Xk0 s).2 !=0)=true by simpa using hz,cond_true]
  unfold Xj0
  rw [Xrr hz];rfl
theorem l8 {l:List UInt8} (h:l.length=8):∃ a b c d e f g i,l=[a,b,c,d,e,f,g,i]:=by
 match l,h with
 | [a,b,c,d,e,f,g,i],_=>exact ⟨a,b,c,d,e,f,g,i,rfl⟩
theorem XlB (r:Xab) (k:Int):(rdr r k).s.length≤r.s.length:=by unfold rdr;split<;>simp
def b1 (s:List UInt8) (i:Nat):Nat:=Xd0 ((s.drop i).take 1)
theorem XAj {s:List UInt8} {i:Nat} (h:i<s.length):b1 s i=s[i].toNat:=by
 unfold b1
 rw [List.drop_eq_getElem_cons h]
 show Xd0 [s[i]]=_
 rw [Xe6];simp
theorem Xx1 (s:List UInt8) (i:Nat):b1 s i<256:=XdK _ (by decide)
end Go.Vm.Code
namespace Go.Vm.Code
open Go Go.Vm Go.Proofs
set_option maxRecDepth 100000
set_option maxHeartbeats 4000000
set_option linter.unusedVariables false
def Xjq (XaB:(List UInt8)→Option Bool) (Xav:Xaa→Xaa→Int→Int→Option (List UInt8)) (Xaw:(List UInt8)→Option Xab) (Xae:Xab→Option (Bool×Xab)) (Xad:Xab→Int→Option (Int×Xab)) (s:List UInt8) (src:Xaa) (dst:Xaa):Option (XaC×(List UInt8)×Int):=
 (Xaw s).bind fun n=>
 (Xad n 2).bind fun n1=>
 (Xad n1.2 2).bind fun n2=>
 (Xad n2.2 2).bind fun n3=>
 (Xad n3.2 2).bind fun n4=>
 (Xae n4.2).bind fun b=>
 cond (b.1)
  (
  some ((XaC.mk 0 0,[],2)))
  (
  cond (decide (n3.1<8))
   (
   some ((XaC.mk 0 0,[],3)))
   (
   cond (decide (n3.1>(s.length:Int)))
    (
    some ((XaC.mk 0 0,[],2)))
    (
    (Xav src dst 17 n3.1).bind fun p=>
    cond (p==[])
     (
     some ((XaC.mk 0 0,[],1)))
     (
     cond (n4.1==0)
      (
      cond (src.V6)
       (
       some ((XaC.mk 0 0,[],4)))
       (
       cond (n4.1 !=0)
        (
        XaK (decide ((0:Int)≤n3.1∧n3.1≤(s.length:Int))) <|
        XaK (decide (p.length+(s.take n3.1.toNat).length<2^63)) <|
        (XaB (p++(s.take n3.1.toNat))).bind fun xr=>
        cond (!xr)
         (
         some ((XaC.mk 0 0,[],4)))
         (
         XaK (decide ((0:Int)≤n3.1∧n3.1≤(s.length:Int)∧(0:Int)≤(8:Int)∧(8:Int)≤(n3.1.toNat:Int))) <|
         some ((XaC.mk n1.1 n2.1,(s.drop 8).take (n3.1.toNat - 8),0))))
        (
        XaK (decide ((0:Int)≤n3.1∧n3.1≤(s.length:Int)∧(0:Int)≤(8:Int)∧(8:Int)≤(n3.1.toNat:Int))) <|
        some ((XaC.mk n1.1 n2.1,(s.drop 8).take (n3.1.toNat - 8),0)))))
      (
      cond (n4.1 !=0)
       (
       XaK (decide ((0:Int)≤n3.1∧n3.1≤(s.length:Int))) <|
       XaK (decide (p.length+(s.take n3.1.toNat).length<2^63)) <|
       (XaB (p++(s.take n3.1.toNat))).bind fun xr1=>
       cond (!xr1)
        (
        some ((XaC.mk 0 0,[],4)))
        (
        XaK (decide ((0:Int)≤n3.1∧n3.1≤(s.length:Int)∧(0:Int)≤(8:Int)∧(8:Int)≤(n3.1.toNat:Int))) <|
        some ((XaC.mk n1.1 n2.1,(s.drop 8).take (n3.1.toNat - 8),0))))
       (
       XaK (decide ((0:Int)≤n3.1∧n3.1≤(s.length:Int)∧(0:Int)≤(8:Int)∧(8:Int)≤(n3.1.toNat:Int))) <|
       some ((XaC.mk n1.1 n2.1,(s.drop 8).take (n3.1.toNat - 8),0))))))))
def Xyo (x:XaC×(List UInt8)×Int):Xco:=⟨.tuple ⟨[.agg ⟨[.int .i64 x.1.SPort,.int .i64 x.1.DPort]⟩,.string ⟨⟨x.2.1⟩⟩,.int .i64 x.2.2]⟩,[],[]⟩
def r108 (g:(List UInt8)→Xaa→Xaa→Option (XaC×(List UInt8)×Int)):Dec:=dV asS fun (y0:List UInt8)=>dV Xa8 fun (y1:Xaa)=>dV Xa8 fun (y2:Xaa)=>Xc4 (ofG (g y0 y1 y2) Xyo)
theorem XSm {g:(List UInt8)→Xaa→Xaa→Option (XaC×(List UInt8)×Int)} {y0:List UInt8} {y1:Xaa} {y2:Xaa} {x:XaC×(List UInt8)×Int} (hx:g y0 y1 y2=some x):r108 g [.string ⟨⟨y0⟩⟩,.agg ⟨[.bool y1.V6,.int .u64 y1.Hi,.int .u64 y1.Lo]⟩,.agg ⟨[.bool y2.V6,.int .u64 y2.Hi,.int .u64 y2.Lo]⟩] []=some (Xyo x):=(XaS (XdJ)).trans ((XaS (XaY _)).trans ((XaS (XaY _)).trans (XaZ hx)))
def s108 (g:(List UInt8)→Xaa→Xaa→Option (XaC×(List UInt8)×Int)):Xbp:=⟨[.v,.v,.v],r108 g⟩
theorem XJh {g:(List UInt8)→Xaa→Xaa→Option (XaC×(List UInt8)×Int)} {y0:List UInt8} {y1:Xaa} {y2:Xaa} {x:XaC×(List UInt8)×Int} (hx:g y0 y1 y2=some x):(s108 g).run [.string ⟨⟨y0⟩⟩,.agg ⟨[.bool y1.V6,.int .u64 y1.Hi,.int .u64 y1.Lo]⟩,.agg ⟨[.bool y2.V6,.int .u64 y2.Hi,.int .u64 y2.Lo]⟩] []=some (Xyo x):=XSm hx
abbrev XsX (XaB:(List UInt8)→Option Bool) (Xav:Xaa→Xaa→Int→Int→Option (List UInt8)) (Xaw:(List UInt8)→Option Xab) (Xae:Xab→Option (Bool×Xab)) (Xad:Xab→Int→Option (Int×Xab)):List (Nat×Xbp):=[(131,XLn XaB),(109,XLr Xav),(61,s61 Xaw),(63,s63 Xae),(62,s62 Xad)]
theorem XyZ (XaB:(List UInt8)→Option Bool) (Xav:Xaa→Xaa→Int→Int→Option (List UInt8)) (Xaw:(List UInt8)→Option Xab) (Xae:Xab→Option (Bool×Xab)) (Xad:Xab→Int→Option (Int×Xab)) (hS:Xai Tryz.prog (Xar (XsX XaB Xav Xaw Xae Xad))) (s:List UInt8) (src:Xaa) (dst:Xaa) (res:XaC×(List UInt8)×Int) (h:Xjq XaB Xav Xaw Xae Xad s src dst=some res) :
 XaD Tryz.prog 108 0 ⟨⟨108,70,[(0,.string ⟨⟨s⟩⟩),(1,.agg ⟨[.bool src.V6,.int .u64 src.Hi,.int .u64 src.Lo]⟩),(2,.agg ⟨[.bool dst.V6,.int .u64 dst.Hi,.int .u64 dst.Lo]⟩)],[.code Xu5],[],false,none⟩,[],[],0⟩ (fun v H _=>Res 0 (Xyo res) v H):=by
 unfold Xjq at h
 refine Xa9 Xam hS true 3000 ?_
 conv=>whnf
 replace h:=Xak.elim h;obtain ⟨n,hy,h⟩:=h
 refine XaG.Xba [3] (Xat (aqs:=[.string ⟨⟨s⟩⟩]) (ws:=[]) (n:=1) (m:=0) (t':=4) (Xas rfl rfl Xbd) rfl (by rfl) (Xpf hy) rfl rfl rfl rfl Xbc (XhO (rfl) Xbb) rfl) ?_
 conv=>whnf
 replace h:=Xak.elim h;obtain ⟨n1,hy,h⟩:=h
 refine XaG.Xba [3] (Xat (aqs:=[.pointer (some ⟨0,0,none⟩),.int .i64 2]) (ws:=[.win 3 0 3 true]) (n:=0) (m:=0) (t':=4) (Xas rfl rfl (Xas rfl rfl Xbd)) rfl (by rfl) (XdR hy) rfl rfl rfl rfl (XbK rfl rfl rfl ⟨rfl,Nat.le_of_ble_eq_true rfl⟩ rfl rfl Xbc) Xbb rfl) ?_
 conv=>whnf
 replace h:=Xak.elim h;obtain ⟨n2,hy,h⟩:=h
 refine XaG.Xba [3] (Xat (aqs:=[.pointer (some ⟨0,0,none⟩),.int .i64 2]) (ws:=[.win 3 0 3 true]) (n:=0) (m:=0) (t':=4) (Xas rfl rfl (Xas rfl rfl Xbd)) rfl (by rfl) (XdR hy) rfl rfl rfl rfl (XbK rfl rfl rfl ⟨rfl,Nat.le_of_ble_eq_true rfl⟩ rfl rfl Xbc) Xbb rfl) ?_
 conv=>whnf
 replace h:=Xak.elim h;obtain ⟨n3,hy,h⟩:=h
 refine XaG.Xba [3] (Xat (aqs:=[.pointer (some ⟨0,0,none⟩),.int .i64 2]) (ws:=[.win 3 0 3 true]) (n:=0) (m:=0) (t':=5) (Xas rfl rfl (Xas rfl rfl Xbd)) rfl (by rfl) (XdR hy) rfl rfl rfl rfl (XbK rfl rfl rfl ⟨rfl,Nat.le_of_ble_eq_true rfl⟩ rfl rfl Xbc) Xbb rfl) ?_
 conv=>whnf
 replace h:=Xak.elim h;obtain ⟨n4,hy,h⟩:=h
 refine XaG.Xba [3] (Xat (aqs:=[.pointer (some ⟨0,0,none⟩),.int .i64 2]) (ws:=[.win 3 0 3 true]) (n:=0) (m:=0) (t':=5) (Xas rfl rfl (Xas rfl rfl Xbd)) rfl (by rfl) (XdR hy) rfl rfl rfl rfl (XbK rfl rfl rfl ⟨rfl,Nat.le_of_ble_eq_true rfl⟩ rfl rfl Xbc) Xbb rfl) ?_
 conv=>whnf
 replace h:=Xak.elim h;obtain ⟨b,hy,h⟩:=h
 refine XaG.Xba [3] (Xat (aqs:=[.pointer (some ⟨0,0,none⟩)]) (ws:=[.win 3 0 3 true]) (n:=0) (m:=0) (t':=5) (Xas rfl rfl Xbd) rfl (by rfl) (XjQ hy) rfl rfl rfl rfl (XbK rfl rfl rfl ⟨rfl,Nat.le_of_ble_eq_true rfl⟩ rfl rfl Xbc) Xbb rfl) ?_
 conv=>whnf
 refine br.h h ?_ ?_ ?_
 ·rfl
 ·clear h;intro hb h;conv=>whnf
  all_goals (cases h;exact Res.z rfl rfl rfl)
 clear h;intro hb h;conv=>whnf
 refine br.h h ?_ ?_ ?_
 ·rfl
 ·clear h;intro hb h;conv=>whnf
  all_goals (cases h;exact Res.z rfl rfl rfl)
 clear h;intro hb h;conv=>whnf
 refine br.h h ?_ ?_ ?_
 ·rfl
 ·clear h;intro hb h;conv=>whnf
  all_goals (cases h;exact Res.z rfl rfl rfl)
 clear h;intro hb h;conv=>whnf
 replace h:=Xak.elim h;obtain ⟨p,hy,h⟩:=h
 refine XaG.q rfl rfl (Xqo hy) rfl rfl rfl ?_
 conv=>whnf
 refine br.h h ?_ ?_ ?_
 ·rfl
 ·clear h;intro hb h;conv=>whnf
  all_goals (cases h;exact Res.z rfl rfl rfl)
 clear h;intro hb h;conv=>whnf
 refine br.h2 h ?_ ?_ ?_
 ·rfl
 ·clear h;intro hb h;conv=>whnf
  refine br.h2 h ?_ ?_ ?_
  ·rfl
  ·clear h;intro hb h;conv=>whnf
   replace h:=XaK.elim h;obtain ⟨hb,h⟩:=h
   first|(refine req.intro hb ?_;conv=>whnf)|skip
   all_goals (cases h;exact Res.z rfl rfl rfl)
  clear h;intro hb h;conv=>whnf
  replace h:=XaK.elim h;obtain ⟨hb,h⟩:=h
  first|(refine req.intro hb ?_;conv=>whnf)|skip
  replace h:=XaK.elim h;obtain ⟨hb,h⟩:=h
  first|(refine req.intro hb ?_;conv=>whnf)|skip
  replace h:=Xak.elim h;obtain ⟨xr1,hy,h⟩:=h
  refine XaG.q rfl rfl (Xoo hy) rfl rfl rfl ?_
  conv=>whnf
  refine br.h h ?_ ?_ ?_
  ·rfl
  ·clear h;intro hb h;conv=>whnf
   all_goals (cases h;exact Res.z rfl rfl rfl)
  clear h;intro hb h;conv=>whnf
  replace h:=XaK.elim h;obtain ⟨hb,h⟩:=h
  first|(refine req.intro hb ?_;conv=>whnf)|skip
  all_goals (cases h;exact Res.z rfl rfl rfl)
 clear h;intro hb h;conv=>whnf
 refine br.h h ?_ ?_ ?_
 ·rfl
 ·clear h;intro hb h;conv=>whnf
  refine br.pos ?_ ?_;(focus (clear h;first|assumption|(simp_all;done)))
  conv=>whnf
  all_goals (cases h;exact Res.z rfl rfl rfl)
 clear h;intro hb h;conv=>whnf
 refine br.h2 h ?_ ?_ ?_
 ·rfl
 ·clear h;intro hb h;conv=>whnf
  replace h:=XaK.elim h;obtain ⟨hb,h⟩:=h
  first|(refine req.intro hb ?_;conv=>whnf)|skip
  all_goals (cases h;exact Res.z rfl rfl rfl)
 clear h;intro hb h;conv=>whnf
 replace h:=XaK.elim h;obtain ⟨hb,h⟩:=h
 first|(refine req.intro hb ?_;conv=>whnf)|skip
 replace h:=XaK.elim h;obtain ⟨hb,h⟩:=h
 first|(refine req.intro hb ?_;conv=>whnf)|skip
 replace h:=Xak.elim h;obtain ⟨xr,hy,h⟩:=h
 refine XaG.q rfl rfl (Xoo hy) rfl rfl rfl ?_
 conv=>whnf
 refine br.h h ?_ ?_ ?_
 ·rfl
 ·clear h;intro hb h;conv=>whnf
  all_goals (cases h;exact Res.z rfl rfl rfl)
 clear h;intro hb h;conv=>whnf
 replace h:=XaK.elim h;obtain ⟨hb,h⟩:=h
 first|(refine req.intro hb ?_;conv=>whnf)|skip
 all_goals (cases h;exact Res.z rfl rfl rfl)
theorem ok108 (XaB:(List UInt8)→Option Bool) (Xav:Xaa→Xaa→Int→Int→Option (List UInt8)) (Xaw:(List UInt8)→Option Xab) (Xae:Xab→Option (Bool×Xab)) (Xad:Xab→Int→Option (Int×Xab)) (hS:Xai Tryz.prog (Xar (XsX XaB Xav Xaw Xae Xad))):Xan Tryz.prog 108 (s108 (Xjq XaB Xav Xaw Xae Xad)):=by
 refine Xan.Xau Xam (fun ar os r ha hr=>?_) ⟨Tryz.f108,rfl,by decide,rfl⟩
 replace hr:r108 (Xjq XaB Xav Xaw Xae Xad) ar (XaA os)=some r:=hr
 unfold r108 at hr
 generalize hc:XaA os=C at hr
 replace hr:=dV.elim hr;obtain ⟨v0,l1,y0,rfl,e0,hr⟩:=hr;obtain rfl:=Xb7 _ _ e0
 replace hr:=dV.elim hr;obtain ⟨v1,l2,y1,rfl,e1,hr⟩:=hr;obtain rfl:=XaN _ _ e1
 replace hr:=dV.elim hr;obtain ⟨v2,l3,y2,rfl,e2,hr⟩:=hr;obtain rfl:=XaN _ _ e2
 replace hr:=Xdf hr;obtain ⟨rfl,rfl,x,h,rfl⟩:=hr
 obtain rfl:=Xao hc
 exact ⟨_,rfl,XyZ XaB Xav Xaw Xae Xad hS _ _ _ x h⟩
def XeL:(List UInt8)→Xaa→Xaa→Option (XaC×(List UInt8)×Int):=Xjq XaB Xav Xaw Xae Xad
theorem XHb:Xan Tryz.prog 108 (s108 XeL):=ok108 XaB Xav Xaw Xae Xad (Xai.XaW ⟨XpS,Xqy,Xph,Xne,Xnn,trivial⟩)
def Xjr (Xal:(List UInt8)→Int→Int→Option Int) (Xbf:(List UInt8)→Option Int) (Xax:Xaa→Xaa→Int→Int→Option (List UInt8)) (s:List UInt8) (src:Xaa) (dst:Xaa):Option (XaC×(List UInt8)×Int):=
 cond (decide ((s.length:Int)<8))
  (
  some ((XaC.mk 0 0,[],2)))
  (
  (Xal s 4 2).bind fun m=>
  cond (decide (m<8))
   (
   some ((XaC.mk 0 0,[],3)))
   (
   cond (decide ((s.length:Int)<m))
    (
    some ((XaC.mk 0 0,[],2)))
    (
    (Xax src dst 17 m).bind fun p=>
    cond (p==[])
     (
     some ((XaC.mk 0 0,[],1)))
     (
     (Xal s 6 2).bind fun m1=>
     cond (m1==0)
      (
      cond (src.V6)
       (
       some ((XaC.mk 0 0,[],4)))
       (
       (Xal s 0 2).bind fun m2=>
       (Xal s 2 2).bind fun m3=>
       XaK (decide ((0:Int)≤m∧m≤(s.length:Int)∧(0:Int)≤(8:Int)∧(8:Int)≤(m.toNat:Int))) <|
       some ((XaC.mk m2 m3,(s.drop 8).take (m.toNat - 8),0))))
      (
      XaK (decide ((0:Int)≤m∧m≤(s.length:Int))) <|
      XaK (decide (p.length+(s.take m.toNat).length<2^63)) <|
      (Xbf (p++(s.take m.toNat))).bind fun s1=>
      cond (s1 !=65535)
       (
       some ((XaC.mk 0 0,[],4)))
       (
       (Xal s 0 2).bind fun m4=>
       (Xal s 2 2).bind fun m5=>
       XaK (decide ((0:Int)≤m∧m≤(s.length:Int)∧(0:Int)≤(8:Int)∧(8:Int)≤(m.toNat:Int))) <|
       some ((XaC.mk m4 m5,(s.drop 8).take (m.toNat - 8),0))))))))
def rx59 (x:XaC×(List UInt8)×Int):Xco:=⟨.tuple ⟨[.agg ⟨[.int .i64 x.1.SPort,.int .i64 x.1.DPort]⟩,.string ⟨⟨x.2.1⟩⟩,.int .i64 x.2.2]⟩,[],[]⟩
def r59 (g:(List UInt8)→Xaa→Xaa→Option (XaC×(List UInt8)×Int)):Dec:=dV asS fun (y0:List UInt8)=>dV Xa8 fun (y1:Xaa)=>dV Xa8 fun (y2:Xaa)=>Xc4 (ofG (g y0 y1 y2) rx59)
theorem r59_c {g:(List UInt8)→Xaa→Xaa→Option (XaC×(List UInt8)×Int)} {y0:List UInt8} {y1:Xaa} {y2:Xaa} {x:XaC×(List UInt8)×Int} (hx:g y0 y1 y2=some x):r59 g [.string ⟨⟨y0⟩⟩,.agg ⟨[.bool y1.V6,.int .u64 y1.Hi,.int .u64 y1.Lo]⟩,.agg ⟨[.bool y2.V6,.int .u64 y2.Hi,.int .u64 y2.Lo]⟩] []=some (rx59 x):=(XaS (XdJ)).trans ((XaS (XaY _)).trans ((XaS (XaY _)).trans (XaZ hx)))
def s59 (g:(List UInt8)→Xaa→Xaa→Option (XaC×(List UInt8)×Int)):Xbp:=⟨[.v,.v,.v],r59 g⟩
theorem XTu {g:(List UInt8)→Xaa→Xaa→Option (XaC×(List UInt8)×Int)} {y0:List UInt8} {y1:Xaa} {y2:Xaa} {x:XaC×(List UInt8)×Int} (hx:g y0 y1 y2=some x):(s59 g).run [.string ⟨⟨y0⟩⟩,.agg ⟨[.bool y1.V6,.int .u64 y1.Hi,.int .u64 y1.Lo]⟩,.agg ⟨[.bool y2.V6,.int .u64 y2.Hi,.int .u64 y2.Lo]⟩] []=some (rx59 x):=r59_c hx
abbrev Xz7 (Xal:(List UInt8)→Int→Int→Option Int) (Xbf:(List UInt8)→Option Int) (Xax:Xaa→Xaa→Int→Int→Option (List UInt8)):List (Nat×Xbp):=[(44,s44 Xal),(100,XG0 Xbf),(95,s95 Xax)]
theorem XKQ (Xal:(List UInt8)→Int→Int→Option Int) (Xbf:(List UInt8)→Option Int) (Xax:Xaa→Xaa→Int→Int→Option (List UInt8)) (hS:Xai Tryz.prog (Xar (Xz7 Xal Xbf Xax))) (s:List UInt8) (src:Xaa) (dst:Xaa) (res:XaC×(List UInt8)×Int) (h:Xjr Xal Xbf Xax s src dst=some res) :
 XaD Tryz.prog 59 0 ⟨⟨59,54,[(0,.string ⟨⟨s⟩⟩),(1,.agg ⟨[.bool src.V6,.int .u64 src.Hi,.int .u64 src.Lo]⟩),(2,.agg ⟨[.bool dst.V6,.int .u64 dst.Hi,.int .u64 dst.Lo]⟩)],[.code XzI],[],false,none⟩,[],[],0⟩ (fun v H _=>Res 0 (rx59 res) v H):=by
 unfold Xjr at h
 refine Xa9 Xam hS true 3000 ?_
 conv=>whnf
 refine br.h h ?_ ?_ ?_
 ·rfl
 ·clear h;intro hb h;conv=>whnf
  all_goals (cases h;exact Res.z rfl rfl rfl)
 clear h;intro hb h;conv=>whnf
 replace h:=Xak.elim h;obtain ⟨m,hy,h⟩:=h
 refine XaG.q rfl rfl (Xe3 hy) rfl rfl rfl ?_
 conv=>whnf
 refine br.h h ?_ ?_ ?_
 ·rfl
 ·clear h;intro hb h;conv=>whnf
  all_goals (cases h;exact Res.z rfl rfl rfl)
 clear h;intro hb h;conv=>whnf
 refine br.h h ?_ ?_ ?_
 ·rfl
 ·clear h;intro hb h;conv=>whnf
  all_goals (cases h;exact Res.z rfl rfl rfl)
 clear h;intro hb h;conv=>whnf
 replace h:=Xak.elim h;obtain ⟨p,hy,h⟩:=h
 refine XaG.q rfl rfl (Xrb hy) rfl rfl rfl ?_
 conv=>whnf
 refine br.h h ?_ ?_ ?_
 ·rfl
 ·clear h;intro hb h;conv=>whnf
  all_goals (cases h;exact Res.z rfl rfl rfl)
 clear h;intro hb h;conv=>whnf
 replace h:=Xak.elim h;obtain ⟨m1,hy,h⟩:=h
 refine XaG.q rfl rfl (Xe3 hy) rfl rfl rfl ?_
 conv=>whnf
 refine br.h h ?_ ?_ ?_
 ·rfl
 ·clear h;intro hb h;conv=>whnf
  refine br.h h ?_ ?_ ?_
  ·rfl
  ·clear h;intro hb h;conv=>whnf
   all_goals (cases h;exact Res.z rfl rfl rfl)
  clear h;intro hb h;conv=>whnf
  replace h:=Xak.elim h;obtain ⟨m2,hy,h⟩:=h
  refine XaG.q rfl rfl (Xe3 hy) rfl rfl rfl ?_
  conv=>whnf
  replace h:=Xak.elim h;obtain ⟨m3,hy,h⟩:=h
  refine XaG.q rfl rfl (Xe3 hy) rfl rfl rfl ?_
  conv=>whnf
  replace h:=XaK.elim h;obtain ⟨hb,h⟩:=h
  first|(refine req.intro hb ?_;conv=>whnf)|skip
  all_goals (cases h;exact Res.z rfl rfl rfl)
 clear h;intro hb h;conv=>whnf
 replace h:=XaK.elim h;obtain ⟨hb,h⟩:=h
 first|(refine req.intro hb ?_;conv=>whnf)|skip
 replace h:=XaK.elim h;obtain ⟨hb,h⟩:=h
 first|(refine req.intro hb ?_;conv=>whnf)|skip
 replace h:=Xak.elim h;obtain ⟨s1,hy,h⟩:=h
 refine XaG.q rfl rfl (Xn2 hy) rfl rfl rfl ?_
 conv=>whnf
 refine br.h h ?_ ?_ ?_
 ·rfl
 ·clear h;intro hb h;conv=>whnf
  all_goals (cases h;exact Res.z rfl rfl rfl)
 clear h;intro hb h;conv=>whnf
 replace h:=Xak.elim h;obtain ⟨m4,hy,h⟩:=h
 refine XaG.q rfl rfl (Xe3 hy) rfl rfl rfl ?_
 conv=>whnf
 replace h:=Xak.elim h;obtain ⟨m5,hy,h⟩:=h
 refine XaG.q rfl rfl (Xe3 hy) rfl rfl rfl ?_
 conv=>whnf
 replace h:=XaK.elim h;obtain ⟨hb,h⟩:=h
 first|(refine req.intro hb ?_;conv=>whnf)|skip
 all_goals (cases h;exact Res.z rfl rfl rfl)
theorem ok59 (Xal:(List UInt8)→Int→Int→Option Int) (Xbf:(List UInt8)→Option Int) (Xax:Xaa→Xaa→Int→Int→Option (List UInt8)) (hS:Xai Tryz.prog (Xar (Xz7 Xal Xbf Xax))):Xan Tryz.prog 59 (s59 (Xjr Xal Xbf Xax)):=by
 refine Xan.Xau Xam (fun ar os r ha hr=>?_) ⟨Tryz.f59,rfl,by decide,rfl⟩
 replace hr:r59 (Xjr Xal Xbf Xax) ar (XaA os)=some r:=hr
 unfold r59 at hr
 generalize hc:XaA os=C at hr
 replace hr:=dV.elim hr;obtain ⟨v0,l1,y0,rfl,e0,hr⟩:=hr;obtain rfl:=Xb7 _ _ e0
 replace hr:=dV.elim hr;obtain ⟨v1,l2,y1,rfl,e1,hr⟩:=hr;obtain rfl:=XaN _ _ e1
 replace hr:=dV.elim hr;obtain ⟨v2,l3,y2,rfl,e2,hr⟩:=hr;obtain rfl:=XaN _ _ e2
 replace hr:=Xdf hr;obtain ⟨rfl,rfl,x,h,rfl⟩:=hr
 obtain rfl:=Xao hc
 exact ⟨_,rfl,XKQ Xal Xbf Xax hS _ _ _ x h⟩
def Xet:(List UInt8)→Xaa→Xaa→Option (XaC×(List UInt8)×Int):=Xjr Xal Xbf Xax
theorem XRa:Xan Tryz.prog 59 (s59 Xet):=ok59 Xal Xbf Xax (Xai.XaW ⟨Xmh,XnK,XrS,trivial⟩)
end Go.Vm.Code
namespace Go.Vm.Code
open Go Go.Vm
def u8 (h:XaC) (l:List UInt8):List UInt8:=XcG h.SPort 2++XcG h.DPort 2++XcG (8+l.length) 2++[0,0]++l
def v2 (s:List UInt8) (p:Nat):Int:=(Xd0 ((s.drop p).take 2):Nat)
theorem XtY (s:List UInt8) (p:Nat):0≤v2 s p∧v2 s p<65536:=by
 have:=XdK (l:=s.drop p) (k:=2) 65536 (by decide)
 unfold v2;omega
theorem Xy4 {s:List UInt8} {p:Nat} (hs:s.length<2^61) (h:p+2≤s.length):Xal s (p:Int) 2=some (v2 s p):=by
 rw [Xf1 hs,XgE (by omega) (by omega) (by omega) (by omega)]
 have:=XtY s p
 show some (wI .i64 (v2 s p))=_
 rw [XcC (by omega) (by omega)]
theorem XXd {r:Xab} (h:r.made=true) (hl:r.s.length<2^61):Xad r 2=some (rdn r 2,rdr r 2):=by
 rw [XfO h hl,if_neg (by omega)]
theorem Xot {s:List UInt8} (h:2≤s.length) (hl:s.length<2^61):Xad ⟨s,true,false⟩ 2=some (v2 s 0,⟨s.drop 2,true,false⟩):=by
 rw [XXd rfl hl,Xhg (by omega) (by omega)]
 unfold rdn
 rw [if_neg (by omega),Xhq (by omega) (by omega)];rfl
theorem XFb (s:List UInt8) (p q:Nat):v2 (s.drop p) q=v2 s (p+q):=by unfold v2;rw [List.drop_drop]
def XoN:XaC:=⟨0,0⟩
def Xhr (s:List UInt8) (src dst:Xaa):XaC×List UInt8×Int:=
 if s.length<8 then (XoN,[],2) else if v2 s 4<8 then (XoN,[],3) else if (s.length:Int)<v2 s 4 then (XoN,[],2) else if Xnf src dst 17 (v2 s 4)=[] then (XoN,[],1) else
  if v2 s 6=0 then (if src.V6=true then (XoN,[],4) else (⟨v2 s 0,v2 s 2⟩,(s.drop 8).take ((v2 s 4).toNat - 8),0)) else
   if norm (Xgz (Xnf src dst 17 (v2 s 4)++s.take (v2 s 4).toNat))≠65535 then (XoN,[],4) else (⟨v2 s 0,v2 s 2⟩,(s.drop 8).take ((v2 s 4).toNat - 8),0)
theorem XHo {s:List UInt8} {src dst:Xaa} (h1:A4 src) (h2:A4 dst) (hs:s.length<2^38):XeL s src dst=some (Xhr s src dst):=by
 unfold XeL Xjq Xhr
 rw [XmR,Option.bind_some]
 by_cases h8:s.length<8
 ·rw [if_pos h8]
  have m1:=XfL ⟨s,true,false⟩ 2
  have m2:=XfL (rdr ⟨s,true,false⟩ 2) 2
  have m3:=XfL (rdr (rdr ⟨s,true,false⟩ 2) 2) 2
  have m4:=XfL (rdr (rdr (rdr ⟨s,true,false⟩ 2) 2) 2) 2
  have k1:=XlB ⟨s,true,false⟩ 2
  have k2:=XlB (rdr ⟨s,true,false⟩ 2) 2
  have k3:=XlB (rdr (rdr ⟨s,true,false⟩ 2) 2) 2
  simp only at k1
  rw [XXd rfl (by simp only;omega),Option.bind_some]
  rw [XXd m1 (by omega),Option.bind_some]
  rw [XXd m2 (by omega),Option.bind_some]
  rw [XXd m3 (by omega),Option.bind_some,Xeg m4,Option.bind_some]
  have hb:(rdr (rdr (rdr (rdr ⟨s,true,false⟩ 2) 2) 2) 2).bad=true:=by
   cases hb:(rdr (rdr (rdr (rdr ⟨s,true,false⟩ 2) 2) 2) 2).bad
   ·exfalso
    obtain ⟨b3,l3⟩:=Xgo rfl hb
    obtain ⟨b2,l2⟩:=Xgo rfl b3
    obtain ⟨b1,l1⟩:=Xgo rfl b2
    obtain ⟨b0,l0⟩:=Xgo rfl b1
    simp only at l0
    omega
   ·rfl
  simp only [hb,cond_true];rfl
 ·rw [if_neg h8]
  rw [Xot (by omega) (by omega),Option.bind_some,Xot (by simp;omega) (by simp;omega),Option.bind_some]
  simp only [List.drop_drop]
  rw [Xot (by simp;omega) (by simp;omega),Option.bind_some]
  simp only [List.drop_drop]
  rw [Xot (by simp;omega) (by simp;omega),Option.bind_some,Xeg rfl,Option.bind_some]
  simp only [cond_false,XFb,Nat.add_zero,Nat.reduceAdd]
  have r4:=XtY s 4
  have hp:=XkL src dst 17 (v2 s 4)
  have hz:(⟨0,0⟩:XaC)=XoN:=rfl
  rw [hz]
  generalize hm:v2 s 4=m at *
  by_cases g1:m<8
  ·rw [XaV g1,if_pos g1]
  rw [XaM g1,if_neg g1]
  by_cases g2:(s.length:Int)<m
  ·rw [XaV (by omega),if_pos g2]
  rw [XaM (by omega),if_neg g2,Xma h1 h2 (by omega) (by omega),Option.bind_some]
  generalize Xnf src dst 17 m=p at *
  by_cases g3:p=[]
  ·subst g3;rw [if_pos rfl];rfl
  rw [if_neg g3,show (p==[])=false by simpa using g3,cond_false]
  have hr:XaB (p++s.take m.toNat)=some (((norm (Xgz (p++s.take m.toNat)):Nat):Int)==65535):=XnH (by simp;omega)
  by_cases g4:v2 s 6=0
  ·rw [if_pos g4,g4]
   simp only [beq_self_eq_true,cond_true,bne_self_eq_false,cond_false]
   cases src.V6
   ·rw [if_neg (by decide),cond_false,Xaz (by omega)]
   ·rw [if_pos rfl,cond_true]
  ·rw [if_neg g4,show (v2 s 6==0)=false by simpa using g4,show (v2 s 6 !=0)=true by simpa using g4]
   simp only [cond_false,cond_true]
   rw [Xaz (by omega),Xaz (by simp only [List.length_take];omega),hr,Option.bind_some,Xaz (by omega)]
   by_cases g5:norm (Xgz (p++s.take m.toNat))=65535
   ·rw [if_neg (by simpa using g5),g5];rfl
   ·rw [if_pos (by simpa using g5),show ((((norm (Xgz (p++s.take m.toNat)):Nat):Int)==65535))=false by simp;omega];rfl
theorem Xxe {s:List UInt8} {src dst:Xaa} (h1:A4 src) (h2:A4 dst) (hs:s.length<2^38):Xet s src dst=some (Xhr s src dst):=by
 unfold Xet Xjr Xhr
 by_cases h8:s.length<8
 ·rw [if_pos h8,XaV (by omega)];rfl
 rw [if_neg h8,XaM (by omega),show (4:Int)=((4:Nat):Int) from rfl,show (6:Int)=((6:Nat):Int) from rfl,show Xal s 0 2=Xal s ((0:Nat):Int) 2 from rfl,show Xal s 2 2=Xal s ((2:Nat):Int) 2 from rfl,Xy4 (by omega) (by omega),Xy4 (by omega) (by omega),Xy4 (by omega) (by omega),Xy4 (by omega) (by omega)]
 simp only [Option.bind_some]
 have r4:=XtY s 4
 have hp:=XkL src dst 17 (v2 s 4)
 have hz:(⟨0,0⟩:XaC)=XoN:=rfl
 rw [hz]
 generalize hm:v2 s 4=m at *
 by_cases g1:m<8
 ·rw [XaV g1,if_pos g1]
 rw [XaM g1,if_neg g1]
 by_cases g2:(s.length:Int)<m
 ·rw [XaV (by omega),if_pos g2]
 rw [XaM (by omega),if_neg g2,XjK h1 h2 (by omega) (by omega),Option.bind_some]
 generalize Xnf src dst 17 m=p at *
 by_cases g3:p=[]
 ·subst g3;rw [if_pos rfl];rfl
 rw [if_neg g3,show (p==[])=false by simpa using g3,cond_false]
 by_cases g4:v2 s 6=0
 ·rw [if_pos g4,g4]
  simp only [beq_self_eq_true,cond_true]
  cases src.V6
  ·rw [if_neg (by decide),cond_false,Xaz (by omega)]
  ·rw [if_pos rfl,cond_true]
 ·rw [if_neg g4,show (v2 s 6==0)=false by simpa using g4]
  simp only [cond_false]
  rw [Xaz (by omega),Xaz (by simp only [List.length_take];omega),XjG (by simp;omega),Option.bind_some,Xaz (by omega)]
  by_cases g5:norm (Xgz (p++s.take m.toNat))=65535
  ·rw [if_neg (by simpa using g5),g5];rfl
  ·rw [if_pos (by simpa using g5),show ((((norm (Xgz (p++s.take m.toNat)):Nat):Int) !=65535))=true by simp;omega];rfl
end Go.Vm.Code
namespace Go.Vm.Code
open Go Go.Vm Go.Proofs
set_option maxRecDepth 100000
set_option maxHeartbeats 4000000
set_option linter.unusedVariables false
def Xc3 (Xae:Xab→Option (Bool×Xab)) (Xac:Xab→Int→Option ((List UInt8)×Xab)) (ra0:Xab):Option ((List UInt8)×Xab):=
 (Xae ra0).bind fun b=>
 cond (b.1)
  (
  some (([],b.2)))
  (
  (Xac b.2 (b.2.s.length:Int)).bind fun t=>
  some ((t.1,t.2)))
def rx65 (x:(List UInt8)×Xab):Xco:=⟨.string ⟨⟨x.1⟩⟩,[],[some [.string ⟨⟨x.2.s⟩⟩,.bool x.2.made,.bool x.2.bad]]⟩
def r65 (g:Xab→Option ((List UInt8)×Xab)):Dec:=dPt 0 XcJ fun (y0:Xab)=>Xc4 (ofG (g y0) rx65)
theorem r65_c {g:Xab→Option ((List UInt8)×Xab)} {y0:Xab} {x:(List UInt8)×Xab} (hx:g y0=some x):r65 g [.pointer (some ⟨0,0,none⟩)] [some [.string ⟨⟨y0.s⟩⟩,.bool y0.made,.bool y0.bad]]=some (rx65 x):=(XmG (Xd9 _)).trans (XaZ hx)
def s65 (g:Xab→Option ((List UInt8)×Xab)):Xbp:=⟨[.pt 3],r65 g⟩
theorem XBp {g:Xab→Option ((List UInt8)×Xab)} {y0:Xab} {x:(List UInt8)×Xab} (hx:g y0=some x):(s65 g).run [.pointer (some ⟨0,0,none⟩)] [some [.string ⟨⟨y0.s⟩⟩,.bool y0.made,.bool y0.bad]]=some (rx65 x):=r65_c hx
abbrev XBC (Xae:Xab→Option (Bool×Xab)) (Xac:Xab→Int→Option ((List UInt8)×Xab)):List (Nat×Xbp):=[(63,s63 Xae),(64,s64 Xac)]
theorem XDC (Xae:Xab→Option (Bool×Xab)) (Xac:Xab→Int→Option ((List UInt8)×Xab)) (hS:Xai Tryz.prog (Xar (XBC Xae Xac))) (ra0:Xab) (res:(List UInt8)×Xab) (h:Xc3 Xae Xac ra0=some res) :
 XaD Tryz.prog 65 1 ⟨⟨65,12,[(0,.pointer (some ⟨0,0,none⟩))],[.code XUw],[],false,none⟩,[],[(0,.cells [.string ⟨⟨ra0.s⟩⟩,.bool ra0.made,.bool ra0.bad])],1⟩ (fun v H _=>Res 1 (rx65 res) v H):=by
 unfold Xc3 at h
 refine Xa9 Xam hS true 3000 ?_
 conv=>whnf
 replace h:=Xak.elim h;obtain ⟨b,hy,h⟩:=h
 refine XaG.Xba [0] (Xat (aqs:=[.pointer (some ⟨0,0,none⟩)]) (ws:=[.win 0 0 3 true]) (n:=0) (m:=0) (t':=1) (Xas rfl rfl Xbd) rfl (by rfl) (XjQ hy) rfl rfl rfl rfl (XbK rfl rfl rfl ⟨rfl,Nat.le_of_ble_eq_true rfl⟩ rfl rfl Xbc) Xbb rfl) ?_
 conv=>whnf
 refine br.h h ?_ ?_ ?_
 ·rfl
 ·clear h;intro hb h;conv=>whnf
  all_goals (cases h)
  all_goals exact Res.of [] rfl XeZ (by decide) XeW (XlX (rfl) (Xca rfl) XeY)
 clear h;intro hb h;conv=>whnf
 replace h:=Xak.elim h;obtain ⟨t,hy,h⟩:=h
 refine XaG.Xba [0] (Xat (aqs:=[.pointer (some ⟨0,0,none⟩),.int .i64 (b.2.s.length:Int)]) (ws:=[.win 0 0 3 true]) (n:=0) (m:=0) (t':=1) (Xas rfl rfl (Xas rfl rfl Xbd)) rfl (by rfl) (Xhy hy) rfl rfl rfl rfl (XbK rfl rfl rfl ⟨rfl,Nat.le_of_ble_eq_true rfl⟩ rfl rfl Xbc) Xbb rfl) ?_
 conv=>whnf
 all_goals (cases h)
 all_goals exact Res.of [] rfl XeZ (by decide) XeW (XlX (rfl) (Xca rfl) XeY)
theorem ok65 (Xae:Xab→Option (Bool×Xab)) (Xac:Xab→Int→Option ((List UInt8)×Xab)) (hS:Xai Tryz.prog (Xar (XBC Xae Xac))):Xan Tryz.prog 65 (s65 (Xc3 Xae Xac)):=by
 refine Xan.Xau Xam (fun ar os r ha hr=>?_) ⟨Tryz.f65,rfl,by decide,rfl⟩
 replace hr:r65 (Xc3 Xae Xac) ar (XaA os)=some r:=hr
 unfold r65 at hr
 generalize hc:XaA os=C at hr
 have hq:=dPt.elim hr;clear hr;obtain ⟨c0,l1,C,y0,rfl,rfl,e0,hr⟩:=hq;obtain rfl:=Xdd _ _ e0
 replace hr:=Xdf hr;obtain ⟨rfl,rfl,x,h,rfl⟩:=hr
 obtain ⟨os,rfl,ha,hc⟩:=Xdr ha hc
 obtain rfl:=Xao hc
 exact ⟨_,rfl,XDC Xae Xac hS _ x h⟩
def Xa2:Xab→Option ((List UInt8)×Xab):=Xc3 Xae Xac
theorem X34:Xan Tryz.prog 65 (s65 Xa2):=ok65 Xae Xac (Xai.XaW ⟨Xne,XlK,trivial⟩)
def XiI (Xae:Xab→Option (Bool×Xab)) (Xad:Xab→Int→Option (Int×Xab)) (Xac:Xab→Int→Option ((List UInt8)×Xab)) (ra0:Xab):Option ((List UInt8)×Int×Xab):=
 (Xad ra0 1).bind fun n=>
 (Xae n.2).bind fun b=>
 cond (!b.1)
  (
  cond (decide (n.1>20))
   (
   some (([],3,b.2)))
   (
   (Xac b.2 n.1).bind fun t=>
   (Xae t.2).bind fun b1=>
   cond (b1.1)
    (
    some (([],2,b1.2)))
    (
    some ((t.1,0,b1.2)))))
  (
  (Xac b.2 n.1).bind fun t1=>
  (Xae t1.2).bind fun b2=>
  cond (b2.1)
   (
   some (([],2,b2.2)))
   (
   some ((t1.1,0,b2.2))))
def rx67 (x:(List UInt8)×Int×Xab):Xco:=⟨.tuple ⟨[.string ⟨⟨x.1⟩⟩,.int .i64 x.2.1]⟩,[],[some [.string ⟨⟨x.2.2.s⟩⟩,.bool x.2.2.made,.bool x.2.2.bad]]⟩
def r67 (g:Xab→Option ((List UInt8)×Int×Xab)):Dec:=dPt 0 XcJ fun (y0:Xab)=>Xc4 (ofG (g y0) rx67)
theorem r67_c {g:Xab→Option ((List UInt8)×Int×Xab)} {y0:Xab} {x:(List UInt8)×Int×Xab} (hx:g y0=some x):r67 g [.pointer (some ⟨0,0,none⟩)] [some [.string ⟨⟨y0.s⟩⟩,.bool y0.made,.bool y0.bad]]=some (rx67 x):=(XmG (Xd9 _)).trans (XaZ hx)
def s67 (g:Xab→Option ((List UInt8)×Int×Xab)):Xbp:=⟨[.pt 3],r67 g⟩
theorem XAV {g:Xab→Option ((List UInt8)×Int×Xab)} {y0:Xab} {x:(List UInt8)×Int×Xab} (hx:g y0=some x):(s67 g).run [.pointer (some ⟨0,0,none⟩)] [some [.string ⟨⟨y0.s⟩⟩,.bool y0.made,.bool y0.bad]]=some (rx67 x):=r67_c hx
abbrev XBb (Xae:Xab→Option (Bool×Xab)) (Xad:Xab→Int→Option (Int×Xab)) (Xac:Xab→Int→Option ((List UInt8)×Xab)):List (Nat×Xbp):=[(63,s63 Xae),(62,s62 Xad),(64,s64 Xac)]
theorem XFD (Xae:Xab→Option (Bool×Xab)) (Xad:Xab→Int→Option (Int×Xab)) (Xac:Xab→Int→Option ((List UInt8)×Xab)) (hS:Xai Tryz.prog (Xar (XBb Xae Xad Xac))) (ra0:Xab) (res:(List UInt8)×Int×Xab) (h:XiI Xae Xad Xac ra0=some res) :
 XaD Tryz.prog 67 1 ⟨⟨67,21,[(0,.pointer (some ⟨0,0,none⟩))],[.code XBY],[],false,none⟩,[],[(0,.cells [.string ⟨⟨ra0.s⟩⟩,.bool ra0.made,.bool ra0.bad])],1⟩ (fun v H _=>Res 1 (rx67 res) v H):=by
 unfold XiI at h
 refine Xa9 Xam hS true 3000 ?_
 conv=>whnf
 replace h:=Xak.elim h;obtain ⟨n,hy,h⟩:=h
 refine XaG.Xba [0] (Xat (aqs:=[.pointer (some ⟨0,0,none⟩),.int .i64 1]) (ws:=[.win 0 0 3 true]) (n:=0) (m:=0) (t':=1) (Xas rfl rfl (Xas rfl rfl Xbd)) rfl (by rfl) (XdR hy) rfl rfl rfl rfl (XbK rfl rfl rfl ⟨rfl,Nat.le_of_ble_eq_true rfl⟩ rfl rfl Xbc) Xbb rfl) ?_
 conv=>whnf
 replace h:=Xak.elim h;obtain ⟨b,hy,h⟩:=h
 refine XaG.Xba [0] (Xat (aqs:=[.pointer (some ⟨0,0,none⟩)]) (ws:=[.win 0 0 3 true]) (n:=0) (m:=0) (t':=1) (Xas rfl rfl Xbd) rfl (by rfl) (XjQ hy) rfl rfl rfl rfl (XbK rfl rfl rfl ⟨rfl,Nat.le_of_ble_eq_true rfl⟩ rfl rfl Xbc) Xbb rfl) ?_
 conv=>whnf
 refine br.h2 h ?_ ?_ ?_
 ·rfl
 ·clear h;intro hb h;conv=>whnf
  replace h:=Xak.elim h;obtain ⟨t1,hy,h⟩:=h
  refine XaG.Xba [0] (Xat (aqs:=[.pointer (some ⟨0,0,none⟩),.int .i64 n.1]) (ws:=[.win 0 0 3 true]) (n:=0) (m:=0) (t':=1) (Xas rfl rfl (Xas rfl rfl Xbd)) rfl (by rfl) (Xhy hy) rfl rfl rfl rfl (XbK rfl rfl rfl ⟨rfl,Nat.le_of_ble_eq_true rfl⟩ rfl rfl Xbc) Xbb rfl) ?_
  conv=>whnf
  replace h:=Xak.elim h;obtain ⟨b2,hy,h⟩:=h
  refine XaG.Xba [0] (Xat (aqs:=[.pointer (some ⟨0,0,none⟩)]) (ws:=[.win 0 0 3 true]) (n:=0) (m:=0) (t':=1) (Xas rfl rfl Xbd) rfl (by rfl) (XjQ hy) rfl rfl rfl rfl (XbK rfl rfl rfl ⟨rfl,Nat.le_of_ble_eq_true rfl⟩ rfl rfl Xbc) Xbb rfl) ?_
  conv=>whnf
  refine br.h h ?_ ?_ ?_
  ·rfl
  ·clear h;intro hb h;conv=>whnf
   all_goals (cases h)
   all_goals exact Res.of [] rfl XeZ (by decide) XeW (XlX (rfl) (Xca rfl) XeY)
  clear h;intro hb h;conv=>whnf
  all_goals (cases h)
  all_goals exact Res.of [] rfl XeZ (by decide) XeW (XlX (rfl) (Xca rfl) XeY)
 clear h;intro hb h;conv=>whnf
 refine br.h h ?_ ?_ ?_
 ·rfl
 ·clear h;intro hb h;conv=>whnf
  all_goals (cases h)
  all_goals exact Res.of [] rfl XeZ (by decide) XeW (XlX (rfl) (Xca rfl) XeY)
 clear h;intro hb h;conv=>whnf
 replace h:=Xak.elim h;obtain ⟨t,hy,h⟩:=h
 refine XaG.Xba [0] (Xat (aqs:=[.pointer (some ⟨0,0,none⟩),.int .i64 n.1]) (ws:=[.win 0 0 3 true]) (n:=0) (m:=0) (t':=1) (Xas rfl rfl (Xas rfl rfl Xbd)) rfl (by rfl) (Xhy hy) rfl rfl rfl rfl (XbK rfl rfl rfl ⟨rfl,Nat.le_of_ble_eq_true rfl⟩ rfl rfl Xbc) Xbb rfl) ?_
 conv=>whnf
 replace h:=Xak.elim h;obtain ⟨b1,hy,h⟩:=h
 refine XaG.Xba [0] (Xat (aqs:=[.pointer (some ⟨0,0,none⟩)]) (ws:=[.win 0 0 3 true]) (n:=0) (m:=0) (t':=1) (Xas rfl rfl Xbd) rfl (by rfl) (XjQ hy) rfl rfl rfl rfl (XbK rfl rfl rfl ⟨rfl,Nat.le_of_ble_eq_true rfl⟩ rfl rfl Xbc) Xbb rfl) ?_
 conv=>whnf
 refine br.h h ?_ ?_ ?_
 ·rfl
 ·clear h;intro hb h;conv=>whnf
  all_goals (cases h)
  all_goals exact Res.of [] rfl XeZ (by decide) XeW (XlX (rfl) (Xca rfl) XeY)
 clear h;intro hb h;conv=>whnf
 all_goals (cases h)
 all_goals exact Res.of [] rfl XeZ (by decide) XeW (XlX (rfl) (Xca rfl) XeY)
theorem ok67 (Xae:Xab→Option (Bool×Xab)) (Xad:Xab→Int→Option (Int×Xab)) (Xac:Xab→Int→Option ((List UInt8)×Xab)) (hS:Xai Tryz.prog (Xar (XBb Xae Xad Xac))):Xan Tryz.prog 67 (s67 (XiI Xae Xad Xac)):=by
 refine Xan.Xau Xam (fun ar os r ha hr=>?_) ⟨Tryz.f67,rfl,by decide,rfl⟩
 replace hr:r67 (XiI Xae Xad Xac) ar (XaA os)=some r:=hr
 unfold r67 at hr
 generalize hc:XaA os=C at hr
 have hq:=dPt.elim hr;clear hr;obtain ⟨c0,l1,C,y0,rfl,rfl,e0,hr⟩:=hq;obtain rfl:=Xdd _ _ e0
 replace hr:=Xdf hr;obtain ⟨rfl,rfl,x,h,rfl⟩:=hr
 obtain ⟨os,rfl,ha,hc⟩:=Xdr ha hc
 obtain rfl:=Xao hc
 exact ⟨_,rfl,XFD Xae Xad Xac hS _ x h⟩
def XdU:Xab→Option ((List UInt8)×Int×Xab):=XiI Xae Xad Xac
theorem X6x:Xan Tryz.prog 67 (s67 XdU):=ok67 Xae Xad Xac (Xai.XaW ⟨Xne,Xnn,XlK,trivial⟩)
def Xic (Xaw:(List UInt8)→Option Xab) (Xae:Xab→Option (Bool×Xab)) (Xad:Xab→Int→Option (Int×Xab)) (Xa2:Xab→Option ((List UInt8)×Xab)) (Xac:Xab→Int→Option ((List UInt8)×Xab)) (XdU:Xab→Option ((List UInt8)×Int×Xab)) (s:List UInt8):Option (XaR×Int):=
 (Xaw s).bind fun n=>
 (Xad n 1).bind fun n1=>
 (Xae n1.2).bind fun b=>
 cond (b.1)
  (
  some ((XaR.mk false 0 0 [] [] [],2)))
  (
  cond ((XjC .i64 n1.1 64)==0)
   (
   some ((XaR.mk false 0 0 [] [] [],3)))
   (
   cond (!((XjC .i64 n1.1 128) !=0))
    (
    (Xac b.2 8).bind fun t=>
    (Xae t.2).bind fun b1=>
    cond (b1.1)
     (
     some ((XaR.mk false 0 0 [] [] [],2)))
     (
     (Xa2 b1.2).bind fun xr=>
     some ((XaR.mk ((XjC .i64 n1.1 128) !=0) (XjC .i64 n1.1 63) 0 t.1 [] xr.1,0))))
    (
    (Xad b.2 4).bind fun n2=>
    (XdU n2.2).bind fun i=>
    cond (i.2.1 !=0)
     (
     some ((XaR.mk false 0 0 [] [] [],i.2.1)))
     (
     (XdU i.2.2).bind fun i1=>
     cond (i1.2.1 !=0)
      (
      some ((XaR.mk false 0 0 [] [] [],i1.2.1)))
      (
      (Xa2 i1.2.2).bind fun xr1=>
      some ((XaR.mk ((XjC .i64 n1.1 128) !=0) (XjC .i64 n1.1 63) (wI .u32 n2.1) i.1 i1.1 xr1.1,0)))))))
def rx39 (x:XaR×Int):Xco:=⟨.tuple ⟨[.agg ⟨[.bool x.1.Long,.int .i64 x.1.Bits,.int .u32 x.1.Version,.string ⟨⟨x.1.DCID⟩⟩,.string ⟨⟨x.1.SCID⟩⟩,.string ⟨⟨x.1.Rest⟩⟩]⟩,.int .i64 x.2]⟩,[],[]⟩
def r39 (g:(List UInt8)→Option (XaR×Int)):Dec:=dV asS fun (y0:List UInt8)=>Xc4 (ofG (g y0) rx39)
theorem r39_c {g:(List UInt8)→Option (XaR×Int)} {y0:List UInt8} {x:XaR×Int} (hx:g y0=some x):r39 g [.string ⟨⟨y0⟩⟩] []=some (rx39 x):=(XaS (XdJ)).trans (XaZ hx)
def s39 (g:(List UInt8)→Option (XaR×Int)):Xbp:=⟨[.v],r39 g⟩
theorem XPN {g:(List UInt8)→Option (XaR×Int)} {y0:List UInt8} {x:XaR×Int} (hx:g y0=some x):(s39 g).run [.string ⟨⟨y0⟩⟩] []=some (rx39 x):=r39_c hx
abbrev XBQ (Xaw:(List UInt8)→Option Xab) (Xae:Xab→Option (Bool×Xab)) (Xad:Xab→Int→Option (Int×Xab)) (Xa2:Xab→Option ((List UInt8)×Xab)) (Xac:Xab→Int→Option ((List UInt8)×Xab)) (XdU:Xab→Option ((List UInt8)×Int×Xab)):List (Nat×Xbp):=[(61,s61 Xaw),(63,s63 Xae),(62,s62 Xad),(65,s65 Xa2),(64,s64 Xac),(67,s67 XdU)]
theorem XDv (Xaw:(List UInt8)→Option Xab) (Xae:Xab→Option (Bool×Xab)) (Xad:Xab→Int→Option (Int×Xab)) (Xa2:Xab→Option ((List UInt8)×Xab)) (Xac:Xab→Int→Option ((List UInt8)×Xab)) (XdU:Xab→Option ((List UInt8)×Int×Xab)) (hS:Xai Tryz.prog (Xar (XBQ Xaw Xae Xad Xa2 Xac XdU))) (s:List UInt8) (res:XaR×Int) (h:Xic Xaw Xae Xad Xa2 Xac XdU s=some res) :
 XaD Tryz.prog 39 0 ⟨⟨39,60,[(0,.string ⟨⟨s⟩⟩)],[.code XAg],[],false,none⟩,[],[],0⟩ (fun v H _=>Res 0 (rx39 res) v H):=by
 unfold Xic at h
 refine Xa9 Xam hS true 3000 ?_
 conv=>whnf
 replace h:=Xak.elim h;obtain ⟨n,hy,h⟩:=h
 refine XaG.Xba [1] (Xat (aqs:=[.string ⟨⟨s⟩⟩]) (ws:=[]) (n:=1) (m:=0) (t':=2) (Xas rfl rfl Xbd) rfl (by rfl) (Xpf hy) rfl rfl rfl rfl Xbc (XhO (rfl) Xbb) rfl) ?_
 conv=>whnf
 replace h:=Xak.elim h;obtain ⟨n1,hy,h⟩:=h
 refine XaG.Xba [1] (Xat (aqs:=[.pointer (some ⟨0,0,none⟩),.int .i64 1]) (ws:=[.win 1 0 3 true]) (n:=0) (m:=0) (t':=2) (Xas rfl rfl (Xas rfl rfl Xbd)) rfl (by rfl) (XdR hy) rfl rfl rfl rfl (XbK rfl rfl rfl ⟨rfl,Nat.le_of_ble_eq_true rfl⟩ rfl rfl Xbc) Xbb rfl) ?_
 conv=>whnf
 replace h:=Xak.elim h;obtain ⟨b,hy,h⟩:=h
 refine XaG.Xba [1] (Xat (aqs:=[.pointer (some ⟨0,0,none⟩)]) (ws:=[.win 1 0 3 true]) (n:=0) (m:=0) (t':=2) (Xas rfl rfl Xbd) rfl (by rfl) (XjQ hy) rfl rfl rfl rfl (XbK rfl rfl rfl ⟨rfl,Nat.le_of_ble_eq_true rfl⟩ rfl rfl Xbc) Xbb rfl) ?_
 conv=>whnf
 refine br.h h ?_ ?_ ?_
 ·rfl
 ·clear h;intro hb h;conv=>whnf
  all_goals (cases h;exact Res.z rfl rfl rfl)
 clear h;intro hb h;conv=>whnf
 refine br.h h ?_ ?_ ?_
 ·rfl
 ·clear h;intro hb h;conv=>whnf
  all_goals (cases h;exact Res.z rfl rfl rfl)
 clear h;intro hb h;conv=>whnf
 refine br.h h ?_ ?_ ?_
 ·rfl
 ·clear h;intro hb h;conv=>whnf
  replace h:=Xak.elim h;obtain ⟨t,hy,h⟩:=h
  refine XaG.Xba [1] (Xat (aqs:=[.pointer (some ⟨0,0,none⟩),.int .i64 8]) (ws:=[.win 1 0 3 true]) (n:=0) (m:=0) (t':=3) (Xas rfl rfl (Xas rfl rfl Xbd)) rfl (by rfl) (Xhy hy) rfl rfl rfl rfl (XbK rfl rfl rfl ⟨rfl,Nat.le_of_ble_eq_true rfl⟩ rfl rfl Xbc) Xbb rfl) ?_
  conv=>whnf
  replace h:=Xak.elim h;obtain ⟨b1,hy,h⟩:=h
  refine XaG.Xba [1] (Xat (aqs:=[.pointer (some ⟨0,0,none⟩)]) (ws:=[.win 1 0 3 true]) (n:=0) (m:=0) (t':=3) (Xas rfl rfl Xbd) rfl (by rfl) (XjQ hy) rfl rfl rfl rfl (XbK rfl rfl rfl ⟨rfl,Nat.le_of_ble_eq_true rfl⟩ rfl rfl Xbc) Xbb rfl) ?_
  conv=>whnf
  refine br.h h ?_ ?_ ?_
  ·rfl
  ·clear h;intro hb h;conv=>whnf
   all_goals (cases h;exact Res.z rfl rfl rfl)
  clear h;intro hb h;conv=>whnf
  replace h:=Xak.elim h;obtain ⟨xr,hy,h⟩:=h
  refine XaG.Xba [1] (Xat (aqs:=[.pointer (some ⟨0,0,none⟩)]) (ws:=[.win 1 0 3 true]) (n:=0) (m:=0) (t':=3) (Xas rfl rfl Xbd) rfl (by rfl) (XBp hy) rfl rfl rfl rfl (XbK rfl rfl rfl ⟨rfl,Nat.le_of_ble_eq_true rfl⟩ rfl rfl Xbc) Xbb rfl) ?_
  conv=>whnf
  all_goals (cases h;exact Res.z rfl rfl rfl)
 clear h;intro hb h;conv=>whnf
 replace h:=Xak.elim h;obtain ⟨n2,hy,h⟩:=h
 refine XaG.Xba [1] (Xat (aqs:=[.pointer (some ⟨0,0,none⟩),.int .i64 4]) (ws:=[.win 1 0 3 true]) (n:=0) (m:=0) (t':=3) (Xas rfl rfl (Xas rfl rfl Xbd)) rfl (by rfl) (XdR hy) rfl rfl rfl rfl (XbK rfl rfl rfl ⟨rfl,Nat.le_of_ble_eq_true rfl⟩ rfl rfl Xbc) Xbb rfl) ?_
 conv=>whnf
 refine Xa9 Xam hS true 3000 ?_
 conv=>whnf
 replace h:=Xak.elim h;obtain ⟨i,hy,h⟩:=h
 refine XaG.Xba [1] (Xat (aqs:=[.pointer (some ⟨0,0,none⟩)]) (ws:=[.win 1 0 3 true]) (n:=0) (m:=0) (t':=4) (Xas rfl rfl Xbd) rfl (by rfl) (XAV hy) rfl rfl rfl rfl (XbK rfl rfl rfl ⟨rfl,Nat.le_of_ble_eq_true rfl⟩ rfl rfl Xbc) Xbb rfl) ?_
 conv=>whnf
 refine br.h h ?_ ?_ ?_
 ·rfl
 ·clear h;intro hb h;conv=>whnf
  refine br.pos ?_ ?_;(focus (clear h;first|assumption|(simp_all;done)))
  conv=>whnf
  all_goals (cases h;exact Res.z rfl rfl rfl)
 clear h;intro hb h;conv=>whnf
 refine Xa9 Xam hS true 3000 ?_
 conv=>whnf
 replace h:=Xak.elim h;obtain ⟨i1,hy,h⟩:=h
 refine XaG.Xba [1] (Xat (aqs:=[.pointer (some ⟨0,0,none⟩)]) (ws:=[.win 1 0 3 true]) (n:=0) (m:=0) (t':=4) (Xas rfl rfl Xbd) rfl (by rfl) (XAV hy) rfl rfl rfl rfl (XbK rfl rfl rfl ⟨rfl,Nat.le_of_ble_eq_true rfl⟩ rfl rfl Xbc) Xbb rfl) ?_
 conv=>whnf
 refine br.h h ?_ ?_ ?_
 ·rfl
 ·clear h;intro hb h;conv=>whnf
  refine br.pos ?_ ?_;(focus (clear h;first|assumption|(simp_all;done)))
  conv=>whnf
  all_goals (cases h;exact Res.z rfl rfl rfl)
 clear h;intro hb h;conv=>whnf
 refine Xa9 Xam hS true 3000 ?_
 conv=>whnf
 replace h:=Xak.elim h;obtain ⟨xr1,hy,h⟩:=h
 refine XaG.Xba [1] (Xat (aqs:=[.pointer (some ⟨0,0,none⟩)]) (ws:=[.win 1 0 3 true]) (n:=0) (m:=0) (t':=4) (Xas rfl rfl Xbd) rfl (by rfl) (XBp hy) rfl rfl rfl rfl (XbK rfl rfl rfl ⟨rfl,Nat.le_of_ble_eq_true rfl⟩ rfl rfl Xbc) Xbb rfl) ?_
 conv=>whnf
 all_goals (cases h;exact Res.z rfl rfl rfl)
theorem ok39 (Xaw:(List UInt8)→Option Xab) (Xae:Xab→Option (Bool×Xab)) (Xad:Xab→Int→Option (Int×Xab)) (Xa2:Xab→Option ((List UInt8)×Xab)) (Xac:Xab→Int→Option ((List UInt8)×Xab)) (XdU:Xab→Option ((List UInt8)×Int×Xab)) (hS:Xai Tryz.prog (Xar (XBQ Xaw Xae Xad Xa2 Xac XdU))):Xan Tryz.prog 39 (s39 (Xic Xaw Xae Xad Xa2 Xac XdU)):=by
 refine Xan.Xau Xam (fun ar os r ha hr=>?_) ⟨Tryz.f39,rfl,by decide,rfl⟩
 replace hr:r39 (Xic Xaw Xae Xad Xa2 Xac XdU) ar (XaA os)=some r:=hr
 unfold r39 at hr
 generalize hc:XaA os=C at hr
 replace hr:=dV.elim hr;obtain ⟨v0,l1,y0,rfl,e0,hr⟩:=hr;obtain rfl:=Xb7 _ _ e0
 replace hr:=Xdf hr;obtain ⟨rfl,rfl,x,h,rfl⟩:=hr
 obtain rfl:=Xao hc
 exact ⟨_,rfl,XDv Xaw Xae Xad Xa2 Xac XdU hS _ x h⟩
def XdG:(List UInt8)→Option (XaR×Int):=Xic Xaw Xae Xad Xa2 Xac XdU
theorem XOo:Xan Tryz.prog 39 (s39 XdG):=ok39 Xaw Xae Xad Xa2 Xac XdU (Xai.XaW ⟨Xph,Xne,Xnn,X34,XlK,X6x,trivial⟩)
def Xls (s:List UInt8) (ata1:Int):Option ((List UInt8)×Int×Int):=
 cond (decide (ata1≥(s.length:Int)))
  (
  some (([],2,0)))
  (
  XaK (decide (0≤ata1)) <|
  (s[ata1.toNat]?).bind fun (b:UInt8)=>
  cond (decide ((wI .i64 (b.toNat:Int))>20))
   (
   some (([],3,0)))
   (
   let t:=wI .i64 ((wI .i64 ((s.length:Int) - ata1)) - 1)
   cond (decide ((wI .i64 (b.toNat:Int))>t))
    (
    some (([],2,0)))
    (
    let t1:=wI .i64 ((wI .i64 (ata1+1))+(wI .i64 (b.toNat:Int)))
    XaK (decide ((0:Int)≤t1∧t1≤(s.length:Int)∧(0:Int)≤(wI .i64 (ata1+1))∧(wI .i64 (ata1+1))≤(t1.toNat:Int))) <|
    let t2:=(s.drop (wI .i64 (ata1+1)).toNat).take (t1.toNat - (wI .i64 (ata1+1)).toNat)
    let t3:=wI .i64 ((wI .i64 (ata1+1))+(wI .i64 (b.toNat:Int)))
    some ((t2,0,t3)))))
def rx45 (x:(List UInt8)×Int×Int):Xco:=⟨.tuple ⟨[.string ⟨⟨x.1⟩⟩,.int .i64 x.2.1,.int .i64 x.2.2]⟩,[],[]⟩
def r45 (g:(List UInt8)→Int→Option ((List UInt8)×Int×Int)):Dec:=dV asS fun (y0:List UInt8)=>dV (asI .i64) fun (y1:Int)=>Xc4 (ofG (g y0 y1) rx45)
theorem r45_c {g:(List UInt8)→Int→Option ((List UInt8)×Int×Int)} {y0:List UInt8} {y1:Int} {x:(List UInt8)×Int×Int} (hx:g y0 y1=some x):r45 g [.string ⟨⟨y0⟩⟩,.int .i64 y1] []=some (rx45 x):=(XaS (XdJ)).trans ((XaS (XcI _)).trans (XaZ hx))
def s45 (g:(List UInt8)→Int→Option ((List UInt8)×Int×Int)):Xbp:=⟨[.v,.v],r45 g⟩
theorem XzY {g:(List UInt8)→Int→Option ((List UInt8)×Int×Int)} {y0:List UInt8} {y1:Int} {x:(List UInt8)×Int×Int} (hx:g y0 y1=some x):(s45 g).run [.string ⟨⟨y0⟩⟩,.int .i64 y1] []=some (rx45 x):=r45_c hx
abbrev XBM:List (Nat×Xbp):=[]
theorem XEK (hS:Xai Tryz.prog (Xar (XBM))) (s:List UInt8) (ata1:Int) (res:(List UInt8)×Int×Int) (h:Xls s ata1=some res) :
 XaD Tryz.prog 45 0 ⟨⟨45,37,[(0,.string ⟨⟨s⟩⟩),(1,.int .i64 ata1)],[.code XBu],[],false,none⟩,[],[],0⟩ (fun v H _=>Res 0 (rx45 res) v H):=by
 unfold Xls at h
 refine Xa9 Xam hS true 3000 ?_
 conv=>whnf
 refine br.h h ?_ ?_ ?_
 ·rfl
 ·clear h;intro hb h;conv=>whnf
  all_goals (cases h;exact Res.z rfl rfl rfl)
 clear h;intro hb h;conv=>whnf
 replace h:=XaK.elim h;obtain ⟨hb,h⟩:=h
 first|(refine req.intro hb ?_;conv=>whnf)|skip
 replace h:=Xak.elim h;obtain ⟨b,hy,h⟩:=h
 refine rdS.intro hy ?_
 conv=>whnf
 refine br.h h ?_ ?_ ?_
 ·rfl
 ·clear h;intro hb h;conv=>whnf
  all_goals (cases h;exact Res.z rfl rfl rfl)
 clear h;intro hb h;conv=>whnf
 let t:Int:=wI .i64 ((wI .i64 ((s.length:Int) - ata1)) - 1)
 refine br.h h ?_ ?_ ?_
 ·rfl
 ·clear h;intro hb h;conv=>whnf
  all_goals (cases h;exact Res.z rfl rfl rfl)
 clear h;intro hb h;conv=>whnf
 let t1:Int:=wI .i64 ((wI .i64 (ata1+1))+(wI .i64 (b.toNat:Int)))
 replace h:=XaK.elim h;obtain ⟨hb,h⟩:=h
 first|(refine req.intro hb ?_;conv=>whnf)|skip
 let t2:List UInt8:=(s.drop (wI .i64 (ata1+1)).toNat).take (t1.toNat - (wI .i64 (ata1+1)).toNat)
 let t3:Int:=wI .i64 ((wI .i64 (ata1+1))+(wI .i64 (b.toNat:Int)))
 all_goals (cases h;exact Res.z rfl rfl rfl)
theorem ok45 (hS:Xai Tryz.prog (Xar (XBM))):Xan Tryz.prog 45 (s45 (Xls)):=by
 refine Xan.Xau Xam (fun ar os r ha hr=>?_) ⟨Tryz.f45,rfl,by decide,rfl⟩
 replace hr:r45 (Xls) ar (XaA os)=some r:=hr
 unfold r45 at hr
 generalize hc:XaA os=C at hr
 replace hr:=dV.elim hr;obtain ⟨v0,l1,y0,rfl,e0,hr⟩:=hr;obtain rfl:=Xb7 _ _ e0
 replace hr:=dV.elim hr;obtain ⟨v1,l2,y1,rfl,e1,hr⟩:=hr;obtain rfl:=XbO _ _ _ e1
 replace hr:=Xdf hr;obtain ⟨rfl,rfl,x,h,rfl⟩:=hr
 obtain rfl:=Xao hc
 exact ⟨_,rfl,XEK hS _ _ x h⟩
def XfW:(List UInt8)→Int→Option ((List UInt8)×Int×Int):=Xls
theorem XTP:Xan Tryz.prog 45 (s45 XfW):=ok45 (Xai.XaW trivial)
def Xjs (Xal:(List UInt8)→Int→Int→Option Int) (XfW:(List UInt8)→Int→Option ((List UInt8)×Int×Int)) (s:List UInt8):Option (XaR×Int):=
 cond (s==[])
  (
  some ((XaR.mk false 0 0 [] [] [],2)))
  (
  (s[0]?).bind fun (b:UInt8)=>
  let t:=(wI .u8 ((b.toNat:Int).tdiv 64)).tmod 2
  cond (t==0)
   (
   some ((XaR.mk false 0 0 [] [] [],3)))
   (
   (s[0]?).bind fun (b1:UInt8)=>
   (s[0]?).bind fun (b2:UInt8)=>
   cond (!(decide ((b1.toNat:Int)≥128)))
    (
    cond (decide ((s.length:Int)<9))
     (
     some ((XaR.mk false 0 0 [] [] [],2)))
     (
     XaK (decide ((0:Int)≤(9:Int)∧(9:Int)≤(s.length:Int)∧(0:Int)≤(1:Int)∧(1:Int)≤(9:Int))) <|
     XaK (decide ((0:Int)≤(9:Int)∧(9:Int)≤(s.length:Int))) <|
     some ((XaR.mk (decide ((b1.toNat:Int)≥128)) (wI .i64 ((b2.toNat:Int).tmod 64)) 0 ((s.drop 1).take 8) [] ((s.drop 9).take (s.length - 9)),0))))
    (
    cond (decide ((s.length:Int)<5))
     (
     some ((XaR.mk false 0 0 [] [] [],2)))
     (
     (Xal s 1 4).bind fun m=>
     (XfW s 5).bind fun i=>
     cond (i.2.1 !=0)
      (
      some ((XaR.mk false 0 0 [] [] [],i.2.1)))
      (
      (XfW s i.2.2).bind fun i1=>
      cond (i1.2.1 !=0)
       (
       some ((XaR.mk false 0 0 [] [] [],i1.2.1)))
       (
       XaK (decide ((0:Int)≤i1.2.2∧i1.2.2≤(s.length:Int))) <|
       let t1:=(s.drop i1.2.2.toNat).take (s.length - i1.2.2.toNat)
       some ((XaR.mk (decide ((b1.toNat:Int)≥128)) (wI .i64 ((b2.toNat:Int).tmod 64)) (wI .u32 m) i.1 i1.1 t1,0))))))))
def rx21 (x:XaR×Int):Xco:=⟨.tuple ⟨[.agg ⟨[.bool x.1.Long,.int .i64 x.1.Bits,.int .u32 x.1.Version,.string ⟨⟨x.1.DCID⟩⟩,.string ⟨⟨x.1.SCID⟩⟩,.string ⟨⟨x.1.Rest⟩⟩]⟩,.int .i64 x.2]⟩,[],[]⟩
def r21 (g:(List UInt8)→Option (XaR×Int)):Dec:=dV asS fun (y0:List UInt8)=>Xc4 (ofG (g y0) rx21)
theorem r21_c {g:(List UInt8)→Option (XaR×Int)} {y0:List UInt8} {x:XaR×Int} (hx:g y0=some x):r21 g [.string ⟨⟨y0⟩⟩] []=some (rx21 x):=(XaS (XdJ)).trans (XaZ hx)
def s21 (g:(List UInt8)→Option (XaR×Int)):Xbp:=⟨[.v],r21 g⟩
theorem X2F {g:(List UInt8)→Option (XaR×Int)} {y0:List UInt8} {x:XaR×Int} (hx:g y0=some x):(s21 g).run [.string ⟨⟨y0⟩⟩] []=some (rx21 x):=r21_c hx
abbrev XBW (Xal:(List UInt8)→Int→Int→Option Int) (XfW:(List UInt8)→Int→Option ((List UInt8)×Int×Int)):List (Nat×Xbp):=[(44,s44 Xal),(45,s45 XfW)]
theorem XGK (Xal:(List UInt8)→Int→Int→Option Int) (XfW:(List UInt8)→Int→Option ((List UInt8)×Int×Int)) (hS:Xai Tryz.prog (Xar (XBW Xal XfW))) (s:List UInt8) (res:XaR×Int) (h:Xjs Xal XfW s=some res) :
 XaD Tryz.prog 21 0 ⟨⟨21,79,[(0,.string ⟨⟨s⟩⟩)],[.code XA6],[],false,none⟩,[],[],0⟩ (fun v H _=>Res 0 (rx21 res) v H):=by
 unfold Xjs at h
 refine Xa9 Xam hS true 3000 ?_
 conv=>whnf
 refine br.h h ?_ ?_ ?_
 ·rfl
 ·clear h;intro hb h;conv=>whnf
  all_goals (cases h;exact Res.z rfl rfl rfl)
 clear h;intro hb h;conv=>whnf
 replace h:=Xak.elim h;obtain ⟨b,hy,h⟩:=h
 refine rdS.intro hy ?_
 conv=>whnf
 let t:Int:=(wI .u8 ((b.toNat:Int).tdiv 64)).tmod 2
 refine br.h h ?_ ?_ ?_
 ·rfl
 ·clear h;intro hb h;conv=>whnf
  all_goals (cases h;exact Res.z rfl rfl rfl)
 clear h;intro hb h;conv=>whnf
 replace h:=Xak.elim h;obtain ⟨b1,hy,h⟩:=h
 refine rdS.intro hy ?_
 conv=>whnf
 replace h:=Xak.elim h;obtain ⟨b2,hy,h⟩:=h
 refine rdS.intro hy ?_
 conv=>whnf
 refine br.h h ?_ ?_ ?_
 ·rfl
 ·clear h;intro hb h;conv=>whnf
  refine br.h h ?_ ?_ ?_
  ·rfl
  ·clear h;intro hb h;conv=>whnf
   all_goals (cases h;exact Res.z rfl rfl rfl)
  clear h;intro hb h;conv=>whnf
  replace h:=XaK.elim h;obtain ⟨hb,h⟩:=h
  first|(refine req.intro hb ?_;conv=>whnf)|skip
  replace h:=XaK.elim h;obtain ⟨hb,h⟩:=h
  first|(refine req.intro hb ?_;conv=>whnf)|skip
  all_goals (cases h;exact Res.z rfl rfl rfl)
 clear h;intro hb h;conv=>whnf
 refine br.h h ?_ ?_ ?_
 ·rfl
 ·clear h;intro hb h;conv=>whnf
  all_goals (cases h;exact Res.z rfl rfl rfl)
 clear h;intro hb h;conv=>whnf
 replace h:=Xak.elim h;obtain ⟨m,hy,h⟩:=h
 refine XaG.q rfl rfl (Xe3 hy) rfl rfl rfl ?_
 conv=>whnf
 replace h:=Xak.elim h;obtain ⟨i,hy,h⟩:=h
 refine XaG.q rfl rfl (XzY hy) rfl rfl rfl ?_
 conv=>whnf
 refine br.h h ?_ ?_ ?_
 ·rfl
 ·clear h;intro hb h;conv=>whnf
  all_goals (cases h;exact Res.z rfl rfl rfl)
 clear h;intro hb h;conv=>whnf
 replace h:=Xak.elim h;obtain ⟨i1,hy,h⟩:=h
 refine XaG.q rfl rfl (XzY hy) rfl rfl rfl ?_
 conv=>whnf
 refine br.h h ?_ ?_ ?_
 ·rfl
 ·clear h;intro hb h;conv=>whnf
  all_goals (cases h;exact Res.z rfl rfl rfl)
 clear h;intro hb h;conv=>whnf
 replace h:=XaK.elim h;obtain ⟨hb,h⟩:=h
 first|(refine req.intro hb ?_;conv=>whnf)|skip
 let t1:List UInt8:=(s.drop i1.2.2.toNat).take (s.length - i1.2.2.toNat)
 all_goals (cases h;exact Res.z rfl rfl rfl)
theorem ok21 (Xal:(List UInt8)→Int→Int→Option Int) (XfW:(List UInt8)→Int→Option ((List UInt8)×Int×Int)) (hS:Xai Tryz.prog (Xar (XBW Xal XfW))):Xan Tryz.prog 21 (s21 (Xjs Xal XfW)):=by
 refine Xan.Xau Xam (fun ar os r ha hr=>?_) ⟨Tryz.f21,rfl,by decide,rfl⟩
 replace hr:r21 (Xjs Xal XfW) ar (XaA os)=some r:=hr
 unfold r21 at hr
 generalize hc:XaA os=C at hr
 replace hr:=dV.elim hr;obtain ⟨v0,l1,y0,rfl,e0,hr⟩:=hr;obtain rfl:=Xb7 _ _ e0
 replace hr:=Xdf hr;obtain ⟨rfl,rfl,x,h,rfl⟩:=hr
 obtain rfl:=Xao hc
 exact ⟨_,rfl,XGK Xal XfW hS _ x h⟩
def XeI:(List UInt8)→Option (XaR×Int):=Xjs Xal XfW
theorem XNx:Xan Tryz.prog 21 (s21 XeI):=ok21 Xal XfW (Xai.XaW ⟨Xmh,XTP,trivial⟩)
end Go.Vm.Code
namespace Go.Vm.Code
open Go Go.Vm
def Xsx:XaR:=⟨false,0,0,[],[],[]⟩
def idS (s:List UInt8) (p:Nat):List UInt8×Int×Nat:=
 if s.length≤p then ([],2,0) else if 20<b1 s p then ([],3,0) else if s.length<p+1+b1 s p then ([],2,0) else ((s.drop (p+1)).take (b1 s p),0,p+1+b1 s p)
theorem XAJ {s:List UInt8} {p:Nat} (h:s.length<2^38):XfW s (p:Int)=some ((idS s p).1,(idS s p).2.1,(((idS s p).2.2:Nat):Int)):=by
 unfold XfW Xls idS
 by_cases h1:s.length≤p
 ·rw [XaV (by omega),if_pos h1];rfl
 have e1:s[(p:Int).toNat]?=some (s[p]'(by omega)):=by rw [Int.toNat_natCast];exact List.getElem?_eq_getElem (by omega)
 have hb:=Xx1 s p
 rw [XaM (by omega),if_neg h1,Xaz (by omega),e1,Option.bind_some,←XAj (by omega),XcC (n:=((b1 s p:Nat):Int)) (by omega) (by omega)]
 by_cases h2:20<b1 s p
 ·rw [XaV (by omega),if_pos h2];rfl
 rw [XaM (by omega),if_neg h2,XcC (n:=(s.length:Int) - p) (by omega) (by omega),XcC (by omega) (by omega),XcC (n:=(p:Int)+1) (by omega) (by omega),XcC (n:=(p:Int)+1+((b1 s p:Nat):Int)) (by omega) (by omega)]
 simp only []
 by_cases h3:s.length<p+1+b1 s p
 ·rw [XaV (by omega),if_pos h3];rfl
 rw [XaM (by omega),if_neg h3,Xaz (by omega)]
 have f1:((p:Int)+1).toNat=p+1:=by omega
 have f2:((p:Int)+1+((b1 s p:Nat):Int)).toNat - (p+1)=b1 s p:=by omega
 rw [f1,f2]
 simp
theorem i17:(if (1:Int)<1∨(1:Int)>7 then -1 else 1:Int)=1:=by decide
theorem i47:(if (4:Int)<1∨(4:Int)>7 then -1 else 4:Int)=4:=by decide
theorem Xmi (s:List UInt8) (k:Int):rdr ⟨s,true,true⟩ k=⟨s,true,true⟩:=by unfold rdr;rw [if_pos (.inl rfl)]
theorem XHy (s:List UInt8) (h:s.length<2^38):XdU ⟨s,true,true⟩=some ([],2,⟨s,true,true⟩):=by
 unfold XdU XiI
 rw [XfO rfl (by simp only [];omega),Option.bind_some]
 simp only [Xmi]
 rw [Xeg rfl,Option.bind_some]
 simp only [Bool.not_true,cond_false]
 rw [XeP rfl,Option.bind_some]
 simp only [Xmi]
 rw [Xeg rfl,Option.bind_some]
 rfl
theorem Xzr {s:List UInt8} {p:Nat} (h:s.length<2^38):∃ r,XdU ⟨s.drop p,true,false⟩=some ((idS s p).1,(idS s p).2.1,r)∧((idS s p).2.1=0→r=⟨s.drop (idS s p).2.2,true,false⟩):=by
 have hb:=Xx1 s p
 have ld:(s.drop p).length=s.length - p:=List.length_drop ..
 unfold XdU XiI idS
 rw [XfO rfl (by simp only [];omega),Option.bind_some]
 simp only [rdn,i17]
 by_cases h1:s.length≤p
 ·have hr:rdr ⟨s.drop p,true,false⟩ 1=⟨s.drop p,true,true⟩:=by unfold rdr;rw [if_pos (.inr (.inr (by simp only [];omega)))]
  rw [if_pos h1,hr,Xeg rfl,Option.bind_some]
  simp only [Bool.not_true,cond_false]
  rw [XeP rfl,Option.bind_some]
  simp only [Xmi]
  rw [Xeg rfl,Option.bind_some]
  exact ⟨_,rfl,fun q=>by cases q⟩
 ·rw [if_neg h1,Xhg (by omega) (by omega),Xhq (by omega) (by omega),show (1:Int).toNat=1 from rfl,List.drop_drop,show Xd0 ((s.drop p).take 1)=b1 s p from rfl,Xeg rfl,Option.bind_some]
  simp only [Bool.not_false,cond_true]
  have ld2:(s.drop (p+1)).length=s.length - (p+1):=List.length_drop ..
  by_cases h2:20<b1 s p
  ·rw [XaV (by omega),if_pos h2]
   exact ⟨_,rfl,fun q=>by cases q⟩
  rw [XaM (by omega),if_neg h2,XeP rfl,Option.bind_some]
  by_cases h3:s.length<p+1+b1 s p
  ·have hr:rdr ⟨s.drop (p+1),true,false⟩ ((b1 s p:Nat):Int)=⟨s.drop (p+1),true,true⟩:=by unfold rdr;rw [if_pos (.inr (.inr (by simp only [];omega)))]
   rw [if_pos h3,hr,Xeg rfl,Option.bind_some]
   exact ⟨_,rfl,fun q=>by cases q⟩
  ·rw [if_neg h3,Xhg (by omega) (by omega),Xhq (by omega) (by omega),Xeg rfl,Option.bind_some,Int.toNat_natCast,List.drop_drop]
   exact ⟨_,rfl,fun _=>rfl⟩
def Xsj (s:List UInt8):XaR×Int:=
 if s=[] then (Xsx,2) else if b1 s 0/64%2=0 then (Xsx,3) else
 if b1 s 0<128 then if s.length<9 then (Xsx,2) else (⟨false,((b1 s 0%64:Nat):Int),0,(s.drop 1).take 8,[],s.drop 9⟩,0)
 else if s.length<5 then (Xsx,2) else if (idS s 5).2.1≠0 then (Xsx,(idS s 5).2.1) else if (idS s (idS s 5).2.2).2.1≠0 then (Xsx,(idS s (idS s 5).2.2).2.1) else
 (⟨true,((b1 s 0%64:Nat):Int),((Xd0 ((s.drop 1).take 4):Nat):Int),(idS s 5).1,(idS s (idS s 5).2.2).1,s.drop (idS s (idS s 5).2.2).2.2⟩,0)
theorem X4E:∀ v:Fin 256,((wI .u8 (((v.val:Nat):Int).tdiv 64)).tmod 2=((v.val/64%2:Nat):Int)∧wI .i64 (((v.val:Nat):Int).tmod 64)=((v.val%64:Nat):Int))∧XjC .i64 ((v.val:Nat):Int) 64=((v.val/64%2*64:Nat):Int)∧XjC .i64 ((v.val:Nat):Int) 128=((v.val/128*128:Nat):Int)∧XjC .i64 ((v.val:Nat):Int) 63=((v.val%64:Nat):Int):=by decide +kernel
theorem XLD {s:List UInt8} {p:Nat} (h:(idS s p).2.1=0):(idS s p).2.2≤s.length:=by
 unfold idS at h ⊢
 split
 ·simp
 split
 ·simp
 split
 ·simp
 ·simp only [];omega
theorem Xwq {s:List UInt8} (h:s.length<2^38):XeI s=some (Xsj s):=by
 unfold XeI Xjs Xsj
 by_cases h0:s=[]
 ·subst h0;rfl
 have hl:0<s.length:=List.length_pos_iff.2 h0
 have hb:=Xx1 s 0
 obtain ⟨⟨q1,q2⟩,-⟩:=X4E ⟨b1 s 0,hb⟩
 simp only at q1 q2
 have e0:s[0]?=some s[0]:=List.getElem?_eq_getElem hl
 have e1:s[0].toNat=b1 s 0:=(XAj hl).symm
 have es:(s==[])=false:=by rw [beq_eq_false_iff_ne];exact h0
 rw [es,cond_false,if_neg h0,e0]
 simp only [Option.bind_some,e1,q1,q2]
 by_cases h1:b1 s 0/64%2=0
 ·have:((((b1 s 0/64%2:Nat):Int))==0)=true:=by rw [beq_iff_eq];omega
  rw [this,cond_true,if_pos h1];rfl
 have:((((b1 s 0/64%2:Nat):Int))==0)=false:=by rw [beq_eq_false_iff_ne];omega
 rw [this,cond_false,if_neg h1]
 by_cases h2:b1 s 0<128
 ·rw [decide_eq_false (show ¬ ((b1 s 0:Nat):Int)≥128 by omega),Bool.not_false,cond_true,if_pos h2]
  by_cases h3:s.length<9
  ·rw [XaV (by omega),if_pos h3];rfl
  rw [XaM (by omega),if_neg h3,Xaz (by omega),Xaz (by omega),List.take_of_length_le (l:=s.drop 9) (by simp)]
 ·rw [decide_eq_true (show ((b1 s 0:Nat):Int)≥128 by omega),Bool.not_true,cond_false,if_neg h2]
  by_cases h3:s.length<5
  ·rw [XaV (by omega),if_pos h3];rfl
  have hv:Xd0 ((s.drop 1).take 4)<2^32:=XdK _ (by decide)
  have rid5:=XAJ (s:=s) (p:=5) h
  rw [show ((5:Nat):Int)=5 from rfl] at rid5
  rw [XaM (by omega),if_neg h3,Xf1 (by omega),Option.bind_some,XgE (by omega) (by omega) (by omega) (by omega),rid5,Option.bind_some]
  simp only []
  by_cases h4:(idS s 5).2.1=0
  ·have:((idS s 5).2.1 !=0)=false:=by rw [bne_eq_false_iff_eq];exact h4
   rw [this,cond_false,if_neg (by omega),XAJ h,Option.bind_some]
   simp only []
   by_cases h5:(idS s (idS s 5).2.2).2.1=0
   ·have:((idS s (idS s 5).2.2).2.1 !=0)=false:=by rw [bne_eq_false_iff_eq];exact h5
    have hle:=XLD h5
    rw [this,cond_false,if_neg (by omega),Xaz (by omega),Int.toNat_natCast,List.take_of_length_le (l:=s.drop (idS s (idS s 5).2.2).2.2) (by simp)]
    simp only [show (1:Int).toNat=1 from rfl,show (4:Int).toNat=4 from rfl]
    rw [XcC (n:=((Xd0 ((s.drop 1).take 4):Nat):Int)) (by omega) (by omega),XwG (by omega) (by omega)]
   ·have:((idS s (idS s 5).2.2).2.1 !=0)=true:=by rw [bne_iff_ne];exact h5
    rw [this,cond_true,if_pos h5];rfl
  ·have:((idS s 5).2.1 !=0)=true:=by rw [bne_iff_ne];exact h4
   rw [this,cond_true,if_pos h4];rfl
theorem Xth {r:Xab} (h:r.made=true) (hb:r.bad=false):Xa2 r=some (r.s,rdr r r.s.length):=by
 unfold Xa2 Xc3
 rw [Xeg h,Option.bind_some]
 simp only [hb,cond_false]
 rw [XeP h,Option.bind_some]
 have:rdt r r.s.length=r.s:=by unfold rdt;rw [if_neg (by rw [hb];simp),Int.toNat_natCast,List.take_length]
 rw [this]
theorem Xy2 {s:List UInt8} (h:s.length<2^38):XdG s=some (Xsj s):=by
 unfold XdG Xic Xsj
 by_cases h0:s=[]
 ·subst h0;decide +kernel
 have hl:0<s.length:=List.length_pos_iff.2 h0
 have hb:=Xx1 s 0
 obtain ⟨-,q1,q2,q3⟩:=X4E ⟨b1 s 0,hb⟩
 simp only at q1 q2 q3
 have l1:(s.drop 1).length=s.length - 1:=List.length_drop ..
 rw [if_neg h0,XmR,Option.bind_some,XfO rfl (by simp only [];omega),Option.bind_some]
 simp only [rdn,i17]
 rw [Xhg (by omega) (by omega),Xhq (by omega) (by omega),show (1:Int).toNat=1 from rfl,Xeg rfl,Option.bind_some,show Xd0 (s.take 1)=b1 s 0 from rfl,q1,q2,q3]
 simp only [cond_false]
 by_cases h1:b1 s 0/64%2=0
 ·have:((((b1 s 0/64%2*64:Nat):Int))==0)=true:=by rw [beq_iff_eq];omega
  rw [this,cond_true,if_pos h1];rfl
 have:((((b1 s 0/64%2*64:Nat):Int))==0)=false:=by rw [beq_eq_false_iff_ne];omega
 rw [this,cond_false,if_neg h1]
 by_cases h2:b1 s 0<128
 ·have:((((b1 s 0/128*128:Nat):Int)) !=0)=false:=by rw [bne_eq_false_iff_eq];omega
  rw [this,Bool.not_false,cond_true,if_pos h2,XeP rfl,Option.bind_some]
  by_cases h3:s.length<9
  ·have hr:rdr ⟨s.drop 1,true,false⟩ 8=⟨s.drop 1,true,true⟩:=by unfold rdr;rw [if_pos (.inr (.inr (by simp only [];omega)))]
   rw [if_pos h3,hr,Xeg rfl,Option.bind_some];rfl
  ·rw [if_neg h3,Xhg (by omega) (by omega),Xhq (by omega) (by omega),Xeg rfl,Option.bind_some]
   simp only [cond_false]
   rw [Xth rfl rfl,Option.bind_some,List.drop_drop]
   rfl
 ·have:((((b1 s 0/128*128:Nat):Int)) !=0)=true:=by rw [bne_iff_ne];omega
  rw [this,Bool.not_true,cond_false,if_neg h2,XfO rfl (by simp only [];omega),Option.bind_some]
  simp only [rdn,i47]
  by_cases h3:s.length<5
  ·have hr:rdr ⟨s.drop 1,true,false⟩ 4=⟨s.drop 1,true,true⟩:=by unfold rdr;rw [if_pos (.inr (.inr (by simp only [];omega)))]
   rw [if_pos h3,hr,XHy _ (by omega),Option.bind_some];rfl
  have hv:Xd0 ((s.drop 1).take 4)<2^32:=XdK _ (by decide)
  obtain ⟨r,er,hr⟩:=Xzr (s:=s) (p:=5) h
  rw [if_neg h3,Xhg (by omega) (by omega),Xhq (by omega) (by omega),show (4:Int).toNat=4 from rfl,List.drop_drop,er,Option.bind_some]
  simp only []
  by_cases h4:(idS s 5).2.1=0
  ·have:((idS s 5).2.1 !=0)=false:=by rw [bne_eq_false_iff_eq];exact h4
   obtain ⟨r',er',hr'⟩:=Xzr (s:=s) (p:=(idS s 5).2.2) h
   rw [this,cond_false,if_neg (by omega),hr h4,er',Option.bind_some]
   simp only []
   by_cases h5:(idS s (idS s 5).2.2).2.1=0
   ·have:((idS s (idS s 5).2.2).2.1 !=0)=false:=by rw [bne_eq_false_iff_eq];exact h5
    rw [this,cond_false,if_neg (by omega),hr' h5,Xth rfl rfl,Option.bind_some,XwG (by omega) (by omega)]
   ·have:((idS s (idS s 5).2.2).2.1 !=0)=true:=by rw [bne_iff_ne];exact h5
    rw [this,cond_true,if_pos h5];rfl
  ·have:((idS s 5).2.1 !=0)=true:=by rw [bne_iff_ne];exact h4
   rw [this,cond_true,if_pos h4];rfl
end Go.Vm.Code
namespace Go.Vm.Code
open Go Go.Vm Go.Proofs
set_option maxRecDepth 100000
set_option maxHeartbeats 4000000
set_option linter.unusedVariables false
def Xef (Xci:(List UInt8)→Option (Xah×(List UInt8)×Int)) (XcS:(List UInt8)→Option (Xaj×(List UInt8)×Int)) (s:List UInt8):Option (Xap×Int):=
 (s[0]?).bind fun (b:UInt8)=>
 cond (((b.toNat:Int).fdiv (2^4))==4)
  (
  (Xci s).bind fun xg=>
  cond (xg.2.2 !=0)
   (
   some ((Xap.mk (Xaa.mk false 0 0) (Xaa.mk false 0 0) 0 [],xg.2.2)))
   (
   let t:=wI .i64 (20+(xg.1.Options.length:Int))
   let t1:=(s.length:Int) !=(wI .i64 (t+(xg.2.1.length:Int)))
   cond (t1)
    (
    some ((Xap.mk (Xaa.mk false 0 0) (Xaa.mk false 0 0) 0 [],5)))
    (
    some ((Xap.mk xg.1.Src xg.1.Dst xg.1.Proto xg.2.1,0)))))
  (
  cond (((b.toNat:Int).fdiv (2^4))==6)
   (
   (XcS s).bind fun xg1=>
   cond (xg1.2.2 !=0)
    (
    some ((Xap.mk (Xaa.mk false 0 0) (Xaa.mk false 0 0) 0 [],xg1.2.2)))
    (
    let t2:=(s.length:Int) !=(wI .i64 (40+(xg1.2.1.length:Int)))
    cond (t2)
     (
     some ((Xap.mk (Xaa.mk false 0 0) (Xaa.mk false 0 0) 0 [],5)))
     (
     some ((Xap.mk xg1.1.Src xg1.1.Dst xg1.1.Next xg1.2.1,0)))))
   (
   some ((Xap.mk (Xaa.mk false 0 0) (Xaa.mk false 0 0) 0 [],3))))
def rx71 (x:Xap×Int):Xco:=⟨.tuple ⟨[.agg ⟨[.bool x.1.src.V6,.int .u64 x.1.src.Hi,.int .u64 x.1.src.Lo,.bool x.1.dst.V6,.int .u64 x.1.dst.Hi,.int .u64 x.1.dst.Lo,.int .i64 x.1.proto,.string ⟨⟨x.1.body⟩⟩]⟩,.int .i64 x.2]⟩,[],[]⟩
def r71 (g:(List UInt8)→Option (Xap×Int)):Dec:=dV asS fun (y0:List UInt8)=>Xc4 (ofG (g y0) rx71)
theorem r71_c {g:(List UInt8)→Option (Xap×Int)} {y0:List UInt8} {x:Xap×Int} (hx:g y0=some x):r71 g [.string ⟨⟨y0⟩⟩] []=some (rx71 x):=(XaS (XdJ)).trans (XaZ hx)
def s71 (g:(List UInt8)→Option (Xap×Int)):Xbp:=⟨[.v],r71 g⟩
theorem X6b {g:(List UInt8)→Option (Xap×Int)} {y0:List UInt8} {x:Xap×Int} (hx:g y0=some x):(s71 g).run [.string ⟨⟨y0⟩⟩] []=some (rx71 x):=r71_c hx
abbrev XBF (Xci:(List UInt8)→Option (Xah×(List UInt8)×Int)) (XcS:(List UInt8)→Option (Xaj×(List UInt8)×Int)):List (Nat×Xbp):=[(129,s129 Xci),(130,s130 XcS)]
theorem XJ0 (Xci:(List UInt8)→Option (Xah×(List UInt8)×Int)) (XcS:(List UInt8)→Option (Xaj×(List UInt8)×Int)) (hS:Xai Tryz.prog (Xar (XBF Xci XcS))) (s:List UInt8) (res:Xap×Int) (h:Xef Xci XcS s=some res) :
 XaD Tryz.prog 71 0 ⟨⟨71,61,[(0,.string ⟨⟨s⟩⟩)],[.code Xy9],[],false,none⟩,[],[],0⟩ (fun v H _=>Res 0 (rx71 res) v H):=by
 unfold Xef at h
 refine Xa9 Xam hS true 3000 ?_
 conv=>whnf
 replace h:=Xak.elim h;obtain ⟨b,hy,h⟩:=h
 refine rdS.intro hy ?_
 conv=>whnf
 refine br.h h ?_ ?_ ?_
 ·rfl
 ·clear h;intro hb h;conv=>whnf
  replace h:=Xak.elim h;obtain ⟨xg,hy,h⟩:=h
  refine XaG.q rfl rfl (XGl hy) rfl rfl rfl ?_
  conv=>whnf
  refine br.h h ?_ ?_ ?_
  ·rfl
  ·clear h;intro hb h;conv=>whnf
   all_goals (cases h;exact Res.z rfl rfl rfl)
  clear h;intro hb h;conv=>whnf
  let t:Int:=wI .i64 (20+(xg.1.Options.length:Int))
  let t1:Bool:=(s.length:Int) !=(wI .i64 (t+(xg.2.1.length:Int)))
  refine br.h h ?_ ?_ ?_
  ·rfl
  ·clear h;intro hb h;conv=>whnf
   all_goals (cases h;exact Res.z rfl rfl rfl)
  clear h;intro hb h;conv=>whnf
  all_goals (cases h;exact Res.z rfl rfl rfl)
 clear h;intro hb h;conv=>whnf
 refine br.h2 h ?_ ?_ ?_
 ·rfl
 ·clear h;intro hb h;conv=>whnf
  all_goals (cases h;exact Res.z rfl rfl rfl)
 clear h;intro hb h;conv=>whnf
 replace h:=Xak.elim h;obtain ⟨xg1,hy,h⟩:=h
 refine XaG.q rfl rfl (XDj hy) rfl rfl rfl ?_
 conv=>whnf
 refine br.h h ?_ ?_ ?_
 ·rfl
 ·clear h;intro hb h;conv=>whnf
  all_goals (cases h;exact Res.z rfl rfl rfl)
 clear h;intro hb h;conv=>whnf
 let t2:Bool:=(s.length:Int) !=(wI .i64 (40+(xg1.2.1.length:Int)))
 refine br.h h ?_ ?_ ?_
 ·rfl
 ·clear h;intro hb h;conv=>whnf
  all_goals (cases h;exact Res.z rfl rfl rfl)
 clear h;intro hb h;conv=>whnf
 all_goals (cases h;exact Res.z rfl rfl rfl)
theorem ok71 (Xci:(List UInt8)→Option (Xah×(List UInt8)×Int)) (XcS:(List UInt8)→Option (Xaj×(List UInt8)×Int)) (hS:Xai Tryz.prog (Xar (XBF Xci XcS))):Xan Tryz.prog 71 (s71 (Xef Xci XcS)):=by
 refine Xan.Xau Xam (fun ar os r ha hr=>?_) ⟨Tryz.f71,rfl,by decide,rfl⟩
 replace hr:r71 (Xef Xci XcS) ar (XaA os)=some r:=hr
 unfold r71 at hr
 generalize hc:XaA os=C at hr
 replace hr:=dV.elim hr;obtain ⟨v0,l1,y0,rfl,e0,hr⟩:=hr;obtain rfl:=Xb7 _ _ e0
 replace hr:=Xdf hr;obtain ⟨rfl,rfl,x,h,rfl⟩:=hr
 obtain rfl:=Xao hc
 exact ⟨_,rfl,XJ0 Xci XcS hS _ x h⟩
def XbF:(List UInt8)→Option (Xap×Int):=Xef Xci XcS
theorem XPn:Xan Tryz.prog 71 (s71 XbF):=ok71 Xci XcS (Xai.XaW ⟨XHS,XEs,trivial⟩)
def Xck (XeC:(List UInt8)→Xaa→Xaa→Option (XaF×(List UInt8)×Int)) (XcV:(List UInt8)→Option (Int×Int×Int)) (oa0:Xap) (p:Xag):Option (Int×Int×Xag):=
 (XeC oa0.body oa0.src oa0.dst).bind fun xg=>
 cond (xg.2.2 !=0)
  (
  some ((0,xg.2.2,p)))
  (
  (XcV xg.1.Options).bind fun s=>
  cond (decide (s.2.2≥0))
   (
   some (((xg.2.1.length:Int),0,Xag.mk (Xbt.mk p.Tuple.Proto p.Tuple.Src p.Tuple.Dst xg.1.SPort xg.1.DPort) xg.1.Flags true s.1 s.2.1 p.Long p.CID p.Size)))
   (
   some (((xg.2.1.length:Int),0,Xag.mk (Xbt.mk p.Tuple.Proto p.Tuple.Src p.Tuple.Dst xg.1.SPort xg.1.DPort) xg.1.Flags p.Stamped p.Val p.Echo p.Long p.CID p.Size))))
def rx72 (x:Int×Int×Xag):Xco:=⟨.tuple ⟨[.int .i64 x.1,.int .i64 x.2.1]⟩,[],[some [.int .i64 x.2.2.Tuple.Proto,.bool x.2.2.Tuple.Src.V6,.int .u64 x.2.2.Tuple.Src.Hi,.int .u64 x.2.2.Tuple.Src.Lo,.bool x.2.2.Tuple.Dst.V6,.int .u64 x.2.2.Tuple.Dst.Hi,.int .u64 x.2.2.Tuple.Dst.Lo,.int .i64 x.2.2.Tuple.SPort,.int .i64 x.2.2.Tuple.DPort,.int .i64 x.2.2.Flags,.bool x.2.2.Stamped,.int .u32 x.2.2.Val,.int .u32 x.2.2.Echo,.bool x.2.2.Long,.string ⟨⟨x.2.2.CID⟩⟩,.int .i64 x.2.2.Size]]⟩
def r72 (g:Xap→Xag→Option (Int×Int×Xag)):Dec:=dV Xe4 fun (y0:Xap)=>dPt 0 Xgw fun (y1:Xag)=>Xc4 (ofG (g y0 y1) rx72)
theorem r72_c {g:Xap→Xag→Option (Int×Int×Xag)} {y0:Xap} {y1:Xag} {x:Int×Int×Xag} (hx:g y0 y1=some x):r72 g [.agg ⟨[.bool y0.src.V6,.int .u64 y0.src.Hi,.int .u64 y0.src.Lo,.bool y0.dst.V6,.int .u64 y0.dst.Hi,.int .u64 y0.dst.Lo,.int .i64 y0.proto,.string ⟨⟨y0.body⟩⟩]⟩,.pointer (some ⟨0,0,none⟩)] [some [.int .i64 y1.Tuple.Proto,.bool y1.Tuple.Src.V6,.int .u64 y1.Tuple.Src.Hi,.int .u64 y1.Tuple.Src.Lo,.bool y1.Tuple.Dst.V6,.int .u64 y1.Tuple.Dst.Hi,.int .u64 y1.Tuple.Dst.Lo,.int .i64 y1.Tuple.SPort,.int .i64 y1.Tuple.DPort,.int .i64 y1.Flags,.bool y1.Stamped,.int .u32 y1.Val,.int .u32 y1.Echo,.bool y1.Long,.string ⟨⟨y1.CID⟩⟩,.int .i64 y1.Size]]=some (rx72 x):=(XaS (XiM _)).trans ((XmG (XjS _)).trans (XaZ hx))
def s72 (g:Xap→Xag→Option (Int×Int×Xag)):Xbp:=⟨[.v,.pt 16],r72 g⟩
theorem XRg {g:Xap→Xag→Option (Int×Int×Xag)} {y0:Xap} {y1:Xag} {x:Int×Int×Xag} (hx:g y0 y1=some x):(s72 g).run [.agg ⟨[.bool y0.src.V6,.int .u64 y0.src.Hi,.int .u64 y0.src.Lo,.bool y0.dst.V6,.int .u64 y0.dst.Hi,.int .u64 y0.dst.Lo,.int .i64 y0.proto,.string ⟨⟨y0.body⟩⟩]⟩,.pointer (some ⟨0,0,none⟩)] [some [.int .i64 y1.Tuple.Proto,.bool y1.Tuple.Src.V6,.int .u64 y1.Tuple.Src.Hi,.int .u64 y1.Tuple.Src.Lo,.bool y1.Tuple.Dst.V6,.int .u64 y1.Tuple.Dst.Hi,.int .u64 y1.Tuple.Dst.Lo,.int .i64 y1.Tuple.SPort,.int .i64 y1.Tuple.DPort,.int .i64 y1.Flags,.bool y1.Stamped,.int .u32 y1.Val,.int .u32 y1.Echo,.bool y1.Long,.string ⟨⟨y1.CID⟩⟩,.int .i64 y1.Size]]=some (rx72 x):=r72_c hx
abbrev XBz (XeC:(List UInt8)→Xaa→Xaa→Option (XaF×(List UInt8)×Int)) (XcV:(List UInt8)→Option (Int×Int×Int)):List (Nat×Xbp):=[(107,s107 XeC),(60,s60 XcV)]
theorem XHY (XeC:(List UInt8)→Xaa→Xaa→Option (XaF×(List UInt8)×Int)) (XcV:(List UInt8)→Option (Int×Int×Int)) (hS:Xai Tryz.prog (Xar (XBz XeC XcV))) (oa0:Xap) (p:Xag) (res:Int×Int×Xag) (h:Xck XeC XcV oa0 p=some res) :
 XaD Tryz.prog 72 1 ⟨⟨72,65,[(0,.agg ⟨[.bool oa0.src.V6,.int .u64 oa0.src.Hi,.int .u64 oa0.src.Lo,.bool oa0.dst.V6,.int .u64 oa0.dst.Hi,.int .u64 oa0.dst.Lo,.int .i64 oa0.proto,.string ⟨⟨oa0.body⟩⟩]⟩),(1,.pointer (some ⟨0,0,none⟩))],[.code Xz1],[],false,none⟩,[],[(0,.cells [.int .i64 p.Tuple.Proto,.bool p.Tuple.Src.V6,.int .u64 p.Tuple.Src.Hi,.int .u64 p.Tuple.Src.Lo,.bool p.Tuple.Dst.V6,.int .u64 p.Tuple.Dst.Hi,.int .u64 p.Tuple.Dst.Lo,.int .i64 p.Tuple.SPort,.int .i64 p.Tuple.DPort,.int .i64 p.Flags,.bool p.Stamped,.int .u32 p.Val,.int .u32 p.Echo,.bool p.Long,.string ⟨⟨p.CID⟩⟩,.int .i64 p.Size])],1⟩ (fun v H _=>Res 1 (rx72 res) v H):=by
 unfold Xck at h
 refine Xa9 Xam hS true 3000 ?_
 conv=>whnf
 replace h:=Xak.elim h;obtain ⟨xg,hy,h⟩:=h
 refine XaG.q rfl rfl (XGY hy) rfl rfl rfl ?_
 conv=>whnf
 refine br.h h ?_ ?_ ?_
 ·rfl
 ·clear h;intro hb h;conv=>whnf
  all_goals (cases h)
  all_goals exact Res.of [] rfl XeZ (by decide) XeW (XlX (rfl) (Xca rfl) XeY)
 clear h;intro hb h;conv=>whnf
 replace h:=Xak.elim h;obtain ⟨s,hy,h⟩:=h
 refine XaG.q rfl rfl (X0Y hy) rfl rfl rfl ?_
 conv=>whnf
 refine br.h h ?_ ?_ ?_
 ·rfl
 ·clear h;intro hb h;conv=>whnf
  all_goals (cases h)
  all_goals exact Res.of [] rfl XeZ (by decide) XeW (XlX (rfl) (Xca rfl) XeY)
 clear h;intro hb h;conv=>whnf
 all_goals (cases h)
 all_goals exact Res.of [] rfl XeZ (by decide) XeW (XlX (rfl) (Xca rfl) XeY)
theorem ok72 (XeC:(List UInt8)→Xaa→Xaa→Option (XaF×(List UInt8)×Int)) (XcV:(List UInt8)→Option (Int×Int×Int)) (hS:Xai Tryz.prog (Xar (XBz XeC XcV))):Xan Tryz.prog 72 (s72 (Xck XeC XcV)):=by
 refine Xan.Xau Xam (fun ar os r ha hr=>?_) ⟨Tryz.f72,rfl,by decide,rfl⟩
 replace hr:r72 (Xck XeC XcV) ar (XaA os)=some r:=hr
 unfold r72 at hr
 generalize hc:XaA os=C at hr
 replace hr:=dV.elim hr;obtain ⟨v0,l1,y0,rfl,e0,hr⟩:=hr;obtain rfl:=Xh4 _ _ e0
 have hq:=dPt.elim hr;clear hr;obtain ⟨c1,l2,C,y1,rfl,rfl,e1,hr⟩:=hq;obtain rfl:=Xi6 _ _ e1
 replace hr:=Xdf hr;obtain ⟨rfl,rfl,x,h,rfl⟩:=hr
 obtain ⟨os,rfl,ha,hc⟩:=Xdr ha hc
 obtain rfl:=Xao hc
 exact ⟨_,rfl,XHY XeC XcV hS _ _ x h⟩
def XaQ:Xap→Xag→Option (Int×Int×Xag):=Xck XeC XcV
theorem X1o:Xan Tryz.prog 72 (s72 XaQ):=ok72 XeC XcV (Xai.XaW ⟨XFz,XVk,trivial⟩)
def Xb4 (XdG:(List UInt8)→Option (XaR×Int)) (XeL:(List UInt8)→Xaa→Xaa→Option (XaC×(List UInt8)×Int)) (oa0:Xap) (p:Xag):Option (Int×Int×Xag):=
 (XeL oa0.body oa0.src oa0.dst).bind fun xg=>
 cond (xg.2.2 !=0)
  (
  some ((0,xg.2.2,p)))
  (
  let t:=(xg.2.1.length:Int) !=(wI .i64 ((oa0.body.length:Int) - 8))
  cond (t)
   (
   some ((0,5,p)))
   (
   (XdG xg.2.1).bind fun xg1=>
   cond (xg1.2==0)
    (
    some (((xg.2.1.length:Int),0,Xag.mk (Xbt.mk p.Tuple.Proto p.Tuple.Src p.Tuple.Dst xg.1.SPort xg.1.DPort) p.Flags p.Stamped p.Val p.Echo xg1.1.Long xg1.1.DCID p.Size)))
    (
    some (((xg.2.1.length:Int),0,Xag.mk (Xbt.mk p.Tuple.Proto p.Tuple.Src p.Tuple.Dst xg.1.SPort xg.1.DPort) p.Flags p.Stamped p.Val p.Echo p.Long p.CID p.Size)))))
def rx73 (x:Int×Int×Xag):Xco:=⟨.tuple ⟨[.int .i64 x.1,.int .i64 x.2.1]⟩,[],[some [.int .i64 x.2.2.Tuple.Proto,.bool x.2.2.Tuple.Src.V6,.int .u64 x.2.2.Tuple.Src.Hi,.int .u64 x.2.2.Tuple.Src.Lo,.bool x.2.2.Tuple.Dst.V6,.int .u64 x.2.2.Tuple.Dst.Hi,.int .u64 x.2.2.Tuple.Dst.Lo,.int .i64 x.2.2.Tuple.SPort,.int .i64 x.2.2.Tuple.DPort,.int .i64 x.2.2.Flags,.bool x.2.2.Stamped,.int .u32 x.2.2.Val,.int .u32 x.2.2.Echo,.bool x.2.2.Long,.string ⟨⟨x.2.2.CID⟩⟩,.int .i64 x.2.2.Size]]⟩
def r73 (g:Xap→Xag→Option (Int×Int×Xag)):Dec:=dV Xe4 fun (y0:Xap)=>dPt 0 Xgw fun (y1:Xag)=>Xc4 (ofG (g y0 y1) rx73)
theorem r73_c {g:Xap→Xag→Option (Int×Int×Xag)} {y0:Xap} {y1:Xag} {x:Int×Int×Xag} (hx:g y0 y1=some x):r73 g [.agg ⟨[.bool y0.src.V6,.int .u64 y0.src.Hi,.int .u64 y0.src.Lo,.bool y0.dst.V6,.int .u64 y0.dst.Hi,.int .u64 y0.dst.Lo,.int .i64 y0.proto,.string ⟨⟨y0.body⟩⟩]⟩,.pointer (some ⟨0,0,none⟩)] [some [.int .i64 y1.Tuple.Proto,.bool y1.Tuple.Src.V6,.int .u64 y1.Tuple.Src.Hi,.int .u64 y1.Tuple.Src.Lo,.bool y1.Tuple.Dst.V6,.int .u64 y1.Tuple.Dst.Hi,.int .u64 y1.Tuple.Dst.Lo,.int .i64 y1.Tuple.SPort,.int .i64 y1.Tuple.DPort,.int .i64 y1.Flags,.bool y1.Stamped,.int .u32 y1.Val,.int .u32 y1.Echo,.bool y1.Long,.string ⟨⟨y1.CID⟩⟩,.int .i64 y1.Size]]=some (rx73 x):=(XaS (XiM _)).trans ((XmG (XjS _)).trans (XaZ hx))
def s73 (g:Xap→Xag→Option (Int×Int×Xag)):Xbp:=⟨[.v,.pt 16],r73 g⟩
theorem XY0 {g:Xap→Xag→Option (Int×Int×Xag)} {y0:Xap} {y1:Xag} {x:Int×Int×Xag} (hx:g y0 y1=some x):(s73 g).run [.agg ⟨[.bool y0.src.V6,.int .u64 y0.src.Hi,.int .u64 y0.src.Lo,.bool y0.dst.V6,.int .u64 y0.dst.Hi,.int .u64 y0.dst.Lo,.int .i64 y0.proto,.string ⟨⟨y0.body⟩⟩]⟩,.pointer (some ⟨0,0,none⟩)] [some [.int .i64 y1.Tuple.Proto,.bool y1.Tuple.Src.V6,.int .u64 y1.Tuple.Src.Hi,.int .u64 y1.Tuple.Src.Lo,.bool y1.Tuple.Dst.V6,.int .u64 y1.Tuple.Dst.Hi,.int .u64 y1.Tuple.Dst.Lo,.int .i64 y1.Tuple.SPort,.int .i64 y1.Tuple.DPort,.int .i64 y1.Flags,.bool y1.Stamped,.int .u32 y1.Val,.int .u32 y1.Echo,.bool y1.Long,.string ⟨⟨y1.CID⟩⟩,.int .i64 y1.Size]]=some (rx73 x):=r73_c hx
abbrev Xz4 (XdG:(List UInt8)→Option (XaR×Int)) (XeL:(List UInt8)→Xaa→Xaa→Option (XaC×(List UInt8)×Int)):List (Nat×Xbp):=[(39,s39 XdG),(108,s108 XeL)]
theorem XDR (XdG:(List UInt8)→Option (XaR×Int)) (XeL:(List UInt8)→Xaa→Xaa→Option (XaC×(List UInt8)×Int)) (hS:Xai Tryz.prog (Xar (Xz4 XdG XeL))) (oa0:Xap) (p:Xag) (res:Int×Int×Xag) (h:Xb4 XdG XeL oa0 p=some res) :
 XaD Tryz.prog 73 1 ⟨⟨73,65,[(0,.agg ⟨[.bool oa0.src.V6,.int .u64 oa0.src.Hi,.int .u64 oa0.src.Lo,.bool oa0.dst.V6,.int .u64 oa0.dst.Hi,.int .u64 oa0.dst.Lo,.int .i64 oa0.proto,.string ⟨⟨oa0.body⟩⟩]⟩),(1,.pointer (some ⟨0,0,none⟩))],[.code XAH],[],false,none⟩,[],[(0,.cells [.int .i64 p.Tuple.Proto,.bool p.Tuple.Src.V6,.int .u64 p.Tuple.Src.Hi,.int .u64 p.Tuple.Src.Lo,.bool p.Tuple.Dst.V6,.int .u64 p.Tuple.Dst.Hi,.int .u64 p.Tuple.Dst.Lo,.int .i64 p.Tuple.SPort,.int .i64 p.Tuple.DPort,.int .i64 p.Flags,.bool p.Stamped,.int .u32 p.Val,.int .u32 p.Echo,.bool p.Long,.string ⟨⟨p.CID⟩⟩,.int .i64 p.Size])],1⟩ (fun v H _=>Res 1 (rx73 res) v H):=by
 unfold Xb4 at h
 refine Xa9 Xam hS true 3000 ?_
 conv=>whnf
 replace h:=Xak.elim h;obtain ⟨xg,hy,h⟩:=h
 refine XaG.q rfl rfl (XJh hy) rfl rfl rfl ?_
 conv=>whnf
 refine br.h h ?_ ?_ ?_
 ·rfl
 ·clear h;intro hb h;conv=>whnf
  all_goals (cases h)
  all_goals exact Res.of [] rfl XeZ (by decide) XeW (XlX (rfl) (Xca rfl) XeY)
 clear h;intro hb h;conv=>whnf
 let t:Bool:=(xg.2.1.length:Int) !=(wI .i64 ((oa0.body.length:Int) - 8))
 refine br.h h ?_ ?_ ?_
 ·rfl
 ·clear h;intro hb h;conv=>whnf
  all_goals (cases h)
  all_goals exact Res.of [] rfl XeZ (by decide) XeW (XlX (rfl) (Xca rfl) XeY)
 clear h;intro hb h;conv=>whnf
 replace h:=Xak.elim h;obtain ⟨xg1,hy,h⟩:=h
 refine XaG.q rfl rfl (XPN hy) rfl rfl rfl ?_
 conv=>whnf
 refine br.h h ?_ ?_ ?_
 ·rfl
 ·clear h;intro hb h;conv=>whnf
  all_goals (cases h)
  all_goals exact Res.of [] rfl XeZ (by decide) XeW (XlX (rfl) (Xca rfl) XeY)
 clear h;intro hb h;conv=>whnf
 all_goals (cases h)
 all_goals exact Res.of [] rfl XeZ (by decide) XeW (XlX (rfl) (Xca rfl) XeY)
theorem ok73 (XdG:(List UInt8)→Option (XaR×Int)) (XeL:(List UInt8)→Xaa→Xaa→Option (XaC×(List UInt8)×Int)) (hS:Xai Tryz.prog (Xar (Xz4 XdG XeL))):Xan Tryz.prog 73 (s73 (Xb4 XdG XeL)):=by
 refine Xan.Xau Xam (fun ar os r ha hr=>?_) ⟨Tryz.f73,rfl,by decide,rfl⟩
 replace hr:r73 (Xb4 XdG XeL) ar (XaA os)=some r:=hr
 unfold r73 at hr
 generalize hc:XaA os=C at hr
 replace hr:=dV.elim hr;obtain ⟨v0,l1,y0,rfl,e0,hr⟩:=hr;obtain rfl:=Xh4 _ _ e0
 have hq:=dPt.elim hr;clear hr;obtain ⟨c1,l2,C,y1,rfl,rfl,e1,hr⟩:=hq;obtain rfl:=Xi6 _ _ e1
 replace hr:=Xdf hr;obtain ⟨rfl,rfl,x,h,rfl⟩:=hr
 obtain ⟨os,rfl,ha,hc⟩:=Xdr ha hc
 obtain rfl:=Xao hc
 exact ⟨_,rfl,XDR XdG XeL hS _ _ x h⟩
def XaJ:Xap→Xag→Option (Int×Int×Xag):=Xb4 XdG XeL
theorem X4z:Xan Tryz.prog 73 (s73 XaJ):=ok73 XdG XeL (Xai.XaW ⟨XOo,XHb,trivial⟩)
end Go.Vm.Code
