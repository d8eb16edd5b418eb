import Derived.Test.YtgmodbbcnfdpdaaGreatNShimPlayse
namespace Go.Vm.Code
open Go Go.Vm Go.Proofs
set_option maxRecDepth 100000
set_option maxHeartbeats 4000000
set_option linter.unusedVariables false
def Xie (Xaw:Xbn) (Xan:XaD) (Xal:XaC) (Xai:Xay) (Xac:Xat) (Xad:Xau) (Xab:Xas) (XcL:Xd0) (Xc5:Xeg) (XcP:XdS) (ha0:XbJ) (s:List UInt8):Option ((List UInt8)×Int):=
 (Xad (XbJ.mk ha0.id_ ha0.clock NilMap.mk)).bind fun x0=>
 cond (!x0)
  (
  some (([],1)))
  (
  (Xaw s).bind fun p=>
  cond (p.2 !=0)
   (
   some (([],p.2)))
   (
   (XcP p.1.Tuple).bind fun b=>
   (Xal (XbJ.mk ha0.id_ ha0.clock NilMap.mk) b).bind fun x01=>
   cond (!x01.2)
    (
    some (([],13)))
    (
    cond (p.1.Stamped)
     (
     (Xc5 s (wI .u16 x01.1)).bind fun xo=>
     some ((xo.1,xo.2)))
     (
     (XcL s x01.1).bind fun n=>
     cond (n.2==0)
      (
      some ((n.1,0)))
      (
      some ((s,0)))))))
def Xwr (x:(List UInt8)×Int):Xc2:=⟨.tuple ⟨[.string ⟨⟨x.1⟩⟩,.int .i64 x.2]⟩,[],[none,none]⟩
abbrev XbM:=XbJ→(List UInt8)→Option ((List UInt8)×Int)
def XE7 (g:XbM):Dec:=dTr 2 (XfF 0) fun (y0:XbJ)=>dV asS fun (y1:List UInt8)=>XdT (ofG (g y0 y1) Xwr)
theorem XLQ {g:XbM} {y0:XbJ} {y1:List UInt8} {x:(List UInt8)×Int} (hx:g y0 y1=some x):XE7 g [.pointer (some ⟨0,0,none⟩),.string ⟨⟨y1⟩⟩] [some [.int .i64 y0.id_,.int .u32 y0.clock,.map none],none]=some (Xwr x):=(XhS rfl rfl (Xim 0 _)).trans ((Xbb (Xds)).trans (Xa7 hx))
abbrev XEA (Xaw:Xbn) (Xan:XaD) (Xal:XaC) (Xai:Xay) (Xac:Xat) (Xad:Xau) (Xab:Xas) (XcL:Xd0) (Xc5:Xeg) (XcP:XdS):List (Nat×XbS):=[(30,s30 Xaw),(17,s17 Xan Xal Xai),(28,s28 Xac Xad Xab),(38,s38 XcL),(37,s37 Xc5),(36,s36 XcP)]
theorem XAT (Xaw:Xbn) (Xan:XaD) (Xal:XaC) (Xai:Xay) (Xac:Xat) (Xad:Xau) (Xab:Xas) (XcL:Xd0) (Xc5:Xeg) (XcP:XdS) (hS:Xaq Tryz.prog (XaL (XEA Xaw Xan Xal Xai Xac Xad Xab XcL Xc5 XcP))) (ha0:XbJ) (s:List UInt8) (res:(List UInt8)×Int) (h:Xie Xaw Xan Xal Xai Xac Xad Xab XcL Xc5 XcP ha0 s=some res) :
 XaM Tryz.prog 12 2 ⟨⟨12,53,[(0,.pointer (some ⟨0,0,none⟩)),(1,.string ⟨⟨s⟩⟩)],[.code XAH],[],false,none⟩,[],[(0,.row false [.int .i64 ha0.id_,.int .u32 ha0.clock,.map none])],2⟩ (fun v H _=>Res 2 (Xwr res) v H):=by
 unfold Xie at h
 have R1:=@Xvv Xac Xad Xab
 have R2:=@Xq4 Xaw
 have R3:=@XFE XcP
 have R4:=@XwA Xan Xal Xai
 have R5:=@XHC Xc5
 have R6:=@XFm XcL
 refine Xbp XaP hS true 3000 ?_
 conv=>whnf
 exact W
def Xgr (Xaw:Xbn) (Xan:XaD) (Xal:XaC) (Xai:Xay) (Xac:Xat) (Xad:Xau) (Xab:Xas) (XcL:Xd0) (Xc5:Xeg) (XcP:XdS) (ha0:Xaj) (s:List UInt8):Option ((List UInt8)×Int×Xaj):=
 (Xab ha0).bind fun x1=>
 cond (!x1.1)
  (
  some (([],1,Xaj.mk ha0.id_ ha0.clock x1.2.cookies)))
  (
  (Xaw s).bind fun p=>
  cond (p.2 !=0)
   (
   some (([],p.2,Xaj.mk ha0.id_ ha0.clock x1.2.cookies)))
   (
   (XcP p.1.Tuple).bind fun b=>
   (Xai (Xaj.mk ha0.id_ ha0.clock x1.2.cookies) b).bind fun x11=>
   cond (!x11.2.1)
    (
    some (([],13,Xaj.mk ha0.id_ ha0.clock x11.2.2.cookies)))
    (
    cond (p.1.Stamped)
     (
     (Xc5 s (wI .u16 x11.1)).bind fun xo=>
     some ((xo.1,xo.2,Xaj.mk ha0.id_ ha0.clock x11.2.2.cookies)))
     (
     (XcL s x11.1).bind fun n=>
     cond (n.2==0)
      (
      some ((n.1,0,Xaj.mk ha0.id_ ha0.clock x11.2.2.cookies)))
      (
      some ((s,0,Xaj.mk ha0.id_ ha0.clock x11.2.2.cookies)))))))
def XvY (x:(List UInt8)×Int×Xaj):Xc2:=⟨.tuple ⟨[.string ⟨⟨x.1⟩⟩,.int .i64 x.2.1]⟩,[],[none,some (.float .f64 0::vT XaA x.2.2.cookies)]⟩
abbrev XbC:=Xaj→(List UInt8)→Option ((List UInt8)×Int×Xaj)
def XCw (g:XbC):Dec:=dTr 2 (Xd5 0) fun (y0:Xaj)=>dV asS fun (y1:List UInt8)=>XdT (ofG (g y0 y1) XvY)
theorem XJ7 {g:XbC} {y0:Xaj} {y1:List UInt8} {x:(List UInt8)×Int×Xaj} (hx:g y0 y1=some x):XCw g [.pointer (some ⟨0,0,none⟩),.string ⟨⟨y1⟩⟩] [some [.int .i64 y0.id_,.int .u32 y0.clock,.map (some 1)],some (vT XaA y0.cookies)]=some (XvY x):=(XhS rfl rfl (XeE 0 _)).trans ((Xbb (Xds)).trans (Xa7 hx))
abbrev XDK (Xaw:Xbn) (Xan:XaD) (Xal:XaC) (Xai:Xay) (Xac:Xat) (Xad:Xau) (Xab:Xas) (XcL:Xd0) (Xc5:Xeg) (XcP:XdS):List (Nat×XbS):=[(30,s30 Xaw),(17,s17 Xan Xal Xai),(28,s28 Xac Xad Xab),(38,s38 XcL),(37,s37 Xc5),(36,s36 XcP)]
theorem Xx8 (Xaw:Xbn) (Xan:XaD) (Xal:XaC) (Xai:Xay) (Xac:Xat) (Xad:Xau) (Xab:Xas) (XcL:Xd0) (Xc5:Xeg) (XcP:XdS) (hS:Xaq Tryz.prog (XaL (XDK Xaw Xan Xal Xai Xac Xad Xab XcL Xc5 XcP))) (ha0:Xaj) (s:List UInt8) (res:(List UInt8)×Int×Xaj) (h:Xgr Xaw Xan Xal Xai Xac Xad Xab XcL Xc5 XcP ha0 s=some res) :
 XaM Tryz.prog 12 2 ⟨⟨12,53,[(0,.pointer (some ⟨0,0,none⟩)),(1,.string ⟨⟨s⟩⟩)],[.code XAH],[],false,none⟩,[],[(0,.row false [.int .i64 ha0.id_,.int .u32 ha0.clock,.map (some 1)]),(1,.mp (vT XaA ha0.cookies))],2⟩ (fun v H _=>Res 2 (XvY res) v H):=by
 unfold Xgr at h
 have R1:=@XmI Xac Xad Xab
 have R2:=@Xq4 Xaw
 have R3:=@XFE XcP
 have R4:=@Xks Xan Xal Xai
 have R5:=@XHC Xc5
 have R6:=@XFm XcL
 refine Xbp XaP hS true 3000 ?_
 conv=>whnf
 exact W
def s12 (g0:XbM) (g1:XbC):XbS:=⟨[.tr [⟨none,0,0,0,none⟩,⟨some 0,2,0,3,none⟩],.v],orD (XE7 g0) (XCw g1)⟩
theorem XEB {g0:XbM} {g1:XbC} {y0:XbJ} {y1:List UInt8} {x:(List UInt8)×Int} (hx:g0 y0 y1=some x):(s12 g0 g1).run [.pointer (some ⟨0,0,none⟩),.string ⟨⟨y1⟩⟩] [some [.int .i64 y0.id_,.int .u32 y0.clock,.map none],none]=some (Xwr x):=XrM (a:=XE7 g0) (b:=XCw g1) (XLQ hx)
theorem XvD {g0:XbM} {g1:XbC} {y0:Xaj} {y1:List UInt8} {x:(List UInt8)×Int×Xaj} (hx:g1 y0 y1=some x):(s12 g0 g1).run [.pointer (some ⟨0,0,none⟩),.string ⟨⟨y1⟩⟩] [some [.int .i64 y0.id_,.int .u32 y0.clock,.map (some 1)],some (vT XaA y0.cookies)]=some (XvY x):=Xqi (a:=XE7 g0) (b:=XCw g1) rfl (XJ7 hx)
def Xa5:XbM:=Xie Xaw Xan Xal Xai Xac Xad Xab XcL Xc5 XcP
def XaJ:XbC:=Xgr Xaw Xan Xal Xai Xac Xad Xab XcL Xc5 XcP
theorem XRh:Xb8 Tryz.prog 12 (s12 Xa5 XaJ):=by
 have L0:=XAT Xaw Xan Xal Xai Xac Xad Xab XcL Xc5 XcP (Xaq.XaY ⟨XrH,Xte,Xk7,XGl,XGw,XHE,trivial⟩)
 have L1:=Xx8 Xaw Xan Xal Xai Xac Xad Xab XcL Xc5 XcP (Xaq.XaY ⟨XrH,Xte,Xk7,XGl,XGw,XHE,trivial⟩)
 exact okA ⟨Tryz.f12,rfl,by decide,rfl⟩
def Xg3 (Xan:XaD) (Xal:XaC) (Xai:Xay) (ha0:XbJ) (t:Xag):Option Bool:=
 (Xal (XbJ.mk ha0.id_ ha0.clock NilMap.mk) t).bind fun x0=>
 cond (x0.2)
  (
  some (x0.2))
  (
  some (x0.2))
def XwI (x:Bool):Xc2:=⟨.bool x,[],[none,none]⟩
abbrev Xbx:=XbJ→Xag→Option Bool
def XDd (g:Xbx):Dec:=dTr 2 (XfF 0) fun (y0:XbJ)=>dV XdQ fun (y1:Xag)=>XdT (ofG (g y0 y1) XwI)
theorem XKS {g:Xbx} {y0:XbJ} {y1:Xag} {x:Bool} (hx:g y0 y1=some x):XDd g [.pointer (some ⟨0,0,none⟩),.agg ⟨[.int .i64 y1.Proto,.bool y1.Src.V6,.int .u64 y1.Src.Hi,.int .u64 y1.Src.Lo,.bool y1.Dst.V6,.int .u64 y1.Dst.Hi,.int .u64 y1.Dst.Lo,.int .i64 y1.SPort,.int .i64 y1.DPort]⟩] [some [.int .i64 y0.id_,.int .u32 y0.clock,.map none],none]=some (XwI x):=(XhS rfl rfl (Xim 0 _)).trans ((Xbb (XdX _)).trans (Xa7 hx))
abbrev XCJ (Xan:XaD) (Xal:XaC) (Xai:Xay):List (Nat×XbS):=[(17,s17 Xan Xal Xai)]
theorem XzH (Xan:XaD) (Xal:XaC) (Xai:Xay) (hS:Xaq Tryz.prog (XaL (XCJ Xan Xal Xai))) (ha0:XbJ) (t:Xag) (res:Bool) (h:Xg3 Xan Xal Xai ha0 t=some res) :
 XaM Tryz.prog 14 2 ⟨⟨14,20,[(0,.pointer (some ⟨0,0,none⟩)),(1,.agg ⟨[.int .i64 t.Proto,.bool t.Src.V6,.int .u64 t.Src.Hi,.int .u64 t.Src.Lo,.bool t.Dst.V6,.int .u64 t.Dst.Hi,.int .u64 t.Dst.Lo,.int .i64 t.SPort,.int .i64 t.DPort]⟩)],[.code XBn],[],false,none⟩,[],[(0,.row false [.int .i64 ha0.id_,.int .u32 ha0.clock,.map none])],2⟩ (fun v H _=>Res 2 (XwI res) v H):=by
 unfold Xg3 at h
 have R1:=@XwA Xan Xal Xai
 refine Xbp XaP hS true 3000 ?_
 conv=>whnf
 exact W
def XfL (Xan:XaD) (Xal:XaC) (Xai:Xay) (ha0:Xaj) (t:Xag):Option (Bool×Xaj):=
 (Xai ha0 t).bind fun x1=>
 cond (x1.2.1)
  (
  let m:=XbR t x1.2.2.cookies
  some ((x1.2.1,Xaj.mk ha0.id_ ha0.clock m)))
  (
  some ((x1.2.1,Xaj.mk ha0.id_ ha0.clock x1.2.2.cookies)))
def XwR (x:Bool×Xaj):Xc2:=⟨.bool x.1,[],[none,some (.float .f64 0::vT XaA x.2.cookies)]⟩
abbrev Xbm:=Xaj→Xag→Option (Bool×Xaj)
def XBM (g:Xbm):Dec:=dTr 2 (Xd5 0) fun (y0:Xaj)=>dV XdQ fun (y1:Xag)=>XdT (ofG (g y0 y1) XwR)
theorem XLd {g:Xbm} {y0:Xaj} {y1:Xag} {x:Bool×Xaj} (hx:g y0 y1=some x):XBM g [.pointer (some ⟨0,0,none⟩),.agg ⟨[.int .i64 y1.Proto,.bool y1.Src.V6,.int .u64 y1.Src.Hi,.int .u64 y1.Src.Lo,.bool y1.Dst.V6,.int .u64 y1.Dst.Hi,.int .u64 y1.Dst.Lo,.int .i64 y1.SPort,.int .i64 y1.DPort]⟩] [some [.int .i64 y0.id_,.int .u32 y0.clock,.map (some 1)],some (vT XaA y0.cookies)]=some (XwR x):=(XhS rfl rfl (XeE 0 _)).trans ((Xbb (XdX _)).trans (Xa7 hx))
abbrev XEX (Xan:XaD) (Xal:XaC) (Xai:Xay):List (Nat×XbS):=[(17,s17 Xan Xal Xai)]
theorem XyI (Xan:XaD) (Xal:XaC) (Xai:Xay) (hS:Xaq Tryz.prog (XaL (XEX Xan Xal Xai))) (ha0:Xaj) (t:Xag) (res:Bool×Xaj) (h:XfL Xan Xal Xai ha0 t=some res) :
 XaM Tryz.prog 14 2 ⟨⟨14,20,[(0,.pointer (some ⟨0,0,none⟩)),(1,.agg ⟨[.int .i64 t.Proto,.bool t.Src.V6,.int .u64 t.Src.Hi,.int .u64 t.Src.Lo,.bool t.Dst.V6,.int .u64 t.Dst.Hi,.int .u64 t.Dst.Lo,.int .i64 t.SPort,.int .i64 t.DPort]⟩)],[.code XBn],[],false,none⟩,[],[(0,.row false [.int .i64 ha0.id_,.int .u32 ha0.clock,.map (some 1)]),(1,.mp (vT XaA ha0.cookies))],2⟩ (fun v H _=>Res 2 (XwR res) v H):=by
 unfold XfL at h
 refine Xbp XaP hS true 3000 ?_
 conv=>whnf
 replace h:=Xcm.elim h;obtain ⟨x1,hy,h⟩:=h
 refine XeC.a (Xks hy) ?_
 conv=>whnf
 refine br.h2 h (by rfl) ?_ ?_
 ·clear h;intro hb h;conv=>whnf
  exact W
 clear h;intro hb h;conv=>whnf
 let m:List Xah:=XbR t x1.2.2.cookies
 refine ⟨vT XaA m,Xew.del _ x1.2.2.cookies,?_⟩
 conv=>whnf
 exact W
def s14 (g0:Xbx) (g1:Xbm):XbS:=⟨[.tr [⟨none,0,0,0,none⟩,⟨some 0,2,0,3,none⟩],.v],orD (XDd g0) (XBM g1)⟩
theorem XCY {g0:Xbx} {g1:Xbm} {y0:XbJ} {y1:Xag} {x:Bool} (hx:g0 y0 y1=some x):(s14 g0 g1).run [.pointer (some ⟨0,0,none⟩),.agg ⟨[.int .i64 y1.Proto,.bool y1.Src.V6,.int .u64 y1.Src.Hi,.int .u64 y1.Src.Lo,.bool y1.Dst.V6,.int .u64 y1.Dst.Hi,.int .u64 y1.Dst.Lo,.int .i64 y1.SPort,.int .i64 y1.DPort]⟩] [some [.int .i64 y0.id_,.int .u32 y0.clock,.map none],none]=some (XwI x):=XrM (a:=XDd g0) (b:=XBM g1) (XKS hx)
theorem XD7 {g0:Xbx} {g1:Xbm} {y0:Xaj} {y1:Xag} {x:Bool×Xaj} (hx:g1 y0 y1=some x):(s14 g0 g1).run [.pointer (some ⟨0,0,none⟩),.agg ⟨[.int .i64 y1.Proto,.bool y1.Src.V6,.int .u64 y1.Src.Hi,.int .u64 y1.Src.Lo,.bool y1.Dst.V6,.int .u64 y1.Dst.Hi,.int .u64 y1.Dst.Lo,.int .i64 y1.SPort,.int .i64 y1.DPort]⟩] [some [.int .i64 y0.id_,.int .u32 y0.clock,.map (some 1)],some (vT XaA y0.cookies)]=some (XwR x):=Xqi (a:=XDd g0) (b:=XBM g1) rfl (XLd hx)
def XaS:Xbx:=Xg3 Xan Xal Xai
def XaE:Xbm:=XfL Xan Xal Xai
theorem XRu:Xb8 Tryz.prog 14 (s14 XaS XaE):=by
 have L0:=XzH Xan Xal Xai (Xaq.XaY ⟨Xte,trivial⟩)
 have L1:=XyI Xan Xal Xai (Xaq.XaY ⟨Xte,trivial⟩)
 exact okA ⟨Tryz.f14,rfl,by decide,rfl⟩
def XiF (Xac:Xat) (Xad:Xau) (Xab:Xas):Option Int:=
 (Xac).bind fun n=>
 cond (!n)
  (
  some (0))
  (
  none)
def Xwc (x:Int):Xc2:=⟨.int .i64 x,[],[none,none]⟩
abbrev Xb1:=Option Int
def XE6 (g:Xb1):Dec:=dNl 2<|XdT (ofG (g) Xwc)
theorem XI1 {g:Xb1} {x:Int} (hx:g=some x):XE6 g [.pointer none] [none,none]=some (Xwc x):=(Xy0).trans (Xa7 hx)
abbrev XBG (Xac:Xat) (Xad:Xau) (Xab:Xas):List (Nat×XbS):=[(28,s28 Xac Xad Xab)]
theorem Xx2 (Xac:Xat) (Xad:Xau) (Xab:Xas) (hS:Xaq Tryz.prog (XaL (XBG Xac Xad Xab))) (res:Int) (h:XiF Xac Xad Xab=some res) :
 XaM Tryz.prog 19 2 ⟨⟨19,11,[(0,.pointer none)],[.code XLx],[],false,none⟩,[],[],2⟩ (fun v H _=>Res 2 (Xwc res) v H):=by
 unfold XiF at h
 have R1:=@Xpe Xac Xad Xab
 refine Xbp XaP hS true 3000 ?_
 conv=>whnf
 exact W
def XiH (Xac:Xat) (Xad:Xau) (Xab:Xas) (ha0:Xaj):Option (Int×Xaj):=
 (Xab ha0).bind fun x1=>
 cond (!x1.1)
  (
  some ((0,Xaj.mk ha0.id_ ha0.clock x1.2.cookies)))
  (
  some (((x1.2.cookies.length:Int),Xaj.mk ha0.id_ ha0.clock x1.2.cookies)))
def Xwn (x:Int×Xaj):Xc2:=⟨.int .i64 x.1,[],[none,some (.float .f64 0::vT XaA x.2.cookies)]⟩
abbrev XbP:=Xaj→Option (Int×Xaj)
def XDU (g:XbP):Dec:=dTr 2 (Xd5 0) fun (y0:Xaj)=>XdT (ofG (g y0) Xwn)
theorem XKm {g:XbP} {y0:Xaj} {x:Int×Xaj} (hx:g y0=some x):XDU g [.pointer (some ⟨0,0,none⟩)] [some [.int .i64 y0.id_,.int .u32 y0.clock,.map (some 1)],some (vT XaA y0.cookies)]=some (Xwn x):=(XhS rfl rfl (XeE 0 _)).trans (Xa7 hx)
abbrev XCR (Xac:Xat) (Xad:Xau) (Xab:Xas):List (Nat×XbS):=[(28,s28 Xac Xad Xab)]
theorem Xyj (Xac:Xat) (Xad:Xau) (Xab:Xas) (hS:Xaq Tryz.prog (XaL (XCR Xac Xad Xab))) (ha0:Xaj) (res:Int×Xaj) (h:XiH Xac Xad Xab ha0=some res) :
 XaM Tryz.prog 19 2 ⟨⟨19,11,[(0,.pointer (some ⟨0,0,none⟩))],[.code XLx],[],false,none⟩,[],[(0,.row false [.int .i64 ha0.id_,.int .u32 ha0.clock,.map (some 1)]),(1,.mp (vT XaA ha0.cookies))],2⟩ (fun v H _=>Res 2 (Xwn res) v H):=by
 unfold XiH at h
 refine Xbp XaP hS true 3000 ?_
 conv=>whnf
 replace h:=Xcm.elim h;obtain ⟨x1,hy,h⟩:=h
 refine XeC.a (XmI hy) ?_
 conv=>whnf
 refine br.h h (by rfl) ?_ ?_
 ·clear h;intro hb h;conv=>whnf
  exact W
 clear h;intro hb h;conv=>whnf
 refine ⟨x1.2.cookies.length,Xew.length _,?_⟩
 conv=>whnf
 exact W
def s19 (g0:Xb1) (g1:XbP):XbS:=⟨[.tr [⟨none,0,0,0,none⟩,⟨some 0,2,0,3,none⟩]],orD (XE6 g0) (XDU g1)⟩
theorem XDs {g0:Xb1} {g1:XbP} {x:Int} (hx:g0=some x):(s19 g0 g1).run [.pointer none] [none,none]=some (Xwc x):=XrM (a:=XE6 g0) (b:=XDU g1) (XI1 hx)
theorem Xnv {g0:Xb1} {g1:XbP} {y0:Xaj} {x:Int×Xaj} (hx:g1 y0=some x):(s19 g0 g1).run [.pointer (some ⟨0,0,none⟩)] [some [.int .i64 y0.id_,.int .u32 y0.clock,.map (some 1)],some (vT XaA y0.cookies)]=some (Xwn x):=Xqi (a:=XE6 g0) (b:=XDU g1) rfl (XKm hx)
def Xbi:Xb1:=XiF Xac Xad Xab
def XaO:XbP:=XiH Xac Xad Xab
theorem XSA:Xb8 Tryz.prog 19 (s19 Xbi XaO):=by
 have L0:=Xx2 Xac Xad Xab (Xaq.XaY ⟨Xk7,trivial⟩)
 have L1:=Xyj Xac Xad Xab (Xaq.XaY ⟨Xk7,trivial⟩)
 exact okA ⟨Tryz.f19,rfl,by decide,rfl⟩
def Xi9 (Xac:Xat) (Xad:Xau) (Xab:Xas) (clock:Int):Option Unit:=
 (Xac).bind fun n=>
 cond (n)
  (
  none)
  (
  some (()))
def Xvs (x:Unit):Xc2:=⟨.tuple ⟨[]⟩,[],[none,none]⟩
abbrev Xcg:=Int→Option Unit
def XDb (g:Xcg):Dec:=dNl 2<|dV (asI .u32) fun (y1:Int)=>XdT (ofG (g y1) Xvs)
theorem XJS {g:Xcg} {y1:Int} {x:Unit} (hx:g y1=some x):XDb g [.pointer none,.int .u32 y1] [none,none]=some (Xvs x):=(Xy0).trans ((Xbb (Xdr _)).trans (Xa7 hx))
abbrev XCP (Xac:Xat) (Xad:Xau) (Xab:Xas):List (Nat×XbS):=[(28,s28 Xac Xad Xab)]
theorem XBp (Xac:Xat) (Xad:Xau) (Xab:Xas) (hS:Xaq Tryz.prog (XaL (XCP Xac Xad Xab))) (clock:Int) (res:Unit) (h:Xi9 Xac Xad Xab clock=some res) :
 XaM Tryz.prog 16 2 ⟨⟨16,10,[(0,.pointer none),(1,.int .u32 clock)],[.code XL8],[],false,none⟩,[],[],2⟩ (fun v H _=>Res 2 (Xvs res) v H):=by
 unfold Xi9 at h
 have R1:=@Xpe Xac Xad Xab
 refine Xbp XaP hS true 3000 ?_
 conv=>whnf
 exact W
def Xjc (Xac:Xat) (Xad:Xau) (Xab:Xas) (ha0:Xaj) (clock:Int):Option Xaj:=
 (Xab ha0).bind fun x1=>
 cond (x1.1)
  (
  some (Xaj.mk ha0.id_ clock x1.2.cookies))
  (
  some (Xaj.mk ha0.id_ ha0.clock x1.2.cookies))
def Xv0 (x:Xaj):Xc2:=⟨.tuple ⟨[]⟩,[],[some [.int .i64 x.id_,.int .u32 x.clock,.map (some 1)],some (.float .f64 0::vT XaA x.cookies)]⟩
abbrev Xb7:=Xaj→Int→Option Xaj
def XCs (g:Xb7):Dec:=dTr 2 (Xd5 0) fun (y0:Xaj)=>dV (asI .u32) fun (y1:Int)=>XdT (ofG (g y0 y1) Xv0)
theorem XJ1 {g:Xb7} {y0:Xaj} {y1:Int} {x:Xaj} (hx:g y0 y1=some x):XCs g [.pointer (some ⟨0,0,none⟩),.int .u32 y1] [some [.int .i64 y0.id_,.int .u32 y0.clock,.map (some 1)],some (vT XaA y0.cookies)]=some (Xv0 x):=(XhS rfl rfl (XeE 0 _)).trans ((Xbb (Xdr _)).trans (Xa7 hx))
abbrev XCC (Xac:Xat) (Xad:Xau) (Xab:Xas):List (Nat×XbS):=[(28,s28 Xac Xad Xab)]
theorem XAf (Xac:Xat) (Xad:Xau) (Xab:Xas) (hS:Xaq Tryz.prog (XaL (XCC Xac Xad Xab))) (ha0:Xaj) (clock:Int) (res:Xaj) (h:Xjc Xac Xad Xab ha0 clock=some res) :
 XaM Tryz.prog 16 2 ⟨⟨16,10,[(0,.pointer (some ⟨0,0,none⟩)),(1,.int .u32 clock)],[.code XL8],[],false,none⟩,[],[(0,.cells [.int .i64 ha0.id_,.int .u32 ha0.clock,.map (some 1)]),(1,.mp (vT XaA ha0.cookies))],2⟩ (fun v H _=>Res 2 (Xv0 res) v H):=by
 unfold Xjc at h
 have R1:=@XmI Xac Xad Xab
 refine Xbp XaP hS true 3000 ?_
 conv=>whnf
 exact W
def s16 (g0:Xcg) (g1:Xb7):XbS:=⟨[.tr [⟨none,0,0,1,none⟩,⟨some 0,2,0,3,none⟩],.v],orD (XDb g0) (XCs g1)⟩
theorem XD3 {g0:Xcg} {g1:Xb7} {y1:Int} {x:Unit} (hx:g0 y1=some x):(s16 g0 g1).run [.pointer none,.int .u32 y1] [none,none]=some (Xvs x):=XrM (a:=XDb g0) (b:=XCs g1) (XJS hx)
theorem XEt {g0:Xcg} {g1:Xb7} {y0:Xaj} {y1:Int} {x:Xaj} (hx:g1 y0 y1=some x):(s16 g0 g1).run [.pointer (some ⟨0,0,none⟩),.int .u32 y1] [some [.int .i64 y0.id_,.int .u32 y0.clock,.map (some 1)],some (vT XaA y0.cookies)]=some (Xv0 x):=Xqi (a:=XDb g0) (b:=XCs g1) rfl (XJ1 hx)
def Xbo:Xcg:=Xi9 Xac Xad Xab
def Xa0:Xb7:=Xjc Xac Xad Xab
theorem XOe:Xb8 Tryz.prog 16 (s16 Xbo Xa0):=by
 have L0:=XBp Xac Xad Xab (Xaq.XaY ⟨Xk7,trivial⟩)
 have L1:=XAf Xac Xad Xab (Xaq.XaY ⟨Xk7,trivial⟩)
 exact okA ⟨Tryz.f16,rfl,by decide,rfl⟩
end Go.Vm.Code
namespace Go.Vm.Code
open Go Go.Vm
theorem XEk (a b:Xag):XaG a b=XDg a b:=rfl
theorem XgY {a b:Xag}:XaG a b=true↔a=b:=by rw [XEk];exact Xtp
theorem Xlq {a b:Xag} (h:a≠b):XaG a b=false:=by
 cases hb:XaG a b
 ·rfl
 ·exact absurd (XgY.1 hb) h
theorem XDY (a:Xag):XaG a a=true:=XgY.2 rfl
def Xey (m:List Xah):List Xag:=m.map fun e=>e.key
theorem XsY (t:Xag) (e:Xah) (m:List Xah):Xa6 t (e::m)=(XaG t e.key||Xa6 t m):=rfl
theorem XdE (z:Int) (t:Xag) (e:Xah) (m:List Xah):Xaz z t (e::m)=cond (XaG t e.key) e.val (Xaz z t m):=rfl
theorem Xm2 (t:Xag) (v:Int) (e:Xah) (m:List Xah):Xbl t v (e::m)=cond (XaG t e.key) (⟨e.key,v⟩::m) (e::Xbl t v m):=rfl
theorem XyZ (t:Xag) (e:Xah) (m:List Xah):XbR t (e::m)=cond (XaG t e.key) m (e::XbR t m):=rfl
theorem XiU {t:Xag}:∀ {m:List Xah},Xa6 t m=true↔t∈Xey m
 | []=>by simp [Xa6,XBC,Xey]
 | e::m=>by
   rw [XsY,Bool.or_eq_true,XgY,XiU]
   simp [Xey]
theorem Xrj {t:Xag} {m:List Xah}:Xa6 t m=false↔t ∉ Xey m:=by
 rw [←XiU];simp
theorem Xo7 {t:Xag} {v:Int}:∀ {m:List Xah},t ∉ Xey m→Xbl t v m=m++[⟨t,v⟩]
 | [],_=>rfl
 | e::m,h=>by
   simp only [Xey,List.map_cons,List.mem_cons,not_or] at h
   rw [Xm2,Xlq h.1,cond_false,Xo7 h.2];rfl
theorem XmX {t:Xag} {v:Int}:∀ {m:List Xah},t∈Xey m→Xey (Xbl t v m)=Xey m
 | [],h=>by simp [Xey] at h
 | e::m,h=>by
   rw [Xm2]
   cases hb:XaG t e.key
   ·rw [cond_false]
    have:t∈Xey m:=by
     rcases List.mem_cons.1 h with h|h
     ·rw [XgY.2 h] at hb;cases hb
     ·exact h
    show e.key::Xey _=e.key::Xey m
    rw [XmX this]
   ·rfl
theorem Xsk {z:Int} {t:Xag} {v:Int}:∀ {m:List Xah},Xaz z t (Xbl t v m)=v
 | []=>by
   show Xaz z t [⟨t,v⟩]=v
   rw [XdE,XDY];rfl
 | e::m=>by
   rw [Xm2]
   cases hb:XaG t e.key
   ·rw [cond_false,XdE,hb,cond_false,Xsk]
   ·rw [cond_true,XdE,hb,cond_true]
theorem XnX {z:Int} {t u:Xag} {v:Int} (hu:u≠t):∀ {m:List Xah},Xaz z u (Xbl t v m)=Xaz z u m
 | []=>by
   show Xaz z u [⟨t,v⟩]=_
   rw [XdE,Xlq hu];rfl
 | e::m=>by
   rw [Xm2]
   cases hb:XaG t e.key
   ·rw [cond_false,XdE,XdE,XnX hu]
   ·rw [cond_true,XdE,XdE,←XgY.1 hb,Xlq hu];rfl
theorem XDu {t u:Xag} {v:Int} {m:List Xah}:u∈Xey (Xbl t v m)↔u=t∨u∈Xey m:=by
 by_cases h:t∈Xey m
 ·rw [XmX h]
  exact ⟨.inr,fun hh=>by rcases hh with rfl|hh;exact h;exact hh⟩
 ·rw [Xo7 h]
  simp [Xey,or_comm]
theorem XC7 {t:Xag} {v:Int} {m:List Xah} (h:t∈Xey m):(Xbl t v m).length=m.length:=by
 have:=congrArg List.length (XmX (v:=v) h)
 simpa [Xey] using this
theorem XxC {t:Xag} {v:Int} {m:List Xah} (hn:(Xey m).Nodup):(Xey (Xbl t v m)).Nodup:=by
 by_cases h:t∈Xey m
 ·rw [XmX h];exact hn
 ·rw [Xo7 h]
  simp only [Xey,List.map_append,List.map_cons,List.map_nil]
  rw [List.nodup_append]
  refine ⟨hn,by simp,fun a ha b hb=>?_⟩
  simp only [List.mem_singleton] at hb
  subst hb
  exact fun e=>h (by rw [←e];exact ha)
theorem XpX {t:Xag}:∀ {m:List Xah},(Xey m).Nodup→(∀ u,u∈Xey (XbR t m)↔u∈Xey m∧u≠t)∧(Xey (XbR t m)).Nodup∧(t∈Xey m→(XbR t m).length+1=m.length)∧(t ∉ Xey m→XbR t m=m)∧∀ z u,u≠t→Xaz z u (XbR t m)=Xaz z u m
 | [],_=>⟨fun u=>by simp [Xey,XbR,XBr],by simp [Xey,XbR,XBr],fun h=>by simp [Xey] at h,fun _=>rfl,fun _ _ _=>rfl⟩
 | e::m,hn=>by
   have hn':e.key ∉ Xey m∧(Xey m).Nodup:=by simpa [Xey] using hn
   obtain ⟨h1,h2,h3,h4,h5⟩:=XpX (t:=t) hn'.2
   rw [XyZ]
   cases hb:XaG t e.key
   ·have hne:e.key≠t:=fun h=>by rw [XgY.2 h.symm] at hb;cases hb
    rw [cond_false]
    have hk:∀ l:List Xah,Xey (e::l)=e.key::Xey l:=fun _=>rfl
    refine ⟨fun u=>?_,?_,fun h=>?_,fun h=>?_,fun z u hu=>?_⟩
    ·rw [hk,hk,List.mem_cons,List.mem_cons,h1]
     constructor
     ·rintro (rfl|⟨a,b⟩)
      ·exact ⟨.inl rfl,hne⟩
      ·exact ⟨.inr a,b⟩
     ·rintro ⟨rfl|a,b⟩
      ·exact .inl rfl
      ·exact .inr ⟨a,b⟩
    ·rw [hk,List.nodup_cons,h1];exact ⟨fun h=>hn'.1 h.1,h2⟩
    ·rw [hk] at h
     rcases List.mem_cons.1 h with h|h
     ·exact absurd h.symm hne
     ·simp only [List.length_cons];rw [h3 h]
    ·rw [hk,List.mem_cons,not_or] at h;rw [h4 h.2]
    ·rw [XdE,XdE,h5 z u hu]
   ·have he:=XgY.1 hb
    rw [cond_true]
    refine ⟨fun u=>?_,hn'.2,fun _=>rfl,fun h=>absurd (by simp [Xey,he]) h,fun z u hu=>?_⟩
    ·show u∈Xey m↔u∈e.key::Xey m∧u≠t
     rw [List.mem_cons]
     constructor
     ·intro hu;exact ⟨.inr hu,fun e2=>hn'.1 (by rw [←he,←e2];exact hu)⟩
     ·rintro ⟨a|a,b⟩
      ·exact absurd (a.trans he.symm) b
      ·exact a
    ·rw [XdE,←he,Xlq hu];rfl
def pos37 (m:List Xah):Prop:=∀ t,0≤Xaz 0 t m
theorem Xtw (s:List UInt8):(Xhx s).2.1.length≤s.length:=by
 unfold Xhx
 repeat' split
 all_goals simp
def Xiw (m:List Xah) (t:Xag) (c:Xa8):Int×List Xah:=
 if Xa6 t m=true then (if c.First=true then (0,Xbl t c.Cookie m) else (0,m)) else if m.length=64 then (9,m) else (0,Xbl t c.Cookie m)
theorem XAd {i k:Int} {m:List Xah} {t:Xag} {c:Xa8}:XcE ⟨i,k,m⟩ t c=some ((Xiw m t c).1,⟨i,k,(Xiw m t c).2⟩):=by
 unfold XcE Xgp Xiw
 cases h1:Xa6 t m
 ·rw [cond_false,if_neg (by simp)]
  by_cases h2:m.length=64
  ·rw [show ((m.length:Int)==64)=true by rw [h2];rfl,cond_true,if_pos h2]
  ·rw [show ((m.length:Int)==64)=false by rw [beq_eq_false_iff_ne];omega,cond_false,if_neg h2]
 ·rw [cond_true,if_pos rfl]
  cases c.First<;>rfl
def XoC (i k:Int) (m:List Xah) (s:List UInt8):List UInt8×Int×List Xah:=
 if (Xhx s).2.2≠0 then ([],(Xhx s).2.2,m) else if (Xhx s).1.Backend≠i then ([],16,m) else if (Xav (Xhx s).2.1).2.2.2≠0 then ([],(Xav (Xhx s).2.1).2.2.2,m) else
  if (Xiw m (Xav (Xhx s).2.1).1.Tuple (Xhx s).1).1≠0 then ([],(Xiw m (Xav (Xhx s).2.1).1.Tuple (Xhx s).1).1,(Xiw m (Xav (Xhx s).2.1).1.Tuple (Xhx s).1).2) else
   if (Xav (Xhx s).2.1).1.Stamped=true then ((Xun (Xhx s).2.1 k).1,(Xun (Xhx s).2.1 k).2,(Xiw m (Xav (Xhx s).2.1).1.Tuple (Xhx s).1).2) else ((Xhx s).2.1,0,(Xiw m (Xav (Xhx s).2.1).1.Tuple (Xhx s).1).2)
theorem nz {n:Int} (h:n≠0):(n !=0)=true:=bne_iff_ne.2 h
theorem ez {n:Int} (h:¬ n≠0):(n !=0)=false:=by simpa using h
theorem XAx {i k:Int} {m:List Xah} {s:List UInt8} (hs:s.length<900):XaK ⟨i,k,m⟩ s=some ((XoC i k m s).1,(XoC i k m s).2.1,⟨i,k,(XoC i k m s).2.2⟩):=by
 have hl:=Xtw s
 unfold XaK Xgw XoC
 rw [show Xab ⟨i,k,m⟩=some (true,⟨i,k,m⟩) from rfl,Option.bind_some]
 simp only [Bool.not_true,cond_false]
 rw [XI6 (by omega),Option.bind_some]
 generalize Xhx s=g at *
 by_cases h1:g.2.2≠0
 ·rw [nz h1,cond_true,if_pos h1]
 rw [ez h1,cond_false,if_neg h1]
 by_cases h2:g.1.Backend≠i
 ·rw [show (g.1.Backend !=i)=true from bne_iff_ne.2 h2,cond_true,if_pos h2]
 rw [show (g.1.Backend !=i)=false by simpa using h2,cond_false,if_neg h2,Xnd (by omega),Option.bind_some]
 simp only []
 by_cases h3:(Xav g.2.1).2.2.2≠0
 ·rw [show ((Xav g.2.1).2.2.2==0)=false by simpa using h3,cond_false,nz h3,cond_true,if_pos h3]
 rw [show ((Xav g.2.1).2.2.2==0)=true by simpa using h3,cond_true,if_neg h3,XAd,Option.bind_some]
 simp only []
 generalize Xiw m (Xav g.2.1).1.Tuple g.1=q
 by_cases h4:q.1≠0
 ·rw [nz h4,cond_true,if_pos h4]
 rw [ez h4,cond_false,if_neg h4]
 cases h5:(Xav g.2.1).1.Stamped
 ·rw [cond_false,if_neg (by decide)]
 ·rw [cond_true,if_pos rfl,XRB (by omega),Option.bind_some]
def XtQ (m:List Xah) (s:List UInt8):List UInt8×Int:=
 if (Xav s).2.2.2≠0 then ([],(Xav s).2.2.2) else if Xa6 (XkF (Xav s).1.Tuple) m=false then ([],13) else
  if (Xav s).1.Stamped=true then XAM s (Xaz 0 (XkF (Xav s).1.Tuple) m%65536) else
   if (name36 s (Xaz 0 (XkF (Xav s).1.Tuple) m)).2=0 then ((name36 s (Xaz 0 (XkF (Xav s).1.Tuple) m)).1,0) else (s,0)
theorem XNX (n:Int):wI .u16 n=n%65536:=rfl
theorem XgZ {i k:Int} {m:List Xah} {t:Xag}:Xai ⟨i,k,m⟩ t=some (Xaz 0 t m,Xa6 t m,⟨i,k,m⟩):=rfl
theorem XmL {i k:Int} {m:List Xah}:XaO ⟨i,k,m⟩=some ((m.length:Int),⟨i,k,m⟩):=rfl
theorem XKB {i k n:Int} {m:List Xah}:Xa0 ⟨i,k,m⟩ n=some ⟨i,n,m⟩:=rfl
theorem Xvd {i k:Int} {m:List Xah} {t:Xag} (hn:(Xey m).Nodup):XaE ⟨i,k,m⟩ t=some (Xa6 t m,⟨i,k,XbR t m⟩):=by
 unfold XaE XfL
 rw [XgZ,Option.bind_some]
 simp only []
 cases h:Xa6 t m
 ·rw [cond_false,(XpX hn).2.2.2.1 (Xrj.1 h)]
 ·rfl
theorem Xy9 {i k:Int} {m:List Xah} {s:List UInt8} (hs:s.length<900) (hp:pos37 m):XaJ ⟨i,k,m⟩ s=some ((XtQ m s).1,(XtQ m s).2,⟨i,k,m⟩):=by
 unfold XaJ Xgr XtQ
 rw [show Xab ⟨i,k,m⟩=some (true,⟨i,k,m⟩) from rfl,Option.bind_some]
 simp only [Bool.not_true,cond_false]
 rw [Xnd (by omega),Option.bind_some]
 simp only []
 by_cases h3:(Xav s).2.2.2≠0
 ·rw [nz h3,cond_true,if_pos h3]
 rw [ez h3,cond_false,if_neg h3,(Xua _).1,Option.bind_some,XgZ,Option.bind_some]
 simp only []
 have hv:=hp (XkF (Xav s).1.Tuple)
 cases h4:Xa6 (XkF (Xav s).1.Tuple) m
 ·rfl
 rw [Bool.not_true,cond_false,if_neg (by decide)]
 generalize Xaz 0 (XkF (Xav s).1.Tuple) m=v at *
 cases h5:(Xav s).1.Stamped
 ·rw [cond_false,if_neg (by decide),XDE hs hv,Option.bind_some]
  by_cases h6:(name36 s v).2=0
  ·rw [show ((name36 s v).2==0)=true by simpa using h6,cond_true,if_pos h6]
  ·rw [show ((name36 s v).2==0)=false by simpa using h6,cond_false,if_neg h6]
 ·rw [cond_true,if_pos rfl,XNX,XKv hs (by omega),Option.bind_some]
end Go.Vm.Code
namespace Go.Vm.Code
open Go Go.Vm Go.Proofs
set_option maxRecDepth 100000
set_option maxHeartbeats 4000000
set_option linter.unusedVariables false
def XnK (s:List UInt8):Option (List UInt8):=
 cond (((s.length:Int).tmod 2)==1)
  (
  Xbr (decide (s.length+1<2^63)) <|
  some (s++[0]))
  (
  some (s))
def XB2 (x:List UInt8):Xc2:=⟨.string ⟨⟨x⟩⟩,[],[]⟩
abbrev Xfl:=(List UInt8)→Option (List UInt8)
def r103 (g:Xfl):Dec:=dV asS fun (y0:List UInt8)=>XdT (ofG (g y0) XB2)
theorem XQW {g:Xfl} {y0:List UInt8} {x:List UInt8} (hx:g y0=some x):r103 g [.string ⟨⟨y0⟩⟩] []=some (XB2 x):=(Xbb (Xds)).trans (Xa7 hx)
def s103 (g:Xfl):XbS:=⟨[.v],r103 g⟩
theorem XyC {g:Xfl} {y0:List UInt8} {x:List UInt8} (hx:g y0=some x):(s103 g).run [.string ⟨⟨y0⟩⟩] []=some (XB2 x):=XQW hx
abbrev XMM:List (Nat×XbS):=[]
theorem XEQ (hS:Xaq Tryz.prog (XaL (XMM))) (s:List UInt8) (res:List UInt8) (h:XnK s=some res) :
 XaM Tryz.prog 103 0 ⟨⟨103,10,[(0,.string ⟨⟨s⟩⟩)],[.code XGS],[],false,none⟩,[],[],0⟩ (fun v H _=>Res 0 (XB2 res) v H):=by
 unfold XnK at h
 refine Xbp XaP hS true 3000 ?_
 conv=>whnf
 exact W
def Xdc:Xfl:=XnK
theorem XK6:Xb8 Tryz.prog 103 (s103 Xdc):=by
 have hL:=XEQ (Xaq.XaY trivial)
 exact okA ⟨Tryz.f103,rfl,by decide,rfl⟩
def XeI (Xao:Xa9) (XcK:XeJ) (Xdo:Xfo) (Xdc:Xfl) (body:List UInt8) (ata1:Int) (witha2:List UInt8) (sum:Int) (out:List UInt8) (c:Int) (i:Int):Option (Sum ((List UInt8)×Int×Int) ((List UInt8)×Bool)):=
 cond (decide ((witha2.length:Int)>0))
  (
  let t4:=decide (i<(wI .i64 (ata1+(witha2.length:Int))))
  cond (t4)
   (
   (Xdc body).bind fun e=>
   (Xao e i 2).bind fun m1=>
   (Xdc out).bind fun e1=>
   (Xao e1 i 2).bind fun m2=>
   (Xdo c m1 m2).bind fun t5=>
   some (.inl (out,t5,wI .i64 (i+2))))
   (
   (XcK out sum 2 (wI .u64 c)).bind fun s=>
   some (.inr ((s,true)))))
  (
  (XcK out sum 2 (wI .u64 c)).bind fun s1=>
  some (.inr ((s1,true))))
def Xlw (Xao:Xa9) (XcK:XeJ) (Xdo:Xfo) (Xdc:Xfl) (body:List UInt8) (ata1:Int) (witha2:List UInt8) (sum:Int):Option ((List UInt8)×Bool):=
 cond (decide (ata1<0))
  (
  some (([],false)))
  (
  cond (decide (ata1>(body.length:Int)))
   (
   some (([],false)))
   (
   let t:=decide ((witha2.length:Int)>(wI .i64 ((body.length:Int) - ata1)))
   cond (t)
    (
    some (([],false)))
    (
    cond (decide (sum<0))
     (
     some (([],false)))
     (
     cond ((sum.tmod 2)==1)
      (
      some (([],false)))
      (
      let t1:=decide (sum>(wI .i64 ((body.length:Int) - 2)))
      cond (t1)
       (
       some (([],false)))
       (
       cond (decide ((witha2.length:Int)>0))
        (
        cond (decide (ata1<(wI .i64 (sum+2))))
         (
         let t2:=decide (sum<(wI .i64 (ata1+(witha2.length:Int))))
         cond (t2)
          (
          some (([],false)))
          (
          Xbr (decide ((0:Int)≤ata1∧ata1≤(body.length:Int))) <|
          Xbr (decide ((body.take ata1.toNat).length+witha2.length<2^63)) <|
          Xbr (decide ((0:Int)≤(wI .i64 (ata1+(witha2.length:Int)))∧(wI .i64 (ata1+(witha2.length:Int)))≤(body.length:Int))) <|
          let t3:=(body.drop (wI .i64 (ata1+(witha2.length:Int))).toNat).take (body.length - (wI .i64 (ata1+(witha2.length:Int))).toNat)
          Xbr (decide (((body.take ata1.toNat)++witha2).length+t3.length<2^63)) <|
          (Xao body sum 2).bind fun m=>
          iter (fun st=>XeI Xao XcK Xdo Xdc body ata1 witha2 sum st.1 st.2.1 st.2.2) FUEL (((body.take ata1.toNat)++witha2)++t3,m,wI .i64 ((wI .i64 (ata1.tdiv 2))*2))))
         (
         Xbr (decide ((0:Int)≤ata1∧ata1≤(body.length:Int))) <|
         Xbr (decide ((body.take ata1.toNat).length+witha2.length<2^63)) <|
         Xbr (decide ((0:Int)≤(wI .i64 (ata1+(witha2.length:Int)))∧(wI .i64 (ata1+(witha2.length:Int)))≤(body.length:Int))) <|
         let t6:=(body.drop (wI .i64 (ata1+(witha2.length:Int))).toNat).take (body.length - (wI .i64 (ata1+(witha2.length:Int))).toNat)
         Xbr (decide (((body.take ata1.toNat)++witha2).length+t6.length<2^63)) <|
         (Xao body sum 2).bind fun m3=>
         iter (fun st=>XeI Xao XcK Xdo Xdc body ata1 witha2 sum st.1 st.2.1 st.2.2) FUEL (((body.take ata1.toNat)++witha2)++t6,m3,wI .i64 ((wI .i64 (ata1.tdiv 2))*2))))
        (
        Xbr (decide ((0:Int)≤ata1∧ata1≤(body.length:Int))) <|
        Xbr (decide ((body.take ata1.toNat).length+witha2.length<2^63)) <|
        Xbr (decide ((0:Int)≤(wI .i64 (ata1+(witha2.length:Int)))∧(wI .i64 (ata1+(witha2.length:Int)))≤(body.length:Int))) <|
        let t7:=(body.drop (wI .i64 (ata1+(witha2.length:Int))).toNat).take (body.length - (wI .i64 (ata1+(witha2.length:Int))).toNat)
        Xbr (decide (((body.take ata1.toNat)++witha2).length+t7.length<2^63)) <|
        (Xao body sum 2).bind fun m4=>
        iter (fun st=>XeI Xao XcK Xdo Xdc body ata1 witha2 sum st.1 st.2.1 st.2.2) FUEL (((body.take ata1.toNat)++witha2)++t7,m4,wI .i64 ((wI .i64 (ata1.tdiv 2))*2)))))))))
def XNp (x:(List UInt8)×Bool):Xc2:=⟨.tuple ⟨[.string ⟨⟨x.1⟩⟩,.bool x.2]⟩,[],[]⟩
abbrev Xei:=(List UInt8)→Int→(List UInt8)→Int→Option ((List UInt8)×Bool)
def r76 (g:Xei):Dec:=dV asS fun (y0:List UInt8)=>dV (asI .i64) fun (y1:Int)=>dV asS fun (y2:List UInt8)=>dV (asI .i64) fun (y3:Int)=>XdT (ofG (g y0 y1 y2 y3) XNp)
theorem r76_c {g:Xei} {y0:List UInt8} {y1:Int} {y2:List UInt8} {y3:Int} {x:(List UInt8)×Bool} (hx:g y0 y1 y2 y3=some x):r76 g [.string ⟨⟨y0⟩⟩,.int .i64 y1,.string ⟨⟨y2⟩⟩,.int .i64 y3] []=some (XNp x):=(Xbb (Xds)).trans ((Xbb (Xdr _)).trans ((Xbb (Xds)).trans ((Xbb (Xdr _)).trans (Xa7 hx))))
def s76 (g:Xei):XbS:=⟨[.v,.v,.v,.v],r76 g⟩
theorem XHG {g:Xei} {y0:List UInt8} {y1:Int} {y2:List UInt8} {y3:Int} {x:(List UInt8)×Bool} (hx:g y0 y1 y2 y3=some x):(s76 g).run [.string ⟨⟨y0⟩⟩,.int .i64 y1,.string ⟨⟨y2⟩⟩,.int .i64 y3] []=some (XNp x):=r76_c hx
abbrev XG2 (Xao:Xa9) (XcK:XeJ) (Xdo:Xfo) (Xdc:Xfl):List (Nat×XbS):=[(62,s62 Xao),(47,s47 XcK),(102,s102 Xdo),(103,s103 Xdc)]
def Xkx (body:List UInt8) (ata1:Int) (witha2:List UInt8) (sum:Int) (out:List UInt8) (c:Int) (i:Int):VM:=
 ⟨⟨76,109,[(0,.string ⟨⟨body⟩⟩),(1,.int .i64 ata1),(2,.string ⟨⟨witha2⟩⟩),(3,.int .i64 sum),(10,.string ⟨⟨out⟩⟩),(11,.int .i64 c),(12,.int .i64 i)],[.code XyN,.inLoop XyN,.inBlock 0,.code XHf],[],false,none⟩,[],[],11⟩
theorem Xsi (Xao:Xa9) (XcK:XeJ) (Xdo:Xfo) (Xdc:Xfl) (hS:Xaq Tryz.prog (XaL (XG2 Xao XcK Xdo Xdc))) (body:List UInt8) (ata1:Int) (witha2:List UInt8) (sum:Int) (res:(List UInt8)×Bool):∀ fuel (st:(List UInt8)×Int×Int) (o:(List UInt8)×Bool),iter (fun st=>XeI Xao XcK Xdo Xdc body ata1 witha2 sum st.1 st.2.1 st.2.2) fuel st=some o→(o=res) →
 XaM Tryz.prog 76 0 (Xkx body ata1 witha2 sum st.1 st.2.1 st.2.2) (fun v H _=>Res 0 (XNp res) v H):=by
 intro fuel st o h hc
 refine XcJ (head:=fun st=>Xkx body ata1 witha2 sum st.1 st.2.1 st.2.2) (C:=fun o=>(o=res)) ?_ fuel st o h hc
 clear h hc o st fuel
 intro st o h hc
 obtain ⟨out,c,i⟩:=st
 replace h:XeI Xao XcK Xdo Xdc body ata1 witha2 sum out c i=some o:=h
 show XaM Tryz.prog 76 0 (Xkx body ata1 witha2 sum out c i) (fun v H _=>Res 0 (XNp res) v H)
 unfold XeI at h
 have R1:=@XF2 XcK
 refine Xbp XaP hS true 3000 ?_
 conv=>whnf
 refine br.h2 h (by rfl) ?_ ?_
 ·clear h;intro hb h;conv=>whnf
  exact W
 clear h;intro hb h;conv=>whnf
 let t4:Bool:=decide (i<(wI .i64 (ata1+(witha2.length:Int))))
 refine br.h2 h (by rfl) ?_ ?_
 ·clear h;intro hb h;conv=>whnf
  exact W
 clear h;intro hb h;conv=>whnf
 replace h:=Xcm.elim h;obtain ⟨e,hy,h⟩:=h
 refine XeC.a (XyC hy) ?_
 conv=>whnf
 replace h:=Xcm.elim h;obtain ⟨m1,hy,h⟩:=h
 refine XeC.a (Xi8 hy) ?_
 conv=>whnf
 replace h:=Xcm.elim h;obtain ⟨e1,hy,h⟩:=h
 refine XeC.a (XyC hy) ?_
 conv=>whnf
 replace h:=Xcm.elim h;obtain ⟨m2,hy,h⟩:=h
 refine XeC.a (Xi8 hy) ?_
 conv=>whnf
 replace h:=Xcm.elim h;obtain ⟨t5,hy,h⟩:=h
 refine XeC.a (XKF hy) ?_
 conv=>whnf
 cases h;simp only [Sum.elim_inl,Xkx] at hc
 exact Xjj hc [] rfl
theorem XKP (Xao:Xa9) (XcK:XeJ) (Xdo:Xfo) (Xdc:Xfl) (hS:Xaq Tryz.prog (XaL (XG2 Xao XcK Xdo Xdc))) (body:List UInt8) (ata1:Int) (witha2:List UInt8) (sum:Int) (res:(List UInt8)×Bool) (h:Xlw Xao XcK Xdo Xdc body ata1 witha2 sum=some res) :
 XaM Tryz.prog 76 0 ⟨⟨76,109,[(0,.string ⟨⟨body⟩⟩),(1,.int .i64 ata1),(2,.string ⟨⟨witha2⟩⟩),(3,.int .i64 sum)],[.code XGE],[],false,none⟩,[],[],0⟩ (fun v H _=>Res 0 (XNp res) v H):=by
 unfold Xlw at h
 refine Xbp XaP hS true 3000 ?_
 conv=>whnf
 refine br.h h (by rfl) ?_ ?_
 ·clear h;intro hb h;conv=>whnf
  exact W
 clear h;intro hb h;conv=>whnf
 refine br.h h (by rfl) ?_ ?_
 ·clear h;intro hb h;conv=>whnf
  exact W
 clear h;intro hb h;conv=>whnf
 let t:Bool:=decide ((witha2.length:Int)>(wI .i64 ((body.length:Int) - ata1)))
 refine br.h h (by rfl) ?_ ?_
 ·clear h;intro hb h;conv=>whnf
  exact W
 clear h;intro hb h;conv=>whnf
 refine br.h h (by rfl) ?_ ?_
 ·clear h;intro hb h;conv=>whnf
  exact W
 clear h;intro hb h;conv=>whnf
 refine br.h h (by rfl) ?_ ?_
 ·clear h;intro hb h;conv=>whnf
  exact W
 clear h;intro hb h;conv=>whnf
 let t1:Bool:=decide (sum>(wI .i64 ((body.length:Int) - 2)))
 refine br.h h (by rfl) ?_ ?_
 ·clear h;intro hb h;conv=>whnf
  exact W
 clear h;intro hb h;conv=>whnf
 refine br.h2 h (by rfl) ?_ ?_
 ·clear h;intro hb h;conv=>whnf
  replace h:=Xbr.elim h;obtain ⟨hb,h⟩:=h
  try (refine req.intro hb ?_;conv=>whnf)
  replace h:=Xbr.elim h;obtain ⟨hb,h⟩:=h
  try (refine req.intro hb ?_;conv=>whnf)
  replace h:=Xbr.elim h;obtain ⟨hb,h⟩:=h
  try (refine req.intro hb ?_;conv=>whnf)
  let t7:List UInt8:=(body.drop (wI .i64 (ata1+(witha2.length:Int))).toNat).take (body.length - (wI .i64 (ata1+(witha2.length:Int))).toNat)
  replace h:=Xbr.elim h;obtain ⟨hb,h⟩:=h
  try (refine req.intro hb ?_;conv=>whnf)
  replace h:=Xcm.elim h;obtain ⟨m4,hy,h⟩:=h
  refine XeC.a (Xi8 hy) ?_
  conv=>whnf
  have hl:=Xsi Xao XcK Xdo Xdc hS _ _ _ _ res _ _ _ h rfl;simp only [Xkx] at hl
  exact Xjj hl [] rfl
 clear h;intro hb h;conv=>whnf
 refine br.h2 h (by rfl) ?_ ?_
 ·clear h;intro hb h;conv=>whnf
  replace h:=Xbr.elim h;obtain ⟨hb,h⟩:=h
  try (refine req.intro hb ?_;conv=>whnf)
  replace h:=Xbr.elim h;obtain ⟨hb,h⟩:=h
  try (refine req.intro hb ?_;conv=>whnf)
  replace h:=Xbr.elim h;obtain ⟨hb,h⟩:=h
  try (refine req.intro hb ?_;conv=>whnf)
  let t6:List UInt8:=(body.drop (wI .i64 (ata1+(witha2.length:Int))).toNat).take (body.length - (wI .i64 (ata1+(witha2.length:Int))).toNat)
  replace h:=Xbr.elim h;obtain ⟨hb,h⟩:=h
  try (refine req.intro hb ?_;conv=>whnf)
  replace h:=Xcm.elim h;obtain ⟨m3,hy,h⟩:=h
  refine XeC.a (Xi8 hy) ?_
  conv=>whnf
  have hl:=Xsi Xao XcK Xdo Xdc hS _ _ _ _ res _ _ _ h rfl;simp only [Xkx] at hl
  exact Xjj hl [] rfl
 clear h;intro hb h;conv=>whnf
 let t2:Bool:=decide (sum<(wI .i64 (ata1+(witha2.length:Int))))
 refine br.h h (by rfl) ?_ ?_
 ·clear h;intro hb h;conv=>whnf
  exact W
 clear h;intro hb h;conv=>whnf
 replace h:=Xbr.elim h;obtain ⟨hb,h⟩:=h
 try (refine req.intro hb ?_;conv=>whnf)
 replace h:=Xbr.elim h;obtain ⟨hb,h⟩:=h
 try (refine req.intro hb ?_;conv=>whnf)
 replace h:=Xbr.elim h;obtain ⟨hb,h⟩:=h
 try (refine req.intro hb ?_;conv=>whnf)
 let t3:List UInt8:=(body.drop (wI .i64 (ata1+(witha2.length:Int))).toNat).take (body.length - (wI .i64 (ata1+(witha2.length:Int))).toNat)
 replace h:=Xbr.elim h;obtain ⟨hb,h⟩:=h
 try (refine req.intro hb ?_;conv=>whnf)
 replace h:=Xcm.elim h;obtain ⟨m,hy,h⟩:=h
 refine XeC.a (Xi8 hy) ?_
 conv=>whnf
 have hl:=Xsi Xao XcK Xdo Xdc hS _ _ _ _ res _ _ _ h rfl;simp only [Xkx] at hl
 exact Xjj hl [] rfl
def Xc4:Xei:=Xlw Xao XcK Xdo Xdc
theorem XH1:Xb8 Tryz.prog 76 (s76 Xc4):=by
 have hL:=XKP Xao XcK Xdo Xdc (Xaq.XaY ⟨Xl6,XGk,XKc,XK6,trivial⟩)
 exact okA ⟨Tryz.f76,rfl,by decide,rfl⟩
def Xnw (stamp:Int) (cookie:Int):Option Int:=
 let t:=wI .u32 ((wI .u32 ((wI .u32 cookie)*65536))+(stamp.tmod 65536))
 some (t)
def rx73 (x:Int):Xc2:=⟨.int .u32 x,[],[]⟩
abbrev Xgj:=Int→Int→Option Int
def r73 (g:Xgj):Dec:=dV (asI .u32) fun (y0:Int)=>dV (asI .u16) fun (y1:Int)=>XdT (ofG (g y0 y1) rx73)
theorem r73_c {g:Xgj} {y0:Int} {y1:Int} {x:Int} (hx:g y0 y1=some x):r73 g [.int .u32 y0,.int .u16 y1] []=some (rx73 x):=(Xbb (Xdr _)).trans ((Xbb (Xdr _)).trans (Xa7 hx))
def s73 (g:Xgj):XbS:=⟨[.v,.v],r73 g⟩
theorem XPw {g:Xgj} {y0:Int} {y1:Int} {x:Int} (hx:g y0 y1=some x):(s73 g).run [.int .u32 y0,.int .u16 y1] []=some (rx73 x):=r73_c hx
abbrev XRU:List (Nat×XbS):=[]
theorem XLH (hS:Xaq Tryz.prog (XaL (XRU))) (stamp:Int) (cookie:Int) (res:Int) (h:Xnw stamp cookie=some res) :
 XaM Tryz.prog 73 0 ⟨⟨73,11,[(0,.int .u32 stamp),(1,.int .u16 cookie)],[.code XQn],[],false,none⟩,[],[],0⟩ (fun v H _=>Res 0 (rx73 res) v H):=by
 unfold Xnw at h
 refine Xbp XaP hS true 3000 ?_
 conv=>whnf
 exact W
def Xgo:Xgj:=Xnw
theorem XSO:Xb8 Tryz.prog 73 (s73 Xgo):=by
 have hL:=XLH (Xaq.XaY trivial)
 exact okA ⟨Tryz.f73,rfl,by decide,rfl⟩
def Xl1 (froma0:Int) (to:Int):Option Int:=
 cond (decide (to≥froma0))
  (
  let t:=wI .i64 ((wI .i64 to) - (wI .i64 froma0))
  some (t))
  (
  let t1:=wI .i64 ((wI .i64 ((wI .i64 to)+4294967296)) - (wI .i64 froma0))
  some (t1))
def XEf (x:Int):Xc2:=⟨.int .i64 x,[],[]⟩
abbrev XfC:=Int→Int→Option Int
def r121 (g:XfC):Dec:=dV (asI .u32) fun (y0:Int)=>dV (asI .u32) fun (y1:Int)=>XdT (ofG (g y0 y1) XEf)
theorem XQr {g:XfC} {y0:Int} {y1:Int} {x:Int} (hx:g y0 y1=some x):r121 g [.int .u32 y0,.int .u32 y1] []=some (XEf x):=(Xbb (Xdr _)).trans ((Xbb (Xdr _)).trans (Xa7 hx))
def s121 (g:XfC):XbS:=⟨[.v,.v],r121 g⟩
theorem XMY {g:XfC} {y0:Int} {y1:Int} {x:Int} (hx:g y0 y1=some x):(s121 g).run [.int .u32 y0,.int .u32 y1] []=some (XEf x):=XQr hx
abbrev XIs:List (Nat×XbS):=[]
theorem XCy (hS:Xaq Tryz.prog (XaL (XIs))) (froma0:Int) (to:Int) (res:Int) (h:Xl1 froma0 to=some res) :
 XaM Tryz.prog 121 0 ⟨⟨121,19,[(0,.int .u32 froma0),(1,.int .u32 to)],[.code XHs],[],false,none⟩,[],[],0⟩ (fun v H _=>Res 0 (XEf res) v H):=by
 unfold Xl1 at h
 refine Xbp XaP hS true 3000 ?_
 conv=>whnf
 exact W
def XfO:XfC:=Xl1
theorem XJm:Xb8 Tryz.prog 121 (s121 XfO):=by
 have hL:=XCy (Xaq.XaY trivial)
 exact okA ⟨Tryz.f121,rfl,by decide,rfl⟩
def Xpd (XfO:XfC) (now:Int) (stamp:Int):Option Int:=
 (XfO stamp now).bind fun a=>
 some (a)
def rx94 (x:Int):Xc2:=⟨.int .i64 x,[],[]⟩
abbrev Xhe:=Int→Int→Option Int
def r94 (g:Xhe):Dec:=dV (asI .u32) fun (y0:Int)=>dV (asI .u32) fun (y1:Int)=>XdT (ofG (g y0 y1) rx94)
theorem r94_c {g:Xhe} {y0:Int} {y1:Int} {x:Int} (hx:g y0 y1=some x):r94 g [.int .u32 y0,.int .u32 y1] []=some (rx94 x):=(Xbb (Xdr _)).trans ((Xbb (Xdr _)).trans (Xa7 hx))
def s94 (g:Xhe):XbS:=⟨[.v,.v],r94 g⟩
theorem XTf {g:Xhe} {y0:Int} {y1:Int} {x:Int} (hx:g y0 y1=some x):(s94 g).run [.int .u32 y0,.int .u32 y1] []=some (rx94 x):=r94_c hx
abbrev XPd (XfO:XfC):List (Nat×XbS):=[(121,s121 XfO)]
theorem XKC (XfO:XfC) (hS:Xaq Tryz.prog (XaL (XPd XfO))) (now:Int) (stamp:Int) (res:Int) (h:Xpd XfO now stamp=some res) :
 XaM Tryz.prog 94 0 ⟨⟨94,8,[(0,.int .u32 now),(1,.int .u32 stamp)],[.code XTd],[],false,none⟩,[],[],0⟩ (fun v H _=>Res 0 (rx94 res) v H):=by
 unfold Xpd at h
 have R1:=@XMY XfO
 refine Xbp XaP hS true 3000 ?_
 conv=>whnf
 exact W
def XiG:Xhe:=Xpd XfO
theorem XOs:Xb8 Tryz.prog 94 (s94 XiG):=by
 have hL:=XKC XfO (Xaq.XaY ⟨XJm,trivial⟩)
 exact okA ⟨Tryz.f94,rfl,by decide,rfl⟩
def Xjw (XiG:Xhe) (now:Int) (low:Int):Option Int:=
 let t:=wI .u32 ((wI .u32 (now - (now.tmod 65536)))+(wI .u32 low))
 (XiG now t).bind fun a=>
 cond (decide (a<65536))
  (
  some (t))
  (
  some (wI .u32 (t - 65536)))
def rx64 (x:Int):Xc2:=⟨.int .u32 x,[],[]⟩
abbrev XeH:=Int→Int→Option Int
def r64 (g:XeH):Dec:=dV (asI .u32) fun (y0:Int)=>dV (asI .u16) fun (y1:Int)=>XdT (ofG (g y0 y1) rx64)
theorem r64_c {g:XeH} {y0:Int} {y1:Int} {x:Int} (hx:g y0 y1=some x):r64 g [.int .u32 y0,.int .u16 y1] []=some (rx64 x):=(Xbb (Xdr _)).trans ((Xbb (Xdr _)).trans (Xa7 hx))
def s64 (g:XeH):XbS:=⟨[.v,.v],r64 g⟩
theorem XO5 {g:XeH} {y0:Int} {y1:Int} {x:Int} (hx:g y0 y1=some x):(s64 g).run [.int .u32 y0,.int .u16 y1] []=some (rx64 x):=r64_c hx
abbrev XN7 (XiG:Xhe):List (Nat×XbS):=[(94,s94 XiG)]
theorem XJ2 (XiG:Xhe) (hS:Xaq Tryz.prog (XaL (XN7 XiG))) (now:Int) (low:Int) (res:Int) (h:Xjw XiG now low=some res) :
 XaM Tryz.prog 64 0 ⟨⟨64,20,[(0,.int .u32 now),(1,.int .u16 low)],[.code XGU],[],false,none⟩,[],[],0⟩ (fun v H _=>Res 0 (rx64 res) v H):=by
 unfold Xjw at h
 have R1:=@XTf XiG
 refine Xbp XaP hS true 3000 ?_
 conv=>whnf
 exact W
def Xec:XeH:=Xjw XiG
theorem XO0:Xb8 Tryz.prog 64 (s64 Xec):=by
 have hL:=XJ2 XiG (Xaq.XaY ⟨XOs,trivial⟩)
 exact okA ⟨Tryz.f64,rfl,by decide,rfl⟩
end Go.Vm.Code
namespace Go.Vm.Code
open Go Go.Vm
theorem XP1 {v c:Int} (hv:0≤v) (hc:0≤c∧c<65536):Xgo v c=some (Xp8 v c):=by
 unfold Xgo Xnw Xp8
 rw [Int.tmod_eq_emod_of_nonneg hv,Xrz (n:=c) (by omega) (by omega),Xrz (n:=c*65536) (by omega) (by omega),Xrz (by omega) (by omega)]
theorem XQG {now e:Int} (hn:0≤now∧now<4294967296) (he:0≤e):Xec now (wI .u16 (e.tmod 65536))=some (XpE now e):=by
 unfold Xec Xjw XiG Xpd XfO Xl1 XpE
 rw [Int.tmod_eq_emod_of_nonneg hn.1,Int.tmod_eq_emod_of_nonneg he,wU16 (n:=e%65536) (by omega) (by omega),Xrz (n:=now - now%65536) (by omega) (by omega),Xrz (n:=e%65536) (by omega) (by omega),Xrz (n:=now - now%65536+e%65536) (by omega) (by omega)]
 simp only []
 rw [Xdb (n:=now) (by omega) (by omega),Xdb (n:=now - now%65536+e%65536) (by omega) (by omega)]
 by_cases c:now≥now - now%65536+e%65536
 ·rw [XaZ c,Xdb (by omega) (by omega),Option.bind_some,Option.bind_some,XaZ (by omega)]
  congr 1;omega
 ·rw [XaR c,Xdb (n:=now+4294967296) (by omega) (by omega),Xdb (by omega) (by omega),Option.bind_some,Option.bind_some,XaR (by omega),XLK]
  congr 1;omega
def evS (s:List UInt8):List UInt8:=if s.length%2=1 then s++[0] else s
theorem XuG (s:List UInt8):(evS s).length=(s.length+1)/2*2:=by
 unfold evS;split
 ·rw [List.length_append,List.length_singleton];omega
 ·omega
theorem Xzy {s:List UInt8} (h:s.length<2^60):Xdc s=some (evS s):=by
 unfold Xdc XnK evS
 have e:((s.length:Int).tmod 2==1)=decide (s.length%2=1):=by
  rw [Int.tmod_eq_emod_of_nonneg (by omega),Bool.eq_iff_iff,beq_iff_eq,decide_eq_true_eq];omega
 rw [e]
 by_cases c:s.length%2=1
 ·rw [XaZ c,XaH (by omega),if_pos c]
 ·rw [XaR c,if_neg c]
theorem Xzo {s:List UInt8} {f t:Nat} (hf:f≤s.length) (ht:t%2=0) (ht2:t≤s.length+1) (hft:f≤t):XnQ s f t=((evS s).drop f).take (t - f):=by
 unfold XnQ evS
 by_cases c:s.length<t
 ·rw [if_pos c,if_pos (by omega),List.drop_append_of_le_length hf,List.take_of_length_le]
  rw [List.length_append,List.length_drop,List.length_singleton];omega
 ·rw [if_neg c]
  split
  ·rw [List.drop_append_of_le_length hf,List.take_append_of_le_length (by rw [List.length_drop];omega)]
  ·rfl
theorem evW {s:List UInt8} {f t p:Nat} (hf:f≤p) (hp:p<t) (he:p%2=0) (ht:t%2=0) (ht2:t≤s.length+1) (hfe:f%2=0) (hfs:f≤s.length):∃ x:Nat,x<65536∧Xuk (evS s) (p:Int) 2=((x:Int),true)∧Xd8 ((XnQ s f t).drop (p - f))=(x:Int)::Xd8 ((XnQ s f t).drop (p+2 - f)):=by
 have hl:=XuG s
 have h1:p+1<(evS s).length:=by omega
 have a1:=(evS s)[p].toNat_lt
 have a2:=(evS s)[p+1].toNat_lt
 refine ⟨(evS s)[p].toNat*256+(evS s)[p+1].toNat,by omega,XsC h1,?_⟩
 rw [Xzo hfs ht ht2 (by omega)]
 have hl2:(((evS s).drop f).take (t - f)).length=t - f:=by rw [List.length_take,List.length_drop];omega
 have g1:(((evS s).drop f).take (t - f))[p - f]'(by omega)=(evS s)[p]:=by rw [List.getElem_take,List.getElem_drop];congr 1;omega
 have g2:(((evS s).drop f).take (t - f))[p - f+1]'(by omega)=(evS s)[p+1]:=by rw [List.getElem_take,List.getElem_drop];congr 1;omega
 rw [XlH (s:=((evS s).drop f).take (t - f)) (i:=p - f) (by omega),g1,g2,show p - f+2=p+2 - f by omega]
theorem Xx9 {b:List UInt8} {j:Nat} {c:Int} (hb:b.length<2^40) (hj:j+2≤b.length) (hc:0≤c∧c≤65535):XcK b (j:Int) 2 c=some (sset b j 2 c.toNat):=by
 have h1:Xcr b (j:Int) 2 c=some (sset b j 2 c.toNat):=Xsm (s:=b) (p:=j) (k:=2) (n:=c) hb hc.1 (by omega) (by omega) hj
 rw [Xxj hb hc.1 (by omega),←XGj hb hc.1]
 exact h1
theorem Xu4 {b w:List UInt8} {i j:Nat} (hb:b.length<1000) (hw:w≠[]) (h1:i+w.length≤b.length) (hj:j+2≤b.length) {c0:Int} (hc0:isW c0=true) :
 iter (fun st=>XeI Xao XcK Xdo Xdc b (i:Int) w (j:Int) st.1 st.2.1 st.2.2) FUEL (XkI b i w,c0,((i/2*2:Nat):Int)) =
  some (sset (XkI b i w) j 2 (XiI c0 (Xd8 (XnQ b (i/2*2) ((i+w.length+1)/2*2))) (Xd8 (XnQ (XkI b i w) (i/2*2) ((i+w.length+1)/2*2)))).toNat,true):=by
 have hwl:0<w.length:=List.length_pos_iff.2 hw
 have hl:=Xnt h1
 generalize hf:i/2*2=f
 generalize ht:(i+w.length+1)/2*2=t
 have key:=iter_eq (step:=fun (st:List UInt8×Int×Int)=>XeI Xao XcK Xdo Xdc b (i:Int) w (j:Int) st.1 st.2.1 st.2.2)
  (fun st=>(sset (XkI b i w) j 2 (XiI st.2.1 (Xd8 ((XnQ b f t).drop (st.2.2.toNat - f))) (Xd8 ((XnQ (XkI b i w) f t).drop (st.2.2.toNat - f)))).toNat,true))
  (fun st=>st.1=XkI b i w∧isW st.2.1=true∧∃ p:Nat,st.2.2=(p:Int)∧f≤p∧p≤t∧p%2=0) (fun st=>t+1 - st.2.2.toNat) ?_ FUEL (XkI b i w,c0,(f:Int)) ⟨rfl,hc0,f,rfl,by omega,by omega,by omega⟩ (by rw [Xfm];simp only [];omega)
 ·refine key.trans ?_
  simp only [Int.toNat_natCast,Nat.sub_self,List.drop_zero]
 rintro ⟨o,c,q⟩ ⟨g1,g2,p,g3,g4,g5,g6⟩
 simp only at g1 g2 g3 ⊢
 subst g1 g3
 unfold XeI
 rw [XaZ (by omega),Xdb (n:=(i:Int)+(w.length:Int)) (by omega) (by omega)]
 simp only []
 have hcw:=XjC.1 g2
 by_cases c1:p<t
 ·obtain ⟨x,x1,x2,x3⟩:=evW (s:=b) (f:=f) (t:=t) (p:=p) g4 c1 g6 (by omega) (by omega) (by omega) (by omega)
  obtain ⟨y,y1,y2,y3⟩:=evW (s:=XkI b i w) (f:=f) (t:=t) (p:=p) g4 c1 g6 (by omega) (by omega) (by omega) (by omega)
  have el:=XuG b
  have el2:=XuG (XkI b i w)
  refine .inr ⟨(XkI b i w,XoW c (x:Int) (y:Int),((p+2:Nat):Int)),?_,⟨rfl,XwX _ _ _,p+2,rfl,by omega,by omega,by omega⟩,by simp only [];omega,?_⟩
  ·rw [XaZ (by omega),Xzy (by omega),Option.bind_some,Xev (by omega),Option.bind_some,Xzy (by omega),Option.bind_some,Xev (by omega),Option.bind_some,x2,y2,Xdb (n:=(x:Int)) (by omega) (by omega),Xdb (n:=(y:Int)) (by omega) (by omega),XuO,Option.bind_some,Xdb (by omega) (by omega)]
   rfl
  ·simp only [Int.toNat_natCast]
   rw [x3,y3];rfl
 ·refine .inl ?_
  have e:p=t:=by omega
  rw [XaR (by omega),XsP (by omega) (by omega),Xx9 (by omega) (by omega) hcw,Option.bind_some]
  simp only [Int.toNat_natCast]
  have d1:(XnQ b f t).drop (p - f)=[]:=by
   rw [Xzo (by omega) (by omega) (by omega) (by omega)];exact List.drop_eq_nil_of_le (by rw [List.length_take];omega)
  rw [d1]
  rfl
theorem XsX {b w:List UInt8} {i j:Nat} (hb:b.length<1000) (hw:w≠[]) (hw9:w.length<1000) (hi:i<1000) (hj:j+2≤b.length) (hj2:j%2=0):Xc4 b (i:Int) w (j:Int)=some (XgU b i w j):=by
 have hwl:0<w.length:=List.length_pos_iff.2 hw
 unfold Xc4 Xlw XgU
 rw [XaR (by omega)]
 by_cases g0:b.length<i
 ·rw [XaZ (by omega),if_pos (by omega)]
 rw [XaR (by omega),Xdb (n:=(b.length:Int) - (i:Int)) (by omega) (by omega)]
 simp only []
 by_cases g1:b.length<i+w.length
 ·rw [XaZ (by omega),if_pos g1]
 have hl:=Xnt (s:=b) (w:=w) (i:=i) (by omega)
 rw [XaR (by omega),if_neg g1,if_neg hw,XaR (by omega),show ((j:Int).tmod 2==1)=false by rw [Int.tmod_eq_emod_of_nonneg (by omega),beq_eq_false_iff_ne];omega,cond_false,Xdb (n:=(b.length:Int) - 2) (by omega) (by omega),XaR (by omega),XaZ (by omega),Xdb (n:=(j:Int)+2) (by omega) (by omega),Xdb (n:=(i:Int)+(w.length:Int)) (by omega) (by omega)]
 have hm:Xao b (j:Int) 2=some ((cAt b j:Nat):Int):=by
  have hc:=XwS b j
  rw [Xev (by omega)]
  unfold Xuk
  rw [if_pos (by omega),Int.toNat_natCast]
  show some (wI .i64 ((cAt b j:Nat):Int))=_
  rw [Xdb (by omega) (by omega)]
 have hfr:wI .i64 ((wI .i64 ((i:Int).tdiv 2))*2)=((i/2*2:Nat):Int):=by
  rw [Int.tdiv_eq_ediv_of_nonneg (by omega),Xdb (n:=(i:Int)/2) (by omega) (by omega),Xdb (by omega) (by omega)];omega
 have hrep:(b.take i++w)++(b.drop (i+w.length)).take (b.length - (i+w.length))=XkI b i w:=by
  unfold XkI;rw [List.take_of_length_le (l:=b.drop (i+w.length)) (by rw [List.length_drop];omega)]
 have hcw:isW ((cAt b j:Nat):Int)=true:=XjC.2 (by have:=XwS b j;omega)
 obtain ⟨_,a2⟩:=XjU (s:=b) (f:=i/2*2) (t:=(i+w.length+1)/2*2) (by omega) (by omega) (by omega) (by omega) (by omega)
 obtain ⟨_,b2⟩:=XjU (s:=XkI b i w) (f:=i/2*2) (t:=(i+w.length+1)/2*2) (by omega) (by omega) (by omega) (by omega) (by omega)
 have fin:=Xu4 (i:=i) (j:=j) hb hw (by omega) hj hcw
 have ts:XjJ ((cAt b j:Nat):Int) (XnQ b (i/2*2) ((i+w.length+1)/2*2)) (XnQ (XkI b i w) (i/2*2) ((i+w.length+1)/2*2))=XiI ((cAt b j:Nat):Int) (Xd8 (XnQ b (i/2*2) ((i+w.length+1)/2*2))) (Xd8 (XnQ (XkI b i w) (i/2*2) ((i+w.length+1)/2*2))):=by
  unfold XjJ;rw [if_pos ⟨by omega,by omega⟩]
 rw [←ts] at fin
 have e1:((i:Int)+(w.length:Int)).toNat=i+w.length:=by omega
 have tail:∀ (h:¬ (i<j+2∧j<i+w.length)),(Xbr (decide ((0:Int)≤(i:Int)∧(i:Int)≤(b.length:Int))) <|
  Xbr (decide ((b.take (i:Int).toNat).length+w.length<2^63)) <|
  Xbr (decide ((0:Int)≤((i:Int)+(w.length:Int))∧((i:Int)+(w.length:Int))≤(b.length:Int))) <|
  Xbr (decide (((b.take (i:Int).toNat)++w).length+((b.drop ((i:Int)+(w.length:Int)).toNat).take (b.length - ((i:Int)+(w.length:Int)).toNat)).length<2^63)) <|
  (Xao b (j:Int) 2).bind fun m3=>
  iter (fun st=>XeI Xao XcK Xdo Xdc b (i:Int) w (j:Int) st.1 st.2.1 st.2.2) FUEL (((b.take (i:Int).toNat)++w)++((b.drop ((i:Int)+(w.length:Int)).toNat).take (b.length - ((i:Int)+(w.length:Int)).toNat)),m3,wI .i64 ((wI .i64 ((i:Int).tdiv 2))*2))) =
  some (if i<j+2∧j<i+w.length then ([],false) else (sset (XkI b i w) j 2 (XjJ ((cAt b j:Nat):Int) (XnQ b (i/2*2) ((i+w.length+1)/2*2)) (XnQ (XkI b i w) (i/2*2) ((i+w.length+1)/2*2))).toNat,true)):=fun h=>by
  rw [if_neg h,XaH (by omega),XaH (by rw [List.length_take];omega),XaH (by omega),XaH (by rw [List.length_append,List.length_take,List.length_take,List.length_drop];omega),hm,Option.bind_some,hfr,e1,Int.toNat_natCast,hrep]
  exact fin
 by_cases c1:(i:Int)<(j:Int)+2
 ·rw [XaZ c1]
  by_cases c2:(j:Int)<(i:Int)+(w.length:Int)
  ·rw [XaZ c2,if_pos (by omega)]
  ·rw [XaR c2];exact tail (by omega)
 ·rw [XaR c1];exact tail (by omega)
end Go.Vm.Code
namespace Go.Vm.Code
open Go Go.Vm Go.Proofs
set_option maxRecDepth 100000
set_option maxHeartbeats 4000000
set_option linter.unusedVariables false
def Xjn (XbU:Xc1) (Xc7:Xen) (Xc3:Xem) (Xc4:Xei) (s:List UInt8) (off:Int) (value:Int):Option (List UInt8):=
 (Xc3 s).bind fun w=>
 Xbr (decide ((0:Int)≤w.2.1∧w.2.1≤(s.length:Int)∧(0:Int)≤(wI .i64 (w.1+20))∧(wI .i64 (w.1+20))≤(w.2.1.toNat:Int))) <|
 let t:=(s.drop (wI .i64 (w.1+20)).toNat).take (w.2.1.toNat - (wI .i64 (w.1+20)).toNat)
 (Xc7 t).bind fun s1=>
 Xbr (decide ((0:Int)≤w.1∧w.1≤(s.length:Int))) <|
 let t1:=(s.drop w.1.toNat).take (s.length - w.1.toNat)
 (XbU (wI .u64 value) 4).bind fun p=>
 (Xc4 t1 (wI .i64 ((wI .i64 (20+s1.2.2))+off)) p 16).bind fun p1=>
 Xbr (decide ((0:Int)≤w.1∧w.1≤(s.length:Int))) <|
 Xbr (decide ((s.take w.1.toNat).length+p1.1.length<2^63)) <|
 some ((s.take w.1.toNat)++p1.1)
def rx63 (x:List UInt8):Xc2:=⟨.string ⟨⟨x⟩⟩,[],[]⟩
abbrev Xdv:=(List UInt8)→Int→Int→Option (List UInt8)
def r63 (g:Xdv):Dec:=dV asS fun (y0:List UInt8)=>dV (asI .i64) fun (y1:Int)=>dV (asI .u32) fun (y2:Int)=>XdT (ofG (g y0 y1 y2) rx63)
theorem r63_c {g:Xdv} {y0:List UInt8} {y1:Int} {y2:Int} {x:List UInt8} (hx:g y0 y1 y2=some x):r63 g [.string ⟨⟨y0⟩⟩,.int .i64 y1,.int .u32 y2] []=some (rx63 x):=(Xbb (Xds)).trans ((Xbb (Xdr _)).trans ((Xbb (Xdr _)).trans (Xa7 hx)))
def s63 (g:Xdv):XbS:=⟨[.v,.v,.v],r63 g⟩
theorem XGW {g:Xdv} {y0:List UInt8} {y1:Int} {y2:Int} {x:List UInt8} (hx:g y0 y1 y2=some x):(s63 g).run [.string ⟨⟨y0⟩⟩,.int .i64 y1,.int .u32 y2] []=some (rx63 x):=r63_c hx
abbrev XPN (XbU:Xc1) (Xc7:Xen) (Xc3:Xem) (Xc4:Xei):List (Nat×XbS):=[(46,s46 XbU),(83,s83 Xc7),(74,s74 Xc3),(76,s76 Xc4)]
theorem XKd (XbU:Xc1) (Xc7:Xen) (Xc3:Xem) (Xc4:Xei) (hS:Xaq Tryz.prog (XaL (XPN XbU Xc7 Xc3 Xc4))) (s:List UInt8) (off:Int) (value:Int) (res:List UInt8) (h:Xjn XbU Xc7 Xc3 Xc4 s off value=some res) :
 XaM Tryz.prog 63 0 ⟨⟨63,50,[(0,.string ⟨⟨s⟩⟩),(1,.int .i64 off),(2,.int .u32 value)],[.code XQo],[],false,none⟩,[],[],0⟩ (fun v H _=>Res 0 (rx63 res) v H):=by
 unfold Xjn at h
 have R1:=@XG9 Xc3
 have R2:=@XF4 Xc7
 have R3:=@Xto XbU
 have R4:=@XHG Xc4
 refine Xbp XaP hS true 3000 ?_
 conv=>whnf
 exact W
def Xcs:Xdv:=Xjn XbU Xc7 Xc3 Xc4
theorem XFC:Xb8 Tryz.prog 63 (s63 Xcs):=by
 have hL:=XKd XbU Xc7 Xc3 Xc4 (Xaq.XaY ⟨Xtz,XFj,XGK,XH1,trivial⟩)
 exact okA ⟨Tryz.f63,rfl,by decide,rfl⟩
def Xr8 (Xbe:Xcz) (Xec:XeH) (Xcs:Xdv) (s:List UInt8) (now:Int):Option ((List UInt8)×Int):=
 (Xbe s).bind fun p=>
 cond (p.2 !=0)
  (
  some (([],p.2)))
  (
  cond (p.1.Tuple.Proto !=6)
   (
   some (([],6)))
   (
   cond (!p.1.Stamped)
    (
    some (([],6)))
    (
    (Xec now (wI .u16 (p.1.Echo.tmod 65536))).bind fun xr=>
    (Xcs s 4 xr).bind fun s1=>
    some ((s1,0)))))
def rx35 (x:(List UInt8)×Int):Xc2:=⟨.tuple ⟨[.string ⟨⟨x.1⟩⟩,.int .i64 x.2]⟩,[],[]⟩
abbrev Xiv:=(List UInt8)→Int→Option ((List UInt8)×Int)
def r35 (g:Xiv):Dec:=dV asS fun (y0:List UInt8)=>dV (asI .u32) fun (y1:Int)=>XdT (ofG (g y0 y1) rx35)
theorem r35_c {g:Xiv} {y0:List UInt8} {y1:Int} {x:(List UInt8)×Int} (hx:g y0 y1=some x):r35 g [.string ⟨⟨y0⟩⟩,.int .u32 y1] []=some (rx35 x):=(Xbb (Xds)).trans ((Xbb (Xdr _)).trans (Xa7 hx))
def s35 (g:Xiv):XbS:=⟨[.v,.v],r35 g⟩
theorem XA9 {g:Xiv} {y0:List UInt8} {y1:Int} {x:(List UInt8)×Int} (hx:g y0 y1=some x):(s35 g).run [.string ⟨⟨y0⟩⟩,.int .u32 y1] []=some (rx35 x):=r35_c hx
abbrev XOW (Xbe:Xcz) (Xec:XeH) (Xcs:Xdv):List (Nat×XbS):=[(25,s25 Xbe),(64,s64 Xec),(63,s63 Xcs)]
theorem XML (Xbe:Xcz) (Xec:XeH) (Xcs:Xdv) (hS:Xaq Tryz.prog (XaL (XOW Xbe Xec Xcs))) (s:List UInt8) (now:Int) (res:(List UInt8)×Int) (h:Xr8 Xbe Xec Xcs s now=some res) :
 XaM Tryz.prog 35 0 ⟨⟨35,33,[(0,.string ⟨⟨s⟩⟩),(1,.int .u32 now)],[.code XFS],[],false,none⟩,[],[],0⟩ (fun v H _=>Res 0 (rx35 res) v H):=by
 unfold Xr8 at h
 have R1:=@XtA Xbe
 have R2:=@XO5 Xec
 have R3:=@XGW Xcs
 refine Xbp XaP hS true 3000 ?_
 conv=>whnf
 exact W
def Xji:Xiv:=Xr8 Xbe Xec Xcs
theorem XR3:Xb8 Tryz.prog 35 (s35 Xji):=by
 have hL:=XML Xbe Xec Xcs (Xaq.XaY ⟨Xue,XO0,XFC,trivial⟩)
 exact okA ⟨Tryz.f35,rfl,by decide,rfl⟩
def Xpv (Xbe:Xcz) (Xgo:Xgj) (Xcs:Xdv) (s:List UInt8) (cookie:Int):Option ((List UInt8)×Int):=
 (Xbe s).bind fun p=>
 cond (p.2 !=0)
  (
  some (([],p.2)))
  (
  cond (p.1.Tuple.Proto !=6)
   (
   some (([],6)))
   (
   cond (!p.1.Stamped)
    (
    some (([],6)))
    (
    (Xgo p.1.Val cookie).bind fun l=>
    (Xcs s 0 l).bind fun s1=>
    some ((s1,0)))))
def rx39 (x:(List UInt8)×Int):Xc2:=⟨.tuple ⟨[.string ⟨⟨x.1⟩⟩,.int .i64 x.2]⟩,[],[]⟩
abbrev Xhs:=(List UInt8)→Int→Option ((List UInt8)×Int)
def r39 (g:Xhs):Dec:=dV asS fun (y0:List UInt8)=>dV (asI .u16) fun (y1:Int)=>XdT (ofG (g y0 y1) rx39)
theorem r39_c {g:Xhs} {y0:List UInt8} {y1:Int} {x:(List UInt8)×Int} (hx:g y0 y1=some x):r39 g [.string ⟨⟨y0⟩⟩,.int .u16 y1] []=some (rx39 x):=(Xbb (Xds)).trans ((Xbb (Xdr _)).trans (Xa7 hx))
def s39 (g:Xhs):XbS:=⟨[.v,.v],r39 g⟩
theorem XS6 {g:Xhs} {y0:List UInt8} {y1:Int} {x:(List UInt8)×Int} (hx:g y0 y1=some x):(s39 g).run [.string ⟨⟨y0⟩⟩,.int .u16 y1] []=some (rx39 x):=r39_c hx
abbrev XS8 (Xbe:Xcz) (Xgo:Xgj) (Xcs:Xdv):List (Nat×XbS):=[(25,s25 Xbe),(73,s73 Xgo),(63,s63 Xcs)]
theorem XJ8 (Xbe:Xcz) (Xgo:Xgj) (Xcs:Xdv) (hS:Xaq Tryz.prog (XaL (XS8 Xbe Xgo Xcs))) (s:List UInt8) (cookie:Int) (res:(List UInt8)×Int) (h:Xpv Xbe Xgo Xcs s cookie=some res) :
 XaM Tryz.prog 39 0 ⟨⟨39,31,[(0,.string ⟨⟨s⟩⟩),(1,.int .u16 cookie)],[.code XFY],[],false,none⟩,[],[],0⟩ (fun v H _=>Res 0 (rx39 res) v H):=by
 unfold Xpv at h
 have R1:=@XtA Xbe
 have R2:=@XPw Xgo
 have R3:=@XGW Xcs
 refine Xbp XaP hS true 3000 ?_
 conv=>whnf
 exact W
def XhT:Xhs:=Xpv Xbe Xgo Xcs
theorem XRO:Xb8 Tryz.prog 39 (s39 XhT):=by
 have hL:=XJ8 Xbe Xgo Xcs (Xaq.XaY ⟨Xue,XSO,XFC,trivial⟩)
 exact okA ⟨Tryz.f39,rfl,by decide,rfl⟩
def XmS (Xao:Xa9) (XbU:Xc1) (XcK:XeJ) (XeW:Xfs) (Xbe:Xcz) (Xc3:Xem) (Xc4:Xei) (s:List UInt8) (ida1:Int):Option ((List UInt8)×Int):=
 (Xbe s).bind fun p=>
 cond (p.2 !=0)
  (
  some (([],p.2)))
  (
  (Xc3 s).bind fun w=>
  cond (p.1.Tuple.Proto !=17)
   (
   some (([],6)))
   (
   Xbr (decide ((0:Int)≤w.2.1∧w.2.1≤(s.length:Int))) <|
   let t:=(s.drop w.2.1.toNat).take (s.length - w.2.1.toNat)
   (XeW t).bind fun xg=>
   cond (xg.2 !=0)
    (
    some (([],6)))
    (
    cond (!xg.1.Long)
     (
     some (([],6)))
     (
     cond ((xg.1.SCID.length:Int) !=8)
      (
      some (([],3)))
      (
      (Xao s (wI .i64 (w.1+6)) 2).bind fun m=>
      Xbr (decide ((0:Int)≤w.1∧w.1≤(s.length:Int))) <|
      let t1:=(s.drop w.1.toNat).take (s.length - w.1.toNat)
      (XbU ida1 8).bind fun p1=>
      (Xc4 t1 (wI .i64 (15+(xg.1.DCID.length:Int))) p1 6).bind fun p2=>
      cond (m==0)
       (
       (XcK p2.1 6 2 0).bind fun s1=>
       Xbr (decide ((0:Int)≤w.1∧w.1≤(s.length:Int))) <|
       Xbr (decide ((s.take w.1.toNat).length+s1.length<2^63)) <|
       some (((s.take w.1.toNat)++s1,0)))
       (
       (Xao p2.1 6 2).bind fun m1=>
       cond (m1==0)
        (
        (XcK p2.1 6 2 65535).bind fun s2=>
        Xbr (decide ((0:Int)≤w.1∧w.1≤(s.length:Int))) <|
        Xbr (decide ((s.take w.1.toNat).length+s2.length<2^63)) <|
        some (((s.take w.1.toNat)++s2,0)))
        (
        Xbr (decide ((0:Int)≤w.1∧w.1≤(s.length:Int))) <|
        Xbr (decide ((s.take w.1.toNat).length+p2.1.length<2^63)) <|
        some (((s.take w.1.toNat)++p2.1,0)))))))))
def rx40 (x:(List UInt8)×Int):Xc2:=⟨.tuple ⟨[.string ⟨⟨x.1⟩⟩,.int .i64 x.2]⟩,[],[]⟩
abbrev Xgg:=(List UInt8)→Int→Option ((List UInt8)×Int)
def r40 (g:Xgg):Dec:=dV asS fun (y0:List UInt8)=>dV (asI .u64) fun (y1:Int)=>XdT (ofG (g y0 y1) rx40)
theorem r40_c {g:Xgg} {y0:List UInt8} {y1:Int} {x:(List UInt8)×Int} (hx:g y0 y1=some x):r40 g [.string ⟨⟨y0⟩⟩,.int .u64 y1] []=some (rx40 x):=(Xbb (Xds)).trans ((Xbb (Xdr _)).trans (Xa7 hx))
def s40 (g:Xgg):XbS:=⟨[.v,.v],r40 g⟩
theorem XQi {g:Xgg} {y0:List UInt8} {y1:Int} {x:(List UInt8)×Int} (hx:g y0 y1=some x):(s40 g).run [.string ⟨⟨y0⟩⟩,.int .u64 y1] []=some (rx40 x):=r40_c hx
abbrev XRA (Xao:Xa9) (XbU:Xc1) (XcK:XeJ) (XeW:Xfs) (Xbe:Xcz) (Xc3:Xem) (Xc4:Xei):List (Nat×XbS):=[(62,s62 Xao),(46,s46 XbU),(47,s47 XcK),(75,s75 XeW),(25,s25 Xbe),(74,s74 Xc3),(76,s76 Xc4)]
theorem XJP (Xao:Xa9) (XbU:Xc1) (XcK:XeJ) (XeW:Xfs) (Xbe:Xcz) (Xc3:Xem) (Xc4:Xei) (hS:Xaq Tryz.prog (XaL (XRA Xao XbU XcK XeW Xbe Xc3 Xc4))) (s:List UInt8) (ida1:Int) (res:(List UInt8)×Int) (h:XmS Xao XbU XcK XeW Xbe Xc3 Xc4 s ida1=some res) :
 XaM Tryz.prog 40 0 ⟨⟨40,84,[(0,.string ⟨⟨s⟩⟩),(1,.int .u64 ida1)],[.code XF3],[],false,none⟩,[],[],0⟩ (fun v H _=>Res 0 (rx40 res) v H):=by
 unfold XmS at h
 have R1:=@XtA Xbe
 have R2:=@XG9 Xc3
 have R3:=@XGF XeW
 have R4:=@Xi8 Xao
 have R5:=@Xto XbU
 have R6:=@XHG Xc4
 have R7:=@XF2 XcK
 refine Xbp XaP hS true 3000 ?_
 conv=>whnf
 exact W
def XfM:Xgg:=XmS Xao XbU XcK XeW Xbe Xc3 Xc4
theorem XQz:Xb8 Tryz.prog 40 (s40 XfM):=by
 have hL:=XJP Xao XbU XcK XeW Xbe Xc3 Xc4 (Xaq.XaY ⟨Xl6,Xtz,XGk,XH4,Xue,XGK,XH1,trivial⟩)
 exact okA ⟨Tryz.f40,rfl,by decide,rfl⟩
end Go.Vm.Code
namespace Go.Vm.Code
open Go Go.Vm
theorem Xkb {s:List UInt8} (h:(Xav s).2.2.2=0) (hs:(Xav s).1.Stamped=true):(Xav s).1.Tuple.Proto=6:=by
 obtain ⟨k1,k2,k3,k4,k5,k6,k7⟩:=XfU h hs
 have hq:(Xf5 (Xhy (Xak s).body (Xak s).src (Xak s).dst).1.Options).2.2=(Xkg s:Int):=by unfold Xkg;omega
 rw [k7]
 simp only []
 unfold Xf9
 rw [if_pos k2,k5]
 simp [k2]
theorem XPM {n k:Nat} (hk:0<k):be n k≠[]:=fun e=>by
 have:=congrArg List.length e
 rw [Xhk] at this;simp at this;omega
theorem Xx5 {s:List UInt8} {off:Nat} {v:Int} (hl:s.length<900) (hoff:off=0∨off=4) (h:(Xav s).2.2.2=0) (hs:(Xav s).1.Stamped=true) (hv:0≤v∧v<4294967296):Xcs s (off:Int) v=some (XoX s off v):=by
 obtain ⟨k1,k2,k3,k4,k5,k6,k7⟩:=XfU h hs
 obtain ⟨p1,p2,_,_⟩:=XrE (off:=off) (v:=v) hoff h hs hv
 have hbl:=Xfn k1
 obtain ⟨_,sw2⟩:=Xh2 (b:=(Xak s).body) k1 rfl
 obtain ⟨l20,v5,ln,o7,g7⟩:=XsJ k5
 have hq:(Xf5 (Xhy (Xak s).body (Xak s).src (Xak s).dst).1.Options).2.2=(Xkg s:Int):=by unfold Xkg;omega
 obtain ⟨_,_,_,hB⟩:=XjN (b':=(Xak s).body) (p:=Xkg s) h hs hq (.inl rfl) rfl (fun _ _ _ _=>rfl) rfl
 rw [g7] at hq
 simp only [hd7] at hq
 have hin:(Xf9 (Xak s) s.length).2.1=((Xak s).body.drop (20+n7 (Xak s).body)).length:=by
  unfold Xf9
  rw [if_pos k2,g7]
  simp
 have ha:(Xav s).2.1=(Xak s).size:=by rw [k7];simp only;omega
 have hb:(Xav s).2.2.1=(Xak s).size+(20+n7 (Xak s).body):=by rw [k7];simp only;rw [hin,List.length_drop];omega
 have hw:((XgU (Xak s).body (20+Xkg s+off) (be v.toNat 4) 16).1).length=(Xak s).body.length:=by
  unfold XoX at p2
  rw [List.length_append,List.length_take] at p2;omega
 unfold Xcs Xjn
 rw [Xtx (by omega),ha,hb,h,Option.bind_some]
 simp only []
 unfold XoX
 generalize hz:(Xak s).size=z at *
 have e1:wI .i64 ((z:Int)+20)=((z+20:Nat):Int):=by rw [Xdb (by omega) (by omega)];omega
 simp only [e1,Int.toNat_natCast]
 have e2:(s.drop (z+20)).take (z+(20+n7 (Xak s).body) - (z+20))=((Xak s).body.drop 20).take (n7 (Xak s).body):=by
  rw [sw2,List.drop_drop];congr 1;omega
 have e3:(s.drop z).take (s.length - z)=(Xak s).body:=by rw [sw2];exact List.take_of_length_le (by rw [List.length_drop];omega)
 rw [e2,e3,XaH (by omega),Xx7 (by rw [List.length_take,List.length_drop];omega),Option.bind_some,hq,XaH (by omega)]
 have hput:XbU (wI .u64 v) 4=some (be v.toNat 4):=by
  rw [XsP (by omega) (by omega),XhX (by omega) (by omega)]
  rw [show XiP v 4=be v.toNat 4 from XhG (k:=4) (by omega)]
 have e4:wI .i64 (wI .i64 (20+(Xkg s:Int))+(off:Int))=((20+Xkg s+off:Nat):Int):=by
  rw [Xdb (n:=20+(Xkg s:Int)) (by omega) (by omega),Xdb (by omega) (by omega)];omega
 rw [hput,Option.bind_some,e4,show (16:Int)=((16:Nat):Int) from rfl,XsX (by omega) (XPM (by omega)) (by rw [Xhk];omega) (by omega) (by omega) (by decide),Option.bind_some,XaH (by omega),XaH (by rw [List.length_take,hw];omega)]
theorem XNk {s:List UInt8} {c:Int} (hl:s.length<900) (hc:0≤c∧c<65536):XhT s c=some (XAM s c):=by
 unfold XhT Xpv XAM
 rw [XkV (by omega),Option.bind_some]
 by_cases h:(Xav s).2.2.2=0
 ·rw [if_neg (by simpa using h),show ((Xav s).2.2.2 !=0)=false by simpa using h,cond_false]
  cases hs:(Xav s).1.Stamped
  ·rw [if_pos rfl,Bool.not_false,cond_true]
   cases ((Xav s).1.Tuple.Proto !=6)<;>rfl
  ·rw [if_neg (by decide)]
   obtain ⟨r1,_⟩:=Xmz h hs
   have h6:=Xkb h hs
   simp only []
   rw [show ((Xav s).1.Tuple.Proto !=6)=false by simpa using h6,cond_false,Bool.not_true,cond_false,XP1 r1.1 hc,Option.bind_some,show (0:Int)=((0:Nat):Int) from rfl,Xx5 hl (.inl rfl) h hs (by unfold Xp8;omega)]
   rfl
 ·rw [if_pos h,show ((Xav s).2.2.2 !=0)=true by simpa using h];rfl
theorem XTC {s:List UInt8} {now:Int} (hl:s.length<900) (hn:0≤now∧now<4294967296):Xji s now=some (Xun s now):=by
 unfold Xji Xr8 Xun
 rw [XkV (by omega),Option.bind_some]
 by_cases h:(Xav s).2.2.2=0
 ·rw [if_neg (by simpa using h),show ((Xav s).2.2.2 !=0)=false by simpa using h,cond_false]
  cases hs:(Xav s).1.Stamped
  ·rw [if_pos rfl,Bool.not_false,cond_true]
   cases ((Xav s).1.Tuple.Proto !=6)<;>rfl
  ·rw [if_neg (by decide)]
   obtain ⟨_,r1⟩:=Xmz h hs
   have h6:=Xkb h hs
   simp only []
   rw [show ((Xav s).1.Tuple.Proto !=6)=false by simpa using h6,cond_false,Bool.not_true,cond_false,XQG hn r1.1,Option.bind_some,show (4:Int)=((4:Nat):Int) from rfl,Xx5 hl (.inr rfl) h hs (by unfold XpE;omega)]
   rfl
 ·rw [if_pos h,show ((Xav s).2.2.2 !=0)=true by simpa using h];rfl
theorem XC3 {b:List UInt8} {j:Nat} (h:j+2≤b.length):sset b j 2 (v2 b j).toNat=b:=by
 unfold sset
 have e:be (v2 b j).toNat 2=(b.drop j).take 2:=Xx6 (by rw [List.length_take,List.length_drop];omega)
 rw [e,List.append_assoc,←List.drop_drop,List.take_append_drop,List.take_append_drop]
theorem XBK {s:List UInt8} {i:Int} (hl:s.length<900) (h0:0≤i) (h64:i<2^64):XfM s i=some (name36 s i):=by
 unfold XfM XmS name36
 rw [XkV (by omega),Option.bind_some]
 simp only []
 by_cases h:(Xav s).2.2.2=0
 ·have hle:=(Xp7 s).2
  have et:(s.drop (Xav s).2.2.1).take (s.length - (Xav s).2.2.1)=s.drop (Xav s).2.2.1:=List.take_of_length_le (by rw [List.length_drop];omega)
  rw [show ((Xav s).2.2.2 !=0)=false by simpa using h,cond_false,if_neg (by omega),Xtx (by omega),Option.bind_some]
  simp only []
  by_cases hp:(Xav s).1.Tuple.Proto=17
  ·rw [show ((Xav s).1.Tuple.Proto !=17)=false by simpa using hp,cond_false,if_neg (by omega),XaH (by omega),Int.toNat_natCast,et,Xvy (by rw [List.length_drop];omega),Option.bind_some]
   by_cases q0:(Xho (s.drop (Xav s).2.2.1)).2=0
   ·rw [show ((Xho (s.drop (Xav s).2.2.1)).2 !=0)=false by simpa using q0,cond_false,if_neg (by omega)]
    cases q1:(Xho (s.drop (Xav s).2.2.1)).1.Long
    ·rfl
    rw [Bool.not_true,cond_false,if_neg (by decide)]
    by_cases q8:(Xho (s.drop (Xav s).2.2.1)).1.SCID.length=8
    ·rw [show (((Xho (s.drop (Xav s).2.2.1)).1.SCID.length:Int) !=8)=false by rw [q8];rfl,cond_false,if_neg (by omega)]
     obtain ⟨n3,w2,w3,sw2,d1,d2,eD,p1,p2,nl,_⟩:=Xts (i:=i) h hp q0 q1 q8
     have hbl:=Xfn n3
     rw [w2]
     unfold XDe
     simp only []
     rw [←eD]
     generalize (Xho (s.drop (Xav s).2.2.1)).1.DCID.length=D at *
     have eb:(s.drop (Xak s).size).take (s.length - (Xak s).size)=(Xak s).body:=by
      rw [sw2];exact List.take_of_length_le (by rw [List.length_drop];omega)
     have r0:=XmQ (Xak s).body 6
     have e6:Xao s (wI .i64 (((Xak s).size:Int)+6)) 2=some (v2 (Xak s).body 6):=by
      rw [Xdb (by omega) (by omega),Xev (by omega),XfZ (by omega) (by omega) (by omega) (by omega),show ((((Xak s).size:Int))+6).toNat=(Xak s).size+6 by omega,sw2,XpC]
      show some (wI .i64 (v2 s ((Xak s).size+6)))=_
      rw [Xdb (by rw [sw2,XpC] at r0;omega) (by rw [sw2,XpC] at r0;omega)]
     have hput:XbU i 8=some (be i.toNat 8):=by
      rw [XhX h0 h64,show XiP i 8=be i.toNat 8 from XhG (k:=8) (by omega)]
     have e15:wI .i64 (15+(D:Int))=((15+D:Nat):Int):=by rw [Xdb (by omega) (by omega)];omega
     rw [e6,Option.bind_some,XaH (by omega),Int.toNat_natCast,eb,hput,Option.bind_some,e15]
     rw [show (6:Int)=((6:Nat):Int) from rfl,XsX (by omega) (XPM (by omega)) (by rw [Xhk];omega) (by omega) (by omega) (by decide),Option.bind_some]
     generalize (XgU (Xak s).body (15+D) (be i.toNat 8) 6).1=b at *
     have r6:=XmQ b 6
     have g6:Xao b ((6:Nat):Int) 2=some (v2 b 6):=by
      rw [Xev (by omega),XfZ (by omega) (by omega) (by omega) (by omega)]
      show some (wI .i64 (v2 b 6))=_
      rw [Xdb (by omega) (by omega)]
     have fin:∀ c:Int,0≤c∧c≤65535→(XcK b ((6:Nat):Int) 2 c)=some (sset b 6 2 c.toNat):=fun c hc=>Xx9 (by omega) (by omega) hc
     have sl:∀ c:Int,(s.take (Xak s).size).length+(sset b 6 2 c.toNat).length<2^63:=fun c=>by
      rw [Xpu (by omega),List.length_take];omega
     unfold c36
     by_cases c1:v2 (Xak s).body 6=0
     ·rw [show (v2 (Xak s).body 6==0)=true by simpa using c1,cond_true,fin 0 (by omega),Option.bind_some,XaH (by omega),XaH (sl 0),if_pos c1]
     rw [show (v2 (Xak s).body 6==0)=false by simpa using c1,cond_false,if_neg c1,g6,Option.bind_some]
     by_cases c2:v2 b 6=0
     ·rw [show (v2 b 6==0)=true by simpa using c2,cond_true,fin 65535 (by omega),Option.bind_some,XaH (by omega),XaH (sl 65535),if_pos c2]
     ·rw [show (v2 b 6==0)=false by simpa using c2,cond_false,XaH (by omega),XaH (by rw [List.length_take];omega),if_neg c2,XC3 (by omega)]
    ·rw [show (((Xho (s.drop (Xav s).2.2.1)).1.SCID.length:Int) !=8)=true by rw [bne_iff_ne];omega,cond_true,if_pos q8]
   ·rw [show ((Xho (s.drop (Xav s).2.2.1)).2 !=0)=true by simpa using q0,cond_true,if_pos q0]
  ·rw [show ((Xav s).1.Tuple.Proto !=17)=true by simpa using hp,cond_true,if_pos hp]
 ·rw [show ((Xav s).2.2.2 !=0)=true by simpa using h,cond_true,if_pos h]
end Go.Vm.Code
namespace Go.Vm.Code
open Go Go.Vm Go.Proofs
set_option maxRecDepth 100000
set_option maxHeartbeats 4000000
set_option linter.unusedVariables false
def Xes (ha0:XaU) (t:Xag) (was:Bool) (i:Int) (flows1:List Xag) (cookies1:List Int):Option (Sum (Bool×Int×(List Xag)×(List Int)) (Bool×XaU)):=
 cond (decide (i<(ha0.Flows.length:Int)))
  (
  Xbr (decide ((0:Int)≤i∧i<(ha0.Flows.length:Int))) <|
  (ha0.Flows[i.toNat]?).bind fun (e:Xag)=>
  let t1:=(e.Proto==t.Proto)&&((e.Src.V6==t.Src.V6)&&((e.Src.Hi==t.Src.Hi)&&((e.Src.Lo==t.Src.Lo)&&((e.Dst.V6==t.Dst.V6)&&((e.Dst.Hi==t.Dst.Hi)&&((e.Dst.Lo==t.Dst.Lo)&&((e.SPort==t.SPort)&&((e.DPort==t.DPort)&&true))))))))
  cond (t1)
   (
   some (.inl (true,wI .i64 (i+1),flows1,cookies1)))
   (
   Xbr (decide ((0:Int)≤i∧i<(ha0.Flows.length:Int))) <|
   Xbr (decide ((flows1.length+1)*72≤2^47)) <|
   let row:=flows1++[e]
   Xbr (decide ((0:Int)≤i∧i<(ha0.Cookies.length:Int))) <|
   (ha0.Cookies[i.toNat]?).bind fun (e1:Int)=>
   Xbr (decide ((cookies1.length+1)*8≤2^47)) <|
   let row1:=cookies1++[e1]
   some (.inl (was,wI .i64 (i+1),row,row1))))
  (
  some (.inr ((was,XaU.mk ha0.ID ha0.Clock flows1 cookies1))))
def XgK (ha0:XaU) (t:Xag):Option (Bool×XaU):=
 iter (fun st=>Xes ha0 t st.1 st.2.1 st.2.2.1 st.2.2.2) FUEL (false,0,[],[])
def XNl (x:Bool×XaU):Xc2:=⟨.bool x.1,[(vT Xbz x.2.Flows),(vI .u64 x.2.Cookies)],[some [.int .i64 x.2.ID,.int .u32 x.2.Clock,.slice (some ⟨0,0,none⟩) x.2.Flows.length 9,.slice (some ⟨1,0,none⟩) x.2.Cookies.length 1],none,none]⟩
abbrev Xb0:=XaU→Xag→Option (Bool×XaU)
def r15 (g:Xb0):Dec:=dTr 3 (Xgq 0) fun (y0:XaU)=>dV XdQ fun (y1:Xag)=>XdT (ofG (g y0 y1) XNl)
theorem r15_c {g:Xb0} {y0:XaU} {y1:Xag} {x:Bool×XaU} (hx:g y0 y1=some x):r15 g [.pointer (some ⟨0,0,none⟩),.agg ⟨[.int .i64 y1.Proto,.bool y1.Src.V6,.int .u64 y1.Src.Hi,.int .u64 y1.Src.Lo,.bool y1.Dst.V6,.int .u64 y1.Dst.Hi,.int .u64 y1.Dst.Lo,.int .i64 y1.SPort,.int .i64 y1.DPort]⟩] [some [.int .i64 y0.ID,.int .u32 y0.Clock,.slice (some ⟨1,0,none⟩) y0.Flows.length 9,.slice (some ⟨2,0,none⟩) y0.Cookies.length 1],some (vT Xbz y0.Flows),some (vI .u64 y0.Cookies)]=some (XNl x):=(XhS rfl rfl (Xis 0 _)).trans ((Xbb (XdX _)).trans (Xa7 hx))
def s15 (g:Xb0):XbS:=⟨[.tr [⟨none,0,0,1,none⟩,⟨some 0,2,0,2,some 9⟩,⟨some 0,3,0,2,some 1⟩],.v],r15 g⟩
theorem XA1 {g:Xb0} {y0:XaU} {y1:Xag} {x:Bool×XaU} (hx:g y0 y1=some x):(s15 g).run [.pointer (some ⟨0,0,none⟩),.agg ⟨[.int .i64 y1.Proto,.bool y1.Src.V6,.int .u64 y1.Src.Hi,.int .u64 y1.Src.Lo,.bool y1.Dst.V6,.int .u64 y1.Dst.Hi,.int .u64 y1.Dst.Lo,.int .i64 y1.SPort,.int .i64 y1.DPort]⟩] [some [.int .i64 y0.ID,.int .u32 y0.Clock,.slice (some ⟨1,0,none⟩) y0.Flows.length 9,.slice (some ⟨2,0,none⟩) y0.Cookies.length 1],some (vT Xbz y0.Flows),some (vI .u64 y0.Cookies)]=some (XNl x):=r15_c hx
abbrev XGI:List (Nat×XbS):=[]
def Xlz (ha0:XaU) (t:Xag) (was:Bool) (i:Int) (flows1:List Xag) (cookies1:List Int):VM:=
 ⟨⟨15,56,[(0,.pointer (some ⟨0,0,none⟩)),(3,.pointer (some ⟨3,0,none⟩)),(5,.slice (some ⟨4,0,none⟩) flows1.length 9),(6,.slice (some ⟨5,0,none⟩) cookies1.length 1),(7,.bool was),(8,.int .i64 i)],[.code XzV,.inLoop XzV,.inBlock 0,.code XHX],[],false,none⟩,[],[(0,.cells [.int .i64 ha0.ID,.int .u32 ha0.Clock,.slice (some ⟨1,0,none⟩) ha0.Flows.length 9,.slice (some ⟨2,0,none⟩) ha0.Cookies.length 1]),(1,.row true (vT Xbz ha0.Flows)),(2,.row true (vI .u64 ha0.Cookies)),(3,.cells [.int .i64 t.Proto,.bool t.Src.V6,.int .u64 t.Src.Hi,.int .u64 t.Src.Lo,.bool t.Dst.V6,.int .u64 t.Dst.Hi,.int .u64 t.Dst.Lo,.int .i64 t.SPort,.int .i64 t.DPort]),(4,.row true (vT Xbz flows1)),(5,.row true (vI .u64 cookies1))],6⟩
theorem XDj (hS:Xaq Tryz.prog (XaL (XGI))) (ha0:XaU) (t:Xag) (res:Bool×XaU):∀ fuel (st:Bool×Int×(List Xag)×(List Int)) (o:Bool×XaU),iter (fun st=>Xes ha0 t st.1 st.2.1 st.2.2.1 st.2.2.2) fuel st=some o→(o=res) →
 XaM Tryz.prog 15 3 (Xlz ha0 t st.1 st.2.1 st.2.2.1 st.2.2.2) (fun v H _=>Res 3 (XNl res) v H):=by
 intro fuel st o h hc
 refine XcJ (head:=fun st=>Xlz ha0 t st.1 st.2.1 st.2.2.1 st.2.2.2) (C:=fun o=>(o=res)) ?_ fuel st o h hc
 clear h hc o st fuel
 intro st o h hc
 obtain ⟨was,i,flows1,cookies1⟩:=st
 replace h:Xes ha0 t was i flows1 cookies1=some o:=h
 show XaM Tryz.prog 15 3 (Xlz ha0 t was i flows1 cookies1) (fun v H _=>Res 3 (XNl res) v H)
 unfold Xes at h
 refine Xbp XaP hS true 3000 ?_
 conv=>whnf
 refine br.h2 h (by rfl) ?_ ?_
 ·clear h;intro hb h;conv=>whnf
  all_goals (cases h;cases hc)
  all_goals exact Res.of [4,5] rfl (Xj3 (XiB Xba) (XdH rfl) (Xj3 (XqQ) (XdH rfl) Xn2)) (by decide) (XoK (by decide) (XoK (by decide) Xn1)) (XuX (rfl) (Xfq rfl) (XnO (XnO Xoa)))
 clear h;intro hb h;conv=>whnf
 replace h:=Xbr.elim h;obtain ⟨hb,h⟩:=h
 try (refine req.intro hb ?_;conv=>whnf)
 replace h:=Xcm.elim h;obtain ⟨e,hy,h⟩:=h
 refine ld_T XbE hy (by first|omega|exact Nat.zero_add _|exact congrArg (·+_) (Nat.zero_add _)) rfl ?_
 conv=>whnf
 let t1:Bool:=(e.Proto==t.Proto)&&((e.Src.V6==t.Src.V6)&&((e.Src.Hi==t.Src.Hi)&&((e.Src.Lo==t.Src.Lo)&&((e.Dst.V6==t.Dst.V6)&&((e.Dst.Hi==t.Dst.Hi)&&((e.Dst.Lo==t.Dst.Lo)&&((e.SPort==t.SPort)&&((e.DPort==t.DPort)&&true))))))))
 refine br.h h (by rfl) ?_ ?_
 ·clear h;intro hb h;conv=>whnf
  cases h;simp only [Sum.elim_inl,Xlz] at hc
  exact Xjj hc [(0,0),(1,1),(2,2),(3,3),(4,4),(5,5)] rfl
 clear h;intro hb h;conv=>whnf
 replace h:=Xbr.elim h;obtain ⟨hb,h⟩:=h
 try (refine req.intro hb ?_;conv=>whnf)
 refine ld_T (i:=i.toNat) (x:=e) XbE (by assumption) (by first|omega|exact Nat.zero_add _|exact congrArg (·+_) (Nat.zero_add _)) rfl ?_
 conv=>whnf
 replace h:=Xbr.elim h;obtain ⟨hb,h⟩:=h
 refine req.intro (Xng (of_decide_eq_true hb) (by first|rfl|omega|(simp;done)|(simp;omega)|(simp at *;omega)) rfl (by first|rfl|omega|(simp;done)|(simp;omega)|(simp at *;omega)) (by first|rfl|exact XeQ _ _|exact XgC _|exact XgB _|exact Xhp (by first|exact Xcj|exact XbV|exact Xce|exact XbX|exact Xbk|exact XbH|exact Xbj|exact Xbs|exact XbG|exact Xcc|exact Xcw|exact Xcb|exact XbW|exact Xcd|exact Xcy) _|(rw [XeK];exact XeQ _ _)|(simp [XeQ,XgC,XgB,XiL,XiJ,Xjf,Xjh];done)|(simp;exact List.all_eq_true.1 (Xhp (by first|exact Xcj|exact XbV|exact Xce|exact XbX|exact Xbk|exact XbH|exact Xbj|exact Xbs|exact XbG|exact Xcc|exact Xcw|exact Xcb|exact XbW|exact Xcd|exact Xcy) _))) rfl) ?_
 conv=>whnf
 let row:List Xag:=flows1++[e]
 first|have hlen_row:row.length=_:=List.length_append ..|skip
 refine XtX XbE (xs:=flows1) (ys:=[e]) rfl (by first|rfl|omega) (by first|rfl|omega|(simp;done)|(simp;omega)|(simp at *;omega)) (by first|rfl|omega|(simp;done)|(simp;omega)|(simp at *;omega)) ?_
 conv=>whnf
 replace h:=Xbr.elim h;obtain ⟨hb,h⟩:=h
 try (refine req.intro hb ?_;conv=>whnf)
 replace h:=Xcm.elim h;obtain ⟨e1,hy,h⟩:=h
 refine rd.I hy (by first|rfl|(rw [Nat.zero_add,Nat.mul_one];try rfl;done)|omega) ?_
 conv=>whnf
 replace h:=Xbr.elim h;obtain ⟨hb,h⟩:=h
 refine req.intro (Xng (of_decide_eq_true hb) (by first|rfl|omega|(simp;done)|(simp;omega)|(simp at *;omega)) rfl (by first|rfl|omega|(simp;done)|(simp;omega)|(simp at *;omega)) (by first|rfl|exact XeQ _ _|exact XgC _|exact XgB _|exact Xhp (by first|exact Xcj|exact XbV|exact Xce|exact XbX|exact Xbk|exact XbH|exact Xbj|exact Xbs|exact XbG|exact Xcc|exact Xcw|exact Xcb|exact XbW|exact Xcd|exact Xcy) _|(rw [XeK];exact XeQ _ _)|(simp [XeQ,XgC,XgB,XiL,XiJ,Xjf,Xjh];done)|(simp;exact List.all_eq_true.1 (Xhp (by first|exact Xcj|exact XbV|exact Xce|exact XbX|exact Xbk|exact XbH|exact Xbj|exact Xbs|exact XbG|exact Xcc|exact Xcw|exact Xcb|exact XbW|exact Xcd|exact Xcy) _))) rfl) ?_
 conv=>whnf
 let row1:List Int:=cookies1++[e1]
 first|have hlen_row1:row1.length=_:=List.length_append ..|skip
 refine Xws (xs:=cookies1) (ys:=[e1]) rfl (by first|rfl|omega) (by first|rfl|omega|(simp;done)|(simp;omega)|(simp at *;omega)) (by first|rfl|omega|(simp;done)|(simp;omega)|(simp at *;omega)) ?_
 conv=>whnf
 cases h;simp only [Sum.elim_inl,Xlz] at hc
 exact Xjj hc [(0,0),(1,1),(2,2),(3,3),(4,15),(5,17)] rfl
theorem XMg (hS:Xaq Tryz.prog (XaL (XGI))) (ha0:XaU) (t:Xag) (res:Bool×XaU) (h:XgK ha0 t=some res) :
 XaM Tryz.prog 15 3 ⟨⟨15,56,[(0,.pointer (some ⟨0,0,none⟩)),(1,.agg ⟨[.int .i64 t.Proto,.bool t.Src.V6,.int .u64 t.Src.Hi,.int .u64 t.Src.Lo,.bool t.Dst.V6,.int .u64 t.Dst.Hi,.int .u64 t.Dst.Lo,.int .i64 t.SPort,.int .i64 t.DPort]⟩)],[.code XHu],[],false,none⟩,[],[(0,.cells [.int .i64 ha0.ID,.int .u32 ha0.Clock,.slice (some ⟨1,0,none⟩) ha0.Flows.length 9,.slice (some ⟨2,0,none⟩) ha0.Cookies.length 1]),(1,.row true (vT Xbz ha0.Flows)),(2,.row true (vI .u64 ha0.Cookies))],3⟩ (fun v H _=>Res 3 (XNl res) v H):=by
 unfold XgK at h
 refine Xbp XaP hS true 3000 ?_
 conv=>whnf
 have hl:=XDj hS _ _ res _ _ _ h rfl;simp only [Xlz] at hl
 refine XaM.XP9 5 9 ?_
 refine XaM.XP9 6 1 ?_
 exact Xjj hl [(0,0),(1,1),(2,2),(3,3),(4,4),(5,5)] rfl
def XaQ:Xb0:=XgK
theorem XP0:Xb8 Tryz.prog 15 (s15 XaQ):=by
 have hL:=XMg (Xaq.XaY trivial)
 exact okA ⟨Tryz.f15,rfl,by decide,rfl⟩
def XfV (ha0:XaU) (t:Xag) (i:Int):Option (Sum Int Int):=
 cond (decide (i<(ha0.Flows.length:Int)))
  (
  Xbr (decide ((0:Int)≤i∧i<(ha0.Flows.length:Int))) <|
  (ha0.Flows[i.toNat]?).bind fun (e:Xag)=>
  let t1:=(e.Proto==t.Proto)&&((e.Src.V6==t.Src.V6)&&((e.Src.Hi==t.Src.Hi)&&((e.Src.Lo==t.Src.Lo)&&((e.Dst.V6==t.Dst.V6)&&((e.Dst.Hi==t.Dst.Hi)&&((e.Dst.Lo==t.Dst.Lo)&&((e.SPort==t.SPort)&&((e.DPort==t.DPort)&&true))))))))
  cond (t1)
   (
   some (.inr (i)))
   (
   some (.inl (wI .i64 (i+1)))))
  (
  some (.inr ((-1))))
def Xjt (ha0:XaU) (t:Xag):Option Int:=
 iter (fun st=>XfV ha0 t st) FUEL 0
def XNA (x:Int):Xc2:=⟨.int .i64 x,[],[none,none,none]⟩
abbrev Xdu:=XaU→Xag→Option Int
def r34 (g:Xdu):Dec:=dTr 3 (Xgq 0) fun (y0:XaU)=>dV XdQ fun (y1:Xag)=>XdT (ofG (g y0 y1) XNA)
theorem r34_c {g:Xdu} {y0:XaU} {y1:Xag} {x:Int} (hx:g y0 y1=some x):r34 g [.pointer (some ⟨0,0,none⟩),.agg ⟨[.int .i64 y1.Proto,.bool y1.Src.V6,.int .u64 y1.Src.Hi,.int .u64 y1.Src.Lo,.bool y1.Dst.V6,.int .u64 y1.Dst.Hi,.int .u64 y1.Dst.Lo,.int .i64 y1.SPort,.int .i64 y1.DPort]⟩] [some [.int .i64 y0.ID,.int .u32 y0.Clock,.slice (some ⟨1,0,none⟩) y0.Flows.length 9,.slice (some ⟨2,0,none⟩) y0.Cookies.length 1],some (vT Xbz y0.Flows),some (vI .u64 y0.Cookies)]=some (XNA x):=(XhS rfl rfl (Xis 0 _)).trans ((Xbb (XdX _)).trans (Xa7 hx))
def s34 (g:Xdu):XbS:=⟨[.tr [⟨none,0,0,0,none⟩,⟨some 0,2,0,0,some 9⟩,⟨some 0,3,0,0,some 1⟩],.v],r34 g⟩
theorem XGR {g:Xdu} {y0:XaU} {y1:Xag} {x:Int} (hx:g y0 y1=some x):(s34 g).run [.pointer (some ⟨0,0,none⟩),.agg ⟨[.int .i64 y1.Proto,.bool y1.Src.V6,.int .u64 y1.Src.Hi,.int .u64 y1.Src.Lo,.bool y1.Dst.V6,.int .u64 y1.Dst.Hi,.int .u64 y1.Dst.Lo,.int .i64 y1.SPort,.int .i64 y1.DPort]⟩] [some [.int .i64 y0.ID,.int .u32 y0.Clock,.slice (some ⟨1,0,none⟩) y0.Flows.length 9,.slice (some ⟨2,0,none⟩) y0.Cookies.length 1],some (vT Xbz y0.Flows),some (vI .u64 y0.Cookies)]=some (XNA x):=r34_c hx
abbrev XH0:List (Nat×XbS):=[]
def Xm6 (ha0:XaU) (t:Xag) (i:Int):VM:=
 ⟨⟨34,25,[(0,.pointer (some ⟨0,0,none⟩)),(3,.pointer (some ⟨3,0,none⟩)),(5,.int .i64 i)],[.code Xzc,.inLoop Xzc,.inBlock 0,.code XFx],[],false,none⟩,[],[(0,.row false [.int .i64 ha0.ID,.int .u32 ha0.Clock,.slice (some ⟨1,0,none⟩) ha0.Flows.length 9,.slice (some ⟨2,0,none⟩) ha0.Cookies.length 1]),(1,.row false (vT Xbz ha0.Flows)),(2,.row false (vI .u64 ha0.Cookies)),(3,.cells [.int .i64 t.Proto,.bool t.Src.V6,.int .u64 t.Src.Hi,.int .u64 t.Src.Lo,.bool t.Dst.V6,.int .u64 t.Dst.Hi,.int .u64 t.Dst.Lo,.int .i64 t.SPort,.int .i64 t.DPort])],4⟩
theorem XDQ (hS:Xaq Tryz.prog (XaL (XH0))) (ha0:XaU) (t:Xag) (res:Int):∀ fuel (st:Int) (o:Int),iter (fun st=>XfV ha0 t st) fuel st=some o→(o=res) →
 XaM Tryz.prog 34 3 (Xm6 ha0 t st) (fun v H _=>Res 3 (XNA res) v H):=by
 intro fuel st o h hc
 refine XcJ (head:=fun st=>Xm6 ha0 t st) (C:=fun o=>(o=res)) ?_ fuel st o h hc
 clear h hc o st fuel
 intro i o h hc
 replace h:XfV ha0 t i=some o:=h
 show XaM Tryz.prog 34 3 (Xm6 ha0 t i) (fun v H _=>Res 3 (XNA res) v H)
 unfold XfV at h
 refine Xbp XaP hS true 3000 ?_
 conv=>whnf
 refine br.h2 h (by rfl) ?_ ?_
 ·clear h;intro hb h;conv=>whnf
  exact W
 clear h;intro hb h;conv=>whnf
 replace h:=Xbr.elim h;obtain ⟨hb,h⟩:=h
 try (refine req.intro hb ?_;conv=>whnf)
 replace h:=Xcm.elim h;obtain ⟨e,hy,h⟩:=h
 refine ld_T XbE hy (by first|omega|exact Nat.zero_add _|exact congrArg (·+_) (Nat.zero_add _)) rfl ?_
 conv=>whnf
 let t1:Bool:=(e.Proto==t.Proto)&&((e.Src.V6==t.Src.V6)&&((e.Src.Hi==t.Src.Hi)&&((e.Src.Lo==t.Src.Lo)&&((e.Dst.V6==t.Dst.V6)&&((e.Dst.Hi==t.Dst.Hi)&&((e.Dst.Lo==t.Dst.Lo)&&((e.SPort==t.SPort)&&((e.DPort==t.DPort)&&true))))))))
 refine br.h h (by rfl) ?_ ?_
 ·clear h;intro hb h;conv=>whnf
  exact W
 clear h;intro hb h;conv=>whnf
 cases h;simp only [Sum.elim_inl,Xm6] at hc
 exact Xjj hc [(0,0),(1,1),(2,2),(3,3)] rfl
theorem XMW (hS:Xaq Tryz.prog (XaL (XH0))) (ha0:XaU) (t:Xag) (res:Int) (h:Xjt ha0 t=some res) :
 XaM Tryz.prog 34 3 ⟨⟨34,25,[(0,.pointer (some ⟨0,0,none⟩)),(1,.agg ⟨[.int .i64 t.Proto,.bool t.Src.V6,.int .u64 t.Src.Hi,.int .u64 t.Src.Lo,.bool t.Dst.V6,.int .u64 t.Dst.Hi,.int .u64 t.Dst.Lo,.int .i64 t.SPort,.int .i64 t.DPort]⟩)],[.code XHh],[],false,none⟩,[],[(0,.row false [.int .i64 ha0.ID,.int .u32 ha0.Clock,.slice (some ⟨1,0,none⟩) ha0.Flows.length 9,.slice (some ⟨2,0,none⟩) ha0.Cookies.length 1]),(1,.row false (vT Xbz ha0.Flows)),(2,.row false (vI .u64 ha0.Cookies))],3⟩ (fun v H _=>Res 3 (XNA res) v H):=by
 unfold Xjt at h
 refine Xbp XaP hS true 3000 ?_
 conv=>whnf
 have hl:=XDQ hS _ _ res _ _ _ h rfl;simp only [Xm6] at hl
 exact Xjj hl [(0,0),(1,1),(2,2),(3,3)] rfl
def XcD:Xdu:=Xjt
theorem XH3:Xb8 Tryz.prog 34 (s34 XcD):=by
 have hL:=XMW (Xaq.XaY trivial)
 exact okA ⟨Tryz.f34,rfl,by decide,rfl⟩
def Xij (XiE:Xhc) (Xbe:Xcz) (Xji:Xiv) (XaQ:Xb0) (XcD:Xdu) (ha0:XaU) (s:List UInt8):Option ((List UInt8)×Int×XaU):=
 (XiE s).bind fun xg=>
 cond (xg.2.2 !=0)
  (
  some (([],xg.2.2,ha0)))
  (
  cond (xg.1.Backend !=ha0.ID)
   (
   some (([],16,ha0)))
   (
   (Xbe xg.2.1).bind fun p=>
   cond (p.2 !=0)
    (
    some (([],p.2,ha0)))
    (
    (XcD ha0 p.1.Tuple).bind fun a=>
    cond (decide (a<0))
     (
     cond (decide ((ha0.Flows.length:Int)≥64))
      (
      some (([],9,ha0)))
      (
      (XaQ ha0 p.1.Tuple).bind fun f=>
      Xbr (decide ((f.2.Flows.length+1)*72≤2^47)) <|
      let row:=f.2.Flows++[p.1.Tuple]
      Xbr (decide ((f.2.Cookies.length+1)*8≤2^47)) <|
      let row1:=f.2.Cookies++[xg.1.Cookie]
      cond (p.1.Tuple.Proto !=6)
       (
       some ((xg.2.1,0,XaU.mk f.2.ID f.2.Clock row row1)))
       (
       cond (!p.1.Stamped)
        (
        some ((xg.2.1,0,XaU.mk f.2.ID f.2.Clock row row1)))
        (
        (Xji xg.2.1 f.2.Clock).bind fun i=>
        some ((i.1,i.2,XaU.mk f.2.ID f.2.Clock row row1))))))
     (
     cond (xg.1.First)
      (
      (XaQ ha0 p.1.Tuple).bind fun f1=>
      Xbr (decide ((f1.2.Flows.length+1)*72≤2^47)) <|
      let row2:=f1.2.Flows++[p.1.Tuple]
      Xbr (decide ((f1.2.Cookies.length+1)*8≤2^47)) <|
      let row3:=f1.2.Cookies++[xg.1.Cookie]
      cond (p.1.Tuple.Proto !=6)
       (
       some ((xg.2.1,0,XaU.mk f1.2.ID f1.2.Clock row2 row3)))
       (
       cond (!p.1.Stamped)
        (
        some ((xg.2.1,0,XaU.mk f1.2.ID f1.2.Clock row2 row3)))
        (
        (Xji xg.2.1 f1.2.Clock).bind fun i1=>
        some ((i1.1,i1.2,XaU.mk f1.2.ID f1.2.Clock row2 row3)))))
      (
      cond (p.1.Tuple.Proto !=6)
       (
       some ((xg.2.1,0,ha0)))
       (
       cond (!p.1.Stamped)
        (
        some ((xg.2.1,0,ha0)))
        (
        (Xji xg.2.1 ha0.Clock).bind fun i2=>
        some ((i2.1,i2.2,ha0)))))))))
def rx11 (x:(List UInt8)×Int×XaU):Xc2:=⟨.tuple ⟨[.string ⟨⟨x.1⟩⟩,.int .i64 x.2.1]⟩,[(vT Xbz x.2.2.Flows),(vI .u64 x.2.2.Cookies)],[some [.int .i64 x.2.2.ID,.int .u32 x.2.2.Clock,.slice (some ⟨0,0,none⟩) x.2.2.Flows.length 9,.slice (some ⟨1,0,none⟩) x.2.2.Cookies.length 1],none,none]⟩
abbrev XcR:=XaU→(List UInt8)→Option ((List UInt8)×Int×XaU)
def r11 (g:XcR):Dec:=dTr 3 (Xgq 0) fun (y0:XaU)=>dV asS fun (y1:List UInt8)=>XdT (ofG (g y0 y1) rx11)
theorem r11_c {g:XcR} {y0:XaU} {y1:List UInt8} {x:(List UInt8)×Int×XaU} (hx:g y0 y1=some x):r11 g [.pointer (some ⟨0,0,none⟩),.string ⟨⟨y1⟩⟩] [some [.int .i64 y0.ID,.int .u32 y0.Clock,.slice (some ⟨1,0,none⟩) y0.Flows.length 9,.slice (some ⟨2,0,none⟩) y0.Cookies.length 1],some (vT Xbz y0.Flows),some (vI .u64 y0.Cookies)]=some (rx11 x):=(XhS rfl rfl (Xis 0 _)).trans ((Xbb (Xds)).trans (Xa7 hx))
def s11 (g:XcR):XbS:=⟨[.tr [⟨none,0,0,1,none⟩,⟨some 0,2,0,2,some 9⟩,⟨some 0,3,0,2,some 1⟩],.v],r11 g⟩
theorem XSy {g:XcR} {y0:XaU} {y1:List UInt8} {x:(List UInt8)×Int×XaU} (hx:g y0 y1=some x):(s11 g).run [.pointer (some ⟨0,0,none⟩),.string ⟨⟨y1⟩⟩] [some [.int .i64 y0.ID,.int .u32 y0.Clock,.slice (some ⟨1,0,none⟩) y0.Flows.length 9,.slice (some ⟨2,0,none⟩) y0.Cookies.length 1],some (vT Xbz y0.Flows),some (vI .u64 y0.Cookies)]=some (rx11 x):=r11_c hx
abbrev XPb (XiE:Xhc) (Xbe:Xcz) (Xji:Xiv) (XaQ:Xb0) (XcD:Xdu):List (Nat×XbS):=[(33,s33 XiE),(25,s25 Xbe),(35,s35 Xji),(15,s15 XaQ),(34,s34 XcD)]
theorem XJR (XiE:Xhc) (Xbe:Xcz) (Xji:Xiv) (XaQ:Xb0) (XcD:Xdu) (hS:Xaq Tryz.prog (XaL (XPb XiE Xbe Xji XaQ XcD))) (ha0:XaU) (s:List UInt8) (res:(List UInt8)×Int×XaU) (h:Xij XiE Xbe Xji XaQ XcD ha0 s=some res) :
 XaM Tryz.prog 11 3 ⟨⟨11,99,[(0,.pointer (some ⟨0,0,none⟩)),(1,.string ⟨⟨s⟩⟩)],[.code XFs],[],false,none⟩,[],[(0,.cells [.int .i64 ha0.ID,.int .u32 ha0.Clock,.slice (some ⟨1,0,none⟩) ha0.Flows.length 9,.slice (some ⟨2,0,none⟩) ha0.Cookies.length 1]),(1,.row true (vT Xbz ha0.Flows)),(2,.row true (vI .u64 ha0.Cookies))],3⟩ (fun v H _=>Res 3 (rx11 res) v H):=by
 unfold Xij at h
 refine Xbp XaP hS true 3000 ?_
 conv=>whnf
 replace h:=Xcm.elim h;obtain ⟨xg,hy,h⟩:=h
 refine XeC.a (XOM hy) ?_
 conv=>whnf
 refine br.h h (by rfl) ?_ ?_
 ·clear h;intro hb h;conv=>whnf
  all_goals (cases h)
  all_goals exact Res.of [1,2] rfl (Xj3 (XiB Xba) (XdH rfl) (Xj3 (XqQ) (XdH rfl) Xn2)) (by decide) (Xvf rfl (Xvf rfl Xn1)) (XuX (rfl) (Xfq rfl) (XnO (XnO Xoa)))
 clear h;intro hb h;conv=>whnf
 refine br.h h (by rfl) ?_ ?_
 ·clear h;intro hb h;conv=>whnf
  all_goals (cases h)
  all_goals exact Res.of [1,2] rfl (Xj3 (XiB Xba) (XdH rfl) (Xj3 (XqQ) (XdH rfl) Xn2)) (by decide) (Xvf rfl (Xvf rfl Xn1)) (XuX (rfl) (Xfq rfl) (XnO (XnO Xoa)))
 clear h;intro hb h;conv=>whnf
 replace h:=Xcm.elim h;obtain ⟨p,hy,h⟩:=h
 refine XeC.a (XtA hy) ?_
 conv=>whnf
 refine br.h h (by rfl) ?_ ?_
 ·clear h;intro hb h;conv=>whnf
  all_goals (cases h)
  all_goals exact Res.of [1,2] rfl (Xj3 (XiB Xba) (XdH rfl) (Xj3 (XqQ) (XdH rfl) Xn2)) (by decide) (Xvf rfl (Xvf rfl Xn1)) (XuX (rfl) (Xfq rfl) (XnO (XnO Xoa)))
 clear h;intro hb h;conv=>whnf
 replace h:=Xcm.elim h;obtain ⟨a,hy,h⟩:=h
 refine XeC.a (XGR hy) ?_
 conv=>whnf
 refine br.h h (by rfl) ?_ ?_
 ·clear h;intro hb h;conv=>whnf
  refine br.h h (by rfl) ?_ ?_
  ·clear h;intro hb h;conv=>whnf
   all_goals (cases h)
   all_goals exact Res.of [1,2] rfl (Xj3 (XiB Xba) (XdH rfl) (Xj3 (XqQ) (XdH rfl) Xn2)) (by decide) (Xvf rfl (Xvf rfl Xn1)) (XuX (rfl) (Xfq rfl) (XnO (XnO Xoa)))
  clear h;intro hb h;conv=>whnf
  refine br.pos ?_ ?_;(focus (clear h;first|assumption|(simp_all;done)))
  conv=>whnf
  replace h:=Xcm.elim h;obtain ⟨f,hy,h⟩:=h
  refine XeC.a (XA1 hy) ?_
  conv=>whnf
  replace h:=Xbr.elim h;obtain ⟨hb,h⟩:=h
  refine req.intro (Xng (of_decide_eq_true hb) (by first|rfl|omega|(simp;done)|(simp;omega)|(simp at *;omega)) rfl (by first|rfl|omega|(simp;done)|(simp;omega)|(simp at *;omega)) (by first|rfl|exact XeQ _ _|exact XgC _|exact XgB _|exact Xhp (by first|exact Xcj|exact XbV|exact Xce|exact XbX|exact Xbk|exact XbH|exact Xbj|exact Xbs|exact XbG|exact Xcc|exact Xcw|exact Xcb|exact XbW|exact Xcd|exact Xcy) _|(rw [XeK];exact XeQ _ _)|(simp [XeQ,XgC,XgB,XiL,XiJ,Xjf,Xjh];done)|(simp;exact List.all_eq_true.1 (Xhp (by first|exact Xcj|exact XbV|exact Xce|exact XbX|exact Xbk|exact XbH|exact Xbj|exact Xbs|exact XbG|exact Xcc|exact Xcw|exact Xcb|exact XbW|exact Xcd|exact Xcy) _))) rfl) ?_
  conv=>whnf
  let row:List Xag:=f.2.Flows++[p.1.Tuple]
  first|have hlen_row:row.length=_:=List.length_append ..|skip
  refine XtX XbE (xs:=f.2.Flows) (ys:=[p.1.Tuple]) rfl (by first|rfl|omega) (by first|rfl|omega|(simp;done)|(simp;omega)|(simp at *;omega)) (by first|rfl|omega|(simp;done)|(simp;omega)|(simp at *;omega)) ?_
  conv=>whnf
  replace h:=Xbr.elim h;obtain ⟨hb,h⟩:=h
  refine req.intro (Xng (of_decide_eq_true hb) (by first|rfl|omega|(simp;done)|(simp;omega)|(simp at *;omega)) rfl (by first|rfl|omega|(simp;done)|(simp;omega)|(simp at *;omega)) (by first|rfl|exact XeQ _ _|exact XgC _|exact XgB _|exact Xhp (by first|exact Xcj|exact XbV|exact Xce|exact XbX|exact Xbk|exact XbH|exact Xbj|exact Xbs|exact XbG|exact Xcc|exact Xcw|exact Xcb|exact XbW|exact Xcd|exact Xcy) _|(rw [XeK];exact XeQ _ _)|(simp [XeQ,XgC,XgB,XiL,XiJ,Xjf,Xjh];done)|(simp;exact List.all_eq_true.1 (Xhp (by first|exact Xcj|exact XbV|exact Xce|exact XbX|exact Xbk|exact XbH|exact Xbj|exact Xbs|exact XbG|exact Xcc|exact Xcw|exact Xcb|exact XbW|exact Xcd|exact Xcy) _))) rfl) ?_
  conv=>whnf
  let row1:List Int:=f.2.Cookies++[xg.1.Cookie]
  first|have hlen_row1:row1.length=_:=List.length_append ..|skip
  refine Xws (xs:=f.2.Cookies) (ys:=[xg.1.Cookie]) rfl (by first|rfl|omega) (by first|rfl|omega|(simp;done)|(simp;omega)|(simp at *;omega)) (by first|rfl|omega|(simp;done)|(simp;omega)|(simp at *;omega)) ?_
  conv=>whnf
  refine br.h h (by rfl) ?_ ?_
  ·clear h;intro hb h;conv=>whnf
   all_goals (cases h)
   all_goals exact Res.of [22,33] rfl (Xj3 (XiB Xba) (XdH rfl) (Xj3 (XqQ) (XdH rfl) Xn2)) (by decide) (XoK (by decide) (XoK (by decide) Xn1)) (XuX (rfl) (Xfq rfl) (XnO (XnO Xoa)))
  clear h;intro hb h;conv=>whnf
  refine br.h h (by rfl) ?_ ?_
  ·clear h;intro hb h;conv=>whnf
   all_goals (cases h)
   all_goals exact Res.of [22,33] rfl (Xj3 (XiB Xba) (XdH rfl) (Xj3 (XqQ) (XdH rfl) Xn2)) (by decide) (XoK (by decide) (XoK (by decide) Xn1)) (XuX (rfl) (Xfq rfl) (XnO (XnO Xoa)))
  clear h;intro hb h;conv=>whnf
  replace h:=Xcm.elim h;obtain ⟨i,hy,h⟩:=h
  refine XeC.a (XA9 hy) ?_
  conv=>whnf
  all_goals (cases h)
  all_goals exact Res.of [22,33] rfl (Xj3 (XiB Xba) (XdH rfl) (Xj3 (XqQ) (XdH rfl) Xn2)) (by decide) (XoK (by decide) (XoK (by decide) Xn1)) (XuX (rfl) (Xfq rfl) (XnO (XnO Xoa)))
 clear h;intro hb h;conv=>whnf
 refine br.neg ?_ ?_;(focus (clear h;first|assumption|(simp_all;done)))
 conv=>whnf
 refine br.h2 h (by rfl) ?_ ?_
 ·clear h;intro hb h;conv=>whnf
  refine br.h h (by rfl) ?_ ?_
  ·clear h;intro hb h;conv=>whnf
   all_goals (cases h)
   all_goals exact Res.of [1,2] rfl (Xj3 (XiB Xba) (XdH rfl) (Xj3 (XqQ) (XdH rfl) Xn2)) (by decide) (Xvf rfl (Xvf rfl Xn1)) (XuX (rfl) (Xfq rfl) (XnO (XnO Xoa)))
  clear h;intro hb h;conv=>whnf
  refine br.h h (by rfl) ?_ ?_
  ·clear h;intro hb h;conv=>whnf
   all_goals (cases h)
   all_goals exact Res.of [1,2] rfl (Xj3 (XiB Xba) (XdH rfl) (Xj3 (XqQ) (XdH rfl) Xn2)) (by decide) (Xvf rfl (Xvf rfl Xn1)) (XuX (rfl) (Xfq rfl) (XnO (XnO Xoa)))
  clear h;intro hb h;conv=>whnf
  replace h:=Xcm.elim h;obtain ⟨i2,hy,h⟩:=h
  refine XeC.a (XA9 hy) ?_
  conv=>whnf
  all_goals (cases h)
  all_goals exact Res.of [1,2] rfl (Xj3 (XiB Xba) (XdH rfl) (Xj3 (XqQ) (XdH rfl) Xn2)) (by decide) (Xvf rfl (Xvf rfl Xn1)) (XuX (rfl) (Xfq rfl) (XnO (XnO Xoa)))
 clear h;intro hb h;conv=>whnf
 replace h:=Xcm.elim h;obtain ⟨f1,hy,h⟩:=h
 refine XeC.a (XA1 hy) ?_
 conv=>whnf
 replace h:=Xbr.elim h;obtain ⟨hb,h⟩:=h
 refine req.intro (Xng (of_decide_eq_true hb) (by first|rfl|omega|(simp;done)|(simp;omega)|(simp at *;omega)) rfl (by first|rfl|omega|(simp;done)|(simp;omega)|(simp at *;omega)) (by first|rfl|exact XeQ _ _|exact XgC _|exact XgB _|exact Xhp (by first|exact Xcj|exact XbV|exact Xce|exact XbX|exact Xbk|exact XbH|exact Xbj|exact Xbs|exact XbG|exact Xcc|exact Xcw|exact Xcb|exact XbW|exact Xcd|exact Xcy) _|(rw [XeK];exact XeQ _ _)|(simp [XeQ,XgC,XgB,XiL,XiJ,Xjf,Xjh];done)|(simp;exact List.all_eq_true.1 (Xhp (by first|exact Xcj|exact XbV|exact Xce|exact XbX|exact Xbk|exact XbH|exact Xbj|exact Xbs|exact XbG|exact Xcc|exact Xcw|exact Xcb|exact XbW|exact Xcd|exact Xcy) _))) rfl) ?_
 conv=>whnf
 let row2:List Xag:=f1.2.Flows++[p.1.Tuple]
 first|have hlen_row2:row2.length=_:=List.length_append ..|skip
 refine XtX XbE (xs:=f1.2.Flows) (ys:=[p.1.Tuple]) rfl (by first|rfl|omega) (by first|rfl|omega|(simp;done)|(simp;omega)|(simp at *;omega)) (by first|rfl|omega|(simp;done)|(simp;omega)|(simp at *;omega)) ?_
 conv=>whnf
 replace h:=Xbr.elim h;obtain ⟨hb,h⟩:=h
 refine req.intro (Xng (of_decide_eq_true hb) (by first|rfl|omega|(simp;done)|(simp;omega)|(simp at *;omega)) rfl (by first|rfl|omega|(simp;done)|(simp;omega)|(simp at *;omega)) (by first|rfl|exact XeQ _ _|exact XgC _|exact XgB _|exact Xhp (by first|exact Xcj|exact XbV|exact Xce|exact XbX|exact Xbk|exact XbH|exact Xbj|exact Xbs|exact XbG|exact Xcc|exact Xcw|exact Xcb|exact XbW|exact Xcd|exact Xcy) _|(rw [XeK];exact XeQ _ _)|(simp [XeQ,XgC,XgB,XiL,XiJ,Xjf,Xjh];done)|(simp;exact List.all_eq_true.1 (Xhp (by first|exact Xcj|exact XbV|exact Xce|exact XbX|exact Xbk|exact XbH|exact Xbj|exact Xbs|exact XbG|exact Xcc|exact Xcw|exact Xcb|exact XbW|exact Xcd|exact Xcy) _))) rfl) ?_
 conv=>whnf
 let row3:List Int:=f1.2.Cookies++[xg.1.Cookie]
 first|have hlen_row3:row3.length=_:=List.length_append ..|skip
 refine Xws (xs:=f1.2.Cookies) (ys:=[xg.1.Cookie]) rfl (by first|rfl|omega) (by first|rfl|omega|(simp;done)|(simp;omega)|(simp at *;omega)) (by first|rfl|omega|(simp;done)|(simp;omega)|(simp at *;omega)) ?_
 conv=>whnf
 refine br.h h (by rfl) ?_ ?_
 ·clear h;intro hb h;conv=>whnf
  all_goals (cases h)
  all_goals exact Res.of [22,33] rfl (Xj3 (XiB Xba) (XdH rfl) (Xj3 (XqQ) (XdH rfl) Xn2)) (by decide) (XoK (by decide) (XoK (by decide) Xn1)) (XuX (rfl) (Xfq rfl) (XnO (XnO Xoa)))
 clear h;intro hb h;conv=>whnf
 refine br.h h (by rfl) ?_ ?_
 ·clear h;intro hb h;conv=>whnf
  all_goals (cases h)
  all_goals exact Res.of [22,33] rfl (Xj3 (XiB Xba) (XdH rfl) (Xj3 (XqQ) (XdH rfl) Xn2)) (by decide) (XoK (by decide) (XoK (by decide) Xn1)) (XuX (rfl) (Xfq rfl) (XnO (XnO Xoa)))
 clear h;intro hb h;conv=>whnf
 replace h:=Xcm.elim h;obtain ⟨i1,hy,h⟩:=h
 refine XeC.a (XA9 hy) ?_
 conv=>whnf
 all_goals (cases h)
 all_goals exact Res.of [22,33] rfl (Xj3 (XiB Xba) (XdH rfl) (Xj3 (XqQ) (XdH rfl) Xn2)) (by decide) (XoK (by decide) (XoK (by decide) Xn1)) (XuX (rfl) (Xfq rfl) (XnO (XnO Xoa)))
def XbN:XcR:=Xij XiE Xbe Xji XaQ XcD
theorem lift11:Xb8 Tryz.prog 11 (s11 XbN):=by
 have hL:=XJR XiE Xbe Xji XaQ XcD (Xaq.XaY ⟨XOy,Xue,XR3,XP0,XH3,trivial⟩)
 exact okA ⟨Tryz.f11,rfl,by decide,rfl⟩
def XgL (XcD:Xdu) (ha0:XaU) (t:Xag):Option (Int×Bool):=
 (XcD ha0 t).bind fun a=>
 cond (decide (a<0))
  (
  some ((0,false)))
  (
  Xbr (decide ((0:Int)≤a∧a<(ha0.Cookies.length:Int))) <|
  (ha0.Cookies[a.toNat]?).bind fun (e:Int)=>
  some ((e,true)))
def rx18 (x:Int×Bool):Xc2:=⟨.tuple ⟨[.int .u64 x.1,.bool x.2]⟩,[],[none,none,none]⟩
abbrev Xb2:=XaU→Xag→Option (Int×Bool)
def r18 (g:Xb2):Dec:=dTr 3 (Xgq 0) fun (y0:XaU)=>dV XdQ fun (y1:Xag)=>XdT (ofG (g y0 y1) rx18)
theorem r18_c {g:Xb2} {y0:XaU} {y1:Xag} {x:Int×Bool} (hx:g y0 y1=some x):r18 g [.pointer (some ⟨0,0,none⟩),.agg ⟨[.int .i64 y1.Proto,.bool y1.Src.V6,.int .u64 y1.Src.Hi,.int .u64 y1.Src.Lo,.bool y1.Dst.V6,.int .u64 y1.Dst.Hi,.int .u64 y1.Dst.Lo,.int .i64 y1.SPort,.int .i64 y1.DPort]⟩] [some [.int .i64 y0.ID,.int .u32 y0.Clock,.slice (some ⟨1,0,none⟩) y0.Flows.length 9,.slice (some ⟨2,0,none⟩) y0.Cookies.length 1],some (vT Xbz y0.Flows),some (vI .u64 y0.Cookies)]=some (rx18 x):=(XhS rfl rfl (Xis 0 _)).trans ((Xbb (XdX _)).trans (Xa7 hx))
def s18 (g:Xb2):XbS:=⟨[.tr [⟨none,0,0,0,none⟩,⟨some 0,2,0,0,some 9⟩,⟨some 0,3,0,0,some 1⟩],.v],r18 g⟩
theorem Xrc {g:Xb2} {y0:XaU} {y1:Xag} {x:Int×Bool} (hx:g y0 y1=some x):(s18 g).run [.pointer (some ⟨0,0,none⟩),.agg ⟨[.int .i64 y1.Proto,.bool y1.Src.V6,.int .u64 y1.Src.Hi,.int .u64 y1.Src.Lo,.bool y1.Dst.V6,.int .u64 y1.Dst.Hi,.int .u64 y1.Dst.Lo,.int .i64 y1.SPort,.int .i64 y1.DPort]⟩] [some [.int .i64 y0.ID,.int .u32 y0.Clock,.slice (some ⟨1,0,none⟩) y0.Flows.length 9,.slice (some ⟨2,0,none⟩) y0.Cookies.length 1],some (vT Xbz y0.Flows),some (vI .u64 y0.Cookies)]=some (rx18 x):=r18_c hx
abbrev XOp (XcD:Xdu):List (Nat×XbS):=[(34,s34 XcD)]
theorem XKk (XcD:Xdu) (hS:Xaq Tryz.prog (XaL (XOp XcD))) (ha0:XaU) (t:Xag) (res:Int×Bool) (h:XgL XcD ha0 t=some res) :
 XaM Tryz.prog 18 3 ⟨⟨18,19,[(0,.pointer (some ⟨0,0,none⟩)),(1,.agg ⟨[.int .i64 t.Proto,.bool t.Src.V6,.int .u64 t.Src.Hi,.int .u64 t.Src.Lo,.bool t.Dst.V6,.int .u64 t.Dst.Hi,.int .u64 t.Dst.Lo,.int .i64 t.SPort,.int .i64 t.DPort]⟩)],[.code XGd],[],false,none⟩,[],[(0,.row false [.int .i64 ha0.ID,.int .u32 ha0.Clock,.slice (some ⟨1,0,none⟩) ha0.Flows.length 9,.slice (some ⟨2,0,none⟩) ha0.Cookies.length 1]),(1,.row false (vT Xbz ha0.Flows)),(2,.row false (vI .u64 ha0.Cookies))],3⟩ (fun v H _=>Res 3 (rx18 res) v H):=by
 unfold XgL at h
 have R1:=@XGR XcD
 refine Xbp XaP hS true 3000 ?_
 conv=>whnf
 exact W
def XaI:Xb2:=XgL XcD
theorem XSl:Xb8 Tryz.prog 18 (s18 XaI):=by
 have hL:=XKk XcD (Xaq.XaY ⟨XH3,trivial⟩)
 exact okA ⟨Tryz.f18,rfl,by decide,rfl⟩
def Xik (Xbe:Xcz) (XgO:Xge) (XfM:Xgg) (XhT:Xhs) (XaI:Xb2) (ha0:XaU) (s:List UInt8):Option ((List UInt8)×Int):=
 (Xbe s).bind fun p=>
 cond (p.2 !=0)
  (
  some (([],p.2)))
  (
  (XgO p.1.Tuple).bind fun b=>
  (XaI ha0 b).bind fun c=>
  cond (!c.2)
   (
   some (([],13)))
   (
   cond (p.1.Tuple.Proto==6)
    (
    cond (p.1.Stamped)
     (
     (XhT s (wI .u16 (c.1.tmod 65536))).bind fun xo=>
     some ((xo.1,xo.2)))
     (
     (XfM s c.1).bind fun n=>
     cond (n.2 !=0)
      (
      some ((s,0)))
      (
      some ((n.1,0)))))
    (
    (XfM s c.1).bind fun n1=>
    cond (n1.2 !=0)
     (
     some ((s,0)))
     (
     some ((n1.1,0))))))
def rx13 (x:(List UInt8)×Int):Xc2:=⟨.tuple ⟨[.string ⟨⟨x.1⟩⟩,.int .i64 x.2]⟩,[],[none,none,none]⟩
abbrev XcS:=XaU→(List UInt8)→Option ((List UInt8)×Int)
def r13 (g:XcS):Dec:=dTr 3 (Xgq 0) fun (y0:XaU)=>dV asS fun (y1:List UInt8)=>XdT (ofG (g y0 y1) rx13)
theorem r13_c {g:XcS} {y0:XaU} {y1:List UInt8} {x:(List UInt8)×Int} (hx:g y0 y1=some x):r13 g [.pointer (some ⟨0,0,none⟩),.string ⟨⟨y1⟩⟩] [some [.int .i64 y0.ID,.int .u32 y0.Clock,.slice (some ⟨1,0,none⟩) y0.Flows.length 9,.slice (some ⟨2,0,none⟩) y0.Cookies.length 1],some (vT Xbz y0.Flows),some (vI .u64 y0.Cookies)]=some (rx13 x):=(XhS rfl rfl (Xis 0 _)).trans ((Xbb (Xds)).trans (Xa7 hx))
def s13 (g:XcS):XbS:=⟨[.tr [⟨none,0,0,0,none⟩,⟨some 0,2,0,0,some 9⟩,⟨some 0,3,0,0,some 1⟩],.v],r13 g⟩
theorem XOU {g:XcS} {y0:XaU} {y1:List UInt8} {x:(List UInt8)×Int} (hx:g y0 y1=some x):(s13 g).run [.pointer (some ⟨0,0,none⟩),.string ⟨⟨y1⟩⟩] [some [.int .i64 y0.ID,.int .u32 y0.Clock,.slice (some ⟨1,0,none⟩) y0.Flows.length 9,.slice (some ⟨2,0,none⟩) y0.Cookies.length 1],some (vT Xbz y0.Flows),some (vI .u64 y0.Cookies)]=some (rx13 x):=r13_c hx
abbrev XRW (Xbe:Xcz) (XgO:Xge) (XfM:Xgg) (XhT:Xhs) (XaI:Xb2):List (Nat×XbS):=[(25,s25 Xbe),(24,s24 XgO),(40,s40 XfM),(39,s39 XhT),(18,s18 XaI)]
theorem XME (Xbe:Xcz) (XgO:Xge) (XfM:Xgg) (XhT:Xhs) (XaI:Xb2) (hS:Xaq Tryz.prog (XaL (XRW Xbe XgO XfM XhT XaI))) (ha0:XaU) (s:List UInt8) (res:(List UInt8)×Int) (h:Xik Xbe XgO XfM XhT XaI ha0 s=some res) :
 XaM Tryz.prog 13 3 ⟨⟨13,54,[(0,.pointer (some ⟨0,0,none⟩)),(1,.string ⟨⟨s⟩⟩)],[.code XHJ],[],false,none⟩,[],[(0,.row false [.int .i64 ha0.ID,.int .u32 ha0.Clock,.slice (some ⟨1,0,none⟩) ha0.Flows.length 9,.slice (some ⟨2,0,none⟩) ha0.Cookies.length 1]),(1,.row false (vT Xbz ha0.Flows)),(2,.row false (vI .u64 ha0.Cookies))],3⟩ (fun v H _=>Res 3 (rx13 res) v H):=by
 unfold Xik at h
 have R1:=@XtA Xbe
 have R2:=@XPS XgO
 have R3:=@Xrc XaI
 have R4:=@XS6 XhT
 have R5:=@XQi XfM
 refine Xbp XaP hS true 3000 ?_
 conv=>whnf
 exact W
def XbL:XcS:=Xik Xbe XgO XfM XhT XaI
theorem lift13:Xb8 Tryz.prog 13 (s13 XbL):=by
 have hL:=XME Xbe XgO XfM XhT XaI (Xaq.XaY ⟨Xue,XRN,XQz,XRO,XSl,trivial⟩)
 exact okA ⟨Tryz.f13,rfl,by decide,rfl⟩
end Go.Vm.Code
namespace Go.Vm.Code
open Go Go.Vm
def XsU (m:List Xah):List Int:=m.map fun e=>e.val
def Xll (i k:Int) (l:List Xah):XaU:=⟨i,k,Xey l,XsU l⟩
theorem Xs3 (l:List Xah):(Xey l).length=l.length:=by simp [Xey]
theorem XAS (l:List Xah):(XsU l).length=l.length:=by simp [XsU]
theorem XGO {l:List Xah} {i:Nat} (h:i<l.length):(Xey l)[i]?=some l[i].key:=by simp [Xey,h]
theorem XGt {l:List Xah} {i:Nat} (h:i<l.length):(XsU l)[i]?=some l[i].val:=by simp [XsU,h]
theorem Xru (a b:Xag):XDg a b=XaG b a:=by
 rw [Bool.eq_iff_iff,XgY,Xtp];exact eq_comm
def XMq (t:Xag):List Xah→Int→Int
 | [],_=>-1
 | e::l,i=>cond (XaG t e.key) i (XMq t l (i+1))
theorem Xtd (t:Xag) (e:Xah) (l:List Xah) (i:Int):XMq t (e::l) i=cond (XaG t e.key) i (XMq t l (i+1)):=rfl
theorem XpA {t:Xag}:∀ {l:List Xah} {i:Int},(XMq t l i=-1∧t ∉ Xey l)∨∃ n:Nat,∃ h:n<l.length,XMq t l i=i+n∧t∈Xey l∧Xaz 0 t l=l[n].val
 | [],i=>.inl ⟨rfl,by simp [Xey]⟩
 | e::l,i=>by
   rw [Xtd]
   cases h:XaG t e.key
   ·rw [cond_false]
    rcases XpA (t:=t) (l:=l) (i:=i+1) with ⟨h1,h2⟩|⟨n,hn,h1,h2,h3⟩
    ·refine .inl ⟨h1,fun hm=>?_⟩
     rcases List.mem_cons.1 hm with hm|hm
     ·rw [XgY.2 hm] at h;cases h
     ·exact h2 hm
    ·refine .inr ⟨n+1,by simp;omega,by rw [h1];omega,List.mem_cons_of_mem _ h2,?_⟩
     rw [XdE,h,cond_false,h3];rfl
   ·rw [cond_true]
    refine .inr ⟨0,by simp,by omega,?_,?_⟩
    ·rw [XgY.1 h];exact List.mem_cons_self
    ·rw [XdE,h];rfl
theorem XHq {i k:Int} {l:List Xah} {t:Xag} (hl:l.length<1000):XcD (Xll i k l) t=some (XMq t l 0):=by
 unfold XcD Xjt
 have key:=iter_eq (step:=fun st=>XfV (Xll i k l) t st) (fun st=>XMq t (l.drop st.toNat) st) (fun st=>0≤st∧st≤l.length) (fun st=>(l.length+1 - st).toNat) ?_ FUEL 0 ⟨by omega,by omega⟩ (by rw [Xfm];omega)
 ·exact key
 rintro st ⟨h1,h2⟩
 obtain ⟨p,rfl⟩:=Int.eq_ofNat_of_zero_le h1
 simp only [Int.toNat_natCast]
 unfold XfV
 have ef:(Xll i k l).Flows=Xey l:=rfl
 rw [ef,Xs3]
 by_cases c:p<l.length
 ·rw [XaZ (by omega),XaH (by omega),Int.toNat_natCast,XGO c,Option.bind_some,List.drop_eq_getElem_cons c]
  have es:((l[p].key.Proto==t.Proto)&&((l[p].key.Src.V6==t.Src.V6)&&((l[p].key.Src.Hi==t.Src.Hi)&&((l[p].key.Src.Lo==t.Src.Lo)&&((l[p].key.Dst.V6==t.Dst.V6)&&((l[p].key.Dst.Hi==t.Dst.Hi)&&((l[p].key.Dst.Lo==t.Dst.Lo)&&((l[p].key.SPort==t.SPort)&&((l[p].key.DPort==t.DPort)&&true)))))))))=XaG t l[p].key:=Xru _ _
  simp only [es]
  rw [Xtd]
  cases he:XaG t l[p].key
  ·refine .inr ⟨((p+1:Nat):Int),?_,⟨by omega,by omega⟩,by omega,?_⟩
   ·rw [cond_false,Xdb (by omega) (by omega)];rfl
   ·rfl
  ·exact .inl rfl
 ·refine .inl ?_
  rw [XaR (by omega),List.drop_eq_nil_of_le (by omega)];rfl
theorem Xra {i k:Int} {l:List Xah} {t:Xag} (hl:l.length<1000):XaI (Xll i k l) t=some (Xaz 0 t l,Xa6 t l):=by
 unfold XaI XgL
 rw [XHq hl,Option.bind_some]
 rcases XpA (t:=t) (l:=l) (i:=0) with ⟨h1,h2⟩|⟨n,hn,h1,h2,h3⟩
 ·rw [h1,XaZ (by omega),Xrj.2 h2]
  have:Xaz 0 t l=0:=by
   clear h1
   induction l with
   | nil=>rfl
   | cons e l ih=>
     simp only [Xey,List.map_cons,List.mem_cons,not_or] at h2
     rw [XdE,Xlq h2.1,cond_false]
     exact ih (by simp at hl;omega) h2.2
  rw [this]
 ·have ec:(Xll i k l).Cookies=XsU l:=rfl
  rw [h1,XaR (by omega),ec,XAS,XaH (by omega),show (0+(n:Int)).toNat=n by omega,XGt hn,Option.bind_some,XiU.2 h2,h3]
def Xfr (t:Xag) (l:List Xah):List Xah:=l.filter fun e=>!XaG t e.key
theorem XBR (t:Xag) (e:Xah) (l:List Xah):Xfr t (e::l)=cond (XaG t e.key) (Xfr t l) (e::Xfr t l):=by
 unfold Xfr;rw [List.filter_cons];cases XaG t e.key<;>rfl
theorem XyA (a b:List Xah):Xey (a++b)=Xey a++Xey b:=by simp [Xey]
theorem XNS (a b:List Xah):XsU (a++b)=XsU a++XsU b:=by simp [XsU]
theorem Xn5 {i k:Int} {l:List Xah} {t:Xag} (hl:l.length<1000):XaQ (Xll i k l) t=some (Xa6 t l,Xll i k (Xfr t l)):=by
 unfold XaQ XgK
 have key:=iter_eq (step:=fun (st:Bool×Int×List Xag×List Int)=>Xes (Xll i k l) t st.1 st.2.1 st.2.2.1 st.2.2.2)
  (fun st=>(st.1||Xa6 t (l.drop st.2.1.toNat),XaU.mk i k (st.2.2.1++Xey (Xfr t (l.drop st.2.1.toNat))) (st.2.2.2++XsU (Xfr t (l.drop st.2.1.toNat)))))
  (fun st=>(0≤st.2.1∧st.2.1≤l.length)∧st.2.2.1.length≤st.2.1∧st.2.2.2.length≤st.2.1) (fun st=>(l.length+1 - st.2.1).toNat) ?_ FUEL (false,0,[],[]) ⟨⟨by simp,by simp⟩,by simp,by simp⟩ (by rw [Xfm];simp only [];omega)
 ·rw [key];simp [Xll]
 rintro ⟨w,q,f,c⟩ ⟨⟨h1,h2⟩,h3,h4⟩
 simp only at h1 h2 h3 h4 ⊢
 obtain ⟨p,rfl⟩:=Int.eq_ofNat_of_zero_le h1
 simp only [Int.toNat_natCast]
 unfold Xes
 have ef:(Xll i k l).Flows=Xey l:=rfl
 have ec:(Xll i k l).Cookies=XsU l:=rfl
 rw [ef,ec,Xs3,XAS]
 by_cases hp:p<l.length
 ·have hw:wI .i64 ((p:Int)+1)=((p+1:Nat):Int):=by rw [Xdb (by omega) (by omega)];rfl
  rw [XaZ (by omega),XaH (by omega),Int.toNat_natCast,XGO hp,Option.bind_some,List.drop_eq_getElem_cons hp]
  have es:((l[p].key.Proto==t.Proto)&&((l[p].key.Src.V6==t.Src.V6)&&((l[p].key.Src.Hi==t.Src.Hi)&&((l[p].key.Src.Lo==t.Src.Lo)&&((l[p].key.Dst.V6==t.Dst.V6)&&((l[p].key.Dst.Hi==t.Dst.Hi)&&((l[p].key.Dst.Lo==t.Dst.Lo)&&((l[p].key.SPort==t.SPort)&&((l[p].key.DPort==t.DPort)&&true)))))))))=XaG t l[p].key:=Xru _ _
  simp only [es]
  have hf:Xfr t (l[p]::l.drop (p+1))=cond (XaG t l[p].key) (Xfr t (l.drop (p+1))) (l[p]::Xfr t (l.drop (p+1))):=by
   unfold Xfr;rw [List.filter_cons];cases XaG t l[p].key<;>rfl
  rw [hf,XsY]
  cases he:XaG t l[p].key
  ·refine .inr ⟨(w,((p+1:Nat):Int),f++[l[p].key],c++[l[p].val]),?_,⟨⟨by simp only [];omega,by simp only [];omega⟩,by simp only [List.length_append,List.length_singleton];omega,by simp only [List.length_append,List.length_singleton];omega⟩,by simp only [];omega,?_⟩
   ·rw [cond_false,XaH (by omega),XaH (by omega),XaH (by omega),XGt hp,Option.bind_some,XaH (by omega),hw]
   ·simp only [Int.toNat_natCast,cond_false,Bool.false_or,List.append_assoc];rfl
  ·refine .inr ⟨(true,((p+1:Nat):Int),f,c),?_,⟨⟨by simp only [];omega,by simp only [];omega⟩,by simp only [];omega,by simp only [];omega⟩,by simp only [];omega,?_⟩
   ·rw [cond_true,hw]
   ·simp only [Int.toNat_natCast,cond_true,Bool.true_or,Bool.or_true]
 ·refine .inl ?_
  rw [XaR (by omega),List.drop_eq_nil_of_le (by omega)]
  simp [Xfr,Xey,XsU,Xa6,XBC,Xll]
structure XkO (m l:List Xah):Prop where
 nm:(Xey m).Nodup
 nl:(Xey l).Nodup
 mem:∀ t,t∈Xey m↔t∈Xey l
 get:∀ t,Xaz 0 t m=Xaz 0 t l
 len:m.length=l.length
 max:m.length≤64
 rng:∀ t,0≤Xaz 0 t m∧Xaz 0 t m<2^64
theorem XkO.has {m l:List Xah} (h:XkO m l) (t:Xag):Xa6 t m=Xa6 t l:=by
 rw [Bool.eq_iff_iff,XiU,XiU];exact h.mem t
theorem Xsu {t u:Xag} {l:List Xah}:u∈Xey (Xfr t l)↔u∈Xey l∧u≠t:=by
 simp only [Xey,Xfr,List.mem_map,List.mem_filter]
 constructor
 ·rintro ⟨e,⟨h1,h2⟩,rfl⟩
  refine ⟨⟨e,h1,rfl⟩,fun h=>?_⟩
  rw [XgY.2 h.symm] at h2;cases h2
 ·rintro ⟨⟨e,h1,rfl⟩,h2⟩
  exact ⟨e,⟨h1,by rw [Xlq (fun h=>h2 h.symm)];rfl⟩,rfl⟩
theorem Xtf {t:Xag} {l:List Xah} (h:(Xey l).Nodup):(Xey (Xfr t l)).Nodup:=
 h.sublist (List.Sublist.map _ List.filter_sublist)
theorem XuM {t u:Xag} (hu:u≠t):∀ {l:List Xah},Xaz 0 u (Xfr t l)=Xaz 0 u l
 | []=>rfl
 | e::l=>by
   have ih:=XuM hu (l:=l)
   rw [XBR,XdE]
   cases he:XaG t e.key
   ·rw [cond_false,XdE,ih]
   ·rw [cond_true,ih,←XgY.1 he,Xlq hu];rfl
theorem Xsv {t:Xag} {l:List Xah} (h:t ∉ Xey l):Xfr t l=l:=by
 unfold Xfr
 rw [List.filter_eq_self]
 intro e he
 have hk:e.key∈Xey l:=List.mem_map.2 ⟨e,he,rfl⟩
 rw [Xlq (fun h2=>h (by rw [h2];exact hk))];rfl
theorem Xuw {t:Xag}:∀ {l:List Xah},(Xey l).Nodup→t∈Xey l→(Xfr t l).length+1=l.length
 | [],_,h=>by simp [Xey] at h
 | e::l,hn,h=>by
   have hn':e.key ∉ Xey l∧(Xey l).Nodup:=by simpa [Xey] using hn
   have hf:Xfr t (e::l)=cond (XaG t e.key) (Xfr t l) (e::Xfr t l):=by
    unfold Xfr;rw [List.filter_cons];cases XaG t e.key<;>rfl
   rw [hf]
   cases he:XaG t e.key
   ·have:t∈Xey l:=by
     rcases List.mem_cons.1 h with h|h
     ·rw [XgY.2 h] at he;cases he
     ·exact h
    have:=Xuw hn'.2 this
    simp only [cond_false,List.length_cons];omega
   ·rw [cond_true,Xsv (by rw [XgY.1 he];exact hn'.1)];rfl
theorem Xwg {t u:Xag} {v:Int}:∀ {l:List Xah},t ∉ Xey l→Xaz 0 u (l++[⟨t,v⟩])=if u=t then v else Xaz 0 u l
 | [],_=>by
   show Xaz 0 u [⟨t,v⟩]=_
   rw [XdE]
   by_cases h:u=t
   ·rw [XgY.2 h,if_pos h];rfl
   ·rw [Xlq h,if_neg h];rfl
 | e::l,hn=>by
   simp only [Xey,List.map_cons,List.mem_cons,not_or] at hn
   rw [List.cons_append,XdE,XdE,Xwg (l:=l) hn.2]
   by_cases h:u=t
   ·rw [if_pos h,if_pos h,h,Xlq hn.1];rfl
   ·rw [if_neg h,if_neg h]
theorem XkO.put {m l:List Xah} (h:XkO m l) {t:Xag} {v:Int} (hv:0≤v∧v<2^64) (hmax:t∈Xey m∨m.length<64):XkO (Xbl t v m) (Xfr t l++[⟨t,v⟩]):=by
 have hnf:t ∉ Xey (Xfr t l):=fun hh=>(Xsu.1 hh).2 rfl
 have hlen:(Xbl t v m).length=(Xfr t l++[Xah.mk t v]).length∧(Xbl t v m).length≤64:=by
  have hm:=h.max;have hl:=h.len
  rw [List.length_append,List.length_singleton]
  by_cases hin:t∈Xey m
  ·have:=Xuw h.nl ((h.mem t).1 hin)
   rw [XC7 hin];omega
  ·rw [Xo7 hin,Xsv (fun hh=>hin ((h.mem t).2 hh)),List.length_append,List.length_singleton]
   rcases hmax with hh|hh
   ·exact absurd hh hin
   ·omega
 refine ⟨XxC h.nm,?_,fun u=>?_,fun u=>?_,hlen.1,hlen.2,fun u=>?_⟩
 ·rw [XyA,List.nodup_append]
  refine ⟨Xtf h.nl,by simp [Xey],fun a ha b hb=>?_⟩
  simp only [Xey,List.map_cons,List.map_nil,List.mem_singleton] at hb
  exact fun e=>by
   have e2:a=t:=e.trans hb
   subst e2;exact hnf ha
 ·rw [XDu,XyA,List.mem_append,Xsu,h.mem]
  simp only [Xey,List.map_cons,List.map_nil,List.mem_singleton]
  by_cases e:u=t
  ·simp [e]
  ·simp [e]
 ·rw [Xwg hnf]
  by_cases e:u=t
  ·rw [if_pos e,e,Xsk]
  ·rw [if_neg e,XnX e,XuM e,h.get]
 ·by_cases e:u=t
  ·rw [e,Xsk];exact hv
  ·rw [XnX e];exact h.rng u
theorem XkO.del {m l:List Xah} (h:XkO m l) (t:Xag):XkO (XbR t m) (Xfr t l):=by
 obtain ⟨d1,d2,d3,d4,d5⟩:=XpX (t:=t) h.nm
 have hm:=h.max;have hl:=h.len
 have g0:∀ {x:List Xah},t ∉ Xey x→Xaz 0 t x=0:=fun {x} hx=>by
  induction x with
  | nil=>rfl
  | cons e x ih=>
    simp only [Xey,List.map_cons,List.mem_cons,not_or] at hx
    rw [XdE,Xlq hx.1,cond_false];exact ih hx.2
 have n1:t ∉ Xey (XbR t m):=fun hh=>((d1 t).1 hh).2 rfl
 have n2:t ∉ Xey (Xfr t l):=fun hh=>(Xsu.1 hh).2 rfl
 have hlen:(XbR t m).length=(Xfr t l).length∧(XbR t m).length≤64:=by
  by_cases hin:t∈Xey m
  ·have:=Xuw h.nl ((h.mem t).1 hin)
   have:=d3 hin
   omega
  ·rw [d4 hin,Xsv (fun hh=>hin ((h.mem t).2 hh))];omega
 refine ⟨d2,Xtf h.nl,fun u=>by rw [d1,Xsu,h.mem],fun u=>?_,hlen.1,hlen.2,fun u=>?_⟩
 ·by_cases e:u=t
  ·rw [e,g0 n1,g0 n2]
  ·rw [d5 0 u e,XuM e,h.get]
 ·by_cases e:u=t
  ·rw [e,g0 n1];omega
  ·rw [d5 0 u e];exact h.rng u
end Go.Vm.Code
namespace Go.Vm
open Go
theorem XBD {α:Type} (l:List α) (sz:α→Nat) (K M:Nat) (hK:K<2^40) (step:Int→Option (Sum Int Bool))
 (hs:∀ i:Nat,step (i:Int)=if h:i<l.length then (if i<K then (if M<sz l[i] then some (.inr false) else some (.inl ((i+1:Nat):Int))) else some (.inr (decide (l.length≤K)))) else some (.inr (decide (l.length≤K)))) :
 iter step FUEL 0=some (decide (l.length≤K)&&(l.take K).all fun e=>decide (sz e≤M)):=by
 have key:=iter_eq (step:=step) (fun i:Int=>decide (l.length≤K)&&((l.take K).drop i.toNat).all fun e=>decide (sz e≤M)) (fun i=>0≤i∧i≤K) (fun i=>(K+1 - i.toNat)) ?_ FUEL 0 ⟨by omega,by omega⟩ (by rw [Xfm];omega)
 ·rw [key];simp
 rintro s ⟨h1,h2⟩
 obtain ⟨i,rfl⟩:=Int.eq_ofNat_of_zero_le h1
 rw [hs i]
 simp only [Int.toNat_natCast]
 by_cases c:i<l.length
 ·rw [dif_pos c]
  by_cases c2:i<K
  ·rw [if_pos c2]
   have hd:((l.take K).drop i)=l[i]::((l.take K).drop (i+1)):=by
    rw [List.drop_eq_getElem_cons (by rw [List.length_take];omega),List.getElem_take]
   by_cases c3:M<sz l[i]
   ·rw [if_pos c3,hd]
    refine .inl ?_
    rw [List.all_cons,decide_eq_false (show ¬ sz l[i]≤M by omega)];simp
   ·rw [if_neg c3,hd]
    refine .inr ⟨_,rfl,⟨by omega,by omega⟩,by omega,?_⟩
    rw [List.all_cons,decide_eq_true (show sz l[i]≤M by omega),Bool.true_and];rfl
  ·rw [if_neg c2]
   refine .inl ?_
   rw [List.drop_eq_nil_of_le (by rw [List.length_take];omega)];simp
 ·rw [dif_neg c]
  refine .inl ?_
  rw [List.drop_eq_nil_of_le (by rw [List.length_take];omega)];simp
end Go.Vm
namespace Go.Vm.Code
open Go Go.Vm Go.Proofs
set_option maxRecDepth 100000
set_option maxHeartbeats 4000000
set_option linter.unusedVariables false
def Xit (l:List Xcv) (i:Int):Option (Sum Int Bool):=
 cond (decide (i<(l.length:Int)))
  (
  cond (decide (i<40))
   (
   Xbr (decide ((0:Int)≤i∧i<(l.length:Int))) <|
   (l[i.toNat]?).bind fun (e:Xcv)=>
   cond (decide ((e.S.length:Int)>300))
    (
    some (.inr (false)))
    (
    some (.inl (wI .i64 (i+1)))))
   (
   some (.inr (decide ((l.length:Int)≤40)))))
  (
  some (.inr (decide ((l.length:Int)≤40))))
def XlL (l:List Xcv):Option Bool:=
 iter (fun st=>Xit l st) FUEL 0
def rx6 (x:Bool):Xc2:=⟨.bool x,[],[none]⟩
abbrev XeG:=(List Xcv)→Option Bool
def r6 (g:XeG):Dec:=dSl 0 12 (unR 12 Xi4) fun (y0:List Xcv)=>XdT (ofG (g y0) rx6)
theorem r6_c {g:XeG} {y0:List Xcv} {x:Bool} (hx:g y0=some x):r6 g [.slice (some ⟨0,0,none⟩) y0.length 12] [some (vT Xd7 y0)]=some (rx6 x):=(XvI (XzZ (by first|exact XrT|exact XbE|exact Xci|exact XqL|exact Xox|exact Xp9|exact XnV|exact XoV|exact XpW|exact Xsf|exact Xfe|exact XsM|exact XqT|exact XrN|exact Xc8) (by decide) Xtu _)).trans (Xa7 hx)
def s6 (g:XeG):XbS:=⟨[.sl 12],r6 g⟩
theorem r6_eq {g:XeG} {y0:List Xcv} {x:Bool} (hx:g y0=some x):(s6 g).run [.slice (some ⟨0,0,none⟩) y0.length 12] [some (vT Xd7 y0)]=some (rx6 x):=r6_c hx
abbrev XSw:List (Nat×XbS):=[]
def Xqo (l:List Xcv) (i:Int):VM:=
 ⟨⟨6,24,[(0,.slice (some ⟨0,0,none⟩) l.length 12),(3,.int .i64 i)],[.code XLZ,.inLoop XLZ,.inBlock 0,.code XQw],[],false,none⟩,[],[(0,.row false (vT Xd7 l))],1⟩
theorem XNa (hS:Xaq Tryz.prog (XaL (XSw))) (l:List Xcv) (res:Bool):∀ fuel (st:Int) (o:Bool),iter (fun st=>Xit l st) fuel st=some o→(o=res) →
 XaM Tryz.prog 6 1 (Xqo l st) (fun v H _=>Res 1 (rx6 res) v H):=by
 intro fuel st o h hc
 refine XcJ (head:=fun st=>Xqo l st) (C:=fun o=>(o=res)) ?_ fuel st o h hc
 clear h hc o st fuel
 intro i o h hc
 replace h:Xit l i=some o:=h
 show XaM Tryz.prog 6 1 (Xqo l i) (fun v H _=>Res 1 (rx6 res) v H)
 unfold Xit at h
 refine Xbp XaP hS true 3000 ?_
 conv=>whnf
 refine br.h2 h (by rfl) ?_ ?_
 ·clear h;intro hb h;conv=>whnf
  exact W
 clear h;intro hb h;conv=>whnf
 refine br.h2 h (by rfl) ?_ ?_
 ·clear h;intro hb h;conv=>whnf
  exact W
 clear h;intro hb h;conv=>whnf
 replace h:=Xbr.elim h;obtain ⟨hb,h⟩:=h
 try (refine req.intro hb ?_;conv=>whnf)
 replace h:=Xcm.elim h;obtain ⟨e,hy,h⟩:=h
 refine rd.T (j:=1) Xci hy (by first|omega|exact Nat.zero_add _|exact congrArg (·+_) (Nat.zero_add _)) (by decide) rfl ?_
 conv=>whnf
 refine br.h h (by rfl) ?_ ?_
 ·clear h;intro hb h;conv=>whnf
  exact W
 clear h;intro hb h;conv=>whnf
 cases h;simp only [Sum.elim_inl,Xqo] at hc
 exact Xjj hc [(0,0)] rfl
theorem XSk (hS:Xaq Tryz.prog (XaL (XSw))) (l:List Xcv) (res:Bool) (h:XlL l=some res) :
 XaM Tryz.prog 6 1 ⟨⟨6,24,[(0,.slice (some ⟨0,0,none⟩) l.length 12)],[.code XPt],[],false,none⟩,[],[(0,.row false (vT Xd7 l))],1⟩ (fun v H _=>Res 1 (rx6 res) v H):=by
 unfold XlL at h
 refine Xbp XaP hS true 3000 ?_
 conv=>whnf
 have hl:=XNa hS _ res _ _ _ h rfl;simp only [Xqo] at hl
 exact Xjj hl [(0,0)] rfl
def Xd9:XeG:=XlL
theorem lift6:Xb8 Tryz.prog 6 (s6 Xd9):=by
 have hL:=XSk (Xaq.XaY trivial)
 exact okA ⟨Tryz.f6,rfl,by decide,rfl⟩
def Xk6 (Xan:XaD) (Xal:XaC) (Xai:Xay) (XaS:Xbx) (XaE:Xbm) (Xbo:Xcg) (Xa0:Xb7) (Xbi:Xb1) (XaO:XbP) (Xa5:XbM) (XaJ:XbC) (Xa4:XbQ) (XaK:XbB):Option Bool:=
 (XaK (Xaj.mk 7 0 ([]:List Xah)) []).bind fun x1=>
 (XaJ (Xaj.mk 7 0 x1.2.2.cookies) []).bind fun x11=>
 (Xbo 1).bind fun n=>
 (Xa4 []).bind fun n1=>
 (Xa5 (XbJ.mk 0 0 NilMap.mk) []).bind fun x0=>
 (Xan (Xag.mk 0 (Xae.mk false 0 0) (Xae.mk false 0 0) 0 0)).bind fun n2=>
 cond (x1.2.1==2)
  (
  cond (x11.2.1==2)
   (
   cond (n1.2==1)
    (
    cond (x0.2==1)
     (
     cond (!n2.2)
      (
      (XaS (XbJ.mk 0 0 NilMap.mk) (Xag.mk 0 (Xae.mk false 0 0) (Xae.mk false 0 0) 0 0)).bind fun x01=>
      cond (!x01)
       (
       (Xbi).bind fun n3=>
       cond (n3==0)
        (
        some (true))
        (
        some (false)))
       (
       some (false)))
      (
      some (false)))
     (
     some (false)))
    (
    some (false)))
   (
   some (false)))
  (
  some (false))
def rx7 (x:Bool):Xc2:=⟨.bool x,[],[]⟩
abbrev Xda:=Option Bool
def r7 (g:Xda):Dec:=XdT (ofG (g) rx7)
theorem r7_c {g:Xda} {x:Bool} (hx:g=some x):r7 g [] []=some (rx7 x):=Xa7 hx
def s7 (g:Xda):XbS:=⟨[],r7 g⟩
theorem XLR {g:Xda} {x:Bool} (hx:g=some x):(s7 g).run [] []=some (rx7 x):=r7_c hx
abbrev sums7 (Xan:XaD) (Xal:XaC) (Xai:Xay) (XaS:Xbx) (XaE:Xbm) (Xbo:Xcg) (Xa0:Xb7) (Xbi:Xb1) (XaO:XbP) (Xa5:XbM) (XaJ:XbC) (Xa4:XbQ) (XaK:XbB):List (Nat×XbS):=[(17,s17 Xan Xal Xai),(14,s14 XaS XaE),(16,s16 Xbo Xa0),(19,s19 Xbi XaO),(12,s12 Xa5 XaJ),(10,s10 Xa4 XaK)]
theorem XSp (Xan:XaD) (Xal:XaC) (Xai:Xay) (XaS:Xbx) (XaE:Xbm) (Xbo:Xcg) (Xa0:Xb7) (Xbi:Xb1) (XaO:XbP) (Xa5:XbM) (XaJ:XbC) (Xa4:XbQ) (XaK:XbB) (hS:Xaq Tryz.prog (XaL (sums7 Xan Xal Xai XaS XaE Xbo Xa0 Xbi XaO Xa5 XaJ Xa4 XaK))) (res:Bool) (h:Xk6 Xan Xal Xai XaS XaE Xbo Xa0 Xbi XaO Xa5 XaJ Xa4 XaK=some res) :
 XaM Tryz.prog 7 0 ⟨⟨7,80,[],[.code XQ3],[],false,none⟩,[],[],0⟩ (fun v H _=>Res 0 (rx7 res) v H):=by
 unfold Xk6 at h
 have R1:=@XwT Xa4 XaK
 have R2:=@XvD Xa5 XaJ
 have R3:=@XD3 Xbo Xa0
 have R4:=@XCV Xa4 XaK
 have R5:=@XEB Xa5 XaJ
 have R6:=@XEY Xan Xal Xai
 have R7:=@XCY XaS XaE
 have R8:=@XDs Xbi XaO
 refine Xbp XaP hS true 3000 ?_
 conv=>whnf
 exact W
def Xbt:Xda:=Xk6 Xan Xal Xai XaS XaE Xbo Xa0 Xbi XaO Xa5 XaJ Xa4 XaK
theorem lift7:Xb8 Tryz.prog 7 (s7 Xbt):=by
 have hL:=XSp Xan Xal Xai XaS XaE Xbo Xa0 Xbi XaO Xa5 XaJ Xa4 XaK (Xaq.XaY ⟨Xte,XRu,XOe,XSA,XRh,XQ6,trivial⟩)
 exact okA ⟨Tryz.f7,rfl,by decide,rfl⟩
def XdP (Xbt:Xda) (l:List Xcv):Option (Sum Unit Bool):=
 cond (decide (0<(l.length:Int)))
  (
  (Xbt).bind fun a1=>
  some (.inr (a1)))
  (
  (Xbt).bind fun a2=>
  some (.inr (a2)))
def Xeo (XaI:Xb2) (XaQ:Xb0) (XbL:XcS) (XbN:XcR) (Xbt:Xda) (Xai:Xay) (XaE:Xbm) (Xa0:Xb7) (XaO:XbP) (XaJ:XbC) (XaK:XbB) (l:List Xcv) (i:Int) (c:List Xah) (xh:Int) (xh1:Int) (x:Int) (x1:Int) (c1:List Xag) (c2:List Int):Option (Sum (Int×(List Xah)×Int×Int×Int×Int×(List Xag)×(List Int)) Bool):=
 cond (decide (i<(l.length:Int)))
  (
  Xbr (decide ((0:Int)≤i∧i<(l.length:Int))) <|
  (l[i.toNat]?).bind fun (e:Xcv)=>
  cond (e.Kind==0)
   (
   (XaK (Xaj.mk xh xh1 c) e.S).bind fun x11=>
   (XbN (XaU.mk x x1 c1 c2) e.S).bind fun t=>
   cond (!(x11.1==t.1))
    (
    some (.inr (false)))
    (
    cond (x11.2.1 !=t.2.1)
     (
     some (.inr (false)))
     (
     (Xai (Xaj.mk xh xh1 x11.2.2.cookies) e.T).bind fun x12=>
     (XaI t.2.2 e.T).bind fun c3=>
     cond (x12.1 !=c3.1)
      (
      some (.inr (false)))
      (
      cond (!(x12.2.1==c3.2))
       (
       some (.inr (false)))
       (
       (XaO (Xaj.mk xh xh1 x12.2.2.cookies)).bind fun x13=>
       cond (x13.1 !=(t.2.2.Flows.length:Int))
        (
        some (.inr (false)))
        (
        some (.inl (wI .i64 (i+1),x13.2.cookies,xh,xh1,t.2.2.ID,t.2.2.Clock,t.2.2.Flows,t.2.2.Cookies))))))))
   (
   cond (e.Kind==1)
    (
    (XaJ (Xaj.mk xh xh1 c) e.S).bind fun x14=>
    (XbL (XaU.mk x x1 c1 c2) e.S).bind fun s=>
    cond (!(x14.1==s.1))
     (
     some (.inr (false)))
     (
     cond (x14.2.1 !=s.2)
      (
      some (.inr (false)))
      (
      (Xai (Xaj.mk xh xh1 x14.2.2.cookies) e.T).bind fun x15=>
      (XaI (XaU.mk x x1 c1 c2) e.T).bind fun c4=>
      cond (x15.1 !=c4.1)
       (
       some (.inr (false)))
       (
       cond (!(x15.2.1==c4.2))
        (
        some (.inr (false)))
        (
        (XaO (Xaj.mk xh xh1 x15.2.2.cookies)).bind fun x16=>
        cond (x16.1 !=(c1.length:Int))
         (
         some (.inr (false)))
         (
         some (.inl (wI .i64 (i+1),x16.2.cookies,xh,xh1,x,x1,c1,c2))))))))
    (
    cond (e.Kind==2)
     (
     (XaE (Xaj.mk xh xh1 c) e.T).bind fun x17=>
     (XaQ (XaU.mk x x1 c1 c2) e.T).bind fun f1=>
     cond (!(x17.1==f1.1))
      (
      some (.inr (false)))
      (
      (Xai (Xaj.mk xh xh1 x17.2.cookies) e.T).bind fun x18=>
      (XaI f1.2 e.T).bind fun c5=>
      cond (x18.1 !=c5.1)
       (
       some (.inr (false)))
       (
       cond (!(x18.2.1==c5.2))
        (
        some (.inr (false)))
        (
        (XaO (Xaj.mk xh xh1 x18.2.2.cookies)).bind fun x19=>
        cond (x19.1 !=(f1.2.Flows.length:Int))
         (
         some (.inr (false)))
         (
         some (.inl (wI .i64 (i+1),x19.2.cookies,xh,xh1,f1.2.ID,f1.2.Clock,f1.2.Flows,f1.2.Cookies)))))))
     (
     cond (e.Kind==3)
      (
      (Xa0 (Xaj.mk xh xh1 c) e.Clock).bind fun x110=>
      (Xai x110 e.T).bind fun x111=>
      (XaI (XaU.mk x e.Clock c1 c2) e.T).bind fun c6=>
      cond (x111.1 !=c6.1)
       (
       some (.inr (false)))
       (
       cond (!(x111.2.1==c6.2))
        (
        some (.inr (false)))
        (
        (XaO (Xaj.mk x110.id_ x110.clock x111.2.2.cookies)).bind fun x112=>
        cond (x112.1 !=(c1.length:Int))
         (
         some (.inr (false)))
         (
         some (.inl (wI .i64 (i+1),x112.2.cookies,x110.id_,x110.clock,x,e.Clock,c1,c2))))))
      (
      (Xai (Xaj.mk xh xh1 c) e.T).bind fun x113=>
      (XaI (XaU.mk x x1 c1 c2) e.T).bind fun c7=>
      cond (x113.1 !=c7.1)
       (
       some (.inr (false)))
       (
       cond (!(x113.2.1==c7.2))
        (
        some (.inr (false)))
        (
        (XaO (Xaj.mk xh xh1 x113.2.2.cookies)).bind fun x114=>
        cond (x114.1 !=(c1.length:Int))
         (
         some (.inr (false)))
         (
         some (.inl (wI .i64 (i+1),x114.2.cookies,xh,xh1,x,x1,c1,c2))))))))))
  (
  (Xbt).bind fun a3=>
  some (.inr (a3)))
def XgN (XaI:Xb2) (XaQ:Xb0) (XbL:XcS) (XbN:XcR) (Xbt:Xda) (Xd9:XeG) (Xan:XaD) (Xal:XaC) (Xai:Xay) (XaS:Xbx) (XaE:Xbm) (Xbo:Xcg) (Xa0:Xb7) (Xbi:Xb1) (XaO:XbP) (Xa5:XbM) (XaJ:XbC) (Xa4:XbQ) (XaK:XbB) (ida0:Int) (l:List Xcv):Option Bool:=
 (Xd9 l).bind fun f=>
 cond (!f)
  (
  (Xbt).bind fun a=>
  some (a))
  (
  cond (decide (ida0<1))
   (
   iter (fun _=>XdP Xbt l) FUEL ())
   (
   cond (decide (ida0>65535))
    (
    iter (fun _=>XdP Xbt l) FUEL ())
    (
    iter (fun st=>Xeo XaI XaQ XbL XbN Xbt Xai XaE Xa0 XaO XaJ XaK l st.1 st.2.1 st.2.2.1 st.2.2.2.1 st.2.2.2.2.1 st.2.2.2.2.2.1 st.2.2.2.2.2.2.1 st.2.2.2.2.2.2.2) FUEL (0,([]:List Xah),ida0,0,ida0,0,[],[]))))
def rx3 (x:Bool):Xc2:=⟨.bool x,[],[none]⟩
abbrev XhE:=Int→(List Xcv)→Option Bool
def r3 (g:XhE):Dec:=dV (asI .i64) fun (y0:Int)=>dSl 0 12 (unR 12 Xi4) fun (y1:List Xcv)=>XdT (ofG (g y0 y1) rx3)
def s3 (g:XhE):XbS:=⟨[.v,.sl 12],r3 g⟩
abbrev XMv (XaI:Xb2) (XaQ:Xb0) (XbL:XcS) (XbN:XcR) (Xbt:Xda) (Xd9:XeG) (Xan:XaD) (Xal:XaC) (Xai:Xay) (XaS:Xbx) (XaE:Xbm) (Xbo:Xcg) (Xa0:Xb7) (Xbi:Xb1) (XaO:XbP) (Xa5:XbM) (XaJ:XbC) (Xa4:XbQ) (XaK:XbB):List (Nat×XbS):=[(18,s18 XaI),(15,s15 XaQ),(13,s13 XbL),(11,s11 XbN),(7,s7 Xbt),(6,s6 Xd9),(17,s17 Xan Xal Xai),(14,s14 XaS XaE),(16,s16 Xbo Xa0),(19,s19 Xbi XaO),(12,s12 Xa5 XaJ),(10,s10 Xa4 XaK)]
def Xqa (l:List Xcv):VM:=
 ⟨⟨3,153,[(1,.slice (some ⟨0,0,none⟩) l.length 12),(5,.pointer none),(6,.pointer none),(7,.int .i64 0)],[.code XzI,.inLoop XzI,.inBlock 0,.code XL2],[],false,none⟩,[],[(0,.row false (vT Xd7 l))],1⟩
def Xj4 (l:List Xcv) (i:Int) (c:List Xah) (xh:Int) (xh1:Int) (x:Int) (x1:Int) (c1:List Xag) (c2:List Int):VM:=
 ⟨⟨3,153,[(1,.slice (some ⟨0,0,none⟩) l.length 12),(5,.pointer (some ⟨2,0,none⟩)),(6,.pointer (some ⟨3,0,none⟩)),(7,.int .i64 i)],[.code XzI,.inLoop XzI,.inBlock 0,.code XL2],[],false,none⟩,[],[(0,.row false (vT Xd7 l)),(1,.mp (vT XaA c)),(2,.cells [.int .i64 xh,.int .u32 xh1,.map (some 1)]),(3,.cells [.int .i64 x,.int .u32 x1,.slice (some ⟨4,0,none⟩) c1.length 9,.slice (some ⟨5,0,none⟩) c2.length 1]),(4,.row true (vT Xbz c1)),(5,.row true (vI .u64 c2))],6⟩
theorem XzT (XaI:Xb2) (XaQ:Xb0) (XbL:XcS) (XbN:XcR) (Xbt:Xda) (Xd9:XeG) (Xan:XaD) (Xal:XaC) (Xai:Xay) (XaS:Xbx) (XaE:Xbm) (Xbo:Xcg) (Xa0:Xb7) (Xbi:Xb1) (XaO:XbP) (Xa5:XbM) (XaJ:XbC) (Xa4:XbQ) (XaK:XbB) (hS:Xaq Tryz.prog (XaL (XMv XaI XaQ XbL XbN Xbt Xd9 Xan Xal Xai XaS XaE Xbo Xa0 Xbi XaO Xa5 XaJ Xa4 XaK))) (l:List Xcv) (res:Bool):∀ fuel (st:Unit) (o:Bool),iter (fun _=>XdP Xbt l) fuel st=some o→(o=res) →
 XaM Tryz.prog 3 1 (Xqa l ) (fun v H _=>Res 1 (rx3 res) v H):=by
 intro fuel st o h hc
 refine XcJ (head:=fun st=>Xqa l ) (C:=fun o=>(o=res)) ?_ fuel st o h hc
 clear h hc o st fuel
 intro st o h hc
 replace h:XdP Xbt l=some o:=h
 show XaM Tryz.prog 3 1 (Xqa l ) (fun v H _=>Res 1 (rx3 res) v H)
 unfold XdP at h
 have R1:=@XLR Xbt
 refine Xbp XaP hS true 3000 ?_
 conv=>whnf
 exact W
theorem XIH (XaI:Xb2) (XaQ:Xb0) (XbL:XcS) (XbN:XcR) (Xbt:Xda) (Xd9:XeG) (Xan:XaD) (Xal:XaC) (Xai:Xay) (XaS:Xbx) (XaE:Xbm) (Xbo:Xcg) (Xa0:Xb7) (Xbi:Xb1) (XaO:XbP) (Xa5:XbM) (XaJ:XbC) (Xa4:XbQ) (XaK:XbB) (hS:Xaq Tryz.prog (XaL (XMv XaI XaQ XbL XbN Xbt Xd9 Xan Xal Xai XaS XaE Xbo Xa0 Xbi XaO Xa5 XaJ Xa4 XaK))) (l:List Xcv) (res:Bool):∀ fuel (st:Int×(List Xah)×Int×Int×Int×Int×(List Xag)×(List Int)) (o:Bool),iter (fun st=>Xeo XaI XaQ XbL XbN Xbt Xai XaE Xa0 XaO XaJ XaK l st.1 st.2.1 st.2.2.1 st.2.2.2.1 st.2.2.2.2.1 st.2.2.2.2.2.1 st.2.2.2.2.2.2.1 st.2.2.2.2.2.2.2) fuel st=some o→(o=res) →
 XaM Tryz.prog 3 1 (Xj4 l st.1 st.2.1 st.2.2.1 st.2.2.2.1 st.2.2.2.2.1 st.2.2.2.2.2.1 st.2.2.2.2.2.2.1 st.2.2.2.2.2.2.2) (fun v H _=>Res 1 (rx3 res) v H):=by
 intro fuel st o h hc
 refine XcJ (head:=fun st=>Xj4 l st.1 st.2.1 st.2.2.1 st.2.2.2.1 st.2.2.2.2.1 st.2.2.2.2.2.1 st.2.2.2.2.2.2.1 st.2.2.2.2.2.2.2) (C:=fun o=>(o=res)) ?_ fuel st o h hc
 clear h hc o st fuel
 intro st o h hc
 obtain ⟨i,c,xh,xh1,x,x1,c1,c2⟩:=st
 replace h:Xeo XaI XaQ XbL XbN Xbt Xai XaE Xa0 XaO XaJ XaK l i c xh xh1 x x1 c1 c2=some o:=h
 show XaM Tryz.prog 3 1 (Xj4 l i c xh xh1 x x1 c1 c2) (fun v H _=>Res 1 (rx3 res) v H)
 unfold Xeo at h
 have R1:=@XLR Xbt
 refine Xbp XaP hS true 3000 ?_
 conv=>whnf
 refine br.h2 h (by rfl) ?_ ?_
 ·clear h;intro hb h;conv=>whnf
  exact W
 clear h;intro hb h;conv=>whnf
 replace h:=Xbr.elim h;obtain ⟨hb,h⟩:=h
 try (refine req.intro hb ?_;conv=>whnf)
 replace h:=Xcm.elim h;obtain ⟨e,hy,h⟩:=h
 refine ld_T Xci hy (by first|omega|exact Nat.zero_add _|exact congrArg (·+_) (Nat.zero_add _)) rfl ?_
 conv=>whnf
 refine br.h h (by rfl) ?_ ?_
 ·clear h;intro hb h;conv=>whnf
  replace h:=Xcm.elim h;obtain ⟨x11,hy,h⟩:=h
  refine XeC.a (XwT hy) ?_
  conv=>whnf
  replace h:=Xcm.elim h;obtain ⟨t,hy,h⟩:=h
  refine XeC.a (XSy hy) ?_
  conv=>whnf
  refine br.h h (by rfl) ?_ ?_
  ·clear h;intro hb h;conv=>whnf
   exact W
  clear h;intro hb h;conv=>whnf
  refine br.h h (by rfl) ?_ ?_
  ·clear h;intro hb h;conv=>whnf
   exact W
  clear h;intro hb h;conv=>whnf
  replace h:=Xcm.elim h;obtain ⟨x12,hy,h⟩:=h
  refine XeC.a (Xks hy) ?_
  conv=>whnf
  replace h:=Xcm.elim h;obtain ⟨c3,hy,h⟩:=h
  refine XeC.a (Xrc hy) ?_
  conv=>whnf
  refine br.h h (by rfl) ?_ ?_
  ·clear h;intro hb h;conv=>whnf
   exact W
  clear h;intro hb h;conv=>whnf
  refine br.h h (by rfl) ?_ ?_
  ·clear h;intro hb h;conv=>whnf
   exact W
  clear h;intro hb h;conv=>whnf
  replace h:=Xcm.elim h;obtain ⟨x13,hy,h⟩:=h
  refine XeC.a (Xnv hy) ?_
  conv=>whnf
  refine br.h h (by rfl) ?_ ?_
  ·clear h;intro hb h;conv=>whnf
   exact W
  clear h;intro hb h;conv=>whnf
  cases h;simp only [Sum.elim_inl,Xj4] at hc
  exact Xjj hc [(0,0),(1,1),(2,2),(3,3),(4,7),(5,8)] rfl
 clear h;intro hb h;conv=>whnf
 refine br.h h (by rfl) ?_ ?_
 ·clear h;intro hb h;conv=>whnf
  replace h:=Xcm.elim h;obtain ⟨x14,hy,h⟩:=h
  refine XeC.a (XvD hy) ?_
  conv=>whnf
  replace h:=Xcm.elim h;obtain ⟨s,hy,h⟩:=h
  refine XeC.a (XOU hy) ?_
  conv=>whnf
  refine br.h h (by rfl) ?_ ?_
  ·clear h;intro hb h;conv=>whnf
   exact W
  clear h;intro hb h;conv=>whnf
  refine br.h h (by rfl) ?_ ?_
  ·clear h;intro hb h;conv=>whnf
   exact W
  clear h;intro hb h;conv=>whnf
  replace h:=Xcm.elim h;obtain ⟨x15,hy,h⟩:=h
  refine XeC.a (Xks hy) ?_
  conv=>whnf
  replace h:=Xcm.elim h;obtain ⟨c4,hy,h⟩:=h
  refine XeC.a (Xrc hy) ?_
  conv=>whnf
  refine br.h h (by rfl) ?_ ?_
  ·clear h;intro hb h;conv=>whnf
   exact W
  clear h;intro hb h;conv=>whnf
  refine br.h h (by rfl) ?_ ?_
  ·clear h;intro hb h;conv=>whnf
   exact W
  clear h;intro hb h;conv=>whnf
  replace h:=Xcm.elim h;obtain ⟨x16,hy,h⟩:=h
  refine XeC.a (Xnv hy) ?_
  conv=>whnf
  refine br.h h (by rfl) ?_ ?_
  ·clear h;intro hb h;conv=>whnf
   exact W
  clear h;intro hb h;conv=>whnf
  cases h;simp only [Sum.elim_inl,Xj4] at hc
  exact Xjj hc [(0,0),(1,1),(2,2),(3,3),(4,4),(5,5)] rfl
 clear h;intro hb h;conv=>whnf
 refine br.h h (by rfl) ?_ ?_
 ·clear h;intro hb h;conv=>whnf
  replace h:=Xcm.elim h;obtain ⟨x17,hy,h⟩:=h
  refine XeC.a (XD7 hy) ?_
  conv=>whnf
  replace h:=Xcm.elim h;obtain ⟨f1,hy,h⟩:=h
  refine XeC.a (XA1 hy) ?_
  conv=>whnf
  refine br.h h (by rfl) ?_ ?_
  ·clear h;intro hb h;conv=>whnf
   exact W
  clear h;intro hb h;conv=>whnf
  replace h:=Xcm.elim h;obtain ⟨x18,hy,h⟩:=h
  refine XeC.a (Xks hy) ?_
  conv=>whnf
  replace h:=Xcm.elim h;obtain ⟨c5,hy,h⟩:=h
  refine XeC.a (Xrc hy) ?_
  conv=>whnf
  refine br.h h (by rfl) ?_ ?_
  ·clear h;intro hb h;conv=>whnf
   exact W
  clear h;intro hb h;conv=>whnf
  refine br.h h (by rfl) ?_ ?_
  ·clear h;intro hb h;conv=>whnf
   exact W
  clear h;intro hb h;conv=>whnf
  replace h:=Xcm.elim h;obtain ⟨x19,hy,h⟩:=h
  refine XeC.a (Xnv hy) ?_
  conv=>whnf
  refine br.h h (by rfl) ?_ ?_
  ·clear h;intro hb h;conv=>whnf
   exact W
  clear h;intro hb h;conv=>whnf
  cases h;simp only [Sum.elim_inl,Xj4] at hc
  exact Xjj hc [(0,0),(1,1),(2,2),(3,3),(4,14),(5,15)] rfl
 clear h;intro hb h;conv=>whnf
 refine br.h2 h (by rfl) ?_ ?_
 ·clear h;intro hb h;conv=>whnf
  replace h:=Xcm.elim h;obtain ⟨x113,hy,h⟩:=h
  refine XeC.a (Xks hy) ?_
  conv=>whnf
  replace h:=Xcm.elim h;obtain ⟨c7,hy,h⟩:=h
  refine XeC.a (Xrc hy) ?_
  conv=>whnf
  refine br.h h (by rfl) ?_ ?_
  ·clear h;intro hb h;conv=>whnf
   exact W
  clear h;intro hb h;conv=>whnf
  refine br.h h (by rfl) ?_ ?_
  ·clear h;intro hb h;conv=>whnf
   exact W
  clear h;intro hb h;conv=>whnf
  replace h:=Xcm.elim h;obtain ⟨x114,hy,h⟩:=h
  refine XeC.a (Xnv hy) ?_
  conv=>whnf
  refine br.h h (by rfl) ?_ ?_
  ·clear h;intro hb h;conv=>whnf
   exact W
  clear h;intro hb h;conv=>whnf
  cases h;simp only [Sum.elim_inl,Xj4] at hc
  exact Xjj hc [(0,0),(1,1),(2,2),(3,3),(4,4),(5,5)] rfl
 clear h;intro hb h;conv=>whnf
 replace h:=Xcm.elim h;obtain ⟨x110,hy,h⟩:=h
 refine XeC.a (XEt hy) ?_
 conv=>whnf
 replace h:=Xcm.elim h;obtain ⟨x111,hy,h⟩:=h
 refine XeC.a (Xks hy) ?_
 conv=>whnf
 replace h:=Xcm.elim h;obtain ⟨c6,hy,h⟩:=h
 refine XeC.a (Xrc hy) ?_
 conv=>whnf
 refine br.h h (by rfl) ?_ ?_
 ·clear h;intro hb h;conv=>whnf
  exact W
 clear h;intro hb h;conv=>whnf
 refine br.h h (by rfl) ?_ ?_
 ·clear h;intro hb h;conv=>whnf
  exact W
 clear h;intro hb h;conv=>whnf
 replace h:=Xcm.elim h;obtain ⟨x112,hy,h⟩:=h
 refine XeC.a (Xnv hy) ?_
 conv=>whnf
 refine br.h h (by rfl) ?_ ?_
 ·clear h;intro hb h;conv=>whnf
  exact W
 clear h;intro hb h;conv=>whnf
 cases h;simp only [Sum.elim_inl,Xj4] at hc
 exact Xjj hc [(0,0),(1,1),(2,2),(3,3),(4,4),(5,5)] rfl
theorem leads3 (XaI:Xb2) (XaQ:Xb0) (XbL:XcS) (XbN:XcR) (Xbt:Xda) (Xd9:XeG) (Xan:XaD) (Xal:XaC) (Xai:Xay) (XaS:Xbx) (XaE:Xbm) (Xbo:Xcg) (Xa0:Xb7) (Xbi:Xb1) (XaO:XbP) (Xa5:XbM) (XaJ:XbC) (Xa4:XbQ) (XaK:XbB) (hS:Xaq Tryz.prog (XaL (XMv XaI XaQ XbL XbN Xbt Xd9 Xan Xal Xai XaS XaE Xbo Xa0 Xbi XaO Xa5 XaJ Xa4 XaK))) (ida0:Int) (l:List Xcv) (res:Bool) (h:XgN XaI XaQ XbL XbN Xbt Xd9 Xan Xal Xai XaS XaE Xbo Xa0 Xbi XaO Xa5 XaJ Xa4 XaK ida0 l=some res) :
 XaM Tryz.prog 3 1 ⟨⟨3,153,[(0,.int .i64 ida0),(1,.slice (some ⟨0,0,none⟩) l.length 12)],[.code XRM],[],false,none⟩,[],[(0,.row false (vT Xd7 l))],1⟩ (fun v H _=>Res 1 (rx3 res) v H):=by
 unfold XgN at h
 have R1:=@XLR Xbt
 refine Xbp XaP hS true 3000 ?_
 conv=>whnf
 replace h:=Xcm.elim h;obtain ⟨f,hy,h⟩:=h
 refine XeC.a (r6_eq hy) ?_
 conv=>whnf
 refine br.h h (by rfl) ?_ ?_
 ·clear h;intro hb h;conv=>whnf
  exact W
 clear h;intro hb h;conv=>whnf
 refine br.h h (by rfl) ?_ ?_
 ·clear h;intro hb h;conv=>whnf
  refine br.pos ?_ ?_;(focus (clear h;first|assumption|(simp_all;done)))
  conv=>whnf
  have hl:=XzT XaI XaQ XbL XbN Xbt Xd9 Xan Xal Xai XaS XaE Xbo Xa0 Xbi XaO Xa5 XaJ Xa4 XaK hS _ res _ _ _ h rfl;simp only [Xqa] at hl
  exact Xjj hl [(0,0)] rfl
 clear h;intro hb h;conv=>whnf
 refine br.h h (by rfl) ?_ ?_
 ·clear h;intro hb h;conv=>whnf
  refine br.neg ?_ ?_;(focus (clear h;first|assumption|(simp_all;done)))
  conv=>whnf
  refine br.pos ?_ ?_;(focus (clear h;first|assumption|(simp_all;done)))
  conv=>whnf
  have hl:=XzT XaI XaQ XbL XbN Xbt Xd9 Xan Xal Xai XaS XaE Xbo Xa0 Xbi XaO Xa5 XaJ Xa4 XaK hS _ res _ _ _ h rfl;simp only [Xqa] at hl
  exact Xjj hl [(0,0)] rfl
 clear h;intro hb h;conv=>whnf
 refine br.neg ?_ ?_;(focus (clear h;first|assumption|(simp_all;done)))
 conv=>whnf
 refine br.neg ?_ ?_;(focus (clear h;first|assumption|(simp_all;done)))
 conv=>whnf
 have hl:=XIH XaI XaQ XbL XbN Xbt Xd9 Xan Xal Xai XaS XaE Xbo Xa0 Xbi XaO Xa5 XaJ Xa4 XaK hS _ res _ _ _ h rfl;simp only [Xj4] at hl
 refine XaM.nilC 3 2 9 ?_
 refine XaM.nilC 3 3 1 ?_
 exact Xjj hl [(0,0),(1,1),(2,2),(3,3),(4,4),(5,5)] rfl
def Xlp:XhE:=XgN XaI XaQ XbL XbN Xbt Xd9 Xan Xal Xai XaS XaE Xbo Xa0 Xbi XaO Xa5 XaJ Xa4 XaK
end Go.Vm.Code
namespace Go.Vm.Code
open Go Go.Vm
theorem XrY:Xbt=some true:=by decide +kernel
theorem few37 (l:List Xcv):Xd9 l=some (decide (l.length≤40)&&(l.take 40).all fun e=>decide (e.S.length≤300)):=by
 unfold Xd9 XlL
 refine XBD l (fun e=>e.S.length) 40 300 (by decide) _ fun i=>?_
 unfold Xit
 by_cases c:i<l.length
 ·rw [dif_pos c,XaZ (by omega)]
  by_cases c2:i<40
  ·rw [if_pos c2,XaZ (by omega),XaH (by omega),Int.toNat_natCast,List.getElem?_eq_getElem c,Option.bind_some,Xdb (by omega) (by omega)]
   by_cases c3:300<(l[i]).S.length
   ·rw [XaZ (by omega),if_pos c3]
   ·rw [XaR (by omega),if_neg c3];rfl
  ·rw [if_neg c2,XaR (by omega)]
   congr 3;exact propext (by omega)
 ·rw [dif_neg c,XaR (by omega)]
  congr 3;exact propext (by omega)
theorem Xtt (s:List UInt8):0≤(Xhx s).1.Cookie∧(Xhx s).1.Cookie<2^64:=by
 have v8:Xed ((s.drop 10).take 8)<2^64:=Xdk _ (by decide)
 unfold Xhx
 repeat' split
 all_goals simp only [Xl9]
 all_goals omega
theorem XCl {m l:List Xah} (h:XkO m l) {i k:Int} (hk:0≤k∧k<4294967296) {s:List UInt8} (hs:s.length<900) :
 ∃ l',XbN (Xll i k l) s=some ((XoC i k m s).1,(XoC i k m s).2.1,Xll i k l')∧XkO (XoC i k m s).2.2 l':=by
 have hl:=Xtw s
 have hc:=Xtt s
 have hm:=h.max
 have hll:=h.len
 unfold XbN Xij XoC
 rw [Xze (by omega),Option.bind_some]
 generalize Xhx s=g at *
 have eid:(Xll i k l).ID=i:=rfl
 by_cases h1:g.2.2≠0
 ·rw [nz h1,cond_true,if_pos h1];exact ⟨l,rfl,h⟩
 rw [ez h1,cond_false,if_neg h1,eid]
 by_cases h2:g.1.Backend≠i
 ·rw [show (g.1.Backend !=i)=true from bne_iff_ne.2 h2,cond_true,if_pos h2];exact ⟨l,rfl,h⟩
 rw [show (g.1.Backend !=i)=false by simpa using h2,cond_false,if_neg h2,XkV (by omega),Option.bind_some]
 simp only []
 by_cases h3:(Xav g.2.1).2.2.2≠0
 ·rw [nz h3,cond_true,if_pos h3];exact ⟨l,rfl,h⟩
 have h0:(Xav g.2.1).2.2.2=0:=by simpa using h3
 rw [ez h3,cond_false,if_neg h3,XHq (by omega),Option.bind_some]
 have ans:∀ (r:XaU),r.Clock=k→(cond ((Xav g.2.1).1.Tuple.Proto !=6) (some (g.2.1,(0:Int),r)) (cond (!(Xav g.2.1).1.Stamped) (some (g.2.1,0,r)) ((Xji g.2.1 k).bind fun i=>some (i.1,i.2,r)))) =
  some (if (Xav g.2.1).1.Stamped=true then ((Xun g.2.1 k).1,(Xun g.2.1 k).2,r) else (g.2.1,0,r)):=fun r hr=>by
  cases h5:(Xav g.2.1).1.Stamped
  ·rw [if_neg (by decide)]
   cases ((Xav g.2.1).1.Tuple.Proto !=6)<;>rfl
  ·have h6:=Xkb h0 h5
   rw [if_pos rfl,show ((Xav g.2.1).1.Tuple.Proto !=6)=false by simpa using h6,cond_false,Bool.not_true,cond_false,XTC (by omega) hk,Option.bind_some]
 generalize ht:(Xav g.2.1).1.Tuple=t at *
 have fin:∀ (m' l':List Xah),XkO m' l'→∃ l'',some (if (Xav g.2.1).1.Stamped=true then ((Xun g.2.1 k).1,(Xun g.2.1 k).2,Xll i k l') else (g.2.1,0,Xll i k l')) =
  some ((if (Xav g.2.1).1.Stamped=true then ((Xun g.2.1 k).1,(Xun g.2.1 k).2,m') else (g.2.1,0,m')).1,(if (Xav g.2.1).1.Stamped=true then ((Xun g.2.1 k).1,(Xun g.2.1 k).2,m') else (g.2.1,0,m')).2.1,Xll i k l'') ∧
  XkO (if (Xav g.2.1).1.Stamped=true then ((Xun g.2.1 k).1,(Xun g.2.1 k).2,m') else (g.2.1,0,m')).2.2 l'':=fun m' l' hr=>by
  cases (Xav g.2.1).1.Stamped
  ·exact ⟨l',rfl,hr⟩
  ·exact ⟨l',rfl,hr⟩
 have hfil:(Xfr t l).length≤l.length:=List.length_filter_le _ _
 have app:∀ c:Int,(XaU.mk (Xll i k (Xfr t l)).ID (Xll i k (Xfr t l)).Clock ((Xll i k (Xfr t l)).Flows++[t]) ((Xll i k (Xfr t l)).Cookies++[c]))=Xll i k (Xfr t l++[⟨t,c⟩]):=fun c=>by
  unfold Xll;rw [XyA,XNS];rfl
 have ef:((Xll i k l).Flows.length:Int)=(l.length:Int):=by show ((Xey l).length:Int)=_;rw [Xs3]
 have o1:((Xll i k (Xfr t l)).Flows.length+1)*72≤2^47:=by show ((Xey _).length+1)*72≤_;rw [Xs3];omega
 have o2:((Xll i k (Xfr t l)).Cookies.length+1)*8≤2^47:=by show ((XsU _).length+1)*8≤_;rw [XAS];omega
 rcases XpA (t:=t) (l:=l) (i:=0) with ⟨a1,a2⟩|⟨n,hn,a1,a2,a3⟩
 ·have hnm:t ∉ Xey m:=fun hh=>a2 ((h.mem t).1 hh)
  rw [a1,XaZ (by omega),ef]
  by_cases c64:m.length=64
  ·have hkp:Xiw m t g.1=(9,m):=by unfold Xiw;rw [if_neg (by rw [XiU];exact hnm),if_pos c64]
   rw [XaZ (by omega),hkp,if_pos (by simp)];exact ⟨l,rfl,h⟩
  ·have hkp:Xiw m t g.1=(0,Xbl t g.1.Cookie m):=by unfold Xiw;rw [if_neg (by rw [XiU];exact hnm),if_neg c64]
   rw [XaR (by omega),Xn5 (by omega),Option.bind_some]
   simp only []
   rw [XaH o1,XaH o2,app,show (Xll i k (Xfr t l)).Clock=k from rfl,ans _ rfl,hkp]
   simp only [ne_eq,not_true_eq_false,if_false]
   exact fin _ _ (h.put hc (.inr (by omega)))
 ·have hmm:t∈Xey m:=(h.mem t).2 a2
  rw [a1,XaR (by omega)]
  cases hf:g.1.First
  ·have hkp:Xiw m t g.1=(0,m):=by unfold Xiw;rw [if_pos (XiU.2 hmm),if_neg (by simp [hf])]
   rw [cond_false,hkp,show (Xll i k l).Clock=k from rfl,ans _ rfl]
   simp only [ne_eq,not_true_eq_false,if_false]
   exact fin _ _ h
  ·have hkp:Xiw m t g.1=(0,Xbl t g.1.Cookie m):=by unfold Xiw;rw [if_pos (XiU.2 hmm),if_pos hf]
   rw [cond_true,Xn5 (by omega),Option.bind_some]
   simp only []
   rw [XaH o1,XaH o2,app,show (Xll i k (Xfr t l)).Clock=k from rfl,ans _ rfl,hkp]
   simp only [ne_eq,not_true_eq_false,if_false]
   exact fin _ _ (h.put hc (.inl hmm))
theorem XCZ {m l:List Xah} (h:XkO m l) {i k:Int} {s:List UInt8} (hs:s.length<900):XbL (Xll i k l) s=some (XtQ m s):=by
 have hm:=h.max
 have hll:=h.len
 unfold XbL Xik XtQ
 rw [XkV (by omega),Option.bind_some]
 simp only []
 by_cases h3:(Xav s).2.2.2≠0
 ·rw [nz h3,cond_true,if_pos h3]
 have h0:(Xav s).2.2.2=0:=by simpa using h3
 rw [ez h3,cond_false,if_neg h3,(Xua _).2,Option.bind_some,Xra (by omega),Option.bind_some,←h.get,←h.has]
 simp only []
 have hv:=h.rng (XkF (Xav s).1.Tuple)
 cases h4:Xa6 (XkF (Xav s).1.Tuple) m
 ·rfl
 rw [Bool.not_true,cond_false,if_neg (by decide)]
 generalize Xaz 0 (XkF (Xav s).1.Tuple) m=v at *
 have nm:((XfM s v).bind fun n=>cond (n.2 !=0) (some (s,(0:Int))) (some (n.1,0)))=some (if (name36 s v).2=0 then ((name36 s v).1,0) else (s,0)):=by
  rw [XBK hs hv.1 hv.2,Option.bind_some]
  by_cases h6:(name36 s v).2=0
  ·rw [show ((name36 s v).2 !=0)=false by simpa using h6,cond_false,if_pos h6]
  ·rw [nz h6,cond_true,if_neg h6]
 cases h5:(Xav s).1.Stamped
 ·rw [if_neg (by decide)]
  rw [←nm]
  cases ((Xav s).1.Tuple.Proto==6)<;>rfl
 ·have h6:=Xkb h0 h5
  rw [if_pos rfl,show ((Xav s).1.Tuple.Proto==6)=true by simpa using h6,cond_true,cond_true,Int.tmod_eq_emod_of_nonneg hv.1,wU16 (n:=v%65536) (by omega) (by omega),XNk hs (by omega),Option.bind_some]
theorem XJu (u:Xag):0≤Xaz 0 u []∧Xaz 0 u []<2^64:=by
 have e:Xaz 0 u []=0:=rfl
 rw [e];omega
theorem XKu {l:List Xcv} (hl:l.length≤40) (hs:∀ e∈l,e.S.length≤300) (hck:∀ e∈l,0≤e.Clock∧e.Clock<4294967296) {id:Int} :
 iter (fun st=>Xeo XaI XaQ XbL XbN Xbt Xai XaE Xa0 XaO XaJ XaK l st.1 st.2.1 st.2.2.1 st.2.2.2.1 st.2.2.2.2.1 st.2.2.2.2.2.1 st.2.2.2.2.2.2.1 st.2.2.2.2.2.2.2) FUEL (0,([]:List Xah),id,0,id,0,[],[])=some true:=by
 refine iter_eq (fun _=>true) (fun st:Int×List Xah×Int×Int×Int×Int×List Xag×List Int=>∃ (i:Nat) (m r:List Xah) (k:Int),i≤l.length∧XkO m r∧(0≤k∧k<4294967296)∧st=((i:Int),m,id,k,id,k,Xey r,XsU r)) (fun st=>l.length+1 - st.1.toNat) ?_ FUEL _
  ⟨0,[],[],0,by omega,⟨by simp [Xey],by simp [Xey],fun _=>Iff.rfl,fun _=>rfl,rfl,by simp,fun u=>XJu u⟩,by omega,rfl⟩ (by rw [Xfm];simp only [];omega)
 rintro st ⟨i,m,r,k,hi,hr,hk,rfl⟩
 simp only []
 unfold Xeo
 by_cases c:i<l.length
 ·have ho:∀ {α:Type} (z:Option α),Xbr (decide ((0:Int)≤(i:Int)∧(i:Int)<(l.length:Int))) z=z:=fun z=>XaH (by omega)
  have hS:=hs _ (List.getElem_mem c)
  have hC:=hck _ (List.getElem_mem c)
  have hw:wI .i64 ((i:Int)+1)=((i+1:Nat):Int):=by rw [Xdb (by omega) (by omega)];rfl
  have done:∀ m r k,XkO m r→(0≤k∧k<4294967296)→∃ st',some (.inl (((i+1:Nat):Int),m,id,k,id,k,Xey r,XsU r):Sum (Int×List Xah×Int×Int×Int×Int×List Xag×List Int) Bool)=some (.inl st')∧(∃ (i:Nat) (m r:List Xah) (k:Int),i≤l.length∧XkO m r∧(0≤k∧k<4294967296)∧st'=((i:Int),m,id,k,id,k,Xey r,XsU r))∧l.length+1 - st'.1.toNat<l.length+1 - i∧True:=fun m r k hm hk=>
   ⟨_,rfl,⟨i+1,m,r,k,by omega,hm,hk,rfl⟩,by simp only [];omega,trivial⟩
  have ers:∀ k r,XaU.mk id k (Xey r) (XsU r)=Xll id k r:=fun _ _=>rfl
  have ck:∀ {m r} (h:XkO m r) (k:Int) (t:Xag),XaI (Xll id k r) t=some (Xaz 0 t m,Xa6 t m):=fun {m r} h k t=>by
   have:=h.max;have:=h.len
   rw [Xra (by omega),h.get,h.has]
  have ln:∀ {m r:List Xah} (h:XkO m r),((m.length:Int) !=((Xey r).length:Int))=false:=fun {m r} h=>by
   rw [Xs3,h.len];exact bne_self_eq_false _
  rw [XaZ (by omega)]
  simp only [ho,Int.toNat_natCast,List.getElem?_eq_getElem c,Option.bind_some,hw]
  generalize l[i]=e at hS hC
  refine .inr ?_
  by_cases k0:e.Kind=0
  ·obtain ⟨r',q1,q2⟩:=XCl hr hk (i:=id) (s:=e.S) (by omega)
   rw [show (e.Kind==0)=true by simp [k0],cond_true,XAx (by omega),Option.bind_some,ers,q1,Option.bind_some]
   simp only [beq_self_eq_true,Bool.not_true,cond_false,bne_self_eq_false,XgZ,ck q2,Option.bind_some,XmL]
   rw [show (Xll id k r').Flows=Xey r' from rfl,ln q2,cond_false]
   exact done _ _ _ q2 hk
  rw [show (e.Kind==0)=false by simp [k0],cond_false]
  by_cases k1:e.Kind=1
  ·rw [show (e.Kind==1)=true by simp [k1],cond_true,Xy9 (by omega) (fun t=>(hr.rng t).1),Option.bind_some,ers,XCZ hr (by omega),Option.bind_some]
   simp only [beq_self_eq_true,Bool.not_true,cond_false,bne_self_eq_false,XgZ,ck hr,Option.bind_some,XmL]
   rw [ln hr,cond_false]
   exact done _ _ _ hr hk
  rw [show (e.Kind==1)=false by simp [k1],cond_false]
  by_cases k2:e.Kind=2
  ·have hd:=hr.del e.T
   have:=hr.max;have:=hr.len
   rw [show (e.Kind==2)=true by simp [k2],cond_true,Xvd hr.nm,Option.bind_some,ers,Xn5 (by omega),Option.bind_some]
   simp only [hr.has,beq_self_eq_true,Bool.not_true,cond_false,bne_self_eq_false,XgZ,ck hd,Option.bind_some,XmL]
   rw [show (Xll id k (Xfr e.T r)).Flows=Xey (Xfr e.T r) from rfl,ln hd,cond_false]
   exact done _ _ _ hd hk
  rw [show (e.Kind==2)=false by simp [k2],cond_false]
  by_cases k3:e.Kind=3
  ·rw [show (e.Kind==3)=true by simp [k3],cond_true,XKB,Option.bind_some]
   simp only [ers,XgZ,ck hr,Option.bind_some,beq_self_eq_true,Bool.not_true,cond_false,bne_self_eq_false,XmL]
   rw [ln hr,cond_false]
   exact done _ _ _ hr hC
  ·rw [show (e.Kind==3)=false by simp [k3],cond_false]
   simp only [ers,XgZ,ck hr,Option.bind_some,beq_self_eq_true,Bool.not_true,cond_false,bne_self_eq_false,XmL]
   rw [ln hr,cond_false]
   exact done _ _ _ hr hk
 ·refine .inl ?_
  rw [XaR (by omega),XrY];rfl
theorem shimPlays (id:Int) (l:List Xcv) (hck:∀ e∈l,0≤e.Clock∧e.Clock<4294967296):Xlp id l=some true:=by
 unfold Xlp XgN
 rw [few37,Option.bind_some,XrY]
 cases hf:(decide (l.length≤40)&&(l.take 40).all fun e=>decide (e.S.length≤300))
 ·rfl
 rw [Bool.and_eq_true,decide_eq_true_eq] at hf
 have hs:∀ e∈l,e.S.length≤300:=fun e he=>by
  have:=List.all_eq_true.1 hf.2 e (by rw [List.take_of_length_le hf.1];exact he)
  simpa using this
 have one:iter (fun _=>XdP (some true) l) FUEL ()=some true:=by
  refine iter_eq (fun _=>true) (fun _=>True) (fun _=>0) (fun _ _=>.inl ?_) FUEL () trivial (by rw [Xfm];omega)
  unfold XdP
  cases decide (0<(l.length:Int))<;>rfl
 have main:=XKu hf.1 hs hck (id:=id)
 rw [XrY] at main
 rw [Bool.not_true,cond_false,one]
 by_cases c1:id<1
 ·rw [XaZ c1]
 rw [XaR c1]
 by_cases c2:id>65535
 ·rw [XaZ c2]
 rw [XaR c2]
 exact main
end Go.Vm.Code
