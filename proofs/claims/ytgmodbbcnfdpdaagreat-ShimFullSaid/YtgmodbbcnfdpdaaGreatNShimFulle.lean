import Derived.Test.YtgmodbbcnfdpdaaGreatNShimFulld
namespace Go.Vm.Code
open Go Go.Vm Go.Proofs
set_option maxRecDepth 100000
set_option maxHeartbeats 4000000
set_option linter.unusedVariables false
def Xmt (Xbh:Xcz) (a:Xag):Option Bool:=
 (Xbh a).bind fun xr=>
 cond (xr)
  (
  some (!a.V6))
  (
  some (false))
def XDL (x:Bool):Xc4:=⟨.bool x,[],[]⟩
abbrev Xf6:=Xag→Option Bool
def r126 (g:Xf6):Dec:=dV Xc2 fun (y0:Xag)=>XdY (ofG (g y0) XDL)
theorem XT7 {g:Xf6} {y0:Xag} {x:Bool} (hx:g y0=some x):r126 g [.agg ⟨[.bool y0.V6,.int .u64 y0.Hi,.int .u64 y0.Lo]⟩] []=some (XDL x):=(Xbb (XcM _)).trans (Xbc hx)
def s126 (g:Xf6):Xb3:=⟨[.v],r126 g⟩
theorem XKS {g:Xf6} {y0:Xag} {x:Bool} (hx:g y0=some x):(s126 g).run [.agg ⟨[.bool y0.V6,.int .u64 y0.Hi,.int .u64 y0.Lo]⟩] []=some (XDL x):=XT7 hx
abbrev XMl (Xbh:Xcz):List (Nat×Xb3):=[(42,s42 Xbh)]
theorem XEO (Xbh:Xcz) (hS:Xar Tryz.prog (XaI (XMl Xbh))) (a:Xag) (res:Bool) (h:Xmt Xbh a=some res) :
 XaO Tryz.prog 126 0 ⟨⟨126,10,[(0,.agg ⟨[.bool a.V6,.int .u64 a.Hi,.int .u64 a.Lo]⟩)],[.code XHa],[],false,none⟩,[],[],0⟩ (fun v H _=>Res 0 (XDL res) v H):=by
 unfold Xmt at h
 have R1:=@Xu7 Xbh
 refine XbD XaQ hS true 3000 ?_
 conv=>whnf
 exact W
def XfX:Xf6:=Xmt Xbh
theorem XLw:Xb8 Tryz.prog 126 (s126 XfX):=by
 have hL:=XEO Xbh (Xar.Xa6 ⟨Xvk,trivial⟩)
 exact okA ⟨Tryz.f126,rfl,by decide,rfl⟩
def Xlr (XfX:Xf6) (Xix:Xih) (ha0:XaD):Option Bool:=
 (Xix ha0.Class 255).bind fun i=>
 cond (i)
  (
  (Xix ha0.Mark 65535).bind fun i1=>
  cond (i1)
   (
   (Xix ha0.TTL 255).bind fun i2=>
   cond (i2)
    (
    (Xix ha0.Proto 255).bind fun i3=>
    cond (i3)
     (
     (XfX ha0.Src).bind fun f=>
     cond (f)
      (
      (XfX ha0.Dst).bind fun f1=>
      cond (f1)
       (
       cond (decide ((ha0.Options.length:Int)≤40))
        (
        some (((ha0.Options.length:Int).tmod 4)==0))
        (
        some (false)))
       (
       some (false)))
      (
      some (false)))
     (
     some (false)))
    (
    some (false)))
   (
   some (false)))
  (
  some (false))
def XDH (x:Bool):Xc4:=⟨.bool x,[],[]⟩
abbrev Xfx:=XaD→Option Bool
def r109 (g:Xfx):Dec:=dV Xht fun (y0:XaD)=>XdY (ofG (g y0) XDH)
theorem XN3 {g:Xfx} {y0:XaD} {x:Bool} (hx:g y0=some x):r109 g [.agg ⟨[.int .i64 y0.Class,.int .i64 y0.Mark,.bool y0.Whole,.int .i64 y0.TTL,.int .i64 y0.Proto,.bool y0.Src.V6,.int .u64 y0.Src.Hi,.int .u64 y0.Src.Lo,.bool y0.Dst.V6,.int .u64 y0.Dst.Hi,.int .u64 y0.Dst.Lo,.string ⟨⟨y0.Options⟩⟩]⟩] []=some (XDH x):=(Xbb (XkK _)).trans (Xbc hx)
def s109 (g:Xfx):Xb3:=⟨[.v],r109 g⟩
theorem XKa {g:Xfx} {y0:XaD} {x:Bool} (hx:g y0=some x):(s109 g).run [.agg ⟨[.int .i64 y0.Class,.int .i64 y0.Mark,.bool y0.Whole,.int .i64 y0.TTL,.int .i64 y0.Proto,.bool y0.Src.V6,.int .u64 y0.Src.Hi,.int .u64 y0.Src.Lo,.bool y0.Dst.V6,.int .u64 y0.Dst.Hi,.int .u64 y0.Dst.Lo,.string ⟨⟨y0.Options⟩⟩]⟩] []=some (XDH x):=XN3 hx
abbrev XJO (XfX:Xf6) (Xix:Xih):List (Nat×Xb3):=[(126,s126 XfX),(125,s125 Xix)]
theorem XDs (XfX:Xf6) (Xix:Xih) (hS:Xar Tryz.prog (XaI (XJO XfX Xix))) (ha0:XaD) (res:Bool) (h:Xlr XfX Xix ha0=some res) :
 XaO Tryz.prog 109 0 ⟨⟨109,44,[(0,.agg ⟨[.int .i64 ha0.Class,.int .i64 ha0.Mark,.bool ha0.Whole,.int .i64 ha0.TTL,.int .i64 ha0.Proto,.bool ha0.Src.V6,.int .u64 ha0.Src.Hi,.int .u64 ha0.Src.Lo,.bool ha0.Dst.V6,.int .u64 ha0.Dst.Hi,.int .u64 ha0.Dst.Lo,.string ⟨⟨ha0.Options⟩⟩]⟩)],[.code XFN],[],false,none⟩,[],[],0⟩ (fun v H _=>Res 0 (XDH res) v H):=by
 unfold Xlr at h
 have R1:=@XJ7 Xix
 have R2:=@XKS XfX
 refine XbD XaQ hS true 3000 ?_
 conv=>whnf
 exact W
def Xe6:Xfx:=Xlr XfX Xix
theorem XIv:Xb8 Tryz.prog 109 (s109 Xe6):=by
 have hL:=XDs XfX Xix (Xar.Xa6 ⟨XLw,XH9,trivial⟩)
 exact okA ⟨Tryz.f109,rfl,by decide,rfl⟩
def XoB (Xdw:XeP) (Xcx:Xd2) (Xco:Xd1) (Xe6:Xfx) (Xcb:Xfe) (ha0:XaD) (payload:List UInt8):Option ((List UInt8)×Int):=
 (Xe6 ha0).bind fun xr=>
 cond (!xr)
  (
  some (([],1)))
  (
  let t:=wI .i64 (20+(ha0.Options.length:Int))
  let t1:=decide ((payload.length:Int)>(wI .i64 (65535 - t)))
  cond (t1)
   (
   some (([],5)))
   (
   cond (ha0.Whole)
    (
    (Xcb (wI .i64 (64+(wI .i64 (t.tdiv 4)))) 1).bind fun n=>
    (Xcb ha0.Class 1).bind fun n1=>
    XbU (decide (n.length+n1.length<2^63)) <|
    (Xcb (wI .i64 (t+(payload.length:Int))) 2).bind fun n2=>
    XbU (decide ((n++n1).length+n2.length<2^63)) <|
    (Xcb ha0.Mark 2).bind fun n3=>
    XbU (decide (((n++n1)++n2).length+n3.length<2^63)) <|
    (Xcb 64 1).bind fun n4=>
    XbU (decide ((((n++n1)++n2)++n3).length+n4.length<2^63)) <|
    (Xcb 0 1).bind fun n5=>
    XbU (decide (((((n++n1)++n2)++n3)++n4).length+n5.length<2^63)) <|
    (Xcb ha0.TTL 1).bind fun n6=>
    XbU (decide ((((((n++n1)++n2)++n3)++n4)++n5).length+n6.length<2^63)) <|
    let t2:=(((((n++n1)++n2)++n3)++n4)++n5)++n6
    (Xcb ha0.Proto 1).bind fun n7=>
    XbU (decide (t2.length+n7.length<2^63)) <|
    (Xcb 0 2).bind fun n8=>
    XbU (decide ((t2++n7).length+n8.length<2^63)) <|
    (Xco ha0.Src).bind fun p=>
    XbU (decide (((t2++n7)++n8).length+p.length<2^63)) <|
    (Xco ha0.Dst).bind fun p1=>
    XbU (decide ((((t2++n7)++n8)++p).length+p1.length<2^63)) <|
    XbU (decide (((((t2++n7)++n8)++p)++p1).length+ha0.Options.length<2^63)) <|
    let t3:=((((t2++n7)++n8)++p)++p1)++ha0.Options
    (Xdw t3).bind fun xo=>
    (Xcx t3 10 2 (wI .u64 xo)).bind fun s=>
    XbU (decide (s.length+payload.length<2^63)) <|
    some ((s++payload,0)))
    (
    (Xcb (wI .i64 (64+(wI .i64 (t.tdiv 4)))) 1).bind fun n9=>
    (Xcb ha0.Class 1).bind fun n10=>
    XbU (decide (n9.length+n10.length<2^63)) <|
    (Xcb (wI .i64 (t+(payload.length:Int))) 2).bind fun n11=>
    XbU (decide ((n9++n10).length+n11.length<2^63)) <|
    (Xcb ha0.Mark 2).bind fun n12=>
    XbU (decide (((n9++n10)++n11).length+n12.length<2^63)) <|
    (Xcb 0 1).bind fun n13=>
    XbU (decide ((((n9++n10)++n11)++n12).length+n13.length<2^63)) <|
    (Xcb 0 1).bind fun n14=>
    XbU (decide (((((n9++n10)++n11)++n12)++n13).length+n14.length<2^63)) <|
    let t4:=((((n9++n10)++n11)++n12)++n13)++n14
    (Xcb ha0.TTL 1).bind fun n15=>
    XbU (decide (t4.length+n15.length<2^63)) <|
    (Xcb ha0.Proto 1).bind fun n16=>
    XbU (decide ((t4++n15).length+n16.length<2^63)) <|
    (Xcb 0 2).bind fun n17=>
    XbU (decide (((t4++n15)++n16).length+n17.length<2^63)) <|
    (Xco ha0.Src).bind fun p2=>
    XbU (decide ((((t4++n15)++n16)++n17).length+p2.length<2^63)) <|
    (Xco ha0.Dst).bind fun p3=>
    XbU (decide (((((t4++n15)++n16)++n17)++p2).length+p3.length<2^63)) <|
    let t5:=((((t4++n15)++n16)++n17)++p2)++p3
    XbU (decide (t5.length+ha0.Options.length<2^63)) <|
    (Xdw (t5++ha0.Options)).bind fun xo1=>
    (Xcx (t5++ha0.Options) 10 2 (wI .u64 xo1)).bind fun s1=>
    XbU (decide (s1.length+payload.length<2^63)) <|
    some ((s1++payload,0)))))
def rx80 (x:(List UInt8)×Int):Xc4:=⟨.tuple ⟨[.string ⟨⟨x.1⟩⟩,.int .i64 x.2]⟩,[],[]⟩
abbrev Xhf:=XaD→(List UInt8)→Option ((List UInt8)×Int)
def r80 (g:Xhf):Dec:=dV Xht fun (y0:XaD)=>dV asS fun (y1:List UInt8)=>XdY (ofG (g y0 y1) rx80)
theorem r80_c {g:Xhf} {y0:XaD} {y1:List UInt8} {x:(List UInt8)×Int} (hx:g y0 y1=some x):r80 g [.agg ⟨[.int .i64 y0.Class,.int .i64 y0.Mark,.bool y0.Whole,.int .i64 y0.TTL,.int .i64 y0.Proto,.bool y0.Src.V6,.int .u64 y0.Src.Hi,.int .u64 y0.Src.Lo,.bool y0.Dst.V6,.int .u64 y0.Dst.Hi,.int .u64 y0.Dst.Lo,.string ⟨⟨y0.Options⟩⟩]⟩,.string ⟨⟨y1⟩⟩] []=some (rx80 x):=(Xbb (XkK _)).trans ((Xbb (Xeb)).trans (Xbc hx))
def s80 (g:Xhf):Xb3:=⟨[.v,.v],r80 g⟩
theorem XNy {g:Xhf} {y0:XaD} {y1:List UInt8} {x:(List UInt8)×Int} (hx:g y0 y1=some x):(s80 g).run [.agg ⟨[.int .i64 y0.Class,.int .i64 y0.Mark,.bool y0.Whole,.int .i64 y0.TTL,.int .i64 y0.Proto,.bool y0.Src.V6,.int .u64 y0.Src.Hi,.int .u64 y0.Src.Lo,.bool y0.Dst.V6,.int .u64 y0.Dst.Hi,.int .u64 y0.Dst.Lo,.string ⟨⟨y0.Options⟩⟩]⟩,.string ⟨⟨y1⟩⟩] []=some (rx80 x):=r80_c hx
abbrev XSl (Xdw:XeP) (Xcx:Xd2) (Xco:Xd1) (Xe6:Xfx) (Xcb:Xfe):List (Nat×Xb3):=[(48,s48 Xdw),(47,s47 Xcx),(104,XUg Xco),(109,s109 Xe6),(105,s105 Xcb)]
theorem XJn (Xdw:XeP) (Xcx:Xd2) (Xco:Xd1) (Xe6:Xfx) (Xcb:Xfe) (hS:Xar Tryz.prog (XaI (XSl Xdw Xcx Xco Xe6 Xcb))) (ha0:XaD) (payload:List UInt8) (res:(List UInt8)×Int) (h:XoB Xdw Xcx Xco Xe6 Xcb ha0 payload=some res) :
 XaO Tryz.prog 80 0 ⟨⟨80,74,[(0,.agg ⟨[.int .i64 ha0.Class,.int .i64 ha0.Mark,.bool ha0.Whole,.int .i64 ha0.TTL,.int .i64 ha0.Proto,.bool ha0.Src.V6,.int .u64 ha0.Src.Hi,.int .u64 ha0.Src.Lo,.bool ha0.Dst.V6,.int .u64 ha0.Dst.Hi,.int .u64 ha0.Dst.Lo,.string ⟨⟨ha0.Options⟩⟩]⟩),(1,.string ⟨⟨payload⟩⟩)],[.code XG9],[],false,none⟩,[],[],0⟩ (fun v H _=>Res 0 (rx80 res) v H):=by
 unfold XoB at h
 have R1:=@XKa Xe6
 have R2:=@XxA Xcb
 have R3:=@XtQ Xco
 have R4:=@Xzx Xdw
 have R5:=@XzA Xcx
 refine XbD XaQ hS true 3000 ?_
 conv=>whnf
 exact W
def Xhr:Xhf:=XoB Xdw Xcx Xco Xe6 Xcb
theorem XSx:Xb8 Tryz.prog 80 (s80 Xhr):=by
 have hL:=XJn Xdw Xcx Xco Xe6 Xcb (Xar.Xa6 ⟨Xxs,Xxb,XtD,XIv,Xxg,trivial⟩)
 exact okA ⟨Tryz.f80,rfl,by decide,rfl⟩
end Go.Vm.Code
namespace Go.Vm.Code
open Go Go.Vm
theorem XO9 (n m:Int):Xix n m=some (inR n m):=by
 unfold Xix XrO inR
 by_cases h:0≤n
 ·rw [XbB (by omega)];simp [h]
 ·rw [Xbd (by omega)];simp [h]
def four (a:Xag):Bool:=!a.V6&&aok a
theorem XEb (a:Xag):XfX a=some (four a):=by
 unfold XfX Xmt four
 rw [XiO];cases aok a<;>cases a.V6<;>rfl
def H5 (h:XaD):Bool:=inR h.Class 255&&inR h.Mark 65535&&inR h.TTL 255&&inR h.Proto 255&&four h.Src&&four h.Dst&&decide (h.Options.length%4=0)&&decide (h.Options.length≤40)
theorem Xyp (h:XaD):Xe6 h=some (H5 h):=by
 unfold Xe6 Xlr H5
 simp only [XO9,XEb,Option.bind_some,XAJ,XG3]
 cases inR h.Class 255<;>cases inR h.Mark 65535<;>cases inR h.TTL 255<;>cases inR h.Proto 255<;>cases four h.Src<;>cases four h.Dst<;>cases decide (h.Options.length%4=0)<;>cases decide (h.Options.length≤40)<;>rfl
def hd5 (h:XaD) (n:Int):List UInt8:=
 XeA (64+((20+h.Options.length)/4:Nat)) 1++XeA h.Class 1++XeA n 2++XeA h.Mark 2++XeA (cond h.Whole 64 0) 1++XeA 0 1++XeA h.TTL 1++XeA h.Proto 1++XeA 0 2++Xga h.Src++Xga h.Dst++h.Options
theorem Xya (h:XaD) (n:Int):(hd5 h n).length≤104+h.Options.length:=by
 have a1:=XbO (64+((20+h.Options.length)/4:Nat)) 1
 have a2:=XbO h.Class 1
 have a3:=XbO n 2
 have a4:=XbO h.Mark 2
 have a5:=XbO (cond h.Whole 64 0) 1
 have a6:=XbO 0 1
 have a7:=XbO h.TTL 1
 have a8:=XbO h.Proto 1
 have a9:=XbO 0 2
 have b1:(Xga h.Src).length≤16:=by rw [XeG];cases h.Src.V6<;>decide
 have b2:(Xga h.Dst).length≤16:=by rw [XeG];cases h.Dst.V6<;>decide
 unfold hd5
 simp only [List.length_append];omega
def XTB (h:XaD) (l:List UInt8):List UInt8×Int:=
 if H5 h=false then ([],1) else if 65535 - (20+(h.Options.length:Int))<l.length then ([],5) else
  (Xwd (hd5 h (20+h.Options.length+l.length)) 10 2 (65535 - (norm (Xdp (hd5 h (20+h.Options.length+l.length))):Nat))++l,0)
theorem XuO (s:List UInt8) (p k n:Int):(Xwd s p k n).length≤s.length+8:=by
 unfold Xwd
 split
 ·simp;omega
 ·omega
theorem Xsi {t l:List UInt8} (ht:t.length≤2^20) (hl:l.length<2^30):((Xdw t).bind fun xo=>(Xcx t 10 2 (wI .u64 xo)).bind fun s=>XbU (decide (s.length+l.length<2^63)) (some (s++l,(0:Int))))=some (Xwd t 10 2 (65535 - (norm (Xdp t):Nat))++l,0):=by
 have:=norm_le (Xdp t)
 have hs:=XuO t 10 2 (65535 - (norm (Xdp t):Nat))
 rw [Xpb (by omega),Option.bind_some,Xkr (by omega) (by omega),Xnu (by omega) (by omega) (by omega),Option.bind_some,Xa9 (by omega)]
theorem XGS {h:XaD} (hh:H5 h=true):(0≤h.Class∧h.Class≤255)∧(0≤h.Mark∧h.Mark≤65535)∧(0≤h.TTL∧h.TTL≤255)∧(0≤h.Proto∧h.Proto≤255)∧(h.Src.V6=false∧aok h.Src=true)∧(h.Dst.V6=false∧aok h.Dst=true)∧h.Options.length%4=0∧h.Options.length≤40:=by
 unfold H5 four at hh
 simp only [Bool.and_eq_true,XtR,Bool.not_eq_true',decide_eq_true_eq] at hh
 obtain ⟨⟨⟨⟨⟨⟨⟨a,b⟩,c⟩,d⟩,e⟩,f⟩,g⟩,i⟩:=hh
 exact ⟨a,b,c,d,e,f,g,i⟩
theorem XO4 {h:XaD} {l:List UInt8} (h1:A4 h.Src) (h2:A4 h.Dst) (hl:l.length<2^20) (ho:h.Options.length<2^20):Xhr h l=some (XTB h l):=by
 unfold Xhr XoB XTB
 rw [Xyp,Option.bind_some]
 cases hh:H5 h
 ·rfl
 obtain ⟨q1,q2,q3,q4,q5,q6,q7,q8⟩:=XGS hh
 simp only [Bool.not_true,cond_false]
 rw [if_neg (by decide),Xe0 (n:=20+(h.Options.length:Int)) (by omega) (by omega),Xe0 (n:=65535 - (20+(h.Options.length:Int))) (by omega) (by omega)]
 by_cases h5:(l.length:Int)>65535 - (20+(h.Options.length:Int))
 ·rw [XbB h5,if_pos (by omega)]
 rw [Xbd h5,if_neg (by omega)]
 have b1:(Xga h.Src).length≤16:=by rw [XeG];cases h.Src.V6<;>decide
 have b2:(Xga h.Dst).length≤16:=by rw [XeG];cases h.Dst.V6<;>decide
 rw [Xe0 (n:=20+(h.Options.length:Int)+l.length) (by omega) (by omega),tdiv4,Xe0 (n:=(((20+h.Options.length)/4:Nat):Int)) (by omega) (by omega),Xe0 (n:=64+(((20+h.Options.length)/4:Nat):Int)) (by omega) (by omega),Xog h1 q5.2,Xog h2 q6.2]
 simp only [XEd,Option.bind_some]
 rw [Xkr (n:=64+(((20+h.Options.length)/4:Nat):Int)) (by omega) (by omega),Xkr q1.1 (by omega),Xkr (n:=20+(h.Options.length:Int)+l.length) (by omega) (by omega),Xkr q2.1 (by omega),Xkr q3.1 (by omega),Xkr q4.1 (by omega),show wI .u64 0=0 from rfl,show wI .u64 64=64 from rfl]
 have a1:=XbO (64+((20+h.Options.length)/4:Nat)) 1
 have a2:=XbO h.Class 1
 have a3:=XbO (20+(h.Options.length:Int)+l.length) 2
 have a4:=XbO h.Mark 2
 have a5:=XbO 64 1
 have a6:=XbO 0 1
 have a7:=XbO h.TTL 1
 have a8:=XbO h.Proto 1
 have a9:=XbO 0 2
 have hlen:=Xya h (20+h.Options.length+l.length)
 cases hw:h.Whole
 ·rw [cond_false]
  have e:XeA (64+((20+h.Options.length)/4:Nat)) 1++XeA h.Class 1++XeA (20+(h.Options.length:Int)+l.length) 2++XeA h.Mark 2++XeA 0 1++XeA 0 1++XeA h.TTL 1++XeA h.Proto 1++XeA 0 2++Xga h.Src++Xga h.Dst++h.Options=hd5 h (20+h.Options.length+l.length):=by unfold hd5;rw [hw];rfl
  iterate 11 rw [Xa9 (by first|omega|(simp only [List.length_append];omega))]
  rw [e]
  exact Xsi (by omega) (by omega)
 ·rw [cond_true]
  have e:XeA (64+((20+h.Options.length)/4:Nat)) 1++XeA h.Class 1++XeA (20+(h.Options.length:Int)+l.length) 2++XeA h.Mark 2++XeA 64 1++XeA 0 1++XeA h.TTL 1++XeA h.Proto 1++XeA 0 2++Xga h.Src++Xga h.Dst++h.Options=hd5 h (20+h.Options.length+l.length):=by unfold hd5;rw [hw];rfl
  iterate 11 rw [Xa9 (by first|omega|(simp only [List.length_append];omega))]
  rw [e]
  exact Xsi (by omega) (by omega)
theorem XPY {a b n m f g t p c x y r:List UInt8} (ha:a.length=1) (hb:b.length=1) (hn:n.length=2) (hm:m.length=2) (hf:f.length=1) (hg:g.length=1) (ht:t.length=1) (hp:p.length=1) (hc:c.length=2) (hx:x.length=4) (hy:y.length=4) :
 let s:=a++b++n++m++f++g++t++p++c++x++y++r
 (s.drop 0).take 1=a∧(s.drop 1).take 1=b∧(s.drop 2).take 2=n∧(s.drop 4).take 2=m∧(s.drop 6).take 2=f++g∧(s.drop 8).take 1=t∧(s.drop 9).take 1=p∧(s.drop 12).take 4=x∧(s.drop 16).take 4=y∧s.drop 20=r∧s.take 10=a++b++n++m++f++g++t++p∧s.drop 12=x++y++r:=by
 obtain ⟨a1,rfl⟩:=l1 ha
 obtain ⟨b1,rfl⟩:=l1 hb
 obtain ⟨n1,n2,rfl⟩:=l2 hn
 obtain ⟨m1,m2,rfl⟩:=l2 hm
 obtain ⟨f1,rfl⟩:=l1 hf
 obtain ⟨g1,rfl⟩:=l1 hg
 obtain ⟨t1,rfl⟩:=l1 ht
 obtain ⟨p1,rfl⟩:=l1 hp
 obtain ⟨c1,c2,rfl⟩:=l2 hc
 obtain ⟨x1,x2,x3,x4,rfl⟩:=l4 hx
 obtain ⟨y1,y2,y3,y4,rfl⟩:=l4 hy
 exact ⟨rfl,rfl,rfl,rfl,rfl,rfl,rfl,rfl,rfl,rfl,rfl,rfl⟩
def hc5 (h:XaD) (n c:Nat):List UInt8:=
 be (64+(20+h.Options.length)/4) 1++be h.Class.toNat 1++be n 2++be h.Mark.toNat 2++be (cond h.Whole 64 0) 1++be 0 1++be h.TTL.toNat 1++be h.Proto.toNat 1++be c 2++be h.Src.Lo.toNat 4++be h.Dst.Lo.toNat 4++h.Options
theorem XrD (h:XaD) (n c:Nat):(hc5 h n c).length=20+h.Options.length:=by simp [hc5];omega
theorem pu1 (n:Int):XeA n 1=be n.toNat 1:=Xf7 (k:=1) (by omega)
theorem pu2 (n:Int):XeA n 2=be n.toNat 2:=Xf7 (k:=2) (by omega)
theorem XP3 {h:XaD} {n:Nat} (h1:h.Src.V6=false) (h2:h.Dst.V6=false):hd5 h (n:Int)=hc5 h n 0:=by
 have e:(64+((20+h.Options.length)/4:Nat):Int).toNat=64+(20+h.Options.length)/4:=by omega
 have ew:(cond h.Whole 64 0:Int).toNat=cond h.Whole 64 0:=by cases h.Whole<;>rfl
 unfold hd5 hc5 Xga
 rw [h1,h2]
 simp only [pu1,pu2,cond_false,Int.toNat_natCast,e,ew]
 rfl
theorem XoR (h:XaD) (n c:Nat) (r:List UInt8):let s:=hc5 h n c++r
 (s.drop 0).take 1=be (64+(20+h.Options.length)/4) 1∧(s.drop 1).take 1=be h.Class.toNat 1∧(s.drop 2).take 2=be n 2∧(s.drop 4).take 2=be h.Mark.toNat 2∧(s.drop 6).take 2=be (cond h.Whole 64 0) 1++be 0 1∧(s.drop 8).take 1=be h.TTL.toNat 1∧(s.drop 9).take 1=be h.Proto.toNat 1∧(s.drop 12).take 4=be h.Src.Lo.toNat 4∧(s.drop 16).take 4=be h.Dst.Lo.toNat 4∧s.drop 20=h.Options++r∧s.take 10=be (64+(20+h.Options.length)/4) 1++be h.Class.toNat 1++be n 2++be h.Mark.toNat 2++be (cond h.Whole 64 0) 1++be 0 1++be h.TTL.toNat 1++be h.Proto.toNat 1∧s.drop 12=be h.Src.Lo.toNat 4++be h.Dst.Lo.toNat 4++(h.Options++r):=by
 have e:hc5 h n c++r=be (64+(20+h.Options.length)/4) 1++be h.Class.toNat 1++be n 2++be h.Mark.toNat 2++be (cond h.Whole 64 0) 1++be 0 1++be h.TTL.toNat 1++be h.Proto.toNat 1++be c 2++be h.Src.Lo.toNat 4++be h.Dst.Lo.toNat 4++(h.Options++r):=by simp only [hc5,List.append_assoc]
 rw [e]
 exact XPY (Xea _ _) (Xea _ _) (Xea _ _) (Xea _ _) (Xea _ _) (Xea _ _) (Xea _ _) (Xea _ _) (Xea _ _) (Xea _ _) (Xea _ _)
theorem XNm {h:XaD} {n:Nat} {c:Int}:Xwd (hc5 h n 0) 10 2 c=hc5 h n c.toNat:=by
 obtain ⟨_,_,_,_,_,_,_,_,_,_,q11,q12⟩:=XoR h n 0 []
 simp only [List.append_nil] at q11 q12
 unfold Xwd
 rw [if_pos (by rw [XrD];omega),show (10:Int).toNat=10 from rfl,show ((10:Int)+2).toNat=12 from rfl,q11,q12]
 unfold hc5
 simp only [List.append_assoc];rfl
theorem XMH {h:XaD} {n c:Nat} (hc:c<65536):Xdp (hc5 h n c)=Xdp (hc5 h n 0)+c:=by
 have e:∀ x,hc5 h n x=(be (64+(20+h.Options.length)/4) 1++be h.Class.toNat 1++be n 2++be h.Mark.toNat 2++be (cond h.Whole 64 0) 1++be 0 1++be h.TTL.toNat 1++be h.Proto.toNat 1)++(be x 2++(be h.Src.Lo.toNat 4++be h.Dst.Lo.toNat 4++h.Options)):=fun x=>by simp only [hc5,List.append_assoc]
 have hA:(be (64+(20+h.Options.length)/4) 1++be h.Class.toNat 1++be n 2++be h.Mark.toNat 2++be (cond h.Whole 64 0) 1++be 0 1++be h.TTL.toNat 1++be h.Proto.toNat 1).length%2=0:=by simp
 rw [e c,e 0]
 generalize be (64+(20+h.Options.length)/4) 1++be h.Class.toNat 1++be n 2++be h.Mark.toNat 2++be (cond h.Whole 64 0) 1++be 0 1++be h.TTL.toNat 1++be h.Proto.toNat 1=A at hA
 rw [Xdf _ _ hA,Xdf _ _ hA,Xdf (be c 2) _ (by simp),Xdf (be 0 2) _ (by simp),Xjj hc,Xjj (by omega)];omega
theorem wflag (b:Bool):be (cond b 64 0) 1++be 0 1=be (cond b 16384 0) 2:=by cases b<;>rfl
def ck5 (h:XaD) (n:Nat):Nat:=65535 - norm (Xdp (hc5 h n 0))
theorem XR8 (h:XaD) (n:Nat):ck5 h n≤65535∧Xdp (hc5 h n (ck5 h n))%65535=0∧Xdp (hc5 h n (ck5 h n))≠0:=by
 have n1:=norm_le (Xdp (hc5 h n 0))
 have n2:=XiI (Xdp (hc5 h n 0))
 have n3:=Xi7 (Xdp (hc5 h n 0))
 have hk:ck5 h n<65536:=by unfold ck5;omega
 rw [XMH hk]
 unfold ck5;omega
end Go.Vm.Code
namespace Go.Vm.Code
open Go Go.Vm Go.Proofs
set_option maxRecDepth 100000
set_option maxHeartbeats 4000000
set_option linter.unusedVariables false
def Xrb (n:Int) (most:Int):Option Bool:=
 cond (decide (n≥0))
  (
  some (decide (n≤most)))
  (
  some (false))
def XEX (x:Bool):Xc4:=⟨.bool x,[],[]⟩
abbrev Xin:=Int→Int→Option Bool
def r124 (g:Xin):Dec:=dV (asI .i64) fun (y0:Int)=>dV (asI .i64) fun (y1:Int)=>XdY (ofG (g y0 y1) XEX)
theorem XPZ {g:Xin} {y0:Int} {y1:Int} {x:Bool} (hx:g y0 y1=some x):r124 g [.int .i64 y0,.int .i64 y1] []=some (XEX x):=(Xbb (Xdo _)).trans ((Xbb (Xdo _)).trans (Xbc hx))
def s124 (g:Xin):Xb3:=⟨[.v,.v],r124 g⟩
theorem XKO {g:Xin} {y0:Int} {y1:Int} {x:Bool} (hx:g y0 y1=some x):(s124 g).run [.int .i64 y0,.int .i64 y1] []=some (XEX x):=XPZ hx
abbrev XMz:List (Nat×Xb3):=[]
theorem XBV (hS:Xar Tryz.prog (XaI (XMz))) (n:Int) (most:Int) (res:Bool) (h:Xrb n most=some res) :
 XaO Tryz.prog 124 0 ⟨⟨124,12,[(0,.int .i64 n),(1,.int .i64 most)],[.code XGi],[],false,none⟩,[],[],0⟩ (fun v H _=>Res 0 (XEX res) v H):=by
 unfold Xrb at h
 refine XbD XaQ hS true 3000 ?_
 conv=>whnf
 exact W
def Xiz:Xin:=Xrb
theorem XJE:Xb8 Tryz.prog 124 (s124 Xiz):=by
 have hL:=XBV (Xar.Xa6 trivial)
 exact okA ⟨Tryz.f124,rfl,by decide,rfl⟩
def Xlo (Xiz:Xin) (ha0:XaX):Option Bool:=
 (Xiz ha0.Class 255).bind fun i=>
 cond (i)
  (
  (Xiz ha0.Label 1048575).bind fun i1=>
  cond (i1)
   (
   (Xiz ha0.Next 255).bind fun i2=>
   cond (i2)
    (
    (Xiz ha0.Hop 255).bind fun i3=>
    cond (i3)
     (
     cond (ha0.Src.V6)
      (
      some (ha0.Dst.V6))
      (
      some (false)))
     (
     some (false)))
    (
    some (false)))
   (
   some (false)))
  (
  some (false))
def XE8 (x:Bool):Xc4:=⟨.bool x,[],[]⟩
abbrev Xfu:=XaX→Option Bool
def r107 (g:Xfu):Dec:=dV Xir fun (y0:XaX)=>XdY (ofG (g y0) XE8)
theorem XQ2 {g:Xfu} {y0:XaX} {x:Bool} (hx:g y0=some x):r107 g [.agg ⟨[.int .i64 y0.Class,.int .i64 y0.Label,.int .i64 y0.Next,.int .i64 y0.Hop,.bool y0.Src.V6,.int .u64 y0.Src.Hi,.int .u64 y0.Src.Lo,.bool y0.Dst.V6,.int .u64 y0.Dst.Hi,.int .u64 y0.Dst.Lo]⟩] []=some (XE8 x):=(Xbb (XlE _)).trans (Xbc hx)
def s107 (g:Xfu):Xb3:=⟨[.v],r107 g⟩
theorem XKk {g:Xfu} {y0:XaX} {x:Bool} (hx:g y0=some x):(s107 g).run [.agg ⟨[.int .i64 y0.Class,.int .i64 y0.Label,.int .i64 y0.Next,.int .i64 y0.Hop,.bool y0.Src.V6,.int .u64 y0.Src.Hi,.int .u64 y0.Src.Lo,.bool y0.Dst.V6,.int .u64 y0.Dst.Hi,.int .u64 y0.Dst.Lo]⟩] []=some (XE8 x):=XQ2 hx
abbrev XLb (Xiz:Xin):List (Nat×Xb3):=[(124,s124 Xiz)]
theorem XDb (Xiz:Xin) (hS:Xar Tryz.prog (XaI (XLb Xiz))) (ha0:XaX) (res:Bool) (h:Xlo Xiz ha0=some res) :
 XaO Tryz.prog 107 0 ⟨⟨107,31,[(0,.agg ⟨[.int .i64 ha0.Class,.int .i64 ha0.Label,.int .i64 ha0.Next,.int .i64 ha0.Hop,.bool ha0.Src.V6,.int .u64 ha0.Src.Hi,.int .u64 ha0.Src.Lo,.bool ha0.Dst.V6,.int .u64 ha0.Dst.Hi,.int .u64 ha0.Dst.Lo]⟩)],[.code XG8],[],false,none⟩,[],[],0⟩ (fun v H _=>Res 0 (XE8 res) v H):=by
 unfold Xlo at h
 have R1:=@XKO Xiz
 refine XbD XaQ hS true 3000 ?_
 conv=>whnf
 exact W
def Xe5:Xfu:=Xlo Xiz
theorem XL4:Xb8 Tryz.prog 107 (s107 Xe5):=by
 have hL:=XDb Xiz (Xar.Xa6 ⟨XJE,trivial⟩)
 exact okA ⟨Tryz.f107,rfl,by decide,rfl⟩
def Xof (XaZ:Xcs) (n:Int) (k:Int):Option (List UInt8):=
 (XaZ (wI .u64 n) k).bind fun p=>
 some (p)
def XBF (x:List UInt8):Xc4:=⟨.string ⟨⟨x⟩⟩,[],[]⟩
abbrev Xhi:=Int→Int→Option (List UInt8)
def r108 (g:Xhi):Dec:=dV (asI .i64) fun (y0:Int)=>dV (asI .i64) fun (y1:Int)=>XdY (ofG (g y0 y1) XBF)
theorem XRR {g:Xhi} {y0:Int} {y1:Int} {x:List UInt8} (hx:g y0 y1=some x):r108 g [.int .i64 y0,.int .i64 y1] []=some (XBF x):=(Xbb (Xdo _)).trans ((Xbb (Xdo _)).trans (Xbc hx))
def s108 (g:Xhi):Xb3:=⟨[.v,.v],r108 g⟩
theorem XH2 {g:Xhi} {y0:Int} {y1:Int} {x:List UInt8} (hx:g y0 y1=some x):(s108 g).run [.int .i64 y0,.int .i64 y1] []=some (XBF x):=XRR hx
abbrev XIz (XaZ:Xcs):List (Nat×Xb3):=[(46,s46 XaZ)]
theorem XE0 (XaZ:Xcs) (hS:Xar Tryz.prog (XaI (XIz XaZ))) (n:Int) (k:Int) (res:List UInt8) (h:Xof XaZ n k=some res) :
 XaO Tryz.prog 108 0 ⟨⟨108,9,[(0,.int .i64 n),(1,.int .i64 k)],[.code XHB],[],false,none⟩,[],[],0⟩ (fun v H _=>Res 0 (XBF res) v H):=by
 unfold Xof at h
 have R1:=@XqO XaZ
 refine XbD XaQ hS true 3000 ?_
 conv=>whnf
 exact W
def Xgv:Xhi:=Xof XaZ
theorem XMC:Xb8 Tryz.prog 108 (s108 Xgv):=by
 have hL:=XE0 XaZ (Xar.Xa6 ⟨Xqu,trivial⟩)
 exact okA ⟨Tryz.f108,rfl,by decide,rfl⟩
def Xol (Xco:Xd1) (Xe5:Xfu) (Xgv:Xhi) (ha0:XaX) (payload:List UInt8):Option ((List UInt8)×Int):=
 (Xe5 ha0).bind fun xr=>
 cond (!xr)
  (
  some (([],1)))
  (
  cond (decide ((payload.length:Int)>65535))
   (
   some (([],5)))
   (
   let t:=wI .i64 (1610612736+(wI .i64 (ha0.Class*1048576)))
   (Xgv (wI .i64 (t+ha0.Label)) 4).bind fun n=>
   (Xgv (payload.length:Int) 2).bind fun n1=>
   XbU (decide (n.length+n1.length<2^63)) <|
   (Xgv ha0.Next 1).bind fun n2=>
   XbU (decide ((n++n1).length+n2.length<2^63)) <|
   (Xgv ha0.Hop 1).bind fun n3=>
   XbU (decide (((n++n1)++n2).length+n3.length<2^63)) <|
   (Xco ha0.Src).bind fun p=>
   XbU (decide ((((n++n1)++n2)++n3).length+p.length<2^63)) <|
   (Xco ha0.Dst).bind fun p1=>
   XbU (decide (((((n++n1)++n2)++n3)++p).length+p1.length<2^63)) <|
   XbU (decide ((((((n++n1)++n2)++n3)++p)++p1).length+payload.length<2^63)) <|
   let t1:=(((((n++n1)++n2)++n3)++p)++p1)++payload
   some ((t1,0))))
def rx79 (x:(List UInt8)×Int):Xc4:=⟨.tuple ⟨[.string ⟨⟨x.1⟩⟩,.int .i64 x.2]⟩,[],[]⟩
abbrev Xg3:=XaX→(List UInt8)→Option ((List UInt8)×Int)
def r79 (g:Xg3):Dec:=dV Xir fun (y0:XaX)=>dV asS fun (y1:List UInt8)=>XdY (ofG (g y0 y1) rx79)
theorem r79_c {g:Xg3} {y0:XaX} {y1:List UInt8} {x:(List UInt8)×Int} (hx:g y0 y1=some x):r79 g [.agg ⟨[.int .i64 y0.Class,.int .i64 y0.Label,.int .i64 y0.Next,.int .i64 y0.Hop,.bool y0.Src.V6,.int .u64 y0.Src.Hi,.int .u64 y0.Src.Lo,.bool y0.Dst.V6,.int .u64 y0.Dst.Hi,.int .u64 y0.Dst.Lo]⟩,.string ⟨⟨y1⟩⟩] []=some (rx79 x):=(Xbb (XlE _)).trans ((Xbb (Xeb)).trans (Xbc hx))
def s79 (g:Xg3):Xb3:=⟨[.v,.v],r79 g⟩
theorem XQ1 {g:Xg3} {y0:XaX} {y1:List UInt8} {x:(List UInt8)×Int} (hx:g y0 y1=some x):(s79 g).run [.agg ⟨[.int .i64 y0.Class,.int .i64 y0.Label,.int .i64 y0.Next,.int .i64 y0.Hop,.bool y0.Src.V6,.int .u64 y0.Src.Hi,.int .u64 y0.Src.Lo,.bool y0.Dst.V6,.int .u64 y0.Dst.Hi,.int .u64 y0.Dst.Lo]⟩,.string ⟨⟨y1⟩⟩] []=some (rx79 x):=r79_c hx
abbrev XOd (Xco:Xd1) (Xe5:Xfu) (Xgv:Xhi):List (Nat×Xb3):=[(104,XUg Xco),(107,s107 Xe5),(108,s108 Xgv)]
theorem XKh (Xco:Xd1) (Xe5:Xfu) (Xgv:Xhi) (hS:Xar Tryz.prog (XaI (XOd Xco Xe5 Xgv))) (ha0:XaX) (payload:List UInt8) (res:(List UInt8)×Int) (h:Xol Xco Xe5 Xgv ha0 payload=some res) :
 XaO Tryz.prog 79 0 ⟨⟨79,42,[(0,.agg ⟨[.int .i64 ha0.Class,.int .i64 ha0.Label,.int .i64 ha0.Next,.int .i64 ha0.Hop,.bool ha0.Src.V6,.int .u64 ha0.Src.Hi,.int .u64 ha0.Src.Lo,.bool ha0.Dst.V6,.int .u64 ha0.Dst.Hi,.int .u64 ha0.Dst.Lo]⟩),(1,.string ⟨⟨payload⟩⟩)],[.code XGC],[],false,none⟩,[],[],0⟩ (fun v H _=>Res 0 (rx79 res) v H):=by
 unfold Xol at h
 have R1:=@XKk Xe5
 have R2:=@XH2 Xgv
 have R3:=@XtQ Xco
 refine XbD XaQ hS true 3000 ?_
 conv=>whnf
 exact W
def XhD:Xg3:=Xol Xco Xe5 Xgv
theorem XTp:Xb8 Tryz.prog 79 (s79 XhD):=by
 have hL:=XKh Xco Xe5 Xgv (Xar.Xa6 ⟨XtD,XL4,XMC,trivial⟩)
 exact okA ⟨Tryz.f79,rfl,by decide,rfl⟩
end Go.Vm.Code
namespace Go.Vm.Code
open Go Go.Vm
def Xn2 (a:Xag):Prop:=(0≤a.Hi∧a.Hi<2^64)∧0≤a.Lo∧a.Lo<2^64
def XjU (a:Xag):List UInt8:=be a.Hi.toNat 8++be a.Lo.toNat 8
theorem Xup {a:Xag} (h:Xn2 a) (h6:a.V6=true):Xco a=some (XjU a):=by
 unfold Xco Xmu Xbh XjM
 rw [h6]
 simp only [cond_true,Option.bind_some,Bool.not_true,cond_false]
 rw [XeE h.1.1 h.1.2,XeE h.2.1 h.2.2]
 simp only [Option.bind_some,XeA]
 rw [if_pos (by omega),if_pos (by omega),Xa9 (by simp)];rfl
def Xts (s:List UInt8):Xag:=⟨true,(XeY (s.take 8):Nat),(XeY (s.drop 8):Nat)⟩
def H6 (h:XaX):Prop:=(0≤h.Class∧h.Class≤255)∧(0≤h.Label∧h.Label≤1048575)∧(0≤h.Next∧h.Next≤255)∧(0≤h.Hop∧h.Hop≤255)∧h.Src.V6=true∧h.Dst.V6=true
instance (h:XaX):Decidable (H6 h):=inferInstanceAs (Decidable (_∧_))
theorem XQs (n m:Int):Xiz n m=some (decide (0≤n∧n≤m)):=by
 unfold Xiz Xrb
 by_cases h:n≥0
 ·rw [XbB h];congr 1;rw [Bool.eq_iff_iff,decide_eq_true_eq,decide_eq_true_eq];omega
 ·rw [Xbd h];congr 1;symm;exact decide_eq_false (by omega)
theorem XzE (h:XaX):Xe5 h=some (decide (H6 h)):=by
 unfold Xe5 Xlo
 simp only [XQs,Option.bind_some,Xvg]
 by_cases hh:H6 h
 ·rw [decide_eq_true hh]
  obtain ⟨a,b,c,d,e,f⟩:=hh
  rw [if_pos a,if_pos b,if_pos c,if_pos d,e,f];rfl
 ·rw [decide_eq_false hh]
  unfold H6 at hh
  repeat' split
  all_goals first|rfl|skip
  cases e:h.Src.V6
  ·rfl
  ·rw [cond_true]
   cases f:h.Dst.V6
   ·rfl
   ·exact absurd ⟨by assumption,by assumption,by assumption,by assumption,e,f⟩ hh
def headB (h:XaX) (n:Nat):List UInt8:=be (6*2^28+h.Class.toNat*2^20+h.Label.toNat) 4++be n 2++be h.Next.toNat 1++be h.Hop.toNat 1++XjU h.Src++XjU h.Dst
theorem XmP (h:XaX) (n:Nat):(headB h n).length=40:=by simp [headB,XjU]
def XR0 (h:XaX) (p:List UInt8):List UInt8×Int:=if ¬ H6 h then ([],1) else if p.length>65535 then ([],5) else (headB h p.length++p,0)
theorem num6 {n k:Int} (h0:0≤n) (h1:n<2^64):Xgv n k=some (XeA n k):=by
 unfold Xgv Xof
 rw [Xkr h0 (by omega),XeE h0 h1];rfl
theorem XFb {h:XaX} {p:List UInt8} (hs:Xn2 h.Src) (hd:Xn2 h.Dst) (hp:p.length<2^60):XhD h p=some (XR0 h p):=by
 unfold XhD Xol XR0
 rw [XzE,Option.bind_some]
 by_cases hh:H6 h
 ·rw [decide_eq_true hh,Bool.not_true,cond_false,if_neg (by simpa using hh)]
  obtain ⟨a,b,c,d,e,f⟩:=hh
  by_cases h5:(p.length:Int)>65535
  ·rw [XbB h5,if_pos (by omega)]
  rw [Xbd h5,if_neg (by omega)]
  simp only []
  obtain ⟨C,hC⟩:=Int.eq_ofNat_of_zero_le a.1
  obtain ⟨L,hL⟩:=Int.eq_ofNat_of_zero_le b.1
  rw [hC] at a;rw [hL] at b
  have e1:wI .i64 (wI .i64 (1610612736+(wI .i64 (h.Class*1048576)))+h.Label)=((6*2^28+C*2^20+L:Nat):Int):=by
   rw [hC,hL,Xe0 (n:=(C:Int)*1048576) (by omega) (by omega),Xe0 (n:=1610612736+(C:Int)*1048576) (by omega) (by omega),Xe0 (by omega) (by omega)];omega
  rw [e1,Xup hs e,Xup hd f,num6 (by omega) (by omega),num6 (by omega) (by omega),num6 c.1 (by omega),num6 d.1 (by omega)]
  simp only [Option.bind_some,XeA]
  rw [if_pos (by omega),if_pos (by omega),if_pos (by omega),if_pos (by omega)]
  simp only [Int.toNat_natCast,show (4:Int).toNat=4 from rfl,show (2:Int).toNat=2 from rfl,show (1:Int).toNat=1 from rfl]
  rw [Xa9 (by simp),Xa9 (by simp),Xa9 (by simp),Xa9 (by simp [XjU]),Xa9 (by simp [XjU]),Xa9 (by simp [XjU];omega)]
  simp [headB,hC,hL]
 ·rw [decide_eq_false hh,Bool.not_false,cond_true,if_pos hh]
theorem XoH {a:Xag} (h:Xn2 a) (h6:a.V6=true):Xts (XjU a)=a:=by
 obtain ⟨v,hi,lo⟩:=a
 simp only [Xn2] at h h6
 subst h6
 unfold Xts XjU
 have e1:(be hi.toNat 8++be lo.toNat 8).take 8=be hi.toNat 8:=by rw [List.take_append_of_le_length (by simp),List.take_of_length_le (by simp)]
 have e2:(be hi.toNat 8++be lo.toNat 8).drop 8=be lo.toNat 8:=by rw [List.drop_append_of_le_length (by simp),List.drop_of_length_le (by simp)];rfl
 rw [e1,e2,XfI (by have:=h.1;omega),XfI (by have:=h.2;omega),Int.toNat_of_nonneg h.1.1,Int.toNat_of_nonneg h.2.1]
theorem XGq {a b c d e f r:List UInt8} (ha:a.length=4) (hb:b.length=2) (hc:c.length=1) (hd:d.length=1) (he:e.length=16) (hf:f.length=16) :
 let s:=a++b++c++d++e++f++r
 s.take 4=a∧(s.drop 4).take 2=b∧(s.drop 6).take 1=c∧(s.drop 7).take 1=d∧(s.drop 8).take 16=e∧(s.drop 24).take 16=f∧s.drop 40=r:=by
 have d4:∀ x:List UInt8,(a++x).drop 4=x:=fun x=>by rw [←ha];exact List.drop_left
 have d2:∀ x:List UInt8,(b++x).drop 2=x:=fun x=>by rw [←hb];exact List.drop_left
 have dc:∀ x:List UInt8,(c++x).drop 1=x:=fun x=>by rw [←hc];exact List.drop_left
 have dd:∀ x:List UInt8,(d++x).drop 1=x:=fun x=>by rw [←hd];exact List.drop_left
 have de:∀ x:List UInt8,(e++x).drop 16=x:=fun x=>by rw [←he];exact List.drop_left
 have df:∀ x:List UInt8,(f++x).drop 16=x:=fun x=>by rw [←hf];exact List.drop_left
 simp only [List.append_assoc]
 have e6:(a++(b++(c++(d++(e++(f++r)))))).drop 6=c++(d++(e++(f++r))):=by
  rw [show 6=4+2 from rfl,←List.drop_drop,d4,d2]
 have e7:(a++(b++(c++(d++(e++(f++r)))))).drop 7=d++(e++(f++r)):=by
  rw [show 7=6+1 from rfl,←List.drop_drop,e6,dc]
 have e8:(a++(b++(c++(d++(e++(f++r)))))).drop 8=e++(f++r):=by
  rw [show 8=7+1 from rfl,←List.drop_drop,e7,dd]
 have e24:(a++(b++(c++(d++(e++(f++r)))))).drop 24=f++r:=by
  rw [show 24=8+16 from rfl,←List.drop_drop,e8,de]
 have e40:(a++(b++(c++(d++(e++(f++r)))))).drop 40=r:=by
  rw [show 40=24+16 from rfl,←List.drop_drop,e24,df]
 refine ⟨by rw [←ha];exact List.take_left,?_,?_,?_,?_,?_,e40⟩
 ·rw [d4,←hb];exact List.take_left
 ·rw [e6,←hc];exact List.take_left
 ·rw [e7,←hd];exact List.take_left
 ·rw [e8,←he];exact List.take_left
 ·rw [e24,←hf];exact List.take_left
end Go.Vm.Code
namespace Go.Vm.Code
open Go Go.Vm Go.Proofs
set_option maxRecDepth 100000
set_option maxHeartbeats 4000000
set_option linter.unusedVariables false
def Xh4 (text:List UInt8) (i:Int) (c:List XcR):Option (Sum (Int×(List XcR)) ((List XcR)×Int)):=
 cond (decide (i<(text.length:Int)))
  (
  XbU (decide (0≤i)) <|
  (text[i.toNat]?).bind fun (b:UInt8)=>
  cond ((b.toNat:Int)==0)
   (
   some (.inr ((c,0))))
   (
   cond ((b.toNat:Int)==1)
    (
    some (.inl (wI .i64 (i+1),c)))
    (
    let t:=decide ((wI .i64 (i+1))<(text.length:Int))
    cond (t)
     (
     XbU (decide (0≤(wI .i64 (i+1)))) <|
     (text[(wI .i64 (i+1)).toNat]?).bind fun (b1:UInt8)=>
     cond (decide ((wI .i64 (b1.toNat:Int))<2))
      (
      some (.inr (([],3))))
      (
      let t1:=decide ((wI .i64 (b1.toNat:Int))>(wI .i64 ((text.length:Int) - i)))
      cond (t1)
       (
       some (.inr (([],3))))
       (
       XbU (decide (0≤i)) <|
       (text[i.toNat]?).bind fun (b2:UInt8)=>
       XbU (decide ((0:Int)≤(wI .i64 (i+(wI .i64 (b1.toNat:Int))))∧(wI .i64 (i+(wI .i64 (b1.toNat:Int))))≤(text.length:Int)∧(0:Int)≤(wI .i64 (i+2))∧(wI .i64 (i+2))≤((wI .i64 (i+(wI .i64 (b1.toNat:Int)))).toNat:Int))) <|
       let t2:=(text.drop (wI .i64 (i+2)).toNat).take ((wI .i64 (i+(wI .i64 (b1.toNat:Int)))).toNat - (wI .i64 (i+2)).toNat)
       cond (decide ((wI .i64 (i+2))<0))
        (
        some (.inr (([],3))))
        (
        XbU (decide ((c.length+1)*24≤2^47)) <|
        let row:=c++[XcR.mk (wI .i64 (b2.toNat:Int)) t2]
        some (.inl (wI .i64 (i+(wI .i64 (b1.toNat:Int))),row))))))
     (
     some (.inr (([],3)))))))
  (
  some (.inr ((c,0))))
def XmF (text:List UInt8):Option ((List XcR)×Int):=
 iter (fun st=>Xh4 text st.1 st.2) FUEL (0,[])
def XtN (x:(List XcR)×Int):Xc4:=⟨.tuple ⟨[.slice (some ⟨0,0,none⟩) x.1.length 2,.int .i64 x.2]⟩,[(vT XgO x.1)],[]⟩
abbrev Xd5:=(List UInt8)→Option ((List XcR)×Int)
def r119 (g:Xd5):Dec:=dV asS fun (y0:List UInt8)=>XdY (ofG (g y0) XtN)
theorem XSD {g:Xd5} {y0:List UInt8} {x:(List XcR)×Int} (hx:g y0=some x):r119 g [.string ⟨⟨y0⟩⟩] []=some (XtN x):=(Xbb (Xeb)).trans (Xbc hx)
def s119 (g:Xd5):Xb3:=⟨[.v],r119 g⟩
theorem Xzu {g:Xd5} {y0:List UInt8} {x:(List XcR)×Int} (hx:g y0=some x):(s119 g).run [.string ⟨⟨y0⟩⟩] []=some (XtN x):=XSD hx
abbrev XzU:List (Nat×Xb3):=[]
def XjN (text:List UInt8) (i:Int) (c:List XcR):VM:=
 ⟨⟨133,62,[(0,.func (.yield 5) #[] #[]),(1,.pointer (some ⟨3,0,none⟩)),(3,.int .i64 i)],[.code Xpz,.inLoop Xpz,.inBlock 0],[],false,none⟩,[⟨119,18,[(2,.pointer (some ⟨0,0,none⟩)),(3,.pointer (some ⟨1,0,none⟩)),(4,.pointer (some ⟨2,0,none⟩))],[.inRangeFunc 5,.inBlock 0,.code Xxe],[4],false,none⟩],[(0,.cells [.slice none 0 0]),(1,.cells [.int .i64 0]),(2,.cells [.slice (some ⟨6,0,none⟩) c.length 2]),(3,.cells [.string ⟨⟨text⟩⟩]),(4,.marks),(5,.loop ⟨.ready,none,119,18,[(2,.pointer (some ⟨0,0,none⟩)),(3,.pointer (some ⟨1,0,none⟩)),(4,.pointer (some ⟨2,0,none⟩))],[8],XG1,XAj,4⟩),(6,.row true (vT XgO c))],7⟩
theorem XAn (hS:Xar Tryz.prog (XaI (XzU))) (text:List UInt8) (res:(List XcR)×Int):∀ fuel (st:Int×(List XcR)) (o:(List XcR)×Int),iter (fun st=>Xh4 text st.1 st.2) fuel st=some o→(o=res) →
 XaO Tryz.prog 119 0 (XjN text st.1 st.2) (fun v H t=>∃ v' H' t',XA8 v H t v' H' t'∧Res 0 (XtN res) v' H'):=by
 intro fuel st o h hc
 refine Xdh (head:=fun st=>XjN text st.1 st.2) (C:=fun o=>(o=res)) ?_ fuel st o h hc
 clear h hc o st fuel
 intro st o h hc
 obtain ⟨i,c⟩:=st
 replace h:Xh4 text i c=some o:=h
 show XaO Tryz.prog 119 0 (XjN text i c) (fun v H t=>∃ v' H' t',XA8 v H t v' H' t'∧Res 0 (XtN res) v' H')
 unfold Xh4 at h
 refine XbD XaQ hS true 3000 ?_
 conv=>whnf
 refine br.h2 h (by rfl) ?_ ?_
 ·clear h;intro hb h;conv=>whnf
  all_goals (cases h;cases hc)
  all_goals exact ⟨_,_,_,(.refl _ _ _),Res.of [6] rfl (Xyd (XbN Xbi) (Xiy rfl) XwW) (by decide) (Xzg (by decide) XwT) XwR⟩
 clear h;intro hb h;conv=>whnf
 replace h:=XbU.elim h;obtain ⟨hb,h⟩:=h
 try (refine req.intro hb ?_;conv=>whnf)
 replace h:=Xdj.elim h;obtain ⟨b,hy,h⟩:=h
 refine rdS.intro hy ?_
 conv=>whnf
 refine br.h h (by rfl) ?_ ?_
 ·clear h;intro hb h;conv=>whnf
  all_goals (cases h;cases hc)
  all_goals exact ⟨_,_,_,(.refl _ _ _),Res.of [6] rfl (Xyd (XbN Xbi) (Xiy rfl) XwW) (by decide) (Xzg (by decide) XwT) XwR⟩
 clear h;intro hb h;conv=>whnf
 refine br.h h (by rfl) ?_ ?_
 ·clear h;intro hb h;conv=>whnf
  cases h;simp only [Sum.elim_inl,XjN] at hc
  exact Xw3 hc [(0,0),(1,1),(2,2),(3,3),(4,4),(5,5),(6,6)] rfl
 clear h;intro hb h;conv=>whnf
 let t:Bool:=decide ((wI .i64 (i+1))<(text.length:Int))
 refine br.h2 h (by rfl) ?_ ?_
 ·clear h;intro hb h;conv=>whnf
  all_goals (cases h;cases hc)
  all_goals exact ⟨_,_,_,(.val (.tup (.cons (.nil _ _) (.cons (.same _) .nil))) (.refl _ _ _)),Res.of [8] rfl (Xyd (XbN Xbi) (Xiy rfl) XwW) (by decide) (Xzg (by decide) XwT) XwR⟩
 clear h;intro hb h;conv=>whnf
 replace h:=XbU.elim h;obtain ⟨hb,h⟩:=h
 try (refine req.intro hb ?_;conv=>whnf)
 replace h:=Xdj.elim h;obtain ⟨b1,hy,h⟩:=h
 refine rdS.intro hy ?_
 conv=>whnf
 refine br.h h (by rfl) ?_ ?_
 ·clear h;intro hb h;conv=>whnf
  all_goals (cases h;cases hc)
  all_goals exact ⟨_,_,_,(.val (.tup (.cons (.nil _ _) (.cons (.same _) .nil))) (.refl _ _ _)),Res.of [8] rfl (Xyd (XbN Xbi) (Xiy rfl) XwW) (by decide) (Xzg (by decide) XwT) XwR⟩
 clear h;intro hb h;conv=>whnf
 let t1:Bool:=decide ((wI .i64 (b1.toNat:Int))>(wI .i64 ((text.length:Int) - i)))
 refine br.h h (by rfl) ?_ ?_
 ·clear h;intro hb h;conv=>whnf
  all_goals (cases h;cases hc)
  all_goals exact ⟨_,_,_,(.val (.tup (.cons (.nil _ _) (.cons (.same _) .nil))) (.refl _ _ _)),Res.of [8] rfl (Xyd (XbN Xbi) (Xiy rfl) XwW) (by decide) (Xzg (by decide) XwT) XwR⟩
 clear h;intro hb h;conv=>whnf
 replace h:=XbU.elim h;obtain ⟨hb,h⟩:=h
 try (refine req.intro hb ?_;conv=>whnf)
 replace h:=Xdj.elim h;obtain ⟨b2,hy,h⟩:=h
 refine rdS.intro hy ?_
 conv=>whnf
 replace h:=XbU.elim h;obtain ⟨hb,h⟩:=h
 try (refine req.intro hb ?_;conv=>whnf)
 let t2:List UInt8:=(text.drop (wI .i64 (i+2)).toNat).take ((wI .i64 (i+(wI .i64 (b1.toNat:Int)))).toNat - (wI .i64 (i+2)).toNat)
 refine br.h h (by rfl) ?_ ?_
 ·clear h;intro hb h;conv=>whnf
  all_goals (cases h;cases hc)
  all_goals exact ⟨_,_,_,(.val (.tup (.cons (.nil _ _) (.cons (.same _) .nil))) (.refl _ _ _)),Res.of [24] rfl (Xyd (XbN Xbi) (Xiy rfl) XwW) (by decide) (Xzg (by decide) XwT) XwR⟩
 clear h;intro hb h;conv=>whnf
 replace h:=XbU.elim h;obtain ⟨hb,h⟩:=h
 refine req.intro (XGz (of_decide_eq_true hb) (by first|rfl|omega|(simp;done)|(simp;omega)|(simp at *;omega)) rfl (by first|rfl|omega|(simp;done)|(simp;omega)|(simp at *;omega)) (by first|rfl|exact XlB _ _|exact XpH _|exact Xo1 _|exact Xp5 (by first|exact Xgf|exact XfP|exact Xgj|exact XfL|exact Xen|exact Xff|exact Xej|exact XeD|exact Xfi|exact Xge|exact Xhl|exact Xgm|exact XfO|exact Xgk|exact Xg9) _|(rw [XiR];exact XlB _ _)|(simp [XlB,XpH,Xo1,Xpy,XpJ,Xq0,Xru];done)|(simp;exact List.all_eq_true.1 (Xp5 (by first|exact Xgf|exact XfP|exact Xgj|exact XfL|exact Xen|exact Xff|exact Xej|exact XeD|exact Xfi|exact Xge|exact Xhl|exact Xgm|exact XfO|exact Xgk|exact Xg9) _))) rfl) ?_
 conv=>whnf
 let row:List XcR:=c++[XcR.mk (wI .i64 (b2.toNat:Int)) t2]
 first|have hlen_row:row.length=_:=List.length_append ..|skip
 refine XRk Xfp (xs:=c) (ys:=[XcR.mk (wI .i64 (b2.toNat:Int)) t2]) rfl (by first|rfl|omega) (by first|rfl|omega|(simp;done)|(simp;omega)|(simp at *;omega)) (by first|rfl|omega|(simp;done)|(simp;omega)|(simp at *;omega)) ?_
 conv=>whnf
 cases h;simp only [Sum.elim_inl,XjN] at hc
 exact Xw3 hc [(0,0),(1,1),(2,2),(3,3),(4,4),(5,5),(6,25)] rfl
theorem XB7 (hS:Xar Tryz.prog (XaI (XzU))) (text:List UInt8) (res:(List XcR)×Int) (h:XmF text=some res) :
 XaO Tryz.prog 119 0 ⟨⟨119,18,[(0,.string ⟨⟨text⟩⟩)],[.code Xz1],[],false,none⟩,[],[],0⟩ (fun v H _=>Res 0 (XtN res) v H):=by
 refine XaO.nilW (R:=fun v' H'=>Res 0 (XtN res) v' H') ?_
 unfold XmF at h
 refine XbD XaQ hS true 3000 ?_
 conv=>whnf
 have hl:=XAn hS _ res _ _ _ h rfl;simp only [XjN] at hl
 refine XaO.nilC 2 0 2 ?_
 exact Xw3 hl [(0,0),(1,1),(2,2),(3,3),(4,4),(5,5),(6,6)] rfl
def Xc9:Xd5:=XmF
theorem Xy4:Xb8 Tryz.prog 119 (s119 Xc9):=by
 have hL:=XB7 (Xar.Xa6 trivial)
 exact okA ⟨Tryz.f119,rfl,by decide,rfl⟩
end Go.Vm.Code
namespace Go.Vm.Code
open Go Go.Vm
structure XzI where
 Kind:Int
 Data:List UInt8
 At:Int
def XhJ (s:List UInt8):Nat→Nat→List XzI→List XzI×Int
 | 0,_,out=>(out,0)
 | n+1,i,out=>match s[i]? with
   | none=>(out,0)
   | some b=>if b=0 then (out,0) else if b=1 then XhJ s n (i+1) out else match s[i+1]? with
     | none=>([],3)
     | some k=>if k.toNat<2 then ([],3) else if s.length - i<k.toNat then ([],3) else
        XhJ s (n+1 - k.toNat) (i+k.toNat) (out++[⟨(b.toNat:Int),(s.drop (i+2)).take (k.toNat - 2),((i+2:Nat):Int)⟩])
termination_by n=>n
decreasing_by all_goals omega
def Xnb (s:List UInt8):List XzI×Int:=XhJ s s.length 0 []
def strip (o:XzI):XcR:=⟨o.Kind,o.Data⟩
theorem XvS (s:List UInt8):∀ (n i:Nat) (o1 o2:List XzI),o1.map strip=o2.map strip→(XhJ s n i o1).1.map strip=(XhJ s n i o2).1.map strip∧(XhJ s n i o1).2=(XhJ s n i o2).2:=by
 intro n
 induction n using Nat.strongRecOn with
 | ind n ih=>
   intro i o1 o2 h
   cases n with
   | zero=>rw [XhJ,XhJ];exact ⟨h,rfl⟩
   | succ n=>
     rw [XhJ,XhJ]
     split
     ·exact ⟨h,rfl⟩
     split
     ·exact ⟨h,rfl⟩
     split
     ·exact ih n (by omega) _ _ _ h
     split
     ·exact ⟨rfl,rfl⟩
     split
     ·exact ⟨rfl,rfl⟩
     split
     ·exact ⟨rfl,rfl⟩
     exact ih _ (by omega) _ _ _ (by simp [h,strip])
def Xl5 (o:XcR):XzI:=⟨o.Kind,o.Data,0⟩
theorem Xvv (c:List XcR):(c.map Xl5).map strip=c:=by
 rw [List.map_map,show strip∘Xl5=id from rfl,List.map_id]
theorem XN4 {s:List UInt8} (hs:s.length<2^20):Xc9 s=some ((Xnb s).1.map strip,(Xnb s).2):=by
 unfold Xc9 XmF Xnb
 have key:=iter_eq (step:=fun (st:Int×List XcR)=>Xh4 s st.1 st.2) (fun st=>((XhJ s (s.length - st.1.toNat) st.1.toNat (st.2.map Xl5)).1.map strip,(XhJ s (s.length - st.1.toNat) st.1.toNat (st.2.map Xl5)).2)) (fun st=>0≤st.1∧st.1≤s.length∧(st.2.length:Int)≤st.1) (fun st=>s.length - st.1.toNat) ?_ FUEL (0,[]) ⟨by simp,by simp,by simp⟩ (by rw [XgR];simp only;omega)
 ·rw [key];rfl
 rintro ⟨p,out⟩ ⟨g1,g2,g3⟩
 simp only at g1 g2 g3 ⊢
 obtain ⟨i,rfl⟩:=Int.eq_ofNat_of_zero_le g1
 simp only [Int.toNat_natCast]
 unfold Xh4
 by_cases hi:i<s.length
 ·obtain ⟨n,hn⟩:∃ n,s.length - i=n+1:=⟨s.length - i - 1,by omega⟩
  have e:s[i]?=some s[i]:=List.getElem?_eq_getElem hi
  rw [XbB (by omega),Xa9 (by omega),Int.toNat_natCast,e,Option.bind_some,hn,XhJ,e]
  by_cases h0:s[i]=0
  ·refine .inl ?_
   rw [show ((s[i].toNat:Int)==0)=true by rw [h0];rfl,cond_true]
   simp only [h0,if_true,Xvv]
  rw [show ((s[i].toNat:Int)==0)=false by simp;intro hx;exact h0 (UInt8.toNat_inj.1 (by simpa using hx)),cond_false]
  simp only [if_neg h0]
  by_cases h1:s[i]=1
  ·refine .inr ⟨(((i+1:Nat):Int),out),?_,⟨by simp only;omega,by simp only;omega,by simp only;omega⟩,by simp only;omega,?_⟩
   ·rw [show ((s[i].toNat:Int)==1)=true by rw [h1];rfl,cond_true,Xe0 (by omega) (by omega)];rfl
   ·simp only [Int.toNat_natCast,if_pos h1]
    rw [show s.length - (i+1)=n by omega]
  rw [show ((s[i].toNat:Int)==1)=false by simp;intro hx;exact h1 (UInt8.toNat_inj.1 (by simp;omega)),cond_false]
  simp only [if_neg h1]
  rw [Xe0 (n:=(i:Int)+1) (by omega) (by omega)]
  by_cases h2:s.length≤i+1
  ·refine .inl ?_
   rw [Xbd (by omega),List.getElem?_eq_none (by omega)];rfl
  have hi1:i+1<s.length:=by omega
  have e1:s[i+1]?=some s[i+1]:=List.getElem?_eq_getElem hi1
  have b1:=s[i+1].toNat_lt
  rw [XbB (by omega),show ((i:Int)+1).toNat=i+1 by omega,e1,Xa9 (by omega),Option.bind_some]
  simp only [Option.bind_some]
  rw [Xe0 (n:=(s[i+1].toNat:Int)) (by omega) (by omega)]
  by_cases h3:s[i+1].toNat<2
  ·refine .inl ?_
   rw [XbB (by omega),if_pos h3];rfl
  rw [Xbd (by omega),if_neg h3,Xe0 (n:=(s.length:Int) - i) (by omega) (by omega)]
  by_cases h4:s.length - i<s[i+1].toNat
  ·refine .inl ?_
   rw [XbB (by omega),if_pos h4];rfl
  refine .inr ⟨(((i+s[i+1].toNat:Nat):Int),out++[⟨(s[i].toNat:Int),(s.drop (i+2)).take (s[i+1].toNat - 2)⟩]),?_,⟨by simp only;omega,by simp only;omega,by simp;omega⟩,by simp only;omega,?_⟩
  ·have b0:=s[i].toNat_lt
   rw [Xbd (by omega),Xa9 (by omega),Xe0 (n:=(i:Int)+s[i+1].toNat) (by omega) (by omega),Xe0 (n:=(i:Int)+2) (by omega) (by omega),Xe0 (n:=(s[i].toNat:Int)) (by omega) (by omega),Xa9 (by omega),Xbd (by omega),Xa9 (by omega),show ((i:Int)+s[i+1].toNat).toNat - ((i:Int)+2).toNat=s[i+1].toNat - 2 by omega,show ((i:Int)+2).toNat=i+2 by omega];rfl
  ·rw [if_neg h4]
   simp only [Int.toNat_natCast]
   rw [show s.length - (i+s[i+1].toNat)=n+1 - s[i+1].toNat by omega]
   have:=XvS s (n+1 - s[i+1].toNat) (i+s[i+1].toNat) ((out++[(⟨(s[i].toNat:Int),(s.drop (i+2)).take (s[i+1].toNat - 2)⟩:XcR)]).map Xl5) (out.map Xl5++[(⟨(s[i].toNat:Int),(s.drop (i+2)).take (s[i+1].toNat - 2),((i+2:Nat):Int)⟩:XzI)]) (by simp [strip,Xl5])
   rw [this.1,this.2]
 ·refine .inl ?_
  rw [Xbd (by omega),show s.length - i=0 by omega,XhJ,Xvv]
theorem XCG {A B:List UInt8} {p:Nat} {c:Int} (hA:A.length=p):Xwd (A++(be 0 2++B)) (p:Int) 2 c=A++(be c.toNat 2++B):=by
 subst hA
 unfold Xwd
 rw [if_pos (by simp only [List.length_append,Xea];omega),Int.toNat_natCast,List.take_left,show ((A.length:Int)+2).toNat=A.length+2 by omega,←List.drop_drop,List.drop_left,show (be 0 2++B).drop 2=B from rfl,List.append_assoc];rfl
theorem XCT {A B:List UInt8} {c:Nat} (hA:A.length%2=0) (hc:c<65536):Xdp (A++(be c 2++B))=Xdp (A++(be 0 2++B))+c:=by
 rw [Xdf _ _ hA,Xdf _ _ hA,Xdf (be c 2) B (by simp),Xdf (be 0 2) B (by simp),Xjj hc,Xjj (by omega)];omega
def ckN (W:Nat):Nat:=65535 - norm W
theorem XNJ (W:Nat):ckN W≤65535∧(W+ckN W)%65535=0∧W+ckN W≠0:=by
 have n1:=norm_le W
 have n2:=XiI W
 have n3:=Xi7 W
 unfold ckN;omega
end Go.Vm.Code
namespace Go.Vm.Code
open Go Go.Vm Go.Proofs
set_option maxRecDepth 100000
set_option maxHeartbeats 4000000
set_option linter.unusedVariables false
def XjY (XaR:XbX) (Xaa:XaH) (Xae:Xaz) (s:List UInt8) (size:Int):Option XaT:=
 (XaR s).bind fun n=>
 (Xaa n 2).bind fun n1=>
 (Xaa n1.2 2).bind fun n2=>
 (Xaa n2.2 4).bind fun n3=>
 (Xaa n3.2 4).bind fun n4=>
 (Xaa n4.2 2).bind fun n5=>
 (Xaa n5.2 2).bind fun n6=>
 (Xaa n6.2 2).bind fun n7=>
 (Xaa n7.2 2).bind fun n8=>
 (Xae n8.2 (wI .i64 (size - 20))).bind fun t=>
 some (XaT.mk n1.1 n2.1 (wI .u32 n3.1) (wI .u32 n4.1) (Xm8 .i64 n5.1 255) n6.1 n8.1 t.1)
def XFi (x:XaT):Xc4:=⟨.agg ⟨[.int .i64 x.SPort,.int .i64 x.DPort,.int .u32 x.Seq,.int .u32 x.Ack,.int .i64 x.Flags,.int .i64 x.Window,.int .i64 x.Urgent,.string ⟨⟨x.Options⟩⟩]⟩,[],[]⟩
abbrev XeV:=(List UInt8)→Int→Option XaT
def r132 (g:XeV):Dec:=dV asS fun (y0:List UInt8)=>dV (asI .i64) fun (y1:Int)=>XdY (ofG (g y0 y1) XFi)
theorem XNY {g:XeV} {y0:List UInt8} {y1:Int} {x:XaT} (hx:g y0 y1=some x):r132 g [.string ⟨⟨y0⟩⟩,.int .i64 y1] []=some (XFi x):=(Xbb (Xeb)).trans ((Xbb (Xdo _)).trans (Xbc hx))
def s132 (g:XeV):Xb3:=⟨[.v,.v],r132 g⟩
theorem XL6 {g:XeV} {y0:List UInt8} {y1:Int} {x:XaT} (hx:g y0 y1=some x):(s132 g).run [.string ⟨⟨y0⟩⟩,.int .i64 y1] []=some (XFi x):=XNY hx
abbrev XJi (XaR:XbX) (Xaa:XaH) (Xae:Xaz):List (Nat×Xb3):=[(51,s51 XaR),(52,s52 Xaa),(86,s86 Xae)]
theorem XFf (XaR:XbX) (Xaa:XaH) (Xae:Xaz) (hS:Xar Tryz.prog (XaI (XJi XaR Xaa Xae))) (s:List UInt8) (size:Int) (res:XaT) (h:XjY XaR Xaa Xae s size=some res) :
 XaO Tryz.prog 132 0 ⟨⟨132,38,[(0,.string ⟨⟨s⟩⟩),(1,.int .i64 size)],[.code Xy1],[],false,none⟩,[],[],0⟩ (fun v H _=>Res 0 (XFi res) v H):=by
 unfold XjY at h
 have R1:=@XqE XaR
 have R2:=@XkV Xaa
 have R3:=@Xn1 Xae
 refine XbD XaQ hS true 3000 ?_
 conv=>whnf
 exact W
def Xem:XeV:=XjY XaR Xaa Xae
theorem XJH:Xb8 Tryz.prog 132 (s132 Xem):=by
 have hL:=XFf XaR Xaa Xae (Xar.Xa6 ⟨Xqf,XoS,Xn0,trivial⟩)
 exact okA ⟨Tryz.f132,rfl,by decide,rfl⟩
def Xoc (XaP:Xb5) (XbP:XcD) (Xc9:Xd5) (Xem:XeV) (s:List UInt8) (src:Xag) (dst:Xag):Option (XaT×(List UInt8)×Int):=
 cond (decide ((s.length:Int)<20))
  (
  some ((XaT.mk 0 0 0 0 0 0 0 [],[],2)))
  (
  (s[12]?).bind fun (b:UInt8)=>
  (s[12]?).bind fun (b1:UInt8)=>
  let t:=wI .i64 (4*(wI .i64 ((b.toNat:Int).fdiv (2^4))))
  cond (decide (t<20))
   (
   some ((XaT.mk 0 0 0 0 0 0 0 [],[],3)))
   (
   cond ((Xm8 .u8 (b1.toNat:Int) 15) !=0)
    (
    some ((XaT.mk 0 0 0 0 0 0 0 [],[],3)))
    (
    cond (decide (t>(s.length:Int)))
     (
     some ((XaT.mk 0 0 0 0 0 0 0 [],[],2)))
     (
     (XbP src dst 6 (s.length:Int)).bind fun p=>
     cond (p==[])
      (
      some ((XaT.mk 0 0 0 0 0 0 0 [],[],1)))
      (
      XbU (decide (p.length+s.length<2^63)) <|
      (XaP (p++s)).bind fun xr=>
      cond (!xr)
       (
       some ((XaT.mk 0 0 0 0 0 0 0 [],[],4)))
       (
       (Xem s t).bind fun p1=>
       (Xc9 p1.Options).bind fun l=>
       cond (l.2 !=0)
        (
        some ((XaT.mk 0 0 0 0 0 0 0 [],[],l.2)))
        (
        XbU (decide ((0:Int)≤t∧t≤(s.length:Int))) <|
        let t1:=(s.drop t.toNat).take (s.length - t.toNat)
        some ((p1,t1,0)))))))))
def XEt (x:XaT×(List UInt8)×Int):Xc4:=⟨.tuple ⟨[.agg ⟨[.int .i64 x.1.SPort,.int .i64 x.1.DPort,.int .u32 x.1.Seq,.int .u32 x.1.Ack,.int .i64 x.1.Flags,.int .i64 x.1.Window,.int .i64 x.1.Urgent,.string ⟨⟨x.1.Options⟩⟩]⟩,.string ⟨⟨x.2.1⟩⟩,.int .i64 x.2.2]⟩,[],[]⟩
abbrev Xhc:=(List UInt8)→Xag→Xag→Option (XaT×(List UInt8)×Int)
def r117 (g:Xhc):Dec:=dV asS fun (y0:List UInt8)=>dV Xc2 fun (y1:Xag)=>dV Xc2 fun (y2:Xag)=>XdY (ofG (g y0 y1 y2) XEt)
theorem XUd {g:Xhc} {y0:List UInt8} {y1:Xag} {y2:Xag} {x:XaT×(List UInt8)×Int} (hx:g y0 y1 y2=some x):r117 g [.string ⟨⟨y0⟩⟩,.agg ⟨[.bool y1.V6,.int .u64 y1.Hi,.int .u64 y1.Lo]⟩,.agg ⟨[.bool y2.V6,.int .u64 y2.Hi,.int .u64 y2.Lo]⟩] []=some (XEt x):=(Xbb (Xeb)).trans ((Xbb (XcM _)).trans ((Xbb (XcM _)).trans (Xbc hx)))
def s117 (g:Xhc):Xb3:=⟨[.v,.v,.v],r117 g⟩
theorem XKx {g:Xhc} {y0:List UInt8} {y1:Xag} {y2:Xag} {x:XaT×(List UInt8)×Int} (hx:g y0 y1 y2=some x):(s117 g).run [.string ⟨⟨y0⟩⟩,.agg ⟨[.bool y1.V6,.int .u64 y1.Hi,.int .u64 y1.Lo]⟩,.agg ⟨[.bool y2.V6,.int .u64 y2.Hi,.int .u64 y2.Lo]⟩] []=some (XEt x):=XUd hx
abbrev XK5 (XaP:Xb5) (XbP:XcD) (Xc9:Xd5) (Xem:XeV):List (Nat×Xb3):=[(54,s54 XaP),(131,s131 XbP),(119,s119 Xc9),(132,s132 Xem)]
theorem XBD (XaP:Xb5) (XbP:XcD) (Xc9:Xd5) (Xem:XeV) (hS:Xar Tryz.prog (XaI (XK5 XaP XbP Xc9 Xem))) (s:List UInt8) (src:Xag) (dst:Xag) (res:XaT×(List UInt8)×Int) (h:Xoc XaP XbP Xc9 Xem s src dst=some res) :
 XaO Tryz.prog 117 0 ⟨⟨117,76,[(0,.string ⟨⟨s⟩⟩),(1,.agg ⟨[.bool src.V6,.int .u64 src.Hi,.int .u64 src.Lo]⟩),(2,.agg ⟨[.bool dst.V6,.int .u64 dst.Hi,.int .u64 dst.Lo]⟩)],[.code Xyo],[],false,none⟩,[],[],0⟩ (fun v H _=>Res 0 (XEt res) v H):=by
 unfold Xoc at h
 have R1:=@Xyr XbP
 have R2:=@Xvy XaP
 have R3:=@XL6 Xem
 have R4:=@Xzu Xc9
 refine XbD XaQ hS true 3000 ?_
 conv=>whnf
 exact W
def XhX:Xhc:=Xoc XaP XbP Xc9 Xem
theorem XJQ:Xb8 Tryz.prog 117 (s117 XhX):=by
 have hL:=XBD XaP XbP Xc9 Xem (Xar.Xa6 ⟨XuY,Xzv,Xy4,XJH,trivial⟩)
 exact okA ⟨Tryz.f117,rfl,by decide,rfl⟩
def Xms (XaZ:Xcs) (n:Int) (k:Int):Option (List UInt8):=
 (XaZ (wI .u64 n) k).bind fun p=>
 some (p)
def rx45 (x:List UInt8):Xc4:=⟨.string ⟨⟨x⟩⟩,[],[]⟩
abbrev Xfb:=Int→Int→Option (List UInt8)
def r45 (g:Xfb):Dec:=dV (asI .i64) fun (y0:Int)=>dV (asI .i64) fun (y1:Int)=>XdY (ofG (g y0 y1) rx45)
theorem r45_c {g:Xfb} {y0:Int} {y1:Int} {x:List UInt8} (hx:g y0 y1=some x):r45 g [.int .i64 y0,.int .i64 y1] []=some (rx45 x):=(Xbb (Xdo _)).trans ((Xbb (Xdo _)).trans (Xbc hx))
def s45 (g:Xfb):Xb3:=⟨[.v,.v],r45 g⟩
theorem XGw {g:Xfb} {y0:Int} {y1:Int} {x:List UInt8} (hx:g y0 y1=some x):(s45 g).run [.int .i64 y0,.int .i64 y1] []=some (rx45 x):=r45_c hx
abbrev XNU (XaZ:Xcs):List (Nat×Xb3):=[(46,s46 XaZ)]
theorem XIi (XaZ:Xcs) (hS:Xar Tryz.prog (XaI (XNU XaZ))) (n:Int) (k:Int) (res:List UInt8) (h:Xms XaZ n k=some res) :
 XaO Tryz.prog 45 0 ⟨⟨45,9,[(0,.int .i64 n),(1,.int .i64 k)],[.code XOP],[],false,none⟩,[],[],0⟩ (fun v H _=>Res 0 (rx45 res) v H):=by
 unfold Xms at h
 have R1:=@XqO XaZ
 refine XbD XaQ hS true 3000 ?_
 conv=>whnf
 exact W
def XcQ:Xfb:=Xms XaZ
theorem XGZ:Xb8 Tryz.prog 45 (s45 XcQ):=by
 have hL:=XIi XaZ (Xar.Xa6 ⟨Xqu,trivial⟩)
 exact okA ⟨Tryz.f45,rfl,by decide,rfl⟩
def Xrn (n:Int) (most:Int):Option Bool:=
 cond (decide (n≥0))
  (
  some (decide (n≤most)))
  (
  some (false))
def XCA (x:Bool):Xc4:=⟨.bool x,[],[]⟩
abbrev Xil:=Int→Int→Option Bool
def r106 (g:Xil):Dec:=dV (asI .i64) fun (y0:Int)=>dV (asI .i64) fun (y1:Int)=>XdY (ofG (g y0 y1) XCA)
theorem XPh {g:Xil} {y0:Int} {y1:Int} {x:Bool} (hx:g y0 y1=some x):r106 g [.int .i64 y0,.int .i64 y1] []=some (XCA x):=(Xbb (Xdo _)).trans ((Xbb (Xdo _)).trans (Xbc hx))
def s106 (g:Xil):Xb3:=⟨[.v,.v],r106 g⟩
theorem XI2 {g:Xil} {y0:Int} {y1:Int} {x:Bool} (hx:g y0 y1=some x):(s106 g).run [.int .i64 y0,.int .i64 y1] []=some (XCA x):=XPh hx
abbrev XIQ:List (Nat×Xb3):=[]
theorem XCh (hS:Xar Tryz.prog (XaI (XIQ))) (n:Int) (most:Int) (res:Bool) (h:Xrn n most=some res) :
 XaO Tryz.prog 106 0 ⟨⟨106,12,[(0,.int .i64 n),(1,.int .i64 most)],[.code XFF],[],false,none⟩,[],[],0⟩ (fun v H _=>Res 0 (XCA res) v H):=by
 unfold Xrn at h
 refine XbD XaQ hS true 3000 ?_
 conv=>whnf
 exact W
def Xii:Xil:=Xrn
theorem XJv:Xb8 Tryz.prog 106 (s106 Xii):=by
 have hL:=XCh (Xar.Xa6 trivial)
 exact okA ⟨Tryz.f106,rfl,by decide,rfl⟩
def Xk5 (Xii:Xil) (ha0:XaT):Option Bool:=
 (Xii ha0.SPort 65535).bind fun i=>
 cond (i)
  (
  (Xii ha0.DPort 65535).bind fun i1=>
  cond (i1)
   (
   (Xii ha0.Flags 255).bind fun i2=>
   cond (i2)
    (
    (Xii ha0.Window 65535).bind fun i3=>
    cond (i3)
     (
     (Xii ha0.Urgent 65535).bind fun i4=>
     cond (i4)
      (
      cond (decide ((ha0.Options.length:Int)≤40))
       (
       some (((ha0.Options.length:Int).tmod 4)==0))
       (
       some (false)))
      (
      some (false)))
     (
     some (false)))
    (
    some (false)))
   (
   some (false)))
  (
  some (false))
def rx78 (x:Bool):Xc4:=⟨.bool x,[],[]⟩
abbrev Xfq:=XaT→Option Bool
def r78 (g:Xfq):Dec:=dV XjH fun (y0:XaT)=>XdY (ofG (g y0) rx78)
theorem r78_c {g:Xfq} {y0:XaT} {x:Bool} (hx:g y0=some x):r78 g [.agg ⟨[.int .i64 y0.SPort,.int .i64 y0.DPort,.int .u32 y0.Seq,.int .u32 y0.Ack,.int .i64 y0.Flags,.int .i64 y0.Window,.int .i64 y0.Urgent,.string ⟨⟨y0.Options⟩⟩]⟩] []=some (rx78 x):=(Xbb (Xn5 _)).trans (Xbc hx)
def s78 (g:Xfq):Xb3:=⟨[.v],r78 g⟩
theorem XOA {g:Xfq} {y0:XaT} {x:Bool} (hx:g y0=some x):(s78 g).run [.agg ⟨[.int .i64 y0.SPort,.int .i64 y0.DPort,.int .u32 y0.Seq,.int .u32 y0.Ack,.int .i64 y0.Flags,.int .i64 y0.Window,.int .i64 y0.Urgent,.string ⟨⟨y0.Options⟩⟩]⟩] []=some (rx78 x):=r78_c hx
abbrev XRo (Xii:Xil):List (Nat×Xb3):=[(106,s106 Xii)]
theorem XKY (Xii:Xil) (hS:Xar Tryz.prog (XaI (XRo Xii))) (ha0:XaT) (res:Bool) (h:Xk5 Xii ha0=some res) :
 XaO Tryz.prog 78 0 ⟨⟨78,39,[(0,.agg ⟨[.int .i64 ha0.SPort,.int .i64 ha0.DPort,.int .u32 ha0.Seq,.int .u32 ha0.Ack,.int .i64 ha0.Flags,.int .i64 ha0.Window,.int .i64 ha0.Urgent,.string ⟨⟨ha0.Options⟩⟩]⟩)],[.code XPw],[],false,none⟩,[],[],0⟩ (fun v H _=>Res 0 (rx78 res) v H):=by
 unfold Xk5 at h
 have R1:=@XI2 Xii
 refine XbD XaQ hS true 3000 ?_
 conv=>whnf
 exact W
def Xfc:Xfq:=Xk5 Xii
theorem XSU:Xb8 Tryz.prog 78 (s78 Xfc):=by
 have hL:=XKY Xii (Xar.Xa6 ⟨XJv,trivial⟩)
 exact okA ⟨Tryz.f78,rfl,by decide,rfl⟩
def Xoj (Xdw:XeP) (Xcx:Xd2) (Xeo:XeN) (Xfc:Xfq) (XcQ:Xfb) (ha0:XaT) (src:Xag) (dst:Xag) (payload:List UInt8):Option ((List UInt8)×Int):=
 let t:=wI .i64 (20+(ha0.Options.length:Int))
 (Xeo src dst 6 (wI .i64 (t+(payload.length:Int)))).bind fun p=>
 (Xfc ha0).bind fun xr=>
 cond (!xr)
  (
  some (([],1)))
  (
  cond (p==[])
   (
   some (([],1)))
   (
   let t1:=decide ((payload.length:Int)>(wI .i64 (65535 - t)))
   cond (t1)
    (
    some (([],5)))
    (
    (XcQ ha0.SPort 2).bind fun n=>
    (XcQ ha0.DPort 2).bind fun n1=>
    XbU (decide (n.length+n1.length<2^63)) <|
    (XcQ (wI .i64 ha0.Seq) 4).bind fun n2=>
    XbU (decide ((n++n1).length+n2.length<2^63)) <|
    (XcQ (wI .i64 ha0.Ack) 4).bind fun n3=>
    XbU (decide (((n++n1)++n2).length+n3.length<2^63)) <|
    (XcQ (wI .i64 (4*t)) 1).bind fun n4=>
    XbU (decide ((((n++n1)++n2)++n3).length+n4.length<2^63)) <|
    (XcQ ha0.Flags 1).bind fun n5=>
    XbU (decide (((((n++n1)++n2)++n3)++n4).length+n5.length<2^63)) <|
    (XcQ ha0.Window 2).bind fun n6=>
    XbU (decide ((((((n++n1)++n2)++n3)++n4)++n5).length+n6.length<2^63)) <|
    let t2:=(((((n++n1)++n2)++n3)++n4)++n5)++n6
    (XcQ 0 2).bind fun n7=>
    XbU (decide (t2.length+n7.length<2^63)) <|
    (XcQ ha0.Urgent 2).bind fun n8=>
    XbU (decide ((t2++n7).length+n8.length<2^63)) <|
    XbU (decide (((t2++n7)++n8).length+ha0.Options.length<2^63)) <|
    XbU (decide ((((t2++n7)++n8)++ha0.Options).length+payload.length<2^63)) <|
    let t3:=(((t2++n7)++n8)++ha0.Options)++payload
    XbU (decide (p.length+t3.length<2^63)) <|
    (Xdw (p++t3)).bind fun xo=>
    (Xcx t3 16 2 (wI .u64 xo)).bind fun s=>
    some ((s,0)))))
def rx43 (x:(List UInt8)×Int):Xc4:=⟨.tuple ⟨[.string ⟨⟨x.1⟩⟩,.int .i64 x.2]⟩,[],[]⟩
abbrev XgY:=XaT→Xag→Xag→(List UInt8)→Option ((List UInt8)×Int)
def r43 (g:XgY):Dec:=dV XjH fun (y0:XaT)=>dV Xc2 fun (y1:Xag)=>dV Xc2 fun (y2:Xag)=>dV asS fun (y3:List UInt8)=>XdY (ofG (g y0 y1 y2 y3) rx43)
theorem r43_c {g:XgY} {y0:XaT} {y1:Xag} {y2:Xag} {y3:List UInt8} {x:(List UInt8)×Int} (hx:g y0 y1 y2 y3=some x):r43 g [.agg ⟨[.int .i64 y0.SPort,.int .i64 y0.DPort,.int .u32 y0.Seq,.int .u32 y0.Ack,.int .i64 y0.Flags,.int .i64 y0.Window,.int .i64 y0.Urgent,.string ⟨⟨y0.Options⟩⟩]⟩,.agg ⟨[.bool y1.V6,.int .u64 y1.Hi,.int .u64 y1.Lo]⟩,.agg ⟨[.bool y2.V6,.int .u64 y2.Hi,.int .u64 y2.Lo]⟩,.string ⟨⟨y3⟩⟩] []=some (rx43 x):=(Xbb (Xn5 _)).trans ((Xbb (XcM _)).trans ((Xbb (XcM _)).trans ((Xbb (Xeb)).trans (Xbc hx))))
def s43 (g:XgY):Xb3:=⟨[.v,.v,.v,.v],r43 g⟩
theorem XT9 {g:XgY} {y0:XaT} {y1:Xag} {y2:Xag} {y3:List UInt8} {x:(List UInt8)×Int} (hx:g y0 y1 y2 y3=some x):(s43 g).run [.agg ⟨[.int .i64 y0.SPort,.int .i64 y0.DPort,.int .u32 y0.Seq,.int .u32 y0.Ack,.int .i64 y0.Flags,.int .i64 y0.Window,.int .i64 y0.Urgent,.string ⟨⟨y0.Options⟩⟩]⟩,.agg ⟨[.bool y1.V6,.int .u64 y1.Hi,.int .u64 y1.Lo]⟩,.agg ⟨[.bool y2.V6,.int .u64 y2.Hi,.int .u64 y2.Lo]⟩,.string ⟨⟨y3⟩⟩] []=some (rx43 x):=r43_c hx
abbrev XQ0 (Xdw:XeP) (Xcx:Xd2) (Xeo:XeN) (Xfc:Xfq) (XcQ:Xfb):List (Nat×Xb3):=[(48,s48 Xdw),(47,s47 Xcx),(77,s77 Xeo),(78,s78 Xfc),(45,s45 XcQ)]
theorem XK4 (Xdw:XeP) (Xcx:Xd2) (Xeo:XeN) (Xfc:Xfq) (XcQ:Xfb) (hS:Xar Tryz.prog (XaI (XQ0 Xdw Xcx Xeo Xfc XcQ))) (ha0:XaT) (src:Xag) (dst:Xag) (payload:List UInt8) (res:(List UInt8)×Int) (h:Xoj Xdw Xcx Xeo Xfc XcQ ha0 src dst payload=some res) :
 XaO Tryz.prog 43 0 ⟨⟨43,83,[(0,.agg ⟨[.int .i64 ha0.SPort,.int .i64 ha0.DPort,.int .u32 ha0.Seq,.int .u32 ha0.Ack,.int .i64 ha0.Flags,.int .i64 ha0.Window,.int .i64 ha0.Urgent,.string ⟨⟨ha0.Options⟩⟩]⟩),(1,.agg ⟨[.bool src.V6,.int .u64 src.Hi,.int .u64 src.Lo]⟩),(2,.agg ⟨[.bool dst.V6,.int .u64 dst.Hi,.int .u64 dst.Lo]⟩),(3,.string ⟨⟨payload⟩⟩)],[.code XGo],[],false,none⟩,[],[],0⟩ (fun v H _=>Res 0 (rx43 res) v H):=by
 unfold Xoj at h
 have R1:=@XRh Xeo
 have R2:=@XOA Xfc
 have R3:=@XGw XcQ
 have R4:=@Xzx Xdw
 have R5:=@XzA Xcx
 refine XbD XaQ hS true 3000 ?_
 conv=>whnf
 exact W
def Xh2:XgY:=Xoj Xdw Xcx Xeo Xfc XcQ
theorem XS0:Xb8 Tryz.prog 43 (s43 Xh2):=by
 have hL:=XK4 Xdw Xcx Xeo Xfc XcQ (Xar.Xa6 ⟨Xxs,Xxb,XQg,XSU,XGZ,trivial⟩)
 exact okA ⟨Tryz.f43,rfl,by decide,rfl⟩
end Go.Vm.Code
namespace Go.Vm.Code
open Go Go.Vm
def H7 (h:XaT):Bool:=inR h.SPort 65535&&inR h.DPort 65535&&inR h.Window 65535&&inR h.Urgent 65535&&inR h.Flags 255&&decide (h.Options.length%4=0)&&decide (h.Options.length≤40)
theorem XGT {h:XaT} (hh:H7 h=true):(0≤h.SPort∧h.SPort≤65535)∧(0≤h.DPort∧h.DPort≤65535)∧(0≤h.Window∧h.Window≤65535)∧(0≤h.Urgent∧h.Urgent≤65535)∧(0≤h.Flags∧h.Flags≤255)∧h.Options.length%4=0∧h.Options.length≤40:=by
 unfold H7 at hh
 simp only [Bool.and_eq_true,XtR,decide_eq_true_eq] at hh
 obtain ⟨⟨⟨⟨⟨⟨a,b⟩,c⟩,d⟩,e⟩,f⟩,g⟩:=hh
 exact ⟨a,b,c,d,e,f,g⟩
def W7 (h:XaT):Prop:=(0≤h.Seq∧h.Seq<4294967296)∧0≤h.Ack∧h.Ack<4294967296
def ha7 (h:XaT):List UInt8:=be h.SPort.toNat 2++be h.DPort.toNat 2++be h.Seq.toNat 4++be h.Ack.toNat 4++be (4*(20+h.Options.length)) 1++be h.Flags.toNat 1++be h.Window.toNat 2
def hc7 (h:XaT) (c:Nat):List UInt8:=ha7 h++(be c 2++(be h.Urgent.toNat 2++h.Options))
theorem Xtq (h:XaT):(ha7 h).length=16:=by simp [ha7]
theorem Xtk (h:XaT) (c:Nat):(hc7 h c).length=20+h.Options.length:=by simp [hc7,Xtq];omega
theorem Xrg (h:XaT) (c:Nat) (l:List UInt8):hc7 h c++l=ha7 h++(be c 2++(be h.Urgent.toNat 2++(h.Options++l))):=by simp only [hc7,List.append_assoc]
def ck7 (p:List UInt8) (h:XaT) (l:List UInt8):Nat:=ckN (Xdp (p++(hc7 h 0++l)))
theorem XK6 {p:List UInt8} (hp:p.length%2=0) (h:XaT) (l:List UInt8) {c:Nat} (hc:c<65536):Xdp (p++(hc7 h c++l))=Xdp (p++(hc7 h 0++l))+c:=by
 have e:∀ x,p++(hc7 h x++l)=(p++ha7 h)++(be x 2++(be h.Urgent.toNat 2++(h.Options++l))):=fun x=>by rw [Xrg,List.append_assoc]
 rw [e,e,XCT (by rw [List.length_append,Xtq];omega) hc]
theorem XQ7 {p:List UInt8} (hp:p.length%2=0) (h:XaT) (l:List UInt8):ck7 p h l≤65535∧Xdp (p++(hc7 h (ck7 p h l)++l))%65535=0∧Xdp (p++(hc7 h (ck7 p h l)++l))≠0:=by
 have:=XNJ (Xdp (p++(hc7 h 0++l)))
 rw [XK6 hp h l (by unfold ck7;omega)]
 exact this
def XpR (h:XaT) (src dst:Xag) (l:List UInt8):List UInt8×Int:=
 if H7 h=false then ([],1) else if XlN src dst 6 (20+h.Options.length+l.length)=[] then ([],1) else if 65535 - (20+(h.Options.length:Int))<l.length then ([],5) else
  (hc7 h (ck7 (XlN src dst 6 (20+h.Options.length+l.length)) h l)++l,0)
def Xrt:XaT:=⟨0,0,0,0,0,0,0,[]⟩
def Xkp (s:List UInt8) (src dst:Xag):XaT×List UInt8×Int:=
 if s.length<20 then (Xrt,[],2) else if 4*(vK s 12 1/16)<20 then (Xrt,[],3) else if vK s 12 1%16≠0 then (Xrt,[],3) else if (s.length:Int)<4*(vK s 12 1/16) then (Xrt,[],2) else
  if XlN src dst 6 s.length=[] then (Xrt,[],1) else if norm (Xdp (XlN src dst 6 s.length++s))≠65535 then (Xrt,[],4) else
   if (Xnb ((s.drop 20).take ((4*(vK s 12 1/16)).toNat - 20))).2≠0 then (Xrt,[],(Xnb ((s.drop 20).take ((4*(vK s 12 1/16)).toNat - 20))).2) else
   (⟨vK s 0 2,vK s 2 2,vK s 4 4,vK s 8 4,vK s 13 1,vK s 14 2,vK s 18 2,(s.drop 20).take ((4*(vK s 12 1/16)).toNat - 20)⟩,s.drop (4*(vK s 12 1/16)).toNat,0)
theorem XOu (h:XaT):XeA h.SPort 2++XeA h.DPort 2++XeA h.Seq 4++XeA h.Ack 4++XeA (4*(20+(h.Options.length:Int))) 1++XeA h.Flags 1++XeA h.Window 2++XeA 0 2++XeA h.Urgent 2++h.Options=hc7 h 0:=by
 have p4:∀ n:Int,XeA n 4=be n.toNat 4:=fun n=>Xf7 (k:=4) (by omega)
 have p2:∀ n:Int,XeA n 2=be n.toNat 2:=fun n=>Xf7 (k:=2) (by omega)
 have p1:∀ n:Int,XeA n 1=be n.toNat 1:=fun n=>Xf7 (k:=1) (by omega)
 simp only [p4,p2,p1,show (4*(20+(h.Options.length:Int))).toNat=4*(20+h.Options.length) by omega,show (0:Int).toNat=0 from rfl]
 simp only [hc7,ha7,List.append_assoc]
theorem Xzq {p t:List UInt8} {A B:List UInt8} (ht:t=A++(be 0 2++B)) (hA:A.length=16) (hl:p.length<2^30) (hl2:t.length<2^30):((Xdw (p++t)).bind fun xo=>(Xcx t 16 2 (wI .u64 xo)).bind fun s=>some (s,(0:Int)))=some (A++(be (ckN (Xdp (p++t))) 2++B),0):=by
 have n:=norm_le (Xdp (p++t))
 rw [Xpb (by rw [List.length_append];omega),Option.bind_some,Xkr (by omega) (by omega),Xnu (by omega) (by omega) (by omega),Option.bind_some]
 have:=XCG (A:=A) (B:=B) (p:=16) (c:=65535 - ((norm (Xdp (p++t)):Nat):Int)) hA
 rw [←ht] at this
 rw [show ((16:Nat):Int)=16 from rfl] at this
 rw [this]
 unfold ckN
 rw [show (65535 - ((norm (Xdp (p++t)):Nat):Int)).toNat=65535 - norm (Xdp (p++t)) by omega]
theorem XN6 (n m:Int):Xii n m=some (inR n m):=by
 unfold Xii Xrn inR
 by_cases h:0≤n
 ·rw [XbB (by omega)];simp [h]
 ·rw [Xbd (by omega)];simp [h]
theorem Xx1 (h:XaT):Xfc h=some (H7 h):=by
 unfold Xfc Xk5 H7
 simp only [XN6,Option.bind_some,XAJ,XG3]
 cases inR h.SPort 65535<;>cases inR h.DPort 65535<;>cases inR h.Window 65535<;>cases inR h.Urgent 65535<;>cases inR h.Flags 255<;>cases decide (h.Options.length%4=0)<;>cases decide (h.Options.length≤40)<;>rfl
theorem XMP (n k:Int):XcQ n k=some (XeA (wI .u64 n) k):=by
 unfold XcQ Xms
 rw [XeE (XoA n).1 (XoA n).2];rfl
theorem XFr {h:XaT} {src dst:Xag} {l:List UInt8} (hw:W7 h) (h1:A4 src) (h2:A4 dst) (hl:l.length<2^20) (ho:h.Options.length<2^20):Xh2 h src dst l=some (XpR h src dst l):=by
 unfold Xh2 Xoj XpR
 simp only []
 rw [Xe0 (n:=20+(h.Options.length:Int)) (by omega) (by omega),Xe0 (n:=20+(h.Options.length:Int)+l.length) (by omega) (by omega),Xwq h1 h2 (by omega) (by omega),Option.bind_some,Xx1,Option.bind_some]
 have hp:=Xri src dst 6 (20+(h.Options.length:Int)+l.length)
 generalize XlN src dst 6 (20+(h.Options.length:Int)+l.length)=p at *
 cases hh:H7 h
 ·rfl
 rw [Bool.not_true,cond_false,if_neg (by decide)]
 by_cases e3:p=[]
 ·subst e3;rfl
 rw [show (p==[])=false by simpa using e3,cond_false,if_neg e3,Xe0 (n:=65535 - (20+(h.Options.length:Int))) (by omega) (by omega)]
 by_cases h5:(l.length:Int)>65535 - (20+(h.Options.length:Int))
 ·rw [XbB h5,if_pos (by omega)]
 rw [Xbd h5,if_neg (by omega)]
 obtain ⟨q1,q2,q3,q4,q5,q6,q7⟩:=XGT hh
 obtain ⟨w1,w2⟩:=hw
 simp only [XMP,Option.bind_some]
 rw [Xe0 (n:=h.Seq) (by omega) (by omega),Xe0 (n:=h.Ack) (by omega) (by omega),Xe0 (n:=4*(20+(h.Options.length:Int))) (by omega) (by omega),Xkr q1.1 (by omega),Xkr q2.1 (by omega),Xkr w1.1 (by omega),Xkr w2.1 (by omega),Xkr (n:=4*(20+(h.Options.length:Int))) (by omega) (by omega),Xkr q5.1 (by omega),Xkr q3.1 (by omega),Xkr q4.1 (by omega),show wI .u64 0=0 from rfl]
 have hd:=XOu h
 have a1:=XbO h.SPort 2
 have a2:=XbO h.DPort 2
 have a3:=XbO h.Seq 4
 have a4:=XbO h.Ack 4
 have a5:=XbO (4*(20+(h.Options.length:Int))) 1
 have a6:=XbO h.Flags 1
 have a7:=XbO h.Window 2
 have a8:=XbO 0 2
 have a9:=XbO h.Urgent 2
 have hlen:=Xtk h 0
 iterate 10 rw [Xa9 (by first|omega|(simp only [List.length_append];omega))]
 rw [hd,Xa9 (by simp only [List.length_append];omega)]
 have:=Xzq (p:=p) (t:=hc7 h 0++l) (Xrg h 0 l) (Xtq h) (by omega) (by simp only [List.length_append];omega)
 rw [this]
 unfold ck7
 rw [Xrg h (ckN _) l]
theorem Xwp {s:List UInt8} {n:Nat} (hs:s.length<2^38) (h20:20≤n) (hn:n≤s.length):Xem s (n:Int)=some ⟨vK s 0 2,vK s 2 2,vK s 4 4,vK s 8 4,vK s 13 1,vK s 14 2,vK s 18 2,(s.drop 20).take (n - 20)⟩:=by
 unfold Xem XjY
 have N:∀ (p k:Nat),1≤k→k≤7→p+k≤20→Xaa ⟨s.drop p,true,false⟩ (k:Int)=some (vK s p k,⟨s.drop (p+k),true,false⟩):=fun p k a b c=>XHv a b (by omega) (by omega)
 have N0:Xaa ⟨s,true,false⟩ 2=some (vK s 0 2,⟨s.drop 2,true,false⟩):=N 0 2 (by omega) (by omega) (by omega)
 have N2:Xaa ⟨s.drop 2,true,false⟩ 2=some (vK s 2 2,⟨s.drop 4,true,false⟩):=N 2 2 (by omega) (by omega) (by omega)
 have N4:Xaa ⟨s.drop 4,true,false⟩ 4=some (vK s 4 4,⟨s.drop 8,true,false⟩):=N 4 4 (by omega) (by omega) (by omega)
 have N8:Xaa ⟨s.drop 8,true,false⟩ 4=some (vK s 8 4,⟨s.drop 12,true,false⟩):=N 8 4 (by omega) (by omega) (by omega)
 have N12:Xaa ⟨s.drop 12,true,false⟩ 2=some (vK s 12 2,⟨s.drop 14,true,false⟩):=N 12 2 (by omega) (by omega) (by omega)
 have N14:Xaa ⟨s.drop 14,true,false⟩ 2=some (vK s 14 2,⟨s.drop 16,true,false⟩):=N 14 2 (by omega) (by omega) (by omega)
 have N16:Xaa ⟨s.drop 16,true,false⟩ 2=some (vK s 16 2,⟨s.drop 18,true,false⟩):=N 16 2 (by omega) (by omega) (by omega)
 have N18:Xaa ⟨s.drop 18,true,false⟩ 2=some (vK s 18 2,⟨s.drop 20,true,false⟩):=N 18 2 (by omega) (by omega) (by omega)
 have r4:=XkD s 4 4 4294967296 (by decide)
 have r8:=XkD s 8 4 4294967296 (by decide)
 have r12:=XkD s 12 2 65536 (by decide)
 rw [Xl2,Option.bind_some,N0,Option.bind_some]
 simp only []
 rw [N2,Option.bind_some]
 simp only []
 rw [N4,Option.bind_some]
 simp only []
 rw [N8,Option.bind_some]
 simp only []
 rw [N12,Option.bind_some]
 simp only []
 rw [N14,Option.bind_some]
 simp only []
 rw [N16,Option.bind_some]
 simp only []
 rw [N18,Option.bind_some]
 simp only []
 rw [Xe0 (n:=(n:Int) - 20) (by omega) (by omega),show (n:Int) - 20=((n - 20:Nat):Int) by omega,Xr0 (by omega),Option.bind_some,XQR r4.1 r4.2,XQR r8.1 r8.2,XiZ 8 (by decide) (by omega) (by omega) (by omega)]
 have e12:vK s 12 2=(s[12].toNat*256+s[13].toNat:Int):=XHy (s:=s) (p:=12) (by omega)
 have e13:=XuT (s:=s) (p:=13) (by omega)
 have b13:=s[13].toNat_lt
 rw [show vK s 12 2%2^8=vK s 13 1 by rw [e12,e13];omega]
theorem and15:∀ x:Fin 256,Xm8 .u8 ((x.val:Nat):Int) 15=((x.val:Nat):Int)%16:=by decide +kernel
theorem XDZ {s:List UInt8} {src dst:Xag} (h1:A4 src) (h2:A4 dst) (hs:s.length<2^19):XhX s src dst=some (Xkp s src dst):=by
 unfold XhX Xoc Xkp
 have hz:(⟨0,0,0,0,0,0,0,[]⟩:XaT)=Xrt:=rfl
 rw [hz]
 by_cases h0:s.length<20
 ·rw [XbB (by omega),if_pos h0]
 rw [Xbd (by omega),if_neg h0,List.getElem?_eq_getElem (show 12<s.length by omega)]
 have e12:=XuT (s:=s) (p:=12) (by omega)
 have r12:=XkD s 12 1 256 (by decide)
 have hb:=s[12].toNat_lt
 simp only [Option.bind_some]
 rw [←e12,XsM,show ((2:Int)^4)=16 from rfl,Xe0 (n:=vK s 12 1/16) (by omega) (by omega),Xe0 (n:=4*(vK s 12 1/16)) (by omega) (by omega)]
 have ea:Xm8 .u8 (vK s 12 1) 15=vK s 12 1%16:=by
  rw [e12];exact and15 ⟨s[12].toNat,hb⟩
 rw [ea]
 obtain ⟨t,ht⟩:=Int.eq_ofNat_of_zero_le (show 0≤4*(vK s 12 1/16) by omega)
 rw [ht]
 simp only [Int.toNat_natCast]
 by_cases g2:(t:Int)<20
 ·rw [XbB g2,if_pos g2]
 rw [Xbd g2,if_neg g2]
 by_cases g3:vK s 12 1%16=0
 ·rw [show (vK s 12 1%16 !=0)=false by simpa using g3,cond_false,if_neg (by simpa using g3)]
  by_cases g4:(s.length:Int)<t
  ·rw [XbB (by omega),if_pos g4]
  rw [Xbd (by omega),if_neg g4,XsX h1 h2 (by omega) (by omega),Option.bind_some]
  have hp:=Xri src dst 6 (s.length:Int)
  generalize XlN src dst 6 (s.length:Int)=p at *
  by_cases e3:p=[]
  ·subst e3;rfl
  rw [show (p==[])=false by simpa using e3,cond_false,if_neg e3,Xa9 (by omega),Xod (by simp only [List.length_append];omega),Option.bind_some]
  by_cases g5:norm (Xdp (p++s))=65535
  ·rw [if_neg (by simpa using g5),g5,show ((((65535:Nat):Int)==65535))=true from rfl,Bool.not_true,cond_false,Xwp (by omega) (by omega) (by omega),Option.bind_some,XN4 (by simp;omega),Option.bind_some]
   by_cases g6:(Xnb ((s.drop 20).take (t - 20))).2=0
   ·rw [if_neg (by simpa using g6)]
    simp only [g6,bne_self_eq_false,cond_false]
    rw [Xa9 (by omega),List.take_of_length_le (i:=s.length - t) (by simp)]
   ·rw [if_pos (by simpa using g6),show ((Xnb ((s.drop 20).take (t - 20))).2 !=0)=true by simpa using g6];rfl
  ·rw [if_pos (by simpa using g5),show ((((norm (Xdp (p++s)):Nat):Int)==65535))=false by simp;omega];rfl
 ·rw [show (vK s 12 1%16 !=0)=true by simpa using g3,cond_true,if_pos (by simpa using g3)]
theorem Xgo (r:Xaj) (k:Int):(rdr r k).s.length≤r.s.length:=by unfold rdr;split<;>simp
def b1 (s:List UInt8) (i:Nat):Nat:=XeY ((s.drop i).take 1)
theorem XHL (s:List UInt8) (i:Nat):b1 s i<256:=XeZ _ (by decide)
end Go.Vm.Code
namespace Go.Vm.Code
open Go Go.Vm Go.Proofs
set_option maxRecDepth 100000
set_option maxHeartbeats 4000000
set_option linter.unusedVariables false
def Xoz (XaP:Xb5) (XbP:XcD) (XaR:XbX) (Xam:XaK) (Xaa:XaH) (s:List UInt8) (src:Xag) (dst:Xag):Option (Xcl×(List UInt8)×Int):=
 (XaR s).bind fun n=>
 (Xaa n 2).bind fun n1=>
 (Xaa n1.2 2).bind fun n2=>
 (Xaa n2.2 2).bind fun n3=>
 (Xaa n3.2 2).bind fun n4=>
 (Xam n4.2).bind fun b=>
 cond (b.1)
  (
  some ((Xcl.mk 0 0,[],2)))
  (
  cond (decide (n3.1<8))
   (
   some ((Xcl.mk 0 0,[],3)))
   (
   cond (decide (n3.1>(s.length:Int)))
    (
    some ((Xcl.mk 0 0,[],2)))
    (
    (XbP src dst 17 n3.1).bind fun p=>
    cond (p==[])
     (
     some ((Xcl.mk 0 0,[],1)))
     (
     cond (n4.1==0)
      (
      cond (src.V6)
       (
       some ((Xcl.mk 0 0,[],4)))
       (
       cond (n4.1 !=0)
        (
        XbU (decide ((0:Int)≤n3.1∧n3.1≤(s.length:Int))) <|
        XbU (decide (p.length+(s.take n3.1.toNat).length<2^63)) <|
        (XaP (p++(s.take n3.1.toNat))).bind fun xr=>
        cond (!xr)
         (
         some ((Xcl.mk 0 0,[],4)))
         (
         XbU (decide ((0:Int)≤n3.1∧n3.1≤(s.length:Int)∧(0:Int)≤(8:Int)∧(8:Int)≤(n3.1.toNat:Int))) <|
         some ((Xcl.mk n1.1 n2.1,(s.drop 8).take (n3.1.toNat - 8),0))))
        (
        XbU (decide ((0:Int)≤n3.1∧n3.1≤(s.length:Int)∧(0:Int)≤(8:Int)∧(8:Int)≤(n3.1.toNat:Int))) <|
        some ((Xcl.mk n1.1 n2.1,(s.drop 8).take (n3.1.toNat - 8),0)))))
      (
      cond (n4.1 !=0)
       (
       XbU (decide ((0:Int)≤n3.1∧n3.1≤(s.length:Int))) <|
       XbU (decide (p.length+(s.take n3.1.toNat).length<2^63)) <|
       (XaP (p++(s.take n3.1.toNat))).bind fun xr1=>
       cond (!xr1)
        (
        some ((Xcl.mk 0 0,[],4)))
        (
        XbU (decide ((0:Int)≤n3.1∧n3.1≤(s.length:Int)∧(0:Int)≤(8:Int)∧(8:Int)≤(n3.1.toNat:Int))) <|
        some ((Xcl.mk n1.1 n2.1,(s.drop 8).take (n3.1.toNat - 8),0))))
       (
       XbU (decide ((0:Int)≤n3.1∧n3.1≤(s.length:Int)∧(0:Int)≤(8:Int)∧(8:Int)≤(n3.1.toNat:Int))) <|
       some ((Xcl.mk n1.1 n2.1,(s.drop 8).take (n3.1.toNat - 8),0))))))))
def XCp (x:Xcl×(List UInt8)×Int):Xc4:=⟨.tuple ⟨[.agg ⟨[.int .i64 x.1.SPort,.int .i64 x.1.DPort]⟩,.string ⟨⟨x.2.1⟩⟩,.int .i64 x.2.2]⟩,[],[]⟩
abbrev Xha:=(List UInt8)→Xag→Xag→Option (Xcl×(List UInt8)×Int)
def r118 (g:Xha):Dec:=dV asS fun (y0:List UInt8)=>dV Xc2 fun (y1:Xag)=>dV Xc2 fun (y2:Xag)=>XdY (ofG (g y0 y1 y2) XCp)
theorem XSm {g:Xha} {y0:List UInt8} {y1:Xag} {y2:Xag} {x:Xcl×(List UInt8)×Int} (hx:g y0 y1 y2=some x):r118 g [.string ⟨⟨y0⟩⟩,.agg ⟨[.bool y1.V6,.int .u64 y1.Hi,.int .u64 y1.Lo]⟩,.agg ⟨[.bool y2.V6,.int .u64 y2.Hi,.int .u64 y2.Lo]⟩] []=some (XCp x):=(Xbb (Xeb)).trans ((Xbb (XcM _)).trans ((Xbb (XcM _)).trans (Xbc hx)))
def s118 (g:Xha):Xb3:=⟨[.v,.v,.v],r118 g⟩
theorem XMm {g:Xha} {y0:List UInt8} {y1:Xag} {y2:Xag} {x:Xcl×(List UInt8)×Int} (hx:g y0 y1 y2=some x):(s118 g).run [.string ⟨⟨y0⟩⟩,.agg ⟨[.bool y1.V6,.int .u64 y1.Hi,.int .u64 y1.Lo]⟩,.agg ⟨[.bool y2.V6,.int .u64 y2.Hi,.int .u64 y2.Lo]⟩] []=some (XCp x):=XSm hx
abbrev XJY (XaP:Xb5) (XbP:XcD) (XaR:XbX) (Xam:XaK) (Xaa:XaH):List (Nat×Xb3):=[(54,s54 XaP),(131,s131 XbP),(51,s51 XaR),(95,s95 Xam),(52,s52 Xaa)]
theorem XCx (XaP:Xb5) (XbP:XcD) (XaR:XbX) (Xam:XaK) (Xaa:XaH) (hS:Xar Tryz.prog (XaI (XJY XaP XbP XaR Xam Xaa))) (s:List UInt8) (src:Xag) (dst:Xag) (res:Xcl×(List UInt8)×Int) (h:Xoz XaP XbP XaR Xam Xaa s src dst=some res) :
 XaO Tryz.prog 118 0 ⟨⟨118,70,[(0,.string ⟨⟨s⟩⟩),(1,.agg ⟨[.bool src.V6,.int .u64 src.Hi,.int .u64 src.Lo]⟩),(2,.agg ⟨[.bool dst.V6,.int .u64 dst.Hi,.int .u64 dst.Lo]⟩)],[.code Xyb],[],false,none⟩,[],[],0⟩ (fun v H _=>Res 0 (XCp res) v H):=by
 unfold Xoz at h
 have R1:=@Xvy XaP
 refine XbD XaQ hS true 3000 ?_
 conv=>whnf
 replace h:=Xdj.elim h;obtain ⟨n,hy,h⟩:=h
 refine XfS.a (XqE hy) ?_
 conv=>whnf
 replace h:=Xdj.elim h;obtain ⟨n1,hy,h⟩:=h
 refine XfS.a (XkV hy) ?_
 conv=>whnf
 replace h:=Xdj.elim h;obtain ⟨n2,hy,h⟩:=h
 refine XfS.a (XkV hy) ?_
 conv=>whnf
 replace h:=Xdj.elim h;obtain ⟨n3,hy,h⟩:=h
 refine XfS.a (XkV hy) ?_
 conv=>whnf
 replace h:=Xdj.elim h;obtain ⟨n4,hy,h⟩:=h
 refine XfS.a (XkV hy) ?_
 conv=>whnf
 replace h:=Xdj.elim h;obtain ⟨b,hy,h⟩:=h
 refine XfS.a (Xo4 hy) ?_
 conv=>whnf
 refine br.h h (by rfl) ?_ ?_
 ·clear h;intro hb h;conv=>whnf
  exact W
 clear h;intro hb h;conv=>whnf
 refine br.h h (by rfl) ?_ ?_
 ·clear h;intro hb h;conv=>whnf
  exact W
 clear h;intro hb h;conv=>whnf
 refine br.h h (by rfl) ?_ ?_
 ·clear h;intro hb h;conv=>whnf
  exact W
 clear h;intro hb h;conv=>whnf
 replace h:=Xdj.elim h;obtain ⟨p,hy,h⟩:=h
 refine XfS.a (Xyr hy) ?_
 conv=>whnf
 refine br.h h (by rfl) ?_ ?_
 ·clear h;intro hb h;conv=>whnf
  exact W
 clear h;intro hb h;conv=>whnf
 refine br.h2 h (by rfl) ?_ ?_
 ·clear h;intro hb h;conv=>whnf
  exact W
 clear h;intro hb h;conv=>whnf
 refine br.h h (by rfl) ?_ ?_
 ·clear h;intro hb h;conv=>whnf
  refine br.pos ?_ ?_;(focus (clear h;first|assumption|(simp_all;done)))
  conv=>whnf
  exact W
 clear h;intro hb h;conv=>whnf
 exact W
def XhO:Xha:=Xoz XaP XbP XaR Xam Xaa
theorem XJP:Xb8 Tryz.prog 118 (s118 XhO):=by
 have hL:=XCx XaP XbP XaR Xam Xaa (Xar.Xa6 ⟨XuY,Xzv,Xqf,Xql,XoS,trivial⟩)
 exact okA ⟨Tryz.f118,rfl,by decide,rfl⟩
end Go.Vm.Code
namespace Go.Vm.Code
open Go Go.Vm
def u8 (h:Xcl) (l:List UInt8):List UInt8:=XeA h.SPort 2++XeA h.DPort 2++XeA (8+l.length) 2++[0,0]++l
def v2 (s:List UInt8) (p:Nat):Int:=(XeY ((s.drop p).take 2):Nat)
theorem XSO (s:List UInt8) (p:Nat):0≤v2 s p∧v2 s p<65536:=by
 have:=XeZ (l:=s.drop p) (k:=2) 65536 (by decide)
 unfold v2;omega
theorem XSj {r:Xaj} (h:r.made=true) (hl:r.s.length<2^61):Xaa r 2=some (rdn r 2,rdr r 2):=by
 rw [XdM h hl,if_neg (by omega)]
theorem Xrp {s:List UInt8} (h:2≤s.length) (hl:s.length<2^61):Xaa ⟨s,true,false⟩ 2=some (v2 s 0,⟨s.drop 2,true,false⟩):=by
 rw [XSj rfl hl,Xgy (by omega) (by omega)]
 unfold rdn
 rw [if_neg (by omega),XgI (by omega) (by omega)];rfl
theorem XJN (s:List UInt8) (p q:Nat):v2 (s.drop p) q=v2 s (p+q):=by unfold v2;rw [List.drop_drop]
def XtL:Xcl:=⟨0,0⟩
def Xpu (s:List UInt8) (src dst:Xag):Xcl×List UInt8×Int:=
 if s.length<8 then (XtL,[],2) else if v2 s 4<8 then (XtL,[],3) else if (s.length:Int)<v2 s 4 then (XtL,[],2) else if XlN src dst 17 (v2 s 4)=[] then (XtL,[],1) else
  if v2 s 6=0 then (if src.V6=true then (XtL,[],4) else (⟨v2 s 0,v2 s 2⟩,(s.drop 8).take ((v2 s 4).toNat - 8),0)) else
   if norm (Xdp (XlN src dst 17 (v2 s 4)++s.take (v2 s 4).toNat))≠65535 then (XtL,[],4) else (⟨v2 s 0,v2 s 2⟩,(s.drop 8).take ((v2 s 4).toNat - 8),0)
theorem XIj {s:List UInt8} {src dst:Xag} (h1:A4 src) (h2:A4 dst) (hs:s.length<2^38):XhO s src dst=some (Xpu s src dst):=by
 unfold XhO Xoz Xpu
 rw [Xl2,Option.bind_some]
 by_cases h8:s.length<8
 ·rw [if_pos h8]
  have m1:=XeQ ⟨s,true,false⟩ 2
  have m2:=XeQ (rdr ⟨s,true,false⟩ 2) 2
  have m3:=XeQ (rdr (rdr ⟨s,true,false⟩ 2) 2) 2
  have m4:=XeQ (rdr (rdr (rdr ⟨s,true,false⟩ 2) 2) 2) 2
  have k1:=Xgo ⟨s,true,false⟩ 2
  have k2:=Xgo (rdr ⟨s,true,false⟩ 2) 2
  have k3:=Xgo (rdr (rdr ⟨s,true,false⟩ 2) 2) 2
  simp only at k1
  rw [XSj rfl (by simp only;omega),Option.bind_some]
  rw [XSj m1 (by omega),Option.bind_some]
  rw [XSj m2 (by omega),Option.bind_some]
  rw [XSj m3 (by omega),Option.bind_some,XfR m4,Option.bind_some]
  have hb:(rdr (rdr (rdr (rdr ⟨s,true,false⟩ 2) 2) 2) 2).bad=true:=by
   cases hb:(rdr (rdr (rdr (rdr ⟨s,true,false⟩ 2) 2) 2) 2).bad
   ·exfalso
    obtain ⟨b3,l3⟩:=Xib rfl hb
    obtain ⟨b2,l2⟩:=Xib rfl b3
    obtain ⟨b1,l1⟩:=Xib rfl b2
    obtain ⟨b0,l0⟩:=Xib rfl b1
    simp only at l0
    omega
   ·rfl
  simp only [hb,cond_true];rfl
 ·rw [if_neg h8]
  rw [Xrp (by omega) (by omega),Option.bind_some,Xrp (by simp;omega) (by simp;omega),Option.bind_some]
  simp only [List.drop_drop]
  rw [Xrp (by simp;omega) (by simp;omega),Option.bind_some]
  simp only [List.drop_drop]
  rw [Xrp (by simp;omega) (by simp;omega),Option.bind_some,XfR rfl,Option.bind_some]
  simp only [cond_false,XJN,Nat.add_zero,Nat.reduceAdd]
  have r4:=XSO s 4
  have hp:=Xri src dst 17 (v2 s 4)
  have hz:(⟨0,0⟩:Xcl)=XtL:=rfl
  rw [hz]
  generalize hm:v2 s 4=m at *
  by_cases g1:m<8
  ·rw [XbB g1,if_pos g1]
  rw [Xbd g1,if_neg g1]
  by_cases g2:(s.length:Int)<m
  ·rw [XbB (by omega),if_pos g2]
  rw [Xbd (by omega),if_neg g2,XsX h1 h2 (by omega) (by omega),Option.bind_some]
  generalize XlN src dst 17 m=p at *
  by_cases g3:p=[]
  ·subst g3;rw [if_pos rfl];rfl
  rw [if_neg g3,show (p==[])=false by simpa using g3,cond_false]
  have hr:XaP (p++s.take m.toNat)=some (((norm (Xdp (p++s.take m.toNat)):Nat):Int)==65535):=Xod (by simp;omega)
  by_cases g4:v2 s 6=0
  ·rw [if_pos g4,g4]
   simp only [beq_self_eq_true,cond_true,bne_self_eq_false,cond_false]
   cases src.V6
   ·rw [if_neg (by decide),cond_false,Xa9 (by omega)]
   ·rw [if_pos rfl,cond_true]
  ·rw [if_neg g4,show (v2 s 6==0)=false by simpa using g4,show (v2 s 6 !=0)=true by simpa using g4]
   simp only [cond_false,cond_true]
   rw [Xa9 (by omega),Xa9 (by simp only [List.length_take];omega),hr,Option.bind_some,Xa9 (by omega)]
   by_cases g5:norm (Xdp (p++s.take m.toNat))=65535
   ·rw [if_neg (by simpa using g5),g5];rfl
   ·rw [if_pos (by simpa using g5),show ((((norm (Xdp (p++s.take m.toNat)):Nat):Int)==65535))=false by simp;omega];rfl
end Go.Vm.Code
namespace Go.Vm.Code
open Go Go.Vm Go.Proofs
set_option maxRecDepth 100000
set_option maxHeartbeats 4000000
set_option linter.unusedVariables false
def Xon (Xbh:Xcz) (Xhr:Xhf) (XhD:Xg3) (t:Xai) (body:List UInt8):Option ((List UInt8)×Int):=
 cond (!(t.Src.V6==t.Dst.V6))
  (
  some (([],1)))
  (
  (Xbh t.Src).bind fun xr=>
  cond (!xr)
   (
   some (([],1)))
   (
   (Xbh t.Dst).bind fun xr1=>
   cond (!xr1)
    (
    some (([],1)))
    (
    cond (t.Proto !=6)
     (
     cond (t.Proto !=17)
      (
      some (([],1)))
      (
      (XhD (XaX.mk 0 0 t.Proto 64 t.Src t.Dst) body).bind fun p=>
      cond (!t.Src.V6)
       (
       (Xhr (XaD.mk 0 0 true 64 t.Proto t.Src t.Dst []) body).bind fun p1=>
       cond (p1.2==0)
        (
        cond (decide ((p1.1.length:Int)>9000))
         (
         some (([],5)))
         (
         some ((p1.1,p1.2))))
        (
        some ((p1.1,p1.2))))
       (
       cond (p.2==0)
        (
        cond (decide ((p.1.length:Int)>9000))
         (
         some (([],5)))
         (
         some ((p.1,p.2))))
        (
        some ((p.1,p.2))))))
     (
     (XhD (XaX.mk 0 0 t.Proto 64 t.Src t.Dst) body).bind fun p2=>
     cond (!t.Src.V6)
      (
      (Xhr (XaD.mk 0 0 true 64 t.Proto t.Src t.Dst []) body).bind fun p3=>
      cond (p3.2==0)
       (
       cond (decide ((p3.1.length:Int)>9000))
        (
        some (([],5)))
        (
        some ((p3.1,p3.2))))
       (
       some ((p3.1,p3.2))))
      (
      cond (p2.2==0)
       (
       cond (decide ((p2.1.length:Int)>9000))
        (
        some (([],5)))
        (
        some ((p2.1,p2.2))))
       (
       some ((p2.1,p2.2))))))))
def rx44 (x:(List UInt8)×Int):Xc4:=⟨.tuple ⟨[.string ⟨⟨x.1⟩⟩,.int .i64 x.2]⟩,[],[]⟩
abbrev Xg7:=Xai→(List UInt8)→Option ((List UInt8)×Int)
def r44 (g:Xg7):Dec:=dV XdQ fun (y0:Xai)=>dV asS fun (y1:List UInt8)=>XdY (ofG (g y0 y1) rx44)
theorem r44_c {g:Xg7} {y0:Xai} {y1:List UInt8} {x:(List UInt8)×Int} (hx:g y0 y1=some x):r44 g [.agg ⟨[.int .i64 y0.Proto,.bool y0.Src.V6,.int .u64 y0.Src.Hi,.int .u64 y0.Src.Lo,.bool y0.Dst.V6,.int .u64 y0.Dst.Hi,.int .u64 y0.Dst.Lo,.int .i64 y0.SPort,.int .i64 y0.DPort]⟩,.string ⟨⟨y1⟩⟩] []=some (rx44 x):=(Xbb (XdT _)).trans ((Xbb (Xeb)).trans (Xbc hx))
def s44 (g:Xg7):Xb3:=⟨[.v,.v],r44 g⟩
theorem XSZ {g:Xg7} {y0:Xai} {y1:List UInt8} {x:(List UInt8)×Int} (hx:g y0 y1=some x):(s44 g).run [.agg ⟨[.int .i64 y0.Proto,.bool y0.Src.V6,.int .u64 y0.Src.Hi,.int .u64 y0.Src.Lo,.bool y0.Dst.V6,.int .u64 y0.Dst.Hi,.int .u64 y0.Dst.Lo,.int .i64 y0.SPort,.int .i64 y0.DPort]⟩,.string ⟨⟨y1⟩⟩] []=some (rx44 x):=r44_c hx
abbrev XPv (Xbh:Xcz) (Xhr:Xhf) (XhD:Xg3):List (Nat×Xb3):=[(42,s42 Xbh),(80,s80 Xhr),(79,s79 XhD)]
theorem XKK (Xbh:Xcz) (Xhr:Xhf) (XhD:Xg3) (hS:Xar Tryz.prog (XaI (XPv Xbh Xhr XhD))) (t:Xai) (body:List UInt8) (res:(List UInt8)×Int) (h:Xon Xbh Xhr XhD t body=some res) :
 XaO Tryz.prog 44 0 ⟨⟨44,74,[(0,.agg ⟨[.int .i64 t.Proto,.bool t.Src.V6,.int .u64 t.Src.Hi,.int .u64 t.Src.Lo,.bool t.Dst.V6,.int .u64 t.Dst.Hi,.int .u64 t.Dst.Lo,.int .i64 t.SPort,.int .i64 t.DPort]⟩),(1,.string ⟨⟨body⟩⟩)],[.code XF5],[],false,none⟩,[],[],0⟩ (fun v H _=>Res 0 (rx44 res) v H):=by
 unfold Xon at h
 have R1:=@Xu7 Xbh
 have R2:=@XQ1 XhD
 have R3:=@XNy Xhr
 refine XbD XaQ hS true 3000 ?_
 conv=>whnf
 exact W
def XhS:Xg7:=Xon Xbh Xhr XhD
theorem XON:Xb8 Tryz.prog 44 (s44 XhS):=by
 have hL:=XKK Xbh Xhr XhD (Xar.Xa6 ⟨Xvk,XSx,XTp,trivial⟩)
 exact okA ⟨Tryz.f44,rfl,by decide,rfl⟩
def Xjo (Xh2:XgY) (XhS:Xg7) (t:Xai) (flags:Int) (options:List UInt8) (payload:List UInt8):Option ((List UInt8)×Int):=
 cond (t.Proto !=6)
  (
  some (([],1)))
  (
  (Xh2 (XaT.mk t.SPort t.DPort 0 0 flags 65535 0 options) t.Src t.Dst payload).bind fun p=>
  cond (p.2 !=0)
   (
   some (([],p.2)))
   (
   (XhS t p.1).bind fun p1=>
   some ((p1.1,p1.2))))
def rx21 (x:(List UInt8)×Int):Xc4:=⟨.tuple ⟨[.string ⟨⟨x.1⟩⟩,.int .i64 x.2]⟩,[],[]⟩
abbrev Xeg:=Xai→Int→(List UInt8)→(List UInt8)→Option ((List UInt8)×Int)
def r21 (g:Xeg):Dec:=dV XdQ fun (y0:Xai)=>dV (asI .i64) fun (y1:Int)=>dV asS fun (y2:List UInt8)=>dV asS fun (y3:List UInt8)=>XdY (ofG (g y0 y1 y2 y3) rx21)
theorem r21_c {g:Xeg} {y0:Xai} {y1:Int} {y2:List UInt8} {y3:List UInt8} {x:(List UInt8)×Int} (hx:g y0 y1 y2 y3=some x):r21 g [.agg ⟨[.int .i64 y0.Proto,.bool y0.Src.V6,.int .u64 y0.Src.Hi,.int .u64 y0.Src.Lo,.bool y0.Dst.V6,.int .u64 y0.Dst.Hi,.int .u64 y0.Dst.Lo,.int .i64 y0.SPort,.int .i64 y0.DPort]⟩,.int .i64 y1,.string ⟨⟨y2⟩⟩,.string ⟨⟨y3⟩⟩] []=some (rx21 x):=(Xbb (XdT _)).trans ((Xbb (Xdo _)).trans ((Xbb (Xeb)).trans ((Xbb (Xeb)).trans (Xbc hx))))
def s21 (g:Xeg):Xb3:=⟨[.v,.v,.v,.v],r21 g⟩
theorem XPL {g:Xeg} {y0:Xai} {y1:Int} {y2:List UInt8} {y3:List UInt8} {x:(List UInt8)×Int} (hx:g y0 y1 y2 y3=some x):(s21 g).run [.agg ⟨[.int .i64 y0.Proto,.bool y0.Src.V6,.int .u64 y0.Src.Hi,.int .u64 y0.Src.Lo,.bool y0.Dst.V6,.int .u64 y0.Dst.Hi,.int .u64 y0.Dst.Lo,.int .i64 y0.SPort,.int .i64 y0.DPort]⟩,.int .i64 y1,.string ⟨⟨y2⟩⟩,.string ⟨⟨y3⟩⟩] []=some (rx21 x):=r21_c hx
abbrev XR1 (Xh2:XgY) (XhS:Xg7):List (Nat×Xb3):=[(43,s43 Xh2),(44,s44 XhS)]
theorem XJG (Xh2:XgY) (XhS:Xg7) (hS:Xar Tryz.prog (XaI (XR1 Xh2 XhS))) (t:Xai) (flags:Int) (options:List UInt8) (payload:List UInt8) (res:(List UInt8)×Int) (h:Xjo Xh2 XhS t flags options payload=some res) :
 XaO Tryz.prog 21 0 ⟨⟨21,39,[(0,.agg ⟨[.int .i64 t.Proto,.bool t.Src.V6,.int .u64 t.Src.Hi,.int .u64 t.Src.Lo,.bool t.Dst.V6,.int .u64 t.Dst.Hi,.int .u64 t.Dst.Lo,.int .i64 t.SPort,.int .i64 t.DPort]⟩),(1,.int .i64 flags),(2,.string ⟨⟨options⟩⟩),(3,.string ⟨⟨payload⟩⟩)],[.code XFO],[],false,none⟩,[],[],0⟩ (fun v H _=>Res 0 (rx21 res) v H):=by
 unfold Xjo at h
 have R1:=@XT9 Xh2
 have R2:=@XSZ XhS
 refine XbD XaQ hS true 3000 ?_
 conv=>whnf
 exact W
def XdO:Xeg:=Xjo Xh2 XhS
theorem XSM:Xb8 Tryz.prog 21 (s21 XdO):=by
 have hL:=XJG Xh2 XhS (Xar.Xa6 ⟨XS0,XON,trivial⟩)
 exact okA ⟨Tryz.f21,rfl,by decide,rfl⟩
end Go.Vm.Code
namespace Go.Vm.Code
open Go Go.Vm
theorem A4.XuN {a:Xag} (h:A4 a):Xn2 a:=⟨⟨h.1,h.2.1⟩,h.2.2.1,h.2.2.2⟩
def Xnc (t:Xai):XaX:=⟨0,0,t.Proto,64,t.Src,t.Dst⟩
def Xku (t:Xai):XaD:=⟨0,0,true,64,t.Proto,t.Src,t.Dst,[]⟩
def Xnj (t:Xai) (b:List UInt8):List UInt8×Int:=cond t.Src.V6 (XR0 (Xnc t) b) (XTB (Xku t) b)
def Xip (t:Xai) (b:List UInt8):List UInt8×Int:=
 if t.Src.V6≠t.Dst.V6∨aok t.Src=false∨aok t.Dst=false∨(t.Proto≠6∧t.Proto≠17) then ([],1) else
  if (Xnj t b).2=0∧9000<(Xnj t b).1.length then ([],5) else Xnj t b
theorem fin11 (r:List UInt8×Int):(cond (r.2==0) (cond (decide ((r.1.length:Int)>9000)) (some (([],5):List UInt8×Int)) (some (r.1,r.2))) (some (r.1,r.2)))=some (if r.2=0∧9000<r.1.length then ([],5) else r):=by
 by_cases h:r.2=0
 ·rw [show (r.2==0)=true by simpa using h,cond_true]
  by_cases h2:9000<r.1.length
  ·rw [XbB (by omega),if_pos ⟨h,h2⟩]
  ·rw [Xbd (by omega),if_neg (fun x=>h2 x.2)]
 ·rw [show (r.2==0)=false by simpa using h,cond_false,if_neg (fun x=>h x.1)]
theorem XyZ {t:Xai} {b:List UInt8} (h1:A4 t.Src) (h2:A4 t.Dst) (hb:b.length<2^20):XhS t b=some (Xip t b):=by
 unfold XhS Xon Xip
 by_cases g1:t.Src.V6=t.Dst.V6
 ·rw [show (!(t.Src.V6==t.Dst.V6))=false by simp [g1],cond_false,XiO,XiO,Option.bind_some,Option.bind_some]
  cases g2:aok t.Src
  ·rw [if_pos (.inr (.inl rfl))];rfl
  cases g3:aok t.Dst
  ·rw [if_pos (.inr (.inr (.inl rfl)))];rfl
  rw [Bool.not_true,cond_false,cond_false,XFb (h:=⟨0,0,t.Proto,64,t.Src,t.Dst⟩) h1.XuN h2.XuN (by omega),XO4 (h:=⟨0,0,true,64,t.Proto,t.Src,t.Dst,[]⟩) h1 h2 (by omega) (by simp)]
  simp only [Option.bind_some,fin11]
  by_cases g4:t.Proto=6
  ·rw [show (t.Proto !=6)=false by simpa using g4,cond_false,if_neg (show ¬ (t.Src.V6≠t.Dst.V6∨true=false∨true=false∨(t.Proto≠6∧t.Proto≠17)) from fun h=>h.elim (fun x=>x g1) fun h=>h.elim (fun x=>by cases x) fun h=>h.elim (fun x=>by cases x) fun x=>x.1 g4)]
   unfold Xnj Xku Xnc
   cases t.Src.V6<;>rfl
  ·rw [show (t.Proto !=6)=true by simpa using g4,cond_true]
   by_cases g5:t.Proto=17
   ·rw [show (t.Proto !=17)=false by simpa using g5,cond_false,if_neg (show ¬ (t.Src.V6≠t.Dst.V6∨true=false∨true=false∨(t.Proto≠6∧t.Proto≠17)) from fun h=>h.elim (fun x=>x g1) fun h=>h.elim (fun x=>by cases x) fun h=>h.elim (fun x=>by cases x) fun x=>x.2 g5)]
    unfold Xnj Xku Xnc
    cases t.Src.V6<;>rfl
   ·rw [show (t.Proto !=17)=true by simpa using g5,cond_true,if_pos (.inr (.inr (.inr ⟨g4,g5⟩)))]
 ·rw [show (!(t.Src.V6==t.Dst.V6))=true by simp [g1],cond_true,if_pos (.inl g1)]
def XpV (t:Xai) (flags:Int) (o l:List UInt8):List UInt8×Int:=
 if t.Proto≠6 then ([],1) else if (XpR ⟨t.SPort,t.DPort,0,0,flags,65535,0,o⟩ t.Src t.Dst l).2≠0 then ([],(XpR ⟨t.SPort,t.DPort,0,0,flags,65535,0,o⟩ t.Src t.Dst l).2) else Xip t (XpR ⟨t.SPort,t.DPort,0,0,flags,65535,0,o⟩ t.Src t.Dst l).1
theorem XrM (h:XaT) (src dst:Xag) (l:List UInt8):(XpR h src dst l).1.length≤20+h.Options.length+l.length:=by
 unfold XpR
 split
 ·simp
 split
 ·simp
 split
 ·simp
 ·simp only [List.length_append,Xtk];omega
theorem Xxq {t:Xai} {flags:Int} {o l:List UInt8} (h1:A4 t.Src) (h2:A4 t.Dst) (ho:o.length<2^18) (hl:l.length<2^18):XdO t flags o l=some (XpV t flags o l):=by
 unfold XdO Xjo XpV
 by_cases g:t.Proto=6
 ·have hw:W7 ⟨t.SPort,t.DPort,0,0,flags,65535,0,o⟩:=⟨⟨by simp only [];omega,by simp only [];omega⟩,by simp only [];omega,by simp only [];omega⟩
  have hlen:=XrM ⟨t.SPort,t.DPort,0,0,flags,65535,0,o⟩ t.Src t.Dst l
  simp only at hlen
  rw [show (t.Proto !=6)=false by simpa using g,cond_false,XFr hw h1 h2 (by omega) (by simp only [];omega),Option.bind_some,if_neg (by simpa using g)]
  by_cases g2:(XpR ⟨t.SPort,t.DPort,0,0,flags,65535,0,o⟩ t.Src t.Dst l).2=0
  ·rw [show ((XpR ⟨t.SPort,t.DPort,0,0,flags,65535,0,o⟩ t.Src t.Dst l).2 !=0)=false by simpa using g2,cond_false,if_neg (by simpa using g2),XyZ h1 h2 (by omega)];rfl
  ·rw [show ((XpR ⟨t.SPort,t.DPort,0,0,flags,65535,0,o⟩ t.Src t.Dst l).2 !=0)=true by simpa using g2,cond_true,if_pos g2]
 ·rw [show (t.Proto !=6)=true by simpa using g,cond_true,if_pos g]
theorem Xvj {t:Xai} {b:List UInt8} (h:(Xip t b).2=0):t.Src.V6=t.Dst.V6∧aok t.Src=true∧aok t.Dst=true∧(t.Proto=6∨t.Proto=17)∧(Xip t b).1.length≤9000 ∧
 ((t.Src.V6=true∧H6 (Xnc t)∧b.length≤65535∧Xip t b=(headB (Xnc t) b.length++b,0))∨(t.Src.V6=false∧H5 (Xku t)=true∧20+b.length≤65535∧Xip t b=(hc5 (Xku t) (20+b.length) (ck5 (Xku t) (20+b.length))++b,0))):=by
 unfold Xip at h ⊢
 by_cases g:t.Src.V6≠t.Dst.V6∨aok t.Src=false∨aok t.Dst=false∨(t.Proto≠6∧t.Proto≠17)
 ·rw [if_pos g] at h;exact absurd h (by decide)
 rw [if_neg g] at h ⊢
 by_cases g2:(Xnj t b).2=0∧9000<(Xnj t b).1.length
 ·rw [if_pos g2] at h;exact absurd h (by decide)
 rw [if_neg g2] at h ⊢
 have hlen:(Xnj t b).1.length≤9000:=by
  rcases Nat.lt_or_ge 9000 (Xnj t b).1.length with x|x
  ·exact absurd ⟨h,x⟩ g2
  ·exact x
 have e1:t.Src.V6=t.Dst.V6:=Decidable.byContradiction fun x=>g (.inl x)
 have e2:aok t.Src=true:=by cases x:aok t.Src;· exact absurd (.inr (.inl x)) g
                            ·rfl
 have e3:aok t.Dst=true:=by cases x:aok t.Dst;· exact absurd (.inr (.inr (.inl x))) g
                            ·rfl
 have e4:t.Proto=6∨t.Proto=17:=by
  rcases Decidable.em (t.Proto=6) with x|x
  ·exact .inl x
  ·exact .inr (Decidable.byContradiction fun y=>g (.inr (.inr (.inr ⟨x,y⟩))))
 refine ⟨e1,e2,e3,e4,hlen,?_⟩
 unfold Xnj at h ⊢
 cases hv:t.Src.V6
 ·right
  rw [hv,cond_false] at h
  rw [cond_false]
  unfold XTB at h ⊢
  cases hh:H5 (Xku t)
  ·rw [if_pos hh] at h;exact absurd h (by decide)
  rw [if_neg (by rw [hh];decide)] at h
  rw [if_neg (by decide)]
  by_cases hl:65535 - (20+((Xku t).Options.length:Int))<b.length
  ·rw [if_pos hl] at h;exact absurd h (by decide)
  have ho:(Xku t).Options.length=0:=rfl
  rw [if_neg hl]
  refine ⟨rfl,rfl,by omega,?_⟩
  rw [show (20+((Xku t).Options.length:Int)+b.length)=((20+b.length:Nat):Int) by omega,XP3 hv (by rw [←hv];exact e1.symm),XNm]
  have:(65535 - ((norm (Xdp (hc5 (Xku t) (20+b.length) 0)):Nat):Int)).toNat=ck5 (Xku t) (20+b.length):=by
   have:=norm_le (Xdp (hc5 (Xku t) (20+b.length) 0))
   unfold ck5;omega
  rw [this]
 ·left
  rw [hv,cond_true] at h
  rw [cond_true]
  unfold XR0 at h ⊢
  by_cases hh:H6 (Xnc t)
  ·rw [if_neg (by simpa using hh)] at h ⊢
   by_cases hl:b.length>65535
   ·rw [if_pos hl] at h;exact absurd h (by decide)
   rw [if_neg hl]
   exact ⟨rfl,hh,by omega,rfl⟩
  ·rw [if_pos hh] at h;exact absurd h (by decide)
theorem Xwt:∀ i:Fin 16,i.val≠14→Nat.testBit 18446744073709535231 i.val=true:=by decide +kernel
theorem Xws {x:Nat} (hx:x<65536):x &&& 18446744073709535231=0↔x=0∨x=16384:=by
 constructor
 ·intro h
  have hbit:∀ i,i≠14→x.testBit i=false:=by
   intro i hi
   by_cases h16:i<16
   ·have h1:(x &&& 18446744073709535231).testBit i=false:=by rw [h];exact Nat.zero_testBit i
    rw [Nat.testBit_and,Xwt ⟨i,h16⟩ hi,Bool.and_true] at h1
    exact h1
   ·exact Nat.testBit_lt_two_pow (Nat.lt_of_lt_of_le hx (by
     have:2^16≤2^i:=Nat.pow_le_pow_right (by decide) (by omega)
     omega))
  cases h14:x.testBit 14
  ·left
   apply Nat.eq_of_testBit_eq
   intro i
   rw [Nat.zero_testBit]
   by_cases hi:i=14
   ·rw [hi,h14]
   ·exact hbit i hi
  ·right
   apply Nat.eq_of_testBit_eq
   intro i
   rw [show (16384:Nat)=2^14 from rfl,Nat.testBit_two_pow]
   by_cases hi:i=14
   ·rw [hi,h14];rfl
   ·rw [hbit i hi,decide_eq_false (fun e=>hi e.symm)]
 ·rintro (h|h)
  ·rw [h];rfl
  ·rw [h];rfl
theorem XOj {x:Nat} (hx:x<65536):Xks .i64 (x:Int) 16384=((x &&& 18446744073709535231:Nat):Int):=by
 have h:x &&& 18446744073709535231≤x:=Nat.and_le_left
 show IntKind.wrap .i64 _=_
 rw [show IntKind.bits .i64=64 from rfl,BitVec.toNat_and,XMp (by omega),show (~~~ (BitVec.ofInt 64 16384)).toNat=18446744073709535231 from rfl]
 exact Xe0 (by omega) (by omega)
theorem XzD {a b:UInt8}:(Xks .i64 ((a.toNat:Int)*256+b.toNat) 16384 !=0)=decide ((a.toNat:Int)*256+b.toNat≠0∧(a.toNat:Int)*256+b.toNat≠16384):=by
 have h1:=a.toNat_lt
 have h2:=b.toNat_lt
 have hx:a.toNat*256+b.toNat<65536:=by omega
 rw [show (a.toNat:Int)*256+b.toNat=((a.toNat*256+b.toNat:Nat):Int) by omega,XOj hx,Bool.eq_iff_iff,bne_iff_ne,decide_eq_true_eq]
 have hz:=Xws hx
 generalize a.toNat*256+b.toNat=x at *
 generalize x &&& 18446744073709535231=y at *
 constructor
 ·intro h
  have:¬ (x=0∨x=16384):=fun e=>h (by have:=hz.2 e;omega)
  omega
 ·intro h e
  have:=hz.1 (by omega)
  omega
end Go.Vm.Code
namespace Go.Vm.Code
open Go Go.Vm Go.Proofs
set_option maxRecDepth 100000
set_option maxHeartbeats 4000000
set_option linter.unusedVariables false
def XkF (Xax:Xby) (s:List UInt8):Option (Xag×Bool):=
 cond ((s.length:Int)==4)
  (
  (Xax s 0 4).bind fun xg=>
  some ((Xag.mk false 0 xg.1,true)))
  (
  cond ((s.length:Int)==16)
   (
   (Xax s 0 8).bind fun xg1=>
   (Xax s 8 8).bind fun xg2=>
   some ((Xag.mk true xg1.1 xg2.1,true)))
   (
   some ((Xag.mk false 0 0,false))))
def XEW (x:Xag×Bool):Xc4:=⟨.tuple ⟨[.agg ⟨[.bool x.1.V6,.int .u64 x.1.Hi,.int .u64 x.1.Lo]⟩,.bool x.2]⟩,[],[]⟩
abbrev Xeq:=(List UInt8)→Option (Xag×Bool)
def r136 (g:Xeq):Dec:=dV asS fun (y0:List UInt8)=>XdY (ofG (g y0) XEW)
theorem XQG {g:Xeq} {y0:List UInt8} {x:Xag×Bool} (hx:g y0=some x):r136 g [.string ⟨⟨y0⟩⟩] []=some (XEW x):=(Xbb (Xeb)).trans (Xbc hx)
def s136 (g:Xeq):Xb3:=⟨[.v],r136 g⟩
theorem XxG {g:Xeq} {y0:List UInt8} {x:Xag×Bool} (hx:g y0=some x):(s136 g).run [.string ⟨⟨y0⟩⟩] []=some (XEW x):=XQG hx
abbrev XI4 (Xax:Xby):List (Nat×Xb3):=[(69,s69 Xax)]
theorem XDX (Xax:Xby) (hS:Xar Tryz.prog (XaI (XI4 Xax))) (s:List UInt8) (res:Xag×Bool) (h:XkF Xax s=some res) :
 XaO Tryz.prog 136 0 ⟨⟨136,35,[(0,.string ⟨⟨s⟩⟩)],[.code XAr],[],false,none⟩,[],[],0⟩ (fun v H _=>Res 0 (XEW res) v H):=by
 unfold XkF at h
 have R1:=@Xo3 Xax
 refine XbD XaQ hS true 3000 ?_
 conv=>whnf
 exact W
def Xc1:Xeq:=XkF Xax
theorem XxU:Xb8 Tryz.prog 136 (s136 Xc1):=by
 have hL:=XDX Xax (Xar.Xa6 ⟨XqQ,trivial⟩)
 exact okA ⟨Tryz.f136,rfl,by decide,rfl⟩
end Go.Vm.Code
namespace Go.Vm.Code
open Go Go.Vm
theorem Xqp {s:List UInt8} (h:s.length=16):Xc1 s=some (Xts s,true):=by
 unfold Xc1 XkF
 have e1:((s.length:Int)==4)=false:=by rw [h];rfl
 have e2:((s.length:Int)==16)=true:=by rw [h];rfl
 have e3:(s.drop 8).take 8=s.drop 8:=List.take_of_length_le (by simp;omega)
 rw [e1,e2,cond_false,cond_true,XeL (by omega),XeL (by omega),Xq4 (p:=0) (k:=8) (by omega) (by omega) (by omega) (by omega),Xq4 (p:=8) (k:=8) (by omega) (by omega) (by omega) (by omega)]
 show some ((⟨true,((XeY ((s.drop 0).take 8):Nat):Int),((XeY ((s.drop 8).take 8):Nat):Int)⟩:Xag),true)=_
 rw [e3];rfl
def XwS (s:List UInt8) (p:Nat):Xag:=⟨false,0,vK s p 4⟩
theorem aget4 {s:List UInt8} (h:s.length=4):Xc1 s=some (⟨false,0,vK s 0 4⟩,true):=by
 unfold Xc1 XkF
 rw [show ((s.length:Int)==4)=true by rw [h];rfl,cond_true,XeL (by omega),Xq4 (by omega) (by omega) (by omega) (by omega)];rfl
end Go.Vm.Code
namespace Go.Vm.Code
open Go Go.Vm Go.Proofs
set_option maxRecDepth 100000
set_option maxHeartbeats 4000000
set_option linter.unusedVariables false
def Xey (Xc1:Xeq) (Xae:Xaz) (f:Xdc):Option (Xag×Xaj):=
 (Xae f.Reader 4).bind fun t=>
 (Xc1 t.1).bind fun xg=>
 some ((xg.1,t.2))
def XEG (x:Xag×Xaj):Xc4:=⟨.agg ⟨[.bool x.1.V6,.int .u64 x.1.Hi,.int .u64 x.1.Lo]⟩,[],[some [.string ⟨⟨x.2.s⟩⟩,.bool x.2.made,.bool x.2.bad]]⟩
abbrev Xcf:=Xdc→Option (Xag×Xaj)
def r135 (g:Xcf):Dec:=dTr 1 (Xhx 0) fun (y0:Xdc)=>XdY (ofG (g y0) XEG)
theorem XSS {g:Xcf} {y0:Xdc} {x:Xag×Xaj} (hx:g y0=some x):r135 g [.agg ⟨[.pointer (some ⟨0,0,none⟩)]⟩] [some [.string ⟨⟨y0.Reader.s⟩⟩,.bool y0.Reader.made,.bool y0.Reader.bad]]=some (XEG x):=(Xkm rfl rfl (XnJ 0 _)).trans (Xbc hx)
def s135 (g:Xcf):Xb3:=⟨[.tr [⟨none,0,0,1,none⟩]],r135 g⟩
theorem XIw {g:Xcf} {y0:Xdc} {x:Xag×Xaj} (hx:g y0=some x):(s135 g).run [.agg ⟨[.pointer (some ⟨0,0,none⟩)]⟩] [some [.string ⟨⟨y0.Reader.s⟩⟩,.bool y0.Reader.made,.bool y0.Reader.bad]]=some (XEG x):=XSS hx
abbrev XKg (Xc1:Xeq) (Xae:Xaz):List (Nat×Xb3):=[(136,s136 Xc1),(86,s86 Xae)]
theorem XBP (Xc1:Xeq) (Xae:Xaz) (hS:Xar Tryz.prog (XaI (XKg Xc1 Xae))) (f:Xdc) (res:Xag×Xaj) (h:Xey Xc1 Xae f=some res) :
 XaO Tryz.prog 135 1 ⟨⟨135,13,[(0,.agg ⟨[.pointer (some ⟨0,0,none⟩)]⟩)],[.code XFu],[],false,none⟩,[],[(0,.cells [.string ⟨⟨f.Reader.s⟩⟩,.bool f.Reader.made,.bool f.Reader.bad])],1⟩ (fun v H _=>Res 1 (XEG res) v H):=by
 unfold Xey at h
 have R1:=@Xn1 Xae
 have R2:=@XxG Xc1
 refine XbD XaQ hS true 3000 ?_
 conv=>whnf
 exact W
def Xbn:Xcf:=Xey Xc1 Xae
theorem XJd:Xb8 Tryz.prog 135 (s135 Xbn):=by
 have hL:=XBP Xc1 Xae (Xar.Xa6 ⟨XxU,Xn0,trivial⟩)
 exact okA ⟨Tryz.f135,rfl,by decide,rfl⟩
def Xkc (XaP:Xb5) (Xbn:Xcf) (XaR:XbX) (Xaa:XaH) (Xae:Xaz) (s:List UInt8):Option (XaD×(List UInt8)×Int):=
 cond (decide ((s.length:Int)<20))
  (
  some ((XaD.mk 0 0 false 0 0 (Xag.mk false 0 0) (Xag.mk false 0 0) [],[],2)))
  (
  (XaR s).bind fun n=>
  (Xaa n 1).bind fun n1=>
  (Xaa n1.2 1).bind fun n2=>
  (Xaa n2.2 2).bind fun n3=>
  cond ((n1.1.fdiv (2^4)) !=4)
   (
   some ((XaD.mk 0 0 false 0 0 (Xag.mk false 0 0) (Xag.mk false 0 0) [],[],3)))
   (
   let t:=decide ((wI .i64 ((Xm8 .i64 n1.1 15)*4))<20)
   cond (t)
    (
    some ((XaD.mk 0 0 false 0 0 (Xag.mk false 0 0) (Xag.mk false 0 0) [],[],3)))
    (
    let t1:=decide (n3.1<(wI .i64 ((Xm8 .i64 n1.1 15)*4)))
    cond (t1)
     (
     some ((XaD.mk 0 0 false 0 0 (Xag.mk false 0 0) (Xag.mk false 0 0) [],[],3)))
     (
     cond (decide (n3.1>(s.length:Int)))
      (
      some ((XaD.mk 0 0 false 0 0 (Xag.mk false 0 0) (Xag.mk false 0 0) [],[],2)))
      (
      XbU (decide ((0:Int)≤(wI .i64 ((Xm8 .i64 n1.1 15)*4))∧(wI .i64 ((Xm8 .i64 n1.1 15)*4))≤(s.length:Int))) <|
      let t2:=s.take (wI .i64 ((Xm8 .i64 n1.1 15)*4)).toNat
      (XaP t2).bind fun xr=>
      cond (!xr)
       (
       some ((XaD.mk 0 0 false 0 0 (Xag.mk false 0 0) (Xag.mk false 0 0) [],[],4)))
       (
       (Xaa n3.2 2).bind fun n4=>
       (Xaa n4.2 2).bind fun n5=>
       cond ((Xks .i64 n5.1 16384) !=0)
        (
        some ((XaD.mk 0 0 false 0 0 (Xag.mk false 0 0) (Xag.mk false 0 0) [],[],7)))
        (
        (Xaa n5.2 1).bind fun n6=>
        (Xaa n6.2 1).bind fun n7=>
        (Xaa n7.2 2).bind fun n8=>
        (Xbn (Xdc.mk n8.2)).bind fun a=>
        (Xbn (Xdc.mk a.2)).bind fun a1=>
        let t3:=wI .i64 ((wI .i64 ((Xm8 .i64 n1.1 15)*4)) - 20)
        (Xae a1.2 t3).bind fun t4=>
        let t5:=wI .i64 (n3.1 - (wI .i64 ((Xm8 .i64 n1.1 15)*4)))
        (Xae t4.2 t5).bind fun t6=>
        some ((XaD.mk n2.1 n4.1 (n5.1 !=0) n6.1 n7.1 a.1 a1.1 t4.1,t6.1,0)))))))))
def XDv (x:XaD×(List UInt8)×Int):Xc4:=⟨.tuple ⟨[.agg ⟨[.int .i64 x.1.Class,.int .i64 x.1.Mark,.bool x.1.Whole,.int .i64 x.1.TTL,.int .i64 x.1.Proto,.bool x.1.Src.V6,.int .u64 x.1.Src.Hi,.int .u64 x.1.Src.Lo,.bool x.1.Dst.V6,.int .u64 x.1.Dst.Hi,.int .u64 x.1.Dst.Lo,.string ⟨⟨x.1.Options⟩⟩]⟩,.string ⟨⟨x.2.1⟩⟩,.int .i64 x.2.2]⟩,[],[]⟩
abbrev XeW:=(List UInt8)→Option (XaD×(List UInt8)×Int)
def r129 (g:XeW):Dec:=dV asS fun (y0:List UInt8)=>XdY (ofG (g y0) XDv)
theorem XPR {g:XeW} {y0:List UInt8} {x:XaD×(List UInt8)×Int} (hx:g y0=some x):r129 g [.string ⟨⟨y0⟩⟩] []=some (XDv x):=(Xbb (Xeb)).trans (Xbc hx)
def s129 (g:XeW):Xb3:=⟨[.v],r129 g⟩
theorem XMa {g:XeW} {y0:List UInt8} {x:XaD×(List UInt8)×Int} (hx:g y0=some x):(s129 g).run [.string ⟨⟨y0⟩⟩] []=some (XDv x):=XPR hx
abbrev XMM (XaP:Xb5) (Xbn:Xcf) (XaR:XbX) (Xaa:XaH) (Xae:Xaz):List (Nat×Xb3):=[(54,s54 XaP),(135,s135 Xbn),(51,s51 XaR),(52,s52 Xaa),(86,s86 Xae)]
theorem XDY (XaP:Xb5) (Xbn:Xcf) (XaR:XbX) (Xaa:XaH) (Xae:Xaz) (hS:Xar Tryz.prog (XaI (XMM XaP Xbn XaR Xaa Xae))) (s:List UInt8) (res:XaD×(List UInt8)×Int) (h:Xkc XaP Xbn XaR Xaa Xae s=some res) :
 XaO Tryz.prog 129 0 ⟨⟨129,102,[(0,.string ⟨⟨s⟩⟩)],[.code XzX],[],false,none⟩,[],[],0⟩ (fun v H _=>Res 0 (XDv res) v H):=by
 unfold Xkc at h
 have R1:=@XqE XaR
 have R2:=@XkV Xaa
 have R3:=@Xvy XaP
 have R4:=@XIw Xbn
 have R5:=@Xn1 Xae
 refine XbD XaQ hS true 3000 ?_
 conv=>whnf
 exact W
def Xep:XeW:=Xkc XaP Xbn XaR Xaa Xae
theorem XJ8:Xb8 Tryz.prog 129 (s129 Xep):=by
 have hL:=XDY XaP Xbn XaR Xaa Xae (Xar.Xa6 ⟨XuY,XJd,Xqf,XoS,Xn0,trivial⟩)
 exact okA ⟨Tryz.f129,rfl,by decide,rfl⟩
end Go.Vm.Code
namespace Go.Vm.Code
open Go Go.Vm
def Xrj:XaD:=⟨0,0,false,0,0,⟨false,0,0⟩,⟨false,0,0⟩,[]⟩
def XjF (s:List UInt8):XaD×List UInt8×Int:=
 if s.length<20 then (Xrj,[],2) else if vK s 0 1/16≠4 then (Xrj,[],3) else if vK s 0 1%16*4<20 then (Xrj,[],3) else if vK s 2 2<vK s 0 1%16*4 then (Xrj,[],3) else if (s.length:Int)<vK s 2 2 then (Xrj,[],2) else
  if norm (Xdp (s.take (vK s 0 1%16*4).toNat))≠65535 then (Xrj,[],4) else if vK s 6 2≠0∧vK s 6 2≠16384 then (Xrj,[],7) else
   (⟨vK s 1 1,vK s 4 2,vK s 6 2 !=0,vK s 8 1,vK s 9 1,XwS s 12,XwS s 16,(s.drop 20).take ((vK s 0 1%16*4).toNat - 20)⟩,(s.drop (vK s 0 1%16*4).toNat).take ((vK s 2 2).toNat - (vK s 0 1%16*4).toNat),0)
theorem XRz (s:List UInt8) (p:Nat):vK ((s.drop p).take 4) 0 4=vK s p 4:=by unfold vK;simp [List.take_take]
theorem XOt {s:List UInt8} {p:Nat} (h:p+4≤s.length):Xbn ⟨⟨s.drop p,true,false⟩⟩=some (XwS s p,⟨s.drop (p+4),true,false⟩):=by
 unfold Xbn Xey
 rw [show (4:Int)=((4:Nat):Int) from rfl,Xr0 h,Option.bind_some,aget4 (by simp;omega),Option.bind_some,XRz];rfl
theorem g5_eq {s:List UInt8} (hs:s.length<2^38):Xep s=some (XjF s):=by
 unfold Xep Xkc XjF
 by_cases h0:s.length<20
 ·rw [XbB (by omega),if_pos h0];rfl
 rw [Xbd (by omega),if_neg h0,Xl2,Option.bind_some]
 have N:∀ (p k:Nat),1≤k→k≤7→p+k≤20→Xaa ⟨s.drop p,true,false⟩ (k:Int)=some (vK s p k,⟨s.drop (p+k),true,false⟩):=fun p k a b c=>XHv a b (by omega) (by omega)
 have N0:Xaa ⟨s,true,false⟩ 1=some (vK s 0 1,⟨s.drop 1,true,false⟩):=N 0 1 (by omega) (by omega) (by omega)
 have N1:Xaa ⟨s.drop 1,true,false⟩ 1=some (vK s 1 1,⟨s.drop 2,true,false⟩):=N 1 1 (by omega) (by omega) (by omega)
 have N2:Xaa ⟨s.drop 2,true,false⟩ 2=some (vK s 2 2,⟨s.drop 4,true,false⟩):=N 2 2 (by omega) (by omega) (by omega)
 have N4:Xaa ⟨s.drop 4,true,false⟩ 2=some (vK s 4 2,⟨s.drop 6,true,false⟩):=N 4 2 (by omega) (by omega) (by omega)
 have N6:Xaa ⟨s.drop 6,true,false⟩ 2=some (vK s 6 2,⟨s.drop 8,true,false⟩):=N 6 2 (by omega) (by omega) (by omega)
 have N8:Xaa ⟨s.drop 8,true,false⟩ 1=some (vK s 8 1,⟨s.drop 9,true,false⟩):=N 8 1 (by omega) (by omega) (by omega)
 have N9:Xaa ⟨s.drop 9,true,false⟩ 1=some (vK s 9 1,⟨s.drop 10,true,false⟩):=N 9 1 (by omega) (by omega) (by omega)
 have N10:Xaa ⟨s.drop 10,true,false⟩ 2=some (vK s 10 2,⟨s.drop 12,true,false⟩):=N 10 2 (by omega) (by omega) (by omega)
 rw [N0,Option.bind_some,N1,Option.bind_some,N2,Option.bind_some]
 simp only []
 rw [N4]
 simp only [Option.bind_some]
 rw [N6,XsM,show ((2:Int)^4)=16 from rfl]
 have r0:=XkD s 0 1 256 (by decide)
 have r2:=XkD s 2 2 65536 (by decide)
 have ea:Xm8 .i64 (vK s 0 1) 15=vK s 0 1%16:=XiZ 4 rfl (by omega) (by omega) (by omega)
 rw [ea,Xe0 (n:=vK s 0 1%16*4) (by omega) (by omega)]
 have hz:(⟨0,0,false,0,0,⟨false,0,0⟩,⟨false,0,0⟩,[]⟩:XaD)=Xrj:=rfl
 rw [hz]
 by_cases g1:vK s 0 1/16=4
 ·rw [show (vK s 0 1/16 !=4)=false by simpa using g1,cond_false,if_neg (by simpa using g1)]
  obtain ⟨t,ht⟩:=Int.eq_ofNat_of_zero_le (show 0≤vK s 0 1%16*4 by omega)
  rw [ht]
  simp only [Option.bind_some,Int.toNat_natCast]
  by_cases g2:(t:Int)<20
  ·rw [XbB g2,if_pos g2]
  rw [Xbd g2,if_neg g2]
  by_cases g3:vK s 2 2<t
  ·rw [XbB g3,if_pos g3]
  rw [Xbd g3,if_neg g3]
  by_cases g4:(s.length:Int)<vK s 2 2
  ·rw [XbB (by omega),if_pos g4]
  rw [Xbd (by omega),if_neg g4,Xa9 (by omega),Xod (by simp;omega),Option.bind_some]
  by_cases g5:norm (Xdp (s.take t))=65535
  ·rw [if_neg (by simpa using g5),g5]
   simp only [show ((((65535:Nat):Int)==65535))=true from rfl,Bool.not_true,cond_false]
   have e6:=XHy (s:=s) (p:=6) (by omega)
   rw [show (Xks .i64 (vK s 6 2) 16384 !=0)=decide (vK s 6 2≠0∧vK s 6 2≠16384) by rw [e6];exact XzD,Xvg]
   split
   ·rfl
   obtain ⟨m,hm⟩:=Int.eq_ofNat_of_zero_le r2.1
   rw [N8,Option.bind_some,N9,Option.bind_some,N10,Option.bind_some,XOt (by omega),Option.bind_some,XOt (by omega),Option.bind_some,Xe0 (n:=(t:Int) - 20) (by omega) (by omega),hm,Xe0 (n:=(m:Int) - t) (by omega) (by omega)]
   simp only []
   rw [show (t:Int) - 20=((t - 20:Nat):Int) by omega,show (m:Int) - t=((m - t:Nat):Int) by omega,Xr0 (by omega),Option.bind_some]
   simp only []
   rw [Xr0 (by omega),Option.bind_some,show 12+4+4+(t - 20)=t by omega,Int.toNat_natCast]
  ·rw [if_pos (by simpa using g5),show ((((norm (Xdp (s.take t)):Nat):Int)==65535))=false by simp;omega];rfl
 ·rw [show (vK s 0 1/16 !=4)=true by simpa using g1,cond_true,if_pos (by simpa using g1)]
end Go.Vm.Code
namespace Go.Vm.Code
open Go Go.Vm Go.Proofs
set_option maxRecDepth 100000
set_option maxHeartbeats 4000000
set_option linter.unusedVariables false
def Xk4 (Xc1:Xeq) (XaR:XbX) (Xam:XaK) (Xaa:XaH) (Xae:Xaz) (s:List UInt8):Option (XaX×(List UInt8)×Int):=
 (XaR s).bind fun n=>
 (Xaa n 4).bind fun n1=>
 (Xaa n1.2 2).bind fun n2=>
 (Xaa n2.2 1).bind fun n3=>
 (Xaa n3.2 1).bind fun n4=>
 (Xae n4.2 16).bind fun t=>
 (Xae t.2 16).bind fun t1=>
 (Xam t1.2).bind fun b=>
 cond (b.1)
  (
  some ((XaX.mk 0 0 0 0 (Xag.mk false 0 0) (Xag.mk false 0 0),[],2)))
  (
  cond ((n1.1.fdiv (2^28)) !=6)
   (
   some ((XaX.mk 0 0 0 0 (Xag.mk false 0 0) (Xag.mk false 0 0),[],3)))
   (
   (Xc1 t.1).bind fun xg=>
   (Xc1 t1.1).bind fun xg1=>
   (Xae b.2 n2.1).bind fun t2=>
   (Xam t2.2).bind fun b1=>
   cond (b1.1)
    (
    some ((XaX.mk 0 0 0 0 (Xag.mk false 0 0) (Xag.mk false 0 0),[],2)))
    (
    some ((XaX.mk (Xm8 .i64 (n1.1.fdiv (2^20)) 255) (Xm8 .i64 n1.1 1048575) n3.1 n4.1 xg.1 xg1.1,t2.1,0)))))
def XBC (x:XaX×(List UInt8)×Int):Xc4:=⟨.tuple ⟨[.agg ⟨[.int .i64 x.1.Class,.int .i64 x.1.Label,.int .i64 x.1.Next,.int .i64 x.1.Hop,.bool x.1.Src.V6,.int .u64 x.1.Src.Hi,.int .u64 x.1.Src.Lo,.bool x.1.Dst.V6,.int .u64 x.1.Dst.Hi,.int .u64 x.1.Dst.Lo]⟩,.string ⟨⟨x.2.1⟩⟩,.int .i64 x.2.2]⟩,[],[]⟩
abbrev Xft:=(List UInt8)→Option (XaX×(List UInt8)×Int)
def r130 (g:Xft):Dec:=dV asS fun (y0:List UInt8)=>XdY (ofG (g y0) XBC)
theorem XTD {g:Xft} {y0:List UInt8} {x:XaX×(List UInt8)×Int} (hx:g y0=some x):r130 g [.string ⟨⟨y0⟩⟩] []=some (XBC x):=(Xbb (Xeb)).trans (Xbc hx)
def s130 (g:Xft):Xb3:=⟨[.v],r130 g⟩
theorem XIe {g:Xft} {y0:List UInt8} {x:XaX×(List UInt8)×Int} (hx:g y0=some x):(s130 g).run [.string ⟨⟨y0⟩⟩] []=some (XBC x):=XTD hx
abbrev XMG (Xc1:Xeq) (XaR:XbX) (Xam:XaK) (Xaa:XaH) (Xae:Xaz):List (Nat×Xb3):=[(136,s136 Xc1),(51,s51 XaR),(95,s95 Xam),(52,s52 Xaa),(86,s86 Xae)]
theorem XB0 (Xc1:Xeq) (XaR:XbX) (Xam:XaK) (Xaa:XaH) (Xae:Xaz) (hS:Xar Tryz.prog (XaI (XMG Xc1 XaR Xam Xaa Xae))) (s:List UInt8) (res:XaX×(List UInt8)×Int) (h:Xk4 Xc1 XaR Xam Xaa Xae s=some res) :
 XaO Tryz.prog 130 0 ⟨⟨130,59,[(0,.string ⟨⟨s⟩⟩)],[.code Xx3],[],false,none⟩,[],[],0⟩ (fun v H _=>Res 0 (XBC res) v H):=by
 unfold Xk4 at h
 have R1:=@XqE XaR
 have R2:=@XkV Xaa
 have R3:=@Xn1 Xae
 have R4:=@Xo4 Xam
 have R5:=@XxG Xc1
 refine XbD XaQ hS true 3000 ?_
 conv=>whnf
 exact W
def Xfg:Xft:=Xk4 Xc1 XaR Xam Xaa Xae
theorem XKp:Xb8 Tryz.prog 130 (s130 Xfg):=by
 have hL:=XB0 Xc1 XaR Xam Xaa Xae (Xar.Xa6 ⟨XxU,Xqf,Xql,XoS,Xn0,trivial⟩)
 exact okA ⟨Tryz.f130,rfl,by decide,rfl⟩
end Go.Vm.Code
namespace Go.Vm.Code
open Go Go.Vm
def zero6:XaX:=⟨0,0,0,0,⟨false,0,0⟩,⟨false,0,0⟩⟩
def XsT (s:List UInt8):XaX:=
 let m:=XeY (s.take 4)
 ⟨((m/2^20%256:Nat):Int),((m%2^20:Nat):Int),((XeY ((s.drop 6).take 1):Nat):Int),((XeY ((s.drop 7).take 1):Nat):Int),Xts ((s.drop 8).take 16),Xts ((s.drop 24).take 16)⟩
def Xly (s:List UInt8):XaX×List UInt8×Int:=
 if s.length<40 then (zero6,[],2) else if XeY (s.take 4)/2^28≠6 then (zero6,[],3) else if s.length - 40<XeY ((s.drop 4).take 2) then (zero6,[],2) else
  (XsT s,(s.drop 40).take (XeY ((s.drop 4).take 2)),0)
theorem XMc {s:List UInt8} (h:s.length<2^60):Xfg s=some (Xly s):=by
 unfold Xfg Xk4
 rw [Xl2,Option.bind_some]
 by_cases hs:s.length<40
 ·have e:Xly s=(zero6,[],2):=by unfold Xly;rw [if_pos hs]
  rw [XdM rfl (by simp only [];omega),Option.bind_some]
  simp only []
  have b1:∀ (r:Xaj) (k:Int),(rdr r k).s.length≤r.s.length:=by intro r k;unfold rdr;split<;>simp
  have l1:=b1 ⟨s,true,false⟩ (if (4:Int)<1∨(4:Int)>7 then -1 else 4)
  simp only at l1
  generalize hr1:rdr ⟨s,true,false⟩ (if (4:Int)<1∨(4:Int)>7 then -1 else 4)=r1 at *
  have m1:r1.made=true:=by rw [←hr1];exact XeQ _ _
  rw [XdM m1 (by omega),Option.bind_some]
  simp only []
  have l2:=b1 r1 (if (2:Int)<1∨(2:Int)>7 then -1 else 2)
  generalize hr2:rdr r1 (if (2:Int)<1∨(2:Int)>7 then -1 else 2)=r2 at *
  have m2:r2.made=true:=by rw [←hr2];exact XeQ _ _
  rw [XdM m2 (by omega),Option.bind_some]
  simp only []
  have l3:=b1 r2 (if (1:Int)<1∨(1:Int)>7 then -1 else 1)
  generalize hr3:rdr r2 (if (1:Int)<1∨(1:Int)>7 then -1 else 1)=r3 at *
  have m3:r3.made=true:=by rw [←hr3];exact XeQ _ _
  rw [XdM m3 (by omega),Option.bind_some]
  simp only []
  have l4:=b1 r3 (if (1:Int)<1∨(1:Int)>7 then -1 else 1)
  generalize hr4:rdr r3 (if (1:Int)<1∨(1:Int)>7 then -1 else 1)=r4 at *
  have m4:r4.made=true:=by rw [←hr4];exact XeQ _ _
  rw [Xgg m4,Option.bind_some]
  simp only []
  generalize hr5:rdr r4 16=r5 at *
  have m5:r5.made=true:=by rw [←hr5];exact XeQ _ _
  rw [Xgg m5,Option.bind_some]
  simp only []
  generalize hr6:rdr r5 16=r6 at *
  have m6:r6.made=true:=by rw [←hr6];exact XeQ _ _
  rw [XfR m6,Option.bind_some]
  have hb:r6.bad=true:=by
   cases hb:r6.bad with
   | true=>rfl
   | false=>
     exfalso
     obtain ⟨a5,n6⟩:=Xib hr6 hb
     obtain ⟨a4,n5⟩:=Xib hr5 a5
     obtain ⟨a3,n4⟩:=Xib hr4 a4
     obtain ⟨a2,n3⟩:=Xib hr3 a3
     obtain ⟨a1,n2⟩:=Xib hr2 a2
     obtain ⟨a0,n1⟩:=Xib hr1 a1
     rw [show (if (4:Int)<1∨(4:Int)>7 then -1 else 4:Int)=4 by decide] at n1
     simp only at n1
     omega
  simp only [hb,cond_true]
  rw [e];rfl
 ·have i4:(if (4:Int)<1∨(4:Int)>7 then -1 else 4:Int)=4:=by decide
  have i2:(if (2:Int)<1∨(2:Int)>7 then -1 else 2:Int)=2:=by decide
  have i1:(if (1:Int)<1∨(1:Int)>7 then -1 else 1:Int)=1:=by decide
  have t4:(4:Int).toNat=4:=rfl
  have t2:(2:Int).toNat=2:=rfl
  have t1:(1:Int).toNat=1:=rfl
  have t16:(16:Int).toNat=16:=rfl
  rw [XdM rfl (by simp only [];omega),Option.bind_some]
  simp only [rdn,i4]
  rw [Xgy (by omega) (by omega),XgI (by omega) (by omega),t4]
  rw [XdM rfl (by simp;omega),Option.bind_some]
  simp only [rdn,i2]
  rw [Xgy (by omega) (by simp;omega),XgI (by omega) (by simp;omega),t2,List.drop_drop]
  rw [XdM rfl (by simp;omega),Option.bind_some]
  simp only [rdn,i1]
  rw [Xgy (by omega) (by simp;omega),XgI (by omega) (by simp;omega),t1,List.drop_drop]
  rw [XdM rfl (by simp;omega),Option.bind_some]
  simp only [rdn,i1]
  rw [Xgy (by omega) (by simp;omega),XgI (by omega) (by simp;omega),t1,List.drop_drop]
  rw [Xgg rfl,Option.bind_some]
  simp only []
  rw [Xgy (by omega) (by simp;omega),XgI (by omega) (by simp;omega),t16,List.drop_drop]
  rw [Xgg rfl,Option.bind_some]
  simp only []
  rw [Xgy (by omega) (by simp;omega),XgI (by omega) (by simp;omega),t16,List.drop_drop]
  rw [XfR rfl,Option.bind_some]
  simp only [cond_false,Nat.reduceAdd]
  have v4:XeY (s.take 4)<2^32:=XeZ _ (by decide)
  have v2:XeY ((s.drop 4).take 2)<2^16:=XeZ _ (by decide)
  unfold Xly
  rw [if_neg hs]
  have e1:((((XeY (s.take 4):Nat):Int).fdiv (2^28)) !=6)=decide (XeY (s.take 4)/2^28≠6):=by
   rw [XsM,Bool.eq_iff_iff,bne_iff_ne,decide_eq_true_eq];omega
  rw [e1]
  by_cases h6:XeY (s.take 4)/2^28≠6
  ·rw [XbB h6,if_pos h6];rfl
  rw [Xbd h6,if_neg h6]
  rw [Xqp (by simp;omega),Xqp (by simp;omega)]
  simp only [Option.bind_some]
  rw [Xgg rfl,Option.bind_some]
  by_cases hn:s.length - 40<XeY ((s.drop 4).take 2)
  ·rw [XfR (XeQ _ _),Option.bind_some]
   have hb:(rdr ⟨s.drop 40,true,false⟩ ((XeY ((s.drop 4).take 2):Nat):Int)).bad=true:=by
    cases hb:(rdr ⟨s.drop 40,true,false⟩ ((XeY ((s.drop 4).take 2):Nat):Int)).bad with
    | true=>rfl
    | false=>
      exfalso
      obtain ⟨_,_,c⟩:=XtG.1 hb
      simp at c;omega
   simp only [hb,cond_true]
   rw [if_pos hn];rfl
  ·rw [Xgy (by omega) (by simp;omega),XgI (by omega) (by simp;omega),XfR rfl,Option.bind_some]
   simp only [cond_false,Int.toNat_natCast]
   rw [if_neg hn]
   unfold XsT
   simp only []
   have e2:Xm8 .i64 ((((XeY (s.take 4):Nat):Int)).fdiv (2^20)) 255=((XeY (s.take 4)/2^20%256:Nat):Int):=by
    rw [XsM,XiZ (m:=255) 8 (by decide) (by decide) (by omega) (by omega)];omega
   have e3:Xm8 .i64 ((XeY (s.take 4):Nat):Int) 1048575=((XeY (s.take 4)%2^20:Nat):Int):=by
    rw [XiZ (m:=1048575) 20 (by decide) (by decide) (by omega) (by omega)];omega
   rw [e2,e3]
end Go.Vm.Code
namespace Go.Vm.Code
open Go Go.Vm Go.Proofs
set_option maxRecDepth 100000
set_option maxHeartbeats 4000000
set_option linter.unusedVariables false
def Xg1 (Xax:Xby) (text:List UInt8) (i:Int):Option (Sum Int (Int×Int×Int)):=
 cond (decide (i<(text.length:Int)))
  (
  XbU (decide (0≤i)) <|
  (text[i.toNat]?).bind fun (b:UInt8)=>
  cond ((b.toNat:Int)==0)
   (
   some (.inr ((0,0,(-1)))))
   (
   cond ((b.toNat:Int)==1)
    (
    some (.inl (wI .i64 (i+1))))
    (
    let t:=decide ((wI .i64 (i+1))<(text.length:Int))
    cond (t)
     (
     XbU (decide (0≤(wI .i64 (i+1)))) <|
     (text[(wI .i64 (i+1)).toNat]?).bind fun (b1:UInt8)=>
     cond (decide ((wI .i64 (b1.toNat:Int))<2))
      (
      some (.inr ((0,0,(-1)))))
      (
      let t1:=decide ((wI .i64 (b1.toNat:Int))>(wI .i64 ((text.length:Int) - i)))
      cond (t1)
       (
       some (.inr ((0,0,(-1)))))
       (
       XbU (decide (0≤i)) <|
       (text[i.toNat]?).bind fun (b2:UInt8)=>
       XbU (decide ((0:Int)≤(wI .i64 (i+(wI .i64 (b1.toNat:Int))))∧(wI .i64 (i+(wI .i64 (b1.toNat:Int))))≤(text.length:Int)∧(0:Int)≤(wI .i64 (i+2))∧(wI .i64 (i+2))≤((wI .i64 (i+(wI .i64 (b1.toNat:Int)))).toNat:Int))) <|
       let t2:=(text.drop (wI .i64 (i+2)).toNat).take ((wI .i64 (i+(wI .i64 (b1.toNat:Int)))).toNat - (wI .i64 (i+2)).toNat)
       cond ((wI .i64 (b2.toNat:Int)) !=8)
        (
        some (.inl (wI .i64 (i+(wI .i64 (b1.toNat:Int))))))
        (
        (Xax t2 0 8).bind fun xg=>
        cond (xg.2)
         (
         cond ((t2.length:Int)==8)
          (
          some (.inr ((wI .u32 (xg.1.fdiv (2^32)),wI .u32 xg.1,wI .i64 (i+2)))))
          (
          some (.inr ((0,0,(-1))))))
         (
         some (.inr ((0,0,(-1)))))))))
     (
     some (.inr ((0,0,(-1))))))))
  (
  some (.inr ((0,0,(-1)))))
def Xlb (Xax:Xby) (Xc9:Xd5) (text:List UInt8):Option (Int×Int×Int):=
 (Xc9 text).bind fun l=>
 cond (l.2 !=0)
  (
  some ((0,0,(-1))))
  (
  iter (fun st=>Xg1 Xax text st) FUEL 0)
def XM2 (x:Int×Int×Int):Xc4:=⟨.tuple ⟨[.int .u32 x.1,.int .u32 x.2.1,.int .i64 x.2.2]⟩,[],[]⟩
abbrev XcZ:=(List UInt8)→Option (Int×Int×Int)
def r91 (g:XcZ):Dec:=dV asS fun (y0:List UInt8)=>XdY (ofG (g y0) XM2)
theorem r91_c {g:XcZ} {y0:List UInt8} {x:Int×Int×Int} (hx:g y0=some x):r91 g [.string ⟨⟨y0⟩⟩] []=some (XM2 x):=(Xbb (Xeb)).trans (Xbc hx)
def s91 (g:XcZ):Xb3:=⟨[.v],r91 g⟩
theorem Xyy {g:XcZ} {y0:List UInt8} {x:Int×Int×Int} (hx:g y0=some x):(s91 g).run [.string ⟨⟨y0⟩⟩] []=some (XM2 x):=r91_c hx
abbrev XFD (Xax:Xby) (Xc9:Xd5):List (Nat×Xb3):=[(69,s69 Xax),(119,s119 Xc9)]
def Xk8 (text:List UInt8) (i:Int):VM:=
 ⟨⟨133,62,[(0,.func (.yield 6) #[] #[]),(1,.pointer (some ⟨4,0,none⟩)),(3,.int .i64 i)],[.code Xpz,.inLoop Xpz,.inBlock 0],[],false,none⟩,[⟨91,46,[(2,.pointer (some ⟨0,0,none⟩)),(3,.pointer (some ⟨1,0,none⟩)),(4,.pointer (some ⟨2,0,none⟩))],[.inRangeFunc 6,.inBlock 0,.code XFv],[5],false,none⟩],[(0,.cells [.int .u32 0]),(1,.cells [.int .u32 0]),(2,.cells [.int .i64 0]),(4,.cells [.string ⟨⟨text⟩⟩]),(5,.marks),(6,.loop ⟨.ready,none,91,46,[(2,.pointer (some ⟨0,0,none⟩)),(3,.pointer (some ⟨1,0,none⟩)),(4,.pointer (some ⟨2,0,none⟩))],[19],XRJ,XGe,5⟩)],7⟩
theorem XEe (Xax:Xby) (Xc9:Xd5) (hS:Xar Tryz.prog (XaI (XFD Xax Xc9))) (text:List UInt8) (res:Int×Int×Int):∀ fuel (st:Int) (o:Int×Int×Int),iter (fun st=>Xg1 Xax text st) fuel st=some o→(o=res) →
 XaO Tryz.prog 91 0 (Xk8 text st) (fun v H _=>Res 0 (XM2 res) v H):=by
 intro fuel st o h hc
 refine Xdh (head:=fun st=>Xk8 text st) (C:=fun o=>(o=res)) ?_ fuel st o h hc
 clear h hc o st fuel
 intro i o h hc
 replace h:Xg1 Xax text i=some o:=h
 show XaO Tryz.prog 91 0 (Xk8 text i) (fun v H _=>Res 0 (XM2 res) v H)
 unfold Xg1 at h
 have R1:=@Xo3 Xax
 refine XbD XaQ hS true 3000 ?_
 conv=>whnf
 refine br.h2 h (by rfl) ?_ ?_
 ·clear h;intro hb h;conv=>whnf
  exact W
 clear h;intro hb h;conv=>whnf
 replace h:=XbU.elim h;obtain ⟨hb,h⟩:=h
 try (refine req.intro hb ?_;conv=>whnf)
 replace h:=Xdj.elim h;obtain ⟨b,hy,h⟩:=h
 refine rdS.intro hy ?_
 conv=>whnf
 refine br.h h (by rfl) ?_ ?_
 ·clear h;intro hb h;conv=>whnf
  exact W
 clear h;intro hb h;conv=>whnf
 refine br.h h (by rfl) ?_ ?_
 ·clear h;intro hb h;conv=>whnf
  cases h;simp only [Sum.elim_inl,Xk8] at hc
  exact Xw3 hc [(0,0),(1,1),(2,2),(4,4),(5,5),(6,6)] rfl
 clear h;intro hb h;conv=>whnf
 let t:Bool:=decide ((wI .i64 (i+1))<(text.length:Int))
 refine br.h2 h (by rfl) ?_ ?_
 ·clear h;intro hb h;conv=>whnf
  exact W
 clear h;intro hb h;conv=>whnf
 replace h:=XbU.elim h;obtain ⟨hb,h⟩:=h
 try (refine req.intro hb ?_;conv=>whnf)
 replace h:=Xdj.elim h;obtain ⟨b1,hy,h⟩:=h
 refine rdS.intro hy ?_
 conv=>whnf
 refine br.h h (by rfl) ?_ ?_
 ·clear h;intro hb h;conv=>whnf
  exact W
 clear h;intro hb h;conv=>whnf
 let t1:Bool:=decide ((wI .i64 (b1.toNat:Int))>(wI .i64 ((text.length:Int) - i)))
 refine br.h h (by rfl) ?_ ?_
 ·clear h;intro hb h;conv=>whnf
  exact W
 clear h;intro hb h;conv=>whnf
 replace h:=XbU.elim h;obtain ⟨hb,h⟩:=h
 try (refine req.intro hb ?_;conv=>whnf)
 replace h:=Xdj.elim h;obtain ⟨b2,hy,h⟩:=h
 refine rdS.intro hy ?_
 conv=>whnf
 replace h:=XbU.elim h;obtain ⟨hb,h⟩:=h
 try (refine req.intro hb ?_;conv=>whnf)
 let t2:List UInt8:=(text.drop (wI .i64 (i+2)).toNat).take ((wI .i64 (i+(wI .i64 (b1.toNat:Int)))).toNat - (wI .i64 (i+2)).toNat)
 refine br.h h (by rfl) ?_ ?_
 ·clear h;intro hb h;conv=>whnf
  cases h;simp only [Sum.elim_inl,Xk8] at hc
  exact Xw3 hc [(0,0),(1,1),(2,2),(4,4),(5,5),(6,6)] rfl
 clear h;intro hb h;conv=>whnf
 exact W
theorem XKH (Xax:Xby) (Xc9:Xd5) (hS:Xar Tryz.prog (XaI (XFD Xax Xc9))) (text:List UInt8) (res:Int×Int×Int) (h:Xlb Xax Xc9 text=some res) :
 XaO Tryz.prog 91 0 ⟨⟨91,46,[(0,.string ⟨⟨text⟩⟩)],[.code XGD],[],false,none⟩,[],[],0⟩ (fun v H _=>Res 0 (XM2 res) v H):=by
 unfold Xlb at h
 refine XbD XaQ hS true 3000 ?_
 conv=>whnf
 replace h:=Xdj.elim h;obtain ⟨l,hy,h⟩:=h
 refine XfS.a (Xzu hy) ?_
 conv=>whnf
 refine br.h h (by rfl) ?_ ?_
 ·clear h;intro hb h;conv=>whnf
  exact W
 clear h;intro hb h;conv=>whnf
 have hl:=XEe Xax Xc9 hS _ res _ _ _ h rfl;simp only [Xk8] at hl
 exact Xw3 hl [(0,0),(1,1),(2,2),(4,4),(5,5),(6,6)] rfl
def Xb2:XcZ:=Xlb Xax Xc9
theorem XyP:Xb8 Tryz.prog 91 (s91 Xb2):=by
 have hL:=XKH Xax Xc9 (Xar.Xa6 ⟨XqQ,Xy4,trivial⟩)
 exact okA ⟨Tryz.f91,rfl,by decide,rfl⟩
def Xjt (XcQ:Xfb) (val:Int) (echo:Int):Option (List UInt8):=
 (XcQ (wI .i64 val) 4).bind fun n=>
 XbU (decide (4+n.length<2^63)) <|
 (XcQ (wI .i64 echo) 4).bind fun n1=>
 XbU (decide (([1,1,8,10]++n).length+n1.length<2^63)) <|
 some (([1,1,8,10]++n)++n1)
def rx22 (x:List UInt8):Xc4:=⟨.string ⟨⟨x⟩⟩,[],[]⟩
abbrev Xee:=Int→Int→Option (List UInt8)
def r22 (g:Xee):Dec:=dV (asI .u32) fun (y0:Int)=>dV (asI .u32) fun (y1:Int)=>XdY (ofG (g y0 y1) rx22)
theorem r22_c {g:Xee} {y0:Int} {y1:Int} {x:List UInt8} (hx:g y0 y1=some x):r22 g [.int .u32 y0,.int .u32 y1] []=some (rx22 x):=(Xbb (Xdo _)).trans ((Xbb (Xdo _)).trans (Xbc hx))
def s22 (g:Xee):Xb3:=⟨[.v,.v],r22 g⟩
theorem XPH {g:Xee} {y0:Int} {y1:Int} {x:List UInt8} (hx:g y0 y1=some x):(s22 g).run [.int .u32 y0,.int .u32 y1] []=some (rx22 x):=r22_c hx
abbrev XPB (XcQ:Xfb):List (Nat×Xb3):=[(45,s45 XcQ)]
theorem XIc (XcQ:Xfb) (hS:Xar Tryz.prog (XaI (XPB XcQ))) (val:Int) (echo:Int) (res:List UInt8) (h:Xjt XcQ val echo=some res) :
 XaO Tryz.prog 22 0 ⟨⟨22,13,[(0,.int .u32 val),(1,.int .u32 echo)],[.code XQP],[],false,none⟩,[],[],0⟩ (fun v H _=>Res 0 (rx22 res) v H):=by
 unfold Xjt at h
 have R1:=@XGw XcQ
 refine XbD XaQ hS true 3000 ?_
 conv=>whnf
 exact W
def XdC:Xee:=Xjt XcQ
theorem XOa:Xb8 Tryz.prog 22 (s22 XdC):=by
 have hL:=XIc XcQ (Xar.Xa6 ⟨XGZ,trivial⟩)
 exact okA ⟨Tryz.f22,rfl,by decide,rfl⟩
end Go.Vm.Code
namespace Go.Vm.Code
open Go Go.Vm
def stL:List XzI→Int×Int×Int
 | []=>(0,0,-1)
 | o::l=>if o.Kind=8 then (if o.Data.length=8 then (vK o.Data 0 4,vK o.Data 4 4,o.At) else (0,0,-1)) else stL l
def Xhg (s:List UInt8):Int×Int×Int:=stL (Xnb s).1
theorem Xmq (s:List UInt8):∀ (n i:Nat) (out:List XzI),XhJ s n i out=if (XhJ s n i []).2=0 then (out++(XhJ s n i []).1,0) else ([],3):=by
 intro n
 induction n using Nat.strongRecOn with
 | ind n ih=>
   intro i out
   cases n with
   | zero=>rw [XhJ,XhJ];simp
   | succ n=>
     have e:∀ o,XhJ s (n+1) i o=match s[i]? with
      | none=>(o,0)
      | some b=>if b=0 then (o,0) else if b=1 then XhJ s n (i+1) o else match s[i+1]? with
        | none=>([],3)
        | some k=>if k.toNat<2 then ([],3) else if s.length - i<k.toNat then ([],3) else
           XhJ s (n+1 - k.toNat) (i+k.toNat) (o++[⟨(b.toNat:Int),(s.drop (i+2)).take (k.toNat - 2),((i+2:Nat):Int)⟩]):=fun o=>by rw [XhJ];try (cases s[i]?<;>cases s[i+1]?<;>rfl)
     rw [e out,e []]
     cases s[i]? with
     | none=>simp
     | some b=>
       simp only
       by_cases h0:b=0
       ·simp [h0]
       rw [if_neg h0,if_neg h0]
       by_cases h1:b=1
       ·rw [if_pos h1,if_pos h1];exact ih n (by omega) _ _
       rw [if_neg h1,if_neg h1]
       cases s[i+1]? with
       | none=>simp
       | some k=>
         simp only
         by_cases h2:k.toNat<2
         ·simp [h2]
         by_cases h3:s.length - i<k.toNat
         ·simp [h2,h3]
         rw [if_neg h2,if_neg h2,if_neg h3,if_neg h3,ih _ (by omega) _ (out++_),ih _ (by omega) _ ([]++_)]
         by_cases hz:(XhJ s (n+1 - k.toNat) (i+k.toNat) []).2=0
         ·simp [hz]
         ·simp [hz]
theorem XC1 {s:List UInt8} (h:(Xnb s).2≠0):(Xnb s).1=[]:=by
 unfold Xnb at *
 have:=Xmq s s.length 0 []
 rw [if_neg h] at this
 rw [this]
theorem val8 {t:List UInt8} (h:t.length=8):((XeY t:Nat):Int)=vK t 0 4*4294967296+vK t 4 4:=by
 unfold vK
 have e:t.take 4++(t.drop 4).take 4=t:=by rw [List.take_of_length_le (l:=t.drop 4) (by simp;omega),List.take_append_drop]
 have:=val_append (t.take 4) ((t.drop 4).take 4)
 rw [e,show ((t.drop 4).take 4).length=4 by simp;omega] at this
 rw [List.drop_zero,this]
 omega
theorem Xxu {s:List UInt8} (hs:s.length<2^20):Xb2 s=some (Xhg s):=by
 unfold Xb2 Xlb
 rw [XN4 hs,Option.bind_some]
 by_cases hz:(Xnb s).2=0
 ·rw [show ((Xnb s).2 !=0)=false by simpa using hz,cond_false]
  unfold Xhg Xnb
  unfold Xnb at hz
  have key:=iter_eq (step:=fun st=>Xg1 Xax s st) (fun st=>stL (XhJ s (s.length - st.toNat) st.toNat []).1) (fun st=>0≤st∧st≤s.length∧(XhJ s (s.length - st.toNat) st.toNat []).2=0) (fun st=>s.length - st.toNat) ?_ FUEL 0 ⟨by omega,by omega,by simpa using hz⟩ (by rw [XgR];omega)
  ·rw [key];rfl
  intro st ⟨g1,g2,g3⟩
  obtain ⟨i,rfl⟩:=Int.eq_ofNat_of_zero_le g1
  simp only [Int.toNat_natCast] at g3 ⊢
  unfold Xg1
  by_cases hi:i<s.length
  ·obtain ⟨n,hn⟩:∃ n,s.length - i=n+1:=⟨s.length - i - 1,by omega⟩
   have e:s[i]?=some s[i]:=List.getElem?_eq_getElem hi
   rw [hn,XhJ,e] at g3
   simp only at g3
   rw [XbB (by omega),Xa9 (by omega),Int.toNat_natCast,e,Option.bind_some,hn,XhJ,e]
   by_cases h0:s[i]=0
   ·refine .inl ?_
    rw [show ((s[i].toNat:Int)==0)=true by rw [h0];rfl,cond_true]
    simp only [h0,if_true];rfl
   rw [show ((s[i].toNat:Int)==0)=false by simp;intro hx;exact h0 (UInt8.toNat_inj.1 (by simpa using hx)),cond_false]
   rw [if_neg h0] at g3
   simp only [if_neg h0]
   by_cases h1:s[i]=1
   ·rw [if_pos h1] at g3
    refine .inr ⟨((i+1:Nat):Int),?_,⟨by omega,by omega,?_⟩,by omega,?_⟩
    ·rw [show ((s[i].toNat:Int)==1)=true by rw [h1];rfl,cond_true,Xe0 (by omega) (by omega)];rfl
    ·rw [Int.toNat_natCast,show s.length - (i+1)=n by omega];exact g3
    ·simp only [Int.toNat_natCast,if_pos h1]
     rw [show s.length - (i+1)=n by omega]
   rw [show ((s[i].toNat:Int)==1)=false by simp;intro hx;exact h1 (UInt8.toNat_inj.1 (by simp;omega)),cond_false]
   rw [if_neg h1] at g3
   simp only [if_neg h1]
   rw [Xe0 (n:=(i:Int)+1) (by omega) (by omega)]
   by_cases h2:s.length≤i+1
   ·rw [List.getElem?_eq_none (by omega)] at g3
    simp at g3
   have hi1:i+1<s.length:=by omega
   have e1:s[i+1]?=some s[i+1]:=List.getElem?_eq_getElem hi1
   have b1:=s[i+1].toNat_lt
   rw [e1] at g3
   simp only at g3
   rw [XbB (by omega),show ((i:Int)+1).toNat=i+1 by omega,e1,Xa9 (by omega),Option.bind_some]
   simp only [Option.bind_some]
   rw [Xe0 (n:=(s[i+1].toNat:Int)) (by omega) (by omega)]
   by_cases h3:s[i+1].toNat<2
   ·rw [if_pos h3] at g3
    exact absurd g3 (by decide)
   rw [if_neg h3] at g3
   rw [Xbd (by omega),if_neg h3,Xe0 (n:=(s.length:Int) - i) (by omega) (by omega)]
   by_cases h4:s.length - i<s[i+1].toNat
   ·rw [if_pos h4] at g3
    exact absurd g3 (by decide)
   rw [if_neg h4,Xmq] at g3
   have b0:=s[i].toNat_lt
   have hz2:(XhJ s (n+1 - s[i+1].toNat) (i+s[i+1].toNat) []).2=0:=by
    apply Decidable.byContradiction
    intro hx
    rw [if_neg hx] at g3
    exact absurd g3 (by decide)
   rw [if_neg h4,Xmq,if_pos hz2,Xbd (by omega),Xa9 (by omega),Xe0 (n:=(i:Int)+s[i+1].toNat) (by omega) (by omega),Xe0 (n:=(i:Int)+2) (by omega) (by omega),Xe0 (n:=(s[i].toNat:Int)) (by omega) (by omega),Xa9 (by omega),show ((i:Int)+s[i+1].toNat).toNat - ((i:Int)+2).toNat=s[i+1].toNat - 2 by omega,show ((i:Int)+2).toNat=i+2 by omega]
   simp only [List.nil_append,List.cons_append,stL]
   have hdl:((s.drop (i+2)).take (s[i+1].toNat - 2)).length=s[i+1].toNat - 2:=by simp;omega
   generalize (s.drop (i+2)).take (s[i+1].toNat - 2)=D at *
   by_cases h8:(s[i].toNat:Int)=8
   ·refine .inl ?_
    rw [show ((s[i].toNat:Int) !=8)=false by simpa using h8,cond_false,if_pos h8,XeL (by omega),Option.bind_some]
    by_cases hl:D.length=8
    ·rw [Xq4 (by omega) (by omega) (by omega) (by omega),if_pos hl]
     have r0:=XkD D 0 4 4294967296 (by decide)
     have r4:=XkD D 4 4 4294967296 (by decide)
     have hv:=val8 hl
     have ev:(D.drop (0:Int).toNat).take (8:Int).toNat=D:=by
      rw [show (0:Int).toNat=0 from rfl,show (8:Int).toNat=8 from rfl,List.drop_zero,List.take_of_length_le (by omega)]
     simp only [cond_true,ev]
     rw [show ((D.length:Int)==8)=true by simp;omega,cond_true,hv,XsM,show ((2:Int)^32)=4294967296 from rfl,show (vK D 0 4*4294967296+vK D 4 4)/4294967296=vK D 0 4 by omega,XQR r0.1 r0.2,XSk,show (vK D 0 4*4294967296+vK D 4 4)%4294967296=vK D 4 4 by omega];rfl
    ·rw [if_neg hl]
     rw [show ((D.length:Int)==8)=false by simp;omega]
     cases (Xuz D 0 8).2<;>rfl
   ·refine .inr ⟨((i+s[i+1].toNat:Nat):Int),?_,⟨by omega,by omega,?_⟩,by omega,?_⟩
    ·rw [show ((s[i].toNat:Int) !=8)=true by simpa using h8,cond_true];rfl
    ·rw [Int.toNat_natCast,show s.length - (i+s[i+1].toNat)=n+1 - s[i+1].toNat by omega];exact hz2
    ·rw [Int.toNat_natCast,show s.length - (i+s[i+1].toNat)=n+1 - s[i+1].toNat by omega,if_neg h8]
  ·refine .inl ?_
   rw [Xbd (by omega),show s.length - i=0 by omega,XhJ];rfl
 ·rw [show ((Xnb s).2 !=0)=true by simpa using hz,cond_true]
  unfold Xhg
  rw [XC1 hz];rfl
def Xdl (v e:Nat):List UInt8:=[1,1,8,10]++(be v 4++be e 4)
theorem XIa {v e:Nat} (hv:v<4294967296) (he:e<4294967296):XdC (v:Int) (e:Int)=some (Xdl v e):=by
 have num:∀ n:Nat,n<4294967296→XcQ (wI .i64 (n:Int)) 4=some (be n 4):=fun n hn=>by
  unfold XcQ Xms
  rw [Xe0 (by omega) (by omega),Xkr (by omega) (by omega),XeE (by omega) (by omega),show XeA (n:Int) 4=be (n:Int).toNat 4 from Xf7 (k:=4) (by omega),Int.toNat_natCast];rfl
 unfold XdC Xjt Xdl
 rw [num v hv,num e he,Option.bind_some,Option.bind_some,Xa9 (by simp),Xa9 (by simp),List.append_assoc]
theorem l8 {l:List UInt8} (h:l.length=8):∃ a b c d e f g i,l=[a,b,c,d,e,f,g,i]:=by
 match l,h with
 | [a,b,c,d,e,f,g,i],_=>exact ⟨a,b,c,d,e,f,g,i,rfl⟩
theorem XnT {d:List UInt8} (h:d.length=8):Xnb ([1,1,8,10]++d)=([⟨8,d,4⟩],0):=by
 obtain ⟨a,b,c,d,e,f,g,i,rfl⟩:=l8 h
 unfold Xnb
 show XhJ [1,1,8,10,a,b,c,d,e,f,g,i] 12 0 []=_
 rw [XhJ]
 show XhJ [1,1,8,10,a,b,c,d,e,f,g,i] 11 1 []=_
 rw [XhJ]
 show XhJ [1,1,8,10,a,b,c,d,e,f,g,i] 10 2 []=_
 rw [XhJ]
 show XhJ [1,1,8,10,a,b,c,d,e,f,g,i] 0 12 [⟨8,[a,b,c,d,e,f,g,i],4⟩]=_
 rw [XhJ]
theorem Xra {v e:Nat} (hv:v<4294967296) (he:e<4294967296):Xhg (Xdl v e)=((v:Int),(e:Int),4):=by
 unfold Xhg Xdl
 rw [XnT (by simp),stL,if_pos rfl,if_pos (by simp)]
 have a:vK (be v 4++be e 4) 0 4=(v:Int):=by
  refine Xjv (w:=be v 4) ?_ rfl (by omega)
  rw [List.drop_zero];exact List.take_left' (by simp)
 have b:vK (be v 4++be e 4) 4 4=(e:Int):=by
  refine Xjv (w:=be e 4) ?_ rfl (by omega)
  rw [List.drop_left' (by simp),List.take_of_length_le (by simp)]
 rw [a,b]
end Go.Vm.Code
namespace Go.Vm.Code
open Go Go.Vm Go.Proofs
set_option maxRecDepth 100000
set_option maxHeartbeats 4000000
set_option linter.unusedVariables false
def XfZ (Xam:XaK) (Xae:Xaz) (ra0:Xaj):Option ((List UInt8)×Xaj):=
 (Xam ra0).bind fun b=>
 cond (b.1)
  (
  some (([],b.2)))
  (
  (Xae b.2 (b.2.s.length:Int)).bind fun t=>
  some ((t.1,t.2)))
def rx96 (x:(List UInt8)×Xaj):Xc4:=⟨.string ⟨⟨x.1⟩⟩,[],[some [.string ⟨⟨x.2.s⟩⟩,.bool x.2.made,.bool x.2.bad]]⟩
abbrev XcJ:=Xaj→Option ((List UInt8)×Xaj)
def r96 (g:XcJ):Dec:=dPt 0 Xdr fun (y0:Xaj)=>XdY (ofG (g y0) rx96)
theorem r96_c {g:XcJ} {y0:Xaj} {x:(List UInt8)×Xaj} (hx:g y0=some x):r96 g [.pointer (some ⟨0,0,none⟩)] [some [.string ⟨⟨y0.s⟩⟩,.bool y0.made,.bool y0.bad]]=some (rx96 x):=(XmV (XfJ _)).trans (Xbc hx)
def s96 (g:XcJ):Xb3:=⟨[.pt 3],r96 g⟩
theorem XNO {g:XcJ} {y0:Xaj} {x:(List UInt8)×Xaj} (hx:g y0=some x):(s96 g).run [.pointer (some ⟨0,0,none⟩)] [some [.string ⟨⟨y0.s⟩⟩,.bool y0.made,.bool y0.bad]]=some (rx96 x):=r96_c hx
abbrev XQr (Xam:XaK) (Xae:Xaz):List (Nat×Xb3):=[(95,s95 Xam),(86,s86 Xae)]
theorem XIL (Xam:XaK) (Xae:Xaz) (hS:Xar Tryz.prog (XaI (XQr Xam Xae))) (ra0:Xaj) (res:(List UInt8)×Xaj) (h:XfZ Xam Xae ra0=some res) :
 XaO Tryz.prog 96 1 ⟨⟨96,12,[(0,.pointer (some ⟨0,0,none⟩))],[.code XOz],[],false,none⟩,[],[(0,.cells [.string ⟨⟨ra0.s⟩⟩,.bool ra0.made,.bool ra0.bad])],1⟩ (fun v H _=>Res 1 (rx96 res) v H):=by
 unfold XfZ at h
 have R1:=@Xo4 Xam
 have R2:=@Xn1 Xae
 refine XbD XaQ hS true 3000 ?_
 conv=>whnf
 exact W
def Xb1:XcJ:=XfZ Xam Xae
theorem XUh:Xb8 Tryz.prog 96 (s96 Xb1):=by
 have hL:=XIL Xam Xae (Xar.Xa6 ⟨Xql,Xn0,trivial⟩)
 exact okA ⟨Tryz.f96,rfl,by decide,rfl⟩
def Xm4 (Xam:XaK) (Xaa:XaH) (Xae:Xaz) (ra0:Xaj):Option ((List UInt8)×Int×Xaj):=
 (Xaa ra0 1).bind fun n=>
 (Xam n.2).bind fun b=>
 cond (!b.1)
  (
  cond (decide (n.1>20))
   (
   some (([],3,b.2)))
   (
   (Xae b.2 n.1).bind fun t=>
   (Xam t.2).bind fun b1=>
   cond (b1.1)
    (
    some (([],2,b1.2)))
    (
    some ((t.1,0,b1.2)))))
  (
  (Xae b.2 n.1).bind fun t1=>
  (Xam t1.2).bind fun b2=>
  cond (b2.1)
   (
   some (([],2,b2.2)))
   (
   some ((t1.1,0,b2.2))))
def rx98 (x:(List UInt8)×Int×Xaj):Xc4:=⟨.tuple ⟨[.string ⟨⟨x.1⟩⟩,.int .i64 x.2.1]⟩,[],[some [.string ⟨⟨x.2.2.s⟩⟩,.bool x.2.2.made,.bool x.2.2.bad]]⟩
abbrev Xhd:=Xaj→Option ((List UInt8)×Int×Xaj)
def r98 (g:Xhd):Dec:=dPt 0 Xdr fun (y0:Xaj)=>XdY (ofG (g y0) rx98)
theorem r98_c {g:Xhd} {y0:Xaj} {x:(List UInt8)×Int×Xaj} (hx:g y0=some x):r98 g [.pointer (some ⟨0,0,none⟩)] [some [.string ⟨⟨y0.s⟩⟩,.bool y0.made,.bool y0.bad]]=some (rx98 x):=(XmV (XfJ _)).trans (Xbc hx)
def s98 (g:Xhd):Xb3:=⟨[.pt 3],r98 g⟩
theorem XG7 {g:Xhd} {y0:Xaj} {x:(List UInt8)×Int×Xaj} (hx:g y0=some x):(s98 g).run [.pointer (some ⟨0,0,none⟩)] [some [.string ⟨⟨y0.s⟩⟩,.bool y0.made,.bool y0.bad]]=some (rx98 x):=r98_c hx
abbrev XQn (Xam:XaK) (Xaa:XaH) (Xae:Xaz):List (Nat×Xb3):=[(95,s95 Xam),(52,s52 Xaa),(86,s86 Xae)]
theorem XKB (Xam:XaK) (Xaa:XaH) (Xae:Xaz) (hS:Xar Tryz.prog (XaI (XQn Xam Xaa Xae))) (ra0:Xaj) (res:(List UInt8)×Int×Xaj) (h:Xm4 Xam Xaa Xae ra0=some res) :
 XaO Tryz.prog 98 1 ⟨⟨98,21,[(0,.pointer (some ⟨0,0,none⟩))],[.code XGN],[],false,none⟩,[],[(0,.cells [.string ⟨⟨ra0.s⟩⟩,.bool ra0.made,.bool ra0.bad])],1⟩ (fun v H _=>Res 1 (rx98 res) v H):=by
 unfold Xm4 at h
 have R1:=@XkV Xaa
 have R2:=@Xo4 Xam
 have R3:=@Xn1 Xae
 refine XbD XaQ hS true 3000 ?_
 conv=>whnf
 exact W
def XgV:Xhd:=Xm4 Xam Xaa Xae
theorem XTe:Xb8 Tryz.prog 98 (s98 XgV):=by
 have hL:=XKB Xam Xaa Xae (Xar.Xa6 ⟨Xql,XoS,Xn0,trivial⟩)
 exact okA ⟨Tryz.f98,rfl,by decide,rfl⟩
def Xmr (XaR:XbX) (Xam:XaK) (Xaa:XaH) (Xb1:XcJ) (Xae:Xaz) (XgV:Xhd) (s:List UInt8):Option (Xcu×Int):=
 (XaR s).bind fun n=>
 (Xaa n 1).bind fun n1=>
 (Xam n1.2).bind fun b=>
 cond (b.1)
  (
  some ((Xcu.mk false 0 0 [] [] [],2)))
  (
  cond ((Xm8 .i64 n1.1 64)==0)
   (
   some ((Xcu.mk false 0 0 [] [] [],3)))
   (
   cond (!((Xm8 .i64 n1.1 128) !=0))
    (
    (Xae b.2 8).bind fun t=>
    (Xam t.2).bind fun b1=>
    cond (b1.1)
     (
     some ((Xcu.mk false 0 0 [] [] [],2)))
     (
     (Xb1 b1.2).bind fun xr=>
     some ((Xcu.mk ((Xm8 .i64 n1.1 128) !=0) (Xm8 .i64 n1.1 63) 0 t.1 [] xr.1,0))))
    (
    (Xaa b.2 4).bind fun n2=>
    (XgV n2.2).bind fun i=>
    cond (i.2.1 !=0)
     (
     some ((Xcu.mk false 0 0 [] [] [],i.2.1)))
     (
     (XgV i.2.2).bind fun i1=>
     cond (i1.2.1 !=0)
      (
      some ((Xcu.mk false 0 0 [] [] [],i1.2.1)))
      (
      (Xb1 i1.2.2).bind fun xr1=>
      some ((Xcu.mk ((Xm8 .i64 n1.1 128) !=0) (Xm8 .i64 n1.1 63) (wI .u32 n2.1) i.1 i1.1 xr1.1,0)))))))
def rx68 (x:Xcu×Int):Xc4:=⟨.tuple ⟨[.agg ⟨[.bool x.1.Long,.int .i64 x.1.Bits,.int .u32 x.1.Version,.string ⟨⟨x.1.DCID⟩⟩,.string ⟨⟨x.1.SCID⟩⟩,.string ⟨⟨x.1.Rest⟩⟩]⟩,.int .i64 x.2]⟩,[],[]⟩
abbrev Xet:=(List UInt8)→Option (Xcu×Int)
def r68 (g:Xet):Dec:=dV asS fun (y0:List UInt8)=>XdY (ofG (g y0) rx68)
theorem r68_c {g:Xet} {y0:List UInt8} {x:Xcu×Int} (hx:g y0=some x):r68 g [.string ⟨⟨y0⟩⟩] []=some (rx68 x):=(Xbb (Xeb)).trans (Xbc hx)
def s68 (g:Xet):Xb3:=⟨[.v],r68 g⟩
theorem XGK {g:Xet} {y0:List UInt8} {x:Xcu×Int} (hx:g y0=some x):(s68 g).run [.string ⟨⟨y0⟩⟩] []=some (rx68 x):=r68_c hx
abbrev XOx (XaR:XbX) (Xam:XaK) (Xaa:XaH) (Xb1:XcJ) (Xae:Xaz) (XgV:Xhd):List (Nat×Xb3):=[(51,s51 XaR),(95,s95 Xam),(52,s52 Xaa),(96,s96 Xb1),(86,s86 Xae),(98,s98 XgV)]
theorem XKn (XaR:XbX) (Xam:XaK) (Xaa:XaH) (Xb1:XcJ) (Xae:Xaz) (XgV:Xhd) (hS:Xar Tryz.prog (XaI (XOx XaR Xam Xaa Xb1 Xae XgV))) (s:List UInt8) (res:Xcu×Int) (h:Xmr XaR Xam Xaa Xb1 Xae XgV s=some res) :
 XaO Tryz.prog 68 0 ⟨⟨68,60,[(0,.string ⟨⟨s⟩⟩)],[.code XGU],[],false,none⟩,[],[],0⟩ (fun v H _=>Res 0 (rx68 res) v H):=by
 unfold Xmr at h
 have R1:=@Xn1 Xae
 have R2:=@Xo4 Xam
 have R3:=@XNO Xb1
 refine XbD XaQ hS true 3000 ?_
 conv=>whnf
 replace h:=Xdj.elim h;obtain ⟨n,hy,h⟩:=h
 refine XfS.a (XqE hy) ?_
 conv=>whnf
 replace h:=Xdj.elim h;obtain ⟨n1,hy,h⟩:=h
 refine XfS.a (XkV hy) ?_
 conv=>whnf
 replace h:=Xdj.elim h;obtain ⟨b,hy,h⟩:=h
 refine XfS.a (Xo4 hy) ?_
 conv=>whnf
 refine br.h h (by rfl) ?_ ?_
 ·clear h;intro hb h;conv=>whnf
  exact W
 clear h;intro hb h;conv=>whnf
 refine br.h h (by rfl) ?_ ?_
 ·clear h;intro hb h;conv=>whnf
  exact W
 clear h;intro hb h;conv=>whnf
 refine br.h h (by rfl) ?_ ?_
 ·clear h;intro hb h;conv=>whnf
  exact W
 clear h;intro hb h;conv=>whnf
 replace h:=Xdj.elim h;obtain ⟨n2,hy,h⟩:=h
 refine XfS.a (XkV hy) ?_
 conv=>whnf
 refine XbD XaQ hS true 3000 ?_
 conv=>whnf
 replace h:=Xdj.elim h;obtain ⟨i,hy,h⟩:=h
 refine XfS.a (XG7 hy) ?_
 conv=>whnf
 refine br.h h (by rfl) ?_ ?_
 ·clear h;intro hb h;conv=>whnf
  refine br.pos ?_ ?_;(focus (clear h;first|assumption|(simp_all;done)))
  conv=>whnf
  exact W
 clear h;intro hb h;conv=>whnf
 refine XbD XaQ hS true 3000 ?_
 conv=>whnf
 replace h:=Xdj.elim h;obtain ⟨i1,hy,h⟩:=h
 refine XfS.a (XG7 hy) ?_
 conv=>whnf
 refine br.h h (by rfl) ?_ ?_
 ·clear h;intro hb h;conv=>whnf
  refine br.pos ?_ ?_;(focus (clear h;first|assumption|(simp_all;done)))
  conv=>whnf
  exact W
 clear h;intro hb h;conv=>whnf
 refine XbD XaQ hS true 3000 ?_
 conv=>whnf
 exact W
def XdB:Xet:=Xmr XaR Xam Xaa Xb1 Xae XgV
theorem XF2:Xb8 Tryz.prog 68 (s68 XdB):=by
 have hL:=XKn XaR Xam Xaa Xb1 Xae XgV (Xar.Xa6 ⟨Xqf,Xql,XoS,XUh,Xn0,XTe,trivial⟩)
 exact okA ⟨Tryz.f68,rfl,by decide,rfl⟩
end Go.Vm.Code
namespace Go.Vm.Code
open Go Go.Vm
def Xwa:Xcu:=⟨false,0,0,[],[],[]⟩
def idS (s:List UInt8) (p:Nat):List UInt8×Int×Nat:=
 if s.length≤p then ([],2,0) else if 20<b1 s p then ([],3,0) else if s.length<p+1+b1 s p then ([],2,0) else ((s.drop (p+1)).take (b1 s p),0,p+1+b1 s p)
theorem i17:(if (1:Int)<1∨(1:Int)>7 then -1 else 1:Int)=1:=by decide
theorem i47:(if (4:Int)<1∨(4:Int)>7 then -1 else 4:Int)=4:=by decide
theorem Xpl (s:List UInt8) (k:Int):rdr ⟨s,true,true⟩ k=⟨s,true,true⟩:=by unfold rdr;rw [if_pos (.inl rfl)]
theorem XLS (s:List UInt8) (h:s.length<2^38):XgV ⟨s,true,true⟩=some ([],2,⟨s,true,true⟩):=by
 unfold XgV Xm4
 rw [XdM rfl (by simp only [];omega),Option.bind_some]
 simp only [Xpl]
 rw [XfR rfl,Option.bind_some]
 simp only [Bool.not_true,cond_false]
 rw [Xgg rfl,Option.bind_some]
 simp only [Xpl]
 rw [XfR rfl,Option.bind_some]
 rfl
theorem XFR {s:List UInt8} {p:Nat} (h:s.length<2^38):∃ r,XgV ⟨s.drop p,true,false⟩=some ((idS s p).1,(idS s p).2.1,r)∧((idS s p).2.1=0→r=⟨s.drop (idS s p).2.2,true,false⟩):=by
 have hb:=XHL s p
 have ld:(s.drop p).length=s.length - p:=List.length_drop ..
 unfold XgV Xm4 idS
 rw [XdM rfl (by simp only [];omega),Option.bind_some]
 simp only [rdn,i17]
 by_cases h1:s.length≤p
 ·have hr:rdr ⟨s.drop p,true,false⟩ 1=⟨s.drop p,true,true⟩:=by unfold rdr;rw [if_pos (.inr (.inr (by simp only [];omega)))]
  rw [if_pos h1,hr,XfR rfl,Option.bind_some]
  simp only [Bool.not_true,cond_false]
  rw [Xgg rfl,Option.bind_some]
  simp only [Xpl]
  rw [XfR rfl,Option.bind_some]
  exact ⟨_,rfl,fun q=>by cases q⟩
 ·rw [if_neg h1,Xgy (by omega) (by omega),XgI (by omega) (by omega),show (1:Int).toNat=1 from rfl,List.drop_drop,show XeY ((s.drop p).take 1)=b1 s p from rfl,XfR rfl,Option.bind_some]
  simp only [Bool.not_false,cond_true]
  have ld2:(s.drop (p+1)).length=s.length - (p+1):=List.length_drop ..
  by_cases h2:20<b1 s p
  ·rw [XbB (by omega),if_pos h2]
   exact ⟨_,rfl,fun q=>by cases q⟩
  rw [Xbd (by omega),if_neg h2,Xgg rfl,Option.bind_some]
  by_cases h3:s.length<p+1+b1 s p
  ·have hr:rdr ⟨s.drop (p+1),true,false⟩ ((b1 s p:Nat):Int)=⟨s.drop (p+1),true,true⟩:=by unfold rdr;rw [if_pos (.inr (.inr (by simp only [];omega)))]
   rw [if_pos h3,hr,XfR rfl,Option.bind_some]
   exact ⟨_,rfl,fun q=>by cases q⟩
  ·rw [if_neg h3,Xgy (by omega) (by omega),XgI (by omega) (by omega),XfR rfl,Option.bind_some,Int.toNat_natCast,List.drop_drop]
   exact ⟨_,rfl,fun _=>rfl⟩
def XHp (s:List UInt8):Xcu×Int:=
 if s=[] then (Xwa,2) else if b1 s 0/64%2=0 then (Xwa,3) else
 if b1 s 0<128 then if s.length<9 then (Xwa,2) else (⟨false,((b1 s 0%64:Nat):Int),0,(s.drop 1).take 8,[],s.drop 9⟩,0)
 else if s.length<5 then (Xwa,2) else if (idS s 5).2.1≠0 then (Xwa,(idS s 5).2.1) else if (idS s (idS s 5).2.2).2.1≠0 then (Xwa,(idS s (idS s 5).2.2).2.1) else
 (⟨true,((b1 s 0%64:Nat):Int),((XeY ((s.drop 1).take 4):Nat):Int),(idS s 5).1,(idS s (idS s 5).2.2).1,s.drop (idS s (idS s 5).2.2).2.2⟩,0)
theorem bitsQ:∀ v:Fin 256,((wI .u8 (((v.val:Nat):Int).tdiv 64)).tmod 2=((v.val/64%2:Nat):Int)∧wI .i64 (((v.val:Nat):Int).tmod 64)=((v.val%64:Nat):Int))∧Xm8 .i64 ((v.val:Nat):Int) 64=((v.val/64%2*64:Nat):Int)∧Xm8 .i64 ((v.val:Nat):Int) 128=((v.val/128*128:Nat):Int)∧Xm8 .i64 ((v.val:Nat):Int) 63=((v.val%64:Nat):Int):=by decide +kernel
theorem Xye {r:Xaj} (h:r.made=true) (hb:r.bad=false):Xb1 r=some (r.s,rdr r r.s.length):=by
 unfold Xb1 XfZ
 rw [XfR h,Option.bind_some]
 simp only [hb,cond_false]
 rw [Xgg h,Option.bind_some]
 have:rdt r r.s.length=r.s:=by unfold rdt;rw [if_neg (by rw [hb];simp),Int.toNat_natCast,List.take_length]
 rw [this]
theorem XB1 {s:List UInt8} (h:s.length<2^38):XdB s=some (XHp s):=by
 unfold XdB Xmr XHp
 by_cases h0:s=[]
 ·subst h0;decide +kernel
 have hl:0<s.length:=List.length_pos_iff.2 h0
 have hb:=XHL s 0
 obtain ⟨-,q1,q2,q3⟩:=bitsQ ⟨b1 s 0,hb⟩
 simp only at q1 q2 q3
 have l1:(s.drop 1).length=s.length - 1:=List.length_drop ..
 rw [if_neg h0,Xl2,Option.bind_some,XdM rfl (by simp only [];omega),Option.bind_some]
 simp only [rdn,i17]
 rw [Xgy (by omega) (by omega),XgI (by omega) (by omega),show (1:Int).toNat=1 from rfl,XfR rfl,Option.bind_some,show XeY (s.take 1)=b1 s 0 from rfl,q1,q2,q3]
 simp only [cond_false]
 by_cases h1:b1 s 0/64%2=0
 ·have:((((b1 s 0/64%2*64:Nat):Int))==0)=true:=by rw [beq_iff_eq];omega
  rw [this,cond_true,if_pos h1];rfl
 have:((((b1 s 0/64%2*64:Nat):Int))==0)=false:=by rw [beq_eq_false_iff_ne];omega
 rw [this,cond_false,if_neg h1]
 by_cases h2:b1 s 0<128
 ·have:((((b1 s 0/128*128:Nat):Int)) !=0)=false:=by rw [bne_eq_false_iff_eq];omega
  rw [this,Bool.not_false,cond_true,if_pos h2,Xgg rfl,Option.bind_some]
  by_cases h3:s.length<9
  ·have hr:rdr ⟨s.drop 1,true,false⟩ 8=⟨s.drop 1,true,true⟩:=by unfold rdr;rw [if_pos (.inr (.inr (by simp only [];omega)))]
   rw [if_pos h3,hr,XfR rfl,Option.bind_some];rfl
  ·rw [if_neg h3,Xgy (by omega) (by omega),XgI (by omega) (by omega),XfR rfl,Option.bind_some]
   simp only [cond_false]
   rw [Xye rfl rfl,Option.bind_some,List.drop_drop]
   rfl
 ·have:((((b1 s 0/128*128:Nat):Int)) !=0)=true:=by rw [bne_iff_ne];omega
  rw [this,Bool.not_true,cond_false,if_neg h2,XdM rfl (by simp only [];omega),Option.bind_some]
  simp only [rdn,i47]
  by_cases h3:s.length<5
  ·have hr:rdr ⟨s.drop 1,true,false⟩ 4=⟨s.drop 1,true,true⟩:=by unfold rdr;rw [if_pos (.inr (.inr (by simp only [];omega)))]
   rw [if_pos h3,hr,XLS _ (by omega),Option.bind_some];rfl
  have hv:XeY ((s.drop 1).take 4)<2^32:=XeZ _ (by decide)
  obtain ⟨r,er,hr⟩:=XFR (s:=s) (p:=5) h
  rw [if_neg h3,Xgy (by omega) (by omega),XgI (by omega) (by omega),show (4:Int).toNat=4 from rfl,List.drop_drop,er,Option.bind_some]
  simp only []
  by_cases h4:(idS s 5).2.1=0
  ·have:((idS s 5).2.1 !=0)=false:=by rw [bne_eq_false_iff_eq];exact h4
   obtain ⟨r',er',hr'⟩:=XFR (s:=s) (p:=(idS s 5).2.2) h
   rw [this,cond_false,if_neg (by omega),hr h4,er',Option.bind_some]
   simp only []
   by_cases h5:(idS s (idS s 5).2.2).2.1=0
   ·have:((idS s (idS s 5).2.2).2.1 !=0)=false:=by rw [bne_eq_false_iff_eq];exact h5
    rw [this,cond_false,if_neg (by omega),hr' h5,Xye rfl rfl,Option.bind_some,XQR (by omega) (by omega)]
   ·have:((idS s (idS s 5).2.2).2.1 !=0)=true:=by rw [bne_iff_ne];exact h5
    rw [this,cond_true,if_pos h5];rfl
  ·have:((idS s 5).2.1 !=0)=true:=by rw [bne_iff_ne];exact h4
   rw [this,cond_true,if_pos h4];rfl
end Go.Vm.Code
namespace Go.Vm.Code
open Go Go.Vm Go.Proofs
set_option maxRecDepth 100000
set_option maxHeartbeats 4000000
set_option linter.unusedVariables false
def Xia (Xep:XeW) (Xfg:Xft) (s:List UInt8):Option (XaS×Int):=
 (s[0]?).bind fun (b:UInt8)=>
 cond (((b.toNat:Int).fdiv (2^4))==4)
  (
  (Xep s).bind fun xg=>
  cond (xg.2.2 !=0)
   (
   some ((XaS.mk (Xag.mk false 0 0) (Xag.mk false 0 0) 0 [],xg.2.2)))
   (
   let t:=wI .i64 (20+(xg.1.Options.length:Int))
   let t1:=(s.length:Int) !=(wI .i64 (t+(xg.2.1.length:Int)))
   cond (t1)
    (
    some ((XaS.mk (Xag.mk false 0 0) (Xag.mk false 0 0) 0 [],5)))
    (
    some ((XaS.mk xg.1.Src xg.1.Dst xg.1.Proto xg.2.1,0)))))
  (
  cond (((b.toNat:Int).fdiv (2^4))==6)
   (
   (Xfg s).bind fun xg1=>
   cond (xg1.2.2 !=0)
    (
    some ((XaS.mk (Xag.mk false 0 0) (Xag.mk false 0 0) 0 [],xg1.2.2)))
    (
    let t2:=(s.length:Int) !=(wI .i64 (40+(xg1.2.1.length:Int)))
    cond (t2)
     (
     some ((XaS.mk (Xag.mk false 0 0) (Xag.mk false 0 0) 0 [],5)))
     (
     some ((XaS.mk xg1.1.Src xg1.1.Dst xg1.1.Next xg1.2.1,0)))))
   (
   some ((XaS.mk (Xag.mk false 0 0) (Xag.mk false 0 0) 0 [],3))))
def rx88 (x:XaS×Int):Xc4:=⟨.tuple ⟨[.agg ⟨[.bool x.1.src.V6,.int .u64 x.1.src.Hi,.int .u64 x.1.src.Lo,.bool x.1.dst.V6,.int .u64 x.1.dst.Hi,.int .u64 x.1.dst.Lo,.int .i64 x.1.proto,.string ⟨⟨x.1.body⟩⟩]⟩,.int .i64 x.2]⟩,[],[]⟩
abbrev XdJ:=(List UInt8)→Option (XaS×Int)
def r88 (g:XdJ):Dec:=dV asS fun (y0:List UInt8)=>XdY (ofG (g y0) rx88)
theorem r88_c {g:XdJ} {y0:List UInt8} {x:XaS×Int} (hx:g y0=some x):r88 g [.string ⟨⟨y0⟩⟩] []=some (rx88 x):=(Xbb (Xeb)).trans (Xbc hx)
def s88 (g:XdJ):Xb3:=⟨[.v],r88 g⟩
theorem XNT {g:XdJ} {y0:List UInt8} {x:XaS×Int} (hx:g y0=some x):(s88 g).run [.string ⟨⟨y0⟩⟩] []=some (rx88 x):=r88_c hx
abbrev XQz (Xep:XeW) (Xfg:Xft):List (Nat×Xb3):=[(129,s129 Xep),(130,s130 Xfg)]
theorem XH7 (Xep:XeW) (Xfg:Xft) (hS:Xar Tryz.prog (XaI (XQz Xep Xfg))) (s:List UInt8) (res:XaS×Int) (h:Xia Xep Xfg s=some res) :
 XaO Tryz.prog 88 0 ⟨⟨88,61,[(0,.string ⟨⟨s⟩⟩)],[.code XGl],[],false,none⟩,[],[],0⟩ (fun v H _=>Res 0 (rx88 res) v H):=by
 unfold Xia at h
 have R1:=@XMa Xep
 have R2:=@XIe Xfg
 refine XbD XaQ hS true 3000 ?_
 conv=>whnf
 exact W
def XcU:XdJ:=Xia Xep Xfg
theorem XTW:Xb8 Tryz.prog 88 (s88 XcU):=by
 have hL:=XH7 Xep Xfg (Xar.Xa6 ⟨XJ8,XKp,trivial⟩)
 exact okA ⟨Tryz.f88,rfl,by decide,rfl⟩
def XeT (XhX:Xhc) (Xb2:XcZ) (oa0:XaS) (p:Xav):Option (Int×Int×Xav):=
 (XhX oa0.body oa0.src oa0.dst).bind fun xg=>
 cond (xg.2.2 !=0)
  (
  some ((0,xg.2.2,p)))
  (
  (Xb2 xg.1.Options).bind fun s=>
  cond (decide (s.2.2≥0))
   (
   some (((xg.2.1.length:Int),0,Xav.mk (Xai.mk p.Tuple.Proto p.Tuple.Src p.Tuple.Dst xg.1.SPort xg.1.DPort) xg.1.Flags true s.1 s.2.1 p.Long p.CID p.Size)))
   (
   some (((xg.2.1.length:Int),0,Xav.mk (Xai.mk p.Tuple.Proto p.Tuple.Src p.Tuple.Dst xg.1.SPort xg.1.DPort) xg.1.Flags p.Stamped p.Val p.Echo p.Long p.CID p.Size))))
def rx89 (x:Int×Int×Xav):Xc4:=⟨.tuple ⟨[.int .i64 x.1,.int .i64 x.2.1]⟩,[],[some [.int .i64 x.2.2.Tuple.Proto,.bool x.2.2.Tuple.Src.V6,.int .u64 x.2.2.Tuple.Src.Hi,.int .u64 x.2.2.Tuple.Src.Lo,.bool x.2.2.Tuple.Dst.V6,.int .u64 x.2.2.Tuple.Dst.Hi,.int .u64 x.2.2.Tuple.Dst.Lo,.int .i64 x.2.2.Tuple.SPort,.int .i64 x.2.2.Tuple.DPort,.int .i64 x.2.2.Flags,.bool x.2.2.Stamped,.int .u32 x.2.2.Val,.int .u32 x.2.2.Echo,.bool x.2.2.Long,.string ⟨⟨x.2.2.CID⟩⟩,.int .i64 x.2.2.Size]]⟩
abbrev Xci:=XaS→Xav→Option (Int×Int×Xav)
def r89 (g:Xci):Dec:=dV XgE fun (y0:XaS)=>dPt 0 XgZ fun (y1:Xav)=>XdY (ofG (g y0 y1) rx89)
theorem r89_c {g:Xci} {y0:XaS} {y1:Xav} {x:Int×Int×Xav} (hx:g y0 y1=some x):r89 g [.agg ⟨[.bool y0.src.V6,.int .u64 y0.src.Hi,.int .u64 y0.src.Lo,.bool y0.dst.V6,.int .u64 y0.dst.Hi,.int .u64 y0.dst.Lo,.int .i64 y0.proto,.string ⟨⟨y0.body⟩⟩]⟩,.pointer (some ⟨0,0,none⟩)] [some [.int .i64 y1.Tuple.Proto,.bool y1.Tuple.Src.V6,.int .u64 y1.Tuple.Src.Hi,.int .u64 y1.Tuple.Src.Lo,.bool y1.Tuple.Dst.V6,.int .u64 y1.Tuple.Dst.Hi,.int .u64 y1.Tuple.Dst.Lo,.int .i64 y1.Tuple.SPort,.int .i64 y1.Tuple.DPort,.int .i64 y1.Flags,.bool y1.Stamped,.int .u32 y1.Val,.int .u32 y1.Echo,.bool y1.Long,.string ⟨⟨y1.CID⟩⟩,.int .i64 y1.Size]]=some (rx89 x):=(Xbb (Xko _)).trans ((XmV (XlK _)).trans (Xbc hx))
def s89 (g:Xci):Xb3:=⟨[.v,.pt 16],r89 g⟩
theorem XO5 {g:Xci} {y0:XaS} {y1:Xav} {x:Int×Int×Xav} (hx:g y0 y1=some x):(s89 g).run [.agg ⟨[.bool y0.src.V6,.int .u64 y0.src.Hi,.int .u64 y0.src.Lo,.bool y0.dst.V6,.int .u64 y0.dst.Hi,.int .u64 y0.dst.Lo,.int .i64 y0.proto,.string ⟨⟨y0.body⟩⟩]⟩,.pointer (some ⟨0,0,none⟩)] [some [.int .i64 y1.Tuple.Proto,.bool y1.Tuple.Src.V6,.int .u64 y1.Tuple.Src.Hi,.int .u64 y1.Tuple.Src.Lo,.bool y1.Tuple.Dst.V6,.int .u64 y1.Tuple.Dst.Hi,.int .u64 y1.Tuple.Dst.Lo,.int .i64 y1.Tuple.SPort,.int .i64 y1.Tuple.DPort,.int .i64 y1.Flags,.bool y1.Stamped,.int .u32 y1.Val,.int .u32 y1.Echo,.bool y1.Long,.string ⟨⟨y1.CID⟩⟩,.int .i64 y1.Size]]=some (rx89 x):=r89_c hx
abbrev XOW (XhX:Xhc) (Xb2:XcZ):List (Nat×Xb3):=[(117,s117 XhX),(91,s91 Xb2)]
theorem XIJ (XhX:Xhc) (Xb2:XcZ) (hS:Xar Tryz.prog (XaI (XOW XhX Xb2))) (oa0:XaS) (p:Xav) (res:Int×Int×Xav) (h:XeT XhX Xb2 oa0 p=some res) :
 XaO Tryz.prog 89 1 ⟨⟨89,65,[(0,.agg ⟨[.bool oa0.src.V6,.int .u64 oa0.src.Hi,.int .u64 oa0.src.Lo,.bool oa0.dst.V6,.int .u64 oa0.dst.Hi,.int .u64 oa0.dst.Lo,.int .i64 oa0.proto,.string ⟨⟨oa0.body⟩⟩]⟩),(1,.pointer (some ⟨0,0,none⟩))],[.code XF7],[],false,none⟩,[],[(0,.cells [.int .i64 p.Tuple.Proto,.bool p.Tuple.Src.V6,.int .u64 p.Tuple.Src.Hi,.int .u64 p.Tuple.Src.Lo,.bool p.Tuple.Dst.V6,.int .u64 p.Tuple.Dst.Hi,.int .u64 p.Tuple.Dst.Lo,.int .i64 p.Tuple.SPort,.int .i64 p.Tuple.DPort,.int .i64 p.Flags,.bool p.Stamped,.int .u32 p.Val,.int .u32 p.Echo,.bool p.Long,.string ⟨⟨p.CID⟩⟩,.int .i64 p.Size])],1⟩ (fun v H _=>Res 1 (rx89 res) v H):=by
 unfold XeT at h
 have R1:=@XKx XhX
 have R2:=@Xyy Xb2
 refine XbD XaQ hS true 3000 ?_
 conv=>whnf
 exact W
def Xbw:Xci:=XeT XhX Xb2
theorem XTl:Xb8 Tryz.prog 89 (s89 Xbw):=by
 have hL:=XIJ XhX Xb2 (Xar.Xa6 ⟨XJQ,XyP,trivial⟩)
 exact okA ⟨Tryz.f89,rfl,by decide,rfl⟩
def XeB (XdB:Xet) (XhO:Xha) (oa0:XaS) (p:Xav):Option (Int×Int×Xav):=
 (XhO oa0.body oa0.src oa0.dst).bind fun xg=>
 cond (xg.2.2 !=0)
  (
  some ((0,xg.2.2,p)))
  (
  let t:=(xg.2.1.length:Int) !=(wI .i64 ((oa0.body.length:Int) - 8))
  cond (t)
   (
   some ((0,5,p)))
   (
   (XdB xg.2.1).bind fun xg1=>
   cond (xg1.2==0)
    (
    some (((xg.2.1.length:Int),0,Xav.mk (Xai.mk p.Tuple.Proto p.Tuple.Src p.Tuple.Dst xg.1.SPort xg.1.DPort) p.Flags p.Stamped p.Val p.Echo xg1.1.Long xg1.1.DCID p.Size)))
    (
    some (((xg.2.1.length:Int),0,Xav.mk (Xai.mk p.Tuple.Proto p.Tuple.Src p.Tuple.Dst xg.1.SPort xg.1.DPort) p.Flags p.Stamped p.Val p.Echo p.Long p.CID p.Size)))))
def rx90 (x:Int×Int×Xav):Xc4:=⟨.tuple ⟨[.int .i64 x.1,.int .i64 x.2.1]⟩,[],[some [.int .i64 x.2.2.Tuple.Proto,.bool x.2.2.Tuple.Src.V6,.int .u64 x.2.2.Tuple.Src.Hi,.int .u64 x.2.2.Tuple.Src.Lo,.bool x.2.2.Tuple.Dst.V6,.int .u64 x.2.2.Tuple.Dst.Hi,.int .u64 x.2.2.Tuple.Dst.Lo,.int .i64 x.2.2.Tuple.SPort,.int .i64 x.2.2.Tuple.DPort,.int .i64 x.2.2.Flags,.bool x.2.2.Stamped,.int .u32 x.2.2.Val,.int .u32 x.2.2.Echo,.bool x.2.2.Long,.string ⟨⟨x.2.2.CID⟩⟩,.int .i64 x.2.2.Size]]⟩
abbrev Xcd:=XaS→Xav→Option (Int×Int×Xav)
def r90 (g:Xcd):Dec:=dV XgE fun (y0:XaS)=>dPt 0 XgZ fun (y1:Xav)=>XdY (ofG (g y0 y1) rx90)
theorem r90_c {g:Xcd} {y0:XaS} {y1:Xav} {x:Int×Int×Xav} (hx:g y0 y1=some x):r90 g [.agg ⟨[.bool y0.src.V6,.int .u64 y0.src.Hi,.int .u64 y0.src.Lo,.bool y0.dst.V6,.int .u64 y0.dst.Hi,.int .u64 y0.dst.Lo,.int .i64 y0.proto,.string ⟨⟨y0.body⟩⟩]⟩,.pointer (some ⟨0,0,none⟩)] [some [.int .i64 y1.Tuple.Proto,.bool y1.Tuple.Src.V6,.int .u64 y1.Tuple.Src.Hi,.int .u64 y1.Tuple.Src.Lo,.bool y1.Tuple.Dst.V6,.int .u64 y1.Tuple.Dst.Hi,.int .u64 y1.Tuple.Dst.Lo,.int .i64 y1.Tuple.SPort,.int .i64 y1.Tuple.DPort,.int .i64 y1.Flags,.bool y1.Stamped,.int .u32 y1.Val,.int .u32 y1.Echo,.bool y1.Long,.string ⟨⟨y1.CID⟩⟩,.int .i64 y1.Size]]=some (rx90 x):=(Xbb (Xko _)).trans ((XmV (XlK _)).trans (Xbc hx))
def s90 (g:Xcd):Xb3:=⟨[.v,.pt 16],r90 g⟩
theorem XSb {g:Xcd} {y0:XaS} {y1:Xav} {x:Int×Int×Xav} (hx:g y0 y1=some x):(s90 g).run [.agg ⟨[.bool y0.src.V6,.int .u64 y0.src.Hi,.int .u64 y0.src.Lo,.bool y0.dst.V6,.int .u64 y0.dst.Hi,.int .u64 y0.dst.Lo,.int .i64 y0.proto,.string ⟨⟨y0.body⟩⟩]⟩,.pointer (some ⟨0,0,none⟩)] [some [.int .i64 y1.Tuple.Proto,.bool y1.Tuple.Src.V6,.int .u64 y1.Tuple.Src.Hi,.int .u64 y1.Tuple.Src.Lo,.bool y1.Tuple.Dst.V6,.int .u64 y1.Tuple.Dst.Hi,.int .u64 y1.Tuple.Dst.Lo,.int .i64 y1.Tuple.SPort,.int .i64 y1.Tuple.DPort,.int .i64 y1.Flags,.bool y1.Stamped,.int .u32 y1.Val,.int .u32 y1.Echo,.bool y1.Long,.string ⟨⟨y1.CID⟩⟩,.int .i64 y1.Size]]=some (rx90 x):=r90_c hx
abbrev XSt (XdB:Xet) (XhO:Xha):List (Nat×Xb3):=[(68,s68 XdB),(118,s118 XhO)]
theorem XKu (XdB:Xet) (XhO:Xha) (hS:Xar Tryz.prog (XaI (XSt XdB XhO))) (oa0:XaS) (p:Xav) (res:Int×Int×Xav) (h:XeB XdB XhO oa0 p=some res) :
 XaO Tryz.prog 90 1 ⟨⟨90,65,[(0,.agg ⟨[.bool oa0.src.V6,.int .u64 oa0.src.Hi,.int .u64 oa0.src.Lo,.bool oa0.dst.V6,.int .u64 oa0.dst.Hi,.int .u64 oa0.dst.Lo,.int .i64 oa0.proto,.string ⟨⟨oa0.body⟩⟩]⟩),(1,.pointer (some ⟨0,0,none⟩))],[.code XHt],[],false,none⟩,[],[(0,.cells [.int .i64 p.Tuple.Proto,.bool p.Tuple.Src.V6,.int .u64 p.Tuple.Src.Hi,.int .u64 p.Tuple.Src.Lo,.bool p.Tuple.Dst.V6,.int .u64 p.Tuple.Dst.Hi,.int .u64 p.Tuple.Dst.Lo,.int .i64 p.Tuple.SPort,.int .i64 p.Tuple.DPort,.int .i64 p.Flags,.bool p.Stamped,.int .u32 p.Val,.int .u32 p.Echo,.bool p.Long,.string ⟨⟨p.CID⟩⟩,.int .i64 p.Size])],1⟩ (fun v H _=>Res 1 (rx90 res) v H):=by
 unfold XeB at h
 have R1:=@XMm XhO
 have R2:=@XGK XdB
 refine XbD XaQ hS true 3000 ?_
 conv=>whnf
 exact W
def Xbo:Xcd:=XeB XdB XhO
theorem XSI:Xb8 Tryz.prog 90 (s90 Xbo):=by
 have hL:=XKu XdB XhO (Xar.Xa6 ⟨XF2,XJP,trivial⟩)
 exact okA ⟨Tryz.f90,rfl,by decide,rfl⟩
def Xjr (XcU:XdJ) (Xbo:Xcd) (Xbw:Xci) (s:List UInt8):Option (Xav×Int×Int×Int):=
 cond (decide ((s.length:Int)>9000))
  (
  some ((Xav.mk (Xai.mk 0 (Xag.mk false 0 0) (Xag.mk false 0 0) 0 0) 0 false 0 0 false [] 0,0,0,5)))
  (
  cond (s==[])
   (
   some ((Xav.mk (Xai.mk 0 (Xag.mk false 0 0) (Xag.mk false 0 0) 0 0) 0 false 0 0 false [] 0,0,0,2)))
   (
   (XcU s).bind fun xo=>
   cond (xo.2 !=0)
    (
    some ((Xav.mk (Xai.mk 0 (Xag.mk false 0 0) (Xag.mk false 0 0) 0 0) 0 false 0 0 false [] 0,0,0,xo.2)))
    (
    cond (xo.1.proto==6)
     (
     (Xbw xo.1 (Xav.mk (Xai.mk xo.1.proto xo.1.src xo.1.dst 0 0) 0 false 0 0 false [] (s.length:Int))).bind fun s1=>
     cond (s1.2.1 !=0)
      (
      some ((Xav.mk (Xai.mk 0 (Xag.mk false 0 0) (Xag.mk false 0 0) 0 0) 0 false 0 0 false [] 0,0,0,s1.2.1)))
      (
      some ((s1.2.2,(xo.1.body.length:Int),s1.1,0))))
     (
     cond (xo.1.proto==17)
      (
      (Xbo xo.1 (Xav.mk (Xai.mk xo.1.proto xo.1.src xo.1.dst 0 0) 0 false 0 0 false [] (s.length:Int))).bind fun d=>
      cond (d.2.1 !=0)
       (
       some ((Xav.mk (Xai.mk 0 (Xag.mk false 0 0) (Xag.mk false 0 0) 0 0) 0 false 0 0 false [] 0,0,0,d.2.1)))
       (
       some ((d.2.2,(xo.1.body.length:Int),d.1,0))))
      (
      some ((Xav.mk (Xai.mk 0 (Xag.mk false 0 0) (Xag.mk false 0 0) 0 0) 0 false 0 0 false [] 0,0,0,6)))))))
def rx55 (x:Xav×Int×Int×Int):Xc4:=⟨.tuple ⟨[.agg ⟨[.int .i64 x.1.Tuple.Proto,.bool x.1.Tuple.Src.V6,.int .u64 x.1.Tuple.Src.Hi,.int .u64 x.1.Tuple.Src.Lo,.bool x.1.Tuple.Dst.V6,.int .u64 x.1.Tuple.Dst.Hi,.int .u64 x.1.Tuple.Dst.Lo,.int .i64 x.1.Tuple.SPort,.int .i64 x.1.Tuple.DPort,.int .i64 x.1.Flags,.bool x.1.Stamped,.int .u32 x.1.Val,.int .u32 x.1.Echo,.bool x.1.Long,.string ⟨⟨x.1.CID⟩⟩,.int .i64 x.1.Size]⟩,.int .i64 x.2.1,.int .i64 x.2.2.1,.int .i64 x.2.2.2]⟩,[],[]⟩
abbrev Xc7:=(List UInt8)→Option (Xav×Int×Int×Int)
def r55 (g:Xc7):Dec:=dV asS fun (y0:List UInt8)=>XdY (ofG (g y0) rx55)
theorem r55_c {g:Xc7} {y0:List UInt8} {x:Xav×Int×Int×Int} (hx:g y0=some x):r55 g [.string ⟨⟨y0⟩⟩] []=some (rx55 x):=(Xbb (Xeb)).trans (Xbc hx)
def s55 (g:Xc7):Xb3:=⟨[.v],r55 g⟩
theorem XFw {g:Xc7} {y0:List UInt8} {x:Xav×Int×Int×Int} (hx:g y0=some x):(s55 g).run [.string ⟨⟨y0⟩⟩] []=some (rx55 x):=r55_c hx
abbrev XQu (XcU:XdJ) (Xbo:Xcd) (Xbw:Xci):List (Nat×Xb3):=[(88,s88 XcU),(90,s90 Xbo),(89,s89 Xbw)]
theorem XIO (XcU:XdJ) (Xbo:Xcd) (Xbw:Xci) (hS:Xar Tryz.prog (XaI (XQu XcU Xbo Xbw))) (s:List UInt8) (res:Xav×Int×Int×Int) (h:Xjr XcU Xbo Xbw s=some res) :
 XaO Tryz.prog 55 0 ⟨⟨55,63,[(0,.string ⟨⟨s⟩⟩)],[.code XHE],[],false,none⟩,[],[],0⟩ (fun v H _=>Res 0 (rx55 res) v H):=by
 unfold Xjr at h
 have R1:=@XNT XcU
 have R2:=@XO5 Xbw
 have R3:=@XSb Xbo
 refine XbD XaQ hS true 3000 ?_
 conv=>whnf
 exact W
def Xca:Xc7:=Xjr XcU Xbo Xbw
theorem XGt:Xb8 Tryz.prog 55 (s55 Xca):=by
 have hL:=XIO XcU Xbo Xbw (Xar.Xa6 ⟨XTW,XSI,XTl,trivial⟩)
 exact okA ⟨Tryz.f55,rfl,by decide,rfl⟩
def XiM (Xca:Xc7) (s:List UInt8):Option (Xav×Int):=
 (Xca s).bind fun t=>
 some ((t.1,t.2.2.2))
def rx30 (x:Xav×Int):Xc4:=⟨.tuple ⟨[.agg ⟨[.int .i64 x.1.Tuple.Proto,.bool x.1.Tuple.Src.V6,.int .u64 x.1.Tuple.Src.Hi,.int .u64 x.1.Tuple.Src.Lo,.bool x.1.Tuple.Dst.V6,.int .u64 x.1.Tuple.Dst.Hi,.int .u64 x.1.Tuple.Dst.Lo,.int .i64 x.1.Tuple.SPort,.int .i64 x.1.Tuple.DPort,.int .i64 x.1.Flags,.bool x.1.Stamped,.int .u32 x.1.Val,.int .u32 x.1.Echo,.bool x.1.Long,.string ⟨⟨x.1.CID⟩⟩,.int .i64 x.1.Size]⟩,.int .i64 x.2]⟩,[],[]⟩
abbrev Xbe:=(List UInt8)→Option (Xav×Int)
def r30 (g:Xbe):Dec:=dV asS fun (y0:List UInt8)=>XdY (ofG (g y0) rx30)
theorem r30_c {g:Xbe} {y0:List UInt8} {x:Xav×Int} (hx:g y0=some x):r30 g [.string ⟨⟨y0⟩⟩] []=some (rx30 x):=(Xbb (Xeb)).trans (Xbc hx)
def s30 (g:Xbe):Xb3:=⟨[.v],r30 g⟩
theorem Xqc {g:Xbe} {y0:List UInt8} {x:Xav×Int} (hx:g y0=some x):(s30 g).run [.string ⟨⟨y0⟩⟩] []=some (rx30 x):=r30_c hx
abbrev XSv (Xca:Xc7):List (Nat×Xb3):=[(55,s55 Xca)]
theorem XJS (Xca:Xc7) (hS:Xar Tryz.prog (XaI (XSv Xca))) (s:List UInt8) (res:Xav×Int) (h:XiM Xca s=some res) :
 XaO Tryz.prog 30 0 ⟨⟨30,17,[(0,.string ⟨⟨s⟩⟩)],[.code XQQ],[],false,none⟩,[],[],0⟩ (fun v H _=>Res 0 (rx30 res) v H):=by
 unfold XiM at h
 have R1:=@XFw Xca
 refine XbD XaQ hS true 3000 ?_
 conv=>whnf
 exact W
def Xat:Xbe:=XiM Xca
theorem XqT:Xb8 Tryz.prog 30 (s30 Xat):=by
 have hL:=XJS Xca (Xar.Xa6 ⟨XGt,trivial⟩)
 exact okA ⟨Tryz.f30,rfl,by decide,rfl⟩
def XiH (Xca:Xc7) (s:List UInt8):Option (Int×Int×Int):=
 (Xca s).bind fun t=>
 cond (t.2.2.2 !=0)
  (
  some ((0,0,t.2.2.2)))
  (
  some ((wI .i64 ((s.length:Int) - t.2.1),wI .i64 ((s.length:Int) - t.2.2.1),0)))
def rx67 (x:Int×Int×Int):Xc4:=⟨.tuple ⟨[.int .i64 x.1,.int .i64 x.2.1,.int .i64 x.2.2]⟩,[],[]⟩
abbrev Xck:=(List UInt8)→Option (Int×Int×Int)
def r67 (g:Xck):Dec:=dV asS fun (y0:List UInt8)=>XdY (ofG (g y0) rx67)
theorem r67_c {g:Xck} {y0:List UInt8} {x:Int×Int×Int} (hx:g y0=some x):r67 g [.string ⟨⟨y0⟩⟩] []=some (rx67 x):=(Xbb (Xeb)).trans (Xbc hx)
def s67 (g:Xck):Xb3:=⟨[.v],r67 g⟩
theorem Xzf {g:Xck} {y0:List UInt8} {x:Int×Int×Int} (hx:g y0=some x):(s67 g).run [.string ⟨⟨y0⟩⟩] []=some (rx67 x):=r67_c hx
abbrev XRp (Xca:Xc7):List (Nat×Xb3):=[(55,s55 Xca)]
theorem XLc (Xca:Xc7) (hS:Xar Tryz.prog (XaI (XRp Xca))) (s:List UInt8) (res:Int×Int×Int) (h:XiH Xca s=some res) :
 XaO Tryz.prog 67 0 ⟨⟨67,27,[(0,.string ⟨⟨s⟩⟩)],[.code XF6],[],false,none⟩,[],[],0⟩ (fun v H _=>Res 0 (rx67 res) v H):=by
 unfold XiH at h
 have R1:=@XFw Xca
 refine XbD XaQ hS true 3000 ?_
 conv=>whnf
 exact W
def Xa4:Xck:=XiH Xca
theorem Xz3:Xb8 Tryz.prog 67 (s67 Xa4):=by
 have hL:=XLc Xca (Xar.Xa6 ⟨XGt,trivial⟩)
 exact okA ⟨Tryz.f67,rfl,by decide,rfl⟩
end Go.Vm.Code
namespace Go.Vm.Code
open Go Go.Vm
def zP:Xav:=⟨⟨0,⟨false,0,0⟩,⟨false,0,0⟩,0,0⟩,0,false,0,0,false,[],0⟩
structure O11 where
 src:Xag
 dst:Xag
 proto:Int
 size:Nat
 body:List UInt8
 err:Int
def zO (e:Int):O11:=⟨⟨false,0,0⟩,⟨false,0,0⟩,0,0,[],e⟩
def Xay (s:List UInt8):O11:=
 if vK s 0 1/16=4 then (if (XjF s).2.2≠0 then zO (XjF s).2.2 else if s.length≠20+(XjF s).1.Options.length+(XjF s).2.1.length then zO 5 else ⟨(XjF s).1.Src,(XjF s).1.Dst,(XjF s).1.Proto,20+(XjF s).1.Options.length,(XjF s).2.1,0⟩)
 else if vK s 0 1/16=6 then (if (Xly s).2.2≠0 then zO (Xly s).2.2 else if s.length≠40+(Xly s).2.1.length then zO 5 else ⟨(Xly s).1.Src,(Xly s).1.Dst,(Xly s).1.Next,40,(Xly s).2.1,0⟩)
 else zO 3
def Xu2 (o:List UInt8):Bool×Int×Int:=if 0≤(Xhg o).2.2 then (true,(Xhg o).1,(Xhg o).2.1) else (false,0,0)
def qc11 (b:List UInt8):Bool×List UInt8:=if (XHp b).2=0 then ((XHp b).1.Long,(XHp b).1.DCID) else (false,[])
def XiW (o:O11) (n:Nat):Xav×Nat×Int:=
 if o.proto=6 then (if (Xkp o.body o.src o.dst).2.2≠0 then (zP,0,(Xkp o.body o.src o.dst).2.2) else
  (⟨⟨o.proto,o.src,o.dst,(Xkp o.body o.src o.dst).1.SPort,(Xkp o.body o.src o.dst).1.DPort⟩,(Xkp o.body o.src o.dst).1.Flags,(Xu2 (Xkp o.body o.src o.dst).1.Options).1,(Xu2 (Xkp o.body o.src o.dst).1.Options).2.1,(Xu2 (Xkp o.body o.src o.dst).1.Options).2.2,false,[],n⟩,(Xkp o.body o.src o.dst).2.1.length,0))
 else if o.proto=17 then (if (Xpu o.body o.src o.dst).2.2≠0 then (zP,0,(Xpu o.body o.src o.dst).2.2) else if (Xpu o.body o.src o.dst).2.1.length+8≠o.body.length then (zP,0,5) else
  (⟨⟨o.proto,o.src,o.dst,(Xpu o.body o.src o.dst).1.SPort,(Xpu o.body o.src o.dst).1.DPort⟩,0,false,0,0,(qc11 (Xpu o.body o.src o.dst).2.1).1,(qc11 (Xpu o.body o.src o.dst).2.1).2,n⟩,(Xpu o.body o.src o.dst).2.1.length,0))
 else (zP,0,6)
def Xbz (s:List UInt8):Xav×Nat×Nat×Int:=
 if 9000<s.length then (zP,0,0,5) else if s=[] then (zP,0,0,2) else if (Xay s).err≠0 then (zP,0,0,(Xay s).err) else
  if (XiW (Xay s) s.length).2.2≠0 then (zP,0,0,(XiW (Xay s) s.length).2.2) else
   ((XiW (Xay s) s.length).1,s.length - (Xay s).body.length,s.length - (XiW (Xay s) s.length).2.1,0)
theorem XIx (s:List UInt8):A4 (XjF s).1.Src∧A4 (XjF s).1.Dst:=by
 have z:A4 ⟨false,0,0⟩:=⟨by simp only [];omega,by simp only [];omega,by simp only [];omega,by simp only [];omega⟩
 have k:∀ p,A4 (XwS s p):=fun p=>by
  have:=XkD s p 4 4294967296 (by decide)
  exact ⟨Int.le_refl 0,by show (0:Int)<2^64;decide,this.1,by show vK s p 4<2^64;omega⟩
 unfold XjF
 split
 ·exact ⟨z,z⟩
 split
 ·exact ⟨z,z⟩
 split
 ·exact ⟨z,z⟩
 split
 ·exact ⟨z,z⟩
 split
 ·exact ⟨z,z⟩
 split
 ·exact ⟨z,z⟩
 split
 ·exact ⟨z,z⟩
 exact ⟨k 12,k 16⟩
theorem XMk (s:List UInt8):A4 (Xly s).1.Src∧A4 (Xly s).1.Dst:=by
 have z:A4 ⟨false,0,0⟩:=⟨by simp only [];omega,by simp only [];omega,by simp only [];omega,by simp only [];omega⟩
 have k:∀ p,A4 (Xts ((s.drop p).take 16)):=fun p=>by
  have h1:XeY (((s.drop p).take 16).take 8)<2^64:=XeZ _ (by decide)
  have h2:XeY (((s.drop p).take 16).drop 8)<2^64:=by
   have:=Xsg (((s.drop p).take 16).drop 8)
   refine Nat.lt_of_lt_of_le this ?_
   have:(((s.drop p).take 16).drop 8).length≤8:=by simp;omega
   exact Nat.pow_le_pow_right (n:=256) (by decide) this
  unfold Xts
  exact ⟨by simp only [];omega,by simp only [];omega,by simp only [];omega,by simp only [];omega⟩
 unfold Xly
 split
 ·exact ⟨z,z⟩
 split
 ·exact ⟨z,z⟩
 split
 ·exact ⟨z,z⟩
 exact ⟨k 8,k 24⟩
theorem XAI (s:List UInt8):A4 (Xay s).src∧A4 (Xay s).dst:=by
 have z:A4 ⟨false,0,0⟩:=⟨by simp only [];omega,by simp only [];omega,by simp only [];omega,by simp only [];omega⟩
 unfold Xay zO
 split
 ·split
  ·exact ⟨z,z⟩
  split
  ·exact ⟨z,z⟩
  exact XIx s
 split
 ·split
  ·exact ⟨z,z⟩
  split
  ·exact ⟨z,z⟩
  exact XMk s
 exact ⟨z,z⟩
theorem Xi2 {s:List UInt8} (h:(Xay s).err=0):(Xay s).body.length+(Xay s).size=s.length:=by
 unfold Xay at h ⊢
 by_cases g1:vK s 0 1/16=4
 ·rw [if_pos g1] at h ⊢
  by_cases g2:(XjF s).2.2≠0
  ·rw [if_pos g2] at h;exact absurd h g2
  rw [if_neg g2] at h ⊢
  by_cases g3:s.length≠20+(XjF s).1.Options.length+(XjF s).2.1.length
  ·rw [if_pos g3] at h;exact absurd h (by decide)
  rw [if_neg g3]
  simp only [];omega
 rw [if_neg g1] at h ⊢
 by_cases g4:vK s 0 1/16=6
 ·rw [if_pos g4] at h ⊢
  by_cases g2:(Xly s).2.2≠0
  ·rw [if_pos g2] at h;exact absurd h g2
  rw [if_neg g2] at h ⊢
  by_cases g3:s.length≠40+(Xly s).2.1.length
  ·rw [if_pos g3] at h;exact absurd h (by decide)
  rw [if_neg g3]
  simp only [];omega
 ·rw [if_neg g4] at h;exact absurd h (by decide)
theorem XoY {s:List UInt8} (h:(Xbz s).2.2.2≠0):Xbz s=(zP,0,0,(Xbz s).2.2.2):=by
 unfold Xbz at h ⊢
 split
 ·rfl
 rename_i g1
 rw [if_neg g1] at h
 split
 ·rfl
 rename_i g2
 rw [if_neg g2] at h
 split
 ·rfl
 rename_i g3
 rw [if_neg g3] at h
 split
 ·rfl
 rename_i g4
 rw [if_neg g4] at h
 exact absurd rfl h
def o11 (o:O11):XaS:=⟨o.src,o.dst,o.proto,o.body⟩
theorem Xyi {s:List UInt8} (hs:s.length<2^19) (hn:s≠[]):XcU s=some (o11 (Xay s),(Xay s).err):=by
 unfold XcU Xia
 have h0:0<s.length:=List.length_pos_iff.2 hn
 have e0:=XuT (s:=s) (p:=0) h0
 have r0:=XkD s 0 1 256 (by decide)
 rw [List.getElem?_eq_getElem h0,Option.bind_some,←e0,XsM,show ((2:Int)^4)=16 from rfl,g5_eq (by omega),XMc (by omega),Option.bind_some,Option.bind_some]
 unfold Xay
 by_cases g1:vK s 0 1/16=4
 ·rw [if_pos g1,show (vK s 0 1/16==4)=true by simpa using g1,cond_true]
  by_cases g2:(XjF s).2.2=0
  ·have hb:(XjF s).1.Options.length≤s.length∧(XjF s).2.1.length≤s.length:=by
    unfold XjF
    repeat' split
    all_goals simp [Xrj]
    omega
   rw [if_neg (by simpa using g2),show ((XjF s).2.2 !=0)=false by simpa using g2,cond_false,Xe0 (n:=20+((XjF s).1.Options.length:Int)) (by omega) (by omega)]
   simp only []
   rw [Xe0 (n:=20+((XjF s).1.Options.length:Int)+((XjF s).2.1.length:Int)) (by omega) (by omega)]
   by_cases g3:s.length=20+(XjF s).1.Options.length+(XjF s).2.1.length
   ·rw [if_neg (by simpa using g3),show ((s.length:Int) !=20+((XjF s).1.Options.length:Int)+((XjF s).2.1.length:Int))=false by simp;omega];rfl
   ·rw [if_pos g3,show ((s.length:Int) !=20+((XjF s).1.Options.length:Int)+((XjF s).2.1.length:Int))=true by simp;omega];rfl
  ·rw [if_pos g2,show ((XjF s).2.2 !=0)=true by simpa using g2,cond_true];rfl
 ·rw [if_neg g1,show (vK s 0 1/16==4)=false by simpa using g1,cond_false]
  by_cases g4:vK s 0 1/16=6
  ·rw [if_pos g4,show (vK s 0 1/16==6)=true by simpa using g4,cond_true]
   by_cases g2:(Xly s).2.2=0
   ·have hb:(Xly s).2.1.length≤s.length:=by
     unfold Xly
     repeat' split
     all_goals simp
     omega
    rw [if_neg (by simpa using g2),show ((Xly s).2.2 !=0)=false by simpa using g2,cond_false,Xe0 (n:=40+((Xly s).2.1.length:Int)) (by omega) (by omega)]
    by_cases g3:s.length=40+(Xly s).2.1.length
    ·rw [if_neg (by simpa using g3),show ((s.length:Int) !=40+((Xly s).2.1.length:Int))=false by simp;omega];rfl
    ·rw [if_pos g3,show ((s.length:Int) !=40+((Xly s).2.1.length:Int))=true by simp;omega];rfl
   ·rw [if_pos g2,show ((Xly s).2.2 !=0)=true by simpa using g2,cond_true];rfl
  ·rw [if_neg g4,show (vK s 0 1/16==6)=false by simpa using g4,cond_false];rfl
theorem XNS {o:O11} {n:Nat} (h1:A4 o.src) (h2:A4 o.dst) (hb:o.body.length<2^19) (hp:o.proto=6):∃ q,Xbw (o11 o) ⟨⟨o.proto,o.src,o.dst,0,0⟩,0,false,0,0,false,[],(n:Int)⟩=some (((XiW o n).2.1:Int),(XiW o n).2.2,q)∧((XiW o n).2.2=0→q=(XiW o n).1):=by
 unfold Xbw XeT XiW o11
 rw [if_pos hp]
 simp only []
 rw [XDZ h1 h2 (by omega),Option.bind_some]
 by_cases g:(Xkp o.body o.src o.dst).2.2=0
 ·have ho:(Xkp o.body o.src o.dst).1.Options.length<2^20:=by
   unfold Xkp
   repeat' split
   all_goals simp [Xrt]
   all_goals omega
  rw [if_neg (by simpa using g),show ((Xkp o.body o.src o.dst).2.2 !=0)=false by simpa using g,cond_false,Xxu ho,Option.bind_some]
  unfold Xu2
  by_cases g2:0≤(Xhg (Xkp o.body o.src o.dst).1.Options).2.2
  ·rw [if_pos g2,XbB (by omega)]
   exact ⟨_,rfl,fun _=>rfl⟩
  ·rw [if_neg g2,Xbd (by omega)]
   exact ⟨_,rfl,fun _=>rfl⟩
 ·rw [if_pos g,show ((Xkp o.body o.src o.dst).2.2 !=0)=true by simpa using g,cond_true]
  exact ⟨_,rfl,fun h=>absurd h g⟩
theorem XPD {o:O11} {n:Nat} (h1:A4 o.src) (h2:A4 o.dst) (hb:o.body.length<2^19) (hp:o.proto=17):∃ q,Xbo (o11 o) ⟨⟨o.proto,o.src,o.dst,0,0⟩,0,false,0,0,false,[],(n:Int)⟩=some (((XiW o n).2.1:Int),(XiW o n).2.2,q)∧((XiW o n).2.2=0→q=(XiW o n).1):=by
 unfold Xbo XeB XiW o11
 rw [if_neg (by omega),if_pos hp]
 simp only []
 rw [XIj h1 h2 (by omega),Option.bind_some]
 by_cases g:(Xpu o.body o.src o.dst).2.2=0
 ·have ho:(Xpu o.body o.src o.dst).2.1.length<2^20:=by
   unfold Xpu
   repeat' split
   all_goals simp
   all_goals omega
  rw [if_neg (by simpa using g),show ((Xpu o.body o.src o.dst).2.2 !=0)=false by simpa using g,cond_false,Xe0 (n:=(o.body.length:Int) - 8) (by omega) (by omega)]
  by_cases g2:(Xpu o.body o.src o.dst).2.1.length+8=o.body.length
  ·rw [if_neg (by simpa using g2),show (((Xpu o.body o.src o.dst).2.1.length:Int) !=(o.body.length:Int) - 8)=false by simp;omega,cond_false,XB1 (by omega),Option.bind_some]
   unfold qc11
   by_cases g3:(XHp (Xpu o.body o.src o.dst).2.1).2=0
   ·rw [if_pos g3,show ((XHp (Xpu o.body o.src o.dst).2.1).2==0)=true by simpa using g3,cond_true]
    exact ⟨_,rfl,fun _=>rfl⟩
   ·rw [if_neg g3,show ((XHp (Xpu o.body o.src o.dst).2.1).2==0)=false by simpa using g3,cond_false]
    exact ⟨_,rfl,fun _=>rfl⟩
  ·rw [if_pos g2,show (((Xpu o.body o.src o.dst).2.1.length:Int) !=(o.body.length:Int) - 8)=true by simp;omega,cond_true]
   exact ⟨_,rfl,fun h=>absurd h (by decide)⟩
 ·rw [if_pos g,show ((Xpu o.body o.src o.dst).2.2 !=0)=true by simpa using g,cond_true]
  exact ⟨_,rfl,fun h=>absurd h g⟩
def Xj4 (s:List UInt8):Xav×Int×Int×Int:=
 if (Xbz s).2.2.2≠0 then (zP,0,0,(Xbz s).2.2.2) else ((Xbz s).1,((s.length - (Xbz s).2.1:Nat):Int),((s.length - (Xbz s).2.2.1:Nat):Int),0)
theorem XEm {o:O11} {n:Nat}:(XiW o n).2.1≤o.body.length:=by
 unfold XiW
 split
 ·split
  ·simp
  ·show (Xkp o.body o.src o.dst).2.1.length≤_
   unfold Xkp
   repeat' split
   all_goals simp
 split
 ·split
  ·simp
  split
  ·simp
  ·show (Xpu o.body o.src o.dst).2.1.length≤_
   unfold Xpu
   repeat' split
   all_goals simp
   all_goals omega
 ·simp
theorem Xu3 {s:List UInt8} (hs:s.length<2^19):Xca s=some (Xj4 s):=by
 unfold Xca Xjr
 have hz:(⟨⟨0,⟨false,0,0⟩,⟨false,0,0⟩,0,0⟩,0,false,0,0,false,[],0⟩:Xav)=zP:=rfl
 rw [hz]
 by_cases g1:9000<s.length
 ·have hT:Xbz s=(zP,0,0,5):=by unfold Xbz;rw [if_pos g1]
  unfold Xj4
  rw [XbB (by omega),hT];rfl
 rw [Xbd (by omega)]
 by_cases g2:s=[]
 ·subst g2;rfl
 rw [show (s==[])=false by simpa using g2,cond_false,Xyi hs g2,Option.bind_some]
 obtain ⟨a1,a2⟩:=XAI s
 by_cases g3:(Xay s).err=0
 ·have hb:=Xi2 g3
  have hil:=XEm (o:=Xay s) (n:=s.length)
  have hE:(XiW (Xay s) s.length).2.2≠0→Xj4 s=(zP,0,0,(XiW (Xay s) s.length).2.2):=fun g4=>by
   have hT:Xbz s=(zP,0,0,(XiW (Xay s) s.length).2.2):=by unfold Xbz;rw [if_neg g1,if_neg g2,if_neg (by simpa using g3),if_pos g4]
   unfold Xj4
   rw [hT,if_pos g4]
  have hO:(XiW (Xay s) s.length).2.2=0→Xj4 s=((XiW (Xay s) s.length).1,((Xay s).body.length:Int),((XiW (Xay s) s.length).2.1:Int),0):=fun g4=>by
   have hT:Xbz s=((XiW (Xay s) s.length).1,s.length - (Xay s).body.length,s.length - (XiW (Xay s) s.length).2.1,0):=by unfold Xbz;rw [if_neg g1,if_neg g2,if_neg (by simpa using g3),if_neg (by simpa using g4)]
   unfold Xj4
   rw [hT,if_neg (by simp)]
   simp only []
   rw [show s.length - (s.length - (Xay s).body.length)=(Xay s).body.length by omega,show s.length - (s.length - (XiW (Xay s) s.length).2.1)=(XiW (Xay s) s.length).2.1 by omega]
  simp only [g3,bne_self_eq_false,cond_false]
  by_cases p6:(Xay s).proto=6
  ·obtain ⟨q,q1,q2⟩:=XNS (o:=Xay s) (n:=s.length) a1 a2 (by omega) p6
   have e6:((o11 (Xay s)).proto==6)=true:=by show ((Xay s).proto==6)=true;simpa using p6
   rw [e6,cond_true]
   show (Xbw (o11 (Xay s)) ⟨⟨(Xay s).proto,(Xay s).src,(Xay s).dst,0,0⟩,0,false,0,0,false,[],(s.length:Int)⟩).bind _=_
   rw [q1,Option.bind_some]
   simp only []
   by_cases g4:(XiW (Xay s) s.length).2.2=0
   ·rw [hO g4,g4,q2 g4];rfl
   ·rw [hE g4,show ((XiW (Xay s) s.length).2.2 !=0)=true by simpa using g4];rfl
  ·have e6:((o11 (Xay s)).proto==6)=false:=by show ((Xay s).proto==6)=false;simpa using p6
   rw [e6,cond_false]
   by_cases p17:(Xay s).proto=17
   ·obtain ⟨q,q1,q2⟩:=XPD (o:=Xay s) (n:=s.length) a1 a2 (by omega) p17
    have e17:((o11 (Xay s)).proto==17)=true:=by show ((Xay s).proto==17)=true;simpa using p17
    rw [e17,cond_true]
    show (Xbo (o11 (Xay s)) ⟨⟨(Xay s).proto,(Xay s).src,(Xay s).dst,0,0⟩,0,false,0,0,false,[],(s.length:Int)⟩).bind _=_
    rw [q1,Option.bind_some]
    simp only []
    by_cases g4:(XiW (Xay s) s.length).2.2=0
    ·rw [hO g4,g4,q2 g4];rfl
    ·rw [hE g4,show ((XiW (Xay s) s.length).2.2 !=0)=true by simpa using g4];rfl
   ·have e17:((o11 (Xay s)).proto==17)=false:=by show ((Xay s).proto==17)=false;simpa using p17
    have e6':(XiW (Xay s) s.length).2.2=6:=by unfold XiW;rw [if_neg p6,if_neg p17]
    rw [e17,cond_false,hE (by rw [e6'];decide),e6']
 ·have hT:Xbz s=(zP,0,0,(Xay s).err):=by unfold Xbz;rw [if_neg g1,if_neg g2,if_pos g3]
  unfold Xj4
  rw [hT,if_pos g3,show ((Xay s).err !=0)=true by simpa using g3];rfl
theorem XvF {s:List UInt8} (hs:s.length<2^19):Xat s=some ((Xbz s).1,(Xbz s).2.2.2):=by
 unfold Xat XiM
 rw [Xu3 hs,Option.bind_some]
 unfold Xj4
 by_cases g:(Xbz s).2.2.2=0
 ·rw [if_neg (by simpa using g),g]
 ·rw [if_pos g,XoY g]
theorem XAM (s:List UInt8):(Xbz s).2.1≤s.length∧(Xbz s).2.2.1≤s.length:=by
 unfold Xbz
 repeat' split
 all_goals simp
theorem XCO {s:List UInt8} (hs:s.length<2^19):Xa4 s=some (((Xbz s).2.1:Int),((Xbz s).2.2.1:Int),(Xbz s).2.2.2):=by
 unfold Xa4 XiH
 rw [Xu3 hs,Option.bind_some]
 unfold Xj4
 have hl:=XAM s
 by_cases g:(Xbz s).2.2.2=0
 ·rw [if_neg (by simpa using g),g]
  simp only [bne_self_eq_false,cond_false]
  rw [Xe0 (by omega) (by omega),Xe0 (by omega) (by omega),show (s.length:Int) - ((s.length - (Xbz s).2.1:Nat):Int)=((Xbz s).2.1:Int) by omega,show (s.length:Int) - ((s.length - (Xbz s).2.2.1:Nat):Int)=((Xbz s).2.2.1:Int) by omega]
 ·rw [if_pos g]
  simp only []
  rw [show ((Xbz s).2.2.2 !=0)=true by simpa using g,cond_true,XoY g];rfl
theorem get_put {h:XaD} {l more:List UInt8} (hh:H5 h=true) (h1:A4 h.Src) (h2:A4 h.Dst) (hl:20+h.Options.length+l.length≤65535):XjF (hc5 h (20+h.Options.length+l.length) (ck5 h (20+h.Options.length+l.length))++(l++more))=(h,l,0):=by
 obtain ⟨q1,q2,q3,q4,q5,q6,q7,q8⟩:=XGS hh
 generalize hn:20+h.Options.length+l.length=n at *
 obtain ⟨c1,c2,c3⟩:=XR8 h n
 generalize ck5 h n=c at *
 have hlen:=XrD h n c
 obtain ⟨p0,p1,p2,p4,p6,p8,p9,p12,p16,p20,_,_⟩:=XoR h n c (l++more)
 have s5:=q5.2
 have d5:=q6.2
 unfold aok at s5 d5
 rw [q5.1] at s5
 rw [q6.1] at d5
 simp only [Bool.false_or,Bool.and_eq_true,beq_iff_eq,decide_eq_true_eq] at s5 d5
 obtain ⟨_,_,h1c,_⟩:=h1
 obtain ⟨_,_,h2c,_⟩:=h2
 have v0:=Xjv p0 rfl (by omega)
 have v1:=Xjv p1 rfl (by omega)
 have v2:=Xjv p2 rfl (by omega)
 have v4:=Xjv p4 rfl (by omega)
 have v6:=Xjv p6 (wflag h.Whole) (by cases h.Whole<;>decide)
 have v8:=Xjv p8 rfl (by omega)
 have v9:=Xjv p9 rfl (by omega)
 have v12:=Xjv p12 rfl (by omega)
 have v16:=Xjv p16 rfl (by omega)
 have ht:(((64+(20+h.Options.length)/4:Nat):Int)%16*4)=((20+h.Options.length:Nat):Int):=by omega
 unfold XjF XwS
 rw [v0,v1,v2,v4,v6,v8,v9,v12,v16,ht,Int.toNat_natCast,Int.toNat_natCast,p20]
 rw [if_neg (by simp only [List.length_append];omega),if_neg (by omega),if_neg (by omega),if_neg (by omega),if_neg (by simp only [List.length_append];omega),show (hc5 h n c++(l++more)).take (20+h.Options.length)=hc5 h n c by rw [←hlen];exact List.take_left,XiG c2 c3,if_neg (by decide),if_neg (by cases h.Whole<;>simp)]
 rw [show 20+h.Options.length - 20=h.Options.length by omega,List.take_left,show (hc5 h n c++(l++more)).drop (20+h.Options.length)=l++more by rw [←hlen];exact List.drop_left,show n - (20+h.Options.length)=l.length by omega,List.take_left]
 obtain ⟨cl,mk,wh,tt,pr,⟨sv,sh,sl⟩,⟨dv,dh,dl⟩,op⟩:=h
 simp only at q1 q2 q3 q4 q5 q6 s5 d5 h1c h2c ⊢
 obtain ⟨rfl,_⟩:=s5
 obtain ⟨rfl,_⟩:=d5
 rw [q5.1,q6.1,Int.toNat_of_nonneg q1.1,Int.toNat_of_nonneg q2.1,Int.toNat_of_nonneg q3.1,Int.toNat_of_nonneg q4.1,Int.toNat_of_nonneg h1c,Int.toNat_of_nonneg h2c]
 cases wh<;>rfl
theorem XyH {h:XaX} {n:Nat} {r:List UInt8} (hh:H6 h) (hs:Xn2 h.Src) (hd:Xn2 h.Dst) (hn:n≤65535):Xly (headB h n++r)=if r.length<n then (zero6,[],2) else (h,r.take n,0):=by
 obtain ⟨a,b,c,d,e,f⟩:=hh
 have hl:=XmP h n
 obtain ⟨p1,p2,p3,p4,p5,p6,p7⟩:=XGq (a:=be (6*2^28+h.Class.toNat*2^20+h.Label.toNat) 4) (b:=be n 2) (c:=be h.Next.toNat 1) (d:=be h.Hop.toNat 1) (e:=XjU h.Src) (f:=XjU h.Dst) (r:=r) (by simp) (by simp) (by simp) (by simp) (by simp [XjU]) (by simp [XjU])
 have hv:XeY ((headB h n++r).take 4)=6*2^28+h.Class.toNat*2^20+h.Label.toNat:=by
  unfold headB;rw [p1,XfI (by omega)]
 have hw:XeY (((headB h n++r).drop 4).take 2)=n:=by unfold headB;rw [p2,XfI (by omega)]
 unfold Xly
 rw [if_neg (by simp;omega),hv,if_neg (by omega),hw]
 have hlen:(headB h n++r).length - 40=r.length:=by simp;omega
 rw [hlen]
 by_cases hr:r.length<n
 ·rw [if_pos hr,if_pos hr]
 rw [if_neg hr,if_neg hr]
 have e40:(headB h n++r).drop 40=r:=p7
 rw [e40]
 unfold XsT
 rw [hv]
 unfold headB
 rw [p3,p4,p5,p6,XoH hs e,XoH hd f,XfI (by omega),XfI (by omega)]
 have e1:(((6*2^28+h.Class.toNat*2^20+h.Label.toNat)/2^20%256:Nat):Int)=h.Class:=by omega
 have e2:(((6*2^28+h.Class.toNat*2^20+h.Label.toNat)%2^20:Nat):Int)=h.Label:=by omega
 simp only []
 rw [e1,e2,Int.toNat_of_nonneg c.1,Int.toNat_of_nonneg d.1]
def dg (h:Xcl) (l:List UInt8) (c:Nat):List UInt8:=be h.SPort.toNat 2++be h.DPort.toNat 2++be (8+l.length) 2++be c 2++l
theorem XSP {a b n m f g t c u r:List UInt8} (ha:a.length=2) (hb:b.length=2) (hn:n.length=4) (hm:m.length=4) (hf:f.length=1) (hg:g.length=1) (ht:t.length=2) (hc:c.length=2) (hu:u.length=2) :
 let s:=a++b++n++m++f++g++t++(c++(u++r))
 (s.drop 0).take 2=a∧(s.drop 2).take 2=b∧(s.drop 4).take 4=n∧(s.drop 8).take 4=m∧(s.drop 12).take 1=f∧(s.drop 13).take 1=g∧(s.drop 14).take 2=t∧(s.drop 16).take 2=c∧(s.drop 18).take 2=u∧s.drop 20=r:=by
 obtain ⟨a1,a2,rfl⟩:=l2 ha
 obtain ⟨b1,b2,rfl⟩:=l2 hb
 obtain ⟨n1,n2,n3,n4,rfl⟩:=l4 hn
 obtain ⟨m1,m2,m3,m4,rfl⟩:=l4 hm
 obtain ⟨f1,rfl⟩:=l1 hf
 obtain ⟨g1,rfl⟩:=l1 hg
 obtain ⟨t1,t2,rfl⟩:=l2 ht
 obtain ⟨c1,c2,rfl⟩:=l2 hc
 obtain ⟨u1,u2,rfl⟩:=l2 hu
 exact ⟨rfl,rfl,rfl,rfl,rfl,rfl,rfl,rfl,rfl,rfl⟩
theorem XyV (h:XaT) (c:Nat) (r:List UInt8):let s:=hc7 h c++r
 (s.drop 0).take 2=be h.SPort.toNat 2∧(s.drop 2).take 2=be h.DPort.toNat 2∧(s.drop 4).take 4=be h.Seq.toNat 4∧(s.drop 8).take 4=be h.Ack.toNat 4∧(s.drop 12).take 1=be (4*(20+h.Options.length)) 1∧(s.drop 13).take 1=be h.Flags.toNat 1∧(s.drop 14).take 2=be h.Window.toNat 2∧(s.drop 16).take 2=be c 2∧(s.drop 18).take 2=be h.Urgent.toNat 2∧s.drop 20=h.Options++r:=by
 rw [Xrg]
 unfold ha7
 exact XSP (Xea _ _) (Xea _ _) (Xea _ _) (Xea _ _) (Xea _ _) (Xea _ _) (Xea _ _) (Xea _ _) (Xea _ _)
theorem XDc {h:XaT} {src dst:Xag} {l:List UInt8} (hh:H7 h=true) (hw:W7 h) (ho:(Xnb h.Options).2=0) (hp:XlN src dst 6 (20+h.Options.length+l.length)≠[]):Xkp (hc7 h (ck7 (XlN src dst 6 (20+h.Options.length+l.length)) h l)++l) src dst=(h,l,0):=by
 obtain ⟨q1,q2,q3,q4,q5,q6,q7⟩:=XGT hh
 obtain ⟨w1,w2⟩:=hw
 have pe:=Xst src dst 6 (20+h.Options.length+l.length)
 generalize hpp:XlN src dst 6 (20+h.Options.length+l.length)=p at *
 obtain ⟨c1,c2,c3⟩:=XQ7 pe h l
 generalize ck7 p h l=c at *
 have hlen:=Xtk h c
 obtain ⟨p0,p2,p4,p8,p12,p13,p14,p16,p18,p20⟩:=XyV h c l
 have v0:=Xjv p0 rfl (by omega)
 have v2:=Xjv p2 rfl (by omega)
 have v4:=Xjv p4 rfl (by omega)
 have v8:=Xjv p8 rfl (by omega)
 have v12:=Xjv p12 rfl (by omega)
 have v13:=Xjv p13 rfl (by omega)
 have v14:=Xjv p14 rfl (by omega)
 have v18:=Xjv p18 rfl (by omega)
 have ht:(4*(((4*(20+h.Options.length):Nat):Int)/16))=((20+h.Options.length:Nat):Int):=by omega
 unfold Xkp
 have hl:(((hc7 h c++l).length:Nat):Int)=20+h.Options.length+l.length:=by rw [List.length_append,hlen];omega
 rw [v0,v2,v4,v8,v12,v13,v14,v18,ht,Int.toNat_natCast,p20,hl,hpp]
 have hdr:(hc7 h c++l).drop (20+h.Options.length)=l:=by rw [←hlen];exact List.drop_left
 rw [if_neg (by simp only [List.length_append];omega),if_neg (by omega),if_neg (by omega),if_neg (by omega),if_neg hp,XiG c2 c3,if_neg (by decide),show 20+h.Options.length - 20=h.Options.length by omega,List.take_left,if_neg (by simpa using ho),hdr]
 obtain ⟨sp,dp,sq,ak,fl,wi,ur,op⟩:=h
 simp only at q1 q2 q3 q4 q5 w1 w2 ⊢
 rw [Int.toNat_of_nonneg q1.1,Int.toNat_of_nonneg q2.1,Int.toNat_of_nonneg q3.1,Int.toNat_of_nonneg q4.1,Int.toNat_of_nonneg q5.1,Int.toNat_of_nonneg w1.1,Int.toNat_of_nonneg w2.1]
theorem XOe (t:Xai) (n:Nat) (r:List UInt8):vK (headB (Xnc t) n++r) 0 1=96:=by
 obtain ⟨p1,_⟩:=XGq (a:=be (6*2^28+(Xnc t).Class.toNat*2^20+(Xnc t).Label.toNat) 4) (b:=be n 2) (c:=be (Xnc t).Next.toNat 1) (d:=be (Xnc t).Hop.toNat 1) (e:=XjU (Xnc t).Src) (f:=XjU (Xnc t).Dst) (r:=r) (by simp) (by simp) (by simp) (by simp) (by simp [XjU]) (by simp [XjU])
 have e:be (6*2^28+(Xnc t).Class.toNat*2^20+(Xnc t).Label.toNat) 4++be n 2++be (Xnc t).Next.toNat 1++be (Xnc t).Hop.toNat 1++XjU (Xnc t).Src++XjU (Xnc t).Dst++r=headB (Xnc t) n++r:=rfl
 rw [e] at p1
 unfold vK
 have:((headB (Xnc t) n++r).drop 0).take 1=((headB (Xnc t) n++r).take 4).take 1:=by rw [List.drop_zero,List.take_take];rfl
 rw [this,p1,show (Xnc t).Class.toNat=0 from rfl,show (Xnc t).Label.toNat=0 from rfl];rfl
theorem XTf (t:Xai) (n c:Nat) (r:List UInt8):vK (hc5 (Xku t) n c++r) 0 1=69:=by
 obtain ⟨p0,_⟩:=XoR (Xku t) n c r
 have w0:=Xjv p0 rfl (by rw [show (Xku t).Options=[] from rfl];decide)
 rw [show (Xku t).Options.length=0 from rfl] at w0
 rw [show ((64+(20+0)/4:Nat):Int)=69 from rfl] at w0
 exact w0
theorem XMo {t:Xai} {b more:List UInt8} (h1:A4 t.Src) (h2:A4 t.Dst) (hh:H6 (Xnc t)) (hb:b.length≤65535):Xay (headB (Xnc t) b.length++(b++more))=if more=[] then ⟨t.Src,t.Dst,t.Proto,40,b,0⟩ else zO 5:=by
 have hg:=XyH (h:=Xnc t) (n:=b.length) (r:=b++more) hh h1.XuN h2.XuN hb
 rw [if_neg (by simp),List.take_left] at hg
 unfold Xay
 rw [XOe,if_neg (by decide),if_pos (by decide),hg,if_neg (by simp)]
 simp only [List.length_append,XmP]
 by_cases hm:more=[]
 ·subst hm
  rw [if_neg (by simp),if_pos rfl];rfl
 ·have:0<more.length:=List.length_pos_iff.2 hm
  rw [if_pos (by omega),if_neg hm]
theorem XLi {t:Xai} {b more:List UInt8} (h1:A4 t.Src) (h2:A4 t.Dst) (hh:H5 (Xku t)=true) (hb:20+b.length≤65535):Xay (hc5 (Xku t) (20+b.length) (ck5 (Xku t) (20+b.length))++(b++more))=if more=[] then ⟨t.Src,t.Dst,t.Proto,20,b,0⟩ else zO 5:=by
 have ho:(Xku t).Options.length=0:=rfl
 have hg:=get_put (h:=Xku t) (l:=b) (more:=more) hh h1 h2 (by omega)
 have hl:=XrD (Xku t) (20+b.length) (ck5 (Xku t) (20+b.length))
 rw [ho,Nat.add_zero] at hg hl
 unfold Xay
 rw [XTf,if_pos (by decide),hg,if_neg (by simp)]
 simp only [List.length_append,hl,ho]
 by_cases hm:more=[]
 ·subst hm
  rw [if_neg (by simp),if_pos rfl];rfl
 ·have:0<more.length:=List.length_pos_iff.2 hm
  rw [if_pos (by omega),if_neg hm]
theorem Xzo {t:Xai} {b more:List UInt8} (h1:A4 t.Src) (h2:A4 t.Dst) (h0:(Xip t b).2=0):Xay ((Xip t b).1++more)=if more=[] then ⟨t.Src,t.Dst,t.Proto,cond t.Src.V6 40 20,b,0⟩ else zO 5:=by
 obtain ⟨_,_,_,_,_,h⟩:=Xvj h0
 rcases h with ⟨v,hh,hl,e⟩|⟨v,hh,hl,e⟩
 ·rw [e,v]
  simp only [List.append_assoc]
  exact XMo h1 h2 hh hl
 ·rw [e,v]
  simp only [List.append_assoc]
  exact XLi h1 h2 hh hl
theorem XrF {t:Xai} {b:List UInt8} (h0:(Xip t b).2=0):(Xip t b).1.length=cond t.Src.V6 40 20+b.length∧(Xip t b).1.length≤9000:=by
 obtain ⟨_,_,_,_,h9,h⟩:=Xvj h0
 refine ⟨?_,h9⟩
 rcases h with ⟨v,hh,hl,e⟩|⟨v,hh,hl,e⟩
 ·rw [e,v]
  simp only [List.length_append,XmP,cond_true]
 ·have hl:=XrD (Xku t) (20+b.length) (ck5 (Xku t) (20+b.length))
  rw [show (Xku t).Options.length=0 from rfl] at hl
  rw [e,v]
  simp only [List.length_append,hl,cond_false]
theorem Xyj {t:Xai} {b:List UInt8} (h1:A4 t.Src) (h2:A4 t.Dst) (h0:(Xip t b).2=0):Xbz (Xip t b).1=if (XiW ⟨t.Src,t.Dst,t.Proto,cond t.Src.V6 40 20,b,0⟩ (Xip t b).1.length).2.2≠0 then (zP,0,0,(XiW ⟨t.Src,t.Dst,t.Proto,cond t.Src.V6 40 20,b,0⟩ (Xip t b).1.length).2.2) else
 ((XiW ⟨t.Src,t.Dst,t.Proto,cond t.Src.V6 40 20,b,0⟩ (Xip t b).1.length).1,cond t.Src.V6 40 20,(Xip t b).1.length - (XiW ⟨t.Src,t.Dst,t.Proto,cond t.Src.V6 40 20,b,0⟩ (Xip t b).1.length).2.1,0):=by
 have ho:=Xzo (more:=[]) h1 h2 h0
 rw [List.append_nil,if_pos rfl] at ho
 obtain ⟨hl,h9⟩:=XrF h0
 unfold Xbz
 have hne:(Xip t b).1≠[]:=by
  intro e
  rw [e] at hl
  cases hv:t.Src.V6<;>rw [hv] at hl<;>simp at hl<;>omega
 rw [if_neg (by omega),if_neg hne,ho,if_neg (by simp)]
 simp only []
 rw [show (Xip t b).1.length - b.length=cond t.Src.V6 40 20 by omega]
theorem XHM {h:XaT} {src dst:Xag} {l:List UInt8} (h0:(XpR h src dst l).2=0):H7 h=true∧XlN src dst 6 (20+h.Options.length+l.length)≠[]∧XpR h src dst l=(hc7 h (ck7 (XlN src dst 6 (20+h.Options.length+l.length)) h l)++l,0):=by
 unfold XpR at h0 ⊢
 cases hh:H7 h
 ·rw [if_pos hh] at h0;exact absurd h0 (by decide)
 rw [if_neg (by rw [hh];decide)] at h0
 rw [if_neg (by decide)]
 by_cases hp:XlN src dst 6 (20+h.Options.length+l.length)=[]
 ·rw [if_pos hp] at h0;exact absurd h0 (by decide)
 rw [if_neg hp] at h0 ⊢
 by_cases hl:65535 - (20+(h.Options.length:Int))<l.length
 ·rw [if_pos hl] at h0;exact absurd h0 (by decide)
 rw [if_neg hl]
 exact ⟨rfl,hp,rfl⟩
theorem XRB {t:Xai} {h:XaT} {l:List UInt8} {z n:Nat} (hw:W7 h) (ho:(Xnb h.Options).2=0) (h0:(XpR h t.Src t.Dst l).2=0) (hp:t.Proto=6) :
 XiW ⟨t.Src,t.Dst,t.Proto,z,(XpR h t.Src t.Dst l).1,0⟩ n=(⟨⟨t.Proto,t.Src,t.Dst,h.SPort,h.DPort⟩,h.Flags,(Xu2 h.Options).1,(Xu2 h.Options).2.1,(Xu2 h.Options).2.2,false,[],n⟩,l.length,0):=by
 obtain ⟨a,b,c⟩:=XHM h0
 have hg:=XDc a hw ho b
 rw [show hc7 h (ck7 (XlN t.Src t.Dst 6 (20+h.Options.length+l.length)) h l)++l=(XpR h t.Src t.Dst l).1 by rw [c]] at hg
 unfold XiW
 rw [if_pos hp]
 simp only []
 rw [hg,if_neg (by simp)]
end Go.Vm.Code
namespace Go.Vm.Code
open Go Go.Vm Go.Proofs
set_option maxRecDepth 100000
set_option maxHeartbeats 4000000
set_option linter.unusedVariables false
end Go.Vm.Code
namespace Go.Vm.Code
open Go Go.Vm
end Go.Vm.Code
namespace Go.Vm.Code
open Go Go.Vm Go.Proofs
set_option maxRecDepth 100000
set_option maxHeartbeats 4000000
set_option linter.unusedVariables false
end Go.Vm.Code
namespace Go.Vm.Code
open Go Go.Vm
end Go.Vm.Code
namespace Go.Vm.Code
open Go Go.Vm Go.Proofs
set_option maxRecDepth 100000
set_option maxHeartbeats 4000000
set_option linter.unusedVariables false
def Xme (t:Xai):Option Xai:=
 some (Xai.mk t.Proto t.Dst t.Src t.DPort t.SPort)
def rx36 (x:Xai):Xc4:=⟨.agg ⟨[.int .i64 x.Proto,.bool x.Src.V6,.int .u64 x.Src.Hi,.int .u64 x.Src.Lo,.bool x.Dst.V6,.int .u64 x.Dst.Hi,.int .u64 x.Dst.Lo,.int .i64 x.SPort,.int .i64 x.DPort]⟩,[],[]⟩
abbrev Xdt:=Xai→Option Xai
def r36 (g:Xdt):Dec:=dV XdQ fun (y0:Xai)=>XdY (ofG (g y0) rx36)
theorem r36_c {g:Xdt} {y0:Xai} {x:Xai} (hx:g y0=some x):r36 g [.agg ⟨[.int .i64 y0.Proto,.bool y0.Src.V6,.int .u64 y0.Src.Hi,.int .u64 y0.Src.Lo,.bool y0.Dst.V6,.int .u64 y0.Dst.Hi,.int .u64 y0.Dst.Lo,.int .i64 y0.SPort,.int .i64 y0.DPort]⟩] []=some (rx36 x):=(Xbb (XdT _)).trans (Xbc hx)
def s36 (g:Xdt):Xb3:=⟨[.v],r36 g⟩
theorem XGd {g:Xdt} {y0:Xai} {x:Xai} (hx:g y0=some x):(s36 g).run [.agg ⟨[.int .i64 y0.Proto,.bool y0.Src.V6,.int .u64 y0.Src.Hi,.int .u64 y0.Src.Lo,.bool y0.Dst.V6,.int .u64 y0.Dst.Hi,.int .u64 y0.Dst.Lo,.int .i64 y0.SPort,.int .i64 y0.DPort]⟩] []=some (rx36 x):=r36_c hx
abbrev XRn:List (Nat×Xb3):=[]
theorem XJe (hS:Xar Tryz.prog (XaI (XRn))) (t:Xai) (res:Xai) (h:Xme t=some res) :
 XaO Tryz.prog 36 0 ⟨⟨36,16,[(0,.agg ⟨[.int .i64 t.Proto,.bool t.Src.V6,.int .u64 t.Src.Hi,.int .u64 t.Src.Lo,.bool t.Dst.V6,.int .u64 t.Dst.Hi,.int .u64 t.Dst.Lo,.int .i64 t.SPort,.int .i64 t.DPort]⟩)],[.code XPx],[],false,none⟩,[],[],0⟩ (fun v H _=>Res 0 (rx36 res) v H):=by
 unfold Xme at h
 refine XbD XaQ hS true 3000 ?_
 conv=>whnf
 exact W
def XcF:Xdt:=Xme
theorem XGM:Xb8 Tryz.prog 36 (s36 XcF):=by
 have hL:=XJe (Xar.Xa6 trivial)
 exact okA ⟨Tryz.f36,rfl,by decide,rfl⟩
end Go.Vm.Code
namespace Go.Vm.Code
open Go Go.Vm
theorem Xzy (a b:Nat):(Xdl a b).length=12:=by simp [Xdl]
def XLm (a b:Xai):Bool:=(a.Proto==b.Proto)&&((a.Src.V6==b.Src.V6)&&((a.Src.Hi==b.Src.Hi)&&((a.Src.Lo==b.Src.Lo)&&((a.Dst.V6==b.Dst.V6)&&((a.Dst.Hi==b.Dst.Hi)&&((a.Dst.Lo==b.Dst.Lo)&&((a.SPort==b.SPort)&&((a.DPort==b.DPort)&&true))))))))
theorem XAt {a b:Xai}:XLm a b=true↔a=b:=by
 unfold XLm
 obtain ⟨a1,⟨a2,a3,a4⟩,⟨a5,a6,a7⟩,a8,a9⟩:=a
 obtain ⟨b1,⟨b2,b3,b4⟩,⟨b5,b6,b7⟩,b8,b9⟩:=b
 simp [and_assoc]
structure XuH (t:Xai):Prop where
 src:A4 t.Src
 dst:A4 t.Dst
 sa:aok t.Src=true
 da:aok t.Dst=true
 six:t.Src.V6=t.Dst.V6
 sp:0≤t.SPort∧t.SPort≤65535
 dp:0≤t.DPort∧t.DPort≤65535
theorem XAz {a:Xag} (h:aok a=true) (v:a.V6=false):four a=true:=by
 unfold four;rw [v,h];rfl
theorem Xwx {t:Xai} {b:List UInt8} (h:XuH t) (hp:t.Proto=6∨t.Proto=17) (hb:b.length≤8000):(Xip t b).2=0:=by
 have key:(Xnj t b).2=0∧(Xnj t b).1.length≤9000:=by
  unfold Xnj
  cases v:t.Src.V6
  ·have h5:H5 (Xku t)=true:=by
    have f1:=XAz h.sa v
    have f2:=XAz h.da (h.six▸v)
    unfold H5 Xku
    simp only [f1,f2,Bool.and_true,Bool.and_eq_true]
    refine ⟨⟨⟨⟨⟨?_,?_⟩,?_⟩,?_⟩,?_⟩,?_⟩
    all_goals first|rfl|(rcases hp with e|e<;>rw [e]<;>rfl)
   rw [cond_false]
   unfold XTB
   rw [if_neg (by rw [h5];decide),if_neg (by show ¬ (65535 - (20+(([]:List UInt8).length:Int))<(b.length:Int));simp only [List.length_nil];omega)]
   refine ⟨rfl,?_⟩
   have e1:=XuO (hd5 (Xku t) (20+(Xku t).Options.length+b.length)) 10 2 (65535 - (norm (Xdp (hd5 (Xku t) (20+(Xku t).Options.length+b.length))):Nat))
   have e2:=Xya (Xku t) (20+(Xku t).Options.length+b.length)
   have e3:(Xku t).Options.length=0:=rfl
   simp only [List.length_append]
   omega
  ·have h6:H6 (Xnc t):=⟨by show (0:Int)≤0∧(0:Int)≤255;decide,by show (0:Int)≤0∧(0:Int)≤1048575;decide,by show 0≤t.Proto∧t.Proto≤255;omega,by show (0:Int)≤64∧(64:Int)≤255;decide,v,h.six▸v⟩
   rw [cond_true]
   unfold XR0
   rw [if_neg (by simpa using h6),if_neg (by omega)]
   refine ⟨rfl,?_⟩
   simp only [List.length_append,XmP];omega
 unfold Xip
 have hn:¬ (t.Src.V6≠t.Dst.V6∨aok t.Src=false∨aok t.Dst=false∨(t.Proto≠6∧t.Proto≠17)):=by
  rintro (a|a|a|⟨a,b⟩)
  ·exact a h.six
  ·rw [h.sa] at a;cases a
  ·rw [h.da] at a;cases a
  ·omega
 rw [if_neg hn,if_neg (by omega)]
 exact key.1
theorem XKq {src dst:Xag} (h1:aok src=true) (h2:aok dst=true) (h3:src.V6=dst.V6) (p n:Int):XlN src dst p n≠[]:=by
 unfold XlN
 rw [if_pos ⟨h1,h2,h3⟩]
 intro e
 have e2:=(List.append_eq_nil_iff.1 e).2
 cases hv:src.V6
 ·rw [hv,cond_false] at e2
  have e3:=(List.append_eq_nil_iff.1 (List.append_eq_nil_iff.1 e2).1).1
  exact absurd e3 (by decide)
 ·rw [hv,cond_true] at e2
  have e3:=(List.append_eq_nil_iff.1 (List.append_eq_nil_iff.1 e2).1).2
  exact absurd e3 (by decide)
theorem XuD {t:Xai} (h:XuH t) (hp:t.Proto=6) {f:Int} (hf:0≤f∧f≤255) {v e:Nat} (hv:v<4294967296) (he:e<4294967296) {l:List UInt8} (hl:l.length≤1000) :
 (XpV t f (Xdl v e) l).2=0∧(XpV t f (Xdl v e) l).1.length≤9000∧∃ n a b,Xbz (XpV t f (Xdl v e) l).1=(⟨t,f,true,v,e,false,[],n⟩,a,b,0):=by
 have hsl:=Xzy v e
 have hst:=Xra hv he
 have ho:=XnT (d:=be v 4++be e 4) (by simp)
 have hw:W7 ⟨t.SPort,t.DPort,0,0,f,65535,0,Xdl v e⟩:=⟨by simp only [];omega,by simp only [];omega⟩
 have d0:(XpR ⟨t.SPort,t.DPort,0,0,f,65535,0,Xdl v e⟩ t.Src t.Dst l).2=0:=by
  unfold XpR
  have hh:H7 ⟨t.SPort,t.DPort,0,0,f,65535,0,Xdl v e⟩=true:=by
   unfold H7
   simp only [Bool.and_eq_true,XtR,decide_eq_true_eq,hsl]
   exact ⟨⟨⟨⟨⟨⟨h.sp,h.dp⟩,by decide⟩,by decide⟩,hf⟩,by decide⟩,by decide⟩
  rw [if_neg (by rw [hh];decide),if_neg (XKq h.sa h.da h.six _ _),if_neg (by simp only [hsl];omega)]
 have hlen:=XrM ⟨t.SPort,t.DPort,0,0,f,65535,0,Xdl v e⟩ t.Src t.Dst l
 simp only [hsl] at hlen
 have g0:=Xwx (b:=(XpR ⟨t.SPort,t.DPort,0,0,f,65535,0,Xdl v e⟩ t.Src t.Dst l).1) h (.inl hp) (by omega)
 have hs:XpV t f (Xdl v e) l=Xip t (XpR ⟨t.SPort,t.DPort,0,0,f,65535,0,Xdl v e⟩ t.Src t.Dst l).1:=by
  unfold XpV
  rw [if_neg (by simpa using hp),if_neg (by simpa using d0)]
 rw [hs]
 refine ⟨g0,(XrF g0).2,?_⟩
 have hi:=XRB (t:=t) (l:=l) (z:=cond t.Src.V6 40 20) (n:=(Xip t (XpR ⟨t.SPort,t.DPort,0,0,f,65535,0,Xdl v e⟩ t.Src t.Dst l).1).1.length) hw (by show (Xnb (Xdl v e)).2=0;unfold Xdl;rw [ho]) d0 hp
 have htm:=Xyj h.src h.dst g0
 rw [hi,if_neg (by simp)] at htm
 have hs11:Xu2 (Xdl v e)=(true,(v:Int),(e:Int)):=by unfold Xu2;rw [hst];rfl
 simp only [hs11] at htm
 exact ⟨_,_,_,htm⟩
end Go.Vm.Code
namespace Go.Vm.Code
open Go Go.Vm Go.Proofs
set_option maxRecDepth 100000
set_option maxHeartbeats 4000000
set_option linter.unusedVariables false
def XcV (s:List UInt8) (prefixa1:List UInt8):Option Bool:=
 let t:=decide ((s.length:Int)≥(prefixa1.length:Int))
 cond (t)
  (
  XbU (decide ((0:Int)≤(prefixa1.length:Int)∧(prefixa1.length:Int)≤(s.length:Int))) <|
  some ((s.take prefixa1.length)==prefixa1))
  (
  some (false))
def XBt (x:Bool):Xc4:=⟨.bool x,[],[]⟩
abbrev Xbl:=(List UInt8)→(List UInt8)→Option Bool
def r113 (g:Xbl):Dec:=dV asS fun (y0:List UInt8)=>dV asS fun (y1:List UInt8)=>XdY (ofG (g y0 y1) XBt)
theorem XQ3 {g:Xbl} {y0:List UInt8} {y1:List UInt8} {x:Bool} (hx:g y0 y1=some x):r113 g [.string ⟨⟨y0⟩⟩,.string ⟨⟨y1⟩⟩] []=some (XBt x):=(Xbb (Xeb)).trans ((Xbb (Xeb)).trans (Xbc hx))
def s113 (g:Xbl):Xb3:=⟨[.v,.v],r113 g⟩
theorem XHQ {g:Xbl} {y0:List UInt8} {y1:List UInt8} {x:Bool} (hx:g y0 y1=some x):(s113 g).run [.string ⟨⟨y0⟩⟩,.string ⟨⟨y1⟩⟩] []=some (XBt x):=XQ3 hx
abbrev XJs:List (Nat×Xb3):=[]
theorem XE3 (hS:Xar Tryz.prog (XaI (XJs))) (s:List UInt8) (prefixa1:List UInt8) (res:Bool) (h:XcV s prefixa1=some res) :
 XaO Tryz.prog 113 0 ⟨⟨113,18,[(0,.string ⟨⟨s⟩⟩),(1,.string ⟨⟨prefixa1⟩⟩)],[.code XFW],[],false,none⟩,[],[],0⟩ (fun v H _=>Res 0 (XBt res) v H):=by
 unfold XcV at h
 refine XbD XaQ hS true 3000 ?_
 conv=>whnf
 exact W
def XaW:Xbl:=XcV
theorem XLI:Xb8 Tryz.prog 113 (s113 XaW):=by
 have hL:=XE3 (Xar.Xa6 trivial)
 exact okA ⟨Tryz.f113,rfl,by decide,rfl⟩
def XcT (XaW:Xbl) (s:List UInt8) (prefixa1:List UInt8):Option ((List UInt8)×Bool):=
 (XaW s prefixa1).bind fun xh=>
 cond (!xh)
  (
  some ((s,false)))
  (
  XbU (decide ((0:Int)≤(prefixa1.length:Int)∧(prefixa1.length:Int)≤(s.length:Int))) <|
  let t:=(s.drop prefixa1.length).take (s.length - prefixa1.length)
  some ((t,true)))
def rx85 (x:(List UInt8)×Bool):Xc4:=⟨.tuple ⟨[.string ⟨⟨x.1⟩⟩,.bool x.2]⟩,[],[]⟩
abbrev Xbm:=(List UInt8)→(List UInt8)→Option ((List UInt8)×Bool)
def r85 (g:Xbm):Dec:=dV asS fun (y0:List UInt8)=>dV asS fun (y1:List UInt8)=>XdY (ofG (g y0 y1) rx85)
theorem r85_c {g:Xbm} {y0:List UInt8} {y1:List UInt8} {x:(List UInt8)×Bool} (hx:g y0 y1=some x):r85 g [.string ⟨⟨y0⟩⟩,.string ⟨⟨y1⟩⟩] []=some (rx85 x):=(Xbb (Xeb)).trans ((Xbb (Xeb)).trans (Xbc hx))
def s85 (g:Xbm):Xb3:=⟨[.v,.v],r85 g⟩
theorem XSW {g:Xbm} {y0:List UInt8} {y1:List UInt8} {x:(List UInt8)×Bool} (hx:g y0 y1=some x):(s85 g).run [.string ⟨⟨y0⟩⟩,.string ⟨⟨y1⟩⟩] []=some (rx85 x):=r85_c hx
abbrev XOq (XaW:Xbl):List (Nat×Xb3):=[(113,s113 XaW)]
theorem XMy (XaW:Xbl) (hS:Xar Tryz.prog (XaI (XOq XaW))) (s:List UInt8) (prefixa1:List UInt8) (res:(List UInt8)×Bool) (h:XcT XaW s prefixa1=some res) :
 XaO Tryz.prog 85 0 ⟨⟨85,15,[(0,.string ⟨⟨s⟩⟩),(1,.string ⟨⟨prefixa1⟩⟩)],[.code XTh],[],false,none⟩,[],[],0⟩ (fun v H _=>Res 0 (rx85 res) v H):=by
 unfold XcT at h
 have R1:=@XHQ XaW
 refine XbD XaQ hS true 3000 ?_
 conv=>whnf
 exact W
def XaU:Xbm:=XcT XaW
theorem XTI:Xb8 Tryz.prog 85 (s85 XaU):=by
 have hL:=XMy XaW (Xar.Xa6 ⟨XLI,trivial⟩)
 exact okA ⟨Tryz.f85,rfl,by decide,rfl⟩
def XfU (XaU:Xbm) (s:List UInt8) (prefixa1:List UInt8):Option ((List UInt8)×Bool):=
 (XaU s prefixa1).bind fun c=>
 some ((c.1,c.2))
def rx50 (x:(List UInt8)×Bool):Xc4:=⟨.tuple ⟨[.string ⟨⟨x.1⟩⟩,.bool x.2]⟩,[],[]⟩
abbrev XcI:=(List UInt8)→(List UInt8)→Option ((List UInt8)×Bool)
def r50 (g:XcI):Dec:=dV asS fun (y0:List UInt8)=>dV asS fun (y1:List UInt8)=>XdY (ofG (g y0 y1) rx50)
theorem r50_c {g:XcI} {y0:List UInt8} {y1:List UInt8} {x:(List UInt8)×Bool} (hx:g y0 y1=some x):r50 g [.string ⟨⟨y0⟩⟩,.string ⟨⟨y1⟩⟩] []=some (rx50 x):=(Xbb (Xeb)).trans ((Xbb (Xeb)).trans (Xbc hx))
def s50 (g:XcI):Xb3:=⟨[.v,.v],r50 g⟩
theorem XTM {g:XcI} {y0:List UInt8} {y1:List UInt8} {x:(List UInt8)×Bool} (hx:g y0 y1=some x):(s50 g).run [.string ⟨⟨y0⟩⟩,.string ⟨⟨y1⟩⟩] []=some (rx50 x):=r50_c hx
abbrev XNn (XaU:Xbm):List (Nat×Xb3):=[(85,s85 XaU)]
theorem XKU (XaU:Xbm) (hS:Xar Tryz.prog (XaI (XNn XaU))) (s:List UInt8) (prefixa1:List UInt8) (res:(List UInt8)×Bool) (h:XfU XaU s prefixa1=some res) :
 XaO Tryz.prog 50 0 ⟨⟨50,11,[(0,.string ⟨⟨s⟩⟩),(1,.string ⟨⟨prefixa1⟩⟩)],[.code XO7],[],false,none⟩,[],[],0⟩ (fun v H _=>Res 0 (rx50 res) v H):=by
 unfold XfU at h
 have R1:=@XSW XaU
 refine XbD XaQ hS true 3000 ?_
 conv=>whnf
 exact W
def strings_CutPrefix:XcI:=XfU XaU
theorem XRV:Xb8 Tryz.prog 50 (s50 strings_CutPrefix):=by
 have hL:=XKU XaU (Xar.Xa6 ⟨XTI,trivial⟩)
 exact okA ⟨Tryz.f50,rfl,by decide,rfl⟩
def XoZ (six:Bool):Option Int:=
 cond (six)
  (
  some (41))
  (
  some (4))
def rx53 (x:Int):Xc4:=⟨.int .i64 x,[],[]⟩
abbrev Xgc:=Bool→Option Int
def r53 (g:Xgc):Dec:=dV asB fun (y0:Bool)=>XdY (ofG (g y0) rx53)
theorem r53_c {g:Xgc} {y0:Bool} {x:Int} (hx:g y0=some x):r53 g [.bool y0] []=some (rx53 x):=(Xbb (XIN)).trans (Xbc hx)
def s53 (g:Xgc):Xb3:=⟨[.v],r53 g⟩
theorem XS8 {g:Xgc} {y0:Bool} {x:Int} (hx:g y0=some x):(s53 g).run [.bool y0] []=some (rx53 x):=r53_c hx
abbrev XSA:List (Nat×Xb3):=[]
theorem XKy (hS:Xar Tryz.prog (XaI (XSA))) (six:Bool) (res:Int) (h:XoZ six=some res) :
 XaO Tryz.prog 53 0 ⟨⟨53,4,[(0,.bool six)],[.code XOm],[],false,none⟩,[],[],0⟩ (fun v H _=>Res 0 (rx53 res) v H):=by
 unfold XoZ at h
 refine XbD XaQ hS true 3000 ?_
 conv=>whnf
 exact W
def XgM:Xgc:=XoZ
theorem XPd:Xb8 Tryz.prog 53 (s53 XgM):=by
 have hL:=XKy (Xar.Xa6 trivial)
 exact okA ⟨Tryz.f53,rfl,by decide,rfl⟩
def Xop (XaP:Xb5) (XgM:Xgc) (XaR:XbX) (Xaa:XaH) (strings_CutPrefix:XcI) (s:List UInt8):Option (XaN×(List UInt8)×Int):=
 cond (decide ((s.length:Int)<18))
  (
  some ((XaN.mk false 0 0 false 0,[],2)))
  (
  (strings_CutPrefix s [71,85,1]).bind fun c=>
  (XaR c.1).bind fun n=>
  (Xaa n 1).bind fun n1=>
  (Xaa n1.2 2).bind fun n2=>
  (Xaa n2.2 1).bind fun n3=>
  (Xaa n3.2 1).bind fun n4=>
  (Xaa n4.2 2).bind fun n5=>
  (Xaa n5.2 4).bind fun n6=>
  (Xaa n6.2 4).bind fun n7=>
  let t:=Xwm .u64 (wI .u64 ((wI .u64 n6.1)*2^32)) (wI .u64 n7.1)
  cond (!c.2)
   (
   some ((XaN.mk false 0 0 false 0,[],3)))
   (
   (XgM (n1.1==41)).bind fun k=>
   cond (n1.1 !=k)
    (
    some ((XaN.mk false 0 0 false 0,[],3)))
    (
    cond (decide (n3.1>1))
     (
     some ((XaN.mk false 0 0 false 0,[],3)))
     (
     cond (decide ((s.length:Int)>9018))
      (
      some ((XaN.mk false 0 0 false 0,[],5)))
      (
      XbU (decide ((0:Int)≤(18:Int)∧(18:Int)≤(s.length:Int))) <|
      (XaP (s.take 18)).bind fun xr=>
      cond (!xr)
       (
       some ((XaN.mk false 0 0 false 0,[],4)))
       (
       XbU (decide ((0:Int)≤(18:Int)∧(18:Int)≤(s.length:Int))) <|
       some ((XaN.mk (n1.1==41) n2.1 t (n3.1==1) n4.1,(s.drop 18).take (s.length - 18),0))))))))
def rx29 (x:XaN×(List UInt8)×Int):Xc4:=⟨.tuple ⟨[.agg ⟨[.bool x.1.V6,.int .i64 x.1.Backend,.int .u64 x.1.Cookie,.bool x.1.First,.int .i64 x.1.Instance]⟩,.string ⟨⟨x.2.1⟩⟩,.int .i64 x.2.2]⟩,[],[]⟩
abbrev Xfa:=(List UInt8)→Option (XaN×(List UInt8)×Int)
def r29 (g:Xfa):Dec:=dV asS fun (y0:List UInt8)=>XdY (ofG (g y0) rx29)
theorem r29_c {g:Xfa} {y0:List UInt8} {x:XaN×(List UInt8)×Int} (hx:g y0=some x):r29 g [.string ⟨⟨y0⟩⟩] []=some (rx29 x):=(Xbb (Xeb)).trans (Xbc hx)
def s29 (g:Xfa):Xb3:=⟨[.v],r29 g⟩
theorem XFB {g:Xfa} {y0:List UInt8} {x:XaN×(List UInt8)×Int} (hx:g y0=some x):(s29 g).run [.string ⟨⟨y0⟩⟩] []=some (rx29 x):=r29_c hx
abbrev XNo (XaP:Xb5) (XgM:Xgc) (XaR:XbX) (Xaa:XaH) (strings_CutPrefix:XcI):List (Nat×Xb3):=[(54,s54 XaP),(53,s53 XgM),(51,s51 XaR),(52,s52 Xaa),(50,s50 strings_CutPrefix)]
theorem XHJ (XaP:Xb5) (XgM:Xgc) (XaR:XbX) (Xaa:XaH) (strings_CutPrefix:XcI) (hS:Xar Tryz.prog (XaI (XNo XaP XgM XaR Xaa strings_CutPrefix))) (s:List UInt8) (res:XaN×(List UInt8)×Int) (h:Xop XaP XgM XaR Xaa strings_CutPrefix s=some res) :
 XaO Tryz.prog 29 0 ⟨⟨29,81,[(0,.string ⟨⟨s⟩⟩)],[.code XFV],[],false,none⟩,[],[],0⟩ (fun v H _=>Res 0 (rx29 res) v H):=by
 unfold Xop at h
 have R1:=@XTM strings_CutPrefix
 have R2:=@XqE XaR
 have R3:=@XkV Xaa
 have R4:=@XS8 XgM
 have R5:=@Xvy XaP
 refine XbD XaQ hS true 3000 ?_
 conv=>whnf
 exact W
def Xer:Xfa:=Xop XaP XgM XaR Xaa strings_CutPrefix
theorem XHq:Xb8 Tryz.prog 29 (s29 Xer):=by
 have hL:=XHJ XaP XgM XaR Xaa strings_CutPrefix (Xar.Xa6 ⟨XuY,XPd,Xqf,XoS,XRV,trivial⟩)
 exact okA ⟨Tryz.f29,rfl,by decide,rfl⟩
def Xoo (XaZ:Xcs) (Xdw:XeP) (Xcx:Xd2) (c:XaN) (inner:List UInt8):Option ((List UInt8)×Int):=
 cond (decide (c.Backend<0))
  (
  some (([],1)))
  (
  cond (decide (c.Backend>65535))
   (
   some (([],1)))
   (
   cond (decide (c.Instance<0))
    (
    some (([],1)))
    (
    cond (decide (c.Instance>255))
     (
     some (([],1)))
     (
     cond (decide ((inner.length:Int)>9000))
      (
      some (([],5)))
      (
      cond (c.V6)
       (
       cond (c.First)
        (
        (XaZ 41 1).bind fun p=>
        XbU (decide (3+p.length<2^63)) <|
        (XaZ (wI .u64 c.Backend) 2).bind fun p1=>
        XbU (decide (([71,85,1]++p).length+p1.length<2^63)) <|
        (XaZ 1 1).bind fun p2=>
        XbU (decide ((([71,85,1]++p)++p1).length+p2.length<2^63)) <|
        (XaZ (wI .u64 c.Instance) 1).bind fun p3=>
        XbU (decide (((([71,85,1]++p)++p1)++p2).length+p3.length<2^63)) <|
        XbU (decide ((((([71,85,1]++p)++p1)++p2)++p3).length+2<2^63)) <|
        let t:=(((([71,85,1]++p)++p1)++p2)++p3)++[0,0]
        (XaZ c.Cookie 8).bind fun p4=>
        XbU (decide (t.length+p4.length<2^63)) <|
        (Xdw (t++p4)).bind fun xo=>
        (Xcx (t++p4) 8 2 (wI .u64 xo)).bind fun s=>
        XbU (decide (s.length+inner.length<2^63)) <|
        some ((s++inner,0)))
        (
        (XaZ 41 1).bind fun p5=>
        XbU (decide (3+p5.length<2^63)) <|
        (XaZ (wI .u64 c.Backend) 2).bind fun p6=>
        XbU (decide (([71,85,1]++p5).length+p6.length<2^63)) <|
        (XaZ 0 1).bind fun p7=>
        XbU (decide ((([71,85,1]++p5)++p6).length+p7.length<2^63)) <|
        (XaZ (wI .u64 c.Instance) 1).bind fun p8=>
        XbU (decide (((([71,85,1]++p5)++p6)++p7).length+p8.length<2^63)) <|
        let t1:=((([71,85,1]++p5)++p6)++p7)++p8
        XbU (decide (t1.length+2<2^63)) <|
        (XaZ c.Cookie 8).bind fun p9=>
        XbU (decide ((t1++[0,0]).length+p9.length<2^63)) <|
        (Xdw ((t1++[0,0])++p9)).bind fun xo1=>
        (Xcx ((t1++[0,0])++p9) 8 2 (wI .u64 xo1)).bind fun s1=>
        XbU (decide (s1.length+inner.length<2^63)) <|
        some ((s1++inner,0))))
       (
       cond (c.First)
        (
        (XaZ 4 1).bind fun p10=>
        XbU (decide (3+p10.length<2^63)) <|
        (XaZ (wI .u64 c.Backend) 2).bind fun p11=>
        XbU (decide (([71,85,1]++p10).length+p11.length<2^63)) <|
        (XaZ 1 1).bind fun p12=>
        XbU (decide ((([71,85,1]++p10)++p11).length+p12.length<2^63)) <|
        (XaZ (wI .u64 c.Instance) 1).bind fun p13=>
        XbU (decide (((([71,85,1]++p10)++p11)++p12).length+p13.length<2^63)) <|
        let t2:=((([71,85,1]++p10)++p11)++p12)++p13
        XbU (decide (t2.length+2<2^63)) <|
        (XaZ c.Cookie 8).bind fun p14=>
        XbU (decide ((t2++[0,0]).length+p14.length<2^63)) <|
        (Xdw ((t2++[0,0])++p14)).bind fun xo2=>
        (Xcx ((t2++[0,0])++p14) 8 2 (wI .u64 xo2)).bind fun s2=>
        XbU (decide (s2.length+inner.length<2^63)) <|
        some ((s2++inner,0)))
        (
        (XaZ 4 1).bind fun p15=>
        XbU (decide (3+p15.length<2^63)) <|
        (XaZ (wI .u64 c.Backend) 2).bind fun p16=>
        XbU (decide (([71,85,1]++p15).length+p16.length<2^63)) <|
        (XaZ 0 1).bind fun p17=>
        XbU (decide ((([71,85,1]++p15)++p16).length+p17.length<2^63)) <|
        (XaZ (wI .u64 c.Instance) 1).bind fun p18=>
        XbU (decide (((([71,85,1]++p15)++p16)++p17).length+p18.length<2^63)) <|
        let t3:=((([71,85,1]++p15)++p16)++p17)++p18
        XbU (decide (t3.length+2<2^63)) <|
        (XaZ c.Cookie 8).bind fun p19=>
        XbU (decide ((t3++[0,0]).length+p19.length<2^63)) <|
        (Xdw ((t3++[0,0])++p19)).bind fun xo3=>
        (Xcx ((t3++[0,0])++p19) 8 2 (wI .u64 xo3)).bind fun s3=>
        XbU (decide (s3.length+inner.length<2^63)) <|
        some ((s3++inner,0)))))))))
def rx23 (x:(List UInt8)×Int):Xc4:=⟨.tuple ⟨[.string ⟨⟨x.1⟩⟩,.int .i64 x.2]⟩,[],[]⟩
abbrev Xg5:=XaN→(List UInt8)→Option ((List UInt8)×Int)
def r23 (g:Xg5):Dec:=dV XiX fun (y0:XaN)=>dV asS fun (y1:List UInt8)=>XdY (ofG (g y0 y1) rx23)
theorem r23_c {g:Xg5} {y0:XaN} {y1:List UInt8} {x:(List UInt8)×Int} (hx:g y0 y1=some x):r23 g [.agg ⟨[.bool y0.V6,.int .i64 y0.Backend,.int .u64 y0.Cookie,.bool y0.First,.int .i64 y0.Instance]⟩,.string ⟨⟨y1⟩⟩] []=some (rx23 x):=(Xbb (XmN _)).trans ((Xbb (Xeb)).trans (Xbc hx))
def s23 (g:Xg5):Xb3:=⟨[.v,.v],r23 g⟩
theorem XQV {g:Xg5} {y0:XaN} {y1:List UInt8} {x:(List UInt8)×Int} (hx:g y0 y1=some x):(s23 g).run [.agg ⟨[.bool y0.V6,.int .i64 y0.Backend,.int .u64 y0.Cookie,.bool y0.First,.int .i64 y0.Instance]⟩,.string ⟨⟨y1⟩⟩] []=some (rx23 x):=r23_c hx
abbrev XPA (XaZ:Xcs) (Xdw:XeP) (Xcx:Xd2):List (Nat×Xb3):=[(46,s46 XaZ),(48,s48 Xdw),(47,s47 Xcx)]
theorem XIW (XaZ:Xcs) (Xdw:XeP) (Xcx:Xd2) (hS:Xar Tryz.prog (XaI (XPA XaZ Xdw Xcx))) (c:XaN) (inner:List UInt8) (res:(List UInt8)×Int) (h:Xoo XaZ Xdw Xcx c inner=some res) :
 XaO Tryz.prog 23 0 ⟨⟨23,64,[(0,.agg ⟨[.bool c.V6,.int .i64 c.Backend,.int .u64 c.Cookie,.bool c.First,.int .i64 c.Instance]⟩),(1,.string ⟨⟨inner⟩⟩)],[.code XHs],[],false,none⟩,[],[],0⟩ (fun v H _=>Res 0 (rx23 res) v H):=by
 unfold Xoo at h
 have R1:=@XqO XaZ
 have R2:=@Xzx Xdw
 have R3:=@XzA Xcx
 refine XbD XaQ hS true 3000 ?_
 conv=>whnf
 exact W
def XhZ:Xg5:=Xoo XaZ Xdw Xcx
theorem XNE:Xb8 Tryz.prog 23 (s23 XhZ):=by
 have hL:=XIW XaZ Xdw Xcx (Xar.Xa6 ⟨Xqu,Xxs,Xxb,trivial⟩)
 exact okA ⟨Tryz.f23,rfl,by decide,rfl⟩
end Go.Vm.Code
namespace Go.Vm.Code
open Go Go.Vm
def C10 (c:XaN):Prop:=(0≤c.Backend∧c.Backend≤65535)∧0≤c.Instance∧c.Instance≤255
instance (c:XaN):Decidable (C10 c):=inferInstanceAs (Decidable (_∧_))
def kd (b:Bool):Nat:=cond b 41 4
def bt (b:Bool):Nat:=cond b 1 0
def hd0 (c:XaN):List UInt8:=[71,85,1]++be (kd c.V6) 1++be c.Backend.toNat 2++be (bt c.First) 1++be c.Instance.toNat 1++be 0 2++be c.Cookie.toNat 8
theorem XkI (c:XaN):(hd0 c).length=18:=by simp [hd0]
def hd (c:XaN):List UInt8:=sset (hd0 c) 8 2 (65535 - norm (Xdp (hd0 c)))
theorem Xxf (c:XaN):(hd c).length=18:=by unfold hd;rw [XvH (by rw [XkI];omega),XkI]
def Xp0 (c:XaN) (l:List UInt8):List UInt8×Int:=if ¬ C10 c then ([],1) else if l.length>9000 then ([],5) else (hd c++l,0)
theorem XOp (c:XaN):Xcg (hd0 c) 8 2 (wI .u64 (65535 - ((norm (Xdp (hd0 c)):Nat):Int)))=some (hd c):=by
 have:=norm_le (Xdp (hd0 c))
 rw [Xkr (by omega) (by omega)]
 have h:=XuU (s:=hd0 c) (p:=8) (k:=2) (n:=65535 - ((norm (Xdp (hd0 c)):Nat):Int)) (by rw [XkI];omega) (by omega) (by omega) (by omega) (by rw [XkI];omega)
 have e:(65535 - ((norm (Xdp (hd0 c)):Nat):Int)).toNat=65535 - norm (Xdp (hd0 c)):=by omega
 rw [e] at h
 exact h
theorem XJp (c:XaN):Xcx (hd0 c) 8 2 (wI .u64 (65535 - ((norm (Xdp (hd0 c)):Nat):Int)))=some (hd c):=by
 have:=norm_le (Xdp (hd0 c))
 rw [←XOp c,Xkr (by omega) (by omega),XHc (by rw [XkI];omega) (by omega),Xnu (by rw [XkI];omega) (by omega) (by omega)]
theorem XzK {c:XaN} {l:List UInt8} (hc:0≤c.Cookie∧c.Cookie<2^64):XhZ c l=some (Xp0 c l):=by
 unfold XhZ Xoo Xp0
 by_cases h:C10 c
 ·rw [if_neg (by simpa using h)]
  obtain ⟨⟨a1,a2⟩,a3,a4⟩:=h
  rw [Xbd (by omega),Xbd (by omega),Xbd (by omega),Xbd (by omega)]
  by_cases h5:(l.length:Int)>9000
  ·rw [XbB h5,if_pos (by omega)]
  rw [Xbd h5,if_neg (by omega)]
  have eh:[71,85,1]++be (kd c.V6) 1++be c.Backend.toNat 2++be (bt c.First) 1++be c.Instance.toNat 1++[0,0]++be c.Cookie.toNat 8=hd0 c:=rfl
  rw [Xkr (n:=c.Backend) (by omega) (by omega),Xkr (n:=c.Instance) (by omega) (by omega)]
  simp (disch:=omega) only [XeE,Option.bind_some,XeA]
  simp only [show (1:Int)≤1∧(1:Int)≤8 from by omega,show (1:Int)≤2∧(2:Int)≤8 from by omega,show (1:Int)≤8∧(8:Int)≤8 from by omega,and_self,if_true,show (1:Int).toNat=1 from rfl,show (2:Int).toNat=2 from rfl,show (8:Int).toNat=8 from rfl,show (0:Int).toNat=0 from rfl,show (41:Int).toNat=41 from rfl,show (4:Int).toNat=4 from rfl]
  cases hv:c.V6<;>cases hf:c.First<;>rw [hv,hf] at eh<;>simp only [kd,bt,cond_true,cond_false] at eh ⊢<;>rw [eh,Xa9 (by simp),Xa9 (by simp),Xa9 (by simp),Xa9 (by simp),Xa9 (by simp),Xa9 (by simp),Xpb (by rw [XkI];omega),Option.bind_some,XJp,Option.bind_some,Xa9 (by rw [Xxf];omega)]
 ·rw [if_pos h]
  unfold C10 at h
  by_cases b1:c.Backend<0
  ·rw [XbB b1]
  rw [Xbd b1]
  by_cases b2:c.Backend>65535
  ·rw [XbB b2]
  rw [Xbd b2]
  by_cases b3:c.Instance<0
  ·rw [XbB b3]
  rw [Xbd b3,XbB (by omega)]
def Xqj:XaN:=⟨false,0,0,false,0⟩
def Xh6 (s:List UInt8):XaN×List UInt8×Int:=
 if s.length<18 then (Xqj,[],2) else if s.take 3≠[71,85,1] then (Xqj,[],3) else if b1 s 3≠4∧b1 s 3≠41 then (Xqj,[],3) else if 1<b1 s 6 then (Xqj,[],3) else
  if 9018<s.length then (Xqj,[],5) else if norm (Xdp (s.take 18))≠65535 then (Xqj,[],4) else
   (⟨decide (b1 s 3=41),(XeY ((s.drop 4).take 2):Nat),(XeY ((s.drop 10).take 8):Nat),decide (b1 s 6=1),(b1 s 7:Nat)⟩,s.drop 18,0)
theorem XT3 {s:List UInt8} (h:18≤s.length):strings_CutPrefix s [71,85,1]=some (if s.take 3=[71,85,1] then (s.drop 3,true) else (s,false)):=by
 unfold strings_CutPrefix XfU XaU XcT XaW XcV
 simp only [List.length_cons,List.length_nil]
 rw [XbB (by omega),Xa9 (by omega),Option.bind_some]
 by_cases h3:s.take 3=[71,85,1]
 ·have e:((s.take 3)==[71,85,1])=true:=by rw [beq_iff_eq];exact h3
  have et:(s.drop 3).take (s.length - 3)=s.drop 3:=List.take_of_length_le (by simp)
  show ((cond (!((s.take 3)==[71,85,1])) _ _:Option (List UInt8×Bool)).bind _)=_
  rw [e,Bool.not_true,cond_false,if_pos h3,Xa9 (by omega)]
  simp only [Nat.zero_add,Nat.reduceAdd,et,Option.bind_some]
 ·have e:((s.take 3)==[71,85,1])=false:=by rw [beq_eq_false_iff_ne];exact h3
  show ((cond (!((s.take 3)==[71,85,1])) _ _:Option (List UInt8×Bool)).bind _)=_
  rw [e,Bool.not_false,cond_true,if_neg h3];rfl
theorem XKi {s:List UInt8} (h:s.length<2^38):Xer s=some (Xh6 s):=by
 unfold Xer Xop Xh6
 by_cases h1:s.length<18
 ·rw [XbB (by omega),if_pos h1];rfl
 rw [Xbd (by omega),if_neg h1,XT3 (by omega),Option.bind_some]
 have i1:(if (1:Int)<1∨(1:Int)>7 then -1 else 1:Int)=1:=by decide
 have i2:(if (2:Int)<1∨(2:Int)>7 then -1 else 2:Int)=2:=by decide
 have i4:(if (4:Int)<1∨(4:Int)>7 then -1 else 4:Int)=4:=by decide
 by_cases h2:s.take 3=[71,85,1]
 ·rw [if_pos h2,if_neg (by simpa using h2)]
  simp only [Xl2,Option.bind_some]
  have ld:(s.drop 3).length=s.length - 3:=by simp
  rw [XdM rfl (by simp only [];omega),Option.bind_some]
  simp only [rdn,i1]
  rw [Xgy (by omega) (by omega),XgI (by omega) (by omega),show (1:Int).toNat=1 from rfl,List.drop_drop]
  rw [XdM rfl (by simp;omega),Option.bind_some]
  simp only [rdn,i2]
  rw [Xgy (by omega) (by simp;omega),XgI (by omega) (by simp;omega),show (2:Int).toNat=2 from rfl,List.drop_drop]
  rw [XdM rfl (by simp;omega),Option.bind_some]
  simp only [rdn,i1]
  rw [Xgy (by omega) (by simp;omega),XgI (by omega) (by simp;omega),show (1:Int).toNat=1 from rfl,List.drop_drop]
  rw [XdM rfl (by simp;omega),Option.bind_some]
  simp only [rdn,i1]
  rw [Xgy (by omega) (by simp;omega),XgI (by omega) (by simp;omega),show (1:Int).toNat=1 from rfl,List.drop_drop]
  rw [XdM rfl (by simp;omega),Option.bind_some]
  simp only [rdn,i2]
  rw [Xgy (by omega) (by simp;omega),show (2:Int).toNat=2 from rfl,List.drop_drop]
  rw [XdM rfl (by simp;omega),Option.bind_some]
  simp only [rdn,i4]
  rw [Xgy (by omega) (by simp;omega),XgI (by omega) (by simp;omega),show (4:Int).toNat=4 from rfl,List.drop_drop]
  rw [XdM rfl (by simp;omega),Option.bind_some]
  simp only [rdn,i4]
  rw [XgI (by omega) (by simp;omega),show (4:Int).toNat=4 from rfl]
  simp only [Bool.not_true,cond_false,Nat.reduceAdd]
  have q3:XeY ((s.drop 3).take 1)=b1 s 3:=rfl
  have q6:XeY ((s.drop 6).take 1)=b1 s 6:=rfl
  have q7:XeY ((s.drop 7).take 1)=b1 s 7:=rfl
  rw [q3,q6,q7]
  have l3:=XHL s 3
  have va:XeY ((s.drop 10).take 4)<2^32:=XeZ _ (by decide)
  have vb:XeY ((s.drop 14).take 4)<2^32:=XeZ _ (by decide)
  have e8:XeY ((s.drop 10).take 8)=XeY ((s.drop 10).take 4)*2^32+XeY ((s.drop 14).take 4):=by
   have:(s.drop 10).take 8=(s.drop 10).take 4++(s.drop 14).take 4:=by
    rw [show s.drop 14=(s.drop 10).drop 4 by rw [List.drop_drop],←List.take_add]
   rw [this,val_append,show ((s.drop 14).take 4).length=4 by simp;omega]
  have ec:Xwm .u64 (wI .u64 ((wI .u64 ((XeY ((s.drop 10).take 4):Nat):Int))*2^32)) (wI .u64 ((XeY ((s.drop 14).take 4):Nat):Int))=((XeY ((s.drop 10).take 8):Nat):Int):=by
   rw [e8,Xkr (n:=((XeY ((s.drop 10).take 4):Nat):Int)) (by omega) (by omega),Xkr (n:=((XeY ((s.drop 14).take 4):Nat):Int)) (by omega) (by omega),Xkr (n:=((XeY ((s.drop 10).take 4):Nat):Int)*2^32) (by omega) (by omega),XqA 32 (by omega) (by omega) (by omega) (by omega) (by omega)];omega
  rw [ec]
  have x1:(((b1 s 3:Nat):Int)==41)=decide (b1 s 3=41):=by rw [Bool.eq_iff_iff,beq_iff_eq,decide_eq_true_eq];omega
  have x2:(((b1 s 6:Nat):Int)==1)=decide (b1 s 6=1):=by rw [Bool.eq_iff_iff,beq_iff_eq,decide_eq_true_eq];omega
  rw [x1,x2]
  have ek:∀ b:Bool,XgM b=some ((kd b:Nat):Int):=by intro b;cases b<;>rfl
  rw [ek,Option.bind_some]
  have xk:(((b1 s 3:Nat):Int) !=((kd (decide (b1 s 3=41)):Nat):Int))=decide (b1 s 3≠4∧b1 s 3≠41):=by
   rw [Bool.eq_iff_iff,bne_iff_ne,decide_eq_true_eq]
   by_cases h41:b1 s 3=41
   ·rw [decide_eq_true h41];simp only [kd,cond_true];omega
   ·rw [decide_eq_false h41];simp only [kd,cond_false];omega
  rw [xk]
  by_cases h4:b1 s 3≠4∧b1 s 3≠41
  ·rw [XbB h4,if_pos h4];rfl
  rw [Xbd h4,if_neg h4]
  by_cases h6:1<b1 s 6
  ·rw [XbB (by omega),if_pos h6];rfl
  rw [Xbd (by omega),if_neg h6]
  by_cases h9:9018<s.length
  ·rw [XbB (by omega),if_pos h9];rfl
  have et:(s.drop 18).take (s.length - 18)=s.drop 18:=List.take_of_length_le (by simp)
  rw [Xbd (by omega),if_neg h9,Xa9 (by omega),Xod (by simp;omega),Option.bind_some]
  have nl:=norm_le (Xdp (s.take 18))
  by_cases hn:norm (Xdp (s.take 18))≠65535
  ·have:(((norm (Xdp (s.take 18)):Nat):Int)==65535)=false:=by rw [beq_eq_false_iff_ne];omega
   rw [this,Bool.not_false,cond_true,if_pos hn];rfl
  ·have:(((norm (Xdp (s.take 18)):Nat):Int)==65535)=true:=by rw [beq_iff_eq];omega
   rw [this,Bool.not_true,cond_false,if_neg hn,Xa9 (by omega),et]
 ·rw [if_neg h2,if_pos h2]
  simp only [Xl2,Option.bind_some]
  rw [XdM rfl (by simp only [];omega),Option.bind_some]
  simp only []
  have l1:=Xgo ⟨s,true,false⟩ (if (1:Int)<1∨(1:Int)>7 then -1 else 1)
  have m1:=XeQ ⟨s,true,false⟩ (if (1:Int)<1∨(1:Int)>7 then -1 else 1)
  generalize rdr ⟨s,true,false⟩ (if (1:Int)<1∨(1:Int)>7 then -1 else 1)=r1 at *
  simp only at l1
  rw [XdM m1 (by omega),Option.bind_some]
  simp only []
  have l2:=Xgo r1 (if (2:Int)<1∨(2:Int)>7 then -1 else 2)
  have m2:=XeQ r1 (if (2:Int)<1∨(2:Int)>7 then -1 else 2)
  generalize rdr r1 (if (2:Int)<1∨(2:Int)>7 then -1 else 2)=r2 at *
  rw [XdM m2 (by omega),Option.bind_some]
  simp only []
  have l3:=Xgo r2 (if (1:Int)<1∨(1:Int)>7 then -1 else 1)
  have m3:=XeQ r2 (if (1:Int)<1∨(1:Int)>7 then -1 else 1)
  generalize rdr r2 (if (1:Int)<1∨(1:Int)>7 then -1 else 1)=r3 at *
  rw [XdM m3 (by omega),Option.bind_some]
  simp only []
  have l4:=Xgo r3 (if (1:Int)<1∨(1:Int)>7 then -1 else 1)
  have m4:=XeQ r3 (if (1:Int)<1∨(1:Int)>7 then -1 else 1)
  generalize rdr r3 (if (1:Int)<1∨(1:Int)>7 then -1 else 1)=r4 at *
  rw [XdM m4 (by omega),Option.bind_some]
  simp only []
  have l5:=Xgo r4 (if (2:Int)<1∨(2:Int)>7 then -1 else 2)
  have m5:=XeQ r4 (if (2:Int)<1∨(2:Int)>7 then -1 else 2)
  generalize rdr r4 (if (2:Int)<1∨(2:Int)>7 then -1 else 2)=r5 at *
  rw [XdM m5 (by omega),Option.bind_some]
  simp only []
  have l6:=Xgo r5 (if (4:Int)<1∨(4:Int)>7 then -1 else 4)
  have m6:=XeQ r5 (if (4:Int)<1∨(4:Int)>7 then -1 else 4)
  generalize rdr r5 (if (4:Int)<1∨(4:Int)>7 then -1 else 4)=r6 at *
  rw [XdM m6 (by omega),Option.bind_some]
  rfl
theorem Xl3 {s s':List UInt8} {f m:Nat} (h:∀ k,f≤k→k<f+m→s'[k]?=s[k]?):(s'.drop f).take m=(s.drop f).take m:=by
 apply List.ext_getElem?
 intro x
 rw [List.getElem?_take,List.getElem?_take]
 split
 ·rw [List.getElem?_drop,List.getElem?_drop];exact h _ (by omega) (by omega)
 ·rfl
theorem Xx7 {s s':List UInt8} (hl:s'.length=s.length):∀ (n i:Nat) (out:List XzI),(∀ k,i≤k→s'[k]?=s[k]?)→XhJ s' n i out=XhJ s n i out:=by
 intro n
 induction n using Nat.strongRecOn with
 | ind n ih=>
   intro i out hd
   cases n with
   | zero=>rw [XhJ,XhJ]
   | succ n=>
     rw [XhJ,XhJ,hd i (by omega),hd (i+1) (by omega),hl]
     cases s[i]? with
     | none=>rfl
     | some b=>
       simp only
       by_cases h0:b=0
       ·rw [if_pos h0,if_pos h0]
       rw [if_neg h0,if_neg h0]
       by_cases h1:b=1
       ·rw [if_pos h1,if_pos h1];exact ih n (by omega) _ _ (fun k hk=>hd k (by omega))
       rw [if_neg h1,if_neg h1]
       cases s[i+1]? with
       | none=>rfl
       | some k=>
         simp only
         by_cases h2:k.toNat<2
         ·rw [if_pos h2,if_pos h2]
         by_cases h3:s.length - i<k.toNat
         ·rw [if_neg h2,if_neg h2,if_pos h3,if_pos h3]
         rw [if_neg h2,if_neg h2,if_neg h3,if_neg h3,Xl3 (s:=s) (s':=s') (f:=i+2) (m:=k.toNat - 2) (fun x h _=>hd x (by omega))]
         exact ih _ (by omega) _ _ (fun x hx=>hd x (by omega))
theorem XwM {s s':List UInt8} (hl:s'.length=s.length) {p q:Nat} (hp:p=q∨p=q+4) (hd:∀ k,(k<p∨p+4≤k)→s'[k]?=s[k]?):∀ (n i:Nat),(XhJ s n i []).2=0→(stL (XhJ s n i []).1).2.2=(q:Int) →
 (XhJ s' n i []).2=0∧stL (XhJ s' n i []).1=(vK s' q 4,vK s' (q+4) 4,(q:Int))∧stL (XhJ s n i []).1=(vK s q 4,vK s (q+4) 4,(q:Int))∧i+2≤q∧q+8≤s.length:=by
 intro n
 induction n using Nat.strongRecOn with
 | ind n ih=>
   intro i h2 hq
   have bad:(-1:Int)=(q:Int)→False:=by omega
   cases n with
   | zero=>rw [XhJ] at hq;exact absurd hq bad
   | succ n=>
     have e:∀ t:List UInt8,XhJ t (n+1) i []=match t[i]? with
      | none=>([],0)
      | some b=>if b=0 then ([],0) else if b=1 then XhJ t n (i+1) [] else match t[i+1]? with
        | none=>([],3)
        | some k=>if k.toNat<2 then ([],3) else if t.length - i<k.toNat then ([],3) else
           XhJ t (n+1 - k.toNat) (i+k.toNat) ([]++[⟨(b.toNat:Int),(t.drop (i+2)).take (k.toNat - 2),((i+2:Nat):Int)⟩]):=fun t=>by rw [XhJ];try (cases t[i]?<;>cases t[i+1]?<;>rfl)
     rw [e s] at h2 hq ⊢
     rw [e s']
     cases hb:s[i]? with
     | none=>rw [hb] at hq;exact absurd hq bad
     | some b=>
       rw [hb] at h2 hq
       simp only at h2 hq ⊢
       by_cases h0:b=0
       ·rw [if_pos h0] at hq;exact absurd hq bad
       rw [if_neg h0] at h2 hq ⊢
       by_cases h1:b=1
       ·rw [if_pos h1] at h2 hq ⊢
        obtain ⟨r1,r2,r3,r4,r5⟩:=ih n (by omega) (i+1) h2 hq
        rw [hd i (by omega),hb]
        simp only [h1]
        exact ⟨r1,r2,r3,by omega,r5⟩
       rw [if_neg h1] at h2 hq ⊢
       cases hk:s[i+1]? with
       | none=>rw [hk] at h2;exact absurd (show (3:Int)=0 from h2) (by decide)
       | some k=>
         rw [hk] at h2 hq
         simp only at h2 hq ⊢
         by_cases g2:k.toNat<2
         ·rw [if_pos g2] at h2;exact absurd h2 (by decide)
         by_cases g3:s.length - i<k.toNat
         ·rw [if_neg g2,if_pos g3] at h2;exact absurd h2 (by decide)
         rw [if_neg g2,if_neg g3] at h2 hq ⊢
         have eg:=fun t:List UInt8=>Xmq t (n+1 - k.toNat) (i+k.toNat) ([]++[⟨(b.toNat:Int),(t.drop (i+2)).take (k.toNat - 2),((i+2:Nat):Int)⟩])
         have eg':=Xmq s' (n+1 - k.toNat) (i+k.toNat) [⟨(b.toNat:Int),(s'.drop (i+2)).take (k.toNat - 2),((i+2:Nat):Int)⟩]
         rw [eg s] at h2 hq ⊢
         have hi:i<s.length:=by
          rcases Nat.lt_or_ge i s.length with h|h
          ·exact h
          ·rw [List.getElem?_eq_none h] at hb;cases hb
         by_cases hz:(XhJ s (n+1 - k.toNat) (i+k.toNat) []).2=0
         ·rw [if_pos hz] at h2 hq ⊢
          simp only [List.nil_append,List.cons_append] at hq ⊢
          by_cases g8:b.toNat=8
          ·
           have gl:((s.drop (i+2)).take (k.toNat - 2)).length=8∧q=i+2:=by
            unfold stL at hq
            rw [if_pos (show (b.toNat:Int)=8 by omega)] at hq
            by_cases gl:((s.drop (i+2)).take (k.toNat - 2)).length=8
            ·rw [if_pos gl] at hq;simp only at hq;exact ⟨gl,by omega⟩
            ·rw [if_neg gl] at hq;exact absurd hq bad
           obtain ⟨gl,gq⟩:=gl
           have gk:k.toNat=10:=by rw [List.length_take,List.length_drop] at gl;omega
           have gl':((s'.drop (i+2)).take (k.toNat - 2)).length=8:=by rw [List.length_take,List.length_drop,hl,←gl,List.length_take,List.length_drop]
           rw [hd i (by omega),hb,hd (i+1) (by omega),hk]
           simp only
           rw [if_neg h0,if_neg h1,if_neg g2,hl,if_neg g3,eg',Xx7 hl _ _ _ (fun x hx=>hd x (by omega)),if_pos hz]
           simp only [List.nil_append,List.cons_append]
           have vd:∀ (t:List UInt8) (x:Nat),x+4≤8→vK ((t.drop (i+2)).take (k.toNat - 2)) x 4=vK t (q+x) 4:=fun t x hx=>by
            rw [XAc (by omega),gq];exact (Xz5 rfl).symm
           refine ⟨trivial,?_,?_,by omega,by rw [List.length_take,List.length_drop] at gl;omega⟩
           ·unfold stL
            rw [if_pos (show (b.toNat:Int)=8 by omega),if_pos gl']
            simp only
            rw [vd s' 0 (by omega),vd s' 4 (by omega),gq]
           ·unfold stL
            rw [if_pos (show (b.toNat:Int)=8 by omega),if_pos gl]
            simp only
            rw [vd s 0 (by omega),vd s 4 (by omega),gq]
          ·have st:∀ (t:List UInt8) (l:List XzI),stL (⟨(b.toNat:Int),(t.drop (i+2)).take (k.toNat - 2),((i+2:Nat):Int)⟩::l)=stL l:=fun t l=>by
            rw [stL,if_neg (show ¬ (b.toNat:Int)=8 by omega)]
           rw [st] at hq
           obtain ⟨r1,r2,r3,r4,r5⟩:=ih _ (by omega) (i+k.toNat) hz hq
           rw [hd i (by omega),hb,hd (i+1) (by omega),hk]
           simp only
           rw [if_neg h0,if_neg h1,if_neg g2,hl,if_neg g3,eg',if_pos r1]
           simp only [List.nil_append,List.cons_append,st]
           exact ⟨trivial,r2,r3,by omega,r5⟩
         ·rw [if_neg hz] at h2;exact absurd h2 (by decide)
theorem Xwg {s s':List UInt8} (hl:s'.length=s.length) {p q:Nat} (hp:p=q∨p=q+4) (hd:∀ k,(k<p∨p+4≤k)→s'[k]?=s[k]?) (h0:(Xnb s).2=0) (hq:(Xhg s).2.2=(q:Int)) :
 (Xnb s').2=0∧Xhg s'=(vK s' q 4,vK s' (q+4) 4,(q:Int))∧Xhg s=(vK s q 4,vK s (q+4) 4,(q:Int))∧2≤q∧q+8≤s.length:=by
 unfold Xnb Xhg at *
 unfold Xnb at *
 rw [hl]
 obtain ⟨r1,r2,r3,r4,r5⟩:=XwM hl hp hd s.length 0 h0 hq
 exact ⟨r1,r2,r3,by omega,r5⟩
theorem Xik {s t:List UInt8} {z p k:Nat} (h:t.take z=s.take z) (hk:p+k≤z):(t.drop p).take k=(s.drop p).take k:=by
 have e:∀ l:List UInt8,(l.drop p).take k=((l.take z).drop p).take k:=fun l=>by
  rw [List.drop_take,List.take_take,Nat.min_eq_left (by omega)]
 rw [e t,e s,h]
theorem Xpk {s t:List UInt8} {z k:Nat} (h:t.take z=s.take z) (hk:k≤z):t.take k=s.take k:=by
 have:=Xik (p:=0) (k:=k) h (by omega)
 simpa using this
theorem XlW {s b:List UInt8} (h:(Xay s).err=0) (hb:b.length=(Xay s).body.length):Xay (s.take (Xay s).size++b)=⟨(Xay s).src,(Xay s).dst,(Xay s).proto,(Xay s).size,b,0⟩∧(Xay s).body=s.drop (Xay s).size:=by
 have hlen:=Xi2 h
 generalize hz:(Xay s).size=z at *
 have ht:(s.take z++b).take z=s.take z:=by
  rw [List.take_append_of_le_length (by rw [List.length_take];omega),List.take_take,Nat.min_self]
 have hdr:(s.take z++b).drop z=b:=List.drop_left' (by rw [List.length_take];omega)
 have hl:(s.take z++b).length=s.length:=by rw [List.length_append,List.length_take];omega
 generalize (s.take z++b)=t at *
 have hv:∀ p k,p+k≤z→vK t p k=vK s p k:=fun p k hk=>by unfold vK;rw [Xik ht hk]
 unfold Xay at *
 by_cases g1:vK s 0 1/16=4
 ·rw [if_pos g1] at h hz hb hlen ⊢
  by_cases g2:(XjF s).2.2≠0
  ·rw [if_pos g2] at h;exact absurd h g2
  rw [if_neg g2] at h hz hb hlen ⊢
  by_cases g3:s.length≠20+(XjF s).1.Options.length+(XjF s).2.1.length
  ·rw [if_pos g3] at h;exact absurd h (by decide)
  rw [if_neg g3] at hz hb hlen ⊢
  simp only at hz hb hlen ⊢
  have e5:∃ l5:Nat,(20≤l5∧l5≤s.length∧vK s 0 1%16*4=(l5:Int))∧z=l5∧XjF s=(⟨vK s 1 1,vK s 4 2,vK s 6 2 !=0,vK s 8 1,vK s 9 1,XwS s 12,XwS s 16,(s.drop 20).take (l5 - 20)⟩,(s.drop l5).take ((vK s 2 2).toNat - l5),0)∧XjF t=(⟨vK s 1 1,vK s 4 2,vK s 6 2 !=0,vK s 8 1,vK s 9 1,XwS s 12,XwS s 16,(s.drop 20).take (l5 - 20)⟩,(t.drop l5).take ((vK s 2 2).toNat - l5),0):=by
   have g2':(XjF s).2.2=0:=by simpa using g2
   have z20:20≤z:=by omega
   unfold XjF at g2' ⊢
   rw [hl,hv 0 1 (by omega),hv 2 2 (by omega),hv 6 2 (by omega),hv 1 1 (by omega),hv 4 2 (by omega),hv 8 1 (by omega),hv 9 1 (by omega)]
   have r0:=XkD s 0 1 256 (by decide)
   by_cases c0:s.length<20
   ·rw [if_pos c0] at g2';exact absurd g2' (by decide)
   by_cases c1:vK s 0 1/16≠4
   ·exact absurd g1 c1
   by_cases c2:vK s 0 1%16*4<20
   ·rw [if_neg c0,if_neg c1,if_pos c2] at g2';exact absurd g2' (by decide)
   by_cases c3:vK s 2 2<vK s 0 1%16*4
   ·rw [if_neg c0,if_neg c1,if_neg c2,if_pos c3] at g2';exact absurd g2' (by decide)
   by_cases c4:(s.length:Int)<vK s 2 2
   ·rw [if_neg c0,if_neg c1,if_neg c2,if_neg c3,if_pos c4] at g2';exact absurd g2' (by decide)
   have hzl:z=(vK s 0 1%16*4).toNat:=by
    rw [←hz]
    unfold XjF
    rw [if_neg c0,if_neg c1,if_neg c2,if_neg c3,if_neg c4]
    by_cases c5:norm (Xdp (s.take (vK s 0 1%16*4).toNat))≠65535
    ·rw [if_neg c0,if_neg c1,if_neg c2,if_neg c3,if_neg c4,if_pos c5] at g2';exact absurd g2' (by decide)
    by_cases c6:vK s 6 2≠0∧vK s 6 2≠16384
    ·rw [if_neg c0,if_neg c1,if_neg c2,if_neg c3,if_neg c4,if_neg c5,if_pos c6] at g2';exact absurd g2' (by decide)
    rw [if_neg c5,if_neg c6]
    simp only [List.length_take,List.length_drop]
    omega
   refine ⟨(vK s 0 1%16*4).toNat,⟨by omega,by omega,by omega⟩,hzl,?_⟩
   rw [Xpk ht (show (vK s 0 1%16*4).toNat≤z by omega)]
   by_cases c5:norm (Xdp (s.take (vK s 0 1%16*4).toNat))≠65535
   ·rw [if_neg c0,if_neg c1,if_neg c2,if_neg c3,if_neg c4,if_pos c5] at g2';exact absurd g2' (by decide)
   by_cases c6:vK s 6 2≠0∧vK s 6 2≠16384
   ·rw [if_neg c0,if_neg c1,if_neg c2,if_neg c3,if_neg c4,if_neg c5,if_pos c6] at g2';exact absurd g2' (by decide)
   simp only [if_neg c0,if_neg c1,if_neg c2,if_neg c3,if_neg c4,if_neg c5,if_neg c6]
   have a4:∀ p,p+4≤z→XwS t p=XwS s p:=fun p hp=>by unfold XwS;rw [hv p 4 hp]
   rw [a4 12 (by omega),a4 16 (by omega),Xik ht (show 20+((vK s 0 1%16*4).toNat - 20)≤z by omega)]
   exact ⟨trivial,rfl⟩
  obtain ⟨l5,⟨q1,q2,q3⟩,q4,q5,q6⟩:=e5
  subst q4
  rw [hv 0 1 (by omega),if_pos g1]
  rw [q5] at g3 hb hlen ⊢
  rw [q6]
  simp only at hb hlen g3 ⊢
  have hfull:(s.drop z).take ((vK s 2 2).toNat - z)=s.drop z:=List.take_of_length_le (by
   have:(s.drop z).length=s.length - z:=List.length_drop
   rw [List.length_take] at hlen
   omega)
  rw [hfull] at hb g3 ⊢
  have hfb:(t.drop z).take ((vK s 2 2).toNat - z)=b:=by
   rw [hdr]
   refine List.take_of_length_le ?_
   rw [hfull] at hlen
   have:(s.drop z).length=s.length - z:=List.length_drop
   have h3:=congrArg List.length hfull
   rw [List.length_take] at h3
   omega
  rw [hfb,hl,if_neg (by simp),if_neg (by rw [hb];exact g3)]
  refine ⟨?_,rfl⟩
  have:20+((s.drop 20).take (z - 20)).length=z:=by rw [List.length_take,List.length_drop];omega
  rw [this]
 ·rw [if_neg g1] at h hz hb hlen ⊢
  by_cases g4:vK s 0 1/16=6
  ·rw [if_pos g4] at h hz hb hlen ⊢
   by_cases g2:(Xly s).2.2≠0
   ·rw [if_pos g2] at h;exact absurd h g2
   rw [if_neg g2] at h hz hb hlen ⊢
   by_cases g3:s.length≠40+(Xly s).2.1.length
   ·rw [if_pos g3] at h;exact absurd h (by decide)
   rw [if_neg g3] at hz hb hlen ⊢
   simp only at hz hb hlen ⊢
   subst hz
   have g2':(Xly s).2.2=0:=by simpa using g2
   have k6:Xly s=(XsT s,(s.drop 40).take (XeY ((s.drop 4).take 2)),0)∧Xly t=(XsT s,(t.drop 40).take (XeY ((s.drop 4).take 2)),0):=by
    unfold Xly at g2' ⊢
    rw [hl,Xpk ht (show 4≤40 by decide),Xik (p:=4) (k:=2) ht (by decide)]
    by_cases c0:s.length<40
    ·rw [if_pos c0] at g2';exact absurd g2' (by decide)
    by_cases c1:XeY (s.take 4)/2^28≠6
    ·rw [if_neg c0,if_pos c1] at g2';exact absurd g2' (by decide)
    by_cases c2:s.length - 40<XeY ((s.drop 4).take 2)
    ·rw [if_neg c0,if_neg c1,if_pos c2] at g2';exact absurd g2' (by decide)
    rw [if_neg c0,if_neg c1,if_neg c2,if_neg c0,if_neg c1,if_neg c2]
    have hh:XsT t=XsT s:=by
     unfold XsT
     rw [Xpk ht (show 4≤40 by decide),Xik (p:=6) (k:=1) ht (by decide),Xik (p:=7) (k:=1) ht (by decide),Xik (p:=8) (k:=16) ht (by decide),Xik (p:=24) (k:=16) ht (by decide)]
    rw [hh]
    exact ⟨rfl,rfl⟩
   obtain ⟨k1,k2⟩:=k6
   rw [hv 0 1 (by omega),if_neg g1,if_pos g4]
   rw [k1] at g3 hb hlen ⊢
   rw [k2]
   simp only at hb hlen g3 ⊢
   have d40:(s.drop 40).length=s.length - 40:=List.length_drop
   have hfull:(s.drop 40).take (XeY ((s.drop 4).take 2))=s.drop 40:=List.take_of_length_le (by
    rw [List.length_take] at hlen;omega)
   have h3:=congrArg List.length hfull
   rw [List.length_take] at h3
   rw [hfull] at hb g3 ⊢
   have hfb:(t.drop 40).take (XeY ((s.drop 4).take 2))=b:=by
    rw [hdr]
    exact List.take_of_length_le (by omega)
   rw [hfb,hl,if_neg (by simp),if_neg (by rw [hb];exact g3)]
   exact ⟨rfl,rfl⟩
  ·rw [if_neg g4] at h;exact absurd h (by decide)
theorem XqD:∀ a:List UInt8,Xdp a=0→allz a=true
 | [],_=>rfl
 | [x],h=>by
   have:x.toNat=0:=by rw [Xdp] at h;omega
   have e:x=0:=UInt8.toNat_inj.1 this
   subst e;rfl
 | x::y::a,h=>by
   rw [Xdp] at h
   have ex:x=0:=UInt8.toNat_inj.1 (show x.toNat=0 by omega)
   have ey:y=0:=UInt8.toNat_inj.1 (show y.toNat=0 by omega)
   have:=XqD a (by omega)
   subst ex ey
   exact this
theorem XSE {b:List UInt8} {p:Nat} (hp:p<b.length) (h:0<vK b p 1):Xdp b≠0:=by
 intro e
 have hz:=XqD b e
 unfold allz at hz
 rw [List.all_eq_true] at hz
 have:=hz b[p] (List.getElem_mem hp)
 have e0:b[p]=0:=by simpa using this
 rw [XuT hp,e0] at h
 exact absurd h (by decide)
def n7 (b:List UInt8):Nat:=(4*(vK b 12 1/16)).toNat - 20
def hd7 (b:List UInt8) (o:List UInt8):XaT:=⟨vK b 0 2,vK b 2 2,vK b 4 4,vK b 8 4,vK b 13 1,vK b 14 2,vK b 18 2,o⟩
theorem Xt9 {b:List UInt8} {src dst:Xag} (h:(Xkp b src dst).2.2=0):20≤b.length∧5≤vK b 12 1/16∧20+n7 b≤b.length∧(Xnb ((b.drop 20).take (n7 b))).2=0∧Xkp b src dst=(hd7 b ((b.drop 20).take (n7 b)),b.drop (20+n7 b),0):=by
 unfold Xkp at h ⊢
 by_cases g0:b.length<20
 ·rw [if_pos g0] at h;exact absurd h (by decide)
 by_cases g1:4*(vK b 12 1/16)<20
 ·rw [if_neg g0,if_pos g1] at h;exact absurd h (by decide)
 by_cases g2:vK b 12 1%16≠0
 ·rw [if_neg g0,if_neg g1,if_pos g2] at h;exact absurd h (by decide)
 by_cases g3:(b.length:Int)<4*(vK b 12 1/16)
 ·rw [if_neg g0,if_neg g1,if_neg g2,if_pos g3] at h;exact absurd h (by decide)
 by_cases g4:XlN src dst 6 b.length=[]
 ·rw [if_neg g0,if_neg g1,if_neg g2,if_neg g3,if_pos g4] at h;exact absurd h (by decide)
 by_cases g5:norm (Xdp (XlN src dst 6 b.length++b))≠65535
 ·rw [if_neg g0,if_neg g1,if_neg g2,if_neg g3,if_neg g4,if_pos g5] at h;exact absurd h (by decide)
 by_cases g6:(Xnb ((b.drop 20).take ((4*(vK b 12 1/16)).toNat - 20))).2≠0
 ·rw [if_neg g0,if_neg g1,if_neg g2,if_neg g3,if_neg g4,if_neg g5,if_pos g6] at h;exact absurd h g6
 rw [if_neg g0,if_neg g1,if_neg g2,if_neg g3,if_neg g4,if_neg g5,if_neg g6]
 refine ⟨by omega,by omega,by unfold n7;omega,by unfold n7;simpa using g6,?_⟩
 unfold hd7 n7
 rw [show 20+((4*(vK b 12 1/16)).toNat - 20)=(4*(vK b 12 1/16)).toNat by omega]
theorem Xyf {b b':List UInt8} {src dst:Xag} (hlen:b'.length=b.length) (h:(Xkp b src dst).2.2=0) (hd:∀ k,k<20→k≠16→k≠17→b'[k]?=b[k]?) (hs:Xdp b'%65535=Xdp b%65535) (ho:(Xnb ((b'.drop 20).take (n7 b))).2=0):Xkp b' src dst=(hd7 b ((b'.drop 20).take (n7 b)),b'.drop (20+n7 b),0):=by
 obtain ⟨l20,v5,ln,_,_⟩:=Xt9 h
 have hv:∀ p k,(p+k≤16∨18≤p∧p+k≤20)→vK b' p k=vK b p k:=fun p k hk=>by
  unfold vK;rw [Xl3 (fun x h1 h2=>hd x (by omega) (by omega) (by omega))]
 have hnz:Xdp b'≠0:=XSE (p:=12) (by omega) (by rw [hv 12 1 (by omega)];omega)
 unfold Xkp at h ⊢
 rw [hlen,hv 12 1 (by omega),hv 0 2 (by omega),hv 2 2 (by omega),hv 4 4 (by omega),hv 8 4 (by omega),hv 13 1 (by omega),hv 14 2 (by omega),hv 18 2 (by omega)]
 by_cases g0:b.length<20
 ·rw [if_pos g0] at h;exact absurd h (by decide)
 by_cases g1:4*(vK b 12 1/16)<20
 ·rw [if_neg g0,if_pos g1] at h;exact absurd h (by decide)
 by_cases g2:vK b 12 1%16≠0
 ·rw [if_neg g0,if_neg g1,if_pos g2] at h;exact absurd h (by decide)
 by_cases g3:(b.length:Int)<4*(vK b 12 1/16)
 ·rw [if_neg g0,if_neg g1,if_neg g2,if_pos g3] at h;exact absurd h (by decide)
 by_cases g4:XlN src dst 6 b.length=[]
 ·rw [if_neg g0,if_neg g1,if_neg g2,if_neg g3,if_pos g4] at h;exact absurd h (by decide)
 by_cases g5:norm (Xdp (XlN src dst 6 b.length++b))≠65535
 ·rw [if_neg g0,if_neg g1,if_neg g2,if_neg g3,if_neg g4,if_pos g5] at h;exact absurd h (by decide)
 have g5':¬ norm (Xdp (XlN src dst 6 b.length++b'))≠65535:=by
  have m:=XiI (Xdp (XlN src dst 6 b.length++b))
  rw [Decidable.not_not.1 g5] at m
  rw [Xdf _ _ (Xst _ _ _ _)] at m ⊢
  rw [XiG (by omega) (by omega)]
  simp
 rw [if_neg g0,if_neg g1,if_neg g2,if_neg g3,if_neg g4,if_neg g5',if_neg (by unfold n7 at ho;simpa using ho)]
 unfold hd7 n7
 rw [show 20+((4*(vK b 12 1/16)).toNat - 20)=(4*(vK b 12 1/16)).toNat by omega]
theorem Xjw {s:List UInt8} (h:(Xbz s).2.2.2=0) (hs:(Xbz s).1.Stamped=true):(Xay s).err=0∧(Xay s).proto=6∧s.length≤9000∧s≠[]∧(Xkp (Xay s).body (Xay s).src (Xay s).dst).2.2=0 ∧
 0≤(Xhg (Xkp (Xay s).body (Xay s).src (Xay s).dst).1.Options).2.2∧Xbz s=((XiW (Xay s) s.length).1,s.length - (Xay s).body.length,s.length - (XiW (Xay s) s.length).2.1,0):=by
 unfold Xbz at h hs ⊢
 by_cases g1:9000<s.length
 ·rw [if_pos g1] at h;exact absurd h (by decide)
 by_cases g2:s=[]
 ·rw [if_neg g1,if_pos g2] at h;exact absurd h (by decide)
 by_cases g3:(Xay s).err≠0
 ·rw [if_neg g1,if_neg g2,if_pos g3] at h;exact absurd h g3
 by_cases g4:(XiW (Xay s) s.length).2.2≠0
 ·rw [if_neg g1,if_neg g2,if_neg g3,if_pos g4] at h;exact absurd h g4
 rw [if_neg g1,if_neg g2,if_neg g3,if_neg g4] at hs ⊢
 simp only at hs
 have hin:(Xay s).proto=6∧(Xkp (Xay s).body (Xay s).src (Xay s).dst).2.2=0∧0≤(Xhg (Xkp (Xay s).body (Xay s).src (Xay s).dst).1.Options).2.2:=by
  unfold XiW at hs
  by_cases p6:(Xay s).proto=6
  ·rw [if_pos p6] at hs
   by_cases e7:(Xkp (Xay s).body (Xay s).src (Xay s).dst).2.2≠0
   ·rw [if_pos e7] at hs;exact absurd hs (by simp [zP])
   rw [if_neg e7] at hs
   simp only at hs
   unfold Xu2 at hs
   by_cases e8:0≤(Xhg (Xkp (Xay s).body (Xay s).src (Xay s).dst).1.Options).2.2
   ·exact ⟨p6,by simpa using e7,e8⟩
   ·rw [if_neg e8] at hs;exact absurd hs (by decide)
  ·rw [if_neg p6] at hs
   by_cases p17:(Xay s).proto=17
   ·rw [if_pos p17] at hs
    split at hs
    ·exact absurd hs (by simp [zP])
    split at hs
    ·exact absurd hs (by simp [zP])
    ·exact absurd hs (by simp)
   ·rw [if_neg p17] at hs;exact absurd hs (by decide)
 exact ⟨by simpa using g3,hin.1,by omega,g2,hin.2.1,hin.2.2,rfl⟩
theorem Xnx {s b':List UInt8} {p q:Nat} (h:(Xbz s).2.2.2=0) (hs:(Xbz s).1.Stamped=true) (hq:(Xhg (Xkp (Xay s).body (Xay s).src (Xay s).dst).1.Options).2.2=(q:Int)) (hp:p=q∨p=q+4) (hlen:b'.length=(Xay s).body.length)
 (hd:∀ k,k≠16→k≠17→(k<20+p∨20+p+4≤k)→b'[k]?=(Xay s).body[k]?) (hw:Xdp b'%65535=Xdp (Xay s).body%65535) :
 Xbz (s.take (Xay s).size++b')=({(Xbz s).1 with Val:=vK b' (20+q) 4,Echo:=vK b' (20+(q+4)) 4},(Xbz s).2.1,(Xbz s).2.2.1,0)∧(Xbz s).1.Val=vK (Xay s).body (20+q) 4∧(Xbz s).1.Echo=vK (Xay s).body (20+(q+4)) 4∧q+28≤(Xay s).body.length:=by
 obtain ⟨k1,k2,k3,k4,k5,k6,k7⟩:=Xjw h hs
 obtain ⟨sw1,sw2⟩:=XlW k1 hlen
 have hbl:=Xi2 k1
 obtain ⟨l20,v5,ln,o7,g7⟩:=Xt9 k5
 have eo:(Xkp (Xay s).body (Xay s).src (Xay s).dst).1.Options=((Xay s).body.drop 20).take (n7 (Xay s).body):=by rw [g7];rfl
 rw [eo] at hq k6
 generalize hB:(Xay s).body=B at *
 have hol:((b'.drop 20).take (n7 B)).length=((B.drop 20).take (n7 B)).length:=by simp only [List.length_take,List.length_drop,hlen]
 have hod:∀ k,(k<p∨p+4≤k)→((b'.drop 20).take (n7 B))[k]?=((B.drop 20).take (n7 B))[k]?:=fun k hk=>by
  rw [List.getElem?_take,List.getElem?_take]
  split
  ·rw [List.getElem?_drop,List.getElem?_drop];exact hd _ (by omega) (by omega) (by omega)
  ·rfl
 obtain ⟨r1,r2,r3,r4,r5⟩:=Xwg hol hp hod o7 hq
 have hon:((B.drop 20).take (n7 B)).length≤n7 B:=by rw [List.length_take];omega
 have hon2:((B.drop 20).take (n7 B)).length+20≤B.length:=by rw [List.length_take,List.length_drop];omega
 have vo:∀ (b:List UInt8) (x:Nat),x+4≤n7 B→vK ((b.drop 20).take (n7 B)) x 4=vK b (20+x) 4:=fun b x hx=>by rw [XAc hx];exact (Xz5 rfl).symm
 have g7':=Xyf (b:=B) (b':=b') (src:=(Xay s).src) (dst:=(Xay s).dst) hlen k5 (fun k h1 h2 h3=>hd k h2 h3 (by omega)) hw r1
 have st:Xu2 ((B.drop 20).take (n7 B))=(true,vK B (20+q) 4,vK B (20+(q+4)) 4):=by
  unfold Xu2
  rw [r3,if_pos (by simp only;omega),vo B q (by omega),vo B (q+4) (by omega)]
 have st':Xu2 ((b'.drop 20).take (n7 B))=(true,vK b' (20+q) 4,vK b' (20+(q+4)) 4):=by
  unfold Xu2
  rw [r2,if_pos (by simp only;omega),vo b' q (by omega),vo b' (q+4) (by omega)]
 have in0:XiW (Xay s) s.length=(⟨⟨(Xay s).proto,(Xay s).src,(Xay s).dst,vK B 0 2,vK B 2 2⟩,vK B 13 1,true,vK B (20+q) 4,vK B (20+(q+4)) 4,false,[],s.length⟩,(B.drop (20+n7 B)).length,0):=by
  unfold XiW
  rw [if_pos k2,hB,g7]
  simp only [hd7,st]
  rw [if_neg (by simp)]
 have hz:(s.take (Xay s).size++b').length=s.length:=by rw [List.length_append,List.length_take];omega
 generalize (s.take (Xay s).size++b')=t at *
 have in1:XiW (Xay t) t.length=(⟨⟨(Xay s).proto,(Xay s).src,(Xay s).dst,vK B 0 2,vK B 2 2⟩,vK B 13 1,true,vK b' (20+q) 4,vK b' (20+(q+4)) 4,false,[],s.length⟩,(B.drop (20+n7 B)).length,0):=by
  unfold XiW
  rw [sw1,hz]
  simp only
  rw [if_pos k2,g7']
  simp only [hd7,st']
  rw [if_neg (by simp),List.length_drop,List.length_drop,hlen]
 rw [k7,in0]
 simp only
 refine ⟨?_,trivial,trivial,by omega⟩
 unfold Xbz
 rw [if_neg (by omega),if_neg (by intro e;rw [e] at hz;exact k4 (List.eq_nil_of_length_eq_zero (by simpa using hz.symm))),in1,sw1]
 simp only [ne_eq,not_true,if_false,hz,hlen]
end Go.Vm.Code
namespace Go.Vm.Code
open Go Go.Vm Go.Proofs
set_option maxRecDepth 100000
set_option maxHeartbeats 4000000
set_option linter.unusedVariables false
def Xg4 (l:List Int) (t7:Int):Option (Sum Int Bool):=
 cond (decide (t7<(l.length:Int)))
  (
  XbU (decide ((0:Int)≤t7∧t7<(l.length:Int))) <|
  (l[t7.toNat]?).bind fun (e:Int)=>
  cond (decide (e<0))
   (
   some (.inr (false)))
   (
   cond (decide (e>65535))
    (
    some (.inr (false)))
    (
    some (.inl (wI .i64 (t7+1))))))
  (
  some (.inr (true)))
def Xlf (l:List Int):Option Bool:=
 iter (fun st=>Xg4 l st) FUEL 0
def Xwe (x:Bool):Xc4:=⟨.bool x,[],[none]⟩
abbrev Xfn:=(List Int)→Option Bool
def r134 (g:Xfn):Dec:=dSl 0 1 (unL (asI .i64)) fun (y0:List Int)=>XdY (ofG (g y0) Xwe)
theorem XRq {g:Xfn} {y0:List Int} {x:Bool} (hx:g y0=some x):r134 g [.slice (some ⟨0,0,none⟩) y0.length 1] [some (vI .i64 y0)]=some (Xwe x):=(XAq (Xzt _ _)).trans (Xbc hx)
def s134 (g:Xfn):Xb3:=⟨[.sl 1],r134 g⟩
theorem XLU {g:Xfn} {y0:List Int} {x:Bool} (hx:g y0=some x):(s134 g).run [.slice (some ⟨0,0,none⟩) y0.length 1] [some (vI .i64 y0)]=some (Xwe x):=XRq hx
abbrev XAA:List (Nat×Xb3):=[]
def XkM (l:List Int) (t7:Int):VM:=
 ⟨⟨134,18,[(5,.slice (some ⟨0,0,none⟩) l.length 1),(6,.int .i64 (l.length:Int)),(7,.int .i64 t7)],[.code Xtv,.inLoop Xtv,.inBlock 0,.code XAd],[],false,none⟩,[],[(0,.row false (vI .i64 l))],1⟩
theorem XAp (hS:Xar Tryz.prog (XaI (XAA))) (l:List Int) (res:Bool):∀ fuel (st:Int) (o:Bool),iter (fun st=>Xg4 l st) fuel st=some o→(o=res) →
 XaO Tryz.prog 134 1 (XkM l st) (fun v H _=>Res 1 (Xwe res) v H):=by
 intro fuel st o h hc
 refine Xdh (head:=fun st=>XkM l st) (C:=fun o=>(o=res)) ?_ fuel st o h hc
 clear h hc o st fuel
 intro t7 o h hc
 replace h:Xg4 l t7=some o:=h
 show XaO Tryz.prog 134 1 (XkM l t7) (fun v H _=>Res 1 (Xwe res) v H)
 unfold Xg4 at h
 refine XbD XaQ hS true 3000 ?_
 conv=>whnf
 refine br.h2 h (by rfl) ?_ ?_
 ·clear h;intro hb h;conv=>whnf
  exact W
 clear h;intro hb h;conv=>whnf
 replace h:=XbU.elim h;obtain ⟨hb,h⟩:=h
 try (refine req.intro hb ?_;conv=>whnf)
 replace h:=Xdj.elim h;obtain ⟨e,hy,h⟩:=h
 refine rd.I hy (by first|rfl|(rw [Nat.zero_add,Nat.mul_one];try rfl;done)|omega) ?_
 conv=>whnf
 refine br.h h (by rfl) ?_ ?_
 ·clear h;intro hb h;conv=>whnf
  exact W
 clear h;intro hb h;conv=>whnf
 refine br.h h (by rfl) ?_ ?_
 ·clear h;intro hb h;conv=>whnf
  exact W
 clear h;intro hb h;conv=>whnf
 cases h;simp only [Sum.elim_inl,XkM] at hc
 exact Xn8 hc [(0,0)] rfl
theorem XBO (hS:Xar Tryz.prog (XaI (XAA))) (l:List Int) (res:Bool) (h:Xlf l=some res) :
 XaO Tryz.prog 134 1 ⟨⟨134,18,[(0,.slice (some ⟨0,0,none⟩) l.length 1)],[.code Xx2],[],false,none⟩,[],[(0,.row false (vI .i64 l))],1⟩ (fun v H _=>Res 1 (Xwe res) v H):=by
 unfold Xlf at h
 refine XbD XaQ hS true 3000 ?_
 conv=>whnf
 have hl:=XAp hS _ res _ _ _ h rfl;simp only [XkM] at hl
 exact Xn8 hl [(0,0)] rfl
def Xe4:Xfn:=Xlf
theorem XLZ:Xb8 Tryz.prog 134 (s134 Xe4):=by
 have hL:=XBO (Xar.Xa6 trivial)
 exact okA ⟨Tryz.f134,rfl,by decide,rfl⟩
def Xj0 (XbT:XcS) (Xe4:Xfn) (check:Int) (froma1:Int) (to:Int):Option Int:=
 (Xe4 [check,froma1,to]).bind fun m=>
 cond (!m)
  (
  some (0))
  (
  let t:=wI .i64 ((wI .i64 (65535 - check))+65535)
  (XbT (wI .i64 ((wI .i64 (t - froma1))+to))).bind fun f=>
  some (wI .i64 (65535 - f)))
def XCz (x:Int):Xc4:=⟨.int .i64 x,[],[]⟩
abbrev XdS:=Int→Int→Int→Option Int
def r122 (g:XdS):Dec:=dV (asI .i64) fun (y0:Int)=>dV (asI .i64) fun (y1:Int)=>dV (asI .i64) fun (y2:Int)=>XdY (ofG (g y0 y1 y2) XCz)
theorem XPX {g:XdS} {y0:Int} {y1:Int} {y2:Int} {x:Int} (hx:g y0 y1 y2=some x):r122 g [.int .i64 y0,.int .i64 y1,.int .i64 y2] []=some (XCz x):=(Xbb (Xdo _)).trans ((Xbb (Xdo _)).trans ((Xbb (Xdo _)).trans (Xbc hx)))
def s122 (g:XdS):Xb3:=⟨[.v,.v,.v],r122 g⟩
theorem XzH {g:XdS} {y0:Int} {y1:Int} {y2:Int} {x:Int} (hx:g y0 y1 y2=some x):(s122 g).run [.int .i64 y0,.int .i64 y1,.int .i64 y2] []=some (XCz x):=XPX hx
abbrev XKQ (XbT:XcS) (Xe4:Xfn):List (Nat×Xb3):=[(115,s115 XbT),(134,s134 Xe4)]
theorem XEr (XbT:XcS) (Xe4:Xfn) (hS:Xar Tryz.prog (XaI (XKQ XbT Xe4))) (check:Int) (froma1:Int) (to:Int) (res:Int) (h:Xj0 XbT Xe4 check froma1 to=some res) :
 XaO Tryz.prog 122 0 ⟨⟨122,22,[(0,.int .i64 check),(1,.int .i64 froma1),(2,.int .i64 to)],[.code XFH],[],false,none⟩,[],[],0⟩ (fun v H _=>Res 0 (XCz res) v H):=by
 unfold Xj0 at h
 have R1:=@XLU Xe4
 have R2:=@Xuc XbT
 refine XbD XaQ hS true 3000 ?_
 conv=>whnf
 exact W
def XcG:XdS:=Xj0 XbT Xe4
theorem XMx:Xb8 Tryz.prog 122 (s122 XcG):=by
 have hL:=XEr XbT Xe4 (Xar.Xa6 ⟨XxV,XLZ,trivial⟩)
 exact okA ⟨Tryz.f122,rfl,by decide,rfl⟩
def Xfd (XcG:XdS) (Xax:Xby) (froma1:List UInt8) (to:List UInt8) (xat:Int) (check1:Int) (xat1:Int):Option (Sum (Int×Int×Int) Int):=
 cond (decide (xat<(froma1.length:Int)))
  (
  XbU (decide (0≤xat)) <|
  (froma1[xat.toNat]?).bind fun (b:UInt8)=>
  let t2:=wI .i64 ((wI .i64 (b.toNat:Int))*2^8)
  let t3:=decide ((wI .i64 (xat+1))<(froma1.length:Int))
  cond (t3)
   (
   XbU (decide (0≤(wI .i64 (xat+1)))) <|
   (froma1[(wI .i64 (xat+1)).toNat]?).bind fun (b1:UInt8)=>
   (Xax to xat1 2).bind fun xg=>
   (XcG check1 (Xwm .i64 t2 (wI .i64 (b1.toNat:Int))) (wI .i64 xg.1)).bind fun t4=>
   some (.inl (wI .i64 (xat+2),t4,wI .i64 (xat1+2))))
   (
   (Xax to xat1 2).bind fun xg1=>
   (XcG check1 t2 (wI .i64 xg1.1)).bind fun t5=>
   some (.inl (wI .i64 (xat+2),t5,wI .i64 (xat1+2)))))
  (
  some (.inr (check1)))
def XiL (XcG:XdS) (Xax:Xby) (check:Int) (froma1:List UInt8) (to:List UInt8):Option Int:=
 let t:=(froma1.length:Int) !=(to.length:Int)
 cond (t)
  (
  some (check))
  (
  let t1:=decide (((froma1.length:Int).tmod 2)>0)
  cond (t1)
   (
   some (check))
   (
   iter (fun st=>Xfd XcG Xax froma1 to st.1 st.2.1 st.2.2) FUEL (0,check,0)))
def XM7 (x:Int):Xc4:=⟨.int .i64 x,[],[]⟩
abbrev XdV:=Int→(List UInt8)→(List UInt8)→Option Int
def r99 (g:XdV):Dec:=dV (asI .i64) fun (y0:Int)=>dV asS fun (y1:List UInt8)=>dV asS fun (y2:List UInt8)=>XdY (ofG (g y0 y1 y2) XM7)
theorem r99_c {g:XdV} {y0:Int} {y1:List UInt8} {y2:List UInt8} {x:Int} (hx:g y0 y1 y2=some x):r99 g [.int .i64 y0,.string ⟨⟨y1⟩⟩,.string ⟨⟨y2⟩⟩] []=some (XM7 x):=(Xbb (Xdo _)).trans ((Xbb (Xeb)).trans ((Xbb (Xeb)).trans (Xbc hx)))
def s99 (g:XdV):Xb3:=⟨[.v,.v,.v],r99 g⟩
theorem XTs {g:XdV} {y0:Int} {y1:List UInt8} {y2:List UInt8} {x:Int} (hx:g y0 y1 y2=some x):(s99 g).run [.int .i64 y0,.string ⟨⟨y1⟩⟩,.string ⟨⟨y2⟩⟩] []=some (XM7 x):=r99_c hx
abbrev XHu (XcG:XdS) (Xax:Xby):List (Nat×Xb3):=[(122,s122 XcG),(69,s69 Xax)]
def Xk9 (froma1:List UInt8) (to:List UInt8) (xat:Int) (check1:Int) (xat1:Int):VM:=
 ⟨⟨128,32,[(0,.func (.yield 5) #[] #[]),(1,.pointer (some ⟨3,0,none⟩)),(3,.int .i64 xat)],[.code Xpr,.inLoop Xpr,.inBlock 0],[],false,none⟩,[⟨99,40,[(3,.pointer (some ⟨0,0,none⟩))],[.inRangeFunc 5,.inBlock 0,.code XFU],[4],false,none⟩],[(0,.cells [.int .i64 check1]),(1,.cells [.string ⟨⟨to⟩⟩]),(2,.cells [.int .i64 xat1]),(3,.cells [.string ⟨⟨froma1⟩⟩]),(4,.marks),(5,.loop ⟨.ready,none,99,40,[(3,.pointer (some ⟨0,0,none⟩)),(5,.pointer (some ⟨1,0,none⟩)),(7,.pointer (some ⟨2,0,none⟩))],[25],XQo,XGg,4⟩)],6⟩
theorem XC7 (XcG:XdS) (Xax:Xby) (hS:Xar Tryz.prog (XaI (XHu XcG Xax))) (froma1:List UInt8) (to:List UInt8) (res:Int):∀ fuel (st:Int×Int×Int) (o:Int),iter (fun st=>Xfd XcG Xax froma1 to st.1 st.2.1 st.2.2) fuel st=some o→(o=res) →
 XaO Tryz.prog 99 0 (Xk9 froma1 to st.1 st.2.1 st.2.2) (fun v H _=>Res 0 (XM7 res) v H):=by
 intro fuel st o h hc
 refine Xdh (head:=fun st=>Xk9 froma1 to st.1 st.2.1 st.2.2) (C:=fun o=>(o=res)) ?_ fuel st o h hc
 clear h hc o st fuel
 intro st o h hc
 obtain ⟨xat,check1,xat1⟩:=st
 replace h:Xfd XcG Xax froma1 to xat check1 xat1=some o:=h
 show XaO Tryz.prog 99 0 (Xk9 froma1 to xat check1 xat1) (fun v H _=>Res 0 (XM7 res) v H)
 unfold Xfd at h
 refine XbD XaQ hS true 3000 ?_
 conv=>whnf
 refine br.h2 h (by rfl) ?_ ?_
 ·clear h;intro hb h;conv=>whnf
  exact W
 clear h;intro hb h;conv=>whnf
 replace h:=XbU.elim h;obtain ⟨hb,h⟩:=h
 try (refine req.intro hb ?_;conv=>whnf)
 replace h:=Xdj.elim h;obtain ⟨b,hy,h⟩:=h
 refine rdS.intro hy ?_
 conv=>whnf
 let t2:Int:=wI .i64 ((wI .i64 (b.toNat:Int))*2^8)
 let t3:Bool:=decide ((wI .i64 (xat+1))<(froma1.length:Int))
 refine br.h2 h (by rfl) ?_ ?_
 ·clear h;intro hb h;conv=>whnf
  replace h:=Xdj.elim h;obtain ⟨xg1,hy,h⟩:=h
  refine XfS.a (Xo3 hy) ?_
  conv=>whnf
  replace h:=Xdj.elim h;obtain ⟨t5,hy,h⟩:=h
  refine XfS.a (XzH hy) ?_
  conv=>whnf
  cases h;simp only [Sum.elim_inl,Xk9] at hc
  exact Xw3 hc [(0,0),(1,1),(2,2),(3,3),(4,4),(5,5)] rfl
 clear h;intro hb h;conv=>whnf
 replace h:=XbU.elim h;obtain ⟨hb,h⟩:=h
 try (refine req.intro hb ?_;conv=>whnf)
 replace h:=Xdj.elim h;obtain ⟨b1,hy,h⟩:=h
 refine rdS.intro hy ?_
 conv=>whnf
 replace h:=Xdj.elim h;obtain ⟨xg,hy,h⟩:=h
 refine XfS.a (Xo3 hy) ?_
 conv=>whnf
 replace h:=Xdj.elim h;obtain ⟨t4,hy,h⟩:=h
 refine XfS.a (XzH hy) ?_
 conv=>whnf
 cases h;simp only [Sum.elim_inl,Xk9] at hc
 exact Xw3 hc [(0,0),(1,1),(2,2),(3,3),(4,4),(5,5)] rfl
theorem XMw (XcG:XdS) (Xax:Xby) (hS:Xar Tryz.prog (XaI (XHu XcG Xax))) (check:Int) (froma1:List UInt8) (to:List UInt8) (res:Int) (h:XiL XcG Xax check froma1 to=some res) :
 XaO Tryz.prog 99 0 ⟨⟨99,40,[(0,.int .i64 check),(1,.string ⟨⟨froma1⟩⟩),(2,.string ⟨⟨to⟩⟩)],[.code XGI],[],false,none⟩,[],[],0⟩ (fun v H _=>Res 0 (XM7 res) v H):=by
 unfold XiL at h
 refine XbD XaQ hS true 3000 ?_
 conv=>whnf
 let t:Bool:=(froma1.length:Int) !=(to.length:Int)
 refine br.h h (by rfl) ?_ ?_
 ·clear h;intro hb h;conv=>whnf
  exact W
 clear h;intro hb h;conv=>whnf
 let t1:Bool:=decide (((froma1.length:Int).tmod 2)>0)
 refine br.h h (by rfl) ?_ ?_
 ·clear h;intro hb h;conv=>whnf
  exact W
 clear h;intro hb h;conv=>whnf
 have hl:=XC7 XcG Xax hS _ _ res _ _ _ h rfl;simp only [Xk9] at hl
 exact Xw3 hl [(0,0),(1,1),(2,2),(3,3),(4,4),(5,5)] rfl
def XcH:XdV:=XiL XcG Xax
theorem XTd:Xb8 Tryz.prog 99 (s99 XcH):=by
 have hL:=XMw XcG Xax (Xar.Xa6 ⟨XMx,XqQ,trivial⟩)
 exact okA ⟨Tryz.f99,rfl,by decide,rfl⟩
end Go.Vm.Code
namespace Go.Vm.Code
open Go Go.Vm
def isW (n:Int):Bool:=decide (0≤n∧n≤65535)
theorem XRi {l:List Int} (hl:l.length<2^40):Xe4 l=some (l.all isW):=by
 unfold Xe4 Xlf
 have key:=iter_eq (step:=fun (st:Int)=>Xg4 l st) (fun st=>(l.drop st.toNat).all isW) (fun st=>0≤st∧st≤l.length) (fun st=>(l.length - st).toNat) ?_ FUEL 0 ⟨by omega,by omega⟩ (by rw [XgR];omega)
 ·rw [key];simp
 rintro p ⟨g1,g2⟩
 obtain ⟨i,rfl⟩:=Int.eq_ofNat_of_zero_le g1
 simp only [Int.toNat_natCast]
 unfold Xg4
 by_cases hi:i<l.length
 ·have e1:(l.drop i).all isW=(isW l[i]&&(l.drop (i+1)).all isW):=by rw [List.drop_eq_getElem_cons hi];rfl
  by_cases h1:l[i]<0
  ·refine .inl ?_
   simp (disch:=omega) only [XbB,Xa9,Int.toNat_natCast,List.getElem?_eq_getElem,Option.bind_some]
   rw [e1,show isW l[i]=false from decide_eq_false (by omega)];rfl
  ·by_cases h2:l[i]>65535
   ·refine .inl ?_
    simp (disch:=omega) only [XbB,Xbd,Xa9,Int.toNat_natCast,List.getElem?_eq_getElem,Option.bind_some]
    rw [e1,show isW l[i]=false from decide_eq_false (by omega)];rfl
   ·refine .inr ⟨((i+1:Nat):Int),?_,⟨by omega,by omega⟩,by omega,?_⟩
    ·simp (disch:=omega) only [XbB,Xbd,Xa9,Int.toNat_natCast,List.getElem?_eq_getElem,Option.bind_some,Xe0];rfl
    ·simp only [Int.toNat_natCast]
     rw [e1,show isW l[i]=true from decide_eq_true (by omega)];rfl
 ·refine .inl ?_
  rw [Xbd (by omega),List.drop_eq_nil_of_le (by omega)];rfl
def XrS (c f t:Int):Int:=if isW c&&(isW f&&isW t) then 65535 - ((norm ((65535 - c)+((65535 - f)+t)).toNat:Nat):Int) else 0
theorem Xl8 {n:Int}:isW n=true↔0≤n∧n≤65535:=by unfold isW;rw [decide_eq_true_eq]
theorem XCB (c f t:Int):isW (XrS c f t)=true:=by
 rw [Xl8];unfold XrS
 have:=norm_le ((65535 - c)+((65535 - f)+t)).toNat
 split<;>omega
theorem XJU {c f t:Int}:XcG c f t=some (XrS c f t):=by
 unfold XcG Xj0 XrS
 rw [XRi (by simp),Option.bind_some]
 simp only [List.all_cons,List.all_nil,Bool.and_true]
 cases hb:(isW c&&(isW f&&isW t)) with
 | false=>rfl
 | true=>
   simp only [Bool.and_eq_true,Xl8] at hb
   rw [Bool.not_true,cond_false]
   simp only [if_true]
   rw [Xe0 (n:=65535 - c) (by omega) (by omega),Xe0 (n:=65535 - c+65535) (by omega) (by omega),Xe0 (n:=65535 - c+65535 - f) (by omega) (by omega),Xe0 (n:=65535 - c+65535 - f+t) (by omega) (by omega),fold_eq (by omega) (by omega),Option.bind_some]
   have e:65535 - c+65535 - f+t=65535 - c+(65535 - f+t):=by omega
   have:=norm_le (65535 - c+(65535 - f+t)).toNat
   rw [e,Xe0 (by omega) (by omega)]
def XjZ (c:Int):List Int→List Int→Int
 | x::xs,y::ys=>XjZ (XrS c x y) xs ys
 | _,_=>c
def Xma (c:Int) (a b:List UInt8):Int:=if a.length=b.length∧a.length%2=0 then XjZ c (XeI a) (XeI b) else c
theorem XzZ {c:Int} {a b:List UInt8} (ha:a.length<2^39) (hb:b.length<2^39):XcH c a b=some (Xma c a b):=by
 unfold XcH XiL Xma
 have e1:((a.length:Int) !=(b.length:Int))=decide (a.length≠b.length):=by
  rw [Bool.eq_iff_iff,bne_iff_ne,decide_eq_true_eq];omega
 have e2:(a.length:Int).tmod 2>0↔¬ a.length%2=0:=by rw [Int.tmod_eq_emod_of_nonneg (by omega)];omega
 simp only [e1]
 by_cases h1:a.length≠b.length
 ·rw [XbB h1,if_neg (by omega)]
 rw [Xbd h1]
 by_cases h2:a.length%2=0
 ·rw [Xbd (by rw [e2];omega),if_pos (by omega)]
  have key:=iter_eq (step:=fun (st:Int×Int×Int)=>Xfd XcG Xax a b st.1 st.2.1 st.2.2) (fun st=>XjZ st.2.1 (XeI (a.drop st.1.toNat)) (XeI (b.drop st.1.toNat))) (fun st=>st.2.2=st.1∧∃ i:Nat,st.1=i∧i%2=0∧i≤a.length) (fun st=>(a.length - st.1).toNat) ?_ FUEL (0,c,0) ⟨rfl,0,rfl,by omega,by omega⟩ (by rw [XgR];simp only;omega)
  ·rw [key];simp
  rintro ⟨p,c1,p1⟩ ⟨g1,i,g2,g3,g4⟩
  simp only at g1 g2 ⊢
  subst g1 g2
  unfold Xfd
  by_cases hi:i<a.length
  ·have hi2:i+1<a.length:=by omega
   have hj2:i+1<b.length:=by omega
   have b1:=a[i].toNat_lt
   have b2:=a[i+1].toNat_lt
   have b3:=b[i].toNat_lt
   have b4:=b[i+1].toNat_lt
   refine .inr ⟨(((i+2:Nat):Int),XrS c1 ((a[i].toNat*256+a[i+1].toNat:Nat):Int) ((b[i].toNat*256+b[i+1].toNat:Nat):Int),((i+2:Nat):Int)),?_,⟨rfl,i+2,rfl,by omega,by omega⟩,by simp only;omega,?_⟩
   ·have e5:((i:Int)+1).toNat=i+1:=by omega
    simp (disch:=omega) only [Xe0,Xa9,XbB,e5,Int.toNat_natCast,List.getElem?_eq_getElem,Option.bind_some,Xqy,XeL,Xul hj2,XJU]
    congr 3<;>(first|rfl|(congr 1<;>omega)|omega)
   ·simp only [Int.toNat_natCast]
    rw [Xnl hi2,Xnl hj2];rfl
  ·refine .inl ?_
   rw [Xbd (by omega)]
   simp [List.drop_eq_nil_of_le (by omega:a.length≤i),XeI,XjZ]
 ·rw [XbB (by rw [e2];omega),if_neg (by omega)]
theorem XDh {c x y:Int} (hc:isW c=true) (hx:isW x=true) (hy:isW y=true):(XrS c x y+y - c - x)%65535=0:=by
 unfold XrS
 rw [hc,hx,hy]
 simp only [Bool.and_self,if_true]
 rw [Xl8] at hc hx hy
 have:=XiI (65535 - c+(65535 - x+y)).toNat
 omega
theorem Xqg:∀ (xs ys:List Int) (c:Int),xs.length=ys.length→(∀ e∈xs,0≤e∧e≤65535)→(∀ e∈ys,0≤e∧e≤65535)→isW c=true→isW (XjZ c xs ys)=true∧(XjZ c xs ys+ys.sum - c - xs.sum)%65535=0
 | [],[],c,_,_,_,hc=>⟨hc,by simp [XjZ]⟩
 | [],_::_,_,h,_,_,_=>by simp at h
 | _::_,[],_,h,_,_,_=>by simp at h
 | x::xs,y::ys,c,h,hx,hy,hc=>by
   have h1:=XDh hc (Xl8.2 (hx x (by simp))) (Xl8.2 (hy y (by simp)))
   obtain ⟨h2,h3⟩:=Xqg xs ys (XrS c x y) (by simpa using h) (fun e he=>hx e (by simp [he])) (fun e he=>hy e (by simp [he])) (XCB c x y)
   refine ⟨h2,?_⟩
   simp only [XjZ,List.sum_cons]
   omega
theorem XvR {c:Nat} {a b:List UInt8} (hl:a.length=b.length) (he:a.length%2=0) (hc:c≤65535):∃ d:Nat,Xma (c:Int) a b=(d:Int)∧d≤65535∧(d+Xdp b)%65535=(c+Xdp a)%65535:=by
 unfold Xma
 rw [if_pos ⟨hl,he⟩]
 obtain ⟨t1,t2⟩:=Xqg (XeI a) (XeI b) (c:Int) (by rw [Xll,Xll,hl]) (Xlc _) (Xlc _) (Xl8.2 (by omega))
 rw [Xk7,Xk7] at t2
 generalize XjZ (c:Int) (XeI a) (XeI b)=d at *
 rw [Xl8] at t1
 obtain ⟨e,rfl⟩:=Int.eq_ofNat_of_zero_le t1.1
 exact ⟨e,rfl,by omega,by omega⟩
end Go.Vm.Code
namespace Go.Vm.Code
open Go Go.Vm Go.Proofs
set_option maxRecDepth 100000
set_option maxHeartbeats 4000000
set_option linter.unusedVariables false
def Xjn (s:List UInt8) (froma1:Int) (to:Int):Option (List UInt8):=
 cond (decide (to>(s.length:Int)))
  (
  XbU (decide ((0:Int)≤froma1∧froma1≤(s.length:Int))) <|
  let t:=(s.drop froma1.toNat).take (s.length - froma1.toNat)
  XbU (decide (t.length+1<2^63)) <|
  some (t++[0]))
  (
  XbU (decide ((0:Int)≤to∧to≤(s.length:Int)∧(0:Int)≤froma1∧froma1≤(to.toNat:Int))) <|
  let t1:=(s.drop froma1.toNat).take (to.toNat - froma1.toNat)
  some (t1))
def XCa (x:List UInt8):Xc4:=⟨.string ⟨⟨x⟩⟩,[],[]⟩
abbrev Xef:=(List UInt8)→Int→Int→Option (List UInt8)
def r100 (g:Xef):Dec:=dV asS fun (y0:List UInt8)=>dV (asI .i64) fun (y1:Int)=>dV (asI .i64) fun (y2:Int)=>XdY (ofG (g y0 y1 y2) XCa)
theorem XRS {g:Xef} {y0:List UInt8} {y1:Int} {y2:Int} {x:List UInt8} (hx:g y0 y1 y2=some x):r100 g [.string ⟨⟨y0⟩⟩,.int .i64 y1,.int .i64 y2] []=some (XCa x):=(Xbb (Xeb)).trans ((Xbb (Xdo _)).trans ((Xbb (Xdo _)).trans (Xbc hx)))
def s100 (g:Xef):Xb3:=⟨[.v,.v,.v],r100 g⟩
theorem XMb {g:Xef} {y0:List UInt8} {y1:Int} {y2:Int} {x:List UInt8} (hx:g y0 y1 y2=some x):(s100 g).run [.string ⟨⟨y0⟩⟩,.int .i64 y1,.int .i64 y2] []=some (XCa x):=XRS hx
abbrev XMf:List (Nat×Xb3):=[]
theorem XEK (hS:Xar Tryz.prog (XaI (XMf))) (s:List UInt8) (froma1:Int) (to:Int) (res:List UInt8) (h:Xjn s froma1 to=some res) :
 XaO Tryz.prog 100 0 ⟨⟨100,19,[(0,.string ⟨⟨s⟩⟩),(1,.int .i64 froma1),(2,.int .i64 to)],[.code XFS],[],false,none⟩,[],[],0⟩ (fun v H _=>Res 0 (XCa res) v H):=by
 unfold Xjn at h
 refine XbD XaQ hS true 3000 ?_
 conv=>whnf
 exact W
def Xct:Xef:=Xjn
theorem XJm:Xb8 Tryz.prog 100 (s100 Xct):=by
 have hL:=XEK (Xar.Xa6 trivial)
 exact okA ⟨Tryz.f100,rfl,by decide,rfl⟩
def Xjm (Xcg:XdU) (XcH:XdV) (Xax:Xby) (Xct:Xef) (body:List UInt8) (ata1:Int) (witha2:List UInt8) (sum:Int):Option ((List UInt8)×Bool):=
 cond (decide (ata1<0))
  (
  some (([],false)))
  (
  let t:=wI .i64 ((body.length:Int) - (witha2.length:Int))
  cond (decide (t<ata1))
   (
   some (([],false)))
   (
   cond (decide (sum<0))
    (
    some (([],false)))
    (
    cond ((sum.tmod 2)==1)
     (
     some (([],false)))
     (
     let t1:=decide ((wI .i64 ((body.length:Int) - 2))<sum)
     cond (t1)
      (
      some (([],false)))
      (
      cond (witha2==[])
       (
       some ((body,true)))
       (
       cond (decide (ata1<(wI .i64 (sum+2))))
        (
        let t2:=decide (sum<(wI .i64 (ata1+(witha2.length:Int))))
        cond (t2)
         (
         some (([],false)))
         (
         XbU (decide ((0:Int)≤ata1∧ata1≤(body.length:Int))) <|
         XbU (decide ((body.take ata1.toNat).length+witha2.length<2^63)) <|
         XbU (decide ((0:Int)≤(wI .i64 (ata1+(witha2.length:Int)))∧(wI .i64 (ata1+(witha2.length:Int)))≤(body.length:Int))) <|
         let t3:=(body.drop (wI .i64 (ata1+(witha2.length:Int))).toNat).take (body.length - (wI .i64 (ata1+(witha2.length:Int))).toNat)
         XbU (decide (((body.take ata1.toNat)++witha2).length+t3.length<2^63)) <|
         let t4:=wI .i64 ((wI .i64 (ata1+(witha2.length:Int)))+1)
         (Xax body sum 2).bind fun xg=>
         (Xct body (Xks .i64 ata1 1) (Xks .i64 t4 1)).bind fun w=>
         (Xct (((body.take ata1.toNat)++witha2)++t3) (Xks .i64 ata1 1) (Xks .i64 t4 1)).bind fun w1=>
         (XcH (wI .i64 xg.1) w w1).bind fun t5=>
         (Xcg (((body.take ata1.toNat)++witha2)++t3) sum 2 (wI .u64 t5)).bind fun s=>
         some ((s,true))))
        (
        XbU (decide ((0:Int)≤ata1∧ata1≤(body.length:Int))) <|
        XbU (decide ((body.take ata1.toNat).length+witha2.length<2^63)) <|
        XbU (decide ((0:Int)≤(wI .i64 (ata1+(witha2.length:Int)))∧(wI .i64 (ata1+(witha2.length:Int)))≤(body.length:Int))) <|
        let t6:=(body.drop (wI .i64 (ata1+(witha2.length:Int))).toNat).take (body.length - (wI .i64 (ata1+(witha2.length:Int))).toNat)
        XbU (decide (((body.take ata1.toNat)++witha2).length+t6.length<2^63)) <|
        let t7:=wI .i64 ((wI .i64 (ata1+(witha2.length:Int)))+1)
        (Xax body sum 2).bind fun xg1=>
        (Xct body (Xks .i64 ata1 1) (Xks .i64 t7 1)).bind fun w2=>
        (Xct (((body.take ata1.toNat)++witha2)++t6) (Xks .i64 ata1 1) (Xks .i64 t7 1)).bind fun w3=>
        (XcH (wI .i64 xg1.1) w2 w3).bind fun t8=>
        (Xcg (((body.take ata1.toNat)++witha2)++t6) sum 2 (wI .u64 t8)).bind fun s1=>
        some ((s1,true)))))))))
def rx70 (x:(List UInt8)×Bool):Xc4:=⟨.tuple ⟨[.string ⟨⟨x.1⟩⟩,.bool x.2]⟩,[],[]⟩
abbrev Xcv:=(List UInt8)→Int→(List UInt8)→Int→Option ((List UInt8)×Bool)
def r70 (g:Xcv):Dec:=dV asS fun (y0:List UInt8)=>dV (asI .i64) fun (y1:Int)=>dV asS fun (y2:List UInt8)=>dV (asI .i64) fun (y3:Int)=>XdY (ofG (g y0 y1 y2 y3) rx70)
theorem r70_c {g:Xcv} {y0:List UInt8} {y1:Int} {y2:List UInt8} {y3:Int} {x:(List UInt8)×Bool} (hx:g y0 y1 y2 y3=some x):r70 g [.string ⟨⟨y0⟩⟩,.int .i64 y1,.string ⟨⟨y2⟩⟩,.int .i64 y3] []=some (rx70 x):=(Xbb (Xeb)).trans ((Xbb (Xdo _)).trans ((Xbb (Xeb)).trans ((Xbb (Xdo _)).trans (Xbc hx))))
def s70 (g:Xcv):Xb3:=⟨[.v,.v,.v,.v],r70 g⟩
theorem Xz8 {g:Xcv} {y0:List UInt8} {y1:Int} {y2:List UInt8} {y3:Int} {x:(List UInt8)×Bool} (hx:g y0 y1 y2 y3=some x):(s70 g).run [.string ⟨⟨y0⟩⟩,.int .i64 y1,.string ⟨⟨y2⟩⟩,.int .i64 y3] []=some (rx70 x):=r70_c hx
abbrev XSV (Xcg:XdU) (XcH:XdV) (Xax:Xby) (Xct:Xef):List (Nat×Xb3):=[(72,s72 Xcg),(99,s99 XcH),(69,s69 Xax),(100,s100 Xct)]
theorem XIB (Xcg:XdU) (XcH:XdV) (Xax:Xby) (Xct:Xef) (hS:Xar Tryz.prog (XaI (XSV Xcg XcH Xax Xct))) (body:List UInt8) (ata1:Int) (witha2:List UInt8) (sum:Int) (res:(List UInt8)×Bool) (h:Xjm Xcg XcH Xax Xct body ata1 witha2 sum=some res) :
 XaO Tryz.prog 70 0 ⟨⟨70,99,[(0,.string ⟨⟨body⟩⟩),(1,.int .i64 ata1),(2,.string ⟨⟨witha2⟩⟩),(3,.int .i64 sum)],[.code XFL],[],false,none⟩,[],[],0⟩ (fun v H _=>Res 0 (rx70 res) v H):=by
 unfold Xjm at h
 have R1:=@Xo3 Xax
 have R2:=@XMb Xct
 have R3:=@XTs XcH
 have R4:=@XGr Xcg
 refine XbD XaQ hS true 3000 ?_
 conv=>whnf
 exact W
def Xbj:Xcv:=Xjm Xcg XcH Xax Xct
theorem Xy8:Xb8 Tryz.prog 70 (s70 Xbj):=by
 have hL:=XIB Xcg XcH Xax Xct (Xar.Xa6 ⟨XHC,XTd,XqQ,XJm,trivial⟩)
 exact okA ⟨Tryz.f70,rfl,by decide,rfl⟩
end Go.Vm.Code
namespace Go.Vm.Code
open Go Go.Vm
theorem andn1:∀ x:Fin 1024,Xks .i64 (x.val:Int) 1=((x.val/2*2:Nat):Int):=by decide +kernel
theorem Xvl {n:Nat} (h:n<1024):Xks .i64 (n:Int) 1=((n/2*2:Nat):Int):=andn1 ⟨n,h⟩
def XwN (s:List UInt8) (f t:Nat):List UInt8:=if s.length<t then s.drop f++[0] else (s.drop f).take (t - f)
theorem XsZ {s:List UInt8} {f t:Nat} (hs:s.length<2^30) (hf:f≤s.length) (ht:f≤t):Xct s (f:Int) (t:Int)=some (XwN s f t):=by
 unfold Xct Xjn XwN
 by_cases h:s.length<t
 ·rw [if_pos h,XbB (by omega),Xa9 (by omega),Int.toNat_natCast,List.take_of_length_le (by rw [List.length_drop];omega)]
  simp only []
  rw [Xa9 (by rw [List.length_drop];omega)]
 ·rw [if_neg h,Xbd (by omega),Xa9 (by omega),Int.toNat_natCast,Int.toNat_natCast]
def XpX (s:List UInt8) (i:Nat) (w:List UInt8):List UInt8:=s.take i++w++s.drop (i+w.length)
theorem XqY {s w:List UInt8} {i:Nat} (h:i+w.length≤s.length):(XpX s i w).length=s.length:=by simp [XpX];omega
theorem XmZ {s w:List UInt8} {i k:Nat} (h:i+w.length≤s.length):(XpX s i w)[k]?=if k<i then s[k]? else if k<i+w.length then w[k - i]? else s[k]?:=by
 unfold XpX
 rw [List.append_assoc,List.getElem?_append]
 have e1:(s.take i).length=i:=by simp;omega
 rw [e1]
 by_cases h1:k<i
 ·rw [if_pos h1,if_pos h1,List.getElem?_take_of_lt h1]
 ·rw [if_neg h1,if_neg h1,List.getElem?_append]
  by_cases h2:k<i+w.length
  ·rw [if_pos (by omega),if_pos h2]
  ·rw [if_neg (by omega),if_neg h2,List.getElem?_drop]
   congr 1;omega
theorem XzO {s w:List UInt8} {i f:Nat} (h:i+w.length≤s.length) (hf:f≤i):(XpX s i w).take f=s.take f:=by
 apply List.ext_getElem?
 intro k
 rw [List.getElem?_take,List.getElem?_take]
 split
 ·rw [XmZ h,if_pos (by omega)]
 ·rfl
theorem XzJ {s w:List UInt8} {i t:Nat} (h:i+w.length≤s.length) (ht:i+w.length≤t):(XpX s i w).drop t=s.drop t:=by
 apply List.ext_getElem?
 intro k
 rw [List.getElem?_drop,List.getElem?_drop,XmZ h,if_neg (by omega),if_neg (by omega)]
theorem XvK:∀ s:List UInt8,s.length%2=1→Xdp (s++[0])=Xdp s
 | [],h=>by simp at h
 | [x],_=>by simp [Xdp]
 | x::y::a,h=>by
   have:=XvK a (by simp at h;omega)
   simp only [List.cons_append,Xdp,this]
theorem Xm5 {s:List UInt8} {f t:Nat} (hf:f%2=0) (ht:t%2=0) (h1:f≤t) (h2:t≤s.length+1) (h3:f≤s.length):Xdp s=Xdp (s.take f)+(Xdp (XwN s f t)+Xdp (s.drop t))∧(XwN s f t).length=t - f:=by
 unfold XwN
 by_cases h:s.length<t
 ·rw [if_pos h]
  have hodd:(s.drop f).length%2=1:=by rw [List.length_drop];omega
  rw [XvK _ hodd,List.drop_eq_nil_of_le (by omega:s.length≤t),show Xdp []=0 from rfl]
  refine ⟨?_,by rw [List.length_append,List.length_drop,List.length_singleton];omega⟩
  rw [Nat.add_zero,←Xdf _ _ (by rw [List.length_take];omega),List.take_append_drop]
 ·rw [if_neg h]
  refine ⟨?_,by rw [List.length_take,List.length_drop];omega⟩
  have:=XuG (s:=s) (p:=f) (k:=t - f) (by omega) hf (by omega)
  rw [show f+(t - f)=t by omega] at this
  exact this
def cAt (b:List UInt8) (j:Nat):Nat:=XeY ((b.drop j).take 2)
theorem XGj (b:List UInt8) (j:Nat):cAt b j<65536:=XeZ (k:=2) 65536 (by decide)
def Xmd (b:List UInt8) (i:Nat) (w:List UInt8) (j:Nat):List UInt8×Bool:=
 if b.length<i+w.length then ([],false) else if w=[] then (b,true) else if i<j+2∧j<i+w.length then ([],false) else
  (sset (XpX b i w) j 2 (Xma (cAt b j:Int) (XwN b (i/2*2) ((i+w.length+1)/2*2)) (XwN (XpX b i w) (i/2*2) ((i+w.length+1)/2*2))).toNat,true)
theorem Xqe {b w:List UInt8} {i j:Nat} (hw:w≠[]) (h1:i+w.length≤b.length) (hj:j+2≤b.length) (hj2:j%2=0) (ho:j+2≤i∨i+w.length≤j):∃ d:Nat,Xma (cAt b j:Int) (XwN b (i/2*2) ((i+w.length+1)/2*2)) (XwN (XpX b i w) (i/2*2) ((i+w.length+1)/2*2))=(d:Int)∧d≤65535∧(Xdp (sset (XpX b i w) j 2 d))%65535=Xdp b%65535:=by
 have hl:=XqY h1
 have hwl:0<w.length:=List.length_pos_iff.2 hw
 obtain ⟨a1,a2⟩:=Xm5 (s:=b) (f:=i/2*2) (t:=(i+w.length+1)/2*2) (by omega) (by omega) (by omega) (by omega) (by omega)
 obtain ⟨b1,b2⟩:=Xm5 (s:=XpX b i w) (f:=i/2*2) (t:=(i+w.length+1)/2*2) (by omega) (by omega) (by omega) (by omega) (by omega)
 rw [XzO h1 (by omega),XzJ h1 (by omega)] at b1
 have hc:=XGj b j
 obtain ⟨d,e1,e2,e3⟩:=XvR (c:=cAt b j) (a:=XwN b (i/2*2) ((i+w.length+1)/2*2)) (b:=XwN (XpX b i w) (i/2*2) ((i+w.length+1)/2*2)) (by rw [a2,b2]) (by rw [a2];omega) (by omega)
 refine ⟨d,e1,e2,?_⟩
 have s1:=XsI (s:=XpX b i w) (p:=j) (k:=2) (n:=d) (by omega) hj2 (by omega)
 have s2:((XpX b i w).drop j).take 2=(b.drop j).take 2:=by
  apply List.ext_getElem?
  intro x
  rw [Xsp,Xsp]
  split
  ·rw [XmZ h1]
   by_cases g:j+x<i
   ·rw [if_pos g]
   ·rw [if_neg g,if_neg (by omega)]
  ·rfl
 have s3:Xdp ((b.drop j).take 2)=cAt b j:=by
  have e:(b.drop j).take 2=be (cAt b j) 2:=(XMq (by rw [List.length_take,List.length_drop];omega)).symm
  rw [e,Xjj hc]
 rw [s2,s3,Xjj (by omega)] at s1
 omega
def XFC (body witha2:List UInt8) (ata1 sum:Int):Option (List UInt8×Bool):=
 XbU (decide ((0:Int)≤ata1∧ata1≤(body.length:Int))) <|
 XbU (decide ((body.take ata1.toNat).length+witha2.length<2^63)) <|
 XbU (decide ((0:Int)≤(wI .i64 (ata1+(witha2.length:Int)))∧(wI .i64 (ata1+(witha2.length:Int)))≤(body.length:Int))) <|
 let t3:=(body.drop (wI .i64 (ata1+(witha2.length:Int))).toNat).take (body.length - (wI .i64 (ata1+(witha2.length:Int))).toNat)
 XbU (decide (((body.take ata1.toNat)++witha2).length+t3.length<2^63)) <|
 let t4:=wI .i64 ((wI .i64 (ata1+(witha2.length:Int)))+1)
 (Xax body sum 2).bind fun xg=>
 (Xct body (Xks .i64 ata1 1) (Xks .i64 t4 1)).bind fun w=>
 (Xct (((body.take ata1.toNat)++witha2)++t3) (Xks .i64 ata1 1) (Xks .i64 t4 1)).bind fun w1=>
 (XcH (wI .i64 xg.1) w w1).bind fun t5=>
 (Xcg (((body.take ata1.toNat)++witha2)++t3) sum 2 (wI .u64 t5)).bind fun s=>
 some ((s,true))
theorem Xso {b w:List UInt8} {i j:Nat} (hb:b.length<1000) (hw:w≠[]) (h1:i+w.length≤b.length) (hj:j+2≤b.length) (hj2:j%2=0) (ho:j+2≤i∨i+w.length≤j):XFC b w (i:Int) (j:Int)=some (sset (XpX b i w) j 2 (Xma (cAt b j:Int) (XwN b (i/2*2) ((i+w.length+1)/2*2)) (XwN (XpX b i w) (i/2*2) ((i+w.length+1)/2*2))).toNat,true):=by
 obtain ⟨d,e1,e2,e3⟩:=Xqe hw h1 hj hj2 ho
 have hwl:0<w.length:=List.length_pos_iff.2 hw
 have hl:=XqY h1
 unfold XFC
 simp only []
 rw [Xe0 (n:=(i:Int)+(w.length:Int)) (by omega) (by omega),show (i:Int)+(w.length:Int)=((i+w.length:Nat):Int) by omega,Xe0 (n:=((i+w.length:Nat):Int)+1) (by omega) (by omega),show ((i+w.length:Nat):Int)+1=((i+w.length+1:Nat):Int) by omega,Xvl (by omega),Xvl (by omega)]
 simp only [Int.toNat_natCast,List.take_of_length_le (show (b.drop (i+w.length)).length≤b.length - (i+w.length) by rw [List.length_drop];omega)]
 show XbU _ (XbU _ (XbU _ (XbU _ ((Xax b (j:Int) 2).bind fun xg=>(Xct b ((i/2*2:Nat):Int) (((i+w.length+1)/2*2:Nat):Int)).bind fun w'=>(Xct (XpX b i w) ((i/2*2:Nat):Int) (((i+w.length+1)/2*2:Nat):Int)).bind fun w1=>(XcH (wI .i64 xg.1) w' w1).bind fun t5=>(Xcg (XpX b i w) (j:Int) 2 (wI .u64 t5)).bind fun s=>some ((s,true))))))=_
 have hg:Xuz b (j:Int) 2=((cAt b j:Int),true):=by
  unfold Xuz cAt
  rw [if_pos (by omega),Int.toNat_natCast];rfl
 have hc:=XGj b j
 obtain ⟨_,a2⟩:=Xm5 (s:=b) (f:=i/2*2) (t:=(i+w.length+1)/2*2) (by omega) (by omega) (by omega) (by omega) (by omega)
 obtain ⟨_,b2⟩:=Xm5 (s:=XpX b i w) (f:=i/2*2) (t:=(i+w.length+1)/2*2) (by omega) (by omega) (by omega) (by omega) (by omega)
 rw [Xa9 (by omega),Xa9 (by rw [List.length_take];omega),Xa9 (by omega),Xa9 (by rw [List.length_append,List.length_take,List.length_drop];omega),XeL (by omega),Option.bind_some,hg,XsZ (by omega) (by omega) (by omega),Option.bind_some,XsZ (by omega) (by omega) (by omega),Option.bind_some]
 simp only []
 rw [Xe0 (by omega) (by omega),XzZ (by omega) (by omega),Option.bind_some,e1,Xkr (by omega) (by omega),show (2:Int)=((2:Nat):Int) from rfl,XuU (by omega) (by omega) (by omega) (by omega) (by omega),Option.bind_some]
theorem XD4 {b w:List UInt8} {i j:Nat} (hb:b.length<1000) (hw9:w.length<1000) (hi:i<1000) (hj:j+2≤b.length) (hj2:j%2=0):Xbj b (i:Int) w (j:Int)=some (Xmd b i w j):=by
 unfold Xbj Xjm Xmd
 rw [Xbd (by omega),Xe0 (n:=(b.length:Int) - (w.length:Int)) (by omega) (by omega)]
 by_cases g1:b.length<i+w.length
 ·rw [if_pos g1,XbB (by omega)]
 rw [if_neg g1,Xbd (by omega),Xbd (by omega),show ((j:Int).tmod 2==1)=false by rw [Int.tmod_eq_emod_of_nonneg (by omega),beq_eq_false_iff_ne];omega,cond_false,Xe0 (n:=(b.length:Int) - 2) (by omega) (by omega)]
 simp only []
 rw [Xbd (by omega)]
 by_cases g2:w=[]
 ·rw [if_pos g2,show (w==[])=true by simpa using g2,cond_true]
 rw [if_neg g2,show (w==[])=false by simpa using g2,cond_false,Xe0 (n:=(j:Int)+2) (by omega) (by omega)]
 by_cases g3:i<j+2
 ·rw [XbB (by omega)]
  by_cases g4:j<i+w.length
  ·rw [if_pos ⟨g3,g4⟩,Xe0 (n:=(i:Int)+(w.length:Int)) (by omega) (by omega),XbB (by omega)]
  ·rw [if_neg (by omega),Xbd (by rw [Xe0 (by omega) (by omega)];omega)]
   exact Xso hb g2 (by omega) hj hj2 (by omega)
 ·rw [if_neg (by omega),Xbd (by omega)]
  exact Xso hb g2 (by omega) hj hj2 (by omega)
end Go.Vm.Code
namespace Go.Vm.Code
open Go Go.Vm Go.Proofs
set_option maxRecDepth 100000
set_option maxHeartbeats 4000000
set_option linter.unusedVariables false
def Xlu (stamp:Int):Option Int:=
 some (wI .u16 stamp)
def rx59 (x:Int):Xc4:=⟨.int .u16 x,[],[]⟩
abbrev Xc0:=Int→Option Int
def r59 (g:Xc0):Dec:=dV (asI .u32) fun (y0:Int)=>XdY (ofG (g y0) rx59)
theorem r59_c {g:Xc0} {y0:Int} {x:Int} (hx:g y0=some x):r59 g [.int .u32 y0] []=some (rx59 x):=(Xbb (Xdo _)).trans (Xbc hx)
def s59 (g:Xc0):Xb3:=⟨[.v],r59 g⟩
theorem XAN {g:Xc0} {y0:Int} {x:Int} (hx:g y0=some x):(s59 g).run [.int .u32 y0] []=some (rx59 x):=r59_c hx
abbrev XRx:List (Nat×Xb3):=[]
theorem XJz (hS:Xar Tryz.prog (XaI (XRx))) (stamp:Int) (res:Int) (h:Xlu stamp=some res) :
 XaO Tryz.prog 59 0 ⟨⟨59,5,[(0,.int .u32 stamp)],[.code XNr],[],false,none⟩,[],[],0⟩ (fun v H _=>Res 0 (rx59 res) v H):=by
 unfold Xlu at h
 refine XbD XaQ hS true 3000 ?_
 conv=>whnf
 exact W
def Xb6:Xc0:=Xlu
theorem Xze:Xb8 Tryz.prog 59 (s59 Xb6):=by
 have hL:=XJz (Xar.Xa6 trivial)
 exact okA ⟨Tryz.f59,rfl,by decide,rfl⟩
end Go.Vm.Code
