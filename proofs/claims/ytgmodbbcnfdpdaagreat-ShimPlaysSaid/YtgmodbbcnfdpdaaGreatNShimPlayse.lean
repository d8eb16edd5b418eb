import Derived.Test.YtgmodbbcnfdpdaaGreatNShimPlaysd
namespace Go.Vm.Code
open Go Go.Vm Go.Proofs
set_option maxRecDepth 100000
set_option maxHeartbeats 4000000
set_option linter.unusedVariables false
def Xki (XaW:Xco) (Xbw:XcA) (XaX:Xb9) (Xaa:XaN) (Xaf:XaB) (s:List UInt8):Option (Xa1×(List UInt8)×Int):=
 cond (decide ((s.length:Int)<20))
  (
  some ((Xa1.mk 0 0 false 0 0 (Xae.mk false 0 0) (Xae.mk false 0 0) [],[],2)))
  (
  (XaX s).bind fun n=>
  (Xaa n 1).bind fun n1=>
  (Xaa n1.2 1).bind fun n2=>
  (Xaa n2.2 2).bind fun n3=>
  cond ((n1.1.fdiv (2^4)) !=4)
   (
   some ((Xa1.mk 0 0 false 0 0 (Xae.mk false 0 0) (Xae.mk false 0 0) [],[],3)))
   (
   let t:=decide ((wI .i64 ((XnF .i64 n1.1 15)*4))<20)
   cond (t)
    (
    some ((Xa1.mk 0 0 false 0 0 (Xae.mk false 0 0) (Xae.mk false 0 0) [],[],3)))
    (
    let t1:=decide (n3.1<(wI .i64 ((XnF .i64 n1.1 15)*4)))
    cond (t1)
     (
     some ((Xa1.mk 0 0 false 0 0 (Xae.mk false 0 0) (Xae.mk false 0 0) [],[],3)))
     (
     cond (decide (n3.1>(s.length:Int)))
      (
      some ((Xa1.mk 0 0 false 0 0 (Xae.mk false 0 0) (Xae.mk false 0 0) [],[],2)))
      (
      Xbr (decide ((0:Int)≤(wI .i64 ((XnF .i64 n1.1 15)*4))∧(wI .i64 ((XnF .i64 n1.1 15)*4))≤(s.length:Int))) <|
      let t2:=s.take (wI .i64 ((XnF .i64 n1.1 15)*4)).toNat
      (XaW t2).bind fun xr=>
      cond (!xr)
       (
       some ((Xa1.mk 0 0 false 0 0 (Xae.mk false 0 0) (Xae.mk false 0 0) [],[],4)))
       (
       (Xaa n3.2 2).bind fun n4=>
       (Xaa n4.2 2).bind fun n5=>
       cond ((XkN .i64 n5.1 16384) !=0)
        (
        some ((Xa1.mk 0 0 false 0 0 (Xae.mk false 0 0) (Xae.mk false 0 0) [],[],7)))
        (
        (Xaa n5.2 1).bind fun n6=>
        (Xaa n6.2 1).bind fun n7=>
        (Xaa n7.2 2).bind fun n8=>
        (Xbw (XdA.mk n8.2)).bind fun a=>
        (Xbw (XdA.mk a.2)).bind fun a1=>
        let t3:=wI .i64 ((wI .i64 ((XnF .i64 n1.1 15)*4)) - 20)
        (Xaf a1.2 t3).bind fun t4=>
        let t5:=wI .i64 (n3.1 - (wI .i64 ((XnF .i64 n1.1 15)*4)))
        (Xaf t4.2 t5).bind fun t6=>
        some ((Xa1.mk n2.1 n4.1 (n5.1 !=0) n6.1 n7.1 a.1 a1.1 t4.1,t6.1,0)))))))))
def XCM (x:Xa1×(List UInt8)×Int):Xc2:=⟨.tuple ⟨[.agg ⟨[.int .i64 x.1.Class,.int .i64 x.1.Mark,.bool x.1.Whole,.int .i64 x.1.TTL,.int .i64 x.1.Proto,.bool x.1.Src.V6,.int .u64 x.1.Src.Hi,.int .u64 x.1.Src.Lo,.bool x.1.Dst.V6,.int .u64 x.1.Dst.Hi,.int .u64 x.1.Dst.Lo,.string ⟨⟨x.1.Options⟩⟩]⟩,.string ⟨⟨x.2.1⟩⟩,.int .i64 x.2.2]⟩,[],[]⟩
abbrev Xfg:=(List UInt8)→Option (Xa1×(List UInt8)×Int)
def r129 (g:Xfg):Dec:=dV asS fun (y0:List UInt8)=>XdT (ofG (g y0) XCM)
theorem XRG {g:Xfg} {y0:List UInt8} {x:Xa1×(List UInt8)×Int} (hx:g y0=some x):r129 g [.string ⟨⟨y0⟩⟩] []=some (XCM x):=(Xbb (Xds)).trans (Xa7 hx)
def s129 (g:Xfg):XbS:=⟨[.v],r129 g⟩
theorem XLP {g:Xfg} {y0:List UInt8} {x:Xa1×(List UInt8)×Int} (hx:g y0=some x):(s129 g).run [.string ⟨⟨y0⟩⟩] []=some (XCM x):=XRG hx
abbrev XLU (XaW:Xco) (Xbw:XcA) (XaX:Xb9) (Xaa:XaN) (Xaf:XaB):List (Nat×XbS):=[(54,s54 XaW),(135,s135 Xbw),(51,s51 XaX),(52,s52 Xaa),(86,s86 Xaf)]
theorem XEs (XaW:Xco) (Xbw:XcA) (XaX:Xb9) (Xaa:XaN) (Xaf:XaB) (hS:Xaq Tryz.prog (XaL (XLU XaW Xbw XaX Xaa Xaf))) (s:List UInt8) (res:Xa1×(List UInt8)×Int) (h:Xki XaW Xbw XaX Xaa Xaf s=some res) :
 XaM Tryz.prog 129 0 ⟨⟨129,102,[(0,.string ⟨⟨s⟩⟩)],[.code XyE],[],false,none⟩,[],[],0⟩ (fun v H _=>Res 0 (XCM res) v H):=by
 unfold Xki at h
 have R1:=@XrI XaX
 have R2:=@Xls Xaa
 have R3:=@XwV XaW
 have R4:=@XLV Xbw
 have R5:=@XoN Xaf
 refine Xbp XaP hS true 3000 ?_
 conv=>whnf
 exact W
def XeM:Xfg:=Xki XaW Xbw XaX Xaa Xaf
theorem XIx:Xb8 Tryz.prog 129 (s129 XeM):=by
 have hL:=XEs XaW Xbw XaX Xaa Xaf (Xaq.XaY ⟨XvQ,XIg,XrG,XpP,XoS,trivial⟩)
 exact okA ⟨Tryz.f129,rfl,by decide,rfl⟩
def Xo1 (Xao:Xa9) (XcC:XdD) (XdW:Xfx) (s:List UInt8):Option (Xa1×(List UInt8)×Int):=
 cond (decide ((s.length:Int)<20))
  (
  some ((Xa1.mk 0 0 false 0 0 (Xae.mk false 0 0) (Xae.mk false 0 0) [],[],2)))
  (
  (s[0]?).bind fun (b:UInt8)=>
  let t:=wI .i64 (4*(wI .i64 ((b.toNat:Int).tmod 16)))
  (Xao s 2 2).bind fun m=>
  (s[0]?).bind fun (b1:UInt8)=>
  cond ((wI .u8 ((b1.toNat:Int).tdiv 16)) !=4)
   (
   some ((Xa1.mk 0 0 false 0 0 (Xae.mk false 0 0) (Xae.mk false 0 0) [],[],3)))
   (
   cond (decide (t<20))
    (
    some ((Xa1.mk 0 0 false 0 0 (Xae.mk false 0 0) (Xae.mk false 0 0) [],[],3)))
    (
    cond (decide (m<t))
     (
     some ((Xa1.mk 0 0 false 0 0 (Xae.mk false 0 0) (Xae.mk false 0 0) [],[],3)))
     (
     cond (decide ((s.length:Int)<m))
      (
      some ((Xa1.mk 0 0 false 0 0 (Xae.mk false 0 0) (Xae.mk false 0 0) [],[],2)))
      (
      Xbr (decide ((0:Int)≤t∧t≤(s.length:Int))) <|
      (XcC (s.take t.toNat)).bind fun s1=>
      cond (s1 !=65535)
       (
       some ((Xa1.mk 0 0 false 0 0 (Xae.mk false 0 0) (Xae.mk false 0 0) [],[],4)))
       (
       (s[6]?).bind fun (b2:UInt8)=>
       cond ((b2.toNat:Int) !=0)
        (
        (s[6]?).bind fun (b3:UInt8)=>
        cond ((b3.toNat:Int) !=64)
         (
         some ((Xa1.mk 0 0 false 0 0 (Xae.mk false 0 0) (Xae.mk false 0 0) [],[],7)))
         (
         (s[7]?).bind fun (b4:UInt8)=>
         cond ((b4.toNat:Int) !=0)
          (
          some ((Xa1.mk 0 0 false 0 0 (Xae.mk false 0 0) (Xae.mk false 0 0) [],[],7)))
          (
          Xbr (decide ((0:Int)≤(16:Int)∧(16:Int)≤(s.length:Int)∧(0:Int)≤(12:Int)∧(12:Int)≤(16:Int))) <|
          (XdW ((s.drop 12).take 4)).bind fun xg=>
          Xbr (decide ((0:Int)≤(20:Int)∧(20:Int)≤(s.length:Int)∧(0:Int)≤(16:Int)∧(16:Int)≤(20:Int))) <|
          (XdW ((s.drop 16).take 4)).bind fun xg1=>
          (s[1]?).bind fun (b5:UInt8)=>
          (Xao s 4 2).bind fun m1=>
          (s[6]?).bind fun (b6:UInt8)=>
          (s[8]?).bind fun (b7:UInt8)=>
          (s[9]?).bind fun (b8:UInt8)=>
          Xbr (decide ((0:Int)≤t∧t≤(s.length:Int)∧(0:Int)≤(20:Int)∧(20:Int)≤(t.toNat:Int))) <|
          Xbr (decide ((0:Int)≤m∧m≤(s.length:Int)∧(0:Int)≤t∧t≤(m.toNat:Int))) <|
          let t1:=(s.drop t.toNat).take (m.toNat - t.toNat)
          some ((Xa1.mk (wI .i64 (b5.toNat:Int)) m1 ((b6.toNat:Int)==64) (wI .i64 (b7.toNat:Int)) (wI .i64 (b8.toNat:Int)) xg.1 xg1.1 ((s.drop 20).take (t.toNat - 20)),t1,0)))))
        (
        (s[7]?).bind fun (b9:UInt8)=>
        cond ((b9.toNat:Int) !=0)
         (
         some ((Xa1.mk 0 0 false 0 0 (Xae.mk false 0 0) (Xae.mk false 0 0) [],[],7)))
         (
         Xbr (decide ((0:Int)≤(16:Int)∧(16:Int)≤(s.length:Int)∧(0:Int)≤(12:Int)∧(12:Int)≤(16:Int))) <|
         (XdW ((s.drop 12).take 4)).bind fun xg2=>
         Xbr (decide ((0:Int)≤(20:Int)∧(20:Int)≤(s.length:Int)∧(0:Int)≤(16:Int)∧(16:Int)≤(20:Int))) <|
         (XdW ((s.drop 16).take 4)).bind fun xg3=>
         (s[1]?).bind fun (b10:UInt8)=>
         (Xao s 4 2).bind fun m2=>
         (s[6]?).bind fun (b11:UInt8)=>
         (s[8]?).bind fun (b12:UInt8)=>
         (s[9]?).bind fun (b13:UInt8)=>
         Xbr (decide ((0:Int)≤t∧t≤(s.length:Int)∧(0:Int)≤(20:Int)∧(20:Int)≤(t.toNat:Int))) <|
         Xbr (decide ((0:Int)≤m∧m≤(s.length:Int)∧(0:Int)≤t∧t≤(m.toNat:Int))) <|
         let t2:=(s.drop t.toNat).take (m.toNat - t.toNat)
         some ((Xa1.mk (wI .i64 (b10.toNat:Int)) m2 ((b11.toNat:Int)==64) (wI .i64 (b12.toNat:Int)) (wI .i64 (b13.toNat:Int)) xg2.1 xg3.1 ((s.drop 20).take (t.toNat - 20)),t2,0))))))))))
def XEK (x:Xa1×(List UInt8)×Int):Xc2:=⟨.tuple ⟨[.agg ⟨[.int .i64 x.1.Class,.int .i64 x.1.Mark,.bool x.1.Whole,.int .i64 x.1.TTL,.int .i64 x.1.Proto,.bool x.1.Src.V6,.int .u64 x.1.Src.Hi,.int .u64 x.1.Src.Lo,.bool x.1.Dst.V6,.int .u64 x.1.Dst.Hi,.int .u64 x.1.Dst.Lo,.string ⟨⟨x.1.Options⟩⟩]⟩,.string ⟨⟨x.2.1⟩⟩,.int .i64 x.2.2]⟩,[],[]⟩
abbrev Xg8:=(List UInt8)→Option (Xa1×(List UInt8)×Int)
def r110 (g:Xg8):Dec:=dV asS fun (y0:List UInt8)=>XdT (ofG (g y0) XEK)
theorem XQp {g:Xg8} {y0:List UInt8} {x:Xa1×(List UInt8)×Int} (hx:g y0=some x):r110 g [.string ⟨⟨y0⟩⟩] []=some (XEK x):=(Xbb (Xds)).trans (Xa7 hx)
def s110 (g:Xg8):XbS:=⟨[.v],r110 g⟩
theorem XIE {g:Xg8} {y0:List UInt8} {x:Xa1×(List UInt8)×Int} (hx:g y0=some x):(s110 g).run [.string ⟨⟨y0⟩⟩] []=some (XEK x):=XQp hx
abbrev XJ6 (Xao:Xa9) (XcC:XdD) (XdW:Xfx):List (Nat×XbS):=[(62,s62 Xao),(60,s60 XcC),(127,s127 XdW)]
theorem XDn (Xao:Xa9) (XcC:XdD) (XdW:Xfx) (hS:Xaq Tryz.prog (XaL (XJ6 Xao XcC XdW))) (s:List UInt8) (res:Xa1×(List UInt8)×Int) (h:Xo1 Xao XcC XdW s=some res) :
 XaM Tryz.prog 110 0 ⟨⟨110,97,[(0,.string ⟨⟨s⟩⟩)],[.code XBl],[],false,none⟩,[],[],0⟩ (fun v H _=>Res 0 (XEK res) v H):=by
 unfold Xo1 at h
 have R1:=@Xi8 Xao
 have R2:=@Xwh XcC
 have R3:=@XAL XdW
 refine Xbp XaP hS true 3000 ?_
 conv=>whnf
 exact W
def XhW:Xg8:=Xo1 Xao XcC XdW
theorem XLN:Xb8 Tryz.prog 110 (s110 XhW):=by
 have hL:=XDn Xao XcC XdW (Xaq.XaY ⟨Xl6,Xv6,XAW,trivial⟩)
 exact okA ⟨Tryz.f110,rfl,by decide,rfl⟩
end Go.Vm.Code
namespace Go.Vm.Code
open Go Go.Vm
def XpU:Xa1:=⟨0,0,false,0,0,⟨false,0,0⟩,⟨false,0,0⟩,[]⟩
def XiD (s:List UInt8):Xa1×List UInt8×Int:=
 if s.length<20 then (XpU,[],2) else if vK s 0 1/16≠4 then (XpU,[],3) else if vK s 0 1%16*4<20 then (XpU,[],3) else if vK s 2 2<vK s 0 1%16*4 then (XpU,[],3) else if (s.length:Int)<vK s 2 2 then (XpU,[],2) else
  if norm (Xez (s.take (vK s 0 1%16*4).toNat))≠65535 then (XpU,[],4) else if vK s 6 2≠0∧vK s 6 2≠16384 then (XpU,[],7) else
   (⟨vK s 1 1,vK s 4 2,vK s 6 2 !=0,vK s 8 1,vK s 9 1,Xya s 12,Xya s 16,(s.drop 20).take ((vK s 0 1%16*4).toNat - 20)⟩,(s.drop (vK s 0 1%16*4).toNat).take ((vK s 2 2).toNat - (vK s 0 1%16*4).toNat),0)
theorem Xym (s:List UInt8) (p:Nat):vK ((s.drop p).take 4) 0 4=vK s p 4:=by unfold vK;simp [List.take_take]
theorem XPj {s:List UInt8} {p:Nat} (h:p+4≤s.length):Xbw ⟨⟨s.drop p,true,false⟩⟩=some (Xya s p,⟨s.drop (p+4),true,false⟩):=by
 unfold Xbw Xe0
 rw [show (4:Int)=((4:Nat):Int) from rfl,Xsg h,Option.bind_some,aget4 (by simp;omega),Option.bind_some,Xym];rfl
theorem g5_eq {s:List UInt8} (hs:s.length<2^38):XeM s=some (XiD s):=by
 unfold XeM Xki XiD
 by_cases h0:s.length<20
 ·rw [XaZ (by omega),if_pos h0];rfl
 rw [XaR (by omega),if_neg h0,Xmo,Option.bind_some]
 have N:∀ (p k:Nat),1≤k→k≤7→p+k≤20→Xaa ⟨s.drop p,true,false⟩ (k:Int)=some (vK s p k,⟨s.drop (p+k),true,false⟩):=fun p k a b c=>XHD a b (by omega) (by omega)
 have N0:Xaa ⟨s,true,false⟩ 1=some (vK s 0 1,⟨s.drop 1,true,false⟩):=N 0 1 (by omega) (by omega) (by omega)
 have N1:Xaa ⟨s.drop 1,true,false⟩ 1=some (vK s 1 1,⟨s.drop 2,true,false⟩):=N 1 1 (by omega) (by omega) (by omega)
 have N2:Xaa ⟨s.drop 2,true,false⟩ 2=some (vK s 2 2,⟨s.drop 4,true,false⟩):=N 2 2 (by omega) (by omega) (by omega)
 have N4:Xaa ⟨s.drop 4,true,false⟩ 2=some (vK s 4 2,⟨s.drop 6,true,false⟩):=N 4 2 (by omega) (by omega) (by omega)
 have N6:Xaa ⟨s.drop 6,true,false⟩ 2=some (vK s 6 2,⟨s.drop 8,true,false⟩):=N 6 2 (by omega) (by omega) (by omega)
 have N8:Xaa ⟨s.drop 8,true,false⟩ 1=some (vK s 8 1,⟨s.drop 9,true,false⟩):=N 8 1 (by omega) (by omega) (by omega)
 have N9:Xaa ⟨s.drop 9,true,false⟩ 1=some (vK s 9 1,⟨s.drop 10,true,false⟩):=N 9 1 (by omega) (by omega) (by omega)
 have N10:Xaa ⟨s.drop 10,true,false⟩ 2=some (vK s 10 2,⟨s.drop 12,true,false⟩):=N 10 2 (by omega) (by omega) (by omega)
 rw [N0,Option.bind_some,N1,Option.bind_some,N2,Option.bind_some]
 simp only []
 rw [N4]
 simp only [Option.bind_some]
 rw [N6,XtY,show ((2:Int)^4)=16 from rfl]
 have r0:=Xfz s 0 1 256 (by decide)
 have r2:=Xfz s 2 2 65536 (by decide)
 have ea:XnF .i64 (vK s 0 1) 15=vK s 0 1%16:=Xi7 4 rfl (by omega) (by omega) (by omega)
 rw [ea,Xdb (n:=vK s 0 1%16*4) (by omega) (by omega)]
 have hz:(⟨0,0,false,0,0,⟨false,0,0⟩,⟨false,0,0⟩,[]⟩:Xa1)=XpU:=rfl
 rw [hz]
 by_cases g1:vK s 0 1/16=4
 ·rw [show (vK s 0 1/16 !=4)=false by simpa using g1,cond_false,if_neg (by simpa using g1)]
  obtain ⟨t,ht⟩:=Int.eq_ofNat_of_zero_le (show 0≤vK s 0 1%16*4 by omega)
  rw [ht]
  simp only [Option.bind_some,Int.toNat_natCast]
  by_cases g2:(t:Int)<20
  ·rw [XaZ g2,if_pos g2]
  rw [XaR g2,if_neg g2]
  by_cases g3:vK s 2 2<t
  ·rw [XaZ g3,if_pos g3]
  rw [XaR g3,if_neg g3]
  by_cases g4:(s.length:Int)<vK s 2 2
  ·rw [XaZ (by omega),if_pos g4]
  rw [XaR (by omega),if_neg g4,XaH (by omega),Xpo (by simp;omega),Option.bind_some]
  by_cases g5:norm (Xez (s.take t))=65535
  ·rw [if_neg (by simpa using g5),g5]
   simp only [show ((((65535:Nat):Int)==65535))=true from rfl,Bool.not_true,cond_false]
   have e6:=Xzj (s:=s) (p:=6) (by omega)
   rw [show (XkN .i64 (vK s 6 2) 16384 !=0)=decide (vK s 6 2≠0∧vK s 6 2≠16384) by rw [e6];exact XBb,XDT]
   split
   ·rfl
   obtain ⟨m,hm⟩:=Int.eq_ofNat_of_zero_le r2.1
   rw [N8,Option.bind_some,N9,Option.bind_some,N10,Option.bind_some,XPj (by omega),Option.bind_some,XPj (by omega),Option.bind_some,Xdb (n:=(t:Int) - 20) (by omega) (by omega),hm,Xdb (n:=(m:Int) - t) (by omega) (by omega)]
   simp only []
   rw [show (t:Int) - 20=((t - 20:Nat):Int) by omega,show (m:Int) - t=((m - t:Nat):Int) by omega,Xsg (by omega),Option.bind_some]
   simp only []
   rw [Xsg (by omega),Option.bind_some,show 12+4+4+(t - 20)=t by omega,Int.toNat_natCast]
  ·rw [if_pos (by simpa using g5),show ((((norm (Xez (s.take t)):Nat):Int)==65535))=false by simp;omega];rfl
 ·rw [show (vK s 0 1/16 !=4)=true by simpa using g1,cond_true,if_pos (by simpa using g1)]
theorem XOP {s:List UInt8} (hs:s.length<2^38):XhW s=some (XiD s):=by
 unfold XhW Xo1 XiD
 by_cases h0:s.length<20
 ·rw [XaZ (by omega),if_pos h0];rfl
 rw [XaR (by omega),if_neg h0]
 have G:∀ i:Nat,(h:i<20)→s[i]?=some (s[i]'(by omega)):=fun i h=>List.getElem?_eq_getElem (by omega)
 have M:∀ (p k:Nat),1≤k→k≤7→p+k≤20→Xao s (p:Int) (k:Int)=some (vK s p k):=fun p k a b c=>Xsy (by omega) a b (by omega)
 have M2:Xao s 2 2=some (vK s 2 2):=M 2 2 (by omega) (by omega) (by omega)
 have M4:Xao s 4 2=some (vK s 4 2):=M 4 2 (by omega) (by omega) (by omega)
 rw [G 0 (by omega),G 1 (by omega),G 6 (by omega),G 7 (by omega),G 8 (by omega),G 9 (by omega),M2,M4]
 have e0:=Xk9 (s:=s) (p:=0) (by omega)
 have e1:=Xk9 (s:=s) (p:=1) (by omega)
 have e8:=Xk9 (s:=s) (p:=8) (by omega)
 have e9:=Xk9 (s:=s) (p:=9) (by omega)
 have e6:vK s 6 2=(s[6].toNat*256+s[7].toNat:Int):=Xzj (s:=s) (p:=6) (by omega)
 have r0:=Xfz s 0 1 256 (by decide)
 have r1:=Xfz s 1 1 256 (by decide)
 have r8:=Xfz s 8 1 256 (by decide)
 have r9:=Xfz s 9 1 256 (by decide)
 have r2:=Xfz s 2 2 65536 (by decide)
 simp only [Option.bind_some]
 rw [←e0,←e1,←e8,←e9,Int.tmod_eq_emod_of_nonneg r0.1,Int.tdiv_eq_ediv_of_nonneg r0.1,Xdb (n:=vK s 0 1%16) (by omega) (by omega),Xdb (n:=4*(vK s 0 1%16)) (by omega) (by omega),wU8 (n:=vK s 0 1/16) (by omega) (by omega),Xdb (n:=vK s 1 1) (by omega) (by omega),Xdb (n:=vK s 8 1) (by omega) (by omega),Xdb (n:=vK s 9 1) (by omega) (by omega)]
 have hz:(⟨0,0,false,0,0,⟨false,0,0⟩,⟨false,0,0⟩,[]⟩:Xa1)=XpU:=rfl
 rw [hz,Int.mul_comm 4]
 by_cases g1:vK s 0 1/16=4
 ·rw [show (vK s 0 1/16 !=4)=false by simpa using g1,cond_false,if_neg (by simpa using g1)]
  obtain ⟨t,ht⟩:=Int.eq_ofNat_of_zero_le (show 0≤vK s 0 1%16*4 by omega)
  rw [ht]
  simp only [Int.toNat_natCast]
  by_cases g2:(t:Int)<20
  ·rw [XaZ g2,if_pos g2]
  rw [XaR g2,if_neg g2]
  by_cases g3:vK s 2 2<t
  ·rw [XaZ g3,if_pos g3]
  rw [XaR g3,if_neg g3]
  by_cases g4:(s.length:Int)<vK s 2 2
  ·rw [XaZ (by omega),if_pos g4]
  rw [XaR (by omega),if_neg g4,XaH (by omega),XlI (by simp;omega),Option.bind_some]
  by_cases g5:norm (Xez (s.take t))=65535
  ·rw [if_neg (by simpa using g5),g5]
   simp only [show ((((65535:Nat):Int) !=65535))=false from rfl,cond_false]
   have a1:=XHt (s:=(s.drop 12).take 4) (by simp;omega)
   have a2:=XHt (s:=(s.drop 16).take 4) (by simp;omega)
   rw [a1,a2,Xym,Xym]
   obtain ⟨m,hm⟩:=Int.eq_ofNat_of_zero_le r2.1
   rw [hm]
   simp only [Option.bind_some,Int.toNat_natCast]
   rw [XaH (p:=(0:Int)≤16∧(16:Int)≤(s.length:Int)∧(0:Int)≤12∧(12:Int)≤16) (by omega),XaH (p:=(0:Int)≤20∧(20:Int)≤(s.length:Int)∧(0:Int)≤16∧(16:Int)≤20) (by omega),XaH (p:=(0:Int)≤(t:Int)∧(t:Int)≤(s.length:Int)∧(0:Int)≤20∧(20:Int)≤(t:Int)) (by omega),XaH (p:=(0:Int)≤(m:Int)∧(m:Int)≤(s.length:Int)∧(0:Int)≤(t:Int)∧(t:Int)≤(m:Int)) (by omega)]
   have b6:=s[6].toNat_lt
   have b7:=s[7].toNat_lt
   by_cases k6:(s[6].toNat:Int)=0
   ·rw [show ((s[6].toNat:Int) !=0)=false by simpa using k6,cond_false]
    by_cases k7:(s[7].toNat:Int)=0
    ·rw [show ((s[7].toNat:Int) !=0)=false by simpa using k7,cond_false,if_neg (by rw [e6];omega),show (vK s 6 2 !=0)=false by rw [e6,k6,k7];rfl,k6];rfl
    ·rw [show ((s[7].toNat:Int) !=0)=true by simpa using k7,cond_true,if_pos (by rw [e6];omega)]
   ·rw [show ((s[6].toNat:Int) !=0)=true by simpa using k6,cond_true]
    by_cases k8:(s[6].toNat:Int)=64
    ·rw [show ((s[6].toNat:Int) !=64)=false by rw [k8];rfl,cond_false]
     by_cases k7:(s[7].toNat:Int)=0
     ·rw [show ((s[7].toNat:Int) !=0)=false by simpa using k7,cond_false,if_neg (by rw [e6];omega),show (vK s 6 2 !=0)=true by rw [e6,k8,k7];rfl,k8];rfl
     ·rw [show ((s[7].toNat:Int) !=0)=true by simpa using k7,cond_true,if_pos (by rw [e6];omega)]
    ·rw [show ((s[6].toNat:Int) !=64)=true by simpa using k8,cond_true,if_pos (by rw [e6];omega)]
  ·rw [if_pos (by simpa using g5),show ((((norm (Xez (s.take t)):Nat):Int) !=65535))=true by simp;omega];rfl
 ·rw [show (vK s 0 1/16 !=4)=true by simpa using g1,cond_true,if_pos (by simpa using g1)]
end Go.Vm.Code
namespace Go.Vm.Code
open Go Go.Vm Go.Proofs
set_option maxRecDepth 100000
set_option maxHeartbeats 4000000
set_option linter.unusedVariables false
def XlM (Xdq:XeR) (XaX:Xb9) (Xap:XaT) (Xaa:XaN) (Xaf:XaB) (s:List UInt8):Option (Xb5×(List UInt8)×Int):=
 (XaX s).bind fun n=>
 (Xaa n 4).bind fun n1=>
 (Xaa n1.2 2).bind fun n2=>
 (Xaa n2.2 1).bind fun n3=>
 (Xaa n3.2 1).bind fun n4=>
 (Xaf n4.2 16).bind fun t=>
 (Xaf t.2 16).bind fun t1=>
 (Xap t1.2).bind fun b=>
 cond (b.1)
  (
  some ((Xb5.mk 0 0 0 0 (Xae.mk false 0 0) (Xae.mk false 0 0),[],2)))
  (
  cond ((n1.1.fdiv (2^28)) !=6)
   (
   some ((Xb5.mk 0 0 0 0 (Xae.mk false 0 0) (Xae.mk false 0 0),[],3)))
   (
   (Xdq t.1).bind fun xg=>
   (Xdq t1.1).bind fun xg1=>
   (Xaf b.2 n2.1).bind fun t2=>
   (Xap t2.2).bind fun b1=>
   cond (b1.1)
    (
    some ((Xb5.mk 0 0 0 0 (Xae.mk false 0 0) (Xae.mk false 0 0),[],2)))
    (
    some ((Xb5.mk (XnF .i64 (n1.1.fdiv (2^20)) 255) (XnF .i64 n1.1 1048575) n3.1 n4.1 xg.1 xg1.1,t2.1,0)))))
def XFd (x:Xb5×(List UInt8)×Int):Xc2:=⟨.tuple ⟨[.agg ⟨[.int .i64 x.1.Class,.int .i64 x.1.Label,.int .i64 x.1.Next,.int .i64 x.1.Hop,.bool x.1.Src.V6,.int .u64 x.1.Src.Hi,.int .u64 x.1.Src.Lo,.bool x.1.Dst.V6,.int .u64 x.1.Dst.Hi,.int .u64 x.1.Dst.Lo]⟩,.string ⟨⟨x.2.1⟩⟩,.int .i64 x.2.2]⟩,[],[]⟩
abbrev XfH:=(List UInt8)→Option (Xb5×(List UInt8)×Int)
def r130 (g:XfH):Dec:=dV asS fun (y0:List UInt8)=>XdT (ofG (g y0) XFd)
theorem XNU {g:XfH} {y0:List UInt8} {x:Xb5×(List UInt8)×Int} (hx:g y0=some x):r130 g [.string ⟨⟨y0⟩⟩] []=some (XFd x):=(Xbb (Xds)).trans (Xa7 hx)
def s130 (g:XfH):XbS:=⟨[.v],r130 g⟩
theorem XLz {g:XfH} {y0:List UInt8} {x:Xb5×(List UInt8)×Int} (hx:g y0=some x):(s130 g).run [.string ⟨⟨y0⟩⟩] []=some (XFd x):=XNU hx
abbrev XKT (Xdq:XeR) (XaX:Xb9) (Xap:XaT) (Xaa:XaN) (Xaf:XaB):List (Nat×XbS):=[(136,s136 Xdq),(51,s51 XaX),(95,s95 Xap),(52,s52 Xaa),(86,s86 Xaf)]
theorem XCc (Xdq:XeR) (XaX:Xb9) (Xap:XaT) (Xaa:XaN) (Xaf:XaB) (hS:Xaq Tryz.prog (XaL (XKT Xdq XaX Xap Xaa Xaf))) (s:List UInt8) (res:Xb5×(List UInt8)×Int) (h:XlM Xdq XaX Xap Xaa Xaf s=some res) :
 XaM Tryz.prog 130 0 ⟨⟨130,59,[(0,.string ⟨⟨s⟩⟩)],[.code XzG],[],false,none⟩,[],[],0⟩ (fun v H _=>Res 0 (XFd res) v H):=by
 unfold XlM at h
 have R1:=@XrI XaX
 have R2:=@Xls Xaa
 have R3:=@XoN Xaf
 have R4:=@Xqd Xap
 have R5:=@Xy4 Xdq
 refine Xbp XaP hS true 3000 ?_
 conv=>whnf
 exact W
def XfB:XfH:=XlM Xdq XaX Xap Xaa Xaf
theorem XLi:Xb8 Tryz.prog 130 (s130 XfB):=by
 have hL:=XCc Xdq XaX Xap Xaa Xaf (Xaq.XaY ⟨XzK,XrG,Xrw,XpP,XoS,trivial⟩)
 exact okA ⟨Tryz.f130,rfl,by decide,rfl⟩
def Xpl (Xao:Xa9) (XdW:Xfx) (s:List UInt8):Option (Xb5×(List UInt8)×Int):=
 cond (decide ((s.length:Int)<40))
  (
  some ((Xb5.mk 0 0 0 0 (Xae.mk false 0 0) (Xae.mk false 0 0),[],2)))
  (
  (Xao s 0 4).bind fun m=>
  (Xao s 4 2).bind fun m1=>
  cond ((wI .i64 (m.tdiv 268435456)) !=6)
   (
   some ((Xb5.mk 0 0 0 0 (Xae.mk false 0 0) (Xae.mk false 0 0),[],3)))
   (
   let t:=decide ((wI .i64 ((s.length:Int) - 40))<m1)
   cond (t)
    (
    some ((Xb5.mk 0 0 0 0 (Xae.mk false 0 0) (Xae.mk false 0 0),[],2)))
    (
    Xbr (decide ((0:Int)≤(24:Int)∧(24:Int)≤(s.length:Int)∧(0:Int)≤(8:Int)∧(8:Int)≤(24:Int))) <|
    (XdW ((s.drop 8).take 16)).bind fun xg=>
    Xbr (decide ((0:Int)≤(40:Int)∧(40:Int)≤(s.length:Int)∧(0:Int)≤(24:Int)∧(24:Int)≤(40:Int))) <|
    (XdW ((s.drop 24).take 16)).bind fun xg1=>
    (s[6]?).bind fun (b:UInt8)=>
    (s[7]?).bind fun (b1:UInt8)=>
    Xbr (decide ((0:Int)≤(wI .i64 (40+m1))∧(wI .i64 (40+m1))≤(s.length:Int)∧(0:Int)≤(40:Int)∧(40:Int)≤((wI .i64 (40+m1)).toNat:Int))) <|
    let t1:=(s.drop 40).take ((wI .i64 (40+m1)).toNat - 40)
    some ((Xb5.mk ((wI .i64 (m.tdiv 1048576)).tmod 256) (m.tmod 1048576) (wI .i64 (b.toNat:Int)) (wI .i64 (b1.toNat:Int)) xg.1 xg1.1,t1,0)))))
def XCd (x:Xb5×(List UInt8)×Int):Xc2:=⟨.tuple ⟨[.agg ⟨[.int .i64 x.1.Class,.int .i64 x.1.Label,.int .i64 x.1.Next,.int .i64 x.1.Hop,.bool x.1.Src.V6,.int .u64 x.1.Src.Hi,.int .u64 x.1.Src.Lo,.bool x.1.Dst.V6,.int .u64 x.1.Dst.Hi,.int .u64 x.1.Dst.Lo]⟩,.string ⟨⟨x.2.1⟩⟩,.int .i64 x.2.2]⟩,[],[]⟩
abbrev Xhm:=(List UInt8)→Option (Xb5×(List UInt8)×Int)
def r111 (g:Xhm):Dec:=dV asS fun (y0:List UInt8)=>XdT (ofG (g y0) XCd)
theorem XPg {g:Xhm} {y0:List UInt8} {x:Xb5×(List UInt8)×Int} (hx:g y0=some x):r111 g [.string ⟨⟨y0⟩⟩] []=some (XCd x):=(Xbb (Xds)).trans (Xa7 hx)
def s111 (g:Xhm):XbS:=⟨[.v],r111 g⟩
theorem XKr {g:Xhm} {y0:List UInt8} {x:Xb5×(List UInt8)×Int} (hx:g y0=some x):(s111 g).run [.string ⟨⟨y0⟩⟩] []=some (XCd x):=XPg hx
abbrev XM5 (Xao:Xa9) (XdW:Xfx):List (Nat×XbS):=[(62,s62 Xao),(127,s127 XdW)]
theorem XEy (Xao:Xa9) (XdW:Xfx) (hS:Xaq Tryz.prog (XaL (XM5 Xao XdW))) (s:List UInt8) (res:Xb5×(List UInt8)×Int) (h:Xpl Xao XdW s=some res) :
 XaM Tryz.prog 111 0 ⟨⟨111,59,[(0,.string ⟨⟨s⟩⟩)],[.code XAt],[],false,none⟩,[],[],0⟩ (fun v H _=>Res 0 (XCd res) v H):=by
 unfold Xpl at h
 have R1:=@Xi8 Xao
 have R2:=@XAL XdW
 refine Xbp XaP hS true 3000 ?_
 conv=>whnf
 exact W
def Xh3:Xhm:=Xpl Xao XdW
theorem XKn:Xb8 Tryz.prog 111 (s111 Xh3):=by
 have hL:=XEy Xao XdW (Xaq.XaY ⟨Xl6,XAW,trivial⟩)
 exact okA ⟨Tryz.f111,rfl,by decide,rfl⟩
end Go.Vm.Code
namespace Go.Vm.Code
open Go Go.Vm
def zero6:Xb5:=⟨0,0,0,0,⟨false,0,0⟩,⟨false,0,0⟩⟩
def XtS (s:List UInt8):Xb5:=
 let m:=Xed (s.take 4)
 ⟨((m/2^20%256:Nat):Int),((m%2^20:Nat):Int),((Xed ((s.drop 6).take 1):Nat):Int),((Xed ((s.drop 7).take 1):Nat):Int),XxH ((s.drop 8).take 16),XxH ((s.drop 24).take 16)⟩
def Xj1 (s:List UInt8):Xb5×List UInt8×Int:=
 if s.length<40 then (zero6,[],2) else if Xed (s.take 4)/2^28≠6 then (zero6,[],3) else if s.length - 40<Xed ((s.drop 4).take 2) then (zero6,[],2) else
  (XtS s,(s.drop 40).take (Xed ((s.drop 4).take 2)),0)
theorem XIj {s:List UInt8} (h:s.length<2^60):XfB s=some (Xj1 s):=by
 unfold XfB XlM
 rw [Xmo,Option.bind_some]
 by_cases hs:s.length<40
 ·have e:Xj1 s=(zero6,[],2):=by unfold Xj1;rw [if_pos hs]
  rw [Xd6 rfl (by simp only [];omega),Option.bind_some]
  simp only []
  have b1:∀ (r:Xam) (k:Int),(rdr r k).s.length≤r.s.length:=by intro r k;unfold rdr;split<;>simp
  have l1:=b1 ⟨s,true,false⟩ (if (4:Int)<1∨(4:Int)>7 then -1 else 4)
  simp only at l1
  generalize hr1:rdr ⟨s,true,false⟩ (if (4:Int)<1∨(4:Int)>7 then -1 else 4)=r1 at *
  have m1:r1.made=true:=by rw [←hr1];exact Xfc _ _
  rw [Xd6 m1 (by omega),Option.bind_some]
  simp only []
  have l2:=b1 r1 (if (2:Int)<1∨(2:Int)>7 then -1 else 2)
  generalize hr2:rdr r1 (if (2:Int)<1∨(2:Int)>7 then -1 else 2)=r2 at *
  have m2:r2.made=true:=by rw [←hr2];exact Xfc _ _
  rw [Xd6 m2 (by omega),Option.bind_some]
  simp only []
  have l3:=b1 r2 (if (1:Int)<1∨(1:Int)>7 then -1 else 1)
  generalize hr3:rdr r2 (if (1:Int)<1∨(1:Int)>7 then -1 else 1)=r3 at *
  have m3:r3.made=true:=by rw [←hr3];exact Xfc _ _
  rw [Xd6 m3 (by omega),Option.bind_some]
  simp only []
  have l4:=b1 r3 (if (1:Int)<1∨(1:Int)>7 then -1 else 1)
  generalize hr4:rdr r3 (if (1:Int)<1∨(1:Int)>7 then -1 else 1)=r4 at *
  have m4:r4.made=true:=by rw [←hr4];exact Xfc _ _
  rw [Xgn m4,Option.bind_some]
  simp only []
  generalize hr5:rdr r4 16=r5 at *
  have m5:r5.made=true:=by rw [←hr5];exact Xfc _ _
  rw [Xgn m5,Option.bind_some]
  simp only []
  generalize hr6:rdr r5 16=r6 at *
  have m6:r6.made=true:=by rw [←hr6];exact Xfc _ _
  rw [XfW m6,Option.bind_some]
  have hb:r6.bad=true:=by
   cases hb:r6.bad with
   | true=>rfl
   | false=>
     exfalso
     obtain ⟨a5,n6⟩:=Xip hr6 hb
     obtain ⟨a4,n5⟩:=Xip hr5 a5
     obtain ⟨a3,n4⟩:=Xip hr4 a4
     obtain ⟨a2,n3⟩:=Xip hr3 a3
     obtain ⟨a1,n2⟩:=Xip hr2 a2
     obtain ⟨a0,n1⟩:=Xip hr1 a1
     rw [show (if (4:Int)<1∨(4:Int)>7 then -1 else 4:Int)=4 by decide] at n1
     simp only at n1
     omega
  simp only [hb,cond_true]
  rw [e];rfl
 ·have i4:(if (4:Int)<1∨(4:Int)>7 then -1 else 4:Int)=4:=by decide
  have i2:(if (2:Int)<1∨(2:Int)>7 then -1 else 2:Int)=2:=by decide
  have i1:(if (1:Int)<1∨(1:Int)>7 then -1 else 1:Int)=1:=by decide
  have t4:(4:Int).toNat=4:=rfl
  have t2:(2:Int).toNat=2:=rfl
  have t1:(1:Int).toNat=1:=rfl
  have t16:(16:Int).toNat=16:=rfl
  rw [Xd6 rfl (by simp only [];omega),Option.bind_some]
  simp only [rdn,i4]
  rw [XgI (by omega) (by omega),XgE (by omega) (by omega),t4]
  rw [Xd6 rfl (by simp;omega),Option.bind_some]
  simp only [rdn,i2]
  rw [XgI (by omega) (by simp;omega),XgE (by omega) (by simp;omega),t2,List.drop_drop]
  rw [Xd6 rfl (by simp;omega),Option.bind_some]
  simp only [rdn,i1]
  rw [XgI (by omega) (by simp;omega),XgE (by omega) (by simp;omega),t1,List.drop_drop]
  rw [Xd6 rfl (by simp;omega),Option.bind_some]
  simp only [rdn,i1]
  rw [XgI (by omega) (by simp;omega),XgE (by omega) (by simp;omega),t1,List.drop_drop]
  rw [Xgn rfl,Option.bind_some]
  simp only []
  rw [XgI (by omega) (by simp;omega),XgE (by omega) (by simp;omega),t16,List.drop_drop]
  rw [Xgn rfl,Option.bind_some]
  simp only []
  rw [XgI (by omega) (by simp;omega),XgE (by omega) (by simp;omega),t16,List.drop_drop]
  rw [XfW rfl,Option.bind_some]
  simp only [cond_false,Nat.reduceAdd]
  have v4:Xed (s.take 4)<2^32:=Xdk _ (by decide)
  have v2:Xed ((s.drop 4).take 2)<2^16:=Xdk _ (by decide)
  unfold Xj1
  rw [if_neg hs]
  have e1:((((Xed (s.take 4):Nat):Int).fdiv (2^28)) !=6)=decide (Xed (s.take 4)/2^28≠6):=by
   rw [XtY,Bool.eq_iff_iff,bne_iff_ne,decide_eq_true_eq];omega
  rw [e1]
  by_cases h6:Xed (s.take 4)/2^28≠6
  ·rw [XaZ h6,if_pos h6];rfl
  rw [XaR h6,if_neg h6]
  rw [XrA (by simp;omega),XrA (by simp;omega)]
  simp only [Option.bind_some]
  rw [Xgn rfl,Option.bind_some]
  by_cases hn:s.length - 40<Xed ((s.drop 4).take 2)
  ·rw [XfW (Xfc _ _),Option.bind_some]
   have hb:(rdr ⟨s.drop 40,true,false⟩ ((Xed ((s.drop 4).take 2):Nat):Int)).bad=true:=by
    cases hb:(rdr ⟨s.drop 40,true,false⟩ ((Xed ((s.drop 4).take 2):Nat):Int)).bad with
    | true=>rfl
    | false=>
      exfalso
      obtain ⟨_,_,c⟩:=XuH.1 hb
      simp at c;omega
   simp only [hb,cond_true]
   rw [if_pos hn];rfl
  ·rw [XgI (by omega) (by simp;omega),XgE (by omega) (by simp;omega),XfW rfl,Option.bind_some]
   simp only [cond_false,Int.toNat_natCast]
   rw [if_neg hn]
   unfold XtS
   simp only []
   have e2:XnF .i64 ((((Xed (s.take 4):Nat):Int)).fdiv (2^20)) 255=((Xed (s.take 4)/2^20%256:Nat):Int):=by
    rw [XtY,Xi7 (m:=255) 8 (by decide) (by decide) (by omega) (by omega)];omega
   have e3:XnF .i64 ((Xed (s.take 4):Nat):Int) 1048575=((Xed (s.take 4)%2^20:Nat):Int):=by
    rw [Xi7 (m:=1048575) 20 (by decide) (by decide) (by omega) (by omega)];omega
   rw [e2,e3]
theorem XC5 {s:List UInt8} (h:s.length<2^60):Xh3 s=some (Xj1 s):=by
 unfold Xh3 Xpl Xj1
 by_cases hs:s.length<40
 ·rw [XaZ (by omega),if_pos hs];rfl
 rw [XaR (by omega),if_neg hs]
 have v4:Xed (s.take 4)<2^32:=Xdk _ (by decide)
 have v2:Xed ((s.drop 4).take 2)<2^16:=Xdk _ (by decide)
 rw [Xev (by omega),Xev (by omega),XfZ (p:=0) (k:=4) (by omega) (by omega) (by omega) (by omega),XfZ (p:=4) (k:=2) (by omega) (by omega) (by omega) (by omega)]
 simp only [Option.bind_some,show (0:Int).toNat=0 from rfl,show (4:Int).toNat=4 from rfl,show (2:Int).toNat=2 from rfl,List.drop_zero]
 rw [Xdb (n:=((Xed (s.take 4):Nat):Int)) (by omega) (by omega),Xdb (n:=((Xed ((s.drop 4).take 2):Nat):Int)) (by omega) (by omega)]
 have e1:((wI .i64 ((((Xed (s.take 4):Nat):Int)).tdiv 268435456)) !=6)=decide (Xed (s.take 4)/2^28≠6):=by
  rw [Int.tdiv_eq_ediv_of_nonneg (by omega),Xdb (by omega) (by omega),Bool.eq_iff_iff,bne_iff_ne,decide_eq_true_eq];omega
 rw [e1]
 by_cases h6:Xed (s.take 4)/2^28≠6
 ·rw [XaZ h6,if_pos h6];rfl
 rw [XaR h6,if_neg h6,Xdb (n:=(s.length:Int) - 40) (by omega) (by omega)]
 by_cases hn:s.length - 40<Xed ((s.drop 4).take 2)
 ·rw [XaZ (by omega),if_pos hn];rfl
 rw [XaR (by omega),if_neg hn,XaH (by omega),Xs4 (by simp;omega),Option.bind_some,XaH (by omega),Xs4 (by simp;omega),Option.bind_some,List.getElem?_eq_getElem (by omega:6<s.length),Option.bind_some,
  List.getElem?_eq_getElem (by omega:7<s.length),Option.bind_some,Xdb (n:=40+((Xed ((s.drop 4).take 2):Nat):Int)) (by omega) (by omega),XaH (by omega)]
 have b6:=s[6].toNat_lt
 have b7:=s[7].toNat_lt
 have e6:(s.drop 6).take 1=[s[6]]:=by rw [List.drop_eq_getElem_cons (by omega:6<s.length)];rfl
 have e7:(s.drop 7).take 1=[s[7]]:=by rw [List.drop_eq_getElem_cons (by omega:7<s.length)];rfl
 have e8:(40+((Xed ((s.drop 4).take 2):Nat):Int)).toNat - 40=Xed ((s.drop 4).take 2):=by omega
 unfold XtS
 simp only [e6,e7,e8,Xgs,XLX]
 rw [Int.tdiv_eq_ediv_of_nonneg (by omega),Xdb (n:=((Xed (s.take 4):Nat):Int)/1048576) (by omega) (by omega),Int.tmod_eq_emod_of_nonneg (by omega),Int.tmod_eq_emod_of_nonneg (by omega),Xdb (n:=(s[6].toNat:Int)) (by omega) (by omega),Xdb (n:=(s[7].toNat:Int)) (by omega) (by omega)]
 simp
end Go.Vm.Code
namespace Go.Vm.Code
open Go Go.Vm Go.Proofs
set_option maxRecDepth 100000
set_option maxHeartbeats 4000000
set_option linter.unusedVariables false
def Xhn (Xax:XbI) (text:List UInt8) (i:Int):Option (Sum Int (Int×Int×Int)):=
 cond (decide (i<(text.length:Int)))
  (
  Xbr (decide (0≤i)) <|
  (text[i.toNat]?).bind fun (b:UInt8)=>
  cond ((b.toNat:Int)==0)
   (
   some (.inr ((0,0,(-1)))))
   (
   cond ((b.toNat:Int)==1)
    (
    some (.inl (wI .i64 (i+1))))
    (
    let t:=decide ((wI .i64 (i+1))<(text.length:Int))
    cond (t)
     (
     Xbr (decide (0≤(wI .i64 (i+1)))) <|
     (text[(wI .i64 (i+1)).toNat]?).bind fun (b1:UInt8)=>
     cond (decide ((wI .i64 (b1.toNat:Int))<2))
      (
      some (.inr ((0,0,(-1)))))
      (
      let t1:=decide ((wI .i64 (b1.toNat:Int))>(wI .i64 ((text.length:Int) - i)))
      cond (t1)
       (
       some (.inr ((0,0,(-1)))))
       (
       Xbr (decide (0≤i)) <|
       (text[i.toNat]?).bind fun (b2:UInt8)=>
       Xbr (decide ((0:Int)≤(wI .i64 (i+(wI .i64 (b1.toNat:Int))))∧(wI .i64 (i+(wI .i64 (b1.toNat:Int))))≤(text.length:Int)∧(0:Int)≤(wI .i64 (i+2))∧(wI .i64 (i+2))≤((wI .i64 (i+(wI .i64 (b1.toNat:Int)))).toNat:Int))) <|
       let t2:=(text.drop (wI .i64 (i+2)).toNat).take ((wI .i64 (i+(wI .i64 (b1.toNat:Int)))).toNat - (wI .i64 (i+2)).toNat)
       cond ((wI .i64 (b2.toNat:Int)) !=8)
        (
        some (.inl (wI .i64 (i+(wI .i64 (b1.toNat:Int))))))
        (
        (Xax t2 0 8).bind fun xg=>
        cond (xg.2)
         (
         cond ((t2.length:Int)==8)
          (
          some (.inr ((wI .u32 (xg.1.fdiv (2^32)),wI .u32 xg.1,wI .i64 (i+2)))))
          (
          some (.inr ((0,0,(-1))))))
         (
         some (.inr ((0,0,(-1)))))))))
     (
     some (.inr ((0,0,(-1))))))))
  (
  some (.inr ((0,0,(-1)))))
def XlE (Xax:XbI) (Xdx:Xeu) (text:List UInt8):Option (Int×Int×Int):=
 (Xdx text).bind fun l=>
 cond (l.2 !=0)
  (
  some ((0,0,(-1))))
  (
  iter (fun st=>Xhn Xax text st) FUEL 0)
def XNz (x:Int×Int×Int):Xc2:=⟨.tuple ⟨[.int .u32 x.1,.int .u32 x.2.1,.int .i64 x.2.2]⟩,[],[]⟩
abbrev Xdn:=(List UInt8)→Option (Int×Int×Int)
def r91 (g:Xdn):Dec:=dV asS fun (y0:List UInt8)=>XdT (ofG (g y0) XNz)
theorem r91_c {g:Xdn} {y0:List UInt8} {x:Int×Int×Int} (hx:g y0=some x):r91 g [.string ⟨⟨y0⟩⟩] []=some (XNz x):=(Xbb (Xds)).trans (Xa7 hx)
def s91 (g:Xdn):XbS:=⟨[.v],r91 g⟩
theorem XAF {g:Xdn} {y0:List UInt8} {x:Int×Int×Int} (hx:g y0=some x):(s91 g).run [.string ⟨⟨y0⟩⟩] []=some (XNz x):=r91_c hx
abbrev XGf (Xax:XbI) (Xdx:Xeu):List (Nat×XbS):=[(69,s69 Xax),(119,s119 Xdx)]
def XlZ (text:List UInt8) (i:Int):VM:=
 ⟨⟨133,62,[(0,.func (.yield 6) #[] #[]),(1,.pointer (some ⟨4,0,none⟩)),(3,.int .i64 i)],[.code Xqp,.inLoop Xqp,.inBlock 0],[],false,none⟩,[⟨91,46,[(2,.pointer (some ⟨0,0,none⟩)),(3,.pointer (some ⟨1,0,none⟩)),(4,.pointer (some ⟨2,0,none⟩))],[.inRangeFunc 6,.inBlock 0,.code XHZ],[5],false,none⟩],[(0,.cells [.int .u32 0]),(1,.cells [.int .u32 0]),(2,.cells [.int .i64 0]),(4,.cells [.string ⟨⟨text⟩⟩]),(5,.marks),(6,.loop ⟨.ready,none,91,46,[(2,.pointer (some ⟨0,0,none⟩)),(3,.pointer (some ⟨1,0,none⟩)),(4,.pointer (some ⟨2,0,none⟩))],[19],XQd,XFr,5⟩)],7⟩
theorem XBN (Xax:XbI) (Xdx:Xeu) (hS:Xaq Tryz.prog (XaL (XGf Xax Xdx))) (text:List UInt8) (res:Int×Int×Int):∀ fuel (st:Int) (o:Int×Int×Int),iter (fun st=>Xhn Xax text st) fuel st=some o→(o=res) →
 XaM Tryz.prog 91 0 (XlZ text st) (fun v H _=>Res 0 (XNz res) v H):=by
 intro fuel st o h hc
 refine XcJ (head:=fun st=>XlZ text st) (C:=fun o=>(o=res)) ?_ fuel st o h hc
 clear h hc o st fuel
 intro i o h hc
 replace h:Xhn Xax text i=some o:=h
 show XaM Tryz.prog 91 0 (XlZ text i) (fun v H _=>Res 0 (XNz res) v H)
 unfold Xhn at h
 have R1:=@XpF Xax
 refine Xbp XaP hS true 3000 ?_
 conv=>whnf
 refine br.h2 h (by rfl) ?_ ?_
 ·clear h;intro hb h;conv=>whnf
  exact W
 clear h;intro hb h;conv=>whnf
 replace h:=Xbr.elim h;obtain ⟨hb,h⟩:=h
 try (refine req.intro hb ?_;conv=>whnf)
 replace h:=Xcm.elim h;obtain ⟨b,hy,h⟩:=h
 refine rdS.intro hy ?_
 conv=>whnf
 refine br.h h (by rfl) ?_ ?_
 ·clear h;intro hb h;conv=>whnf
  exact W
 clear h;intro hb h;conv=>whnf
 refine br.h h (by rfl) ?_ ?_
 ·clear h;intro hb h;conv=>whnf
  cases h;simp only [Sum.elim_inl,XlZ] at hc
  exact XxW hc [(0,0),(1,1),(2,2),(4,4),(5,5),(6,6)] rfl
 clear h;intro hb h;conv=>whnf
 let t:Bool:=decide ((wI .i64 (i+1))<(text.length:Int))
 refine br.h2 h (by rfl) ?_ ?_
 ·clear h;intro hb h;conv=>whnf
  exact W
 clear h;intro hb h;conv=>whnf
 replace h:=Xbr.elim h;obtain ⟨hb,h⟩:=h
 try (refine req.intro hb ?_;conv=>whnf)
 replace h:=Xcm.elim h;obtain ⟨b1,hy,h⟩:=h
 refine rdS.intro hy ?_
 conv=>whnf
 refine br.h h (by rfl) ?_ ?_
 ·clear h;intro hb h;conv=>whnf
  exact W
 clear h;intro hb h;conv=>whnf
 let t1:Bool:=decide ((wI .i64 (b1.toNat:Int))>(wI .i64 ((text.length:Int) - i)))
 refine br.h h (by rfl) ?_ ?_
 ·clear h;intro hb h;conv=>whnf
  exact W
 clear h;intro hb h;conv=>whnf
 replace h:=Xbr.elim h;obtain ⟨hb,h⟩:=h
 try (refine req.intro hb ?_;conv=>whnf)
 replace h:=Xcm.elim h;obtain ⟨b2,hy,h⟩:=h
 refine rdS.intro hy ?_
 conv=>whnf
 replace h:=Xbr.elim h;obtain ⟨hb,h⟩:=h
 try (refine req.intro hb ?_;conv=>whnf)
 let t2:List UInt8:=(text.drop (wI .i64 (i+2)).toNat).take ((wI .i64 (i+(wI .i64 (b1.toNat:Int)))).toNat - (wI .i64 (i+2)).toNat)
 refine br.h h (by rfl) ?_ ?_
 ·clear h;intro hb h;conv=>whnf
  cases h;simp only [Sum.elim_inl,XlZ] at hc
  exact XxW hc [(0,0),(1,1),(2,2),(4,4),(5,5),(6,6)] rfl
 clear h;intro hb h;conv=>whnf
 exact W
theorem XJN (Xax:XbI) (Xdx:Xeu) (hS:Xaq Tryz.prog (XaL (XGf Xax Xdx))) (text:List UInt8) (res:Int×Int×Int) (h:XlE Xax Xdx text=some res) :
 XaM Tryz.prog 91 0 ⟨⟨91,46,[(0,.string ⟨⟨text⟩⟩)],[.code XGu],[],false,none⟩,[],[],0⟩ (fun v H _=>Res 0 (XNz res) v H):=by
 unfold XlE at h
 refine Xbp XaP hS true 3000 ?_
 conv=>whnf
 replace h:=Xcm.elim h;obtain ⟨l,hy,h⟩:=h
 refine XeC.a (Xy5 hy) ?_
 conv=>whnf
 refine br.h h (by rfl) ?_ ?_
 ·clear h;intro hb h;conv=>whnf
  exact W
 clear h;intro hb h;conv=>whnf
 have hl:=XBN Xax Xdx hS _ res _ _ _ h rfl;simp only [XlZ] at hl
 exact XxW hl [(0,0),(1,1),(2,2),(4,4),(5,5),(6,6)] rfl
def Xch:Xdn:=XlE Xax Xdx
theorem XzP:Xb8 Tryz.prog 91 (s91 Xch):=by
 have hL:=XJN Xax Xdx (Xaq.XaY ⟨Xrd,XyO,trivial⟩)
 exact okA ⟨Tryz.f91,rfl,by decide,rfl⟩
def Xhf (Xao:Xa9) (l:(List XcZ)×Int) (i:Int):Option (Sum Int (Int×Int×Int)):=
 cond (decide (i<(l.1.length:Int)))
  (
  Xbr (decide ((0:Int)≤i∧i<(l.1.length:Int))) <|
  (l.1[i.toNat]?).bind fun (e:XcZ)=>
  cond (e.Kind==8)
   (
   Xbr (decide ((0:Int)≤i∧i<(l.1.length:Int))) <|
   cond ((e.Data.length:Int) !=8)
    (
    some (.inr ((0,0,(-1)))))
    (
    Xbr (decide ((0:Int)≤i∧i<(l.1.length:Int))) <|
    (Xao e.Data 0 4).bind fun m=>
    Xbr (decide ((0:Int)≤i∧i<(l.1.length:Int))) <|
    (Xao e.Data 4 4).bind fun m1=>
    Xbr (decide ((0:Int)≤i∧i<(l.1.length:Int))) <|
    some (.inr ((wI .u32 m,wI .u32 m1,e.At)))))
   (
   some (.inl (wI .i64 (i+1)))))
  (
  some (.inr ((0,0,(-1)))))
def XlG (Xao:Xa9) (Xdy:Xex) (options:List UInt8):Option (Int×Int×Int):=
 (Xdy options).bind fun l=>
 iter (fun st=>Xhf Xao l st) FUEL 0
def XNs (x:Int×Int×Int):Xc2:=⟨.tuple ⟨[.int .u32 x.1,.int .u32 x.2.1,.int .i64 x.2.2]⟩,[],[]⟩
abbrev Xen:=(List UInt8)→Option (Int×Int×Int)
def r83 (g:Xen):Dec:=dV asS fun (y0:List UInt8)=>XdT (ofG (g y0) XNs)
theorem r83_c {g:Xen} {y0:List UInt8} {x:Int×Int×Int} (hx:g y0=some x):r83 g [.string ⟨⟨y0⟩⟩] []=some (XNs x):=(Xbb (Xds)).trans (Xa7 hx)
def s83 (g:Xen):XbS:=⟨[.v],r83 g⟩
theorem XF4 {g:Xen} {y0:List UInt8} {x:Int×Int×Int} (hx:g y0=some x):(s83 g).run [.string ⟨⟨y0⟩⟩] []=some (XNs x):=r83_c hx
abbrev XGL (Xao:Xa9) (Xdy:Xex):List (Nat×XbS):=[(62,s62 Xao),(112,s112 Xdy)]
def Xns (l:(List XcZ)×Int) (i:Int):VM:=
 ⟨⟨83,51,[(5,.slice (some ⟨0,0,none⟩) l.1.length 3),(7,.int .i64 i)],[.code XAG,.inLoop XAG,.inBlock 0,.code XFX],[],false,none⟩,[],[(0,.row true (vT Xgu l.1))],1⟩
theorem XCL (Xao:Xa9) (Xdy:Xex) (hS:Xaq Tryz.prog (XaL (XGL Xao Xdy))) (l:(List XcZ)×Int) (res:Int×Int×Int):∀ fuel (st:Int) (o:Int×Int×Int),iter (fun st=>Xhf Xao l st) fuel st=some o→(o=res) →
 XaM Tryz.prog 83 0 (Xns l st) (fun v H _=>Res 0 (XNs res) v H):=by
 intro fuel st o h hc
 refine XcJ (head:=fun st=>Xns l st) (C:=fun o=>(o=res)) ?_ fuel st o h hc
 clear h hc o st fuel
 intro i o h hc
 replace h:Xhf Xao l i=some o:=h
 show XaM Tryz.prog 83 0 (Xns l i) (fun v H _=>Res 0 (XNs res) v H)
 unfold Xhf at h
 refine Xbp XaP hS true 3000 ?_
 conv=>whnf
 refine br.h2 h (by rfl) ?_ ?_
 ·clear h;intro hb h;conv=>whnf
  exact W
 clear h;intro hb h;conv=>whnf
 replace h:=Xbr.elim h;obtain ⟨hb,h⟩:=h
 try (refine req.intro hb ?_;conv=>whnf)
 replace h:=Xcm.elim h;obtain ⟨e,hy,h⟩:=h
 refine rd.T (j:=0) Xc8 hy (by first|omega|exact Nat.zero_add _|exact congrArg (·+_) (Nat.zero_add _)) (by decide) rfl ?_
 conv=>whnf
 refine br.h2 h (by rfl) ?_ ?_
 ·clear h;intro hb h;conv=>whnf
  cases h;simp only [Sum.elim_inl,Xns] at hc
  exact Xjj hc [(0,0)] rfl
 clear h;intro hb h;conv=>whnf
 replace h:=Xbr.elim h;obtain ⟨hb,h⟩:=h
 try (refine req.intro hb ?_;conv=>whnf)
 refine rd.T (i:=i.toNat) (x:=e) (j:=1) Xc8 (by assumption) (by first|omega|exact Nat.zero_add _|exact congrArg (·+_) (Nat.zero_add _)) (by decide) rfl ?_
 conv=>whnf
 refine br.h h (by rfl) ?_ ?_
 ·clear h;intro hb h;conv=>whnf
  exact W
 clear h;intro hb h;conv=>whnf
 replace h:=Xbr.elim h;obtain ⟨hb,h⟩:=h
 try (refine req.intro hb ?_;conv=>whnf)
 refine rd.T (i:=i.toNat) (x:=e) (j:=1) Xc8 (by assumption) (by first|omega|exact Nat.zero_add _|exact congrArg (·+_) (Nat.zero_add _)) (by decide) rfl ?_
 conv=>whnf
 replace h:=Xcm.elim h;obtain ⟨m,hy,h⟩:=h
 refine XeC.a (Xi8 hy) ?_
 conv=>whnf
 replace h:=Xbr.elim h;obtain ⟨hb,h⟩:=h
 try (refine req.intro hb ?_;conv=>whnf)
 refine rd.T (i:=i.toNat) (x:=e) (j:=1) Xc8 (by assumption) (by first|omega|exact Nat.zero_add _|exact congrArg (·+_) (Nat.zero_add _)) (by decide) rfl ?_
 conv=>whnf
 replace h:=Xcm.elim h;obtain ⟨m1,hy,h⟩:=h
 refine XeC.a (Xi8 hy) ?_
 conv=>whnf
 replace h:=Xbr.elim h;obtain ⟨hb,h⟩:=h
 try (refine req.intro hb ?_;conv=>whnf)
 refine rd.T (i:=i.toNat) (x:=e) (j:=2) Xc8 (by assumption) (by first|omega|exact Nat.zero_add _|exact congrArg (·+_) (Nat.zero_add _)) (by decide) rfl ?_
 conv=>whnf
 exact W
theorem XLA (Xao:Xa9) (Xdy:Xex) (hS:Xaq Tryz.prog (XaL (XGL Xao Xdy))) (options:List UInt8) (res:Int×Int×Int) (h:XlG Xao Xdy options=some res) :
 XaM Tryz.prog 83 0 ⟨⟨83,51,[(0,.string ⟨⟨options⟩⟩)],[.code XGm],[],false,none⟩,[],[],0⟩ (fun v H _=>Res 0 (XNs res) v H):=by
 unfold XlG at h
 refine Xbp XaP hS true 3000 ?_
 conv=>whnf
 replace h:=Xcm.elim h;obtain ⟨l,hy,h⟩:=h
 refine XeC.a (XzB hy) ?_
 conv=>whnf
 have hl:=XCL Xao Xdy hS _ res _ _ _ h rfl;simp only [Xns] at hl
 exact Xjj hl [(0,0)] rfl
def Xc7:Xen:=XlG Xao Xdy
theorem XFj:Xb8 Tryz.prog 83 (s83 Xc7):=by
 have hL:=XLA Xao Xdy (Xaq.XaY ⟨Xl6,Xzi,trivial⟩)
 exact okA ⟨Tryz.f83,rfl,by decide,rfl⟩
end Go.Vm.Code
namespace Go.Vm.Code
open Go Go.Vm
def stL:List Xxp→Int×Int×Int
 | []=>(0,0,-1)
 | o::l=>if o.Kind=8 then (if o.Data.length=8 then (vK o.Data 0 4,vK o.Data 4 4,o.At) else (0,0,-1)) else stL l
def Xf5 (s:List UInt8):Int×Int×Int:=stL (Xlk s).1
theorem Xl0 (s:List UInt8):∀ (n i:Nat) (out:List Xxp),Xhz s n i out=if (Xhz s n i []).2=0 then (out++(Xhz s n i []).1,0) else ([],3):=by
 intro n
 induction n using Nat.strongRecOn with
 | ind n ih=>
   intro i out
   cases n with
   | zero=>rw [Xhz,Xhz];simp
   | succ n=>
     have e:∀ o,Xhz s (n+1) i o=match s[i]? with
      | none=>(o,0)
      | some b=>if b=0 then (o,0) else if b=1 then Xhz s n (i+1) o else match s[i+1]? with
        | none=>([],3)
        | some k=>if k.toNat<2 then ([],3) else if s.length - i<k.toNat then ([],3) else
           Xhz s (n+1 - k.toNat) (i+k.toNat) (o++[⟨(b.toNat:Int),(s.drop (i+2)).take (k.toNat - 2),((i+2:Nat):Int)⟩]):=fun o=>by rw [Xhz];try (cases s[i]?<;>cases s[i+1]?<;>rfl)
     rw [e out,e []]
     cases s[i]? with
     | none=>simp
     | some b=>
       simp only
       by_cases h0:b=0
       ·simp [h0]
       rw [if_neg h0,if_neg h0]
       by_cases h1:b=1
       ·rw [if_pos h1,if_pos h1];exact ih n (by omega) _ _
       rw [if_neg h1,if_neg h1]
       cases s[i+1]? with
       | none=>simp
       | some k=>
         simp only
         by_cases h2:k.toNat<2
         ·simp [h2]
         by_cases h3:s.length - i<k.toNat
         ·simp [h2,h3]
         rw [if_neg h2,if_neg h2,if_neg h3,if_neg h3,ih _ (by omega) _ (out++_),ih _ (by omega) _ ([]++_)]
         by_cases hz:(Xhz s (n+1 - k.toNat) (i+k.toNat) []).2=0
         ·simp [hz]
         ·simp [hz]
theorem XwD {s:List UInt8} (h:(Xlk s).2≠0):(Xlk s).1=[]:=by
 unfold Xlk at *
 have:=Xl0 s s.length 0 []
 rw [if_neg h] at this
 rw [this]
theorem XKA {s:List UInt8}:∀ (n i:Nat),∀ o∈(Xhz s n i []).1,i≤o.At.toNat∧0≤o.At∧o.At.toNat+o.Data.length≤s.length∨(Xhz s n i []).2≠0:=by
 intro n
 induction n using Nat.strongRecOn with
 | ind n ih=>
   intro i o ho
   cases n with
   | zero=>rw [Xhz] at ho;simp at ho
   | succ n=>
     rw [Xhz] at ho ⊢
     cases hb:s[i]? with
     | none=>rw [hb] at ho;simp at ho
     | some b=>
       rw [hb] at ho
       simp only at ho ⊢
       by_cases h0:b=0
       ·rw [if_pos h0] at ho;simp at ho
       rw [if_neg h0] at ho ⊢
       by_cases h1:b=1
       ·rw [if_pos h1] at ho ⊢
        rcases ih n (by omega) _ o ho with h|h
        ·left;omega
        ·right;exact h
       rw [if_neg h1] at ho ⊢
       cases hk:s[i+1]? with
       | none=>rw [hk] at ho;simp at ho
       | some k=>
         rw [hk] at ho
         simp only at ho ⊢
         by_cases h2:k.toNat<2
         ·rw [if_pos h2] at ho;simp at ho
         rw [if_neg h2] at ho ⊢
         by_cases h3:s.length - i<k.toNat
         ·rw [if_pos h3] at ho;simp at ho
         rw [if_neg h3] at ho ⊢
         rw [Xl0] at ho ⊢
         by_cases hz:(Xhz s (n+1 - k.toNat) (i+k.toNat) []).2=0
         ·rw [if_pos hz] at ho
          simp only [List.nil_append,List.mem_append,List.mem_singleton] at ho
          left
          have hi:i<s.length:=by
           rcases Nat.lt_or_ge i s.length with h|h
           ·exact h
           ·rw [List.getElem?_eq_none h] at hb;cases hb
          rcases ho with rfl|ho
          ·simp only [List.length_take,List.length_drop];omega
          ·rcases ih _ (by omega) _ o ho with h|h
           ·omega
           ·exact absurd hz h
         ·right;rw [if_neg hz];decide
theorem Xx7 {s:List UInt8} (hs:s.length<2^20):Xc7 s=some (Xf5 s):=by
 unfold Xc7 XlG Xf5
 rw [XQl hs,Option.bind_some]
 have hlen:∀ o∈(Xlk s).1,o.Data.length<2^61:=by
  intro o ho
  unfold Xlk at ho
  rcases XKA _ _ o ho with h|h
  ·omega
  ·have:=XwD (s:=s) h
   unfold Xlk at this
   rw [this] at ho;simp at ho
 have hcount:(Xlk s).1.length<2^60:=by
  have key:∀ n i out,(Xhz s n i out).1.length≤out.length+n:=by
   intro n
   induction n using Nat.strongRecOn with
   | ind n ih=>
     intro i out
     cases n with
     | zero=>rw [Xhz];simp
     | succ n=>
       rw [Xhz]
       split
       ·simp
       split
       ·simp
       split
       ·have:=ih n (by omega) (i+1) out;omega
       split
       ·simp
       split
       ·simp
       split
       ·simp
       refine Nat.le_trans (ih _ (by omega) _ _) ?_
       simp;omega
  have:=key s.length 0 []
  unfold Xlk
  simp at this;omega
 generalize Xlk s=L at *
 have key:=iter_eq (step:=fun st=>Xhf Xao (L.1.map toR,L.2) st) (fun st=>stL (L.1.drop st.toNat)) (fun st=>0≤st∧st≤L.1.length) (fun st=>((L.1.length:Int) - st).toNat) ?_ FUEL 0 ⟨by omega,by omega⟩ (by rw [Xfm];omega)
 ·rw [key];simp
 intro st ⟨g1,g2⟩
 obtain ⟨i,rfl⟩:=Int.eq_ofNat_of_zero_le g1
 unfold Xhf
 simp only [Int.toNat_natCast,List.length_map,List.getElem?_map]
 by_cases hp:i<L.1.length
 ·have ed:L.1.drop i=L.1[i]::L.1.drop (i+1):=List.drop_eq_getElem_cons hp
  have hd:=hlen _ (List.getElem_mem hp)
  rw [XaZ (by omega),XaH (by omega),List.getElem?_eq_getElem hp,Option.map_some,Option.bind_some,ed,stL]
  simp only [toR]
  by_cases h8:L.1[i].Kind=8
  ·refine .inl ?_
   rw [show (L.1[i].Kind==8)=true by simpa using h8,cond_true,if_pos h8,XaH (by omega)]
   by_cases hl:L.1[i].Data.length=8
   ·have r0:=Xfz L.1[i].Data 0 4 4294967296 (by decide)
    have r4:=Xfz L.1[i].Data 4 4 4294967296 (by decide)
    have m0:Xao L.1[i].Data 0 4=some (vK L.1[i].Data 0 4):=Xsy (p:=0) (k:=4) hd (by omega) (by omega) (by omega)
    have m4:Xao L.1[i].Data 4 4=some (vK L.1[i].Data 4 4):=Xsy (p:=4) (k:=4) hd (by omega) (by omega) (by omega)
    rw [show (((L.1[i].Data.length:Nat):Int) !=8)=false by simp;omega,cond_false,if_pos hl,XaH (by omega),m0,Option.bind_some,XaH (by omega),m4,Option.bind_some,XaH (by omega),Xrz r0.1 r0.2,Xrz r4.1 r4.2]
   ·rw [show (((L.1[i].Data.length:Nat):Int) !=8)=true by simp;omega,cond_true,if_neg hl]
  ·refine .inr ⟨((i+1:Nat):Int),?_,⟨by omega,by omega⟩,by omega,?_⟩
   ·rw [show (L.1[i].Kind==8)=false by simpa using h8,cond_false,Xdb (by omega) (by omega)];rfl
   ·rw [if_neg h8,Int.toNat_natCast]
 ·refine .inl ?_
  rw [XaR (by omega),List.drop_of_length_le (by omega)];rfl
theorem val8 {t:List UInt8} (h:t.length=8):((Xed t:Nat):Int)=vK t 0 4*4294967296+vK t 4 4:=by
 unfold vK
 have e:t.take 4++(t.drop 4).take 4=t:=by rw [List.take_of_length_le (l:=t.drop 4) (by simp;omega),List.take_append_drop]
 have:=val_append (t.take 4) ((t.drop 4).take 4)
 rw [e,show ((t.drop 4).take 4).length=4 by simp;omega] at this
 rw [List.drop_zero,this]
 omega
theorem Xyc {s:List UInt8} (hs:s.length<2^20):Xch s=some (Xf5 s):=by
 unfold Xch XlE
 rw [XR4 hs,Option.bind_some]
 by_cases hz:(Xlk s).2=0
 ·rw [show ((Xlk s).2 !=0)=false by simpa using hz,cond_false]
  unfold Xf5 Xlk
  unfold Xlk at hz
  have key:=iter_eq (step:=fun st=>Xhn Xax s st) (fun st=>stL (Xhz s (s.length - st.toNat) st.toNat []).1) (fun st=>0≤st∧st≤s.length∧(Xhz s (s.length - st.toNat) st.toNat []).2=0) (fun st=>s.length - st.toNat) ?_ FUEL 0 ⟨by omega,by omega,by simpa using hz⟩ (by rw [Xfm];omega)
  ·rw [key];rfl
  intro st ⟨g1,g2,g3⟩
  obtain ⟨i,rfl⟩:=Int.eq_ofNat_of_zero_le g1
  simp only [Int.toNat_natCast] at g3 ⊢
  unfold Xhn
  by_cases hi:i<s.length
  ·obtain ⟨n,hn⟩:∃ n,s.length - i=n+1:=⟨s.length - i - 1,by omega⟩
   have e:s[i]?=some s[i]:=List.getElem?_eq_getElem hi
   rw [hn,Xhz,e] at g3
   simp only at g3
   rw [XaZ (by omega),XaH (by omega),Int.toNat_natCast,e,Option.bind_some,hn,Xhz,e]
   by_cases h0:s[i]=0
   ·refine .inl ?_
    rw [show ((s[i].toNat:Int)==0)=true by rw [h0];rfl,cond_true]
    simp only [h0,if_true];rfl
   rw [show ((s[i].toNat:Int)==0)=false by simp;intro hx;exact h0 (UInt8.toNat_inj.1 (by simpa using hx)),cond_false]
   rw [if_neg h0] at g3
   simp only [if_neg h0]
   by_cases h1:s[i]=1
   ·rw [if_pos h1] at g3
    refine .inr ⟨((i+1:Nat):Int),?_,⟨by omega,by omega,?_⟩,by omega,?_⟩
    ·rw [show ((s[i].toNat:Int)==1)=true by rw [h1];rfl,cond_true,Xdb (by omega) (by omega)];rfl
    ·rw [Int.toNat_natCast,show s.length - (i+1)=n by omega];exact g3
    ·simp only [Int.toNat_natCast,if_pos h1]
     rw [show s.length - (i+1)=n by omega]
   rw [show ((s[i].toNat:Int)==1)=false by simp;intro hx;exact h1 (UInt8.toNat_inj.1 (by simp;omega)),cond_false]
   rw [if_neg h1] at g3
   simp only [if_neg h1]
   rw [Xdb (n:=(i:Int)+1) (by omega) (by omega)]
   by_cases h2:s.length≤i+1
   ·rw [List.getElem?_eq_none (by omega)] at g3
    simp at g3
   have hi1:i+1<s.length:=by omega
   have e1:s[i+1]?=some s[i+1]:=List.getElem?_eq_getElem hi1
   have b1:=s[i+1].toNat_lt
   rw [e1] at g3
   simp only at g3
   rw [XaZ (by omega),show ((i:Int)+1).toNat=i+1 by omega,e1,XaH (by omega),Option.bind_some]
   simp only [Option.bind_some]
   rw [Xdb (n:=(s[i+1].toNat:Int)) (by omega) (by omega)]
   by_cases h3:s[i+1].toNat<2
   ·rw [if_pos h3] at g3
    exact absurd g3 (by decide)
   rw [if_neg h3] at g3
   rw [XaR (by omega),if_neg h3,Xdb (n:=(s.length:Int) - i) (by omega) (by omega)]
   by_cases h4:s.length - i<s[i+1].toNat
   ·rw [if_pos h4] at g3
    exact absurd g3 (by decide)
   rw [if_neg h4,Xl0] at g3
   have b0:=s[i].toNat_lt
   have hz2:(Xhz s (n+1 - s[i+1].toNat) (i+s[i+1].toNat) []).2=0:=by
    apply Decidable.byContradiction
    intro hx
    rw [if_neg hx] at g3
    exact absurd g3 (by decide)
   rw [if_neg h4,Xl0,if_pos hz2,XaR (by omega),XaH (by omega),Xdb (n:=(i:Int)+s[i+1].toNat) (by omega) (by omega),Xdb (n:=(i:Int)+2) (by omega) (by omega),Xdb (n:=(s[i].toNat:Int)) (by omega) (by omega),XaH (by omega),show ((i:Int)+s[i+1].toNat).toNat - ((i:Int)+2).toNat=s[i+1].toNat - 2 by omega,show ((i:Int)+2).toNat=i+2 by omega]
   simp only [List.nil_append,List.cons_append,stL]
   have hdl:((s.drop (i+2)).take (s[i+1].toNat - 2)).length=s[i+1].toNat - 2:=by simp;omega
   generalize (s.drop (i+2)).take (s[i+1].toNat - 2)=D at *
   by_cases h8:(s[i].toNat:Int)=8
   ·refine .inl ?_
    rw [show ((s[i].toNat:Int) !=8)=false by simpa using h8,cond_false,if_pos h8,Xek (by omega),Option.bind_some]
    by_cases hl:D.length=8
    ·rw [XfZ (by omega) (by omega) (by omega) (by omega),if_pos hl]
     have r0:=Xfz D 0 4 4294967296 (by decide)
     have r4:=Xfz D 4 4 4294967296 (by decide)
     have hv:=val8 hl
     have ev:(D.drop (0:Int).toNat).take (8:Int).toNat=D:=by
      rw [show (0:Int).toNat=0 from rfl,show (8:Int).toNat=8 from rfl,List.drop_zero,List.take_of_length_le (by omega)]
     simp only [cond_true,ev]
     rw [show ((D.length:Int)==8)=true by simp;omega,cond_true,hv,XtY,show ((2:Int)^32)=4294967296 from rfl,show (vK D 0 4*4294967296+vK D 4 4)/4294967296=vK D 0 4 by omega,Xrz r0.1 r0.2,XLK,show (vK D 0 4*4294967296+vK D 4 4)%4294967296=vK D 4 4 by omega];rfl
    ·rw [if_neg hl]
     rw [show ((D.length:Int)==8)=false by simp;omega]
     cases (Xuk D 0 8).2<;>rfl
   ·refine .inr ⟨((i+s[i+1].toNat:Nat):Int),?_,⟨by omega,by omega,?_⟩,by omega,?_⟩
    ·rw [show ((s[i].toNat:Int) !=8)=true by simpa using h8,cond_true];rfl
    ·rw [Int.toNat_natCast,show s.length - (i+s[i+1].toNat)=n+1 - s[i+1].toNat by omega];exact hz2
    ·rw [Int.toNat_natCast,show s.length - (i+s[i+1].toNat)=n+1 - s[i+1].toNat by omega,if_neg h8]
  ·refine .inl ?_
   rw [XaR (by omega),show s.length - i=0 by omega,Xhz];rfl
 ·rw [show ((Xlk s).2 !=0)=true by simpa using hz,cond_true]
  unfold Xf5
  rw [XwD hz];rfl
end Go.Vm.Code
namespace Go.Vm.Code
open Go Go.Vm Go.Proofs
set_option maxRecDepth 100000
set_option maxHeartbeats 4000000
set_option linter.unusedVariables false
def Xf6 (Xap:XaT) (Xaf:XaB) (ra0:Xam):Option ((List UInt8)×Xam):=
 (Xap ra0).bind fun b=>
 cond (b.1)
  (
  some (([],b.2)))
  (
  (Xaf b.2 (b.2.s.length:Int)).bind fun t=>
  some ((t.1,t.2)))
def rx96 (x:(List UInt8)×Xam):Xc2:=⟨.string ⟨⟨x.1⟩⟩,[],[some [.string ⟨⟨x.2.s⟩⟩,.bool x.2.made,.bool x.2.bad]]⟩
abbrev XcX:=Xam→Option ((List UInt8)×Xam)
def r96 (g:XcX):Dec:=dPt 0 XdL fun (y0:Xam)=>XdT (ofG (g y0) rx96)
theorem r96_c {g:XcX} {y0:Xam} {x:(List UInt8)×Xam} (hx:g y0=some x):r96 g [.pointer (some ⟨0,0,none⟩)] [some [.string ⟨⟨y0.s⟩⟩,.bool y0.made,.bool y0.bad]]=some (rx96 x):=(XnD (XfS _)).trans (Xa7 hx)
def s96 (g:XcX):XbS:=⟨[.pt 3],r96 g⟩
theorem XPl {g:XcX} {y0:Xam} {x:(List UInt8)×Xam} (hx:g y0=some x):(s96 g).run [.pointer (some ⟨0,0,none⟩)] [some [.string ⟨⟨y0.s⟩⟩,.bool y0.made,.bool y0.bad]]=some (rx96 x):=r96_c hx
abbrev XSb (Xap:XaT) (Xaf:XaB):List (Nat×XbS):=[(95,s95 Xap),(86,s86 Xaf)]
theorem XJI (Xap:XaT) (Xaf:XaB) (hS:Xaq Tryz.prog (XaL (XSb Xap Xaf))) (ra0:Xam) (res:(List UInt8)×Xam) (h:Xf6 Xap Xaf ra0=some res) :
 XaM Tryz.prog 96 1 ⟨⟨96,12,[(0,.pointer (some ⟨0,0,none⟩))],[.code XOu],[],false,none⟩,[],[(0,.cells [.string ⟨⟨ra0.s⟩⟩,.bool ra0.made,.bool ra0.bad])],1⟩ (fun v H _=>Res 1 (rx96 res) v H):=by
 unfold Xf6 at h
 have R1:=@Xqd Xap
 have R2:=@XoN Xaf
 refine Xbp XaP hS true 3000 ?_
 conv=>whnf
 exact W
def Xcf:XcX:=Xf6 Xap Xaf
theorem XR1:Xb8 Tryz.prog 96 (s96 Xcf):=by
 have hL:=XJI Xap Xaf (Xaq.XaY ⟨Xrw,XoS,trivial⟩)
 exact okA ⟨Tryz.f96,rfl,by decide,rfl⟩
def Xnc (Xap:XaT) (Xaa:XaN) (Xaf:XaB) (ra0:Xam):Option ((List UInt8)×Int×Xam):=
 (Xaa ra0 1).bind fun n=>
 (Xap n.2).bind fun b=>
 cond (!b.1)
  (
  cond (decide (n.1>20))
   (
   some (([],3,b.2)))
   (
   (Xaf b.2 n.1).bind fun t=>
   (Xap t.2).bind fun b1=>
   cond (b1.1)
    (
    some (([],2,b1.2)))
    (
    some ((t.1,0,b1.2)))))
  (
  (Xaf b.2 n.1).bind fun t1=>
  (Xap t1.2).bind fun b2=>
  cond (b2.1)
   (
   some (([],2,b2.2)))
   (
   some ((t1.1,0,b2.2))))
def rx98 (x:(List UInt8)×Int×Xam):Xc2:=⟨.tuple ⟨[.string ⟨⟨x.1⟩⟩,.int .i64 x.2.1]⟩,[],[some [.string ⟨⟨x.2.2.s⟩⟩,.bool x.2.2.made,.bool x.2.2.bad]]⟩
abbrev Xhh:=Xam→Option ((List UInt8)×Int×Xam)
def r98 (g:Xhh):Dec:=dPt 0 XdL fun (y0:Xam)=>XdT (ofG (g y0) rx98)
theorem r98_c {g:Xhh} {y0:Xam} {x:(List UInt8)×Int×Xam} (hx:g y0=some x):r98 g [.pointer (some ⟨0,0,none⟩)] [some [.string ⟨⟨y0.s⟩⟩,.bool y0.made,.bool y0.bad]]=some (rx98 x):=(XnD (XfS _)).trans (Xa7 hx)
def s98 (g:Xhh):XbS:=⟨[.pt 3],r98 g⟩
theorem XHn {g:Xhh} {y0:Xam} {x:(List UInt8)×Int×Xam} (hx:g y0=some x):(s98 g).run [.pointer (some ⟨0,0,none⟩)] [some [.string ⟨⟨y0.s⟩⟩,.bool y0.made,.bool y0.bad]]=some (rx98 x):=r98_c hx
abbrev XSV (Xap:XaT) (Xaa:XaN) (Xaf:XaB):List (Nat×XbS):=[(95,s95 Xap),(52,s52 Xaa),(86,s86 Xaf)]
theorem XMk (Xap:XaT) (Xaa:XaN) (Xaf:XaB) (hS:Xaq Tryz.prog (XaL (XSV Xap Xaa Xaf))) (ra0:Xam) (res:(List UInt8)×Int×Xam) (h:Xnc Xap Xaa Xaf ra0=some res) :
 XaM Tryz.prog 98 1 ⟨⟨98,21,[(0,.pointer (some ⟨0,0,none⟩))],[.code XFN],[],false,none⟩,[],[(0,.cells [.string ⟨⟨ra0.s⟩⟩,.bool ra0.made,.bool ra0.bad])],1⟩ (fun v H _=>Res 1 (rx98 res) v H):=by
 unfold Xnc at h
 have R1:=@Xls Xaa
 have R2:=@Xqd Xap
 have R3:=@XoN Xaf
 refine Xbp XaP hS true 3000 ?_
 conv=>whnf
 exact W
def XgT:Xhh:=Xnc Xap Xaa Xaf
theorem XQU:Xb8 Tryz.prog 98 (s98 XgT):=by
 have hL:=XMk Xap Xaa Xaf (Xaq.XaY ⟨Xrw,XpP,XoS,trivial⟩)
 exact okA ⟨Tryz.f98,rfl,by decide,rfl⟩
def Xm3 (XaX:Xb9) (Xap:XaT) (Xaa:XaN) (Xcf:XcX) (Xaf:XaB) (XgT:Xhh) (s:List UInt8):Option (XbZ×Int):=
 (XaX s).bind fun n=>
 (Xaa n 1).bind fun n1=>
 (Xap n1.2).bind fun b=>
 cond (b.1)
  (
  some ((XbZ.mk false 0 0 [] [] [],2)))
  (
  cond ((XnF .i64 n1.1 64)==0)
   (
   some ((XbZ.mk false 0 0 [] [] [],3)))
   (
   cond (!((XnF .i64 n1.1 128) !=0))
    (
    (Xaf b.2 8).bind fun t=>
    (Xap t.2).bind fun b1=>
    cond (b1.1)
     (
     some ((XbZ.mk false 0 0 [] [] [],2)))
     (
     (Xcf b1.2).bind fun xr=>
     some ((XbZ.mk ((XnF .i64 n1.1 128) !=0) (XnF .i64 n1.1 63) 0 t.1 [] xr.1,0))))
    (
    (Xaa b.2 4).bind fun n2=>
    (XgT n2.2).bind fun i=>
    cond (i.2.1 !=0)
     (
     some ((XbZ.mk false 0 0 [] [] [],i.2.1)))
     (
     (XgT i.2.2).bind fun i1=>
     cond (i1.2.1 !=0)
      (
      some ((XbZ.mk false 0 0 [] [] [],i1.2.1)))
      (
      (Xcf i1.2.2).bind fun xr1=>
      some ((XbZ.mk ((XnF .i64 n1.1 128) !=0) (XnF .i64 n1.1 63) (wI .u32 n2.1) i.1 i1.1 xr1.1,0)))))))
def rx68 (x:XbZ×Int):Xc2:=⟨.tuple ⟨[.agg ⟨[.bool x.1.Long,.int .i64 x.1.Bits,.int .u32 x.1.Version,.string ⟨⟨x.1.DCID⟩⟩,.string ⟨⟨x.1.SCID⟩⟩,.string ⟨⟨x.1.Rest⟩⟩]⟩,.int .i64 x.2]⟩,[],[]⟩
abbrev XeP:=(List UInt8)→Option (XbZ×Int)
def r68 (g:XeP):Dec:=dV asS fun (y0:List UInt8)=>XdT (ofG (g y0) rx68)
theorem r68_c {g:XeP} {y0:List UInt8} {x:XbZ×Int} (hx:g y0=some x):r68 g [.string ⟨⟨y0⟩⟩] []=some (rx68 x):=(Xbb (Xds)).trans (Xa7 hx)
def s68 (g:XeP):XbS:=⟨[.v],r68 g⟩
theorem XHy {g:XeP} {y0:List UInt8} {x:XbZ×Int} (hx:g y0=some x):(s68 g).run [.string ⟨⟨y0⟩⟩] []=some (rx68 x):=r68_c hx
abbrev XO2 (XaX:Xb9) (Xap:XaT) (Xaa:XaN) (Xcf:XcX) (Xaf:XaB) (XgT:Xhh):List (Nat×XbS):=[(51,s51 XaX),(95,s95 Xap),(52,s52 Xaa),(96,s96 Xcf),(86,s86 Xaf),(98,s98 XgT)]
theorem XK3 (XaX:Xb9) (Xap:XaT) (Xaa:XaN) (Xcf:XcX) (Xaf:XaB) (XgT:Xhh) (hS:Xaq Tryz.prog (XaL (XO2 XaX Xap Xaa Xcf Xaf XgT))) (s:List UInt8) (res:XbZ×Int) (h:Xm3 XaX Xap Xaa Xcf Xaf XgT s=some res) :
 XaM Tryz.prog 68 0 ⟨⟨68,60,[(0,.string ⟨⟨s⟩⟩)],[.code XG0],[],false,none⟩,[],[],0⟩ (fun v H _=>Res 0 (rx68 res) v H):=by
 unfold Xm3 at h
 have R1:=@XoN Xaf
 have R2:=@Xqd Xap
 have R3:=@XPl Xcf
 refine Xbp XaP hS true 3000 ?_
 conv=>whnf
 replace h:=Xcm.elim h;obtain ⟨n,hy,h⟩:=h
 refine XeC.a (XrI hy) ?_
 conv=>whnf
 replace h:=Xcm.elim h;obtain ⟨n1,hy,h⟩:=h
 refine XeC.a (Xls hy) ?_
 conv=>whnf
 replace h:=Xcm.elim h;obtain ⟨b,hy,h⟩:=h
 refine XeC.a (Xqd hy) ?_
 conv=>whnf
 refine br.h h (by rfl) ?_ ?_
 ·clear h;intro hb h;conv=>whnf
  exact W
 clear h;intro hb h;conv=>whnf
 refine br.h h (by rfl) ?_ ?_
 ·clear h;intro hb h;conv=>whnf
  exact W
 clear h;intro hb h;conv=>whnf
 refine br.h h (by rfl) ?_ ?_
 ·clear h;intro hb h;conv=>whnf
  exact W
 clear h;intro hb h;conv=>whnf
 replace h:=Xcm.elim h;obtain ⟨n2,hy,h⟩:=h
 refine XeC.a (Xls hy) ?_
 conv=>whnf
 refine Xbp XaP hS true 3000 ?_
 conv=>whnf
 replace h:=Xcm.elim h;obtain ⟨i,hy,h⟩:=h
 refine XeC.a (XHn hy) ?_
 conv=>whnf
 refine br.h h (by rfl) ?_ ?_
 ·clear h;intro hb h;conv=>whnf
  refine br.pos ?_ ?_;(focus (clear h;first|assumption|(simp_all;done)))
  conv=>whnf
  exact W
 clear h;intro hb h;conv=>whnf
 refine Xbp XaP hS true 3000 ?_
 conv=>whnf
 replace h:=Xcm.elim h;obtain ⟨i1,hy,h⟩:=h
 refine XeC.a (XHn hy) ?_
 conv=>whnf
 refine br.h h (by rfl) ?_ ?_
 ·clear h;intro hb h;conv=>whnf
  refine br.pos ?_ ?_;(focus (clear h;first|assumption|(simp_all;done)))
  conv=>whnf
  exact W
 clear h;intro hb h;conv=>whnf
 refine Xbp XaP hS true 3000 ?_
 conv=>whnf
 exact W
def XdU:XeP:=Xm3 XaX Xap Xaa Xcf Xaf XgT
theorem XFu:Xb8 Tryz.prog 68 (s68 XdU):=by
 have hL:=XK3 XaX Xap Xaa Xcf Xaf XgT (Xaq.XaY ⟨XrG,Xrw,XpP,XR1,XoS,XQU,trivial⟩)
 exact okA ⟨Tryz.f68,rfl,by decide,rfl⟩
def XrP (s:List UInt8) (ata1:Int):Option ((List UInt8)×Int×Int):=
 cond (decide (ata1≥(s.length:Int)))
  (
  some (([],2,0)))
  (
  Xbr (decide (0≤ata1)) <|
  (s[ata1.toNat]?).bind fun (b:UInt8)=>
  cond (decide ((wI .i64 (b.toNat:Int))>20))
   (
   some (([],3,0)))
   (
   let t:=wI .i64 ((wI .i64 ((s.length:Int) - ata1)) - 1)
   cond (decide ((wI .i64 (b.toNat:Int))>t))
    (
    some (([],2,0)))
    (
    let t1:=wI .i64 ((wI .i64 (ata1+1))+(wI .i64 (b.toNat:Int)))
    Xbr (decide ((0:Int)≤t1∧t1≤(s.length:Int)∧(0:Int)≤(wI .i64 (ata1+1))∧(wI .i64 (ata1+1))≤(t1.toNat:Int))) <|
    let t2:=(s.drop (wI .i64 (ata1+1)).toNat).take (t1.toNat - (wI .i64 (ata1+1)).toNat)
    let t3:=wI .i64 ((wI .i64 (ata1+1))+(wI .i64 (b.toNat:Int)))
    some ((t2,0,t3)))))
def XBF (x:(List UInt8)×Int×Int):Xc2:=⟨.tuple ⟨[.string ⟨⟨x.1⟩⟩,.int .i64 x.2.1,.int .i64 x.2.2]⟩,[],[]⟩
abbrev Xix:=(List UInt8)→Int→Option ((List UInt8)×Int×Int)
def r101 (g:Xix):Dec:=dV asS fun (y0:List UInt8)=>dV (asI .i64) fun (y1:Int)=>XdT (ofG (g y0 y1) XBF)
theorem XRw {g:Xix} {y0:List UInt8} {y1:Int} {x:(List UInt8)×Int×Int} (hx:g y0 y1=some x):r101 g [.string ⟨⟨y0⟩⟩,.int .i64 y1] []=some (XBF x):=(Xbb (Xds)).trans ((Xbb (Xdr _)).trans (Xa7 hx))
def s101 (g:Xix):XbS:=⟨[.v,.v],r101 g⟩
theorem XJX {g:Xix} {y0:List UInt8} {y1:Int} {x:(List UInt8)×Int×Int} (hx:g y0 y1=some x):(s101 g).run [.string ⟨⟨y0⟩⟩,.int .i64 y1] []=some (XBF x):=XRw hx
abbrev XJQ:List (Nat×XbS):=[]
theorem XB1 (hS:Xaq Tryz.prog (XaL (XJQ))) (s:List UInt8) (ata1:Int) (res:(List UInt8)×Int×Int) (h:XrP s ata1=some res) :
 XaM Tryz.prog 101 0 ⟨⟨101,37,[(0,.string ⟨⟨s⟩⟩),(1,.int .i64 ata1)],[.code Xzq],[],false,none⟩,[],[],0⟩ (fun v H _=>Res 0 (XBF res) v H):=by
 unfold XrP at h
 refine Xbp XaP hS true 3000 ?_
 conv=>whnf
 exact W
def Xjz:Xix:=XrP
theorem XJa:Xb8 Tryz.prog 101 (s101 Xjz):=by
 have hL:=XB1 (Xaq.XaY trivial)
 exact okA ⟨Tryz.f101,rfl,by decide,rfl⟩
def Xpa (Xao:Xa9) (Xjz:Xix) (s:List UInt8):Option (XbZ×Int):=
 cond (s==[])
  (
  some ((XbZ.mk false 0 0 [] [] [],2)))
  (
  (s[0]?).bind fun (b:UInt8)=>
  let t:=(wI .u8 ((b.toNat:Int).tdiv 64)).tmod 2
  cond (t==0)
   (
   some ((XbZ.mk false 0 0 [] [] [],3)))
   (
   (s[0]?).bind fun (b1:UInt8)=>
   (s[0]?).bind fun (b2:UInt8)=>
   cond (!(decide ((b1.toNat:Int)≥128)))
    (
    cond (decide ((s.length:Int)<9))
     (
     some ((XbZ.mk false 0 0 [] [] [],2)))
     (
     Xbr (decide ((0:Int)≤(9:Int)∧(9:Int)≤(s.length:Int)∧(0:Int)≤(1:Int)∧(1:Int)≤(9:Int))) <|
     Xbr (decide ((0:Int)≤(9:Int)∧(9:Int)≤(s.length:Int))) <|
     some ((XbZ.mk (decide ((b1.toNat:Int)≥128)) (wI .i64 ((b2.toNat:Int).tmod 64)) 0 ((s.drop 1).take 8) [] ((s.drop 9).take (s.length - 9)),0))))
    (
    cond (decide ((s.length:Int)<5))
     (
     some ((XbZ.mk false 0 0 [] [] [],2)))
     (
     (Xao s 1 4).bind fun m=>
     (Xjz s 5).bind fun i=>
     cond (i.2.1 !=0)
      (
      some ((XbZ.mk false 0 0 [] [] [],i.2.1)))
      (
      (Xjz s i.2.2).bind fun i1=>
      cond (i1.2.1 !=0)
       (
       some ((XbZ.mk false 0 0 [] [] [],i1.2.1)))
       (
       Xbr (decide ((0:Int)≤i1.2.2∧i1.2.2≤(s.length:Int))) <|
       let t1:=(s.drop i1.2.2.toNat).take (s.length - i1.2.2.toNat)
       some ((XbZ.mk (decide ((b1.toNat:Int)≥128)) (wI .i64 ((b2.toNat:Int).tmod 64)) (wI .u32 m) i.1 i1.1 t1,0))))))))
def rx75 (x:XbZ×Int):Xc2:=⟨.tuple ⟨[.agg ⟨[.bool x.1.Long,.int .i64 x.1.Bits,.int .u32 x.1.Version,.string ⟨⟨x.1.DCID⟩⟩,.string ⟨⟨x.1.SCID⟩⟩,.string ⟨⟨x.1.Rest⟩⟩]⟩,.int .i64 x.2]⟩,[],[]⟩
abbrev Xfs:=(List UInt8)→Option (XbZ×Int)
def r75 (g:Xfs):Dec:=dV asS fun (y0:List UInt8)=>XdT (ofG (g y0) rx75)
theorem r75_c {g:Xfs} {y0:List UInt8} {x:XbZ×Int} (hx:g y0=some x):r75 g [.string ⟨⟨y0⟩⟩] []=some (rx75 x):=(Xbb (Xds)).trans (Xa7 hx)
def s75 (g:Xfs):XbS:=⟨[.v],r75 g⟩
theorem XGF {g:Xfs} {y0:List UInt8} {x:XbZ×Int} (hx:g y0=some x):(s75 g).run [.string ⟨⟨y0⟩⟩] []=some (rx75 x):=r75_c hx
abbrev XPT (Xao:Xa9) (Xjz:Xix):List (Nat×XbS):=[(62,s62 Xao),(101,s101 Xjz)]
theorem XIe (Xao:Xa9) (Xjz:Xix) (hS:Xaq Tryz.prog (XaL (XPT Xao Xjz))) (s:List UInt8) (res:XbZ×Int) (h:Xpa Xao Xjz s=some res) :
 XaM Tryz.prog 75 0 ⟨⟨75,79,[(0,.string ⟨⟨s⟩⟩)],[.code XFz],[],false,none⟩,[],[],0⟩ (fun v H _=>Res 0 (rx75 res) v H):=by
 unfold Xpa at h
 have R1:=@Xi8 Xao
 have R2:=@XJX Xjz
 refine Xbp XaP hS true 3000 ?_
 conv=>whnf
 exact W
def XeW:Xfs:=Xpa Xao Xjz
theorem XH4:Xb8 Tryz.prog 75 (s75 XeW):=by
 have hL:=XIe Xao Xjz (Xaq.XaY ⟨Xl6,XJa,trivial⟩)
 exact okA ⟨Tryz.f75,rfl,by decide,rfl⟩
end Go.Vm.Code
namespace Go.Vm.Code
open Go Go.Vm
def XxD:XbZ:=⟨false,0,0,[],[],[]⟩
def idS (s:List UInt8) (p:Nat):List UInt8×Int×Nat:=
 if s.length≤p then ([],2,0) else if 20<b1 s p then ([],3,0) else if s.length<p+1+b1 s p then ([],2,0) else ((s.drop (p+1)).take (b1 s p),0,p+1+b1 s p)
theorem XFM {s:List UInt8} {p:Nat} (h:s.length<2^38):Xjz s (p:Int)=some ((idS s p).1,(idS s p).2.1,(((idS s p).2.2:Nat):Int)):=by
 unfold Xjz XrP idS
 by_cases h1:s.length≤p
 ·rw [XaZ (by omega),if_pos h1];rfl
 have e1:s[(p:Int).toNat]?=some (s[p]'(by omega)):=by rw [Int.toNat_natCast];exact List.getElem?_eq_getElem (by omega)
 have hb:=Xw6 s p
 rw [XaR (by omega),if_neg h1,XaH (by omega),e1,Option.bind_some,←XtW (by omega),Xdb (n:=((b1 s p:Nat):Int)) (by omega) (by omega)]
 by_cases h2:20<b1 s p
 ·rw [XaZ (by omega),if_pos h2];rfl
 rw [XaR (by omega),if_neg h2,Xdb (n:=(s.length:Int) - p) (by omega) (by omega),Xdb (by omega) (by omega),Xdb (n:=(p:Int)+1) (by omega) (by omega),Xdb (n:=(p:Int)+1+((b1 s p:Nat):Int)) (by omega) (by omega)]
 simp only []
 by_cases h3:s.length<p+1+b1 s p
 ·rw [XaZ (by omega),if_pos h3];rfl
 rw [XaR (by omega),if_neg h3,XaH (by omega)]
 have f1:((p:Int)+1).toNat=p+1:=by omega
 have f2:((p:Int)+1+((b1 s p:Nat):Int)).toNat - (p+1)=b1 s p:=by omega
 rw [f1,f2]
 simp
theorem i17:(if (1:Int)<1∨(1:Int)>7 then -1 else 1:Int)=1:=by decide
theorem i47:(if (4:Int)<1∨(4:Int)>7 then -1 else 4:Int)=4:=by decide
theorem Xqq (s:List UInt8) (k:Int):rdr ⟨s,true,true⟩ k=⟨s,true,true⟩:=by unfold rdr;rw [if_pos (.inl rfl)]
theorem XJp (s:List UInt8) (h:s.length<2^38):XgT ⟨s,true,true⟩=some ([],2,⟨s,true,true⟩):=by
 unfold XgT Xnc
 rw [Xd6 rfl (by simp only [];omega),Option.bind_some]
 simp only [Xqq]
 rw [XfW rfl,Option.bind_some]
 simp only [Bool.not_true,cond_false]
 rw [Xgn rfl,Option.bind_some]
 simp only [Xqq]
 rw [XfW rfl,Option.bind_some]
 rfl
theorem XFR {s:List UInt8} {p:Nat} (h:s.length<2^38):∃ r,XgT ⟨s.drop p,true,false⟩=some ((idS s p).1,(idS s p).2.1,r)∧((idS s p).2.1=0→r=⟨s.drop (idS s p).2.2,true,false⟩):=by
 have hb:=Xw6 s p
 have ld:(s.drop p).length=s.length - p:=List.length_drop ..
 unfold XgT Xnc idS
 rw [Xd6 rfl (by simp only [];omega),Option.bind_some]
 simp only [rdn,i17]
 by_cases h1:s.length≤p
 ·have hr:rdr ⟨s.drop p,true,false⟩ 1=⟨s.drop p,true,true⟩:=by unfold rdr;rw [if_pos (.inr (.inr (by simp only [];omega)))]
  rw [if_pos h1,hr,XfW rfl,Option.bind_some]
  simp only [Bool.not_true,cond_false]
  rw [Xgn rfl,Option.bind_some]
  simp only [Xqq]
  rw [XfW rfl,Option.bind_some]
  exact ⟨_,rfl,fun q=>by cases q⟩
 ·rw [if_neg h1,XgI (by omega) (by omega),XgE (by omega) (by omega),show (1:Int).toNat=1 from rfl,List.drop_drop,show Xed ((s.drop p).take 1)=b1 s p from rfl,XfW rfl,Option.bind_some]
  simp only [Bool.not_false,cond_true]
  have ld2:(s.drop (p+1)).length=s.length - (p+1):=List.length_drop ..
  by_cases h2:20<b1 s p
  ·rw [XaZ (by omega),if_pos h2]
   exact ⟨_,rfl,fun q=>by cases q⟩
  rw [XaR (by omega),if_neg h2,Xgn rfl,Option.bind_some]
  by_cases h3:s.length<p+1+b1 s p
  ·have hr:rdr ⟨s.drop (p+1),true,false⟩ ((b1 s p:Nat):Int)=⟨s.drop (p+1),true,true⟩:=by unfold rdr;rw [if_pos (.inr (.inr (by simp only [];omega)))]
   rw [if_pos h3,hr,XfW rfl,Option.bind_some]
   exact ⟨_,rfl,fun q=>by cases q⟩
  ·rw [if_neg h3,XgI (by omega) (by omega),XgE (by omega) (by omega),XfW rfl,Option.bind_some,Int.toNat_natCast,List.drop_drop]
   exact ⟨_,rfl,fun _=>rfl⟩
def Xho (s:List UInt8):XbZ×Int:=
 if s=[] then (XxD,2) else if b1 s 0/64%2=0 then (XxD,3) else
 if b1 s 0<128 then if s.length<9 then (XxD,2) else (⟨false,((b1 s 0%64:Nat):Int),0,(s.drop 1).take 8,[],s.drop 9⟩,0)
 else if s.length<5 then (XxD,2) else if (idS s 5).2.1≠0 then (XxD,(idS s 5).2.1) else if (idS s (idS s 5).2.2).2.1≠0 then (XxD,(idS s (idS s 5).2.2).2.1) else
 (⟨true,((b1 s 0%64:Nat):Int),((Xed ((s.drop 1).take 4):Nat):Int),(idS s 5).1,(idS s (idS s 5).2.2).1,s.drop (idS s (idS s 5).2.2).2.2⟩,0)
theorem XN3:∀ v:Fin 256,((wI .u8 (((v.val:Nat):Int).tdiv 64)).tmod 2=((v.val/64%2:Nat):Int)∧wI .i64 (((v.val:Nat):Int).tmod 64)=((v.val%64:Nat):Int))∧XnF .i64 ((v.val:Nat):Int) 64=((v.val/64%2*64:Nat):Int)∧XnF .i64 ((v.val:Nat):Int) 128=((v.val/128*128:Nat):Int)∧XnF .i64 ((v.val:Nat):Int) 63=((v.val%64:Nat):Int):=by decide +kernel
theorem XSX {s:List UInt8} {p:Nat} (h:(idS s p).2.1=0):(idS s p).2.2≤s.length:=by
 unfold idS at h ⊢
 split
 ·simp
 split
 ·simp
 split
 ·simp
 ·simp only [];omega
theorem Xvy {s:List UInt8} (h:s.length<2^38):XeW s=some (Xho s):=by
 unfold XeW Xpa Xho
 by_cases h0:s=[]
 ·subst h0;rfl
 have hl:0<s.length:=List.length_pos_iff.2 h0
 have hb:=Xw6 s 0
 obtain ⟨⟨q1,q2⟩,-⟩:=XN3 ⟨b1 s 0,hb⟩
 simp only at q1 q2
 have e0:s[0]?=some s[0]:=List.getElem?_eq_getElem hl
 have e1:s[0].toNat=b1 s 0:=(XtW hl).symm
 have es:(s==[])=false:=by rw [beq_eq_false_iff_ne];exact h0
 rw [es,cond_false,if_neg h0,e0]
 simp only [Option.bind_some,e1,q1,q2]
 by_cases h1:b1 s 0/64%2=0
 ·have:((((b1 s 0/64%2:Nat):Int))==0)=true:=by rw [beq_iff_eq];omega
  rw [this,cond_true,if_pos h1];rfl
 have:((((b1 s 0/64%2:Nat):Int))==0)=false:=by rw [beq_eq_false_iff_ne];omega
 rw [this,cond_false,if_neg h1]
 by_cases h2:b1 s 0<128
 ·rw [decide_eq_false (show ¬ ((b1 s 0:Nat):Int)≥128 by omega),Bool.not_false,cond_true,if_pos h2]
  by_cases h3:s.length<9
  ·rw [XaZ (by omega),if_pos h3];rfl
  rw [XaR (by omega),if_neg h3,XaH (by omega),XaH (by omega),List.take_of_length_le (l:=s.drop 9) (by simp)]
 ·rw [decide_eq_true (show ((b1 s 0:Nat):Int)≥128 by omega),Bool.not_true,cond_false,if_neg h2]
  by_cases h3:s.length<5
  ·rw [XaZ (by omega),if_pos h3];rfl
  have hv:Xed ((s.drop 1).take 4)<2^32:=Xdk _ (by decide)
  have rid5:=XFM (s:=s) (p:=5) h
  rw [show ((5:Nat):Int)=5 from rfl] at rid5
  rw [XaR (by omega),if_neg h3,Xev (by omega),Option.bind_some,XfZ (by omega) (by omega) (by omega) (by omega),rid5,Option.bind_some]
  simp only []
  by_cases h4:(idS s 5).2.1=0
  ·have:((idS s 5).2.1 !=0)=false:=by rw [bne_eq_false_iff_eq];exact h4
   rw [this,cond_false,if_neg (by omega),XFM h,Option.bind_some]
   simp only []
   by_cases h5:(idS s (idS s 5).2.2).2.1=0
   ·have:((idS s (idS s 5).2.2).2.1 !=0)=false:=by rw [bne_eq_false_iff_eq];exact h5
    have hle:=XSX h5
    rw [this,cond_false,if_neg (by omega),XaH (by omega),Int.toNat_natCast,List.take_of_length_le (l:=s.drop (idS s (idS s 5).2.2).2.2) (by simp)]
    simp only [show (1:Int).toNat=1 from rfl,show (4:Int).toNat=4 from rfl]
    rw [Xdb (n:=((Xed ((s.drop 1).take 4):Nat):Int)) (by omega) (by omega),Xrz (by omega) (by omega)]
   ·have:((idS s (idS s 5).2.2).2.1 !=0)=true:=by rw [bne_iff_ne];exact h5
    rw [this,cond_true,if_pos h5];rfl
  ·have:((idS s 5).2.1 !=0)=true:=by rw [bne_iff_ne];exact h4
   rw [this,cond_true,if_pos h4];rfl
theorem XzA {r:Xam} (h:r.made=true) (hb:r.bad=false):Xcf r=some (r.s,rdr r r.s.length):=by
 unfold Xcf Xf6
 rw [XfW h,Option.bind_some]
 simp only [hb,cond_false]
 rw [Xgn h,Option.bind_some]
 have:rdt r r.s.length=r.s:=by unfold rdt;rw [if_neg (by rw [hb];simp),Int.toNat_natCast,List.take_length]
 rw [this]
theorem Xv1 {s:List UInt8} (h:s.length<2^38):XdU s=some (Xho s):=by
 unfold XdU Xm3 Xho
 by_cases h0:s=[]
 ·subst h0;decide +kernel
 have hl:0<s.length:=List.length_pos_iff.2 h0
 have hb:=Xw6 s 0
 obtain ⟨-,q1,q2,q3⟩:=XN3 ⟨b1 s 0,hb⟩
 simp only at q1 q2 q3
 have l1:(s.drop 1).length=s.length - 1:=List.length_drop ..
 rw [if_neg h0,Xmo,Option.bind_some,Xd6 rfl (by simp only [];omega),Option.bind_some]
 simp only [rdn,i17]
 rw [XgI (by omega) (by omega),XgE (by omega) (by omega),show (1:Int).toNat=1 from rfl,XfW rfl,Option.bind_some,show Xed (s.take 1)=b1 s 0 from rfl,q1,q2,q3]
 simp only [cond_false]
 by_cases h1:b1 s 0/64%2=0
 ·have:((((b1 s 0/64%2*64:Nat):Int))==0)=true:=by rw [beq_iff_eq];omega
  rw [this,cond_true,if_pos h1];rfl
 have:((((b1 s 0/64%2*64:Nat):Int))==0)=false:=by rw [beq_eq_false_iff_ne];omega
 rw [this,cond_false,if_neg h1]
 by_cases h2:b1 s 0<128
 ·have:((((b1 s 0/128*128:Nat):Int)) !=0)=false:=by rw [bne_eq_false_iff_eq];omega
  rw [this,Bool.not_false,cond_true,if_pos h2,Xgn rfl,Option.bind_some]
  by_cases h3:s.length<9
  ·have hr:rdr ⟨s.drop 1,true,false⟩ 8=⟨s.drop 1,true,true⟩:=by unfold rdr;rw [if_pos (.inr (.inr (by simp only [];omega)))]
   rw [if_pos h3,hr,XfW rfl,Option.bind_some];rfl
  ·rw [if_neg h3,XgI (by omega) (by omega),XgE (by omega) (by omega),XfW rfl,Option.bind_some]
   simp only [cond_false]
   rw [XzA rfl rfl,Option.bind_some,List.drop_drop]
   rfl
 ·have:((((b1 s 0/128*128:Nat):Int)) !=0)=true:=by rw [bne_iff_ne];omega
  rw [this,Bool.not_true,cond_false,if_neg h2,Xd6 rfl (by simp only [];omega),Option.bind_some]
  simp only [rdn,i47]
  by_cases h3:s.length<5
  ·have hr:rdr ⟨s.drop 1,true,false⟩ 4=⟨s.drop 1,true,true⟩:=by unfold rdr;rw [if_pos (.inr (.inr (by simp only [];omega)))]
   rw [if_pos h3,hr,XJp _ (by omega),Option.bind_some];rfl
  have hv:Xed ((s.drop 1).take 4)<2^32:=Xdk _ (by decide)
  obtain ⟨r,er,hr⟩:=XFR (s:=s) (p:=5) h
  rw [if_neg h3,XgI (by omega) (by omega),XgE (by omega) (by omega),show (4:Int).toNat=4 from rfl,List.drop_drop,er,Option.bind_some]
  simp only []
  by_cases h4:(idS s 5).2.1=0
  ·have:((idS s 5).2.1 !=0)=false:=by rw [bne_eq_false_iff_eq];exact h4
   obtain ⟨r',er',hr'⟩:=XFR (s:=s) (p:=(idS s 5).2.2) h
   rw [this,cond_false,if_neg (by omega),hr h4,er',Option.bind_some]
   simp only []
   by_cases h5:(idS s (idS s 5).2.2).2.1=0
   ·have:((idS s (idS s 5).2.2).2.1 !=0)=false:=by rw [bne_eq_false_iff_eq];exact h5
    rw [this,cond_false,if_neg (by omega),hr' h5,XzA rfl rfl,Option.bind_some,Xrz (by omega) (by omega)]
   ·have:((idS s (idS s 5).2.2).2.1 !=0)=true:=by rw [bne_iff_ne];exact h5
    rw [this,cond_true,if_pos h5];rfl
  ·have:((idS s 5).2.1 !=0)=true:=by rw [bne_iff_ne];exact h4
   rw [this,cond_true,if_pos h4];rfl
end Go.Vm.Code
namespace Go.Vm.Code
open Go Go.Vm Go.Proofs
set_option maxRecDepth 100000
set_option maxHeartbeats 4000000
set_option linter.unusedVariables false
def Xii (XeM:Xfg) (XfB:XfH) (s:List UInt8):Option (Xbc×Int):=
 (s[0]?).bind fun (b:UInt8)=>
 cond (((b.toNat:Int).fdiv (2^4))==4)
  (
  (XeM s).bind fun xg=>
  cond (xg.2.2 !=0)
   (
   some ((Xbc.mk (Xae.mk false 0 0) (Xae.mk false 0 0) 0 [],xg.2.2)))
   (
   let t:=wI .i64 (20+(xg.1.Options.length:Int))
   let t1:=(s.length:Int) !=(wI .i64 (t+(xg.2.1.length:Int)))
   cond (t1)
    (
    some ((Xbc.mk (Xae.mk false 0 0) (Xae.mk false 0 0) 0 [],5)))
    (
    some ((Xbc.mk xg.1.Src xg.1.Dst xg.1.Proto xg.2.1,0)))))
  (
  cond (((b.toNat:Int).fdiv (2^4))==6)
   (
   (XfB s).bind fun xg1=>
   cond (xg1.2.2 !=0)
    (
    some ((Xbc.mk (Xae.mk false 0 0) (Xae.mk false 0 0) 0 [],xg1.2.2)))
    (
    let t2:=(s.length:Int) !=(wI .i64 (40+(xg1.2.1.length:Int)))
    cond (t2)
     (
     some ((Xbc.mk (Xae.mk false 0 0) (Xae.mk false 0 0) 0 [],5)))
     (
     some ((Xbc.mk xg1.1.Src xg1.1.Dst xg1.1.Next xg1.2.1,0)))))
   (
   some ((Xbc.mk (Xae.mk false 0 0) (Xae.mk false 0 0) 0 [],3))))
def rx88 (x:Xbc×Int):Xc2:=⟨.tuple ⟨[.agg ⟨[.bool x.1.src.V6,.int .u64 x.1.src.Hi,.int .u64 x.1.src.Lo,.bool x.1.dst.V6,.int .u64 x.1.dst.Hi,.int .u64 x.1.dst.Lo,.int .i64 x.1.proto,.string ⟨⟨x.1.body⟩⟩]⟩,.int .i64 x.2]⟩,[],[]⟩
abbrev Xd2:=(List UInt8)→Option (Xbc×Int)
def r88 (g:Xd2):Dec:=dV asS fun (y0:List UInt8)=>XdT (ofG (g y0) rx88)
theorem r88_c {g:Xd2} {y0:List UInt8} {x:Xbc×Int} (hx:g y0=some x):r88 g [.string ⟨⟨y0⟩⟩] []=some (rx88 x):=(Xbb (Xds)).trans (Xa7 hx)
def s88 (g:Xd2):XbS:=⟨[.v],r88 g⟩
theorem XOk {g:Xd2} {y0:List UInt8} {x:Xbc×Int} (hx:g y0=some x):(s88 g).run [.string ⟨⟨y0⟩⟩] []=some (rx88 x):=r88_c hx
abbrev XOm (XeM:Xfg) (XfB:XfH):List (Nat×XbS):=[(129,s129 XeM),(130,s130 XfB)]
theorem XJK (XeM:Xfg) (XfB:XfH) (hS:Xaq Tryz.prog (XaL (XOm XeM XfB))) (s:List UInt8) (res:Xbc×Int) (h:Xii XeM XfB s=some res) :
 XaM Tryz.prog 88 0 ⟨⟨88,61,[(0,.string ⟨⟨s⟩⟩)],[.code XHi],[],false,none⟩,[],[],0⟩ (fun v H _=>Res 0 (rx88 res) v H):=by
 unfold Xii at h
 have R1:=@XLP XeM
 have R2:=@XLz XfB
 refine Xbp XaP hS true 3000 ?_
 conv=>whnf
 exact W
def Xdh:Xd2:=Xii XeM XfB
theorem XRn:Xb8 Tryz.prog 88 (s88 Xdh):=by
 have hL:=XJK XeM XfB (Xaq.XaY ⟨XIx,XLi,trivial⟩)
 exact okA ⟨Tryz.f88,rfl,by decide,rfl⟩
def Xfb (Xif:Xha) (Xch:Xdn) (oa0:Xbc) (p:Xar):Option (Int×Int×Xar):=
 (Xif oa0.body oa0.src oa0.dst).bind fun xg=>
 cond (xg.2.2 !=0)
  (
  some ((0,xg.2.2,p)))
  (
  (Xch xg.1.Options).bind fun s=>
  cond (decide (s.2.2≥0))
   (
   some (((xg.2.1.length:Int),0,Xar.mk (Xag.mk p.Tuple.Proto p.Tuple.Src p.Tuple.Dst xg.1.SPort xg.1.DPort) xg.1.Flags true s.1 s.2.1 p.Long p.CID p.Size)))
   (
   some (((xg.2.1.length:Int),0,Xar.mk (Xag.mk p.Tuple.Proto p.Tuple.Src p.Tuple.Dst xg.1.SPort xg.1.DPort) xg.1.Flags p.Stamped p.Val p.Echo p.Long p.CID p.Size))))
def rx89 (x:Int×Int×Xar):Xc2:=⟨.tuple ⟨[.int .i64 x.1,.int .i64 x.2.1]⟩,[],[some [.int .i64 x.2.2.Tuple.Proto,.bool x.2.2.Tuple.Src.V6,.int .u64 x.2.2.Tuple.Src.Hi,.int .u64 x.2.2.Tuple.Src.Lo,.bool x.2.2.Tuple.Dst.V6,.int .u64 x.2.2.Tuple.Dst.Hi,.int .u64 x.2.2.Tuple.Dst.Lo,.int .i64 x.2.2.Tuple.SPort,.int .i64 x.2.2.Tuple.DPort,.int .i64 x.2.2.Flags,.bool x.2.2.Stamped,.int .u32 x.2.2.Val,.int .u32 x.2.2.Echo,.bool x.2.2.Long,.string ⟨⟨x.2.2.CID⟩⟩,.int .i64 x.2.2.Size]]⟩
abbrev XcG:=Xbc→Xar→Option (Int×Int×Xar)
def r89 (g:XcG):Dec:=dV XgF fun (y0:Xbc)=>dPt 0 Xhj fun (y1:Xar)=>XdT (ofG (g y0 y1) rx89)
theorem r89_c {g:XcG} {y0:Xbc} {y1:Xar} {x:Int×Int×Xar} (hx:g y0 y1=some x):r89 g [.agg ⟨[.bool y0.src.V6,.int .u64 y0.src.Hi,.int .u64 y0.src.Lo,.bool y0.dst.V6,.int .u64 y0.dst.Hi,.int .u64 y0.dst.Lo,.int .i64 y0.proto,.string ⟨⟨y0.body⟩⟩]⟩,.pointer (some ⟨0,0,none⟩)] [some [.int .i64 y1.Tuple.Proto,.bool y1.Tuple.Src.V6,.int .u64 y1.Tuple.Src.Hi,.int .u64 y1.Tuple.Src.Lo,.bool y1.Tuple.Dst.V6,.int .u64 y1.Tuple.Dst.Hi,.int .u64 y1.Tuple.Dst.Lo,.int .i64 y1.Tuple.SPort,.int .i64 y1.Tuple.DPort,.int .i64 y1.Flags,.bool y1.Stamped,.int .u32 y1.Val,.int .u32 y1.Echo,.bool y1.Long,.string ⟨⟨y1.CID⟩⟩,.int .i64 y1.Size]]=some (rx89 x):=(Xbb (XkH _)).trans ((XnD (Xmc _)).trans (Xa7 hx))
def s89 (g:XcG):XbS:=⟨[.v,.pt 16],r89 g⟩
theorem XSm {g:XcG} {y0:Xbc} {y1:Xar} {x:Int×Int×Xar} (hx:g y0 y1=some x):(s89 g).run [.agg ⟨[.bool y0.src.V6,.int .u64 y0.src.Hi,.int .u64 y0.src.Lo,.bool y0.dst.V6,.int .u64 y0.dst.Hi,.int .u64 y0.dst.Lo,.int .i64 y0.proto,.string ⟨⟨y0.body⟩⟩]⟩,.pointer (some ⟨0,0,none⟩)] [some [.int .i64 y1.Tuple.Proto,.bool y1.Tuple.Src.V6,.int .u64 y1.Tuple.Src.Hi,.int .u64 y1.Tuple.Src.Lo,.bool y1.Tuple.Dst.V6,.int .u64 y1.Tuple.Dst.Hi,.int .u64 y1.Tuple.Dst.Lo,.int .i64 y1.Tuple.SPort,.int .i64 y1.Tuple.DPort,.int .i64 y1.Flags,.bool y1.Stamped,.int .u32 y1.Val,.int .u32 y1.Echo,.bool y1.Long,.string ⟨⟨y1.CID⟩⟩,.int .i64 y1.Size]]=some (rx89 x):=r89_c hx
abbrev XSM (Xif:Xha) (Xch:Xdn):List (Nat×XbS):=[(117,s117 Xif),(91,s91 Xch)]
theorem XIS (Xif:Xha) (Xch:Xdn) (hS:Xaq Tryz.prog (XaL (XSM Xif Xch))) (oa0:Xbc) (p:Xar) (res:Int×Int×Xar) (h:Xfb Xif Xch oa0 p=some res) :
 XaM Tryz.prog 89 1 ⟨⟨89,65,[(0,.agg ⟨[.bool oa0.src.V6,.int .u64 oa0.src.Hi,.int .u64 oa0.src.Lo,.bool oa0.dst.V6,.int .u64 oa0.dst.Hi,.int .u64 oa0.dst.Lo,.int .i64 oa0.proto,.string ⟨⟨oa0.body⟩⟩]⟩),(1,.pointer (some ⟨0,0,none⟩))],[.code XGs],[],false,none⟩,[],[(0,.cells [.int .i64 p.Tuple.Proto,.bool p.Tuple.Src.V6,.int .u64 p.Tuple.Src.Hi,.int .u64 p.Tuple.Src.Lo,.bool p.Tuple.Dst.V6,.int .u64 p.Tuple.Dst.Hi,.int .u64 p.Tuple.Dst.Lo,.int .i64 p.Tuple.SPort,.int .i64 p.Tuple.DPort,.int .i64 p.Flags,.bool p.Stamped,.int .u32 p.Val,.int .u32 p.Echo,.bool p.Long,.string ⟨⟨p.CID⟩⟩,.int .i64 p.Size])],1⟩ (fun v H _=>Res 1 (rx89 res) v H):=by
 unfold Xfb at h
 have R1:=@XL0 Xif
 have R2:=@XAF Xch
 refine Xbp XaP hS true 3000 ?_
 conv=>whnf
 exact W
def XbD:XcG:=Xfb Xif Xch
theorem XOS:Xb8 Tryz.prog 89 (s89 XbD):=by
 have hL:=XIS Xif Xch (Xaq.XaY ⟨XMy,XzP,trivial⟩)
 exact okA ⟨Tryz.f89,rfl,by decide,rfl⟩
def XeZ (XdU:XeP) (XhU:Xhl) (oa0:Xbc) (p:Xar):Option (Int×Int×Xar):=
 (XhU oa0.body oa0.src oa0.dst).bind fun xg=>
 cond (xg.2.2 !=0)
  (
  some ((0,xg.2.2,p)))
  (
  let t:=(xg.2.1.length:Int) !=(wI .i64 ((oa0.body.length:Int) - 8))
  cond (t)
   (
   some ((0,5,p)))
   (
   (XdU xg.2.1).bind fun xg1=>
   cond (xg1.2==0)
    (
    some (((xg.2.1.length:Int),0,Xar.mk (Xag.mk p.Tuple.Proto p.Tuple.Src p.Tuple.Dst xg.1.SPort xg.1.DPort) p.Flags p.Stamped p.Val p.Echo xg1.1.Long xg1.1.DCID p.Size)))
    (
    some (((xg.2.1.length:Int),0,Xar.mk (Xag.mk p.Tuple.Proto p.Tuple.Src p.Tuple.Dst xg.1.SPort xg.1.DPort) p.Flags p.Stamped p.Val p.Echo p.Long p.CID p.Size)))))
def rx90 (x:Int×Int×Xar):Xc2:=⟨.tuple ⟨[.int .i64 x.1,.int .i64 x.2.1]⟩,[],[some [.int .i64 x.2.2.Tuple.Proto,.bool x.2.2.Tuple.Src.V6,.int .u64 x.2.2.Tuple.Src.Hi,.int .u64 x.2.2.Tuple.Src.Lo,.bool x.2.2.Tuple.Dst.V6,.int .u64 x.2.2.Tuple.Dst.Hi,.int .u64 x.2.2.Tuple.Dst.Lo,.int .i64 x.2.2.Tuple.SPort,.int .i64 x.2.2.Tuple.DPort,.int .i64 x.2.2.Flags,.bool x.2.2.Stamped,.int .u32 x.2.2.Val,.int .u32 x.2.2.Echo,.bool x.2.2.Long,.string ⟨⟨x.2.2.CID⟩⟩,.int .i64 x.2.2.Size]]⟩
abbrev Xcx:=Xbc→Xar→Option (Int×Int×Xar)
def r90 (g:Xcx):Dec:=dV XgF fun (y0:Xbc)=>dPt 0 Xhj fun (y1:Xar)=>XdT (ofG (g y0 y1) rx90)
theorem r90_c {g:Xcx} {y0:Xbc} {y1:Xar} {x:Int×Int×Xar} (hx:g y0 y1=some x):r90 g [.agg ⟨[.bool y0.src.V6,.int .u64 y0.src.Hi,.int .u64 y0.src.Lo,.bool y0.dst.V6,.int .u64 y0.dst.Hi,.int .u64 y0.dst.Lo,.int .i64 y0.proto,.string ⟨⟨y0.body⟩⟩]⟩,.pointer (some ⟨0,0,none⟩)] [some [.int .i64 y1.Tuple.Proto,.bool y1.Tuple.Src.V6,.int .u64 y1.Tuple.Src.Hi,.int .u64 y1.Tuple.Src.Lo,.bool y1.Tuple.Dst.V6,.int .u64 y1.Tuple.Dst.Hi,.int .u64 y1.Tuple.Dst.Lo,.int .i64 y1.Tuple.SPort,.int .i64 y1.Tuple.DPort,.int .i64 y1.Flags,.bool y1.Stamped,.int .u32 y1.Val,.int .u32 y1.Echo,.bool y1.Long,.string ⟨⟨y1.CID⟩⟩,.int .i64 y1.Size]]=some (rx90 x):=(Xbb (XkH _)).trans ((XnD (Xmc _)).trans (Xa7 hx))
def s90 (g:Xcx):XbS:=⟨[.v,.pt 16],r90 g⟩
theorem XSh {g:Xcx} {y0:Xbc} {y1:Xar} {x:Int×Int×Xar} (hx:g y0 y1=some x):(s90 g).run [.agg ⟨[.bool y0.src.V6,.int .u64 y0.src.Hi,.int .u64 y0.src.Lo,.bool y0.dst.V6,.int .u64 y0.dst.Hi,.int .u64 y0.dst.Lo,.int .i64 y0.proto,.string ⟨⟨y0.body⟩⟩]⟩,.pointer (some ⟨0,0,none⟩)] [some [.int .i64 y1.Tuple.Proto,.bool y1.Tuple.Src.V6,.int .u64 y1.Tuple.Src.Hi,.int .u64 y1.Tuple.Src.Lo,.bool y1.Tuple.Dst.V6,.int .u64 y1.Tuple.Dst.Hi,.int .u64 y1.Tuple.Dst.Lo,.int .i64 y1.Tuple.SPort,.int .i64 y1.Tuple.DPort,.int .i64 y1.Flags,.bool y1.Stamped,.int .u32 y1.Val,.int .u32 y1.Echo,.bool y1.Long,.string ⟨⟨y1.CID⟩⟩,.int .i64 y1.Size]]=some (rx90 x):=r90_c hx
abbrev XSB (XdU:XeP) (XhU:Xhl):List (Nat×XbS):=[(68,s68 XdU),(118,s118 XhU)]
theorem XLD (XdU:XeP) (XhU:Xhl) (hS:Xaq Tryz.prog (XaL (XSB XdU XhU))) (oa0:Xbc) (p:Xar) (res:Int×Int×Xar) (h:XeZ XdU XhU oa0 p=some res) :
 XaM Tryz.prog 90 1 ⟨⟨90,65,[(0,.agg ⟨[.bool oa0.src.V6,.int .u64 oa0.src.Hi,.int .u64 oa0.src.Lo,.bool oa0.dst.V6,.int .u64 oa0.dst.Hi,.int .u64 oa0.dst.Lo,.int .i64 oa0.proto,.string ⟨⟨oa0.body⟩⟩]⟩),(1,.pointer (some ⟨0,0,none⟩))],[.code XFt],[],false,none⟩,[],[(0,.cells [.int .i64 p.Tuple.Proto,.bool p.Tuple.Src.V6,.int .u64 p.Tuple.Src.Hi,.int .u64 p.Tuple.Src.Lo,.bool p.Tuple.Dst.V6,.int .u64 p.Tuple.Dst.Hi,.int .u64 p.Tuple.Dst.Lo,.int .i64 p.Tuple.SPort,.int .i64 p.Tuple.DPort,.int .i64 p.Flags,.bool p.Stamped,.int .u32 p.Val,.int .u32 p.Echo,.bool p.Long,.string ⟨⟨p.CID⟩⟩,.int .i64 p.Size])],1⟩ (fun v H _=>Res 1 (rx90 res) v H):=by
 unfold XeZ at h
 have R1:=@XIY XhU
 have R2:=@XHy XdU
 refine Xbp XaP hS true 3000 ?_
 conv=>whnf
 exact W
def Xbv:Xcx:=XeZ XdU XhU
theorem XPC:Xb8 Tryz.prog 90 (s90 Xbv):=by
 have hL:=XLD XdU XhU (Xaq.XaY ⟨XFu,XJi,trivial⟩)
 exact okA ⟨Tryz.f90,rfl,by decide,rfl⟩
def Xjs (Xdh:Xd2) (Xbv:Xcx) (XbD:XcG) (s:List UInt8):Option (Xar×Int×Int×Int):=
 cond (decide ((s.length:Int)>9000))
  (
  some ((Xar.mk (Xag.mk 0 (Xae.mk false 0 0) (Xae.mk false 0 0) 0 0) 0 false 0 0 false [] 0,0,0,5)))
  (
  cond (s==[])
   (
   some ((Xar.mk (Xag.mk 0 (Xae.mk false 0 0) (Xae.mk false 0 0) 0 0) 0 false 0 0 false [] 0,0,0,2)))
   (
   (Xdh s).bind fun xo=>
   cond (xo.2 !=0)
    (
    some ((Xar.mk (Xag.mk 0 (Xae.mk false 0 0) (Xae.mk false 0 0) 0 0) 0 false 0 0 false [] 0,0,0,xo.2)))
    (
    cond (xo.1.proto==6)
     (
     (XbD xo.1 (Xar.mk (Xag.mk xo.1.proto xo.1.src xo.1.dst 0 0) 0 false 0 0 false [] (s.length:Int))).bind fun s1=>
     cond (s1.2.1 !=0)
      (
      some ((Xar.mk (Xag.mk 0 (Xae.mk false 0 0) (Xae.mk false 0 0) 0 0) 0 false 0 0 false [] 0,0,0,s1.2.1)))
      (
      some ((s1.2.2,(xo.1.body.length:Int),s1.1,0))))
     (
     cond (xo.1.proto==17)
      (
      (Xbv xo.1 (Xar.mk (Xag.mk xo.1.proto xo.1.src xo.1.dst 0 0) 0 false 0 0 false [] (s.length:Int))).bind fun d=>
      cond (d.2.1 !=0)
       (
       some ((Xar.mk (Xag.mk 0 (Xae.mk false 0 0) (Xae.mk false 0 0) 0 0) 0 false 0 0 false [] 0,0,0,d.2.1)))
       (
       some ((d.2.2,(xo.1.body.length:Int),d.1,0))))
      (
      some ((Xar.mk (Xag.mk 0 (Xae.mk false 0 0) (Xae.mk false 0 0) 0 0) 0 false 0 0 false [] 0,0,0,6)))))))
def rx55 (x:Xar×Int×Int×Int):Xc2:=⟨.tuple ⟨[.agg ⟨[.int .i64 x.1.Tuple.Proto,.bool x.1.Tuple.Src.V6,.int .u64 x.1.Tuple.Src.Hi,.int .u64 x.1.Tuple.Src.Lo,.bool x.1.Tuple.Dst.V6,.int .u64 x.1.Tuple.Dst.Hi,.int .u64 x.1.Tuple.Dst.Lo,.int .i64 x.1.Tuple.SPort,.int .i64 x.1.Tuple.DPort,.int .i64 x.1.Flags,.bool x.1.Stamped,.int .u32 x.1.Val,.int .u32 x.1.Echo,.bool x.1.Long,.string ⟨⟨x.1.CID⟩⟩,.int .i64 x.1.Size]⟩,.int .i64 x.2.1,.int .i64 x.2.2.1,.int .i64 x.2.2.2]⟩,[],[]⟩
abbrev Xdt:=(List UInt8)→Option (Xar×Int×Int×Int)
def r55 (g:Xdt):Dec:=dV asS fun (y0:List UInt8)=>XdT (ofG (g y0) rx55)
theorem r55_c {g:Xdt} {y0:List UInt8} {x:Xar×Int×Int×Int} (hx:g y0=some x):r55 g [.string ⟨⟨y0⟩⟩] []=some (rx55 x):=(Xbb (Xds)).trans (Xa7 hx)
def s55 (g:Xdt):XbS:=⟨[.v],r55 g⟩
theorem XFy {g:Xdt} {y0:List UInt8} {x:Xar×Int×Int×Int} (hx:g y0=some x):(s55 g).run [.string ⟨⟨y0⟩⟩] []=some (rx55 x):=r55_c hx
abbrev XTq (Xdh:Xd2) (Xbv:Xcx) (XbD:XcG):List (Nat×XbS):=[(88,s88 Xdh),(90,s90 Xbv),(89,s89 XbD)]
theorem XMI (Xdh:Xd2) (Xbv:Xcx) (XbD:XcG) (hS:Xaq Tryz.prog (XaL (XTq Xdh Xbv XbD))) (s:List UInt8) (res:Xar×Int×Int×Int) (h:Xjs Xdh Xbv XbD s=some res) :
 XaM Tryz.prog 55 0 ⟨⟨55,63,[(0,.string ⟨⟨s⟩⟩)],[.code XG5],[],false,none⟩,[],[],0⟩ (fun v H _=>Res 0 (rx55 res) v H):=by
 unfold Xjs at h
 have R1:=@XOk Xdh
 have R2:=@XSm XbD
 have R3:=@XSh Xbv
 refine Xbp XaP hS true 3000 ?_
 conv=>whnf
 exact W
def Xct:Xdt:=Xjs Xdh Xbv XbD
theorem XG3:Xb8 Tryz.prog 55 (s55 Xct):=by
 have hL:=XMI Xdh Xbv XbD (Xaq.XaY ⟨XRn,XPC,XOS,trivial⟩)
 exact okA ⟨Tryz.f55,rfl,by decide,rfl⟩
def XiY (Xct:Xdt) (s:List UInt8):Option (Xar×Int):=
 (Xct s).bind fun t=>
 some ((t.1,t.2.2.2))
def rx30 (x:Xar×Int):Xc2:=⟨.tuple ⟨[.agg ⟨[.int .i64 x.1.Tuple.Proto,.bool x.1.Tuple.Src.V6,.int .u64 x.1.Tuple.Src.Hi,.int .u64 x.1.Tuple.Src.Lo,.bool x.1.Tuple.Dst.V6,.int .u64 x.1.Tuple.Dst.Hi,.int .u64 x.1.Tuple.Dst.Lo,.int .i64 x.1.Tuple.SPort,.int .i64 x.1.Tuple.DPort,.int .i64 x.1.Flags,.bool x.1.Stamped,.int .u32 x.1.Val,.int .u32 x.1.Echo,.bool x.1.Long,.string ⟨⟨x.1.CID⟩⟩,.int .i64 x.1.Size]⟩,.int .i64 x.2]⟩,[],[]⟩
abbrev Xbn:=(List UInt8)→Option (Xar×Int)
def r30 (g:Xbn):Dec:=dV asS fun (y0:List UInt8)=>XdT (ofG (g y0) rx30)
theorem r30_c {g:Xbn} {y0:List UInt8} {x:Xar×Int} (hx:g y0=some x):r30 g [.string ⟨⟨y0⟩⟩] []=some (rx30 x):=(Xbb (Xds)).trans (Xa7 hx)
def s30 (g:Xbn):XbS:=⟨[.v],r30 g⟩
theorem Xq4 {g:Xbn} {y0:List UInt8} {x:Xar×Int} (hx:g y0=some x):(s30 g).run [.string ⟨⟨y0⟩⟩] []=some (rx30 x):=r30_c hx
abbrev XQ4 (Xct:Xdt):List (Nat×XbS):=[(55,s55 Xct)]
theorem XNi (Xct:Xdt) (hS:Xaq Tryz.prog (XaL (XQ4 Xct))) (s:List UInt8) (res:Xar×Int) (h:XiY Xct s=some res) :
 XaM Tryz.prog 30 0 ⟨⟨30,17,[(0,.string ⟨⟨s⟩⟩)],[.code XPK],[],false,none⟩,[],[],0⟩ (fun v H _=>Res 0 (rx30 res) v H):=by
 unfold XiY at h
 have R1:=@XFy Xct
 refine Xbp XaP hS true 3000 ?_
 conv=>whnf
 exact W
def Xaw:Xbn:=XiY Xct
theorem XrH:Xb8 Tryz.prog 30 (s30 Xaw):=by
 have hL:=XNi Xct (Xaq.XaY ⟨XG3,trivial⟩)
 exact okA ⟨Tryz.f30,rfl,by decide,rfl⟩
def XiT (Xct:Xdt) (s:List UInt8):Option (Int×Int×Int):=
 (Xct s).bind fun t=>
 cond (t.2.2.2 !=0)
  (
  some ((0,0,t.2.2.2)))
  (
  some ((wI .i64 ((s.length:Int) - t.2.1),wI .i64 ((s.length:Int) - t.2.2.1),0)))
def rx67 (x:Int×Int×Int):Xc2:=⟨.tuple ⟨[.int .i64 x.1,.int .i64 x.2.1,.int .i64 x.2.2]⟩,[],[]⟩
abbrev XcF:=(List UInt8)→Option (Int×Int×Int)
def r67 (g:XcF):Dec:=dV asS fun (y0:List UInt8)=>XdT (ofG (g y0) rx67)
theorem r67_c {g:XcF} {y0:List UInt8} {x:Int×Int×Int} (hx:g y0=some x):r67 g [.string ⟨⟨y0⟩⟩] []=some (rx67 x):=(Xbb (Xds)).trans (Xa7 hx)
def s67 (g:XcF):XbS:=⟨[.v],r67 g⟩
theorem Xyd {g:XcF} {y0:List UInt8} {x:Int×Int×Int} (hx:g y0=some x):(s67 g).run [.string ⟨⟨y0⟩⟩] []=some (rx67 x):=r67_c hx
abbrev XTb (Xct:Xdt):List (Nat×XbS):=[(55,s55 Xct)]
theorem XI9 (Xct:Xdt) (hS:Xaq Tryz.prog (XaL (XTb Xct))) (s:List UInt8) (res:Int×Int×Int) (h:XiT Xct s=some res) :
 XaM Tryz.prog 67 0 ⟨⟨67,27,[(0,.string ⟨⟨s⟩⟩)],[.code XF9],[],false,none⟩,[],[],0⟩ (fun v H _=>Res 0 (rx67 res) v H):=by
 unfold XiT at h
 have R1:=@XFy Xct
 refine Xbp XaP hS true 3000 ?_
 conv=>whnf
 exact W
def Xbf:XcF:=XiT Xct
theorem XBi:Xb8 Tryz.prog 67 (s67 Xbf):=by
 have hL:=XI9 Xct (Xaq.XaY ⟨XG3,trivial⟩)
 exact okA ⟨Tryz.f67,rfl,by decide,rfl⟩
end Go.Vm.Code
namespace Go.Vm.Code
open Go Go.Vm
def zP:Xar:=⟨⟨0,⟨false,0,0⟩,⟨false,0,0⟩,0,0⟩,0,false,0,0,false,[],0⟩
structure O11 where
 src:Xae
 dst:Xae
 proto:Int
 size:Nat
 body:List UInt8
 err:Int
def zO (e:Int):O11:=⟨⟨false,0,0⟩,⟨false,0,0⟩,0,0,[],e⟩
def Xak (s:List UInt8):O11:=
 if vK s 0 1/16=4 then (if (XiD s).2.2≠0 then zO (XiD s).2.2 else if s.length≠20+(XiD s).1.Options.length+(XiD s).2.1.length then zO 5 else ⟨(XiD s).1.Src,(XiD s).1.Dst,(XiD s).1.Proto,20+(XiD s).1.Options.length,(XiD s).2.1,0⟩)
 else if vK s 0 1/16=6 then (if (Xj1 s).2.2≠0 then zO (Xj1 s).2.2 else if s.length≠40+(Xj1 s).2.1.length then zO 5 else ⟨(Xj1 s).1.Src,(Xj1 s).1.Dst,(Xj1 s).1.Next,40,(Xj1 s).2.1,0⟩)
 else zO 3
def Xxi (o:List UInt8):Bool×Int×Int:=if 0≤(Xf5 o).2.2 then (true,(Xf5 o).1,(Xf5 o).2.1) else (false,0,0)
def XxS (b:List UInt8):Bool×List UInt8:=if (Xho b).2=0 then ((Xho b).1.Long,(Xho b).1.DCID) else (false,[])
def Xf9 (o:O11) (n:Nat):Xar×Nat×Int:=
 if o.proto=6 then (if (Xhy o.body o.src o.dst).2.2≠0 then (zP,0,(Xhy o.body o.src o.dst).2.2) else
  (⟨⟨o.proto,o.src,o.dst,(Xhy o.body o.src o.dst).1.SPort,(Xhy o.body o.src o.dst).1.DPort⟩,(Xhy o.body o.src o.dst).1.Flags,(Xxi (Xhy o.body o.src o.dst).1.Options).1,(Xxi (Xhy o.body o.src o.dst).1.Options).2.1,(Xxi (Xhy o.body o.src o.dst).1.Options).2.2,false,[],n⟩,(Xhy o.body o.src o.dst).2.1.length,0))
 else if o.proto=17 then (if (Xhw o.body o.src o.dst).2.2≠0 then (zP,0,(Xhw o.body o.src o.dst).2.2) else if (Xhw o.body o.src o.dst).2.1.length+8≠o.body.length then (zP,0,5) else
  (⟨⟨o.proto,o.src,o.dst,(Xhw o.body o.src o.dst).1.SPort,(Xhw o.body o.src o.dst).1.DPort⟩,0,false,0,0,(XxS (Xhw o.body o.src o.dst).2.1).1,(XxS (Xhw o.body o.src o.dst).2.1).2,n⟩,(Xhw o.body o.src o.dst).2.1.length,0))
 else (zP,0,6)
def Xav (s:List UInt8):Xar×Nat×Nat×Int:=
 if 9000<s.length then (zP,0,0,5) else if s=[] then (zP,0,0,2) else if (Xak s).err≠0 then (zP,0,0,(Xak s).err) else
  if (Xf9 (Xak s) s.length).2.2≠0 then (zP,0,0,(Xf9 (Xak s) s.length).2.2) else
   ((Xf9 (Xak s) s.length).1,s.length - (Xak s).body.length,s.length - (Xf9 (Xak s) s.length).2.1,0)
theorem XMz (s:List UInt8):A4 (XiD s).1.Src∧A4 (XiD s).1.Dst:=by
 have z:A4 ⟨false,0,0⟩:=⟨by simp only [];omega,by simp only [];omega,by simp only [];omega,by simp only [];omega⟩
 have k:∀ p,A4 (Xya s p):=fun p=>by
  have:=Xfz s p 4 4294967296 (by decide)
  exact ⟨Int.le_refl 0,by show (0:Int)<2^64;decide,this.1,by show vK s p 4<2^64;omega⟩
 unfold XiD
 split
 ·exact ⟨z,z⟩
 split
 ·exact ⟨z,z⟩
 split
 ·exact ⟨z,z⟩
 split
 ·exact ⟨z,z⟩
 split
 ·exact ⟨z,z⟩
 split
 ·exact ⟨z,z⟩
 split
 ·exact ⟨z,z⟩
 exact ⟨k 12,k 16⟩
theorem XK2 (s:List UInt8):A4 (Xj1 s).1.Src∧A4 (Xj1 s).1.Dst:=by
 have z:A4 ⟨false,0,0⟩:=⟨by simp only [];omega,by simp only [];omega,by simp only [];omega,by simp only [];omega⟩
 have k:∀ p,A4 (XxH ((s.drop p).take 16)):=fun p=>by
  have h1:Xed (((s.drop p).take 16).take 8)<2^64:=Xdk _ (by decide)
  have h2:Xed (((s.drop p).take 16).drop 8)<2^64:=by
   have:=XtR (((s.drop p).take 16).drop 8)
   refine Nat.lt_of_lt_of_le this ?_
   have:(((s.drop p).take 16).drop 8).length≤8:=by simp;omega
   exact Nat.pow_le_pow_right (n:=256) (by decide) this
  unfold XxH
  exact ⟨by simp only [];omega,by simp only [];omega,by simp only [];omega,by simp only [];omega⟩
 unfold Xj1
 split
 ·exact ⟨z,z⟩
 split
 ·exact ⟨z,z⟩
 split
 ·exact ⟨z,z⟩
 exact ⟨k 8,k 24⟩
theorem XtH (s:List UInt8):A4 (Xak s).src∧A4 (Xak s).dst:=by
 have z:A4 ⟨false,0,0⟩:=⟨by simp only [];omega,by simp only [];omega,by simp only [];omega,by simp only [];omega⟩
 unfold Xak zO
 split
 ·split
  ·exact ⟨z,z⟩
  split
  ·exact ⟨z,z⟩
  exact XMz s
 split
 ·split
  ·exact ⟨z,z⟩
  split
  ·exact ⟨z,z⟩
  exact XK2 s
 exact ⟨z,z⟩
theorem Xfn {s:List UInt8} (h:(Xak s).err=0):(Xak s).body.length+(Xak s).size=s.length:=by
 unfold Xak at h ⊢
 by_cases g1:vK s 0 1/16=4
 ·rw [if_pos g1] at h ⊢
  by_cases g2:(XiD s).2.2≠0
  ·rw [if_pos g2] at h;exact absurd h g2
  rw [if_neg g2] at h ⊢
  by_cases g3:s.length≠20+(XiD s).1.Options.length+(XiD s).2.1.length
  ·rw [if_pos g3] at h;exact absurd h (by decide)
  rw [if_neg g3]
  simp only [];omega
 rw [if_neg g1] at h ⊢
 by_cases g4:vK s 0 1/16=6
 ·rw [if_pos g4] at h ⊢
  by_cases g2:(Xj1 s).2.2≠0
  ·rw [if_pos g2] at h;exact absurd h g2
  rw [if_neg g2] at h ⊢
  by_cases g3:s.length≠40+(Xj1 s).2.1.length
  ·rw [if_pos g3] at h;exact absurd h (by decide)
  rw [if_neg g3]
  simp only [];omega
 ·rw [if_neg g4] at h;exact absurd h (by decide)
theorem XpM {s:List UInt8} (h:(Xav s).2.2.2≠0):Xav s=(zP,0,0,(Xav s).2.2.2):=by
 unfold Xav at h ⊢
 split
 ·rfl
 rename_i g1
 rw [if_neg g1] at h
 split
 ·rfl
 rename_i g2
 rw [if_neg g2] at h
 split
 ·rfl
 rename_i g3
 rw [if_neg g3] at h
 split
 ·rfl
 rename_i g4
 rw [if_neg g4] at h
 exact absurd rfl h
def o11 (o:O11):Xbc:=⟨o.src,o.dst,o.proto,o.body⟩
theorem XAs {s:List UInt8} (hs:s.length<2^19) (hn:s≠[]):Xdh s=some (o11 (Xak s),(Xak s).err):=by
 unfold Xdh Xii
 have h0:0<s.length:=List.length_pos_iff.2 hn
 have e0:=Xk9 (s:=s) (p:=0) h0
 have r0:=Xfz s 0 1 256 (by decide)
 rw [List.getElem?_eq_getElem h0,Option.bind_some,←e0,XtY,show ((2:Int)^4)=16 from rfl,g5_eq (by omega),XIj (by omega),Option.bind_some,Option.bind_some]
 unfold Xak
 by_cases g1:vK s 0 1/16=4
 ·rw [if_pos g1,show (vK s 0 1/16==4)=true by simpa using g1,cond_true]
  by_cases g2:(XiD s).2.2=0
  ·have hb:(XiD s).1.Options.length≤s.length∧(XiD s).2.1.length≤s.length:=by
    unfold XiD
    repeat' split
    all_goals simp [XpU]
    omega
   rw [if_neg (by simpa using g2),show ((XiD s).2.2 !=0)=false by simpa using g2,cond_false,Xdb (n:=20+((XiD s).1.Options.length:Int)) (by omega) (by omega)]
   simp only []
   rw [Xdb (n:=20+((XiD s).1.Options.length:Int)+((XiD s).2.1.length:Int)) (by omega) (by omega)]
   by_cases g3:s.length=20+(XiD s).1.Options.length+(XiD s).2.1.length
   ·rw [if_neg (by simpa using g3),show ((s.length:Int) !=20+((XiD s).1.Options.length:Int)+((XiD s).2.1.length:Int))=false by simp;omega];rfl
   ·rw [if_pos g3,show ((s.length:Int) !=20+((XiD s).1.Options.length:Int)+((XiD s).2.1.length:Int))=true by simp;omega];rfl
  ·rw [if_pos g2,show ((XiD s).2.2 !=0)=true by simpa using g2,cond_true];rfl
 ·rw [if_neg g1,show (vK s 0 1/16==4)=false by simpa using g1,cond_false]
  by_cases g4:vK s 0 1/16=6
  ·rw [if_pos g4,show (vK s 0 1/16==6)=true by simpa using g4,cond_true]
   by_cases g2:(Xj1 s).2.2=0
   ·have hb:(Xj1 s).2.1.length≤s.length:=by
     unfold Xj1
     repeat' split
     all_goals simp
     omega
    rw [if_neg (by simpa using g2),show ((Xj1 s).2.2 !=0)=false by simpa using g2,cond_false,Xdb (n:=40+((Xj1 s).2.1.length:Int)) (by omega) (by omega)]
    by_cases g3:s.length=40+(Xj1 s).2.1.length
    ·rw [if_neg (by simpa using g3),show ((s.length:Int) !=40+((Xj1 s).2.1.length:Int))=false by simp;omega];rfl
    ·rw [if_pos g3,show ((s.length:Int) !=40+((Xj1 s).2.1.length:Int))=true by simp;omega];rfl
   ·rw [if_pos g2,show ((Xj1 s).2.2 !=0)=true by simpa using g2,cond_true];rfl
  ·rw [if_neg g4,show (vK s 0 1/16==6)=false by simpa using g4,cond_false];rfl
theorem XO3 {o:O11} {n:Nat} (h1:A4 o.src) (h2:A4 o.dst) (hb:o.body.length<2^19) (hp:o.proto=6):∃ q,XbD (o11 o) ⟨⟨o.proto,o.src,o.dst,0,0⟩,0,false,0,0,false,[],(n:Int)⟩=some (((Xf9 o n).2.1:Int),(Xf9 o n).2.2,q)∧((Xf9 o n).2.2=0→q=(Xf9 o n).1):=by
 unfold XbD Xfb Xf9 o11
 rw [if_pos hp]
 simp only []
 rw [XEn h1 h2 (by omega),Option.bind_some]
 by_cases g:(Xhy o.body o.src o.dst).2.2=0
 ·have ho:(Xhy o.body o.src o.dst).1.Options.length<2^20:=by
   unfold Xhy
   repeat' split
   all_goals simp [XqP]
   all_goals omega
  rw [if_neg (by simpa using g),show ((Xhy o.body o.src o.dst).2.2 !=0)=false by simpa using g,cond_false,Xyc ho,Option.bind_some]
  unfold Xxi
  by_cases g2:0≤(Xf5 (Xhy o.body o.src o.dst).1.Options).2.2
  ·rw [if_pos g2,XaZ (by omega)]
   exact ⟨_,rfl,fun _=>rfl⟩
  ·rw [if_neg g2,XaR (by omega)]
   exact ⟨_,rfl,fun _=>rfl⟩
 ·rw [if_pos g,show ((Xhy o.body o.src o.dst).2.2 !=0)=true by simpa using g,cond_true]
  exact ⟨_,rfl,fun h=>absurd h g⟩
theorem XQJ {o:O11} {n:Nat} (h1:A4 o.src) (h2:A4 o.dst) (hb:o.body.length<2^19) (hp:o.proto=17):∃ q,Xbv (o11 o) ⟨⟨o.proto,o.src,o.dst,0,0⟩,0,false,0,0,false,[],(n:Int)⟩=some (((Xf9 o n).2.1:Int),(Xf9 o n).2.2,q)∧((Xf9 o n).2.2=0→q=(Xf9 o n).1):=by
 unfold Xbv XeZ Xf9 o11
 rw [if_neg (by omega),if_pos hp]
 simp only []
 rw [XLt h1 h2 (by omega),Option.bind_some]
 by_cases g:(Xhw o.body o.src o.dst).2.2=0
 ·have ho:(Xhw o.body o.src o.dst).2.1.length<2^20:=by
   unfold Xhw
   repeat' split
   all_goals simp
   all_goals omega
  rw [if_neg (by simpa using g),show ((Xhw o.body o.src o.dst).2.2 !=0)=false by simpa using g,cond_false,Xdb (n:=(o.body.length:Int) - 8) (by omega) (by omega)]
  by_cases g2:(Xhw o.body o.src o.dst).2.1.length+8=o.body.length
  ·rw [if_neg (by simpa using g2),show (((Xhw o.body o.src o.dst).2.1.length:Int) !=(o.body.length:Int) - 8)=false by simp;omega,cond_false,Xv1 (by omega),Option.bind_some]
   unfold XxS
   by_cases g3:(Xho (Xhw o.body o.src o.dst).2.1).2=0
   ·rw [if_pos g3,show ((Xho (Xhw o.body o.src o.dst).2.1).2==0)=true by simpa using g3,cond_true]
    exact ⟨_,rfl,fun _=>rfl⟩
   ·rw [if_neg g3,show ((Xho (Xhw o.body o.src o.dst).2.1).2==0)=false by simpa using g3,cond_false]
    exact ⟨_,rfl,fun _=>rfl⟩
  ·rw [if_pos g2,show (((Xhw o.body o.src o.dst).2.1.length:Int) !=(o.body.length:Int) - 8)=true by simp;omega,cond_true]
   exact ⟨_,rfl,fun h=>absurd h (by decide)⟩
 ·rw [if_pos g,show ((Xhw o.body o.src o.dst).2.2 !=0)=true by simpa using g,cond_true]
  exact ⟨_,rfl,fun h=>absurd h g⟩
def XkA (s:List UInt8):Xar×Int×Int×Int:=
 if (Xav s).2.2.2≠0 then (zP,0,0,(Xav s).2.2.2) else ((Xav s).1,((s.length - (Xav s).2.1:Nat):Int),((s.length - (Xav s).2.2.1:Nat):Int),0)
theorem XBO {o:O11} {n:Nat}:(Xf9 o n).2.1≤o.body.length:=by
 unfold Xf9
 split
 ·split
  ·simp
  ·show (Xhy o.body o.src o.dst).2.1.length≤_
   unfold Xhy
   repeat' split
   all_goals simp
 split
 ·split
  ·simp
  split
  ·simp
  ·show (Xhw o.body o.src o.dst).2.1.length≤_
   unfold Xhw
   repeat' split
   all_goals simp
   all_goals omega
 ·simp
theorem Xwf {s:List UInt8} (hs:s.length<2^19):Xct s=some (XkA s):=by
 unfold Xct Xjs
 have hz:(⟨⟨0,⟨false,0,0⟩,⟨false,0,0⟩,0,0⟩,0,false,0,0,false,[],0⟩:Xar)=zP:=rfl
 rw [hz]
 by_cases g1:9000<s.length
 ·have hT:Xav s=(zP,0,0,5):=by unfold Xav;rw [if_pos g1]
  unfold XkA
  rw [XaZ (by omega),hT];rfl
 rw [XaR (by omega)]
 by_cases g2:s=[]
 ·subst g2;rfl
 rw [show (s==[])=false by simpa using g2,cond_false,XAs hs g2,Option.bind_some]
 obtain ⟨a1,a2⟩:=XtH s
 by_cases g3:(Xak s).err=0
 ·have hb:=Xfn g3
  have hil:=XBO (o:=Xak s) (n:=s.length)
  have hE:(Xf9 (Xak s) s.length).2.2≠0→XkA s=(zP,0,0,(Xf9 (Xak s) s.length).2.2):=fun g4=>by
   have hT:Xav s=(zP,0,0,(Xf9 (Xak s) s.length).2.2):=by unfold Xav;rw [if_neg g1,if_neg g2,if_neg (by simpa using g3),if_pos g4]
   unfold XkA
   rw [hT,if_pos g4]
  have hO:(Xf9 (Xak s) s.length).2.2=0→XkA s=((Xf9 (Xak s) s.length).1,((Xak s).body.length:Int),((Xf9 (Xak s) s.length).2.1:Int),0):=fun g4=>by
   have hT:Xav s=((Xf9 (Xak s) s.length).1,s.length - (Xak s).body.length,s.length - (Xf9 (Xak s) s.length).2.1,0):=by unfold Xav;rw [if_neg g1,if_neg g2,if_neg (by simpa using g3),if_neg (by simpa using g4)]
   unfold XkA
   rw [hT,if_neg (by simp)]
   simp only []
   rw [show s.length - (s.length - (Xak s).body.length)=(Xak s).body.length by omega,show s.length - (s.length - (Xf9 (Xak s) s.length).2.1)=(Xf9 (Xak s) s.length).2.1 by omega]
  simp only [g3,bne_self_eq_false,cond_false]
  by_cases p6:(Xak s).proto=6
  ·obtain ⟨q,q1,q2⟩:=XO3 (o:=Xak s) (n:=s.length) a1 a2 (by omega) p6
   have e6:((o11 (Xak s)).proto==6)=true:=by show ((Xak s).proto==6)=true;simpa using p6
   rw [e6,cond_true]
   show (XbD (o11 (Xak s)) ⟨⟨(Xak s).proto,(Xak s).src,(Xak s).dst,0,0⟩,0,false,0,0,false,[],(s.length:Int)⟩).bind _=_
   rw [q1,Option.bind_some]
   simp only []
   by_cases g4:(Xf9 (Xak s) s.length).2.2=0
   ·rw [hO g4,g4,q2 g4];rfl
   ·rw [hE g4,show ((Xf9 (Xak s) s.length).2.2 !=0)=true by simpa using g4];rfl
  ·have e6:((o11 (Xak s)).proto==6)=false:=by show ((Xak s).proto==6)=false;simpa using p6
   rw [e6,cond_false]
   by_cases p17:(Xak s).proto=17
   ·obtain ⟨q,q1,q2⟩:=XQJ (o:=Xak s) (n:=s.length) a1 a2 (by omega) p17
    have e17:((o11 (Xak s)).proto==17)=true:=by show ((Xak s).proto==17)=true;simpa using p17
    rw [e17,cond_true]
    show (Xbv (o11 (Xak s)) ⟨⟨(Xak s).proto,(Xak s).src,(Xak s).dst,0,0⟩,0,false,0,0,false,[],(s.length:Int)⟩).bind _=_
    rw [q1,Option.bind_some]
    simp only []
    by_cases g4:(Xf9 (Xak s) s.length).2.2=0
    ·rw [hO g4,g4,q2 g4];rfl
    ·rw [hE g4,show ((Xf9 (Xak s) s.length).2.2 !=0)=true by simpa using g4];rfl
   ·have e17:((o11 (Xak s)).proto==17)=false:=by show ((Xak s).proto==17)=false;simpa using p17
    have e6':(Xf9 (Xak s) s.length).2.2=6:=by unfold Xf9;rw [if_neg p6,if_neg p17]
    rw [e17,cond_false,hE (by rw [e6'];decide),e6']
 ·have hT:Xav s=(zP,0,0,(Xak s).err):=by unfold Xav;rw [if_neg g1,if_neg g2,if_pos g3]
  unfold XkA
  rw [hT,if_pos g3,show ((Xak s).err !=0)=true by simpa using g3];rfl
theorem Xnd {s:List UInt8} (hs:s.length<2^19):Xaw s=some ((Xav s).1,(Xav s).2.2.2):=by
 unfold Xaw XiY
 rw [Xwf hs,Option.bind_some]
 unfold XkA
 by_cases g:(Xav s).2.2.2=0
 ·rw [if_neg (by simpa using g),g]
 ·rw [if_pos g,XpM g]
theorem Xp7 (s:List UInt8):(Xav s).2.1≤s.length∧(Xav s).2.2.1≤s.length:=by
 unfold Xav
 repeat' split
 all_goals simp
theorem Xvu {s:List UInt8} (hs:s.length<2^19):Xbf s=some (((Xav s).2.1:Int),((Xav s).2.2.1:Int),(Xav s).2.2.2):=by
 unfold Xbf XiT
 rw [Xwf hs,Option.bind_some]
 unfold XkA
 have hl:=Xp7 s
 by_cases g:(Xav s).2.2.2=0
 ·rw [if_neg (by simpa using g),g]
  simp only [bne_self_eq_false,cond_false]
  rw [Xdb (by omega) (by omega),Xdb (by omega) (by omega),show (s.length:Int) - ((s.length - (Xav s).2.1:Nat):Int)=((Xav s).2.1:Int) by omega,show (s.length:Int) - ((s.length - (Xav s).2.2.1:Nat):Int)=((Xav s).2.2.1:Int) by omega]
 ·rw [if_pos g]
  simp only []
  rw [show ((Xav s).2.2.2 !=0)=true by simpa using g,cond_true,XpM g];rfl
end Go.Vm.Code
namespace Go.Vm.Code
open Go Go.Vm Go.Proofs
set_option maxRecDepth 100000
set_option maxHeartbeats 4000000
set_option linter.unusedVariables false
def Xnu (XhW:Xg8) (Xh3:Xhm) (s:List UInt8):Option (XeY×Int):=
 (s[0]?).bind fun (b:UInt8)=>
 cond ((wI .u8 ((b.toNat:Int).tdiv 16))==4)
  (
  (XhW s).bind fun xg=>
  let t:=wI .i64 (20+(xg.1.Options.length:Int))
  some ((XeY.mk xg.1.Src xg.1.Dst xg.1.Proto t xg.2.1,xg.2.2)))
  (
  (s[0]?).bind fun (b1:UInt8)=>
  cond ((wI .u8 ((b1.toNat:Int).tdiv 16))==6)
   (
   (Xh3 s).bind fun xg1=>
   some ((XeY.mk xg1.1.Src xg1.1.Dst xg1.1.Next 40 xg1.2.1,xg1.2.2)))
   (
   some ((XeY.mk (Xae.mk false 0 0) (Xae.mk false 0 0) 0 0 [],3))))
def rx81 (x:XeY×Int):Xc2:=⟨.tuple ⟨[.agg ⟨[.bool x.1.src.V6,.int .u64 x.1.src.Hi,.int .u64 x.1.src.Lo,.bool x.1.dst.V6,.int .u64 x.1.dst.Hi,.int .u64 x.1.dst.Lo,.int .i64 x.1.proto,.int .i64 x.1.size,.string ⟨⟨x.1.body⟩⟩]⟩,.int .i64 x.2]⟩,[],[]⟩
abbrev Xgi:=(List UInt8)→Option (XeY×Int)
def r81 (g:Xgi):Dec:=dV asS fun (y0:List UInt8)=>XdT (ofG (g y0) rx81)
theorem r81_c {g:Xgi} {y0:List UInt8} {x:XeY×Int} (hx:g y0=some x):r81 g [.string ⟨⟨y0⟩⟩] []=some (rx81 x):=(Xbb (Xds)).trans (Xa7 hx)
def s81 (g:Xgi):XbS:=⟨[.v],r81 g⟩
theorem XNR {g:Xgi} {y0:List UInt8} {x:XeY×Int} (hx:g y0=some x):(s81 g).run [.string ⟨⟨y0⟩⟩] []=some (rx81 x):=r81_c hx
abbrev XSE (XhW:Xg8) (Xh3:Xhm):List (Nat×XbS):=[(110,s110 XhW),(111,s111 Xh3)]
theorem XMu (XhW:Xg8) (Xh3:Xhm) (hS:Xaq Tryz.prog (XaL (XSE XhW Xh3))) (s:List UInt8) (res:XeY×Int) (h:Xnu XhW Xh3 s=some res) :
 XaM Tryz.prog 81 0 ⟨⟨81,53,[(0,.string ⟨⟨s⟩⟩)],[.code XFT],[],false,none⟩,[],[],0⟩ (fun v H _=>Res 0 (rx81 res) v H):=by
 unfold Xnu at h
 have R1:=@XIE XhW
 have R2:=@XKr Xh3
 refine Xbp XaP hS true 3000 ?_
 conv=>whnf
 exact W
def Xgm:Xgi:=Xnu XhW Xh3
theorem XRl:Xb8 Tryz.prog 81 (s81 Xgm):=by
 have hL:=XMu XhW Xh3 (Xaq.XaY ⟨XLN,XKn,trivial⟩)
 exact okA ⟨Tryz.f81,rfl,by decide,rfl⟩
def Xni (Xh7:Xhu) (Xc7:Xen) (XhY:Xht) (XeW:Xfs) (Xgm:Xgi) (s:List UInt8):Option (Xar×Int×Int×Int):=
 cond (decide ((s.length:Int)>9000))
  (
  some ((Xar.mk (Xag.mk 0 (Xae.mk false 0 0) (Xae.mk false 0 0) 0 0) 0 false 0 0 false [] 0,0,0,5)))
  (
  cond (s==[])
   (
   some ((Xar.mk (Xag.mk 0 (Xae.mk false 0 0) (Xae.mk false 0 0) 0 0) 0 false 0 0 false [] 0,0,0,2)))
   (
   (Xgm s).bind fun xr=>
   cond (xr.2 !=0)
    (
    some ((Xar.mk (Xag.mk 0 (Xae.mk false 0 0) (Xae.mk false 0 0) 0 0) 0 false 0 0 false [] 0,0,0,xr.2)))
    (
    let t:=wI .i64 (xr.1.size+(xr.1.body.length:Int))
    cond (t !=(s.length:Int))
     (
     some ((Xar.mk (Xag.mk 0 (Xae.mk false 0 0) (Xae.mk false 0 0) 0 0) 0 false 0 0 false [] 0,0,0,5)))
     (
     cond (xr.1.proto==6)
      (
      (Xh7 xr.1.body xr.1.src xr.1.dst).bind fun xg=>
      cond (xg.2.2 !=0)
       (
       some ((Xar.mk (Xag.mk 0 (Xae.mk false 0 0) (Xae.mk false 0 0) 0 0) 0 false 0 0 false [] 0,0,0,xg.2.2)))
       (
       (Xc7 xg.1.Options).bind fun s1=>
       cond (decide (s1.2.2≥0))
        (
        let t1:=wI .i64 ((wI .i64 (xr.1.size+20))+(xg.1.Options.length:Int))
        some ((Xar.mk (Xag.mk xr.1.proto xr.1.src xr.1.dst xg.1.SPort xg.1.DPort) xg.1.Flags true s1.1 s1.2.1 false [] (s.length:Int),xr.1.size,t1,0)))
        (
        let t2:=wI .i64 ((wI .i64 (xr.1.size+20))+(xg.1.Options.length:Int))
        some ((Xar.mk (Xag.mk xr.1.proto xr.1.src xr.1.dst xg.1.SPort xg.1.DPort) xg.1.Flags false 0 0 false [] (s.length:Int),xr.1.size,t2,0)))))
      (
      cond (xr.1.proto !=17)
       (
       some ((Xar.mk (Xag.mk 0 (Xae.mk false 0 0) (Xae.mk false 0 0) 0 0) 0 false 0 0 false [] 0,0,0,6)))
       (
       (XhY xr.1.body xr.1.src xr.1.dst).bind fun xg1=>
       cond (xg1.2.2 !=0)
        (
        some ((Xar.mk (Xag.mk 0 (Xae.mk false 0 0) (Xae.mk false 0 0) 0 0) 0 false 0 0 false [] 0,0,0,xg1.2.2)))
        (
        let t3:=(wI .i64 ((xg1.2.1.length:Int)+8)) !=(xr.1.body.length:Int)
        cond (t3)
         (
         some ((Xar.mk (Xag.mk 0 (Xae.mk false 0 0) (Xae.mk false 0 0) 0 0) 0 false 0 0 false [] 0,0,0,5)))
         (
         (XeW xg1.2.1).bind fun xg2=>
         cond (xg2.2==0)
          (
          some ((Xar.mk (Xag.mk xr.1.proto xr.1.src xr.1.dst xg1.1.SPort xg1.1.DPort) 0 false 0 0 xg2.1.Long xg2.1.DCID (s.length:Int),xr.1.size,wI .i64 (xr.1.size+8),0)))
          (
          some ((Xar.mk (Xag.mk xr.1.proto xr.1.src xr.1.dst xg1.1.SPort xg1.1.DPort) 0 false 0 0 false [] (s.length:Int),xr.1.size,wI .i64 (xr.1.size+8),0)))))))))))
def rx49 (x:Xar×Int×Int×Int):Xc2:=⟨.tuple ⟨[.agg ⟨[.int .i64 x.1.Tuple.Proto,.bool x.1.Tuple.Src.V6,.int .u64 x.1.Tuple.Src.Hi,.int .u64 x.1.Tuple.Src.Lo,.bool x.1.Tuple.Dst.V6,.int .u64 x.1.Tuple.Dst.Hi,.int .u64 x.1.Tuple.Dst.Lo,.int .i64 x.1.Tuple.SPort,.int .i64 x.1.Tuple.DPort,.int .i64 x.1.Flags,.bool x.1.Stamped,.int .u32 x.1.Val,.int .u32 x.1.Echo,.bool x.1.Long,.string ⟨⟨x.1.CID⟩⟩,.int .i64 x.1.Size]⟩,.int .i64 x.2.1,.int .i64 x.2.2.1,.int .i64 x.2.2.2]⟩,[],[]⟩
abbrev XeS:=(List UInt8)→Option (Xar×Int×Int×Int)
def r49 (g:XeS):Dec:=dV asS fun (y0:List UInt8)=>XdT (ofG (g y0) rx49)
theorem r49_c {g:XeS} {y0:List UInt8} {x:Xar×Int×Int×Int} (hx:g y0=some x):r49 g [.string ⟨⟨y0⟩⟩] []=some (rx49 x):=(Xbb (Xds)).trans (Xa7 hx)
def s49 (g:XeS):XbS:=⟨[.v],r49 g⟩
theorem XHL {g:XeS} {y0:List UInt8} {x:Xar×Int×Int×Int} (hx:g y0=some x):(s49 g).run [.string ⟨⟨y0⟩⟩] []=some (rx49 x):=r49_c hx
abbrev XRo (Xh7:Xhu) (Xc7:Xen) (XhY:Xht) (XeW:Xfs) (Xgm:Xgi):List (Nat×XbS):=[(82,s82 Xh7),(83,s83 Xc7),(84,s84 XhY),(75,s75 XeW),(81,s81 Xgm)]
theorem XMA (Xh7:Xhu) (Xc7:Xen) (XhY:Xht) (XeW:Xfs) (Xgm:Xgi) (hS:Xaq Tryz.prog (XaL (XRo Xh7 Xc7 XhY XeW Xgm))) (s:List UInt8) (res:Xar×Int×Int×Int) (h:Xni Xh7 Xc7 XhY XeW Xgm s=some res) :
 XaM Tryz.prog 49 0 ⟨⟨49,161,[(0,.string ⟨⟨s⟩⟩)],[.code XGV],[],false,none⟩,[],[],0⟩ (fun v H _=>Res 0 (rx49 res) v H):=by
 unfold Xni at h
 have R1:=@XNR Xgm
 have R2:=@XNI Xh7
 have R3:=@XF4 Xc7
 have R4:=@XSJ XhY
 have R5:=@XGF XeW
 refine Xbp XaP hS true 3000 ?_
 conv=>whnf
 exact W
def XdV:XeS:=Xni Xh7 Xc7 XhY XeW Xgm
theorem XGx:Xb8 Tryz.prog 49 (s49 XdV):=by
 have hL:=XMA Xh7 Xc7 XhY XeW Xgm (Xaq.XaY ⟨XSq,XFj,XNZ,XH4,XRl,trivial⟩)
 exact okA ⟨Tryz.f49,rfl,by decide,rfl⟩
def XlF (XdV:XeS) (s:List UInt8):Option (Xar×Int):=
 (XdV s).bind fun t=>
 some ((t.1,t.2.2.2))
def rx25 (x:Xar×Int):Xc2:=⟨.tuple ⟨[.agg ⟨[.int .i64 x.1.Tuple.Proto,.bool x.1.Tuple.Src.V6,.int .u64 x.1.Tuple.Src.Hi,.int .u64 x.1.Tuple.Src.Lo,.bool x.1.Tuple.Dst.V6,.int .u64 x.1.Tuple.Dst.Hi,.int .u64 x.1.Tuple.Dst.Lo,.int .i64 x.1.Tuple.SPort,.int .i64 x.1.Tuple.DPort,.int .i64 x.1.Flags,.bool x.1.Stamped,.int .u32 x.1.Val,.int .u32 x.1.Echo,.bool x.1.Long,.string ⟨⟨x.1.CID⟩⟩,.int .i64 x.1.Size]⟩,.int .i64 x.2]⟩,[],[]⟩
abbrev Xcz:=(List UInt8)→Option (Xar×Int)
def r25 (g:Xcz):Dec:=dV asS fun (y0:List UInt8)=>XdT (ofG (g y0) rx25)
theorem r25_c {g:Xcz} {y0:List UInt8} {x:Xar×Int} (hx:g y0=some x):r25 g [.string ⟨⟨y0⟩⟩] []=some (rx25 x):=(Xbb (Xds)).trans (Xa7 hx)
def s25 (g:Xcz):XbS:=⟨[.v],r25 g⟩
theorem XtA {g:Xcz} {y0:List UInt8} {x:Xar×Int} (hx:g y0=some x):(s25 g).run [.string ⟨⟨y0⟩⟩] []=some (rx25 x):=r25_c hx
abbrev XRE (XdV:XeS):List (Nat×XbS):=[(49,s49 XdV)]
theorem XMl (XdV:XeS) (hS:Xaq Tryz.prog (XaL (XRE XdV))) (s:List UInt8) (res:Xar×Int) (h:XlF XdV s=some res) :
 XaM Tryz.prog 25 0 ⟨⟨25,17,[(0,.string ⟨⟨s⟩⟩)],[.code XSz],[],false,none⟩,[],[],0⟩ (fun v H _=>Res 0 (rx25 res) v H):=by
 unfold XlF at h
 have R1:=@XHL XdV
 refine Xbp XaP hS true 3000 ?_
 conv=>whnf
 exact W
def Xbe:Xcz:=XlF XdV
theorem Xue:Xb8 Tryz.prog 25 (s25 Xbe):=by
 have hL:=XMl XdV (Xaq.XaY ⟨XGx,trivial⟩)
 exact okA ⟨Tryz.f25,rfl,by decide,rfl⟩
def XlY (XdV:XeS) (s:List UInt8):Option (Int×Int×Int):=
 (XdV s).bind fun t=>
 some ((t.2.1,t.2.2.1,t.2.2.2))
def rx74 (x:Int×Int×Int):Xc2:=⟨.tuple ⟨[.int .i64 x.1,.int .i64 x.2.1,.int .i64 x.2.2]⟩,[],[]⟩
abbrev Xem:=(List UInt8)→Option (Int×Int×Int)
def r74 (g:Xem):Dec:=dV asS fun (y0:List UInt8)=>XdT (ofG (g y0) rx74)
theorem r74_c {g:Xem} {y0:List UInt8} {x:Int×Int×Int} (hx:g y0=some x):r74 g [.string ⟨⟨y0⟩⟩] []=some (rx74 x):=(Xbb (Xds)).trans (Xa7 hx)
def s74 (g:Xem):XbS:=⟨[.v],r74 g⟩
theorem XG9 {g:Xem} {y0:List UInt8} {x:Int×Int×Int} (hx:g y0=some x):(s74 g).run [.string ⟨⟨y0⟩⟩] []=some (rx74 x):=r74_c hx
abbrev XTy (XdV:XeS):List (Nat×XbS):=[(49,s49 XdV)]
theorem XKl (XdV:XeS) (hS:Xaq Tryz.prog (XaL (XTy XdV))) (s:List UInt8) (res:Int×Int×Int) (h:XlY XdV s=some res) :
 XaM Tryz.prog 74 0 ⟨⟨74,19,[(0,.string ⟨⟨s⟩⟩)],[.code XRb],[],false,none⟩,[],[],0⟩ (fun v H _=>Res 0 (rx74 res) v H):=by
 unfold XlY at h
 have R1:=@XHL XdV
 refine Xbp XaP hS true 3000 ?_
 conv=>whnf
 exact W
def Xc3:Xem:=XlY XdV
theorem XGK:Xb8 Tryz.prog 74 (s74 Xc3):=by
 have hL:=XKl XdV (Xaq.XaY ⟨XGx,trivial⟩)
 exact okA ⟨Tryz.f74,rfl,by decide,rfl⟩
end Go.Vm.Code
namespace Go.Vm.Code
open Go Go.Vm
def XmG (s:List UInt8):XeY×Int:=
 if vK s 0 1/16=4 then (⟨(XiD s).1.Src,(XiD s).1.Dst,(XiD s).1.Proto,20+((XiD s).1.Options.length:Int),(XiD s).2.1⟩,(XiD s).2.2)
 else if vK s 0 1/16=6 then (⟨(Xj1 s).1.Src,(Xj1 s).1.Dst,(Xj1 s).1.Next,40,(Xj1 s).2.1⟩,(Xj1 s).2.2)
 else (⟨⟨false,0,0⟩,⟨false,0,0⟩,0,0,[]⟩,3)
theorem Xwo (s:List UInt8):(XiD s).1.Options.length≤s.length∧(XiD s).2.1.length≤s.length:=by
 unfold XiD
 repeat' split
 all_goals simp [XpU]
 omega
theorem XEb (s:List UInt8):(Xj1 s).2.1.length≤s.length:=by
 unfold Xj1
 repeat' split
 all_goals simp
 omega
theorem XIh {s:List UInt8} (hs:s.length<2^19) (hn:s≠[]):Xgm s=some (XmG s):=by
 unfold Xgm Xnu XmG
 have h0:0<s.length:=List.length_pos_iff.2 hn
 have e0:=Xk9 (s:=s) (p:=0) h0
 have r0:=Xfz s 0 1 256 (by decide)
 obtain ⟨b1,b2⟩:=Xwo s
 rw [List.getElem?_eq_getElem h0,Option.bind_some,←e0,Int.tdiv_eq_ediv_of_nonneg (by omega),wU8 (by omega) (by omega),XOP (by omega),XC5 (by omega),Option.bind_some,Option.bind_some]
 by_cases g1:vK s 0 1/16=4
 ·rw [if_pos g1,show (vK s 0 1/16==4)=true by simpa using g1,cond_true]
  rw [Xdb (n:=20+((XiD s).1.Options.length:Int)) (by omega) (by omega)]
 ·rw [if_neg g1,show (vK s 0 1/16==4)=false by simpa using g1,cond_false,Option.bind_some,←e0,Int.tdiv_eq_ediv_of_nonneg (by omega),wU8 (by omega) (by omega)]
  by_cases g4:vK s 0 1/16=6
  ·rw [if_pos g4,show (vK s 0 1/16==6)=true by simpa using g4,cond_true]
  ·rw [if_neg g4,show (vK s 0 1/16==6)=false by simpa using g4,cond_false]
theorem XER {s:List UInt8} (h:(XmG s).2≠0):(Xak s).err=(XmG s).2:=by
 unfold XmG Xak at *
 split
 ·rename_i g;rw [if_pos g] at h;rw [if_pos h];rfl
 ·rename_i g;rw [if_neg g] at h
  split
  ·rename_i g2;rw [if_pos g2] at h;rw [if_pos h];rfl
  ·rfl
theorem XAV {s:List UInt8} (h:(XmG s).2=0) (h2:(XmG s).1.size+((XmG s).1.body.length:Int)≠(s.length:Int)):(Xak s).err=5:=by
 unfold XmG Xak at *
 split
 ·rename_i g;rw [if_pos g] at h h2;rw [if_neg (by simpa using h),if_pos (by simp only [] at h2;omega)];rfl
 ·rename_i g;rw [if_neg g] at h h2
  split
  ·rename_i g2;rw [if_pos g2] at h h2;rw [if_neg (by simpa using h),if_pos (by simp only [] at h2;omega)];rfl
  ·rename_i g2;rw [if_neg g2] at h;exact absurd h (by decide)
theorem XIZ {s:List UInt8} (h:(XmG s).2=0) (h2:(XmG s).1.size+((XmG s).1.body.length:Int)=(s.length:Int)):(Xak s).err=0∧(XmG s).1=⟨(Xak s).src,(Xak s).dst,(Xak s).proto,((Xak s).size:Int),(Xak s).body⟩:=by
 unfold XmG Xak at *
 by_cases g:vK s 0 1/16=4
 ·rw [if_pos g] at h h2;rw [if_pos g,if_pos g,if_neg (by simpa using h),if_neg (by simp only [] at h2;omega)];exact ⟨rfl,rfl⟩
 ·rw [if_neg g] at h h2
  by_cases g2:vK s 0 1/16=6
  ·rw [if_pos g2] at h h2;rw [if_neg g,if_neg g,if_pos g2,if_pos g2,if_neg (by simpa using h),if_neg (by simp only [] at h2;omega)];exact ⟨rfl,rfl⟩
  ·rw [if_neg g2] at h;exact absurd h (by decide)
theorem XDW {b:List UInt8} {src dst:Xae} (h:(Xhy b src dst).2.2=0):20+(Xhy b src dst).1.Options.length+(Xhy b src dst).2.1.length=b.length:=by
 have r:=Xfz b 12 1 256 (by decide)
 unfold Xhy at h ⊢
 by_cases g0:b.length<20
 ·rw [if_pos g0] at h;exact absurd h (by decide)
 by_cases g1:4*(vK b 12 1/16)<20
 ·rw [if_neg g0,if_pos g1] at h;exact absurd h (by decide)
 by_cases g2:vK b 12 1%16≠0
 ·rw [if_neg g0,if_neg g1,if_pos g2] at h;exact absurd h (by decide)
 by_cases g3:(b.length:Int)<4*(vK b 12 1/16)
 ·rw [if_neg g0,if_neg g1,if_neg g2,if_pos g3] at h;exact absurd h (by decide)
 by_cases g4:Xog src dst 6 b.length=[]
 ·rw [if_neg g0,if_neg g1,if_neg g2,if_neg g3,if_pos g4] at h;exact absurd h (by decide)
 by_cases g5:norm (Xez (Xog src dst 6 b.length++b))≠65535
 ·rw [if_neg g0,if_neg g1,if_neg g2,if_neg g3,if_neg g4,if_pos g5] at h;exact absurd h (by decide)
 by_cases g6:(Xlk ((b.drop 20).take ((4*(vK b 12 1/16)).toNat - 20))).2≠0
 ·rw [if_neg g0,if_neg g1,if_neg g2,if_neg g3,if_neg g4,if_neg g5,if_pos g6] at h;exact absurd h g6
 rw [if_neg g0,if_neg g1,if_neg g2,if_neg g3,if_neg g4,if_neg g5,if_neg g6]
 simp only [List.length_take,List.length_drop]
 omega
theorem Xwd {s:List UInt8} (hs:s.length<2^19):XdV s=some ((Xav s).1,((Xav s).2.1:Int),((Xav s).2.2.1:Int),(Xav s).2.2.2):=by
 unfold XdV Xni
 have hz:(⟨⟨0,⟨false,0,0⟩,⟨false,0,0⟩,0,0⟩,0,false,0,0,false,[],0⟩:Xar)=zP:=rfl
 rw [hz]
 simp only []
 by_cases g1:9000<s.length
 ·have hT:Xav s=(zP,0,0,5):=by unfold Xav;rw [if_pos g1]
  rw [XaZ (by omega),hT];rfl
 rw [XaR (by omega)]
 by_cases g2:s=[]
 ·subst g2;rfl
 rw [show (s==[])=false by simpa using g2,cond_false,XIh hs g2,Option.bind_some]
 by_cases g3:(XmG s).2=0
 ·rw [show ((XmG s).2 !=0)=false by simpa using g3,cond_false]
  have bs:(XmG s).1.body.length≤s.length∧0≤(XmG s).1.size∧(XmG s).1.size≤40+(s.length:Int):=by
   obtain ⟨b1,b2⟩:=Xwo s
   have b3:=XEb s
   unfold XmG
   split
   ·exact ⟨b2,by simp only [];omega,by simp only [];omega⟩
   split
   ·exact ⟨b3,by simp only [];omega,by simp only [];omega⟩
   ·exact ⟨by simp,by simp only [];omega,by simp only [];omega⟩
  rw [Xdb (n:=(XmG s).1.size+((XmG s).1.body.length:Int)) (by omega) (by omega)]
  by_cases gl:(XmG s).1.size+((XmG s).1.body.length:Int)=(s.length:Int)
  ·obtain ⟨k1,k2⟩:=XIZ g3 gl
   rw [show ((XmG s).1.size+((XmG s).1.body.length:Int) !=(s.length:Int))=false by simpa using gl,k2]
   simp only [cond_false]
   obtain ⟨a1,a2⟩:=XtH s
   have hb:=Xfn k1
   have hE:(Xf9 (Xak s) s.length).2.2≠0→Xav s=(zP,0,0,(Xf9 (Xak s) s.length).2.2):=fun g4=>by
    unfold Xav;rw [if_neg g1,if_neg g2,if_neg (by simpa using k1),if_pos g4]
   have hO:(Xf9 (Xak s) s.length).2.2=0→Xav s=((Xf9 (Xak s) s.length).1,s.length - (Xak s).body.length,s.length - (Xf9 (Xak s) s.length).2.1,0):=fun g4=>by
    unfold Xav;rw [if_neg g1,if_neg g2,if_neg (by simpa using k1),if_neg (by simpa using g4)]
   generalize hO':Xak s=o at *
   by_cases p6:o.proto=6
   ·rw [show (o.proto==6)=true by simpa using p6,cond_true,XDJ a1 a2 (by omega),Option.bind_some]
    by_cases g:(Xhy o.body o.src o.dst).2.2=0
    ·have hl7:=XDW g
     have hin:Xf9 o s.length=(⟨⟨o.proto,o.src,o.dst,(Xhy o.body o.src o.dst).1.SPort,(Xhy o.body o.src o.dst).1.DPort⟩,(Xhy o.body o.src o.dst).1.Flags,(Xxi (Xhy o.body o.src o.dst).1.Options).1,(Xxi (Xhy o.body o.src o.dst).1.Options).2.1,(Xxi (Xhy o.body o.src o.dst).1.Options).2.2,false,[],s.length⟩,(Xhy o.body o.src o.dst).2.1.length,0):=by
      unfold Xf9;rw [if_pos p6,if_neg (by simpa using g)]
     rw [hO (by rw [hin]),hin]
     rw [show ((Xhy o.body o.src o.dst).2.2 !=0)=false by simpa using g,cond_false,Xx7 (by omega),Option.bind_some]
     simp only []
     rw [Xdb (n:=(o.size:Int)+20) (by omega) (by omega),Xdb (n:=(o.size:Int)+20+((Xhy o.body o.src o.dst).1.Options.length:Int)) (by omega) (by omega),show ((s.length - o.body.length:Nat):Int)=(o.size:Int) by omega,show ((s.length - (Xhy o.body o.src o.dst).2.1.length:Nat):Int)=(o.size:Int)+20+((Xhy o.body o.src o.dst).1.Options.length:Int) by omega]
     unfold Xxi
     by_cases g5:0≤(Xf5 (Xhy o.body o.src o.dst).1.Options).2.2
     ·rw [if_pos g5,XaZ (by omega)]
     ·rw [if_neg g5,XaR (by omega)]
    ·have hin:Xf9 o s.length=(zP,0,(Xhy o.body o.src o.dst).2.2):=by
      unfold Xf9;rw [if_pos p6,if_pos g]
     rw [hE (by rw [hin];exact g),hin,show ((Xhy o.body o.src o.dst).2.2 !=0)=true by simpa using g];rfl
   ·rw [show (o.proto==6)=false by simpa using p6,cond_false]
    by_cases p17:o.proto=17
    ·rw [show (o.proto !=17)=false by simpa using p17,cond_false,XCG a1 a2 (by omega),Option.bind_some]
     by_cases g:(Xhw o.body o.src o.dst).2.2=0
     ·have hb8:(Xhw o.body o.src o.dst).2.1.length≤o.body.length:=by
       unfold Xhw
       repeat' split
       all_goals simp
       all_goals omega
      rw [show ((Xhw o.body o.src o.dst).2.2 !=0)=false by simpa using g,cond_false]
      rw [Xdb (n:=((Xhw o.body o.src o.dst).2.1.length:Int)+8) (by omega) (by omega)]
      by_cases g6:(Xhw o.body o.src o.dst).2.1.length+8=o.body.length
      ·have hin:Xf9 o s.length=(⟨⟨o.proto,o.src,o.dst,(Xhw o.body o.src o.dst).1.SPort,(Xhw o.body o.src o.dst).1.DPort⟩,0,false,0,0,(XxS (Xhw o.body o.src o.dst).2.1).1,(XxS (Xhw o.body o.src o.dst).2.1).2,s.length⟩,(Xhw o.body o.src o.dst).2.1.length,0):=by
        unfold Xf9;rw [if_neg p6,if_pos p17,if_neg (by simpa using g),if_neg (by simpa using g6)]
       rw [hO (by rw [hin]),hin,show (((Xhw o.body o.src o.dst).2.1.length:Int)+8 !=(o.body.length:Int))=false by simp;omega,cond_false,Xvy (by omega),Option.bind_some,Xdb (n:=(o.size:Int)+8) (by omega) (by omega)]
       simp only []
       rw [show ((s.length - o.body.length:Nat):Int)=(o.size:Int) by omega,show ((s.length - (Xhw o.body o.src o.dst).2.1.length:Nat):Int)=(o.size:Int)+8 by omega]
       unfold XxS
       by_cases g5:(Xho (Xhw o.body o.src o.dst).2.1).2=0
       ·rw [if_pos g5,show ((Xho (Xhw o.body o.src o.dst).2.1).2==0)=true by simpa using g5,cond_true]
       ·rw [if_neg g5,show ((Xho (Xhw o.body o.src o.dst).2.1).2==0)=false by simpa using g5,cond_false]
      ·have hin:Xf9 o s.length=(zP,0,5):=by
        unfold Xf9;rw [if_neg p6,if_pos p17,if_neg (by simpa using g),if_pos g6]
       rw [hE (by rw [hin];decide),hin,show (((Xhw o.body o.src o.dst).2.1.length:Int)+8 !=(o.body.length:Int))=true by simp;omega];rfl
     ·have hin:Xf9 o s.length=(zP,0,(Xhw o.body o.src o.dst).2.2):=by
       unfold Xf9;rw [if_neg p6,if_pos p17,if_pos g]
      rw [hE (by rw [hin];exact g),hin,show ((Xhw o.body o.src o.dst).2.2 !=0)=true by simpa using g];rfl
    ·have hin:Xf9 o s.length=(zP,0,6):=by
      unfold Xf9;rw [if_neg p6,if_neg p17]
     rw [hE (by rw [hin];decide),hin,show (o.proto !=17)=true by simpa using p17];rfl
  ·have hT:Xav s=(zP,0,0,5):=by
    have e:=XAV g3 gl
    unfold Xav;rw [if_neg g1,if_neg g2,if_pos (by rw [e];decide),e]
   rw [hT,show ((XmG s).1.size+((XmG s).1.body.length:Int) !=(s.length:Int))=true by simpa using gl];rfl
 ·have hT:Xav s=(zP,0,0,(XmG s).2):=by
   have e:=XER g3
   unfold Xav;rw [if_neg g1,if_neg g2,if_pos (by rw [e];exact g3),e]
  rw [hT,show ((XmG s).2 !=0)=true by simpa using g3];rfl
theorem XkV {s:List UInt8} (hs:s.length<2^19):Xbe s=some ((Xav s).1,(Xav s).2.2.2):=by
 unfold Xbe XlF
 rw [Xwd hs,Option.bind_some]
theorem Xtx {s:List UInt8} (hs:s.length<2^19):Xc3 s=some (((Xav s).2.1:Int),((Xav s).2.2.1:Int),(Xav s).2.2.2):=by
 unfold Xc3 XlY
 rw [Xwd hs,Option.bind_some]
end Go.Vm.Code
namespace Go.Vm.Code
open Go Go.Vm Go.Proofs
set_option maxRecDepth 100000
set_option maxHeartbeats 4000000
set_option linter.unusedVariables false
def XpH (t:Xag):Option Xag:=
 some (Xag.mk t.Proto t.Dst t.Src t.DPort t.SPort)
def rx24 (x:Xag):Xc2:=⟨.agg ⟨[.int .i64 x.Proto,.bool x.Src.V6,.int .u64 x.Src.Hi,.int .u64 x.Src.Lo,.bool x.Dst.V6,.int .u64 x.Dst.Hi,.int .u64 x.Dst.Lo,.int .i64 x.SPort,.int .i64 x.DPort]⟩,[],[]⟩
abbrev Xge:=Xag→Option Xag
def r24 (g:Xge):Dec:=dV XdQ fun (y0:Xag)=>XdT (ofG (g y0) rx24)
theorem r24_c {g:Xge} {y0:Xag} {x:Xag} (hx:g y0=some x):r24 g [.agg ⟨[.int .i64 y0.Proto,.bool y0.Src.V6,.int .u64 y0.Src.Hi,.int .u64 y0.Src.Lo,.bool y0.Dst.V6,.int .u64 y0.Dst.Hi,.int .u64 y0.Dst.Lo,.int .i64 y0.SPort,.int .i64 y0.DPort]⟩] []=some (rx24 x):=(Xbb (XdX _)).trans (Xa7 hx)
def s24 (g:Xge):XbS:=⟨[.v],r24 g⟩
theorem XPS {g:Xge} {y0:Xag} {x:Xag} (hx:g y0=some x):(s24 g).run [.agg ⟨[.int .i64 y0.Proto,.bool y0.Src.V6,.int .u64 y0.Src.Hi,.int .u64 y0.Src.Lo,.bool y0.Dst.V6,.int .u64 y0.Dst.Hi,.int .u64 y0.Dst.Lo,.int .i64 y0.SPort,.int .i64 y0.DPort]⟩] []=some (rx24 x):=r24_c hx
abbrev XOn:List (Nat×XbS):=[]
theorem XKp (hS:Xaq Tryz.prog (XaL (XOn))) (t:Xag) (res:Xag) (h:XpH t=some res) :
 XaM Tryz.prog 24 0 ⟨⟨24,14,[(0,.agg ⟨[.int .i64 t.Proto,.bool t.Src.V6,.int .u64 t.Src.Hi,.int .u64 t.Src.Lo,.bool t.Dst.V6,.int .u64 t.Dst.Hi,.int .u64 t.Dst.Lo,.int .i64 t.SPort,.int .i64 t.DPort]⟩)],[.code XOO],[],false,none⟩,[],[],0⟩ (fun v H _=>Res 0 (rx24 res) v H):=by
 unfold XpH at h
 refine Xbp XaP hS true 3000 ?_
 conv=>whnf
 exact W
def XgO:Xge:=XpH
theorem XRN:Xb8 Tryz.prog 24 (s24 XgO):=by
 have hL:=XKp (Xaq.XaY trivial)
 exact okA ⟨Tryz.f24,rfl,by decide,rfl⟩
def Xmq (t:Xag):Option Xag:=
 some (Xag.mk t.Proto t.Dst t.Src t.DPort t.SPort)
def rx36 (x:Xag):Xc2:=⟨.agg ⟨[.int .i64 x.Proto,.bool x.Src.V6,.int .u64 x.Src.Hi,.int .u64 x.Src.Lo,.bool x.Dst.V6,.int .u64 x.Dst.Hi,.int .u64 x.Dst.Lo,.int .i64 x.SPort,.int .i64 x.DPort]⟩,[],[]⟩
abbrev XdS:=Xag→Option Xag
def r36 (g:XdS):Dec:=dV XdQ fun (y0:Xag)=>XdT (ofG (g y0) rx36)
theorem r36_c {g:XdS} {y0:Xag} {x:Xag} (hx:g y0=some x):r36 g [.agg ⟨[.int .i64 y0.Proto,.bool y0.Src.V6,.int .u64 y0.Src.Hi,.int .u64 y0.Src.Lo,.bool y0.Dst.V6,.int .u64 y0.Dst.Hi,.int .u64 y0.Dst.Lo,.int .i64 y0.SPort,.int .i64 y0.DPort]⟩] []=some (rx36 x):=(Xbb (XdX _)).trans (Xa7 hx)
def s36 (g:XdS):XbS:=⟨[.v],r36 g⟩
theorem XFE {g:XdS} {y0:Xag} {x:Xag} (hx:g y0=some x):(s36 g).run [.agg ⟨[.int .i64 y0.Proto,.bool y0.Src.V6,.int .u64 y0.Src.Hi,.int .u64 y0.Src.Lo,.bool y0.Dst.V6,.int .u64 y0.Dst.Hi,.int .u64 y0.Dst.Lo,.int .i64 y0.SPort,.int .i64 y0.DPort]⟩] []=some (rx36 x):=r36_c hx
abbrev XRf:List (Nat×XbS):=[]
theorem XKR (hS:Xaq Tryz.prog (XaL (XRf))) (t:Xag) (res:Xag) (h:Xmq t=some res) :
 XaM Tryz.prog 36 0 ⟨⟨36,16,[(0,.agg ⟨[.int .i64 t.Proto,.bool t.Src.V6,.int .u64 t.Src.Hi,.int .u64 t.Src.Lo,.bool t.Dst.V6,.int .u64 t.Dst.Hi,.int .u64 t.Dst.Lo,.int .i64 t.SPort,.int .i64 t.DPort]⟩)],[.code XQb],[],false,none⟩,[],[],0⟩ (fun v H _=>Res 0 (rx36 res) v H):=by
 unfold Xmq at h
 refine Xbp XaP hS true 3000 ?_
 conv=>whnf
 exact W
def XcP:XdS:=Xmq
theorem XHE:Xb8 Tryz.prog 36 (s36 XcP):=by
 have hL:=XKR (Xaq.XaY trivial)
 exact okA ⟨Tryz.f36,rfl,by decide,rfl⟩
end Go.Vm.Code
namespace Go.Vm.Code
open Go Go.Vm
def XkF (t:Xag):Xag:=⟨t.Proto,t.Dst,t.Src,t.DPort,t.SPort⟩
theorem Xua (t:Xag):XcP t=some (XkF t)∧XgO t=some (XkF t):=⟨rfl,rfl⟩
def XDg (a b:Xag):Bool:=(a.Proto==b.Proto)&&((a.Src.V6==b.Src.V6)&&((a.Src.Hi==b.Src.Hi)&&((a.Src.Lo==b.Src.Lo)&&((a.Dst.V6==b.Dst.V6)&&((a.Dst.Hi==b.Dst.Hi)&&((a.Dst.Lo==b.Dst.Lo)&&((a.SPort==b.SPort)&&((a.DPort==b.DPort)&&true))))))))
theorem Xtp {a b:Xag}:XDg a b=true↔a=b:=by
 unfold XDg
 obtain ⟨a1,⟨a2,a3,a4⟩,⟨a5,a6,a7⟩,a8,a9⟩:=a
 obtain ⟨b1,⟨b2,b3,b4⟩,⟨b5,b6,b7⟩,b8,b9⟩:=b
 simp [and_assoc]
structure Good43 (t:Xag):Prop where
 src:A4 t.Src
 dst:A4 t.Dst
 sa:aok t.Src=true
 da:aok t.Dst=true
 six:t.Src.V6=t.Dst.V6
 sp:0≤t.SPort∧t.SPort≤65535
 dp:0≤t.DPort∧t.DPort≤65535
end Go.Vm.Code
namespace Go.Vm.Code
open Go Go.Vm Go.Proofs
set_option maxRecDepth 100000
set_option maxHeartbeats 4000000
set_option linter.unusedVariables false
def Xdg (s:List UInt8) (prefixa1:List UInt8):Option Bool:=
 let t:=decide ((s.length:Int)≥(prefixa1.length:Int))
 cond (t)
  (
  Xbr (decide ((0:Int)≤(prefixa1.length:Int)∧(prefixa1.length:Int)≤(s.length:Int))) <|
  some ((s.take prefixa1.length)==prefixa1))
  (
  some (false))
def XC1 (x:Bool):Xc2:=⟨.bool x,[],[]⟩
abbrev Xby:=(List UInt8)→(List UInt8)→Option Bool
def r113 (g:Xby):Dec:=dV asS fun (y0:List UInt8)=>dV asS fun (y1:List UInt8)=>XdT (ofG (g y0 y1) XC1)
theorem XSj {g:Xby} {y0:List UInt8} {y1:List UInt8} {x:Bool} (hx:g y0 y1=some x):r113 g [.string ⟨⟨y0⟩⟩,.string ⟨⟨y1⟩⟩] []=some (XC1 x):=(Xbb (Xds)).trans ((Xbb (Xds)).trans (Xa7 hx))
def s113 (g:Xby):XbS:=⟨[.v,.v],r113 g⟩
theorem XJ4 {g:Xby} {y0:List UInt8} {y1:List UInt8} {x:Bool} (hx:g y0 y1=some x):(s113 g).run [.string ⟨⟨y0⟩⟩,.string ⟨⟨y1⟩⟩] []=some (XC1 x):=XSj hx
abbrev XIW:List (Nat×XbS):=[]
theorem XCu (hS:Xaq Tryz.prog (XaL (XIW))) (s:List UInt8) (prefixa1:List UInt8) (res:Bool) (h:Xdg s prefixa1=some res) :
 XaM Tryz.prog 113 0 ⟨⟨113,18,[(0,.string ⟨⟨s⟩⟩),(1,.string ⟨⟨prefixa1⟩⟩)],[.code XHY],[],false,none⟩,[],[],0⟩ (fun v H _=>Res 0 (XC1 res) v H):=by
 unfold Xdg at h
 refine Xbp XaP hS true 3000 ?_
 conv=>whnf
 exact W
def Xa2:Xby:=Xdg
theorem XKf:Xb8 Tryz.prog 113 (s113 Xa2):=by
 have hL:=XCu (Xaq.XaY trivial)
 exact okA ⟨Tryz.f113,rfl,by decide,rfl⟩
def Xdf (Xa2:Xby) (s:List UInt8) (prefixa1:List UInt8):Option ((List UInt8)×Bool):=
 (Xa2 s prefixa1).bind fun xh=>
 cond (!xh)
  (
  some ((s,false)))
  (
  Xbr (decide ((0:Int)≤(prefixa1.length:Int)∧(prefixa1.length:Int)≤(s.length:Int))) <|
  let t:=(s.drop prefixa1.length).take (s.length - prefixa1.length)
  some ((t,true)))
def rx85 (x:(List UInt8)×Bool):Xc2:=⟨.tuple ⟨[.string ⟨⟨x.1⟩⟩,.bool x.2]⟩,[],[]⟩
abbrev Xbu:=(List UInt8)→(List UInt8)→Option ((List UInt8)×Bool)
def r85 (g:Xbu):Dec:=dV asS fun (y0:List UInt8)=>dV asS fun (y1:List UInt8)=>XdT (ofG (g y0 y1) rx85)
theorem r85_c {g:Xbu} {y0:List UInt8} {y1:List UInt8} {x:(List UInt8)×Bool} (hx:g y0 y1=some x):r85 g [.string ⟨⟨y0⟩⟩,.string ⟨⟨y1⟩⟩] []=some (rx85 x):=(Xbb (Xds)).trans ((Xbb (Xds)).trans (Xa7 hx))
def s85 (g:Xbu):XbS:=⟨[.v,.v],r85 g⟩
theorem XSP {g:Xbu} {y0:List UInt8} {y1:List UInt8} {x:(List UInt8)×Bool} (hx:g y0 y1=some x):(s85 g).run [.string ⟨⟨y0⟩⟩,.string ⟨⟨y1⟩⟩] []=some (rx85 x):=r85_c hx
abbrev XRq (Xa2:Xby):List (Nat×XbS):=[(113,s113 Xa2)]
theorem XJn (Xa2:Xby) (hS:Xaq Tryz.prog (XaL (XRq Xa2))) (s:List UInt8) (prefixa1:List UInt8) (res:(List UInt8)×Bool) (h:Xdf Xa2 s prefixa1=some res) :
 XaM Tryz.prog 85 0 ⟨⟨85,15,[(0,.string ⟨⟨s⟩⟩),(1,.string ⟨⟨prefixa1⟩⟩)],[.code XQP],[],false,none⟩,[],[],0⟩ (fun v H _=>Res 0 (rx85 res) v H):=by
 unfold Xdf at h
 have R1:=@XJ4 Xa2
 refine Xbp XaP hS true 3000 ?_
 conv=>whnf
 exact W
def Xa3:Xbu:=Xdf Xa2
theorem XSt:Xb8 Tryz.prog 85 (s85 Xa3):=by
 have hL:=XJn Xa2 (Xaq.XaY ⟨XKf,trivial⟩)
 exact okA ⟨Tryz.f85,rfl,by decide,rfl⟩
def Xf3 (Xa3:Xbu) (s:List UInt8) (prefixa1:List UInt8):Option ((List UInt8)×Bool):=
 (Xa3 s prefixa1).bind fun c=>
 some ((c.1,c.2))
def rx50 (x:(List UInt8)×Bool):Xc2:=⟨.tuple ⟨[.string ⟨⟨x.1⟩⟩,.bool x.2]⟩,[],[]⟩
abbrev XcY:=(List UInt8)→(List UInt8)→Option ((List UInt8)×Bool)
def r50 (g:XcY):Dec:=dV asS fun (y0:List UInt8)=>dV asS fun (y1:List UInt8)=>XdT (ofG (g y0 y1) rx50)
theorem r50_c {g:XcY} {y0:List UInt8} {y1:List UInt8} {x:(List UInt8)×Bool} (hx:g y0 y1=some x):r50 g [.string ⟨⟨y0⟩⟩,.string ⟨⟨y1⟩⟩] []=some (rx50 x):=(Xbb (Xds)).trans ((Xbb (Xds)).trans (Xa7 hx))
def s50 (g:XcY):XbS:=⟨[.v,.v],r50 g⟩
theorem XRz {g:XcY} {y0:List UInt8} {y1:List UInt8} {x:(List UInt8)×Bool} (hx:g y0 y1=some x):(s50 g).run [.string ⟨⟨y0⟩⟩,.string ⟨⟨y1⟩⟩] []=some (rx50 x):=r50_c hx
abbrev XPD (Xa3:Xbu):List (Nat×XbS):=[(85,s85 Xa3)]
theorem XIX (Xa3:Xbu) (hS:Xaq Tryz.prog (XaL (XPD Xa3))) (s:List UInt8) (prefixa1:List UInt8) (res:(List UInt8)×Bool) (h:Xf3 Xa3 s prefixa1=some res) :
 XaM Tryz.prog 50 0 ⟨⟨50,11,[(0,.string ⟨⟨s⟩⟩),(1,.string ⟨⟨prefixa1⟩⟩)],[.code XSv],[],false,none⟩,[],[],0⟩ (fun v H _=>Res 0 (rx50 res) v H):=by
 unfold Xf3 at h
 have R1:=@XSP Xa3
 refine Xbp XaP hS true 3000 ?_
 conv=>whnf
 exact W
def strings_CutPrefix:XcY:=Xf3 Xa3
theorem XTz:Xb8 Tryz.prog 50 (s50 strings_CutPrefix):=by
 have hL:=XIX Xa3 (Xaq.XaY ⟨XSt,trivial⟩)
 exact okA ⟨Tryz.f50,rfl,by decide,rfl⟩
def Xqm (six:Bool):Option Int:=
 cond (six)
  (
  some (41))
  (
  some (4))
def rx53 (x:Int):Xc2:=⟨.int .i64 x,[],[]⟩
abbrev Xgb:=Bool→Option Int
def r53 (g:Xgb):Dec:=dV asB fun (y0:Bool)=>XdT (ofG (g y0) rx53)
theorem r53_c {g:Xgb} {y0:Bool} {x:Int} (hx:g y0=some x):r53 g [.bool y0] []=some (rx53 x):=(Xbb (asB_c)).trans (Xa7 hx)
def s53 (g:Xgb):XbS:=⟨[.v],r53 g⟩
theorem XTw {g:Xgb} {y0:Bool} {x:Int} (hx:g y0=some x):(s53 g).run [.bool y0] []=some (rx53 x):=r53_c hx
abbrev XNQ:List (Nat×XbS):=[]
theorem XJO (hS:Xaq Tryz.prog (XaL (XNQ))) (six:Bool) (res:Int) (h:Xqm six=some res) :
 XaM Tryz.prog 53 0 ⟨⟨53,4,[(0,.bool six)],[.code XRv],[],false,none⟩,[],[],0⟩ (fun v H _=>Res 0 (rx53 res) v H):=by
 unfold Xqm at h
 refine Xbp XaP hS true 3000 ?_
 conv=>whnf
 exact W
def XgP:Xgb:=Xqm
theorem XRV:Xb8 Tryz.prog 53 (s53 XgP):=by
 have hL:=XJO (Xaq.XaY trivial)
 exact okA ⟨Tryz.f53,rfl,by decide,rfl⟩
def Xpr (XaW:Xco) (XgP:Xgb) (XaX:Xb9) (Xaa:XaN) (strings_CutPrefix:XcY) (s:List UInt8):Option (Xa8×(List UInt8)×Int):=
 cond (decide ((s.length:Int)<18))
  (
  some ((Xa8.mk false 0 0 false 0,[],2)))
  (
  (strings_CutPrefix s [71,85,1]).bind fun c=>
  (XaX c.1).bind fun n=>
  (Xaa n 1).bind fun n1=>
  (Xaa n1.2 2).bind fun n2=>
  (Xaa n2.2 1).bind fun n3=>
  (Xaa n3.2 1).bind fun n4=>
  (Xaa n4.2 2).bind fun n5=>
  (Xaa n5.2 4).bind fun n6=>
  (Xaa n6.2 4).bind fun n7=>
  let t:=XvA .u64 (wI .u64 ((wI .u64 n6.1)*2^32)) (wI .u64 n7.1)
  cond (!c.2)
   (
   some ((Xa8.mk false 0 0 false 0,[],3)))
   (
   (XgP (n1.1==41)).bind fun k=>
   cond (n1.1 !=k)
    (
    some ((Xa8.mk false 0 0 false 0,[],3)))
    (
    cond (decide (n3.1>1))
     (
     some ((Xa8.mk false 0 0 false 0,[],3)))
     (
     cond (decide ((s.length:Int)>9018))
      (
      some ((Xa8.mk false 0 0 false 0,[],5)))
      (
      Xbr (decide ((0:Int)≤(18:Int)∧(18:Int)≤(s.length:Int))) <|
      (XaW (s.take 18)).bind fun xr=>
      cond (!xr)
       (
       some ((Xa8.mk false 0 0 false 0,[],4)))
       (
       Xbr (decide ((0:Int)≤(18:Int)∧(18:Int)≤(s.length:Int))) <|
       some ((Xa8.mk (n1.1==41) n2.1 t (n3.1==1) n4.1,(s.drop 18).take (s.length - 18),0))))))))
def rx29 (x:Xa8×(List UInt8)×Int):Xc2:=⟨.tuple ⟨[.agg ⟨[.bool x.1.V6,.int .i64 x.1.Backend,.int .u64 x.1.Cookie,.bool x.1.First,.int .i64 x.1.Instance]⟩,.string ⟨⟨x.2.1⟩⟩,.int .i64 x.2.2]⟩,[],[]⟩
abbrev Xft:=(List UInt8)→Option (Xa8×(List UInt8)×Int)
def r29 (g:Xft):Dec:=dV asS fun (y0:List UInt8)=>XdT (ofG (g y0) rx29)
theorem r29_c {g:Xft} {y0:List UInt8} {x:Xa8×(List UInt8)×Int} (hx:g y0=some x):r29 g [.string ⟨⟨y0⟩⟩] []=some (rx29 x):=(Xbb (Xds)).trans (Xa7 hx)
def s29 (g:Xft):XbS:=⟨[.v],r29 g⟩
theorem XF6 {g:Xft} {y0:List UInt8} {x:Xa8×(List UInt8)×Int} (hx:g y0=some x):(s29 g).run [.string ⟨⟨y0⟩⟩] []=some (rx29 x):=r29_c hx
abbrev XNJ (XaW:Xco) (XgP:Xgb) (XaX:Xb9) (Xaa:XaN) (strings_CutPrefix:XcY):List (Nat×XbS):=[(54,s54 XaW),(53,s53 XgP),(51,s51 XaX),(52,s52 Xaa),(50,s50 strings_CutPrefix)]
theorem XIP (XaW:Xco) (XgP:Xgb) (XaX:Xb9) (Xaa:XaN) (strings_CutPrefix:XcY) (hS:Xaq Tryz.prog (XaL (XNJ XaW XgP XaX Xaa strings_CutPrefix))) (s:List UInt8) (res:Xa8×(List UInt8)×Int) (h:Xpr XaW XgP XaX Xaa strings_CutPrefix s=some res) :
 XaM Tryz.prog 29 0 ⟨⟨29,81,[(0,.string ⟨⟨s⟩⟩)],[.code XGP],[],false,none⟩,[],[],0⟩ (fun v H _=>Res 0 (rx29 res) v H):=by
 unfold Xpr at h
 have R1:=@XRz strings_CutPrefix
 have R2:=@XrI XaX
 have R3:=@Xls Xaa
 have R4:=@XTw XgP
 have R5:=@XwV XaW
 refine Xbp XaP hS true 3000 ?_
 conv=>whnf
 exact W
def XeT:Xft:=Xpr XaW XgP XaX Xaa strings_CutPrefix
theorem XHv:Xb8 Tryz.prog 29 (s29 XeT):=by
 have hL:=XIP XaW XgP XaX Xaa strings_CutPrefix (Xaq.XaY ⟨XvQ,XRV,XrG,XpP,XTz,trivial⟩)
 exact okA ⟨Tryz.f29,rfl,by decide,rfl⟩
def Xph (Xcp:XdG) (Xao:Xa9) (XcC:XdD) (s:List UInt8):Option (Xa8×(List UInt8)×Int):=
 cond (decide ((s.length:Int)<18))
  (
  some ((Xa8.mk false 0 0 false 0,[],2)))
  (
  Xbr (decide ((0:Int)≤(3:Int)∧(3:Int)≤(s.length:Int))) <|
  cond (!((s.take 3)==[71,85,1]))
   (
   some ((Xa8.mk false 0 0 false 0,[],3)))
   (
   (s[3]?).bind fun (b:UInt8)=>
   cond ((b.toNat:Int) !=4)
    (
    (s[3]?).bind fun (b1:UInt8)=>
    cond ((b1.toNat:Int) !=41)
     (
     some ((Xa8.mk false 0 0 false 0,[],3)))
     (
     (s[6]?).bind fun (b2:UInt8)=>
     cond (decide ((b2.toNat:Int)>1))
      (
      some ((Xa8.mk false 0 0 false 0,[],3)))
      (
      cond (decide ((s.length:Int)>9018))
       (
       some ((Xa8.mk false 0 0 false 0,[],5)))
       (
       Xbr (decide ((0:Int)≤(18:Int)∧(18:Int)≤(s.length:Int))) <|
       (XcC (s.take 18)).bind fun s1=>
       cond (s1 !=65535)
        (
        some ((Xa8.mk false 0 0 false 0,[],4)))
        (
        (Xcp s 10 8).bind fun xg=>
        (s[3]?).bind fun (b3:UInt8)=>
        (Xao s 4 2).bind fun m=>
        (s[6]?).bind fun (b4:UInt8)=>
        (s[7]?).bind fun (b5:UInt8)=>
        Xbr (decide ((0:Int)≤(18:Int)∧(18:Int)≤(s.length:Int))) <|
        some ((Xa8.mk ((b3.toNat:Int)==41) m xg.1 ((b4.toNat:Int)==1) (wI .i64 (b5.toNat:Int)),(s.drop 18).take (s.length - 18),0)))))))
    (
    (s[6]?).bind fun (b6:UInt8)=>
    cond (decide ((b6.toNat:Int)>1))
     (
     some ((Xa8.mk false 0 0 false 0,[],3)))
     (
     cond (decide ((s.length:Int)>9018))
      (
      some ((Xa8.mk false 0 0 false 0,[],5)))
      (
      Xbr (decide ((0:Int)≤(18:Int)∧(18:Int)≤(s.length:Int))) <|
      (XcC (s.take 18)).bind fun s2=>
      cond (s2 !=65535)
       (
       some ((Xa8.mk false 0 0 false 0,[],4)))
       (
       (Xcp s 10 8).bind fun xg1=>
       (s[3]?).bind fun (b7:UInt8)=>
       (Xao s 4 2).bind fun m1=>
       (s[6]?).bind fun (b8:UInt8)=>
       (s[7]?).bind fun (b9:UInt8)=>
       Xbr (decide ((0:Int)≤(18:Int)∧(18:Int)≤(s.length:Int))) <|
       some ((Xa8.mk ((b7.toNat:Int)==41) m1 xg1.1 ((b8.toNat:Int)==1) (wI .i64 (b9.toNat:Int)),(s.drop 18).take (s.length - 18),0))))))))
def rx33 (x:Xa8×(List UInt8)×Int):Xc2:=⟨.tuple ⟨[.agg ⟨[.bool x.1.V6,.int .i64 x.1.Backend,.int .u64 x.1.Cookie,.bool x.1.First,.int .i64 x.1.Instance]⟩,.string ⟨⟨x.2.1⟩⟩,.int .i64 x.2.2]⟩,[],[]⟩
abbrev Xhc:=(List UInt8)→Option (Xa8×(List UInt8)×Int)
def r33 (g:Xhc):Dec:=dV asS fun (y0:List UInt8)=>XdT (ofG (g y0) rx33)
theorem r33_c {g:Xhc} {y0:List UInt8} {x:Xa8×(List UInt8)×Int} (hx:g y0=some x):r33 g [.string ⟨⟨y0⟩⟩] []=some (rx33 x):=(Xbb (Xds)).trans (Xa7 hx)
def s33 (g:Xhc):XbS:=⟨[.v],r33 g⟩
theorem XOM {g:Xhc} {y0:List UInt8} {x:Xa8×(List UInt8)×Int} (hx:g y0=some x):(s33 g).run [.string ⟨⟨y0⟩⟩] []=some (rx33 x):=r33_c hx
abbrev XPL (Xcp:XdG) (Xao:Xa9) (XcC:XdD):List (Nat×XbS):=[(61,s61 Xcp),(62,s62 Xao),(60,s60 XcC)]
theorem XKt (Xcp:XdG) (Xao:Xa9) (XcC:XdD) (hS:Xaq Tryz.prog (XaL (XPL Xcp Xao XcC))) (s:List UInt8) (res:Xa8×(List UInt8)×Int) (h:Xph Xcp Xao XcC s=some res) :
 XaM Tryz.prog 33 0 ⟨⟨33,59,[(0,.string ⟨⟨s⟩⟩)],[.code XHQ],[],false,none⟩,[],[],0⟩ (fun v H _=>Res 0 (rx33 res) v H):=by
 unfold Xph at h
 have R1:=@Xwh XcC
 have R2:=@XwW Xcp
 have R3:=@Xi8 Xao
 refine Xbp XaP hS true 3000 ?_
 conv=>whnf
 exact W
def XiE:Xhc:=Xph Xcp Xao XcC
theorem XOy:Xb8 Tryz.prog 33 (s33 XiE):=by
 have hL:=XKt Xcp Xao XcC (Xaq.XaY ⟨XvX,Xl6,Xv6,trivial⟩)
 exact okA ⟨Tryz.f33,rfl,by decide,rfl⟩
end Go.Vm.Code
namespace Go.Vm.Code
open Go Go.Vm
def kd (b:Bool):Nat:=cond b 41 4
def bt (b:Bool):Nat:=cond b 1 0
def hd0 (c:Xa8):List UInt8:=[71,85,1]++be (kd c.V6) 1++be c.Backend.toNat 2++be (bt c.First) 1++be c.Instance.toNat 1++be 0 2++be c.Cookie.toNat 8
def hd (c:Xa8):List UInt8:=sset (hd0 c) 8 2 (65535 - norm (Xez (hd0 c)))
def Xl9:Xa8:=⟨false,0,0,false,0⟩
def Xhx (s:List UInt8):Xa8×List UInt8×Int:=
 if s.length<18 then (Xl9,[],2) else if s.take 3≠[71,85,1] then (Xl9,[],3) else if b1 s 3≠4∧b1 s 3≠41 then (Xl9,[],3) else if 1<b1 s 6 then (Xl9,[],3) else
  if 9018<s.length then (Xl9,[],5) else if norm (Xez (s.take 18))≠65535 then (Xl9,[],4) else
   (⟨decide (b1 s 3=41),(Xed ((s.drop 4).take 2):Nat),(Xed ((s.drop 10).take 8):Nat),decide (b1 s 6=1),(b1 s 7:Nat)⟩,s.drop 18,0)
theorem Xze {s:List UInt8} (h:s.length<2^38):XiE s=some (Xhx s):=by
 unfold XiE Xph Xhx
 by_cases h1:s.length<18
 ·rw [XaZ (by omega),if_pos h1];rfl
 rw [XaR (by omega),if_neg h1,XaH (by omega)]
 by_cases h2:s.take 3≠[71,85,1]
 ·have:(!(s.take 3==[71,85,1]))=true:=by rw [Bool.not_eq_true',beq_eq_false_iff_ne];exact h2
  rw [this,cond_true,if_pos h2];rfl
 have e2:(!(s.take 3==[71,85,1]))=false:=by rw [Bool.not_eq_false',beq_iff_eq];exact Classical.not_not.1 h2
 rw [e2,cond_false,if_neg h2]
 have g3:=XtW (s:=s) (i:=3) (by omega)
 have g6:=XtW (s:=s) (i:=6) (by omega)
 have g7:=XtW (s:=s) (i:=7) (by omega)
 have l7:=Xw6 s 7
 have v2:Xed ((s.drop 4).take 2)<2^16:=Xdk _ (by decide)
 have nl:=norm_le (Xez (s.take 18))
 have tl:(s.take 18).length=18:=by simp;omega
 have et:(s.drop 18).take (s.length - 18)=s.drop 18:=List.take_of_length_le (by simp)
 simp only [List.getElem?_eq_getElem (by omega:3<s.length),List.getElem?_eq_getElem (by omega:6<s.length),List.getElem?_eq_getElem (by omega:7<s.length),Option.bind_some,←g3,←g6,←g7]
 have tailE:(cond (decide (((b1 s 6:Nat):Int)>1)) (some (Xa8.mk false 0 0 false 0,([]:List UInt8),(3:Int)))
  (cond (decide ((s.length:Int)>9018)) (some (Xa8.mk false 0 0 false 0,[],5))
    (Xbr (decide ((0:Int)≤(18:Int)∧(18:Int)≤(s.length:Int))) <|
      (XcC (s.take 18)).bind fun s2=>
        cond (s2 !=65535) (some (Xa8.mk false 0 0 false 0,[],4))
         ((Xcp s 10 8).bind fun xg1=>
           (Xao s 4 2).bind fun m1=>
             Xbr (decide ((0:Int)≤(18:Int)∧(18:Int)≤(s.length:Int))) <|
              some (Xa8.mk (((b1 s 3:Nat):Int)==41) m1 xg1.1 (((b1 s 6:Nat):Int)==1) (wI .i64 ((b1 s 7:Nat):Int)),(s.drop 18).take (s.length - 18),0))))) =
  some (if 1<b1 s 6 then (Xl9,[],3) else if 9018<s.length then (Xl9,[],5) else if norm (Xez (s.take 18))≠65535 then (Xl9,[],4) else
   (⟨decide (b1 s 3=41),(Xed ((s.drop 4).take 2):Nat),(Xed ((s.drop 10).take 8):Nat),decide (b1 s 6=1),(b1 s 7:Nat)⟩,s.drop 18,0)):=by
  by_cases h6:1<b1 s 6
  ·rw [XaZ (by omega),if_pos h6];rfl
  rw [XaR (by omega),if_neg h6]
  by_cases h9:9018<s.length
  ·rw [XaZ (by omega),if_pos h9];rfl
  rw [XaR (by omega),if_neg h9,XaH (by omega),XlI (by omega),Option.bind_some]
  by_cases hn:norm (Xez (s.take 18))≠65535
  ·have:(((norm (Xez (s.take 18)):Nat):Int) !=65535)=true:=by rw [bne_iff_ne];omega
   rw [this,cond_true,if_pos hn];rfl
  ·have:(((norm (Xez (s.take 18)):Nat):Int) !=65535)=false:=by rw [bne_eq_false_iff_eq];omega
   rw [this,cond_false,if_neg hn,Xi6 (by omega),Option.bind_some,Xev (by omega),Option.bind_some,XaH (by omega),et]
   rw [XfZ (p:=10) (k:=8) (by omega) (by omega) (by omega) (by omega),XfZ (p:=4) (k:=2) (by omega) (by omega) (by omega) (by omega)]
   simp only [show (10:Int).toNat=10 from rfl,show (8:Int).toNat=8 from rfl,show (4:Int).toNat=4 from rfl,show (2:Int).toNat=2 from rfl]
   rw [Xdb (n:=((Xed ((s.drop 4).take 2):Nat):Int)) (by omega) (by omega),Xdb (n:=((b1 s 7:Nat):Int)) (by omega) (by omega)]
   have x1:(((b1 s 3:Nat):Int)==41)=decide (b1 s 3=41):=by rw [Bool.eq_iff_iff,beq_iff_eq,decide_eq_true_eq];omega
   have x2:(((b1 s 6:Nat):Int)==1)=decide (b1 s 6=1):=by rw [Bool.eq_iff_iff,beq_iff_eq,decide_eq_true_eq];omega
   rw [x1,x2]
 by_cases h4:b1 s 3=4
 ·have:(((b1 s 3:Nat):Int) !=4)=false:=by rw [bne_eq_false_iff_eq];omega
  rw [this,cond_false,if_neg (by omega)]
  exact tailE
 ·have:(((b1 s 3:Nat):Int) !=4)=true:=by rw [bne_iff_ne];omega
  rw [this,cond_true]
  by_cases h41:b1 s 3=41
  ·have:(((b1 s 3:Nat):Int) !=41)=false:=by rw [bne_eq_false_iff_eq];omega
   rw [this,cond_false,if_neg (by omega)]
   exact tailE
  ·have:(((b1 s 3:Nat):Int) !=41)=true:=by rw [bne_iff_ne];omega
   rw [this,cond_true,if_pos (by omega)];rfl
theorem XPy {s:List UInt8} (h:18≤s.length):strings_CutPrefix s [71,85,1]=some (if s.take 3=[71,85,1] then (s.drop 3,true) else (s,false)):=by
 unfold strings_CutPrefix Xf3 Xa3 Xdf Xa2 Xdg
 simp only [List.length_cons,List.length_nil]
 rw [XaZ (by omega),XaH (by omega),Option.bind_some]
 by_cases h3:s.take 3=[71,85,1]
 ·have e:((s.take 3)==[71,85,1])=true:=by rw [beq_iff_eq];exact h3
  have et:(s.drop 3).take (s.length - 3)=s.drop 3:=List.take_of_length_le (by simp)
  show ((cond (!((s.take 3)==[71,85,1])) _ _:Option (List UInt8×Bool)).bind _)=_
  rw [e,Bool.not_true,cond_false,if_pos h3,XaH (by omega)]
  simp only [Nat.zero_add,Nat.reduceAdd,et,Option.bind_some]
 ·have e:((s.take 3)==[71,85,1])=false:=by rw [beq_eq_false_iff_ne];exact h3
  show ((cond (!((s.take 3)==[71,85,1])) _ _:Option (List UInt8×Bool)).bind _)=_
  rw [e,Bool.not_false,cond_true,if_neg h3];rfl
theorem XI6 {s:List UInt8} (h:s.length<2^38):XeT s=some (Xhx s):=by
 unfold XeT Xpr Xhx
 by_cases h1:s.length<18
 ·rw [XaZ (by omega),if_pos h1];rfl
 rw [XaR (by omega),if_neg h1,XPy (by omega),Option.bind_some]
 have i1:(if (1:Int)<1∨(1:Int)>7 then -1 else 1:Int)=1:=by decide
 have i2:(if (2:Int)<1∨(2:Int)>7 then -1 else 2:Int)=2:=by decide
 have i4:(if (4:Int)<1∨(4:Int)>7 then -1 else 4:Int)=4:=by decide
 by_cases h2:s.take 3=[71,85,1]
 ·rw [if_pos h2,if_neg (by simpa using h2)]
  simp only [Xmo,Option.bind_some]
  have ld:(s.drop 3).length=s.length - 3:=by simp
  rw [Xd6 rfl (by simp only [];omega),Option.bind_some]
  simp only [rdn,i1]
  rw [XgI (by omega) (by omega),XgE (by omega) (by omega),show (1:Int).toNat=1 from rfl,List.drop_drop]
  rw [Xd6 rfl (by simp;omega),Option.bind_some]
  simp only [rdn,i2]
  rw [XgI (by omega) (by simp;omega),XgE (by omega) (by simp;omega),show (2:Int).toNat=2 from rfl,List.drop_drop]
  rw [Xd6 rfl (by simp;omega),Option.bind_some]
  simp only [rdn,i1]
  rw [XgI (by omega) (by simp;omega),XgE (by omega) (by simp;omega),show (1:Int).toNat=1 from rfl,List.drop_drop]
  rw [Xd6 rfl (by simp;omega),Option.bind_some]
  simp only [rdn,i1]
  rw [XgI (by omega) (by simp;omega),XgE (by omega) (by simp;omega),show (1:Int).toNat=1 from rfl,List.drop_drop]
  rw [Xd6 rfl (by simp;omega),Option.bind_some]
  simp only [rdn,i2]
  rw [XgI (by omega) (by simp;omega),show (2:Int).toNat=2 from rfl,List.drop_drop]
  rw [Xd6 rfl (by simp;omega),Option.bind_some]
  simp only [rdn,i4]
  rw [XgI (by omega) (by simp;omega),XgE (by omega) (by simp;omega),show (4:Int).toNat=4 from rfl,List.drop_drop]
  rw [Xd6 rfl (by simp;omega),Option.bind_some]
  simp only [rdn,i4]
  rw [XgE (by omega) (by simp;omega),show (4:Int).toNat=4 from rfl]
  simp only [Bool.not_true,cond_false,Nat.reduceAdd]
  have q3:Xed ((s.drop 3).take 1)=b1 s 3:=rfl
  have q6:Xed ((s.drop 6).take 1)=b1 s 6:=rfl
  have q7:Xed ((s.drop 7).take 1)=b1 s 7:=rfl
  rw [q3,q6,q7]
  have l3:=Xw6 s 3
  have va:Xed ((s.drop 10).take 4)<2^32:=Xdk _ (by decide)
  have vb:Xed ((s.drop 14).take 4)<2^32:=Xdk _ (by decide)
  have e8:Xed ((s.drop 10).take 8)=Xed ((s.drop 10).take 4)*2^32+Xed ((s.drop 14).take 4):=by
   have:(s.drop 10).take 8=(s.drop 10).take 4++(s.drop 14).take 4:=by
    rw [show s.drop 14=(s.drop 10).drop 4 by rw [List.drop_drop],←List.take_add]
   rw [this,val_append,show ((s.drop 14).take 4).length=4 by simp;omega]
  have ec:XvA .u64 (wI .u64 ((wI .u64 ((Xed ((s.drop 10).take 4):Nat):Int))*2^32)) (wI .u64 ((Xed ((s.drop 14).take 4):Nat):Int))=((Xed ((s.drop 10).take 8):Nat):Int):=by
   rw [e8,XsP (n:=((Xed ((s.drop 10).take 4):Nat):Int)) (by omega) (by omega),XsP (n:=((Xed ((s.drop 14).take 4):Nat):Int)) (by omega) (by omega),XsP (n:=((Xed ((s.drop 10).take 4):Nat):Int)*2^32) (by omega) (by omega),Xq5 32 (by omega) (by omega) (by omega) (by omega) (by omega)];omega
  rw [ec]
  have x1:(((b1 s 3:Nat):Int)==41)=decide (b1 s 3=41):=by rw [Bool.eq_iff_iff,beq_iff_eq,decide_eq_true_eq];omega
  have x2:(((b1 s 6:Nat):Int)==1)=decide (b1 s 6=1):=by rw [Bool.eq_iff_iff,beq_iff_eq,decide_eq_true_eq];omega
  rw [x1,x2]
  have ek:∀ b:Bool,XgP b=some ((kd b:Nat):Int):=by intro b;cases b<;>rfl
  rw [ek,Option.bind_some]
  have xk:(((b1 s 3:Nat):Int) !=((kd (decide (b1 s 3=41)):Nat):Int))=decide (b1 s 3≠4∧b1 s 3≠41):=by
   rw [Bool.eq_iff_iff,bne_iff_ne,decide_eq_true_eq]
   by_cases h41:b1 s 3=41
   ·rw [decide_eq_true h41];simp only [kd,cond_true];omega
   ·rw [decide_eq_false h41];simp only [kd,cond_false];omega
  rw [xk]
  by_cases h4:b1 s 3≠4∧b1 s 3≠41
  ·rw [XaZ h4,if_pos h4];rfl
  rw [XaR h4,if_neg h4]
  by_cases h6:1<b1 s 6
  ·rw [XaZ (by omega),if_pos h6];rfl
  rw [XaR (by omega),if_neg h6]
  by_cases h9:9018<s.length
  ·rw [XaZ (by omega),if_pos h9];rfl
  have et:(s.drop 18).take (s.length - 18)=s.drop 18:=List.take_of_length_le (by simp)
  rw [XaR (by omega),if_neg h9,XaH (by omega),Xpo (by simp;omega),Option.bind_some]
  have nl:=norm_le (Xez (s.take 18))
  by_cases hn:norm (Xez (s.take 18))≠65535
  ·have:(((norm (Xez (s.take 18)):Nat):Int)==65535)=false:=by rw [beq_eq_false_iff_ne];omega
   rw [this,Bool.not_false,cond_true,if_pos hn];rfl
  ·have:(((norm (Xez (s.take 18)):Nat):Int)==65535)=true:=by rw [beq_iff_eq];omega
   rw [this,Bool.not_true,cond_false,if_neg hn,XaH (by omega),et]
 ·rw [if_neg h2,if_pos h2]
  simp only [Xmo,Option.bind_some]
  rw [Xd6 rfl (by simp only [];omega),Option.bind_some]
  simp only []
  have l1:=Xgt ⟨s,true,false⟩ (if (1:Int)<1∨(1:Int)>7 then -1 else 1)
  have m1:=Xfc ⟨s,true,false⟩ (if (1:Int)<1∨(1:Int)>7 then -1 else 1)
  generalize rdr ⟨s,true,false⟩ (if (1:Int)<1∨(1:Int)>7 then -1 else 1)=r1 at *
  simp only at l1
  rw [Xd6 m1 (by omega),Option.bind_some]
  simp only []
  have l2:=Xgt r1 (if (2:Int)<1∨(2:Int)>7 then -1 else 2)
  have m2:=Xfc r1 (if (2:Int)<1∨(2:Int)>7 then -1 else 2)
  generalize rdr r1 (if (2:Int)<1∨(2:Int)>7 then -1 else 2)=r2 at *
  rw [Xd6 m2 (by omega),Option.bind_some]
  simp only []
  have l3:=Xgt r2 (if (1:Int)<1∨(1:Int)>7 then -1 else 1)
  have m3:=Xfc r2 (if (1:Int)<1∨(1:Int)>7 then -1 else 1)
  generalize rdr r2 (if (1:Int)<1∨(1:Int)>7 then -1 else 1)=r3 at *
  rw [Xd6 m3 (by omega),Option.bind_some]
  simp only []
  have l4:=Xgt r3 (if (1:Int)<1∨(1:Int)>7 then -1 else 1)
  have m4:=Xfc r3 (if (1:Int)<1∨(1:Int)>7 then -1 else 1)
  generalize rdr r3 (if (1:Int)<1∨(1:Int)>7 then -1 else 1)=r4 at *
  rw [Xd6 m4 (by omega),Option.bind_some]
  simp only []
  have l5:=Xgt r4 (if (2:Int)<1∨(2:Int)>7 then -1 else 2)
  have m5:=Xfc r4 (if (2:Int)<1∨(2:Int)>7 then -1 else 2)
  generalize rdr r4 (if (2:Int)<1∨(2:Int)>7 then -1 else 2)=r5 at *
  rw [Xd6 m5 (by omega),Option.bind_some]
  simp only []
  have l6:=Xgt r5 (if (4:Int)<1∨(4:Int)>7 then -1 else 4)
  have m6:=Xfc r5 (if (4:Int)<1∨(4:Int)>7 then -1 else 4)
  generalize rdr r5 (if (4:Int)<1∨(4:Int)>7 then -1 else 4)=r6 at *
  rw [Xd6 m6 (by omega),Option.bind_some]
  rfl
theorem Xh1 {s s':List UInt8} {f m:Nat} (h:∀ k,f≤k→k<f+m→s'[k]?=s[k]?):(s'.drop f).take m=(s.drop f).take m:=by
 apply List.ext_getElem?
 intro x
 rw [List.getElem?_take,List.getElem?_take]
 split
 ·rw [List.getElem?_drop,List.getElem?_drop];exact h _ (by omega) (by omega)
 ·rfl
theorem XAh {s s':List UInt8} (hl:s'.length=s.length):∀ (n i:Nat) (out:List Xxp),(∀ k,i≤k→s'[k]?=s[k]?)→Xhz s' n i out=Xhz s n i out:=by
 intro n
 induction n using Nat.strongRecOn with
 | ind n ih=>
   intro i out hd
   cases n with
   | zero=>rw [Xhz,Xhz]
   | succ n=>
     rw [Xhz,Xhz,hd i (by omega),hd (i+1) (by omega),hl]
     cases s[i]? with
     | none=>rfl
     | some b=>
       simp only
       by_cases h0:b=0
       ·rw [if_pos h0,if_pos h0]
       rw [if_neg h0,if_neg h0]
       by_cases h1:b=1
       ·rw [if_pos h1,if_pos h1];exact ih n (by omega) _ _ (fun k hk=>hd k (by omega))
       rw [if_neg h1,if_neg h1]
       cases s[i+1]? with
       | none=>rfl
       | some k=>
         simp only
         by_cases h2:k.toNat<2
         ·rw [if_pos h2,if_pos h2]
         by_cases h3:s.length - i<k.toNat
         ·rw [if_neg h2,if_neg h2,if_pos h3,if_pos h3]
         rw [if_neg h2,if_neg h2,if_neg h3,if_neg h3,Xh1 (s:=s) (s':=s') (f:=i+2) (m:=k.toNat - 2) (fun x h _=>hd x (by omega))]
         exact ih _ (by omega) _ _ (fun x hx=>hd x (by omega))
theorem XwZ {s s':List UInt8} (hl:s'.length=s.length) {p q:Nat} (hp:p=q∨p=q+4) (hd:∀ k,(k<p∨p+4≤k)→s'[k]?=s[k]?):∀ (n i:Nat),(Xhz s n i []).2=0→(stL (Xhz s n i []).1).2.2=(q:Int) →
 (Xhz s' n i []).2=0∧stL (Xhz s' n i []).1=(vK s' q 4,vK s' (q+4) 4,(q:Int))∧stL (Xhz s n i []).1=(vK s q 4,vK s (q+4) 4,(q:Int))∧i+2≤q∧q+8≤s.length:=by
 intro n
 induction n using Nat.strongRecOn with
 | ind n ih=>
   intro i h2 hq
   have bad:(-1:Int)=(q:Int)→False:=by omega
   cases n with
   | zero=>rw [Xhz] at hq;exact absurd hq bad
   | succ n=>
     have e:∀ t:List UInt8,Xhz t (n+1) i []=match t[i]? with
      | none=>([],0)
      | some b=>if b=0 then ([],0) else if b=1 then Xhz t n (i+1) [] else match t[i+1]? with
        | none=>([],3)
        | some k=>if k.toNat<2 then ([],3) else if t.length - i<k.toNat then ([],3) else
           Xhz t (n+1 - k.toNat) (i+k.toNat) ([]++[⟨(b.toNat:Int),(t.drop (i+2)).take (k.toNat - 2),((i+2:Nat):Int)⟩]):=fun t=>by rw [Xhz];try (cases t[i]?<;>cases t[i+1]?<;>rfl)
     rw [e s] at h2 hq ⊢
     rw [e s']
     cases hb:s[i]? with
     | none=>rw [hb] at hq;exact absurd hq bad
     | some b=>
       rw [hb] at h2 hq
       simp only at h2 hq ⊢
       by_cases h0:b=0
       ·rw [if_pos h0] at hq;exact absurd hq bad
       rw [if_neg h0] at h2 hq ⊢
       by_cases h1:b=1
       ·rw [if_pos h1] at h2 hq ⊢
        obtain ⟨r1,r2,r3,r4,r5⟩:=ih n (by omega) (i+1) h2 hq
        rw [hd i (by omega),hb]
        simp only [h1]
        exact ⟨r1,r2,r3,by omega,r5⟩
       rw [if_neg h1] at h2 hq ⊢
       cases hk:s[i+1]? with
       | none=>rw [hk] at h2;exact absurd (show (3:Int)=0 from h2) (by decide)
       | some k=>
         rw [hk] at h2 hq
         simp only at h2 hq ⊢
         by_cases g2:k.toNat<2
         ·rw [if_pos g2] at h2;exact absurd h2 (by decide)
         by_cases g3:s.length - i<k.toNat
         ·rw [if_neg g2,if_pos g3] at h2;exact absurd h2 (by decide)
         rw [if_neg g2,if_neg g3] at h2 hq ⊢
         have eg:=fun t:List UInt8=>Xl0 t (n+1 - k.toNat) (i+k.toNat) ([]++[⟨(b.toNat:Int),(t.drop (i+2)).take (k.toNat - 2),((i+2:Nat):Int)⟩])
         have eg':=Xl0 s' (n+1 - k.toNat) (i+k.toNat) [⟨(b.toNat:Int),(s'.drop (i+2)).take (k.toNat - 2),((i+2:Nat):Int)⟩]
         rw [eg s] at h2 hq ⊢
         have hi:i<s.length:=by
          rcases Nat.lt_or_ge i s.length with h|h
          ·exact h
          ·rw [List.getElem?_eq_none h] at hb;cases hb
         by_cases hz:(Xhz s (n+1 - k.toNat) (i+k.toNat) []).2=0
         ·rw [if_pos hz] at h2 hq ⊢
          simp only [List.nil_append,List.cons_append] at hq ⊢
          by_cases g8:b.toNat=8
          ·
           have gl:((s.drop (i+2)).take (k.toNat - 2)).length=8∧q=i+2:=by
            unfold stL at hq
            rw [if_pos (show (b.toNat:Int)=8 by omega)] at hq
            by_cases gl:((s.drop (i+2)).take (k.toNat - 2)).length=8
            ·rw [if_pos gl] at hq;simp only at hq;exact ⟨gl,by omega⟩
            ·rw [if_neg gl] at hq;exact absurd hq bad
           obtain ⟨gl,gq⟩:=gl
           have gk:k.toNat=10:=by rw [List.length_take,List.length_drop] at gl;omega
           have gl':((s'.drop (i+2)).take (k.toNat - 2)).length=8:=by rw [List.length_take,List.length_drop,hl,←gl,List.length_take,List.length_drop]
           rw [hd i (by omega),hb,hd (i+1) (by omega),hk]
           simp only
           rw [if_neg h0,if_neg h1,if_neg g2,hl,if_neg g3,eg',XAh hl _ _ _ (fun x hx=>hd x (by omega)),if_pos hz]
           simp only [List.nil_append,List.cons_append]
           have vd:∀ (t:List UInt8) (x:Nat),x+4≤8→vK ((t.drop (i+2)).take (k.toNat - 2)) x 4=vK t (q+x) 4:=fun t x hx=>by
            rw [XAm (by omega),gq];exact (Xz0 rfl).symm
           refine ⟨trivial,?_,?_,by omega,by rw [List.length_take,List.length_drop] at gl;omega⟩
           ·unfold stL
            rw [if_pos (show (b.toNat:Int)=8 by omega),if_pos gl']
            simp only
            rw [vd s' 0 (by omega),vd s' 4 (by omega),gq]
           ·unfold stL
            rw [if_pos (show (b.toNat:Int)=8 by omega),if_pos gl]
            simp only
            rw [vd s 0 (by omega),vd s 4 (by omega),gq]
          ·have st:∀ (t:List UInt8) (l:List Xxp),stL (⟨(b.toNat:Int),(t.drop (i+2)).take (k.toNat - 2),((i+2:Nat):Int)⟩::l)=stL l:=fun t l=>by
            rw [stL,if_neg (show ¬ (b.toNat:Int)=8 by omega)]
           rw [st] at hq
           obtain ⟨r1,r2,r3,r4,r5⟩:=ih _ (by omega) (i+k.toNat) hz hq
           rw [hd i (by omega),hb,hd (i+1) (by omega),hk]
           simp only
           rw [if_neg h0,if_neg h1,if_neg g2,hl,if_neg g3,eg',if_pos r1]
           simp only [List.nil_append,List.cons_append,st]
           exact ⟨trivial,r2,r3,by omega,r5⟩
         ·rw [if_neg hz] at h2;exact absurd h2 (by decide)
theorem Xw1 {s s':List UInt8} (hl:s'.length=s.length) {p q:Nat} (hp:p=q∨p=q+4) (hd:∀ k,(k<p∨p+4≤k)→s'[k]?=s[k]?) (h0:(Xlk s).2=0) (hq:(Xf5 s).2.2=(q:Int)) :
 (Xlk s').2=0∧Xf5 s'=(vK s' q 4,vK s' (q+4) 4,(q:Int))∧Xf5 s=(vK s q 4,vK s (q+4) 4,(q:Int))∧2≤q∧q+8≤s.length:=by
 unfold Xlk Xf5 at *
 unfold Xlk at *
 rw [hl]
 obtain ⟨r1,r2,r3,r4,r5⟩:=XwZ hl hp hd s.length 0 h0 hq
 exact ⟨r1,r2,r3,by omega,r5⟩
theorem XiA {s t:List UInt8} {z p k:Nat} (h:t.take z=s.take z) (hk:p+k≤z):(t.drop p).take k=(s.drop p).take k:=by
 have e:∀ l:List UInt8,(l.drop p).take k=((l.take z).drop p).take k:=fun l=>by
  rw [List.drop_take,List.take_take,Nat.min_eq_left (by omega)]
 rw [e t,e s,h]
theorem Xp5 {s t:List UInt8} {z k:Nat} (h:t.take z=s.take z) (hk:k≤z):t.take k=s.take k:=by
 have:=XiA (p:=0) (k:=k) h (by omega)
 simpa using this
theorem Xh2 {s b:List UInt8} (h:(Xak s).err=0) (hb:b.length=(Xak s).body.length):Xak (s.take (Xak s).size++b)=⟨(Xak s).src,(Xak s).dst,(Xak s).proto,(Xak s).size,b,0⟩∧(Xak s).body=s.drop (Xak s).size:=by
 have hlen:=Xfn h
 generalize hz:(Xak s).size=z at *
 have ht:(s.take z++b).take z=s.take z:=by
  rw [List.take_append_of_le_length (by rw [List.length_take];omega),List.take_take,Nat.min_self]
 have hdr:(s.take z++b).drop z=b:=List.drop_left' (by rw [List.length_take];omega)
 have hl:(s.take z++b).length=s.length:=by rw [List.length_append,List.length_take];omega
 generalize (s.take z++b)=t at *
 have hv:∀ p k,p+k≤z→vK t p k=vK s p k:=fun p k hk=>by unfold vK;rw [XiA ht hk]
 unfold Xak at *
 by_cases g1:vK s 0 1/16=4
 ·rw [if_pos g1] at h hz hb hlen ⊢
  by_cases g2:(XiD s).2.2≠0
  ·rw [if_pos g2] at h;exact absurd h g2
  rw [if_neg g2] at h hz hb hlen ⊢
  by_cases g3:s.length≠20+(XiD s).1.Options.length+(XiD s).2.1.length
  ·rw [if_pos g3] at h;exact absurd h (by decide)
  rw [if_neg g3] at hz hb hlen ⊢
  simp only at hz hb hlen ⊢
  have e5:∃ l5:Nat,(20≤l5∧l5≤s.length∧vK s 0 1%16*4=(l5:Int))∧z=l5∧XiD s=(⟨vK s 1 1,vK s 4 2,vK s 6 2 !=0,vK s 8 1,vK s 9 1,Xya s 12,Xya s 16,(s.drop 20).take (l5 - 20)⟩,(s.drop l5).take ((vK s 2 2).toNat - l5),0)∧XiD t=(⟨vK s 1 1,vK s 4 2,vK s 6 2 !=0,vK s 8 1,vK s 9 1,Xya s 12,Xya s 16,(s.drop 20).take (l5 - 20)⟩,(t.drop l5).take ((vK s 2 2).toNat - l5),0):=by
   have g2':(XiD s).2.2=0:=by simpa using g2
   have z20:20≤z:=by omega
   unfold XiD at g2' ⊢
   rw [hl,hv 0 1 (by omega),hv 2 2 (by omega),hv 6 2 (by omega),hv 1 1 (by omega),hv 4 2 (by omega),hv 8 1 (by omega),hv 9 1 (by omega)]
   have r0:=Xfz s 0 1 256 (by decide)
   by_cases c0:s.length<20
   ·rw [if_pos c0] at g2';exact absurd g2' (by decide)
   by_cases c1:vK s 0 1/16≠4
   ·exact absurd g1 c1
   by_cases c2:vK s 0 1%16*4<20
   ·rw [if_neg c0,if_neg c1,if_pos c2] at g2';exact absurd g2' (by decide)
   by_cases c3:vK s 2 2<vK s 0 1%16*4
   ·rw [if_neg c0,if_neg c1,if_neg c2,if_pos c3] at g2';exact absurd g2' (by decide)
   by_cases c4:(s.length:Int)<vK s 2 2
   ·rw [if_neg c0,if_neg c1,if_neg c2,if_neg c3,if_pos c4] at g2';exact absurd g2' (by decide)
   have hzl:z=(vK s 0 1%16*4).toNat:=by
    rw [←hz]
    unfold XiD
    rw [if_neg c0,if_neg c1,if_neg c2,if_neg c3,if_neg c4]
    by_cases c5:norm (Xez (s.take (vK s 0 1%16*4).toNat))≠65535
    ·rw [if_neg c0,if_neg c1,if_neg c2,if_neg c3,if_neg c4,if_pos c5] at g2';exact absurd g2' (by decide)
    by_cases c6:vK s 6 2≠0∧vK s 6 2≠16384
    ·rw [if_neg c0,if_neg c1,if_neg c2,if_neg c3,if_neg c4,if_neg c5,if_pos c6] at g2';exact absurd g2' (by decide)
    rw [if_neg c5,if_neg c6]
    simp only [List.length_take,List.length_drop]
    omega
   refine ⟨(vK s 0 1%16*4).toNat,⟨by omega,by omega,by omega⟩,hzl,?_⟩
   rw [Xp5 ht (show (vK s 0 1%16*4).toNat≤z by omega)]
   by_cases c5:norm (Xez (s.take (vK s 0 1%16*4).toNat))≠65535
   ·rw [if_neg c0,if_neg c1,if_neg c2,if_neg c3,if_neg c4,if_pos c5] at g2';exact absurd g2' (by decide)
   by_cases c6:vK s 6 2≠0∧vK s 6 2≠16384
   ·rw [if_neg c0,if_neg c1,if_neg c2,if_neg c3,if_neg c4,if_neg c5,if_pos c6] at g2';exact absurd g2' (by decide)
   simp only [if_neg c0,if_neg c1,if_neg c2,if_neg c3,if_neg c4,if_neg c5,if_neg c6]
   have a4:∀ p,p+4≤z→Xya t p=Xya s p:=fun p hp=>by unfold Xya;rw [hv p 4 hp]
   rw [a4 12 (by omega),a4 16 (by omega),XiA ht (show 20+((vK s 0 1%16*4).toNat - 20)≤z by omega)]
   exact ⟨trivial,rfl⟩
  obtain ⟨l5,⟨q1,q2,q3⟩,q4,q5,q6⟩:=e5
  subst q4
  rw [hv 0 1 (by omega),if_pos g1]
  rw [q5] at g3 hb hlen ⊢
  rw [q6]
  simp only at hb hlen g3 ⊢
  have hfull:(s.drop z).take ((vK s 2 2).toNat - z)=s.drop z:=List.take_of_length_le (by
   have:(s.drop z).length=s.length - z:=List.length_drop
   rw [List.length_take] at hlen
   omega)
  rw [hfull] at hb g3 ⊢
  have hfb:(t.drop z).take ((vK s 2 2).toNat - z)=b:=by
   rw [hdr]
   refine List.take_of_length_le ?_
   rw [hfull] at hlen
   have:(s.drop z).length=s.length - z:=List.length_drop
   have h3:=congrArg List.length hfull
   rw [List.length_take] at h3
   omega
  rw [hfb,hl,if_neg (by simp),if_neg (by rw [hb];exact g3)]
  refine ⟨?_,rfl⟩
  have:20+((s.drop 20).take (z - 20)).length=z:=by rw [List.length_take,List.length_drop];omega
  rw [this]
 ·rw [if_neg g1] at h hz hb hlen ⊢
  by_cases g4:vK s 0 1/16=6
  ·rw [if_pos g4] at h hz hb hlen ⊢
   by_cases g2:(Xj1 s).2.2≠0
   ·rw [if_pos g2] at h;exact absurd h g2
   rw [if_neg g2] at h hz hb hlen ⊢
   by_cases g3:s.length≠40+(Xj1 s).2.1.length
   ·rw [if_pos g3] at h;exact absurd h (by decide)
   rw [if_neg g3] at hz hb hlen ⊢
   simp only at hz hb hlen ⊢
   subst hz
   have g2':(Xj1 s).2.2=0:=by simpa using g2
   have k6:Xj1 s=(XtS s,(s.drop 40).take (Xed ((s.drop 4).take 2)),0)∧Xj1 t=(XtS s,(t.drop 40).take (Xed ((s.drop 4).take 2)),0):=by
    unfold Xj1 at g2' ⊢
    rw [hl,Xp5 ht (show 4≤40 by decide),XiA (p:=4) (k:=2) ht (by decide)]
    by_cases c0:s.length<40
    ·rw [if_pos c0] at g2';exact absurd g2' (by decide)
    by_cases c1:Xed (s.take 4)/2^28≠6
    ·rw [if_neg c0,if_pos c1] at g2';exact absurd g2' (by decide)
    by_cases c2:s.length - 40<Xed ((s.drop 4).take 2)
    ·rw [if_neg c0,if_neg c1,if_pos c2] at g2';exact absurd g2' (by decide)
    rw [if_neg c0,if_neg c1,if_neg c2,if_neg c0,if_neg c1,if_neg c2]
    have hh:XtS t=XtS s:=by
     unfold XtS
     rw [Xp5 ht (show 4≤40 by decide),XiA (p:=6) (k:=1) ht (by decide),XiA (p:=7) (k:=1) ht (by decide),XiA (p:=8) (k:=16) ht (by decide),XiA (p:=24) (k:=16) ht (by decide)]
    rw [hh]
    exact ⟨rfl,rfl⟩
   obtain ⟨k1,k2⟩:=k6
   rw [hv 0 1 (by omega),if_neg g1,if_pos g4]
   rw [k1] at g3 hb hlen ⊢
   rw [k2]
   simp only at hb hlen g3 ⊢
   have d40:(s.drop 40).length=s.length - 40:=List.length_drop
   have hfull:(s.drop 40).take (Xed ((s.drop 4).take 2))=s.drop 40:=List.take_of_length_le (by
    rw [List.length_take] at hlen;omega)
   have h3:=congrArg List.length hfull
   rw [List.length_take] at h3
   rw [hfull] at hb g3 ⊢
   have hfb:(t.drop 40).take (Xed ((s.drop 4).take 2))=b:=by
    rw [hdr]
    exact List.take_of_length_le (by omega)
   rw [hfb,hl,if_neg (by simp),if_neg (by rw [hb];exact g3)]
   exact ⟨rfl,rfl⟩
  ·rw [if_neg g4] at h;exact absurd h (by decide)
theorem XoA:∀ a:List UInt8,Xez a=0→XOV a=true
 | [],_=>rfl
 | [x],h=>by
   have:x.toNat=0:=by rw [Xez] at h;omega
   have e:x=0:=UInt8.toNat_inj.1 this
   subst e;rfl
 | x::y::a,h=>by
   rw [Xez] at h
   have ex:x=0:=UInt8.toNat_inj.1 (show x.toNat=0 by omega)
   have ey:y=0:=UInt8.toNat_inj.1 (show y.toNat=0 by omega)
   have:=XoA a (by omega)
   subst ex ey
   exact this
theorem XR7 {b:List UInt8} {p:Nat} (hp:p<b.length) (h:0<vK b p 1):Xez b≠0:=by
 intro e
 have hz:=XoA b e
 unfold XOV at hz
 rw [List.all_eq_true] at hz
 have:=hz b[p] (List.getElem_mem hp)
 have e0:b[p]=0:=by simpa using this
 rw [Xk9 hp,e0] at h
 exact absurd h (by decide)
def n7 (b:List UInt8):Nat:=(4*(vK b 12 1/16)).toNat - 20
def hd7 (b:List UInt8) (o:List UInt8):XbO:=⟨vK b 0 2,vK b 2 2,vK b 4 4,vK b 8 4,vK b 13 1,vK b 14 2,vK b 18 2,o⟩
theorem XsJ {b:List UInt8} {src dst:Xae} (h:(Xhy b src dst).2.2=0):20≤b.length∧5≤vK b 12 1/16∧20+n7 b≤b.length∧(Xlk ((b.drop 20).take (n7 b))).2=0∧Xhy b src dst=(hd7 b ((b.drop 20).take (n7 b)),b.drop (20+n7 b),0):=by
 unfold Xhy at h ⊢
 by_cases g0:b.length<20
 ·rw [if_pos g0] at h;exact absurd h (by decide)
 by_cases g1:4*(vK b 12 1/16)<20
 ·rw [if_neg g0,if_pos g1] at h;exact absurd h (by decide)
 by_cases g2:vK b 12 1%16≠0
 ·rw [if_neg g0,if_neg g1,if_pos g2] at h;exact absurd h (by decide)
 by_cases g3:(b.length:Int)<4*(vK b 12 1/16)
 ·rw [if_neg g0,if_neg g1,if_neg g2,if_pos g3] at h;exact absurd h (by decide)
 by_cases g4:Xog src dst 6 b.length=[]
 ·rw [if_neg g0,if_neg g1,if_neg g2,if_neg g3,if_pos g4] at h;exact absurd h (by decide)
 by_cases g5:norm (Xez (Xog src dst 6 b.length++b))≠65535
 ·rw [if_neg g0,if_neg g1,if_neg g2,if_neg g3,if_neg g4,if_pos g5] at h;exact absurd h (by decide)
 by_cases g6:(Xlk ((b.drop 20).take ((4*(vK b 12 1/16)).toNat - 20))).2≠0
 ·rw [if_neg g0,if_neg g1,if_neg g2,if_neg g3,if_neg g4,if_neg g5,if_pos g6] at h;exact absurd h g6
 rw [if_neg g0,if_neg g1,if_neg g2,if_neg g3,if_neg g4,if_neg g5,if_neg g6]
 refine ⟨by omega,by omega,by unfold n7;omega,by unfold n7;simpa using g6,?_⟩
 unfold hd7 n7
 rw [show 20+((4*(vK b 12 1/16)).toNat - 20)=(4*(vK b 12 1/16)).toNat by omega]
theorem Xz2 {b b':List UInt8} {src dst:Xae} (hlen:b'.length=b.length) (h:(Xhy b src dst).2.2=0) (hd:∀ k,k<20→k≠16→k≠17→b'[k]?=b[k]?) (hs:Xez b'%65535=Xez b%65535) (ho:(Xlk ((b'.drop 20).take (n7 b))).2=0):Xhy b' src dst=(hd7 b ((b'.drop 20).take (n7 b)),b'.drop (20+n7 b),0):=by
 obtain ⟨l20,v5,ln,_,_⟩:=XsJ h
 have hv:∀ p k,(p+k≤16∨18≤p∧p+k≤20)→vK b' p k=vK b p k:=fun p k hk=>by
  unfold vK;rw [Xh1 (fun x h1 h2=>hd x (by omega) (by omega) (by omega))]
 have hnz:Xez b'≠0:=XR7 (p:=12) (by omega) (by rw [hv 12 1 (by omega)];omega)
 unfold Xhy at h ⊢
 rw [hlen,hv 12 1 (by omega),hv 0 2 (by omega),hv 2 2 (by omega),hv 4 4 (by omega),hv 8 4 (by omega),hv 13 1 (by omega),hv 14 2 (by omega),hv 18 2 (by omega)]
 by_cases g0:b.length<20
 ·rw [if_pos g0] at h;exact absurd h (by decide)
 by_cases g1:4*(vK b 12 1/16)<20
 ·rw [if_neg g0,if_pos g1] at h;exact absurd h (by decide)
 by_cases g2:vK b 12 1%16≠0
 ·rw [if_neg g0,if_neg g1,if_pos g2] at h;exact absurd h (by decide)
 by_cases g3:(b.length:Int)<4*(vK b 12 1/16)
 ·rw [if_neg g0,if_neg g1,if_neg g2,if_pos g3] at h;exact absurd h (by decide)
 by_cases g4:Xog src dst 6 b.length=[]
 ·rw [if_neg g0,if_neg g1,if_neg g2,if_neg g3,if_pos g4] at h;exact absurd h (by decide)
 by_cases g5:norm (Xez (Xog src dst 6 b.length++b))≠65535
 ·rw [if_neg g0,if_neg g1,if_neg g2,if_neg g3,if_neg g4,if_pos g5] at h;exact absurd h (by decide)
 have g5':¬ norm (Xez (Xog src dst 6 b.length++b'))≠65535:=by
  have m:=Xkc (Xez (Xog src dst 6 b.length++b))
  rw [Decidable.not_not.1 g5] at m
  rw [Xgf _ _ (Xuj _ _ _ _)] at m ⊢
  rw [XmY (by omega) (by omega)]
  simp
 rw [if_neg g0,if_neg g1,if_neg g2,if_neg g3,if_neg g4,if_neg g5',if_neg (by unfold n7 at ho;simpa using ho)]
 unfold hd7 n7
 rw [show 20+((4*(vK b 12 1/16)).toNat - 20)=(4*(vK b 12 1/16)).toNat by omega]
theorem XfU {s:List UInt8} (h:(Xav s).2.2.2=0) (hs:(Xav s).1.Stamped=true):(Xak s).err=0∧(Xak s).proto=6∧s.length≤9000∧s≠[]∧(Xhy (Xak s).body (Xak s).src (Xak s).dst).2.2=0 ∧
 0≤(Xf5 (Xhy (Xak s).body (Xak s).src (Xak s).dst).1.Options).2.2∧Xav s=((Xf9 (Xak s) s.length).1,s.length - (Xak s).body.length,s.length - (Xf9 (Xak s) s.length).2.1,0):=by
 unfold Xav at h hs ⊢
 by_cases g1:9000<s.length
 ·rw [if_pos g1] at h;exact absurd h (by decide)
 by_cases g2:s=[]
 ·rw [if_neg g1,if_pos g2] at h;exact absurd h (by decide)
 by_cases g3:(Xak s).err≠0
 ·rw [if_neg g1,if_neg g2,if_pos g3] at h;exact absurd h g3
 by_cases g4:(Xf9 (Xak s) s.length).2.2≠0
 ·rw [if_neg g1,if_neg g2,if_neg g3,if_pos g4] at h;exact absurd h g4
 rw [if_neg g1,if_neg g2,if_neg g3,if_neg g4] at hs ⊢
 simp only at hs
 have hin:(Xak s).proto=6∧(Xhy (Xak s).body (Xak s).src (Xak s).dst).2.2=0∧0≤(Xf5 (Xhy (Xak s).body (Xak s).src (Xak s).dst).1.Options).2.2:=by
  unfold Xf9 at hs
  by_cases p6:(Xak s).proto=6
  ·rw [if_pos p6] at hs
   by_cases e7:(Xhy (Xak s).body (Xak s).src (Xak s).dst).2.2≠0
   ·rw [if_pos e7] at hs;exact absurd hs (by simp [zP])
   rw [if_neg e7] at hs
   simp only at hs
   unfold Xxi at hs
   by_cases e8:0≤(Xf5 (Xhy (Xak s).body (Xak s).src (Xak s).dst).1.Options).2.2
   ·exact ⟨p6,by simpa using e7,e8⟩
   ·rw [if_neg e8] at hs;exact absurd hs (by decide)
  ·rw [if_neg p6] at hs
   by_cases p17:(Xak s).proto=17
   ·rw [if_pos p17] at hs
    split at hs
    ·exact absurd hs (by simp [zP])
    split at hs
    ·exact absurd hs (by simp [zP])
    ·exact absurd hs (by simp)
   ·rw [if_neg p17] at hs;exact absurd hs (by decide)
 exact ⟨by simpa using g3,hin.1,by omega,g2,hin.2.1,hin.2.2,rfl⟩
theorem XjN {s b':List UInt8} {p q:Nat} (h:(Xav s).2.2.2=0) (hs:(Xav s).1.Stamped=true) (hq:(Xf5 (Xhy (Xak s).body (Xak s).src (Xak s).dst).1.Options).2.2=(q:Int)) (hp:p=q∨p=q+4) (hlen:b'.length=(Xak s).body.length)
 (hd:∀ k,k≠16→k≠17→(k<20+p∨20+p+4≤k)→b'[k]?=(Xak s).body[k]?) (hw:Xez b'%65535=Xez (Xak s).body%65535) :
 Xav (s.take (Xak s).size++b')=({(Xav s).1 with Val:=vK b' (20+q) 4,Echo:=vK b' (20+(q+4)) 4},(Xav s).2.1,(Xav s).2.2.1,0)∧(Xav s).1.Val=vK (Xak s).body (20+q) 4∧(Xav s).1.Echo=vK (Xak s).body (20+(q+4)) 4∧q+28≤(Xak s).body.length:=by
 obtain ⟨k1,k2,k3,k4,k5,k6,k7⟩:=XfU h hs
 obtain ⟨sw1,sw2⟩:=Xh2 k1 hlen
 have hbl:=Xfn k1
 obtain ⟨l20,v5,ln,o7,g7⟩:=XsJ k5
 have eo:(Xhy (Xak s).body (Xak s).src (Xak s).dst).1.Options=((Xak s).body.drop 20).take (n7 (Xak s).body):=by rw [g7];rfl
 rw [eo] at hq k6
 generalize hB:(Xak s).body=B at *
 have hol:((b'.drop 20).take (n7 B)).length=((B.drop 20).take (n7 B)).length:=by simp only [List.length_take,List.length_drop,hlen]
 have hod:∀ k,(k<p∨p+4≤k)→((b'.drop 20).take (n7 B))[k]?=((B.drop 20).take (n7 B))[k]?:=fun k hk=>by
  rw [List.getElem?_take,List.getElem?_take]
  split
  ·rw [List.getElem?_drop,List.getElem?_drop];exact hd _ (by omega) (by omega) (by omega)
  ·rfl
 obtain ⟨r1,r2,r3,r4,r5⟩:=Xw1 hol hp hod o7 hq
 have hon:((B.drop 20).take (n7 B)).length≤n7 B:=by rw [List.length_take];omega
 have hon2:((B.drop 20).take (n7 B)).length+20≤B.length:=by rw [List.length_take,List.length_drop];omega
 have vo:∀ (b:List UInt8) (x:Nat),x+4≤n7 B→vK ((b.drop 20).take (n7 B)) x 4=vK b (20+x) 4:=fun b x hx=>by rw [XAm hx];exact (Xz0 rfl).symm
 have g7':=Xz2 (b:=B) (b':=b') (src:=(Xak s).src) (dst:=(Xak s).dst) hlen k5 (fun k h1 h2 h3=>hd k h2 h3 (by omega)) hw r1
 have st:Xxi ((B.drop 20).take (n7 B))=(true,vK B (20+q) 4,vK B (20+(q+4)) 4):=by
  unfold Xxi
  rw [r3,if_pos (by simp only;omega),vo B q (by omega),vo B (q+4) (by omega)]
 have st':Xxi ((b'.drop 20).take (n7 B))=(true,vK b' (20+q) 4,vK b' (20+(q+4)) 4):=by
  unfold Xxi
  rw [r2,if_pos (by simp only;omega),vo b' q (by omega),vo b' (q+4) (by omega)]
 have in0:Xf9 (Xak s) s.length=(⟨⟨(Xak s).proto,(Xak s).src,(Xak s).dst,vK B 0 2,vK B 2 2⟩,vK B 13 1,true,vK B (20+q) 4,vK B (20+(q+4)) 4,false,[],s.length⟩,(B.drop (20+n7 B)).length,0):=by
  unfold Xf9
  rw [if_pos k2,hB,g7]
  simp only [hd7,st]
  rw [if_neg (by simp)]
 have hz:(s.take (Xak s).size++b').length=s.length:=by rw [List.length_append,List.length_take];omega
 generalize (s.take (Xak s).size++b')=t at *
 have in1:Xf9 (Xak t) t.length=(⟨⟨(Xak s).proto,(Xak s).src,(Xak s).dst,vK B 0 2,vK B 2 2⟩,vK B 13 1,true,vK b' (20+q) 4,vK b' (20+(q+4)) 4,false,[],s.length⟩,(B.drop (20+n7 B)).length,0):=by
  unfold Xf9
  rw [sw1,hz]
  simp only
  rw [if_pos k2,g7']
  simp only [hd7,st']
  rw [if_neg (by simp),List.length_drop,List.length_drop,hlen]
 rw [k7,in0]
 simp only
 refine ⟨?_,trivial,trivial,by omega⟩
 unfold Xav
 rw [if_neg (by omega),if_neg (by intro e;rw [e] at hz;exact k4 (List.eq_nil_of_length_eq_zero (by simpa using hz.symm))),in1,sw1]
 simp only [ne_eq,not_true,if_false,hz,hlen]
end Go.Vm.Code
namespace Go.Vm.Code
open Go Go.Vm Go.Proofs
set_option maxRecDepth 100000
set_option maxHeartbeats 4000000
set_option linter.unusedVariables false
def Xhi (l:List Int) (t7:Int):Option (Sum Int Bool):=
 cond (decide (t7<(l.length:Int)))
  (
  Xbr (decide ((0:Int)≤t7∧t7<(l.length:Int))) <|
  (l[t7.toNat]?).bind fun (e:Int)=>
  cond (decide (e<0))
   (
   some (.inr (false)))
   (
   cond (decide (e>65535))
    (
    some (.inr (false)))
    (
    some (.inl (wI .i64 (t7+1))))))
  (
  some (.inr (true)))
def Xlx (l:List Int):Option Bool:=
 iter (fun st=>Xhi l st) FUEL 0
def Xxv (x:Bool):Xc2:=⟨.bool x,[],[none]⟩
abbrev XfE:=(List Int)→Option Bool
def r134 (g:XfE):Dec:=dSl 0 1 (unL (asI .i64)) fun (y0:List Int)=>XdT (ofG (g y0) Xxv)
theorem XOd {g:XfE} {y0:List Int} {x:Bool} (hx:g y0=some x):r134 g [.slice (some ⟨0,0,none⟩) y0.length 1] [some (vI .i64 y0)]=some (Xxv x):=(XvI (XvE _ _)).trans (Xa7 hx)
def s134 (g:XfE):XbS:=⟨[.sl 1],r134 g⟩
theorem XNb {g:XfE} {y0:List Int} {x:Bool} (hx:g y0=some x):(s134 g).run [.slice (some ⟨0,0,none⟩) y0.length 1] [some (vI .i64 y0)]=some (Xxv x):=XOd hx
abbrev XBh:List (Nat×XbS):=[]
def Xk2 (l:List Int) (t7:Int):VM:=
 ⟨⟨134,18,[(5,.slice (some ⟨0,0,none⟩) l.length 1),(6,.int .i64 (l.length:Int)),(7,.int .i64 t7)],[.code XuW,.inLoop XuW,.inBlock 0,.code XAa],[],false,none⟩,[],[(0,.row false (vI .i64 l))],1⟩
theorem XAX (hS:Xaq Tryz.prog (XaL (XBh))) (l:List Int) (res:Bool):∀ fuel (st:Int) (o:Bool),iter (fun st=>Xhi l st) fuel st=some o→(o=res) →
 XaM Tryz.prog 134 1 (Xk2 l st) (fun v H _=>Res 1 (Xxv res) v H):=by
 intro fuel st o h hc
 refine XcJ (head:=fun st=>Xk2 l st) (C:=fun o=>(o=res)) ?_ fuel st o h hc
 clear h hc o st fuel
 intro t7 o h hc
 replace h:Xhi l t7=some o:=h
 show XaM Tryz.prog 134 1 (Xk2 l t7) (fun v H _=>Res 1 (Xxv res) v H)
 unfold Xhi at h
 refine Xbp XaP hS true 3000 ?_
 conv=>whnf
 refine br.h2 h (by rfl) ?_ ?_
 ·clear h;intro hb h;conv=>whnf
  exact W
 clear h;intro hb h;conv=>whnf
 replace h:=Xbr.elim h;obtain ⟨hb,h⟩:=h
 try (refine req.intro hb ?_;conv=>whnf)
 replace h:=Xcm.elim h;obtain ⟨e,hy,h⟩:=h
 refine rd.I hy (by first|rfl|(rw [Nat.zero_add,Nat.mul_one];try rfl;done)|omega) ?_
 conv=>whnf
 refine br.h h (by rfl) ?_ ?_
 ·clear h;intro hb h;conv=>whnf
  exact W
 clear h;intro hb h;conv=>whnf
 refine br.h h (by rfl) ?_ ?_
 ·clear h;intro hb h;conv=>whnf
  exact W
 clear h;intro hb h;conv=>whnf
 cases h;simp only [Sum.elim_inl,Xk2] at hc
 exact Xjj hc [(0,0)] rfl
theorem XDH (hS:Xaq Tryz.prog (XaL (XBh))) (l:List Int) (res:Bool) (h:Xlx l=some res) :
 XaM Tryz.prog 134 1 ⟨⟨134,18,[(0,.slice (some ⟨0,0,none⟩) l.length 1)],[.code Xyr],[],false,none⟩,[],[(0,.row false (vI .i64 l))],1⟩ (fun v H _=>Res 1 (Xxv res) v H):=by
 unfold Xlx at h
 refine Xbp XaP hS true 3000 ?_
 conv=>whnf
 have hl:=XAX hS _ res _ _ _ h rfl;simp only [Xk2] at hl
 exact Xjj hl [(0,0)] rfl
def XfA:XfE:=Xlx
theorem XJr:Xb8 Tryz.prog 134 (s134 XfA):=by
 have hL:=XDH (Xaq.XaY trivial)
 exact okA ⟨Tryz.f134,rfl,by decide,rfl⟩
def XkD (Xb6:Xdi) (XfA:XfE) (check:Int) (froma1:Int) (to:Int):Option Int:=
 (XfA [check,froma1,to]).bind fun m=>
 cond (!m)
  (
  some (0))
  (
  let t:=wI .i64 ((wI .i64 (65535 - check))+65535)
  (Xb6 (wI .i64 ((wI .i64 (t - froma1))+to))).bind fun f=>
  some (wI .i64 (65535 - f)))
def XCj (x:Int):Xc2:=⟨.int .i64 x,[],[]⟩
abbrev Xee:=Int→Int→Int→Option Int
def r122 (g:Xee):Dec:=dV (asI .i64) fun (y0:Int)=>dV (asI .i64) fun (y1:Int)=>dV (asI .i64) fun (y2:Int)=>XdT (ofG (g y0 y1 y2) XCj)
theorem XOD {g:Xee} {y0:Int} {y1:Int} {y2:Int} {x:Int} (hx:g y0 y1 y2=some x):r122 g [.int .i64 y0,.int .i64 y1,.int .i64 y2] []=some (XCj x):=(Xbb (Xdr _)).trans ((Xbb (Xdr _)).trans ((Xbb (Xdr _)).trans (Xa7 hx)))
def s122 (g:Xee):XbS:=⟨[.v,.v,.v],r122 g⟩
theorem XAl {g:Xee} {y0:Int} {y1:Int} {y2:Int} {x:Int} (hx:g y0 y1 y2=some x):(s122 g).run [.int .i64 y0,.int .i64 y1,.int .i64 y2] []=some (XCj x):=XOD hx
abbrev XKE (Xb6:Xdi) (XfA:XfE):List (Nat×XbS):=[(115,s115 Xb6),(134,s134 XfA)]
theorem XDM (Xb6:Xdi) (XfA:XfE) (hS:Xaq Tryz.prog (XaL (XKE Xb6 XfA))) (check:Int) (froma1:Int) (to:Int) (res:Int) (h:XkD Xb6 XfA check froma1 to=some res) :
 XaM Tryz.prog 122 0 ⟨⟨122,22,[(0,.int .i64 check),(1,.int .i64 froma1),(2,.int .i64 to)],[.code XHj],[],false,none⟩,[],[],0⟩ (fun v H _=>Res 0 (XCj res) v H):=by
 unfold XkD at h
 have R1:=@XNb XfA
 have R2:=@XuV Xb6
 refine Xbp XaP hS true 3000 ?_
 conv=>whnf
 exact W
def XcU:Xee:=XkD Xb6 XfA
theorem XKU:Xb8 Tryz.prog 122 (s122 XcU):=by
 have hL:=XDM Xb6 XfA (Xaq.XaY ⟨XBm,XJr,trivial⟩)
 exact okA ⟨Tryz.f122,rfl,by decide,rfl⟩
def Xfu (XcU:Xee) (Xax:XbI) (froma1:List UInt8) (to:List UInt8) (xat:Int) (check1:Int) (xat1:Int):Option (Sum (Int×Int×Int) Int):=
 cond (decide (xat<(froma1.length:Int)))
  (
  Xbr (decide (0≤xat)) <|
  (froma1[xat.toNat]?).bind fun (b:UInt8)=>
  let t2:=wI .i64 ((wI .i64 (b.toNat:Int))*2^8)
  let t3:=decide ((wI .i64 (xat+1))<(froma1.length:Int))
  cond (t3)
   (
   Xbr (decide (0≤(wI .i64 (xat+1)))) <|
   (froma1[(wI .i64 (xat+1)).toNat]?).bind fun (b1:UInt8)=>
   (Xax to xat1 2).bind fun xg=>
   (XcU check1 (XvA .i64 t2 (wI .i64 (b1.toNat:Int))) (wI .i64 xg.1)).bind fun t4=>
   some (.inl (wI .i64 (xat+2),t4,wI .i64 (xat1+2))))
   (
   (Xax to xat1 2).bind fun xg1=>
   (XcU check1 t2 (wI .i64 xg1.1)).bind fun t5=>
   some (.inl (wI .i64 (xat+2),t5,wI .i64 (xat1+2)))))
  (
  some (.inr (check1)))
def XiX (XcU:Xee) (Xax:XbI) (check:Int) (froma1:List UInt8) (to:List UInt8):Option Int:=
 let t:=(froma1.length:Int) !=(to.length:Int)
 cond (t)
  (
  some (check))
  (
  let t1:=decide (((froma1.length:Int).tmod 2)>0)
  cond (t1)
   (
   some (check))
   (
   iter (fun st=>Xfu XcU Xax froma1 to st.1 st.2.1 st.2.2) FUEL (0,check,0)))
def XNq (x:Int):Xc2:=⟨.int .i64 x,[],[]⟩
abbrev Xel:=Int→(List UInt8)→(List UInt8)→Option Int
def r99 (g:Xel):Dec:=dV (asI .i64) fun (y0:Int)=>dV asS fun (y1:List UInt8)=>dV asS fun (y2:List UInt8)=>XdT (ofG (g y0 y1 y2) XNq)
theorem r99_c {g:Xel} {y0:Int} {y1:List UInt8} {y2:List UInt8} {x:Int} (hx:g y0 y1 y2=some x):r99 g [.int .i64 y0,.string ⟨⟨y1⟩⟩,.string ⟨⟨y2⟩⟩] []=some (XNq x):=(Xbb (Xdr _)).trans ((Xbb (Xds)).trans ((Xbb (Xds)).trans (Xa7 hx)))
def s99 (g:Xel):XbS:=⟨[.v,.v,.v],r99 g⟩
theorem XR6 {g:Xel} {y0:Int} {y1:List UInt8} {y2:List UInt8} {x:Int} (hx:g y0 y1 y2=some x):(s99 g).run [.int .i64 y0,.string ⟨⟨y1⟩⟩,.string ⟨⟨y2⟩⟩] []=some (XNq x):=r99_c hx
abbrev XGM (XcU:Xee) (Xax:XbI):List (Nat×XbS):=[(122,s122 XcU),(69,s69 Xax)]
def XlV (froma1:List UInt8) (to:List UInt8) (xat:Int) (check1:Int) (xat1:Int):VM:=
 ⟨⟨128,32,[(0,.func (.yield 5) #[] #[]),(1,.pointer (some ⟨3,0,none⟩)),(3,.int .i64 xat)],[.code Xqe,.inLoop Xqe,.inBlock 0],[],false,none⟩,[⟨99,40,[(3,.pointer (some ⟨0,0,none⟩))],[.inRangeFunc 5,.inBlock 0,.code XGp],[4],false,none⟩],[(0,.cells [.int .i64 check1]),(1,.cells [.string ⟨⟨to⟩⟩]),(2,.cells [.int .i64 xat1]),(3,.cells [.string ⟨⟨froma1⟩⟩]),(4,.marks),(5,.loop ⟨.ready,none,99,40,[(3,.pointer (some ⟨0,0,none⟩)),(5,.pointer (some ⟨1,0,none⟩)),(7,.pointer (some ⟨2,0,none⟩))],[25],XTo,XHd,4⟩)],6⟩
theorem XBP (XcU:Xee) (Xax:XbI) (hS:Xaq Tryz.prog (XaL (XGM XcU Xax))) (froma1:List UInt8) (to:List UInt8) (res:Int):∀ fuel (st:Int×Int×Int) (o:Int),iter (fun st=>Xfu XcU Xax froma1 to st.1 st.2.1 st.2.2) fuel st=some o→(o=res) →
 XaM Tryz.prog 99 0 (XlV froma1 to st.1 st.2.1 st.2.2) (fun v H _=>Res 0 (XNq res) v H):=by
 intro fuel st o h hc
 refine XcJ (head:=fun st=>XlV froma1 to st.1 st.2.1 st.2.2) (C:=fun o=>(o=res)) ?_ fuel st o h hc
 clear h hc o st fuel
 intro st o h hc
 obtain ⟨xat,check1,xat1⟩:=st
 replace h:Xfu XcU Xax froma1 to xat check1 xat1=some o:=h
 show XaM Tryz.prog 99 0 (XlV froma1 to xat check1 xat1) (fun v H _=>Res 0 (XNq res) v H)
 unfold Xfu at h
 refine Xbp XaP hS true 3000 ?_
 conv=>whnf
 refine br.h2 h (by rfl) ?_ ?_
 ·clear h;intro hb h;conv=>whnf
  exact W
 clear h;intro hb h;conv=>whnf
 replace h:=Xbr.elim h;obtain ⟨hb,h⟩:=h
 try (refine req.intro hb ?_;conv=>whnf)
 replace h:=Xcm.elim h;obtain ⟨b,hy,h⟩:=h
 refine rdS.intro hy ?_
 conv=>whnf
 let t2:Int:=wI .i64 ((wI .i64 (b.toNat:Int))*2^8)
 let t3:Bool:=decide ((wI .i64 (xat+1))<(froma1.length:Int))
 refine br.h2 h (by rfl) ?_ ?_
 ·clear h;intro hb h;conv=>whnf
  replace h:=Xcm.elim h;obtain ⟨xg1,hy,h⟩:=h
  refine XeC.a (XpF hy) ?_
  conv=>whnf
  replace h:=Xcm.elim h;obtain ⟨t5,hy,h⟩:=h
  refine XeC.a (XAl hy) ?_
  conv=>whnf
  cases h;simp only [Sum.elim_inl,XlV] at hc
  exact XxW hc [(0,0),(1,1),(2,2),(3,3),(4,4),(5,5)] rfl
 clear h;intro hb h;conv=>whnf
 replace h:=Xbr.elim h;obtain ⟨hb,h⟩:=h
 try (refine req.intro hb ?_;conv=>whnf)
 replace h:=Xcm.elim h;obtain ⟨b1,hy,h⟩:=h
 refine rdS.intro hy ?_
 conv=>whnf
 replace h:=Xcm.elim h;obtain ⟨xg,hy,h⟩:=h
 refine XeC.a (XpF hy) ?_
 conv=>whnf
 replace h:=Xcm.elim h;obtain ⟨t4,hy,h⟩:=h
 refine XeC.a (XAl hy) ?_
 conv=>whnf
 cases h;simp only [Sum.elim_inl,XlV] at hc
 exact XxW hc [(0,0),(1,1),(2,2),(3,3),(4,4),(5,5)] rfl
theorem XMS (XcU:Xee) (Xax:XbI) (hS:Xaq Tryz.prog (XaL (XGM XcU Xax))) (check:Int) (froma1:List UInt8) (to:List UInt8) (res:Int) (h:XiX XcU Xax check froma1 to=some res) :
 XaM Tryz.prog 99 0 ⟨⟨99,40,[(0,.int .i64 check),(1,.string ⟨⟨froma1⟩⟩),(2,.string ⟨⟨to⟩⟩)],[.code XHF],[],false,none⟩,[],[],0⟩ (fun v H _=>Res 0 (XNq res) v H):=by
 unfold XiX at h
 refine Xbp XaP hS true 3000 ?_
 conv=>whnf
 let t:Bool:=(froma1.length:Int) !=(to.length:Int)
 refine br.h h (by rfl) ?_ ?_
 ·clear h;intro hb h;conv=>whnf
  exact W
 clear h;intro hb h;conv=>whnf
 let t1:Bool:=decide (((froma1.length:Int).tmod 2)>0)
 refine br.h h (by rfl) ?_ ?_
 ·clear h;intro hb h;conv=>whnf
  exact W
 clear h;intro hb h;conv=>whnf
 have hl:=XBP XcU Xax hS _ _ res _ _ _ h rfl;simp only [XlV] at hl
 exact XxW hl [(0,0),(1,1),(2,2),(3,3),(4,4),(5,5)] rfl
def XcW:Xel:=XiX XcU Xax
theorem XOX:Xb8 Tryz.prog 99 (s99 XcW):=by
 have hL:=XMS XcU Xax (Xaq.XaY ⟨XKU,Xrd,trivial⟩)
 exact okA ⟨Tryz.f99,rfl,by decide,rfl⟩
def Xnm (n:Int):Option Bool:=
 cond (decide (n≥0))
  (
  some (decide (n≤65535)))
  (
  some (false))
def XEp (x:Bool):Xc2:=⟨.bool x,[],[]⟩
abbrev Xgd:=Int→Option Bool
def r123 (g:Xgd):Dec:=dV (asI .i64) fun (y0:Int)=>XdT (ofG (g y0) XEp)
theorem XN1 {g:Xgd} {y0:Int} {x:Bool} (hx:g y0=some x):r123 g [.int .i64 y0] []=some (XEp x):=(Xbb (Xdr _)).trans (Xa7 hx)
def s123 (g:Xgd):XbS:=⟨[.v],r123 g⟩
theorem XKi {g:Xgd} {y0:Int} {x:Bool} (hx:g y0=some x):(s123 g).run [.int .i64 y0] []=some (XEp x):=XN1 hx
abbrev XL7:List (Nat×XbS):=[]
theorem XCz (hS:Xaq Tryz.prog (XaL (XL7))) (n:Int) (res:Bool) (h:Xnm n=some res) :
 XaM Tryz.prog 123 0 ⟨⟨123,9,[(0,.int .i64 n)],[.code XHP],[],false,none⟩,[],[],0⟩ (fun v H _=>Res 0 (XEp res) v H):=by
 unfold Xnm at h
 refine Xbp XaP hS true 3000 ?_
 conv=>whnf
 exact W
def XfJ:Xgd:=Xnm
theorem XIw:Xb8 Tryz.prog 123 (s123 XfJ):=by
 have hL:=XCz (Xaq.XaY trivial)
 exact okA ⟨Tryz.f123,rfl,by decide,rfl⟩
def Xm8 (XeU:Xfy) (XfJ:Xgd) (check:Int) (froma1:Int) (to:Int):Option Int:=
 (XfJ check).bind fun w=>
 cond (!w)
  (
  some (0))
  (
  (XfJ froma1).bind fun w1=>
  cond (!w1)
   (
   some (0))
   (
   (XfJ to).bind fun w2=>
   cond (!w2)
    (
    some (0))
    (
    (XeU [wI .i64 (65535 - check),wI .i64 (65535 - froma1),to]).bind fun a=>
    some (wI .i64 (65535 - a)))))
def XB4 (x:Int):Xc2:=⟨.int .i64 x,[],[]⟩
abbrev Xfo:=Int→Int→Int→Option Int
def r102 (g:Xfo):Dec:=dV (asI .i64) fun (y0:Int)=>dV (asI .i64) fun (y1:Int)=>dV (asI .i64) fun (y2:Int)=>XdT (ofG (g y0 y1 y2) XB4)
theorem XPz {g:Xfo} {y0:Int} {y1:Int} {y2:Int} {x:Int} (hx:g y0 y1 y2=some x):r102 g [.int .i64 y0,.int .i64 y1,.int .i64 y2] []=some (XB4 x):=(Xbb (Xdr _)).trans ((Xbb (Xdr _)).trans ((Xbb (Xdr _)).trans (Xa7 hx)))
def s102 (g:Xfo):XbS:=⟨[.v,.v,.v],r102 g⟩
theorem XKF {g:Xfo} {y0:Int} {y1:Int} {y2:Int} {x:Int} (hx:g y0 y1 y2=some x):(s102 g).run [.int .i64 y0,.int .i64 y1,.int .i64 y2] []=some (XB4 x):=XPz hx
abbrev XJ5 (XeU:Xfy) (XfJ:Xgd):List (Nat×XbS):=[(92,s92 XeU),(123,s123 XfJ)]
theorem XE8 (XeU:Xfy) (XfJ:Xgd) (hS:Xaq Tryz.prog (XaL (XJ5 XeU XfJ))) (check:Int) (froma1:Int) (to:Int) (res:Int) (h:Xm8 XeU XfJ check froma1 to=some res) :
 XaM Tryz.prog 102 0 ⟨⟨102,28,[(0,.int .i64 check),(1,.int .i64 froma1),(2,.int .i64 to)],[.code XF8],[],false,none⟩,[],[],0⟩ (fun v H _=>Res 0 (XB4 res) v H):=by
 unfold Xm8 at h
 have R1:=@XKi XfJ
 have R2:=@XGv XeU
 refine Xbp XaP hS true 3000 ?_
 conv=>whnf
 exact W
def Xdo:Xfo:=Xm8 XeU XfJ
theorem XKc:Xb8 Tryz.prog 102 (s102 Xdo):=by
 have hL:=XE8 XeU XfJ (Xaq.XaY ⟨XFW,XIw,trivial⟩)
 exact okA ⟨Tryz.f102,rfl,by decide,rfl⟩
end Go.Vm.Code
namespace Go.Vm.Code
open Go Go.Vm
def isW (n:Int):Bool:=decide (0≤n∧n≤65535)
theorem XNP {l:List Int} (hl:l.length<2^40):XfA l=some (l.all isW):=by
 unfold XfA Xlx
 have key:=iter_eq (step:=fun (st:Int)=>Xhi l st) (fun st=>(l.drop st.toNat).all isW) (fun st=>0≤st∧st≤l.length) (fun st=>(l.length - st).toNat) ?_ FUEL 0 ⟨by omega,by omega⟩ (by rw [Xfm];omega)
 ·rw [key];simp
 rintro p ⟨g1,g2⟩
 obtain ⟨i,rfl⟩:=Int.eq_ofNat_of_zero_le g1
 simp only [Int.toNat_natCast]
 unfold Xhi
 by_cases hi:i<l.length
 ·have e1:(l.drop i).all isW=(isW l[i]&&(l.drop (i+1)).all isW):=by rw [List.drop_eq_getElem_cons hi];rfl
  by_cases h1:l[i]<0
  ·refine .inl ?_
   simp (disch:=omega) only [XaZ,XaH,Int.toNat_natCast,List.getElem?_eq_getElem,Option.bind_some]
   rw [e1,show isW l[i]=false from decide_eq_false (by omega)];rfl
  ·by_cases h2:l[i]>65535
   ·refine .inl ?_
    simp (disch:=omega) only [XaZ,XaR,XaH,Int.toNat_natCast,List.getElem?_eq_getElem,Option.bind_some]
    rw [e1,show isW l[i]=false from decide_eq_false (by omega)];rfl
   ·refine .inr ⟨((i+1:Nat):Int),?_,⟨by omega,by omega⟩,by omega,?_⟩
    ·simp (disch:=omega) only [XaZ,XaR,XaH,Int.toNat_natCast,List.getElem?_eq_getElem,Option.bind_some,Xdb];rfl
    ·simp only [Int.toNat_natCast]
     rw [e1,show isW l[i]=true from decide_eq_true (by omega)];rfl
 ·refine .inl ?_
  rw [XaR (by omega),List.drop_eq_nil_of_le (by omega)];rfl
def XoW (c f t:Int):Int:=if isW c&&(isW f&&isW t) then 65535 - ((norm ((65535 - c)+((65535 - f)+t)).toNat:Nat):Int) else 0
theorem XjC {n:Int}:isW n=true↔0≤n∧n≤65535:=by unfold isW;rw [decide_eq_true_eq]
theorem XwX (c f t:Int):isW (XoW c f t)=true:=by
 rw [XjC];unfold XoW
 have:=norm_le ((65535 - c)+((65535 - f)+t)).toNat
 split<;>omega
theorem XLI {c f t:Int}:XcU c f t=some (XoW c f t):=by
 unfold XcU XkD XoW
 rw [XNP (by simp),Option.bind_some]
 simp only [List.all_cons,List.all_nil,Bool.and_true]
 cases hb:(isW c&&(isW f&&isW t)) with
 | false=>rfl
 | true=>
   simp only [Bool.and_eq_true,XjC] at hb
   rw [Bool.not_true,cond_false]
   simp only [if_true]
   rw [Xdb (n:=65535 - c) (by omega) (by omega),Xdb (n:=65535 - c+65535) (by omega) (by omega),Xdb (n:=65535 - c+65535 - f) (by omega) (by omega),Xdb (n:=65535 - c+65535 - f+t) (by omega) (by omega),fold_eq (by omega) (by omega),Option.bind_some]
   have e:65535 - c+65535 - f+t=65535 - c+(65535 - f+t):=by omega
   have:=norm_le (65535 - c+(65535 - f+t)).toNat
   rw [e,Xdb (by omega) (by omega)]
theorem Xu9 {n:Int}:XfJ n=some (isW n):=by
 unfold XfJ Xnm isW
 by_cases h:n≥0
 ·rw [XaZ h];congr 1;rw [Bool.eq_iff_iff,decide_eq_true_eq,decide_eq_true_eq];omega
 ·rw [XaR h];congr 1;symm;exact decide_eq_false (by omega)
theorem XuO {c f t:Int}:Xdo c f t=some (XoW c f t):=by
 unfold Xdo Xm8 XoW
 rw [Xu9,Xu9,Xu9]
 simp only [Option.bind_some]
 cases h1:isW c with
 | false=>rfl
 | true=>
   cases h2:isW f with
   | false=>rfl
   | true=>
     cases h3:isW t with
     | false=>rfl
     | true=>
       rw [XjC] at h1 h2 h3
       simp only [Bool.not_true,cond_false,Bool.and_self,if_true]
       rw [Xdb (n:=65535 - c) (by omega) (by omega),Xdb (n:=65535 - f) (by omega) (by omega),Xrt (by simp) (by
        intro e he;simp only [List.mem_cons,List.not_mem_nil,or_false] at he;rcases he with rfl|rfl|rfl<;>omega),Option.bind_some]
       simp only [List.sum_cons,List.sum_nil,Int.add_zero]
       have:=norm_le (65535 - c+(65535 - f+t)).toNat
       rw [Xdb (by omega) (by omega)]
def XiI (c:Int):List Int→List Int→Int
 | x::xs,y::ys=>XiI (XoW c x y) xs ys
 | _,_=>c
def XjJ (c:Int) (a b:List UInt8):Int:=if a.length=b.length∧a.length%2=0 then XiI c (Xd8 a) (Xd8 b) else c
theorem Xx3 {c:Int} {a b:List UInt8} (ha:a.length<2^39) (hb:b.length<2^39):XcW c a b=some (XjJ c a b):=by
 unfold XcW XiX XjJ
 have e1:((a.length:Int) !=(b.length:Int))=decide (a.length≠b.length):=by
  rw [Bool.eq_iff_iff,bne_iff_ne,decide_eq_true_eq];omega
 have e2:(a.length:Int).tmod 2>0↔¬ a.length%2=0:=by rw [Int.tmod_eq_emod_of_nonneg (by omega)];omega
 simp only [e1]
 by_cases h1:a.length≠b.length
 ·rw [XaZ h1,if_neg (by omega)]
 rw [XaR h1]
 by_cases h2:a.length%2=0
 ·rw [XaR (by rw [e2];omega),if_pos (by omega)]
  have key:=iter_eq (step:=fun (st:Int×Int×Int)=>Xfu XcU Xax a b st.1 st.2.1 st.2.2) (fun st=>XiI st.2.1 (Xd8 (a.drop st.1.toNat)) (Xd8 (b.drop st.1.toNat))) (fun st=>st.2.2=st.1∧∃ i:Nat,st.1=i∧i%2=0∧i≤a.length) (fun st=>(a.length - st.1).toNat) ?_ FUEL (0,c,0) ⟨rfl,0,rfl,by omega,by omega⟩ (by rw [Xfm];simp only;omega)
  ·rw [key];simp
  rintro ⟨p,c1,p1⟩ ⟨g1,i,g2,g3,g4⟩
  simp only at g1 g2 ⊢
  subst g1 g2
  unfold Xfu
  by_cases hi:i<a.length
  ·have hi2:i+1<a.length:=by omega
   have hj2:i+1<b.length:=by omega
   have b1:=a[i].toNat_lt
   have b2:=a[i+1].toNat_lt
   have b3:=b[i].toNat_lt
   have b4:=b[i+1].toNat_lt
   refine .inr ⟨(((i+2:Nat):Int),XoW c1 ((a[i].toNat*256+a[i+1].toNat:Nat):Int) ((b[i].toNat*256+b[i+1].toNat:Nat):Int),((i+2:Nat):Int)),?_,⟨rfl,i+2,rfl,by omega,by omega⟩,by simp only;omega,?_⟩
   ·have e5:((i:Int)+1).toNat=i+1:=by omega
    simp (disch:=omega) only [Xdb,XaH,XaZ,e5,Int.toNat_natCast,List.getElem?_eq_getElem,Option.bind_some,Xq6,Xek,XsC hj2,XLI]
    congr 3<;>(first|rfl|(congr 1<;>omega)|omega)
   ·simp only [Int.toNat_natCast]
    rw [XlH hi2,XlH hj2];rfl
  ·refine .inl ?_
   rw [XaR (by omega)]
   simp [List.drop_eq_nil_of_le (by omega:a.length≤i),Xd8,XiI]
 ·rw [XaZ (by rw [e2];omega),if_neg (by omega)]
theorem XCE {c x y:Int} (hc:isW c=true) (hx:isW x=true) (hy:isW y=true):(XoW c x y+y - c - x)%65535=0:=by
 unfold XoW
 rw [hc,hx,hy]
 simp only [Bool.and_self,if_true]
 rw [XjC] at hc hx hy
 have:=Xkc (65535 - c+(65535 - x+y)).toNat
 omega
theorem Xq9:∀ (xs ys:List Int) (c:Int),xs.length=ys.length→(∀ e∈xs,0≤e∧e≤65535)→(∀ e∈ys,0≤e∧e≤65535)→isW c=true→isW (XiI c xs ys)=true∧(XiI c xs ys+ys.sum - c - xs.sum)%65535=0
 | [],[],c,_,_,_,hc=>⟨hc,by simp [XiI]⟩
 | [],_::_,_,h,_,_,_=>by simp at h
 | _::_,[],_,h,_,_,_=>by simp at h
 | x::xs,y::ys,c,h,hx,hy,hc=>by
   have h1:=XCE hc (XjC.2 (hx x (by simp))) (XjC.2 (hy y (by simp)))
   obtain ⟨h2,h3⟩:=Xq9 xs ys (XoW c x y) (by simpa using h) (fun e he=>hx e (by simp [he])) (fun e he=>hy e (by simp [he])) (XwX c x y)
   refine ⟨h2,?_⟩
   simp only [XiI,List.sum_cons]
   omega
theorem XxE {c:Nat} {a b:List UInt8} (hl:a.length=b.length) (he:a.length%2=0) (hc:c≤65535):∃ d:Nat,XjJ (c:Int) a b=(d:Int)∧d≤65535∧(d+Xez b)%65535=(c+Xez a)%65535:=by
 unfold XjJ
 rw [if_pos ⟨hl,he⟩]
 obtain ⟨t1,t2⟩:=Xq9 (Xd8 a) (Xd8 b) (c:Int) (by rw [XlP,XlP,hl]) (XlC _) (XlC _) (XjC.2 (by omega))
 rw [XlO,XlO] at t2
 generalize XiI (c:Int) (Xd8 a) (Xd8 b)=d at *
 rw [XjC] at t1
 obtain ⟨e,rfl⟩:=Int.eq_ofNat_of_zero_le t1.1
 exact ⟨e,rfl,by omega,by omega⟩
end Go.Vm.Code
namespace Go.Vm.Code
open Go Go.Vm Go.Proofs
set_option maxRecDepth 100000
set_option maxHeartbeats 4000000
set_option linter.unusedVariables false
def Xjq (s:List UInt8) (froma1:Int) (to:Int):Option (List UInt8):=
 cond (decide (to>(s.length:Int)))
  (
  Xbr (decide ((0:Int)≤froma1∧froma1≤(s.length:Int))) <|
  let t:=(s.drop froma1.toNat).take (s.length - froma1.toNat)
  Xbr (decide (t.length+1<2^63)) <|
  some (t++[0]))
  (
  Xbr (decide ((0:Int)≤to∧to≤(s.length:Int)∧(0:Int)≤froma1∧froma1≤(to.toNat:Int))) <|
  let t1:=(s.drop froma1.toNat).take (to.toNat - froma1.toNat)
  some (t1))
def XEe (x:List UInt8):Xc2:=⟨.string ⟨⟨x⟩⟩,[],[]⟩
abbrev XeF:=(List UInt8)→Int→Int→Option (List UInt8)
def r100 (g:XeF):Dec:=dV asS fun (y0:List UInt8)=>dV (asI .i64) fun (y1:Int)=>dV (asI .i64) fun (y2:Int)=>XdT (ofG (g y0 y1 y2) XEe)
theorem XTs {g:XeF} {y0:List UInt8} {y1:Int} {y2:Int} {x:List UInt8} (hx:g y0 y1 y2=some x):r100 g [.string ⟨⟨y0⟩⟩,.int .i64 y1,.int .i64 y2] []=some (XEe x):=(Xbb (Xds)).trans ((Xbb (Xdr _)).trans ((Xbb (Xdr _)).trans (Xa7 hx)))
def s100 (g:XeF):XbS:=⟨[.v,.v,.v],r100 g⟩
theorem XLc {g:XeF} {y0:List UInt8} {y1:Int} {y2:Int} {x:List UInt8} (hx:g y0 y1 y2=some x):(s100 g).run [.string ⟨⟨y0⟩⟩,.int .i64 y1,.int .i64 y2] []=some (XEe x):=XTs hx
abbrev XLg:List (Nat×XbS):=[]
theorem XE0 (hS:Xaq Tryz.prog (XaL (XLg))) (s:List UInt8) (froma1:Int) (to:Int) (res:List UInt8) (h:Xjq s froma1 to=some res) :
 XaM Tryz.prog 100 0 ⟨⟨100,19,[(0,.string ⟨⟨s⟩⟩),(1,.int .i64 froma1),(2,.int .i64 to)],[.code XGT],[],false,none⟩,[],[],0⟩ (fun v H _=>Res 0 (XEe res) v H):=by
 unfold Xjq at h
 refine Xbp XaP hS true 3000 ?_
 conv=>whnf
 exact W
def XcI:XeF:=Xjq
theorem XM8:Xb8 Tryz.prog 100 (s100 XcI):=by
 have hL:=XE0 (Xaq.XaY trivial)
 exact okA ⟨Tryz.f100,rfl,by decide,rfl⟩
def Xjx (Xcr:Xeh) (XcW:Xel) (Xax:XbI) (XcI:XeF) (body:List UInt8) (ata1:Int) (witha2:List UInt8) (sum:Int):Option ((List UInt8)×Bool):=
 cond (decide (ata1<0))
  (
  some (([],false)))
  (
  let t:=wI .i64 ((body.length:Int) - (witha2.length:Int))
  cond (decide (t<ata1))
   (
   some (([],false)))
   (
   cond (decide (sum<0))
    (
    some (([],false)))
    (
    cond ((sum.tmod 2)==1)
     (
     some (([],false)))
     (
     let t1:=decide ((wI .i64 ((body.length:Int) - 2))<sum)
     cond (t1)
      (
      some (([],false)))
      (
      cond (witha2==[])
       (
       some ((body,true)))
       (
       cond (decide (ata1<(wI .i64 (sum+2))))
        (
        let t2:=decide (sum<(wI .i64 (ata1+(witha2.length:Int))))
        cond (t2)
         (
         some (([],false)))
         (
         Xbr (decide ((0:Int)≤ata1∧ata1≤(body.length:Int))) <|
         Xbr (decide ((body.take ata1.toNat).length+witha2.length<2^63)) <|
         Xbr (decide ((0:Int)≤(wI .i64 (ata1+(witha2.length:Int)))∧(wI .i64 (ata1+(witha2.length:Int)))≤(body.length:Int))) <|
         let t3:=(body.drop (wI .i64 (ata1+(witha2.length:Int))).toNat).take (body.length - (wI .i64 (ata1+(witha2.length:Int))).toNat)
         Xbr (decide (((body.take ata1.toNat)++witha2).length+t3.length<2^63)) <|
         let t4:=wI .i64 ((wI .i64 (ata1+(witha2.length:Int)))+1)
         (Xax body sum 2).bind fun xg=>
         (XcI body (XkN .i64 ata1 1) (XkN .i64 t4 1)).bind fun w=>
         (XcI (((body.take ata1.toNat)++witha2)++t3) (XkN .i64 ata1 1) (XkN .i64 t4 1)).bind fun w1=>
         (XcW (wI .i64 xg.1) w w1).bind fun t5=>
         (Xcr (((body.take ata1.toNat)++witha2)++t3) sum 2 (wI .u64 t5)).bind fun s=>
         some ((s,true))))
        (
        Xbr (decide ((0:Int)≤ata1∧ata1≤(body.length:Int))) <|
        Xbr (decide ((body.take ata1.toNat).length+witha2.length<2^63)) <|
        Xbr (decide ((0:Int)≤(wI .i64 (ata1+(witha2.length:Int)))∧(wI .i64 (ata1+(witha2.length:Int)))≤(body.length:Int))) <|
        let t6:=(body.drop (wI .i64 (ata1+(witha2.length:Int))).toNat).take (body.length - (wI .i64 (ata1+(witha2.length:Int))).toNat)
        Xbr (decide (((body.take ata1.toNat)++witha2).length+t6.length<2^63)) <|
        let t7:=wI .i64 ((wI .i64 (ata1+(witha2.length:Int)))+1)
        (Xax body sum 2).bind fun xg1=>
        (XcI body (XkN .i64 ata1 1) (XkN .i64 t7 1)).bind fun w2=>
        (XcI (((body.take ata1.toNat)++witha2)++t6) (XkN .i64 ata1 1) (XkN .i64 t7 1)).bind fun w3=>
        (XcW (wI .i64 xg1.1) w2 w3).bind fun t8=>
        (Xcr (((body.take ata1.toNat)++witha2)++t6) sum 2 (wI .u64 t8)).bind fun s1=>
        some ((s1,true)))))))))
def rx70 (x:(List UInt8)×Bool):Xc2:=⟨.tuple ⟨[.string ⟨⟨x.1⟩⟩,.bool x.2]⟩,[],[]⟩
abbrev XcN:=(List UInt8)→Int→(List UInt8)→Int→Option ((List UInt8)×Bool)
def r70 (g:XcN):Dec:=dV asS fun (y0:List UInt8)=>dV (asI .i64) fun (y1:Int)=>dV asS fun (y2:List UInt8)=>dV (asI .i64) fun (y3:Int)=>XdT (ofG (g y0 y1 y2 y3) rx70)
theorem r70_c {g:XcN} {y0:List UInt8} {y1:Int} {y2:List UInt8} {y3:Int} {x:(List UInt8)×Bool} (hx:g y0 y1 y2 y3=some x):r70 g [.string ⟨⟨y0⟩⟩,.int .i64 y1,.string ⟨⟨y2⟩⟩,.int .i64 y3] []=some (rx70 x):=(Xbb (Xds)).trans ((Xbb (Xdr _)).trans ((Xbb (Xds)).trans ((Xbb (Xdr _)).trans (Xa7 hx))))
def s70 (g:XcN):XbS:=⟨[.v,.v,.v,.v],r70 g⟩
theorem XAv {g:XcN} {y0:List UInt8} {y1:Int} {y2:List UInt8} {y3:Int} {x:(List UInt8)×Bool} (hx:g y0 y1 y2 y3=some x):(s70 g).run [.string ⟨⟨y0⟩⟩,.int .i64 y1,.string ⟨⟨y2⟩⟩,.int .i64 y3] []=some (rx70 x):=r70_c hx
abbrev XQ0 (Xcr:Xeh) (XcW:Xel) (Xax:XbI) (XcI:XeF):List (Nat×XbS):=[(72,s72 Xcr),(99,s99 XcW),(69,s69 Xax),(100,s100 XcI)]
theorem XMG (Xcr:Xeh) (XcW:Xel) (Xax:XbI) (XcI:XeF) (hS:Xaq Tryz.prog (XaL (XQ0 Xcr XcW Xax XcI))) (body:List UInt8) (ata1:Int) (witha2:List UInt8) (sum:Int) (res:(List UInt8)×Bool) (h:Xjx Xcr XcW Xax XcI body ata1 witha2 sum=some res) :
 XaM Tryz.prog 70 0 ⟨⟨70,99,[(0,.string ⟨⟨body⟩⟩),(1,.int .i64 ata1),(2,.string ⟨⟨witha2⟩⟩),(3,.int .i64 sum)],[.code XHe],[],false,none⟩,[],[],0⟩ (fun v H _=>Res 0 (rx70 res) v H):=by
 unfold Xjx at h
 have R1:=@XpF Xax
 have R2:=@XLc XcI
 have R3:=@XR6 XcW
 have R4:=@XGb Xcr
 refine Xbp XaP hS true 3000 ?_
 conv=>whnf
 exact W
def Xbq:XcN:=Xjx Xcr XcW Xax XcI
theorem XyW:Xb8 Tryz.prog 70 (s70 Xbq):=by
 have hL:=XMG Xcr XcW Xax XcI (Xaq.XaY ⟨XFG,XOX,Xrd,XM8,trivial⟩)
 exact okA ⟨Tryz.f70,rfl,by decide,rfl⟩
end Go.Vm.Code
namespace Go.Vm.Code
open Go Go.Vm
theorem andn1:∀ x:Fin 1024,XkN .i64 (x.val:Int) 1=((x.val/2*2:Nat):Int):=by decide +kernel
theorem Xwp {n:Nat} (h:n<1024):XkN .i64 (n:Int) 1=((n/2*2:Nat):Int):=andn1 ⟨n,h⟩
def XnQ (s:List UInt8) (f t:Nat):List UInt8:=if s.length<t then s.drop f++[0] else (s.drop f).take (t - f)
theorem Xud {s:List UInt8} {f t:Nat} (hs:s.length<2^30) (hf:f≤s.length) (ht:f≤t):XcI s (f:Int) (t:Int)=some (XnQ s f t):=by
 unfold XcI Xjq XnQ
 by_cases h:s.length<t
 ·rw [if_pos h,XaZ (by omega),XaH (by omega),Int.toNat_natCast,List.take_of_length_le (by rw [List.length_drop];omega)]
  simp only []
  rw [XaH (by rw [List.length_drop];omega)]
 ·rw [if_neg h,XaR (by omega),XaH (by omega),Int.toNat_natCast,Int.toNat_natCast]
def XkI (s:List UInt8) (i:Nat) (w:List UInt8):List UInt8:=s.take i++w++s.drop (i+w.length)
theorem Xnt {s w:List UInt8} {i:Nat} (h:i+w.length≤s.length):(XkI s i w).length=s.length:=by simp [XkI];omega
theorem XmN {s w:List UInt8} {i k:Nat} (h:i+w.length≤s.length):(XkI s i w)[k]?=if k<i then s[k]? else if k<i+w.length then w[k - i]? else s[k]?:=by
 unfold XkI
 rw [List.append_assoc,List.getElem?_append]
 have e1:(s.take i).length=i:=by simp;omega
 rw [e1]
 by_cases h1:k<i
 ·rw [if_pos h1,if_pos h1,List.getElem?_take_of_lt h1]
 ·rw [if_neg h1,if_neg h1,List.getElem?_append]
  by_cases h2:k<i+w.length
  ·rw [if_pos (by omega),if_pos h2]
  ·rw [if_neg (by omega),if_neg h2,List.getElem?_drop]
   congr 1;omega
theorem Xz4 {s w:List UInt8} {i f:Nat} (h:i+w.length≤s.length) (hf:f≤i):(XkI s i w).take f=s.take f:=by
 apply List.ext_getElem?
 intro k
 rw [List.getElem?_take,List.getElem?_take]
 split
 ·rw [XmN h,if_pos (by omega)]
 ·rfl
theorem Xyw {s w:List UInt8} {i t:Nat} (h:i+w.length≤s.length) (ht:i+w.length≤t):(XkI s i w).drop t=s.drop t:=by
 apply List.ext_getElem?
 intro k
 rw [List.getElem?_drop,List.getElem?_drop,XmN h,if_neg (by omega),if_neg (by omega)]
theorem Xwm:∀ s:List UInt8,s.length%2=1→Xez (s++[0])=Xez s
 | [],h=>by simp at h
 | [x],_=>by simp [Xez]
 | x::y::a,h=>by
   have:=Xwm a (by simp at h;omega)
   simp only [List.cons_append,Xez,this]
theorem XjU {s:List UInt8} {f t:Nat} (hf:f%2=0) (ht:t%2=0) (h1:f≤t) (h2:t≤s.length+1) (h3:f≤s.length):Xez s=Xez (s.take f)+(Xez (XnQ s f t)+Xez (s.drop t))∧(XnQ s f t).length=t - f:=by
 unfold XnQ
 by_cases h:s.length<t
 ·rw [if_pos h]
  have hodd:(s.drop f).length%2=1:=by rw [List.length_drop];omega
  rw [Xwm _ hodd,List.drop_eq_nil_of_le (by omega:s.length≤t),show Xez []=0 from rfl]
  refine ⟨?_,by rw [List.length_append,List.length_drop,List.length_singleton];omega⟩
  rw [Nat.add_zero,←Xgf _ _ (by rw [List.length_take];omega),List.take_append_drop]
 ·rw [if_neg h]
  refine ⟨?_,by rw [List.length_take,List.length_drop];omega⟩
  have:=Xwa (s:=s) (p:=f) (k:=t - f) (by omega) hf (by omega)
  rw [show f+(t - f)=t by omega] at this
  exact this
def cAt (b:List UInt8) (j:Nat):Nat:=Xed ((b.drop j).take 2)
theorem XwS (b:List UInt8) (j:Nat):cAt b j<65536:=Xdk (k:=2) 65536 (by decide)
def XgU (b:List UInt8) (i:Nat) (w:List UInt8) (j:Nat):List UInt8×Bool:=
 if b.length<i+w.length then ([],false) else if w=[] then (b,true) else if i<j+2∧j<i+w.length then ([],false) else
  (sset (XkI b i w) j 2 (XjJ (cAt b j:Int) (XnQ b (i/2*2) ((i+w.length+1)/2*2)) (XnQ (XkI b i w) (i/2*2) ((i+w.length+1)/2*2))).toNat,true)
theorem Xrb {b w:List UInt8} {i j:Nat} (hw:w≠[]) (h1:i+w.length≤b.length) (hj:j+2≤b.length) (hj2:j%2=0) (ho:j+2≤i∨i+w.length≤j):∃ d:Nat,XjJ (cAt b j:Int) (XnQ b (i/2*2) ((i+w.length+1)/2*2)) (XnQ (XkI b i w) (i/2*2) ((i+w.length+1)/2*2))=(d:Int)∧d≤65535∧(Xez (sset (XkI b i w) j 2 d))%65535=Xez b%65535:=by
 have hl:=Xnt h1
 have hwl:0<w.length:=List.length_pos_iff.2 hw
 obtain ⟨a1,a2⟩:=XjU (s:=b) (f:=i/2*2) (t:=(i+w.length+1)/2*2) (by omega) (by omega) (by omega) (by omega) (by omega)
 obtain ⟨b1,b2⟩:=XjU (s:=XkI b i w) (f:=i/2*2) (t:=(i+w.length+1)/2*2) (by omega) (by omega) (by omega) (by omega) (by omega)
 rw [Xz4 h1 (by omega),Xyw h1 (by omega)] at b1
 have hc:=XwS b j
 obtain ⟨d,e1,e2,e3⟩:=XxE (c:=cAt b j) (a:=XnQ b (i/2*2) ((i+w.length+1)/2*2)) (b:=XnQ (XkI b i w) (i/2*2) ((i+w.length+1)/2*2)) (by rw [a2,b2]) (by rw [a2];omega) (by omega)
 refine ⟨d,e1,e2,?_⟩
 have s1:=XtK (s:=XkI b i w) (p:=j) (k:=2) (n:=d) (by omega) hj2 (by omega)
 have s2:((XkI b i w).drop j).take 2=(b.drop j).take 2:=by
  apply List.ext_getElem?
  intro x
  rw [XpV,XpV]
  split
  ·rw [XmN h1]
   by_cases g:j+x<i
   ·rw [if_pos g]
   ·rw [if_neg g,if_neg (by omega)]
  ·rfl
 have s3:Xez ((b.drop j).take 2)=cAt b j:=by
  have e:(b.drop j).take 2=be (cAt b j) 2:=(Xx6 (by rw [List.length_take,List.length_drop];omega)).symm
  rw [e,Xpq hc]
 rw [s2,s3,Xpq (by omega)] at s1
 omega
def XHg (body witha2:List UInt8) (ata1 sum:Int):Option (List UInt8×Bool):=
 Xbr (decide ((0:Int)≤ata1∧ata1≤(body.length:Int))) <|
 Xbr (decide ((body.take ata1.toNat).length+witha2.length<2^63)) <|
 Xbr (decide ((0:Int)≤(wI .i64 (ata1+(witha2.length:Int)))∧(wI .i64 (ata1+(witha2.length:Int)))≤(body.length:Int))) <|
 let t3:=(body.drop (wI .i64 (ata1+(witha2.length:Int))).toNat).take (body.length - (wI .i64 (ata1+(witha2.length:Int))).toNat)
 Xbr (decide (((body.take ata1.toNat)++witha2).length+t3.length<2^63)) <|
 let t4:=wI .i64 ((wI .i64 (ata1+(witha2.length:Int)))+1)
 (Xax body sum 2).bind fun xg=>
 (XcI body (XkN .i64 ata1 1) (XkN .i64 t4 1)).bind fun w=>
 (XcI (((body.take ata1.toNat)++witha2)++t3) (XkN .i64 ata1 1) (XkN .i64 t4 1)).bind fun w1=>
 (XcW (wI .i64 xg.1) w w1).bind fun t5=>
 (Xcr (((body.take ata1.toNat)++witha2)++t3) sum 2 (wI .u64 t5)).bind fun s=>
 some ((s,true))
theorem Xuh {b w:List UInt8} {i j:Nat} (hb:b.length<1000) (hw:w≠[]) (h1:i+w.length≤b.length) (hj:j+2≤b.length) (hj2:j%2=0) (ho:j+2≤i∨i+w.length≤j):XHg b w (i:Int) (j:Int)=some (sset (XkI b i w) j 2 (XjJ (cAt b j:Int) (XnQ b (i/2*2) ((i+w.length+1)/2*2)) (XnQ (XkI b i w) (i/2*2) ((i+w.length+1)/2*2))).toNat,true):=by
 obtain ⟨d,e1,e2,e3⟩:=Xrb hw h1 hj hj2 ho
 have hwl:0<w.length:=List.length_pos_iff.2 hw
 have hl:=Xnt h1
 unfold XHg
 simp only []
 rw [Xdb (n:=(i:Int)+(w.length:Int)) (by omega) (by omega),show (i:Int)+(w.length:Int)=((i+w.length:Nat):Int) by omega,Xdb (n:=((i+w.length:Nat):Int)+1) (by omega) (by omega),show ((i+w.length:Nat):Int)+1=((i+w.length+1:Nat):Int) by omega,Xwp (by omega),Xwp (by omega)]
 simp only [Int.toNat_natCast,List.take_of_length_le (show (b.drop (i+w.length)).length≤b.length - (i+w.length) by rw [List.length_drop];omega)]
 show Xbr _ (Xbr _ (Xbr _ (Xbr _ ((Xax b (j:Int) 2).bind fun xg=>(XcI b ((i/2*2:Nat):Int) (((i+w.length+1)/2*2:Nat):Int)).bind fun w'=>(XcI (XkI b i w) ((i/2*2:Nat):Int) (((i+w.length+1)/2*2:Nat):Int)).bind fun w1=>(XcW (wI .i64 xg.1) w' w1).bind fun t5=>(Xcr (XkI b i w) (j:Int) 2 (wI .u64 t5)).bind fun s=>some ((s,true))))))=_
 have hg:Xuk b (j:Int) 2=((cAt b j:Int),true):=by
  unfold Xuk cAt
  rw [if_pos (by omega),Int.toNat_natCast];rfl
 have hc:=XwS b j
 obtain ⟨_,a2⟩:=XjU (s:=b) (f:=i/2*2) (t:=(i+w.length+1)/2*2) (by omega) (by omega) (by omega) (by omega) (by omega)
 obtain ⟨_,b2⟩:=XjU (s:=XkI b i w) (f:=i/2*2) (t:=(i+w.length+1)/2*2) (by omega) (by omega) (by omega) (by omega) (by omega)
 rw [XaH (by omega),XaH (by rw [List.length_take];omega),XaH (by omega),XaH (by rw [List.length_append,List.length_take,List.length_drop];omega),Xek (by omega),Option.bind_some,hg,Xud (by omega) (by omega) (by omega),Option.bind_some,Xud (by omega) (by omega) (by omega),Option.bind_some]
 simp only []
 rw [Xdb (by omega) (by omega),Xx3 (by omega) (by omega),Option.bind_some,e1,XsP (by omega) (by omega),show (2:Int)=((2:Nat):Int) from rfl,Xsm (by omega) (by omega) (by omega) (by omega) (by omega),Option.bind_some]
theorem XwQ {b w:List UInt8} {i j:Nat} (hb:b.length<1000) (hw9:w.length<1000) (hi:i<1000) (hj:j+2≤b.length) (hj2:j%2=0):Xbq b (i:Int) w (j:Int)=some (XgU b i w j):=by
 unfold Xbq Xjx XgU
 rw [XaR (by omega),Xdb (n:=(b.length:Int) - (w.length:Int)) (by omega) (by omega)]
 by_cases g1:b.length<i+w.length
 ·rw [if_pos g1,XaZ (by omega)]
 rw [if_neg g1,XaR (by omega),XaR (by omega),show ((j:Int).tmod 2==1)=false by rw [Int.tmod_eq_emod_of_nonneg (by omega),beq_eq_false_iff_ne];omega,cond_false,Xdb (n:=(b.length:Int) - 2) (by omega) (by omega)]
 simp only []
 rw [XaR (by omega)]
 by_cases g2:w=[]
 ·rw [if_pos g2,show (w==[])=true by simpa using g2,cond_true]
 rw [if_neg g2,show (w==[])=false by simpa using g2,cond_false,Xdb (n:=(j:Int)+2) (by omega) (by omega)]
 by_cases g3:i<j+2
 ·rw [XaZ (by omega)]
  by_cases g4:j<i+w.length
  ·rw [if_pos ⟨g3,g4⟩,Xdb (n:=(i:Int)+(w.length:Int)) (by omega) (by omega),XaZ (by omega)]
  ·rw [if_neg (by omega),XaR (by rw [Xdb (by omega) (by omega)];omega)]
   exact Xuh hb g2 (by omega) hj hj2 (by omega)
 ·rw [if_neg (by omega),XaR (by omega)]
  exact Xuh hb g2 (by omega) hj hj2 (by omega)
end Go.Vm.Code
namespace Go.Vm.Code
open Go Go.Vm Go.Proofs
set_option maxRecDepth 100000
set_option maxHeartbeats 4000000
set_option linter.unusedVariables false
def XjY (stamp:Int):Option Int:=
 some (wI .u16 stamp)
def rx59 (x:Int):Xc2:=⟨.int .u16 x,[],[]⟩
abbrev Xdp:=Int→Option Int
def r59 (g:Xdp):Dec:=dV (asI .u32) fun (y0:Int)=>XdT (ofG (g y0) rx59)
theorem r59_c {g:Xdp} {y0:Int} {x:Int} (hx:g y0=some x):r59 g [.int .u32 y0] []=some (rx59 x):=(Xbb (Xdr _)).trans (Xa7 hx)
def s59 (g:Xdp):XbS:=⟨[.v],r59 g⟩
theorem XBe {g:Xdp} {y0:Int} {x:Int} (hx:g y0=some x):(s59 g).run [.int .u32 y0] []=some (rx59 x):=r59_c hx
abbrev XRc:List (Nat×XbS):=[]
theorem XMn (hS:Xaq Tryz.prog (XaL (XRc))) (stamp:Int) (res:Int) (h:XjY stamp=some res) :
 XaM Tryz.prog 59 0 ⟨⟨59,5,[(0,.int .u32 stamp)],[.code XQH],[],false,none⟩,[],[],0⟩ (fun v H _=>Res 0 (rx59 res) v H):=by
 unfold XjY at h
 refine Xbp XaP hS true 3000 ?_
 conv=>whnf
 exact W
def Xcl:Xdp:=XjY
theorem Xyx:Xb8 Tryz.prog 59 (s59 Xcl):=by
 have hL:=XMn (Xaq.XaY trivial)
 exact okA ⟨Tryz.f59,rfl,by decide,rfl⟩
def Xkt (Xcl:Xdp) (stamp:Int) (cookie:Int):Option Int:=
 (Xcl stamp).bind fun l=>
 let t:=XvA .u32 (wI .u32 ((wI .u32 cookie)*2^16)) (wI .u32 l)
 some (t)
def rx66 (x:Int):Xc2:=⟨.int .u32 x,[],[]⟩
abbrev Xe9:=Int→Int→Option Int
def r66 (g:Xe9):Dec:=dV (asI .u32) fun (y0:Int)=>dV (asI .u16) fun (y1:Int)=>XdT (ofG (g y0 y1) rx66)
theorem r66_c {g:Xe9} {y0:Int} {y1:Int} {x:Int} (hx:g y0 y1=some x):r66 g [.int .u32 y0,.int .u16 y1] []=some (rx66 x):=(Xbb (Xdr _)).trans ((Xbb (Xdr _)).trans (Xa7 hx))
def s66 (g:Xe9):XbS:=⟨[.v,.v],r66 g⟩
theorem XRi {g:Xe9} {y0:Int} {y1:Int} {x:Int} (hx:g y0 y1=some x):(s66 g).run [.int .u32 y0,.int .u16 y1] []=some (rx66 x):=r66_c hx
abbrev XOo (Xcl:Xdp):List (Nat×XbS):=[(59,s59 Xcl)]
theorem XI3 (Xcl:Xdp) (hS:Xaq Tryz.prog (XaL (XOo Xcl))) (stamp:Int) (cookie:Int) (res:Int) (h:Xkt Xcl stamp cookie=some res) :
 XaM Tryz.prog 66 0 ⟨⟨66,12,[(0,.int .u32 stamp),(1,.int .u16 cookie)],[.code XNY],[],false,none⟩,[],[],0⟩ (fun v H _=>Res 0 (rx66 res) v H):=by
 unfold Xkt at h
 have R1:=@XBe Xcl
 refine Xbp XaP hS true 3000 ?_
 conv=>whnf
 exact W
def Xe6:Xe9:=Xkt Xcl
theorem XTc:Xb8 Tryz.prog 66 (s66 Xe6):=by
 have hL:=XI3 Xcl (Xaq.XaY ⟨Xyx,trivial⟩)
 exact okA ⟨Tryz.f66,rfl,by decide,rfl⟩
def Xjr (Xe6:Xe9) (p:Xar) (a1:Int):Option (Int×Int):=
 (Xe6 p.Val a1).bind fun l=>
 some ((l,a1))
def rx65 (x:Int×Int):Xc2:=⟨.int .u32 x.1,[],[some [.int .u16 x.2]]⟩
abbrev XeD:=Xar→Int→Option (Int×Int)
def r65 (g:XeD):Dec:=dV Xiz fun (y0:Xar)=>dPt 0 (un1 (asI .u16)) fun (y1:Int)=>XdT (ofG (g y0 y1) rx65)
theorem r65_c {g:XeD} {y0:Xar} {y1:Int} {x:Int×Int} (hx:g y0 y1=some x):r65 g [.agg ⟨[.int .i64 y0.Tuple.Proto,.bool y0.Tuple.Src.V6,.int .u64 y0.Tuple.Src.Hi,.int .u64 y0.Tuple.Src.Lo,.bool y0.Tuple.Dst.V6,.int .u64 y0.Tuple.Dst.Hi,.int .u64 y0.Tuple.Dst.Lo,.int .i64 y0.Tuple.SPort,.int .i64 y0.Tuple.DPort,.int .i64 y0.Flags,.bool y0.Stamped,.int .u32 y0.Val,.int .u32 y0.Echo,.bool y0.Long,.string ⟨⟨y0.CID⟩⟩,.int .i64 y0.Size]⟩,.pointer (some ⟨0,0,none⟩)] [some [.int .u16 y1]]=some (rx65 x):=(Xbb (Xmj _)).trans ((XnD (XQQ (Xdr _))).trans (Xa7 hx))
def s65 (g:XeD):XbS:=⟨[.v,.pt 1],r65 g⟩
theorem XO4 {g:XeD} {y0:Xar} {y1:Int} {x:Int×Int} (hx:g y0 y1=some x):(s65 g).run [.agg ⟨[.int .i64 y0.Tuple.Proto,.bool y0.Tuple.Src.V6,.int .u64 y0.Tuple.Src.Hi,.int .u64 y0.Tuple.Src.Lo,.bool y0.Tuple.Dst.V6,.int .u64 y0.Tuple.Dst.Hi,.int .u64 y0.Tuple.Dst.Lo,.int .i64 y0.Tuple.SPort,.int .i64 y0.Tuple.DPort,.int .i64 y0.Flags,.bool y0.Stamped,.int .u32 y0.Val,.int .u32 y0.Echo,.bool y0.Long,.string ⟨⟨y0.CID⟩⟩,.int .i64 y0.Size]⟩,.pointer (some ⟨0,0,none⟩)] [some [.int .u16 y1]]=some (rx65 x):=r65_c hx
abbrev XRy (Xe6:Xe9):List (Nat×XbS):=[(66,s66 Xe6)]
theorem XIn (Xe6:Xe9) (hS:Xaq Tryz.prog (XaL (XRy Xe6))) (p:Xar) (a1:Int) (res:Int×Int) (h:Xjr Xe6 p a1=some res) :
 XaM Tryz.prog 65 1 ⟨⟨65,8,[(0,.agg ⟨[.int .i64 p.Tuple.Proto,.bool p.Tuple.Src.V6,.int .u64 p.Tuple.Src.Hi,.int .u64 p.Tuple.Src.Lo,.bool p.Tuple.Dst.V6,.int .u64 p.Tuple.Dst.Hi,.int .u64 p.Tuple.Dst.Lo,.int .i64 p.Tuple.SPort,.int .i64 p.Tuple.DPort,.int .i64 p.Flags,.bool p.Stamped,.int .u32 p.Val,.int .u32 p.Echo,.bool p.Long,.string ⟨⟨p.CID⟩⟩,.int .i64 p.Size]⟩),(1,.pointer (some ⟨0,0,none⟩))],[.code XN0],[],false,none⟩,[],[(0,.cells [.int .u16 a1])],1⟩ (fun v H _=>Res 1 (rx65 res) v H):=by
 unfold Xjr at h
 have R1:=@XRi Xe6
 refine Xbp XaP hS true 3000 ?_
 conv=>whnf
 exact W
def Xea:XeD:=Xjr Xe6
theorem XO7:Xb8 Tryz.prog 65 (s65 Xea):=by
 have hL:=XIn Xe6 (Xaq.XaY ⟨XTc,trivial⟩)
 exact okA ⟨Tryz.f65,rfl,by decide,rfl⟩
def Xin (Xcl:Xdp) (now:Int) (low:Int):Option Int:=
 (Xcl now).bind fun l=>
 let t:=wI .u32 (now - (wI .u32 (wI .u16 (l - low))))
 some (t)
def rx58 (x:Int):Xc2:=⟨.int .u32 x,[],[]⟩
abbrev Xd3:=Int→Int→Option Int
def r58 (g:Xd3):Dec:=dV (asI .u32) fun (y0:Int)=>dV (asI .u16) fun (y1:Int)=>XdT (ofG (g y0 y1) rx58)
theorem r58_c {g:Xd3} {y0:Int} {y1:Int} {x:Int} (hx:g y0 y1=some x):r58 g [.int .u32 y0,.int .u16 y1] []=some (rx58 x):=(Xbb (Xdr _)).trans ((Xbb (Xdr _)).trans (Xa7 hx))
def s58 (g:Xd3):XbS:=⟨[.v,.v],r58 g⟩
theorem XQ1 {g:Xd3} {y0:Int} {y1:Int} {x:Int} (hx:g y0 y1=some x):(s58 g).run [.int .u32 y0,.int .u16 y1] []=some (rx58 x):=r58_c hx
abbrev XN8 (Xcl:Xdp):List (Nat×XbS):=[(59,s59 Xcl)]
theorem XKx (Xcl:Xdp) (hS:Xaq Tryz.prog (XaL (XN8 Xcl))) (now:Int) (low:Int) (res:Int) (h:Xin Xcl now low=some res) :
 XaM Tryz.prog 58 0 ⟨⟨58,12,[(0,.int .u32 now),(1,.int .u16 low)],[.code XTt],[],false,none⟩,[],[],0⟩ (fun v H _=>Res 0 (rx58 res) v H):=by
 unfold Xin at h
 have R1:=@XBe Xcl
 refine Xbp XaP hS true 3000 ?_
 conv=>whnf
 exact W
def Xdz:Xd3:=Xin Xcl
theorem XSc:Xb8 Tryz.prog 58 (s58 Xdz):=by
 have hL:=XKx Xcl (Xaq.XaY ⟨Xyx,trivial⟩)
 exact okA ⟨Tryz.f58,rfl,by decide,rfl⟩
def Xkj (Xcl:Xdp) (Xdz:Xd3) (p:Xar) (a1:Int):Option (Int×Int):=
 (Xcl p.Echo).bind fun l=>
 (Xdz a1 l).bind fun xr=>
 some ((xr,a1))
def rx57 (x:Int×Int):Xc2:=⟨.int .u32 x.1,[],[some [.int .u32 x.2]]⟩
abbrev Xff:=Xar→Int→Option (Int×Int)
def r57 (g:Xff):Dec:=dV Xiz fun (y0:Xar)=>dPt 0 (un1 (asI .u32)) fun (y1:Int)=>XdT (ofG (g y0 y1) rx57)
theorem r57_c {g:Xff} {y0:Xar} {y1:Int} {x:Int×Int} (hx:g y0 y1=some x):r57 g [.agg ⟨[.int .i64 y0.Tuple.Proto,.bool y0.Tuple.Src.V6,.int .u64 y0.Tuple.Src.Hi,.int .u64 y0.Tuple.Src.Lo,.bool y0.Tuple.Dst.V6,.int .u64 y0.Tuple.Dst.Hi,.int .u64 y0.Tuple.Dst.Lo,.int .i64 y0.Tuple.SPort,.int .i64 y0.Tuple.DPort,.int .i64 y0.Flags,.bool y0.Stamped,.int .u32 y0.Val,.int .u32 y0.Echo,.bool y0.Long,.string ⟨⟨y0.CID⟩⟩,.int .i64 y0.Size]⟩,.pointer (some ⟨0,0,none⟩)] [some [.int .u32 y1]]=some (rx57 x):=(Xbb (Xmj _)).trans ((XnD (XQQ (Xdr _))).trans (Xa7 hx))
def s57 (g:Xff):XbS:=⟨[.v,.pt 1],r57 g⟩
theorem XPm {g:Xff} {y0:Xar} {y1:Int} {x:Int×Int} (hx:g y0 y1=some x):(s57 g).run [.agg ⟨[.int .i64 y0.Tuple.Proto,.bool y0.Tuple.Src.V6,.int .u64 y0.Tuple.Src.Hi,.int .u64 y0.Tuple.Src.Lo,.bool y0.Tuple.Dst.V6,.int .u64 y0.Tuple.Dst.Hi,.int .u64 y0.Tuple.Dst.Lo,.int .i64 y0.Tuple.SPort,.int .i64 y0.Tuple.DPort,.int .i64 y0.Flags,.bool y0.Stamped,.int .u32 y0.Val,.int .u32 y0.Echo,.bool y0.Long,.string ⟨⟨y0.CID⟩⟩,.int .i64 y0.Size]⟩,.pointer (some ⟨0,0,none⟩)] [some [.int .u32 y1]]=some (rx57 x):=r57_c hx
abbrev XRC (Xcl:Xdp) (Xdz:Xd3):List (Nat×XbS):=[(59,s59 Xcl),(58,s58 Xdz)]
theorem XH8 (Xcl:Xdp) (Xdz:Xd3) (hS:Xaq Tryz.prog (XaL (XRC Xcl Xdz))) (p:Xar) (a1:Int) (res:Int×Int) (h:Xkj Xcl Xdz p a1=some res) :
 XaM Tryz.prog 57 1 ⟨⟨57,9,[(0,.agg ⟨[.int .i64 p.Tuple.Proto,.bool p.Tuple.Src.V6,.int .u64 p.Tuple.Src.Hi,.int .u64 p.Tuple.Src.Lo,.bool p.Tuple.Dst.V6,.int .u64 p.Tuple.Dst.Hi,.int .u64 p.Tuple.Dst.Lo,.int .i64 p.Tuple.SPort,.int .i64 p.Tuple.DPort,.int .i64 p.Flags,.bool p.Stamped,.int .u32 p.Val,.int .u32 p.Echo,.bool p.Long,.string ⟨⟨p.CID⟩⟩,.int .i64 p.Size]⟩),(1,.pointer (some ⟨0,0,none⟩))],[.code XPh],[],false,none⟩,[],[(0,.cells [.int .u32 a1])],1⟩ (fun v H _=>Res 1 (rx57 res) v H):=by
 unfold Xkj at h
 have R1:=@XBe Xcl
 have R2:=@XQ1 Xdz
 refine Xbp XaP hS true 3000 ?_
 conv=>whnf
 exact W
def XeL:Xff:=Xkj Xcl Xdz
theorem XOq:Xb8 Tryz.prog 57 (s57 XeL):=by
 have hL:=XH8 Xcl Xdz (Xaq.XaY ⟨Xyx,XSc,trivial⟩)
 exact okA ⟨Tryz.f57,rfl,by decide,rfl⟩
end Go.Vm.Code
namespace Go.Vm.Code
open Go Go.Vm
theorem bv32 {a:Nat} (h:a<4294967296):(BitVec.ofInt 32 (a:Int)).toNat=a:=by
 rw [BitVec.toNat_ofInt];omega
theorem XSR {a b:Nat} (ha:a<4294967296) (hb:b<4294967296):XvA .u32 (a:Int) (b:Int)=((a ||| b:Nat):Int):=by
 have h:a ||| b<2^32:=Nat.or_lt_two_pow (by omega) (by omega)
 show IntKind.wrap .u32 _=_
 rw [show IntKind.bits .u32=32 from rfl,BitVec.toNat_or,bv32 (by omega),bv32 (by omega)]
 exact Xrz (by omega) (by omega)
def Xp8 (v c:Int):Int:=c*65536+v%65536
theorem Xy7 {p:Xar} {c:Int} (hc:0≤c∧c<65536):Xea p c=some (Xp8 p.Val c,c):=by
 unfold Xea Xjr Xe6 Xkt Xcl XjY Xp8
 simp only [Option.bind_some]
 rw [XBI,Xrz (n:=c) (by omega) (by omega),Xrz (n:=p.Val%65536) (by omega) (by omega)]
 obtain ⟨n,rfl⟩:=Int.eq_ofNat_of_zero_le hc.1
 obtain ⟨m,hm⟩:=Int.eq_ofNat_of_zero_le (show 0≤p.Val%65536 by omega)
 have hm2:m<65536:=by omega
 have e:(n:Int)*2^16=((n*65536:Nat):Int):=by
  rw [show (2:Int)^16=65536 from rfl];omega
 have key:(n*65536) ||| m=n*65536+m:=Xz8 (k:=16) (show m<65536 by omega)
 have b1:((n*65536:Nat):Int)<4294967296:=by omega
 have b2:n*65536<4294967296:=by omega
 have b3:m<4294967296:=by omega
 rw [hm,e,Xrz (Int.natCast_nonneg _) b1,XSR b2 b3,key]
 rw [show ((n*65536+m:Nat):Int)=(n:Int)*65536+(m:Int) by omega]
def XpE (now e:Int):Int:=(now - (now%65536 - e%65536)%65536)%4294967296
theorem Xyb {p:Xar} {now:Int}:XeL p now=some (XpE now p.Echo,now):=by
 unfold XeL Xkj Xdz Xin Xcl XjY XpE
 simp only [Option.bind_some]
 rw [XBI,XBI,XBI,Xrz (n:=(now%65536 - p.Echo%65536)%65536) (by omega) (by omega),XLK]
end Go.Vm.Code
namespace Go.Vm.Code
open Go Go.Vm Go.Proofs
set_option maxRecDepth 100000
set_option maxHeartbeats 4000000
set_option linter.unusedVariables false
def XlW (XaF:XbT) (Xaw:Xbn) (Xbf:XcF) (Xea:XeD) (Xbq:XcN) (Xch:Xdn) (s:List UInt8) (cookie:Int):Option ((List UInt8)×Int):=
 (Xaw s).bind fun p=>
 cond (p.2 !=0)
  (
  some (([],p.2)))
  (
  cond (!p.1.Stamped)
   (
   some (([],6)))
   (
   (Xbf s).bind fun w=>
   Xbr (decide ((0:Int)≤w.2.1∧w.2.1≤(s.length:Int)∧(0:Int)≤(wI .i64 (w.1+20))∧(wI .i64 (w.1+20))≤(w.2.1.toNat:Int))) <|
   let t:=(s.drop (wI .i64 (w.1+20)).toNat).take (w.2.1.toNat - (wI .i64 (w.1+20)).toNat)
   (Xch t).bind fun s1=>
   Xbr (decide ((0:Int)≤w.1∧w.1≤(s.length:Int))) <|
   let t1:=(s.drop w.1.toNat).take (s.length - w.1.toNat)
   (Xea p.1 cookie).bind fun x1=>
   (XaF (wI .u64 x1.1) 4).bind fun p1=>
   (Xbq t1 (wI .i64 ((wI .i64 (20+s1.2.2))+0)) p1 16).bind fun p2=>
   cond (!p2.2)
    (
    some (([],3)))
    (
    Xbr (decide ((0:Int)≤w.1∧w.1≤(s.length:Int))) <|
    Xbr (decide ((s.take w.1.toNat).length+p2.1.length<2^63)) <|
    some (((s.take w.1.toNat)++p2.1,0)))))
def rx37 (x:(List UInt8)×Int):Xc2:=⟨.tuple ⟨[.string ⟨⟨x.1⟩⟩,.int .i64 x.2]⟩,[],[]⟩
abbrev Xeg:=(List UInt8)→Int→Option ((List UInt8)×Int)
def r37 (g:Xeg):Dec:=dV asS fun (y0:List UInt8)=>dV (asI .u16) fun (y1:Int)=>XdT (ofG (g y0 y1) rx37)
theorem r37_c {g:Xeg} {y0:List UInt8} {y1:Int} {x:(List UInt8)×Int} (hx:g y0 y1=some x):r37 g [.string ⟨⟨y0⟩⟩,.int .u16 y1] []=some (rx37 x):=(Xbb (Xds)).trans ((Xbb (Xdr _)).trans (Xa7 hx))
def s37 (g:Xeg):XbS:=⟨[.v,.v],r37 g⟩
theorem XHC {g:Xeg} {y0:List UInt8} {y1:Int} {x:(List UInt8)×Int} (hx:g y0 y1=some x):(s37 g).run [.string ⟨⟨y0⟩⟩,.int .u16 y1] []=some (rx37 x):=r37_c hx
abbrev XTm (XaF:XbT) (Xaw:Xbn) (Xbf:XcF) (Xea:XeD) (Xbq:XcN) (Xch:Xdn):List (Nat×XbS):=[(71,s71 XaF),(30,s30 Xaw),(67,s67 Xbf),(65,s65 Xea),(70,s70 Xbq),(91,s91 Xch)]
theorem XNg (XaF:XbT) (Xaw:Xbn) (Xbf:XcF) (Xea:XeD) (Xbq:XcN) (Xch:Xdn) (hS:Xaq Tryz.prog (XaL (XTm XaF Xaw Xbf Xea Xbq Xch))) (s:List UInt8) (cookie:Int) (res:(List UInt8)×Int) (h:XlW XaF Xaw Xbf Xea Xbq Xch s cookie=some res) :
 XaM Tryz.prog 37 0 ⟨⟨37,11,[(0,.string ⟨⟨s⟩⟩),(1,.int .u16 cookie)],[.code XPG],[],false,none⟩,[],[],0⟩ (fun v H _=>Res 0 (rx37 res) v H):=by
 unfold XlW at h
 have R1:=@Xq4 Xaw
 have R2:=@Xyd Xbf
 have R3:=@XAF Xch
 have R4:=@XO4 Xea
 have R5:=@Xqf XaF
 have R6:=@XAv Xbq
 refine Xbp XaP hS true 3000 ?_
 conv=>whnf
 exact W
def Xc5:Xeg:=XlW XaF Xaw Xbf Xea Xbq Xch
theorem XGw:Xb8 Tryz.prog 37 (s37 Xc5):=by
 have hL:=XNg XaF Xaw Xbf Xea Xbq Xch (Xaq.XaY ⟨Xq8,XrH,XBi,XO7,XyW,XzP,trivial⟩)
 exact okA ⟨Tryz.f37,rfl,by decide,rfl⟩
def XmU (XaF:XbT) (Xaw:Xbn) (Xbf:XcF) (XeL:Xff) (Xbq:XcN) (Xch:Xdn) (s:List UInt8) (now:Int):Option ((List UInt8)×Int):=
 (Xaw s).bind fun p=>
 cond (p.2 !=0)
  (
  some (([],p.2)))
  (
  cond (!p.1.Stamped)
   (
   some (([],6)))
   (
   (Xbf s).bind fun w=>
   Xbr (decide ((0:Int)≤w.2.1∧w.2.1≤(s.length:Int)∧(0:Int)≤(wI .i64 (w.1+20))∧(wI .i64 (w.1+20))≤(w.2.1.toNat:Int))) <|
   let t:=(s.drop (wI .i64 (w.1+20)).toNat).take (w.2.1.toNat - (wI .i64 (w.1+20)).toNat)
   (Xch t).bind fun s1=>
   Xbr (decide ((0:Int)≤w.1∧w.1≤(s.length:Int))) <|
   let t1:=(s.drop w.1.toNat).take (s.length - w.1.toNat)
   (XeL p.1 now).bind fun x1=>
   (XaF (wI .u64 x1.1) 4).bind fun p1=>
   (Xbq t1 (wI .i64 ((wI .i64 (20+s1.2.2))+4)) p1 16).bind fun p2=>
   cond (!p2.2)
    (
    some (([],3)))
    (
    Xbr (decide ((0:Int)≤w.1∧w.1≤(s.length:Int))) <|
    Xbr (decide ((s.take w.1.toNat).length+p2.1.length<2^63)) <|
    some (((s.take w.1.toNat)++p2.1,0)))))
def rx32 (x:(List UInt8)×Int):Xc2:=⟨.tuple ⟨[.string ⟨⟨x.1⟩⟩,.int .i64 x.2]⟩,[],[]⟩
abbrev Xga:=(List UInt8)→Int→Option ((List UInt8)×Int)
def r32 (g:Xga):Dec:=dV asS fun (y0:List UInt8)=>dV (asI .u32) fun (y1:Int)=>XdT (ofG (g y0 y1) rx32)
theorem r32_c {g:Xga} {y0:List UInt8} {y1:Int} {x:(List UInt8)×Int} (hx:g y0 y1=some x):r32 g [.string ⟨⟨y0⟩⟩,.int .u32 y1] []=some (rx32 x):=(Xbb (Xds)).trans ((Xbb (Xdr _)).trans (Xa7 hx))
def s32 (g:Xga):XbS:=⟨[.v,.v],r32 g⟩
theorem XOi {g:Xga} {y0:List UInt8} {y1:Int} {x:(List UInt8)×Int} (hx:g y0 y1=some x):(s32 g).run [.string ⟨⟨y0⟩⟩,.int .u32 y1] []=some (rx32 x):=r32_c hx
abbrev XSg (XaF:XbT) (Xaw:Xbn) (Xbf:XcF) (XeL:Xff) (Xbq:XcN) (Xch:Xdn):List (Nat×XbS):=[(71,s71 XaF),(30,s30 Xaw),(67,s67 Xbf),(57,s57 XeL),(70,s70 Xbq),(91,s91 Xch)]
theorem XM6 (XaF:XbT) (Xaw:Xbn) (Xbf:XcF) (XeL:Xff) (Xbq:XcN) (Xch:Xdn) (hS:Xaq Tryz.prog (XaL (XSg XaF Xaw Xbf XeL Xbq Xch))) (s:List UInt8) (now:Int) (res:(List UInt8)×Int) (h:XmU XaF Xaw Xbf XeL Xbq Xch s now=some res) :
 XaM Tryz.prog 32 0 ⟨⟨32,11,[(0,.string ⟨⟨s⟩⟩),(1,.int .u32 now)],[.code XQm],[],false,none⟩,[],[],0⟩ (fun v H _=>Res 0 (rx32 res) v H):=by
 unfold XmU at h
 have R1:=@Xq4 Xaw
 have R2:=@Xyd Xbf
 have R3:=@XAF Xch
 have R4:=@XPm XeL
 have R5:=@Xqf XaF
 have R6:=@XAv Xbq
 refine Xbp XaP hS true 3000 ?_
 conv=>whnf
 exact W
def Xf1:Xga:=XmU XaF Xaw Xbf XeL Xbq Xch
theorem XSf:Xb8 Tryz.prog 32 (s32 Xf1):=by
 have hL:=XM6 XaF Xaw Xbf XeL Xbq Xch (Xaq.XaY ⟨Xq8,XrH,XBi,XOq,XyW,XzP,trivial⟩)
 exact okA ⟨Tryz.f32,rfl,by decide,rfl⟩
end Go.Vm.Code
namespace Go.Vm.Code
open Go Go.Vm
theorem XoL {B w:List UInt8} {i j:Nat} (hw:w≠[]) (h1:i+w.length≤B.length) (hj:j+2≤B.length) (hj2:j%2=0) (ho:j+2≤i∨i+w.length≤j):∃ b',XgU B i w j=(b',true)∧b'.length=B.length∧Xez b'%65535=Xez B%65535 ∧
 (∀ k,(k<i∨i+w.length≤k)→k≠j→k≠j+1→b'[k]?=B[k]?)∧(∀ k,i≤k→k<i+w.length→b'[k]?=w[k - i]?):=by
 obtain ⟨d,d1,d2,d3⟩:=Xrb (b:=B) (w:=w) (i:=i) (j:=j) hw h1 hj hj2 ho
 have hl:=Xnt h1
 have hl2:=Xpu (s:=XkI B i w) (p:=j) (k:=2) (n:=d) (by omega)
 refine ⟨sset (XkI B i w) j 2 d,?_,by omega,d3,fun k h h' h3=>?_,fun k h h'=>?_⟩
 ·unfold XgU
  rw [if_neg (by omega),if_neg hw,if_neg (by omega),d1,Int.toNat_natCast]
 ·rw [Xpn (by omega),XmN h1]
  have e:(if k<i then B[k]? else if k<i+w.length then w[k - i]? else B[k]?)=B[k]?:=by
   by_cases c:k<i
   ·rw [if_pos c]
   ·rw [if_neg c,if_neg (by omega)]
  rw [e]
  by_cases c1:k<j
  ·rw [if_pos c1]
  ·rw [if_neg c1,if_neg (by omega)]
 ·rw [Xpn (by omega),XmN h1,if_neg (show ¬ k<i by omega),if_pos h']
  by_cases c1:k<j
  ·rw [if_pos c1]
  ·rw [if_neg c1,if_neg (by omega)]
def Xkg (s:List UInt8):Nat:=(Xf5 (Xhy (Xak s).body (Xak s).src (Xak s).dst).1.Options).2.2.toNat
def XoX (s:List UInt8) (off:Nat) (v:Int):List UInt8:=s.take (Xak s).size++(XgU (Xak s).body (20+Xkg s+off) (be v.toNat 4) 16).1
theorem XrE {s:List UInt8} {off:Nat} {v:Int} (hoff:off=0∨off=4) (h:(Xav s).2.2.2=0) (hs:(Xav s).1.Stamped=true) (hv:0≤v∧v<4294967296) :
 (XgU (Xak s).body (20+Xkg s+off) (be v.toNat 4) 16).2=true∧(XoX s off v).length=s.length ∧
 Xav (XoX s off v)=({(Xav s).1 with Val:=if off=0 then v else (Xav s).1.Val,Echo:=if off=0 then (Xav s).1.Echo else v},(Xav s).2.1,(Xav s).2.2.1,0) ∧
 (∀ k,(k<(Xak s).size+16∨(Xak s).size+18≤k)→(k<(Xak s).size+20+Xkg s+off∨(Xak s).size+20+Xkg s+off+4≤k)→(XoX s off v)[k]?=s[k]?):=by
 obtain ⟨k1,k2,k3,k4,k5,k6,k7⟩:=XfU h hs
 have hq:(Xf5 (Xhy (Xak s).body (Xak s).src (Xak s).dst).1.Options).2.2=(Xkg s:Int):=by unfold Xkg;omega
 obtain ⟨_,_,_,hB⟩:=XjN (b':=(Xak s).body) (p:=Xkg s) h hs hq (.inl rfl) rfl (fun _ _ _ _=>rfl) rfl
 have hbl:=Xfn k1
 obtain ⟨_,sw2⟩:=Xh2 (b:=(Xak s).body) k1 rfl
 obtain ⟨b',e1,e2,e3,e4,e5⟩:=XoL (B:=(Xak s).body) (w:=be v.toNat 4) (i:=20+Xkg s+off) (j:=16) (by intro e;have:=congrArg List.length e;rw [Xhk] at this;exact absurd this (by decide)) (by rw [Xhk];omega) (by omega) (by decide) (.inl (by omega))
 rw [Xhk] at e4 e5
 have hw:vK b' (20+Xkg s+off) 4=v:=by
  have:(b'.drop (20+Xkg s+off)).take 4=be v.toNat 4:=by
   apply List.ext_getElem?
   intro x
   rw [List.getElem?_take]
   split
   ·rw [List.getElem?_drop,e5 _ (by omega) (by omega)];congr 1;omega
   ·rw [List.getElem?_eq_none (by rw [Xhk];omega)]
  rw [vK_of (n:=v.toNat) this rfl (by omega)];omega
 have hsame:∀ x,(x+4≤20+Xkg s+off∨20+Xkg s+off+4≤x)→18≤x→vK b' x 4=vK (Xak s).body x 4:=fun x hx h18=>by
  unfold vK
  rw [Xh1 (fun k a1 a2=>e4 k (by omega) (by omega) (by omega))]
 obtain ⟨t1,t2,t3,_⟩:=XjN (b':=b') (p:=Xkg s+off) (q:=Xkg s) h hs hq (by omega) e2 (fun k a1 a2 a3=>e4 k (by omega) a1 a2) e3
 unfold XoX
 rw [e1]
 simp only
 refine ⟨trivial,by rw [List.length_append,List.length_take];omega,?_,fun k a1 a2=>?_⟩
 ·rw [t1]
  rcases hoff with rfl|rfl
  ·simp only [if_true]
   rw [t3,←hsame (20+(Xkg s+4)) (by omega) (by omega),show 20+Xkg s=20+Xkg s+0 from rfl,hw]
  ·simp only [show ¬ ((4:Nat)=0) by decide,if_false]
   rw [t2,←hsame (20+Xkg s) (by omega) (by omega),show 20+(Xkg s+4)=20+Xkg s+4 by omega,hw]
 ·rw [List.getElem?_append,List.length_take]
  by_cases c:k<(Xak s).size
  ·rw [if_pos (by omega),List.getElem?_take_of_lt c]
  ·rw [if_neg (by omega),show min (Xak s).size s.length=(Xak s).size by omega,e4 _ (by omega) (by omega) (by omega),sw2,List.getElem?_drop]
   congr 1;omega
theorem Xwe {s:List UInt8} {off:Nat} {v x:Int} (hl:s.length<900) (hoff:off=0∨off=4) (h:(Xav s).2.2.2=0) (hs:(Xav s).1.Stamped=true) (hv:0≤v∧v<4294967296) :
 ((Xbf s).bind fun w=>
 Xbr (decide ((0:Int)≤w.2.1∧w.2.1≤(s.length:Int)∧(0:Int)≤(wI .i64 (w.1+20))∧(wI .i64 (w.1+20))≤(w.2.1.toNat:Int))) <|
 (Xch ((s.drop (wI .i64 (w.1+20)).toNat).take (w.2.1.toNat - (wI .i64 (w.1+20)).toNat))).bind fun s1=>
 Xbr (decide ((0:Int)≤w.1∧w.1≤(s.length:Int))) <|
 (some (v,x)).bind fun (x1:Int×Int)=>
 (XaF (wI .u64 x1.1) 4).bind fun p1=>
 (Xbq ((s.drop w.1.toNat).take (s.length - w.1.toNat)) (wI .i64 ((wI .i64 (20+s1.2.2))+(off:Int))) p1 16).bind fun p2=>
 cond (!p2.2)
  (
  some (([],3)))
  (
  Xbr (decide ((0:Int)≤w.1∧w.1≤(s.length:Int))) <|
  Xbr (decide ((s.take w.1.toNat).length+p2.1.length<2^63)) <|
  some (((s.take w.1.toNat)++p2.1,(0:Int)))))=some (XoX s off v,0):=by
 obtain ⟨k1,k2,k3,k4,k5,k6,k7⟩:=XfU h hs
 obtain ⟨p1,p2,_,_⟩:=XrE (off:=off) (v:=v) hoff h hs hv
 have hbl:=Xfn k1
 obtain ⟨_,sw2⟩:=Xh2 (b:=(Xak s).body) k1 rfl
 obtain ⟨l20,v5,ln,o7,g7⟩:=XsJ k5
 have hq:(Xf5 (Xhy (Xak s).body (Xak s).src (Xak s).dst).1.Options).2.2=(Xkg s:Int):=by unfold Xkg;omega
 obtain ⟨_,_,_,hB⟩:=XjN (b':=(Xak s).body) (p:=Xkg s) h hs hq (.inl rfl) rfl (fun _ _ _ _=>rfl) rfl
 rw [g7] at hq
 simp only [hd7] at hq
 have hin:(Xf9 (Xak s) s.length).2.1=((Xak s).body.drop (20+n7 (Xak s).body)).length:=by
  unfold Xf9
  rw [if_pos k2,g7]
  simp
 have ha:(Xav s).2.1=(Xak s).size:=by rw [k7];simp only;omega
 have hb:(Xav s).2.2.1=(Xak s).size+(20+n7 (Xak s).body):=by rw [k7];simp only;rw [hin,List.length_drop];omega
 have hw:((XgU (Xak s).body (20+Xkg s+off) (be v.toNat 4) 16).1).length=(Xak s).body.length:=by
  unfold XoX at p2
  rw [List.length_append,List.length_take] at p2;omega
 rw [Xvu (by omega),ha,hb,h,Option.bind_some]
 simp only []
 unfold XoX
 generalize hz:(Xak s).size=z at *
 have e1:wI .i64 ((z:Int)+20)=((z+20:Nat):Int):=by rw [Xdb (by omega) (by omega)];omega
 simp only [e1,Int.toNat_natCast]
 have e2:(s.drop (z+20)).take (z+(20+n7 (Xak s).body) - (z+20))=((Xak s).body.drop 20).take (n7 (Xak s).body):=by
  rw [sw2,List.drop_drop];congr 1;omega
 have e3:(s.drop z).take (s.length - z)=(Xak s).body:=by rw [sw2];exact List.take_of_length_le (by rw [List.length_drop];omega)
 rw [e2,e3,XaH (by omega),Xyc (by rw [List.length_take,List.length_drop];omega),Option.bind_some,hq,XaH (by omega),Option.bind_some]
 have hput:XaF (wI .u64 v) 4=some (be v.toNat 4):=by
  rw [XsP (by omega) (by omega),Xfh (by omega)]
  rw [show XiP v 4=be v.toNat 4 from XhG (k:=4) (by omega)]
 have e4:wI .i64 (wI .i64 (20+(Xkg s:Int))+(off:Int))=((20+Xkg s+off:Nat):Int):=by
  rw [Xdb (n:=20+(Xkg s:Int)) (by omega) (by omega),Xdb (by omega) (by omega)];omega
 simp only []
 rw [hput,Option.bind_some,e4,show (16:Int)=((16:Nat):Int) from rfl,XwQ (by omega) (by rw [Xhk];omega) (by omega) (by omega) (by decide),Option.bind_some,p1,Bool.not_true,cond_false,XaH (by omega),XaH (by rw [List.length_take,hw];omega)]
def XAM (s:List UInt8) (c:Int):List UInt8×Int:=if (Xav s).2.2.2≠0 then ([],(Xav s).2.2.2) else if (Xav s).1.Stamped=false then ([],6) else (XoX s 0 (Xp8 (Xav s).1.Val c),0)
def Xun (s:List UInt8) (now:Int):List UInt8×Int:=if (Xav s).2.2.2≠0 then ([],(Xav s).2.2.2) else if (Xav s).1.Stamped=false then ([],6) else (XoX s 4 (XpE now (Xav s).1.Echo),0)
theorem Xmz {s:List UInt8} (h:(Xav s).2.2.2=0) (hs:(Xav s).1.Stamped=true):(0≤(Xav s).1.Val∧(Xav s).1.Val<4294967296)∧0≤(Xav s).1.Echo∧(Xav s).1.Echo<4294967296:=by
 obtain ⟨k1,k2,k3,k4,k5,k6,k7⟩:=XfU h hs
 have hq:(Xf5 (Xhy (Xak s).body (Xak s).src (Xak s).dst).1.Options).2.2=(Xkg s:Int):=by unfold Xkg;omega
 obtain ⟨_,t2,t3,hB⟩:=XjN (b':=(Xak s).body) (p:=Xkg s) h hs hq (.inl rfl) rfl (fun _ _ _ _=>rfl) rfl
 rw [t2,t3]
 exact ⟨Xfz _ _ _ 4294967296 (by decide),Xfz _ _ _ 4294967296 (by decide)⟩
theorem XKv {s:List UInt8} {c:Int} (hl:s.length<900) (hc:0≤c∧c<65536):Xc5 s c=some (XAM s c):=by
 unfold Xc5 XlW XAM
 rw [Xnd (by omega),Option.bind_some]
 by_cases h:(Xav s).2.2.2=0
 ·rw [if_neg (by simpa using h),show ((Xav s).2.2.2 !=0)=false by simpa using h,cond_false]
  cases hs:(Xav s).1.Stamped
  ·rfl
  ·rw [if_neg (by decide)]
   obtain ⟨r1,_⟩:=Xmz h hs
   simp only [Bool.not_true,cond_false,Xy7 hc]
   exact Xwe (off:=0) hl (.inl rfl) h hs (by unfold Xp8;omega)
 ·rw [if_pos h,show ((Xav s).2.2.2 !=0)=true by simpa using h];rfl
theorem XRB {s:List UInt8} {now:Int} (hl:s.length<900):Xf1 s now=some (Xun s now):=by
 unfold Xf1 XmU Xun
 rw [Xnd (by omega),Option.bind_some]
 by_cases h:(Xav s).2.2.2=0
 ·rw [if_neg (by simpa using h),show ((Xav s).2.2.2 !=0)=false by simpa using h,cond_false]
  cases hs:(Xav s).1.Stamped
  ·rfl
  ·rw [if_neg (by decide)]
   simp only [Bool.not_true,cond_false,Xyb]
   exact Xwe (off:=4) hl (.inr rfl) h hs (by unfold XpE;omega)
 ·rw [if_pos h,show ((Xav s).2.2.2 !=0)=true by simpa using h];rfl
theorem v2_nz {b:List UInt8} {p:Nat} (h:v2 b p≠0):Xez b≠0:=fun e=>by
 have ha:=XoA b e
 apply h
 unfold v2
 have hz:∀ l:List UInt8,XOV l=true→Xed l=0:=fun l=>by
  induction l with
  | nil=>intro _;rfl
  | cons x l ih=>
    intro hl
    simp only [XOV,List.all_cons,Bool.and_eq_true,beq_iff_eq] at hl
    rw [Xgs,ih hl.2,hl.1];simp
 rw [hz]
 ·rfl
 ·simp only [XOV,List.all_eq_true,beq_iff_eq] at ha ⊢
  intro x hx
  exact ha x (List.mem_of_mem_drop (List.mem_of_mem_take hx))
theorem Xt3 {B C:List UInt8} {src dst:Xae} (h:(Xhw B src dst).2.2=0) (hw:(Xhw B src dst).2.1.length+8=B.length) (hl:C.length=B.length) (hd:∀ k,k<6→C[k]?=B[k]?)
 (hc:(v2 B 6=0∧v2 C 6=0)∨(v2 B 6≠0∧v2 C 6≠0∧Xez C%65535=Xez B%65535)) :
 Xhw B src dst=(⟨v2 B 0,v2 B 2⟩,B.drop 8,0)∧Xhw C src dst=(⟨v2 B 0,v2 B 2⟩,C.drop 8,0)∧8≤B.length:=by
 have e:∀ p,p+2≤6→v2 C p=v2 B p:=fun p hp=>by
  unfold v2;rw [Xh1 (fun k _ a2=>hd k (by omega))]
 have r4:=XmQ B 4
 unfold Xhw at h hw ⊢
 rw [hl,e 4 (by omega),e 0 (by omega),e 2 (by omega)]
 by_cases g1:B.length<8
 ·rw [if_pos g1] at h;exact absurd h (by decide)
 rw [if_neg g1] at h hw ⊢
 rw [if_neg g1]
 by_cases g2:v2 B 4<8
 ·rw [if_pos g2] at h;exact absurd h (by decide)
 rw [if_neg g2] at h hw ⊢
 rw [if_neg g2]
 by_cases g3:(B.length:Int)<v2 B 4
 ·rw [if_pos g3] at h;exact absurd h (by decide)
 rw [if_neg g3] at h hw ⊢
 rw [if_neg g3]
 by_cases g4:Xog src dst 17 (v2 B 4)=[]
 ·rw [if_pos g4] at h;exact absurd h (by decide)
 rw [if_neg g4] at h hw ⊢
 rw [if_neg g4]
 have key:∀ D:List UInt8,D.length=B.length→(v2 B 4).toNat=B.length→(D.drop 8).take ((v2 B 4).toNat - 8)=D.drop 8∧D.take (v2 B 4).toNat=D:=fun D hD h4=>
  ⟨List.take_of_length_le (by rw [List.length_drop];omega),List.take_of_length_le (by omega)⟩
 rcases hc with ⟨c1,c2⟩|⟨c1,c2,c3⟩
 ·rw [if_pos c1] at h hw ⊢
  rw [if_pos c2]
  by_cases g5:src.V6=true
  ·rw [if_pos g5] at h;exact absurd h (by decide)
  rw [if_neg g5] at hw ⊢
  have h4:(v2 B 4).toNat=B.length:=by
   simp only [List.length_take,List.length_drop] at hw;omega
  rw [if_neg g5,(key B rfl h4).1,(key C hl h4).1]
  exact ⟨rfl,rfl,by omega⟩
 ·rw [if_neg c1] at h hw ⊢
  rw [if_neg c2]
  by_cases g5:norm (Xez (Xog src dst 17 (v2 B 4)++B.take (v2 B 4).toNat))≠65535
  ·rw [if_pos g5] at h;exact absurd h (by decide)
  rw [if_neg g5] at hw ⊢
  have h4:(v2 B 4).toNat=B.length:=by
   simp only [List.length_take,List.length_drop] at hw;omega
  rw [(key B rfl h4).2] at g5
  rw [(key C hl h4).2,(key B rfl h4).1,(key C hl h4).1]
  have pe:=Xuj src dst 17 (v2 B 4)
  rw [Xgf _ _ pe] at g5 ⊢
  have:=Xkc (Xez (Xog src dst 17 (v2 B 4))+Xez B)
  have nz:=v2_nz c2
  rw [if_neg (by rw [XmY (by omega) (by omega)];simp)]
  exact ⟨rfl,rfl,by omega⟩
theorem Xso {s t:List UInt8} {p:Nat} (h:t[p]?=s[p]?):b1 t p=b1 s p:=by
 unfold b1
 have:=Xh1 (s:=s) (s':=t) (f:=p) (m:=1) (fun k a1 a2=>by
  have e:k=p:=by omega
  rw [e];exact h)
 rw [this]
theorem Xtn {l m:List UInt8} (h:(Xho l).2=0) (hlg:(Xho l).1.Long=true) (h8:(Xho l).1.SCID.length=8) (hl:m.length=l.length) (hd:∀ k,k<7+(Xho l).1.DCID.length∨15+(Xho l).1.DCID.length≤k→m[k]?=l[k]?) :
 (Xho m).2=0∧(Xho m).1.Long=true∧(Xho m).1.DCID=(Xho l).1.DCID∧(Xho m).1.SCID=(m.drop (7+(Xho l).1.DCID.length)).take 8∧15+(Xho l).1.DCID.length≤l.length∧(Xho l).1.DCID.length≤20:=by
 unfold Xho at h hlg h8 hd
 by_cases g1:l=[]
 ·rw [if_pos g1] at h;exact absurd h (by decide)
 rw [if_neg g1] at h hlg h8 hd
 by_cases g2:b1 l 0/64%2=0
 ·rw [if_pos g2] at h;exact absurd h (by decide)
 rw [if_neg g2] at h hlg h8 hd
 by_cases g3:b1 l 0<128
 ·rw [if_pos g3] at h hlg
  split at hlg
  ·exact absurd hlg (by decide)
  ·exact absurd hlg (by simp)
 rw [if_neg g3] at h hlg h8 hd
 by_cases g4:l.length<5
 ·rw [if_pos g4] at h;exact absurd h (by decide)
 rw [if_neg g4] at h hlg h8 hd
 by_cases g5:(idS l 5).2.1≠0
 ·rw [if_pos g5] at h;exact absurd h g5
 rw [if_neg g5] at h hlg h8 hd
 by_cases g6:(idS l (idS l 5).2.2).2.1≠0
 ·rw [if_pos g6] at h;exact absurd h g6
 rw [if_neg g6] at h8 hd
 simp only at h8 hd
 have eL:(Xho l).1.DCID=(idS l 5).1:=by
  unfold Xho;rw [if_neg g1,if_neg g2,if_neg g3,if_neg g4,if_neg g5,if_neg g6]
 rw [eL]
 have f1:idS l 5=((l.drop 6).take (b1 l 5),0,6+b1 l 5)∧6+b1 l 5≤l.length∧b1 l 5≤20:=by
  unfold idS at g5 ⊢
  by_cases q1:l.length≤5
  ·rw [if_pos q1] at g5;exact absurd g5 (by decide)
  rw [if_neg q1] at g5 ⊢
  by_cases q2:20<b1 l 5
  ·rw [if_pos q2] at g5;exact absurd g5 (by decide)
  rw [if_neg q2] at g5 ⊢
  by_cases q3:l.length<5+1+b1 l 5
  ·rw [if_pos q3] at g5;exact absurd g5 (by decide)
  rw [if_neg q3]
  exact ⟨rfl,by omega,by omega⟩
 obtain ⟨f1,f2,f3⟩:=f1
 rw [f1] at g6 h8 hd ⊢
 simp only at g6 h8 hd ⊢
 have dl:((l.drop 6).take (b1 l 5)).length=b1 l 5:=by rw [List.length_take,List.length_drop];omega
 rw [dl] at hd ⊢
 generalize hD:b1 l 5=D at *
 have s1:idS l (6+D)=((l.drop (6+D+1)).take (b1 l (6+D)),0,6+D+1+b1 l (6+D))∧6+D+1+b1 l (6+D)≤l.length∧b1 l (6+D)≤20:=by
  unfold idS at g6 ⊢
  by_cases q1:l.length≤6+D
  ·rw [if_pos q1] at g6;exact absurd g6 (by simp)
  rw [if_neg q1] at g6 ⊢
  by_cases q2:20<b1 l (6+D)
  ·rw [if_pos q2] at g6;exact absurd g6 (by simp)
  rw [if_neg q2] at g6 ⊢
  by_cases q3:l.length<6+D+1+b1 l (6+D)
  ·rw [if_pos q3] at g6;exact absurd g6 (by simp)
  rw [if_neg q3]
  exact ⟨rfl,by omega,by omega⟩
 obtain ⟨s1,s2,s3⟩:=s1
 rw [s1] at h8
 simp only [List.length_take,List.length_drop] at h8
 have s4:b1 l (6+D)=8:=by omega
 have m0:b1 m 0=b1 l 0:=Xso (hd 0 (by omega))
 have m5:b1 m 5=D:=by rw [Xso (hd 5 (by omega)),hD]
 have m6:b1 m (6+D)=8:=by rw [Xso (hd (6+D) (by omega)),s4]
 have i5:idS m 5=((l.drop 6).take D,0,6+D):=by
  unfold idS
  rw [m5,hl,if_neg (by omega),if_neg (by omega),if_neg (by omega),Xh1 (s:=l) (fun k a1 a2=>hd k (by omega))]
 have i6:idS m (6+D)=((m.drop (6+D+1)).take 8,0,6+D+1+8):=by
  unfold idS
  rw [m6,hl,if_neg (by omega),if_neg (by omega),if_neg (by omega)]
 unfold Xho
 rw [if_neg (by intro e;rw [e] at hl;simp only [List.length_nil] at hl;omega),m0,if_neg g2,if_neg g3,if_neg (by omega),i5]
 simp only []
 rw [if_neg (by decide),i6]
 simp only []
 rw [if_neg (by decide),show 6+D+1=7+D by omega]
 exact ⟨rfl,rfl,rfl,rfl,by omega,f3⟩
def c36 (B b:List UInt8):Int:=if v2 B 6=0 then 0 else if v2 b 6=0 then 65535 else v2 b 6
def XDe (s:List UInt8) (i:Int):List UInt8:=
 let B:=(Xak s).body
 let b:=(XgU B (15+(Xho (B.drop 8)).1.DCID.length) (be i.toNat 8) 6).1
 s.take (Xak s).size++sset b 6 2 (c36 B b).toNat
theorem Xts {s:List UInt8} {i:Int} (h:(Xav s).2.2.2=0) (hp:(Xav s).1.Tuple.Proto=17) (q0:(Xho (s.drop (Xav s).2.2.1)).2=0) (q1:(Xho (s.drop (Xav s).2.2.1)).1.Long=true) (q8:(Xho (s.drop (Xav s).2.2.1)).1.SCID.length=8) :
 (Xak s).err=0∧(Xav s).2.1=(Xak s).size∧(Xav s).2.2.1=(Xak s).size+8∧(Xak s).body=s.drop (Xak s).size∧15+(Xho (s.drop (Xav s).2.2.1)).1.DCID.length+8≤(Xak s).body.length∧(Xho (s.drop (Xav s).2.2.1)).1.DCID.length≤20 ∧
 s.drop (Xav s).2.2.1=(Xak s).body.drop 8 ∧
 (XgU (Xak s).body (15+(Xho (s.drop (Xav s).2.2.1)).1.DCID.length) (be i.toNat 8) 6).2=true∧(XgU (Xak s).body (15+(Xho (s.drop (Xav s).2.2.1)).1.DCID.length) (be i.toNat 8) 6).1.length=(Xak s).body.length ∧
 (XDe s i).length=s.length∧Xav (XDe s i)=Xav s ∧
 (∀ k,(k<(Xak s).size+15+(Xho (s.drop (Xav s).2.2.1)).1.DCID.length∨(Xak s).size+15+(Xho (s.drop (Xav s).2.2.1)).1.DCID.length+8≤k)→(k<(Xak s).size+6∨(Xak s).size+6+2≤k)→(XDe s i)[k]?=s[k]?) ∧
 (Xho ((XDe s i).drop (Xav s).2.2.1)).2=0∧(Xho ((XDe s i).drop (Xav s).2.2.1)).1.SCID=be i.toNat 8:=by
 have hT:9000<s.length∨s=[]∨(Xak s).err≠0∨(Xf9 (Xak s) s.length).2.2≠0∨(¬ 9000<s.length∧s≠[]∧(Xak s).err=0∧(Xf9 (Xak s) s.length).2.2=0):=by
  by_cases a1:9000<s.length
  ·exact .inl a1
  by_cases a2:s=[]
  ·exact .inr (.inl a2)
  by_cases a3:(Xak s).err=0
  ·by_cases a4:(Xf9 (Xak s) s.length).2.2=0
   ·exact .inr (.inr (.inr (.inr ⟨a1,a2,a3,a4⟩)))
   ·exact .inr (.inr (.inr (.inl a4)))
  ·exact .inr (.inr (.inl a3))
 have eT:¬ 9000<s.length∧s≠[]∧(Xak s).err=0∧(Xf9 (Xak s) s.length).2.2=0:=by
  unfold Xav at h
  rcases hT with a|a|a|a|a
  ·rw [if_pos a] at h;exact absurd h (by decide)
  ·by_cases a1:9000<s.length
   ·rw [if_pos a1] at h;exact absurd h (by decide)
   ·rw [if_neg a1,if_pos a] at h;exact absurd h (by decide)
  ·by_cases a1:9000<s.length
   ·rw [if_pos a1] at h;exact absurd h (by decide)
   by_cases a2:s=[]
   ·rw [if_neg a1,if_pos a2] at h;exact absurd h (by decide)
   ·rw [if_neg a1,if_neg a2,if_pos a] at h;exact absurd h a
  ·by_cases a1:9000<s.length
   ·rw [if_pos a1] at h;exact absurd h (by decide)
   by_cases a2:s=[]
   ·rw [if_neg a1,if_pos a2] at h;exact absurd h (by decide)
   by_cases a3:(Xak s).err≠0
   ·rw [if_neg a1,if_neg a2,if_pos a3] at h;exact absurd h a3
   ·rw [if_neg a1,if_neg a2,if_neg a3,if_pos a] at h;exact absurd h a
  ·exact a
 obtain ⟨n1,n2,n3,n4⟩:=eT
 have tE:Xav s=((Xf9 (Xak s) s.length).1,s.length - (Xak s).body.length,s.length - (Xf9 (Xak s) s.length).2.1,0):=by
  unfold Xav;rw [if_neg n1,if_neg n2,if_neg (by omega),if_neg (by omega)]
 have hbl:=Xfn n3
 obtain ⟨_,sw2⟩:=Xh2 (b:=(Xak s).body) n3 rfl
 have hpr:(Xak s).proto=17:=by
  rw [tE] at hp
  simp only at hp
  unfold Xf9 at hp n4
  by_cases c1:(Xak s).proto=6
  ·rw [if_pos c1] at hp n4
   by_cases c2:(Xhy (Xak s).body (Xak s).src (Xak s).dst).2.2≠0
   ·rw [if_pos c2] at n4;exact absurd n4 c2
   ·rw [if_neg c2] at hp;simp only at hp;omega
  ·rw [if_neg c1] at n4
   by_cases c2:(Xak s).proto=17
   ·exact c2
   ·rw [if_neg c2] at n4;exact absurd n4 (by decide)
 have in17:∀ o:O11,∀ n:Nat,o.proto=17→Xf9 o n=if (Xhw o.body o.src o.dst).2.2≠0 then (zP,0,(Xhw o.body o.src o.dst).2.2) else if (Xhw o.body o.src o.dst).2.1.length+8≠o.body.length then (zP,0,5) else
  (⟨⟨o.proto,o.src,o.dst,(Xhw o.body o.src o.dst).1.SPort,(Xhw o.body o.src o.dst).1.DPort⟩,0,false,0,0,(XxS (Xhw o.body o.src o.dst).2.1).1,(XxS (Xhw o.body o.src o.dst).2.1).2,n⟩,(Xhw o.body o.src o.dst).2.1.length,0):=fun o n e=>by
  unfold Xf9;rw [if_neg (by omega),if_pos e]
 rw [in17 _ _ hpr] at n4
 have g8:(Xhw (Xak s).body (Xak s).src (Xak s).dst).2.2=0∧(Xhw (Xak s).body (Xak s).src (Xak s).dst).2.1.length+8=(Xak s).body.length:=by
  by_cases c1:(Xhw (Xak s).body (Xak s).src (Xak s).dst).2.2≠0
  ·rw [if_pos c1] at n4;exact absurd n4 c1
  rw [if_neg c1] at n4
  by_cases c2:(Xhw (Xak s).body (Xak s).src (Xak s).dst).2.1.length+8≠(Xak s).body.length
  ·rw [if_pos c2] at n4;exact absurd n4 (by decide)
  ·exact ⟨by omega,by omega⟩
 rw [in17 _ _ hpr,if_neg (by omega),if_neg (by omega)] at tE
 have eB:∀ C:List UInt8,C=(Xak s).body→(v2 (Xak s).body 6=0∧v2 C 6=0)∨(v2 (Xak s).body 6≠0∧v2 C 6≠0∧Xez C%65535=Xez (Xak s).body%65535):=fun C e=>by
  subst e
  by_cases c:v2 (Xak s).body 6=0
  ·exact .inl ⟨c,c⟩
  ·exact .inr ⟨c,c,rfl⟩
 obtain ⟨gB,_,b8⟩:=Xt3 (C:=(Xak s).body) g8.1 g8.2 rfl (fun _ _=>rfl) (eB _ rfl)
 rw [gB] at tE
 simp only at tE
 have w2:(Xav s).2.1=(Xak s).size:=by rw [tE];simp only;omega
 have w3:(Xav s).2.2.1=(Xak s).size+8:=by rw [tE];simp only [List.length_drop];omega
 have eD:s.drop (Xav s).2.2.1=(Xak s).body.drop 8:=by rw [w3,sw2,List.drop_drop]
 rw [eD] at q0 q1 q8 ⊢
 obtain ⟨_,_,_,_,p5,p6⟩:=Xtn (m:=(Xak s).body.drop 8) q0 q1 q8 rfl (fun _ _=>rfl)
 rw [List.length_drop] at p5
 unfold XDe
 simp only []
 generalize hB:(Xak s).body=B at *
 generalize hD:(Xho (B.drop 8)).1.DCID.length=D at *
 obtain ⟨b,e1,e2,e3,e4,e5⟩:=XoL (B:=B) (w:=be i.toNat 8) (i:=15+D) (j:=6) (by intro e;have:=congrArg List.length e;rw [Xhk] at this;exact absurd this (by decide)) (by rw [Xhk];omega) (by omega) (by decide) (.inl (by omega))
 rw [Xhk] at e4 e5
 rw [e1]
 simp only []
 have hcr:0≤c36 B b∧c36 B b<65536:=by
  have:=XmQ b 6
  unfold c36;split
  ·omega
  split<;>omega
 have hsl:(sset b 6 2 (c36 B b).toNat).length=B.length:=by rw [Xpu (by omega),e2]
 have hs6:v2 (sset b 6 2 (c36 B b).toNat) 6=c36 B b:=by
  unfold v2
  rw [XxP (by omega),Xpz (by simp only [Nat.reducePow];omega)];omega
 have hsw:Xez (sset b 6 2 (c36 B b).toNat)+(v2 b 6).toNat=Xez b+(c36 B b).toNat:=by
  have:=XtK (s:=b) (p:=6) (k:=2) (n:=(c36 B b).toNat) (by omega) (by decide) (by decide)
  rw [Xpq (by omega)] at this
  have e:Xez ((b.drop 6).take 2)=(v2 b 6).toNat:=by
   have hl2:((b.drop 6).take 2).length=2:=by rw [List.length_take,List.length_drop];omega
   unfold v2
   have hb:=Xyk ((b.drop 6).take 2)
   rw [hl2] at hb
   have:=Xdk (l:=b.drop 6) (k:=2) 65536 (by decide)
   rw [←hb,Xpq this,Xpz (by simpa using this)];omega
  rw [e] at this
  exact this
 have hsg:∀ k,k≠6→k≠7→(sset b 6 2 (c36 B b).toNat)[k]?=b[k]?:=fun k a1 a2=>by
  rw [Xpn (by omega)]
  by_cases c1:k<6
  ·rw [if_pos c1]
  ·rw [if_neg c1,if_neg (by omega)]
 have hcase:(v2 B 6=0∧v2 (sset b 6 2 (c36 B b).toNat) 6=0)∨(v2 B 6≠0∧v2 (sset b 6 2 (c36 B b).toNat) 6≠0∧Xez (sset b 6 2 (c36 B b).toNat)%65535=Xez B%65535):=by
  have r6:=XmQ b 6
  rw [hs6]
  by_cases c:v2 B 6=0
  ·exact .inl ⟨c,by unfold c36;rw [if_pos c]⟩
  ·refine .inr ⟨c,?_,?_⟩
   ·unfold c36;rw [if_neg c];split<;>omega
   ·rw [←e3]
    unfold c36 at hsw ⊢
    rw [if_neg c] at hsw ⊢
    by_cases c2:v2 b 6=0
    ·rw [if_pos c2] at hsw ⊢
     rw [c2] at hsw
     simp only [show (65535:Int).toNat=65535 from rfl,show (0:Int).toNat=0 from rfl] at hsw ⊢
     omega
    ·rw [if_neg c2] at hsw ⊢
     omega
 generalize hC:sset b 6 2 (c36 B b).toNat=C at *
 obtain ⟨_,gC,_⟩:=Xt3 (C:=C) g8.1 g8.2 hsl (fun k hk=>by rw [hsg k (by omega) (by omega),e4 k (by omega) (by omega) (by omega)]) hcase
 obtain ⟨z1,z2,z3,z4,_,_⟩:=Xtn (m:=C.drop 8) q0 q1 q8 (by rw [List.length_drop,List.length_drop,hsl]) (fun k hk=>by
  rw [hD] at hk
  rw [List.getElem?_drop,List.getElem?_drop,hsg _ (by omega) (by omega),e4 _ (by omega) (by omega) (by omega)])
 rw [hD] at z4
 obtain ⟨t1,_⟩:=Xh2 (b:=C) n3 (by rw [hB];exact hsl)
 have tl:(s.take (Xak s).size++C).length=s.length:=by rw [List.length_append,List.length_take];omega
 have hdr:(s.take (Xak s).size++C).drop (Xak s).size=C:=List.drop_left' (by rw [List.length_take];omega)
 have eDC:(s.take (Xak s).size++C).drop (Xav s).2.2.1=C.drop 8:=by rw [w3,←List.drop_drop,hdr]
 rw [eDC]
 refine ⟨n3,w2,w3,sw2,by omega,p6,trivial,trivial,e2,tl,?_,fun k a1 a2=>?_,z1,?_⟩
 ·rw [tE]
  unfold Xav
  rw [tl,if_neg n1,if_neg (by intro e;rw [e] at tl;exact n2 (List.length_eq_zero_iff.1 (by simpa using tl.symm))),t1]
  simp only []
  have gg:Xf9 ⟨(Xak s).src,(Xak s).dst,(Xak s).proto,(Xak s).size,C,0⟩ s.length=(⟨⟨(Xak s).proto,(Xak s).src,(Xak s).dst,v2 B 0,v2 B 2⟩,0,false,0,0,(XxS (C.drop 8)).1,(XxS (C.drop 8)).2,(s.length:Int)⟩,(C.drop 8).length,0):=by
   rw [in17 ⟨(Xak s).src,(Xak s).dst,(Xak s).proto,(Xak s).size,C,0⟩ _ hpr]
   simp only []
   rw [gC]
   simp only []
   rw [if_neg (show ¬ (0:Int)≠0 by simp),if_neg (by rw [List.length_drop];omega)]
  rw [if_neg (show ¬ (0:Int)≠0 by simp),gg]
  simp only []
  rw [if_neg (show ¬ (0:Int)≠0 by simp)]
  have eq:XxS (C.drop 8)=XxS (B.drop 8):=by unfold XxS;rw [z1,q0,z2,q1,z3]
  rw [eq,hsl]
  simp only [List.length_drop,hsl]
 ·rw [List.getElem?_append,List.length_take]
  by_cases c:k<(Xak s).size
  ·rw [if_pos (by omega),List.getElem?_take_of_lt c]
  ·rw [if_neg (by omega),show min (Xak s).size s.length=(Xak s).size by omega,hsg _ (by omega) (by omega),e4 _ (by omega) (by omega) (by omega),sw2,List.getElem?_drop]
   congr 1;omega
 ·rw [z4]
  apply List.ext_getElem?
  intro x
  rw [List.getElem?_take]
  split
  ·rw [List.getElem?_drop,List.getElem?_drop,hsg _ (by omega) (by omega),e5 _ (by omega) (by omega)];congr 1;omega
  ·rw [List.getElem?_eq_none (by rw [Xhk];omega)]
end Go.Vm.Code
namespace Go.Vm.Code
open Go Go.Vm Go.Proofs
set_option maxRecDepth 100000
set_option maxHeartbeats 4000000
set_option linter.unusedVariables false
def Xj5 (Xcr:Xeh) (Xax:XbI) (XaF:XbT) (Xaw:Xbn) (Xbf:XcF) (XdU:XeP) (Xbq:XcN) (s:List UInt8) (ida1:Int):Option ((List UInt8)×Int):=
 (Xaw s).bind fun p=>
 cond (p.2 !=0)
  (
  some (([],p.2)))
  (
  (Xbf s).bind fun w=>
  Xbr (decide ((0:Int)≤w.2.1∧w.2.1≤(s.length:Int))) <|
  let t:=(s.drop w.2.1.toNat).take (s.length - w.2.1.toNat)
  (XdU t).bind fun xg=>
  cond (p.1.Tuple.Proto !=17)
   (
   some (([],6)))
   (
   cond (xg.2 !=0)
    (
    some (([],6)))
    (
    cond (!xg.1.Long)
     (
     some (([],6)))
     (
     cond ((xg.1.SCID.length:Int) !=8)
      (
      some (([],3)))
      (
      (Xax s (wI .i64 (w.1+6)) 2).bind fun xg1=>
      Xbr (decide ((0:Int)≤w.1∧w.1≤(s.length:Int))) <|
      let t1:=(s.drop w.1.toNat).take (s.length - w.1.toNat)
      (XaF ida1 8).bind fun p1=>
      (Xbq t1 (wI .i64 (15+(xg.1.DCID.length:Int))) p1 6).bind fun p2=>
      cond (!p2.2)
       (
       some (([],3)))
       (
       (Xax p2.1 6 2).bind fun xg2=>
       cond (xg1.1==0)
        (
        Xbr (decide ((0:Int)≤w.1∧w.1≤(s.length:Int))) <|
        (Xcr p2.1 6 2 0).bind fun s1=>
        Xbr (decide ((s.take w.1.toNat).length+s1.length<2^63)) <|
        some (((s.take w.1.toNat)++s1,0)))
        (
        cond (xg2.1==0)
         (
         Xbr (decide ((0:Int)≤w.1∧w.1≤(s.length:Int))) <|
         (Xcr p2.1 6 2 65535).bind fun s2=>
         Xbr (decide ((s.take w.1.toNat).length+s2.length<2^63)) <|
         some (((s.take w.1.toNat)++s2,0)))
         (
         Xbr (decide ((0:Int)≤w.1∧w.1≤(s.length:Int))) <|
         (Xcr p2.1 6 2 xg2.1).bind fun s3=>
         Xbr (decide ((s.take w.1.toNat).length+s3.length<2^63)) <|
         some (((s.take w.1.toNat)++s3,0))))))))))
def rx38 (x:(List UInt8)×Int):Xc2:=⟨.tuple ⟨[.string ⟨⟨x.1⟩⟩,.int .i64 x.2]⟩,[],[]⟩
abbrev Xd0:=(List UInt8)→Int→Option ((List UInt8)×Int)
def r38 (g:Xd0):Dec:=dV asS fun (y0:List UInt8)=>dV (asI .u64) fun (y1:Int)=>XdT (ofG (g y0 y1) rx38)
theorem r38_c {g:Xd0} {y0:List UInt8} {y1:Int} {x:(List UInt8)×Int} (hx:g y0 y1=some x):r38 g [.string ⟨⟨y0⟩⟩,.int .u64 y1] []=some (rx38 x):=(Xbb (Xds)).trans ((Xbb (Xdr _)).trans (Xa7 hx))
def s38 (g:Xd0):XbS:=⟨[.v,.v],r38 g⟩
theorem XFm {g:Xd0} {y0:List UInt8} {y1:Int} {x:(List UInt8)×Int} (hx:g y0 y1=some x):(s38 g).run [.string ⟨⟨y0⟩⟩,.int .u64 y1] []=some (rx38 x):=r38_c hx
abbrev XPQ (Xcr:Xeh) (Xax:XbI) (XaF:XbT) (Xaw:Xbn) (Xbf:XcF) (XdU:XeP) (Xbq:XcN):List (Nat×XbS):=[(72,s72 Xcr),(69,s69 Xax),(71,s71 XaF),(30,s30 Xaw),(67,s67 Xbf),(68,s68 XdU),(70,s70 Xbq)]
theorem XJD (Xcr:Xeh) (Xax:XbI) (XaF:XbT) (Xaw:Xbn) (Xbf:XcF) (XdU:XeP) (Xbq:XcN) (hS:Xaq Tryz.prog (XaL (XPQ Xcr Xax XaF Xaw Xbf XdU Xbq))) (s:List UInt8) (ida1:Int) (res:(List UInt8)×Int) (h:Xj5 Xcr Xax XaF Xaw Xbf XdU Xbq s ida1=some res) :
 XaM Tryz.prog 38 0 ⟨⟨38,98,[(0,.string ⟨⟨s⟩⟩),(1,.int .u64 ida1)],[.code XFI],[],false,none⟩,[],[],0⟩ (fun v H _=>Res 0 (rx38 res) v H):=by
 unfold Xj5 at h
 have R1:=@Xq4 Xaw
 have R2:=@Xyd Xbf
 have R3:=@XHy XdU
 have R4:=@XpF Xax
 have R5:=@Xqf XaF
 have R6:=@XAv Xbq
 have R7:=@XGb Xcr
 refine Xbp XaP hS true 3000 ?_
 conv=>whnf
 exact W
def XcL:Xd0:=Xj5 Xcr Xax XaF Xaw Xbf XdU Xbq
theorem XGl:Xb8 Tryz.prog 38 (s38 XcL):=by
 have hL:=XJD Xcr Xax XaF Xaw Xbf XdU Xbq (Xaq.XaY ⟨XFG,Xrd,Xq8,XrH,XBi,XFu,XyW,trivial⟩)
 exact okA ⟨Tryz.f38,rfl,by decide,rfl⟩
end Go.Vm.Code
namespace Go.Vm.Code
open Go Go.Vm
def name36 (s:List UInt8) (i:Int):List UInt8×Int:=
 if (Xav s).2.2.2≠0 then ([],(Xav s).2.2.2) else if (Xav s).1.Tuple.Proto≠17 then ([],6) else if (Xho (s.drop (Xav s).2.2.1)).2≠0 then ([],6) else
  if (Xho (s.drop (Xav s).2.2.1)).1.Long=false then ([],6) else if (Xho (s.drop (Xav s).2.2.1)).1.SCID.length≠8 then ([],3) else (XDe s i,0)
theorem XDE {s:List UInt8} {i:Int} (hl:s.length<900) (h0:0≤i):XcL s i=some (name36 s i):=by
 unfold XcL Xj5 name36
 rw [Xnd (by omega),Option.bind_some]
 simp only []
 by_cases h:(Xav s).2.2.2=0
 ·have hle:=(Xp7 s).2
  have et:(s.drop (Xav s).2.2.1).take (s.length - (Xav s).2.2.1)=s.drop (Xav s).2.2.1:=List.take_of_length_le (by rw [List.length_drop];omega)
  rw [show ((Xav s).2.2.2 !=0)=false by simpa using h,cond_false,if_neg (by omega),Xvu (by omega),Option.bind_some]
  simp only []
  rw [XaH (by omega),Int.toNat_natCast,et,Xv1 (by rw [List.length_drop];omega),Option.bind_some]
  by_cases hp:(Xav s).1.Tuple.Proto=17
  ·rw [show ((Xav s).1.Tuple.Proto !=17)=false by simpa using hp,cond_false,if_neg (by omega)]
   by_cases q0:(Xho (s.drop (Xav s).2.2.1)).2=0
   ·rw [show ((Xho (s.drop (Xav s).2.2.1)).2 !=0)=false by simpa using q0,cond_false,if_neg (by omega)]
    cases q1:(Xho (s.drop (Xav s).2.2.1)).1.Long
    ·rfl
    rw [Bool.not_true,cond_false,if_neg (by decide)]
    by_cases q8:(Xho (s.drop (Xav s).2.2.1)).1.SCID.length=8
    ·rw [show (((Xho (s.drop (Xav s).2.2.1)).1.SCID.length:Int) !=8)=false by rw [q8];rfl,cond_false,if_neg (by omega)]
     obtain ⟨n3,w2,w3,sw2,d1,d2,eD,p1,p2,nl,_⟩:=Xts (i:=i) h hp q0 q1 q8
     have hbl:=Xfn n3
     rw [w2]
     unfold XDe
     simp only []
     rw [←eD]
     generalize (Xho (s.drop (Xav s).2.2.1)).1.DCID.length=D at *
     have eb:(s.drop (Xak s).size).take (s.length - (Xak s).size)=(Xak s).body:=by
      rw [sw2];exact List.take_of_length_le (by rw [List.length_drop];omega)
     have e6:Xax s (wI .i64 (((Xak s).size:Int)+6)) 2=some (v2 (Xak s).body 6,true):=by
      rw [Xdb (by omega) (by omega),Xek (by omega),XfZ (by omega) (by omega) (by omega) (by omega),show ((((Xak s).size:Int))+6).toNat=(Xak s).size+6 by omega,sw2,XpC];rfl
     have hput:XaF i 8=some (be i.toNat 8):=by
      rw [Xfh h0,show XiP i 8=be i.toNat 8 from XhG (k:=8) (by omega)]
     have e15:wI .i64 (15+(D:Int))=((15+D:Nat):Int):=by rw [Xdb (by omega) (by omega)];omega
     rw [e6,Option.bind_some,XaH (by omega),Int.toNat_natCast,eb,hput,Option.bind_some,e15]
     simp only []
     rw [show (6:Int)=((6:Nat):Int) from rfl,XwQ (by omega) (by rw [Xhk];omega) (by omega) (by omega) (by decide),Option.bind_some,p1,Bool.not_true,cond_false]
     generalize (XgU (Xak s).body (15+D) (be i.toNat 8) 6).1=b at *
     have r6:=XmQ b 6
     have g6:Xax b ((6:Nat):Int) 2=some (v2 b 6,true):=by
      rw [Xek (by omega),XfZ (by omega) (by omega) (by omega) (by omega)];rfl
     rw [g6,Option.bind_some]
     simp only []
     have fin:∀ c:Int,0≤c→(Xcr b ((6:Nat):Int) 2 c)=some (sset b 6 2 c.toNat):=fun c hc=>
      Xsm (k:=2) (by omega) hc (by omega) (by omega) (by omega)
     have sl:∀ c:Int,(s.take (Xak s).size).length+(sset b 6 2 c.toNat).length<2^63:=fun c=>by
      rw [Xpu (by omega),List.length_take];omega
     unfold c36
     by_cases c1:v2 (Xak s).body 6=0
     ·rw [show (v2 (Xak s).body 6==0)=true by simpa using c1,cond_true,XaH (by omega),fin 0 (by omega),Option.bind_some,XaH (sl 0),if_pos c1]
     rw [show (v2 (Xak s).body 6==0)=false by simpa using c1,cond_false,if_neg c1]
     by_cases c2:v2 b 6=0
     ·rw [show (v2 b 6==0)=true by simpa using c2,cond_true,XaH (by omega),fin 65535 (by omega),Option.bind_some,XaH (sl 65535),if_pos c2]
     ·rw [show (v2 b 6==0)=false by simpa using c2,cond_false,XaH (by omega),fin _ (by omega),Option.bind_some,XaH (sl _),if_neg c2]
    ·rw [show (((Xho (s.drop (Xav s).2.2.1)).1.SCID.length:Int) !=8)=true by rw [bne_iff_ne];omega,cond_true,if_pos q8]
   ·rw [show ((Xho (s.drop (Xav s).2.2.1)).2 !=0)=true by simpa using q0,cond_true,if_pos q0]
  ·rw [show ((Xav s).1.Tuple.Proto !=17)=true by simpa using hp,cond_true,if_pos hp]
 ·rw [show ((Xav s).2.2.2 !=0)=true by simpa using h,cond_true,if_pos h]
end Go.Vm.Code
namespace Go.Vm.Code
open Go Go.Vm Go.Proofs
set_option maxRecDepth 100000
set_option maxHeartbeats 4000000
set_option linter.unusedVariables false
def XhD:Option Bool:=
 some (false)
def XwF (x:Bool):Xc2:=⟨.bool x,[],[none,none]⟩
abbrev Xat:=Option Bool
def Xy3 (g:Xat):Dec:=dNl 2<|XdT (ofG (g) XwF)
theorem XLf {g:Xat} {x:Bool} (hx:g=some x):Xy3 g [.pointer none] [none,none]=some (XwF x):=(Xy0).trans (Xa7 hx)
abbrev XCh:List (Nat×XbS):=[]
theorem XBj (hS:Xaq Tryz.prog (XaL (XCh))) (res:Bool) (h:XhD=some res) :
 XaM Tryz.prog 28 2 ⟨⟨28,12,[(0,.pointer none)],[.code XDm],[],false,none⟩,[],[],2⟩ (fun v H _=>Res 2 (XwF res) v H):=by
 unfold XhD at h
 refine Xbp XaP hS true 3000 ?_
 conv=>whnf
 exact W
def XhK (ha0:XbJ):Option Bool:=
 some (false)
def XvL (x:Bool):Xc2:=⟨.bool x,[],[none,none]⟩
abbrev Xau:=XbJ→Option Bool
def XuF (g:Xau):Dec:=dTr 2 (XfF 0) fun (y0:XbJ)=>XdT (ofG (g y0) XvL)
theorem XJ9 {g:Xau} {y0:XbJ} {x:Bool} (hx:g y0=some x):XuF g [.pointer (some ⟨0,0,none⟩)] [some [.int .i64 y0.id_,.int .u32 y0.clock,.map none],none]=some (XvL x):=(XhS rfl rfl (Xim 0 _)).trans (Xa7 hx)
abbrev XDc:List (Nat×XbS):=[]
theorem Xyf (hS:Xaq Tryz.prog (XaL (XDc))) (ha0:XbJ) (res:Bool) (h:XhK ha0=some res) :
 XaM Tryz.prog 28 2 ⟨⟨28,12,[(0,.pointer (some ⟨0,0,none⟩))],[.code XDm],[],false,none⟩,[],[(0,.row false [.int .i64 ha0.id_,.int .u32 ha0.clock,.map none])],2⟩ (fun v H _=>Res 2 (XvL res) v H):=by
 unfold XhK at h
 refine Xbp XaP hS true 3000 ?_
 conv=>whnf
 exact W
def XhA (ha0:Xaj):Option (Bool×Xaj):=
 some ((true,ha0))
def Xv7 (x:Bool×Xaj):Xc2:=⟨.bool x.1,[],[none,some (.float .f64 0::vT XaA x.2.cookies)]⟩
abbrev Xas:=Xaj→Option (Bool×Xaj)
def Xvh (g:Xas):Dec:=dTr 2 (Xd5 0) fun (y0:Xaj)=>XdT (ofG (g y0) Xv7)
theorem XNj {g:Xas} {y0:Xaj} {x:Bool×Xaj} (hx:g y0=some x):Xvh g [.pointer (some ⟨0,0,none⟩)] [some [.int .i64 y0.id_,.int .u32 y0.clock,.map (some 1)],some (vT XaA y0.cookies)]=some (Xv7 x):=(XhS rfl rfl (XeE 0 _)).trans (Xa7 hx)
abbrev XCH:List (Nat×XbS):=[]
theorem XzW (hS:Xaq Tryz.prog (XaL (XCH))) (ha0:Xaj) (res:Bool×Xaj) (h:XhA ha0=some res) :
 XaM Tryz.prog 28 2 ⟨⟨28,12,[(0,.pointer (some ⟨0,0,none⟩))],[.code XDm],[],false,none⟩,[],[(0,.row false [.int .i64 ha0.id_,.int .u32 ha0.clock,.map (some 1)]),(1,.mp (vT XaA ha0.cookies))],2⟩ (fun v H _=>Res 2 (Xv7 res) v H):=by
 unfold XhA at h
 refine Xbp XaP hS true 3000 ?_
 conv=>whnf
 exact W
def s28 (g0:Xat) (g1:Xau) (g2:Xas):XbS:=⟨[.tr [⟨none,0,0,0,none⟩,⟨some 0,2,0,3,none⟩]],orD (Xy3 g0) (orD (XuF g1) (Xvh g2))⟩
theorem Xpe {g0:Xat} {g1:Xau} {g2:Xas} {x:Bool} (hx:g0=some x):(s28 g0 g1 g2).run [.pointer none] [none,none]=some (XwF x):=XrM (a:=Xy3 g0) (b:=orD (XuF g1) (Xvh g2)) (XLf hx)
theorem Xvv {g0:Xat} {g1:Xau} {g2:Xas} {y0:XbJ} {x:Bool} (hx:g1 y0=some x):(s28 g0 g1 g2).run [.pointer (some ⟨0,0,none⟩)] [some [.int .i64 y0.id_,.int .u32 y0.clock,.map none],none]=some (XvL x):=Xqi (a:=Xy3 g0) (b:=orD (XuF g1) (Xvh g2)) rfl (XrM (a:=XuF g1) (b:=Xvh g2) (XJ9 hx))
theorem XmI {g0:Xat} {g1:Xau} {g2:Xas} {y0:Xaj} {x:Bool×Xaj} (hx:g2 y0=some x):(s28 g0 g1 g2).run [.pointer (some ⟨0,0,none⟩)] [some [.int .i64 y0.id_,.int .u32 y0.clock,.map (some 1)],some (vT XaA y0.cookies)]=some (Xv7 x):=Xqi (a:=Xy3 g0) (b:=orD (XuF g1) (Xvh g2)) rfl (Xqi (a:=XuF g1) (b:=Xvh g2) rfl (XNj hx))
def Xac:Xat:=XhD
def Xad:Xau:=XhK
def Xab:Xas:=XhA
theorem Xk7:Xb8 Tryz.prog 28 (s28 Xac Xad Xab):=by
 have L0:=XBj (Xaq.XaY trivial)
 have L1:=Xyf (Xaq.XaY trivial)
 have L2:=XzW (Xaq.XaY trivial)
 exact okA ⟨Tryz.f28,rfl,by decide,rfl⟩
def Xgp (ha0:Xaj) (t:Xag) (c:Xa8):Option (Int×Xaj):=
 cond (Xa6 t ha0.cookies)
  (
  cond (!c.First)
   (
   some ((0,ha0)))
   (
   let m:=Xbl t c.Cookie ha0.cookies
   some ((0,Xaj.mk ha0.id_ ha0.clock m))))
  (
  cond ((ha0.cookies.length:Int)==64)
   (
   some ((9,ha0)))
   (
   let m1:=Xbl t c.Cookie ha0.cookies
   some ((0,Xaj.mk ha0.id_ ha0.clock m1))))
def Xwt (x:Int×Xaj):Xc2:=⟨.int .i64 x.1,[],[none,some (.float .f64 0::vT XaA x.2.cookies)]⟩
abbrev Xc6:=Xaj→Xag→Xa8→Option (Int×Xaj)
def XQR (g:Xc6):Dec:=dTr 2 (Xd5 0) fun (y0:Xaj)=>dV XdQ fun (y1:Xag)=>dV Xkz fun (y2:Xa8)=>XdT (ofG (g y0 y1 y2) Xwt)
theorem XKs {g:Xc6} {y0:Xaj} {y1:Xag} {y2:Xa8} {x:Int×Xaj} (hx:g y0 y1 y2=some x):XQR g [.pointer (some ⟨0,0,none⟩),.agg ⟨[.int .i64 y1.Proto,.bool y1.Src.V6,.int .u64 y1.Src.Hi,.int .u64 y1.Src.Lo,.bool y1.Dst.V6,.int .u64 y1.Dst.Hi,.int .u64 y1.Dst.Lo,.int .i64 y1.SPort,.int .i64 y1.DPort]⟩,.agg ⟨[.bool y2.V6,.int .i64 y2.Backend,.int .u64 y2.Cookie,.bool y2.First,.int .i64 y2.Instance]⟩] [some [.int .i64 y0.id_,.int .u32 y0.clock,.map (some 1)],some (vT XaA y0.cookies)]=some (Xwt x):=(XhS rfl rfl (XeE 0 _)).trans ((Xbb (XdX _)).trans ((Xbb (XrZ _)).trans (Xa7 hx)))
abbrev XFe:List (Nat×XbS):=[]
theorem XAj (hS:Xaq Tryz.prog (XaL (XFe))) (ha0:Xaj) (t:Xag) (c:Xa8) (res:Int×Xaj) (h:Xgp ha0 t c=some res) :
 XaM Tryz.prog 31 2 ⟨⟨31,43,[(0,.pointer (some ⟨0,0,none⟩)),(1,.agg ⟨[.int .i64 t.Proto,.bool t.Src.V6,.int .u64 t.Src.Hi,.int .u64 t.Src.Lo,.bool t.Dst.V6,.int .u64 t.Dst.Hi,.int .u64 t.Dst.Lo,.int .i64 t.SPort,.int .i64 t.DPort]⟩),(2,.agg ⟨[.bool c.V6,.int .i64 c.Backend,.int .u64 c.Cookie,.bool c.First,.int .i64 c.Instance]⟩)],[.code XFZ],[],false,none⟩,[],[(0,.row false [.int .i64 ha0.id_,.int .u32 ha0.clock,.map (some 1)]),(1,.mp (vT XaA ha0.cookies))],2⟩ (fun v H _=>Res 2 (Xwt res) v H):=by
 unfold Xgp at h
 refine Xbp XaP hS true 3000 ?_
 conv=>whnf
 refine ⟨.int .u64 (Xaz 0 t ha0.cookies),Xa6 t ha0.cookies,Xew.get _ t ha0.cookies,?_⟩
 conv=>whnf
 refine br.h h (by rfl) ?_ ?_
 ·clear h;intro hb h;conv=>whnf
  refine br.h h (by rfl) ?_ ?_
  ·clear h;intro hb h;conv=>whnf
   exact W
  clear h;intro hb h;conv=>whnf
  refine br.neg ?_ ?_;(focus (clear h;first|assumption|(simp_all;done)))
  conv=>whnf
  let m:List Xah:=Xbl t c.Cookie ha0.cookies
  refine ⟨vT XaA m,Xew.put _ _ ha0.cookies,?_⟩
  conv=>whnf
  exact W
 clear h;intro hb h;conv=>whnf
 refine br.pos ?_ ?_;(focus (clear h;first|assumption|(simp_all;done)))
 conv=>whnf
 refine ⟨ha0.cookies.length,Xew.length _,?_⟩
 conv=>whnf
 refine br.h h (by rfl) ?_ ?_
 ·clear h;intro hb h;conv=>whnf
  exact W
 clear h;intro hb h;conv=>whnf
 let m1:List Xah:=Xbl t c.Cookie ha0.cookies
 refine ⟨vT XaA m1,Xew.put _ _ ha0.cookies,?_⟩
 conv=>whnf
 exact W
def s31 (g0:Xc6):XbS:=⟨[.tr [⟨none,0,0,0,none⟩,⟨some 0,2,0,3,none⟩],.v,.v],XQR g0⟩
theorem XCK {g0:Xc6} {y0:Xaj} {y1:Xag} {y2:Xa8} {x:Int×Xaj} (hx:g0 y0 y1 y2=some x):(s31 g0).run [.pointer (some ⟨0,0,none⟩),.agg ⟨[.int .i64 y1.Proto,.bool y1.Src.V6,.int .u64 y1.Src.Hi,.int .u64 y1.Src.Lo,.bool y1.Dst.V6,.int .u64 y1.Dst.Hi,.int .u64 y1.Dst.Lo,.int .i64 y1.SPort,.int .i64 y1.DPort]⟩,.agg ⟨[.bool y2.V6,.int .i64 y2.Backend,.int .u64 y2.Cookie,.bool y2.First,.int .i64 y2.Instance]⟩] [some [.int .i64 y0.id_,.int .u32 y0.clock,.map (some 1)],some (vT XaA y0.cookies)]=some (Xwt x):=XKs hx
def XcE:Xc6:=Xgp
theorem XSe:Xb8 Tryz.prog 31 (s31 XcE):=by
 have L0:=XAj (Xaq.XaY trivial)
 exact okA ⟨Tryz.f31,rfl,by decide,rfl⟩
def Xh5 (XeT:Xft) (Xac:Xat) (Xad:Xau) (Xab:Xas) (s:List UInt8):Option ((List UInt8)×Int):=
 (Xac).bind fun n=>
 cond (!n)
  (
  some (([],1)))
  (
  (XeT s).bind fun xg=>
  cond (xg.2.2 !=0)
   (
   some (([],xg.2.2)))
   (
   none))
def Xwu (x:(List UInt8)×Int):Xc2:=⟨.tuple ⟨[.string ⟨⟨x.1⟩⟩,.int .i64 x.2]⟩,[],[none,none]⟩
abbrev XbQ:=(List UInt8)→Option ((List UInt8)×Int)
def XDq (g:XbQ):Dec:=dNl 2<|dV asS fun (y1:List UInt8)=>XdT (ofG (g y1) Xwu)
theorem XKy {g:XbQ} {y1:List UInt8} {x:(List UInt8)×Int} (hx:g y1=some x):XDq g [.pointer none,.string ⟨⟨y1⟩⟩] [none,none]=some (Xwu x):=(Xy0).trans ((Xbb (Xds)).trans (Xa7 hx))
abbrev XCn (XeT:Xft) (Xac:Xat) (Xad:Xau) (Xab:Xas):List (Nat×XbS):=[(29,s29 XeT),(28,s28 Xac Xad Xab)]
theorem XA8 (XeT:Xft) (Xac:Xat) (Xad:Xau) (Xab:Xas) (hS:Xaq Tryz.prog (XaL (XCn XeT Xac Xad Xab))) (s:List UInt8) (res:(List UInt8)×Int) (h:Xh5 XeT Xac Xad Xab s=some res) :
 XaM Tryz.prog 10 2 ⟨⟨10,57,[(0,.pointer none),(1,.string ⟨⟨s⟩⟩)],[.code XA0],[],false,none⟩,[],[],2⟩ (fun v H _=>Res 2 (Xwu res) v H):=by
 unfold Xh5 at h
 have R1:=@Xpe Xac Xad Xab
 have R2:=@XF6 XeT
 refine Xbp XaP hS true 3000 ?_
 conv=>whnf
 exact W
def Xgw (XeT:Xft) (Xaw:Xbn) (Xac:Xat) (Xad:Xau) (Xab:Xas) (XcE:Xc6) (Xf1:Xga) (ha0:Xaj) (s:List UInt8):Option ((List UInt8)×Int×Xaj):=
 (Xab ha0).bind fun x1=>
 cond (!x1.1)
  (
  some (([],1,Xaj.mk ha0.id_ ha0.clock x1.2.cookies)))
  (
  (XeT s).bind fun xg=>
  cond (xg.2.2 !=0)
   (
   some (([],xg.2.2,Xaj.mk ha0.id_ ha0.clock x1.2.cookies)))
   (
   cond (xg.1.Backend !=ha0.id_)
    (
    some (([],16,Xaj.mk ha0.id_ ha0.clock x1.2.cookies)))
    (
    (Xaw xg.2.1).bind fun p=>
    cond (p.2==0)
     (
     (XcE (Xaj.mk ha0.id_ ha0.clock x1.2.cookies) p.1.Tuple xg.1).bind fun x11=>
     cond (x11.1 !=0)
      (
      some (([],x11.1,Xaj.mk ha0.id_ ha0.clock x11.2.cookies)))
      (
      cond (p.1.Stamped)
       (
       (Xf1 xg.2.1 ha0.clock).bind fun i=>
       some ((i.1,i.2,Xaj.mk ha0.id_ ha0.clock x11.2.cookies)))
       (
       some ((xg.2.1,0,Xaj.mk ha0.id_ ha0.clock x11.2.cookies)))))
     (
     cond (p.2 !=0)
      (
      some (([],p.2,Xaj.mk ha0.id_ ha0.clock x1.2.cookies)))
      (
      cond (p.1.Stamped)
       (
       (Xf1 xg.2.1 ha0.clock).bind fun i1=>
       some ((i1.1,i1.2,Xaj.mk ha0.id_ ha0.clock x1.2.cookies)))
       (
       some ((xg.2.1,0,Xaj.mk ha0.id_ ha0.clock x1.2.cookies))))))))
def XwH (x:(List UInt8)×Int×Xaj):Xc2:=⟨.tuple ⟨[.string ⟨⟨x.1⟩⟩,.int .i64 x.2.1]⟩,[],[none,some (.float .f64 0::vT XaA x.2.2.cookies)]⟩
abbrev XbB:=Xaj→(List UInt8)→Option ((List UInt8)×Int×Xaj)
def XDZ (g:XbB):Dec:=dTr 2 (Xd5 0) fun (y0:Xaj)=>dV asS fun (y1:List UInt8)=>XdT (ofG (g y0 y1) XwH)
theorem XLv {g:XbB} {y0:Xaj} {y1:List UInt8} {x:(List UInt8)×Int×Xaj} (hx:g y0 y1=some x):XDZ g [.pointer (some ⟨0,0,none⟩),.string ⟨⟨y1⟩⟩] [some [.int .i64 y0.id_,.int .u32 y0.clock,.map (some 1)],some (vT XaA y0.cookies)]=some (XwH x):=(XhS rfl rfl (XeE 0 _)).trans ((Xbb (Xds)).trans (Xa7 hx))
abbrev XEl (XeT:Xft) (Xaw:Xbn) (Xac:Xat) (Xad:Xau) (Xab:Xas) (XcE:Xc6) (Xf1:Xga):List (Nat×XbS):=[(29,s29 XeT),(30,s30 Xaw),(28,s28 Xac Xad Xab),(31,s31 XcE),(32,s32 Xf1)]
theorem XzE (XeT:Xft) (Xaw:Xbn) (Xac:Xat) (Xad:Xau) (Xab:Xas) (XcE:Xc6) (Xf1:Xga) (hS:Xaq Tryz.prog (XaL (XEl XeT Xaw Xac Xad Xab XcE Xf1))) (ha0:Xaj) (s:List UInt8) (res:(List UInt8)×Int×Xaj) (h:Xgw XeT Xaw Xac Xad Xab XcE Xf1 ha0 s=some res) :
 XaM Tryz.prog 10 2 ⟨⟨10,57,[(0,.pointer (some ⟨0,0,none⟩)),(1,.string ⟨⟨s⟩⟩)],[.code XA0],[],false,none⟩,[],[(0,.row false [.int .i64 ha0.id_,.int .u32 ha0.clock,.map (some 1)]),(1,.mp (vT XaA ha0.cookies))],2⟩ (fun v H _=>Res 2 (XwH res) v H):=by
 unfold Xgw at h
 have R1:=@XmI Xac Xad Xab
 have R2:=@XF6 XeT
 have R3:=@Xq4 Xaw
 have R4:=@XCK XcE
 have R5:=@XOi Xf1
 refine Xbp XaP hS true 3000 ?_
 conv=>whnf
 exact W
def s10 (g0:XbQ) (g1:XbB):XbS:=⟨[.tr [⟨none,0,0,0,none⟩,⟨some 0,2,0,3,none⟩],.v],orD (XDq g0) (XDZ g1)⟩
theorem XCV {g0:XbQ} {g1:XbB} {y1:List UInt8} {x:(List UInt8)×Int} (hx:g0 y1=some x):(s10 g0 g1).run [.pointer none,.string ⟨⟨y1⟩⟩] [none,none]=some (Xwu x):=XrM (a:=XDq g0) (b:=XDZ g1) (XKy hx)
theorem XwT {g0:XbQ} {g1:XbB} {y0:Xaj} {y1:List UInt8} {x:(List UInt8)×Int×Xaj} (hx:g1 y0 y1=some x):(s10 g0 g1).run [.pointer (some ⟨0,0,none⟩),.string ⟨⟨y1⟩⟩] [some [.int .i64 y0.id_,.int .u32 y0.clock,.map (some 1)],some (vT XaA y0.cookies)]=some (XwH x):=Xqi (a:=XDq g0) (b:=XDZ g1) rfl (XLv hx)
def Xa4:XbQ:=Xh5 XeT Xac Xad Xab
def XaK:XbB:=Xgw XeT Xaw Xac Xad Xab XcE Xf1
theorem XQ6:Xb8 Tryz.prog 10 (s10 Xa4 XaK):=by
 have L0:=XA8 XeT Xac Xad Xab (Xaq.XaY ⟨XHv,Xk7,trivial⟩)
 have L1:=XzE XeT Xaw Xac Xad Xab XcE Xf1 (Xaq.XaY ⟨XHv,XrH,Xk7,XSe,XSf,trivial⟩)
 exact okA ⟨Tryz.f10,rfl,by decide,rfl⟩
def XgS (Xac:Xat) (Xad:Xau) (Xab:Xas) (t:Xag):Option (Int×Bool):=
 (Xac).bind fun n=>
 cond (!n)
  (
  some ((0,false)))
  (
  none)
def Xvw (x:Int×Bool):Xc2:=⟨.tuple ⟨[.int .u64 x.1,.bool x.2]⟩,[],[none,none]⟩
abbrev XaD:=Xag→Option (Int×Bool)
def Xzh (g:XaD):Dec:=dNl 2<|dV XdQ fun (y1:Xag)=>XdT (ofG (g y1) Xvw)
theorem XMt {g:XaD} {y1:Xag} {x:Int×Bool} (hx:g y1=some x):Xzh g [.pointer none,.agg ⟨[.int .i64 y1.Proto,.bool y1.Src.V6,.int .u64 y1.Src.Hi,.int .u64 y1.Src.Lo,.bool y1.Dst.V6,.int .u64 y1.Dst.Hi,.int .u64 y1.Dst.Lo,.int .i64 y1.SPort,.int .i64 y1.DPort]⟩] [none,none]=some (Xvw x):=(Xy0).trans ((Xbb (XdX _)).trans (Xa7 hx))
abbrev XD5 (Xac:Xat) (Xad:Xau) (Xab:Xas):List (Nat×XbS):=[(28,s28 Xac Xad Xab)]
theorem XzL (Xac:Xat) (Xad:Xau) (Xab:Xas) (hS:Xaq Tryz.prog (XaL (XD5 Xac Xad Xab))) (t:Xag) (res:Int×Bool) (h:XgS Xac Xad Xab t=some res) :
 XaM Tryz.prog 17 2 ⟨⟨17,22,[(0,.pointer none),(1,.agg ⟨[.int .i64 t.Proto,.bool t.Src.V6,.int .u64 t.Src.Hi,.int .u64 t.Src.Lo,.bool t.Dst.V6,.int .u64 t.Dst.Hi,.int .u64 t.Dst.Lo,.int .i64 t.SPort,.int .i64 t.DPort]⟩)],[.code XvM],[],false,none⟩,[],[],2⟩ (fun v H _=>Res 2 (Xvw res) v H):=by
 unfold XgS at h
 have R1:=@Xpe Xac Xad Xab
 refine Xbp XaP hS true 3000 ?_
 conv=>whnf
 exact W
def XgR (Xac:Xat) (Xad:Xau) (Xab:Xas) (ha0:XbJ) (t:Xag):Option (Int×Bool):=
 (Xad (XbJ.mk ha0.id_ ha0.clock NilMap.mk)).bind fun x0=>
 cond (!x0)
  (
  some ((0,false)))
  (
  some ((0,false)))
def XvG (x:Int×Bool):Xc2:=⟨.tuple ⟨[.int .u64 x.1,.bool x.2]⟩,[],[none,none]⟩
abbrev XaC:=XbJ→Xag→Option (Int×Bool)
def XuR (g:XaC):Dec:=dTr 2 (XfF 0) fun (y0:XbJ)=>dV XdQ fun (y1:Xag)=>XdT (ofG (g y0 y1) XvG)
theorem XLE {g:XaC} {y0:XbJ} {y1:Xag} {x:Int×Bool} (hx:g y0 y1=some x):XuR g [.pointer (some ⟨0,0,none⟩),.agg ⟨[.int .i64 y1.Proto,.bool y1.Src.V6,.int .u64 y1.Src.Hi,.int .u64 y1.Src.Lo,.bool y1.Dst.V6,.int .u64 y1.Dst.Hi,.int .u64 y1.Dst.Lo,.int .i64 y1.SPort,.int .i64 y1.DPort]⟩] [some [.int .i64 y0.id_,.int .u32 y0.clock,.map none],none]=some (XvG x):=(XhS rfl rfl (Xim 0 _)).trans ((Xbb (XdX _)).trans (Xa7 hx))
abbrev XBA (Xac:Xat) (Xad:Xau) (Xab:Xas):List (Nat×XbS):=[(28,s28 Xac Xad Xab)]
theorem XAp (Xac:Xat) (Xad:Xau) (Xab:Xas) (hS:Xaq Tryz.prog (XaL (XBA Xac Xad Xab))) (ha0:XbJ) (t:Xag) (res:Int×Bool) (h:XgR Xac Xad Xab ha0 t=some res) :
 XaM Tryz.prog 17 2 ⟨⟨17,22,[(0,.pointer (some ⟨0,0,none⟩)),(1,.agg ⟨[.int .i64 t.Proto,.bool t.Src.V6,.int .u64 t.Src.Hi,.int .u64 t.Src.Lo,.bool t.Dst.V6,.int .u64 t.Dst.Hi,.int .u64 t.Dst.Lo,.int .i64 t.SPort,.int .i64 t.DPort]⟩)],[.code XvM],[],false,none⟩,[],[(0,.row false [.int .i64 ha0.id_,.int .u32 ha0.clock,.map none])],2⟩ (fun v H _=>Res 2 (XvG res) v H):=by
 unfold XgR at h
 have R1:=@Xvv Xac Xad Xab
 refine Xbp XaP hS true 3000 ?_
 conv=>whnf
 exact W
def Xg0 (Xac:Xat) (Xad:Xau) (Xab:Xas) (ha0:Xaj) (t:Xag):Option (Int×Bool×Xaj):=
 (Xab ha0).bind fun x1=>
 cond (!x1.1)
  (
  some ((0,false,Xaj.mk ha0.id_ ha0.clock x1.2.cookies)))
  (
  some ((Xaz 0 t x1.2.cookies,Xa6 t x1.2.cookies,Xaj.mk ha0.id_ ha0.clock x1.2.cookies)))
def XvT (x:Int×Bool×Xaj):Xc2:=⟨.tuple ⟨[.int .u64 x.1,.bool x.2.1]⟩,[],[none,some (.float .f64 0::vT XaA x.2.2.cookies)]⟩
abbrev Xay:=Xaj→Xag→Option (Int×Bool×Xaj)
def XuI (g:Xay):Dec:=dTr 2 (Xd5 0) fun (y0:Xaj)=>dV XdQ fun (y1:Xag)=>XdT (ofG (g y0 y1) XvT)
theorem XMD {g:Xay} {y0:Xaj} {y1:Xag} {x:Int×Bool×Xaj} (hx:g y0 y1=some x):XuI g [.pointer (some ⟨0,0,none⟩),.agg ⟨[.int .i64 y1.Proto,.bool y1.Src.V6,.int .u64 y1.Src.Hi,.int .u64 y1.Src.Lo,.bool y1.Dst.V6,.int .u64 y1.Dst.Hi,.int .u64 y1.Dst.Lo,.int .i64 y1.SPort,.int .i64 y1.DPort]⟩] [some [.int .i64 y0.id_,.int .u32 y0.clock,.map (some 1)],some (vT XaA y0.cookies)]=some (XvT x):=(XhS rfl rfl (XeE 0 _)).trans ((Xbb (XdX _)).trans (Xa7 hx))
abbrev XCq (Xac:Xat) (Xad:Xau) (Xab:Xas):List (Nat×XbS):=[(28,s28 Xac Xad Xab)]
theorem Xy6 (Xac:Xat) (Xad:Xau) (Xab:Xas) (hS:Xaq Tryz.prog (XaL (XCq Xac Xad Xab))) (ha0:Xaj) (t:Xag) (res:Int×Bool×Xaj) (h:Xg0 Xac Xad Xab ha0 t=some res) :
 XaM Tryz.prog 17 2 ⟨⟨17,22,[(0,.pointer (some ⟨0,0,none⟩)),(1,.agg ⟨[.int .i64 t.Proto,.bool t.Src.V6,.int .u64 t.Src.Hi,.int .u64 t.Src.Lo,.bool t.Dst.V6,.int .u64 t.Dst.Hi,.int .u64 t.Dst.Lo,.int .i64 t.SPort,.int .i64 t.DPort]⟩)],[.code XvM],[],false,none⟩,[],[(0,.row false [.int .i64 ha0.id_,.int .u32 ha0.clock,.map (some 1)]),(1,.mp (vT XaA ha0.cookies))],2⟩ (fun v H _=>Res 2 (XvT res) v H):=by
 unfold Xg0 at h
 refine Xbp XaP hS true 3000 ?_
 conv=>whnf
 replace h:=Xcm.elim h;obtain ⟨x1,hy,h⟩:=h
 refine XeC.a (XmI hy) ?_
 conv=>whnf
 refine br.h h (by rfl) ?_ ?_
 ·clear h;intro hb h;conv=>whnf
  exact W
 clear h;intro hb h;conv=>whnf
 refine ⟨.int .u64 (Xaz 0 t x1.2.cookies),Xa6 t x1.2.cookies,Xew.get _ t x1.2.cookies,?_⟩
 conv=>whnf
 exact W
def s17 (g0:XaD) (g1:XaC) (g2:Xay):XbS:=⟨[.tr [⟨none,0,0,0,none⟩,⟨some 0,2,0,3,none⟩],.v],orD (Xzh g0) (orD (XuR g1) (XuI g2))⟩
theorem XEY {g0:XaD} {g1:XaC} {g2:Xay} {y1:Xag} {x:Int×Bool} (hx:g0 y1=some x):(s17 g0 g1 g2).run [.pointer none,.agg ⟨[.int .i64 y1.Proto,.bool y1.Src.V6,.int .u64 y1.Src.Hi,.int .u64 y1.Src.Lo,.bool y1.Dst.V6,.int .u64 y1.Dst.Hi,.int .u64 y1.Dst.Lo,.int .i64 y1.SPort,.int .i64 y1.DPort]⟩] [none,none]=some (Xvw x):=XrM (a:=Xzh g0) (b:=orD (XuR g1) (XuI g2)) (XMt hx)
theorem XwA {g0:XaD} {g1:XaC} {g2:Xay} {y0:XbJ} {y1:Xag} {x:Int×Bool} (hx:g1 y0 y1=some x):(s17 g0 g1 g2).run [.pointer (some ⟨0,0,none⟩),.agg ⟨[.int .i64 y1.Proto,.bool y1.Src.V6,.int .u64 y1.Src.Hi,.int .u64 y1.Src.Lo,.bool y1.Dst.V6,.int .u64 y1.Dst.Hi,.int .u64 y1.Dst.Lo,.int .i64 y1.SPort,.int .i64 y1.DPort]⟩] [some [.int .i64 y0.id_,.int .u32 y0.clock,.map none],none]=some (XvG x):=Xqi (a:=Xzh g0) (b:=orD (XuR g1) (XuI g2)) rfl (XrM (a:=XuR g1) (b:=XuI g2) (XLE hx))
theorem Xks {g0:XaD} {g1:XaC} {g2:Xay} {y0:Xaj} {y1:Xag} {x:Int×Bool×Xaj} (hx:g2 y0 y1=some x):(s17 g0 g1 g2).run [.pointer (some ⟨0,0,none⟩),.agg ⟨[.int .i64 y1.Proto,.bool y1.Src.V6,.int .u64 y1.Src.Hi,.int .u64 y1.Src.Lo,.bool y1.Dst.V6,.int .u64 y1.Dst.Hi,.int .u64 y1.Dst.Lo,.int .i64 y1.SPort,.int .i64 y1.DPort]⟩] [some [.int .i64 y0.id_,.int .u32 y0.clock,.map (some 1)],some (vT XaA y0.cookies)]=some (XvT x):=Xqi (a:=Xzh g0) (b:=orD (XuR g1) (XuI g2)) rfl (Xqi (a:=XuR g1) (b:=XuI g2) rfl (XMD hx))
def Xan:XaD:=XgS Xac Xad Xab
def Xal:XaC:=XgR Xac Xad Xab
def Xai:Xay:=Xg0 Xac Xad Xab
theorem Xte:Xb8 Tryz.prog 17 (s17 Xan Xal Xai):=by
 have L0:=XzL Xac Xad Xab (Xaq.XaY ⟨Xk7,trivial⟩)
 have L1:=XAp Xac Xad Xab (Xaq.XaY ⟨Xk7,trivial⟩)
 have L2:=Xy6 Xac Xad Xab (Xaq.XaY ⟨Xk7,trivial⟩)
 exact okA ⟨Tryz.f17,rfl,by decide,rfl⟩
end Go.Vm.Code
