import Derived.Test.YtiknkhbngadaeaaGreatNStampPacketd
namespace Go.Vm.Code
open Go Go.Vm Go.Proofs
set_option maxRecDepth 100000
set_option maxHeartbeats 4000000
set_option linter.unusedVariables false
def Xjl (Xaj:(List UInt8)→Int→Int→Option Int) (Xa9:(List UInt8)→Option Int) (XaR:Xab→Xab→Int→Int→Option (List UInt8)) (XbG:(List UInt8)→Option ((List XbA)×Int)) (s:List UInt8) (src:Xab) (dst:Xab):Option (Xas×(List UInt8)×Int):=
 cond (decide ((s.length:Int)<20))
  (
  some ((Xas.mk 0 0 0 0 0 0 0 [],[],2)))
  (
  (s[12]?).bind fun (b:UInt8)=>
  let t:=wI .i64 (wI .u8 ((b.toNat:Int).tdiv 16))
  cond (decide ((wI .i64 (4*t))<20))
   (
   some ((Xas.mk 0 0 0 0 0 0 0 [],[],3)))
   (
   (s[12]?).bind fun (b1:UInt8)=>
   cond (((b1.toNat:Int).tmod 16) !=0)
    (
    some ((Xas.mk 0 0 0 0 0 0 0 [],[],3)))
    (
    let t1:=decide ((s.length:Int)<(wI .i64 (4*t)))
    cond (t1)
     (
     some ((Xas.mk 0 0 0 0 0 0 0 [],[],2)))
     (
     (XaR src dst 6 (s.length:Int)).bind fun p=>
     cond (p==[])
      (
      some ((Xas.mk 0 0 0 0 0 0 0 [],[],1)))
      (
      XaE (decide (p.length+s.length<2^63)) <|
      (Xa9 (p++s)).bind fun s1=>
      cond (s1 !=65535)
       (
       some ((Xas.mk 0 0 0 0 0 0 0 [],[],4)))
       (
       XaE (decide ((0:Int)≤(wI .i64 (4*t))∧(wI .i64 (4*t))≤(s.length:Int)∧(0:Int)≤(20:Int)∧(20:Int)≤((wI .i64 (4*t)).toNat:Int))) <|
       let t2:=(s.drop 20).take ((wI .i64 (4*t)).toNat - 20)
       (XbG t2).bind fun l=>
       cond (l.2 !=0)
        (
        some ((Xas.mk 0 0 0 0 0 0 0 [],[],l.2)))
        (
        (Xaj s 0 2).bind fun m=>
        (Xaj s 2 2).bind fun m1=>
        (Xaj s 4 4).bind fun m2=>
        (Xaj s 8 4).bind fun m3=>
        (s[13]?).bind fun (b2:UInt8)=>
        (Xaj s 14 2).bind fun m4=>
        (Xaj s 18 2).bind fun m5=>
        XaE (decide ((0:Int)≤(wI .i64 (4*t))∧(wI .i64 (4*t))≤(s.length:Int)∧(0:Int)≤(20:Int)∧(20:Int)≤((wI .i64 (4*t)).toNat:Int))) <|
        let t3:=(s.drop 20).take ((wI .i64 (4*t)).toNat - 20)
        XaE (decide ((0:Int)≤(wI .i64 (4*t))∧(wI .i64 (4*t))≤(s.length:Int))) <|
        let t4:=(s.drop (wI .i64 (4*t)).toNat).take (s.length - (wI .i64 (4*t)).toNat)
        some ((Xas.mk m m1 (wI .u32 m2) (wI .u32 m3) (wI .i64 (b2.toNat:Int)) m4 m5 t3,t4,0)))))))))
def rx57 (x:Xas×(List UInt8)×Int):Xcw:=⟨.tuple ⟨[.agg ⟨[.int .i64 x.1.SPort,.int .i64 x.1.DPort,.int .u32 x.1.Seq,.int .u32 x.1.Ack,.int .i64 x.1.Flags,.int .i64 x.1.Window,.int .i64 x.1.Urgent,.string ⟨⟨x.1.Options⟩⟩]⟩,.string ⟨⟨x.2.1⟩⟩,.int .i64 x.2.2]⟩,[],[]⟩
def r57 (g:(List UInt8)→Xab→Xab→Option (Xas×(List UInt8)×Int)):Dec:=dV asS fun (y0:List UInt8)=>dV XbN fun (y1:Xab)=>dV XbN fun (y2:Xab)=>Xdd (ofG (g y0 y1 y2) rx57)
theorem r57_c {g:(List UInt8)→Xab→Xab→Option (Xas×(List UInt8)×Int)} {y0:List UInt8} {y1:Xab} {y2:Xab} {x:Xas×(List UInt8)×Int} (hx:g y0 y1 y2=some x):r57 g [.string ⟨⟨y0⟩⟩,.agg ⟨[.bool y1.V6,.int .u64 y1.Hi,.int .u64 y1.Lo]⟩,.agg ⟨[.bool y2.V6,.int .u64 y2.Hi,.int .u64 y2.Lo]⟩] []=some (rx57 x):=(XaX (XcI)).trans ((XaX (XbC _)).trans ((XaX (XbC _)).trans (Xa3 hx)))
def s57 (g:(List UInt8)→Xab→Xab→Option (Xas×(List UInt8)×Int)):Xbu:=⟨[.v,.v,.v],r57 g⟩
theorem XIT {g:(List UInt8)→Xab→Xab→Option (Xas×(List UInt8)×Int)} {y0:List UInt8} {y1:Xab} {y2:Xab} {x:Xas×(List UInt8)×Int} (hx:g y0 y1 y2=some x):(s57 g).run [.string ⟨⟨y0⟩⟩,.agg ⟨[.bool y1.V6,.int .u64 y1.Hi,.int .u64 y1.Lo]⟩,.agg ⟨[.bool y2.V6,.int .u64 y2.Hi,.int .u64 y2.Lo]⟩] []=some (rx57 x):=r57_c hx
abbrev XBy (Xaj:(List UInt8)→Int→Int→Option Int) (Xa9:(List UInt8)→Option Int) (XaR:Xab→Xab→Int→Int→Option (List UInt8)) (XbG:(List UInt8)→Option ((List XbA)×Int)):List (Nat×Xbu):=[(44,s44 Xaj),(100,XCq Xa9),(95,s95 XaR),(101,XLl XbG)]
theorem XF9 (Xaj:(List UInt8)→Int→Int→Option Int) (Xa9:(List UInt8)→Option Int) (XaR:Xab→Xab→Int→Int→Option (List UInt8)) (XbG:(List UInt8)→Option ((List XbA)×Int)) (hS:Xah Tryz.prog (Xav (XBy Xaj Xa9 XaR XbG))) (s:List UInt8) (src:Xab) (dst:Xab) (res:Xas×(List UInt8)×Int) (h:Xjl Xaj Xa9 XaR XbG s src dst=some res) :
 XaK Tryz.prog 57 0 ⟨⟨57,85,[(0,.string ⟨⟨s⟩⟩),(1,.agg ⟨[.bool src.V6,.int .u64 src.Hi,.int .u64 src.Lo]⟩),(2,.agg ⟨[.bool dst.V6,.int .u64 dst.Hi,.int .u64 dst.Lo]⟩)],[.code XBB],[],false,none⟩,[],[],0⟩ (fun v H _=>Res 0 (rx57 res) v H):=by
 unfold Xjl at h
 refine Xbi Xan hS true 3000 ?_
 conv=>whnf
 refine br.h h (by rfl) ?_ ?_
 ·clear h;intro hb h;conv=>whnf
  all_goals (cases h;exact Res.y)
 clear h;intro hb h;conv=>whnf
 replace h:=Xai.elim h;obtain ⟨b,hy,h⟩:=h
 refine rdS.intro hy ?_
 conv=>whnf
 let t:Int:=wI .i64 (wI .u8 ((b.toNat:Int).tdiv 16))
 refine br.h h (by rfl) ?_ ?_
 ·clear h;intro hb h;conv=>whnf
  all_goals (cases h;exact Res.y)
 clear h;intro hb h;conv=>whnf
 replace h:=Xai.elim h;obtain ⟨b1,hy,h⟩:=h
 refine rdS.intro hy ?_
 conv=>whnf
 refine br.h h (by rfl) ?_ ?_
 ·clear h;intro hb h;conv=>whnf
  all_goals (cases h;exact Res.y)
 clear h;intro hb h;conv=>whnf
 let t1:Bool:=decide ((s.length:Int)<(wI .i64 (4*t)))
 refine br.h h (by rfl) ?_ ?_
 ·clear h;intro hb h;conv=>whnf
  all_goals (cases h;exact Res.y)
 clear h;intro hb h;conv=>whnf
 replace h:=Xai.elim h;obtain ⟨p,hy,h⟩:=h
 refine XaJ.p (XuN hy) ?_
 conv=>whnf
 refine br.h h (by rfl) ?_ ?_
 ·clear h;intro hb h;conv=>whnf
  all_goals (cases h;exact Res.y)
 clear h;intro hb h;conv=>whnf
 replace h:=XaE.elim h;obtain ⟨hb,h⟩:=h
 try (refine req.intro hb ?_;conv=>whnf)
 replace h:=Xai.elim h;obtain ⟨s1,hy,h⟩:=h
 refine XaJ.p (XnR hy) ?_
 conv=>whnf
 refine br.h h (by rfl) ?_ ?_
 ·clear h;intro hb h;conv=>whnf
  all_goals (cases h;exact Res.y)
 clear h;intro hb h;conv=>whnf
 replace h:=XaE.elim h;obtain ⟨hb,h⟩:=h
 try (refine req.intro hb ?_;conv=>whnf)
 let t2:List UInt8:=(s.drop 20).take ((wI .i64 (4*t)).toNat - 20)
 replace h:=Xai.elim h;obtain ⟨l,hy,h⟩:=h
 refine XaJ.Xbe [] (Xaw (aqs:=[.string ⟨⟨t2⟩⟩]) (ws:=[]) (n:=1) (m:=0) (t':=4) (Xau rfl rfl Xbg) rfl (by rfl) (XvU hy) rfl rfl rfl rfl Xbf (Xhw (Xqm Xcs) Xbc) rfl) ?_
 conv=>whnf
 refine br.h h (by rfl) ?_ ?_
 ·clear h;intro hb h;conv=>whnf
  all_goals (cases h;exact Res.y)
 clear h;intro hb h;conv=>whnf
 replace h:=Xai.elim h;obtain ⟨m,hy,h⟩:=h
 refine XaJ.p (XeO hy) ?_
 conv=>whnf
 replace h:=Xai.elim h;obtain ⟨m1,hy,h⟩:=h
 refine XaJ.p (XeO hy) ?_
 conv=>whnf
 replace h:=Xai.elim h;obtain ⟨m2,hy,h⟩:=h
 refine XaJ.p (XeO hy) ?_
 conv=>whnf
 replace h:=Xai.elim h;obtain ⟨m3,hy,h⟩:=h
 refine XaJ.p (XeO hy) ?_
 conv=>whnf
 replace h:=Xai.elim h;obtain ⟨b2,hy,h⟩:=h
 refine rdS.intro hy ?_
 conv=>whnf
 replace h:=Xai.elim h;obtain ⟨m4,hy,h⟩:=h
 refine XaJ.p (XeO hy) ?_
 conv=>whnf
 replace h:=Xai.elim h;obtain ⟨m5,hy,h⟩:=h
 refine XaJ.p (XeO hy) ?_
 conv=>whnf
 replace h:=XaE.elim h;obtain ⟨hb,h⟩:=h
 try (refine req.intro hb ?_;conv=>whnf)
 let t3:List UInt8:=(s.drop 20).take ((wI .i64 (4*t)).toNat - 20)
 replace h:=XaE.elim h;obtain ⟨hb,h⟩:=h
 try (refine req.intro hb ?_;conv=>whnf)
 let t4:List UInt8:=(s.drop (wI .i64 (4*t)).toNat).take (s.length - (wI .i64 (4*t)).toNat)
 all_goals (cases h;exact Res.y)
theorem ok57 (Xaj:(List UInt8)→Int→Int→Option Int) (Xa9:(List UInt8)→Option Int) (XaR:Xab→Xab→Int→Int→Option (List UInt8)) (XbG:(List UInt8)→Option ((List XbA)×Int)) (hS:Xah Tryz.prog (Xav (XBy Xaj Xa9 XaR XbG))):Xar Tryz.prog 57 (s57 (Xjl Xaj Xa9 XaR XbG)):=by
 refine Xar.Xax Xan (fun ar os r ha hr=>?_) ⟨Tryz.f57,rfl,by decide,rfl⟩
 replace hr:r57 (Xjl Xaj Xa9 XaR XbG) ar (XaH os)=some r:=hr
 unfold r57 at hr
 generalize hc:XaH os=C at hr
 replace hr:=dV.elim hr;obtain ⟨v0,l1,y0,rfl,e0,hr⟩:=hr;obtain rfl:=XbM _ _ e0
 replace hr:=dV.elim hr;obtain ⟨v1,l2,y1,rfl,e1,hr⟩:=hr;obtain rfl:=Xbr _ _ e1
 replace hr:=dV.elim hr;obtain ⟨v2,l3,y2,rfl,e2,hr⟩:=hr;obtain rfl:=Xbr _ _ e2
 replace hr:=Xdw hr;obtain ⟨rfl,rfl,x,h,rfl⟩:=hr
 obtain rfl:=Xat hc
 exact ⟨_,rfl,XF9 Xaj Xa9 XaR XbG hS _ _ _ x h⟩
def Xet:(List UInt8)→Xab→Xab→Option (Xas×(List UInt8)×Int):=Xjl Xaj Xa9 XaR XbG
theorem XGZ:Xar Tryz.prog 57 (s57 Xet):=ok57 Xaj Xa9 XaR XbG (Xah.Xa0 ⟨Xma,Xn0,XtF,Xtm,trivial⟩)
end Go.Vm.Code
namespace Go.Vm.Code
open Go Go.Vm
def Xnb:Xas:=⟨0,0,0,0,0,0,0,[]⟩
def Xfm (s:List UInt8) (src dst:Xab):Xas×List UInt8×Int:=
 if s.length<20 then (Xnb,[],2) else if 4*(vK s 12 1/16)<20 then (Xnb,[],3) else if vK s 12 1%16≠0 then (Xnb,[],3) else if (s.length:Int)<4*(vK s 12 1/16) then (Xnb,[],2) else
  if Xlw src dst 6 s.length=[] then (Xnb,[],1) else if norm (Xdp (Xlw src dst 6 s.length++s))≠65535 then (Xnb,[],4) else
   if (Xi4 ((s.drop 20).take ((4*(vK s 12 1/16)).toNat - 20))).2≠0 then (Xnb,[],(Xi4 ((s.drop 20).take ((4*(vK s 12 1/16)).toNat - 20))).2) else
   (⟨vK s 0 2,vK s 2 2,vK s 4 4,vK s 8 4,vK s 13 1,vK s 14 2,vK s 18 2,(s.drop 20).take ((4*(vK s 12 1/16)).toNat - 20)⟩,s.drop (4*(vK s 12 1/16)).toNat,0)
theorem XsG {s:List UInt8} {n:Nat} (hs:s.length<2^38) (h20:20≤n) (hn:n≤s.length):Xcd s (n:Int)=some ⟨vK s 0 2,vK s 2 2,vK s 4 4,vK s 8 4,vK s 13 1,vK s 14 2,vK s 18 2,(s.drop 20).take (n - 20)⟩:=by
 unfold Xcd XfZ
 have N:∀ (p k:Nat),1≤k→k≤7→p+k≤20→Xad ⟨s.drop p,true,false⟩ (k:Int)=some (vK s p k,⟨s.drop (p+k),true,false⟩):=fun p k a b c=>Xzv a b (by omega) (by omega)
 have N0:Xad ⟨s,true,false⟩ 2=some (vK s 0 2,⟨s.drop 2,true,false⟩):=N 0 2 (by omega) (by omega) (by omega)
 have N2:Xad ⟨s.drop 2,true,false⟩ 2=some (vK s 2 2,⟨s.drop 4,true,false⟩):=N 2 2 (by omega) (by omega) (by omega)
 have N4:Xad ⟨s.drop 4,true,false⟩ 4=some (vK s 4 4,⟨s.drop 8,true,false⟩):=N 4 4 (by omega) (by omega) (by omega)
 have N8:Xad ⟨s.drop 8,true,false⟩ 4=some (vK s 8 4,⟨s.drop 12,true,false⟩):=N 8 4 (by omega) (by omega) (by omega)
 have N12:Xad ⟨s.drop 12,true,false⟩ 2=some (vK s 12 2,⟨s.drop 14,true,false⟩):=N 12 2 (by omega) (by omega) (by omega)
 have N14:Xad ⟨s.drop 14,true,false⟩ 2=some (vK s 14 2,⟨s.drop 16,true,false⟩):=N 14 2 (by omega) (by omega) (by omega)
 have N16:Xad ⟨s.drop 16,true,false⟩ 2=some (vK s 16 2,⟨s.drop 18,true,false⟩):=N 16 2 (by omega) (by omega) (by omega)
 have N18:Xad ⟨s.drop 18,true,false⟩ 2=some (vK s 18 2,⟨s.drop 20,true,false⟩):=N 18 2 (by omega) (by omega) (by omega)
 have r4:=XdE s 4 4 4294967296 (by decide)
 have r8:=XdE s 8 4 4294967296 (by decide)
 have r12:=XdE s 12 2 65536 (by decide)
 rw [Xms,Option.bind_some,N0,Option.bind_some]
 simp only []
 rw [N2,Option.bind_some]
 simp only []
 rw [N4,Option.bind_some]
 simp only []
 rw [N8,Option.bind_some]
 simp only []
 rw [N12,Option.bind_some]
 simp only []
 rw [N14,Option.bind_some]
 simp only []
 rw [N16,Option.bind_some]
 simp only []
 rw [N18,Option.bind_some]
 simp only []
 rw [XcC (n:=(n:Int) - 20) (by omega) (by omega),show (n:Int) - 20=((n - 20:Nat):Int) by omega,Xob (by omega),Option.bind_some,Xpv r4.1 r4.2,Xpv r8.1 r8.2,Xg7 8 (by decide) (by omega) (by omega) (by omega)]
 have e12:vK s 12 2=(s[12].toNat*256+s[13].toNat:Int):=XuO (s:=s) (p:=12) (by omega)
 have e13:=XiH (s:=s) (p:=13) (by omega)
 have b13:=s[13].toNat_lt
 rw [show vK s 12 2%2^8=vK s 13 1 by rw [e12,e13];omega]
theorem and15:∀ x:Fin 256,Xjp .u8 ((x.val:Nat):Int) 15=((x.val:Nat):Int)%16:=by decide +kernel
theorem Xy7 {s:List UInt8} {src dst:Xab} (h1:A4 src) (h2:A4 dst) (hs:s.length<2^19):Xev s src dst=some (Xfm s src dst):=by
 unfold Xev Xjb Xfm
 have hz:(⟨0,0,0,0,0,0,0,[]⟩:Xas)=Xnb:=rfl
 rw [hz]
 by_cases h0:s.length<20
 ·rw [XaZ (by omega),if_pos h0]
 rw [XaO (by omega),if_neg h0,List.getElem?_eq_getElem (show 12<s.length by omega)]
 have e12:=XiH (s:=s) (p:=12) (by omega)
 have r12:=XdE s 12 1 256 (by decide)
 have hb:=s[12].toNat_lt
 simp only [Option.bind_some]
 rw [←e12,Xpb,show ((2:Int)^4)=16 from rfl,XcC (n:=vK s 12 1/16) (by omega) (by omega),XcC (n:=4*(vK s 12 1/16)) (by omega) (by omega)]
 have ea:Xjp .u8 (vK s 12 1) 15=vK s 12 1%16:=by
  rw [e12];exact and15 ⟨s[12].toNat,hb⟩
 rw [ea]
 obtain ⟨t,ht⟩:=Int.eq_ofNat_of_zero_le (show 0≤4*(vK s 12 1/16) by omega)
 rw [ht]
 simp only [Int.toNat_natCast]
 by_cases g2:(t:Int)<20
 ·rw [XaZ g2,if_pos g2]
 rw [XaO g2,if_neg g2]
 by_cases g3:vK s 12 1%16=0
 ·rw [show (vK s 12 1%16 !=0)=false by simpa using g3,cond_false,if_neg (by simpa using g3)]
  by_cases g4:(s.length:Int)<t
  ·rw [XaZ (by omega),if_pos g4]
  rw [XaO (by omega),if_neg g4,XpO h1 h2 (by omega) (by omega),Option.bind_some]
  have hp:=Xl8 src dst 6 (s.length:Int)
  generalize Xlw src dst 6 (s.length:Int)=p at *
  by_cases e3:p=[]
  ·subst e3;rfl
  rw [show (p==[])=false by simpa using e3,cond_false,if_neg e3,XaL (by omega),Xn2 (by simp only [List.length_append];omega),Option.bind_some]
  by_cases g5:norm (Xdp (p++s))=65535
  ·rw [if_neg (by simpa using g5),g5,show ((((65535:Nat):Int)==65535))=true from rfl,Bool.not_true,cond_false,XsG (by omega) (by omega) (by omega),Option.bind_some,XIl (by simp;omega),Option.bind_some]
   by_cases g6:(Xi4 ((s.drop 20).take (t - 20))).2=0
   ·rw [if_neg (by simpa using g6)]
    simp only [g6,bne_self_eq_false,cond_false]
    rw [XaL (by omega),List.take_of_length_le (i:=s.length - t) (by simp)]
   ·rw [if_pos (by simpa using g6),show ((Xi4 ((s.drop 20).take (t - 20))).2 !=0)=true by simpa using g6];rfl
  ·rw [if_pos (by simpa using g5),show ((((norm (Xdp (p++s)):Nat):Int)==65535))=false by simp;omega];rfl
 ·rw [show (vK s 12 1%16 !=0)=true by simpa using g3,cond_true,if_pos (by simpa using g3)]
theorem Xyb {s:List UInt8} {src dst:Xab} (h1:A4 src) (h2:A4 dst) (hs:s.length<2^19):Xet s src dst=some (Xfm s src dst):=by
 unfold Xet Xjl Xfm
 have hz:(⟨0,0,0,0,0,0,0,[]⟩:Xas)=Xnb:=rfl
 rw [hz]
 by_cases h0:s.length<20
 ·rw [XaZ (by omega),if_pos h0]
 rw [XaO (by omega),if_neg h0,List.getElem?_eq_getElem (show 12<s.length by omega),List.getElem?_eq_getElem (show 13<s.length by omega)]
 have e12:=XiH (s:=s) (p:=12) (by omega)
 have e13:=XiH (s:=s) (p:=13) (by omega)
 have r12:=XdE s 12 1 256 (by decide)
 have r13:=XdE s 13 1 256 (by decide)
 have r4:=XdE s 4 4 4294967296 (by decide)
 have r8:=XdE s 8 4 4294967296 (by decide)
 simp only [Option.bind_some]
 rw [←e12,←e13,Int.tmod_eq_emod_of_nonneg r12.1,Int.tdiv_eq_ediv_of_nonneg r12.1,wU8 (n:=vK s 12 1/16) (by omega) (by omega),XcC (n:=vK s 12 1/16) (by omega) (by omega),XcC (n:=4*(vK s 12 1/16)) (by omega) (by omega),XcC (n:=vK s 13 1) (by omega) (by omega)]
 obtain ⟨t,ht⟩:=Int.eq_ofNat_of_zero_le (show 0≤4*(vK s 12 1/16) by omega)
 rw [ht]
 simp only [Int.toNat_natCast]
 by_cases g2:(t:Int)<20
 ·rw [XaZ g2,if_pos g2]
 rw [XaO g2,if_neg g2]
 by_cases g3:vK s 12 1%16=0
 ·rw [show (vK s 12 1%16 !=0)=false by simpa using g3,cond_false,if_neg (by simpa using g3)]
  by_cases g4:(s.length:Int)<t
  ·rw [XaZ (by omega),if_pos g4]
  rw [XaO (by omega),if_neg g4,Xnh h1 h2 (by omega) (by omega),Option.bind_some]
  have hp:=Xl8 src dst 6 (s.length:Int)
  generalize Xlw src dst 6 (s.length:Int)=p at *
  by_cases e3:p=[]
  ·subst e3;rfl
  rw [show (p==[])=false by simpa using e3,cond_false,if_neg e3,XaL (by omega),Xlf (by simp only [List.length_append];omega),Option.bind_some]
  by_cases g5:norm (Xdp (p++s))=65535
  ·rw [if_neg (by simpa using g5),g5,show ((((65535:Nat):Int) !=65535))=false from rfl,cond_false,XaL (by omega),XIj (by simp;omega),Option.bind_some]
   by_cases g6:(Xi4 ((s.drop 20).take (t - 20))).2=0
   ·rw [if_neg (by simpa using g6)]
    simp only [g6,bne_self_eq_false,cond_false]
    have M:∀ (p k:Nat),1≤k→k≤7→p+k≤20→Xaj s (p:Int) (k:Int)=some (vK s p k):=fun p k a b c=>Xoh (by omega) a b (by omega)
    have M0:Xaj s 0 2=some (vK s 0 2):=M 0 2 (by omega) (by omega) (by omega)
    have M2:Xaj s 2 2=some (vK s 2 2):=M 2 2 (by omega) (by omega) (by omega)
    have M4:Xaj s 4 4=some (vK s 4 4):=M 4 4 (by omega) (by omega) (by omega)
    have M8:Xaj s 8 4=some (vK s 8 4):=M 8 4 (by omega) (by omega) (by omega)
    have M14:Xaj s 14 2=some (vK s 14 2):=M 14 2 (by omega) (by omega) (by omega)
    have M18:Xaj s 18 2=some (vK s 18 2):=M 18 2 (by omega) (by omega) (by omega)
    rw [M0,M2,M4,M8,M14,M18]
    simp only [Option.bind_some]
    rw [XaL (by omega),XaL (by omega),List.take_of_length_le (i:=s.length - t) (by simp),Xpv r4.1 r4.2,Xpv r8.1 r8.2]
   ·rw [if_pos (by simpa using g6),show ((Xi4 ((s.drop 20).take (t - 20))).2 !=0)=true by simpa using g6];rfl
  ·rw [if_pos (by simpa using g5),show ((((norm (Xdp (p++s)):Nat):Int) !=65535))=true by simp;omega];rfl
 ·rw [show (vK s 12 1%16 !=0)=true by simpa using g3,cond_true,if_pos (by simpa using g3)]
end Go.Vm.Code
namespace Go.Vm.Code
open Go Go.Vm Go.Proofs
set_option maxRecDepth 100000
set_option maxHeartbeats 4000000
set_option linter.unusedVariables false
def Xe7 (Xal:(List UInt8)→Int→Int→Option (Int×Bool)) (text:List UInt8) (i:Int):Option (Sum Int (Int×Int×Int)):=
 cond (decide (i<(text.length:Int)))
  (
  XaE (decide (0≤i)) <|
  (text[i.toNat]?).bind fun (b:UInt8)=>
  cond ((b.toNat:Int)==0)
   (
   some (.inr ((0,0,(-1)))))
   (
   cond ((b.toNat:Int)==1)
    (
    some (.inl (wI .i64 (i+1))))
    (
    let t:=decide ((wI .i64 (i+1))<(text.length:Int))
    cond (t)
     (
     XaE (decide (0≤(wI .i64 (i+1)))) <|
     (text[(wI .i64 (i+1)).toNat]?).bind fun (b1:UInt8)=>
     cond (decide ((wI .i64 (b1.toNat:Int))<2))
      (
      some (.inr ((0,0,(-1)))))
      (
      let t1:=decide ((wI .i64 (b1.toNat:Int))>(wI .i64 ((text.length:Int) - i)))
      cond (t1)
       (
       some (.inr ((0,0,(-1)))))
       (
       XaE (decide (0≤i)) <|
       (text[i.toNat]?).bind fun (b2:UInt8)=>
       XaE (decide ((0:Int)≤(wI .i64 (i+(wI .i64 (b1.toNat:Int))))∧(wI .i64 (i+(wI .i64 (b1.toNat:Int))))≤(text.length:Int)∧(0:Int)≤(wI .i64 (i+2))∧(wI .i64 (i+2))≤((wI .i64 (i+(wI .i64 (b1.toNat:Int)))).toNat:Int))) <|
       let t2:=(text.drop (wI .i64 (i+2)).toNat).take ((wI .i64 (i+(wI .i64 (b1.toNat:Int)))).toNat - (wI .i64 (i+2)).toNat)
       cond ((wI .i64 (b2.toNat:Int)) !=8)
        (
        some (.inl (wI .i64 (i+(wI .i64 (b1.toNat:Int))))))
        (
        (Xal t2 0 8).bind fun xg=>
        cond (xg.2)
         (
         cond ((t2.length:Int)==8)
          (
          some (.inr ((wI .u32 (xg.1.fdiv (2^32)),wI .u32 xg.1,wI .i64 (i+2)))))
          (
          some (.inr ((0,0,(-1))))))
         (
         some (.inr ((0,0,(-1)))))))))
     (
     some (.inr ((0,0,(-1))))))))
  (
  some (.inr ((0,0,(-1)))))
def XgS (Xal:(List UInt8)→Int→Int→Option (Int×Bool)) (XbH:(List UInt8)→Option ((List XbJ)×Int)) (text:List UInt8):Option (Int×Int×Int):=
 (XbH text).bind fun l=>
 cond (l.2 !=0)
  (
  some ((0,0,(-1))))
  (
  iter (fun st=>Xe7 Xal text st) FUEL 0)
def XGv (x:Int×Int×Int):Xcw:=⟨.tuple ⟨[.int .u32 x.1,.int .u32 x.2.1,.int .i64 x.2.2]⟩,[],[]⟩
def r60 (g:(List UInt8)→Option (Int×Int×Int)):Dec:=dV asS fun (y0:List UInt8)=>Xdd (ofG (g y0) XGv)
theorem r60_c {g:(List UInt8)→Option (Int×Int×Int)} {y0:List UInt8} {x:Int×Int×Int} (hx:g y0=some x):r60 g [.string ⟨⟨y0⟩⟩] []=some (XGv x):=(XaX (XcI)).trans (Xa3 hx)
def s60 (g:(List UInt8)→Option (Int×Int×Int)):Xbu:=⟨[.v],r60 g⟩
theorem Xue {g:(List UInt8)→Option (Int×Int×Int)} {y0:List UInt8} {x:Int×Int×Int} (hx:g y0=some x):(s60 g).run [.string ⟨⟨y0⟩⟩] []=some (XGv x):=r60_c hx
abbrev Xtj (Xal:(List UInt8)→Int→Int→Option (Int×Bool)) (XbH:(List UInt8)→Option ((List XbJ)×Int)):List (Nat×Xbu):=[(40,s40 Xal),(102,XHe XbH)]
def Xjy (text:List UInt8) (i:Int):VM:=
 ⟨⟨125,62,[(0,.func (.yield 6) #[] #[]),(1,.pointer (some ⟨4,0,none⟩)),(3,.int .i64 i)],[.code XmB,.inLoop XmB,.inBlock 0],[],false,none⟩,[⟨60,46,[(2,.pointer (some ⟨0,0,none⟩)),(3,.pointer (some ⟨1,0,none⟩)),(4,.pointer (some ⟨2,0,none⟩))],[.inRangeFunc 6,.inBlock 0,.code XAg],[5],false,none⟩],[(0,.cells [.int .u32 0]),(1,.cells [.int .u32 0]),(2,.cells [.int .i64 0]),(4,.cells [.string ⟨⟨text⟩⟩]),(5,.marks),(6,.loop ⟨.ready,none,60,46,[(2,.pointer (some ⟨0,0,none⟩)),(3,.pointer (some ⟨1,0,none⟩)),(4,.pointer (some ⟨2,0,none⟩))],[19],XH9,XBf,5⟩)],7⟩
theorem XyI (Xal:(List UInt8)→Int→Int→Option (Int×Bool)) (XbH:(List UInt8)→Option ((List XbJ)×Int)) (hS:Xah Tryz.prog (Xav (Xtj Xal XbH))) (text:List UInt8) (res:Int×Int×Int):∀ fuel (st:Int) (o:Int×Int×Int),iter (fun st=>Xe7 Xal text st) fuel st=some o→(o=res) →
 XaK Tryz.prog 60 0 (Xjy text st) (fun v H _=>Res 0 (XGv res) v H):=by
 intro fuel st o h hc
 refine XbY (head:=fun st=>Xjy text st) (C:=fun o=>(o=res)) ?_ fuel st o h hc
 clear h hc o st fuel
 intro i o h hc
 replace h:Xe7 Xal text i=some o:=h
 show XaK Tryz.prog 60 0 (Xjy text i) (fun v H _=>Res 0 (XGv res) v H)
 unfold Xe7 at h
 refine Xbi Xan hS true 3000 ?_
 conv=>whnf
 refine br.h2 h (by rfl) ?_ ?_
 ·clear h;intro hb h;conv=>whnf
  all_goals (cases h;cases hc;exact Res.y)
 clear h;intro hb h;conv=>whnf
 replace h:=XaE.elim h;obtain ⟨hb,h⟩:=h
 try (refine req.intro hb ?_;conv=>whnf)
 replace h:=Xai.elim h;obtain ⟨b,hy,h⟩:=h
 refine rdS.intro hy ?_
 conv=>whnf
 refine br.h h (by rfl) ?_ ?_
 ·clear h;intro hb h;conv=>whnf
  all_goals (cases h;cases hc;exact Res.y)
 clear h;intro hb h;conv=>whnf
 refine br.h h (by rfl) ?_ ?_
 ·clear h;intro hb h;conv=>whnf
  cases h;simp only [Sum.elim_inl,Xjy] at hc
  exact Xs8 hc [(0,0),(1,1),(2,2),(4,4),(5,5),(6,6)] rfl
 clear h;intro hb h;conv=>whnf
 let t:Bool:=decide ((wI .i64 (i+1))<(text.length:Int))
 refine br.h2 h (by rfl) ?_ ?_
 ·clear h;intro hb h;conv=>whnf
  all_goals (cases h;cases hc;exact Res.y)
 clear h;intro hb h;conv=>whnf
 replace h:=XaE.elim h;obtain ⟨hb,h⟩:=h
 try (refine req.intro hb ?_;conv=>whnf)
 replace h:=Xai.elim h;obtain ⟨b1,hy,h⟩:=h
 refine rdS.intro hy ?_
 conv=>whnf
 refine br.h h (by rfl) ?_ ?_
 ·clear h;intro hb h;conv=>whnf
  all_goals (cases h;cases hc;exact Res.y)
 clear h;intro hb h;conv=>whnf
 let t1:Bool:=decide ((wI .i64 (b1.toNat:Int))>(wI .i64 ((text.length:Int) - i)))
 refine br.h h (by rfl) ?_ ?_
 ·clear h;intro hb h;conv=>whnf
  all_goals (cases h;cases hc;exact Res.y)
 clear h;intro hb h;conv=>whnf
 replace h:=XaE.elim h;obtain ⟨hb,h⟩:=h
 try (refine req.intro hb ?_;conv=>whnf)
 replace h:=Xai.elim h;obtain ⟨b2,hy,h⟩:=h
 refine rdS.intro hy ?_
 conv=>whnf
 replace h:=XaE.elim h;obtain ⟨hb,h⟩:=h
 try (refine req.intro hb ?_;conv=>whnf)
 let t2:List UInt8:=(text.drop (wI .i64 (i+2)).toNat).take ((wI .i64 (i+(wI .i64 (b1.toNat:Int)))).toNat - (wI .i64 (i+2)).toNat)
 refine br.h h (by rfl) ?_ ?_
 ·clear h;intro hb h;conv=>whnf
  cases h;simp only [Sum.elim_inl,Xjy] at hc
  exact Xs8 hc [(0,0),(1,1),(2,2),(4,4),(5,5),(6,6)] rfl
 clear h;intro hb h;conv=>whnf
 replace h:=Xai.elim h;obtain ⟨xg,hy,h⟩:=h
 refine XaJ.p (XhP hy) ?_
 conv=>whnf
 refine br.h2 h (by rfl) ?_ ?_
 ·clear h;intro hb h;conv=>whnf
  all_goals (cases h;cases hc;exact Res.y)
 clear h;intro hb h;conv=>whnf
 refine br.h h (by rfl) ?_ ?_
 ·clear h;intro hb h;conv=>whnf
  all_goals (cases h;cases hc;exact Res.y)
 clear h;intro hb h;conv=>whnf
 all_goals (cases h;cases hc;exact Res.y)
theorem XEw (Xal:(List UInt8)→Int→Int→Option (Int×Bool)) (XbH:(List UInt8)→Option ((List XbJ)×Int)) (hS:Xah Tryz.prog (Xav (Xtj Xal XbH))) (text:List UInt8) (res:Int×Int×Int) (h:XgS Xal XbH text=some res) :
 XaK Tryz.prog 60 0 ⟨⟨60,46,[(0,.string ⟨⟨text⟩⟩)],[.code Xzn],[],false,none⟩,[],[],0⟩ (fun v H _=>Res 0 (XGv res) v H):=by
 unfold XgS at h
 refine Xbi Xan hS true 3000 ?_
 conv=>whnf
 replace h:=Xai.elim h;obtain ⟨l,hy,h⟩:=h
 refine XaJ.Xbe [] (Xaw (aqs:=[.string ⟨⟨text⟩⟩]) (ws:=[]) (n:=1) (m:=0) (t':=4) (Xau rfl rfl Xbg) rfl (by rfl) (XuE hy) rfl rfl rfl rfl Xbf (Xhw (Xqm Xb6) Xbc) rfl) ?_
 conv=>whnf
 refine br.h h (by rfl) ?_ ?_
 ·clear h;intro hb h;conv=>whnf
  all_goals (cases h;exact Res.y)
 clear h;intro hb h;conv=>whnf
 have hl:=XyI Xal XbH hS _ res _ _ _ h rfl;simp only [Xjy] at hl
 exact Xs8 hl [(0,0),(1,1),(2,2),(4,4),(5,5),(6,6)] rfl
theorem ok60 (Xal:(List UInt8)→Int→Int→Option (Int×Bool)) (XbH:(List UInt8)→Option ((List XbJ)×Int)) (hS:Xah Tryz.prog (Xav (Xtj Xal XbH))):Xar Tryz.prog 60 (s60 (XgS Xal XbH)):=by
 refine Xar.Xax Xan (fun ar os r ha hr=>?_) ⟨Tryz.f60,rfl,by decide,rfl⟩
 replace hr:r60 (XgS Xal XbH) ar (XaH os)=some r:=hr
 unfold r60 at hr
 generalize hc:XaH os=C at hr
 replace hr:=dV.elim hr;obtain ⟨v0,l1,y0,rfl,e0,hr⟩:=hr;obtain rfl:=XbM _ _ e0
 replace hr:=Xdw hr;obtain ⟨rfl,rfl,x,h,rfl⟩:=hr
 obtain rfl:=Xat hc
 exact ⟨_,rfl,XEw Xal XbH hS _ x h⟩
def XaY:(List UInt8)→Option (Int×Int×Int):=XgS Xal XbH
theorem XuV:Xar Tryz.prog 60 (s60 XaY):=ok60 Xal XbH (Xah.Xa0 ⟨XnH,Xut,trivial⟩)
def Xfa (Xaj:(List UInt8)→Int→Int→Option Int) (l:(List XbA)×Int) (i:Int):Option (Sum Int (Int×Int×Int)):=
 cond (decide (i<(l.1.length:Int)))
  (
  XaE (decide ((0:Int)≤i∧i<(l.1.length:Int))) <|
  (l.1[i.toNat]?).bind fun (e:XbA)=>
  cond (e.Kind==8)
   (
   XaE (decide ((0:Int)≤i∧i<(l.1.length:Int))) <|
   cond ((e.Data.length:Int) !=8)
    (
    some (.inr ((0,0,(-1)))))
    (
    XaE (decide ((0:Int)≤i∧i<(l.1.length:Int))) <|
    (Xaj e.Data 0 4).bind fun m=>
    XaE (decide ((0:Int)≤i∧i<(l.1.length:Int))) <|
    (Xaj e.Data 4 4).bind fun m1=>
    XaE (decide ((0:Int)≤i∧i<(l.1.length:Int))) <|
    some (.inr ((wI .u32 m,wI .u32 m1,e.At)))))
   (
   some (.inl (wI .i64 (i+1)))))
  (
  some (.inr ((0,0,(-1)))))
def XgX (Xaj:(List UInt8)→Int→Int→Option Int) (XbG:(List UInt8)→Option ((List XbA)×Int)) (options:List UInt8):Option (Int×Int×Int):=
 (XbG options).bind fun l=>
 iter (fun st=>Xfa Xaj l st) FUEL 0
def XGt (x:Int×Int×Int):Xcw:=⟨.tuple ⟨[.int .u32 x.1,.int .u32 x.2.1,.int .i64 x.2.2]⟩,[],[]⟩
def r58 (g:(List UInt8)→Option (Int×Int×Int)):Dec:=dV asS fun (y0:List UInt8)=>Xdd (ofG (g y0) XGt)
theorem r58_c {g:(List UInt8)→Option (Int×Int×Int)} {y0:List UInt8} {x:Int×Int×Int} (hx:g y0=some x):r58 g [.string ⟨⟨y0⟩⟩] []=some (XGt x):=(XaX (XcI)).trans (Xa3 hx)
def s58 (g:(List UInt8)→Option (Int×Int×Int)):Xbu:=⟨[.v],r58 g⟩
theorem XGH {g:(List UInt8)→Option (Int×Int×Int)} {y0:List UInt8} {x:Int×Int×Int} (hx:g y0=some x):(s58 g).run [.string ⟨⟨y0⟩⟩] []=some (XGt x):=r58_c hx
abbrev Xte (Xaj:(List UInt8)→Int→Int→Option Int) (XbG:(List UInt8)→Option ((List XbA)×Int)):List (Nat×Xbu):=[(44,s44 Xaj),(101,XLl XbG)]
def Xkz (l:(List XbA)×Int) (i:Int):VM:=
 ⟨⟨58,51,[(5,.slice (some ⟨0,0,none⟩) l.1.length 3),(7,.int .i64 i)],[.code XvL,.inLoop XvL,.inBlock 0,.code XAF],[],false,none⟩,[],[(0,.row true (vT Xfv l.1))],1⟩
theorem Xyl (Xaj:(List UInt8)→Int→Int→Option Int) (XbG:(List UInt8)→Option ((List XbA)×Int)) (hS:Xah Tryz.prog (Xav (Xte Xaj XbG))) (l:(List XbA)×Int) (res:Int×Int×Int):∀ fuel (st:Int) (o:Int×Int×Int),iter (fun st=>Xfa Xaj l st) fuel st=some o→(o=res) →
 XaK Tryz.prog 58 0 (Xkz l st) (fun v H _=>Res 0 (XGt res) v H):=by
 intro fuel st o h hc
 refine XbY (head:=fun st=>Xkz l st) (C:=fun o=>(o=res)) ?_ fuel st o h hc
 clear h hc o st fuel
 intro i o h hc
 replace h:Xfa Xaj l i=some o:=h
 show XaK Tryz.prog 58 0 (Xkz l i) (fun v H _=>Res 0 (XGt res) v H)
 unfold Xfa at h
 refine Xbi Xan hS true 3000 ?_
 conv=>whnf
 refine br.h2 h (by rfl) ?_ ?_
 ·clear h;intro hb h;conv=>whnf
  all_goals (cases h;cases hc;exact Res.y)
 clear h;intro hb h;conv=>whnf
 replace h:=XaE.elim h;obtain ⟨hb,h⟩:=h
 try (refine req.intro hb ?_;conv=>whnf)
 replace h:=Xai.elim h;obtain ⟨e,hy,h⟩:=h
 refine rd.T (j:=0) Xdj hy (by first|omega|exact Nat.zero_add _|exact congrArg (·+_) (Nat.zero_add _)) (by decide) rfl ?_
 conv=>whnf
 refine br.h2 h (by rfl) ?_ ?_
 ·clear h;intro hb h;conv=>whnf
  cases h;simp only [Sum.elim_inl,Xkz] at hc
  exact XjC hc [(0,0)] rfl
 clear h;intro hb h;conv=>whnf
 replace h:=XaE.elim h;obtain ⟨hb,h⟩:=h
 try (refine req.intro hb ?_;conv=>whnf)
 refine rd.T (i:=i.toNat) (x:=e) (j:=1) Xdj (by assumption) (by first|omega|exact Nat.zero_add _|exact congrArg (·+_) (Nat.zero_add _)) (by decide) rfl ?_
 conv=>whnf
 refine br.h h (by rfl) ?_ ?_
 ·clear h;intro hb h;conv=>whnf
  all_goals (cases h;cases hc;exact Res.y)
 clear h;intro hb h;conv=>whnf
 replace h:=XaE.elim h;obtain ⟨hb,h⟩:=h
 try (refine req.intro hb ?_;conv=>whnf)
 refine rd.T (i:=i.toNat) (x:=e) (j:=1) Xdj (by assumption) (by first|omega|exact Nat.zero_add _|exact congrArg (·+_) (Nat.zero_add _)) (by decide) rfl ?_
 conv=>whnf
 replace h:=Xai.elim h;obtain ⟨m,hy,h⟩:=h
 refine XaJ.p (XeO hy) ?_
 conv=>whnf
 replace h:=XaE.elim h;obtain ⟨hb,h⟩:=h
 try (refine req.intro hb ?_;conv=>whnf)
 refine rd.T (i:=i.toNat) (x:=e) (j:=1) Xdj (by assumption) (by first|omega|exact Nat.zero_add _|exact congrArg (·+_) (Nat.zero_add _)) (by decide) rfl ?_
 conv=>whnf
 replace h:=Xai.elim h;obtain ⟨m1,hy,h⟩:=h
 refine XaJ.p (XeO hy) ?_
 conv=>whnf
 replace h:=XaE.elim h;obtain ⟨hb,h⟩:=h
 try (refine req.intro hb ?_;conv=>whnf)
 refine rd.T (i:=i.toNat) (x:=e) (j:=2) Xdj (by assumption) (by first|omega|exact Nat.zero_add _|exact congrArg (·+_) (Nat.zero_add _)) (by decide) rfl ?_
 conv=>whnf
 all_goals (cases h;cases hc;exact Res.y)
theorem XD4 (Xaj:(List UInt8)→Int→Int→Option Int) (XbG:(List UInt8)→Option ((List XbA)×Int)) (hS:Xah Tryz.prog (Xav (Xte Xaj XbG))) (options:List UInt8) (res:Int×Int×Int) (h:XgX Xaj XbG options=some res) :
 XaK Tryz.prog 58 0 ⟨⟨58,51,[(0,.string ⟨⟨options⟩⟩)],[.code XBD],[],false,none⟩,[],[],0⟩ (fun v H _=>Res 0 (XGt res) v H):=by
 unfold XgX at h
 refine Xbi Xan hS true 3000 ?_
 conv=>whnf
 replace h:=Xai.elim h;obtain ⟨l,hy,h⟩:=h
 refine XaJ.Xbe [] (Xaw (aqs:=[.string ⟨⟨options⟩⟩]) (ws:=[]) (n:=1) (m:=0) (t':=1) (Xau rfl rfl Xbg) rfl (by rfl) (XvU hy) rfl rfl rfl rfl Xbf (Xhw (Xqm Xcs) Xbc) rfl) ?_
 conv=>whnf
 have hl:=Xyl Xaj XbG hS _ res _ _ _ h rfl;simp only [Xkz] at hl
 exact XjC hl [(0,0)] rfl
theorem ok58 (Xaj:(List UInt8)→Int→Int→Option Int) (XbG:(List UInt8)→Option ((List XbA)×Int)) (hS:Xah Tryz.prog (Xav (Xte Xaj XbG))):Xar Tryz.prog 58 (s58 (XgX Xaj XbG)):=by
 refine Xar.Xax Xan (fun ar os r ha hr=>?_) ⟨Tryz.f58,rfl,by decide,rfl⟩
 replace hr:r58 (XgX Xaj XbG) ar (XaH os)=some r:=hr
 unfold r58 at hr
 generalize hc:XaH os=C at hr
 replace hr:=dV.elim hr;obtain ⟨v0,l1,y0,rfl,e0,hr⟩:=hr;obtain rfl:=XbM _ _ e0
 replace hr:=Xdw hr;obtain ⟨rfl,rfl,x,h,rfl⟩:=hr
 obtain rfl:=Xat hc
 exact ⟨_,rfl,XD4 Xaj XbG hS _ x h⟩
def XcF:(List UInt8)→Option (Int×Int×Int):=XgX Xaj XbG
theorem XIq:Xar Tryz.prog 58 (s58 XcF):=ok58 Xaj XbG (Xah.Xa0 ⟨Xma,Xtm,trivial⟩)
def Xgu (XbQ:Int→Int→Option (List UInt8)) (val:Int) (echo:Int):Option (List UInt8):=
 (XbQ (wI .i64 val) 4).bind fun n=>
 XaE (decide (4+n.length<2^63)) <|
 (XbQ (wI .i64 echo) 4).bind fun n1=>
 XaE (decide (([1,1,8,10]++n).length+n1.length<2^63)) <|
 some (([1,1,8,10]++n)++n1)
def rx30 (x:List UInt8):Xcw:=⟨.string ⟨⟨x⟩⟩,[],[]⟩
def r30 (g:Int→Int→Option (List UInt8)):Dec:=dV (asI .u32) fun (y0:Int)=>dV (asI .u32) fun (y1:Int)=>Xdd (ofG (g y0 y1) rx30)
theorem r30_c {g:Int→Int→Option (List UInt8)} {y0:Int} {y1:Int} {x:List UInt8} (hx:g y0 y1=some x):r30 g [.int .u32 y0,.int .u32 y1] []=some (rx30 x):=(XaX (Xcv _)).trans ((XaX (Xcv _)).trans (Xa3 hx))
def s30 (g:Int→Int→Option (List UInt8)):Xbu:=⟨[.v,.v],r30 g⟩
theorem XGJ {g:Int→Int→Option (List UInt8)} {y0:Int} {y1:Int} {x:List UInt8} (hx:g y0 y1=some x):(s30 g).run [.int .u32 y0,.int .u32 y1] []=some (rx30 x):=r30_c hx
abbrev XzW (XbQ:Int→Int→Option (List UInt8)):List (Nat×Xbu):=[(55,s55 XbQ)]
theorem XCY (XbQ:Int→Int→Option (List UInt8)) (hS:Xah Tryz.prog (Xav (XzW XbQ))) (val:Int) (echo:Int) (res:List UInt8) (h:Xgu XbQ val echo=some res) :
 XaK Tryz.prog 30 0 ⟨⟨30,13,[(0,.int .u32 val),(1,.int .u32 echo)],[.code XLD],[],false,none⟩,[],[],0⟩ (fun v H _=>Res 0 (rx30 res) v H):=by
 unfold Xgu at h
 refine Xbi Xan hS true 3000 ?_
 conv=>whnf
 replace h:=Xai.elim h;obtain ⟨n,hy,h⟩:=h
 refine XaJ.p (XiO hy) ?_
 conv=>whnf
 replace h:=XaE.elim h;obtain ⟨hb,h⟩:=h
 try (refine req.intro hb ?_;conv=>whnf)
 replace h:=Xai.elim h;obtain ⟨n1,hy,h⟩:=h
 refine XaJ.p (XiO hy) ?_
 conv=>whnf
 replace h:=XaE.elim h;obtain ⟨hb,h⟩:=h
 try (refine req.intro hb ?_;conv=>whnf)
 all_goals (cases h;exact Res.y)
theorem ok30 (XbQ:Int→Int→Option (List UInt8)) (hS:Xah Tryz.prog (Xav (XzW XbQ))):Xar Tryz.prog 30 (s30 (Xgu XbQ)):=by
 refine Xar.Xax Xan (fun ar os r ha hr=>?_) ⟨Tryz.f30,rfl,by decide,rfl⟩
 replace hr:r30 (Xgu XbQ) ar (XaH os)=some r:=hr
 unfold r30 at hr
 generalize hc:XaH os=C at hr
 replace hr:=dV.elim hr;obtain ⟨v0,l1,y0,rfl,e0,hr⟩:=hr;obtain rfl:=XbF _ _ _ e0
 replace hr:=dV.elim hr;obtain ⟨v1,l2,y1,rfl,e1,hr⟩:=hr;obtain rfl:=XbF _ _ _ e1
 replace hr:=Xdw hr;obtain ⟨rfl,rfl,x,h,rfl⟩:=hr
 obtain rfl:=Xat hc
 exact ⟨_,rfl,XCY XbQ hS _ _ x h⟩
def Xb8:Int→Int→Option (List UInt8):=Xgu XbQ
theorem XHA:Xar Tryz.prog 30 (s30 Xb8):=ok30 XbQ (Xah.Xa0 ⟨XzP,trivial⟩)
end Go.Vm.Code
namespace Go.Vm.Code
open Go Go.Vm
def stL:List Xs2→Int×Int×Int
 | []=>(0,0,-1)
 | o::l=>if o.Kind=8 then (if o.Data.length=8 then (vK o.Data 0 4,vK o.Data 4 4,o.At) else (0,0,-1)) else stL l
def Xeh (s:List UInt8):Int×Int×Int:=stL (Xi4 s).1
theorem Xjk (s:List UInt8):∀ (n i:Nat) (out:List Xs2),Xfk s n i out=if (Xfk s n i []).2=0 then (out++(Xfk s n i []).1,0) else ([],3):=by
 intro n
 induction n using Nat.strongRecOn with
 | ind n ih=>
   intro i out
   cases n with
   | zero=>rw [Xfk,Xfk];simp
   | succ n=>
     have e:∀ o,Xfk s (n+1) i o=match s[i]? with
      | none=>(o,0)
      | some b=>if b=0 then (o,0) else if b=1 then Xfk s n (i+1) o else match s[i+1]? with
        | none=>([],3)
        | some k=>if k.toNat<2 then ([],3) else if s.length - i<k.toNat then ([],3) else
           Xfk s (n+1 - k.toNat) (i+k.toNat) (o++[⟨(b.toNat:Int),(s.drop (i+2)).take (k.toNat - 2),((i+2:Nat):Int)⟩]):=fun o=>by rw [Xfk];try (cases s[i]?<;>cases s[i+1]?<;>rfl)
     rw [e out,e []]
     cases s[i]? with
     | none=>simp
     | some b=>
       simp only
       by_cases h0:b=0
       ·simp [h0]
       rw [if_neg h0,if_neg h0]
       by_cases h1:b=1
       ·rw [if_pos h1,if_pos h1];exact ih n (by omega) _ _
       rw [if_neg h1,if_neg h1]
       cases s[i+1]? with
       | none=>simp
       | some k=>
         simp only
         by_cases h2:k.toNat<2
         ·simp [h2]
         by_cases h3:s.length - i<k.toNat
         ·simp [h2,h3]
         rw [if_neg h2,if_neg h2,if_neg h3,if_neg h3,ih _ (by omega) _ (out++_),ih _ (by omega) _ ([]++_)]
         by_cases hz:(Xfk s (n+1 - k.toNat) (i+k.toNat) []).2=0
         ·simp [hz]
         ·simp [hz]
theorem Xr6 {s:List UInt8} (h:(Xi4 s).2≠0):(Xi4 s).1=[]:=by
 unfold Xi4 at *
 have:=Xjk s s.length 0 []
 rw [if_neg h] at this
 rw [this]
theorem XCQ {s:List UInt8}:∀ (n i:Nat),∀ o∈(Xfk s n i []).1,i≤o.At.toNat∧0≤o.At∧o.At.toNat+o.Data.length≤s.length∨(Xfk s n i []).2≠0:=by
 intro n
 induction n using Nat.strongRecOn with
 | ind n ih=>
   intro i o ho
   cases n with
   | zero=>rw [Xfk] at ho;simp at ho
   | succ n=>
     rw [Xfk] at ho ⊢
     cases hb:s[i]? with
     | none=>rw [hb] at ho;simp at ho
     | some b=>
       rw [hb] at ho
       simp only at ho ⊢
       by_cases h0:b=0
       ·rw [if_pos h0] at ho;simp at ho
       rw [if_neg h0] at ho ⊢
       by_cases h1:b=1
       ·rw [if_pos h1] at ho ⊢
        rcases ih n (by omega) _ o ho with h|h
        ·left;omega
        ·right;exact h
       rw [if_neg h1] at ho ⊢
       cases hk:s[i+1]? with
       | none=>rw [hk] at ho;simp at ho
       | some k=>
         rw [hk] at ho
         simp only at ho ⊢
         by_cases h2:k.toNat<2
         ·rw [if_pos h2] at ho;simp at ho
         rw [if_neg h2] at ho ⊢
         by_cases h3:s.length - i<k.toNat
         ·rw [if_pos h3] at ho;simp at ho
         rw [if_neg h3] at ho ⊢
         rw [Xjk] at ho ⊢
         by_cases hz:(Xfk s (n+1 - k.toNat) (i+k.toNat) []).2=0
         ·rw [if_pos hz] at ho
          simp only [List.nil_append,List.mem_append,List.mem_singleton] at ho
          left
          have hi:i<s.length:=by
           rcases Nat.lt_or_ge i s.length with h|h
           ·exact h
           ·rw [List.getElem?_eq_none h] at hb;cases hb
          rcases ho with rfl|ho
          ·simp only [List.length_take,List.length_drop];omega
          ·rcases ih _ (by omega) _ o ho with h|h
           ·omega
           ·exact absurd hz h
         ·right;rw [if_neg hz];decide
theorem XGc {s:List UInt8} (hs:s.length<2^20):XcF s=some (Xeh s):=by
 unfold XcF XgX Xeh
 rw [XIj hs,Option.bind_some]
 have hlen:∀ o∈(Xi4 s).1,o.Data.length<2^61:=by
  intro o ho
  unfold Xi4 at ho
  rcases XCQ _ _ o ho with h|h
  ·omega
  ·have:=Xr6 (s:=s) h
   unfold Xi4 at this
   rw [this] at ho;simp at ho
 have hcount:(Xi4 s).1.length<2^60:=by
  have key:∀ n i out,(Xfk s n i out).1.length≤out.length+n:=by
   intro n
   induction n using Nat.strongRecOn with
   | ind n ih=>
     intro i out
     cases n with
     | zero=>rw [Xfk];simp
     | succ n=>
       rw [Xfk]
       split
       ·simp
       split
       ·simp
       split
       ·have:=ih n (by omega) (i+1) out;omega
       split
       ·simp
       split
       ·simp
       split
       ·simp
       refine Nat.le_trans (ih _ (by omega) _ _) ?_
       simp;omega
  have:=key s.length 0 []
  unfold Xi4
  simp at this;omega
 generalize Xi4 s=L at *
 have key:=iter_eq (step:=fun st=>Xfa Xaj (L.1.map toR,L.2) st) (fun st=>stL (L.1.drop st.toNat)) (fun st=>0≤st∧st≤L.1.length) (fun st=>((L.1.length:Int) - st).toNat) ?_ FUEL 0 ⟨by omega,by omega⟩ (by rw [Xer];omega)
 ·rw [key];simp
 intro st ⟨g1,g2⟩
 obtain ⟨i,rfl⟩:=Int.eq_ofNat_of_zero_le g1
 unfold Xfa
 simp only [Int.toNat_natCast,List.length_map,List.getElem?_map]
 by_cases hp:i<L.1.length
 ·have ed:L.1.drop i=L.1[i]::L.1.drop (i+1):=List.drop_eq_getElem_cons hp
  have hd:=hlen _ (List.getElem_mem hp)
  rw [XaZ (by omega),XaL (by omega),List.getElem?_eq_getElem hp,Option.map_some,Option.bind_some,ed,stL]
  simp only [toR]
  by_cases h8:L.1[i].Kind=8
  ·refine .inl ?_
   rw [show (L.1[i].Kind==8)=true by simpa using h8,cond_true,if_pos h8,XaL (by omega)]
   by_cases hl:L.1[i].Data.length=8
   ·have r0:=XdE L.1[i].Data 0 4 4294967296 (by decide)
    have r4:=XdE L.1[i].Data 4 4 4294967296 (by decide)
    have m0:Xaj L.1[i].Data 0 4=some (vK L.1[i].Data 0 4):=Xoh (p:=0) (k:=4) hd (by omega) (by omega) (by omega)
    have m4:Xaj L.1[i].Data 4 4=some (vK L.1[i].Data 4 4):=Xoh (p:=4) (k:=4) hd (by omega) (by omega) (by omega)
    rw [show (((L.1[i].Data.length:Nat):Int) !=8)=false by simp;omega,cond_false,if_pos hl,XaL (by omega),m0,Option.bind_some,XaL (by omega),m4,Option.bind_some,XaL (by omega),Xpv r0.1 r0.2,Xpv r4.1 r4.2]
   ·rw [show (((L.1[i].Data.length:Nat):Int) !=8)=true by simp;omega,cond_true,if_neg hl]
  ·refine .inr ⟨((i+1:Nat):Int),?_,⟨by omega,by omega⟩,by omega,?_⟩
   ·rw [show (L.1[i].Kind==8)=false by simpa using h8,cond_false,XcC (by omega) (by omega)];rfl
   ·rw [if_neg h8,Int.toNat_natCast]
 ·refine .inl ?_
  rw [XaO (by omega),List.drop_of_length_le (by omega)];rfl
theorem val8 {t:List UInt8} (h:t.length=8):((Xdf t:Nat):Int)=vK t 0 4*4294967296+vK t 4 4:=by
 unfold vK
 have e:t.take 4++(t.drop 4).take 4=t:=by rw [List.take_of_length_le (l:=t.drop 4) (by simp;omega),List.take_append_drop]
 have:=val_append (t.take 4) ((t.drop 4).take 4)
 rw [e,show ((t.drop 4).take 4).length=4 by simp;omega] at this
 rw [List.drop_zero,this]
 omega
theorem XvY {s:List UInt8} (hs:s.length<2^20):XaY s=some (Xeh s):=by
 unfold XaY XgS
 rw [XIl hs,Option.bind_some]
 by_cases hz:(Xi4 s).2=0
 ·rw [show ((Xi4 s).2 !=0)=false by simpa using hz,cond_false]
  unfold Xeh Xi4
  unfold Xi4 at hz
  have key:=iter_eq (step:=fun st=>Xe7 Xal s st) (fun st=>stL (Xfk s (s.length - st.toNat) st.toNat []).1) (fun st=>0≤st∧st≤s.length∧(Xfk s (s.length - st.toNat) st.toNat []).2=0) (fun st=>s.length - st.toNat) ?_ FUEL 0 ⟨by omega,by omega,by simpa using hz⟩ (by rw [Xer];omega)
  ·rw [key];rfl
  intro st ⟨g1,g2,g3⟩
  obtain ⟨i,rfl⟩:=Int.eq_ofNat_of_zero_le g1
  simp only [Int.toNat_natCast] at g3 ⊢
  unfold Xe7
  by_cases hi:i<s.length
  ·obtain ⟨n,hn⟩:∃ n,s.length - i=n+1:=⟨s.length - i - 1,by omega⟩
   have e:s[i]?=some s[i]:=List.getElem?_eq_getElem hi
   rw [hn,Xfk,e] at g3
   simp only at g3
   rw [XaZ (by omega),XaL (by omega),Int.toNat_natCast,e,Option.bind_some,hn,Xfk,e]
   by_cases h0:s[i]=0
   ·refine .inl ?_
    rw [show ((s[i].toNat:Int)==0)=true by rw [h0];rfl,cond_true]
    simp only [h0,if_true];rfl
   rw [show ((s[i].toNat:Int)==0)=false by simp;intro hx;exact h0 (UInt8.toNat_inj.1 (by simpa using hx)),cond_false]
   rw [if_neg h0] at g3
   simp only [if_neg h0]
   by_cases h1:s[i]=1
   ·rw [if_pos h1] at g3
    refine .inr ⟨((i+1:Nat):Int),?_,⟨by omega,by omega,?_⟩,by omega,?_⟩
    ·rw [show ((s[i].toNat:Int)==1)=true by rw [h1];rfl,cond_true,XcC (by omega) (by omega)];rfl
    ·rw [Int.toNat_natCast,show s.length - (i+1)=n by omega];exact g3
    ·simp only [Int.toNat_natCast,if_pos h1]
     rw [show s.length - (i+1)=n by omega]
   rw [show ((s[i].toNat:Int)==1)=false by simp;intro hx;exact h1 (UInt8.toNat_inj.1 (by simp;omega)),cond_false]
   rw [if_neg h1] at g3
   simp only [if_neg h1]
   rw [XcC (n:=(i:Int)+1) (by omega) (by omega)]
   by_cases h2:s.length≤i+1
   ·rw [List.getElem?_eq_none (by omega)] at g3
    simp at g3
   have hi1:i+1<s.length:=by omega
   have e1:s[i+1]?=some s[i+1]:=List.getElem?_eq_getElem hi1
   have b1:=s[i+1].toNat_lt
   rw [e1] at g3
   simp only at g3
   rw [XaZ (by omega),show ((i:Int)+1).toNat=i+1 by omega,e1,XaL (by omega),Option.bind_some]
   simp only [Option.bind_some]
   rw [XcC (n:=(s[i+1].toNat:Int)) (by omega) (by omega)]
   by_cases h3:s[i+1].toNat<2
   ·rw [if_pos h3] at g3
    exact absurd g3 (by decide)
   rw [if_neg h3] at g3
   rw [XaO (by omega),if_neg h3,XcC (n:=(s.length:Int) - i) (by omega) (by omega)]
   by_cases h4:s.length - i<s[i+1].toNat
   ·rw [if_pos h4] at g3
    exact absurd g3 (by decide)
   rw [if_neg h4,Xjk] at g3
   have b0:=s[i].toNat_lt
   have hz2:(Xfk s (n+1 - s[i+1].toNat) (i+s[i+1].toNat) []).2=0:=by
    apply Decidable.byContradiction
    intro hx
    rw [if_neg hx] at g3
    exact absurd g3 (by decide)
   rw [if_neg h4,Xjk,if_pos hz2,XaO (by omega),XaL (by omega),XcC (n:=(i:Int)+s[i+1].toNat) (by omega) (by omega),XcC (n:=(i:Int)+2) (by omega) (by omega),XcC (n:=(s[i].toNat:Int)) (by omega) (by omega),XaL (by omega),show ((i:Int)+s[i+1].toNat).toNat - ((i:Int)+2).toNat=s[i+1].toNat - 2 by omega,show ((i:Int)+2).toNat=i+2 by omega]
   simp only [List.nil_append,List.cons_append,stL]
   have hdl:((s.drop (i+2)).take (s[i+1].toNat - 2)).length=s[i+1].toNat - 2:=by simp;omega
   generalize (s.drop (i+2)).take (s[i+1].toNat - 2)=D at *
   by_cases h8:(s[i].toNat:Int)=8
   ·refine .inl ?_
    rw [show ((s[i].toNat:Int) !=8)=false by simpa using h8,cond_false,if_pos h8,XcM (by omega),Option.bind_some]
    by_cases hl:D.length=8
    ·rw [XfE (by omega) (by omega) (by omega) (by omega),if_pos hl]
     have r0:=XdE D 0 4 4294967296 (by decide)
     have r4:=XdE D 4 4 4294967296 (by decide)
     have hv:=val8 hl
     have ev:(D.drop (0:Int).toNat).take (8:Int).toNat=D:=by
      rw [show (0:Int).toNat=0 from rfl,show (8:Int).toNat=8 from rfl,List.drop_zero,List.take_of_length_le (by omega)]
     simp only [cond_true,ev]
     rw [show ((D.length:Int)==8)=true by simp;omega,cond_true,hv,Xpb,show ((2:Int)^32)=4294967296 from rfl,show (vK D 0 4*4294967296+vK D 4 4)/4294967296=vK D 0 4 by omega,Xpv r0.1 r0.2,XE4,show (vK D 0 4*4294967296+vK D 4 4)%4294967296=vK D 4 4 by omega];rfl
    ·rw [if_neg hl]
     rw [show ((D.length:Int)==8)=false by simp;omega]
     cases (XsL D 0 8).2<;>rfl
   ·refine .inr ⟨((i+s[i+1].toNat:Nat):Int),?_,⟨by omega,by omega,?_⟩,by omega,?_⟩
    ·rw [show ((s[i].toNat:Int) !=8)=true by simpa using h8,cond_true];rfl
    ·rw [Int.toNat_natCast,show s.length - (i+s[i+1].toNat)=n+1 - s[i+1].toNat by omega];exact hz2
    ·rw [Int.toNat_natCast,show s.length - (i+s[i+1].toNat)=n+1 - s[i+1].toNat by omega,if_neg h8]
  ·refine .inl ?_
   rw [XaO (by omega),show s.length - i=0 by omega,Xfk];rfl
 ·rw [show ((Xi4 s).2 !=0)=true by simpa using hz,cond_true]
  unfold Xeh
  rw [Xr6 hz];rfl
theorem Xlm (r:Xaa) (k:Int):(rdr r k).s.length≤r.s.length:=by unfold rdr;split<;>simp
def b1 (s:List UInt8) (i:Nat):Nat:=Xdf ((s.drop i).take 1)
theorem XB4 {s:List UInt8} {i:Nat} (h:i<s.length):b1 s i=s[i].toNat:=by
 unfold b1
 rw [List.drop_eq_getElem_cons h]
 show Xdf [s[i]]=_
 rw [XeE];simp
theorem XyT (s:List UInt8) (i:Nat):b1 s i<256:=XcU _ (by decide)
end Go.Vm.Code
namespace Go.Vm.Code
open Go Go.Vm Go.Proofs
set_option maxRecDepth 100000
set_option maxHeartbeats 4000000
set_option linter.unusedVariables false
def XjE (XaD:(List UInt8)→Option Bool) (XaS:Xab→Xab→Int→Int→Option (List UInt8)) (Xay:(List UInt8)→Option Xaa) (Xaf:Xaa→Option (Bool×Xaa)) (Xad:Xaa→Int→Option (Int×Xaa)) (s:List UInt8) (src:Xab) (dst:Xab):Option (XaV×(List UInt8)×Int):=
 (Xay s).bind fun n=>
 (Xad n 2).bind fun n1=>
 (Xad n1.2 2).bind fun n2=>
 (Xad n2.2 2).bind fun n3=>
 (Xad n3.2 2).bind fun n4=>
 (Xaf n4.2).bind fun b=>
 cond (b.1)
  (
  some ((XaV.mk 0 0,[],2)))
  (
  cond (decide (n3.1<8))
   (
   some ((XaV.mk 0 0,[],3)))
   (
   cond (decide (n3.1>(s.length:Int)))
    (
    some ((XaV.mk 0 0,[],2)))
    (
    (XaS src dst 17 n3.1).bind fun p=>
    cond (p==[])
     (
     some ((XaV.mk 0 0,[],1)))
     (
     cond (n4.1==0)
      (
      cond (src.V6)
       (
       some ((XaV.mk 0 0,[],4)))
       (
       cond (n4.1 !=0)
        (
        XaE (decide ((0:Int)≤n3.1∧n3.1≤(s.length:Int))) <|
        XaE (decide (p.length+(s.take n3.1.toNat).length<2^63)) <|
        (XaD (p++(s.take n3.1.toNat))).bind fun xr=>
        cond (!xr)
         (
         some ((XaV.mk 0 0,[],4)))
         (
         XaE (decide ((0:Int)≤n3.1∧n3.1≤(s.length:Int)∧(0:Int)≤(8:Int)∧(8:Int)≤(n3.1.toNat:Int))) <|
         some ((XaV.mk n1.1 n2.1,(s.drop 8).take (n3.1.toNat - 8),0))))
        (
        XaE (decide ((0:Int)≤n3.1∧n3.1≤(s.length:Int)∧(0:Int)≤(8:Int)∧(8:Int)≤(n3.1.toNat:Int))) <|
        some ((XaV.mk n1.1 n2.1,(s.drop 8).take (n3.1.toNat - 8),0)))))
      (
      cond (n4.1 !=0)
       (
       XaE (decide ((0:Int)≤n3.1∧n3.1≤(s.length:Int))) <|
       XaE (decide (p.length+(s.take n3.1.toNat).length<2^63)) <|
       (XaD (p++(s.take n3.1.toNat))).bind fun xr1=>
       cond (!xr1)
        (
        some ((XaV.mk 0 0,[],4)))
        (
        XaE (decide ((0:Int)≤n3.1∧n3.1≤(s.length:Int)∧(0:Int)≤(8:Int)∧(8:Int)≤(n3.1.toNat:Int))) <|
        some ((XaV.mk n1.1 n2.1,(s.drop 8).take (n3.1.toNat - 8),0))))
       (
       XaE (decide ((0:Int)≤n3.1∧n3.1≤(s.length:Int)∧(0:Int)≤(8:Int)∧(8:Int)≤(n3.1.toNat:Int))) <|
       some ((XaV.mk n1.1 n2.1,(s.drop 8).take (n3.1.toNat - 8),0))))))))
def Xy9 (x:XaV×(List UInt8)×Int):Xcw:=⟨.tuple ⟨[.agg ⟨[.int .i64 x.1.SPort,.int .i64 x.1.DPort]⟩,.string ⟨⟨x.2.1⟩⟩,.int .i64 x.2.2]⟩,[],[]⟩
def r108 (g:(List UInt8)→Xab→Xab→Option (XaV×(List UInt8)×Int)):Dec:=dV asS fun (y0:List UInt8)=>dV XbN fun (y1:Xab)=>dV XbN fun (y2:Xab)=>Xdd (ofG (g y0 y1 y2) Xy9)
theorem XKl {g:(List UInt8)→Xab→Xab→Option (XaV×(List UInt8)×Int)} {y0:List UInt8} {y1:Xab} {y2:Xab} {x:XaV×(List UInt8)×Int} (hx:g y0 y1 y2=some x):r108 g [.string ⟨⟨y0⟩⟩,.agg ⟨[.bool y1.V6,.int .u64 y1.Hi,.int .u64 y1.Lo]⟩,.agg ⟨[.bool y2.V6,.int .u64 y2.Hi,.int .u64 y2.Lo]⟩] []=some (Xy9 x):=(XaX (XcI)).trans ((XaX (XbC _)).trans ((XaX (XbC _)).trans (Xa3 hx)))
def s108 (g:(List UInt8)→Xab→Xab→Option (XaV×(List UInt8)×Int)):Xbu:=⟨[.v,.v,.v],r108 g⟩
theorem XC8 {g:(List UInt8)→Xab→Xab→Option (XaV×(List UInt8)×Int)} {y0:List UInt8} {y1:Xab} {y2:Xab} {x:XaV×(List UInt8)×Int} (hx:g y0 y1 y2=some x):(s108 g).run [.string ⟨⟨y0⟩⟩,.agg ⟨[.bool y1.V6,.int .u64 y1.Hi,.int .u64 y1.Lo]⟩,.agg ⟨[.bool y2.V6,.int .u64 y2.Hi,.int .u64 y2.Lo]⟩] []=some (Xy9 x):=XKl hx
abbrev Xt4 (XaD:(List UInt8)→Option Bool) (XaS:Xab→Xab→Int→Int→Option (List UInt8)) (Xay:(List UInt8)→Option Xaa) (Xaf:Xaa→Option (Bool×Xaa)) (Xad:Xaa→Int→Option (Int×Xaa)):List (Nat×Xbu):=[(131,XGC XaD),(109,XLm XaS),(61,s61 Xay),(63,s63 Xaf),(62,s62 Xad)]
theorem XwS (XaD:(List UInt8)→Option Bool) (XaS:Xab→Xab→Int→Int→Option (List UInt8)) (Xay:(List UInt8)→Option Xaa) (Xaf:Xaa→Option (Bool×Xaa)) (Xad:Xaa→Int→Option (Int×Xaa)) (hS:Xah Tryz.prog (Xav (Xt4 XaD XaS Xay Xaf Xad))) (s:List UInt8) (src:Xab) (dst:Xab) (res:XaV×(List UInt8)×Int) (h:XjE XaD XaS Xay Xaf Xad s src dst=some res) :
 XaK Tryz.prog 108 0 ⟨⟨108,70,[(0,.string ⟨⟨s⟩⟩),(1,.agg ⟨[.bool src.V6,.int .u64 src.Hi,.int .u64 src.Lo]⟩),(2,.agg ⟨[.bool dst.V6,.int .u64 dst.Hi,.int .u64 dst.Lo]⟩)],[.code XvO],[],false,none⟩,[],[],0⟩ (fun v H _=>Res 0 (Xy9 res) v H):=by
 unfold XjE at h
 refine Xbi Xan hS true 3000 ?_
 conv=>whnf
 replace h:=Xai.elim h;obtain ⟨n,hy,h⟩:=h
 refine XaJ.Xbe [3] (Xaw (aqs:=[.string ⟨⟨s⟩⟩]) (ws:=[]) (n:=1) (m:=0) (t':=4) (Xau rfl rfl Xbg) rfl (by rfl) (XoW hy) rfl rfl rfl rfl Xbf (Xhw (rfl) Xbc) rfl) ?_
 conv=>whnf
 replace h:=Xai.elim h;obtain ⟨n1,hy,h⟩:=h
 refine XaJ.Xbe [3] (Xaw (aqs:=[.pointer (some ⟨0,0,none⟩),.int .i64 2]) (ws:=[.win 3 0 3 true]) (n:=0) (m:=0) (t':=4) (Xau rfl rfl (Xau rfl rfl Xbg)) rfl (by rfl) (XdC hy) rfl rfl rfl rfl (XbD rfl rfl rfl ⟨rfl,Nat.le_of_ble_eq_true rfl⟩ rfl rfl Xbf) Xbc rfl) ?_
 conv=>whnf
 replace h:=Xai.elim h;obtain ⟨n2,hy,h⟩:=h
 refine XaJ.Xbe [3] (Xaw (aqs:=[.pointer (some ⟨0,0,none⟩),.int .i64 2]) (ws:=[.win 3 0 3 true]) (n:=0) (m:=0) (t':=4) (Xau rfl rfl (Xau rfl rfl Xbg)) rfl (by rfl) (XdC hy) rfl rfl rfl rfl (XbD rfl rfl rfl ⟨rfl,Nat.le_of_ble_eq_true rfl⟩ rfl rfl Xbf) Xbc rfl) ?_
 conv=>whnf
 replace h:=Xai.elim h;obtain ⟨n3,hy,h⟩:=h
 refine XaJ.Xbe [3] (Xaw (aqs:=[.pointer (some ⟨0,0,none⟩),.int .i64 2]) (ws:=[.win 3 0 3 true]) (n:=0) (m:=0) (t':=5) (Xau rfl rfl (Xau rfl rfl Xbg)) rfl (by rfl) (XdC hy) rfl rfl rfl rfl (XbD rfl rfl rfl ⟨rfl,Nat.le_of_ble_eq_true rfl⟩ rfl rfl Xbf) Xbc rfl) ?_
 conv=>whnf
 replace h:=Xai.elim h;obtain ⟨n4,hy,h⟩:=h
 refine XaJ.Xbe [3] (Xaw (aqs:=[.pointer (some ⟨0,0,none⟩),.int .i64 2]) (ws:=[.win 3 0 3 true]) (n:=0) (m:=0) (t':=5) (Xau rfl rfl (Xau rfl rfl Xbg)) rfl (by rfl) (XdC hy) rfl rfl rfl rfl (XbD rfl rfl rfl ⟨rfl,Nat.le_of_ble_eq_true rfl⟩ rfl rfl Xbf) Xbc rfl) ?_
 conv=>whnf
 replace h:=Xai.elim h;obtain ⟨b,hy,h⟩:=h
 refine XaJ.Xbe [3] (Xaw (aqs:=[.pointer (some ⟨0,0,none⟩)]) (ws:=[.win 3 0 3 true]) (n:=0) (m:=0) (t':=5) (Xau rfl rfl Xbg) rfl (by rfl) (XjI hy) rfl rfl rfl rfl (XbD rfl rfl rfl ⟨rfl,Nat.le_of_ble_eq_true rfl⟩ rfl rfl Xbf) Xbc rfl) ?_
 conv=>whnf
 refine br.h h (by rfl) ?_ ?_
 ·clear h;intro hb h;conv=>whnf
  all_goals (cases h;exact Res.y)
 clear h;intro hb h;conv=>whnf
 refine br.h h (by rfl) ?_ ?_
 ·clear h;intro hb h;conv=>whnf
  all_goals (cases h;exact Res.y)
 clear h;intro hb h;conv=>whnf
 refine br.h h (by rfl) ?_ ?_
 ·clear h;intro hb h;conv=>whnf
  all_goals (cases h;exact Res.y)
 clear h;intro hb h;conv=>whnf
 replace h:=Xai.elim h;obtain ⟨p,hy,h⟩:=h
 refine XaJ.p (Xuk hy) ?_
 conv=>whnf
 refine br.h h (by rfl) ?_ ?_
 ·clear h;intro hb h;conv=>whnf
  all_goals (cases h;exact Res.y)
 clear h;intro hb h;conv=>whnf
 refine br.h2 h (by rfl) ?_ ?_
 ·clear h;intro hb h;conv=>whnf
  refine br.h2 h (by rfl) ?_ ?_
  ·clear h;intro hb h;conv=>whnf
   replace h:=XaE.elim h;obtain ⟨hb,h⟩:=h
   try (refine req.intro hb ?_;conv=>whnf)
   all_goals (cases h;exact Res.y)
  clear h;intro hb h;conv=>whnf
  replace h:=XaE.elim h;obtain ⟨hb,h⟩:=h
  try (refine req.intro hb ?_;conv=>whnf)
  replace h:=XaE.elim h;obtain ⟨hb,h⟩:=h
  try (refine req.intro hb ?_;conv=>whnf)
  replace h:=Xai.elim h;obtain ⟨xr1,hy,h⟩:=h
  refine XaJ.p (Xoj hy) ?_
  conv=>whnf
  refine br.h h (by rfl) ?_ ?_
  ·clear h;intro hb h;conv=>whnf
   all_goals (cases h;exact Res.y)
  clear h;intro hb h;conv=>whnf
  replace h:=XaE.elim h;obtain ⟨hb,h⟩:=h
  try (refine req.intro hb ?_;conv=>whnf)
  all_goals (cases h;exact Res.y)
 clear h;intro hb h;conv=>whnf
 refine br.h h (by rfl) ?_ ?_
 ·clear h;intro hb h;conv=>whnf
  refine br.pos ?_ ?_;(focus (clear h;first|assumption|(simp_all;done)))
  conv=>whnf
  all_goals (cases h;exact Res.y)
 clear h;intro hb h;conv=>whnf
 refine br.h2 h (by rfl) ?_ ?_
 ·clear h;intro hb h;conv=>whnf
  replace h:=XaE.elim h;obtain ⟨hb,h⟩:=h
  try (refine req.intro hb ?_;conv=>whnf)
  all_goals (cases h;exact Res.y)
 clear h;intro hb h;conv=>whnf
 replace h:=XaE.elim h;obtain ⟨hb,h⟩:=h
 try (refine req.intro hb ?_;conv=>whnf)
 replace h:=XaE.elim h;obtain ⟨hb,h⟩:=h
 try (refine req.intro hb ?_;conv=>whnf)
 replace h:=Xai.elim h;obtain ⟨xr,hy,h⟩:=h
 refine XaJ.p (Xoj hy) ?_
 conv=>whnf
 refine br.h h (by rfl) ?_ ?_
 ·clear h;intro hb h;conv=>whnf
  all_goals (cases h;exact Res.y)
 clear h;intro hb h;conv=>whnf
 replace h:=XaE.elim h;obtain ⟨hb,h⟩:=h
 try (refine req.intro hb ?_;conv=>whnf)
 all_goals (cases h;exact Res.y)
theorem ok108 (XaD:(List UInt8)→Option Bool) (XaS:Xab→Xab→Int→Int→Option (List UInt8)) (Xay:(List UInt8)→Option Xaa) (Xaf:Xaa→Option (Bool×Xaa)) (Xad:Xaa→Int→Option (Int×Xaa)) (hS:Xah Tryz.prog (Xav (Xt4 XaD XaS Xay Xaf Xad))):Xar Tryz.prog 108 (s108 (XjE XaD XaS Xay Xaf Xad)):=by
 refine Xar.Xax Xan (fun ar os r ha hr=>?_) ⟨Tryz.f108,rfl,by decide,rfl⟩
 replace hr:r108 (XjE XaD XaS Xay Xaf Xad) ar (XaH os)=some r:=hr
 unfold r108 at hr
 generalize hc:XaH os=C at hr
 replace hr:=dV.elim hr;obtain ⟨v0,l1,y0,rfl,e0,hr⟩:=hr;obtain rfl:=XbM _ _ e0
 replace hr:=dV.elim hr;obtain ⟨v1,l2,y1,rfl,e1,hr⟩:=hr;obtain rfl:=Xbr _ _ e1
 replace hr:=dV.elim hr;obtain ⟨v2,l3,y2,rfl,e2,hr⟩:=hr;obtain rfl:=Xbr _ _ e2
 replace hr:=Xdw hr;obtain ⟨rfl,rfl,x,h,rfl⟩:=hr
 obtain rfl:=Xat hc
 exact ⟨_,rfl,XwS XaD XaS Xay Xaf Xad hS _ _ _ x h⟩
def Xen:(List UInt8)→Xab→Xab→Option (XaV×(List UInt8)×Int):=XjE XaD XaS Xay Xaf Xad
theorem XDU:Xar Tryz.prog 108 (s108 Xen):=ok108 XaD XaS Xay Xaf Xad (Xah.Xa0 ⟨Xqa,Xv2,XpX,XnI,Xnq,trivial⟩)
def Xjn (Xaj:(List UInt8)→Int→Int→Option Int) (Xa9:(List UInt8)→Option Int) (XaR:Xab→Xab→Int→Int→Option (List UInt8)) (s:List UInt8) (src:Xab) (dst:Xab):Option (XaV×(List UInt8)×Int):=
 cond (decide ((s.length:Int)<8))
  (
  some ((XaV.mk 0 0,[],2)))
  (
  (Xaj s 4 2).bind fun m=>
  cond (decide (m<8))
   (
   some ((XaV.mk 0 0,[],3)))
   (
   cond (decide ((s.length:Int)<m))
    (
    some ((XaV.mk 0 0,[],2)))
    (
    (XaR src dst 17 m).bind fun p=>
    cond (p==[])
     (
     some ((XaV.mk 0 0,[],1)))
     (
     (Xaj s 6 2).bind fun m1=>
     cond (m1==0)
      (
      cond (src.V6)
       (
       some ((XaV.mk 0 0,[],4)))
       (
       (Xaj s 0 2).bind fun m2=>
       (Xaj s 2 2).bind fun m3=>
       XaE (decide ((0:Int)≤m∧m≤(s.length:Int)∧(0:Int)≤(8:Int)∧(8:Int)≤(m.toNat:Int))) <|
       some ((XaV.mk m2 m3,(s.drop 8).take (m.toNat - 8),0))))
      (
      XaE (decide ((0:Int)≤m∧m≤(s.length:Int))) <|
      XaE (decide (p.length+(s.take m.toNat).length<2^63)) <|
      (Xa9 (p++(s.take m.toNat))).bind fun s1=>
      cond (s1 !=65535)
       (
       some ((XaV.mk 0 0,[],4)))
       (
       (Xaj s 0 2).bind fun m4=>
       (Xaj s 2 2).bind fun m5=>
       XaE (decide ((0:Int)≤m∧m≤(s.length:Int)∧(0:Int)≤(8:Int)∧(8:Int)≤(m.toNat:Int))) <|
       some ((XaV.mk m4 m5,(s.drop 8).take (m.toNat - 8),0))))))))
def rx59 (x:XaV×(List UInt8)×Int):Xcw:=⟨.tuple ⟨[.agg ⟨[.int .i64 x.1.SPort,.int .i64 x.1.DPort]⟩,.string ⟨⟨x.2.1⟩⟩,.int .i64 x.2.2]⟩,[],[]⟩
def r59 (g:(List UInt8)→Xab→Xab→Option (XaV×(List UInt8)×Int)):Dec:=dV asS fun (y0:List UInt8)=>dV XbN fun (y1:Xab)=>dV XbN fun (y2:Xab)=>Xdd (ofG (g y0 y1 y2) rx59)
theorem r59_c {g:(List UInt8)→Xab→Xab→Option (XaV×(List UInt8)×Int)} {y0:List UInt8} {y1:Xab} {y2:Xab} {x:XaV×(List UInt8)×Int} (hx:g y0 y1 y2=some x):r59 g [.string ⟨⟨y0⟩⟩,.agg ⟨[.bool y1.V6,.int .u64 y1.Hi,.int .u64 y1.Lo]⟩,.agg ⟨[.bool y2.V6,.int .u64 y2.Hi,.int .u64 y2.Lo]⟩] []=some (rx59 x):=(XaX (XcI)).trans ((XaX (XbC _)).trans ((XaX (XbC _)).trans (Xa3 hx)))
def s59 (g:(List UInt8)→Xab→Xab→Option (XaV×(List UInt8)×Int)):Xbu:=⟨[.v,.v,.v],r59 g⟩
theorem XIw {g:(List UInt8)→Xab→Xab→Option (XaV×(List UInt8)×Int)} {y0:List UInt8} {y1:Xab} {y2:Xab} {x:XaV×(List UInt8)×Int} (hx:g y0 y1 y2=some x):(s59 g).run [.string ⟨⟨y0⟩⟩,.agg ⟨[.bool y1.V6,.int .u64 y1.Hi,.int .u64 y1.Lo]⟩,.agg ⟨[.bool y2.V6,.int .u64 y2.Hi,.int .u64 y2.Lo]⟩] []=some (rx59 x):=r59_c hx
abbrev XAD (Xaj:(List UInt8)→Int→Int→Option Int) (Xa9:(List UInt8)→Option Int) (XaR:Xab→Xab→Int→Int→Option (List UInt8)):List (Nat×Xbu):=[(44,s44 Xaj),(100,XCq Xa9),(95,s95 XaR)]
theorem XDn (Xaj:(List UInt8)→Int→Int→Option Int) (Xa9:(List UInt8)→Option Int) (XaR:Xab→Xab→Int→Int→Option (List UInt8)) (hS:Xah Tryz.prog (Xav (XAD Xaj Xa9 XaR))) (s:List UInt8) (src:Xab) (dst:Xab) (res:XaV×(List UInt8)×Int) (h:Xjn Xaj Xa9 XaR s src dst=some res) :
 XaK Tryz.prog 59 0 ⟨⟨59,54,[(0,.string ⟨⟨s⟩⟩),(1,.agg ⟨[.bool src.V6,.int .u64 src.Hi,.int .u64 src.Lo]⟩),(2,.agg ⟨[.bool dst.V6,.int .u64 dst.Hi,.int .u64 dst.Lo]⟩)],[.code XBn],[],false,none⟩,[],[],0⟩ (fun v H _=>Res 0 (rx59 res) v H):=by
 unfold Xjn at h
 refine Xbi Xan hS true 3000 ?_
 conv=>whnf
 refine br.h h (by rfl) ?_ ?_
 ·clear h;intro hb h;conv=>whnf
  all_goals (cases h;exact Res.y)
 clear h;intro hb h;conv=>whnf
 replace h:=Xai.elim h;obtain ⟨m,hy,h⟩:=h
 refine XaJ.p (XeO hy) ?_
 conv=>whnf
 refine br.h h (by rfl) ?_ ?_
 ·clear h;intro hb h;conv=>whnf
  all_goals (cases h;exact Res.y)
 clear h;intro hb h;conv=>whnf
 refine br.h h (by rfl) ?_ ?_
 ·clear h;intro hb h;conv=>whnf
  all_goals (cases h;exact Res.y)
 clear h;intro hb h;conv=>whnf
 replace h:=Xai.elim h;obtain ⟨p,hy,h⟩:=h
 refine XaJ.p (XuN hy) ?_
 conv=>whnf
 refine br.h h (by rfl) ?_ ?_
 ·clear h;intro hb h;conv=>whnf
  all_goals (cases h;exact Res.y)
 clear h;intro hb h;conv=>whnf
 replace h:=Xai.elim h;obtain ⟨m1,hy,h⟩:=h
 refine XaJ.p (XeO hy) ?_
 conv=>whnf
 refine br.h h (by rfl) ?_ ?_
 ·clear h;intro hb h;conv=>whnf
  refine br.h h (by rfl) ?_ ?_
  ·clear h;intro hb h;conv=>whnf
   all_goals (cases h;exact Res.y)
  clear h;intro hb h;conv=>whnf
  replace h:=Xai.elim h;obtain ⟨m2,hy,h⟩:=h
  refine XaJ.p (XeO hy) ?_
  conv=>whnf
  replace h:=Xai.elim h;obtain ⟨m3,hy,h⟩:=h
  refine XaJ.p (XeO hy) ?_
  conv=>whnf
  replace h:=XaE.elim h;obtain ⟨hb,h⟩:=h
  try (refine req.intro hb ?_;conv=>whnf)
  all_goals (cases h;exact Res.y)
 clear h;intro hb h;conv=>whnf
 replace h:=XaE.elim h;obtain ⟨hb,h⟩:=h
 try (refine req.intro hb ?_;conv=>whnf)
 replace h:=XaE.elim h;obtain ⟨hb,h⟩:=h
 try (refine req.intro hb ?_;conv=>whnf)
 replace h:=Xai.elim h;obtain ⟨s1,hy,h⟩:=h
 refine XaJ.p (XnR hy) ?_
 conv=>whnf
 refine br.h h (by rfl) ?_ ?_
 ·clear h;intro hb h;conv=>whnf
  all_goals (cases h;exact Res.y)
 clear h;intro hb h;conv=>whnf
 replace h:=Xai.elim h;obtain ⟨m4,hy,h⟩:=h
 refine XaJ.p (XeO hy) ?_
 conv=>whnf
 replace h:=Xai.elim h;obtain ⟨m5,hy,h⟩:=h
 refine XaJ.p (XeO hy) ?_
 conv=>whnf
 replace h:=XaE.elim h;obtain ⟨hb,h⟩:=h
 try (refine req.intro hb ?_;conv=>whnf)
 all_goals (cases h;exact Res.y)
theorem ok59 (Xaj:(List UInt8)→Int→Int→Option Int) (Xa9:(List UInt8)→Option Int) (XaR:Xab→Xab→Int→Int→Option (List UInt8)) (hS:Xah Tryz.prog (Xav (XAD Xaj Xa9 XaR))):Xar Tryz.prog 59 (s59 (Xjn Xaj Xa9 XaR)):=by
 refine Xar.Xax Xan (fun ar os r ha hr=>?_) ⟨Tryz.f59,rfl,by decide,rfl⟩
 replace hr:r59 (Xjn Xaj Xa9 XaR) ar (XaH os)=some r:=hr
 unfold r59 at hr
 generalize hc:XaH os=C at hr
 replace hr:=dV.elim hr;obtain ⟨v0,l1,y0,rfl,e0,hr⟩:=hr;obtain rfl:=XbM _ _ e0
 replace hr:=dV.elim hr;obtain ⟨v1,l2,y1,rfl,e1,hr⟩:=hr;obtain rfl:=Xbr _ _ e1
 replace hr:=dV.elim hr;obtain ⟨v2,l3,y2,rfl,e2,hr⟩:=hr;obtain rfl:=Xbr _ _ e2
 replace hr:=Xdw hr;obtain ⟨rfl,rfl,x,h,rfl⟩:=hr
 obtain rfl:=Xat hc
 exact ⟨_,rfl,XDn Xaj Xa9 XaR hS _ _ _ x h⟩
def Xew:(List UInt8)→Xab→Xab→Option (XaV×(List UInt8)×Int):=Xjn Xaj Xa9 XaR
theorem XIH:Xar Tryz.prog 59 (s59 Xew):=ok59 Xaj Xa9 XaR (Xah.Xa0 ⟨Xma,Xn0,XtF,trivial⟩)
end Go.Vm.Code
namespace Go.Vm.Code
open Go Go.Vm
def u8 (h:XaV) (l:List UInt8):List UInt8:=Xhd h.SPort 2++Xhd h.DPort 2++Xhd (8+l.length) 2++[0,0]++l
def v2 (s:List UInt8) (p:Nat):Int:=(Xdf ((s.drop p).take 2):Nat)
theorem XmZ (s:List UInt8) (p:Nat):0≤v2 s p∧v2 s p<65536:=by
 have:=XcU (l:=s.drop p) (k:=2) 65536 (by decide)
 unfold v2;omega
theorem Xya {s:List UInt8} {p:Nat} (hs:s.length<2^61) (h:p+2≤s.length):Xaj s (p:Int) 2=some (v2 s p):=by
 rw [Xf0 hs,XfE (by omega) (by omega) (by omega) (by omega)]
 have:=XmZ s p
 show some (wI .i64 (v2 s p))=_
 rw [XcC (by omega) (by omega)]
theorem XIi {r:Xaa} (h:r.made=true) (hl:r.s.length<2^61):Xad r 2=some (rdn r 2,rdr r 2):=by
 rw [XfF h hl,if_neg (by omega)]
theorem Xom {s:List UInt8} (h:2≤s.length) (hl:s.length<2^61):Xad ⟨s,true,false⟩ 2=some (v2 s 0,⟨s.drop 2,true,false⟩):=by
 rw [XIi rfl hl,Xg1 (by omega) (by omega)]
 unfold rdn
 rw [if_neg (by omega),Xg3 (by omega) (by omega)];rfl
theorem XvA (s:List UInt8) (p q:Nat):v2 (s.drop p) q=v2 s (p+q):=by unfold v2;rw [List.drop_drop]
def XpQ:XaV:=⟨0,0⟩
def Xfj (s:List UInt8) (src dst:Xab):XaV×List UInt8×Int:=
 if s.length<8 then (XpQ,[],2) else if v2 s 4<8 then (XpQ,[],3) else if (s.length:Int)<v2 s 4 then (XpQ,[],2) else if Xlw src dst 17 (v2 s 4)=[] then (XpQ,[],1) else
  if v2 s 6=0 then (if src.V6=true then (XpQ,[],4) else (⟨v2 s 0,v2 s 2⟩,(s.drop 8).take ((v2 s 4).toNat - 8),0)) else
   if norm (Xdp (Xlw src dst 17 (v2 s 4)++s.take (v2 s 4).toNat))≠65535 then (XpQ,[],4) else (⟨v2 s 0,v2 s 2⟩,(s.drop 8).take ((v2 s 4).toNat - 8),0)
theorem XD6 {s:List UInt8} {src dst:Xab} (h1:A4 src) (h2:A4 dst) (hs:s.length<2^38):Xen s src dst=some (Xfj s src dst):=by
 unfold Xen XjE Xfj
 rw [Xms,Option.bind_some]
 by_cases h8:s.length<8
 ·rw [if_pos h8]
  have m1:=Xfs ⟨s,true,false⟩ 2
  have m2:=Xfs (rdr ⟨s,true,false⟩ 2) 2
  have m3:=Xfs (rdr (rdr ⟨s,true,false⟩ 2) 2) 2
  have m4:=Xfs (rdr (rdr (rdr ⟨s,true,false⟩ 2) 2) 2) 2
  have k1:=Xlm ⟨s,true,false⟩ 2
  have k2:=Xlm (rdr ⟨s,true,false⟩ 2) 2
  have k3:=Xlm (rdr (rdr ⟨s,true,false⟩ 2) 2) 2
  simp only at k1
  rw [XIi rfl (by simp only;omega),Option.bind_some]
  rw [XIi m1 (by omega),Option.bind_some]
  rw [XIi m2 (by omega),Option.bind_some]
  rw [XIi m3 (by omega),Option.bind_some,Xd4 m4,Option.bind_some]
  have hb:(rdr (rdr (rdr (rdr ⟨s,true,false⟩ 2) 2) 2) 2).bad=true:=by
   cases hb:(rdr (rdr (rdr (rdr ⟨s,true,false⟩ 2) 2) 2) 2).bad
   ·exfalso
    obtain ⟨b3,l3⟩:=Xge rfl hb
    obtain ⟨b2,l2⟩:=Xge rfl b3
    obtain ⟨b1,l1⟩:=Xge rfl b2
    obtain ⟨b0,l0⟩:=Xge rfl b1
    simp only at l0
    omega
   ·rfl
  simp only [hb,cond_true];rfl
 ·rw [if_neg h8]
  rw [Xom (by omega) (by omega),Option.bind_some,Xom (by simp;omega) (by simp;omega),Option.bind_some]
  simp only [List.drop_drop]
  rw [Xom (by simp;omega) (by simp;omega),Option.bind_some]
  simp only [List.drop_drop]
  rw [Xom (by simp;omega) (by simp;omega),Option.bind_some,Xd4 rfl,Option.bind_some]
  simp only [cond_false,XvA,Nat.add_zero,Nat.reduceAdd]
  have r4:=XmZ s 4
  have hp:=Xl8 src dst 17 (v2 s 4)
  have hz:(⟨0,0⟩:XaV)=XpQ:=rfl
  rw [hz]
  generalize hm:v2 s 4=m at *
  by_cases g1:m<8
  ·rw [XaZ g1,if_pos g1]
  rw [XaO g1,if_neg g1]
  by_cases g2:(s.length:Int)<m
  ·rw [XaZ (by omega),if_pos g2]
  rw [XaO (by omega),if_neg g2,XpO h1 h2 (by omega) (by omega),Option.bind_some]
  generalize Xlw src dst 17 m=p at *
  by_cases g3:p=[]
  ·subst g3;rw [if_pos rfl];rfl
  rw [if_neg g3,show (p==[])=false by simpa using g3,cond_false]
  have hr:XaD (p++s.take m.toNat)=some (((norm (Xdp (p++s.take m.toNat)):Nat):Int)==65535):=Xn2 (by simp;omega)
  by_cases g4:v2 s 6=0
  ·rw [if_pos g4,g4]
   simp only [beq_self_eq_true,cond_true,bne_self_eq_false,cond_false]
   cases src.V6
   ·rw [if_neg (by decide),cond_false,XaL (by omega)]
   ·rw [if_pos rfl,cond_true]
  ·rw [if_neg g4,show (v2 s 6==0)=false by simpa using g4,show (v2 s 6 !=0)=true by simpa using g4]
   simp only [cond_false,cond_true]
   rw [XaL (by omega),XaL (by simp only [List.length_take];omega),hr,Option.bind_some,XaL (by omega)]
   by_cases g5:norm (Xdp (p++s.take m.toNat))=65535
   ·rw [if_neg (by simpa using g5),g5];rfl
   ·rw [if_pos (by simpa using g5),show ((((norm (Xdp (p++s.take m.toNat)):Nat):Int)==65535))=false by simp;omega];rfl
theorem Xw6 {s:List UInt8} {src dst:Xab} (h1:A4 src) (h2:A4 dst) (hs:s.length<2^38):Xew s src dst=some (Xfj s src dst):=by
 unfold Xew Xjn Xfj
 by_cases h8:s.length<8
 ·rw [if_pos h8,XaZ (by omega)];rfl
 rw [if_neg h8,XaO (by omega),show (4:Int)=((4:Nat):Int) from rfl,show (6:Int)=((6:Nat):Int) from rfl,show Xaj s 0 2=Xaj s ((0:Nat):Int) 2 from rfl,show Xaj s 2 2=Xaj s ((2:Nat):Int) 2 from rfl,Xya (by omega) (by omega),Xya (by omega) (by omega),Xya (by omega) (by omega),Xya (by omega) (by omega)]
 simp only [Option.bind_some]
 have r4:=XmZ s 4
 have hp:=Xl8 src dst 17 (v2 s 4)
 have hz:(⟨0,0⟩:XaV)=XpQ:=rfl
 rw [hz]
 generalize hm:v2 s 4=m at *
 by_cases g1:m<8
 ·rw [XaZ g1,if_pos g1]
 rw [XaO g1,if_neg g1]
 by_cases g2:(s.length:Int)<m
 ·rw [XaZ (by omega),if_pos g2]
 rw [XaO (by omega),if_neg g2,Xnh h1 h2 (by omega) (by omega),Option.bind_some]
 generalize Xlw src dst 17 m=p at *
 by_cases g3:p=[]
 ·subst g3;rw [if_pos rfl];rfl
 rw [if_neg g3,show (p==[])=false by simpa using g3,cond_false]
 by_cases g4:v2 s 6=0
 ·rw [if_pos g4,g4]
  simp only [beq_self_eq_true,cond_true]
  cases src.V6
  ·rw [if_neg (by decide),cond_false,XaL (by omega)]
  ·rw [if_pos rfl,cond_true]
 ·rw [if_neg g4,show (v2 s 6==0)=false by simpa using g4]
  simp only [cond_false]
  rw [XaL (by omega),XaL (by simp only [List.length_take];omega),Xlf (by simp;omega),Option.bind_some,XaL (by omega)]
  by_cases g5:norm (Xdp (p++s.take m.toNat))=65535
  ·rw [if_neg (by simpa using g5),g5];rfl
  ·rw [if_pos (by simpa using g5),show ((((norm (Xdp (p++s.take m.toNat)):Nat):Int) !=65535))=true by simp;omega];rfl
end Go.Vm.Code
namespace Go.Vm.Code
open Go Go.Vm Go.Proofs
set_option maxRecDepth 100000
set_option maxHeartbeats 4000000
set_option linter.unusedVariables false
def XcQ (Xaf:Xaa→Option (Bool×Xaa)) (Xac:Xaa→Int→Option ((List UInt8)×Xaa)) (ra0:Xaa):Option ((List UInt8)×Xaa):=
 (Xaf ra0).bind fun b=>
 cond (b.1)
  (
  some (([],b.2)))
  (
  (Xac b.2 (b.2.s.length:Int)).bind fun t=>
  some ((t.1,t.2)))
def rx65 (x:(List UInt8)×Xaa):Xcw:=⟨.string ⟨⟨x.1⟩⟩,[],[some [.string ⟨⟨x.2.s⟩⟩,.bool x.2.made,.bool x.2.bad]]⟩
def r65 (g:Xaa→Option ((List UInt8)×Xaa)):Dec:=dPt 0 XcE fun (y0:Xaa)=>Xdd (ofG (g y0) rx65)
theorem r65_c {g:Xaa→Option ((List UInt8)×Xaa)} {y0:Xaa} {x:(List UInt8)×Xaa} (hx:g y0=some x):r65 g [.pointer (some ⟨0,0,none⟩)] [some [.string ⟨⟨y0.s⟩⟩,.bool y0.made,.bool y0.bad]]=some (rx65 x):=(Xkt (XdU _)).trans (Xa3 hx)
def s65 (g:Xaa→Option ((List UInt8)×Xaa)):Xbu:=⟨[.pt 3],r65 g⟩
theorem XzN {g:Xaa→Option ((List UInt8)×Xaa)} {y0:Xaa} {x:(List UInt8)×Xaa} (hx:g y0=some x):(s65 g).run [.pointer (some ⟨0,0,none⟩)] [some [.string ⟨⟨y0.s⟩⟩,.bool y0.made,.bool y0.bad]]=some (rx65 x):=r65_c hx
abbrev Xz7 (Xaf:Xaa→Option (Bool×Xaa)) (Xac:Xaa→Int→Option ((List UInt8)×Xaa)):List (Nat×Xbu):=[(63,s63 Xaf),(64,s64 Xac)]
theorem XCu (Xaf:Xaa→Option (Bool×Xaa)) (Xac:Xaa→Int→Option ((List UInt8)×Xaa)) (hS:Xah Tryz.prog (Xav (Xz7 Xaf Xac))) (ra0:Xaa) (res:(List UInt8)×Xaa) (h:XcQ Xaf Xac ra0=some res) :
 XaK Tryz.prog 65 1 ⟨⟨65,12,[(0,.pointer (some ⟨0,0,none⟩))],[.code XG1],[],false,none⟩,[],[(0,.cells [.string ⟨⟨ra0.s⟩⟩,.bool ra0.made,.bool ra0.bad])],1⟩ (fun v H _=>Res 1 (rx65 res) v H):=by
 unfold XcQ at h
 refine Xbi Xan hS true 3000 ?_
 conv=>whnf
 replace h:=Xai.elim h;obtain ⟨b,hy,h⟩:=h
 refine XaJ.Xbe [0] (Xaw (aqs:=[.pointer (some ⟨0,0,none⟩)]) (ws:=[.win 0 0 3 true]) (n:=0) (m:=0) (t':=1) (Xau rfl rfl Xbg) rfl (by rfl) (XjI hy) rfl rfl rfl rfl (XbD rfl rfl rfl ⟨rfl,Nat.le_of_ble_eq_true rfl⟩ rfl rfl Xbf) Xbc rfl) ?_
 conv=>whnf
 refine br.h h (by rfl) ?_ ?_
 ·clear h;intro hb h;conv=>whnf
  all_goals (cases h)
  all_goals exact Res.of [] rfl Xhe (by decide) Xhc (XlM (rfl) (XbW rfl) Xhb)
 clear h;intro hb h;conv=>whnf
 replace h:=Xai.elim h;obtain ⟨t,hy,h⟩:=h
 refine XaJ.Xbe [0] (Xaw (aqs:=[.pointer (some ⟨0,0,none⟩),.int .i64 (b.2.s.length:Int)]) (ws:=[.win 0 0 3 true]) (n:=0) (m:=0) (t':=1) (Xau rfl rfl (Xau rfl rfl Xbg)) rfl (by rfl) (Xhl hy) rfl rfl rfl rfl (XbD rfl rfl rfl ⟨rfl,Nat.le_of_ble_eq_true rfl⟩ rfl rfl Xbf) Xbc rfl) ?_
 conv=>whnf
 all_goals (cases h)
 all_goals exact Res.of [] rfl Xhe (by decide) Xhc (XlM (rfl) (XbW rfl) Xhb)
theorem ok65 (Xaf:Xaa→Option (Bool×Xaa)) (Xac:Xaa→Int→Option ((List UInt8)×Xaa)) (hS:Xah Tryz.prog (Xav (Xz7 Xaf Xac))):Xar Tryz.prog 65 (s65 (XcQ Xaf Xac)):=by
 refine Xar.Xax Xan (fun ar os r ha hr=>?_) ⟨Tryz.f65,rfl,by decide,rfl⟩
 replace hr:r65 (XcQ Xaf Xac) ar (XaH os)=some r:=hr
 unfold r65 at hr
 generalize hc:XaH os=C at hr
 have hq:=dPt.elim hr;clear hr;obtain ⟨c0,l1,C,y0,rfl,rfl,e0,hr⟩:=hq;obtain rfl:=Xc2 _ _ e0
 replace hr:=Xdw hr;obtain ⟨rfl,rfl,x,h,rfl⟩:=hr
 obtain ⟨os,rfl,ha,hc⟩:=Xc3 ha hc
 obtain rfl:=Xat hc
 exact ⟨_,rfl,XCu Xaf Xac hS _ x h⟩
def Xa2:Xaa→Option ((List UInt8)×Xaa):=XcQ Xaf Xac
theorem XHW:Xar Tryz.prog 65 (s65 Xa2):=ok65 Xaf Xac (Xah.Xa0 ⟨XnI,XlG,trivial⟩)
def Xh7 (Xaf:Xaa→Option (Bool×Xaa)) (Xad:Xaa→Int→Option (Int×Xaa)) (Xac:Xaa→Int→Option ((List UInt8)×Xaa)) (ra0:Xaa):Option ((List UInt8)×Int×Xaa):=
 (Xad ra0 1).bind fun n=>
 (Xaf n.2).bind fun b=>
 cond (!b.1)
  (
  cond (decide (n.1>20))
   (
   some (([],3,b.2)))
   (
   (Xac b.2 n.1).bind fun t=>
   (Xaf t.2).bind fun b1=>
   cond (b1.1)
    (
    some (([],2,b1.2)))
    (
    some ((t.1,0,b1.2)))))
  (
  (Xac b.2 n.1).bind fun t1=>
  (Xaf t1.2).bind fun b2=>
  cond (b2.1)
   (
   some (([],2,b2.2)))
   (
   some ((t1.1,0,b2.2))))
def rx67 (x:(List UInt8)×Int×Xaa):Xcw:=⟨.tuple ⟨[.string ⟨⟨x.1⟩⟩,.int .i64 x.2.1]⟩,[],[some [.string ⟨⟨x.2.2.s⟩⟩,.bool x.2.2.made,.bool x.2.2.bad]]⟩
def r67 (g:Xaa→Option ((List UInt8)×Int×Xaa)):Dec:=dPt 0 XcE fun (y0:Xaa)=>Xdd (ofG (g y0) rx67)
theorem r67_c {g:Xaa→Option ((List UInt8)×Int×Xaa)} {y0:Xaa} {x:(List UInt8)×Int×Xaa} (hx:g y0=some x):r67 g [.pointer (some ⟨0,0,none⟩)] [some [.string ⟨⟨y0.s⟩⟩,.bool y0.made,.bool y0.bad]]=some (rx67 x):=(Xkt (XdU _)).trans (Xa3 hx)
def s67 (g:Xaa→Option ((List UInt8)×Int×Xaa)):Xbu:=⟨[.pt 3],r67 g⟩
theorem XzJ {g:Xaa→Option ((List UInt8)×Int×Xaa)} {y0:Xaa} {x:(List UInt8)×Int×Xaa} (hx:g y0=some x):(s67 g).run [.pointer (some ⟨0,0,none⟩)] [some [.string ⟨⟨y0.s⟩⟩,.bool y0.made,.bool y0.bad]]=some (rx67 x):=r67_c hx
abbrev XzX (Xaf:Xaa→Option (Bool×Xaa)) (Xad:Xaa→Int→Option (Int×Xaa)) (Xac:Xaa→Int→Option ((List UInt8)×Xaa)):List (Nat×Xbu):=[(63,s63 Xaf),(62,s62 Xad),(64,s64 Xac)]
theorem XEJ (Xaf:Xaa→Option (Bool×Xaa)) (Xad:Xaa→Int→Option (Int×Xaa)) (Xac:Xaa→Int→Option ((List UInt8)×Xaa)) (hS:Xah Tryz.prog (Xav (XzX Xaf Xad Xac))) (ra0:Xaa) (res:(List UInt8)×Int×Xaa) (h:Xh7 Xaf Xad Xac ra0=some res) :
 XaK Tryz.prog 67 1 ⟨⟨67,21,[(0,.pointer (some ⟨0,0,none⟩))],[.code XzD],[],false,none⟩,[],[(0,.cells [.string ⟨⟨ra0.s⟩⟩,.bool ra0.made,.bool ra0.bad])],1⟩ (fun v H _=>Res 1 (rx67 res) v H):=by
 unfold Xh7 at h
 refine Xbi Xan hS true 3000 ?_
 conv=>whnf
 replace h:=Xai.elim h;obtain ⟨n,hy,h⟩:=h
 refine XaJ.Xbe [0] (Xaw (aqs:=[.pointer (some ⟨0,0,none⟩),.int .i64 1]) (ws:=[.win 0 0 3 true]) (n:=0) (m:=0) (t':=1) (Xau rfl rfl (Xau rfl rfl Xbg)) rfl (by rfl) (XdC hy) rfl rfl rfl rfl (XbD rfl rfl rfl ⟨rfl,Nat.le_of_ble_eq_true rfl⟩ rfl rfl Xbf) Xbc rfl) ?_
 conv=>whnf
 replace h:=Xai.elim h;obtain ⟨b,hy,h⟩:=h
 refine XaJ.Xbe [0] (Xaw (aqs:=[.pointer (some ⟨0,0,none⟩)]) (ws:=[.win 0 0 3 true]) (n:=0) (m:=0) (t':=1) (Xau rfl rfl Xbg) rfl (by rfl) (XjI hy) rfl rfl rfl rfl (XbD rfl rfl rfl ⟨rfl,Nat.le_of_ble_eq_true rfl⟩ rfl rfl Xbf) Xbc rfl) ?_
 conv=>whnf
 refine br.h2 h (by rfl) ?_ ?_
 ·clear h;intro hb h;conv=>whnf
  replace h:=Xai.elim h;obtain ⟨t1,hy,h⟩:=h
  refine XaJ.Xbe [0] (Xaw (aqs:=[.pointer (some ⟨0,0,none⟩),.int .i64 n.1]) (ws:=[.win 0 0 3 true]) (n:=0) (m:=0) (t':=1) (Xau rfl rfl (Xau rfl rfl Xbg)) rfl (by rfl) (Xhl hy) rfl rfl rfl rfl (XbD rfl rfl rfl ⟨rfl,Nat.le_of_ble_eq_true rfl⟩ rfl rfl Xbf) Xbc rfl) ?_
  conv=>whnf
  replace h:=Xai.elim h;obtain ⟨b2,hy,h⟩:=h
  refine XaJ.Xbe [0] (Xaw (aqs:=[.pointer (some ⟨0,0,none⟩)]) (ws:=[.win 0 0 3 true]) (n:=0) (m:=0) (t':=1) (Xau rfl rfl Xbg) rfl (by rfl) (XjI hy) rfl rfl rfl rfl (XbD rfl rfl rfl ⟨rfl,Nat.le_of_ble_eq_true rfl⟩ rfl rfl Xbf) Xbc rfl) ?_
  conv=>whnf
  refine br.h h (by rfl) ?_ ?_
  ·clear h;intro hb h;conv=>whnf
   all_goals (cases h)
   all_goals exact Res.of [] rfl Xhe (by decide) Xhc (XlM (rfl) (XbW rfl) Xhb)
  clear h;intro hb h;conv=>whnf
  all_goals (cases h)
  all_goals exact Res.of [] rfl Xhe (by decide) Xhc (XlM (rfl) (XbW rfl) Xhb)
 clear h;intro hb h;conv=>whnf
 refine br.h h (by rfl) ?_ ?_
 ·clear h;intro hb h;conv=>whnf
  all_goals (cases h)
  all_goals exact Res.of [] rfl Xhe (by decide) Xhc (XlM (rfl) (XbW rfl) Xhb)
 clear h;intro hb h;conv=>whnf
 replace h:=Xai.elim h;obtain ⟨t,hy,h⟩:=h
 refine XaJ.Xbe [0] (Xaw (aqs:=[.pointer (some ⟨0,0,none⟩),.int .i64 n.1]) (ws:=[.win 0 0 3 true]) (n:=0) (m:=0) (t':=1) (Xau rfl rfl (Xau rfl rfl Xbg)) rfl (by rfl) (Xhl hy) rfl rfl rfl rfl (XbD rfl rfl rfl ⟨rfl,Nat.le_of_ble_eq_true rfl⟩ rfl rfl Xbf) Xbc rfl) ?_
 conv=>whnf
 replace h:=Xai.elim h;obtain ⟨b1,hy,h⟩:=h
 refine XaJ.Xbe [0] (Xaw (aqs:=[.pointer (some ⟨0,0,none⟩)]) (ws:=[.win 0 0 3 true]) (n:=0) (m:=0) (t':=1) (Xau rfl rfl Xbg) rfl (by rfl) (XjI hy) rfl rfl rfl rfl (XbD rfl rfl rfl ⟨rfl,Nat.le_of_ble_eq_true rfl⟩ rfl rfl Xbf) Xbc rfl) ?_
 conv=>whnf
 refine br.h h (by rfl) ?_ ?_
 ·clear h;intro hb h;conv=>whnf
  all_goals (cases h)
  all_goals exact Res.of [] rfl Xhe (by decide) Xhc (XlM (rfl) (XbW rfl) Xhb)
 clear h;intro hb h;conv=>whnf
 all_goals (cases h)
 all_goals exact Res.of [] rfl Xhe (by decide) Xhc (XlM (rfl) (XbW rfl) Xhb)
theorem ok67 (Xaf:Xaa→Option (Bool×Xaa)) (Xad:Xaa→Int→Option (Int×Xaa)) (Xac:Xaa→Int→Option ((List UInt8)×Xaa)) (hS:Xah Tryz.prog (Xav (XzX Xaf Xad Xac))):Xar Tryz.prog 67 (s67 (Xh7 Xaf Xad Xac)):=by
 refine Xar.Xax Xan (fun ar os r ha hr=>?_) ⟨Tryz.f67,rfl,by decide,rfl⟩
 replace hr:r67 (Xh7 Xaf Xad Xac) ar (XaH os)=some r:=hr
 unfold r67 at hr
 generalize hc:XaH os=C at hr
 have hq:=dPt.elim hr;clear hr;obtain ⟨c0,l1,C,y0,rfl,rfl,e0,hr⟩:=hq;obtain rfl:=Xc2 _ _ e0
 replace hr:=Xdw hr;obtain ⟨rfl,rfl,x,h,rfl⟩:=hr
 obtain ⟨os,rfl,ha,hc⟩:=Xc3 ha hc
 obtain rfl:=Xat hc
 exact ⟨_,rfl,XEJ Xaf Xad Xac hS _ x h⟩
def XdD:Xaa→Option ((List UInt8)×Int×Xaa):=Xh7 Xaf Xad Xac
theorem XLg:Xar Tryz.prog 67 (s67 XdD):=ok67 Xaf Xad Xac (Xah.Xa0 ⟨XnI,Xnq,XlG,trivial⟩)
def Xh0 (Xay:(List UInt8)→Option Xaa) (Xaf:Xaa→Option (Bool×Xaa)) (Xad:Xaa→Int→Option (Int×Xaa)) (Xa2:Xaa→Option ((List UInt8)×Xaa)) (Xac:Xaa→Int→Option ((List UInt8)×Xaa)) (XdD:Xaa→Option ((List UInt8)×Int×Xaa)) (s:List UInt8):Option (XaI×Int):=
 (Xay s).bind fun n=>
 (Xad n 1).bind fun n1=>
 (Xaf n1.2).bind fun b=>
 cond (b.1)
  (
  some ((XaI.mk false 0 0 [] [] [],2)))
  (
  cond ((Xjp .i64 n1.1 64)==0)
   (
   some ((XaI.mk false 0 0 [] [] [],3)))
   (
   cond (!((Xjp .i64 n1.1 128) !=0))
    (
    (Xac b.2 8).bind fun t=>
    (Xaf t.2).bind fun b1=>
    cond (b1.1)
     (
     some ((XaI.mk false 0 0 [] [] [],2)))
     (
     (Xa2 b1.2).bind fun xr=>
     some ((XaI.mk ((Xjp .i64 n1.1 128) !=0) (Xjp .i64 n1.1 63) 0 t.1 [] xr.1,0))))
    (
    (Xad b.2 4).bind fun n2=>
    (XdD n2.2).bind fun i=>
    cond (i.2.1 !=0)
     (
     some ((XaI.mk false 0 0 [] [] [],i.2.1)))
     (
     (XdD i.2.2).bind fun i1=>
     cond (i1.2.1 !=0)
      (
      some ((XaI.mk false 0 0 [] [] [],i1.2.1)))
      (
      (Xa2 i1.2.2).bind fun xr1=>
      some ((XaI.mk ((Xjp .i64 n1.1 128) !=0) (Xjp .i64 n1.1 63) (wI .u32 n2.1) i.1 i1.1 xr1.1,0)))))))
def rx39 (x:XaI×Int):Xcw:=⟨.tuple ⟨[.agg ⟨[.bool x.1.Long,.int .i64 x.1.Bits,.int .u32 x.1.Version,.string ⟨⟨x.1.DCID⟩⟩,.string ⟨⟨x.1.SCID⟩⟩,.string ⟨⟨x.1.Rest⟩⟩]⟩,.int .i64 x.2]⟩,[],[]⟩
def r39 (g:(List UInt8)→Option (XaI×Int)):Dec:=dV asS fun (y0:List UInt8)=>Xdd (ofG (g y0) rx39)
theorem r39_c {g:(List UInt8)→Option (XaI×Int)} {y0:List UInt8} {x:XaI×Int} (hx:g y0=some x):r39 g [.string ⟨⟨y0⟩⟩] []=some (rx39 x):=(XaX (XcI)).trans (Xa3 hx)
def s39 (g:(List UInt8)→Option (XaI×Int)):Xbu:=⟨[.v],r39 g⟩
theorem XAj {g:(List UInt8)→Option (XaI×Int)} {y0:List UInt8} {x:XaI×Int} (hx:g y0=some x):(s39 g).run [.string ⟨⟨y0⟩⟩] []=some (rx39 x):=r39_c hx
abbrev XAI (Xay:(List UInt8)→Option Xaa) (Xaf:Xaa→Option (Bool×Xaa)) (Xad:Xaa→Int→Option (Int×Xaa)) (Xa2:Xaa→Option ((List UInt8)×Xaa)) (Xac:Xaa→Int→Option ((List UInt8)×Xaa)) (XdD:Xaa→Option ((List UInt8)×Int×Xaa)):List (Nat×Xbu):=[(61,s61 Xay),(63,s63 Xaf),(62,s62 Xad),(65,s65 Xa2),(64,s64 Xac),(67,s67 XdD)]
theorem XFa (Xay:(List UInt8)→Option Xaa) (Xaf:Xaa→Option (Bool×Xaa)) (Xad:Xaa→Int→Option (Int×Xaa)) (Xa2:Xaa→Option ((List UInt8)×Xaa)) (Xac:Xaa→Int→Option ((List UInt8)×Xaa)) (XdD:Xaa→Option ((List UInt8)×Int×Xaa)) (hS:Xah Tryz.prog (Xav (XAI Xay Xaf Xad Xa2 Xac XdD))) (s:List UInt8) (res:XaI×Int) (h:Xh0 Xay Xaf Xad Xa2 Xac XdD s=some res) :
 XaK Tryz.prog 39 0 ⟨⟨39,60,[(0,.string ⟨⟨s⟩⟩)],[.code XAn],[],false,none⟩,[],[],0⟩ (fun v H _=>Res 0 (rx39 res) v H):=by
 unfold Xh0 at h
 refine Xbi Xan hS true 3000 ?_
 conv=>whnf
 replace h:=Xai.elim h;obtain ⟨n,hy,h⟩:=h
 refine XaJ.Xbe [1] (Xaw (aqs:=[.string ⟨⟨s⟩⟩]) (ws:=[]) (n:=1) (m:=0) (t':=2) (Xau rfl rfl Xbg) rfl (by rfl) (XoW hy) rfl rfl rfl rfl Xbf (Xhw (rfl) Xbc) rfl) ?_
 conv=>whnf
 replace h:=Xai.elim h;obtain ⟨n1,hy,h⟩:=h
 refine XaJ.Xbe [1] (Xaw (aqs:=[.pointer (some ⟨0,0,none⟩),.int .i64 1]) (ws:=[.win 1 0 3 true]) (n:=0) (m:=0) (t':=2) (Xau rfl rfl (Xau rfl rfl Xbg)) rfl (by rfl) (XdC hy) rfl rfl rfl rfl (XbD rfl rfl rfl ⟨rfl,Nat.le_of_ble_eq_true rfl⟩ rfl rfl Xbf) Xbc rfl) ?_
 conv=>whnf
 replace h:=Xai.elim h;obtain ⟨b,hy,h⟩:=h
 refine XaJ.Xbe [1] (Xaw (aqs:=[.pointer (some ⟨0,0,none⟩)]) (ws:=[.win 1 0 3 true]) (n:=0) (m:=0) (t':=2) (Xau rfl rfl Xbg) rfl (by rfl) (XjI hy) rfl rfl rfl rfl (XbD rfl rfl rfl ⟨rfl,Nat.le_of_ble_eq_true rfl⟩ rfl rfl Xbf) Xbc rfl) ?_
 conv=>whnf
 refine br.h h (by rfl) ?_ ?_
 ·clear h;intro hb h;conv=>whnf
  all_goals (cases h;exact Res.y)
 clear h;intro hb h;conv=>whnf
 refine br.h h (by rfl) ?_ ?_
 ·clear h;intro hb h;conv=>whnf
  all_goals (cases h;exact Res.y)
 clear h;intro hb h;conv=>whnf
 refine br.h h (by rfl) ?_ ?_
 ·clear h;intro hb h;conv=>whnf
  replace h:=Xai.elim h;obtain ⟨t,hy,h⟩:=h
  refine XaJ.Xbe [1] (Xaw (aqs:=[.pointer (some ⟨0,0,none⟩),.int .i64 8]) (ws:=[.win 1 0 3 true]) (n:=0) (m:=0) (t':=3) (Xau rfl rfl (Xau rfl rfl Xbg)) rfl (by rfl) (Xhl hy) rfl rfl rfl rfl (XbD rfl rfl rfl ⟨rfl,Nat.le_of_ble_eq_true rfl⟩ rfl rfl Xbf) Xbc rfl) ?_
  conv=>whnf
  replace h:=Xai.elim h;obtain ⟨b1,hy,h⟩:=h
  refine XaJ.Xbe [1] (Xaw (aqs:=[.pointer (some ⟨0,0,none⟩)]) (ws:=[.win 1 0 3 true]) (n:=0) (m:=0) (t':=3) (Xau rfl rfl Xbg) rfl (by rfl) (XjI hy) rfl rfl rfl rfl (XbD rfl rfl rfl ⟨rfl,Nat.le_of_ble_eq_true rfl⟩ rfl rfl Xbf) Xbc rfl) ?_
  conv=>whnf
  refine br.h h (by rfl) ?_ ?_
  ·clear h;intro hb h;conv=>whnf
   all_goals (cases h;exact Res.y)
  clear h;intro hb h;conv=>whnf
  replace h:=Xai.elim h;obtain ⟨xr,hy,h⟩:=h
  refine XaJ.Xbe [1] (Xaw (aqs:=[.pointer (some ⟨0,0,none⟩)]) (ws:=[.win 1 0 3 true]) (n:=0) (m:=0) (t':=3) (Xau rfl rfl Xbg) rfl (by rfl) (XzN hy) rfl rfl rfl rfl (XbD rfl rfl rfl ⟨rfl,Nat.le_of_ble_eq_true rfl⟩ rfl rfl Xbf) Xbc rfl) ?_
  conv=>whnf
  all_goals (cases h;exact Res.y)
 clear h;intro hb h;conv=>whnf
 replace h:=Xai.elim h;obtain ⟨n2,hy,h⟩:=h
 refine XaJ.Xbe [1] (Xaw (aqs:=[.pointer (some ⟨0,0,none⟩),.int .i64 4]) (ws:=[.win 1 0 3 true]) (n:=0) (m:=0) (t':=3) (Xau rfl rfl (Xau rfl rfl Xbg)) rfl (by rfl) (XdC hy) rfl rfl rfl rfl (XbD rfl rfl rfl ⟨rfl,Nat.le_of_ble_eq_true rfl⟩ rfl rfl Xbf) Xbc rfl) ?_
 conv=>whnf
 refine Xbi Xan hS true 3000 ?_
 conv=>whnf
 replace h:=Xai.elim h;obtain ⟨i,hy,h⟩:=h
 refine XaJ.Xbe [1] (Xaw (aqs:=[.pointer (some ⟨0,0,none⟩)]) (ws:=[.win 1 0 3 true]) (n:=0) (m:=0) (t':=4) (Xau rfl rfl Xbg) rfl (by rfl) (XzJ hy) rfl rfl rfl rfl (XbD rfl rfl rfl ⟨rfl,Nat.le_of_ble_eq_true rfl⟩ rfl rfl Xbf) Xbc rfl) ?_
 conv=>whnf
 refine br.h h (by rfl) ?_ ?_
 ·clear h;intro hb h;conv=>whnf
  refine br.pos ?_ ?_;(focus (clear h;first|assumption|(simp_all;done)))
  conv=>whnf
  all_goals (cases h;exact Res.y)
 clear h;intro hb h;conv=>whnf
 refine Xbi Xan hS true 3000 ?_
 conv=>whnf
 replace h:=Xai.elim h;obtain ⟨i1,hy,h⟩:=h
 refine XaJ.Xbe [1] (Xaw (aqs:=[.pointer (some ⟨0,0,none⟩)]) (ws:=[.win 1 0 3 true]) (n:=0) (m:=0) (t':=4) (Xau rfl rfl Xbg) rfl (by rfl) (XzJ hy) rfl rfl rfl rfl (XbD rfl rfl rfl ⟨rfl,Nat.le_of_ble_eq_true rfl⟩ rfl rfl Xbf) Xbc rfl) ?_
 conv=>whnf
 refine br.h h (by rfl) ?_ ?_
 ·clear h;intro hb h;conv=>whnf
  refine br.pos ?_ ?_;(focus (clear h;first|assumption|(simp_all;done)))
  conv=>whnf
  all_goals (cases h;exact Res.y)
 clear h;intro hb h;conv=>whnf
 refine Xbi Xan hS true 3000 ?_
 conv=>whnf
 replace h:=Xai.elim h;obtain ⟨xr1,hy,h⟩:=h
 refine XaJ.Xbe [1] (Xaw (aqs:=[.pointer (some ⟨0,0,none⟩)]) (ws:=[.win 1 0 3 true]) (n:=0) (m:=0) (t':=4) (Xau rfl rfl Xbg) rfl (by rfl) (XzN hy) rfl rfl rfl rfl (XbD rfl rfl rfl ⟨rfl,Nat.le_of_ble_eq_true rfl⟩ rfl rfl Xbf) Xbc rfl) ?_
 conv=>whnf
 all_goals (cases h;exact Res.y)
theorem ok39 (Xay:(List UInt8)→Option Xaa) (Xaf:Xaa→Option (Bool×Xaa)) (Xad:Xaa→Int→Option (Int×Xaa)) (Xa2:Xaa→Option ((List UInt8)×Xaa)) (Xac:Xaa→Int→Option ((List UInt8)×Xaa)) (XdD:Xaa→Option ((List UInt8)×Int×Xaa)) (hS:Xah Tryz.prog (Xav (XAI Xay Xaf Xad Xa2 Xac XdD))):Xar Tryz.prog 39 (s39 (Xh0 Xay Xaf Xad Xa2 Xac XdD)):=by
 refine Xar.Xax Xan (fun ar os r ha hr=>?_) ⟨Tryz.f39,rfl,by decide,rfl⟩
 replace hr:r39 (Xh0 Xay Xaf Xad Xa2 Xac XdD) ar (XaH os)=some r:=hr
 unfold r39 at hr
 generalize hc:XaH os=C at hr
 replace hr:=dV.elim hr;obtain ⟨v0,l1,y0,rfl,e0,hr⟩:=hr;obtain rfl:=XbM _ _ e0
 replace hr:=Xdw hr;obtain ⟨rfl,rfl,x,h,rfl⟩:=hr
 obtain rfl:=Xat hc
 exact ⟨_,rfl,XFa Xay Xaf Xad Xa2 Xac XdD hS _ x h⟩
def XbO:(List UInt8)→Option (XaI×Int):=Xh0 Xay Xaf Xad Xa2 Xac XdD
theorem XzY:Xar Tryz.prog 39 (s39 XbO):=ok39 Xay Xaf Xad Xa2 Xac XdD (Xah.Xa0 ⟨XpX,XnI,Xnq,XHW,XlG,XLg,trivial⟩)
def Xla (s:List UInt8) (ata1:Int):Option ((List UInt8)×Int×Int):=
 cond (decide (ata1≥(s.length:Int)))
  (
  some (([],2,0)))
  (
  XaE (decide (0≤ata1)) <|
  (s[ata1.toNat]?).bind fun (b:UInt8)=>
  cond (decide ((wI .i64 (b.toNat:Int))>20))
   (
   some (([],3,0)))
   (
   let t:=wI .i64 ((wI .i64 ((s.length:Int) - ata1)) - 1)
   cond (decide ((wI .i64 (b.toNat:Int))>t))
    (
    some (([],2,0)))
    (
    let t1:=wI .i64 ((wI .i64 (ata1+1))+(wI .i64 (b.toNat:Int)))
    XaE (decide ((0:Int)≤t1∧t1≤(s.length:Int)∧(0:Int)≤(wI .i64 (ata1+1))∧(wI .i64 (ata1+1))≤(t1.toNat:Int))) <|
    let t2:=(s.drop (wI .i64 (ata1+1)).toNat).take (t1.toNat - (wI .i64 (ata1+1)).toNat)
    let t3:=wI .i64 ((wI .i64 (ata1+1))+(wI .i64 (b.toNat:Int)))
    some ((t2,0,t3)))))
def rx45 (x:(List UInt8)×Int×Int):Xcw:=⟨.tuple ⟨[.string ⟨⟨x.1⟩⟩,.int .i64 x.2.1,.int .i64 x.2.2]⟩,[],[]⟩
def r45 (g:(List UInt8)→Int→Option ((List UInt8)×Int×Int)):Dec:=dV asS fun (y0:List UInt8)=>dV (asI .i64) fun (y1:Int)=>Xdd (ofG (g y0 y1) rx45)
theorem r45_c {g:(List UInt8)→Int→Option ((List UInt8)×Int×Int)} {y0:List UInt8} {y1:Int} {x:(List UInt8)×Int×Int} (hx:g y0 y1=some x):r45 g [.string ⟨⟨y0⟩⟩,.int .i64 y1] []=some (rx45 x):=(XaX (XcI)).trans ((XaX (Xcv _)).trans (Xa3 hx))
def s45 (g:(List UInt8)→Int→Option ((List UInt8)×Int×Int)):Xbu:=⟨[.v,.v],r45 g⟩
theorem XAW {g:(List UInt8)→Int→Option ((List UInt8)×Int×Int)} {y0:List UInt8} {y1:Int} {x:(List UInt8)×Int×Int} (hx:g y0 y1=some x):(s45 g).run [.string ⟨⟨y0⟩⟩,.int .i64 y1] []=some (rx45 x):=r45_c hx
abbrev XAC:List (Nat×Xbu):=[]
theorem XDk (hS:Xah Tryz.prog (Xav (XAC))) (s:List UInt8) (ata1:Int) (res:(List UInt8)×Int×Int) (h:Xla s ata1=some res) :
 XaK Tryz.prog 45 0 ⟨⟨45,37,[(0,.string ⟨⟨s⟩⟩),(1,.int .i64 ata1)],[.code XAy],[],false,none⟩,[],[],0⟩ (fun v H _=>Res 0 (rx45 res) v H):=by
 unfold Xla at h
 refine Xbi Xan hS true 3000 ?_
 conv=>whnf
 refine br.h h (by rfl) ?_ ?_
 ·clear h;intro hb h;conv=>whnf
  all_goals (cases h;exact Res.y)
 clear h;intro hb h;conv=>whnf
 replace h:=XaE.elim h;obtain ⟨hb,h⟩:=h
 try (refine req.intro hb ?_;conv=>whnf)
 replace h:=Xai.elim h;obtain ⟨b,hy,h⟩:=h
 refine rdS.intro hy ?_
 conv=>whnf
 refine br.h h (by rfl) ?_ ?_
 ·clear h;intro hb h;conv=>whnf
  all_goals (cases h;exact Res.y)
 clear h;intro hb h;conv=>whnf
 let t:Int:=wI .i64 ((wI .i64 ((s.length:Int) - ata1)) - 1)
 refine br.h h (by rfl) ?_ ?_
 ·clear h;intro hb h;conv=>whnf
  all_goals (cases h;exact Res.y)
 clear h;intro hb h;conv=>whnf
 let t1:Int:=wI .i64 ((wI .i64 (ata1+1))+(wI .i64 (b.toNat:Int)))
 replace h:=XaE.elim h;obtain ⟨hb,h⟩:=h
 try (refine req.intro hb ?_;conv=>whnf)
 let t2:List UInt8:=(s.drop (wI .i64 (ata1+1)).toNat).take (t1.toNat - (wI .i64 (ata1+1)).toNat)
 let t3:Int:=wI .i64 ((wI .i64 (ata1+1))+(wI .i64 (b.toNat:Int)))
 all_goals (cases h;exact Res.y)
theorem ok45 (hS:Xah Tryz.prog (Xav (XAC))):Xar Tryz.prog 45 (s45 (Xla)):=by
 refine Xar.Xax Xan (fun ar os r ha hr=>?_) ⟨Tryz.f45,rfl,by decide,rfl⟩
 replace hr:r45 (Xla) ar (XaH os)=some r:=hr
 unfold r45 at hr
 generalize hc:XaH os=C at hr
 replace hr:=dV.elim hr;obtain ⟨v0,l1,y0,rfl,e0,hr⟩:=hr;obtain rfl:=XbM _ _ e0
 replace hr:=dV.elim hr;obtain ⟨v1,l2,y1,rfl,e1,hr⟩:=hr;obtain rfl:=XbF _ _ _ e1
 replace hr:=Xdw hr;obtain ⟨rfl,rfl,x,h,rfl⟩:=hr
 obtain rfl:=Xat hc
 exact ⟨_,rfl,XDk hS _ _ x h⟩
def XfK:(List UInt8)→Int→Option ((List UInt8)×Int×Int):=Xla
theorem XIN:Xar Tryz.prog 45 (s45 XfK):=ok45 (Xah.Xa0 trivial)
def Xjr (Xaj:(List UInt8)→Int→Int→Option Int) (XfK:(List UInt8)→Int→Option ((List UInt8)×Int×Int)) (s:List UInt8):Option (XaI×Int):=
 cond (s==[])
  (
  some ((XaI.mk false 0 0 [] [] [],2)))
  (
  (s[0]?).bind fun (b:UInt8)=>
  let t:=(wI .u8 ((b.toNat:Int).tdiv 64)).tmod 2
  cond (t==0)
   (
   some ((XaI.mk false 0 0 [] [] [],3)))
   (
   (s[0]?).bind fun (b1:UInt8)=>
   (s[0]?).bind fun (b2:UInt8)=>
   cond (!(decide ((b1.toNat:Int)≥128)))
    (
    cond (decide ((s.length:Int)<9))
     (
     some ((XaI.mk false 0 0 [] [] [],2)))
     (
     XaE (decide ((0:Int)≤(9:Int)∧(9:Int)≤(s.length:Int)∧(0:Int)≤(1:Int)∧(1:Int)≤(9:Int))) <|
     XaE (decide ((0:Int)≤(9:Int)∧(9:Int)≤(s.length:Int))) <|
     some ((XaI.mk (decide ((b1.toNat:Int)≥128)) (wI .i64 ((b2.toNat:Int).tmod 64)) 0 ((s.drop 1).take 8) [] ((s.drop 9).take (s.length - 9)),0))))
    (
    cond (decide ((s.length:Int)<5))
     (
     some ((XaI.mk false 0 0 [] [] [],2)))
     (
     (Xaj s 1 4).bind fun m=>
     (XfK s 5).bind fun i=>
     cond (i.2.1 !=0)
      (
      some ((XaI.mk false 0 0 [] [] [],i.2.1)))
      (
      (XfK s i.2.2).bind fun i1=>
      cond (i1.2.1 !=0)
       (
       some ((XaI.mk false 0 0 [] [] [],i1.2.1)))
       (
       XaE (decide ((0:Int)≤i1.2.2∧i1.2.2≤(s.length:Int))) <|
       let t1:=(s.drop i1.2.2.toNat).take (s.length - i1.2.2.toNat)
       some ((XaI.mk (decide ((b1.toNat:Int)≥128)) (wI .i64 ((b2.toNat:Int).tmod 64)) (wI .u32 m) i.1 i1.1 t1,0))))))))
def rx21 (x:XaI×Int):Xcw:=⟨.tuple ⟨[.agg ⟨[.bool x.1.Long,.int .i64 x.1.Bits,.int .u32 x.1.Version,.string ⟨⟨x.1.DCID⟩⟩,.string ⟨⟨x.1.SCID⟩⟩,.string ⟨⟨x.1.Rest⟩⟩]⟩,.int .i64 x.2]⟩,[],[]⟩
def r21 (g:(List UInt8)→Option (XaI×Int)):Dec:=dV asS fun (y0:List UInt8)=>Xdd (ofG (g y0) rx21)
theorem r21_c {g:(List UInt8)→Option (XaI×Int)} {y0:List UInt8} {x:XaI×Int} (hx:g y0=some x):r21 g [.string ⟨⟨y0⟩⟩] []=some (rx21 x):=(XaX (XcI)).trans (Xa3 hx)
def s21 (g:(List UInt8)→Option (XaI×Int)):Xbu:=⟨[.v],r21 g⟩
theorem XoX {g:(List UInt8)→Option (XaI×Int)} {y0:List UInt8} {x:XaI×Int} (hx:g y0=some x):(s21 g).run [.string ⟨⟨y0⟩⟩] []=some (rx21 x):=r21_c hx
abbrev XAK (Xaj:(List UInt8)→Int→Int→Option Int) (XfK:(List UInt8)→Int→Option ((List UInt8)×Int×Int)):List (Nat×Xbu):=[(44,s44 Xaj),(45,s45 XfK)]
theorem XDL (Xaj:(List UInt8)→Int→Int→Option Int) (XfK:(List UInt8)→Int→Option ((List UInt8)×Int×Int)) (hS:Xah Tryz.prog (Xav (XAK Xaj XfK))) (s:List UInt8) (res:XaI×Int) (h:Xjr Xaj XfK s=some res) :
 XaK Tryz.prog 21 0 ⟨⟨21,79,[(0,.string ⟨⟨s⟩⟩)],[.code XBa],[],false,none⟩,[],[],0⟩ (fun v H _=>Res 0 (rx21 res) v H):=by
 unfold Xjr at h
 refine Xbi Xan hS true 3000 ?_
 conv=>whnf
 refine br.h h (by rfl) ?_ ?_
 ·clear h;intro hb h;conv=>whnf
  all_goals (cases h;exact Res.y)
 clear h;intro hb h;conv=>whnf
 replace h:=Xai.elim h;obtain ⟨b,hy,h⟩:=h
 refine rdS.intro hy ?_
 conv=>whnf
 let t:Int:=(wI .u8 ((b.toNat:Int).tdiv 64)).tmod 2
 refine br.h h (by rfl) ?_ ?_
 ·clear h;intro hb h;conv=>whnf
  all_goals (cases h;exact Res.y)
 clear h;intro hb h;conv=>whnf
 replace h:=Xai.elim h;obtain ⟨b1,hy,h⟩:=h
 refine rdS.intro hy ?_
 conv=>whnf
 replace h:=Xai.elim h;obtain ⟨b2,hy,h⟩:=h
 refine rdS.intro hy ?_
 conv=>whnf
 refine br.h h (by rfl) ?_ ?_
 ·clear h;intro hb h;conv=>whnf
  refine br.h h (by rfl) ?_ ?_
  ·clear h;intro hb h;conv=>whnf
   all_goals (cases h;exact Res.y)
  clear h;intro hb h;conv=>whnf
  replace h:=XaE.elim h;obtain ⟨hb,h⟩:=h
  try (refine req.intro hb ?_;conv=>whnf)
  replace h:=XaE.elim h;obtain ⟨hb,h⟩:=h
  try (refine req.intro hb ?_;conv=>whnf)
  all_goals (cases h;exact Res.y)
 clear h;intro hb h;conv=>whnf
 refine br.h h (by rfl) ?_ ?_
 ·clear h;intro hb h;conv=>whnf
  all_goals (cases h;exact Res.y)
 clear h;intro hb h;conv=>whnf
 replace h:=Xai.elim h;obtain ⟨m,hy,h⟩:=h
 refine XaJ.p (XeO hy) ?_
 conv=>whnf
 replace h:=Xai.elim h;obtain ⟨i,hy,h⟩:=h
 refine XaJ.p (XAW hy) ?_
 conv=>whnf
 refine br.h h (by rfl) ?_ ?_
 ·clear h;intro hb h;conv=>whnf
  all_goals (cases h;exact Res.y)
 clear h;intro hb h;conv=>whnf
 replace h:=Xai.elim h;obtain ⟨i1,hy,h⟩:=h
 refine XaJ.p (XAW hy) ?_
 conv=>whnf
 refine br.h h (by rfl) ?_ ?_
 ·clear h;intro hb h;conv=>whnf
  all_goals (cases h;exact Res.y)
 clear h;intro hb h;conv=>whnf
 replace h:=XaE.elim h;obtain ⟨hb,h⟩:=h
 try (refine req.intro hb ?_;conv=>whnf)
 let t1:List UInt8:=(s.drop i1.2.2.toNat).take (s.length - i1.2.2.toNat)
 all_goals (cases h;exact Res.y)
theorem ok21 (Xaj:(List UInt8)→Int→Int→Option Int) (XfK:(List UInt8)→Int→Option ((List UInt8)×Int×Int)) (hS:Xah Tryz.prog (Xav (XAK Xaj XfK))):Xar Tryz.prog 21 (s21 (Xjr Xaj XfK)):=by
 refine Xar.Xax Xan (fun ar os r ha hr=>?_) ⟨Tryz.f21,rfl,by decide,rfl⟩
 replace hr:r21 (Xjr Xaj XfK) ar (XaH os)=some r:=hr
 unfold r21 at hr
 generalize hc:XaH os=C at hr
 replace hr:=dV.elim hr;obtain ⟨v0,l1,y0,rfl,e0,hr⟩:=hr;obtain rfl:=XbM _ _ e0
 replace hr:=Xdw hr;obtain ⟨rfl,rfl,x,h,rfl⟩:=hr
 obtain rfl:=Xat hc
 exact ⟨_,rfl,XDL Xaj XfK hS _ x h⟩
def XbX:(List UInt8)→Option (XaI×Int):=Xjr Xaj XfK
theorem XLG:Xar Tryz.prog 21 (s21 XbX):=ok21 Xaj XfK (Xah.Xa0 ⟨Xma,XIN,trivial⟩)
end Go.Vm.Code
namespace Go.Vm.Code
open Go Go.Vm
def Xsl:XaI:=⟨false,0,0,[],[],[]⟩
def idS (s:List UInt8) (p:Nat):List UInt8×Int×Nat:=
 if s.length≤p then ([],2,0) else if 20<b1 s p then ([],3,0) else if s.length<p+1+b1 s p then ([],2,0) else ((s.drop (p+1)).take (b1 s p),0,p+1+b1 s p)
theorem XBN {s:List UInt8} {p:Nat} (h:s.length<2^38):XfK s (p:Int)=some ((idS s p).1,(idS s p).2.1,(((idS s p).2.2:Nat):Int)):=by
 unfold XfK Xla idS
 by_cases h1:s.length≤p
 ·rw [XaZ (by omega),if_pos h1];rfl
 have e1:s[(p:Int).toNat]?=some (s[p]'(by omega)):=by rw [Int.toNat_natCast];exact List.getElem?_eq_getElem (by omega)
 have hb:=XyT s p
 rw [XaO (by omega),if_neg h1,XaL (by omega),e1,Option.bind_some,←XB4 (by omega),XcC (n:=((b1 s p:Nat):Int)) (by omega) (by omega)]
 by_cases h2:20<b1 s p
 ·rw [XaZ (by omega),if_pos h2];rfl
 rw [XaO (by omega),if_neg h2,XcC (n:=(s.length:Int) - p) (by omega) (by omega),XcC (by omega) (by omega),XcC (n:=(p:Int)+1) (by omega) (by omega),XcC (n:=(p:Int)+1+((b1 s p:Nat):Int)) (by omega) (by omega)]
 simp only []
 by_cases h3:s.length<p+1+b1 s p
 ·rw [XaZ (by omega),if_pos h3];rfl
 rw [XaO (by omega),if_neg h3,XaL (by omega)]
 have f1:((p:Int)+1).toNat=p+1:=by omega
 have f2:((p:Int)+1+((b1 s p:Nat):Int)).toNat - (p+1)=b1 s p:=by omega
 rw [f1,f2]
 simp
theorem i17:(if (1:Int)<1∨(1:Int)>7 then -1 else 1:Int)=1:=by decide
theorem i47:(if (4:Int)<1∨(4:Int)>7 then -1 else 4:Int)=4:=by decide
theorem XmV (s:List UInt8) (k:Int):rdr ⟨s,true,true⟩ k=⟨s,true,true⟩:=by unfold rdr;rw [if_pos (.inl rfl)]
theorem XCa (s:List UInt8) (h:s.length<2^38):XdD ⟨s,true,true⟩=some ([],2,⟨s,true,true⟩):=by
 unfold XdD Xh7
 rw [XfF rfl (by simp only [];omega),Option.bind_some]
 simp only [XmV]
 rw [Xd4 rfl,Option.bind_some]
 simp only [Bool.not_true,cond_false]
 rw [XeA rfl,Option.bind_some]
 simp only [XmV]
 rw [Xd4 rfl,Option.bind_some]
 rfl
theorem XzM {s:List UInt8} {p:Nat} (h:s.length<2^38):∃ r,XdD ⟨s.drop p,true,false⟩=some ((idS s p).1,(idS s p).2.1,r)∧((idS s p).2.1=0→r=⟨s.drop (idS s p).2.2,true,false⟩):=by
 have hb:=XyT s p
 have ld:(s.drop p).length=s.length - p:=List.length_drop ..
 unfold XdD Xh7 idS
 rw [XfF rfl (by simp only [];omega),Option.bind_some]
 simp only [rdn,i17]
 by_cases h1:s.length≤p
 ·have hr:rdr ⟨s.drop p,true,false⟩ 1=⟨s.drop p,true,true⟩:=by unfold rdr;rw [if_pos (.inr (.inr (by simp only [];omega)))]
  rw [if_pos h1,hr,Xd4 rfl,Option.bind_some]
  simp only [Bool.not_true,cond_false]
  rw [XeA rfl,Option.bind_some]
  simp only [XmV]
  rw [Xd4 rfl,Option.bind_some]
  exact ⟨_,rfl,fun q=>by cases q⟩
 ·rw [if_neg h1,Xg1 (by omega) (by omega),Xg3 (by omega) (by omega),show (1:Int).toNat=1 from rfl,List.drop_drop,show Xdf ((s.drop p).take 1)=b1 s p from rfl,Xd4 rfl,Option.bind_some]
  simp only [Bool.not_false,cond_true]
  have ld2:(s.drop (p+1)).length=s.length - (p+1):=List.length_drop ..
  by_cases h2:20<b1 s p
  ·rw [XaZ (by omega),if_pos h2]
   exact ⟨_,rfl,fun q=>by cases q⟩
  rw [XaO (by omega),if_neg h2,XeA rfl,Option.bind_some]
  by_cases h3:s.length<p+1+b1 s p
  ·have hr:rdr ⟨s.drop (p+1),true,false⟩ ((b1 s p:Nat):Int)=⟨s.drop (p+1),true,true⟩:=by unfold rdr;rw [if_pos (.inr (.inr (by simp only [];omega)))]
   rw [if_pos h3,hr,Xd4 rfl,Option.bind_some]
   exact ⟨_,rfl,fun q=>by cases q⟩
  ·rw [if_neg h3,Xg1 (by omega) (by omega),Xg3 (by omega) (by omega),Xd4 rfl,Option.bind_some,Int.toNat_natCast,List.drop_drop]
   exact ⟨_,rfl,fun _=>rfl⟩
def XeW (s:List UInt8):XaI×Int:=
 if s=[] then (Xsl,2) else if b1 s 0/64%2=0 then (Xsl,3) else
 if b1 s 0<128 then if s.length<9 then (Xsl,2) else (⟨false,((b1 s 0%64:Nat):Int),0,(s.drop 1).take 8,[],s.drop 9⟩,0)
 else if s.length<5 then (Xsl,2) else if (idS s 5).2.1≠0 then (Xsl,(idS s 5).2.1) else if (idS s (idS s 5).2.2).2.1≠0 then (Xsl,(idS s (idS s 5).2.2).2.1) else
 (⟨true,((b1 s 0%64:Nat):Int),((Xdf ((s.drop 1).take 4):Nat):Int),(idS s 5).1,(idS s (idS s 5).2.2).1,s.drop (idS s (idS s 5).2.2).2.2⟩,0)
theorem XLz:∀ v:Fin 256,((wI .u8 (((v.val:Nat):Int).tdiv 64)).tmod 2=((v.val/64%2:Nat):Int)∧wI .i64 (((v.val:Nat):Int).tmod 64)=((v.val%64:Nat):Int))∧Xjp .i64 ((v.val:Nat):Int) 64=((v.val/64%2*64:Nat):Int)∧Xjp .i64 ((v.val:Nat):Int) 128=((v.val/128*128:Nat):Int)∧Xjp .i64 ((v.val:Nat):Int) 63=((v.val%64:Nat):Int):=by decide +kernel
theorem XG7 {s:List UInt8} {p:Nat} (h:(idS s p).2.1=0):(idS s p).2.2≤s.length:=by
 unfold idS at h ⊢
 split
 ·simp
 split
 ·simp
 split
 ·simp
 ·simp only [];omega
theorem XrO {s:List UInt8} (h:s.length<2^38):XbX s=some (XeW s):=by
 unfold XbX Xjr XeW
 by_cases h0:s=[]
 ·subst h0;rfl
 have hl:0<s.length:=List.length_pos_iff.2 h0
 have hb:=XyT s 0
 obtain ⟨⟨q1,q2⟩,-⟩:=XLz ⟨b1 s 0,hb⟩
 simp only at q1 q2
 have e0:s[0]?=some s[0]:=List.getElem?_eq_getElem hl
 have e1:s[0].toNat=b1 s 0:=(XB4 hl).symm
 have es:(s==[])=false:=by rw [beq_eq_false_iff_ne];exact h0
 rw [es,cond_false,if_neg h0,e0]
 simp only [Option.bind_some,e1,q1,q2]
 by_cases h1:b1 s 0/64%2=0
 ·have:((((b1 s 0/64%2:Nat):Int))==0)=true:=by rw [beq_iff_eq];omega
  rw [this,cond_true,if_pos h1];rfl
 have:((((b1 s 0/64%2:Nat):Int))==0)=false:=by rw [beq_eq_false_iff_ne];omega
 rw [this,cond_false,if_neg h1]
 by_cases h2:b1 s 0<128
 ·rw [decide_eq_false (show ¬ ((b1 s 0:Nat):Int)≥128 by omega),Bool.not_false,cond_true,if_pos h2]
  by_cases h3:s.length<9
  ·rw [XaZ (by omega),if_pos h3];rfl
  rw [XaO (by omega),if_neg h3,XaL (by omega),XaL (by omega),List.take_of_length_le (l:=s.drop 9) (by simp)]
 ·rw [decide_eq_true (show ((b1 s 0:Nat):Int)≥128 by omega),Bool.not_true,cond_false,if_neg h2]
  by_cases h3:s.length<5
  ·rw [XaZ (by omega),if_pos h3];rfl
  have hv:Xdf ((s.drop 1).take 4)<2^32:=XcU _ (by decide)
  have rid5:=XBN (s:=s) (p:=5) h
  rw [show ((5:Nat):Int)=5 from rfl] at rid5
  rw [XaO (by omega),if_neg h3,Xf0 (by omega),Option.bind_some,XfE (by omega) (by omega) (by omega) (by omega),rid5,Option.bind_some]
  simp only []
  by_cases h4:(idS s 5).2.1=0
  ·have:((idS s 5).2.1 !=0)=false:=by rw [bne_eq_false_iff_eq];exact h4
   rw [this,cond_false,if_neg (by omega),XBN h,Option.bind_some]
   simp only []
   by_cases h5:(idS s (idS s 5).2.2).2.1=0
   ·have:((idS s (idS s 5).2.2).2.1 !=0)=false:=by rw [bne_eq_false_iff_eq];exact h5
    have hle:=XG7 h5
    rw [this,cond_false,if_neg (by omega),XaL (by omega),Int.toNat_natCast,List.take_of_length_le (l:=s.drop (idS s (idS s 5).2.2).2.2) (by simp)]
    simp only [show (1:Int).toNat=1 from rfl,show (4:Int).toNat=4 from rfl]
    rw [XcC (n:=((Xdf ((s.drop 1).take 4):Nat):Int)) (by omega) (by omega),Xpv (by omega) (by omega)]
   ·have:((idS s (idS s 5).2.2).2.1 !=0)=true:=by rw [bne_iff_ne];exact h5
    rw [this,cond_true,if_pos h5];rfl
  ·have:((idS s 5).2.1 !=0)=true:=by rw [bne_iff_ne];exact h4
   rw [this,cond_true,if_pos h4];rfl
theorem Xwc {r:Xaa} (h:r.made=true) (hb:r.bad=false):Xa2 r=some (r.s,rdr r r.s.length):=by
 unfold Xa2 XcQ
 rw [Xd4 h,Option.bind_some]
 simp only [hb,cond_false]
 rw [XeA h,Option.bind_some]
 have:rdt r r.s.length=r.s:=by unfold rdt;rw [if_neg (by rw [hb];simp),Int.toNat_natCast,List.take_length]
 rw [this]
theorem Xr2 {s:List UInt8} (h:s.length<2^38):XbO s=some (XeW s):=by
 unfold XbO Xh0 XeW
 by_cases h0:s=[]
 ·subst h0;decide +kernel
 have hl:0<s.length:=List.length_pos_iff.2 h0
 have hb:=XyT s 0
 obtain ⟨-,q1,q2,q3⟩:=XLz ⟨b1 s 0,hb⟩
 simp only at q1 q2 q3
 have l1:(s.drop 1).length=s.length - 1:=List.length_drop ..
 rw [if_neg h0,Xms,Option.bind_some,XfF rfl (by simp only [];omega),Option.bind_some]
 simp only [rdn,i17]
 rw [Xg1 (by omega) (by omega),Xg3 (by omega) (by omega),show (1:Int).toNat=1 from rfl,Xd4 rfl,Option.bind_some,show Xdf (s.take 1)=b1 s 0 from rfl,q1,q2,q3]
 simp only [cond_false]
 by_cases h1:b1 s 0/64%2=0
 ·have:((((b1 s 0/64%2*64:Nat):Int))==0)=true:=by rw [beq_iff_eq];omega
  rw [this,cond_true,if_pos h1];rfl
 have:((((b1 s 0/64%2*64:Nat):Int))==0)=false:=by rw [beq_eq_false_iff_ne];omega
 rw [this,cond_false,if_neg h1]
 by_cases h2:b1 s 0<128
 ·have:((((b1 s 0/128*128:Nat):Int)) !=0)=false:=by rw [bne_eq_false_iff_eq];omega
  rw [this,Bool.not_false,cond_true,if_pos h2,XeA rfl,Option.bind_some]
  by_cases h3:s.length<9
  ·have hr:rdr ⟨s.drop 1,true,false⟩ 8=⟨s.drop 1,true,true⟩:=by unfold rdr;rw [if_pos (.inr (.inr (by simp only [];omega)))]
   rw [if_pos h3,hr,Xd4 rfl,Option.bind_some];rfl
  ·rw [if_neg h3,Xg1 (by omega) (by omega),Xg3 (by omega) (by omega),Xd4 rfl,Option.bind_some]
   simp only [cond_false]
   rw [Xwc rfl rfl,Option.bind_some,List.drop_drop]
   rfl
 ·have:((((b1 s 0/128*128:Nat):Int)) !=0)=true:=by rw [bne_iff_ne];omega
  rw [this,Bool.not_true,cond_false,if_neg h2,XfF rfl (by simp only [];omega),Option.bind_some]
  simp only [rdn,i47]
  by_cases h3:s.length<5
  ·have hr:rdr ⟨s.drop 1,true,false⟩ 4=⟨s.drop 1,true,true⟩:=by unfold rdr;rw [if_pos (.inr (.inr (by simp only [];omega)))]
   rw [if_pos h3,hr,XCa _ (by omega),Option.bind_some];rfl
  have hv:Xdf ((s.drop 1).take 4)<2^32:=XcU _ (by decide)
  obtain ⟨r,er,hr⟩:=XzM (s:=s) (p:=5) h
  rw [if_neg h3,Xg1 (by omega) (by omega),Xg3 (by omega) (by omega),show (4:Int).toNat=4 from rfl,List.drop_drop,er,Option.bind_some]
  simp only []
  by_cases h4:(idS s 5).2.1=0
  ·have:((idS s 5).2.1 !=0)=false:=by rw [bne_eq_false_iff_eq];exact h4
   obtain ⟨r',er',hr'⟩:=XzM (s:=s) (p:=(idS s 5).2.2) h
   rw [this,cond_false,if_neg (by omega),hr h4,er',Option.bind_some]
   simp only []
   by_cases h5:(idS s (idS s 5).2.2).2.1=0
   ·have:((idS s (idS s 5).2.2).2.1 !=0)=false:=by rw [bne_eq_false_iff_eq];exact h5
    rw [this,cond_false,if_neg (by omega),hr' h5,Xwc rfl rfl,Option.bind_some,Xpv (by omega) (by omega)]
   ·have:((idS s (idS s 5).2.2).2.1 !=0)=true:=by rw [bne_iff_ne];exact h5
    rw [this,cond_true,if_pos h5];rfl
  ·have:((idS s 5).2.1 !=0)=true:=by rw [bne_iff_ne];exact h4
   rw [this,cond_true,if_pos h4];rfl
end Go.Vm.Code
namespace Go.Vm.Code
open Go Go.Vm Go.Proofs
set_option maxRecDepth 100000
set_option maxHeartbeats 4000000
set_option linter.unusedVariables false
def Xd3 (Xcf:(List UInt8)→Option (Xak×(List UInt8)×Int)) (XcK:(List UInt8)→Option (Xao×(List UInt8)×Int)) (s:List UInt8):Option (Xap×Int):=
 (s[0]?).bind fun (b:UInt8)=>
 cond (((b.toNat:Int).fdiv (2^4))==4)
  (
  (Xcf s).bind fun xg=>
  cond (xg.2.2 !=0)
   (
   some ((Xap.mk (Xab.mk false 0 0) (Xab.mk false 0 0) 0 [],xg.2.2)))
   (
   let t:=wI .i64 (20+(xg.1.Options.length:Int))
   let t1:=(s.length:Int) !=(wI .i64 (t+(xg.2.1.length:Int)))
   cond (t1)
    (
    some ((Xap.mk (Xab.mk false 0 0) (Xab.mk false 0 0) 0 [],5)))
    (
    some ((Xap.mk xg.1.Src xg.1.Dst xg.1.Proto xg.2.1,0)))))
  (
  cond (((b.toNat:Int).fdiv (2^4))==6)
   (
   (XcK s).bind fun xg1=>
   cond (xg1.2.2 !=0)
    (
    some ((Xap.mk (Xab.mk false 0 0) (Xab.mk false 0 0) 0 [],xg1.2.2)))
    (
    let t2:=(s.length:Int) !=(wI .i64 (40+(xg1.2.1.length:Int)))
    cond (t2)
     (
     some ((Xap.mk (Xab.mk false 0 0) (Xab.mk false 0 0) 0 [],5)))
     (
     some ((Xap.mk xg1.1.Src xg1.1.Dst xg1.1.Next xg1.2.1,0)))))
   (
   some ((Xap.mk (Xab.mk false 0 0) (Xab.mk false 0 0) 0 [],3))))
def rx71 (x:Xap×Int):Xcw:=⟨.tuple ⟨[.agg ⟨[.bool x.1.src.V6,.int .u64 x.1.src.Hi,.int .u64 x.1.src.Lo,.bool x.1.dst.V6,.int .u64 x.1.dst.Hi,.int .u64 x.1.dst.Lo,.int .i64 x.1.proto,.string ⟨⟨x.1.body⟩⟩]⟩,.int .i64 x.2]⟩,[],[]⟩
def r71 (g:(List UInt8)→Option (Xap×Int)):Dec:=dV asS fun (y0:List UInt8)=>Xdd (ofG (g y0) rx71)
theorem r71_c {g:(List UInt8)→Option (Xap×Int)} {y0:List UInt8} {x:Xap×Int} (hx:g y0=some x):r71 g [.string ⟨⟨y0⟩⟩] []=some (rx71 x):=(XaX (XcI)).trans (Xa3 hx)
def s71 (g:(List UInt8)→Option (Xap×Int)):Xbu:=⟨[.v],r71 g⟩
theorem XGE {g:(List UInt8)→Option (Xap×Int)} {y0:List UInt8} {x:Xap×Int} (hx:g y0=some x):(s71 g).run [.string ⟨⟨y0⟩⟩] []=some (rx71 x):=r71_c hx
abbrev XBi (Xcf:(List UInt8)→Option (Xak×(List UInt8)×Int)) (XcK:(List UInt8)→Option (Xao×(List UInt8)×Int)):List (Nat×Xbu):=[(129,s129 Xcf),(130,s130 XcK)]
theorem XD0 (Xcf:(List UInt8)→Option (Xak×(List UInt8)×Int)) (XcK:(List UInt8)→Option (Xao×(List UInt8)×Int)) (hS:Xah Tryz.prog (Xav (XBi Xcf XcK))) (s:List UInt8) (res:Xap×Int) (h:Xd3 Xcf XcK s=some res) :
 XaK Tryz.prog 71 0 ⟨⟨71,61,[(0,.string ⟨⟨s⟩⟩)],[.code XA4],[],false,none⟩,[],[],0⟩ (fun v H _=>Res 0 (rx71 res) v H):=by
 unfold Xd3 at h
 refine Xbi Xan hS true 3000 ?_
 conv=>whnf
 replace h:=Xai.elim h;obtain ⟨b,hy,h⟩:=h
 refine rdS.intro hy ?_
 conv=>whnf
 refine br.h h (by rfl) ?_ ?_
 ·clear h;intro hb h;conv=>whnf
  replace h:=Xai.elim h;obtain ⟨xg,hy,h⟩:=h
  refine XaJ.p (XFY hy) ?_
  conv=>whnf
  refine br.h h (by rfl) ?_ ?_
  ·clear h;intro hb h;conv=>whnf
   all_goals (cases h;exact Res.y)
  clear h;intro hb h;conv=>whnf
  let t:Int:=wI .i64 (20+(xg.1.Options.length:Int))
  let t1:Bool:=(s.length:Int) !=(wI .i64 (t+(xg.2.1.length:Int)))
  refine br.h h (by rfl) ?_ ?_
  ·clear h;intro hb h;conv=>whnf
   all_goals (cases h;exact Res.y)
  clear h;intro hb h;conv=>whnf
  all_goals (cases h;exact Res.y)
 clear h;intro hb h;conv=>whnf
 refine br.h2 h (by rfl) ?_ ?_
 ·clear h;intro hb h;conv=>whnf
  all_goals (cases h;exact Res.y)
 clear h;intro hb h;conv=>whnf
 replace h:=Xai.elim h;obtain ⟨xg1,hy,h⟩:=h
 refine XaJ.p (XFj hy) ?_
 conv=>whnf
 refine br.h h (by rfl) ?_ ?_
 ·clear h;intro hb h;conv=>whnf
  all_goals (cases h;exact Res.y)
 clear h;intro hb h;conv=>whnf
 let t2:Bool:=(s.length:Int) !=(wI .i64 (40+(xg1.2.1.length:Int)))
 refine br.h h (by rfl) ?_ ?_
 ·clear h;intro hb h;conv=>whnf
  all_goals (cases h;exact Res.y)
 clear h;intro hb h;conv=>whnf
 all_goals (cases h;exact Res.y)
theorem ok71 (Xcf:(List UInt8)→Option (Xak×(List UInt8)×Int)) (XcK:(List UInt8)→Option (Xao×(List UInt8)×Int)) (hS:Xah Tryz.prog (Xav (XBi Xcf XcK))):Xar Tryz.prog 71 (s71 (Xd3 Xcf XcK)):=by
 refine Xar.Xax Xan (fun ar os r ha hr=>?_) ⟨Tryz.f71,rfl,by decide,rfl⟩
 replace hr:r71 (Xd3 Xcf XcK) ar (XaH os)=some r:=hr
 unfold r71 at hr
 generalize hc:XaH os=C at hr
 replace hr:=dV.elim hr;obtain ⟨v0,l1,y0,rfl,e0,hr⟩:=hr;obtain rfl:=XbM _ _ e0
 replace hr:=Xdw hr;obtain ⟨rfl,rfl,x,h,rfl⟩:=hr
 obtain rfl:=Xat hc
 exact ⟨_,rfl,XD0 Xcf XcK hS _ x h⟩
def XbE:(List UInt8)→Option (Xap×Int):=Xd3 Xcf XcK
theorem XIU:Xar Tryz.prog 71 (s71 XbE):=ok71 Xcf XcK (Xah.Xa0 ⟨XFv,XDa,trivial⟩)
def Xcb (Xev:(List UInt8)→Xab→Xab→Option (Xas×(List UInt8)×Int)) (XaY:(List UInt8)→Option (Int×Int×Int)) (oa0:Xap) (p:Xae):Option (Int×Int×Xae):=
 (Xev oa0.body oa0.src oa0.dst).bind fun xg=>
 cond (xg.2.2 !=0)
  (
  some ((0,xg.2.2,p)))
  (
  (XaY xg.1.Options).bind fun s=>
  cond (decide (s.2.2≥0))
   (
   some (((xg.2.1.length:Int),0,Xae.mk (XaA.mk p.Tuple.Proto p.Tuple.Src p.Tuple.Dst xg.1.SPort xg.1.DPort) xg.1.Flags true s.1 s.2.1 p.Long p.CID p.Size)))
   (
   some (((xg.2.1.length:Int),0,Xae.mk (XaA.mk p.Tuple.Proto p.Tuple.Src p.Tuple.Dst xg.1.SPort xg.1.DPort) xg.1.Flags p.Stamped p.Val p.Echo p.Long p.CID p.Size))))
def rx72 (x:Int×Int×Xae):Xcw:=⟨.tuple ⟨[.int .i64 x.1,.int .i64 x.2.1]⟩,[],[some [.int .i64 x.2.2.Tuple.Proto,.bool x.2.2.Tuple.Src.V6,.int .u64 x.2.2.Tuple.Src.Hi,.int .u64 x.2.2.Tuple.Src.Lo,.bool x.2.2.Tuple.Dst.V6,.int .u64 x.2.2.Tuple.Dst.Hi,.int .u64 x.2.2.Tuple.Dst.Lo,.int .i64 x.2.2.Tuple.SPort,.int .i64 x.2.2.Tuple.DPort,.int .i64 x.2.2.Flags,.bool x.2.2.Stamped,.int .u32 x.2.2.Val,.int .u32 x.2.2.Echo,.bool x.2.2.Long,.string ⟨⟨x.2.2.CID⟩⟩,.int .i64 x.2.2.Size]]⟩
def r72 (g:Xap→Xae→Option (Int×Int×Xae)):Dec:=dV XeP fun (y0:Xap)=>dPt 0 XeZ fun (y1:Xae)=>Xdd (ofG (g y0 y1) rx72)
theorem r72_c {g:Xap→Xae→Option (Int×Int×Xae)} {y0:Xap} {y1:Xae} {x:Int×Int×Xae} (hx:g y0 y1=some x):r72 g [.agg ⟨[.bool y0.src.V6,.int .u64 y0.src.Hi,.int .u64 y0.src.Lo,.bool y0.dst.V6,.int .u64 y0.dst.Hi,.int .u64 y0.dst.Lo,.int .i64 y0.proto,.string ⟨⟨y0.body⟩⟩]⟩,.pointer (some ⟨0,0,none⟩)] [some [.int .i64 y1.Tuple.Proto,.bool y1.Tuple.Src.V6,.int .u64 y1.Tuple.Src.Hi,.int .u64 y1.Tuple.Src.Lo,.bool y1.Tuple.Dst.V6,.int .u64 y1.Tuple.Dst.Hi,.int .u64 y1.Tuple.Dst.Lo,.int .i64 y1.Tuple.SPort,.int .i64 y1.Tuple.DPort,.int .i64 y1.Flags,.bool y1.Stamped,.int .u32 y1.Val,.int .u32 y1.Echo,.bool y1.Long,.string ⟨⟨y1.CID⟩⟩,.int .i64 y1.Size]]=some (rx72 x):=(XaX (Xiv _)).trans ((Xkt (XjP _)).trans (Xa3 hx))
def s72 (g:Xap→Xae→Option (Int×Int×Xae)):Xbu:=⟨[.v,.pt 16],r72 g⟩
theorem XG0 {g:Xap→Xae→Option (Int×Int×Xae)} {y0:Xap} {y1:Xae} {x:Int×Int×Xae} (hx:g y0 y1=some x):(s72 g).run [.agg ⟨[.bool y0.src.V6,.int .u64 y0.src.Hi,.int .u64 y0.src.Lo,.bool y0.dst.V6,.int .u64 y0.dst.Hi,.int .u64 y0.dst.Lo,.int .i64 y0.proto,.string ⟨⟨y0.body⟩⟩]⟩,.pointer (some ⟨0,0,none⟩)] [some [.int .i64 y1.Tuple.Proto,.bool y1.Tuple.Src.V6,.int .u64 y1.Tuple.Src.Hi,.int .u64 y1.Tuple.Src.Lo,.bool y1.Tuple.Dst.V6,.int .u64 y1.Tuple.Dst.Hi,.int .u64 y1.Tuple.Dst.Lo,.int .i64 y1.Tuple.SPort,.int .i64 y1.Tuple.DPort,.int .i64 y1.Flags,.bool y1.Stamped,.int .u32 y1.Val,.int .u32 y1.Echo,.bool y1.Long,.string ⟨⟨y1.CID⟩⟩,.int .i64 y1.Size]]=some (rx72 x):=r72_c hx
abbrev XA2 (Xev:(List UInt8)→Xab→Xab→Option (Xas×(List UInt8)×Int)) (XaY:(List UInt8)→Option (Int×Int×Int)):List (Nat×Xbu):=[(107,s107 Xev),(60,s60 XaY)]
theorem XC1 (Xev:(List UInt8)→Xab→Xab→Option (Xas×(List UInt8)×Int)) (XaY:(List UInt8)→Option (Int×Int×Int)) (hS:Xah Tryz.prog (Xav (XA2 Xev XaY))) (oa0:Xap) (p:Xae) (res:Int×Int×Xae) (h:Xcb Xev XaY oa0 p=some res) :
 XaK Tryz.prog 72 1 ⟨⟨72,65,[(0,.agg ⟨[.bool oa0.src.V6,.int .u64 oa0.src.Hi,.int .u64 oa0.src.Lo,.bool oa0.dst.V6,.int .u64 oa0.dst.Hi,.int .u64 oa0.dst.Lo,.int .i64 oa0.proto,.string ⟨⟨oa0.body⟩⟩]⟩),(1,.pointer (some ⟨0,0,none⟩))],[.code XzB],[],false,none⟩,[],[(0,.cells [.int .i64 p.Tuple.Proto,.bool p.Tuple.Src.V6,.int .u64 p.Tuple.Src.Hi,.int .u64 p.Tuple.Src.Lo,.bool p.Tuple.Dst.V6,.int .u64 p.Tuple.Dst.Hi,.int .u64 p.Tuple.Dst.Lo,.int .i64 p.Tuple.SPort,.int .i64 p.Tuple.DPort,.int .i64 p.Flags,.bool p.Stamped,.int .u32 p.Val,.int .u32 p.Echo,.bool p.Long,.string ⟨⟨p.CID⟩⟩,.int .i64 p.Size])],1⟩ (fun v H _=>Res 1 (rx72 res) v H):=by
 unfold Xcb at h
 refine Xbi Xan hS true 3000 ?_
 conv=>whnf
 replace h:=Xai.elim h;obtain ⟨xg,hy,h⟩:=h
 refine XaJ.p (XFc hy) ?_
 conv=>whnf
 refine br.h h (by rfl) ?_ ?_
 ·clear h;intro hb h;conv=>whnf
  all_goals (cases h)
  all_goals exact Res.of [] rfl Xhe (by decide) Xhc (XlM (rfl) (XbW rfl) Xhb)
 clear h;intro hb h;conv=>whnf
 replace h:=Xai.elim h;obtain ⟨s,hy,h⟩:=h
 refine XaJ.p (Xue hy) ?_
 conv=>whnf
 refine br.h h (by rfl) ?_ ?_
 ·clear h;intro hb h;conv=>whnf
  all_goals (cases h)
  all_goals exact Res.of [] rfl Xhe (by decide) Xhc (XlM (rfl) (XbW rfl) Xhb)
 clear h;intro hb h;conv=>whnf
 all_goals (cases h)
 all_goals exact Res.of [] rfl Xhe (by decide) Xhc (XlM (rfl) (XbW rfl) Xhb)
theorem ok72 (Xev:(List UInt8)→Xab→Xab→Option (Xas×(List UInt8)×Int)) (XaY:(List UInt8)→Option (Int×Int×Int)) (hS:Xah Tryz.prog (Xav (XA2 Xev XaY))):Xar Tryz.prog 72 (s72 (Xcb Xev XaY)):=by
 refine Xar.Xax Xan (fun ar os r ha hr=>?_) ⟨Tryz.f72,rfl,by decide,rfl⟩
 replace hr:r72 (Xcb Xev XaY) ar (XaH os)=some r:=hr
 unfold r72 at hr
 generalize hc:XaH os=C at hr
 replace hr:=dV.elim hr;obtain ⟨v0,l1,y0,rfl,e0,hr⟩:=hr;obtain rfl:=XhU _ _ e0
 have hq:=dPt.elim hr;clear hr;obtain ⟨c1,l2,C,y1,rfl,rfl,e1,hr⟩:=hq;obtain rfl:=Xg4 _ _ e1
 replace hr:=Xdw hr;obtain ⟨rfl,rfl,x,h,rfl⟩:=hr
 obtain ⟨os,rfl,ha,hc⟩:=Xc3 ha hc
 obtain rfl:=Xat hc
 exact ⟨_,rfl,XC1 Xev XaY hS _ _ x h⟩
def XaQ:Xap→Xae→Option (Int×Int×Xae):=Xcb Xev XaY
theorem XIt:Xar Tryz.prog 72 (s72 XaQ):=ok72 Xev XaY (Xah.Xa0 ⟨XEb,XuV,trivial⟩)
def Xb3 (XbO:(List UInt8)→Option (XaI×Int)) (Xen:(List UInt8)→Xab→Xab→Option (XaV×(List UInt8)×Int)) (oa0:Xap) (p:Xae):Option (Int×Int×Xae):=
 (Xen oa0.body oa0.src oa0.dst).bind fun xg=>
 cond (xg.2.2 !=0)
  (
  some ((0,xg.2.2,p)))
  (
  let t:=(xg.2.1.length:Int) !=(wI .i64 ((oa0.body.length:Int) - 8))
  cond (t)
   (
   some ((0,5,p)))
   (
   (XbO xg.2.1).bind fun xg1=>
   cond (xg1.2==0)
    (
    some (((xg.2.1.length:Int),0,Xae.mk (XaA.mk p.Tuple.Proto p.Tuple.Src p.Tuple.Dst xg.1.SPort xg.1.DPort) p.Flags p.Stamped p.Val p.Echo xg1.1.Long xg1.1.DCID p.Size)))
    (
    some (((xg.2.1.length:Int),0,Xae.mk (XaA.mk p.Tuple.Proto p.Tuple.Src p.Tuple.Dst xg.1.SPort xg.1.DPort) p.Flags p.Stamped p.Val p.Echo p.Long p.CID p.Size)))))
def rx73 (x:Int×Int×Xae):Xcw:=⟨.tuple ⟨[.int .i64 x.1,.int .i64 x.2.1]⟩,[],[some [.int .i64 x.2.2.Tuple.Proto,.bool x.2.2.Tuple.Src.V6,.int .u64 x.2.2.Tuple.Src.Hi,.int .u64 x.2.2.Tuple.Src.Lo,.bool x.2.2.Tuple.Dst.V6,.int .u64 x.2.2.Tuple.Dst.Hi,.int .u64 x.2.2.Tuple.Dst.Lo,.int .i64 x.2.2.Tuple.SPort,.int .i64 x.2.2.Tuple.DPort,.int .i64 x.2.2.Flags,.bool x.2.2.Stamped,.int .u32 x.2.2.Val,.int .u32 x.2.2.Echo,.bool x.2.2.Long,.string ⟨⟨x.2.2.CID⟩⟩,.int .i64 x.2.2.Size]]⟩
def r73 (g:Xap→Xae→Option (Int×Int×Xae)):Dec:=dV XeP fun (y0:Xap)=>dPt 0 XeZ fun (y1:Xae)=>Xdd (ofG (g y0 y1) rx73)
theorem r73_c {g:Xap→Xae→Option (Int×Int×Xae)} {y0:Xap} {y1:Xae} {x:Int×Int×Xae} (hx:g y0 y1=some x):r73 g [.agg ⟨[.bool y0.src.V6,.int .u64 y0.src.Hi,.int .u64 y0.src.Lo,.bool y0.dst.V6,.int .u64 y0.dst.Hi,.int .u64 y0.dst.Lo,.int .i64 y0.proto,.string ⟨⟨y0.body⟩⟩]⟩,.pointer (some ⟨0,0,none⟩)] [some [.int .i64 y1.Tuple.Proto,.bool y1.Tuple.Src.V6,.int .u64 y1.Tuple.Src.Hi,.int .u64 y1.Tuple.Src.Lo,.bool y1.Tuple.Dst.V6,.int .u64 y1.Tuple.Dst.Hi,.int .u64 y1.Tuple.Dst.Lo,.int .i64 y1.Tuple.SPort,.int .i64 y1.Tuple.DPort,.int .i64 y1.Flags,.bool y1.Stamped,.int .u32 y1.Val,.int .u32 y1.Echo,.bool y1.Long,.string ⟨⟨y1.CID⟩⟩,.int .i64 y1.Size]]=some (rx73 x):=(XaX (Xiv _)).trans ((Xkt (XjP _)).trans (Xa3 hx))
def s73 (g:Xap→Xae→Option (Int×Int×Xae)):Xbu:=⟨[.v,.pt 16],r73 g⟩
theorem XJQ {g:Xap→Xae→Option (Int×Int×Xae)} {y0:Xap} {y1:Xae} {x:Int×Int×Xae} (hx:g y0 y1=some x):(s73 g).run [.agg ⟨[.bool y0.src.V6,.int .u64 y0.src.Hi,.int .u64 y0.src.Lo,.bool y0.dst.V6,.int .u64 y0.dst.Hi,.int .u64 y0.dst.Lo,.int .i64 y0.proto,.string ⟨⟨y0.body⟩⟩]⟩,.pointer (some ⟨0,0,none⟩)] [some [.int .i64 y1.Tuple.Proto,.bool y1.Tuple.Src.V6,.int .u64 y1.Tuple.Src.Hi,.int .u64 y1.Tuple.Src.Lo,.bool y1.Tuple.Dst.V6,.int .u64 y1.Tuple.Dst.Hi,.int .u64 y1.Tuple.Dst.Lo,.int .i64 y1.Tuple.SPort,.int .i64 y1.Tuple.DPort,.int .i64 y1.Flags,.bool y1.Stamped,.int .u32 y1.Val,.int .u32 y1.Echo,.bool y1.Long,.string ⟨⟨y1.CID⟩⟩,.int .i64 y1.Size]]=some (rx73 x):=r73_c hx
abbrev XA9 (XbO:(List UInt8)→Option (XaI×Int)) (Xen:(List UInt8)→Xab→Xab→Option (XaV×(List UInt8)×Int)):List (Nat×Xbu):=[(39,s39 XbO),(108,s108 Xen)]
theorem XGk (XbO:(List UInt8)→Option (XaI×Int)) (Xen:(List UInt8)→Xab→Xab→Option (XaV×(List UInt8)×Int)) (hS:Xah Tryz.prog (Xav (XA9 XbO Xen))) (oa0:Xap) (p:Xae) (res:Int×Int×Xae) (h:Xb3 XbO Xen oa0 p=some res) :
 XaK Tryz.prog 73 1 ⟨⟨73,65,[(0,.agg ⟨[.bool oa0.src.V6,.int .u64 oa0.src.Hi,.int .u64 oa0.src.Lo,.bool oa0.dst.V6,.int .u64 oa0.dst.Hi,.int .u64 oa0.dst.Lo,.int .i64 oa0.proto,.string ⟨⟨oa0.body⟩⟩]⟩),(1,.pointer (some ⟨0,0,none⟩))],[.code XBL],[],false,none⟩,[],[(0,.cells [.int .i64 p.Tuple.Proto,.bool p.Tuple.Src.V6,.int .u64 p.Tuple.Src.Hi,.int .u64 p.Tuple.Src.Lo,.bool p.Tuple.Dst.V6,.int .u64 p.Tuple.Dst.Hi,.int .u64 p.Tuple.Dst.Lo,.int .i64 p.Tuple.SPort,.int .i64 p.Tuple.DPort,.int .i64 p.Flags,.bool p.Stamped,.int .u32 p.Val,.int .u32 p.Echo,.bool p.Long,.string ⟨⟨p.CID⟩⟩,.int .i64 p.Size])],1⟩ (fun v H _=>Res 1 (rx73 res) v H):=by
 unfold Xb3 at h
 refine Xbi Xan hS true 3000 ?_
 conv=>whnf
 replace h:=Xai.elim h;obtain ⟨xg,hy,h⟩:=h
 refine XaJ.p (XC8 hy) ?_
 conv=>whnf
 refine br.h h (by rfl) ?_ ?_
 ·clear h;intro hb h;conv=>whnf
  all_goals (cases h)
  all_goals exact Res.of [] rfl Xhe (by decide) Xhc (XlM (rfl) (XbW rfl) Xhb)
 clear h;intro hb h;conv=>whnf
 let t:Bool:=(xg.2.1.length:Int) !=(wI .i64 ((oa0.body.length:Int) - 8))
 refine br.h h (by rfl) ?_ ?_
 ·clear h;intro hb h;conv=>whnf
  all_goals (cases h)
  all_goals exact Res.of [] rfl Xhe (by decide) Xhc (XlM (rfl) (XbW rfl) Xhb)
 clear h;intro hb h;conv=>whnf
 replace h:=Xai.elim h;obtain ⟨xg1,hy,h⟩:=h
 refine XaJ.p (XAj hy) ?_
 conv=>whnf
 refine br.h h (by rfl) ?_ ?_
 ·clear h;intro hb h;conv=>whnf
  all_goals (cases h)
  all_goals exact Res.of [] rfl Xhe (by decide) Xhc (XlM (rfl) (XbW rfl) Xhb)
 clear h;intro hb h;conv=>whnf
 all_goals (cases h)
 all_goals exact Res.of [] rfl Xhe (by decide) Xhc (XlM (rfl) (XbW rfl) Xhb)
theorem ok73 (XbO:(List UInt8)→Option (XaI×Int)) (Xen:(List UInt8)→Xab→Xab→Option (XaV×(List UInt8)×Int)) (hS:Xah Tryz.prog (Xav (XA9 XbO Xen))):Xar Tryz.prog 73 (s73 (Xb3 XbO Xen)):=by
 refine Xar.Xax Xan (fun ar os r ha hr=>?_) ⟨Tryz.f73,rfl,by decide,rfl⟩
 replace hr:r73 (Xb3 XbO Xen) ar (XaH os)=some r:=hr
 unfold r73 at hr
 generalize hc:XaH os=C at hr
 replace hr:=dV.elim hr;obtain ⟨v0,l1,y0,rfl,e0,hr⟩:=hr;obtain rfl:=XhU _ _ e0
 have hq:=dPt.elim hr;clear hr;obtain ⟨c1,l2,C,y1,rfl,rfl,e1,hr⟩:=hq;obtain rfl:=Xg4 _ _ e1
 replace hr:=Xdw hr;obtain ⟨rfl,rfl,x,h,rfl⟩:=hr
 obtain ⟨os,rfl,ha,hc⟩:=Xc3 ha hc
 obtain rfl:=Xat hc
 exact ⟨_,rfl,XGk XbO Xen hS _ _ x h⟩
def XaM:Xap→Xae→Option (Int×Int×Xae):=Xb3 XbO Xen
theorem XK5:Xar Tryz.prog 73 (s73 XaM):=ok73 XbO Xen (Xah.Xa0 ⟨XzY,XDU,trivial⟩)
def Xe1 (XbE:(List UInt8)→Option (Xap×Int)) (XaM:Xap→Xae→Option (Int×Int×Xae)) (XaQ:Xap→Xae→Option (Int×Int×Xae)) (s:List UInt8):Option (Xae×Int×Int×Int):=
 cond (decide ((s.length:Int)>9000))
  (
  some ((Xae.mk (XaA.mk 0 (Xab.mk false 0 0) (Xab.mk false 0 0) 0 0) 0 false 0 0 false [] 0,0,0,5)))
  (
  cond (s==[])
   (
   some ((Xae.mk (XaA.mk 0 (Xab.mk false 0 0) (Xab.mk false 0 0) 0 0) 0 false 0 0 false [] 0,0,0,2)))
   (
   (XbE s).bind fun xo=>
   cond (xo.2 !=0)
    (
    some ((Xae.mk (XaA.mk 0 (Xab.mk false 0 0) (Xab.mk false 0 0) 0 0) 0 false 0 0 false [] 0,0,0,xo.2)))
    (
    cond (xo.1.proto==6)
     (
     (XaQ xo.1 (Xae.mk (XaA.mk xo.1.proto xo.1.src xo.1.dst 0 0) 0 false 0 0 false [] (s.length:Int))).bind fun s1=>
     cond (s1.2.1 !=0)
      (
      some ((Xae.mk (XaA.mk 0 (Xab.mk false 0 0) (Xab.mk false 0 0) 0 0) 0 false 0 0 false [] 0,0,0,s1.2.1)))
      (
      some ((s1.2.2,(xo.1.body.length:Int),s1.1,0))))
     (
     cond (xo.1.proto==17)
      (
      (XaM xo.1 (Xae.mk (XaA.mk xo.1.proto xo.1.src xo.1.dst 0 0) 0 false 0 0 false [] (s.length:Int))).bind fun d=>
      cond (d.2.1 !=0)
       (
       some ((Xae.mk (XaA.mk 0 (Xab.mk false 0 0) (Xab.mk false 0 0) 0 0) 0 false 0 0 false [] 0,0,0,d.2.1)))
       (
       some ((d.2.2,(xo.1.body.length:Int),d.1,0))))
      (
      some ((Xae.mk (XaA.mk 0 (Xab.mk false 0 0) (Xab.mk false 0 0) 0 0) 0 false 0 0 false [] 0,0,0,6)))))))
def rx46 (x:Xae×Int×Int×Int):Xcw:=⟨.tuple ⟨[.agg ⟨[.int .i64 x.1.Tuple.Proto,.bool x.1.Tuple.Src.V6,.int .u64 x.1.Tuple.Src.Hi,.int .u64 x.1.Tuple.Src.Lo,.bool x.1.Tuple.Dst.V6,.int .u64 x.1.Tuple.Dst.Hi,.int .u64 x.1.Tuple.Dst.Lo,.int .i64 x.1.Tuple.SPort,.int .i64 x.1.Tuple.DPort,.int .i64 x.1.Flags,.bool x.1.Stamped,.int .u32 x.1.Val,.int .u32 x.1.Echo,.bool x.1.Long,.string ⟨⟨x.1.CID⟩⟩,.int .i64 x.1.Size]⟩,.int .i64 x.2.1,.int .i64 x.2.2.1,.int .i64 x.2.2.2]⟩,[],[]⟩
def r46 (g:(List UInt8)→Option (Xae×Int×Int×Int)):Dec:=dV asS fun (y0:List UInt8)=>Xdd (ofG (g y0) rx46)
theorem r46_c {g:(List UInt8)→Option (Xae×Int×Int×Int)} {y0:List UInt8} {x:Xae×Int×Int×Int} (hx:g y0=some x):r46 g [.string ⟨⟨y0⟩⟩] []=some (rx46 x):=(XaX (XcI)).trans (Xa3 hx)
def s46 (g:(List UInt8)→Option (Xae×Int×Int×Int)):Xbu:=⟨[.v],r46 g⟩
theorem XAN {g:(List UInt8)→Option (Xae×Int×Int×Int)} {y0:List UInt8} {x:Xae×Int×Int×Int} (hx:g y0=some x):(s46 g).run [.string ⟨⟨y0⟩⟩] []=some (rx46 x):=r46_c hx
abbrev XBX (XbE:(List UInt8)→Option (Xap×Int)) (XaM:Xap→Xae→Option (Int×Int×Xae)) (XaQ:Xap→Xae→Option (Int×Int×Xae)):List (Nat×Xbu):=[(71,s71 XbE),(73,s73 XaM),(72,s72 XaQ)]
theorem XD2 (XbE:(List UInt8)→Option (Xap×Int)) (XaM:Xap→Xae→Option (Int×Int×Xae)) (XaQ:Xap→Xae→Option (Int×Int×Xae)) (hS:Xah Tryz.prog (Xav (XBX XbE XaM XaQ))) (s:List UInt8) (res:Xae×Int×Int×Int) (h:Xe1 XbE XaM XaQ s=some res) :
 XaK Tryz.prog 46 0 ⟨⟨46,63,[(0,.string ⟨⟨s⟩⟩)],[.code XAG],[],false,none⟩,[],[],0⟩ (fun v H _=>Res 0 (rx46 res) v H):=by
 unfold Xe1 at h
 refine Xbi Xan hS true 3000 ?_
 conv=>whnf
 refine br.h h (by rfl) ?_ ?_
 ·clear h;intro hb h;conv=>whnf
  all_goals (cases h;exact Res.y)
 clear h;intro hb h;conv=>whnf
 refine br.h h (by rfl) ?_ ?_
 ·clear h;intro hb h;conv=>whnf
  all_goals (cases h;exact Res.y)
 clear h;intro hb h;conv=>whnf
 replace h:=Xai.elim h;obtain ⟨xo,hy,h⟩:=h
 refine XaJ.p (XGE hy) ?_
 conv=>whnf
 refine br.h h (by rfl) ?_ ?_
 ·clear h;intro hb h;conv=>whnf
  all_goals (cases h;exact Res.y)
 clear h;intro hb h;conv=>whnf
 refine br.h h (by rfl) ?_ ?_
 ·clear h;intro hb h;conv=>whnf
  replace h:=Xai.elim h;obtain ⟨s1,hy,h⟩:=h
  refine XaJ.Xbe [2] (Xaw (aqs:=[.agg ⟨[.bool xo.1.src.V6,.int .u64 xo.1.src.Hi,.int .u64 xo.1.src.Lo,.bool xo.1.dst.V6,.int .u64 xo.1.dst.Hi,.int .u64 xo.1.dst.Lo,.int .i64 xo.1.proto,.string ⟨⟨xo.1.body⟩⟩]⟩,.pointer (some ⟨0,0,none⟩)]) (ws:=[.win 2 0 16 true]) (n:=0) (m:=0) (t':=3) (Xau rfl rfl (Xau rfl rfl Xbg)) rfl (by rfl) (XG0 hy) rfl rfl rfl rfl (XbD rfl rfl rfl ⟨rfl,Nat.le_of_ble_eq_true rfl⟩ rfl rfl Xbf) Xbc rfl) ?_
  conv=>whnf
  refine br.h h (by rfl) ?_ ?_
  ·clear h;intro hb h;conv=>whnf
   all_goals (cases h;exact Res.y)
  clear h;intro hb h;conv=>whnf
  all_goals (cases h;exact Res.y)
 clear h;intro hb h;conv=>whnf
 refine br.h2 h (by rfl) ?_ ?_
 ·clear h;intro hb h;conv=>whnf
  all_goals (cases h;exact Res.y)
 clear h;intro hb h;conv=>whnf
 replace h:=Xai.elim h;obtain ⟨d,hy,h⟩:=h
 refine XaJ.Xbe [2] (Xaw (aqs:=[.agg ⟨[.bool xo.1.src.V6,.int .u64 xo.1.src.Hi,.int .u64 xo.1.src.Lo,.bool xo.1.dst.V6,.int .u64 xo.1.dst.Hi,.int .u64 xo.1.dst.Lo,.int .i64 xo.1.proto,.string ⟨⟨xo.1.body⟩⟩]⟩,.pointer (some ⟨0,0,none⟩)]) (ws:=[.win 2 0 16 true]) (n:=0) (m:=0) (t':=3) (Xau rfl rfl (Xau rfl rfl Xbg)) rfl (by rfl) (XJQ hy) rfl rfl rfl rfl (XbD rfl rfl rfl ⟨rfl,Nat.le_of_ble_eq_true rfl⟩ rfl rfl Xbf) Xbc rfl) ?_
 conv=>whnf
 refine br.h h (by rfl) ?_ ?_
 ·clear h;intro hb h;conv=>whnf
  all_goals (cases h;exact Res.y)
 clear h;intro hb h;conv=>whnf
 all_goals (cases h;exact Res.y)
theorem ok46 (XbE:(List UInt8)→Option (Xap×Int)) (XaM:Xap→Xae→Option (Int×Int×Xae)) (XaQ:Xap→Xae→Option (Int×Int×Xae)) (hS:Xah Tryz.prog (Xav (XBX XbE XaM XaQ))):Xar Tryz.prog 46 (s46 (Xe1 XbE XaM XaQ)):=by
 refine Xar.Xax Xan (fun ar os r ha hr=>?_) ⟨Tryz.f46,rfl,by decide,rfl⟩
 replace hr:r46 (Xe1 XbE XaM XaQ) ar (XaH os)=some r:=hr
 unfold r46 at hr
 generalize hc:XaH os=C at hr
 replace hr:=dV.elim hr;obtain ⟨v0,l1,y0,rfl,e0,hr⟩:=hr;obtain rfl:=XbM _ _ e0
 replace hr:=Xdw hr;obtain ⟨rfl,rfl,x,h,rfl⟩:=hr
 obtain rfl:=Xat hc
 exact ⟨_,rfl,XD2 XbE XaM XaQ hS _ x h⟩
def Xa6:(List UInt8)→Option (Xae×Int×Int×Int):=Xe1 XbE XaM XaQ
theorem XBq:Xar Tryz.prog 46 (s46 Xa6):=ok46 XbE XaM XaQ (Xah.Xa0 ⟨XIU,XK5,XIt,trivial⟩)
def XeF (Xa6:(List UInt8)→Option (Xae×Int×Int×Int)) (s:List UInt8):Option (Xae×Int):=
 (Xa6 s).bind fun t=>
 some ((t.1,t.2.2.2))
def rx22 (x:Xae×Int):Xcw:=⟨.tuple ⟨[.agg ⟨[.int .i64 x.1.Tuple.Proto,.bool x.1.Tuple.Src.V6,.int .u64 x.1.Tuple.Src.Hi,.int .u64 x.1.Tuple.Src.Lo,.bool x.1.Tuple.Dst.V6,.int .u64 x.1.Tuple.Dst.Hi,.int .u64 x.1.Tuple.Dst.Lo,.int .i64 x.1.Tuple.SPort,.int .i64 x.1.Tuple.DPort,.int .i64 x.1.Flags,.bool x.1.Stamped,.int .u32 x.1.Val,.int .u32 x.1.Echo,.bool x.1.Long,.string ⟨⟨x.1.CID⟩⟩,.int .i64 x.1.Size]⟩,.int .i64 x.2]⟩,[],[]⟩
def r22 (g:(List UInt8)→Option (Xae×Int)):Dec:=dV asS fun (y0:List UInt8)=>Xdd (ofG (g y0) rx22)
theorem r22_c {g:(List UInt8)→Option (Xae×Int)} {y0:List UInt8} {x:Xae×Int} (hx:g y0=some x):r22 g [.string ⟨⟨y0⟩⟩] []=some (rx22 x):=(XaX (XcI)).trans (Xa3 hx)
def s22 (g:(List UInt8)→Option (Xae×Int)):Xbu:=⟨[.v],r22 g⟩
theorem XvN {g:(List UInt8)→Option (Xae×Int)} {y0:List UInt8} {x:Xae×Int} (hx:g y0=some x):(s22 g).run [.string ⟨⟨y0⟩⟩] []=some (rx22 x):=r22_c hx
abbrev Xz2 (Xa6:(List UInt8)→Option (Xae×Int×Int×Int)):List (Nat×Xbu):=[(46,s46 Xa6)]
theorem XEk (Xa6:(List UInt8)→Option (Xae×Int×Int×Int)) (hS:Xah Tryz.prog (Xav (Xz2 Xa6))) (s:List UInt8) (res:Xae×Int) (h:XeF Xa6 s=some res) :
 XaK Tryz.prog 22 0 ⟨⟨22,17,[(0,.string ⟨⟨s⟩⟩)],[.code XHC],[],false,none⟩,[],[],0⟩ (fun v H _=>Res 0 (rx22 res) v H):=by
 unfold XeF at h
 refine Xbi Xan hS true 3000 ?_
 conv=>whnf
 replace h:=Xai.elim h;obtain ⟨t,hy,h⟩:=h
 refine XaJ.p (XAN hy) ?_
 conv=>whnf
 all_goals (cases h;exact Res.y)
theorem ok22 (Xa6:(List UInt8)→Option (Xae×Int×Int×Int)) (hS:Xah Tryz.prog (Xav (Xz2 Xa6))):Xar Tryz.prog 22 (s22 (XeF Xa6)):=by
 refine Xar.Xax Xan (fun ar os r ha hr=>?_) ⟨Tryz.f22,rfl,by decide,rfl⟩
 replace hr:r22 (XeF Xa6) ar (XaH os)=some r:=hr
 unfold r22 at hr
 generalize hc:XaH os=C at hr
 replace hr:=dV.elim hr;obtain ⟨v0,l1,y0,rfl,e0,hr⟩:=hr;obtain rfl:=XbM _ _ e0
 replace hr:=Xdw hr;obtain ⟨rfl,rfl,x,h,rfl⟩:=hr
 obtain rfl:=Xat hc
 exact ⟨_,rfl,XEk Xa6 hS _ x h⟩
def XaC:(List UInt8)→Option (Xae×Int):=XeF Xa6
theorem Xwe:Xar Tryz.prog 22 (s22 XaC):=ok22 Xa6 (Xah.Xa0 ⟨XBq,trivial⟩)
def XeB (Xa6:(List UInt8)→Option (Xae×Int×Int×Int)) (s:List UInt8):Option (Int×Int×Int):=
 (Xa6 s).bind fun t=>
 cond (t.2.2.2 !=0)
  (
  some ((0,0,t.2.2.2)))
  (
  some ((wI .i64 ((s.length:Int) - t.2.1),wI .i64 ((s.length:Int) - t.2.2.1),0)))
def rx38 (x:Int×Int×Int):Xcw:=⟨.tuple ⟨[.int .i64 x.1,.int .i64 x.2.1,.int .i64 x.2.2]⟩,[],[]⟩
def r38 (g:(List UInt8)→Option (Int×Int×Int)):Dec:=dV asS fun (y0:List UInt8)=>Xdd (ofG (g y0) rx38)
theorem r38_c {g:(List UInt8)→Option (Int×Int×Int)} {y0:List UInt8} {x:Int×Int×Int} (hx:g y0=some x):r38 g [.string ⟨⟨y0⟩⟩] []=some (rx38 x):=(XaX (XcI)).trans (Xa3 hx)
def s38 (g:(List UInt8)→Option (Int×Int×Int)):Xbu:=⟨[.v],r38 g⟩
theorem Xwh {g:(List UInt8)→Option (Int×Int×Int)} {y0:List UInt8} {x:Int×Int×Int} (hx:g y0=some x):(s38 g).run [.string ⟨⟨y0⟩⟩] []=some (rx38 x):=r38_c hx
abbrev Xz8 (Xa6:(List UInt8)→Option (Xae×Int×Int×Int)):List (Nat×Xbu):=[(46,s46 Xa6)]
theorem XEE (Xa6:(List UInt8)→Option (Xae×Int×Int×Int)) (hS:Xah Tryz.prog (Xav (Xz8 Xa6))) (s:List UInt8) (res:Int×Int×Int) (h:XeB Xa6 s=some res) :
 XaK Tryz.prog 38 0 ⟨⟨38,27,[(0,.string ⟨⟨s⟩⟩)],[.code XBb],[],false,none⟩,[],[],0⟩ (fun v H _=>Res 0 (rx38 res) v H):=by
 unfold XeB at h
 refine Xbi Xan hS true 3000 ?_
 conv=>whnf
 replace h:=Xai.elim h;obtain ⟨t,hy,h⟩:=h
 refine XaJ.p (XAN hy) ?_
 conv=>whnf
 refine br.h h (by rfl) ?_ ?_
 ·clear h;intro hb h;conv=>whnf
  all_goals (cases h;exact Res.y)
 clear h;intro hb h;conv=>whnf
 all_goals (cases h;exact Res.y)
theorem ok38 (Xa6:(List UInt8)→Option (Xae×Int×Int×Int)) (hS:Xah Tryz.prog (Xav (Xz8 Xa6))):Xar Tryz.prog 38 (s38 (XeB Xa6)):=by
 refine Xar.Xax Xan (fun ar os r ha hr=>?_) ⟨Tryz.f38,rfl,by decide,rfl⟩
 replace hr:r38 (XeB Xa6) ar (XaH os)=some r:=hr
 unfold r38 at hr
 generalize hc:XaH os=C at hr
 replace hr:=dV.elim hr;obtain ⟨v0,l1,y0,rfl,e0,hr⟩:=hr;obtain rfl:=XbM _ _ e0
 replace hr:=Xdw hr;obtain ⟨rfl,rfl,x,h,rfl⟩:=hr
 obtain rfl:=Xat hc
 exact ⟨_,rfl,XEE Xa6 hS _ x h⟩
def Xaz:(List UInt8)→Option (Int×Int×Int):=XeB Xa6
theorem XtH:Xar Tryz.prog 38 (s38 Xaz):=ok38 Xa6 (Xah.Xa0 ⟨XBq,trivial⟩)
end Go.Vm.Code
namespace Go.Vm.Code
open Go Go.Vm
def zP:Xae:=⟨⟨0,⟨false,0,0⟩,⟨false,0,0⟩,0,0⟩,0,false,0,0,false,[],0⟩
structure O11 where
 src:Xab
 dst:Xab
 proto:Int
 size:Nat
 body:List UInt8
 err:Int
def zO (e:Int):O11:=⟨⟨false,0,0⟩,⟨false,0,0⟩,0,0,[],e⟩
def Xag (s:List UInt8):O11:=
 if vK s 0 1/16=4 then (if (Xgx s).2.2≠0 then zO (Xgx s).2.2 else if s.length≠20+(Xgx s).1.Options.length+(Xgx s).2.1.length then zO 5 else ⟨(Xgx s).1.Src,(Xgx s).1.Dst,(Xgx s).1.Proto,20+(Xgx s).1.Options.length,(Xgx s).2.1,0⟩)
 else if vK s 0 1/16=6 then (if (Xh5 s).2.2≠0 then zO (Xh5 s).2.2 else if s.length≠40+(Xh5 s).2.1.length then zO 5 else ⟨(Xh5 s).1.Src,(Xh5 s).1.Dst,(Xh5 s).1.Next,40,(Xh5 s).2.1,0⟩)
 else zO 3
def Xsw (o:List UInt8):Bool×Int×Int:=if 0≤(Xeh o).2.2 then (true,(Xeh o).1,(Xeh o).2.1) else (false,0,0)
def Xsk (b:List UInt8):Bool×List UInt8:=if (XeW b).2=0 then ((XeW b).1.Long,(XeW b).1.DCID) else (false,[])
def Xez (o:O11) (n:Nat):Xae×Nat×Int:=
 if o.proto=6 then (if (Xfm o.body o.src o.dst).2.2≠0 then (zP,0,(Xfm o.body o.src o.dst).2.2) else
  (⟨⟨o.proto,o.src,o.dst,(Xfm o.body o.src o.dst).1.SPort,(Xfm o.body o.src o.dst).1.DPort⟩,(Xfm o.body o.src o.dst).1.Flags,(Xsw (Xfm o.body o.src o.dst).1.Options).1,(Xsw (Xfm o.body o.src o.dst).1.Options).2.1,(Xsw (Xfm o.body o.src o.dst).1.Options).2.2,false,[],n⟩,(Xfm o.body o.src o.dst).2.1.length,0))
 else if o.proto=17 then (if (Xfj o.body o.src o.dst).2.2≠0 then (zP,0,(Xfj o.body o.src o.dst).2.2) else if (Xfj o.body o.src o.dst).2.1.length+8≠o.body.length then (zP,0,5) else
  (⟨⟨o.proto,o.src,o.dst,(Xfj o.body o.src o.dst).1.SPort,(Xfj o.body o.src o.dst).1.DPort⟩,0,false,0,0,(Xsk (Xfj o.body o.src o.dst).2.1).1,(Xsk (Xfj o.body o.src o.dst).2.1).2,n⟩,(Xfj o.body o.src o.dst).2.1.length,0))
 else (zP,0,6)
def Xaq (s:List UInt8):Xae×Nat×Nat×Int:=
 if 9000<s.length then (zP,0,0,5) else if s=[] then (zP,0,0,2) else if (Xag s).err≠0 then (zP,0,0,(Xag s).err) else
  if (Xez (Xag s) s.length).2.2≠0 then (zP,0,0,(Xez (Xag s) s.length).2.2) else
   ((Xez (Xag s) s.length).1,s.length - (Xag s).body.length,s.length - (Xez (Xag s) s.length).2.1,0)
theorem XEC (s:List UInt8):A4 (Xgx s).1.Src∧A4 (Xgx s).1.Dst:=by
 have z:A4 ⟨false,0,0⟩:=⟨by simp only [];omega,by simp only [];omega,by simp only [];omega,by simp only [];omega⟩
 have k:∀ p,A4 (XtO s p):=fun p=>by
  have:=XdE s p 4 4294967296 (by decide)
  exact ⟨Int.le_refl 0,by show (0:Int)<2^64;decide,this.1,by show vK s p 4<2^64;omega⟩
 unfold Xgx
 split
 ·exact ⟨z,z⟩
 split
 ·exact ⟨z,z⟩
 split
 ·exact ⟨z,z⟩
 split
 ·exact ⟨z,z⟩
 split
 ·exact ⟨z,z⟩
 split
 ·exact ⟨z,z⟩
 split
 ·exact ⟨z,z⟩
 exact ⟨k 12,k 16⟩
theorem XEh (s:List UInt8):A4 (Xh5 s).1.Src∧A4 (Xh5 s).1.Dst:=by
 have z:A4 ⟨false,0,0⟩:=⟨by simp only [];omega,by simp only [];omega,by simp only [];omega,by simp only [];omega⟩
 have k:∀ p,A4 (Xsx ((s.drop p).take 16)):=fun p=>by
  have h1:Xdf (((s.drop p).take 16).take 8)<2^64:=XcU _ (by decide)
  have h2:Xdf (((s.drop p).take 16).drop 8)<2^64:=by
   have:=Xnj (((s.drop p).take 16).drop 8)
   refine Nat.lt_of_lt_of_le this ?_
   have:(((s.drop p).take 16).drop 8).length≤8:=by simp;omega
   exact Nat.pow_le_pow_right (n:=256) (by decide) this
  unfold Xsx
  exact ⟨by simp only [];omega,by simp only [];omega,by simp only [];omega,by simp only [];omega⟩
 unfold Xh5
 split
 ·exact ⟨z,z⟩
 split
 ·exact ⟨z,z⟩
 split
 ·exact ⟨z,z⟩
 exact ⟨k 8,k 24⟩
theorem XoU (s:List UInt8):A4 (Xag s).src∧A4 (Xag s).dst:=by
 have z:A4 ⟨false,0,0⟩:=⟨by simp only [];omega,by simp only [];omega,by simp only [];omega,by simp only [];omega⟩
 unfold Xag zO
 split
 ·split
  ·exact ⟨z,z⟩
  split
  ·exact ⟨z,z⟩
  exact XEC s
 split
 ·split
  ·exact ⟨z,z⟩
  split
  ·exact ⟨z,z⟩
  exact XEh s
 exact ⟨z,z⟩
theorem XdT {s:List UInt8} (h:(Xag s).err=0):(Xag s).body.length+(Xag s).size=s.length:=by
 unfold Xag at h ⊢
 by_cases g1:vK s 0 1/16=4
 ·rw [if_pos g1] at h ⊢
  by_cases g2:(Xgx s).2.2≠0
  ·rw [if_pos g2] at h;exact absurd h g2
  rw [if_neg g2] at h ⊢
  by_cases g3:s.length≠20+(Xgx s).1.Options.length+(Xgx s).2.1.length
  ·rw [if_pos g3] at h;exact absurd h (by decide)
  rw [if_neg g3]
  simp only [];omega
 rw [if_neg g1] at h ⊢
 by_cases g4:vK s 0 1/16=6
 ·rw [if_pos g4] at h ⊢
  by_cases g2:(Xh5 s).2.2≠0
  ·rw [if_pos g2] at h;exact absurd h g2
  rw [if_neg g2] at h ⊢
  by_cases g3:s.length≠40+(Xh5 s).2.1.length
  ·rw [if_pos g3] at h;exact absurd h (by decide)
  rw [if_neg g3]
  simp only [];omega
 ·rw [if_neg g4] at h;exact absurd h (by decide)
theorem Xmw {s:List UInt8} (h:(Xaq s).2.2.2≠0):Xaq s=(zP,0,0,(Xaq s).2.2.2):=by
 unfold Xaq at h ⊢
 split
 ·rfl
 rename_i g1
 rw [if_neg g1] at h
 split
 ·rfl
 rename_i g2
 rw [if_neg g2] at h
 split
 ·rfl
 rename_i g3
 rw [if_neg g3] at h
 split
 ·rfl
 rename_i g4
 rw [if_neg g4] at h
 exact absurd rfl h
def o11 (o:O11):Xap:=⟨o.src,o.dst,o.proto,o.body⟩
theorem Xu3 {s:List UInt8} (hs:s.length<2^19) (hn:s≠[]):XbE s=some (o11 (Xag s),(Xag s).err):=by
 unfold XbE Xd3
 have h0:0<s.length:=List.length_pos_iff.2 hn
 have e0:=XiH (s:=s) (p:=0) h0
 have r0:=XdE s 0 1 256 (by decide)
 rw [List.getElem?_eq_getElem h0,Option.bind_some,←e0,Xpb,show ((2:Int)^4)=16 from rfl,g5_eq (by omega),XFB (by omega),Option.bind_some,Option.bind_some]
 unfold Xag
 by_cases g1:vK s 0 1/16=4
 ·rw [if_pos g1,show (vK s 0 1/16==4)=true by simpa using g1,cond_true]
  by_cases g2:(Xgx s).2.2=0
  ·have hb:(Xgx s).1.Options.length≤s.length∧(Xgx s).2.1.length≤s.length:=by
    unfold Xgx
    repeat' split
    all_goals simp [Xmb]
    omega
   rw [if_neg (by simpa using g2),show ((Xgx s).2.2 !=0)=false by simpa using g2,cond_false,XcC (n:=20+((Xgx s).1.Options.length:Int)) (by omega) (by omega)]
   simp only []
   rw [XcC (n:=20+((Xgx s).1.Options.length:Int)+((Xgx s).2.1.length:Int)) (by omega) (by omega)]
   by_cases g3:s.length=20+(Xgx s).1.Options.length+(Xgx s).2.1.length
   ·rw [if_neg (by simpa using g3),show ((s.length:Int) !=20+((Xgx s).1.Options.length:Int)+((Xgx s).2.1.length:Int))=false by simp;omega];rfl
   ·rw [if_pos g3,show ((s.length:Int) !=20+((Xgx s).1.Options.length:Int)+((Xgx s).2.1.length:Int))=true by simp;omega];rfl
  ·rw [if_pos g2,show ((Xgx s).2.2 !=0)=true by simpa using g2,cond_true];rfl
 ·rw [if_neg g1,show (vK s 0 1/16==4)=false by simpa using g1,cond_false]
  by_cases g4:vK s 0 1/16=6
  ·rw [if_pos g4,show (vK s 0 1/16==6)=true by simpa using g4,cond_true]
   by_cases g2:(Xh5 s).2.2=0
   ·have hb:(Xh5 s).2.1.length≤s.length:=by
     unfold Xh5
     repeat' split
     all_goals simp
     omega
    rw [if_neg (by simpa using g2),show ((Xh5 s).2.2 !=0)=false by simpa using g2,cond_false,XcC (n:=40+((Xh5 s).2.1.length:Int)) (by omega) (by omega)]
    by_cases g3:s.length=40+(Xh5 s).2.1.length
    ·rw [if_neg (by simpa using g3),show ((s.length:Int) !=40+((Xh5 s).2.1.length:Int))=false by simp;omega];rfl
    ·rw [if_pos g3,show ((s.length:Int) !=40+((Xh5 s).2.1.length:Int))=true by simp;omega];rfl
   ·rw [if_pos g2,show ((Xh5 s).2.2 !=0)=true by simpa using g2,cond_true];rfl
  ·rw [if_neg g4,show (vK s 0 1/16==6)=false by simpa using g4,cond_false];rfl
theorem XGF {o:O11} {n:Nat} (h1:A4 o.src) (h2:A4 o.dst) (hb:o.body.length<2^19) (hp:o.proto=6):∃ q,XaQ (o11 o) ⟨⟨o.proto,o.src,o.dst,0,0⟩,0,false,0,0,false,[],(n:Int)⟩=some (((Xez o n).2.1:Int),(Xez o n).2.2,q)∧((Xez o n).2.2=0→q=(Xez o n).1):=by
 unfold XaQ Xcb Xez o11
 rw [if_pos hp]
 simp only []
 rw [Xy7 h1 h2 (by omega),Option.bind_some]
 by_cases g:(Xfm o.body o.src o.dst).2.2=0
 ·have ho:(Xfm o.body o.src o.dst).1.Options.length<2^20:=by
   unfold Xfm
   repeat' split
   all_goals simp [Xnb]
   all_goals omega
  rw [if_neg (by simpa using g),show ((Xfm o.body o.src o.dst).2.2 !=0)=false by simpa using g,cond_false,XvY ho,Option.bind_some]
  unfold Xsw
  by_cases g2:0≤(Xeh (Xfm o.body o.src o.dst).1.Options).2.2
  ·rw [if_pos g2,XaZ (by omega)]
   exact ⟨_,rfl,fun _=>rfl⟩
  ·rw [if_neg g2,XaO (by omega)]
   exact ⟨_,rfl,fun _=>rfl⟩
 ·rw [if_pos g,show ((Xfm o.body o.src o.dst).2.2 !=0)=true by simpa using g,cond_true]
  exact ⟨_,rfl,fun h=>absurd h g⟩
theorem XKM {o:O11} {n:Nat} (h1:A4 o.src) (h2:A4 o.dst) (hb:o.body.length<2^19) (hp:o.proto=17):∃ q,XaM (o11 o) ⟨⟨o.proto,o.src,o.dst,0,0⟩,0,false,0,0,false,[],(n:Int)⟩=some (((Xez o n).2.1:Int),(Xez o n).2.2,q)∧((Xez o n).2.2=0→q=(Xez o n).1):=by
 unfold XaM Xb3 Xez o11
 rw [if_neg (by omega),if_pos hp]
 simp only []
 rw [XD6 h1 h2 (by omega),Option.bind_some]
 by_cases g:(Xfj o.body o.src o.dst).2.2=0
 ·have ho:(Xfj o.body o.src o.dst).2.1.length<2^20:=by
   unfold Xfj
   repeat' split
   all_goals simp
   all_goals omega
  rw [if_neg (by simpa using g),show ((Xfj o.body o.src o.dst).2.2 !=0)=false by simpa using g,cond_false,XcC (n:=(o.body.length:Int) - 8) (by omega) (by omega)]
  by_cases g2:(Xfj o.body o.src o.dst).2.1.length+8=o.body.length
  ·rw [if_neg (by simpa using g2),show (((Xfj o.body o.src o.dst).2.1.length:Int) !=(o.body.length:Int) - 8)=false by simp;omega,cond_false,Xr2 (by omega),Option.bind_some]
   unfold Xsk
   by_cases g3:(XeW (Xfj o.body o.src o.dst).2.1).2=0
   ·rw [if_pos g3,show ((XeW (Xfj o.body o.src o.dst).2.1).2==0)=true by simpa using g3,cond_true]
    exact ⟨_,rfl,fun _=>rfl⟩
   ·rw [if_neg g3,show ((XeW (Xfj o.body o.src o.dst).2.1).2==0)=false by simpa using g3,cond_false]
    exact ⟨_,rfl,fun _=>rfl⟩
  ·rw [if_pos g2,show (((Xfj o.body o.src o.dst).2.1.length:Int) !=(o.body.length:Int) - 8)=true by simp;omega,cond_true]
   exact ⟨_,rfl,fun h=>absurd h (by decide)⟩
 ·rw [if_pos g,show ((Xfj o.body o.src o.dst).2.2 !=0)=true by simpa using g,cond_true]
  exact ⟨_,rfl,fun h=>absurd h g⟩
def Xil (s:List UInt8):Xae×Int×Int×Int:=
 if (Xaq s).2.2.2≠0 then (zP,0,0,(Xaq s).2.2.2) else ((Xaq s).1,((s.length - (Xaq s).2.1:Nat):Int),((s.length - (Xaq s).2.2.1:Nat):Int),0)
theorem Xw1 {o:O11} {n:Nat}:(Xez o n).2.1≤o.body.length:=by
 unfold Xez
 split
 ·split
  ·simp
  ·show (Xfm o.body o.src o.dst).2.1.length≤_
   unfold Xfm
   repeat' split
   all_goals simp
 split
 ·split
  ·simp
  split
  ·simp
  ·show (Xfj o.body o.src o.dst).2.1.length≤_
   unfold Xfj
   repeat' split
   all_goals simp
   all_goals omega
 ·simp
theorem Xrr {s:List UInt8} (hs:s.length<2^19):Xa6 s=some (Xil s):=by
 unfold Xa6 Xe1
 have hz:(⟨⟨0,⟨false,0,0⟩,⟨false,0,0⟩,0,0⟩,0,false,0,0,false,[],0⟩:Xae)=zP:=rfl
 rw [hz]
 by_cases g1:9000<s.length
 ·have hT:Xaq s=(zP,0,0,5):=by unfold Xaq;rw [if_pos g1]
  unfold Xil
  rw [XaZ (by omega),hT];rfl
 rw [XaO (by omega)]
 by_cases g2:s=[]
 ·subst g2;rfl
 rw [show (s==[])=false by simpa using g2,cond_false,Xu3 hs g2,Option.bind_some]
 obtain ⟨a1,a2⟩:=XoU s
 by_cases g3:(Xag s).err=0
 ·have hb:=XdT g3
  have hil:=Xw1 (o:=Xag s) (n:=s.length)
  have hE:(Xez (Xag s) s.length).2.2≠0→Xil s=(zP,0,0,(Xez (Xag s) s.length).2.2):=fun g4=>by
   have hT:Xaq s=(zP,0,0,(Xez (Xag s) s.length).2.2):=by unfold Xaq;rw [if_neg g1,if_neg g2,if_neg (by simpa using g3),if_pos g4]
   unfold Xil
   rw [hT,if_pos g4]
  have hO:(Xez (Xag s) s.length).2.2=0→Xil s=((Xez (Xag s) s.length).1,((Xag s).body.length:Int),((Xez (Xag s) s.length).2.1:Int),0):=fun g4=>by
   have hT:Xaq s=((Xez (Xag s) s.length).1,s.length - (Xag s).body.length,s.length - (Xez (Xag s) s.length).2.1,0):=by unfold Xaq;rw [if_neg g1,if_neg g2,if_neg (by simpa using g3),if_neg (by simpa using g4)]
   unfold Xil
   rw [hT,if_neg (by simp)]
   simp only []
   rw [show s.length - (s.length - (Xag s).body.length)=(Xag s).body.length by omega,show s.length - (s.length - (Xez (Xag s) s.length).2.1)=(Xez (Xag s) s.length).2.1 by omega]
  simp only [g3,bne_self_eq_false,cond_false]
  by_cases p6:(Xag s).proto=6
  ·obtain ⟨q,q1,q2⟩:=XGF (o:=Xag s) (n:=s.length) a1 a2 (by omega) p6
   have e6:((o11 (Xag s)).proto==6)=true:=by show ((Xag s).proto==6)=true;simpa using p6
   rw [e6,cond_true]
   show (XaQ (o11 (Xag s)) ⟨⟨(Xag s).proto,(Xag s).src,(Xag s).dst,0,0⟩,0,false,0,0,false,[],(s.length:Int)⟩).bind _=_
   rw [q1,Option.bind_some]
   simp only []
   by_cases g4:(Xez (Xag s) s.length).2.2=0
   ·rw [hO g4,g4,q2 g4];rfl
   ·rw [hE g4,show ((Xez (Xag s) s.length).2.2 !=0)=true by simpa using g4];rfl
  ·have e6:((o11 (Xag s)).proto==6)=false:=by show ((Xag s).proto==6)=false;simpa using p6
   rw [e6,cond_false]
   by_cases p17:(Xag s).proto=17
   ·obtain ⟨q,q1,q2⟩:=XKM (o:=Xag s) (n:=s.length) a1 a2 (by omega) p17
    have e17:((o11 (Xag s)).proto==17)=true:=by show ((Xag s).proto==17)=true;simpa using p17
    rw [e17,cond_true]
    show (XaM (o11 (Xag s)) ⟨⟨(Xag s).proto,(Xag s).src,(Xag s).dst,0,0⟩,0,false,0,0,false,[],(s.length:Int)⟩).bind _=_
    rw [q1,Option.bind_some]
    simp only []
    by_cases g4:(Xez (Xag s) s.length).2.2=0
    ·rw [hO g4,g4,q2 g4];rfl
    ·rw [hE g4,show ((Xez (Xag s) s.length).2.2 !=0)=true by simpa using g4];rfl
   ·have e17:((o11 (Xag s)).proto==17)=false:=by show ((Xag s).proto==17)=false;simpa using p17
    have e6':(Xez (Xag s) s.length).2.2=6:=by unfold Xez;rw [if_neg p6,if_neg p17]
    rw [e17,cond_false,hE (by rw [e6'];decide),e6']
 ·have hT:Xaq s=(zP,0,0,(Xag s).err):=by unfold Xaq;rw [if_neg g1,if_neg g2,if_pos g3]
  unfold Xil
  rw [hT,if_pos g3,show ((Xag s).err !=0)=true by simpa using g3];rfl
theorem XoF {s:List UInt8} (hs:s.length<2^19):XaC s=some ((Xaq s).1,(Xaq s).2.2.2):=by
 unfold XaC XeF
 rw [Xrr hs,Option.bind_some]
 unfold Xil
 by_cases g:(Xaq s).2.2.2=0
 ·rw [if_neg (by simpa using g),g]
 ·rw [if_pos g,Xmw g]
theorem XmE (s:List UInt8):(Xaq s).2.1≤s.length∧(Xaq s).2.2.1≤s.length:=by
 unfold Xaq
 repeat' split
 all_goals simp
theorem XqW {s:List UInt8} (hs:s.length<2^19):Xaz s=some (((Xaq s).2.1:Int),((Xaq s).2.2.1:Int),(Xaq s).2.2.2):=by
 unfold Xaz XeB
 rw [Xrr hs,Option.bind_some]
 unfold Xil
 have hl:=XmE s
 by_cases g:(Xaq s).2.2.2=0
 ·rw [if_neg (by simpa using g),g]
  simp only [bne_self_eq_false,cond_false]
  rw [XcC (by omega) (by omega),XcC (by omega) (by omega),show (s.length:Int) - ((s.length - (Xaq s).2.1:Nat):Int)=((Xaq s).2.1:Int) by omega,show (s.length:Int) - ((s.length - (Xaq s).2.2.1:Nat):Int)=((Xaq s).2.2.1:Int) by omega]
 ·rw [if_pos g]
  simp only []
  rw [show ((Xaq s).2.2.2 !=0)=true by simpa using g,cond_true,Xmw g];rfl
theorem XfU {s s':List UInt8} {f m:Nat} (h:∀ k,f≤k→k<f+m→s'[k]?=s[k]?):(s'.drop f).take m=(s.drop f).take m:=by
 apply List.ext_getElem?
 intro x
 rw [List.getElem?_take,List.getElem?_take]
 split
 ·rw [List.getElem?_drop,List.getElem?_drop];exact h _ (by omega) (by omega)
 ·rfl
theorem XtX {s s':List UInt8} (hl:s'.length=s.length):∀ (n i:Nat) (out:List Xs2),(∀ k,i≤k→s'[k]?=s[k]?)→Xfk s' n i out=Xfk s n i out:=by
 intro n
 induction n using Nat.strongRecOn with
 | ind n ih=>
   intro i out hd
   cases n with
   | zero=>rw [Xfk,Xfk]
   | succ n=>
     rw [Xfk,Xfk,hd i (by omega),hd (i+1) (by omega),hl]
     cases s[i]? with
     | none=>rfl
     | some b=>
       simp only
       by_cases h0:b=0
       ·rw [if_pos h0,if_pos h0]
       rw [if_neg h0,if_neg h0]
       by_cases h1:b=1
       ·rw [if_pos h1,if_pos h1];exact ih n (by omega) _ _ (fun k hk=>hd k (by omega))
       rw [if_neg h1,if_neg h1]
       cases s[i+1]? with
       | none=>rfl
       | some k=>
         simp only
         by_cases h2:k.toNat<2
         ·rw [if_pos h2,if_pos h2]
         by_cases h3:s.length - i<k.toNat
         ·rw [if_neg h2,if_neg h2,if_pos h3,if_pos h3]
         rw [if_neg h2,if_neg h2,if_neg h3,if_neg h3,XfU (s:=s) (s':=s') (f:=i+2) (m:=k.toNat - 2) (fun x h _=>hd x (by omega))]
         exact ih _ (by omega) _ _ (fun x hx=>hd x (by omega))
theorem XsM {s s':List UInt8} (hl:s'.length=s.length) {p q:Nat} (hp:p=q∨p=q+4) (hd:∀ k,(k<p∨p+4≤k)→s'[k]?=s[k]?):∀ (n i:Nat),(Xfk s n i []).2=0→(stL (Xfk s n i []).1).2.2=(q:Int) →
 (Xfk s' n i []).2=0∧stL (Xfk s' n i []).1=(vK s' q 4,vK s' (q+4) 4,(q:Int))∧stL (Xfk s n i []).1=(vK s q 4,vK s (q+4) 4,(q:Int))∧i+2≤q∧q+8≤s.length:=by
 intro n
 induction n using Nat.strongRecOn with
 | ind n ih=>
   intro i h2 hq
   have bad:(-1:Int)=(q:Int)→False:=by omega
   cases n with
   | zero=>rw [Xfk] at hq;exact absurd hq bad
   | succ n=>
     have e:∀ t:List UInt8,Xfk t (n+1) i []=match t[i]? with
      | none=>([],0)
      | some b=>if b=0 then ([],0) else if b=1 then Xfk t n (i+1) [] else match t[i+1]? with
        | none=>([],3)
        | some k=>if k.toNat<2 then ([],3) else if t.length - i<k.toNat then ([],3) else
           Xfk t (n+1 - k.toNat) (i+k.toNat) ([]++[⟨(b.toNat:Int),(t.drop (i+2)).take (k.toNat - 2),((i+2:Nat):Int)⟩]):=fun t=>by rw [Xfk];try (cases t[i]?<;>cases t[i+1]?<;>rfl)
     rw [e s] at h2 hq ⊢
     rw [e s']
     cases hb:s[i]? with
     | none=>rw [hb] at hq;exact absurd hq bad
     | some b=>
       rw [hb] at h2 hq
       simp only at h2 hq ⊢
       by_cases h0:b=0
       ·rw [if_pos h0] at hq;exact absurd hq bad
       rw [if_neg h0] at h2 hq ⊢
       by_cases h1:b=1
       ·rw [if_pos h1] at h2 hq ⊢
        obtain ⟨r1,r2,r3,r4,r5⟩:=ih n (by omega) (i+1) h2 hq
        rw [hd i (by omega),hb]
        simp only [h1]
        exact ⟨r1,r2,r3,by omega,r5⟩
       rw [if_neg h1] at h2 hq ⊢
       cases hk:s[i+1]? with
       | none=>rw [hk] at h2;exact absurd (show (3:Int)=0 from h2) (by decide)
       | some k=>
         rw [hk] at h2 hq
         simp only at h2 hq ⊢
         by_cases g2:k.toNat<2
         ·rw [if_pos g2] at h2;exact absurd h2 (by decide)
         by_cases g3:s.length - i<k.toNat
         ·rw [if_neg g2,if_pos g3] at h2;exact absurd h2 (by decide)
         rw [if_neg g2,if_neg g3] at h2 hq ⊢
         have eg:=fun t:List UInt8=>Xjk t (n+1 - k.toNat) (i+k.toNat) ([]++[⟨(b.toNat:Int),(t.drop (i+2)).take (k.toNat - 2),((i+2:Nat):Int)⟩])
         have eg':=Xjk s' (n+1 - k.toNat) (i+k.toNat) [⟨(b.toNat:Int),(s'.drop (i+2)).take (k.toNat - 2),((i+2:Nat):Int)⟩]
         rw [eg s] at h2 hq ⊢
         have hi:i<s.length:=by
          rcases Nat.lt_or_ge i s.length with h|h
          ·exact h
          ·rw [List.getElem?_eq_none h] at hb;cases hb
         by_cases hz:(Xfk s (n+1 - k.toNat) (i+k.toNat) []).2=0
         ·rw [if_pos hz] at h2 hq ⊢
          simp only [List.nil_append,List.cons_append] at hq ⊢
          by_cases g8:b.toNat=8
          ·
           have gl:((s.drop (i+2)).take (k.toNat - 2)).length=8∧q=i+2:=by
            unfold stL at hq
            rw [if_pos (show (b.toNat:Int)=8 by omega)] at hq
            by_cases gl:((s.drop (i+2)).take (k.toNat - 2)).length=8
            ·rw [if_pos gl] at hq;simp only at hq;exact ⟨gl,by omega⟩
            ·rw [if_neg gl] at hq;exact absurd hq bad
           obtain ⟨gl,gq⟩:=gl
           have gk:k.toNat=10:=by rw [List.length_take,List.length_drop] at gl;omega
           have gl':((s'.drop (i+2)).take (k.toNat - 2)).length=8:=by rw [List.length_take,List.length_drop,hl,←gl,List.length_take,List.length_drop]
           rw [hd i (by omega),hb,hd (i+1) (by omega),hk]
           simp only
           rw [if_neg h0,if_neg h1,if_neg g2,hl,if_neg g3,eg',XtX hl _ _ _ (fun x hx=>hd x (by omega)),if_pos hz]
           simp only [List.nil_append,List.cons_append]
           have vd:∀ (t:List UInt8) (x:Nat),x+4≤8→vK ((t.drop (i+2)).take (k.toNat - 2)) x 4=vK t (q+x) 4:=fun t x hx=>by
            rw [XuA (by omega),gq];exact (XuH rfl).symm
           refine ⟨trivial,?_,?_,by omega,by rw [List.length_take,List.length_drop] at gl;omega⟩
           ·unfold stL
            rw [if_pos (show (b.toNat:Int)=8 by omega),if_pos gl']
            simp only
            rw [vd s' 0 (by omega),vd s' 4 (by omega),gq]
           ·unfold stL
            rw [if_pos (show (b.toNat:Int)=8 by omega),if_pos gl]
            simp only
            rw [vd s 0 (by omega),vd s 4 (by omega),gq]
          ·have st:∀ (t:List UInt8) (l:List Xs2),stL (⟨(b.toNat:Int),(t.drop (i+2)).take (k.toNat - 2),((i+2:Nat):Int)⟩::l)=stL l:=fun t l=>by
            rw [stL,if_neg (show ¬ (b.toNat:Int)=8 by omega)]
           rw [st] at hq
           obtain ⟨r1,r2,r3,r4,r5⟩:=ih _ (by omega) (i+k.toNat) hz hq
           rw [hd i (by omega),hb,hd (i+1) (by omega),hk]
           simp only
           rw [if_neg h0,if_neg h1,if_neg g2,hl,if_neg g3,eg',if_pos r1]
           simp only [List.nil_append,List.cons_append,st]
           exact ⟨trivial,r2,r3,by omega,r5⟩
         ·rw [if_neg hz] at h2;exact absurd h2 (by decide)
theorem Xst {s s':List UInt8} (hl:s'.length=s.length) {p q:Nat} (hp:p=q∨p=q+4) (hd:∀ k,(k<p∨p+4≤k)→s'[k]?=s[k]?) (h0:(Xi4 s).2=0) (hq:(Xeh s).2.2=(q:Int)) :
 (Xi4 s').2=0∧Xeh s'=(vK s' q 4,vK s' (q+4) 4,(q:Int))∧Xeh s=(vK s q 4,vK s (q+4) 4,(q:Int))∧2≤q∧q+8≤s.length:=by
 unfold Xi4 Xeh at *
 unfold Xi4 at *
 rw [hl]
 obtain ⟨r1,r2,r3,r4,r5⟩:=XsM hl hp hd s.length 0 h0 hq
 exact ⟨r1,r2,r3,by omega,r5⟩
theorem Xgq {s t:List UInt8} {z p k:Nat} (h:t.take z=s.take z) (hk:p+k≤z):(t.drop p).take k=(s.drop p).take k:=by
 have e:∀ l:List UInt8,(l.drop p).take k=((l.take z).drop p).take k:=fun l=>by
  rw [List.drop_take,List.take_take,Nat.min_eq_left (by omega)]
 rw [e t,e s,h]
theorem XmR {s t:List UInt8} {z k:Nat} (h:t.take z=s.take z) (hk:k≤z):t.take k=s.take k:=by
 have:=Xgq (p:=0) (k:=k) h (by omega)
 simpa using this
theorem Xf6 {s b:List UInt8} (h:(Xag s).err=0) (hb:b.length=(Xag s).body.length):Xag (s.take (Xag s).size++b)=⟨(Xag s).src,(Xag s).dst,(Xag s).proto,(Xag s).size,b,0⟩∧(Xag s).body=s.drop (Xag s).size:=by
 have hlen:=XdT h
 generalize hz:(Xag s).size=z at *
 have ht:(s.take z++b).take z=s.take z:=by
  rw [List.take_append_of_le_length (by rw [List.length_take];omega),List.take_take,Nat.min_self]
 have hdr:(s.take z++b).drop z=b:=List.drop_left' (by rw [List.length_take];omega)
 have hl:(s.take z++b).length=s.length:=by rw [List.length_append,List.length_take];omega
 generalize (s.take z++b)=t at *
 have hv:∀ p k,p+k≤z→vK t p k=vK s p k:=fun p k hk=>by unfold vK;rw [Xgq ht hk]
 unfold Xag at *
 by_cases g1:vK s 0 1/16=4
 ·rw [if_pos g1] at h hz hb hlen ⊢
  by_cases g2:(Xgx s).2.2≠0
  ·rw [if_pos g2] at h;exact absurd h g2
  rw [if_neg g2] at h hz hb hlen ⊢
  by_cases g3:s.length≠20+(Xgx s).1.Options.length+(Xgx s).2.1.length
  ·rw [if_pos g3] at h;exact absurd h (by decide)
  rw [if_neg g3] at hz hb hlen ⊢
  simp only at hz hb hlen ⊢
  have e5:∃ l5:Nat,(20≤l5∧l5≤s.length∧vK s 0 1%16*4=(l5:Int))∧z=l5∧Xgx s=(⟨vK s 1 1,vK s 4 2,vK s 6 2 !=0,vK s 8 1,vK s 9 1,XtO s 12,XtO s 16,(s.drop 20).take (l5 - 20)⟩,(s.drop l5).take ((vK s 2 2).toNat - l5),0)∧Xgx t=(⟨vK s 1 1,vK s 4 2,vK s 6 2 !=0,vK s 8 1,vK s 9 1,XtO s 12,XtO s 16,(s.drop 20).take (l5 - 20)⟩,(t.drop l5).take ((vK s 2 2).toNat - l5),0):=by
   have g2':(Xgx s).2.2=0:=by simpa using g2
   have z20:20≤z:=by omega
   unfold Xgx at g2' ⊢
   rw [hl,hv 0 1 (by omega),hv 2 2 (by omega),hv 6 2 (by omega),hv 1 1 (by omega),hv 4 2 (by omega),hv 8 1 (by omega),hv 9 1 (by omega)]
   have r0:=XdE s 0 1 256 (by decide)
   by_cases c0:s.length<20
   ·rw [if_pos c0] at g2';exact absurd g2' (by decide)
   by_cases c1:vK s 0 1/16≠4
   ·exact absurd g1 c1
   by_cases c2:vK s 0 1%16*4<20
   ·rw [if_neg c0,if_neg c1,if_pos c2] at g2';exact absurd g2' (by decide)
   by_cases c3:vK s 2 2<vK s 0 1%16*4
   ·rw [if_neg c0,if_neg c1,if_neg c2,if_pos c3] at g2';exact absurd g2' (by decide)
   by_cases c4:(s.length:Int)<vK s 2 2
   ·rw [if_neg c0,if_neg c1,if_neg c2,if_neg c3,if_pos c4] at g2';exact absurd g2' (by decide)
   have hzl:z=(vK s 0 1%16*4).toNat:=by
    rw [←hz]
    unfold Xgx
    rw [if_neg c0,if_neg c1,if_neg c2,if_neg c3,if_neg c4]
    by_cases c5:norm (Xdp (s.take (vK s 0 1%16*4).toNat))≠65535
    ·rw [if_neg c0,if_neg c1,if_neg c2,if_neg c3,if_neg c4,if_pos c5] at g2';exact absurd g2' (by decide)
    by_cases c6:vK s 6 2≠0∧vK s 6 2≠16384
    ·rw [if_neg c0,if_neg c1,if_neg c2,if_neg c3,if_neg c4,if_neg c5,if_pos c6] at g2';exact absurd g2' (by decide)
    rw [if_neg c5,if_neg c6]
    simp only [List.length_take,List.length_drop]
    omega
   refine ⟨(vK s 0 1%16*4).toNat,⟨by omega,by omega,by omega⟩,hzl,?_⟩
   rw [XmR ht (show (vK s 0 1%16*4).toNat≤z by omega)]
   by_cases c5:norm (Xdp (s.take (vK s 0 1%16*4).toNat))≠65535
   ·rw [if_neg c0,if_neg c1,if_neg c2,if_neg c3,if_neg c4,if_pos c5] at g2';exact absurd g2' (by decide)
   by_cases c6:vK s 6 2≠0∧vK s 6 2≠16384
   ·rw [if_neg c0,if_neg c1,if_neg c2,if_neg c3,if_neg c4,if_neg c5,if_pos c6] at g2';exact absurd g2' (by decide)
   simp only [if_neg c0,if_neg c1,if_neg c2,if_neg c3,if_neg c4,if_neg c5,if_neg c6]
   have a4:∀ p,p+4≤z→XtO t p=XtO s p:=fun p hp=>by unfold XtO;rw [hv p 4 hp]
   rw [a4 12 (by omega),a4 16 (by omega),Xgq ht (show 20+((vK s 0 1%16*4).toNat - 20)≤z by omega)]
   exact ⟨trivial,rfl⟩
  obtain ⟨l5,⟨q1,q2,q3⟩,q4,q5,q6⟩:=e5
  subst q4
  rw [hv 0 1 (by omega),if_pos g1]
  rw [q5] at g3 hb hlen ⊢
  rw [q6]
  simp only at hb hlen g3 ⊢
  have hfull:(s.drop z).take ((vK s 2 2).toNat - z)=s.drop z:=List.take_of_length_le (by
   have:(s.drop z).length=s.length - z:=List.length_drop
   rw [List.length_take] at hlen
   omega)
  rw [hfull] at hb g3 ⊢
  have hfb:(t.drop z).take ((vK s 2 2).toNat - z)=b:=by
   rw [hdr]
   refine List.take_of_length_le ?_
   rw [hfull] at hlen
   have:(s.drop z).length=s.length - z:=List.length_drop
   have h3:=congrArg List.length hfull
   rw [List.length_take] at h3
   omega
  rw [hfb,hl,if_neg (by simp),if_neg (by rw [hb];exact g3)]
  refine ⟨?_,rfl⟩
  have:20+((s.drop 20).take (z - 20)).length=z:=by rw [List.length_take,List.length_drop];omega
  rw [this]
 ·rw [if_neg g1] at h hz hb hlen ⊢
  by_cases g4:vK s 0 1/16=6
  ·rw [if_pos g4] at h hz hb hlen ⊢
   by_cases g2:(Xh5 s).2.2≠0
   ·rw [if_pos g2] at h;exact absurd h g2
   rw [if_neg g2] at h hz hb hlen ⊢
   by_cases g3:s.length≠40+(Xh5 s).2.1.length
   ·rw [if_pos g3] at h;exact absurd h (by decide)
   rw [if_neg g3] at hz hb hlen ⊢
   simp only at hz hb hlen ⊢
   subst hz
   have g2':(Xh5 s).2.2=0:=by simpa using g2
   have k6:Xh5 s=(XpC s,(s.drop 40).take (Xdf ((s.drop 4).take 2)),0)∧Xh5 t=(XpC s,(t.drop 40).take (Xdf ((s.drop 4).take 2)),0):=by
    unfold Xh5 at g2' ⊢
    rw [hl,XmR ht (show 4≤40 by decide),Xgq (p:=4) (k:=2) ht (by decide)]
    by_cases c0:s.length<40
    ·rw [if_pos c0] at g2';exact absurd g2' (by decide)
    by_cases c1:Xdf (s.take 4)/2^28≠6
    ·rw [if_neg c0,if_pos c1] at g2';exact absurd g2' (by decide)
    by_cases c2:s.length - 40<Xdf ((s.drop 4).take 2)
    ·rw [if_neg c0,if_neg c1,if_pos c2] at g2';exact absurd g2' (by decide)
    rw [if_neg c0,if_neg c1,if_neg c2,if_neg c0,if_neg c1,if_neg c2]
    have hh:XpC t=XpC s:=by
     unfold XpC
     rw [XmR ht (show 4≤40 by decide),Xgq (p:=6) (k:=1) ht (by decide),Xgq (p:=7) (k:=1) ht (by decide),Xgq (p:=8) (k:=16) ht (by decide),Xgq (p:=24) (k:=16) ht (by decide)]
    rw [hh]
    exact ⟨rfl,rfl⟩
   obtain ⟨k1,k2⟩:=k6
   rw [hv 0 1 (by omega),if_neg g1,if_pos g4]
   rw [k1] at g3 hb hlen ⊢
   rw [k2]
   simp only at hb hlen g3 ⊢
   have d40:(s.drop 40).length=s.length - 40:=List.length_drop
   have hfull:(s.drop 40).take (Xdf ((s.drop 4).take 2))=s.drop 40:=List.take_of_length_le (by
    rw [List.length_take] at hlen;omega)
   have h3:=congrArg List.length hfull
   rw [List.length_take] at h3
   rw [hfull] at hb g3 ⊢
   have hfb:(t.drop 40).take (Xdf ((s.drop 4).take 2))=b:=by
    rw [hdr]
    exact List.take_of_length_le (by omega)
   rw [hfb,hl,if_neg (by simp),if_neg (by rw [hb];exact g3)]
   exact ⟨rfl,rfl⟩
  ·rw [if_neg g4] at h;exact absurd h (by decide)
theorem Xlx:∀ a:List UInt8,Xdp a=0→XHu a=true
 | [],_=>rfl
 | [x],h=>by
   have:x.toNat=0:=by rw [Xdp] at h;omega
   have e:x=0:=UInt8.toNat_inj.1 this
   subst e;rfl
 | x::y::a,h=>by
   rw [Xdp] at h
   have ex:x=0:=UInt8.toNat_inj.1 (show x.toNat=0 by omega)
   have ey:y=0:=UInt8.toNat_inj.1 (show y.toNat=0 by omega)
   have:=Xlx a (by omega)
   subst ex ey
   exact this
theorem XIO {b:List UInt8} {p:Nat} (hp:p<b.length) (h:0<vK b p 1):Xdp b≠0:=by
 intro e
 have hz:=Xlx b e
 unfold XHu at hz
 rw [List.all_eq_true] at hz
 have:=hz b[p] (List.getElem_mem hp)
 have e0:b[p]=0:=by simpa using this
 rw [XiH hp,e0] at h
 exact absurd h (by decide)
def n7 (b:List UInt8):Nat:=(4*(vK b 12 1/16)).toNat - 20
def hd7 (b:List UInt8) (o:List UInt8):Xas:=⟨vK b 0 2,vK b 2 2,vK b 4 4,vK b 8 4,vK b 13 1,vK b 14 2,vK b 18 2,o⟩
theorem Xqw {b:List UInt8} {src dst:Xab} (h:(Xfm b src dst).2.2=0):20≤b.length∧5≤vK b 12 1/16∧20+n7 b≤b.length∧(Xi4 ((b.drop 20).take (n7 b))).2=0∧Xfm b src dst=(hd7 b ((b.drop 20).take (n7 b)),b.drop (20+n7 b),0):=by
 unfold Xfm at h ⊢
 by_cases g0:b.length<20
 ·rw [if_pos g0] at h;exact absurd h (by decide)
 by_cases g1:4*(vK b 12 1/16)<20
 ·rw [if_neg g0,if_pos g1] at h;exact absurd h (by decide)
 by_cases g2:vK b 12 1%16≠0
 ·rw [if_neg g0,if_neg g1,if_pos g2] at h;exact absurd h (by decide)
 by_cases g3:(b.length:Int)<4*(vK b 12 1/16)
 ·rw [if_neg g0,if_neg g1,if_neg g2,if_pos g3] at h;exact absurd h (by decide)
 by_cases g4:Xlw src dst 6 b.length=[]
 ·rw [if_neg g0,if_neg g1,if_neg g2,if_neg g3,if_pos g4] at h;exact absurd h (by decide)
 by_cases g5:norm (Xdp (Xlw src dst 6 b.length++b))≠65535
 ·rw [if_neg g0,if_neg g1,if_neg g2,if_neg g3,if_neg g4,if_pos g5] at h;exact absurd h (by decide)
 by_cases g6:(Xi4 ((b.drop 20).take ((4*(vK b 12 1/16)).toNat - 20))).2≠0
 ·rw [if_neg g0,if_neg g1,if_neg g2,if_neg g3,if_neg g4,if_neg g5,if_pos g6] at h;exact absurd h g6
 rw [if_neg g0,if_neg g1,if_neg g2,if_neg g3,if_neg g4,if_neg g5,if_neg g6]
 refine ⟨by omega,by omega,by unfold n7;omega,by unfold n7;simpa using g6,?_⟩
 unfold hd7 n7
 rw [show 20+((4*(vK b 12 1/16)).toNat - 20)=(4*(vK b 12 1/16)).toNat by omega]
theorem XuT {b b':List UInt8} {src dst:Xab} (hlen:b'.length=b.length) (h:(Xfm b src dst).2.2=0) (hd:∀ k,k<20→k≠16→k≠17→b'[k]?=b[k]?) (hs:Xdp b'%65535=Xdp b%65535) (ho:(Xi4 ((b'.drop 20).take (n7 b))).2=0):Xfm b' src dst=(hd7 b ((b'.drop 20).take (n7 b)),b'.drop (20+n7 b),0):=by
 obtain ⟨l20,v5,ln,_,_⟩:=Xqw h
 have hv:∀ p k,(p+k≤16∨18≤p∧p+k≤20)→vK b' p k=vK b p k:=fun p k hk=>by
  unfold vK;rw [XfU (fun x h1 h2=>hd x (by omega) (by omega) (by omega))]
 have hnz:Xdp b'≠0:=XIO (p:=12) (by omega) (by rw [hv 12 1 (by omega)];omega)
 unfold Xfm at h ⊢
 rw [hlen,hv 12 1 (by omega),hv 0 2 (by omega),hv 2 2 (by omega),hv 4 4 (by omega),hv 8 4 (by omega),hv 13 1 (by omega),hv 14 2 (by omega),hv 18 2 (by omega)]
 by_cases g0:b.length<20
 ·rw [if_pos g0] at h;exact absurd h (by decide)
 by_cases g1:4*(vK b 12 1/16)<20
 ·rw [if_neg g0,if_pos g1] at h;exact absurd h (by decide)
 by_cases g2:vK b 12 1%16≠0
 ·rw [if_neg g0,if_neg g1,if_pos g2] at h;exact absurd h (by decide)
 by_cases g3:(b.length:Int)<4*(vK b 12 1/16)
 ·rw [if_neg g0,if_neg g1,if_neg g2,if_pos g3] at h;exact absurd h (by decide)
 by_cases g4:Xlw src dst 6 b.length=[]
 ·rw [if_neg g0,if_neg g1,if_neg g2,if_neg g3,if_pos g4] at h;exact absurd h (by decide)
 by_cases g5:norm (Xdp (Xlw src dst 6 b.length++b))≠65535
 ·rw [if_neg g0,if_neg g1,if_neg g2,if_neg g3,if_neg g4,if_pos g5] at h;exact absurd h (by decide)
 have g5':¬ norm (Xdp (Xlw src dst 6 b.length++b'))≠65535:=by
  have m:=Xit (Xdp (Xlw src dst 6 b.length++b))
  rw [Decidable.not_not.1 g5] at m
  rw [Xex _ _ (Xpy _ _ _ _)] at m ⊢
  rw [XkF (by omega) (by omega)]
  simp
 rw [if_neg g0,if_neg g1,if_neg g2,if_neg g3,if_neg g4,if_neg g5',if_neg (by unfold n7 at ho;simpa using ho)]
 unfold hd7 n7
 rw [show 20+((4*(vK b 12 1/16)).toNat - 20)=(4*(vK b 12 1/16)).toNat by omega]
theorem XdZ {s:List UInt8} (h:(Xaq s).2.2.2=0) (hs:(Xaq s).1.Stamped=true):(Xag s).err=0∧(Xag s).proto=6∧s.length≤9000∧s≠[]∧(Xfm (Xag s).body (Xag s).src (Xag s).dst).2.2=0 ∧
 0≤(Xeh (Xfm (Xag s).body (Xag s).src (Xag s).dst).1.Options).2.2∧Xaq s=((Xez (Xag s) s.length).1,s.length - (Xag s).body.length,s.length - (Xez (Xag s) s.length).2.1,0):=by
 unfold Xaq at h hs ⊢
 by_cases g1:9000<s.length
 ·rw [if_pos g1] at h;exact absurd h (by decide)
 by_cases g2:s=[]
 ·rw [if_neg g1,if_pos g2] at h;exact absurd h (by decide)
 by_cases g3:(Xag s).err≠0
 ·rw [if_neg g1,if_neg g2,if_pos g3] at h;exact absurd h g3
 by_cases g4:(Xez (Xag s) s.length).2.2≠0
 ·rw [if_neg g1,if_neg g2,if_neg g3,if_pos g4] at h;exact absurd h g4
 rw [if_neg g1,if_neg g2,if_neg g3,if_neg g4] at hs ⊢
 simp only at hs
 have hin:(Xag s).proto=6∧(Xfm (Xag s).body (Xag s).src (Xag s).dst).2.2=0∧0≤(Xeh (Xfm (Xag s).body (Xag s).src (Xag s).dst).1.Options).2.2:=by
  unfold Xez at hs
  by_cases p6:(Xag s).proto=6
  ·rw [if_pos p6] at hs
   by_cases e7:(Xfm (Xag s).body (Xag s).src (Xag s).dst).2.2≠0
   ·rw [if_pos e7] at hs;exact absurd hs (by simp [zP])
   rw [if_neg e7] at hs
   simp only at hs
   unfold Xsw at hs
   by_cases e8:0≤(Xeh (Xfm (Xag s).body (Xag s).src (Xag s).dst).1.Options).2.2
   ·exact ⟨p6,by simpa using e7,e8⟩
   ·rw [if_neg e8] at hs;exact absurd hs (by decide)
  ·rw [if_neg p6] at hs
   by_cases p17:(Xag s).proto=17
   ·rw [if_pos p17] at hs
    split at hs
    ·exact absurd hs (by simp [zP])
    split at hs
    ·exact absurd hs (by simp [zP])
    ·exact absurd hs (by simp)
   ·rw [if_neg p17] at hs;exact absurd hs (by decide)
 exact ⟨by simpa using g3,hin.1,by omega,g2,hin.2.1,hin.2.2,rfl⟩
theorem Xh3 {s b':List UInt8} {p q:Nat} (h:(Xaq s).2.2.2=0) (hs:(Xaq s).1.Stamped=true) (hq:(Xeh (Xfm (Xag s).body (Xag s).src (Xag s).dst).1.Options).2.2=(q:Int)) (hp:p=q∨p=q+4) (hlen:b'.length=(Xag s).body.length)
 (hd:∀ k,k≠16→k≠17→(k<20+p∨20+p+4≤k)→b'[k]?=(Xag s).body[k]?) (hw:Xdp b'%65535=Xdp (Xag s).body%65535) :
 Xaq (s.take (Xag s).size++b')=({(Xaq s).1 with Val:=vK b' (20+q) 4,Echo:=vK b' (20+(q+4)) 4},(Xaq s).2.1,(Xaq s).2.2.1,0)∧(Xaq s).1.Val=vK (Xag s).body (20+q) 4∧(Xaq s).1.Echo=vK (Xag s).body (20+(q+4)) 4∧q+28≤(Xag s).body.length:=by
 obtain ⟨k1,k2,k3,k4,k5,k6,k7⟩:=XdZ h hs
 obtain ⟨sw1,sw2⟩:=Xf6 k1 hlen
 have hbl:=XdT k1
 obtain ⟨l20,v5,ln,o7,g7⟩:=Xqw k5
 have eo:(Xfm (Xag s).body (Xag s).src (Xag s).dst).1.Options=((Xag s).body.drop 20).take (n7 (Xag s).body):=by rw [g7];rfl
 rw [eo] at hq k6
 generalize hB:(Xag s).body=B at *
 have hol:((b'.drop 20).take (n7 B)).length=((B.drop 20).take (n7 B)).length:=by simp only [List.length_take,List.length_drop,hlen]
 have hod:∀ k,(k<p∨p+4≤k)→((b'.drop 20).take (n7 B))[k]?=((B.drop 20).take (n7 B))[k]?:=fun k hk=>by
  rw [List.getElem?_take,List.getElem?_take]
  split
  ·rw [List.getElem?_drop,List.getElem?_drop];exact hd _ (by omega) (by omega) (by omega)
  ·rfl
 obtain ⟨r1,r2,r3,r4,r5⟩:=Xst hol hp hod o7 hq
 have hon:((B.drop 20).take (n7 B)).length≤n7 B:=by rw [List.length_take];omega
 have hon2:((B.drop 20).take (n7 B)).length+20≤B.length:=by rw [List.length_take,List.length_drop];omega
 have vo:∀ (b:List UInt8) (x:Nat),x+4≤n7 B→vK ((b.drop 20).take (n7 B)) x 4=vK b (20+x) 4:=fun b x hx=>by rw [XuA hx];exact (XuH rfl).symm
 have g7':=XuT (b:=B) (b':=b') (src:=(Xag s).src) (dst:=(Xag s).dst) hlen k5 (fun k h1 h2 h3=>hd k h2 h3 (by omega)) hw r1
 have st:Xsw ((B.drop 20).take (n7 B))=(true,vK B (20+q) 4,vK B (20+(q+4)) 4):=by
  unfold Xsw
  rw [r3,if_pos (by simp only;omega),vo B q (by omega),vo B (q+4) (by omega)]
 have st':Xsw ((b'.drop 20).take (n7 B))=(true,vK b' (20+q) 4,vK b' (20+(q+4)) 4):=by
  unfold Xsw
  rw [r2,if_pos (by simp only;omega),vo b' q (by omega),vo b' (q+4) (by omega)]
 have in0:Xez (Xag s) s.length=(⟨⟨(Xag s).proto,(Xag s).src,(Xag s).dst,vK B 0 2,vK B 2 2⟩,vK B 13 1,true,vK B (20+q) 4,vK B (20+(q+4)) 4,false,[],s.length⟩,(B.drop (20+n7 B)).length,0):=by
  unfold Xez
  rw [if_pos k2,hB,g7]
  simp only [hd7,st]
  rw [if_neg (by simp)]
 have hz:(s.take (Xag s).size++b').length=s.length:=by rw [List.length_append,List.length_take];omega
 generalize (s.take (Xag s).size++b')=t at *
 have in1:Xez (Xag t) t.length=(⟨⟨(Xag s).proto,(Xag s).src,(Xag s).dst,vK B 0 2,vK B 2 2⟩,vK B 13 1,true,vK b' (20+q) 4,vK b' (20+(q+4)) 4,false,[],s.length⟩,(B.drop (20+n7 B)).length,0):=by
  unfold Xez
  rw [sw1,hz]
  simp only
  rw [if_pos k2,g7']
  simp only [hd7,st']
  rw [if_neg (by simp),List.length_drop,List.length_drop,hlen]
 rw [k7,in0]
 simp only
 refine ⟨?_,trivial,trivial,by omega⟩
 unfold Xaq
 rw [if_neg (by omega),if_neg (by intro e;rw [e] at hz;exact k4 (List.eq_nil_of_length_eq_zero (by simpa using hz.symm))),in1,sw1]
 simp only [ne_eq,not_true,if_false,hz,hlen]
end Go.Vm.Code
namespace Go.Vm.Code
open Go Go.Vm Go.Proofs
set_option maxRecDepth 100000
set_option maxHeartbeats 4000000
set_option linter.unusedVariables false
def Xff (l:List Int) (t7:Int):Option (Sum Int Bool):=
 cond (decide (t7<(l.length:Int)))
  (
  XaE (decide ((0:Int)≤t7∧t7<(l.length:Int))) <|
  (l[t7.toNat]?).bind fun (e:Int)=>
  cond (decide (e<0))
   (
   some (.inr (false)))
   (
   cond (decide (e>65535))
    (
    some (.inr (false)))
    (
    some (.inl (wI .i64 (t7+1))))))
  (
  some (.inr (true)))
def XgI (l:List Int):Option Bool:=
 iter (fun st=>Xff l st) FUEL 0
def XsS (x:Bool):Xcw:=⟨.bool x,[],[none]⟩
def r127 (g:(List Int)→Option Bool):Dec:=dSl 0 1 (unL (asI .i64)) fun (y0:List Int)=>Xdd (ofG (g y0) XsS)
theorem XJs {g:(List Int)→Option Bool} {y0:List Int} {x:Bool} (hx:g y0=some x):r127 g [.slice (some ⟨0,0,none⟩) y0.length 1] [some (vI .i64 y0)]=some (XsS x):=(Xtv (Xtf _ _)).trans (Xa3 hx)
def s127 (g:(List Int)→Option Bool):Xbu:=⟨[.sl 1],r127 g⟩
theorem XDX {g:(List Int)→Option Bool} {y0:List Int} {x:Bool} (hx:g y0=some x):(s127 g).run [.slice (some ⟨0,0,none⟩) y0.length 1] [some (vI .i64 y0)]=some (XsS x):=XJs hx
abbrev Xp0:List (Nat×Xbu):=[]
def XiM (l:List Int) (t7:Int):VM:=
 ⟨⟨127,18,[(5,.slice (some ⟨0,0,none⟩) l.length 1),(6,.int .i64 (l.length:Int)),(7,.int .i64 t7)],[.code Xqp,.inLoop Xqp,.inBlock 0,.code XtG],[],false,none⟩,[],[(0,.row false (vI .i64 l))],1⟩
theorem XuI (hS:Xah Tryz.prog (Xav (Xp0))) (l:List Int) (res:Bool):∀ fuel (st:Int) (o:Bool),iter (fun st=>Xff l st) fuel st=some o→(o=res) →
 XaK Tryz.prog 127 1 (XiM l st) (fun v H _=>Res 1 (XsS res) v H):=by
 intro fuel st o h hc
 refine XbY (head:=fun st=>XiM l st) (C:=fun o=>(o=res)) ?_ fuel st o h hc
 clear h hc o st fuel
 intro t7 o h hc
 replace h:Xff l t7=some o:=h
 show XaK Tryz.prog 127 1 (XiM l t7) (fun v H _=>Res 1 (XsS res) v H)
 unfold Xff at h
 refine Xbi Xan hS true 3000 ?_
 conv=>whnf
 refine br.h2 h (by rfl) ?_ ?_
 ·clear h;intro hb h;conv=>whnf
  all_goals (cases h;cases hc)
  all_goals exact Res.of [] rfl Xhe (by decide) Xhc (XGA Xhb)
 clear h;intro hb h;conv=>whnf
 replace h:=XaE.elim h;obtain ⟨hb,h⟩:=h
 try (refine req.intro hb ?_;conv=>whnf)
 replace h:=Xai.elim h;obtain ⟨e,hy,h⟩:=h
 refine rd.I hy (by first|rfl|(rw [Nat.zero_add,Nat.mul_one];try rfl;done)|omega) ?_
 conv=>whnf
 refine br.h h (by rfl) ?_ ?_
 ·clear h;intro hb h;conv=>whnf
  all_goals (cases h;cases hc)
  all_goals exact Res.of [] rfl Xhe (by decide) Xhc (XGA Xhb)
 clear h;intro hb h;conv=>whnf
 refine br.h h (by rfl) ?_ ?_
 ·clear h;intro hb h;conv=>whnf
  all_goals (cases h;cases hc)
  all_goals exact Res.of [] rfl Xhe (by decide) Xhc (XGA Xhb)
 clear h;intro hb h;conv=>whnf
 cases h;simp only [Sum.elim_inl,XiM] at hc
 exact XjC hc [(0,0)] rfl
theorem Xyz (hS:Xah Tryz.prog (Xav (Xp0))) (l:List Int) (res:Bool) (h:XgI l=some res) :
 XaK Tryz.prog 127 1 ⟨⟨127,18,[(0,.slice (some ⟨0,0,none⟩) l.length 1)],[.code Xuo],[],false,none⟩,[],[(0,.row false (vI .i64 l))],1⟩ (fun v H _=>Res 1 (XsS res) v H):=by
 unfold XgI at h
 refine Xbi Xan hS true 3000 ?_
 conv=>whnf
 have hl:=XuI hS _ res _ _ _ h rfl;simp only [XiM] at hl
 exact XjC hl [(0,0)] rfl
theorem ok127 (hS:Xah Tryz.prog (Xav (Xp0))):Xar Tryz.prog 127 (s127 (XgI)):=by
 refine Xar.Xax Xan (fun ar os r ha hr=>?_) ⟨Tryz.f127,rfl,by decide,rfl⟩
 replace hr:r127 (XgI) ar (XaH os)=some r:=hr
 unfold r127 at hr
 generalize hc:XaH os=C at hr
 have hq:=dSl.elim hr;clear hr;obtain ⟨c0,l1,C,y0,rfl,rfl,e0,hr⟩:=hq;obtain rfl:=Xwg e0
 replace hr:=Xdw hr;obtain ⟨rfl,rfl,x,h,rfl⟩:=hr
 obtain ⟨os,rfl,ha,hc⟩:=Xc3 ha hc
 obtain rfl:=Xat hc
 exact ⟨_,rfl,Xyz hS _ x h⟩
def XcJ:(List Int)→Option Bool:=XgI
theorem XFq:Xar Tryz.prog 127 (s127 XcJ):=ok127 (Xah.Xa0 trivial)
def Xgc (XaW:Int→Option Int) (XcJ:(List Int)→Option Bool) (check:Int) (froma1:Int) (to:Int):Option Int:=
 (XcJ [check,froma1,to]).bind fun m=>
 cond (!m)
  (
  some (0))
  (
  let t:=wI .i64 ((wI .i64 (65535 - check))+65535)
  (XaW (wI .i64 ((wI .i64 (t - froma1))+to))).bind fun f=>
  some (wI .i64 (65535 - f)))
def Xy1 (x:Int):Xcw:=⟨.int .i64 x,[],[]⟩
def r105 (g:Int→Int→Int→Option Int):Dec:=dV (asI .i64) fun (y0:Int)=>dV (asI .i64) fun (y1:Int)=>dV (asI .i64) fun (y2:Int)=>Xdd (ofG (g y0 y1 y2) Xy1)
theorem XG5 {g:Int→Int→Int→Option Int} {y0:Int} {y1:Int} {y2:Int} {x:Int} (hx:g y0 y1 y2=some x):r105 g [.int .i64 y0,.int .i64 y1,.int .i64 y2] []=some (Xy1 x):=(XaX (Xcv _)).trans ((XaX (Xcv _)).trans ((XaX (Xcv _)).trans (Xa3 hx)))
def s105 (g:Int→Int→Int→Option Int):Xbu:=⟨[.v,.v,.v],r105 g⟩
theorem Xt6 {g:Int→Int→Int→Option Int} {y0:Int} {y1:Int} {y2:Int} {x:Int} (hx:g y0 y1 y2=some x):(s105 g).run [.int .i64 y0,.int .i64 y1,.int .i64 y2] []=some (Xy1 x):=XG5 hx
abbrev XtW (XaW:Int→Option Int) (XcJ:(List Int)→Option Bool):List (Nat×Xbu):=[(128,XHt XaW),(127,s127 XcJ)]
theorem Xym (XaW:Int→Option Int) (XcJ:(List Int)→Option Bool) (hS:Xah Tryz.prog (Xav (XtW XaW XcJ))) (check:Int) (froma1:Int) (to:Int) (res:Int) (h:Xgc XaW XcJ check froma1 to=some res) :
 XaK Tryz.prog 105 0 ⟨⟨105,22,[(0,.int .i64 check),(1,.int .i64 froma1),(2,.int .i64 to)],[.code XB7],[],false,none⟩,[],[],0⟩ (fun v H _=>Res 0 (Xy1 res) v H):=by
 unfold Xgc at h
 refine Xbi Xan hS true 3000 ?_
 conv=>whnf
 replace h:=Xai.elim h;obtain ⟨m,hy,h⟩:=h
 refine XaJ.Xbe [] (Xaw (aqs:=[.slice (some ⟨0,0,none⟩) ([check,froma1,to]:List Int).length 1]) (ws:=[.win 0 0 (3*1) false]) (n:=0) (m:=0) (t':=1) (Xau (by first|rfl|exact XoJ rfl rfl (by first|rfl|omega) (by first|rfl|(simp;done))|exact XpE rfl rfl (by first|rfl|omega) (by first|rfl|omega) (by first|omega|(simp at *;omega))) rfl Xbg) rfl (by rfl) (XDX hy) rfl rfl rfl rfl (XnV rfl Xbf) Xbc rfl) ?_
 conv=>whnf
 refine br.h h (by rfl) ?_ ?_
 ·clear h;intro hb h;conv=>whnf
  all_goals (cases h;exact Res.y)
 clear h;intro hb h;conv=>whnf
 let t:Int:=wI .i64 ((wI .i64 (65535 - check))+65535)
 replace h:=Xai.elim h;obtain ⟨f,hy,h⟩:=h
 refine XaJ.p (Xqy hy) ?_
 conv=>whnf
 all_goals (cases h;exact Res.y)
theorem ok105 (XaW:Int→Option Int) (XcJ:(List Int)→Option Bool) (hS:Xah Tryz.prog (Xav (XtW XaW XcJ))):Xar Tryz.prog 105 (s105 (Xgc XaW XcJ)):=by
 refine Xar.Xax Xan (fun ar os r ha hr=>?_) ⟨Tryz.f105,rfl,by decide,rfl⟩
 replace hr:r105 (Xgc XaW XcJ) ar (XaH os)=some r:=hr
 unfold r105 at hr
 generalize hc:XaH os=C at hr
 replace hr:=dV.elim hr;obtain ⟨v0,l1,y0,rfl,e0,hr⟩:=hr;obtain rfl:=XbF _ _ _ e0
 replace hr:=dV.elim hr;obtain ⟨v1,l2,y1,rfl,e1,hr⟩:=hr;obtain rfl:=XbF _ _ _ e1
 replace hr:=dV.elim hr;obtain ⟨v2,l3,y2,rfl,e2,hr⟩:=hr;obtain rfl:=XbF _ _ _ e2
 replace hr:=Xdw hr;obtain ⟨rfl,rfl,x,h,rfl⟩:=hr
 obtain rfl:=Xat hc
 exact ⟨_,rfl,Xym XaW XcJ hS _ _ _ x h⟩
def Xbw:Int→Int→Int→Option Int:=Xgc XaW XcJ
theorem XD3:Xar Tryz.prog 105 (s105 Xbw):=ok105 XaW XcJ (Xah.Xa0 ⟨XtJ,XFq,trivial⟩)
def XdH (Xbw:Int→Int→Int→Option Int) (Xal:(List UInt8)→Int→Int→Option (Int×Bool)) (froma1:List UInt8) (to:List UInt8) (xat:Int) (check1:Int) (xat1:Int):Option (Sum (Int×Int×Int) Int):=
 cond (decide (xat<(froma1.length:Int)))
  (
  XaE (decide (0≤xat)) <|
  (froma1[xat.toNat]?).bind fun (b:UInt8)=>
  let t2:=wI .i64 ((wI .i64 (b.toNat:Int))*2^8)
  let t3:=decide ((wI .i64 (xat+1))<(froma1.length:Int))
  cond (t3)
   (
   XaE (decide (0≤(wI .i64 (xat+1)))) <|
   (froma1[(wI .i64 (xat+1)).toNat]?).bind fun (b1:UInt8)=>
   (Xal to xat1 2).bind fun xg=>
   (Xbw check1 (XsB .i64 t2 (wI .i64 (b1.toNat:Int))) (wI .i64 xg.1)).bind fun t4=>
   some (.inl (wI .i64 (xat+2),t4,wI .i64 (xat1+2))))
   (
   (Xal to xat1 2).bind fun xg1=>
   (Xbw check1 t2 (wI .i64 xg1.1)).bind fun t5=>
   some (.inl (wI .i64 (xat+2),t5,wI .i64 (xat1+2)))))
  (
  some (.inr (check1)))
def XeG (Xbw:Int→Int→Int→Option Int) (Xal:(List UInt8)→Int→Int→Option (Int×Bool)) (check:Int) (froma1:List UInt8) (to:List UInt8):Option Int:=
 let t:=(froma1.length:Int) !=(to.length:Int)
 cond (t)
  (
  some (check))
  (
  let t1:=decide (((froma1.length:Int).tmod 2)>0)
  cond (t1)
   (
   some (check))
   (
   iter (fun st=>XdH Xbw Xal froma1 to st.1 st.2.1 st.2.2) FUEL (0,check,0)))
def XGo (x:Int):Xcw:=⟨.int .i64 x,[],[]⟩
def r68 (g:Int→(List UInt8)→(List UInt8)→Option Int):Dec:=dV (asI .i64) fun (y0:Int)=>dV asS fun (y1:List UInt8)=>dV asS fun (y2:List UInt8)=>Xdd (ofG (g y0 y1 y2) XGo)
theorem r68_c {g:Int→(List UInt8)→(List UInt8)→Option Int} {y0:Int} {y1:List UInt8} {y2:List UInt8} {x:Int} (hx:g y0 y1 y2=some x):r68 g [.int .i64 y0,.string ⟨⟨y1⟩⟩,.string ⟨⟨y2⟩⟩] []=some (XGo x):=(XaX (Xcv _)).trans ((XaX (XcI)).trans ((XaX (XcI)).trans (Xa3 hx)))
def s68 (g:Int→(List UInt8)→(List UInt8)→Option Int):Xbu:=⟨[.v,.v,.v],r68 g⟩
theorem XAU {g:Int→(List UInt8)→(List UInt8)→Option Int} {y0:Int} {y1:List UInt8} {y2:List UInt8} {x:Int} (hx:g y0 y1 y2=some x):(s68 g).run [.int .i64 y0,.string ⟨⟨y1⟩⟩,.string ⟨⟨y2⟩⟩] []=some (XGo x):=r68_c hx
abbrev XuP (Xbw:Int→Int→Int→Option Int) (Xal:(List UInt8)→Int→Int→Option (Int×Bool)):List (Nat×Xbu):=[(105,s105 Xbw),(40,s40 Xal)]
def Xju (froma1:List UInt8) (to:List UInt8) (xat:Int) (check1:Int) (xat1:Int):VM:=
 ⟨⟨126,32,[(0,.func (.yield 5) #[] #[]),(1,.pointer (some ⟨3,0,none⟩)),(3,.int .i64 xat)],[.code Xm3,.inLoop Xm3,.inBlock 0],[],false,none⟩,[⟨68,40,[(3,.pointer (some ⟨0,0,none⟩))],[.inRangeFunc 5,.inBlock 0,.code XB5],[4],false,none⟩],[(0,.cells [.int .i64 check1]),(1,.cells [.string ⟨⟨to⟩⟩]),(2,.cells [.int .i64 xat1]),(3,.cells [.string ⟨⟨froma1⟩⟩]),(4,.marks),(5,.loop ⟨.ready,none,68,40,[(3,.pointer (some ⟨0,0,none⟩)),(5,.pointer (some ⟨1,0,none⟩)),(7,.pointer (some ⟨2,0,none⟩))],[25],XKA,XBj,4⟩)],6⟩
theorem Xzc (Xbw:Int→Int→Int→Option Int) (Xal:(List UInt8)→Int→Int→Option (Int×Bool)) (hS:Xah Tryz.prog (Xav (XuP Xbw Xal))) (froma1:List UInt8) (to:List UInt8) (res:Int):∀ fuel (st:Int×Int×Int) (o:Int),iter (fun st=>XdH Xbw Xal froma1 to st.1 st.2.1 st.2.2) fuel st=some o→(o=res) →
 XaK Tryz.prog 68 0 (Xju froma1 to st.1 st.2.1 st.2.2) (fun v H _=>Res 0 (XGo res) v H):=by
 intro fuel st o h hc
 refine XbY (head:=fun st=>Xju froma1 to st.1 st.2.1 st.2.2) (C:=fun o=>(o=res)) ?_ fuel st o h hc
 clear h hc o st fuel
 intro st o h hc
 obtain ⟨xat,check1,xat1⟩:=st
 replace h:XdH Xbw Xal froma1 to xat check1 xat1=some o:=h
 show XaK Tryz.prog 68 0 (Xju froma1 to xat check1 xat1) (fun v H _=>Res 0 (XGo res) v H)
 unfold XdH at h
 refine Xbi Xan hS true 3000 ?_
 conv=>whnf
 refine br.h2 h (by rfl) ?_ ?_
 ·clear h;intro hb h;conv=>whnf
  all_goals (cases h;cases hc;exact Res.y)
 clear h;intro hb h;conv=>whnf
 replace h:=XaE.elim h;obtain ⟨hb,h⟩:=h
 try (refine req.intro hb ?_;conv=>whnf)
 replace h:=Xai.elim h;obtain ⟨b,hy,h⟩:=h
 refine rdS.intro hy ?_
 conv=>whnf
 let t2:Int:=wI .i64 ((wI .i64 (b.toNat:Int))*2^8)
 let t3:Bool:=decide ((wI .i64 (xat+1))<(froma1.length:Int))
 refine br.h2 h (by rfl) ?_ ?_
 ·clear h;intro hb h;conv=>whnf
  replace h:=Xai.elim h;obtain ⟨xg1,hy,h⟩:=h
  refine XaJ.p (XhP hy) ?_
  conv=>whnf
  replace h:=Xai.elim h;obtain ⟨t5,hy,h⟩:=h
  refine XaJ.p (Xt6 hy) ?_
  conv=>whnf
  cases h;simp only [Sum.elim_inl,Xju] at hc
  exact Xs8 hc [(0,0),(1,1),(2,2),(3,3),(4,4),(5,5)] rfl
 clear h;intro hb h;conv=>whnf
 replace h:=XaE.elim h;obtain ⟨hb,h⟩:=h
 try (refine req.intro hb ?_;conv=>whnf)
 replace h:=Xai.elim h;obtain ⟨b1,hy,h⟩:=h
 refine rdS.intro hy ?_
 conv=>whnf
 replace h:=Xai.elim h;obtain ⟨xg,hy,h⟩:=h
 refine XaJ.p (XhP hy) ?_
 conv=>whnf
 replace h:=Xai.elim h;obtain ⟨t4,hy,h⟩:=h
 refine XaJ.p (Xt6 hy) ?_
 conv=>whnf
 cases h;simp only [Sum.elim_inl,Xju] at hc
 exact Xs8 hc [(0,0),(1,1),(2,2),(3,3),(4,4),(5,5)] rfl
theorem XCD (Xbw:Int→Int→Int→Option Int) (Xal:(List UInt8)→Int→Int→Option (Int×Bool)) (hS:Xah Tryz.prog (Xav (XuP Xbw Xal))) (check:Int) (froma1:List UInt8) (to:List UInt8) (res:Int) (h:XeG Xbw Xal check froma1 to=some res) :
 XaK Tryz.prog 68 0 ⟨⟨68,40,[(0,.int .i64 check),(1,.string ⟨⟨froma1⟩⟩),(2,.string ⟨⟨to⟩⟩)],[.code XBH],[],false,none⟩,[],[],0⟩ (fun v H _=>Res 0 (XGo res) v H):=by
 unfold XeG at h
 refine Xbi Xan hS true 3000 ?_
 conv=>whnf
 let t:Bool:=(froma1.length:Int) !=(to.length:Int)
 refine br.h h (by rfl) ?_ ?_
 ·clear h;intro hb h;conv=>whnf
  all_goals (cases h;exact Res.y)
 clear h;intro hb h;conv=>whnf
 let t1:Bool:=decide (((froma1.length:Int).tmod 2)>0)
 refine br.h h (by rfl) ?_ ?_
 ·clear h;intro hb h;conv=>whnf
  all_goals (cases h;exact Res.y)
 clear h;intro hb h;conv=>whnf
 have hl:=Xzc Xbw Xal hS _ _ res _ _ _ h rfl;simp only [Xju] at hl
 exact Xs8 hl [(0,0),(1,1),(2,2),(3,3),(4,4),(5,5)] rfl
theorem ok68 (Xbw:Int→Int→Int→Option Int) (Xal:(List UInt8)→Int→Int→Option (Int×Bool)) (hS:Xah Tryz.prog (Xav (XuP Xbw Xal))):Xar Tryz.prog 68 (s68 (XeG Xbw Xal)):=by
 refine Xar.Xax Xan (fun ar os r ha hr=>?_) ⟨Tryz.f68,rfl,by decide,rfl⟩
 replace hr:r68 (XeG Xbw Xal) ar (XaH os)=some r:=hr
 unfold r68 at hr
 generalize hc:XaH os=C at hr
 replace hr:=dV.elim hr;obtain ⟨v0,l1,y0,rfl,e0,hr⟩:=hr;obtain rfl:=XbF _ _ _ e0
 replace hr:=dV.elim hr;obtain ⟨v1,l2,y1,rfl,e1,hr⟩:=hr;obtain rfl:=XbM _ _ e1
 replace hr:=dV.elim hr;obtain ⟨v2,l3,y2,rfl,e2,hr⟩:=hr;obtain rfl:=XbM _ _ e2
 replace hr:=Xdw hr;obtain ⟨rfl,rfl,x,h,rfl⟩:=hr
 obtain rfl:=Xat hc
 exact ⟨_,rfl,XCD Xbw Xal hS _ _ _ x h⟩
def Xbx:Int→(List UInt8)→(List UInt8)→Option Int:=XeG Xbw Xal
theorem XHv:Xar Tryz.prog 68 (s68 Xbx):=ok68 Xbw Xal (Xah.Xa0 ⟨XD3,XnH,trivial⟩)
end Go.Vm.Code
namespace Go.Vm.Code
open Go Go.Vm
def isW (n:Int):Bool:=decide (0≤n∧n≤65535)
theorem XJl {l:List Int} (hl:l.length<2^40):XcJ l=some (l.all isW):=by
 unfold XcJ XgI
 have key:=iter_eq (step:=fun (st:Int)=>Xff l st) (fun st=>(l.drop st.toNat).all isW) (fun st=>0≤st∧st≤l.length) (fun st=>(l.length - st).toNat) ?_ FUEL 0 ⟨by omega,by omega⟩ (by rw [Xer];omega)
 ·rw [key];simp
 rintro p ⟨g1,g2⟩
 obtain ⟨i,rfl⟩:=Int.eq_ofNat_of_zero_le g1
 simp only [Int.toNat_natCast]
 unfold Xff
 by_cases hi:i<l.length
 ·have e1:(l.drop i).all isW=(isW l[i]&&(l.drop (i+1)).all isW):=by rw [List.drop_eq_getElem_cons hi];rfl
  by_cases h1:l[i]<0
  ·refine .inl ?_
   simp (disch:=omega) only [XaZ,XaL,Int.toNat_natCast,List.getElem?_eq_getElem,Option.bind_some]
   rw [e1,show isW l[i]=false from decide_eq_false (by omega)];rfl
  ·by_cases h2:l[i]>65535
   ·refine .inl ?_
    simp (disch:=omega) only [XaZ,XaO,XaL,Int.toNat_natCast,List.getElem?_eq_getElem,Option.bind_some]
    rw [e1,show isW l[i]=false from decide_eq_false (by omega)];rfl
   ·refine .inr ⟨((i+1:Nat):Int),?_,⟨by omega,by omega⟩,by omega,?_⟩
    ·simp (disch:=omega) only [XaZ,XaO,XaL,Int.toNat_natCast,List.getElem?_eq_getElem,Option.bind_some,XcC];rfl
    ·simp only [Int.toNat_natCast]
     rw [e1,show isW l[i]=true from decide_eq_true (by omega)];rfl
 ·refine .inl ?_
  rw [XaO (by omega),List.drop_eq_nil_of_le (by omega)];rfl
def XnX (c f t:Int):Int:=if isW c&&(isW f&&isW t) then 65535 - ((norm ((65535 - c)+((65535 - f)+t)).toNat:Nat):Int) else 0
theorem XjZ {n:Int}:isW n=true↔0≤n∧n≤65535:=by unfold isW;rw [decide_eq_true_eq]
theorem Xxd (c f t:Int):isW (XnX c f t)=true:=by
 rw [XjZ];unfold XnX
 have:=norm_le ((65535 - c)+((65535 - f)+t)).toNat
 split<;>omega
theorem XFG {c f t:Int}:Xbw c f t=some (XnX c f t):=by
 unfold Xbw Xgc XnX
 rw [XJl (by simp),Option.bind_some]
 simp only [List.all_cons,List.all_nil,Bool.and_true]
 cases hb:(isW c&&(isW f&&isW t)) with
 | false=>rfl
 | true=>
   simp only [Bool.and_eq_true,XjZ] at hb
   rw [Bool.not_true,cond_false]
   simp only [if_true]
   rw [XcC (n:=65535 - c) (by omega) (by omega),XcC (n:=65535 - c+65535) (by omega) (by omega),XcC (n:=65535 - c+65535 - f) (by omega) (by omega),XcC (n:=65535 - c+65535 - f+t) (by omega) (by omega),fold_eq (by omega) (by omega),Option.bind_some]
   have e:65535 - c+65535 - f+t=65535 - c+(65535 - f+t):=by omega
   have:=norm_le (65535 - c+(65535 - f+t)).toNat
   rw [e,XcC (by omega) (by omega)]
def Xib (c:Int):List Int→List Int→Int
 | x::xs,y::ys=>Xib (XnX c x y) xs ys
 | _,_=>c
def Xkc (c:Int) (a b:List UInt8):Int:=if a.length=b.length∧a.length%2=0 then Xib c (Xdo a) (Xdo b) else c
theorem XvV {c:Int} {a b:List UInt8} (ha:a.length<2^39) (hb:b.length<2^39):Xbx c a b=some (Xkc c a b):=by
 unfold Xbx XeG Xkc
 have e1:((a.length:Int) !=(b.length:Int))=decide (a.length≠b.length):=by
  rw [Bool.eq_iff_iff,bne_iff_ne,decide_eq_true_eq];omega
 have e2:(a.length:Int).tmod 2>0↔¬ a.length%2=0:=by rw [Int.tmod_eq_emod_of_nonneg (by omega)];omega
 simp only [e1]
 by_cases h1:a.length≠b.length
 ·rw [XaZ h1,if_neg (by omega)]
 rw [XaO h1]
 by_cases h2:a.length%2=0
 ·rw [XaO (by rw [e2];omega),if_pos (by omega)]
  have key:=iter_eq (step:=fun (st:Int×Int×Int)=>XdH Xbw Xal a b st.1 st.2.1 st.2.2) (fun st=>Xib st.2.1 (Xdo (a.drop st.1.toNat)) (Xdo (b.drop st.1.toNat))) (fun st=>st.2.2=st.1∧∃ i:Nat,st.1=i∧i%2=0∧i≤a.length) (fun st=>(a.length - st.1).toNat) ?_ FUEL (0,c,0) ⟨rfl,0,rfl,by omega,by omega⟩ (by rw [Xer];simp only;omega)
  ·rw [key];simp
  rintro ⟨p,c1,p1⟩ ⟨g1,i,g2,g3,g4⟩
  simp only at g1 g2 ⊢
  subst g1 g2
  unfold XdH
  by_cases hi:i<a.length
  ·have hi2:i+1<a.length:=by omega
   have hj2:i+1<b.length:=by omega
   have b1:=a[i].toNat_lt
   have b2:=a[i+1].toNat_lt
   have b3:=b[i].toNat_lt
   have b4:=b[i+1].toNat_lt
   refine .inr ⟨(((i+2:Nat):Int),XnX c1 ((a[i].toNat*256+a[i+1].toNat:Nat):Int) ((b[i].toNat*256+b[i+1].toNat:Nat):Int),((i+2:Nat):Int)),?_,⟨rfl,i+2,rfl,by omega,by omega⟩,by simp only;omega,?_⟩
   ·have e5:((i:Int)+1).toNat=i+1:=by omega
    simp (disch:=omega) only [XcC,XaL,XaZ,e5,Int.toNat_natCast,List.getElem?_eq_getElem,Option.bind_some,XnL,XcM,Xr1 hj2,XFG]
    congr 3<;>(first|rfl|(congr 1<;>omega)|omega)
   ·simp only [Int.toNat_natCast]
    rw [Xld hi2,Xld hj2];rfl
  ·refine .inl ?_
   rw [XaO (by omega)]
   simp [List.drop_eq_nil_of_le (by omega:a.length≤i),Xdo,Xib]
 ·rw [XaZ (by rw [e2];omega),if_neg (by omega)]
theorem XyR {c x y:Int} (hc:isW c=true) (hx:isW x=true) (hy:isW y=true):(XnX c x y+y - c - x)%65535=0:=by
 unfold XnX
 rw [hc,hx,hy]
 simp only [Bool.and_self,if_true]
 rw [XjZ] at hc hx hy
 have:=Xit (65535 - c+(65535 - x+y)).toNat
 omega
theorem XnA:∀ (xs ys:List Int) (c:Int),xs.length=ys.length→(∀ e∈xs,0≤e∧e≤65535)→(∀ e∈ys,0≤e∧e≤65535)→isW c=true→isW (Xib c xs ys)=true∧(Xib c xs ys+ys.sum - c - xs.sum)%65535=0
 | [],[],c,_,_,_,hc=>⟨hc,by simp [Xib]⟩
 | [],_::_,_,h,_,_,_=>by simp at h
 | _::_,[],_,h,_,_,_=>by simp at h
 | x::xs,y::ys,c,h,hx,hy,hc=>by
   have h1:=XyR hc (XjZ.2 (hx x (by simp))) (XjZ.2 (hy y (by simp)))
   obtain ⟨h2,h3⟩:=XnA xs ys (XnX c x y) (by simpa using h) (fun e he=>hx e (by simp [he])) (fun e he=>hy e (by simp [he])) (Xxd c x y)
   refine ⟨h2,?_⟩
   simp only [Xib,List.sum_cons]
   omega
theorem Xsn {c:Nat} {a b:List UInt8} (hl:a.length=b.length) (he:a.length%2=0) (hc:c≤65535):∃ d:Nat,Xkc (c:Int) a b=(d:Int)∧d≤65535∧(d+Xdp b)%65535=(c+Xdp a)%65535:=by
 unfold Xkc
 rw [if_pos ⟨hl,he⟩]
 obtain ⟨t1,t2⟩:=XnA (Xdo a) (Xdo b) (c:Int) (by rw [Xjd,Xjd,hl]) (Xjm _) (Xjm _) (XjZ.2 (by omega))
 rw [Xjs,Xjs] at t2
 generalize Xib (c:Int) (Xdo a) (Xdo b)=d at *
 rw [XjZ] at t1
 obtain ⟨e,rfl⟩:=Int.eq_ofNat_of_zero_le t1.1
 exact ⟨e,rfl,by omega,by omega⟩
end Go.Vm.Code
namespace Go.Vm.Code
open Go Go.Vm Go.Proofs
set_option maxRecDepth 100000
set_option maxHeartbeats 4000000
set_option linter.unusedVariables false
def Xfd (s:List UInt8) (froma1:Int) (to:Int):Option (List UInt8):=
 cond (decide (to>(s.length:Int)))
  (
  XaE (decide ((0:Int)≤froma1∧froma1≤(s.length:Int))) <|
  let t:=(s.drop froma1.toNat).take (s.length - froma1.toNat)
  XaE (decide (t.length+1<2^63)) <|
  some (t++[0]))
  (
  XaE (decide ((0:Int)≤to∧to≤(s.length:Int)∧(0:Int)≤froma1∧froma1≤(to.toNat:Int))) <|
  let t1:=(s.drop froma1.toNat).take (to.toNat - froma1.toNat)
  some (t1))
def rx69 (x:List UInt8):Xcw:=⟨.string ⟨⟨x⟩⟩,[],[]⟩
def r69 (g:(List UInt8)→Int→Int→Option (List UInt8)):Dec:=dV asS fun (y0:List UInt8)=>dV (asI .i64) fun (y1:Int)=>dV (asI .i64) fun (y2:Int)=>Xdd (ofG (g y0 y1 y2) rx69)
theorem r69_c {g:(List UInt8)→Int→Int→Option (List UInt8)} {y0:List UInt8} {y1:Int} {y2:Int} {x:List UInt8} (hx:g y0 y1 y2=some x):r69 g [.string ⟨⟨y0⟩⟩,.int .i64 y1,.int .i64 y2] []=some (rx69 x):=(XaX (XcI)).trans ((XaX (Xcv _)).trans ((XaX (Xcv _)).trans (Xa3 hx)))
def s69 (g:(List UInt8)→Int→Int→Option (List UInt8)):Xbu:=⟨[.v,.v,.v],r69 g⟩
theorem Xq9 {g:(List UInt8)→Int→Int→Option (List UInt8)} {y0:List UInt8} {y1:Int} {y2:Int} {x:List UInt8} (hx:g y0 y1 y2=some x):(s69 g).run [.string ⟨⟨y0⟩⟩,.int .i64 y1,.int .i64 y2] []=some (rx69 x):=r69_c hx
abbrev XBd:List (Nat×Xbu):=[]
theorem XCg (hS:Xah Tryz.prog (Xav (XBd))) (s:List UInt8) (froma1:Int) (to:Int) (res:List UInt8) (h:Xfd s froma1 to=some res) :
 XaK Tryz.prog 69 0 ⟨⟨69,19,[(0,.string ⟨⟨s⟩⟩),(1,.int .i64 froma1),(2,.int .i64 to)],[.code XKX],[],false,none⟩,[],[],0⟩ (fun v H _=>Res 0 (rx69 res) v H):=by
 unfold Xfd at h
 refine Xbi Xan hS true 3000 ?_
 conv=>whnf
 refine br.h2 h (by rfl) ?_ ?_
 ·clear h;intro hb h;conv=>whnf
  replace h:=XaE.elim h;obtain ⟨hb,h⟩:=h
  try (refine req.intro hb ?_;conv=>whnf)
  let t1:List UInt8:=(s.drop froma1.toNat).take (to.toNat - froma1.toNat)
  all_goals (cases h;exact Res.y)
 clear h;intro hb h;conv=>whnf
 replace h:=XaE.elim h;obtain ⟨hb,h⟩:=h
 try (refine req.intro hb ?_;conv=>whnf)
 let t:List UInt8:=(s.drop froma1.toNat).take (s.length - froma1.toNat)
 replace h:=XaE.elim h;obtain ⟨hb,h⟩:=h
 try (refine req.intro hb ?_;conv=>whnf)
 all_goals (cases h;exact Res.y)
theorem ok69 (hS:Xah Tryz.prog (Xav (XBd))):Xar Tryz.prog 69 (s69 (Xfd)):=by
 refine Xar.Xax Xan (fun ar os r ha hr=>?_) ⟨Tryz.f69,rfl,by decide,rfl⟩
 replace hr:r69 (Xfd) ar (XaH os)=some r:=hr
 unfold r69 at hr
 generalize hc:XaH os=C at hr
 replace hr:=dV.elim hr;obtain ⟨v0,l1,y0,rfl,e0,hr⟩:=hr;obtain rfl:=XbM _ _ e0
 replace hr:=dV.elim hr;obtain ⟨v1,l2,y1,rfl,e1,hr⟩:=hr;obtain rfl:=XbF _ _ _ e1
 replace hr:=dV.elim hr;obtain ⟨v2,l3,y2,rfl,e2,hr⟩:=hr;obtain rfl:=XbF _ _ _ e2
 replace hr:=Xdw hr;obtain ⟨rfl,rfl,x,h,rfl⟩:=hr
 obtain rfl:=Xat hc
 exact ⟨_,rfl,XCg hS _ _ _ x h⟩
def Xbp:(List UInt8)→Int→Int→Option (List UInt8):=Xfd
theorem XJB:Xar Tryz.prog 69 (s69 Xbp):=ok69 (Xah.Xa0 trivial)
def Xe9 (Xba:(List UInt8)→Int→Int→Int→Option (List UInt8)) (Xbx:Int→(List UInt8)→(List UInt8)→Option Int) (Xal:(List UInt8)→Int→Int→Option (Int×Bool)) (Xbp:(List UInt8)→Int→Int→Option (List UInt8)) (body:List UInt8) (ata1:Int) (witha2:List UInt8) (sum:Int):Option ((List UInt8)×Bool):=
 cond (decide (ata1<0))
  (
  some (([],false)))
  (
  let t:=wI .i64 ((body.length:Int) - (witha2.length:Int))
  cond (decide (t<ata1))
   (
   some (([],false)))
   (
   cond (decide (sum<0))
    (
    some (([],false)))
    (
    cond ((sum.tmod 2)==1)
     (
     some (([],false)))
     (
     let t1:=decide ((wI .i64 ((body.length:Int) - 2))<sum)
     cond (t1)
      (
      some (([],false)))
      (
      cond (witha2==[])
       (
       some ((body,true)))
       (
       cond (decide (ata1<(wI .i64 (sum+2))))
        (
        let t2:=decide (sum<(wI .i64 (ata1+(witha2.length:Int))))
        cond (t2)
         (
         some (([],false)))
         (
         XaE (decide ((0:Int)≤ata1∧ata1≤(body.length:Int))) <|
         XaE (decide ((body.take ata1.toNat).length+witha2.length<2^63)) <|
         XaE (decide ((0:Int)≤(wI .i64 (ata1+(witha2.length:Int)))∧(wI .i64 (ata1+(witha2.length:Int)))≤(body.length:Int))) <|
         let t3:=(body.drop (wI .i64 (ata1+(witha2.length:Int))).toNat).take (body.length - (wI .i64 (ata1+(witha2.length:Int))).toNat)
         XaE (decide (((body.take ata1.toNat)++witha2).length+t3.length<2^63)) <|
         let t4:=wI .i64 ((wI .i64 (ata1+(witha2.length:Int)))+1)
         (Xal body sum 2).bind fun xg=>
         (Xbp body (XiD .i64 ata1 1) (XiD .i64 t4 1)).bind fun w=>
         (Xbp (((body.take ata1.toNat)++witha2)++t3) (XiD .i64 ata1 1) (XiD .i64 t4 1)).bind fun w1=>
         (Xbx (wI .i64 xg.1) w w1).bind fun t5=>
         (Xba (((body.take ata1.toNat)++witha2)++t3) sum 2 (wI .u64 t5)).bind fun s=>
         some ((s,true))))
        (
        XaE (decide ((0:Int)≤ata1∧ata1≤(body.length:Int))) <|
        XaE (decide ((body.take ata1.toNat).length+witha2.length<2^63)) <|
        XaE (decide ((0:Int)≤(wI .i64 (ata1+(witha2.length:Int)))∧(wI .i64 (ata1+(witha2.length:Int)))≤(body.length:Int))) <|
        let t6:=(body.drop (wI .i64 (ata1+(witha2.length:Int))).toNat).take (body.length - (wI .i64 (ata1+(witha2.length:Int))).toNat)
        XaE (decide (((body.take ata1.toNat)++witha2).length+t6.length<2^63)) <|
        let t7:=wI .i64 ((wI .i64 (ata1+(witha2.length:Int)))+1)
        (Xal body sum 2).bind fun xg1=>
        (Xbp body (XiD .i64 ata1 1) (XiD .i64 t7 1)).bind fun w2=>
        (Xbp (((body.take ata1.toNat)++witha2)++t6) (XiD .i64 ata1 1) (XiD .i64 t7 1)).bind fun w3=>
        (Xbx (wI .i64 xg1.1) w2 w3).bind fun t8=>
        (Xba (((body.take ata1.toNat)++witha2)++t6) sum 2 (wI .u64 t8)).bind fun s1=>
        some ((s1,true)))))))))
def rx41 (x:(List UInt8)×Bool):Xcw:=⟨.tuple ⟨[.string ⟨⟨x.1⟩⟩,.bool x.2]⟩,[],[]⟩
def r41 (g:(List UInt8)→Int→(List UInt8)→Int→Option ((List UInt8)×Bool)):Dec:=dV asS fun (y0:List UInt8)=>dV (asI .i64) fun (y1:Int)=>dV asS fun (y2:List UInt8)=>dV (asI .i64) fun (y3:Int)=>Xdd (ofG (g y0 y1 y2 y3) rx41)
theorem r41_c {g:(List UInt8)→Int→(List UInt8)→Int→Option ((List UInt8)×Bool)} {y0:List UInt8} {y1:Int} {y2:List UInt8} {y3:Int} {x:(List UInt8)×Bool} (hx:g y0 y1 y2 y3=some x):r41 g [.string ⟨⟨y0⟩⟩,.int .i64 y1,.string ⟨⟨y2⟩⟩,.int .i64 y3] []=some (rx41 x):=(XaX (XcI)).trans ((XaX (Xcv _)).trans ((XaX (XcI)).trans ((XaX (Xcv _)).trans (Xa3 hx))))
def s41 (g:(List UInt8)→Int→(List UInt8)→Int→Option ((List UInt8)×Bool)):Xbu:=⟨[.v,.v,.v,.v],r41 g⟩
theorem XvH {g:(List UInt8)→Int→(List UInt8)→Int→Option ((List UInt8)×Bool)} {y0:List UInt8} {y1:Int} {y2:List UInt8} {y3:Int} {x:(List UInt8)×Bool} (hx:g y0 y1 y2 y3=some x):(s41 g).run [.string ⟨⟨y0⟩⟩,.int .i64 y1,.string ⟨⟨y2⟩⟩,.int .i64 y3] []=some (rx41 x):=r41_c hx
abbrev XBJ (Xba:(List UInt8)→Int→Int→Int→Option (List UInt8)) (Xbx:Int→(List UInt8)→(List UInt8)→Option Int) (Xal:(List UInt8)→Int→Int→Option (Int×Bool)) (Xbp:(List UInt8)→Int→Int→Option (List UInt8)):List (Nat×Xbu):=[(43,s43 Xba),(68,s68 Xbx),(40,s40 Xal),(69,s69 Xbp)]
theorem XGj (Xba:(List UInt8)→Int→Int→Int→Option (List UInt8)) (Xbx:Int→(List UInt8)→(List UInt8)→Option Int) (Xal:(List UInt8)→Int→Int→Option (Int×Bool)) (Xbp:(List UInt8)→Int→Int→Option (List UInt8)) (hS:Xah Tryz.prog (Xav (XBJ Xba Xbx Xal Xbp))) (body:List UInt8) (ata1:Int) (witha2:List UInt8) (sum:Int) (res:(List UInt8)×Bool) (h:Xe9 Xba Xbx Xal Xbp body ata1 witha2 sum=some res) :
 XaK Tryz.prog 41 0 ⟨⟨41,99,[(0,.string ⟨⟨body⟩⟩),(1,.int .i64 ata1),(2,.string ⟨⟨witha2⟩⟩),(3,.int .i64 sum)],[.code XBG],[],false,none⟩,[],[],0⟩ (fun v H _=>Res 0 (rx41 res) v H):=by
 unfold Xe9 at h
 refine Xbi Xan hS true 3000 ?_
 conv=>whnf
 refine br.h h (by rfl) ?_ ?_
 ·clear h;intro hb h;conv=>whnf
  all_goals (cases h;exact Res.y)
 clear h;intro hb h;conv=>whnf
 let t:Int:=wI .i64 ((body.length:Int) - (witha2.length:Int))
 refine br.h h (by rfl) ?_ ?_
 ·clear h;intro hb h;conv=>whnf
  all_goals (cases h;exact Res.y)
 clear h;intro hb h;conv=>whnf
 refine br.h h (by rfl) ?_ ?_
 ·clear h;intro hb h;conv=>whnf
  all_goals (cases h;exact Res.y)
 clear h;intro hb h;conv=>whnf
 refine br.h h (by rfl) ?_ ?_
 ·clear h;intro hb h;conv=>whnf
  all_goals (cases h;exact Res.y)
 clear h;intro hb h;conv=>whnf
 let t1:Bool:=decide ((wI .i64 ((body.length:Int) - 2))<sum)
 refine br.h h (by rfl) ?_ ?_
 ·clear h;intro hb h;conv=>whnf
  all_goals (cases h;exact Res.y)
 clear h;intro hb h;conv=>whnf
 refine br.h h (by rfl) ?_ ?_
 ·clear h;intro hb h;conv=>whnf
  all_goals (cases h;exact Res.y)
 clear h;intro hb h;conv=>whnf
 refine br.h2 h (by rfl) ?_ ?_
 ·clear h;intro hb h;conv=>whnf
  replace h:=XaE.elim h;obtain ⟨hb,h⟩:=h
  try (refine req.intro hb ?_;conv=>whnf)
  replace h:=XaE.elim h;obtain ⟨hb,h⟩:=h
  try (refine req.intro hb ?_;conv=>whnf)
  replace h:=XaE.elim h;obtain ⟨hb,h⟩:=h
  try (refine req.intro hb ?_;conv=>whnf)
  let t6:List UInt8:=(body.drop (wI .i64 (ata1+(witha2.length:Int))).toNat).take (body.length - (wI .i64 (ata1+(witha2.length:Int))).toNat)
  replace h:=XaE.elim h;obtain ⟨hb,h⟩:=h
  try (refine req.intro hb ?_;conv=>whnf)
  let t7:Int:=wI .i64 ((wI .i64 (ata1+(witha2.length:Int)))+1)
  replace h:=Xai.elim h;obtain ⟨xg1,hy,h⟩:=h
  refine XaJ.p (XhP hy) ?_
  conv=>whnf
  replace h:=Xai.elim h;obtain ⟨w2,hy,h⟩:=h
  refine XaJ.p (Xq9 hy) ?_
  conv=>whnf
  replace h:=Xai.elim h;obtain ⟨w3,hy,h⟩:=h
  refine XaJ.p (Xq9 hy) ?_
  conv=>whnf
  replace h:=Xai.elim h;obtain ⟨t8,hy,h⟩:=h
  refine XaJ.p (XAU hy) ?_
  conv=>whnf
  replace h:=Xai.elim h;obtain ⟨s1,hy,h⟩:=h
  refine XaJ.p (XoV hy) ?_
  conv=>whnf
  all_goals (cases h;exact Res.y)
 clear h;intro hb h;conv=>whnf
 let t2:Bool:=decide (sum<(wI .i64 (ata1+(witha2.length:Int))))
 refine br.h h (by rfl) ?_ ?_
 ·clear h;intro hb h;conv=>whnf
  all_goals (cases h;exact Res.y)
 clear h;intro hb h;conv=>whnf
 replace h:=XaE.elim h;obtain ⟨hb,h⟩:=h
 try (refine req.intro hb ?_;conv=>whnf)
 replace h:=XaE.elim h;obtain ⟨hb,h⟩:=h
 try (refine req.intro hb ?_;conv=>whnf)
 replace h:=XaE.elim h;obtain ⟨hb,h⟩:=h
 try (refine req.intro hb ?_;conv=>whnf)
 let t3:List UInt8:=(body.drop (wI .i64 (ata1+(witha2.length:Int))).toNat).take (body.length - (wI .i64 (ata1+(witha2.length:Int))).toNat)
 replace h:=XaE.elim h;obtain ⟨hb,h⟩:=h
 try (refine req.intro hb ?_;conv=>whnf)
 let t4:Int:=wI .i64 ((wI .i64 (ata1+(witha2.length:Int)))+1)
 replace h:=Xai.elim h;obtain ⟨xg,hy,h⟩:=h
 refine XaJ.p (XhP hy) ?_
 conv=>whnf
 replace h:=Xai.elim h;obtain ⟨w,hy,h⟩:=h
 refine XaJ.p (Xq9 hy) ?_
 conv=>whnf
 replace h:=Xai.elim h;obtain ⟨w1,hy,h⟩:=h
 refine XaJ.p (Xq9 hy) ?_
 conv=>whnf
 replace h:=Xai.elim h;obtain ⟨t5,hy,h⟩:=h
 refine XaJ.p (XAU hy) ?_
 conv=>whnf
 replace h:=Xai.elim h;obtain ⟨s,hy,h⟩:=h
 refine XaJ.p (XoV hy) ?_
 conv=>whnf
 all_goals (cases h;exact Res.y)
theorem ok41 (Xba:(List UInt8)→Int→Int→Int→Option (List UInt8)) (Xbx:Int→(List UInt8)→(List UInt8)→Option Int) (Xal:(List UInt8)→Int→Int→Option (Int×Bool)) (Xbp:(List UInt8)→Int→Int→Option (List UInt8)) (hS:Xah Tryz.prog (Xav (XBJ Xba Xbx Xal Xbp))):Xar Tryz.prog 41 (s41 (Xe9 Xba Xbx Xal Xbp)):=by
 refine Xar.Xax Xan (fun ar os r ha hr=>?_) ⟨Tryz.f41,rfl,by decide,rfl⟩
 replace hr:r41 (Xe9 Xba Xbx Xal Xbp) ar (XaH os)=some r:=hr
 unfold r41 at hr
 generalize hc:XaH os=C at hr
 replace hr:=dV.elim hr;obtain ⟨v0,l1,y0,rfl,e0,hr⟩:=hr;obtain rfl:=XbM _ _ e0
 replace hr:=dV.elim hr;obtain ⟨v1,l2,y1,rfl,e1,hr⟩:=hr;obtain rfl:=XbF _ _ _ e1
 replace hr:=dV.elim hr;obtain ⟨v2,l3,y2,rfl,e2,hr⟩:=hr;obtain rfl:=XbM _ _ e2
 replace hr:=dV.elim hr;obtain ⟨v3,l4,y3,rfl,e3,hr⟩:=hr;obtain rfl:=XbF _ _ _ e3
 replace hr:=Xdw hr;obtain ⟨rfl,rfl,x,h,rfl⟩:=hr
 obtain rfl:=Xat hc
 exact ⟨_,rfl,XGj Xba Xbx Xal Xbp hS _ _ _ _ x h⟩
def XaF:(List UInt8)→Int→(List UInt8)→Int→Option ((List UInt8)×Bool):=Xe9 Xba Xbx Xal Xbp
theorem Xwf:Xar Tryz.prog 41 (s41 XaF):=ok41 Xba Xbx Xal Xbp (Xah.Xa0 ⟨XzQ,XHv,XnH,XJB,trivial⟩)
end Go.Vm.Code
namespace Go.Vm.Code
open Go Go.Vm
theorem andn1:∀ x:Fin 1024,XiD .i64 (x.val:Int) 1=((x.val/2*2:Nat):Int):=by decide +kernel
theorem XrC {n:Nat} (h:n<1024):XiD .i64 (n:Int) 1=((n/2*2:Nat):Int):=andn1 ⟨n,h⟩
def XsH (s:List UInt8) (f t:Nat):List UInt8:=if s.length<t then s.drop f++[0] else (s.drop f).take (t - f)
theorem XpG {s:List UInt8} {f t:Nat} (hs:s.length<2^30) (hf:f≤s.length) (ht:f≤t):Xbp s (f:Int) (t:Int)=some (XsH s f t):=by
 unfold Xbp Xfd XsH
 by_cases h:s.length<t
 ·rw [if_pos h,XaZ (by omega),XaL (by omega),Int.toNat_natCast,List.take_of_length_le (by rw [List.length_drop];omega)]
  simp only []
  rw [XaL (by rw [List.length_drop];omega)]
 ·rw [if_neg h,XaO (by omega),XaL (by omega),Int.toNat_natCast,Int.toNat_natCast]
def Xm5 (s:List UInt8) (i:Nat) (w:List UInt8):List UInt8:=s.take i++w++s.drop (i+w.length)
theorem Xn9 {s w:List UInt8} {i:Nat} (h:i+w.length≤s.length):(Xm5 s i w).length=s.length:=by simp [Xm5];omega
theorem Xkl {s w:List UInt8} {i k:Nat} (h:i+w.length≤s.length):(Xm5 s i w)[k]?=if k<i then s[k]? else if k<i+w.length then w[k - i]? else s[k]?:=by
 unfold Xm5
 rw [List.append_assoc,List.getElem?_append]
 have e1:(s.take i).length=i:=by simp;omega
 rw [e1]
 by_cases h1:k<i
 ·rw [if_pos h1,if_pos h1,List.getElem?_take_of_lt h1]
 ·rw [if_neg h1,if_neg h1,List.getElem?_append]
  by_cases h2:k<i+w.length
  ·rw [if_pos (by omega),if_pos h2]
  ·rw [if_neg (by omega),if_neg h2,List.getElem?_drop]
   congr 1;omega
theorem Xvw {s w:List UInt8} {i f:Nat} (h:i+w.length≤s.length) (hf:f≤i):(Xm5 s i w).take f=s.take f:=by
 apply List.ext_getElem?
 intro k
 rw [List.getElem?_take,List.getElem?_take]
 split
 ·rw [Xkl h,if_pos (by omega)]
 ·rfl
theorem XvX {s w:List UInt8} {i t:Nat} (h:i+w.length≤s.length) (ht:i+w.length≤t):(Xm5 s i w).drop t=s.drop t:=by
 apply List.ext_getElem?
 intro k
 rw [List.getElem?_drop,List.getElem?_drop,Xkl h,if_neg (by omega),if_neg (by omega)]
theorem XrR:∀ s:List UInt8,s.length%2=1→Xdp (s++[0])=Xdp s
 | [],h=>by simp at h
 | [x],_=>by simp [Xdp]
 | x::y::a,h=>by
   have:=XrR a (by simp at h;omega)
   simp only [List.cons_append,Xdp,this]
theorem XkT {s:List UInt8} {f t:Nat} (hf:f%2=0) (ht:t%2=0) (h1:f≤t) (h2:t≤s.length+1) (h3:f≤s.length):Xdp s=Xdp (s.take f)+(Xdp (XsH s f t)+Xdp (s.drop t))∧(XsH s f t).length=t - f:=by
 unfold XsH
 by_cases h:s.length<t
 ·rw [if_pos h]
  have hodd:(s.drop f).length%2=1:=by rw [List.length_drop];omega
  rw [XrR _ hodd,List.drop_eq_nil_of_le (by omega:s.length≤t),show Xdp []=0 from rfl]
  refine ⟨?_,by rw [List.length_append,List.length_drop,List.length_singleton];omega⟩
  rw [Nat.add_zero,←Xex _ _ (by rw [List.length_take];omega),List.take_append_drop]
 ·rw [if_neg h]
  refine ⟨?_,by rw [List.length_take,List.length_drop];omega⟩
  have:=Xr3 (s:=s) (p:=f) (k:=t - f) (by omega) hf (by omega)
  rw [show f+(t - f)=t by omega] at this
  exact this
def cAt (b:List UInt8) (j:Nat):Nat:=Xdf ((b.drop j).take 2)
theorem XBW (b:List UInt8) (j:Nat):cAt b j<65536:=XcU (k:=2) 65536 (by decide)
def Xg8 (b:List UInt8) (i:Nat) (w:List UInt8) (j:Nat):List UInt8×Bool:=
 if b.length<i+w.length then ([],false) else if w=[] then (b,true) else if i<j+2∧j<i+w.length then ([],false) else
  (sset (Xm5 b i w) j 2 (Xkc (cAt b j:Int) (XsH b (i/2*2) ((i+w.length+1)/2*2)) (XsH (Xm5 b i w) (i/2*2) ((i+w.length+1)/2*2))).toNat,true)
theorem Xnv {b w:List UInt8} {i j:Nat} (hw:w≠[]) (h1:i+w.length≤b.length) (hj:j+2≤b.length) (hj2:j%2=0) (ho:j+2≤i∨i+w.length≤j):∃ d:Nat,Xkc (cAt b j:Int) (XsH b (i/2*2) ((i+w.length+1)/2*2)) (XsH (Xm5 b i w) (i/2*2) ((i+w.length+1)/2*2))=(d:Int)∧d≤65535∧(Xdp (sset (Xm5 b i w) j 2 d))%65535=Xdp b%65535:=by
 have hl:=Xn9 h1
 have hwl:0<w.length:=List.length_pos_iff.2 hw
 obtain ⟨a1,a2⟩:=XkT (s:=b) (f:=i/2*2) (t:=(i+w.length+1)/2*2) (by omega) (by omega) (by omega) (by omega) (by omega)
 obtain ⟨b1,b2⟩:=XkT (s:=Xm5 b i w) (f:=i/2*2) (t:=(i+w.length+1)/2*2) (by omega) (by omega) (by omega) (by omega) (by omega)
 rw [Xvw h1 (by omega),XvX h1 (by omega)] at b1
 have hc:=XBW b j
 obtain ⟨d,e1,e2,e3⟩:=Xsn (c:=cAt b j) (a:=XsH b (i/2*2) ((i+w.length+1)/2*2)) (b:=XsH (Xm5 b i w) (i/2*2) ((i+w.length+1)/2*2)) (by rw [a2,b2]) (by rw [a2];omega) (by omega)
 refine ⟨d,e1,e2,?_⟩
 have s1:=XpN (s:=Xm5 b i w) (p:=j) (k:=2) (n:=d) (by omega) hj2 (by omega)
 have s2:((Xm5 b i w).drop j).take 2=(b.drop j).take 2:=by
  apply List.ext_getElem?
  intro x
  rw [Xmh,Xmh]
  split
  ·rw [Xkl h1]
   by_cases g:j+x<i
   ·rw [if_pos g]
   ·rw [if_neg g,if_neg (by omega)]
  ·rfl
 have s3:Xdp ((b.drop j).take 2)=cAt b j:=by
  have e:(b.drop j).take 2=be (cAt b j) 2:=(Xtr (by rw [List.length_take,List.length_drop];omega)).symm
  rw [e,Xl6 hc]
 rw [s2,s3,Xl6 (by omega)] at s1
 omega
def XBQ (body witha2:List UInt8) (ata1 sum:Int):Option (List UInt8×Bool):=
 XaE (decide ((0:Int)≤ata1∧ata1≤(body.length:Int))) <|
 XaE (decide ((body.take ata1.toNat).length+witha2.length<2^63)) <|
 XaE (decide ((0:Int)≤(wI .i64 (ata1+(witha2.length:Int)))∧(wI .i64 (ata1+(witha2.length:Int)))≤(body.length:Int))) <|
 let t3:=(body.drop (wI .i64 (ata1+(witha2.length:Int))).toNat).take (body.length - (wI .i64 (ata1+(witha2.length:Int))).toNat)
 XaE (decide (((body.take ata1.toNat)++witha2).length+t3.length<2^63)) <|
 let t4:=wI .i64 ((wI .i64 (ata1+(witha2.length:Int)))+1)
 (Xal body sum 2).bind fun xg=>
 (Xbp body (XiD .i64 ata1 1) (XiD .i64 t4 1)).bind fun w=>
 (Xbp (((body.take ata1.toNat)++witha2)++t3) (XiD .i64 ata1 1) (XiD .i64 t4 1)).bind fun w1=>
 (Xbx (wI .i64 xg.1) w w1).bind fun t5=>
 (Xba (((body.take ata1.toNat)++witha2)++t3) sum 2 (wI .u64 t5)).bind fun s=>
 some ((s,true))
theorem Xo3 {b w:List UInt8} {i j:Nat} (hb:b.length<1000) (hw:w≠[]) (h1:i+w.length≤b.length) (hj:j+2≤b.length) (hj2:j%2=0) (ho:j+2≤i∨i+w.length≤j):XBQ b w (i:Int) (j:Int)=some (sset (Xm5 b i w) j 2 (Xkc (cAt b j:Int) (XsH b (i/2*2) ((i+w.length+1)/2*2)) (XsH (Xm5 b i w) (i/2*2) ((i+w.length+1)/2*2))).toNat,true):=by
 obtain ⟨d,e1,e2,e3⟩:=Xnv hw h1 hj hj2 ho
 have hwl:0<w.length:=List.length_pos_iff.2 hw
 have hl:=Xn9 h1
 unfold XBQ
 simp only []
 rw [XcC (n:=(i:Int)+(w.length:Int)) (by omega) (by omega),show (i:Int)+(w.length:Int)=((i+w.length:Nat):Int) by omega,XcC (n:=((i+w.length:Nat):Int)+1) (by omega) (by omega),show ((i+w.length:Nat):Int)+1=((i+w.length+1:Nat):Int) by omega,XrC (by omega),XrC (by omega)]
 simp only [Int.toNat_natCast,List.take_of_length_le (show (b.drop (i+w.length)).length≤b.length - (i+w.length) by rw [List.length_drop];omega)]
 show XaE _ (XaE _ (XaE _ (XaE _ ((Xal b (j:Int) 2).bind fun xg=>(Xbp b ((i/2*2:Nat):Int) (((i+w.length+1)/2*2:Nat):Int)).bind fun w'=>(Xbp (Xm5 b i w) ((i/2*2:Nat):Int) (((i+w.length+1)/2*2:Nat):Int)).bind fun w1=>(Xbx (wI .i64 xg.1) w' w1).bind fun t5=>(Xba (Xm5 b i w) (j:Int) 2 (wI .u64 t5)).bind fun s=>some ((s,true))))))=_
 have hg:XsL b (j:Int) 2=((cAt b j:Int),true):=by
  unfold XsL cAt
  rw [if_pos (by omega),Int.toNat_natCast];rfl
 have hc:=XBW b j
 obtain ⟨_,a2⟩:=XkT (s:=b) (f:=i/2*2) (t:=(i+w.length+1)/2*2) (by omega) (by omega) (by omega) (by omega) (by omega)
 obtain ⟨_,b2⟩:=XkT (s:=Xm5 b i w) (f:=i/2*2) (t:=(i+w.length+1)/2*2) (by omega) (by omega) (by omega) (by omega) (by omega)
 rw [XaL (by omega),XaL (by rw [List.length_take];omega),XaL (by omega),XaL (by rw [List.length_append,List.length_take,List.length_drop];omega),XcM (by omega),Option.bind_some,hg,XpG (by omega) (by omega) (by omega),Option.bind_some,XpG (by omega) (by omega) (by omega),Option.bind_some]
 simp only []
 rw [XcC (by omega) (by omega),XvV (by omega) (by omega),Option.bind_some,e1,XpZ (by omega) (by omega),show (2:Int)=((2:Nat):Int) from rfl,Xrn (by omega) (by omega) (by omega) (by omega) (by omega),Option.bind_some]
theorem XrD {b w:List UInt8} {i j:Nat} (hb:b.length<1000) (hw9:w.length<1000) (hi:i<1000) (hj:j+2≤b.length) (hj2:j%2=0):XaF b (i:Int) w (j:Int)=some (Xg8 b i w j):=by
 unfold XaF Xe9 Xg8
 rw [XaO (by omega),XcC (n:=(b.length:Int) - (w.length:Int)) (by omega) (by omega)]
 by_cases g1:b.length<i+w.length
 ·rw [if_pos g1,XaZ (by omega)]
 rw [if_neg g1,XaO (by omega),XaO (by omega),show ((j:Int).tmod 2==1)=false by rw [Int.tmod_eq_emod_of_nonneg (by omega),beq_eq_false_iff_ne];omega,cond_false,XcC (n:=(b.length:Int) - 2) (by omega) (by omega)]
 simp only []
 rw [XaO (by omega)]
 by_cases g2:w=[]
 ·rw [if_pos g2,show (w==[])=true by simpa using g2,cond_true]
 rw [if_neg g2,show (w==[])=false by simpa using g2,cond_false,XcC (n:=(j:Int)+2) (by omega) (by omega)]
 by_cases g3:i<j+2
 ·rw [XaZ (by omega)]
  by_cases g4:j<i+w.length
  ·rw [if_pos ⟨g3,g4⟩,XcC (n:=(i:Int)+(w.length:Int)) (by omega) (by omega),XaZ (by omega)]
  ·rw [if_neg (by omega),XaO (by rw [XcC (by omega) (by omega)];omega)]
   exact Xo3 hb g2 (by omega) hj hj2 (by omega)
 ·rw [if_neg (by omega),XaO (by omega)]
  exact Xo3 hb g2 (by omega) hj hj2 (by omega)
end Go.Vm.Code
namespace Go.Vm.Code
open Go Go.Vm Go.Proofs
set_option maxRecDepth 100000
set_option maxHeartbeats 4000000
set_option linter.unusedVariables false
def Xf9 (stamp:Int):Option Int:=
 some (wI .u16 stamp)
def rx37 (x:Int):Xcw:=⟨.int .u16 x,[],[]⟩
def r37 (g:Int→Option Int):Dec:=dV (asI .u32) fun (y0:Int)=>Xdd (ofG (g y0) rx37)
theorem r37_c {g:Int→Option Int} {y0:Int} {x:Int} (hx:g y0=some x):r37 g [.int .u32 y0] []=some (rx37 x):=(XaX (Xcv _)).trans (Xa3 hx)
def s37 (g:Int→Option Int):Xbu:=⟨[.v],r37 g⟩
theorem Xtl {g:Int→Option Int} {y0:Int} {x:Int} (hx:g y0=some x):(s37 g).run [.int .u32 y0] []=some (rx37 x):=r37_c hx
abbrev XzU:List (Nat×Xbu):=[]
theorem XCG (hS:Xah Tryz.prog (Xav (XzU))) (stamp:Int) (res:Int) (h:Xf9 stamp=some res) :
 XaK Tryz.prog 37 0 ⟨⟨37,5,[(0,.int .u32 stamp)],[.code XLo],[],false,none⟩,[],[],0⟩ (fun v H _=>Res 0 (rx37 res) v H):=by
 unfold Xf9 at h
 refine Xbi Xan hS true 3000 ?_
 conv=>whnf
 all_goals (cases h;exact Res.y)
theorem ok37 (hS:Xah Tryz.prog (Xav (XzU))):Xar Tryz.prog 37 (s37 (Xf9)):=by
 refine Xar.Xax Xan (fun ar os r ha hr=>?_) ⟨Tryz.f37,rfl,by decide,rfl⟩
 replace hr:r37 (Xf9) ar (XaH os)=some r:=hr
 unfold r37 at hr
 generalize hc:XaH os=C at hr
 replace hr:=dV.elim hr;obtain ⟨v0,l1,y0,rfl,e0,hr⟩:=hr;obtain rfl:=XbF _ _ _ e0
 replace hr:=Xdw hr;obtain ⟨rfl,rfl,x,h,rfl⟩:=hr
 obtain rfl:=Xat hc
 exact ⟨_,rfl,XCG hS _ x h⟩
def Xa1:Int→Option Int:=Xf9
theorem Xtk:Xar Tryz.prog 37 (s37 Xa1):=ok37 (Xah.Xa0 trivial)
def Xf5 (Xa1:Int→Option Int) (stamp:Int) (cookie:Int):Option Int:=
 (Xa1 stamp).bind fun l=>
 let t:=XsB .u32 (wI .u32 ((wI .u32 cookie)*2^16)) (wI .u32 l)
 some (t)
def rx34 (x:Int):Xcw:=⟨.int .u32 x,[],[]⟩
def r34 (g:Int→Int→Option Int):Dec:=dV (asI .u32) fun (y0:Int)=>dV (asI .u16) fun (y1:Int)=>Xdd (ofG (g y0 y1) rx34)
theorem r34_c {g:Int→Int→Option Int} {y0:Int} {y1:Int} {x:Int} (hx:g y0 y1=some x):r34 g [.int .u32 y0,.int .u16 y1] []=some (rx34 x):=(XaX (Xcv _)).trans ((XaX (Xcv _)).trans (Xa3 hx))
def s34 (g:Int→Int→Option Int):Xbu:=⟨[.v,.v],r34 g⟩
theorem XJL {g:Int→Int→Option Int} {y0:Int} {y1:Int} {x:Int} (hx:g y0 y1=some x):(s34 g).run [.int .u32 y0,.int .u16 y1] []=some (rx34 x):=r34_c hx
abbrev XzE (Xa1:Int→Option Int):List (Nat×Xbu):=[(37,s37 Xa1)]
theorem XCH (Xa1:Int→Option Int) (hS:Xah Tryz.prog (Xav (XzE Xa1))) (stamp:Int) (cookie:Int) (res:Int) (h:Xf5 Xa1 stamp cookie=some res) :
 XaK Tryz.prog 34 0 ⟨⟨34,12,[(0,.int .u32 stamp),(1,.int .u16 cookie)],[.code XG8],[],false,none⟩,[],[],0⟩ (fun v H _=>Res 0 (rx34 res) v H):=by
 unfold Xf5 at h
 refine Xbi Xan hS true 3000 ?_
 conv=>whnf
 replace h:=Xai.elim h;obtain ⟨l,hy,h⟩:=h
 refine XaJ.p (Xtl hy) ?_
 conv=>whnf
 let t:Int:=XsB .u32 (wI .u32 ((wI .u32 cookie)*2^16)) (wI .u32 l)
 all_goals (cases h;exact Res.y)
theorem ok34 (Xa1:Int→Option Int) (hS:Xah Tryz.prog (Xav (XzE Xa1))):Xar Tryz.prog 34 (s34 (Xf5 Xa1)):=by
 refine Xar.Xax Xan (fun ar os r ha hr=>?_) ⟨Tryz.f34,rfl,by decide,rfl⟩
 replace hr:r34 (Xf5 Xa1) ar (XaH os)=some r:=hr
 unfold r34 at hr
 generalize hc:XaH os=C at hr
 replace hr:=dV.elim hr;obtain ⟨v0,l1,y0,rfl,e0,hr⟩:=hr;obtain rfl:=XbF _ _ _ e0
 replace hr:=dV.elim hr;obtain ⟨v1,l2,y1,rfl,e1,hr⟩:=hr;obtain rfl:=XbF _ _ _ e1
 replace hr:=Xdw hr;obtain ⟨rfl,rfl,x,h,rfl⟩:=hr
 obtain rfl:=Xat hc
 exact ⟨_,rfl,XCH Xa1 hS _ _ x h⟩
def Xcu:Int→Int→Option Int:=Xf5 Xa1
theorem XIX:Xar Tryz.prog 34 (s34 Xcu):=ok34 Xa1 (Xah.Xa0 ⟨Xtk,trivial⟩)
def Xe6 (Xcu:Int→Int→Option Int) (p:Xae) (a1:Int):Option (Int×Int):=
 (Xcu p.Val a1).bind fun l=>
 some ((l,a1))
def rx33 (x:Int×Int):Xcw:=⟨.int .u32 x.1,[],[some [.int .u16 x.2]]⟩
def r33 (g:Xae→Int→Option (Int×Int)):Dec:=dV Xgw fun (y0:Xae)=>dPt 0 (un1 (asI .u16)) fun (y1:Int)=>Xdd (ofG (g y0 y1) rx33)
theorem r33_c {g:Xae→Int→Option (Int×Int)} {y0:Xae} {y1:Int} {x:Int×Int} (hx:g y0 y1=some x):r33 g [.agg ⟨[.int .i64 y0.Tuple.Proto,.bool y0.Tuple.Src.V6,.int .u64 y0.Tuple.Src.Hi,.int .u64 y0.Tuple.Src.Lo,.bool y0.Tuple.Dst.V6,.int .u64 y0.Tuple.Dst.Hi,.int .u64 y0.Tuple.Dst.Lo,.int .i64 y0.Tuple.SPort,.int .i64 y0.Tuple.DPort,.int .i64 y0.Flags,.bool y0.Stamped,.int .u32 y0.Val,.int .u32 y0.Echo,.bool y0.Long,.string ⟨⟨y0.CID⟩⟩,.int .i64 y0.Size]⟩,.pointer (some ⟨0,0,none⟩)] [some [.int .u16 y1]]=some (rx33 x):=(XaX (XjM _)).trans ((Xkt (XJy (Xcv _))).trans (Xa3 hx))
def s33 (g:Xae→Int→Option (Int×Int)):Xbu:=⟨[.v,.pt 1],r33 g⟩
theorem XLk {g:Xae→Int→Option (Int×Int)} {y0:Xae} {y1:Int} {x:Int×Int} (hx:g y0 y1=some x):(s33 g).run [.agg ⟨[.int .i64 y0.Tuple.Proto,.bool y0.Tuple.Src.V6,.int .u64 y0.Tuple.Src.Hi,.int .u64 y0.Tuple.Src.Lo,.bool y0.Tuple.Dst.V6,.int .u64 y0.Tuple.Dst.Hi,.int .u64 y0.Tuple.Dst.Lo,.int .i64 y0.Tuple.SPort,.int .i64 y0.Tuple.DPort,.int .i64 y0.Flags,.bool y0.Stamped,.int .u32 y0.Val,.int .u32 y0.Echo,.bool y0.Long,.string ⟨⟨y0.CID⟩⟩,.int .i64 y0.Size]⟩,.pointer (some ⟨0,0,none⟩)] [some [.int .u16 y1]]=some (rx33 x):=r33_c hx
abbrev XBl (Xcu:Int→Int→Option Int):List (Nat×Xbu):=[(34,s34 Xcu)]
theorem XDv (Xcu:Int→Int→Option Int) (hS:Xah Tryz.prog (Xav (XBl Xcu))) (p:Xae) (a1:Int) (res:Int×Int) (h:Xe6 Xcu p a1=some res) :
 XaK Tryz.prog 33 1 ⟨⟨33,8,[(0,.agg ⟨[.int .i64 p.Tuple.Proto,.bool p.Tuple.Src.V6,.int .u64 p.Tuple.Src.Hi,.int .u64 p.Tuple.Src.Lo,.bool p.Tuple.Dst.V6,.int .u64 p.Tuple.Dst.Hi,.int .u64 p.Tuple.Dst.Lo,.int .i64 p.Tuple.SPort,.int .i64 p.Tuple.DPort,.int .i64 p.Flags,.bool p.Stamped,.int .u32 p.Val,.int .u32 p.Echo,.bool p.Long,.string ⟨⟨p.CID⟩⟩,.int .i64 p.Size]⟩),(1,.pointer (some ⟨0,0,none⟩))],[.code XIz],[],false,none⟩,[],[(0,.cells [.int .u16 a1])],1⟩ (fun v H _=>Res 1 (rx33 res) v H):=by
 unfold Xe6 at h
 refine Xbi Xan hS true 3000 ?_
 conv=>whnf
 replace h:=Xai.elim h;obtain ⟨l,hy,h⟩:=h
 refine XaJ.p (XJL hy) ?_
 conv=>whnf
 all_goals (cases h)
 all_goals exact Res.of [] rfl Xhe (by decide) Xhc (XlM (rfl) (XbW rfl) Xhb)
theorem ok33 (Xcu:Int→Int→Option Int) (hS:Xah Tryz.prog (Xav (XBl Xcu))):Xar Tryz.prog 33 (s33 (Xe6 Xcu)):=by
 refine Xar.Xax Xan (fun ar os r ha hr=>?_) ⟨Tryz.f33,rfl,by decide,rfl⟩
 replace hr:r33 (Xe6 Xcu) ar (XaH os)=some r:=hr
 unfold r33 at hr
 generalize hc:XaH os=C at hr
 replace hr:=dV.elim hr;obtain ⟨v0,l1,y0,rfl,e0,hr⟩:=hr;obtain rfl:=XiY _ _ e0
 have hq:=dPt.elim hr;clear hr;obtain ⟨c1,l2,C,y1,rfl,rfl,e1,hr⟩:=hq;obtain rfl:=XAd (XbF _) e1
 replace hr:=Xdw hr;obtain ⟨rfl,rfl,x,h,rfl⟩:=hr
 obtain ⟨os,rfl,ha,hc⟩:=Xc3 ha hc
 obtain rfl:=Xat hc
 exact ⟨_,rfl,XDv Xcu hS _ _ x h⟩
def XbV:Xae→Int→Option (Int×Int):=Xe6 Xcu
theorem XLx:Xar Tryz.prog 33 (s33 XbV):=ok33 Xcu (Xah.Xa0 ⟨XIX,trivial⟩)
def Xd0 (Xa1:Int→Option Int) (now:Int) (low:Int):Option Int:=
 (Xa1 now).bind fun l=>
 let t:=wI .u32 (now - (wI .u32 (wI .u16 (l - low))))
 some (t)
def rx36 (x:Int):Xcw:=⟨.int .u32 x,[],[]⟩
def r36 (g:Int→Int→Option Int):Dec:=dV (asI .u32) fun (y0:Int)=>dV (asI .u16) fun (y1:Int)=>Xdd (ofG (g y0 y1) rx36)
theorem r36_c {g:Int→Int→Option Int} {y0:Int} {y1:Int} {x:Int} (hx:g y0 y1=some x):r36 g [.int .u32 y0,.int .u16 y1] []=some (rx36 x):=(XaX (Xcv _)).trans ((XaX (Xcv _)).trans (Xa3 hx))
def s36 (g:Int→Int→Option Int):Xbu:=⟨[.v,.v],r36 g⟩
theorem XIJ {g:Int→Int→Option Int} {y0:Int} {y1:Int} {x:Int} (hx:g y0 y1=some x):(s36 g).run [.int .u32 y0,.int .u16 y1] []=some (rx36 x):=r36_c hx
abbrev XB6 (Xa1:Int→Option Int):List (Nat×Xbu):=[(37,s37 Xa1)]
theorem XDK (Xa1:Int→Option Int) (hS:Xah Tryz.prog (Xav (XB6 Xa1))) (now:Int) (low:Int) (res:Int) (h:Xd0 Xa1 now low=some res) :
 XaK Tryz.prog 36 0 ⟨⟨36,12,[(0,.int .u32 now),(1,.int .u16 low)],[.code XKq],[],false,none⟩,[],[],0⟩ (fun v H _=>Res 0 (rx36 res) v H):=by
 unfold Xd0 at h
 refine Xbi Xan hS true 3000 ?_
 conv=>whnf
 replace h:=Xai.elim h;obtain ⟨l,hy,h⟩:=h
 refine XaJ.p (Xtl hy) ?_
 conv=>whnf
 let t:Int:=wI .u32 (now - (wI .u32 (wI .u16 (l - low))))
 all_goals (cases h;exact Res.y)
theorem ok36 (Xa1:Int→Option Int) (hS:Xah Tryz.prog (Xav (XB6 Xa1))):Xar Tryz.prog 36 (s36 (Xd0 Xa1)):=by
 refine Xar.Xax Xan (fun ar os r ha hr=>?_) ⟨Tryz.f36,rfl,by decide,rfl⟩
 replace hr:r36 (Xd0 Xa1) ar (XaH os)=some r:=hr
 unfold r36 at hr
 generalize hc:XaH os=C at hr
 replace hr:=dV.elim hr;obtain ⟨v0,l1,y0,rfl,e0,hr⟩:=hr;obtain rfl:=XbF _ _ _ e0
 replace hr:=dV.elim hr;obtain ⟨v1,l2,y1,rfl,e1,hr⟩:=hr;obtain rfl:=XbF _ _ _ e1
 replace hr:=Xdw hr;obtain ⟨rfl,rfl,x,h,rfl⟩:=hr
 obtain rfl:=Xat hc
 exact ⟨_,rfl,XDK Xa1 hS _ _ x h⟩
def XbK:Int→Int→Option Int:=Xd0 Xa1
theorem XJx:Xar Tryz.prog 36 (s36 XbK):=ok36 Xa1 (Xah.Xa0 ⟨Xtk,trivial⟩)
def XfX (Xa1:Int→Option Int) (XbK:Int→Int→Option Int) (p:Xae) (a1:Int):Option (Int×Int):=
 (Xa1 p.Echo).bind fun l=>
 (XbK a1 l).bind fun xr=>
 some ((xr,a1))
def rx35 (x:Int×Int):Xcw:=⟨.int .u32 x.1,[],[some [.int .u32 x.2]]⟩
def r35 (g:Xae→Int→Option (Int×Int)):Dec:=dV Xgw fun (y0:Xae)=>dPt 0 (un1 (asI .u32)) fun (y1:Int)=>Xdd (ofG (g y0 y1) rx35)
theorem r35_c {g:Xae→Int→Option (Int×Int)} {y0:Xae} {y1:Int} {x:Int×Int} (hx:g y0 y1=some x):r35 g [.agg ⟨[.int .i64 y0.Tuple.Proto,.bool y0.Tuple.Src.V6,.int .u64 y0.Tuple.Src.Hi,.int .u64 y0.Tuple.Src.Lo,.bool y0.Tuple.Dst.V6,.int .u64 y0.Tuple.Dst.Hi,.int .u64 y0.Tuple.Dst.Lo,.int .i64 y0.Tuple.SPort,.int .i64 y0.Tuple.DPort,.int .i64 y0.Flags,.bool y0.Stamped,.int .u32 y0.Val,.int .u32 y0.Echo,.bool y0.Long,.string ⟨⟨y0.CID⟩⟩,.int .i64 y0.Size]⟩,.pointer (some ⟨0,0,none⟩)] [some [.int .u32 y1]]=some (rx35 x):=(XaX (XjM _)).trans ((Xkt (XJy (Xcv _))).trans (Xa3 hx))
def s35 (g:Xae→Int→Option (Int×Int)):Xbu:=⟨[.v,.pt 1],r35 g⟩
theorem XHo {g:Xae→Int→Option (Int×Int)} {y0:Xae} {y1:Int} {x:Int×Int} (hx:g y0 y1=some x):(s35 g).run [.agg ⟨[.int .i64 y0.Tuple.Proto,.bool y0.Tuple.Src.V6,.int .u64 y0.Tuple.Src.Hi,.int .u64 y0.Tuple.Src.Lo,.bool y0.Tuple.Dst.V6,.int .u64 y0.Tuple.Dst.Hi,.int .u64 y0.Tuple.Dst.Lo,.int .i64 y0.Tuple.SPort,.int .i64 y0.Tuple.DPort,.int .i64 y0.Flags,.bool y0.Stamped,.int .u32 y0.Val,.int .u32 y0.Echo,.bool y0.Long,.string ⟨⟨y0.CID⟩⟩,.int .i64 y0.Size]⟩,.pointer (some ⟨0,0,none⟩)] [some [.int .u32 y1]]=some (rx35 x):=r35_c hx
abbrev XBR (Xa1:Int→Option Int) (XbK:Int→Int→Option Int):List (Nat×Xbu):=[(37,s37 Xa1),(36,s36 XbK)]
theorem XDY (Xa1:Int→Option Int) (XbK:Int→Int→Option Int) (hS:Xah Tryz.prog (Xav (XBR Xa1 XbK))) (p:Xae) (a1:Int) (res:Int×Int) (h:XfX Xa1 XbK p a1=some res) :
 XaK Tryz.prog 35 1 ⟨⟨35,9,[(0,.agg ⟨[.int .i64 p.Tuple.Proto,.bool p.Tuple.Src.V6,.int .u64 p.Tuple.Src.Hi,.int .u64 p.Tuple.Src.Lo,.bool p.Tuple.Dst.V6,.int .u64 p.Tuple.Dst.Hi,.int .u64 p.Tuple.Dst.Lo,.int .i64 p.Tuple.SPort,.int .i64 p.Tuple.DPort,.int .i64 p.Flags,.bool p.Stamped,.int .u32 p.Val,.int .u32 p.Echo,.bool p.Long,.string ⟨⟨p.CID⟩⟩,.int .i64 p.Size]⟩),(1,.pointer (some ⟨0,0,none⟩))],[.code XHO],[],false,none⟩,[],[(0,.cells [.int .u32 a1])],1⟩ (fun v H _=>Res 1 (rx35 res) v H):=by
 unfold XfX at h
 refine Xbi Xan hS true 3000 ?_
 conv=>whnf
 replace h:=Xai.elim h;obtain ⟨l,hy,h⟩:=h
 refine XaJ.p (Xtl hy) ?_
 conv=>whnf
 replace h:=Xai.elim h;obtain ⟨xr,hy,h⟩:=h
 refine XaJ.p (XIJ hy) ?_
 conv=>whnf
 all_goals (cases h)
 all_goals exact Res.of [] rfl Xhe (by decide) Xhc (XlM (rfl) (XbW rfl) Xhb)
theorem ok35 (Xa1:Int→Option Int) (XbK:Int→Int→Option Int) (hS:Xah Tryz.prog (Xav (XBR Xa1 XbK))):Xar Tryz.prog 35 (s35 (XfX Xa1 XbK)):=by
 refine Xar.Xax Xan (fun ar os r ha hr=>?_) ⟨Tryz.f35,rfl,by decide,rfl⟩
 replace hr:r35 (XfX Xa1 XbK) ar (XaH os)=some r:=hr
 unfold r35 at hr
 generalize hc:XaH os=C at hr
 replace hr:=dV.elim hr;obtain ⟨v0,l1,y0,rfl,e0,hr⟩:=hr;obtain rfl:=XiY _ _ e0
 have hq:=dPt.elim hr;clear hr;obtain ⟨c1,l2,C,y1,rfl,rfl,e1,hr⟩:=hq;obtain rfl:=XAd (XbF _) e1
 replace hr:=Xdw hr;obtain ⟨rfl,rfl,x,h,rfl⟩:=hr
 obtain ⟨os,rfl,ha,hc⟩:=Xc3 ha hc
 obtain rfl:=Xat hc
 exact ⟨_,rfl,XDY Xa1 XbK hS _ _ x h⟩
def Xcc:Xae→Int→Option (Int×Int):=XfX Xa1 XbK
theorem XI9:Xar Tryz.prog 35 (s35 Xcc):=ok35 Xa1 XbK (Xah.Xa0 ⟨Xtk,XJx,trivial⟩)
end Go.Vm.Code
namespace Go.Vm.Code
open Go Go.Vm
theorem bv32 {a:Nat} (h:a<4294967296):(BitVec.ofInt 32 (a:Int)).toNat=a:=by
 rw [BitVec.toNat_ofInt];omega
theorem XKO {a b:Nat} (ha:a<4294967296) (hb:b<4294967296):XsB .u32 (a:Int) (b:Int)=((a ||| b:Nat):Int):=by
 have h:a ||| b<2^32:=Nat.or_lt_two_pow (by omega) (by omega)
 show IntKind.wrap .u32 _=_
 rw [show IntKind.bits .u32=32 from rfl,BitVec.toNat_or,bv32 (by omega),bv32 (by omega)]
 exact Xpv (by omega) (by omega)
def XjW (v c:Int):Int:=c*65536+v%65536
theorem Xuw {p:Xae} {c:Int} (hc:0≤c∧c<65536):XbV p c=some (XjW p.Val c,c):=by
 unfold XbV Xe6 Xcu Xf5 Xa1 Xf9 XjW
 simp only [Option.bind_some]
 rw [Xy8,Xpv (n:=c) (by omega) (by omega),Xpv (n:=p.Val%65536) (by omega) (by omega)]
 obtain ⟨n,rfl⟩:=Int.eq_ofNat_of_zero_le hc.1
 obtain ⟨m,hm⟩:=Int.eq_ofNat_of_zero_le (show 0≤p.Val%65536 by omega)
 have hm2:m<65536:=by omega
 have e:(n:Int)*2^16=((n*65536:Nat):Int):=by
  rw [show (2:Int)^16=65536 from rfl];omega
 have key:(n*65536) ||| m=n*65536+m:=Xtg (k:=16) (show m<65536 by omega)
 have b1:((n*65536:Nat):Int)<4294967296:=by omega
 have b2:n*65536<4294967296:=by omega
 have b3:m<4294967296:=by omega
 rw [hm,e,Xpv (Int.natCast_nonneg _) b1,XKO b2 b3,key]
 rw [show ((n*65536+m:Nat):Int)=(n:Int)*65536+(m:Int) by omega]
def Xhp (now e:Int):Int:=(now - (now%65536 - e%65536)%65536)%4294967296
theorem XvK {p:Xae} {now:Int}:Xcc p now=some (Xhp now p.Echo,now):=by
 unfold Xcc XfX XbK Xd0 Xa1 Xf9 Xhp
 simp only [Option.bind_some]
 rw [Xy8,Xy8,Xy8,Xpv (n:=(now%65536 - p.Echo%65536)%65536) (by omega) (by omega),XE4]
end Go.Vm.Code
namespace Go.Vm.Code
open Go Go.Vm Go.Proofs
set_option maxRecDepth 100000
set_option maxHeartbeats 4000000
set_option linter.unusedVariables false
def XgM (Xam:Int→Int→Option (List UInt8)) (XaC:(List UInt8)→Option (Xae×Int)) (Xaz:(List UInt8)→Option (Int×Int×Int)) (XbV:Xae→Int→Option (Int×Int)) (XaF:(List UInt8)→Int→(List UInt8)→Int→Option ((List UInt8)×Bool)) (XaY:(List UInt8)→Option (Int×Int×Int)) (s:List UInt8) (cookie:Int):Option ((List UInt8)×Int):=
 (XaC s).bind fun p=>
 cond (p.2 !=0)
  (
  some (([],p.2)))
  (
  cond (!p.1.Stamped)
   (
   some (([],6)))
   (
   (Xaz s).bind fun w=>
   XaE (decide ((0:Int)≤w.2.1∧w.2.1≤(s.length:Int)∧(0:Int)≤(wI .i64 (w.1+20))∧(wI .i64 (w.1+20))≤(w.2.1.toNat:Int))) <|
   let t:=(s.drop (wI .i64 (w.1+20)).toNat).take (w.2.1.toNat - (wI .i64 (w.1+20)).toNat)
   (XaY t).bind fun s1=>
   XaE (decide ((0:Int)≤w.1∧w.1≤(s.length:Int))) <|
   let t1:=(s.drop w.1.toNat).take (s.length - w.1.toNat)
   (XbV p.1 cookie).bind fun x1=>
   (Xam (wI .u64 x1.1) 4).bind fun p1=>
   (XaF t1 (wI .i64 ((wI .i64 (20+s1.2.2))+0)) p1 16).bind fun p2=>
   cond (!p2.2)
    (
    some (([],3)))
    (
    XaE (decide ((0:Int)≤w.1∧w.1≤(s.length:Int))) <|
    XaE (decide ((s.take w.1.toNat).length+p2.1.length<2^63)) <|
    some (((s.take w.1.toNat)++p2.1,0)))))
def rx16 (x:(List UInt8)×Int):Xcw:=⟨.tuple ⟨[.string ⟨⟨x.1⟩⟩,.int .i64 x.2]⟩,[],[]⟩
def r16 (g:(List UInt8)→Int→Option ((List UInt8)×Int)):Dec:=dV asS fun (y0:List UInt8)=>dV (asI .u16) fun (y1:Int)=>Xdd (ofG (g y0 y1) rx16)
theorem r16_c {g:(List UInt8)→Int→Option ((List UInt8)×Int)} {y0:List UInt8} {y1:Int} {x:(List UInt8)×Int} (hx:g y0 y1=some x):r16 g [.string ⟨⟨y0⟩⟩,.int .u16 y1] []=some (rx16 x):=(XaX (XcI)).trans ((XaX (Xcv _)).trans (Xa3 hx))
def s16 (g:(List UInt8)→Int→Option ((List UInt8)×Int)):Xbu:=⟨[.v,.v],r16 g⟩
theorem Xvs {g:(List UInt8)→Int→Option ((List UInt8)×Int)} {y0:List UInt8} {y1:Int} {x:(List UInt8)×Int} (hx:g y0 y1=some x):(s16 g).run [.string ⟨⟨y0⟩⟩,.int .u16 y1] []=some (rx16 x):=r16_c hx
abbrev XBU (Xam:Int→Int→Option (List UInt8)) (XaC:(List UInt8)→Option (Xae×Int)) (Xaz:(List UInt8)→Option (Int×Int×Int)) (XbV:Xae→Int→Option (Int×Int)) (XaF:(List UInt8)→Int→(List UInt8)→Int→Option ((List UInt8)×Bool)) (XaY:(List UInt8)→Option (Int×Int×Int)):List (Nat×Xbu):=[(42,s42 Xam),(22,s22 XaC),(38,s38 Xaz),(33,s33 XbV),(41,s41 XaF),(60,s60 XaY)]
theorem XCT (Xam:Int→Int→Option (List UInt8)) (XaC:(List UInt8)→Option (Xae×Int)) (Xaz:(List UInt8)→Option (Int×Int×Int)) (XbV:Xae→Int→Option (Int×Int)) (XaF:(List UInt8)→Int→(List UInt8)→Int→Option ((List UInt8)×Bool)) (XaY:(List UInt8)→Option (Int×Int×Int)) (hS:Xah Tryz.prog (Xav (XBU Xam XaC Xaz XbV XaF XaY))) (s:List UInt8) (cookie:Int) (res:(List UInt8)×Int) (h:XgM Xam XaC Xaz XbV XaF XaY s cookie=some res) :
 XaK Tryz.prog 16 0 ⟨⟨16,11,[(0,.string ⟨⟨s⟩⟩),(1,.int .u16 cookie)],[.code XKV],[],false,none⟩,[],[],0⟩ (fun v H _=>Res 0 (rx16 res) v H):=by
 unfold XgM at h
 refine Xbi Xan hS true 3000 ?_
 conv=>whnf
 replace h:=Xai.elim h;obtain ⟨p,hy,h⟩:=h
 refine XaJ.p (XvN hy) ?_
 conv=>whnf
 refine br.h h (by rfl) ?_ ?_
 ·clear h;intro hb h;conv=>whnf
  all_goals (cases h;exact Res.y)
 clear h;intro hb h;conv=>whnf
 refine br.h h (by rfl) ?_ ?_
 ·clear h;intro hb h;conv=>whnf
  all_goals (cases h;exact Res.y)
 clear h;intro hb h;conv=>whnf
 replace h:=Xai.elim h;obtain ⟨w,hy,h⟩:=h
 refine XaJ.p (Xwh hy) ?_
 conv=>whnf
 replace h:=XaE.elim h;obtain ⟨hb,h⟩:=h
 try (refine req.intro hb ?_;conv=>whnf)
 let t:List UInt8:=(s.drop (wI .i64 (w.1+20)).toNat).take (w.2.1.toNat - (wI .i64 (w.1+20)).toNat)
 replace h:=Xai.elim h;obtain ⟨s1,hy,h⟩:=h
 refine XaJ.p (Xue hy) ?_
 conv=>whnf
 replace h:=XaE.elim h;obtain ⟨hb,h⟩:=h
 try (refine req.intro hb ?_;conv=>whnf)
 let t1:List UInt8:=(s.drop w.1.toNat).take (s.length - w.1.toNat)
 replace h:=Xai.elim h;obtain ⟨x1,hy,h⟩:=h
 refine XaJ.Xbe [0] (Xaw (aqs:=[.agg ⟨[.int .i64 p.1.Tuple.Proto,.bool p.1.Tuple.Src.V6,.int .u64 p.1.Tuple.Src.Hi,.int .u64 p.1.Tuple.Src.Lo,.bool p.1.Tuple.Dst.V6,.int .u64 p.1.Tuple.Dst.Hi,.int .u64 p.1.Tuple.Dst.Lo,.int .i64 p.1.Tuple.SPort,.int .i64 p.1.Tuple.DPort,.int .i64 p.1.Flags,.bool p.1.Stamped,.int .u32 p.1.Val,.int .u32 p.1.Echo,.bool p.1.Long,.string ⟨⟨p.1.CID⟩⟩,.int .i64 p.1.Size]⟩,.pointer (some ⟨0,0,none⟩)]) (ws:=[.win 0 0 1 true]) (n:=0) (m:=0) (t':=11) (Xau rfl rfl (Xau rfl rfl Xbg)) rfl (by rfl) (XLk hy) rfl rfl rfl rfl (XbD rfl rfl rfl ⟨rfl,Nat.le_of_ble_eq_true rfl⟩ rfl rfl Xbf) Xbc rfl) ?_
 conv=>whnf
 replace h:=Xai.elim h;obtain ⟨p1,hy,h⟩:=h
 refine XaJ.p (XkV hy) ?_
 conv=>whnf
 replace h:=Xai.elim h;obtain ⟨p2,hy,h⟩:=h
 refine XaJ.p (XvH hy) ?_
 conv=>whnf
 refine br.h h (by rfl) ?_ ?_
 ·clear h;intro hb h;conv=>whnf
  all_goals (cases h;exact Res.y)
 clear h;intro hb h;conv=>whnf
 replace h:=XaE.elim h;obtain ⟨hb,h⟩:=h
 try (refine req.intro hb ?_;conv=>whnf)
 replace h:=XaE.elim h;obtain ⟨hb,h⟩:=h
 try (refine req.intro hb ?_;conv=>whnf)
 all_goals (cases h;exact Res.y)
theorem ok16 (Xam:Int→Int→Option (List UInt8)) (XaC:(List UInt8)→Option (Xae×Int)) (Xaz:(List UInt8)→Option (Int×Int×Int)) (XbV:Xae→Int→Option (Int×Int)) (XaF:(List UInt8)→Int→(List UInt8)→Int→Option ((List UInt8)×Bool)) (XaY:(List UInt8)→Option (Int×Int×Int)) (hS:Xah Tryz.prog (Xav (XBU Xam XaC Xaz XbV XaF XaY))):Xar Tryz.prog 16 (s16 (XgM Xam XaC Xaz XbV XaF XaY)):=by
 refine Xar.Xax Xan (fun ar os r ha hr=>?_) ⟨Tryz.f16,rfl,by decide,rfl⟩
 replace hr:r16 (XgM Xam XaC Xaz XbV XaF XaY) ar (XaH os)=some r:=hr
 unfold r16 at hr
 generalize hc:XaH os=C at hr
 replace hr:=dV.elim hr;obtain ⟨v0,l1,y0,rfl,e0,hr⟩:=hr;obtain rfl:=XbM _ _ e0
 replace hr:=dV.elim hr;obtain ⟨v1,l2,y1,rfl,e1,hr⟩:=hr;obtain rfl:=XbF _ _ _ e1
 replace hr:=Xdw hr;obtain ⟨rfl,rfl,x,h,rfl⟩:=hr
 obtain rfl:=Xat hc
 exact ⟨_,rfl,XCT Xam XaC Xaz XbV XaF XaY hS _ _ x h⟩
def Xbs:(List UInt8)→Int→Option ((List UInt8)×Int):=XgM Xam XaC Xaz XbV XaF XaY
theorem XIF:Xar Tryz.prog 16 (s16 Xbs):=ok16 Xam XaC Xaz XbV XaF XaY (Xah.Xa0 ⟨Xnw,Xwe,XtH,XLx,Xwf,XuV,trivial⟩)
def XhI (Xam:Int→Int→Option (List UInt8)) (XaC:(List UInt8)→Option (Xae×Int)) (Xaz:(List UInt8)→Option (Int×Int×Int)) (Xcc:Xae→Int→Option (Int×Int)) (XaF:(List UInt8)→Int→(List UInt8)→Int→Option ((List UInt8)×Bool)) (XaY:(List UInt8)→Option (Int×Int×Int)) (s:List UInt8) (now:Int):Option ((List UInt8)×Int):=
 (XaC s).bind fun p=>
 cond (p.2 !=0)
  (
  some (([],p.2)))
  (
  cond (!p.1.Stamped)
   (
   some (([],6)))
   (
   (Xaz s).bind fun w=>
   XaE (decide ((0:Int)≤w.2.1∧w.2.1≤(s.length:Int)∧(0:Int)≤(wI .i64 (w.1+20))∧(wI .i64 (w.1+20))≤(w.2.1.toNat:Int))) <|
   let t:=(s.drop (wI .i64 (w.1+20)).toNat).take (w.2.1.toNat - (wI .i64 (w.1+20)).toNat)
   (XaY t).bind fun s1=>
   XaE (decide ((0:Int)≤w.1∧w.1≤(s.length:Int))) <|
   let t1:=(s.drop w.1.toNat).take (s.length - w.1.toNat)
   (Xcc p.1 now).bind fun x1=>
   (Xam (wI .u64 x1.1) 4).bind fun p1=>
   (XaF t1 (wI .i64 ((wI .i64 (20+s1.2.2))+4)) p1 16).bind fun p2=>
   cond (!p2.2)
    (
    some (([],3)))
    (
    XaE (decide ((0:Int)≤w.1∧w.1≤(s.length:Int))) <|
    XaE (decide ((s.take w.1.toNat).length+p2.1.length<2^63)) <|
    some (((s.take w.1.toNat)++p2.1,0)))))
def rx18 (x:(List UInt8)×Int):Xcw:=⟨.tuple ⟨[.string ⟨⟨x.1⟩⟩,.int .i64 x.2]⟩,[],[]⟩
def r18 (g:(List UInt8)→Int→Option ((List UInt8)×Int)):Dec:=dV asS fun (y0:List UInt8)=>dV (asI .u32) fun (y1:Int)=>Xdd (ofG (g y0 y1) rx18)
theorem r18_c {g:(List UInt8)→Int→Option ((List UInt8)×Int)} {y0:List UInt8} {y1:Int} {x:(List UInt8)×Int} (hx:g y0 y1=some x):r18 g [.string ⟨⟨y0⟩⟩,.int .u32 y1] []=some (rx18 x):=(XaX (XcI)).trans ((XaX (Xcv _)).trans (Xa3 hx))
def s18 (g:(List UInt8)→Int→Option ((List UInt8)×Int)):Xbu:=⟨[.v,.v],r18 g⟩
theorem XBr {g:(List UInt8)→Int→Option ((List UInt8)×Int)} {y0:List UInt8} {y1:Int} {x:(List UInt8)×Int} (hx:g y0 y1=some x):(s18 g).run [.string ⟨⟨y0⟩⟩,.int .u32 y1] []=some (rx18 x):=r18_c hx
abbrev XBM (Xam:Int→Int→Option (List UInt8)) (XaC:(List UInt8)→Option (Xae×Int)) (Xaz:(List UInt8)→Option (Int×Int×Int)) (Xcc:Xae→Int→Option (Int×Int)) (XaF:(List UInt8)→Int→(List UInt8)→Int→Option ((List UInt8)×Bool)) (XaY:(List UInt8)→Option (Int×Int×Int)):List (Nat×Xbu):=[(42,s42 Xam),(22,s22 XaC),(38,s38 Xaz),(35,s35 Xcc),(41,s41 XaF),(60,s60 XaY)]
theorem XCC (Xam:Int→Int→Option (List UInt8)) (XaC:(List UInt8)→Option (Xae×Int)) (Xaz:(List UInt8)→Option (Int×Int×Int)) (Xcc:Xae→Int→Option (Int×Int)) (XaF:(List UInt8)→Int→(List UInt8)→Int→Option ((List UInt8)×Bool)) (XaY:(List UInt8)→Option (Int×Int×Int)) (hS:Xah Tryz.prog (Xav (XBM Xam XaC Xaz Xcc XaF XaY))) (s:List UInt8) (now:Int) (res:(List UInt8)×Int) (h:XhI Xam XaC Xaz Xcc XaF XaY s now=some res) :
 XaK Tryz.prog 18 0 ⟨⟨18,11,[(0,.string ⟨⟨s⟩⟩),(1,.int .u32 now)],[.code XKK],[],false,none⟩,[],[],0⟩ (fun v H _=>Res 0 (rx18 res) v H):=by
 unfold XhI at h
 refine Xbi Xan hS true 3000 ?_
 conv=>whnf
 replace h:=Xai.elim h;obtain ⟨p,hy,h⟩:=h
 refine XaJ.p (XvN hy) ?_
 conv=>whnf
 refine br.h h (by rfl) ?_ ?_
 ·clear h;intro hb h;conv=>whnf
  all_goals (cases h;exact Res.y)
 clear h;intro hb h;conv=>whnf
 refine br.h h (by rfl) ?_ ?_
 ·clear h;intro hb h;conv=>whnf
  all_goals (cases h;exact Res.y)
 clear h;intro hb h;conv=>whnf
 replace h:=Xai.elim h;obtain ⟨w,hy,h⟩:=h
 refine XaJ.p (Xwh hy) ?_
 conv=>whnf
 replace h:=XaE.elim h;obtain ⟨hb,h⟩:=h
 try (refine req.intro hb ?_;conv=>whnf)
 let t:List UInt8:=(s.drop (wI .i64 (w.1+20)).toNat).take (w.2.1.toNat - (wI .i64 (w.1+20)).toNat)
 replace h:=Xai.elim h;obtain ⟨s1,hy,h⟩:=h
 refine XaJ.p (Xue hy) ?_
 conv=>whnf
 replace h:=XaE.elim h;obtain ⟨hb,h⟩:=h
 try (refine req.intro hb ?_;conv=>whnf)
 let t1:List UInt8:=(s.drop w.1.toNat).take (s.length - w.1.toNat)
 replace h:=Xai.elim h;obtain ⟨x1,hy,h⟩:=h
 refine XaJ.Xbe [0] (Xaw (aqs:=[.agg ⟨[.int .i64 p.1.Tuple.Proto,.bool p.1.Tuple.Src.V6,.int .u64 p.1.Tuple.Src.Hi,.int .u64 p.1.Tuple.Src.Lo,.bool p.1.Tuple.Dst.V6,.int .u64 p.1.Tuple.Dst.Hi,.int .u64 p.1.Tuple.Dst.Lo,.int .i64 p.1.Tuple.SPort,.int .i64 p.1.Tuple.DPort,.int .i64 p.1.Flags,.bool p.1.Stamped,.int .u32 p.1.Val,.int .u32 p.1.Echo,.bool p.1.Long,.string ⟨⟨p.1.CID⟩⟩,.int .i64 p.1.Size]⟩,.pointer (some ⟨0,0,none⟩)]) (ws:=[.win 0 0 1 true]) (n:=0) (m:=0) (t':=11) (Xau rfl rfl (Xau rfl rfl Xbg)) rfl (by rfl) (XHo hy) rfl rfl rfl rfl (XbD rfl rfl rfl ⟨rfl,Nat.le_of_ble_eq_true rfl⟩ rfl rfl Xbf) Xbc rfl) ?_
 conv=>whnf
 replace h:=Xai.elim h;obtain ⟨p1,hy,h⟩:=h
 refine XaJ.p (XkV hy) ?_
 conv=>whnf
 replace h:=Xai.elim h;obtain ⟨p2,hy,h⟩:=h
 refine XaJ.p (XvH hy) ?_
 conv=>whnf
 refine br.h h (by rfl) ?_ ?_
 ·clear h;intro hb h;conv=>whnf
  all_goals (cases h;exact Res.y)
 clear h;intro hb h;conv=>whnf
 replace h:=XaE.elim h;obtain ⟨hb,h⟩:=h
 try (refine req.intro hb ?_;conv=>whnf)
 replace h:=XaE.elim h;obtain ⟨hb,h⟩:=h
 try (refine req.intro hb ?_;conv=>whnf)
 all_goals (cases h;exact Res.y)
theorem ok18 (Xam:Int→Int→Option (List UInt8)) (XaC:(List UInt8)→Option (Xae×Int)) (Xaz:(List UInt8)→Option (Int×Int×Int)) (Xcc:Xae→Int→Option (Int×Int)) (XaF:(List UInt8)→Int→(List UInt8)→Int→Option ((List UInt8)×Bool)) (XaY:(List UInt8)→Option (Int×Int×Int)) (hS:Xah Tryz.prog (Xav (XBM Xam XaC Xaz Xcc XaF XaY))):Xar Tryz.prog 18 (s18 (XhI Xam XaC Xaz Xcc XaF XaY)):=by
 refine Xar.Xax Xan (fun ar os r ha hr=>?_) ⟨Tryz.f18,rfl,by decide,rfl⟩
 replace hr:r18 (XhI Xam XaC Xaz Xcc XaF XaY) ar (XaH os)=some r:=hr
 unfold r18 at hr
 generalize hc:XaH os=C at hr
 replace hr:=dV.elim hr;obtain ⟨v0,l1,y0,rfl,e0,hr⟩:=hr;obtain rfl:=XbM _ _ e0
 replace hr:=dV.elim hr;obtain ⟨v1,l2,y1,rfl,e1,hr⟩:=hr;obtain rfl:=XbF _ _ _ e1
 replace hr:=Xdw hr;obtain ⟨rfl,rfl,x,h,rfl⟩:=hr
 obtain rfl:=Xat hc
 exact ⟨_,rfl,XCC Xam XaC Xaz Xcc XaF XaY hS _ _ x h⟩
def Xc9:(List UInt8)→Int→Option ((List UInt8)×Int):=XhI Xam XaC Xaz Xcc XaF XaY
theorem lift18:Xar Tryz.prog 18 (s18 Xc9):=ok18 Xam XaC Xaz Xcc XaF XaY (Xah.Xa0 ⟨Xnw,Xwe,XtH,XI9,Xwf,XuV,trivial⟩)
end Go.Vm.Code
namespace Go.Vm.Code
open Go Go.Vm
theorem Xi0 {B w:List UInt8} {i j:Nat} (hw:w≠[]) (h1:i+w.length≤B.length) (hj:j+2≤B.length) (hj2:j%2=0) (ho:j+2≤i∨i+w.length≤j):∃ b',Xg8 B i w j=(b',true)∧b'.length=B.length∧Xdp b'%65535=Xdp B%65535 ∧
 (∀ k,(k<i∨i+w.length≤k)→k≠j→k≠j+1→b'[k]?=B[k]?)∧(∀ k,i≤k→k<i+w.length→b'[k]?=w[k - i]?):=by
 obtain ⟨d,d1,d2,d3⟩:=Xnv (b:=B) (w:=w) (i:=i) (j:=j) hw h1 hj hj2 ho
 have hl:=Xn9 h1
 have hl2:=Xou (s:=Xm5 B i w) (p:=j) (k:=2) (n:=d) (by omega)
 refine ⟨sset (Xm5 B i w) j 2 d,?_,by omega,d3,fun k h h' h3=>?_,fun k h h'=>?_⟩
 ·unfold Xg8
  rw [if_neg (by omega),if_neg hw,if_neg (by omega),d1,Int.toNat_natCast]
 ·rw [XlT (by omega),Xkl h1]
  have e:(if k<i then B[k]? else if k<i+w.length then w[k - i]? else B[k]?)=B[k]?:=by
   by_cases c:k<i
   ·rw [if_pos c]
   ·rw [if_neg c,if_neg (by omega)]
  rw [e]
  by_cases c1:k<j
  ·rw [if_pos c1]
  ·rw [if_neg c1,if_neg (by omega)]
 ·rw [XlT (by omega),Xkl h1,if_neg (show ¬ k<i by omega),if_pos h']
  by_cases c1:k<j
  ·rw [if_pos c1]
  ·rw [if_neg c1,if_neg (by omega)]
def Xhf (s:List UInt8):Nat:=(Xeh (Xfm (Xag s).body (Xag s).src (Xag s).dst).1.Options).2.2.toNat
def XkJ (s:List UInt8) (off:Nat) (v:Int):List UInt8:=s.take (Xag s).size++(Xg8 (Xag s).body (20+Xhf s+off) (be v.toNat 4) 16).1
theorem Xjt {s:List UInt8} {off:Nat} {v:Int} (hoff:off=0∨off=4) (h:(Xaq s).2.2.2=0) (hs:(Xaq s).1.Stamped=true) (hv:0≤v∧v<4294967296) :
 (Xg8 (Xag s).body (20+Xhf s+off) (be v.toNat 4) 16).2=true∧(XkJ s off v).length=s.length ∧
 Xaq (XkJ s off v)=({(Xaq s).1 with Val:=if off=0 then v else (Xaq s).1.Val,Echo:=if off=0 then (Xaq s).1.Echo else v},(Xaq s).2.1,(Xaq s).2.2.1,0) ∧
 (∀ k,(k<(Xag s).size+16∨(Xag s).size+18≤k)→(k<(Xag s).size+20+Xhf s+off∨(Xag s).size+20+Xhf s+off+4≤k)→(XkJ s off v)[k]?=s[k]?):=by
 obtain ⟨k1,k2,k3,k4,k5,k6,k7⟩:=XdZ h hs
 have hq:(Xeh (Xfm (Xag s).body (Xag s).src (Xag s).dst).1.Options).2.2=(Xhf s:Int):=by unfold Xhf;omega
 obtain ⟨_,_,_,hB⟩:=Xh3 (b':=(Xag s).body) (p:=Xhf s) h hs hq (.inl rfl) rfl (fun _ _ _ _=>rfl) rfl
 have hbl:=XdT k1
 obtain ⟨_,sw2⟩:=Xf6 (b:=(Xag s).body) k1 rfl
 obtain ⟨b',e1,e2,e3,e4,e5⟩:=Xi0 (B:=(Xag s).body) (w:=be v.toNat 4) (i:=20+Xhf s+off) (j:=16) (by intro e;have:=congrArg List.length e;rw [Xdy] at this;exact absurd this (by decide)) (by rw [Xdy];omega) (by omega) (by decide) (.inl (by omega))
 rw [Xdy] at e4 e5
 have hw:vK b' (20+Xhf s+off) 4=v:=by
  have:(b'.drop (20+Xhf s+off)).take 4=be v.toNat 4:=by
   apply List.ext_getElem?
   intro x
   rw [List.getElem?_take]
   split
   ·rw [List.getElem?_drop,e5 _ (by omega) (by omega)];congr 1;omega
   ·rw [List.getElem?_eq_none (by rw [Xdy];omega)]
  rw [vK_of (n:=v.toNat) this rfl (by omega)];omega
 have hsame:∀ x,(x+4≤20+Xhf s+off∨20+Xhf s+off+4≤x)→18≤x→vK b' x 4=vK (Xag s).body x 4:=fun x hx h18=>by
  unfold vK
  rw [XfU (fun k a1 a2=>e4 k (by omega) (by omega) (by omega))]
 obtain ⟨t1,t2,t3,_⟩:=Xh3 (b':=b') (p:=Xhf s+off) (q:=Xhf s) h hs hq (by omega) e2 (fun k a1 a2 a3=>e4 k (by omega) a1 a2) e3
 unfold XkJ
 rw [e1]
 simp only
 refine ⟨trivial,by rw [List.length_append,List.length_take];omega,?_,fun k a1 a2=>?_⟩
 ·rw [t1]
  rcases hoff with rfl|rfl
  ·simp only [if_true]
   rw [t3,←hsame (20+(Xhf s+4)) (by omega) (by omega),show 20+Xhf s=20+Xhf s+0 from rfl,hw]
  ·simp only [show ¬ ((4:Nat)=0) by decide,if_false]
   rw [t2,←hsame (20+Xhf s) (by omega) (by omega),show 20+(Xhf s+4)=20+Xhf s+4 by omega,hw]
 ·rw [List.getElem?_append,List.length_take]
  by_cases c:k<(Xag s).size
  ·rw [if_pos (by omega),List.getElem?_take_of_lt c]
  ·rw [if_neg (by omega),show min (Xag s).size s.length=(Xag s).size by omega,e4 _ (by omega) (by omega) (by omega),sw2,List.getElem?_drop]
   congr 1;omega
theorem Xrw {s:List UInt8} {off:Nat} {v x:Int} (hl:s.length<900) (hoff:off=0∨off=4) (h:(Xaq s).2.2.2=0) (hs:(Xaq s).1.Stamped=true) (hv:0≤v∧v<4294967296) :
 ((Xaz s).bind fun w=>
 XaE (decide ((0:Int)≤w.2.1∧w.2.1≤(s.length:Int)∧(0:Int)≤(wI .i64 (w.1+20))∧(wI .i64 (w.1+20))≤(w.2.1.toNat:Int))) <|
 (XaY ((s.drop (wI .i64 (w.1+20)).toNat).take (w.2.1.toNat - (wI .i64 (w.1+20)).toNat))).bind fun s1=>
 XaE (decide ((0:Int)≤w.1∧w.1≤(s.length:Int))) <|
 (some (v,x)).bind fun (x1:Int×Int)=>
 (Xam (wI .u64 x1.1) 4).bind fun p1=>
 (XaF ((s.drop w.1.toNat).take (s.length - w.1.toNat)) (wI .i64 ((wI .i64 (20+s1.2.2))+(off:Int))) p1 16).bind fun p2=>
 cond (!p2.2)
  (
  some (([],3)))
  (
  XaE (decide ((0:Int)≤w.1∧w.1≤(s.length:Int))) <|
  XaE (decide ((s.take w.1.toNat).length+p2.1.length<2^63)) <|
  some (((s.take w.1.toNat)++p2.1,(0:Int)))))=some (XkJ s off v,0):=by
 obtain ⟨k1,k2,k3,k4,k5,k6,k7⟩:=XdZ h hs
 obtain ⟨p1,p2,_,_⟩:=Xjt (off:=off) (v:=v) hoff h hs hv
 have hbl:=XdT k1
 obtain ⟨_,sw2⟩:=Xf6 (b:=(Xag s).body) k1 rfl
 obtain ⟨l20,v5,ln,o7,g7⟩:=Xqw k5
 have hq:(Xeh (Xfm (Xag s).body (Xag s).src (Xag s).dst).1.Options).2.2=(Xhf s:Int):=by unfold Xhf;omega
 obtain ⟨_,_,_,hB⟩:=Xh3 (b':=(Xag s).body) (p:=Xhf s) h hs hq (.inl rfl) rfl (fun _ _ _ _=>rfl) rfl
 rw [g7] at hq
 simp only [hd7] at hq
 have hin:(Xez (Xag s) s.length).2.1=((Xag s).body.drop (20+n7 (Xag s).body)).length:=by
  unfold Xez
  rw [if_pos k2,g7]
  simp
 have ha:(Xaq s).2.1=(Xag s).size:=by rw [k7];simp only;omega
 have hb:(Xaq s).2.2.1=(Xag s).size+(20+n7 (Xag s).body):=by rw [k7];simp only;rw [hin,List.length_drop];omega
 have hw:((Xg8 (Xag s).body (20+Xhf s+off) (be v.toNat 4) 16).1).length=(Xag s).body.length:=by
  unfold XkJ at p2
  rw [List.length_append,List.length_take] at p2;omega
 rw [XqW (by omega),ha,hb,h,Option.bind_some]
 simp only []
 unfold XkJ
 generalize hz:(Xag s).size=z at *
 have e1:wI .i64 ((z:Int)+20)=((z+20:Nat):Int):=by rw [XcC (by omega) (by omega)];omega
 simp only [e1,Int.toNat_natCast]
 have e2:(s.drop (z+20)).take (z+(20+n7 (Xag s).body) - (z+20))=((Xag s).body.drop 20).take (n7 (Xag s).body):=by
  rw [sw2,List.drop_drop];congr 1;omega
 have e3:(s.drop z).take (s.length - z)=(Xag s).body:=by rw [sw2];exact List.take_of_length_le (by rw [List.length_drop];omega)
 rw [e2,e3,XaL (by omega),XvY (by rw [List.length_take,List.length_drop];omega),Option.bind_some,hq,XaL (by omega),Option.bind_some]
 have hput:Xam (wI .u64 v) 4=some (be v.toNat 4):=by
  rw [XpZ (by omega) (by omega),Xdq (by omega)]
  rw [show Xhd v 4=be v.toNat 4 from Xgy (k:=4) (by omega)]
 have e4:wI .i64 (wI .i64 (20+(Xhf s:Int))+(off:Int))=((20+Xhf s+off:Nat):Int):=by
  rw [XcC (n:=20+(Xhf s:Int)) (by omega) (by omega),XcC (by omega) (by omega)];omega
 simp only []
 rw [hput,Option.bind_some,e4,show (16:Int)=((16:Nat):Int) from rfl,XrD (by omega) (by rw [Xdy];omega) (by omega) (by omega) (by decide),Option.bind_some,p1,Bool.not_true,cond_false,XaL (by omega),XaL (by rw [List.length_take,hw];omega)]
def XpF (s:List UInt8) (c:Int):List UInt8×Int:=if (Xaq s).2.2.2≠0 then ([],(Xaq s).2.2.2) else if (Xaq s).1.Stamped=false then ([],6) else (XkJ s 0 (XjW (Xaq s).1.Val c),0)
def Xz5 (s:List UInt8) (now:Int):List UInt8×Int:=if (Xaq s).2.2.2≠0 then ([],(Xaq s).2.2.2) else if (Xaq s).1.Stamped=false then ([],6) else (XkJ s 4 (Xhp now (Xaq s).1.Echo),0)
theorem XmI {s:List UInt8} (h:(Xaq s).2.2.2=0) (hs:(Xaq s).1.Stamped=true):(0≤(Xaq s).1.Val∧(Xaq s).1.Val<4294967296)∧0≤(Xaq s).1.Echo∧(Xaq s).1.Echo<4294967296:=by
 obtain ⟨k1,k2,k3,k4,k5,k6,k7⟩:=XdZ h hs
 have hq:(Xeh (Xfm (Xag s).body (Xag s).src (Xag s).dst).1.Options).2.2=(Xhf s:Int):=by unfold Xhf;omega
 obtain ⟨_,t2,t3,hB⟩:=Xh3 (b':=(Xag s).body) (p:=Xhf s) h hs hq (.inl rfl) rfl (fun _ _ _ _=>rfl) rfl
 rw [t2,t3]
 exact ⟨XdE _ _ _ 4294967296 (by decide),XdE _ _ _ 4294967296 (by decide)⟩
theorem XCA {s:List UInt8} {c:Int} (hl:s.length<900) (hc:0≤c∧c<65536):Xbs s c=some (XpF s c):=by
 unfold Xbs XgM XpF
 rw [XoF (by omega),Option.bind_some]
 by_cases h:(Xaq s).2.2.2=0
 ·rw [if_neg (by simpa using h),show ((Xaq s).2.2.2 !=0)=false by simpa using h,cond_false]
  cases hs:(Xaq s).1.Stamped
  ·rfl
  ·rw [if_neg (by decide)]
   obtain ⟨r1,_⟩:=XmI h hs
   simp only [Bool.not_true,cond_false,Xuw hc]
   exact Xrw (off:=0) hl (.inl rfl) h hs (by unfold XjW;omega)
 ·rw [if_pos h,show ((Xaq s).2.2.2 !=0)=true by simpa using h];rfl
theorem Xvq {s:List UInt8} {now:Int} (hl:s.length<900):Xc9 s now=some (Xz5 s now):=by
 unfold Xc9 XhI Xz5
 rw [XoF (by omega),Option.bind_some]
 by_cases h:(Xaq s).2.2.2=0
 ·rw [if_neg (by simpa using h),show ((Xaq s).2.2.2 !=0)=false by simpa using h,cond_false]
  cases hs:(Xaq s).1.Stamped
  ·rfl
  ·rw [if_neg (by decide)]
   simp only [Bool.not_true,cond_false,XvK]
   exact Xrw (off:=4) hl (.inr rfl) h hs (by unfold Xhp;omega)
 ·rw [if_pos h,show ((Xaq s).2.2.2 !=0)=true by simpa using h];rfl
theorem v2_nz {b:List UInt8} {p:Nat} (h:v2 b p≠0):Xdp b≠0:=fun e=>by
 have ha:=Xlx b e
 apply h
 unfold v2
 have hz:∀ l:List UInt8,XHu l=true→Xdf l=0:=fun l=>by
  induction l with
  | nil=>intro _;rfl
  | cons x l ih=>
    intro hl
    simp only [XHu,List.all_cons,Bool.and_eq_true,beq_iff_eq] at hl
    rw [XeE,ih hl.2,hl.1];simp
 rw [hz]
 ·rfl
 ·simp only [XHu,List.all_eq_true,beq_iff_eq] at ha ⊢
  intro x hx
  exact ha x (List.mem_of_mem_drop (List.mem_of_mem_take hx))
theorem Xo4 {B C:List UInt8} {src dst:Xab} (h:(Xfj B src dst).2.2=0) (hw:(Xfj B src dst).2.1.length+8=B.length) (hl:C.length=B.length) (hd:∀ k,k<6→C[k]?=B[k]?)
 (hc:(v2 B 6=0∧v2 C 6=0)∨(v2 B 6≠0∧v2 C 6≠0∧Xdp C%65535=Xdp B%65535)) :
 Xfj B src dst=(⟨v2 B 0,v2 B 2⟩,B.drop 8,0)∧Xfj C src dst=(⟨v2 B 0,v2 B 2⟩,C.drop 8,0)∧8≤B.length:=by
 have e:∀ p,p+2≤6→v2 C p=v2 B p:=fun p hp=>by
  unfold v2;rw [XfU (fun k _ a2=>hd k (by omega))]
 have r4:=XmZ B 4
 unfold Xfj at h hw ⊢
 rw [hl,e 4 (by omega),e 0 (by omega),e 2 (by omega)]
 by_cases g1:B.length<8
 ·rw [if_pos g1] at h;exact absurd h (by decide)
 rw [if_neg g1] at h hw ⊢
 rw [if_neg g1]
 by_cases g2:v2 B 4<8
 ·rw [if_pos g2] at h;exact absurd h (by decide)
 rw [if_neg g2] at h hw ⊢
 rw [if_neg g2]
 by_cases g3:(B.length:Int)<v2 B 4
 ·rw [if_pos g3] at h;exact absurd h (by decide)
 rw [if_neg g3] at h hw ⊢
 rw [if_neg g3]
 by_cases g4:Xlw src dst 17 (v2 B 4)=[]
 ·rw [if_pos g4] at h;exact absurd h (by decide)
 rw [if_neg g4] at h hw ⊢
 rw [if_neg g4]
 have key:∀ D:List UInt8,D.length=B.length→(v2 B 4).toNat=B.length→(D.drop 8).take ((v2 B 4).toNat - 8)=D.drop 8∧D.take (v2 B 4).toNat=D:=fun D hD h4=>
  ⟨List.take_of_length_le (by rw [List.length_drop];omega),List.take_of_length_le (by omega)⟩
 rcases hc with ⟨c1,c2⟩|⟨c1,c2,c3⟩
 ·rw [if_pos c1] at h hw ⊢
  rw [if_pos c2]
  by_cases g5:src.V6=true
  ·rw [if_pos g5] at h;exact absurd h (by decide)
  rw [if_neg g5] at hw ⊢
  have h4:(v2 B 4).toNat=B.length:=by
   simp only [List.length_take,List.length_drop] at hw;omega
  rw [if_neg g5,(key B rfl h4).1,(key C hl h4).1]
  exact ⟨rfl,rfl,by omega⟩
 ·rw [if_neg c1] at h hw ⊢
  rw [if_neg c2]
  by_cases g5:norm (Xdp (Xlw src dst 17 (v2 B 4)++B.take (v2 B 4).toNat))≠65535
  ·rw [if_pos g5] at h;exact absurd h (by decide)
  rw [if_neg g5] at hw ⊢
  have h4:(v2 B 4).toNat=B.length:=by
   simp only [List.length_take,List.length_drop] at hw;omega
  rw [(key B rfl h4).2] at g5
  rw [(key C hl h4).2,(key B rfl h4).1,(key C hl h4).1]
  have pe:=Xpy src dst 17 (v2 B 4)
  rw [Xex _ _ pe] at g5 ⊢
  have:=Xit (Xdp (Xlw src dst 17 (v2 B 4))+Xdp B)
  have nz:=v2_nz c2
  rw [if_neg (by rw [XkF (by omega) (by omega)];simp)]
  exact ⟨rfl,rfl,by omega⟩
theorem XnP {s t:List UInt8} {p:Nat} (h:t[p]?=s[p]?):b1 t p=b1 s p:=by
 unfold b1
 have:=XfU (s:=s) (s':=t) (f:=p) (m:=1) (fun k a1 a2=>by
  have e:k=p:=by omega
  rw [e];exact h)
 rw [this]
theorem Xpx {l m:List UInt8} (h:(XeW l).2=0) (hlg:(XeW l).1.Long=true) (h8:(XeW l).1.SCID.length=8) (hl:m.length=l.length) (hd:∀ k,k<7+(XeW l).1.DCID.length∨15+(XeW l).1.DCID.length≤k→m[k]?=l[k]?) :
 (XeW m).2=0∧(XeW m).1.Long=true∧(XeW m).1.DCID=(XeW l).1.DCID∧(XeW m).1.SCID=(m.drop (7+(XeW l).1.DCID.length)).take 8∧15+(XeW l).1.DCID.length≤l.length∧(XeW l).1.DCID.length≤20:=by
 unfold XeW at h hlg h8 hd
 by_cases g1:l=[]
 ·rw [if_pos g1] at h;exact absurd h (by decide)
 rw [if_neg g1] at h hlg h8 hd
 by_cases g2:b1 l 0/64%2=0
 ·rw [if_pos g2] at h;exact absurd h (by decide)
 rw [if_neg g2] at h hlg h8 hd
 by_cases g3:b1 l 0<128
 ·rw [if_pos g3] at h hlg
  split at hlg
  ·exact absurd hlg (by decide)
  ·exact absurd hlg (by simp)
 rw [if_neg g3] at h hlg h8 hd
 by_cases g4:l.length<5
 ·rw [if_pos g4] at h;exact absurd h (by decide)
 rw [if_neg g4] at h hlg h8 hd
 by_cases g5:(idS l 5).2.1≠0
 ·rw [if_pos g5] at h;exact absurd h g5
 rw [if_neg g5] at h hlg h8 hd
 by_cases g6:(idS l (idS l 5).2.2).2.1≠0
 ·rw [if_pos g6] at h;exact absurd h g6
 rw [if_neg g6] at h8 hd
 simp only at h8 hd
 have eL:(XeW l).1.DCID=(idS l 5).1:=by
  unfold XeW;rw [if_neg g1,if_neg g2,if_neg g3,if_neg g4,if_neg g5,if_neg g6]
 rw [eL]
 have f1:idS l 5=((l.drop 6).take (b1 l 5),0,6+b1 l 5)∧6+b1 l 5≤l.length∧b1 l 5≤20:=by
  unfold idS at g5 ⊢
  by_cases q1:l.length≤5
  ·rw [if_pos q1] at g5;exact absurd g5 (by decide)
  rw [if_neg q1] at g5 ⊢
  by_cases q2:20<b1 l 5
  ·rw [if_pos q2] at g5;exact absurd g5 (by decide)
  rw [if_neg q2] at g5 ⊢
  by_cases q3:l.length<5+1+b1 l 5
  ·rw [if_pos q3] at g5;exact absurd g5 (by decide)
  rw [if_neg q3]
  exact ⟨rfl,by omega,by omega⟩
 obtain ⟨f1,f2,f3⟩:=f1
 rw [f1] at g6 h8 hd ⊢
 simp only at g6 h8 hd ⊢
 have dl:((l.drop 6).take (b1 l 5)).length=b1 l 5:=by rw [List.length_take,List.length_drop];omega
 rw [dl] at hd ⊢
 generalize hD:b1 l 5=D at *
 have s1:idS l (6+D)=((l.drop (6+D+1)).take (b1 l (6+D)),0,6+D+1+b1 l (6+D))∧6+D+1+b1 l (6+D)≤l.length∧b1 l (6+D)≤20:=by
  unfold idS at g6 ⊢
  by_cases q1:l.length≤6+D
  ·rw [if_pos q1] at g6;exact absurd g6 (by simp)
  rw [if_neg q1] at g6 ⊢
  by_cases q2:20<b1 l (6+D)
  ·rw [if_pos q2] at g6;exact absurd g6 (by simp)
  rw [if_neg q2] at g6 ⊢
  by_cases q3:l.length<6+D+1+b1 l (6+D)
  ·rw [if_pos q3] at g6;exact absurd g6 (by simp)
  rw [if_neg q3]
  exact ⟨rfl,by omega,by omega⟩
 obtain ⟨s1,s2,s3⟩:=s1
 rw [s1] at h8
 simp only [List.length_take,List.length_drop] at h8
 have s4:b1 l (6+D)=8:=by omega
 have m0:b1 m 0=b1 l 0:=XnP (hd 0 (by omega))
 have m5:b1 m 5=D:=by rw [XnP (hd 5 (by omega)),hD]
 have m6:b1 m (6+D)=8:=by rw [XnP (hd (6+D) (by omega)),s4]
 have i5:idS m 5=((l.drop 6).take D,0,6+D):=by
  unfold idS
  rw [m5,hl,if_neg (by omega),if_neg (by omega),if_neg (by omega),XfU (s:=l) (fun k a1 a2=>hd k (by omega))]
 have i6:idS m (6+D)=((m.drop (6+D+1)).take 8,0,6+D+1+8):=by
  unfold idS
  rw [m6,hl,if_neg (by omega),if_neg (by omega),if_neg (by omega)]
 unfold XeW
 rw [if_neg (by intro e;rw [e] at hl;simp only [List.length_nil] at hl;omega),m0,if_neg g2,if_neg g3,if_neg (by omega),i5]
 simp only []
 rw [if_neg (by decide),i6]
 simp only []
 rw [if_neg (by decide),show 6+D+1=7+D by omega]
 exact ⟨rfl,rfl,rfl,rfl,by omega,f3⟩
def c36 (B b:List UInt8):Int:=if v2 B 6=0 then 0 else if v2 b 6=0 then 65535 else v2 b 6
def Xq6 (s:List UInt8) (i:Int):List UInt8:=
 let B:=(Xag s).body
 let b:=(Xg8 B (15+(XeW (B.drop 8)).1.DCID.length) (be i.toNat 8) 6).1
 s.take (Xag s).size++sset b 6 2 (c36 B b).toNat
theorem XpD {s:List UInt8} {i:Int} (h:(Xaq s).2.2.2=0) (hp:(Xaq s).1.Tuple.Proto=17) (q0:(XeW (s.drop (Xaq s).2.2.1)).2=0) (q1:(XeW (s.drop (Xaq s).2.2.1)).1.Long=true) (q8:(XeW (s.drop (Xaq s).2.2.1)).1.SCID.length=8) :
 (Xag s).err=0∧(Xaq s).2.1=(Xag s).size∧(Xaq s).2.2.1=(Xag s).size+8∧(Xag s).body=s.drop (Xag s).size∧15+(XeW (s.drop (Xaq s).2.2.1)).1.DCID.length+8≤(Xag s).body.length∧(XeW (s.drop (Xaq s).2.2.1)).1.DCID.length≤20 ∧
 s.drop (Xaq s).2.2.1=(Xag s).body.drop 8 ∧
 (Xg8 (Xag s).body (15+(XeW (s.drop (Xaq s).2.2.1)).1.DCID.length) (be i.toNat 8) 6).2=true∧(Xg8 (Xag s).body (15+(XeW (s.drop (Xaq s).2.2.1)).1.DCID.length) (be i.toNat 8) 6).1.length=(Xag s).body.length ∧
 (Xq6 s i).length=s.length∧Xaq (Xq6 s i)=Xaq s ∧
 (∀ k,(k<(Xag s).size+15+(XeW (s.drop (Xaq s).2.2.1)).1.DCID.length∨(Xag s).size+15+(XeW (s.drop (Xaq s).2.2.1)).1.DCID.length+8≤k)→(k<(Xag s).size+6∨(Xag s).size+6+2≤k)→(Xq6 s i)[k]?=s[k]?) ∧
 (XeW ((Xq6 s i).drop (Xaq s).2.2.1)).2=0∧(XeW ((Xq6 s i).drop (Xaq s).2.2.1)).1.SCID=be i.toNat 8:=by
 have hT:9000<s.length∨s=[]∨(Xag s).err≠0∨(Xez (Xag s) s.length).2.2≠0∨(¬ 9000<s.length∧s≠[]∧(Xag s).err=0∧(Xez (Xag s) s.length).2.2=0):=by
  by_cases a1:9000<s.length
  ·exact .inl a1
  by_cases a2:s=[]
  ·exact .inr (.inl a2)
  by_cases a3:(Xag s).err=0
  ·by_cases a4:(Xez (Xag s) s.length).2.2=0
   ·exact .inr (.inr (.inr (.inr ⟨a1,a2,a3,a4⟩)))
   ·exact .inr (.inr (.inr (.inl a4)))
  ·exact .inr (.inr (.inl a3))
 have eT:¬ 9000<s.length∧s≠[]∧(Xag s).err=0∧(Xez (Xag s) s.length).2.2=0:=by
  unfold Xaq at h
  rcases hT with a|a|a|a|a
  ·rw [if_pos a] at h;exact absurd h (by decide)
  ·by_cases a1:9000<s.length
   ·rw [if_pos a1] at h;exact absurd h (by decide)
   ·rw [if_neg a1,if_pos a] at h;exact absurd h (by decide)
  ·by_cases a1:9000<s.length
   ·rw [if_pos a1] at h;exact absurd h (by decide)
   by_cases a2:s=[]
   ·rw [if_neg a1,if_pos a2] at h;exact absurd h (by decide)
   ·rw [if_neg a1,if_neg a2,if_pos a] at h;exact absurd h a
  ·by_cases a1:9000<s.length
   ·rw [if_pos a1] at h;exact absurd h (by decide)
   by_cases a2:s=[]
   ·rw [if_neg a1,if_pos a2] at h;exact absurd h (by decide)
   by_cases a3:(Xag s).err≠0
   ·rw [if_neg a1,if_neg a2,if_pos a3] at h;exact absurd h a3
   ·rw [if_neg a1,if_neg a2,if_neg a3,if_pos a] at h;exact absurd h a
  ·exact a
 obtain ⟨n1,n2,n3,n4⟩:=eT
 have tE:Xaq s=((Xez (Xag s) s.length).1,s.length - (Xag s).body.length,s.length - (Xez (Xag s) s.length).2.1,0):=by
  unfold Xaq;rw [if_neg n1,if_neg n2,if_neg (by omega),if_neg (by omega)]
 have hbl:=XdT n3
 obtain ⟨_,sw2⟩:=Xf6 (b:=(Xag s).body) n3 rfl
 have hpr:(Xag s).proto=17:=by
  rw [tE] at hp
  simp only at hp
  unfold Xez at hp n4
  by_cases c1:(Xag s).proto=6
  ·rw [if_pos c1] at hp n4
   by_cases c2:(Xfm (Xag s).body (Xag s).src (Xag s).dst).2.2≠0
   ·rw [if_pos c2] at n4;exact absurd n4 c2
   ·rw [if_neg c2] at hp;simp only at hp;omega
  ·rw [if_neg c1] at n4
   by_cases c2:(Xag s).proto=17
   ·exact c2
   ·rw [if_neg c2] at n4;exact absurd n4 (by decide)
 have in17:∀ o:O11,∀ n:Nat,o.proto=17→Xez o n=if (Xfj o.body o.src o.dst).2.2≠0 then (zP,0,(Xfj o.body o.src o.dst).2.2) else if (Xfj o.body o.src o.dst).2.1.length+8≠o.body.length then (zP,0,5) else
  (⟨⟨o.proto,o.src,o.dst,(Xfj o.body o.src o.dst).1.SPort,(Xfj o.body o.src o.dst).1.DPort⟩,0,false,0,0,(Xsk (Xfj o.body o.src o.dst).2.1).1,(Xsk (Xfj o.body o.src o.dst).2.1).2,n⟩,(Xfj o.body o.src o.dst).2.1.length,0):=fun o n e=>by
  unfold Xez;rw [if_neg (by omega),if_pos e]
 rw [in17 _ _ hpr] at n4
 have g8:(Xfj (Xag s).body (Xag s).src (Xag s).dst).2.2=0∧(Xfj (Xag s).body (Xag s).src (Xag s).dst).2.1.length+8=(Xag s).body.length:=by
  by_cases c1:(Xfj (Xag s).body (Xag s).src (Xag s).dst).2.2≠0
  ·rw [if_pos c1] at n4;exact absurd n4 c1
  rw [if_neg c1] at n4
  by_cases c2:(Xfj (Xag s).body (Xag s).src (Xag s).dst).2.1.length+8≠(Xag s).body.length
  ·rw [if_pos c2] at n4;exact absurd n4 (by decide)
  ·exact ⟨by omega,by omega⟩
 rw [in17 _ _ hpr,if_neg (by omega),if_neg (by omega)] at tE
 have eB:∀ C:List UInt8,C=(Xag s).body→(v2 (Xag s).body 6=0∧v2 C 6=0)∨(v2 (Xag s).body 6≠0∧v2 C 6≠0∧Xdp C%65535=Xdp (Xag s).body%65535):=fun C e=>by
  subst e
  by_cases c:v2 (Xag s).body 6=0
  ·exact .inl ⟨c,c⟩
  ·exact .inr ⟨c,c,rfl⟩
 obtain ⟨gB,_,b8⟩:=Xo4 (C:=(Xag s).body) g8.1 g8.2 rfl (fun _ _=>rfl) (eB _ rfl)
 rw [gB] at tE
 simp only at tE
 have w2:(Xaq s).2.1=(Xag s).size:=by rw [tE];simp only;omega
 have w3:(Xaq s).2.2.1=(Xag s).size+8:=by rw [tE];simp only [List.length_drop];omega
 have eD:s.drop (Xaq s).2.2.1=(Xag s).body.drop 8:=by rw [w3,sw2,List.drop_drop]
 rw [eD] at q0 q1 q8 ⊢
 obtain ⟨_,_,_,_,p5,p6⟩:=Xpx (m:=(Xag s).body.drop 8) q0 q1 q8 rfl (fun _ _=>rfl)
 rw [List.length_drop] at p5
 unfold Xq6
 simp only []
 generalize hB:(Xag s).body=B at *
 generalize hD:(XeW (B.drop 8)).1.DCID.length=D at *
 obtain ⟨b,e1,e2,e3,e4,e5⟩:=Xi0 (B:=B) (w:=be i.toNat 8) (i:=15+D) (j:=6) (by intro e;have:=congrArg List.length e;rw [Xdy] at this;exact absurd this (by decide)) (by rw [Xdy];omega) (by omega) (by decide) (.inl (by omega))
 rw [Xdy] at e4 e5
 rw [e1]
 simp only []
 have hcr:0≤c36 B b∧c36 B b<65536:=by
  have:=XmZ b 6
  unfold c36;split
  ·omega
  split<;>omega
 have hsl:(sset b 6 2 (c36 B b).toNat).length=B.length:=by rw [Xou (by omega),e2]
 have hs6:v2 (sset b 6 2 (c36 B b).toNat) 6=c36 B b:=by
  unfold v2
  rw [XsU (by omega),Xkh (by simp only [Nat.reducePow];omega)];omega
 have hsw:Xdp (sset b 6 2 (c36 B b).toNat)+(v2 b 6).toNat=Xdp b+(c36 B b).toNat:=by
  have:=XpN (s:=b) (p:=6) (k:=2) (n:=(c36 B b).toNat) (by omega) (by decide) (by decide)
  rw [Xl6 (by omega)] at this
  have e:Xdp ((b.drop 6).take 2)=(v2 b 6).toNat:=by
   have hl2:((b.drop 6).take 2).length=2:=by rw [List.length_take,List.length_drop];omega
   unfold v2
   have hb:=XuU ((b.drop 6).take 2)
   rw [hl2] at hb
   have:=XcU (l:=b.drop 6) (k:=2) 65536 (by decide)
   rw [←hb,Xl6 this,Xkh (by simpa using this)];omega
  rw [e] at this
  exact this
 have hsg:∀ k,k≠6→k≠7→(sset b 6 2 (c36 B b).toNat)[k]?=b[k]?:=fun k a1 a2=>by
  rw [XlT (by omega)]
  by_cases c1:k<6
  ·rw [if_pos c1]
  ·rw [if_neg c1,if_neg (by omega)]
 have hcase:(v2 B 6=0∧v2 (sset b 6 2 (c36 B b).toNat) 6=0)∨(v2 B 6≠0∧v2 (sset b 6 2 (c36 B b).toNat) 6≠0∧Xdp (sset b 6 2 (c36 B b).toNat)%65535=Xdp B%65535):=by
  have r6:=XmZ b 6
  rw [hs6]
  by_cases c:v2 B 6=0
  ·exact .inl ⟨c,by unfold c36;rw [if_pos c]⟩
  ·refine .inr ⟨c,?_,?_⟩
   ·unfold c36;rw [if_neg c];split<;>omega
   ·rw [←e3]
    unfold c36 at hsw ⊢
    rw [if_neg c] at hsw ⊢
    by_cases c2:v2 b 6=0
    ·rw [if_pos c2] at hsw ⊢
     rw [c2] at hsw
     simp only [show (65535:Int).toNat=65535 from rfl,show (0:Int).toNat=0 from rfl] at hsw ⊢
     omega
    ·rw [if_neg c2] at hsw ⊢
     omega
 generalize hC:sset b 6 2 (c36 B b).toNat=C at *
 obtain ⟨_,gC,_⟩:=Xo4 (C:=C) g8.1 g8.2 hsl (fun k hk=>by rw [hsg k (by omega) (by omega),e4 k (by omega) (by omega) (by omega)]) hcase
 obtain ⟨z1,z2,z3,z4,_,_⟩:=Xpx (m:=C.drop 8) q0 q1 q8 (by rw [List.length_drop,List.length_drop,hsl]) (fun k hk=>by
  rw [hD] at hk
  rw [List.getElem?_drop,List.getElem?_drop,hsg _ (by omega) (by omega),e4 _ (by omega) (by omega) (by omega)])
 rw [hD] at z4
 obtain ⟨t1,_⟩:=Xf6 (b:=C) n3 (by rw [hB];exact hsl)
 have tl:(s.take (Xag s).size++C).length=s.length:=by rw [List.length_append,List.length_take];omega
 have hdr:(s.take (Xag s).size++C).drop (Xag s).size=C:=List.drop_left' (by rw [List.length_take];omega)
 have eDC:(s.take (Xag s).size++C).drop (Xaq s).2.2.1=C.drop 8:=by rw [w3,←List.drop_drop,hdr]
 rw [eDC]
 refine ⟨n3,w2,w3,sw2,by omega,p6,trivial,trivial,e2,tl,?_,fun k a1 a2=>?_,z1,?_⟩
 ·rw [tE]
  unfold Xaq
  rw [tl,if_neg n1,if_neg (by intro e;rw [e] at tl;exact n2 (List.length_eq_zero_iff.1 (by simpa using tl.symm))),t1]
  simp only []
  have gg:Xez ⟨(Xag s).src,(Xag s).dst,(Xag s).proto,(Xag s).size,C,0⟩ s.length=(⟨⟨(Xag s).proto,(Xag s).src,(Xag s).dst,v2 B 0,v2 B 2⟩,0,false,0,0,(Xsk (C.drop 8)).1,(Xsk (C.drop 8)).2,(s.length:Int)⟩,(C.drop 8).length,0):=by
   rw [in17 ⟨(Xag s).src,(Xag s).dst,(Xag s).proto,(Xag s).size,C,0⟩ _ hpr]
   simp only []
   rw [gC]
   simp only []
   rw [if_neg (show ¬ (0:Int)≠0 by simp),if_neg (by rw [List.length_drop];omega)]
  rw [if_neg (show ¬ (0:Int)≠0 by simp),gg]
  simp only []
  rw [if_neg (show ¬ (0:Int)≠0 by simp)]
  have eq:Xsk (C.drop 8)=Xsk (B.drop 8):=by unfold Xsk;rw [z1,q0,z2,q1,z3]
  rw [eq,hsl]
  simp only [List.length_drop,hsl]
 ·rw [List.getElem?_append,List.length_take]
  by_cases c:k<(Xag s).size
  ·rw [if_pos (by omega),List.getElem?_take_of_lt c]
  ·rw [if_neg (by omega),show min (Xag s).size s.length=(Xag s).size by omega,hsg _ (by omega) (by omega),e4 _ (by omega) (by omega) (by omega),sw2,List.getElem?_drop]
   congr 1;omega
 ·rw [z4]
  apply List.ext_getElem?
  intro x
  rw [List.getElem?_take]
  split
  ·rw [List.getElem?_drop,List.getElem?_drop,hsg _ (by omega) (by omega),e5 _ (by omega) (by omega)];congr 1;omega
  ·rw [List.getElem?_eq_none (by rw [Xdy];omega)]
end Go.Vm.Code
namespace Go.Vm.Code
open Go Go.Vm Go.Proofs
set_option maxRecDepth 100000
set_option maxHeartbeats 4000000
set_option linter.unusedVariables false
def XfO (Xba:(List UInt8)→Int→Int→Int→Option (List UInt8)) (Xal:(List UInt8)→Int→Int→Option (Int×Bool)) (Xam:Int→Int→Option (List UInt8)) (XaC:(List UInt8)→Option (Xae×Int)) (Xaz:(List UInt8)→Option (Int×Int×Int)) (XbO:(List UInt8)→Option (XaI×Int)) (XaF:(List UInt8)→Int→(List UInt8)→Int→Option ((List UInt8)×Bool)) (s:List UInt8) (ida1:Int):Option ((List UInt8)×Int):=
 (XaC s).bind fun p=>
 cond (p.2 !=0)
  (
  some (([],p.2)))
  (
  (Xaz s).bind fun w=>
  XaE (decide ((0:Int)≤w.2.1∧w.2.1≤(s.length:Int))) <|
  let t:=(s.drop w.2.1.toNat).take (s.length - w.2.1.toNat)
  (XbO t).bind fun xg=>
  cond (p.1.Tuple.Proto !=17)
   (
   some (([],6)))
   (
   cond (xg.2 !=0)
    (
    some (([],6)))
    (
    cond (!xg.1.Long)
     (
     some (([],6)))
     (
     cond ((xg.1.SCID.length:Int) !=8)
      (
      some (([],3)))
      (
      (Xal s (wI .i64 (w.1+6)) 2).bind fun xg1=>
      XaE (decide ((0:Int)≤w.1∧w.1≤(s.length:Int))) <|
      let t1:=(s.drop w.1.toNat).take (s.length - w.1.toNat)
      (Xam ida1 8).bind fun p1=>
      (XaF t1 (wI .i64 (15+(xg.1.DCID.length:Int))) p1 6).bind fun p2=>
      cond (!p2.2)
       (
       some (([],3)))
       (
       (Xal p2.1 6 2).bind fun xg2=>
       cond (xg1.1==0)
        (
        XaE (decide ((0:Int)≤w.1∧w.1≤(s.length:Int))) <|
        (Xba p2.1 6 2 0).bind fun s1=>
        XaE (decide ((s.take w.1.toNat).length+s1.length<2^63)) <|
        some (((s.take w.1.toNat)++s1,0)))
        (
        cond (xg2.1==0)
         (
         XaE (decide ((0:Int)≤w.1∧w.1≤(s.length:Int))) <|
         (Xba p2.1 6 2 65535).bind fun s2=>
         XaE (decide ((s.take w.1.toNat).length+s2.length<2^63)) <|
         some (((s.take w.1.toNat)++s2,0)))
         (
         XaE (decide ((0:Int)≤w.1∧w.1≤(s.length:Int))) <|
         (Xba p2.1 6 2 xg2.1).bind fun s3=>
         XaE (decide ((s.take w.1.toNat).length+s3.length<2^63)) <|
         some (((s.take w.1.toNat)++s3,0))))))))))
def rx19 (x:(List UInt8)×Int):Xcw:=⟨.tuple ⟨[.string ⟨⟨x.1⟩⟩,.int .i64 x.2]⟩,[],[]⟩
def r19 (g:(List UInt8)→Int→Option ((List UInt8)×Int)):Dec:=dV asS fun (y0:List UInt8)=>dV (asI .u64) fun (y1:Int)=>Xdd (ofG (g y0 y1) rx19)
theorem r19_c {g:(List UInt8)→Int→Option ((List UInt8)×Int)} {y0:List UInt8} {y1:Int} {x:(List UInt8)×Int} (hx:g y0 y1=some x):r19 g [.string ⟨⟨y0⟩⟩,.int .u64 y1] []=some (rx19 x):=(XaX (XcI)).trans ((XaX (Xcv _)).trans (Xa3 hx))
def s19 (g:(List UInt8)→Int→Option ((List UInt8)×Int)):Xbu:=⟨[.v,.v],r19 g⟩
theorem Xr9 {g:(List UInt8)→Int→Option ((List UInt8)×Int)} {y0:List UInt8} {y1:Int} {x:(List UInt8)×Int} (hx:g y0 y1=some x):(s19 g).run [.string ⟨⟨y0⟩⟩,.int .u64 y1] []=some (rx19 x):=r19_c hx
abbrev Xzt (Xba:(List UInt8)→Int→Int→Int→Option (List UInt8)) (Xal:(List UInt8)→Int→Int→Option (Int×Bool)) (Xam:Int→Int→Option (List UInt8)) (XaC:(List UInt8)→Option (Xae×Int)) (Xaz:(List UInt8)→Option (Int×Int×Int)) (XbO:(List UInt8)→Option (XaI×Int)) (XaF:(List UInt8)→Int→(List UInt8)→Int→Option ((List UInt8)×Bool)):List (Nat×Xbu):=[(43,s43 Xba),(40,s40 Xal),(42,s42 Xam),(22,s22 XaC),(38,s38 Xaz),(39,s39 XbO),(41,s41 XaF)]
theorem XFy (Xba:(List UInt8)→Int→Int→Int→Option (List UInt8)) (Xal:(List UInt8)→Int→Int→Option (Int×Bool)) (Xam:Int→Int→Option (List UInt8)) (XaC:(List UInt8)→Option (Xae×Int)) (Xaz:(List UInt8)→Option (Int×Int×Int)) (XbO:(List UInt8)→Option (XaI×Int)) (XaF:(List UInt8)→Int→(List UInt8)→Int→Option ((List UInt8)×Bool)) (hS:Xah Tryz.prog (Xav (Xzt Xba Xal Xam XaC Xaz XbO XaF))) (s:List UInt8) (ida1:Int) (res:(List UInt8)×Int) (h:XfO Xba Xal Xam XaC Xaz XbO XaF s ida1=some res) :
 XaK Tryz.prog 19 0 ⟨⟨19,98,[(0,.string ⟨⟨s⟩⟩),(1,.int .u64 ida1)],[.code XAu],[],false,none⟩,[],[],0⟩ (fun v H _=>Res 0 (rx19 res) v H):=by
 unfold XfO at h
 refine Xbi Xan hS true 3000 ?_
 conv=>whnf
 replace h:=Xai.elim h;obtain ⟨p,hy,h⟩:=h
 refine XaJ.p (XvN hy) ?_
 conv=>whnf
 refine br.h h (by rfl) ?_ ?_
 ·clear h;intro hb h;conv=>whnf
  all_goals (cases h;exact Res.y)
 clear h;intro hb h;conv=>whnf
 replace h:=Xai.elim h;obtain ⟨w,hy,h⟩:=h
 refine XaJ.p (Xwh hy) ?_
 conv=>whnf
 replace h:=XaE.elim h;obtain ⟨hb,h⟩:=h
 try (refine req.intro hb ?_;conv=>whnf)
 let t:List UInt8:=(s.drop w.2.1.toNat).take (s.length - w.2.1.toNat)
 replace h:=Xai.elim h;obtain ⟨xg,hy,h⟩:=h
 refine XaJ.p (XAj hy) ?_
 conv=>whnf
 refine br.h h (by rfl) ?_ ?_
 ·clear h;intro hb h;conv=>whnf
  all_goals (cases h;exact Res.y)
 clear h;intro hb h;conv=>whnf
 refine br.h h (by rfl) ?_ ?_
 ·clear h;intro hb h;conv=>whnf
  all_goals (cases h;exact Res.y)
 clear h;intro hb h;conv=>whnf
 refine br.h h (by rfl) ?_ ?_
 ·clear h;intro hb h;conv=>whnf
  all_goals (cases h;exact Res.y)
 clear h;intro hb h;conv=>whnf
 refine br.h h (by rfl) ?_ ?_
 ·clear h;intro hb h;conv=>whnf
  all_goals (cases h;exact Res.y)
 clear h;intro hb h;conv=>whnf
 replace h:=Xai.elim h;obtain ⟨xg1,hy,h⟩:=h
 refine XaJ.p (XhP hy) ?_
 conv=>whnf
 replace h:=XaE.elim h;obtain ⟨hb,h⟩:=h
 try (refine req.intro hb ?_;conv=>whnf)
 let t1:List UInt8:=(s.drop w.1.toNat).take (s.length - w.1.toNat)
 replace h:=Xai.elim h;obtain ⟨p1,hy,h⟩:=h
 refine XaJ.p (XkV hy) ?_
 conv=>whnf
 replace h:=Xai.elim h;obtain ⟨p2,hy,h⟩:=h
 refine XaJ.p (XvH hy) ?_
 conv=>whnf
 refine br.h h (by rfl) ?_ ?_
 ·clear h;intro hb h;conv=>whnf
  all_goals (cases h;exact Res.y)
 clear h;intro hb h;conv=>whnf
 replace h:=Xai.elim h;obtain ⟨xg2,hy,h⟩:=h
 refine XaJ.p (XhP hy) ?_
 conv=>whnf
 refine br.h h (by rfl) ?_ ?_
 ·clear h;intro hb h;conv=>whnf
  replace h:=XaE.elim h;obtain ⟨hb,h⟩:=h
  try (refine req.intro hb ?_;conv=>whnf)
  replace h:=Xai.elim h;obtain ⟨s1,hy,h⟩:=h
  refine XaJ.p (XoV hy) ?_
  conv=>whnf
  replace h:=XaE.elim h;obtain ⟨hb,h⟩:=h
  try (refine req.intro hb ?_;conv=>whnf)
  all_goals (cases h;exact Res.y)
 clear h;intro hb h;conv=>whnf
 refine br.h h (by rfl) ?_ ?_
 ·clear h;intro hb h;conv=>whnf
  replace h:=XaE.elim h;obtain ⟨hb,h⟩:=h
  try (refine req.intro hb ?_;conv=>whnf)
  replace h:=Xai.elim h;obtain ⟨s2,hy,h⟩:=h
  refine XaJ.p (XoV hy) ?_
  conv=>whnf
  replace h:=XaE.elim h;obtain ⟨hb,h⟩:=h
  try (refine req.intro hb ?_;conv=>whnf)
  all_goals (cases h;exact Res.y)
 clear h;intro hb h;conv=>whnf
 replace h:=XaE.elim h;obtain ⟨hb,h⟩:=h
 try (refine req.intro hb ?_;conv=>whnf)
 replace h:=Xai.elim h;obtain ⟨s3,hy,h⟩:=h
 refine XaJ.p (XoV hy) ?_
 conv=>whnf
 replace h:=XaE.elim h;obtain ⟨hb,h⟩:=h
 try (refine req.intro hb ?_;conv=>whnf)
 all_goals (cases h;exact Res.y)
theorem ok19 (Xba:(List UInt8)→Int→Int→Int→Option (List UInt8)) (Xal:(List UInt8)→Int→Int→Option (Int×Bool)) (Xam:Int→Int→Option (List UInt8)) (XaC:(List UInt8)→Option (Xae×Int)) (Xaz:(List UInt8)→Option (Int×Int×Int)) (XbO:(List UInt8)→Option (XaI×Int)) (XaF:(List UInt8)→Int→(List UInt8)→Int→Option ((List UInt8)×Bool)) (hS:Xah Tryz.prog (Xav (Xzt Xba Xal Xam XaC Xaz XbO XaF))):Xar Tryz.prog 19 (s19 (XfO Xba Xal Xam XaC Xaz XbO XaF)):=by
 refine Xar.Xax Xan (fun ar os r ha hr=>?_) ⟨Tryz.f19,rfl,by decide,rfl⟩
 replace hr:r19 (XfO Xba Xal Xam XaC Xaz XbO XaF) ar (XaH os)=some r:=hr
 unfold r19 at hr
 generalize hc:XaH os=C at hr
 replace hr:=dV.elim hr;obtain ⟨v0,l1,y0,rfl,e0,hr⟩:=hr;obtain rfl:=XbM _ _ e0
 replace hr:=dV.elim hr;obtain ⟨v1,l2,y1,rfl,e1,hr⟩:=hr;obtain rfl:=XbF _ _ _ e1
 replace hr:=Xdw hr;obtain ⟨rfl,rfl,x,h,rfl⟩:=hr
 obtain rfl:=Xat hc
 exact ⟨_,rfl,XFy Xba Xal Xam XaC Xaz XbO XaF hS _ _ x h⟩
def XbT:(List UInt8)→Int→Option ((List UInt8)×Int):=XfO Xba Xal Xam XaC Xaz XbO XaF
theorem lift19:Xar Tryz.prog 19 (s19 XbT):=ok19 Xba Xal Xam XaC Xaz XbO XaF (Xah.Xa0 ⟨XzQ,XnH,Xnw,Xwe,XtH,XzY,Xwf,trivial⟩)
end Go.Vm.Code
namespace Go.Vm.Code
open Go Go.Vm
def name36 (s:List UInt8) (i:Int):List UInt8×Int:=
 if (Xaq s).2.2.2≠0 then ([],(Xaq s).2.2.2) else if (Xaq s).1.Tuple.Proto≠17 then ([],6) else if (XeW (s.drop (Xaq s).2.2.1)).2≠0 then ([],6) else
  if (XeW (s.drop (Xaq s).2.2.1)).1.Long=false then ([],6) else if (XeW (s.drop (Xaq s).2.2.1)).1.SCID.length≠8 then ([],3) else (Xq6 s i,0)
theorem XoC {s:List UInt8} {i:Int} (hl:s.length<900) (h0:0≤i):XbT s i=some (name36 s i):=by
 unfold XbT XfO name36
 rw [XoF (by omega),Option.bind_some]
 simp only []
 by_cases h:(Xaq s).2.2.2=0
 ·have hle:=(XmE s).2
  have et:(s.drop (Xaq s).2.2.1).take (s.length - (Xaq s).2.2.1)=s.drop (Xaq s).2.2.1:=List.take_of_length_le (by rw [List.length_drop];omega)
  rw [show ((Xaq s).2.2.2 !=0)=false by simpa using h,cond_false,if_neg (by omega),XqW (by omega),Option.bind_some]
  simp only []
  rw [XaL (by omega),Int.toNat_natCast,et,Xr2 (by rw [List.length_drop];omega),Option.bind_some]
  by_cases hp:(Xaq s).1.Tuple.Proto=17
  ·rw [show ((Xaq s).1.Tuple.Proto !=17)=false by simpa using hp,cond_false,if_neg (by omega)]
   by_cases q0:(XeW (s.drop (Xaq s).2.2.1)).2=0
   ·rw [show ((XeW (s.drop (Xaq s).2.2.1)).2 !=0)=false by simpa using q0,cond_false,if_neg (by omega)]
    cases q1:(XeW (s.drop (Xaq s).2.2.1)).1.Long
    ·rfl
    rw [Bool.not_true,cond_false,if_neg (by decide)]
    by_cases q8:(XeW (s.drop (Xaq s).2.2.1)).1.SCID.length=8
    ·rw [show (((XeW (s.drop (Xaq s).2.2.1)).1.SCID.length:Int) !=8)=false by rw [q8];rfl,cond_false,if_neg (by omega)]
     obtain ⟨n3,w2,w3,sw2,d1,d2,eD,p1,p2,nl,_⟩:=XpD (i:=i) h hp q0 q1 q8
     have hbl:=XdT n3
     rw [w2]
     unfold Xq6
     simp only []
     rw [←eD]
     generalize (XeW (s.drop (Xaq s).2.2.1)).1.DCID.length=D at *
     have eb:(s.drop (Xag s).size).take (s.length - (Xag s).size)=(Xag s).body:=by
      rw [sw2];exact List.take_of_length_le (by rw [List.length_drop];omega)
     have e6:Xal s (wI .i64 (((Xag s).size:Int)+6)) 2=some (v2 (Xag s).body 6,true):=by
      rw [XcC (by omega) (by omega),XcM (by omega),XfE (by omega) (by omega) (by omega) (by omega),show ((((Xag s).size:Int))+6).toNat=(Xag s).size+6 by omega,sw2,XvA];rfl
     have hput:Xam i 8=some (be i.toNat 8):=by
      rw [Xdq h0,show Xhd i 8=be i.toNat 8 from Xgy (k:=8) (by omega)]
     have e15:wI .i64 (15+(D:Int))=((15+D:Nat):Int):=by rw [XcC (by omega) (by omega)];omega
     rw [e6,Option.bind_some,XaL (by omega),Int.toNat_natCast,eb,hput,Option.bind_some,e15]
     simp only []
     rw [show (6:Int)=((6:Nat):Int) from rfl,XrD (by omega) (by rw [Xdy];omega) (by omega) (by omega) (by decide),Option.bind_some,p1,Bool.not_true,cond_false]
     generalize (Xg8 (Xag s).body (15+D) (be i.toNat 8) 6).1=b at *
     have r6:=XmZ b 6
     have g6:Xal b ((6:Nat):Int) 2=some (v2 b 6,true):=by
      rw [XcM (by omega),XfE (by omega) (by omega) (by omega) (by omega)];rfl
     rw [g6,Option.bind_some]
     simp only []
     have fin:∀ c:Int,0≤c→(Xba b ((6:Nat):Int) 2 c)=some (sset b 6 2 c.toNat):=fun c hc=>
      Xrn (k:=2) (by omega) hc (by omega) (by omega) (by omega)
     have sl:∀ c:Int,(s.take (Xag s).size).length+(sset b 6 2 c.toNat).length<2^63:=fun c=>by
      rw [Xou (by omega),List.length_take];omega
     unfold c36
     by_cases c1:v2 (Xag s).body 6=0
     ·rw [show (v2 (Xag s).body 6==0)=true by simpa using c1,cond_true,XaL (by omega),fin 0 (by omega),Option.bind_some,XaL (sl 0),if_pos c1]
     rw [show (v2 (Xag s).body 6==0)=false by simpa using c1,cond_false,if_neg c1]
     by_cases c2:v2 b 6=0
     ·rw [show (v2 b 6==0)=true by simpa using c2,cond_true,XaL (by omega),fin 65535 (by omega),Option.bind_some,XaL (sl 65535),if_pos c2]
     ·rw [show (v2 b 6==0)=false by simpa using c2,cond_false,XaL (by omega),fin _ (by omega),Option.bind_some,XaL (sl _),if_neg c2]
    ·rw [show (((XeW (s.drop (Xaq s).2.2.1)).1.SCID.length:Int) !=8)=true by rw [bne_iff_ne];omega,cond_true,if_pos q8]
   ·rw [show ((XeW (s.drop (Xaq s).2.2.1)).2 !=0)=true by simpa using q0,cond_true,if_pos q0]
  ·rw [show ((Xaq s).1.Tuple.Proto !=17)=true by simpa using hp,cond_true,if_pos hp]
 ·rw [show ((Xaq s).2.2.2 !=0)=true by simpa using h,cond_true,if_pos h]
end Go.Vm.Code
namespace Go.Vm.Code
open Go Go.Vm Go.Proofs
set_option maxRecDepth 100000
set_option maxHeartbeats 4000000
set_option linter.unusedVariables false
def XdY (a:List UInt8) (b:List UInt8) (n:Int) (i:Int):Option (Sum (Int×Int) Int):=
 cond (decide (i<(a.length:Int)))
  (
  cond (decide (i<(b.length:Int)))
   (
   XaE (decide (0≤i)) <|
   (a[i.toNat]?).bind fun (b1:UInt8)=>
   XaE (decide (0≤i)) <|
   (b[i.toNat]?).bind fun (b2:UInt8)=>
   cond ((b1.toNat:Int) !=(b2.toNat:Int))
    (
    some (.inl (wI .i64 (n+1),wI .i64 (i+1))))
    (
    some (.inl (n,wI .i64 (i+1)))))
   (
   some (.inr (n))))
  (
  some (.inr (n)))
def Xfc (a:List UInt8) (b:List UInt8):Option Int:=
 iter (fun st=>XdY a b st.1 st.2) FUEL (0,0)
def XGr (x:Int):Xcw:=⟨.int .i64 x,[],[]⟩
def r17 (g:(List UInt8)→(List UInt8)→Option Int):Dec:=dV asS fun (y0:List UInt8)=>dV asS fun (y1:List UInt8)=>Xdd (ofG (g y0 y1) XGr)
theorem r17_c {g:(List UInt8)→(List UInt8)→Option Int} {y0:List UInt8} {y1:List UInt8} {x:Int} (hx:g y0 y1=some x):r17 g [.string ⟨⟨y0⟩⟩,.string ⟨⟨y1⟩⟩] []=some (XGr x):=(XaX (XcI)).trans ((XaX (XcI)).trans (Xa3 hx))
def s17 (g:(List UInt8)→(List UInt8)→Option Int):Xbu:=⟨[.v,.v],r17 g⟩
theorem Xmk {g:(List UInt8)→(List UInt8)→Option Int} {y0:List UInt8} {y1:List UInt8} {x:Int} (hx:g y0 y1=some x):(s17 g).run [.string ⟨⟨y0⟩⟩,.string ⟨⟨y1⟩⟩] []=some (XGr x):=r17_c hx
abbrev Xv3:List (Nat×Xbu):=[]
def Xjj (a:List UInt8) (b:List UInt8) (n:Int) (i:Int):VM:=
 ⟨⟨17,29,[(0,.string ⟨⟨a⟩⟩),(1,.string ⟨⟨b⟩⟩),(5,.int .i64 n),(6,.int .i64 i)],[.code XuZ,.inLoop XuZ,.inBlock 0,.code XzR],[],false,none⟩,[],[],0⟩
theorem XyO (hS:Xah Tryz.prog (Xav (Xv3))) (a:List UInt8) (b:List UInt8) (res:Int):∀ fuel (st:Int×Int) (o:Int),iter (fun st=>XdY a b st.1 st.2) fuel st=some o→(o=res) →
 XaK Tryz.prog 17 0 (Xjj a b st.1 st.2) (fun v H _=>Res 0 (XGr res) v H):=by
 intro fuel st o h hc
 refine XbY (head:=fun st=>Xjj a b st.1 st.2) (C:=fun o=>(o=res)) ?_ fuel st o h hc
 clear h hc o st fuel
 intro st o h hc
 obtain ⟨n,i⟩:=st
 replace h:XdY a b n i=some o:=h
 show XaK Tryz.prog 17 0 (Xjj a b n i) (fun v H _=>Res 0 (XGr res) v H)
 unfold XdY at h
 refine Xbi Xan hS true 3000 ?_
 conv=>whnf
 refine br.h2 h (by rfl) ?_ ?_
 ·clear h;intro hb h;conv=>whnf
  all_goals (cases h;cases hc;exact Res.y)
 clear h;intro hb h;conv=>whnf
 refine br.h2 h (by rfl) ?_ ?_
 ·clear h;intro hb h;conv=>whnf
  all_goals (cases h;cases hc;exact Res.y)
 clear h;intro hb h;conv=>whnf
 replace h:=XaE.elim h;obtain ⟨hb,h⟩:=h
 try (refine req.intro hb ?_;conv=>whnf)
 replace h:=Xai.elim h;obtain ⟨b1,hy,h⟩:=h
 refine rdS.intro hy ?_
 conv=>whnf
 replace h:=XaE.elim h;obtain ⟨hb,h⟩:=h
 try (refine req.intro hb ?_;conv=>whnf)
 replace h:=Xai.elim h;obtain ⟨b2,hy,h⟩:=h
 refine rdS.intro hy ?_
 conv=>whnf
 refine br.h h (by rfl) ?_ ?_
 ·clear h;intro hb h;conv=>whnf
  cases h;simp only [Sum.elim_inl,Xjj] at hc
  exact XjC hc [] rfl
 clear h;intro hb h;conv=>whnf
 cases h;simp only [Sum.elim_inl,Xjj] at hc
 exact XjC hc [] rfl
theorem XEv (hS:Xah Tryz.prog (Xav (Xv3))) (a:List UInt8) (b:List UInt8) (res:Int) (h:Xfc a b=some res) :
 XaK Tryz.prog 17 0 ⟨⟨17,29,[(0,.string ⟨⟨a⟩⟩),(1,.string ⟨⟨b⟩⟩)],[.code XAh],[],false,none⟩,[],[],0⟩ (fun v H _=>Res 0 (XGr res) v H):=by
 unfold Xfc at h
 refine Xbi Xan hS true 3000 ?_
 conv=>whnf
 have hl:=XyO hS _ _ res _ _ _ h rfl;simp only [Xjj] at hl
 exact XjC hl [] rfl
theorem ok17 (hS:Xah Tryz.prog (Xav (Xv3))):Xar Tryz.prog 17 (s17 (Xfc)):=by
 refine Xar.Xax Xan (fun ar os r ha hr=>?_) ⟨Tryz.f17,rfl,by decide,rfl⟩
 replace hr:r17 (Xfc) ar (XaH os)=some r:=hr
 unfold r17 at hr
 generalize hc:XaH os=C at hr
 replace hr:=dV.elim hr;obtain ⟨v0,l1,y0,rfl,e0,hr⟩:=hr;obtain rfl:=XbM _ _ e0
 replace hr:=dV.elim hr;obtain ⟨v1,l2,y1,rfl,e1,hr⟩:=hr;obtain rfl:=XbM _ _ e1
 replace hr:=Xdw hr;obtain ⟨rfl,rfl,x,h,rfl⟩:=hr
 obtain rfl:=Xat hc
 exact ⟨_,rfl,XEv hS _ _ x h⟩
def Xbo:(List UInt8)→(List UInt8)→Option Int:=Xfc
theorem lift17:Xar Tryz.prog 17 (s17 Xbo):=ok17 (Xah.Xa0 trivial)
end Go.Vm.Code
namespace Go.Vm.Code
open Go Go.Vm
def dif:List UInt8→List UInt8→Nat
 | x::a,y::b=>(if x=y then 0 else 1)+dif a b
 | _,_=>0
theorem Xyr {a b:List UInt8} (ha:a.length<2^30) (hb:b.length<2^30):Xbo a b=some ((dif a b:Nat):Int):=by
 unfold Xbo Xfc
 have key:=iter_eq (step:=fun (st:Int×Int)=>XdY a b st.1 st.2) (fun st=>st.1+((dif (a.drop st.2.toNat) (b.drop st.2.toNat):Nat):Int)) (fun st=>0≤st.2∧st.2≤a.length∧0≤st.1∧st.1≤st.2) (fun st=>(a.length - st.2).toNat) ?_ FUEL (0,0) ⟨by simp,by simp,by simp,by simp⟩ (by rw [Xer];simp only;omega)
 ·rw [key];simp
 rintro ⟨n,p⟩ ⟨g1,g2,g3,g4⟩
 simp only at g1 g2 g3 g4 ⊢
 obtain ⟨i,rfl⟩:=Int.eq_ofNat_of_zero_le g1
 unfold XdY
 simp only [Int.toNat_natCast]
 by_cases hi:i<a.length
 ·by_cases hj:i<b.length
  ·have e:dif (a.drop i) (b.drop i)=(if a[i]=b[i] then 0 else 1)+dif (a.drop (i+1)) (b.drop (i+1)):=by
    rw [List.drop_eq_getElem_cons hi,List.drop_eq_getElem_cons hj,dif]
   have w1:wI .i64 ((i:Int)+1)=((i+1:Nat):Int):=by rw [XcC (by omega) (by omega)];omega
   have w2:wI .i64 (n+1)=n+1:=XcC (by omega) (by omega)
   rw [XaZ (by omega),XaZ (by omega),XaL (by omega),List.getElem?_eq_getElem hi,Option.bind_some,XaL (by omega),List.getElem?_eq_getElem hj,Option.bind_some,w1,w2,e]
   by_cases h:a[i]=b[i]
   ·refine .inr ⟨(n,((i+1:Nat):Int)),?_,⟨by simp only;omega,by simp only;omega,g3,by simp only;omega⟩,by simp only;omega,?_⟩
    ·rw [h,bne_self_eq_false,cond_false]
    ·simp only [Int.toNat_natCast,if_pos h];omega
   ·refine .inr ⟨(n+1,((i+1:Nat):Int)),?_,⟨by simp only;omega,by simp only;omega,by simp only;omega,by simp only;omega⟩,by simp only;omega,?_⟩
    ·rw [show ((a[i].toNat:Int) !=(b[i].toNat:Int))=true by rw [bne_iff_ne];intro q;exact h (UInt8.toNat_inj.1 (by omega)),cond_true]
    ·simp only [Int.toNat_natCast,if_neg h];omega
  ·refine .inl ?_
   rw [XaZ (by omega),XaO (by omega),show b.drop i=[] from List.drop_eq_nil_of_le (by omega)]
   cases a.drop i<;>simp [dif]
 ·refine .inl ?_
  rw [XaO (by omega),show a.drop i=[] from List.drop_eq_nil_of_le (by omega)]
  simp [dif]
theorem XA6 {p m j:Nat}:∀ (a b:List UInt8) (i:Nat),(∀ k,(i+k<p∨p+m≤i+k)→(i+k<j∨j+2≤i+k)→b[k]?=a[k]?)→dif a b≤(p+m - max i p)+(j+2 - max i j)
 | [],_,_,_=>by simp [dif]
 | _::_,[],_,_=>by simp [dif]
 | x::a,y::b,i,h=>by
   have ih:=XA6 (p:=p) (m:=m) (j:=j) a b (i+1) (fun k h1 h2=>by
    have:=h (k+1) (by omega) (by omega)
    simpa using this)
   rw [dif]
   by_cases e:x=y
   ·rw [if_pos e];omega
   ·rw [if_neg e]
    have:¬ ((i<p∨p+m≤i)∧(i<j∨j+2≤i)):=fun q=>by
     have:=h 0 (by omega) (by omega)
     simp at this
     exact e this.symm
    omega
theorem Xri {a b:List UInt8} {p m j:Nat} (ha:a.length<2^30) (hb:b.length<2^30) (h:∀ k,(k<p∨p+m≤k)→(k<j∨j+2≤k)→b[k]?=a[k]?):∃ n:Nat,Xbo a b=some (n:Int)∧n≤m+2:=by
 refine ⟨dif a b,Xyr ha hb,?_⟩
 have:=XA6 (p:=p) (m:=m) (j:=j) a b 0 (fun k h1 h2=>h k (by omega) (by omega))
 omega
end Go.Vm.Code
