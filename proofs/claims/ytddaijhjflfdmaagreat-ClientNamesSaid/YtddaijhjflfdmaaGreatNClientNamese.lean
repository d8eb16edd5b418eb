import Derived.Test.YtddaijhjflfdmaaGreatNClientNamesd
namespace Go.Vm.Code
open Go Go.Vm
def H7 (h:Xaz):Bool:=inR h.SPort 65535&&inR h.DPort 65535&&inR h.Window 65535&&inR h.Urgent 65535&&inR h.Flags 255&&decide (h.Options.length%4=0)&&decide (h.Options.length≤40)
theorem XIn {h:Xaz} (hh:H7 h=true):(0≤h.SPort∧h.SPort≤65535)∧(0≤h.DPort∧h.DPort≤65535)∧(0≤h.Window∧h.Window≤65535)∧(0≤h.Urgent∧h.Urgent≤65535)∧(0≤h.Flags∧h.Flags≤255)∧h.Options.length%4=0∧h.Options.length≤40:=by
 unfold H7 at hh
 simp only [Bool.and_eq_true,XAz,decide_eq_true_eq] at hh
 obtain ⟨⟨⟨⟨⟨⟨a,b⟩,c⟩,d⟩,e⟩,f⟩,g⟩:=hh
 exact ⟨a,b,c,d,e,f,g⟩
def W7 (h:Xaz):Prop:=(0≤h.Seq∧h.Seq<4294967296)∧0≤h.Ack∧h.Ack<4294967296
def ha7 (h:Xaz):List UInt8:=be h.SPort.toNat 2++be h.DPort.toNat 2++be h.Seq.toNat 4++be h.Ack.toNat 4++be (4*(20+h.Options.length)) 1++be h.Flags.toNat 1++be h.Window.toNat 2
def hc7 (h:Xaz) (c:Nat):List UInt8:=ha7 h++(be c 2++(be h.Urgent.toNat 2++h.Options))
theorem XuX (h:Xaz):(ha7 h).length=16:=by simp [ha7]
theorem Xuh (h:Xaz) (c:Nat):(hc7 h c).length=20+h.Options.length:=by simp [hc7,XuX];omega
theorem Xsc (h:Xaz) (c:Nat) (l:List UInt8):hc7 h c++l=ha7 h++(be c 2++(be h.Urgent.toNat 2++(h.Options++l))):=by simp only [hc7,List.append_assoc]
def ck7 (p:List UInt8) (h:Xaz) (l:List UInt8):Nat:=ckN (Xfj (p++(hc7 h 0++l)))
def Xuy (h:Xaz) (src dst:Xaa) (l:List UInt8):List UInt8×Int:=
 if H7 h=false then ([],1) else if Xma src dst 6 (20+h.Options.length+l.length)=[] then ([],1) else if 65535 - (20+(h.Options.length:Int))<l.length then ([],5) else
  (hc7 h (ck7 (Xma src dst 6 (20+h.Options.length+l.length)) h l)++l,0)
def XqA:Xaz:=⟨0,0,0,0,0,0,0,[]⟩
def Xky (s:List UInt8) (src dst:Xaa):Xaz×List UInt8×Int:=
 if s.length<20 then (XqA,[],2) else if 4*(vK s 12 1/16)<20 then (XqA,[],3) else if vK s 12 1%16≠0 then (XqA,[],3) else if (s.length:Int)<4*(vK s 12 1/16) then (XqA,[],2) else
  if Xma src dst 6 s.length=[] then (XqA,[],1) else if norm (Xfj (Xma src dst 6 s.length++s))≠65535 then (XqA,[],4) else
   if (XnU ((s.drop 20).take ((4*(vK s 12 1/16)).toNat - 20))).2≠0 then (XqA,[],(XnU ((s.drop 20).take ((4*(vK s 12 1/16)).toNat - 20))).2) else
   (⟨vK s 0 2,vK s 2 2,vK s 4 4,vK s 8 4,vK s 13 1,vK s 14 2,vK s 18 2,(s.drop 20).take ((4*(vK s 12 1/16)).toNat - 20)⟩,s.drop (4*(vK s 12 1/16)).toNat,0)
theorem XRP (h:Xaz):XcF h.SPort 2++XcF h.DPort 2++XcF h.Seq 4++XcF h.Ack 4++XcF (4*(20+(h.Options.length:Int))) 1++XcF h.Flags 1++XcF h.Window 2++XcF 0 2++XcF h.Urgent 2++h.Options=hc7 h 0:=by
 have p4:∀ n:Int,XcF n 4=be n.toNat 4:=fun n=>Xfo (k:=4) (by omega)
 have p2:∀ n:Int,XcF n 2=be n.toNat 2:=fun n=>Xfo (k:=2) (by omega)
 have p1:∀ n:Int,XcF n 1=be n.toNat 1:=fun n=>Xfo (k:=1) (by omega)
 simp only [p4,p2,p1,show (4*(20+(h.Options.length:Int))).toNat=4*(20+h.Options.length) by omega,show (0:Int).toNat=0 from rfl]
 simp only [hc7,ha7,List.append_assoc]
theorem XC7 {p t:List UInt8} {A B:List UInt8} (ht:t=A++(be 0 2++B)) (hA:A.length=16) (hl:p.length<2^30) (hl2:t.length<2^30):((Xbw (p++t)).bind fun xo=>(XaW t 16 2 (wI .u64 xo)).bind fun s=>some (s,(0:Int)))=some (A++(be (ckN (Xfj (p++t))) 2++B),0):=by
 have n:=norm_le (Xfj (p++t))
 rw [XCw (by rw [List.length_append];omega),Option.bind_some,XfY (by omega) (by omega),XvW (by omega) (by omega),Option.bind_some]
 have:=Xve (A:=A) (B:=B) (p:=16) (c:=65535 - ((norm (Xfj (p++t)):Nat):Int)) hA
 rw [←ht] at this
 rw [show ((16:Nat):Int)=16 from rfl] at this
 rw [this]
 unfold ckN
 rw [show (65535 - ((norm (Xfj (p++t)):Nat):Int)).toNat=65535 - norm (Xfj (p++t)) by omega]
theorem Xzl {p t:List UInt8} {A B:List UInt8} (ht:t=A++(be 0 2++B)) (hA:A.length=16) (hl:p.length<2^30) (hl2:t.length<2^30):((Xe1 (p++t)).bind fun xo=>(Xdh t 16 2 (wI .u64 xo)).bind fun s=>some (s,(0:Int)))=some (A++(be (ckN (Xfj (p++t))) 2++B),0):=by
 have n:=norm_le (Xfj (p++t))
 rw [Xqk (by rw [List.length_append];omega),Option.bind_some,XfY (by omega) (by omega),Xl4 (by omega) (by omega) (by omega),Option.bind_some]
 have:=Xve (A:=A) (B:=B) (p:=16) (c:=65535 - ((norm (Xfj (p++t)):Nat):Int)) hA
 rw [←ht] at this
 rw [show ((16:Nat):Int)=16 from rfl] at this
 rw [this]
 unfold ckN
 rw [show (65535 - ((norm (Xfj (p++t)):Nat):Int)).toNat=65535 - norm (Xfj (p++t)) by omega]
theorem Xrn {m:Int} {l:List Int} (h:l.length<2^20):XeF m l=some (l.all fun x=>inR x m):=by
 unfold XeF XkY
 have key:=iter_eq (step:=fun st=>XgV m l st) (fun st=>(l.drop st.toNat).all fun x=>inR x m) (fun st=>0≤st∧st≤l.length) (fun st=>((l.length:Int) - st).toNat) ?_ FUEL 0 ⟨by omega,by omega⟩ (by rw [XgM];omega)
 ·rw [key];simp
 intro st ⟨g1,g2⟩
 obtain ⟨i,rfl⟩:=Int.eq_ofNat_of_zero_le g1
 unfold XgV
 simp only [Int.toNat_natCast]
 by_cases hp:i<l.length
 ·have ed:l.drop i=l[i]::l.drop (i+1):=List.drop_eq_getElem_cons hp
  rw [XaP (by omega),Xar (by omega),List.getElem?_eq_getElem hp,Option.bind_some]
  by_cases hb:l[i]<0
  ·refine .inl ?_
   rw [XaP hb,ed,List.all_cons,show inR l[i] m=false by unfold inR;simp;omega,Bool.false_and]
  by_cases hc:l[i]>m
  ·refine .inl ?_
   rw [XaK hb,XaP hc,ed,List.all_cons,show inR l[i] m=false by unfold inR;simp;omega,Bool.false_and]
  ·refine .inr ⟨((i+1:Nat):Int),?_,⟨by omega,by omega⟩,by omega,?_⟩
   ·rw [XaK hb,XaK hc,XdT (by omega) (by omega)];rfl
   ·rw [Int.toNat_natCast,ed,List.all_cons,show inR l[i] m=true by unfold inR;simp;omega,Bool.true_and]
 ·refine .inl ?_
  rw [XaK (by omega),List.drop_of_length_le (by omega)];rfl
theorem XTM (n m:Int):XnQ n m=some (inR n m):=by
 unfold XnQ XA7 inR
 by_cases h:0≤n
 ·rw [XaP (by omega)];simp [h]
 ·rw [XaK (by omega)];simp [h]
theorem XLZ (h:Xaz):XdK h=some (H7 h):=by
 unfold XdK Xje H7
 rw [Xrn (by simp),Xrn (by simp)]
 simp only [Option.bind_some,Xsb,XvE,List.all_cons,List.all_nil,Bool.and_true]
 cases inR h.SPort 65535<;>cases inR h.DPort 65535<;>cases inR h.Window 65535<;>cases inR h.Urgent 65535<;>cases inR h.Flags 255<;>cases decide (h.Options.length%4=0)<;>rfl
theorem Xz4 (h:Xaz):XlW h=some (H7 h):=by
 unfold XlW Xrl H7
 simp only [XTM,Option.bind_some,Xsb,XvE]
 cases inR h.SPort 65535<;>cases inR h.DPort 65535<;>cases inR h.Window 65535<;>cases inR h.Urgent 65535<;>cases inR h.Flags 255<;>cases decide (h.Options.length%4=0)<;>cases decide (h.Options.length≤40)<;>rfl
theorem XL2 (n k:Int):Xf1 n k=some (XcF (wI .u64 n) k):=by
 unfold Xf1 Xru
 rw [Xdb (Xml n).1 (Xml n).2];rfl
theorem put4 (n:Int):XcF n 4=be n.toNat 4:=Xfo (k:=4) (by omega)
theorem put8' (n:Int):XcF n 8=be n.toNat 8:=Xfo (k:=8) (by omega)
theorem XST (n:Int):XcF n 2=be n.toNat 2:=Xfo (k:=2) (by omega)
theorem XCV {h:Xaz} (hh:H7 h=true) (hw:W7 h):Xc8 h=some (hc7 h 0):=by
 obtain ⟨q1,q2,q3,q4,q5,q6,q7⟩:=XIn hh
 obtain ⟨w1,w2⟩:=hw
 unfold Xc8 XiP
 obtain ⟨sp,hsp⟩:=Int.eq_ofNat_of_zero_le q1.1
 obtain ⟨dp,hdp⟩:=Int.eq_ofNat_of_zero_le q2.1
 obtain ⟨wi,hwi⟩:=Int.eq_ofNat_of_zero_le q3.1
 obtain ⟨ur,hur⟩:=Int.eq_ofNat_of_zero_le q4.1
 obtain ⟨fl,hfl⟩:=Int.eq_ofNat_of_zero_le q5.1
 obtain ⟨sq,hsq⟩:=Int.eq_ofNat_of_zero_le w1.1
 obtain ⟨ak,hak⟩:=Int.eq_ofNat_of_zero_le w2.1
 rw [hsp] at q1;rw [hdp] at q2;rw [hwi] at q3;rw [hur] at q4;rw [hfl] at q5;rw [hsq] at w1;rw [hak] at w2
 rw [hsp,hdp,hwi,hur,hfl,hsq,hak]
 have e1:Xlg .u64 (wI .u64 ((wI .u64 (sp:Int))*2^16)) (wI .u64 (dp:Int))=((sp*65536+dp:Nat):Int):=by
  rw [XfY (n:=(sp:Int)) (by omega) (by omega),XfY (n:=(dp:Int)) (by omega) (by omega),XfY (n:=(sp:Int)*2^16) (by omega) (by omega),XgW 16 (by omega) (by omega) (by omega) (by omega) (by omega)];omega
 have e2:Xlg .u64 (wI .u64 ((wI .u64 (sq:Int))*2^32)) (wI .u64 (ak:Int))=((sq*4294967296+ak:Nat):Int):=by
  rw [XfY (n:=(sq:Int)) (by omega) (by omega),XfY (n:=(ak:Int)) (by omega) (by omega),XfY (n:=(sq:Int)*2^32) (by omega) (by omega),XgW 32 (by omega) (by omega) (by omega) (by omega) (by omega)];omega
 have e3:Xlg .u64 (wI .u64 ((wI .u64 ((wI .u64 (wI .i64 (20+(h.Options.length:Int)))).tdiv 4))*2^12)) (wI .u64 (fl:Int))=((4*(20+h.Options.length)*256+fl:Nat):Int):=by
  rw [XdT (n:=20+(h.Options.length:Int)) (by omega) (by omega),XfY (n:=20+(h.Options.length:Int)) (by omega) (by omega),XPP,XfY (n:=(((20+h.Options.length)/4:Nat):Int)) (by omega) (by omega),XfY (n:=(fl:Int)) (by omega) (by omega),XfY (n:=(((20+h.Options.length)/4:Nat):Int)*2^12) (by omega) (by omega),XgW 12 (by omega) (by omega) (by omega) (by omega) (by omega)];omega
 simp only [e1,e2,e3]
 have k1:Xaj ((sp*65536+dp:Nat):Int) 4=some (be sp 2++be dp 2):=by
  rw [Xbu (by omega),put4,Int.toNat_natCast,XIQ _ _ (by omega)]
 have k2:Xaj ((sq*4294967296+ak:Nat):Int) 8=some (be sq 4++be ak 4):=by
  rw [Xbu (by omega),put8',Int.toNat_natCast,XAu _ _ (by omega)]
 have k3:Xaj ((4*(20+h.Options.length)*256+fl:Nat):Int) 2=some (be (4*(20+h.Options.length)) 1++be fl 1):=by
  rw [Xbu (by omega),XST,Int.toNat_natCast,XSd _ _ (by omega)]
 have k4:Xaj (wI .u64 (wi:Int)) 2=some (be wi 2):=by
  rw [XfY (by omega) (by omega),Xbu (by omega),XST,Int.toNat_natCast]
 have k5:Xaj (wI .u64 (ur:Int)) 4=some (be 0 2++be ur 2):=by
  have:=XIQ 0 ur (by omega)
  rw [Nat.zero_mul,Nat.zero_add] at this
  rw [XfY (by omega) (by omega),Xbu (by omega),put4,Int.toNat_natCast,this]
 rw [k1,Option.bind_some,k2,Option.bind_some,k3,Option.bind_some,k4,Option.bind_some,k5,Option.bind_some]
 rw [Xar (by simp),Xar (by simp),Xar (by simp),Xar (by simp),Xar (by simp;omega)]
 unfold hc7 ha7
 rw [hsp,hdp,hwi,hur,hfl,hsq,hak]
 simp only [Int.toNat_natCast,List.append_assoc]
theorem XDA {h:Xaz} {src dst:Xaa} {l:List UInt8} (hw:W7 h) (h1:A4 src) (h2:A4 dst) (hl:l.length<2^20) (ho:h.Options.length<2^20):Xiq h src dst l=some (Xuy h src dst l):=by
 unfold Xiq Xpv Xuy
 simp only []
 rw [XdT (n:=20+(h.Options.length:Int)) (by omega) (by omega),XdT (n:=20+(h.Options.length:Int)+l.length) (by omega) (by omega),Xnc h1 h2 (by omega) (by omega),Option.bind_some,XLZ,Option.bind_some]
 have hp:=XjT src dst 6 (20+(h.Options.length:Int)+l.length)
 generalize Xma src dst 6 (20+(h.Options.length:Int)+l.length)=p at *
 cases hh:H7 h
 ·rfl
 rw [Bool.not_true,cond_false,if_neg (by decide)]
 by_cases e3:p=[]
 ·subst e3;rfl
 rw [show (p==[])=false by simpa using e3,cond_false,if_neg e3,XdT (n:=65535 - (20+(h.Options.length:Int))) (by omega) (by omega)]
 by_cases h5:(l.length:Int)>65535 - (20+(h.Options.length:Int))
 ·rw [XaP h5,if_pos (by omega)]
 rw [XaK h5,if_neg (by omega),XCV hh hw,Option.bind_some]
 have hlen:=Xuh h 0
 rw [Xar (by omega),Xar (by simp only [List.length_append];omega)]
 have:=XC7 (p:=p) (t:=hc7 h 0++l) (Xsc h 0 l) (XuX h) (by omega) (by simp only [List.length_append];omega)
 rw [this]
 unfold ck7
 rw [Xsc h (ckN _) l]
theorem XCK {h:Xaz} {src dst:Xaa} {l:List UInt8} (hw:W7 h) (h1:A4 src) (h2:A4 dst) (hl:l.length<2^20) (ho:h.Options.length<2^20):XpX h src dst l=some (Xuy h src dst l):=by
 unfold XpX Xv9 Xuy
 simp only []
 rw [XdT (n:=20+(h.Options.length:Int)) (by omega) (by omega),XdT (n:=20+(h.Options.length:Int)+l.length) (by omega) (by omega),Xmm h1 h2 (by omega) (by omega),Option.bind_some,Xz4,Option.bind_some]
 have hp:=XjT src dst 6 (20+(h.Options.length:Int)+l.length)
 generalize Xma src dst 6 (20+(h.Options.length:Int)+l.length)=p at *
 cases hh:H7 h
 ·rfl
 rw [Bool.not_true,cond_false,if_neg (by decide)]
 by_cases e3:p=[]
 ·subst e3;rfl
 rw [show (p==[])=false by simpa using e3,cond_false,if_neg e3,XdT (n:=65535 - (20+(h.Options.length:Int))) (by omega) (by omega)]
 by_cases h5:(l.length:Int)>65535 - (20+(h.Options.length:Int))
 ·rw [XaP h5,if_pos (by omega)]
 rw [XaK h5,if_neg (by omega)]
 obtain ⟨q1,q2,q3,q4,q5,q6,q7⟩:=XIn hh
 obtain ⟨w1,w2⟩:=hw
 simp only [XL2,Option.bind_some]
 rw [XdT (n:=h.Seq) (by omega) (by omega),XdT (n:=h.Ack) (by omega) (by omega),XdT (n:=4*(20+(h.Options.length:Int))) (by omega) (by omega),XfY q1.1 (by omega),XfY q2.1 (by omega),XfY w1.1 (by omega),XfY w2.1 (by omega),XfY (n:=4*(20+(h.Options.length:Int))) (by omega) (by omega),XfY q5.1 (by omega),XfY q3.1 (by omega),XfY q4.1 (by omega),show wI .u64 0=0 from rfl]
 have hd:=XRP h
 have a1:=Xbc h.SPort 2
 have a2:=Xbc h.DPort 2
 have a3:=Xbc h.Seq 4
 have a4:=Xbc h.Ack 4
 have a5:=Xbc (4*(20+(h.Options.length:Int))) 1
 have a6:=Xbc h.Flags 1
 have a7:=Xbc h.Window 2
 have a8:=Xbc 0 2
 have a9:=Xbc h.Urgent 2
 have hlen:=Xuh h 0
 iterate 10 rw [Xar (by first|omega|(simp only [List.length_append];omega))]
 rw [hd,Xar (by simp only [List.length_append];omega)]
 have:=Xzl (p:=p) (t:=hc7 h 0++l) (Xsc h 0 l) (XuX h) (by omega) (by simp only [List.length_append];omega)
 rw [this]
 unfold ck7
 rw [Xsc h (ckN _) l]
theorem XwG {s:List UInt8} {n:Nat} (hs:s.length<2^38) (h20:20≤n) (hn:n≤s.length):XeS s (n:Int)=some ⟨vK s 0 2,vK s 2 2,vK s 4 4,vK s 8 4,vK s 13 1,vK s 14 2,vK s 18 2,(s.drop 20).take (n - 20)⟩:=by
 unfold XeS XkA
 have N:∀ (p k:Nat),1≤k→k≤7→p+k≤20→Xad ⟨s.drop p,true,false⟩ (k:Int)=some (vK s p k,⟨s.drop (p+k),true,false⟩):=fun p k a b c=>XJC a b (by omega) (by omega)
 have N0:Xad ⟨s,true,false⟩ 2=some (vK s 0 2,⟨s.drop 2,true,false⟩):=N 0 2 (by omega) (by omega) (by omega)
 have N2:Xad ⟨s.drop 2,true,false⟩ 2=some (vK s 2 2,⟨s.drop 4,true,false⟩):=N 2 2 (by omega) (by omega) (by omega)
 have N4:Xad ⟨s.drop 4,true,false⟩ 4=some (vK s 4 4,⟨s.drop 8,true,false⟩):=N 4 4 (by omega) (by omega) (by omega)
 have N8:Xad ⟨s.drop 8,true,false⟩ 4=some (vK s 8 4,⟨s.drop 12,true,false⟩):=N 8 4 (by omega) (by omega) (by omega)
 have N12:Xad ⟨s.drop 12,true,false⟩ 2=some (vK s 12 2,⟨s.drop 14,true,false⟩):=N 12 2 (by omega) (by omega) (by omega)
 have N14:Xad ⟨s.drop 14,true,false⟩ 2=some (vK s 14 2,⟨s.drop 16,true,false⟩):=N 14 2 (by omega) (by omega) (by omega)
 have N16:Xad ⟨s.drop 16,true,false⟩ 2=some (vK s 16 2,⟨s.drop 18,true,false⟩):=N 16 2 (by omega) (by omega) (by omega)
 have N18:Xad ⟨s.drop 18,true,false⟩ 2=some (vK s 18 2,⟨s.drop 20,true,false⟩):=N 18 2 (by omega) (by omega) (by omega)
 have r4:=XfQ s 4 4 4294967296 (by decide)
 have r8:=XfQ s 8 4 4294967296 (by decide)
 have r12:=XfQ s 12 2 65536 (by decide)
 rw [Xqj,Option.bind_some,N0,Option.bind_some]
 simp only []
 rw [N2,Option.bind_some]
 simp only []
 rw [N4,Option.bind_some]
 simp only []
 rw [N8,Option.bind_some]
 simp only []
 rw [N12,Option.bind_some]
 simp only []
 rw [N14,Option.bind_some]
 simp only []
 rw [N16,Option.bind_some]
 simp only []
 rw [N18,Option.bind_some]
 simp only []
 rw [XdT (n:=(n:Int) - 20) (by omega) (by omega),show (n:Int) - 20=((n - 20:Nat):Int) by omega,Xrs (by omega),Option.bind_some,XDt r4.1 r4.2,XDt r8.1 r8.2,Xjv 8 (by decide) (by omega) (by omega) (by omega)]
 have e12:vK s 12 2=(s[12].toNat*256+s[13].toNat:Int):=Xyj (s:=s) (p:=12) (by omega)
 have e13:=XmD (s:=s) (p:=13) (by omega)
 have b13:=s[13].toNat_lt
 rw [show vK s 12 2%2^8=vK s 13 1 by rw [e12,e13];omega]
theorem and15:∀ x:Fin 256,Xnr .u8 ((x.val:Nat):Int) 15=((x.val:Nat):Int)%16:=by decide +kernel
theorem XDH {s:List UInt8} {src dst:Xaa} (h1:A4 src) (h2:A4 dst) (hs:s.length<2^19):XiA s src dst=some (Xky s src dst):=by
 unfold XiA Xph Xky
 have hz:(⟨0,0,0,0,0,0,0,[]⟩:Xaz)=XqA:=rfl
 rw [hz]
 by_cases h0:s.length<20
 ·rw [XaP (by omega),if_pos h0]
 rw [XaK (by omega),if_neg h0,List.getElem?_eq_getElem (show 12<s.length by omega)]
 have e12:=XmD (s:=s) (p:=12) (by omega)
 have r12:=XfQ s 12 1 256 (by decide)
 have hb:=s[12].toNat_lt
 simp only [Option.bind_some]
 rw [←e12,XsS,show ((2:Int)^4)=16 from rfl,XdT (n:=vK s 12 1/16) (by omega) (by omega),XdT (n:=4*(vK s 12 1/16)) (by omega) (by omega)]
 have ea:Xnr .u8 (vK s 12 1) 15=vK s 12 1%16:=by
  rw [e12];exact and15 ⟨s[12].toNat,hb⟩
 rw [ea]
 obtain ⟨t,ht⟩:=Int.eq_ofNat_of_zero_le (show 0≤4*(vK s 12 1/16) by omega)
 rw [ht]
 simp only [Int.toNat_natCast]
 by_cases g2:(t:Int)<20
 ·rw [XaP g2,if_pos g2]
 rw [XaK g2,if_neg g2]
 by_cases g3:vK s 12 1%16=0
 ·rw [show (vK s 12 1%16 !=0)=false by simpa using g3,cond_false,if_neg (by simpa using g3)]
  by_cases g4:(s.length:Int)<t
  ·rw [XaP (by omega),if_pos g4]
  rw [XaK (by omega),if_neg g4,Xnc h1 h2 (by omega) (by omega),Option.bind_some]
  have hp:=XjT src dst 6 (s.length:Int)
  generalize Xma src dst 6 (s.length:Int)=p at *
  by_cases e3:p=[]
  ·subst e3;rfl
  rw [show (p==[])=false by simpa using e3,cond_false,if_neg e3,Xar (by omega),Xr7 (by simp only [List.length_append];omega),Option.bind_some]
  by_cases g5:norm (Xfj (p++s))=65535
  ·rw [if_neg (by simpa using g5),g5,show ((((65535:Nat):Int)==65535))=true from rfl,Bool.not_true,cond_false,XwG (by omega) (by omega) (by omega),Option.bind_some,XTD (by simp;omega),Option.bind_some]
   by_cases g6:(XnU ((s.drop 20).take (t - 20))).2=0
   ·rw [if_neg (by simpa using g6)]
    simp only [g6,bne_self_eq_false,cond_false]
    rw [Xar (by omega),List.take_of_length_le (i:=s.length - t) (by simp)]
   ·rw [if_pos (by simpa using g6),show ((XnU ((s.drop 20).take (t - 20))).2 !=0)=true by simpa using g6];rfl
  ·rw [if_pos (by simpa using g5),show ((((norm (Xfj (p++s)):Nat):Int)==65535))=false by simp;omega];rfl
 ·rw [show (vK s 12 1%16 !=0)=true by simpa using g3,cond_true,if_pos (by simpa using g3)]
theorem XD7 {s:List UInt8} {src dst:Xaa} (h1:A4 src) (h2:A4 dst) (hs:s.length<2^19):XiD s src dst=some (Xky s src dst):=by
 unfold XiD Xpo Xky
 have hz:(⟨0,0,0,0,0,0,0,[]⟩:Xaz)=XqA:=rfl
 rw [hz]
 by_cases h0:s.length<20
 ·rw [XaP (by omega),if_pos h0]
 rw [XaK (by omega),if_neg h0,List.getElem?_eq_getElem (show 12<s.length by omega),List.getElem?_eq_getElem (show 13<s.length by omega)]
 have e12:=XmD (s:=s) (p:=12) (by omega)
 have e13:=XmD (s:=s) (p:=13) (by omega)
 have r12:=XfQ s 12 1 256 (by decide)
 have r13:=XfQ s 13 1 256 (by decide)
 have r4:=XfQ s 4 4 4294967296 (by decide)
 have r8:=XfQ s 8 4 4294967296 (by decide)
 simp only [Option.bind_some]
 rw [←e12,←e13,Int.tmod_eq_emod_of_nonneg r12.1,Int.tdiv_eq_ediv_of_nonneg r12.1,wU8 (n:=vK s 12 1/16) (by omega) (by omega),XdT (n:=vK s 12 1/16) (by omega) (by omega),XdT (n:=4*(vK s 12 1/16)) (by omega) (by omega),XdT (n:=vK s 13 1) (by omega) (by omega)]
 obtain ⟨t,ht⟩:=Int.eq_ofNat_of_zero_le (show 0≤4*(vK s 12 1/16) by omega)
 rw [ht]
 simp only [Int.toNat_natCast]
 by_cases g2:(t:Int)<20
 ·rw [XaP g2,if_pos g2]
 rw [XaK g2,if_neg g2]
 by_cases g3:vK s 12 1%16=0
 ·rw [show (vK s 12 1%16 !=0)=false by simpa using g3,cond_false,if_neg (by simpa using g3)]
  by_cases g4:(s.length:Int)<t
  ·rw [XaP (by omega),if_pos g4]
  rw [XaK (by omega),if_neg g4,Xmm h1 h2 (by omega) (by omega),Option.bind_some]
  have hp:=XjT src dst 6 (s.length:Int)
  generalize Xma src dst 6 (s.length:Int)=p at *
  by_cases e3:p=[]
  ·subst e3;rfl
  rw [show (p==[])=false by simpa using e3,cond_false,if_neg e3,Xar (by omega),Xl5 (by simp only [List.length_append];omega),Option.bind_some]
  by_cases g5:norm (Xfj (p++s))=65535
  ·rw [if_neg (by simpa using g5),g5,show ((((65535:Nat):Int) !=65535))=false from rfl,cond_false,Xar (by omega),XRD (by simp;omega),Option.bind_some]
   by_cases g6:(XnU ((s.drop 20).take (t - 20))).2=0
   ·rw [if_neg (by simpa using g6)]
    simp only [g6,bne_self_eq_false,cond_false]
    have M:∀ (p k:Nat),1≤k→k≤7→p+k≤20→Xao s (p:Int) (k:Int)=some (vK s p k):=fun p k a b c=>XrI (by omega) a b (by omega)
    have M0:Xao s 0 2=some (vK s 0 2):=M 0 2 (by omega) (by omega) (by omega)
    have M2:Xao s 2 2=some (vK s 2 2):=M 2 2 (by omega) (by omega) (by omega)
    have M4:Xao s 4 4=some (vK s 4 4):=M 4 4 (by omega) (by omega) (by omega)
    have M8:Xao s 8 4=some (vK s 8 4):=M 8 4 (by omega) (by omega) (by omega)
    have M14:Xao s 14 2=some (vK s 14 2):=M 14 2 (by omega) (by omega) (by omega)
    have M18:Xao s 18 2=some (vK s 18 2):=M 18 2 (by omega) (by omega) (by omega)
    rw [M0,M2,M4,M8,M14,M18]
    simp only [Option.bind_some]
    rw [Xar (by omega),Xar (by omega),List.take_of_length_le (i:=s.length - t) (by simp),XDt r4.1 r4.2,XDt r8.1 r8.2]
   ·rw [if_pos (by simpa using g6),show ((XnU ((s.drop 20).take (t - 20))).2 !=0)=true by simpa using g6];rfl
  ·rw [if_pos (by simpa using g5),show ((((norm (Xfj (p++s)):Nat):Int) !=65535))=true by simp;omega];rfl
 ·rw [show (vK s 12 1%16 !=0)=true by simpa using g3,cond_true,if_pos (by simpa using g3)]
theorem Xot (r:Xah) (k:Int):(rdr r k).s.length≤r.s.length:=by unfold rdr;split<;>simp
def b1 (s:List UInt8) (i:Nat):Nat:=Xfu ((s.drop i).take 1)
theorem XHU {s:List UInt8} {i:Nat} (h:i<s.length):b1 s i=s[i].toNat:=by
 unfold b1
 rw [List.drop_eq_getElem_cons h]
 show Xfu [s[i]]=_
 rw [Xhj];simp
theorem XGe (s:List UInt8) (i:Nat):b1 s i<256:=Xfn _ (by decide)
end Go.Vm.Code
namespace Go.Vm.Code
open Go Go.Vm Go.Proofs
set_option maxRecDepth 100000
set_option maxHeartbeats 4000000
set_option linter.unusedVariables false
def XnT (n:Int):Option Bool:=
 cond (decide (0≤n))
  (
  some (decide (n≤65535)))
  (
  some (false))
def XDl (x:Bool):XcU:=⟨.bool x,[],[]⟩
abbrev Xf7:=Int→Option Bool
def r200 (g:Xf7):Dec:=dV (asI .i64) fun (y0:Int)=>XdX (ofG (g y0) XDl)
theorem XVk {g:Xf7} {y0:Int} {x:Bool} (hx:g y0=some x):r200 g [.int .i64 y0] []=some (XDl x):=(XaS (XeL _)).trans (XaQ hx)
def s200 (g:Xf7):XbE:=⟨[.v],r200 g⟩
theorem Xyb {g:Xf7} {y0:Int} {x:Bool} (hx:g y0=some x):(s200 g).run [.int .i64 y0] []=some (XDl x):=XVk hx
abbrev XKE:List (Nat×XbE):=[]
theorem XGk (hS:Xak Tryz.prog (XaD (XKE))) (n:Int) (res:Bool) (h:XnT n=some res) :
 XaG Tryz.prog 200 0 ⟨⟨200,9,[(0,.int .i64 n)],[.code XI2],[],false,none⟩,[],[],0⟩ (fun v H _=>Res 0 (XDl res) v H):=by
 unfold XnT at h
 refine Xa6 XaE hS true 3000 ?_
 conv=>whnf
 exact W
def Xfr:Xf7:=XnT
theorem XO3:XbM Tryz.prog 200 (s200 Xfr):=by
 have hL:=XGk (Xak.XaM trivial)
 exact okA ⟨Tryz.f200,rfl,by decide,rfl⟩
def XeR (Xbw:Xdi) (XaW:XcP) (Xaj:XaR) (ha0:XaH) (payload:List UInt8) (p:List UInt8) (t48:Int) (c:List Int):Option (Sum (Int×(List Int)) ((List UInt8)×Int)):=
 cond (decide (t48<4))
  (
  Xbh (decide (0≤t48∧t48<4)) <|
  ([ha0.SPort,ha0.DPort,wI .i64 (8+(payload.length:Int)),0][t48.toNat]?).bind fun (e:Int)=>
  (Xaj (wI .u64 e) 2).bind fun p4=>
  Xbh (decide ((c.length+p4.length)*1≤2^47)) <|
  let row:=c++(bI p4)
  some (.inl (wI .i64 (t48+1),row)))
  (
  Xbh (decide ((c.length+payload.length)*1≤2^47)) <|
  let row1:=c++(bI payload)
  Xbh (decide (row1.length<2^63)) <|
  Xbh (decide (p.length+(iB row1).length<2^63)) <|
  (Xbw (p++(iB row1))).bind fun xo=>
  cond (xo==0)
   (
   (XaW (iB row1) 6 2 65535).bind fun s=>
   some (.inr ((s,0))))
   (
   (XaW (iB row1) 6 2 (wI .u64 xo)).bind fun s1=>
   some (.inr ((s1,0)))))
def XoX (Xbw:Xdi) (XaW:XcP) (XaB:XbD) (Xaj:XaR) (Xfr:Xf7) (ha0:XaH) (src:Xaa) (dst:Xaa) (payload:List UInt8):Option ((List UInt8)×Int):=
 (XaB src dst 17 (wI .i64 (8+(payload.length:Int)))).bind fun p=>
 (Xfr ha0.SPort).bind fun p1=>
 cond (!p1)
  (
  some (([],1)))
  (
  (Xfr ha0.DPort).bind fun p2=>
  cond (!p2)
   (
   some (([],1)))
   (
   cond (p==[])
    (
    some (([],1)))
    (
    let t:=decide ((wI .i64 (8+(payload.length:Int)))>65535)
    cond (t)
     (
     some (([],5)))
     (
     (Xaj (wI .u64 ha0.SPort) 2).bind fun p3=>
     Xbh (decide (p3.length*1≤2^47)) <|
     iter (fun st=>XeR Xbw XaW Xaj ha0 payload p st.1 st.2) FUEL (1,bI p3)))))
def Xwz (x:(List UInt8)×Int):XcU:=⟨.tuple ⟨[.string ⟨⟨x.1⟩⟩,.int .i64 x.2]⟩,[],[]⟩
abbrev XhS:=XaH→Xaa→Xaa→(List UInt8)→Option ((List UInt8)×Int)
def r188 (g:XhS):Dec:=dV Xkv fun (y0:XaH)=>dV Xb6 fun (y1:Xaa)=>dV Xb6 fun (y2:Xaa)=>dV asS fun (y3:List UInt8)=>XdX (ofG (g y0 y1 y2 y3) Xwz)
theorem XV0 {g:XhS} {y0:XaH} {y1:Xaa} {y2:Xaa} {y3:List UInt8} {x:(List UInt8)×Int} (hx:g y0 y1 y2 y3=some x):r188 g [.agg ⟨[.int .i64 y0.SPort,.int .i64 y0.DPort]⟩,.agg ⟨[.bool y1.V6,.int .u64 y1.Hi,.int .u64 y1.Lo]⟩,.agg ⟨[.bool y2.V6,.int .u64 y2.Hi,.int .u64 y2.Lo]⟩,.string ⟨⟨y3⟩⟩] []=some (Xwz x):=(XaS (XoJ _)).trans ((XaS (XbP _)).trans ((XaS (XbP _)).trans ((XaS (Xd4)).trans (XaQ hx))))
def s188 (g:XhS):XbE:=⟨[.v,.v,.v,.v],r188 g⟩
theorem XMb {g:XhS} {y0:XaH} {y1:Xaa} {y2:Xaa} {y3:List UInt8} {x:(List UInt8)×Int} (hx:g y0 y1 y2 y3=some x):(s188 g).run [.agg ⟨[.int .i64 y0.SPort,.int .i64 y0.DPort]⟩,.agg ⟨[.bool y1.V6,.int .u64 y1.Hi,.int .u64 y1.Lo]⟩,.agg ⟨[.bool y2.V6,.int .u64 y2.Hi,.int .u64 y2.Lo]⟩,.string ⟨⟨y3⟩⟩] []=some (Xwz x):=XV0 hx
abbrev XAD (Xbw:Xdi) (XaW:XcP) (XaB:XbD) (Xaj:XaR) (Xfr:Xf7):List (Nat×XbE):=[(183,XVl Xbw),(98,s98 XaW),(180,XQg XaB),(97,s97 Xaj),(200,s200 Xfr)]
def XlG (ha0:XaH) (payload:List UInt8) (p:List UInt8) (t48:Int) (c:List Int):VM:=
 ⟨⟨188, 69, [(3, .string ⟨⟨payload⟩⟩), (11, .string ⟨⟨p⟩⟩), (12, .pointer (some ⟨3, 0, none⟩)), (47, .agg ⟨[.int .i64 ha0.SPort, .int .i64 ha0.DPort, .int .i64 (wI .i64 (8 + (payload.length : Int))), .int .i64 0]⟩), (48, .int .i64 t48)], [.code Xuv, .inLoop Xuv, .inBlock 1, .code Xyv], [], false, none⟩, [], [(3, .ty 171 [.pointer (some ⟨3, 0, none⟩), .func (.method "") ⟨[.slice (some ⟨4, 0, none⟩) c.length 1]⟩ ⟨[]⟩]), (4, .ty 5 (vI .u8 c))], 5⟩
theorem Xy7 (Xbw:Xdi) (XaW:XcP) (XaB:XbD) (Xaj:XaR) (Xfr:Xf7) (hS:Xak Tryz.prog (XaD (XAD Xbw XaW XaB Xaj Xfr))) (ha0:XaH) (payload:List UInt8) (p:List UInt8) (res:(List UInt8)×Int):∀ fuel (st:Int×(List Int)) (o:(List UInt8)×Int),iter (fun st=>XeR Xbw XaW Xaj ha0 payload p st.1 st.2) fuel st=some o→(o=res) →
 XaG Tryz.prog 188 0 (XlG ha0 payload p st.1 st.2) (fun v H _=>Res 0 (Xwz res) v H):=by
 intro fuel st o h hc
 refine Xde (head:=fun st=>XlG ha0 payload p st.1 st.2) (C:=fun o=>(o=res)) ?_ fuel st o h hc
 clear h hc o st fuel
 intro st o h hc
 obtain ⟨t48,c⟩:=st
 replace h:XeR Xbw XaW Xaj ha0 payload p t48 c=some o:=h
 show XaG Tryz.prog 188 0 (XlG ha0 payload p t48 c) (fun v H _=>Res 0 (Xwz res) v H)
 unfold XeR at h
 have R1:=@XuS Xbw
 have R2:=@XAh XaW
 refine Xa6 XaE hS true 3000 ?_
 conv=>whnf
 refine br.h h (by rfl) ?_ ?_
 ·clear h;intro hb h;conv=>whnf
  replace h:=Xbh.elim h;obtain ⟨hb,h⟩:=h
  try (refine req.intro hb ?_;conv=>whnf)
  replace h:=Xdg.elim h;obtain ⟨e,hy,h⟩:=h
  refine rd.I hy (by first|rfl|(rw [Nat.zero_add,Nat.mul_one];try rfl;done)|omega) ?_
  conv=>whnf
  replace h:=Xdg.elim h;obtain ⟨p4,hy,h⟩:=h
  refine Xg9.a (Xlb hy) ?_
  conv=>whnf
  replace h:=Xbh.elim h;obtain ⟨hb,h⟩:=h
  first|refine req.intro (Xup (of_decide_eq_true hb) (by first|rfl|omega|(simp;done)|(simp;omega)|(simp at *;omega)) rfl rfl (by first|rfl|omega|(simp;done)|(simp;omega)|(simp at *;omega)) (by first|rfl|exact Xh3 _ _|exact Xkf _|exact Xku _|exact Xk5 (by first|exact Xdw|exact Xc4|exact XdD|exact Xcj|exact Xb7|exact XdB|exact XcI|exact Xcr|exact Xc6|exact XdC|exact XcH|exact Xdz|exact Xeg|exact Xcg|exact Xci|exact Xee|exact XcG) _|(rw [Xe7];exact Xh3 _ _)|(simp [Xh3,Xkf,Xku,Xly,Xlk,XmQ,XmW];done)|(simp;exact List.all_eq_true.1 (Xk5 (by first|exact Xdw|exact Xc4|exact XdD|exact Xcj|exact Xb7|exact XdB|exact XcI|exact Xcr|exact Xc6|exact XdC|exact XcH|exact Xdz|exact Xeg|exact Xcg|exact Xci|exact Xee|exact XcG) _))) rfl) ?_|skip
  conv=>whnf
  let row:List Int:=c++(bI p4)
  first|have hlen_row:row.length=_:=List.length_append ..|skip
  refine XAP (xs:=c) (ys:=bI p4) (Xe7 _) (by first|rfl|omega|(simp;done)|(simp;omega)|(simp at *;omega)) (by first|rfl|omega|(simp;done)|(simp;omega)|(simp at *;omega)) ?_
  conv=>whnf
  cases h;simp only [Sum.elim_inl,XlG] at hc
  exact Xmp hc [(3,3),(4,5)] rfl
 clear h;intro hb h;conv=>whnf
 replace h:=Xbh.elim h;obtain ⟨hb,h⟩:=h
 first|refine req.intro (Xup (of_decide_eq_true hb) (by first|rfl|omega|(simp;done)|(simp;omega)|(simp at *;omega)) rfl rfl (by first|rfl|omega|(simp;done)|(simp;omega)|(simp at *;omega)) (by first|rfl|exact Xh3 _ _|exact Xkf _|exact Xku _|exact Xk5 (by first|exact Xdw|exact Xc4|exact XdD|exact Xcj|exact Xb7|exact XdB|exact XcI|exact Xcr|exact Xc6|exact XdC|exact XcH|exact Xdz|exact Xeg|exact Xcg|exact Xci|exact Xee|exact XcG) _|(rw [Xe7];exact Xh3 _ _)|(simp [Xh3,Xkf,Xku,Xly,Xlk,XmQ,XmW];done)|(simp;exact List.all_eq_true.1 (Xk5 (by first|exact Xdw|exact Xc4|exact XdD|exact Xcj|exact Xb7|exact XdB|exact XcI|exact Xcr|exact Xc6|exact XdC|exact XcH|exact Xdz|exact Xeg|exact Xcg|exact Xci|exact Xee|exact XcG) _))) rfl) ?_|skip
 conv=>whnf
 let row1:List Int:=c++(bI payload)
 first|have hlen_row1:row1.length=_:=List.length_append ..|skip
 refine XAP (xs:=c) (ys:=bI payload) (Xe7 _) (by first|rfl|omega|(simp;done)|(simp;omega)|(simp at *;omega)) (by first|rfl|omega|(simp;done)|(simp;omega)|(simp at *;omega)) ?_
 conv=>whnf
 replace h:=Xbh.elim h;obtain ⟨hb,h⟩:=h
 refine req.intro (XIM rfl (by first|rfl|(simp;done)) (by first|rfl|omega|(simp;done)|(simp;omega)|(simp at *;omega)) (of_decide_eq_true hb)) ?_
 conv=>whnf
 refine XV9 ?_
 conv=>whnf
 exact W
theorem XCC (Xbw:Xdi) (XaW:XcP) (XaB:XbD) (Xaj:XaR) (Xfr:Xf7) (hS:Xak Tryz.prog (XaD (XAD Xbw XaW XaB Xaj Xfr))) (ha0:XaH) (src:Xaa) (dst:Xaa) (payload:List UInt8) (res:(List UInt8)×Int) (h:XoX Xbw XaW XaB Xaj Xfr ha0 src dst payload=some res) :
 XaG Tryz.prog 188 0 ⟨⟨188,69,[(0,.agg ⟨[.int .i64 ha0.SPort,.int .i64 ha0.DPort]⟩),(1,.agg ⟨[.bool src.V6,.int .u64 src.Hi,.int .u64 src.Lo]⟩),(2,.agg ⟨[.bool dst.V6,.int .u64 dst.Hi,.int .u64 dst.Lo]⟩),(3,.string ⟨⟨payload⟩⟩)],[.code XAL],[],false,none⟩,[],[],0⟩ (fun v H _=>Res 0 (Xwz res) v H):=by
 unfold XoX at h
 refine Xa6 XaE hS true 3000 ?_
 conv=>whnf
 replace h:=Xdg.elim h;obtain ⟨p,hy,h⟩:=h
 refine Xg9.a (Xsd hy) ?_
 conv=>whnf
 replace h:=Xdg.elim h;obtain ⟨p1,hy,h⟩:=h
 refine Xg9.a (Xyb hy) ?_
 conv=>whnf
 refine br.h h (by rfl) ?_ ?_
 ·clear h;intro hb h;conv=>whnf
  exact W
 clear h;intro hb h;conv=>whnf
 replace h:=Xdg.elim h;obtain ⟨p2,hy,h⟩:=h
 refine Xg9.a (Xyb hy) ?_
 conv=>whnf
 refine br.h h (by rfl) ?_ ?_
 ·clear h;intro hb h;conv=>whnf
  exact W
 clear h;intro hb h;conv=>whnf
 refine br.h h (by rfl) ?_ ?_
 ·clear h;intro hb h;conv=>whnf
  exact W
 clear h;intro hb h;conv=>whnf
 let t:Bool:=decide ((wI .i64 (8+(payload.length:Int)))>65535)
 refine br.h h (by rfl) ?_ ?_
 ·clear h;intro hb h;conv=>whnf
  exact W
 clear h;intro hb h;conv=>whnf
 refine Xa6 XaE hS true 3000 ?_
 conv=>whnf
 replace h:=Xdg.elim h;obtain ⟨p3,hy,h⟩:=h
 refine Xg9.a (Xlb hy) ?_
 conv=>whnf
 replace h:=Xbh.elim h;obtain ⟨hb,h⟩:=h
 refine req.intro (Xu8 (of_decide_eq_true hb) (by first|rfl|omega|(simp;done)|(simp;omega)|(simp at *;omega)) rfl rfl) ?_
 conv=>whnf
 refine XzP (ys:=bI p3) (Xe7 _) (by first|rfl|omega|(simp;done)|(simp;omega)|(simp at *;omega)) ?_
 conv=>whnf
 have hl:=Xy7 Xbw XaW XaB Xaj Xfr hS _ _ _ res _ _ _ h rfl;simp only [XlG] at hl
 exact Xmp hl [(3,3),(4,4)] rfl
def XiG:XhS:=XoX Xbw XaW XaB Xaj Xfr
theorem XOi:XbM Tryz.prog 188 (s188 XiG):=by
 have hL:=XCC Xbw XaW XaB Xaj Xfr (Xak.XaM ⟨XuA,XAa,XrO,Xnh,XO3,trivial⟩)
 exact okA ⟨Tryz.f188,rfl,by decide,rfl⟩
def Xpt (Xa7:XcB) (XaB:XbD) (Xa3:Xcf) (Xai:XaI) (Xad:XaJ) (s:List UInt8) (src:Xaa) (dst:Xaa):Option (XaH×(List UInt8)×Int):=
 (Xa3 s).bind fun n=>
 (Xad n 2).bind fun n1=>
 (Xad n1.2 2).bind fun n2=>
 (Xad n2.2 2).bind fun n3=>
 (Xad n3.2 2).bind fun n4=>
 (Xai n4.2).bind fun b=>
 cond (b.1)
  (
  some ((XaH.mk 0 0,[],2)))
  (
  cond (decide (n3.1<8))
   (
   some ((XaH.mk 0 0,[],3)))
   (
   cond (decide (n3.1>(s.length:Int)))
    (
    some ((XaH.mk 0 0,[],2)))
    (
    (XaB src dst 17 n3.1).bind fun p=>
    cond (p==[])
     (
     some ((XaH.mk 0 0,[],1)))
     (
     cond (n4.1==0)
      (
      cond (src.V6)
       (
       some ((XaH.mk 0 0,[],4)))
       (
       cond (n4.1 !=0)
        (
        Xbh (decide ((0:Int)≤n3.1∧n3.1≤(s.length:Int))) <|
        Xbh (decide (p.length+(s.take n3.1.toNat).length<2^63)) <|
        (Xa7 (p++(s.take n3.1.toNat))).bind fun xr=>
        cond (!xr)
         (
         some ((XaH.mk 0 0,[],4)))
         (
         Xbh (decide ((0:Int)≤n3.1∧n3.1≤(s.length:Int)∧(0:Int)≤(8:Int)∧(8:Int)≤(n3.1.toNat:Int))) <|
         some ((XaH.mk n1.1 n2.1,(s.drop 8).take (n3.1.toNat - 8),0))))
        (
        Xbh (decide ((0:Int)≤n3.1∧n3.1≤(s.length:Int)∧(0:Int)≤(8:Int)∧(8:Int)≤(n3.1.toNat:Int))) <|
        some ((XaH.mk n1.1 n2.1,(s.drop 8).take (n3.1.toNat - 8),0)))))
      (
      cond (n4.1 !=0)
       (
       Xbh (decide ((0:Int)≤n3.1∧n3.1≤(s.length:Int))) <|
       Xbh (decide (p.length+(s.take n3.1.toNat).length<2^63)) <|
       (Xa7 (p++(s.take n3.1.toNat))).bind fun xr1=>
       cond (!xr1)
        (
        some ((XaH.mk 0 0,[],4)))
        (
        Xbh (decide ((0:Int)≤n3.1∧n3.1≤(s.length:Int)∧(0:Int)≤(8:Int)∧(8:Int)≤(n3.1.toNat:Int))) <|
        some ((XaH.mk n1.1 n2.1,(s.drop 8).take (n3.1.toNat - 8),0))))
       (
       Xbh (decide ((0:Int)≤n3.1∧n3.1≤(s.length:Int)∧(0:Int)≤(8:Int)∧(8:Int)≤(n3.1.toNat:Int))) <|
       some ((XaH.mk n1.1 n2.1,(s.drop 8).take (n3.1.toNat - 8),0))))))))
def XEi (x:XaH×(List UInt8)×Int):XcU:=⟨.tuple ⟨[.agg ⟨[.int .i64 x.1.SPort,.int .i64 x.1.DPort]⟩,.string ⟨⟨x.2.1⟩⟩,.int .i64 x.2.2]⟩,[],[]⟩
abbrev XhE:=(List UInt8)→Xaa→Xaa→Option (XaH×(List UInt8)×Int)
def r168 (g:XhE):Dec:=dV asS fun (y0:List UInt8)=>dV Xb6 fun (y1:Xaa)=>dV Xb6 fun (y2:Xaa)=>XdX (ofG (g y0 y1 y2) XEi)
theorem XRb {g:XhE} {y0:List UInt8} {y1:Xaa} {y2:Xaa} {x:XaH×(List UInt8)×Int} (hx:g y0 y1 y2=some x):r168 g [.string ⟨⟨y0⟩⟩,.agg ⟨[.bool y1.V6,.int .u64 y1.Hi,.int .u64 y1.Lo]⟩,.agg ⟨[.bool y2.V6,.int .u64 y2.Hi,.int .u64 y2.Lo]⟩] []=some (XEi x):=(XaS (Xd4)).trans ((XaS (XbP _)).trans ((XaS (XbP _)).trans (XaQ hx)))
def s168 (g:XhE):XbE:=⟨[.v,.v,.v],r168 g⟩
theorem XJZ {g:XhE} {y0:List UInt8} {y1:Xaa} {y2:Xaa} {x:XaH×(List UInt8)×Int} (hx:g y0 y1 y2=some x):(s168 g).run [.string ⟨⟨y0⟩⟩,.agg ⟨[.bool y1.V6,.int .u64 y1.Hi,.int .u64 y1.Lo]⟩,.agg ⟨[.bool y2.V6,.int .u64 y2.Hi,.int .u64 y2.Lo]⟩] []=some (XEi x):=XRb hx
abbrev XMN (Xa7:XcB) (XaB:XbD) (Xa3:Xcf) (Xai:XaI) (Xad:XaJ):List (Nat×XbE):=[(80,s80 Xa7),(180,XQg XaB),(77,s77 Xa3),(138,XH9 Xai),(78,s78 Xad)]
theorem XDf (Xa7:XcB) (XaB:XbD) (Xa3:Xcf) (Xai:XaI) (Xad:XaJ) (hS:Xak Tryz.prog (XaD (XMN Xa7 XaB Xa3 Xai Xad))) (s:List UInt8) (src:Xaa) (dst:Xaa) (res:XaH×(List UInt8)×Int) (h:Xpt Xa7 XaB Xa3 Xai Xad s src dst=some res) :
 XaG Tryz.prog 168 0 ⟨⟨168,70,[(0,.string ⟨⟨s⟩⟩),(1,.agg ⟨[.bool src.V6,.int .u64 src.Hi,.int .u64 src.Lo]⟩),(2,.agg ⟨[.bool dst.V6,.int .u64 dst.Hi,.int .u64 dst.Lo]⟩)],[.code XyB],[],false,none⟩,[],[],0⟩ (fun v H _=>Res 0 (XEi res) v H):=by
 unfold Xpt at h
 have R1:=@Xym Xa7
 refine Xa6 XaE hS true 3000 ?_
 conv=>whnf
 replace h:=Xdg.elim h;obtain ⟨n,hy,h⟩:=h
 refine Xg9.a (XsP hy) ?_
 conv=>whnf
 replace h:=Xdg.elim h;obtain ⟨n1,hy,h⟩:=h
 refine Xg9.a (XmI hy) ?_
 conv=>whnf
 replace h:=Xdg.elim h;obtain ⟨n2,hy,h⟩:=h
 refine Xg9.a (XmI hy) ?_
 conv=>whnf
 replace h:=Xdg.elim h;obtain ⟨n3,hy,h⟩:=h
 refine Xg9.a (XmI hy) ?_
 conv=>whnf
 replace h:=Xdg.elim h;obtain ⟨n4,hy,h⟩:=h
 refine Xg9.a (XmI hy) ?_
 conv=>whnf
 replace h:=Xdg.elim h;obtain ⟨b,hy,h⟩:=h
 refine Xg9.a (XmP hy) ?_
 conv=>whnf
 refine br.h h (by rfl) ?_ ?_
 ·clear h;intro hb h;conv=>whnf
  exact W
 clear h;intro hb h;conv=>whnf
 refine br.h h (by rfl) ?_ ?_
 ·clear h;intro hb h;conv=>whnf
  exact W
 clear h;intro hb h;conv=>whnf
 refine br.h h (by rfl) ?_ ?_
 ·clear h;intro hb h;conv=>whnf
  exact W
 clear h;intro hb h;conv=>whnf
 replace h:=Xdg.elim h;obtain ⟨p,hy,h⟩:=h
 refine Xg9.a (Xsd hy) ?_
 conv=>whnf
 refine br.h h (by rfl) ?_ ?_
 ·clear h;intro hb h;conv=>whnf
  exact W
 clear h;intro hb h;conv=>whnf
 refine br.h2 h (by rfl) ?_ ?_
 ·clear h;intro hb h;conv=>whnf
  exact W
 clear h;intro hb h;conv=>whnf
 refine br.h h (by rfl) ?_ ?_
 ·clear h;intro hb h;conv=>whnf
  refine br.pos ?_ ?_;(focus (clear h;first|assumption|(simp_all;done)))
  conv=>whnf
  exact W
 clear h;intro hb h;conv=>whnf
 exact W
def Xis:XhE:=Xpt Xa7 XaB Xa3 Xai Xad
theorem XJ1:XbM Tryz.prog 168 (s168 Xis):=by
 have hL:=XDf Xa7 XaB Xa3 Xai Xad (Xak.XaM ⟨XAF,XrO,XsK,Xog,XqG,trivial⟩)
 exact okA ⟨Tryz.f168,rfl,by decide,rfl⟩
def Xst (n:Int):Option Bool:=
 cond (decide (n≥0))
  (
  some (decide (n≤65535)))
  (
  some (false))
def XFo (x:Bool):XcU:=⟨.bool x,[],[]⟩
abbrev Xi2:=Int→Option Bool
def r127 (g:Xi2):Dec:=dV (asI .i64) fun (y0:Int)=>XdX (ofG (g y0) XFo)
theorem XQz {g:Xi2} {y0:Int} {x:Bool} (hx:g y0=some x):r127 g [.int .i64 y0] []=some (XFo x):=(XaS (XeL _)).trans (XaQ hx)
def s127 (g:Xi2):XbE:=⟨[.v],r127 g⟩
theorem XJV {g:Xi2} {y0:Int} {x:Bool} (hx:g y0=some x):(s127 g).run [.int .i64 y0] []=some (XFo x):=XQz hx
abbrev XPj:List (Nat×XbE):=[]
theorem XCP (hS:Xak Tryz.prog (XaD (XPj))) (n:Int) (res:Bool) (h:Xst n=some res) :
 XaG Tryz.prog 127 0 ⟨⟨127,9,[(0,.int .i64 n)],[.code XJb],[],false,none⟩,[],[],0⟩ (fun v H _=>Res 0 (XFo res) v H):=by
 unfold Xst at h
 refine Xa6 XaE hS true 3000 ?_
 conv=>whnf
 exact W
def XjO:Xi2:=Xst
theorem XO2:XbM Tryz.prog 127 (s127 XjO):=by
 have hL:=XCP (Xak.XaM trivial)
 exact okA ⟨Tryz.f127,rfl,by decide,rfl⟩
def Xpk (Xa4:Xcn) (Xe1:Xgc) (Xdh:Xe6) (Xbv:XcD) (XjO:Xi2) (ha0:XaH) (src:Xaa) (dst:Xaa) (payload:List UInt8):Option ((List UInt8)×Int):=
 (Xbv src dst 17 (wI .i64 (8+(payload.length:Int)))).bind fun p=>
 (XjO ha0.SPort).bind fun i=>
 cond (!i)
  (
  some (([],1)))
  (
  (XjO ha0.DPort).bind fun i1=>
  cond (!i1)
   (
   some (([],1)))
   (
   cond (p==[])
    (
    some (([],1)))
    (
    let t:=decide ((wI .i64 (8+(payload.length:Int)))>65535)
    cond (t)
     (
     some (([],5)))
     (
     (Xa4 (wI .u64 ha0.SPort) 2).bind fun p1=>
     (Xa4 (wI .u64 ha0.DPort) 2).bind fun p2=>
     Xbh (decide (p1.length+p2.length<2^63)) <|
     let t1:=wI .u64 (wI .i64 (8+(payload.length:Int)))
     (Xa4 t1 2).bind fun p3=>
     Xbh (decide ((p1++p2).length+p3.length<2^63)) <|
     Xbh (decide (((p1++p2)++p3).length+2<2^63)) <|
     Xbh (decide ((((p1++p2)++p3)++[0,0]).length+payload.length<2^63)) <|
     let t2:=(((p1++p2)++p3)++[0,0])++payload
     Xbh (decide (p.length+t2.length<2^63)) <|
     (Xe1 (p++t2)).bind fun xo=>
     cond (xo==0)
      (
      (Xdh t2 6 2 65535).bind fun s=>
      some ((s,0)))
      (
      (Xdh t2 6 2 (wI .u64 xo)).bind fun s1=>
      some ((s1,0)))))))
def rx75 (x:(List UInt8)×Int):XcU:=⟨.tuple ⟨[.string ⟨⟨x.1⟩⟩,.int .i64 x.2]⟩,[],[]⟩
abbrev XhO:=XaH→Xaa→Xaa→(List UInt8)→Option ((List UInt8)×Int)
def r75 (g:XhO):Dec:=dV Xkv fun (y0:XaH)=>dV Xb6 fun (y1:Xaa)=>dV Xb6 fun (y2:Xaa)=>dV asS fun (y3:List UInt8)=>XdX (ofG (g y0 y1 y2 y3) rx75)
theorem r75_c {g:XhO} {y0:XaH} {y1:Xaa} {y2:Xaa} {y3:List UInt8} {x:(List UInt8)×Int} (hx:g y0 y1 y2 y3=some x):r75 g [.agg ⟨[.int .i64 y0.SPort,.int .i64 y0.DPort]⟩,.agg ⟨[.bool y1.V6,.int .u64 y1.Hi,.int .u64 y1.Lo]⟩,.agg ⟨[.bool y2.V6,.int .u64 y2.Hi,.int .u64 y2.Lo]⟩,.string ⟨⟨y3⟩⟩] []=some (rx75 x):=(XaS (XoJ _)).trans ((XaS (XbP _)).trans ((XaS (XbP _)).trans ((XaS (Xd4)).trans (XaQ hx))))
def s75 (g:XhO):XbE:=⟨[.v,.v,.v,.v],r75 g⟩
theorem XUL {g:XhO} {y0:XaH} {y1:Xaa} {y2:Xaa} {y3:List UInt8} {x:(List UInt8)×Int} (hx:g y0 y1 y2 y3=some x):(s75 g).run [.agg ⟨[.int .i64 y0.SPort,.int .i64 y0.DPort]⟩,.agg ⟨[.bool y1.V6,.int .u64 y1.Hi,.int .u64 y1.Lo]⟩,.agg ⟨[.bool y2.V6,.int .u64 y2.Hi,.int .u64 y2.Lo]⟩,.string ⟨⟨y3⟩⟩] []=some (rx75 x):=r75_c hx
abbrev XVz (Xa4:Xcn) (Xe1:Xgc) (Xdh:Xe6) (Xbv:XcD) (XjO:Xi2):List (Nat×XbE):=[(63,s63 Xa4),(65,s65 Xe1),(64,s64 Xdh),(101,XRy Xbv),(127,s127 XjO)]
theorem XK4 (Xa4:Xcn) (Xe1:Xgc) (Xdh:Xe6) (Xbv:XcD) (XjO:Xi2) (hS:Xak Tryz.prog (XaD (XVz Xa4 Xe1 Xdh Xbv XjO))) (ha0:XaH) (src:Xaa) (dst:Xaa) (payload:List UInt8) (res:(List UInt8)×Int) (h:Xpk Xa4 Xe1 Xdh Xbv XjO ha0 src dst payload=some res) :
 XaG Tryz.prog 75 0 ⟨⟨75,63,[(0,.agg ⟨[.int .i64 ha0.SPort,.int .i64 ha0.DPort]⟩),(1,.agg ⟨[.bool src.V6,.int .u64 src.Hi,.int .u64 src.Lo]⟩),(2,.agg ⟨[.bool dst.V6,.int .u64 dst.Hi,.int .u64 dst.Lo]⟩),(3,.string ⟨⟨payload⟩⟩)],[.code XId],[],false,none⟩,[],[],0⟩ (fun v H _=>Res 0 (rx75 res) v H):=by
 unfold Xpk at h
 have R1:=@XuP Xbv
 have R2:=@XJV XjO
 have R3:=@Xq0 Xa4
 have R4:=@XJD Xe1
 have R5:=@XJz Xdh
 refine Xa6 XaE hS true 3000 ?_
 conv=>whnf
 exact W
def Xiy:XhO:=Xpk Xa4 Xe1 Xdh Xbv XjO
theorem XWB:XbM Tryz.prog 75 (s75 Xiy):=by
 have hL:=XK4 Xa4 Xe1 Xdh Xbv XjO (Xak.XaM ⟨Xrg,XIt,XIm,Xt2,XO2,trivial⟩)
 exact okA ⟨Tryz.f75,rfl,by decide,rfl⟩
def Xo9 (Xao:XbC) (Xcm:XdJ) (Xbv:XcD) (s:List UInt8) (src:Xaa) (dst:Xaa):Option (XaH×(List UInt8)×Int):=
 cond (decide ((s.length:Int)<8))
  (
  some ((XaH.mk 0 0,[],2)))
  (
  (Xao s 4 2).bind fun m=>
  cond (decide (m<8))
   (
   some ((XaH.mk 0 0,[],3)))
   (
   cond (decide ((s.length:Int)<m))
    (
    some ((XaH.mk 0 0,[],2)))
    (
    (Xbv src dst 17 m).bind fun p=>
    cond (p==[])
     (
     some ((XaH.mk 0 0,[],1)))
     (
     (Xao s 6 2).bind fun m1=>
     cond (m1==0)
      (
      cond (src.V6)
       (
       some ((XaH.mk 0 0,[],4)))
       (
       (Xao s 0 2).bind fun m2=>
       (Xao s 2 2).bind fun m3=>
       Xbh (decide ((0:Int)≤m∧m≤(s.length:Int)∧(0:Int)≤(8:Int)∧(8:Int)≤(m.toNat:Int))) <|
       some ((XaH.mk m2 m3,(s.drop 8).take (m.toNat - 8),0))))
      (
      Xbh (decide ((0:Int)≤m∧m≤(s.length:Int))) <|
      Xbh (decide (p.length+(s.take m.toNat).length<2^63)) <|
      (Xcm (p++(s.take m.toNat))).bind fun s1=>
      cond (s1 !=65535)
       (
       some ((XaH.mk 0 0,[],4)))
       (
       (Xao s 0 2).bind fun m4=>
       (Xao s 2 2).bind fun m5=>
       Xbh (decide ((0:Int)≤m∧m≤(s.length:Int)∧(0:Int)≤(8:Int)∧(8:Int)≤(m.toNat:Int))) <|
       some ((XaH.mk m4 m5,(s.drop 8).take (m.toNat - 8),0))))))))
def XCO (x:XaH×(List UInt8)×Int):XcU:=⟨.tuple ⟨[.agg ⟨[.int .i64 x.1.SPort,.int .i64 x.1.DPort]⟩,.string ⟨⟨x.2.1⟩⟩,.int .i64 x.2.2]⟩,[],[]⟩
abbrev Xhv:=(List UInt8)→Xaa→Xaa→Option (XaH×(List UInt8)×Int)
def r108 (g:Xhv):Dec:=dV asS fun (y0:List UInt8)=>dV Xb6 fun (y1:Xaa)=>dV Xb6 fun (y2:Xaa)=>XdX (ofG (g y0 y1 y2) XCO)
theorem XRn {g:Xhv} {y0:List UInt8} {y1:Xaa} {y2:Xaa} {x:XaH×(List UInt8)×Int} (hx:g y0 y1 y2=some x):r108 g [.string ⟨⟨y0⟩⟩,.agg ⟨[.bool y1.V6,.int .u64 y1.Hi,.int .u64 y1.Lo]⟩,.agg ⟨[.bool y2.V6,.int .u64 y2.Hi,.int .u64 y2.Lo]⟩] []=some (XCO x):=(XaS (Xd4)).trans ((XaS (XbP _)).trans ((XaS (XbP _)).trans (XaQ hx)))
def s108 (g:Xhv):XbE:=⟨[.v,.v,.v],r108 g⟩
theorem XLo {g:Xhv} {y0:List UInt8} {y1:Xaa} {y2:Xaa} {x:XaH×(List UInt8)×Int} (hx:g y0 y1 y2=some x):(s108 g).run [.string ⟨⟨y0⟩⟩,.agg ⟨[.bool y1.V6,.int .u64 y1.Hi,.int .u64 y1.Lo]⟩,.agg ⟨[.bool y2.V6,.int .u64 y2.Hi,.int .u64 y2.Lo]⟩] []=some (XCO x):=XRn hx
abbrev XOD (Xao:XbC) (Xcm:XdJ) (Xbv:XcD):List (Nat×XbE):=[(88,s88 Xao),(86,s86 Xcm),(101,XRy Xbv)]
theorem XCk (Xao:XbC) (Xcm:XdJ) (Xbv:XcD) (hS:Xak Tryz.prog (XaD (XOD Xao Xcm Xbv))) (s:List UInt8) (src:Xaa) (dst:Xaa) (res:XaH×(List UInt8)×Int) (h:Xo9 Xao Xcm Xbv s src dst=some res) :
 XaG Tryz.prog 108 0 ⟨⟨108,54,[(0,.string ⟨⟨s⟩⟩),(1,.agg ⟨[.bool src.V6,.int .u64 src.Hi,.int .u64 src.Lo]⟩),(2,.agg ⟨[.bool dst.V6,.int .u64 dst.Hi,.int .u64 dst.Lo]⟩)],[.code XyD],[],false,none⟩,[],[],0⟩ (fun v H _=>Res 0 (XCO res) v H):=by
 unfold Xo9 at h
 have R1:=@XoK Xao
 have R2:=@XuP Xbv
 have R3:=@Xu6 Xcm
 refine Xa6 XaE hS true 3000 ?_
 conv=>whnf
 exact W
def Xit:Xhv:=Xo9 Xao Xcm Xbv
theorem XLi:XbM Tryz.prog 108 (s108 Xit):=by
 have hL:=XCk Xao Xcm Xbv (Xak.XaM ⟨Xql,Xv4,Xt2,trivial⟩)
 exact okA ⟨Tryz.f108,rfl,by decide,rfl⟩
end Go.Vm.Code
namespace Go.Vm.Code
open Go Go.Vm
def port (n:Int):Bool:=decide (0≤n∧n≤65535)
theorem port_eq (n:Int):Xfr n=some (port n):=by
 unfold Xfr XnT port
 by_cases h:0≤n
 ·rw [XaP h];simp [h]
 ·rw [XaK h];simp [h]
theorem XJr (n:Int):XjO n=some (port n):=by
 unfold XjO Xst port
 by_cases h:0≤n
 ·rw [XaP (by omega)];simp [h]
 ·rw [XaK (by omega)];simp [h]
theorem XjU {n:Int}:port n=true↔0≤n∧n≤65535:=by unfold port;simp
def u8 (h:XaH) (l:List UInt8):List UInt8:=XcF h.SPort 2++XcF h.DPort 2++XcF (8+l.length) 2++[0,0]++l
theorem XAG {h:XaH} {l:List UInt8}:(u8 h l).length≤26+l.length:=by
 have l1:=Xbc h.SPort 2
 have l2:=Xbc h.DPort 2
 have l3:=Xbc (8+l.length) 2
 unfold u8;simp only [List.length_append,List.length_cons,List.length_nil];omega
def ck8 (p t:List UInt8):Int:=if norm (Xfj (p++t))=65535 then 65535 else 65535 - (norm (Xfj (p++t)):Nat)
def Xmq (h:XaH) (src dst:Xaa) (l:List UInt8):List UInt8×Int:=
 if (port h.SPort&&port h.DPort)=false then ([],1) else if Xma src dst 17 (8+l.length)=[] then ([],1) else if 65535<8+l.length then ([],5) else
  (Xq7 (u8 h l) 6 2 (ck8 (Xma src dst 17 (8+l.length)) (u8 h l)),0)
theorem XON {p t:List UInt8} (hp:p.length≤2^30) (ht:t.length≤2^30):((Xbw (p++t)).bind fun xo=>cond (xo==0) ((XaW t 6 2 65535).bind fun s=>some (s,(0:Int))) ((XaW t 6 2 (wI .u64 xo)).bind fun s1=>some (s1,0)))=some (Xq7 t 6 2 (ck8 p t),0):=by
 have:=norm_le (Xfj (p++t))
 rw [XCw (by simp only [List.length_append];omega),Option.bind_some]
 unfold ck8
 by_cases h:norm (Xfj (p++t))=65535
 ·rw [if_pos h,h]
  show ((XaW t 6 2 65535).bind _)=_
  rw [XvW (by omega) (by omega)];rfl
 ·rw [if_neg h,show ((65535 - ((norm (Xfj (p++t)):Nat):Int))==0)=false by simp;omega,cond_false,XfY (by omega) (by omega),XvW (by omega) (by omega)];rfl
theorem XCD {p t:List UInt8} (hp:p.length≤2^30) (ht:t.length≤2^30):((Xe1 (p++t)).bind fun xo=>cond (xo==0) ((Xdh t 6 2 65535).bind fun s=>some (s,(0:Int))) ((Xdh t 6 2 (wI .u64 xo)).bind fun s1=>some (s1,0)))=some (Xq7 t 6 2 (ck8 p t),0):=by
 have:=norm_le (Xfj (p++t))
 rw [Xqk (by simp only [List.length_append];omega),Option.bind_some]
 unfold ck8
 by_cases h:norm (Xfj (p++t))=65535
 ·rw [if_pos h,h]
  show ((Xdh t 6 2 65535).bind _)=_
  rw [Xl4 (by omega) (by omega) (by omega)];rfl
 ·rw [if_neg h,show ((65535 - ((norm (Xfj (p++t)):Nat):Int))==0)=false by simp;omega,cond_false,XfY (by omega) (by omega),Xl4 (by omega) (by omega) (by omega)];rfl
theorem XOe {h:XaH} {src dst:Xaa} {l:List UInt8} (h1:A4 src) (h2:A4 dst) (hl:l.length<2^20):XiG h src dst l=some (Xmq h src dst l):=by
 unfold XiG XoX Xmq
 rw [XdT (n:=8+(l.length:Int)) (by omega) (by omega),Xnc h1 h2 (by omega) (by omega),port_eq,port_eq]
 have hp:=XjT src dst 17 (8+(l.length:Int))
 generalize Xma src dst 17 (8+(l.length:Int))=p at *
 simp only [Option.bind_some]
 cases e1:port h.SPort
 ·rfl
 cases e2:port h.DPort
 ·rfl
 simp only [Bool.not_true,cond_false,Bool.and_self]
 by_cases e3:p=[]
 ·subst e3;rfl
 rw [show (p==[])=false by simpa using e3,cond_false,if_neg (by decide),if_neg e3]
 by_cases e4:8+(l.length:Int)>65535
 ·rw [XaP e4,if_pos (by omega)]
 rw [XaK e4,if_neg (by omega)]
 have p1:=XjU.1 e1
 have p2:=XjU.1 e2
 have l1:=Xbc h.SPort 2
 have l2:=Xbc h.DPort 2
 have l3:=Xbc (8+(l.length:Int)) 2
 rw [XfY p1.1 (by omega),Xbu p1.1,Option.bind_some,Xar (by omega)]
 obtain ⟨n,hn⟩:=XtP
 rw [hn]
 have s1:XeR Xbw XaW Xaj h l p 1 (bI (XcF h.SPort 2))=some (.inl (2,bI (XcF h.SPort 2++XcF h.DPort 2))):=by
  unfold XeR
  rw [XaP (by omega),Xar (by omega)]
  show ((some h.DPort).bind _)=_
  rw [Option.bind_some,XfY p2.1 (by omega),Xbu p2.1,Option.bind_some,Xar (by simp;omega),Xre];rfl
 have s2:XeR Xbw XaW Xaj h l p 2 (bI (XcF h.SPort 2++XcF h.DPort 2))=some (.inl (3,bI (XcF h.SPort 2++XcF h.DPort 2++XcF (8+(l.length:Int)) 2))):=by
  unfold XeR
  rw [XaP (by omega),Xar (by omega)]
  show ((some (wI .i64 (8+(l.length:Int)))).bind _)=_
  rw [Option.bind_some,XdT (n:=8+(l.length:Int)) (by omega) (by omega),XfY (by omega) (by omega),Xbu (by omega),Option.bind_some,Xar (by simp;omega),Xre (XcF h.SPort 2++XcF h.DPort 2)];rfl
 have s3:XeR Xbw XaW Xaj h l p 3 (bI (XcF h.SPort 2++XcF h.DPort 2++XcF (8+(l.length:Int)) 2))=some (.inl (4,bI (XcF h.SPort 2++XcF h.DPort 2++XcF (8+(l.length:Int)) 2++[0,0]))):=by
  unfold XeR
  rw [XaP (by omega),Xar (by omega)]
  show ((some (0:Int)).bind _)=_
  rw [Option.bind_some,XfY (n:=0) (by omega) (by omega),Xbu (by omega),Option.bind_some,show XcF 0 2=[0,0] from rfl,Xar (by simp;omega),Xre (XcF h.SPort 2++XcF h.DPort 2++XcF (8+(l.length:Int)) 2)];rfl
 have s4:XeR Xbw XaW Xaj h l p 4 (bI (XcF h.SPort 2++XcF h.DPort 2++XcF (8+(l.length:Int)) 2++[0,0]))=some (.inr (Xq7 (u8 h l) 6 2 (ck8 p (u8 h l)),0)):=by
  unfold XeR
  have hu:=XAG (h:=h) (l:=l)
  have e:iB (bI (XcF h.SPort 2++XcF h.DPort 2++XcF (8+(l.length:Int)) 2++[0,0])++bI l)=u8 h l:=by rw [←Xre,XF1];rfl
  rw [XaK (by omega),Xar (by simp only [XI7,List.length_append,List.length_cons,List.length_nil];omega)]
  simp only [e]
  rw [Xar (by simp only [XI7,List.length_append,List.length_cons,List.length_nil];omega),Xar (by omega)]
  have:=XON (p:=p) (t:=u8 h l) (by omega) (by omega)
  rw [XCw (by simp only [List.length_append];omega),Option.bind_some] at this ⊢
  cases hx:((65535 - ((norm (Xfj (p++u8 h l)):Nat):Int))==0)<;>rw [hx] at this
  ·simp only [cond_false] at this ⊢
   obtain ⟨s,a,b⟩:=Xdg.elim this
   cases b
   rw [a,Option.bind_some]
  ·simp only [cond_true] at this ⊢
   obtain ⟨s,a,b⟩:=Xdg.elim this
   cases b
   rw [a,Option.bind_some]
 rw [Xnp (f:=fun (st:Int×List Int)=>XeR Xbw XaW Xaj h l p st.1 st.2) (n:=n+7) s1,Xnp (n:=n+6) s2,Xnp (n:=n+5) s3,Xv6 (n:=n+4) s4]
theorem XEH {h:XaH} {src dst:Xaa} {l:List UInt8} (h1:A4 src) (h2:A4 dst) (hl:l.length<2^20):Xiy h src dst l=some (Xmq h src dst l):=by
 unfold Xiy Xpk Xmq
 rw [XdT (n:=8+(l.length:Int)) (by omega) (by omega),Xmm h1 h2 (by omega) (by omega),XJr,XJr]
 have hp:=XjT src dst 17 (8+(l.length:Int))
 generalize Xma src dst 17 (8+(l.length:Int))=p at *
 simp only [Option.bind_some]
 cases e1:port h.SPort
 ·rfl
 cases e2:port h.DPort
 ·rfl
 simp only [Bool.not_true,cond_false,Bool.and_self]
 by_cases e3:p=[]
 ·subst e3;rfl
 rw [show (p==[])=false by simpa using e3,cond_false,if_neg (by decide),if_neg e3]
 by_cases e4:8+(l.length:Int)>65535
 ·rw [XaP e4,if_pos (by omega)]
 rw [XaK e4,if_neg (by omega)]
 have p1:=XjU.1 e1
 have p2:=XjU.1 e2
 have l1:=Xbc h.SPort 2
 have l2:=Xbc h.DPort 2
 have l3:=Xbc (8+(l.length:Int)) 2
 have hu:=XAG (h:=h) (l:=l)
 rw [XfY p1.1 (by omega),XfY p2.1 (by omega),XfY (n:=8+(l.length:Int)) (by omega) (by omega),Xdb p1.1 (by omega),Xdb p2.1 (by omega),Xdb (n:=8+(l.length:Int)) (by omega) (by omega)]
 simp only [Option.bind_some]
 have e:XcF h.SPort 2++XcF h.DPort 2++XcF (8+(l.length:Int)) 2++[0,0]++l=u8 h l:=rfl
 rw [Xar (by omega),Xar (by simp only [List.length_append];omega),Xar (by simp only [List.length_append];omega),Xar (by simp only [List.length_append,List.length_cons,List.length_nil];omega),e,Xar (by omega)]
 exact XCD (by omega) (by omega)
def v2 (s:List UInt8) (p:Nat):Int:=(Xfu ((s.drop p).take 2):Nat)
theorem XxP (s:List UInt8) (p:Nat):0≤v2 s p∧v2 s p<65536:=by
 have:=Xfn (l:=s.drop p) (k:=2) 65536 (by decide)
 unfold v2;omega
theorem XGi {s:List UInt8} {p:Nat} (hs:s.length<2^61) (h:p+2≤s.length):Xao s (p:Int) 2=some (v2 s p):=by
 rw [Xir hs,Xi7 (by omega) (by omega) (by omega) (by omega)]
 have:=XxP s p
 show some (wI .i64 (v2 s p))=_
 rw [XdT (by omega) (by omega)]
theorem XVj {r:Xah} (h:r.made=true) (hl:r.s.length<2^61):Xad r 2=some (rdn r 2,rdr r 2):=by
 rw [Xh4 h hl,if_neg (by omega)]
theorem XrY {s:List UInt8} (h:2≤s.length) (hl:s.length<2^61):Xad ⟨s,true,false⟩ 2=some (v2 s 0,⟨s.drop 2,true,false⟩):=by
 rw [XVj rfl hl,Xjx (by omega) (by omega)]
 unfold rdn
 rw [if_neg (by omega),XjA (by omega) (by omega)];rfl
theorem XKl (s:List UInt8) (p q:Nat):v2 (s.drop p) q=v2 s (p+q):=by unfold v2;rw [List.drop_drop]
def XsM:XaH:=⟨0,0⟩
def XjH (s:List UInt8) (src dst:Xaa):XaH×List UInt8×Int:=
 if s.length<8 then (XsM,[],2) else if v2 s 4<8 then (XsM,[],3) else if (s.length:Int)<v2 s 4 then (XsM,[],2) else if Xma src dst 17 (v2 s 4)=[] then (XsM,[],1) else
  if v2 s 6=0 then (if src.V6=true then (XsM,[],4) else (⟨v2 s 0,v2 s 2⟩,(s.drop 8).take ((v2 s 4).toNat - 8),0)) else
   if norm (Xfj (Xma src dst 17 (v2 s 4)++s.take (v2 s 4).toNat))≠65535 then (XsM,[],4) else (⟨v2 s 0,v2 s 2⟩,(s.drop 8).take ((v2 s 4).toNat - 8),0)
theorem XPA {s:List UInt8} {src dst:Xaa} (h1:A4 src) (h2:A4 dst) (hs:s.length<2^38):Xis s src dst=some (XjH s src dst):=by
 unfold Xis Xpt XjH
 rw [Xqj,Option.bind_some]
 by_cases h8:s.length<8
 ·rw [if_pos h8]
  have m1:=Xh2 ⟨s,true,false⟩ 2
  have m2:=Xh2 (rdr ⟨s,true,false⟩ 2) 2
  have m3:=Xh2 (rdr (rdr ⟨s,true,false⟩ 2) 2) 2
  have m4:=Xh2 (rdr (rdr (rdr ⟨s,true,false⟩ 2) 2) 2) 2
  have k1:=Xot ⟨s,true,false⟩ 2
  have k2:=Xot (rdr ⟨s,true,false⟩ 2) 2
  have k3:=Xot (rdr (rdr ⟨s,true,false⟩ 2) 2) 2
  simp only at k1
  rw [XVj rfl (by simp only;omega),Option.bind_some]
  rw [XVj m1 (by omega),Option.bind_some]
  rw [XVj m2 (by omega),Option.bind_some]
  rw [XVj m3 (by omega),Option.bind_some,Xgj m4,Option.bind_some]
  have hb:(rdr (rdr (rdr (rdr ⟨s,true,false⟩ 2) 2) 2) 2).bad=true:=by
   cases hb:(rdr (rdr (rdr (rdr ⟨s,true,false⟩ 2) 2) 2) 2).bad
   ·exfalso
    obtain ⟨b3,l3⟩:=XiI rfl hb
    obtain ⟨b2,l2⟩:=XiI rfl b3
    obtain ⟨b1,l1⟩:=XiI rfl b2
    obtain ⟨b0,l0⟩:=XiI rfl b1
    simp only at l0
    omega
   ·rfl
  simp only [hb,cond_true];rfl
 ·rw [if_neg h8]
  rw [XrY (by omega) (by omega),Option.bind_some,XrY (by simp;omega) (by simp;omega),Option.bind_some]
  simp only [List.drop_drop]
  rw [XrY (by simp;omega) (by simp;omega),Option.bind_some]
  simp only [List.drop_drop]
  rw [XrY (by simp;omega) (by simp;omega),Option.bind_some,Xgj rfl,Option.bind_some]
  simp only [cond_false,XKl,Nat.add_zero,Nat.reduceAdd]
  have r4:=XxP s 4
  have hp:=XjT src dst 17 (v2 s 4)
  have hz:(⟨0,0⟩:XaH)=XsM:=rfl
  rw [hz]
  generalize hm:v2 s 4=m at *
  by_cases g1:m<8
  ·rw [XaP g1,if_pos g1]
  rw [XaK g1,if_neg g1]
  by_cases g2:(s.length:Int)<m
  ·rw [XaP (by omega),if_pos g2]
  rw [XaK (by omega),if_neg g2,Xnc h1 h2 (by omega) (by omega),Option.bind_some]
  generalize Xma src dst 17 m=p at *
  by_cases g3:p=[]
  ·subst g3;rw [if_pos rfl];rfl
  rw [if_neg g3,show (p==[])=false by simpa using g3,cond_false]
  have hr:Xa7 (p++s.take m.toNat)=some (((norm (Xfj (p++s.take m.toNat)):Nat):Int)==65535):=Xr7 (by simp;omega)
  by_cases g4:v2 s 6=0
  ·rw [if_pos g4,g4]
   simp only [beq_self_eq_true,cond_true,bne_self_eq_false,cond_false]
   cases src.V6
   ·rw [if_neg (by decide),cond_false,Xar (by omega)]
   ·rw [if_pos rfl,cond_true]
  ·rw [if_neg g4,show (v2 s 6==0)=false by simpa using g4,show (v2 s 6 !=0)=true by simpa using g4]
   simp only [cond_false,cond_true]
   rw [Xar (by omega),Xar (by simp only [List.length_take];omega),hr,Option.bind_some,Xar (by omega)]
   by_cases g5:norm (Xfj (p++s.take m.toNat))=65535
   ·rw [if_neg (by simpa using g5),g5];rfl
   ·rw [if_pos (by simpa using g5),show ((((norm (Xfj (p++s.take m.toNat)):Nat):Int)==65535))=false by simp;omega];rfl
theorem XDG {s:List UInt8} {src dst:Xaa} (h1:A4 src) (h2:A4 dst) (hs:s.length<2^38):Xit s src dst=some (XjH s src dst):=by
 unfold Xit Xo9 XjH
 by_cases h8:s.length<8
 ·rw [if_pos h8,XaP (by omega)];rfl
 rw [if_neg h8,XaK (by omega),show (4:Int)=((4:Nat):Int) from rfl,show (6:Int)=((6:Nat):Int) from rfl,show Xao s 0 2=Xao s ((0:Nat):Int) 2 from rfl,show Xao s 2 2=Xao s ((2:Nat):Int) 2 from rfl,XGi (by omega) (by omega),XGi (by omega) (by omega),XGi (by omega) (by omega),XGi (by omega) (by omega)]
 simp only [Option.bind_some]
 have r4:=XxP s 4
 have hp:=XjT src dst 17 (v2 s 4)
 have hz:(⟨0,0⟩:XaH)=XsM:=rfl
 rw [hz]
 generalize hm:v2 s 4=m at *
 by_cases g1:m<8
 ·rw [XaP g1,if_pos g1]
 rw [XaK g1,if_neg g1]
 by_cases g2:(s.length:Int)<m
 ·rw [XaP (by omega),if_pos g2]
 rw [XaK (by omega),if_neg g2,Xmm h1 h2 (by omega) (by omega),Option.bind_some]
 generalize Xma src dst 17 m=p at *
 by_cases g3:p=[]
 ·subst g3;rw [if_pos rfl];rfl
 rw [if_neg g3,show (p==[])=false by simpa using g3,cond_false]
 by_cases g4:v2 s 6=0
 ·rw [if_pos g4,g4]
  simp only [beq_self_eq_true,cond_true]
  cases src.V6
  ·rw [if_neg (by decide),cond_false,Xar (by omega)]
  ·rw [if_pos rfl,cond_true]
 ·rw [if_neg g4,show (v2 s 6==0)=false by simpa using g4]
  simp only [cond_false]
  rw [Xar (by omega),Xar (by simp only [List.length_take];omega),Xl5 (by simp;omega),Option.bind_some,Xar (by omega)]
  by_cases g5:norm (Xfj (p++s.take m.toNat))=65535
  ·rw [if_neg (by simpa using g5),g5];rfl
  ·rw [if_pos (by simpa using g5),show ((((norm (Xfj (p++s.take m.toNat)):Nat):Int) !=65535))=true by simp;omega];rfl
end Go.Vm.Code
namespace Go.Vm.Code
open Go Go.Vm Go.Proofs
set_option maxRecDepth 100000
set_option maxHeartbeats 4000000
set_option linter.unusedVariables false
def XkR (XaC:XbW) (Xeo:Xfk) (XeU:XfU) (t:Xag) (body:List UInt8):Option ((List UInt8)×Int):=
 cond (t.Proto==6)
  (
  cond (!(t.Src.V6==t.Dst.V6))
   (
   some (([],1)))
   (
   (XaC t.Src).bind fun xr=>
   cond (!xr)
    (
    some (([],1)))
    (
    (XaC t.Dst).bind fun xr1=>
    cond (!xr1)
     (
     some (([],1)))
     (
     cond (t.Src.V6)
      (
      (XeU (Xaq.mk 0 0 t.Proto 64 t.Src t.Dst) body).bind fun p=>
      cond (p.2==0)
       (
       cond (decide ((p.1.length:Int)>9000))
        (
        some (([],5)))
        (
        some ((p.1,p.2))))
       (
       some ((p.1,p.2))))
      (
      (Xeo (Xal.mk 0 0 true 64 t.Proto t.Src t.Dst []) body).bind fun p1=>
      cond (p1.2==0)
       (
       cond (decide ((p1.1.length:Int)>9000))
        (
        some (([],5)))
        (
        some ((p1.1,p1.2))))
       (
       some ((p1.1,p1.2))))))))
  (
  cond (!(t.Proto==17))
   (
   some (([],1)))
   (
   cond (!(t.Src.V6==t.Dst.V6))
    (
    some (([],1)))
    (
    (XaC t.Src).bind fun xr2=>
    cond (!xr2)
     (
     some (([],1)))
     (
     (XaC t.Dst).bind fun xr3=>
     cond (!xr3)
      (
      some (([],1)))
      (
      cond (t.Src.V6)
       (
       (XeU (Xaq.mk 0 0 t.Proto 64 t.Src t.Dst) body).bind fun p2=>
       cond (p2.2==0)
        (
        cond (decide ((p2.1.length:Int)>9000))
         (
         some (([],5)))
         (
         some ((p2.1,p2.2))))
        (
        some ((p2.1,p2.2))))
       (
       (Xeo (Xal.mk 0 0 true 64 t.Proto t.Src t.Dst []) body).bind fun p3=>
       cond (p3.2==0)
        (
        cond (decide ((p3.1.length:Int)>9000))
         (
         some (([],5)))
         (
         some ((p3.1,p3.2))))
        (
        some ((p3.1,p3.2)))))))))
def XDE (x:(List UInt8)×Int):XcU:=⟨.tuple ⟨[.string ⟨⟨x.1⟩⟩,.int .i64 x.2]⟩,[],[]⟩
abbrev Xea:=Xag→(List UInt8)→Option ((List UInt8)×Int)
def r161 (g:Xea):Dec:=dV Xd6 fun (y0:Xag)=>dV asS fun (y1:List UInt8)=>XdX (ofG (g y0 y1) XDE)
theorem XQs {g:Xea} {y0:Xag} {y1:List UInt8} {x:(List UInt8)×Int} (hx:g y0 y1=some x):r161 g [.agg ⟨[.int .i64 y0.Proto,.bool y0.Src.V6,.int .u64 y0.Src.Hi,.int .u64 y0.Src.Lo,.bool y0.Dst.V6,.int .u64 y0.Dst.Hi,.int .u64 y0.Dst.Lo,.int .i64 y0.SPort,.int .i64 y0.DPort]⟩,.string ⟨⟨y1⟩⟩] []=some (XDE x):=(XaS (Xer _)).trans ((XaS (Xd4)).trans (XaQ hx))
def s161 (g:Xea):XbE:=⟨[.v,.v],r161 g⟩
theorem XBq {g:Xea} {y0:Xag} {y1:List UInt8} {x:(List UInt8)×Int} (hx:g y0 y1=some x):(s161 g).run [.agg ⟨[.int .i64 y0.Proto,.bool y0.Src.V6,.int .u64 y0.Src.Hi,.int .u64 y0.Src.Lo,.bool y0.Dst.V6,.int .u64 y0.Dst.Hi,.int .u64 y0.Dst.Lo,.int .i64 y0.SPort,.int .i64 y0.DPort]⟩,.string ⟨⟨y1⟩⟩] []=some (XDE x):=XQs hx
abbrev XOO (XaC:XbW) (Xeo:Xfk) (XeU:XfU):List (Nat×XbE):=[(110,XKN XaC),(185,s185 Xeo),(184,s184 XeU)]
theorem XFE (XaC:XbW) (Xeo:Xfk) (XeU:XfU) (hS:Xak Tryz.prog (XaD (XOO XaC Xeo XeU))) (t:Xag) (body:List UInt8) (res:(List UInt8)×Int) (h:XkR XaC Xeo XeU t body=some res) :
 XaG Tryz.prog 161 0 ⟨⟨161,76,[(0,.agg ⟨[.int .i64 t.Proto,.bool t.Src.V6,.int .u64 t.Src.Hi,.int .u64 t.Src.Lo,.bool t.Dst.V6,.int .u64 t.Dst.Hi,.int .u64 t.Dst.Lo,.int .i64 t.SPort,.int .i64 t.DPort]⟩),(1,.string ⟨⟨body⟩⟩)],[.code XBo],[],false,none⟩,[],[],0⟩ (fun v H _=>Res 0 (XDE res) v H):=by
 unfold XkR at h
 have R1:=@Xp8 XaC
 have R2:=@XL5 XeU
 have R3:=@XK9 Xeo
 refine Xa6 XaE hS true 3000 ?_
 conv=>whnf
 exact W
def Xcv:Xea:=XkR XaC Xeo XeU
theorem XAt:XbM Tryz.prog 161 (s161 Xcv):=by
 have hL:=XFE XaC Xeo XeU (Xak.XaM ⟨XpD,XNJ,XPx,trivial⟩)
 exact okA ⟨Tryz.f161,rfl,by decide,rfl⟩
def Xh5 (Xcv:Xea) (Xiq:Xhw) (t:Xag) (flags:Int) (options:List UInt8) (payload:List UInt8):Option ((List UInt8)×Int):=
 cond (t.Proto !=6)
  (
  some (([],1)))
  (
  (Xiq (Xaz.mk t.SPort t.DPort 0 0 flags 65535 0 options) t.Src t.Dst payload).bind fun p=>
  cond (p.2 !=0)
   (
   some (([],p.2)))
   (
   (Xcv t p.1).bind fun p1=>
   some ((p1.1,p1.2))))
def XEF (x:(List UInt8)×Int):XcU:=⟨.tuple ⟨[.string ⟨⟨x.1⟩⟩,.int .i64 x.2]⟩,[],[]⟩
abbrev Xcx:=Xag→Int→(List UInt8)→(List UInt8)→Option ((List UInt8)×Int)
def r118 (g:Xcx):Dec:=dV Xd6 fun (y0:Xag)=>dV (asI .i64) fun (y1:Int)=>dV asS fun (y2:List UInt8)=>dV asS fun (y3:List UInt8)=>XdX (ofG (g y0 y1 y2 y3) XEF)
theorem XSZ {g:Xcx} {y0:Xag} {y1:Int} {y2:List UInt8} {y3:List UInt8} {x:(List UInt8)×Int} (hx:g y0 y1 y2 y3=some x):r118 g [.agg ⟨[.int .i64 y0.Proto,.bool y0.Src.V6,.int .u64 y0.Src.Hi,.int .u64 y0.Src.Lo,.bool y0.Dst.V6,.int .u64 y0.Dst.Hi,.int .u64 y0.Dst.Lo,.int .i64 y0.SPort,.int .i64 y0.DPort]⟩,.int .i64 y1,.string ⟨⟨y2⟩⟩,.string ⟨⟨y3⟩⟩] []=some (XEF x):=(XaS (Xer _)).trans ((XaS (XeL _)).trans ((XaS (Xd4)).trans ((XaS (Xd4)).trans (XaQ hx))))
def s118 (g:Xcx):XbE:=⟨[.v,.v,.v,.v],r118 g⟩
theorem XzO {g:Xcx} {y0:Xag} {y1:Int} {y2:List UInt8} {y3:List UInt8} {x:(List UInt8)×Int} (hx:g y0 y1 y2 y3=some x):(s118 g).run [.agg ⟨[.int .i64 y0.Proto,.bool y0.Src.V6,.int .u64 y0.Src.Hi,.int .u64 y0.Src.Lo,.bool y0.Dst.V6,.int .u64 y0.Dst.Hi,.int .u64 y0.Dst.Lo,.int .i64 y0.SPort,.int .i64 y0.DPort]⟩,.int .i64 y1,.string ⟨⟨y2⟩⟩,.string ⟨⟨y3⟩⟩] []=some (XEF x):=XSZ hx
abbrev XNF (Xcv:Xea) (Xiq:Xhw):List (Nat×XbE):=[(161,s161 Xcv),(160,s160 Xiq)]
theorem XE3 (Xcv:Xea) (Xiq:Xhw) (hS:Xak Tryz.prog (XaD (XNF Xcv Xiq))) (t:Xag) (flags:Int) (options:List UInt8) (payload:List UInt8) (res:(List UInt8)×Int) (h:Xh5 Xcv Xiq t flags options payload=some res) :
 XaG Tryz.prog 118 0 ⟨⟨118,41,[(0,.agg ⟨[.int .i64 t.Proto,.bool t.Src.V6,.int .u64 t.Src.Hi,.int .u64 t.Src.Lo,.bool t.Dst.V6,.int .u64 t.Dst.Hi,.int .u64 t.Dst.Lo,.int .i64 t.SPort,.int .i64 t.DPort]⟩),(1,.int .i64 flags),(2,.string ⟨⟨options⟩⟩),(3,.string ⟨⟨payload⟩⟩)],[.code XyJ],[],false,none⟩,[],[],0⟩ (fun v H _=>Res 0 (XEF res) v H):=by
 unfold Xh5 at h
 have R1:=@XOf Xiq
 have R2:=@XBq Xcv
 refine Xa6 XaE hS true 3000 ?_
 conv=>whnf
 exact W
def Xbs:Xcx:=Xh5 Xcv Xiq
theorem XAd:XbM Tryz.prog 118 (s118 Xbs):=by
 have hL:=XE3 Xcv Xiq (Xak.XaM ⟨XAt,XPC,trivial⟩)
 exact okA ⟨Tryz.f118,rfl,by decide,rfl⟩
def Xhm (Xcv:Xea) (XiG:XhS) (t:Xag) (payload:List UInt8):Option ((List UInt8)×Int):=
 cond (t.Proto !=17)
  (
  some (([],1)))
  (
  (XiG (XaH.mk t.SPort t.DPort) t.Src t.Dst payload).bind fun p=>
  cond (p.2 !=0)
   (
   some (([],p.2)))
   (
   (Xcv t p.1).bind fun p1=>
   some ((p1.1,p1.2))))
def XG7 (x:(List UInt8)×Int):XcU:=⟨.tuple ⟨[.string ⟨⟨x.1⟩⟩,.int .i64 x.2]⟩,[],[]⟩
abbrev Xdn:=Xag→(List UInt8)→Option ((List UInt8)×Int)
def r163 (g:Xdn):Dec:=dV Xd6 fun (y0:Xag)=>dV asS fun (y1:List UInt8)=>XdX (ofG (g y0 y1) XG7)
theorem XTi {g:Xdn} {y0:Xag} {y1:List UInt8} {x:(List UInt8)×Int} (hx:g y0 y1=some x):r163 g [.agg ⟨[.int .i64 y0.Proto,.bool y0.Src.V6,.int .u64 y0.Src.Hi,.int .u64 y0.Src.Lo,.bool y0.Dst.V6,.int .u64 y0.Dst.Hi,.int .u64 y0.Dst.Lo,.int .i64 y0.SPort,.int .i64 y0.DPort]⟩,.string ⟨⟨y1⟩⟩] []=some (XG7 x):=(XaS (Xer _)).trans ((XaS (Xd4)).trans (XaQ hx))
def s163 (g:Xdn):XbE:=⟨[.v,.v],r163 g⟩
theorem XKW {g:Xdn} {y0:Xag} {y1:List UInt8} {x:(List UInt8)×Int} (hx:g y0 y1=some x):(s163 g).run [.agg ⟨[.int .i64 y0.Proto,.bool y0.Src.V6,.int .u64 y0.Src.Hi,.int .u64 y0.Src.Lo,.bool y0.Dst.V6,.int .u64 y0.Dst.Hi,.int .u64 y0.Dst.Lo,.int .i64 y0.SPort,.int .i64 y0.DPort]⟩,.string ⟨⟨y1⟩⟩] []=some (XG7 x):=XTi hx
abbrev XKB (Xcv:Xea) (XiG:XhS):List (Nat×XbE):=[(161,s161 Xcv),(188,s188 XiG)]
theorem XEX (Xcv:Xea) (XiG:XhS) (hS:Xak Tryz.prog (XaD (XKB Xcv XiG))) (t:Xag) (payload:List UInt8) (res:(List UInt8)×Int) (h:Xhm Xcv XiG t payload=some res) :
 XaG Tryz.prog 163 0 ⟨⟨163,33,[(0,.agg ⟨[.int .i64 t.Proto,.bool t.Src.V6,.int .u64 t.Src.Hi,.int .u64 t.Src.Lo,.bool t.Dst.V6,.int .u64 t.Dst.Hi,.int .u64 t.Dst.Lo,.int .i64 t.SPort,.int .i64 t.DPort]⟩),(1,.string ⟨⟨payload⟩⟩)],[.code XyE],[],false,none⟩,[],[],0⟩ (fun v H _=>Res 0 (XG7 res) v H):=by
 unfold Xhm at h
 have R1:=@XMb XiG
 have R2:=@XBq Xcv
 refine Xa6 XaE hS true 3000 ?_
 conv=>whnf
 exact W
def Xcz:Xdn:=Xhm Xcv XiG
theorem XOt:XbM Tryz.prog 163 (s163 Xcz):=by
 have hL:=XEX Xcv XiG (Xak.XaM ⟨XAt,XOi,trivial⟩)
 exact okA ⟨Tryz.f163,rfl,by decide,rfl⟩
def Xpi (XaN:Xce) (XhY:XhI) (Xib:XhJ) (t:Xag) (body:List UInt8):Option ((List UInt8)×Int):=
 cond (!(t.Src.V6==t.Dst.V6))
  (
  some (([],1)))
  (
  (XaN t.Src).bind fun xr=>
  cond (!xr)
   (
   some (([],1)))
   (
   (XaN t.Dst).bind fun xr1=>
   cond (!xr1)
    (
    some (([],1)))
    (
    cond (t.Proto !=6)
     (
     cond (t.Proto !=17)
      (
      some (([],1)))
      (
      (Xib (Xaq.mk 0 0 t.Proto 64 t.Src t.Dst) body).bind fun p=>
      cond (!t.Src.V6)
       (
       (XhY (Xal.mk 0 0 true 64 t.Proto t.Src t.Dst []) body).bind fun p1=>
       cond (p1.2==0)
        (
        cond (decide ((p1.1.length:Int)>9000))
         (
         some (([],5)))
         (
         some ((p1.1,p1.2))))
        (
        some ((p1.1,p1.2))))
       (
       cond (p.2==0)
        (
        cond (decide ((p.1.length:Int)>9000))
         (
         some (([],5)))
         (
         some ((p.1,p.2))))
        (
        some ((p.1,p.2))))))
     (
     (Xib (Xaq.mk 0 0 t.Proto 64 t.Src t.Dst) body).bind fun p2=>
     cond (!t.Src.V6)
      (
      (XhY (Xal.mk 0 0 true 64 t.Proto t.Src t.Dst []) body).bind fun p3=>
      cond (p3.2==0)
       (
       cond (decide ((p3.1.length:Int)>9000))
        (
        some (([],5)))
        (
        some ((p3.1,p3.2))))
       (
       some ((p3.1,p3.2))))
      (
      cond (p2.2==0)
       (
       cond (decide ((p2.1.length:Int)>9000))
        (
        some (([],5)))
        (
        some ((p2.1,p2.2))))
       (
       some ((p2.1,p2.2))))))))
def rx61 (x:(List UInt8)×Int):XcU:=⟨.tuple ⟨[.string ⟨⟨x.1⟩⟩,.int .i64 x.2]⟩,[],[]⟩
abbrev XgZ:=Xag→(List UInt8)→Option ((List UInt8)×Int)
def r61 (g:XgZ):Dec:=dV Xd6 fun (y0:Xag)=>dV asS fun (y1:List UInt8)=>XdX (ofG (g y0 y1) rx61)
theorem r61_c {g:XgZ} {y0:Xag} {y1:List UInt8} {x:(List UInt8)×Int} (hx:g y0 y1=some x):r61 g [.agg ⟨[.int .i64 y0.Proto,.bool y0.Src.V6,.int .u64 y0.Src.Hi,.int .u64 y0.Src.Lo,.bool y0.Dst.V6,.int .u64 y0.Dst.Hi,.int .u64 y0.Dst.Lo,.int .i64 y0.SPort,.int .i64 y0.DPort]⟩,.string ⟨⟨y1⟩⟩] []=some (rx61 x):=(XaS (Xer _)).trans ((XaS (Xd4)).trans (XaQ hx))
def s61 (g:XgZ):XbE:=⟨[.v,.v],r61 g⟩
theorem XTn {g:XgZ} {y0:Xag} {y1:List UInt8} {x:(List UInt8)×Int} (hx:g y0 y1=some x):(s61 g).run [.agg ⟨[.int .i64 y0.Proto,.bool y0.Src.V6,.int .u64 y0.Src.Hi,.int .u64 y0.Src.Lo,.bool y0.Dst.V6,.int .u64 y0.Dst.Hi,.int .u64 y0.Dst.Lo,.int .i64 y0.SPort,.int .i64 y0.DPort]⟩,.string ⟨⟨y1⟩⟩] []=some (rx61 x):=r61_c hx
abbrev XQA (XaN:Xce) (XhY:XhI) (Xib:XhJ):List (Nat×XbE):=[(59,s59 XaN),(104,s104 XhY),(103,s103 Xib)]
theorem XP3 (XaN:Xce) (XhY:XhI) (Xib:XhJ) (hS:Xak Tryz.prog (XaD (XQA XaN XhY Xib))) (t:Xag) (body:List UInt8) (res:(List UInt8)×Int) (h:Xpi XaN XhY Xib t body=some res) :
 XaG Tryz.prog 61 0 ⟨⟨61,74,[(0,.agg ⟨[.int .i64 t.Proto,.bool t.Src.V6,.int .u64 t.Src.Hi,.int .u64 t.Src.Lo,.bool t.Dst.V6,.int .u64 t.Dst.Hi,.int .u64 t.Dst.Lo,.int .i64 t.SPort,.int .i64 t.DPort]⟩),(1,.string ⟨⟨body⟩⟩)],[.code XHR],[],false,none⟩,[],[],0⟩ (fun v H _=>Res 0 (rx61 res) v H):=by
 unfold Xpi at h
 have R1:=@Xtd XaN
 have R2:=@XJR Xib
 have R3:=@XKD XhY
 refine Xa6 XaE hS true 3000 ?_
 conv=>whnf
 exact W
def Xg3:XgZ:=Xpi XaN XhY Xib
theorem XRv:XbM Tryz.prog 61 (s61 Xg3):=by
 have hL:=XP3 XaN XhY Xib (Xak.XaM ⟨XtI,XJS,XPK,trivial⟩)
 exact okA ⟨Tryz.f61,rfl,by decide,rfl⟩
def XoG (XpX:XqO) (Xg3:XgZ) (t:Xag) (flags:Int) (options:List UInt8) (payload:List UInt8):Option ((List UInt8)×Int):=
 cond (t.Proto !=6)
  (
  some (([],1)))
  (
  (XpX (Xaz.mk t.SPort t.DPort 0 0 flags 65535 0 options) t.Src t.Dst payload).bind fun p=>
  cond (p.2 !=0)
   (
   some (([],p.2)))
   (
   (Xg3 t p.1).bind fun p1=>
   some ((p1.1,p1.2))))
abbrev Xj1:=Xag→Int→(List UInt8)→(List UInt8)→Option ((List UInt8)×Int)
def XgJ:Xj1:=XoG XpX Xg3
def Xjm (Xiy:XhO) (Xg3:XgZ) (t:Xag) (payload:List UInt8):Option ((List UInt8)×Int):=
 cond (t.Proto !=17)
  (
  some (([],1)))
  (
  (Xiy (XaH.mk t.SPort t.DPort) t.Src t.Dst payload).bind fun p=>
  cond (p.2 !=0)
   (
   some (([],p.2)))
   (
   (Xg3 t p.1).bind fun p1=>
   some ((p1.1,p1.2))))
def rx44 (x:(List UInt8)×Int):XcU:=⟨.tuple ⟨[.string ⟨⟨x.1⟩⟩,.int .i64 x.2]⟩,[],[]⟩
abbrev XcJ:=Xag→(List UInt8)→Option ((List UInt8)×Int)
def r44 (g:XcJ):Dec:=dV Xd6 fun (y0:Xag)=>dV asS fun (y1:List UInt8)=>XdX (ofG (g y0 y1) rx44)
theorem r44_c {g:XcJ} {y0:Xag} {y1:List UInt8} {x:(List UInt8)×Int} (hx:g y0 y1=some x):r44 g [.agg ⟨[.int .i64 y0.Proto,.bool y0.Src.V6,.int .u64 y0.Src.Hi,.int .u64 y0.Src.Lo,.bool y0.Dst.V6,.int .u64 y0.Dst.Hi,.int .u64 y0.Dst.Lo,.int .i64 y0.SPort,.int .i64 y0.DPort]⟩,.string ⟨⟨y1⟩⟩] []=some (rx44 x):=(XaS (Xer _)).trans ((XaS (Xd4)).trans (XaQ hx))
def s44 (g:XcJ):XbE:=⟨[.v,.v],r44 g⟩
theorem XQM {g:XcJ} {y0:Xag} {y1:List UInt8} {x:(List UInt8)×Int} (hx:g y0 y1=some x):(s44 g).run [.agg ⟨[.int .i64 y0.Proto,.bool y0.Src.V6,.int .u64 y0.Src.Hi,.int .u64 y0.Src.Lo,.bool y0.Dst.V6,.int .u64 y0.Dst.Hi,.int .u64 y0.Dst.Lo,.int .i64 y0.SPort,.int .i64 y0.DPort]⟩,.string ⟨⟨y1⟩⟩] []=some (rx44 x):=r44_c hx
abbrev XSk (Xiy:XhO) (Xg3:XgZ):List (Nat×XbE):=[(75,s75 Xiy),(61,s61 Xg3)]
theorem XOC (Xiy:XhO) (Xg3:XgZ) (hS:Xak Tryz.prog (XaD (XSk Xiy Xg3))) (t:Xag) (payload:List UInt8) (res:(List UInt8)×Int) (h:Xjm Xiy Xg3 t payload=some res) :
 XaG Tryz.prog 44 0 ⟨⟨44,33,[(0,.agg ⟨[.int .i64 t.Proto,.bool t.Src.V6,.int .u64 t.Src.Hi,.int .u64 t.Src.Lo,.bool t.Dst.V6,.int .u64 t.Dst.Hi,.int .u64 t.Dst.Lo,.int .i64 t.SPort,.int .i64 t.DPort]⟩),(1,.string ⟨⟨payload⟩⟩)],[.code XIJ],[],false,none⟩,[],[],0⟩ (fun v H _=>Res 0 (rx44 res) v H):=by
 unfold Xjm at h
 have R1:=@XUL Xiy
 have R2:=@XTn Xg3
 refine Xa6 XaE hS true 3000 ?_
 conv=>whnf
 exact W
def XbF:XcJ:=Xjm Xiy Xg3
theorem lift44:XbM Tryz.prog 44 (s44 XbF):=by
 have hL:=XOC Xiy Xg3 (Xak.XaM ⟨XWB,XRv,trivial⟩)
 exact okA ⟨Tryz.f44,rfl,by decide,rfl⟩
end Go.Vm.Code
namespace Go.Vm.Code
open Go Go.Vm
theorem A4.Xri {a:Xaa} (h:A4 a):Xls a:=⟨⟨h.1,h.2.1⟩,h.2.2.1,h.2.2.2⟩
def XnS (t:Xag):Xaq:=⟨0,0,t.Proto,64,t.Src,t.Dst⟩
def Xk7 (t:Xag):Xal:=⟨0,0,true,64,t.Proto,t.Src,t.Dst,[]⟩
def XnL (t:Xag) (b:List UInt8):List UInt8×Int:=cond t.Src.V6 (XKP (XnS t) b) (XLO (Xk7 t) b)
def Xg6 (t:Xag) (b:List UInt8):List UInt8×Int:=
 if t.Src.V6≠t.Dst.V6∨aok t.Src=false∨aok t.Dst=false∨(t.Proto≠6∧t.Proto≠17) then ([],1) else
  if (XnL t b).2=0∧9000<(XnL t b).1.length then ([],5) else XnL t b
theorem XQ5 (r:List UInt8×Int):(cond (r.2==0) (cond (decide ((r.1.length:Int)>9000)) (some (([],5):List UInt8×Int)) (some (r.1,r.2))) (some (r.1,r.2)))=some (if r.2=0∧9000<r.1.length then ([],5) else r):=by
 by_cases h:r.2=0
 ·rw [show (r.2==0)=true by simpa using h,cond_true]
  by_cases h2:9000<r.1.length
  ·rw [XaP (by omega),if_pos ⟨h,h2⟩]
  ·rw [XaK (by omega),if_neg (fun x=>h2 x.2)]
 ·rw [show (r.2==0)=false by simpa using h,cond_false,if_neg (fun x=>h x.1)]
theorem XtN {t:Xag} {b:List UInt8} (h1:A4 t.Src) (h2:A4 t.Dst) (hb:b.length<2^20):Xg3 t b=some (Xg6 t b):=by
 unfold Xg3 Xpi Xg6
 by_cases g1:t.Src.V6=t.Dst.V6
 ·rw [show (!(t.Src.V6==t.Dst.V6))=false by simp [g1],cond_false,Xju,Xju,Option.bind_some,Option.bind_some]
  cases g2:aok t.Src
  ·rw [if_pos (.inr (.inl rfl))];rfl
  cases g3:aok t.Dst
  ·rw [if_pos (.inr (.inr (.inl rfl)))];rfl
  rw [Bool.not_true,cond_false,cond_false,XFd (h:=⟨0,0,t.Proto,64,t.Src,t.Dst⟩) h1.Xri h2.Xri (by omega),XRe (h:=⟨0,0,true,64,t.Proto,t.Src,t.Dst,[]⟩) h1 h2 (by omega) (by simp)]
  simp only [Option.bind_some,XQ5]
  by_cases g4:t.Proto=6
  ·rw [show (t.Proto !=6)=false by simpa using g4,cond_false,if_neg (show ¬ (t.Src.V6≠t.Dst.V6∨true=false∨true=false∨(t.Proto≠6∧t.Proto≠17)) from fun h=>h.elim (fun x=>x g1) fun h=>h.elim (fun x=>by cases x) fun h=>h.elim (fun x=>by cases x) fun x=>x.1 g4)]
   unfold XnL Xk7 XnS
   cases t.Src.V6<;>rfl
  ·rw [show (t.Proto !=6)=true by simpa using g4,cond_true]
   by_cases g5:t.Proto=17
   ·rw [show (t.Proto !=17)=false by simpa using g5,cond_false,if_neg (show ¬ (t.Src.V6≠t.Dst.V6∨true=false∨true=false∨(t.Proto≠6∧t.Proto≠17)) from fun h=>h.elim (fun x=>x g1) fun h=>h.elim (fun x=>by cases x) fun h=>h.elim (fun x=>by cases x) fun x=>x.2 g5)]
    unfold XnL Xk7 XnS
    cases t.Src.V6<;>rfl
   ·rw [show (t.Proto !=17)=true by simpa using g5,cond_true,if_pos (.inr (.inr (.inr ⟨g4,g5⟩)))]
 ·rw [show (!(t.Src.V6==t.Dst.V6))=true by simp [g1],cond_true,if_pos (.inl g1)]
def XwJ (t:Xag) (flags:Int) (o l:List UInt8):List UInt8×Int:=
 if t.Proto≠6 then ([],1) else if (Xuy ⟨t.SPort,t.DPort,0,0,flags,65535,0,o⟩ t.Src t.Dst l).2≠0 then ([],(Xuy ⟨t.SPort,t.DPort,0,0,flags,65535,0,o⟩ t.Src t.Dst l).2) else Xg6 t (Xuy ⟨t.SPort,t.DPort,0,0,flags,65535,0,o⟩ t.Src t.Dst l).1
def Xjk (t:Xag) (l:List UInt8):List UInt8×Int:=
 if t.Proto≠17 then ([],1) else if (Xmq ⟨t.SPort,t.DPort⟩ t.Src t.Dst l).2≠0 then ([],(Xmq ⟨t.SPort,t.DPort⟩ t.Src t.Dst l).2) else Xg6 t (Xmq ⟨t.SPort,t.DPort⟩ t.Src t.Dst l).1
theorem XvO (h:Xaz) (src dst:Xaa) (l:List UInt8):(Xuy h src dst l).1.length≤20+h.Options.length+l.length:=by
 unfold Xuy
 split
 ·simp
 split
 ·simp
 split
 ·simp
 ·simp only [List.length_append,Xuh];omega
theorem Xr9 (h:XaH) (src dst:Xaa) (l:List UInt8):(Xmq h src dst l).1.length≤34+l.length:=by
 unfold Xmq
 split
 ·simp
 split
 ·simp
 split
 ·simp
 ·have:=XAG (h:=h) (l:=l)
  have:=Xo0 (u8 h l) 6 2 (ck8 (Xma src dst 17 (8+l.length)) (u8 h l))
  simp only [];omega
theorem Xs8 {t:Xag} {flags:Int} {o l:List UInt8} (h1:A4 t.Src) (h2:A4 t.Dst) (ho:o.length<2^18) (hl:l.length<2^18):XgJ t flags o l=some (XwJ t flags o l):=by
 unfold XgJ XoG XwJ
 by_cases g:t.Proto=6
 ·have hw:W7 ⟨t.SPort,t.DPort,0,0,flags,65535,0,o⟩:=⟨⟨by simp only [];omega,by simp only [];omega⟩,by simp only [];omega,by simp only [];omega⟩
  have hlen:=XvO ⟨t.SPort,t.DPort,0,0,flags,65535,0,o⟩ t.Src t.Dst l
  simp only at hlen
  rw [show (t.Proto !=6)=false by simpa using g,cond_false,XCK hw h1 h2 (by omega) (by simp only [];omega),Option.bind_some,if_neg (by simpa using g)]
  by_cases g2:(Xuy ⟨t.SPort,t.DPort,0,0,flags,65535,0,o⟩ t.Src t.Dst l).2=0
  ·rw [show ((Xuy ⟨t.SPort,t.DPort,0,0,flags,65535,0,o⟩ t.Src t.Dst l).2 !=0)=false by simpa using g2,cond_false,if_neg (by simpa using g2),XtN h1 h2 (by omega)];rfl
  ·rw [show ((Xuy ⟨t.SPort,t.DPort,0,0,flags,65535,0,o⟩ t.Src t.Dst l).2 !=0)=true by simpa using g2,cond_true,if_pos g2]
 ·rw [show (t.Proto !=6)=true by simpa using g,cond_true,if_pos g]
theorem XzC {t:Xag} {l:List UInt8} (h1:A4 t.Src) (h2:A4 t.Dst) (hl:l.length<2^18):XbF t l=some (Xjk t l):=by
 unfold XbF Xjm Xjk
 by_cases g:t.Proto=17
 ·have hlen:=Xr9 ⟨t.SPort,t.DPort⟩ t.Src t.Dst l
  rw [show (t.Proto !=17)=false by simpa using g,cond_false,XEH h1 h2 (by omega),Option.bind_some,if_neg (by simpa using g)]
  by_cases g2:(Xmq ⟨t.SPort,t.DPort⟩ t.Src t.Dst l).2=0
  ·rw [show ((Xmq ⟨t.SPort,t.DPort⟩ t.Src t.Dst l).2 !=0)=false by simpa using g2,cond_false,if_neg (by simpa using g2),XtN h1 h2 (by omega)];rfl
  ·rw [show ((Xmq ⟨t.SPort,t.DPort⟩ t.Src t.Dst l).2 !=0)=true by simpa using g2,cond_true,if_pos g2]
 ·rw [show (t.Proto !=17)=true by simpa using g,cond_true,if_pos g]
theorem XrN {t:Xag} {b:List UInt8} (h:(Xg6 t b).2=0):t.Src.V6=t.Dst.V6∧aok t.Src=true∧aok t.Dst=true∧(t.Proto=6∨t.Proto=17)∧(Xg6 t b).1.length≤9000 ∧
 ((t.Src.V6=true∧H6 (XnS t)∧b.length≤65535∧Xg6 t b=(headB (XnS t) b.length++b,0))∨(t.Src.V6=false∧H5 (Xk7 t)=true∧20+b.length≤65535∧Xg6 t b=(hc5 (Xk7 t) (20+b.length) (ck5 (Xk7 t) (20+b.length))++b,0))):=by
 unfold Xg6 at h ⊢
 by_cases g:t.Src.V6≠t.Dst.V6∨aok t.Src=false∨aok t.Dst=false∨(t.Proto≠6∧t.Proto≠17)
 ·rw [if_pos g] at h;exact absurd h (by decide)
 rw [if_neg g] at h ⊢
 by_cases g2:(XnL t b).2=0∧9000<(XnL t b).1.length
 ·rw [if_pos g2] at h;exact absurd h (by decide)
 rw [if_neg g2] at h ⊢
 have hlen:(XnL t b).1.length≤9000:=by
  rcases Nat.lt_or_ge 9000 (XnL t b).1.length with x|x
  ·exact absurd ⟨h,x⟩ g2
  ·exact x
 have e1:t.Src.V6=t.Dst.V6:=Decidable.byContradiction fun x=>g (.inl x)
 have e2:aok t.Src=true:=by cases x:aok t.Src;· exact absurd (.inr (.inl x)) g
                            ·rfl
 have e3:aok t.Dst=true:=by cases x:aok t.Dst;· exact absurd (.inr (.inr (.inl x))) g
                            ·rfl
 have e4:t.Proto=6∨t.Proto=17:=by
  rcases Decidable.em (t.Proto=6) with x|x
  ·exact .inl x
  ·exact .inr (Decidable.byContradiction fun y=>g (.inr (.inr (.inr ⟨x,y⟩))))
 refine ⟨e1,e2,e3,e4,hlen,?_⟩
 unfold XnL at h ⊢
 cases hv:t.Src.V6
 ·right
  rw [hv,cond_false] at h
  rw [cond_false]
  unfold XLO at h ⊢
  cases hh:H5 (Xk7 t)
  ·rw [if_pos hh] at h;exact absurd h (by decide)
  rw [if_neg (by rw [hh];decide)] at h
  rw [if_neg (by decide)]
  by_cases hl:65535 - (20+((Xk7 t).Options.length:Int))<b.length
  ·rw [if_pos hl] at h;exact absurd h (by decide)
  have ho:(Xk7 t).Options.length=0:=rfl
  rw [if_neg hl]
  refine ⟨rfl,rfl,by omega,?_⟩
  rw [show (20+((Xk7 t).Options.length:Int)+b.length)=((20+b.length:Nat):Int) by omega,XTJ hv (by rw [←hv];exact e1.symm),XQK]
  have:(65535 - ((norm (Xfj (hc5 (Xk7 t) (20+b.length) 0)):Nat):Int)).toNat=ck5 (Xk7 t) (20+b.length):=by
   have:=norm_le (Xfj (hc5 (Xk7 t) (20+b.length) 0))
   unfold ck5;omega
  rw [this]
 ·left
  rw [hv,cond_true] at h
  rw [cond_true]
  unfold XKP at h ⊢
  by_cases hh:H6 (XnS t)
  ·rw [if_neg (by simpa using hh)] at h ⊢
   by_cases hl:b.length>65535
   ·rw [if_pos hl] at h;exact absurd h (by decide)
   rw [if_neg hl]
   exact ⟨rfl,hh,by omega,rfl⟩
  ·rw [if_pos hh] at h;exact absurd h (by decide)
theorem XwW:∀ i:Fin 16,i.val≠14→Nat.testBit 18446744073709535231 i.val=true:=by decide +kernel
theorem XwP {x:Nat} (hx:x<65536):x &&& 18446744073709535231=0↔x=0∨x=16384:=by
 constructor
 ·intro h
  have hbit:∀ i,i≠14→x.testBit i=false:=by
   intro i hi
   by_cases h16:i<16
   ·have h1:(x &&& 18446744073709535231).testBit i=false:=by rw [h];exact Nat.zero_testBit i
    rw [Nat.testBit_and,XwW ⟨i,h16⟩ hi,Bool.and_true] at h1
    exact h1
   ·exact Nat.testBit_lt_two_pow (Nat.lt_of_lt_of_le hx (by
     have:2^16≤2^i:=Nat.pow_le_pow_right (by decide) (by omega)
     omega))
  cases h14:x.testBit 14
  ·left
   apply Nat.eq_of_testBit_eq
   intro i
   rw [Nat.zero_testBit]
   by_cases hi:i=14
   ·rw [hi,h14]
   ·exact hbit i hi
  ·right
   apply Nat.eq_of_testBit_eq
   intro i
   rw [show (16384:Nat)=2^14 from rfl,Nat.testBit_two_pow]
   by_cases hi:i=14
   ·rw [hi,h14];rfl
   ·rw [hbit i hi,decide_eq_false (fun e=>hi e.symm)]
 ·rintro (h|h)
  ·rw [h];rfl
  ·rw [h];rfl
theorem XRH {x:Nat} (hx:x<65536):XDx .i64 (x:Int) 16384=((x &&& 18446744073709535231:Nat):Int):=by
 have h:x &&& 18446744073709535231≤x:=Nat.and_le_left
 show IntKind.wrap .i64 _=_
 rw [show IntKind.bits .i64=64 from rfl,BitVec.toNat_and,XK8 (by omega),show (~~~ (BitVec.ofInt 64 16384)).toNat=18446744073709535231 from rfl]
 exact XdT (by omega) (by omega)
theorem XyV {a b:UInt8}:(XDx .i64 ((a.toNat:Int)*256+b.toNat) 16384 !=0)=decide ((a.toNat:Int)*256+b.toNat≠0∧(a.toNat:Int)*256+b.toNat≠16384):=by
 have h1:=a.toNat_lt
 have h2:=b.toNat_lt
 have hx:a.toNat*256+b.toNat<65536:=by omega
 rw [show (a.toNat:Int)*256+b.toNat=((a.toNat*256+b.toNat:Nat):Int) by omega,XRH hx,Bool.eq_iff_iff,bne_iff_ne,decide_eq_true_eq]
 have hz:=XwP hx
 generalize a.toNat*256+b.toNat=x at *
 generalize x &&& 18446744073709535231=y at *
 constructor
 ·intro h
  have:¬ (x=0∨x=16384):=fun e=>h (by have:=hz.2 e;omega)
  omega
 ·intro h e
  have:=hz.1 (by omega)
  omega
end Go.Vm.Code
namespace Go.Vm.Code
open Go Go.Vm Go.Proofs
set_option maxRecDepth 100000
set_option maxHeartbeats 4000000
set_option linter.unusedVariables false
def XlQ (Xbf:XcO) (s:List UInt8):Option (Xaa×Bool):=
 cond ((s.length:Int)==4)
  (
  (Xbf s 0 4).bind fun xg=>
  some ((Xaa.mk false 0 xg.1,true)))
  (
  cond ((s.length:Int)==16)
   (
   (Xbf s 0 8).bind fun xg1=>
   (Xbf s 8 8).bind fun xg2=>
   some ((Xaa.mk true xg1.1 xg2.1,true)))
   (
   some ((Xaa.mk false 0 0,false))))
def XDD (x:Xaa×Bool):XcU:=⟨.tuple ⟨[.agg ⟨[.bool x.1.V6,.int .u64 x.1.Hi,.int .u64 x.1.Lo]⟩,.bool x.2]⟩,[],[]⟩
abbrev XeW:=(List UInt8)→Option (Xaa×Bool)
def r202 (g:XeW):Dec:=dV asS fun (y0:List UInt8)=>XdX (ofG (g y0) XDD)
theorem XQN {g:XeW} {y0:List UInt8} {x:Xaa×Bool} (hx:g y0=some x):r202 g [.string ⟨⟨y0⟩⟩] []=some (XDD x):=(XaS (Xd4)).trans (XaQ hx)
def s202 (g:XeW):XbE:=⟨[.v],r202 g⟩
theorem Xyo {g:XeW} {y0:List UInt8} {x:Xaa×Bool} (hx:g y0=some x):(s202 g).run [.string ⟨⟨y0⟩⟩] []=some (XDD x):=XQN hx
abbrev XOg (Xbf:XcO):List (Nat×XbE):=[(95,s95 Xbf)]
theorem XFI (Xbf:XcO) (hS:Xak Tryz.prog (XaD (XOg Xbf))) (s:List UInt8) (res:Xaa×Bool) (h:XlQ Xbf s=some res) :
 XaG Tryz.prog 202 0 ⟨⟨202,35,[(0,.string ⟨⟨s⟩⟩)],[.code XBi],[],false,none⟩,[],[],0⟩ (fun v H _=>Res 0 (XDD res) v H):=by
 unfold XlQ at h
 have R1:=@XAN Xbf
 refine Xa6 XaE hS true 3000 ?_
 conv=>whnf
 exact W
def Xdo:XeW:=XlQ Xbf
theorem Xzt:XbM Tryz.prog 202 (s202 Xdo):=by
 have hL:=XFI Xbf (Xak.XaM ⟨Xx6,trivial⟩)
 exact okA ⟨Tryz.f202,rfl,by decide,rfl⟩
def Xnu (Xc0:XeG) (s:List UInt8):Option (Xaa×Bool):=
 cond ((s.length:Int)==4)
  (
  (Xc0 s 0 4).bind fun xg=>
  some ((Xaa.mk false 0 xg.1,true)))
  (
  cond ((s.length:Int)==16)
   (
   (Xc0 s 0 8).bind fun xg1=>
   (Xc0 s 8 8).bind fun xg2=>
   some ((Xaa.mk true xg1.1 xg2.1,true)))
   (
   some ((Xaa.mk false 0 0,false))))
def XFA (x:Xaa×Bool):XcU:=⟨.tuple ⟨[.agg ⟨[.bool x.1.V6,.int .u64 x.1.Hi,.int .u64 x.1.Lo]⟩,.bool x.2]⟩,[],[]⟩
abbrev XfC:=(List UInt8)→Option (Xaa×Bool)
def r177 (g:XfC):Dec:=dV asS fun (y0:List UInt8)=>XdX (ofG (g y0) XFA)
theorem XTH {g:XfC} {y0:List UInt8} {x:Xaa×Bool} (hx:g y0=some x):r177 g [.string ⟨⟨y0⟩⟩] []=some (XFA x):=(XaS (Xd4)).trans (XaQ hx)
def s177 (g:XfC):XbE:=⟨[.v],r177 g⟩
theorem Xz3 {g:XfC} {y0:List UInt8} {x:Xaa×Bool} (hx:g y0=some x):(s177 g).run [.string ⟨⟨y0⟩⟩] []=some (XFA x):=XTH hx
abbrev XMi (Xc0:XeG):List (Nat×XbE):=[(87,s87 Xc0)]
theorem XDR (Xc0:XeG) (hS:Xak Tryz.prog (XaD (XMi Xc0))) (s:List UInt8) (res:Xaa×Bool) (h:Xnu Xc0 s=some res) :
 XaG Tryz.prog 177 0 ⟨⟨177,37,[(0,.string ⟨⟨s⟩⟩)],[.code XAJ],[],false,none⟩,[],[],0⟩ (fun v H _=>Res 0 (XFA res) v H):=by
 unfold Xnu at h
 have R1:=@XzU Xc0
 refine Xa6 XaE hS true 3000 ?_
 conv=>whnf
 exact W
def Xd3:XfC:=Xnu Xc0
theorem XAm:XbM Tryz.prog 177 (s177 Xd3):=by
 have hL:=XDR Xc0 (Xak.XaM ⟨Xya,trivial⟩)
 exact okA ⟨Tryz.f177,rfl,by decide,rfl⟩
end Go.Vm.Code
namespace Go.Vm.Code
open Go Go.Vm
theorem XqC {s:List UInt8} (h:s.length=16):Xdo s=some (Xs0 s,true):=by
 unfold Xdo XlQ
 have e1:((s.length:Int)==4)=false:=by rw [h];rfl
 have e2:((s.length:Int)==16)=true:=by rw [h];rfl
 have e3:(s.drop 8).take 8=s.drop 8:=List.take_of_length_le (by simp;omega)
 rw [e1,e2,cond_false,cond_true,XgG (by omega),XgG (by omega),Xi7 (p:=0) (k:=8) (by omega) (by omega) (by omega) (by omega),Xi7 (p:=8) (k:=8) (by omega) (by omega) (by omega) (by omega)]
 show some ((⟨true,((Xfu ((s.drop 0).take 8):Nat):Int),((Xfu ((s.drop 8).take 8):Nat):Int)⟩:Xaa),true)=_
 rw [e3];rfl
theorem Xs2 {s:List UInt8} (h:s.length=16):Xd3 s=some (Xs0 s,true):=by
 unfold Xd3 Xnu
 have e1:((s.length:Int)==4)=false:=by rw [h];rfl
 have e2:((s.length:Int)==16)=true:=by rw [h];rfl
 have e3:(s.drop 8).take 8=s.drop 8:=List.take_of_length_le (by simp;omega)
 rw [e1,e2,cond_false,cond_true,Xkm (by omega),Xkm (by omega),Xi7 (p:=0) (k:=8) (by omega) (by omega) (by omega) (by omega),Xi7 (p:=8) (k:=8) (by omega) (by omega) (by omega) (by omega)]
 show some ((⟨true,((Xfu ((s.drop 0).take 8):Nat):Int),((Xfu ((s.drop 8).take 8):Nat):Int)⟩:Xaa),true)=_
 rw [e3];rfl
def XVg (s:List UInt8) (p:Nat):Xaa:=⟨false,0,vK s p 4⟩
theorem aget4 {s:List UInt8} (h:s.length=4):Xdo s=some (⟨false,0,vK s 0 4⟩,true):=by
 unfold Xdo XlQ
 rw [show ((s.length:Int)==4)=true by rw [h];rfl,cond_true,XgG (by omega),Xi7 (by omega) (by omega) (by omega) (by omega)];rfl
theorem XI0 {s:List UInt8} (h:s.length=4):Xd3 s=some (⟨false,0,vK s 0 4⟩,true):=by
 unfold Xd3 Xnu
 rw [show ((s.length:Int)==4)=true by rw [h];rfl,cond_true,Xkm (by omega),Xi7 (by omega) (by omega) (by omega) (by omega)];rfl
end Go.Vm.Code
namespace Go.Vm.Code
open Go Go.Vm Go.Proofs
set_option maxRecDepth 100000
set_option maxHeartbeats 4000000
set_option linter.unusedVariables false
def XeY (Xdo:XeW) (Xaf:Xaw) (f:Xdv):Option (Xaa×Xah):=
 (Xaf f.Reader 4).bind fun t=>
 (Xdo t.1).bind fun xg=>
 some ((xg.1,t.2))
def XGg (x:Xaa×Xah):XcU:=⟨.agg ⟨[.bool x.1.V6,.int .u64 x.1.Hi,.int .u64 x.1.Lo]⟩,[],[some [.string ⟨⟨x.2.s⟩⟩,.bool x.2.made,.bool x.2.bad]]⟩
abbrev Xcd:=Xdv→Option (Xaa×Xah)
def r201 (g:Xcd):Dec:=dTr 1 (XhZ 0) fun (y0:Xdv)=>XdX (ofG (g y0) XGg)
theorem XSr {g:Xcd} {y0:Xdv} {x:Xaa×Xah} (hx:g y0=some x):r201 g [.agg ⟨[.pointer (some ⟨0,0,none⟩)]⟩] [some [.string ⟨⟨y0.Reader.s⟩⟩,.bool y0.Reader.made,.bool y0.Reader.bad]]=some (XGg x):=(XRX rfl rfl (Xos 0 _)).trans (XaQ hx)
def s201 (g:Xcd):XbE:=⟨[.tr [⟨none,0,0,1,none⟩]],r201 g⟩
theorem XMd {g:Xcd} {y0:Xdv} {x:Xaa×Xah} (hx:g y0=some x):(s201 g).run [.agg ⟨[.pointer (some ⟨0,0,none⟩)]⟩] [some [.string ⟨⟨y0.Reader.s⟩⟩,.bool y0.Reader.made,.bool y0.Reader.bad]]=some (XGg x):=XSr hx
abbrev XNT (Xdo:XeW) (Xaf:Xaw):List (Nat×XbE):=[(202,s202 Xdo),(129,XBS Xaf)]
theorem XGS (Xdo:XeW) (Xaf:Xaw) (hS:Xak Tryz.prog (XaD (XNT Xdo Xaf))) (f:Xdv) (res:Xaa×Xah) (h:XeY Xdo Xaf f=some res) :
 XaG Tryz.prog 201 1 ⟨⟨201,13,[(0,.agg ⟨[.pointer (some ⟨0,0,none⟩)]⟩)],[.code XHL],[],false,none⟩,[],[(0,.cells [.string ⟨⟨f.Reader.s⟩⟩,.bool f.Reader.made,.bool f.Reader.bad])],1⟩ (fun v H _=>Res 1 (XGg res) v H):=by
 unfold XeY at h
 have R1:=@XlU Xaf
 have R2:=@Xyo Xdo
 refine Xa6 XaE hS true 3000 ?_
 conv=>whnf
 exact W
def Xbl:Xcd:=XeY Xdo Xaf
theorem XPt:XbM Tryz.prog 201 (s201 Xbl):=by
 have hL:=XGS Xdo Xaf (Xak.XaM ⟨Xzt,Xlr,trivial⟩)
 exact okA ⟨Tryz.f201,rfl,by decide,rfl⟩
def XkL (Xa7:XcB) (Xbl:Xcd) (Xa3:Xcf) (Xad:XaJ) (Xaf:Xaw) (s:List UInt8):Option (Xal×(List UInt8)×Int):=
 cond (decide ((s.length:Int)<20))
  (
  some ((Xal.mk 0 0 false 0 0 (Xaa.mk false 0 0) (Xaa.mk false 0 0) [],[],2)))
  (
  (Xa3 s).bind fun n=>
  (Xad n 1).bind fun n1=>
  (Xad n1.2 1).bind fun n2=>
  (Xad n2.2 2).bind fun n3=>
  cond ((n1.1.fdiv (2^4)) !=4)
   (
   some ((Xal.mk 0 0 false 0 0 (Xaa.mk false 0 0) (Xaa.mk false 0 0) [],[],3)))
   (
   let t:=decide ((wI .i64 ((Xnr .i64 n1.1 15)*4))<20)
   cond (t)
    (
    some ((Xal.mk 0 0 false 0 0 (Xaa.mk false 0 0) (Xaa.mk false 0 0) [],[],3)))
    (
    let t1:=decide (n3.1<(wI .i64 ((Xnr .i64 n1.1 15)*4)))
    cond (t1)
     (
     some ((Xal.mk 0 0 false 0 0 (Xaa.mk false 0 0) (Xaa.mk false 0 0) [],[],3)))
     (
     cond (decide (n3.1>(s.length:Int)))
      (
      some ((Xal.mk 0 0 false 0 0 (Xaa.mk false 0 0) (Xaa.mk false 0 0) [],[],2)))
      (
      Xbh (decide ((0:Int)≤(wI .i64 ((Xnr .i64 n1.1 15)*4))∧(wI .i64 ((Xnr .i64 n1.1 15)*4))≤(s.length:Int))) <|
      let t2:=s.take (wI .i64 ((Xnr .i64 n1.1 15)*4)).toNat
      (Xa7 t2).bind fun xr=>
      cond (!xr)
       (
       some ((Xal.mk 0 0 false 0 0 (Xaa.mk false 0 0) (Xaa.mk false 0 0) [],[],4)))
       (
       (Xad n3.2 2).bind fun n4=>
       (Xad n4.2 2).bind fun n5=>
       cond ((XDx .i64 n5.1 16384) !=0)
        (
        some ((Xal.mk 0 0 false 0 0 (Xaa.mk false 0 0) (Xaa.mk false 0 0) [],[],7)))
        (
        (Xad n5.2 1).bind fun n6=>
        (Xad n6.2 1).bind fun n7=>
        (Xad n7.2 2).bind fun n8=>
        (Xbl (Xdv.mk n8.2)).bind fun a=>
        (Xbl (Xdv.mk a.2)).bind fun a1=>
        let t3:=wI .i64 ((wI .i64 ((Xnr .i64 n1.1 15)*4)) - 20)
        (Xaf a1.2 t3).bind fun t4=>
        let t5:=wI .i64 (n3.1 - (wI .i64 ((Xnr .i64 n1.1 15)*4)))
        (Xaf t4.2 t5).bind fun t6=>
        some ((Xal.mk n2.1 n4.1 (n5.1 !=0) n6.1 n7.1 a.1 a1.1 t4.1,t6.1,0)))))))))
def XER (x:Xal×(List UInt8)×Int):XcU:=⟨.tuple ⟨[.agg ⟨[.int .i64 x.1.Class,.int .i64 x.1.Mark,.bool x.1.Whole,.int .i64 x.1.TTL,.int .i64 x.1.Proto,.bool x.1.Src.V6,.int .u64 x.1.Src.Hi,.int .u64 x.1.Src.Lo,.bool x.1.Dst.V6,.int .u64 x.1.Dst.Hi,.int .u64 x.1.Dst.Lo,.string ⟨⟨x.1.Options⟩⟩]⟩,.string ⟨⟨x.2.1⟩⟩,.int .i64 x.2.2]⟩,[],[]⟩
abbrev Xfa:=(List UInt8)→Option (Xal×(List UInt8)×Int)
def r190 (g:Xfa):Dec:=dV asS fun (y0:List UInt8)=>XdX (ofG (g y0) XER)
theorem XSY {g:Xfa} {y0:List UInt8} {x:Xal×(List UInt8)×Int} (hx:g y0=some x):r190 g [.string ⟨⟨y0⟩⟩] []=some (XER x):=(XaS (Xd4)).trans (XaQ hx)
def s190 (g:Xfa):XbE:=⟨[.v],r190 g⟩
theorem XOI {g:Xfa} {y0:List UInt8} {x:Xal×(List UInt8)×Int} (hx:g y0=some x):(s190 g).run [.string ⟨⟨y0⟩⟩] []=some (XER x):=XSY hx
abbrev XKC (Xa7:XcB) (Xbl:Xcd) (Xa3:Xcf) (Xad:XaJ) (Xaf:Xaw):List (Nat×XbE):=[(80,s80 Xa7),(201,s201 Xbl),(77,s77 Xa3),(78,s78 Xad),(129,XBS Xaf)]
theorem XHl (Xa7:XcB) (Xbl:Xcd) (Xa3:Xcf) (Xad:XaJ) (Xaf:Xaw) (hS:Xak Tryz.prog (XaD (XKC Xa7 Xbl Xa3 Xad Xaf))) (s:List UInt8) (res:Xal×(List UInt8)×Int) (h:XkL Xa7 Xbl Xa3 Xad Xaf s=some res) :
 XaG Tryz.prog 190 0 ⟨⟨190,102,[(0,.string ⟨⟨s⟩⟩)],[.code Xy6],[],false,none⟩,[],[],0⟩ (fun v H _=>Res 0 (XER res) v H):=by
 unfold XkL at h
 have R1:=@XsP Xa3
 have R2:=@XmI Xad
 have R3:=@Xym Xa7
 have R4:=@XMd Xbl
 have R5:=@XlU Xaf
 refine Xa6 XaE hS true 3000 ?_
 conv=>whnf
 exact W
def XeP:Xfa:=XkL Xa7 Xbl Xa3 Xad Xaf
theorem XNA:XbM Tryz.prog 190 (s190 XeP):=by
 have hL:=XHl Xa7 Xbl Xa3 Xad Xaf (Xak.XaM ⟨XAF,XPt,XsK,XqG,Xlr,trivial⟩)
 exact okA ⟨Tryz.f190,rfl,by decide,rfl⟩
def XoW (Xao:XbC) (Xcm:XdJ) (Xd3:XfC) (s:List UInt8):Option (Xal×(List UInt8)×Int):=
 cond (decide ((s.length:Int)<20))
  (
  some ((Xal.mk 0 0 false 0 0 (Xaa.mk false 0 0) (Xaa.mk false 0 0) [],[],2)))
  (
  (s[0]?).bind fun (b:UInt8)=>
  let t:=wI .i64 (4*(wI .i64 ((b.toNat:Int).tmod 16)))
  (Xao s 2 2).bind fun m=>
  (s[0]?).bind fun (b1:UInt8)=>
  cond ((wI .u8 ((b1.toNat:Int).tdiv 16)) !=4)
   (
   some ((Xal.mk 0 0 false 0 0 (Xaa.mk false 0 0) (Xaa.mk false 0 0) [],[],3)))
   (
   cond (decide (t<20))
    (
    some ((Xal.mk 0 0 false 0 0 (Xaa.mk false 0 0) (Xaa.mk false 0 0) [],[],3)))
    (
    cond (decide (m<t))
     (
     some ((Xal.mk 0 0 false 0 0 (Xaa.mk false 0 0) (Xaa.mk false 0 0) [],[],3)))
     (
     cond (decide ((s.length:Int)<m))
      (
      some ((Xal.mk 0 0 false 0 0 (Xaa.mk false 0 0) (Xaa.mk false 0 0) [],[],2)))
      (
      Xbh (decide ((0:Int)≤t∧t≤(s.length:Int))) <|
      (Xcm (s.take t.toNat)).bind fun s1=>
      cond (s1 !=65535)
       (
       some ((Xal.mk 0 0 false 0 0 (Xaa.mk false 0 0) (Xaa.mk false 0 0) [],[],4)))
       (
       (s[6]?).bind fun (b2:UInt8)=>
       cond ((b2.toNat:Int) !=0)
        (
        (s[6]?).bind fun (b3:UInt8)=>
        cond ((b3.toNat:Int) !=64)
         (
         some ((Xal.mk 0 0 false 0 0 (Xaa.mk false 0 0) (Xaa.mk false 0 0) [],[],7)))
         (
         (s[7]?).bind fun (b4:UInt8)=>
         cond ((b4.toNat:Int) !=0)
          (
          some ((Xal.mk 0 0 false 0 0 (Xaa.mk false 0 0) (Xaa.mk false 0 0) [],[],7)))
          (
          Xbh (decide ((0:Int)≤(16:Int)∧(16:Int)≤(s.length:Int)∧(0:Int)≤(12:Int)∧(12:Int)≤(16:Int))) <|
          (Xd3 ((s.drop 12).take 4)).bind fun xg=>
          Xbh (decide ((0:Int)≤(20:Int)∧(20:Int)≤(s.length:Int)∧(0:Int)≤(16:Int)∧(16:Int)≤(20:Int))) <|
          (Xd3 ((s.drop 16).take 4)).bind fun xg1=>
          (s[1]?).bind fun (b5:UInt8)=>
          (Xao s 4 2).bind fun m1=>
          (s[6]?).bind fun (b6:UInt8)=>
          (s[8]?).bind fun (b7:UInt8)=>
          (s[9]?).bind fun (b8:UInt8)=>
          Xbh (decide ((0:Int)≤t∧t≤(s.length:Int)∧(0:Int)≤(20:Int)∧(20:Int)≤(t.toNat:Int))) <|
          Xbh (decide ((0:Int)≤m∧m≤(s.length:Int)∧(0:Int)≤t∧t≤(m.toNat:Int))) <|
          let t1:=(s.drop t.toNat).take (m.toNat - t.toNat)
          some ((Xal.mk (wI .i64 (b5.toNat:Int)) m1 ((b6.toNat:Int)==64) (wI .i64 (b7.toNat:Int)) (wI .i64 (b8.toNat:Int)) xg.1 xg1.1 ((s.drop 20).take (t.toNat - 20)),t1,0)))))
        (
        (s[7]?).bind fun (b9:UInt8)=>
        cond ((b9.toNat:Int) !=0)
         (
         some ((Xal.mk 0 0 false 0 0 (Xaa.mk false 0 0) (Xaa.mk false 0 0) [],[],7)))
         (
         Xbh (decide ((0:Int)≤(16:Int)∧(16:Int)≤(s.length:Int)∧(0:Int)≤(12:Int)∧(12:Int)≤(16:Int))) <|
         (Xd3 ((s.drop 12).take 4)).bind fun xg2=>
         Xbh (decide ((0:Int)≤(20:Int)∧(20:Int)≤(s.length:Int)∧(0:Int)≤(16:Int)∧(16:Int)≤(20:Int))) <|
         (Xd3 ((s.drop 16).take 4)).bind fun xg3=>
         (s[1]?).bind fun (b10:UInt8)=>
         (Xao s 4 2).bind fun m2=>
         (s[6]?).bind fun (b11:UInt8)=>
         (s[8]?).bind fun (b12:UInt8)=>
         (s[9]?).bind fun (b13:UInt8)=>
         Xbh (decide ((0:Int)≤t∧t≤(s.length:Int)∧(0:Int)≤(20:Int)∧(20:Int)≤(t.toNat:Int))) <|
         Xbh (decide ((0:Int)≤m∧m≤(s.length:Int)∧(0:Int)≤t∧t≤(m.toNat:Int))) <|
         let t2:=(s.drop t.toNat).take (m.toNat - t.toNat)
         some ((Xal.mk (wI .i64 (b10.toNat:Int)) m2 ((b11.toNat:Int)==64) (wI .i64 (b12.toNat:Int)) (wI .i64 (b13.toNat:Int)) xg2.1 xg3.1 ((s.drop 20).take (t.toNat - 20)),t2,0))))))))))
def XC1 (x:Xal×(List UInt8)×Int):XcU:=⟨.tuple ⟨[.agg ⟨[.int .i64 x.1.Class,.int .i64 x.1.Mark,.bool x.1.Whole,.int .i64 x.1.TTL,.int .i64 x.1.Proto,.bool x.1.Src.V6,.int .u64 x.1.Src.Hi,.int .u64 x.1.Src.Lo,.bool x.1.Dst.V6,.int .u64 x.1.Dst.Hi,.int .u64 x.1.Dst.Lo,.string ⟨⟨x.1.Options⟩⟩]⟩,.string ⟨⟨x.2.1⟩⟩,.int .i64 x.2.2]⟩,[],[]⟩
abbrev XhP:=(List UInt8)→Option (Xal×(List UInt8)×Int)
def r152 (g:XhP):Dec:=dV asS fun (y0:List UInt8)=>XdX (ofG (g y0) XC1)
theorem XSD {g:XhP} {y0:List UInt8} {x:Xal×(List UInt8)×Int} (hx:g y0=some x):r152 g [.string ⟨⟨y0⟩⟩] []=some (XC1 x):=(XaS (Xd4)).trans (XaQ hx)
def s152 (g:XhP):XbE:=⟨[.v],r152 g⟩
theorem XJP {g:XhP} {y0:List UInt8} {x:Xal×(List UInt8)×Int} (hx:g y0=some x):(s152 g).run [.string ⟨⟨y0⟩⟩] []=some (XC1 x):=XSD hx
abbrev XKr (Xao:XbC) (Xcm:XdJ) (Xd3:XfC):List (Nat×XbE):=[(88,s88 Xao),(86,s86 Xcm),(177,s177 Xd3)]
theorem XD5 (Xao:XbC) (Xcm:XdJ) (Xd3:XfC) (hS:Xak Tryz.prog (XaD (XKr Xao Xcm Xd3))) (s:List UInt8) (res:Xal×(List UInt8)×Int) (h:XoW Xao Xcm Xd3 s=some res) :
 XaG Tryz.prog 152 0 ⟨⟨152,97,[(0,.string ⟨⟨s⟩⟩)],[.code XAB],[],false,none⟩,[],[],0⟩ (fun v H _=>Res 0 (XC1 res) v H):=by
 unfold XoW at h
 have R1:=@XoK Xao
 have R2:=@Xu6 Xcm
 have R3:=@Xz3 Xd3
 refine Xa6 XaE hS true 3000 ?_
 conv=>whnf
 exact W
def XiC:XhP:=XoW Xao Xcm Xd3
theorem XLV:XbM Tryz.prog 152 (s152 XiC):=by
 have hL:=XD5 Xao Xcm Xd3 (Xak.XaM ⟨Xql,Xv4,XAm,trivial⟩)
 exact okA ⟨Tryz.f152,rfl,by decide,rfl⟩
end Go.Vm.Code
namespace Go.Vm.Code
open Go Go.Vm
def Xqg:Xal:=⟨0,0,false,0,0,⟨false,0,0⟩,⟨false,0,0⟩,[]⟩
def XjI (s:List UInt8):Xal×List UInt8×Int:=
 if s.length<20 then (Xqg,[],2) else if vK s 0 1/16≠4 then (Xqg,[],3) else if vK s 0 1%16*4<20 then (Xqg,[],3) else if vK s 2 2<vK s 0 1%16*4 then (Xqg,[],3) else if (s.length:Int)<vK s 2 2 then (Xqg,[],2) else
  if norm (Xfj (s.take (vK s 0 1%16*4).toNat))≠65535 then (Xqg,[],4) else if vK s 6 2≠0∧vK s 6 2≠16384 then (Xqg,[],7) else
   (⟨vK s 1 1,vK s 4 2,vK s 6 2 !=0,vK s 8 1,vK s 9 1,XVg s 12,XVg s 16,(s.drop 20).take ((vK s 0 1%16*4).toNat - 20)⟩,(s.drop (vK s 0 1%16*4).toNat).take ((vK s 2 2).toNat - (vK s 0 1%16*4).toNat),0)
theorem Xzk (s:List UInt8) (p:Nat):vK ((s.drop p).take 4) 0 4=vK s p 4:=by unfold vK;simp [List.take_take]
theorem XQT {s:List UInt8} {p:Nat} (h:p+4≤s.length):Xbl ⟨⟨s.drop p,true,false⟩⟩=some (XVg s p,⟨s.drop (p+4),true,false⟩):=by
 unfold Xbl XeY
 rw [show (4:Int)=((4:Nat):Int) from rfl,Xrs h,Option.bind_some,aget4 (by simp;omega),Option.bind_some,Xzk];rfl
theorem g5_eq {s:List UInt8} (hs:s.length<2^38):XeP s=some (XjI s):=by
 unfold XeP XkL XjI
 by_cases h0:s.length<20
 ·rw [XaP (by omega),if_pos h0];rfl
 rw [XaK (by omega),if_neg h0,Xqj,Option.bind_some]
 have N:∀ (p k:Nat),1≤k→k≤7→p+k≤20→Xad ⟨s.drop p,true,false⟩ (k:Int)=some (vK s p k,⟨s.drop (p+k),true,false⟩):=fun p k a b c=>XJC a b (by omega) (by omega)
 have N0:Xad ⟨s,true,false⟩ 1=some (vK s 0 1,⟨s.drop 1,true,false⟩):=N 0 1 (by omega) (by omega) (by omega)
 have N1:Xad ⟨s.drop 1,true,false⟩ 1=some (vK s 1 1,⟨s.drop 2,true,false⟩):=N 1 1 (by omega) (by omega) (by omega)
 have N2:Xad ⟨s.drop 2,true,false⟩ 2=some (vK s 2 2,⟨s.drop 4,true,false⟩):=N 2 2 (by omega) (by omega) (by omega)
 have N4:Xad ⟨s.drop 4,true,false⟩ 2=some (vK s 4 2,⟨s.drop 6,true,false⟩):=N 4 2 (by omega) (by omega) (by omega)
 have N6:Xad ⟨s.drop 6,true,false⟩ 2=some (vK s 6 2,⟨s.drop 8,true,false⟩):=N 6 2 (by omega) (by omega) (by omega)
 have N8:Xad ⟨s.drop 8,true,false⟩ 1=some (vK s 8 1,⟨s.drop 9,true,false⟩):=N 8 1 (by omega) (by omega) (by omega)
 have N9:Xad ⟨s.drop 9,true,false⟩ 1=some (vK s 9 1,⟨s.drop 10,true,false⟩):=N 9 1 (by omega) (by omega) (by omega)
 have N10:Xad ⟨s.drop 10,true,false⟩ 2=some (vK s 10 2,⟨s.drop 12,true,false⟩):=N 10 2 (by omega) (by omega) (by omega)
 rw [N0,Option.bind_some,N1,Option.bind_some,N2,Option.bind_some]
 simp only []
 rw [N4]
 simp only [Option.bind_some]
 rw [N6,XsS,show ((2:Int)^4)=16 from rfl]
 have r0:=XfQ s 0 1 256 (by decide)
 have r2:=XfQ s 2 2 65536 (by decide)
 have ea:Xnr .i64 (vK s 0 1) 15=vK s 0 1%16:=Xjv 4 rfl (by omega) (by omega) (by omega)
 rw [ea,XdT (n:=vK s 0 1%16*4) (by omega) (by omega)]
 have hz:(⟨0,0,false,0,0,⟨false,0,0⟩,⟨false,0,0⟩,[]⟩:Xal)=Xqg:=rfl
 rw [hz]
 by_cases g1:vK s 0 1/16=4
 ·rw [show (vK s 0 1/16 !=4)=false by simpa using g1,cond_false,if_neg (by simpa using g1)]
  obtain ⟨t,ht⟩:=Int.eq_ofNat_of_zero_le (show 0≤vK s 0 1%16*4 by omega)
  rw [ht]
  simp only [Option.bind_some,Int.toNat_natCast]
  by_cases g2:(t:Int)<20
  ·rw [XaP g2,if_pos g2]
  rw [XaK g2,if_neg g2]
  by_cases g3:vK s 2 2<t
  ·rw [XaP g3,if_pos g3]
  rw [XaK g3,if_neg g3]
  by_cases g4:(s.length:Int)<vK s 2 2
  ·rw [XaP (by omega),if_pos g4]
  rw [XaK (by omega),if_neg g4,Xar (by omega),Xr7 (by simp;omega),Option.bind_some]
  by_cases g5:norm (Xfj (s.take t))=65535
  ·rw [if_neg (by simpa using g5),g5]
   simp only [show ((((65535:Nat):Int)==65535))=true from rfl,Bool.not_true,cond_false]
   have e6:=Xyj (s:=s) (p:=6) (by omega)
   rw [show (XDx .i64 (vK s 6 2) 16384 !=0)=decide (vK s 6 2≠0∧vK s 6 2≠16384) by rw [e6];exact XyV,XrA]
   split
   ·rfl
   obtain ⟨m,hm⟩:=Int.eq_ofNat_of_zero_le r2.1
   rw [N8,Option.bind_some,N9,Option.bind_some,N10,Option.bind_some,XQT (by omega),Option.bind_some,XQT (by omega),Option.bind_some,XdT (n:=(t:Int) - 20) (by omega) (by omega),hm,XdT (n:=(m:Int) - t) (by omega) (by omega)]
   simp only []
   rw [show (t:Int) - 20=((t - 20:Nat):Int) by omega,show (m:Int) - t=((m - t:Nat):Int) by omega,Xrs (by omega),Option.bind_some]
   simp only []
   rw [Xrs (by omega),Option.bind_some,show 12+4+4+(t - 20)=t by omega,Int.toNat_natCast]
  ·rw [if_pos (by simpa using g5),show ((((norm (Xfj (s.take t)):Nat):Int)==65535))=false by simp;omega];rfl
 ·rw [show (vK s 0 1/16 !=4)=true by simpa using g1,cond_true,if_pos (by simpa using g1)]
theorem XUV {s:List UInt8} (hs:s.length<2^38):XiC s=some (XjI s):=by
 unfold XiC XoW XjI
 by_cases h0:s.length<20
 ·rw [XaP (by omega),if_pos h0];rfl
 rw [XaK (by omega),if_neg h0]
 have G:∀ i:Nat,(h:i<20)→s[i]?=some (s[i]'(by omega)):=fun i h=>List.getElem?_eq_getElem (by omega)
 have M:∀ (p k:Nat),1≤k→k≤7→p+k≤20→Xao s (p:Int) (k:Int)=some (vK s p k):=fun p k a b c=>XrI (by omega) a b (by omega)
 have M2:Xao s 2 2=some (vK s 2 2):=M 2 2 (by omega) (by omega) (by omega)
 have M4:Xao s 4 2=some (vK s 4 2):=M 4 2 (by omega) (by omega) (by omega)
 rw [G 0 (by omega),G 1 (by omega),G 6 (by omega),G 7 (by omega),G 8 (by omega),G 9 (by omega),M2,M4]
 have e0:=XmD (s:=s) (p:=0) (by omega)
 have e1:=XmD (s:=s) (p:=1) (by omega)
 have e8:=XmD (s:=s) (p:=8) (by omega)
 have e9:=XmD (s:=s) (p:=9) (by omega)
 have e6:vK s 6 2=(s[6].toNat*256+s[7].toNat:Int):=Xyj (s:=s) (p:=6) (by omega)
 have r0:=XfQ s 0 1 256 (by decide)
 have r1:=XfQ s 1 1 256 (by decide)
 have r8:=XfQ s 8 1 256 (by decide)
 have r9:=XfQ s 9 1 256 (by decide)
 have r2:=XfQ s 2 2 65536 (by decide)
 simp only [Option.bind_some]
 rw [←e0,←e1,←e8,←e9,Int.tmod_eq_emod_of_nonneg r0.1,Int.tdiv_eq_ediv_of_nonneg r0.1,XdT (n:=vK s 0 1%16) (by omega) (by omega),XdT (n:=4*(vK s 0 1%16)) (by omega) (by omega),wU8 (n:=vK s 0 1/16) (by omega) (by omega),XdT (n:=vK s 1 1) (by omega) (by omega),XdT (n:=vK s 8 1) (by omega) (by omega),XdT (n:=vK s 9 1) (by omega) (by omega)]
 have hz:(⟨0,0,false,0,0,⟨false,0,0⟩,⟨false,0,0⟩,[]⟩:Xal)=Xqg:=rfl
 rw [hz,Int.mul_comm 4]
 by_cases g1:vK s 0 1/16=4
 ·rw [show (vK s 0 1/16 !=4)=false by simpa using g1,cond_false,if_neg (by simpa using g1)]
  obtain ⟨t,ht⟩:=Int.eq_ofNat_of_zero_le (show 0≤vK s 0 1%16*4 by omega)
  rw [ht]
  simp only [Int.toNat_natCast]
  by_cases g2:(t:Int)<20
  ·rw [XaP g2,if_pos g2]
  rw [XaK g2,if_neg g2]
  by_cases g3:vK s 2 2<t
  ·rw [XaP g3,if_pos g3]
  rw [XaK g3,if_neg g3]
  by_cases g4:(s.length:Int)<vK s 2 2
  ·rw [XaP (by omega),if_pos g4]
  rw [XaK (by omega),if_neg g4,Xar (by omega),Xl5 (by simp;omega),Option.bind_some]
  by_cases g5:norm (Xfj (s.take t))=65535
  ·rw [if_neg (by simpa using g5),g5]
   simp only [show ((((65535:Nat):Int) !=65535))=false from rfl,cond_false]
   have a1:=XI0 (s:=(s.drop 12).take 4) (by simp;omega)
   have a2:=XI0 (s:=(s.drop 16).take 4) (by simp;omega)
   rw [a1,a2,Xzk,Xzk]
   obtain ⟨m,hm⟩:=Int.eq_ofNat_of_zero_le r2.1
   rw [hm]
   simp only [Option.bind_some,Int.toNat_natCast]
   rw [Xar (p:=(0:Int)≤16∧(16:Int)≤(s.length:Int)∧(0:Int)≤12∧(12:Int)≤16) (by omega),Xar (p:=(0:Int)≤20∧(20:Int)≤(s.length:Int)∧(0:Int)≤16∧(16:Int)≤20) (by omega),Xar (p:=(0:Int)≤(t:Int)∧(t:Int)≤(s.length:Int)∧(0:Int)≤20∧(20:Int)≤(t:Int)) (by omega),Xar (p:=(0:Int)≤(m:Int)∧(m:Int)≤(s.length:Int)∧(0:Int)≤(t:Int)∧(t:Int)≤(m:Int)) (by omega)]
   have b6:=s[6].toNat_lt
   have b7:=s[7].toNat_lt
   by_cases k6:(s[6].toNat:Int)=0
   ·rw [show ((s[6].toNat:Int) !=0)=false by simpa using k6,cond_false]
    by_cases k7:(s[7].toNat:Int)=0
    ·rw [show ((s[7].toNat:Int) !=0)=false by simpa using k7,cond_false,if_neg (by rw [e6];omega),show (vK s 6 2 !=0)=false by rw [e6,k6,k7];rfl,k6];rfl
    ·rw [show ((s[7].toNat:Int) !=0)=true by simpa using k7,cond_true,if_pos (by rw [e6];omega)]
   ·rw [show ((s[6].toNat:Int) !=0)=true by simpa using k6,cond_true]
    by_cases k8:(s[6].toNat:Int)=64
    ·rw [show ((s[6].toNat:Int) !=64)=false by rw [k8];rfl,cond_false]
     by_cases k7:(s[7].toNat:Int)=0
     ·rw [show ((s[7].toNat:Int) !=0)=false by simpa using k7,cond_false,if_neg (by rw [e6];omega),show (vK s 6 2 !=0)=true by rw [e6,k8,k7];rfl,k8];rfl
     ·rw [show ((s[7].toNat:Int) !=0)=true by simpa using k7,cond_true,if_pos (by rw [e6];omega)]
    ·rw [show ((s[6].toNat:Int) !=64)=true by simpa using k8,cond_true,if_pos (by rw [e6];omega)]
  ·rw [if_pos (by simpa using g5),show ((((norm (Xfj (s.take t)):Nat):Int) !=65535))=true by simp;omega];rfl
 ·rw [show (vK s 0 1/16 !=4)=true by simpa using g1,cond_true,if_pos (by simpa using g1)]
end Go.Vm.Code
namespace Go.Vm.Code
open Go Go.Vm Go.Proofs
set_option maxRecDepth 100000
set_option maxHeartbeats 4000000
set_option linter.unusedVariables false
def Xmh (Xdo:XeW) (Xa3:Xcf) (Xai:XaI) (Xad:XaJ) (Xaf:Xaw) (s:List UInt8):Option (Xaq×(List UInt8)×Int):=
 (Xa3 s).bind fun n=>
 (Xad n 4).bind fun n1=>
 (Xad n1.2 2).bind fun n2=>
 (Xad n2.2 1).bind fun n3=>
 (Xad n3.2 1).bind fun n4=>
 (Xaf n4.2 16).bind fun t=>
 (Xaf t.2 16).bind fun t1=>
 (Xai t1.2).bind fun b=>
 cond (b.1)
  (
  some ((Xaq.mk 0 0 0 0 (Xaa.mk false 0 0) (Xaa.mk false 0 0),[],2)))
  (
  cond ((n1.1.fdiv (2^28)) !=6)
   (
   some ((Xaq.mk 0 0 0 0 (Xaa.mk false 0 0) (Xaa.mk false 0 0),[],3)))
   (
   (Xdo t.1).bind fun xg=>
   (Xdo t1.1).bind fun xg1=>
   (Xaf b.2 n2.1).bind fun t2=>
   (Xai t2.2).bind fun b1=>
   cond (b1.1)
    (
    some ((Xaq.mk 0 0 0 0 (Xaa.mk false 0 0) (Xaa.mk false 0 0),[],2)))
    (
    some ((Xaq.mk (Xnr .i64 (n1.1.fdiv (2^20)) 255) (Xnr .i64 n1.1 1048575) n3.1 n4.1 xg.1 xg1.1,t2.1,0)))))
def XCy (x:Xaq×(List UInt8)×Int):XcU:=⟨.tuple ⟨[.agg ⟨[.int .i64 x.1.Class,.int .i64 x.1.Label,.int .i64 x.1.Next,.int .i64 x.1.Hop,.bool x.1.Src.V6,.int .u64 x.1.Src.Hi,.int .u64 x.1.Src.Lo,.bool x.1.Dst.V6,.int .u64 x.1.Dst.Hi,.int .u64 x.1.Dst.Lo]⟩,.string ⟨⟨x.2.1⟩⟩,.int .i64 x.2.2]⟩,[],[]⟩
abbrev XfX:=(List UInt8)→Option (Xaq×(List UInt8)×Int)
def r191 (g:XfX):Dec:=dV asS fun (y0:List UInt8)=>XdX (ofG (g y0) XCy)
theorem XSX {g:XfX} {y0:List UInt8} {x:Xaq×(List UInt8)×Int} (hx:g y0=some x):r191 g [.string ⟨⟨y0⟩⟩] []=some (XCy x):=(XaS (Xd4)).trans (XaQ hx)
def s191 (g:XfX):XbE:=⟨[.v],r191 g⟩
theorem XPn {g:XfX} {y0:List UInt8} {x:Xaq×(List UInt8)×Int} (hx:g y0=some x):(s191 g).run [.string ⟨⟨y0⟩⟩] []=some (XCy x):=XSX hx
abbrev XJL (Xdo:XeW) (Xa3:Xcf) (Xai:XaI) (Xad:XaJ) (Xaf:Xaw):List (Nat×XbE):=[(202,s202 Xdo),(77,s77 Xa3),(138,XH9 Xai),(78,s78 Xad),(129,XBS Xaf)]
theorem XEu (Xdo:XeW) (Xa3:Xcf) (Xai:XaI) (Xad:XaJ) (Xaf:Xaw) (hS:Xak Tryz.prog (XaD (XJL Xdo Xa3 Xai Xad Xaf))) (s:List UInt8) (res:Xaq×(List UInt8)×Int) (h:Xmh Xdo Xa3 Xai Xad Xaf s=some res) :
 XaG Tryz.prog 191 0 ⟨⟨191,59,[(0,.string ⟨⟨s⟩⟩)],[.code XzK],[],false,none⟩,[],[],0⟩ (fun v H _=>Res 0 (XCy res) v H):=by
 unfold Xmh at h
 have R1:=@XsP Xa3
 have R2:=@XmI Xad
 have R3:=@XlU Xaf
 have R4:=@XmP Xai
 have R5:=@Xyo Xdo
 refine Xa6 XaE hS true 3000 ?_
 conv=>whnf
 exact W
def XfG:XfX:=Xmh Xdo Xa3 Xai Xad Xaf
theorem XPV:XbM Tryz.prog 191 (s191 XfG):=by
 have hL:=XEu Xdo Xa3 Xai Xad Xaf (Xak.XaM ⟨Xzt,XsK,Xog,XqG,Xlr,trivial⟩)
 exact okA ⟨Tryz.f191,rfl,by decide,rfl⟩
def Xpf (Xao:XbC) (Xd3:XfC) (s:List UInt8):Option (Xaq×(List UInt8)×Int):=
 cond (decide ((s.length:Int)<40))
  (
  some ((Xaq.mk 0 0 0 0 (Xaa.mk false 0 0) (Xaa.mk false 0 0),[],2)))
  (
  (Xao s 0 4).bind fun m=>
  (Xao s 4 2).bind fun m1=>
  cond ((wI .i64 (m.tdiv 268435456)) !=6)
   (
   some ((Xaq.mk 0 0 0 0 (Xaa.mk false 0 0) (Xaa.mk false 0 0),[],3)))
   (
   let t:=decide ((wI .i64 ((s.length:Int) - 40))<m1)
   cond (t)
    (
    some ((Xaq.mk 0 0 0 0 (Xaa.mk false 0 0) (Xaa.mk false 0 0),[],2)))
    (
    Xbh (decide ((0:Int)≤(24:Int)∧(24:Int)≤(s.length:Int)∧(0:Int)≤(8:Int)∧(8:Int)≤(24:Int))) <|
    (Xd3 ((s.drop 8).take 16)).bind fun xg=>
    Xbh (decide ((0:Int)≤(40:Int)∧(40:Int)≤(s.length:Int)∧(0:Int)≤(24:Int)∧(24:Int)≤(40:Int))) <|
    (Xd3 ((s.drop 24).take 16)).bind fun xg1=>
    (s[6]?).bind fun (b:UInt8)=>
    (s[7]?).bind fun (b1:UInt8)=>
    Xbh (decide ((0:Int)≤(wI .i64 (40+m1))∧(wI .i64 (40+m1))≤(s.length:Int)∧(0:Int)≤(40:Int)∧(40:Int)≤((wI .i64 (40+m1)).toNat:Int))) <|
    let t1:=(s.drop 40).take ((wI .i64 (40+m1)).toNat - 40)
    some ((Xaq.mk ((wI .i64 (m.tdiv 1048576)).tmod 256) (m.tmod 1048576) (wI .i64 (b.toNat:Int)) (wI .i64 (b1.toNat:Int)) xg.1 xg1.1,t1,0)))))
def XFt (x:Xaq×(List UInt8)×Int):XcU:=⟨.tuple ⟨[.agg ⟨[.int .i64 x.1.Class,.int .i64 x.1.Label,.int .i64 x.1.Next,.int .i64 x.1.Hop,.bool x.1.Src.V6,.int .u64 x.1.Src.Hi,.int .u64 x.1.Src.Lo,.bool x.1.Dst.V6,.int .u64 x.1.Dst.Hi,.int .u64 x.1.Dst.Lo]⟩,.string ⟨⟨x.2.1⟩⟩,.int .i64 x.2.2]⟩,[],[]⟩
abbrev Xhy:=(List UInt8)→Option (Xaq×(List UInt8)×Int)
def r153 (g:Xhy):Dec:=dV asS fun (y0:List UInt8)=>XdX (ofG (g y0) XFt)
theorem XT8 {g:Xhy} {y0:List UInt8} {x:Xaq×(List UInt8)×Int} (hx:g y0=some x):r153 g [.string ⟨⟨y0⟩⟩] []=some (XFt x):=(XaS (Xd4)).trans (XaQ hx)
def s153 (g:Xhy):XbE:=⟨[.v],r153 g⟩
theorem XNO {g:Xhy} {y0:List UInt8} {x:Xaq×(List UInt8)×Int} (hx:g y0=some x):(s153 g).run [.string ⟨⟨y0⟩⟩] []=some (XFt x):=XT8 hx
abbrev XP1 (Xao:XbC) (Xd3:XfC):List (Nat×XbE):=[(88,s88 Xao),(177,s177 Xd3)]
theorem XGB (Xao:XbC) (Xd3:XfC) (hS:Xak Tryz.prog (XaD (XP1 Xao Xd3))) (s:List UInt8) (res:Xaq×(List UInt8)×Int) (h:Xpf Xao Xd3 s=some res) :
 XaG Tryz.prog 153 0 ⟨⟨153,59,[(0,.string ⟨⟨s⟩⟩)],[.code XBf],[],false,none⟩,[],[],0⟩ (fun v H _=>Res 0 (XFt res) v H):=by
 unfold Xpf at h
 have R1:=@XoK Xao
 have R2:=@Xz3 Xd3
 refine Xa6 XaE hS true 3000 ?_
 conv=>whnf
 exact W
def XiE:Xhy:=Xpf Xao Xd3
theorem XNQ:XbM Tryz.prog 153 (s153 XiE):=by
 have hL:=XGB Xao Xd3 (Xak.XaM ⟨Xql,XAm,trivial⟩)
 exact okA ⟨Tryz.f153,rfl,by decide,rfl⟩
end Go.Vm.Code
namespace Go.Vm.Code
open Go Go.Vm
def zero6:Xaq:=⟨0,0,0,0,⟨false,0,0⟩,⟨false,0,0⟩⟩
def XGr (s:List UInt8):Xaq:=
 let m:=Xfu (s.take 4)
 ⟨((m/2^20%256:Nat):Int),((m%2^20:Nat):Int),((Xfu ((s.drop 6).take 1):Nat):Int),((Xfu ((s.drop 7).take 1):Nat):Int),Xs0 ((s.drop 8).take 16),Xs0 ((s.drop 24).take 16)⟩
def Xk9 (s:List UInt8):Xaq×List UInt8×Int:=
 if s.length<40 then (zero6,[],2) else if Xfu (s.take 4)/2^28≠6 then (zero6,[],3) else if s.length - 40<Xfu ((s.drop 4).take 2) then (zero6,[],2) else
  (XGr s,(s.drop 40).take (Xfu ((s.drop 4).take 2)),0)
theorem XLT {s:List UInt8} (h:s.length<2^60):XfG s=some (Xk9 s):=by
 unfold XfG Xmh
 rw [Xqj,Option.bind_some]
 by_cases hs:s.length<40
 ·have e:Xk9 s=(zero6,[],2):=by unfold Xk9;rw [if_pos hs]
  rw [Xh4 rfl (by simp only [];omega),Option.bind_some]
  simp only []
  have b1:∀ (r:Xah) (k:Int),(rdr r k).s.length≤r.s.length:=by intro r k;unfold rdr;split<;>simp
  have l1:=b1 ⟨s,true,false⟩ (if (4:Int)<1∨(4:Int)>7 then -1 else 4)
  simp only at l1
  generalize hr1:rdr ⟨s,true,false⟩ (if (4:Int)<1∨(4:Int)>7 then -1 else 4)=r1 at *
  have m1:r1.made=true:=by rw [←hr1];exact Xh2 _ _
  rw [Xh4 m1 (by omega),Option.bind_some]
  simp only []
  have l2:=b1 r1 (if (2:Int)<1∨(2:Int)>7 then -1 else 2)
  generalize hr2:rdr r1 (if (2:Int)<1∨(2:Int)>7 then -1 else 2)=r2 at *
  have m2:r2.made=true:=by rw [←hr2];exact Xh2 _ _
  rw [Xh4 m2 (by omega),Option.bind_some]
  simp only []
  have l3:=b1 r2 (if (1:Int)<1∨(1:Int)>7 then -1 else 1)
  generalize hr3:rdr r2 (if (1:Int)<1∨(1:Int)>7 then -1 else 1)=r3 at *
  have m3:r3.made=true:=by rw [←hr3];exact Xh2 _ _
  rw [Xh4 m3 (by omega),Option.bind_some]
  simp only []
  have l4:=b1 r3 (if (1:Int)<1∨(1:Int)>7 then -1 else 1)
  generalize hr4:rdr r3 (if (1:Int)<1∨(1:Int)>7 then -1 else 1)=r4 at *
  have m4:r4.made=true:=by rw [←hr4];exact Xh2 _ _
  rw [XgX m4,Option.bind_some]
  simp only []
  generalize hr5:rdr r4 16=r5 at *
  have m5:r5.made=true:=by rw [←hr5];exact Xh2 _ _
  rw [XgX m5,Option.bind_some]
  simp only []
  generalize hr6:rdr r5 16=r6 at *
  have m6:r6.made=true:=by rw [←hr6];exact Xh2 _ _
  rw [Xgj m6,Option.bind_some]
  have hb:r6.bad=true:=by
   cases hb:r6.bad with
   | true=>rfl
   | false=>
     exfalso
     obtain ⟨a5,n6⟩:=XiI hr6 hb
     obtain ⟨a4,n5⟩:=XiI hr5 a5
     obtain ⟨a3,n4⟩:=XiI hr4 a4
     obtain ⟨a2,n3⟩:=XiI hr3 a3
     obtain ⟨a1,n2⟩:=XiI hr2 a2
     obtain ⟨a0,n1⟩:=XiI hr1 a1
     rw [show (if (4:Int)<1∨(4:Int)>7 then -1 else 4:Int)=4 by decide] at n1
     simp only at n1
     omega
  simp only [hb,cond_true]
  rw [e];rfl
 ·have i4:(if (4:Int)<1∨(4:Int)>7 then -1 else 4:Int)=4:=by decide
  have i2:(if (2:Int)<1∨(2:Int)>7 then -1 else 2:Int)=2:=by decide
  have i1:(if (1:Int)<1∨(1:Int)>7 then -1 else 1:Int)=1:=by decide
  have t4:(4:Int).toNat=4:=rfl
  have t2:(2:Int).toNat=2:=rfl
  have t1:(1:Int).toNat=1:=rfl
  have t16:(16:Int).toNat=16:=rfl
  rw [Xh4 rfl (by simp only [];omega),Option.bind_some]
  simp only [rdn,i4]
  rw [Xjx (by omega) (by omega),XjA (by omega) (by omega),t4]
  rw [Xh4 rfl (by simp;omega),Option.bind_some]
  simp only [rdn,i2]
  rw [Xjx (by omega) (by simp;omega),XjA (by omega) (by simp;omega),t2,List.drop_drop]
  rw [Xh4 rfl (by simp;omega),Option.bind_some]
  simp only [rdn,i1]
  rw [Xjx (by omega) (by simp;omega),XjA (by omega) (by simp;omega),t1,List.drop_drop]
  rw [Xh4 rfl (by simp;omega),Option.bind_some]
  simp only [rdn,i1]
  rw [Xjx (by omega) (by simp;omega),XjA (by omega) (by simp;omega),t1,List.drop_drop]
  rw [XgX rfl,Option.bind_some]
  simp only []
  rw [Xjx (by omega) (by simp;omega),XjA (by omega) (by simp;omega),t16,List.drop_drop]
  rw [XgX rfl,Option.bind_some]
  simp only []
  rw [Xjx (by omega) (by simp;omega),XjA (by omega) (by simp;omega),t16,List.drop_drop]
  rw [Xgj rfl,Option.bind_some]
  simp only [cond_false,Nat.reduceAdd]
  have v4:Xfu (s.take 4)<2^32:=Xfn _ (by decide)
  have v2:Xfu ((s.drop 4).take 2)<2^16:=Xfn _ (by decide)
  unfold Xk9
  rw [if_neg hs]
  have e1:((((Xfu (s.take 4):Nat):Int).fdiv (2^28)) !=6)=decide (Xfu (s.take 4)/2^28≠6):=by
   rw [XsS,Bool.eq_iff_iff,bne_iff_ne,decide_eq_true_eq];omega
  rw [e1]
  by_cases h6:Xfu (s.take 4)/2^28≠6
  ·rw [XaP h6,if_pos h6];rfl
  rw [XaK h6,if_neg h6]
  rw [XqC (by simp;omega),XqC (by simp;omega)]
  simp only [Option.bind_some]
  rw [XgX rfl,Option.bind_some]
  by_cases hn:s.length - 40<Xfu ((s.drop 4).take 2)
  ·rw [Xgj (Xh2 _ _),Option.bind_some]
   have hb:(rdr ⟨s.drop 40,true,false⟩ ((Xfu ((s.drop 4).take 2):Nat):Int)).bad=true:=by
    cases hb:(rdr ⟨s.drop 40,true,false⟩ ((Xfu ((s.drop 4).take 2):Nat):Int)).bad with
    | true=>rfl
    | false=>
      exfalso
      obtain ⟨_,_,c⟩:=Xt7.1 hb
      simp at c;omega
   simp only [hb,cond_true]
   rw [if_pos hn];rfl
  ·rw [Xjx (by omega) (by simp;omega),XjA (by omega) (by simp;omega),Xgj rfl,Option.bind_some]
   simp only [cond_false,Int.toNat_natCast]
   rw [if_neg hn]
   unfold XGr
   simp only []
   have e2:Xnr .i64 ((((Xfu (s.take 4):Nat):Int)).fdiv (2^20)) 255=((Xfu (s.take 4)/2^20%256:Nat):Int):=by
    rw [XsS,Xjv (m:=255) 8 (by decide) (by decide) (by omega) (by omega)];omega
   have e3:Xnr .i64 ((Xfu (s.take 4):Nat):Int) 1048575=((Xfu (s.take 4)%2^20:Nat):Int):=by
    rw [Xjv (m:=1048575) 20 (by decide) (by decide) (by omega) (by omega)];omega
   rw [e2,e3]
theorem XD1 {s:List UInt8} (h:s.length<2^60):XiE s=some (Xk9 s):=by
 unfold XiE Xpf Xk9
 by_cases hs:s.length<40
 ·rw [XaP (by omega),if_pos hs];rfl
 rw [XaK (by omega),if_neg hs]
 have v4:Xfu (s.take 4)<2^32:=Xfn _ (by decide)
 have v2:Xfu ((s.drop 4).take 2)<2^16:=Xfn _ (by decide)
 rw [Xir (by omega),Xir (by omega),Xi7 (p:=0) (k:=4) (by omega) (by omega) (by omega) (by omega),Xi7 (p:=4) (k:=2) (by omega) (by omega) (by omega) (by omega)]
 simp only [Option.bind_some,show (0:Int).toNat=0 from rfl,show (4:Int).toNat=4 from rfl,show (2:Int).toNat=2 from rfl,List.drop_zero]
 rw [XdT (n:=((Xfu (s.take 4):Nat):Int)) (by omega) (by omega),XdT (n:=((Xfu ((s.drop 4).take 2):Nat):Int)) (by omega) (by omega)]
 have e1:((wI .i64 ((((Xfu (s.take 4):Nat):Int)).tdiv 268435456)) !=6)=decide (Xfu (s.take 4)/2^28≠6):=by
  rw [Int.tdiv_eq_ediv_of_nonneg (by omega),XdT (by omega) (by omega),Bool.eq_iff_iff,bne_iff_ne,decide_eq_true_eq];omega
 rw [e1]
 by_cases h6:Xfu (s.take 4)/2^28≠6
 ·rw [XaP h6,if_pos h6];rfl
 rw [XaK h6,if_neg h6,XdT (n:=(s.length:Int) - 40) (by omega) (by omega)]
 by_cases hn:s.length - 40<Xfu ((s.drop 4).take 2)
 ·rw [XaP (by omega),if_pos hn];rfl
 rw [XaK (by omega),if_neg hn,Xar (by omega),Xs2 (by simp;omega),Option.bind_some,Xar (by omega),Xs2 (by simp;omega),Option.bind_some,List.getElem?_eq_getElem (by omega:6<s.length),Option.bind_some,
  List.getElem?_eq_getElem (by omega:7<s.length),Option.bind_some,XdT (n:=40+((Xfu ((s.drop 4).take 2):Nat):Int)) (by omega) (by omega),Xar (by omega)]
 have b6:=s[6].toNat_lt
 have b7:=s[7].toNat_lt
 have e6:(s.drop 6).take 1=[s[6]]:=by rw [List.drop_eq_getElem_cons (by omega:6<s.length)];rfl
 have e7:(s.drop 7).take 1=[s[7]]:=by rw [List.drop_eq_getElem_cons (by omega:7<s.length)];rfl
 have e8:(40+((Xfu ((s.drop 4).take 2):Nat):Int)).toNat - 40=Xfu ((s.drop 4).take 2):=by omega
 unfold XGr
 simp only [e6,e7,e8,Xhj,XPY]
 rw [Int.tdiv_eq_ediv_of_nonneg (by omega),XdT (n:=((Xfu (s.take 4):Nat):Int)/1048576) (by omega) (by omega),Int.tmod_eq_emod_of_nonneg (by omega),Int.tmod_eq_emod_of_nonneg (by omega),XdT (n:=(s[6].toNat:Int)) (by omega) (by omega),XdT (n:=(s[7].toNat:Int)) (by omega) (by omega)]
 simp
end Go.Vm.Code
namespace Go.Vm.Code
open Go Go.Vm Go.Proofs
set_option maxRecDepth 100000
set_option maxHeartbeats 4000000
set_option linter.unusedVariables false
def XhD (Xbf:XcO) (text:List UInt8) (i:Int):Option (Sum Int (Int×Int×Int)):=
 cond (decide (i<(text.length:Int)))
  (
  Xbh (decide (0≤i)) <|
  (text[i.toNat]?).bind fun (b:UInt8)=>
  cond ((b.toNat:Int)==0)
   (
   some (.inr ((0,0,(-1)))))
   (
   cond ((b.toNat:Int)==1)
    (
    some (.inl (wI .i64 (i+1))))
    (
    let t:=decide ((wI .i64 (i+1))<(text.length:Int))
    cond (t)
     (
     Xbh (decide (0≤(wI .i64 (i+1)))) <|
     (text[(wI .i64 (i+1)).toNat]?).bind fun (b1:UInt8)=>
     cond (decide ((wI .i64 (b1.toNat:Int))<2))
      (
      some (.inr ((0,0,(-1)))))
      (
      let t1:=decide ((wI .i64 (b1.toNat:Int))>(wI .i64 ((text.length:Int) - i)))
      cond (t1)
       (
       some (.inr ((0,0,(-1)))))
       (
       Xbh (decide (0≤i)) <|
       (text[i.toNat]?).bind fun (b2:UInt8)=>
       Xbh (decide ((0:Int)≤(wI .i64 (i+(wI .i64 (b1.toNat:Int))))∧(wI .i64 (i+(wI .i64 (b1.toNat:Int))))≤(text.length:Int)∧(0:Int)≤(wI .i64 (i+2))∧(wI .i64 (i+2))≤((wI .i64 (i+(wI .i64 (b1.toNat:Int)))).toNat:Int))) <|
       let t2:=(text.drop (wI .i64 (i+2)).toNat).take ((wI .i64 (i+(wI .i64 (b1.toNat:Int)))).toNat - (wI .i64 (i+2)).toNat)
       cond ((wI .i64 (b2.toNat:Int)) !=8)
        (
        some (.inl (wI .i64 (i+(wI .i64 (b1.toNat:Int))))))
        (
        (Xbf t2 0 8).bind fun xg=>
        cond (xg.2)
         (
         cond ((t2.length:Int)==8)
          (
          some (.inr ((wI .u32 (xg.1.fdiv (2^32)),wI .u32 xg.1,wI .i64 (i+2)))))
          (
          some (.inr ((0,0,(-1))))))
         (
         some (.inr ((0,0,(-1)))))))))
     (
     some (.inr ((0,0,(-1))))))))
  (
  some (.inr ((0,0,(-1)))))
def Xl2 (Xbf:XcO) (Xdy:XeH) (text:List UInt8):Option (Int×Int×Int):=
 (Xdy text).bind fun l=>
 cond (l.2 !=0)
  (
  some ((0,0,(-1))))
  (
  iter (fun st=>XhD Xbf text st) FUEL 0)
def XwK (x:Int×Int×Int):XcU:=⟨.tuple ⟨[.int .u32 x.1,.int .u32 x.2.1,.int .i64 x.2.2]⟩,[],[]⟩
abbrev XfO:=(List UInt8)→Option (Int×Int×Int)
def r134 (g:XfO):Dec:=dV asS fun (y0:List UInt8)=>XdX (ofG (g y0) XwK)
theorem XRg {g:XfO} {y0:List UInt8} {x:Int×Int×Int} (hx:g y0=some x):r134 g [.string ⟨⟨y0⟩⟩] []=some (XwK x):=(XaS (Xd4)).trans (XaQ hx)
def s134 (g:XfO):XbE:=⟨[.v],r134 g⟩
theorem XMm {g:XfO} {y0:List UInt8} {x:Int×Int×Int} (hx:g y0=some x):(s134 g).run [.string ⟨⟨y0⟩⟩] []=some (XwK x):=XRg hx
abbrev XBa (Xbf:XcO) (Xdy:XeH):List (Nat×XbE):=[(95,s95 Xbf),(169,s169 Xdy)]
def Xkj (text:List UInt8) (i:Int):VM:=
 ⟨⟨193,62,[(0,.func (.yield 6) #[] #[]),(1,.pointer (some ⟨4,0,none⟩)),(3,.int .i64 i)],[.code XpT,.inLoop XpT,.inBlock 0],[],false,none⟩,[⟨134,46,[(2,.pointer (some ⟨0,0,none⟩)),(3,.pointer (some ⟨1,0,none⟩)),(4,.pointer (some ⟨2,0,none⟩))],[.inRangeFunc 6,.inBlock 0,.code XBc],[5],false,none⟩],[(0,.cells [.int .u32 0]),(1,.cells [.int .u32 0]),(2,.cells [.int .i64 0]),(4,.cells [.string ⟨⟨text⟩⟩]),(5,.marks),(6,.loop ⟨.ready,none,134,46,[(2,.pointer (some ⟨0,0,none⟩)),(3,.pointer (some ⟨1,0,none⟩)),(4,.pointer (some ⟨2,0,none⟩))],[19],XIh,XAf,5⟩)],7⟩
theorem Xy2 (Xbf:XcO) (Xdy:XeH) (hS:Xak Tryz.prog (XaD (XBa Xbf Xdy))) (text:List UInt8) (res:Int×Int×Int):∀ fuel (st:Int) (o:Int×Int×Int),iter (fun st=>XhD Xbf text st) fuel st=some o→(o=res) →
 XaG Tryz.prog 134 0 (Xkj text st) (fun v H _=>Res 0 (XwK res) v H):=by
 intro fuel st o h hc
 refine Xde (head:=fun st=>Xkj text st) (C:=fun o=>(o=res)) ?_ fuel st o h hc
 clear h hc o st fuel
 intro i o h hc
 replace h:XhD Xbf text i=some o:=h
 show XaG Tryz.prog 134 0 (Xkj text i) (fun v H _=>Res 0 (XwK res) v H)
 unfold XhD at h
 have R1:=@XAN Xbf
 refine Xa6 XaE hS true 3000 ?_
 conv=>whnf
 refine br.h2 h (by rfl) ?_ ?_
 ·clear h;intro hb h;conv=>whnf
  exact W
 clear h;intro hb h;conv=>whnf
 replace h:=Xbh.elim h;obtain ⟨hb,h⟩:=h
 try (refine req.intro hb ?_;conv=>whnf)
 replace h:=Xdg.elim h;obtain ⟨b,hy,h⟩:=h
 refine rdS.intro hy ?_
 conv=>whnf
 refine br.h h (by rfl) ?_ ?_
 ·clear h;intro hb h;conv=>whnf
  exact W
 clear h;intro hb h;conv=>whnf
 refine br.h h (by rfl) ?_ ?_
 ·clear h;intro hb h;conv=>whnf
  cases h;simp only [Sum.elim_inl,Xkj] at hc
  exact XFQ hc [(0,0),(1,1),(2,2),(4,4),(5,5),(6,6)] rfl
 clear h;intro hb h;conv=>whnf
 let t:Bool:=decide ((wI .i64 (i+1))<(text.length:Int))
 refine br.h2 h (by rfl) ?_ ?_
 ·clear h;intro hb h;conv=>whnf
  exact W
 clear h;intro hb h;conv=>whnf
 replace h:=Xbh.elim h;obtain ⟨hb,h⟩:=h
 try (refine req.intro hb ?_;conv=>whnf)
 replace h:=Xdg.elim h;obtain ⟨b1,hy,h⟩:=h
 refine rdS.intro hy ?_
 conv=>whnf
 refine br.h h (by rfl) ?_ ?_
 ·clear h;intro hb h;conv=>whnf
  exact W
 clear h;intro hb h;conv=>whnf
 let t1:Bool:=decide ((wI .i64 (b1.toNat:Int))>(wI .i64 ((text.length:Int) - i)))
 refine br.h h (by rfl) ?_ ?_
 ·clear h;intro hb h;conv=>whnf
  exact W
 clear h;intro hb h;conv=>whnf
 replace h:=Xbh.elim h;obtain ⟨hb,h⟩:=h
 try (refine req.intro hb ?_;conv=>whnf)
 replace h:=Xdg.elim h;obtain ⟨b2,hy,h⟩:=h
 refine rdS.intro hy ?_
 conv=>whnf
 replace h:=Xbh.elim h;obtain ⟨hb,h⟩:=h
 try (refine req.intro hb ?_;conv=>whnf)
 let t2:List UInt8:=(text.drop (wI .i64 (i+2)).toNat).take ((wI .i64 (i+(wI .i64 (b1.toNat:Int)))).toNat - (wI .i64 (i+2)).toNat)
 refine br.h h (by rfl) ?_ ?_
 ·clear h;intro hb h;conv=>whnf
  cases h;simp only [Sum.elim_inl,Xkj] at hc
  exact XFQ hc [(0,0),(1,1),(2,2),(4,4),(5,5),(6,6)] rfl
 clear h;intro hb h;conv=>whnf
 exact W
theorem XB3 (Xbf:XcO) (Xdy:XeH) (hS:Xak Tryz.prog (XaD (XBa Xbf Xdy))) (text:List UInt8) (res:Int×Int×Int) (h:Xl2 Xbf Xdy text=some res) :
 XaG Tryz.prog 134 0 ⟨⟨134,46,[(0,.string ⟨⟨text⟩⟩)],[.code XAq],[],false,none⟩,[],[],0⟩ (fun v H _=>Res 0 (XwK res) v H):=by
 unfold Xl2 at h
 refine Xa6 XaE hS true 3000 ?_
 conv=>whnf
 replace h:=Xdg.elim h;obtain ⟨l,hy,h⟩:=h
 refine Xg9.a (Xyp hy) ?_
 conv=>whnf
 refine br.h h (by rfl) ?_ ?_
 ·clear h;intro hb h;conv=>whnf
  exact W
 clear h;intro hb h;conv=>whnf
 have hl:=Xy2 Xbf Xdy hS _ res _ _ _ h rfl;simp only [Xkj] at hl
 exact XFQ hl [(0,0),(1,1),(2,2),(4,4),(5,5),(6,6)] rfl
def XfI:XfO:=Xl2 Xbf Xdy
theorem XMe:XbM Tryz.prog 134 (s134 XfI):=by
 have hL:=XB3 Xbf Xdy (Xak.XaM ⟨Xx6,Xzi,trivial⟩)
 exact okA ⟨Tryz.f134,rfl,by decide,rfl⟩
def XjW (Xaj:XaR) (val:Int) (echo:Int):Option (List UInt8):=
 (Xaj 16844810 4).bind fun p=>
 let t:=Xlg .u64 (wI .u64 ((wI .u64 val)*2^32)) (wI .u64 echo)
 (Xaj t 8).bind fun p1=>
 Xbh (decide (p.length+p1.length<2^63)) <|
 some (p++p1)
def XDj (x:List UInt8):XcU:=⟨.string ⟨⟨x⟩⟩,[],[]⟩
abbrev Xdt:=Int→Int→Option (List UInt8)
def r119 (g:Xdt):Dec:=dV (asI .u32) fun (y0:Int)=>dV (asI .u32) fun (y1:Int)=>XdX (ofG (g y0 y1) XDj)
theorem XQt {g:Xdt} {y0:Int} {y1:Int} {x:List UInt8} (hx:g y0 y1=some x):r119 g [.int .u32 y0,.int .u32 y1] []=some (XDj x):=(XaS (XeL _)).trans ((XaS (XeL _)).trans (XaQ hx))
def s119 (g:Xdt):XbE:=⟨[.v,.v],r119 g⟩
theorem XBw {g:Xdt} {y0:Int} {y1:Int} {x:List UInt8} (hx:g y0 y1=some x):(s119 g).run [.int .u32 y0,.int .u32 y1] []=some (XDj x):=XQt hx
abbrev XKV (Xaj:XaR):List (Nat×XbE):=[(97,s97 Xaj)]
theorem XGm (Xaj:XaR) (hS:Xak Tryz.prog (XaD (XKV Xaj))) (val:Int) (echo:Int) (res:List UInt8) (h:XjW Xaj val echo=some res) :
 XaG Tryz.prog 119 0 ⟨⟨119,14,[(0,.int .u32 val),(1,.int .u32 echo)],[.code XIB],[],false,none⟩,[],[],0⟩ (fun v H _=>Res 0 (XDj res) v H):=by
 unfold XjW at h
 have R1:=@Xlb Xaj
 refine Xa6 XaE hS true 3000 ?_
 conv=>whnf
 exact W
def Xb4:Xdt:=XjW Xaj
theorem XAv:XbM Tryz.prog 119 (s119 Xb4):=by
 have hL:=XGm Xaj (Xak.XaM ⟨Xnh,trivial⟩)
 exact okA ⟨Tryz.f119,rfl,by decide,rfl⟩
def XhH (Xao:XbC) (l:(List XcQ)×Int) (i:Int):Option (Sum Int (Int×Int×Int)):=
 cond (decide (i<(l.1.length:Int)))
  (
  Xbh (decide ((0:Int)≤i∧i<(l.1.length:Int))) <|
  (l.1[i.toNat]?).bind fun (e:XcQ)=>
  cond (e.Kind==8)
   (
   Xbh (decide ((0:Int)≤i∧i<(l.1.length:Int))) <|
   cond ((e.Data.length:Int) !=8)
    (
    some (.inr ((0,0,(-1)))))
    (
    Xbh (decide ((0:Int)≤i∧i<(l.1.length:Int))) <|
    (Xao e.Data 0 4).bind fun m=>
    Xbh (decide ((0:Int)≤i∧i<(l.1.length:Int))) <|
    (Xao e.Data 4 4).bind fun m1=>
    Xbh (decide ((0:Int)≤i∧i<(l.1.length:Int))) <|
    some (.inr ((wI .u32 m,wI .u32 m1,e.At)))))
   (
   some (.inl (wI .i64 (i+1)))))
  (
  some (.inr ((0,0,(-1)))))
def XlY (Xao:XbC) (Xdx:XeI) (options:List UInt8):Option (Int×Int×Int):=
 (Xdx options).bind fun l=>
 iter (fun st=>XhH Xao l st) FUEL 0
def Xw8 (x:Int×Int×Int):XcU:=⟨.tuple ⟨[.int .u32 x.1,.int .u32 x.2.1,.int .i64 x.2.2]⟩,[],[]⟩
abbrev XfS:=(List UInt8)→Option (Int×Int×Int)
def r107 (g:XfS):Dec:=dV asS fun (y0:List UInt8)=>XdX (ofG (g y0) Xw8)
theorem XTX {g:XfS} {y0:List UInt8} {x:Int×Int×Int} (hx:g y0=some x):r107 g [.string ⟨⟨y0⟩⟩] []=some (Xw8 x):=(XaS (Xd4)).trans (XaQ hx)
def s107 (g:XfS):XbE:=⟨[.v],r107 g⟩
theorem XLM {g:XfS} {y0:List UInt8} {x:Int×Int×Int} (hx:g y0=some x):(s107 g).run [.string ⟨⟨y0⟩⟩] []=some (Xw8 x):=XTX hx
abbrev Xy3 (Xao:XbC) (Xdx:XeI):List (Nat×XbE):=[(88,s88 Xao),(154,s154 Xdx)]
def Xld (l:(List XcQ)×Int) (i:Int):VM:=
 ⟨⟨107,51,[(5,.slice (some ⟨0,0,none⟩) l.1.length 3),(7,.int .i64 i)],[.code XuC,.inLoop XuC,.inBlock 0,.code Xy9],[],false,none⟩,[],[(0,.row true (vT XgU l.1))],1⟩
theorem XyN (Xao:XbC) (Xdx:XeI) (hS:Xak Tryz.prog (XaD (Xy3 Xao Xdx))) (l:(List XcQ)×Int) (res:Int×Int×Int):∀ fuel (st:Int) (o:Int×Int×Int),iter (fun st=>XhH Xao l st) fuel st=some o→(o=res) →
 XaG Tryz.prog 107 0 (Xld l st) (fun v H _=>Res 0 (Xw8 res) v H):=by
 intro fuel st o h hc
 refine Xde (head:=fun st=>Xld l st) (C:=fun o=>(o=res)) ?_ fuel st o h hc
 clear h hc o st fuel
 intro i o h hc
 replace h:XhH Xao l i=some o:=h
 show XaG Tryz.prog 107 0 (Xld l i) (fun v H _=>Res 0 (Xw8 res) v H)
 unfold XhH at h
 refine Xa6 XaE hS true 3000 ?_
 conv=>whnf
 refine br.h2 h (by rfl) ?_ ?_
 ·clear h;intro hb h;conv=>whnf
  exact W
 clear h;intro hb h;conv=>whnf
 replace h:=Xbh.elim h;obtain ⟨hb,h⟩:=h
 try (refine req.intro hb ?_;conv=>whnf)
 replace h:=Xdg.elim h;obtain ⟨e,hy,h⟩:=h
 refine rd.T (j:=0) Xdq hy (by first|omega|exact Nat.zero_add _|exact congrArg (·+_) (Nat.zero_add _)) (by decide) rfl ?_
 conv=>whnf
 refine br.h2 h (by rfl) ?_ ?_
 ·clear h;intro hb h;conv=>whnf
  cases h;simp only [Sum.elim_inl,Xld] at hc
  exact Xmp hc [(0,0)] rfl
 clear h;intro hb h;conv=>whnf
 replace h:=Xbh.elim h;obtain ⟨hb,h⟩:=h
 try (refine req.intro hb ?_;conv=>whnf)
 refine rd.T (i:=i.toNat) (x:=e) (j:=1) Xdq (by assumption) (by first|omega|exact Nat.zero_add _|exact congrArg (·+_) (Nat.zero_add _)) (by decide) rfl ?_
 conv=>whnf
 refine br.h h (by rfl) ?_ ?_
 ·clear h;intro hb h;conv=>whnf
  exact W
 clear h;intro hb h;conv=>whnf
 replace h:=Xbh.elim h;obtain ⟨hb,h⟩:=h
 try (refine req.intro hb ?_;conv=>whnf)
 refine rd.T (i:=i.toNat) (x:=e) (j:=1) Xdq (by assumption) (by first|omega|exact Nat.zero_add _|exact congrArg (·+_) (Nat.zero_add _)) (by decide) rfl ?_
 conv=>whnf
 replace h:=Xdg.elim h;obtain ⟨m,hy,h⟩:=h
 refine Xg9.a (XoK hy) ?_
 conv=>whnf
 replace h:=Xbh.elim h;obtain ⟨hb,h⟩:=h
 try (refine req.intro hb ?_;conv=>whnf)
 refine rd.T (i:=i.toNat) (x:=e) (j:=1) Xdq (by assumption) (by first|omega|exact Nat.zero_add _|exact congrArg (·+_) (Nat.zero_add _)) (by decide) rfl ?_
 conv=>whnf
 replace h:=Xdg.elim h;obtain ⟨m1,hy,h⟩:=h
 refine Xg9.a (XoK hy) ?_
 conv=>whnf
 replace h:=Xbh.elim h;obtain ⟨hb,h⟩:=h
 try (refine req.intro hb ?_;conv=>whnf)
 refine rd.T (i:=i.toNat) (x:=e) (j:=2) Xdq (by assumption) (by first|omega|exact Nat.zero_add _|exact congrArg (·+_) (Nat.zero_add _)) (by decide) rfl ?_
 conv=>whnf
 exact W
theorem XEN (Xao:XbC) (Xdx:XeI) (hS:Xak Tryz.prog (XaD (Xy3 Xao Xdx))) (options:List UInt8) (res:Int×Int×Int) (h:XlY Xao Xdx options=some res) :
 XaG Tryz.prog 107 0 ⟨⟨107,51,[(0,.string ⟨⟨options⟩⟩)],[.code XBj],[],false,none⟩,[],[],0⟩ (fun v H _=>Res 0 (Xw8 res) v H):=by
 unfold XlY at h
 refine Xa6 XaE hS true 3000 ?_
 conv=>whnf
 replace h:=Xdg.elim h;obtain ⟨l,hy,h⟩:=h
 refine Xg9.a (XyF hy) ?_
 conv=>whnf
 have hl:=XyN Xao Xdx hS _ res _ _ _ h rfl;simp only [Xld] at hl
 exact Xmp hl [(0,0)] rfl
def XfF:XfS:=XlY Xao Xdx
theorem XPB:XbM Tryz.prog 107 (s107 XfF):=by
 have hL:=XEN Xao Xdx (Xak.XaM ⟨Xql,Xx9,trivial⟩)
 exact okA ⟨Tryz.f107,rfl,by decide,rfl⟩
def XoC (Xf1:Xn2) (val:Int) (echo:Int):Option (List UInt8):=
 (Xf1 (wI .i64 val) 4).bind fun n=>
 Xbh (decide (4+n.length<2^63)) <|
 (Xf1 (wI .i64 echo) 4).bind fun n1=>
 Xbh (decide (([1,1,8,10]++n).length+n1.length<2^63)) <|
 some (([1,1,8,10]++n)++n1)
abbrev Xj9:=Int→Int→Option (List UInt8)
def Xf6:Xj9:=XoC Xf1
end Go.Vm.Code
namespace Go.Vm.Code
open Go Go.Vm
def stL:List XAb→Int×Int×Int
 | []=>(0,0,-1)
 | o::l=>if o.Kind=8 then (if o.Data.length=8 then (vK o.Data 0 4,vK o.Data 4 4,o.At) else (0,0,-1)) else stL l
def XmA (s:List UInt8):Int×Int×Int:=stL (XnU s).1
theorem Xpq (s:List UInt8):∀ (n i:Nat) (out:List XAb),Xj3 s n i out=if (Xj3 s n i []).2=0 then (out++(Xj3 s n i []).1,0) else ([],3):=by
 intro n
 induction n using Nat.strongRecOn with
 | ind n ih=>
   intro i out
   cases n with
   | zero=>rw [Xj3,Xj3];simp
   | succ n=>
     have e:∀ o,Xj3 s (n+1) i o=match s[i]? with
      | none=>(o,0)
      | some b=>if b=0 then (o,0) else if b=1 then Xj3 s n (i+1) o else match s[i+1]? with
        | none=>([],3)
        | some k=>if k.toNat<2 then ([],3) else if s.length - i<k.toNat then ([],3) else
           Xj3 s (n+1 - k.toNat) (i+k.toNat) (o++[⟨(b.toNat:Int),(s.drop (i+2)).take (k.toNat - 2),((i+2:Nat):Int)⟩]):=fun o=>by rw [Xj3];try (cases s[i]?<;>cases s[i+1]?<;>rfl)
     rw [e out,e []]
     cases s[i]? with
     | none=>simp
     | some b=>
       simp only
       by_cases h0:b=0
       ·simp [h0]
       rw [if_neg h0,if_neg h0]
       by_cases h1:b=1
       ·rw [if_pos h1,if_pos h1];exact ih n (by omega) _ _
       rw [if_neg h1,if_neg h1]
       cases s[i+1]? with
       | none=>simp
       | some k=>
         simp only
         by_cases h2:k.toNat<2
         ·simp [h2]
         by_cases h3:s.length - i<k.toNat
         ·simp [h2,h3]
         rw [if_neg h2,if_neg h2,if_neg h3,if_neg h3,ih _ (by omega) _ (out++_),ih _ (by omega) _ ([]++_)]
         by_cases hz:(Xj3 s (n+1 - k.toNat) (i+k.toNat) []).2=0
         ·simp [hz]
         ·simp [hz]
theorem Xvc {s:List UInt8} (h:(XnU s).2≠0):(XnU s).1=[]:=by
 unfold XnU at *
 have:=Xpq s s.length 0 []
 rw [if_neg h] at this
 rw [this]
theorem XNm {s:List UInt8}:∀ (n i:Nat),∀ o∈(Xj3 s n i []).1,i≤o.At.toNat∧0≤o.At∧o.At.toNat+o.Data.length≤s.length∨(Xj3 s n i []).2≠0:=by
 intro n
 induction n using Nat.strongRecOn with
 | ind n ih=>
   intro i o ho
   cases n with
   | zero=>rw [Xj3] at ho;simp at ho
   | succ n=>
     rw [Xj3] at ho ⊢
     cases hb:s[i]? with
     | none=>rw [hb] at ho;simp at ho
     | some b=>
       rw [hb] at ho
       simp only at ho ⊢
       by_cases h0:b=0
       ·rw [if_pos h0] at ho;simp at ho
       rw [if_neg h0] at ho ⊢
       by_cases h1:b=1
       ·rw [if_pos h1] at ho ⊢
        rcases ih n (by omega) _ o ho with h|h
        ·left;omega
        ·right;exact h
       rw [if_neg h1] at ho ⊢
       cases hk:s[i+1]? with
       | none=>rw [hk] at ho;simp at ho
       | some k=>
         rw [hk] at ho
         simp only at ho ⊢
         by_cases h2:k.toNat<2
         ·rw [if_pos h2] at ho;simp at ho
         rw [if_neg h2] at ho ⊢
         by_cases h3:s.length - i<k.toNat
         ·rw [if_pos h3] at ho;simp at ho
         rw [if_neg h3] at ho ⊢
         rw [Xpq] at ho ⊢
         by_cases hz:(Xj3 s (n+1 - k.toNat) (i+k.toNat) []).2=0
         ·rw [if_pos hz] at ho
          simp only [List.nil_append,List.mem_append,List.mem_singleton] at ho
          left
          have hi:i<s.length:=by
           rcases Nat.lt_or_ge i s.length with h|h
           ·exact h
           ·rw [List.getElem?_eq_none h] at hb;cases hb
          rcases ho with rfl|ho
          ·simp only [List.length_take,List.length_drop];omega
          ·rcases ih _ (by omega) _ o ho with h|h
           ·omega
           ·exact absurd hz h
         ·right;rw [if_neg hz];decide
theorem XLz {s:List UInt8} (hs:s.length<2^20):XfF s=some (XmA s):=by
 unfold XfF XlY XmA
 rw [XRD hs,Option.bind_some]
 have hlen:∀ o∈(XnU s).1,o.Data.length<2^61:=by
  intro o ho
  unfold XnU at ho
  rcases XNm _ _ o ho with h|h
  ·omega
  ·have:=Xvc (s:=s) h
   unfold XnU at this
   rw [this] at ho;simp at ho
 have hcount:(XnU s).1.length<2^60:=by
  have key:∀ n i out,(Xj3 s n i out).1.length≤out.length+n:=by
   intro n
   induction n using Nat.strongRecOn with
   | ind n ih=>
     intro i out
     cases n with
     | zero=>rw [Xj3];simp
     | succ n=>
       rw [Xj3]
       split
       ·simp
       split
       ·simp
       split
       ·have:=ih n (by omega) (i+1) out;omega
       split
       ·simp
       split
       ·simp
       split
       ·simp
       refine Nat.le_trans (ih _ (by omega) _ _) ?_
       simp;omega
  have:=key s.length 0 []
  unfold XnU
  simp at this;omega
 generalize XnU s=L at *
 have key:=iter_eq (step:=fun st=>XhH Xao (L.1.map toR,L.2) st) (fun st=>stL (L.1.drop st.toNat)) (fun st=>0≤st∧st≤L.1.length) (fun st=>((L.1.length:Int) - st).toNat) ?_ FUEL 0 ⟨by omega,by omega⟩ (by rw [XgM];omega)
 ·rw [key];simp
 intro st ⟨g1,g2⟩
 obtain ⟨i,rfl⟩:=Int.eq_ofNat_of_zero_le g1
 unfold XhH
 simp only [Int.toNat_natCast,List.length_map,List.getElem?_map]
 by_cases hp:i<L.1.length
 ·have ed:L.1.drop i=L.1[i]::L.1.drop (i+1):=List.drop_eq_getElem_cons hp
  have hd:=hlen _ (List.getElem_mem hp)
  rw [XaP (by omega),Xar (by omega),List.getElem?_eq_getElem hp,Option.map_some,Option.bind_some,ed,stL]
  simp only [toR]
  by_cases h8:L.1[i].Kind=8
  ·refine .inl ?_
   rw [show (L.1[i].Kind==8)=true by simpa using h8,cond_true,if_pos h8,Xar (by omega)]
   by_cases hl:L.1[i].Data.length=8
   ·have r0:=XfQ L.1[i].Data 0 4 4294967296 (by decide)
    have r4:=XfQ L.1[i].Data 4 4 4294967296 (by decide)
    have m0:Xao L.1[i].Data 0 4=some (vK L.1[i].Data 0 4):=XrI (p:=0) (k:=4) hd (by omega) (by omega) (by omega)
    have m4:Xao L.1[i].Data 4 4=some (vK L.1[i].Data 4 4):=XrI (p:=4) (k:=4) hd (by omega) (by omega) (by omega)
    rw [show (((L.1[i].Data.length:Nat):Int) !=8)=false by simp;omega,cond_false,if_pos hl,Xar (by omega),m0,Option.bind_some,Xar (by omega),m4,Option.bind_some,Xar (by omega),XDt r0.1 r0.2,XDt r4.1 r4.2]
   ·rw [show (((L.1[i].Data.length:Nat):Int) !=8)=true by simp;omega,cond_true,if_neg hl]
  ·refine .inr ⟨((i+1:Nat):Int),?_,⟨by omega,by omega⟩,by omega,?_⟩
   ·rw [show (L.1[i].Kind==8)=false by simpa using h8,cond_false,XdT (by omega) (by omega)];rfl
   ·rw [if_neg h8,Int.toNat_natCast]
 ·refine .inl ?_
  rw [XaK (by omega),List.drop_of_length_le (by omega)];rfl
theorem val8 {t:List UInt8} (h:t.length=8):((Xfu t:Nat):Int)=vK t 0 4*4294967296+vK t 4 4:=by
 unfold vK
 have e:t.take 4++(t.drop 4).take 4=t:=by rw [List.take_of_length_le (l:=t.drop 4) (by simp;omega),List.take_append_drop]
 have:=val_append (t.take 4) ((t.drop 4).take 4)
 rw [e,show ((t.drop 4).take 4).length=4 by simp;omega] at this
 rw [List.drop_zero,this]
 omega
theorem XNS {s:List UInt8} (hs:s.length<2^20):XfI s=some (XmA s):=by
 unfold XfI Xl2
 rw [XTD hs,Option.bind_some]
 by_cases hz:(XnU s).2=0
 ·rw [show ((XnU s).2 !=0)=false by simpa using hz,cond_false]
  unfold XmA XnU
  unfold XnU at hz
  have key:=iter_eq (step:=fun st=>XhD Xbf s st) (fun st=>stL (Xj3 s (s.length - st.toNat) st.toNat []).1) (fun st=>0≤st∧st≤s.length∧(Xj3 s (s.length - st.toNat) st.toNat []).2=0) (fun st=>s.length - st.toNat) ?_ FUEL 0 ⟨by omega,by omega,by simpa using hz⟩ (by rw [XgM];omega)
  ·rw [key];rfl
  intro st ⟨g1,g2,g3⟩
  obtain ⟨i,rfl⟩:=Int.eq_ofNat_of_zero_le g1
  simp only [Int.toNat_natCast] at g3 ⊢
  unfold XhD
  by_cases hi:i<s.length
  ·obtain ⟨n,hn⟩:∃ n,s.length - i=n+1:=⟨s.length - i - 1,by omega⟩
   have e:s[i]?=some s[i]:=List.getElem?_eq_getElem hi
   rw [hn,Xj3,e] at g3
   simp only at g3
   rw [XaP (by omega),Xar (by omega),Int.toNat_natCast,e,Option.bind_some,hn,Xj3,e]
   by_cases h0:s[i]=0
   ·refine .inl ?_
    rw [show ((s[i].toNat:Int)==0)=true by rw [h0];rfl,cond_true]
    simp only [h0,if_true];rfl
   rw [show ((s[i].toNat:Int)==0)=false by simp;intro hx;exact h0 (UInt8.toNat_inj.1 (by simpa using hx)),cond_false]
   rw [if_neg h0] at g3
   simp only [if_neg h0]
   by_cases h1:s[i]=1
   ·rw [if_pos h1] at g3
    refine .inr ⟨((i+1:Nat):Int),?_,⟨by omega,by omega,?_⟩,by omega,?_⟩
    ·rw [show ((s[i].toNat:Int)==1)=true by rw [h1];rfl,cond_true,XdT (by omega) (by omega)];rfl
    ·rw [Int.toNat_natCast,show s.length - (i+1)=n by omega];exact g3
    ·simp only [Int.toNat_natCast,if_pos h1]
     rw [show s.length - (i+1)=n by omega]
   rw [show ((s[i].toNat:Int)==1)=false by simp;intro hx;exact h1 (UInt8.toNat_inj.1 (by simp;omega)),cond_false]
   rw [if_neg h1] at g3
   simp only [if_neg h1]
   rw [XdT (n:=(i:Int)+1) (by omega) (by omega)]
   by_cases h2:s.length≤i+1
   ·rw [List.getElem?_eq_none (by omega)] at g3
    simp at g3
   have hi1:i+1<s.length:=by omega
   have e1:s[i+1]?=some s[i+1]:=List.getElem?_eq_getElem hi1
   have b1:=s[i+1].toNat_lt
   rw [e1] at g3
   simp only at g3
   rw [XaP (by omega),show ((i:Int)+1).toNat=i+1 by omega,e1,Xar (by omega),Option.bind_some]
   simp only [Option.bind_some]
   rw [XdT (n:=(s[i+1].toNat:Int)) (by omega) (by omega)]
   by_cases h3:s[i+1].toNat<2
   ·rw [if_pos h3] at g3
    exact absurd g3 (by decide)
   rw [if_neg h3] at g3
   rw [XaK (by omega),if_neg h3,XdT (n:=(s.length:Int) - i) (by omega) (by omega)]
   by_cases h4:s.length - i<s[i+1].toNat
   ·rw [if_pos h4] at g3
    exact absurd g3 (by decide)
   rw [if_neg h4,Xpq] at g3
   have b0:=s[i].toNat_lt
   have hz2:(Xj3 s (n+1 - s[i+1].toNat) (i+s[i+1].toNat) []).2=0:=by
    apply Decidable.byContradiction
    intro hx
    rw [if_neg hx] at g3
    exact absurd g3 (by decide)
   rw [if_neg h4,Xpq,if_pos hz2,XaK (by omega),Xar (by omega),XdT (n:=(i:Int)+s[i+1].toNat) (by omega) (by omega),XdT (n:=(i:Int)+2) (by omega) (by omega),XdT (n:=(s[i].toNat:Int)) (by omega) (by omega),Xar (by omega),show ((i:Int)+s[i+1].toNat).toNat - ((i:Int)+2).toNat=s[i+1].toNat - 2 by omega,show ((i:Int)+2).toNat=i+2 by omega]
   simp only [List.nil_append,List.cons_append,stL]
   have hdl:((s.drop (i+2)).take (s[i+1].toNat - 2)).length=s[i+1].toNat - 2:=by simp;omega
   generalize (s.drop (i+2)).take (s[i+1].toNat - 2)=D at *
   by_cases h8:(s[i].toNat:Int)=8
   ·refine .inl ?_
    rw [show ((s[i].toNat:Int) !=8)=false by simpa using h8,cond_false,if_pos h8,XgG (by omega),Option.bind_some]
    by_cases hl:D.length=8
    ·rw [Xi7 (by omega) (by omega) (by omega) (by omega),if_pos hl]
     have r0:=XfQ D 0 4 4294967296 (by decide)
     have r4:=XfQ D 4 4 4294967296 (by decide)
     have hv:=val8 hl
     have ev:(D.drop (0:Int).toNat).take (8:Int).toNat=D:=by
      rw [show (0:Int).toNat=0 from rfl,show (8:Int).toNat=8 from rfl,List.drop_zero,List.take_of_length_le (by omega)]
     simp only [cond_true,ev]
     rw [show ((D.length:Int)==8)=true by simp;omega,cond_true,hv,XsS,show ((2:Int)^32)=4294967296 from rfl,show (vK D 0 4*4294967296+vK D 4 4)/4294967296=vK D 0 4 by omega,XDt r0.1 r0.2,wU32m,show (vK D 0 4*4294967296+vK D 4 4)%4294967296=vK D 4 4 by omega];rfl
    ·rw [if_neg hl]
     rw [show ((D.length:Int)==8)=false by simp;omega]
     cases (Xxp D 0 8).2<;>rfl
   ·refine .inr ⟨((i+s[i+1].toNat:Nat):Int),?_,⟨by omega,by omega,?_⟩,by omega,?_⟩
    ·rw [show ((s[i].toNat:Int) !=8)=true by simpa using h8,cond_true];rfl
    ·rw [Int.toNat_natCast,show s.length - (i+s[i+1].toNat)=n+1 - s[i+1].toNat by omega];exact hz2
    ·rw [Int.toNat_natCast,show s.length - (i+s[i+1].toNat)=n+1 - s[i+1].toNat by omega,if_neg h8]
  ·refine .inl ?_
   rw [XaK (by omega),show s.length - i=0 by omega,Xj3];rfl
 ·rw [show ((XnU s).2 !=0)=true by simpa using hz,cond_true]
  unfold XmA
  rw [Xvc hz];rfl
def XiO (v e:Nat):List UInt8:=[1,1,8,10]++(be v 4++be e 4)
theorem XL7 {v e:Nat} (hv:v<4294967296) (he:e<4294967296):Xb4 (v:Int) (e:Int)=some (XiO v e):=by
 unfold Xb4 XjW XiO
 have k1:Xaj 16844810 4=some [1,1,8,10]:=by rw [Xbu (by omega)];rfl
 have k2:Xaj (Xlg .u64 (wI .u64 ((wI .u64 (v:Int))*2^32)) (wI .u64 (e:Int))) 8=some (be v 4++be e 4):=by
  have e2:Xlg .u64 (wI .u64 ((wI .u64 (v:Int))*2^32)) (wI .u64 (e:Int))=((v*4294967296+e:Nat):Int):=by
   rw [XfY (n:=(v:Int)) (by omega) (by omega),XfY (n:=(e:Int)) (by omega) (by omega),XfY (n:=(v:Int)*2^32) (by omega) (by omega),XgW 32 (by omega) (by omega) (by omega) (by omega) (by omega)];omega
  rw [e2,Xbu (by omega),show XcF ((v*4294967296+e:Nat):Int) 8=be ((v*4294967296+e:Nat):Int).toNat 8 from Xfo (k:=8) (by omega),Int.toNat_natCast,XAu _ _ (by omega)]
 rw [k1,Option.bind_some]
 simp only []
 rw [k2,Option.bind_some,Xar (by simp)]
theorem XMH {v e:Nat} (hv:v<4294967296) (he:e<4294967296):Xf6 (v:Int) (e:Int)=some (XiO v e):=by
 have num:∀ n:Nat,n<4294967296→Xf1 (wI .i64 (n:Int)) 4=some (be n 4):=fun n hn=>by
  unfold Xf1 Xru
  rw [XdT (by omega) (by omega),XfY (by omega) (by omega),Xdb (by omega) (by omega),show XcF (n:Int) 4=be (n:Int).toNat 4 from Xfo (k:=4) (by omega),Int.toNat_natCast];rfl
 unfold Xf6 XoC XiO
 rw [num v hv,num e he,Option.bind_some,Option.bind_some,Xar (by simp),Xar (by simp),List.append_assoc]
end Go.Vm.Code
namespace Go.Vm.Code
open Go Go.Vm Go.Proofs
set_option maxRecDepth 100000
set_option maxHeartbeats 4000000
set_option linter.unusedVariables false
def XiJ (ha0:Xat):Option Bool:=
 cond (decide (ha0.Bits<0))
  (
  some (false))
  (
  cond (decide (ha0.Bits≥64))
   (
   some (false))
   (
   cond (ha0.Long)
    (
    let t:=if (ha0.SCID.length:Int)>(ha0.DCID.length:Int) then (ha0.SCID.length:Int) else (ha0.DCID.length:Int)
    some (decide (t≤20)))
    (
    cond ((ha0.DCID.length:Int)==8)
     (
     cond (ha0.SCID==[])
      (
      some (ha0.Version==0))
      (
      some (false)))
     (
     some (false)))))
def XGc (x:Bool):XcU:=⟨.bool x,[],[]⟩
abbrev Xef:=Xat→Option Bool
def r186 (g:Xef):Dec:=dV Xht fun (y0:Xat)=>XdX (ofG (g y0) XGc)
theorem XSt {g:Xef} {y0:Xat} {x:Bool} (hx:g y0=some x):r186 g [.agg ⟨[.bool y0.Long,.int .i64 y0.Bits,.int .u32 y0.Version,.string ⟨⟨y0.DCID⟩⟩,.string ⟨⟨y0.SCID⟩⟩,.string ⟨⟨y0.Rest⟩⟩]⟩] []=some (XGc x):=(XaS (Xjl _)).trans (XaQ hx)
def s186 (g:Xef):XbE:=⟨[.v],r186 g⟩
theorem XPl {g:Xef} {y0:Xat} {x:Bool} (hx:g y0=some x):(s186 g).run [.agg ⟨[.bool y0.Long,.int .i64 y0.Bits,.int .u32 y0.Version,.string ⟨⟨y0.DCID⟩⟩,.string ⟨⟨y0.SCID⟩⟩,.string ⟨⟨y0.Rest⟩⟩]⟩] []=some (XGc x):=XSt hx
abbrev XNj:List (Nat×XbE):=[]
theorem XC8 (hS:Xak Tryz.prog (XaD (XNj))) (ha0:Xat) (res:Bool) (h:XiJ ha0=some res) :
 XaG Tryz.prog 186 0 ⟨⟨186,35,[(0,.agg ⟨[.bool ha0.Long,.int .i64 ha0.Bits,.int .u32 ha0.Version,.string ⟨⟨ha0.DCID⟩⟩,.string ⟨⟨ha0.SCID⟩⟩,.string ⟨⟨ha0.Rest⟩⟩]⟩)],[.code XxA],[],false,none⟩,[],[],0⟩ (fun v H _=>Res 0 (XGc res) v H):=by
 unfold XiJ at h
 refine Xa6 XaE hS true 3000 ?_
 conv=>whnf
 exact W
def Xda:Xef:=XiJ
theorem XNX:XbM Tryz.prog 186 (s186 Xda):=by
 have hL:=XC8 (Xak.XaM trivial)
 exact okA ⟨Tryz.f186,rfl,by decide,rfl⟩
def Xjc (Xaj:XaR) (ida0:List UInt8):Option (List UInt8):=
 (Xaj (wI .u64 (ida0.length:Int)) 1).bind fun p=>
 Xbh (decide (p.length+ida0.length<2^63)) <|
 some (p++ida0)
def XD2 (x:List UInt8):XcU:=⟨.string ⟨⟨x⟩⟩,[],[]⟩
abbrev Xew:=(List UInt8)→Option (List UInt8)
def r187 (g:Xew):Dec:=dV asS fun (y0:List UInt8)=>XdX (ofG (g y0) XD2)
theorem XSs {g:Xew} {y0:List UInt8} {x:List UInt8} (hx:g y0=some x):r187 g [.string ⟨⟨y0⟩⟩] []=some (XD2 x):=(XaS (Xd4)).trans (XaQ hx)
def s187 (g:Xew):XbE:=⟨[.v],r187 g⟩
theorem XK5 {g:Xew} {y0:List UInt8} {x:List UInt8} (hx:g y0=some x):(s187 g).run [.string ⟨⟨y0⟩⟩] []=some (XD2 x):=XSs hx
abbrev XLm (Xaj:XaR):List (Nat×XbE):=[(97,s97 Xaj)]
theorem XG1 (Xaj:XaR) (hS:Xak Tryz.prog (XaD (XLm Xaj))) (ida0:List UInt8) (res:List UInt8) (h:Xjc Xaj ida0=some res) :
 XaG Tryz.prog 187 0 ⟨⟨187,9,[(0,.string ⟨⟨ida0⟩⟩)],[.code XHP],[],false,none⟩,[],[],0⟩ (fun v H _=>Res 0 (XD2 res) v H):=by
 unfold Xjc at h
 have R1:=@Xlb Xaj
 refine Xa6 XaE hS true 3000 ?_
 conv=>whnf
 exact W
def Xdk:Xew:=Xjc Xaj
theorem XNw:XbM Tryz.prog 187 (s187 Xdk):=by
 have hL:=XG1 Xaj (Xak.XaM ⟨Xnh,trivial⟩)
 exact okA ⟨Tryz.f187,rfl,by decide,rfl⟩
def XnF (Xaj:XaR) (Xda:Xef) (Xdk:Xew) (ha0:Xat):Option ((List UInt8)×Int):=
 (Xda ha0).bind fun m=>
 cond (!m)
  (
  some (([],1)))
  (
  cond (ha0.Long)
   (
   (Xaj (wI .u64 (Xlg .i64 192 ha0.Bits)) 1).bind fun p=>
   (Xaj (wI .u64 ha0.Version) 4).bind fun p1=>
   Xbh (decide (p.length+p1.length<2^63)) <|
   (Xdk ha0.DCID).bind fun c=>
   Xbh (decide ((p++p1).length+c.length<2^63)) <|
   (Xdk ha0.SCID).bind fun c1=>
   Xbh (decide (((p++p1)++c).length+c1.length<2^63)) <|
   Xbh (decide ((((p++p1)++c)++c1).length+ha0.Rest.length<2^63)) <|
   some (((((p++p1)++c)++c1)++ha0.Rest,0)))
   (
   (Xaj (wI .u64 (Xlg .i64 64 ha0.Bits)) 1).bind fun p2=>
   Xbh (decide (p2.length+ha0.DCID.length<2^63)) <|
   Xbh (decide ((p2++ha0.DCID).length+ha0.Rest.length<2^63)) <|
   some (((p2++ha0.DCID)++ha0.Rest,0))))
def XCq (x:(List UInt8)×Int):XcU:=⟨.tuple ⟨[.string ⟨⟨x.1⟩⟩,.int .i64 x.2]⟩,[],[]⟩
abbrev XgK:=Xat→Option ((List UInt8)×Int)
def r162 (g:XgK):Dec:=dV Xht fun (y0:Xat)=>XdX (ofG (g y0) XCq)
theorem XUS {g:XgK} {y0:Xat} {x:(List UInt8)×Int} (hx:g y0=some x):r162 g [.agg ⟨[.bool y0.Long,.int .i64 y0.Bits,.int .u32 y0.Version,.string ⟨⟨y0.DCID⟩⟩,.string ⟨⟨y0.SCID⟩⟩,.string ⟨⟨y0.Rest⟩⟩]⟩] []=some (XCq x):=(XaS (Xjl _)).trans (XaQ hx)
def s162 (g:XgK):XbE:=⟨[.v],r162 g⟩
theorem XOX {g:XgK} {y0:Xat} {x:(List UInt8)×Int} (hx:g y0=some x):(s162 g).run [.agg ⟨[.bool y0.Long,.int .i64 y0.Bits,.int .u32 y0.Version,.string ⟨⟨y0.DCID⟩⟩,.string ⟨⟨y0.SCID⟩⟩,.string ⟨⟨y0.Rest⟩⟩]⟩] []=some (XCq x):=XUS hx
abbrev XMO (Xaj:XaR) (Xda:Xef) (Xdk:Xew):List (Nat×XbE):=[(97,s97 Xaj),(186,s186 Xda),(187,s187 Xdk)]
theorem XG0 (Xaj:XaR) (Xda:Xef) (Xdk:Xew) (hS:Xak Tryz.prog (XaD (XMO Xaj Xda Xdk))) (ha0:Xat) (res:(List UInt8)×Int) (h:XnF Xaj Xda Xdk ha0=some res) :
 XaG Tryz.prog 162 0 ⟨⟨162,43,[(0,.agg ⟨[.bool ha0.Long,.int .i64 ha0.Bits,.int .u32 ha0.Version,.string ⟨⟨ha0.DCID⟩⟩,.string ⟨⟨ha0.SCID⟩⟩,.string ⟨⟨ha0.Rest⟩⟩]⟩)],[.code XyZ],[],false,none⟩,[],[],0⟩ (fun v H _=>Res 0 (XCq res) v H):=by
 unfold XnF at h
 have R1:=@XPl Xda
 have R2:=@Xlb Xaj
 have R3:=@XK5 Xdk
 refine Xa6 XaE hS true 3000 ?_
 conv=>whnf
 exact W
def XgS:XgK:=XnF Xaj Xda Xdk
theorem XPv:XbM Tryz.prog 162 (s162 XgS):=by
 have hL:=XG0 Xaj Xda Xdk (Xak.XaM ⟨Xnh,XNX,XNw,trivial⟩)
 exact okA ⟨Tryz.f162,rfl,by decide,rfl⟩
def Xgq (Xai:XaI) (Xaf:Xaw) (ra0:Xah):Option ((List UInt8)×Xah):=
 (Xai ra0).bind fun b=>
 cond (b.1)
  (
  some (([],b.2)))
  (
  (Xaf b.2 (b.2.s.length:Int)).bind fun t=>
  some ((t.1,t.2)))
def XFj (x:(List UInt8)×Xah):XcU:=⟨.string ⟨⟨x.1⟩⟩,[],[some [.string ⟨⟨x.2.s⟩⟩,.bool x.2.made,.bool x.2.bad]]⟩
abbrev XcN:=Xah→Option ((List UInt8)×Xah)
def r139 (g:XcN):Dec:=dPt 0 XdZ fun (y0:Xah)=>XdX (ofG (g y0) XFj)
theorem XUP {g:XcN} {y0:Xah} {x:(List UInt8)×Xah} (hx:g y0=some x):r139 g [.pointer (some ⟨0,0,none⟩)] [some [.string ⟨⟨y0.s⟩⟩,.bool y0.made,.bool y0.bad]]=some (XFj x):=(Xie (Xga _)).trans (XaQ hx)
def s139 (g:XcN):XbE:=⟨[.pt 3],r139 g⟩
theorem XLB {g:XcN} {y0:Xah} {x:(List UInt8)×Xah} (hx:g y0=some x):(s139 g).run [.pointer (some ⟨0,0,none⟩)] [some [.string ⟨⟨y0.s⟩⟩,.bool y0.made,.bool y0.bad]]=some (XFj x):=XUP hx
abbrev XK0 (Xai:XaI) (Xaf:Xaw):List (Nat×XbE):=[(138,XH9 Xai),(129,XBS Xaf)]
theorem XF8 (Xai:XaI) (Xaf:Xaw) (hS:Xak Tryz.prog (XaD (XK0 Xai Xaf))) (ra0:Xah) (res:(List UInt8)×Xah) (h:Xgq Xai Xaf ra0=some res) :
 XaG Tryz.prog 139 1 ⟨⟨139,12,[(0,.pointer (some ⟨0,0,none⟩))],[.code XIH],[],false,none⟩,[],[(0,.cells [.string ⟨⟨ra0.s⟩⟩,.bool ra0.made,.bool ra0.bad])],1⟩ (fun v H _=>Res 1 (XFj res) v H):=by
 unfold Xgq at h
 have R1:=@XmP Xai
 have R2:=@XlU Xaf
 refine Xa6 XaE hS true 3000 ?_
 conv=>whnf
 exact W
def XbX:XcN:=Xgq Xai Xaf
theorem XNV:XbM Tryz.prog 139 (s139 XbX):=by
 have hL:=XF8 Xai Xaf (Xak.XaM ⟨Xog,Xlr,trivial⟩)
 exact okA ⟨Tryz.f139,rfl,by decide,rfl⟩
def Xnk (Xai:XaI) (Xad:XaJ) (Xaf:Xaw) (ra0:Xah):Option ((List UInt8)×Int×Xah):=
 (Xad ra0 1).bind fun n=>
 (Xai n.2).bind fun b=>
 cond (!b.1)
  (
  cond (decide (n.1>20))
   (
   some (([],3,b.2)))
   (
   (Xaf b.2 n.1).bind fun t=>
   (Xai t.2).bind fun b1=>
   cond (b1.1)
    (
    some (([],2,b1.2)))
    (
    some ((t.1,0,b1.2)))))
  (
  (Xaf b.2 n.1).bind fun t1=>
  (Xai t1.2).bind fun b2=>
  cond (b2.1)
   (
   some (([],2,b2.2)))
   (
   some ((t1.1,0,b2.2))))
def XGG (x:(List UInt8)×Int×Xah):XcU:=⟨.tuple ⟨[.string ⟨⟨x.1⟩⟩,.int .i64 x.2.1]⟩,[],[some [.string ⟨⟨x.2.2.s⟩⟩,.bool x.2.2.made,.bool x.2.2.bad]]⟩
abbrev Xhu:=Xah→Option ((List UInt8)×Int×Xah)
def r141 (g:Xhu):Dec:=dPt 0 XdZ fun (y0:Xah)=>XdX (ofG (g y0) XGG)
theorem XTw {g:Xhu} {y0:Xah} {x:(List UInt8)×Int×Xah} (hx:g y0=some x):r141 g [.pointer (some ⟨0,0,none⟩)] [some [.string ⟨⟨y0.s⟩⟩,.bool y0.made,.bool y0.bad]]=some (XGG x):=(Xie (Xga _)).trans (XaQ hx)
def s141 (g:Xhu):XbE:=⟨[.pt 3],r141 g⟩
theorem XAr {g:Xhu} {y0:Xah} {x:(List UInt8)×Int×Xah} (hx:g y0=some x):(s141 g).run [.pointer (some ⟨0,0,none⟩)] [some [.string ⟨⟨y0.s⟩⟩,.bool y0.made,.bool y0.bad]]=some (XGG x):=XTw hx
abbrev XMC (Xai:XaI) (Xad:XaJ) (Xaf:Xaw):List (Nat×XbE):=[(138,XH9 Xai),(78,s78 Xad),(129,XBS Xaf)]
theorem XEk (Xai:XaI) (Xad:XaJ) (Xaf:Xaw) (hS:Xak Tryz.prog (XaD (XMC Xai Xad Xaf))) (ra0:Xah) (res:(List UInt8)×Int×Xah) (h:Xnk Xai Xad Xaf ra0=some res) :
 XaG Tryz.prog 141 1 ⟨⟨141,21,[(0,.pointer (some ⟨0,0,none⟩))],[.code XAW],[],false,none⟩,[],[(0,.cells [.string ⟨⟨ra0.s⟩⟩,.bool ra0.made,.bool ra0.bad])],1⟩ (fun v H _=>Res 1 (XGG res) v H):=by
 unfold Xnk at h
 have R1:=@XmI Xad
 have R2:=@XmP Xai
 have R3:=@XlU Xaf
 refine Xa6 XaE hS true 3000 ?_
 conv=>whnf
 exact W
def Xhr:Xhu:=Xnk Xai Xad Xaf
theorem XML:XbM Tryz.prog 141 (s141 Xhr):=by
 have hL:=XEk Xai Xad Xaf (Xak.XaM ⟨Xog,XqG,Xlr,trivial⟩)
 exact okA ⟨Tryz.f141,rfl,by decide,rfl⟩
def Xnl (Xa3:Xcf) (Xai:XaI) (Xad:XaJ) (XbX:XcN) (Xaf:Xaw) (Xhr:Xhu) (s:List UInt8):Option (Xat×Int):=
 (Xa3 s).bind fun n=>
 (Xad n 1).bind fun n1=>
 (Xai n1.2).bind fun b=>
 cond (b.1)
  (
  some ((Xat.mk false 0 0 [] [] [],2)))
  (
  cond ((Xnr .i64 n1.1 64)==0)
   (
   some ((Xat.mk false 0 0 [] [] [],3)))
   (
   cond (!((Xnr .i64 n1.1 128) !=0))
    (
    (Xaf b.2 8).bind fun t=>
    (Xai t.2).bind fun b1=>
    cond (b1.1)
     (
     some ((Xat.mk false 0 0 [] [] [],2)))
     (
     (XbX b1.2).bind fun xr=>
     some ((Xat.mk ((Xnr .i64 n1.1 128) !=0) (Xnr .i64 n1.1 63) 0 t.1 [] xr.1,0))))
    (
    (Xad b.2 4).bind fun n2=>
    (Xhr n2.2).bind fun i=>
    cond (i.2.1 !=0)
     (
     some ((Xat.mk false 0 0 [] [] [],i.2.1)))
     (
     (Xhr i.2.2).bind fun i1=>
     cond (i1.2.1 !=0)
      (
      some ((Xat.mk false 0 0 [] [] [],i1.2.1)))
      (
      (XbX i1.2.2).bind fun xr1=>
      some ((Xat.mk ((Xnr .i64 n1.1 128) !=0) (Xnr .i64 n1.1 63) (wI .u32 n2.1) i.1 i1.1 xr1.1,0)))))))
def rx94 (x:Xat×Int):XcU:=⟨.tuple ⟨[.agg ⟨[.bool x.1.Long,.int .i64 x.1.Bits,.int .u32 x.1.Version,.string ⟨⟨x.1.DCID⟩⟩,.string ⟨⟨x.1.SCID⟩⟩,.string ⟨⟨x.1.Rest⟩⟩]⟩,.int .i64 x.2]⟩,[],[]⟩
abbrev XeT:=(List UInt8)→Option (Xat×Int)
def r94 (g:XeT):Dec:=dV asS fun (y0:List UInt8)=>XdX (ofG (g y0) rx94)
theorem r94_c {g:XeT} {y0:List UInt8} {x:Xat×Int} (hx:g y0=some x):r94 g [.string ⟨⟨y0⟩⟩] []=some (rx94 x):=(XaS (Xd4)).trans (XaQ hx)
def s94 (g:XeT):XbE:=⟨[.v],r94 g⟩
theorem XIf {g:XeT} {y0:List UInt8} {x:Xat×Int} (hx:g y0=some x):(s94 g).run [.string ⟨⟨y0⟩⟩] []=some (rx94 x):=r94_c hx
abbrev XS4 (Xa3:Xcf) (Xai:XaI) (Xad:XaJ) (XbX:XcN) (Xaf:Xaw) (Xhr:Xhu):List (Nat×XbE):=[(77,s77 Xa3),(138,XH9 Xai),(78,s78 Xad),(139,s139 XbX),(129,XBS Xaf),(141,s141 Xhr)]
theorem XNY (Xa3:Xcf) (Xai:XaI) (Xad:XaJ) (XbX:XcN) (Xaf:Xaw) (Xhr:Xhu) (hS:Xak Tryz.prog (XaD (XS4 Xa3 Xai Xad XbX Xaf Xhr))) (s:List UInt8) (res:Xat×Int) (h:Xnl Xa3 Xai Xad XbX Xaf Xhr s=some res) :
 XaG Tryz.prog 94 0 ⟨⟨94,60,[(0,.string ⟨⟨s⟩⟩)],[.code XI4],[],false,none⟩,[],[],0⟩ (fun v H _=>Res 0 (rx94 res) v H):=by
 unfold Xnl at h
 have R1:=@XlU Xaf
 have R2:=@XmP Xai
 have R3:=@XLB XbX
 refine Xa6 XaE hS true 3000 ?_
 conv=>whnf
 replace h:=Xdg.elim h;obtain ⟨n,hy,h⟩:=h
 refine Xg9.a (XsP hy) ?_
 conv=>whnf
 replace h:=Xdg.elim h;obtain ⟨n1,hy,h⟩:=h
 refine Xg9.a (XmI hy) ?_
 conv=>whnf
 replace h:=Xdg.elim h;obtain ⟨b,hy,h⟩:=h
 refine Xg9.a (XmP hy) ?_
 conv=>whnf
 refine br.h h (by rfl) ?_ ?_
 ·clear h;intro hb h;conv=>whnf
  exact W
 clear h;intro hb h;conv=>whnf
 refine br.h h (by rfl) ?_ ?_
 ·clear h;intro hb h;conv=>whnf
  exact W
 clear h;intro hb h;conv=>whnf
 refine br.h h (by rfl) ?_ ?_
 ·clear h;intro hb h;conv=>whnf
  exact W
 clear h;intro hb h;conv=>whnf
 replace h:=Xdg.elim h;obtain ⟨n2,hy,h⟩:=h
 refine Xg9.a (XmI hy) ?_
 conv=>whnf
 refine Xa6 XaE hS true 3000 ?_
 conv=>whnf
 replace h:=Xdg.elim h;obtain ⟨i,hy,h⟩:=h
 refine Xg9.a (XAr hy) ?_
 conv=>whnf
 refine br.h h (by rfl) ?_ ?_
 ·clear h;intro hb h;conv=>whnf
  refine br.pos ?_ ?_;(focus (clear h;first|assumption|(simp_all;done)))
  conv=>whnf
  exact W
 clear h;intro hb h;conv=>whnf
 refine Xa6 XaE hS true 3000 ?_
 conv=>whnf
 replace h:=Xdg.elim h;obtain ⟨i1,hy,h⟩:=h
 refine Xg9.a (XAr hy) ?_
 conv=>whnf
 refine br.h h (by rfl) ?_ ?_
 ·clear h;intro hb h;conv=>whnf
  refine br.pos ?_ ?_;(focus (clear h;first|assumption|(simp_all;done)))
  conv=>whnf
  exact W
 clear h;intro hb h;conv=>whnf
 refine Xa6 XaE hS true 3000 ?_
 conv=>whnf
 exact W
def Xec:XeT:=Xnl Xa3 Xai Xad XbX Xaf Xhr
theorem XJp:XbM Tryz.prog 94 (s94 Xec):=by
 have hL:=XNY Xa3 Xai Xad XbX Xaf Xhr (Xak.XaM ⟨XsK,Xog,XqG,XNV,Xlr,XML,trivial⟩)
 exact okA ⟨Tryz.f94,rfl,by decide,rfl⟩
def XoZ (Xa4:Xcn) (ha0:Xat):Option ((List UInt8)×Int):=
 cond (decide (ha0.Bits<0))
  (
  some (([],1)))
  (
  cond (decide (ha0.Bits>63))
   (
   some (([],1)))
   (
   cond (ha0.Long)
    (
    cond (decide ((ha0.DCID.length:Int)>20))
     (
     some (([],1)))
     (
     cond (decide ((ha0.SCID.length:Int)>20))
      (
      some (([],1)))
      (
      (Xa4 (wI .u64 (wI .i64 (192+ha0.Bits))) 1).bind fun p=>
      (Xa4 (wI .u64 ha0.Version) 4).bind fun p1=>
      Xbh (decide (p.length+p1.length<2^63)) <|
      (Xa4 (wI .u64 (ha0.DCID.length:Int)) 1).bind fun p2=>
      Xbh (decide ((p++p1).length+p2.length<2^63)) <|
      Xbh (decide (((p++p1)++p2).length+ha0.DCID.length<2^63)) <|
      (Xa4 (wI .u64 (ha0.SCID.length:Int)) 1).bind fun p3=>
      Xbh (decide ((((p++p1)++p2)++ha0.DCID).length+p3.length<2^63)) <|
      Xbh (decide (((((p++p1)++p2)++ha0.DCID)++p3).length+ha0.SCID.length<2^63)) <|
      let t:=((((p++p1)++p2)++ha0.DCID)++p3)++ha0.SCID
      Xbh (decide (t.length+ha0.Rest.length<2^63)) <|
      some ((t++ha0.Rest,0)))))
    (
    cond ((ha0.DCID.length:Int) !=8)
     (
     some (([],1)))
     (
     cond (!(ha0.SCID==[]))
      (
      some (([],1)))
      (
      cond (ha0.Version !=0)
       (
       some (([],1)))
       (
       (Xa4 (wI .u64 (wI .i64 (64+ha0.Bits))) 1).bind fun p4=>
       Xbh (decide (p4.length+ha0.DCID.length<2^63)) <|
       Xbh (decide ((p4++ha0.DCID).length+ha0.Rest.length<2^63)) <|
       some (((p4++ha0.DCID)++ha0.Rest,0))))))))
def rx43 (x:(List UInt8)×Int):XcU:=⟨.tuple ⟨[.string ⟨⟨x.1⟩⟩,.int .i64 x.2]⟩,[],[]⟩
abbrev Xe3:=Xat→Option ((List UInt8)×Int)
def r43 (g:Xe3):Dec:=dV Xht fun (y0:Xat)=>XdX (ofG (g y0) rx43)
theorem r43_c {g:Xe3} {y0:Xat} {x:(List UInt8)×Int} (hx:g y0=some x):r43 g [.agg ⟨[.bool y0.Long,.int .i64 y0.Bits,.int .u32 y0.Version,.string ⟨⟨y0.DCID⟩⟩,.string ⟨⟨y0.SCID⟩⟩,.string ⟨⟨y0.Rest⟩⟩]⟩] []=some (rx43 x):=(XaS (Xjl _)).trans (XaQ hx)
def s43 (g:Xe3):XbE:=⟨[.v],r43 g⟩
theorem XTK {g:Xe3} {y0:Xat} {x:(List UInt8)×Int} (hx:g y0=some x):(s43 g).run [.agg ⟨[.bool y0.Long,.int .i64 y0.Bits,.int .u32 y0.Version,.string ⟨⟨y0.DCID⟩⟩,.string ⟨⟨y0.SCID⟩⟩,.string ⟨⟨y0.Rest⟩⟩]⟩] []=some (rx43 x):=r43_c hx
abbrev XU4 (Xa4:Xcn):List (Nat×XbE):=[(63,s63 Xa4)]
theorem XO8 (Xa4:Xcn) (hS:Xak Tryz.prog (XaD (XU4 Xa4))) (ha0:Xat) (res:(List UInt8)×Int) (h:XoZ Xa4 ha0=some res) :
 XaG Tryz.prog 43 0 ⟨⟨43,80,[(0,.agg ⟨[.bool ha0.Long,.int .i64 ha0.Bits,.int .u32 ha0.Version,.string ⟨⟨ha0.DCID⟩⟩,.string ⟨⟨ha0.SCID⟩⟩,.string ⟨⟨ha0.Rest⟩⟩]⟩)],[.code XIW],[],false,none⟩,[],[],0⟩ (fun v H _=>Res 0 (rx43 res) v H):=by
 unfold XoZ at h
 have R1:=@Xq0 Xa4
 refine Xa6 XaE hS true 3000 ?_
 conv=>whnf
 exact W
def Xey:Xe3:=XoZ Xa4
theorem lift43:XbM Tryz.prog 43 (s43 Xey):=by
 have hL:=XO8 Xa4 (Xak.XaM ⟨Xrg,trivial⟩)
 exact okA ⟨Tryz.f43,rfl,by decide,rfl⟩
def Xrv (s:List UInt8) (ata1:Int):Option ((List UInt8)×Int×Int):=
 cond (decide (ata1≥(s.length:Int)))
  (
  some (([],2,0)))
  (
  Xbh (decide (0≤ata1)) <|
  (s[ata1.toNat]?).bind fun (b:UInt8)=>
  cond (decide ((wI .i64 (b.toNat:Int))>20))
   (
   some (([],3,0)))
   (
   let t:=wI .i64 ((wI .i64 ((s.length:Int) - ata1)) - 1)
   cond (decide ((wI .i64 (b.toNat:Int))>t))
    (
    some (([],2,0)))
    (
    let t1:=wI .i64 ((wI .i64 (ata1+1))+(wI .i64 (b.toNat:Int)))
    Xbh (decide ((0:Int)≤t1∧t1≤(s.length:Int)∧(0:Int)≤(wI .i64 (ata1+1))∧(wI .i64 (ata1+1))≤(t1.toNat:Int))) <|
    let t2:=(s.drop (wI .i64 (ata1+1)).toNat).take (t1.toNat - (wI .i64 (ata1+1)).toNat)
    let t3:=wI .i64 ((wI .i64 (ata1+1))+(wI .i64 (b.toNat:Int)))
    some ((t2,0,t3)))))
def XE8 (x:(List UInt8)×Int×Int):XcU:=⟨.tuple ⟨[.string ⟨⟨x.1⟩⟩,.int .i64 x.2.1,.int .i64 x.2.2]⟩,[],[]⟩
abbrev XiT:=(List UInt8)→Int→Option ((List UInt8)×Int×Int)
def r126 (g:XiT):Dec:=dV asS fun (y0:List UInt8)=>dV (asI .i64) fun (y1:Int)=>XdX (ofG (g y0 y1) XE8)
theorem XV4 {g:XiT} {y0:List UInt8} {y1:Int} {x:(List UInt8)×Int×Int} (hx:g y0 y1=some x):r126 g [.string ⟨⟨y0⟩⟩,.int .i64 y1] []=some (XE8 x):=(XaS (Xd4)).trans ((XaS (XeL _)).trans (XaQ hx))
def s126 (g:XiT):XbE:=⟨[.v,.v],r126 g⟩
theorem XN8 {g:XiT} {y0:List UInt8} {y1:Int} {x:(List UInt8)×Int×Int} (hx:g y0 y1=some x):(s126 g).run [.string ⟨⟨y0⟩⟩,.int .i64 y1] []=some (XE8 x):=XV4 hx
abbrev XP0:List (Nat×XbE):=[]
theorem XFf (hS:Xak Tryz.prog (XaD (XP0))) (s:List UInt8) (ata1:Int) (res:(List UInt8)×Int×Int) (h:Xrv s ata1=some res) :
 XaG Tryz.prog 126 0 ⟨⟨126,37,[(0,.string ⟨⟨s⟩⟩),(1,.int .i64 ata1)],[.code Xy5],[],false,none⟩,[],[],0⟩ (fun v H _=>Res 0 (XE8 res) v H):=by
 unfold Xrv at h
 refine Xa6 XaE hS true 3000 ?_
 conv=>whnf
 exact W
def XjL:XiT:=Xrv
theorem XN5:XbM Tryz.prog 126 (s126 XjL):=by
 have hL:=XFf (Xak.XaM trivial)
 exact okA ⟨Tryz.f126,rfl,by decide,rfl⟩
def Xo2 (Xao:XbC) (XjL:XiT) (s:List UInt8):Option (Xat×Int):=
 cond (s==[])
  (
  some ((Xat.mk false 0 0 [] [] [],2)))
  (
  (s[0]?).bind fun (b:UInt8)=>
  let t:=(wI .u8 ((b.toNat:Int).tdiv 64)).tmod 2
  cond (t==0)
   (
   some ((Xat.mk false 0 0 [] [] [],3)))
   (
   (s[0]?).bind fun (b1:UInt8)=>
   (s[0]?).bind fun (b2:UInt8)=>
   cond (!(decide ((b1.toNat:Int)≥128)))
    (
    cond (decide ((s.length:Int)<9))
     (
     some ((Xat.mk false 0 0 [] [] [],2)))
     (
     Xbh (decide ((0:Int)≤(9:Int)∧(9:Int)≤(s.length:Int)∧(0:Int)≤(1:Int)∧(1:Int)≤(9:Int))) <|
     Xbh (decide ((0:Int)≤(9:Int)∧(9:Int)≤(s.length:Int))) <|
     some ((Xat.mk (decide ((b1.toNat:Int)≥128)) (wI .i64 ((b2.toNat:Int).tmod 64)) 0 ((s.drop 1).take 8) [] ((s.drop 9).take (s.length - 9)),0))))
    (
    cond (decide ((s.length:Int)<5))
     (
     some ((Xat.mk false 0 0 [] [] [],2)))
     (
     (Xao s 1 4).bind fun m=>
     (XjL s 5).bind fun i=>
     cond (i.2.1 !=0)
      (
      some ((Xat.mk false 0 0 [] [] [],i.2.1)))
      (
      (XjL s i.2.2).bind fun i1=>
      cond (i1.2.1 !=0)
       (
       some ((Xat.mk false 0 0 [] [] [],i1.2.1)))
       (
       Xbh (decide ((0:Int)≤i1.2.2∧i1.2.2≤(s.length:Int))) <|
       let t1:=(s.drop i1.2.2.toNat).take (s.length - i1.2.2.toNat)
       some ((Xat.mk (decide ((b1.toNat:Int)≥128)) (wI .i64 ((b2.toNat:Int).tmod 64)) (wI .u32 m) i.1 i1.1 t1,0))))))))
def rx74 (x:Xat×Int):XcU:=⟨.tuple ⟨[.agg ⟨[.bool x.1.Long,.int .i64 x.1.Bits,.int .u32 x.1.Version,.string ⟨⟨x.1.DCID⟩⟩,.string ⟨⟨x.1.SCID⟩⟩,.string ⟨⟨x.1.Rest⟩⟩]⟩,.int .i64 x.2]⟩,[],[]⟩
abbrev Xg0:=(List UInt8)→Option (Xat×Int)
def r74 (g:Xg0):Dec:=dV asS fun (y0:List UInt8)=>XdX (ofG (g y0) rx74)
theorem r74_c {g:Xg0} {y0:List UInt8} {x:Xat×Int} (hx:g y0=some x):r74 g [.string ⟨⟨y0⟩⟩] []=some (rx74 x):=(XaS (Xd4)).trans (XaQ hx)
def s74 (g:Xg0):XbE:=⟨[.v],r74 g⟩
theorem XQw {g:Xg0} {y0:List UInt8} {x:Xat×Int} (hx:g y0=some x):(s74 g).run [.string ⟨⟨y0⟩⟩] []=some (rx74 x):=r74_c hx
abbrev XSL (Xao:XbC) (XjL:XiT):List (Nat×XbE):=[(88,s88 Xao),(126,s126 XjL)]
theorem XKu (Xao:XbC) (XjL:XiT) (hS:Xak Tryz.prog (XaD (XSL Xao XjL))) (s:List UInt8) (res:Xat×Int) (h:Xo2 Xao XjL s=some res) :
 XaG Tryz.prog 74 0 ⟨⟨74,79,[(0,.string ⟨⟨s⟩⟩)],[.code XIN],[],false,none⟩,[],[],0⟩ (fun v H _=>Res 0 (rx74 res) v H):=by
 unfold Xo2 at h
 have R1:=@XoK Xao
 have R2:=@XN8 XjL
 refine Xa6 XaE hS true 3000 ?_
 conv=>whnf
 exact W
def XgD:Xg0:=Xo2 Xao XjL
theorem XVn:XbM Tryz.prog 74 (s74 XgD):=by
 have hL:=XKu Xao XjL (Xak.XaM ⟨Xql,XN5,trivial⟩)
 exact okA ⟨Tryz.f74,rfl,by decide,rfl⟩
end Go.Vm.Code
namespace Go.Vm.Code
open Go Go.Vm
def HOK (h:Xat):Prop:=(0≤h.Bits∧h.Bits<64)∧if h.Long=true then h.DCID.length≤20∧h.SCID.length≤20 else h.DCID.length=8∧h.SCID=[]∧h.Version=0
instance (h:Xat):Decidable (HOK h):=by unfold HOK;exact inferInstance
def XgL (h:Xat):List UInt8:=if h.Long=true then be (192+h.Bits.toNat) 1++be h.Version.toNat 4++(be h.DCID.length 1++h.DCID)++(be h.SCID.length 1++h.SCID)++h.Rest else be (64+h.Bits.toNat) 1++h.DCID++h.Rest
def XmB (h:Xat):List UInt8×Int:=if HOK h then (XgL h,0) else ([],1)
theorem XCF:∀ b:Fin 64,Xlg .i64 192 ((b.val:Nat):Int)=((192+b.val:Nat):Int)∧Xlg .i64 64 ((b.val:Nat):Int)=((64+b.val:Nat):Int):=by decide +kernel
theorem XL3 (h:Xat):Xda h=some (decide (HOK h)):=by
 unfold Xda XiJ
 by_cases h1:h.Bits<0
 ·rw [XaP h1,decide_eq_false (p:=HOK h) (fun q=>by have:=q.1.1;omega)]
 by_cases h2:h.Bits≥64
 ·rw [XaK h1,XaP h2,decide_eq_false (p:=HOK h) (fun q=>by have:=q.1.2;omega)]
 rw [XaK h1,XaK h2]
 cases hl:h.Long with
 | true=>
   rw [cond_true]
   simp only []
   congr 1
   rw [decide_eq_decide]
   unfold HOK
   rw [if_pos hl]
   split<;>constructor<;>intro q<;>omega
 | false=>
   have nl:¬ h.Long=true:=by rw [hl];simp
   rw [cond_false]
   by_cases h3:h.DCID.length=8
   ·have:(((h.DCID.length:Nat):Int)==8)=true:=by rw [beq_iff_eq];omega
    rw [this,cond_true]
    by_cases h4:h.SCID=[]
    ·have:(h.SCID==[])=true:=by rw [beq_iff_eq];exact h4
     rw [this,cond_true]
     congr 1
     rw [Bool.eq_iff_iff,beq_iff_eq,decide_eq_true_eq]
     unfold HOK
     rw [if_neg nl]
     exact ⟨fun q=>⟨by omega,h3,h4,q⟩,fun q=>q.2.2.2⟩
    ·have:(h.SCID==[])=false:=by rw [beq_eq_false_iff_ne];exact h4
     rw [this,cond_false,decide_eq_false (p:=HOK h) (fun q=>by have:=q.2;rw [if_neg nl] at this;exact h4 this.2.1)]
   ·have:(((h.DCID.length:Nat):Int)==8)=false:=by rw [beq_eq_false_iff_ne];omega
    rw [this,cond_false,decide_eq_false (p:=HOK h) (fun q=>by have:=q.2;rw [if_neg nl] at this;exact h3 this.1)]
theorem XqI {s:List UInt8} (h:s.length≤20):Xdk s=some (be s.length 1++s):=by
 unfold Xdk Xjc
 rw [XfY (by omega) (by omega),Xbu (by omega),Option.bind_some]
 unfold XcF
 rw [if_pos (by omega),show (1:Int).toNat=1 from rfl,Int.toNat_natCast]
 rw [Xar (by simp;omega)]
theorem XPd {h:Xat} (hv:0≤h.Version∧h.Version<2^32) (hr:h.Rest.length<2^38):XgS h=some (XmB h):=by
 unfold XgS XnF XmB
 rw [XL3,Option.bind_some]
 by_cases hk:HOK h
 ·rw [decide_eq_true hk,Bool.not_true,cond_false,if_pos hk]
  obtain ⟨⟨b0,b1'⟩,hk⟩:=hk
  obtain ⟨b,hb⟩:=Int.eq_ofNat_of_zero_le b0
  have hi:=XCF ⟨b,by omega⟩
  simp only at hi
  obtain ⟨v,hvv⟩:=Int.eq_ofNat_of_zero_le hv.1
  rw [hb,hvv]
  unfold XgL
  cases hl:h.Long with
  | true=>
    rw [hl] at hk
    simp only [if_true] at hk ⊢
    rw [cond_true,hi.1,XfY (by omega) (by omega),XfY (by omega) (by omega),Xbu (by omega),Option.bind_some,Xbu (by omega),Option.bind_some]
    unfold XcF
    rw [if_pos (by omega),if_pos (by omega)]
    rw [Xar (by simp),XqI hk.1,Option.bind_some,Xar (by simp;omega),XqI hk.2,Option.bind_some,Xar (by simp;omega),Xar (by simp;omega),hb,hvv]
    simp only [Int.toNat_natCast,show (1:Int).toNat=1 from rfl,show (4:Int).toNat=4 from rfl]
  | false=>
    rw [hl] at hk
    simp only [Bool.false_eq_true,if_false] at hk ⊢
    rw [cond_false,hi.2,XfY (by omega) (by omega),Xbu (by omega),Option.bind_some]
    unfold XcF
    rw [if_pos (by omega),Xar (by simp;omega),Xar (by simp;omega),hb]
    simp only [Int.toNat_natCast,show (1:Int).toNat=1 from rfl]
 ·rw [decide_eq_false hk,Bool.not_false,cond_true,if_neg hk]
theorem XD9 {h:Xat} (hv:0≤h.Version∧h.Version<2^32) (hr:h.Rest.length<2^38):Xey h=some (XmB h):=by
 unfold Xey XoZ XmB
 by_cases h1:h.Bits<0
 ·rw [XaP h1,if_neg (fun q=>by have:=q.1.1;omega)]
 by_cases h2:h.Bits>63
 ·rw [XaK h1,XaP h2,if_neg (fun q=>by have:=q.1.2;omega)]
 rw [XaK h1,XaK h2]
 obtain ⟨b,hb⟩:=Int.eq_ofNat_of_zero_le (show 0≤h.Bits by omega)
 obtain ⟨v,hvv⟩:=Int.eq_ofNat_of_zero_le hv.1
 cases hl:h.Long with
 | true=>
   rw [cond_true]
   by_cases h3:(h.DCID.length:Int)>20
   ·rw [XaP h3,if_neg (fun q=>by have:=q.2;rw [if_pos hl] at this;omega)]
   by_cases h4:(h.SCID.length:Int)>20
   ·rw [XaK h3,XaP h4,if_neg (fun q=>by have:=q.2;rw [if_pos hl] at this;omega)]
   have hk:HOK h:=⟨by omega,by rw [if_pos hl];omega⟩
   rw [XaK h3,XaK h4,if_pos hk]
   unfold XgL
   rw [if_pos hl,hb,hvv,XdT (by omega) (by omega),XfY (by omega) (by omega),XfY (by omega) (by omega),XfY (by omega) (by omega),XfY (by omega) (by omega),Xdb (by omega) (by omega),Option.bind_some,Xdb (by omega) (by omega),Option.bind_some]
   unfold XcF
   rw [if_pos (by omega),if_pos (by omega)]
   rw [Xar (by simp),Xdb (by omega) (by omega),Option.bind_some]
   unfold XcF
   rw [if_pos (by omega),Xar (by simp),Xar (by simp;omega),Xdb (by omega) (by omega),Option.bind_some]
   unfold XcF
   rw [if_pos (by omega),Xar (by simp;omega),Xar (by simp;omega),Xar (by simp;omega)]
   have e:((192:Int)+(b:Int)).toNat=192+b:=by omega
   simp only [Int.toNat_natCast,show (1:Int).toNat=1 from rfl,show (4:Int).toNat=4 from rfl,e,List.append_assoc]
 | false=>
   rw [cond_false]
   have nl:¬ h.Long=true:=by rw [hl];simp
   by_cases h3:h.DCID.length=8
   ·have:(((h.DCID.length:Nat):Int) !=8)=false:=by rw [bne_eq_false_iff_eq];omega
    rw [this,cond_false]
    by_cases h4:h.SCID=[]
    ·have:(h.SCID==[])=true:=by rw [beq_iff_eq];exact h4
     rw [this,Bool.not_true,cond_false]
     by_cases h5:h.Version=0
     ·have:(h.Version !=0)=false:=by rw [bne_eq_false_iff_eq];exact h5
      have hk:HOK h:=⟨by omega,by rw [if_neg nl];exact ⟨h3,h4,h5⟩⟩
      rw [this,cond_false,if_pos hk]
      unfold XgL
      rw [if_neg nl,hb,XdT (by omega) (by omega),XfY (by omega) (by omega),Xdb (by omega) (by omega),Option.bind_some]
      unfold XcF
      rw [if_pos (by omega),Xar (by simp;omega),Xar (by simp;omega)]
      have e:((64:Int)+(b:Int)).toNat=64+b:=by omega
      simp only [Int.toNat_natCast,show (1:Int).toNat=1 from rfl,e]
     ·have:(h.Version !=0)=true:=by rw [bne_iff_ne];exact h5
      rw [this,cond_true,if_neg (fun q=>by have:=q.2;rw [if_neg nl] at this;exact h5 this.2.2)]
    ·have:(h.SCID==[])=false:=by rw [beq_eq_false_iff_ne];exact h4
     rw [this,Bool.not_false,cond_true,if_neg (fun q=>by have:=q.2;rw [if_neg nl] at this;exact h4 this.2.1)]
   ·have:(((h.DCID.length:Nat):Int) !=8)=true:=by rw [bne_iff_ne];omega
    rw [this,cond_true,if_neg (fun q=>by have:=q.2;rw [if_neg nl] at this;exact h3 this.1)]
def Xw4:Xat:=⟨false,0,0,[],[],[]⟩
def idS (s:List UInt8) (p:Nat):List UInt8×Int×Nat:=
 if s.length≤p then ([],2,0) else if 20<b1 s p then ([],3,0) else if s.length<p+1+b1 s p then ([],2,0) else ((s.drop (p+1)).take (b1 s p),0,p+1+b1 s p)
theorem XJe {s:List UInt8} {p:Nat} (h:s.length<2^38):XjL s (p:Int)=some ((idS s p).1,(idS s p).2.1,(((idS s p).2.2:Nat):Int)):=by
 unfold XjL Xrv idS
 by_cases h1:s.length≤p
 ·rw [XaP (by omega),if_pos h1];rfl
 have e1:s[(p:Int).toNat]?=some (s[p]'(by omega)):=by rw [Int.toNat_natCast];exact List.getElem?_eq_getElem (by omega)
 have hb:=XGe s p
 rw [XaK (by omega),if_neg h1,Xar (by omega),e1,Option.bind_some,←XHU (by omega),XdT (n:=((b1 s p:Nat):Int)) (by omega) (by omega)]
 by_cases h2:20<b1 s p
 ·rw [XaP (by omega),if_pos h2];rfl
 rw [XaK (by omega),if_neg h2,XdT (n:=(s.length:Int) - p) (by omega) (by omega),XdT (by omega) (by omega),XdT (n:=(p:Int)+1) (by omega) (by omega),XdT (n:=(p:Int)+1+((b1 s p:Nat):Int)) (by omega) (by omega)]
 simp only []
 by_cases h3:s.length<p+1+b1 s p
 ·rw [XaP (by omega),if_pos h3];rfl
 rw [XaK (by omega),if_neg h3,Xar (by omega)]
 have f1:((p:Int)+1).toNat=p+1:=by omega
 have f2:((p:Int)+1+((b1 s p:Nat):Int)).toNat - (p+1)=b1 s p:=by omega
 rw [f1,f2]
 simp
theorem i17:(if (1:Int)<1∨(1:Int)>7 then -1 else 1:Int)=1:=by decide
theorem i47:(if (4:Int)<1∨(4:Int)>7 then -1 else 4:Int)=4:=by decide
theorem XpF (s:List UInt8) (k:Int):rdr ⟨s,true,true⟩ k=⟨s,true,true⟩:=by unfold rdr;rw [if_pos (.inl rfl)]
theorem XKs (s:List UInt8) (h:s.length<2^38):Xhr ⟨s,true,true⟩=some ([],2,⟨s,true,true⟩):=by
 unfold Xhr Xnk
 rw [Xh4 rfl (by simp only [];omega),Option.bind_some]
 simp only [XpF]
 rw [Xgj rfl,Option.bind_some]
 simp only [Bool.not_true,cond_false]
 rw [XgX rfl,Option.bind_some]
 simp only [XpF]
 rw [Xgj rfl,Option.bind_some]
 rfl
theorem XI1 {s:List UInt8} {p:Nat} (h:s.length<2^38):∃ r,Xhr ⟨s.drop p,true,false⟩=some ((idS s p).1,(idS s p).2.1,r)∧((idS s p).2.1=0→r=⟨s.drop (idS s p).2.2,true,false⟩):=by
 have hb:=XGe s p
 have ld:(s.drop p).length=s.length - p:=List.length_drop ..
 unfold Xhr Xnk idS
 rw [Xh4 rfl (by simp only [];omega),Option.bind_some]
 simp only [rdn,i17]
 by_cases h1:s.length≤p
 ·have hr:rdr ⟨s.drop p,true,false⟩ 1=⟨s.drop p,true,true⟩:=by unfold rdr;rw [if_pos (.inr (.inr (by simp only [];omega)))]
  rw [if_pos h1,hr,Xgj rfl,Option.bind_some]
  simp only [Bool.not_true,cond_false]
  rw [XgX rfl,Option.bind_some]
  simp only [XpF]
  rw [Xgj rfl,Option.bind_some]
  exact ⟨_,rfl,fun q=>by cases q⟩
 ·rw [if_neg h1,Xjx (by omega) (by omega),XjA (by omega) (by omega),show (1:Int).toNat=1 from rfl,List.drop_drop,show Xfu ((s.drop p).take 1)=b1 s p from rfl,Xgj rfl,Option.bind_some]
  simp only [Bool.not_false,cond_true]
  have ld2:(s.drop (p+1)).length=s.length - (p+1):=List.length_drop ..
  by_cases h2:20<b1 s p
  ·rw [XaP (by omega),if_pos h2]
   exact ⟨_,rfl,fun q=>by cases q⟩
  rw [XaK (by omega),if_neg h2,XgX rfl,Option.bind_some]
  by_cases h3:s.length<p+1+b1 s p
  ·have hr:rdr ⟨s.drop (p+1),true,false⟩ ((b1 s p:Nat):Int)=⟨s.drop (p+1),true,true⟩:=by unfold rdr;rw [if_pos (.inr (.inr (by simp only [];omega)))]
   rw [if_pos h3,hr,Xgj rfl,Option.bind_some]
   exact ⟨_,rfl,fun q=>by cases q⟩
  ·rw [if_neg h3,Xjx (by omega) (by omega),XjA (by omega) (by omega),Xgj rfl,Option.bind_some,Int.toNat_natCast,List.drop_drop]
   exact ⟨_,rfl,fun _=>rfl⟩
def Xn4 (s:List UInt8):Xat×Int:=
 if s=[] then (Xw4,2) else if b1 s 0/64%2=0 then (Xw4,3) else
 if b1 s 0<128 then if s.length<9 then (Xw4,2) else (⟨false,((b1 s 0%64:Nat):Int),0,(s.drop 1).take 8,[],s.drop 9⟩,0)
 else if s.length<5 then (Xw4,2) else if (idS s 5).2.1≠0 then (Xw4,(idS s 5).2.1) else if (idS s (idS s 5).2.2).2.1≠0 then (Xw4,(idS s (idS s 5).2.2).2.1) else
 (⟨true,((b1 s 0%64:Nat):Int),((Xfu ((s.drop 1).take 4):Nat):Int),(idS s 5).1,(idS s (idS s 5).2.2).1,s.drop (idS s (idS s 5).2.2).2.2⟩,0)
theorem XVv:∀ v:Fin 256,((wI .u8 (((v.val:Nat):Int).tdiv 64)).tmod 2=((v.val/64%2:Nat):Int)∧wI .i64 (((v.val:Nat):Int).tmod 64)=((v.val%64:Nat):Int))∧Xnr .i64 ((v.val:Nat):Int) 64=((v.val/64%2*64:Nat):Int)∧Xnr .i64 ((v.val:Nat):Int) 128=((v.val/128*128:Nat):Int)∧Xnr .i64 ((v.val:Nat):Int) 63=((v.val%64:Nat):Int):=by decide +kernel
theorem XTC {s:List UInt8} {p:Nat} (h:(idS s p).2.1=0):(idS s p).2.2≤s.length:=by
 unfold idS at h ⊢
 split
 ·simp
 split
 ·simp
 split
 ·simp
 ·simp only [];omega
theorem XvP {s:List UInt8} (h:s.length<2^38):XgD s=some (Xn4 s):=by
 unfold XgD Xo2 Xn4
 by_cases h0:s=[]
 ·subst h0;rfl
 have hl:0<s.length:=List.length_pos_iff.2 h0
 have hb:=XGe s 0
 obtain ⟨⟨q1,q2⟩,-⟩:=XVv ⟨b1 s 0,hb⟩
 simp only at q1 q2
 have e0:s[0]?=some s[0]:=List.getElem?_eq_getElem hl
 have e1:s[0].toNat=b1 s 0:=(XHU hl).symm
 have es:(s==[])=false:=by rw [beq_eq_false_iff_ne];exact h0
 rw [es,cond_false,if_neg h0,e0]
 simp only [Option.bind_some,e1,q1,q2]
 by_cases h1:b1 s 0/64%2=0
 ·have:((((b1 s 0/64%2:Nat):Int))==0)=true:=by rw [beq_iff_eq];omega
  rw [this,cond_true,if_pos h1];rfl
 have:((((b1 s 0/64%2:Nat):Int))==0)=false:=by rw [beq_eq_false_iff_ne];omega
 rw [this,cond_false,if_neg h1]
 by_cases h2:b1 s 0<128
 ·rw [decide_eq_false (show ¬ ((b1 s 0:Nat):Int)≥128 by omega),Bool.not_false,cond_true,if_pos h2]
  by_cases h3:s.length<9
  ·rw [XaP (by omega),if_pos h3];rfl
  rw [XaK (by omega),if_neg h3,Xar (by omega),Xar (by omega),List.take_of_length_le (l:=s.drop 9) (by simp)]
 ·rw [decide_eq_true (show ((b1 s 0:Nat):Int)≥128 by omega),Bool.not_true,cond_false,if_neg h2]
  by_cases h3:s.length<5
  ·rw [XaP (by omega),if_pos h3];rfl
  have hv:Xfu ((s.drop 1).take 4)<2^32:=Xfn _ (by decide)
  have rid5:=XJe (s:=s) (p:=5) h
  rw [show ((5:Nat):Int)=5 from rfl] at rid5
  rw [XaK (by omega),if_neg h3,Xir (by omega),Option.bind_some,Xi7 (by omega) (by omega) (by omega) (by omega),rid5,Option.bind_some]
  simp only []
  by_cases h4:(idS s 5).2.1=0
  ·have:((idS s 5).2.1 !=0)=false:=by rw [bne_eq_false_iff_eq];exact h4
   rw [this,cond_false,if_neg (by omega),XJe h,Option.bind_some]
   simp only []
   by_cases h5:(idS s (idS s 5).2.2).2.1=0
   ·have:((idS s (idS s 5).2.2).2.1 !=0)=false:=by rw [bne_eq_false_iff_eq];exact h5
    have hle:=XTC h5
    rw [this,cond_false,if_neg (by omega),Xar (by omega),Int.toNat_natCast,List.take_of_length_le (l:=s.drop (idS s (idS s 5).2.2).2.2) (by simp)]
    simp only [show (1:Int).toNat=1 from rfl,show (4:Int).toNat=4 from rfl]
    rw [XdT (n:=((Xfu ((s.drop 1).take 4):Nat):Int)) (by omega) (by omega),XDt (by omega) (by omega)]
   ·have:((idS s (idS s 5).2.2).2.1 !=0)=true:=by rw [bne_iff_ne];exact h5
    rw [this,cond_true,if_pos h5];rfl
  ·have:((idS s 5).2.1 !=0)=true:=by rw [bne_iff_ne];exact h4
   rw [this,cond_true,if_pos h4];rfl
theorem Xzr {r:Xah} (h:r.made=true) (hb:r.bad=false):XbX r=some (r.s,rdr r r.s.length):=by
 unfold XbX Xgq
 rw [Xgj h,Option.bind_some]
 simp only [hb,cond_false]
 rw [XgX h,Option.bind_some]
 have:rdt r r.s.length=r.s:=by unfold rdt;rw [if_neg (by rw [hb];simp),Int.toNat_natCast,List.take_length]
 rw [this]
theorem Xv5 {s:List UInt8} (h:s.length<2^38):Xec s=some (Xn4 s):=by
 unfold Xec Xnl Xn4
 by_cases h0:s=[]
 ·subst h0;decide +kernel
 have hl:0<s.length:=List.length_pos_iff.2 h0
 have hb:=XGe s 0
 obtain ⟨-,q1,q2,q3⟩:=XVv ⟨b1 s 0,hb⟩
 simp only at q1 q2 q3
 have l1:(s.drop 1).length=s.length - 1:=List.length_drop ..
 rw [if_neg h0,Xqj,Option.bind_some,Xh4 rfl (by simp only [];omega),Option.bind_some]
 simp only [rdn,i17]
 rw [Xjx (by omega) (by omega),XjA (by omega) (by omega),show (1:Int).toNat=1 from rfl,Xgj rfl,Option.bind_some,show Xfu (s.take 1)=b1 s 0 from rfl,q1,q2,q3]
 simp only [cond_false]
 by_cases h1:b1 s 0/64%2=0
 ·have:((((b1 s 0/64%2*64:Nat):Int))==0)=true:=by rw [beq_iff_eq];omega
  rw [this,cond_true,if_pos h1];rfl
 have:((((b1 s 0/64%2*64:Nat):Int))==0)=false:=by rw [beq_eq_false_iff_ne];omega
 rw [this,cond_false,if_neg h1]
 by_cases h2:b1 s 0<128
 ·have:((((b1 s 0/128*128:Nat):Int)) !=0)=false:=by rw [bne_eq_false_iff_eq];omega
  rw [this,Bool.not_false,cond_true,if_pos h2,XgX rfl,Option.bind_some]
  by_cases h3:s.length<9
  ·have hr:rdr ⟨s.drop 1,true,false⟩ 8=⟨s.drop 1,true,true⟩:=by unfold rdr;rw [if_pos (.inr (.inr (by simp only [];omega)))]
   rw [if_pos h3,hr,Xgj rfl,Option.bind_some];rfl
  ·rw [if_neg h3,Xjx (by omega) (by omega),XjA (by omega) (by omega),Xgj rfl,Option.bind_some]
   simp only [cond_false]
   rw [Xzr rfl rfl,Option.bind_some,List.drop_drop]
   rfl
 ·have:((((b1 s 0/128*128:Nat):Int)) !=0)=true:=by rw [bne_iff_ne];omega
  rw [this,Bool.not_true,cond_false,if_neg h2,Xh4 rfl (by simp only [];omega),Option.bind_some]
  simp only [rdn,i47]
  by_cases h3:s.length<5
  ·have hr:rdr ⟨s.drop 1,true,false⟩ 4=⟨s.drop 1,true,true⟩:=by unfold rdr;rw [if_pos (.inr (.inr (by simp only [];omega)))]
   rw [if_pos h3,hr,XKs _ (by omega),Option.bind_some];rfl
  have hv:Xfu ((s.drop 1).take 4)<2^32:=Xfn _ (by decide)
  obtain ⟨r,er,hr⟩:=XI1 (s:=s) (p:=5) h
  rw [if_neg h3,Xjx (by omega) (by omega),XjA (by omega) (by omega),show (4:Int).toNat=4 from rfl,List.drop_drop,er,Option.bind_some]
  simp only []
  by_cases h4:(idS s 5).2.1=0
  ·have:((idS s 5).2.1 !=0)=false:=by rw [bne_eq_false_iff_eq];exact h4
   obtain ⟨r',er',hr'⟩:=XI1 (s:=s) (p:=(idS s 5).2.2) h
   rw [this,cond_false,if_neg (by omega),hr h4,er',Option.bind_some]
   simp only []
   by_cases h5:(idS s (idS s 5).2.2).2.1=0
   ·have:((idS s (idS s 5).2.2).2.1 !=0)=false:=by rw [bne_eq_false_iff_eq];exact h5
    rw [this,cond_false,if_neg (by omega),hr' h5,Xzr rfl rfl,Option.bind_some,XDt (by omega) (by omega)]
   ·have:((idS s (idS s 5).2.2).2.1 !=0)=true:=by rw [bne_iff_ne];exact h5
    rw [this,cond_true,if_pos h5];rfl
  ·have:((idS s 5).2.1 !=0)=true:=by rw [bne_iff_ne];exact h4
   rw [this,cond_true,if_pos h4];rfl
end Go.Vm.Code
namespace Go.Vm.Code
open Go Go.Vm Go.Proofs
set_option maxRecDepth 100000
set_option maxHeartbeats 4000000
set_option linter.unusedVariables false
def XiL (XeP:Xfa) (XfG:XfX) (s:List UInt8):Option (XaL×Int):=
 (s[0]?).bind fun (b:UInt8)=>
 cond (((b.toNat:Int).fdiv (2^4))==4)
  (
  (XeP s).bind fun xg=>
  cond (xg.2.2 !=0)
   (
   some ((XaL.mk (Xaa.mk false 0 0) (Xaa.mk false 0 0) 0 [],xg.2.2)))
   (
   let t:=wI .i64 (20+(xg.1.Options.length:Int))
   let t1:=(s.length:Int) !=(wI .i64 (t+(xg.2.1.length:Int)))
   cond (t1)
    (
    some ((XaL.mk (Xaa.mk false 0 0) (Xaa.mk false 0 0) 0 [],5)))
    (
    some ((XaL.mk xg.1.Src xg.1.Dst xg.1.Proto xg.2.1,0)))))
  (
  cond (((b.toNat:Int).fdiv (2^4))==6)
   (
   (XfG s).bind fun xg1=>
   cond (xg1.2.2 !=0)
    (
    some ((XaL.mk (Xaa.mk false 0 0) (Xaa.mk false 0 0) 0 [],xg1.2.2)))
    (
    let t2:=(s.length:Int) !=(wI .i64 (40+(xg1.2.1.length:Int)))
    cond (t2)
     (
     some ((XaL.mk (Xaa.mk false 0 0) (Xaa.mk false 0 0) 0 [],5)))
     (
     some ((XaL.mk xg1.1.Src xg1.1.Dst xg1.1.Next xg1.2.1,0)))))
   (
   some ((XaL.mk (Xaa.mk false 0 0) (Xaa.mk false 0 0) 0 [],3))))
def XDn (x:XaL×Int):XcU:=⟨.tuple ⟨[.agg ⟨[.bool x.1.src.V6,.int .u64 x.1.src.Hi,.int .u64 x.1.src.Lo,.bool x.1.dst.V6,.int .u64 x.1.dst.Hi,.int .u64 x.1.dst.Lo,.int .i64 x.1.proto,.string ⟨⟨x.1.body⟩⟩]⟩,.int .i64 x.2]⟩,[],[]⟩
abbrev Xei:=(List UInt8)→Option (XaL×Int)
def r131 (g:Xei):Dec:=dV asS fun (y0:List UInt8)=>XdX (ofG (g y0) XDn)
theorem XQY {g:Xei} {y0:List UInt8} {x:XaL×Int} (hx:g y0=some x):r131 g [.string ⟨⟨y0⟩⟩] []=some (XDn x):=(XaS (Xd4)).trans (XaQ hx)
def s131 (g:Xei):XbE:=⟨[.v],r131 g⟩
theorem XMj {g:Xei} {y0:List UInt8} {x:XaL×Int} (hx:g y0=some x):(s131 g).run [.string ⟨⟨y0⟩⟩] []=some (XDn x):=XQY hx
abbrev XND (XeP:Xfa) (XfG:XfX):List (Nat×XbE):=[(190,s190 XeP),(191,s191 XfG)]
theorem XFX (XeP:Xfa) (XfG:XfX) (hS:Xak Tryz.prog (XaD (XND XeP XfG))) (s:List UInt8) (res:XaL×Int) (h:XiL XeP XfG s=some res) :
 XaG Tryz.prog 131 0 ⟨⟨131,61,[(0,.string ⟨⟨s⟩⟩)],[.code XyM],[],false,none⟩,[],[],0⟩ (fun v H _=>Res 0 (XDn res) v H):=by
 unfold XiL at h
 have R1:=@XOI XeP
 have R2:=@XPn XfG
 refine Xa6 XaE hS true 3000 ?_
 conv=>whnf
 exact W
def Xc7:Xei:=XiL XeP XfG
theorem XOB:XbM Tryz.prog 131 (s131 Xc7):=by
 have hL:=XFX XeP XfG (Xak.XaM ⟨XNA,XPV,trivial⟩)
 exact okA ⟨Tryz.f131,rfl,by decide,rfl⟩
def Xe8 (XiA:Xhx) (XfI:XfO) (oa0:XaL) (p:Xam):Option (Int×Int×Xam):=
 (XiA oa0.body oa0.src oa0.dst).bind fun xg=>
 cond (xg.2.2 !=0)
  (
  some ((0,xg.2.2,p)))
  (
  (XfI xg.1.Options).bind fun s=>
  cond (decide (s.2.2≥0))
   (
   some (((xg.2.1.length:Int),0,Xam.mk (Xag.mk p.Tuple.Proto p.Tuple.Src p.Tuple.Dst xg.1.SPort xg.1.DPort) xg.1.Flags true s.1 s.2.1 p.Long p.CID p.Size)))
   (
   some (((xg.2.1.length:Int),0,Xam.mk (Xag.mk p.Tuple.Proto p.Tuple.Src p.Tuple.Dst xg.1.SPort xg.1.DPort) xg.1.Flags p.Stamped p.Val p.Echo p.Long p.CID p.Size))))
def XDc (x:Int×Int×Xam):XcU:=⟨.tuple ⟨[.int .i64 x.1,.int .i64 x.2.1]⟩,[],[some [.int .i64 x.2.2.Tuple.Proto,.bool x.2.2.Tuple.Src.V6,.int .u64 x.2.2.Tuple.Src.Hi,.int .u64 x.2.2.Tuple.Src.Lo,.bool x.2.2.Tuple.Dst.V6,.int .u64 x.2.2.Tuple.Dst.Hi,.int .u64 x.2.2.Tuple.Dst.Lo,.int .i64 x.2.2.Tuple.SPort,.int .i64 x.2.2.Tuple.DPort,.int .i64 x.2.2.Flags,.bool x.2.2.Stamped,.int .u32 x.2.2.Val,.int .u32 x.2.2.Echo,.bool x.2.2.Long,.string ⟨⟨x.2.2.CID⟩⟩,.int .i64 x.2.2.Size]]⟩
abbrev Xck:=XaL→Xam→Option (Int×Int×Xam)
def r132 (g:Xck):Dec:=dV Xhc fun (y0:XaL)=>dPt 0 XhR fun (y1:Xam)=>XdX (ofG (g y0 y1) XDc)
theorem XVU {g:Xck} {y0:XaL} {y1:Xam} {x:Int×Int×Xam} (hx:g y0 y1=some x):r132 g [.agg ⟨[.bool y0.src.V6,.int .u64 y0.src.Hi,.int .u64 y0.src.Lo,.bool y0.dst.V6,.int .u64 y0.dst.Hi,.int .u64 y0.dst.Lo,.int .i64 y0.proto,.string ⟨⟨y0.body⟩⟩]⟩,.pointer (some ⟨0,0,none⟩)] [some [.int .i64 y1.Tuple.Proto,.bool y1.Tuple.Src.V6,.int .u64 y1.Tuple.Src.Hi,.int .u64 y1.Tuple.Src.Lo,.bool y1.Tuple.Dst.V6,.int .u64 y1.Tuple.Dst.Hi,.int .u64 y1.Tuple.Dst.Lo,.int .i64 y1.Tuple.SPort,.int .i64 y1.Tuple.DPort,.int .i64 y1.Flags,.bool y1.Stamped,.int .u32 y1.Val,.int .u32 y1.Echo,.bool y1.Long,.string ⟨⟨y1.CID⟩⟩,.int .i64 y1.Size]]=some (XDc x):=(XaS (Xk3 _)).trans ((Xie (Xmw _)).trans (XaQ hx))
def s132 (g:Xck):XbE:=⟨[.v,.pt 16],r132 g⟩
theorem XOa {g:Xck} {y0:XaL} {y1:Xam} {x:Int×Int×Xam} (hx:g y0 y1=some x):(s132 g).run [.agg ⟨[.bool y0.src.V6,.int .u64 y0.src.Hi,.int .u64 y0.src.Lo,.bool y0.dst.V6,.int .u64 y0.dst.Hi,.int .u64 y0.dst.Lo,.int .i64 y0.proto,.string ⟨⟨y0.body⟩⟩]⟩,.pointer (some ⟨0,0,none⟩)] [some [.int .i64 y1.Tuple.Proto,.bool y1.Tuple.Src.V6,.int .u64 y1.Tuple.Src.Hi,.int .u64 y1.Tuple.Src.Lo,.bool y1.Tuple.Dst.V6,.int .u64 y1.Tuple.Dst.Hi,.int .u64 y1.Tuple.Dst.Lo,.int .i64 y1.Tuple.SPort,.int .i64 y1.Tuple.DPort,.int .i64 y1.Flags,.bool y1.Stamped,.int .u32 y1.Val,.int .u32 y1.Echo,.bool y1.Long,.string ⟨⟨y1.CID⟩⟩,.int .i64 y1.Size]]=some (XDc x):=XVU hx
abbrev XNd (XiA:Xhx) (XfI:XfO):List (Nat×XbE):=[(167,s167 XiA),(134,s134 XfI)]
theorem XGW (XiA:Xhx) (XfI:XfO) (hS:Xak Tryz.prog (XaD (XNd XiA XfI))) (oa0:XaL) (p:Xam) (res:Int×Int×Xam) (h:Xe8 XiA XfI oa0 p=some res) :
 XaG Tryz.prog 132 1 ⟨⟨132,65,[(0,.agg ⟨[.bool oa0.src.V6,.int .u64 oa0.src.Hi,.int .u64 oa0.src.Lo,.bool oa0.dst.V6,.int .u64 oa0.dst.Hi,.int .u64 oa0.dst.Lo,.int .i64 oa0.proto,.string ⟨⟨oa0.body⟩⟩]⟩),(1,.pointer (some ⟨0,0,none⟩))],[.code Xz7],[],false,none⟩,[],[(0,.cells [.int .i64 p.Tuple.Proto,.bool p.Tuple.Src.V6,.int .u64 p.Tuple.Src.Hi,.int .u64 p.Tuple.Src.Lo,.bool p.Tuple.Dst.V6,.int .u64 p.Tuple.Dst.Hi,.int .u64 p.Tuple.Dst.Lo,.int .i64 p.Tuple.SPort,.int .i64 p.Tuple.DPort,.int .i64 p.Flags,.bool p.Stamped,.int .u32 p.Val,.int .u32 p.Echo,.bool p.Long,.string ⟨⟨p.CID⟩⟩,.int .i64 p.Size])],1⟩ (fun v H _=>Res 1 (XDc res) v H):=by
 unfold Xe8 at h
 have R1:=@XKQ XiA
 have R2:=@XMm XfI
 refine Xa6 XaE hS true 3000 ?_
 conv=>whnf
 exact W
def Xbx:Xck:=Xe8 XiA XfI
theorem XKx:XbM Tryz.prog 132 (s132 Xbx):=by
 have hL:=XGW XiA XfI (Xak.XaM ⟨XLJ,XMe,trivial⟩)
 exact okA ⟨Tryz.f132,rfl,by decide,rfl⟩
def XeZ (Xec:XeT) (Xis:XhE) (oa0:XaL) (p:Xam):Option (Int×Int×Xam):=
 (Xis oa0.body oa0.src oa0.dst).bind fun xg=>
 cond (xg.2.2 !=0)
  (
  some ((0,xg.2.2,p)))
  (
  let t:=(xg.2.1.length:Int) !=(wI .i64 ((oa0.body.length:Int) - 8))
  cond (t)
   (
   some ((0,5,p)))
   (
   (Xec xg.2.1).bind fun xg1=>
   cond (xg1.2==0)
    (
    some (((xg.2.1.length:Int),0,Xam.mk (Xag.mk p.Tuple.Proto p.Tuple.Src p.Tuple.Dst xg.1.SPort xg.1.DPort) p.Flags p.Stamped p.Val p.Echo xg1.1.Long xg1.1.DCID p.Size)))
    (
    some (((xg.2.1.length:Int),0,Xam.mk (Xag.mk p.Tuple.Proto p.Tuple.Src p.Tuple.Dst xg.1.SPort xg.1.DPort) p.Flags p.Stamped p.Val p.Echo p.Long p.CID p.Size)))))
def XCI (x:Int×Int×Xam):XcU:=⟨.tuple ⟨[.int .i64 x.1,.int .i64 x.2.1]⟩,[],[some [.int .i64 x.2.2.Tuple.Proto,.bool x.2.2.Tuple.Src.V6,.int .u64 x.2.2.Tuple.Src.Hi,.int .u64 x.2.2.Tuple.Src.Lo,.bool x.2.2.Tuple.Dst.V6,.int .u64 x.2.2.Tuple.Dst.Hi,.int .u64 x.2.2.Tuple.Dst.Lo,.int .i64 x.2.2.Tuple.SPort,.int .i64 x.2.2.Tuple.DPort,.int .i64 x.2.2.Flags,.bool x.2.2.Stamped,.int .u32 x.2.2.Val,.int .u32 x.2.2.Echo,.bool x.2.2.Long,.string ⟨⟨x.2.2.CID⟩⟩,.int .i64 x.2.2.Size]]⟩
abbrev Xcc:=XaL→Xam→Option (Int×Int×Xam)
def r133 (g:Xcc):Dec:=dV Xhc fun (y0:XaL)=>dPt 0 XhR fun (y1:Xam)=>XdX (ofG (g y0 y1) XCI)
theorem XU5 {g:Xcc} {y0:XaL} {y1:Xam} {x:Int×Int×Xam} (hx:g y0 y1=some x):r133 g [.agg ⟨[.bool y0.src.V6,.int .u64 y0.src.Hi,.int .u64 y0.src.Lo,.bool y0.dst.V6,.int .u64 y0.dst.Hi,.int .u64 y0.dst.Lo,.int .i64 y0.proto,.string ⟨⟨y0.body⟩⟩]⟩,.pointer (some ⟨0,0,none⟩)] [some [.int .i64 y1.Tuple.Proto,.bool y1.Tuple.Src.V6,.int .u64 y1.Tuple.Src.Hi,.int .u64 y1.Tuple.Src.Lo,.bool y1.Tuple.Dst.V6,.int .u64 y1.Tuple.Dst.Hi,.int .u64 y1.Tuple.Dst.Lo,.int .i64 y1.Tuple.SPort,.int .i64 y1.Tuple.DPort,.int .i64 y1.Flags,.bool y1.Stamped,.int .u32 y1.Val,.int .u32 y1.Echo,.bool y1.Long,.string ⟨⟨y1.CID⟩⟩,.int .i64 y1.Size]]=some (XCI x):=(XaS (Xk3 _)).trans ((Xie (Xmw _)).trans (XaQ hx))
def s133 (g:Xcc):XbE:=⟨[.v,.pt 16],r133 g⟩
theorem XPR {g:Xcc} {y0:XaL} {y1:Xam} {x:Int×Int×Xam} (hx:g y0 y1=some x):(s133 g).run [.agg ⟨[.bool y0.src.V6,.int .u64 y0.src.Hi,.int .u64 y0.src.Lo,.bool y0.dst.V6,.int .u64 y0.dst.Hi,.int .u64 y0.dst.Lo,.int .i64 y0.proto,.string ⟨⟨y0.body⟩⟩]⟩,.pointer (some ⟨0,0,none⟩)] [some [.int .i64 y1.Tuple.Proto,.bool y1.Tuple.Src.V6,.int .u64 y1.Tuple.Src.Hi,.int .u64 y1.Tuple.Src.Lo,.bool y1.Tuple.Dst.V6,.int .u64 y1.Tuple.Dst.Hi,.int .u64 y1.Tuple.Dst.Lo,.int .i64 y1.Tuple.SPort,.int .i64 y1.Tuple.DPort,.int .i64 y1.Flags,.bool y1.Stamped,.int .u32 y1.Val,.int .u32 y1.Echo,.bool y1.Long,.string ⟨⟨y1.CID⟩⟩,.int .i64 y1.Size]]=some (XCI x):=XU5 hx
abbrev XLb (Xec:XeT) (Xis:XhE):List (Nat×XbE):=[(94,s94 Xec),(168,s168 Xis)]
theorem XDI (Xec:XeT) (Xis:XhE) (hS:Xak Tryz.prog (XaD (XLb Xec Xis))) (oa0:XaL) (p:Xam) (res:Int×Int×Xam) (h:XeZ Xec Xis oa0 p=some res) :
 XaG Tryz.prog 133 1 ⟨⟨133,65,[(0,.agg ⟨[.bool oa0.src.V6,.int .u64 oa0.src.Hi,.int .u64 oa0.src.Lo,.bool oa0.dst.V6,.int .u64 oa0.dst.Hi,.int .u64 oa0.dst.Lo,.int .i64 oa0.proto,.string ⟨⟨oa0.body⟩⟩]⟩),(1,.pointer (some ⟨0,0,none⟩))],[.code Xx1],[],false,none⟩,[],[(0,.cells [.int .i64 p.Tuple.Proto,.bool p.Tuple.Src.V6,.int .u64 p.Tuple.Src.Hi,.int .u64 p.Tuple.Src.Lo,.bool p.Tuple.Dst.V6,.int .u64 p.Tuple.Dst.Hi,.int .u64 p.Tuple.Dst.Lo,.int .i64 p.Tuple.SPort,.int .i64 p.Tuple.DPort,.int .i64 p.Flags,.bool p.Stamped,.int .u32 p.Val,.int .u32 p.Echo,.bool p.Long,.string ⟨⟨p.CID⟩⟩,.int .i64 p.Size])],1⟩ (fun v H _=>Res 1 (XCI res) v H):=by
 unfold XeZ at h
 have R1:=@XJZ Xis
 have R2:=@XIf Xec
 refine Xa6 XaE hS true 3000 ?_
 conv=>whnf
 exact W
def Xbk:Xcc:=XeZ Xec Xis
theorem XKm:XbM Tryz.prog 133 (s133 Xbk):=by
 have hL:=XDI Xec Xis (Xak.XaM ⟨XJp,XJ1,trivial⟩)
 exact okA ⟨Tryz.f133,rfl,by decide,rfl⟩
def XjJ (Xc7:Xei) (Xbk:Xcc) (Xbx:Xck) (s:List UInt8):Option (Xam×Int×Int×Int):=
 cond (decide ((s.length:Int)>9000))
  (
  some ((Xam.mk (Xag.mk 0 (Xaa.mk false 0 0) (Xaa.mk false 0 0) 0 0) 0 false 0 0 false [] 0,0,0,5)))
  (
  cond (s==[])
   (
   some ((Xam.mk (Xag.mk 0 (Xaa.mk false 0 0) (Xaa.mk false 0 0) 0 0) 0 false 0 0 false [] 0,0,0,2)))
   (
   (Xc7 s).bind fun xo=>
   cond (xo.2 !=0)
    (
    some ((Xam.mk (Xag.mk 0 (Xaa.mk false 0 0) (Xaa.mk false 0 0) 0 0) 0 false 0 0 false [] 0,0,0,xo.2)))
    (
    cond (xo.1.proto==6)
     (
     (Xbx xo.1 (Xam.mk (Xag.mk xo.1.proto xo.1.src xo.1.dst 0 0) 0 false 0 0 false [] (s.length:Int))).bind fun s1=>
     cond (s1.2.1 !=0)
      (
      some ((Xam.mk (Xag.mk 0 (Xaa.mk false 0 0) (Xaa.mk false 0 0) 0 0) 0 false 0 0 false [] 0,0,0,s1.2.1)))
      (
      some ((s1.2.2,(xo.1.body.length:Int),s1.1,0))))
     (
     cond (xo.1.proto==17)
      (
      (Xbk xo.1 (Xam.mk (Xag.mk xo.1.proto xo.1.src xo.1.dst 0 0) 0 false 0 0 false [] (s.length:Int))).bind fun d=>
      cond (d.2.1 !=0)
       (
       some ((Xam.mk (Xag.mk 0 (Xaa.mk false 0 0) (Xaa.mk false 0 0) 0 0) 0 false 0 0 false [] 0,0,0,d.2.1)))
       (
       some ((d.2.2,(xo.1.body.length:Int),d.1,0))))
      (
      some ((Xam.mk (Xag.mk 0 (Xaa.mk false 0 0) (Xaa.mk false 0 0) 0 0) 0 false 0 0 false [] 0,0,0,6)))))))
def rx81 (x:Xam×Int×Int×Int):XcU:=⟨.tuple ⟨[.agg ⟨[.int .i64 x.1.Tuple.Proto,.bool x.1.Tuple.Src.V6,.int .u64 x.1.Tuple.Src.Hi,.int .u64 x.1.Tuple.Src.Lo,.bool x.1.Tuple.Dst.V6,.int .u64 x.1.Tuple.Dst.Hi,.int .u64 x.1.Tuple.Dst.Lo,.int .i64 x.1.Tuple.SPort,.int .i64 x.1.Tuple.DPort,.int .i64 x.1.Flags,.bool x.1.Stamped,.int .u32 x.1.Val,.int .u32 x.1.Echo,.bool x.1.Long,.string ⟨⟨x.1.CID⟩⟩,.int .i64 x.1.Size]⟩,.int .i64 x.2.1,.int .i64 x.2.2.1,.int .i64 x.2.2.2]⟩,[],[]⟩
abbrev Xdu:=(List UInt8)→Option (Xam×Int×Int×Int)
def r81 (g:Xdu):Dec:=dV asS fun (y0:List UInt8)=>XdX (ofG (g y0) rx81)
theorem r81_c {g:Xdu} {y0:List UInt8} {x:Xam×Int×Int×Int} (hx:g y0=some x):r81 g [.string ⟨⟨y0⟩⟩] []=some (rx81 x):=(XaS (Xd4)).trans (XaQ hx)
def s81 (g:Xdu):XbE:=⟨[.v],r81 g⟩
theorem XJs {g:Xdu} {y0:List UInt8} {x:Xam×Int×Int×Int} (hx:g y0=some x):(s81 g).run [.string ⟨⟨y0⟩⟩] []=some (rx81 x):=r81_c hx
abbrev XTG (Xc7:Xei) (Xbk:Xcc) (Xbx:Xck):List (Nat×XbE):=[(131,s131 Xc7),(133,s133 Xbk),(132,s132 Xbx)]
theorem XKR (Xc7:Xei) (Xbk:Xcc) (Xbx:Xck) (hS:Xak Tryz.prog (XaD (XTG Xc7 Xbk Xbx))) (s:List UInt8) (res:Xam×Int×Int×Int) (h:XjJ Xc7 Xbk Xbx s=some res) :
 XaG Tryz.prog 81 0 ⟨⟨81,63,[(0,.string ⟨⟨s⟩⟩)],[.code XIO],[],false,none⟩,[],[],0⟩ (fun v H _=>Res 0 (rx81 res) v H):=by
 unfold XjJ at h
 have R1:=@XMj Xc7
 have R2:=@XOa Xbx
 have R3:=@XPR Xbk
 refine Xa6 XaE hS true 3000 ?_
 conv=>whnf
 exact W
def Xb9:Xdu:=XjJ Xc7 Xbk Xbx
theorem XIx:XbM Tryz.prog 81 (s81 Xb9):=by
 have hL:=XKR Xc7 Xbk Xbx (Xak.XaM ⟨XOB,XKm,XKx,trivial⟩)
 exact okA ⟨Tryz.f81,rfl,by decide,rfl⟩
def Xjn (Xb9:Xdu) (s:List UInt8):Option (Xam×Int):=
 (Xb9 s).bind fun t=>
 some ((t.1,t.2.2.2))
def rx47 (x:Xam×Int):XcU:=⟨.tuple ⟨[.agg ⟨[.int .i64 x.1.Tuple.Proto,.bool x.1.Tuple.Src.V6,.int .u64 x.1.Tuple.Src.Hi,.int .u64 x.1.Tuple.Src.Lo,.bool x.1.Tuple.Dst.V6,.int .u64 x.1.Tuple.Dst.Hi,.int .u64 x.1.Tuple.Dst.Lo,.int .i64 x.1.Tuple.SPort,.int .i64 x.1.Tuple.DPort,.int .i64 x.1.Flags,.bool x.1.Stamped,.int .u32 x.1.Val,.int .u32 x.1.Echo,.bool x.1.Long,.string ⟨⟨x.1.CID⟩⟩,.int .i64 x.1.Size]⟩,.int .i64 x.2]⟩,[],[]⟩
abbrev XeA:=(List UInt8)→Option (Xam×Int)
def r47 (g:XeA):Dec:=dV asS fun (y0:List UInt8)=>XdX (ofG (g y0) rx47)
theorem r47_c {g:XeA} {y0:List UInt8} {x:Xam×Int} (hx:g y0=some x):r47 g [.string ⟨⟨y0⟩⟩] []=some (rx47 x):=(XaS (Xd4)).trans (XaQ hx)
def s47 (g:XeA):XbE:=⟨[.v],r47 g⟩
theorem XUu {g:XeA} {y0:List UInt8} {x:Xam×Int} (hx:g y0=some x):(s47 g).run [.string ⟨⟨y0⟩⟩] []=some (rx47 x):=r47_c hx
abbrev XWf (Xb9:Xdu):List (Nat×XbE):=[(81,s81 Xb9)]
theorem XJ0 (Xb9:Xdu) (hS:Xak Tryz.prog (XaD (XWf Xb9))) (s:List UInt8) (res:Xam×Int) (h:Xjn Xb9 s=some res) :
 XaG Tryz.prog 47 0 ⟨⟨47,17,[(0,.string ⟨⟨s⟩⟩)],[.code XSB],[],false,none⟩,[],[],0⟩ (fun v H _=>Res 0 (rx47 res) v H):=by
 unfold Xjn at h
 have R1:=@XJs Xb9
 refine Xa6 XaE hS true 3000 ?_
 conv=>whnf
 exact W
def XdO:XeA:=Xjn Xb9
theorem XTb:XbM Tryz.prog 47 (s47 XdO):=by
 have hL:=XJ0 Xb9 (Xak.XaM ⟨XIx,trivial⟩)
 exact okA ⟨Tryz.f47,rfl,by decide,rfl⟩
def Xjj (Xb9:Xdu) (s:List UInt8):Option (Int×Int×Int):=
 (Xb9 s).bind fun t=>
 cond (t.2.2.2 !=0)
  (
  some ((0,0,t.2.2.2)))
  (
  some ((wI .i64 ((s.length:Int) - t.2.1),wI .i64 ((s.length:Int) - t.2.2.1),0)))
def rx93 (x:Int×Int×Int):XcU:=⟨.tuple ⟨[.int .i64 x.1,.int .i64 x.2.1,.int .i64 x.2.2]⟩,[],[]⟩
abbrev Xev:=(List UInt8)→Option (Int×Int×Int)
def r93 (g:Xev):Dec:=dV asS fun (y0:List UInt8)=>XdX (ofG (g y0) rx93)
theorem r93_c {g:Xev} {y0:List UInt8} {x:Int×Int×Int} (hx:g y0=some x):r93 g [.string ⟨⟨y0⟩⟩] []=some (rx93 x):=(XaS (Xd4)).trans (XaQ hx)
def s93 (g:Xev):XbE:=⟨[.v],r93 g⟩
theorem XWe {g:Xev} {y0:List UInt8} {x:Int×Int×Int} (hx:g y0=some x):(s93 g).run [.string ⟨⟨y0⟩⟩] []=some (rx93 x):=r93_c hx
abbrev XWj (Xb9:Xdu):List (Nat×XbE):=[(81,s81 Xb9)]
theorem XKF (Xb9:Xdu) (hS:Xak Tryz.prog (XaD (XWj Xb9))) (s:List UInt8) (res:Int×Int×Int) (h:Xjj Xb9 s=some res) :
 XaG Tryz.prog 93 0 ⟨⟨93,27,[(0,.string ⟨⟨s⟩⟩)],[.code XIb],[],false,none⟩,[],[],0⟩ (fun v H _=>Res 0 (rx93 res) v H):=by
 unfold Xjj at h
 have R1:=@XJs Xb9
 refine Xa6 XaE hS true 3000 ?_
 conv=>whnf
 exact W
def XdI:Xev:=Xjj Xb9
theorem XSo:XbM Tryz.prog 93 (s93 XdI):=by
 have hL:=XKF Xb9 (Xak.XaM ⟨XIx,trivial⟩)
 exact okA ⟨Tryz.f93,rfl,by decide,rfl⟩
end Go.Vm.Code
namespace Go.Vm.Code
open Go Go.Vm
def zP:Xam:=⟨⟨0,⟨false,0,0⟩,⟨false,0,0⟩,0,0⟩,0,false,0,0,false,[],0⟩
structure O11 where
 src:Xaa
 dst:Xaa
 proto:Int
 size:Nat
 body:List UInt8
 err:Int
def zO (e:Int):O11:=⟨⟨false,0,0⟩,⟨false,0,0⟩,0,0,[],e⟩
def XbA (s:List UInt8):O11:=
 if vK s 0 1/16=4 then (if (XjI s).2.2≠0 then zO (XjI s).2.2 else if s.length≠20+(XjI s).1.Options.length+(XjI s).2.1.length then zO 5 else ⟨(XjI s).1.Src,(XjI s).1.Dst,(XjI s).1.Proto,20+(XjI s).1.Options.length,(XjI s).2.1,0⟩)
 else if vK s 0 1/16=6 then (if (Xk9 s).2.2≠0 then zO (Xk9 s).2.2 else if s.length≠40+(Xk9 s).2.1.length then zO 5 else ⟨(Xk9 s).1.Src,(Xk9 s).1.Dst,(Xk9 s).1.Next,40,(Xk9 s).2.1,0⟩)
 else zO 3
def XEb (o:List UInt8):Bool×Int×Int:=if 0≤(XmA o).2.2 then (true,(XmA o).1,(XmA o).2.1) else (false,0,0)
def Xxy (b:List UInt8):Bool×List UInt8:=if (Xn4 b).2=0 then ((Xn4 b).1.Long,(Xn4 b).1.DCID) else (false,[])
def XhW (o:O11) (n:Nat):Xam×Nat×Int:=
 if o.proto=6 then (if (Xky o.body o.src o.dst).2.2≠0 then (zP,0,(Xky o.body o.src o.dst).2.2) else
  (⟨⟨o.proto,o.src,o.dst,(Xky o.body o.src o.dst).1.SPort,(Xky o.body o.src o.dst).1.DPort⟩,(Xky o.body o.src o.dst).1.Flags,(XEb (Xky o.body o.src o.dst).1.Options).1,(XEb (Xky o.body o.src o.dst).1.Options).2.1,(XEb (Xky o.body o.src o.dst).1.Options).2.2,false,[],n⟩,(Xky o.body o.src o.dst).2.1.length,0))
 else if o.proto=17 then (if (XjH o.body o.src o.dst).2.2≠0 then (zP,0,(XjH o.body o.src o.dst).2.2) else if (XjH o.body o.src o.dst).2.1.length+8≠o.body.length then (zP,0,5) else
  (⟨⟨o.proto,o.src,o.dst,(XjH o.body o.src o.dst).1.SPort,(XjH o.body o.src o.dst).1.DPort⟩,0,false,0,0,(Xxy (XjH o.body o.src o.dst).2.1).1,(Xxy (XjH o.body o.src o.dst).2.1).2,n⟩,(XjH o.body o.src o.dst).2.1.length,0))
 else (zP,0,6)
def Xbn (s:List UInt8):Xam×Nat×Nat×Int:=
 if 9000<s.length then (zP,0,0,5) else if s=[] then (zP,0,0,2) else if (XbA s).err≠0 then (zP,0,0,(XbA s).err) else
  if (XhW (XbA s) s.length).2.2≠0 then (zP,0,0,(XhW (XbA s) s.length).2.2) else
   ((XhW (XbA s) s.length).1,s.length - (XbA s).body.length,s.length - (XhW (XbA s) s.length).2.1,0)
theorem XPG (s:List UInt8):A4 (XjI s).1.Src∧A4 (XjI s).1.Dst:=by
 have z:A4 ⟨false,0,0⟩:=⟨by simp only [];omega,by simp only [];omega,by simp only [];omega,by simp only [];omega⟩
 have k:∀ p,A4 (XVg s p):=fun p=>by
  have:=XfQ s p 4 4294967296 (by decide)
  exact ⟨Int.le_refl 0,by show (0:Int)<2^64;decide,this.1,by show vK s p 4<2^64;omega⟩
 unfold XjI
 split
 ·exact ⟨z,z⟩
 split
 ·exact ⟨z,z⟩
 split
 ·exact ⟨z,z⟩
 split
 ·exact ⟨z,z⟩
 split
 ·exact ⟨z,z⟩
 split
 ·exact ⟨z,z⟩
 split
 ·exact ⟨z,z⟩
 exact ⟨k 12,k 16⟩
theorem XNE (s:List UInt8):A4 (Xk9 s).1.Src∧A4 (Xk9 s).1.Dst:=by
 have z:A4 ⟨false,0,0⟩:=⟨by simp only [];omega,by simp only [];omega,by simp only [];omega,by simp only [];omega⟩
 have k:∀ p,A4 (Xs0 ((s.drop p).take 16)):=fun p=>by
  have h1:Xfu (((s.drop p).take 16).take 8)<2^64:=Xfn _ (by decide)
  have h2:Xfu (((s.drop p).take 16).drop 8)<2^64:=by
   have:=Xs3 (((s.drop p).take 16).drop 8)
   refine Nat.lt_of_lt_of_le this ?_
   have:(((s.drop p).take 16).drop 8).length≤8:=by simp;omega
   exact Nat.pow_le_pow_right (n:=256) (by decide) this
  unfold Xs0
  exact ⟨by simp only [];omega,by simp only [];omega,by simp only [];omega,by simp only [];omega⟩
 unfold Xk9
 split
 ·exact ⟨z,z⟩
 split
 ·exact ⟨z,z⟩
 split
 ·exact ⟨z,z⟩
 exact ⟨k 8,k 24⟩
theorem XtG (s:List UInt8):A4 (XbA s).src∧A4 (XbA s).dst:=by
 have z:A4 ⟨false,0,0⟩:=⟨by simp only [];omega,by simp only [];omega,by simp only [];omega,by simp only [];omega⟩
 unfold XbA zO
 split
 ·split
  ·exact ⟨z,z⟩
  split
  ·exact ⟨z,z⟩
  exact XPG s
 split
 ·split
  ·exact ⟨z,z⟩
  split
  ·exact ⟨z,z⟩
  exact XNE s
 exact ⟨z,z⟩
theorem Xqb {s:List UInt8} (h:(XbA s).err=0):(XbA s).body.length+(XbA s).size=s.length:=by
 unfold XbA at h ⊢
 by_cases g1:vK s 0 1/16=4
 ·rw [if_pos g1] at h ⊢
  by_cases g2:(XjI s).2.2≠0
  ·rw [if_pos g2] at h;exact absurd h g2
  rw [if_neg g2] at h ⊢
  by_cases g3:s.length≠20+(XjI s).1.Options.length+(XjI s).2.1.length
  ·rw [if_pos g3] at h;exact absurd h (by decide)
  rw [if_neg g3]
  simp only [];omega
 rw [if_neg g1] at h ⊢
 by_cases g4:vK s 0 1/16=6
 ·rw [if_pos g4] at h ⊢
  by_cases g2:(Xk9 s).2.2≠0
  ·rw [if_pos g2] at h;exact absurd h g2
  rw [if_neg g2] at h ⊢
  by_cases g3:s.length≠40+(Xk9 s).2.1.length
  ·rw [if_pos g3] at h;exact absurd h (by decide)
  rw [if_neg g3]
  simp only [];omega
 ·rw [if_neg g4] at h;exact absurd h (by decide)
theorem Xp4 {s:List UInt8} (h:(Xbn s).2.2.2≠0):Xbn s=(zP,0,0,(Xbn s).2.2.2):=by
 unfold Xbn at h ⊢
 split
 ·rfl
 rename_i g1
 rw [if_neg g1] at h
 split
 ·rfl
 rename_i g2
 rw [if_neg g2] at h
 split
 ·rfl
 rename_i g3
 rw [if_neg g3] at h
 split
 ·rfl
 rename_i g4
 rw [if_neg g4] at h
 exact absurd rfl h
def o11 (o:O11):XaL:=⟨o.src,o.dst,o.proto,o.body⟩
theorem XAC {s:List UInt8} (hs:s.length<2^19) (hn:s≠[]):Xc7 s=some (o11 (XbA s),(XbA s).err):=by
 unfold Xc7 XiL
 have h0:0<s.length:=List.length_pos_iff.2 hn
 have e0:=XmD (s:=s) (p:=0) h0
 have r0:=XfQ s 0 1 256 (by decide)
 rw [List.getElem?_eq_getElem h0,Option.bind_some,←e0,XsS,show ((2:Int)^4)=16 from rfl,g5_eq (by omega),XLT (by omega),Option.bind_some,Option.bind_some]
 unfold XbA
 by_cases g1:vK s 0 1/16=4
 ·rw [if_pos g1,show (vK s 0 1/16==4)=true by simpa using g1,cond_true]
  by_cases g2:(XjI s).2.2=0
  ·have hb:(XjI s).1.Options.length≤s.length∧(XjI s).2.1.length≤s.length:=by
    unfold XjI
    repeat' split
    all_goals simp [Xqg]
    omega
   rw [if_neg (by simpa using g2),show ((XjI s).2.2 !=0)=false by simpa using g2,cond_false,XdT (n:=20+((XjI s).1.Options.length:Int)) (by omega) (by omega)]
   simp only []
   rw [XdT (n:=20+((XjI s).1.Options.length:Int)+((XjI s).2.1.length:Int)) (by omega) (by omega)]
   by_cases g3:s.length=20+(XjI s).1.Options.length+(XjI s).2.1.length
   ·rw [if_neg (by simpa using g3),show ((s.length:Int) !=20+((XjI s).1.Options.length:Int)+((XjI s).2.1.length:Int))=false by simp;omega];rfl
   ·rw [if_pos g3,show ((s.length:Int) !=20+((XjI s).1.Options.length:Int)+((XjI s).2.1.length:Int))=true by simp;omega];rfl
  ·rw [if_pos g2,show ((XjI s).2.2 !=0)=true by simpa using g2,cond_true];rfl
 ·rw [if_neg g1,show (vK s 0 1/16==4)=false by simpa using g1,cond_false]
  by_cases g4:vK s 0 1/16=6
  ·rw [if_pos g4,show (vK s 0 1/16==6)=true by simpa using g4,cond_true]
   by_cases g2:(Xk9 s).2.2=0
   ·have hb:(Xk9 s).2.1.length≤s.length:=by
     unfold Xk9
     repeat' split
     all_goals simp
     omega
    rw [if_neg (by simpa using g2),show ((Xk9 s).2.2 !=0)=false by simpa using g2,cond_false,XdT (n:=40+((Xk9 s).2.1.length:Int)) (by omega) (by omega)]
    by_cases g3:s.length=40+(Xk9 s).2.1.length
    ·rw [if_neg (by simpa using g3),show ((s.length:Int) !=40+((Xk9 s).2.1.length:Int))=false by simp;omega];rfl
    ·rw [if_pos g3,show ((s.length:Int) !=40+((Xk9 s).2.1.length:Int))=true by simp;omega];rfl
   ·rw [if_pos g2,show ((Xk9 s).2.2 !=0)=true by simpa using g2,cond_true];rfl
  ·rw [if_neg g4,show (vK s 0 1/16==6)=false by simpa using g4,cond_false];rfl
theorem XRF {o:O11} {n:Nat} (h1:A4 o.src) (h2:A4 o.dst) (hb:o.body.length<2^19) (hp:o.proto=6):∃ q,Xbx (o11 o) ⟨⟨o.proto,o.src,o.dst,0,0⟩,0,false,0,0,false,[],(n:Int)⟩=some (((XhW o n).2.1:Int),(XhW o n).2.2,q)∧((XhW o n).2.2=0→q=(XhW o n).1):=by
 unfold Xbx Xe8 XhW o11
 rw [if_pos hp]
 simp only []
 rw [XDH h1 h2 (by omega),Option.bind_some]
 by_cases g:(Xky o.body o.src o.dst).2.2=0
 ·have ho:(Xky o.body o.src o.dst).1.Options.length<2^20:=by
   unfold Xky
   repeat' split
   all_goals simp [XqA]
   all_goals omega
  rw [if_neg (by simpa using g),show ((Xky o.body o.src o.dst).2.2 !=0)=false by simpa using g,cond_false,XNS ho,Option.bind_some]
  unfold XEb
  by_cases g2:0≤(XmA (Xky o.body o.src o.dst).1.Options).2.2
  ·rw [if_pos g2,XaP (by omega)]
   exact ⟨_,rfl,fun _=>rfl⟩
  ·rw [if_neg g2,XaK (by omega)]
   exact ⟨_,rfl,fun _=>rfl⟩
 ·rw [if_pos g,show ((Xky o.body o.src o.dst).2.2 !=0)=true by simpa using g,cond_true]
  exact ⟨_,rfl,fun h=>absurd h g⟩
theorem XUq {o:O11} {n:Nat} (h1:A4 o.src) (h2:A4 o.dst) (hb:o.body.length<2^19) (hp:o.proto=17):∃ q,Xbk (o11 o) ⟨⟨o.proto,o.src,o.dst,0,0⟩,0,false,0,0,false,[],(n:Int)⟩=some (((XhW o n).2.1:Int),(XhW o n).2.2,q)∧((XhW o n).2.2=0→q=(XhW o n).1):=by
 unfold Xbk XeZ XhW o11
 rw [if_neg (by omega),if_pos hp]
 simp only []
 rw [XPA h1 h2 (by omega),Option.bind_some]
 by_cases g:(XjH o.body o.src o.dst).2.2=0
 ·have ho:(XjH o.body o.src o.dst).2.1.length<2^20:=by
   unfold XjH
   repeat' split
   all_goals simp
   all_goals omega
  rw [if_neg (by simpa using g),show ((XjH o.body o.src o.dst).2.2 !=0)=false by simpa using g,cond_false,XdT (n:=(o.body.length:Int) - 8) (by omega) (by omega)]
  by_cases g2:(XjH o.body o.src o.dst).2.1.length+8=o.body.length
  ·rw [if_neg (by simpa using g2),show (((XjH o.body o.src o.dst).2.1.length:Int) !=(o.body.length:Int) - 8)=false by simp;omega,cond_false,Xv5 (by omega),Option.bind_some]
   unfold Xxy
   by_cases g3:(Xn4 (XjH o.body o.src o.dst).2.1).2=0
   ·rw [if_pos g3,show ((Xn4 (XjH o.body o.src o.dst).2.1).2==0)=true by simpa using g3,cond_true]
    exact ⟨_,rfl,fun _=>rfl⟩
   ·rw [if_neg g3,show ((Xn4 (XjH o.body o.src o.dst).2.1).2==0)=false by simpa using g3,cond_false]
    exact ⟨_,rfl,fun _=>rfl⟩
  ·rw [if_pos g2,show (((XjH o.body o.src o.dst).2.1.length:Int) !=(o.body.length:Int) - 8)=true by simp;omega,cond_true]
   exact ⟨_,rfl,fun h=>absurd h (by decide)⟩
 ·rw [if_pos g,show ((XjH o.body o.src o.dst).2.2 !=0)=true by simpa using g,cond_true]
  exact ⟨_,rfl,fun h=>absurd h g⟩
def XkI (s:List UInt8):Xam×Int×Int×Int:=
 if (Xbn s).2.2.2≠0 then (zP,0,0,(Xbn s).2.2.2) else ((Xbn s).1,((s.length - (Xbn s).2.1:Nat):Int),((s.length - (Xbn s).2.2.1:Nat):Int),0)
theorem XCt {o:O11} {n:Nat}:(XhW o n).2.1≤o.body.length:=by
 unfold XhW
 split
 ·split
  ·simp
  ·show (Xky o.body o.src o.dst).2.1.length≤_
   unfold Xky
   repeat' split
   all_goals simp
 split
 ·split
  ·simp
  split
  ·simp
  ·show (XjH o.body o.src o.dst).2.1.length≤_
   unfold XjH
   repeat' split
   all_goals simp
   all_goals omega
 ·simp
theorem Xv7 {s:List UInt8} (hs:s.length<2^19):Xb9 s=some (XkI s):=by
 unfold Xb9 XjJ
 have hz:(⟨⟨0,⟨false,0,0⟩,⟨false,0,0⟩,0,0⟩,0,false,0,0,false,[],0⟩:Xam)=zP:=rfl
 rw [hz]
 by_cases g1:9000<s.length
 ·have hT:Xbn s=(zP,0,0,5):=by unfold Xbn;rw [if_pos g1]
  unfold XkI
  rw [XaP (by omega),hT];rfl
 rw [XaK (by omega)]
 by_cases g2:s=[]
 ·subst g2;rfl
 rw [show (s==[])=false by simpa using g2,cond_false,XAC hs g2,Option.bind_some]
 obtain ⟨a1,a2⟩:=XtG s
 by_cases g3:(XbA s).err=0
 ·have hb:=Xqb g3
  have hil:=XCt (o:=XbA s) (n:=s.length)
  have hE:(XhW (XbA s) s.length).2.2≠0→XkI s=(zP,0,0,(XhW (XbA s) s.length).2.2):=fun g4=>by
   have hT:Xbn s=(zP,0,0,(XhW (XbA s) s.length).2.2):=by unfold Xbn;rw [if_neg g1,if_neg g2,if_neg (by simpa using g3),if_pos g4]
   unfold XkI
   rw [hT,if_pos g4]
  have hO:(XhW (XbA s) s.length).2.2=0→XkI s=((XhW (XbA s) s.length).1,((XbA s).body.length:Int),((XhW (XbA s) s.length).2.1:Int),0):=fun g4=>by
   have hT:Xbn s=((XhW (XbA s) s.length).1,s.length - (XbA s).body.length,s.length - (XhW (XbA s) s.length).2.1,0):=by unfold Xbn;rw [if_neg g1,if_neg g2,if_neg (by simpa using g3),if_neg (by simpa using g4)]
   unfold XkI
   rw [hT,if_neg (by simp)]
   simp only []
   rw [show s.length - (s.length - (XbA s).body.length)=(XbA s).body.length by omega,show s.length - (s.length - (XhW (XbA s) s.length).2.1)=(XhW (XbA s) s.length).2.1 by omega]
  simp only [g3,bne_self_eq_false,cond_false]
  by_cases p6:(XbA s).proto=6
  ·obtain ⟨q,q1,q2⟩:=XRF (o:=XbA s) (n:=s.length) a1 a2 (by omega) p6
   have e6:((o11 (XbA s)).proto==6)=true:=by show ((XbA s).proto==6)=true;simpa using p6
   rw [e6,cond_true]
   show (Xbx (o11 (XbA s)) ⟨⟨(XbA s).proto,(XbA s).src,(XbA s).dst,0,0⟩,0,false,0,0,false,[],(s.length:Int)⟩).bind _=_
   rw [q1,Option.bind_some]
   simp only []
   by_cases g4:(XhW (XbA s) s.length).2.2=0
   ·rw [hO g4,g4,q2 g4];rfl
   ·rw [hE g4,show ((XhW (XbA s) s.length).2.2 !=0)=true by simpa using g4];rfl
  ·have e6:((o11 (XbA s)).proto==6)=false:=by show ((XbA s).proto==6)=false;simpa using p6
   rw [e6,cond_false]
   by_cases p17:(XbA s).proto=17
   ·obtain ⟨q,q1,q2⟩:=XUq (o:=XbA s) (n:=s.length) a1 a2 (by omega) p17
    have e17:((o11 (XbA s)).proto==17)=true:=by show ((XbA s).proto==17)=true;simpa using p17
    rw [e17,cond_true]
    show (Xbk (o11 (XbA s)) ⟨⟨(XbA s).proto,(XbA s).src,(XbA s).dst,0,0⟩,0,false,0,0,false,[],(s.length:Int)⟩).bind _=_
    rw [q1,Option.bind_some]
    simp only []
    by_cases g4:(XhW (XbA s) s.length).2.2=0
    ·rw [hO g4,g4,q2 g4];rfl
    ·rw [hE g4,show ((XhW (XbA s) s.length).2.2 !=0)=true by simpa using g4];rfl
   ·have e17:((o11 (XbA s)).proto==17)=false:=by show ((XbA s).proto==17)=false;simpa using p17
    have e6':(XhW (XbA s) s.length).2.2=6:=by unfold XhW;rw [if_neg p6,if_neg p17]
    rw [e17,cond_false,hE (by rw [e6'];decide),e6']
 ·have hT:Xbn s=(zP,0,0,(XbA s).err):=by unfold Xbn;rw [if_neg g1,if_neg g2,if_pos g3]
  unfold XkI
  rw [hT,if_pos g3,show ((XbA s).err !=0)=true by simpa using g3];rfl
theorem XCQ {s:List UInt8} (hs:s.length<2^19):XdO s=some ((Xbn s).1,(Xbn s).2.2.2):=by
 unfold XdO Xjn
 rw [Xv7 hs,Option.bind_some]
 unfold XkI
 by_cases g:(Xbn s).2.2.2=0
 ·rw [if_neg (by simpa using g),g]
 ·rw [if_pos g,Xp4 g]
theorem Xtb (s:List UInt8):(Xbn s).2.1≤s.length∧(Xbn s).2.2.1≤s.length:=by
 unfold Xbn
 repeat' split
 all_goals simp
theorem XDZ {s:List UInt8} (hs:s.length<2^19):XdI s=some (((Xbn s).2.1:Int),((Xbn s).2.2.1:Int),(Xbn s).2.2.2):=by
 unfold XdI Xjj
 rw [Xv7 hs,Option.bind_some]
 unfold XkI
 have hl:=Xtb s
 by_cases g:(Xbn s).2.2.2=0
 ·rw [if_neg (by simpa using g),g]
  simp only [bne_self_eq_false,cond_false]
  rw [XdT (by omega) (by omega),XdT (by omega) (by omega),show (s.length:Int) - ((s.length - (Xbn s).2.1:Nat):Int)=((Xbn s).2.1:Int) by omega,show (s.length:Int) - ((s.length - (Xbn s).2.2.1:Nat):Int)=((Xbn s).2.2.1:Int) by omega]
 ·rw [if_pos g]
  simp only []
  rw [show ((Xbn s).2.2.2 !=0)=true by simpa using g,cond_true,Xp4 g];rfl
theorem get_put {h:Xal} {l more:List UInt8} (hh:H5 h=true) (h1:A4 h.Src) (h2:A4 h.Dst) (hl:20+h.Options.length+l.length≤65535):XjI (hc5 h (20+h.Options.length+l.length) (ck5 h (20+h.Options.length+l.length))++(l++more))=(h,l,0):=by
 obtain ⟨q1,q2,q3,q4,q5,q6,q7,q8⟩:=XxZ hh
 generalize hn:20+h.Options.length+l.length=n at *
 obtain ⟨c1,c2,c3⟩:=XVJ h n
 generalize ck5 h n=c at *
 have hlen:=Xr5 h n c
 obtain ⟨p0,p1,p2,p4,p6,p8,p9,p12,p16,p20,_,_⟩:=Xp2 h n c (l++more)
 have s5:=q5.2
 have d5:=q6.2
 unfold aok at s5 d5
 rw [q5.1] at s5
 rw [q6.1] at d5
 simp only [Bool.false_or,Bool.and_eq_true,beq_iff_eq,decide_eq_true_eq] at s5 d5
 obtain ⟨_,_,h1c,_⟩:=h1
 obtain ⟨_,_,h2c,_⟩:=h2
 have v0:=Xqx p0 rfl (by omega)
 have v1:=Xqx p1 rfl (by omega)
 have v2:=Xqx p2 rfl (by omega)
 have v4:=Xqx p4 rfl (by omega)
 have v6:=Xqx p6 (wflag h.Whole) (by cases h.Whole<;>decide)
 have v8:=Xqx p8 rfl (by omega)
 have v9:=Xqx p9 rfl (by omega)
 have v12:=Xqx p12 rfl (by omega)
 have v16:=Xqx p16 rfl (by omega)
 have ht:(((64+(20+h.Options.length)/4:Nat):Int)%16*4)=((20+h.Options.length:Nat):Int):=by omega
 unfold XjI XVg
 rw [v0,v1,v2,v4,v6,v8,v9,v12,v16,ht,Int.toNat_natCast,Int.toNat_natCast,p20]
 rw [if_neg (by simp only [List.length_append];omega),if_neg (by omega),if_neg (by omega),if_neg (by omega),if_neg (by simp only [List.length_append];omega),show (hc5 h n c++(l++more)).take (20+h.Options.length)=hc5 h n c by rw [←hlen];exact List.take_left,Xni c2 c3,if_neg (by decide),if_neg (by cases h.Whole<;>simp)]
 rw [show 20+h.Options.length - 20=h.Options.length by omega,List.take_left,show (hc5 h n c++(l++more)).drop (20+h.Options.length)=l++more by rw [←hlen];exact List.drop_left,show n - (20+h.Options.length)=l.length by omega,List.take_left]
 obtain ⟨cl,mk,wh,tt,pr,⟨sv,sh,sl⟩,⟨dv,dh,dl⟩,op⟩:=h
 simp only at q1 q2 q3 q4 q5 q6 s5 d5 h1c h2c ⊢
 obtain ⟨rfl,_⟩:=s5
 obtain ⟨rfl,_⟩:=d5
 rw [q5.1,q6.1,Int.toNat_of_nonneg q1.1,Int.toNat_of_nonneg q2.1,Int.toNat_of_nonneg q3.1,Int.toNat_of_nonneg q4.1,Int.toNat_of_nonneg h1c,Int.toNat_of_nonneg h2c]
 cases wh<;>rfl
theorem XzG {h:Xaq} {n:Nat} {r:List UInt8} (hh:H6 h) (hs:Xls h.Src) (hd:Xls h.Dst) (hn:n≤65535):Xk9 (headB h n++r)=if r.length<n then (zero6,[],2) else (h,r.take n,0):=by
 obtain ⟨a,b,c,d,e,f⟩:=hh
 have hl:=XnJ h n
 obtain ⟨p1,p2,p3,p4,p5,p6,p7⟩:=XH2 (a:=be (6*2^28+h.Class.toNat*2^20+h.Label.toNat) 4) (b:=be n 2) (c:=be h.Next.toNat 1) (d:=be h.Hop.toNat 1) (e:=Xjw h.Src) (f:=Xjw h.Dst) (r:=r) (by simp) (by simp) (by simp) (by simp) (by simp [Xjw]) (by simp [Xjw])
 have hv:Xfu ((headB h n++r).take 4)=6*2^28+h.Class.toNat*2^20+h.Label.toNat:=by
  unfold headB;rw [p1,Xhf (by omega)]
 have hw:Xfu (((headB h n++r).drop 4).take 2)=n:=by unfold headB;rw [p2,Xhf (by omega)]
 unfold Xk9
 rw [if_neg (by simp;omega),hv,if_neg (by omega),hw]
 have hlen:(headB h n++r).length - 40=r.length:=by simp;omega
 rw [hlen]
 by_cases hr:r.length<n
 ·rw [if_pos hr,if_pos hr]
 rw [if_neg hr,if_neg hr]
 have e40:(headB h n++r).drop 40=r:=p7
 rw [e40]
 unfold XGr
 rw [hv]
 unfold headB
 rw [p3,p4,p5,p6,XpW hs e,XpW hd f,Xhf (by omega),Xhf (by omega)]
 have e1:(((6*2^28+h.Class.toNat*2^20+h.Label.toNat)/2^20%256:Nat):Int)=h.Class:=by omega
 have e2:(((6*2^28+h.Class.toNat*2^20+h.Label.toNat)%2^20:Nat):Int)=h.Label:=by omega
 simp only []
 rw [e1,e2,Int.toNat_of_nonneg c.1,Int.toNat_of_nonneg d.1]
theorem len2 {l:List UInt8} (h:l.length=2):∃ a b,l=[a,b]:=by
 match l,h with
 | [a,b],_=>exact ⟨a,b,rfl⟩
theorem XHM {a b c d r:List UInt8} (ha:a.length=2) (hb:b.length=2) (hc:c.length=2) (hd:d.length=2) :
 let s:=a++b++c++d++r
 (s.drop 0).take 2=a∧(s.drop 2).take 2=b∧(s.drop 4).take 2=c∧(s.drop 6).take 2=d∧s.drop 8=r∧s.take 6=a++b++c:=by
 obtain ⟨a1,a2,rfl⟩:=len2 ha
 obtain ⟨b1,b2,rfl⟩:=len2 hb
 obtain ⟨c1,c2,rfl⟩:=len2 hc
 obtain ⟨d1,d2,rfl⟩:=len2 hd
 exact ⟨rfl,rfl,rfl,rfl,rfl,rfl⟩
def dg (h:XaH) (l:List UInt8) (c:Nat):List UInt8:=be h.SPort.toNat 2++be h.DPort.toNat 2++be (8+l.length) 2++be c 2++l
theorem Xv0 (h:XaH) (l:List UInt8) (c:Nat):(dg h l c).length=8+l.length:=by simp [dg];omega
theorem XVV (h:XaH) (l:List UInt8):u8 h l=dg h l 0:=by
 unfold u8 dg
 rw [Xsu,Xsu,Xsu]
 rfl
theorem XWc {h:XaH} {l:List UInt8} {c:Int}:Xq7 (u8 h l) 6 2 c=dg h l c.toNat:=by
 rw [XVV]
 obtain ⟨_,_,_,_,p5,p6⟩:=XHM (a:=be h.SPort.toNat 2) (b:=be h.DPort.toNat 2) (c:=be (8+l.length) 2) (d:=be 0 2) (r:=l) (by simp) (by simp) (by simp) (by simp)
 have e:dg h l 0=be h.SPort.toNat 2++be h.DPort.toNat 2++be (8+l.length) 2++be 0 2++l:=rfl
 rw [←e] at p5 p6
 unfold Xq7
 rw [if_pos (by rw [Xv0];omega),show (6:Int).toNat=6 from rfl,show ((6:Int)+2).toNat=8 from rfl,p5,p6];rfl
theorem XUy {h:XaH} {l:List UInt8} {c:Nat} (hc:c<65536):Xfj (dg h l c)=Xfj (dg h l 0)+c:=by
 have e:∀ x,dg h l x=(be h.SPort.toNat 2++be h.DPort.toNat 2++be (8+l.length) 2)++(be x 2++l):=fun x=>by simp [dg,List.append_assoc]
 have hA:(be h.SPort.toNat 2++be h.DPort.toNat 2++be (8+l.length) 2).length%2=0:=by simp
 rw [e c,e 0]
 generalize be h.SPort.toNat 2++be h.DPort.toNat 2++be (8+l.length) 2=A at hA
 rw [Xfl _ _ hA,Xfl _ _ hA,Xfl (be c 2) l (by simp),Xfl (be 0 2) l (by simp),Xo7 hc,Xo7 (by omega)];omega
theorem XDN {s w:List UInt8} {p n:Nat} (h:(s.drop p).take 2=w) (e:w=be n 2) (hn:n<65536):v2 s p=(n:Int):=by
 unfold v2;rw [h,e,Xhf (by omega)]
theorem dg_ok {h:XaH} {l:List UInt8} {p:List UInt8} (hp:p.length%2=0):let c:=ck8 p (u8 h l);1≤c∧c≤65535∧Xfj (p++dg h l c.toNat)%65535=0∧Xfj (p++dg h l c.toNat)≠0:=by
 have key:∀ c:Nat,c<65536→Xfj (p++dg h l c)=Xfj p+Xfj (dg h l 0)+c:=fun c hc=>by rw [Xfl _ _ hp,XUy hc];omega
 have k0:=key 0 (by omega)
 simp only []
 unfold ck8
 rw [XVV,k0]
 generalize Xfj p+Xfj (dg h l 0)+0=W at *
 have n1:=norm_le W
 have n2:=Xmc W
 have n3:=Xkn W
 split
 ·rw [key _ (by omega)];omega
 ·rw [key _ (by omega)];omega
theorem Xu3 {h:XaH} {src dst:Xaa} {l:List UInt8} (h0:(Xmq h src dst l).2=0):(0≤h.SPort∧h.SPort≤65535)∧(0≤h.DPort∧h.DPort≤65535)∧Xma src dst 17 (8+l.length)≠[]∧8+l.length≤65535∧Xmq h src dst l=(dg h l (ck8 (Xma src dst 17 (8+l.length)) (u8 h l)).toNat,0):=by
 unfold Xmq at h0 ⊢
 by_cases hh:(port h.SPort&&port h.DPort)=false
 ·rw [if_pos hh] at h0;exact absurd h0 (by decide)
 rw [if_neg hh] at h0 ⊢
 by_cases hp:Xma src dst 17 (8+l.length)=[]
 ·rw [if_pos hp] at h0;exact absurd h0 (by decide)
 rw [if_neg hp] at h0 ⊢
 by_cases hl:65535<8+l.length
 ·rw [if_pos hl] at h0;exact absurd h0 (by decide)
 rw [if_neg hl]
 have hport:port h.SPort=true∧port h.DPort=true:=by simpa using hh
 refine ⟨XjU.1 hport.1,XjU.1 hport.2,hp,by omega,?_⟩
 rw [XWc]
theorem XFK {h:XaH} {src dst:Xaa} {l:List UInt8} (h0:(Xmq h src dst l).2=0):XjH (Xmq h src dst l).1 src dst=(h,l,0):=by
 obtain ⟨p1,p2,g2,g3,e⟩:=Xu3 h0
 rw [e]
 simp only []
 have q1:=Xx3 src dst 17 (8+(l.length:Int))
 obtain ⟨c1,c2,c3,c4⟩:=dg_ok (h:=h) (l:=l) q1
 generalize hp:Xma src dst 17 (8+(l.length:Int))=p at *
 generalize ck8 p (u8 h l)=c at *
 obtain ⟨c,rfl⟩:=Int.eq_ofNat_of_zero_le (show 0≤c by omega)
 rw [Int.toNat_natCast] at *
 have hlen:=Xv0 h l c
 obtain ⟨s0,s2,s4,s6,s8,_⟩:=XHM (a:=be h.SPort.toNat 2) (b:=be h.DPort.toNat 2) (c:=be (8+l.length) 2) (d:=be c 2) (r:=l) (by simp) (by simp) (by simp) (by simp)
 have ed2:be h.SPort.toNat 2++be h.DPort.toNat 2++be (8+l.length) 2++be c 2++l=dg h l c:=rfl
 rw [ed2] at s0 s2 s4 s6 s8
 have v0:=XDN s0 rfl (by omega)
 have v2':=XDN s2 rfl (by omega)
 have v4:=XDN s4 rfl (by omega)
 have v6:=XDN s6 rfl (by omega)
 unfold XjH
 rw [if_neg (by omega),v0,v2',v4,v6,if_neg (by omega),if_neg (by omega),show (((8+l.length:Nat):Int))=8+(l.length:Int) by omega,hp,if_neg g2,if_neg (by omega),show (8+(l.length:Int)).toNat=(dg h l c).length by omega,List.take_length,Xni c3 c4,if_neg (by decide),s8,hlen,show 8+l.length - 8=l.length by omega,List.take_length]
 obtain ⟨a,b⟩:=h
 simp only at p1 p2 ⊢
 rw [Int.toNat_of_nonneg p1.1,Int.toNat_of_nonneg p2.1]
theorem XTF (t:Xag) (n:Nat) (r:List UInt8):vK (headB (XnS t) n++r) 0 1=96:=by
 obtain ⟨p1,_⟩:=XH2 (a:=be (6*2^28+(XnS t).Class.toNat*2^20+(XnS t).Label.toNat) 4) (b:=be n 2) (c:=be (XnS t).Next.toNat 1) (d:=be (XnS t).Hop.toNat 1) (e:=Xjw (XnS t).Src) (f:=Xjw (XnS t).Dst) (r:=r) (by simp) (by simp) (by simp) (by simp) (by simp [Xjw]) (by simp [Xjw])
 have e:be (6*2^28+(XnS t).Class.toNat*2^20+(XnS t).Label.toNat) 4++be n 2++be (XnS t).Next.toNat 1++be (XnS t).Hop.toNat 1++Xjw (XnS t).Src++Xjw (XnS t).Dst++r=headB (XnS t) n++r:=rfl
 rw [e] at p1
 unfold vK
 have:((headB (XnS t) n++r).drop 0).take 1=((headB (XnS t) n++r).take 4).take 1:=by rw [List.drop_zero,List.take_take];rfl
 rw [this,p1,show (XnS t).Class.toNat=0 from rfl,show (XnS t).Label.toNat=0 from rfl];rfl
theorem XTr (t:Xag) (n c:Nat) (r:List UInt8):vK (hc5 (Xk7 t) n c++r) 0 1=69:=by
 obtain ⟨p0,_⟩:=Xp2 (Xk7 t) n c r
 have w0:=Xqx p0 rfl (by rw [show (Xk7 t).Options=[] from rfl];decide)
 rw [show (Xk7 t).Options.length=0 from rfl] at w0
 rw [show ((64+(20+0)/4:Nat):Int)=69 from rfl] at w0
 exact w0
theorem XJW {t:Xag} {b more:List UInt8} (h1:A4 t.Src) (h2:A4 t.Dst) (hh:H6 (XnS t)) (hb:b.length≤65535):XbA (headB (XnS t) b.length++(b++more))=if more=[] then ⟨t.Src,t.Dst,t.Proto,40,b,0⟩ else zO 5:=by
 have hg:=XzG (h:=XnS t) (n:=b.length) (r:=b++more) hh h1.Xri h2.Xri hb
 rw [if_neg (by simp),List.take_left] at hg
 unfold XbA
 rw [XTF,if_neg (by decide),if_pos (by decide),hg,if_neg (by simp)]
 simp only [List.length_append,XnJ]
 by_cases hm:more=[]
 ·subst hm
  rw [if_neg (by simp),if_pos rfl];rfl
 ·have:0<more.length:=List.length_pos_iff.2 hm
  rw [if_pos (by omega),if_neg hm]
theorem XNC {t:Xag} {b more:List UInt8} (h1:A4 t.Src) (h2:A4 t.Dst) (hh:H5 (Xk7 t)=true) (hb:20+b.length≤65535):XbA (hc5 (Xk7 t) (20+b.length) (ck5 (Xk7 t) (20+b.length))++(b++more))=if more=[] then ⟨t.Src,t.Dst,t.Proto,20,b,0⟩ else zO 5:=by
 have ho:(Xk7 t).Options.length=0:=rfl
 have hg:=get_put (h:=Xk7 t) (l:=b) (more:=more) hh h1 h2 (by omega)
 have hl:=Xr5 (Xk7 t) (20+b.length) (ck5 (Xk7 t) (20+b.length))
 rw [ho,Nat.add_zero] at hg hl
 unfold XbA
 rw [XTr,if_pos (by decide),hg,if_neg (by simp)]
 simp only [List.length_append,hl,ho]
 by_cases hm:more=[]
 ·subst hm
  rw [if_neg (by simp),if_pos rfl];rfl
 ·have:0<more.length:=List.length_pos_iff.2 hm
  rw [if_pos (by omega),if_neg hm]
theorem XA6 {t:Xag} {b more:List UInt8} (h1:A4 t.Src) (h2:A4 t.Dst) (h0:(Xg6 t b).2=0):XbA ((Xg6 t b).1++more)=if more=[] then ⟨t.Src,t.Dst,t.Proto,cond t.Src.V6 40 20,b,0⟩ else zO 5:=by
 obtain ⟨_,_,_,_,_,h⟩:=XrN h0
 rcases h with ⟨v,hh,hl,e⟩|⟨v,hh,hl,e⟩
 ·rw [e,v]
  simp only [List.append_assoc]
  exact XJW h1 h2 hh hl
 ·rw [e,v]
  simp only [List.append_assoc]
  exact XNC h1 h2 hh hl
theorem Xrx {t:Xag} {b:List UInt8} (h0:(Xg6 t b).2=0):(Xg6 t b).1.length=cond t.Src.V6 40 20+b.length∧(Xg6 t b).1.length≤9000:=by
 obtain ⟨_,_,_,_,h9,h⟩:=XrN h0
 refine ⟨?_,h9⟩
 rcases h with ⟨v,hh,hl,e⟩|⟨v,hh,hl,e⟩
 ·rw [e,v]
  simp only [List.length_append,XnJ,cond_true]
 ·have hl:=Xr5 (Xk7 t) (20+b.length) (ck5 (Xk7 t) (20+b.length))
  rw [show (Xk7 t).Options.length=0 from rfl] at hl
  rw [e,v]
  simp only [List.length_append,hl,cond_false]
theorem Xze {t:Xag} {b:List UInt8} (h1:A4 t.Src) (h2:A4 t.Dst) (h0:(Xg6 t b).2=0):Xbn (Xg6 t b).1=if (XhW ⟨t.Src,t.Dst,t.Proto,cond t.Src.V6 40 20,b,0⟩ (Xg6 t b).1.length).2.2≠0 then (zP,0,0,(XhW ⟨t.Src,t.Dst,t.Proto,cond t.Src.V6 40 20,b,0⟩ (Xg6 t b).1.length).2.2) else
 ((XhW ⟨t.Src,t.Dst,t.Proto,cond t.Src.V6 40 20,b,0⟩ (Xg6 t b).1.length).1,cond t.Src.V6 40 20,(Xg6 t b).1.length - (XhW ⟨t.Src,t.Dst,t.Proto,cond t.Src.V6 40 20,b,0⟩ (Xg6 t b).1.length).2.1,0):=by
 have ho:=XA6 (more:=[]) h1 h2 h0
 rw [List.append_nil,if_pos rfl] at ho
 obtain ⟨hl,h9⟩:=Xrx h0
 unfold Xbn
 have hne:(Xg6 t b).1≠[]:=by
  intro e
  rw [e] at hl
  cases hv:t.Src.V6<;>rw [hv] at hl<;>simp at hl<;>omega
 rw [if_neg (by omega),if_neg hne,ho,if_neg (by simp)]
 simp only []
 rw [show (Xg6 t b).1.length - b.length=cond t.Src.V6 40 20 by omega]
theorem XQ2 {t:Xag} {h:XaH} {l:List UInt8} {z n:Nat} (h0:(Xmq h t.Src t.Dst l).2=0) (hp:t.Proto=17) :
 XhW ⟨t.Src,t.Dst,t.Proto,z,(Xmq h t.Src t.Dst l).1,0⟩ n=(⟨⟨t.Proto,t.Src,t.Dst,h.SPort,h.DPort⟩,0,false,0,0,(Xxy l).1,(Xxy l).2,n⟩,l.length,0):=by
 have hg:=XFK h0
 obtain ⟨_,_,_,_,c⟩:=Xu3 h0
 have hlen:(Xmq h t.Src t.Dst l).1.length=8+l.length:=by rw [c];exact Xv0 _ _ _
 unfold XhW
 rw [if_neg (by show ¬ t.Proto=6;omega),if_pos hp]
 simp only []
 rw [hg,if_neg (by simp),if_neg (by rw [hlen];simp only [];omega)]
theorem drop_at {a r:List UInt8} {n:Nat} (h:a.length=n):(a++r).drop n=r:=by subst h;exact List.drop_left
theorem take_at {a r:List UInt8} {n:Nat} (h:a.length=n):(a++r).take n=a:=by subst h;exact List.take_left
theorem XOm {a r:List UInt8} {n x:Nat} (h:a.length=n) (hx:x<256):b1 (a++(be x 1++r)) n=x:=by
 unfold b1
 rw [drop_at h,take_at (by simp),Xhf (by omega)]
theorem XHV {a D r:List UInt8} {p:Nat} (h:a.length=p) (hD:D.length≤20):idS (a++(be D.length 1++(D++r))) p=(D,0,p+1+D.length):=by
 unfold idS
 rw [XOm h (by omega),if_neg (by simp;omega),if_neg (by omega),if_neg (by simp;omega)]
 have:a++(be D.length 1++(D++r))=(a++be D.length 1)++(D++r):=by simp
 rw [this,drop_at (by simp [h]),take_at rfl]
theorem XsE {h:Xat} (hk:HOK h) (hv:0≤h.Version∧h.Version<2^32):Xn4 (XgL h)=(h,0):=by
 obtain ⟨⟨b0,b1'⟩,hk⟩:=hk
 obtain ⟨L,B,V,D,S,R⟩:=h
 simp only at b0 b1' hk hv
 obtain ⟨b,rfl⟩:=Int.eq_ofNat_of_zero_le b0
 obtain ⟨v,rfl⟩:=Int.eq_ofNat_of_zero_le hv.1
 unfold XgL
 simp only [Int.toNat_natCast]
 cases L with
 | true=>
   simp only [if_true] at hk ⊢
   have e:be (192+b) 1++be v 4++(be D.length 1++D)++(be S.length 1++S)++R=[]++(be (192+b) 1++(be v 4++(be D.length 1++(D++(be S.length 1++(S++R)))))):=by simp
   rw [e]
   unfold Xn4
   rw [XOm (a:=[]) (n:=0) (x:=192+b) rfl (by omega)]
   have i1:idS ([]++(be (192+b) 1++(be v 4++(be D.length 1++(D++(be S.length 1++(S++R))))))) 5=(D,0,6+D.length):=by
    have:=XHV (a:=be (192+b) 1++be v 4) (D:=D) (r:=be S.length 1++(S++R)) (p:=5) (by simp) hk.1
    rw [←this];simp
   have i2:idS ([]++(be (192+b) 1++(be v 4++(be D.length 1++(D++(be S.length 1++(S++R))))))) (6+D.length)=(S,0,7+D.length+S.length):=by
    have:=XHV (a:=be (192+b) 1++be v 4++be D.length 1++D) (D:=S) (r:=R) (p:=6+D.length) (by simp;omega) hk.2
    rw [show 7+D.length+S.length=6+D.length+1+S.length by omega,←this];simp
   rw [i1]
   simp only []
   rw [i2]
   simp only []
   rw [if_neg (by simp [be]),if_neg (by omega),if_neg (by omega),if_neg (by simp;omega),if_neg (by simp),if_neg (by simp)]
   have d1:([]++(be (192+b) 1++(be v 4++(be D.length 1++(D++(be S.length 1++(S++R))))))).drop (7+D.length+S.length)=R:=by
    have:=drop_at (a:=be (192+b) 1++be v 4++be D.length 1++D++be S.length 1++S) (r:=R) (n:=7+D.length+S.length) (by simp;omega)
    simp only [List.append_assoc,List.nil_append] at this ⊢
    exact this
   have d2:Xfu ((([]++(be (192+b) 1++(be v 4++(be D.length 1++(D++(be S.length 1++(S++R))))))).drop 1).take 4)=v:=by
    rw [List.nil_append,drop_at (by simp),take_at (by simp),Xhf (by omega)]
   rw [d1,d2,show (192+b)%64=b by omega]
 | false=>
   simp only [Bool.false_eq_true,if_false] at hk ⊢
   obtain ⟨k1,k2,k3⟩:=hk
   have e:be (64+b) 1++D++R=[]++(be (64+b) 1++(D++R)):=by simp
   rw [e]
   unfold Xn4
   rw [XOm (a:=[]) (n:=0) (x:=64+b) rfl (by omega),if_neg (by simp [be]),if_neg (by omega),if_pos (by omega),if_neg (by simp;omega)]
   rw [List.nil_append,drop_at (by simp),take_at k1,←List.append_assoc,drop_at (by simp;omega),show (64+b)%64=b by omega,k2,k3]
end Go.Vm.Code
namespace Go.Vm.Code
open Go Go.Vm Go.Proofs
set_option maxRecDepth 100000
set_option maxHeartbeats 4000000
set_option linter.unusedVariables false
def Xnj (XiC:XhP) (XiE:Xhy) (s:List UInt8):Option (Xek×Int):=
 (s[0]?).bind fun (b:UInt8)=>
 cond ((wI .u8 ((b.toNat:Int).tdiv 16))==4)
  (
  (XiC s).bind fun xg=>
  let t:=wI .i64 (20+(xg.1.Options.length:Int))
  some ((Xek.mk xg.1.Src xg.1.Dst xg.1.Proto t xg.2.1,xg.2.2)))
  (
  (s[0]?).bind fun (b1:UInt8)=>
  cond ((wI .u8 ((b1.toNat:Int).tdiv 16))==6)
   (
   (XiE s).bind fun xg1=>
   some ((Xek.mk xg1.1.Src xg1.1.Dst xg1.1.Next 40 xg1.2.1,xg1.2.2)))
   (
   some ((Xek.mk (Xaa.mk false 0 0) (Xaa.mk false 0 0) 0 0 [],3))))
def XDP (x:Xek×Int):XcU:=⟨.tuple ⟨[.agg ⟨[.bool x.1.src.V6,.int .u64 x.1.src.Hi,.int .u64 x.1.src.Lo,.bool x.1.dst.V6,.int .u64 x.1.dst.Hi,.int .u64 x.1.dst.Lo,.int .i64 x.1.proto,.int .i64 x.1.size,.string ⟨⟨x.1.body⟩⟩]⟩,.int .i64 x.2]⟩,[],[]⟩
abbrev XgH:=(List UInt8)→Option (Xek×Int)
def r105 (g:XgH):Dec:=dV asS fun (y0:List UInt8)=>XdX (ofG (g y0) XDP)
theorem XUe {g:XgH} {y0:List UInt8} {x:Xek×Int} (hx:g y0=some x):r105 g [.string ⟨⟨y0⟩⟩] []=some (XDP x):=(XaS (Xd4)).trans (XaQ hx)
def s105 (g:XgH):XbE:=⟨[.v],r105 g⟩
theorem XJY {g:XgH} {y0:List UInt8} {x:Xek×Int} (hx:g y0=some x):(s105 g).run [.string ⟨⟨y0⟩⟩] []=some (XDP x):=XUe hx
abbrev XJM (XiC:XhP) (XiE:Xhy):List (Nat×XbE):=[(152,s152 XiC),(153,s153 XiE)]
theorem XGv (XiC:XhP) (XiE:Xhy) (hS:Xak Tryz.prog (XaD (XJM XiC XiE))) (s:List UInt8) (res:Xek×Int) (h:Xnj XiC XiE s=some res) :
 XaG Tryz.prog 105 0 ⟨⟨105,53,[(0,.string ⟨⟨s⟩⟩)],[.code XBl],[],false,none⟩,[],[],0⟩ (fun v H _=>Res 0 (XDP res) v H):=by
 unfold Xnj at h
 have R1:=@XJP XiC
 have R2:=@XNO XiE
 refine Xa6 XaE hS true 3000 ?_
 conv=>whnf
 exact W
def XgP:XgH:=Xnj XiC XiE
theorem XKg:XbM Tryz.prog 105 (s105 XgP):=by
 have hL:=XGv XiC XiE (Xak.XaM ⟨XLV,XNQ,trivial⟩)
 exact okA ⟨Tryz.f105,rfl,by decide,rfl⟩
def XnA (XiD:XhA) (XfF:XfS) (Xit:Xhv) (XgD:Xg0) (XgP:XgH) (s:List UInt8):Option (Xam×Int×Int×Int):=
 cond (decide ((s.length:Int)>9000))
  (
  some ((Xam.mk (Xag.mk 0 (Xaa.mk false 0 0) (Xaa.mk false 0 0) 0 0) 0 false 0 0 false [] 0,0,0,5)))
  (
  cond (s==[])
   (
   some ((Xam.mk (Xag.mk 0 (Xaa.mk false 0 0) (Xaa.mk false 0 0) 0 0) 0 false 0 0 false [] 0,0,0,2)))
   (
   (XgP s).bind fun xr=>
   cond (xr.2 !=0)
    (
    some ((Xam.mk (Xag.mk 0 (Xaa.mk false 0 0) (Xaa.mk false 0 0) 0 0) 0 false 0 0 false [] 0,0,0,xr.2)))
    (
    let t:=wI .i64 (xr.1.size+(xr.1.body.length:Int))
    cond (t !=(s.length:Int))
     (
     some ((Xam.mk (Xag.mk 0 (Xaa.mk false 0 0) (Xaa.mk false 0 0) 0 0) 0 false 0 0 false [] 0,0,0,5)))
     (
     cond (xr.1.proto==6)
      (
      (XiD xr.1.body xr.1.src xr.1.dst).bind fun xg=>
      cond (xg.2.2 !=0)
       (
       some ((Xam.mk (Xag.mk 0 (Xaa.mk false 0 0) (Xaa.mk false 0 0) 0 0) 0 false 0 0 false [] 0,0,0,xg.2.2)))
       (
       (XfF xg.1.Options).bind fun s1=>
       cond (decide (s1.2.2≥0))
        (
        let t1:=wI .i64 ((wI .i64 (xr.1.size+20))+(xg.1.Options.length:Int))
        some ((Xam.mk (Xag.mk xr.1.proto xr.1.src xr.1.dst xg.1.SPort xg.1.DPort) xg.1.Flags true s1.1 s1.2.1 false [] (s.length:Int),xr.1.size,t1,0)))
        (
        let t2:=wI .i64 ((wI .i64 (xr.1.size+20))+(xg.1.Options.length:Int))
        some ((Xam.mk (Xag.mk xr.1.proto xr.1.src xr.1.dst xg.1.SPort xg.1.DPort) xg.1.Flags false 0 0 false [] (s.length:Int),xr.1.size,t2,0)))))
      (
      cond (xr.1.proto !=17)
       (
       some ((Xam.mk (Xag.mk 0 (Xaa.mk false 0 0) (Xaa.mk false 0 0) 0 0) 0 false 0 0 false [] 0,0,0,6)))
       (
       (Xit xr.1.body xr.1.src xr.1.dst).bind fun xg1=>
       cond (xg1.2.2 !=0)
        (
        some ((Xam.mk (Xag.mk 0 (Xaa.mk false 0 0) (Xaa.mk false 0 0) 0 0) 0 false 0 0 false [] 0,0,0,xg1.2.2)))
        (
        let t3:=(wI .i64 ((xg1.2.1.length:Int)+8)) !=(xr.1.body.length:Int)
        cond (t3)
         (
         some ((Xam.mk (Xag.mk 0 (Xaa.mk false 0 0) (Xaa.mk false 0 0) 0 0) 0 false 0 0 false [] 0,0,0,5)))
         (
         (XgD xg1.2.1).bind fun xg2=>
         cond (xg2.2==0)
          (
          some ((Xam.mk (Xag.mk xr.1.proto xr.1.src xr.1.dst xg1.1.SPort xg1.1.DPort) 0 false 0 0 xg2.1.Long xg2.1.DCID (s.length:Int),xr.1.size,wI .i64 (xr.1.size+8),0)))
          (
          some ((Xam.mk (Xag.mk xr.1.proto xr.1.src xr.1.dst xg1.1.SPort xg1.1.DPort) 0 false 0 0 false [] (s.length:Int),xr.1.size,wI .i64 (xr.1.size+8),0)))))))))))
def rx66 (x:Xam×Int×Int×Int):XcU:=⟨.tuple ⟨[.agg ⟨[.int .i64 x.1.Tuple.Proto,.bool x.1.Tuple.Src.V6,.int .u64 x.1.Tuple.Src.Hi,.int .u64 x.1.Tuple.Src.Lo,.bool x.1.Tuple.Dst.V6,.int .u64 x.1.Tuple.Dst.Hi,.int .u64 x.1.Tuple.Dst.Lo,.int .i64 x.1.Tuple.SPort,.int .i64 x.1.Tuple.DPort,.int .i64 x.1.Flags,.bool x.1.Stamped,.int .u32 x.1.Val,.int .u32 x.1.Echo,.bool x.1.Long,.string ⟨⟨x.1.CID⟩⟩,.int .i64 x.1.Size]⟩,.int .i64 x.2.1,.int .i64 x.2.2.1,.int .i64 x.2.2.2]⟩,[],[]⟩
abbrev Xf9:=(List UInt8)→Option (Xam×Int×Int×Int)
def r66 (g:Xf9):Dec:=dV asS fun (y0:List UInt8)=>XdX (ofG (g y0) rx66)
theorem r66_c {g:Xf9} {y0:List UInt8} {x:Xam×Int×Int×Int} (hx:g y0=some x):r66 g [.string ⟨⟨y0⟩⟩] []=some (rx66 x):=(XaS (Xd4)).trans (XaQ hx)
def s66 (g:Xf9):XbE:=⟨[.v],r66 g⟩
theorem XQ0 {g:Xf9} {y0:List UInt8} {x:Xam×Int×Int×Int} (hx:g y0=some x):(s66 g).run [.string ⟨⟨y0⟩⟩] []=some (rx66 x):=r66_c hx
abbrev XVO (XiD:XhA) (XfF:XfS) (Xit:Xhv) (XgD:Xg0) (XgP:XgH):List (Nat×XbE):=[(106,s106 XiD),(107,s107 XfF),(108,s108 Xit),(74,s74 XgD),(105,s105 XgP)]
theorem XLy (XiD:XhA) (XfF:XfS) (Xit:Xhv) (XgD:Xg0) (XgP:XgH) (hS:Xak Tryz.prog (XaD (XVO XiD XfF Xit XgD XgP))) (s:List UInt8) (res:Xam×Int×Int×Int) (h:XnA XiD XfF Xit XgD XgP s=some res) :
 XaG Tryz.prog 66 0 ⟨⟨66,161,[(0,.string ⟨⟨s⟩⟩)],[.code XIl],[],false,none⟩,[],[],0⟩ (fun v H _=>Res 0 (rx66 res) v H):=by
 unfold XnA at h
 have R1:=@XJY XgP
 have R2:=@XKa XiD
 have R3:=@XLM XfF
 have R4:=@XLo Xit
 have R5:=@XQw XgD
 refine Xa6 XaE hS true 3000 ?_
 conv=>whnf
 exact W
def Xfp:Xf9:=XnA XiD XfF Xit XgD XgP
theorem XVi:XbM Tryz.prog 66 (s66 Xfp):=by
 have hL:=XLy XiD XfF Xit XgD XgP (Xak.XaM ⟨XNz,XPB,XLi,XVn,XKg,trivial⟩)
 exact okA ⟨Tryz.f66,rfl,by decide,rfl⟩
def Xmn (Xfp:Xf9) (s:List UInt8):Option (Xam×Int):=
 (Xfp s).bind fun t=>
 some ((t.1,t.2.2.2))
def rx28 (x:Xam×Int):XcU:=⟨.tuple ⟨[.agg ⟨[.int .i64 x.1.Tuple.Proto,.bool x.1.Tuple.Src.V6,.int .u64 x.1.Tuple.Src.Hi,.int .u64 x.1.Tuple.Src.Lo,.bool x.1.Tuple.Dst.V6,.int .u64 x.1.Tuple.Dst.Hi,.int .u64 x.1.Tuple.Dst.Lo,.int .i64 x.1.Tuple.SPort,.int .i64 x.1.Tuple.DPort,.int .i64 x.1.Flags,.bool x.1.Stamped,.int .u32 x.1.Val,.int .u32 x.1.Echo,.bool x.1.Long,.string ⟨⟨x.1.CID⟩⟩,.int .i64 x.1.Size]⟩,.int .i64 x.2]⟩,[],[]⟩
abbrev Xdl:=(List UInt8)→Option (Xam×Int)
def r28 (g:Xdl):Dec:=dV asS fun (y0:List UInt8)=>XdX (ofG (g y0) rx28)
theorem r28_c {g:Xdl} {y0:List UInt8} {x:Xam×Int} (hx:g y0=some x):r28 g [.string ⟨⟨y0⟩⟩] []=some (rx28 x):=(XaS (Xd4)).trans (XaQ hx)
def s28 (g:Xdl):XbE:=⟨[.v],r28 g⟩
theorem XHQ {g:Xdl} {y0:List UInt8} {x:Xam×Int} (hx:g y0=some x):(s28 g).run [.string ⟨⟨y0⟩⟩] []=some (rx28 x):=r28_c hx
abbrev XVI (Xfp:Xf9):List (Nat×XbE):=[(66,s66 Xfp)]
theorem XNP (Xfp:Xf9) (hS:Xak Tryz.prog (XaD (XVI Xfp))) (s:List UInt8) (res:Xam×Int) (h:Xmn Xfp s=some res) :
 XaG Tryz.prog 28 0 ⟨⟨28,17,[(0,.string ⟨⟨s⟩⟩)],[.code XSw],[],false,none⟩,[],[],0⟩ (fun v H _=>Res 0 (rx28 res) v H):=by
 unfold Xmn at h
 have R1:=@XQ0 Xfp
 refine Xa6 XaE hS true 3000 ?_
 conv=>whnf
 exact W
def XbT:Xdl:=Xmn Xfp
theorem XVu:XbM Tryz.prog 28 (s28 XbT):=by
 have hL:=XNP Xfp (Xak.XaM ⟨XVi,trivial⟩)
 exact okA ⟨Tryz.f28,rfl,by decide,rfl⟩
def Xq5 (Xfp:Xf9) (s:List UInt8):Option (Int×Int×Int):=
 (Xfp s).bind fun t=>
 some ((t.2.1,t.2.2.1,t.2.2.2))
abbrev XoH:=(List UInt8)→Option (Int×Int×Int)
def Xki:XoH:=Xq5 Xfp
end Go.Vm.Code
namespace Go.Vm.Code
open Go Go.Vm
def Xm4 (s:List UInt8):Xek×Int:=
 if vK s 0 1/16=4 then (⟨(XjI s).1.Src,(XjI s).1.Dst,(XjI s).1.Proto,20+((XjI s).1.Options.length:Int),(XjI s).2.1⟩,(XjI s).2.2)
 else if vK s 0 1/16=6 then (⟨(Xk9 s).1.Src,(Xk9 s).1.Dst,(Xk9 s).1.Next,40,(Xk9 s).2.1⟩,(Xk9 s).2.2)
 else (⟨⟨false,0,0⟩,⟨false,0,0⟩,0,0,[]⟩,3)
theorem Xvu (s:List UInt8):(XjI s).1.Options.length≤s.length∧(XjI s).2.1.length≤s.length:=by
 unfold XjI
 repeat' split
 all_goals simp [Xqg]
 omega
theorem XFG (s:List UInt8):(Xk9 s).2.1.length≤s.length:=by
 unfold Xk9
 repeat' split
 all_goals simp
 omega
theorem XMv {s:List UInt8} (hs:s.length<2^19) (hn:s≠[]):XgP s=some (Xm4 s):=by
 unfold XgP Xnj Xm4
 have h0:0<s.length:=List.length_pos_iff.2 hn
 have e0:=XmD (s:=s) (p:=0) h0
 have r0:=XfQ s 0 1 256 (by decide)
 obtain ⟨b1,b2⟩:=Xvu s
 rw [List.getElem?_eq_getElem h0,Option.bind_some,←e0,Int.tdiv_eq_ediv_of_nonneg (by omega),wU8 (by omega) (by omega),XUV (by omega),XD1 (by omega),Option.bind_some,Option.bind_some]
 by_cases g1:vK s 0 1/16=4
 ·rw [if_pos g1,show (vK s 0 1/16==4)=true by simpa using g1,cond_true]
  rw [XdT (n:=20+((XjI s).1.Options.length:Int)) (by omega) (by omega)]
 ·rw [if_neg g1,show (vK s 0 1/16==4)=false by simpa using g1,cond_false,Option.bind_some,←e0,Int.tdiv_eq_ediv_of_nonneg (by omega),wU8 (by omega) (by omega)]
  by_cases g4:vK s 0 1/16=6
  ·rw [if_pos g4,show (vK s 0 1/16==6)=true by simpa using g4,cond_true]
  ·rw [if_neg g4,show (vK s 0 1/16==6)=false by simpa using g4,cond_false]
theorem XFp {s:List UInt8} (h:(Xm4 s).2≠0):(XbA s).err=(Xm4 s).2:=by
 unfold Xm4 XbA at *
 split
 ·rename_i g;rw [if_pos g] at h;rw [if_pos h];rfl
 ·rename_i g;rw [if_neg g] at h
  split
  ·rename_i g2;rw [if_pos g2] at h;rw [if_pos h];rfl
  ·rfl
theorem Xzc {s:List UInt8} (h:(Xm4 s).2=0) (h2:(Xm4 s).1.size+((Xm4 s).1.body.length:Int)≠(s.length:Int)):(XbA s).err=5:=by
 unfold Xm4 XbA at *
 split
 ·rename_i g;rw [if_pos g] at h h2;rw [if_neg (by simpa using h),if_pos (by simp only [] at h2;omega)];rfl
 ·rename_i g;rw [if_neg g] at h h2
  split
  ·rename_i g2;rw [if_pos g2] at h h2;rw [if_neg (by simpa using h),if_pos (by simp only [] at h2;omega)];rfl
  ·rename_i g2;rw [if_neg g2] at h;exact absurd h (by decide)
theorem XOE {s:List UInt8} (h:(Xm4 s).2=0) (h2:(Xm4 s).1.size+((Xm4 s).1.body.length:Int)=(s.length:Int)):(XbA s).err=0∧(Xm4 s).1=⟨(XbA s).src,(XbA s).dst,(XbA s).proto,((XbA s).size:Int),(XbA s).body⟩:=by
 unfold Xm4 XbA at *
 by_cases g:vK s 0 1/16=4
 ·rw [if_pos g] at h h2;rw [if_pos g,if_pos g,if_neg (by simpa using h),if_neg (by simp only [] at h2;omega)];exact ⟨rfl,rfl⟩
 ·rw [if_neg g] at h h2
  by_cases g2:vK s 0 1/16=6
  ·rw [if_pos g2] at h h2;rw [if_neg g,if_neg g,if_pos g2,if_pos g2,if_neg (by simpa using h),if_neg (by simp only [] at h2;omega)];exact ⟨rfl,rfl⟩
  ·rw [if_neg g2] at h;exact absurd h (by decide)
theorem XHa {b:List UInt8} {src dst:Xaa} (h:(Xky b src dst).2.2=0):20+(Xky b src dst).1.Options.length+(Xky b src dst).2.1.length=b.length:=by
 have r:=XfQ b 12 1 256 (by decide)
 unfold Xky at h ⊢
 by_cases g0:b.length<20
 ·rw [if_pos g0] at h;exact absurd h (by decide)
 by_cases g1:4*(vK b 12 1/16)<20
 ·rw [if_neg g0,if_pos g1] at h;exact absurd h (by decide)
 by_cases g2:vK b 12 1%16≠0
 ·rw [if_neg g0,if_neg g1,if_pos g2] at h;exact absurd h (by decide)
 by_cases g3:(b.length:Int)<4*(vK b 12 1/16)
 ·rw [if_neg g0,if_neg g1,if_neg g2,if_pos g3] at h;exact absurd h (by decide)
 by_cases g4:Xma src dst 6 b.length=[]
 ·rw [if_neg g0,if_neg g1,if_neg g2,if_neg g3,if_pos g4] at h;exact absurd h (by decide)
 by_cases g5:norm (Xfj (Xma src dst 6 b.length++b))≠65535
 ·rw [if_neg g0,if_neg g1,if_neg g2,if_neg g3,if_neg g4,if_pos g5] at h;exact absurd h (by decide)
 by_cases g6:(XnU ((b.drop 20).take ((4*(vK b 12 1/16)).toNat - 20))).2≠0
 ·rw [if_neg g0,if_neg g1,if_neg g2,if_neg g3,if_neg g4,if_neg g5,if_pos g6] at h;exact absurd h g6
 rw [if_neg g0,if_neg g1,if_neg g2,if_neg g3,if_neg g4,if_neg g5,if_neg g6]
 simp only [List.length_take,List.length_drop]
 omega
theorem Xvz {s:List UInt8} (hs:s.length<2^19):Xfp s=some ((Xbn s).1,((Xbn s).2.1:Int),((Xbn s).2.2.1:Int),(Xbn s).2.2.2):=by
 unfold Xfp XnA
 have hz:(⟨⟨0,⟨false,0,0⟩,⟨false,0,0⟩,0,0⟩,0,false,0,0,false,[],0⟩:Xam)=zP:=rfl
 rw [hz]
 simp only []
 by_cases g1:9000<s.length
 ·have hT:Xbn s=(zP,0,0,5):=by unfold Xbn;rw [if_pos g1]
  rw [XaP (by omega),hT];rfl
 rw [XaK (by omega)]
 by_cases g2:s=[]
 ·subst g2;rfl
 rw [show (s==[])=false by simpa using g2,cond_false,XMv hs g2,Option.bind_some]
 by_cases g3:(Xm4 s).2=0
 ·rw [show ((Xm4 s).2 !=0)=false by simpa using g3,cond_false]
  have bs:(Xm4 s).1.body.length≤s.length∧0≤(Xm4 s).1.size∧(Xm4 s).1.size≤40+(s.length:Int):=by
   obtain ⟨b1,b2⟩:=Xvu s
   have b3:=XFG s
   unfold Xm4
   split
   ·exact ⟨b2,by simp only [];omega,by simp only [];omega⟩
   split
   ·exact ⟨b3,by simp only [];omega,by simp only [];omega⟩
   ·exact ⟨by simp,by simp only [];omega,by simp only [];omega⟩
  rw [XdT (n:=(Xm4 s).1.size+((Xm4 s).1.body.length:Int)) (by omega) (by omega)]
  by_cases gl:(Xm4 s).1.size+((Xm4 s).1.body.length:Int)=(s.length:Int)
  ·obtain ⟨k1,k2⟩:=XOE g3 gl
   rw [show ((Xm4 s).1.size+((Xm4 s).1.body.length:Int) !=(s.length:Int))=false by simpa using gl,k2]
   simp only [cond_false]
   obtain ⟨a1,a2⟩:=XtG s
   have hb:=Xqb k1
   have hE:(XhW (XbA s) s.length).2.2≠0→Xbn s=(zP,0,0,(XhW (XbA s) s.length).2.2):=fun g4=>by
    unfold Xbn;rw [if_neg g1,if_neg g2,if_neg (by simpa using k1),if_pos g4]
   have hO:(XhW (XbA s) s.length).2.2=0→Xbn s=((XhW (XbA s) s.length).1,s.length - (XbA s).body.length,s.length - (XhW (XbA s) s.length).2.1,0):=fun g4=>by
    unfold Xbn;rw [if_neg g1,if_neg g2,if_neg (by simpa using k1),if_neg (by simpa using g4)]
   generalize hO':XbA s=o at *
   by_cases p6:o.proto=6
   ·rw [show (o.proto==6)=true by simpa using p6,cond_true,XD7 a1 a2 (by omega),Option.bind_some]
    by_cases g:(Xky o.body o.src o.dst).2.2=0
    ·have hl7:=XHa g
     have hin:XhW o s.length=(⟨⟨o.proto,o.src,o.dst,(Xky o.body o.src o.dst).1.SPort,(Xky o.body o.src o.dst).1.DPort⟩,(Xky o.body o.src o.dst).1.Flags,(XEb (Xky o.body o.src o.dst).1.Options).1,(XEb (Xky o.body o.src o.dst).1.Options).2.1,(XEb (Xky o.body o.src o.dst).1.Options).2.2,false,[],s.length⟩,(Xky o.body o.src o.dst).2.1.length,0):=by
      unfold XhW;rw [if_pos p6,if_neg (by simpa using g)]
     rw [hO (by rw [hin]),hin]
     rw [show ((Xky o.body o.src o.dst).2.2 !=0)=false by simpa using g,cond_false,XLz (by omega),Option.bind_some]
     simp only []
     rw [XdT (n:=(o.size:Int)+20) (by omega) (by omega),XdT (n:=(o.size:Int)+20+((Xky o.body o.src o.dst).1.Options.length:Int)) (by omega) (by omega),show ((s.length - o.body.length:Nat):Int)=(o.size:Int) by omega,show ((s.length - (Xky o.body o.src o.dst).2.1.length:Nat):Int)=(o.size:Int)+20+((Xky o.body o.src o.dst).1.Options.length:Int) by omega]
     unfold XEb
     by_cases g5:0≤(XmA (Xky o.body o.src o.dst).1.Options).2.2
     ·rw [if_pos g5,XaP (by omega)]
     ·rw [if_neg g5,XaK (by omega)]
    ·have hin:XhW o s.length=(zP,0,(Xky o.body o.src o.dst).2.2):=by
      unfold XhW;rw [if_pos p6,if_pos g]
     rw [hE (by rw [hin];exact g),hin,show ((Xky o.body o.src o.dst).2.2 !=0)=true by simpa using g];rfl
   ·rw [show (o.proto==6)=false by simpa using p6,cond_false]
    by_cases p17:o.proto=17
    ·rw [show (o.proto !=17)=false by simpa using p17,cond_false,XDG a1 a2 (by omega),Option.bind_some]
     by_cases g:(XjH o.body o.src o.dst).2.2=0
     ·have hb8:(XjH o.body o.src o.dst).2.1.length≤o.body.length:=by
       unfold XjH
       repeat' split
       all_goals simp
       all_goals omega
      rw [show ((XjH o.body o.src o.dst).2.2 !=0)=false by simpa using g,cond_false]
      rw [XdT (n:=((XjH o.body o.src o.dst).2.1.length:Int)+8) (by omega) (by omega)]
      by_cases g6:(XjH o.body o.src o.dst).2.1.length+8=o.body.length
      ·have hin:XhW o s.length=(⟨⟨o.proto,o.src,o.dst,(XjH o.body o.src o.dst).1.SPort,(XjH o.body o.src o.dst).1.DPort⟩,0,false,0,0,(Xxy (XjH o.body o.src o.dst).2.1).1,(Xxy (XjH o.body o.src o.dst).2.1).2,s.length⟩,(XjH o.body o.src o.dst).2.1.length,0):=by
        unfold XhW;rw [if_neg p6,if_pos p17,if_neg (by simpa using g),if_neg (by simpa using g6)]
       rw [hO (by rw [hin]),hin,show (((XjH o.body o.src o.dst).2.1.length:Int)+8 !=(o.body.length:Int))=false by simp;omega,cond_false,XvP (by omega),Option.bind_some,XdT (n:=(o.size:Int)+8) (by omega) (by omega)]
       simp only []
       rw [show ((s.length - o.body.length:Nat):Int)=(o.size:Int) by omega,show ((s.length - (XjH o.body o.src o.dst).2.1.length:Nat):Int)=(o.size:Int)+8 by omega]
       unfold Xxy
       by_cases g5:(Xn4 (XjH o.body o.src o.dst).2.1).2=0
       ·rw [if_pos g5,show ((Xn4 (XjH o.body o.src o.dst).2.1).2==0)=true by simpa using g5,cond_true]
       ·rw [if_neg g5,show ((Xn4 (XjH o.body o.src o.dst).2.1).2==0)=false by simpa using g5,cond_false]
      ·have hin:XhW o s.length=(zP,0,5):=by
        unfold XhW;rw [if_neg p6,if_pos p17,if_neg (by simpa using g),if_pos g6]
       rw [hE (by rw [hin];decide),hin,show (((XjH o.body o.src o.dst).2.1.length:Int)+8 !=(o.body.length:Int))=true by simp;omega];rfl
     ·have hin:XhW o s.length=(zP,0,(XjH o.body o.src o.dst).2.2):=by
       unfold XhW;rw [if_neg p6,if_pos p17,if_pos g]
      rw [hE (by rw [hin];exact g),hin,show ((XjH o.body o.src o.dst).2.2 !=0)=true by simpa using g];rfl
    ·have hin:XhW o s.length=(zP,0,6):=by
      unfold XhW;rw [if_neg p6,if_neg p17]
     rw [hE (by rw [hin];decide),hin,show (o.proto !=17)=true by simpa using p17];rfl
  ·have hT:Xbn s=(zP,0,0,5):=by
    have e:=Xzc g3 gl
    unfold Xbn;rw [if_neg g1,if_neg g2,if_pos (by rw [e];decide),e]
   rw [hT,show ((Xm4 s).1.size+((Xm4 s).1.body.length:Int) !=(s.length:Int))=true by simpa using gl];rfl
 ·have hT:Xbn s=(zP,0,0,(Xm4 s).2):=by
   have e:=XFp g3
   unfold Xbn;rw [if_neg g1,if_neg g2,if_pos (by rw [e];exact g3),e]
  rw [hT,show ((Xm4 s).2 !=0)=true by simpa using g3];rfl
theorem XpE {s:List UInt8} (hs:s.length<2^19):XbT s=some ((Xbn s).1,(Xbn s).2.2.2):=by
 unfold XbT Xmn
 rw [Xvz hs,Option.bind_some]
theorem Xx4 {s:List UInt8} (hs:s.length<2^19):Xki s=some (((Xbn s).2.1:Int),((Xbn s).2.2.1:Int),(Xbn s).2.2.2):=by
 unfold Xki Xq5
 rw [Xvz hs,Option.bind_some]
theorem Xs1 {t:Xag} {b:List UInt8} (h1:A4 t.Src) (h2:A4 t.Dst) (hb:b.length<2^20):Xcv t b=some (Xg6 t b):=by
 unfold Xcv XkR
 have key:(t.Proto=6∨t.Proto=17)→(cond (!(t.Src.V6==t.Dst.V6)) (some (([],1):List UInt8×Int))
  ((XaC t.Src).bind fun xr=>cond (!xr) (some ([],1)) ((XaC t.Dst).bind fun xr1=>cond (!xr1) (some ([],1))
    (cond t.Src.V6
      ((XeU (Xaq.mk 0 0 t.Proto 64 t.Src t.Dst) b).bind fun p=>cond (p.2==0) (cond (decide ((p.1.length:Int)>9000)) (some ([],5)) (some (p.1,p.2))) (some (p.1,p.2)))
      ((Xeo (Xal.mk 0 0 true 64 t.Proto t.Src t.Dst []) b).bind fun p1=>cond (p1.2==0) (cond (decide ((p1.1.length:Int)>9000)) (some ([],5)) (some (p1.1,p1.2))) (some (p1.1,p1.2)))))))=some (Xg6 t b):=by
  intro hp
  unfold Xg6
  by_cases g1:t.Src.V6=t.Dst.V6
  ·rw [show (!(t.Src.V6==t.Dst.V6))=false by simp [g1],cond_false,Xkp,Xkp,Option.bind_some,Option.bind_some]
   cases g2:aok t.Src
   ·rw [if_pos (.inr (.inl rfl))];rfl
   cases g3:aok t.Dst
   ·rw [if_pos (.inr (.inr (.inl rfl)))];rfl
   rw [Bool.not_true,cond_false,cond_false,XP2 (h:=⟨0,0,t.Proto,64,t.Src,t.Dst⟩) h1.Xri h2.Xri (by omega),p5_eq (h:=⟨0,0,true,64,t.Proto,t.Src,t.Dst,[]⟩) h1 h2 (by omega) (by simp)]
   simp only [Option.bind_some,XQ5]
   rw [if_neg (show ¬ (t.Src.V6≠t.Dst.V6∨true=false∨true=false∨(t.Proto≠6∧t.Proto≠17)) from fun h=>h.elim (fun x=>x g1) fun h=>h.elim (fun x=>by cases x) fun h=>h.elim (fun x=>by cases x) fun x=>by omega)]
   unfold XnL Xk7 XnS
   cases t.Src.V6<;>rfl
  ·rw [show (!(t.Src.V6==t.Dst.V6))=true by simp [g1],cond_true,if_pos (.inl g1)]
 by_cases p6:t.Proto=6
 ·rw [show (t.Proto==6)=true by simpa using p6,cond_true];exact key (.inl p6)
 ·rw [show (t.Proto==6)=false by simpa using p6,cond_false]
  by_cases p17:t.Proto=17
  ·rw [show (!(t.Proto==17))=false by simp [p17],cond_false];exact key (.inr p17)
  ·rw [show (!(t.Proto==17))=true by simp [p17],cond_true]
   unfold Xg6
   rw [if_pos (.inr (.inr (.inr ⟨p6,p17⟩)))]
theorem Xtu {t:Xag} {flags:Int} {o l:List UInt8} (h1:A4 t.Src) (h2:A4 t.Dst) (ho:o.length<2^18) (hl:l.length<2^18):Xbs t flags o l=some (XwJ t flags o l):=by
 unfold Xbs Xh5 XwJ
 by_cases g:t.Proto=6
 ·have hw:W7 ⟨t.SPort,t.DPort,0,0,flags,65535,0,o⟩:=⟨⟨by simp only [];omega,by simp only [];omega⟩,by simp only [];omega,by simp only [];omega⟩
  have hlen:=XvO ⟨t.SPort,t.DPort,0,0,flags,65535,0,o⟩ t.Src t.Dst l
  simp only at hlen
  rw [show (t.Proto !=6)=false by simpa using g,cond_false,XDA hw h1 h2 (by omega) (by simp only [];omega),Option.bind_some,if_neg (by simpa using g)]
  by_cases g2:(Xuy ⟨t.SPort,t.DPort,0,0,flags,65535,0,o⟩ t.Src t.Dst l).2=0
  ·rw [show ((Xuy ⟨t.SPort,t.DPort,0,0,flags,65535,0,o⟩ t.Src t.Dst l).2 !=0)=false by simpa using g2,cond_false,if_neg (by simpa using g2),Xs1 h1 h2 (by omega)];rfl
  ·rw [show ((Xuy ⟨t.SPort,t.DPort,0,0,flags,65535,0,o⟩ t.Src t.Dst l).2 !=0)=true by simpa using g2,cond_true,if_pos g2]
 ·rw [show (t.Proto !=6)=true by simpa using g,cond_true,if_pos g]
theorem XzJ {t:Xag} {l:List UInt8} (h1:A4 t.Src) (h2:A4 t.Dst) (hl:l.length<2^18):Xcz t l=some (Xjk t l):=by
 unfold Xcz Xhm Xjk
 by_cases g:t.Proto=17
 ·have hlen:=Xr9 ⟨t.SPort,t.DPort⟩ t.Src t.Dst l
  rw [show (t.Proto !=17)=false by simpa using g,cond_false,XOe h1 h2 (by omega),Option.bind_some,if_neg (by simpa using g)]
  by_cases g2:(Xmq ⟨t.SPort,t.DPort⟩ t.Src t.Dst l).2=0
  ·rw [show ((Xmq ⟨t.SPort,t.DPort⟩ t.Src t.Dst l).2 !=0)=false by simpa using g2,cond_false,if_neg (by simpa using g2),Xs1 h1 h2 (by omega)];rfl
  ·rw [show ((Xmq ⟨t.SPort,t.DPort⟩ t.Src t.Dst l).2 !=0)=true by simpa using g2,cond_true,if_pos g2]
 ·rw [show (t.Proto !=17)=true by simpa using g,cond_true,if_pos g]
end Go.Vm.Code
namespace Go.Vm.Code
open Go Go.Vm Go.Proofs
set_option maxRecDepth 100000
set_option maxHeartbeats 4000000
set_option linter.unusedVariables false
def XrJ (n:Int) (most:Int):Option Bool:=
 cond (decide (n≥0))
  (
  some (decide (n≤most)))
  (
  some (false))
def rx58 (x:Bool):XcU:=⟨.bool x,[],[]⟩
abbrev XiS:=Int→Int→Option Bool
def r58 (g:XiS):Dec:=dV (asI .i64) fun (y0:Int)=>dV (asI .i64) fun (y1:Int)=>XdX (ofG (g y0 y1) rx58)
theorem r58_c {g:XiS} {y0:Int} {y1:Int} {x:Bool} (hx:g y0 y1=some x):r58 g [.int .i64 y0,.int .i64 y1] []=some (rx58 x):=(XaS (XeL _)).trans ((XaS (XeL _)).trans (XaQ hx))
def s58 (g:XiS):XbE:=⟨[.v,.v],r58 g⟩
theorem XTL {g:XiS} {y0:Int} {y1:Int} {x:Bool} (hx:g y0 y1=some x):(s58 g).run [.int .i64 y0,.int .i64 y1] []=some (rx58 x):=r58_c hx
abbrev XUZ:List (Nat×XbE):=[]
theorem XLA (hS:Xak Tryz.prog (XaD (XUZ))) (n:Int) (most:Int) (res:Bool) (h:XrJ n most=some res) :
 XaG Tryz.prog 58 0 ⟨⟨58,12,[(0,.int .i64 n),(1,.int .i64 most)],[.code XVc],[],false,none⟩,[],[],0⟩ (fun v H _=>Res 0 (rx58 res) v H):=by
 unfold XrJ at h
 refine Xa6 XaE hS true 3000 ?_
 conv=>whnf
 exact W
def XjF:XiS:=XrJ
theorem XVE:XbM Tryz.prog 58 (s58 XjF):=by
 have hL:=XLA (Xak.XaM trivial)
 exact okA ⟨Tryz.f58,rfl,by decide,rfl⟩
def Xmj (XaN:Xce) (XjF:XiS) (t:Xag):Option Bool:=
 (XjF t.Proto 255).bind fun i=>
 cond (i)
  (
  (XaN t.Src).bind fun xr=>
  cond (xr)
   (
   (XaN t.Dst).bind fun xr1=>
   cond (xr1)
    (
    cond (t.Src.V6==t.Dst.V6)
     (
     (XjF t.SPort 65535).bind fun i1=>
     cond (i1)
      (
      (XjF t.DPort 65535).bind fun i2=>
      some (i2))
      (
      some (false)))
     (
     some (false)))
    (
    some (false)))
   (
   some (false)))
  (
  some (false))
def rx23 (x:Bool):XcU:=⟨.bool x,[],[]⟩
abbrev Xfg:=Xag→Option Bool
def r23 (g:Xfg):Dec:=dV Xd6 fun (y0:Xag)=>XdX (ofG (g y0) rx23)
theorem r23_c {g:Xfg} {y0:Xag} {x:Bool} (hx:g y0=some x):r23 g [.agg ⟨[.int .i64 y0.Proto,.bool y0.Src.V6,.int .u64 y0.Src.Hi,.int .u64 y0.Src.Lo,.bool y0.Dst.V6,.int .u64 y0.Dst.Hi,.int .u64 y0.Dst.Lo,.int .i64 y0.SPort,.int .i64 y0.DPort]⟩] []=some (rx23 x):=(XaS (Xer _)).trans (XaQ hx)
def s23 (g:Xfg):XbE:=⟨[.v],r23 g⟩
theorem XTs {g:Xfg} {y0:Xag} {x:Bool} (hx:g y0=some x):(s23 g).run [.agg ⟨[.int .i64 y0.Proto,.bool y0.Src.V6,.int .u64 y0.Src.Hi,.int .u64 y0.Src.Lo,.bool y0.Dst.V6,.int .u64 y0.Dst.Hi,.int .u64 y0.Dst.Lo,.int .i64 y0.SPort,.int .i64 y0.DPort]⟩] []=some (rx23 x):=r23_c hx
abbrev XQv (XaN:Xce) (XjF:XiS):List (Nat×XbE):=[(59,s59 XaN),(58,s58 XjF)]
theorem XNN (XaN:Xce) (XjF:XiS) (hS:Xak Tryz.prog (XaD (XQv XaN XjF))) (t:Xag) (res:Bool) (h:Xmj XaN XjF t=some res) :
 XaG Tryz.prog 23 0 ⟨⟨23,35,[(0,.agg ⟨[.int .i64 t.Proto,.bool t.Src.V6,.int .u64 t.Src.Hi,.int .u64 t.Src.Lo,.bool t.Dst.V6,.int .u64 t.Dst.Hi,.int .u64 t.Dst.Lo,.int .i64 t.SPort,.int .i64 t.DPort]⟩)],[.code XTN],[],false,none⟩,[],[],0⟩ (fun v H _=>Res 0 (rx23 res) v H):=by
 unfold Xmj at h
 have R1:=@XTL XjF
 have R2:=@Xtd XaN
 refine Xa6 XaE hS true 3000 ?_
 conv=>whnf
 exact W
def Xfi:Xfg:=Xmj XaN XjF
theorem lift23:XbM Tryz.prog 23 (s23 Xfi):=by
 have hL:=XNN XaN XjF (Xak.XaM ⟨XtI,XVE,trivial⟩)
 exact okA ⟨Tryz.f23,rfl,by decide,rfl⟩
def XfJ (most:Int) (l:List Int) (t9:Int):Option (Sum Int Bool):=
 cond (decide (t9<(l.length:Int)))
  (
  Xbh (decide ((0:Int)≤t9∧t9<(l.length:Int))) <|
  (l[t9.toNat]?).bind fun (e:Int)=>
  cond (decide (e<0))
   (
   some (.inr (false)))
   (
   cond (decide (e>most))
    (
    some (.inr (false)))
    (
    some (.inl (wI .i64 (t9+1))))))
  (
  some (.inr (true)))
def Xjd (most:Int) (l:List Int):Option Bool:=
 iter (fun st=>XfJ most l st) FUEL 0
def Xwp (x:Bool):XcU:=⟨.bool x,[],[none]⟩
abbrev Xeu:=Int→(List Int)→Option Bool
def r109 (g:Xeu):Dec:=dV (asI .i64) fun (y0:Int)=>dSl 0 1 (unL (asI .i64)) fun (y1:List Int)=>XdX (ofG (g y0 y1) Xwp)
theorem XVp {g:Xeu} {y0:Int} {y1:List Int} {x:Bool} (hx:g y0 y1=some x):r109 g [.int .i64 y0,.slice (some ⟨0,0,none⟩) y1.length 1] [some (vI .i64 y1)]=some (Xwp x):=(XaS (XeL _)).trans ((Xwb (XvV _ _)).trans (XaQ hx))
def s109 (g:Xeu):XbE:=⟨[.v,.sl 1],r109 g⟩
theorem XKw {g:Xeu} {y0:Int} {y1:List Int} {x:Bool} (hx:g y0 y1=some x):(s109 g).run [.int .i64 y0,.slice (some ⟨0,0,none⟩) y1.length 1] [some (vI .i64 y1)]=some (Xwp x):=XVp hx
abbrev XxB:List (Nat×XbE):=[]
def XlA (most:Int) (l:List Int) (t9:Int):VM:=
 ⟨⟨109,21,[(0,.int .i64 most),(7,.slice (some ⟨0,0,none⟩) l.length 1),(8,.int .i64 (l.length:Int)),(9,.int .i64 t9)],[.code Xuu,.inLoop Xuu,.inBlock 0,.code Xyw],[],false,none⟩,[],[(0,.row false (vI .i64 l))],1⟩
theorem Xx0 (hS:Xak Tryz.prog (XaD (XxB))) (most:Int) (l:List Int) (res:Bool):∀ fuel (st:Int) (o:Bool),iter (fun st=>XfJ most l st) fuel st=some o→(o=res) →
 XaG Tryz.prog 109 1 (XlA most l st) (fun v H _=>Res 1 (Xwp res) v H):=by
 intro fuel st o h hc
 refine Xde (head:=fun st=>XlA most l st) (C:=fun o=>(o=res)) ?_ fuel st o h hc
 clear h hc o st fuel
 intro t9 o h hc
 replace h:XfJ most l t9=some o:=h
 show XaG Tryz.prog 109 1 (XlA most l t9) (fun v H _=>Res 1 (Xwp res) v H)
 unfold XfJ at h
 refine Xa6 XaE hS true 3000 ?_
 conv=>whnf
 refine br.h2 h (by rfl) ?_ ?_
 ·clear h;intro hb h;conv=>whnf
  exact W
 clear h;intro hb h;conv=>whnf
 replace h:=Xbh.elim h;obtain ⟨hb,h⟩:=h
 try (refine req.intro hb ?_;conv=>whnf)
 replace h:=Xdg.elim h;obtain ⟨e,hy,h⟩:=h
 refine rd.I hy (by first|rfl|(rw [Nat.zero_add,Nat.mul_one];try rfl;done)|omega) ?_
 conv=>whnf
 refine br.h h (by rfl) ?_ ?_
 ·clear h;intro hb h;conv=>whnf
  exact W
 clear h;intro hb h;conv=>whnf
 refine br.h h (by rfl) ?_ ?_
 ·clear h;intro hb h;conv=>whnf
  exact W
 clear h;intro hb h;conv=>whnf
 cases h;simp only [Sum.elim_inl,XlA] at hc
 exact Xmp hc [(0,0)] rfl
theorem XEg (hS:Xak Tryz.prog (XaD (XxB))) (most:Int) (l:List Int) (res:Bool) (h:Xjd most l=some res) :
 XaG Tryz.prog 109 1 ⟨⟨109,21,[(0,.int .i64 most),(1,.slice (some ⟨0,0,none⟩) l.length 1)],[.code XxT],[],false,none⟩,[],[(0,.row false (vI .i64 l))],1⟩ (fun v H _=>Res 1 (Xwp res) v H):=by
 unfold Xjd at h
 refine Xa6 XaE hS true 3000 ?_
 conv=>whnf
 have hl:=Xx0 hS _ _ res _ _ _ h rfl;simp only [XlA] at hl
 exact Xmp hl [(0,0)] rfl
def Xdp:Xeu:=Xjd
theorem XLx:XbM Tryz.prog 109 (s109 Xdp):=by
 have hL:=XEg (Xak.XaM trivial)
 exact okA ⟨Tryz.f109,rfl,by decide,rfl⟩
def XjN (XaC:XbW) (Xdp:Xeu) (t:Xag):Option Bool:=
 (Xdp 255 [t.Proto]).bind fun w=>
 cond (w)
  (
  (Xdp 65535 [t.SPort,t.DPort]).bind fun w1=>
  cond (w1)
   (
   (XaC t.Src).bind fun xr=>
   cond (xr)
    (
    (XaC t.Dst).bind fun xr1=>
    cond (xr1)
     (
     some (t.Src.V6==t.Dst.V6))
     (
     some (false)))
    (
    some (false)))
   (
   some (false)))
  (
  some (false))
def rx67 (x:Bool):XcU:=⟨.bool x,[],[]⟩
abbrev Xc3:=Xag→Option Bool
def r67 (g:Xc3):Dec:=dV Xd6 fun (y0:Xag)=>XdX (ofG (g y0) rx67)
theorem r67_c {g:Xc3} {y0:Xag} {x:Bool} (hx:g y0=some x):r67 g [.agg ⟨[.int .i64 y0.Proto,.bool y0.Src.V6,.int .u64 y0.Src.Hi,.int .u64 y0.Src.Lo,.bool y0.Dst.V6,.int .u64 y0.Dst.Hi,.int .u64 y0.Dst.Lo,.int .i64 y0.SPort,.int .i64 y0.DPort]⟩] []=some (rx67 x):=(XaS (Xer _)).trans (XaQ hx)
def s67 (g:Xc3):XbE:=⟨[.v],r67 g⟩
theorem XJB {g:Xc3} {y0:Xag} {x:Bool} (hx:g y0=some x):(s67 g).run [.agg ⟨[.int .i64 y0.Proto,.bool y0.Src.V6,.int .u64 y0.Src.Hi,.int .u64 y0.Src.Lo,.bool y0.Dst.V6,.int .u64 y0.Dst.Hi,.int .u64 y0.Dst.Lo,.int .i64 y0.SPort,.int .i64 y0.DPort]⟩] []=some (rx67 x):=r67_c hx
abbrev XWA (XaC:XbW) (Xdp:Xeu):List (Nat×XbE):=[(110,XKN XaC),(109,s109 Xdp)]
theorem XNu (XaC:XbW) (Xdp:Xeu) (hS:Xak Tryz.prog (XaD (XWA XaC Xdp))) (t:Xag) (res:Bool) (h:XjN XaC Xdp t=some res) :
 XaG Tryz.prog 67 0 ⟨⟨67,34,[(0,.agg ⟨[.int .i64 t.Proto,.bool t.Src.V6,.int .u64 t.Src.Hi,.int .u64 t.Src.Lo,.bool t.Dst.V6,.int .u64 t.Dst.Hi,.int .u64 t.Dst.Lo,.int .i64 t.SPort,.int .i64 t.DPort]⟩)],[.code XUQ],[],false,none⟩,[],[],0⟩ (fun v H _=>Res 0 (rx67 res) v H):=by
 unfold XjN at h
 have R1:=@XKw Xdp
 have R2:=@Xp8 XaC
 refine Xa6 XaE hS true 3000 ?_
 conv=>whnf
 exact W
def XbS:Xc3:=XjN XaC Xdp
theorem XUI:XbM Tryz.prog 67 (s67 XbS):=by
 have hL:=XNu XaC Xdp (Xak.XaM ⟨XpD,XLx,trivial⟩)
 exact okA ⟨Tryz.f67,rfl,by decide,rfl⟩
end Go.Vm.Code
namespace Go.Vm.Code
open Go Go.Vm
def adr (a:Xaa):Bool:=a.V6||(decide (a.Hi=0)&&decide (a.Lo<4294967296))
theorem Xoy (a:Xaa):XaC a=some (adr a):=by
 unfold XaC Xiw adr
 cases a.V6 with
 | true=>rfl
 | false=>
   rw [cond_false,Bool.false_or]
   by_cases h:a.Hi=0
   ·rw [h];rfl
   ·rw [beq_eq_false_iff_ne.2 h,cond_false,decide_eq_false h];rfl
theorem XqD (a:Xaa):XaN a=some (adr a):=Xoy a
def XGH (t:Xag):Bool:=decide (0≤t.Proto∧t.Proto≤255)&&(decide (0≤t.SPort∧t.SPort≤65535)&&(decide (0≤t.DPort∧t.DPort≤65535)&&(adr t.Src&&(adr t.Dst&&(t.Src.V6==t.Dst.V6)))))
theorem Xqe {m:Int} {l:List Int} (hl:l.length<2^40):Xdp m l=some (l.all fun e=>decide (0≤e∧e≤m)):=by
 unfold Xdp Xjd
 have key:=iter_eq (step:=fun (st:Int)=>XfJ m l st) (fun st=>(l.drop st.toNat).all fun e=>decide (0≤e∧e≤m)) (fun st=>0≤st∧st≤l.length) (fun st=>(l.length - st).toNat) ?_ FUEL 0 ⟨by omega,by omega⟩ (by rw [XgM];omega)
 ·rw [key];simp
 rintro p ⟨g1,g2⟩
 obtain ⟨i,rfl⟩:=Int.eq_ofNat_of_zero_le g1
 simp only [Int.toNat_natCast]
 unfold XfJ
 by_cases hi:i<l.length
 ·have e1:((l.drop i).all fun e=>decide (0≤e∧e≤m))=(decide (0≤l[i]∧l[i]≤m)&&(l.drop (i+1)).all fun e=>decide (0≤e∧e≤m)):=by rw [List.drop_eq_getElem_cons hi];rfl
  by_cases h1:l[i]<0
  ·refine .inl ?_
   simp (disch:=omega) only [XaP,Xar,Int.toNat_natCast,List.getElem?_eq_getElem,Option.bind_some]
   rw [e1,decide_eq_false (by omega)];rfl
  ·by_cases h2:l[i]>m
   ·refine .inl ?_
    simp (disch:=omega) only [XaP,XaK,Xar,Int.toNat_natCast,List.getElem?_eq_getElem,Option.bind_some]
    rw [e1,decide_eq_false (by omega)];rfl
   ·refine .inr ⟨((i+1:Nat):Int),?_,⟨by omega,by omega⟩,by omega,?_⟩
    ·simp (disch:=omega) only [XaP,XaK,Xar,Int.toNat_natCast,List.getElem?_eq_getElem,Option.bind_some,XdT];rfl
    ·simp only [Int.toNat_natCast]
     rw [e1,decide_eq_true (by omega),Bool.true_and]
 ·refine .inl ?_
  rw [XaK (by omega),List.drop_eq_nil_of_le (by omega)];rfl
theorem XyK (t:Xag):XbS t=some (XGH t):=by
 unfold XbS XjN XGH
 rw [Xqe (by simp),Xqe (by simp),Xoy,Xoy]
 simp only [Option.bind_some,List.all_cons,List.all_nil,Bool.and_true]
 generalize decide (0≤t.Proto∧t.Proto≤255)=a
 generalize decide (0≤t.SPort∧t.SPort≤65535)=b
 generalize decide (0≤t.DPort∧t.DPort≤65535)=c
 generalize adr t.Src=d
 generalize adr t.Dst=e
 cases a<;>cases b<;>cases c<;>cases d<;>cases e<;>rfl
theorem Xqc (n m:Int):XjF n m=some (decide (0≤n∧n≤m)):=by
 unfold XjF XrJ
 by_cases h:n≥0
 ·rw [XaP h];congr 1;rw [Bool.eq_iff_iff,decide_eq_true_eq,decide_eq_true_eq];omega
 ·rw [XaK h];congr 1;symm;exact decide_eq_false (by omega)
theorem XwT (t:Xag):Xfi t=some (XGH t):=by
 unfold Xfi Xmj XGH
 rw [Xqc,Xqc,Xqc,XqD,XqD]
 simp only [Option.bind_some]
 generalize decide (0≤t.Proto∧t.Proto≤255)=a
 generalize decide (0≤t.SPort∧t.SPort≤65535)=b
 generalize decide (0≤t.DPort∧t.DPort≤65535)=c
 generalize adr t.Src=d
 generalize adr t.Dst=e
 generalize (t.Src.V6==t.Dst.V6)=f
 cases a<;>cases b<;>cases c<;>cases d<;>cases e<;>cases f<;>rfl
theorem XEY {t:Xag} (h:XGH t=true):(0≤t.Proto∧t.Proto≤255)∧(0≤t.SPort∧t.SPort≤65535)∧(0≤t.DPort∧t.DPort≤65535)∧adr t.Src=true∧adr t.Dst=true:=by
 unfold XGH at h
 simp only [Bool.and_eq_true,decide_eq_true_eq] at h
 exact ⟨h.1,h.2.1,h.2.2.1,h.2.2.2.1,h.2.2.2.2.1⟩
end Go.Vm.Code
namespace Go.Vm.Code
open Go Go.Vm Go.Proofs
set_option maxRecDepth 100000
set_option maxHeartbeats 4000000
set_option linter.unusedVariables false
def XfK:Option Bool:=
 some (false)
def XHe (x:Bool):XcU:=⟨.bool x,[],[none]⟩
abbrev Xan:=Option Bool
def r72n (g:Xan):Dec:=dNl 1<|XdX (ofG (g) XHe)
theorem XRY {g:Xan} {x:Bool} (hx:g=some x):r72n g [.pointer none] [none]=some (XHe x):=(XC3).trans (XaQ hx)
abbrev XLY:List (Nat×XbE):=[]
theorem XC0 (hS:Xak Tryz.prog (XaD (XLY))) (res:Bool) (h:XfK=some res) :
 XaG Tryz.prog 72 1 ⟨⟨72,13,[(0,.pointer none)],[.code XMc],[],false,none⟩,[],[],1⟩ (fun v H _=>Res 1 (XHe res) v H):=by
 unfold XfK at h
 refine Xa6 XaE hS true 3000 ?_
 conv=>whnf
 exact W
def Xft (c:Xab):Option (Bool×Xab):=
 Option.elim c.v_.say
  (
  some ((false,Xab.mk c.t (Xbj.mk c.v_.hello none c.v_.hear) c.clock c.echo c.id_)))
  (fun n=>
  some ((true,Xab.mk c.t (Xbj.mk c.v_.hello (some n) c.v_.hear) c.clock c.echo c.id_)))
def rx72 (x:Bool×Xab):XcU:=⟨.bool x.1,[],[some [.int .i64 x.2.t.Proto,.bool x.2.t.Src.V6,.int .u64 x.2.t.Src.Hi,.int .u64 x.2.t.Src.Lo,.bool x.2.t.Dst.V6,.int .u64 x.2.t.Dst.Hi,.int .u64 x.2.t.Dst.Lo,.int .i64 x.2.t.SPort,.int .i64 x.2.t.DPort,fvV x.2.v_.hello,fvV x.2.v_.say,fvV x.2.v_.hear,.int .u32 x.2.clock,.int .u32 x.2.echo,.string ⟨⟨x.2.id_⟩⟩]]⟩
abbrev Xap:=Xab→Option (Bool×Xab)
def r72 (g:Xap):Dec:=dPt 0 XbU fun (y0:Xab)=>XdX (ofG (g y0) rx72)
theorem r72_c {g:Xap} {y0:Xab} {x:Bool×Xab} (hx:g y0=some x):r72 g [.pointer (some ⟨0,0,none⟩)] [some [.int .i64 y0.t.Proto,.bool y0.t.Src.V6,.int .u64 y0.t.Src.Hi,.int .u64 y0.t.Src.Lo,.bool y0.t.Dst.V6,.int .u64 y0.t.Dst.Hi,.int .u64 y0.t.Dst.Lo,.int .i64 y0.t.SPort,.int .i64 y0.t.DPort,fvV y0.v_.hello,fvV y0.v_.say,fvV y0.v_.hear,.int .u32 y0.clock,.int .u32 y0.echo,.string ⟨⟨y0.id_⟩⟩]]=some (rx72 x):=(Xie (Xch _)).trans (XaQ hx)
def s72 (g:Xap) (g2:Xan):XbE:=⟨[.pt 15],XsB 0 (r72 g) (r72n g2)⟩
theorem Xtn {g:Xap} {g2:Xan} {y0:Xab} {x:Bool×Xab} (hx:g y0=some x):(s72 g g2).run [.pointer (some ⟨0,0,none⟩)] [some [.int .i64 y0.t.Proto,.bool y0.t.Src.V6,.int .u64 y0.t.Src.Hi,.int .u64 y0.t.Src.Lo,.bool y0.t.Dst.V6,.int .u64 y0.t.Dst.Hi,.int .u64 y0.t.Dst.Lo,.int .i64 y0.t.SPort,.int .i64 y0.t.DPort,fvV y0.v_.hello,fvV y0.v_.say,fvV y0.v_.hear,.int .u32 y0.clock,.int .u32 y0.echo,.string ⟨⟨y0.id_⟩⟩]]=some (rx72 x):=r72_c hx
theorem XuI {g2:Xap} {g:Xan} {x:Bool} (hx:g=some x):(s72 g2 g).run [.pointer none] [none]=some (XHe x):=XRY hx
abbrev XSH:List (Nat×XbE):=[]
theorem XMQ (hS:Xak Tryz.prog (XaD (XSH))) (c:Xab) (res:Bool×Xab) (h:Xft c=some res) :
 XaG Tryz.prog 72 1 ⟨⟨72,13,[(0,.pointer (some ⟨0,0,none⟩))],[.code XMc],[],false,none⟩,[],[(0,.cells [.int .i64 c.t.Proto,.bool c.t.Src.V6,.int .u64 c.t.Src.Hi,.int .u64 c.t.Src.Lo,.bool c.t.Dst.V6,.int .u64 c.t.Dst.Hi,.int .u64 c.t.Dst.Lo,.int .i64 c.t.SPort,.int .i64 c.t.DPort,fvV c.v_.hello,fvV c.v_.say,fvV c.v_.hear,.int .u32 c.clock,.int .u32 c.echo,.string ⟨⟨c.id_⟩⟩])],1⟩ (fun v H _=>Res 1 (rx72 res) v H):=by
 unfold Xft at h
 refine Xa6 XaE hS true 3000 ?_
 conv=>whnf
 exact W
def Xae:Xap:=Xft
def Xac:Xan:=XfK
theorem XoM:XbM Tryz.prog 72 (s72 Xae Xac):=by
 have hL:=XMQ (Xak.XaM trivial);have hN:=XC0 (Xak.XaM trivial)
 exact okA ⟨Tryz.f72,rfl,by decide,rfl⟩
def XgQ (Xbs:Xcx) (Xb4:Xdt) (c:Xab):Option ((List UInt8)×Int×Xab):=
 (Xb4 c.clock 0).bind fun s=>
 (Xbs c.t 2 s []).bind fun s1=>
 some ((s1.1,s1.2,c))
def XGX (x:(List UInt8)×Int×Xab):XcU:=⟨.tuple ⟨[.string ⟨⟨x.1⟩⟩,.int .i64 x.2.1]⟩,[],[some [.int .i64 x.2.2.t.Proto,.bool x.2.2.t.Src.V6,.int .u64 x.2.2.t.Src.Hi,.int .u64 x.2.2.t.Src.Lo,.bool x.2.2.t.Dst.V6,.int .u64 x.2.2.t.Dst.Hi,.int .u64 x.2.2.t.Dst.Lo,.int .i64 x.2.2.t.SPort,.int .i64 x.2.2.t.DPort,fvV x.2.2.v_.hello,fvV x.2.2.v_.say,fvV x.2.2.v_.hear,.int .u32 x.2.2.clock,.int .u32 x.2.2.echo,.string ⟨⟨x.2.2.id_⟩⟩]]⟩
abbrev XcZ:=Xab→Option ((List UInt8)×Int×Xab)
def r117 (g:XcZ):Dec:=dPt 0 XbU fun (y0:Xab)=>XdX (ofG (g y0) XGX)
theorem XRo {g:XcZ} {y0:Xab} {x:(List UInt8)×Int×Xab} (hx:g y0=some x):r117 g [.pointer (some ⟨0,0,none⟩)] [some [.int .i64 y0.t.Proto,.bool y0.t.Src.V6,.int .u64 y0.t.Src.Hi,.int .u64 y0.t.Src.Lo,.bool y0.t.Dst.V6,.int .u64 y0.t.Dst.Hi,.int .u64 y0.t.Dst.Lo,.int .i64 y0.t.SPort,.int .i64 y0.t.DPort,fvV y0.v_.hello,fvV y0.v_.say,fvV y0.v_.hear,.int .u32 y0.clock,.int .u32 y0.echo,.string ⟨⟨y0.id_⟩⟩]]=some (XGX x):=(Xie (Xch _)).trans (XaQ hx)
def s117 (g:XcZ):XbE:=⟨[.pt 15],r117 g⟩
theorem XLd {g:XcZ} {y0:Xab} {x:(List UInt8)×Int×Xab} (hx:g y0=some x):(s117 g).run [.pointer (some ⟨0,0,none⟩)] [some [.int .i64 y0.t.Proto,.bool y0.t.Src.V6,.int .u64 y0.t.Src.Hi,.int .u64 y0.t.Src.Lo,.bool y0.t.Dst.V6,.int .u64 y0.t.Dst.Hi,.int .u64 y0.t.Dst.Lo,.int .i64 y0.t.SPort,.int .i64 y0.t.DPort,fvV y0.v_.hello,fvV y0.v_.say,fvV y0.v_.hear,.int .u32 y0.clock,.int .u32 y0.echo,.string ⟨⟨y0.id_⟩⟩]]=some (XGX x):=XRo hx
abbrev XP9 (Xbs:Xcx) (Xb4:Xdt):List (Nat×XbE):=[(118,s118 Xbs),(119,s119 Xb4)]
theorem XFL (Xbs:Xcx) (Xb4:Xdt) (hS:Xak Tryz.prog (XaD (XP9 Xbs Xb4))) (c:Xab) (res:(List UInt8)×Int×Xab) (h:XgQ Xbs Xb4 c=some res) :
 XaG Tryz.prog 117 1 ⟨⟨117,16,[(0,.pointer (some ⟨0,0,none⟩))],[.code XIs],[],false,none⟩,[],[(0,.cells [.int .i64 c.t.Proto,.bool c.t.Src.V6,.int .u64 c.t.Src.Hi,.int .u64 c.t.Src.Lo,.bool c.t.Dst.V6,.int .u64 c.t.Dst.Hi,.int .u64 c.t.Dst.Lo,.int .i64 c.t.SPort,.int .i64 c.t.DPort,fvV c.v_.hello,fvV c.v_.say,fvV c.v_.hear,.int .u32 c.clock,.int .u32 c.echo,.string ⟨⟨c.id_⟩⟩])],1⟩ (fun v H _=>Res 1 (XGX res) v H):=by
 unfold XgQ at h
 have R1:=@XBw Xb4
 have R2:=@XzO Xbs
 refine Xa6 XaE hS true 3000 ?_
 conv=>whnf
 exact W
def Xcs:XcZ:=XgQ Xbs Xb4
theorem XLn:XbM Tryz.prog 117 (s117 Xcs):=by
 have hL:=XFL Xbs Xb4 (Xak.XaM ⟨XAd,XAv,trivial⟩)
 exact okA ⟨Tryz.f117,rfl,by decide,rfl⟩
end Go.Vm.Code
namespace Go.Vm
open Go Go.RowKit
theorem HpR.below {P:Program} {w0:World} {U:UG} {ρ:Ren} {H:Hp} {top:Nat} {w w':World} (h:HpR P w0 U ρ H top w) (b:Below w.heap.size w w'):HpR P w0 U ρ H top w':=
 ⟨fun i o e=>let ⟨l,hl,ho,hw⟩:=h.obj i o e;⟨l,hl,ho.same (Ext.refl ρ) (fun he=>b.block _ (ho.lt he)),hw⟩,h.dis,h.lt,h.keep.below b⟩
theorem XbM.XCh {P:Program} {f:Nat} {run:List Value→List (Option (List Value))→Option XcU}
 (h:∀ ar r,run ar []=some r→∃ s k n v,ar=[.string s,.int k n]∧r=⟨v,[],[]⟩∧Xbm v=true∧∀ w,Calls P f ⟨ar⟩ w fun e w'=>e=.returned v∧Below w.heap.size w w')
 (hfn : ∃ fn, P.funcs[f]? = some fn ∧ fn.name ≠ "runtime.NumGoroutine" ∧ fn.body.isSome = true) : XbM P f ⟨[.v, .v], run⟩ where
 fn:=hfn
 calls:=by
  intro w0 U ρ H top w vals rvals v H' top' hlo hg hh hv hs
  unfold Xi0 at hs
  split at hs<;>try (cases hs;done)
  rename_i aqs os has
  obtain ⟨a,b,rfl,rfl,rfl⟩:∃ a b,vals=[a,b]∧aqs=[a,b]∧os=[]:=by
   match vals,has with
   | [],has=>cases has
   | [a],has=>simp only [Xdj] at has;split at has<;>cases has
   | [a,b],has=>
     simp only [Xdj,XcY] at has
     by_cases h1:Xbm a=true<;>by_cases h2:Xbm b=true<;>simp [h1,h2] at has
     exact ⟨a,b,rfl,has.1.symm,has.2⟩
   | a::b::c::l,has=>
     simp only [Xdj,XcY] at has
     by_cases h1:Xbm a=true<;>by_cases h2:Xbm b=true<;>simp [h1,h2] at has
  split at hs<;>try (cases hs;done)
  rename_i v0 new wr hrun
  obtain ⟨s,k,n,v1,e1,e2,e3,e4⟩:=h _ _ hrun
  cases e1;cases e2
  simp only [XkH,XpU,List.append_nil,apartB,XdF,Xi8,XlX _ _ e3,Xlu,Xjy,List.length_nil,Nat.add_zero,Option.some.injEq,Prod.mk.injEq] at hs
  obtain ⟨rfl,rfl,rfl⟩:=hs
  obtain ⟨_,_,e5,h1,h2⟩:=hv.inv2
  cases h1;cases h2
  cases e5
  intro cs
  obtain ⟨e,w',fr,⟨rfl,hb⟩,c2⟩:=e4 w cs
  exact ⟨_,w',fr,⟨ρ,_,rfl,VR.flat ρ _ e3,hh.below hb,Ext.refl ρ⟩,c2⟩
end Go.Vm
namespace Go.Proofs
open Go.Shelf
def Tryz.lays105_ren:Go.Shelf.Ren:=⟨fun|105=>68|212=>111|99=>112|165=>113|166=>114|170=>115|169=>116|263=>155|264=>156|206=>157|240=>158|241=>159|276=>178|277=>179|n=>n,fun|9=>9|3=>3|4=>4|20=>20|0=>0|46=>61|109=>166|5=>5|72=>171|76=>175|51=>34|146=>214|53=>29|148=>216|70=>169|37=>154|75=>174|127=>218|164=>247|80=>75|n=>n,fun|n=>n⟩
theorem Tryz.lays105:Go.Proofs.Lays.n105 Tryz.prog Tryz.lays105_ren:={
 mixed:=by kernel_rfl
 f99:=Tryz.func112.trans (congrArg some (by kernel_rfl))
 f105:=Tryz.func68.trans (congrArg some (by kernel_rfl))
 f165:=Tryz.func113.trans (congrArg some (by kernel_rfl))
 f166:=Tryz.func114.trans (congrArg some (by kernel_rfl))
 f169:=Tryz.func116.trans (congrArg some (by kernel_rfl))
 f170:=Tryz.func115.trans (congrArg some (by kernel_rfl))
 f206:=Tryz.func157.trans (congrArg some (by kernel_rfl))
 f212:=Tryz.func111.trans (congrArg some (by kernel_rfl))
 f240:=Tryz.func158.trans (congrArg some (by kernel_rfl))
 f241:=Tryz.func159.trans (congrArg some (by kernel_rfl))
 f263:=Tryz.func155.trans (congrArg some (by kernel_rfl))
 f264:=Tryz.func156.trans (congrArg some (by kernel_rfl))
 f276:=Tryz.func178.trans (congrArg some (by kernel_rfl))
 f277:=Tryz.func179.trans (congrArg some (by kernel_rfl))
 t0:=Tryz.underlying0
 a0:=Tryz.isAgg0
 z0:=Tryz.sizeOf0
 v0:=Tryz.zeroValue0
 t3:=Tryz.underlying3
 a3:=Tryz.isAgg3
 z3:=Tryz.sizeOf3
 v3:=Tryz.zeroValue3
 t4:=Tryz.underlying4
 a4:=Tryz.isAgg4
 z4:=Tryz.sizeOf4
 v4:=Tryz.zeroValue4
 t5:=Tryz.underlying5
 a5:=Tryz.isAgg5
 z5:=Tryz.sizeOf5
 v5:=Tryz.zeroValue5
 t9:=Tryz.underlying9
 a9:=Tryz.isAgg9
 z9:=Tryz.sizeOf9
 v9:=Tryz.zeroValue9
 t20:=Tryz.underlying20
 a20:=Tryz.isAgg20
 z20:=Tryz.sizeOf20
 v20:=Tryz.zeroValue20
 t37:=Tryz.underlying154
 a37:=Tryz.isAgg154
 z37:=Tryz.sizeOf154
 v37:=Tryz.zeroValue154
 t46:=Tryz.underlying61
 a46:=Tryz.isAgg61
 z46:=Tryz.sizeOf61
 v46:=Tryz.zeroValue61
 t51:=Tryz.underlying34
 a51:=Tryz.isAgg34
 z51:=Tryz.sizeOf34
 v51:=Tryz.zeroValue34
 t53:=Tryz.underlying29
 a53:=Tryz.isAgg29
 z53:=Tryz.sizeOf29
 v53:=Tryz.zeroValue29
 t70:=Tryz.underlying169
 a70:=Tryz.isAgg169
 z70:=Tryz.sizeOf169
 v70:=Tryz.zeroValue169
 t72:=Tryz.underlying171
 a72:=Tryz.isAgg171
 z72:=Tryz.sizeOf171
 v72:=Tryz.zeroValue171
 t75:=Tryz.underlying174
 a75:=Tryz.isAgg174
 z75:=Tryz.sizeOf174
 v75:=Tryz.zeroValue174
 t76:=Tryz.underlying175
 a76:=Tryz.isAgg175
 z76:=Tryz.sizeOf175
 v76:=Tryz.zeroValue175
 t109:=Tryz.underlying166
 a109:=Tryz.isAgg166
 z109:=Tryz.sizeOf166
 v109:=Tryz.zeroValue166
 t127:=Tryz.underlying218
 a127:=Tryz.isAgg218
 z127:=Tryz.sizeOf218
 v127:=Tryz.zeroValue218
 t146:=Tryz.underlying214
 a146:=Tryz.isAgg214
 z146:=Tryz.sizeOf214
 v146:=Tryz.zeroValue214
 t148:=Tryz.underlying216
 a148:=Tryz.isAgg216
 z148:=Tryz.sizeOf216
 v148:=Tryz.zeroValue216
 t164:=Tryz.underlying247
 a164:=Tryz.isAgg247
 z164:=Tryz.sizeOf247
 v164:=Tryz.zeroValue247 }
theorem Tryz.Builder_Extra_105:Builder.Extra Tryz.prog Tryz.lays105_ren:={
 sizeBuilder:=by kernel_rfl
 liesBuilder:=by kernel_rfl
 t5:=Tryz.underlying5
 a5:=Tryz.isAgg5
 z5:=Tryz.sizeOf5
 v5:=Tryz.zeroValue5
 infoByte:=by kernel_rfl
 cellsByte:=by kernel_rfl
 sizeByte:=by kernel_rfl
 neB5:=by decide }
open Go.RowKit Go.Lib in
theorem Tryz.strings_Repeat (s:ByteArray) (c:Nat) (w:World) (hc:c≤9223372036854775807) (hlen:s.size*c≤140737488355328) :
 Calls Tryz.prog 68 #[.string s,.int .i64 c] w fun e w'=>e=.returned (.string ⟨(Lib.repeatL s.data.toList c).toArray⟩)∧Below w.heap.size w w':=Any.strings_Repeat Tryz.lays105 Tryz.Builder_Extra_105 s c w hc hlen
end Go.Proofs
namespace Go.Vm.Code
open Go Go.Vm Go.Proofs
set_option maxRecDepth 100000
set_option maxHeartbeats 4000000
set_option linter.unusedVariables false
def XgF (s:List UInt8) (count:Int):Option (List UInt8):=
 if 0≤count∧count≤2^47∧s.length*count.toNat≤2^47 then some (Lib.repeatL s count.toNat) else none
def rx68 (x:List UInt8):XcU:=⟨.string ⟨⟨x⟩⟩,[],[]⟩
abbrev XbR:=(List UInt8)→Int→Option (List UInt8)
def r68 (g:XbR):Dec:=dV asS fun (y0:List UInt8)=>dV (asI .i64) fun (y1:Int)=>XdX (ofG (g y0 y1) rx68)
theorem r68_c {g:XbR} {y0:List UInt8} {y1:Int} {x:List UInt8} (hx:g y0 y1=some x):r68 g [.string ⟨⟨y0⟩⟩,.int .i64 y1] []=some (rx68 x):=(XaS (Xd4)).trans ((XaS (XeL _)).trans (XaQ hx))
def s68 (g:XbR):XbE:=⟨[.v,.v],r68 g⟩
theorem XBn {g:XbR} {y0:List UInt8} {y1:Int} {x:List UInt8} (hx:g y0 y1=some x):(s68 g).run [.string ⟨⟨y0⟩⟩,.int .i64 y1] []=some (rx68 x):=r68_c hx
abbrev XQJ:List (Nat×XbE):=[]
theorem ok68 (_:Xak Tryz.prog (XaD XQJ)):XbM Tryz.prog 68 (s68 XgF):=by
 refine XbM.XCh (fun ar r hr=>?_) ⟨Tryz.f68,rfl,by decide,rfl⟩
 replace hr:r68 XgF ar []=some r:=hr
 unfold r68 at hr
 replace hr:=dV.elim hr;obtain ⟨v0,l1,y0,rfl,e0,hr⟩:=hr;obtain rfl:=XvM _ _ e0
 replace hr:=dV.elim hr;obtain ⟨v1,l2,y1,rfl,e1,hr⟩:=hr;obtain rfl:=XvA _ _ _ e1
 replace hr:=dFin hr;obtain ⟨rfl,_,x,h,rfl⟩:=hr
 obtain ⟨c,rfl⟩:∃ c:Nat,y1=c:=⟨y1.toNat,by unfold XgF at h;split at h;(· omega);cases h⟩
 refine ⟨_,_,_,_,rfl,rfl,rfl,fun w=>?_⟩
 unfold XgF at h;split at h
 ·rename_i hc
  cases h
  exact Tryz.strings_Repeat ⟨⟨y0⟩⟩ c w (by omega) (by show y0.length*c≤_;have:=hc.2.2;rw [Int.toNat_natCast] at this;omega)
 ·cases h
def strings_Repeat:XbR:=XgF
theorem XH3:XbM Tryz.prog 68 (s68 strings_Repeat):=ok68 (Xak.XaM trivial)
def Xhl (Xcz:Xdn) (XgS:XgK) (t:Xag) (ha1:Xat):Option ((List UInt8)×Int):=
 (XgS ha1).bind fun p=>
 cond (p.2 !=0)
  (
  some (([],p.2)))
  (
  (Xcz t p.1).bind fun d=>
  some ((d.1,d.2)))
def XCa (x:(List UInt8)×Int):XcU:=⟨.tuple ⟨[.string ⟨⟨x.1⟩⟩,.int .i64 x.2]⟩,[],[]⟩
abbrev Xcl:=Xag→Xat→Option ((List UInt8)×Int)
def r123 (g:Xcl):Dec:=dV Xd6 fun (y0:Xag)=>dV Xht fun (y1:Xat)=>XdX (ofG (g y0 y1) XCa)
theorem XUR {g:Xcl} {y0:Xag} {y1:Xat} {x:(List UInt8)×Int} (hx:g y0 y1=some x):r123 g [.agg ⟨[.int .i64 y0.Proto,.bool y0.Src.V6,.int .u64 y0.Src.Hi,.int .u64 y0.Src.Lo,.bool y0.Dst.V6,.int .u64 y0.Dst.Hi,.int .u64 y0.Dst.Lo,.int .i64 y0.SPort,.int .i64 y0.DPort]⟩,.agg ⟨[.bool y1.Long,.int .i64 y1.Bits,.int .u32 y1.Version,.string ⟨⟨y1.DCID⟩⟩,.string ⟨⟨y1.SCID⟩⟩,.string ⟨⟨y1.Rest⟩⟩]⟩] []=some (XCa x):=(XaS (Xer _)).trans ((XaS (Xjl _)).trans (XaQ hx))
def s123 (g:Xcl):XbE:=⟨[.v,.v],r123 g⟩
theorem XAg {g:Xcl} {y0:Xag} {y1:Xat} {x:(List UInt8)×Int} (hx:g y0 y1=some x):(s123 g).run [.agg ⟨[.int .i64 y0.Proto,.bool y0.Src.V6,.int .u64 y0.Src.Hi,.int .u64 y0.Src.Lo,.bool y0.Dst.V6,.int .u64 y0.Dst.Hi,.int .u64 y0.Dst.Lo,.int .i64 y0.SPort,.int .i64 y0.DPort]⟩,.agg ⟨[.bool y1.Long,.int .i64 y1.Bits,.int .u32 y1.Version,.string ⟨⟨y1.DCID⟩⟩,.string ⟨⟨y1.SCID⟩⟩,.string ⟨⟨y1.Rest⟩⟩]⟩] []=some (XCa x):=XUR hx
abbrev XLg (Xcz:Xdn) (XgS:XgK):List (Nat×XbE):=[(163,s163 Xcz),(162,s162 XgS)]
theorem XCX (Xcz:Xdn) (XgS:XgK) (hS:Xak Tryz.prog (XaD (XLg Xcz XgS))) (t:Xag) (ha1:Xat) (res:(List UInt8)×Int) (h:Xhl Xcz XgS t ha1=some res) :
 XaG Tryz.prog 123 0 ⟨⟨123,21,[(0,.agg ⟨[.int .i64 t.Proto,.bool t.Src.V6,.int .u64 t.Src.Hi,.int .u64 t.Src.Lo,.bool t.Dst.V6,.int .u64 t.Dst.Hi,.int .u64 t.Dst.Lo,.int .i64 t.SPort,.int .i64 t.DPort]⟩),(1,.agg ⟨[.bool ha1.Long,.int .i64 ha1.Bits,.int .u32 ha1.Version,.string ⟨⟨ha1.DCID⟩⟩,.string ⟨⟨ha1.SCID⟩⟩,.string ⟨⟨ha1.Rest⟩⟩]⟩)],[.code XyH],[],false,none⟩,[],[],0⟩ (fun v H _=>Res 0 (XCa res) v H):=by
 unfold Xhl at h
 have R1:=@XOX XgS
 have R2:=@XKW Xcz
 refine Xa6 XaE hS true 3000 ?_
 conv=>whnf
 exact W
def Xa8:Xcl:=Xhl Xcz XgS
theorem XzD:XbM Tryz.prog 123 (s123 Xa8):=by
 have hL:=XCX Xcz XgS (Xak.XaM ⟨XOt,XPv,trivial⟩)
 exact okA ⟨Tryz.f123,rfl,by decide,rfl⟩
end Go.Vm.Code
