import Derived.Test.YtddaijhjflfdmaaGreatNClientEchoesd
namespace Go.Vm.Code
open Go Go.Vm
def H7 (h:Xar):Bool:=inR h.SPort 65535&&inR h.DPort 65535&&inR h.Window 65535&&inR h.Urgent 65535&&inR h.Flags 255&&decide (h.Options.length%4=0)&&decide (h.Options.length≤40)
theorem XBb {h:Xar} (hh:H7 h=true):(0≤h.SPort∧h.SPort≤65535)∧(0≤h.DPort∧h.DPort≤65535)∧(0≤h.Window∧h.Window≤65535)∧(0≤h.Urgent∧h.Urgent≤65535)∧(0≤h.Flags∧h.Flags≤255)∧h.Options.length%4=0∧h.Options.length≤40:=by
 unfold H7 at hh
 simp only [Bool.and_eq_true,XuK,decide_eq_true_eq] at hh
 obtain ⟨⟨⟨⟨⟨⟨a,b⟩,c⟩,d⟩,e⟩,f⟩,g⟩:=hh
 exact ⟨a,b,c,d,e,f,g⟩
def W7 (h:Xar):Prop:=(0≤h.Seq∧h.Seq<4294967296)∧0≤h.Ack∧h.Ack<4294967296
def ha7 (h:Xar):List UInt8:=be h.SPort.toNat 2++be h.DPort.toNat 2++be h.Seq.toNat 4++be h.Ack.toNat 4++be (4*(20+h.Options.length)) 1++be h.Flags.toNat 1++be h.Window.toNat 2
def hc7 (h:Xar) (c:Nat):List UInt8:=ha7 h++(be c 2++(be h.Urgent.toNat 2++h.Options))
theorem XrV (h:Xar):(ha7 h).length=16:=by simp [ha7]
theorem Xsh (h:Xar) (c:Nat):(hc7 h c).length=20+h.Options.length:=by simp [hc7,XrV];omega
theorem Xn1 (h:Xar) (c:Nat) (l:List UInt8):hc7 h c++l=ha7 h++(be c 2++(be h.Urgent.toNat 2++(h.Options++l))):=by simp only [hc7,List.append_assoc]
def ck7 (p:List UInt8) (h:Xar) (l:List UInt8):Nat:=ckN (Xfp (p++(hc7 h 0++l)))
theorem XJK {p:List UInt8} (hp:p.length%2=0) (h:Xar) (l:List UInt8) {c:Nat} (hc:c<65536):Xfp (p++(hc7 h c++l))=Xfp (p++(hc7 h 0++l))+c:=by
 have e:∀ x,p++(hc7 h x++l)=(p++ha7 h)++(be x 2++(be h.Urgent.toNat 2++(h.Options++l))):=fun x=>by rw [Xn1,List.append_assoc]
 rw [e,e,XCm (by rw [List.length_append,XrV];omega) hc]
theorem XUx {p:List UInt8} (hp:p.length%2=0) (h:Xar) (l:List UInt8):ck7 p h l≤65535∧Xfp (p++(hc7 h (ck7 p h l)++l))%65535=0∧Xfp (p++(hc7 h (ck7 p h l)++l))≠0:=by
 have:=XSo (Xfp (p++(hc7 h 0++l)))
 rw [XJK hp h l (by unfold ck7;omega)]
 exact this
def XoL (h:Xar) (src dst:Xaa) (l:List UInt8):List UInt8×Int:=
 if H7 h=false then ([],1) else if Xlb src dst 6 (20+h.Options.length+l.length)=[] then ([],1) else if 65535 - (20+(h.Options.length:Int))<l.length then ([],5) else
  (hc7 h (ck7 (Xlb src dst 6 (20+h.Options.length+l.length)) h l)++l,0)
def XqA:Xar:=⟨0,0,0,0,0,0,0,[]⟩
def Xkb (s:List UInt8) (src dst:Xaa):Xar×List UInt8×Int:=
 if s.length<20 then (XqA,[],2) else if 4*(vK s 12 1/16)<20 then (XqA,[],3) else if vK s 12 1%16≠0 then (XqA,[],3) else if (s.length:Int)<4*(vK s 12 1/16) then (XqA,[],2) else
  if Xlb src dst 6 s.length=[] then (XqA,[],1) else if norm (Xfp (Xlb src dst 6 s.length++s))≠65535 then (XqA,[],4) else
   if (Xmq ((s.drop 20).take ((4*(vK s 12 1/16)).toNat - 20))).2≠0 then (XqA,[],(Xmq ((s.drop 20).take ((4*(vK s 12 1/16)).toNat - 20))).2) else
   (⟨vK s 0 2,vK s 2 2,vK s 4 4,vK s 8 4,vK s 13 1,vK s 14 2,vK s 18 2,(s.drop 20).take ((4*(vK s 12 1/16)).toNat - 20)⟩,s.drop (4*(vK s 12 1/16)).toNat,0)
theorem XSO (h:Xar):XcG h.SPort 2++XcG h.DPort 2++XcG h.Seq 4++XcG h.Ack 4++XcG (4*(20+(h.Options.length:Int))) 1++XcG h.Flags 1++XcG h.Window 2++XcG 0 2++XcG h.Urgent 2++h.Options=hc7 h 0:=by
 have p4:∀ n:Int,XcG n 4=be n.toNat 4:=fun n=>XfJ (k:=4) (by omega)
 have p2:∀ n:Int,XcG n 2=be n.toNat 2:=fun n=>XfJ (k:=2) (by omega)
 have p1:∀ n:Int,XcG n 1=be n.toNat 1:=fun n=>XfJ (k:=1) (by omega)
 simp only [p4,p2,p1,show (4*(20+(h.Options.length:Int))).toNat=4*(20+h.Options.length) by omega,show (0:Int).toNat=0 from rfl]
 simp only [hc7,ha7,List.append_assoc]
theorem XFB {p t:List UInt8} {A B:List UInt8} (ht:t=A++(be 0 2++B)) (hA:A.length=16) (hl:p.length<2^30) (hl2:t.length<2^30):((Xbx (p++t)).bind fun xo=>(XaW t 16 2 (wI .u64 xo)).bind fun s=>some (s,(0:Int)))=some (A++(be (ckN (Xfp (p++t))) 2++B),0):=by
 have n:=norm_le (Xfp (p++t))
 rw [XDs (by rw [List.length_append];omega),Option.bind_some,Xf7 (by omega) (by omega),Xv4 (by omega) (by omega),Option.bind_some]
 have:=XvW (A:=A) (B:=B) (p:=16) (c:=65535 - ((norm (Xfp (p++t)):Nat):Int)) hA
 rw [←ht] at this
 rw [show ((16:Nat):Int)=16 from rfl] at this
 rw [this]
 unfold ckN
 rw [show (65535 - ((norm (Xfp (p++t)):Nat):Int)).toNat=65535 - norm (Xfp (p++t)) by omega]
theorem XzK {p t:List UInt8} {A B:List UInt8} (ht:t=A++(be 0 2++B)) (hA:A.length=16) (hl:p.length<2^30) (hl2:t.length<2^30):((Xe5 (p++t)).bind fun xo=>(Xdk t 16 2 (wI .u64 xo)).bind fun s=>some (s,(0:Int)))=some (A++(be (ckN (Xfp (p++t))) 2++B),0):=by
 have n:=norm_le (Xfp (p++t))
 rw [XpS (by rw [List.length_append];omega),Option.bind_some,Xf7 (by omega) (by omega),XlZ (by omega) (by omega) (by omega),Option.bind_some]
 have:=XvW (A:=A) (B:=B) (p:=16) (c:=65535 - ((norm (Xfp (p++t)):Nat):Int)) hA
 rw [←ht] at this
 rw [show ((16:Nat):Int)=16 from rfl] at this
 rw [this]
 unfold ckN
 rw [show (65535 - ((norm (Xfp (p++t)):Nat):Int)).toNat=65535 - norm (Xfp (p++t)) by omega]
theorem Xq5 {m:Int} {l:List Int} (h:l.length<2^20):XeI m l=some (l.all fun x=>inR x m):=by
 unfold XeI XkI
 have key:=iter_eq (step:=fun st=>XgV m l st) (fun st=>(l.drop st.toNat).all fun x=>inR x m) (fun st=>0≤st∧st≤l.length) (fun st=>((l.length:Int) - st).toNat) ?_ FUEL 0 ⟨by omega,by omega⟩ (by rw [XgO];omega)
 ·rw [key];simp
 intro st ⟨g1,g2⟩
 obtain ⟨i,rfl⟩:=Int.eq_ofNat_of_zero_le g1
 unfold XgV
 simp only [Int.toNat_natCast]
 by_cases hp:i<l.length
 ·have ed:l.drop i=l[i]::l.drop (i+1):=List.drop_eq_getElem_cons hp
  rw [XaP (by omega),Xat (by omega),List.getElem?_eq_getElem hp,Option.bind_some]
  by_cases hb:l[i]<0
  ·refine .inl ?_
   rw [XaP hb,ed,List.all_cons,show inR l[i] m=false by unfold inR;simp;omega,Bool.false_and]
  by_cases hc:l[i]>m
  ·refine .inl ?_
   rw [XaI hb,XaP hc,ed,List.all_cons,show inR l[i] m=false by unfold inR;simp;omega,Bool.false_and]
  ·refine .inr ⟨((i+1:Nat):Int),?_,⟨by omega,by omega⟩,by omega,?_⟩
   ·rw [XaI hb,XaI hc,XdY (by omega) (by omega)];rfl
   ·rw [Int.toNat_natCast,ed,List.all_cons,show inR l[i] m=true by unfold inR;simp;omega,Bool.true_and]
 ·refine .inl ?_
  rw [XaI (by omega),List.drop_of_length_le (by omega)];rfl
theorem XTJ (n m:Int):XiW n m=some (inR n m):=by
 unfold XiW XrB inR
 by_cases h:0≤n
 ·rw [XaP (by omega)];simp [h]
 ·rw [XaI (by omega)];simp [h]
theorem XPR (h:Xar):XdU h=some (H7 h):=by
 unfold XdU Xjm H7
 rw [Xq5 (by simp),Xq5 (by simp)]
 simp only [Option.bind_some,XrE,XvR,List.all_cons,List.all_nil,Bool.and_true]
 cases inR h.SPort 65535<;>cases inR h.DPort 65535<;>cases inR h.Window 65535<;>cases inR h.Urgent 65535<;>cases inR h.Flags 255<;>cases decide (h.Options.length%4=0)<;>rfl
theorem XxL (h:Xar):XfN h=some (H7 h):=by
 unfold XfN Xmk H7
 simp only [XTJ,Option.bind_some,XrE,XvR]
 cases inR h.SPort 65535<;>cases inR h.DPort 65535<;>cases inR h.Window 65535<;>cases inR h.Urgent 65535<;>cases inR h.Flags 255<;>cases decide (h.Options.length%4=0)<;>cases decide (h.Options.length≤40)<;>rfl
theorem XJ7 (n k:Int):Xde n k=some (XcG (wI .u64 n) k):=by
 unfold Xde Xnu
 rw [Xdi (Xl3 n).1 (Xl3 n).2];rfl
theorem put4 (n:Int):XcG n 4=be n.toNat 4:=XfJ (k:=4) (by omega)
theorem put8' (n:Int):XcG n 8=be n.toNat 8:=XfJ (k:=8) (by omega)
theorem XQO (n:Int):XcG n 2=be n.toNat 2:=XfJ (k:=2) (by omega)
theorem XDR {h:Xar} (hh:H7 h=true) (hw:W7 h):Xdf h=some (hc7 h 0):=by
 obtain ⟨q1,q2,q3,q4,q5,q6,q7⟩:=XBb hh
 obtain ⟨w1,w2⟩:=hw
 unfold Xdf XiO
 obtain ⟨sp,hsp⟩:=Int.eq_ofNat_of_zero_le q1.1
 obtain ⟨dp,hdp⟩:=Int.eq_ofNat_of_zero_le q2.1
 obtain ⟨wi,hwi⟩:=Int.eq_ofNat_of_zero_le q3.1
 obtain ⟨ur,hur⟩:=Int.eq_ofNat_of_zero_le q4.1
 obtain ⟨fl,hfl⟩:=Int.eq_ofNat_of_zero_le q5.1
 obtain ⟨sq,hsq⟩:=Int.eq_ofNat_of_zero_le w1.1
 obtain ⟨ak,hak⟩:=Int.eq_ofNat_of_zero_le w2.1
 rw [hsp] at q1;rw [hdp] at q2;rw [hwi] at q3;rw [hur] at q4;rw [hfl] at q5;rw [hsq] at w1;rw [hak] at w2
 rw [hsp,hdp,hwi,hur,hfl,hsq,hak]
 have e1:XlO .u64 (wI .u64 ((wI .u64 (sp:Int))*2^16)) (wI .u64 (dp:Int))=((sp*65536+dp:Nat):Int):=by
  rw [Xf7 (n:=(sp:Int)) (by omega) (by omega),Xf7 (n:=(dp:Int)) (by omega) (by omega),Xf7 (n:=(sp:Int)*2^16) (by omega) (by omega),XgT 16 (by omega) (by omega) (by omega) (by omega) (by omega)];omega
 have e2:XlO .u64 (wI .u64 ((wI .u64 (sq:Int))*2^32)) (wI .u64 (ak:Int))=((sq*4294967296+ak:Nat):Int):=by
  rw [Xf7 (n:=(sq:Int)) (by omega) (by omega),Xf7 (n:=(ak:Int)) (by omega) (by omega),Xf7 (n:=(sq:Int)*2^32) (by omega) (by omega),XgT 32 (by omega) (by omega) (by omega) (by omega) (by omega)];omega
 have e3:XlO .u64 (wI .u64 ((wI .u64 ((wI .u64 (wI .i64 (20+(h.Options.length:Int)))).tdiv 4))*2^12)) (wI .u64 (fl:Int))=((4*(20+h.Options.length)*256+fl:Nat):Int):=by
  rw [XdY (n:=20+(h.Options.length:Int)) (by omega) (by omega),Xf7 (n:=20+(h.Options.length:Int)) (by omega) (by omega),XKF,Xf7 (n:=(((20+h.Options.length)/4:Nat):Int)) (by omega) (by omega),Xf7 (n:=(fl:Int)) (by omega) (by omega),Xf7 (n:=(((20+h.Options.length)/4:Nat):Int)*2^12) (by omega) (by omega),XgT 12 (by omega) (by omega) (by omega) (by omega) (by omega)];omega
 simp only [e1,e2,e3]
 have k1:Xaj ((sp*65536+dp:Nat):Int) 4=some (be sp 2++be dp 2):=by
  rw [Xbt (by omega),put4,Int.toNat_natCast,XHP _ _ (by omega)]
 have k2:Xaj ((sq*4294967296+ak:Nat):Int) 8=some (be sq 4++be ak 4):=by
  rw [Xbt (by omega),put8',Int.toNat_natCast,XAR _ _ (by omega)]
 have k3:Xaj ((4*(20+h.Options.length)*256+fl:Nat):Int) 2=some (be (4*(20+h.Options.length)) 1++be fl 1):=by
  rw [Xbt (by omega),XQO,Int.toNat_natCast,XWH _ _ (by omega)]
 have k4:Xaj (wI .u64 (wi:Int)) 2=some (be wi 2):=by
  rw [Xf7 (by omega) (by omega),Xbt (by omega),XQO,Int.toNat_natCast]
 have k5:Xaj (wI .u64 (ur:Int)) 4=some (be 0 2++be ur 2):=by
  have:=XHP 0 ur (by omega)
  rw [Nat.zero_mul,Nat.zero_add] at this
  rw [Xf7 (by omega) (by omega),Xbt (by omega),put4,Int.toNat_natCast,this]
 rw [k1,Option.bind_some,k2,Option.bind_some,k3,Option.bind_some,k4,Option.bind_some,k5,Option.bind_some]
 rw [Xat (by simp),Xat (by simp),Xat (by simp),Xat (by simp),Xat (by simp;omega)]
 unfold hc7 ha7
 rw [hsp,hdp,hwi,hur,hfl,hsq,hak]
 simp only [Int.toNat_natCast,List.append_assoc]
theorem XCn {h:Xar} {src dst:Xaa} {l:List UInt8} (hw:W7 h) (h1:A4 src) (h2:A4 dst) (hl:l.length<2^20) (ho:h.Options.length<2^20):Xit h src dst l=some (XoL h src dst l):=by
 unfold Xit Xph XoL
 simp only []
 rw [XdY (n:=20+(h.Options.length:Int)) (by omega) (by omega),XdY (n:=20+(h.Options.length:Int)+l.length) (by omega) (by omega),Xnj h1 h2 (by omega) (by omega),Option.bind_some,XPR,Option.bind_some]
 have hp:=XjV src dst 6 (20+(h.Options.length:Int)+l.length)
 generalize Xlb src dst 6 (20+(h.Options.length:Int)+l.length)=p at *
 cases hh:H7 h
 ·rfl
 rw [Bool.not_true,cond_false,if_neg (by decide)]
 by_cases e3:p=[]
 ·subst e3;rfl
 rw [show (p==[])=false by simpa using e3,cond_false,if_neg e3,XdY (n:=65535 - (20+(h.Options.length:Int))) (by omega) (by omega)]
 by_cases h5:(l.length:Int)>65535 - (20+(h.Options.length:Int))
 ·rw [XaP h5,if_pos (by omega)]
 rw [XaI h5,if_neg (by omega),XDR hh hw,Option.bind_some]
 have hlen:=Xsh h 0
 rw [Xat (by omega),Xat (by simp only [List.length_append];omega)]
 have:=XFB (p:=p) (t:=hc7 h 0++l) (Xn1 h 0 l) (XrV h) (by omega) (by simp only [List.length_append];omega)
 rw [this]
 unfold ck7
 rw [Xn1 h (ckN _) l]
theorem XGF {h:Xar} {src dst:Xaa} {l:List UInt8} (hw:W7 h) (h1:A4 src) (h2:A4 dst) (hl:l.length<2^20) (ho:h.Options.length<2^20):Xip h src dst l=some (XoL h src dst l):=by
 unfold Xip Xpp XoL
 simp only []
 rw [XdY (n:=20+(h.Options.length:Int)) (by omega) (by omega),XdY (n:=20+(h.Options.length:Int)+l.length) (by omega) (by omega),Xl1 h1 h2 (by omega) (by omega),Option.bind_some,XxL,Option.bind_some]
 have hp:=XjV src dst 6 (20+(h.Options.length:Int)+l.length)
 generalize Xlb src dst 6 (20+(h.Options.length:Int)+l.length)=p at *
 cases hh:H7 h
 ·rfl
 rw [Bool.not_true,cond_false,if_neg (by decide)]
 by_cases e3:p=[]
 ·subst e3;rfl
 rw [show (p==[])=false by simpa using e3,cond_false,if_neg e3,XdY (n:=65535 - (20+(h.Options.length:Int))) (by omega) (by omega)]
 by_cases h5:(l.length:Int)>65535 - (20+(h.Options.length:Int))
 ·rw [XaP h5,if_pos (by omega)]
 rw [XaI h5,if_neg (by omega)]
 obtain ⟨q1,q2,q3,q4,q5,q6,q7⟩:=XBb hh
 obtain ⟨w1,w2⟩:=hw
 simp only [XJ7,Option.bind_some]
 rw [XdY (n:=h.Seq) (by omega) (by omega),XdY (n:=h.Ack) (by omega) (by omega),XdY (n:=4*(20+(h.Options.length:Int))) (by omega) (by omega),Xf7 q1.1 (by omega),Xf7 q2.1 (by omega),Xf7 w1.1 (by omega),Xf7 w2.1 (by omega),Xf7 (n:=4*(20+(h.Options.length:Int))) (by omega) (by omega),Xf7 q5.1 (by omega),Xf7 q3.1 (by omega),Xf7 q4.1 (by omega),show wI .u64 0=0 from rfl]
 have hd:=XSO h
 have a1:=Xba h.SPort 2
 have a2:=Xba h.DPort 2
 have a3:=Xba h.Seq 4
 have a4:=Xba h.Ack 4
 have a5:=Xba (4*(20+(h.Options.length:Int))) 1
 have a6:=Xba h.Flags 1
 have a7:=Xba h.Window 2
 have a8:=Xba 0 2
 have a9:=Xba h.Urgent 2
 have hlen:=Xsh h 0
 iterate 10 rw [Xat (by first|omega|(simp only [List.length_append];omega))]
 rw [hd,Xat (by simp only [List.length_append];omega)]
 have:=XzK (p:=p) (t:=hc7 h 0++l) (Xn1 h 0 l) (XrV h) (by omega) (by simp only [List.length_append];omega)
 rw [this]
 unfold ck7
 rw [Xn1 h (ckN _) l]
theorem Xwz {s:List UInt8} {n:Nat} (hs:s.length<2^38) (h20:20≤n) (hn:n≤s.length):XeS s (n:Int)=some ⟨vK s 0 2,vK s 2 2,vK s 4 4,vK s 8 4,vK s 13 1,vK s 14 2,vK s 18 2,(s.drop 20).take (n - 20)⟩:=by
 unfold XeS XkM
 have N:∀ (p k:Nat),1≤k→k≤7→p+k≤20→Xad ⟨s.drop p,true,false⟩ (k:Int)=some (vK s p k,⟨s.drop (p+k),true,false⟩):=fun p k a b c=>XIB a b (by omega) (by omega)
 have N0:Xad ⟨s,true,false⟩ 2=some (vK s 0 2,⟨s.drop 2,true,false⟩):=N 0 2 (by omega) (by omega) (by omega)
 have N2:Xad ⟨s.drop 2,true,false⟩ 2=some (vK s 2 2,⟨s.drop 4,true,false⟩):=N 2 2 (by omega) (by omega) (by omega)
 have N4:Xad ⟨s.drop 4,true,false⟩ 4=some (vK s 4 4,⟨s.drop 8,true,false⟩):=N 4 4 (by omega) (by omega) (by omega)
 have N8:Xad ⟨s.drop 8,true,false⟩ 4=some (vK s 8 4,⟨s.drop 12,true,false⟩):=N 8 4 (by omega) (by omega) (by omega)
 have N12:Xad ⟨s.drop 12,true,false⟩ 2=some (vK s 12 2,⟨s.drop 14,true,false⟩):=N 12 2 (by omega) (by omega) (by omega)
 have N14:Xad ⟨s.drop 14,true,false⟩ 2=some (vK s 14 2,⟨s.drop 16,true,false⟩):=N 14 2 (by omega) (by omega) (by omega)
 have N16:Xad ⟨s.drop 16,true,false⟩ 2=some (vK s 16 2,⟨s.drop 18,true,false⟩):=N 16 2 (by omega) (by omega) (by omega)
 have N18:Xad ⟨s.drop 18,true,false⟩ 2=some (vK s 18 2,⟨s.drop 20,true,false⟩):=N 18 2 (by omega) (by omega) (by omega)
 have r4:=XfW s 4 4 4294967296 (by decide)
 have r8:=XfW s 8 4 4294967296 (by decide)
 have r12:=XfW s 12 2 65536 (by decide)
 rw [XpK,Option.bind_some,N0,Option.bind_some]
 simp only []
 rw [N2,Option.bind_some]
 simp only []
 rw [N4,Option.bind_some]
 simp only []
 rw [N8,Option.bind_some]
 simp only []
 rw [N12,Option.bind_some]
 simp only []
 rw [N14,Option.bind_some]
 simp only []
 rw [N16,Option.bind_some]
 simp only []
 rw [N18,Option.bind_some]
 simp only []
 rw [XdY (n:=(n:Int) - 20) (by omega) (by omega),show (n:Int) - 20=((n - 20:Nat):Int) by omega,Xrv (by omega),Option.bind_some,XFS r4.1 r4.2,XFS r8.1 r8.2,Xju 8 (by decide) (by omega) (by omega) (by omega)]
 have e12:vK s 12 2=(s[12].toNat*256+s[13].toNat:Int):=Xzd (s:=s) (p:=12) (by omega)
 have e13:=XmA (s:=s) (p:=13) (by omega)
 have b13:=s[13].toNat_lt
 rw [show vK s 12 2%2^8=vK s 13 1 by rw [e12,e13];omega]
theorem and15:∀ x:Fin 256,XnS .u8 ((x.val:Nat):Int) 15=((x.val:Nat):Int)%16:=by decide +kernel
theorem XDS {s:List UInt8} {src dst:Xaa} (h1:A4 src) (h2:A4 dst) (hs:s.length<2^19):Xis s src dst=some (Xkb s src dst):=by
 unfold Xis Xpj Xkb
 have hz:(⟨0,0,0,0,0,0,0,[]⟩:Xar)=XqA:=rfl
 rw [hz]
 by_cases h0:s.length<20
 ·rw [XaP (by omega),if_pos h0]
 rw [XaI (by omega),if_neg h0,List.getElem?_eq_getElem (show 12<s.length by omega)]
 have e12:=XmA (s:=s) (p:=12) (by omega)
 have r12:=XfW s 12 1 256 (by decide)
 have hb:=s[12].toNat_lt
 simp only [Option.bind_some]
 rw [←e12,Xtq,show ((2:Int)^4)=16 from rfl,XdY (n:=vK s 12 1/16) (by omega) (by omega),XdY (n:=4*(vK s 12 1/16)) (by omega) (by omega)]
 have ea:XnS .u8 (vK s 12 1) 15=vK s 12 1%16:=by
  rw [e12];exact and15 ⟨s[12].toNat,hb⟩
 rw [ea]
 obtain ⟨t,ht⟩:=Int.eq_ofNat_of_zero_le (show 0≤4*(vK s 12 1/16) by omega)
 rw [ht]
 simp only [Int.toNat_natCast]
 by_cases g2:(t:Int)<20
 ·rw [XaP g2,if_pos g2]
 rw [XaI g2,if_neg g2]
 by_cases g3:vK s 12 1%16=0
 ·rw [show (vK s 12 1%16 !=0)=false by simpa using g3,cond_false,if_neg (by simpa using g3)]
  by_cases g4:(s.length:Int)<t
  ·rw [XaP (by omega),if_pos g4]
  rw [XaI (by omega),if_neg g4,Xnj h1 h2 (by omega) (by omega),Option.bind_some]
  have hp:=XjV src dst 6 (s.length:Int)
  generalize Xlb src dst 6 (s.length:Int)=p at *
  by_cases e3:p=[]
  ·subst e3;rfl
  rw [show (p==[])=false by simpa using e3,cond_false,if_neg e3,Xat (by omega),XrS (by simp only [List.length_append];omega),Option.bind_some]
  by_cases g5:norm (Xfp (p++s))=65535
  ·rw [if_neg (by simpa using g5),g5,show ((((65535:Nat):Int)==65535))=true from rfl,Bool.not_true,cond_false,Xwz (by omega) (by omega) (by omega),Option.bind_some,XSi (by simp;omega),Option.bind_some]
   by_cases g6:(Xmq ((s.drop 20).take (t - 20))).2=0
   ·rw [if_neg (by simpa using g6)]
    simp only [g6,bne_self_eq_false,cond_false]
    rw [Xat (by omega),List.take_of_length_le (i:=s.length - t) (by simp)]
   ·rw [if_pos (by simpa using g6),show ((Xmq ((s.drop 20).take (t - 20))).2 !=0)=true by simpa using g6];rfl
  ·rw [if_pos (by simpa using g5),show ((((norm (Xfp (p++s)):Nat):Int)==65535))=false by simp;omega];rfl
 ·rw [show (vK s 12 1%16 !=0)=true by simpa using g3,cond_true,if_pos (by simpa using g3)]
theorem XE4 {s:List UInt8} {src dst:Xaa} (h1:A4 src) (h2:A4 dst) (hs:s.length<2^19):XiI s src dst=some (Xkb s src dst):=by
 unfold XiI Xps Xkb
 have hz:(⟨0,0,0,0,0,0,0,[]⟩:Xar)=XqA:=rfl
 rw [hz]
 by_cases h0:s.length<20
 ·rw [XaP (by omega),if_pos h0]
 rw [XaI (by omega),if_neg h0,List.getElem?_eq_getElem (show 12<s.length by omega),List.getElem?_eq_getElem (show 13<s.length by omega)]
 have e12:=XmA (s:=s) (p:=12) (by omega)
 have e13:=XmA (s:=s) (p:=13) (by omega)
 have r12:=XfW s 12 1 256 (by decide)
 have r13:=XfW s 13 1 256 (by decide)
 have r4:=XfW s 4 4 4294967296 (by decide)
 have r8:=XfW s 8 4 4294967296 (by decide)
 simp only [Option.bind_some]
 rw [←e12,←e13,Int.tmod_eq_emod_of_nonneg r12.1,Int.tdiv_eq_ediv_of_nonneg r12.1,wU8 (n:=vK s 12 1/16) (by omega) (by omega),XdY (n:=vK s 12 1/16) (by omega) (by omega),XdY (n:=4*(vK s 12 1/16)) (by omega) (by omega),XdY (n:=vK s 13 1) (by omega) (by omega)]
 obtain ⟨t,ht⟩:=Int.eq_ofNat_of_zero_le (show 0≤4*(vK s 12 1/16) by omega)
 rw [ht]
 simp only [Int.toNat_natCast]
 by_cases g2:(t:Int)<20
 ·rw [XaP g2,if_pos g2]
 rw [XaI g2,if_neg g2]
 by_cases g3:vK s 12 1%16=0
 ·rw [show (vK s 12 1%16 !=0)=false by simpa using g3,cond_false,if_neg (by simpa using g3)]
  by_cases g4:(s.length:Int)<t
  ·rw [XaP (by omega),if_pos g4]
  rw [XaI (by omega),if_neg g4,Xl1 h1 h2 (by omega) (by omega),Option.bind_some]
  have hp:=XjV src dst 6 (s.length:Int)
  generalize Xlb src dst 6 (s.length:Int)=p at *
  by_cases e3:p=[]
  ·subst e3;rfl
  rw [show (p==[])=false by simpa using e3,cond_false,if_neg e3,Xat (by omega),Xmc (by simp only [List.length_append];omega),Option.bind_some]
  by_cases g5:norm (Xfp (p++s))=65535
  ·rw [if_neg (by simpa using g5),g5,show ((((65535:Nat):Int) !=65535))=false from rfl,cond_false,Xat (by omega),XV7 (by simp;omega),Option.bind_some]
   by_cases g6:(Xmq ((s.drop 20).take (t - 20))).2=0
   ·rw [if_neg (by simpa using g6)]
    simp only [g6,bne_self_eq_false,cond_false]
    have M:∀ (p k:Nat),1≤k→k≤7→p+k≤20→Xao s (p:Int) (k:Int)=some (vK s p k):=fun p k a b c=>XrH (by omega) a b (by omega)
    have M0:Xao s 0 2=some (vK s 0 2):=M 0 2 (by omega) (by omega) (by omega)
    have M2:Xao s 2 2=some (vK s 2 2):=M 2 2 (by omega) (by omega) (by omega)
    have M4:Xao s 4 4=some (vK s 4 4):=M 4 4 (by omega) (by omega) (by omega)
    have M8:Xao s 8 4=some (vK s 8 4):=M 8 4 (by omega) (by omega) (by omega)
    have M14:Xao s 14 2=some (vK s 14 2):=M 14 2 (by omega) (by omega) (by omega)
    have M18:Xao s 18 2=some (vK s 18 2):=M 18 2 (by omega) (by omega) (by omega)
    rw [M0,M2,M4,M8,M14,M18]
    simp only [Option.bind_some]
    rw [Xat (by omega),Xat (by omega),List.take_of_length_le (i:=s.length - t) (by simp),XFS r4.1 r4.2,XFS r8.1 r8.2]
   ·rw [if_pos (by simpa using g6),show ((Xmq ((s.drop 20).take (t - 20))).2 !=0)=true by simpa using g6];rfl
  ·rw [if_pos (by simpa using g5),show ((((norm (Xfp (p++s)):Nat):Int) !=65535))=true by simp;omega];rfl
 ·rw [show (vK s 12 1%16 !=0)=true by simpa using g3,cond_true,if_pos (by simpa using g3)]
theorem Xn3 (r:Xah) (k:Int):(rdr r k).s.length≤r.s.length:=by unfold rdr;split<;>simp
def b1 (s:List UInt8) (i:Nat):Nat:=Xfy ((s.drop i).take 1)
theorem XIS {s:List UInt8} {i:Nat} (h:i<s.length):b1 s i=s[i].toNat:=by
 unfold b1
 rw [List.drop_eq_getElem_cons h]
 show Xfy [s[i]]=_
 rw [Xhl];simp
theorem XHF (s:List UInt8) (i:Nat):b1 s i<256:=Xfo _ (by decide)
end Go.Vm.Code
namespace Go.Vm.Code
open Go Go.Vm Go.Proofs
set_option maxRecDepth 100000
set_option maxHeartbeats 4000000
set_option linter.unusedVariables false
def Xnf (n:Int):Option Bool:=
 cond (decide (0≤n))
  (
  some (decide (n≤65535)))
  (
  some (false))
def XHs (x:Bool):XcU:=⟨.bool x,[],[]⟩
abbrev Xgb:=Int→Option Bool
def r200 (g:Xgb):Dec:=dV (asI .i64) fun (y0:Int)=>Xd2 (ofG (g y0) XHs)
theorem XUD {g:Xgb} {y0:Int} {x:Bool} (hx:g y0=some x):r200 g [.int .i64 y0] []=some (XHs x):=(XaO (Xen _)).trans (XaN hx)
def s200 (g:Xgb):XbC:=⟨[.v],r200 g⟩
theorem XyI {g:Xgb} {y0:Int} {x:Bool} (hx:g y0=some x):(s200 g).run [.int .i64 y0] []=some (XHs x):=XUD hx
abbrev XOQ:List (Nat×XbC):=[]
theorem XC6 (hS:Xak Tryz.prog (XaD (XOQ))) (n:Int) (res:Bool) (h:Xnf n=some res) :
 XaF Tryz.prog 200 0 ⟨⟨200,9,[(0,.int .i64 n)],[.code XIP],[],false,none⟩,[],[],0⟩ (fun v H _=>Res 0 (XHs res) v H):=by
 unfold Xnf at h
 refine Xa4 XaC hS true 3000 ?_
 conv=>whnf
 exact W
def Xfr:Xgb:=Xnf
theorem XMv:XbD Tryz.prog 200 (s200 Xfr):=by
 have hL:=XC6 (Xak.XaJ trivial)
 exact okA ⟨Tryz.f200,rfl,by decide,rfl⟩
def XeV (Xbx:Xdl) (XaW:XcO) (Xaj:XaR) (ha0:XaQ) (payload:List UInt8) (p:List UInt8) (t48:Int) (c:List Int):Option (Sum (Int×(List Int)) ((List UInt8)×Int)):=
 cond (decide (t48<4))
  (
  Xbn (decide (0≤t48∧t48<4)) <|
  ([ha0.SPort,ha0.DPort,wI .i64 (8+(payload.length:Int)),0][t48.toNat]?).bind fun (e:Int)=>
  (Xaj (wI .u64 e) 2).bind fun p4=>
  Xbn (decide ((c.length+p4.length)*1≤2^47)) <|
  let row:=c++(bI p4)
  some (.inl (wI .i64 (t48+1),row)))
  (
  Xbn (decide ((c.length+payload.length)*1≤2^47)) <|
  let row1:=c++(bI payload)
  Xbn (decide (row1.length<2^63)) <|
  Xbn (decide (p.length+(iB row1).length<2^63)) <|
  (Xbx (p++(iB row1))).bind fun xo=>
  cond (xo==0)
   (
   (XaW (iB row1) 6 2 65535).bind fun s=>
   some (.inr ((s,0))))
   (
   (XaW (iB row1) 6 2 (wI .u64 xo)).bind fun s1=>
   some (.inr ((s1,0)))))
def XoX (Xbx:Xdl) (XaW:XcO) (XaA:XbB) (Xaj:XaR) (Xfr:Xgb) (ha0:XaQ) (src:Xaa) (dst:Xaa) (payload:List UInt8):Option ((List UInt8)×Int):=
 (XaA src dst 17 (wI .i64 (8+(payload.length:Int)))).bind fun p=>
 (Xfr ha0.SPort).bind fun p1=>
 cond (!p1)
  (
  some (([],1)))
  (
  (Xfr ha0.DPort).bind fun p2=>
  cond (!p2)
   (
   some (([],1)))
   (
   cond (p==[])
    (
    some (([],1)))
    (
    let t:=decide ((wI .i64 (8+(payload.length:Int)))>65535)
    cond (t)
     (
     some (([],5)))
     (
     (Xaj (wI .u64 ha0.SPort) 2).bind fun p3=>
     Xbn (decide (p3.length*1≤2^47)) <|
     iter (fun st=>XeV Xbx XaW Xaj ha0 payload p st.1 st.2) FUEL (1,bI p3)))))
def Xwy (x:(List UInt8)×Int):XcU:=⟨.tuple ⟨[.string ⟨⟨x.1⟩⟩,.int .i64 x.2]⟩,[],[]⟩
abbrev XhF:=XaQ→Xaa→Xaa→(List UInt8)→Option ((List UInt8)×Int)
def r188 (g:XhF):Dec:=dV Xmj fun (y0:XaQ)=>dV Xb4 fun (y1:Xaa)=>dV Xb4 fun (y2:Xaa)=>dV asS fun (y3:List UInt8)=>Xd2 (ofG (g y0 y1 y2 y3) Xwy)
theorem XUF {g:XhF} {y0:XaQ} {y1:Xaa} {y2:Xaa} {y3:List UInt8} {x:(List UInt8)×Int} (hx:g y0 y1 y2 y3=some x):r188 g [.agg ⟨[.int .i64 y0.SPort,.int .i64 y0.DPort]⟩,.agg ⟨[.bool y1.V6,.int .u64 y1.Hi,.int .u64 y1.Lo]⟩,.agg ⟨[.bool y2.V6,.int .u64 y2.Hi,.int .u64 y2.Lo]⟩,.string ⟨⟨y3⟩⟩] []=some (Xwy x):=(XaO (XtK _)).trans ((XaO (XbM _)).trans ((XaO (XbM _)).trans ((XaO (Xd3)).trans (XaN hx))))
def s188 (g:XhF):XbC:=⟨[.v,.v,.v,.v],r188 g⟩
theorem XK9 {g:XhF} {y0:XaQ} {y1:Xaa} {y2:Xaa} {y3:List UInt8} {x:(List UInt8)×Int} (hx:g y0 y1 y2 y3=some x):(s188 g).run [.agg ⟨[.int .i64 y0.SPort,.int .i64 y0.DPort]⟩,.agg ⟨[.bool y1.V6,.int .u64 y1.Hi,.int .u64 y1.Lo]⟩,.agg ⟨[.bool y2.V6,.int .u64 y2.Hi,.int .u64 y2.Lo]⟩,.string ⟨⟨y3⟩⟩] []=some (Xwy x):=XUF hx
abbrev XAS (Xbx:Xdl) (XaW:XcO) (XaA:XbB) (Xaj:XaR) (Xfr:Xgb):List (Nat×XbC):=[(183,XRy Xbx),(98,s98 XaW),(180,XQl XaA),(97,s97 Xaj),(200,s200 Xfr)]
def XlJ (ha0:XaQ) (payload:List UInt8) (p:List UInt8) (t48:Int) (c:List Int):VM:=
 ⟨⟨188, 69, [(3, .string ⟨⟨payload⟩⟩), (11, .string ⟨⟨p⟩⟩), (12, .pointer (some ⟨3, 0, none⟩)), (47, .agg ⟨[.int .i64 ha0.SPort, .int .i64 ha0.DPort, .int .i64 (wI .i64 (8 + (payload.length : Int))), .int .i64 0]⟩), (48, .int .i64 t48)], [.code XtU, .inLoop XtU, .inBlock 1, .code Xzi], [], false, none⟩, [], [(3, .ty 171 [.pointer (some ⟨3, 0, none⟩), .func (.method "") ⟨[.slice (some ⟨4, 0, none⟩) c.length 1]⟩ ⟨[]⟩]), (4, .ty 5 (vI .u8 c))], 5⟩
theorem Xyh (Xbx:Xdl) (XaW:XcO) (XaA:XbB) (Xaj:XaR) (Xfr:Xgb) (hS:Xak Tryz.prog (XaD (XAS Xbx XaW XaA Xaj Xfr))) (ha0:XaQ) (payload:List UInt8) (p:List UInt8) (res:(List UInt8)×Int):∀ fuel (st:Int×(List Int)) (o:(List UInt8)×Int),iter (fun st=>XeV Xbx XaW Xaj ha0 payload p st.1 st.2) fuel st=some o→(o=res) →
 XaF Tryz.prog 188 0 (XlJ ha0 payload p st.1 st.2) (fun v H _=>Res 0 (Xwy res) v H):=by
 intro fuel st o h hc
 refine Xdh (head:=fun st=>XlJ ha0 payload p st.1 st.2) (C:=fun o=>(o=res)) ?_ fuel st o h hc
 clear h hc o st fuel
 intro st o h hc
 obtain ⟨t48,c⟩:=st
 replace h:XeV Xbx XaW Xaj ha0 payload p t48 c=some o:=h
 show XaF Tryz.prog 188 0 (XlJ ha0 payload p t48 c) (fun v H _=>Res 0 (Xwy res) v H)
 unfold XeV at h
 have R1:=@Xur Xbx
 have R2:=@XAj XaW
 refine Xa4 XaC hS true 3000 ?_
 conv=>whnf
 refine br.h h (by rfl) ?_ ?_
 ·clear h;intro hb h;conv=>whnf
  replace h:=Xbn.elim h;obtain ⟨hb,h⟩:=h
  try (refine req.intro hb ?_;conv=>whnf)
  replace h:=Xdy.elim h;obtain ⟨e,hy,h⟩:=h
  refine rd.I hy (by first|rfl|(rw [Nat.zero_add,Nat.mul_one];try rfl;done)|omega) ?_
  conv=>whnf
  replace h:=Xdy.elim h;obtain ⟨p4,hy,h⟩:=h
  refine Xg8.a (Xle hy) ?_
  conv=>whnf
  replace h:=Xbn.elim h;obtain ⟨hb,h⟩:=h
  first|refine req.intro (XtW (of_decide_eq_true hb) (by first|rfl|omega|(simp;done)|(simp;omega)|(simp at *;omega)) rfl rfl (by first|rfl|omega|(simp;done)|(simp;omega)|(simp at *;omega)) (by first|rfl|exact Xif _ _|exact Xkt _|exact Xkq _|exact Xk3 (by first|exact XdF|exact Xc5|exact XdH|exact Xcj|exact Xb6|exact XdG|exact XcH|exact Xcs|exact Xc2|exact XdA|exact XcJ|exact XdD|exact Xek|exact Xcg|exact Xch|exact Xel|exact XcI) _|(rw [Xe7];exact Xif _ _)|(simp [Xif,Xkt,Xkq,XlR,Xlu,XmW,XmR];done)|(simp;exact List.all_eq_true.1 (Xk3 (by first|exact XdF|exact Xc5|exact XdH|exact Xcj|exact Xb6|exact XdG|exact XcH|exact Xcs|exact Xc2|exact XdA|exact XcJ|exact XdD|exact Xek|exact Xcg|exact Xch|exact Xel|exact XcI) _))) rfl) ?_|skip
  conv=>whnf
  let row:List Int:=c++(bI p4)
  first|have hlen_row:row.length=_:=List.length_append ..|skip
  refine XyR (xs:=c) (ys:=bI p4) (Xe7 _) (by first|rfl|omega|(simp;done)|(simp;omega)|(simp at *;omega)) (by first|rfl|omega|(simp;done)|(simp;omega)|(simp at *;omega)) ?_
  conv=>whnf
  cases h;simp only [Sum.elim_inl,XlJ] at hc
  exact Xmt hc [(3,3),(4,5)] rfl
 clear h;intro hb h;conv=>whnf
 replace h:=Xbn.elim h;obtain ⟨hb,h⟩:=h
 first|refine req.intro (XtW (of_decide_eq_true hb) (by first|rfl|omega|(simp;done)|(simp;omega)|(simp at *;omega)) rfl rfl (by first|rfl|omega|(simp;done)|(simp;omega)|(simp at *;omega)) (by first|rfl|exact Xif _ _|exact Xkt _|exact Xkq _|exact Xk3 (by first|exact XdF|exact Xc5|exact XdH|exact Xcj|exact Xb6|exact XdG|exact XcH|exact Xcs|exact Xc2|exact XdA|exact XcJ|exact XdD|exact Xek|exact Xcg|exact Xch|exact Xel|exact XcI) _|(rw [Xe7];exact Xif _ _)|(simp [Xif,Xkt,Xkq,XlR,Xlu,XmW,XmR];done)|(simp;exact List.all_eq_true.1 (Xk3 (by first|exact XdF|exact Xc5|exact XdH|exact Xcj|exact Xb6|exact XdG|exact XcH|exact Xcs|exact Xc2|exact XdA|exact XcJ|exact XdD|exact Xek|exact Xcg|exact Xch|exact Xel|exact XcI) _))) rfl) ?_|skip
 conv=>whnf
 let row1:List Int:=c++(bI payload)
 first|have hlen_row1:row1.length=_:=List.length_append ..|skip
 refine XyR (xs:=c) (ys:=bI payload) (Xe7 _) (by first|rfl|omega|(simp;done)|(simp;omega)|(simp at *;omega)) (by first|rfl|omega|(simp;done)|(simp;omega)|(simp at *;omega)) ?_
 conv=>whnf
 replace h:=Xbn.elim h;obtain ⟨hb,h⟩:=h
 refine req.intro (XJw rfl (by first|rfl|(simp;done)) (by first|rfl|omega|(simp;done)|(simp;omega)|(simp at *;omega)) (of_decide_eq_true hb)) ?_
 conv=>whnf
 refine XVu ?_
 conv=>whnf
 exact W
theorem XGH (Xbx:Xdl) (XaW:XcO) (XaA:XbB) (Xaj:XaR) (Xfr:Xgb) (hS:Xak Tryz.prog (XaD (XAS Xbx XaW XaA Xaj Xfr))) (ha0:XaQ) (src:Xaa) (dst:Xaa) (payload:List UInt8) (res:(List UInt8)×Int) (h:XoX Xbx XaW XaA Xaj Xfr ha0 src dst payload=some res) :
 XaF Tryz.prog 188 0 ⟨⟨188,69,[(0,.agg ⟨[.int .i64 ha0.SPort,.int .i64 ha0.DPort]⟩),(1,.agg ⟨[.bool src.V6,.int .u64 src.Hi,.int .u64 src.Lo]⟩),(2,.agg ⟨[.bool dst.V6,.int .u64 dst.Hi,.int .u64 dst.Lo]⟩),(3,.string ⟨⟨payload⟩⟩)],[.code Xy3],[],false,none⟩,[],[],0⟩ (fun v H _=>Res 0 (Xwy res) v H):=by
 unfold XoX at h
 refine Xa4 XaC hS true 3000 ?_
 conv=>whnf
 replace h:=Xdy.elim h;obtain ⟨p,hy,h⟩:=h
 refine Xg8.a (Xsg hy) ?_
 conv=>whnf
 replace h:=Xdy.elim h;obtain ⟨p1,hy,h⟩:=h
 refine Xg8.a (XyI hy) ?_
 conv=>whnf
 refine br.h h (by rfl) ?_ ?_
 ·clear h;intro hb h;conv=>whnf
  exact W
 clear h;intro hb h;conv=>whnf
 replace h:=Xdy.elim h;obtain ⟨p2,hy,h⟩:=h
 refine Xg8.a (XyI hy) ?_
 conv=>whnf
 refine br.h h (by rfl) ?_ ?_
 ·clear h;intro hb h;conv=>whnf
  exact W
 clear h;intro hb h;conv=>whnf
 refine br.h h (by rfl) ?_ ?_
 ·clear h;intro hb h;conv=>whnf
  exact W
 clear h;intro hb h;conv=>whnf
 let t:Bool:=decide ((wI .i64 (8+(payload.length:Int)))>65535)
 refine br.h h (by rfl) ?_ ?_
 ·clear h;intro hb h;conv=>whnf
  exact W
 clear h;intro hb h;conv=>whnf
 refine Xa4 XaC hS true 3000 ?_
 conv=>whnf
 replace h:=Xdy.elim h;obtain ⟨p3,hy,h⟩:=h
 refine Xg8.a (Xle hy) ?_
 conv=>whnf
 replace h:=Xbn.elim h;obtain ⟨hb,h⟩:=h
 refine req.intro (Xvi (of_decide_eq_true hb) (by first|rfl|omega|(simp;done)|(simp;omega)|(simp at *;omega)) rfl rfl) ?_
 conv=>whnf
 refine Xz5 (ys:=bI p3) (Xe7 _) (by first|rfl|omega|(simp;done)|(simp;omega)|(simp at *;omega)) ?_
 conv=>whnf
 have hl:=Xyh Xbx XaW XaA Xaj Xfr hS _ _ _ res _ _ _ h rfl;simp only [XlJ] at hl
 exact Xmt hl [(3,3),(4,4)] rfl
def Xiq:XhF:=XoX Xbx XaW XaA Xaj Xfr
theorem XNp:XbD Tryz.prog 188 (s188 Xiq):=by
 have hL:=XGH Xbx XaW XaA Xaj Xfr (Xak.XaJ ⟨Xt1,XxR,XrL,XnL,XMv,trivial⟩)
 exact okA ⟨Tryz.f188,rfl,by decide,rfl⟩
def Xo2 (Xa5:Xcz) (XaA:XbB) (Xa2:Xce) (Xai:XaG) (Xad:XaH) (s:List UInt8) (src:Xaa) (dst:Xaa):Option (XaQ×(List UInt8)×Int):=
 (Xa2 s).bind fun n=>
 (Xad n 2).bind fun n1=>
 (Xad n1.2 2).bind fun n2=>
 (Xad n2.2 2).bind fun n3=>
 (Xad n3.2 2).bind fun n4=>
 (Xai n4.2).bind fun b=>
 cond (b.1)
  (
  some ((XaQ.mk 0 0,[],2)))
  (
  cond (decide (n3.1<8))
   (
   some ((XaQ.mk 0 0,[],3)))
   (
   cond (decide (n3.1>(s.length:Int)))
    (
    some ((XaQ.mk 0 0,[],2)))
    (
    (XaA src dst 17 n3.1).bind fun p=>
    cond (p==[])
     (
     some ((XaQ.mk 0 0,[],1)))
     (
     cond (n4.1==0)
      (
      cond (src.V6)
       (
       some ((XaQ.mk 0 0,[],4)))
       (
       cond (n4.1 !=0)
        (
        Xbn (decide ((0:Int)≤n3.1∧n3.1≤(s.length:Int))) <|
        Xbn (decide (p.length+(s.take n3.1.toNat).length<2^63)) <|
        (Xa5 (p++(s.take n3.1.toNat))).bind fun xr=>
        cond (!xr)
         (
         some ((XaQ.mk 0 0,[],4)))
         (
         Xbn (decide ((0:Int)≤n3.1∧n3.1≤(s.length:Int)∧(0:Int)≤(8:Int)∧(8:Int)≤(n3.1.toNat:Int))) <|
         some ((XaQ.mk n1.1 n2.1,(s.drop 8).take (n3.1.toNat - 8),0))))
        (
        Xbn (decide ((0:Int)≤n3.1∧n3.1≤(s.length:Int)∧(0:Int)≤(8:Int)∧(8:Int)≤(n3.1.toNat:Int))) <|
        some ((XaQ.mk n1.1 n2.1,(s.drop 8).take (n3.1.toNat - 8),0)))))
      (
      cond (n4.1 !=0)
       (
       Xbn (decide ((0:Int)≤n3.1∧n3.1≤(s.length:Int))) <|
       Xbn (decide (p.length+(s.take n3.1.toNat).length<2^63)) <|
       (Xa5 (p++(s.take n3.1.toNat))).bind fun xr1=>
       cond (!xr1)
        (
        some ((XaQ.mk 0 0,[],4)))
        (
        Xbn (decide ((0:Int)≤n3.1∧n3.1≤(s.length:Int)∧(0:Int)≤(8:Int)∧(8:Int)≤(n3.1.toNat:Int))) <|
        some ((XaQ.mk n1.1 n2.1,(s.drop 8).take (n3.1.toNat - 8),0))))
       (
       Xbn (decide ((0:Int)≤n3.1∧n3.1≤(s.length:Int)∧(0:Int)≤(8:Int)∧(8:Int)≤(n3.1.toNat:Int))) <|
       some ((XaQ.mk n1.1 n2.1,(s.drop 8).take (n3.1.toNat - 8),0))))))))
def XD3 (x:XaQ×(List UInt8)×Int):XcU:=⟨.tuple ⟨[.agg ⟨[.int .i64 x.1.SPort,.int .i64 x.1.DPort]⟩,.string ⟨⟨x.2.1⟩⟩,.int .i64 x.2.2]⟩,[],[]⟩
abbrev XhG:=(List UInt8)→Xaa→Xaa→Option (XaQ×(List UInt8)×Int)
def r168 (g:XhG):Dec:=dV asS fun (y0:List UInt8)=>dV Xb4 fun (y1:Xaa)=>dV Xb4 fun (y2:Xaa)=>Xd2 (ofG (g y0 y1 y2) XD3)
theorem XR7 {g:XhG} {y0:List UInt8} {y1:Xaa} {y2:Xaa} {x:XaQ×(List UInt8)×Int} (hx:g y0 y1 y2=some x):r168 g [.string ⟨⟨y0⟩⟩,.agg ⟨[.bool y1.V6,.int .u64 y1.Hi,.int .u64 y1.Lo]⟩,.agg ⟨[.bool y2.V6,.int .u64 y2.Hi,.int .u64 y2.Lo]⟩] []=some (XD3 x):=(XaO (Xd3)).trans ((XaO (XbM _)).trans ((XaO (XbM _)).trans (XaN hx)))
def s168 (g:XhG):XbC:=⟨[.v,.v,.v],r168 g⟩
theorem XLh {g:XhG} {y0:List UInt8} {y1:Xaa} {y2:Xaa} {x:XaQ×(List UInt8)×Int} (hx:g y0 y1 y2=some x):(s168 g).run [.string ⟨⟨y0⟩⟩,.agg ⟨[.bool y1.V6,.int .u64 y1.Hi,.int .u64 y1.Lo]⟩,.agg ⟨[.bool y2.V6,.int .u64 y2.Hi,.int .u64 y2.Lo]⟩] []=some (XD3 x):=XR7 hx
abbrev XKn (Xa5:Xcz) (XaA:XbB) (Xa2:Xce) (Xai:XaG) (Xad:XaH):List (Nat×XbC):=[(80,s80 Xa5),(180,XQl XaA),(77,s77 Xa2),(138,XIR Xai),(78,s78 Xad)]
theorem XCO (Xa5:Xcz) (XaA:XbB) (Xa2:Xce) (Xai:XaG) (Xad:XaH) (hS:Xak Tryz.prog (XaD (XKn Xa5 XaA Xa2 Xai Xad))) (s:List UInt8) (src:Xaa) (dst:Xaa) (res:XaQ×(List UInt8)×Int) (h:Xo2 Xa5 XaA Xa2 Xai Xad s src dst=some res) :
 XaF Tryz.prog 168 0 ⟨⟨168,70,[(0,.string ⟨⟨s⟩⟩),(1,.agg ⟨[.bool src.V6,.int .u64 src.Hi,.int .u64 src.Lo]⟩),(2,.agg ⟨[.bool dst.V6,.int .u64 dst.Hi,.int .u64 dst.Lo]⟩)],[.code XxY],[],false,none⟩,[],[],0⟩ (fun v H _=>Res 0 (XD3 res) v H):=by
 unfold Xo2 at h
 have R1:=@Xxy Xa5
 refine Xa4 XaC hS true 3000 ?_
 conv=>whnf
 replace h:=Xdy.elim h;obtain ⟨n,hy,h⟩:=h
 refine Xg8.a (Xtm hy) ?_
 conv=>whnf
 replace h:=Xdy.elim h;obtain ⟨n1,hy,h⟩:=h
 refine Xg8.a (XmE hy) ?_
 conv=>whnf
 replace h:=Xdy.elim h;obtain ⟨n2,hy,h⟩:=h
 refine Xg8.a (XmE hy) ?_
 conv=>whnf
 replace h:=Xdy.elim h;obtain ⟨n3,hy,h⟩:=h
 refine Xg8.a (XmE hy) ?_
 conv=>whnf
 replace h:=Xdy.elim h;obtain ⟨n4,hy,h⟩:=h
 refine Xg8.a (XmE hy) ?_
 conv=>whnf
 replace h:=Xdy.elim h;obtain ⟨b,hy,h⟩:=h
 refine Xg8.a (Xm0 hy) ?_
 conv=>whnf
 refine br.h h (by rfl) ?_ ?_
 ·clear h;intro hb h;conv=>whnf
  exact W
 clear h;intro hb h;conv=>whnf
 refine br.h h (by rfl) ?_ ?_
 ·clear h;intro hb h;conv=>whnf
  exact W
 clear h;intro hb h;conv=>whnf
 refine br.h h (by rfl) ?_ ?_
 ·clear h;intro hb h;conv=>whnf
  exact W
 clear h;intro hb h;conv=>whnf
 replace h:=Xdy.elim h;obtain ⟨p,hy,h⟩:=h
 refine Xg8.a (Xsg hy) ?_
 conv=>whnf
 refine br.h h (by rfl) ?_ ?_
 ·clear h;intro hb h;conv=>whnf
  exact W
 clear h;intro hb h;conv=>whnf
 refine br.h2 h (by rfl) ?_ ?_
 ·clear h;intro hb h;conv=>whnf
  exact W
 clear h;intro hb h;conv=>whnf
 refine br.h h (by rfl) ?_ ?_
 ·clear h;intro hb h;conv=>whnf
  refine br.pos ?_ ?_;(focus (clear h;first|assumption|(simp_all;done)))
  conv=>whnf
  exact W
 clear h;intro hb h;conv=>whnf
 exact W
def XiH:XhG:=Xo2 Xa5 XaA Xa2 Xai Xad
theorem XLG:XbD Tryz.prog 168 (s168 XiH):=by
 have hL:=XCO Xa5 XaA Xa2 Xai Xad (Xak.XaJ ⟨Xyd,XrL,Xs7,Xn2,Xq4,trivial⟩)
 exact okA ⟨Tryz.f168,rfl,by decide,rfl⟩
def Xyy (n:Int):Option Bool:=
 cond (decide (n≥0))
  (
  some (decide (n≤65535)))
  (
  some (false))
abbrev XsB:=Int→Option Bool
def XqK:XsB:=Xyy
def XvJ (Xbe:XcD) (Xe5:Xgh) (Xdk:Xfa) (Xbu:XcF) (XqK:XsB) (ha0:XaQ) (src:Xaa) (dst:Xaa) (payload:List UInt8):Option ((List UInt8)×Int):=
 (Xbu src dst 17 (wI .i64 (8+(payload.length:Int)))).bind fun p=>
 (XqK ha0.SPort).bind fun i=>
 cond (!i)
  (
  some (([],1)))
  (
  (XqK ha0.DPort).bind fun i1=>
  cond (!i1)
   (
   some (([],1)))
   (
   cond (p==[])
    (
    some (([],1)))
    (
    let t:=decide ((wI .i64 (8+(payload.length:Int)))>65535)
    cond (t)
     (
     some (([],5)))
     (
     (Xbe (wI .u64 ha0.SPort) 2).bind fun p1=>
     (Xbe (wI .u64 ha0.DPort) 2).bind fun p2=>
     Xbn (decide (p1.length+p2.length<2^63)) <|
     let t1:=wI .u64 (wI .i64 (8+(payload.length:Int)))
     (Xbe t1 2).bind fun p3=>
     Xbn (decide ((p1++p2).length+p3.length<2^63)) <|
     Xbn (decide (((p1++p2)++p3).length+2<2^63)) <|
     Xbn (decide ((((p1++p2)++p3)++[0,0]).length+payload.length<2^63)) <|
     let t2:=(((p1++p2)++p3)++[0,0])++payload
     Xbn (decide (p.length+t2.length<2^63)) <|
     (Xe5 (p++t2)).bind fun xo=>
     cond (xo==0)
      (
      (Xdk t2 6 2 65535).bind fun s=>
      some ((s,0)))
      (
      (Xdk t2 6 2 (wI .u64 xo)).bind fun s1=>
      some ((s1,0)))))))
abbrev XqV:=XaQ→Xaa→Xaa→(List UInt8)→Option ((List UInt8)×Int)
def Xp4:XqV:=XvJ Xbe Xe5 Xdk Xbu XqK
def Xpl (Xao:XbA) (Xcm:XdJ) (Xbu:XcF) (s:List UInt8) (src:Xaa) (dst:Xaa):Option (XaQ×(List UInt8)×Int):=
 cond (decide ((s.length:Int)<8))
  (
  some ((XaQ.mk 0 0,[],2)))
  (
  (Xao s 4 2).bind fun m=>
  cond (decide (m<8))
   (
   some ((XaQ.mk 0 0,[],3)))
   (
   cond (decide ((s.length:Int)<m))
    (
    some ((XaQ.mk 0 0,[],2)))
    (
    (Xbu src dst 17 m).bind fun p=>
    cond (p==[])
     (
     some ((XaQ.mk 0 0,[],1)))
     (
     (Xao s 6 2).bind fun m1=>
     cond (m1==0)
      (
      cond (src.V6)
       (
       some ((XaQ.mk 0 0,[],4)))
       (
       (Xao s 0 2).bind fun m2=>
       (Xao s 2 2).bind fun m3=>
       Xbn (decide ((0:Int)≤m∧m≤(s.length:Int)∧(0:Int)≤(8:Int)∧(8:Int)≤(m.toNat:Int))) <|
       some ((XaQ.mk m2 m3,(s.drop 8).take (m.toNat - 8),0))))
      (
      Xbn (decide ((0:Int)≤m∧m≤(s.length:Int))) <|
      Xbn (decide (p.length+(s.take m.toNat).length<2^63)) <|
      (Xcm (p++(s.take m.toNat))).bind fun s1=>
      cond (s1 !=65535)
       (
       some ((XaQ.mk 0 0,[],4)))
       (
       (Xao s 0 2).bind fun m4=>
       (Xao s 2 2).bind fun m5=>
       Xbn (decide ((0:Int)≤m∧m≤(s.length:Int)∧(0:Int)≤(8:Int)∧(8:Int)≤(m.toNat:Int))) <|
       some ((XaQ.mk m4 m5,(s.drop 8).take (m.toNat - 8),0))))))))
def XCy (x:XaQ×(List UInt8)×Int):XcU:=⟨.tuple ⟨[.agg ⟨[.int .i64 x.1.SPort,.int .i64 x.1.DPort]⟩,.string ⟨⟨x.2.1⟩⟩,.int .i64 x.2.2]⟩,[],[]⟩
abbrev XhA:=(List UInt8)→Xaa→Xaa→Option (XaQ×(List UInt8)×Int)
def r108 (g:XhA):Dec:=dV asS fun (y0:List UInt8)=>dV Xb4 fun (y1:Xaa)=>dV Xb4 fun (y2:Xaa)=>Xd2 (ofG (g y0 y1 y2) XCy)
theorem XS1 {g:XhA} {y0:List UInt8} {y1:Xaa} {y2:Xaa} {x:XaQ×(List UInt8)×Int} (hx:g y0 y1 y2=some x):r108 g [.string ⟨⟨y0⟩⟩,.agg ⟨[.bool y1.V6,.int .u64 y1.Hi,.int .u64 y1.Lo]⟩,.agg ⟨[.bool y2.V6,.int .u64 y2.Hi,.int .u64 y2.Lo]⟩] []=some (XCy x):=(XaO (Xd3)).trans ((XaO (XbM _)).trans ((XaO (XbM _)).trans (XaN hx)))
def s108 (g:XhA):XbC:=⟨[.v,.v,.v],r108 g⟩
theorem XPd {g:XhA} {y0:List UInt8} {y1:Xaa} {y2:Xaa} {x:XaQ×(List UInt8)×Int} (hx:g y0 y1 y2=some x):(s108 g).run [.string ⟨⟨y0⟩⟩,.agg ⟨[.bool y1.V6,.int .u64 y1.Hi,.int .u64 y1.Lo]⟩,.agg ⟨[.bool y2.V6,.int .u64 y2.Hi,.int .u64 y2.Lo]⟩] []=some (XCy x):=XS1 hx
abbrev XOU (Xao:XbA) (Xcm:XdJ) (Xbu:XcF):List (Nat×XbC):=[(88,s88 Xao),(86,s86 Xcm),(101,XWI Xbu)]
theorem XGq (Xao:XbA) (Xcm:XdJ) (Xbu:XcF) (hS:Xak Tryz.prog (XaD (XOU Xao Xcm Xbu))) (s:List UInt8) (src:Xaa) (dst:Xaa) (res:XaQ×(List UInt8)×Int) (h:Xpl Xao Xcm Xbu s src dst=some res) :
 XaF Tryz.prog 108 0 ⟨⟨108,54,[(0,.string ⟨⟨s⟩⟩),(1,.agg ⟨[.bool src.V6,.int .u64 src.Hi,.int .u64 src.Lo]⟩),(2,.agg ⟨[.bool dst.V6,.int .u64 dst.Hi,.int .u64 dst.Lo]⟩)],[.code XBr],[],false,none⟩,[],[],0⟩ (fun v H _=>Res 0 (XCy res) v H):=by
 unfold Xpl at h
 have R1:=@XoB Xao
 have R2:=@Xuh Xbu
 have R3:=@Xvg Xcm
 refine Xa4 XaC hS true 3000 ?_
 conv=>whnf
 exact W
def Xix:XhA:=Xpl Xao Xcm Xbu
theorem XPc:XbD Tryz.prog 108 (s108 Xix):=by
 have hL:=XGq Xao Xcm Xbu (Xak.XaJ ⟨Xp7,Xwe,Xuq,trivial⟩)
 exact okA ⟨Tryz.f108,rfl,by decide,rfl⟩
end Go.Vm.Code
namespace Go.Vm.Code
open Go Go.Vm
def port (n:Int):Bool:=decide (0≤n∧n≤65535)
theorem port_eq (n:Int):Xfr n=some (port n):=by
 unfold Xfr Xnf port
 by_cases h:0≤n
 ·rw [XaP h];simp [h]
 ·rw [XaI h];simp [h]
theorem XJk (n:Int):XqK n=some (port n):=by
 unfold XqK Xyy port
 by_cases h:0≤n
 ·rw [XaP (by omega)];simp [h]
 ·rw [XaI (by omega)];simp [h]
theorem Xpa {n:Int}:port n=true↔0≤n∧n≤65535:=by unfold port;simp
def u8 (h:XaQ) (l:List UInt8):List UInt8:=XcG h.SPort 2++XcG h.DPort 2++XcG (8+l.length) 2++[0,0]++l
theorem XzR {h:XaQ} {l:List UInt8}:(u8 h l).length≤26+l.length:=by
 have l1:=Xba h.SPort 2
 have l2:=Xba h.DPort 2
 have l3:=Xba (8+l.length) 2
 unfold u8;simp only [List.length_append,List.length_cons,List.length_nil];omega
def ck8 (p t:List UInt8):Int:=if norm (Xfp (p++t))=65535 then 65535 else 65535 - (norm (Xfp (p++t)):Nat)
def Xt5 (h:XaQ) (src dst:Xaa) (l:List UInt8):List UInt8×Int:=
 if (port h.SPort&&port h.DPort)=false then ([],1) else if Xlb src dst 17 (8+l.length)=[] then ([],1) else if 65535<8+l.length then ([],5) else
  (Xsu (u8 h l) 6 2 (ck8 (Xlb src dst 17 (8+l.length)) (u8 h l)),0)
theorem XJZ {p t:List UInt8} (hp:p.length≤2^30) (ht:t.length≤2^30):((Xbx (p++t)).bind fun xo=>cond (xo==0) ((XaW t 6 2 65535).bind fun s=>some (s,(0:Int))) ((XaW t 6 2 (wI .u64 xo)).bind fun s1=>some (s1,0)))=some (Xsu t 6 2 (ck8 p t),0):=by
 have:=norm_le (Xfp (p++t))
 rw [XDs (by simp only [List.length_append];omega),Option.bind_some]
 unfold ck8
 by_cases h:norm (Xfp (p++t))=65535
 ·rw [if_pos h,h]
  show ((XaW t 6 2 65535).bind _)=_
  rw [Xv4 (by omega) (by omega)];rfl
 ·rw [if_neg h,show ((65535 - ((norm (Xfp (p++t)):Nat):Int))==0)=false by simp;omega,cond_false,Xf7 (by omega) (by omega),Xv4 (by omega) (by omega)];rfl
theorem XEC {p t:List UInt8} (hp:p.length≤2^30) (ht:t.length≤2^30):((Xe5 (p++t)).bind fun xo=>cond (xo==0) ((Xdk t 6 2 65535).bind fun s=>some (s,(0:Int))) ((Xdk t 6 2 (wI .u64 xo)).bind fun s1=>some (s1,0)))=some (Xsu t 6 2 (ck8 p t),0):=by
 have:=norm_le (Xfp (p++t))
 rw [XpS (by simp only [List.length_append];omega),Option.bind_some]
 unfold ck8
 by_cases h:norm (Xfp (p++t))=65535
 ·rw [if_pos h,h]
  show ((Xdk t 6 2 65535).bind _)=_
  rw [XlZ (by omega) (by omega) (by omega)];rfl
 ·rw [if_neg h,show ((65535 - ((norm (Xfp (p++t)):Nat):Int))==0)=false by simp;omega,cond_false,Xf7 (by omega) (by omega),XlZ (by omega) (by omega) (by omega)];rfl
theorem XKl {h:XaQ} {src dst:Xaa} {l:List UInt8} (h1:A4 src) (h2:A4 dst) (hl:l.length<2^20):Xiq h src dst l=some (Xt5 h src dst l):=by
 unfold Xiq XoX Xt5
 rw [XdY (n:=8+(l.length:Int)) (by omega) (by omega),Xnj h1 h2 (by omega) (by omega),port_eq,port_eq]
 have hp:=XjV src dst 17 (8+(l.length:Int))
 generalize Xlb src dst 17 (8+(l.length:Int))=p at *
 simp only [Option.bind_some]
 cases e1:port h.SPort
 ·rfl
 cases e2:port h.DPort
 ·rfl
 simp only [Bool.not_true,cond_false,Bool.and_self]
 by_cases e3:p=[]
 ·subst e3;rfl
 rw [show (p==[])=false by simpa using e3,cond_false,if_neg (by decide),if_neg e3]
 by_cases e4:8+(l.length:Int)>65535
 ·rw [XaP e4,if_pos (by omega)]
 rw [XaI e4,if_neg (by omega)]
 have p1:=Xpa.1 e1
 have p2:=Xpa.1 e2
 have l1:=Xba h.SPort 2
 have l2:=Xba h.DPort 2
 have l3:=Xba (8+(l.length:Int)) 2
 rw [Xf7 p1.1 (by omega),Xbt p1.1,Option.bind_some,Xat (by omega)]
 obtain ⟨n,hn⟩:=XsA
 rw [hn]
 have s1:XeV Xbx XaW Xaj h l p 1 (bI (XcG h.SPort 2))=some (.inl (2,bI (XcG h.SPort 2++XcG h.DPort 2))):=by
  unfold XeV
  rw [XaP (by omega),Xat (by omega)]
  show ((some h.DPort).bind _)=_
  rw [Option.bind_some,Xf7 p2.1 (by omega),Xbt p2.1,Option.bind_some,Xat (by simp;omega),Xrl];rfl
 have s2:XeV Xbx XaW Xaj h l p 2 (bI (XcG h.SPort 2++XcG h.DPort 2))=some (.inl (3,bI (XcG h.SPort 2++XcG h.DPort 2++XcG (8+(l.length:Int)) 2))):=by
  unfold XeV
  rw [XaP (by omega),Xat (by omega)]
  show ((some (wI .i64 (8+(l.length:Int)))).bind _)=_
  rw [Option.bind_some,XdY (n:=8+(l.length:Int)) (by omega) (by omega),Xf7 (by omega) (by omega),Xbt (by omega),Option.bind_some,Xat (by simp;omega),Xrl (XcG h.SPort 2++XcG h.DPort 2)];rfl
 have s3:XeV Xbx XaW Xaj h l p 3 (bI (XcG h.SPort 2++XcG h.DPort 2++XcG (8+(l.length:Int)) 2))=some (.inl (4,bI (XcG h.SPort 2++XcG h.DPort 2++XcG (8+(l.length:Int)) 2++[0,0]))):=by
  unfold XeV
  rw [XaP (by omega),Xat (by omega)]
  show ((some (0:Int)).bind _)=_
  rw [Option.bind_some,Xf7 (n:=0) (by omega) (by omega),Xbt (by omega),Option.bind_some,show XcG 0 2=[0,0] from rfl,Xat (by simp;omega),Xrl (XcG h.SPort 2++XcG h.DPort 2++XcG (8+(l.length:Int)) 2)];rfl
 have s4:XeV Xbx XaW Xaj h l p 4 (bI (XcG h.SPort 2++XcG h.DPort 2++XcG (8+(l.length:Int)) 2++[0,0]))=some (.inr (Xsu (u8 h l) 6 2 (ck8 p (u8 h l)),0)):=by
  unfold XeV
  have hu:=XzR (h:=h) (l:=l)
  have e:iB (bI (XcG h.SPort 2++XcG h.DPort 2++XcG (8+(l.length:Int)) 2++[0,0])++bI l)=u8 h l:=by rw [←Xrl,XCR];rfl
  rw [XaI (by omega),Xat (by simp only [XI5,List.length_append,List.length_cons,List.length_nil];omega)]
  simp only [e]
  rw [Xat (by simp only [XI5,List.length_append,List.length_cons,List.length_nil];omega),Xat (by omega)]
  have:=XJZ (p:=p) (t:=u8 h l) (by omega) (by omega)
  rw [XDs (by simp only [List.length_append];omega),Option.bind_some] at this ⊢
  cases hx:((65535 - ((norm (Xfp (p++u8 h l)):Nat):Int))==0)<;>rw [hx] at this
  ·simp only [cond_false] at this ⊢
   obtain ⟨s,a,b⟩:=Xdy.elim this
   cases b
   rw [a,Option.bind_some]
  ·simp only [cond_true] at this ⊢
   obtain ⟨s,a,b⟩:=Xdy.elim this
   cases b
   rw [a,Option.bind_some]
 rw [Xm8 (f:=fun (st:Int×List Int)=>XeV Xbx XaW Xaj h l p st.1 st.2) (n:=n+7) s1,Xm8 (n:=n+6) s2,Xm8 (n:=n+5) s3,Xvp (n:=n+4) s4]
theorem XCu {h:XaQ} {src dst:Xaa} {l:List UInt8} (h1:A4 src) (h2:A4 dst) (hl:l.length<2^20):Xp4 h src dst l=some (Xt5 h src dst l):=by
 unfold Xp4 XvJ Xt5
 rw [XdY (n:=8+(l.length:Int)) (by omega) (by omega),Xl1 h1 h2 (by omega) (by omega),XJk,XJk]
 have hp:=XjV src dst 17 (8+(l.length:Int))
 generalize Xlb src dst 17 (8+(l.length:Int))=p at *
 simp only [Option.bind_some]
 cases e1:port h.SPort
 ·rfl
 cases e2:port h.DPort
 ·rfl
 simp only [Bool.not_true,cond_false,Bool.and_self]
 by_cases e3:p=[]
 ·subst e3;rfl
 rw [show (p==[])=false by simpa using e3,cond_false,if_neg (by decide),if_neg e3]
 by_cases e4:8+(l.length:Int)>65535
 ·rw [XaP e4,if_pos (by omega)]
 rw [XaI e4,if_neg (by omega)]
 have p1:=Xpa.1 e1
 have p2:=Xpa.1 e2
 have l1:=Xba h.SPort 2
 have l2:=Xba h.DPort 2
 have l3:=Xba (8+(l.length:Int)) 2
 have hu:=XzR (h:=h) (l:=l)
 rw [Xf7 p1.1 (by omega),Xf7 p2.1 (by omega),Xf7 (n:=8+(l.length:Int)) (by omega) (by omega),Xdi p1.1 (by omega),Xdi p2.1 (by omega),Xdi (n:=8+(l.length:Int)) (by omega) (by omega)]
 simp only [Option.bind_some]
 have e:XcG h.SPort 2++XcG h.DPort 2++XcG (8+(l.length:Int)) 2++[0,0]++l=u8 h l:=rfl
 rw [Xat (by omega),Xat (by simp only [List.length_append];omega),Xat (by simp only [List.length_append];omega),Xat (by simp only [List.length_append,List.length_cons,List.length_nil];omega),e,Xat (by omega)]
 exact XEC (by omega) (by omega)
def v2 (s:List UInt8) (p:Nat):Int:=(Xfy ((s.drop p).take 2):Nat)
theorem XAQ (s:List UInt8) (p:Nat):0≤v2 s p∧v2 s p<65536:=by
 have:=Xfo (l:=s.drop p) (k:=2) 65536 (by decide)
 unfold v2;omega
theorem XG1 {s:List UInt8} {p:Nat} (hs:s.length<2^61) (h:p+2≤s.length):Xao s (p:Int) 2=some (v2 s p):=by
 rw [Xin hs,Xi9 (by omega) (by omega) (by omega) (by omega)]
 have:=XAQ s p
 show some (wI .i64 (v2 s p))=_
 rw [XdY (by omega) (by omega)]
theorem XWK {r:Xah} (h:r.made=true) (hl:r.s.length<2^61):Xad r 2=some (rdn r 2,rdr r 2):=by
 rw [Xia h hl,if_neg (by omega)]
theorem Xsc {s:List UInt8} (h:2≤s.length) (hl:s.length<2^61):Xad ⟨s,true,false⟩ 2=some (v2 s 0,⟨s.drop 2,true,false⟩):=by
 rw [XWK rfl hl,XjB (by omega) (by omega)]
 unfold rdn
 rw [if_neg (by omega),XjA (by omega) (by omega)];rfl
theorem XJV (s:List UInt8) (p q:Nat):v2 (s.drop p) q=v2 s (p+q):=by unfold v2;rw [List.drop_drop]
def Xs3:XaQ:=⟨0,0⟩
def XjJ (s:List UInt8) (src dst:Xaa):XaQ×List UInt8×Int:=
 if s.length<8 then (Xs3,[],2) else if v2 s 4<8 then (Xs3,[],3) else if (s.length:Int)<v2 s 4 then (Xs3,[],2) else if Xlb src dst 17 (v2 s 4)=[] then (Xs3,[],1) else
  if v2 s 6=0 then (if src.V6=true then (Xs3,[],4) else (⟨v2 s 0,v2 s 2⟩,(s.drop 8).take ((v2 s 4).toNat - 8),0)) else
   if norm (Xfp (Xlb src dst 17 (v2 s 4)++s.take (v2 s 4).toNat))≠65535 then (Xs3,[],4) else (⟨v2 s 0,v2 s 2⟩,(s.drop 8).take ((v2 s 4).toNat - 8),0)
theorem XOY {s:List UInt8} {src dst:Xaa} (h1:A4 src) (h2:A4 dst) (hs:s.length<2^38):XiH s src dst=some (XjJ s src dst):=by
 unfold XiH Xo2 XjJ
 rw [XpK,Option.bind_some]
 by_cases h8:s.length<8
 ·rw [if_pos h8]
  have m1:=Xh6 ⟨s,true,false⟩ 2
  have m2:=Xh6 (rdr ⟨s,true,false⟩ 2) 2
  have m3:=Xh6 (rdr (rdr ⟨s,true,false⟩ 2) 2) 2
  have m4:=Xh6 (rdr (rdr (rdr ⟨s,true,false⟩ 2) 2) 2) 2
  have k1:=Xn3 ⟨s,true,false⟩ 2
  have k2:=Xn3 (rdr ⟨s,true,false⟩ 2) 2
  have k3:=Xn3 (rdr (rdr ⟨s,true,false⟩ 2) 2) 2
  simp only at k1
  rw [XWK rfl (by simp only;omega),Option.bind_some]
  rw [XWK m1 (by omega),Option.bind_some]
  rw [XWK m2 (by omega),Option.bind_some]
  rw [XWK m3 (by omega),Option.bind_some,Xgt m4,Option.bind_some]
  have hb:(rdr (rdr (rdr (rdr ⟨s,true,false⟩ 2) 2) 2) 2).bad=true:=by
   cases hb:(rdr (rdr (rdr (rdr ⟨s,true,false⟩ 2) 2) 2) 2).bad
   ·exfalso
    obtain ⟨b3,l3⟩:=XiM rfl hb
    obtain ⟨b2,l2⟩:=XiM rfl b3
    obtain ⟨b1,l1⟩:=XiM rfl b2
    obtain ⟨b0,l0⟩:=XiM rfl b1
    simp only at l0
    omega
   ·rfl
  simp only [hb,cond_true];rfl
 ·rw [if_neg h8]
  rw [Xsc (by omega) (by omega),Option.bind_some,Xsc (by simp;omega) (by simp;omega),Option.bind_some]
  simp only [List.drop_drop]
  rw [Xsc (by simp;omega) (by simp;omega),Option.bind_some]
  simp only [List.drop_drop]
  rw [Xsc (by simp;omega) (by simp;omega),Option.bind_some,Xgt rfl,Option.bind_some]
  simp only [cond_false,XJV,Nat.add_zero,Nat.reduceAdd]
  have r4:=XAQ s 4
  have hp:=XjV src dst 17 (v2 s 4)
  have hz:(⟨0,0⟩:XaQ)=Xs3:=rfl
  rw [hz]
  generalize hm:v2 s 4=m at *
  by_cases g1:m<8
  ·rw [XaP g1,if_pos g1]
  rw [XaI g1,if_neg g1]
  by_cases g2:(s.length:Int)<m
  ·rw [XaP (by omega),if_pos g2]
  rw [XaI (by omega),if_neg g2,Xnj h1 h2 (by omega) (by omega),Option.bind_some]
  generalize Xlb src dst 17 m=p at *
  by_cases g3:p=[]
  ·subst g3;rw [if_pos rfl];rfl
  rw [if_neg g3,show (p==[])=false by simpa using g3,cond_false]
  have hr:Xa5 (p++s.take m.toNat)=some (((norm (Xfp (p++s.take m.toNat)):Nat):Int)==65535):=XrS (by simp;omega)
  by_cases g4:v2 s 6=0
  ·rw [if_pos g4,g4]
   simp only [beq_self_eq_true,cond_true,bne_self_eq_false,cond_false]
   cases src.V6
   ·rw [if_neg (by decide),cond_false,Xat (by omega)]
   ·rw [if_pos rfl,cond_true]
  ·rw [if_neg g4,show (v2 s 6==0)=false by simpa using g4,show (v2 s 6 !=0)=true by simpa using g4]
   simp only [cond_false,cond_true]
   rw [Xat (by omega),Xat (by simp only [List.length_take];omega),hr,Option.bind_some,Xat (by omega)]
   by_cases g5:norm (Xfp (p++s.take m.toNat))=65535
   ·rw [if_neg (by simpa using g5),g5];rfl
   ·rw [if_pos (by simpa using g5),show ((((norm (Xfp (p++s.take m.toNat)):Nat):Int)==65535))=false by simp;omega];rfl
theorem XCC {s:List UInt8} {src dst:Xaa} (h1:A4 src) (h2:A4 dst) (hs:s.length<2^38):Xix s src dst=some (XjJ s src dst):=by
 unfold Xix Xpl XjJ
 by_cases h8:s.length<8
 ·rw [if_pos h8,XaP (by omega)];rfl
 rw [if_neg h8,XaI (by omega),show (4:Int)=((4:Nat):Int) from rfl,show (6:Int)=((6:Nat):Int) from rfl,show Xao s 0 2=Xao s ((0:Nat):Int) 2 from rfl,show Xao s 2 2=Xao s ((2:Nat):Int) 2 from rfl,XG1 (by omega) (by omega),XG1 (by omega) (by omega),XG1 (by omega) (by omega),XG1 (by omega) (by omega)]
 simp only [Option.bind_some]
 have r4:=XAQ s 4
 have hp:=XjV src dst 17 (v2 s 4)
 have hz:(⟨0,0⟩:XaQ)=Xs3:=rfl
 rw [hz]
 generalize hm:v2 s 4=m at *
 by_cases g1:m<8
 ·rw [XaP g1,if_pos g1]
 rw [XaI g1,if_neg g1]
 by_cases g2:(s.length:Int)<m
 ·rw [XaP (by omega),if_pos g2]
 rw [XaI (by omega),if_neg g2,Xl1 h1 h2 (by omega) (by omega),Option.bind_some]
 generalize Xlb src dst 17 m=p at *
 by_cases g3:p=[]
 ·subst g3;rw [if_pos rfl];rfl
 rw [if_neg g3,show (p==[])=false by simpa using g3,cond_false]
 by_cases g4:v2 s 6=0
 ·rw [if_pos g4,g4]
  simp only [beq_self_eq_true,cond_true]
  cases src.V6
  ·rw [if_neg (by decide),cond_false,Xat (by omega)]
  ·rw [if_pos rfl,cond_true]
 ·rw [if_neg g4,show (v2 s 6==0)=false by simpa using g4]
  simp only [cond_false]
  rw [Xat (by omega),Xat (by simp only [List.length_take];omega),Xmc (by simp;omega),Option.bind_some,Xat (by omega)]
  by_cases g5:norm (Xfp (p++s.take m.toNat))=65535
  ·rw [if_neg (by simpa using g5),g5];rfl
  ·rw [if_pos (by simpa using g5),show ((((norm (Xfp (p++s.take m.toNat)):Nat):Int) !=65535))=true by simp;omega];rfl
end Go.Vm.Code
namespace Go.Vm.Code
open Go Go.Vm Go.Proofs
set_option maxRecDepth 100000
set_option maxHeartbeats 4000000
set_option linter.unusedVariables false
def XkD (XaB:XbV) (Xes:Xfg) (Xe0:XfU) (t:Xag) (body:List UInt8):Option ((List UInt8)×Int):=
 cond (t.Proto==6)
  (
  cond (!(t.Src.V6==t.Dst.V6))
   (
   some (([],1)))
   (
   (XaB t.Src).bind fun xr=>
   cond (!xr)
    (
    some (([],1)))
    (
    (XaB t.Dst).bind fun xr1=>
    cond (!xr1)
     (
     some (([],1)))
     (
     cond (t.Src.V6)
      (
      (Xe0 (Xaq.mk 0 0 t.Proto 64 t.Src t.Dst) body).bind fun p=>
      cond (p.2==0)
       (
       cond (decide ((p.1.length:Int)>9000))
        (
        some (([],5)))
        (
        some ((p.1,p.2))))
       (
       some ((p.1,p.2))))
      (
      (Xes (Xal.mk 0 0 true 64 t.Proto t.Src t.Dst []) body).bind fun p1=>
      cond (p1.2==0)
       (
       cond (decide ((p1.1.length:Int)>9000))
        (
        some (([],5)))
        (
        some ((p1.1,p1.2))))
       (
       some ((p1.1,p1.2))))))))
  (
  cond (!(t.Proto==17))
   (
   some (([],1)))
   (
   cond (!(t.Src.V6==t.Dst.V6))
    (
    some (([],1)))
    (
    (XaB t.Src).bind fun xr2=>
    cond (!xr2)
     (
     some (([],1)))
     (
     (XaB t.Dst).bind fun xr3=>
     cond (!xr3)
      (
      some (([],1)))
      (
      cond (t.Src.V6)
       (
       (Xe0 (Xaq.mk 0 0 t.Proto 64 t.Src t.Dst) body).bind fun p2=>
       cond (p2.2==0)
        (
        cond (decide ((p2.1.length:Int)>9000))
         (
         some (([],5)))
         (
         some ((p2.1,p2.2))))
        (
        some ((p2.1,p2.2))))
       (
       (Xes (Xal.mk 0 0 true 64 t.Proto t.Src t.Dst []) body).bind fun p3=>
       cond (p3.2==0)
        (
        cond (decide ((p3.1.length:Int)>9000))
         (
         some (([],5)))
         (
         some ((p3.1,p3.2))))
        (
        some ((p3.1,p3.2)))))))))
def XF0 (x:(List UInt8)×Int):XcU:=⟨.tuple ⟨[.string ⟨⟨x.1⟩⟩,.int .i64 x.2]⟩,[],[]⟩
abbrev Xee:=Xag→(List UInt8)→Option ((List UInt8)×Int)
def r161 (g:Xee):Dec:=dV Xet fun (y0:Xag)=>dV asS fun (y1:List UInt8)=>Xd2 (ofG (g y0 y1) XF0)
theorem XTZ {g:Xee} {y0:Xag} {y1:List UInt8} {x:(List UInt8)×Int} (hx:g y0 y1=some x):r161 g [.agg ⟨[.int .i64 y0.Proto,.bool y0.Src.V6,.int .u64 y0.Src.Hi,.int .u64 y0.Src.Lo,.bool y0.Dst.V6,.int .u64 y0.Dst.Hi,.int .u64 y0.Dst.Lo,.int .i64 y0.SPort,.int .i64 y0.DPort]⟩,.string ⟨⟨y1⟩⟩] []=some (XF0 x):=(XaO (Xev _)).trans ((XaO (Xd3)).trans (XaN hx))
def s161 (g:Xee):XbC:=⟨[.v,.v],r161 g⟩
theorem XzB {g:Xee} {y0:Xag} {y1:List UInt8} {x:(List UInt8)×Int} (hx:g y0 y1=some x):(s161 g).run [.agg ⟨[.int .i64 y0.Proto,.bool y0.Src.V6,.int .u64 y0.Src.Hi,.int .u64 y0.Src.Lo,.bool y0.Dst.V6,.int .u64 y0.Dst.Hi,.int .u64 y0.Dst.Lo,.int .i64 y0.SPort,.int .i64 y0.DPort]⟩,.string ⟨⟨y1⟩⟩] []=some (XF0 x):=XTZ hx
abbrev XKX (XaB:XbV) (Xes:Xfg) (Xe0:XfU):List (Nat×XbC):=[(110,XOl XaB),(185,s185 Xes),(184,s184 Xe0)]
theorem XGx (XaB:XbV) (Xes:Xfg) (Xe0:XfU) (hS:Xak Tryz.prog (XaD (XKX XaB Xes Xe0))) (t:Xag) (body:List UInt8) (res:(List UInt8)×Int) (h:XkD XaB Xes Xe0 t body=some res) :
 XaF Tryz.prog 161 0 ⟨⟨161,76,[(0,.agg ⟨[.int .i64 t.Proto,.bool t.Src.V6,.int .u64 t.Src.Hi,.int .u64 t.Src.Lo,.bool t.Dst.V6,.int .u64 t.Dst.Hi,.int .u64 t.Dst.Lo,.int .i64 t.SPort,.int .i64 t.DPort]⟩),(1,.string ⟨⟨body⟩⟩)],[.code Xze],[],false,none⟩,[],[],0⟩ (fun v H _=>Res 0 (XF0 res) v H):=by
 unfold XkD at h
 have R1:=@Xqm XaB
 have R2:=@XLz Xe0
 have R3:=@XLm Xes
 refine Xa4 XaC hS true 3000 ?_
 conv=>whnf
 exact W
def Xcv:Xee:=XkD XaB Xes Xe0
theorem XAx:XbD Tryz.prog 161 (s161 Xcv):=by
 have hL:=XGx XaB Xes Xe0 (Xak.XaJ ⟨Xqf,XM5,XPm,trivial⟩)
 exact okA ⟨Tryz.f161,rfl,by decide,rfl⟩
def XhX (Xcv:Xee) (Xit:Xhy) (t:Xag) (flags:Int) (options:List UInt8) (payload:List UInt8):Option ((List UInt8)×Int):=
 cond (t.Proto !=6)
  (
  some (([],1)))
  (
  (Xit (Xar.mk t.SPort t.DPort 0 0 flags 65535 0 options) t.Src t.Dst payload).bind fun p=>
  cond (p.2 !=0)
   (
   some (([],p.2)))
   (
   (Xcv t p.1).bind fun p1=>
   some ((p1.1,p1.2))))
def XFE (x:(List UInt8)×Int):XcU:=⟨.tuple ⟨[.string ⟨⟨x.1⟩⟩,.int .i64 x.2]⟩,[],[]⟩
abbrev Xcx:=Xag→Int→(List UInt8)→(List UInt8)→Option ((List UInt8)×Int)
def r118 (g:Xcx):Dec:=dV Xet fun (y0:Xag)=>dV (asI .i64) fun (y1:Int)=>dV asS fun (y2:List UInt8)=>dV asS fun (y3:List UInt8)=>Xd2 (ofG (g y0 y1 y2 y3) XFE)
theorem XUU {g:Xcx} {y0:Xag} {y1:Int} {y2:List UInt8} {y3:List UInt8} {x:(List UInt8)×Int} (hx:g y0 y1 y2 y3=some x):r118 g [.agg ⟨[.int .i64 y0.Proto,.bool y0.Src.V6,.int .u64 y0.Src.Hi,.int .u64 y0.Src.Lo,.bool y0.Dst.V6,.int .u64 y0.Dst.Hi,.int .u64 y0.Dst.Lo,.int .i64 y0.SPort,.int .i64 y0.DPort]⟩,.int .i64 y1,.string ⟨⟨y2⟩⟩,.string ⟨⟨y3⟩⟩] []=some (XFE x):=(XaO (Xev _)).trans ((XaO (Xen _)).trans ((XaO (Xd3)).trans ((XaO (Xd3)).trans (XaN hx))))
def s118 (g:Xcx):XbC:=⟨[.v,.v,.v,.v],r118 g⟩
theorem XAk {g:Xcx} {y0:Xag} {y1:Int} {y2:List UInt8} {y3:List UInt8} {x:(List UInt8)×Int} (hx:g y0 y1 y2 y3=some x):(s118 g).run [.agg ⟨[.int .i64 y0.Proto,.bool y0.Src.V6,.int .u64 y0.Src.Hi,.int .u64 y0.Src.Lo,.bool y0.Dst.V6,.int .u64 y0.Dst.Hi,.int .u64 y0.Dst.Lo,.int .i64 y0.SPort,.int .i64 y0.DPort]⟩,.int .i64 y1,.string ⟨⟨y2⟩⟩,.string ⟨⟨y3⟩⟩] []=some (XFE x):=XUU hx
abbrev XPz (Xcv:Xee) (Xit:Xhy):List (Nat×XbC):=[(161,s161 Xcv),(160,s160 Xit)]
theorem XDd (Xcv:Xee) (Xit:Xhy) (hS:Xak Tryz.prog (XaD (XPz Xcv Xit))) (t:Xag) (flags:Int) (options:List UInt8) (payload:List UInt8) (res:(List UInt8)×Int) (h:XhX Xcv Xit t flags options payload=some res) :
 XaF Tryz.prog 118 0 ⟨⟨118,41,[(0,.agg ⟨[.int .i64 t.Proto,.bool t.Src.V6,.int .u64 t.Src.Hi,.int .u64 t.Src.Lo,.bool t.Dst.V6,.int .u64 t.Dst.Hi,.int .u64 t.Dst.Lo,.int .i64 t.SPort,.int .i64 t.DPort]⟩),(1,.int .i64 flags),(2,.string ⟨⟨options⟩⟩),(3,.string ⟨⟨payload⟩⟩)],[.code Xzu],[],false,none⟩,[],[],0⟩ (fun v H _=>Res 0 (XFE res) v H):=by
 unfold XhX at h
 have R1:=@XPA Xit
 have R2:=@XzB Xcv
 refine Xa4 XaC hS true 3000 ?_
 conv=>whnf
 exact W
def Xbq:Xcx:=XhX Xcv Xit
theorem Xz6:XbD Tryz.prog 118 (s118 Xbq):=by
 have hL:=XDd Xcv Xit (Xak.XaJ ⟨XAx,XOS,trivial⟩)
 exact okA ⟨Tryz.f118,rfl,by decide,rfl⟩
def Xhk (Xcv:Xee) (Xiq:XhF) (t:Xag) (payload:List UInt8):Option ((List UInt8)×Int):=
 cond (t.Proto !=17)
  (
  some (([],1)))
  (
  (Xiq (XaQ.mk t.SPort t.DPort) t.Src t.Dst payload).bind fun p=>
  cond (p.2 !=0)
   (
   some (([],p.2)))
   (
   (Xcv t p.1).bind fun p1=>
   some ((p1.1,p1.2))))
def XFI (x:(List UInt8)×Int):XcU:=⟨.tuple ⟨[.string ⟨⟨x.1⟩⟩,.int .i64 x.2]⟩,[],[]⟩
abbrev Xds:=Xag→(List UInt8)→Option ((List UInt8)×Int)
def r163 (g:Xds):Dec:=dV Xet fun (y0:Xag)=>dV asS fun (y1:List UInt8)=>Xd2 (ofG (g y0 y1) XFI)
theorem XWk {g:Xds} {y0:Xag} {y1:List UInt8} {x:(List UInt8)×Int} (hx:g y0 y1=some x):r163 g [.agg ⟨[.int .i64 y0.Proto,.bool y0.Src.V6,.int .u64 y0.Src.Hi,.int .u64 y0.Src.Lo,.bool y0.Dst.V6,.int .u64 y0.Dst.Hi,.int .u64 y0.Dst.Lo,.int .i64 y0.SPort,.int .i64 y0.DPort]⟩,.string ⟨⟨y1⟩⟩] []=some (XFI x):=(XaO (Xev _)).trans ((XaO (Xd3)).trans (XaN hx))
def s163 (g:Xds):XbC:=⟨[.v,.v],r163 g⟩
theorem XQf {g:Xds} {y0:Xag} {y1:List UInt8} {x:(List UInt8)×Int} (hx:g y0 y1=some x):(s163 g).run [.agg ⟨[.int .i64 y0.Proto,.bool y0.Src.V6,.int .u64 y0.Src.Hi,.int .u64 y0.Src.Lo,.bool y0.Dst.V6,.int .u64 y0.Dst.Hi,.int .u64 y0.Dst.Lo,.int .i64 y0.SPort,.int .i64 y0.DPort]⟩,.string ⟨⟨y1⟩⟩] []=some (XFI x):=XWk hx
abbrev XKi (Xcv:Xee) (Xiq:XhF):List (Nat×XbC):=[(161,s161 Xcv),(188,s188 Xiq)]
theorem XGB (Xcv:Xee) (Xiq:XhF) (hS:Xak Tryz.prog (XaD (XKi Xcv Xiq))) (t:Xag) (payload:List UInt8) (res:(List UInt8)×Int) (h:Xhk Xcv Xiq t payload=some res) :
 XaF Tryz.prog 163 0 ⟨⟨163,33,[(0,.agg ⟨[.int .i64 t.Proto,.bool t.Src.V6,.int .u64 t.Src.Hi,.int .u64 t.Src.Lo,.bool t.Dst.V6,.int .u64 t.Dst.Hi,.int .u64 t.Dst.Lo,.int .i64 t.SPort,.int .i64 t.DPort]⟩),(1,.string ⟨⟨payload⟩⟩)],[.code Xyl],[],false,none⟩,[],[],0⟩ (fun v H _=>Res 0 (XFI res) v H):=by
 unfold Xhk at h
 have R1:=@XK9 Xiq
 have R2:=@XzB Xcv
 refine Xa4 XaC hS true 3000 ?_
 conv=>whnf
 exact W
def Xcw:Xds:=Xhk Xcv Xiq
theorem XNg:XbD Tryz.prog 163 (s163 Xcw):=by
 have hL:=XGB Xcv Xiq (Xak.XaJ ⟨XAx,XNp,trivial⟩)
 exact okA ⟨Tryz.f163,rfl,by decide,rfl⟩
def Xpf (XaL:Xcb) (Xic:Xhu) (Xh0:XhP) (t:Xag) (body:List UInt8):Option ((List UInt8)×Int):=
 cond (!(t.Src.V6==t.Dst.V6))
  (
  some (([],1)))
  (
  (XaL t.Src).bind fun xr=>
  cond (!xr)
   (
   some (([],1)))
   (
   (XaL t.Dst).bind fun xr1=>
   cond (!xr1)
    (
    some (([],1)))
    (
    cond (t.Proto !=6)
     (
     cond (t.Proto !=17)
      (
      some (([],1)))
      (
      (Xh0 (Xaq.mk 0 0 t.Proto 64 t.Src t.Dst) body).bind fun p=>
      cond (!t.Src.V6)
       (
       (Xic (Xal.mk 0 0 true 64 t.Proto t.Src t.Dst []) body).bind fun p1=>
       cond (p1.2==0)
        (
        cond (decide ((p1.1.length:Int)>9000))
         (
         some (([],5)))
         (
         some ((p1.1,p1.2))))
        (
        some ((p1.1,p1.2))))
       (
       cond (p.2==0)
        (
        cond (decide ((p.1.length:Int)>9000))
         (
         some (([],5)))
         (
         some ((p.1,p.2))))
        (
        some ((p.1,p.2))))))
     (
     (Xh0 (Xaq.mk 0 0 t.Proto 64 t.Src t.Dst) body).bind fun p2=>
     cond (!t.Src.V6)
      (
      (Xic (Xal.mk 0 0 true 64 t.Proto t.Src t.Dst []) body).bind fun p3=>
      cond (p3.2==0)
       (
       cond (decide ((p3.1.length:Int)>9000))
        (
        some (([],5)))
        (
        some ((p3.1,p3.2))))
       (
       some ((p3.1,p3.2))))
      (
      cond (p2.2==0)
       (
       cond (decide ((p2.1.length:Int)>9000))
        (
        some (([],5)))
        (
        some ((p2.1,p2.2))))
       (
       some ((p2.1,p2.2))))))))
def rx61 (x:(List UInt8)×Int):XcU:=⟨.tuple ⟨[.string ⟨⟨x.1⟩⟩,.int .i64 x.2]⟩,[],[]⟩
abbrev XgX:=Xag→(List UInt8)→Option ((List UInt8)×Int)
def r61 (g:XgX):Dec:=dV Xet fun (y0:Xag)=>dV asS fun (y1:List UInt8)=>Xd2 (ofG (g y0 y1) rx61)
theorem r61_c {g:XgX} {y0:Xag} {y1:List UInt8} {x:(List UInt8)×Int} (hx:g y0 y1=some x):r61 g [.agg ⟨[.int .i64 y0.Proto,.bool y0.Src.V6,.int .u64 y0.Src.Hi,.int .u64 y0.Src.Lo,.bool y0.Dst.V6,.int .u64 y0.Dst.Hi,.int .u64 y0.Dst.Lo,.int .i64 y0.SPort,.int .i64 y0.DPort]⟩,.string ⟨⟨y1⟩⟩] []=some (rx61 x):=(XaO (Xev _)).trans ((XaO (Xd3)).trans (XaN hx))
def s61 (g:XgX):XbC:=⟨[.v,.v],r61 g⟩
theorem XVO {g:XgX} {y0:Xag} {y1:List UInt8} {x:(List UInt8)×Int} (hx:g y0 y1=some x):(s61 g).run [.agg ⟨[.int .i64 y0.Proto,.bool y0.Src.V6,.int .u64 y0.Src.Hi,.int .u64 y0.Src.Lo,.bool y0.Dst.V6,.int .u64 y0.Dst.Hi,.int .u64 y0.Dst.Lo,.int .i64 y0.SPort,.int .i64 y0.DPort]⟩,.string ⟨⟨y1⟩⟩] []=some (rx61 x):=r61_c hx
abbrev XUp (XaL:Xcb) (Xic:Xhu) (Xh0:XhP):List (Nat×XbC):=[(59,s59 XaL),(104,s104 Xic),(103,s103 Xh0)]
theorem XMJ (XaL:Xcb) (Xic:Xhu) (Xh0:XhP) (hS:Xak Tryz.prog (XaD (XUp XaL Xic Xh0))) (t:Xag) (body:List UInt8) (res:(List UInt8)×Int) (h:Xpf XaL Xic Xh0 t body=some res) :
 XaF Tryz.prog 61 0 ⟨⟨61,74,[(0,.agg ⟨[.int .i64 t.Proto,.bool t.Src.V6,.int .u64 t.Src.Hi,.int .u64 t.Src.Lo,.bool t.Dst.V6,.int .u64 t.Dst.Hi,.int .u64 t.Dst.Lo,.int .i64 t.SPort,.int .i64 t.DPort]⟩),(1,.string ⟨⟨body⟩⟩)],[.code XIz],[],false,none⟩,[],[],0⟩ (fun v H _=>Res 0 (rx61 res) v H):=by
 unfold Xpf at h
 have R1:=@Xti XaL
 have R2:=@XMG Xh0
 have R3:=@XKe Xic
 refine Xa4 XaC hS true 3000 ?_
 conv=>whnf
 exact W
def Xg5:XgX:=Xpf XaL Xic Xh0
theorem XRd:XbD Tryz.prog 61 (s61 Xg5):=by
 have hL:=XMJ XaL Xic Xh0 (Xak.XaJ ⟨XsX,XOD,XPb,trivial⟩)
 exact okA ⟨Tryz.f61,rfl,by decide,rfl⟩
def XjI (Xip:XhR) (Xg5:XgX) (t:Xag) (flags:Int) (options:List UInt8) (payload:List UInt8):Option ((List UInt8)×Int):=
 cond (t.Proto !=6)
  (
  some (([],1)))
  (
  (Xip (Xar.mk t.SPort t.DPort 0 0 flags 65535 0 options) t.Src t.Dst payload).bind fun p=>
  cond (p.2 !=0)
   (
   some (([],p.2)))
   (
   (Xg5 t p.1).bind fun p1=>
   some ((p1.1,p1.2))))
def rx24 (x:(List UInt8)×Int):XcU:=⟨.tuple ⟨[.string ⟨⟨x.1⟩⟩,.int .i64 x.2]⟩,[],[]⟩
abbrev Xc3:=Xag→Int→(List UInt8)→(List UInt8)→Option ((List UInt8)×Int)
def r24 (g:Xc3):Dec:=dV Xet fun (y0:Xag)=>dV (asI .i64) fun (y1:Int)=>dV asS fun (y2:List UInt8)=>dV asS fun (y3:List UInt8)=>Xd2 (ofG (g y0 y1 y2 y3) rx24)
theorem r24_c {g:Xc3} {y0:Xag} {y1:Int} {y2:List UInt8} {y3:List UInt8} {x:(List UInt8)×Int} (hx:g y0 y1 y2 y3=some x):r24 g [.agg ⟨[.int .i64 y0.Proto,.bool y0.Src.V6,.int .u64 y0.Src.Hi,.int .u64 y0.Src.Lo,.bool y0.Dst.V6,.int .u64 y0.Dst.Hi,.int .u64 y0.Dst.Lo,.int .i64 y0.SPort,.int .i64 y0.DPort]⟩,.int .i64 y1,.string ⟨⟨y2⟩⟩,.string ⟨⟨y3⟩⟩] []=some (rx24 x):=(XaO (Xev _)).trans ((XaO (Xen _)).trans ((XaO (Xd3)).trans ((XaO (Xd3)).trans (XaN hx))))
def s24 (g:Xc3):XbC:=⟨[.v,.v,.v,.v],r24 g⟩
theorem XTL {g:Xc3} {y0:Xag} {y1:Int} {y2:List UInt8} {y3:List UInt8} {x:(List UInt8)×Int} (hx:g y0 y1 y2 y3=some x):(s24 g).run [.agg ⟨[.int .i64 y0.Proto,.bool y0.Src.V6,.int .u64 y0.Src.Hi,.int .u64 y0.Src.Lo,.bool y0.Dst.V6,.int .u64 y0.Dst.Hi,.int .u64 y0.Dst.Lo,.int .i64 y0.SPort,.int .i64 y0.DPort]⟩,.int .i64 y1,.string ⟨⟨y2⟩⟩,.string ⟨⟨y3⟩⟩] []=some (rx24 x):=r24_c hx
abbrev XRN (Xip:XhR) (Xg5:XgX):List (Nat×XbC):=[(60,s60 Xip),(61,s61 Xg5)]
theorem XLq (Xip:XhR) (Xg5:XgX) (hS:Xak Tryz.prog (XaD (XRN Xip Xg5))) (t:Xag) (flags:Int) (options:List UInt8) (payload:List UInt8) (res:(List UInt8)×Int) (h:XjI Xip Xg5 t flags options payload=some res) :
 XaF Tryz.prog 24 0 ⟨⟨24,39,[(0,.agg ⟨[.int .i64 t.Proto,.bool t.Src.V6,.int .u64 t.Src.Hi,.int .u64 t.Src.Lo,.bool t.Dst.V6,.int .u64 t.Dst.Hi,.int .u64 t.Dst.Lo,.int .i64 t.SPort,.int .i64 t.DPort]⟩),(1,.int .i64 flags),(2,.string ⟨⟨options⟩⟩),(3,.string ⟨⟨payload⟩⟩)],[.code XH8],[],false,none⟩,[],[],0⟩ (fun v H _=>Res 0 (rx24 res) v H):=by
 unfold XjI at h
 have R1:=@XTR Xip
 have R2:=@XVO Xg5
 refine Xa4 XaC hS true 3000 ?_
 conv=>whnf
 exact W
def XbX:Xc3:=XjI Xip Xg5
theorem lift24:XbD Tryz.prog 24 (s24 XbX):=by
 have hL:=XLq Xip Xg5 (Xak.XaJ ⟨XVY,XRd,trivial⟩)
 exact okA ⟨Tryz.f24,rfl,by decide,rfl⟩
def Xnq (Xp4:XqV) (Xg5:XgX) (t:Xag) (payload:List UInt8):Option ((List UInt8)×Int):=
 cond (t.Proto !=17)
  (
  some (([],1)))
  (
  (Xp4 (XaQ.mk t.SPort t.DPort) t.Src t.Dst payload).bind fun p=>
  cond (p.2 !=0)
   (
   some (([],p.2)))
   (
   (Xg5 t p.1).bind fun p1=>
   some ((p1.1,p1.2))))
abbrev Xjz:=Xag→(List UInt8)→Option ((List UInt8)×Int)
def Xfk:Xjz:=Xnq Xp4 Xg5
end Go.Vm.Code
namespace Go.Vm.Code
open Go Go.Vm
theorem A4.Xq6 {a:Xaa} (h:A4 a):XlY a:=⟨⟨h.1,h.2.1⟩,h.2.2.1,h.2.2.2⟩
def Xnd (t:Xag):Xaq:=⟨0,0,t.Proto,64,t.Src,t.Dst⟩
def Xk6 (t:Xag):Xal:=⟨0,0,true,64,t.Proto,t.Src,t.Dst,[]⟩
def XnG (t:Xag) (b:List UInt8):List UInt8×Int:=cond t.Src.V6 (XKb (Xnd t) b) (XJ2 (Xk6 t) b)
def Xho (t:Xag) (b:List UInt8):List UInt8×Int:=
 if t.Src.V6≠t.Dst.V6∨aok t.Src=false∨aok t.Dst=false∨(t.Proto≠6∧t.Proto≠17) then ([],1) else
  if (XnG t b).2=0∧9000<(XnG t b).1.length then ([],5) else XnG t b
theorem XVo (r:List UInt8×Int):(cond (r.2==0) (cond (decide ((r.1.length:Int)>9000)) (some (([],5):List UInt8×Int)) (some (r.1,r.2))) (some (r.1,r.2)))=some (if r.2=0∧9000<r.1.length then ([],5) else r):=by
 by_cases h:r.2=0
 ·rw [show (r.2==0)=true by simpa using h,cond_true]
  by_cases h2:9000<r.1.length
  ·rw [XaP (by omega),if_pos ⟨h,h2⟩]
  ·rw [XaI (by omega),if_neg (fun x=>h2 x.2)]
 ·rw [show (r.2==0)=false by simpa using h,cond_false,if_neg (fun x=>h x.1)]
theorem Xtc {t:Xag} {b:List UInt8} (h1:A4 t.Src) (h2:A4 t.Dst) (hb:b.length<2^20):Xg5 t b=some (Xho t b):=by
 unfold Xg5 Xpf Xho
 by_cases g1:t.Src.V6=t.Dst.V6
 ·rw [show (!(t.Src.V6==t.Dst.V6))=false by simp [g1],cond_false,Xjp,Xjp,Option.bind_some,Option.bind_some]
  cases g2:aok t.Src
  ·rw [if_pos (.inr (.inl rfl))];rfl
  cases g3:aok t.Dst
  ·rw [if_pos (.inr (.inr (.inl rfl)))];rfl
  rw [Bool.not_true,cond_false,cond_false,XDV (h:=⟨0,0,t.Proto,64,t.Src,t.Dst⟩) h1.Xq6 h2.Xq6 (by omega),XWa (h:=⟨0,0,true,64,t.Proto,t.Src,t.Dst,[]⟩) h1 h2 (by omega) (by simp)]
  simp only [Option.bind_some,XVo]
  by_cases g4:t.Proto=6
  ·rw [show (t.Proto !=6)=false by simpa using g4,cond_false,if_neg (show ¬ (t.Src.V6≠t.Dst.V6∨true=false∨true=false∨(t.Proto≠6∧t.Proto≠17)) from fun h=>h.elim (fun x=>x g1) fun h=>h.elim (fun x=>by cases x) fun h=>h.elim (fun x=>by cases x) fun x=>x.1 g4)]
   unfold XnG Xk6 Xnd
   cases t.Src.V6<;>rfl
  ·rw [show (t.Proto !=6)=true by simpa using g4,cond_true]
   by_cases g5:t.Proto=17
   ·rw [show (t.Proto !=17)=false by simpa using g5,cond_false,if_neg (show ¬ (t.Src.V6≠t.Dst.V6∨true=false∨true=false∨(t.Proto≠6∧t.Proto≠17)) from fun h=>h.elim (fun x=>x g1) fun h=>h.elim (fun x=>by cases x) fun h=>h.elim (fun x=>by cases x) fun x=>x.2 g5)]
    unfold XnG Xk6 Xnd
    cases t.Src.V6<;>rfl
   ·rw [show (t.Proto !=17)=true by simpa using g5,cond_true,if_pos (.inr (.inr (.inr ⟨g4,g5⟩)))]
 ·rw [show (!(t.Src.V6==t.Dst.V6))=true by simp [g1],cond_true,if_pos (.inl g1)]
def Xnc (t:Xag) (flags:Int) (o l:List UInt8):List UInt8×Int:=
 if t.Proto≠6 then ([],1) else if (XoL ⟨t.SPort,t.DPort,0,0,flags,65535,0,o⟩ t.Src t.Dst l).2≠0 then ([],(XoL ⟨t.SPort,t.DPort,0,0,flags,65535,0,o⟩ t.Src t.Dst l).2) else Xho t (XoL ⟨t.SPort,t.DPort,0,0,flags,65535,0,o⟩ t.Src t.Dst l).1
def Xt7 (t:Xag) (l:List UInt8):List UInt8×Int:=
 if t.Proto≠17 then ([],1) else if (Xt5 ⟨t.SPort,t.DPort⟩ t.Src t.Dst l).2≠0 then ([],(Xt5 ⟨t.SPort,t.DPort⟩ t.Src t.Dst l).2) else Xho t (Xt5 ⟨t.SPort,t.DPort⟩ t.Src t.Dst l).1
theorem XrD (h:Xar) (src dst:Xaa) (l:List UInt8):(XoL h src dst l).1.length≤20+h.Options.length+l.length:=by
 unfold XoL
 split
 ·simp
 split
 ·simp
 split
 ·simp
 ·simp only [List.length_append,Xsh];omega
theorem Xvc (h:XaQ) (src dst:Xaa) (l:List UInt8):(Xt5 h src dst l).1.length≤34+l.length:=by
 unfold Xt5
 split
 ·simp
 split
 ·simp
 split
 ·simp
 ·have:=XzR (h:=h) (l:=l)
  have:=XoW (u8 h l) 6 2 (ck8 (Xlb src dst 17 (8+l.length)) (u8 h l))
  simp only [];omega
theorem XpC {t:Xag} {flags:Int} {o l:List UInt8} (h1:A4 t.Src) (h2:A4 t.Dst) (ho:o.length<2^18) (hl:l.length<2^18):XbX t flags o l=some (Xnc t flags o l):=by
 unfold XbX XjI Xnc
 by_cases g:t.Proto=6
 ·have hw:W7 ⟨t.SPort,t.DPort,0,0,flags,65535,0,o⟩:=⟨⟨by simp only [];omega,by simp only [];omega⟩,by simp only [];omega,by simp only [];omega⟩
  have hlen:=XrD ⟨t.SPort,t.DPort,0,0,flags,65535,0,o⟩ t.Src t.Dst l
  simp only at hlen
  rw [show (t.Proto !=6)=false by simpa using g,cond_false,XGF hw h1 h2 (by omega) (by simp only [];omega),Option.bind_some,if_neg (by simpa using g)]
  by_cases g2:(XoL ⟨t.SPort,t.DPort,0,0,flags,65535,0,o⟩ t.Src t.Dst l).2=0
  ·rw [show ((XoL ⟨t.SPort,t.DPort,0,0,flags,65535,0,o⟩ t.Src t.Dst l).2 !=0)=false by simpa using g2,cond_false,if_neg (by simpa using g2),Xtc h1 h2 (by omega)];rfl
  ·rw [show ((XoL ⟨t.SPort,t.DPort,0,0,flags,65535,0,o⟩ t.Src t.Dst l).2 !=0)=true by simpa using g2,cond_true,if_pos g2]
 ·rw [show (t.Proto !=6)=true by simpa using g,cond_true,if_pos g]
theorem XAE {t:Xag} {l:List UInt8} (h1:A4 t.Src) (h2:A4 t.Dst) (hl:l.length<2^18):Xfk t l=some (Xt7 t l):=by
 unfold Xfk Xnq Xt7
 by_cases g:t.Proto=17
 ·have hlen:=Xvc ⟨t.SPort,t.DPort⟩ t.Src t.Dst l
  rw [show (t.Proto !=17)=false by simpa using g,cond_false,XCu h1 h2 (by omega),Option.bind_some,if_neg (by simpa using g)]
  by_cases g2:(Xt5 ⟨t.SPort,t.DPort⟩ t.Src t.Dst l).2=0
  ·rw [show ((Xt5 ⟨t.SPort,t.DPort⟩ t.Src t.Dst l).2 !=0)=false by simpa using g2,cond_false,if_neg (by simpa using g2),Xtc h1 h2 (by omega)];rfl
  ·rw [show ((Xt5 ⟨t.SPort,t.DPort⟩ t.Src t.Dst l).2 !=0)=true by simpa using g2,cond_true,if_pos g2]
 ·rw [show (t.Proto !=17)=true by simpa using g,cond_true,if_pos g]
theorem XvC {t:Xag} {b:List UInt8} (h:(Xho t b).2=0):t.Src.V6=t.Dst.V6∧aok t.Src=true∧aok t.Dst=true∧(t.Proto=6∨t.Proto=17)∧(Xho t b).1.length≤9000 ∧
 ((t.Src.V6=true∧H6 (Xnd t)∧b.length≤65535∧Xho t b=(headB (Xnd t) b.length++b,0))∨(t.Src.V6=false∧H5 (Xk6 t)=true∧20+b.length≤65535∧Xho t b=(hc5 (Xk6 t) (20+b.length) (ck5 (Xk6 t) (20+b.length))++b,0))):=by
 unfold Xho at h ⊢
 by_cases g:t.Src.V6≠t.Dst.V6∨aok t.Src=false∨aok t.Dst=false∨(t.Proto≠6∧t.Proto≠17)
 ·rw [if_pos g] at h;exact absurd h (by decide)
 rw [if_neg g] at h ⊢
 by_cases g2:(XnG t b).2=0∧9000<(XnG t b).1.length
 ·rw [if_pos g2] at h;exact absurd h (by decide)
 rw [if_neg g2] at h ⊢
 have hlen:(XnG t b).1.length≤9000:=by
  rcases Nat.lt_or_ge 9000 (XnG t b).1.length with x|x
  ·exact absurd ⟨h,x⟩ g2
  ·exact x
 have e1:t.Src.V6=t.Dst.V6:=Decidable.byContradiction fun x=>g (.inl x)
 have e2:aok t.Src=true:=by cases x:aok t.Src;· exact absurd (.inr (.inl x)) g
                            ·rfl
 have e3:aok t.Dst=true:=by cases x:aok t.Dst;· exact absurd (.inr (.inr (.inl x))) g
                            ·rfl
 have e4:t.Proto=6∨t.Proto=17:=by
  rcases Decidable.em (t.Proto=6) with x|x
  ·exact .inl x
  ·exact .inr (Decidable.byContradiction fun y=>g (.inr (.inr (.inr ⟨x,y⟩))))
 refine ⟨e1,e2,e3,e4,hlen,?_⟩
 unfold XnG at h ⊢
 cases hv:t.Src.V6
 ·right
  rw [hv,cond_false] at h
  rw [cond_false]
  unfold XJ2 at h ⊢
  cases hh:H5 (Xk6 t)
  ·rw [if_pos hh] at h;exact absurd h (by decide)
  rw [if_neg (by rw [hh];decide)] at h
  rw [if_neg (by decide)]
  by_cases hl:65535 - (20+((Xk6 t).Options.length:Int))<b.length
  ·rw [if_pos hl] at h;exact absurd h (by decide)
  have ho:(Xk6 t).Options.length=0:=rfl
  rw [if_neg hl]
  refine ⟨rfl,rfl,by omega,?_⟩
  rw [show (20+((Xk6 t).Options.length:Int)+b.length)=((20+b.length:Nat):Int) by omega,XSk hv (by rw [←hv];exact e1.symm),XQZ]
  have:(65535 - ((norm (Xfp (hc5 (Xk6 t) (20+b.length) 0)):Nat):Int)).toNat=ck5 (Xk6 t) (20+b.length):=by
   have:=norm_le (Xfp (hc5 (Xk6 t) (20+b.length) 0))
   unfold ck5;omega
  rw [this]
 ·left
  rw [hv,cond_true] at h
  rw [cond_true]
  unfold XKb at h ⊢
  by_cases hh:H6 (Xnd t)
  ·rw [if_neg (by simpa using hh)] at h ⊢
   by_cases hl:b.length>65535
   ·rw [if_pos hl] at h;exact absurd h (by decide)
   rw [if_neg hl]
   exact ⟨rfl,hh,by omega,rfl⟩
  ·rw [if_pos hh] at h;exact absurd h (by decide)
theorem Xwn:∀ i:Fin 16,i.val≠14→Nat.testBit 18446744073709535231 i.val=true:=by decide +kernel
theorem XwW {x:Nat} (hx:x<65536):x &&& 18446744073709535231=0↔x=0∨x=16384:=by
 constructor
 ·intro h
  have hbit:∀ i,i≠14→x.testBit i=false:=by
   intro i hi
   by_cases h16:i<16
   ·have h1:(x &&& 18446744073709535231).testBit i=false:=by rw [h];exact Nat.zero_testBit i
    rw [Nat.testBit_and,Xwn ⟨i,h16⟩ hi,Bool.and_true] at h1
    exact h1
   ·exact Nat.testBit_lt_two_pow (Nat.lt_of_lt_of_le hx (by
     have:2^16≤2^i:=Nat.pow_le_pow_right (by decide) (by omega)
     omega))
  cases h14:x.testBit 14
  ·left
   apply Nat.eq_of_testBit_eq
   intro i
   rw [Nat.zero_testBit]
   by_cases hi:i=14
   ·rw [hi,h14]
   ·exact hbit i hi
  ·right
   apply Nat.eq_of_testBit_eq
   intro i
   rw [show (16384:Nat)=2^14 from rfl,Nat.testBit_two_pow]
   by_cases hi:i=14
   ·rw [hi,h14];rfl
   ·rw [hbit i hi,decide_eq_false (fun e=>hi e.symm)]
 ·rintro (h|h)
  ·rw [h];rfl
  ·rw [h];rfl
theorem XRT {x:Nat} (hx:x<65536):XB9 .i64 (x:Int) 16384=((x &&& 18446744073709535231:Nat):Int):=by
 have h:x &&& 18446744073709535231≤x:=Nat.and_le_left
 show IntKind.wrap .i64 _=_
 rw [show IntKind.bits .i64=64 from rfl,BitVec.toNat_and,XPo (by omega),show (~~~ (BitVec.ofInt 64 16384)).toNat=18446744073709535231 from rfl]
 exact XdY (by omega) (by omega)
theorem Xyp {a b:UInt8}:(XB9 .i64 ((a.toNat:Int)*256+b.toNat) 16384 !=0)=decide ((a.toNat:Int)*256+b.toNat≠0∧(a.toNat:Int)*256+b.toNat≠16384):=by
 have h1:=a.toNat_lt
 have h2:=b.toNat_lt
 have hx:a.toNat*256+b.toNat<65536:=by omega
 rw [show (a.toNat:Int)*256+b.toNat=((a.toNat*256+b.toNat:Nat):Int) by omega,XRT hx,Bool.eq_iff_iff,bne_iff_ne,decide_eq_true_eq]
 have hz:=XwW hx
 generalize a.toNat*256+b.toNat=x at *
 generalize x &&& 18446744073709535231=y at *
 constructor
 ·intro h
  have:¬ (x=0∨x=16384):=fun e=>h (by have:=hz.2 e;omega)
  omega
 ·intro h e
  have:=hz.1 (by omega)
  omega
end Go.Vm.Code
namespace Go.Vm.Code
open Go Go.Vm Go.Proofs
set_option maxRecDepth 100000
set_option maxHeartbeats 4000000
set_option linter.unusedVariables false
def Xlw (Xbd:XcP) (s:List UInt8):Option (Xaa×Bool):=
 cond ((s.length:Int)==4)
  (
  (Xbd s 0 4).bind fun xg=>
  some ((Xaa.mk false 0 xg.1,true)))
  (
  cond ((s.length:Int)==16)
   (
   (Xbd s 0 8).bind fun xg1=>
   (Xbd s 8 8).bind fun xg2=>
   some ((Xaa.mk true xg1.1 xg2.1,true)))
   (
   some ((Xaa.mk false 0 0,false))))
def XCr (x:Xaa×Bool):XcU:=⟨.tuple ⟨[.agg ⟨[.bool x.1.V6,.int .u64 x.1.Hi,.int .u64 x.1.Lo]⟩,.bool x.2]⟩,[],[]⟩
abbrev XeW:=(List UInt8)→Option (Xaa×Bool)
def r202 (g:XeW):Dec:=dV asS fun (y0:List UInt8)=>Xd2 (ofG (g y0) XCr)
theorem XVg {g:XeW} {y0:List UInt8} {x:Xaa×Bool} (hx:g y0=some x):r202 g [.string ⟨⟨y0⟩⟩] []=some (XCr x):=(XaO (Xd3)).trans (XaN hx)
def s202 (g:XeW):XbC:=⟨[.v],r202 g⟩
theorem XBz {g:XeW} {y0:List UInt8} {x:Xaa×Bool} (hx:g y0=some x):(s202 g).run [.string ⟨⟨y0⟩⟩] []=some (XCr x):=XVg hx
abbrev XO2 (Xbd:XcP):List (Nat×XbC):=[(95,s95 Xbd)]
theorem XGe (Xbd:XcP) (hS:Xak Tryz.prog (XaD (XO2 Xbd))) (s:List UInt8) (res:Xaa×Bool) (h:Xlw Xbd s=some res) :
 XaF Tryz.prog 202 0 ⟨⟨202,35,[(0,.string ⟨⟨s⟩⟩)],[.code Xxv],[],false,none⟩,[],[],0⟩ (fun v H _=>Res 0 (XCr res) v H):=by
 unfold Xlw at h
 have R1:=@XxA Xbd
 refine Xa4 XaC hS true 3000 ?_
 conv=>whnf
 exact W
def Xdq:XeW:=Xlw Xbd
theorem Xyu:XbD Tryz.prog 202 (s202 Xdq):=by
 have hL:=XGe Xbd (Xak.XaJ ⟨XzP,trivial⟩)
 exact okA ⟨Tryz.f202,rfl,by decide,rfl⟩
def XnB (Xc1:XeK) (s:List UInt8):Option (Xaa×Bool):=
 cond ((s.length:Int)==4)
  (
  (Xc1 s 0 4).bind fun xg=>
  some ((Xaa.mk false 0 xg.1,true)))
  (
  cond ((s.length:Int)==16)
   (
   (Xc1 s 0 8).bind fun xg1=>
   (Xc1 s 8 8).bind fun xg2=>
   some ((Xaa.mk true xg1.1 xg2.1,true)))
   (
   some ((Xaa.mk false 0 0,false))))
def XHa (x:Xaa×Bool):XcU:=⟨.tuple ⟨[.agg ⟨[.bool x.1.V6,.int .u64 x.1.Hi,.int .u64 x.1.Lo]⟩,.bool x.2]⟩,[],[]⟩
abbrev XfM:=(List UInt8)→Option (Xaa×Bool)
def r177 (g:XfM):Dec:=dV asS fun (y0:List UInt8)=>Xd2 (ofG (g y0) XHa)
theorem XR5 {g:XfM} {y0:List UInt8} {x:Xaa×Bool} (hx:g y0=some x):r177 g [.string ⟨⟨y0⟩⟩] []=some (XHa x):=(XaO (Xd3)).trans (XaN hx)
def s177 (g:XfM):XbC:=⟨[.v],r177 g⟩
theorem Xzj {g:XfM} {y0:List UInt8} {x:Xaa×Bool} (hx:g y0=some x):(s177 g).run [.string ⟨⟨y0⟩⟩] []=some (XHa x):=XR5 hx
abbrev XLF (Xc1:XeK):List (Nat×XbC):=[(87,s87 Xc1)]
theorem XDm (Xc1:XeK) (hS:Xak Tryz.prog (XaD (XLF Xc1))) (s:List UInt8) (res:Xaa×Bool) (h:XnB Xc1 s=some res) :
 XaF Tryz.prog 177 0 ⟨⟨177,37,[(0,.string ⟨⟨s⟩⟩)],[.code Xx8],[],false,none⟩,[],[],0⟩ (fun v H _=>Res 0 (XHa res) v H):=by
 unfold XnB at h
 have R1:=@XzL Xc1
 refine Xa4 XaC hS true 3000 ?_
 conv=>whnf
 exact W
def Xd7:XfM:=XnB Xc1
theorem XxB:XbD Tryz.prog 177 (s177 Xd7):=by
 have hL:=XDm Xc1 (Xak.XaJ ⟨XxZ,trivial⟩)
 exact okA ⟨Tryz.f177,rfl,by decide,rfl⟩
end Go.Vm.Code
namespace Go.Vm.Code
open Go Go.Vm
theorem Xrc {s:List UInt8} (h:s.length=16):Xdq s=some (Xtv s,true):=by
 unfold Xdq Xlw
 have e1:((s.length:Int)==4)=false:=by rw [h];rfl
 have e2:((s.length:Int)==16)=true:=by rw [h];rfl
 have e3:(s.drop 8).take 8=s.drop 8:=List.take_of_length_le (by simp;omega)
 rw [e1,e2,cond_false,cond_true,XgG (by omega),XgG (by omega),Xi9 (p:=0) (k:=8) (by omega) (by omega) (by omega) (by omega),Xi9 (p:=8) (k:=8) (by omega) (by omega) (by omega) (by omega)]
 show some ((⟨true,((Xfy ((s.drop 0).take 8):Nat):Int),((Xfy ((s.drop 8).take 8):Nat):Int)⟩:Xaa),true)=_
 rw [e3];rfl
theorem XtH {s:List UInt8} (h:s.length=16):Xd7 s=some (Xtv s,true):=by
 unfold Xd7 XnB
 have e1:((s.length:Int)==4)=false:=by rw [h];rfl
 have e2:((s.length:Int)==16)=true:=by rw [h];rfl
 have e3:(s.drop 8).take 8=s.drop 8:=List.take_of_length_le (by simp;omega)
 rw [e1,e2,cond_false,cond_true,Xkm (by omega),Xkm (by omega),Xi9 (p:=0) (k:=8) (by omega) (by omega) (by omega) (by omega),Xi9 (p:=8) (k:=8) (by omega) (by omega) (by omega) (by omega)]
 show some ((⟨true,((Xfy ((s.drop 0).take 8):Nat):Int),((Xfy ((s.drop 8).take 8):Nat):Int)⟩:Xaa),true)=_
 rw [e3];rfl
def XRh (s:List UInt8) (p:Nat):Xaa:=⟨false,0,vK s p 4⟩
theorem aget4 {s:List UInt8} (h:s.length=4):Xdq s=some (⟨false,0,vK s 0 4⟩,true):=by
 unfold Xdq Xlw
 rw [show ((s.length:Int)==4)=true by rw [h];rfl,cond_true,XgG (by omega),Xi9 (by omega) (by omega) (by omega) (by omega)];rfl
theorem XIw {s:List UInt8} (h:s.length=4):Xd7 s=some (⟨false,0,vK s 0 4⟩,true):=by
 unfold Xd7 XnB
 rw [show ((s.length:Int)==4)=true by rw [h];rfl,cond_true,Xkm (by omega),Xi9 (by omega) (by omega) (by omega) (by omega)];rfl
end Go.Vm.Code
namespace Go.Vm.Code
open Go Go.Vm Go.Proofs
set_option maxRecDepth 100000
set_option maxHeartbeats 4000000
set_option linter.unusedVariables false
def Xe2 (Xdq:XeW) (Xaf:Xav) (f:XdE):Option (Xaa×Xah):=
 (Xaf f.Reader 4).bind fun t=>
 (Xdq t.1).bind fun xg=>
 some ((xg.1,t.2))
def XG8 (x:Xaa×Xah):XcU:=⟨.agg ⟨[.bool x.1.V6,.int .u64 x.1.Hi,.int .u64 x.1.Lo]⟩,[],[some [.string ⟨⟨x.2.s⟩⟩,.bool x.2.made,.bool x.2.bad]]⟩
abbrev Xcf:=XdE→Option (Xaa×Xah)
def r201 (g:Xcf):Dec:=dTr 1 (Xh8 0) fun (y0:XdE)=>Xd2 (ofG (g y0) XG8)
theorem XWh {g:Xcf} {y0:XdE} {x:Xaa×Xah} (hx:g y0=some x):r201 g [.agg ⟨[.pointer (some ⟨0,0,none⟩)]⟩] [some [.string ⟨⟨y0.Reader.s⟩⟩,.bool y0.Reader.made,.bool y0.Reader.bad]]=some (XG8 x):=(XQ7 rfl rfl (Xoy 0 _)).trans (XaN hx)
def s201 (g:Xcf):XbC:=⟨[.tr [⟨none,0,0,1,none⟩]],r201 g⟩
theorem XMO {g:Xcf} {y0:XdE} {x:Xaa×Xah} (hx:g y0=some x):(s201 g).run [.agg ⟨[.pointer (some ⟨0,0,none⟩)]⟩] [some [.string ⟨⟨y0.Reader.s⟩⟩,.bool y0.Reader.made,.bool y0.Reader.bad]]=some (XG8 x):=XWh hx
abbrev XJ6 (Xdq:XeW) (Xaf:Xav):List (Nat×XbC):=[(202,s202 Xdq),(129,XBC Xaf)]
theorem XHj (Xdq:XeW) (Xaf:Xav) (hS:Xak Tryz.prog (XaD (XJ6 Xdq Xaf))) (f:XdE) (res:Xaa×Xah) (h:Xe2 Xdq Xaf f=some res) :
 XaF Tryz.prog 201 1 ⟨⟨201,13,[(0,.agg ⟨[.pointer (some ⟨0,0,none⟩)]⟩)],[.code XIL],[],false,none⟩,[],[(0,.cells [.string ⟨⟨f.Reader.s⟩⟩,.bool f.Reader.made,.bool f.Reader.bad])],1⟩ (fun v H _=>Res 1 (XG8 res) v H):=by
 unfold Xe2 at h
 have R1:=@Xlm Xaf
 have R2:=@XBz Xdq
 refine Xa4 XaC hS true 3000 ?_
 conv=>whnf
 exact W
def Xbg:Xcf:=Xe2 Xdq Xaf
theorem XPg:XbD Tryz.prog 201 (s201 Xbg):=by
 have hL:=XHj Xdq Xaf (Xak.XaJ ⟨Xyu,XlU,trivial⟩)
 exact okA ⟨Tryz.f201,rfl,by decide,rfl⟩
def XkO (Xa5:Xcz) (Xbg:Xcf) (Xa2:Xce) (Xad:XaH) (Xaf:Xav) (s:List UInt8):Option (Xal×(List UInt8)×Int):=
 cond (decide ((s.length:Int)<20))
  (
  some ((Xal.mk 0 0 false 0 0 (Xaa.mk false 0 0) (Xaa.mk false 0 0) [],[],2)))
  (
  (Xa2 s).bind fun n=>
  (Xad n 1).bind fun n1=>
  (Xad n1.2 1).bind fun n2=>
  (Xad n2.2 2).bind fun n3=>
  cond ((n1.1.fdiv (2^4)) !=4)
   (
   some ((Xal.mk 0 0 false 0 0 (Xaa.mk false 0 0) (Xaa.mk false 0 0) [],[],3)))
   (
   let t:=decide ((wI .i64 ((XnS .i64 n1.1 15)*4))<20)
   cond (t)
    (
    some ((Xal.mk 0 0 false 0 0 (Xaa.mk false 0 0) (Xaa.mk false 0 0) [],[],3)))
    (
    let t1:=decide (n3.1<(wI .i64 ((XnS .i64 n1.1 15)*4)))
    cond (t1)
     (
     some ((Xal.mk 0 0 false 0 0 (Xaa.mk false 0 0) (Xaa.mk false 0 0) [],[],3)))
     (
     cond (decide (n3.1>(s.length:Int)))
      (
      some ((Xal.mk 0 0 false 0 0 (Xaa.mk false 0 0) (Xaa.mk false 0 0) [],[],2)))
      (
      Xbn (decide ((0:Int)≤(wI .i64 ((XnS .i64 n1.1 15)*4))∧(wI .i64 ((XnS .i64 n1.1 15)*4))≤(s.length:Int))) <|
      let t2:=s.take (wI .i64 ((XnS .i64 n1.1 15)*4)).toNat
      (Xa5 t2).bind fun xr=>
      cond (!xr)
       (
       some ((Xal.mk 0 0 false 0 0 (Xaa.mk false 0 0) (Xaa.mk false 0 0) [],[],4)))
       (
       (Xad n3.2 2).bind fun n4=>
       (Xad n4.2 2).bind fun n5=>
       cond ((XB9 .i64 n5.1 16384) !=0)
        (
        some ((Xal.mk 0 0 false 0 0 (Xaa.mk false 0 0) (Xaa.mk false 0 0) [],[],7)))
        (
        (Xad n5.2 1).bind fun n6=>
        (Xad n6.2 1).bind fun n7=>
        (Xad n7.2 2).bind fun n8=>
        (Xbg (XdE.mk n8.2)).bind fun a=>
        (Xbg (XdE.mk a.2)).bind fun a1=>
        let t3:=wI .i64 ((wI .i64 ((XnS .i64 n1.1 15)*4)) - 20)
        (Xaf a1.2 t3).bind fun t4=>
        let t5:=wI .i64 (n3.1 - (wI .i64 ((XnS .i64 n1.1 15)*4)))
        (Xaf t4.2 t5).bind fun t6=>
        some ((Xal.mk n2.1 n4.1 (n5.1 !=0) n6.1 n7.1 a.1 a1.1 t4.1,t6.1,0)))))))))
def XHe (x:Xal×(List UInt8)×Int):XcU:=⟨.tuple ⟨[.agg ⟨[.int .i64 x.1.Class,.int .i64 x.1.Mark,.bool x.1.Whole,.int .i64 x.1.TTL,.int .i64 x.1.Proto,.bool x.1.Src.V6,.int .u64 x.1.Src.Hi,.int .u64 x.1.Src.Lo,.bool x.1.Dst.V6,.int .u64 x.1.Dst.Hi,.int .u64 x.1.Dst.Lo,.string ⟨⟨x.1.Options⟩⟩]⟩,.string ⟨⟨x.2.1⟩⟩,.int .i64 x.2.2]⟩,[],[]⟩
abbrev Xfn:=(List UInt8)→Option (Xal×(List UInt8)×Int)
def r190 (g:Xfn):Dec:=dV asS fun (y0:List UInt8)=>Xd2 (ofG (g y0) XHe)
theorem XVw {g:Xfn} {y0:List UInt8} {x:Xal×(List UInt8)×Int} (hx:g y0=some x):r190 g [.string ⟨⟨y0⟩⟩] []=some (XHe x):=(XaO (Xd3)).trans (XaN hx)
def s190 (g:Xfn):XbC:=⟨[.v],r190 g⟩
theorem XNF {g:Xfn} {y0:List UInt8} {x:Xal×(List UInt8)×Int} (hx:g y0=some x):(s190 g).run [.string ⟨⟨y0⟩⟩] []=some (XHe x):=XVw hx
abbrev XLt (Xa5:Xcz) (Xbg:Xcf) (Xa2:Xce) (Xad:XaH) (Xaf:Xav):List (Nat×XbC):=[(80,s80 Xa5),(201,s201 Xbg),(77,s77 Xa2),(78,s78 Xad),(129,XBC Xaf)]
theorem XCv (Xa5:Xcz) (Xbg:Xcf) (Xa2:Xce) (Xad:XaH) (Xaf:Xav) (hS:Xak Tryz.prog (XaD (XLt Xa5 Xbg Xa2 Xad Xaf))) (s:List UInt8) (res:Xal×(List UInt8)×Int) (h:XkO Xa5 Xbg Xa2 Xad Xaf s=some res) :
 XaF Tryz.prog 190 0 ⟨⟨190,102,[(0,.string ⟨⟨s⟩⟩)],[.code Xxx],[],false,none⟩,[],[],0⟩ (fun v H _=>Res 0 (XHe res) v H):=by
 unfold XkO at h
 have R1:=@Xtm Xa2
 have R2:=@XmE Xad
 have R3:=@Xxy Xa5
 have R4:=@XMO Xbg
 have R5:=@Xlm Xaf
 refine Xa4 XaC hS true 3000 ?_
 conv=>whnf
 exact W
def XeU:Xfn:=XkO Xa5 Xbg Xa2 Xad Xaf
theorem XNU:XbD Tryz.prog 190 (s190 XeU):=by
 have hL:=XCv Xa5 Xbg Xa2 Xad Xaf (Xak.XaJ ⟨Xyd,XPg,Xs7,Xq4,XlU,trivial⟩)
 exact okA ⟨Tryz.f190,rfl,by decide,rfl⟩
def XoU (Xao:XbA) (Xcm:XdJ) (Xd7:XfM) (s:List UInt8):Option (Xal×(List UInt8)×Int):=
 cond (decide ((s.length:Int)<20))
  (
  some ((Xal.mk 0 0 false 0 0 (Xaa.mk false 0 0) (Xaa.mk false 0 0) [],[],2)))
  (
  (s[0]?).bind fun (b:UInt8)=>
  let t:=wI .i64 (4*(wI .i64 ((b.toNat:Int).tmod 16)))
  (Xao s 2 2).bind fun m=>
  (s[0]?).bind fun (b1:UInt8)=>
  cond ((wI .u8 ((b1.toNat:Int).tdiv 16)) !=4)
   (
   some ((Xal.mk 0 0 false 0 0 (Xaa.mk false 0 0) (Xaa.mk false 0 0) [],[],3)))
   (
   cond (decide (t<20))
    (
    some ((Xal.mk 0 0 false 0 0 (Xaa.mk false 0 0) (Xaa.mk false 0 0) [],[],3)))
    (
    cond (decide (m<t))
     (
     some ((Xal.mk 0 0 false 0 0 (Xaa.mk false 0 0) (Xaa.mk false 0 0) [],[],3)))
     (
     cond (decide ((s.length:Int)<m))
      (
      some ((Xal.mk 0 0 false 0 0 (Xaa.mk false 0 0) (Xaa.mk false 0 0) [],[],2)))
      (
      Xbn (decide ((0:Int)≤t∧t≤(s.length:Int))) <|
      (Xcm (s.take t.toNat)).bind fun s1=>
      cond (s1 !=65535)
       (
       some ((Xal.mk 0 0 false 0 0 (Xaa.mk false 0 0) (Xaa.mk false 0 0) [],[],4)))
       (
       (s[6]?).bind fun (b2:UInt8)=>
       cond ((b2.toNat:Int) !=0)
        (
        (s[6]?).bind fun (b3:UInt8)=>
        cond ((b3.toNat:Int) !=64)
         (
         some ((Xal.mk 0 0 false 0 0 (Xaa.mk false 0 0) (Xaa.mk false 0 0) [],[],7)))
         (
         (s[7]?).bind fun (b4:UInt8)=>
         cond ((b4.toNat:Int) !=0)
          (
          some ((Xal.mk 0 0 false 0 0 (Xaa.mk false 0 0) (Xaa.mk false 0 0) [],[],7)))
          (
          Xbn (decide ((0:Int)≤(16:Int)∧(16:Int)≤(s.length:Int)∧(0:Int)≤(12:Int)∧(12:Int)≤(16:Int))) <|
          (Xd7 ((s.drop 12).take 4)).bind fun xg=>
          Xbn (decide ((0:Int)≤(20:Int)∧(20:Int)≤(s.length:Int)∧(0:Int)≤(16:Int)∧(16:Int)≤(20:Int))) <|
          (Xd7 ((s.drop 16).take 4)).bind fun xg1=>
          (s[1]?).bind fun (b5:UInt8)=>
          (Xao s 4 2).bind fun m1=>
          (s[6]?).bind fun (b6:UInt8)=>
          (s[8]?).bind fun (b7:UInt8)=>
          (s[9]?).bind fun (b8:UInt8)=>
          Xbn (decide ((0:Int)≤t∧t≤(s.length:Int)∧(0:Int)≤(20:Int)∧(20:Int)≤(t.toNat:Int))) <|
          Xbn (decide ((0:Int)≤m∧m≤(s.length:Int)∧(0:Int)≤t∧t≤(m.toNat:Int))) <|
          let t1:=(s.drop t.toNat).take (m.toNat - t.toNat)
          some ((Xal.mk (wI .i64 (b5.toNat:Int)) m1 ((b6.toNat:Int)==64) (wI .i64 (b7.toNat:Int)) (wI .i64 (b8.toNat:Int)) xg.1 xg1.1 ((s.drop 20).take (t.toNat - 20)),t1,0)))))
        (
        (s[7]?).bind fun (b9:UInt8)=>
        cond ((b9.toNat:Int) !=0)
         (
         some ((Xal.mk 0 0 false 0 0 (Xaa.mk false 0 0) (Xaa.mk false 0 0) [],[],7)))
         (
         Xbn (decide ((0:Int)≤(16:Int)∧(16:Int)≤(s.length:Int)∧(0:Int)≤(12:Int)∧(12:Int)≤(16:Int))) <|
         (Xd7 ((s.drop 12).take 4)).bind fun xg2=>
         Xbn (decide ((0:Int)≤(20:Int)∧(20:Int)≤(s.length:Int)∧(0:Int)≤(16:Int)∧(16:Int)≤(20:Int))) <|
         (Xd7 ((s.drop 16).take 4)).bind fun xg3=>
         (s[1]?).bind fun (b10:UInt8)=>
         (Xao s 4 2).bind fun m2=>
         (s[6]?).bind fun (b11:UInt8)=>
         (s[8]?).bind fun (b12:UInt8)=>
         (s[9]?).bind fun (b13:UInt8)=>
         Xbn (decide ((0:Int)≤t∧t≤(s.length:Int)∧(0:Int)≤(20:Int)∧(20:Int)≤(t.toNat:Int))) <|
         Xbn (decide ((0:Int)≤m∧m≤(s.length:Int)∧(0:Int)≤t∧t≤(m.toNat:Int))) <|
         let t2:=(s.drop t.toNat).take (m.toNat - t.toNat)
         some ((Xal.mk (wI .i64 (b10.toNat:Int)) m2 ((b11.toNat:Int)==64) (wI .i64 (b12.toNat:Int)) (wI .i64 (b13.toNat:Int)) xg2.1 xg3.1 ((s.drop 20).take (t.toNat - 20)),t2,0))))))))))
def XG2 (x:Xal×(List UInt8)×Int):XcU:=⟨.tuple ⟨[.agg ⟨[.int .i64 x.1.Class,.int .i64 x.1.Mark,.bool x.1.Whole,.int .i64 x.1.TTL,.int .i64 x.1.Proto,.bool x.1.Src.V6,.int .u64 x.1.Src.Hi,.int .u64 x.1.Src.Lo,.bool x.1.Dst.V6,.int .u64 x.1.Dst.Hi,.int .u64 x.1.Dst.Lo,.string ⟨⟨x.1.Options⟩⟩]⟩,.string ⟨⟨x.2.1⟩⟩,.int .i64 x.2.2]⟩,[],[]⟩
abbrev XhN:=(List UInt8)→Option (Xal×(List UInt8)×Int)
def r152 (g:XhN):Dec:=dV asS fun (y0:List UInt8)=>Xd2 (ofG (g y0) XG2)
theorem XUH {g:XhN} {y0:List UInt8} {x:Xal×(List UInt8)×Int} (hx:g y0=some x):r152 g [.string ⟨⟨y0⟩⟩] []=some (XG2 x):=(XaO (Xd3)).trans (XaN hx)
def s152 (g:XhN):XbC:=⟨[.v],r152 g⟩
theorem XPU {g:XhN} {y0:List UInt8} {x:Xal×(List UInt8)×Int} (hx:g y0=some x):(s152 g).run [.string ⟨⟨y0⟩⟩] []=some (XG2 x):=XUH hx
abbrev XKw (Xao:XbA) (Xcm:XdJ) (Xd7:XfM):List (Nat×XbC):=[(88,s88 Xao),(86,s86 Xcm),(177,s177 Xd7)]
theorem XB6 (Xao:XbA) (Xcm:XdJ) (Xd7:XfM) (hS:Xak Tryz.prog (XaD (XKw Xao Xcm Xd7))) (s:List UInt8) (res:Xal×(List UInt8)×Int) (h:XoU Xao Xcm Xd7 s=some res) :
 XaF Tryz.prog 152 0 ⟨⟨152,97,[(0,.string ⟨⟨s⟩⟩)],[.code Xzv],[],false,none⟩,[],[],0⟩ (fun v H _=>Res 0 (XG2 res) v H):=by
 unfold XoU at h
 have R1:=@XoB Xao
 have R2:=@Xvg Xcm
 have R3:=@Xzj Xd7
 refine Xa4 XaC hS true 3000 ?_
 conv=>whnf
 exact W
def XiG:XhN:=XoU Xao Xcm Xd7
theorem XK4:XbD Tryz.prog 152 (s152 XiG):=by
 have hL:=XB6 Xao Xcm Xd7 (Xak.XaJ ⟨Xp7,Xwe,XxB,trivial⟩)
 exact okA ⟨Tryz.f152,rfl,by decide,rfl⟩
end Go.Vm.Code
namespace Go.Vm.Code
open Go Go.Vm
def Xql:Xal:=⟨0,0,false,0,0,⟨false,0,0⟩,⟨false,0,0⟩,[]⟩
def XjH (s:List UInt8):Xal×List UInt8×Int:=
 if s.length<20 then (Xql,[],2) else if vK s 0 1/16≠4 then (Xql,[],3) else if vK s 0 1%16*4<20 then (Xql,[],3) else if vK s 2 2<vK s 0 1%16*4 then (Xql,[],3) else if (s.length:Int)<vK s 2 2 then (Xql,[],2) else
  if norm (Xfp (s.take (vK s 0 1%16*4).toNat))≠65535 then (Xql,[],4) else if vK s 6 2≠0∧vK s 6 2≠16384 then (Xql,[],7) else
   (⟨vK s 1 1,vK s 4 2,vK s 6 2 !=0,vK s 8 1,vK s 9 1,XRh s 12,XRh s 16,(s.drop 20).take ((vK s 0 1%16*4).toNat - 20)⟩,(s.drop (vK s 0 1%16*4).toNat).take ((vK s 2 2).toNat - (vK s 0 1%16*4).toNat),0)
theorem XBg (s:List UInt8) (p:Nat):vK ((s.drop p).take 4) 0 4=vK s p 4:=by unfold vK;simp [List.take_take]
theorem XTk {s:List UInt8} {p:Nat} (h:p+4≤s.length):Xbg ⟨⟨s.drop p,true,false⟩⟩=some (XRh s p,⟨s.drop (p+4),true,false⟩):=by
 unfold Xbg Xe2
 rw [show (4:Int)=((4:Nat):Int) from rfl,Xrv h,Option.bind_some,aget4 (by simp;omega),Option.bind_some,XBg];rfl
theorem g5_eq {s:List UInt8} (hs:s.length<2^38):XeU s=some (XjH s):=by
 unfold XeU XkO XjH
 by_cases h0:s.length<20
 ·rw [XaP (by omega),if_pos h0];rfl
 rw [XaI (by omega),if_neg h0,XpK,Option.bind_some]
 have N:∀ (p k:Nat),1≤k→k≤7→p+k≤20→Xad ⟨s.drop p,true,false⟩ (k:Int)=some (vK s p k,⟨s.drop (p+k),true,false⟩):=fun p k a b c=>XIB a b (by omega) (by omega)
 have N0:Xad ⟨s,true,false⟩ 1=some (vK s 0 1,⟨s.drop 1,true,false⟩):=N 0 1 (by omega) (by omega) (by omega)
 have N1:Xad ⟨s.drop 1,true,false⟩ 1=some (vK s 1 1,⟨s.drop 2,true,false⟩):=N 1 1 (by omega) (by omega) (by omega)
 have N2:Xad ⟨s.drop 2,true,false⟩ 2=some (vK s 2 2,⟨s.drop 4,true,false⟩):=N 2 2 (by omega) (by omega) (by omega)
 have N4:Xad ⟨s.drop 4,true,false⟩ 2=some (vK s 4 2,⟨s.drop 6,true,false⟩):=N 4 2 (by omega) (by omega) (by omega)
 have N6:Xad ⟨s.drop 6,true,false⟩ 2=some (vK s 6 2,⟨s.drop 8,true,false⟩):=N 6 2 (by omega) (by omega) (by omega)
 have N8:Xad ⟨s.drop 8,true,false⟩ 1=some (vK s 8 1,⟨s.drop 9,true,false⟩):=N 8 1 (by omega) (by omega) (by omega)
 have N9:Xad ⟨s.drop 9,true,false⟩ 1=some (vK s 9 1,⟨s.drop 10,true,false⟩):=N 9 1 (by omega) (by omega) (by omega)
 have N10:Xad ⟨s.drop 10,true,false⟩ 2=some (vK s 10 2,⟨s.drop 12,true,false⟩):=N 10 2 (by omega) (by omega) (by omega)
 rw [N0,Option.bind_some,N1,Option.bind_some,N2,Option.bind_some]
 simp only []
 rw [N4]
 simp only [Option.bind_some]
 rw [N6,Xtq,show ((2:Int)^4)=16 from rfl]
 have r0:=XfW s 0 1 256 (by decide)
 have r2:=XfW s 2 2 65536 (by decide)
 have ea:XnS .i64 (vK s 0 1) 15=vK s 0 1%16:=Xju 4 rfl (by omega) (by omega) (by omega)
 rw [ea,XdY (n:=vK s 0 1%16*4) (by omega) (by omega)]
 have hz:(⟨0,0,false,0,0,⟨false,0,0⟩,⟨false,0,0⟩,[]⟩:Xal)=Xql:=rfl
 rw [hz]
 by_cases g1:vK s 0 1/16=4
 ·rw [show (vK s 0 1/16 !=4)=false by simpa using g1,cond_false,if_neg (by simpa using g1)]
  obtain ⟨t,ht⟩:=Int.eq_ofNat_of_zero_le (show 0≤vK s 0 1%16*4 by omega)
  rw [ht]
  simp only [Option.bind_some,Int.toNat_natCast]
  by_cases g2:(t:Int)<20
  ·rw [XaP g2,if_pos g2]
  rw [XaI g2,if_neg g2]
  by_cases g3:vK s 2 2<t
  ·rw [XaP g3,if_pos g3]
  rw [XaI g3,if_neg g3]
  by_cases g4:(s.length:Int)<vK s 2 2
  ·rw [XaP (by omega),if_pos g4]
  rw [XaI (by omega),if_neg g4,Xat (by omega),XrS (by simp;omega),Option.bind_some]
  by_cases g5:norm (Xfp (s.take t))=65535
  ·rw [if_neg (by simpa using g5),g5]
   simp only [show ((((65535:Nat):Int)==65535))=true from rfl,Bool.not_true,cond_false]
   have e6:=Xzd (s:=s) (p:=6) (by omega)
   rw [show (XB9 .i64 (vK s 6 2) 16384 !=0)=decide (vK s 6 2≠0∧vK s 6 2≠16384) by rw [e6];exact Xyp,XrQ]
   split
   ·rfl
   obtain ⟨m,hm⟩:=Int.eq_ofNat_of_zero_le r2.1
   rw [N8,Option.bind_some,N9,Option.bind_some,N10,Option.bind_some,XTk (by omega),Option.bind_some,XTk (by omega),Option.bind_some,XdY (n:=(t:Int) - 20) (by omega) (by omega),hm,XdY (n:=(m:Int) - t) (by omega) (by omega)]
   simp only []
   rw [show (t:Int) - 20=((t - 20:Nat):Int) by omega,show (m:Int) - t=((m - t:Nat):Int) by omega,Xrv (by omega),Option.bind_some]
   simp only []
   rw [Xrv (by omega),Option.bind_some,show 12+4+4+(t - 20)=t by omega,Int.toNat_natCast]
  ·rw [if_pos (by simpa using g5),show ((((norm (Xfp (s.take t)):Nat):Int)==65535))=false by simp;omega];rfl
 ·rw [show (vK s 0 1/16 !=4)=true by simpa using g1,cond_true,if_pos (by simpa using g1)]
theorem XRn {s:List UInt8} (hs:s.length<2^38):XiG s=some (XjH s):=by
 unfold XiG XoU XjH
 by_cases h0:s.length<20
 ·rw [XaP (by omega),if_pos h0];rfl
 rw [XaI (by omega),if_neg h0]
 have G:∀ i:Nat,(h:i<20)→s[i]?=some (s[i]'(by omega)):=fun i h=>List.getElem?_eq_getElem (by omega)
 have M:∀ (p k:Nat),1≤k→k≤7→p+k≤20→Xao s (p:Int) (k:Int)=some (vK s p k):=fun p k a b c=>XrH (by omega) a b (by omega)
 have M2:Xao s 2 2=some (vK s 2 2):=M 2 2 (by omega) (by omega) (by omega)
 have M4:Xao s 4 2=some (vK s 4 2):=M 4 2 (by omega) (by omega) (by omega)
 rw [G 0 (by omega),G 1 (by omega),G 6 (by omega),G 7 (by omega),G 8 (by omega),G 9 (by omega),M2,M4]
 have e0:=XmA (s:=s) (p:=0) (by omega)
 have e1:=XmA (s:=s) (p:=1) (by omega)
 have e8:=XmA (s:=s) (p:=8) (by omega)
 have e9:=XmA (s:=s) (p:=9) (by omega)
 have e6:vK s 6 2=(s[6].toNat*256+s[7].toNat:Int):=Xzd (s:=s) (p:=6) (by omega)
 have r0:=XfW s 0 1 256 (by decide)
 have r1:=XfW s 1 1 256 (by decide)
 have r8:=XfW s 8 1 256 (by decide)
 have r9:=XfW s 9 1 256 (by decide)
 have r2:=XfW s 2 2 65536 (by decide)
 simp only [Option.bind_some]
 rw [←e0,←e1,←e8,←e9,Int.tmod_eq_emod_of_nonneg r0.1,Int.tdiv_eq_ediv_of_nonneg r0.1,XdY (n:=vK s 0 1%16) (by omega) (by omega),XdY (n:=4*(vK s 0 1%16)) (by omega) (by omega),wU8 (n:=vK s 0 1/16) (by omega) (by omega),XdY (n:=vK s 1 1) (by omega) (by omega),XdY (n:=vK s 8 1) (by omega) (by omega),XdY (n:=vK s 9 1) (by omega) (by omega)]
 have hz:(⟨0,0,false,0,0,⟨false,0,0⟩,⟨false,0,0⟩,[]⟩:Xal)=Xql:=rfl
 rw [hz,Int.mul_comm 4]
 by_cases g1:vK s 0 1/16=4
 ·rw [show (vK s 0 1/16 !=4)=false by simpa using g1,cond_false,if_neg (by simpa using g1)]
  obtain ⟨t,ht⟩:=Int.eq_ofNat_of_zero_le (show 0≤vK s 0 1%16*4 by omega)
  rw [ht]
  simp only [Int.toNat_natCast]
  by_cases g2:(t:Int)<20
  ·rw [XaP g2,if_pos g2]
  rw [XaI g2,if_neg g2]
  by_cases g3:vK s 2 2<t
  ·rw [XaP g3,if_pos g3]
  rw [XaI g3,if_neg g3]
  by_cases g4:(s.length:Int)<vK s 2 2
  ·rw [XaP (by omega),if_pos g4]
  rw [XaI (by omega),if_neg g4,Xat (by omega),Xmc (by simp;omega),Option.bind_some]
  by_cases g5:norm (Xfp (s.take t))=65535
  ·rw [if_neg (by simpa using g5),g5]
   simp only [show ((((65535:Nat):Int) !=65535))=false from rfl,cond_false]
   have a1:=XIw (s:=(s.drop 12).take 4) (by simp;omega)
   have a2:=XIw (s:=(s.drop 16).take 4) (by simp;omega)
   rw [a1,a2,XBg,XBg]
   obtain ⟨m,hm⟩:=Int.eq_ofNat_of_zero_le r2.1
   rw [hm]
   simp only [Option.bind_some,Int.toNat_natCast]
   rw [Xat (p:=(0:Int)≤16∧(16:Int)≤(s.length:Int)∧(0:Int)≤12∧(12:Int)≤16) (by omega),Xat (p:=(0:Int)≤20∧(20:Int)≤(s.length:Int)∧(0:Int)≤16∧(16:Int)≤20) (by omega),Xat (p:=(0:Int)≤(t:Int)∧(t:Int)≤(s.length:Int)∧(0:Int)≤20∧(20:Int)≤(t:Int)) (by omega),Xat (p:=(0:Int)≤(m:Int)∧(m:Int)≤(s.length:Int)∧(0:Int)≤(t:Int)∧(t:Int)≤(m:Int)) (by omega)]
   have b6:=s[6].toNat_lt
   have b7:=s[7].toNat_lt
   by_cases k6:(s[6].toNat:Int)=0
   ·rw [show ((s[6].toNat:Int) !=0)=false by simpa using k6,cond_false]
    by_cases k7:(s[7].toNat:Int)=0
    ·rw [show ((s[7].toNat:Int) !=0)=false by simpa using k7,cond_false,if_neg (by rw [e6];omega),show (vK s 6 2 !=0)=false by rw [e6,k6,k7];rfl,k6];rfl
    ·rw [show ((s[7].toNat:Int) !=0)=true by simpa using k7,cond_true,if_pos (by rw [e6];omega)]
   ·rw [show ((s[6].toNat:Int) !=0)=true by simpa using k6,cond_true]
    by_cases k8:(s[6].toNat:Int)=64
    ·rw [show ((s[6].toNat:Int) !=64)=false by rw [k8];rfl,cond_false]
     by_cases k7:(s[7].toNat:Int)=0
     ·rw [show ((s[7].toNat:Int) !=0)=false by simpa using k7,cond_false,if_neg (by rw [e6];omega),show (vK s 6 2 !=0)=true by rw [e6,k8,k7];rfl,k8];rfl
     ·rw [show ((s[7].toNat:Int) !=0)=true by simpa using k7,cond_true,if_pos (by rw [e6];omega)]
    ·rw [show ((s[6].toNat:Int) !=64)=true by simpa using k8,cond_true,if_pos (by rw [e6];omega)]
  ·rw [if_pos (by simpa using g5),show ((((norm (Xfp (s.take t)):Nat):Int) !=65535))=true by simp;omega];rfl
 ·rw [show (vK s 0 1/16 !=4)=true by simpa using g1,cond_true,if_pos (by simpa using g1)]
end Go.Vm.Code
namespace Go.Vm.Code
open Go Go.Vm Go.Proofs
set_option maxRecDepth 100000
set_option maxHeartbeats 4000000
set_option linter.unusedVariables false
def Xmn (Xdq:XeW) (Xa2:Xce) (Xai:XaG) (Xad:XaH) (Xaf:Xav) (s:List UInt8):Option (Xaq×(List UInt8)×Int):=
 (Xa2 s).bind fun n=>
 (Xad n 4).bind fun n1=>
 (Xad n1.2 2).bind fun n2=>
 (Xad n2.2 1).bind fun n3=>
 (Xad n3.2 1).bind fun n4=>
 (Xaf n4.2 16).bind fun t=>
 (Xaf t.2 16).bind fun t1=>
 (Xai t1.2).bind fun b=>
 cond (b.1)
  (
  some ((Xaq.mk 0 0 0 0 (Xaa.mk false 0 0) (Xaa.mk false 0 0),[],2)))
  (
  cond ((n1.1.fdiv (2^28)) !=6)
   (
   some ((Xaq.mk 0 0 0 0 (Xaa.mk false 0 0) (Xaa.mk false 0 0),[],3)))
   (
   (Xdq t.1).bind fun xg=>
   (Xdq t1.1).bind fun xg1=>
   (Xaf b.2 n2.1).bind fun t2=>
   (Xai t2.2).bind fun b1=>
   cond (b1.1)
    (
    some ((Xaq.mk 0 0 0 0 (Xaa.mk false 0 0) (Xaa.mk false 0 0),[],2)))
    (
    some ((Xaq.mk (XnS .i64 (n1.1.fdiv (2^20)) 255) (XnS .i64 n1.1 1048575) n3.1 n4.1 xg.1 xg1.1,t2.1,0)))))
def XCW (x:Xaq×(List UInt8)×Int):XcU:=⟨.tuple ⟨[.agg ⟨[.int .i64 x.1.Class,.int .i64 x.1.Label,.int .i64 x.1.Next,.int .i64 x.1.Hop,.bool x.1.Src.V6,.int .u64 x.1.Src.Hi,.int .u64 x.1.Src.Lo,.bool x.1.Dst.V6,.int .u64 x.1.Dst.Hi,.int .u64 x.1.Dst.Lo]⟩,.string ⟨⟨x.2.1⟩⟩,.int .i64 x.2.2]⟩,[],[]⟩
abbrev XfT:=(List UInt8)→Option (Xaq×(List UInt8)×Int)
def r191 (g:XfT):Dec:=dV asS fun (y0:List UInt8)=>Xd2 (ofG (g y0) XCW)
theorem XSD {g:XfT} {y0:List UInt8} {x:Xaq×(List UInt8)×Int} (hx:g y0=some x):r191 g [.string ⟨⟨y0⟩⟩] []=some (XCW x):=(XaO (Xd3)).trans (XaN hx)
def s191 (g:XfT):XbC:=⟨[.v],r191 g⟩
theorem XM2 {g:XfT} {y0:List UInt8} {x:Xaq×(List UInt8)×Int} (hx:g y0=some x):(s191 g).run [.string ⟨⟨y0⟩⟩] []=some (XCW x):=XSD hx
abbrev XK5 (Xdq:XeW) (Xa2:Xce) (Xai:XaG) (Xad:XaH) (Xaf:Xav):List (Nat×XbC):=[(202,s202 Xdq),(77,s77 Xa2),(138,XIR Xai),(78,s78 Xad),(129,XBC Xaf)]
theorem XGK (Xdq:XeW) (Xa2:Xce) (Xai:XaG) (Xad:XaH) (Xaf:Xav) (hS:Xak Tryz.prog (XaD (XK5 Xdq Xa2 Xai Xad Xaf))) (s:List UInt8) (res:Xaq×(List UInt8)×Int) (h:Xmn Xdq Xa2 Xai Xad Xaf s=some res) :
 XaF Tryz.prog 191 0 ⟨⟨191,59,[(0,.string ⟨⟨s⟩⟩)],[.code Xx2],[],false,none⟩,[],[],0⟩ (fun v H _=>Res 0 (XCW res) v H):=by
 unfold Xmn at h
 have R1:=@Xtm Xa2
 have R2:=@XmE Xad
 have R3:=@Xlm Xaf
 have R4:=@Xm0 Xai
 have R5:=@XBz Xdq
 refine Xa4 XaC hS true 3000 ?_
 conv=>whnf
 exact W
def XfO:XfT:=Xmn Xdq Xa2 Xai Xad Xaf
theorem XNL:XbD Tryz.prog 191 (s191 XfO):=by
 have hL:=XGK Xdq Xa2 Xai Xad Xaf (Xak.XaJ ⟨Xyu,Xs7,Xn2,Xq4,XlU,trivial⟩)
 exact okA ⟨Tryz.f191,rfl,by decide,rfl⟩
def Xpn (Xao:XbA) (Xd7:XfM) (s:List UInt8):Option (Xaq×(List UInt8)×Int):=
 cond (decide ((s.length:Int)<40))
  (
  some ((Xaq.mk 0 0 0 0 (Xaa.mk false 0 0) (Xaa.mk false 0 0),[],2)))
  (
  (Xao s 0 4).bind fun m=>
  (Xao s 4 2).bind fun m1=>
  cond ((wI .i64 (m.tdiv 268435456)) !=6)
   (
   some ((Xaq.mk 0 0 0 0 (Xaa.mk false 0 0) (Xaa.mk false 0 0),[],3)))
   (
   let t:=decide ((wI .i64 ((s.length:Int) - 40))<m1)
   cond (t)
    (
    some ((Xaq.mk 0 0 0 0 (Xaa.mk false 0 0) (Xaa.mk false 0 0),[],2)))
    (
    Xbn (decide ((0:Int)≤(24:Int)∧(24:Int)≤(s.length:Int)∧(0:Int)≤(8:Int)∧(8:Int)≤(24:Int))) <|
    (Xd7 ((s.drop 8).take 16)).bind fun xg=>
    Xbn (decide ((0:Int)≤(40:Int)∧(40:Int)≤(s.length:Int)∧(0:Int)≤(24:Int)∧(24:Int)≤(40:Int))) <|
    (Xd7 ((s.drop 24).take 16)).bind fun xg1=>
    (s[6]?).bind fun (b:UInt8)=>
    (s[7]?).bind fun (b1:UInt8)=>
    Xbn (decide ((0:Int)≤(wI .i64 (40+m1))∧(wI .i64 (40+m1))≤(s.length:Int)∧(0:Int)≤(40:Int)∧(40:Int)≤((wI .i64 (40+m1)).toNat:Int))) <|
    let t1:=(s.drop 40).take ((wI .i64 (40+m1)).toNat - 40)
    some ((Xaq.mk ((wI .i64 (m.tdiv 1048576)).tmod 256) (m.tmod 1048576) (wI .i64 (b.toNat:Int)) (wI .i64 (b1.toNat:Int)) xg.1 xg1.1,t1,0)))))
def XEj (x:Xaq×(List UInt8)×Int):XcU:=⟨.tuple ⟨[.agg ⟨[.int .i64 x.1.Class,.int .i64 x.1.Label,.int .i64 x.1.Next,.int .i64 x.1.Hop,.bool x.1.Src.V6,.int .u64 x.1.Src.Hi,.int .u64 x.1.Src.Lo,.bool x.1.Dst.V6,.int .u64 x.1.Dst.Hi,.int .u64 x.1.Dst.Lo]⟩,.string ⟨⟨x.2.1⟩⟩,.int .i64 x.2.2]⟩,[],[]⟩
abbrev XhD:=(List UInt8)→Option (Xaq×(List UInt8)×Int)
def r153 (g:XhD):Dec:=dV asS fun (y0:List UInt8)=>Xd2 (ofG (g y0) XEj)
theorem XWp {g:XhD} {y0:List UInt8} {x:Xaq×(List UInt8)×Int} (hx:g y0=some x):r153 g [.string ⟨⟨y0⟩⟩] []=some (XEj x):=(XaO (Xd3)).trans (XaN hx)
def s153 (g:XhD):XbC:=⟨[.v],r153 g⟩
theorem XPL {g:XhD} {y0:List UInt8} {x:Xaq×(List UInt8)×Int} (hx:g y0=some x):(s153 g).run [.string ⟨⟨y0⟩⟩] []=some (XEj x):=XWp hx
abbrev XJ0 (Xao:XbA) (Xd7:XfM):List (Nat×XbC):=[(88,s88 Xao),(177,s177 Xd7)]
theorem XFP (Xao:XbA) (Xd7:XfM) (hS:Xak Tryz.prog (XaD (XJ0 Xao Xd7))) (s:List UInt8) (res:Xaq×(List UInt8)×Int) (h:Xpn Xao Xd7 s=some res) :
 XaF Tryz.prog 153 0 ⟨⟨153,59,[(0,.string ⟨⟨s⟩⟩)],[.code XAF],[],false,none⟩,[],[],0⟩ (fun v H _=>Res 0 (XEj res) v H):=by
 unfold Xpn at h
 have R1:=@XoB Xao
 have R2:=@Xzj Xd7
 refine Xa4 XaC hS true 3000 ?_
 conv=>whnf
 exact W
def XiD:XhD:=Xpn Xao Xd7
theorem XLv:XbD Tryz.prog 153 (s153 XiD):=by
 have hL:=XFP Xao Xd7 (Xak.XaJ ⟨Xp7,XxB,trivial⟩)
 exact okA ⟨Tryz.f153,rfl,by decide,rfl⟩
end Go.Vm.Code
namespace Go.Vm.Code
open Go Go.Vm
def zero6:Xaq:=⟨0,0,0,0,⟨false,0,0⟩,⟨false,0,0⟩⟩
def XHf (s:List UInt8):Xaq:=
 let m:=Xfy (s.take 4)
 ⟨((m/2^20%256:Nat):Int),((m%2^20:Nat):Int),((Xfy ((s.drop 6).take 1):Nat):Int),((Xfy ((s.drop 7).take 1):Nat):Int),Xtv ((s.drop 8).take 16),Xtv ((s.drop 24).take 16)⟩
def Xk9 (s:List UInt8):Xaq×List UInt8×Int:=
 if s.length<40 then (zero6,[],2) else if Xfy (s.take 4)/2^28≠6 then (zero6,[],3) else if s.length - 40<Xfy ((s.drop 4).take 2) then (zero6,[],2) else
  (XHf s,(s.drop 40).take (Xfy ((s.drop 4).take 2)),0)
theorem XQd {s:List UInt8} (h:s.length<2^60):XfO s=some (Xk9 s):=by
 unfold XfO Xmn
 rw [XpK,Option.bind_some]
 by_cases hs:s.length<40
 ·have e:Xk9 s=(zero6,[],2):=by unfold Xk9;rw [if_pos hs]
  rw [Xia rfl (by simp only [];omega),Option.bind_some]
  simp only []
  have b1:∀ (r:Xah) (k:Int),(rdr r k).s.length≤r.s.length:=by intro r k;unfold rdr;split<;>simp
  have l1:=b1 ⟨s,true,false⟩ (if (4:Int)<1∨(4:Int)>7 then -1 else 4)
  simp only at l1
  generalize hr1:rdr ⟨s,true,false⟩ (if (4:Int)<1∨(4:Int)>7 then -1 else 4)=r1 at *
  have m1:r1.made=true:=by rw [←hr1];exact Xh6 _ _
  rw [Xia m1 (by omega),Option.bind_some]
  simp only []
  have l2:=b1 r1 (if (2:Int)<1∨(2:Int)>7 then -1 else 2)
  generalize hr2:rdr r1 (if (2:Int)<1∨(2:Int)>7 then -1 else 2)=r2 at *
  have m2:r2.made=true:=by rw [←hr2];exact Xh6 _ _
  rw [Xia m2 (by omega),Option.bind_some]
  simp only []
  have l3:=b1 r2 (if (1:Int)<1∨(1:Int)>7 then -1 else 1)
  generalize hr3:rdr r2 (if (1:Int)<1∨(1:Int)>7 then -1 else 1)=r3 at *
  have m3:r3.made=true:=by rw [←hr3];exact Xh6 _ _
  rw [Xia m3 (by omega),Option.bind_some]
  simp only []
  have l4:=b1 r3 (if (1:Int)<1∨(1:Int)>7 then -1 else 1)
  generalize hr4:rdr r3 (if (1:Int)<1∨(1:Int)>7 then -1 else 1)=r4 at *
  have m4:r4.made=true:=by rw [←hr4];exact Xh6 _ _
  rw [XgU m4,Option.bind_some]
  simp only []
  generalize hr5:rdr r4 16=r5 at *
  have m5:r5.made=true:=by rw [←hr5];exact Xh6 _ _
  rw [XgU m5,Option.bind_some]
  simp only []
  generalize hr6:rdr r5 16=r6 at *
  have m6:r6.made=true:=by rw [←hr6];exact Xh6 _ _
  rw [Xgt m6,Option.bind_some]
  have hb:r6.bad=true:=by
   cases hb:r6.bad with
   | true=>rfl
   | false=>
     exfalso
     obtain ⟨a5,n6⟩:=XiM hr6 hb
     obtain ⟨a4,n5⟩:=XiM hr5 a5
     obtain ⟨a3,n4⟩:=XiM hr4 a4
     obtain ⟨a2,n3⟩:=XiM hr3 a3
     obtain ⟨a1,n2⟩:=XiM hr2 a2
     obtain ⟨a0,n1⟩:=XiM hr1 a1
     rw [show (if (4:Int)<1∨(4:Int)>7 then -1 else 4:Int)=4 by decide] at n1
     simp only at n1
     omega
  simp only [hb,cond_true]
  rw [e];rfl
 ·have i4:(if (4:Int)<1∨(4:Int)>7 then -1 else 4:Int)=4:=by decide
  have i2:(if (2:Int)<1∨(2:Int)>7 then -1 else 2:Int)=2:=by decide
  have i1:(if (1:Int)<1∨(1:Int)>7 then -1 else 1:Int)=1:=by decide
  have t4:(4:Int).toNat=4:=rfl
  have t2:(2:Int).toNat=2:=rfl
  have t1:(1:Int).toNat=1:=rfl
  have t16:(16:Int).toNat=16:=rfl
  rw [Xia rfl (by simp only [];omega),Option.bind_some]
  simp only [rdn,i4]
  rw [XjB (by omega) (by omega),XjA (by omega) (by omega),t4]
  rw [Xia rfl (by simp;omega),Option.bind_some]
  simp only [rdn,i2]
  rw [XjB (by omega) (by simp;omega),XjA (by omega) (by simp;omega),t2,List.drop_drop]
  rw [Xia rfl (by simp;omega),Option.bind_some]
  simp only [rdn,i1]
  rw [XjB (by omega) (by simp;omega),XjA (by omega) (by simp;omega),t1,List.drop_drop]
  rw [Xia rfl (by simp;omega),Option.bind_some]
  simp only [rdn,i1]
  rw [XjB (by omega) (by simp;omega),XjA (by omega) (by simp;omega),t1,List.drop_drop]
  rw [XgU rfl,Option.bind_some]
  simp only []
  rw [XjB (by omega) (by simp;omega),XjA (by omega) (by simp;omega),t16,List.drop_drop]
  rw [XgU rfl,Option.bind_some]
  simp only []
  rw [XjB (by omega) (by simp;omega),XjA (by omega) (by simp;omega),t16,List.drop_drop]
  rw [Xgt rfl,Option.bind_some]
  simp only [cond_false,Nat.reduceAdd]
  have v4:Xfy (s.take 4)<2^32:=Xfo _ (by decide)
  have v2:Xfy ((s.drop 4).take 2)<2^16:=Xfo _ (by decide)
  unfold Xk9
  rw [if_neg hs]
  have e1:((((Xfy (s.take 4):Nat):Int).fdiv (2^28)) !=6)=decide (Xfy (s.take 4)/2^28≠6):=by
   rw [Xtq,Bool.eq_iff_iff,bne_iff_ne,decide_eq_true_eq];omega
  rw [e1]
  by_cases h6:Xfy (s.take 4)/2^28≠6
  ·rw [XaP h6,if_pos h6];rfl
  rw [XaI h6,if_neg h6]
  rw [Xrc (by simp;omega),Xrc (by simp;omega)]
  simp only [Option.bind_some]
  rw [XgU rfl,Option.bind_some]
  by_cases hn:s.length - 40<Xfy ((s.drop 4).take 2)
  ·rw [Xgt (Xh6 _ _),Option.bind_some]
   have hb:(rdr ⟨s.drop 40,true,false⟩ ((Xfy ((s.drop 4).take 2):Nat):Int)).bad=true:=by
    cases hb:(rdr ⟨s.drop 40,true,false⟩ ((Xfy ((s.drop 4).take 2):Nat):Int)).bad with
    | true=>rfl
    | false=>
      exfalso
      obtain ⟨_,_,c⟩:=XuW.1 hb
      simp at c;omega
   simp only [hb,cond_true]
   rw [if_pos hn];rfl
  ·rw [XjB (by omega) (by simp;omega),XjA (by omega) (by simp;omega),Xgt rfl,Option.bind_some]
   simp only [cond_false,Int.toNat_natCast]
   rw [if_neg hn]
   unfold XHf
   simp only []
   have e2:XnS .i64 ((((Xfy (s.take 4):Nat):Int)).fdiv (2^20)) 255=((Xfy (s.take 4)/2^20%256:Nat):Int):=by
    rw [Xtq,Xju (m:=255) 8 (by decide) (by decide) (by omega) (by omega)];omega
   have e3:XnS .i64 ((Xfy (s.take 4):Nat):Int) 1048575=((Xfy (s.take 4)%2^20:Nat):Int):=by
    rw [Xju (m:=1048575) 20 (by decide) (by decide) (by omega) (by omega)];omega
   rw [e2,e3]
theorem XEA {s:List UInt8} (h:s.length<2^60):XiD s=some (Xk9 s):=by
 unfold XiD Xpn Xk9
 by_cases hs:s.length<40
 ·rw [XaP (by omega),if_pos hs];rfl
 rw [XaI (by omega),if_neg hs]
 have v4:Xfy (s.take 4)<2^32:=Xfo _ (by decide)
 have v2:Xfy ((s.drop 4).take 2)<2^16:=Xfo _ (by decide)
 rw [Xin (by omega),Xin (by omega),Xi9 (p:=0) (k:=4) (by omega) (by omega) (by omega) (by omega),Xi9 (p:=4) (k:=2) (by omega) (by omega) (by omega) (by omega)]
 simp only [Option.bind_some,show (0:Int).toNat=0 from rfl,show (4:Int).toNat=4 from rfl,show (2:Int).toNat=2 from rfl,List.drop_zero]
 rw [XdY (n:=((Xfy (s.take 4):Nat):Int)) (by omega) (by omega),XdY (n:=((Xfy ((s.drop 4).take 2):Nat):Int)) (by omega) (by omega)]
 have e1:((wI .i64 ((((Xfy (s.take 4):Nat):Int)).tdiv 268435456)) !=6)=decide (Xfy (s.take 4)/2^28≠6):=by
  rw [Int.tdiv_eq_ediv_of_nonneg (by omega),XdY (by omega) (by omega),Bool.eq_iff_iff,bne_iff_ne,decide_eq_true_eq];omega
 rw [e1]
 by_cases h6:Xfy (s.take 4)/2^28≠6
 ·rw [XaP h6,if_pos h6];rfl
 rw [XaI h6,if_neg h6,XdY (n:=(s.length:Int) - 40) (by omega) (by omega)]
 by_cases hn:s.length - 40<Xfy ((s.drop 4).take 2)
 ·rw [XaP (by omega),if_pos hn];rfl
 rw [XaI (by omega),if_neg hn,Xat (by omega),XtH (by simp;omega),Option.bind_some,Xat (by omega),XtH (by simp;omega),Option.bind_some,List.getElem?_eq_getElem (by omega:6<s.length),Option.bind_some,
  List.getElem?_eq_getElem (by omega:7<s.length),Option.bind_some,XdY (n:=40+((Xfy ((s.drop 4).take 2):Nat):Int)) (by omega) (by omega),Xat (by omega)]
 have b6:=s[6].toNat_lt
 have b7:=s[7].toNat_lt
 have e6:(s.drop 6).take 1=[s[6]]:=by rw [List.drop_eq_getElem_cons (by omega:6<s.length)];rfl
 have e7:(s.drop 7).take 1=[s[7]]:=by rw [List.drop_eq_getElem_cons (by omega:7<s.length)];rfl
 have e8:(40+((Xfy ((s.drop 4).take 2):Nat):Int)).toNat - 40=Xfy ((s.drop 4).take 2):=by omega
 unfold XHf
 simp only [e6,e7,e8,Xhl,XPh]
 rw [Int.tdiv_eq_ediv_of_nonneg (by omega),XdY (n:=((Xfy (s.take 4):Nat):Int)/1048576) (by omega) (by omega),Int.tmod_eq_emod_of_nonneg (by omega),Int.tmod_eq_emod_of_nonneg (by omega),XdY (n:=(s[6].toNat:Int)) (by omega) (by omega),XdY (n:=(s[7].toNat:Int)) (by omega) (by omega)]
 simp
end Go.Vm.Code
namespace Go.Vm.Code
open Go Go.Vm Go.Proofs
set_option maxRecDepth 100000
set_option maxHeartbeats 4000000
set_option linter.unusedVariables false
def XhM (Xbd:XcP) (text:List UInt8) (i:Int):Option (Sum Int (Int×Int×Int)):=
 cond (decide (i<(text.length:Int)))
  (
  Xbn (decide (0≤i)) <|
  (text[i.toNat]?).bind fun (b:UInt8)=>
  cond ((b.toNat:Int)==0)
   (
   some (.inr ((0,0,(-1)))))
   (
   cond ((b.toNat:Int)==1)
    (
    some (.inl (wI .i64 (i+1))))
    (
    let t:=decide ((wI .i64 (i+1))<(text.length:Int))
    cond (t)
     (
     Xbn (decide (0≤(wI .i64 (i+1)))) <|
     (text[(wI .i64 (i+1)).toNat]?).bind fun (b1:UInt8)=>
     cond (decide ((wI .i64 (b1.toNat:Int))<2))
      (
      some (.inr ((0,0,(-1)))))
      (
      let t1:=decide ((wI .i64 (b1.toNat:Int))>(wI .i64 ((text.length:Int) - i)))
      cond (t1)
       (
       some (.inr ((0,0,(-1)))))
       (
       Xbn (decide (0≤i)) <|
       (text[i.toNat]?).bind fun (b2:UInt8)=>
       Xbn (decide ((0:Int)≤(wI .i64 (i+(wI .i64 (b1.toNat:Int))))∧(wI .i64 (i+(wI .i64 (b1.toNat:Int))))≤(text.length:Int)∧(0:Int)≤(wI .i64 (i+2))∧(wI .i64 (i+2))≤((wI .i64 (i+(wI .i64 (b1.toNat:Int)))).toNat:Int))) <|
       let t2:=(text.drop (wI .i64 (i+2)).toNat).take ((wI .i64 (i+(wI .i64 (b1.toNat:Int)))).toNat - (wI .i64 (i+2)).toNat)
       cond ((wI .i64 (b2.toNat:Int)) !=8)
        (
        some (.inl (wI .i64 (i+(wI .i64 (b1.toNat:Int))))))
        (
        (Xbd t2 0 8).bind fun xg=>
        cond (xg.2)
         (
         cond ((t2.length:Int)==8)
          (
          some (.inr ((wI .u32 (xg.1.fdiv (2^32)),wI .u32 xg.1,wI .i64 (i+2)))))
          (
          some (.inr ((0,0,(-1))))))
         (
         some (.inr ((0,0,(-1)))))))))
     (
     some (.inr ((0,0,(-1))))))))
  (
  some (.inr ((0,0,(-1)))))
def Xma (Xbd:XcP) (XdC:XeL) (text:List UInt8):Option (Int×Int×Int):=
 (XdC text).bind fun l=>
 cond (l.2 !=0)
  (
  some ((0,0,(-1))))
  (
  iter (fun st=>XhM Xbd text st) FUEL 0)
def Xwq (x:Int×Int×Int):XcU:=⟨.tuple ⟨[.int .u32 x.1,.int .u32 x.2.1,.int .i64 x.2.2]⟩,[],[]⟩
abbrev XfV:=(List UInt8)→Option (Int×Int×Int)
def r134 (g:XfV):Dec:=dV asS fun (y0:List UInt8)=>Xd2 (ofG (g y0) Xwq)
theorem XVH {g:XfV} {y0:List UInt8} {x:Int×Int×Int} (hx:g y0=some x):r134 g [.string ⟨⟨y0⟩⟩] []=some (Xwq x):=(XaO (Xd3)).trans (XaN hx)
def s134 (g:XfV):XbC:=⟨[.v],r134 g⟩
theorem XMP {g:XfV} {y0:List UInt8} {x:Int×Int×Int} (hx:g y0=some x):(s134 g).run [.string ⟨⟨y0⟩⟩] []=some (Xwq x):=XVH hx
abbrev Xyb (Xbd:XcP) (XdC:XeL):List (Nat×XbC):=[(95,s95 Xbd),(169,s169 XdC)]
def Xkk (text:List UInt8) (i:Int):VM:=
 ⟨⟨193,62,[(0,.func (.yield 6) #[] #[]),(1,.pointer (some ⟨4,0,none⟩)),(3,.int .i64 i)],[.code XpU,.inLoop XpU,.inBlock 0],[],false,none⟩,[⟨134,46,[(2,.pointer (some ⟨0,0,none⟩)),(3,.pointer (some ⟨1,0,none⟩)),(4,.pointer (some ⟨2,0,none⟩))],[.inRangeFunc 6,.inBlock 0,.code XxS],[5],false,none⟩],[(0,.cells [.int .u32 0]),(1,.cells [.int .u32 0]),(2,.cells [.int .i64 0]),(4,.cells [.string ⟨⟨text⟩⟩]),(5,.marks),(6,.loop ⟨.ready,none,134,46,[(2,.pointer (some ⟨0,0,none⟩)),(3,.pointer (some ⟨1,0,none⟩)),(4,.pointer (some ⟨2,0,none⟩))],[19],XI1,XzC,5⟩)],7⟩
theorem Xyv (Xbd:XcP) (XdC:XeL) (hS:Xak Tryz.prog (XaD (Xyb Xbd XdC))) (text:List UInt8) (res:Int×Int×Int):∀ fuel (st:Int) (o:Int×Int×Int),iter (fun st=>XhM Xbd text st) fuel st=some o→(o=res) →
 XaF Tryz.prog 134 0 (Xkk text st) (fun v H _=>Res 0 (Xwq res) v H):=by
 intro fuel st o h hc
 refine Xdh (head:=fun st=>Xkk text st) (C:=fun o=>(o=res)) ?_ fuel st o h hc
 clear h hc o st fuel
 intro i o h hc
 replace h:XhM Xbd text i=some o:=h
 show XaF Tryz.prog 134 0 (Xkk text i) (fun v H _=>Res 0 (Xwq res) v H)
 unfold XhM at h
 have R1:=@XxA Xbd
 refine Xa4 XaC hS true 3000 ?_
 conv=>whnf
 refine br.h2 h (by rfl) ?_ ?_
 ·clear h;intro hb h;conv=>whnf
  exact W
 clear h;intro hb h;conv=>whnf
 replace h:=Xbn.elim h;obtain ⟨hb,h⟩:=h
 try (refine req.intro hb ?_;conv=>whnf)
 replace h:=Xdy.elim h;obtain ⟨b,hy,h⟩:=h
 refine rdS.intro hy ?_
 conv=>whnf
 refine br.h h (by rfl) ?_ ?_
 ·clear h;intro hb h;conv=>whnf
  exact W
 clear h;intro hb h;conv=>whnf
 refine br.h h (by rfl) ?_ ?_
 ·clear h;intro hb h;conv=>whnf
  cases h;simp only [Sum.elim_inl,Xkk] at hc
  exact XEx hc [(0,0),(1,1),(2,2),(4,4),(5,5),(6,6)] rfl
 clear h;intro hb h;conv=>whnf
 let t:Bool:=decide ((wI .i64 (i+1))<(text.length:Int))
 refine br.h2 h (by rfl) ?_ ?_
 ·clear h;intro hb h;conv=>whnf
  exact W
 clear h;intro hb h;conv=>whnf
 replace h:=Xbn.elim h;obtain ⟨hb,h⟩:=h
 try (refine req.intro hb ?_;conv=>whnf)
 replace h:=Xdy.elim h;obtain ⟨b1,hy,h⟩:=h
 refine rdS.intro hy ?_
 conv=>whnf
 refine br.h h (by rfl) ?_ ?_
 ·clear h;intro hb h;conv=>whnf
  exact W
 clear h;intro hb h;conv=>whnf
 let t1:Bool:=decide ((wI .i64 (b1.toNat:Int))>(wI .i64 ((text.length:Int) - i)))
 refine br.h h (by rfl) ?_ ?_
 ·clear h;intro hb h;conv=>whnf
  exact W
 clear h;intro hb h;conv=>whnf
 replace h:=Xbn.elim h;obtain ⟨hb,h⟩:=h
 try (refine req.intro hb ?_;conv=>whnf)
 replace h:=Xdy.elim h;obtain ⟨b2,hy,h⟩:=h
 refine rdS.intro hy ?_
 conv=>whnf
 replace h:=Xbn.elim h;obtain ⟨hb,h⟩:=h
 try (refine req.intro hb ?_;conv=>whnf)
 let t2:List UInt8:=(text.drop (wI .i64 (i+2)).toNat).take ((wI .i64 (i+(wI .i64 (b1.toNat:Int)))).toNat - (wI .i64 (i+2)).toNat)
 refine br.h h (by rfl) ?_ ?_
 ·clear h;intro hb h;conv=>whnf
  cases h;simp only [Sum.elim_inl,Xkk] at hc
  exact XEx hc [(0,0),(1,1),(2,2),(4,4),(5,5),(6,6)] rfl
 clear h;intro hb h;conv=>whnf
 exact W
theorem XEn (Xbd:XcP) (XdC:XeL) (hS:Xak Tryz.prog (XaD (Xyb Xbd XdC))) (text:List UInt8) (res:Int×Int×Int) (h:Xma Xbd XdC text=some res) :
 XaF Tryz.prog 134 0 ⟨⟨134,46,[(0,.string ⟨⟨text⟩⟩)],[.code XAW],[],false,none⟩,[],[],0⟩ (fun v H _=>Res 0 (Xwq res) v H):=by
 unfold Xma at h
 refine Xa4 XaC hS true 3000 ?_
 conv=>whnf
 replace h:=Xdy.elim h;obtain ⟨l,hy,h⟩:=h
 refine Xg8.a (XyV hy) ?_
 conv=>whnf
 refine br.h h (by rfl) ?_ ?_
 ·clear h;intro hb h;conv=>whnf
  exact W
 clear h;intro hb h;conv=>whnf
 have hl:=Xyv Xbd XdC hS _ res _ _ _ h rfl;simp only [Xkk] at hl
 exact XEx hl [(0,0),(1,1),(2,2),(4,4),(5,5),(6,6)] rfl
def XfA:XfV:=Xma Xbd XdC
theorem XKI:XbD Tryz.prog 134 (s134 XfA):=by
 have hL:=XEn Xbd XdC (Xak.XaJ ⟨XzP,Xyi,trivial⟩)
 exact okA ⟨Tryz.f134,rfl,by decide,rfl⟩
def XjX (Xaj:XaR) (val:Int) (echo:Int):Option (List UInt8):=
 (Xaj 16844810 4).bind fun p=>
 let t:=XlO .u64 (wI .u64 ((wI .u64 val)*2^32)) (wI .u64 echo)
 (Xaj t 8).bind fun p1=>
 Xbn (decide (p.length+p1.length<2^63)) <|
 some (p++p1)
def XCf (x:List UInt8):XcU:=⟨.string ⟨⟨x⟩⟩,[],[]⟩
abbrev Xdx:=Int→Int→Option (List UInt8)
def r119 (g:Xdx):Dec:=dV (asI .u32) fun (y0:Int)=>dV (asI .u32) fun (y1:Int)=>Xd2 (ofG (g y0 y1) XCf)
theorem XQ9 {g:Xdx} {y0:Int} {y1:Int} {x:List UInt8} (hx:g y0 y1=some x):r119 g [.int .u32 y0,.int .u32 y1] []=some (XCf x):=(XaO (Xen _)).trans ((XaO (Xen _)).trans (XaN hx))
def s119 (g:Xdx):XbC:=⟨[.v,.v],r119 g⟩
theorem Xy2 {g:Xdx} {y0:Int} {y1:Int} {x:List UInt8} (hx:g y0 y1=some x):(s119 g).run [.int .u32 y0,.int .u32 y1] []=some (XCf x):=XQ9 hx
abbrev XMZ (Xaj:XaR):List (Nat×XbC):=[(97,s97 Xaj)]
theorem XGt (Xaj:XaR) (hS:Xak Tryz.prog (XaD (XMZ Xaj))) (val:Int) (echo:Int) (res:List UInt8) (h:XjX Xaj val echo=some res) :
 XaF Tryz.prog 119 0 ⟨⟨119,14,[(0,.int .u32 val),(1,.int .u32 echo)],[.code XIT],[],false,none⟩,[],[],0⟩ (fun v H _=>Res 0 (XCf res) v H):=by
 unfold XjX at h
 have R1:=@Xle Xaj
 refine Xa4 XaC hS true 3000 ?_
 conv=>whnf
 exact W
def Xb2:Xdx:=XjX Xaj
theorem XzD:XbD Tryz.prog 119 (s119 Xb2):=by
 have hL:=XGt Xaj (Xak.XaJ ⟨XnL,trivial⟩)
 exact okA ⟨Tryz.f119,rfl,by decide,rfl⟩
def XhB (Xao:XbA) (l:(List XcQ)×Int) (i:Int):Option (Sum Int (Int×Int×Int)):=
 cond (decide (i<(l.1.length:Int)))
  (
  Xbn (decide ((0:Int)≤i∧i<(l.1.length:Int))) <|
  (l.1[i.toNat]?).bind fun (e:XcQ)=>
  cond (e.Kind==8)
   (
   Xbn (decide ((0:Int)≤i∧i<(l.1.length:Int))) <|
   cond ((e.Data.length:Int) !=8)
    (
    some (.inr ((0,0,(-1)))))
    (
    Xbn (decide ((0:Int)≤i∧i<(l.1.length:Int))) <|
    (Xao e.Data 0 4).bind fun m=>
    Xbn (decide ((0:Int)≤i∧i<(l.1.length:Int))) <|
    (Xao e.Data 4 4).bind fun m1=>
    Xbn (decide ((0:Int)≤i∧i<(l.1.length:Int))) <|
    some (.inr ((wI .u32 m,wI .u32 m1,e.At)))))
   (
   some (.inl (wI .i64 (i+1)))))
  (
  some (.inr ((0,0,(-1)))))
def Xmo (Xao:XbA) (Xdz:XeM) (options:List UInt8):Option (Int×Int×Int):=
 (Xdz options).bind fun l=>
 iter (fun st=>XhB Xao l st) FUEL 0
def Xwp (x:Int×Int×Int):XcU:=⟨.tuple ⟨[.int .u32 x.1,.int .u32 x.2.1,.int .i64 x.2.2]⟩,[],[]⟩
abbrev XfY:=(List UInt8)→Option (Int×Int×Int)
def r107 (g:XfY):Dec:=dV asS fun (y0:List UInt8)=>Xd2 (ofG (g y0) Xwp)
theorem XRj {g:XfY} {y0:List UInt8} {x:Int×Int×Int} (hx:g y0=some x):r107 g [.string ⟨⟨y0⟩⟩] []=some (Xwp x):=(XaO (Xd3)).trans (XaN hx)
def s107 (g:XfY):XbC:=⟨[.v],r107 g⟩
theorem XM0 {g:XfY} {y0:List UInt8} {x:Int×Int×Int} (hx:g y0=some x):(s107 g).run [.string ⟨⟨y0⟩⟩] []=some (Xwp x):=XRj hx
abbrev XAL (Xao:XbA) (Xdz:XeM):List (Nat×XbC):=[(88,s88 Xao),(154,s154 Xdz)]
def Xlj (l:(List XcQ)×Int) (i:Int):VM:=
 ⟨⟨107,51,[(5,.slice (some ⟨0,0,none⟩) l.1.length 3),(7,.int .i64 i)],[.code XtZ,.inLoop XtZ,.inBlock 0,.code XAA],[],false,none⟩,[],[(0,.row true (vT XgR l.1))],1⟩
theorem XBc (Xao:XbA) (Xdz:XeM) (hS:Xak Tryz.prog (XaD (XAL Xao Xdz))) (l:(List XcQ)×Int) (res:Int×Int×Int):∀ fuel (st:Int) (o:Int×Int×Int),iter (fun st=>XhB Xao l st) fuel st=some o→(o=res) →
 XaF Tryz.prog 107 0 (Xlj l st) (fun v H _=>Res 0 (Xwp res) v H):=by
 intro fuel st o h hc
 refine Xdh (head:=fun st=>Xlj l st) (C:=fun o=>(o=res)) ?_ fuel st o h hc
 clear h hc o st fuel
 intro i o h hc
 replace h:XhB Xao l i=some o:=h
 show XaF Tryz.prog 107 0 (Xlj l i) (fun v H _=>Res 0 (Xwp res) v H)
 unfold XhB at h
 refine Xa4 XaC hS true 3000 ?_
 conv=>whnf
 refine br.h2 h (by rfl) ?_ ?_
 ·clear h;intro hb h;conv=>whnf
  exact W
 clear h;intro hb h;conv=>whnf
 replace h:=Xbn.elim h;obtain ⟨hb,h⟩:=h
 try (refine req.intro hb ?_;conv=>whnf)
 replace h:=Xdy.elim h;obtain ⟨e,hy,h⟩:=h
 refine rd.T (j:=0) Xdn hy (by first|omega|exact Nat.zero_add _|exact congrArg (·+_) (Nat.zero_add _)) (by decide) rfl ?_
 conv=>whnf
 refine br.h2 h (by rfl) ?_ ?_
 ·clear h;intro hb h;conv=>whnf
  cases h;simp only [Sum.elim_inl,Xlj] at hc
  exact Xmt hc [(0,0)] rfl
 clear h;intro hb h;conv=>whnf
 replace h:=Xbn.elim h;obtain ⟨hb,h⟩:=h
 try (refine req.intro hb ?_;conv=>whnf)
 refine rd.T (i:=i.toNat) (x:=e) (j:=1) Xdn (by assumption) (by first|omega|exact Nat.zero_add _|exact congrArg (·+_) (Nat.zero_add _)) (by decide) rfl ?_
 conv=>whnf
 refine br.h h (by rfl) ?_ ?_
 ·clear h;intro hb h;conv=>whnf
  exact W
 clear h;intro hb h;conv=>whnf
 replace h:=Xbn.elim h;obtain ⟨hb,h⟩:=h
 try (refine req.intro hb ?_;conv=>whnf)
 refine rd.T (i:=i.toNat) (x:=e) (j:=1) Xdn (by assumption) (by first|omega|exact Nat.zero_add _|exact congrArg (·+_) (Nat.zero_add _)) (by decide) rfl ?_
 conv=>whnf
 replace h:=Xdy.elim h;obtain ⟨m,hy,h⟩:=h
 refine Xg8.a (XoB hy) ?_
 conv=>whnf
 replace h:=Xbn.elim h;obtain ⟨hb,h⟩:=h
 try (refine req.intro hb ?_;conv=>whnf)
 refine rd.T (i:=i.toNat) (x:=e) (j:=1) Xdn (by assumption) (by first|omega|exact Nat.zero_add _|exact congrArg (·+_) (Nat.zero_add _)) (by decide) rfl ?_
 conv=>whnf
 replace h:=Xdy.elim h;obtain ⟨m1,hy,h⟩:=h
 refine Xg8.a (XoB hy) ?_
 conv=>whnf
 replace h:=Xbn.elim h;obtain ⟨hb,h⟩:=h
 try (refine req.intro hb ?_;conv=>whnf)
 refine rd.T (i:=i.toNat) (x:=e) (j:=2) Xdn (by assumption) (by first|omega|exact Nat.zero_add _|exact congrArg (·+_) (Nat.zero_add _)) (by decide) rfl ?_
 conv=>whnf
 exact W
theorem XEk (Xao:XbA) (Xdz:XeM) (hS:Xak Tryz.prog (XaD (XAL Xao Xdz))) (options:List UInt8) (res:Int×Int×Int) (h:Xmo Xao Xdz options=some res) :
 XaF Tryz.prog 107 0 ⟨⟨107,51,[(0,.string ⟨⟨options⟩⟩)],[.code Xyj],[],false,none⟩,[],[],0⟩ (fun v H _=>Res 0 (Xwp res) v H):=by
 unfold Xmo at h
 refine Xa4 XaC hS true 3000 ?_
 conv=>whnf
 replace h:=Xdy.elim h;obtain ⟨l,hy,h⟩:=h
 refine Xg8.a (XxW hy) ?_
 conv=>whnf
 have hl:=XBc Xao Xdz hS _ res _ _ _ h rfl;simp only [Xlj] at hl
 exact Xmt hl [(0,0)] rfl
def XfL:XfY:=Xmo Xao Xdz
theorem XMg:XbD Tryz.prog 107 (s107 XfL):=by
 have hL:=XEk Xao Xdz (Xak.XaJ ⟨Xp7,XAP,trivial⟩)
 exact okA ⟨Tryz.f107,rfl,by decide,rfl⟩
def XjU (Xde:XfP) (val:Int) (echo:Int):Option (List UInt8):=
 (Xde (wI .i64 val) 4).bind fun n=>
 Xbn (decide (4+n.length<2^63)) <|
 (Xde (wI .i64 echo) 4).bind fun n1=>
 Xbn (decide (([1,1,8,10]++n).length+n1.length<2^63)) <|
 some (([1,1,8,10]++n)++n1)
def rx25 (x:List UInt8):XcU:=⟨.string ⟨⟨x⟩⟩,[],[]⟩
abbrev Xc8:=Int→Int→Option (List UInt8)
def r25 (g:Xc8):Dec:=dV (asI .u32) fun (y0:Int)=>dV (asI .u32) fun (y1:Int)=>Xd2 (ofG (g y0 y1) rx25)
theorem r25_c {g:Xc8} {y0:Int} {y1:Int} {x:List UInt8} (hx:g y0 y1=some x):r25 g [.int .u32 y0,.int .u32 y1] []=some (rx25 x):=(XaO (Xen _)).trans ((XaO (Xen _)).trans (XaN hx))
def s25 (g:Xc8):XbC:=⟨[.v,.v],r25 g⟩
theorem XR3 {g:Xc8} {y0:Int} {y1:Int} {x:List UInt8} (hx:g y0 y1=some x):(s25 g).run [.int .u32 y0,.int .u32 y1] []=some (rx25 x):=r25_c hx
abbrev XSe (Xde:XfP):List (Nat×XbC):=[(62,s62 Xde)]
theorem XMt (Xde:XfP) (hS:Xak Tryz.prog (XaD (XSe Xde))) (val:Int) (echo:Int) (res:List UInt8) (h:XjU Xde val echo=some res) :
 XaF Tryz.prog 25 0 ⟨⟨25,13,[(0,.int .u32 val),(1,.int .u32 echo)],[.code XRp],[],false,none⟩,[],[],0⟩ (fun v H _=>Res 0 (rx25 res) v H):=by
 unfold XjU at h
 have R1:=@XH3 Xde
 refine Xa4 XaC hS true 3000 ?_
 conv=>whnf
 exact W
def XbT:Xc8:=XjU Xde
theorem lift25:XbD Tryz.prog 25 (s25 XbT):=by
 have hL:=XMt Xde (Xak.XaJ ⟨XII,trivial⟩)
 exact okA ⟨Tryz.f25,rfl,by decide,rfl⟩
end Go.Vm.Code
namespace Go.Vm.Code
open Go Go.Vm
def stL:List Xx3→Int×Int×Int
 | []=>(0,0,-1)
 | o::l=>if o.Kind=8 then (if o.Data.length=8 then (vK o.Data 0 4,vK o.Data 4 4,o.At) else (0,0,-1)) else stL l
def Xk4 (s:List UInt8):Int×Int×Int:=stL (Xmq s).1
theorem Xo8 (s:List UInt8):∀ (n i:Nat) (out:List Xx3),Xja s n i out=if (Xja s n i []).2=0 then (out++(Xja s n i []).1,0) else ([],3):=by
 intro n
 induction n using Nat.strongRecOn with
 | ind n ih=>
   intro i out
   cases n with
   | zero=>rw [Xja,Xja];simp
   | succ n=>
     have e:∀ o,Xja s (n+1) i o=match s[i]? with
      | none=>(o,0)
      | some b=>if b=0 then (o,0) else if b=1 then Xja s n (i+1) o else match s[i+1]? with
        | none=>([],3)
        | some k=>if k.toNat<2 then ([],3) else if s.length - i<k.toNat then ([],3) else
           Xja s (n+1 - k.toNat) (i+k.toNat) (o++[⟨(b.toNat:Int),(s.drop (i+2)).take (k.toNat - 2),((i+2:Nat):Int)⟩]):=fun o=>by rw [Xja];try (cases s[i]?<;>cases s[i+1]?<;>rfl)
     rw [e out,e []]
     cases s[i]? with
     | none=>simp
     | some b=>
       simp only
       by_cases h0:b=0
       ·simp [h0]
       rw [if_neg h0,if_neg h0]
       by_cases h1:b=1
       ·rw [if_pos h1,if_pos h1];exact ih n (by omega) _ _
       rw [if_neg h1,if_neg h1]
       cases s[i+1]? with
       | none=>simp
       | some k=>
         simp only
         by_cases h2:k.toNat<2
         ·simp [h2]
         by_cases h3:s.length - i<k.toNat
         ·simp [h2,h3]
         rw [if_neg h2,if_neg h2,if_neg h3,if_neg h3,ih _ (by omega) _ (out++_),ih _ (by omega) _ ([]++_)]
         by_cases hz:(Xja s (n+1 - k.toNat) (i+k.toNat) []).2=0
         ·simp [hz]
         ·simp [hz]
theorem Xwd {s:List UInt8} (h:(Xmq s).2≠0):(Xmq s).1=[]:=by
 unfold Xmq at *
 have:=Xo8 s s.length 0 []
 rw [if_neg h] at this
 rw [this]
theorem XPW {s:List UInt8}:∀ (n i:Nat),∀ o∈(Xja s n i []).1,i≤o.At.toNat∧0≤o.At∧o.At.toNat+o.Data.length≤s.length∨(Xja s n i []).2≠0:=by
 intro n
 induction n using Nat.strongRecOn with
 | ind n ih=>
   intro i o ho
   cases n with
   | zero=>rw [Xja] at ho;simp at ho
   | succ n=>
     rw [Xja] at ho ⊢
     cases hb:s[i]? with
     | none=>rw [hb] at ho;simp at ho
     | some b=>
       rw [hb] at ho
       simp only at ho ⊢
       by_cases h0:b=0
       ·rw [if_pos h0] at ho;simp at ho
       rw [if_neg h0] at ho ⊢
       by_cases h1:b=1
       ·rw [if_pos h1] at ho ⊢
        rcases ih n (by omega) _ o ho with h|h
        ·left;omega
        ·right;exact h
       rw [if_neg h1] at ho ⊢
       cases hk:s[i+1]? with
       | none=>rw [hk] at ho;simp at ho
       | some k=>
         rw [hk] at ho
         simp only at ho ⊢
         by_cases h2:k.toNat<2
         ·rw [if_pos h2] at ho;simp at ho
         rw [if_neg h2] at ho ⊢
         by_cases h3:s.length - i<k.toNat
         ·rw [if_pos h3] at ho;simp at ho
         rw [if_neg h3] at ho ⊢
         rw [Xo8] at ho ⊢
         by_cases hz:(Xja s (n+1 - k.toNat) (i+k.toNat) []).2=0
         ·rw [if_pos hz] at ho
          simp only [List.nil_append,List.mem_append,List.mem_singleton] at ho
          left
          have hi:i<s.length:=by
           rcases Nat.lt_or_ge i s.length with h|h
           ·exact h
           ·rw [List.getElem?_eq_none h] at hb;cases hb
          rcases ho with rfl|ho
          ·simp only [List.length_take,List.length_drop];omega
          ·rcases ih _ (by omega) _ o ho with h|h
           ·omega
           ·exact absurd hz h
         ·right;rw [if_neg hz];decide
theorem XLg {s:List UInt8} (hs:s.length<2^20):XfL s=some (Xk4 s):=by
 unfold XfL Xmo Xk4
 rw [XV7 hs,Option.bind_some]
 have hlen:∀ o∈(Xmq s).1,o.Data.length<2^61:=by
  intro o ho
  unfold Xmq at ho
  rcases XPW _ _ o ho with h|h
  ·omega
  ·have:=Xwd (s:=s) h
   unfold Xmq at this
   rw [this] at ho;simp at ho
 have hcount:(Xmq s).1.length<2^60:=by
  have key:∀ n i out,(Xja s n i out).1.length≤out.length+n:=by
   intro n
   induction n using Nat.strongRecOn with
   | ind n ih=>
     intro i out
     cases n with
     | zero=>rw [Xja];simp
     | succ n=>
       rw [Xja]
       split
       ·simp
       split
       ·simp
       split
       ·have:=ih n (by omega) (i+1) out;omega
       split
       ·simp
       split
       ·simp
       split
       ·simp
       refine Nat.le_trans (ih _ (by omega) _ _) ?_
       simp;omega
  have:=key s.length 0 []
  unfold Xmq
  simp at this;omega
 generalize Xmq s=L at *
 have key:=iter_eq (step:=fun st=>XhB Xao (L.1.map toR,L.2) st) (fun st=>stL (L.1.drop st.toNat)) (fun st=>0≤st∧st≤L.1.length) (fun st=>((L.1.length:Int) - st).toNat) ?_ FUEL 0 ⟨by omega,by omega⟩ (by rw [XgO];omega)
 ·rw [key];simp
 intro st ⟨g1,g2⟩
 obtain ⟨i,rfl⟩:=Int.eq_ofNat_of_zero_le g1
 unfold XhB
 simp only [Int.toNat_natCast,List.length_map,List.getElem?_map]
 by_cases hp:i<L.1.length
 ·have ed:L.1.drop i=L.1[i]::L.1.drop (i+1):=List.drop_eq_getElem_cons hp
  have hd:=hlen _ (List.getElem_mem hp)
  rw [XaP (by omega),Xat (by omega),List.getElem?_eq_getElem hp,Option.map_some,Option.bind_some,ed,stL]
  simp only [toR]
  by_cases h8:L.1[i].Kind=8
  ·refine .inl ?_
   rw [show (L.1[i].Kind==8)=true by simpa using h8,cond_true,if_pos h8,Xat (by omega)]
   by_cases hl:L.1[i].Data.length=8
   ·have r0:=XfW L.1[i].Data 0 4 4294967296 (by decide)
    have r4:=XfW L.1[i].Data 4 4 4294967296 (by decide)
    have m0:Xao L.1[i].Data 0 4=some (vK L.1[i].Data 0 4):=XrH (p:=0) (k:=4) hd (by omega) (by omega) (by omega)
    have m4:Xao L.1[i].Data 4 4=some (vK L.1[i].Data 4 4):=XrH (p:=4) (k:=4) hd (by omega) (by omega) (by omega)
    rw [show (((L.1[i].Data.length:Nat):Int) !=8)=false by simp;omega,cond_false,if_pos hl,Xat (by omega),m0,Option.bind_some,Xat (by omega),m4,Option.bind_some,Xat (by omega),XFS r0.1 r0.2,XFS r4.1 r4.2]
   ·rw [show (((L.1[i].Data.length:Nat):Int) !=8)=true by simp;omega,cond_true,if_neg hl]
  ·refine .inr ⟨((i+1:Nat):Int),?_,⟨by omega,by omega⟩,by omega,?_⟩
   ·rw [show (L.1[i].Kind==8)=false by simpa using h8,cond_false,XdY (by omega) (by omega)];rfl
   ·rw [if_neg h8,Int.toNat_natCast]
 ·refine .inl ?_
  rw [XaI (by omega),List.drop_of_length_le (by omega)];rfl
theorem val8 {t:List UInt8} (h:t.length=8):((Xfy t:Nat):Int)=vK t 0 4*4294967296+vK t 4 4:=by
 unfold vK
 have e:t.take 4++(t.drop 4).take 4=t:=by rw [List.take_of_length_le (l:=t.drop 4) (by simp;omega),List.take_append_drop]
 have:=val_append (t.take 4) ((t.drop 4).take 4)
 rw [e,show ((t.drop 4).take 4).length=4 by simp;omega] at this
 rw [List.drop_zero,this]
 omega
theorem XJP {s:List UInt8} (hs:s.length<2^20):XfA s=some (Xk4 s):=by
 unfold XfA Xma
 rw [XSi hs,Option.bind_some]
 by_cases hz:(Xmq s).2=0
 ·rw [show ((Xmq s).2 !=0)=false by simpa using hz,cond_false]
  unfold Xk4 Xmq
  unfold Xmq at hz
  have key:=iter_eq (step:=fun st=>XhM Xbd s st) (fun st=>stL (Xja s (s.length - st.toNat) st.toNat []).1) (fun st=>0≤st∧st≤s.length∧(Xja s (s.length - st.toNat) st.toNat []).2=0) (fun st=>s.length - st.toNat) ?_ FUEL 0 ⟨by omega,by omega,by simpa using hz⟩ (by rw [XgO];omega)
  ·rw [key];rfl
  intro st ⟨g1,g2,g3⟩
  obtain ⟨i,rfl⟩:=Int.eq_ofNat_of_zero_le g1
  simp only [Int.toNat_natCast] at g3 ⊢
  unfold XhM
  by_cases hi:i<s.length
  ·obtain ⟨n,hn⟩:∃ n,s.length - i=n+1:=⟨s.length - i - 1,by omega⟩
   have e:s[i]?=some s[i]:=List.getElem?_eq_getElem hi
   rw [hn,Xja,e] at g3
   simp only at g3
   rw [XaP (by omega),Xat (by omega),Int.toNat_natCast,e,Option.bind_some,hn,Xja,e]
   by_cases h0:s[i]=0
   ·refine .inl ?_
    rw [show ((s[i].toNat:Int)==0)=true by rw [h0];rfl,cond_true]
    simp only [h0,if_true];rfl
   rw [show ((s[i].toNat:Int)==0)=false by simp;intro hx;exact h0 (UInt8.toNat_inj.1 (by simpa using hx)),cond_false]
   rw [if_neg h0] at g3
   simp only [if_neg h0]
   by_cases h1:s[i]=1
   ·rw [if_pos h1] at g3
    refine .inr ⟨((i+1:Nat):Int),?_,⟨by omega,by omega,?_⟩,by omega,?_⟩
    ·rw [show ((s[i].toNat:Int)==1)=true by rw [h1];rfl,cond_true,XdY (by omega) (by omega)];rfl
    ·rw [Int.toNat_natCast,show s.length - (i+1)=n by omega];exact g3
    ·simp only [Int.toNat_natCast,if_pos h1]
     rw [show s.length - (i+1)=n by omega]
   rw [show ((s[i].toNat:Int)==1)=false by simp;intro hx;exact h1 (UInt8.toNat_inj.1 (by simp;omega)),cond_false]
   rw [if_neg h1] at g3
   simp only [if_neg h1]
   rw [XdY (n:=(i:Int)+1) (by omega) (by omega)]
   by_cases h2:s.length≤i+1
   ·rw [List.getElem?_eq_none (by omega)] at g3
    simp at g3
   have hi1:i+1<s.length:=by omega
   have e1:s[i+1]?=some s[i+1]:=List.getElem?_eq_getElem hi1
   have b1:=s[i+1].toNat_lt
   rw [e1] at g3
   simp only at g3
   rw [XaP (by omega),show ((i:Int)+1).toNat=i+1 by omega,e1,Xat (by omega),Option.bind_some]
   simp only [Option.bind_some]
   rw [XdY (n:=(s[i+1].toNat:Int)) (by omega) (by omega)]
   by_cases h3:s[i+1].toNat<2
   ·rw [if_pos h3] at g3
    exact absurd g3 (by decide)
   rw [if_neg h3] at g3
   rw [XaI (by omega),if_neg h3,XdY (n:=(s.length:Int) - i) (by omega) (by omega)]
   by_cases h4:s.length - i<s[i+1].toNat
   ·rw [if_pos h4] at g3
    exact absurd g3 (by decide)
   rw [if_neg h4,Xo8] at g3
   have b0:=s[i].toNat_lt
   have hz2:(Xja s (n+1 - s[i+1].toNat) (i+s[i+1].toNat) []).2=0:=by
    apply Decidable.byContradiction
    intro hx
    rw [if_neg hx] at g3
    exact absurd g3 (by decide)
   rw [if_neg h4,Xo8,if_pos hz2,XaI (by omega),Xat (by omega),XdY (n:=(i:Int)+s[i+1].toNat) (by omega) (by omega),XdY (n:=(i:Int)+2) (by omega) (by omega),XdY (n:=(s[i].toNat:Int)) (by omega) (by omega),Xat (by omega),show ((i:Int)+s[i+1].toNat).toNat - ((i:Int)+2).toNat=s[i+1].toNat - 2 by omega,show ((i:Int)+2).toNat=i+2 by omega]
   simp only [List.nil_append,List.cons_append,stL]
   have hdl:((s.drop (i+2)).take (s[i+1].toNat - 2)).length=s[i+1].toNat - 2:=by simp;omega
   generalize (s.drop (i+2)).take (s[i+1].toNat - 2)=D at *
   by_cases h8:(s[i].toNat:Int)=8
   ·refine .inl ?_
    rw [show ((s[i].toNat:Int) !=8)=false by simpa using h8,cond_false,if_pos h8,XgG (by omega),Option.bind_some]
    by_cases hl:D.length=8
    ·rw [Xi9 (by omega) (by omega) (by omega) (by omega),if_pos hl]
     have r0:=XfW D 0 4 4294967296 (by decide)
     have r4:=XfW D 4 4 4294967296 (by decide)
     have hv:=val8 hl
     have ev:(D.drop (0:Int).toNat).take (8:Int).toNat=D:=by
      rw [show (0:Int).toNat=0 from rfl,show (8:Int).toNat=8 from rfl,List.drop_zero,List.take_of_length_le (by omega)]
     simp only [cond_true,ev]
     rw [show ((D.length:Int)==8)=true by simp;omega,cond_true,hv,Xtq,show ((2:Int)^32)=4294967296 from rfl,show (vK D 0 4*4294967296+vK D 4 4)/4294967296=vK D 0 4 by omega,XFS r0.1 r0.2,wU32m,show (vK D 0 4*4294967296+vK D 4 4)%4294967296=vK D 4 4 by omega];rfl
    ·rw [if_neg hl]
     rw [show ((D.length:Int)==8)=false by simp;omega]
     cases (Xxe D 0 8).2<;>rfl
   ·refine .inr ⟨((i+s[i+1].toNat:Nat):Int),?_,⟨by omega,by omega,?_⟩,by omega,?_⟩
    ·rw [show ((s[i].toNat:Int) !=8)=true by simpa using h8,cond_true];rfl
    ·rw [Int.toNat_natCast,show s.length - (i+s[i+1].toNat)=n+1 - s[i+1].toNat by omega];exact hz2
    ·rw [Int.toNat_natCast,show s.length - (i+s[i+1].toNat)=n+1 - s[i+1].toNat by omega,if_neg h8]
  ·refine .inl ?_
   rw [XaI (by omega),show s.length - i=0 by omega,Xja];rfl
 ·rw [show ((Xmq s).2 !=0)=true by simpa using hz,cond_true]
  unfold Xk4
  rw [Xwd hz];rfl
def XcS (v e:Nat):List UInt8:=[1,1,8,10]++(be v 4++be e 4)
theorem XM8 {v e:Nat} (hv:v<4294967296) (he:e<4294967296):Xb2 (v:Int) (e:Int)=some (XcS v e):=by
 unfold Xb2 XjX XcS
 have k1:Xaj 16844810 4=some [1,1,8,10]:=by rw [Xbt (by omega)];rfl
 have k2:Xaj (XlO .u64 (wI .u64 ((wI .u64 (v:Int))*2^32)) (wI .u64 (e:Int))) 8=some (be v 4++be e 4):=by
  have e2:XlO .u64 (wI .u64 ((wI .u64 (v:Int))*2^32)) (wI .u64 (e:Int))=((v*4294967296+e:Nat):Int):=by
   rw [Xf7 (n:=(v:Int)) (by omega) (by omega),Xf7 (n:=(e:Int)) (by omega) (by omega),Xf7 (n:=(v:Int)*2^32) (by omega) (by omega),XgT 32 (by omega) (by omega) (by omega) (by omega) (by omega)];omega
  rw [e2,Xbt (by omega),show XcG ((v*4294967296+e:Nat):Int) 8=be ((v*4294967296+e:Nat):Int).toNat 8 from XfJ (k:=8) (by omega),Int.toNat_natCast,XAR _ _ (by omega)]
 rw [k1,Option.bind_some]
 simp only []
 rw [k2,Option.bind_some,Xat (by simp)]
theorem XLr {v e:Nat} (hv:v<4294967296) (he:e<4294967296):XbT (v:Int) (e:Int)=some (XcS v e):=by
 have num:∀ n:Nat,n<4294967296→Xde (wI .i64 (n:Int)) 4=some (be n 4):=fun n hn=>by
  unfold Xde Xnu
  rw [XdY (by omega) (by omega),Xf7 (by omega) (by omega),Xdi (by omega) (by omega),show XcG (n:Int) 4=be (n:Int).toNat 4 from XfJ (k:=4) (by omega),Int.toNat_natCast];rfl
 unfold XbT XjU XcS
 rw [num v hv,num e he,Option.bind_some,Option.bind_some,Xat (by simp),Xat (by simp),List.append_assoc]
theorem l8 {l:List UInt8} (h:l.length=8):∃ a b c d e f g i,l=[a,b,c,d,e,f,g,i]:=by
 match l,h with
 | [a,b,c,d,e,f,g,i],_=>exact ⟨a,b,c,d,e,f,g,i,rfl⟩
theorem XoM {d:List UInt8} (h:d.length=8):Xmq ([1,1,8,10]++d)=([⟨8,d,4⟩],0):=by
 obtain ⟨a,b,c,d,e,f,g,i,rfl⟩:=l8 h
 unfold Xmq
 show Xja [1,1,8,10,a,b,c,d,e,f,g,i] 12 0 []=_
 rw [Xja]
 show Xja [1,1,8,10,a,b,c,d,e,f,g,i] 11 1 []=_
 rw [Xja]
 show Xja [1,1,8,10,a,b,c,d,e,f,g,i] 10 2 []=_
 rw [Xja]
 show Xja [1,1,8,10,a,b,c,d,e,f,g,i] 0 12 [⟨8,[a,b,c,d,e,f,g,i],4⟩]=_
 rw [Xja]
theorem Xso {v e:Nat} (hv:v<4294967296) (he:e<4294967296):Xk4 (XcS v e)=((v:Int),(e:Int),4):=by
 unfold Xk4 XcS
 rw [XoM (by simp),stL,if_pos rfl,if_pos (by simp)]
 have a:vK (be v 4++be e 4) 0 4=(v:Int):=by
  refine Xkh (w:=be v 4) ?_ rfl (by omega)
  rw [List.drop_zero];exact List.take_left' (by simp)
 have b:vK (be v 4++be e 4) 4 4=(e:Int):=by
  refine Xkh (w:=be e 4) ?_ rfl (by omega)
  rw [List.drop_left' (by simp),List.take_of_length_le (by simp)]
 rw [a,b]
end Go.Vm.Code
namespace Go.Vm.Code
open Go Go.Vm Go.Proofs
set_option maxRecDepth 100000
set_option maxHeartbeats 4000000
set_option linter.unusedVariables false
def XiR (ha0:Xay):Option Bool:=
 cond (decide (ha0.Bits<0))
  (
  some (false))
  (
  cond (decide (ha0.Bits≥64))
   (
   some (false))
   (
   cond (ha0.Long)
    (
    let t:=if (ha0.SCID.length:Int)>(ha0.DCID.length:Int) then (ha0.SCID.length:Int) else (ha0.DCID.length:Int)
    some (decide (t≤20)))
    (
    cond ((ha0.DCID.length:Int)==8)
     (
     cond (ha0.SCID==[])
      (
      some (ha0.Version==0))
      (
      some (false)))
     (
     some (false)))))
def XDK (x:Bool):XcU:=⟨.bool x,[],[]⟩
abbrev Xeh:=Xay→Option Bool
def r186 (g:Xeh):Dec:=dV XiA fun (y0:Xay)=>Xd2 (ofG (g y0) XDK)
theorem XWb {g:Xeh} {y0:Xay} {x:Bool} (hx:g y0=some x):r186 g [.agg ⟨[.bool y0.Long,.int .i64 y0.Bits,.int .u32 y0.Version,.string ⟨⟨y0.DCID⟩⟩,.string ⟨⟨y0.SCID⟩⟩,.string ⟨⟨y0.Rest⟩⟩]⟩] []=some (XDK x):=(XaO (Xkx _)).trans (XaN hx)
def s186 (g:Xeh):XbC:=⟨[.v],r186 g⟩
theorem XNJ {g:Xeh} {y0:Xay} {x:Bool} (hx:g y0=some x):(s186 g).run [.agg ⟨[.bool y0.Long,.int .i64 y0.Bits,.int .u32 y0.Version,.string ⟨⟨y0.DCID⟩⟩,.string ⟨⟨y0.SCID⟩⟩,.string ⟨⟨y0.Rest⟩⟩]⟩] []=some (XDK x):=XWb hx
abbrev XPH:List (Nat×XbC):=[]
theorem XFc (hS:Xak Tryz.prog (XaD (XPH))) (ha0:Xay) (res:Bool) (h:XiR ha0=some res) :
 XaF Tryz.prog 186 0 ⟨⟨186,35,[(0,.agg ⟨[.bool ha0.Long,.int .i64 ha0.Bits,.int .u32 ha0.Version,.string ⟨⟨ha0.DCID⟩⟩,.string ⟨⟨ha0.SCID⟩⟩,.string ⟨⟨ha0.Rest⟩⟩]⟩)],[.code XyP],[],false,none⟩,[],[],0⟩ (fun v H _=>Res 0 (XDK res) v H):=by
 unfold XiR at h
 refine Xa4 XaC hS true 3000 ?_
 conv=>whnf
 exact W
def Xda:Xeh:=XiR
theorem XLd:XbD Tryz.prog 186 (s186 Xda):=by
 have hL:=XFc (Xak.XaJ trivial)
 exact okA ⟨Tryz.f186,rfl,by decide,rfl⟩
def Xjh (Xaj:XaR) (ida0:List UInt8):Option (List UInt8):=
 (Xaj (wI .u64 (ida0.length:Int)) 1).bind fun p=>
 Xbn (decide (p.length+ida0.length<2^63)) <|
 some (p++ida0)
def XHt (x:List UInt8):XcU:=⟨.string ⟨⟨x⟩⟩,[],[]⟩
abbrev XeE:=(List UInt8)→Option (List UInt8)
def r187 (g:XeE):Dec:=dV asS fun (y0:List UInt8)=>Xd2 (ofG (g y0) XHt)
theorem XST {g:XeE} {y0:List UInt8} {x:List UInt8} (hx:g y0=some x):r187 g [.string ⟨⟨y0⟩⟩] []=some (XHt x):=(XaO (Xd3)).trans (XaN hx)
def s187 (g:XeE):XbC:=⟨[.v],r187 g⟩
theorem XNS {g:XeE} {y0:List UInt8} {x:List UInt8} (hx:g y0=some x):(s187 g).run [.string ⟨⟨y0⟩⟩] []=some (XHt x):=XST hx
abbrev XK7 (Xaj:XaR):List (Nat×XbC):=[(97,s97 Xaj)]
theorem XE8 (Xaj:XaR) (hS:Xak Tryz.prog (XaD (XK7 Xaj))) (ida0:List UInt8) (res:List UInt8) (h:Xjh Xaj ida0=some res) :
 XaF Tryz.prog 187 0 ⟨⟨187,9,[(0,.string ⟨⟨ida0⟩⟩)],[.code XI3],[],false,none⟩,[],[],0⟩ (fun v H _=>Res 0 (XHt res) v H):=by
 unfold Xjh at h
 have R1:=@Xle Xaj
 refine Xa4 XaC hS true 3000 ?_
 conv=>whnf
 exact W
def Xdm:XeE:=Xjh Xaj
theorem XL2:XbD Tryz.prog 187 (s187 Xdm):=by
 have hL:=XE8 Xaj (Xak.XaJ ⟨XnL,trivial⟩)
 exact okA ⟨Tryz.f187,rfl,by decide,rfl⟩
def XnD (Xaj:XaR) (Xda:Xeh) (Xdm:XeE) (ha0:Xay):Option ((List UInt8)×Int):=
 (Xda ha0).bind fun m=>
 cond (!m)
  (
  some (([],1)))
  (
  cond (ha0.Long)
   (
   (Xaj (wI .u64 (XlO .i64 192 ha0.Bits)) 1).bind fun p=>
   (Xaj (wI .u64 ha0.Version) 4).bind fun p1=>
   Xbn (decide (p.length+p1.length<2^63)) <|
   (Xdm ha0.DCID).bind fun c=>
   Xbn (decide ((p++p1).length+c.length<2^63)) <|
   (Xdm ha0.SCID).bind fun c1=>
   Xbn (decide (((p++p1)++c).length+c1.length<2^63)) <|
   Xbn (decide ((((p++p1)++c)++c1).length+ha0.Rest.length<2^63)) <|
   some (((((p++p1)++c)++c1)++ha0.Rest,0)))
   (
   (Xaj (wI .u64 (XlO .i64 64 ha0.Bits)) 1).bind fun p2=>
   Xbn (decide (p2.length+ha0.DCID.length<2^63)) <|
   Xbn (decide ((p2++ha0.DCID).length+ha0.Rest.length<2^63)) <|
   some (((p2++ha0.DCID)++ha0.Rest,0))))
def XGO (x:(List UInt8)×Int):XcU:=⟨.tuple ⟨[.string ⟨⟨x.1⟩⟩,.int .i64 x.2]⟩,[],[]⟩
abbrev XgI:=Xay→Option ((List UInt8)×Int)
def r162 (g:XgI):Dec:=dV XiA fun (y0:Xay)=>Xd2 (ofG (g y0) XGO)
theorem XVC {g:XgI} {y0:Xay} {x:(List UInt8)×Int} (hx:g y0=some x):r162 g [.agg ⟨[.bool y0.Long,.int .i64 y0.Bits,.int .u32 y0.Version,.string ⟨⟨y0.DCID⟩⟩,.string ⟨⟨y0.SCID⟩⟩,.string ⟨⟨y0.Rest⟩⟩]⟩] []=some (XGO x):=(XaO (Xkx _)).trans (XaN hx)
def s162 (g:XgI):XbC:=⟨[.v],r162 g⟩
theorem XPu {g:XgI} {y0:Xay} {x:(List UInt8)×Int} (hx:g y0=some x):(s162 g).run [.agg ⟨[.bool y0.Long,.int .i64 y0.Bits,.int .u32 y0.Version,.string ⟨⟨y0.DCID⟩⟩,.string ⟨⟨y0.SCID⟩⟩,.string ⟨⟨y0.Rest⟩⟩]⟩] []=some (XGO x):=XVC hx
abbrev XNT (Xaj:XaR) (Xda:Xeh) (Xdm:XeE):List (Nat×XbC):=[(97,s97 Xaj),(186,s186 Xda),(187,s187 Xdm)]
theorem XDv (Xaj:XaR) (Xda:Xeh) (Xdm:XeE) (hS:Xak Tryz.prog (XaD (XNT Xaj Xda Xdm))) (ha0:Xay) (res:(List UInt8)×Int) (h:XnD Xaj Xda Xdm ha0=some res) :
 XaF Tryz.prog 162 0 ⟨⟨162,43,[(0,.agg ⟨[.bool ha0.Long,.int .i64 ha0.Bits,.int .u32 ha0.Version,.string ⟨⟨ha0.DCID⟩⟩,.string ⟨⟨ha0.SCID⟩⟩,.string ⟨⟨ha0.Rest⟩⟩]⟩)],[.code XBs],[],false,none⟩,[],[],0⟩ (fun v H _=>Res 0 (XGO res) v H):=by
 unfold XnD at h
 have R1:=@XNJ Xda
 have R2:=@Xle Xaj
 have R3:=@XNS Xdm
 refine Xa4 XaC hS true 3000 ?_
 conv=>whnf
 exact W
def Xg2:XgI:=XnD Xaj Xda Xdm
theorem XNt:XbD Tryz.prog 162 (s162 Xg2):=by
 have hL:=XDv Xaj Xda Xdm (Xak.XaJ ⟨XnL,XLd,XL2,trivial⟩)
 exact okA ⟨Tryz.f162,rfl,by decide,rfl⟩
def Xgy (Xai:XaG) (Xaf:Xav) (ra0:Xah):Option ((List UInt8)×Xah):=
 (Xai ra0).bind fun b=>
 cond (b.1)
  (
  some (([],b.2)))
  (
  (Xaf b.2 (b.2.s.length:Int)).bind fun t=>
  some ((t.1,t.2)))
def XCU (x:(List UInt8)×Xah):XcU:=⟨.string ⟨⟨x.1⟩⟩,[],[some [.string ⟨⟨x.2.s⟩⟩,.bool x.2.made,.bool x.2.bad]]⟩
abbrev XcN:=Xah→Option ((List UInt8)×Xah)
def r139 (g:XcN):Dec:=dPt 0 Xd4 fun (y0:Xah)=>Xd2 (ofG (g y0) XCU)
theorem XRA {g:XcN} {y0:Xah} {x:(List UInt8)×Xah} (hx:g y0=some x):r139 g [.pointer (some ⟨0,0,none⟩)] [some [.string ⟨⟨y0.s⟩⟩,.bool y0.made,.bool y0.bad]]=some (XCU x):=(Xh1 (Xgi _)).trans (XaN hx)
def s139 (g:XcN):XbC:=⟨[.pt 3],r139 g⟩
theorem XOj {g:XcN} {y0:Xah} {x:(List UInt8)×Xah} (hx:g y0=some x):(s139 g).run [.pointer (some ⟨0,0,none⟩)] [some [.string ⟨⟨y0.s⟩⟩,.bool y0.made,.bool y0.bad]]=some (XCU x):=XRA hx
abbrev XNQ (Xai:XaG) (Xaf:Xav):List (Nat×XbC):=[(138,XIR Xai),(129,XBC Xaf)]
theorem XDF (Xai:XaG) (Xaf:Xav) (hS:Xak Tryz.prog (XaD (XNQ Xai Xaf))) (ra0:Xah) (res:(List UInt8)×Xah) (h:Xgy Xai Xaf ra0=some res) :
 XaF Tryz.prog 139 1 ⟨⟨139,12,[(0,.pointer (some ⟨0,0,none⟩))],[.code XHS],[],false,none⟩,[],[(0,.cells [.string ⟨⟨ra0.s⟩⟩,.bool ra0.made,.bool ra0.bad])],1⟩ (fun v H _=>Res 1 (XCU res) v H):=by
 unfold Xgy at h
 have R1:=@Xm0 Xai
 have R2:=@Xlm Xaf
 refine Xa4 XaC hS true 3000 ?_
 conv=>whnf
 exact W
def XbW:XcN:=Xgy Xai Xaf
theorem XQe:XbD Tryz.prog 139 (s139 XbW):=by
 have hL:=XDF Xai Xaf (Xak.XaJ ⟨Xn2,XlU,trivial⟩)
 exact okA ⟨Tryz.f139,rfl,by decide,rfl⟩
def XnJ (Xai:XaG) (Xad:XaH) (Xaf:Xav) (ra0:Xah):Option ((List UInt8)×Int×Xah):=
 (Xad ra0 1).bind fun n=>
 (Xai n.2).bind fun b=>
 cond (!b.1)
  (
  cond (decide (n.1>20))
   (
   some (([],3,b.2)))
   (
   (Xaf b.2 n.1).bind fun t=>
   (Xai t.2).bind fun b1=>
   cond (b1.1)
    (
    some (([],2,b1.2)))
    (
    some ((t.1,0,b1.2)))))
  (
  (Xaf b.2 n.1).bind fun t1=>
  (Xai t1.2).bind fun b2=>
  cond (b2.1)
   (
   some (([],2,b2.2)))
   (
   some ((t1.1,0,b2.2))))
def XCc (x:(List UInt8)×Int×Xah):XcU:=⟨.tuple ⟨[.string ⟨⟨x.1⟩⟩,.int .i64 x.2.1]⟩,[],[some [.string ⟨⟨x.2.2.s⟩⟩,.bool x.2.2.made,.bool x.2.2.bad]]⟩
abbrev XhE:=Xah→Option ((List UInt8)×Int×Xah)
def r141 (g:XhE):Dec:=dPt 0 Xd4 fun (y0:Xah)=>Xd2 (ofG (g y0) XCc)
theorem XSN {g:XhE} {y0:Xah} {x:(List UInt8)×Int×Xah} (hx:g y0=some x):r141 g [.pointer (some ⟨0,0,none⟩)] [some [.string ⟨⟨y0.s⟩⟩,.bool y0.made,.bool y0.bad]]=some (XCc x):=(Xh1 (Xgi _)).trans (XaN hx)
def s141 (g:XhE):XbC:=⟨[.pt 3],r141 g⟩
theorem Xz1 {g:XhE} {y0:Xah} {x:(List UInt8)×Int×Xah} (hx:g y0=some x):(s141 g).run [.pointer (some ⟨0,0,none⟩)] [some [.string ⟨⟨y0.s⟩⟩,.bool y0.made,.bool y0.bad]]=some (XCc x):=XSN hx
abbrev XL1 (Xai:XaG) (Xad:XaH) (Xaf:Xav):List (Nat×XbC):=[(138,XIR Xai),(78,s78 Xad),(129,XBC Xaf)]
theorem XET (Xai:XaG) (Xad:XaH) (Xaf:Xav) (hS:Xak Tryz.prog (XaD (XL1 Xai Xad Xaf))) (ra0:Xah) (res:(List UInt8)×Int×Xah) (h:XnJ Xai Xad Xaf ra0=some res) :
 XaF Tryz.prog 141 1 ⟨⟨141,21,[(0,.pointer (some ⟨0,0,none⟩))],[.code XA2],[],false,none⟩,[],[(0,.cells [.string ⟨⟨ra0.s⟩⟩,.bool ra0.made,.bool ra0.bad])],1⟩ (fun v H _=>Res 1 (XCc res) v H):=by
 unfold XnJ at h
 have R1:=@XmE Xad
 have R2:=@Xm0 Xai
 have R3:=@Xlm Xaf
 refine Xa4 XaC hS true 3000 ?_
 conv=>whnf
 exact W
def Xhs:XhE:=XnJ Xai Xad Xaf
theorem XNC:XbD Tryz.prog 141 (s141 Xhs):=by
 have hL:=XET Xai Xad Xaf (Xak.XaJ ⟨Xn2,Xq4,XlU,trivial⟩)
 exact okA ⟨Tryz.f141,rfl,by decide,rfl⟩
def Xnm (Xa2:Xce) (Xai:XaG) (Xad:XaH) (XbW:XcN) (Xaf:Xav) (Xhs:XhE) (s:List UInt8):Option (Xay×Int):=
 (Xa2 s).bind fun n=>
 (Xad n 1).bind fun n1=>
 (Xai n1.2).bind fun b=>
 cond (b.1)
  (
  some ((Xay.mk false 0 0 [] [] [],2)))
  (
  cond ((XnS .i64 n1.1 64)==0)
   (
   some ((Xay.mk false 0 0 [] [] [],3)))
   (
   cond (!((XnS .i64 n1.1 128) !=0))
    (
    (Xaf b.2 8).bind fun t=>
    (Xai t.2).bind fun b1=>
    cond (b1.1)
     (
     some ((Xay.mk false 0 0 [] [] [],2)))
     (
     (XbW b1.2).bind fun xr=>
     some ((Xay.mk ((XnS .i64 n1.1 128) !=0) (XnS .i64 n1.1 63) 0 t.1 [] xr.1,0))))
    (
    (Xad b.2 4).bind fun n2=>
    (Xhs n2.2).bind fun i=>
    cond (i.2.1 !=0)
     (
     some ((Xay.mk false 0 0 [] [] [],i.2.1)))
     (
     (Xhs i.2.2).bind fun i1=>
     cond (i1.2.1 !=0)
      (
      some ((Xay.mk false 0 0 [] [] [],i1.2.1)))
      (
      (XbW i1.2.2).bind fun xr1=>
      some ((Xay.mk ((XnS .i64 n1.1 128) !=0) (XnS .i64 n1.1 63) (wI .u32 n2.1) i.1 i1.1 xr1.1,0)))))))
def rx94 (x:Xay×Int):XcU:=⟨.tuple ⟨[.agg ⟨[.bool x.1.Long,.int .i64 x.1.Bits,.int .u32 x.1.Version,.string ⟨⟨x.1.DCID⟩⟩,.string ⟨⟨x.1.SCID⟩⟩,.string ⟨⟨x.1.Rest⟩⟩]⟩,.int .i64 x.2]⟩,[],[]⟩
abbrev XeY:=(List UInt8)→Option (Xay×Int)
def r94 (g:XeY):Dec:=dV asS fun (y0:List UInt8)=>Xd2 (ofG (g y0) rx94)
theorem r94_c {g:XeY} {y0:List UInt8} {x:Xay×Int} (hx:g y0=some x):r94 g [.string ⟨⟨y0⟩⟩] []=some (rx94 x):=(XaO (Xd3)).trans (XaN hx)
def s94 (g:XeY):XbC:=⟨[.v],r94 g⟩
theorem XH4 {g:XeY} {y0:List UInt8} {x:Xay×Int} (hx:g y0=some x):(s94 g).run [.string ⟨⟨y0⟩⟩] []=some (rx94 x):=r94_c hx
abbrev XU4 (Xa2:Xce) (Xai:XaG) (Xad:XaH) (XbW:XcN) (Xaf:Xav) (Xhs:XhE):List (Nat×XbC):=[(77,s77 Xa2),(138,XIR Xai),(78,s78 Xad),(139,s139 XbW),(129,XBC Xaf),(141,s141 Xhs)]
theorem XKJ (Xa2:Xce) (Xai:XaG) (Xad:XaH) (XbW:XcN) (Xaf:Xav) (Xhs:XhE) (hS:Xak Tryz.prog (XaD (XU4 Xa2 Xai Xad XbW Xaf Xhs))) (s:List UInt8) (res:Xay×Int) (h:Xnm Xa2 Xai Xad XbW Xaf Xhs s=some res) :
 XaF Tryz.prog 94 0 ⟨⟨94,60,[(0,.string ⟨⟨s⟩⟩)],[.code XJn],[],false,none⟩,[],[],0⟩ (fun v H _=>Res 0 (rx94 res) v H):=by
 unfold Xnm at h
 have R1:=@Xlm Xaf
 have R2:=@Xm0 Xai
 have R3:=@XOj XbW
 refine Xa4 XaC hS true 3000 ?_
 conv=>whnf
 replace h:=Xdy.elim h;obtain ⟨n,hy,h⟩:=h
 refine Xg8.a (Xtm hy) ?_
 conv=>whnf
 replace h:=Xdy.elim h;obtain ⟨n1,hy,h⟩:=h
 refine Xg8.a (XmE hy) ?_
 conv=>whnf
 replace h:=Xdy.elim h;obtain ⟨b,hy,h⟩:=h
 refine Xg8.a (Xm0 hy) ?_
 conv=>whnf
 refine br.h h (by rfl) ?_ ?_
 ·clear h;intro hb h;conv=>whnf
  exact W
 clear h;intro hb h;conv=>whnf
 refine br.h h (by rfl) ?_ ?_
 ·clear h;intro hb h;conv=>whnf
  exact W
 clear h;intro hb h;conv=>whnf
 refine br.h h (by rfl) ?_ ?_
 ·clear h;intro hb h;conv=>whnf
  exact W
 clear h;intro hb h;conv=>whnf
 replace h:=Xdy.elim h;obtain ⟨n2,hy,h⟩:=h
 refine Xg8.a (XmE hy) ?_
 conv=>whnf
 refine Xa4 XaC hS true 3000 ?_
 conv=>whnf
 replace h:=Xdy.elim h;obtain ⟨i,hy,h⟩:=h
 refine Xg8.a (Xz1 hy) ?_
 conv=>whnf
 refine br.h h (by rfl) ?_ ?_
 ·clear h;intro hb h;conv=>whnf
  refine br.pos ?_ ?_;(focus (clear h;first|assumption|(simp_all;done)))
  conv=>whnf
  exact W
 clear h;intro hb h;conv=>whnf
 refine Xa4 XaC hS true 3000 ?_
 conv=>whnf
 replace h:=Xdy.elim h;obtain ⟨i1,hy,h⟩:=h
 refine Xg8.a (Xz1 hy) ?_
 conv=>whnf
 refine br.h h (by rfl) ?_ ?_
 ·clear h;intro hb h;conv=>whnf
  refine br.pos ?_ ?_;(focus (clear h;first|assumption|(simp_all;done)))
  conv=>whnf
  exact W
 clear h;intro hb h;conv=>whnf
 refine Xa4 XaC hS true 3000 ?_
 conv=>whnf
 exact W
def Xed:XeY:=Xnm Xa2 Xai Xad XbW Xaf Xhs
theorem XHX:XbD Tryz.prog 94 (s94 Xed):=by
 have hL:=XKJ Xa2 Xai Xad XbW Xaf Xhs (Xak.XaJ ⟨Xs7,Xn2,Xq4,XQe,XlU,XNC,trivial⟩)
 exact okA ⟨Tryz.f94,rfl,by decide,rfl⟩
def Xvy (Xbe:XcD) (ha0:Xay):Option ((List UInt8)×Int):=
 cond (decide (ha0.Bits<0))
  (
  some (([],1)))
  (
  cond (decide (ha0.Bits>63))
   (
   some (([],1)))
   (
   cond (ha0.Long)
    (
    cond (decide ((ha0.DCID.length:Int)>20))
     (
     some (([],1)))
     (
     cond (decide ((ha0.SCID.length:Int)>20))
      (
      some (([],1)))
      (
      (Xbe (wI .u64 (wI .i64 (192+ha0.Bits))) 1).bind fun p=>
      (Xbe (wI .u64 ha0.Version) 4).bind fun p1=>
      Xbn (decide (p.length+p1.length<2^63)) <|
      (Xbe (wI .u64 (ha0.DCID.length:Int)) 1).bind fun p2=>
      Xbn (decide ((p++p1).length+p2.length<2^63)) <|
      Xbn (decide (((p++p1)++p2).length+ha0.DCID.length<2^63)) <|
      (Xbe (wI .u64 (ha0.SCID.length:Int)) 1).bind fun p3=>
      Xbn (decide ((((p++p1)++p2)++ha0.DCID).length+p3.length<2^63)) <|
      Xbn (decide (((((p++p1)++p2)++ha0.DCID)++p3).length+ha0.SCID.length<2^63)) <|
      let t:=((((p++p1)++p2)++ha0.DCID)++p3)++ha0.SCID
      Xbn (decide (t.length+ha0.Rest.length<2^63)) <|
      some ((t++ha0.Rest,0)))))
    (
    cond ((ha0.DCID.length:Int) !=8)
     (
     some (([],1)))
     (
     cond (!(ha0.SCID==[]))
      (
      some (([],1)))
      (
      cond (ha0.Version !=0)
       (
       some (([],1)))
       (
       (Xbe (wI .u64 (wI .i64 (64+ha0.Bits))) 1).bind fun p4=>
       Xbn (decide (p4.length+ha0.DCID.length<2^63)) <|
       Xbn (decide ((p4++ha0.DCID).length+ha0.Rest.length<2^63)) <|
       some (((p4++ha0.DCID)++ha0.Rest,0))))))))
abbrev Xn7:=Xay→Option ((List UInt8)×Int)
def XkF:Xn7:=Xvy Xbe
def Xr1 (s:List UInt8) (ata1:Int):Option ((List UInt8)×Int×Int):=
 cond (decide (ata1≥(s.length:Int)))
  (
  some (([],2,0)))
  (
  Xbn (decide (0≤ata1)) <|
  (s[ata1.toNat]?).bind fun (b:UInt8)=>
  cond (decide ((wI .i64 (b.toNat:Int))>20))
   (
   some (([],3,0)))
   (
   let t:=wI .i64 ((wI .i64 ((s.length:Int) - ata1)) - 1)
   cond (decide ((wI .i64 (b.toNat:Int))>t))
    (
    some (([],2,0)))
    (
    let t1:=wI .i64 ((wI .i64 (ata1+1))+(wI .i64 (b.toNat:Int)))
    Xbn (decide ((0:Int)≤t1∧t1≤(s.length:Int)∧(0:Int)≤(wI .i64 (ata1+1))∧(wI .i64 (ata1+1))≤(t1.toNat:Int))) <|
    let t2:=(s.drop (wI .i64 (ata1+1)).toNat).take (t1.toNat - (wI .i64 (ata1+1)).toNat)
    let t3:=wI .i64 ((wI .i64 (ata1+1))+(wI .i64 (b.toNat:Int)))
    some ((t2,0,t3)))))
def XDh (x:(List UInt8)×Int×Int):XcU:=⟨.tuple ⟨[.string ⟨⟨x.1⟩⟩,.int .i64 x.2.1,.int .i64 x.2.2]⟩,[],[]⟩
abbrev XiZ:=(List UInt8)→Int→Option ((List UInt8)×Int×Int)
def r126 (g:XiZ):Dec:=dV asS fun (y0:List UInt8)=>dV (asI .i64) fun (y1:Int)=>Xd2 (ofG (g y0 y1) XDh)
theorem XRD {g:XiZ} {y0:List UInt8} {y1:Int} {x:(List UInt8)×Int×Int} (hx:g y0 y1=some x):r126 g [.string ⟨⟨y0⟩⟩,.int .i64 y1] []=some (XDh x):=(XaO (Xd3)).trans ((XaO (Xen _)).trans (XaN hx))
def s126 (g:XiZ):XbC:=⟨[.v,.v],r126 g⟩
theorem XOa {g:XiZ} {y0:List UInt8} {y1:Int} {x:(List UInt8)×Int×Int} (hx:g y0 y1=some x):(s126 g).run [.string ⟨⟨y0⟩⟩,.int .i64 y1] []=some (XDh x):=XRD hx
abbrev XOL:List (Nat×XbC):=[]
theorem XEX (hS:Xak Tryz.prog (XaD (XOL))) (s:List UInt8) (ata1:Int) (res:(List UInt8)×Int×Int) (h:Xr1 s ata1=some res) :
 XaF Tryz.prog 126 0 ⟨⟨126,37,[(0,.string ⟨⟨s⟩⟩),(1,.int .i64 ata1)],[.code XAO],[],false,none⟩,[],[],0⟩ (fun v H _=>Res 0 (XDh res) v H):=by
 unfold Xr1 at h
 refine Xa4 XaC hS true 3000 ?_
 conv=>whnf
 exact W
def XjK:XiZ:=Xr1
theorem XP4:XbD Tryz.prog 126 (s126 XjK):=by
 have hL:=XEX (Xak.XaJ trivial)
 exact okA ⟨Tryz.f126,rfl,by decide,rfl⟩
def Xpo (Xao:XbA) (XjK:XiZ) (s:List UInt8):Option (Xay×Int):=
 cond (s==[])
  (
  some ((Xay.mk false 0 0 [] [] [],2)))
  (
  (s[0]?).bind fun (b:UInt8)=>
  let t:=(wI .u8 ((b.toNat:Int).tdiv 64)).tmod 2
  cond (t==0)
   (
   some ((Xay.mk false 0 0 [] [] [],3)))
   (
   (s[0]?).bind fun (b1:UInt8)=>
   (s[0]?).bind fun (b2:UInt8)=>
   cond (!(decide ((b1.toNat:Int)≥128)))
    (
    cond (decide ((s.length:Int)<9))
     (
     some ((Xay.mk false 0 0 [] [] [],2)))
     (
     Xbn (decide ((0:Int)≤(9:Int)∧(9:Int)≤(s.length:Int)∧(0:Int)≤(1:Int)∧(1:Int)≤(9:Int))) <|
     Xbn (decide ((0:Int)≤(9:Int)∧(9:Int)≤(s.length:Int))) <|
     some ((Xay.mk (decide ((b1.toNat:Int)≥128)) (wI .i64 ((b2.toNat:Int).tmod 64)) 0 ((s.drop 1).take 8) [] ((s.drop 9).take (s.length - 9)),0))))
    (
    cond (decide ((s.length:Int)<5))
     (
     some ((Xay.mk false 0 0 [] [] [],2)))
     (
     (Xao s 1 4).bind fun m=>
     (XjK s 5).bind fun i=>
     cond (i.2.1 !=0)
      (
      some ((Xay.mk false 0 0 [] [] [],i.2.1)))
      (
      (XjK s i.2.2).bind fun i1=>
      cond (i1.2.1 !=0)
       (
       some ((Xay.mk false 0 0 [] [] [],i1.2.1)))
       (
       Xbn (decide ((0:Int)≤i1.2.2∧i1.2.2≤(s.length:Int))) <|
       let t1:=(s.drop i1.2.2.toNat).take (s.length - i1.2.2.toNat)
       some ((Xay.mk (decide ((b1.toNat:Int)≥128)) (wI .i64 ((b2.toNat:Int).tmod 64)) (wI .u32 m) i.1 i1.1 t1,0))))))))
def rx74 (x:Xay×Int):XcU:=⟨.tuple ⟨[.agg ⟨[.bool x.1.Long,.int .i64 x.1.Bits,.int .u32 x.1.Version,.string ⟨⟨x.1.DCID⟩⟩,.string ⟨⟨x.1.SCID⟩⟩,.string ⟨⟨x.1.Rest⟩⟩]⟩,.int .i64 x.2]⟩,[],[]⟩
abbrev XgQ:=(List UInt8)→Option (Xay×Int)
def r74 (g:XgQ):Dec:=dV asS fun (y0:List UInt8)=>Xd2 (ofG (g y0) rx74)
theorem r74_c {g:XgQ} {y0:List UInt8} {x:Xay×Int} (hx:g y0=some x):r74 g [.string ⟨⟨y0⟩⟩] []=some (rx74 x):=(XaO (Xd3)).trans (XaN hx)
def s74 (g:XgQ):XbC:=⟨[.v],r74 g⟩
theorem XUq {g:XgQ} {y0:List UInt8} {x:Xay×Int} (hx:g y0=some x):(s74 g).run [.string ⟨⟨y0⟩⟩] []=some (rx74 x):=r74_c hx
abbrev XUZ (Xao:XbA) (XjK:XiZ):List (Nat×XbC):=[(88,s88 Xao),(126,s126 XjK)]
theorem XN7 (Xao:XbA) (XjK:XiZ) (hS:Xak Tryz.prog (XaD (XUZ Xao XjK))) (s:List UInt8) (res:Xay×Int) (h:Xpo Xao XjK s=some res) :
 XaF Tryz.prog 74 0 ⟨⟨74,79,[(0,.string ⟨⟨s⟩⟩)],[.code XIc],[],false,none⟩,[],[],0⟩ (fun v H _=>Res 0 (rx74 res) v H):=by
 unfold Xpo at h
 have R1:=@XoB Xao
 have R2:=@XOa XjK
 refine Xa4 XaC hS true 3000 ?_
 conv=>whnf
 exact W
def XgH:XgQ:=Xpo Xao XjK
theorem XUl:XbD Tryz.prog 74 (s74 XgH):=by
 have hL:=XN7 Xao XjK (Xak.XaJ ⟨Xp7,XP4,trivial⟩)
 exact okA ⟨Tryz.f74,rfl,by decide,rfl⟩
end Go.Vm.Code
namespace Go.Vm.Code
open Go Go.Vm
def HOK (h:Xay):Prop:=(0≤h.Bits∧h.Bits<64)∧if h.Long=true then h.DCID.length≤20∧h.SCID.length≤20 else h.DCID.length=8∧h.SCID=[]∧h.Version=0
instance (h:Xay):Decidable (HOK h):=by unfold HOK;exact inferInstance
def XoK (h:Xay):List UInt8:=if h.Long=true then be (192+h.Bits.toNat) 1++be h.Version.toNat 4++(be h.DCID.length 1++h.DCID)++(be h.SCID.length 1++h.SCID)++h.Rest else be (64+h.Bits.toNat) 1++h.DCID++h.Rest
def XBY (h:Xay):List UInt8×Int:=if HOK h then (XoK h,0) else ([],1)
theorem XDN:∀ b:Fin 64,XlO .i64 192 ((b.val:Nat):Int)=((192+b.val:Nat):Int)∧XlO .i64 64 ((b.val:Nat):Int)=((64+b.val:Nat):Int):=by decide +kernel
theorem XLK (h:Xay):Xda h=some (decide (HOK h)):=by
 unfold Xda XiR
 by_cases h1:h.Bits<0
 ·rw [XaP h1,decide_eq_false (p:=HOK h) (fun q=>by have:=q.1.1;omega)]
 by_cases h2:h.Bits≥64
 ·rw [XaI h1,XaP h2,decide_eq_false (p:=HOK h) (fun q=>by have:=q.1.2;omega)]
 rw [XaI h1,XaI h2]
 cases hl:h.Long with
 | true=>
   rw [cond_true]
   simp only []
   congr 1
   rw [decide_eq_decide]
   unfold HOK
   rw [if_pos hl]
   split<;>constructor<;>intro q<;>omega
 | false=>
   have nl:¬ h.Long=true:=by rw [hl];simp
   rw [cond_false]
   by_cases h3:h.DCID.length=8
   ·have:(((h.DCID.length:Nat):Int)==8)=true:=by rw [beq_iff_eq];omega
    rw [this,cond_true]
    by_cases h4:h.SCID=[]
    ·have:(h.SCID==[])=true:=by rw [beq_iff_eq];exact h4
     rw [this,cond_true]
     congr 1
     rw [Bool.eq_iff_iff,beq_iff_eq,decide_eq_true_eq]
     unfold HOK
     rw [if_neg nl]
     exact ⟨fun q=>⟨by omega,h3,h4,q⟩,fun q=>q.2.2.2⟩
    ·have:(h.SCID==[])=false:=by rw [beq_eq_false_iff_ne];exact h4
     rw [this,cond_false,decide_eq_false (p:=HOK h) (fun q=>by have:=q.2;rw [if_neg nl] at this;exact h4 this.2.1)]
   ·have:(((h.DCID.length:Nat):Int)==8)=false:=by rw [beq_eq_false_iff_ne];omega
    rw [this,cond_false,decide_eq_false (p:=HOK h) (fun q=>by have:=q.2;rw [if_neg nl] at this;exact h3 this.1)]
theorem Xq7 {s:List UInt8} (h:s.length≤20):Xdm s=some (be s.length 1++s):=by
 unfold Xdm Xjh
 rw [Xf7 (by omega) (by omega),Xbt (by omega),Option.bind_some]
 unfold XcG
 rw [if_pos (by omega),show (1:Int).toNat=1 from rfl,Int.toNat_natCast]
 rw [Xat (by simp;omega)]
theorem XMV {h:Xay} (hv:0≤h.Version∧h.Version<2^32) (hr:h.Rest.length<2^38):Xg2 h=some (XBY h):=by
 unfold Xg2 XnD XBY
 rw [XLK,Option.bind_some]
 by_cases hk:HOK h
 ·rw [decide_eq_true hk,Bool.not_true,cond_false,if_pos hk]
  obtain ⟨⟨b0,b1'⟩,hk⟩:=hk
  obtain ⟨b,hb⟩:=Int.eq_ofNat_of_zero_le b0
  have hi:=XDN ⟨b,by omega⟩
  simp only at hi
  obtain ⟨v,hvv⟩:=Int.eq_ofNat_of_zero_le hv.1
  rw [hb,hvv]
  unfold XoK
  cases hl:h.Long with
  | true=>
    rw [hl] at hk
    simp only [if_true] at hk ⊢
    rw [cond_true,hi.1,Xf7 (by omega) (by omega),Xf7 (by omega) (by omega),Xbt (by omega),Option.bind_some,Xbt (by omega),Option.bind_some]
    unfold XcG
    rw [if_pos (by omega),if_pos (by omega)]
    rw [Xat (by simp),Xq7 hk.1,Option.bind_some,Xat (by simp;omega),Xq7 hk.2,Option.bind_some,Xat (by simp;omega),Xat (by simp;omega),hb,hvv]
    simp only [Int.toNat_natCast,show (1:Int).toNat=1 from rfl,show (4:Int).toNat=4 from rfl]
  | false=>
    rw [hl] at hk
    simp only [Bool.false_eq_true,if_false] at hk ⊢
    rw [cond_false,hi.2,Xf7 (by omega) (by omega),Xbt (by omega),Option.bind_some]
    unfold XcG
    rw [if_pos (by omega),Xat (by simp;omega),Xat (by simp;omega),hb]
    simp only [Int.toNat_natCast,show (1:Int).toNat=1 from rfl]
 ·rw [decide_eq_false hk,Bool.not_false,cond_true,if_neg hk]
theorem XGf {h:Xay} (hv:0≤h.Version∧h.Version<2^32) (hr:h.Rest.length<2^38):XkF h=some (XBY h):=by
 unfold XkF Xvy XBY
 by_cases h1:h.Bits<0
 ·rw [XaP h1,if_neg (fun q=>by have:=q.1.1;omega)]
 by_cases h2:h.Bits>63
 ·rw [XaI h1,XaP h2,if_neg (fun q=>by have:=q.1.2;omega)]
 rw [XaI h1,XaI h2]
 obtain ⟨b,hb⟩:=Int.eq_ofNat_of_zero_le (show 0≤h.Bits by omega)
 obtain ⟨v,hvv⟩:=Int.eq_ofNat_of_zero_le hv.1
 cases hl:h.Long with
 | true=>
   rw [cond_true]
   by_cases h3:(h.DCID.length:Int)>20
   ·rw [XaP h3,if_neg (fun q=>by have:=q.2;rw [if_pos hl] at this;omega)]
   by_cases h4:(h.SCID.length:Int)>20
   ·rw [XaI h3,XaP h4,if_neg (fun q=>by have:=q.2;rw [if_pos hl] at this;omega)]
   have hk:HOK h:=⟨by omega,by rw [if_pos hl];omega⟩
   rw [XaI h3,XaI h4,if_pos hk]
   unfold XoK
   rw [if_pos hl,hb,hvv,XdY (by omega) (by omega),Xf7 (by omega) (by omega),Xf7 (by omega) (by omega),Xf7 (by omega) (by omega),Xf7 (by omega) (by omega),Xdi (by omega) (by omega),Option.bind_some,Xdi (by omega) (by omega),Option.bind_some]
   unfold XcG
   rw [if_pos (by omega),if_pos (by omega)]
   rw [Xat (by simp),Xdi (by omega) (by omega),Option.bind_some]
   unfold XcG
   rw [if_pos (by omega),Xat (by simp),Xat (by simp;omega),Xdi (by omega) (by omega),Option.bind_some]
   unfold XcG
   rw [if_pos (by omega),Xat (by simp;omega),Xat (by simp;omega),Xat (by simp;omega)]
   have e:((192:Int)+(b:Int)).toNat=192+b:=by omega
   simp only [Int.toNat_natCast,show (1:Int).toNat=1 from rfl,show (4:Int).toNat=4 from rfl,e,List.append_assoc]
 | false=>
   rw [cond_false]
   have nl:¬ h.Long=true:=by rw [hl];simp
   by_cases h3:h.DCID.length=8
   ·have:(((h.DCID.length:Nat):Int) !=8)=false:=by rw [bne_eq_false_iff_eq];omega
    rw [this,cond_false]
    by_cases h4:h.SCID=[]
    ·have:(h.SCID==[])=true:=by rw [beq_iff_eq];exact h4
     rw [this,Bool.not_true,cond_false]
     by_cases h5:h.Version=0
     ·have:(h.Version !=0)=false:=by rw [bne_eq_false_iff_eq];exact h5
      have hk:HOK h:=⟨by omega,by rw [if_neg nl];exact ⟨h3,h4,h5⟩⟩
      rw [this,cond_false,if_pos hk]
      unfold XoK
      rw [if_neg nl,hb,XdY (by omega) (by omega),Xf7 (by omega) (by omega),Xdi (by omega) (by omega),Option.bind_some]
      unfold XcG
      rw [if_pos (by omega),Xat (by simp;omega),Xat (by simp;omega)]
      have e:((64:Int)+(b:Int)).toNat=64+b:=by omega
      simp only [Int.toNat_natCast,show (1:Int).toNat=1 from rfl,e]
     ·have:(h.Version !=0)=true:=by rw [bne_iff_ne];exact h5
      rw [this,cond_true,if_neg (fun q=>by have:=q.2;rw [if_neg nl] at this;exact h5 this.2.2)]
    ·have:(h.SCID==[])=false:=by rw [beq_eq_false_iff_ne];exact h4
     rw [this,Bool.not_false,cond_true,if_neg (fun q=>by have:=q.2;rw [if_neg nl] at this;exact h4 this.2.1)]
   ·have:(((h.DCID.length:Nat):Int) !=8)=true:=by rw [bne_iff_ne];omega
    rw [this,cond_true,if_neg (fun q=>by have:=q.2;rw [if_neg nl] at this;exact h3 this.1)]
def XwS:Xay:=⟨false,0,0,[],[],[]⟩
def idS (s:List UInt8) (p:Nat):List UInt8×Int×Nat:=
 if s.length≤p then ([],2,0) else if 20<b1 s p then ([],3,0) else if s.length<p+1+b1 s p then ([],2,0) else ((s.drop (p+1)).take (b1 s p),0,p+1+b1 s p)
theorem XIh {s:List UInt8} {p:Nat} (h:s.length<2^38):XjK s (p:Int)=some ((idS s p).1,(idS s p).2.1,(((idS s p).2.2:Nat):Int)):=by
 unfold XjK Xr1 idS
 by_cases h1:s.length≤p
 ·rw [XaP (by omega),if_pos h1];rfl
 have e1:s[(p:Int).toNat]?=some (s[p]'(by omega)):=by rw [Int.toNat_natCast];exact List.getElem?_eq_getElem (by omega)
 have hb:=XHF s p
 rw [XaI (by omega),if_neg h1,Xat (by omega),e1,Option.bind_some,←XIS (by omega),XdY (n:=((b1 s p:Nat):Int)) (by omega) (by omega)]
 by_cases h2:20<b1 s p
 ·rw [XaP (by omega),if_pos h2];rfl
 rw [XaI (by omega),if_neg h2,XdY (n:=(s.length:Int) - p) (by omega) (by omega),XdY (by omega) (by omega),XdY (n:=(p:Int)+1) (by omega) (by omega),XdY (n:=(p:Int)+1+((b1 s p:Nat):Int)) (by omega) (by omega)]
 simp only []
 by_cases h3:s.length<p+1+b1 s p
 ·rw [XaP (by omega),if_pos h3];rfl
 rw [XaI (by omega),if_neg h3,Xat (by omega)]
 have f1:((p:Int)+1).toNat=p+1:=by omega
 have f2:((p:Int)+1+((b1 s p:Nat):Int)).toNat - (p+1)=b1 s p:=by omega
 rw [f1,f2]
 simp
theorem i17:(if (1:Int)<1∨(1:Int)>7 then -1 else 1:Int)=1:=by decide
theorem i47:(if (4:Int)<1∨(4:Int)>7 then -1 else 4:Int)=4:=by decide
theorem Xp8 (s:List UInt8) (k:Int):rdr ⟨s,true,true⟩ k=⟨s,true,true⟩:=by unfold rdr;rw [if_pos (.inl rfl)]
theorem XPT (s:List UInt8) (h:s.length<2^38):Xhs ⟨s,true,true⟩=some ([],2,⟨s,true,true⟩):=by
 unfold Xhs XnJ
 rw [Xia rfl (by simp only [];omega),Option.bind_some]
 simp only [Xp8]
 rw [Xgt rfl,Option.bind_some]
 simp only [Bool.not_true,cond_false]
 rw [XgU rfl,Option.bind_some]
 simp only [Xp8]
 rw [Xgt rfl,Option.bind_some]
 rfl
theorem XIG {s:List UInt8} {p:Nat} (h:s.length<2^38):∃ r,Xhs ⟨s.drop p,true,false⟩=some ((idS s p).1,(idS s p).2.1,r)∧((idS s p).2.1=0→r=⟨s.drop (idS s p).2.2,true,false⟩):=by
 have hb:=XHF s p
 have ld:(s.drop p).length=s.length - p:=List.length_drop ..
 unfold Xhs XnJ idS
 rw [Xia rfl (by simp only [];omega),Option.bind_some]
 simp only [rdn,i17]
 by_cases h1:s.length≤p
 ·have hr:rdr ⟨s.drop p,true,false⟩ 1=⟨s.drop p,true,true⟩:=by unfold rdr;rw [if_pos (.inr (.inr (by simp only [];omega)))]
  rw [if_pos h1,hr,Xgt rfl,Option.bind_some]
  simp only [Bool.not_true,cond_false]
  rw [XgU rfl,Option.bind_some]
  simp only [Xp8]
  rw [Xgt rfl,Option.bind_some]
  exact ⟨_,rfl,fun q=>by cases q⟩
 ·rw [if_neg h1,XjB (by omega) (by omega),XjA (by omega) (by omega),show (1:Int).toNat=1 from rfl,List.drop_drop,show Xfy ((s.drop p).take 1)=b1 s p from rfl,Xgt rfl,Option.bind_some]
  simp only [Bool.not_false,cond_true]
  have ld2:(s.drop (p+1)).length=s.length - (p+1):=List.length_drop ..
  by_cases h2:20<b1 s p
  ·rw [XaP (by omega),if_pos h2]
   exact ⟨_,rfl,fun q=>by cases q⟩
  rw [XaI (by omega),if_neg h2,XgU rfl,Option.bind_some]
  by_cases h3:s.length<p+1+b1 s p
  ·have hr:rdr ⟨s.drop (p+1),true,false⟩ ((b1 s p:Nat):Int)=⟨s.drop (p+1),true,true⟩:=by unfold rdr;rw [if_pos (.inr (.inr (by simp only [];omega)))]
   rw [if_pos h3,hr,Xgt rfl,Option.bind_some]
   exact ⟨_,rfl,fun q=>by cases q⟩
  ·rw [if_neg h3,XjB (by omega) (by omega),XjA (by omega) (by omega),Xgt rfl,Option.bind_some,Int.toNat_natCast,List.drop_drop]
   exact ⟨_,rfl,fun _=>rfl⟩
def Xpt (s:List UInt8):Xay×Int:=
 if s=[] then (XwS,2) else if b1 s 0/64%2=0 then (XwS,3) else
 if b1 s 0<128 then if s.length<9 then (XwS,2) else (⟨false,((b1 s 0%64:Nat):Int),0,(s.drop 1).take 8,[],s.drop 9⟩,0)
 else if s.length<5 then (XwS,2) else if (idS s 5).2.1≠0 then (XwS,(idS s 5).2.1) else if (idS s (idS s 5).2.2).2.1≠0 then (XwS,(idS s (idS s 5).2.2).2.1) else
 (⟨true,((b1 s 0%64:Nat):Int),((Xfy ((s.drop 1).take 4):Nat):Int),(idS s 5).1,(idS s (idS s 5).2.2).1,s.drop (idS s (idS s 5).2.2).2.2⟩,0)
theorem XTm:∀ v:Fin 256,((wI .u8 (((v.val:Nat):Int).tdiv 64)).tmod 2=((v.val/64%2:Nat):Int)∧wI .i64 (((v.val:Nat):Int).tmod 64)=((v.val%64:Nat):Int))∧XnS .i64 ((v.val:Nat):Int) 64=((v.val/64%2*64:Nat):Int)∧XnS .i64 ((v.val:Nat):Int) 128=((v.val/128*128:Nat):Int)∧XnS .i64 ((v.val:Nat):Int) 63=((v.val%64:Nat):Int):=by decide +kernel
theorem XQv {s:List UInt8} {p:Nat} (h:(idS s p).2.1=0):(idS s p).2.2≤s.length:=by
 unfold idS at h ⊢
 split
 ·simp
 split
 ·simp
 split
 ·simp
 ·simp only [];omega
theorem Xv8 {s:List UInt8} (h:s.length<2^38):XgH s=some (Xpt s):=by
 unfold XgH Xpo Xpt
 by_cases h0:s=[]
 ·subst h0;rfl
 have hl:0<s.length:=List.length_pos_iff.2 h0
 have hb:=XHF s 0
 obtain ⟨⟨q1,q2⟩,-⟩:=XTm ⟨b1 s 0,hb⟩
 simp only at q1 q2
 have e0:s[0]?=some s[0]:=List.getElem?_eq_getElem hl
 have e1:s[0].toNat=b1 s 0:=(XIS hl).symm
 have es:(s==[])=false:=by rw [beq_eq_false_iff_ne];exact h0
 rw [es,cond_false,if_neg h0,e0]
 simp only [Option.bind_some,e1,q1,q2]
 by_cases h1:b1 s 0/64%2=0
 ·have:((((b1 s 0/64%2:Nat):Int))==0)=true:=by rw [beq_iff_eq];omega
  rw [this,cond_true,if_pos h1];rfl
 have:((((b1 s 0/64%2:Nat):Int))==0)=false:=by rw [beq_eq_false_iff_ne];omega
 rw [this,cond_false,if_neg h1]
 by_cases h2:b1 s 0<128
 ·rw [decide_eq_false (show ¬ ((b1 s 0:Nat):Int)≥128 by omega),Bool.not_false,cond_true,if_pos h2]
  by_cases h3:s.length<9
  ·rw [XaP (by omega),if_pos h3];rfl
  rw [XaI (by omega),if_neg h3,Xat (by omega),Xat (by omega),List.take_of_length_le (l:=s.drop 9) (by simp)]
 ·rw [decide_eq_true (show ((b1 s 0:Nat):Int)≥128 by omega),Bool.not_true,cond_false,if_neg h2]
  by_cases h3:s.length<5
  ·rw [XaP (by omega),if_pos h3];rfl
  have hv:Xfy ((s.drop 1).take 4)<2^32:=Xfo _ (by decide)
  have rid5:=XIh (s:=s) (p:=5) h
  rw [show ((5:Nat):Int)=5 from rfl] at rid5
  rw [XaI (by omega),if_neg h3,Xin (by omega),Option.bind_some,Xi9 (by omega) (by omega) (by omega) (by omega),rid5,Option.bind_some]
  simp only []
  by_cases h4:(idS s 5).2.1=0
  ·have:((idS s 5).2.1 !=0)=false:=by rw [bne_eq_false_iff_eq];exact h4
   rw [this,cond_false,if_neg (by omega),XIh h,Option.bind_some]
   simp only []
   by_cases h5:(idS s (idS s 5).2.2).2.1=0
   ·have:((idS s (idS s 5).2.2).2.1 !=0)=false:=by rw [bne_eq_false_iff_eq];exact h5
    have hle:=XQv h5
    rw [this,cond_false,if_neg (by omega),Xat (by omega),Int.toNat_natCast,List.take_of_length_le (l:=s.drop (idS s (idS s 5).2.2).2.2) (by simp)]
    simp only [show (1:Int).toNat=1 from rfl,show (4:Int).toNat=4 from rfl]
    rw [XdY (n:=((Xfy ((s.drop 1).take 4):Nat):Int)) (by omega) (by omega),XFS (by omega) (by omega)]
   ·have:((idS s (idS s 5).2.2).2.1 !=0)=true:=by rw [bne_iff_ne];exact h5
    rw [this,cond_true,if_pos h5];rfl
  ·have:((idS s 5).2.1 !=0)=true:=by rw [bne_iff_ne];exact h4
   rw [this,cond_true,if_pos h4];rfl
theorem XyJ {r:Xah} (h:r.made=true) (hb:r.bad=false):XbW r=some (r.s,rdr r r.s.length):=by
 unfold XbW Xgy
 rw [Xgt h,Option.bind_some]
 simp only [hb,cond_false]
 rw [XgU h,Option.bind_some]
 have:rdt r r.s.length=r.s:=by unfold rdt;rw [if_neg (by rw [hb];simp),Int.toNat_natCast,List.take_length]
 rw [this]
theorem Xu5 {s:List UInt8} (h:s.length<2^38):Xed s=some (Xpt s):=by
 unfold Xed Xnm Xpt
 by_cases h0:s=[]
 ·subst h0;decide +kernel
 have hl:0<s.length:=List.length_pos_iff.2 h0
 have hb:=XHF s 0
 obtain ⟨-,q1,q2,q3⟩:=XTm ⟨b1 s 0,hb⟩
 simp only at q1 q2 q3
 have l1:(s.drop 1).length=s.length - 1:=List.length_drop ..
 rw [if_neg h0,XpK,Option.bind_some,Xia rfl (by simp only [];omega),Option.bind_some]
 simp only [rdn,i17]
 rw [XjB (by omega) (by omega),XjA (by omega) (by omega),show (1:Int).toNat=1 from rfl,Xgt rfl,Option.bind_some,show Xfy (s.take 1)=b1 s 0 from rfl,q1,q2,q3]
 simp only [cond_false]
 by_cases h1:b1 s 0/64%2=0
 ·have:((((b1 s 0/64%2*64:Nat):Int))==0)=true:=by rw [beq_iff_eq];omega
  rw [this,cond_true,if_pos h1];rfl
 have:((((b1 s 0/64%2*64:Nat):Int))==0)=false:=by rw [beq_eq_false_iff_ne];omega
 rw [this,cond_false,if_neg h1]
 by_cases h2:b1 s 0<128
 ·have:((((b1 s 0/128*128:Nat):Int)) !=0)=false:=by rw [bne_eq_false_iff_eq];omega
  rw [this,Bool.not_false,cond_true,if_pos h2,XgU rfl,Option.bind_some]
  by_cases h3:s.length<9
  ·have hr:rdr ⟨s.drop 1,true,false⟩ 8=⟨s.drop 1,true,true⟩:=by unfold rdr;rw [if_pos (.inr (.inr (by simp only [];omega)))]
   rw [if_pos h3,hr,Xgt rfl,Option.bind_some];rfl
  ·rw [if_neg h3,XjB (by omega) (by omega),XjA (by omega) (by omega),Xgt rfl,Option.bind_some]
   simp only [cond_false]
   rw [XyJ rfl rfl,Option.bind_some,List.drop_drop]
   rfl
 ·have:((((b1 s 0/128*128:Nat):Int)) !=0)=true:=by rw [bne_iff_ne];omega
  rw [this,Bool.not_true,cond_false,if_neg h2,Xia rfl (by simp only [];omega),Option.bind_some]
  simp only [rdn,i47]
  by_cases h3:s.length<5
  ·have hr:rdr ⟨s.drop 1,true,false⟩ 4=⟨s.drop 1,true,true⟩:=by unfold rdr;rw [if_pos (.inr (.inr (by simp only [];omega)))]
   rw [if_pos h3,hr,XPT _ (by omega),Option.bind_some];rfl
  have hv:Xfy ((s.drop 1).take 4)<2^32:=Xfo _ (by decide)
  obtain ⟨r,er,hr⟩:=XIG (s:=s) (p:=5) h
  rw [if_neg h3,XjB (by omega) (by omega),XjA (by omega) (by omega),show (4:Int).toNat=4 from rfl,List.drop_drop,er,Option.bind_some]
  simp only []
  by_cases h4:(idS s 5).2.1=0
  ·have:((idS s 5).2.1 !=0)=false:=by rw [bne_eq_false_iff_eq];exact h4
   obtain ⟨r',er',hr'⟩:=XIG (s:=s) (p:=(idS s 5).2.2) h
   rw [this,cond_false,if_neg (by omega),hr h4,er',Option.bind_some]
   simp only []
   by_cases h5:(idS s (idS s 5).2.2).2.1=0
   ·have:((idS s (idS s 5).2.2).2.1 !=0)=false:=by rw [bne_eq_false_iff_eq];exact h5
    rw [this,cond_false,if_neg (by omega),hr' h5,XyJ rfl rfl,Option.bind_some,XFS (by omega) (by omega)]
   ·have:((idS s (idS s 5).2.2).2.1 !=0)=true:=by rw [bne_iff_ne];exact h5
    rw [this,cond_true,if_pos h5];rfl
  ·have:((idS s 5).2.1 !=0)=true:=by rw [bne_iff_ne];exact h4
   rw [this,cond_true,if_pos h4];rfl
end Go.Vm.Code
namespace Go.Vm.Code
open Go Go.Vm Go.Proofs
set_option maxRecDepth 100000
set_option maxHeartbeats 4000000
set_option linter.unusedVariables false
def XiK (XeU:Xfn) (XfO:XfT) (s:List UInt8):Option (XaK×Int):=
 (s[0]?).bind fun (b:UInt8)=>
 cond (((b.toNat:Int).fdiv (2^4))==4)
  (
  (XeU s).bind fun xg=>
  cond (xg.2.2 !=0)
   (
   some ((XaK.mk (Xaa.mk false 0 0) (Xaa.mk false 0 0) 0 [],xg.2.2)))
   (
   let t:=wI .i64 (20+(xg.1.Options.length:Int))
   let t1:=(s.length:Int) !=(wI .i64 (t+(xg.2.1.length:Int)))
   cond (t1)
    (
    some ((XaK.mk (Xaa.mk false 0 0) (Xaa.mk false 0 0) 0 [],5)))
    (
    some ((XaK.mk xg.1.Src xg.1.Dst xg.1.Proto xg.2.1,0)))))
  (
  cond (((b.toNat:Int).fdiv (2^4))==6)
   (
   (XfO s).bind fun xg1=>
   cond (xg1.2.2 !=0)
    (
    some ((XaK.mk (Xaa.mk false 0 0) (Xaa.mk false 0 0) 0 [],xg1.2.2)))
    (
    let t2:=(s.length:Int) !=(wI .i64 (40+(xg1.2.1.length:Int)))
    cond (t2)
     (
     some ((XaK.mk (Xaa.mk false 0 0) (Xaa.mk false 0 0) 0 [],5)))
     (
     some ((XaK.mk xg1.1.Src xg1.1.Dst xg1.1.Next xg1.2.1,0)))))
   (
   some ((XaK.mk (Xaa.mk false 0 0) (Xaa.mk false 0 0) 0 [],3))))
def XHG (x:XaK×Int):XcU:=⟨.tuple ⟨[.agg ⟨[.bool x.1.src.V6,.int .u64 x.1.src.Hi,.int .u64 x.1.src.Lo,.bool x.1.dst.V6,.int .u64 x.1.dst.Hi,.int .u64 x.1.dst.Lo,.int .i64 x.1.proto,.string ⟨⟨x.1.body⟩⟩]⟩,.int .i64 x.2]⟩,[],[]⟩
abbrev Xei:=(List UInt8)→Option (XaK×Int)
def r131 (g:Xei):Dec:=dV asS fun (y0:List UInt8)=>Xd2 (ofG (g y0) XHG)
theorem XRk {g:Xei} {y0:List UInt8} {x:XaK×Int} (hx:g y0=some x):r131 g [.string ⟨⟨y0⟩⟩] []=some (XHG x):=(XaO (Xd3)).trans (XaN hx)
def s131 (g:Xei):XbC:=⟨[.v],r131 g⟩
theorem XLL {g:Xei} {y0:List UInt8} {x:XaK×Int} (hx:g y0=some x):(s131 g).run [.string ⟨⟨y0⟩⟩] []=some (XHG x):=XRk hx
abbrev XL3 (XeU:Xfn) (XfO:XfT):List (Nat×XbC):=[(190,s190 XeU),(191,s191 XfO)]
theorem XEq (XeU:Xfn) (XfO:XfT) (hS:Xak Tryz.prog (XaD (XL3 XeU XfO))) (s:List UInt8) (res:XaK×Int) (h:XiK XeU XfO s=some res) :
 XaF Tryz.prog 131 0 ⟨⟨131,61,[(0,.string ⟨⟨s⟩⟩)],[.code XxP],[],false,none⟩,[],[],0⟩ (fun v H _=>Res 0 (XHG res) v H):=by
 unfold XiK at h
 have R1:=@XNF XeU
 have R2:=@XM2 XfO
 refine Xa4 XaC hS true 3000 ?_
 conv=>whnf
 exact W
def Xdc:Xei:=XiK XeU XfO
theorem XJR:XbD Tryz.prog 131 (s131 Xdc):=by
 have hL:=XEq XeU XfO (Xak.XaJ ⟨XNU,XNL,trivial⟩)
 exact okA ⟨Tryz.f131,rfl,by decide,rfl⟩
def Xfi (Xis:XhK) (XfA:XfV) (oa0:XaK) (p:Xam):Option (Int×Int×Xam):=
 (Xis oa0.body oa0.src oa0.dst).bind fun xg=>
 cond (xg.2.2 !=0)
  (
  some ((0,xg.2.2,p)))
  (
  (XfA xg.1.Options).bind fun s=>
  cond (decide (s.2.2≥0))
   (
   some (((xg.2.1.length:Int),0,Xam.mk (Xag.mk p.Tuple.Proto p.Tuple.Src p.Tuple.Dst xg.1.SPort xg.1.DPort) xg.1.Flags true s.1 s.2.1 p.Long p.CID p.Size)))
   (
   some (((xg.2.1.length:Int),0,Xam.mk (Xag.mk p.Tuple.Proto p.Tuple.Src p.Tuple.Dst xg.1.SPort xg.1.DPort) xg.1.Flags p.Stamped p.Val p.Echo p.Long p.CID p.Size))))
def XGc (x:Int×Int×Xam):XcU:=⟨.tuple ⟨[.int .i64 x.1,.int .i64 x.2.1]⟩,[],[some [.int .i64 x.2.2.Tuple.Proto,.bool x.2.2.Tuple.Src.V6,.int .u64 x.2.2.Tuple.Src.Hi,.int .u64 x.2.2.Tuple.Src.Lo,.bool x.2.2.Tuple.Dst.V6,.int .u64 x.2.2.Tuple.Dst.Hi,.int .u64 x.2.2.Tuple.Dst.Lo,.int .i64 x.2.2.Tuple.SPort,.int .i64 x.2.2.Tuple.DPort,.int .i64 x.2.2.Flags,.bool x.2.2.Stamped,.int .u32 x.2.2.Val,.int .u32 x.2.2.Echo,.bool x.2.2.Long,.string ⟨⟨x.2.2.CID⟩⟩,.int .i64 x.2.2.Size]]⟩
abbrev Xcl:=XaK→Xam→Option (Int×Int×Xam)
def r132 (g:Xcl):Dec:=dV Xhg fun (y0:XaK)=>dPt 0 Xhz fun (y1:Xam)=>Xd2 (ofG (g y0 y1) XGc)
theorem XTs {g:Xcl} {y0:XaK} {y1:Xam} {x:Int×Int×Xam} (hx:g y0 y1=some x):r132 g [.agg ⟨[.bool y0.src.V6,.int .u64 y0.src.Hi,.int .u64 y0.src.Lo,.bool y0.dst.V6,.int .u64 y0.dst.Hi,.int .u64 y0.dst.Lo,.int .i64 y0.proto,.string ⟨⟨y0.body⟩⟩]⟩,.pointer (some ⟨0,0,none⟩)] [some [.int .i64 y1.Tuple.Proto,.bool y1.Tuple.Src.V6,.int .u64 y1.Tuple.Src.Hi,.int .u64 y1.Tuple.Src.Lo,.bool y1.Tuple.Dst.V6,.int .u64 y1.Tuple.Dst.Hi,.int .u64 y1.Tuple.Dst.Lo,.int .i64 y1.Tuple.SPort,.int .i64 y1.Tuple.DPort,.int .i64 y1.Flags,.bool y1.Stamped,.int .u32 y1.Val,.int .u32 y1.Echo,.bool y1.Long,.string ⟨⟨y1.CID⟩⟩,.int .i64 y1.Size]]=some (XGc x):=(XaO (Xk5 _)).trans ((Xh1 (XmF _)).trans (XaN hx))
def s132 (g:Xcl):XbC:=⟨[.v,.pt 16],r132 g⟩
theorem XNV {g:Xcl} {y0:XaK} {y1:Xam} {x:Int×Int×Xam} (hx:g y0 y1=some x):(s132 g).run [.agg ⟨[.bool y0.src.V6,.int .u64 y0.src.Hi,.int .u64 y0.src.Lo,.bool y0.dst.V6,.int .u64 y0.dst.Hi,.int .u64 y0.dst.Lo,.int .i64 y0.proto,.string ⟨⟨y0.body⟩⟩]⟩,.pointer (some ⟨0,0,none⟩)] [some [.int .i64 y1.Tuple.Proto,.bool y1.Tuple.Src.V6,.int .u64 y1.Tuple.Src.Hi,.int .u64 y1.Tuple.Src.Lo,.bool y1.Tuple.Dst.V6,.int .u64 y1.Tuple.Dst.Hi,.int .u64 y1.Tuple.Dst.Lo,.int .i64 y1.Tuple.SPort,.int .i64 y1.Tuple.DPort,.int .i64 y1.Flags,.bool y1.Stamped,.int .u32 y1.Val,.int .u32 y1.Echo,.bool y1.Long,.string ⟨⟨y1.CID⟩⟩,.int .i64 y1.Size]]=some (XGc x):=XTs hx
abbrev XPB (Xis:XhK) (XfA:XfV):List (Nat×XbC):=[(167,s167 Xis),(134,s134 XfA)]
theorem XE9 (Xis:XhK) (XfA:XfV) (hS:Xak Tryz.prog (XaD (XPB Xis XfA))) (oa0:XaK) (p:Xam) (res:Int×Int×Xam) (h:Xfi Xis XfA oa0 p=some res) :
 XaF Tryz.prog 132 1 ⟨⟨132,65,[(0,.agg ⟨[.bool oa0.src.V6,.int .u64 oa0.src.Hi,.int .u64 oa0.src.Lo,.bool oa0.dst.V6,.int .u64 oa0.dst.Hi,.int .u64 oa0.dst.Lo,.int .i64 oa0.proto,.string ⟨⟨oa0.body⟩⟩]⟩),(1,.pointer (some ⟨0,0,none⟩))],[.code XAm],[],false,none⟩,[],[(0,.cells [.int .i64 p.Tuple.Proto,.bool p.Tuple.Src.V6,.int .u64 p.Tuple.Src.Hi,.int .u64 p.Tuple.Src.Lo,.bool p.Tuple.Dst.V6,.int .u64 p.Tuple.Dst.Hi,.int .u64 p.Tuple.Dst.Lo,.int .i64 p.Tuple.SPort,.int .i64 p.Tuple.DPort,.int .i64 p.Flags,.bool p.Stamped,.int .u32 p.Val,.int .u32 p.Echo,.bool p.Long,.string ⟨⟨p.CID⟩⟩,.int .i64 p.Size])],1⟩ (fun v H _=>Res 1 (XGc res) v H):=by
 unfold Xfi at h
 have R1:=@XMW Xis
 have R2:=@XMP XfA
 refine Xa4 XaC hS true 3000 ?_
 conv=>whnf
 exact W
def Xbw:Xcl:=Xfi Xis XfA
theorem XLo:XbD Tryz.prog 132 (s132 Xbw):=by
 have hL:=XE9 Xis XfA (Xak.XaJ ⟨XLs,XKI,trivial⟩)
 exact okA ⟨Tryz.f132,rfl,by decide,rfl⟩
def Xe1 (Xed:XeY) (XiH:XhG) (oa0:XaK) (p:Xam):Option (Int×Int×Xam):=
 (XiH oa0.body oa0.src oa0.dst).bind fun xg=>
 cond (xg.2.2 !=0)
  (
  some ((0,xg.2.2,p)))
  (
  let t:=(xg.2.1.length:Int) !=(wI .i64 ((oa0.body.length:Int) - 8))
  cond (t)
   (
   some ((0,5,p)))
   (
   (Xed xg.2.1).bind fun xg1=>
   cond (xg1.2==0)
    (
    some (((xg.2.1.length:Int),0,Xam.mk (Xag.mk p.Tuple.Proto p.Tuple.Src p.Tuple.Dst xg.1.SPort xg.1.DPort) p.Flags p.Stamped p.Val p.Echo xg1.1.Long xg1.1.DCID p.Size)))
    (
    some (((xg.2.1.length:Int),0,Xam.mk (Xag.mk p.Tuple.Proto p.Tuple.Src p.Tuple.Dst xg.1.SPort xg.1.DPort) p.Flags p.Stamped p.Val p.Echo p.Long p.CID p.Size)))))
def XDx (x:Int×Int×Xam):XcU:=⟨.tuple ⟨[.int .i64 x.1,.int .i64 x.2.1]⟩,[],[some [.int .i64 x.2.2.Tuple.Proto,.bool x.2.2.Tuple.Src.V6,.int .u64 x.2.2.Tuple.Src.Hi,.int .u64 x.2.2.Tuple.Src.Lo,.bool x.2.2.Tuple.Dst.V6,.int .u64 x.2.2.Tuple.Dst.Hi,.int .u64 x.2.2.Tuple.Dst.Lo,.int .i64 x.2.2.Tuple.SPort,.int .i64 x.2.2.Tuple.DPort,.int .i64 x.2.2.Flags,.bool x.2.2.Stamped,.int .u32 x.2.2.Val,.int .u32 x.2.2.Echo,.bool x.2.2.Long,.string ⟨⟨x.2.2.CID⟩⟩,.int .i64 x.2.2.Size]]⟩
abbrev Xcc:=XaK→Xam→Option (Int×Int×Xam)
def r133 (g:Xcc):Dec:=dV Xhg fun (y0:XaK)=>dPt 0 Xhz fun (y1:Xam)=>Xd2 (ofG (g y0 y1) XDx)
theorem XWt {g:Xcc} {y0:XaK} {y1:Xam} {x:Int×Int×Xam} (hx:g y0 y1=some x):r133 g [.agg ⟨[.bool y0.src.V6,.int .u64 y0.src.Hi,.int .u64 y0.src.Lo,.bool y0.dst.V6,.int .u64 y0.dst.Hi,.int .u64 y0.dst.Lo,.int .i64 y0.proto,.string ⟨⟨y0.body⟩⟩]⟩,.pointer (some ⟨0,0,none⟩)] [some [.int .i64 y1.Tuple.Proto,.bool y1.Tuple.Src.V6,.int .u64 y1.Tuple.Src.Hi,.int .u64 y1.Tuple.Src.Lo,.bool y1.Tuple.Dst.V6,.int .u64 y1.Tuple.Dst.Hi,.int .u64 y1.Tuple.Dst.Lo,.int .i64 y1.Tuple.SPort,.int .i64 y1.Tuple.DPort,.int .i64 y1.Flags,.bool y1.Stamped,.int .u32 y1.Val,.int .u32 y1.Echo,.bool y1.Long,.string ⟨⟨y1.CID⟩⟩,.int .i64 y1.Size]]=some (XDx x):=(XaO (Xk5 _)).trans ((Xh1 (XmF _)).trans (XaN hx))
def s133 (g:Xcc):XbC:=⟨[.v,.pt 16],r133 g⟩
theorem XMU {g:Xcc} {y0:XaK} {y1:Xam} {x:Int×Int×Xam} (hx:g y0 y1=some x):(s133 g).run [.agg ⟨[.bool y0.src.V6,.int .u64 y0.src.Hi,.int .u64 y0.src.Lo,.bool y0.dst.V6,.int .u64 y0.dst.Hi,.int .u64 y0.dst.Lo,.int .i64 y0.proto,.string ⟨⟨y0.body⟩⟩]⟩,.pointer (some ⟨0,0,none⟩)] [some [.int .i64 y1.Tuple.Proto,.bool y1.Tuple.Src.V6,.int .u64 y1.Tuple.Src.Hi,.int .u64 y1.Tuple.Src.Lo,.bool y1.Tuple.Dst.V6,.int .u64 y1.Tuple.Dst.Hi,.int .u64 y1.Tuple.Dst.Lo,.int .i64 y1.Tuple.SPort,.int .i64 y1.Tuple.DPort,.int .i64 y1.Flags,.bool y1.Stamped,.int .u32 y1.Val,.int .u32 y1.Echo,.bool y1.Long,.string ⟨⟨y1.CID⟩⟩,.int .i64 y1.Size]]=some (XDx x):=XWt hx
abbrev XOP (Xed:XeY) (XiH:XhG):List (Nat×XbC):=[(94,s94 Xed),(168,s168 XiH)]
theorem XGj (Xed:XeY) (XiH:XhG) (hS:Xak Tryz.prog (XaD (XOP Xed XiH))) (oa0:XaK) (p:Xam) (res:Int×Int×Xam) (h:Xe1 Xed XiH oa0 p=some res) :
 XaF Tryz.prog 133 1 ⟨⟨133,65,[(0,.agg ⟨[.bool oa0.src.V6,.int .u64 oa0.src.Hi,.int .u64 oa0.src.Lo,.bool oa0.dst.V6,.int .u64 oa0.dst.Hi,.int .u64 oa0.dst.Lo,.int .i64 oa0.proto,.string ⟨⟨oa0.body⟩⟩]⟩),(1,.pointer (some ⟨0,0,none⟩))],[.code Xyf],[],false,none⟩,[],[(0,.cells [.int .i64 p.Tuple.Proto,.bool p.Tuple.Src.V6,.int .u64 p.Tuple.Src.Hi,.int .u64 p.Tuple.Src.Lo,.bool p.Tuple.Dst.V6,.int .u64 p.Tuple.Dst.Hi,.int .u64 p.Tuple.Dst.Lo,.int .i64 p.Tuple.SPort,.int .i64 p.Tuple.DPort,.int .i64 p.Flags,.bool p.Stamped,.int .u32 p.Val,.int .u32 p.Echo,.bool p.Long,.string ⟨⟨p.CID⟩⟩,.int .i64 p.Size])],1⟩ (fun v H _=>Res 1 (XDx res) v H):=by
 unfold Xe1 at h
 have R1:=@XLh XiH
 have R2:=@XH4 Xed
 refine Xa4 XaC hS true 3000 ?_
 conv=>whnf
 exact W
def Xbj:Xcc:=Xe1 Xed XiH
theorem XL7:XbD Tryz.prog 133 (s133 Xbj):=by
 have hL:=XGj Xed XiH (Xak.XaJ ⟨XHX,XLG,trivial⟩)
 exact okA ⟨Tryz.f133,rfl,by decide,rfl⟩
def XjP (Xdc:Xei) (Xbj:Xcc) (Xbw:Xcl) (s:List UInt8):Option (Xam×Int×Int×Int):=
 cond (decide ((s.length:Int)>9000))
  (
  some ((Xam.mk (Xag.mk 0 (Xaa.mk false 0 0) (Xaa.mk false 0 0) 0 0) 0 false 0 0 false [] 0,0,0,5)))
  (
  cond (s==[])
   (
   some ((Xam.mk (Xag.mk 0 (Xaa.mk false 0 0) (Xaa.mk false 0 0) 0 0) 0 false 0 0 false [] 0,0,0,2)))
   (
   (Xdc s).bind fun xo=>
   cond (xo.2 !=0)
    (
    some ((Xam.mk (Xag.mk 0 (Xaa.mk false 0 0) (Xaa.mk false 0 0) 0 0) 0 false 0 0 false [] 0,0,0,xo.2)))
    (
    cond (xo.1.proto==6)
     (
     (Xbw xo.1 (Xam.mk (Xag.mk xo.1.proto xo.1.src xo.1.dst 0 0) 0 false 0 0 false [] (s.length:Int))).bind fun s1=>
     cond (s1.2.1 !=0)
      (
      some ((Xam.mk (Xag.mk 0 (Xaa.mk false 0 0) (Xaa.mk false 0 0) 0 0) 0 false 0 0 false [] 0,0,0,s1.2.1)))
      (
      some ((s1.2.2,(xo.1.body.length:Int),s1.1,0))))
     (
     cond (xo.1.proto==17)
      (
      (Xbj xo.1 (Xam.mk (Xag.mk xo.1.proto xo.1.src xo.1.dst 0 0) 0 false 0 0 false [] (s.length:Int))).bind fun d=>
      cond (d.2.1 !=0)
       (
       some ((Xam.mk (Xag.mk 0 (Xaa.mk false 0 0) (Xaa.mk false 0 0) 0 0) 0 false 0 0 false [] 0,0,0,d.2.1)))
       (
       some ((d.2.2,(xo.1.body.length:Int),d.1,0))))
      (
      some ((Xam.mk (Xag.mk 0 (Xaa.mk false 0 0) (Xaa.mk false 0 0) 0 0) 0 false 0 0 false [] 0,0,0,6)))))))
def rx81 (x:Xam×Int×Int×Int):XcU:=⟨.tuple ⟨[.agg ⟨[.int .i64 x.1.Tuple.Proto,.bool x.1.Tuple.Src.V6,.int .u64 x.1.Tuple.Src.Hi,.int .u64 x.1.Tuple.Src.Lo,.bool x.1.Tuple.Dst.V6,.int .u64 x.1.Tuple.Dst.Hi,.int .u64 x.1.Tuple.Dst.Lo,.int .i64 x.1.Tuple.SPort,.int .i64 x.1.Tuple.DPort,.int .i64 x.1.Flags,.bool x.1.Stamped,.int .u32 x.1.Val,.int .u32 x.1.Echo,.bool x.1.Long,.string ⟨⟨x.1.CID⟩⟩,.int .i64 x.1.Size]⟩,.int .i64 x.2.1,.int .i64 x.2.2.1,.int .i64 x.2.2.2]⟩,[],[]⟩
abbrev Xdv:=(List UInt8)→Option (Xam×Int×Int×Int)
def r81 (g:Xdv):Dec:=dV asS fun (y0:List UInt8)=>Xd2 (ofG (g y0) rx81)
theorem r81_c {g:Xdv} {y0:List UInt8} {x:Xam×Int×Int×Int} (hx:g y0=some x):r81 g [.string ⟨⟨y0⟩⟩] []=some (rx81 x):=(XaO (Xd3)).trans (XaN hx)
def s81 (g:Xdv):XbC:=⟨[.v],r81 g⟩
theorem XIm {g:Xdv} {y0:List UInt8} {x:Xam×Int×Int×Int} (hx:g y0=some x):(s81 g).run [.string ⟨⟨y0⟩⟩] []=some (rx81 x):=r81_c hx
abbrev XU5 (Xdc:Xei) (Xbj:Xcc) (Xbw:Xcl):List (Nat×XbC):=[(131,s131 Xdc),(133,s133 Xbj),(132,s132 Xbw)]
theorem XMi (Xdc:Xei) (Xbj:Xcc) (Xbw:Xcl) (hS:Xak Tryz.prog (XaD (XU5 Xdc Xbj Xbw))) (s:List UInt8) (res:Xam×Int×Int×Int) (h:XjP Xdc Xbj Xbw s=some res) :
 XaF Tryz.prog 81 0 ⟨⟨81,63,[(0,.string ⟨⟨s⟩⟩)],[.code XJj],[],false,none⟩,[],[],0⟩ (fun v H _=>Res 0 (rx81 res) v H):=by
 unfold XjP at h
 have R1:=@XLL Xdc
 have R2:=@XNV Xbw
 have R3:=@XMU Xbj
 refine Xa4 XaC hS true 3000 ?_
 conv=>whnf
 exact W
def Xb8:Xdv:=XjP Xdc Xbj Xbw
theorem XIr:XbD Tryz.prog 81 (s81 Xb8):=by
 have hL:=XMi Xdc Xbj Xbw (Xak.XaJ ⟨XJR,XL7,XLo,trivial⟩)
 exact okA ⟨Tryz.f81,rfl,by decide,rfl⟩
def Xjf (Xb8:Xdv) (s:List UInt8):Option (Xam×Int):=
 (Xb8 s).bind fun t=>
 some ((t.1,t.2.2.2))
def rx47 (x:Xam×Int):XcU:=⟨.tuple ⟨[.agg ⟨[.int .i64 x.1.Tuple.Proto,.bool x.1.Tuple.Src.V6,.int .u64 x.1.Tuple.Src.Hi,.int .u64 x.1.Tuple.Src.Lo,.bool x.1.Tuple.Dst.V6,.int .u64 x.1.Tuple.Dst.Hi,.int .u64 x.1.Tuple.Dst.Lo,.int .i64 x.1.Tuple.SPort,.int .i64 x.1.Tuple.DPort,.int .i64 x.1.Flags,.bool x.1.Stamped,.int .u32 x.1.Val,.int .u32 x.1.Echo,.bool x.1.Long,.string ⟨⟨x.1.CID⟩⟩,.int .i64 x.1.Size]⟩,.int .i64 x.2]⟩,[],[]⟩
abbrev Xez:=(List UInt8)→Option (Xam×Int)
def r47 (g:Xez):Dec:=dV asS fun (y0:List UInt8)=>Xd2 (ofG (g y0) rx47)
theorem r47_c {g:Xez} {y0:List UInt8} {x:Xam×Int} (hx:g y0=some x):r47 g [.string ⟨⟨y0⟩⟩] []=some (rx47 x):=(XaO (Xd3)).trans (XaN hx)
def s47 (g:Xez):XbC:=⟨[.v],r47 g⟩
theorem XWJ {g:Xez} {y0:List UInt8} {x:Xam×Int} (hx:g y0=some x):(s47 g).run [.string ⟨⟨y0⟩⟩] []=some (rx47 x):=r47_c hx
abbrev XV4 (Xb8:Xdv):List (Nat×XbC):=[(81,s81 Xb8)]
theorem XKD (Xb8:Xdv) (hS:Xak Tryz.prog (XaD (XV4 Xb8))) (s:List UInt8) (res:Xam×Int) (h:Xjf Xb8 s=some res) :
 XaF Tryz.prog 47 0 ⟨⟨47,17,[(0,.string ⟨⟨s⟩⟩)],[.code XUi],[],false,none⟩,[],[],0⟩ (fun v H _=>Res 0 (rx47 res) v H):=by
 unfold Xjf at h
 have R1:=@XIm Xb8
 refine Xa4 XaC hS true 3000 ?_
 conv=>whnf
 exact W
def XdQ:Xez:=Xjf Xb8
theorem XWf:XbD Tryz.prog 47 (s47 XdQ):=by
 have hL:=XKD Xb8 (Xak.XaJ ⟨XIr,trivial⟩)
 exact okA ⟨Tryz.f47,rfl,by decide,rfl⟩
def Xje (Xb8:Xdv) (s:List UInt8):Option (Int×Int×Int):=
 (Xb8 s).bind fun t=>
 cond (t.2.2.2 !=0)
  (
  some ((0,0,t.2.2.2)))
  (
  some ((wI .i64 ((s.length:Int) - t.2.1),wI .i64 ((s.length:Int) - t.2.2.1),0)))
def rx93 (x:Int×Int×Int):XcU:=⟨.tuple ⟨[.int .i64 x.1,.int .i64 x.2.1,.int .i64 x.2.2]⟩,[],[]⟩
abbrev XeA:=(List UInt8)→Option (Int×Int×Int)
def r93 (g:XeA):Dec:=dV asS fun (y0:List UInt8)=>Xd2 (ofG (g y0) rx93)
theorem r93_c {g:XeA} {y0:List UInt8} {x:Int×Int×Int} (hx:g y0=some x):r93 g [.string ⟨⟨y0⟩⟩] []=some (rx93 x):=(XaO (Xd3)).trans (XaN hx)
def s93 (g:XeA):XbC:=⟨[.v],r93 g⟩
theorem XQy {g:XeA} {y0:List UInt8} {x:Int×Int×Int} (hx:g y0=some x):(s93 g).run [.string ⟨⟨y0⟩⟩] []=some (rx93 x):=r93_c hx
abbrev XSq (Xb8:Xdv):List (Nat×XbC):=[(81,s81 Xb8)]
theorem XPC (Xb8:Xdv) (hS:Xak Tryz.prog (XaD (XSq Xb8))) (s:List UInt8) (res:Int×Int×Int) (h:Xje Xb8 s=some res) :
 XaF Tryz.prog 93 0 ⟨⟨93,27,[(0,.string ⟨⟨s⟩⟩)],[.code XHZ],[],false,none⟩,[],[],0⟩ (fun v H _=>Res 0 (rx93 res) v H):=by
 unfold Xje at h
 have R1:=@XIm Xb8
 refine Xa4 XaC hS true 3000 ?_
 conv=>whnf
 exact W
def XdO:XeA:=Xje Xb8
theorem XUO:XbD Tryz.prog 93 (s93 XdO):=by
 have hL:=XPC Xb8 (Xak.XaJ ⟨XIr,trivial⟩)
 exact okA ⟨Tryz.f93,rfl,by decide,rfl⟩
end Go.Vm.Code
namespace Go.Vm.Code
open Go Go.Vm
def zP:Xam:=⟨⟨0,⟨false,0,0⟩,⟨false,0,0⟩,0,0⟩,0,false,0,0,false,[],0⟩
structure O11 where
 src:Xaa
 dst:Xaa
 proto:Int
 size:Nat
 body:List UInt8
 err:Int
def zO (e:Int):O11:=⟨⟨false,0,0⟩,⟨false,0,0⟩,0,0,[],e⟩
def Xbz (s:List UInt8):O11:=
 if vK s 0 1/16=4 then (if (XjH s).2.2≠0 then zO (XjH s).2.2 else if s.length≠20+(XjH s).1.Options.length+(XjH s).2.1.length then zO 5 else ⟨(XjH s).1.Src,(XjH s).1.Dst,(XjH s).1.Proto,20+(XjH s).1.Options.length,(XjH s).2.1,0⟩)
 else if vK s 0 1/16=6 then (if (Xk9 s).2.2≠0 then zO (Xk9 s).2.2 else if s.length≠40+(Xk9 s).2.1.length then zO 5 else ⟨(Xk9 s).1.Src,(Xk9 s).1.Dst,(Xk9 s).1.Next,40,(Xk9 s).2.1,0⟩)
 else zO 3
def Xvo (o:List UInt8):Bool×Int×Int:=if 0≤(Xk4 o).2.2 then (true,(Xk4 o).1,(Xk4 o).2.1) else (false,0,0)
def XQo (b:List UInt8):Bool×List UInt8:=if (Xpt b).2=0 then ((Xpt b).1.Long,(Xpt b).1.DCID) else (false,[])
def XhW (o:O11) (n:Nat):Xam×Nat×Int:=
 if o.proto=6 then (if (Xkb o.body o.src o.dst).2.2≠0 then (zP,0,(Xkb o.body o.src o.dst).2.2) else
  (⟨⟨o.proto,o.src,o.dst,(Xkb o.body o.src o.dst).1.SPort,(Xkb o.body o.src o.dst).1.DPort⟩,(Xkb o.body o.src o.dst).1.Flags,(Xvo (Xkb o.body o.src o.dst).1.Options).1,(Xvo (Xkb o.body o.src o.dst).1.Options).2.1,(Xvo (Xkb o.body o.src o.dst).1.Options).2.2,false,[],n⟩,(Xkb o.body o.src o.dst).2.1.length,0))
 else if o.proto=17 then (if (XjJ o.body o.src o.dst).2.2≠0 then (zP,0,(XjJ o.body o.src o.dst).2.2) else if (XjJ o.body o.src o.dst).2.1.length+8≠o.body.length then (zP,0,5) else
  (⟨⟨o.proto,o.src,o.dst,(XjJ o.body o.src o.dst).1.SPort,(XjJ o.body o.src o.dst).1.DPort⟩,0,false,0,0,(XQo (XjJ o.body o.src o.dst).2.1).1,(XQo (XjJ o.body o.src o.dst).2.1).2,n⟩,(XjJ o.body o.src o.dst).2.1.length,0))
 else (zP,0,6)
def Xbm (s:List UInt8):Xam×Nat×Nat×Int:=
 if 9000<s.length then (zP,0,0,5) else if s=[] then (zP,0,0,2) else if (Xbz s).err≠0 then (zP,0,0,(Xbz s).err) else
  if (XhW (Xbz s) s.length).2.2≠0 then (zP,0,0,(XhW (Xbz s) s.length).2.2) else
   ((XhW (Xbz s) s.length).1,s.length - (Xbz s).body.length,s.length - (XhW (Xbz s) s.length).2.1,0)
theorem XPD (s:List UInt8):A4 (XjH s).1.Src∧A4 (XjH s).1.Dst:=by
 have z:A4 ⟨false,0,0⟩:=⟨by simp only [];omega,by simp only [];omega,by simp only [];omega,by simp only [];omega⟩
 have k:∀ p,A4 (XRh s p):=fun p=>by
  have:=XfW s p 4 4294967296 (by decide)
  exact ⟨Int.le_refl 0,by show (0:Int)<2^64;decide,this.1,by show vK s p 4<2^64;omega⟩
 unfold XjH
 split
 ·exact ⟨z,z⟩
 split
 ·exact ⟨z,z⟩
 split
 ·exact ⟨z,z⟩
 split
 ·exact ⟨z,z⟩
 split
 ·exact ⟨z,z⟩
 split
 ·exact ⟨z,z⟩
 split
 ·exact ⟨z,z⟩
 exact ⟨k 12,k 16⟩
theorem XKs (s:List UInt8):A4 (Xk9 s).1.Src∧A4 (Xk9 s).1.Dst:=by
 have z:A4 ⟨false,0,0⟩:=⟨by simp only [];omega,by simp only [];omega,by simp only [];omega,by simp only [];omega⟩
 have k:∀ p,A4 (Xtv ((s.drop p).take 16)):=fun p=>by
  have h1:Xfy (((s.drop p).take 16).take 8)<2^64:=Xfo _ (by decide)
  have h2:Xfy (((s.drop p).take 16).drop 8)<2^64:=by
   have:=Xtl (((s.drop p).take 16).drop 8)
   refine Nat.lt_of_lt_of_le this ?_
   have:(((s.drop p).take 16).drop 8).length≤8:=by simp;omega
   exact Nat.pow_le_pow_right (n:=256) (by decide) this
  unfold Xtv
  exact ⟨by simp only [];omega,by simp only [];omega,by simp only [];omega,by simp only [];omega⟩
 unfold Xk9
 split
 ·exact ⟨z,z⟩
 split
 ·exact ⟨z,z⟩
 split
 ·exact ⟨z,z⟩
 exact ⟨k 8,k 24⟩
theorem XsK (s:List UInt8):A4 (Xbz s).src∧A4 (Xbz s).dst:=by
 have z:A4 ⟨false,0,0⟩:=⟨by simp only [];omega,by simp only [];omega,by simp only [];omega,by simp only [];omega⟩
 unfold Xbz zO
 split
 ·split
  ·exact ⟨z,z⟩
  split
  ·exact ⟨z,z⟩
  exact XPD s
 split
 ·split
  ·exact ⟨z,z⟩
  split
  ·exact ⟨z,z⟩
  exact XKs s
 exact ⟨z,z⟩
theorem XpI {s:List UInt8} (h:(Xbz s).err=0):(Xbz s).body.length+(Xbz s).size=s.length:=by
 unfold Xbz at h ⊢
 by_cases g1:vK s 0 1/16=4
 ·rw [if_pos g1] at h ⊢
  by_cases g2:(XjH s).2.2≠0
  ·rw [if_pos g2] at h;exact absurd h g2
  rw [if_neg g2] at h ⊢
  by_cases g3:s.length≠20+(XjH s).1.Options.length+(XjH s).2.1.length
  ·rw [if_pos g3] at h;exact absurd h (by decide)
  rw [if_neg g3]
  simp only [];omega
 rw [if_neg g1] at h ⊢
 by_cases g4:vK s 0 1/16=6
 ·rw [if_pos g4] at h ⊢
  by_cases g2:(Xk9 s).2.2≠0
  ·rw [if_pos g2] at h;exact absurd h g2
  rw [if_neg g2] at h ⊢
  by_cases g3:s.length≠40+(Xk9 s).2.1.length
  ·rw [if_pos g3] at h;exact absurd h (by decide)
  rw [if_neg g3]
  simp only [];omega
 ·rw [if_neg g4] at h;exact absurd h (by decide)
theorem Xqg {s:List UInt8} (h:(Xbm s).2.2.2≠0):Xbm s=(zP,0,0,(Xbm s).2.2.2):=by
 unfold Xbm at h ⊢
 split
 ·rfl
 rename_i g1
 rw [if_neg g1] at h
 split
 ·rfl
 rename_i g2
 rw [if_neg g2] at h
 split
 ·rfl
 rename_i g3
 rw [if_neg g3] at h
 split
 ·rfl
 rename_i g4
 rw [if_neg g4] at h
 exact absurd rfl h
def o11 (o:O11):XaK:=⟨o.src,o.dst,o.proto,o.body⟩
theorem XBm {s:List UInt8} (hs:s.length<2^19) (hn:s≠[]):Xdc s=some (o11 (Xbz s),(Xbz s).err):=by
 unfold Xdc XiK
 have h0:0<s.length:=List.length_pos_iff.2 hn
 have e0:=XmA (s:=s) (p:=0) h0
 have r0:=XfW s 0 1 256 (by decide)
 rw [List.getElem?_eq_getElem h0,Option.bind_some,←e0,Xtq,show ((2:Int)^4)=16 from rfl,g5_eq (by omega),XQd (by omega),Option.bind_some,Option.bind_some]
 unfold Xbz
 by_cases g1:vK s 0 1/16=4
 ·rw [if_pos g1,show (vK s 0 1/16==4)=true by simpa using g1,cond_true]
  by_cases g2:(XjH s).2.2=0
  ·have hb:(XjH s).1.Options.length≤s.length∧(XjH s).2.1.length≤s.length:=by
    unfold XjH
    repeat' split
    all_goals simp [Xql]
    omega
   rw [if_neg (by simpa using g2),show ((XjH s).2.2 !=0)=false by simpa using g2,cond_false,XdY (n:=20+((XjH s).1.Options.length:Int)) (by omega) (by omega)]
   simp only []
   rw [XdY (n:=20+((XjH s).1.Options.length:Int)+((XjH s).2.1.length:Int)) (by omega) (by omega)]
   by_cases g3:s.length=20+(XjH s).1.Options.length+(XjH s).2.1.length
   ·rw [if_neg (by simpa using g3),show ((s.length:Int) !=20+((XjH s).1.Options.length:Int)+((XjH s).2.1.length:Int))=false by simp;omega];rfl
   ·rw [if_pos g3,show ((s.length:Int) !=20+((XjH s).1.Options.length:Int)+((XjH s).2.1.length:Int))=true by simp;omega];rfl
  ·rw [if_pos g2,show ((XjH s).2.2 !=0)=true by simpa using g2,cond_true];rfl
 ·rw [if_neg g1,show (vK s 0 1/16==4)=false by simpa using g1,cond_false]
  by_cases g4:vK s 0 1/16=6
  ·rw [if_pos g4,show (vK s 0 1/16==6)=true by simpa using g4,cond_true]
   by_cases g2:(Xk9 s).2.2=0
   ·have hb:(Xk9 s).2.1.length≤s.length:=by
     unfold Xk9
     repeat' split
     all_goals simp
     omega
    rw [if_neg (by simpa using g2),show ((Xk9 s).2.2 !=0)=false by simpa using g2,cond_false,XdY (n:=40+((Xk9 s).2.1.length:Int)) (by omega) (by omega)]
    by_cases g3:s.length=40+(Xk9 s).2.1.length
    ·rw [if_neg (by simpa using g3),show ((s.length:Int) !=40+((Xk9 s).2.1.length:Int))=false by simp;omega];rfl
    ·rw [if_pos g3,show ((s.length:Int) !=40+((Xk9 s).2.1.length:Int))=true by simp;omega];rfl
   ·rw [if_pos g2,show ((Xk9 s).2.2 !=0)=true by simpa using g2,cond_true];rfl
  ·rw [if_neg g4,show (vK s 0 1/16==6)=false by simpa using g4,cond_false];rfl
theorem XWx {o:O11} {n:Nat} (h1:A4 o.src) (h2:A4 o.dst) (hb:o.body.length<2^19) (hp:o.proto=6):∃ q,Xbw (o11 o) ⟨⟨o.proto,o.src,o.dst,0,0⟩,0,false,0,0,false,[],(n:Int)⟩=some (((XhW o n).2.1:Int),(XhW o n).2.2,q)∧((XhW o n).2.2=0→q=(XhW o n).1):=by
 unfold Xbw Xfi XhW o11
 rw [if_pos hp]
 simp only []
 rw [XDS h1 h2 (by omega),Option.bind_some]
 by_cases g:(Xkb o.body o.src o.dst).2.2=0
 ·have ho:(Xkb o.body o.src o.dst).1.Options.length<2^20:=by
   unfold Xkb
   repeat' split
   all_goals simp [XqA]
   all_goals omega
  rw [if_neg (by simpa using g),show ((Xkb o.body o.src o.dst).2.2 !=0)=false by simpa using g,cond_false,XJP ho,Option.bind_some]
  unfold Xvo
  by_cases g2:0≤(Xk4 (Xkb o.body o.src o.dst).1.Options).2.2
  ·rw [if_pos g2,XaP (by omega)]
   exact ⟨_,rfl,fun _=>rfl⟩
  ·rw [if_neg g2,XaI (by omega)]
   exact ⟨_,rfl,fun _=>rfl⟩
 ·rw [if_pos g,show ((Xkb o.body o.src o.dst).2.2 !=0)=true by simpa using g,cond_true]
  exact ⟨_,rfl,fun h=>absurd h g⟩
theorem XWs {o:O11} {n:Nat} (h1:A4 o.src) (h2:A4 o.dst) (hb:o.body.length<2^19) (hp:o.proto=17):∃ q,Xbj (o11 o) ⟨⟨o.proto,o.src,o.dst,0,0⟩,0,false,0,0,false,[],(n:Int)⟩=some (((XhW o n).2.1:Int),(XhW o n).2.2,q)∧((XhW o n).2.2=0→q=(XhW o n).1):=by
 unfold Xbj Xe1 XhW o11
 rw [if_neg (by omega),if_pos hp]
 simp only []
 rw [XOY h1 h2 (by omega),Option.bind_some]
 by_cases g:(XjJ o.body o.src o.dst).2.2=0
 ·have ho:(XjJ o.body o.src o.dst).2.1.length<2^20:=by
   unfold XjJ
   repeat' split
   all_goals simp
   all_goals omega
  rw [if_neg (by simpa using g),show ((XjJ o.body o.src o.dst).2.2 !=0)=false by simpa using g,cond_false,XdY (n:=(o.body.length:Int) - 8) (by omega) (by omega)]
  by_cases g2:(XjJ o.body o.src o.dst).2.1.length+8=o.body.length
  ·rw [if_neg (by simpa using g2),show (((XjJ o.body o.src o.dst).2.1.length:Int) !=(o.body.length:Int) - 8)=false by simp;omega,cond_false,Xu5 (by omega),Option.bind_some]
   unfold XQo
   by_cases g3:(Xpt (XjJ o.body o.src o.dst).2.1).2=0
   ·rw [if_pos g3,show ((Xpt (XjJ o.body o.src o.dst).2.1).2==0)=true by simpa using g3,cond_true]
    exact ⟨_,rfl,fun _=>rfl⟩
   ·rw [if_neg g3,show ((Xpt (XjJ o.body o.src o.dst).2.1).2==0)=false by simpa using g3,cond_false]
    exact ⟨_,rfl,fun _=>rfl⟩
  ·rw [if_pos g2,show (((XjJ o.body o.src o.dst).2.1.length:Int) !=(o.body.length:Int) - 8)=true by simp;omega,cond_true]
   exact ⟨_,rfl,fun h=>absurd h (by decide)⟩
 ·rw [if_pos g,show ((XjJ o.body o.src o.dst).2.2 !=0)=true by simpa using g,cond_true]
  exact ⟨_,rfl,fun h=>absurd h g⟩
def XkL (s:List UInt8):Xam×Int×Int×Int:=
 if (Xbm s).2.2.2≠0 then (zP,0,0,(Xbm s).2.2.2) else ((Xbm s).1,((s.length - (Xbm s).2.1:Nat):Int),((s.length - (Xbm s).2.2.1:Nat):Int),0)
theorem XCg {o:O11} {n:Nat}:(XhW o n).2.1≤o.body.length:=by
 unfold XhW
 split
 ·split
  ·simp
  ·show (Xkb o.body o.src o.dst).2.1.length≤_
   unfold Xkb
   repeat' split
   all_goals simp
 split
 ·split
  ·simp
  split
  ·simp
  ·show (XjJ o.body o.src o.dst).2.1.length≤_
   unfold XjJ
   repeat' split
   all_goals simp
   all_goals omega
 ·simp
theorem Xwa {s:List UInt8} (hs:s.length<2^19):Xb8 s=some (XkL s):=by
 unfold Xb8 XjP
 have hz:(⟨⟨0,⟨false,0,0⟩,⟨false,0,0⟩,0,0⟩,0,false,0,0,false,[],0⟩:Xam)=zP:=rfl
 rw [hz]
 by_cases g1:9000<s.length
 ·have hT:Xbm s=(zP,0,0,5):=by unfold Xbm;rw [if_pos g1]
  unfold XkL
  rw [XaP (by omega),hT];rfl
 rw [XaI (by omega)]
 by_cases g2:s=[]
 ·subst g2;rfl
 rw [show (s==[])=false by simpa using g2,cond_false,XBm hs g2,Option.bind_some]
 obtain ⟨a1,a2⟩:=XsK s
 by_cases g3:(Xbz s).err=0
 ·have hb:=XpI g3
  have hil:=XCg (o:=Xbz s) (n:=s.length)
  have hE:(XhW (Xbz s) s.length).2.2≠0→XkL s=(zP,0,0,(XhW (Xbz s) s.length).2.2):=fun g4=>by
   have hT:Xbm s=(zP,0,0,(XhW (Xbz s) s.length).2.2):=by unfold Xbm;rw [if_neg g1,if_neg g2,if_neg (by simpa using g3),if_pos g4]
   unfold XkL
   rw [hT,if_pos g4]
  have hO:(XhW (Xbz s) s.length).2.2=0→XkL s=((XhW (Xbz s) s.length).1,((Xbz s).body.length:Int),((XhW (Xbz s) s.length).2.1:Int),0):=fun g4=>by
   have hT:Xbm s=((XhW (Xbz s) s.length).1,s.length - (Xbz s).body.length,s.length - (XhW (Xbz s) s.length).2.1,0):=by unfold Xbm;rw [if_neg g1,if_neg g2,if_neg (by simpa using g3),if_neg (by simpa using g4)]
   unfold XkL
   rw [hT,if_neg (by simp)]
   simp only []
   rw [show s.length - (s.length - (Xbz s).body.length)=(Xbz s).body.length by omega,show s.length - (s.length - (XhW (Xbz s) s.length).2.1)=(XhW (Xbz s) s.length).2.1 by omega]
  simp only [g3,bne_self_eq_false,cond_false]
  by_cases p6:(Xbz s).proto=6
  ·obtain ⟨q,q1,q2⟩:=XWx (o:=Xbz s) (n:=s.length) a1 a2 (by omega) p6
   have e6:((o11 (Xbz s)).proto==6)=true:=by show ((Xbz s).proto==6)=true;simpa using p6
   rw [e6,cond_true]
   show (Xbw (o11 (Xbz s)) ⟨⟨(Xbz s).proto,(Xbz s).src,(Xbz s).dst,0,0⟩,0,false,0,0,false,[],(s.length:Int)⟩).bind _=_
   rw [q1,Option.bind_some]
   simp only []
   by_cases g4:(XhW (Xbz s) s.length).2.2=0
   ·rw [hO g4,g4,q2 g4];rfl
   ·rw [hE g4,show ((XhW (Xbz s) s.length).2.2 !=0)=true by simpa using g4];rfl
  ·have e6:((o11 (Xbz s)).proto==6)=false:=by show ((Xbz s).proto==6)=false;simpa using p6
   rw [e6,cond_false]
   by_cases p17:(Xbz s).proto=17
   ·obtain ⟨q,q1,q2⟩:=XWs (o:=Xbz s) (n:=s.length) a1 a2 (by omega) p17
    have e17:((o11 (Xbz s)).proto==17)=true:=by show ((Xbz s).proto==17)=true;simpa using p17
    rw [e17,cond_true]
    show (Xbj (o11 (Xbz s)) ⟨⟨(Xbz s).proto,(Xbz s).src,(Xbz s).dst,0,0⟩,0,false,0,0,false,[],(s.length:Int)⟩).bind _=_
    rw [q1,Option.bind_some]
    simp only []
    by_cases g4:(XhW (Xbz s) s.length).2.2=0
    ·rw [hO g4,g4,q2 g4];rfl
    ·rw [hE g4,show ((XhW (Xbz s) s.length).2.2 !=0)=true by simpa using g4];rfl
   ·have e17:((o11 (Xbz s)).proto==17)=false:=by show ((Xbz s).proto==17)=false;simpa using p17
    have e6':(XhW (Xbz s) s.length).2.2=6:=by unfold XhW;rw [if_neg p6,if_neg p17]
    rw [e17,cond_false,hE (by rw [e6'];decide),e6']
 ·have hT:Xbm s=(zP,0,0,(Xbz s).err):=by unfold Xbm;rw [if_neg g1,if_neg g2,if_pos g3]
  unfold XkL
  rw [hT,if_pos g3,show ((Xbz s).err !=0)=true by simpa using g3];rfl
theorem XDA {s:List UInt8} (hs:s.length<2^19):XdQ s=some ((Xbm s).1,(Xbm s).2.2.2):=by
 unfold XdQ Xjf
 rw [Xwa hs,Option.bind_some]
 unfold XkL
 by_cases g:(Xbm s).2.2.2=0
 ·rw [if_neg (by simpa using g),g]
 ·rw [if_pos g,Xqg g]
theorem XsG (s:List UInt8):(Xbm s).2.1≤s.length∧(Xbm s).2.2.1≤s.length:=by
 unfold Xbm
 repeat' split
 all_goals simp
theorem XFT {s:List UInt8} (hs:s.length<2^19):XdO s=some (((Xbm s).2.1:Int),((Xbm s).2.2.1:Int),(Xbm s).2.2.2):=by
 unfold XdO Xje
 rw [Xwa hs,Option.bind_some]
 unfold XkL
 have hl:=XsG s
 by_cases g:(Xbm s).2.2.2=0
 ·rw [if_neg (by simpa using g),g]
  simp only [bne_self_eq_false,cond_false]
  rw [XdY (by omega) (by omega),XdY (by omega) (by omega),show (s.length:Int) - ((s.length - (Xbm s).2.1:Nat):Int)=((Xbm s).2.1:Int) by omega,show (s.length:Int) - ((s.length - (Xbm s).2.2.1:Nat):Int)=((Xbm s).2.2.1:Int) by omega]
 ·rw [if_pos g]
  simp only []
  rw [show ((Xbm s).2.2.2 !=0)=true by simpa using g,cond_true,Xqg g];rfl
theorem get_put {h:Xal} {l more:List UInt8} (hh:H5 h=true) (h1:A4 h.Src) (h2:A4 h.Dst) (hl:20+h.Options.length+l.length≤65535):XjH (hc5 h (20+h.Options.length+l.length) (ck5 h (20+h.Options.length+l.length))++(l++more))=(h,l,0):=by
 obtain ⟨q1,q2,q3,q4,q5,q6,q7,q8⟩:=XAn hh
 generalize hn:20+h.Options.length+l.length=n at *
 obtain ⟨c1,c2,c3⟩:=XVp h n
 generalize ck5 h n=c at *
 have hlen:=Xsj h n c
 obtain ⟨p0,p1,p2,p4,p6,p8,p9,p12,p16,p20,_,_⟩:=Xpx h n c (l++more)
 have s5:=q5.2
 have d5:=q6.2
 unfold aok at s5 d5
 rw [q5.1] at s5
 rw [q6.1] at d5
 simp only [Bool.false_or,Bool.and_eq_true,beq_iff_eq,decide_eq_true_eq] at s5 d5
 obtain ⟨_,_,h1c,_⟩:=h1
 obtain ⟨_,_,h2c,_⟩:=h2
 have v0:=Xkh p0 rfl (by omega)
 have v1:=Xkh p1 rfl (by omega)
 have v2:=Xkh p2 rfl (by omega)
 have v4:=Xkh p4 rfl (by omega)
 have v6:=Xkh p6 (wflag h.Whole) (by cases h.Whole<;>decide)
 have v8:=Xkh p8 rfl (by omega)
 have v9:=Xkh p9 rfl (by omega)
 have v12:=Xkh p12 rfl (by omega)
 have v16:=Xkh p16 rfl (by omega)
 have ht:(((64+(20+h.Options.length)/4:Nat):Int)%16*4)=((20+h.Options.length:Nat):Int):=by omega
 unfold XjH XRh
 rw [v0,v1,v2,v4,v6,v8,v9,v12,v16,ht,Int.toNat_natCast,Int.toNat_natCast,p20]
 rw [if_neg (by simp only [List.length_append];omega),if_neg (by omega),if_neg (by omega),if_neg (by omega),if_neg (by simp only [List.length_append];omega),show (hc5 h n c++(l++more)).take (20+h.Options.length)=hc5 h n c by rw [←hlen];exact List.take_left,XnE c2 c3,if_neg (by decide),if_neg (by cases h.Whole<;>simp)]
 rw [show 20+h.Options.length - 20=h.Options.length by omega,List.take_left,show (hc5 h n c++(l++more)).drop (20+h.Options.length)=l++more by rw [←hlen];exact List.drop_left,show n - (20+h.Options.length)=l.length by omega,List.take_left]
 obtain ⟨cl,mk,wh,tt,pr,⟨sv,sh,sl⟩,⟨dv,dh,dl⟩,op⟩:=h
 simp only at q1 q2 q3 q4 q5 q6 s5 d5 h1c h2c ⊢
 obtain ⟨rfl,_⟩:=s5
 obtain ⟨rfl,_⟩:=d5
 rw [q5.1,q6.1,Int.toNat_of_nonneg q1.1,Int.toNat_of_nonneg q2.1,Int.toNat_of_nonneg q3.1,Int.toNat_of_nonneg q4.1,Int.toNat_of_nonneg h1c,Int.toNat_of_nonneg h2c]
 cases wh<;>rfl
theorem XAD {h:Xaq} {n:Nat} {r:List UInt8} (hh:H6 h) (hs:XlY h.Src) (hd:XlY h.Dst) (hn:n≤65535):Xk9 (headB h n++r)=if r.length<n then (zero6,[],2) else (h,r.take n,0):=by
 obtain ⟨a,b,c,d,e,f⟩:=hh
 have hl:=Xnk h n
 obtain ⟨p1,p2,p3,p4,p5,p6,p7⟩:=XJb (a:=be (6*2^28+h.Class.toNat*2^20+h.Label.toNat) 4) (b:=be n 2) (c:=be h.Next.toNat 1) (d:=be h.Hop.toNat 1) (e:=Xjt h.Src) (f:=Xjt h.Dst) (r:=r) (by simp) (by simp) (by simp) (by simp) (by simp [Xjt]) (by simp [Xjt])
 have hv:Xfy ((headB h n++r).take 4)=6*2^28+h.Class.toNat*2^20+h.Label.toNat:=by
  unfold headB;rw [p1,XjE (by omega)]
 have hw:Xfy (((headB h n++r).drop 4).take 2)=n:=by unfold headB;rw [p2,XjE (by omega)]
 unfold Xk9
 rw [if_neg (by simp;omega),hv,if_neg (by omega),hw]
 have hlen:(headB h n++r).length - 40=r.length:=by simp;omega
 rw [hlen]
 by_cases hr:r.length<n
 ·rw [if_pos hr,if_pos hr]
 rw [if_neg hr,if_neg hr]
 have e40:(headB h n++r).drop 40=r:=p7
 rw [e40]
 unfold XHf
 rw [hv]
 unfold headB
 rw [p3,p4,p5,p6,XpO hs e,XpO hd f,XjE (by omega),XjE (by omega)]
 have e1:(((6*2^28+h.Class.toNat*2^20+h.Label.toNat)/2^20%256:Nat):Int)=h.Class:=by omega
 have e2:(((6*2^28+h.Class.toNat*2^20+h.Label.toNat)%2^20:Nat):Int)=h.Label:=by omega
 simp only []
 rw [e1,e2,Int.toNat_of_nonneg c.1,Int.toNat_of_nonneg d.1]
theorem XQw {a b n m f g t c u r:List UInt8} (ha:a.length=2) (hb:b.length=2) (hn:n.length=4) (hm:m.length=4) (hf:f.length=1) (hg:g.length=1) (ht:t.length=2) (hc:c.length=2) (hu:u.length=2) :
 let s:=a++b++n++m++f++g++t++(c++(u++r))
 (s.drop 0).take 2=a∧(s.drop 2).take 2=b∧(s.drop 4).take 4=n∧(s.drop 8).take 4=m∧(s.drop 12).take 1=f∧(s.drop 13).take 1=g∧(s.drop 14).take 2=t∧(s.drop 16).take 2=c∧(s.drop 18).take 2=u∧s.drop 20=r:=by
 obtain ⟨a1,a2,rfl⟩:=l2 ha
 obtain ⟨b1,b2,rfl⟩:=l2 hb
 obtain ⟨n1,n2,n3,n4,rfl⟩:=l4 hn
 obtain ⟨m1,m2,m3,m4,rfl⟩:=l4 hm
 obtain ⟨f1,rfl⟩:=l1 hf
 obtain ⟨g1,rfl⟩:=l1 hg
 obtain ⟨t1,t2,rfl⟩:=l2 ht
 obtain ⟨c1,c2,rfl⟩:=l2 hc
 obtain ⟨u1,u2,rfl⟩:=l2 hu
 exact ⟨rfl,rfl,rfl,rfl,rfl,rfl,rfl,rfl,rfl,rfl⟩
theorem XBd (h:Xar) (c:Nat) (r:List UInt8):let s:=hc7 h c++r
 (s.drop 0).take 2=be h.SPort.toNat 2∧(s.drop 2).take 2=be h.DPort.toNat 2∧(s.drop 4).take 4=be h.Seq.toNat 4∧(s.drop 8).take 4=be h.Ack.toNat 4∧(s.drop 12).take 1=be (4*(20+h.Options.length)) 1∧(s.drop 13).take 1=be h.Flags.toNat 1∧(s.drop 14).take 2=be h.Window.toNat 2∧(s.drop 16).take 2=be c 2∧(s.drop 18).take 2=be h.Urgent.toNat 2∧s.drop 20=h.Options++r:=by
 rw [Xn1]
 unfold ha7
 exact XQw (Xe4 _ _) (Xe4 _ _) (Xe4 _ _) (Xe4 _ _) (Xe4 _ _) (Xe4 _ _) (Xe4 _ _) (Xe4 _ _) (Xe4 _ _)
theorem XEe {h:Xar} {src dst:Xaa} {l:List UInt8} (hh:H7 h=true) (hw:W7 h) (ho:(Xmq h.Options).2=0) (hp:Xlb src dst 6 (20+h.Options.length+l.length)≠[]):Xkb (hc7 h (ck7 (Xlb src dst 6 (20+h.Options.length+l.length)) h l)++l) src dst=(h,l,0):=by
 obtain ⟨q1,q2,q3,q4,q5,q6,q7⟩:=XBb hh
 obtain ⟨w1,w2⟩:=hw
 have pe:=Xzn src dst 6 (20+h.Options.length+l.length)
 generalize hpp:Xlb src dst 6 (20+h.Options.length+l.length)=p at *
 obtain ⟨c1,c2,c3⟩:=XUx pe h l
 generalize ck7 p h l=c at *
 have hlen:=Xsh h c
 obtain ⟨p0,p2,p4,p8,p12,p13,p14,p16,p18,p20⟩:=XBd h c l
 have v0:=Xkh p0 rfl (by omega)
 have v2:=Xkh p2 rfl (by omega)
 have v4:=Xkh p4 rfl (by omega)
 have v8:=Xkh p8 rfl (by omega)
 have v12:=Xkh p12 rfl (by omega)
 have v13:=Xkh p13 rfl (by omega)
 have v14:=Xkh p14 rfl (by omega)
 have v18:=Xkh p18 rfl (by omega)
 have ht:(4*(((4*(20+h.Options.length):Nat):Int)/16))=((20+h.Options.length:Nat):Int):=by omega
 unfold Xkb
 have hl:(((hc7 h c++l).length:Nat):Int)=20+h.Options.length+l.length:=by rw [List.length_append,hlen];omega
 rw [v0,v2,v4,v8,v12,v13,v14,v18,ht,Int.toNat_natCast,p20,hl,hpp]
 have hdr:(hc7 h c++l).drop (20+h.Options.length)=l:=by rw [←hlen];exact List.drop_left
 rw [if_neg (by simp only [List.length_append];omega),if_neg (by omega),if_neg (by omega),if_neg (by omega),if_neg hp,XnE c2 c3,if_neg (by decide),show 20+h.Options.length - 20=h.Options.length by omega,List.take_left,if_neg (by simpa using ho),hdr]
 obtain ⟨sp,dp,sq,ak,fl,wi,ur,op⟩:=h
 simp only at q1 q2 q3 q4 q5 w1 w2 ⊢
 rw [Int.toNat_of_nonneg q1.1,Int.toNat_of_nonneg q2.1,Int.toNat_of_nonneg q3.1,Int.toNat_of_nonneg q4.1,Int.toNat_of_nonneg q5.1,Int.toNat_of_nonneg w1.1,Int.toNat_of_nonneg w2.1]
theorem XRL (t:Xag) (n:Nat) (r:List UInt8):vK (headB (Xnd t) n++r) 0 1=96:=by
 obtain ⟨p1,_⟩:=XJb (a:=be (6*2^28+(Xnd t).Class.toNat*2^20+(Xnd t).Label.toNat) 4) (b:=be n 2) (c:=be (Xnd t).Next.toNat 1) (d:=be (Xnd t).Hop.toNat 1) (e:=Xjt (Xnd t).Src) (f:=Xjt (Xnd t).Dst) (r:=r) (by simp) (by simp) (by simp) (by simp) (by simp [Xjt]) (by simp [Xjt])
 have e:be (6*2^28+(Xnd t).Class.toNat*2^20+(Xnd t).Label.toNat) 4++be n 2++be (Xnd t).Next.toNat 1++be (Xnd t).Hop.toNat 1++Xjt (Xnd t).Src++Xjt (Xnd t).Dst++r=headB (Xnd t) n++r:=rfl
 rw [e] at p1
 unfold vK
 have:((headB (Xnd t) n++r).drop 0).take 1=((headB (Xnd t) n++r).take 4).take 1:=by rw [List.drop_zero,List.take_take];rfl
 rw [this,p1,show (Xnd t).Class.toNat=0 from rfl,show (Xnd t).Label.toNat=0 from rfl];rfl
theorem XWF (t:Xag) (n c:Nat) (r:List UInt8):vK (hc5 (Xk6 t) n c++r) 0 1=69:=by
 obtain ⟨p0,_⟩:=Xpx (Xk6 t) n c r
 have w0:=Xkh p0 rfl (by rw [show (Xk6 t).Options=[] from rfl];decide)
 rw [show (Xk6 t).Options.length=0 from rfl] at w0
 rw [show ((64+(20+0)/4:Nat):Int)=69 from rfl] at w0
 exact w0
theorem XOs {t:Xag} {b more:List UInt8} (h1:A4 t.Src) (h2:A4 t.Dst) (hh:H6 (Xnd t)) (hb:b.length≤65535):Xbz (headB (Xnd t) b.length++(b++more))=if more=[] then ⟨t.Src,t.Dst,t.Proto,40,b,0⟩ else zO 5:=by
 have hg:=XAD (h:=Xnd t) (n:=b.length) (r:=b++more) hh h1.Xq6 h2.Xq6 hb
 rw [if_neg (by simp),List.take_left] at hg
 unfold Xbz
 rw [XRL,if_neg (by decide),if_pos (by decide),hg,if_neg (by simp)]
 simp only [List.length_append,Xnk]
 by_cases hm:more=[]
 ·subst hm
  rw [if_neg (by simp),if_pos rfl];rfl
 ·have:0<more.length:=List.length_pos_iff.2 hm
  rw [if_pos (by omega),if_neg hm]
theorem XMk {t:Xag} {b more:List UInt8} (h1:A4 t.Src) (h2:A4 t.Dst) (hh:H5 (Xk6 t)=true) (hb:20+b.length≤65535):Xbz (hc5 (Xk6 t) (20+b.length) (ck5 (Xk6 t) (20+b.length))++(b++more))=if more=[] then ⟨t.Src,t.Dst,t.Proto,20,b,0⟩ else zO 5:=by
 have ho:(Xk6 t).Options.length=0:=rfl
 have hg:=get_put (h:=Xk6 t) (l:=b) (more:=more) hh h1 h2 (by omega)
 have hl:=Xsj (Xk6 t) (20+b.length) (ck5 (Xk6 t) (20+b.length))
 rw [ho,Nat.add_zero] at hg hl
 unfold Xbz
 rw [XWF,if_pos (by decide),hg,if_neg (by simp)]
 simp only [List.length_append,hl,ho]
 by_cases hm:more=[]
 ·subst hm
  rw [if_neg (by simp),if_pos rfl];rfl
 ·have:0<more.length:=List.length_pos_iff.2 hm
  rw [if_pos (by omega),if_neg hm]
theorem Xzf {t:Xag} {b more:List UInt8} (h1:A4 t.Src) (h2:A4 t.Dst) (h0:(Xho t b).2=0):Xbz ((Xho t b).1++more)=if more=[] then ⟨t.Src,t.Dst,t.Proto,cond t.Src.V6 40 20,b,0⟩ else zO 5:=by
 obtain ⟨_,_,_,_,_,h⟩:=XvC h0
 rcases h with ⟨v,hh,hl,e⟩|⟨v,hh,hl,e⟩
 ·rw [e,v]
  simp only [List.append_assoc]
  exact XOs h1 h2 hh hl
 ·rw [e,v]
  simp only [List.append_assoc]
  exact XMk h1 h2 hh hl
theorem Xvh {t:Xag} {b:List UInt8} (h0:(Xho t b).2=0):(Xho t b).1.length=cond t.Src.V6 40 20+b.length∧(Xho t b).1.length≤9000:=by
 obtain ⟨_,_,_,_,h9,h⟩:=XvC h0
 refine ⟨?_,h9⟩
 rcases h with ⟨v,hh,hl,e⟩|⟨v,hh,hl,e⟩
 ·rw [e,v]
  simp only [List.length_append,Xnk,cond_true]
 ·have hl:=Xsj (Xk6 t) (20+b.length) (ck5 (Xk6 t) (20+b.length))
  rw [show (Xk6 t).Options.length=0 from rfl] at hl
  rw [e,v]
  simp only [List.length_append,hl,cond_false]
theorem XAV {t:Xag} {b:List UInt8} (h1:A4 t.Src) (h2:A4 t.Dst) (h0:(Xho t b).2=0):Xbm (Xho t b).1=if (XhW ⟨t.Src,t.Dst,t.Proto,cond t.Src.V6 40 20,b,0⟩ (Xho t b).1.length).2.2≠0 then (zP,0,0,(XhW ⟨t.Src,t.Dst,t.Proto,cond t.Src.V6 40 20,b,0⟩ (Xho t b).1.length).2.2) else
 ((XhW ⟨t.Src,t.Dst,t.Proto,cond t.Src.V6 40 20,b,0⟩ (Xho t b).1.length).1,cond t.Src.V6 40 20,(Xho t b).1.length - (XhW ⟨t.Src,t.Dst,t.Proto,cond t.Src.V6 40 20,b,0⟩ (Xho t b).1.length).2.1,0):=by
 have ho:=Xzf (more:=[]) h1 h2 h0
 rw [List.append_nil,if_pos rfl] at ho
 obtain ⟨hl,h9⟩:=Xvh h0
 unfold Xbm
 have hne:(Xho t b).1≠[]:=by
  intro e
  rw [e] at hl
  cases hv:t.Src.V6<;>rw [hv] at hl<;>simp at hl<;>omega
 rw [if_neg (by omega),if_neg hne,ho,if_neg (by simp)]
 simp only []
 rw [show (Xho t b).1.length - b.length=cond t.Src.V6 40 20 by omega]
theorem XOA {h:Xar} {src dst:Xaa} {l:List UInt8} (h0:(XoL h src dst l).2=0):H7 h=true∧Xlb src dst 6 (20+h.Options.length+l.length)≠[]∧XoL h src dst l=(hc7 h (ck7 (Xlb src dst 6 (20+h.Options.length+l.length)) h l)++l,0):=by
 unfold XoL at h0 ⊢
 cases hh:H7 h
 ·rw [if_pos hh] at h0;exact absurd h0 (by decide)
 rw [if_neg (by rw [hh];decide)] at h0
 rw [if_neg (by decide)]
 by_cases hp:Xlb src dst 6 (20+h.Options.length+l.length)=[]
 ·rw [if_pos hp] at h0;exact absurd h0 (by decide)
 rw [if_neg hp] at h0 ⊢
 by_cases hl:65535 - (20+(h.Options.length:Int))<l.length
 ·rw [if_pos hl] at h0;exact absurd h0 (by decide)
 rw [if_neg hl]
 exact ⟨rfl,hp,rfl⟩
theorem XQ0 {t:Xag} {h:Xar} {l:List UInt8} {z n:Nat} (hw:W7 h) (ho:(Xmq h.Options).2=0) (h0:(XoL h t.Src t.Dst l).2=0) (hp:t.Proto=6) :
 XhW ⟨t.Src,t.Dst,t.Proto,z,(XoL h t.Src t.Dst l).1,0⟩ n=(⟨⟨t.Proto,t.Src,t.Dst,h.SPort,h.DPort⟩,h.Flags,(Xvo h.Options).1,(Xvo h.Options).2.1,(Xvo h.Options).2.2,false,[],n⟩,l.length,0):=by
 obtain ⟨a,b,c⟩:=XOA h0
 have hg:=XEe a hw ho b
 rw [show hc7 h (ck7 (Xlb t.Src t.Dst 6 (20+h.Options.length+l.length)) h l)++l=(XoL h t.Src t.Dst l).1 by rw [c]] at hg
 unfold XhW
 rw [if_pos hp]
 simp only []
 rw [hg,if_neg (by simp)]
end Go.Vm.Code
namespace Go.Vm.Code
open Go Go.Vm Go.Proofs
set_option maxRecDepth 100000
set_option maxHeartbeats 4000000
set_option linter.unusedVariables false
def XnI (XiG:XhN) (XiD:XhD) (s:List UInt8):Option (Xeo×Int):=
 (s[0]?).bind fun (b:UInt8)=>
 cond ((wI .u8 ((b.toNat:Int).tdiv 16))==4)
  (
  (XiG s).bind fun xg=>
  let t:=wI .i64 (20+(xg.1.Options.length:Int))
  some ((Xeo.mk xg.1.Src xg.1.Dst xg.1.Proto t xg.2.1,xg.2.2)))
  (
  (s[0]?).bind fun (b1:UInt8)=>
  cond ((wI .u8 ((b1.toNat:Int).tdiv 16))==6)
   (
   (XiD s).bind fun xg1=>
   some ((Xeo.mk xg1.1.Src xg1.1.Dst xg1.1.Next 40 xg1.2.1,xg1.2.2)))
   (
   some ((Xeo.mk (Xaa.mk false 0 0) (Xaa.mk false 0 0) 0 0 [],3))))
def XCx (x:Xeo×Int):XcU:=⟨.tuple ⟨[.agg ⟨[.bool x.1.src.V6,.int .u64 x.1.src.Hi,.int .u64 x.1.src.Lo,.bool x.1.dst.V6,.int .u64 x.1.dst.Hi,.int .u64 x.1.dst.Lo,.int .i64 x.1.proto,.int .i64 x.1.size,.string ⟨⟨x.1.body⟩⟩]⟩,.int .i64 x.2]⟩,[],[]⟩
abbrev XgB:=(List UInt8)→Option (Xeo×Int)
def r105 (g:XgB):Dec:=dV asS fun (y0:List UInt8)=>Xd2 (ofG (g y0) XCx)
theorem XQR {g:XgB} {y0:List UInt8} {x:Xeo×Int} (hx:g y0=some x):r105 g [.string ⟨⟨y0⟩⟩] []=some (XCx x):=(XaO (Xd3)).trans (XaN hx)
def s105 (g:XgB):XbC:=⟨[.v],r105 g⟩
theorem XKM {g:XgB} {y0:List UInt8} {x:Xeo×Int} (hx:g y0=some x):(s105 g).run [.string ⟨⟨y0⟩⟩] []=some (XCx x):=XQR hx
abbrev XMa (XiG:XhN) (XiD:XhD):List (Nat×XbC):=[(152,s152 XiG),(153,s153 XiD)]
theorem XGJ (XiG:XhN) (XiD:XhD) (hS:Xak Tryz.prog (XaD (XMa XiG XiD))) (s:List UInt8) (res:Xeo×Int) (h:XnI XiG XiD s=some res) :
 XaF Tryz.prog 105 0 ⟨⟨105,53,[(0,.string ⟨⟨s⟩⟩)],[.code Xyk],[],false,none⟩,[],[],0⟩ (fun v H _=>Res 0 (XCx res) v H):=by
 unfold XnI at h
 have R1:=@XPU XiG
 have R2:=@XPL XiD
 refine Xa4 XaC hS true 3000 ?_
 conv=>whnf
 exact W
def XgY:XgB:=XnI XiG XiD
theorem XLu:XbD Tryz.prog 105 (s105 XgY):=by
 have hL:=XGJ XiG XiD (Xak.XaJ ⟨XK4,XLv,trivial⟩)
 exact okA ⟨Tryz.f105,rfl,by decide,rfl⟩
def Xnp (XiI:Xhv) (XfL:XfY) (Xix:XhA) (XgH:XgQ) (XgY:XgB) (s:List UInt8):Option (Xam×Int×Int×Int):=
 cond (decide ((s.length:Int)>9000))
  (
  some ((Xam.mk (Xag.mk 0 (Xaa.mk false 0 0) (Xaa.mk false 0 0) 0 0) 0 false 0 0 false [] 0,0,0,5)))
  (
  cond (s==[])
   (
   some ((Xam.mk (Xag.mk 0 (Xaa.mk false 0 0) (Xaa.mk false 0 0) 0 0) 0 false 0 0 false [] 0,0,0,2)))
   (
   (XgY s).bind fun xr=>
   cond (xr.2 !=0)
    (
    some ((Xam.mk (Xag.mk 0 (Xaa.mk false 0 0) (Xaa.mk false 0 0) 0 0) 0 false 0 0 false [] 0,0,0,xr.2)))
    (
    let t:=wI .i64 (xr.1.size+(xr.1.body.length:Int))
    cond (t !=(s.length:Int))
     (
     some ((Xam.mk (Xag.mk 0 (Xaa.mk false 0 0) (Xaa.mk false 0 0) 0 0) 0 false 0 0 false [] 0,0,0,5)))
     (
     cond (xr.1.proto==6)
      (
      (XiI xr.1.body xr.1.src xr.1.dst).bind fun xg=>
      cond (xg.2.2 !=0)
       (
       some ((Xam.mk (Xag.mk 0 (Xaa.mk false 0 0) (Xaa.mk false 0 0) 0 0) 0 false 0 0 false [] 0,0,0,xg.2.2)))
       (
       (XfL xg.1.Options).bind fun s1=>
       cond (decide (s1.2.2≥0))
        (
        let t1:=wI .i64 ((wI .i64 (xr.1.size+20))+(xg.1.Options.length:Int))
        some ((Xam.mk (Xag.mk xr.1.proto xr.1.src xr.1.dst xg.1.SPort xg.1.DPort) xg.1.Flags true s1.1 s1.2.1 false [] (s.length:Int),xr.1.size,t1,0)))
        (
        let t2:=wI .i64 ((wI .i64 (xr.1.size+20))+(xg.1.Options.length:Int))
        some ((Xam.mk (Xag.mk xr.1.proto xr.1.src xr.1.dst xg.1.SPort xg.1.DPort) xg.1.Flags false 0 0 false [] (s.length:Int),xr.1.size,t2,0)))))
      (
      cond (xr.1.proto !=17)
       (
       some ((Xam.mk (Xag.mk 0 (Xaa.mk false 0 0) (Xaa.mk false 0 0) 0 0) 0 false 0 0 false [] 0,0,0,6)))
       (
       (Xix xr.1.body xr.1.src xr.1.dst).bind fun xg1=>
       cond (xg1.2.2 !=0)
        (
        some ((Xam.mk (Xag.mk 0 (Xaa.mk false 0 0) (Xaa.mk false 0 0) 0 0) 0 false 0 0 false [] 0,0,0,xg1.2.2)))
        (
        let t3:=(wI .i64 ((xg1.2.1.length:Int)+8)) !=(xr.1.body.length:Int)
        cond (t3)
         (
         some ((Xam.mk (Xag.mk 0 (Xaa.mk false 0 0) (Xaa.mk false 0 0) 0 0) 0 false 0 0 false [] 0,0,0,5)))
         (
         (XgH xg1.2.1).bind fun xg2=>
         cond (xg2.2==0)
          (
          some ((Xam.mk (Xag.mk xr.1.proto xr.1.src xr.1.dst xg1.1.SPort xg1.1.DPort) 0 false 0 0 xg2.1.Long xg2.1.DCID (s.length:Int),xr.1.size,wI .i64 (xr.1.size+8),0)))
          (
          some ((Xam.mk (Xag.mk xr.1.proto xr.1.src xr.1.dst xg1.1.SPort xg1.1.DPort) 0 false 0 0 false [] (s.length:Int),xr.1.size,wI .i64 (xr.1.size+8),0)))))))))))
def rx66 (x:Xam×Int×Int×Int):XcU:=⟨.tuple ⟨[.agg ⟨[.int .i64 x.1.Tuple.Proto,.bool x.1.Tuple.Src.V6,.int .u64 x.1.Tuple.Src.Hi,.int .u64 x.1.Tuple.Src.Lo,.bool x.1.Tuple.Dst.V6,.int .u64 x.1.Tuple.Dst.Hi,.int .u64 x.1.Tuple.Dst.Lo,.int .i64 x.1.Tuple.SPort,.int .i64 x.1.Tuple.DPort,.int .i64 x.1.Flags,.bool x.1.Stamped,.int .u32 x.1.Val,.int .u32 x.1.Echo,.bool x.1.Long,.string ⟨⟨x.1.CID⟩⟩,.int .i64 x.1.Size]⟩,.int .i64 x.2.1,.int .i64 x.2.2.1,.int .i64 x.2.2.2]⟩,[],[]⟩
abbrev Xf4:=(List UInt8)→Option (Xam×Int×Int×Int)
def r66 (g:Xf4):Dec:=dV asS fun (y0:List UInt8)=>Xd2 (ofG (g y0) rx66)
theorem r66_c {g:Xf4} {y0:List UInt8} {x:Xam×Int×Int×Int} (hx:g y0=some x):r66 g [.string ⟨⟨y0⟩⟩] []=some (rx66 x):=(XaO (Xd3)).trans (XaN hx)
def s66 (g:Xf4):XbC:=⟨[.v],r66 g⟩
theorem XQI {g:Xf4} {y0:List UInt8} {x:Xam×Int×Int×Int} (hx:g y0=some x):(s66 g).run [.string ⟨⟨y0⟩⟩] []=some (rx66 x):=r66_c hx
abbrev XTA (XiI:Xhv) (XfL:XfY) (Xix:XhA) (XgH:XgQ) (XgY:XgB):List (Nat×XbC):=[(106,s106 XiI),(107,s107 XfL),(108,s108 Xix),(74,s74 XgH),(105,s105 XgY)]
theorem XOT (XiI:Xhv) (XfL:XfY) (Xix:XhA) (XgH:XgQ) (XgY:XgB) (hS:Xak Tryz.prog (XaD (XTA XiI XfL Xix XgH XgY))) (s:List UInt8) (res:Xam×Int×Int×Int) (h:Xnp XiI XfL Xix XgH XgY s=some res) :
 XaF Tryz.prog 66 0 ⟨⟨66,161,[(0,.string ⟨⟨s⟩⟩)],[.code XIH],[],false,none⟩,[],[],0⟩ (fun v H _=>Res 0 (rx66 res) v H):=by
 unfold Xnp at h
 have R1:=@XKM XgY
 have R2:=@XMf XiI
 have R3:=@XM0 XfL
 have R4:=@XPd Xix
 have R5:=@XUq XgH
 refine Xa4 XaC hS true 3000 ?_
 conv=>whnf
 exact W
def Xfv:Xf4:=Xnp XiI XfL Xix XgH XgY
theorem XSL:XbD Tryz.prog 66 (s66 Xfv):=by
 have hL:=XOT XiI XfL Xix XgH XgY (Xak.XaJ ⟨XMq,XMg,XPc,XUl,XLu,trivial⟩)
 exact okA ⟨Tryz.f66,rfl,by decide,rfl⟩
def Xl7 (Xfv:Xf4) (s:List UInt8):Option (Xam×Int):=
 (Xfv s).bind fun t=>
 some ((t.1,t.2.2.2))
def rx28 (x:Xam×Int):XcU:=⟨.tuple ⟨[.agg ⟨[.int .i64 x.1.Tuple.Proto,.bool x.1.Tuple.Src.V6,.int .u64 x.1.Tuple.Src.Hi,.int .u64 x.1.Tuple.Src.Lo,.bool x.1.Tuple.Dst.V6,.int .u64 x.1.Tuple.Dst.Hi,.int .u64 x.1.Tuple.Dst.Lo,.int .i64 x.1.Tuple.SPort,.int .i64 x.1.Tuple.DPort,.int .i64 x.1.Flags,.bool x.1.Stamped,.int .u32 x.1.Val,.int .u32 x.1.Echo,.bool x.1.Long,.string ⟨⟨x.1.CID⟩⟩,.int .i64 x.1.Size]⟩,.int .i64 x.2]⟩,[],[]⟩
abbrev Xdo:=(List UInt8)→Option (Xam×Int)
def r28 (g:Xdo):Dec:=dV asS fun (y0:List UInt8)=>Xd2 (ofG (g y0) rx28)
theorem r28_c {g:Xdo} {y0:List UInt8} {x:Xam×Int} (hx:g y0=some x):r28 g [.string ⟨⟨y0⟩⟩] []=some (rx28 x):=(XaO (Xd3)).trans (XaN hx)
def s28 (g:Xdo):XbC:=⟨[.v],r28 g⟩
theorem XHV {g:Xdo} {y0:List UInt8} {x:Xam×Int} (hx:g y0=some x):(s28 g).run [.string ⟨⟨y0⟩⟩] []=some (rx28 x):=r28_c hx
abbrev XT2 (Xfv:Xf4):List (Nat×XbC):=[(66,s66 Xfv)]
theorem XKR (Xfv:Xf4) (hS:Xak Tryz.prog (XaD (XT2 Xfv))) (s:List UInt8) (res:Xam×Int) (h:Xl7 Xfv s=some res) :
 XaF Tryz.prog 28 0 ⟨⟨28,17,[(0,.string ⟨⟨s⟩⟩)],[.code XVW],[],false,none⟩,[],[],0⟩ (fun v H _=>Res 0 (rx28 res) v H):=by
 unfold Xl7 at h
 have R1:=@XQI Xfv
 refine Xa4 XaC hS true 3000 ?_
 conv=>whnf
 exact W
def XbS:Xdo:=Xl7 Xfv
theorem XTP:XbD Tryz.prog 28 (s28 XbS):=by
 have hL:=XKR Xfv (Xak.XaJ ⟨XSL,trivial⟩)
 exact okA ⟨Tryz.f28,rfl,by decide,rfl⟩
def Xrb (Xfv:Xf4) (s:List UInt8):Option (Int×Int×Int):=
 (Xfv s).bind fun t=>
 some ((t.2.1,t.2.2.1,t.2.2.2))
abbrev XoG:=(List UInt8)→Option (Int×Int×Int)
def Xkg:XoG:=Xrb Xfv
end Go.Vm.Code
namespace Go.Vm.Code
open Go Go.Vm
def Xm4 (s:List UInt8):Xeo×Int:=
 if vK s 0 1/16=4 then (⟨(XjH s).1.Src,(XjH s).1.Dst,(XjH s).1.Proto,20+((XjH s).1.Options.length:Int),(XjH s).2.1⟩,(XjH s).2.2)
 else if vK s 0 1/16=6 then (⟨(Xk9 s).1.Src,(Xk9 s).1.Dst,(Xk9 s).1.Next,40,(Xk9 s).2.1⟩,(Xk9 s).2.2)
 else (⟨⟨false,0,0⟩,⟨false,0,0⟩,0,0,[]⟩,3)
theorem Xvt (s:List UInt8):(XjH s).1.Options.length≤s.length∧(XjH s).2.1.length≤s.length:=by
 unfold XjH
 repeat' split
 all_goals simp [Xql]
 omega
theorem XDJ (s:List UInt8):(Xk9 s).2.1.length≤s.length:=by
 unfold Xk9
 repeat' split
 all_goals simp
 omega
theorem XMF {s:List UInt8} (hs:s.length<2^19) (hn:s≠[]):XgY s=some (Xm4 s):=by
 unfold XgY XnI Xm4
 have h0:0<s.length:=List.length_pos_iff.2 hn
 have e0:=XmA (s:=s) (p:=0) h0
 have r0:=XfW s 0 1 256 (by decide)
 obtain ⟨b1,b2⟩:=Xvt s
 rw [List.getElem?_eq_getElem h0,Option.bind_some,←e0,Int.tdiv_eq_ediv_of_nonneg (by omega),wU8 (by omega) (by omega),XRn (by omega),XEA (by omega),Option.bind_some,Option.bind_some]
 by_cases g1:vK s 0 1/16=4
 ·rw [if_pos g1,show (vK s 0 1/16==4)=true by simpa using g1,cond_true]
  rw [XdY (n:=20+((XjH s).1.Options.length:Int)) (by omega) (by omega)]
 ·rw [if_neg g1,show (vK s 0 1/16==4)=false by simpa using g1,cond_false,Option.bind_some,←e0,Int.tdiv_eq_ediv_of_nonneg (by omega),wU8 (by omega) (by omega)]
  by_cases g4:vK s 0 1/16=6
  ·rw [if_pos g4,show (vK s 0 1/16==6)=true by simpa using g4,cond_true]
  ·rw [if_neg g4,show (vK s 0 1/16==6)=false by simpa using g4,cond_false]
theorem XCJ {s:List UInt8} (h:(Xm4 s).2≠0):(Xbz s).err=(Xm4 s).2:=by
 unfold Xm4 Xbz at *
 split
 ·rename_i g;rw [if_pos g] at h;rw [if_pos h];rfl
 ·rename_i g;rw [if_neg g] at h
  split
  ·rename_i g2;rw [if_pos g2] at h;rw [if_pos h];rfl
  ·rfl
theorem Xz4 {s:List UInt8} (h:(Xm4 s).2=0) (h2:(Xm4 s).1.size+((Xm4 s).1.body.length:Int)≠(s.length:Int)):(Xbz s).err=5:=by
 unfold Xm4 Xbz at *
 split
 ·rename_i g;rw [if_pos g] at h h2;rw [if_neg (by simpa using h),if_pos (by simp only [] at h2;omega)];rfl
 ·rename_i g;rw [if_neg g] at h h2
  split
  ·rename_i g2;rw [if_pos g2] at h h2;rw [if_neg (by simpa using h),if_pos (by simp only [] at h2;omega)];rfl
  ·rename_i g2;rw [if_neg g2] at h;exact absurd h (by decide)
theorem XLe {s:List UInt8} (h:(Xm4 s).2=0) (h2:(Xm4 s).1.size+((Xm4 s).1.body.length:Int)=(s.length:Int)):(Xbz s).err=0∧(Xm4 s).1=⟨(Xbz s).src,(Xbz s).dst,(Xbz s).proto,((Xbz s).size:Int),(Xbz s).body⟩:=by
 unfold Xm4 Xbz at *
 by_cases g:vK s 0 1/16=4
 ·rw [if_pos g] at h h2;rw [if_pos g,if_pos g,if_neg (by simpa using h),if_neg (by simp only [] at h2;omega)];exact ⟨rfl,rfl⟩
 ·rw [if_neg g] at h h2
  by_cases g2:vK s 0 1/16=6
  ·rw [if_pos g2] at h h2;rw [if_neg g,if_neg g,if_pos g2,if_pos g2,if_neg (by simpa using h),if_neg (by simp only [] at h2;omega)];exact ⟨rfl,rfl⟩
  ·rw [if_neg g2] at h;exact absurd h (by decide)
theorem XEF {b:List UInt8} {src dst:Xaa} (h:(Xkb b src dst).2.2=0):20+(Xkb b src dst).1.Options.length+(Xkb b src dst).2.1.length=b.length:=by
 have r:=XfW b 12 1 256 (by decide)
 unfold Xkb at h ⊢
 by_cases g0:b.length<20
 ·rw [if_pos g0] at h;exact absurd h (by decide)
 by_cases g1:4*(vK b 12 1/16)<20
 ·rw [if_neg g0,if_pos g1] at h;exact absurd h (by decide)
 by_cases g2:vK b 12 1%16≠0
 ·rw [if_neg g0,if_neg g1,if_pos g2] at h;exact absurd h (by decide)
 by_cases g3:(b.length:Int)<4*(vK b 12 1/16)
 ·rw [if_neg g0,if_neg g1,if_neg g2,if_pos g3] at h;exact absurd h (by decide)
 by_cases g4:Xlb src dst 6 b.length=[]
 ·rw [if_neg g0,if_neg g1,if_neg g2,if_neg g3,if_pos g4] at h;exact absurd h (by decide)
 by_cases g5:norm (Xfp (Xlb src dst 6 b.length++b))≠65535
 ·rw [if_neg g0,if_neg g1,if_neg g2,if_neg g3,if_neg g4,if_pos g5] at h;exact absurd h (by decide)
 by_cases g6:(Xmq ((b.drop 20).take ((4*(vK b 12 1/16)).toNat - 20))).2≠0
 ·rw [if_neg g0,if_neg g1,if_neg g2,if_neg g3,if_neg g4,if_neg g5,if_pos g6] at h;exact absurd h g6
 rw [if_neg g0,if_neg g1,if_neg g2,if_neg g3,if_neg g4,if_neg g5,if_neg g6]
 simp only [List.length_take,List.length_drop]
 omega
theorem XvD {s:List UInt8} (hs:s.length<2^19):Xfv s=some ((Xbm s).1,((Xbm s).2.1:Int),((Xbm s).2.2.1:Int),(Xbm s).2.2.2):=by
 unfold Xfv Xnp
 have hz:(⟨⟨0,⟨false,0,0⟩,⟨false,0,0⟩,0,0⟩,0,false,0,0,false,[],0⟩:Xam)=zP:=rfl
 rw [hz]
 simp only []
 by_cases g1:9000<s.length
 ·have hT:Xbm s=(zP,0,0,5):=by unfold Xbm;rw [if_pos g1]
  rw [XaP (by omega),hT];rfl
 rw [XaI (by omega)]
 by_cases g2:s=[]
 ·subst g2;rfl
 rw [show (s==[])=false by simpa using g2,cond_false,XMF hs g2,Option.bind_some]
 by_cases g3:(Xm4 s).2=0
 ·rw [show ((Xm4 s).2 !=0)=false by simpa using g3,cond_false]
  have bs:(Xm4 s).1.body.length≤s.length∧0≤(Xm4 s).1.size∧(Xm4 s).1.size≤40+(s.length:Int):=by
   obtain ⟨b1,b2⟩:=Xvt s
   have b3:=XDJ s
   unfold Xm4
   split
   ·exact ⟨b2,by simp only [];omega,by simp only [];omega⟩
   split
   ·exact ⟨b3,by simp only [];omega,by simp only [];omega⟩
   ·exact ⟨by simp,by simp only [];omega,by simp only [];omega⟩
  rw [XdY (n:=(Xm4 s).1.size+((Xm4 s).1.body.length:Int)) (by omega) (by omega)]
  by_cases gl:(Xm4 s).1.size+((Xm4 s).1.body.length:Int)=(s.length:Int)
  ·obtain ⟨k1,k2⟩:=XLe g3 gl
   rw [show ((Xm4 s).1.size+((Xm4 s).1.body.length:Int) !=(s.length:Int))=false by simpa using gl,k2]
   simp only [cond_false]
   obtain ⟨a1,a2⟩:=XsK s
   have hb:=XpI k1
   have hE:(XhW (Xbz s) s.length).2.2≠0→Xbm s=(zP,0,0,(XhW (Xbz s) s.length).2.2):=fun g4=>by
    unfold Xbm;rw [if_neg g1,if_neg g2,if_neg (by simpa using k1),if_pos g4]
   have hO:(XhW (Xbz s) s.length).2.2=0→Xbm s=((XhW (Xbz s) s.length).1,s.length - (Xbz s).body.length,s.length - (XhW (Xbz s) s.length).2.1,0):=fun g4=>by
    unfold Xbm;rw [if_neg g1,if_neg g2,if_neg (by simpa using k1),if_neg (by simpa using g4)]
   generalize hO':Xbz s=o at *
   by_cases p6:o.proto=6
   ·rw [show (o.proto==6)=true by simpa using p6,cond_true,XE4 a1 a2 (by omega),Option.bind_some]
    by_cases g:(Xkb o.body o.src o.dst).2.2=0
    ·have hl7:=XEF g
     have hin:XhW o s.length=(⟨⟨o.proto,o.src,o.dst,(Xkb o.body o.src o.dst).1.SPort,(Xkb o.body o.src o.dst).1.DPort⟩,(Xkb o.body o.src o.dst).1.Flags,(Xvo (Xkb o.body o.src o.dst).1.Options).1,(Xvo (Xkb o.body o.src o.dst).1.Options).2.1,(Xvo (Xkb o.body o.src o.dst).1.Options).2.2,false,[],s.length⟩,(Xkb o.body o.src o.dst).2.1.length,0):=by
      unfold XhW;rw [if_pos p6,if_neg (by simpa using g)]
     rw [hO (by rw [hin]),hin]
     rw [show ((Xkb o.body o.src o.dst).2.2 !=0)=false by simpa using g,cond_false,XLg (by omega),Option.bind_some]
     simp only []
     rw [XdY (n:=(o.size:Int)+20) (by omega) (by omega),XdY (n:=(o.size:Int)+20+((Xkb o.body o.src o.dst).1.Options.length:Int)) (by omega) (by omega),show ((s.length - o.body.length:Nat):Int)=(o.size:Int) by omega,show ((s.length - (Xkb o.body o.src o.dst).2.1.length:Nat):Int)=(o.size:Int)+20+((Xkb o.body o.src o.dst).1.Options.length:Int) by omega]
     unfold Xvo
     by_cases g5:0≤(Xk4 (Xkb o.body o.src o.dst).1.Options).2.2
     ·rw [if_pos g5,XaP (by omega)]
     ·rw [if_neg g5,XaI (by omega)]
    ·have hin:XhW o s.length=(zP,0,(Xkb o.body o.src o.dst).2.2):=by
      unfold XhW;rw [if_pos p6,if_pos g]
     rw [hE (by rw [hin];exact g),hin,show ((Xkb o.body o.src o.dst).2.2 !=0)=true by simpa using g];rfl
   ·rw [show (o.proto==6)=false by simpa using p6,cond_false]
    by_cases p17:o.proto=17
    ·rw [show (o.proto !=17)=false by simpa using p17,cond_false,XCC a1 a2 (by omega),Option.bind_some]
     by_cases g:(XjJ o.body o.src o.dst).2.2=0
     ·have hb8:(XjJ o.body o.src o.dst).2.1.length≤o.body.length:=by
       unfold XjJ
       repeat' split
       all_goals simp
       all_goals omega
      rw [show ((XjJ o.body o.src o.dst).2.2 !=0)=false by simpa using g,cond_false]
      rw [XdY (n:=((XjJ o.body o.src o.dst).2.1.length:Int)+8) (by omega) (by omega)]
      by_cases g6:(XjJ o.body o.src o.dst).2.1.length+8=o.body.length
      ·have hin:XhW o s.length=(⟨⟨o.proto,o.src,o.dst,(XjJ o.body o.src o.dst).1.SPort,(XjJ o.body o.src o.dst).1.DPort⟩,0,false,0,0,(XQo (XjJ o.body o.src o.dst).2.1).1,(XQo (XjJ o.body o.src o.dst).2.1).2,s.length⟩,(XjJ o.body o.src o.dst).2.1.length,0):=by
        unfold XhW;rw [if_neg p6,if_pos p17,if_neg (by simpa using g),if_neg (by simpa using g6)]
       rw [hO (by rw [hin]),hin,show (((XjJ o.body o.src o.dst).2.1.length:Int)+8 !=(o.body.length:Int))=false by simp;omega,cond_false,Xv8 (by omega),Option.bind_some,XdY (n:=(o.size:Int)+8) (by omega) (by omega)]
       simp only []
       rw [show ((s.length - o.body.length:Nat):Int)=(o.size:Int) by omega,show ((s.length - (XjJ o.body o.src o.dst).2.1.length:Nat):Int)=(o.size:Int)+8 by omega]
       unfold XQo
       by_cases g5:(Xpt (XjJ o.body o.src o.dst).2.1).2=0
       ·rw [if_pos g5,show ((Xpt (XjJ o.body o.src o.dst).2.1).2==0)=true by simpa using g5,cond_true]
       ·rw [if_neg g5,show ((Xpt (XjJ o.body o.src o.dst).2.1).2==0)=false by simpa using g5,cond_false]
      ·have hin:XhW o s.length=(zP,0,5):=by
        unfold XhW;rw [if_neg p6,if_pos p17,if_neg (by simpa using g),if_pos g6]
       rw [hE (by rw [hin];decide),hin,show (((XjJ o.body o.src o.dst).2.1.length:Int)+8 !=(o.body.length:Int))=true by simp;omega];rfl
     ·have hin:XhW o s.length=(zP,0,(XjJ o.body o.src o.dst).2.2):=by
       unfold XhW;rw [if_neg p6,if_pos p17,if_pos g]
      rw [hE (by rw [hin];exact g),hin,show ((XjJ o.body o.src o.dst).2.2 !=0)=true by simpa using g];rfl
    ·have hin:XhW o s.length=(zP,0,6):=by
      unfold XhW;rw [if_neg p6,if_neg p17]
     rw [hE (by rw [hin];decide),hin,show (o.proto !=17)=true by simpa using p17];rfl
  ·have hT:Xbm s=(zP,0,0,5):=by
    have e:=Xz4 g3 gl
    unfold Xbm;rw [if_neg g1,if_neg g2,if_pos (by rw [e];decide),e]
   rw [hT,show ((Xm4 s).1.size+((Xm4 s).1.body.length:Int) !=(s.length:Int))=true by simpa using gl];rfl
 ·have hT:Xbm s=(zP,0,0,(Xm4 s).2):=by
   have e:=XCJ g3
   unfold Xbm;rw [if_neg g1,if_neg g2,if_pos (by rw [e];exact g3),e]
  rw [hT,show ((Xm4 s).2 !=0)=true by simpa using g3];rfl
theorem Xpy {s:List UInt8} (hs:s.length<2^19):XbS s=some ((Xbm s).1,(Xbm s).2.2.2):=by
 unfold XbS Xl7
 rw [XvD hs,Option.bind_some]
theorem Xzs {s:List UInt8} (hs:s.length<2^19):Xkg s=some (((Xbm s).2.1:Int),((Xbm s).2.2.1:Int),(Xbm s).2.2.2):=by
 unfold Xkg Xrb
 rw [XvD hs,Option.bind_some]
theorem Xtj {t:Xag} {b:List UInt8} (h1:A4 t.Src) (h2:A4 t.Dst) (hb:b.length<2^20):Xcv t b=some (Xho t b):=by
 unfold Xcv XkD
 have key:(t.Proto=6∨t.Proto=17)→(cond (!(t.Src.V6==t.Dst.V6)) (some (([],1):List UInt8×Int))
  ((XaB t.Src).bind fun xr=>cond (!xr) (some ([],1)) ((XaB t.Dst).bind fun xr1=>cond (!xr1) (some ([],1))
    (cond t.Src.V6
      ((Xe0 (Xaq.mk 0 0 t.Proto 64 t.Src t.Dst) b).bind fun p=>cond (p.2==0) (cond (decide ((p.1.length:Int)>9000)) (some ([],5)) (some (p.1,p.2))) (some (p.1,p.2)))
      ((Xes (Xal.mk 0 0 true 64 t.Proto t.Src t.Dst []) b).bind fun p1=>cond (p1.2==0) (cond (decide ((p1.1.length:Int)>9000)) (some ([],5)) (some (p1.1,p1.2))) (some (p1.1,p1.2)))))))=some (Xho t b):=by
  intro hp
  unfold Xho
  by_cases g1:t.Src.V6=t.Dst.V6
  ·rw [show (!(t.Src.V6==t.Dst.V6))=false by simp [g1],cond_false,Xkf,Xkf,Option.bind_some,Option.bind_some]
   cases g2:aok t.Src
   ·rw [if_pos (.inr (.inl rfl))];rfl
   cases g3:aok t.Dst
   ·rw [if_pos (.inr (.inr (.inl rfl)))];rfl
   rw [Bool.not_true,cond_false,cond_false,XKm (h:=⟨0,0,t.Proto,64,t.Src,t.Dst⟩) h1.Xq6 h2.Xq6 (by omega),p5_eq (h:=⟨0,0,true,64,t.Proto,t.Src,t.Dst,[]⟩) h1 h2 (by omega) (by simp)]
   simp only [Option.bind_some,XVo]
   rw [if_neg (show ¬ (t.Src.V6≠t.Dst.V6∨true=false∨true=false∨(t.Proto≠6∧t.Proto≠17)) from fun h=>h.elim (fun x=>x g1) fun h=>h.elim (fun x=>by cases x) fun h=>h.elim (fun x=>by cases x) fun x=>by omega)]
   unfold XnG Xk6 Xnd
   cases t.Src.V6<;>rfl
  ·rw [show (!(t.Src.V6==t.Dst.V6))=true by simp [g1],cond_true,if_pos (.inl g1)]
 by_cases p6:t.Proto=6
 ·rw [show (t.Proto==6)=true by simpa using p6,cond_true];exact key (.inl p6)
 ·rw [show (t.Proto==6)=false by simpa using p6,cond_false]
  by_cases p17:t.Proto=17
  ·rw [show (!(t.Proto==17))=false by simp [p17],cond_false];exact key (.inr p17)
  ·rw [show (!(t.Proto==17))=true by simp [p17],cond_true]
   unfold Xho
   rw [if_pos (.inr (.inr (.inr ⟨p6,p17⟩)))]
theorem XsI {t:Xag} {flags:Int} {o l:List UInt8} (h1:A4 t.Src) (h2:A4 t.Dst) (ho:o.length<2^18) (hl:l.length<2^18):Xbq t flags o l=some (Xnc t flags o l):=by
 unfold Xbq XhX Xnc
 by_cases g:t.Proto=6
 ·have hw:W7 ⟨t.SPort,t.DPort,0,0,flags,65535,0,o⟩:=⟨⟨by simp only [];omega,by simp only [];omega⟩,by simp only [];omega,by simp only [];omega⟩
  have hlen:=XrD ⟨t.SPort,t.DPort,0,0,flags,65535,0,o⟩ t.Src t.Dst l
  simp only at hlen
  rw [show (t.Proto !=6)=false by simpa using g,cond_false,XCn hw h1 h2 (by omega) (by simp only [];omega),Option.bind_some,if_neg (by simpa using g)]
  by_cases g2:(XoL ⟨t.SPort,t.DPort,0,0,flags,65535,0,o⟩ t.Src t.Dst l).2=0
  ·rw [show ((XoL ⟨t.SPort,t.DPort,0,0,flags,65535,0,o⟩ t.Src t.Dst l).2 !=0)=false by simpa using g2,cond_false,if_neg (by simpa using g2),Xtj h1 h2 (by omega)];rfl
  ·rw [show ((XoL ⟨t.SPort,t.DPort,0,0,flags,65535,0,o⟩ t.Src t.Dst l).2 !=0)=true by simpa using g2,cond_true,if_pos g2]
 ·rw [show (t.Proto !=6)=true by simpa using g,cond_true,if_pos g]
theorem XAb {t:Xag} {l:List UInt8} (h1:A4 t.Src) (h2:A4 t.Dst) (hl:l.length<2^18):Xcw t l=some (Xt7 t l):=by
 unfold Xcw Xhk Xt7
 by_cases g:t.Proto=17
 ·have hlen:=Xvc ⟨t.SPort,t.DPort⟩ t.Src t.Dst l
  rw [show (t.Proto !=17)=false by simpa using g,cond_false,XKl h1 h2 (by omega),Option.bind_some,if_neg (by simpa using g)]
  by_cases g2:(Xt5 ⟨t.SPort,t.DPort⟩ t.Src t.Dst l).2=0
  ·rw [show ((Xt5 ⟨t.SPort,t.DPort⟩ t.Src t.Dst l).2 !=0)=false by simpa using g2,cond_false,if_neg (by simpa using g2),Xtj h1 h2 (by omega)];rfl
  ·rw [show ((Xt5 ⟨t.SPort,t.DPort⟩ t.Src t.Dst l).2 !=0)=true by simpa using g2,cond_true,if_pos g2]
 ·rw [show (t.Proto !=17)=true by simpa using g,cond_true,if_pos g]
end Go.Vm.Code
namespace Go.Vm.Code
open Go Go.Vm Go.Proofs
set_option maxRecDepth 100000
set_option maxHeartbeats 4000000
set_option linter.unusedVariables false
def Xrt (n:Int) (most:Int):Option Bool:=
 cond (decide (n≥0))
  (
  some (decide (n≤most)))
  (
  some (false))
def rx58 (x:Bool):XcU:=⟨.bool x,[],[]⟩
abbrev XiY:=Int→Int→Option Bool
def r58 (g:XiY):Dec:=dV (asI .i64) fun (y0:Int)=>dV (asI .i64) fun (y1:Int)=>Xd2 (ofG (g y0 y1) rx58)
theorem r58_c {g:XiY} {y0:Int} {y1:Int} {x:Bool} (hx:g y0 y1=some x):r58 g [.int .i64 y0,.int .i64 y1] []=some (rx58 x):=(XaO (Xen _)).trans ((XaO (Xen _)).trans (XaN hx))
def s58 (g:XiY):XbC:=⟨[.v,.v],r58 g⟩
theorem XV1 {g:XiY} {y0:Int} {y1:Int} {x:Bool} (hx:g y0 y1=some x):(s58 g).run [.int .i64 y0,.int .i64 y1] []=some (rx58 x):=r58_c hx
abbrev XTC:List (Nat×XbC):=[]
theorem XOv (hS:Xak Tryz.prog (XaD (XTC))) (n:Int) (most:Int) (res:Bool) (h:Xrt n most=some res) :
 XaF Tryz.prog 58 0 ⟨⟨58,12,[(0,.int .i64 n),(1,.int .i64 most)],[.code XTz],[],false,none⟩,[],[],0⟩ (fun v H _=>Res 0 (rx58 res) v H):=by
 unfold Xrt at h
 refine Xa4 XaC hS true 3000 ?_
 conv=>whnf
 exact W
def XjG:XiY:=Xrt
theorem XSU:XbD Tryz.prog 58 (s58 XjG):=by
 have hL:=XOv (Xak.XaJ trivial)
 exact okA ⟨Tryz.f58,rfl,by decide,rfl⟩
def Xmh (XaL:Xcb) (XjG:XiY) (t:Xag):Option Bool:=
 (XjG t.Proto 255).bind fun i=>
 cond (i)
  (
  (XaL t.Src).bind fun xr=>
  cond (xr)
   (
   (XaL t.Dst).bind fun xr1=>
   cond (xr1)
    (
    cond (t.Src.V6==t.Dst.V6)
     (
     (XjG t.SPort 65535).bind fun i1=>
     cond (i1)
      (
      (XjG t.DPort 65535).bind fun i2=>
      some (i2))
      (
      some (false)))
     (
     some (false)))
    (
    some (false)))
   (
   some (false)))
  (
  some (false))
def rx23 (x:Bool):XcU:=⟨.bool x,[],[]⟩
abbrev Xfm:=Xag→Option Bool
def r23 (g:Xfm):Dec:=dV Xet fun (y0:Xag)=>Xd2 (ofG (g y0) rx23)
theorem r23_c {g:Xfm} {y0:Xag} {x:Bool} (hx:g y0=some x):r23 g [.agg ⟨[.int .i64 y0.Proto,.bool y0.Src.V6,.int .u64 y0.Src.Hi,.int .u64 y0.Src.Lo,.bool y0.Dst.V6,.int .u64 y0.Dst.Hi,.int .u64 y0.Dst.Lo,.int .i64 y0.SPort,.int .i64 y0.DPort]⟩] []=some (rx23 x):=(XaO (Xev _)).trans (XaN hx)
def s23 (g:Xfm):XbC:=⟨[.v],r23 g⟩
theorem XWo {g:Xfm} {y0:Xag} {x:Bool} (hx:g y0=some x):(s23 g).run [.agg ⟨[.int .i64 y0.Proto,.bool y0.Src.V6,.int .u64 y0.Src.Hi,.int .u64 y0.Src.Lo,.bool y0.Dst.V6,.int .u64 y0.Dst.Hi,.int .u64 y0.Dst.Lo,.int .i64 y0.SPort,.int .i64 y0.DPort]⟩] []=some (rx23 x):=r23_c hx
abbrev XTV (XaL:Xcb) (XjG:XiY):List (Nat×XbC):=[(59,s59 XaL),(58,s58 XjG)]
theorem XPx (XaL:Xcb) (XjG:XiY) (hS:Xak Tryz.prog (XaD (XTV XaL XjG))) (t:Xag) (res:Bool) (h:Xmh XaL XjG t=some res) :
 XaF Tryz.prog 23 0 ⟨⟨23,35,[(0,.agg ⟨[.int .i64 t.Proto,.bool t.Src.V6,.int .u64 t.Src.Hi,.int .u64 t.Src.Lo,.bool t.Dst.V6,.int .u64 t.Dst.Hi,.int .u64 t.Dst.Lo,.int .i64 t.SPort,.int .i64 t.DPort]⟩)],[.code XS3],[],false,none⟩,[],[],0⟩ (fun v H _=>Res 0 (rx23 res) v H):=by
 unfold Xmh at h
 have R1:=@XV1 XjG
 have R2:=@Xti XaL
 refine Xa4 XaC hS true 3000 ?_
 conv=>whnf
 exact W
def Xfe:Xfm:=Xmh XaL XjG
theorem lift23:XbD Tryz.prog 23 (s23 Xfe):=by
 have hL:=XPx XaL XjG (Xak.XaJ ⟨XsX,XSU,trivial⟩)
 exact okA ⟨Tryz.f23,rfl,by decide,rfl⟩
def XfF (most:Int) (l:List Int) (t9:Int):Option (Sum Int Bool):=
 cond (decide (t9<(l.length:Int)))
  (
  Xbn (decide ((0:Int)≤t9∧t9<(l.length:Int))) <|
  (l[t9.toNat]?).bind fun (e:Int)=>
  cond (decide (e<0))
   (
   some (.inr (false)))
   (
   cond (decide (e>most))
    (
    some (.inr (false)))
    (
    some (.inl (wI .i64 (t9+1))))))
  (
  some (.inr (true)))
def Xji (most:Int) (l:List Int):Option Bool:=
 iter (fun st=>XfF most l st) FUEL 0
def Xwv (x:Bool):XcU:=⟨.bool x,[],[none]⟩
abbrev XeD:=Int→(List Int)→Option Bool
def r109 (g:XeD):Dec:=dV (asI .i64) fun (y0:Int)=>dSl 0 1 (unL (asI .i64)) fun (y1:List Int)=>Xd2 (ofG (g y0 y1) Xwv)
theorem XRH {g:XeD} {y0:Int} {y1:List Int} {x:Bool} (hx:g y0 y1=some x):r109 g [.int .i64 y0,.slice (some ⟨0,0,none⟩) y1.length 1] [some (vI .i64 y1)]=some (Xwv x):=(XaO (Xen _)).trans ((Xv7 (XvN _ _)).trans (XaN hx))
def s109 (g:XeD):XbC:=⟨[.v,.sl 1],r109 g⟩
theorem XLC {g:XeD} {y0:Int} {y1:List Int} {x:Bool} (hx:g y0 y1=some x):(s109 g).run [.int .i64 y0,.slice (some ⟨0,0,none⟩) y1.length 1] [some (vI .i64 y1)]=some (Xwv x):=XRH hx
abbrev XAy:List (Nat×XbC):=[]
def Xld (most:Int) (l:List Int) (t9:Int):VM:=
 ⟨⟨109,21,[(0,.int .i64 most),(7,.slice (some ⟨0,0,none⟩) l.length 1),(8,.int .i64 (l.length:Int)),(9,.int .i64 t9)],[.code XuI,.inLoop XuI,.inBlock 0,.code XyB],[],false,none⟩,[],[(0,.row false (vI .i64 l))],1⟩
theorem Xzy (hS:Xak Tryz.prog (XaD (XAy))) (most:Int) (l:List Int) (res:Bool):∀ fuel (st:Int) (o:Bool),iter (fun st=>XfF most l st) fuel st=some o→(o=res) →
 XaF Tryz.prog 109 1 (Xld most l st) (fun v H _=>Res 1 (Xwv res) v H):=by
 intro fuel st o h hc
 refine Xdh (head:=fun st=>Xld most l st) (C:=fun o=>(o=res)) ?_ fuel st o h hc
 clear h hc o st fuel
 intro t9 o h hc
 replace h:XfF most l t9=some o:=h
 show XaF Tryz.prog 109 1 (Xld most l t9) (fun v H _=>Res 1 (Xwv res) v H)
 unfold XfF at h
 refine Xa4 XaC hS true 3000 ?_
 conv=>whnf
 refine br.h2 h (by rfl) ?_ ?_
 ·clear h;intro hb h;conv=>whnf
  exact W
 clear h;intro hb h;conv=>whnf
 replace h:=Xbn.elim h;obtain ⟨hb,h⟩:=h
 try (refine req.intro hb ?_;conv=>whnf)
 replace h:=Xdy.elim h;obtain ⟨e,hy,h⟩:=h
 refine rd.I hy (by first|rfl|(rw [Nat.zero_add,Nat.mul_one];try rfl;done)|omega) ?_
 conv=>whnf
 refine br.h h (by rfl) ?_ ?_
 ·clear h;intro hb h;conv=>whnf
  exact W
 clear h;intro hb h;conv=>whnf
 refine br.h h (by rfl) ?_ ?_
 ·clear h;intro hb h;conv=>whnf
  exact W
 clear h;intro hb h;conv=>whnf
 cases h;simp only [Sum.elim_inl,Xld] at hc
 exact Xmt hc [(0,0)] rfl
theorem XHh (hS:Xak Tryz.prog (XaD (XAy))) (most:Int) (l:List Int) (res:Bool) (h:Xji most l=some res) :
 XaF Tryz.prog 109 1 ⟨⟨109,21,[(0,.int .i64 most),(1,.slice (some ⟨0,0,none⟩) l.length 1)],[.code XAl],[],false,none⟩,[],[(0,.row false (vI .i64 l))],1⟩ (fun v H _=>Res 1 (Xwv res) v H):=by
 unfold Xji at h
 refine Xa4 XaC hS true 3000 ?_
 conv=>whnf
 have hl:=Xzy hS _ _ res _ _ _ h rfl;simp only [Xld] at hl
 exact Xmt hl [(0,0)] rfl
def Xdp:XeD:=Xji
theorem XQb:XbD Tryz.prog 109 (s109 Xdp):=by
 have hL:=XHh (Xak.XaJ trivial)
 exact okA ⟨Tryz.f109,rfl,by decide,rfl⟩
def XjQ (XaB:XbV) (Xdp:XeD) (t:Xag):Option Bool:=
 (Xdp 255 [t.Proto]).bind fun w=>
 cond (w)
  (
  (Xdp 65535 [t.SPort,t.DPort]).bind fun w1=>
  cond (w1)
   (
   (XaB t.Src).bind fun xr=>
   cond (xr)
    (
    (XaB t.Dst).bind fun xr1=>
    cond (xr1)
     (
     some (t.Src.V6==t.Dst.V6))
     (
     some (false)))
    (
    some (false)))
   (
   some (false)))
  (
  some (false))
def rx67 (x:Bool):XcU:=⟨.bool x,[],[]⟩
abbrev Xc9:=Xag→Option Bool
def r67 (g:Xc9):Dec:=dV Xet fun (y0:Xag)=>Xd2 (ofG (g y0) rx67)
theorem r67_c {g:Xc9} {y0:Xag} {x:Bool} (hx:g y0=some x):r67 g [.agg ⟨[.int .i64 y0.Proto,.bool y0.Src.V6,.int .u64 y0.Src.Hi,.int .u64 y0.Src.Lo,.bool y0.Dst.V6,.int .u64 y0.Dst.Hi,.int .u64 y0.Dst.Lo,.int .i64 y0.SPort,.int .i64 y0.DPort]⟩] []=some (rx67 x):=(XaO (Xev _)).trans (XaN hx)
def s67 (g:Xc9):XbC:=⟨[.v],r67 g⟩
theorem XHL {g:Xc9} {y0:Xag} {x:Bool} (hx:g y0=some x):(s67 g).run [.agg ⟨[.int .i64 y0.Proto,.bool y0.Src.V6,.int .u64 y0.Src.Hi,.int .u64 y0.Src.Lo,.bool y0.Dst.V6,.int .u64 y0.Dst.Hi,.int .u64 y0.Dst.Lo,.int .i64 y0.SPort,.int .i64 y0.DPort]⟩] []=some (rx67 x):=r67_c hx
abbrev XRt (XaB:XbV) (Xdp:XeD):List (Nat×XbC):=[(110,XOl XaB),(109,s109 Xdp)]
theorem XMb (XaB:XbV) (Xdp:XeD) (hS:Xak Tryz.prog (XaD (XRt XaB Xdp))) (t:Xag) (res:Bool) (h:XjQ XaB Xdp t=some res) :
 XaF Tryz.prog 67 0 ⟨⟨67,34,[(0,.agg ⟨[.int .i64 t.Proto,.bool t.Src.V6,.int .u64 t.Src.Hi,.int .u64 t.Src.Lo,.bool t.Dst.V6,.int .u64 t.Dst.Hi,.int .u64 t.Dst.Lo,.int .i64 t.SPort,.int .i64 t.DPort]⟩)],[.code XT4],[],false,none⟩,[],[],0⟩ (fun v H _=>Res 0 (rx67 res) v H):=by
 unfold XjQ at h
 have R1:=@XLC Xdp
 have R2:=@Xqm XaB
 refine Xa4 XaC hS true 3000 ?_
 conv=>whnf
 exact W
def XbR:Xc9:=XjQ XaB Xdp
theorem XVG:XbD Tryz.prog 67 (s67 XbR):=by
 have hL:=XMb XaB Xdp (Xak.XaJ ⟨Xqf,XQb,trivial⟩)
 exact okA ⟨Tryz.f67,rfl,by decide,rfl⟩
end Go.Vm.Code
namespace Go.Vm.Code
open Go Go.Vm
def adr (a:Xaa):Bool:=a.V6||(decide (a.Hi=0)&&decide (a.Lo<4294967296))
theorem Xov (a:Xaa):XaB a=some (adr a):=by
 unfold XaB XiB adr
 cases a.V6 with
 | true=>rfl
 | false=>
   rw [cond_false,Bool.false_or]
   by_cases h:a.Hi=0
   ·rw [h];rfl
   ·rw [beq_eq_false_iff_ne.2 h,cond_false,decide_eq_false h];rfl
theorem XqM (a:Xaa):XaL a=some (adr a):=Xov a
def XHc (t:Xag):Bool:=decide (0≤t.Proto∧t.Proto≤255)&&(decide (0≤t.SPort∧t.SPort≤65535)&&(decide (0≤t.DPort∧t.DPort≤65535)&&(adr t.Src&&(adr t.Dst&&(t.Src.V6==t.Dst.V6)))))
theorem Xqi {m:Int} {l:List Int} (hl:l.length<2^40):Xdp m l=some (l.all fun e=>decide (0≤e∧e≤m)):=by
 unfold Xdp Xji
 have key:=iter_eq (step:=fun (st:Int)=>XfF m l st) (fun st=>(l.drop st.toNat).all fun e=>decide (0≤e∧e≤m)) (fun st=>0≤st∧st≤l.length) (fun st=>(l.length - st).toNat) ?_ FUEL 0 ⟨by omega,by omega⟩ (by rw [XgO];omega)
 ·rw [key];simp
 rintro p ⟨g1,g2⟩
 obtain ⟨i,rfl⟩:=Int.eq_ofNat_of_zero_le g1
 simp only [Int.toNat_natCast]
 unfold XfF
 by_cases hi:i<l.length
 ·have e1:((l.drop i).all fun e=>decide (0≤e∧e≤m))=(decide (0≤l[i]∧l[i]≤m)&&(l.drop (i+1)).all fun e=>decide (0≤e∧e≤m)):=by rw [List.drop_eq_getElem_cons hi];rfl
  by_cases h1:l[i]<0
  ·refine .inl ?_
   simp (disch:=omega) only [XaP,Xat,Int.toNat_natCast,List.getElem?_eq_getElem,Option.bind_some]
   rw [e1,decide_eq_false (by omega)];rfl
  ·by_cases h2:l[i]>m
   ·refine .inl ?_
    simp (disch:=omega) only [XaP,XaI,Xat,Int.toNat_natCast,List.getElem?_eq_getElem,Option.bind_some]
    rw [e1,decide_eq_false (by omega)];rfl
   ·refine .inr ⟨((i+1:Nat):Int),?_,⟨by omega,by omega⟩,by omega,?_⟩
    ·simp (disch:=omega) only [XaP,XaI,Xat,Int.toNat_natCast,List.getElem?_eq_getElem,Option.bind_some,XdY];rfl
    ·simp only [Int.toNat_natCast]
     rw [e1,decide_eq_true (by omega),Bool.true_and]
 ·refine .inl ?_
  rw [XaI (by omega),List.drop_eq_nil_of_le (by omega)];rfl
theorem XAC (t:Xag):XbR t=some (XHc t):=by
 unfold XbR XjQ XHc
 rw [Xqi (by simp),Xqi (by simp),Xov,Xov]
 simp only [Option.bind_some,List.all_cons,List.all_nil,Bool.and_true]
 generalize decide (0≤t.Proto∧t.Proto≤255)=a
 generalize decide (0≤t.SPort∧t.SPort≤65535)=b
 generalize decide (0≤t.DPort∧t.DPort≤65535)=c
 generalize adr t.Src=d
 generalize adr t.Dst=e
 cases a<;>cases b<;>cases c<;>cases d<;>cases e<;>rfl
theorem Xpu (n m:Int):XjG n m=some (decide (0≤n∧n≤m)):=by
 unfold XjG Xrt
 by_cases h:n≥0
 ·rw [XaP h];congr 1;rw [Bool.eq_iff_iff,decide_eq_true_eq,decide_eq_true_eq];omega
 ·rw [XaI h];congr 1;symm;exact decide_eq_false (by omega)
theorem Xw6 (t:Xag):Xfe t=some (XHc t):=by
 unfold Xfe Xmh XHc
 rw [Xpu,Xpu,Xpu,XqM,XqM]
 simp only [Option.bind_some]
 generalize decide (0≤t.Proto∧t.Proto≤255)=a
 generalize decide (0≤t.SPort∧t.SPort≤65535)=b
 generalize decide (0≤t.DPort∧t.DPort≤65535)=c
 generalize adr t.Src=d
 generalize adr t.Dst=e
 generalize (t.Src.V6==t.Dst.V6)=f
 cases a<;>cases b<;>cases c<;>cases d<;>cases e<;>cases f<;>rfl
theorem XFM {t:Xag} (h:XHc t=true):(0≤t.Proto∧t.Proto≤255)∧(0≤t.SPort∧t.SPort≤65535)∧(0≤t.DPort∧t.DPort≤65535)∧adr t.Src=true∧adr t.Dst=true:=by
 unfold XHc at h
 simp only [Bool.and_eq_true,decide_eq_true_eq] at h
 exact ⟨h.1,h.2.1,h.2.2.1,h.2.2.2.1,h.2.2.2.2.1⟩
end Go.Vm.Code
namespace Go.Vm.Code
open Go Go.Vm Go.Proofs
set_option maxRecDepth 100000
set_option maxHeartbeats 4000000
set_option linter.unusedVariables false
def XfG:Option Bool:=
 some (false)
def XHk (x:Bool):XcU:=⟨.bool x,[],[none]⟩
abbrev Xan:=Option Bool
def r72n (g:Xan):Dec:=dNl 1<|Xd2 (ofG (g) XHk)
theorem XWi {g:Xan} {x:Bool} (hx:g=some x):r72n g [.pointer none] [none]=some (XHk x):=(XCS).trans (XaN hx)
abbrev XKz:List (Nat×XbC):=[]
theorem XCQ (hS:Xak Tryz.prog (XaD (XKz))) (res:Bool) (h:XfG=some res) :
 XaF Tryz.prog 72 1 ⟨⟨72,13,[(0,.pointer none)],[.code XLP],[],false,none⟩,[],[],1⟩ (fun v H _=>Res 1 (XHk res) v H):=by
 unfold XfG at h
 refine Xa4 XaC hS true 3000 ?_
 conv=>whnf
 exact W
def Xfx (c:Xab):Option (Bool×Xab):=
 Option.elim c.v_.say
  (
  some ((false,Xab.mk c.t (Xbi.mk c.v_.hello none c.v_.hear) c.clock c.echo c.id_)))
  (fun n=>
  some ((true,Xab.mk c.t (Xbi.mk c.v_.hello (some n) c.v_.hear) c.clock c.echo c.id_)))
def rx72 (x:Bool×Xab):XcU:=⟨.bool x.1,[],[some [.int .i64 x.2.t.Proto,.bool x.2.t.Src.V6,.int .u64 x.2.t.Src.Hi,.int .u64 x.2.t.Src.Lo,.bool x.2.t.Dst.V6,.int .u64 x.2.t.Dst.Hi,.int .u64 x.2.t.Dst.Lo,.int .i64 x.2.t.SPort,.int .i64 x.2.t.DPort,fvV x.2.v_.hello,fvV x.2.v_.say,fvV x.2.v_.hear,.int .u32 x.2.clock,.int .u32 x.2.echo,.string ⟨⟨x.2.id_⟩⟩]]⟩
abbrev Xap:=Xab→Option (Bool×Xab)
def r72 (g:Xap):Dec:=dPt 0 XbQ fun (y0:Xab)=>Xd2 (ofG (g y0) rx72)
theorem r72_c {g:Xap} {y0:Xab} {x:Bool×Xab} (hx:g y0=some x):r72 g [.pointer (some ⟨0,0,none⟩)] [some [.int .i64 y0.t.Proto,.bool y0.t.Src.V6,.int .u64 y0.t.Src.Hi,.int .u64 y0.t.Src.Lo,.bool y0.t.Dst.V6,.int .u64 y0.t.Dst.Hi,.int .u64 y0.t.Dst.Lo,.int .i64 y0.t.SPort,.int .i64 y0.t.DPort,fvV y0.v_.hello,fvV y0.v_.say,fvV y0.v_.hear,.int .u32 y0.clock,.int .u32 y0.echo,.string ⟨⟨y0.id_⟩⟩]]=some (rx72 x):=(Xh1 (Xci _)).trans (XaN hx)
def s72 (g:Xap) (g2:Xan):XbC:=⟨[.pt 15],XsL 0 (r72 g) (r72n g2)⟩
theorem XsR {g:Xap} {g2:Xan} {y0:Xab} {x:Bool×Xab} (hx:g y0=some x):(s72 g g2).run [.pointer (some ⟨0,0,none⟩)] [some [.int .i64 y0.t.Proto,.bool y0.t.Src.V6,.int .u64 y0.t.Src.Hi,.int .u64 y0.t.Src.Lo,.bool y0.t.Dst.V6,.int .u64 y0.t.Dst.Hi,.int .u64 y0.t.Dst.Lo,.int .i64 y0.t.SPort,.int .i64 y0.t.DPort,fvV y0.v_.hello,fvV y0.v_.say,fvV y0.v_.hear,.int .u32 y0.clock,.int .u32 y0.echo,.string ⟨⟨y0.id_⟩⟩]]=some (rx72 x):=r72_c hx
theorem Xup {g2:Xap} {g:Xan} {x:Bool} (hx:g=some x):(s72 g2 g).run [.pointer none] [none]=some (XHk x):=XWi hx
abbrev XRu:List (Nat×XbC):=[]
theorem XME (hS:Xak Tryz.prog (XaD (XRu))) (c:Xab) (res:Bool×Xab) (h:Xfx c=some res) :
 XaF Tryz.prog 72 1 ⟨⟨72,13,[(0,.pointer (some ⟨0,0,none⟩))],[.code XLP],[],false,none⟩,[],[(0,.cells [.int .i64 c.t.Proto,.bool c.t.Src.V6,.int .u64 c.t.Src.Hi,.int .u64 c.t.Src.Lo,.bool c.t.Dst.V6,.int .u64 c.t.Dst.Hi,.int .u64 c.t.Dst.Lo,.int .i64 c.t.SPort,.int .i64 c.t.DPort,fvV c.v_.hello,fvV c.v_.say,fvV c.v_.hear,.int .u32 c.clock,.int .u32 c.echo,.string ⟨⟨c.id_⟩⟩])],1⟩ (fun v H _=>Res 1 (rx72 res) v H):=by
 unfold Xfx at h
 refine Xa4 XaC hS true 3000 ?_
 conv=>whnf
 exact W
def Xae:Xap:=Xfx
def Xac:Xan:=XfG
theorem XoC:XbD Tryz.prog 72 (s72 Xae Xac):=by
 have hL:=XME (Xak.XaJ trivial);have hN:=XCQ (Xak.XaJ trivial)
 exact okA ⟨Tryz.f72,rfl,by decide,rfl⟩
def XgW (Xbq:Xcx) (Xb2:Xdx) (c:Xab):Option ((List UInt8)×Int×Xab):=
 (Xb2 c.clock 0).bind fun s=>
 (Xbq c.t 2 s []).bind fun s1=>
 some ((s1.1,s1.2,c))
def XGy (x:(List UInt8)×Int×Xab):XcU:=⟨.tuple ⟨[.string ⟨⟨x.1⟩⟩,.int .i64 x.2.1]⟩,[],[some [.int .i64 x.2.2.t.Proto,.bool x.2.2.t.Src.V6,.int .u64 x.2.2.t.Src.Hi,.int .u64 x.2.2.t.Src.Lo,.bool x.2.2.t.Dst.V6,.int .u64 x.2.2.t.Dst.Hi,.int .u64 x.2.2.t.Dst.Lo,.int .i64 x.2.2.t.SPort,.int .i64 x.2.2.t.DPort,fvV x.2.2.v_.hello,fvV x.2.2.v_.say,fvV x.2.2.v_.hear,.int .u32 x.2.2.clock,.int .u32 x.2.2.echo,.string ⟨⟨x.2.2.id_⟩⟩]]⟩
abbrev XcW:=Xab→Option ((List UInt8)×Int×Xab)
def r117 (g:XcW):Dec:=dPt 0 XbQ fun (y0:Xab)=>Xd2 (ofG (g y0) XGy)
theorem XVQ {g:XcW} {y0:Xab} {x:(List UInt8)×Int×Xab} (hx:g y0=some x):r117 g [.pointer (some ⟨0,0,none⟩)] [some [.int .i64 y0.t.Proto,.bool y0.t.Src.V6,.int .u64 y0.t.Src.Hi,.int .u64 y0.t.Src.Lo,.bool y0.t.Dst.V6,.int .u64 y0.t.Dst.Hi,.int .u64 y0.t.Dst.Lo,.int .i64 y0.t.SPort,.int .i64 y0.t.DPort,fvV y0.v_.hello,fvV y0.v_.say,fvV y0.v_.hear,.int .u32 y0.clock,.int .u32 y0.echo,.string ⟨⟨y0.id_⟩⟩]]=some (XGy x):=(Xh1 (Xci _)).trans (XaN hx)
def s117 (g:XcW):XbC:=⟨[.pt 15],r117 g⟩
theorem XLN {g:XcW} {y0:Xab} {x:(List UInt8)×Int×Xab} (hx:g y0=some x):(s117 g).run [.pointer (some ⟨0,0,none⟩)] [some [.int .i64 y0.t.Proto,.bool y0.t.Src.V6,.int .u64 y0.t.Src.Hi,.int .u64 y0.t.Src.Lo,.bool y0.t.Dst.V6,.int .u64 y0.t.Dst.Hi,.int .u64 y0.t.Dst.Lo,.int .i64 y0.t.SPort,.int .i64 y0.t.DPort,fvV y0.v_.hello,fvV y0.v_.say,fvV y0.v_.hear,.int .u32 y0.clock,.int .u32 y0.echo,.string ⟨⟨y0.id_⟩⟩]]=some (XGy x):=XVQ hx
abbrev XJ1 (Xbq:Xcx) (Xb2:Xdx):List (Nat×XbC):=[(118,s118 Xbq),(119,s119 Xb2)]
theorem XD5 (Xbq:Xcx) (Xb2:Xdx) (hS:Xak Tryz.prog (XaD (XJ1 Xbq Xb2))) (c:Xab) (res:(List UInt8)×Int×Xab) (h:XgW Xbq Xb2 c=some res) :
 XaF Tryz.prog 117 1 ⟨⟨117,16,[(0,.pointer (some ⟨0,0,none⟩))],[.code XIx],[],false,none⟩,[],[(0,.cells [.int .i64 c.t.Proto,.bool c.t.Src.V6,.int .u64 c.t.Src.Hi,.int .u64 c.t.Src.Lo,.bool c.t.Dst.V6,.int .u64 c.t.Dst.Hi,.int .u64 c.t.Dst.Lo,.int .i64 c.t.SPort,.int .i64 c.t.DPort,fvV c.v_.hello,fvV c.v_.say,fvV c.v_.hear,.int .u32 c.clock,.int .u32 c.echo,.string ⟨⟨c.id_⟩⟩])],1⟩ (fun v H _=>Res 1 (XGy res) v H):=by
 unfold XgW at h
 have R1:=@Xy2 Xb2
 have R2:=@XAk Xbq
 refine Xa4 XaC hS true 3000 ?_
 conv=>whnf
 exact W
def Xct:XcW:=XgW Xbq Xb2
theorem XMr:XbD Tryz.prog 117 (s117 Xct):=by
 have hL:=XD5 Xbq Xb2 (Xak.XaJ ⟨Xz6,XzD,trivial⟩)
 exact okA ⟨Tryz.f117,rfl,by decide,rfl⟩
end Go.Vm.Code
namespace Go.Vm
open Go Go.RowKit
theorem HpR.below {P:Program} {w0:World} {U:UG} {ρ:Ren} {H:Hp} {top:Nat} {w w':World} (h:HpR P w0 U ρ H top w) (b:Below w.heap.size w w'):HpR P w0 U ρ H top w':=
 ⟨fun i o e=>let ⟨l,hl,ho,hw⟩:=h.obj i o e;⟨l,hl,ho.same (Ext.refl ρ) (fun he=>b.block _ (ho.lt he)),hw⟩,h.dis,h.lt,h.keep.below b⟩
theorem XbD.XF8 {P:Program} {f:Nat} {run:List Value→List (Option (List Value))→Option XcU}
 (h:∀ ar r,run ar []=some r→∃ s k n v,ar=[.string s,.int k n]∧r=⟨v,[],[]⟩∧Xbk v=true∧∀ w,Calls P f ⟨ar⟩ w fun e w'=>e=.returned v∧Below w.heap.size w w')
 (hfn : ∃ fn, P.funcs[f]? = some fn ∧ fn.name ≠ "runtime.NumGoroutine" ∧ fn.body.isSome = true) : XbD P f ⟨[.v, .v], run⟩ where
 fn:=hfn
 calls:=by
  intro w0 U ρ H top w vals rvals v H' top' hlo hg hh hv hs
  unfold Xi3 at hs
  split at hs<;>try (cases hs;done)
  rename_i aqs os has
  obtain ⟨a,b,rfl,rfl,rfl⟩:∃ a b,vals=[a,b]∧aqs=[a,b]∧os=[]:=by
   match vals,has with
   | [],has=>cases has
   | [a],has=>simp only [Xdr] at has;split at has<;>cases has
   | [a,b],has=>
     simp only [Xdr,Xc0] at has
     by_cases h1:Xbk a=true<;>by_cases h2:Xbk b=true<;>simp [h1,h2] at has
     exact ⟨a,b,rfl,has.1.symm,has.2⟩
   | a::b::c::l,has=>
     simp only [Xdr,Xc0] at has
     by_cases h1:Xbk a=true<;>by_cases h2:Xbk b=true<;>simp [h1,h2] at has
  split at hs<;>try (cases hs;done)
  rename_i v0 new wr hrun
  obtain ⟨s,k,n,v1,e1,e2,e3,e4⟩:=h _ _ hrun
  cases e1;cases e2
  simp only [XkR,Xp6,List.append_nil,apartB,XdN,Xjd,XlH _ _ e3,Xlx,Xjv,List.length_nil,Nat.add_zero,Option.some.injEq,Prod.mk.injEq] at hs
  obtain ⟨rfl,rfl,rfl⟩:=hs
  obtain ⟨_,_,e5,h1,h2⟩:=hv.inv2
  cases h1;cases h2
  cases e5
  intro cs
  obtain ⟨e,w',fr,⟨rfl,hb⟩,c2⟩:=e4 w cs
  exact ⟨_,w',fr,⟨ρ,_,rfl,VR.flat ρ _ e3,hh.below hb,Ext.refl ρ⟩,c2⟩
end Go.Vm
namespace Go.Proofs
open Go.Shelf
def Tryz.lays105_ren:Go.Shelf.Ren:=⟨fun|105=>68|212=>111|99=>112|165=>113|166=>114|170=>115|169=>116|263=>155|264=>156|206=>157|240=>158|241=>159|276=>178|277=>179|n=>n,fun|9=>9|3=>3|4=>4|20=>20|0=>0|46=>61|109=>166|5=>5|72=>171|76=>175|51=>34|146=>214|53=>29|148=>216|70=>169|37=>154|75=>174|127=>218|164=>247|80=>75|n=>n,fun|n=>n⟩
theorem Tryz.lays105:Go.Proofs.Lays.n105 Tryz.prog Tryz.lays105_ren:={
 mixed:=by kernel_rfl
 f99:=Tryz.func112.trans (congrArg some (by kernel_rfl))
 f105:=Tryz.func68.trans (congrArg some (by kernel_rfl))
 f165:=Tryz.func113.trans (congrArg some (by kernel_rfl))
 f166:=Tryz.func114.trans (congrArg some (by kernel_rfl))
 f169:=Tryz.func116.trans (congrArg some (by kernel_rfl))
 f170:=Tryz.func115.trans (congrArg some (by kernel_rfl))
 f206:=Tryz.func157.trans (congrArg some (by kernel_rfl))
 f212:=Tryz.func111.trans (congrArg some (by kernel_rfl))
 f240:=Tryz.func158.trans (congrArg some (by kernel_rfl))
 f241:=Tryz.func159.trans (congrArg some (by kernel_rfl))
 f263:=Tryz.func155.trans (congrArg some (by kernel_rfl))
 f264:=Tryz.func156.trans (congrArg some (by kernel_rfl))
 f276:=Tryz.func178.trans (congrArg some (by kernel_rfl))
 f277:=Tryz.func179.trans (congrArg some (by kernel_rfl))
 t0:=Tryz.underlying0
 a0:=Tryz.isAgg0
 z0:=Tryz.sizeOf0
 v0:=Tryz.zeroValue0
 t3:=Tryz.underlying3
 a3:=Tryz.isAgg3
 z3:=Tryz.sizeOf3
 v3:=Tryz.zeroValue3
 t4:=Tryz.underlying4
 a4:=Tryz.isAgg4
 z4:=Tryz.sizeOf4
 v4:=Tryz.zeroValue4
 t5:=Tryz.underlying5
 a5:=Tryz.isAgg5
 z5:=Tryz.sizeOf5
 v5:=Tryz.zeroValue5
 t9:=Tryz.underlying9
 a9:=Tryz.isAgg9
 z9:=Tryz.sizeOf9
 v9:=Tryz.zeroValue9
 t20:=Tryz.underlying20
 a20:=Tryz.isAgg20
 z20:=Tryz.sizeOf20
 v20:=Tryz.zeroValue20
 t37:=Tryz.underlying154
 a37:=Tryz.isAgg154
 z37:=Tryz.sizeOf154
 v37:=Tryz.zeroValue154
 t46:=Tryz.underlying61
 a46:=Tryz.isAgg61
 z46:=Tryz.sizeOf61
 v46:=Tryz.zeroValue61
 t51:=Tryz.underlying34
 a51:=Tryz.isAgg34
 z51:=Tryz.sizeOf34
 v51:=Tryz.zeroValue34
 t53:=Tryz.underlying29
 a53:=Tryz.isAgg29
 z53:=Tryz.sizeOf29
 v53:=Tryz.zeroValue29
 t70:=Tryz.underlying169
 a70:=Tryz.isAgg169
 z70:=Tryz.sizeOf169
 v70:=Tryz.zeroValue169
 t72:=Tryz.underlying171
 a72:=Tryz.isAgg171
 z72:=Tryz.sizeOf171
 v72:=Tryz.zeroValue171
 t75:=Tryz.underlying174
 a75:=Tryz.isAgg174
 z75:=Tryz.sizeOf174
 v75:=Tryz.zeroValue174
 t76:=Tryz.underlying175
 a76:=Tryz.isAgg175
 z76:=Tryz.sizeOf175
 v76:=Tryz.zeroValue175
 t109:=Tryz.underlying166
 a109:=Tryz.isAgg166
 z109:=Tryz.sizeOf166
 v109:=Tryz.zeroValue166
 t127:=Tryz.underlying218
 a127:=Tryz.isAgg218
 z127:=Tryz.sizeOf218
 v127:=Tryz.zeroValue218
 t146:=Tryz.underlying214
 a146:=Tryz.isAgg214
 z146:=Tryz.sizeOf214
 v146:=Tryz.zeroValue214
 t148:=Tryz.underlying216
 a148:=Tryz.isAgg216
 z148:=Tryz.sizeOf216
 v148:=Tryz.zeroValue216
 t164:=Tryz.underlying247
 a164:=Tryz.isAgg247
 z164:=Tryz.sizeOf247
 v164:=Tryz.zeroValue247 }
theorem Tryz.Builder_Extra_105:Builder.Extra Tryz.prog Tryz.lays105_ren:={
 sizeBuilder:=by kernel_rfl
 liesBuilder:=by kernel_rfl
 t5:=Tryz.underlying5
 a5:=Tryz.isAgg5
 z5:=Tryz.sizeOf5
 v5:=Tryz.zeroValue5
 infoByte:=by kernel_rfl
 cellsByte:=by kernel_rfl
 sizeByte:=by kernel_rfl
 neB5:=by decide }
open Go.RowKit Go.Lib in
theorem Tryz.strings_Repeat (s:ByteArray) (c:Nat) (w:World) (hc:c≤9223372036854775807) (hlen:s.size*c≤140737488355328) :
 Calls Tryz.prog 68 #[.string s,.int .i64 c] w fun e w'=>e=.returned (.string ⟨(Lib.repeatL s.data.toList c).toArray⟩)∧Below w.heap.size w w':=Any.strings_Repeat Tryz.lays105 Tryz.Builder_Extra_105 s c w hc hlen
end Go.Proofs
namespace Go.Vm.Code
open Go Go.Vm Go.Proofs
set_option maxRecDepth 100000
set_option maxHeartbeats 4000000
set_option linter.unusedVariables false
def XgE (s:List UInt8) (count:Int):Option (List UInt8):=
 if 0≤count∧count≤2^47∧s.length*count.toNat≤2^47 then some (Lib.repeatL s count.toNat) else none
def rx68 (x:List UInt8):XcU:=⟨.string ⟨⟨x⟩⟩,[],[]⟩
abbrev XbP:=(List UInt8)→Int→Option (List UInt8)
def r68 (g:XbP):Dec:=dV asS fun (y0:List UInt8)=>dV (asI .i64) fun (y1:Int)=>Xd2 (ofG (g y0 y1) rx68)
theorem r68_c {g:XbP} {y0:List UInt8} {y1:Int} {x:List UInt8} (hx:g y0 y1=some x):r68 g [.string ⟨⟨y0⟩⟩,.int .i64 y1] []=some (rx68 x):=(XaO (Xd3)).trans ((XaO (Xen _)).trans (XaN hx))
def s68 (g:XbP):XbC:=⟨[.v,.v],r68 g⟩
theorem XyM {g:XbP} {y0:List UInt8} {y1:Int} {x:List UInt8} (hx:g y0 y1=some x):(s68 g).run [.string ⟨⟨y0⟩⟩,.int .i64 y1] []=some (rx68 x):=r68_c hx
abbrev XTl:List (Nat×XbC):=[]
theorem ok68 (_:Xak Tryz.prog (XaD XTl)):XbD Tryz.prog 68 (s68 XgE):=by
 refine XbD.XF8 (fun ar r hr=>?_) ⟨Tryz.f68,rfl,by decide,rfl⟩
 replace hr:r68 XgE ar []=some r:=hr
 unfold r68 at hr
 replace hr:=dV.elim hr;obtain ⟨v0,l1,y0,rfl,e0,hr⟩:=hr;obtain rfl:=XvZ _ _ e0
 replace hr:=dV.elim hr;obtain ⟨v1,l2,y1,rfl,e1,hr⟩:=hr;obtain rfl:=Xwb _ _ _ e1
 replace hr:=dFin hr;obtain ⟨rfl,_,x,h,rfl⟩:=hr
 obtain ⟨c,rfl⟩:∃ c:Nat,y1=c:=⟨y1.toNat,by unfold XgE at h;split at h;(· omega);cases h⟩
 refine ⟨_,_,_,_,rfl,rfl,rfl,fun w=>?_⟩
 unfold XgE at h;split at h
 ·rename_i hc
  cases h
  exact Tryz.strings_Repeat ⟨⟨y0⟩⟩ c w (by omega) (by show y0.length*c≤_;have:=hc.2.2;rw [Int.toNat_natCast] at this;omega)
 ·cases h
def strings_Repeat:XbP:=XgE
theorem XIJ:XbD Tryz.prog 68 (s68 strings_Repeat):=ok68 (Xak.XaJ trivial)
def Xhi (Xcw:Xds) (Xg2:XgI) (t:Xag) (ha1:Xay):Option ((List UInt8)×Int):=
 (Xg2 ha1).bind fun p=>
 cond (p.2 !=0)
  (
  some (([],p.2)))
  (
  (Xcw t p.1).bind fun d=>
  some ((d.1,d.2)))
def XGa (x:(List UInt8)×Int):XcU:=⟨.tuple ⟨[.string ⟨⟨x.1⟩⟩,.int .i64 x.2]⟩,[],[]⟩
abbrev Xck:=Xag→Xay→Option ((List UInt8)×Int)
def r123 (g:Xck):Dec:=dV Xet fun (y0:Xag)=>dV XiA fun (y1:Xay)=>Xd2 (ofG (g y0 y1) XGa)
theorem XU3 {g:Xck} {y0:Xag} {y1:Xay} {x:(List UInt8)×Int} (hx:g y0 y1=some x):r123 g [.agg ⟨[.int .i64 y0.Proto,.bool y0.Src.V6,.int .u64 y0.Src.Hi,.int .u64 y0.Src.Lo,.bool y0.Dst.V6,.int .u64 y0.Dst.Hi,.int .u64 y0.Dst.Lo,.int .i64 y0.SPort,.int .i64 y0.DPort]⟩,.agg ⟨[.bool y1.Long,.int .i64 y1.Bits,.int .u32 y1.Version,.string ⟨⟨y1.DCID⟩⟩,.string ⟨⟨y1.SCID⟩⟩,.string ⟨⟨y1.Rest⟩⟩]⟩] []=some (XGa x):=(XaO (Xev _)).trans ((XaO (Xkx _)).trans (XaN hx))
def s123 (g:Xck):XbC:=⟨[.v,.v],r123 g⟩
theorem XzX {g:Xck} {y0:Xag} {y1:Xay} {x:(List UInt8)×Int} (hx:g y0 y1=some x):(s123 g).run [.agg ⟨[.int .i64 y0.Proto,.bool y0.Src.V6,.int .u64 y0.Src.Hi,.int .u64 y0.Src.Lo,.bool y0.Dst.V6,.int .u64 y0.Dst.Hi,.int .u64 y0.Dst.Lo,.int .i64 y0.SPort,.int .i64 y0.DPort]⟩,.agg ⟨[.bool y1.Long,.int .i64 y1.Bits,.int .u32 y1.Version,.string ⟨⟨y1.DCID⟩⟩,.string ⟨⟨y1.SCID⟩⟩,.string ⟨⟨y1.Rest⟩⟩]⟩] []=some (XGa x):=XU3 hx
abbrev XNO (Xcw:Xds) (Xg2:XgI):List (Nat×XbC):=[(163,s163 Xcw),(162,s162 Xg2)]
theorem XCj (Xcw:Xds) (Xg2:XgI) (hS:Xak Tryz.prog (XaD (XNO Xcw Xg2))) (t:Xag) (ha1:Xay) (res:(List UInt8)×Int) (h:Xhi Xcw Xg2 t ha1=some res) :
 XaF Tryz.prog 123 0 ⟨⟨123,21,[(0,.agg ⟨[.int .i64 t.Proto,.bool t.Src.V6,.int .u64 t.Src.Hi,.int .u64 t.Src.Lo,.bool t.Dst.V6,.int .u64 t.Dst.Hi,.int .u64 t.Dst.Lo,.int .i64 t.SPort,.int .i64 t.DPort]⟩),(1,.agg ⟨[.bool ha1.Long,.int .i64 ha1.Bits,.int .u32 ha1.Version,.string ⟨⟨ha1.DCID⟩⟩,.string ⟨⟨ha1.SCID⟩⟩,.string ⟨⟨ha1.Rest⟩⟩]⟩)],[.code XBq],[],false,none⟩,[],[],0⟩ (fun v H _=>Res 0 (XGa res) v H):=by
 unfold Xhi at h
 have R1:=@XPu Xg2
 have R2:=@XQf Xcw
 refine Xa4 XaC hS true 3000 ?_
 conv=>whnf
 exact W
def Xa6:Xck:=Xhi Xcw Xg2
theorem XAe:XbD Tryz.prog 123 (s123 Xa6):=by
 have hL:=XCj Xcw Xg2 (Xak.XaJ ⟨XNg,XNt,trivial⟩)
 exact okA ⟨Tryz.f123,rfl,by decide,rfl⟩
def Xh4 (Xa6:Xck) (strings_Repeat:XbP) (c:Xab):Option ((List UInt8)×Int×Xab):=
 (strings_Repeat [0] 8).bind fun xr=>
 (Xa6 c.t (Xay.mk true 0 1 xr [0,0] [])).bind fun d=>
 some ((d.1,d.2,c))
def XD4 (x:(List UInt8)×Int×Xab):XcU:=⟨.tuple ⟨[.string ⟨⟨x.1⟩⟩,.int .i64 x.2.1]⟩,[],[some [.int .i64 x.2.2.t.Proto,.bool x.2.2.t.Src.V6,.int .u64 x.2.2.t.Src.Hi,.int .u64 x.2.2.t.Src.Lo,.bool x.2.2.t.Dst.V6,.int .u64 x.2.2.t.Dst.Hi,.int .u64 x.2.2.t.Dst.Lo,.int .i64 x.2.2.t.SPort,.int .i64 x.2.2.t.DPort,fvV x.2.2.v_.hello,fvV x.2.2.v_.say,fvV x.2.2.v_.hear,.int .u32 x.2.2.clock,.int .u32 x.2.2.echo,.string ⟨⟨x.2.2.id_⟩⟩]]⟩
abbrev XdM:=Xab→Option ((List UInt8)×Int×Xab)
def r122 (g:XdM):Dec:=dPt 0 XbQ fun (y0:Xab)=>Xd2 (ofG (g y0) XD4)
theorem XSp {g:XdM} {y0:Xab} {x:(List UInt8)×Int×Xab} (hx:g y0=some x):r122 g [.pointer (some ⟨0,0,none⟩)] [some [.int .i64 y0.t.Proto,.bool y0.t.Src.V6,.int .u64 y0.t.Src.Hi,.int .u64 y0.t.Src.Lo,.bool y0.t.Dst.V6,.int .u64 y0.t.Dst.Hi,.int .u64 y0.t.Dst.Lo,.int .i64 y0.t.SPort,.int .i64 y0.t.DPort,fvV y0.v_.hello,fvV y0.v_.say,fvV y0.v_.hear,.int .u32 y0.clock,.int .u32 y0.echo,.string ⟨⟨y0.id_⟩⟩]]=some (XD4 x):=(Xh1 (Xci _)).trans (XaN hx)
def s122 (g:XdM):XbC:=⟨[.pt 15],r122 g⟩
theorem XMh {g:XdM} {y0:Xab} {x:(List UInt8)×Int×Xab} (hx:g y0=some x):(s122 g).run [.pointer (some ⟨0,0,none⟩)] [some [.int .i64 y0.t.Proto,.bool y0.t.Src.V6,.int .u64 y0.t.Src.Hi,.int .u64 y0.t.Src.Lo,.bool y0.t.Dst.V6,.int .u64 y0.t.Dst.Hi,.int .u64 y0.t.Dst.Lo,.int .i64 y0.t.SPort,.int .i64 y0.t.DPort,fvV y0.v_.hello,fvV y0.v_.say,fvV y0.v_.hear,.int .u32 y0.clock,.int .u32 y0.echo,.string ⟨⟨y0.id_⟩⟩]]=some (XD4 x):=XSp hx
abbrev XJG (Xa6:Xck) (strings_Repeat:XbP):List (Nat×XbC):=[(123,s123 Xa6),(68,s68 strings_Repeat)]
theorem XEH (Xa6:Xck) (strings_Repeat:XbP) (hS:Xak Tryz.prog (XaD (XJG Xa6 strings_Repeat))) (c:Xab) (res:(List UInt8)×Int×Xab) (h:Xh4 Xa6 strings_Repeat c=some res) :
 XaF Tryz.prog 122 1 ⟨⟨122,13,[(0,.pointer (some ⟨0,0,none⟩))],[.code XIt],[],false,none⟩,[],[(0,.cells [.int .i64 c.t.Proto,.bool c.t.Src.V6,.int .u64 c.t.Src.Hi,.int .u64 c.t.Src.Lo,.bool c.t.Dst.V6,.int .u64 c.t.Dst.Hi,.int .u64 c.t.Dst.Lo,.int .i64 c.t.SPort,.int .i64 c.t.DPort,fvV c.v_.hello,fvV c.v_.say,fvV c.v_.hear,.int .u32 c.clock,.int .u32 c.echo,.string ⟨⟨c.id_⟩⟩])],1⟩ (fun v H _=>Res 1 (XD4 res) v H):=by
 unfold Xh4 at h
 have R1:=@XyM strings_Repeat
 have R2:=@XzX Xa6
 refine Xa4 XaC hS true 3000 ?_
 conv=>whnf
 exact W
def Xc6:XdM:=Xh4 Xa6 strings_Repeat
theorem XPQ:XbD Tryz.prog 122 (s122 Xc6):=by
 have hL:=XEH Xa6 strings_Repeat (Xak.XaJ ⟨XAe,XIJ,trivial⟩)
 exact okA ⟨Tryz.f122,rfl,by decide,rfl⟩
end Go.Vm.Code
