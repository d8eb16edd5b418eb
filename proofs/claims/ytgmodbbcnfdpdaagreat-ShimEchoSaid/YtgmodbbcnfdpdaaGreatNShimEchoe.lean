import Derived.Test.YtgmodbbcnfdpdaaGreatNShimEchod
namespace Go.Vm.Code
open Go Go.Vm Go.Proofs
set_option maxRecDepth 100000
set_option maxHeartbeats 4000000
set_option linter.unusedVariables false
def Xol (Xat:Xbm) (Xb9:Xc4) (Xbr:Xct) (XcU:XdR) (s:List UInt8) (src:Xab) (dst:Xab):Option (XaI×(List UInt8)×Int):=
 cond (decide ((s.length:Int)<20))
  (
  some ((XaI.mk 0 0 0 0 0 0 0 [],[],2)))
  (
  (s[12]?).bind fun (b:UInt8)=>
  let t:=wI .i64 (wI .u8 ((b.toNat:Int).tdiv 16))
  cond (decide ((wI .i64 (4*t))<20))
   (
   some ((XaI.mk 0 0 0 0 0 0 0 [],[],3)))
   (
   (s[12]?).bind fun (b1:UInt8)=>
   cond (((b1.toNat:Int).tmod 16) !=0)
    (
    some ((XaI.mk 0 0 0 0 0 0 0 [],[],3)))
    (
    let t1:=decide ((s.length:Int)<(wI .i64 (4*t)))
    cond (t1)
     (
     some ((XaI.mk 0 0 0 0 0 0 0 [],[],2)))
     (
     (Xbr src dst 6 (s.length:Int)).bind fun p=>
     cond (p==[])
      (
      some ((XaI.mk 0 0 0 0 0 0 0 [],[],1)))
      (
      Xa9 (decide (p.length+s.length<2^63)) <|
      (Xb9 (p++s)).bind fun s1=>
      cond (s1 !=65535)
       (
       some ((XaI.mk 0 0 0 0 0 0 0 [],[],4)))
       (
       Xa9 (decide ((0:Int)≤(wI .i64 (4*t))∧(wI .i64 (4*t))≤(s.length:Int)∧(0:Int)≤(20:Int)∧(20:Int)≤((wI .i64 (4*t)).toNat:Int))) <|
       let t2:=(s.drop 20).take ((wI .i64 (4*t)).toNat - 20)
       (XcU t2).bind fun l=>
       cond (l.2 !=0)
        (
        some ((XaI.mk 0 0 0 0 0 0 0 [],[],l.2)))
        (
        (Xat s 0 2).bind fun m=>
        (Xat s 2 2).bind fun m1=>
        (Xat s 4 4).bind fun m2=>
        (Xat s 8 4).bind fun m3=>
        (s[13]?).bind fun (b2:UInt8)=>
        (Xat s 14 2).bind fun m4=>
        (Xat s 18 2).bind fun m5=>
        Xa9 (decide ((0:Int)≤(wI .i64 (4*t))∧(wI .i64 (4*t))≤(s.length:Int)∧(0:Int)≤(20:Int)∧(20:Int)≤((wI .i64 (4*t)).toNat:Int))) <|
        let t3:=(s.drop 20).take ((wI .i64 (4*t)).toNat - 20)
        Xa9 (decide ((0:Int)≤(wI .i64 (4*t))∧(wI .i64 (4*t))≤(s.length:Int))) <|
        let t4:=(s.drop (wI .i64 (4*t)).toNat).take (s.length - (wI .i64 (4*t)).toNat)
        some ((XaI.mk m m1 (wI .u32 m2) (wI .u32 m3) (wI .i64 (b2.toNat:Int)) m4 m5 t3,t4,0)))))))))
def rx82 (x:XaI×(List UInt8)×Int):Xcu:=⟨.tuple ⟨[.agg ⟨[.int .i64 x.1.SPort,.int .i64 x.1.DPort,.int .u32 x.1.Seq,.int .u32 x.1.Ack,.int .i64 x.1.Flags,.int .i64 x.1.Window,.int .i64 x.1.Urgent,.string ⟨⟨x.1.Options⟩⟩]⟩,.string ⟨⟨x.2.1⟩⟩,.int .i64 x.2.2]⟩,[],[]⟩
abbrev XgJ:=(List UInt8)→Xab→Xab→Option (XaI×(List UInt8)×Int)
def r82 (g:XgJ):Dec:=dV asS fun (y0:List UInt8)=>dV Xcl fun (y1:Xab)=>dV Xcl fun (y2:Xab)=>Xdm (ofG (g y0 y1 y2) rx82)
theorem r82_c {g:XgJ} {y0:List UInt8} {y1:Xab} {y2:Xab} {x:XaI×(List UInt8)×Int} (hx:g y0 y1 y2=some x):r82 g [.string ⟨⟨y0⟩⟩,.agg ⟨[.bool y1.V6,.int .u64 y1.Hi,.int .u64 y1.Lo]⟩,.agg ⟨[.bool y2.V6,.int .u64 y2.Hi,.int .u64 y2.Lo]⟩] []=some (rx82 x):=(XaY (XcY)).trans ((XaY (Xb8 _)).trans ((XaY (Xb8 _)).trans (XaX hx)))
def s82 (g:XgJ):Xbs:=⟨[.v,.v,.v],r82 g⟩
theorem XSL {g:XgJ} {y0:List UInt8} {y1:Xab} {y2:Xab} {x:XaI×(List UInt8)×Int} (hx:g y0 y1 y2=some x):(s82 g).run [.string ⟨⟨y0⟩⟩,.agg ⟨[.bool y1.V6,.int .u64 y1.Hi,.int .u64 y1.Lo]⟩,.agg ⟨[.bool y2.V6,.int .u64 y2.Hi,.int .u64 y2.Lo]⟩] []=some (rx82 x):=r82_c hx
abbrev XQn (Xat:Xbm) (Xb9:Xc4) (Xbr:Xct) (XcU:XdR):List (Nat×Xbs):=[(62,s62 Xat),(60,s60 Xb9),(77,s77 Xbr),(112,s112 XcU)]
theorem XHq (Xat:Xbm) (Xb9:Xc4) (Xbr:Xct) (XcU:XdR) (hS:Xal Tryz.prog (XaE (XQn Xat Xb9 Xbr XcU))) (s:List UInt8) (src:Xab) (dst:Xab) (res:XaI×(List UInt8)×Int) (h:Xol Xat Xb9 Xbr XcU s src dst=some res) :
 XaK Tryz.prog 82 0 ⟨⟨82,85,[(0,.string ⟨⟨s⟩⟩),(1,.agg ⟨[.bool src.V6,.int .u64 src.Hi,.int .u64 src.Lo]⟩),(2,.agg ⟨[.bool dst.V6,.int .u64 dst.Hi,.int .u64 dst.Lo]⟩)],[.code XFw],[],false,none⟩,[],[],0⟩ (fun v H _=>Res 0 (rx82 res) v H):=by
 unfold Xol at h
 have R1:=@XAq Xbr
 have R2:=@XvM Xb9
 have R3:=@XzQ XcU
 have R4:=@Xn4 Xat
 refine Xbg XaJ hS true 3000 ?_
 conv=>whnf
 exact W
def Xhx:XgJ:=Xol Xat Xb9 Xbr XcU
theorem XNw:XbA Tryz.prog 82 (s82 Xhx):=by
 have hL:=XHq Xat Xb9 Xbr XcU (Xal.XaV ⟨XpN,Xvr,Xyf,Xxm,trivial⟩)
 exact okA ⟨Tryz.f82,rfl,by decide,rfl⟩
end Go.Vm.Code
namespace Go.Vm.Code
open Go Go.Vm
def H7 (h:XaI):Bool:=inR h.SPort 65535&&inR h.DPort 65535&&inR h.Window 65535&&inR h.Urgent 65535&&inR h.Flags 255&&decide (h.Options.length%4=0)&&decide (h.Options.length≤40)
theorem XGy {h:XaI} (hh:H7 h=true):(0≤h.SPort∧h.SPort≤65535)∧(0≤h.DPort∧h.DPort≤65535)∧(0≤h.Window∧h.Window≤65535)∧(0≤h.Urgent∧h.Urgent≤65535)∧(0≤h.Flags∧h.Flags≤255)∧h.Options.length%4=0∧h.Options.length≤40:=by
 unfold H7 at hh
 simp only [Bool.and_eq_true,Xt1,decide_eq_true_eq] at hh
 obtain ⟨⟨⟨⟨⟨⟨a,b⟩,c⟩,d⟩,e⟩,f⟩,g⟩:=hh
 exact ⟨a,b,c,d,e,f,g⟩
def W7 (h:XaI):Prop:=(0≤h.Seq∧h.Seq<4294967296)∧0≤h.Ack∧h.Ack<4294967296
def ha7 (h:XaI):List UInt8:=be h.SPort.toNat 2++be h.DPort.toNat 2++be h.Seq.toNat 4++be h.Ack.toNat 4++be (4*(20+h.Options.length)) 1++be h.Flags.toNat 1++be h.Window.toNat 2
def hc7 (h:XaI) (c:Nat):List UInt8:=ha7 h++(be c 2++(be h.Urgent.toNat 2++h.Options))
theorem Xue (h:XaI):(ha7 h).length=16:=by simp [ha7]
theorem Xty (h:XaI) (c:Nat):(hc7 h c).length=20+h.Options.length:=by simp [hc7,Xue];omega
theorem Xrm (h:XaI) (c:Nat) (l:List UInt8):hc7 h c++l=ha7 h++(be c 2++(be h.Urgent.toNat 2++(h.Options++l))):=by simp only [hc7,List.append_assoc]
def ck7 (p:List UInt8) (h:XaI) (l:List UInt8):Nat:=ckN (XcA (p++(hc7 h 0++l)))
theorem XHA {p:List UInt8} (hp:p.length%2=0) (h:XaI) (l:List UInt8) {c:Nat} (hc:c<65536):XcA (p++(hc7 h c++l))=XcA (p++(hc7 h 0++l))+c:=by
 have e:∀ x,p++(hc7 h x++l)=(p++ha7 h)++(be x 2++(be h.Urgent.toNat 2++(h.Options++l))):=fun x=>by rw [Xrm,List.append_assoc]
 rw [e,e,XDo (by rw [List.length_append,Xue];omega) hc]
theorem XPC {p:List UInt8} (hp:p.length%2=0) (h:XaI) (l:List UInt8):ck7 p h l≤65535∧XcA (p++(hc7 h (ck7 p h l)++l))%65535=0∧XcA (p++(hc7 h (ck7 p h l)++l))≠0:=by
 have:=XRw (XcA (p++(hc7 h 0++l)))
 rw [XHA hp h l (by unfold ck7;omega)]
 exact this
def Xp6 (h:XaI) (src dst:Xab) (l:List UInt8):List UInt8×Int:=
 if H7 h=false then ([],1) else if XjP src dst 6 (20+h.Options.length+l.length)=[] then ([],1) else if 65535 - (20+(h.Options.length:Int))<l.length then ([],5) else
  (hc7 h (ck7 (XjP src dst 6 (20+h.Options.length+l.length)) h l)++l,0)
def Xp8:XaI:=⟨0,0,0,0,0,0,0,[]⟩
def XgQ (s:List UInt8) (src dst:Xab):XaI×List UInt8×Int:=
 if s.length<20 then (Xp8,[],2) else if 4*(vK s 12 1/16)<20 then (Xp8,[],3) else if vK s 12 1%16≠0 then (Xp8,[],3) else if (s.length:Int)<4*(vK s 12 1/16) then (Xp8,[],2) else
  if XjP src dst 6 s.length=[] then (Xp8,[],1) else if norm (XcA (XjP src dst 6 s.length++s))≠65535 then (Xp8,[],4) else
   if (Xjt ((s.drop 20).take ((4*(vK s 12 1/16)).toNat - 20))).2≠0 then (Xp8,[],(Xjt ((s.drop 20).take ((4*(vK s 12 1/16)).toNat - 20))).2) else
   (⟨vK s 0 2,vK s 2 2,vK s 4 4,vK s 8 4,vK s 13 1,vK s 14 2,vK s 18 2,(s.drop 20).take ((4*(vK s 12 1/16)).toNat - 20)⟩,s.drop (4*(vK s 12 1/16)).toNat,0)
theorem XTg (h:XaI):Xd9 h.SPort 2++Xd9 h.DPort 2++Xd9 h.Seq 4++Xd9 h.Ack 4++Xd9 (4*(20+(h.Options.length:Int))) 1++Xd9 h.Flags 1++Xd9 h.Window 2++Xd9 0 2++Xd9 h.Urgent 2++h.Options=hc7 h 0:=by
 have p4:∀ n:Int,Xd9 n 4=be n.toNat 4:=fun n=>Xfn (k:=4) (by omega)
 have p2:∀ n:Int,Xd9 n 2=be n.toNat 2:=fun n=>Xfn (k:=2) (by omega)
 have p1:∀ n:Int,Xd9 n 1=be n.toNat 1:=fun n=>Xfn (k:=1) (by omega)
 simp only [p4,p2,p1,show (4*(20+(h.Options.length:Int))).toNat=4*(20+h.Options.length) by omega,show (0:Int).toNat=0 from rfl]
 simp only [hc7,ha7,List.append_assoc]
theorem XAt {p t:List UInt8} {A B:List UInt8} (ht:t=A++(be 0 2++B)) (hA:A.length=16) (hl:p.length<2^30) (hl2:t.length<2^30):((Xde (p++t)).bind fun xo=>(Xci t 16 2 (wI .u64 xo)).bind fun s=>some (s,(0:Int)))=some (A++(be (ckN (XcA (p++t))) 2++B),0):=by
 have n:=norm_le (XcA (p++t))
 rw [XpU (by rw [List.length_append];omega),Option.bind_some,XjF (by omega) (by omega),Xnd (by omega) (by omega) (by omega),Option.bind_some]
 have:=XBD (A:=A) (B:=B) (p:=16) (c:=65535 - ((norm (XcA (p++t)):Nat):Int)) hA
 rw [←ht] at this
 rw [show ((16:Nat):Int)=16 from rfl] at this
 rw [this]
 unfold ckN
 rw [show (65535 - ((norm (XcA (p++t)):Nat):Int)).toNat=65535 - norm (XcA (p++t)) by omega]
theorem XS6 (n m:Int):Xh4 n m=some (inR n m):=by
 unfold Xh4 Xrq inR
 by_cases h:0≤n
 ·rw [Xa2 (by omega)];simp [h]
 ·rw [XaQ (by omega)];simp [h]
theorem Xyu (h:XaI):XeL h=some (H7 h):=by
 unfold XeL XkS H7
 simp only [XS6,Option.bind_some,Xzf,XE1]
 cases inR h.SPort 65535<;>cases inR h.DPort 65535<;>cases inR h.Window 65535<;>cases inR h.Urgent 65535<;>cases inR h.Flags 255<;>cases decide (h.Options.length%4=0)<;>cases decide (h.Options.length≤40)<;>rfl
theorem XG0 (n k:Int):XcE n k=some (Xd9 (wI .u64 n) k):=by
 unfold XcE XmE
 rw [Xem (Xoc n).1 (Xoc n).2];rfl
theorem XDK {h:XaI} {src dst:Xab} {l:List UInt8} (hw:W7 h) (h1:A4 src) (h2:A4 dst) (hl:l.length<2^20) (ho:h.Options.length<2^20):Xhy h src dst l=some (Xp6 h src dst l):=by
 unfold Xhy Xot Xp6
 simp only []
 rw [Xc5 (n:=20+(h.Options.length:Int)) (by omega) (by omega),Xc5 (n:=20+(h.Options.length:Int)+l.length) (by omega) (by omega),Xny h1 h2 (by omega) (by omega),Option.bind_some,Xyu,Option.bind_some]
 have hp:=Xmb src dst 6 (20+(h.Options.length:Int)+l.length)
 generalize XjP src dst 6 (20+(h.Options.length:Int)+l.length)=p at *
 cases hh:H7 h
 ·rfl
 rw [Bool.not_true,cond_false,if_neg (by decide)]
 by_cases e3:p=[]
 ·subst e3;rfl
 rw [show (p==[])=false by simpa using e3,cond_false,if_neg e3,Xc5 (n:=65535 - (20+(h.Options.length:Int))) (by omega) (by omega)]
 by_cases h5:(l.length:Int)>65535 - (20+(h.Options.length:Int))
 ·rw [Xa2 h5,if_pos (by omega)]
 rw [XaQ h5,if_neg (by omega)]
 obtain ⟨q1,q2,q3,q4,q5,q6,q7⟩:=XGy hh
 obtain ⟨w1,w2⟩:=hw
 simp only [XG0,Option.bind_some]
 rw [Xc5 (n:=h.Seq) (by omega) (by omega),Xc5 (n:=h.Ack) (by omega) (by omega),Xc5 (n:=4*(20+(h.Options.length:Int))) (by omega) (by omega),XjF q1.1 (by omega),XjF q2.1 (by omega),XjF w1.1 (by omega),XjF w2.1 (by omega),XjF (n:=4*(20+(h.Options.length:Int))) (by omega) (by omega),XjF q5.1 (by omega),XjF q3.1 (by omega),XjF q4.1 (by omega),show wI .u64 0=0 from rfl]
 have hd:=XTg h
 have a1:=Xbu h.SPort 2
 have a2:=Xbu h.DPort 2
 have a3:=Xbu h.Seq 4
 have a4:=Xbu h.Ack 4
 have a5:=Xbu (4*(20+(h.Options.length:Int))) 1
 have a6:=Xbu h.Flags 1
 have a7:=Xbu h.Window 2
 have a8:=Xbu 0 2
 have a9:=Xbu h.Urgent 2
 have hlen:=Xty h 0
 iterate 10 rw [XaC (by first|omega|(simp only [List.length_append];omega))]
 rw [hd,XaC (by simp only [List.length_append];omega)]
 have:=XAt (p:=p) (t:=hc7 h 0++l) (Xrm h 0 l) (Xue h) (by omega) (by simp only [List.length_append];omega)
 rw [this]
 unfold ck7
 rw [Xrm h (ckN _) l]
theorem XwO {s:List UInt8} {n:Nat} (hs:s.length<2^38) (h20:20≤n) (hn:n≤s.length):Xd3 s (n:Int)=some ⟨vK s 0 2,vK s 2 2,vK s 4 4,vK s 8 4,vK s 13 1,vK s 14 2,vK s 18 2,(s.drop 20).take (n - 20)⟩:=by
 unfold Xd3 XjW
 have N:∀ (p k:Nat),1≤k→k≤7→p+k≤20→Xaa ⟨s.drop p,true,false⟩ (k:Int)=some (vK s p k,⟨s.drop (p+k),true,false⟩):=fun p k a b c=>XF6 a b (by omega) (by omega)
 have N0:Xaa ⟨s,true,false⟩ 2=some (vK s 0 2,⟨s.drop 2,true,false⟩):=N 0 2 (by omega) (by omega) (by omega)
 have N2:Xaa ⟨s.drop 2,true,false⟩ 2=some (vK s 2 2,⟨s.drop 4,true,false⟩):=N 2 2 (by omega) (by omega) (by omega)
 have N4:Xaa ⟨s.drop 4,true,false⟩ 4=some (vK s 4 4,⟨s.drop 8,true,false⟩):=N 4 4 (by omega) (by omega) (by omega)
 have N8:Xaa ⟨s.drop 8,true,false⟩ 4=some (vK s 8 4,⟨s.drop 12,true,false⟩):=N 8 4 (by omega) (by omega) (by omega)
 have N12:Xaa ⟨s.drop 12,true,false⟩ 2=some (vK s 12 2,⟨s.drop 14,true,false⟩):=N 12 2 (by omega) (by omega) (by omega)
 have N14:Xaa ⟨s.drop 14,true,false⟩ 2=some (vK s 14 2,⟨s.drop 16,true,false⟩):=N 14 2 (by omega) (by omega) (by omega)
 have N16:Xaa ⟨s.drop 16,true,false⟩ 2=some (vK s 16 2,⟨s.drop 18,true,false⟩):=N 16 2 (by omega) (by omega) (by omega)
 have N18:Xaa ⟨s.drop 18,true,false⟩ 2=some (vK s 18 2,⟨s.drop 20,true,false⟩):=N 18 2 (by omega) (by omega) (by omega)
 have r4:=XeH s 4 4 4294967296 (by decide)
 have r8:=XeH s 8 4 4294967296 (by decide)
 have r12:=XeH s 12 2 65536 (by decide)
 rw [XlK,Option.bind_some,N0,Option.bind_some]
 simp only []
 rw [N2,Option.bind_some]
 simp only []
 rw [N4,Option.bind_some]
 simp only []
 rw [N8,Option.bind_some]
 simp only []
 rw [N12,Option.bind_some]
 simp only []
 rw [N14,Option.bind_some]
 simp only []
 rw [N16,Option.bind_some]
 simp only []
 rw [N18,Option.bind_some]
 simp only []
 rw [Xc5 (n:=(n:Int) - 20) (by omega) (by omega),show (n:Int) - 20=((n - 20:Nat):Int) by omega,Xry (by omega),Option.bind_some,Xvh r4.1 r4.2,Xvh r8.1 r8.2,XiJ 8 (by decide) (by omega) (by omega) (by omega)]
 have e12:vK s 12 2=(s[12].toNat*256+s[13].toNat:Int):=XzI (s:=s) (p:=12) (by omega)
 have e13:=Xkg (s:=s) (p:=13) (by omega)
 have b13:=s[13].toNat_lt
 rw [show vK s 12 2%2^8=vK s 13 1 by rw [e12,e13];omega]
theorem and15:∀ x:Fin 256,Xl7 .u8 ((x.val:Nat):Int) 15=((x.val:Nat):Int)%16:=by decide +kernel
theorem XBv {s:List UInt8} {src dst:Xab} (h1:A4 src) (h2:A4 dst) (hs:s.length<2^19):XhE s src dst=some (XgQ s src dst):=by
 unfold XhE Xoh XgQ
 have hz:(⟨0,0,0,0,0,0,0,[]⟩:XaI)=Xp8:=rfl
 rw [hz]
 by_cases h0:s.length<20
 ·rw [Xa2 (by omega),if_pos h0]
 rw [XaQ (by omega),if_neg h0,List.getElem?_eq_getElem (show 12<s.length by omega)]
 have e12:=Xkg (s:=s) (p:=12) (by omega)
 have r12:=XeH s 12 1 256 (by decide)
 have hb:=s[12].toNat_lt
 simp only [Option.bind_some]
 rw [←e12,Xs8,show ((2:Int)^4)=16 from rfl,Xc5 (n:=vK s 12 1/16) (by omega) (by omega),Xc5 (n:=4*(vK s 12 1/16)) (by omega) (by omega)]
 have ea:Xl7 .u8 (vK s 12 1) 15=vK s 12 1%16:=by
  rw [e12];exact and15 ⟨s[12].toNat,hb⟩
 rw [ea]
 obtain ⟨t,ht⟩:=Int.eq_ofNat_of_zero_le (show 0≤4*(vK s 12 1/16) by omega)
 rw [ht]
 simp only [Int.toNat_natCast]
 by_cases g2:(t:Int)<20
 ·rw [Xa2 g2,if_pos g2]
 rw [XaQ g2,if_neg g2]
 by_cases g3:vK s 12 1%16=0
 ·rw [show (vK s 12 1%16 !=0)=false by simpa using g3,cond_false,if_neg (by simpa using g3)]
  by_cases g4:(s.length:Int)<t
  ·rw [Xa2 (by omega),if_pos g4]
  rw [XaQ (by omega),if_neg g4,Xsa h1 h2 (by omega) (by omega),Option.bind_some]
  have hp:=Xmb src dst 6 (s.length:Int)
  generalize XjP src dst 6 (s.length:Int)=p at *
  by_cases e3:p=[]
  ·subst e3;rfl
  rw [show (p==[])=false by simpa using e3,cond_false,if_neg e3,XaC (by omega),XoH (by simp only [List.length_append];omega),Option.bind_some]
  by_cases g5:norm (XcA (p++s))=65535
  ·rw [if_neg (by simpa using g5),g5,show ((((65535:Nat):Int)==65535))=true from rfl,Bool.not_true,cond_false,XwO (by omega) (by omega) (by omega),Option.bind_some,XPO (by simp;omega),Option.bind_some]
   by_cases g6:(Xjt ((s.drop 20).take (t - 20))).2=0
   ·rw [if_neg (by simpa using g6)]
    simp only [g6,bne_self_eq_false,cond_false]
    rw [XaC (by omega),List.take_of_length_le (i:=s.length - t) (by simp)]
   ·rw [if_pos (by simpa using g6),show ((Xjt ((s.drop 20).take (t - 20))).2 !=0)=true by simpa using g6];rfl
  ·rw [if_pos (by simpa using g5),show ((((norm (XcA (p++s)):Nat):Int)==65535))=false by simp;omega];rfl
 ·rw [show (vK s 12 1%16 !=0)=true by simpa using g3,cond_true,if_pos (by simpa using g3)]
theorem XA2 {s:List UInt8} {src dst:Xab} (h1:A4 src) (h2:A4 dst) (hs:s.length<2^19):Xhx s src dst=some (XgQ s src dst):=by
 unfold Xhx Xol XgQ
 have hz:(⟨0,0,0,0,0,0,0,[]⟩:XaI)=Xp8:=rfl
 rw [hz]
 by_cases h0:s.length<20
 ·rw [Xa2 (by omega),if_pos h0]
 rw [XaQ (by omega),if_neg h0,List.getElem?_eq_getElem (show 12<s.length by omega),List.getElem?_eq_getElem (show 13<s.length by omega)]
 have e12:=Xkg (s:=s) (p:=12) (by omega)
 have e13:=Xkg (s:=s) (p:=13) (by omega)
 have r12:=XeH s 12 1 256 (by decide)
 have r13:=XeH s 13 1 256 (by decide)
 have r4:=XeH s 4 4 4294967296 (by decide)
 have r8:=XeH s 8 4 4294967296 (by decide)
 simp only [Option.bind_some]
 rw [←e12,←e13,Int.tmod_eq_emod_of_nonneg r12.1,Int.tdiv_eq_ediv_of_nonneg r12.1,wU8 (n:=vK s 12 1/16) (by omega) (by omega),Xc5 (n:=vK s 12 1/16) (by omega) (by omega),Xc5 (n:=4*(vK s 12 1/16)) (by omega) (by omega),Xc5 (n:=vK s 13 1) (by omega) (by omega)]
 obtain ⟨t,ht⟩:=Int.eq_ofNat_of_zero_le (show 0≤4*(vK s 12 1/16) by omega)
 rw [ht]
 simp only [Int.toNat_natCast]
 by_cases g2:(t:Int)<20
 ·rw [Xa2 g2,if_pos g2]
 rw [XaQ g2,if_neg g2]
 by_cases g3:vK s 12 1%16=0
 ·rw [show (vK s 12 1%16 !=0)=false by simpa using g3,cond_false,if_neg (by simpa using g3)]
  by_cases g4:(s.length:Int)<t
  ·rw [Xa2 (by omega),if_pos g4]
  rw [XaQ (by omega),if_neg g4,Xny h1 h2 (by omega) (by omega),Option.bind_some]
  have hp:=Xmb src dst 6 (s.length:Int)
  generalize XjP src dst 6 (s.length:Int)=p at *
  by_cases e3:p=[]
  ·subst e3;rfl
  rw [show (p==[])=false by simpa using e3,cond_false,if_neg e3,XaC (by omega),Xk2 (by simp only [List.length_append];omega),Option.bind_some]
  by_cases g5:norm (XcA (p++s))=65535
  ·rw [if_neg (by simpa using g5),g5,show ((((65535:Nat):Int) !=65535))=false from rfl,cond_false,XaC (by omega),XNN (by simp;omega),Option.bind_some]
   by_cases g6:(Xjt ((s.drop 20).take (t - 20))).2=0
   ·rw [if_neg (by simpa using g6)]
    simp only [g6,bne_self_eq_false,cond_false]
    have M:∀ (p k:Nat),1≤k→k≤7→p+k≤20→Xat s (p:Int) (k:Int)=some (vK s p k):=fun p k a b c=>XqY (by omega) a b (by omega)
    have M0:Xat s 0 2=some (vK s 0 2):=M 0 2 (by omega) (by omega) (by omega)
    have M2:Xat s 2 2=some (vK s 2 2):=M 2 2 (by omega) (by omega) (by omega)
    have M4:Xat s 4 4=some (vK s 4 4):=M 4 4 (by omega) (by omega) (by omega)
    have M8:Xat s 8 4=some (vK s 8 4):=M 8 4 (by omega) (by omega) (by omega)
    have M14:Xat s 14 2=some (vK s 14 2):=M 14 2 (by omega) (by omega) (by omega)
    have M18:Xat s 18 2=some (vK s 18 2):=M 18 2 (by omega) (by omega) (by omega)
    rw [M0,M2,M4,M8,M14,M18]
    simp only [Option.bind_some]
    rw [XaC (by omega),XaC (by omega),List.take_of_length_le (i:=s.length - t) (by simp),Xvh r4.1 r4.2,Xvh r8.1 r8.2]
   ·rw [if_pos (by simpa using g6),show ((Xjt ((s.drop 20).take (t - 20))).2 !=0)=true by simpa using g6];rfl
  ·rw [if_pos (by simpa using g5),show ((((norm (XcA (p++s)):Nat):Int) !=65535))=true by simp;omega];rfl
 ·rw [show (vK s 12 1%16 !=0)=true by simpa using g3,cond_true,if_pos (by simpa using g3)]
theorem XfQ (r:Xah) (k:Int):(rdr r k).s.length≤r.s.length:=by unfold rdr;split<;>simp
def b1 (s:List UInt8) (i:Nat):Nat:=XdH ((s.drop i).take 1)
theorem XGo {s:List UInt8} {i:Nat} (h:i<s.length):b1 s i=s[i].toNat:=by
 unfold b1
 rw [List.drop_eq_getElem_cons h]
 show XdH [s[i]]=_
 rw [XfL];simp
theorem XAp (s:List UInt8) (i:Nat):b1 s i<256:=Xc9 _ (by decide)
end Go.Vm.Code
namespace Go.Vm.Code
open Go Go.Vm Go.Proofs
set_option maxRecDepth 100000
set_option maxHeartbeats 4000000
set_option linter.unusedVariables false
def XoI (XaN:XbO) (Xbv:Xcm) (XaO:XbC) (Xai:XaM) (Xaa:XaD) (s:List UInt8) (src:Xab) (dst:Xab):Option (Xbw×(List UInt8)×Int):=
 (XaO s).bind fun n=>
 (Xaa n 2).bind fun n1=>
 (Xaa n1.2 2).bind fun n2=>
 (Xaa n2.2 2).bind fun n3=>
 (Xaa n3.2 2).bind fun n4=>
 (Xai n4.2).bind fun b=>
 cond (b.1)
  (
  some ((Xbw.mk 0 0,[],2)))
  (
  cond (decide (n3.1<8))
   (
   some ((Xbw.mk 0 0,[],3)))
   (
   cond (decide (n3.1>(s.length:Int)))
    (
    some ((Xbw.mk 0 0,[],2)))
    (
    (Xbv src dst 17 n3.1).bind fun p=>
    cond (p==[])
     (
     some ((Xbw.mk 0 0,[],1)))
     (
     cond (n4.1==0)
      (
      cond (src.V6)
       (
       some ((Xbw.mk 0 0,[],4)))
       (
       cond (n4.1 !=0)
        (
        Xa9 (decide ((0:Int)≤n3.1∧n3.1≤(s.length:Int))) <|
        Xa9 (decide (p.length+(s.take n3.1.toNat).length<2^63)) <|
        (XaN (p++(s.take n3.1.toNat))).bind fun xr=>
        cond (!xr)
         (
         some ((Xbw.mk 0 0,[],4)))
         (
         Xa9 (decide ((0:Int)≤n3.1∧n3.1≤(s.length:Int)∧(0:Int)≤(8:Int)∧(8:Int)≤(n3.1.toNat:Int))) <|
         some ((Xbw.mk n1.1 n2.1,(s.drop 8).take (n3.1.toNat - 8),0))))
        (
        Xa9 (decide ((0:Int)≤n3.1∧n3.1≤(s.length:Int)∧(0:Int)≤(8:Int)∧(8:Int)≤(n3.1.toNat:Int))) <|
        some ((Xbw.mk n1.1 n2.1,(s.drop 8).take (n3.1.toNat - 8),0)))))
      (
      cond (n4.1 !=0)
       (
       Xa9 (decide ((0:Int)≤n3.1∧n3.1≤(s.length:Int))) <|
       Xa9 (decide (p.length+(s.take n3.1.toNat).length<2^63)) <|
       (XaN (p++(s.take n3.1.toNat))).bind fun xr1=>
       cond (!xr1)
        (
        some ((Xbw.mk 0 0,[],4)))
        (
        Xa9 (decide ((0:Int)≤n3.1∧n3.1≤(s.length:Int)∧(0:Int)≤(8:Int)∧(8:Int)≤(n3.1.toNat:Int))) <|
        some ((Xbw.mk n1.1 n2.1,(s.drop 8).take (n3.1.toNat - 8),0))))
       (
       Xa9 (decide ((0:Int)≤n3.1∧n3.1≤(s.length:Int)∧(0:Int)≤(8:Int)∧(8:Int)≤(n3.1.toNat:Int))) <|
       some ((Xbw.mk n1.1 n2.1,(s.drop 8).take (n3.1.toNat - 8),0))))))))
def XDn (x:Xbw×(List UInt8)×Int):Xcu:=⟨.tuple ⟨[.agg ⟨[.int .i64 x.1.SPort,.int .i64 x.1.DPort]⟩,.string ⟨⟨x.2.1⟩⟩,.int .i64 x.2.2]⟩,[],[]⟩
abbrev XgA:=(List UInt8)→Xab→Xab→Option (Xbw×(List UInt8)×Int)
def r118 (g:XgA):Dec:=dV asS fun (y0:List UInt8)=>dV Xcl fun (y1:Xab)=>dV Xcl fun (y2:Xab)=>Xdm (ofG (g y0 y1 y2) XDn)
theorem XQo {g:XgA} {y0:List UInt8} {y1:Xab} {y2:Xab} {x:Xbw×(List UInt8)×Int} (hx:g y0 y1 y2=some x):r118 g [.string ⟨⟨y0⟩⟩,.agg ⟨[.bool y1.V6,.int .u64 y1.Hi,.int .u64 y1.Lo]⟩,.agg ⟨[.bool y2.V6,.int .u64 y2.Hi,.int .u64 y2.Lo]⟩] []=some (XDn x):=(XaY (XcY)).trans ((XaY (Xb8 _)).trans ((XaY (Xb8 _)).trans (XaX hx)))
def s118 (g:XgA):Xbs:=⟨[.v,.v,.v],r118 g⟩
theorem XJD {g:XgA} {y0:List UInt8} {y1:Xab} {y2:Xab} {x:Xbw×(List UInt8)×Int} (hx:g y0 y1 y2=some x):(s118 g).run [.string ⟨⟨y0⟩⟩,.agg ⟨[.bool y1.V6,.int .u64 y1.Hi,.int .u64 y1.Lo]⟩,.agg ⟨[.bool y2.V6,.int .u64 y2.Hi,.int .u64 y2.Lo]⟩] []=some (XDn x):=XQo hx
abbrev XHT (XaN:XbO) (Xbv:Xcm) (XaO:XbC) (Xai:XaM) (Xaa:XaD):List (Nat×Xbs):=[(54,s54 XaN),(131,s131 Xbv),(51,s51 XaO),(95,s95 Xai),(52,s52 Xaa)]
theorem XEm (XaN:XbO) (Xbv:Xcm) (XaO:XbC) (Xai:XaM) (Xaa:XaD) (hS:Xal Tryz.prog (XaE (XHT XaN Xbv XaO Xai Xaa))) (s:List UInt8) (src:Xab) (dst:Xab) (res:Xbw×(List UInt8)×Int) (h:XoI XaN Xbv XaO Xai Xaa s src dst=some res) :
 XaK Tryz.prog 118 0 ⟨⟨118,70,[(0,.string ⟨⟨s⟩⟩),(1,.agg ⟨[.bool src.V6,.int .u64 src.Hi,.int .u64 src.Lo]⟩),(2,.agg ⟨[.bool dst.V6,.int .u64 dst.Hi,.int .u64 dst.Lo]⟩)],[.code Xzx],[],false,none⟩,[],[],0⟩ (fun v H _=>Res 0 (XDn res) v H):=by
 unfold XoI at h
 have R1:=@Xvs XaN
 refine Xbg XaJ hS true 3000 ?_
 conv=>whnf
 replace h:=Xdv.elim h;obtain ⟨n,hy,h⟩:=h
 refine Xgn.a (XqW hy) ?_
 conv=>whnf
 replace h:=Xdv.elim h;obtain ⟨n1,hy,h⟩:=h
 refine Xgn.a (Xkh hy) ?_
 conv=>whnf
 replace h:=Xdv.elim h;obtain ⟨n2,hy,h⟩:=h
 refine Xgn.a (Xkh hy) ?_
 conv=>whnf
 replace h:=Xdv.elim h;obtain ⟨n3,hy,h⟩:=h
 refine Xgn.a (Xkh hy) ?_
 conv=>whnf
 replace h:=Xdv.elim h;obtain ⟨n4,hy,h⟩:=h
 refine Xgn.a (Xkh hy) ?_
 conv=>whnf
 replace h:=Xdv.elim h;obtain ⟨b,hy,h⟩:=h
 refine Xgn.a (Xo5 hy) ?_
 conv=>whnf
 refine br.h h (by rfl) ?_ ?_
 ·clear h;intro hb h;conv=>whnf
  exact W
 clear h;intro hb h;conv=>whnf
 refine br.h h (by rfl) ?_ ?_
 ·clear h;intro hb h;conv=>whnf
  exact W
 clear h;intro hb h;conv=>whnf
 refine br.h h (by rfl) ?_ ?_
 ·clear h;intro hb h;conv=>whnf
  exact W
 clear h;intro hb h;conv=>whnf
 replace h:=Xdv.elim h;obtain ⟨p,hy,h⟩:=h
 refine Xgn.a (XzW hy) ?_
 conv=>whnf
 refine br.h h (by rfl) ?_ ?_
 ·clear h;intro hb h;conv=>whnf
  exact W
 clear h;intro hb h;conv=>whnf
 refine br.h2 h (by rfl) ?_ ?_
 ·clear h;intro hb h;conv=>whnf
  exact W
 clear h;intro hb h;conv=>whnf
 refine br.h h (by rfl) ?_ ?_
 ·clear h;intro hb h;conv=>whnf
  refine br.pos ?_ ?_;(focus (clear h;first|assumption|(simp_all;done)))
  conv=>whnf
  exact W
 clear h;intro hb h;conv=>whnf
 exact W
def Xhq:XgA:=XoI XaN Xbv XaO Xai Xaa
theorem XJC:XbA Tryz.prog 118 (s118 Xhq):=by
 have hL:=XEm XaN Xbv XaO Xai Xaa (Xal.XaV ⟨XuT,Xzo,Xqc,Xqy,XpK,trivial⟩)
 exact okA ⟨Tryz.f118,rfl,by decide,rfl⟩
def Xok (Xat:Xbm) (Xb9:Xc4) (Xbr:Xct) (s:List UInt8) (src:Xab) (dst:Xab):Option (Xbw×(List UInt8)×Int):=
 cond (decide ((s.length:Int)<8))
  (
  some ((Xbw.mk 0 0,[],2)))
  (
  (Xat s 4 2).bind fun m=>
  cond (decide (m<8))
   (
   some ((Xbw.mk 0 0,[],3)))
   (
   cond (decide ((s.length:Int)<m))
    (
    some ((Xbw.mk 0 0,[],2)))
    (
    (Xbr src dst 17 m).bind fun p=>
    cond (p==[])
     (
     some ((Xbw.mk 0 0,[],1)))
     (
     (Xat s 6 2).bind fun m1=>
     cond (m1==0)
      (
      cond (src.V6)
       (
       some ((Xbw.mk 0 0,[],4)))
       (
       (Xat s 0 2).bind fun m2=>
       (Xat s 2 2).bind fun m3=>
       Xa9 (decide ((0:Int)≤m∧m≤(s.length:Int)∧(0:Int)≤(8:Int)∧(8:Int)≤(m.toNat:Int))) <|
       some ((Xbw.mk m2 m3,(s.drop 8).take (m.toNat - 8),0))))
      (
      Xa9 (decide ((0:Int)≤m∧m≤(s.length:Int))) <|
      Xa9 (decide (p.length+(s.take m.toNat).length<2^63)) <|
      (Xb9 (p++(s.take m.toNat))).bind fun s1=>
      cond (s1 !=65535)
       (
       some ((Xbw.mk 0 0,[],4)))
       (
       (Xat s 0 2).bind fun m4=>
       (Xat s 2 2).bind fun m5=>
       Xa9 (decide ((0:Int)≤m∧m≤(s.length:Int)∧(0:Int)≤(8:Int)∧(8:Int)≤(m.toNat:Int))) <|
       some ((Xbw.mk m4 m5,(s.drop 8).take (m.toNat - 8),0))))))))
def rx84 (x:Xbw×(List UInt8)×Int):Xcu:=⟨.tuple ⟨[.agg ⟨[.int .i64 x.1.SPort,.int .i64 x.1.DPort]⟩,.string ⟨⟨x.2.1⟩⟩,.int .i64 x.2.2]⟩,[],[]⟩
abbrev XgM:=(List UInt8)→Xab→Xab→Option (Xbw×(List UInt8)×Int)
def r84 (g:XgM):Dec:=dV asS fun (y0:List UInt8)=>dV Xcl fun (y1:Xab)=>dV Xcl fun (y2:Xab)=>Xdm (ofG (g y0 y1 y2) rx84)
theorem r84_c {g:XgM} {y0:List UInt8} {y1:Xab} {y2:Xab} {x:Xbw×(List UInt8)×Int} (hx:g y0 y1 y2=some x):r84 g [.string ⟨⟨y0⟩⟩,.agg ⟨[.bool y1.V6,.int .u64 y1.Hi,.int .u64 y1.Lo]⟩,.agg ⟨[.bool y2.V6,.int .u64 y2.Hi,.int .u64 y2.Lo]⟩] []=some (rx84 x):=(XaY (XcY)).trans ((XaY (Xb8 _)).trans ((XaY (Xb8 _)).trans (XaX hx)))
def s84 (g:XgM):Xbs:=⟨[.v,.v,.v],r84 g⟩
theorem XRB {g:XgM} {y0:List UInt8} {y1:Xab} {y2:Xab} {x:Xbw×(List UInt8)×Int} (hx:g y0 y1 y2=some x):(s84 g).run [.string ⟨⟨y0⟩⟩,.agg ⟨[.bool y1.V6,.int .u64 y1.Hi,.int .u64 y1.Lo]⟩,.agg ⟨[.bool y2.V6,.int .u64 y2.Hi,.int .u64 y2.Lo]⟩] []=some (rx84 x):=r84_c hx
abbrev XRZ (Xat:Xbm) (Xb9:Xc4) (Xbr:Xct):List (Nat×Xbs):=[(62,s62 Xat),(60,s60 Xb9),(77,s77 Xbr)]
theorem XKL (Xat:Xbm) (Xb9:Xc4) (Xbr:Xct) (hS:Xal Tryz.prog (XaE (XRZ Xat Xb9 Xbr))) (s:List UInt8) (src:Xab) (dst:Xab) (res:Xbw×(List UInt8)×Int) (h:Xok Xat Xb9 Xbr s src dst=some res) :
 XaK Tryz.prog 84 0 ⟨⟨84,54,[(0,.string ⟨⟨s⟩⟩),(1,.agg ⟨[.bool src.V6,.int .u64 src.Hi,.int .u64 src.Lo]⟩),(2,.agg ⟨[.bool dst.V6,.int .u64 dst.Hi,.int .u64 dst.Lo]⟩)],[.code XFT],[],false,none⟩,[],[],0⟩ (fun v H _=>Res 0 (rx84 res) v H):=by
 unfold Xok at h
 have R1:=@Xn4 Xat
 have R2:=@XAq Xbr
 have R3:=@XvM Xb9
 refine Xbg XaJ hS true 3000 ?_
 conv=>whnf
 exact W
def Xhh:XgM:=Xok Xat Xb9 Xbr
theorem XNY:XbA Tryz.prog 84 (s84 Xhh):=by
 have hL:=XKL Xat Xb9 Xbr (Xal.XaV ⟨XpN,Xvr,Xyf,trivial⟩)
 exact okA ⟨Tryz.f84,rfl,by decide,rfl⟩
end Go.Vm.Code
namespace Go.Vm.Code
open Go Go.Vm
def u8 (h:Xbw) (l:List UInt8):List UInt8:=Xd9 h.SPort 2++Xd9 h.DPort 2++Xd9 (8+l.length) 2++[0,0]++l
def v2 (s:List UInt8) (p:Nat):Int:=(XdH ((s.drop p).take 2):Nat)
theorem Xo4 (s:List UInt8) (p:Nat):0≤v2 s p∧v2 s p<65536:=by
 have:=Xc9 (l:=s.drop p) (k:=2) 65536 (by decide)
 unfold v2;omega
theorem XBN {s:List UInt8} {p:Nat} (hs:s.length<2^61) (h:p+2≤s.length):Xat s (p:Int) 2=some (v2 s p):=by
 rw [Xhn hs,XgZ (by omega) (by omega) (by omega) (by omega)]
 have:=Xo4 s p
 show some (wI .i64 (v2 s p))=_
 rw [Xc5 (by omega) (by omega)]
theorem XPz {r:Xah} (h:r.made=true) (hl:r.s.length<2^61):Xaa r 2=some (rdn r 2,rdr r 2):=by
 rw [Xds h hl,if_neg (by omega)]
theorem XrT {s:List UInt8} (h:2≤s.length) (hl:s.length<2^61):Xaa ⟨s,true,false⟩ 2=some (v2 s 0,⟨s.drop 2,true,false⟩):=by
 rw [XPz rfl hl,Xf6 (by omega) (by omega)]
 unfold rdn
 rw [if_neg (by omega),Xf7 (by omega) (by omega)];rfl
theorem XxP (s:List UInt8) (p q:Nat):v2 (s.drop p) q=v2 s (p+q):=by unfold v2;rw [List.drop_drop]
def XsE:Xbw:=⟨0,0⟩
def XgN (s:List UInt8) (src dst:Xab):Xbw×List UInt8×Int:=
 if s.length<8 then (XsE,[],2) else if v2 s 4<8 then (XsE,[],3) else if (s.length:Int)<v2 s 4 then (XsE,[],2) else if XjP src dst 17 (v2 s 4)=[] then (XsE,[],1) else
  if v2 s 6=0 then (if src.V6=true then (XsE,[],4) else (⟨v2 s 0,v2 s 2⟩,(s.drop 8).take ((v2 s 4).toNat - 8),0)) else
   if norm (XcA (XjP src dst 17 (v2 s 4)++s.take (v2 s 4).toNat))≠65535 then (XsE,[],4) else (⟨v2 s 0,v2 s 2⟩,(s.drop 8).take ((v2 s 4).toNat - 8),0)
theorem XIX {s:List UInt8} {src dst:Xab} (h1:A4 src) (h2:A4 dst) (hs:s.length<2^38):Xhq s src dst=some (XgN s src dst):=by
 unfold Xhq XoI XgN
 rw [XlK,Option.bind_some]
 by_cases h8:s.length<8
 ·rw [if_pos h8]
  have m1:=XeD ⟨s,true,false⟩ 2
  have m2:=XeD (rdr ⟨s,true,false⟩ 2) 2
  have m3:=XeD (rdr (rdr ⟨s,true,false⟩ 2) 2) 2
  have m4:=XeD (rdr (rdr (rdr ⟨s,true,false⟩ 2) 2) 2) 2
  have k1:=XfQ ⟨s,true,false⟩ 2
  have k2:=XfQ (rdr ⟨s,true,false⟩ 2) 2
  have k3:=XfQ (rdr (rdr ⟨s,true,false⟩ 2) 2) 2
  simp only at k1
  rw [XPz rfl (by simp only;omega),Option.bind_some]
  rw [XPz m1 (by omega),Option.bind_some]
  rw [XPz m2 (by omega),Option.bind_some]
  rw [XPz m3 (by omega),Option.bind_some,Xfp m4,Option.bind_some]
  have hb:(rdr (rdr (rdr (rdr ⟨s,true,false⟩ 2) 2) 2) 2).bad=true:=by
   cases hb:(rdr (rdr (rdr (rdr ⟨s,true,false⟩ 2) 2) 2) 2).bad
   ·exfalso
    obtain ⟨b3,l3⟩:=XhP rfl hb
    obtain ⟨b2,l2⟩:=XhP rfl b3
    obtain ⟨b1,l1⟩:=XhP rfl b2
    obtain ⟨b0,l0⟩:=XhP rfl b1
    simp only at l0
    omega
   ·rfl
  simp only [hb,cond_true];rfl
 ·rw [if_neg h8]
  rw [XrT (by omega) (by omega),Option.bind_some,XrT (by simp;omega) (by simp;omega),Option.bind_some]
  simp only [List.drop_drop]
  rw [XrT (by simp;omega) (by simp;omega),Option.bind_some]
  simp only [List.drop_drop]
  rw [XrT (by simp;omega) (by simp;omega),Option.bind_some,Xfp rfl,Option.bind_some]
  simp only [cond_false,XxP,Nat.add_zero,Nat.reduceAdd]
  have r4:=Xo4 s 4
  have hp:=Xmb src dst 17 (v2 s 4)
  have hz:(⟨0,0⟩:Xbw)=XsE:=rfl
  rw [hz]
  generalize hm:v2 s 4=m at *
  by_cases g1:m<8
  ·rw [Xa2 g1,if_pos g1]
  rw [XaQ g1,if_neg g1]
  by_cases g2:(s.length:Int)<m
  ·rw [Xa2 (by omega),if_pos g2]
  rw [XaQ (by omega),if_neg g2,Xsa h1 h2 (by omega) (by omega),Option.bind_some]
  generalize XjP src dst 17 m=p at *
  by_cases g3:p=[]
  ·subst g3;rw [if_pos rfl];rfl
  rw [if_neg g3,show (p==[])=false by simpa using g3,cond_false]
  have hr:XaN (p++s.take m.toNat)=some (((norm (XcA (p++s.take m.toNat)):Nat):Int)==65535):=XoH (by simp;omega)
  by_cases g4:v2 s 6=0
  ·rw [if_pos g4,g4]
   simp only [beq_self_eq_true,cond_true,bne_self_eq_false,cond_false]
   cases src.V6
   ·rw [if_neg (by decide),cond_false,XaC (by omega)]
   ·rw [if_pos rfl,cond_true]
  ·rw [if_neg g4,show (v2 s 6==0)=false by simpa using g4,show (v2 s 6 !=0)=true by simpa using g4]
   simp only [cond_false,cond_true]
   rw [XaC (by omega),XaC (by simp only [List.length_take];omega),hr,Option.bind_some,XaC (by omega)]
   by_cases g5:norm (XcA (p++s.take m.toNat))=65535
   ·rw [if_neg (by simpa using g5),g5];rfl
   ·rw [if_pos (by simpa using g5),show ((((norm (XcA (p++s.take m.toNat)):Nat):Int)==65535))=false by simp;omega];rfl
theorem XBp {s:List UInt8} {src dst:Xab} (h1:A4 src) (h2:A4 dst) (hs:s.length<2^38):Xhh s src dst=some (XgN s src dst):=by
 unfold Xhh Xok XgN
 by_cases h8:s.length<8
 ·rw [if_pos h8,Xa2 (by omega)];rfl
 rw [if_neg h8,XaQ (by omega),show (4:Int)=((4:Nat):Int) from rfl,show (6:Int)=((6:Nat):Int) from rfl,show Xat s 0 2=Xat s ((0:Nat):Int) 2 from rfl,show Xat s 2 2=Xat s ((2:Nat):Int) 2 from rfl,XBN (by omega) (by omega),XBN (by omega) (by omega),XBN (by omega) (by omega),XBN (by omega) (by omega)]
 simp only [Option.bind_some]
 have r4:=Xo4 s 4
 have hp:=Xmb src dst 17 (v2 s 4)
 have hz:(⟨0,0⟩:Xbw)=XsE:=rfl
 rw [hz]
 generalize hm:v2 s 4=m at *
 by_cases g1:m<8
 ·rw [Xa2 g1,if_pos g1]
 rw [XaQ g1,if_neg g1]
 by_cases g2:(s.length:Int)<m
 ·rw [Xa2 (by omega),if_pos g2]
 rw [XaQ (by omega),if_neg g2,Xny h1 h2 (by omega) (by omega),Option.bind_some]
 generalize XjP src dst 17 m=p at *
 by_cases g3:p=[]
 ·subst g3;rw [if_pos rfl];rfl
 rw [if_neg g3,show (p==[])=false by simpa using g3,cond_false]
 by_cases g4:v2 s 6=0
 ·rw [if_pos g4,g4]
  simp only [beq_self_eq_true,cond_true]
  cases src.V6
  ·rw [if_neg (by decide),cond_false,XaC (by omega)]
  ·rw [if_pos rfl,cond_true]
 ·rw [if_neg g4,show (v2 s 6==0)=false by simpa using g4]
  simp only [cond_false]
  rw [XaC (by omega),XaC (by simp only [List.length_take];omega),Xk2 (by simp;omega),Option.bind_some,XaC (by omega)]
  by_cases g5:norm (XcA (p++s.take m.toNat))=65535
  ·rw [if_neg (by simpa using g5),g5];rfl
  ·rw [if_pos (by simpa using g5),show ((((norm (XcA (p++s.take m.toNat)):Nat):Int) !=65535))=true by simp;omega];rfl
end Go.Vm.Code
namespace Go.Vm.Code
open Go Go.Vm Go.Proofs
set_option maxRecDepth 100000
set_option maxHeartbeats 4000000
set_option linter.unusedVariables false
def XoD (XaS:XbY) (Xg1:XgD) (Xg3:Xgm) (t:Xag) (body:List UInt8):Option ((List UInt8)×Int):=
 cond (!(t.Src.V6==t.Dst.V6))
  (
  some (([],1)))
  (
  (XaS t.Src).bind fun xr=>
  cond (!xr)
   (
   some (([],1)))
   (
   (XaS t.Dst).bind fun xr1=>
   cond (!xr1)
    (
    some (([],1)))
    (
    cond (t.Proto !=6)
     (
     cond (t.Proto !=17)
      (
      some (([],1)))
      (
      (Xg3 (XaL.mk 0 0 t.Proto 64 t.Src t.Dst) body).bind fun p=>
      cond (!t.Src.V6)
       (
       (Xg1 (Xau.mk 0 0 true 64 t.Proto t.Src t.Dst []) body).bind fun p1=>
       cond (p1.2==0)
        (
        cond (decide ((p1.1.length:Int)>9000))
         (
         some (([],5)))
         (
         some ((p1.1,p1.2))))
        (
        some ((p1.1,p1.2))))
       (
       cond (p.2==0)
        (
        cond (decide ((p.1.length:Int)>9000))
         (
         some (([],5)))
         (
         some ((p.1,p.2))))
        (
        some ((p.1,p.2))))))
     (
     (Xg3 (XaL.mk 0 0 t.Proto 64 t.Src t.Dst) body).bind fun p2=>
     cond (!t.Src.V6)
      (
      (Xg1 (Xau.mk 0 0 true 64 t.Proto t.Src t.Dst []) body).bind fun p3=>
      cond (p3.2==0)
       (
       cond (decide ((p3.1.length:Int)>9000))
        (
        some (([],5)))
        (
        some ((p3.1,p3.2))))
       (
       some ((p3.1,p3.2))))
      (
      cond (p2.2==0)
       (
       cond (decide ((p2.1.length:Int)>9000))
        (
        some (([],5)))
        (
        some ((p2.1,p2.2))))
       (
       some ((p2.1,p2.2))))))))
def rx44 (x:(List UInt8)×Int):Xcu:=⟨.tuple ⟨[.string ⟨⟨x.1⟩⟩,.int .i64 x.2]⟩,[],[]⟩
abbrev XgH:=Xag→(List UInt8)→Option ((List UInt8)×Int)
def r44 (g:XgH):Dec:=dV Xdi fun (y0:Xag)=>dV asS fun (y1:List UInt8)=>Xdm (ofG (g y0 y1) rx44)
theorem r44_c {g:XgH} {y0:Xag} {y1:List UInt8} {x:(List UInt8)×Int} (hx:g y0 y1=some x):r44 g [.agg ⟨[.int .i64 y0.Proto,.bool y0.Src.V6,.int .u64 y0.Src.Hi,.int .u64 y0.Src.Lo,.bool y0.Dst.V6,.int .u64 y0.Dst.Hi,.int .u64 y0.Dst.Lo,.int .i64 y0.SPort,.int .i64 y0.DPort]⟩,.string ⟨⟨y1⟩⟩] []=some (rx44 x):=(XaY (Xdy _)).trans ((XaY (XcY)).trans (XaX hx))
def s44 (g:XgH):Xbs:=⟨[.v,.v],r44 g⟩
theorem XO5 {g:XgH} {y0:Xag} {y1:List UInt8} {x:(List UInt8)×Int} (hx:g y0 y1=some x):(s44 g).run [.agg ⟨[.int .i64 y0.Proto,.bool y0.Src.V6,.int .u64 y0.Src.Hi,.int .u64 y0.Src.Lo,.bool y0.Dst.V6,.int .u64 y0.Dst.Hi,.int .u64 y0.Dst.Lo,.int .i64 y0.SPort,.int .i64 y0.DPort]⟩,.string ⟨⟨y1⟩⟩] []=some (rx44 x):=r44_c hx
abbrev XQ9 (XaS:XbY) (Xg1:XgD) (Xg3:Xgm):List (Nat×Xbs):=[(42,s42 XaS),(80,s80 Xg1),(79,s79 Xg3)]
theorem XI7 (XaS:XbY) (Xg1:XgD) (Xg3:Xgm) (hS:Xal Tryz.prog (XaE (XQ9 XaS Xg1 Xg3))) (t:Xag) (body:List UInt8) (res:(List UInt8)×Int) (h:XoD XaS Xg1 Xg3 t body=some res) :
 XaK Tryz.prog 44 0 ⟨⟨44,74,[(0,.agg ⟨[.int .i64 t.Proto,.bool t.Src.V6,.int .u64 t.Src.Hi,.int .u64 t.Src.Lo,.bool t.Dst.V6,.int .u64 t.Dst.Hi,.int .u64 t.Dst.Lo,.int .i64 t.SPort,.int .i64 t.DPort]⟩),(1,.string ⟨⟨body⟩⟩)],[.code XEK],[],false,none⟩,[],[],0⟩ (fun v H _=>Res 0 (rx44 res) v H):=by
 unfold XoD at h
 have R1:=@Xs1 XaS
 have R2:=@XMQ Xg3
 have R3:=@XPV Xg1
 refine Xbg XaJ hS true 3000 ?_
 conv=>whnf
 exact W
def Xhv:XgH:=XoD XaS Xg1 Xg3
theorem XS8:XbA Tryz.prog 44 (s44 Xhv):=by
 have hL:=XI7 XaS Xg1 Xg3 (Xal.XaV ⟨XsF,XOh,XPX,trivial⟩)
 exact okA ⟨Tryz.f44,rfl,by decide,rfl⟩
def XiQ (Xhy:Xgr) (Xhv:XgH) (t:Xag) (flags:Int) (options:List UInt8) (payload:List UInt8):Option ((List UInt8)×Int):=
 cond (t.Proto !=6)
  (
  some (([],1)))
  (
  (Xhy (XaI.mk t.SPort t.DPort 0 0 flags 65535 0 options) t.Src t.Dst payload).bind fun p=>
  cond (p.2 !=0)
   (
   some (([],p.2)))
   (
   (Xhv t p.1).bind fun p1=>
   some ((p1.1,p1.2))))
def rx21 (x:(List UInt8)×Int):Xcu:=⟨.tuple ⟨[.string ⟨⟨x.1⟩⟩,.int .i64 x.2]⟩,[],[]⟩
abbrev Xd0:=Xag→Int→(List UInt8)→(List UInt8)→Option ((List UInt8)×Int)
def r21 (g:Xd0):Dec:=dV Xdi fun (y0:Xag)=>dV (asI .i64) fun (y1:Int)=>dV asS fun (y2:List UInt8)=>dV asS fun (y3:List UInt8)=>Xdm (ofG (g y0 y1 y2 y3) rx21)
theorem r21_c {g:Xd0} {y0:Xag} {y1:Int} {y2:List UInt8} {y3:List UInt8} {x:(List UInt8)×Int} (hx:g y0 y1 y2 y3=some x):r21 g [.agg ⟨[.int .i64 y0.Proto,.bool y0.Src.V6,.int .u64 y0.Src.Hi,.int .u64 y0.Src.Lo,.bool y0.Dst.V6,.int .u64 y0.Dst.Hi,.int .u64 y0.Dst.Lo,.int .i64 y0.SPort,.int .i64 y0.DPort]⟩,.int .i64 y1,.string ⟨⟨y2⟩⟩,.string ⟨⟨y3⟩⟩] []=some (rx21 x):=(XaY (Xdy _)).trans ((XaY (Xc2 _)).trans ((XaY (XcY)).trans ((XaY (XcY)).trans (XaX hx))))
def s21 (g:Xd0):Xbs:=⟨[.v,.v,.v,.v],r21 g⟩
theorem XQE {g:Xd0} {y0:Xag} {y1:Int} {y2:List UInt8} {y3:List UInt8} {x:(List UInt8)×Int} (hx:g y0 y1 y2 y3=some x):(s21 g).run [.agg ⟨[.int .i64 y0.Proto,.bool y0.Src.V6,.int .u64 y0.Src.Hi,.int .u64 y0.Src.Lo,.bool y0.Dst.V6,.int .u64 y0.Dst.Hi,.int .u64 y0.Dst.Lo,.int .i64 y0.SPort,.int .i64 y0.DPort]⟩,.int .i64 y1,.string ⟨⟨y2⟩⟩,.string ⟨⟨y3⟩⟩] []=some (rx21 x):=r21_c hx
abbrev XQP (Xhy:Xgr) (Xhv:XgH):List (Nat×Xbs):=[(43,s43 Xhy),(44,s44 Xhv)]
theorem XHe (Xhy:Xgr) (Xhv:XgH) (hS:Xal Tryz.prog (XaE (XQP Xhy Xhv))) (t:Xag) (flags:Int) (options:List UInt8) (payload:List UInt8) (res:(List UInt8)×Int) (h:XiQ Xhy Xhv t flags options payload=some res) :
 XaK Tryz.prog 21 0 ⟨⟨21,39,[(0,.agg ⟨[.int .i64 t.Proto,.bool t.Src.V6,.int .u64 t.Src.Hi,.int .u64 t.Src.Lo,.bool t.Dst.V6,.int .u64 t.Dst.Hi,.int .u64 t.Dst.Lo,.int .i64 t.SPort,.int .i64 t.DPort]⟩),(1,.int .i64 flags),(2,.string ⟨⟨options⟩⟩),(3,.string ⟨⟨payload⟩⟩)],[.code XEY],[],false,none⟩,[],[],0⟩ (fun v H _=>Res 0 (rx21 res) v H):=by
 unfold XiQ at h
 have R1:=@XQT Xhy
 have R2:=@XO5 Xhv
 refine Xbg XaJ hS true 3000 ?_
 conv=>whnf
 exact W
def Xdh:Xd0:=XiQ Xhy Xhv
theorem lift21:XbA Tryz.prog 21 (s21 Xdh):=by
 have hL:=XHe Xhy Xhv (Xal.XaV ⟨XRp,XS8,trivial⟩)
 exact okA ⟨Tryz.f21,rfl,by decide,rfl⟩
end Go.Vm.Code
namespace Go.Vm.Code
open Go Go.Vm
theorem A4.XuP {a:Xab} (h:A4 a):XnX a:=⟨⟨h.1,h.2.1⟩,h.2.2.1,h.2.2.2⟩
def Xm3 (t:Xag):XaL:=⟨0,0,t.Proto,64,t.Src,t.Dst⟩
def Xj9 (t:Xag):Xau:=⟨0,0,true,64,t.Proto,t.Src,t.Dst,[]⟩
def Xnu (t:Xag) (b:List UInt8):List UInt8×Int:=cond t.Src.V6 (XQ5 (Xm3 t) b) (XQk (Xj9 t) b)
def Xh5 (t:Xag) (b:List UInt8):List UInt8×Int:=
 if t.Src.V6≠t.Dst.V6∨aok t.Src=false∨aok t.Dst=false∨(t.Proto≠6∧t.Proto≠17) then ([],1) else
  if (Xnu t b).2=0∧9000<(Xnu t b).1.length then ([],5) else Xnu t b
theorem fin11 (r:List UInt8×Int):(cond (r.2==0) (cond (decide ((r.1.length:Int)>9000)) (some (([],5):List UInt8×Int)) (some (r.1,r.2))) (some (r.1,r.2)))=some (if r.2=0∧9000<r.1.length then ([],5) else r):=by
 by_cases h:r.2=0
 ·rw [show (r.2==0)=true by simpa using h,cond_true]
  by_cases h2:9000<r.1.length
  ·rw [Xa2 (by omega),if_pos ⟨h,h2⟩]
  ·rw [XaQ (by omega),if_neg (fun x=>h2 x.2)]
 ·rw [show (r.2==0)=false by simpa using h,cond_false,if_neg (fun x=>h x.1)]
theorem Xyh {t:Xag} {b:List UInt8} (h1:A4 t.Src) (h2:A4 t.Dst) (hb:b.length<2^20):Xhv t b=some (Xh5 t b):=by
 unfold Xhv XoD Xh5
 by_cases g1:t.Src.V6=t.Dst.V6
 ·rw [show (!(t.Src.V6==t.Dst.V6))=false by simp [g1],cond_false,Xiu,Xiu,Option.bind_some,Option.bind_some]
  cases g2:aok t.Src
  ·rw [if_pos (.inr (.inl rfl))];rfl
  cases g3:aok t.Dst
  ·rw [if_pos (.inr (.inr (.inl rfl)))];rfl
  rw [Bool.not_true,cond_false,cond_false,XEr (h:=⟨0,0,t.Proto,64,t.Src,t.Dst⟩) h1.XuP h2.XuP (by omega),XOp (h:=⟨0,0,true,64,t.Proto,t.Src,t.Dst,[]⟩) h1 h2 (by omega) (by simp)]
  simp only [Option.bind_some,fin11]
  by_cases g4:t.Proto=6
  ·rw [show (t.Proto !=6)=false by simpa using g4,cond_false,if_neg (show ¬ (t.Src.V6≠t.Dst.V6∨true=false∨true=false∨(t.Proto≠6∧t.Proto≠17)) from fun h=>h.elim (fun x=>x g1) fun h=>h.elim (fun x=>by cases x) fun h=>h.elim (fun x=>by cases x) fun x=>x.1 g4)]
   unfold Xnu Xj9 Xm3
   cases t.Src.V6<;>rfl
  ·rw [show (t.Proto !=6)=true by simpa using g4,cond_true]
   by_cases g5:t.Proto=17
   ·rw [show (t.Proto !=17)=false by simpa using g5,cond_false,if_neg (show ¬ (t.Src.V6≠t.Dst.V6∨true=false∨true=false∨(t.Proto≠6∧t.Proto≠17)) from fun h=>h.elim (fun x=>x g1) fun h=>h.elim (fun x=>by cases x) fun h=>h.elim (fun x=>by cases x) fun x=>x.2 g5)]
    unfold Xnu Xj9 Xm3
    cases t.Src.V6<;>rfl
   ·rw [show (t.Proto !=17)=true by simpa using g5,cond_true,if_pos (.inr (.inr (.inr ⟨g4,g5⟩)))]
 ·rw [show (!(t.Src.V6==t.Dst.V6))=true by simp [g1],cond_true,if_pos (.inl g1)]
def XlX (t:Xag) (flags:Int) (o l:List UInt8):List UInt8×Int:=
 if t.Proto≠6 then ([],1) else if (Xp6 ⟨t.SPort,t.DPort,0,0,flags,65535,0,o⟩ t.Src t.Dst l).2≠0 then ([],(Xp6 ⟨t.SPort,t.DPort,0,0,flags,65535,0,o⟩ t.Src t.Dst l).2) else Xh5 t (Xp6 ⟨t.SPort,t.DPort,0,0,flags,65535,0,o⟩ t.Src t.Dst l).1
theorem Xrn (h:XaI) (src dst:Xab) (l:List UInt8):(Xp6 h src dst l).1.length≤20+h.Options.length+l.length:=by
 unfold Xp6
 split
 ·simp
 split
 ·simp
 split
 ·simp
 ·simp only [List.length_append,Xty];omega
theorem XpY {t:Xag} {flags:Int} {o l:List UInt8} (h1:A4 t.Src) (h2:A4 t.Dst) (ho:o.length<2^18) (hl:l.length<2^18):Xdh t flags o l=some (XlX t flags o l):=by
 unfold Xdh XiQ XlX
 by_cases g:t.Proto=6
 ·have hw:W7 ⟨t.SPort,t.DPort,0,0,flags,65535,0,o⟩:=⟨⟨by simp only [];omega,by simp only [];omega⟩,by simp only [];omega,by simp only [];omega⟩
  have hlen:=Xrn ⟨t.SPort,t.DPort,0,0,flags,65535,0,o⟩ t.Src t.Dst l
  simp only at hlen
  rw [show (t.Proto !=6)=false by simpa using g,cond_false,XDK hw h1 h2 (by omega) (by simp only [];omega),Option.bind_some,if_neg (by simpa using g)]
  by_cases g2:(Xp6 ⟨t.SPort,t.DPort,0,0,flags,65535,0,o⟩ t.Src t.Dst l).2=0
  ·rw [show ((Xp6 ⟨t.SPort,t.DPort,0,0,flags,65535,0,o⟩ t.Src t.Dst l).2 !=0)=false by simpa using g2,cond_false,if_neg (by simpa using g2),Xyh h1 h2 (by omega)];rfl
  ·rw [show ((Xp6 ⟨t.SPort,t.DPort,0,0,flags,65535,0,o⟩ t.Src t.Dst l).2 !=0)=true by simpa using g2,cond_true,if_pos g2]
 ·rw [show (t.Proto !=6)=true by simpa using g,cond_true,if_pos g]
theorem XvP {t:Xag} {b:List UInt8} (h:(Xh5 t b).2=0):t.Src.V6=t.Dst.V6∧aok t.Src=true∧aok t.Dst=true∧(t.Proto=6∨t.Proto=17)∧(Xh5 t b).1.length≤9000 ∧
 ((t.Src.V6=true∧H6 (Xm3 t)∧b.length≤65535∧Xh5 t b=(headB (Xm3 t) b.length++b,0))∨(t.Src.V6=false∧H5 (Xj9 t)=true∧20+b.length≤65535∧Xh5 t b=(hc5 (Xj9 t) (20+b.length) (ck5 (Xj9 t) (20+b.length))++b,0))):=by
 unfold Xh5 at h ⊢
 by_cases g:t.Src.V6≠t.Dst.V6∨aok t.Src=false∨aok t.Dst=false∨(t.Proto≠6∧t.Proto≠17)
 ·rw [if_pos g] at h;exact absurd h (by decide)
 rw [if_neg g] at h ⊢
 by_cases g2:(Xnu t b).2=0∧9000<(Xnu t b).1.length
 ·rw [if_pos g2] at h;exact absurd h (by decide)
 rw [if_neg g2] at h ⊢
 have hlen:(Xnu t b).1.length≤9000:=by
  rcases Nat.lt_or_ge 9000 (Xnu t b).1.length with x|x
  ·exact absurd ⟨h,x⟩ g2
  ·exact x
 have e1:t.Src.V6=t.Dst.V6:=Decidable.byContradiction fun x=>g (.inl x)
 have e2:aok t.Src=true:=by cases x:aok t.Src;· exact absurd (.inr (.inl x)) g
                            ·rfl
 have e3:aok t.Dst=true:=by cases x:aok t.Dst;· exact absurd (.inr (.inr (.inl x))) g
                            ·rfl
 have e4:t.Proto=6∨t.Proto=17:=by
  rcases Decidable.em (t.Proto=6) with x|x
  ·exact .inl x
  ·exact .inr (Decidable.byContradiction fun y=>g (.inr (.inr (.inr ⟨x,y⟩))))
 refine ⟨e1,e2,e3,e4,hlen,?_⟩
 unfold Xnu at h ⊢
 cases hv:t.Src.V6
 ·right
  rw [hv,cond_false] at h
  rw [cond_false]
  unfold XQk at h ⊢
  cases hh:H5 (Xj9 t)
  ·rw [if_pos hh] at h;exact absurd h (by decide)
  rw [if_neg (by rw [hh];decide)] at h
  rw [if_neg (by decide)]
  by_cases hl:65535 - (20+((Xj9 t).Options.length:Int))<b.length
  ·rw [if_pos hl] at h;exact absurd h (by decide)
  have ho:(Xj9 t).Options.length=0:=rfl
  rw [if_neg hl]
  refine ⟨rfl,rfl,by omega,?_⟩
  rw [show (20+((Xj9 t).Options.length:Int)+b.length)=((20+b.length:Nat):Int) by omega,XNV hv (by rw [←hv];exact e1.symm),XNg]
  have:(65535 - ((norm (XcA (hc5 (Xj9 t) (20+b.length) 0)):Nat):Int)).toNat=ck5 (Xj9 t) (20+b.length):=by
   have:=norm_le (XcA (hc5 (Xj9 t) (20+b.length) 0))
   unfold ck5;omega
  rw [this]
 ·left
  rw [hv,cond_true] at h
  rw [cond_true]
  unfold XQ5 at h ⊢
  by_cases hh:H6 (Xm3 t)
  ·rw [if_neg (by simpa using hh)] at h ⊢
   by_cases hl:b.length>65535
   ·rw [if_pos hl] at h;exact absurd h (by decide)
   rw [if_neg hl]
   exact ⟨rfl,hh,by omega,rfl⟩
  ·rw [if_pos hh] at h;exact absurd h (by decide)
theorem Xv5:∀ i:Fin 16,i.val≠14→Nat.testBit 18446744073709535231 i.val=true:=by decide +kernel
theorem Xwz {x:Nat} (hx:x<65536):x &&& 18446744073709535231=0↔x=0∨x=16384:=by
 constructor
 ·intro h
  have hbit:∀ i,i≠14→x.testBit i=false:=by
   intro i hi
   by_cases h16:i<16
   ·have h1:(x &&& 18446744073709535231).testBit i=false:=by rw [h];exact Nat.zero_testBit i
    rw [Nat.testBit_and,Xv5 ⟨i,h16⟩ hi,Bool.and_true] at h1
    exact h1
   ·exact Nat.testBit_lt_two_pow (Nat.lt_of_lt_of_le hx (by
     have:2^16≤2^i:=Nat.pow_le_pow_right (by decide) (by omega)
     omega))
  cases h14:x.testBit 14
  ·left
   apply Nat.eq_of_testBit_eq
   intro i
   rw [Nat.zero_testBit]
   by_cases hi:i=14
   ·rw [hi,h14]
   ·exact hbit i hi
  ·right
   apply Nat.eq_of_testBit_eq
   intro i
   rw [show (16384:Nat)=2^14 from rfl,Nat.testBit_two_pow]
   by_cases hi:i=14
   ·rw [hi,h14];rfl
   ·rw [hbit i hi,decide_eq_false (fun e=>hi e.symm)]
 ·rintro (h|h)
  ·rw [h];rfl
  ·rw [h];rfl
theorem XQ3 {x:Nat} (hx:x<65536):Xj6 .i64 (x:Int) 16384=((x &&& 18446744073709535231:Nat):Int):=by
 have h:x &&& 18446744073709535231≤x:=Nat.and_le_left
 show IntKind.wrap .i64 _=_
 rw [show IntKind.bits .i64=64 from rfl,BitVec.toNat_and,XK1 (by omega),show (~~~ (BitVec.ofInt 64 16384)).toNat=18446744073709535231 from rfl]
 exact Xc5 (by omega) (by omega)
theorem Xxe {a b:UInt8}:(Xj6 .i64 ((a.toNat:Int)*256+b.toNat) 16384 !=0)=decide ((a.toNat:Int)*256+b.toNat≠0∧(a.toNat:Int)*256+b.toNat≠16384):=by
 have h1:=a.toNat_lt
 have h2:=b.toNat_lt
 have hx:a.toNat*256+b.toNat<65536:=by omega
 rw [show (a.toNat:Int)*256+b.toNat=((a.toNat*256+b.toNat:Nat):Int) by omega,XQ3 hx,Bool.eq_iff_iff,bne_iff_ne,decide_eq_true_eq]
 have hz:=Xwz hx
 generalize a.toNat*256+b.toNat=x at *
 generalize x &&& 18446744073709535231=y at *
 constructor
 ·intro h
  have:¬ (x=0∨x=16384):=fun e=>h (by have:=hz.2 e;omega)
  omega
 ·intro h e
  have:=hz.1 (by omega)
  omega
end Go.Vm.Code
namespace Go.Vm.Code
open Go Go.Vm Go.Proofs
set_option maxRecDepth 100000
set_option maxHeartbeats 4000000
set_option linter.unusedVariables false
def XkK (Xaw:Xbk) (s:List UInt8):Option (Xab×Bool):=
 cond ((s.length:Int)==4)
  (
  (Xaw s 0 4).bind fun xg=>
  some ((Xab.mk false 0 xg.1,true)))
  (
  cond ((s.length:Int)==16)
   (
   (Xaw s 0 8).bind fun xg1=>
   (Xaw s 8 8).bind fun xg2=>
   some ((Xab.mk true xg1.1 xg2.1,true)))
   (
   some ((Xab.mk false 0 0,false))))
def XBm (x:Xab×Bool):Xcu:=⟨.tuple ⟨[.agg ⟨[.bool x.1.V6,.int .u64 x.1.Hi,.int .u64 x.1.Lo]⟩,.bool x.2]⟩,[],[]⟩
abbrev Xea:=(List UInt8)→Option (Xab×Bool)
def r136 (g:Xea):Dec:=dV asS fun (y0:List UInt8)=>Xdm (ofG (g y0) XBm)
theorem XOM {g:Xea} {y0:List UInt8} {x:Xab×Bool} (hx:g y0=some x):r136 g [.string ⟨⟨y0⟩⟩] []=some (XBm x):=(XaY (XcY)).trans (XaX hx)
def s136 (g:Xea):Xbs:=⟨[.v],r136 g⟩
theorem XAn {g:Xea} {y0:List UInt8} {x:Xab×Bool} (hx:g y0=some x):(s136 g).run [.string ⟨⟨y0⟩⟩] []=some (XBm x):=XOM hx
abbrev XHp (Xaw:Xbk):List (Nat×Xbs):=[(69,s69 Xaw)]
theorem XDk (Xaw:Xbk) (hS:Xal Tryz.prog (XaE (XHp Xaw))) (s:List UInt8) (res:Xab×Bool) (h:XkK Xaw s=some res) :
 XaK Tryz.prog 136 0 ⟨⟨136,35,[(0,.string ⟨⟨s⟩⟩)],[.code XAu],[],false,none⟩,[],[],0⟩ (fun v H _=>Res 0 (XBm res) v H):=by
 unfold XkK at h
 have R1:=@XpF Xaw
 refine Xbg XaJ hS true 3000 ?_
 conv=>whnf
 exact W
def XcM:Xea:=XkK Xaw
theorem XxR:XbA Tryz.prog 136 (s136 XcM):=by
 have hL:=XDk Xaw (Xal.XaV ⟨Xqm,trivial⟩)
 exact okA ⟨Tryz.f136,rfl,by decide,rfl⟩
def XmW (Xcv:XdK) (s:List UInt8):Option (Xab×Bool):=
 cond ((s.length:Int)==4)
  (
  (Xcv s 0 4).bind fun xg=>
  some ((Xab.mk false 0 xg.1,true)))
  (
  cond ((s.length:Int)==16)
   (
   (Xcv s 0 8).bind fun xg1=>
   (Xcv s 8 8).bind fun xg2=>
   some ((Xab.mk true xg1.1 xg2.1,true)))
   (
   some ((Xab.mk false 0 0,false))))
def XDW (x:Xab×Bool):Xcu:=⟨.tuple ⟨[.agg ⟨[.bool x.1.V6,.int .u64 x.1.Hi,.int .u64 x.1.Lo]⟩,.bool x.2]⟩,[],[]⟩
abbrev XeJ:=(List UInt8)→Option (Xab×Bool)
def r127 (g:XeJ):Dec:=dV asS fun (y0:List UInt8)=>Xdm (ofG (g y0) XDW)
theorem XOv {g:XeJ} {y0:List UInt8} {x:Xab×Bool} (hx:g y0=some x):r127 g [.string ⟨⟨y0⟩⟩] []=some (XDW x):=(XaY (XcY)).trans (XaX hx)
def s127 (g:XeJ):Xbs:=⟨[.v],r127 g⟩
theorem XyG {g:XeJ} {y0:List UInt8} {x:Xab×Bool} (hx:g y0=some x):(s127 g).run [.string ⟨⟨y0⟩⟩] []=some (XDW x):=XOv hx
abbrev XIA (Xcv:XdK):List (Nat×Xbs):=[(61,s61 Xcv)]
theorem XBS (Xcv:XdK) (hS:Xal Tryz.prog (XaE (XIA Xcv))) (s:List UInt8) (res:Xab×Bool) (h:XmW Xcv s=some res) :
 XaK Tryz.prog 127 0 ⟨⟨127,37,[(0,.string ⟨⟨s⟩⟩)],[.code Xz1],[],false,none⟩,[],[],0⟩ (fun v H _=>Res 0 (XDW res) v H):=by
 unfold XmW at h
 have R1:=@XxM Xcv
 refine Xbg XaJ hS true 3000 ?_
 conv=>whnf
 exact W
def Xdl:XeJ:=XmW Xcv
theorem Xxv:XbA Tryz.prog 127 (s127 Xdl):=by
 have hL:=XBS Xcv (Xal.XaV ⟨Xz8,trivial⟩)
 exact okA ⟨Tryz.f127,rfl,by decide,rfl⟩
end Go.Vm.Code
namespace Go.Vm.Code
open Go Go.Vm
theorem Xqk {s:List UInt8} (h:s.length=16):XcM s=some (Xse s,true):=by
 unfold XcM XkK
 have e1:((s.length:Int)==4)=false:=by rw [h];rfl
 have e2:((s.length:Int)==16)=true:=by rw [h];rfl
 have e3:(s.drop 8).take 8=s.drop 8:=List.take_of_length_le (by simp;omega)
 rw [e1,e2,cond_false,cond_true,XdC (by omega),XdC (by omega),XgZ (p:=0) (k:=8) (by omega) (by omega) (by omega) (by omega),XgZ (p:=8) (k:=8) (by omega) (by omega) (by omega) (by omega)]
 show some ((⟨true,((XdH ((s.drop 0).take 8):Nat):Int),((XdH ((s.drop 8).take 8):Nat):Int)⟩:Xab),true)=_
 rw [e3];rfl
theorem Xr5 {s:List UInt8} (h:s.length=16):Xdl s=some (Xse s,true):=by
 unfold Xdl XmW
 have e1:((s.length:Int)==4)=false:=by rw [h];rfl
 have e2:((s.length:Int)==16)=true:=by rw [h];rfl
 have e3:(s.drop 8).take 8=s.drop 8:=List.take_of_length_le (by simp;omega)
 rw [e1,e2,cond_false,cond_true,Xjj (by omega),Xjj (by omega),XgZ (p:=0) (k:=8) (by omega) (by omega) (by omega) (by omega),XgZ (p:=8) (k:=8) (by omega) (by omega) (by omega) (by omega)]
 show some ((⟨true,((XdH ((s.drop 0).take 8):Nat):Int),((XdH ((s.drop 8).take 8):Nat):Int)⟩:Xab),true)=_
 rw [e3];rfl
def XwV (s:List UInt8) (p:Nat):Xab:=⟨false,0,vK s p 4⟩
theorem aget4 {s:List UInt8} (h:s.length=4):XcM s=some (⟨false,0,vK s 0 4⟩,true):=by
 unfold XcM XkK
 rw [show ((s.length:Int)==4)=true by rw [h];rfl,cond_true,XdC (by omega),XgZ (by omega) (by omega) (by omega) (by omega)];rfl
theorem XE5 {s:List UInt8} (h:s.length=4):Xdl s=some (⟨false,0,vK s 0 4⟩,true):=by
 unfold Xdl XmW
 rw [show ((s.length:Int)==4)=true by rw [h];rfl,cond_true,Xjj (by omega),XgZ (by omega) (by omega) (by omega) (by omega)];rfl
end Go.Vm.Code
namespace Go.Vm.Code
open Go Go.Vm Go.Proofs
set_option maxRecDepth 100000
set_option maxHeartbeats 4000000
set_option linter.unusedVariables false
def Xed (XcM:Xea) (Xaf:Xay) (f:XcS):Option (Xab×Xah):=
 (Xaf f.Reader 4).bind fun t=>
 (XcM t.1).bind fun xg=>
 some ((xg.1,t.2))
def XA8 (x:Xab×Xah):Xcu:=⟨.agg ⟨[.bool x.1.V6,.int .u64 x.1.Hi,.int .u64 x.1.Lo]⟩,[],[some [.string ⟨⟨x.2.s⟩⟩,.bool x.2.made,.bool x.2.bad]]⟩
abbrev Xb0:=XcS→Option (Xab×Xah)
def r135 (g:Xb0):Dec:=dTr 1 (Xg7 0) fun (y0:XcS)=>Xdm (ofG (g y0) XA8)
theorem XPI {g:Xb0} {y0:XcS} {x:Xab×Xah} (hx:g y0=some x):r135 g [.agg ⟨[.pointer (some ⟨0,0,none⟩)]⟩] [some [.string ⟨⟨y0.Reader.s⟩⟩,.bool y0.Reader.made,.bool y0.Reader.bad]]=some (XA8 x):=(Xj3 rfl rfl (Xnq 0 _)).trans (XaX hx)
def s135 (g:Xb0):Xbs:=⟨[.tr [⟨none,0,0,1,none⟩]],r135 g⟩
theorem XJ3 {g:Xb0} {y0:XcS} {x:Xab×Xah} (hx:g y0=some x):(s135 g).run [.agg ⟨[.pointer (some ⟨0,0,none⟩)]⟩] [some [.string ⟨⟨y0.Reader.s⟩⟩,.bool y0.Reader.made,.bool y0.Reader.bad]]=some (XA8 x):=XPI hx
abbrev XJ2 (XcM:Xea) (Xaf:Xay):List (Nat×Xbs):=[(136,s136 XcM),(86,s86 Xaf)]
theorem XCj (XcM:Xea) (Xaf:Xay) (hS:Xal Tryz.prog (XaE (XJ2 XcM Xaf))) (f:XcS) (res:Xab×Xah) (h:Xed XcM Xaf f=some res) :
 XaK Tryz.prog 135 1 ⟨⟨135,13,[(0,.agg ⟨[.pointer (some ⟨0,0,none⟩)]⟩)],[.code XGx],[],false,none⟩,[],[(0,.cells [.string ⟨⟨f.Reader.s⟩⟩,.bool f.Reader.made,.bool f.Reader.bad])],1⟩ (fun v H _=>Res 1 (XA8 res) v H):=by
 unfold Xed at h
 have R1:=@XnQ Xaf
 have R2:=@XAn XcM
 refine Xbg XaJ hS true 3000 ?_
 conv=>whnf
 exact W
def Xbc:Xb0:=Xed XcM Xaf
theorem XKX:XbA Tryz.prog 135 (s135 Xbc):=by
 have hL:=XCj XcM Xaf (Xal.XaV ⟨XxR,Xn1,trivial⟩)
 exact okA ⟨Tryz.f135,rfl,by decide,rfl⟩
def Xjz (XaN:XbO) (Xbc:Xb0) (XaO:XbC) (Xaa:XaD) (Xaf:Xay) (s:List UInt8):Option (Xau×(List UInt8)×Int):=
 cond (decide ((s.length:Int)<20))
  (
  some ((Xau.mk 0 0 false 0 0 (Xab.mk false 0 0) (Xab.mk false 0 0) [],[],2)))
  (
  (XaO s).bind fun n=>
  (Xaa n 1).bind fun n1=>
  (Xaa n1.2 1).bind fun n2=>
  (Xaa n2.2 2).bind fun n3=>
  cond ((n1.1.fdiv (2^4)) !=4)
   (
   some ((Xau.mk 0 0 false 0 0 (Xab.mk false 0 0) (Xab.mk false 0 0) [],[],3)))
   (
   let t:=decide ((wI .i64 ((Xl7 .i64 n1.1 15)*4))<20)
   cond (t)
    (
    some ((Xau.mk 0 0 false 0 0 (Xab.mk false 0 0) (Xab.mk false 0 0) [],[],3)))
    (
    let t1:=decide (n3.1<(wI .i64 ((Xl7 .i64 n1.1 15)*4)))
    cond (t1)
     (
     some ((Xau.mk 0 0 false 0 0 (Xab.mk false 0 0) (Xab.mk false 0 0) [],[],3)))
     (
     cond (decide (n3.1>(s.length:Int)))
      (
      some ((Xau.mk 0 0 false 0 0 (Xab.mk false 0 0) (Xab.mk false 0 0) [],[],2)))
      (
      Xa9 (decide ((0:Int)≤(wI .i64 ((Xl7 .i64 n1.1 15)*4))∧(wI .i64 ((Xl7 .i64 n1.1 15)*4))≤(s.length:Int))) <|
      let t2:=s.take (wI .i64 ((Xl7 .i64 n1.1 15)*4)).toNat
      (XaN t2).bind fun xr=>
      cond (!xr)
       (
       some ((Xau.mk 0 0 false 0 0 (Xab.mk false 0 0) (Xab.mk false 0 0) [],[],4)))
       (
       (Xaa n3.2 2).bind fun n4=>
       (Xaa n4.2 2).bind fun n5=>
       cond ((Xj6 .i64 n5.1 16384) !=0)
        (
        some ((Xau.mk 0 0 false 0 0 (Xab.mk false 0 0) (Xab.mk false 0 0) [],[],7)))
        (
        (Xaa n5.2 1).bind fun n6=>
        (Xaa n6.2 1).bind fun n7=>
        (Xaa n7.2 2).bind fun n8=>
        (Xbc (XcS.mk n8.2)).bind fun a=>
        (Xbc (XcS.mk a.2)).bind fun a1=>
        let t3:=wI .i64 ((wI .i64 ((Xl7 .i64 n1.1 15)*4)) - 20)
        (Xaf a1.2 t3).bind fun t4=>
        let t5:=wI .i64 (n3.1 - (wI .i64 ((Xl7 .i64 n1.1 15)*4)))
        (Xaf t4.2 t5).bind fun t6=>
        some ((Xau.mk n2.1 n4.1 (n5.1 !=0) n6.1 n7.1 a.1 a1.1 t4.1,t6.1,0)))))))))
def XB9 (x:Xau×(List UInt8)×Int):Xcu:=⟨.tuple ⟨[.agg ⟨[.int .i64 x.1.Class,.int .i64 x.1.Mark,.bool x.1.Whole,.int .i64 x.1.TTL,.int .i64 x.1.Proto,.bool x.1.Src.V6,.int .u64 x.1.Src.Hi,.int .u64 x.1.Src.Lo,.bool x.1.Dst.V6,.int .u64 x.1.Dst.Hi,.int .u64 x.1.Dst.Lo,.string ⟨⟨x.1.Options⟩⟩]⟩,.string ⟨⟨x.2.1⟩⟩,.int .i64 x.2.2]⟩,[],[]⟩
abbrev Xey:=(List UInt8)→Option (Xau×(List UInt8)×Int)
def r129 (g:Xey):Dec:=dV asS fun (y0:List UInt8)=>Xdm (ofG (g y0) XB9)
theorem XQw {g:Xey} {y0:List UInt8} {x:Xau×(List UInt8)×Int} (hx:g y0=some x):r129 g [.string ⟨⟨y0⟩⟩] []=some (XB9 x):=(XaY (XcY)).trans (XaX hx)
def s129 (g:Xey):Xbs:=⟨[.v],r129 g⟩
theorem XKr {g:Xey} {y0:List UInt8} {x:Xau×(List UInt8)×Int} (hx:g y0=some x):(s129 g).run [.string ⟨⟨y0⟩⟩] []=some (XB9 x):=XQw hx
abbrev XKw (XaN:XbO) (Xbc:Xb0) (XaO:XbC) (Xaa:XaD) (Xaf:Xay):List (Nat×Xbs):=[(54,s54 XaN),(135,s135 Xbc),(51,s51 XaO),(52,s52 Xaa),(86,s86 Xaf)]
theorem XCP (XaN:XbO) (Xbc:Xb0) (XaO:XbC) (Xaa:XaD) (Xaf:Xay) (hS:Xal Tryz.prog (XaE (XKw XaN Xbc XaO Xaa Xaf))) (s:List UInt8) (res:Xau×(List UInt8)×Int) (h:Xjz XaN Xbc XaO Xaa Xaf s=some res) :
 XaK Tryz.prog 129 0 ⟨⟨129,102,[(0,.string ⟨⟨s⟩⟩)],[.code Xxt],[],false,none⟩,[],[],0⟩ (fun v H _=>Res 0 (XB9 res) v H):=by
 unfold Xjz at h
 have R1:=@XqW XaO
 have R2:=@Xkh Xaa
 have R3:=@Xvs XaN
 have R4:=@XJ3 Xbc
 have R5:=@XnQ Xaf
 refine Xbg XaJ hS true 3000 ?_
 conv=>whnf
 exact W
def Xd2:Xey:=Xjz XaN Xbc XaO Xaa Xaf
theorem XJA:XbA Tryz.prog 129 (s129 Xd2):=by
 have hL:=XCP XaN Xbc XaO Xaa Xaf (Xal.XaV ⟨XuT,XKX,Xqc,XpK,Xn1,trivial⟩)
 exact okA ⟨Tryz.f129,rfl,by decide,rfl⟩
def XoF (Xat:Xbm) (Xb9:Xc4) (Xdl:XeJ) (s:List UInt8):Option (Xau×(List UInt8)×Int):=
 cond (decide ((s.length:Int)<20))
  (
  some ((Xau.mk 0 0 false 0 0 (Xab.mk false 0 0) (Xab.mk false 0 0) [],[],2)))
  (
  (s[0]?).bind fun (b:UInt8)=>
  let t:=wI .i64 (4*(wI .i64 ((b.toNat:Int).tmod 16)))
  (Xat s 2 2).bind fun m=>
  (s[0]?).bind fun (b1:UInt8)=>
  cond ((wI .u8 ((b1.toNat:Int).tdiv 16)) !=4)
   (
   some ((Xau.mk 0 0 false 0 0 (Xab.mk false 0 0) (Xab.mk false 0 0) [],[],3)))
   (
   cond (decide (t<20))
    (
    some ((Xau.mk 0 0 false 0 0 (Xab.mk false 0 0) (Xab.mk false 0 0) [],[],3)))
    (
    cond (decide (m<t))
     (
     some ((Xau.mk 0 0 false 0 0 (Xab.mk false 0 0) (Xab.mk false 0 0) [],[],3)))
     (
     cond (decide ((s.length:Int)<m))
      (
      some ((Xau.mk 0 0 false 0 0 (Xab.mk false 0 0) (Xab.mk false 0 0) [],[],2)))
      (
      Xa9 (decide ((0:Int)≤t∧t≤(s.length:Int))) <|
      (Xb9 (s.take t.toNat)).bind fun s1=>
      cond (s1 !=65535)
       (
       some ((Xau.mk 0 0 false 0 0 (Xab.mk false 0 0) (Xab.mk false 0 0) [],[],4)))
       (
       (s[6]?).bind fun (b2:UInt8)=>
       cond ((b2.toNat:Int) !=0)
        (
        (s[6]?).bind fun (b3:UInt8)=>
        cond ((b3.toNat:Int) !=64)
         (
         some ((Xau.mk 0 0 false 0 0 (Xab.mk false 0 0) (Xab.mk false 0 0) [],[],7)))
         (
         (s[7]?).bind fun (b4:UInt8)=>
         cond ((b4.toNat:Int) !=0)
          (
          some ((Xau.mk 0 0 false 0 0 (Xab.mk false 0 0) (Xab.mk false 0 0) [],[],7)))
          (
          Xa9 (decide ((0:Int)≤(16:Int)∧(16:Int)≤(s.length:Int)∧(0:Int)≤(12:Int)∧(12:Int)≤(16:Int))) <|
          (Xdl ((s.drop 12).take 4)).bind fun xg=>
          Xa9 (decide ((0:Int)≤(20:Int)∧(20:Int)≤(s.length:Int)∧(0:Int)≤(16:Int)∧(16:Int)≤(20:Int))) <|
          (Xdl ((s.drop 16).take 4)).bind fun xg1=>
          (s[1]?).bind fun (b5:UInt8)=>
          (Xat s 4 2).bind fun m1=>
          (s[6]?).bind fun (b6:UInt8)=>
          (s[8]?).bind fun (b7:UInt8)=>
          (s[9]?).bind fun (b8:UInt8)=>
          Xa9 (decide ((0:Int)≤t∧t≤(s.length:Int)∧(0:Int)≤(20:Int)∧(20:Int)≤(t.toNat:Int))) <|
          Xa9 (decide ((0:Int)≤m∧m≤(s.length:Int)∧(0:Int)≤t∧t≤(m.toNat:Int))) <|
          let t1:=(s.drop t.toNat).take (m.toNat - t.toNat)
          some ((Xau.mk (wI .i64 (b5.toNat:Int)) m1 ((b6.toNat:Int)==64) (wI .i64 (b7.toNat:Int)) (wI .i64 (b8.toNat:Int)) xg.1 xg1.1 ((s.drop 20).take (t.toNat - 20)),t1,0)))))
        (
        (s[7]?).bind fun (b9:UInt8)=>
        cond ((b9.toNat:Int) !=0)
         (
         some ((Xau.mk 0 0 false 0 0 (Xab.mk false 0 0) (Xab.mk false 0 0) [],[],7)))
         (
         Xa9 (decide ((0:Int)≤(16:Int)∧(16:Int)≤(s.length:Int)∧(0:Int)≤(12:Int)∧(12:Int)≤(16:Int))) <|
         (Xdl ((s.drop 12).take 4)).bind fun xg2=>
         Xa9 (decide ((0:Int)≤(20:Int)∧(20:Int)≤(s.length:Int)∧(0:Int)≤(16:Int)∧(16:Int)≤(20:Int))) <|
         (Xdl ((s.drop 16).take 4)).bind fun xg3=>
         (s[1]?).bind fun (b10:UInt8)=>
         (Xat s 4 2).bind fun m2=>
         (s[6]?).bind fun (b11:UInt8)=>
         (s[8]?).bind fun (b12:UInt8)=>
         (s[9]?).bind fun (b13:UInt8)=>
         Xa9 (decide ((0:Int)≤t∧t≤(s.length:Int)∧(0:Int)≤(20:Int)∧(20:Int)≤(t.toNat:Int))) <|
         Xa9 (decide ((0:Int)≤m∧m≤(s.length:Int)∧(0:Int)≤t∧t≤(m.toNat:Int))) <|
         let t2:=(s.drop t.toNat).take (m.toNat - t.toNat)
         some ((Xau.mk (wI .i64 (b10.toNat:Int)) m2 ((b11.toNat:Int)==64) (wI .i64 (b12.toNat:Int)) (wI .i64 (b13.toNat:Int)) xg2.1 xg3.1 ((s.drop 20).take (t.toNat - 20)),t2,0))))))))))
def XDi (x:Xau×(List UInt8)×Int):Xcu:=⟨.tuple ⟨[.agg ⟨[.int .i64 x.1.Class,.int .i64 x.1.Mark,.bool x.1.Whole,.int .i64 x.1.TTL,.int .i64 x.1.Proto,.bool x.1.Src.V6,.int .u64 x.1.Src.Hi,.int .u64 x.1.Src.Lo,.bool x.1.Dst.V6,.int .u64 x.1.Dst.Hi,.int .u64 x.1.Dst.Lo,.string ⟨⟨x.1.Options⟩⟩]⟩,.string ⟨⟨x.2.1⟩⟩,.int .i64 x.2.2]⟩,[],[]⟩
abbrev Xgw:=(List UInt8)→Option (Xau×(List UInt8)×Int)
def r110 (g:Xgw):Dec:=dV asS fun (y0:List UInt8)=>Xdm (ofG (g y0) XDi)
theorem XRW {g:Xgw} {y0:List UInt8} {x:Xau×(List UInt8)×Int} (hx:g y0=some x):r110 g [.string ⟨⟨y0⟩⟩] []=some (XDi x):=(XaY (XcY)).trans (XaX hx)
def s110 (g:Xgw):Xbs:=⟨[.v],r110 g⟩
theorem XH6 {g:Xgw} {y0:List UInt8} {x:Xau×(List UInt8)×Int} (hx:g y0=some x):(s110 g).run [.string ⟨⟨y0⟩⟩] []=some (XDi x):=XRW hx
abbrev XJx (Xat:Xbm) (Xb9:Xc4) (Xdl:XeJ):List (Nat×Xbs):=[(62,s62 Xat),(60,s60 Xb9),(127,s127 Xdl)]
theorem XD2 (Xat:Xbm) (Xb9:Xc4) (Xdl:XeJ) (hS:Xal Tryz.prog (XaE (XJx Xat Xb9 Xdl))) (s:List UInt8) (res:Xau×(List UInt8)×Int) (h:XoF Xat Xb9 Xdl s=some res) :
 XaK Tryz.prog 110 0 ⟨⟨110,97,[(0,.string ⟨⟨s⟩⟩)],[.code XAw],[],false,none⟩,[],[],0⟩ (fun v H _=>Res 0 (XDi res) v H):=by
 unfold XoF at h
 have R1:=@Xn4 Xat
 have R2:=@XvM Xb9
 have R3:=@XyG Xdl
 refine Xbg XaJ hS true 3000 ?_
 conv=>whnf
 exact W
def XhC:Xgw:=XoF Xat Xb9 Xdl
theorem XKc:XbA Tryz.prog 110 (s110 XhC):=by
 have hL:=XD2 Xat Xb9 Xdl (Xal.XaV ⟨XpN,Xvr,Xxv,trivial⟩)
 exact okA ⟨Tryz.f110,rfl,by decide,rfl⟩
end Go.Vm.Code
namespace Go.Vm.Code
open Go Go.Vm
def Xpu:Xau:=⟨0,0,false,0,0,⟨false,0,0⟩,⟨false,0,0⟩,[]⟩
def XhN (s:List UInt8):Xau×List UInt8×Int:=
 if s.length<20 then (Xpu,[],2) else if vK s 0 1/16≠4 then (Xpu,[],3) else if vK s 0 1%16*4<20 then (Xpu,[],3) else if vK s 2 2<vK s 0 1%16*4 then (Xpu,[],3) else if (s.length:Int)<vK s 2 2 then (Xpu,[],2) else
  if norm (XcA (s.take (vK s 0 1%16*4).toNat))≠65535 then (Xpu,[],4) else if vK s 6 2≠0∧vK s 6 2≠16384 then (Xpu,[],7) else
   (⟨vK s 1 1,vK s 4 2,vK s 6 2 !=0,vK s 8 1,vK s 9 1,XwV s 12,XwV s 16,(s.drop 20).take ((vK s 0 1%16*4).toNat - 20)⟩,(s.drop (vK s 0 1%16*4).toNat).take ((vK s 2 2).toNat - (vK s 0 1%16*4).toNat),0)
theorem Xzs (s:List UInt8) (p:Nat):vK ((s.drop p).take 4) 0 4=vK s p 4:=by unfold vK;simp [List.take_take]
theorem XTf {s:List UInt8} {p:Nat} (h:p+4≤s.length):Xbc ⟨⟨s.drop p,true,false⟩⟩=some (XwV s p,⟨s.drop (p+4),true,false⟩):=by
 unfold Xbc Xed
 rw [show (4:Int)=((4:Nat):Int) from rfl,Xry h,Option.bind_some,aget4 (by simp;omega),Option.bind_some,Xzs];rfl
theorem g5_eq {s:List UInt8} (hs:s.length<2^38):Xd2 s=some (XhN s):=by
 unfold Xd2 Xjz XhN
 by_cases h0:s.length<20
 ·rw [Xa2 (by omega),if_pos h0];rfl
 rw [XaQ (by omega),if_neg h0,XlK,Option.bind_some]
 have N:∀ (p k:Nat),1≤k→k≤7→p+k≤20→Xaa ⟨s.drop p,true,false⟩ (k:Int)=some (vK s p k,⟨s.drop (p+k),true,false⟩):=fun p k a b c=>XF6 a b (by omega) (by omega)
 have N0:Xaa ⟨s,true,false⟩ 1=some (vK s 0 1,⟨s.drop 1,true,false⟩):=N 0 1 (by omega) (by omega) (by omega)
 have N1:Xaa ⟨s.drop 1,true,false⟩ 1=some (vK s 1 1,⟨s.drop 2,true,false⟩):=N 1 1 (by omega) (by omega) (by omega)
 have N2:Xaa ⟨s.drop 2,true,false⟩ 2=some (vK s 2 2,⟨s.drop 4,true,false⟩):=N 2 2 (by omega) (by omega) (by omega)
 have N4:Xaa ⟨s.drop 4,true,false⟩ 2=some (vK s 4 2,⟨s.drop 6,true,false⟩):=N 4 2 (by omega) (by omega) (by omega)
 have N6:Xaa ⟨s.drop 6,true,false⟩ 2=some (vK s 6 2,⟨s.drop 8,true,false⟩):=N 6 2 (by omega) (by omega) (by omega)
 have N8:Xaa ⟨s.drop 8,true,false⟩ 1=some (vK s 8 1,⟨s.drop 9,true,false⟩):=N 8 1 (by omega) (by omega) (by omega)
 have N9:Xaa ⟨s.drop 9,true,false⟩ 1=some (vK s 9 1,⟨s.drop 10,true,false⟩):=N 9 1 (by omega) (by omega) (by omega)
 have N10:Xaa ⟨s.drop 10,true,false⟩ 2=some (vK s 10 2,⟨s.drop 12,true,false⟩):=N 10 2 (by omega) (by omega) (by omega)
 rw [N0,Option.bind_some,N1,Option.bind_some,N2,Option.bind_some]
 simp only []
 rw [N4]
 simp only [Option.bind_some]
 rw [N6,Xs8,show ((2:Int)^4)=16 from rfl]
 have r0:=XeH s 0 1 256 (by decide)
 have r2:=XeH s 2 2 65536 (by decide)
 have ea:Xl7 .i64 (vK s 0 1) 15=vK s 0 1%16:=XiJ 4 rfl (by omega) (by omega) (by omega)
 rw [ea,Xc5 (n:=vK s 0 1%16*4) (by omega) (by omega)]
 have hz:(⟨0,0,false,0,0,⟨false,0,0⟩,⟨false,0,0⟩,[]⟩:Xau)=Xpu:=rfl
 rw [hz]
 by_cases g1:vK s 0 1/16=4
 ·rw [show (vK s 0 1/16 !=4)=false by simpa using g1,cond_false,if_neg (by simpa using g1)]
  obtain ⟨t,ht⟩:=Int.eq_ofNat_of_zero_le (show 0≤vK s 0 1%16*4 by omega)
  rw [ht]
  simp only [Option.bind_some,Int.toNat_natCast]
  by_cases g2:(t:Int)<20
  ·rw [Xa2 g2,if_pos g2]
  rw [XaQ g2,if_neg g2]
  by_cases g3:vK s 2 2<t
  ·rw [Xa2 g3,if_pos g3]
  rw [XaQ g3,if_neg g3]
  by_cases g4:(s.length:Int)<vK s 2 2
  ·rw [Xa2 (by omega),if_pos g4]
  rw [XaQ (by omega),if_neg g4,XaC (by omega),XoH (by simp;omega),Option.bind_some]
  by_cases g5:norm (XcA (s.take t))=65535
  ·rw [if_neg (by simpa using g5),g5]
   simp only [show ((((65535:Nat):Int)==65535))=true from rfl,Bool.not_true,cond_false]
   have e6:=XzI (s:=s) (p:=6) (by omega)
   rw [show (Xj6 .i64 (vK s 6 2) 16384 !=0)=decide (vK s 6 2≠0∧vK s 6 2≠16384) by rw [e6];exact Xxe,Xu3]
   split
   ·rfl
   obtain ⟨m,hm⟩:=Int.eq_ofNat_of_zero_le r2.1
   rw [N8,Option.bind_some,N9,Option.bind_some,N10,Option.bind_some,XTf (by omega),Option.bind_some,XTf (by omega),Option.bind_some,Xc5 (n:=(t:Int) - 20) (by omega) (by omega),hm,Xc5 (n:=(m:Int) - t) (by omega) (by omega)]
   simp only []
   rw [show (t:Int) - 20=((t - 20:Nat):Int) by omega,show (m:Int) - t=((m - t:Nat):Int) by omega,Xry (by omega),Option.bind_some]
   simp only []
   rw [Xry (by omega),Option.bind_some,show 12+4+4+(t - 20)=t by omega,Int.toNat_natCast]
  ·rw [if_pos (by simpa using g5),show ((((norm (XcA (s.take t)):Nat):Int)==65535))=false by simp;omega];rfl
 ·rw [show (vK s 0 1/16 !=4)=true by simpa using g1,cond_true,if_pos (by simpa using g1)]
theorem XOm {s:List UInt8} (hs:s.length<2^38):XhC s=some (XhN s):=by
 unfold XhC XoF XhN
 by_cases h0:s.length<20
 ·rw [Xa2 (by omega),if_pos h0];rfl
 rw [XaQ (by omega),if_neg h0]
 have G:∀ i:Nat,(h:i<20)→s[i]?=some (s[i]'(by omega)):=fun i h=>List.getElem?_eq_getElem (by omega)
 have M:∀ (p k:Nat),1≤k→k≤7→p+k≤20→Xat s (p:Int) (k:Int)=some (vK s p k):=fun p k a b c=>XqY (by omega) a b (by omega)
 have M2:Xat s 2 2=some (vK s 2 2):=M 2 2 (by omega) (by omega) (by omega)
 have M4:Xat s 4 2=some (vK s 4 2):=M 4 2 (by omega) (by omega) (by omega)
 rw [G 0 (by omega),G 1 (by omega),G 6 (by omega),G 7 (by omega),G 8 (by omega),G 9 (by omega),M2,M4]
 have e0:=Xkg (s:=s) (p:=0) (by omega)
 have e1:=Xkg (s:=s) (p:=1) (by omega)
 have e8:=Xkg (s:=s) (p:=8) (by omega)
 have e9:=Xkg (s:=s) (p:=9) (by omega)
 have e6:vK s 6 2=(s[6].toNat*256+s[7].toNat:Int):=XzI (s:=s) (p:=6) (by omega)
 have r0:=XeH s 0 1 256 (by decide)
 have r1:=XeH s 1 1 256 (by decide)
 have r8:=XeH s 8 1 256 (by decide)
 have r9:=XeH s 9 1 256 (by decide)
 have r2:=XeH s 2 2 65536 (by decide)
 simp only [Option.bind_some]
 rw [←e0,←e1,←e8,←e9,Int.tmod_eq_emod_of_nonneg r0.1,Int.tdiv_eq_ediv_of_nonneg r0.1,Xc5 (n:=vK s 0 1%16) (by omega) (by omega),Xc5 (n:=4*(vK s 0 1%16)) (by omega) (by omega),wU8 (n:=vK s 0 1/16) (by omega) (by omega),Xc5 (n:=vK s 1 1) (by omega) (by omega),Xc5 (n:=vK s 8 1) (by omega) (by omega),Xc5 (n:=vK s 9 1) (by omega) (by omega)]
 have hz:(⟨0,0,false,0,0,⟨false,0,0⟩,⟨false,0,0⟩,[]⟩:Xau)=Xpu:=rfl
 rw [hz,Int.mul_comm 4]
 by_cases g1:vK s 0 1/16=4
 ·rw [show (vK s 0 1/16 !=4)=false by simpa using g1,cond_false,if_neg (by simpa using g1)]
  obtain ⟨t,ht⟩:=Int.eq_ofNat_of_zero_le (show 0≤vK s 0 1%16*4 by omega)
  rw [ht]
  simp only [Int.toNat_natCast]
  by_cases g2:(t:Int)<20
  ·rw [Xa2 g2,if_pos g2]
  rw [XaQ g2,if_neg g2]
  by_cases g3:vK s 2 2<t
  ·rw [Xa2 g3,if_pos g3]
  rw [XaQ g3,if_neg g3]
  by_cases g4:(s.length:Int)<vK s 2 2
  ·rw [Xa2 (by omega),if_pos g4]
  rw [XaQ (by omega),if_neg g4,XaC (by omega),Xk2 (by simp;omega),Option.bind_some]
  by_cases g5:norm (XcA (s.take t))=65535
  ·rw [if_neg (by simpa using g5),g5]
   simp only [show ((((65535:Nat):Int) !=65535))=false from rfl,cond_false]
   have a1:=XE5 (s:=(s.drop 12).take 4) (by simp;omega)
   have a2:=XE5 (s:=(s.drop 16).take 4) (by simp;omega)
   rw [a1,a2,Xzs,Xzs]
   obtain ⟨m,hm⟩:=Int.eq_ofNat_of_zero_le r2.1
   rw [hm]
   simp only [Option.bind_some,Int.toNat_natCast]
   rw [XaC (p:=(0:Int)≤16∧(16:Int)≤(s.length:Int)∧(0:Int)≤12∧(12:Int)≤16) (by omega),XaC (p:=(0:Int)≤20∧(20:Int)≤(s.length:Int)∧(0:Int)≤16∧(16:Int)≤20) (by omega),XaC (p:=(0:Int)≤(t:Int)∧(t:Int)≤(s.length:Int)∧(0:Int)≤20∧(20:Int)≤(t:Int)) (by omega),XaC (p:=(0:Int)≤(m:Int)∧(m:Int)≤(s.length:Int)∧(0:Int)≤(t:Int)∧(t:Int)≤(m:Int)) (by omega)]
   have b6:=s[6].toNat_lt
   have b7:=s[7].toNat_lt
   by_cases k6:(s[6].toNat:Int)=0
   ·rw [show ((s[6].toNat:Int) !=0)=false by simpa using k6,cond_false]
    by_cases k7:(s[7].toNat:Int)=0
    ·rw [show ((s[7].toNat:Int) !=0)=false by simpa using k7,cond_false,if_neg (by rw [e6];omega),show (vK s 6 2 !=0)=false by rw [e6,k6,k7];rfl,k6];rfl
    ·rw [show ((s[7].toNat:Int) !=0)=true by simpa using k7,cond_true,if_pos (by rw [e6];omega)]
   ·rw [show ((s[6].toNat:Int) !=0)=true by simpa using k6,cond_true]
    by_cases k8:(s[6].toNat:Int)=64
    ·rw [show ((s[6].toNat:Int) !=64)=false by rw [k8];rfl,cond_false]
     by_cases k7:(s[7].toNat:Int)=0
     ·rw [show ((s[7].toNat:Int) !=0)=false by simpa using k7,cond_false,if_neg (by rw [e6];omega),show (vK s 6 2 !=0)=true by rw [e6,k8,k7];rfl,k8];rfl
     ·rw [show ((s[7].toNat:Int) !=0)=true by simpa using k7,cond_true,if_pos (by rw [e6];omega)]
    ·rw [show ((s[6].toNat:Int) !=64)=true by simpa using k8,cond_true,if_pos (by rw [e6];omega)]
  ·rw [if_pos (by simpa using g5),show ((((norm (XcA (s.take t)):Nat):Int) !=65535))=true by simp;omega];rfl
 ·rw [show (vK s 0 1/16 !=4)=true by simpa using g1,cond_true,if_pos (by simpa using g1)]
end Go.Vm.Code
namespace Go.Vm.Code
open Go Go.Vm Go.Proofs
set_option maxRecDepth 100000
set_option maxHeartbeats 4000000
set_option linter.unusedVariables false
def XkT (XcM:Xea) (XaO:XbC) (Xai:XaM) (Xaa:XaD) (Xaf:Xay) (s:List UInt8):Option (XaL×(List UInt8)×Int):=
 (XaO s).bind fun n=>
 (Xaa n 4).bind fun n1=>
 (Xaa n1.2 2).bind fun n2=>
 (Xaa n2.2 1).bind fun n3=>
 (Xaa n3.2 1).bind fun n4=>
 (Xaf n4.2 16).bind fun t=>
 (Xaf t.2 16).bind fun t1=>
 (Xai t1.2).bind fun b=>
 cond (b.1)
  (
  some ((XaL.mk 0 0 0 0 (Xab.mk false 0 0) (Xab.mk false 0 0),[],2)))
  (
  cond ((n1.1.fdiv (2^28)) !=6)
   (
   some ((XaL.mk 0 0 0 0 (Xab.mk false 0 0) (Xab.mk false 0 0),[],3)))
   (
   (XcM t.1).bind fun xg=>
   (XcM t1.1).bind fun xg1=>
   (Xaf b.2 n2.1).bind fun t2=>
   (Xai t2.2).bind fun b1=>
   cond (b1.1)
    (
    some ((XaL.mk 0 0 0 0 (Xab.mk false 0 0) (Xab.mk false 0 0),[],2)))
    (
    some ((XaL.mk (Xl7 .i64 (n1.1.fdiv (2^20)) 255) (Xl7 .i64 n1.1 1048575) n3.1 n4.1 xg.1 xg1.1,t2.1,0)))))
def XC1 (x:XaL×(List UInt8)×Int):Xcu:=⟨.tuple ⟨[.agg ⟨[.int .i64 x.1.Class,.int .i64 x.1.Label,.int .i64 x.1.Next,.int .i64 x.1.Hop,.bool x.1.Src.V6,.int .u64 x.1.Src.Hi,.int .u64 x.1.Src.Lo,.bool x.1.Dst.V6,.int .u64 x.1.Dst.Hi,.int .u64 x.1.Dst.Lo]⟩,.string ⟨⟨x.2.1⟩⟩,.int .i64 x.2.2]⟩,[],[]⟩
abbrev Xe1:=(List UInt8)→Option (XaL×(List UInt8)×Int)
def r130 (g:Xe1):Dec:=dV asS fun (y0:List UInt8)=>Xdm (ofG (g y0) XC1)
theorem XNn {g:Xe1} {y0:List UInt8} {x:XaL×(List UInt8)×Int} (hx:g y0=some x):r130 g [.string ⟨⟨y0⟩⟩] []=some (XC1 x):=(XaY (XcY)).trans (XaX hx)
def s130 (g:Xe1):Xbs:=⟨[.v],r130 g⟩
theorem XHk {g:Xe1} {y0:List UInt8} {x:XaL×(List UInt8)×Int} (hx:g y0=some x):(s130 g).run [.string ⟨⟨y0⟩⟩] []=some (XC1 x):=XNn hx
abbrev XG1 (XcM:Xea) (XaO:XbC) (Xai:XaM) (Xaa:XaD) (Xaf:Xay):List (Nat×Xbs):=[(136,s136 XcM),(51,s51 XaO),(95,s95 Xai),(52,s52 Xaa),(86,s86 Xaf)]
theorem XEf (XcM:Xea) (XaO:XbC) (Xai:XaM) (Xaa:XaD) (Xaf:Xay) (hS:Xal Tryz.prog (XaE (XG1 XcM XaO Xai Xaa Xaf))) (s:List UInt8) (res:XaL×(List UInt8)×Int) (h:XkT XcM XaO Xai Xaa Xaf s=some res) :
 XaK Tryz.prog 130 0 ⟨⟨130,59,[(0,.string ⟨⟨s⟩⟩)],[.code XzB],[],false,none⟩,[],[],0⟩ (fun v H _=>Res 0 (XC1 res) v H):=by
 unfold XkT at h
 have R1:=@XqW XaO
 have R2:=@Xkh Xaa
 have R3:=@XnQ Xaf
 have R4:=@Xo5 Xai
 have R5:=@XAn XcM
 refine Xbg XaJ hS true 3000 ?_
 conv=>whnf
 exact W
def XeO:Xe1:=XkT XcM XaO Xai Xaa Xaf
theorem XII:XbA Tryz.prog 130 (s130 XeO):=by
 have hL:=XEf XcM XaO Xai Xaa Xaf (Xal.XaV ⟨XxR,Xqc,Xqy,XpK,Xn1,trivial⟩)
 exact okA ⟨Tryz.f130,rfl,by decide,rfl⟩
def XoE (Xat:Xbm) (Xdl:XeJ) (s:List UInt8):Option (XaL×(List UInt8)×Int):=
 cond (decide ((s.length:Int)<40))
  (
  some ((XaL.mk 0 0 0 0 (Xab.mk false 0 0) (Xab.mk false 0 0),[],2)))
  (
  (Xat s 0 4).bind fun m=>
  (Xat s 4 2).bind fun m1=>
  cond ((wI .i64 (m.tdiv 268435456)) !=6)
   (
   some ((XaL.mk 0 0 0 0 (Xab.mk false 0 0) (Xab.mk false 0 0),[],3)))
   (
   let t:=decide ((wI .i64 ((s.length:Int) - 40))<m1)
   cond (t)
    (
    some ((XaL.mk 0 0 0 0 (Xab.mk false 0 0) (Xab.mk false 0 0),[],2)))
    (
    Xa9 (decide ((0:Int)≤(24:Int)∧(24:Int)≤(s.length:Int)∧(0:Int)≤(8:Int)∧(8:Int)≤(24:Int))) <|
    (Xdl ((s.drop 8).take 16)).bind fun xg=>
    Xa9 (decide ((0:Int)≤(40:Int)∧(40:Int)≤(s.length:Int)∧(0:Int)≤(24:Int)∧(24:Int)≤(40:Int))) <|
    (Xdl ((s.drop 24).take 16)).bind fun xg1=>
    (s[6]?).bind fun (b:UInt8)=>
    (s[7]?).bind fun (b1:UInt8)=>
    Xa9 (decide ((0:Int)≤(wI .i64 (40+m1))∧(wI .i64 (40+m1))≤(s.length:Int)∧(0:Int)≤(40:Int)∧(40:Int)≤((wI .i64 (40+m1)).toNat:Int))) <|
    let t1:=(s.drop 40).take ((wI .i64 (40+m1)).toNat - 40)
    some ((XaL.mk ((wI .i64 (m.tdiv 1048576)).tmod 256) (m.tmod 1048576) (wI .i64 (b.toNat:Int)) (wI .i64 (b1.toNat:Int)) xg.1 xg1.1,t1,0)))))
def XAR (x:XaL×(List UInt8)×Int):Xcu:=⟨.tuple ⟨[.agg ⟨[.int .i64 x.1.Class,.int .i64 x.1.Label,.int .i64 x.1.Next,.int .i64 x.1.Hop,.bool x.1.Src.V6,.int .u64 x.1.Src.Hi,.int .u64 x.1.Src.Lo,.bool x.1.Dst.V6,.int .u64 x.1.Dst.Hi,.int .u64 x.1.Dst.Lo]⟩,.string ⟨⟨x.2.1⟩⟩,.int .i64 x.2.2]⟩,[],[]⟩
abbrev XgB:=(List UInt8)→Option (XaL×(List UInt8)×Int)
def r111 (g:XgB):Dec:=dV asS fun (y0:List UInt8)=>Xdm (ofG (g y0) XAR)
theorem XQI {g:XgB} {y0:List UInt8} {x:XaL×(List UInt8)×Int} (hx:g y0=some x):r111 g [.string ⟨⟨y0⟩⟩] []=some (XAR x):=(XaY (XcY)).trans (XaX hx)
def s111 (g:XgB):Xbs:=⟨[.v],r111 g⟩
theorem XKK {g:XgB} {y0:List UInt8} {x:XaL×(List UInt8)×Int} (hx:g y0=some x):(s111 g).run [.string ⟨⟨y0⟩⟩] []=some (XAR x):=XQI hx
abbrev XIv (Xat:Xbm) (Xdl:XeJ):List (Nat×Xbs):=[(62,s62 Xat),(127,s127 Xdl)]
theorem XEn (Xat:Xbm) (Xdl:XeJ) (hS:Xal Tryz.prog (XaE (XIv Xat Xdl))) (s:List UInt8) (res:XaL×(List UInt8)×Int) (h:XoE Xat Xdl s=some res) :
 XaK Tryz.prog 111 0 ⟨⟨111,59,[(0,.string ⟨⟨s⟩⟩)],[.code XAI],[],false,none⟩,[],[],0⟩ (fun v H _=>Res 0 (XAR res) v H):=by
 unfold XoE at h
 have R1:=@Xn4 Xat
 have R2:=@XyG Xdl
 refine Xbg XaJ hS true 3000 ?_
 conv=>whnf
 exact W
def Xhs:XgB:=XoE Xat Xdl
theorem XJ7:XbA Tryz.prog 111 (s111 Xhs):=by
 have hL:=XEn Xat Xdl (Xal.XaV ⟨XpN,Xxv,trivial⟩)
 exact okA ⟨Tryz.f111,rfl,by decide,rfl⟩
end Go.Vm.Code
namespace Go.Vm.Code
open Go Go.Vm
def zero6:XaL:=⟨0,0,0,0,⟨false,0,0⟩,⟨false,0,0⟩⟩
def Xq8 (s:List UInt8):XaL:=
 let m:=XdH (s.take 4)
 ⟨((m/2^20%256:Nat):Int),((m%2^20:Nat):Int),((XdH ((s.drop 6).take 1):Nat):Int),((XdH ((s.drop 7).take 1):Nat):Int),Xse ((s.drop 8).take 16),Xse ((s.drop 24).take 16)⟩
def Xjd (s:List UInt8):XaL×List UInt8×Int:=
 if s.length<40 then (zero6,[],2) else if XdH (s.take 4)/2^28≠6 then (zero6,[],3) else if s.length - 40<XdH ((s.drop 4).take 2) then (zero6,[],2) else
  (Xq8 s,(s.drop 40).take (XdH ((s.drop 4).take 2)),0)
theorem XJc {s:List UInt8} (h:s.length<2^60):XeO s=some (Xjd s):=by
 unfold XeO XkT
 rw [XlK,Option.bind_some]
 by_cases hs:s.length<40
 ·have e:Xjd s=(zero6,[],2):=by unfold Xjd;rw [if_pos hs]
  rw [Xds rfl (by simp only [];omega),Option.bind_some]
  simp only []
  have b1:∀ (r:Xah) (k:Int),(rdr r k).s.length≤r.s.length:=by intro r k;unfold rdr;split<;>simp
  have l1:=b1 ⟨s,true,false⟩ (if (4:Int)<1∨(4:Int)>7 then -1 else 4)
  simp only at l1
  generalize hr1:rdr ⟨s,true,false⟩ (if (4:Int)<1∨(4:Int)>7 then -1 else 4)=r1 at *
  have m1:r1.made=true:=by rw [←hr1];exact XeD _ _
  rw [Xds m1 (by omega),Option.bind_some]
  simp only []
  have l2:=b1 r1 (if (2:Int)<1∨(2:Int)>7 then -1 else 2)
  generalize hr2:rdr r1 (if (2:Int)<1∨(2:Int)>7 then -1 else 2)=r2 at *
  have m2:r2.made=true:=by rw [←hr2];exact XeD _ _
  rw [Xds m2 (by omega),Option.bind_some]
  simp only []
  have l3:=b1 r2 (if (1:Int)<1∨(1:Int)>7 then -1 else 1)
  generalize hr3:rdr r2 (if (1:Int)<1∨(1:Int)>7 then -1 else 1)=r3 at *
  have m3:r3.made=true:=by rw [←hr3];exact XeD _ _
  rw [Xds m3 (by omega),Option.bind_some]
  simp only []
  have l4:=b1 r3 (if (1:Int)<1∨(1:Int)>7 then -1 else 1)
  generalize hr4:rdr r3 (if (1:Int)<1∨(1:Int)>7 then -1 else 1)=r4 at *
  have m4:r4.made=true:=by rw [←hr4];exact XeD _ _
  rw [XfO m4,Option.bind_some]
  simp only []
  generalize hr5:rdr r4 16=r5 at *
  have m5:r5.made=true:=by rw [←hr5];exact XeD _ _
  rw [XfO m5,Option.bind_some]
  simp only []
  generalize hr6:rdr r5 16=r6 at *
  have m6:r6.made=true:=by rw [←hr6];exact XeD _ _
  rw [Xfp m6,Option.bind_some]
  have hb:r6.bad=true:=by
   cases hb:r6.bad with
   | true=>rfl
   | false=>
     exfalso
     obtain ⟨a5,n6⟩:=XhP hr6 hb
     obtain ⟨a4,n5⟩:=XhP hr5 a5
     obtain ⟨a3,n4⟩:=XhP hr4 a4
     obtain ⟨a2,n3⟩:=XhP hr3 a3
     obtain ⟨a1,n2⟩:=XhP hr2 a2
     obtain ⟨a0,n1⟩:=XhP hr1 a1
     rw [show (if (4:Int)<1∨(4:Int)>7 then -1 else 4:Int)=4 by decide] at n1
     simp only at n1
     omega
  simp only [hb,cond_true]
  rw [e];rfl
 ·have i4:(if (4:Int)<1∨(4:Int)>7 then -1 else 4:Int)=4:=by decide
  have i2:(if (2:Int)<1∨(2:Int)>7 then -1 else 2:Int)=2:=by decide
  have i1:(if (1:Int)<1∨(1:Int)>7 then -1 else 1:Int)=1:=by decide
  have t4:(4:Int).toNat=4:=rfl
  have t2:(2:Int).toNat=2:=rfl
  have t1:(1:Int).toNat=1:=rfl
  have t16:(16:Int).toNat=16:=rfl
  rw [Xds rfl (by simp only [];omega),Option.bind_some]
  simp only [rdn,i4]
  rw [Xf6 (by omega) (by omega),Xf7 (by omega) (by omega),t4]
  rw [Xds rfl (by simp;omega),Option.bind_some]
  simp only [rdn,i2]
  rw [Xf6 (by omega) (by simp;omega),Xf7 (by omega) (by simp;omega),t2,List.drop_drop]
  rw [Xds rfl (by simp;omega),Option.bind_some]
  simp only [rdn,i1]
  rw [Xf6 (by omega) (by simp;omega),Xf7 (by omega) (by simp;omega),t1,List.drop_drop]
  rw [Xds rfl (by simp;omega),Option.bind_some]
  simp only [rdn,i1]
  rw [Xf6 (by omega) (by simp;omega),Xf7 (by omega) (by simp;omega),t1,List.drop_drop]
  rw [XfO rfl,Option.bind_some]
  simp only []
  rw [Xf6 (by omega) (by simp;omega),Xf7 (by omega) (by simp;omega),t16,List.drop_drop]
  rw [XfO rfl,Option.bind_some]
  simp only []
  rw [Xf6 (by omega) (by simp;omega),Xf7 (by omega) (by simp;omega),t16,List.drop_drop]
  rw [Xfp rfl,Option.bind_some]
  simp only [cond_false,Nat.reduceAdd]
  have v4:XdH (s.take 4)<2^32:=Xc9 _ (by decide)
  have v2:XdH ((s.drop 4).take 2)<2^16:=Xc9 _ (by decide)
  unfold Xjd
  rw [if_neg hs]
  have e1:((((XdH (s.take 4):Nat):Int).fdiv (2^28)) !=6)=decide (XdH (s.take 4)/2^28≠6):=by
   rw [Xs8,Bool.eq_iff_iff,bne_iff_ne,decide_eq_true_eq];omega
  rw [e1]
  by_cases h6:XdH (s.take 4)/2^28≠6
  ·rw [Xa2 h6,if_pos h6];rfl
  rw [XaQ h6,if_neg h6]
  rw [Xqk (by simp;omega),Xqk (by simp;omega)]
  simp only [Option.bind_some]
  rw [XfO rfl,Option.bind_some]
  by_cases hn:s.length - 40<XdH ((s.drop 4).take 2)
  ·rw [Xfp (XeD _ _),Option.bind_some]
   have hb:(rdr ⟨s.drop 40,true,false⟩ ((XdH ((s.drop 4).take 2):Nat):Int)).bad=true:=by
    cases hb:(rdr ⟨s.drop 40,true,false⟩ ((XdH ((s.drop 4).take 2):Nat):Int)).bad with
    | true=>rfl
    | false=>
      exfalso
      obtain ⟨_,_,c⟩:=Xui.1 hb
      simp at c;omega
   simp only [hb,cond_true]
   rw [if_pos hn];rfl
  ·rw [Xf6 (by omega) (by simp;omega),Xf7 (by omega) (by simp;omega),Xfp rfl,Option.bind_some]
   simp only [cond_false,Int.toNat_natCast]
   rw [if_neg hn]
   unfold Xq8
   simp only []
   have e2:Xl7 .i64 ((((XdH (s.take 4):Nat):Int)).fdiv (2^20)) 255=((XdH (s.take 4)/2^20%256:Nat):Int):=by
    rw [Xs8,XiJ (m:=255) 8 (by decide) (by decide) (by omega) (by omega)];omega
   have e3:Xl7 .i64 ((XdH (s.take 4):Nat):Int) 1048575=((XdH (s.take 4)%2^20:Nat):Int):=by
    rw [XiJ (m:=1048575) 20 (by decide) (by decide) (by omega) (by omega)];omega
   rw [e2,e3]
theorem XD3 {s:List UInt8} (h:s.length<2^60):Xhs s=some (Xjd s):=by
 unfold Xhs XoE Xjd
 by_cases hs:s.length<40
 ·rw [Xa2 (by omega),if_pos hs];rfl
 rw [XaQ (by omega),if_neg hs]
 have v4:XdH (s.take 4)<2^32:=Xc9 _ (by decide)
 have v2:XdH ((s.drop 4).take 2)<2^16:=Xc9 _ (by decide)
 rw [Xhn (by omega),Xhn (by omega),XgZ (p:=0) (k:=4) (by omega) (by omega) (by omega) (by omega),XgZ (p:=4) (k:=2) (by omega) (by omega) (by omega) (by omega)]
 simp only [Option.bind_some,show (0:Int).toNat=0 from rfl,show (4:Int).toNat=4 from rfl,show (2:Int).toNat=2 from rfl,List.drop_zero]
 rw [Xc5 (n:=((XdH (s.take 4):Nat):Int)) (by omega) (by omega),Xc5 (n:=((XdH ((s.drop 4).take 2):Nat):Int)) (by omega) (by omega)]
 have e1:((wI .i64 ((((XdH (s.take 4):Nat):Int)).tdiv 268435456)) !=6)=decide (XdH (s.take 4)/2^28≠6):=by
  rw [Int.tdiv_eq_ediv_of_nonneg (by omega),Xc5 (by omega) (by omega),Bool.eq_iff_iff,bne_iff_ne,decide_eq_true_eq];omega
 rw [e1]
 by_cases h6:XdH (s.take 4)/2^28≠6
 ·rw [Xa2 h6,if_pos h6];rfl
 rw [XaQ h6,if_neg h6,Xc5 (n:=(s.length:Int) - 40) (by omega) (by omega)]
 by_cases hn:s.length - 40<XdH ((s.drop 4).take 2)
 ·rw [Xa2 (by omega),if_pos hn];rfl
 rw [XaQ (by omega),if_neg hn,XaC (by omega),Xr5 (by simp;omega),Option.bind_some,XaC (by omega),Xr5 (by simp;omega),Option.bind_some,List.getElem?_eq_getElem (by omega:6<s.length),Option.bind_some,
  List.getElem?_eq_getElem (by omega:7<s.length),Option.bind_some,Xc5 (n:=40+((XdH ((s.drop 4).take 2):Nat):Int)) (by omega) (by omega),XaC (by omega)]
 have b6:=s[6].toNat_lt
 have b7:=s[7].toNat_lt
 have e6:(s.drop 6).take 1=[s[6]]:=by rw [List.drop_eq_getElem_cons (by omega:6<s.length)];rfl
 have e7:(s.drop 7).take 1=[s[7]]:=by rw [List.drop_eq_getElem_cons (by omega:7<s.length)];rfl
 have e8:(40+((XdH ((s.drop 4).take 2):Nat):Int)).toNat - 40=XdH ((s.drop 4).take 2):=by omega
 unfold Xq8
 simp only [e6,e7,e8,XfL,XIP]
 rw [Int.tdiv_eq_ediv_of_nonneg (by omega),Xc5 (n:=((XdH (s.take 4):Nat):Int)/1048576) (by omega) (by omega),Int.tmod_eq_emod_of_nonneg (by omega),Int.tmod_eq_emod_of_nonneg (by omega),Xc5 (n:=(s[6].toNat:Int)) (by omega) (by omega),Xc5 (n:=(s[7].toNat:Int)) (by omega) (by omega)]
 simp
end Go.Vm.Code
namespace Go.Vm.Code
open Go Go.Vm Go.Proofs
set_option maxRecDepth 100000
set_option maxHeartbeats 4000000
set_option linter.unusedVariables false
def Xgq (Xaw:Xbk) (text:List UInt8) (i:Int):Option (Sum Int (Int×Int×Int)):=
 cond (decide (i<(text.length:Int)))
  (
  Xa9 (decide (0≤i)) <|
  (text[i.toNat]?).bind fun (b:UInt8)=>
  cond ((b.toNat:Int)==0)
   (
   some (.inr ((0,0,(-1)))))
   (
   cond ((b.toNat:Int)==1)
    (
    some (.inl (wI .i64 (i+1))))
    (
    let t:=decide ((wI .i64 (i+1))<(text.length:Int))
    cond (t)
     (
     Xa9 (decide (0≤(wI .i64 (i+1)))) <|
     (text[(wI .i64 (i+1)).toNat]?).bind fun (b1:UInt8)=>
     cond (decide ((wI .i64 (b1.toNat:Int))<2))
      (
      some (.inr ((0,0,(-1)))))
      (
      let t1:=decide ((wI .i64 (b1.toNat:Int))>(wI .i64 ((text.length:Int) - i)))
      cond (t1)
       (
       some (.inr ((0,0,(-1)))))
       (
       Xa9 (decide (0≤i)) <|
       (text[i.toNat]?).bind fun (b2:UInt8)=>
       Xa9 (decide ((0:Int)≤(wI .i64 (i+(wI .i64 (b1.toNat:Int))))∧(wI .i64 (i+(wI .i64 (b1.toNat:Int))))≤(text.length:Int)∧(0:Int)≤(wI .i64 (i+2))∧(wI .i64 (i+2))≤((wI .i64 (i+(wI .i64 (b1.toNat:Int)))).toNat:Int))) <|
       let t2:=(text.drop (wI .i64 (i+2)).toNat).take ((wI .i64 (i+(wI .i64 (b1.toNat:Int)))).toNat - (wI .i64 (i+2)).toNat)
       cond ((wI .i64 (b2.toNat:Int)) !=8)
        (
        some (.inl (wI .i64 (i+(wI .i64 (b1.toNat:Int))))))
        (
        (Xaw t2 0 8).bind fun xg=>
        cond (xg.2)
         (
         cond ((t2.length:Int)==8)
          (
          some (.inr ((wI .u32 (xg.1.fdiv (2^32)),wI .u32 xg.1,wI .i64 (i+2)))))
          (
          some (.inr ((0,0,(-1))))))
         (
         some (.inr ((0,0,(-1)))))))))
     (
     some (.inr ((0,0,(-1))))))))
  (
  some (.inr ((0,0,(-1)))))
def XkO (Xaw:Xbk) (XcT:XdP) (text:List UInt8):Option (Int×Int×Int):=
 (XcT text).bind fun l=>
 cond (l.2 !=0)
  (
  some ((0,0,(-1))))
  (
  iter (fun st=>Xgq Xaw text st) FUEL 0)
def XMj (x:Int×Int×Int):Xcu:=⟨.tuple ⟨[.int .u32 x.1,.int .u32 x.2.1,.int .i64 x.2.2]⟩,[],[]⟩
abbrev XcO:=(List UInt8)→Option (Int×Int×Int)
def r91 (g:XcO):Dec:=dV asS fun (y0:List UInt8)=>Xdm (ofG (g y0) XMj)
theorem r91_c {g:XcO} {y0:List UInt8} {x:Int×Int×Int} (hx:g y0=some x):r91 g [.string ⟨⟨y0⟩⟩] []=some (XMj x):=(XaY (XcY)).trans (XaX hx)
def s91 (g:XcO):Xbs:=⟨[.v],r91 g⟩
theorem Xxy {g:XcO} {y0:List UInt8} {x:Int×Int×Int} (hx:g y0=some x):(s91 g).run [.string ⟨⟨y0⟩⟩] []=some (XMj x):=r91_c hx
abbrev XET (Xaw:Xbk) (XcT:XdP):List (Nat×Xbs):=[(69,s69 Xaw),(119,s119 XcT)]
def Xk9 (text:List UInt8) (i:Int):VM:=
 ⟨⟨133,62,[(0,.func (.yield 6) #[] #[]),(1,.pointer (some ⟨4,0,none⟩)),(3,.int .i64 i)],[.code Xpz,.inLoop Xpz,.inBlock 0],[],false,none⟩,[⟨91,46,[(2,.pointer (some ⟨0,0,none⟩)),(3,.pointer (some ⟨1,0,none⟩)),(4,.pointer (some ⟨2,0,none⟩))],[.inRangeFunc 6,.inBlock 0,.code XFG],[5],false,none⟩],[(0,.cells [.int .u32 0]),(1,.cells [.int .u32 0]),(2,.cells [.int .i64 0]),(4,.cells [.string ⟨⟨text⟩⟩]),(5,.marks),(6,.loop ⟨.ready,none,91,46,[(2,.pointer (some ⟨0,0,none⟩)),(3,.pointer (some ⟨1,0,none⟩)),(4,.pointer (some ⟨2,0,none⟩))],[19],XNB,XGH,5⟩)],7⟩
theorem XCE (Xaw:Xbk) (XcT:XdP) (hS:Xal Tryz.prog (XaE (XET Xaw XcT))) (text:List UInt8) (res:Int×Int×Int):∀ fuel (st:Int) (o:Int×Int×Int),iter (fun st=>Xgq Xaw text st) fuel st=some o→(o=res) →
 XaK Tryz.prog 91 0 (Xk9 text st) (fun v H _=>Res 0 (XMj res) v H):=by
 intro fuel st o h hc
 refine XcZ (head:=fun st=>Xk9 text st) (C:=fun o=>(o=res)) ?_ fuel st o h hc
 clear h hc o st fuel
 intro i o h hc
 replace h:Xgq Xaw text i=some o:=h
 show XaK Tryz.prog 91 0 (Xk9 text i) (fun v H _=>Res 0 (XMj res) v H)
 unfold Xgq at h
 have R1:=@XpF Xaw
 refine Xbg XaJ hS true 3000 ?_
 conv=>whnf
 refine br.h2 h (by rfl) ?_ ?_
 ·clear h;intro hb h;conv=>whnf
  exact W
 clear h;intro hb h;conv=>whnf
 replace h:=Xa9.elim h;obtain ⟨hb,h⟩:=h
 try (refine req.intro hb ?_;conv=>whnf)
 replace h:=Xdv.elim h;obtain ⟨b,hy,h⟩:=h
 refine rdS.intro hy ?_
 conv=>whnf
 refine br.h h (by rfl) ?_ ?_
 ·clear h;intro hb h;conv=>whnf
  exact W
 clear h;intro hb h;conv=>whnf
 refine br.h h (by rfl) ?_ ?_
 ·clear h;intro hb h;conv=>whnf
  cases h;simp only [Sum.elim_inl,Xk9] at hc
  exact XwY hc [(0,0),(1,1),(2,2),(4,4),(5,5),(6,6)] rfl
 clear h;intro hb h;conv=>whnf
 let t:Bool:=decide ((wI .i64 (i+1))<(text.length:Int))
 refine br.h2 h (by rfl) ?_ ?_
 ·clear h;intro hb h;conv=>whnf
  exact W
 clear h;intro hb h;conv=>whnf
 replace h:=Xa9.elim h;obtain ⟨hb,h⟩:=h
 try (refine req.intro hb ?_;conv=>whnf)
 replace h:=Xdv.elim h;obtain ⟨b1,hy,h⟩:=h
 refine rdS.intro hy ?_
 conv=>whnf
 refine br.h h (by rfl) ?_ ?_
 ·clear h;intro hb h;conv=>whnf
  exact W
 clear h;intro hb h;conv=>whnf
 let t1:Bool:=decide ((wI .i64 (b1.toNat:Int))>(wI .i64 ((text.length:Int) - i)))
 refine br.h h (by rfl) ?_ ?_
 ·clear h;intro hb h;conv=>whnf
  exact W
 clear h;intro hb h;conv=>whnf
 replace h:=Xa9.elim h;obtain ⟨hb,h⟩:=h
 try (refine req.intro hb ?_;conv=>whnf)
 replace h:=Xdv.elim h;obtain ⟨b2,hy,h⟩:=h
 refine rdS.intro hy ?_
 conv=>whnf
 replace h:=Xa9.elim h;obtain ⟨hb,h⟩:=h
 try (refine req.intro hb ?_;conv=>whnf)
 let t2:List UInt8:=(text.drop (wI .i64 (i+2)).toNat).take ((wI .i64 (i+(wI .i64 (b1.toNat:Int)))).toNat - (wI .i64 (i+2)).toNat)
 refine br.h h (by rfl) ?_ ?_
 ·clear h;intro hb h;conv=>whnf
  cases h;simp only [Sum.elim_inl,Xk9] at hc
  exact XwY hc [(0,0),(1,1),(2,2),(4,4),(5,5),(6,6)] rfl
 clear h;intro hb h;conv=>whnf
 exact W
theorem XH7 (Xaw:Xbk) (XcT:XdP) (hS:Xal Tryz.prog (XaE (XET Xaw XcT))) (text:List UInt8) (res:Int×Int×Int) (h:XkO Xaw XcT text=some res) :
 XaK Tryz.prog 91 0 ⟨⟨91,46,[(0,.string ⟨⟨text⟩⟩)],[.code XGr],[],false,none⟩,[],[],0⟩ (fun v H _=>Res 0 (XMj res) v H):=by
 unfold XkO at h
 refine Xbg XaJ hS true 3000 ?_
 conv=>whnf
 replace h:=Xdv.elim h;obtain ⟨l,hy,h⟩:=h
 refine Xgn.a (Xzm hy) ?_
 conv=>whnf
 refine br.h h (by rfl) ?_ ?_
 ·clear h;intro hb h;conv=>whnf
  exact W
 clear h;intro hb h;conv=>whnf
 have hl:=XCE Xaw XcT hS _ res _ _ _ h rfl;simp only [Xk9] at hl
 exact XwY hl [(0,0),(1,1),(2,2),(4,4),(5,5),(6,6)] rfl
def XbE:XcO:=XkO Xaw XcT
theorem XzX:XbA Tryz.prog 91 (s91 XbE):=by
 have hL:=XH7 Xaw XcT (Xal.XaV ⟨Xqm,Xxb,trivial⟩)
 exact okA ⟨Tryz.f91,rfl,by decide,rfl⟩
def XgI (Xat:Xbm) (l:(List Xcr)×Int) (i:Int):Option (Sum Int (Int×Int×Int)):=
 cond (decide (i<(l.1.length:Int)))
  (
  Xa9 (decide ((0:Int)≤i∧i<(l.1.length:Int))) <|
  (l.1[i.toNat]?).bind fun (e:Xcr)=>
  cond (e.Kind==8)
   (
   Xa9 (decide ((0:Int)≤i∧i<(l.1.length:Int))) <|
   cond ((e.Data.length:Int) !=8)
    (
    some (.inr ((0,0,(-1)))))
    (
    Xa9 (decide ((0:Int)≤i∧i<(l.1.length:Int))) <|
    (Xat e.Data 0 4).bind fun m=>
    Xa9 (decide ((0:Int)≤i∧i<(l.1.length:Int))) <|
    (Xat e.Data 4 4).bind fun m1=>
    Xa9 (decide ((0:Int)≤i∧i<(l.1.length:Int))) <|
    some (.inr ((wI .u32 m,wI .u32 m1,e.At)))))
   (
   some (.inl (wI .i64 (i+1)))))
  (
  some (.inr ((0,0,(-1)))))
def XkP (Xat:Xbm) (XcU:XdR) (options:List UInt8):Option (Int×Int×Int):=
 (XcU options).bind fun l=>
 iter (fun st=>XgI Xat l st) FUEL 0
def XMi (x:Int×Int×Int):Xcu:=⟨.tuple ⟨[.int .u32 x.1,.int .u32 x.2.1,.int .i64 x.2.2]⟩,[],[]⟩
abbrev Xfc:=(List UInt8)→Option (Int×Int×Int)
def r83 (g:Xfc):Dec:=dV asS fun (y0:List UInt8)=>Xdm (ofG (g y0) XMi)
theorem r83_c {g:Xfc} {y0:List UInt8} {x:Int×Int×Int} (hx:g y0=some x):r83 g [.string ⟨⟨y0⟩⟩] []=some (XMi x):=(XaY (XcY)).trans (XaX hx)
def s83 (g:Xfc):Xbs:=⟨[.v],r83 g⟩
theorem XRy {g:Xfc} {y0:List UInt8} {x:Int×Int×Int} (hx:g y0=some x):(s83 g).run [.string ⟨⟨y0⟩⟩] []=some (XMi x):=r83_c hx
abbrev XE4 (Xat:Xbm) (XcU:XdR):List (Nat×Xbs):=[(62,s62 Xat),(112,s112 XcU)]
def Xl3 (l:(List Xcr)×Int) (i:Int):VM:=
 ⟨⟨83,51,[(5,.slice (some ⟨0,0,none⟩) l.1.length 3),(7,.int .i64 i)],[.code XxK,.inLoop XxK,.inBlock 0,.code XGQ],[],false,none⟩,[],[(0,.row true (vT XfS l.1))],1⟩
theorem XEx (Xat:Xbm) (XcU:XdR) (hS:Xal Tryz.prog (XaE (XE4 Xat XcU))) (l:(List Xcr)×Int) (res:Int×Int×Int):∀ fuel (st:Int) (o:Int×Int×Int),iter (fun st=>XgI Xat l st) fuel st=some o→(o=res) →
 XaK Tryz.prog 83 0 (Xl3 l st) (fun v H _=>Res 0 (XMi res) v H):=by
 intro fuel st o h hc
 refine XcZ (head:=fun st=>Xl3 l st) (C:=fun o=>(o=res)) ?_ fuel st o h hc
 clear h hc o st fuel
 intro i o h hc
 replace h:XgI Xat l i=some o:=h
 show XaK Tryz.prog 83 0 (Xl3 l i) (fun v H _=>Res 0 (XMi res) v H)
 unfold XgI at h
 refine Xbg XaJ hS true 3000 ?_
 conv=>whnf
 refine br.h2 h (by rfl) ?_ ?_
 ·clear h;intro hb h;conv=>whnf
  exact W
 clear h;intro hb h;conv=>whnf
 replace h:=Xa9.elim h;obtain ⟨hb,h⟩:=h
 try (refine req.intro hb ?_;conv=>whnf)
 replace h:=Xdv.elim h;obtain ⟨e,hy,h⟩:=h
 refine rd.T (j:=0) XcN hy (by first|omega|exact Nat.zero_add _|exact congrArg (·+_) (Nat.zero_add _)) (by decide) rfl ?_
 conv=>whnf
 refine br.h2 h (by rfl) ?_ ?_
 ·clear h;intro hb h;conv=>whnf
  cases h;simp only [Sum.elim_inl,Xl3] at hc
  exact Xn0 hc [(0,0)] rfl
 clear h;intro hb h;conv=>whnf
 replace h:=Xa9.elim h;obtain ⟨hb,h⟩:=h
 try (refine req.intro hb ?_;conv=>whnf)
 refine rd.T (i:=i.toNat) (x:=e) (j:=1) XcN (by assumption) (by first|omega|exact Nat.zero_add _|exact congrArg (·+_) (Nat.zero_add _)) (by decide) rfl ?_
 conv=>whnf
 refine br.h h (by rfl) ?_ ?_
 ·clear h;intro hb h;conv=>whnf
  exact W
 clear h;intro hb h;conv=>whnf
 replace h:=Xa9.elim h;obtain ⟨hb,h⟩:=h
 try (refine req.intro hb ?_;conv=>whnf)
 refine rd.T (i:=i.toNat) (x:=e) (j:=1) XcN (by assumption) (by first|omega|exact Nat.zero_add _|exact congrArg (·+_) (Nat.zero_add _)) (by decide) rfl ?_
 conv=>whnf
 replace h:=Xdv.elim h;obtain ⟨m,hy,h⟩:=h
 refine Xgn.a (Xn4 hy) ?_
 conv=>whnf
 replace h:=Xa9.elim h;obtain ⟨hb,h⟩:=h
 try (refine req.intro hb ?_;conv=>whnf)
 refine rd.T (i:=i.toNat) (x:=e) (j:=1) XcN (by assumption) (by first|omega|exact Nat.zero_add _|exact congrArg (·+_) (Nat.zero_add _)) (by decide) rfl ?_
 conv=>whnf
 replace h:=Xdv.elim h;obtain ⟨m1,hy,h⟩:=h
 refine Xgn.a (Xn4 hy) ?_
 conv=>whnf
 replace h:=Xa9.elim h;obtain ⟨hb,h⟩:=h
 try (refine req.intro hb ?_;conv=>whnf)
 refine rd.T (i:=i.toNat) (x:=e) (j:=2) XcN (by assumption) (by first|omega|exact Nat.zero_add _|exact congrArg (·+_) (Nat.zero_add _)) (by decide) rfl ?_
 conv=>whnf
 exact W
theorem XIB (Xat:Xbm) (XcU:XdR) (hS:Xal Tryz.prog (XaE (XE4 Xat XcU))) (options:List UInt8) (res:Int×Int×Int) (h:XkP Xat XcU options=some res) :
 XaK Tryz.prog 83 0 ⟨⟨83,51,[(0,.string ⟨⟨options⟩⟩)],[.code XEW],[],false,none⟩,[],[],0⟩ (fun v H _=>Res 0 (XMi res) v H):=by
 unfold XkP at h
 refine Xbg XaJ hS true 3000 ?_
 conv=>whnf
 replace h:=Xdv.elim h;obtain ⟨l,hy,h⟩:=h
 refine Xgn.a (XzQ hy) ?_
 conv=>whnf
 have hl:=XEx Xat XcU hS _ res _ _ _ h rfl;simp only [Xl3] at hl
 exact Xn0 hl [(0,0)] rfl
def XeU:Xfc:=XkP Xat XcU
theorem XO4:XbA Tryz.prog 83 (s83 XeU):=by
 have hL:=XIB Xat XcU (Xal.XaV ⟨XpN,Xxm,trivial⟩)
 exact okA ⟨Tryz.f83,rfl,by decide,rfl⟩
def XiN (XcE:XeK) (val:Int) (echo:Int):Option (List UInt8):=
 (XcE (wI .i64 val) 4).bind fun n=>
 Xa9 (decide (4+n.length<2^63)) <|
 (XcE (wI .i64 echo) 4).bind fun n1=>
 Xa9 (decide (([1,1,8,10]++n).length+n1.length<2^63)) <|
 some (([1,1,8,10]++n)++n1)
def rx22 (x:List UInt8):Xcu:=⟨.string ⟨⟨x⟩⟩,[],[]⟩
abbrev XdT:=Int→Int→Option (List UInt8)
def r22 (g:XdT):Dec:=dV (asI .u32) fun (y0:Int)=>dV (asI .u32) fun (y1:Int)=>Xdm (ofG (g y0 y1) rx22)
theorem r22_c {g:XdT} {y0:Int} {y1:Int} {x:List UInt8} (hx:g y0 y1=some x):r22 g [.int .u32 y0,.int .u32 y1] []=some (rx22 x):=(XaY (Xc2 _)).trans ((XaY (Xc2 _)).trans (XaX hx))
def s22 (g:XdT):Xbs:=⟨[.v,.v],r22 g⟩
theorem XMD {g:XdT} {y0:Int} {y1:Int} {x:List UInt8} (hx:g y0 y1=some x):(s22 g).run [.int .u32 y0,.int .u32 y1] []=some (rx22 x):=r22_c hx
abbrev XM2 (XcE:XeK):List (Nat×Xbs):=[(45,s45 XcE)]
theorem XLE (XcE:XeK) (hS:Xal Tryz.prog (XaE (XM2 XcE))) (val:Int) (echo:Int) (res:List UInt8) (h:XiN XcE val echo=some res) :
 XaK Tryz.prog 22 0 ⟨⟨22,13,[(0,.int .u32 val),(1,.int .u32 echo)],[.code XN4],[],false,none⟩,[],[],0⟩ (fun v H _=>Res 0 (rx22 res) v H):=by
 unfold XiN at h
 have R1:=@XFB XcE
 refine Xbg XaJ hS true 3000 ?_
 conv=>whnf
 exact W
def XcW:XdT:=XiN XcE
theorem lift22:XbA Tryz.prog 22 (s22 XcW):=by
 have hL:=XLE XcE (Xal.XaV ⟨XFj,trivial⟩)
 exact okA ⟨Tryz.f22,rfl,by decide,rfl⟩
end Go.Vm.Code
namespace Go.Vm.Code
open Go Go.Vm
def stL:List Xv1→Int×Int×Int
 | []=>(0,0,-1)
 | o::l=>if o.Kind=8 then (if o.Data.length=8 then (vK o.Data 0 4,vK o.Data 4 4,o.At) else (0,0,-1)) else stL l
def Xfs (s:List UInt8):Int×Int×Int:=stL (Xjt s).1
theorem XkR (s:List UInt8):∀ (n i:Nat) (out:List Xv1),XfZ s n i out=if (XfZ s n i []).2=0 then (out++(XfZ s n i []).1,0) else ([],3):=by
 intro n
 induction n using Nat.strongRecOn with
 | ind n ih=>
   intro i out
   cases n with
   | zero=>rw [XfZ,XfZ];simp
   | succ n=>
     have e:∀ o,XfZ s (n+1) i o=match s[i]? with
      | none=>(o,0)
      | some b=>if b=0 then (o,0) else if b=1 then XfZ s n (i+1) o else match s[i+1]? with
        | none=>([],3)
        | some k=>if k.toNat<2 then ([],3) else if s.length - i<k.toNat then ([],3) else
           XfZ s (n+1 - k.toNat) (i+k.toNat) (o++[⟨(b.toNat:Int),(s.drop (i+2)).take (k.toNat - 2),((i+2:Nat):Int)⟩]):=fun o=>by rw [XfZ];try (cases s[i]?<;>cases s[i+1]?<;>rfl)
     rw [e out,e []]
     cases s[i]? with
     | none=>simp
     | some b=>
       simp only
       by_cases h0:b=0
       ·simp [h0]
       rw [if_neg h0,if_neg h0]
       by_cases h1:b=1
       ·rw [if_pos h1,if_pos h1];exact ih n (by omega) _ _
       rw [if_neg h1,if_neg h1]
       cases s[i+1]? with
       | none=>simp
       | some k=>
         simp only
         by_cases h2:k.toNat<2
         ·simp [h2]
         by_cases h3:s.length - i<k.toNat
         ·simp [h2,h3]
         rw [if_neg h2,if_neg h2,if_neg h3,if_neg h3,ih _ (by omega) _ (out++_),ih _ (by omega) _ ([]++_)]
         by_cases hz:(XfZ s (n+1 - k.toNat) (i+k.toNat) []).2=0
         ·simp [hz]
         ·simp [hz]
theorem XvK {s:List UInt8} (h:(Xjt s).2≠0):(Xjt s).1=[]:=by
 unfold Xjt at *
 have:=XkR s s.length 0 []
 rw [if_neg h] at this
 rw [this]
theorem XLp {s:List UInt8}:∀ (n i:Nat),∀ o∈(XfZ s n i []).1,i≤o.At.toNat∧0≤o.At∧o.At.toNat+o.Data.length≤s.length∨(XfZ s n i []).2≠0:=by
 intro n
 induction n using Nat.strongRecOn with
 | ind n ih=>
   intro i o ho
   cases n with
   | zero=>rw [XfZ] at ho;simp at ho
   | succ n=>
     rw [XfZ] at ho ⊢
     cases hb:s[i]? with
     | none=>rw [hb] at ho;simp at ho
     | some b=>
       rw [hb] at ho
       simp only at ho ⊢
       by_cases h0:b=0
       ·rw [if_pos h0] at ho;simp at ho
       rw [if_neg h0] at ho ⊢
       by_cases h1:b=1
       ·rw [if_pos h1] at ho ⊢
        rcases ih n (by omega) _ o ho with h|h
        ·left;omega
        ·right;exact h
       rw [if_neg h1] at ho ⊢
       cases hk:s[i+1]? with
       | none=>rw [hk] at ho;simp at ho
       | some k=>
         rw [hk] at ho
         simp only at ho ⊢
         by_cases h2:k.toNat<2
         ·rw [if_pos h2] at ho;simp at ho
         rw [if_neg h2] at ho ⊢
         by_cases h3:s.length - i<k.toNat
         ·rw [if_pos h3] at ho;simp at ho
         rw [if_neg h3] at ho ⊢
         rw [XkR] at ho ⊢
         by_cases hz:(XfZ s (n+1 - k.toNat) (i+k.toNat) []).2=0
         ·rw [if_pos hz] at ho
          simp only [List.nil_append,List.mem_append,List.mem_singleton] at ho
          left
          have hi:i<s.length:=by
           rcases Nat.lt_or_ge i s.length with h|h
           ·exact h
           ·rw [List.getElem?_eq_none h] at hb;cases hb
          rcases ho with rfl|ho
          ·simp only [List.length_take,List.length_drop];omega
          ·rcases ih _ (by omega) _ o ho with h|h
           ·omega
           ·exact absurd hz h
         ·right;rw [if_neg hz];decide
theorem XLA {s:List UInt8} (hs:s.length<2^20):XeU s=some (Xfs s):=by
 unfold XeU XkP Xfs
 rw [XNN hs,Option.bind_some]
 have hlen:∀ o∈(Xjt s).1,o.Data.length<2^61:=by
  intro o ho
  unfold Xjt at ho
  rcases XLp _ _ o ho with h|h
  ·omega
  ·have:=XvK (s:=s) h
   unfold Xjt at this
   rw [this] at ho;simp at ho
 have hcount:(Xjt s).1.length<2^60:=by
  have key:∀ n i out,(XfZ s n i out).1.length≤out.length+n:=by
   intro n
   induction n using Nat.strongRecOn with
   | ind n ih=>
     intro i out
     cases n with
     | zero=>rw [XfZ];simp
     | succ n=>
       rw [XfZ]
       split
       ·simp
       split
       ·simp
       split
       ·have:=ih n (by omega) (i+1) out;omega
       split
       ·simp
       split
       ·simp
       split
       ·simp
       refine Nat.le_trans (ih _ (by omega) _ _) ?_
       simp;omega
  have:=key s.length 0 []
  unfold Xjt
  simp at this;omega
 generalize Xjt s=L at *
 have key:=iter_eq (step:=fun st=>XgI Xat (L.1.map toR,L.2) st) (fun st=>stL (L.1.drop st.toNat)) (fun st=>0≤st∧st≤L.1.length) (fun st=>((L.1.length:Int) - st).toNat) ?_ FUEL 0 ⟨by omega,by omega⟩ (by rw [Xge];omega)
 ·rw [key];simp
 intro st ⟨g1,g2⟩
 obtain ⟨i,rfl⟩:=Int.eq_ofNat_of_zero_le g1
 unfold XgI
 simp only [Int.toNat_natCast,List.length_map,List.getElem?_map]
 by_cases hp:i<L.1.length
 ·have ed:L.1.drop i=L.1[i]::L.1.drop (i+1):=List.drop_eq_getElem_cons hp
  have hd:=hlen _ (List.getElem_mem hp)
  rw [Xa2 (by omega),XaC (by omega),List.getElem?_eq_getElem hp,Option.map_some,Option.bind_some,ed,stL]
  simp only [toR]
  by_cases h8:L.1[i].Kind=8
  ·refine .inl ?_
   rw [show (L.1[i].Kind==8)=true by simpa using h8,cond_true,if_pos h8,XaC (by omega)]
   by_cases hl:L.1[i].Data.length=8
   ·have r0:=XeH L.1[i].Data 0 4 4294967296 (by decide)
    have r4:=XeH L.1[i].Data 4 4 4294967296 (by decide)
    have m0:Xat L.1[i].Data 0 4=some (vK L.1[i].Data 0 4):=XqY (p:=0) (k:=4) hd (by omega) (by omega) (by omega)
    have m4:Xat L.1[i].Data 4 4=some (vK L.1[i].Data 4 4):=XqY (p:=4) (k:=4) hd (by omega) (by omega) (by omega)
    rw [show (((L.1[i].Data.length:Nat):Int) !=8)=false by simp;omega,cond_false,if_pos hl,XaC (by omega),m0,Option.bind_some,XaC (by omega),m4,Option.bind_some,XaC (by omega),Xvh r0.1 r0.2,Xvh r4.1 r4.2]
   ·rw [show (((L.1[i].Data.length:Nat):Int) !=8)=true by simp;omega,cond_true,if_neg hl]
  ·refine .inr ⟨((i+1:Nat):Int),?_,⟨by omega,by omega⟩,by omega,?_⟩
   ·rw [show (L.1[i].Kind==8)=false by simpa using h8,cond_false,Xc5 (by omega) (by omega)];rfl
   ·rw [if_neg h8,Int.toNat_natCast]
 ·refine .inl ?_
  rw [XaQ (by omega),List.drop_of_length_le (by omega)];rfl
theorem val8 {t:List UInt8} (h:t.length=8):((XdH t:Nat):Int)=vK t 0 4*4294967296+vK t 4 4:=by
 unfold vK
 have e:t.take 4++(t.drop 4).take 4=t:=by rw [List.take_of_length_le (l:=t.drop 4) (by simp;omega),List.take_append_drop]
 have:=val_append (t.take 4) ((t.drop 4).take 4)
 rw [e,show ((t.drop 4).take 4).length=4 by simp;omega] at this
 rw [List.drop_zero,this]
 omega
theorem XAk {s:List UInt8} (hs:s.length<2^20):XbE s=some (Xfs s):=by
 unfold XbE XkO
 rw [XPO hs,Option.bind_some]
 by_cases hz:(Xjt s).2=0
 ·rw [show ((Xjt s).2 !=0)=false by simpa using hz,cond_false]
  unfold Xfs Xjt
  unfold Xjt at hz
  have key:=iter_eq (step:=fun st=>Xgq Xaw s st) (fun st=>stL (XfZ s (s.length - st.toNat) st.toNat []).1) (fun st=>0≤st∧st≤s.length∧(XfZ s (s.length - st.toNat) st.toNat []).2=0) (fun st=>s.length - st.toNat) ?_ FUEL 0 ⟨by omega,by omega,by simpa using hz⟩ (by rw [Xge];omega)
  ·rw [key];rfl
  intro st ⟨g1,g2,g3⟩
  obtain ⟨i,rfl⟩:=Int.eq_ofNat_of_zero_le g1
  simp only [Int.toNat_natCast] at g3 ⊢
  unfold Xgq
  by_cases hi:i<s.length
  ·obtain ⟨n,hn⟩:∃ n,s.length - i=n+1:=⟨s.length - i - 1,by omega⟩
   have e:s[i]?=some s[i]:=List.getElem?_eq_getElem hi
   rw [hn,XfZ,e] at g3
   simp only at g3
   rw [Xa2 (by omega),XaC (by omega),Int.toNat_natCast,e,Option.bind_some,hn,XfZ,e]
   by_cases h0:s[i]=0
   ·refine .inl ?_
    rw [show ((s[i].toNat:Int)==0)=true by rw [h0];rfl,cond_true]
    simp only [h0,if_true];rfl
   rw [show ((s[i].toNat:Int)==0)=false by simp;intro hx;exact h0 (UInt8.toNat_inj.1 (by simpa using hx)),cond_false]
   rw [if_neg h0] at g3
   simp only [if_neg h0]
   by_cases h1:s[i]=1
   ·rw [if_pos h1] at g3
    refine .inr ⟨((i+1:Nat):Int),?_,⟨by omega,by omega,?_⟩,by omega,?_⟩
    ·rw [show ((s[i].toNat:Int)==1)=true by rw [h1];rfl,cond_true,Xc5 (by omega) (by omega)];rfl
    ·rw [Int.toNat_natCast,show s.length - (i+1)=n by omega];exact g3
    ·simp only [Int.toNat_natCast,if_pos h1]
     rw [show s.length - (i+1)=n by omega]
   rw [show ((s[i].toNat:Int)==1)=false by simp;intro hx;exact h1 (UInt8.toNat_inj.1 (by simp;omega)),cond_false]
   rw [if_neg h1] at g3
   simp only [if_neg h1]
   rw [Xc5 (n:=(i:Int)+1) (by omega) (by omega)]
   by_cases h2:s.length≤i+1
   ·rw [List.getElem?_eq_none (by omega)] at g3
    simp at g3
   have hi1:i+1<s.length:=by omega
   have e1:s[i+1]?=some s[i+1]:=List.getElem?_eq_getElem hi1
   have b1:=s[i+1].toNat_lt
   rw [e1] at g3
   simp only at g3
   rw [Xa2 (by omega),show ((i:Int)+1).toNat=i+1 by omega,e1,XaC (by omega),Option.bind_some]
   simp only [Option.bind_some]
   rw [Xc5 (n:=(s[i+1].toNat:Int)) (by omega) (by omega)]
   by_cases h3:s[i+1].toNat<2
   ·rw [if_pos h3] at g3
    exact absurd g3 (by decide)
   rw [if_neg h3] at g3
   rw [XaQ (by omega),if_neg h3,Xc5 (n:=(s.length:Int) - i) (by omega) (by omega)]
   by_cases h4:s.length - i<s[i+1].toNat
   ·rw [if_pos h4] at g3
    exact absurd g3 (by decide)
   rw [if_neg h4,XkR] at g3
   have b0:=s[i].toNat_lt
   have hz2:(XfZ s (n+1 - s[i+1].toNat) (i+s[i+1].toNat) []).2=0:=by
    apply Decidable.byContradiction
    intro hx
    rw [if_neg hx] at g3
    exact absurd g3 (by decide)
   rw [if_neg h4,XkR,if_pos hz2,XaQ (by omega),XaC (by omega),Xc5 (n:=(i:Int)+s[i+1].toNat) (by omega) (by omega),Xc5 (n:=(i:Int)+2) (by omega) (by omega),Xc5 (n:=(s[i].toNat:Int)) (by omega) (by omega),XaC (by omega),show ((i:Int)+s[i+1].toNat).toNat - ((i:Int)+2).toNat=s[i+1].toNat - 2 by omega,show ((i:Int)+2).toNat=i+2 by omega]
   simp only [List.nil_append,List.cons_append,stL]
   have hdl:((s.drop (i+2)).take (s[i+1].toNat - 2)).length=s[i+1].toNat - 2:=by simp;omega
   generalize (s.drop (i+2)).take (s[i+1].toNat - 2)=D at *
   by_cases h8:(s[i].toNat:Int)=8
   ·refine .inl ?_
    rw [show ((s[i].toNat:Int) !=8)=false by simpa using h8,cond_false,if_pos h8,XdC (by omega),Option.bind_some]
    by_cases hl:D.length=8
    ·rw [XgZ (by omega) (by omega) (by omega) (by omega),if_pos hl]
     have r0:=XeH D 0 4 4294967296 (by decide)
     have r4:=XeH D 4 4 4294967296 (by decide)
     have hv:=val8 hl
     have ev:(D.drop (0:Int).toNat).take (8:Int).toNat=D:=by
      rw [show (0:Int).toNat=0 from rfl,show (8:Int).toNat=8 from rfl,List.drop_zero,List.take_of_length_le (by omega)]
     simp only [cond_true,ev]
     rw [show ((D.length:Int)==8)=true by simp;omega,cond_true,hv,Xs8,show ((2:Int)^32)=4294967296 from rfl,show (vK D 0 4*4294967296+vK D 4 4)/4294967296=vK D 0 4 by omega,Xvh r0.1 r0.2,XOG,show (vK D 0 4*4294967296+vK D 4 4)%4294967296=vK D 4 4 by omega];rfl
    ·rw [if_neg hl]
     rw [show ((D.length:Int)==8)=false by simp;omega]
     cases (Xus D 0 8).2<;>rfl
   ·refine .inr ⟨((i+s[i+1].toNat:Nat):Int),?_,⟨by omega,by omega,?_⟩,by omega,?_⟩
    ·rw [show ((s[i].toNat:Int) !=8)=true by simpa using h8,cond_true];rfl
    ·rw [Int.toNat_natCast,show s.length - (i+s[i+1].toNat)=n+1 - s[i+1].toNat by omega];exact hz2
    ·rw [Int.toNat_natCast,show s.length - (i+s[i+1].toNat)=n+1 - s[i+1].toNat by omega,if_neg h8]
  ·refine .inl ?_
   rw [XaQ (by omega),show s.length - i=0 by omega,XfZ];rfl
 ·rw [show ((Xjt s).2 !=0)=true by simpa using hz,cond_true]
  unfold Xfs
  rw [XvK hz];rfl
def Xcs (v e:Nat):List UInt8:=[1,1,8,10]++(be v 4++be e 4)
theorem XHs {v e:Nat} (hv:v<4294967296) (he:e<4294967296):XcW (v:Int) (e:Int)=some (Xcs v e):=by
 have num:∀ n:Nat,n<4294967296→XcE (wI .i64 (n:Int)) 4=some (be n 4):=fun n hn=>by
  unfold XcE XmE
  rw [Xc5 (by omega) (by omega),XjF (by omega) (by omega),Xem (by omega) (by omega),show Xd9 (n:Int) 4=be (n:Int).toNat 4 from Xfn (k:=4) (by omega),Int.toNat_natCast];rfl
 unfold XcW XiN Xcs
 rw [num v hv,num e he,Option.bind_some,Option.bind_some,XaC (by simp),XaC (by simp),List.append_assoc]
theorem l8 {l:List UInt8} (h:l.length=8):∃ a b c d e f g i,l=[a,b,c,d,e,f,g,i]:=by
 match l,h with
 | [a,b,c,d,e,f,g,i],_=>exact ⟨a,b,c,d,e,f,g,i,rfl⟩
theorem XnO {d:List UInt8} (h:d.length=8):Xjt ([1,1,8,10]++d)=([⟨8,d,4⟩],0):=by
 obtain ⟨a,b,c,d,e,f,g,i,rfl⟩:=l8 h
 unfold Xjt
 show XfZ [1,1,8,10,a,b,c,d,e,f,g,i] 12 0 []=_
 rw [XfZ]
 show XfZ [1,1,8,10,a,b,c,d,e,f,g,i] 11 1 []=_
 rw [XfZ]
 show XfZ [1,1,8,10,a,b,c,d,e,f,g,i] 10 2 []=_
 rw [XfZ]
 show XfZ [1,1,8,10,a,b,c,d,e,f,g,i] 0 12 [⟨8,[a,b,c,d,e,f,g,i],4⟩]=_
 rw [XfZ]
theorem Xre {v e:Nat} (hv:v<4294967296) (he:e<4294967296):Xfs (Xcs v e)=((v:Int),(e:Int),4):=by
 unfold Xfs Xcs
 rw [XnO (by simp),stL,if_pos rfl,if_pos (by simp)]
 have a:vK (be v 4++be e 4) 0 4=(v:Int):=by
  refine Xjc (w:=be v 4) ?_ rfl (by omega)
  rw [List.drop_zero];exact List.take_left' (by simp)
 have b:vK (be v 4++be e 4) 4 4=(e:Int):=by
  refine Xjc (w:=be e 4) ?_ rfl (by omega)
  rw [List.drop_left' (by simp),List.take_of_length_le (by simp)]
 rw [a,b]
end Go.Vm.Code
namespace Go.Vm.Code
open Go Go.Vm Go.Proofs
set_option maxRecDepth 100000
set_option maxHeartbeats 4000000
set_option linter.unusedVariables false
def Xfu (Xai:XaM) (Xaf:Xay) (ra0:Xah):Option ((List UInt8)×Xah):=
 (Xai ra0).bind fun b=>
 cond (b.1)
  (
  some (([],b.2)))
  (
  (Xaf b.2 (b.2.s.length:Int)).bind fun t=>
  some ((t.1,t.2)))
def rx96 (x:(List UInt8)×Xah):Xcu:=⟨.string ⟨⟨x.1⟩⟩,[],[some [.string ⟨⟨x.2.s⟩⟩,.bool x.2.made,.bool x.2.bad]]⟩
abbrev Xcq:=Xah→Option ((List UInt8)×Xah)
def r96 (g:Xcq):Dec:=dPt 0 Xc8 fun (y0:Xah)=>Xdm (ofG (g y0) rx96)
theorem r96_c {g:Xcq} {y0:Xah} {x:(List UInt8)×Xah} (hx:g y0=some x):r96 g [.pointer (some ⟨0,0,none⟩)] [some [.string ⟨⟨y0.s⟩⟩,.bool y0.made,.bool y0.bad]]=some (rx96 x):=(Xma (Xfk _)).trans (XaX hx)
def s96 (g:Xcq):Xbs:=⟨[.pt 3],r96 g⟩
theorem XN6 {g:Xcq} {y0:Xah} {x:(List UInt8)×Xah} (hx:g y0=some x):(s96 g).run [.pointer (some ⟨0,0,none⟩)] [some [.string ⟨⟨y0.s⟩⟩,.bool y0.made,.bool y0.bad]]=some (rx96 x):=r96_c hx
abbrev XP2 (Xai:XaM) (Xaf:Xay):List (Nat×Xbs):=[(95,s95 Xai),(86,s86 Xaf)]
theorem XJL (Xai:XaM) (Xaf:Xay) (hS:Xal Tryz.prog (XaE (XP2 Xai Xaf))) (ra0:Xah) (res:(List UInt8)×Xah) (h:Xfu Xai Xaf ra0=some res) :
 XaK Tryz.prog 96 1 ⟨⟨96,12,[(0,.pointer (some ⟨0,0,none⟩))],[.code XOS],[],false,none⟩,[],[(0,.cells [.string ⟨⟨ra0.s⟩⟩,.bool ra0.made,.bool ra0.bad])],1⟩ (fun v H _=>Res 1 (rx96 res) v H):=by
 unfold Xfu at h
 have R1:=@Xo5 Xai
 have R2:=@XnQ Xaf
 refine Xbg XaJ hS true 3000 ?_
 conv=>whnf
 exact W
def XbF:Xcq:=Xfu Xai Xaf
theorem XRC:XbA Tryz.prog 96 (s96 XbF):=by
 have hL:=XJL Xai Xaf (Xal.XaV ⟨Xqy,Xn1,trivial⟩)
 exact okA ⟨Tryz.f96,rfl,by decide,rfl⟩
def Xml (Xai:XaM) (Xaa:XaD) (Xaf:Xay) (ra0:Xah):Option ((List UInt8)×Int×Xah):=
 (Xaa ra0 1).bind fun n=>
 (Xai n.2).bind fun b=>
 cond (!b.1)
  (
  cond (decide (n.1>20))
   (
   some (([],3,b.2)))
   (
   (Xaf b.2 n.1).bind fun t=>
   (Xai t.2).bind fun b1=>
   cond (b1.1)
    (
    some (([],2,b1.2)))
    (
    some ((t.1,0,b1.2)))))
  (
  (Xaf b.2 n.1).bind fun t1=>
  (Xai t1.2).bind fun b2=>
  cond (b2.1)
   (
   some (([],2,b2.2)))
   (
   some ((t1.1,0,b2.2))))
def rx98 (x:(List UInt8)×Int×Xah):Xcu:=⟨.tuple ⟨[.string ⟨⟨x.1⟩⟩,.int .i64 x.2.1]⟩,[],[some [.string ⟨⟨x.2.2.s⟩⟩,.bool x.2.2.made,.bool x.2.2.bad]]⟩
abbrev Xgv:=Xah→Option ((List UInt8)×Int×Xah)
def r98 (g:Xgv):Dec:=dPt 0 Xc8 fun (y0:Xah)=>Xdm (ofG (g y0) rx98)
theorem r98_c {g:Xgv} {y0:Xah} {x:(List UInt8)×Int×Xah} (hx:g y0=some x):r98 g [.pointer (some ⟨0,0,none⟩)] [some [.string ⟨⟨y0.s⟩⟩,.bool y0.made,.bool y0.bad]]=some (rx98 x):=(Xma (Xfk _)).trans (XaX hx)
def s98 (g:Xgv):Xbs:=⟨[.pt 3],r98 g⟩
theorem XEO {g:Xgv} {y0:Xah} {x:(List UInt8)×Int×Xah} (hx:g y0=some x):(s98 g).run [.pointer (some ⟨0,0,none⟩)] [some [.string ⟨⟨y0.s⟩⟩,.bool y0.made,.bool y0.bad]]=some (rx98 x):=r98_c hx
abbrev XSA (Xai:XaM) (Xaa:XaD) (Xaf:Xay):List (Nat×Xbs):=[(95,s95 Xai),(52,s52 Xaa),(86,s86 Xaf)]
theorem XJO (Xai:XaM) (Xaa:XaD) (Xaf:Xay) (hS:Xal Tryz.prog (XaE (XSA Xai Xaa Xaf))) (ra0:Xah) (res:(List UInt8)×Int×Xah) (h:Xml Xai Xaa Xaf ra0=some res) :
 XaK Tryz.prog 98 1 ⟨⟨98,21,[(0,.pointer (some ⟨0,0,none⟩))],[.code XFa],[],false,none⟩,[],[(0,.cells [.string ⟨⟨ra0.s⟩⟩,.bool ra0.made,.bool ra0.bad])],1⟩ (fun v H _=>Res 1 (rx98 res) v H):=by
 unfold Xml at h
 have R1:=@Xkh Xaa
 have R2:=@Xo5 Xai
 have R3:=@XnQ Xaf
 refine Xbg XaJ hS true 3000 ?_
 conv=>whnf
 exact W
def Xgf:Xgv:=Xml Xai Xaa Xaf
theorem XPb:XbA Tryz.prog 98 (s98 Xgf):=by
 have hL:=XJO Xai Xaa Xaf (Xal.XaV ⟨Xqy,XpK,Xn1,trivial⟩)
 exact okA ⟨Tryz.f98,rfl,by decide,rfl⟩
def Xl9 (XaO:XbC) (Xai:XaM) (Xaa:XaD) (XbF:Xcq) (Xaf:Xay) (Xgf:Xgv) (s:List UInt8):Option (Xbz×Int):=
 (XaO s).bind fun n=>
 (Xaa n 1).bind fun n1=>
 (Xai n1.2).bind fun b=>
 cond (b.1)
  (
  some ((Xbz.mk false 0 0 [] [] [],2)))
  (
  cond ((Xl7 .i64 n1.1 64)==0)
   (
   some ((Xbz.mk false 0 0 [] [] [],3)))
   (
   cond (!((Xl7 .i64 n1.1 128) !=0))
    (
    (Xaf b.2 8).bind fun t=>
    (Xai t.2).bind fun b1=>
    cond (b1.1)
     (
     some ((Xbz.mk false 0 0 [] [] [],2)))
     (
     (XbF b1.2).bind fun xr=>
     some ((Xbz.mk ((Xl7 .i64 n1.1 128) !=0) (Xl7 .i64 n1.1 63) 0 t.1 [] xr.1,0))))
    (
    (Xaa b.2 4).bind fun n2=>
    (Xgf n2.2).bind fun i=>
    cond (i.2.1 !=0)
     (
     some ((Xbz.mk false 0 0 [] [] [],i.2.1)))
     (
     (Xgf i.2.2).bind fun i1=>
     cond (i1.2.1 !=0)
      (
      some ((Xbz.mk false 0 0 [] [] [],i1.2.1)))
      (
      (XbF i1.2.2).bind fun xr1=>
      some ((Xbz.mk ((Xl7 .i64 n1.1 128) !=0) (Xl7 .i64 n1.1 63) (wI .u32 n2.1) i.1 i1.1 xr1.1,0)))))))
def rx68 (x:Xbz×Int):Xcu:=⟨.tuple ⟨[.agg ⟨[.bool x.1.Long,.int .i64 x.1.Bits,.int .u32 x.1.Version,.string ⟨⟨x.1.DCID⟩⟩,.string ⟨⟨x.1.SCID⟩⟩,.string ⟨⟨x.1.Rest⟩⟩]⟩,.int .i64 x.2]⟩,[],[]⟩
abbrev Xd8:=(List UInt8)→Option (Xbz×Int)
def r68 (g:Xd8):Dec:=dV asS fun (y0:List UInt8)=>Xdm (ofG (g y0) rx68)
theorem r68_c {g:Xd8} {y0:List UInt8} {x:Xbz×Int} (hx:g y0=some x):r68 g [.string ⟨⟨y0⟩⟩] []=some (rx68 x):=(XaY (XcY)).trans (XaX hx)
def s68 (g:Xd8):Xbs:=⟨[.v],r68 g⟩
theorem XE3 {g:Xd8} {y0:List UInt8} {x:Xbz×Int} (hx:g y0=some x):(s68 g).run [.string ⟨⟨y0⟩⟩] []=some (rx68 x):=r68_c hx
abbrev XSu (XaO:XbC) (Xai:XaM) (Xaa:XaD) (XbF:Xcq) (Xaf:Xay) (Xgf:Xgv):List (Nat×Xbs):=[(51,s51 XaO),(95,s95 Xai),(52,s52 Xaa),(96,s96 XbF),(86,s86 Xaf),(98,s98 Xgf)]
theorem XG8 (XaO:XbC) (Xai:XaM) (Xaa:XaD) (XbF:Xcq) (Xaf:Xay) (Xgf:Xgv) (hS:Xal Tryz.prog (XaE (XSu XaO Xai Xaa XbF Xaf Xgf))) (s:List UInt8) (res:Xbz×Int) (h:Xl9 XaO Xai Xaa XbF Xaf Xgf s=some res) :
 XaK Tryz.prog 68 0 ⟨⟨68,60,[(0,.string ⟨⟨s⟩⟩)],[.code XEJ],[],false,none⟩,[],[],0⟩ (fun v H _=>Res 0 (rx68 res) v H):=by
 unfold Xl9 at h
 have R1:=@XnQ Xaf
 have R2:=@Xo5 Xai
 have R3:=@XN6 XbF
 refine Xbg XaJ hS true 3000 ?_
 conv=>whnf
 replace h:=Xdv.elim h;obtain ⟨n,hy,h⟩:=h
 refine Xgn.a (XqW hy) ?_
 conv=>whnf
 replace h:=Xdv.elim h;obtain ⟨n1,hy,h⟩:=h
 refine Xgn.a (Xkh hy) ?_
 conv=>whnf
 replace h:=Xdv.elim h;obtain ⟨b,hy,h⟩:=h
 refine Xgn.a (Xo5 hy) ?_
 conv=>whnf
 refine br.h h (by rfl) ?_ ?_
 ·clear h;intro hb h;conv=>whnf
  exact W
 clear h;intro hb h;conv=>whnf
 refine br.h h (by rfl) ?_ ?_
 ·clear h;intro hb h;conv=>whnf
  exact W
 clear h;intro hb h;conv=>whnf
 refine br.h h (by rfl) ?_ ?_
 ·clear h;intro hb h;conv=>whnf
  exact W
 clear h;intro hb h;conv=>whnf
 replace h:=Xdv.elim h;obtain ⟨n2,hy,h⟩:=h
 refine Xgn.a (Xkh hy) ?_
 conv=>whnf
 refine Xbg XaJ hS true 3000 ?_
 conv=>whnf
 replace h:=Xdv.elim h;obtain ⟨i,hy,h⟩:=h
 refine Xgn.a (XEO hy) ?_
 conv=>whnf
 refine br.h h (by rfl) ?_ ?_
 ·clear h;intro hb h;conv=>whnf
  refine br.pos ?_ ?_;(focus (clear h;first|assumption|(simp_all;done)))
  conv=>whnf
  exact W
 clear h;intro hb h;conv=>whnf
 refine Xbg XaJ hS true 3000 ?_
 conv=>whnf
 replace h:=Xdv.elim h;obtain ⟨i1,hy,h⟩:=h
 refine Xgn.a (XEO hy) ?_
 conv=>whnf
 refine br.h h (by rfl) ?_ ?_
 ·clear h;intro hb h;conv=>whnf
  refine br.pos ?_ ?_;(focus (clear h;first|assumption|(simp_all;done)))
  conv=>whnf
  exact W
 clear h;intro hb h;conv=>whnf
 refine Xbg XaJ hS true 3000 ?_
 conv=>whnf
 exact W
def Xdk:Xd8:=Xl9 XaO Xai Xaa XbF Xaf Xgf
theorem XGB:XbA Tryz.prog 68 (s68 Xdk):=by
 have hL:=XG8 XaO Xai Xaa XbF Xaf Xgf (Xal.XaV ⟨Xqc,Xqy,XpK,XRC,Xn1,XPb,trivial⟩)
 exact okA ⟨Tryz.f68,rfl,by decide,rfl⟩
def XrV (s:List UInt8) (ata1:Int):Option ((List UInt8)×Int×Int):=
 cond (decide (ata1≥(s.length:Int)))
  (
  some (([],2,0)))
  (
  Xa9 (decide (0≤ata1)) <|
  (s[ata1.toNat]?).bind fun (b:UInt8)=>
  cond (decide ((wI .i64 (b.toNat:Int))>20))
   (
   some (([],3,0)))
   (
   let t:=wI .i64 ((wI .i64 ((s.length:Int) - ata1)) - 1)
   cond (decide ((wI .i64 (b.toNat:Int))>t))
    (
    some (([],2,0)))
    (
    let t1:=wI .i64 ((wI .i64 (ata1+1))+(wI .i64 (b.toNat:Int)))
    Xa9 (decide ((0:Int)≤t1∧t1≤(s.length:Int)∧(0:Int)≤(wI .i64 (ata1+1))∧(wI .i64 (ata1+1))≤(t1.toNat:Int))) <|
    let t2:=(s.drop (wI .i64 (ata1+1)).toNat).take (t1.toNat - (wI .i64 (ata1+1)).toNat)
    let t3:=wI .i64 ((wI .i64 (ata1+1))+(wI .i64 (b.toNat:Int)))
    some ((t2,0,t3)))))
def XB2 (x:(List UInt8)×Int×Int):Xcu:=⟨.tuple ⟨[.string ⟨⟨x.1⟩⟩,.int .i64 x.2.1,.int .i64 x.2.2]⟩,[],[]⟩
abbrev XhX:=(List UInt8)→Int→Option ((List UInt8)×Int×Int)
def r101 (g:XhX):Dec:=dV asS fun (y0:List UInt8)=>dV (asI .i64) fun (y1:Int)=>Xdm (ofG (g y0 y1) XB2)
theorem XQt {g:XhX} {y0:List UInt8} {y1:Int} {x:(List UInt8)×Int×Int} (hx:g y0 y1=some x):r101 g [.string ⟨⟨y0⟩⟩,.int .i64 y1] []=some (XB2 x):=(XaY (XcY)).trans ((XaY (Xc2 _)).trans (XaX hx))
def s101 (g:XhX):Xbs:=⟨[.v,.v],r101 g⟩
theorem XH4 {g:XhX} {y0:List UInt8} {y1:Int} {x:(List UInt8)×Int×Int} (hx:g y0 y1=some x):(s101 g).run [.string ⟨⟨y0⟩⟩,.int .i64 y1] []=some (XB2 x):=XQt hx
abbrev XKk:List (Nat×Xbs):=[]
theorem XC3 (hS:Xal Tryz.prog (XaE (XKk))) (s:List UInt8) (ata1:Int) (res:(List UInt8)×Int×Int) (h:XrV s ata1=some res) :
 XaK Tryz.prog 101 0 ⟨⟨101,37,[(0,.string ⟨⟨s⟩⟩),(1,.int .i64 ata1)],[.code XzN],[],false,none⟩,[],[],0⟩ (fun v H _=>Res 0 (XB2 res) v H):=by
 unfold XrV at h
 refine Xbg XaJ hS true 3000 ?_
 conv=>whnf
 exact W
def XiP:XhX:=XrV
theorem XKC:XbA Tryz.prog 101 (s101 XiP):=by
 have hL:=XC3 (Xal.XaV trivial)
 exact okA ⟨Tryz.f101,rfl,by decide,rfl⟩
def Xos (Xat:Xbm) (XiP:XhX) (s:List UInt8):Option (Xbz×Int):=
 cond (s==[])
  (
  some ((Xbz.mk false 0 0 [] [] [],2)))
  (
  (s[0]?).bind fun (b:UInt8)=>
  let t:=(wI .u8 ((b.toNat:Int).tdiv 64)).tmod 2
  cond (t==0)
   (
   some ((Xbz.mk false 0 0 [] [] [],3)))
   (
   (s[0]?).bind fun (b1:UInt8)=>
   (s[0]?).bind fun (b2:UInt8)=>
   cond (!(decide ((b1.toNat:Int)≥128)))
    (
    cond (decide ((s.length:Int)<9))
     (
     some ((Xbz.mk false 0 0 [] [] [],2)))
     (
     Xa9 (decide ((0:Int)≤(9:Int)∧(9:Int)≤(s.length:Int)∧(0:Int)≤(1:Int)∧(1:Int)≤(9:Int))) <|
     Xa9 (decide ((0:Int)≤(9:Int)∧(9:Int)≤(s.length:Int))) <|
     some ((Xbz.mk (decide ((b1.toNat:Int)≥128)) (wI .i64 ((b2.toNat:Int).tmod 64)) 0 ((s.drop 1).take 8) [] ((s.drop 9).take (s.length - 9)),0))))
    (
    cond (decide ((s.length:Int)<5))
     (
     some ((Xbz.mk false 0 0 [] [] [],2)))
     (
     (Xat s 1 4).bind fun m=>
     (XiP s 5).bind fun i=>
     cond (i.2.1 !=0)
      (
      some ((Xbz.mk false 0 0 [] [] [],i.2.1)))
      (
      (XiP s i.2.2).bind fun i1=>
      cond (i1.2.1 !=0)
       (
       some ((Xbz.mk false 0 0 [] [] [],i1.2.1)))
       (
       Xa9 (decide ((0:Int)≤i1.2.2∧i1.2.2≤(s.length:Int))) <|
       let t1:=(s.drop i1.2.2.toNat).take (s.length - i1.2.2.toNat)
       some ((Xbz.mk (decide ((b1.toNat:Int)≥128)) (wI .i64 ((b2.toNat:Int).tmod 64)) (wI .u32 m) i.1 i1.1 t1,0))))))))
def rx75 (x:Xbz×Int):Xcu:=⟨.tuple ⟨[.agg ⟨[.bool x.1.Long,.int .i64 x.1.Bits,.int .u32 x.1.Version,.string ⟨⟨x.1.DCID⟩⟩,.string ⟨⟨x.1.SCID⟩⟩,.string ⟨⟨x.1.Rest⟩⟩]⟩,.int .i64 x.2]⟩,[],[]⟩
abbrev Xgx:=(List UInt8)→Option (Xbz×Int)
def r75 (g:Xgx):Dec:=dV asS fun (y0:List UInt8)=>Xdm (ofG (g y0) rx75)
theorem r75_c {g:Xgx} {y0:List UInt8} {x:Xbz×Int} (hx:g y0=some x):r75 g [.string ⟨⟨y0⟩⟩] []=some (rx75 x):=(XaY (XcY)).trans (XaX hx)
def s75 (g:Xgx):Xbs:=⟨[.v],r75 g⟩
theorem XMF {g:Xgx} {y0:List UInt8} {x:Xbz×Int} (hx:g y0=some x):(s75 g).run [.string ⟨⟨y0⟩⟩] []=some (rx75 x):=r75_c hx
abbrev XOt (Xat:Xbm) (XiP:XhX):List (Nat×Xbs):=[(62,s62 Xat),(101,s101 XiP)]
theorem XLS (Xat:Xbm) (XiP:XhX) (hS:Xal Tryz.prog (XaE (XOt Xat XiP))) (s:List UInt8) (res:Xbz×Int) (h:Xos Xat XiP s=some res) :
 XaK Tryz.prog 75 0 ⟨⟨75,79,[(0,.string ⟨⟨s⟩⟩)],[.code XFV],[],false,none⟩,[],[],0⟩ (fun v H _=>Res 0 (rx75 res) v H):=by
 unfold Xos at h
 have R1:=@Xn4 Xat
 have R2:=@XH4 XiP
 refine Xbg XaJ hS true 3000 ?_
 conv=>whnf
 exact W
def Xhr:Xgx:=Xos Xat XiP
theorem XQp:XbA Tryz.prog 75 (s75 Xhr):=by
 have hL:=XLS Xat XiP (Xal.XaV ⟨XpN,XKC,trivial⟩)
 exact okA ⟨Tryz.f75,rfl,by decide,rfl⟩
end Go.Vm.Code
namespace Go.Vm.Code
open Go Go.Vm
def XwI:Xbz:=⟨false,0,0,[],[],[]⟩
def idS (s:List UInt8) (p:Nat):List UInt8×Int×Nat:=
 if s.length≤p then ([],2,0) else if 20<b1 s p then ([],3,0) else if s.length<p+1+b1 s p then ([],2,0) else ((s.drop (p+1)).take (b1 s p),0,p+1+b1 s p)
theorem XFO {s:List UInt8} {p:Nat} (h:s.length<2^38):XiP s (p:Int)=some ((idS s p).1,(idS s p).2.1,(((idS s p).2.2:Nat):Int)):=by
 unfold XiP XrV idS
 by_cases h1:s.length≤p
 ·rw [Xa2 (by omega),if_pos h1];rfl
 have e1:s[(p:Int).toNat]?=some (s[p]'(by omega)):=by rw [Int.toNat_natCast];exact List.getElem?_eq_getElem (by omega)
 have hb:=XAp s p
 rw [XaQ (by omega),if_neg h1,XaC (by omega),e1,Option.bind_some,←XGo (by omega),Xc5 (n:=((b1 s p:Nat):Int)) (by omega) (by omega)]
 by_cases h2:20<b1 s p
 ·rw [Xa2 (by omega),if_pos h2];rfl
 rw [XaQ (by omega),if_neg h2,Xc5 (n:=(s.length:Int) - p) (by omega) (by omega),Xc5 (by omega) (by omega),Xc5 (n:=(p:Int)+1) (by omega) (by omega),Xc5 (n:=(p:Int)+1+((b1 s p:Nat):Int)) (by omega) (by omega)]
 simp only []
 by_cases h3:s.length<p+1+b1 s p
 ·rw [Xa2 (by omega),if_pos h3];rfl
 rw [XaQ (by omega),if_neg h3,XaC (by omega)]
 have f1:((p:Int)+1).toNat=p+1:=by omega
 have f2:((p:Int)+1+((b1 s p:Nat):Int)).toNat - (p+1)=b1 s p:=by omega
 rw [f1,f2]
 simp
theorem i17:(if (1:Int)<1∨(1:Int)>7 then -1 else 1:Int)=1:=by decide
theorem i47:(if (4:Int)<1∨(4:Int)>7 then -1 else 4:Int)=4:=by decide
theorem Xpt (s:List UInt8) (k:Int):rdr ⟨s,true,true⟩ k=⟨s,true,true⟩:=by unfold rdr;rw [if_pos (.inl rfl)]
theorem XIi (s:List UInt8) (h:s.length<2^38):Xgf ⟨s,true,true⟩=some ([],2,⟨s,true,true⟩):=by
 unfold Xgf Xml
 rw [Xds rfl (by simp only [];omega),Option.bind_some]
 simp only [Xpt]
 rw [Xfp rfl,Option.bind_some]
 simp only [Bool.not_true,cond_false]
 rw [XfO rfl,Option.bind_some]
 simp only [Xpt]
 rw [Xfp rfl,Option.bind_some]
 rfl
theorem XGa {s:List UInt8} {p:Nat} (h:s.length<2^38):∃ r,Xgf ⟨s.drop p,true,false⟩=some ((idS s p).1,(idS s p).2.1,r)∧((idS s p).2.1=0→r=⟨s.drop (idS s p).2.2,true,false⟩):=by
 have hb:=XAp s p
 have ld:(s.drop p).length=s.length - p:=List.length_drop ..
 unfold Xgf Xml idS
 rw [Xds rfl (by simp only [];omega),Option.bind_some]
 simp only [rdn,i17]
 by_cases h1:s.length≤p
 ·have hr:rdr ⟨s.drop p,true,false⟩ 1=⟨s.drop p,true,true⟩:=by unfold rdr;rw [if_pos (.inr (.inr (by simp only [];omega)))]
  rw [if_pos h1,hr,Xfp rfl,Option.bind_some]
  simp only [Bool.not_true,cond_false]
  rw [XfO rfl,Option.bind_some]
  simp only [Xpt]
  rw [Xfp rfl,Option.bind_some]
  exact ⟨_,rfl,fun q=>by cases q⟩
 ·rw [if_neg h1,Xf6 (by omega) (by omega),Xf7 (by omega) (by omega),show (1:Int).toNat=1 from rfl,List.drop_drop,show XdH ((s.drop p).take 1)=b1 s p from rfl,Xfp rfl,Option.bind_some]
  simp only [Bool.not_false,cond_true]
  have ld2:(s.drop (p+1)).length=s.length - (p+1):=List.length_drop ..
  by_cases h2:20<b1 s p
  ·rw [Xa2 (by omega),if_pos h2]
   exact ⟨_,rfl,fun q=>by cases q⟩
  rw [XaQ (by omega),if_neg h2,XfO rfl,Option.bind_some]
  by_cases h3:s.length<p+1+b1 s p
  ·have hr:rdr ⟨s.drop (p+1),true,false⟩ ((b1 s p:Nat):Int)=⟨s.drop (p+1),true,true⟩:=by unfold rdr;rw [if_pos (.inr (.inr (by simp only [];omega)))]
   rw [if_pos h3,hr,Xfp rfl,Option.bind_some]
   exact ⟨_,rfl,fun q=>by cases q⟩
  ·rw [if_neg h3,Xf6 (by omega) (by omega),Xf7 (by omega) (by omega),Xfp rfl,Option.bind_some,Int.toNat_natCast,List.drop_drop]
   exact ⟨_,rfl,fun _=>rfl⟩
def XhM (s:List UInt8):Xbz×Int:=
 if s=[] then (XwI,2) else if b1 s 0/64%2=0 then (XwI,3) else
 if b1 s 0<128 then if s.length<9 then (XwI,2) else (⟨false,((b1 s 0%64:Nat):Int),0,(s.drop 1).take 8,[],s.drop 9⟩,0)
 else if s.length<5 then (XwI,2) else if (idS s 5).2.1≠0 then (XwI,(idS s 5).2.1) else if (idS s (idS s 5).2.2).2.1≠0 then (XwI,(idS s (idS s 5).2.2).2.1) else
 (⟨true,((b1 s 0%64:Nat):Int),((XdH ((s.drop 1).take 4):Nat):Int),(idS s 5).1,(idS s (idS s 5).2.2).1,s.drop (idS s (idS s 5).2.2).2.2⟩,0)
theorem XMG:∀ v:Fin 256,((wI .u8 (((v.val:Nat):Int).tdiv 64)).tmod 2=((v.val/64%2:Nat):Int)∧wI .i64 (((v.val:Nat):Int).tmod 64)=((v.val%64:Nat):Int))∧Xl7 .i64 ((v.val:Nat):Int) 64=((v.val/64%2*64:Nat):Int)∧Xl7 .i64 ((v.val:Nat):Int) 128=((v.val/128*128:Nat):Int)∧Xl7 .i64 ((v.val:Nat):Int) 63=((v.val%64:Nat):Int):=by decide +kernel
theorem XQJ {s:List UInt8} {p:Nat} (h:(idS s p).2.1=0):(idS s p).2.2≤s.length:=by
 unfold idS at h ⊢
 split
 ·simp
 split
 ·simp
 split
 ·simp
 ·simp only [];omega
theorem XCW {s:List UInt8} (h:s.length<2^38):Xhr s=some (XhM s):=by
 unfold Xhr Xos XhM
 by_cases h0:s=[]
 ·subst h0;rfl
 have hl:0<s.length:=List.length_pos_iff.2 h0
 have hb:=XAp s 0
 obtain ⟨⟨q1,q2⟩,-⟩:=XMG ⟨b1 s 0,hb⟩
 simp only at q1 q2
 have e0:s[0]?=some s[0]:=List.getElem?_eq_getElem hl
 have e1:s[0].toNat=b1 s 0:=(XGo hl).symm
 have es:(s==[])=false:=by rw [beq_eq_false_iff_ne];exact h0
 rw [es,cond_false,if_neg h0,e0]
 simp only [Option.bind_some,e1,q1,q2]
 by_cases h1:b1 s 0/64%2=0
 ·have:((((b1 s 0/64%2:Nat):Int))==0)=true:=by rw [beq_iff_eq];omega
  rw [this,cond_true,if_pos h1];rfl
 have:((((b1 s 0/64%2:Nat):Int))==0)=false:=by rw [beq_eq_false_iff_ne];omega
 rw [this,cond_false,if_neg h1]
 by_cases h2:b1 s 0<128
 ·rw [decide_eq_false (show ¬ ((b1 s 0:Nat):Int)≥128 by omega),Bool.not_false,cond_true,if_pos h2]
  by_cases h3:s.length<9
  ·rw [Xa2 (by omega),if_pos h3];rfl
  rw [XaQ (by omega),if_neg h3,XaC (by omega),XaC (by omega),List.take_of_length_le (l:=s.drop 9) (by simp)]
 ·rw [decide_eq_true (show ((b1 s 0:Nat):Int)≥128 by omega),Bool.not_true,cond_false,if_neg h2]
  by_cases h3:s.length<5
  ·rw [Xa2 (by omega),if_pos h3];rfl
  have hv:XdH ((s.drop 1).take 4)<2^32:=Xc9 _ (by decide)
  have rid5:=XFO (s:=s) (p:=5) h
  rw [show ((5:Nat):Int)=5 from rfl] at rid5
  rw [XaQ (by omega),if_neg h3,Xhn (by omega),Option.bind_some,XgZ (by omega) (by omega) (by omega) (by omega),rid5,Option.bind_some]
  simp only []
  by_cases h4:(idS s 5).2.1=0
  ·have:((idS s 5).2.1 !=0)=false:=by rw [bne_eq_false_iff_eq];exact h4
   rw [this,cond_false,if_neg (by omega),XFO h,Option.bind_some]
   simp only []
   by_cases h5:(idS s (idS s 5).2.2).2.1=0
   ·have:((idS s (idS s 5).2.2).2.1 !=0)=false:=by rw [bne_eq_false_iff_eq];exact h5
    have hle:=XQJ h5
    rw [this,cond_false,if_neg (by omega),XaC (by omega),Int.toNat_natCast,List.take_of_length_le (l:=s.drop (idS s (idS s 5).2.2).2.2) (by simp)]
    simp only [show (1:Int).toNat=1 from rfl,show (4:Int).toNat=4 from rfl]
    rw [Xc5 (n:=((XdH ((s.drop 1).take 4):Nat):Int)) (by omega) (by omega),Xvh (by omega) (by omega)]
   ·have:((idS s (idS s 5).2.2).2.1 !=0)=true:=by rw [bne_iff_ne];exact h5
    rw [this,cond_true,if_pos h5];rfl
  ·have:((idS s 5).2.1 !=0)=true:=by rw [bne_iff_ne];exact h4
   rw [this,cond_true,if_pos h4];rfl
theorem Xz5 {r:Xah} (h:r.made=true) (hb:r.bad=false):XbF r=some (r.s,rdr r r.s.length):=by
 unfold XbF Xfu
 rw [Xfp h,Option.bind_some]
 simp only [hb,cond_false]
 rw [XfO h,Option.bind_some]
 have:rdt r r.s.length=r.s:=by unfold rdt;rw [if_neg (by rw [hb];simp),Int.toNat_natCast,List.take_length]
 rw [this]
theorem Xu1 {s:List UInt8} (h:s.length<2^38):Xdk s=some (XhM s):=by
 unfold Xdk Xl9 XhM
 by_cases h0:s=[]
 ·subst h0;decide +kernel
 have hl:0<s.length:=List.length_pos_iff.2 h0
 have hb:=XAp s 0
 obtain ⟨-,q1,q2,q3⟩:=XMG ⟨b1 s 0,hb⟩
 simp only at q1 q2 q3
 have l1:(s.drop 1).length=s.length - 1:=List.length_drop ..
 rw [if_neg h0,XlK,Option.bind_some,Xds rfl (by simp only [];omega),Option.bind_some]
 simp only [rdn,i17]
 rw [Xf6 (by omega) (by omega),Xf7 (by omega) (by omega),show (1:Int).toNat=1 from rfl,Xfp rfl,Option.bind_some,show XdH (s.take 1)=b1 s 0 from rfl,q1,q2,q3]
 simp only [cond_false]
 by_cases h1:b1 s 0/64%2=0
 ·have:((((b1 s 0/64%2*64:Nat):Int))==0)=true:=by rw [beq_iff_eq];omega
  rw [this,cond_true,if_pos h1];rfl
 have:((((b1 s 0/64%2*64:Nat):Int))==0)=false:=by rw [beq_eq_false_iff_ne];omega
 rw [this,cond_false,if_neg h1]
 by_cases h2:b1 s 0<128
 ·have:((((b1 s 0/128*128:Nat):Int)) !=0)=false:=by rw [bne_eq_false_iff_eq];omega
  rw [this,Bool.not_false,cond_true,if_pos h2,XfO rfl,Option.bind_some]
  by_cases h3:s.length<9
  ·have hr:rdr ⟨s.drop 1,true,false⟩ 8=⟨s.drop 1,true,true⟩:=by unfold rdr;rw [if_pos (.inr (.inr (by simp only [];omega)))]
   rw [if_pos h3,hr,Xfp rfl,Option.bind_some];rfl
  ·rw [if_neg h3,Xf6 (by omega) (by omega),Xf7 (by omega) (by omega),Xfp rfl,Option.bind_some]
   simp only [cond_false]
   rw [Xz5 rfl rfl,Option.bind_some,List.drop_drop]
   rfl
 ·have:((((b1 s 0/128*128:Nat):Int)) !=0)=true:=by rw [bne_iff_ne];omega
  rw [this,Bool.not_true,cond_false,if_neg h2,Xds rfl (by simp only [];omega),Option.bind_some]
  simp only [rdn,i47]
  by_cases h3:s.length<5
  ·have hr:rdr ⟨s.drop 1,true,false⟩ 4=⟨s.drop 1,true,true⟩:=by unfold rdr;rw [if_pos (.inr (.inr (by simp only [];omega)))]
   rw [if_pos h3,hr,XIi _ (by omega),Option.bind_some];rfl
  have hv:XdH ((s.drop 1).take 4)<2^32:=Xc9 _ (by decide)
  obtain ⟨r,er,hr⟩:=XGa (s:=s) (p:=5) h
  rw [if_neg h3,Xf6 (by omega) (by omega),Xf7 (by omega) (by omega),show (4:Int).toNat=4 from rfl,List.drop_drop,er,Option.bind_some]
  simp only []
  by_cases h4:(idS s 5).2.1=0
  ·have:((idS s 5).2.1 !=0)=false:=by rw [bne_eq_false_iff_eq];exact h4
   obtain ⟨r',er',hr'⟩:=XGa (s:=s) (p:=(idS s 5).2.2) h
   rw [this,cond_false,if_neg (by omega),hr h4,er',Option.bind_some]
   simp only []
   by_cases h5:(idS s (idS s 5).2.2).2.1=0
   ·have:((idS s (idS s 5).2.2).2.1 !=0)=false:=by rw [bne_eq_false_iff_eq];exact h5
    rw [this,cond_false,if_neg (by omega),hr' h5,Xz5 rfl rfl,Option.bind_some,Xvh (by omega) (by omega)]
   ·have:((idS s (idS s 5).2.2).2.1 !=0)=true:=by rw [bne_iff_ne];exact h5
    rw [this,cond_true,if_pos h5];rfl
  ·have:((idS s 5).2.1 !=0)=true:=by rw [bne_iff_ne];exact h4
   rw [this,cond_true,if_pos h4];rfl
end Go.Vm.Code
namespace Go.Vm.Code
open Go Go.Vm Go.Proofs
set_option maxRecDepth 100000
set_option maxHeartbeats 4000000
set_option linter.unusedVariables false
def XhU (Xd2:Xey) (XeO:Xe1) (s:List UInt8):Option (Xa4×Int):=
 (s[0]?).bind fun (b:UInt8)=>
 cond (((b.toNat:Int).fdiv (2^4))==4)
  (
  (Xd2 s).bind fun xg=>
  cond (xg.2.2 !=0)
   (
   some ((Xa4.mk (Xab.mk false 0 0) (Xab.mk false 0 0) 0 [],xg.2.2)))
   (
   let t:=wI .i64 (20+(xg.1.Options.length:Int))
   let t1:=(s.length:Int) !=(wI .i64 (t+(xg.2.1.length:Int)))
   cond (t1)
    (
    some ((Xa4.mk (Xab.mk false 0 0) (Xab.mk false 0 0) 0 [],5)))
    (
    some ((Xa4.mk xg.1.Src xg.1.Dst xg.1.Proto xg.2.1,0)))))
  (
  cond (((b.toNat:Int).fdiv (2^4))==6)
   (
   (XeO s).bind fun xg1=>
   cond (xg1.2.2 !=0)
    (
    some ((Xa4.mk (Xab.mk false 0 0) (Xab.mk false 0 0) 0 [],xg1.2.2)))
    (
    let t2:=(s.length:Int) !=(wI .i64 (40+(xg1.2.1.length:Int)))
    cond (t2)
     (
     some ((Xa4.mk (Xab.mk false 0 0) (Xab.mk false 0 0) 0 [],5)))
     (
     some ((Xa4.mk xg1.1.Src xg1.1.Dst xg1.1.Next xg1.2.1,0)))))
   (
   some ((Xa4.mk (Xab.mk false 0 0) (Xab.mk false 0 0) 0 [],3))))
def rx88 (x:Xa4×Int):Xcu:=⟨.tuple ⟨[.agg ⟨[.bool x.1.src.V6,.int .u64 x.1.src.Hi,.int .u64 x.1.src.Lo,.bool x.1.dst.V6,.int .u64 x.1.dst.Hi,.int .u64 x.1.dst.Lo,.int .i64 x.1.proto,.string ⟨⟨x.1.body⟩⟩]⟩,.int .i64 x.2]⟩,[],[]⟩
abbrev Xdn:=(List UInt8)→Option (Xa4×Int)
def r88 (g:Xdn):Dec:=dV asS fun (y0:List UInt8)=>Xdm (ofG (g y0) rx88)
theorem r88_c {g:Xdn} {y0:List UInt8} {x:Xa4×Int} (hx:g y0=some x):r88 g [.string ⟨⟨y0⟩⟩] []=some (rx88 x):=(XaY (XcY)).trans (XaX hx)
def s88 (g:Xdn):Xbs:=⟨[.v],r88 g⟩
theorem XP1 {g:Xdn} {y0:List UInt8} {x:Xa4×Int} (hx:g y0=some x):(s88 g).run [.string ⟨⟨y0⟩⟩] []=some (rx88 x):=r88_c hx
abbrev XNS (Xd2:Xey) (XeO:Xe1):List (Nat×Xbs):=[(129,s129 Xd2),(130,s130 XeO)]
theorem XK0 (Xd2:Xey) (XeO:Xe1) (hS:Xal Tryz.prog (XaE (XNS Xd2 XeO))) (s:List UInt8) (res:Xa4×Int) (h:XhU Xd2 XeO s=some res) :
 XaK Tryz.prog 88 0 ⟨⟨88,61,[(0,.string ⟨⟨s⟩⟩)],[.code XGm],[],false,none⟩,[],[],0⟩ (fun v H _=>Res 0 (rx88 res) v H):=by
 unfold XhU at h
 have R1:=@XKr Xd2
 have R2:=@XHk XeO
 refine Xbg XaJ hS true 3000 ?_
 conv=>whnf
 exact W
def XcG:Xdn:=XhU Xd2 XeO
theorem XQi:XbA Tryz.prog 88 (s88 XcG):=by
 have hL:=XK0 Xd2 XeO (Xal.XaV ⟨XJA,XII,trivial⟩)
 exact okA ⟨Tryz.f88,rfl,by decide,rfl⟩
def XeA (XhE:XgC) (XbE:XcO) (oa0:Xa4) (p:Xao):Option (Int×Int×Xao):=
 (XhE oa0.body oa0.src oa0.dst).bind fun xg=>
 cond (xg.2.2 !=0)
  (
  some ((0,xg.2.2,p)))
  (
  (XbE xg.1.Options).bind fun s=>
  cond (decide (s.2.2≥0))
   (
   some (((xg.2.1.length:Int),0,Xao.mk (Xag.mk p.Tuple.Proto p.Tuple.Src p.Tuple.Dst xg.1.SPort xg.1.DPort) xg.1.Flags true s.1 s.2.1 p.Long p.CID p.Size)))
   (
   some (((xg.2.1.length:Int),0,Xao.mk (Xag.mk p.Tuple.Proto p.Tuple.Src p.Tuple.Dst xg.1.SPort xg.1.DPort) xg.1.Flags p.Stamped p.Val p.Echo p.Long p.CID p.Size))))
def rx89 (x:Int×Int×Xao):Xcu:=⟨.tuple ⟨[.int .i64 x.1,.int .i64 x.2.1]⟩,[],[some [.int .i64 x.2.2.Tuple.Proto,.bool x.2.2.Tuple.Src.V6,.int .u64 x.2.2.Tuple.Src.Hi,.int .u64 x.2.2.Tuple.Src.Lo,.bool x.2.2.Tuple.Dst.V6,.int .u64 x.2.2.Tuple.Dst.Hi,.int .u64 x.2.2.Tuple.Dst.Lo,.int .i64 x.2.2.Tuple.SPort,.int .i64 x.2.2.Tuple.DPort,.int .i64 x.2.2.Flags,.bool x.2.2.Stamped,.int .u32 x.2.2.Val,.int .u32 x.2.2.Echo,.bool x.2.2.Long,.string ⟨⟨x.2.2.CID⟩⟩,.int .i64 x.2.2.Size]]⟩
abbrev Xb7:=Xa4→Xao→Option (Int×Int×Xao)
def r89 (g:Xb7):Dec:=dV Xf4 fun (y0:Xa4)=>dPt 0 Xgp fun (y1:Xao)=>Xdm (ofG (g y0 y1) rx89)
theorem r89_c {g:Xb7} {y0:Xa4} {y1:Xao} {x:Int×Int×Xao} (hx:g y0 y1=some x):r89 g [.agg ⟨[.bool y0.src.V6,.int .u64 y0.src.Hi,.int .u64 y0.src.Lo,.bool y0.dst.V6,.int .u64 y0.dst.Hi,.int .u64 y0.dst.Lo,.int .i64 y0.proto,.string ⟨⟨y0.body⟩⟩]⟩,.pointer (some ⟨0,0,none⟩)] [some [.int .i64 y1.Tuple.Proto,.bool y1.Tuple.Src.V6,.int .u64 y1.Tuple.Src.Hi,.int .u64 y1.Tuple.Src.Lo,.bool y1.Tuple.Dst.V6,.int .u64 y1.Tuple.Dst.Hi,.int .u64 y1.Tuple.Dst.Lo,.int .i64 y1.Tuple.SPort,.int .i64 y1.Tuple.DPort,.int .i64 y1.Flags,.bool y1.Stamped,.int .u32 y1.Val,.int .u32 y1.Echo,.bool y1.Long,.string ⟨⟨y1.CID⟩⟩,.int .i64 y1.Size]]=some (rx89 x):=(XaY (Xj1 _)).trans ((Xma (XlA _)).trans (XaX hx))
def s89 (g:Xb7):Xbs:=⟨[.v,.pt 16],r89 g⟩
theorem XSX {g:Xb7} {y0:Xa4} {y1:Xao} {x:Int×Int×Xao} (hx:g y0 y1=some x):(s89 g).run [.agg ⟨[.bool y0.src.V6,.int .u64 y0.src.Hi,.int .u64 y0.src.Lo,.bool y0.dst.V6,.int .u64 y0.dst.Hi,.int .u64 y0.dst.Lo,.int .i64 y0.proto,.string ⟨⟨y0.body⟩⟩]⟩,.pointer (some ⟨0,0,none⟩)] [some [.int .i64 y1.Tuple.Proto,.bool y1.Tuple.Src.V6,.int .u64 y1.Tuple.Src.Hi,.int .u64 y1.Tuple.Src.Lo,.bool y1.Tuple.Dst.V6,.int .u64 y1.Tuple.Dst.Hi,.int .u64 y1.Tuple.Dst.Lo,.int .i64 y1.Tuple.SPort,.int .i64 y1.Tuple.DPort,.int .i64 y1.Flags,.bool y1.Stamped,.int .u32 y1.Val,.int .u32 y1.Echo,.bool y1.Long,.string ⟨⟨y1.CID⟩⟩,.int .i64 y1.Size]]=some (rx89 x):=r89_c hx
abbrev XRm (XhE:XgC) (XbE:XcO):List (Nat×Xbs):=[(117,s117 XhE),(91,s91 XbE)]
theorem XKp (XhE:XgC) (XbE:XcO) (hS:Xal Tryz.prog (XaE (XRm XhE XbE))) (oa0:Xa4) (p:Xao) (res:Int×Int×Xao) (h:XeA XhE XbE oa0 p=some res) :
 XaK Tryz.prog 89 1 ⟨⟨89,65,[(0,.agg ⟨[.bool oa0.src.V6,.int .u64 oa0.src.Hi,.int .u64 oa0.src.Lo,.bool oa0.dst.V6,.int .u64 oa0.dst.Hi,.int .u64 oa0.dst.Lo,.int .i64 oa0.proto,.string ⟨⟨oa0.body⟩⟩]⟩),(1,.pointer (some ⟨0,0,none⟩))],[.code XFF],[],false,none⟩,[],[(0,.cells [.int .i64 p.Tuple.Proto,.bool p.Tuple.Src.V6,.int .u64 p.Tuple.Src.Hi,.int .u64 p.Tuple.Src.Lo,.bool p.Tuple.Dst.V6,.int .u64 p.Tuple.Dst.Hi,.int .u64 p.Tuple.Dst.Lo,.int .i64 p.Tuple.SPort,.int .i64 p.Tuple.DPort,.int .i64 p.Flags,.bool p.Stamped,.int .u32 p.Val,.int .u32 p.Echo,.bool p.Long,.string ⟨⟨p.CID⟩⟩,.int .i64 p.Size])],1⟩ (fun v H _=>Res 1 (rx89 res) v H):=by
 unfold XeA at h
 have R1:=@XLX XhE
 have R2:=@Xxy XbE
 refine Xbg XaJ hS true 3000 ?_
 conv=>whnf
 exact W
def Xbi:Xb7:=XeA XhE XbE
theorem XSw:XbA Tryz.prog 89 (s89 Xbi):=by
 have hL:=XKp XhE XbE (Xal.XaV ⟨XLw,XzX,trivial⟩)
 exact okA ⟨Tryz.f89,rfl,by decide,rfl⟩
def Xee (Xdk:Xd8) (Xhq:XgA) (oa0:Xa4) (p:Xao):Option (Int×Int×Xao):=
 (Xhq oa0.body oa0.src oa0.dst).bind fun xg=>
 cond (xg.2.2 !=0)
  (
  some ((0,xg.2.2,p)))
  (
  let t:=(xg.2.1.length:Int) !=(wI .i64 ((oa0.body.length:Int) - 8))
  cond (t)
   (
   some ((0,5,p)))
   (
   (Xdk xg.2.1).bind fun xg1=>
   cond (xg1.2==0)
    (
    some (((xg.2.1.length:Int),0,Xao.mk (Xag.mk p.Tuple.Proto p.Tuple.Src p.Tuple.Dst xg.1.SPort xg.1.DPort) p.Flags p.Stamped p.Val p.Echo xg1.1.Long xg1.1.DCID p.Size)))
    (
    some (((xg.2.1.length:Int),0,Xao.mk (Xag.mk p.Tuple.Proto p.Tuple.Src p.Tuple.Dst xg.1.SPort xg.1.DPort) p.Flags p.Stamped p.Val p.Echo p.Long p.CID p.Size)))))
def rx90 (x:Int×Int×Xao):Xcu:=⟨.tuple ⟨[.int .i64 x.1,.int .i64 x.2.1]⟩,[],[some [.int .i64 x.2.2.Tuple.Proto,.bool x.2.2.Tuple.Src.V6,.int .u64 x.2.2.Tuple.Src.Hi,.int .u64 x.2.2.Tuple.Src.Lo,.bool x.2.2.Tuple.Dst.V6,.int .u64 x.2.2.Tuple.Dst.Hi,.int .u64 x.2.2.Tuple.Dst.Lo,.int .i64 x.2.2.Tuple.SPort,.int .i64 x.2.2.Tuple.DPort,.int .i64 x.2.2.Flags,.bool x.2.2.Stamped,.int .u32 x.2.2.Val,.int .u32 x.2.2.Echo,.bool x.2.2.Long,.string ⟨⟨x.2.2.CID⟩⟩,.int .i64 x.2.2.Size]]⟩
abbrev XbW:=Xa4→Xao→Option (Int×Int×Xao)
def r90 (g:XbW):Dec:=dV Xf4 fun (y0:Xa4)=>dPt 0 Xgp fun (y1:Xao)=>Xdm (ofG (g y0 y1) rx90)
theorem r90_c {g:XbW} {y0:Xa4} {y1:Xao} {x:Int×Int×Xao} (hx:g y0 y1=some x):r90 g [.agg ⟨[.bool y0.src.V6,.int .u64 y0.src.Hi,.int .u64 y0.src.Lo,.bool y0.dst.V6,.int .u64 y0.dst.Hi,.int .u64 y0.dst.Lo,.int .i64 y0.proto,.string ⟨⟨y0.body⟩⟩]⟩,.pointer (some ⟨0,0,none⟩)] [some [.int .i64 y1.Tuple.Proto,.bool y1.Tuple.Src.V6,.int .u64 y1.Tuple.Src.Hi,.int .u64 y1.Tuple.Src.Lo,.bool y1.Tuple.Dst.V6,.int .u64 y1.Tuple.Dst.Hi,.int .u64 y1.Tuple.Dst.Lo,.int .i64 y1.Tuple.SPort,.int .i64 y1.Tuple.DPort,.int .i64 y1.Flags,.bool y1.Stamped,.int .u32 y1.Val,.int .u32 y1.Echo,.bool y1.Long,.string ⟨⟨y1.CID⟩⟩,.int .i64 y1.Size]]=some (rx90 x):=(XaY (Xj1 _)).trans ((Xma (XlA _)).trans (XaX hx))
def s90 (g:XbW):Xbs:=⟨[.v,.pt 16],r90 g⟩
theorem XOE {g:XbW} {y0:Xa4} {y1:Xao} {x:Int×Int×Xao} (hx:g y0 y1=some x):(s90 g).run [.agg ⟨[.bool y0.src.V6,.int .u64 y0.src.Hi,.int .u64 y0.src.Lo,.bool y0.dst.V6,.int .u64 y0.dst.Hi,.int .u64 y0.dst.Lo,.int .i64 y0.proto,.string ⟨⟨y0.body⟩⟩]⟩,.pointer (some ⟨0,0,none⟩)] [some [.int .i64 y1.Tuple.Proto,.bool y1.Tuple.Src.V6,.int .u64 y1.Tuple.Src.Hi,.int .u64 y1.Tuple.Src.Lo,.bool y1.Tuple.Dst.V6,.int .u64 y1.Tuple.Dst.Hi,.int .u64 y1.Tuple.Dst.Lo,.int .i64 y1.Tuple.SPort,.int .i64 y1.Tuple.DPort,.int .i64 y1.Flags,.bool y1.Stamped,.int .u32 y1.Val,.int .u32 y1.Echo,.bool y1.Long,.string ⟨⟨y1.CID⟩⟩,.int .i64 y1.Size]]=some (rx90 x):=r90_c hx
abbrev XSJ (Xdk:Xd8) (Xhq:XgA):List (Nat×Xbs):=[(68,s68 Xdk),(118,s118 Xhq)]
theorem XLu (Xdk:Xd8) (Xhq:XgA) (hS:Xal Tryz.prog (XaE (XSJ Xdk Xhq))) (oa0:Xa4) (p:Xao) (res:Int×Int×Xao) (h:Xee Xdk Xhq oa0 p=some res) :
 XaK Tryz.prog 90 1 ⟨⟨90,65,[(0,.agg ⟨[.bool oa0.src.V6,.int .u64 oa0.src.Hi,.int .u64 oa0.src.Lo,.bool oa0.dst.V6,.int .u64 oa0.dst.Hi,.int .u64 oa0.dst.Lo,.int .i64 oa0.proto,.string ⟨⟨oa0.body⟩⟩]⟩),(1,.pointer (some ⟨0,0,none⟩))],[.code XEQ],[],false,none⟩,[],[(0,.cells [.int .i64 p.Tuple.Proto,.bool p.Tuple.Src.V6,.int .u64 p.Tuple.Src.Hi,.int .u64 p.Tuple.Src.Lo,.bool p.Tuple.Dst.V6,.int .u64 p.Tuple.Dst.Hi,.int .u64 p.Tuple.Dst.Lo,.int .i64 p.Tuple.SPort,.int .i64 p.Tuple.DPort,.int .i64 p.Flags,.bool p.Stamped,.int .u32 p.Val,.int .u32 p.Echo,.bool p.Long,.string ⟨⟨p.CID⟩⟩,.int .i64 p.Size])],1⟩ (fun v H _=>Res 1 (rx90 res) v H):=by
 unfold Xee at h
 have R1:=@XJD Xhq
 have R2:=@XE3 Xdk
 refine Xbg XaJ hS true 3000 ?_
 conv=>whnf
 exact W
def Xbe:XbW:=Xee Xdk Xhq
theorem XRU:XbA Tryz.prog 90 (s90 Xbe):=by
 have hL:=XLu Xdk Xhq (Xal.XaV ⟨XGB,XJC,trivial⟩)
 exact okA ⟨Tryz.f90,rfl,by decide,rfl⟩
def XiV (XcG:Xdn) (Xbe:XbW) (Xbi:Xb7) (s:List UInt8):Option (Xao×Int×Int×Int):=
 cond (decide ((s.length:Int)>9000))
  (
  some ((Xao.mk (Xag.mk 0 (Xab.mk false 0 0) (Xab.mk false 0 0) 0 0) 0 false 0 0 false [] 0,0,0,5)))
  (
  cond (s==[])
   (
   some ((Xao.mk (Xag.mk 0 (Xab.mk false 0 0) (Xab.mk false 0 0) 0 0) 0 false 0 0 false [] 0,0,0,2)))
   (
   (XcG s).bind fun xo=>
   cond (xo.2 !=0)
    (
    some ((Xao.mk (Xag.mk 0 (Xab.mk false 0 0) (Xab.mk false 0 0) 0 0) 0 false 0 0 false [] 0,0,0,xo.2)))
    (
    cond (xo.1.proto==6)
     (
     (Xbi xo.1 (Xao.mk (Xag.mk xo.1.proto xo.1.src xo.1.dst 0 0) 0 false 0 0 false [] (s.length:Int))).bind fun s1=>
     cond (s1.2.1 !=0)
      (
      some ((Xao.mk (Xag.mk 0 (Xab.mk false 0 0) (Xab.mk false 0 0) 0 0) 0 false 0 0 false [] 0,0,0,s1.2.1)))
      (
      some ((s1.2.2,(xo.1.body.length:Int),s1.1,0))))
     (
     cond (xo.1.proto==17)
      (
      (Xbe xo.1 (Xao.mk (Xag.mk xo.1.proto xo.1.src xo.1.dst 0 0) 0 false 0 0 false [] (s.length:Int))).bind fun d=>
      cond (d.2.1 !=0)
       (
       some ((Xao.mk (Xag.mk 0 (Xab.mk false 0 0) (Xab.mk false 0 0) 0 0) 0 false 0 0 false [] 0,0,0,d.2.1)))
       (
       some ((d.2.2,(xo.1.body.length:Int),d.1,0))))
      (
      some ((Xao.mk (Xag.mk 0 (Xab.mk false 0 0) (Xab.mk false 0 0) 0 0) 0 false 0 0 false [] 0,0,0,6)))))))
def rx55 (x:Xao×Int×Int×Int):Xcu:=⟨.tuple ⟨[.agg ⟨[.int .i64 x.1.Tuple.Proto,.bool x.1.Tuple.Src.V6,.int .u64 x.1.Tuple.Src.Hi,.int .u64 x.1.Tuple.Src.Lo,.bool x.1.Tuple.Dst.V6,.int .u64 x.1.Tuple.Dst.Hi,.int .u64 x.1.Tuple.Dst.Lo,.int .i64 x.1.Tuple.SPort,.int .i64 x.1.Tuple.DPort,.int .i64 x.1.Flags,.bool x.1.Stamped,.int .u32 x.1.Val,.int .u32 x.1.Echo,.bool x.1.Long,.string ⟨⟨x.1.CID⟩⟩,.int .i64 x.1.Size]⟩,.int .i64 x.2.1,.int .i64 x.2.2.1,.int .i64 x.2.2.2]⟩,[],[]⟩
abbrev XcP:=(List UInt8)→Option (Xao×Int×Int×Int)
def r55 (g:XcP):Dec:=dV asS fun (y0:List UInt8)=>Xdm (ofG (g y0) rx55)
theorem r55_c {g:XcP} {y0:List UInt8} {x:Xao×Int×Int×Int} (hx:g y0=some x):r55 g [.string ⟨⟨y0⟩⟩] []=some (rx55 x):=(XaY (XcY)).trans (XaX hx)
def s55 (g:XcP):Xbs:=⟨[.v],r55 g⟩
theorem XEX {g:XcP} {y0:List UInt8} {x:Xao×Int×Int×Int} (hx:g y0=some x):(s55 g).run [.string ⟨⟨y0⟩⟩] []=some (rx55 x):=r55_c hx
abbrev XNO (XcG:Xdn) (Xbe:XbW) (Xbi:Xb7):List (Nat×Xbs):=[(88,s88 XcG),(90,s90 Xbe),(89,s89 Xbi)]
theorem XJI (XcG:Xdn) (Xbe:XbW) (Xbi:Xb7) (hS:Xal Tryz.prog (XaE (XNO XcG Xbe Xbi))) (s:List UInt8) (res:Xao×Int×Int×Int) (h:XiV XcG Xbe Xbi s=some res) :
 XaK Tryz.prog 55 0 ⟨⟨55,63,[(0,.string ⟨⟨s⟩⟩)],[.code XFW],[],false,none⟩,[],[],0⟩ (fun v H _=>Res 0 (rx55 res) v H):=by
 unfold XiV at h
 have R1:=@XP1 XcG
 have R2:=@XSX Xbi
 have R3:=@XOE Xbe
 refine Xbg XaJ hS true 3000 ?_
 conv=>whnf
 exact W
def XbT:XcP:=XiV XcG Xbe Xbi
theorem XFm:XbA Tryz.prog 55 (s55 XbT):=by
 have hL:=XJI XcG Xbe Xbi (Xal.XaV ⟨XQi,XRU,XSw,trivial⟩)
 exact okA ⟨Tryz.f55,rfl,by decide,rfl⟩
def Xik (XbT:XcP) (s:List UInt8):Option (Xao×Int):=
 (XbT s).bind fun t=>
 some ((t.1,t.2.2.2))
def rx30 (x:Xao×Int):Xcu:=⟨.tuple ⟨[.agg ⟨[.int .i64 x.1.Tuple.Proto,.bool x.1.Tuple.Src.V6,.int .u64 x.1.Tuple.Src.Hi,.int .u64 x.1.Tuple.Src.Lo,.bool x.1.Tuple.Dst.V6,.int .u64 x.1.Tuple.Dst.Hi,.int .u64 x.1.Tuple.Dst.Lo,.int .i64 x.1.Tuple.SPort,.int .i64 x.1.Tuple.DPort,.int .i64 x.1.Flags,.bool x.1.Stamped,.int .u32 x.1.Val,.int .u32 x.1.Echo,.bool x.1.Long,.string ⟨⟨x.1.CID⟩⟩,.int .i64 x.1.Size]⟩,.int .i64 x.2]⟩,[],[]⟩
abbrev Xa7:=(List UInt8)→Option (Xao×Int)
def r30 (g:Xa7):Dec:=dV asS fun (y0:List UInt8)=>Xdm (ofG (g y0) rx30)
theorem r30_c {g:Xa7} {y0:List UInt8} {x:Xao×Int} (hx:g y0=some x):r30 g [.string ⟨⟨y0⟩⟩] []=some (rx30 x):=(XaY (XcY)).trans (XaX hx)
def s30 (g:Xa7):Xbs:=⟨[.v],r30 g⟩
theorem XqL {g:Xa7} {y0:List UInt8} {x:Xao×Int} (hx:g y0=some x):(s30 g).run [.string ⟨⟨y0⟩⟩] []=some (rx30 x):=r30_c hx
abbrev XRo (XbT:XcP):List (Nat×Xbs):=[(55,s55 XbT)]
theorem XIO (XbT:XcP) (hS:Xal Tryz.prog (XaE (XRo XbT))) (s:List UInt8) (res:Xao×Int) (h:Xik XbT s=some res) :
 XaK Tryz.prog 30 0 ⟨⟨30,17,[(0,.string ⟨⟨s⟩⟩)],[.code XPf],[],false,none⟩,[],[],0⟩ (fun v H _=>Res 0 (rx30 res) v H):=by
 unfold Xik at h
 have R1:=@XEX XbT
 refine Xbg XaJ hS true 3000 ?_
 conv=>whnf
 exact W
def Xav:Xa7:=Xik XbT
theorem XqE:XbA Tryz.prog 30 (s30 Xav):=by
 have hL:=XIO XbT (Xal.XaV ⟨XFm,trivial⟩)
 exact okA ⟨Tryz.f30,rfl,by decide,rfl⟩
def Xiq (XbT:XcP) (s:List UInt8):Option (Int×Int×Int):=
 (XbT s).bind fun t=>
 cond (t.2.2.2 !=0)
  (
  some ((0,0,t.2.2.2)))
  (
  some ((wI .i64 ((s.length:Int) - t.2.1),wI .i64 ((s.length:Int) - t.2.2.1),0)))
def rx67 (x:Int×Int×Int):Xcu:=⟨.tuple ⟨[.int .i64 x.1,.int .i64 x.2.1,.int .i64 x.2.2]⟩,[],[]⟩
abbrev Xb5:=(List UInt8)→Option (Int×Int×Int)
def r67 (g:Xb5):Dec:=dV asS fun (y0:List UInt8)=>Xdm (ofG (g y0) rx67)
theorem r67_c {g:Xb5} {y0:List UInt8} {x:Int×Int×Int} (hx:g y0=some x):r67 g [.string ⟨⟨y0⟩⟩] []=some (rx67 x):=(XaY (XcY)).trans (XaX hx)
def s67 (g:Xb5):Xbs:=⟨[.v],r67 g⟩
theorem XyY {g:Xb5} {y0:List UInt8} {x:Int×Int×Int} (hx:g y0=some x):(s67 g).run [.string ⟨⟨y0⟩⟩] []=some (rx67 x):=r67_c hx
abbrev XNK (XbT:XcP):List (Nat×Xbs):=[(55,s55 XbT)]
theorem XKD (XbT:XcP) (hS:Xal Tryz.prog (XaE (XNK XbT))) (s:List UInt8) (res:Int×Int×Int) (h:Xiq XbT s=some res) :
 XaK Tryz.prog 67 0 ⟨⟨67,27,[(0,.string ⟨⟨s⟩⟩)],[.code XEN],[],false,none⟩,[],[],0⟩ (fun v H _=>Res 0 (rx67 res) v H):=by
 unfold Xiq at h
 have R1:=@XEX XbT
 refine Xbg XaJ hS true 3000 ?_
 conv=>whnf
 exact W
def Xa3:Xb5:=Xiq XbT
theorem XxT:XbA Tryz.prog 67 (s67 Xa3):=by
 have hL:=XKD XbT (Xal.XaV ⟨XFm,trivial⟩)
 exact okA ⟨Tryz.f67,rfl,by decide,rfl⟩
end Go.Vm.Code
namespace Go.Vm.Code
open Go Go.Vm
def zP:Xao:=⟨⟨0,⟨false,0,0⟩,⟨false,0,0⟩,0,0⟩,0,false,0,0,false,[],0⟩
structure O11 where
 src:Xab
 dst:Xab
 proto:Int
 size:Nat
 body:List UInt8
 err:Int
def zO (e:Int):O11:=⟨⟨false,0,0⟩,⟨false,0,0⟩,0,0,[],e⟩
def Xaj (s:List UInt8):O11:=
 if vK s 0 1/16=4 then (if (XhN s).2.2≠0 then zO (XhN s).2.2 else if s.length≠20+(XhN s).1.Options.length+(XhN s).2.1.length then zO 5 else ⟨(XhN s).1.Src,(XhN s).1.Dst,(XhN s).1.Proto,20+(XhN s).1.Options.length,(XhN s).2.1,0⟩)
 else if vK s 0 1/16=6 then (if (Xjd s).2.2≠0 then zO (Xjd s).2.2 else if s.length≠40+(Xjd s).2.1.length then zO 5 else ⟨(Xjd s).1.Src,(Xjd s).1.Dst,(Xjd s).1.Next,40,(Xjd s).2.1,0⟩)
 else zO 3
def Xr0 (o:List UInt8):Bool×Int×Int:=if 0≤(Xfs o).2.2 then (true,(Xfs o).1,(Xfs o).2.1) else (false,0,0)
def Xwv (b:List UInt8):Bool×List UInt8:=if (XhM b).2=0 then ((XhM b).1.Long,(XhM b).1.DCID) else (false,[])
def Xfo (o:O11) (n:Nat):Xao×Nat×Int:=
 if o.proto=6 then (if (XgQ o.body o.src o.dst).2.2≠0 then (zP,0,(XgQ o.body o.src o.dst).2.2) else
  (⟨⟨o.proto,o.src,o.dst,(XgQ o.body o.src o.dst).1.SPort,(XgQ o.body o.src o.dst).1.DPort⟩,(XgQ o.body o.src o.dst).1.Flags,(Xr0 (XgQ o.body o.src o.dst).1.Options).1,(Xr0 (XgQ o.body o.src o.dst).1.Options).2.1,(Xr0 (XgQ o.body o.src o.dst).1.Options).2.2,false,[],n⟩,(XgQ o.body o.src o.dst).2.1.length,0))
 else if o.proto=17 then (if (XgN o.body o.src o.dst).2.2≠0 then (zP,0,(XgN o.body o.src o.dst).2.2) else if (XgN o.body o.src o.dst).2.1.length+8≠o.body.length then (zP,0,5) else
  (⟨⟨o.proto,o.src,o.dst,(XgN o.body o.src o.dst).1.SPort,(XgN o.body o.src o.dst).1.DPort⟩,0,false,0,0,(Xwv (XgN o.body o.src o.dst).2.1).1,(Xwv (XgN o.body o.src o.dst).2.1).2,n⟩,(XgN o.body o.src o.dst).2.1.length,0))
 else (zP,0,6)
def Xax (s:List UInt8):Xao×Nat×Nat×Int:=
 if 9000<s.length then (zP,0,0,5) else if s=[] then (zP,0,0,2) else if (Xaj s).err≠0 then (zP,0,0,(Xaj s).err) else
  if (Xfo (Xaj s) s.length).2.2≠0 then (zP,0,0,(Xfo (Xaj s) s.length).2.2) else
   ((Xfo (Xaj s) s.length).1,s.length - (Xaj s).body.length,s.length - (Xfo (Xaj s) s.length).2.1,0)
theorem XLa (s:List UInt8):A4 (XhN s).1.Src∧A4 (XhN s).1.Dst:=by
 have z:A4 ⟨false,0,0⟩:=⟨by simp only [];omega,by simp only [];omega,by simp only [];omega,by simp only [];omega⟩
 have k:∀ p,A4 (XwV s p):=fun p=>by
  have:=XeH s p 4 4294967296 (by decide)
  exact ⟨Int.le_refl 0,by show (0:Int)<2^64;decide,this.1,by show vK s p 4<2^64;omega⟩
 unfold XhN
 split
 ·exact ⟨z,z⟩
 split
 ·exact ⟨z,z⟩
 split
 ·exact ⟨z,z⟩
 split
 ·exact ⟨z,z⟩
 split
 ·exact ⟨z,z⟩
 split
 ·exact ⟨z,z⟩
 split
 ·exact ⟨z,z⟩
 exact ⟨k 12,k 16⟩
theorem XHV (s:List UInt8):A4 (Xjd s).1.Src∧A4 (Xjd s).1.Dst:=by
 have z:A4 ⟨false,0,0⟩:=⟨by simp only [];omega,by simp only [];omega,by simp only [];omega,by simp only [];omega⟩
 have k:∀ p,A4 (Xse ((s.drop p).take 16)):=fun p=>by
  have h1:XdH (((s.drop p).take 16).take 8)<2^64:=Xc9 _ (by decide)
  have h2:XdH (((s.drop p).take 16).drop 8)<2^64:=by
   have:=XsA (((s.drop p).take 16).drop 8)
   refine Nat.lt_of_lt_of_le this ?_
   have:(((s.drop p).take 16).drop 8).length≤8:=by simp;omega
   exact Nat.pow_le_pow_right (n:=256) (by decide) this
  unfold Xse
  exact ⟨by simp only [];omega,by simp only [];omega,by simp only [];omega,by simp only [];omega⟩
 unfold Xjd
 split
 ·exact ⟨z,z⟩
 split
 ·exact ⟨z,z⟩
 split
 ·exact ⟨z,z⟩
 exact ⟨k 8,k 24⟩
theorem Xsr (s:List UInt8):A4 (Xaj s).src∧A4 (Xaj s).dst:=by
 have z:A4 ⟨false,0,0⟩:=⟨by simp only [];omega,by simp only [];omega,by simp only [];omega,by simp only [];omega⟩
 unfold Xaj zO
 split
 ·split
  ·exact ⟨z,z⟩
  split
  ·exact ⟨z,z⟩
  exact XLa s
 split
 ·split
  ·exact ⟨z,z⟩
  split
  ·exact ⟨z,z⟩
  exact XHV s
 exact ⟨z,z⟩
theorem XfB {s:List UInt8} (h:(Xaj s).err=0):(Xaj s).body.length+(Xaj s).size=s.length:=by
 unfold Xaj at h ⊢
 by_cases g1:vK s 0 1/16=4
 ·rw [if_pos g1] at h ⊢
  by_cases g2:(XhN s).2.2≠0
  ·rw [if_pos g2] at h;exact absurd h g2
  rw [if_neg g2] at h ⊢
  by_cases g3:s.length≠20+(XhN s).1.Options.length+(XhN s).2.1.length
  ·rw [if_pos g3] at h;exact absurd h (by decide)
  rw [if_neg g3]
  simp only [];omega
 rw [if_neg g1] at h ⊢
 by_cases g4:vK s 0 1/16=6
 ·rw [if_pos g4] at h ⊢
  by_cases g2:(Xjd s).2.2≠0
  ·rw [if_pos g2] at h;exact absurd h g2
  rw [if_neg g2] at h ⊢
  by_cases g3:s.length≠40+(Xjd s).2.1.length
  ·rw [if_pos g3] at h;exact absurd h (by decide)
  rw [if_neg g3]
  simp only [];omega
 ·rw [if_neg g4] at h;exact absurd h (by decide)
theorem XpL {s:List UInt8} (h:(Xax s).2.2.2≠0):Xax s=(zP,0,0,(Xax s).2.2.2):=by
 unfold Xax at h ⊢
 split
 ·rfl
 rename_i g1
 rw [if_neg g1] at h
 split
 ·rfl
 rename_i g2
 rw [if_neg g2] at h
 split
 ·rfl
 rename_i g3
 rw [if_neg g3] at h
 split
 ·rfl
 rename_i g4
 rw [if_neg g4] at h
 exact absurd rfl h
def o11 (o:O11):Xa4:=⟨o.src,o.dst,o.proto,o.body⟩
theorem XzT {s:List UInt8} (hs:s.length<2^19) (hn:s≠[]):XcG s=some (o11 (Xaj s),(Xaj s).err):=by
 unfold XcG XhU
 have h0:0<s.length:=List.length_pos_iff.2 hn
 have e0:=Xkg (s:=s) (p:=0) h0
 have r0:=XeH s 0 1 256 (by decide)
 rw [List.getElem?_eq_getElem h0,Option.bind_some,←e0,Xs8,show ((2:Int)^4)=16 from rfl,g5_eq (by omega),XJc (by omega),Option.bind_some,Option.bind_some]
 unfold Xaj
 by_cases g1:vK s 0 1/16=4
 ·rw [if_pos g1,show (vK s 0 1/16==4)=true by simpa using g1,cond_true]
  by_cases g2:(XhN s).2.2=0
  ·have hb:(XhN s).1.Options.length≤s.length∧(XhN s).2.1.length≤s.length:=by
    unfold XhN
    repeat' split
    all_goals simp [Xpu]
    omega
   rw [if_neg (by simpa using g2),show ((XhN s).2.2 !=0)=false by simpa using g2,cond_false,Xc5 (n:=20+((XhN s).1.Options.length:Int)) (by omega) (by omega)]
   simp only []
   rw [Xc5 (n:=20+((XhN s).1.Options.length:Int)+((XhN s).2.1.length:Int)) (by omega) (by omega)]
   by_cases g3:s.length=20+(XhN s).1.Options.length+(XhN s).2.1.length
   ·rw [if_neg (by simpa using g3),show ((s.length:Int) !=20+((XhN s).1.Options.length:Int)+((XhN s).2.1.length:Int))=false by simp;omega];rfl
   ·rw [if_pos g3,show ((s.length:Int) !=20+((XhN s).1.Options.length:Int)+((XhN s).2.1.length:Int))=true by simp;omega];rfl
  ·rw [if_pos g2,show ((XhN s).2.2 !=0)=true by simpa using g2,cond_true];rfl
 ·rw [if_neg g1,show (vK s 0 1/16==4)=false by simpa using g1,cond_false]
  by_cases g4:vK s 0 1/16=6
  ·rw [if_pos g4,show (vK s 0 1/16==6)=true by simpa using g4,cond_true]
   by_cases g2:(Xjd s).2.2=0
   ·have hb:(Xjd s).2.1.length≤s.length:=by
     unfold Xjd
     repeat' split
     all_goals simp
     omega
    rw [if_neg (by simpa using g2),show ((Xjd s).2.2 !=0)=false by simpa using g2,cond_false,Xc5 (n:=40+((Xjd s).2.1.length:Int)) (by omega) (by omega)]
    by_cases g3:s.length=40+(Xjd s).2.1.length
    ·rw [if_neg (by simpa using g3),show ((s.length:Int) !=40+((Xjd s).2.1.length:Int))=false by simp;omega];rfl
    ·rw [if_pos g3,show ((s.length:Int) !=40+((Xjd s).2.1.length:Int))=true by simp;omega];rfl
   ·rw [if_pos g2,show ((Xjd s).2.2 !=0)=true by simpa using g2,cond_true];rfl
  ·rw [if_neg g4,show (vK s 0 1/16==6)=false by simpa using g4,cond_false];rfl
theorem XSk {o:O11} {n:Nat} (h1:A4 o.src) (h2:A4 o.dst) (hb:o.body.length<2^19) (hp:o.proto=6):∃ q,Xbi (o11 o) ⟨⟨o.proto,o.src,o.dst,0,0⟩,0,false,0,0,false,[],(n:Int)⟩=some (((Xfo o n).2.1:Int),(Xfo o n).2.2,q)∧((Xfo o n).2.2=0→q=(Xfo o n).1):=by
 unfold Xbi XeA Xfo o11
 rw [if_pos hp]
 simp only []
 rw [XBv h1 h2 (by omega),Option.bind_some]
 by_cases g:(XgQ o.body o.src o.dst).2.2=0
 ·have ho:(XgQ o.body o.src o.dst).1.Options.length<2^20:=by
   unfold XgQ
   repeat' split
   all_goals simp [Xp8]
   all_goals omega
  rw [if_neg (by simpa using g),show ((XgQ o.body o.src o.dst).2.2 !=0)=false by simpa using g,cond_false,XAk ho,Option.bind_some]
  unfold Xr0
  by_cases g2:0≤(Xfs (XgQ o.body o.src o.dst).1.Options).2.2
  ·rw [if_pos g2,Xa2 (by omega)]
   exact ⟨_,rfl,fun _=>rfl⟩
  ·rw [if_neg g2,XaQ (by omega)]
   exact ⟨_,rfl,fun _=>rfl⟩
 ·rw [if_pos g,show ((XgQ o.body o.src o.dst).2.2 !=0)=true by simpa using g,cond_true]
  exact ⟨_,rfl,fun h=>absurd h g⟩
theorem XMW {o:O11} {n:Nat} (h1:A4 o.src) (h2:A4 o.dst) (hb:o.body.length<2^19) (hp:o.proto=17):∃ q,Xbe (o11 o) ⟨⟨o.proto,o.src,o.dst,0,0⟩,0,false,0,0,false,[],(n:Int)⟩=some (((Xfo o n).2.1:Int),(Xfo o n).2.2,q)∧((Xfo o n).2.2=0→q=(Xfo o n).1):=by
 unfold Xbe Xee Xfo o11
 rw [if_neg (by omega),if_pos hp]
 simp only []
 rw [XIX h1 h2 (by omega),Option.bind_some]
 by_cases g:(XgN o.body o.src o.dst).2.2=0
 ·have ho:(XgN o.body o.src o.dst).2.1.length<2^20:=by
   unfold XgN
   repeat' split
   all_goals simp
   all_goals omega
  rw [if_neg (by simpa using g),show ((XgN o.body o.src o.dst).2.2 !=0)=false by simpa using g,cond_false,Xc5 (n:=(o.body.length:Int) - 8) (by omega) (by omega)]
  by_cases g2:(XgN o.body o.src o.dst).2.1.length+8=o.body.length
  ·rw [if_neg (by simpa using g2),show (((XgN o.body o.src o.dst).2.1.length:Int) !=(o.body.length:Int) - 8)=false by simp;omega,cond_false,Xu1 (by omega),Option.bind_some]
   unfold Xwv
   by_cases g3:(XhM (XgN o.body o.src o.dst).2.1).2=0
   ·rw [if_pos g3,show ((XhM (XgN o.body o.src o.dst).2.1).2==0)=true by simpa using g3,cond_true]
    exact ⟨_,rfl,fun _=>rfl⟩
   ·rw [if_neg g3,show ((XhM (XgN o.body o.src o.dst).2.1).2==0)=false by simpa using g3,cond_false]
    exact ⟨_,rfl,fun _=>rfl⟩
  ·rw [if_pos g2,show (((XgN o.body o.src o.dst).2.1.length:Int) !=(o.body.length:Int) - 8)=true by simp;omega,cond_true]
   exact ⟨_,rfl,fun h=>absurd h (by decide)⟩
 ·rw [if_pos g,show ((XgN o.body o.src o.dst).2.2 !=0)=true by simpa using g,cond_true]
  exact ⟨_,rfl,fun h=>absurd h g⟩
def Xjw (s:List UInt8):Xao×Int×Int×Int:=
 if (Xax s).2.2.2≠0 then (zP,0,0,(Xax s).2.2.2) else ((Xax s).1,((s.length - (Xax s).2.1:Nat):Int),((s.length - (Xax s).2.2.1:Nat):Int),0)
theorem XDd {o:O11} {n:Nat}:(Xfo o n).2.1≤o.body.length:=by
 unfold Xfo
 split
 ·split
  ·simp
  ·show (XgQ o.body o.src o.dst).2.1.length≤_
   unfold XgQ
   repeat' split
   all_goals simp
 split
 ·split
  ·simp
  split
  ·simp
  ·show (XgN o.body o.src o.dst).2.1.length≤_
   unfold XgN
   repeat' split
   all_goals simp
   all_goals omega
 ·simp
theorem XvI {s:List UInt8} (hs:s.length<2^19):XbT s=some (Xjw s):=by
 unfold XbT XiV
 have hz:(⟨⟨0,⟨false,0,0⟩,⟨false,0,0⟩,0,0⟩,0,false,0,0,false,[],0⟩:Xao)=zP:=rfl
 rw [hz]
 by_cases g1:9000<s.length
 ·have hT:Xax s=(zP,0,0,5):=by unfold Xax;rw [if_pos g1]
  unfold Xjw
  rw [Xa2 (by omega),hT];rfl
 rw [XaQ (by omega)]
 by_cases g2:s=[]
 ·subst g2;rfl
 rw [show (s==[])=false by simpa using g2,cond_false,XzT hs g2,Option.bind_some]
 obtain ⟨a1,a2⟩:=Xsr s
 by_cases g3:(Xaj s).err=0
 ·have hb:=XfB g3
  have hil:=XDd (o:=Xaj s) (n:=s.length)
  have hE:(Xfo (Xaj s) s.length).2.2≠0→Xjw s=(zP,0,0,(Xfo (Xaj s) s.length).2.2):=fun g4=>by
   have hT:Xax s=(zP,0,0,(Xfo (Xaj s) s.length).2.2):=by unfold Xax;rw [if_neg g1,if_neg g2,if_neg (by simpa using g3),if_pos g4]
   unfold Xjw
   rw [hT,if_pos g4]
  have hO:(Xfo (Xaj s) s.length).2.2=0→Xjw s=((Xfo (Xaj s) s.length).1,((Xaj s).body.length:Int),((Xfo (Xaj s) s.length).2.1:Int),0):=fun g4=>by
   have hT:Xax s=((Xfo (Xaj s) s.length).1,s.length - (Xaj s).body.length,s.length - (Xfo (Xaj s) s.length).2.1,0):=by unfold Xax;rw [if_neg g1,if_neg g2,if_neg (by simpa using g3),if_neg (by simpa using g4)]
   unfold Xjw
   rw [hT,if_neg (by simp)]
   simp only []
   rw [show s.length - (s.length - (Xaj s).body.length)=(Xaj s).body.length by omega,show s.length - (s.length - (Xfo (Xaj s) s.length).2.1)=(Xfo (Xaj s) s.length).2.1 by omega]
  simp only [g3,bne_self_eq_false,cond_false]
  by_cases p6:(Xaj s).proto=6
  ·obtain ⟨q,q1,q2⟩:=XSk (o:=Xaj s) (n:=s.length) a1 a2 (by omega) p6
   have e6:((o11 (Xaj s)).proto==6)=true:=by show ((Xaj s).proto==6)=true;simpa using p6
   rw [e6,cond_true]
   show (Xbi (o11 (Xaj s)) ⟨⟨(Xaj s).proto,(Xaj s).src,(Xaj s).dst,0,0⟩,0,false,0,0,false,[],(s.length:Int)⟩).bind _=_
   rw [q1,Option.bind_some]
   simp only []
   by_cases g4:(Xfo (Xaj s) s.length).2.2=0
   ·rw [hO g4,g4,q2 g4];rfl
   ·rw [hE g4,show ((Xfo (Xaj s) s.length).2.2 !=0)=true by simpa using g4];rfl
  ·have e6:((o11 (Xaj s)).proto==6)=false:=by show ((Xaj s).proto==6)=false;simpa using p6
   rw [e6,cond_false]
   by_cases p17:(Xaj s).proto=17
   ·obtain ⟨q,q1,q2⟩:=XMW (o:=Xaj s) (n:=s.length) a1 a2 (by omega) p17
    have e17:((o11 (Xaj s)).proto==17)=true:=by show ((Xaj s).proto==17)=true;simpa using p17
    rw [e17,cond_true]
    show (Xbe (o11 (Xaj s)) ⟨⟨(Xaj s).proto,(Xaj s).src,(Xaj s).dst,0,0⟩,0,false,0,0,false,[],(s.length:Int)⟩).bind _=_
    rw [q1,Option.bind_some]
    simp only []
    by_cases g4:(Xfo (Xaj s) s.length).2.2=0
    ·rw [hO g4,g4,q2 g4];rfl
    ·rw [hE g4,show ((Xfo (Xaj s) s.length).2.2 !=0)=true by simpa using g4];rfl
   ·have e17:((o11 (Xaj s)).proto==17)=false:=by show ((Xaj s).proto==17)=false;simpa using p17
    have e6':(Xfo (Xaj s) s.length).2.2=6:=by unfold Xfo;rw [if_neg p6,if_neg p17]
    rw [e17,cond_false,hE (by rw [e6'];decide),e6']
 ·have hT:Xax s=(zP,0,0,(Xaj s).err):=by unfold Xax;rw [if_neg g1,if_neg g2,if_pos g3]
  unfold Xjw
  rw [hT,if_pos g3,show ((Xaj s).err !=0)=true by simpa using g3];rfl
theorem Xmc {s:List UInt8} (hs:s.length<2^19):Xav s=some ((Xax s).1,(Xax s).2.2.2):=by
 unfold Xav Xik
 rw [XvI hs,Option.bind_some]
 unfold Xjw
 by_cases g:(Xax s).2.2.2=0
 ·rw [if_neg (by simpa using g),g]
 ·rw [if_pos g,XpL g]
theorem XsR (s:List UInt8):(Xax s).2.1≤s.length∧(Xax s).2.2.1≤s.length:=by
 unfold Xax
 repeat' split
 all_goals simp
theorem XvR {s:List UInt8} (hs:s.length<2^19):Xa3 s=some (((Xax s).2.1:Int),((Xax s).2.2.1:Int),(Xax s).2.2.2):=by
 unfold Xa3 Xiq
 rw [XvI hs,Option.bind_some]
 unfold Xjw
 have hl:=XsR s
 by_cases g:(Xax s).2.2.2=0
 ·rw [if_neg (by simpa using g),g]
  simp only [bne_self_eq_false,cond_false]
  rw [Xc5 (by omega) (by omega),Xc5 (by omega) (by omega),show (s.length:Int) - ((s.length - (Xax s).2.1:Nat):Int)=((Xax s).2.1:Int) by omega,show (s.length:Int) - ((s.length - (Xax s).2.2.1:Nat):Int)=((Xax s).2.2.1:Int) by omega]
 ·rw [if_pos g]
  simp only []
  rw [show ((Xax s).2.2.2 !=0)=true by simpa using g,cond_true,XpL g];rfl
theorem get_put {h:Xau} {l more:List UInt8} (hh:H5 h=true) (h1:A4 h.Src) (h2:A4 h.Dst) (hl:20+h.Options.length+l.length≤65535):XhN (hc5 h (20+h.Options.length+l.length) (ck5 h (20+h.Options.length+l.length))++(l++more))=(h,l,0):=by
 obtain ⟨q1,q2,q3,q4,q5,q6,q7,q8⟩:=XGf hh
 generalize hn:20+h.Options.length+l.length=n at *
 obtain ⟨c1,c2,c3⟩:=XQK h n
 generalize ck5 h n=c at *
 have hlen:=Xrj h n c
 obtain ⟨p0,p1,p2,p4,p6,p8,p9,p12,p16,p20,_,_⟩:=XoP h n c (l++more)
 have s5:=q5.2
 have d5:=q6.2
 unfold aok at s5 d5
 rw [q5.1] at s5
 rw [q6.1] at d5
 simp only [Bool.false_or,Bool.and_eq_true,beq_iff_eq,decide_eq_true_eq] at s5 d5
 obtain ⟨_,_,h1c,_⟩:=h1
 obtain ⟨_,_,h2c,_⟩:=h2
 have v0:=Xjc p0 rfl (by omega)
 have v1:=Xjc p1 rfl (by omega)
 have v2:=Xjc p2 rfl (by omega)
 have v4:=Xjc p4 rfl (by omega)
 have v6:=Xjc p6 (wflag h.Whole) (by cases h.Whole<;>decide)
 have v8:=Xjc p8 rfl (by omega)
 have v9:=Xjc p9 rfl (by omega)
 have v12:=Xjc p12 rfl (by omega)
 have v16:=Xjc p16 rfl (by omega)
 have ht:(((64+(20+h.Options.length)/4:Nat):Int)%16*4)=((20+h.Options.length:Nat):Int):=by omega
 unfold XhN XwV
 rw [v0,v1,v2,v4,v6,v8,v9,v12,v16,ht,Int.toNat_natCast,Int.toNat_natCast,p20]
 rw [if_neg (by simp only [List.length_append];omega),if_neg (by omega),if_neg (by omega),if_neg (by omega),if_neg (by simp only [List.length_append];omega),show (hc5 h n c++(l++more)).take (20+h.Options.length)=hc5 h n c by rw [←hlen];exact List.take_left,Xg6 c2 c3,if_neg (by decide),if_neg (by cases h.Whole<;>simp)]
 rw [show 20+h.Options.length - 20=h.Options.length by omega,List.take_left,show (hc5 h n c++(l++more)).drop (20+h.Options.length)=l++more by rw [←hlen];exact List.drop_left,show n - (20+h.Options.length)=l.length by omega,List.take_left]
 obtain ⟨cl,mk,wh,tt,pr,⟨sv,sh,sl⟩,⟨dv,dh,dl⟩,op⟩:=h
 simp only at q1 q2 q3 q4 q5 q6 s5 d5 h1c h2c ⊢
 obtain ⟨rfl,_⟩:=s5
 obtain ⟨rfl,_⟩:=d5
 rw [q5.1,q6.1,Int.toNat_of_nonneg q1.1,Int.toNat_of_nonneg q2.1,Int.toNat_of_nonneg q3.1,Int.toNat_of_nonneg q4.1,Int.toNat_of_nonneg h1c,Int.toNat_of_nonneg h2c]
 cases wh<;>rfl
theorem XzD {h:XaL} {n:Nat} {r:List UInt8} (hh:H6 h) (hs:XnX h.Src) (hd:XnX h.Dst) (hn:n≤65535):Xjd (headB h n++r)=if r.length<n then (zero6,[],2) else (h,r.take n,0):=by
 obtain ⟨a,b,c,d,e,f⟩:=hh
 have hl:=Xmv h n
 obtain ⟨p1,p2,p3,p4,p5,p6,p7⟩:=XFg (a:=be (6*2^28+h.Class.toNat*2^20+h.Label.toNat) 4) (b:=be n 2) (c:=be h.Next.toNat 1) (d:=be h.Hop.toNat 1) (e:=XjT h.Src) (f:=XjT h.Dst) (r:=r) (by simp) (by simp) (by simp) (by simp) (by simp [XjT]) (by simp [XjT])
 have hv:XdH ((headB h n++r).take 4)=6*2^28+h.Class.toNat*2^20+h.Label.toNat:=by
  unfold headB;rw [p1,Xew (by omega)]
 have hw:XdH (((headB h n++r).drop 4).take 2)=n:=by unfold headB;rw [p2,Xew (by omega)]
 unfold Xjd
 rw [if_neg (by simp;omega),hv,if_neg (by omega),hw]
 have hlen:(headB h n++r).length - 40=r.length:=by simp;omega
 rw [hlen]
 by_cases hr:r.length<n
 ·rw [if_pos hr,if_pos hr]
 rw [if_neg hr,if_neg hr]
 have e40:(headB h n++r).drop 40=r:=p7
 rw [e40]
 unfold Xq8
 rw [hv]
 unfold headB
 rw [p3,p4,p5,p6,Xo8 hs e,Xo8 hd f,Xew (by omega),Xew (by omega)]
 have e1:(((6*2^28+h.Class.toNat*2^20+h.Label.toNat)/2^20%256:Nat):Int)=h.Class:=by omega
 have e2:(((6*2^28+h.Class.toNat*2^20+h.Label.toNat)%2^20:Nat):Int)=h.Label:=by omega
 simp only []
 rw [e1,e2,Int.toNat_of_nonneg c.1,Int.toNat_of_nonneg d.1]
def dg (h:Xbw) (l:List UInt8) (c:Nat):List UInt8:=be h.SPort.toNat 2++be h.DPort.toNat 2++be (8+l.length) 2++be c 2++l
theorem XRY {a b n m f g t c u r:List UInt8} (ha:a.length=2) (hb:b.length=2) (hn:n.length=4) (hm:m.length=4) (hf:f.length=1) (hg:g.length=1) (ht:t.length=2) (hc:c.length=2) (hu:u.length=2) :
 let s:=a++b++n++m++f++g++t++(c++(u++r))
 (s.drop 0).take 2=a∧(s.drop 2).take 2=b∧(s.drop 4).take 4=n∧(s.drop 8).take 4=m∧(s.drop 12).take 1=f∧(s.drop 13).take 1=g∧(s.drop 14).take 2=t∧(s.drop 16).take 2=c∧(s.drop 18).take 2=u∧s.drop 20=r:=by
 obtain ⟨a1,a2,rfl⟩:=l2 ha
 obtain ⟨b1,b2,rfl⟩:=l2 hb
 obtain ⟨n1,n2,n3,n4,rfl⟩:=l4 hn
 obtain ⟨m1,m2,m3,m4,rfl⟩:=l4 hm
 obtain ⟨f1,rfl⟩:=l1 hf
 obtain ⟨g1,rfl⟩:=l1 hg
 obtain ⟨t1,t2,rfl⟩:=l2 ht
 obtain ⟨c1,c2,rfl⟩:=l2 hc
 obtain ⟨u1,u2,rfl⟩:=l2 hu
 exact ⟨rfl,rfl,rfl,rfl,rfl,rfl,rfl,rfl,rfl,rfl⟩
theorem XzU (h:XaI) (c:Nat) (r:List UInt8):let s:=hc7 h c++r
 (s.drop 0).take 2=be h.SPort.toNat 2∧(s.drop 2).take 2=be h.DPort.toNat 2∧(s.drop 4).take 4=be h.Seq.toNat 4∧(s.drop 8).take 4=be h.Ack.toNat 4∧(s.drop 12).take 1=be (4*(20+h.Options.length)) 1∧(s.drop 13).take 1=be h.Flags.toNat 1∧(s.drop 14).take 2=be h.Window.toNat 2∧(s.drop 16).take 2=be c 2∧(s.drop 18).take 2=be h.Urgent.toNat 2∧s.drop 20=h.Options++r:=by
 rw [Xrm]
 unfold ha7
 exact XRY (Xdr _ _) (Xdr _ _) (Xdr _ _) (Xdr _ _) (Xdr _ _) (Xdr _ _) (Xdr _ _) (Xdr _ _) (Xdr _ _)
theorem XBQ {h:XaI} {src dst:Xab} {l:List UInt8} (hh:H7 h=true) (hw:W7 h) (ho:(Xjt h.Options).2=0) (hp:XjP src dst 6 (20+h.Options.length+l.length)≠[]):XgQ (hc7 h (ck7 (XjP src dst 6 (20+h.Options.length+l.length)) h l)++l) src dst=(h,l,0):=by
 obtain ⟨q1,q2,q3,q4,q5,q6,q7⟩:=XGy hh
 obtain ⟨w1,w2⟩:=hw
 have pe:=XpR src dst 6 (20+h.Options.length+l.length)
 generalize hpp:XjP src dst 6 (20+h.Options.length+l.length)=p at *
 obtain ⟨c1,c2,c3⟩:=XPC pe h l
 generalize ck7 p h l=c at *
 have hlen:=Xty h c
 obtain ⟨p0,p2,p4,p8,p12,p13,p14,p16,p18,p20⟩:=XzU h c l
 have v0:=Xjc p0 rfl (by omega)
 have v2:=Xjc p2 rfl (by omega)
 have v4:=Xjc p4 rfl (by omega)
 have v8:=Xjc p8 rfl (by omega)
 have v12:=Xjc p12 rfl (by omega)
 have v13:=Xjc p13 rfl (by omega)
 have v14:=Xjc p14 rfl (by omega)
 have v18:=Xjc p18 rfl (by omega)
 have ht:(4*(((4*(20+h.Options.length):Nat):Int)/16))=((20+h.Options.length:Nat):Int):=by omega
 unfold XgQ
 have hl:(((hc7 h c++l).length:Nat):Int)=20+h.Options.length+l.length:=by rw [List.length_append,hlen];omega
 rw [v0,v2,v4,v8,v12,v13,v14,v18,ht,Int.toNat_natCast,p20,hl,hpp]
 have hdr:(hc7 h c++l).drop (20+h.Options.length)=l:=by rw [←hlen];exact List.drop_left
 rw [if_neg (by simp only [List.length_append];omega),if_neg (by omega),if_neg (by omega),if_neg (by omega),if_neg hp,Xg6 c2 c3,if_neg (by decide),show 20+h.Options.length - 20=h.Options.length by omega,List.take_left,if_neg (by simpa using ho),hdr]
 obtain ⟨sp,dp,sq,ak,fl,wi,ur,op⟩:=h
 simp only at q1 q2 q3 q4 q5 w1 w2 ⊢
 rw [Int.toNat_of_nonneg q1.1,Int.toNat_of_nonneg q2.1,Int.toNat_of_nonneg q3.1,Int.toNat_of_nonneg q4.1,Int.toNat_of_nonneg q5.1,Int.toNat_of_nonneg w1.1,Int.toNat_of_nonneg w2.1]
theorem XSo (t:Xag) (n:Nat) (r:List UInt8):vK (headB (Xm3 t) n++r) 0 1=96:=by
 obtain ⟨p1,_⟩:=XFg (a:=be (6*2^28+(Xm3 t).Class.toNat*2^20+(Xm3 t).Label.toNat) 4) (b:=be n 2) (c:=be (Xm3 t).Next.toNat 1) (d:=be (Xm3 t).Hop.toNat 1) (e:=XjT (Xm3 t).Src) (f:=XjT (Xm3 t).Dst) (r:=r) (by simp) (by simp) (by simp) (by simp) (by simp [XjT]) (by simp [XjT])
 have e:be (6*2^28+(Xm3 t).Class.toNat*2^20+(Xm3 t).Label.toNat) 4++be n 2++be (Xm3 t).Next.toNat 1++be (Xm3 t).Hop.toNat 1++XjT (Xm3 t).Src++XjT (Xm3 t).Dst++r=headB (Xm3 t) n++r:=rfl
 rw [e] at p1
 unfold vK
 have:((headB (Xm3 t) n++r).drop 0).take 1=((headB (Xm3 t) n++r).take 4).take 1:=by rw [List.drop_zero,List.take_take];rfl
 rw [this,p1,show (Xm3 t).Class.toNat=0 from rfl,show (Xm3 t).Label.toNat=0 from rfl];rfl
theorem XR4 (t:Xag) (n c:Nat) (r:List UInt8):vK (hc5 (Xj9 t) n c++r) 0 1=69:=by
 obtain ⟨p0,_⟩:=XoP (Xj9 t) n c r
 have w0:=Xjc p0 rfl (by rw [show (Xj9 t).Options=[] from rfl];decide)
 rw [show (Xj9 t).Options.length=0 from rfl] at w0
 rw [show ((64+(20+0)/4:Nat):Int)=69 from rfl] at w0
 exact w0
theorem XG9 {t:Xag} {b more:List UInt8} (h1:A4 t.Src) (h2:A4 t.Dst) (hh:H6 (Xm3 t)) (hb:b.length≤65535):Xaj (headB (Xm3 t) b.length++(b++more))=if more=[] then ⟨t.Src,t.Dst,t.Proto,40,b,0⟩ else zO 5:=by
 have hg:=XzD (h:=Xm3 t) (n:=b.length) (r:=b++more) hh h1.XuP h2.XuP hb
 rw [if_neg (by simp),List.take_left] at hg
 unfold Xaj
 rw [XSo,if_neg (by decide),if_pos (by decide),hg,if_neg (by simp)]
 simp only [List.length_append,Xmv]
 by_cases hm:more=[]
 ·subst hm
  rw [if_neg (by simp),if_pos rfl];rfl
 ·have:0<more.length:=List.length_pos_iff.2 hm
  rw [if_pos (by omega),if_neg hm]
theorem XHN {t:Xag} {b more:List UInt8} (h1:A4 t.Src) (h2:A4 t.Dst) (hh:H5 (Xj9 t)=true) (hb:20+b.length≤65535):Xaj (hc5 (Xj9 t) (20+b.length) (ck5 (Xj9 t) (20+b.length))++(b++more))=if more=[] then ⟨t.Src,t.Dst,t.Proto,20,b,0⟩ else zO 5:=by
 have ho:(Xj9 t).Options.length=0:=rfl
 have hg:=get_put (h:=Xj9 t) (l:=b) (more:=more) hh h1 h2 (by omega)
 have hl:=Xrj (Xj9 t) (20+b.length) (ck5 (Xj9 t) (20+b.length))
 rw [ho,Nat.add_zero] at hg hl
 unfold Xaj
 rw [XR4,if_pos (by decide),hg,if_neg (by simp)]
 simp only [List.length_append,hl,ho]
 by_cases hm:more=[]
 ·subst hm
  rw [if_neg (by simp),if_pos rfl];rfl
 ·have:0<more.length:=List.length_pos_iff.2 hm
  rw [if_pos (by omega),if_neg hm]
theorem XyV {t:Xag} {b more:List UInt8} (h1:A4 t.Src) (h2:A4 t.Dst) (h0:(Xh5 t b).2=0):Xaj ((Xh5 t b).1++more)=if more=[] then ⟨t.Src,t.Dst,t.Proto,cond t.Src.V6 40 20,b,0⟩ else zO 5:=by
 obtain ⟨_,_,_,_,_,h⟩:=XvP h0
 rcases h with ⟨v,hh,hl,e⟩|⟨v,hh,hl,e⟩
 ·rw [e,v]
  simp only [List.append_assoc]
  exact XG9 h1 h2 hh hl
 ·rw [e,v]
  simp only [List.append_assoc]
  exact XHN h1 h2 hh hl
theorem Xrh {t:Xag} {b:List UInt8} (h0:(Xh5 t b).2=0):(Xh5 t b).1.length=cond t.Src.V6 40 20+b.length∧(Xh5 t b).1.length≤9000:=by
 obtain ⟨_,_,_,_,h9,h⟩:=XvP h0
 refine ⟨?_,h9⟩
 rcases h with ⟨v,hh,hl,e⟩|⟨v,hh,hl,e⟩
 ·rw [e,v]
  simp only [List.length_append,Xmv,cond_true]
 ·have hl:=Xrj (Xj9 t) (20+b.length) (ck5 (Xj9 t) (20+b.length))
  rw [show (Xj9 t).Options.length=0 from rfl] at hl
  rw [e,v]
  simp only [List.length_append,hl,cond_false]
theorem XAc {t:Xag} {b:List UInt8} (h1:A4 t.Src) (h2:A4 t.Dst) (h0:(Xh5 t b).2=0):Xax (Xh5 t b).1=if (Xfo ⟨t.Src,t.Dst,t.Proto,cond t.Src.V6 40 20,b,0⟩ (Xh5 t b).1.length).2.2≠0 then (zP,0,0,(Xfo ⟨t.Src,t.Dst,t.Proto,cond t.Src.V6 40 20,b,0⟩ (Xh5 t b).1.length).2.2) else
 ((Xfo ⟨t.Src,t.Dst,t.Proto,cond t.Src.V6 40 20,b,0⟩ (Xh5 t b).1.length).1,cond t.Src.V6 40 20,(Xh5 t b).1.length - (Xfo ⟨t.Src,t.Dst,t.Proto,cond t.Src.V6 40 20,b,0⟩ (Xh5 t b).1.length).2.1,0):=by
 have ho:=XyV (more:=[]) h1 h2 h0
 rw [List.append_nil,if_pos rfl] at ho
 obtain ⟨hl,h9⟩:=Xrh h0
 unfold Xax
 have hne:(Xh5 t b).1≠[]:=by
  intro e
  rw [e] at hl
  cases hv:t.Src.V6<;>rw [hv] at hl<;>simp at hl<;>omega
 rw [if_neg (by omega),if_neg hne,ho,if_neg (by simp)]
 simp only []
 rw [show (Xh5 t b).1.length - b.length=cond t.Src.V6 40 20 by omega]
theorem XLM {h:XaI} {src dst:Xab} {l:List UInt8} (h0:(Xp6 h src dst l).2=0):H7 h=true∧XjP src dst 6 (20+h.Options.length+l.length)≠[]∧Xp6 h src dst l=(hc7 h (ck7 (XjP src dst 6 (20+h.Options.length+l.length)) h l)++l,0):=by
 unfold Xp6 at h0 ⊢
 cases hh:H7 h
 ·rw [if_pos hh] at h0;exact absurd h0 (by decide)
 rw [if_neg (by rw [hh];decide)] at h0
 rw [if_neg (by decide)]
 by_cases hp:XjP src dst 6 (20+h.Options.length+l.length)=[]
 ·rw [if_pos hp] at h0;exact absurd h0 (by decide)
 rw [if_neg hp] at h0 ⊢
 by_cases hl:65535 - (20+(h.Options.length:Int))<l.length
 ·rw [if_pos hl] at h0;exact absurd h0 (by decide)
 rw [if_neg hl]
 exact ⟨rfl,hp,rfl⟩
theorem XOn {t:Xag} {h:XaI} {l:List UInt8} {z n:Nat} (hw:W7 h) (ho:(Xjt h.Options).2=0) (h0:(Xp6 h t.Src t.Dst l).2=0) (hp:t.Proto=6) :
 Xfo ⟨t.Src,t.Dst,t.Proto,z,(Xp6 h t.Src t.Dst l).1,0⟩ n=(⟨⟨t.Proto,t.Src,t.Dst,h.SPort,h.DPort⟩,h.Flags,(Xr0 h.Options).1,(Xr0 h.Options).2.1,(Xr0 h.Options).2.2,false,[],n⟩,l.length,0):=by
 obtain ⟨a,b,c⟩:=XLM h0
 have hg:=XBQ a hw ho b
 rw [show hc7 h (ck7 (XjP t.Src t.Dst 6 (20+h.Options.length+l.length)) h l)++l=(Xp6 h t.Src t.Dst l).1 by rw [c]] at hg
 unfold Xfo
 rw [if_pos hp]
 simp only []
 rw [hg,if_neg (by simp)]
end Go.Vm.Code
namespace Go.Vm.Code
open Go Go.Vm Go.Proofs
set_option maxRecDepth 100000
set_option maxHeartbeats 4000000
set_option linter.unusedVariables false
def Xmr (XhC:Xgw) (Xhs:XgB) (s:List UInt8):Option (Xen×Int):=
 (s[0]?).bind fun (b:UInt8)=>
 cond ((wI .u8 ((b.toNat:Int).tdiv 16))==4)
  (
  (XhC s).bind fun xg=>
  let t:=wI .i64 (20+(xg.1.Options.length:Int))
  some ((Xen.mk xg.1.Src xg.1.Dst xg.1.Proto t xg.2.1,xg.2.2)))
  (
  (s[0]?).bind fun (b1:UInt8)=>
  cond ((wI .u8 ((b1.toNat:Int).tdiv 16))==6)
   (
   (Xhs s).bind fun xg1=>
   some ((Xen.mk xg1.1.Src xg1.1.Dst xg1.1.Next 40 xg1.2.1,xg1.2.2)))
   (
   some ((Xen.mk (Xab.mk false 0 0) (Xab.mk false 0 0) 0 0 [],3))))
def rx81 (x:Xen×Int):Xcu:=⟨.tuple ⟨[.agg ⟨[.bool x.1.src.V6,.int .u64 x.1.src.Hi,.int .u64 x.1.src.Lo,.bool x.1.dst.V6,.int .u64 x.1.dst.Hi,.int .u64 x.1.dst.Lo,.int .i64 x.1.proto,.int .i64 x.1.size,.string ⟨⟨x.1.body⟩⟩]⟩,.int .i64 x.2]⟩,[],[]⟩
abbrev XfJ:=(List UInt8)→Option (Xen×Int)
def r81 (g:XfJ):Dec:=dV asS fun (y0:List UInt8)=>Xdm (ofG (g y0) rx81)
theorem r81_c {g:XfJ} {y0:List UInt8} {x:Xen×Int} (hx:g y0=some x):r81 g [.string ⟨⟨y0⟩⟩] []=some (rx81 x):=(XaY (XcY)).trans (XaX hx)
def s81 (g:XfJ):Xbs:=⟨[.v],r81 g⟩
theorem XQ2 {g:XfJ} {y0:List UInt8} {x:Xen×Int} (hx:g y0=some x):(s81 g).run [.string ⟨⟨y0⟩⟩] []=some (rx81 x):=r81_c hx
abbrev XRF (XhC:Xgw) (Xhs:XgB):List (Nat×Xbs):=[(110,s110 XhC),(111,s111 Xhs)]
theorem XIc (XhC:Xgw) (Xhs:XgB) (hS:Xal Tryz.prog (XaE (XRF XhC Xhs))) (s:List UInt8) (res:Xen×Int) (h:Xmr XhC Xhs s=some res) :
 XaK Tryz.prog 81 0 ⟨⟨81,53,[(0,.string ⟨⟨s⟩⟩)],[.code XF7],[],false,none⟩,[],[],0⟩ (fun v H _=>Res 0 (rx81 res) v H):=by
 unfold Xmr at h
 have R1:=@XH6 XhC
 have R2:=@XKK Xhs
 refine Xbg XaJ hS true 3000 ?_
 conv=>whnf
 exact W
def XfM:XfJ:=Xmr XhC Xhs
theorem XN9:XbA Tryz.prog 81 (s81 XfM):=by
 have hL:=XIc XhC Xhs (Xal.XaV ⟨XKc,XJ7,trivial⟩)
 exact okA ⟨Tryz.f81,rfl,by decide,rfl⟩
def Xmo (Xhx:XgJ) (XeU:Xfc) (Xhh:XgM) (Xhr:Xgx) (XfM:XfJ) (s:List UInt8):Option (Xao×Int×Int×Int):=
 cond (decide ((s.length:Int)>9000))
  (
  some ((Xao.mk (Xag.mk 0 (Xab.mk false 0 0) (Xab.mk false 0 0) 0 0) 0 false 0 0 false [] 0,0,0,5)))
  (
  cond (s==[])
   (
   some ((Xao.mk (Xag.mk 0 (Xab.mk false 0 0) (Xab.mk false 0 0) 0 0) 0 false 0 0 false [] 0,0,0,2)))
   (
   (XfM s).bind fun xr=>
   cond (xr.2 !=0)
    (
    some ((Xao.mk (Xag.mk 0 (Xab.mk false 0 0) (Xab.mk false 0 0) 0 0) 0 false 0 0 false [] 0,0,0,xr.2)))
    (
    let t:=wI .i64 (xr.1.size+(xr.1.body.length:Int))
    cond (t !=(s.length:Int))
     (
     some ((Xao.mk (Xag.mk 0 (Xab.mk false 0 0) (Xab.mk false 0 0) 0 0) 0 false 0 0 false [] 0,0,0,5)))
     (
     cond (xr.1.proto==6)
      (
      (Xhx xr.1.body xr.1.src xr.1.dst).bind fun xg=>
      cond (xg.2.2 !=0)
       (
       some ((Xao.mk (Xag.mk 0 (Xab.mk false 0 0) (Xab.mk false 0 0) 0 0) 0 false 0 0 false [] 0,0,0,xg.2.2)))
       (
       (XeU xg.1.Options).bind fun s1=>
       cond (decide (s1.2.2≥0))
        (
        let t1:=wI .i64 ((wI .i64 (xr.1.size+20))+(xg.1.Options.length:Int))
        some ((Xao.mk (Xag.mk xr.1.proto xr.1.src xr.1.dst xg.1.SPort xg.1.DPort) xg.1.Flags true s1.1 s1.2.1 false [] (s.length:Int),xr.1.size,t1,0)))
        (
        let t2:=wI .i64 ((wI .i64 (xr.1.size+20))+(xg.1.Options.length:Int))
        some ((Xao.mk (Xag.mk xr.1.proto xr.1.src xr.1.dst xg.1.SPort xg.1.DPort) xg.1.Flags false 0 0 false [] (s.length:Int),xr.1.size,t2,0)))))
      (
      cond (xr.1.proto !=17)
       (
       some ((Xao.mk (Xag.mk 0 (Xab.mk false 0 0) (Xab.mk false 0 0) 0 0) 0 false 0 0 false [] 0,0,0,6)))
       (
       (Xhh xr.1.body xr.1.src xr.1.dst).bind fun xg1=>
       cond (xg1.2.2 !=0)
        (
        some ((Xao.mk (Xag.mk 0 (Xab.mk false 0 0) (Xab.mk false 0 0) 0 0) 0 false 0 0 false [] 0,0,0,xg1.2.2)))
        (
        let t3:=(wI .i64 ((xg1.2.1.length:Int)+8)) !=(xr.1.body.length:Int)
        cond (t3)
         (
         some ((Xao.mk (Xag.mk 0 (Xab.mk false 0 0) (Xab.mk false 0 0) 0 0) 0 false 0 0 false [] 0,0,0,5)))
         (
         (Xhr xg1.2.1).bind fun xg2=>
         cond (xg2.2==0)
          (
          some ((Xao.mk (Xag.mk xr.1.proto xr.1.src xr.1.dst xg1.1.SPort xg1.1.DPort) 0 false 0 0 xg2.1.Long xg2.1.DCID (s.length:Int),xr.1.size,wI .i64 (xr.1.size+8),0)))
          (
          some ((Xao.mk (Xag.mk xr.1.proto xr.1.src xr.1.dst xg1.1.SPort xg1.1.DPort) 0 false 0 0 false [] (s.length:Int),xr.1.size,wI .i64 (xr.1.size+8),0)))))))))))
def rx49 (x:Xao×Int×Int×Int):Xcu:=⟨.tuple ⟨[.agg ⟨[.int .i64 x.1.Tuple.Proto,.bool x.1.Tuple.Src.V6,.int .u64 x.1.Tuple.Src.Hi,.int .u64 x.1.Tuple.Src.Lo,.bool x.1.Tuple.Dst.V6,.int .u64 x.1.Tuple.Dst.Hi,.int .u64 x.1.Tuple.Dst.Lo,.int .i64 x.1.Tuple.SPort,.int .i64 x.1.Tuple.DPort,.int .i64 x.1.Flags,.bool x.1.Stamped,.int .u32 x.1.Val,.int .u32 x.1.Echo,.bool x.1.Long,.string ⟨⟨x.1.CID⟩⟩,.int .i64 x.1.Size]⟩,.int .i64 x.2.1,.int .i64 x.2.2.1,.int .i64 x.2.2.2]⟩,[],[]⟩
abbrev XfE:=(List UInt8)→Option (Xao×Int×Int×Int)
def r49 (g:XfE):Dec:=dV asS fun (y0:List UInt8)=>Xdm (ofG (g y0) rx49)
theorem r49_c {g:XfE} {y0:List UInt8} {x:Xao×Int×Int×Int} (hx:g y0=some x):r49 g [.string ⟨⟨y0⟩⟩] []=some (rx49 x):=(XaY (XcY)).trans (XaX hx)
def s49 (g:XfE):Xbs:=⟨[.v],r49 g⟩
theorem XNA {g:XfE} {y0:List UInt8} {x:Xao×Int×Int×Int} (hx:g y0=some x):(s49 g).run [.string ⟨⟨y0⟩⟩] []=some (rx49 x):=r49_c hx
abbrev XOl (Xhx:XgJ) (XeU:Xfc) (Xhh:XgM) (Xhr:Xgx) (XfM:XfJ):List (Nat×Xbs):=[(82,s82 Xhx),(83,s83 XeU),(84,s84 Xhh),(75,s75 Xhr),(81,s81 XfM)]
theorem XKs (Xhx:XgJ) (XeU:Xfc) (Xhh:XgM) (Xhr:Xgx) (XfM:XfJ) (hS:Xal Tryz.prog (XaE (XOl Xhx XeU Xhh Xhr XfM))) (s:List UInt8) (res:Xao×Int×Int×Int) (h:Xmo Xhx XeU Xhh Xhr XfM s=some res) :
 XaK Tryz.prog 49 0 ⟨⟨49,161,[(0,.string ⟨⟨s⟩⟩)],[.code XFD],[],false,none⟩,[],[],0⟩ (fun v H _=>Res 0 (rx49 res) v H):=by
 unfold Xmo at h
 have R1:=@XQ2 XfM
 have R2:=@XSL Xhx
 have R3:=@XRy XeU
 have R4:=@XRB Xhh
 have R5:=@XMF Xhr
 refine Xbg XaJ hS true 3000 ?_
 conv=>whnf
 exact W
def XfP:XfE:=Xmo Xhx XeU Xhh Xhr XfM
theorem XPq:XbA Tryz.prog 49 (s49 XfP):=by
 have hL:=XKs Xhx XeU Xhh Xhr XfM (Xal.XaV ⟨XNw,XO4,XNY,XQp,XN9,trivial⟩)
 exact okA ⟨Tryz.f49,rfl,by decide,rfl⟩
def Xlh (XfP:XfE) (s:List UInt8):Option (Xao×Int):=
 (XfP s).bind fun t=>
 some ((t.1,t.2.2.2))
def rx25 (x:Xao×Int):Xcu:=⟨.tuple ⟨[.agg ⟨[.int .i64 x.1.Tuple.Proto,.bool x.1.Tuple.Src.V6,.int .u64 x.1.Tuple.Src.Hi,.int .u64 x.1.Tuple.Src.Lo,.bool x.1.Tuple.Dst.V6,.int .u64 x.1.Tuple.Dst.Hi,.int .u64 x.1.Tuple.Dst.Lo,.int .i64 x.1.Tuple.SPort,.int .i64 x.1.Tuple.DPort,.int .i64 x.1.Flags,.bool x.1.Stamped,.int .u32 x.1.Val,.int .u32 x.1.Echo,.bool x.1.Long,.string ⟨⟨x.1.CID⟩⟩,.int .i64 x.1.Size]⟩,.int .i64 x.2]⟩,[],[]⟩
abbrev Xfd:=(List UInt8)→Option (Xao×Int)
def r25 (g:Xfd):Dec:=dV asS fun (y0:List UInt8)=>Xdm (ofG (g y0) rx25)
theorem r25_c {g:Xfd} {y0:List UInt8} {x:Xao×Int} (hx:g y0=some x):r25 g [.string ⟨⟨y0⟩⟩] []=some (rx25 x):=(XaY (XcY)).trans (XaX hx)
def s25 (g:Xfd):Xbs:=⟨[.v],r25 g⟩
theorem XO2 {g:Xfd} {y0:List UInt8} {x:Xao×Int} (hx:g y0=some x):(s25 g).run [.string ⟨⟨y0⟩⟩] []=some (rx25 x):=r25_c hx
abbrev XOT (XfP:XfE):List (Nat×Xbs):=[(49,s49 XfP)]
theorem XIa (XfP:XfE) (hS:Xal Tryz.prog (XaE (XOT XfP))) (s:List UInt8) (res:Xao×Int) (h:Xlh XfP s=some res) :
 XaK Tryz.prog 25 0 ⟨⟨25,17,[(0,.string ⟨⟨s⟩⟩)],[.code XO1],[],false,none⟩,[],[],0⟩ (fun v H _=>Res 0 (rx25 res) v H):=by
 unfold Xlh at h
 have R1:=@XNA XfP
 refine Xbg XaJ hS true 3000 ?_
 conv=>whnf
 exact W
def XeV:Xfd:=Xlh XfP
theorem lift25:XbA Tryz.prog 25 (s25 XeV):=by
 have hL:=XIa XfP (Xal.XaV ⟨XPq,trivial⟩)
 exact okA ⟨Tryz.f25,rfl,by decide,rfl⟩
end Go.Vm.Code
namespace Go.Vm.Code
open Go Go.Vm
def Xl2 (s:List UInt8):Xen×Int:=
 if vK s 0 1/16=4 then (⟨(XhN s).1.Src,(XhN s).1.Dst,(XhN s).1.Proto,20+((XhN s).1.Options.length:Int),(XhN s).2.1⟩,(XhN s).2.2)
 else if vK s 0 1/16=6 then (⟨(Xjd s).1.Src,(Xjd s).1.Dst,(Xjd s).1.Next,40,(Xjd s).2.1⟩,(Xjd s).2.2)
 else (⟨⟨false,0,0⟩,⟨false,0,0⟩,0,0,[]⟩,3)
theorem XuC (s:List UInt8):(XhN s).1.Options.length≤s.length∧(XhN s).2.1.length≤s.length:=by
 unfold XhN
 repeat' split
 all_goals simp [Xpu]
 omega
theorem XCg (s:List UInt8):(Xjd s).2.1.length≤s.length:=by
 unfold Xjd
 repeat' split
 all_goals simp
 omega
theorem XIU {s:List UInt8} (hs:s.length<2^19) (hn:s≠[]):XfM s=some (Xl2 s):=by
 unfold XfM Xmr Xl2
 have h0:0<s.length:=List.length_pos_iff.2 hn
 have e0:=Xkg (s:=s) (p:=0) h0
 have r0:=XeH s 0 1 256 (by decide)
 obtain ⟨b1,b2⟩:=XuC s
 rw [List.getElem?_eq_getElem h0,Option.bind_some,←e0,Int.tdiv_eq_ediv_of_nonneg (by omega),wU8 (by omega) (by omega),XOm (by omega),XD3 (by omega),Option.bind_some,Option.bind_some]
 by_cases g1:vK s 0 1/16=4
 ·rw [if_pos g1,show (vK s 0 1/16==4)=true by simpa using g1,cond_true]
  rw [Xc5 (n:=20+((XhN s).1.Options.length:Int)) (by omega) (by omega)]
 ·rw [if_neg g1,show (vK s 0 1/16==4)=false by simpa using g1,cond_false,Option.bind_some,←e0,Int.tdiv_eq_ediv_of_nonneg (by omega),wU8 (by omega) (by omega)]
  by_cases g4:vK s 0 1/16=6
  ·rw [if_pos g4,show (vK s 0 1/16==6)=true by simpa using g4,cond_true]
  ·rw [if_neg g4,show (vK s 0 1/16==6)=false by simpa using g4,cond_false]
theorem XCT {s:List UInt8} (h:(Xl2 s).2≠0):(Xaj s).err=(Xl2 s).2:=by
 unfold Xl2 Xaj at *
 split
 ·rename_i g;rw [if_pos g] at h;rw [if_pos h];rfl
 ·rename_i g;rw [if_neg g] at h
  split
  ·rename_i g2;rw [if_pos g2] at h;rw [if_pos h];rfl
  ·rfl
theorem Xz6 {s:List UInt8} (h:(Xl2 s).2=0) (h2:(Xl2 s).1.size+((Xl2 s).1.body.length:Int)≠(s.length:Int)):(Xaj s).err=5:=by
 unfold Xl2 Xaj at *
 split
 ·rename_i g;rw [if_pos g] at h h2;rw [if_neg (by simpa using h),if_pos (by simp only [] at h2;omega)];rfl
 ·rename_i g;rw [if_neg g] at h h2
  split
  ·rename_i g2;rw [if_pos g2] at h h2;rw [if_neg (by simpa using h),if_pos (by simp only [] at h2;omega)];rfl
  ·rename_i g2;rw [if_neg g2] at h;exact absurd h (by decide)
theorem XIf {s:List UInt8} (h:(Xl2 s).2=0) (h2:(Xl2 s).1.size+((Xl2 s).1.body.length:Int)=(s.length:Int)):(Xaj s).err=0∧(Xl2 s).1=⟨(Xaj s).src,(Xaj s).dst,(Xaj s).proto,((Xaj s).size:Int),(Xaj s).body⟩:=by
 unfold Xl2 Xaj at *
 by_cases g:vK s 0 1/16=4
 ·rw [if_pos g] at h h2;rw [if_pos g,if_pos g,if_neg (by simpa using h),if_neg (by simp only [] at h2;omega)];exact ⟨rfl,rfl⟩
 ·rw [if_neg g] at h h2
  by_cases g2:vK s 0 1/16=6
  ·rw [if_pos g2] at h h2;rw [if_neg g,if_neg g,if_pos g2,if_pos g2,if_neg (by simpa using h),if_neg (by simp only [] at h2;omega)];exact ⟨rfl,rfl⟩
  ·rw [if_neg g2] at h;exact absurd h (by decide)
theorem XAZ {b:List UInt8} {src dst:Xab} (h:(XgQ b src dst).2.2=0):20+(XgQ b src dst).1.Options.length+(XgQ b src dst).2.1.length=b.length:=by
 have r:=XeH b 12 1 256 (by decide)
 unfold XgQ at h ⊢
 by_cases g0:b.length<20
 ·rw [if_pos g0] at h;exact absurd h (by decide)
 by_cases g1:4*(vK b 12 1/16)<20
 ·rw [if_neg g0,if_pos g1] at h;exact absurd h (by decide)
 by_cases g2:vK b 12 1%16≠0
 ·rw [if_neg g0,if_neg g1,if_pos g2] at h;exact absurd h (by decide)
 by_cases g3:(b.length:Int)<4*(vK b 12 1/16)
 ·rw [if_neg g0,if_neg g1,if_neg g2,if_pos g3] at h;exact absurd h (by decide)
 by_cases g4:XjP src dst 6 b.length=[]
 ·rw [if_neg g0,if_neg g1,if_neg g2,if_neg g3,if_pos g4] at h;exact absurd h (by decide)
 by_cases g5:norm (XcA (XjP src dst 6 b.length++b))≠65535
 ·rw [if_neg g0,if_neg g1,if_neg g2,if_neg g3,if_neg g4,if_pos g5] at h;exact absurd h (by decide)
 by_cases g6:(Xjt ((b.drop 20).take ((4*(vK b 12 1/16)).toNat - 20))).2≠0
 ·rw [if_neg g0,if_neg g1,if_neg g2,if_neg g3,if_neg g4,if_neg g5,if_pos g6] at h;exact absurd h g6
 rw [if_neg g0,if_neg g1,if_neg g2,if_neg g3,if_neg g4,if_neg g5,if_neg g6]
 simp only [List.length_take,List.length_drop]
 omega
theorem XBu {s:List UInt8} (hs:s.length<2^19):XfP s=some ((Xax s).1,((Xax s).2.1:Int),((Xax s).2.2.1:Int),(Xax s).2.2.2):=by
 unfold XfP Xmo
 have hz:(⟨⟨0,⟨false,0,0⟩,⟨false,0,0⟩,0,0⟩,0,false,0,0,false,[],0⟩:Xao)=zP:=rfl
 rw [hz]
 simp only []
 by_cases g1:9000<s.length
 ·have hT:Xax s=(zP,0,0,5):=by unfold Xax;rw [if_pos g1]
  rw [Xa2 (by omega),hT];rfl
 rw [XaQ (by omega)]
 by_cases g2:s=[]
 ·subst g2;rfl
 rw [show (s==[])=false by simpa using g2,cond_false,XIU hs g2,Option.bind_some]
 by_cases g3:(Xl2 s).2=0
 ·rw [show ((Xl2 s).2 !=0)=false by simpa using g3,cond_false]
  have bs:(Xl2 s).1.body.length≤s.length∧0≤(Xl2 s).1.size∧(Xl2 s).1.size≤40+(s.length:Int):=by
   obtain ⟨b1,b2⟩:=XuC s
   have b3:=XCg s
   unfold Xl2
   split
   ·exact ⟨b2,by simp only [];omega,by simp only [];omega⟩
   split
   ·exact ⟨b3,by simp only [];omega,by simp only [];omega⟩
   ·exact ⟨by simp,by simp only [];omega,by simp only [];omega⟩
  rw [Xc5 (n:=(Xl2 s).1.size+((Xl2 s).1.body.length:Int)) (by omega) (by omega)]
  by_cases gl:(Xl2 s).1.size+((Xl2 s).1.body.length:Int)=(s.length:Int)
  ·obtain ⟨k1,k2⟩:=XIf g3 gl
   rw [show ((Xl2 s).1.size+((Xl2 s).1.body.length:Int) !=(s.length:Int))=false by simpa using gl,k2]
   simp only [cond_false]
   obtain ⟨a1,a2⟩:=Xsr s
   have hb:=XfB k1
   have hE:(Xfo (Xaj s) s.length).2.2≠0→Xax s=(zP,0,0,(Xfo (Xaj s) s.length).2.2):=fun g4=>by
    unfold Xax;rw [if_neg g1,if_neg g2,if_neg (by simpa using k1),if_pos g4]
   have hO:(Xfo (Xaj s) s.length).2.2=0→Xax s=((Xfo (Xaj s) s.length).1,s.length - (Xaj s).body.length,s.length - (Xfo (Xaj s) s.length).2.1,0):=fun g4=>by
    unfold Xax;rw [if_neg g1,if_neg g2,if_neg (by simpa using k1),if_neg (by simpa using g4)]
   generalize hO':Xaj s=o at *
   by_cases p6:o.proto=6
   ·rw [show (o.proto==6)=true by simpa using p6,cond_true,XA2 a1 a2 (by omega),Option.bind_some]
    by_cases g:(XgQ o.body o.src o.dst).2.2=0
    ·have hl7:=XAZ g
     have hin:Xfo o s.length=(⟨⟨o.proto,o.src,o.dst,(XgQ o.body o.src o.dst).1.SPort,(XgQ o.body o.src o.dst).1.DPort⟩,(XgQ o.body o.src o.dst).1.Flags,(Xr0 (XgQ o.body o.src o.dst).1.Options).1,(Xr0 (XgQ o.body o.src o.dst).1.Options).2.1,(Xr0 (XgQ o.body o.src o.dst).1.Options).2.2,false,[],s.length⟩,(XgQ o.body o.src o.dst).2.1.length,0):=by
      unfold Xfo;rw [if_pos p6,if_neg (by simpa using g)]
     rw [hO (by rw [hin]),hin]
     rw [show ((XgQ o.body o.src o.dst).2.2 !=0)=false by simpa using g,cond_false,XLA (by omega),Option.bind_some]
     simp only []
     rw [Xc5 (n:=(o.size:Int)+20) (by omega) (by omega),Xc5 (n:=(o.size:Int)+20+((XgQ o.body o.src o.dst).1.Options.length:Int)) (by omega) (by omega),show ((s.length - o.body.length:Nat):Int)=(o.size:Int) by omega,show ((s.length - (XgQ o.body o.src o.dst).2.1.length:Nat):Int)=(o.size:Int)+20+((XgQ o.body o.src o.dst).1.Options.length:Int) by omega]
     unfold Xr0
     by_cases g5:0≤(Xfs (XgQ o.body o.src o.dst).1.Options).2.2
     ·rw [if_pos g5,Xa2 (by omega)]
     ·rw [if_neg g5,XaQ (by omega)]
    ·have hin:Xfo o s.length=(zP,0,(XgQ o.body o.src o.dst).2.2):=by
      unfold Xfo;rw [if_pos p6,if_pos g]
     rw [hE (by rw [hin];exact g),hin,show ((XgQ o.body o.src o.dst).2.2 !=0)=true by simpa using g];rfl
   ·rw [show (o.proto==6)=false by simpa using p6,cond_false]
    by_cases p17:o.proto=17
    ·rw [show (o.proto !=17)=false by simpa using p17,cond_false,XBp a1 a2 (by omega),Option.bind_some]
     by_cases g:(XgN o.body o.src o.dst).2.2=0
     ·have hb8:(XgN o.body o.src o.dst).2.1.length≤o.body.length:=by
       unfold XgN
       repeat' split
       all_goals simp
       all_goals omega
      rw [show ((XgN o.body o.src o.dst).2.2 !=0)=false by simpa using g,cond_false]
      rw [Xc5 (n:=((XgN o.body o.src o.dst).2.1.length:Int)+8) (by omega) (by omega)]
      by_cases g6:(XgN o.body o.src o.dst).2.1.length+8=o.body.length
      ·have hin:Xfo o s.length=(⟨⟨o.proto,o.src,o.dst,(XgN o.body o.src o.dst).1.SPort,(XgN o.body o.src o.dst).1.DPort⟩,0,false,0,0,(Xwv (XgN o.body o.src o.dst).2.1).1,(Xwv (XgN o.body o.src o.dst).2.1).2,s.length⟩,(XgN o.body o.src o.dst).2.1.length,0):=by
        unfold Xfo;rw [if_neg p6,if_pos p17,if_neg (by simpa using g),if_neg (by simpa using g6)]
       rw [hO (by rw [hin]),hin,show (((XgN o.body o.src o.dst).2.1.length:Int)+8 !=(o.body.length:Int))=false by simp;omega,cond_false,XCW (by omega),Option.bind_some,Xc5 (n:=(o.size:Int)+8) (by omega) (by omega)]
       simp only []
       rw [show ((s.length - o.body.length:Nat):Int)=(o.size:Int) by omega,show ((s.length - (XgN o.body o.src o.dst).2.1.length:Nat):Int)=(o.size:Int)+8 by omega]
       unfold Xwv
       by_cases g5:(XhM (XgN o.body o.src o.dst).2.1).2=0
       ·rw [if_pos g5,show ((XhM (XgN o.body o.src o.dst).2.1).2==0)=true by simpa using g5,cond_true]
       ·rw [if_neg g5,show ((XhM (XgN o.body o.src o.dst).2.1).2==0)=false by simpa using g5,cond_false]
      ·have hin:Xfo o s.length=(zP,0,5):=by
        unfold Xfo;rw [if_neg p6,if_pos p17,if_neg (by simpa using g),if_pos g6]
       rw [hE (by rw [hin];decide),hin,show (((XgN o.body o.src o.dst).2.1.length:Int)+8 !=(o.body.length:Int))=true by simp;omega];rfl
     ·have hin:Xfo o s.length=(zP,0,(XgN o.body o.src o.dst).2.2):=by
       unfold Xfo;rw [if_neg p6,if_pos p17,if_pos g]
      rw [hE (by rw [hin];exact g),hin,show ((XgN o.body o.src o.dst).2.2 !=0)=true by simpa using g];rfl
    ·have hin:Xfo o s.length=(zP,0,6):=by
      unfold Xfo;rw [if_neg p6,if_neg p17]
     rw [hE (by rw [hin];decide),hin,show (o.proto !=17)=true by simpa using p17];rfl
  ·have hT:Xax s=(zP,0,0,5):=by
    have e:=Xz6 g3 gl
    unfold Xax;rw [if_neg g1,if_neg g2,if_pos (by rw [e];decide),e]
   rw [hT,show ((Xl2 s).1.size+((Xl2 s).1.body.length:Int) !=(s.length:Int))=true by simpa using gl];rfl
 ·have hT:Xax s=(zP,0,0,(Xl2 s).2):=by
   have e:=XCT g3
   unfold Xax;rw [if_neg g1,if_neg g2,if_pos (by rw [e];exact g3),e]
  rw [hT,show ((Xl2 s).2 !=0)=true by simpa using g3];rfl
theorem Xtf {s:List UInt8} (hs:s.length<2^19):XeV s=some ((Xax s).1,(Xax s).2.2.2):=by
 unfold XeV Xlh
 rw [XBu hs,Option.bind_some]
end Go.Vm.Code
namespace Go.Vm.Code
open Go Go.Vm Go.Proofs
set_option maxRecDepth 100000
set_option maxHeartbeats 4000000
set_option linter.unusedVariables false
def Xrd (n:Int) (most:Int):Option Bool:=
 cond (decide (n≥0))
  (
  some (decide (n≤most)))
  (
  some (false))
def rx41 (x:Bool):Xcu:=⟨.bool x,[],[]⟩
abbrev Xh0:=Int→Int→Option Bool
def r41 (g:Xh0):Dec:=dV (asI .i64) fun (y0:Int)=>dV (asI .i64) fun (y1:Int)=>Xdm (ofG (g y0 y1) rx41)
theorem r41_c {g:Xh0} {y0:Int} {y1:Int} {x:Bool} (hx:g y0 y1=some x):r41 g [.int .i64 y0,.int .i64 y1] []=some (rx41 x):=(XaY (Xc2 _)).trans ((XaY (Xc2 _)).trans (XaX hx))
def s41 (g:Xh0):Xbs:=⟨[.v,.v],r41 g⟩
theorem XNH {g:Xh0} {y0:Int} {y1:Int} {x:Bool} (hx:g y0 y1=some x):(s41 g).run [.int .i64 y0,.int .i64 y1] []=some (rx41 x):=r41_c hx
abbrev XN2:List (Nat×Xbs):=[]
theorem XHY (hS:Xal Tryz.prog (XaE (XN2))) (n:Int) (most:Int) (res:Bool) (h:Xrd n most=some res) :
 XaK Tryz.prog 41 0 ⟨⟨41,12,[(0,.int .i64 n),(1,.int .i64 most)],[.code XS7],[],false,none⟩,[],[],0⟩ (fun v H _=>Res 0 (rx41 res) v H):=by
 unfold Xrd at h
 refine Xbg XaJ hS true 3000 ?_
 conv=>whnf
 exact W
def XiG:Xh0:=Xrd
theorem XN7:XbA Tryz.prog 41 (s41 XiG):=by
 have hL:=XHY (Xal.XaV trivial)
 exact okA ⟨Tryz.f41,rfl,by decide,rfl⟩
def Xli (XaS:XbY) (XiG:Xh0) (t:Xag):Option Bool:=
 (XiG t.Proto 255).bind fun i=>
 cond (i)
  (
  (XaS t.Src).bind fun xr=>
  cond (xr)
   (
   (XaS t.Dst).bind fun xr1=>
   cond (xr1)
    (
    cond (t.Src.V6==t.Dst.V6)
     (
     (XiG t.SPort 65535).bind fun i1=>
     cond (i1)
      (
      (XiG t.DPort 65535).bind fun i2=>
      some (i2))
      (
      some (false)))
     (
     some (false)))
    (
    some (false)))
   (
   some (false)))
  (
  some (false))
def rx20 (x:Bool):Xcu:=⟨.bool x,[],[]⟩
abbrev Xe3:=Xag→Option Bool
def r20 (g:Xe3):Dec:=dV Xdi fun (y0:Xag)=>Xdm (ofG (g y0) rx20)
theorem r20_c {g:Xe3} {y0:Xag} {x:Bool} (hx:g y0=some x):r20 g [.agg ⟨[.int .i64 y0.Proto,.bool y0.Src.V6,.int .u64 y0.Src.Hi,.int .u64 y0.Src.Lo,.bool y0.Dst.V6,.int .u64 y0.Dst.Hi,.int .u64 y0.Dst.Lo,.int .i64 y0.SPort,.int .i64 y0.DPort]⟩] []=some (rx20 x):=(XaY (Xdy _)).trans (XaX hx)
def s20 (g:Xe3):Xbs:=⟨[.v],r20 g⟩
theorem XSj {g:Xe3} {y0:Xag} {x:Bool} (hx:g y0=some x):(s20 g).run [.agg ⟨[.int .i64 y0.Proto,.bool y0.Src.V6,.int .u64 y0.Src.Hi,.int .u64 y0.Src.Lo,.bool y0.Dst.V6,.int .u64 y0.Dst.Hi,.int .u64 y0.Dst.Lo,.int .i64 y0.SPort,.int .i64 y0.DPort]⟩] []=some (rx20 x):=r20_c hx
abbrev XOI (XaS:XbY) (XiG:Xh0):List (Nat×Xbs):=[(42,s42 XaS),(41,s41 XiG)]
theorem XIb (XaS:XbY) (XiG:Xh0) (hS:Xal Tryz.prog (XaE (XOI XaS XiG))) (t:Xag) (res:Bool) (h:Xli XaS XiG t=some res) :
 XaK Tryz.prog 20 0 ⟨⟨20,35,[(0,.agg ⟨[.int .i64 t.Proto,.bool t.Src.V6,.int .u64 t.Src.Hi,.int .u64 t.Src.Lo,.bool t.Dst.V6,.int .u64 t.Dst.Hi,.int .u64 t.Dst.Lo,.int .i64 t.SPort,.int .i64 t.DPort]⟩)],[.code XPk],[],false,none⟩,[],[],0⟩ (fun v H _=>Res 0 (rx20 res) v H):=by
 unfold Xli at h
 have R1:=@XNH XiG
 have R2:=@Xs1 XaS
 refine Xbg XaJ hS true 3000 ?_
 conv=>whnf
 exact W
def Xfl:Xe3:=Xli XaS XiG
theorem lift20:XbA Tryz.prog 20 (s20 Xfl):=by
 have hL:=XIb XaS XiG (Xal.XaV ⟨XsF,XN7,trivial⟩)
 exact okA ⟨Tryz.f20,rfl,by decide,rfl⟩
end Go.Vm.Code
namespace Go.Vm.Code
open Go Go.Vm
def adr (a:Xab):Bool:=a.V6||(decide (a.Hi=0)&&decide (a.Lo<4294967296))
theorem XvY (a:Xab):XbX a=some (adr a):=by
 unfold XbX XiE adr
 cases a.V6 with
 | true=>rfl
 | false=>
   rw [cond_false,Bool.false_or]
   by_cases h:a.Hi=0
   ·rw [h];rfl
   ·rw [beq_eq_false_iff_ne.2 h,cond_false,decide_eq_false h];rfl
theorem Xqs (a:Xab):XaS a=some (adr a):=XvY a
def XLc (t:Xag):Bool:=decide (0≤t.Proto∧t.Proto≤255)&&(decide (0≤t.SPort∧t.SPort≤65535)&&(decide (0≤t.DPort∧t.DPort≤65535)&&(adr t.Src&&(adr t.Dst&&(t.Src.V6==t.Dst.V6)))))
theorem XpM (n m:Int):XiG n m=some (decide (0≤n∧n≤m)):=by
 unfold XiG Xrd
 by_cases h:n≥0
 ·rw [Xa2 h];congr 1;rw [Bool.eq_iff_iff,decide_eq_true_eq,decide_eq_true_eq];omega
 ·rw [XaQ h];congr 1;symm;exact decide_eq_false (by omega)
theorem Xwc (t:Xag):Xfl t=some (XLc t):=by
 unfold Xfl Xli XLc
 rw [XpM,XpM,XpM,Xqs,Xqs]
 simp only [Option.bind_some]
 generalize decide (0≤t.Proto∧t.Proto≤255)=a
 generalize decide (0≤t.SPort∧t.SPort≤65535)=b
 generalize decide (0≤t.DPort∧t.DPort≤65535)=c
 generalize adr t.Src=d
 generalize adr t.Dst=e
 generalize (t.Src.V6==t.Dst.V6)=f
 cases a<;>cases b<;>cases c<;>cases d<;>cases e<;>cases f<;>rfl
theorem XBx {t:Xag} (h:XLc t=true):(0≤t.Proto∧t.Proto≤255)∧(0≤t.SPort∧t.SPort≤65535)∧(0≤t.DPort∧t.DPort≤65535)∧adr t.Src=true∧adr t.Dst=true:=by
 unfold XLc at h
 simp only [Bool.and_eq_true,decide_eq_true_eq] at h
 exact ⟨h.1,h.2.1,h.2.2.1,h.2.2.2.1,h.2.2.2.2.1⟩
end Go.Vm.Code
namespace Go.Vm.Code
open Go Go.Vm Go.Proofs
set_option maxRecDepth 100000
set_option maxHeartbeats 4000000
set_option linter.unusedVariables false
def Xpg (t:Xag):Option Xag:=
 some (Xag.mk t.Proto t.Dst t.Src t.DPort t.SPort)
def rx24 (x:Xag):Xcu:=⟨.agg ⟨[.int .i64 x.Proto,.bool x.Src.V6,.int .u64 x.Src.Hi,.int .u64 x.Src.Lo,.bool x.Dst.V6,.int .u64 x.Dst.Hi,.int .u64 x.Dst.Lo,.int .i64 x.SPort,.int .i64 x.DPort]⟩,[],[]⟩
abbrev XfD:=Xag→Option Xag
def r24 (g:XfD):Dec:=dV Xdi fun (y0:Xag)=>Xdm (ofG (g y0) rx24)
theorem r24_c {g:XfD} {y0:Xag} {x:Xag} (hx:g y0=some x):r24 g [.agg ⟨[.int .i64 y0.Proto,.bool y0.Src.V6,.int .u64 y0.Src.Hi,.int .u64 y0.Src.Lo,.bool y0.Dst.V6,.int .u64 y0.Dst.Hi,.int .u64 y0.Dst.Lo,.int .i64 y0.SPort,.int .i64 y0.DPort]⟩] []=some (rx24 x):=(XaY (Xdy _)).trans (XaX hx)
def s24 (g:XfD):Xbs:=⟨[.v],r24 g⟩
theorem XRt {g:XfD} {y0:Xag} {x:Xag} (hx:g y0=some x):(s24 g).run [.agg ⟨[.int .i64 y0.Proto,.bool y0.Src.V6,.int .u64 y0.Src.Hi,.int .u64 y0.Src.Lo,.bool y0.Dst.V6,.int .u64 y0.Dst.Hi,.int .u64 y0.Dst.Lo,.int .i64 y0.SPort,.int .i64 y0.DPort]⟩] []=some (rx24 x):=r24_c hx
abbrev XSY:List (Nat×Xbs):=[]
theorem XI3 (hS:Xal Tryz.prog (XaE (XSY))) (t:Xag) (res:Xag) (h:Xpg t=some res) :
 XaK Tryz.prog 24 0 ⟨⟨24,14,[(0,.agg ⟨[.int .i64 t.Proto,.bool t.Src.V6,.int .u64 t.Src.Hi,.int .u64 t.Src.Lo,.bool t.Dst.V6,.int .u64 t.Dst.Hi,.int .u64 t.Dst.Lo,.int .i64 t.SPort,.int .i64 t.DPort]⟩)],[.code XQq],[],false,none⟩,[],[],0⟩ (fun v H _=>Res 0 (rx24 res) v H):=by
 unfold Xpg at h
 refine Xbg XaJ hS true 3000 ?_
 conv=>whnf
 exact W
def Xga:XfD:=Xpg
theorem lift24:XbA Tryz.prog 24 (s24 Xga):=by
 have hL:=XI3 (Xal.XaV trivial)
 exact okA ⟨Tryz.f24,rfl,by decide,rfl⟩
def XlU (t:Xag):Option Xag:=
 some (Xag.mk t.Proto t.Dst t.Src t.DPort t.SPort)
def rx36 (x:Xag):Xcu:=⟨.agg ⟨[.int .i64 x.Proto,.bool x.Src.V6,.int .u64 x.Src.Hi,.int .u64 x.Src.Lo,.bool x.Dst.V6,.int .u64 x.Dst.Hi,.int .u64 x.Dst.Lo,.int .i64 x.SPort,.int .i64 x.DPort]⟩,[],[]⟩
abbrev Xdj:=Xag→Option Xag
def r36 (g:Xdj):Dec:=dV Xdi fun (y0:Xag)=>Xdm (ofG (g y0) rx36)
theorem r36_c {g:Xdj} {y0:Xag} {x:Xag} (hx:g y0=some x):r36 g [.agg ⟨[.int .i64 y0.Proto,.bool y0.Src.V6,.int .u64 y0.Src.Hi,.int .u64 y0.Src.Lo,.bool y0.Dst.V6,.int .u64 y0.Dst.Hi,.int .u64 y0.Dst.Lo,.int .i64 y0.SPort,.int .i64 y0.DPort]⟩] []=some (rx36 x):=(XaY (Xdy _)).trans (XaX hx)
def s36 (g:Xdj):Xbs:=⟨[.v],r36 g⟩
theorem XFk {g:Xdj} {y0:Xag} {x:Xag} (hx:g y0=some x):(s36 g).run [.agg ⟨[.int .i64 y0.Proto,.bool y0.Src.V6,.int .u64 y0.Src.Hi,.int .u64 y0.Src.Lo,.bool y0.Dst.V6,.int .u64 y0.Dst.Hi,.int .u64 y0.Dst.Lo,.int .i64 y0.SPort,.int .i64 y0.DPort]⟩] []=some (rx36 x):=r36_c hx
abbrev XSq:List (Nat×Xbs):=[]
theorem XHf (hS:Xal Tryz.prog (XaE (XSq))) (t:Xag) (res:Xag) (h:XlU t=some res) :
 XaK Tryz.prog 36 0 ⟨⟨36,16,[(0,.agg ⟨[.int .i64 t.Proto,.bool t.Src.V6,.int .u64 t.Src.Hi,.int .u64 t.Src.Lo,.bool t.Dst.V6,.int .u64 t.Dst.Hi,.int .u64 t.Dst.Lo,.int .i64 t.SPort,.int .i64 t.DPort]⟩)],[.code XOP],[],false,none⟩,[],[],0⟩ (fun v H _=>Res 0 (rx36 res) v H):=by
 unfold XlU at h
 refine Xbg XaJ hS true 3000 ?_
 conv=>whnf
 exact W
def Xck:Xdj:=XlU
theorem XGK:XbA Tryz.prog 36 (s36 Xck):=by
 have hL:=XHf (Xal.XaV trivial)
 exact okA ⟨Tryz.f36,rfl,by decide,rfl⟩
end Go.Vm.Code
namespace Go.Vm.Code
open Go Go.Vm
theorem XsP (a b:Nat):(Xcs a b).length=12:=by simp [Xcs]
def XiK (t:Xag):Xag:=⟨t.Proto,t.Dst,t.Src,t.DPort,t.SPort⟩
theorem Xsi (t:Xag):Xck t=some (XiK t)∧Xga t=some (XiK t):=⟨rfl,rfl⟩
def XHI (a b:Xag):Bool:=(a.Proto==b.Proto)&&((a.Src.V6==b.Src.V6)&&((a.Src.Hi==b.Src.Hi)&&((a.Src.Lo==b.Src.Lo)&&((a.Dst.V6==b.Dst.V6)&&((a.Dst.Hi==b.Dst.Hi)&&((a.Dst.Lo==b.Dst.Lo)&&((a.SPort==b.SPort)&&((a.DPort==b.DPort)&&true))))))))
theorem XyJ {a b:Xag}:XHI a b=true↔a=b:=by
 unfold XHI
 obtain ⟨a1,⟨a2,a3,a4⟩,⟨a5,a6,a7⟩,a8,a9⟩:=a
 obtain ⟨b1,⟨b2,b3,b4⟩,⟨b5,b6,b7⟩,b8,b9⟩:=b
 simp [and_assoc]
theorem Xw2 {a:Xab} (h:adr a=true):aok a=true:=by
 unfold adr at h;unfold aok
 cases hv:a.V6
 ·rw [hv] at h
  simp only [Bool.false_or,Bool.and_eq_true,decide_eq_true_eq] at h ⊢
  exact ⟨beq_iff_eq.2 h.1,h.2⟩
 ·rfl
structure XmS (t:Xag):Prop where
 src:A4 t.Src
 dst:A4 t.Dst
 sa:aok t.Src=true
 da:aok t.Dst=true
 six:t.Src.V6=t.Dst.V6
 sp:0≤t.SPort∧t.SPort≤65535
 dp:0≤t.DPort∧t.DPort≤65535
theorem XJa {t:Xag} (h1:A4 t.Src) (h2:A4 t.Dst) (h:XLc t=true):XmS t:=by
 have h3:=XBx h
 have h4:t.Src.V6=t.Dst.V6:=by
  unfold XLc at h
  simp only [Bool.and_eq_true] at h
  exact eq_of_beq h.2.2.2.2.2
 exact ⟨h1,h2,Xw2 h3.2.2.2.1,Xw2 h3.2.2.2.2,h4,h3.2.1,h3.2.2.1⟩
theorem XsD {t:Xag} (h:XmS t):XmS (XiK t):=⟨h.dst,h.src,h.da,h.sa,h.six.symm,h.dp,h.sp⟩
theorem Xyx {a:Xab} (h:aok a=true) (v:a.V6=false):four a=true:=by
 unfold four;rw [v,h];rfl
theorem XvX {t:Xag} {b:List UInt8} (h:XmS t) (hp:t.Proto=6∨t.Proto=17) (hb:b.length≤8000):(Xh5 t b).2=0:=by
 have key:(Xnu t b).2=0∧(Xnu t b).1.length≤9000:=by
  unfold Xnu
  cases v:t.Src.V6
  ·have h5:H5 (Xj9 t)=true:=by
    have f1:=Xyx h.sa v
    have f2:=Xyx h.da (h.six▸v)
    unfold H5 Xj9
    simp only [f1,f2,Bool.and_true,Bool.and_eq_true]
    refine ⟨⟨⟨⟨⟨?_,?_⟩,?_⟩,?_⟩,?_⟩,?_⟩
    all_goals first|rfl|(rcases hp with e|e<;>rw [e]<;>rfl)
   rw [cond_false]
   unfold XQk
   rw [if_neg (by rw [h5];decide),if_neg (by show ¬ (65535 - (20+(([]:List UInt8).length:Int))<(b.length:Int));simp only [List.length_nil];omega)]
   refine ⟨rfl,?_⟩
   have e1:=Xve (hd5 (Xj9 t) (20+(Xj9 t).Options.length+b.length)) 10 2 (65535 - (norm (XcA (hd5 (Xj9 t) (20+(Xj9 t).Options.length+b.length))):Nat))
   have e2:=XAi (Xj9 t) (20+(Xj9 t).Options.length+b.length)
   have e3:(Xj9 t).Options.length=0:=rfl
   simp only [List.length_append]
   omega
  ·have h6:H6 (Xm3 t):=⟨by show (0:Int)≤0∧(0:Int)≤255;decide,by show (0:Int)≤0∧(0:Int)≤1048575;decide,by show 0≤t.Proto∧t.Proto≤255;omega,by show (0:Int)≤64∧(64:Int)≤255;decide,v,h.six▸v⟩
   rw [cond_true]
   unfold XQ5
   rw [if_neg (by simpa using h6),if_neg (by omega)]
   refine ⟨rfl,?_⟩
   simp only [List.length_append,Xmv];omega
 unfold Xh5
 have hn:¬ (t.Src.V6≠t.Dst.V6∨aok t.Src=false∨aok t.Dst=false∨(t.Proto≠6∧t.Proto≠17)):=by
  rintro (a|a|a|⟨a,b⟩)
  ·exact a h.six
  ·rw [h.sa] at a;cases a
  ·rw [h.da] at a;cases a
  ·omega
 rw [if_neg hn,if_neg (by omega)]
 exact key.1
theorem XHW {src dst:Xab} (h1:aok src=true) (h2:aok dst=true) (h3:src.V6=dst.V6) (p n:Int):XjP src dst p n≠[]:=by
 unfold XjP
 rw [if_pos ⟨h1,h2,h3⟩]
 intro e
 have e2:=(List.append_eq_nil_iff.1 e).2
 cases hv:src.V6
 ·rw [hv,cond_false] at e2
  have e3:=(List.append_eq_nil_iff.1 (List.append_eq_nil_iff.1 e2).1).1
  exact absurd e3 (by decide)
 ·rw [hv,cond_true] at e2
  have e3:=(List.append_eq_nil_iff.1 (List.append_eq_nil_iff.1 e2).1).2
  exact absurd e3 (by decide)
theorem XjZ {t:Xag} (h:XmS t) (hp:t.Proto=6) {f:Int} (hf:0≤f∧f≤255) {v e:Nat} (hv:v<4294967296) (he:e<4294967296) {l:List UInt8} (hl:l.length≤1000) :
 (XlX t f (Xcs v e) l).2=0∧(XlX t f (Xcs v e) l).1.length≤9000∧∃ n a b,Xax (XlX t f (Xcs v e) l).1=(⟨t,f,true,v,e,false,[],n⟩,a,b,0):=by
 have hsl:=XsP v e
 have hst:=Xre hv he
 have ho:=XnO (d:=be v 4++be e 4) (by simp)
 have hw:W7 ⟨t.SPort,t.DPort,0,0,f,65535,0,Xcs v e⟩:=⟨by simp only [];omega,by simp only [];omega⟩
 have d0:(Xp6 ⟨t.SPort,t.DPort,0,0,f,65535,0,Xcs v e⟩ t.Src t.Dst l).2=0:=by
  unfold Xp6
  have hh:H7 ⟨t.SPort,t.DPort,0,0,f,65535,0,Xcs v e⟩=true:=by
   unfold H7
   simp only [Bool.and_eq_true,Xt1,decide_eq_true_eq,hsl]
   exact ⟨⟨⟨⟨⟨⟨h.sp,h.dp⟩,by decide⟩,by decide⟩,hf⟩,by decide⟩,by decide⟩
  rw [if_neg (by rw [hh];decide),if_neg (XHW h.sa h.da h.six _ _),if_neg (by simp only [hsl];omega)]
 have hlen:=Xrn ⟨t.SPort,t.DPort,0,0,f,65535,0,Xcs v e⟩ t.Src t.Dst l
 simp only [hsl] at hlen
 have g0:=XvX (b:=(Xp6 ⟨t.SPort,t.DPort,0,0,f,65535,0,Xcs v e⟩ t.Src t.Dst l).1) h (.inl hp) (by omega)
 have hs:XlX t f (Xcs v e) l=Xh5 t (Xp6 ⟨t.SPort,t.DPort,0,0,f,65535,0,Xcs v e⟩ t.Src t.Dst l).1:=by
  unfold XlX
  rw [if_neg (by simpa using hp),if_neg (by simpa using d0)]
 rw [hs]
 refine ⟨g0,(Xrh g0).2,?_⟩
 have hi:=XOn (t:=t) (l:=l) (z:=cond t.Src.V6 40 20) (n:=(Xh5 t (Xp6 ⟨t.SPort,t.DPort,0,0,f,65535,0,Xcs v e⟩ t.Src t.Dst l).1).1.length) hw (by show (Xjt (Xcs v e)).2=0;unfold Xcs;rw [ho]) d0 hp
 have htm:=XAc h.src h.dst g0
 rw [hi,if_neg (by simp)] at htm
 have hs11:Xr0 (Xcs v e)=(true,(v:Int),(e:Int)):=by unfold Xr0;rw [hst];rfl
 simp only [hs11] at htm
 exact ⟨_,_,_,htm⟩
end Go.Vm.Code
namespace Go.Vm.Code
open Go Go.Vm Go.Proofs
set_option maxRecDepth 100000
set_option maxHeartbeats 4000000
set_option linter.unusedVariables false
def XcF (s:List UInt8) (prefixa1:List UInt8):Option Bool:=
 let t:=decide ((s.length:Int)≥(prefixa1.length:Int))
 cond (t)
  (
  Xa9 (decide ((0:Int)≤(prefixa1.length:Int)∧(prefixa1.length:Int)≤(s.length:Int))) <|
  some ((s.take prefixa1.length)==prefixa1))
  (
  some (false))
def XB7 (x:Bool):Xcu:=⟨.bool x,[],[]⟩
abbrev Xbd:=(List UInt8)→(List UInt8)→Option Bool
def r113 (g:Xbd):Dec:=dV asS fun (y0:List UInt8)=>dV asS fun (y1:List UInt8)=>Xdm (ofG (g y0 y1) XB7)
theorem XS2 {g:Xbd} {y0:List UInt8} {y1:List UInt8} {x:Bool} (hx:g y0 y1=some x):r113 g [.string ⟨⟨y0⟩⟩,.string ⟨⟨y1⟩⟩] []=some (XB7 x):=(XaY (XcY)).trans ((XaY (XcY)).trans (XaX hx))
def s113 (g:Xbd):Xbs:=⟨[.v,.v],r113 g⟩
theorem XHg {g:Xbd} {y0:List UInt8} {y1:List UInt8} {x:Bool} (hx:g y0 y1=some x):(s113 g).run [.string ⟨⟨y0⟩⟩,.string ⟨⟨y1⟩⟩] []=some (XB7 x):=XS2 hx
abbrev XIo:List (Nat×Xbs):=[]
theorem XEg (hS:Xal Tryz.prog (XaE (XIo))) (s:List UInt8) (prefixa1:List UInt8) (res:Bool) (h:XcF s prefixa1=some res) :
 XaK Tryz.prog 113 0 ⟨⟨113,18,[(0,.string ⟨⟨s⟩⟩),(1,.string ⟨⟨prefixa1⟩⟩)],[.code XFN],[],false,none⟩,[],[],0⟩ (fun v H _=>Res 0 (XB7 res) v H):=by
 unfold XcF at h
 refine Xbg XaJ hS true 3000 ?_
 conv=>whnf
 exact W
def XaU:Xbd:=XcF
theorem XHa:XbA Tryz.prog 113 (s113 XaU):=by
 have hL:=XEg (Xal.XaV trivial)
 exact okA ⟨Tryz.f113,rfl,by decide,rfl⟩
def XcB (XaU:Xbd) (s:List UInt8) (prefixa1:List UInt8):Option ((List UInt8)×Bool):=
 (XaU s prefixa1).bind fun xh=>
 cond (!xh)
  (
  some ((s,false)))
  (
  Xa9 (decide ((0:Int)≤(prefixa1.length:Int)∧(prefixa1.length:Int)≤(s.length:Int))) <|
  let t:=(s.drop prefixa1.length).take (s.length - prefixa1.length)
  some ((t,true)))
def rx85 (x:(List UInt8)×Bool):Xcu:=⟨.tuple ⟨[.string ⟨⟨x.1⟩⟩,.bool x.2]⟩,[],[]⟩
abbrev Xbf:=(List UInt8)→(List UInt8)→Option ((List UInt8)×Bool)
def r85 (g:Xbf):Dec:=dV asS fun (y0:List UInt8)=>dV asS fun (y1:List UInt8)=>Xdm (ofG (g y0 y1) rx85)
theorem r85_c {g:Xbf} {y0:List UInt8} {y1:List UInt8} {x:(List UInt8)×Bool} (hx:g y0 y1=some x):r85 g [.string ⟨⟨y0⟩⟩,.string ⟨⟨y1⟩⟩] []=some (rx85 x):=(XaY (XcY)).trans ((XaY (XcY)).trans (XaX hx))
def s85 (g:Xbf):Xbs:=⟨[.v,.v],r85 g⟩
theorem XQl {g:Xbf} {y0:List UInt8} {y1:List UInt8} {x:(List UInt8)×Bool} (hx:g y0 y1=some x):(s85 g).run [.string ⟨⟨y0⟩⟩,.string ⟨⟨y1⟩⟩] []=some (rx85 x):=r85_c hx
abbrev XO0 (XaU:Xbd):List (Nat×Xbs):=[(113,s113 XaU)]
theorem XLR (XaU:Xbd) (hS:Xal Tryz.prog (XaE (XO0 XaU))) (s:List UInt8) (prefixa1:List UInt8) (res:(List UInt8)×Bool) (h:XcB XaU s prefixa1=some res) :
 XaK Tryz.prog 85 0 ⟨⟨85,15,[(0,.string ⟨⟨s⟩⟩),(1,.string ⟨⟨prefixa1⟩⟩)],[.code XSl],[],false,none⟩,[],[],0⟩ (fun v H _=>Res 0 (rx85 res) v H):=by
 unfold XcB at h
 have R1:=@XHg XaU
 refine Xbg XaJ hS true 3000 ?_
 conv=>whnf
 exact W
def XaT:Xbf:=XcB XaU
theorem XPg:XbA Tryz.prog 85 (s85 XaT):=by
 have hL:=XLR XaU (Xal.XaV ⟨XHa,trivial⟩)
 exact okA ⟨Tryz.f85,rfl,by decide,rfl⟩
def Xft (XaT:Xbf) (s:List UInt8) (prefixa1:List UInt8):Option ((List UInt8)×Bool):=
 (XaT s prefixa1).bind fun c=>
 some ((c.1,c.2))
def rx50 (x:(List UInt8)×Bool):Xcu:=⟨.tuple ⟨[.string ⟨⟨x.1⟩⟩,.bool x.2]⟩,[],[]⟩
abbrev Xcp:=(List UInt8)→(List UInt8)→Option ((List UInt8)×Bool)
def r50 (g:Xcp):Dec:=dV asS fun (y0:List UInt8)=>dV asS fun (y1:List UInt8)=>Xdm (ofG (g y0 y1) rx50)
theorem r50_c {g:Xcp} {y0:List UInt8} {y1:List UInt8} {x:(List UInt8)×Bool} (hx:g y0 y1=some x):r50 g [.string ⟨⟨y0⟩⟩,.string ⟨⟨y1⟩⟩] []=some (rx50 x):=(XaY (XcY)).trans ((XaY (XcY)).trans (XaX hx))
def s50 (g:Xcp):Xbs:=⟨[.v,.v],r50 g⟩
theorem XMz {g:Xcp} {y0:List UInt8} {y1:List UInt8} {x:(List UInt8)×Bool} (hx:g y0 y1=some x):(s50 g).run [.string ⟨⟨y0⟩⟩,.string ⟨⟨y1⟩⟩] []=some (rx50 x):=r50_c hx
abbrev XR2 (XaT:Xbf):List (Nat×Xbs):=[(85,s85 XaT)]
theorem XJg (XaT:Xbf) (hS:Xal Tryz.prog (XaE (XR2 XaT))) (s:List UInt8) (prefixa1:List UInt8) (res:(List UInt8)×Bool) (h:Xft XaT s prefixa1=some res) :
 XaK Tryz.prog 50 0 ⟨⟨50,11,[(0,.string ⟨⟨s⟩⟩),(1,.string ⟨⟨prefixa1⟩⟩)],[.code XOK],[],false,none⟩,[],[],0⟩ (fun v H _=>Res 0 (rx50 res) v H):=by
 unfold Xft at h
 have R1:=@XQl XaT
 refine Xbg XaJ hS true 3000 ?_
 conv=>whnf
 exact W
def strings_CutPrefix:Xcp:=Xft XaT
theorem XR8:XbA Tryz.prog 50 (s50 strings_CutPrefix):=by
 have hL:=XJg XaT (Xal.XaV ⟨XPg,trivial⟩)
 exact okA ⟨Tryz.f50,rfl,by decide,rfl⟩
def Xo7 (six:Bool):Option Int:=
 cond (six)
  (
  some (41))
  (
  some (4))
def rx53 (x:Int):Xcu:=⟨.int .i64 x,[],[]⟩
abbrev XfH:=Bool→Option Int
def r53 (g:XfH):Dec:=dV asB fun (y0:Bool)=>Xdm (ofG (g y0) rx53)
theorem r53_c {g:XfH} {y0:Bool} {x:Int} (hx:g y0=some x):r53 g [.bool y0] []=some (rx53 x):=(XaY (asB_c)).trans (XaX hx)
def s53 (g:XfH):Xbs:=⟨[.v],r53 g⟩
theorem XST {g:XfH} {y0:Bool} {x:Int} (hx:g y0=some x):(s53 g).run [.bool y0] []=some (rx53 x):=r53_c hx
abbrev XOV:List (Nat×Xbs):=[]
theorem XHv (hS:Xal Tryz.prog (XaE (XOV))) (six:Bool) (res:Int) (h:Xo7 six=some res) :
 XaK Tryz.prog 53 0 ⟨⟨53,4,[(0,.bool six)],[.code XPe],[],false,none⟩,[],[],0⟩ (fun v H _=>Res 0 (rx53 res) v H):=by
 unfold Xo7 at h
 refine Xbg XaJ hS true 3000 ?_
 conv=>whnf
 exact W
def Xgc:XfH:=Xo7
theorem XPt:XbA Tryz.prog 53 (s53 Xgc):=by
 have hL:=XHv (Xal.XaV trivial)
 exact okA ⟨Tryz.f53,rfl,by decide,rfl⟩
def Xod (XaN:XbO) (Xgc:XfH) (XaO:XbC) (Xaa:XaD) (strings_CutPrefix:Xcp) (s:List UInt8):Option (XaZ×(List UInt8)×Int):=
 cond (decide ((s.length:Int)<18))
  (
  some ((XaZ.mk false 0 0 false 0,[],2)))
  (
  (strings_CutPrefix s [71,85,1]).bind fun c=>
  (XaO c.1).bind fun n=>
  (Xaa n 1).bind fun n1=>
  (Xaa n1.2 2).bind fun n2=>
  (Xaa n2.2 1).bind fun n3=>
  (Xaa n3.2 1).bind fun n4=>
  (Xaa n4.2 2).bind fun n5=>
  (Xaa n5.2 4).bind fun n6=>
  (Xaa n6.2 4).bind fun n7=>
  let t:=XuZ .u64 (wI .u64 ((wI .u64 n6.1)*2^32)) (wI .u64 n7.1)
  cond (!c.2)
   (
   some ((XaZ.mk false 0 0 false 0,[],3)))
   (
   (Xgc (n1.1==41)).bind fun k=>
   cond (n1.1 !=k)
    (
    some ((XaZ.mk false 0 0 false 0,[],3)))
    (
    cond (decide (n3.1>1))
     (
     some ((XaZ.mk false 0 0 false 0,[],3)))
     (
     cond (decide ((s.length:Int)>9018))
      (
      some ((XaZ.mk false 0 0 false 0,[],5)))
      (
      Xa9 (decide ((0:Int)≤(18:Int)∧(18:Int)≤(s.length:Int))) <|
      (XaN (s.take 18)).bind fun xr=>
      cond (!xr)
       (
       some ((XaZ.mk false 0 0 false 0,[],4)))
       (
       Xa9 (decide ((0:Int)≤(18:Int)∧(18:Int)≤(s.length:Int))) <|
       some ((XaZ.mk (n1.1==41) n2.1 t (n3.1==1) n4.1,(s.drop 18).take (s.length - 18),0))))))))
def rx29 (x:XaZ×(List UInt8)×Int):Xcu:=⟨.tuple ⟨[.agg ⟨[.bool x.1.V6,.int .i64 x.1.Backend,.int .u64 x.1.Cookie,.bool x.1.First,.int .i64 x.1.Instance]⟩,.string ⟨⟨x.2.1⟩⟩,.int .i64 x.2.2]⟩,[],[]⟩
abbrev XeR:=(List UInt8)→Option (XaZ×(List UInt8)×Int)
def r29 (g:XeR):Dec:=dV asS fun (y0:List UInt8)=>Xdm (ofG (g y0) rx29)
theorem r29_c {g:XeR} {y0:List UInt8} {x:XaZ×(List UInt8)×Int} (hx:g y0=some x):r29 g [.string ⟨⟨y0⟩⟩] []=some (rx29 x):=(XaY (XcY)).trans (XaX hx)
def s29 (g:XeR):Xbs:=⟨[.v],r29 g⟩
theorem XFR {g:XeR} {y0:List UInt8} {x:XaZ×(List UInt8)×Int} (hx:g y0=some x):(s29 g).run [.string ⟨⟨y0⟩⟩] []=some (rx29 x):=r29_c hx
abbrev XPJ (XaN:XbO) (Xgc:XfH) (XaO:XbC) (Xaa:XaD) (strings_CutPrefix:Xcp):List (Nat×Xbs):=[(54,s54 XaN),(53,s53 Xgc),(51,s51 XaO),(52,s52 Xaa),(50,s50 strings_CutPrefix)]
theorem XHl (XaN:XbO) (Xgc:XfH) (XaO:XbC) (Xaa:XaD) (strings_CutPrefix:Xcp) (hS:Xal Tryz.prog (XaE (XPJ XaN Xgc XaO Xaa strings_CutPrefix))) (s:List UInt8) (res:XaZ×(List UInt8)×Int) (h:Xod XaN Xgc XaO Xaa strings_CutPrefix s=some res) :
 XaK Tryz.prog 29 0 ⟨⟨29,81,[(0,.string ⟨⟨s⟩⟩)],[.code XFQ],[],false,none⟩,[],[],0⟩ (fun v H _=>Res 0 (rx29 res) v H):=by
 unfold Xod at h
 have R1:=@XMz strings_CutPrefix
 have R2:=@XqW XaO
 have R3:=@Xkh Xaa
 have R4:=@XST Xgc
 have R5:=@Xvs XaN
 refine Xbg XaJ hS true 3000 ?_
 conv=>whnf
 exact W
def Xec:XeR:=Xod XaN Xgc XaO Xaa strings_CutPrefix
theorem XGl:XbA Tryz.prog 29 (s29 Xec):=by
 have hL:=XHl XaN Xgc XaO Xaa strings_CutPrefix (Xal.XaV ⟨XuT,XPt,Xqc,XpK,XR8,trivial⟩)
 exact okA ⟨Tryz.f29,rfl,by decide,rfl⟩
def XoC (XaW:Xcc) (Xde:XeF) (Xci:XdL) (c:XaZ) (inner:List UInt8):Option ((List UInt8)×Int):=
 cond (decide (c.Backend<0))
  (
  some (([],1)))
  (
  cond (decide (c.Backend>65535))
   (
   some (([],1)))
   (
   cond (decide (c.Instance<0))
    (
    some (([],1)))
    (
    cond (decide (c.Instance>255))
     (
     some (([],1)))
     (
     cond (decide ((inner.length:Int)>9000))
      (
      some (([],5)))
      (
      cond (c.V6)
       (
       cond (c.First)
        (
        (XaW 41 1).bind fun p=>
        Xa9 (decide (3+p.length<2^63)) <|
        (XaW (wI .u64 c.Backend) 2).bind fun p1=>
        Xa9 (decide (([71,85,1]++p).length+p1.length<2^63)) <|
        (XaW 1 1).bind fun p2=>
        Xa9 (decide ((([71,85,1]++p)++p1).length+p2.length<2^63)) <|
        (XaW (wI .u64 c.Instance) 1).bind fun p3=>
        Xa9 (decide (((([71,85,1]++p)++p1)++p2).length+p3.length<2^63)) <|
        Xa9 (decide ((((([71,85,1]++p)++p1)++p2)++p3).length+2<2^63)) <|
        let t:=(((([71,85,1]++p)++p1)++p2)++p3)++[0,0]
        (XaW c.Cookie 8).bind fun p4=>
        Xa9 (decide (t.length+p4.length<2^63)) <|
        (Xde (t++p4)).bind fun xo=>
        (Xci (t++p4) 8 2 (wI .u64 xo)).bind fun s=>
        Xa9 (decide (s.length+inner.length<2^63)) <|
        some ((s++inner,0)))
        (
        (XaW 41 1).bind fun p5=>
        Xa9 (decide (3+p5.length<2^63)) <|
        (XaW (wI .u64 c.Backend) 2).bind fun p6=>
        Xa9 (decide (([71,85,1]++p5).length+p6.length<2^63)) <|
        (XaW 0 1).bind fun p7=>
        Xa9 (decide ((([71,85,1]++p5)++p6).length+p7.length<2^63)) <|
        (XaW (wI .u64 c.Instance) 1).bind fun p8=>
        Xa9 (decide (((([71,85,1]++p5)++p6)++p7).length+p8.length<2^63)) <|
        let t1:=((([71,85,1]++p5)++p6)++p7)++p8
        Xa9 (decide (t1.length+2<2^63)) <|
        (XaW c.Cookie 8).bind fun p9=>
        Xa9 (decide ((t1++[0,0]).length+p9.length<2^63)) <|
        (Xde ((t1++[0,0])++p9)).bind fun xo1=>
        (Xci ((t1++[0,0])++p9) 8 2 (wI .u64 xo1)).bind fun s1=>
        Xa9 (decide (s1.length+inner.length<2^63)) <|
        some ((s1++inner,0))))
       (
       cond (c.First)
        (
        (XaW 4 1).bind fun p10=>
        Xa9 (decide (3+p10.length<2^63)) <|
        (XaW (wI .u64 c.Backend) 2).bind fun p11=>
        Xa9 (decide (([71,85,1]++p10).length+p11.length<2^63)) <|
        (XaW 1 1).bind fun p12=>
        Xa9 (decide ((([71,85,1]++p10)++p11).length+p12.length<2^63)) <|
        (XaW (wI .u64 c.Instance) 1).bind fun p13=>
        Xa9 (decide (((([71,85,1]++p10)++p11)++p12).length+p13.length<2^63)) <|
        let t2:=((([71,85,1]++p10)++p11)++p12)++p13
        Xa9 (decide (t2.length+2<2^63)) <|
        (XaW c.Cookie 8).bind fun p14=>
        Xa9 (decide ((t2++[0,0]).length+p14.length<2^63)) <|
        (Xde ((t2++[0,0])++p14)).bind fun xo2=>
        (Xci ((t2++[0,0])++p14) 8 2 (wI .u64 xo2)).bind fun s2=>
        Xa9 (decide (s2.length+inner.length<2^63)) <|
        some ((s2++inner,0)))
        (
        (XaW 4 1).bind fun p15=>
        Xa9 (decide (3+p15.length<2^63)) <|
        (XaW (wI .u64 c.Backend) 2).bind fun p16=>
        Xa9 (decide (([71,85,1]++p15).length+p16.length<2^63)) <|
        (XaW 0 1).bind fun p17=>
        Xa9 (decide ((([71,85,1]++p15)++p16).length+p17.length<2^63)) <|
        (XaW (wI .u64 c.Instance) 1).bind fun p18=>
        Xa9 (decide (((([71,85,1]++p15)++p16)++p17).length+p18.length<2^63)) <|
        let t3:=((([71,85,1]++p15)++p16)++p17)++p18
        Xa9 (decide (t3.length+2<2^63)) <|
        (XaW c.Cookie 8).bind fun p19=>
        Xa9 (decide ((t3++[0,0]).length+p19.length<2^63)) <|
        (Xde ((t3++[0,0])++p19)).bind fun xo3=>
        (Xci ((t3++[0,0])++p19) 8 2 (wI .u64 xo3)).bind fun s3=>
        Xa9 (decide (s3.length+inner.length<2^63)) <|
        some ((s3++inner,0)))))))))
def rx23 (x:(List UInt8)×Int):Xcu:=⟨.tuple ⟨[.string ⟨⟨x.1⟩⟩,.int .i64 x.2]⟩,[],[]⟩
abbrev XgG:=XaZ→(List UInt8)→Option ((List UInt8)×Int)
def r23 (g:XgG):Dec:=dV XiC fun (y0:XaZ)=>dV asS fun (y1:List UInt8)=>Xdm (ofG (g y0 y1) rx23)
theorem r23_c {g:XgG} {y0:XaZ} {y1:List UInt8} {x:(List UInt8)×Int} (hx:g y0 y1=some x):r23 g [.agg ⟨[.bool y0.V6,.int .i64 y0.Backend,.int .u64 y0.Cookie,.bool y0.First,.int .i64 y0.Instance]⟩,.string ⟨⟨y1⟩⟩] []=some (rx23 x):=(XaY (Xmq _)).trans ((XaY (XcY)).trans (XaX hx))
def s23 (g:XgG):Xbs:=⟨[.v,.v],r23 g⟩
theorem XNu {g:XgG} {y0:XaZ} {y1:List UInt8} {x:(List UInt8)×Int} (hx:g y0 y1=some x):(s23 g).run [.agg ⟨[.bool y0.V6,.int .i64 y0.Backend,.int .u64 y0.Cookie,.bool y0.First,.int .i64 y0.Instance]⟩,.string ⟨⟨y1⟩⟩] []=some (rx23 x):=r23_c hx
abbrev XRA (XaW:Xcc) (Xde:XeF) (Xci:XdL):List (Nat×Xbs):=[(46,s46 XaW),(48,s48 Xde),(47,s47 Xci)]
theorem XK2 (XaW:Xcc) (Xde:XeF) (Xci:XdL) (hS:Xal Tryz.prog (XaE (XRA XaW Xde Xci))) (c:XaZ) (inner:List UInt8) (res:(List UInt8)×Int) (h:XoC XaW Xde Xci c inner=some res) :
 XaK Tryz.prog 23 0 ⟨⟨23,64,[(0,.agg ⟨[.bool c.V6,.int .i64 c.Backend,.int .u64 c.Cookie,.bool c.First,.int .i64 c.Instance]⟩),(1,.string ⟨⟨inner⟩⟩)],[.code XF4],[],false,none⟩,[],[],0⟩ (fun v H _=>Res 0 (rx23 res) v H):=by
 unfold XoC at h
 have R1:=@XqR XaW
 have R2:=@Xxz Xde
 have R3:=@XAA Xci
 refine Xbg XaJ hS true 3000 ?_
 conv=>whnf
 exact W
def Xg4:XgG:=XoC XaW Xde Xci
theorem lift23:XbA Tryz.prog 23 (s23 Xg4):=by
 have hL:=XK2 XaW Xde Xci (Xal.XaV ⟨XqD,Xzu,Xyj,trivial⟩)
 exact okA ⟨Tryz.f23,rfl,by decide,rfl⟩
end Go.Vm.Code
namespace Go.Vm.Code
open Go Go.Vm
def C10 (c:XaZ):Prop:=(0≤c.Backend∧c.Backend≤65535)∧0≤c.Instance∧c.Instance≤255
instance (c:XaZ):Decidable (C10 c):=inferInstanceAs (Decidable (_∧_))
def kd (b:Bool):Nat:=cond b 41 4
def bt (b:Bool):Nat:=cond b 1 0
def hd0 (c:XaZ):List UInt8:=[71,85,1]++be (kd c.V6) 1++be c.Backend.toNat 2++be (bt c.First) 1++be c.Instance.toNat 1++be 0 2++be c.Cookie.toNat 8
theorem Xks (c:XaZ):(hd0 c).length=18:=by simp [hd0]
def hd (c:XaZ):List UInt8:=sset (hd0 c) 8 2 (65535 - norm (XcA (hd0 c)))
theorem Xy9 (c:XaZ):(hd c).length=18:=by unfold hd;rw [Xoa (by rw [Xks];omega),Xks]
def XpO (c:XaZ) (l:List UInt8):List UInt8×Int:=if ¬ C10 c then ([],1) else if l.length>9000 then ([],5) else (hd c++l,0)
theorem XQD (c:XaZ):XbU (hd0 c) 8 2 (wI .u64 (65535 - ((norm (XcA (hd0 c)):Nat):Int)))=some (hd c):=by
 have:=norm_le (XcA (hd0 c))
 rw [XjF (by omega) (by omega)]
 have h:=Xrz (s:=hd0 c) (p:=8) (k:=2) (n:=65535 - ((norm (XcA (hd0 c)):Nat):Int)) (by rw [Xks];omega) (by omega) (by omega) (by omega) (by rw [Xks];omega)
 have e:(65535 - ((norm (XcA (hd0 c)):Nat):Int)).toNat=65535 - norm (XcA (hd0 c)):=by omega
 rw [e] at h
 exact h
theorem XKi (c:XaZ):Xci (hd0 c) 8 2 (wI .u64 (65535 - ((norm (XcA (hd0 c)):Nat):Int)))=some (hd c):=by
 have:=norm_le (XcA (hd0 c))
 rw [←XQD c,XjF (by omega) (by omega),XFu (by rw [Xks];omega) (by omega),Xnd (by rw [Xks];omega) (by omega) (by omega)]
theorem Xy3 {c:XaZ} {l:List UInt8} (hc:0≤c.Cookie∧c.Cookie<2^64):Xg4 c l=some (XpO c l):=by
 unfold Xg4 XoC XpO
 by_cases h:C10 c
 ·rw [if_neg (by simpa using h)]
  obtain ⟨⟨a1,a2⟩,a3,a4⟩:=h
  rw [XaQ (by omega),XaQ (by omega),XaQ (by omega),XaQ (by omega)]
  by_cases h5:(l.length:Int)>9000
  ·rw [Xa2 h5,if_pos (by omega)]
  rw [XaQ h5,if_neg (by omega)]
  have eh:[71,85,1]++be (kd c.V6) 1++be c.Backend.toNat 2++be (bt c.First) 1++be c.Instance.toNat 1++[0,0]++be c.Cookie.toNat 8=hd0 c:=rfl
  rw [XjF (n:=c.Backend) (by omega) (by omega),XjF (n:=c.Instance) (by omega) (by omega)]
  simp (disch:=omega) only [Xem,Option.bind_some,Xd9]
  simp only [show (1:Int)≤1∧(1:Int)≤8 from by omega,show (1:Int)≤2∧(2:Int)≤8 from by omega,show (1:Int)≤8∧(8:Int)≤8 from by omega,and_self,if_true,show (1:Int).toNat=1 from rfl,show (2:Int).toNat=2 from rfl,show (8:Int).toNat=8 from rfl,show (0:Int).toNat=0 from rfl,show (41:Int).toNat=41 from rfl,show (4:Int).toNat=4 from rfl]
  cases hv:c.V6<;>cases hf:c.First<;>rw [hv,hf] at eh<;>simp only [kd,bt,cond_true,cond_false] at eh ⊢<;>rw [eh,XaC (by simp),XaC (by simp),XaC (by simp),XaC (by simp),XaC (by simp),XaC (by simp),XpU (by rw [Xks];omega),Option.bind_some,XKi,Option.bind_some,XaC (by rw [Xy9];omega)]
 ·rw [if_pos h]
  unfold C10 at h
  by_cases b1:c.Backend<0
  ·rw [Xa2 b1]
  rw [XaQ b1]
  by_cases b2:c.Backend>65535
  ·rw [Xa2 b2]
  rw [XaQ b2]
  by_cases b3:c.Instance<0
  ·rw [Xa2 b3]
  rw [XaQ b3,Xa2 (by omega)]
def XqS:XaZ:=⟨false,0,0,false,0⟩
def Xhu (s:List UInt8):XaZ×List UInt8×Int:=
 if s.length<18 then (XqS,[],2) else if s.take 3≠[71,85,1] then (XqS,[],3) else if b1 s 3≠4∧b1 s 3≠41 then (XqS,[],3) else if 1<b1 s 6 then (XqS,[],3) else
  if 9018<s.length then (XqS,[],5) else if norm (XcA (s.take 18))≠65535 then (XqS,[],4) else
   (⟨decide (b1 s 3=41),(XdH ((s.drop 4).take 2):Nat),(XdH ((s.drop 10).take 8):Nat),decide (b1 s 6=1),(b1 s 7:Nat)⟩,s.drop 18,0)
theorem XNc {s:List UInt8} (h:18≤s.length):strings_CutPrefix s [71,85,1]=some (if s.take 3=[71,85,1] then (s.drop 3,true) else (s,false)):=by
 unfold strings_CutPrefix Xft XaT XcB XaU XcF
 simp only [List.length_cons,List.length_nil]
 rw [Xa2 (by omega),XaC (by omega),Option.bind_some]
 by_cases h3:s.take 3=[71,85,1]
 ·have e:((s.take 3)==[71,85,1])=true:=by rw [beq_iff_eq];exact h3
  have et:(s.drop 3).take (s.length - 3)=s.drop 3:=List.take_of_length_le (by simp)
  show ((cond (!((s.take 3)==[71,85,1])) _ _:Option (List UInt8×Bool)).bind _)=_
  rw [e,Bool.not_true,cond_false,if_pos h3,XaC (by omega)]
  simp only [Nat.zero_add,Nat.reduceAdd,et,Option.bind_some]
 ·have e:((s.take 3)==[71,85,1])=false:=by rw [beq_eq_false_iff_ne];exact h3
  show ((cond (!((s.take 3)==[71,85,1])) _ _:Option (List UInt8×Bool)).bind _)=_
  rw [e,Bool.not_false,cond_true,if_neg h3];rfl
theorem XLF {s:List UInt8} (h:s.length<2^38):Xec s=some (Xhu s):=by
 unfold Xec Xod Xhu
 by_cases h1:s.length<18
 ·rw [Xa2 (by omega),if_pos h1];rfl
 rw [XaQ (by omega),if_neg h1,XNc (by omega),Option.bind_some]
 have i1:(if (1:Int)<1∨(1:Int)>7 then -1 else 1:Int)=1:=by decide
 have i2:(if (2:Int)<1∨(2:Int)>7 then -1 else 2:Int)=2:=by decide
 have i4:(if (4:Int)<1∨(4:Int)>7 then -1 else 4:Int)=4:=by decide
 by_cases h2:s.take 3=[71,85,1]
 ·rw [if_pos h2,if_neg (by simpa using h2)]
  simp only [XlK,Option.bind_some]
  have ld:(s.drop 3).length=s.length - 3:=by simp
  rw [Xds rfl (by simp only [];omega),Option.bind_some]
  simp only [rdn,i1]
  rw [Xf6 (by omega) (by omega),Xf7 (by omega) (by omega),show (1:Int).toNat=1 from rfl,List.drop_drop]
  rw [Xds rfl (by simp;omega),Option.bind_some]
  simp only [rdn,i2]
  rw [Xf6 (by omega) (by simp;omega),Xf7 (by omega) (by simp;omega),show (2:Int).toNat=2 from rfl,List.drop_drop]
  rw [Xds rfl (by simp;omega),Option.bind_some]
  simp only [rdn,i1]
  rw [Xf6 (by omega) (by simp;omega),Xf7 (by omega) (by simp;omega),show (1:Int).toNat=1 from rfl,List.drop_drop]
  rw [Xds rfl (by simp;omega),Option.bind_some]
  simp only [rdn,i1]
  rw [Xf6 (by omega) (by simp;omega),Xf7 (by omega) (by simp;omega),show (1:Int).toNat=1 from rfl,List.drop_drop]
  rw [Xds rfl (by simp;omega),Option.bind_some]
  simp only [rdn,i2]
  rw [Xf6 (by omega) (by simp;omega),show (2:Int).toNat=2 from rfl,List.drop_drop]
  rw [Xds rfl (by simp;omega),Option.bind_some]
  simp only [rdn,i4]
  rw [Xf6 (by omega) (by simp;omega),Xf7 (by omega) (by simp;omega),show (4:Int).toNat=4 from rfl,List.drop_drop]
  rw [Xds rfl (by simp;omega),Option.bind_some]
  simp only [rdn,i4]
  rw [Xf7 (by omega) (by simp;omega),show (4:Int).toNat=4 from rfl]
  simp only [Bool.not_true,cond_false,Nat.reduceAdd]
  have q3:XdH ((s.drop 3).take 1)=b1 s 3:=rfl
  have q6:XdH ((s.drop 6).take 1)=b1 s 6:=rfl
  have q7:XdH ((s.drop 7).take 1)=b1 s 7:=rfl
  rw [q3,q6,q7]
  have l3:=XAp s 3
  have va:XdH ((s.drop 10).take 4)<2^32:=Xc9 _ (by decide)
  have vb:XdH ((s.drop 14).take 4)<2^32:=Xc9 _ (by decide)
  have e8:XdH ((s.drop 10).take 8)=XdH ((s.drop 10).take 4)*2^32+XdH ((s.drop 14).take 4):=by
   have:(s.drop 10).take 8=(s.drop 10).take 4++(s.drop 14).take 4:=by
    rw [show s.drop 14=(s.drop 10).drop 4 by rw [List.drop_drop],←List.take_add]
   rw [this,val_append,show ((s.drop 14).take 4).length=4 by simp;omega]
  have ec:XuZ .u64 (wI .u64 ((wI .u64 ((XdH ((s.drop 10).take 4):Nat):Int))*2^32)) (wI .u64 ((XdH ((s.drop 14).take 4):Nat):Int))=((XdH ((s.drop 10).take 8):Nat):Int):=by
   rw [e8,XjF (n:=((XdH ((s.drop 10).take 4):Nat):Int)) (by omega) (by omega),XjF (n:=((XdH ((s.drop 14).take 4):Nat):Int)) (by omega) (by omega),XjF (n:=((XdH ((s.drop 10).take 4):Nat):Int)*2^32) (by omega) (by omega),XqF 32 (by omega) (by omega) (by omega) (by omega) (by omega)];omega
  rw [ec]
  have x1:(((b1 s 3:Nat):Int)==41)=decide (b1 s 3=41):=by rw [Bool.eq_iff_iff,beq_iff_eq,decide_eq_true_eq];omega
  have x2:(((b1 s 6:Nat):Int)==1)=decide (b1 s 6=1):=by rw [Bool.eq_iff_iff,beq_iff_eq,decide_eq_true_eq];omega
  rw [x1,x2]
  have ek:∀ b:Bool,Xgc b=some ((kd b:Nat):Int):=by intro b;cases b<;>rfl
  rw [ek,Option.bind_some]
  have xk:(((b1 s 3:Nat):Int) !=((kd (decide (b1 s 3=41)):Nat):Int))=decide (b1 s 3≠4∧b1 s 3≠41):=by
   rw [Bool.eq_iff_iff,bne_iff_ne,decide_eq_true_eq]
   by_cases h41:b1 s 3=41
   ·rw [decide_eq_true h41];simp only [kd,cond_true];omega
   ·rw [decide_eq_false h41];simp only [kd,cond_false];omega
  rw [xk]
  by_cases h4:b1 s 3≠4∧b1 s 3≠41
  ·rw [Xa2 h4,if_pos h4];rfl
  rw [XaQ h4,if_neg h4]
  by_cases h6:1<b1 s 6
  ·rw [Xa2 (by omega),if_pos h6];rfl
  rw [XaQ (by omega),if_neg h6]
  by_cases h9:9018<s.length
  ·rw [Xa2 (by omega),if_pos h9];rfl
  have et:(s.drop 18).take (s.length - 18)=s.drop 18:=List.take_of_length_le (by simp)
  rw [XaQ (by omega),if_neg h9,XaC (by omega),XoH (by simp;omega),Option.bind_some]
  have nl:=norm_le (XcA (s.take 18))
  by_cases hn:norm (XcA (s.take 18))≠65535
  ·have:(((norm (XcA (s.take 18)):Nat):Int)==65535)=false:=by rw [beq_eq_false_iff_ne];omega
   rw [this,Bool.not_false,cond_true,if_pos hn];rfl
  ·have:(((norm (XcA (s.take 18)):Nat):Int)==65535)=true:=by rw [beq_iff_eq];omega
   rw [this,Bool.not_true,cond_false,if_neg hn,XaC (by omega),et]
 ·rw [if_neg h2,if_pos h2]
  simp only [XlK,Option.bind_some]
  rw [Xds rfl (by simp only [];omega),Option.bind_some]
  simp only []
  have l1:=XfQ ⟨s,true,false⟩ (if (1:Int)<1∨(1:Int)>7 then -1 else 1)
  have m1:=XeD ⟨s,true,false⟩ (if (1:Int)<1∨(1:Int)>7 then -1 else 1)
  generalize rdr ⟨s,true,false⟩ (if (1:Int)<1∨(1:Int)>7 then -1 else 1)=r1 at *
  simp only at l1
  rw [Xds m1 (by omega),Option.bind_some]
  simp only []
  have l2:=XfQ r1 (if (2:Int)<1∨(2:Int)>7 then -1 else 2)
  have m2:=XeD r1 (if (2:Int)<1∨(2:Int)>7 then -1 else 2)
  generalize rdr r1 (if (2:Int)<1∨(2:Int)>7 then -1 else 2)=r2 at *
  rw [Xds m2 (by omega),Option.bind_some]
  simp only []
  have l3:=XfQ r2 (if (1:Int)<1∨(1:Int)>7 then -1 else 1)
  have m3:=XeD r2 (if (1:Int)<1∨(1:Int)>7 then -1 else 1)
  generalize rdr r2 (if (1:Int)<1∨(1:Int)>7 then -1 else 1)=r3 at *
  rw [Xds m3 (by omega),Option.bind_some]
  simp only []
  have l4:=XfQ r3 (if (1:Int)<1∨(1:Int)>7 then -1 else 1)
  have m4:=XeD r3 (if (1:Int)<1∨(1:Int)>7 then -1 else 1)
  generalize rdr r3 (if (1:Int)<1∨(1:Int)>7 then -1 else 1)=r4 at *
  rw [Xds m4 (by omega),Option.bind_some]
  simp only []
  have l5:=XfQ r4 (if (2:Int)<1∨(2:Int)>7 then -1 else 2)
  have m5:=XeD r4 (if (2:Int)<1∨(2:Int)>7 then -1 else 2)
  generalize rdr r4 (if (2:Int)<1∨(2:Int)>7 then -1 else 2)=r5 at *
  rw [Xds m5 (by omega),Option.bind_some]
  simp only []
  have l6:=XfQ r5 (if (4:Int)<1∨(4:Int)>7 then -1 else 4)
  have m6:=XeD r5 (if (4:Int)<1∨(4:Int)>7 then -1 else 4)
  generalize rdr r5 (if (4:Int)<1∨(4:Int)>7 then -1 else 4)=r6 at *
  rw [Xds m6 (by omega),Option.bind_some]
  rfl
theorem Xht {s s':List UInt8} {f m:Nat} (h:∀ k,f≤k→k<f+m→s'[k]?=s[k]?):(s'.drop f).take m=(s.drop f).take m:=by
 apply List.ext_getElem?
 intro x
 rw [List.getElem?_take,List.getElem?_take]
 split
 ·rw [List.getElem?_drop,List.getElem?_drop];exact h _ (by omega) (by omega)
 ·rfl
theorem XAy {s s':List UInt8} (hl:s'.length=s.length):∀ (n i:Nat) (out:List Xv1),(∀ k,i≤k→s'[k]?=s[k]?)→XfZ s' n i out=XfZ s n i out:=by
 intro n
 induction n using Nat.strongRecOn with
 | ind n ih=>
   intro i out hd
   cases n with
   | zero=>rw [XfZ,XfZ]
   | succ n=>
     rw [XfZ,XfZ,hd i (by omega),hd (i+1) (by omega),hl]
     cases s[i]? with
     | none=>rfl
     | some b=>
       simp only
       by_cases h0:b=0
       ·rw [if_pos h0,if_pos h0]
       rw [if_neg h0,if_neg h0]
       by_cases h1:b=1
       ·rw [if_pos h1,if_pos h1];exact ih n (by omega) _ _ (fun k hk=>hd k (by omega))
       rw [if_neg h1,if_neg h1]
       cases s[i+1]? with
       | none=>rfl
       | some k=>
         simp only
         by_cases h2:k.toNat<2
         ·rw [if_pos h2,if_pos h2]
         by_cases h3:s.length - i<k.toNat
         ·rw [if_neg h2,if_neg h2,if_pos h3,if_pos h3]
         rw [if_neg h2,if_neg h2,if_neg h3,if_neg h3,Xht (s:=s) (s':=s') (f:=i+2) (m:=k.toNat - 2) (fun x h _=>hd x (by omega))]
         exact ih _ (by omega) _ _ (fun x hx=>hd x (by omega))
theorem Xwj {s s':List UInt8} (hl:s'.length=s.length) {p q:Nat} (hp:p=q∨p=q+4) (hd:∀ k,(k<p∨p+4≤k)→s'[k]?=s[k]?):∀ (n i:Nat),(XfZ s n i []).2=0→(stL (XfZ s n i []).1).2.2=(q:Int) →
 (XfZ s' n i []).2=0∧stL (XfZ s' n i []).1=(vK s' q 4,vK s' (q+4) 4,(q:Int))∧stL (XfZ s n i []).1=(vK s q 4,vK s (q+4) 4,(q:Int))∧i+2≤q∧q+8≤s.length:=by
 intro n
 induction n using Nat.strongRecOn with
 | ind n ih=>
   intro i h2 hq
   have bad:(-1:Int)=(q:Int)→False:=by omega
   cases n with
   | zero=>rw [XfZ] at hq;exact absurd hq bad
   | succ n=>
     have e:∀ t:List UInt8,XfZ t (n+1) i []=match t[i]? with
      | none=>([],0)
      | some b=>if b=0 then ([],0) else if b=1 then XfZ t n (i+1) [] else match t[i+1]? with
        | none=>([],3)
        | some k=>if k.toNat<2 then ([],3) else if t.length - i<k.toNat then ([],3) else
           XfZ t (n+1 - k.toNat) (i+k.toNat) ([]++[⟨(b.toNat:Int),(t.drop (i+2)).take (k.toNat - 2),((i+2:Nat):Int)⟩]):=fun t=>by rw [XfZ];try (cases t[i]?<;>cases t[i+1]?<;>rfl)
     rw [e s] at h2 hq ⊢
     rw [e s']
     cases hb:s[i]? with
     | none=>rw [hb] at hq;exact absurd hq bad
     | some b=>
       rw [hb] at h2 hq
       simp only at h2 hq ⊢
       by_cases h0:b=0
       ·rw [if_pos h0] at hq;exact absurd hq bad
       rw [if_neg h0] at h2 hq ⊢
       by_cases h1:b=1
       ·rw [if_pos h1] at h2 hq ⊢
        obtain ⟨r1,r2,r3,r4,r5⟩:=ih n (by omega) (i+1) h2 hq
        rw [hd i (by omega),hb]
        simp only [h1]
        exact ⟨r1,r2,r3,by omega,r5⟩
       rw [if_neg h1] at h2 hq ⊢
       cases hk:s[i+1]? with
       | none=>rw [hk] at h2;exact absurd (show (3:Int)=0 from h2) (by decide)
       | some k=>
         rw [hk] at h2 hq
         simp only at h2 hq ⊢
         by_cases g2:k.toNat<2
         ·rw [if_pos g2] at h2;exact absurd h2 (by decide)
         by_cases g3:s.length - i<k.toNat
         ·rw [if_neg g2,if_pos g3] at h2;exact absurd h2 (by decide)
         rw [if_neg g2,if_neg g3] at h2 hq ⊢
         have eg:=fun t:List UInt8=>XkR t (n+1 - k.toNat) (i+k.toNat) ([]++[⟨(b.toNat:Int),(t.drop (i+2)).take (k.toNat - 2),((i+2:Nat):Int)⟩])
         have eg':=XkR s' (n+1 - k.toNat) (i+k.toNat) [⟨(b.toNat:Int),(s'.drop (i+2)).take (k.toNat - 2),((i+2:Nat):Int)⟩]
         rw [eg s] at h2 hq ⊢
         have hi:i<s.length:=by
          rcases Nat.lt_or_ge i s.length with h|h
          ·exact h
          ·rw [List.getElem?_eq_none h] at hb;cases hb
         by_cases hz:(XfZ s (n+1 - k.toNat) (i+k.toNat) []).2=0
         ·rw [if_pos hz] at h2 hq ⊢
          simp only [List.nil_append,List.cons_append] at hq ⊢
          by_cases g8:b.toNat=8
          ·
           have gl:((s.drop (i+2)).take (k.toNat - 2)).length=8∧q=i+2:=by
            unfold stL at hq
            rw [if_pos (show (b.toNat:Int)=8 by omega)] at hq
            by_cases gl:((s.drop (i+2)).take (k.toNat - 2)).length=8
            ·rw [if_pos gl] at hq;simp only at hq;exact ⟨gl,by omega⟩
            ·rw [if_neg gl] at hq;exact absurd hq bad
           obtain ⟨gl,gq⟩:=gl
           have gk:k.toNat=10:=by rw [List.length_take,List.length_drop] at gl;omega
           have gl':((s'.drop (i+2)).take (k.toNat - 2)).length=8:=by rw [List.length_take,List.length_drop,hl,←gl,List.length_take,List.length_drop]
           rw [hd i (by omega),hb,hd (i+1) (by omega),hk]
           simp only
           rw [if_neg h0,if_neg h1,if_neg g2,hl,if_neg g3,eg',XAy hl _ _ _ (fun x hx=>hd x (by omega)),if_pos hz]
           simp only [List.nil_append,List.cons_append]
           have vd:∀ (t:List UInt8) (x:Nat),x+4≤8→vK ((t.drop (i+2)).take (k.toNat - 2)) x 4=vK t (q+x) 4:=fun t x hx=>by
            rw [Xw5 (by omega),gq];exact (Xy2 rfl).symm
           refine ⟨trivial,?_,?_,by omega,by rw [List.length_take,List.length_drop] at gl;omega⟩
           ·unfold stL
            rw [if_pos (show (b.toNat:Int)=8 by omega),if_pos gl']
            simp only
            rw [vd s' 0 (by omega),vd s' 4 (by omega),gq]
           ·unfold stL
            rw [if_pos (show (b.toNat:Int)=8 by omega),if_pos gl]
            simp only
            rw [vd s 0 (by omega),vd s 4 (by omega),gq]
          ·have st:∀ (t:List UInt8) (l:List Xv1),stL (⟨(b.toNat:Int),(t.drop (i+2)).take (k.toNat - 2),((i+2:Nat):Int)⟩::l)=stL l:=fun t l=>by
            rw [stL,if_neg (show ¬ (b.toNat:Int)=8 by omega)]
           rw [st] at hq
           obtain ⟨r1,r2,r3,r4,r5⟩:=ih _ (by omega) (i+k.toNat) hz hq
           rw [hd i (by omega),hb,hd (i+1) (by omega),hk]
           simp only
           rw [if_neg h0,if_neg h1,if_neg g2,hl,if_neg g3,eg',if_pos r1]
           simp only [List.nil_append,List.cons_append,st]
           exact ⟨trivial,r2,r3,by omega,r5⟩
         ·rw [if_neg hz] at h2;exact absurd h2 (by decide)
theorem XwJ {s s':List UInt8} (hl:s'.length=s.length) {p q:Nat} (hp:p=q∨p=q+4) (hd:∀ k,(k<p∨p+4≤k)→s'[k]?=s[k]?) (h0:(Xjt s).2=0) (hq:(Xfs s).2.2=(q:Int)) :
 (Xjt s').2=0∧Xfs s'=(vK s' q 4,vK s' (q+4) 4,(q:Int))∧Xfs s=(vK s q 4,vK s (q+4) 4,(q:Int))∧2≤q∧q+8≤s.length:=by
 unfold Xjt Xfs at *
 unfold Xjt at *
 rw [hl]
 obtain ⟨r1,r2,r3,r4,r5⟩:=Xwj hl hp hd s.length 0 h0 hq
 exact ⟨r1,r2,r3,by omega,r5⟩
theorem XhZ {s t:List UInt8} {z p k:Nat} (h:t.take z=s.take z) (hk:p+k≤z):(t.drop p).take k=(s.drop p).take k:=by
 have e:∀ l:List UInt8,(l.drop p).take k=((l.take z).drop p).take k:=fun l=>by
  rw [List.drop_take,List.take_take,Nat.min_eq_left (by omega)]
 rw [e t,e s,h]
theorem XoS {s t:List UInt8} {z k:Nat} (h:t.take z=s.take z) (hk:k≤z):t.take k=s.take k:=by
 have:=XhZ (p:=0) (k:=k) h (by omega)
 simpa using this
theorem XiM {s b:List UInt8} (h:(Xaj s).err=0) (hb:b.length=(Xaj s).body.length):Xaj (s.take (Xaj s).size++b)=⟨(Xaj s).src,(Xaj s).dst,(Xaj s).proto,(Xaj s).size,b,0⟩∧(Xaj s).body=s.drop (Xaj s).size:=by
 have hlen:=XfB h
 generalize hz:(Xaj s).size=z at *
 have ht:(s.take z++b).take z=s.take z:=by
  rw [List.take_append_of_le_length (by rw [List.length_take];omega),List.take_take,Nat.min_self]
 have hdr:(s.take z++b).drop z=b:=List.drop_left' (by rw [List.length_take];omega)
 have hl:(s.take z++b).length=s.length:=by rw [List.length_append,List.length_take];omega
 generalize (s.take z++b)=t at *
 have hv:∀ p k,p+k≤z→vK t p k=vK s p k:=fun p k hk=>by unfold vK;rw [XhZ ht hk]
 unfold Xaj at *
 by_cases g1:vK s 0 1/16=4
 ·rw [if_pos g1] at h hz hb hlen ⊢
  by_cases g2:(XhN s).2.2≠0
  ·rw [if_pos g2] at h;exact absurd h g2
  rw [if_neg g2] at h hz hb hlen ⊢
  by_cases g3:s.length≠20+(XhN s).1.Options.length+(XhN s).2.1.length
  ·rw [if_pos g3] at h;exact absurd h (by decide)
  rw [if_neg g3] at hz hb hlen ⊢
  simp only at hz hb hlen ⊢
  have e5:∃ l5:Nat,(20≤l5∧l5≤s.length∧vK s 0 1%16*4=(l5:Int))∧z=l5∧XhN s=(⟨vK s 1 1,vK s 4 2,vK s 6 2 !=0,vK s 8 1,vK s 9 1,XwV s 12,XwV s 16,(s.drop 20).take (l5 - 20)⟩,(s.drop l5).take ((vK s 2 2).toNat - l5),0)∧XhN t=(⟨vK s 1 1,vK s 4 2,vK s 6 2 !=0,vK s 8 1,vK s 9 1,XwV s 12,XwV s 16,(s.drop 20).take (l5 - 20)⟩,(t.drop l5).take ((vK s 2 2).toNat - l5),0):=by
   have g2':(XhN s).2.2=0:=by simpa using g2
   have z20:20≤z:=by omega
   unfold XhN at g2' ⊢
   rw [hl,hv 0 1 (by omega),hv 2 2 (by omega),hv 6 2 (by omega),hv 1 1 (by omega),hv 4 2 (by omega),hv 8 1 (by omega),hv 9 1 (by omega)]
   have r0:=XeH s 0 1 256 (by decide)
   by_cases c0:s.length<20
   ·rw [if_pos c0] at g2';exact absurd g2' (by decide)
   by_cases c1:vK s 0 1/16≠4
   ·exact absurd g1 c1
   by_cases c2:vK s 0 1%16*4<20
   ·rw [if_neg c0,if_neg c1,if_pos c2] at g2';exact absurd g2' (by decide)
   by_cases c3:vK s 2 2<vK s 0 1%16*4
   ·rw [if_neg c0,if_neg c1,if_neg c2,if_pos c3] at g2';exact absurd g2' (by decide)
   by_cases c4:(s.length:Int)<vK s 2 2
   ·rw [if_neg c0,if_neg c1,if_neg c2,if_neg c3,if_pos c4] at g2';exact absurd g2' (by decide)
   have hzl:z=(vK s 0 1%16*4).toNat:=by
    rw [←hz]
    unfold XhN
    rw [if_neg c0,if_neg c1,if_neg c2,if_neg c3,if_neg c4]
    by_cases c5:norm (XcA (s.take (vK s 0 1%16*4).toNat))≠65535
    ·rw [if_neg c0,if_neg c1,if_neg c2,if_neg c3,if_neg c4,if_pos c5] at g2';exact absurd g2' (by decide)
    by_cases c6:vK s 6 2≠0∧vK s 6 2≠16384
    ·rw [if_neg c0,if_neg c1,if_neg c2,if_neg c3,if_neg c4,if_neg c5,if_pos c6] at g2';exact absurd g2' (by decide)
    rw [if_neg c5,if_neg c6]
    simp only [List.length_take,List.length_drop]
    omega
   refine ⟨(vK s 0 1%16*4).toNat,⟨by omega,by omega,by omega⟩,hzl,?_⟩
   rw [XoS ht (show (vK s 0 1%16*4).toNat≤z by omega)]
   by_cases c5:norm (XcA (s.take (vK s 0 1%16*4).toNat))≠65535
   ·rw [if_neg c0,if_neg c1,if_neg c2,if_neg c3,if_neg c4,if_pos c5] at g2';exact absurd g2' (by decide)
   by_cases c6:vK s 6 2≠0∧vK s 6 2≠16384
   ·rw [if_neg c0,if_neg c1,if_neg c2,if_neg c3,if_neg c4,if_neg c5,if_pos c6] at g2';exact absurd g2' (by decide)
   simp only [if_neg c0,if_neg c1,if_neg c2,if_neg c3,if_neg c4,if_neg c5,if_neg c6]
   have a4:∀ p,p+4≤z→XwV t p=XwV s p:=fun p hp=>by unfold XwV;rw [hv p 4 hp]
   rw [a4 12 (by omega),a4 16 (by omega),XhZ ht (show 20+((vK s 0 1%16*4).toNat - 20)≤z by omega)]
   exact ⟨trivial,rfl⟩
  obtain ⟨l5,⟨q1,q2,q3⟩,q4,q5,q6⟩:=e5
  subst q4
  rw [hv 0 1 (by omega),if_pos g1]
  rw [q5] at g3 hb hlen ⊢
  rw [q6]
  simp only at hb hlen g3 ⊢
  have hfull:(s.drop z).take ((vK s 2 2).toNat - z)=s.drop z:=List.take_of_length_le (by
   have:(s.drop z).length=s.length - z:=List.length_drop
   rw [List.length_take] at hlen
   omega)
  rw [hfull] at hb g3 ⊢
  have hfb:(t.drop z).take ((vK s 2 2).toNat - z)=b:=by
   rw [hdr]
   refine List.take_of_length_le ?_
   rw [hfull] at hlen
   have:(s.drop z).length=s.length - z:=List.length_drop
   have h3:=congrArg List.length hfull
   rw [List.length_take] at h3
   omega
  rw [hfb,hl,if_neg (by simp),if_neg (by rw [hb];exact g3)]
  refine ⟨?_,rfl⟩
  have:20+((s.drop 20).take (z - 20)).length=z:=by rw [List.length_take,List.length_drop];omega
  rw [this]
 ·rw [if_neg g1] at h hz hb hlen ⊢
  by_cases g4:vK s 0 1/16=6
  ·rw [if_pos g4] at h hz hb hlen ⊢
   by_cases g2:(Xjd s).2.2≠0
   ·rw [if_pos g2] at h;exact absurd h g2
   rw [if_neg g2] at h hz hb hlen ⊢
   by_cases g3:s.length≠40+(Xjd s).2.1.length
   ·rw [if_pos g3] at h;exact absurd h (by decide)
   rw [if_neg g3] at hz hb hlen ⊢
   simp only at hz hb hlen ⊢
   subst hz
   have g2':(Xjd s).2.2=0:=by simpa using g2
   have k6:Xjd s=(Xq8 s,(s.drop 40).take (XdH ((s.drop 4).take 2)),0)∧Xjd t=(Xq8 s,(t.drop 40).take (XdH ((s.drop 4).take 2)),0):=by
    unfold Xjd at g2' ⊢
    rw [hl,XoS ht (show 4≤40 by decide),XhZ (p:=4) (k:=2) ht (by decide)]
    by_cases c0:s.length<40
    ·rw [if_pos c0] at g2';exact absurd g2' (by decide)
    by_cases c1:XdH (s.take 4)/2^28≠6
    ·rw [if_neg c0,if_pos c1] at g2';exact absurd g2' (by decide)
    by_cases c2:s.length - 40<XdH ((s.drop 4).take 2)
    ·rw [if_neg c0,if_neg c1,if_pos c2] at g2';exact absurd g2' (by decide)
    rw [if_neg c0,if_neg c1,if_neg c2,if_neg c0,if_neg c1,if_neg c2]
    have hh:Xq8 t=Xq8 s:=by
     unfold Xq8
     rw [XoS ht (show 4≤40 by decide),XhZ (p:=6) (k:=1) ht (by decide),XhZ (p:=7) (k:=1) ht (by decide),XhZ (p:=8) (k:=16) ht (by decide),XhZ (p:=24) (k:=16) ht (by decide)]
    rw [hh]
    exact ⟨rfl,rfl⟩
   obtain ⟨k1,k2⟩:=k6
   rw [hv 0 1 (by omega),if_neg g1,if_pos g4]
   rw [k1] at g3 hb hlen ⊢
   rw [k2]
   simp only at hb hlen g3 ⊢
   have d40:(s.drop 40).length=s.length - 40:=List.length_drop
   have hfull:(s.drop 40).take (XdH ((s.drop 4).take 2))=s.drop 40:=List.take_of_length_le (by
    rw [List.length_take] at hlen;omega)
   have h3:=congrArg List.length hfull
   rw [List.length_take] at h3
   rw [hfull] at hb g3 ⊢
   have hfb:(t.drop 40).take (XdH ((s.drop 4).take 2))=b:=by
    rw [hdr]
    exact List.take_of_length_le (by omega)
   rw [hfb,hl,if_neg (by simp),if_neg (by rw [hb];exact g3)]
   exact ⟨rfl,rfl⟩
  ·rw [if_neg g4] at h;exact absurd h (by decide)
theorem Xnj:∀ a:List UInt8,XcA a=0→XM1 a=true
 | [],_=>rfl
 | [x],h=>by
   have:x.toNat=0:=by rw [XcA] at h;omega
   have e:x=0:=UInt8.toNat_inj.1 this
   subst e;rfl
 | x::y::a,h=>by
   rw [XcA] at h
   have ex:x=0:=UInt8.toNat_inj.1 (show x.toNat=0 by omega)
   have ey:y=0:=UInt8.toNat_inj.1 (show y.toNat=0 by omega)
   have:=Xnj a (by omega)
   subst ex ey
   exact this
theorem XNq {b:List UInt8} {p:Nat} (hp:p<b.length) (h:0<vK b p 1):XcA b≠0:=by
 intro e
 have hz:=Xnj b e
 unfold XM1 at hz
 rw [List.all_eq_true] at hz
 have:=hz b[p] (List.getElem_mem hp)
 have e0:b[p]=0:=by simpa using this
 rw [Xkg hp,e0] at h
 exact absurd h (by decide)
def n7 (b:List UInt8):Nat:=(4*(vK b 12 1/16)).toNat - 20
def hd7 (b:List UInt8) (o:List UInt8):XaI:=⟨vK b 0 2,vK b 2 2,vK b 4 4,vK b 8 4,vK b 13 1,vK b 14 2,vK b 18 2,o⟩
theorem XtB {b:List UInt8} {src dst:Xab} (h:(XgQ b src dst).2.2=0):20≤b.length∧5≤vK b 12 1/16∧20+n7 b≤b.length∧(Xjt ((b.drop 20).take (n7 b))).2=0∧XgQ b src dst=(hd7 b ((b.drop 20).take (n7 b)),b.drop (20+n7 b),0):=by
 unfold XgQ at h ⊢
 by_cases g0:b.length<20
 ·rw [if_pos g0] at h;exact absurd h (by decide)
 by_cases g1:4*(vK b 12 1/16)<20
 ·rw [if_neg g0,if_pos g1] at h;exact absurd h (by decide)
 by_cases g2:vK b 12 1%16≠0
 ·rw [if_neg g0,if_neg g1,if_pos g2] at h;exact absurd h (by decide)
 by_cases g3:(b.length:Int)<4*(vK b 12 1/16)
 ·rw [if_neg g0,if_neg g1,if_neg g2,if_pos g3] at h;exact absurd h (by decide)
 by_cases g4:XjP src dst 6 b.length=[]
 ·rw [if_neg g0,if_neg g1,if_neg g2,if_neg g3,if_pos g4] at h;exact absurd h (by decide)
 by_cases g5:norm (XcA (XjP src dst 6 b.length++b))≠65535
 ·rw [if_neg g0,if_neg g1,if_neg g2,if_neg g3,if_neg g4,if_pos g5] at h;exact absurd h (by decide)
 by_cases g6:(Xjt ((b.drop 20).take ((4*(vK b 12 1/16)).toNat - 20))).2≠0
 ·rw [if_neg g0,if_neg g1,if_neg g2,if_neg g3,if_neg g4,if_neg g5,if_pos g6] at h;exact absurd h g6
 rw [if_neg g0,if_neg g1,if_neg g2,if_neg g3,if_neg g4,if_neg g5,if_neg g6]
 refine ⟨by omega,by omega,by unfold n7;omega,by unfold n7;simpa using g6,?_⟩
 unfold hd7 n7
 rw [show 20+((4*(vK b 12 1/16)).toNat - 20)=(4*(vK b 12 1/16)).toNat by omega]
theorem Xw1 {b b':List UInt8} {src dst:Xab} (hlen:b'.length=b.length) (h:(XgQ b src dst).2.2=0) (hd:∀ k,k<20→k≠16→k≠17→b'[k]?=b[k]?) (hs:XcA b'%65535=XcA b%65535) (ho:(Xjt ((b'.drop 20).take (n7 b))).2=0):XgQ b' src dst=(hd7 b ((b'.drop 20).take (n7 b)),b'.drop (20+n7 b),0):=by
 obtain ⟨l20,v5,ln,_,_⟩:=XtB h
 have hv:∀ p k,(p+k≤16∨18≤p∧p+k≤20)→vK b' p k=vK b p k:=fun p k hk=>by
  unfold vK;rw [Xht (fun x h1 h2=>hd x (by omega) (by omega) (by omega))]
 have hnz:XcA b'≠0:=XNq (p:=12) (by omega) (by rw [hv 12 1 (by omega)];omega)
 unfold XgQ at h ⊢
 rw [hlen,hv 12 1 (by omega),hv 0 2 (by omega),hv 2 2 (by omega),hv 4 4 (by omega),hv 8 4 (by omega),hv 13 1 (by omega),hv 14 2 (by omega),hv 18 2 (by omega)]
 by_cases g0:b.length<20
 ·rw [if_pos g0] at h;exact absurd h (by decide)
 by_cases g1:4*(vK b 12 1/16)<20
 ·rw [if_neg g0,if_pos g1] at h;exact absurd h (by decide)
 by_cases g2:vK b 12 1%16≠0
 ·rw [if_neg g0,if_neg g1,if_pos g2] at h;exact absurd h (by decide)
 by_cases g3:(b.length:Int)<4*(vK b 12 1/16)
 ·rw [if_neg g0,if_neg g1,if_neg g2,if_pos g3] at h;exact absurd h (by decide)
 by_cases g4:XjP src dst 6 b.length=[]
 ·rw [if_neg g0,if_neg g1,if_neg g2,if_neg g3,if_pos g4] at h;exact absurd h (by decide)
 by_cases g5:norm (XcA (XjP src dst 6 b.length++b))≠65535
 ·rw [if_neg g0,if_neg g1,if_neg g2,if_neg g3,if_neg g4,if_pos g5] at h;exact absurd h (by decide)
 have g5':¬ norm (XcA (XjP src dst 6 b.length++b'))≠65535:=by
  have m:=XhO (XcA (XjP src dst 6 b.length++b))
  rw [Decidable.not_not.1 g5] at m
  rw [XcJ _ _ (XpR _ _ _ _)] at m ⊢
  rw [Xg6 (by omega) (by omega)]
  simp
 rw [if_neg g0,if_neg g1,if_neg g2,if_neg g3,if_neg g4,if_neg g5',if_neg (by unfold n7 at ho;simpa using ho)]
 unfold hd7 n7
 rw [show 20+((4*(vK b 12 1/16)).toNat - 20)=(4*(vK b 12 1/16)).toNat by omega]
theorem XhI {s:List UInt8} (h:(Xax s).2.2.2=0) (hs:(Xax s).1.Stamped=true):(Xaj s).err=0∧(Xaj s).proto=6∧s.length≤9000∧s≠[]∧(XgQ (Xaj s).body (Xaj s).src (Xaj s).dst).2.2=0 ∧
 0≤(Xfs (XgQ (Xaj s).body (Xaj s).src (Xaj s).dst).1.Options).2.2∧Xax s=((Xfo (Xaj s) s.length).1,s.length - (Xaj s).body.length,s.length - (Xfo (Xaj s) s.length).2.1,0):=by
 unfold Xax at h hs ⊢
 by_cases g1:9000<s.length
 ·rw [if_pos g1] at h;exact absurd h (by decide)
 by_cases g2:s=[]
 ·rw [if_neg g1,if_pos g2] at h;exact absurd h (by decide)
 by_cases g3:(Xaj s).err≠0
 ·rw [if_neg g1,if_neg g2,if_pos g3] at h;exact absurd h g3
 by_cases g4:(Xfo (Xaj s) s.length).2.2≠0
 ·rw [if_neg g1,if_neg g2,if_neg g3,if_pos g4] at h;exact absurd h g4
 rw [if_neg g1,if_neg g2,if_neg g3,if_neg g4] at hs ⊢
 simp only at hs
 have hin:(Xaj s).proto=6∧(XgQ (Xaj s).body (Xaj s).src (Xaj s).dst).2.2=0∧0≤(Xfs (XgQ (Xaj s).body (Xaj s).src (Xaj s).dst).1.Options).2.2:=by
  unfold Xfo at hs
  by_cases p6:(Xaj s).proto=6
  ·rw [if_pos p6] at hs
   by_cases e7:(XgQ (Xaj s).body (Xaj s).src (Xaj s).dst).2.2≠0
   ·rw [if_pos e7] at hs;exact absurd hs (by simp [zP])
   rw [if_neg e7] at hs
   simp only at hs
   unfold Xr0 at hs
   by_cases e8:0≤(Xfs (XgQ (Xaj s).body (Xaj s).src (Xaj s).dst).1.Options).2.2
   ·exact ⟨p6,by simpa using e7,e8⟩
   ·rw [if_neg e8] at hs;exact absurd hs (by decide)
  ·rw [if_neg p6] at hs
   by_cases p17:(Xaj s).proto=17
   ·rw [if_pos p17] at hs
    split at hs
    ·exact absurd hs (by simp [zP])
    split at hs
    ·exact absurd hs (by simp [zP])
    ·exact absurd hs (by simp)
   ·rw [if_neg p17] at hs;exact absurd hs (by decide)
 exact ⟨by simpa using g3,hin.1,by omega,g2,hin.2.1,hin.2.2,rfl⟩
theorem Xlf {s b':List UInt8} {p q:Nat} (h:(Xax s).2.2.2=0) (hs:(Xax s).1.Stamped=true) (hq:(Xfs (XgQ (Xaj s).body (Xaj s).src (Xaj s).dst).1.Options).2.2=(q:Int)) (hp:p=q∨p=q+4) (hlen:b'.length=(Xaj s).body.length)
 (hd:∀ k,k≠16→k≠17→(k<20+p∨20+p+4≤k)→b'[k]?=(Xaj s).body[k]?) (hw:XcA b'%65535=XcA (Xaj s).body%65535) :
 Xax (s.take (Xaj s).size++b')=({(Xax s).1 with Val:=vK b' (20+q) 4,Echo:=vK b' (20+(q+4)) 4},(Xax s).2.1,(Xax s).2.2.1,0)∧(Xax s).1.Val=vK (Xaj s).body (20+q) 4∧(Xax s).1.Echo=vK (Xaj s).body (20+(q+4)) 4∧q+28≤(Xaj s).body.length:=by
 obtain ⟨k1,k2,k3,k4,k5,k6,k7⟩:=XhI h hs
 obtain ⟨sw1,sw2⟩:=XiM k1 hlen
 have hbl:=XfB k1
 obtain ⟨l20,v5,ln,o7,g7⟩:=XtB k5
 have eo:(XgQ (Xaj s).body (Xaj s).src (Xaj s).dst).1.Options=((Xaj s).body.drop 20).take (n7 (Xaj s).body):=by rw [g7];rfl
 rw [eo] at hq k6
 generalize hB:(Xaj s).body=B at *
 have hol:((b'.drop 20).take (n7 B)).length=((B.drop 20).take (n7 B)).length:=by simp only [List.length_take,List.length_drop,hlen]
 have hod:∀ k,(k<p∨p+4≤k)→((b'.drop 20).take (n7 B))[k]?=((B.drop 20).take (n7 B))[k]?:=fun k hk=>by
  rw [List.getElem?_take,List.getElem?_take]
  split
  ·rw [List.getElem?_drop,List.getElem?_drop];exact hd _ (by omega) (by omega) (by omega)
  ·rfl
 obtain ⟨r1,r2,r3,r4,r5⟩:=XwJ hol hp hod o7 hq
 have hon:((B.drop 20).take (n7 B)).length≤n7 B:=by rw [List.length_take];omega
 have hon2:((B.drop 20).take (n7 B)).length+20≤B.length:=by rw [List.length_take,List.length_drop];omega
 have vo:∀ (b:List UInt8) (x:Nat),x+4≤n7 B→vK ((b.drop 20).take (n7 B)) x 4=vK b (20+x) 4:=fun b x hx=>by rw [Xw5 hx];exact (Xy2 rfl).symm
 have g7':=Xw1 (b:=B) (b':=b') (src:=(Xaj s).src) (dst:=(Xaj s).dst) hlen k5 (fun k h1 h2 h3=>hd k h2 h3 (by omega)) hw r1
 have st:Xr0 ((B.drop 20).take (n7 B))=(true,vK B (20+q) 4,vK B (20+(q+4)) 4):=by
  unfold Xr0
  rw [r3,if_pos (by simp only;omega),vo B q (by omega),vo B (q+4) (by omega)]
 have st':Xr0 ((b'.drop 20).take (n7 B))=(true,vK b' (20+q) 4,vK b' (20+(q+4)) 4):=by
  unfold Xr0
  rw [r2,if_pos (by simp only;omega),vo b' q (by omega),vo b' (q+4) (by omega)]
 have in0:Xfo (Xaj s) s.length=(⟨⟨(Xaj s).proto,(Xaj s).src,(Xaj s).dst,vK B 0 2,vK B 2 2⟩,vK B 13 1,true,vK B (20+q) 4,vK B (20+(q+4)) 4,false,[],s.length⟩,(B.drop (20+n7 B)).length,0):=by
  unfold Xfo
  rw [if_pos k2,hB,g7]
  simp only [hd7,st]
  rw [if_neg (by simp)]
 have hz:(s.take (Xaj s).size++b').length=s.length:=by rw [List.length_append,List.length_take];omega
 generalize (s.take (Xaj s).size++b')=t at *
 have in1:Xfo (Xaj t) t.length=(⟨⟨(Xaj s).proto,(Xaj s).src,(Xaj s).dst,vK B 0 2,vK B 2 2⟩,vK B 13 1,true,vK b' (20+q) 4,vK b' (20+(q+4)) 4,false,[],s.length⟩,(B.drop (20+n7 B)).length,0):=by
  unfold Xfo
  rw [sw1,hz]
  simp only
  rw [if_pos k2,g7']
  simp only [hd7,st']
  rw [if_neg (by simp),List.length_drop,List.length_drop,hlen]
 rw [k7,in0]
 simp only
 refine ⟨?_,trivial,trivial,by omega⟩
 unfold Xax
 rw [if_neg (by omega),if_neg (by intro e;rw [e] at hz;exact k4 (List.eq_nil_of_length_eq_zero (by simpa using hz.symm))),in1,sw1]
 simp only [ne_eq,not_true,if_false,hz,hlen]
end Go.Vm.Code
namespace Go.Vm.Code
open Go Go.Vm Go.Proofs
set_option maxRecDepth 100000
set_option maxHeartbeats 4000000
set_option linter.unusedVariables false
def Xgt (l:List Int) (t7:Int):Option (Sum Int Bool):=
 cond (decide (t7<(l.length:Int)))
  (
  Xa9 (decide ((0:Int)≤t7∧t7<(l.length:Int))) <|
  (l[t7.toNat]?).bind fun (e:Int)=>
  cond (decide (e<0))
   (
   some (.inr (false)))
   (
   cond (decide (e>65535))
    (
    some (.inr (false)))
    (
    some (.inl (wI .i64 (t7+1))))))
  (
  some (.inr (true)))
def Xla (l:List Int):Option Bool:=
 iter (fun st=>Xgt l st) FUEL 0
def Xwh (x:Bool):Xcu:=⟨.bool x,[],[none]⟩
abbrev Xe2:=(List Int)→Option Bool
def r134 (g:Xe2):Dec:=dSl 0 1 (unL (asI .i64)) fun (y0:List Int)=>Xdm (ofG (g y0) Xwh)
theorem XRi {g:Xe2} {y0:List Int} {x:Bool} (hx:g y0=some x):r134 g [.slice (some ⟨0,0,none⟩) y0.length 1] [some (vI .i64 y0)]=some (Xwh x):=(Xzi (Xx1 _ _)).trans (XaX hx)
def s134 (g:Xe2):Xbs:=⟨[.sl 1],r134 g⟩
theorem XLJ {g:Xe2} {y0:List Int} {x:Bool} (hx:g y0=some x):(s134 g).run [.slice (some ⟨0,0,none⟩) y0.length 1] [some (vI .i64 y0)]=some (Xwh x):=XRi hx
abbrev Xya:List (Nat×Xbs):=[]
def XkD (l:List Int) (t7:Int):VM:=
 ⟨⟨134,18,[(5,.slice (some ⟨0,0,none⟩) l.length 1),(6,.int .i64 (l.length:Int)),(7,.int .i64 t7)],[.code XtS,.inLoop XtS,.inBlock 0,.code XyM],[],false,none⟩,[],[(0,.row false (vI .i64 l))],1⟩
theorem XxQ (hS:Xal Tryz.prog (XaE (Xya))) (l:List Int) (res:Bool):∀ fuel (st:Int) (o:Bool),iter (fun st=>Xgt l st) fuel st=some o→(o=res) →
 XaK Tryz.prog 134 1 (XkD l st) (fun v H _=>Res 1 (Xwh res) v H):=by
 intro fuel st o h hc
 refine XcZ (head:=fun st=>XkD l st) (C:=fun o=>(o=res)) ?_ fuel st o h hc
 clear h hc o st fuel
 intro t7 o h hc
 replace h:Xgt l t7=some o:=h
 show XaK Tryz.prog 134 1 (XkD l t7) (fun v H _=>Res 1 (Xwh res) v H)
 unfold Xgt at h
 refine Xbg XaJ hS true 3000 ?_
 conv=>whnf
 refine br.h2 h (by rfl) ?_ ?_
 ·clear h;intro hb h;conv=>whnf
  exact W
 clear h;intro hb h;conv=>whnf
 replace h:=Xa9.elim h;obtain ⟨hb,h⟩:=h
 try (refine req.intro hb ?_;conv=>whnf)
 replace h:=Xdv.elim h;obtain ⟨e,hy,h⟩:=h
 refine rd.I hy (by first|rfl|(rw [Nat.zero_add,Nat.mul_one];try rfl;done)|omega) ?_
 conv=>whnf
 refine br.h h (by rfl) ?_ ?_
 ·clear h;intro hb h;conv=>whnf
  exact W
 clear h;intro hb h;conv=>whnf
 refine br.h h (by rfl) ?_ ?_
 ·clear h;intro hb h;conv=>whnf
  exact W
 clear h;intro hb h;conv=>whnf
 cases h;simp only [Sum.elim_inl,XkD] at hc
 exact Xn0 hc [(0,0)] rfl
theorem XDb (hS:Xal Tryz.prog (XaE (Xya))) (l:List Int) (res:Bool) (h:Xla l=some res) :
 XaK Tryz.prog 134 1 ⟨⟨134,18,[(0,.slice (some ⟨0,0,none⟩) l.length 1)],[.code XAE],[],false,none⟩,[],[(0,.row false (vI .i64 l))],1⟩ (fun v H _=>Res 1 (Xwh res) v H):=by
 unfold Xla at h
 refine Xbg XaJ hS true 3000 ?_
 conv=>whnf
 have hl:=XxQ hS _ res _ _ _ h rfl;simp only [XkD] at hl
 exact Xn0 hl [(0,0)] rfl
def XeS:Xe2:=Xla
theorem XGW:XbA Tryz.prog 134 (s134 XeS):=by
 have hL:=XDb (Xal.XaV trivial)
 exact okA ⟨Tryz.f134,rfl,by decide,rfl⟩
def XjN (Xby:XcD) (XeS:Xe2) (check:Int) (froma1:Int) (to:Int):Option Int:=
 (XeS [check,froma1,to]).bind fun m=>
 cond (!m)
  (
  some (0))
  (
  let t:=wI .i64 ((wI .i64 (65535 - check))+65535)
  (Xby (wI .i64 ((wI .i64 (t - froma1))+to))).bind fun f=>
  some (wI .i64 (65535 - f)))
def XEp (x:Int):Xcu:=⟨.int .i64 x,[],[]⟩
abbrev Xdx:=Int→Int→Int→Option Int
def r122 (g:Xdx):Dec:=dV (asI .i64) fun (y0:Int)=>dV (asI .i64) fun (y1:Int)=>dV (asI .i64) fun (y2:Int)=>Xdm (ofG (g y0 y1 y2) XEp)
theorem XQC {g:Xdx} {y0:Int} {y1:Int} {y2:Int} {x:Int} (hx:g y0 y1 y2=some x):r122 g [.int .i64 y0,.int .i64 y1,.int .i64 y2] []=some (XEp x):=(XaY (Xc2 _)).trans ((XaY (Xc2 _)).trans ((XaY (Xc2 _)).trans (XaX hx)))
def s122 (g:Xdx):Xbs:=⟨[.v,.v,.v],r122 g⟩
theorem XyH {g:Xdx} {y0:Int} {y1:Int} {y2:Int} {x:Int} (hx:g y0 y1 y2=some x):(s122 g).run [.int .i64 y0,.int .i64 y1,.int .i64 y2] []=some (XEp x):=XQC hx
abbrev XKH (Xby:XcD) (XeS:Xe2):List (Nat×Xbs):=[(115,s115 Xby),(134,s134 XeS)]
theorem XCu (Xby:XcD) (XeS:Xe2) (hS:Xal Tryz.prog (XaE (XKH Xby XeS))) (check:Int) (froma1:Int) (to:Int) (res:Int) (h:XjN Xby XeS check froma1 to=some res) :
 XaK Tryz.prog 122 0 ⟨⟨122,22,[(0,.int .i64 check),(1,.int .i64 froma1),(2,.int .i64 to)],[.code XGu],[],false,none⟩,[],[],0⟩ (fun v H _=>Res 0 (XEp res) v H):=by
 unfold XjN at h
 have R1:=@XLJ XeS
 have R2:=@Xtr Xby
 refine Xbg XaJ hS true 3000 ?_
 conv=>whnf
 exact W
def Xcn:Xdx:=XjN Xby XeS
theorem XLl:XbA Tryz.prog 122 (s122 Xcn):=by
 have hL:=XCu Xby XeS (Xal.XaV ⟨Xzk,XGW,trivial⟩)
 exact okA ⟨Tryz.f122,rfl,by decide,rfl⟩
def XeT (Xcn:Xdx) (Xaw:Xbk) (froma1:List UInt8) (to:List UInt8) (xat:Int) (check1:Int) (xat1:Int):Option (Sum (Int×Int×Int) Int):=
 cond (decide (xat<(froma1.length:Int)))
  (
  Xa9 (decide (0≤xat)) <|
  (froma1[xat.toNat]?).bind fun (b:UInt8)=>
  let t2:=wI .i64 ((wI .i64 (b.toNat:Int))*2^8)
  let t3:=decide ((wI .i64 (xat+1))<(froma1.length:Int))
  cond (t3)
   (
   Xa9 (decide (0≤(wI .i64 (xat+1)))) <|
   (froma1[(wI .i64 (xat+1)).toNat]?).bind fun (b1:UInt8)=>
   (Xaw to xat1 2).bind fun xg=>
   (Xcn check1 (XuZ .i64 t2 (wI .i64 (b1.toNat:Int))) (wI .i64 xg.1)).bind fun t4=>
   some (.inl (wI .i64 (xat+2),t4,wI .i64 (xat1+2))))
   (
   (Xaw to xat1 2).bind fun xg1=>
   (Xcn check1 t2 (wI .i64 xg1.1)).bind fun t5=>
   some (.inl (wI .i64 (xat+2),t5,wI .i64 (xat1+2)))))
  (
  some (.inr (check1)))
def Xii (Xcn:Xdx) (Xaw:Xbk) (check:Int) (froma1:List UInt8) (to:List UInt8):Option Int:=
 let t:=(froma1.length:Int) !=(to.length:Int)
 cond (t)
  (
  some (check))
  (
  let t1:=decide (((froma1.length:Int).tmod 2)>0)
  cond (t1)
   (
   some (check))
   (
   iter (fun st=>XeT Xcn Xaw froma1 to st.1 st.2.1 st.2.2) FUEL (0,check,0)))
def XMm (x:Int):Xcu:=⟨.int .i64 x,[],[]⟩
abbrev XdE:=Int→(List UInt8)→(List UInt8)→Option Int
def r99 (g:XdE):Dec:=dV (asI .i64) fun (y0:Int)=>dV asS fun (y1:List UInt8)=>dV asS fun (y2:List UInt8)=>Xdm (ofG (g y0 y1 y2) XMm)
theorem r99_c {g:XdE} {y0:Int} {y1:List UInt8} {y2:List UInt8} {x:Int} (hx:g y0 y1 y2=some x):r99 g [.int .i64 y0,.string ⟨⟨y1⟩⟩,.string ⟨⟨y2⟩⟩] []=some (XMm x):=(XaY (Xc2 _)).trans ((XaY (XcY)).trans ((XaY (XcY)).trans (XaX hx)))
def s99 (g:XdE):Xbs:=⟨[.v,.v,.v],r99 g⟩
theorem XNU {g:XdE} {y0:Int} {y1:List UInt8} {y2:List UInt8} {x:Int} (hx:g y0 y1 y2=some x):(s99 g).run [.int .i64 y0,.string ⟨⟨y1⟩⟩,.string ⟨⟨y2⟩⟩] []=some (XMm x):=r99_c hx
abbrev XGN (Xcn:Xdx) (Xaw:Xbk):List (Nat×Xbs):=[(122,s122 Xcn),(69,s69 Xaw)]
def Xk3 (froma1:List UInt8) (to:List UInt8) (xat:Int) (check1:Int) (xat1:Int):VM:=
 ⟨⟨128,32,[(0,.func (.yield 5) #[] #[]),(1,.pointer (some ⟨3,0,none⟩)),(3,.int .i64 xat)],[.code XpT,.inLoop XpT,.inBlock 0],[],false,none⟩,[⟨99,40,[(3,.pointer (some ⟨0,0,none⟩))],[.inRangeFunc 5,.inBlock 0,.code XGw],[4],false,none⟩],[(0,.cells [.int .i64 check1]),(1,.cells [.string ⟨⟨to⟩⟩]),(2,.cells [.int .i64 xat1]),(3,.cells [.string ⟨⟨froma1⟩⟩]),(4,.marks),(5,.loop ⟨.ready,none,99,40,[(3,.pointer (some ⟨0,0,none⟩)),(5,.pointer (some ⟨1,0,none⟩)),(7,.pointer (some ⟨2,0,none⟩))],[25],XRu,XFJ,4⟩)],6⟩
theorem XBL (Xcn:Xdx) (Xaw:Xbk) (hS:Xal Tryz.prog (XaE (XGN Xcn Xaw))) (froma1:List UInt8) (to:List UInt8) (res:Int):∀ fuel (st:Int×Int×Int) (o:Int),iter (fun st=>XeT Xcn Xaw froma1 to st.1 st.2.1 st.2.2) fuel st=some o→(o=res) →
 XaK Tryz.prog 99 0 (Xk3 froma1 to st.1 st.2.1 st.2.2) (fun v H _=>Res 0 (XMm res) v H):=by
 intro fuel st o h hc
 refine XcZ (head:=fun st=>Xk3 froma1 to st.1 st.2.1 st.2.2) (C:=fun o=>(o=res)) ?_ fuel st o h hc
 clear h hc o st fuel
 intro st o h hc
 obtain ⟨xat,check1,xat1⟩:=st
 replace h:XeT Xcn Xaw froma1 to xat check1 xat1=some o:=h
 show XaK Tryz.prog 99 0 (Xk3 froma1 to xat check1 xat1) (fun v H _=>Res 0 (XMm res) v H)
 unfold XeT at h
 refine Xbg XaJ hS true 3000 ?_
 conv=>whnf
 refine br.h2 h (by rfl) ?_ ?_
 ·clear h;intro hb h;conv=>whnf
  exact W
 clear h;intro hb h;conv=>whnf
 replace h:=Xa9.elim h;obtain ⟨hb,h⟩:=h
 try (refine req.intro hb ?_;conv=>whnf)
 replace h:=Xdv.elim h;obtain ⟨b,hy,h⟩:=h
 refine rdS.intro hy ?_
 conv=>whnf
 let t2:Int:=wI .i64 ((wI .i64 (b.toNat:Int))*2^8)
 let t3:Bool:=decide ((wI .i64 (xat+1))<(froma1.length:Int))
 refine br.h2 h (by rfl) ?_ ?_
 ·clear h;intro hb h;conv=>whnf
  replace h:=Xdv.elim h;obtain ⟨xg1,hy,h⟩:=h
  refine Xgn.a (XpF hy) ?_
  conv=>whnf
  replace h:=Xdv.elim h;obtain ⟨t5,hy,h⟩:=h
  refine Xgn.a (XyH hy) ?_
  conv=>whnf
  cases h;simp only [Sum.elim_inl,Xk3] at hc
  exact XwY hc [(0,0),(1,1),(2,2),(3,3),(4,4),(5,5)] rfl
 clear h;intro hb h;conv=>whnf
 replace h:=Xa9.elim h;obtain ⟨hb,h⟩:=h
 try (refine req.intro hb ?_;conv=>whnf)
 replace h:=Xdv.elim h;obtain ⟨b1,hy,h⟩:=h
 refine rdS.intro hy ?_
 conv=>whnf
 replace h:=Xdv.elim h;obtain ⟨xg,hy,h⟩:=h
 refine Xgn.a (XpF hy) ?_
 conv=>whnf
 replace h:=Xdv.elim h;obtain ⟨t4,hy,h⟩:=h
 refine Xgn.a (XyH hy) ?_
 conv=>whnf
 cases h;simp only [Sum.elim_inl,Xk3] at hc
 exact XwY hc [(0,0),(1,1),(2,2),(3,3),(4,4),(5,5)] rfl
theorem XI9 (Xcn:Xdx) (Xaw:Xbk) (hS:Xal Tryz.prog (XaE (XGN Xcn Xaw))) (check:Int) (froma1:List UInt8) (to:List UInt8) (res:Int) (h:Xii Xcn Xaw check froma1 to=some res) :
 XaK Tryz.prog 99 0 ⟨⟨99,40,[(0,.int .i64 check),(1,.string ⟨⟨froma1⟩⟩),(2,.string ⟨⟨to⟩⟩)],[.code XGR],[],false,none⟩,[],[],0⟩ (fun v H _=>Res 0 (XMm res) v H):=by
 unfold Xii at h
 refine Xbg XaJ hS true 3000 ?_
 conv=>whnf
 let t:Bool:=(froma1.length:Int) !=(to.length:Int)
 refine br.h h (by rfl) ?_ ?_
 ·clear h;intro hb h;conv=>whnf
  exact W
 clear h;intro hb h;conv=>whnf
 let t1:Bool:=decide (((froma1.length:Int).tmod 2)>0)
 refine br.h h (by rfl) ?_ ?_
 ·clear h;intro hb h;conv=>whnf
  exact W
 clear h;intro hb h;conv=>whnf
 have hl:=XBL Xcn Xaw hS _ _ res _ _ _ h rfl;simp only [Xk3] at hl
 exact XwY hl [(0,0),(1,1),(2,2),(3,3),(4,4),(5,5)] rfl
def Xco:XdE:=Xii Xcn Xaw
theorem XRf:XbA Tryz.prog 99 (s99 Xco):=by
 have hL:=XI9 Xcn Xaw (Xal.XaV ⟨XLl,Xqm,trivial⟩)
 exact okA ⟨Tryz.f99,rfl,by decide,rfl⟩
end Go.Vm.Code
namespace Go.Vm.Code
open Go Go.Vm
def isW (n:Int):Bool:=decide (0≤n∧n≤65535)
theorem XRj {l:List Int} (hl:l.length<2^40):XeS l=some (l.all isW):=by
 unfold XeS Xla
 have key:=iter_eq (step:=fun (st:Int)=>Xgt l st) (fun st=>(l.drop st.toNat).all isW) (fun st=>0≤st∧st≤l.length) (fun st=>(l.length - st).toNat) ?_ FUEL 0 ⟨by omega,by omega⟩ (by rw [Xge];omega)
 ·rw [key];simp
 rintro p ⟨g1,g2⟩
 obtain ⟨i,rfl⟩:=Int.eq_ofNat_of_zero_le g1
 simp only [Int.toNat_natCast]
 unfold Xgt
 by_cases hi:i<l.length
 ·have e1:(l.drop i).all isW=(isW l[i]&&(l.drop (i+1)).all isW):=by rw [List.drop_eq_getElem_cons hi];rfl
  by_cases h1:l[i]<0
  ·refine .inl ?_
   simp (disch:=omega) only [Xa2,XaC,Int.toNat_natCast,List.getElem?_eq_getElem,Option.bind_some]
   rw [e1,show isW l[i]=false from decide_eq_false (by omega)];rfl
  ·by_cases h2:l[i]>65535
   ·refine .inl ?_
    simp (disch:=omega) only [Xa2,XaQ,XaC,Int.toNat_natCast,List.getElem?_eq_getElem,Option.bind_some]
    rw [e1,show isW l[i]=false from decide_eq_false (by omega)];rfl
   ·refine .inr ⟨((i+1:Nat):Int),?_,⟨by omega,by omega⟩,by omega,?_⟩
    ·simp (disch:=omega) only [Xa2,XaQ,XaC,Int.toNat_natCast,List.getElem?_eq_getElem,Option.bind_some,Xc5];rfl
    ·simp only [Int.toNat_natCast]
     rw [e1,show isW l[i]=true from decide_eq_true (by omega)];rfl
 ·refine .inl ?_
  rw [XaQ (by omega),List.drop_eq_nil_of_le (by omega)];rfl
def XrG (c f t:Int):Int:=if isW c&&(isW f&&isW t) then 65535 - ((norm ((65535 - c)+((65535 - f)+t)).toNat:Nat):Int) else 0
theorem XlT {n:Int}:isW n=true↔0≤n∧n≤65535:=by unfold isW;rw [decide_eq_true_eq]
theorem XDX (c f t:Int):isW (XrG c f t)=true:=by
 rw [XlT];unfold XrG
 have:=norm_le ((65535 - c)+((65535 - f)+t)).toNat
 split<;>omega
theorem XJQ {c f t:Int}:Xcn c f t=some (XrG c f t):=by
 unfold Xcn XjN XrG
 rw [XRj (by simp),Option.bind_some]
 simp only [List.all_cons,List.all_nil,Bool.and_true]
 cases hb:(isW c&&(isW f&&isW t)) with
 | false=>rfl
 | true=>
   simp only [Bool.and_eq_true,XlT] at hb
   rw [Bool.not_true,cond_false]
   simp only [if_true]
   rw [Xc5 (n:=65535 - c) (by omega) (by omega),Xc5 (n:=65535 - c+65535) (by omega) (by omega),Xc5 (n:=65535 - c+65535 - f) (by omega) (by omega),Xc5 (n:=65535 - c+65535 - f+t) (by omega) (by omega),fold_eq (by omega) (by omega),Option.bind_some]
   have e:65535 - c+65535 - f+t=65535 - c+(65535 - f+t):=by omega
   have:=norm_le (65535 - c+(65535 - f+t)).toNat
   rw [e,Xc5 (by omega) (by omega)]
def XjO (c:Int):List Int→List Int→Int
 | x::xs,y::ys=>XjO (XrG c x y) xs ys
 | _,_=>c
def XlN (c:Int) (a b:List UInt8):Int:=if a.length=b.length∧a.length%2=0 then XjO c (XeB a) (XeB b) else c
theorem XxD {c:Int} {a b:List UInt8} (ha:a.length<2^39) (hb:b.length<2^39):Xco c a b=some (XlN c a b):=by
 unfold Xco Xii XlN
 have e1:((a.length:Int) !=(b.length:Int))=decide (a.length≠b.length):=by
  rw [Bool.eq_iff_iff,bne_iff_ne,decide_eq_true_eq];omega
 have e2:(a.length:Int).tmod 2>0↔¬ a.length%2=0:=by rw [Int.tmod_eq_emod_of_nonneg (by omega)];omega
 simp only [e1]
 by_cases h1:a.length≠b.length
 ·rw [Xa2 h1,if_neg (by omega)]
 rw [XaQ h1]
 by_cases h2:a.length%2=0
 ·rw [XaQ (by rw [e2];omega),if_pos (by omega)]
  have key:=iter_eq (step:=fun (st:Int×Int×Int)=>XeT Xcn Xaw a b st.1 st.2.1 st.2.2) (fun st=>XjO st.2.1 (XeB (a.drop st.1.toNat)) (XeB (b.drop st.1.toNat))) (fun st=>st.2.2=st.1∧∃ i:Nat,st.1=i∧i%2=0∧i≤a.length) (fun st=>(a.length - st.1).toNat) ?_ FUEL (0,c,0) ⟨rfl,0,rfl,by omega,by omega⟩ (by rw [Xge];simp only;omega)
  ·rw [key];simp
  rintro ⟨p,c1,p1⟩ ⟨g1,i,g2,g3,g4⟩
  simp only at g1 g2 ⊢
  subst g1 g2
  unfold XeT
  by_cases hi:i<a.length
  ·have hi2:i+1<a.length:=by omega
   have hj2:i+1<b.length:=by omega
   have b1:=a[i].toNat_lt
   have b2:=a[i+1].toNat_lt
   have b3:=b[i].toNat_lt
   have b4:=b[i+1].toNat_lt
   refine .inr ⟨(((i+2:Nat):Int),XrG c1 ((a[i].toNat*256+a[i+1].toNat:Nat):Int) ((b[i].toNat*256+b[i+1].toNat:Nat):Int),((i+2:Nat):Int)),?_,⟨rfl,i+2,rfl,by omega,by omega⟩,by simp only;omega,?_⟩
   ·have e5:((i:Int)+1).toNat=i+1:=by omega
    simp (disch:=omega) only [Xc5,XaC,Xa2,e5,Int.toNat_natCast,List.getElem?_eq_getElem,Option.bind_some,XqG,XdC,XuV hj2,XJQ]
    congr 3<;>(first|rfl|(congr 1<;>omega)|omega)
   ·simp only [Int.toNat_natCast]
    rw [Xm8 hi2,Xm8 hj2];rfl
  ·refine .inl ?_
   rw [XaQ (by omega)]
   simp [List.drop_eq_nil_of_le (by omega:a.length≤i),XeB,XjO]
 ·rw [Xa2 (by rw [e2];omega),if_neg (by omega)]
theorem XDZ {c x y:Int} (hc:isW c=true) (hx:isW x=true) (hy:isW y=true):(XrG c x y+y - c - x)%65535=0:=by
 unfold XrG
 rw [hc,hx,hy]
 simp only [Bool.and_self,if_true]
 rw [XlT] at hc hx hy
 have:=XhO (65535 - c+(65535 - x+y)).toNat
 omega
theorem Xqu:∀ (xs ys:List Int) (c:Int),xs.length=ys.length→(∀ e∈xs,0≤e∧e≤65535)→(∀ e∈ys,0≤e∧e≤65535)→isW c=true→isW (XjO c xs ys)=true∧(XjO c xs ys+ys.sum - c - xs.sum)%65535=0
 | [],[],c,_,_,_,hc=>⟨hc,by simp [XjO]⟩
 | [],_::_,_,h,_,_,_=>by simp at h
 | _::_,[],_,h,_,_,_=>by simp at h
 | x::xs,y::ys,c,h,hx,hy,hc=>by
   have h1:=XDZ hc (XlT.2 (hx x (by simp))) (XlT.2 (hy y (by simp)))
   obtain ⟨h2,h3⟩:=Xqu xs ys (XrG c x y) (by simpa using h) (fun e he=>hx e (by simp [he])) (fun e he=>hy e (by simp [he])) (XDX c x y)
   refine ⟨h2,?_⟩
   simp only [XjO,List.sum_cons]
   omega
theorem Xwp {c:Nat} {a b:List UInt8} (hl:a.length=b.length) (he:a.length%2=0) (hc:c≤65535):∃ d:Nat,XlN (c:Int) a b=(d:Int)∧d≤65535∧(d+XcA b)%65535=(c+XcA a)%65535:=by
 unfold XlN
 rw [if_pos ⟨hl,he⟩]
 obtain ⟨t1,t2⟩:=Xqu (XeB a) (XeB b) (c:Int) (by rw [XkN,XkN,hl]) (XkW _) (XkW _) (XlT.2 (by omega))
 rw [XkZ,XkZ] at t2
 generalize XjO (c:Int) (XeB a) (XeB b)=d at *
 rw [XlT] at t1
 obtain ⟨e,rfl⟩:=Int.eq_ofNat_of_zero_le t1.1
 exact ⟨e,rfl,by omega,by omega⟩
end Go.Vm.Code
namespace Go.Vm.Code
open Go Go.Vm Go.Proofs
set_option maxRecDepth 100000
set_option maxHeartbeats 4000000
set_option linter.unusedVariables false
def XiY (s:List UInt8) (froma1:Int) (to:Int):Option (List UInt8):=
 cond (decide (to>(s.length:Int)))
  (
  Xa9 (decide ((0:Int)≤froma1∧froma1≤(s.length:Int))) <|
  let t:=(s.drop froma1.toNat).take (s.length - froma1.toNat)
  Xa9 (decide (t.length+1<2^63)) <|
  some (t++[0]))
  (
  Xa9 (decide ((0:Int)≤to∧to≤(s.length:Int)∧(0:Int)≤froma1∧froma1≤(to.toNat:Int))) <|
  let t1:=(s.drop froma1.toNat).take (to.toNat - froma1.toNat)
  some (t1))
def XB4 (x:List UInt8):Xcu:=⟨.string ⟨⟨x⟩⟩,[],[]⟩
abbrev XdU:=(List UInt8)→Int→Int→Option (List UInt8)
def r100 (g:XdU):Dec:=dV asS fun (y0:List UInt8)=>dV (asI .i64) fun (y1:Int)=>dV (asI .i64) fun (y2:Int)=>Xdm (ofG (g y0 y1 y2) XB4)
theorem XMS {g:XdU} {y0:List UInt8} {y1:Int} {y2:Int} {x:List UInt8} (hx:g y0 y1 y2=some x):r100 g [.string ⟨⟨y0⟩⟩,.int .i64 y1,.int .i64 y2] []=some (XB4 x):=(XaY (XcY)).trans ((XaY (Xc2 _)).trans ((XaY (Xc2 _)).trans (XaX hx)))
def s100 (g:XdU):Xbs:=⟨[.v,.v,.v],r100 g⟩
theorem XMa {g:XdU} {y0:List UInt8} {y1:Int} {y2:Int} {x:List UInt8} (hx:g y0 y1 y2=some x):(s100 g).run [.string ⟨⟨y0⟩⟩,.int .i64 y1,.int .i64 y2] []=some (XB4 x):=XMS hx
abbrev XLf:List (Nat×Xbs):=[]
theorem XCm (hS:Xal Tryz.prog (XaE (XLf))) (s:List UInt8) (froma1:Int) (to:Int) (res:List UInt8) (h:XiY s froma1 to=some res) :
 XaK Tryz.prog 100 0 ⟨⟨100,19,[(0,.string ⟨⟨s⟩⟩),(1,.int .i64 froma1),(2,.int .i64 to)],[.code XGP],[],false,none⟩,[],[],0⟩ (fun v H _=>Res 0 (XB4 res) v H):=by
 unfold XiY at h
 refine Xbg XaJ hS true 3000 ?_
 conv=>whnf
 exact W
def Xce:XdU:=XiY
theorem XJ8:XbA Tryz.prog 100 (s100 Xce):=by
 have hL:=XCm (Xal.XaV trivial)
 exact okA ⟨Tryz.f100,rfl,by decide,rfl⟩
def XiW (XbU:Xdz) (Xco:XdE) (Xaw:Xbk) (Xce:XdU) (body:List UInt8) (ata1:Int) (witha2:List UInt8) (sum:Int):Option ((List UInt8)×Bool):=
 cond (decide (ata1<0))
  (
  some (([],false)))
  (
  let t:=wI .i64 ((body.length:Int) - (witha2.length:Int))
  cond (decide (t<ata1))
   (
   some (([],false)))
   (
   cond (decide (sum<0))
    (
    some (([],false)))
    (
    cond ((sum.tmod 2)==1)
     (
     some (([],false)))
     (
     let t1:=decide ((wI .i64 ((body.length:Int) - 2))<sum)
     cond (t1)
      (
      some (([],false)))
      (
      cond (witha2==[])
       (
       some ((body,true)))
       (
       cond (decide (ata1<(wI .i64 (sum+2))))
        (
        let t2:=decide (sum<(wI .i64 (ata1+(witha2.length:Int))))
        cond (t2)
         (
         some (([],false)))
         (
         Xa9 (decide ((0:Int)≤ata1∧ata1≤(body.length:Int))) <|
         Xa9 (decide ((body.take ata1.toNat).length+witha2.length<2^63)) <|
         Xa9 (decide ((0:Int)≤(wI .i64 (ata1+(witha2.length:Int)))∧(wI .i64 (ata1+(witha2.length:Int)))≤(body.length:Int))) <|
         let t3:=(body.drop (wI .i64 (ata1+(witha2.length:Int))).toNat).take (body.length - (wI .i64 (ata1+(witha2.length:Int))).toNat)
         Xa9 (decide (((body.take ata1.toNat)++witha2).length+t3.length<2^63)) <|
         let t4:=wI .i64 ((wI .i64 (ata1+(witha2.length:Int)))+1)
         (Xaw body sum 2).bind fun xg=>
         (Xce body (Xj6 .i64 ata1 1) (Xj6 .i64 t4 1)).bind fun w=>
         (Xce (((body.take ata1.toNat)++witha2)++t3) (Xj6 .i64 ata1 1) (Xj6 .i64 t4 1)).bind fun w1=>
         (Xco (wI .i64 xg.1) w w1).bind fun t5=>
         (XbU (((body.take ata1.toNat)++witha2)++t3) sum 2 (wI .u64 t5)).bind fun s=>
         some ((s,true))))
        (
        Xa9 (decide ((0:Int)≤ata1∧ata1≤(body.length:Int))) <|
        Xa9 (decide ((body.take ata1.toNat).length+witha2.length<2^63)) <|
        Xa9 (decide ((0:Int)≤(wI .i64 (ata1+(witha2.length:Int)))∧(wI .i64 (ata1+(witha2.length:Int)))≤(body.length:Int))) <|
        let t6:=(body.drop (wI .i64 (ata1+(witha2.length:Int))).toNat).take (body.length - (wI .i64 (ata1+(witha2.length:Int))).toNat)
        Xa9 (decide (((body.take ata1.toNat)++witha2).length+t6.length<2^63)) <|
        let t7:=wI .i64 ((wI .i64 (ata1+(witha2.length:Int)))+1)
        (Xaw body sum 2).bind fun xg1=>
        (Xce body (Xj6 .i64 ata1 1) (Xj6 .i64 t7 1)).bind fun w2=>
        (Xce (((body.take ata1.toNat)++witha2)++t6) (Xj6 .i64 ata1 1) (Xj6 .i64 t7 1)).bind fun w3=>
        (Xco (wI .i64 xg1.1) w2 w3).bind fun t8=>
        (XbU (((body.take ata1.toNat)++witha2)++t6) sum 2 (wI .u64 t8)).bind fun s1=>
        some ((s1,true)))))))))
def rx70 (x:(List UInt8)×Bool):Xcu:=⟨.tuple ⟨[.string ⟨⟨x.1⟩⟩,.bool x.2]⟩,[],[]⟩
abbrev Xcf:=(List UInt8)→Int→(List UInt8)→Int→Option ((List UInt8)×Bool)
def r70 (g:Xcf):Dec:=dV asS fun (y0:List UInt8)=>dV (asI .i64) fun (y1:Int)=>dV asS fun (y2:List UInt8)=>dV (asI .i64) fun (y3:Int)=>Xdm (ofG (g y0 y1 y2 y3) rx70)
theorem r70_c {g:Xcf} {y0:List UInt8} {y1:Int} {y2:List UInt8} {y3:Int} {x:(List UInt8)×Bool} (hx:g y0 y1 y2 y3=some x):r70 g [.string ⟨⟨y0⟩⟩,.int .i64 y1,.string ⟨⟨y2⟩⟩,.int .i64 y3] []=some (rx70 x):=(XaY (XcY)).trans ((XaY (Xc2 _)).trans ((XaY (XcY)).trans ((XaY (Xc2 _)).trans (XaX hx))))
def s70 (g:Xcf):Xbs:=⟨[.v,.v,.v,.v],r70 g⟩
theorem Xym {g:Xcf} {y0:List UInt8} {y1:Int} {y2:List UInt8} {y3:Int} {x:(List UInt8)×Bool} (hx:g y0 y1 y2 y3=some x):(s70 g).run [.string ⟨⟨y0⟩⟩,.int .i64 y1,.string ⟨⟨y2⟩⟩,.int .i64 y3] []=some (rx70 x):=r70_c hx
abbrev XTh (XbU:Xdz) (Xco:XdE) (Xaw:Xbk) (Xce:XdU):List (Nat×Xbs):=[(72,s72 XbU),(99,s99 Xco),(69,s69 Xaw),(100,s100 Xce)]
theorem XHX (XbU:Xdz) (Xco:XdE) (Xaw:Xbk) (Xce:XdU) (hS:Xal Tryz.prog (XaE (XTh XbU Xco Xaw Xce))) (body:List UInt8) (ata1:Int) (witha2:List UInt8) (sum:Int) (res:(List UInt8)×Bool) (h:XiW XbU Xco Xaw Xce body ata1 witha2 sum=some res) :
 XaK Tryz.prog 70 0 ⟨⟨70,99,[(0,.string ⟨⟨body⟩⟩),(1,.int .i64 ata1),(2,.string ⟨⟨witha2⟩⟩),(3,.int .i64 sum)],[.code XFZ],[],false,none⟩,[],[],0⟩ (fun v H _=>Res 0 (rx70 res) v H):=by
 unfold XiW at h
 have R1:=@XpF Xaw
 have R2:=@XMa Xce
 have R3:=@XNU Xco
 have R4:=@XFs XbU
 refine Xbg XaJ hS true 3000 ?_
 conv=>whnf
 exact W
def Xa8:Xcf:=XiW XbU Xco Xaw Xce
theorem XAj:XbA Tryz.prog 70 (s70 Xa8):=by
 have hL:=XHX XbU Xco Xaw Xce (Xal.XaV ⟨XE2,XRf,Xqm,XJ8,trivial⟩)
 exact okA ⟨Tryz.f70,rfl,by decide,rfl⟩
end Go.Vm.Code
