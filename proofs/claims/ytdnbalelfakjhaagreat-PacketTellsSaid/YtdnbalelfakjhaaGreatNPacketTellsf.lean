import Derived.Test.YtdnbalelfakjhaaGreatNPacketTellse
namespace Go.Vm.Code
open Go Go.Vm
def zP:Xaf:=⟨⟨0,⟨false,0,0⟩,⟨false,0,0⟩,0,0⟩,0,false,0,0,false,[],0⟩
structure O11 where
 src:Xaa
 dst:Xaa
 proto:Int
 size:Nat
 body:List UInt8
 err:Int
def zO (e:Int):O11:=⟨⟨false,0,0⟩,⟨false,0,0⟩,0,0,[],e⟩
def Xbd (s:List UInt8):O11:=
 if vK s 0 1/16=4 then (if (Xg9 s).2.2≠0 then zO (Xg9 s).2.2 else if s.length≠20+(Xg9 s).1.Options.length+(Xg9 s).2.1.length then zO 5 else ⟨(Xg9 s).1.Src,(Xg9 s).1.Dst,(Xg9 s).1.Proto,20+(Xg9 s).1.Options.length,(Xg9 s).2.1,0⟩)
 else if vK s 0 1/16=6 then (if (Xi4 s).2.2≠0 then zO (Xi4 s).2.2 else if s.length≠40+(Xi4 s).2.1.length then zO 5 else ⟨(Xi4 s).1.Src,(Xi4 s).1.Dst,(Xi4 s).1.Next,40,(Xi4 s).2.1,0⟩)
 else zO 3
def XC9 (o:List UInt8):Bool×Int×Int:=if 0≤(XjG o).2.2 then (true,(XjG o).1,(XjG o).2.1) else (false,0,0)
def XR8 (b:List UInt8):Bool×List UInt8:=if (Xsk b).2=0 then ((Xsk b).1.Long,(Xsk b).1.DCID) else (false,[])
def Xgr (o:O11) (n:Nat):Xaf×Nat×Int:=
 if o.proto=6 then (if (XhY o.body o.src o.dst).2.2≠0 then (zP,0,(XhY o.body o.src o.dst).2.2) else
  (⟨⟨o.proto,o.src,o.dst,(XhY o.body o.src o.dst).1.SPort,(XhY o.body o.src o.dst).1.DPort⟩,(XhY o.body o.src o.dst).1.Flags,(XC9 (XhY o.body o.src o.dst).1.Options).1,(XC9 (XhY o.body o.src o.dst).1.Options).2.1,(XC9 (XhY o.body o.src o.dst).1.Options).2.2,false,[],n⟩,(XhY o.body o.src o.dst).2.1.length,0))
 else if o.proto=17 then (if (Xha o.body o.src o.dst).2.2≠0 then (zP,0,(Xha o.body o.src o.dst).2.2) else if (Xha o.body o.src o.dst).2.1.length+8≠o.body.length then (zP,0,5) else
  (⟨⟨o.proto,o.src,o.dst,(Xha o.body o.src o.dst).1.SPort,(Xha o.body o.src o.dst).1.DPort⟩,0,false,0,0,(XR8 (Xha o.body o.src o.dst).2.1).1,(XR8 (Xha o.body o.src o.dst).2.1).2,n⟩,(Xha o.body o.src o.dst).2.1.length,0))
 else (zP,0,6)
def XbM (s:List UInt8):Xaf×Nat×Nat×Int:=
 if 9000<s.length then (zP,0,0,5) else if s=[] then (zP,0,0,2) else if (Xbd s).err≠0 then (zP,0,0,(Xbd s).err) else
  if (Xgr (Xbd s) s.length).2.2≠0 then (zP,0,0,(Xgr (Xbd s) s.length).2.2) else
   ((Xgr (Xbd s) s.length).1,s.length - (Xbd s).body.length,s.length - (Xgr (Xbd s) s.length).2.1,0)
theorem XJs (s:List UInt8):A4 (Xg9 s).1.Src∧A4 (Xg9 s).1.Dst:=by
 have z:A4 ⟨false,0,0⟩:=⟨by simp only [];omega,by simp only [];omega,by simp only [];omega,by simp only [];omega⟩
 have k:∀ p,A4 (adr4 s p):=fun p=>by
  have:=XdT s p 4 4294967296 (by decide)
  exact ⟨Int.le_refl 0,by show (0:Int)<2^64;decide,this.1,by show vK s p 4<2^64;omega⟩
 unfold Xg9
 split
 ·exact ⟨z,z⟩
 split
 ·exact ⟨z,z⟩
 split
 ·exact ⟨z,z⟩
 split
 ·exact ⟨z,z⟩
 split
 ·exact ⟨z,z⟩
 split
 ·exact ⟨z,z⟩
 split
 ·exact ⟨z,z⟩
 exact ⟨k 12,k 16⟩
theorem XIo (s:List UInt8):A4 (Xi4 s).1.Src∧A4 (Xi4 s).1.Dst:=by
 have z:A4 ⟨false,0,0⟩:=⟨by simp only [];omega,by simp only [];omega,by simp only [];omega,by simp only [];omega⟩
 have k:∀ p,A4 (XrL ((s.drop p).take 16)):=fun p=>by
  have h1:Xdz (((s.drop p).take 16).take 8)<2^64:=Xdh _ (by decide)
  have h2:Xdz (((s.drop p).take 16).drop 8)<2^64:=by
   have:=XoB (((s.drop p).take 16).drop 8)
   refine Nat.lt_of_lt_of_le this ?_
   have:(((s.drop p).take 16).drop 8).length≤8:=by simp;omega
   exact Nat.pow_le_pow_right (n:=256) (by decide) this
  unfold XrL
  exact ⟨by simp only [];omega,by simp only [];omega,by simp only [];omega,by simp only [];omega⟩
 unfold Xi4
 split
 ·exact ⟨z,z⟩
 split
 ·exact ⟨z,z⟩
 split
 ·exact ⟨z,z⟩
 exact ⟨k 8,k 24⟩
theorem XoS (s:List UInt8):A4 (Xbd s).src∧A4 (Xbd s).dst:=by
 have z:A4 ⟨false,0,0⟩:=⟨by simp only [];omega,by simp only [];omega,by simp only [];omega,by simp only [];omega⟩
 unfold Xbd zO
 split
 ·split
  ·exact ⟨z,z⟩
  split
  ·exact ⟨z,z⟩
  exact XJs s
 split
 ·split
  ·exact ⟨z,z⟩
  split
  ·exact ⟨z,z⟩
  exact XIo s
 exact ⟨z,z⟩
theorem Xmb {s:List UInt8} (h:(Xbd s).err=0):(Xbd s).body.length+(Xbd s).size=s.length:=by
 unfold Xbd at h ⊢
 by_cases g1:vK s 0 1/16=4
 ·rw [if_pos g1] at h ⊢
  by_cases g2:(Xg9 s).2.2≠0
  ·rw [if_pos g2] at h;exact absurd h g2
  rw [if_neg g2] at h ⊢
  by_cases g3:s.length≠20+(Xg9 s).1.Options.length+(Xg9 s).2.1.length
  ·rw [if_pos g3] at h;exact absurd h (by decide)
  rw [if_neg g3]
  simp only [];omega
 rw [if_neg g1] at h ⊢
 by_cases g4:vK s 0 1/16=6
 ·rw [if_pos g4] at h ⊢
  by_cases g2:(Xi4 s).2.2≠0
  ·rw [if_pos g2] at h;exact absurd h g2
  rw [if_neg g2] at h ⊢
  by_cases g3:s.length≠40+(Xi4 s).2.1.length
  ·rw [if_pos g3] at h;exact absurd h (by decide)
  rw [if_neg g3]
  simp only [];omega
 ·rw [if_neg g4] at h;exact absurd h (by decide)
theorem Xmt {s:List UInt8} (h:(XbM s).2.2.2≠0):XbM s=(zP,0,0,(XbM s).2.2.2):=by
 unfold XbM at h ⊢
 split
 ·rfl
 rename_i g1
 rw [if_neg g1] at h
 split
 ·rfl
 rename_i g2
 rw [if_neg g2] at h
 split
 ·rfl
 rename_i g3
 rw [if_neg g3] at h
 split
 ·rfl
 rename_i g4
 rw [if_neg g4] at h
 exact absurd rfl h
def o11 (o:O11):Xaq:=⟨o.src,o.dst,o.proto,o.body⟩
theorem Xs1 {s:List UInt8} (hs:s.length<2^19) (hn:s≠[]):XbA s=some (o11 (Xbd s),(Xbd s).err):=by
 unfold XbA XdH
 have h0:0<s.length:=List.length_pos_iff.2 hn
 have e0:=XjK (s:=s) (p:=0) h0
 have r0:=XdT s 0 1 256 (by decide)
 rw [List.getElem?_eq_getElem h0,Option.bind_some,←e0,XoM,show ((2:Int)^4)=16 from rfl,g5_eq (by omega),XLL (by omega),Option.bind_some,Option.bind_some]
 unfold Xbd
 by_cases g1:vK s 0 1/16=4
 ·rw [if_pos g1,show (vK s 0 1/16==4)=true by simpa using g1,cond_true]
  by_cases g2:(Xg9 s).2.2=0
  ·have hb:(Xg9 s).1.Options.length≤s.length∧(Xg9 s).2.1.length≤s.length:=by
    unfold Xg9
    repeat' split
    all_goals simp [Xl0]
    omega
   rw [if_neg (by simpa using g2),show ((Xg9 s).2.2 !=0)=false by simpa using g2,cond_false,Xcg (n:=20+((Xg9 s).1.Options.length:Int)) (by omega) (by omega)]
   simp only []
   rw [Xcg (n:=20+((Xg9 s).1.Options.length:Int)+((Xg9 s).2.1.length:Int)) (by omega) (by omega)]
   by_cases g3:s.length=20+(Xg9 s).1.Options.length+(Xg9 s).2.1.length
   ·rw [if_neg (by simpa using g3),show ((s.length:Int) !=20+((Xg9 s).1.Options.length:Int)+((Xg9 s).2.1.length:Int))=false by simp;omega];rfl
   ·rw [if_pos g3,show ((s.length:Int) !=20+((Xg9 s).1.Options.length:Int)+((Xg9 s).2.1.length:Int))=true by simp;omega];rfl
  ·rw [if_pos g2,show ((Xg9 s).2.2 !=0)=true by simpa using g2,cond_true];rfl
 ·rw [if_neg g1,show (vK s 0 1/16==4)=false by simpa using g1,cond_false]
  by_cases g4:vK s 0 1/16=6
  ·rw [if_pos g4,show (vK s 0 1/16==6)=true by simpa using g4,cond_true]
   by_cases g2:(Xi4 s).2.2=0
   ·have hb:(Xi4 s).2.1.length≤s.length:=by
     unfold Xi4
     repeat' split
     all_goals simp
     omega
    rw [if_neg (by simpa using g2),show ((Xi4 s).2.2 !=0)=false by simpa using g2,cond_false,Xcg (n:=40+((Xi4 s).2.1.length:Int)) (by omega) (by omega)]
    by_cases g3:s.length=40+(Xi4 s).2.1.length
    ·rw [if_neg (by simpa using g3),show ((s.length:Int) !=40+((Xi4 s).2.1.length:Int))=false by simp;omega];rfl
    ·rw [if_pos g3,show ((s.length:Int) !=40+((Xi4 s).2.1.length:Int))=true by simp;omega];rfl
   ·rw [if_pos g2,show ((Xi4 s).2.2 !=0)=true by simpa using g2,cond_true];rfl
  ·rw [if_neg g4,show (vK s 0 1/16==6)=false by simpa using g4,cond_false];rfl
theorem X8r {o:O11} {n:Nat} (h1:A4 o.src) (h2:A4 o.dst) (hb:o.body.length<2^19) (hp:o.proto=6):∃ q,XaP (o11 o) ⟨⟨o.proto,o.src,o.dst,0,0⟩,0,false,0,0,false,[],(n:Int)⟩=some (((Xgr o n).2.1:Int),(Xgr o n).2.2,q)∧((Xgr o n).2.2=0→q=(Xgr o n).1):=by
 unfold XaP Xb5 Xgr o11
 rw [if_pos hp]
 simp only []
 rw [Xzj h1 h2 (by omega),Option.bind_some]
 by_cases g:(XhY o.body o.src o.dst).2.2=0
 ·have ho:(XhY o.body o.src o.dst).1.Options.length<2^20:=by
   unfold XhY
   repeat' split
   all_goals simp [XmD]
   all_goals omega
  rw [if_neg (by simpa using g),show ((XhY o.body o.src o.dst).2.2 !=0)=false by simpa using g,cond_false,XPM ho,Option.bind_some]
  unfold XC9
  by_cases g2:0≤(XjG (XhY o.body o.src o.dst).1.Options).2.2
  ·rw [if_pos g2,XaS (by omega)]
   exact ⟨_,rfl,fun _=>rfl⟩
  ·rw [if_neg g2,XaO (by omega)]
   exact ⟨_,rfl,fun _=>rfl⟩
 ·rw [if_pos g,show ((XhY o.body o.src o.dst).2.2 !=0)=true by simpa using g,cond_true]
  exact ⟨_,rfl,fun h=>absurd h g⟩
theorem X3K {o:O11} {n:Nat} (h1:A4 o.src) (h2:A4 o.dst) (hb:o.body.length<2^19) (hp:o.proto=17):∃ q,XaN (o11 o) ⟨⟨o.proto,o.src,o.dst,0,0⟩,0,false,0,0,false,[],(n:Int)⟩=some (((Xgr o n).2.1:Int),(Xgr o n).2.2,q)∧((Xgr o n).2.2=0→q=(Xgr o n).1):=by
 unfold XaN XbY Xgr o11
 rw [if_neg (by omega),if_pos hp]
 simp only []
 rw [XJQ h1 h2 (by omega),Option.bind_some]
 by_cases g:(Xha o.body o.src o.dst).2.2=0
 ·have ho:(Xha o.body o.src o.dst).2.1.length<2^20:=by
   unfold Xha
   repeat' split
   all_goals simp
   all_goals omega
  rw [if_neg (by simpa using g),show ((Xha o.body o.src o.dst).2.2 !=0)=false by simpa using g,cond_false,Xcg (n:=(o.body.length:Int) - 8) (by omega) (by omega)]
  by_cases g2:(Xha o.body o.src o.dst).2.1.length+8=o.body.length
  ·rw [if_neg (by simpa using g2),show (((Xha o.body o.src o.dst).2.1.length:Int) !=(o.body.length:Int) - 8)=false by simp;omega,cond_false,Xzi (by omega),Option.bind_some]
   unfold XR8
   by_cases g3:(Xsk (Xha o.body o.src o.dst).2.1).2=0
   ·rw [if_pos g3,show ((Xsk (Xha o.body o.src o.dst).2.1).2==0)=true by simpa using g3,cond_true]
    exact ⟨_,rfl,fun _=>rfl⟩
   ·rw [if_neg g3,show ((Xsk (Xha o.body o.src o.dst).2.1).2==0)=false by simpa using g3,cond_false]
    exact ⟨_,rfl,fun _=>rfl⟩
  ·rw [if_pos g2,show (((Xha o.body o.src o.dst).2.1.length:Int) !=(o.body.length:Int) - 8)=true by simp;omega,cond_true]
   exact ⟨_,rfl,fun h=>absurd h (by decide)⟩
 ·rw [if_pos g,show ((Xha o.body o.src o.dst).2.2 !=0)=true by simpa using g,cond_true]
  exact ⟨_,rfl,fun h=>absurd h g⟩
def Xie (s:List UInt8):Xaf×Int×Int×Int:=
 if (XbM s).2.2.2≠0 then (zP,0,0,(XbM s).2.2.2) else ((XbM s).1,((s.length - (XbM s).2.1:Nat):Int),((s.length - (XbM s).2.2.1:Nat):Int),0)
theorem Xxo {o:O11} {n:Nat}:(Xgr o n).2.1≤o.body.length:=by
 unfold Xgr
 split
 ·split
  ·simp
  ·show (XhY o.body o.src o.dst).2.1.length≤_
   unfold XhY
   repeat' split
   all_goals simp
 split
 ·split
  ·simp
  split
  ·simp
  ·show (Xha o.body o.src o.dst).2.1.length≤_
   unfold Xha
   repeat' split
   all_goals simp
   all_goals omega
 ·simp
theorem XqC {s:List UInt8} (hs:s.length<2^19):Xa6 s=some (Xie s):=by
 unfold Xa6 Xfd
 have hz:(⟨⟨0,⟨false,0,0⟩,⟨false,0,0⟩,0,0⟩,0,false,0,0,false,[],0⟩:Xaf)=zP:=rfl
 rw [hz]
 by_cases g1:9000<s.length
 ·have hT:XbM s=(zP,0,0,5):=by unfold XbM;rw [if_pos g1]
  unfold Xie
  rw [XaS (by omega),hT];rfl
 rw [XaO (by omega)]
 by_cases g2:s=[]
 ·subst g2;rfl
 rw [show (s==[])=false by simpa using g2,cond_false,Xs1 hs g2,Option.bind_some]
 obtain ⟨a1,a2⟩:=XoS s
 by_cases g3:(Xbd s).err=0
 ·have hb:=Xmb g3
  have hil:=Xxo (o:=Xbd s) (n:=s.length)
  have hE:(Xgr (Xbd s) s.length).2.2≠0→Xie s=(zP,0,0,(Xgr (Xbd s) s.length).2.2):=fun g4=>by
   have hT:XbM s=(zP,0,0,(Xgr (Xbd s) s.length).2.2):=by unfold XbM;rw [if_neg g1,if_neg g2,if_neg (by simpa using g3),if_pos g4]
   unfold Xie
   rw [hT,if_pos g4]
  have hO:(Xgr (Xbd s) s.length).2.2=0→Xie s=((Xgr (Xbd s) s.length).1,((Xbd s).body.length:Int),((Xgr (Xbd s) s.length).2.1:Int),0):=fun g4=>by
   have hT:XbM s=((Xgr (Xbd s) s.length).1,s.length - (Xbd s).body.length,s.length - (Xgr (Xbd s) s.length).2.1,0):=by unfold XbM;rw [if_neg g1,if_neg g2,if_neg (by simpa using g3),if_neg (by simpa using g4)]
   unfold Xie
   rw [hT,if_neg (by simp)]
   simp only []
   rw [show s.length - (s.length - (Xbd s).body.length)=(Xbd s).body.length by omega,show s.length - (s.length - (Xgr (Xbd s) s.length).2.1)=(Xgr (Xbd s) s.length).2.1 by omega]
  simp only [g3,bne_self_eq_false,cond_false]
  by_cases p6:(Xbd s).proto=6
  ·obtain ⟨q,q1,q2⟩:=X8r (o:=Xbd s) (n:=s.length) a1 a2 (by omega) p6
   have e6:((o11 (Xbd s)).proto==6)=true:=by show ((Xbd s).proto==6)=true;simpa using p6
   rw [e6,cond_true]
   show (XaP (o11 (Xbd s)) ⟨⟨(Xbd s).proto,(Xbd s).src,(Xbd s).dst,0,0⟩,0,false,0,0,false,[],(s.length:Int)⟩).bind _=_
   rw [q1,Option.bind_some]
   simp only []
   by_cases g4:(Xgr (Xbd s) s.length).2.2=0
   ·rw [hO g4,g4,q2 g4];rfl
   ·rw [hE g4,show ((Xgr (Xbd s) s.length).2.2 !=0)=true by simpa using g4];rfl
  ·have e6:((o11 (Xbd s)).proto==6)=false:=by show ((Xbd s).proto==6)=false;simpa using p6
   rw [e6,cond_false]
   by_cases p17:(Xbd s).proto=17
   ·obtain ⟨q,q1,q2⟩:=X3K (o:=Xbd s) (n:=s.length) a1 a2 (by omega) p17
    have e17:((o11 (Xbd s)).proto==17)=true:=by show ((Xbd s).proto==17)=true;simpa using p17
    rw [e17,cond_true]
    show (XaN (o11 (Xbd s)) ⟨⟨(Xbd s).proto,(Xbd s).src,(Xbd s).dst,0,0⟩,0,false,0,0,false,[],(s.length:Int)⟩).bind _=_
    rw [q1,Option.bind_some]
    simp only []
    by_cases g4:(Xgr (Xbd s) s.length).2.2=0
    ·rw [hO g4,g4,q2 g4];rfl
    ·rw [hE g4,show ((Xgr (Xbd s) s.length).2.2 !=0)=true by simpa using g4];rfl
   ·have e17:((o11 (Xbd s)).proto==17)=false:=by show ((Xbd s).proto==17)=false;simpa using p17
    have e6':(Xgr (Xbd s) s.length).2.2=6:=by unfold Xgr;rw [if_neg p6,if_neg p17]
    rw [e17,cond_false,hE (by rw [e6'];decide),e6']
 ·have hT:XbM s=(zP,0,0,(Xbd s).err):=by unfold XbM;rw [if_neg g1,if_neg g2,if_pos g3]
  unfold Xie
  rw [hT,if_pos g3,show ((Xbd s).err !=0)=true by simpa using g3];rfl
theorem XyK {s:List UInt8} (hs:s.length<2^19):Xa9 s=some ((XbM s).1,(XbM s).2.2.2):=by
 unfold Xa9 Xew
 rw [XqC hs,Option.bind_some]
 unfold Xie
 by_cases g:(XbM s).2.2.2=0
 ·rw [if_neg (by simpa using g),g]
 ·rw [if_pos g,Xmt g]
theorem XvL (s:List UInt8):(XbM s).2.1≤s.length∧(XbM s).2.2.1≤s.length:=by
 unfold XbM
 repeat' split
 all_goals simp
theorem Xz8 {s:List UInt8} (hs:s.length<2^19):XcE s=some (((XbM s).2.1:Int),((XbM s).2.2.1:Int),(XbM s).2.2.2):=by
 unfold XcE Xez
 rw [XqC hs,Option.bind_some]
 unfold Xie
 have hl:=XvL s
 by_cases g:(XbM s).2.2.2=0
 ·rw [if_neg (by simpa using g),g]
  simp only [bne_self_eq_false,cond_false]
  rw [Xcg (by omega) (by omega),Xcg (by omega) (by omega),show (s.length:Int) - ((s.length - (XbM s).2.1:Nat):Int)=((XbM s).2.1:Int) by omega,show (s.length:Int) - ((s.length - (XbM s).2.2.1:Nat):Int)=((XbM s).2.2.1:Int) by omega]
 ·rw [if_pos g]
  simp only []
  rw [show ((XbM s).2.2.2 !=0)=true by simpa using g,cond_true,Xmt g];rfl
end Go.Vm.Code
namespace Go.Vm.Code
open Go Go.Vm Go.Proofs
set_option maxRecDepth 100000
set_option maxHeartbeats 4000000
set_option linter.unusedVariables false
def XhE (Xea:(List UInt8)→Option (Xag×(List UInt8)×Int)) (Xd1:(List UInt8)→Option (Xaj×(List UInt8)×Int)) (s:List UInt8):Option (Xb1×Int):=
 (s[0]?).bind fun (b:UInt8)=>
 cond ((wI .u8 ((b.toNat:Int).tdiv 16))==4)
  (
  (Xea s).bind fun xg=>
  let t:=wI .i64 (20+(xg.1.Options.length:Int))
  some ((Xb1.mk xg.1.Src xg.1.Dst xg.1.Proto t xg.2.1,xg.2.2)))
  (
  (s[0]?).bind fun (b1:UInt8)=>
  cond ((wI .u8 ((b1.toNat:Int).tdiv 16))==6)
   (
   (Xd1 s).bind fun xg1=>
   some ((Xb1.mk xg1.1.Src xg1.1.Dst xg1.1.Next 40 xg1.2.1,xg1.2.2)))
   (
   some ((Xb1.mk (Xaa.mk false 0 0) (Xaa.mk false 0 0) 0 0 [],3))))
def XzT (x:Xb1×Int):Xca:=⟨.tuple ⟨[.agg ⟨[.bool x.1.src.V6,.int .u64 x.1.src.Hi,.int .u64 x.1.src.Lo,.bool x.1.dst.V6,.int .u64 x.1.dst.Hi,.int .u64 x.1.dst.Lo,.int .i64 x.1.proto,.int .i64 x.1.size,.string ⟨⟨x.1.body⟩⟩]⟩,.int .i64 x.2]⟩,[],[]⟩
def r107 (g:(List UInt8)→Option (Xb1×Int)):Dec:=dV asS fun (y0:List UInt8)=>XcO (ofG (g y0) XzT)
theorem Yb9 {g:(List UInt8)→Option (Xb1×Int)} {y0:List UInt8} {x:Xb1×Int} (hx:g y0=some x):r107 g [.string ⟨⟨y0⟩⟩] []=some (XzT x):=(XaT (Xcp)).trans (Xa0 hx)
def s107 (g:(List UInt8)→Option (Xb1×Int)):Xbr:=⟨[.v],r107 g⟩
theorem XRX {g:(List UInt8)→Option (Xb1×Int)} {y0:List UInt8} {x:Xb1×Int} (hx:g y0=some x):(s107 g).run [.string ⟨⟨y0⟩⟩] []=some (XzT x):=Yb9 hx
abbrev XsL (Xea:(List UInt8)→Option (Xag×(List UInt8)×Int)) (Xd1:(List UInt8)→Option (Xaj×(List UInt8)×Int)):List (Nat×Xbr):=[(165,s165 Xea),(166,s166 Xd1)]
theorem XAX (Xea:(List UInt8)→Option (Xag×(List UInt8)×Int)) (Xd1:(List UInt8)→Option (Xaj×(List UInt8)×Int)) (hS:Xai Tryz.prog (Xav (XsL Xea Xd1))) (s:List UInt8) (res:Xb1×Int) (h:XhE Xea Xd1 s=some res) :
 XaI Tryz.prog 107 0 ⟨⟨107,53,[(0,.string ⟨⟨s⟩⟩)],[.code XsH],[],false,none⟩,[],[],0⟩ (fun v H _=>Res 0 (XzT res) v H):=by
 unfold XhE at h
 refine Xa7 Xao hS true 3000 ?_
 conv=>whnf
 replace h:=Xal.elim h;obtain ⟨b,hy,h⟩:=h
 refine rdS.intro hy ?_
 conv=>whnf
 refine br.h h ?_ ?_ ?_
 ·rfl
 ·clear h;intro hb h;conv=>whnf
  replace h:=Xal.elim h;obtain ⟨xg,hy,h⟩:=h
  refine XaK.q rfl rfl (XFy hy) rfl rfl rfl ?_
  conv=>whnf
  let t:Int:=wI .i64 (20+(xg.1.Options.length:Int))
  all_goals (cases h;exact Res.z rfl rfl rfl)
 clear h;intro hb h;conv=>whnf
 replace h:=Xal.elim h;obtain ⟨b1,hy,h⟩:=h
 refine rdS.intro hy ?_
 conv=>whnf
 refine br.h2 h ?_ ?_ ?_
 ·rfl
 ·clear h;intro hb h;conv=>whnf
  all_goals (cases h;exact Res.z rfl rfl rfl)
 clear h;intro hb h;conv=>whnf
 replace h:=Xal.elim h;obtain ⟨xg1,hy,h⟩:=h
 refine XaK.q rfl rfl (XFz hy) rfl rfl rfl ?_
 conv=>whnf
 all_goals (cases h;exact Res.z rfl rfl rfl)
theorem ok107 (Xea:(List UInt8)→Option (Xag×(List UInt8)×Int)) (Xd1:(List UInt8)→Option (Xaj×(List UInt8)×Int)) (hS:Xai Tryz.prog (Xav (XsL Xea Xd1))):Xar Tryz.prog 107 (s107 (XhE Xea Xd1)):=by
 refine Xar.Xay Xao (fun ar os r ha hr=>?_) ⟨Tryz.f107,rfl,by decide,rfl⟩
 replace hr:r107 (XhE Xea Xd1) ar (XaD os)=some r:=hr
 unfold r107 at hr
 generalize hc:XaD os=C at hr
 replace hr:=dV.elim hr;obtain ⟨v0,l1,y0,rfl,e0,hr⟩:=hr;obtain rfl:=XbH _ _ e0
 replace hr:=Xc2 hr;obtain ⟨rfl,rfl,x,h,rfl⟩:=hr
 obtain rfl:=Xas hc
 exact ⟨_,rfl,XAX Xea Xd1 hS _ x h⟩
def Xde:(List UInt8)→Option (Xb1×Int):=XhE Xea Xd1
theorem XQD:Xar Tryz.prog 107 (s107 Xde):=ok107 Xea Xd1 (Xai.XaW ⟨XQO,XM5,trivial⟩)
def XhQ (Xd0:(List UInt8)→Xaa→Xaa→Option (Xak×(List UInt8)×Int)) (XcA:(List UInt8)→Option (Int×Int×Int)) (Xd2:(List UInt8)→Xaa→Xaa→Option (Xat×(List UInt8)×Int)) (Xeb:(List UInt8)→Option (XaQ×Int)) (Xde:(List UInt8)→Option (Xb1×Int)) (s:List UInt8):Option (Xaf×Int×Int×Int):=
 cond (decide ((s.length:Int)>9000))
  (
  some ((Xaf.mk (Xah.mk 0 (Xaa.mk false 0 0) (Xaa.mk false 0 0) 0 0) 0 false 0 0 false [] 0,0,0,5)))
  (
  cond (s==[])
   (
   some ((Xaf.mk (Xah.mk 0 (Xaa.mk false 0 0) (Xaa.mk false 0 0) 0 0) 0 false 0 0 false [] 0,0,0,2)))
   (
   (Xde s).bind fun xr=>
   cond (xr.2 !=0)
    (
    some ((Xaf.mk (Xah.mk 0 (Xaa.mk false 0 0) (Xaa.mk false 0 0) 0 0) 0 false 0 0 false [] 0,0,0,xr.2)))
    (
    let t:=wI .i64 (xr.1.size+(xr.1.body.length:Int))
    cond (t !=(s.length:Int))
     (
     some ((Xaf.mk (Xah.mk 0 (Xaa.mk false 0 0) (Xaa.mk false 0 0) 0 0) 0 false 0 0 false [] 0,0,0,5)))
     (
     cond (xr.1.proto==6)
      (
      (Xd0 xr.1.body xr.1.src xr.1.dst).bind fun xg=>
      cond (xg.2.2 !=0)
       (
       some ((Xaf.mk (Xah.mk 0 (Xaa.mk false 0 0) (Xaa.mk false 0 0) 0 0) 0 false 0 0 false [] 0,0,0,xg.2.2)))
       (
       (XcA xg.1.Options).bind fun s1=>
       cond (decide (s1.2.2≥0))
        (
        let t1:=wI .i64 ((wI .i64 (xr.1.size+20))+(xg.1.Options.length:Int))
        some ((Xaf.mk (Xah.mk xr.1.proto xr.1.src xr.1.dst xg.1.SPort xg.1.DPort) xg.1.Flags true s1.1 s1.2.1 false [] (s.length:Int),xr.1.size,t1,0)))
        (
        let t2:=wI .i64 ((wI .i64 (xr.1.size+20))+(xg.1.Options.length:Int))
        some ((Xaf.mk (Xah.mk xr.1.proto xr.1.src xr.1.dst xg.1.SPort xg.1.DPort) xg.1.Flags false 0 0 false [] (s.length:Int),xr.1.size,t2,0)))))
      (
      cond (xr.1.proto !=17)
       (
       some ((Xaf.mk (Xah.mk 0 (Xaa.mk false 0 0) (Xaa.mk false 0 0) 0 0) 0 false 0 0 false [] 0,0,0,6)))
       (
       (Xd2 xr.1.body xr.1.src xr.1.dst).bind fun xg1=>
       cond (xg1.2.2 !=0)
        (
        some ((Xaf.mk (Xah.mk 0 (Xaa.mk false 0 0) (Xaa.mk false 0 0) 0 0) 0 false 0 0 false [] 0,0,0,xg1.2.2)))
        (
        let t3:=(wI .i64 ((xg1.2.1.length:Int)+8)) !=(xr.1.body.length:Int)
        cond (t3)
         (
         some ((Xaf.mk (Xah.mk 0 (Xaa.mk false 0 0) (Xaa.mk false 0 0) 0 0) 0 false 0 0 false [] 0,0,0,5)))
         (
         (Xeb xg1.2.1).bind fun xg2=>
         cond (xg2.2==0)
          (
          some ((Xaf.mk (Xah.mk xr.1.proto xr.1.src xr.1.dst xg1.1.SPort xg1.1.DPort) 0 false 0 0 xg2.1.Long xg2.1.DCID (s.length:Int),xr.1.size,wI .i64 (xr.1.size+8),0)))
          (
          some ((Xaf.mk (Xah.mk xr.1.proto xr.1.src xr.1.dst xg1.1.SPort xg1.1.DPort) 0 false 0 0 false [] (s.length:Int),xr.1.size,wI .i64 (xr.1.size+8),0)))))))))))
def rx62 (x:Xaf×Int×Int×Int):Xca:=⟨.tuple ⟨[.agg ⟨[.int .i64 x.1.Tuple.Proto,.bool x.1.Tuple.Src.V6,.int .u64 x.1.Tuple.Src.Hi,.int .u64 x.1.Tuple.Src.Lo,.bool x.1.Tuple.Dst.V6,.int .u64 x.1.Tuple.Dst.Hi,.int .u64 x.1.Tuple.Dst.Lo,.int .i64 x.1.Tuple.SPort,.int .i64 x.1.Tuple.DPort,.int .i64 x.1.Flags,.bool x.1.Stamped,.int .u32 x.1.Val,.int .u32 x.1.Echo,.bool x.1.Long,.string ⟨⟨x.1.CID⟩⟩,.int .i64 x.1.Size]⟩,.int .i64 x.2.1,.int .i64 x.2.2.1,.int .i64 x.2.2.2]⟩,[],[]⟩
def r62 (g:(List UInt8)→Option (Xaf×Int×Int×Int)):Dec:=dV asS fun (y0:List UInt8)=>XcO (ofG (g y0) rx62)
theorem r62_c {g:(List UInt8)→Option (Xaf×Int×Int×Int)} {y0:List UInt8} {x:Xaf×Int×Int×Int} (hx:g y0=some x):r62 g [.string ⟨⟨y0⟩⟩] []=some (rx62 x):=(XaT (Xcp)).trans (Xa0 hx)
def s62 (g:(List UInt8)→Option (Xaf×Int×Int×Int)):Xbr:=⟨[.v],r62 g⟩
theorem XCv {g:(List UInt8)→Option (Xaf×Int×Int×Int)} {y0:List UInt8} {x:Xaf×Int×Int×Int} (hx:g y0=some x):(s62 g).run [.string ⟨⟨y0⟩⟩] []=some (rx62 x):=r62_c hx
abbrev XCj (Xd0:(List UInt8)→Xaa→Xaa→Option (Xak×(List UInt8)×Int)) (XcA:(List UInt8)→Option (Int×Int×Int)) (Xd2:(List UInt8)→Xaa→Xaa→Option (Xat×(List UInt8)×Int)) (Xeb:(List UInt8)→Option (XaQ×Int)) (Xde:(List UInt8)→Option (Xb1×Int)):List (Nat×Xbr):=[(108,s108 Xd0),(109,s109 XcA),(110,s110 Xd2),(18,s18 Xeb),(107,s107 Xde)]
theorem XFo (Xd0:(List UInt8)→Xaa→Xaa→Option (Xak×(List UInt8)×Int)) (XcA:(List UInt8)→Option (Int×Int×Int)) (Xd2:(List UInt8)→Xaa→Xaa→Option (Xat×(List UInt8)×Int)) (Xeb:(List UInt8)→Option (XaQ×Int)) (Xde:(List UInt8)→Option (Xb1×Int)) (hS:Xai Tryz.prog (Xav (XCj Xd0 XcA Xd2 Xeb Xde))) (s:List UInt8) (res:Xaf×Int×Int×Int) (h:XhQ Xd0 XcA Xd2 Xeb Xde s=some res) :
 XaI Tryz.prog 62 0 ⟨⟨62,161,[(0,.string ⟨⟨s⟩⟩)],[.code XBq],[],false,none⟩,[],[],0⟩ (fun v H _=>Res 0 (rx62 res) v H):=by
 unfold XhQ at h
 refine Xa7 Xao hS true 3000 ?_
 conv=>whnf
 refine br.h h ?_ ?_ ?_
 ·rfl
 ·clear h;intro hb h;conv=>whnf
  all_goals (cases h;exact Res.z rfl rfl rfl)
 clear h;intro hb h;conv=>whnf
 refine br.h h ?_ ?_ ?_
 ·rfl
 ·clear h;intro hb h;conv=>whnf
  all_goals (cases h;exact Res.z rfl rfl rfl)
 clear h;intro hb h;conv=>whnf
 replace h:=Xal.elim h;obtain ⟨xr,hy,h⟩:=h
 refine XaK.q rfl rfl (XRX hy) rfl rfl rfl ?_
 conv=>whnf
 refine br.h h ?_ ?_ ?_
 ·rfl
 ·clear h;intro hb h;conv=>whnf
  all_goals (cases h;exact Res.z rfl rfl rfl)
 clear h;intro hb h;conv=>whnf
 let t:Int:=wI .i64 (xr.1.size+(xr.1.body.length:Int))
 refine br.h h ?_ ?_ ?_
 ·rfl
 ·clear h;intro hb h;conv=>whnf
  all_goals (cases h;exact Res.z rfl rfl rfl)
 clear h;intro hb h;conv=>whnf
 refine br.h h ?_ ?_ ?_
 ·rfl
 ·clear h;intro hb h;conv=>whnf
  replace h:=Xal.elim h;obtain ⟨xg,hy,h⟩:=h
  refine XaK.q rfl rfl (XIy hy) rfl rfl rfl ?_
  conv=>whnf
  refine br.h h ?_ ?_ ?_
  ·rfl
  ·clear h;intro hb h;conv=>whnf
   all_goals (cases h;exact Res.z rfl rfl rfl)
  clear h;intro hb h;conv=>whnf
  replace h:=Xal.elim h;obtain ⟨s1,hy,h⟩:=h
  refine XaK.q rfl rfl (XLO hy) rfl rfl rfl ?_
  conv=>whnf
  refine br.h h ?_ ?_ ?_
  ·rfl
  ·clear h;intro hb h;conv=>whnf
   let t1:Int:=wI .i64 ((wI .i64 (xr.1.size+20))+(xg.1.Options.length:Int))
   all_goals (cases h;exact Res.z rfl rfl rfl)
  clear h;intro hb h;conv=>whnf
  let t2:Int:=wI .i64 ((wI .i64 (xr.1.size+20))+(xg.1.Options.length:Int))
  all_goals (cases h;exact Res.z rfl rfl rfl)
 clear h;intro hb h;conv=>whnf
 refine br.h h ?_ ?_ ?_
 ·rfl
 ·clear h;intro hb h;conv=>whnf
  all_goals (cases h;exact Res.z rfl rfl rfl)
 clear h;intro hb h;conv=>whnf
 replace h:=Xal.elim h;obtain ⟨xg1,hy,h⟩:=h
 refine XaK.q rfl rfl (XQB hy) rfl rfl rfl ?_
 conv=>whnf
 refine br.h h ?_ ?_ ?_
 ·rfl
 ·clear h;intro hb h;conv=>whnf
  all_goals (cases h;exact Res.z rfl rfl rfl)
 clear h;intro hb h;conv=>whnf
 let t3:Bool:=(wI .i64 ((xg1.2.1.length:Int)+8)) !=(xr.1.body.length:Int)
 refine br.h h ?_ ?_ ?_
 ·rfl
 ·clear h;intro hb h;conv=>whnf
  all_goals (cases h;exact Res.z rfl rfl rfl)
 clear h;intro hb h;conv=>whnf
 replace h:=Xal.elim h;obtain ⟨xg2,hy,h⟩:=h
 refine XaK.q rfl rfl (X1c hy) rfl rfl rfl ?_
 conv=>whnf
 refine br.h h ?_ ?_ ?_
 ·rfl
 ·clear h;intro hb h;conv=>whnf
  all_goals (cases h;exact Res.z rfl rfl rfl)
 clear h;intro hb h;conv=>whnf
 all_goals (cases h;exact Res.z rfl rfl rfl)
theorem ok62 (Xd0:(List UInt8)→Xaa→Xaa→Option (Xak×(List UInt8)×Int)) (XcA:(List UInt8)→Option (Int×Int×Int)) (Xd2:(List UInt8)→Xaa→Xaa→Option (Xat×(List UInt8)×Int)) (Xeb:(List UInt8)→Option (XaQ×Int)) (Xde:(List UInt8)→Option (Xb1×Int)) (hS:Xai Tryz.prog (Xav (XCj Xd0 XcA Xd2 Xeb Xde))):Xar Tryz.prog 62 (s62 (XhQ Xd0 XcA Xd2 Xeb Xde)):=by
 refine Xar.Xay Xao (fun ar os r ha hr=>?_) ⟨Tryz.f62,rfl,by decide,rfl⟩
 replace hr:r62 (XhQ Xd0 XcA Xd2 Xeb Xde) ar (XaD os)=some r:=hr
 unfold r62 at hr
 generalize hc:XaD os=C at hr
 replace hr:=dV.elim hr;obtain ⟨v0,l1,y0,rfl,e0,hr⟩:=hr;obtain rfl:=XbH _ _ e0
 replace hr:=Xc2 hr;obtain ⟨rfl,rfl,x,h,rfl⟩:=hr
 obtain rfl:=Xas hc
 exact ⟨_,rfl,XFo Xd0 XcA Xd2 Xeb Xde hS _ x h⟩
def XbK:(List UInt8)→Option (Xaf×Int×Int×Int):=XhQ Xd0 XcA Xd2 Xeb Xde
theorem XDk:Xar Tryz.prog 62 (s62 XbK):=ok62 Xd0 XcA Xd2 Xeb Xde (Xai.XaW ⟨XF9,XDR,XQ6,Yc8,XQD,trivial⟩)
def XgG (XbK:(List UInt8)→Option (Xaf×Int×Int×Int)) (s:List UInt8):Option (Xaf×Int):=
 (XbK s).bind fun t=>
 some ((t.1,t.2.2.2))
def rx12 (x:Xaf×Int):Xca:=⟨.tuple ⟨[.agg ⟨[.int .i64 x.1.Tuple.Proto,.bool x.1.Tuple.Src.V6,.int .u64 x.1.Tuple.Src.Hi,.int .u64 x.1.Tuple.Src.Lo,.bool x.1.Tuple.Dst.V6,.int .u64 x.1.Tuple.Dst.Hi,.int .u64 x.1.Tuple.Dst.Lo,.int .i64 x.1.Tuple.SPort,.int .i64 x.1.Tuple.DPort,.int .i64 x.1.Flags,.bool x.1.Stamped,.int .u32 x.1.Val,.int .u32 x.1.Echo,.bool x.1.Long,.string ⟨⟨x.1.CID⟩⟩,.int .i64 x.1.Size]⟩,.int .i64 x.2]⟩,[],[]⟩
def r12 (g:(List UInt8)→Option (Xaf×Int)):Dec:=dV asS fun (y0:List UInt8)=>XcO (ofG (g y0) rx12)
theorem r12_c {g:(List UInt8)→Option (Xaf×Int)} {y0:List UInt8} {x:Xaf×Int} (hx:g y0=some x):r12 g [.string ⟨⟨y0⟩⟩] []=some (rx12 x):=(XaT (Xcp)).trans (Xa0 hx)
def s12 (g:(List UInt8)→Option (Xaf×Int)):Xbr:=⟨[.v],r12 g⟩
theorem Ycl {g:(List UInt8)→Option (Xaf×Int)} {y0:List UInt8} {x:Xaf×Int} (hx:g y0=some x):(s12 g).run [.string ⟨⟨y0⟩⟩] []=some (rx12 x):=r12_c hx
abbrev XDr (XbK:(List UInt8)→Option (Xaf×Int×Int×Int)):List (Nat×Xbr):=[(62,s62 XbK)]
theorem XFs (XbK:(List UInt8)→Option (Xaf×Int×Int×Int)) (hS:Xai Tryz.prog (Xav (XDr XbK))) (s:List UInt8) (res:Xaf×Int) (h:XgG XbK s=some res) :
 XaI Tryz.prog 12 0 ⟨⟨12,17,[(0,.string ⟨⟨s⟩⟩)],[.code XUK],[],false,none⟩,[],[],0⟩ (fun v H _=>Res 0 (rx12 res) v H):=by
 unfold XgG at h
 refine Xa7 Xao hS true 3000 ?_
 conv=>whnf
 replace h:=Xal.elim h;obtain ⟨t,hy,h⟩:=h
 refine XaK.q rfl rfl (XCv hy) rfl rfl rfl ?_
 conv=>whnf
 all_goals (cases h;exact Res.z rfl rfl rfl)
theorem ok12 (XbK:(List UInt8)→Option (Xaf×Int×Int×Int)) (hS:Xai Tryz.prog (Xav (XDr XbK))):Xar Tryz.prog 12 (s12 (XgG XbK)):=by
 refine Xar.Xay Xao (fun ar os r ha hr=>?_) ⟨Tryz.f12,rfl,by decide,rfl⟩
 replace hr:r12 (XgG XbK) ar (XaD os)=some r:=hr
 unfold r12 at hr
 generalize hc:XaD os=C at hr
 replace hr:=dV.elim hr;obtain ⟨v0,l1,y0,rfl,e0,hr⟩:=hr;obtain rfl:=XbH _ _ e0
 replace hr:=Xc2 hr;obtain ⟨rfl,rfl,x,h,rfl⟩:=hr
 obtain rfl:=Xas hc
 exact ⟨_,rfl,XFs XbK hS _ x h⟩
def Xd3:(List UInt8)→Option (Xaf×Int):=XgG XbK
theorem lift12:Xar Tryz.prog 12 (s12 Xd3):=ok12 XbK (Xai.XaW ⟨XDk,trivial⟩)
def Xgw (XbK:(List UInt8)→Option (Xaf×Int×Int×Int)) (s:List UInt8):Option (Int×Int×Int):=
 (XbK s).bind fun t=>
 some ((t.2.1,t.2.2.1,t.2.2.2))
def rx17 (x:Int×Int×Int):Xca:=⟨.tuple ⟨[.int .i64 x.1,.int .i64 x.2.1,.int .i64 x.2.2]⟩,[],[]⟩
def r17 (g:(List UInt8)→Option (Int×Int×Int)):Dec:=dV asS fun (y0:List UInt8)=>XcO (ofG (g y0) rx17)
theorem r17_c {g:(List UInt8)→Option (Int×Int×Int)} {y0:List UInt8} {x:Int×Int×Int} (hx:g y0=some x):r17 g [.string ⟨⟨y0⟩⟩] []=some (rx17 x):=(XaT (Xcp)).trans (Xa0 hx)
def s17 (g:(List UInt8)→Option (Int×Int×Int)):Xbr:=⟨[.v],r17 g⟩
theorem X3D {g:(List UInt8)→Option (Int×Int×Int)} {y0:List UInt8} {x:Int×Int×Int} (hx:g y0=some x):(s17 g).run [.string ⟨⟨y0⟩⟩] []=some (rx17 x):=r17_c hx
abbrev XC8 (XbK:(List UInt8)→Option (Xaf×Int×Int×Int)):List (Nat×Xbr):=[(62,s62 XbK)]
theorem XHO (XbK:(List UInt8)→Option (Xaf×Int×Int×Int)) (hS:Xai Tryz.prog (Xav (XC8 XbK))) (s:List UInt8) (res:Int×Int×Int) (h:Xgw XbK s=some res) :
 XaI Tryz.prog 17 0 ⟨⟨17,19,[(0,.string ⟨⟨s⟩⟩)],[.code X3f],[],false,none⟩,[],[],0⟩ (fun v H _=>Res 0 (rx17 res) v H):=by
 unfold Xgw at h
 refine Xa7 Xao hS true 3000 ?_
 conv=>whnf
 replace h:=Xal.elim h;obtain ⟨t,hy,h⟩:=h
 refine XaK.q rfl rfl (XCv hy) rfl rfl rfl ?_
 conv=>whnf
 all_goals (cases h;exact Res.z rfl rfl rfl)
theorem ok17 (XbK:(List UInt8)→Option (Xaf×Int×Int×Int)) (hS:Xai Tryz.prog (Xav (XC8 XbK))):Xar Tryz.prog 17 (s17 (Xgw XbK)):=by
 refine Xar.Xay Xao (fun ar os r ha hr=>?_) ⟨Tryz.f17,rfl,by decide,rfl⟩
 replace hr:r17 (Xgw XbK) ar (XaD os)=some r:=hr
 unfold r17 at hr
 generalize hc:XaD os=C at hr
 replace hr:=dV.elim hr;obtain ⟨v0,l1,y0,rfl,e0,hr⟩:=hr;obtain rfl:=XbH _ _ e0
 replace hr:=Xc2 hr;obtain ⟨rfl,rfl,x,h,rfl⟩:=hr
 obtain rfl:=Xas hc
 exact ⟨_,rfl,XHO XbK hS _ x h⟩
def Xd6:(List UInt8)→Option (Int×Int×Int):=Xgw XbK
theorem lift17:Xar Tryz.prog 17 (s17 Xd6):=ok17 XbK (Xai.XaW ⟨XDk,trivial⟩)
end Go.Vm.Code
namespace Go.Vm.Code
open Go Go.Vm
def Xj3 (s:List UInt8):Xb1×Int:=
 if vK s 0 1/16=4 then (⟨(Xg9 s).1.Src,(Xg9 s).1.Dst,(Xg9 s).1.Proto,20+((Xg9 s).1.Options.length:Int),(Xg9 s).2.1⟩,(Xg9 s).2.2)
 else if vK s 0 1/16=6 then (⟨(Xi4 s).1.Src,(Xi4 s).1.Dst,(Xi4 s).1.Next,40,(Xi4 s).2.1⟩,(Xi4 s).2.2)
 else (⟨⟨false,0,0⟩,⟨false,0,0⟩,0,0,[]⟩,3)
theorem XqO (s:List UInt8):(Xg9 s).1.Options.length≤s.length∧(Xg9 s).2.1.length≤s.length:=by
 unfold Xg9
 repeat' split
 all_goals simp [Xl0]
 omega
theorem Xzp (s:List UInt8):(Xi4 s).2.1.length≤s.length:=by
 unfold Xi4
 repeat' split
 all_goals simp
 omega
theorem XEv {s:List UInt8} (hs:s.length<2^19) (hn:s≠[]):Xde s=some (Xj3 s):=by
 unfold Xde XhE Xj3
 have h0:0<s.length:=List.length_pos_iff.2 hn
 have e0:=XjK (s:=s) (p:=0) h0
 have r0:=XdT s 0 1 256 (by decide)
 obtain ⟨b1,b2⟩:=XqO s
 rw [List.getElem?_eq_getElem h0,Option.bind_some,←e0,Int.tdiv_eq_ediv_of_nonneg (by omega),wU8 (by omega) (by omega),XUB (by omega),XyX (by omega),Option.bind_some,Option.bind_some]
 by_cases g1:vK s 0 1/16=4
 ·rw [if_pos g1,show (vK s 0 1/16==4)=true by simpa using g1,cond_true]
  rw [Xcg (n:=20+((Xg9 s).1.Options.length:Int)) (by omega) (by omega)]
 ·rw [if_neg g1,show (vK s 0 1/16==4)=false by simpa using g1,cond_false,Option.bind_some,←e0,Int.tdiv_eq_ediv_of_nonneg (by omega),wU8 (by omega) (by omega)]
  by_cases g4:vK s 0 1/16=6
  ·rw [if_pos g4,show (vK s 0 1/16==6)=true by simpa using g4,cond_true]
  ·rw [if_neg g4,show (vK s 0 1/16==6)=false by simpa using g4,cond_false]
theorem XAM {s:List UInt8} (h:(Xj3 s).2≠0):(Xbd s).err=(Xj3 s).2:=by
 unfold Xj3 Xbd at *
 split
 ·rename_i g;rw [if_pos g] at h;rw [if_pos h];rfl
 ·rename_i g;rw [if_neg g] at h
  split
  ·rename_i g2;rw [if_pos g2] at h;rw [if_pos h];rfl
  ·rfl
theorem XvG {s:List UInt8} (h:(Xj3 s).2=0) (h2:(Xj3 s).1.size+((Xj3 s).1.body.length:Int)≠(s.length:Int)):(Xbd s).err=5:=by
 unfold Xj3 Xbd at *
 split
 ·rename_i g;rw [if_pos g] at h h2;rw [if_neg (by simpa using h),if_pos (by simp only [] at h2;omega)];rfl
 ·rename_i g;rw [if_neg g] at h h2
  split
  ·rename_i g2;rw [if_pos g2] at h h2;rw [if_neg (by simpa using h),if_pos (by simp only [] at h2;omega)];rfl
  ·rename_i g2;rw [if_neg g2] at h;exact absurd h (by decide)
theorem XEH {s:List UInt8} (h:(Xj3 s).2=0) (h2:(Xj3 s).1.size+((Xj3 s).1.body.length:Int)=(s.length:Int)):(Xbd s).err=0∧(Xj3 s).1=⟨(Xbd s).src,(Xbd s).dst,(Xbd s).proto,((Xbd s).size:Int),(Xbd s).body⟩:=by
 unfold Xj3 Xbd at *
 by_cases g:vK s 0 1/16=4
 ·rw [if_pos g] at h h2;rw [if_pos g,if_pos g,if_neg (by simpa using h),if_neg (by simp only [] at h2;omega)];exact ⟨rfl,rfl⟩
 ·rw [if_neg g] at h h2
  by_cases g2:vK s 0 1/16=6
  ·rw [if_pos g2] at h h2;rw [if_neg g,if_neg g,if_pos g2,if_pos g2,if_neg (by simpa using h),if_neg (by simp only [] at h2;omega)];exact ⟨rfl,rfl⟩
  ·rw [if_neg g2] at h;exact absurd h (by decide)
theorem XzX {b:List UInt8} {src dst:Xaa} (h:(XhY b src dst).2.2=0):20+(XhY b src dst).1.Options.length+(XhY b src dst).2.1.length=b.length:=by
 have r:=XdT b 12 1 256 (by decide)
 unfold XhY at h ⊢
 by_cases g0:b.length<20
 ·rw [if_pos g0] at h;exact absurd h (by decide)
 by_cases g1:4*(vK b 12 1/16)<20
 ·rw [if_neg g0,if_pos g1] at h;exact absurd h (by decide)
 by_cases g2:vK b 12 1%16≠0
 ·rw [if_neg g0,if_neg g1,if_pos g2] at h;exact absurd h (by decide)
 by_cases g3:(b.length:Int)<4*(vK b 12 1/16)
 ·rw [if_neg g0,if_neg g1,if_neg g2,if_pos g3] at h;exact absurd h (by decide)
 by_cases g4:Xln src dst 6 b.length=[]
 ·rw [if_neg g0,if_neg g1,if_neg g2,if_neg g3,if_pos g4] at h;exact absurd h (by decide)
 by_cases g5:norm (Xfk (Xln src dst 6 b.length++b))≠65535
 ·rw [if_neg g0,if_neg g1,if_neg g2,if_neg g3,if_neg g4,if_pos g5] at h;exact absurd h (by decide)
 by_cases g6:(Xkz ((b.drop 20).take ((4*(vK b 12 1/16)).toNat - 20))).2≠0
 ·rw [if_neg g0,if_neg g1,if_neg g2,if_neg g3,if_neg g4,if_neg g5,if_pos g6] at h;exact absurd h g6
 rw [if_neg g0,if_neg g1,if_neg g2,if_neg g3,if_neg g4,if_neg g5,if_neg g6]
 simp only [List.length_take,List.length_drop]
 omega
theorem Xq7 {s:List UInt8} (hs:s.length<2^19):XbK s=some ((XbM s).1,((XbM s).2.1:Int),((XbM s).2.2.1:Int),(XbM s).2.2.2):=by
 unfold XbK XhQ
 have hz:(⟨⟨0,⟨false,0,0⟩,⟨false,0,0⟩,0,0⟩,0,false,0,0,false,[],0⟩:Xaf)=zP:=rfl
 rw [hz]
 simp only []
 by_cases g1:9000<s.length
 ·have hT:XbM s=(zP,0,0,5):=by unfold XbM;rw [if_pos g1]
  rw [XaS (by omega),hT];rfl
 rw [XaO (by omega)]
 by_cases g2:s=[]
 ·subst g2;rfl
 rw [show (s==[])=false by simpa using g2,cond_false,XEv hs g2,Option.bind_some]
 by_cases g3:(Xj3 s).2=0
 ·rw [show ((Xj3 s).2 !=0)=false by simpa using g3,cond_false]
  have bs:(Xj3 s).1.body.length≤s.length∧0≤(Xj3 s).1.size∧(Xj3 s).1.size≤40+(s.length:Int):=by
   obtain ⟨b1,b2⟩:=XqO s
   have b3:=Xzp s
   unfold Xj3
   split
   ·exact ⟨b2,by simp only [];omega,by simp only [];omega⟩
   split
   ·exact ⟨b3,by simp only [];omega,by simp only [];omega⟩
   ·exact ⟨by simp,by simp only [];omega,by simp only [];omega⟩
  rw [Xcg (n:=(Xj3 s).1.size+((Xj3 s).1.body.length:Int)) (by omega) (by omega)]
  by_cases gl:(Xj3 s).1.size+((Xj3 s).1.body.length:Int)=(s.length:Int)
  ·obtain ⟨k1,k2⟩:=XEH g3 gl
   rw [show ((Xj3 s).1.size+((Xj3 s).1.body.length:Int) !=(s.length:Int))=false by simpa using gl,k2]
   simp only [cond_false]
   obtain ⟨a1,a2⟩:=XoS s
   have hb:=Xmb k1
   have hE:(Xgr (Xbd s) s.length).2.2≠0→XbM s=(zP,0,0,(Xgr (Xbd s) s.length).2.2):=fun g4=>by
    unfold XbM;rw [if_neg g1,if_neg g2,if_neg (by simpa using k1),if_pos g4]
   have hO:(Xgr (Xbd s) s.length).2.2=0→XbM s=((Xgr (Xbd s) s.length).1,s.length - (Xbd s).body.length,s.length - (Xgr (Xbd s) s.length).2.1,0):=fun g4=>by
    unfold XbM;rw [if_neg g1,if_neg g2,if_neg (by simpa using k1),if_neg (by simpa using g4)]
   generalize hO':Xbd s=o at *
   by_cases p6:o.proto=6
   ·rw [show (o.proto==6)=true by simpa using p6,cond_true,Xy8 a1 a2 (by omega),Option.bind_some]
    by_cases g:(XhY o.body o.src o.dst).2.2=0
    ·have hl7:=XzX g
     have hin:Xgr o s.length=(⟨⟨o.proto,o.src,o.dst,(XhY o.body o.src o.dst).1.SPort,(XhY o.body o.src o.dst).1.DPort⟩,(XhY o.body o.src o.dst).1.Flags,(XC9 (XhY o.body o.src o.dst).1.Options).1,(XC9 (XhY o.body o.src o.dst).1.Options).2.1,(XC9 (XhY o.body o.src o.dst).1.Options).2.2,false,[],s.length⟩,(XhY o.body o.src o.dst).2.1.length,0):=by
      unfold Xgr;rw [if_pos p6,if_neg (by simpa using g)]
     rw [hO (by rw [hin]),hin]
     rw [show ((XhY o.body o.src o.dst).2.2 !=0)=false by simpa using g,cond_false,XPB (by omega),Option.bind_some]
     simp only []
     rw [Xcg (n:=(o.size:Int)+20) (by omega) (by omega),Xcg (n:=(o.size:Int)+20+((XhY o.body o.src o.dst).1.Options.length:Int)) (by omega) (by omega),show ((s.length - o.body.length:Nat):Int)=(o.size:Int) by omega,show ((s.length - (XhY o.body o.src o.dst).2.1.length:Nat):Int)=(o.size:Int)+20+((XhY o.body o.src o.dst).1.Options.length:Int) by omega]
     unfold XC9
     by_cases g5:0≤(XjG (XhY o.body o.src o.dst).1.Options).2.2
     ·rw [if_pos g5,XaS (by omega)]
     ·rw [if_neg g5,XaO (by omega)]
    ·have hin:Xgr o s.length=(zP,0,(XhY o.body o.src o.dst).2.2):=by
      unfold Xgr;rw [if_pos p6,if_pos g]
     rw [hE (by rw [hin];exact g),hin,show ((XhY o.body o.src o.dst).2.2 !=0)=true by simpa using g];rfl
   ·rw [show (o.proto==6)=false by simpa using p6,cond_false]
    by_cases p17:o.proto=17
    ·rw [show (o.proto !=17)=false by simpa using p17,cond_false,XAc a1 a2 (by omega),Option.bind_some]
     by_cases g:(Xha o.body o.src o.dst).2.2=0
     ·have hb8:(Xha o.body o.src o.dst).2.1.length≤o.body.length:=by
       unfold Xha
       repeat' split
       all_goals simp
       all_goals omega
      rw [show ((Xha o.body o.src o.dst).2.2 !=0)=false by simpa using g,cond_false]
      rw [Xcg (n:=((Xha o.body o.src o.dst).2.1.length:Int)+8) (by omega) (by omega)]
      by_cases g6:(Xha o.body o.src o.dst).2.1.length+8=o.body.length
      ·have hin:Xgr o s.length=(⟨⟨o.proto,o.src,o.dst,(Xha o.body o.src o.dst).1.SPort,(Xha o.body o.src o.dst).1.DPort⟩,0,false,0,0,(XR8 (Xha o.body o.src o.dst).2.1).1,(XR8 (Xha o.body o.src o.dst).2.1).2,s.length⟩,(Xha o.body o.src o.dst).2.1.length,0):=by
        unfold Xgr;rw [if_neg p6,if_pos p17,if_neg (by simpa using g),if_neg (by simpa using g6)]
       rw [hO (by rw [hin]),hin,show (((Xha o.body o.src o.dst).2.1.length:Int)+8 !=(o.body.length:Int))=false by simp;omega,cond_false,XyI (by omega),Option.bind_some,Xcg (n:=(o.size:Int)+8) (by omega) (by omega)]
       simp only []
       rw [show ((s.length - o.body.length:Nat):Int)=(o.size:Int) by omega,show ((s.length - (Xha o.body o.src o.dst).2.1.length:Nat):Int)=(o.size:Int)+8 by omega]
       unfold XR8
       by_cases g5:(Xsk (Xha o.body o.src o.dst).2.1).2=0
       ·rw [if_pos g5,show ((Xsk (Xha o.body o.src o.dst).2.1).2==0)=true by simpa using g5,cond_true]
       ·rw [if_neg g5,show ((Xsk (Xha o.body o.src o.dst).2.1).2==0)=false by simpa using g5,cond_false]
      ·have hin:Xgr o s.length=(zP,0,5):=by
        unfold Xgr;rw [if_neg p6,if_pos p17,if_neg (by simpa using g),if_pos g6]
       rw [hE (by rw [hin];decide),hin,show (((Xha o.body o.src o.dst).2.1.length:Int)+8 !=(o.body.length:Int))=true by simp;omega];rfl
     ·have hin:Xgr o s.length=(zP,0,(Xha o.body o.src o.dst).2.2):=by
       unfold Xgr;rw [if_neg p6,if_pos p17,if_pos g]
      rw [hE (by rw [hin];exact g),hin,show ((Xha o.body o.src o.dst).2.2 !=0)=true by simpa using g];rfl
    ·have hin:Xgr o s.length=(zP,0,6):=by
      unfold Xgr;rw [if_neg p6,if_neg p17]
     rw [hE (by rw [hin];decide),hin,show (o.proto !=17)=true by simpa using p17];rfl
  ·have hT:XbM s=(zP,0,0,5):=by
    have e:=XvG g3 gl
    unfold XbM;rw [if_neg g1,if_neg g2,if_pos (by rw [e];decide),e]
   rw [hT,show ((Xj3 s).1.size+((Xj3 s).1.body.length:Int) !=(s.length:Int))=true by simpa using gl];rfl
 ·have hT:XbM s=(zP,0,0,(Xj3 s).2):=by
   have e:=XAM g3
   unfold XbM;rw [if_neg g1,if_neg g2,if_pos (by rw [e];exact g3),e]
  rw [hT,show ((Xj3 s).2 !=0)=true by simpa using g3];rfl
theorem Xwd {s:List UInt8} (hs:s.length<2^19):Xd3 s=some ((XbM s).1,(XbM s).2.2.2):=by
 unfold Xd3 XgG
 rw [Xq7 hs,Option.bind_some]
theorem Xu1 {s:List UInt8} (hs:s.length<2^19):Xd6 s=some (((XbM s).2.1:Int),((XbM s).2.2.1:Int),(XbM s).2.2.2):=by
 unfold Xd6 Xgw
 rw [Xq7 hs,Option.bind_some]
end Go.Vm.Code
namespace Go.Vm.Code
open Go Go.Vm Go.Proofs
set_option maxRecDepth 100000
set_option maxHeartbeats 4000000
set_option linter.unusedVariables false
def XfP (Xax:Xaa→Option Bool) (XbU:Xag→(List UInt8)→Option ((List UInt8)×Int)) (Xce:Xaj→(List UInt8)→Option ((List UInt8)×Int)) (t:Xah) (body:List UInt8):Option ((List UInt8)×Int):=
 cond (t.Proto==6)
  (
  cond (!(t.Src.V6==t.Dst.V6))
   (
   some (([],1)))
   (
   (Xax t.Src).bind fun xr=>
   cond (!xr)
    (
    some (([],1)))
    (
    (Xax t.Dst).bind fun xr1=>
    cond (!xr1)
     (
     some (([],1)))
     (
     cond (t.Src.V6)
      (
      (Xce (Xaj.mk 0 0 t.Proto 64 t.Src t.Dst) body).bind fun p=>
      cond (p.2==0)
       (
       cond (decide ((p.1.length:Int)>9000))
        (
        some (([],5)))
        (
        some ((p.1,p.2))))
       (
       some ((p.1,p.2))))
      (
      (XbU (Xag.mk 0 0 true 64 t.Proto t.Src t.Dst []) body).bind fun p1=>
      cond (p1.2==0)
       (
       cond (decide ((p1.1.length:Int)>9000))
        (
        some (([],5)))
        (
        some ((p1.1,p1.2))))
       (
       some ((p1.1,p1.2))))))))
  (
  cond (!(t.Proto==17))
   (
   some (([],1)))
   (
   cond (!(t.Src.V6==t.Dst.V6))
    (
    some (([],1)))
    (
    (Xax t.Src).bind fun xr2=>
    cond (!xr2)
     (
     some (([],1)))
     (
     (Xax t.Dst).bind fun xr3=>
     cond (!xr3)
      (
      some (([],1)))
      (
      cond (t.Src.V6)
       (
       (Xce (Xaj.mk 0 0 t.Proto 64 t.Src t.Dst) body).bind fun p2=>
       cond (p2.2==0)
        (
        cond (decide ((p2.1.length:Int)>9000))
         (
         some (([],5)))
         (
         some ((p2.1,p2.2))))
        (
        some ((p2.1,p2.2))))
       (
       (XbU (Xag.mk 0 0 true 64 t.Proto t.Src t.Dst []) body).bind fun p3=>
       cond (p3.2==0)
        (
        cond (decide ((p3.1.length:Int)>9000))
         (
         some (([],5)))
         (
         some ((p3.1,p3.2))))
        (
        some ((p3.1,p3.2)))))))))
def rx27 (x:(List UInt8)×Int):Xca:=⟨.tuple ⟨[.string ⟨⟨x.1⟩⟩,.int .i64 x.2]⟩,[],[]⟩
def r27 (g:Xah→(List UInt8)→Option ((List UInt8)×Int)):Dec:=dV Xdi fun (y0:Xah)=>dV asS fun (y1:List UInt8)=>XcO (ofG (g y0 y1) rx27)
theorem r27_c {g:Xah→(List UInt8)→Option ((List UInt8)×Int)} {y0:Xah} {y1:List UInt8} {x:(List UInt8)×Int} (hx:g y0 y1=some x):r27 g [.agg ⟨[.int .i64 y0.Proto,.bool y0.Src.V6,.int .u64 y0.Src.Hi,.int .u64 y0.Src.Lo,.bool y0.Dst.V6,.int .u64 y0.Dst.Hi,.int .u64 y0.Dst.Lo,.int .i64 y0.SPort,.int .i64 y0.DPort]⟩,.string ⟨⟨y1⟩⟩] []=some (rx27 x):=(XaT (Xet _)).trans ((XaT (Xcp)).trans (Xa0 hx))
def s27 (g:Xah→(List UInt8)→Option ((List UInt8)×Int)):Xbr:=⟨[.v,.v],r27 g⟩
theorem Xwj {g:Xah→(List UInt8)→Option ((List UInt8)×Int)} {y0:Xah} {y1:List UInt8} {x:(List UInt8)×Int} (hx:g y0 y1=some x):(s27 g).run [.agg ⟨[.int .i64 y0.Proto,.bool y0.Src.V6,.int .u64 y0.Src.Hi,.int .u64 y0.Src.Lo,.bool y0.Dst.V6,.int .u64 y0.Dst.Hi,.int .u64 y0.Dst.Lo,.int .i64 y0.SPort,.int .i64 y0.DPort]⟩,.string ⟨⟨y1⟩⟩] []=some (rx27 x):=r27_c hx
abbrev XBZ (Xax:Xaa→Option Bool) (XbU:Xag→(List UInt8)→Option ((List UInt8)×Int)) (Xce:Xaj→(List UInt8)→Option ((List UInt8)×Int)):List (Nat×Xbr):=[(81,s81 Xax),(83,s83 XbU),(82,s82 Xce)]
theorem XOK (Xax:Xaa→Option Bool) (XbU:Xag→(List UInt8)→Option ((List UInt8)×Int)) (Xce:Xaj→(List UInt8)→Option ((List UInt8)×Int)) (hS:Xai Tryz.prog (Xav (XBZ Xax XbU Xce))) (t:Xah) (body:List UInt8) (res:(List UInt8)×Int) (h:XfP Xax XbU Xce t body=some res) :
 XaI Tryz.prog 27 0 ⟨⟨27,76,[(0,.agg ⟨[.int .i64 t.Proto,.bool t.Src.V6,.int .u64 t.Src.Hi,.int .u64 t.Src.Lo,.bool t.Dst.V6,.int .u64 t.Dst.Hi,.int .u64 t.Dst.Lo,.int .i64 t.SPort,.int .i64 t.DPort]⟩),(1,.string ⟨⟨body⟩⟩)],[.code XDj],[],false,none⟩,[],[],0⟩ (fun v H _=>Res 0 (rx27 res) v H):=by
 unfold XfP at h
 refine Xa7 Xao hS true 3000 ?_
 conv=>whnf
 refine br.h h ?_ ?_ ?_
 ·rfl
 ·clear h;intro hb h;conv=>whnf
  refine br.h h ?_ ?_ ?_
  ·rfl
  ·clear h;intro hb h;conv=>whnf
   all_goals (cases h;exact Res.z rfl rfl rfl)
  clear h;intro hb h;conv=>whnf
  replace h:=Xal.elim h;obtain ⟨xr,hy,h⟩:=h
  refine XaK.q rfl rfl (Xlg hy) rfl rfl rfl ?_
  conv=>whnf
  refine br.h h ?_ ?_ ?_
  ·rfl
  ·clear h;intro hb h;conv=>whnf
   all_goals (cases h;exact Res.z rfl rfl rfl)
  clear h;intro hb h;conv=>whnf
  replace h:=Xal.elim h;obtain ⟨xr1,hy,h⟩:=h
  refine XaK.q rfl rfl (Xlg hy) rfl rfl rfl ?_
  conv=>whnf
  refine br.h h ?_ ?_ ?_
  ·rfl
  ·clear h;intro hb h;conv=>whnf
   all_goals (cases h;exact Res.z rfl rfl rfl)
  clear h;intro hb h;conv=>whnf
  refine br.h h ?_ ?_ ?_
  ·rfl
  ·clear h;intro hb h;conv=>whnf
   replace h:=Xal.elim h;obtain ⟨p,hy,h⟩:=h
   refine XaK.q rfl rfl (XCR hy) rfl rfl rfl ?_
   conv=>whnf
   refine br.h2 h ?_ ?_ ?_
   ·rfl
   ·clear h;intro hb h;conv=>whnf
    all_goals (cases h;exact Res.z rfl rfl rfl)
   clear h;intro hb h;conv=>whnf
   refine br.h h ?_ ?_ ?_
   ·rfl
   ·clear h;intro hb h;conv=>whnf
    all_goals (cases h;exact Res.z rfl rfl rfl)
   clear h;intro hb h;conv=>whnf
   all_goals (cases h;exact Res.z rfl rfl rfl)
  clear h;intro hb h;conv=>whnf
  replace h:=Xal.elim h;obtain ⟨p1,hy,h⟩:=h
  refine XaK.q rfl rfl (XBN hy) rfl rfl rfl ?_
  conv=>whnf
  refine br.h2 h ?_ ?_ ?_
  ·rfl
  ·clear h;intro hb h;conv=>whnf
   all_goals (cases h;exact Res.z rfl rfl rfl)
  clear h;intro hb h;conv=>whnf
  refine br.h h ?_ ?_ ?_
  ·rfl
  ·clear h;intro hb h;conv=>whnf
   all_goals (cases h;exact Res.z rfl rfl rfl)
  clear h;intro hb h;conv=>whnf
  all_goals (cases h;exact Res.z rfl rfl rfl)
 clear h;intro hb h;conv=>whnf
 refine br.h h ?_ ?_ ?_
 ·rfl
 ·clear h;intro hb h;conv=>whnf
  all_goals (cases h;exact Res.z rfl rfl rfl)
 clear h;intro hb h;conv=>whnf
 refine br.h h ?_ ?_ ?_
 ·rfl
 ·clear h;intro hb h;conv=>whnf
  all_goals (cases h;exact Res.z rfl rfl rfl)
 clear h;intro hb h;conv=>whnf
 replace h:=Xal.elim h;obtain ⟨xr2,hy,h⟩:=h
 refine XaK.q rfl rfl (Xlg hy) rfl rfl rfl ?_
 conv=>whnf
 refine br.h h ?_ ?_ ?_
 ·rfl
 ·clear h;intro hb h;conv=>whnf
  all_goals (cases h;exact Res.z rfl rfl rfl)
 clear h;intro hb h;conv=>whnf
 replace h:=Xal.elim h;obtain ⟨xr3,hy,h⟩:=h
 refine XaK.q rfl rfl (Xlg hy) rfl rfl rfl ?_
 conv=>whnf
 refine br.h h ?_ ?_ ?_
 ·rfl
 ·clear h;intro hb h;conv=>whnf
  all_goals (cases h;exact Res.z rfl rfl rfl)
 clear h;intro hb h;conv=>whnf
 refine br.h h ?_ ?_ ?_
 ·rfl
 ·clear h;intro hb h;conv=>whnf
  replace h:=Xal.elim h;obtain ⟨p2,hy,h⟩:=h
  refine XaK.q rfl rfl (XCR hy) rfl rfl rfl ?_
  conv=>whnf
  refine br.h2 h ?_ ?_ ?_
  ·rfl
  ·clear h;intro hb h;conv=>whnf
   all_goals (cases h;exact Res.z rfl rfl rfl)
  clear h;intro hb h;conv=>whnf
  refine br.h h ?_ ?_ ?_
  ·rfl
  ·clear h;intro hb h;conv=>whnf
   all_goals (cases h;exact Res.z rfl rfl rfl)
  clear h;intro hb h;conv=>whnf
  all_goals (cases h;exact Res.z rfl rfl rfl)
 clear h;intro hb h;conv=>whnf
 replace h:=Xal.elim h;obtain ⟨p3,hy,h⟩:=h
 refine XaK.q rfl rfl (XBN hy) rfl rfl rfl ?_
 conv=>whnf
 refine br.h2 h ?_ ?_ ?_
 ·rfl
 ·clear h;intro hb h;conv=>whnf
  all_goals (cases h;exact Res.z rfl rfl rfl)
 clear h;intro hb h;conv=>whnf
 refine br.h h ?_ ?_ ?_
 ·rfl
 ·clear h;intro hb h;conv=>whnf
  all_goals (cases h;exact Res.z rfl rfl rfl)
 clear h;intro hb h;conv=>whnf
 all_goals (cases h;exact Res.z rfl rfl rfl)
theorem ok27 (Xax:Xaa→Option Bool) (XbU:Xag→(List UInt8)→Option ((List UInt8)×Int)) (Xce:Xaj→(List UInt8)→Option ((List UInt8)×Int)) (hS:Xai Tryz.prog (Xav (XBZ Xax XbU Xce))):Xar Tryz.prog 27 (s27 (XfP Xax XbU Xce)):=by
 refine Xar.Xay Xao (fun ar os r ha hr=>?_) ⟨Tryz.f27,rfl,by decide,rfl⟩
 replace hr:r27 (XfP Xax XbU Xce) ar (XaD os)=some r:=hr
 unfold r27 at hr
 generalize hc:XaD os=C at hr
 replace hr:=dV.elim hr;obtain ⟨v0,l1,y0,rfl,e0,hr⟩:=hr;obtain rfl:=XdJ _ _ e0
 replace hr:=dV.elim hr;obtain ⟨v1,l2,y1,rfl,e1,hr⟩:=hr;obtain rfl:=XbH _ _ e1
 replace hr:=Xc2 hr;obtain ⟨rfl,rfl,x,h,rfl⟩:=hr
 obtain rfl:=Xas hc
 exact ⟨_,rfl,XOK Xax XbU Xce hS _ _ x h⟩
def XaZ:Xah→(List UInt8)→Option ((List UInt8)×Int):=XfP Xax XbU Xce
theorem XB8:Xar Tryz.prog 27 (s27 XaZ):=ok27 Xax XbU Xce (Xai.XaW ⟨XqR,X0e,X1Z,trivial⟩)
def Xdq (XaZ:Xah→(List UInt8)→Option ((List UInt8)×Int)) (Xd8:Xak→Xaa→Xaa→(List UInt8)→Option ((List UInt8)×Int)) (t:Xah) (flags:Int) (options:List UInt8) (payload:List UInt8):Option ((List UInt8)×Int):=
 cond (t.Proto !=6)
  (
  some (([],1)))
  (
  (Xd8 (Xak.mk t.SPort t.DPort 0 0 flags 65535 0 options) t.Src t.Dst payload).bind fun p=>
  cond (p.2 !=0)
   (
   some (([],p.2)))
   (
   (XaZ t p.1).bind fun p1=>
   some ((p1.1,p1.2))))
def rx23 (x:(List UInt8)×Int):Xca:=⟨.tuple ⟨[.string ⟨⟨x.1⟩⟩,.int .i64 x.2]⟩,[],[]⟩
def r23 (g:Xah→Int→(List UInt8)→(List UInt8)→Option ((List UInt8)×Int)):Dec:=dV Xdi fun (y0:Xah)=>dV (asI .i64) fun (y1:Int)=>dV asS fun (y2:List UInt8)=>dV asS fun (y3:List UInt8)=>XcO (ofG (g y0 y1 y2 y3) rx23)
theorem r23_c {g:Xah→Int→(List UInt8)→(List UInt8)→Option ((List UInt8)×Int)} {y0:Xah} {y1:Int} {y2:List UInt8} {y3:List UInt8} {x:(List UInt8)×Int} (hx:g y0 y1 y2 y3=some x):r23 g [.agg ⟨[.int .i64 y0.Proto,.bool y0.Src.V6,.int .u64 y0.Src.Hi,.int .u64 y0.Src.Lo,.bool y0.Dst.V6,.int .u64 y0.Dst.Hi,.int .u64 y0.Dst.Lo,.int .i64 y0.SPort,.int .i64 y0.DPort]⟩,.int .i64 y1,.string ⟨⟨y2⟩⟩,.string ⟨⟨y3⟩⟩] []=some (rx23 x):=(XaT (Xet _)).trans ((XaT (Xc3 _)).trans ((XaT (Xcp)).trans ((XaT (Xcp)).trans (Xa0 hx))))
def s23 (g:Xah→Int→(List UInt8)→(List UInt8)→Option ((List UInt8)×Int)):Xbr:=⟨[.v,.v,.v,.v],r23 g⟩
theorem XBR {g:Xah→Int→(List UInt8)→(List UInt8)→Option ((List UInt8)×Int)} {y0:Xah} {y1:Int} {y2:List UInt8} {y3:List UInt8} {x:(List UInt8)×Int} (hx:g y0 y1 y2 y3=some x):(s23 g).run [.agg ⟨[.int .i64 y0.Proto,.bool y0.Src.V6,.int .u64 y0.Src.Hi,.int .u64 y0.Src.Lo,.bool y0.Dst.V6,.int .u64 y0.Dst.Hi,.int .u64 y0.Dst.Lo,.int .i64 y0.SPort,.int .i64 y0.DPort]⟩,.int .i64 y1,.string ⟨⟨y2⟩⟩,.string ⟨⟨y3⟩⟩] []=some (rx23 x):=r23_c hx
abbrev XBS (XaZ:Xah→(List UInt8)→Option ((List UInt8)×Int)) (Xd8:Xak→Xaa→Xaa→(List UInt8)→Option ((List UInt8)×Int)):List (Nat×Xbr):=[(27,s27 XaZ),(77,s77 Xd8)]
theorem XOx (XaZ:Xah→(List UInt8)→Option ((List UInt8)×Int)) (Xd8:Xak→Xaa→Xaa→(List UInt8)→Option ((List UInt8)×Int)) (hS:Xai Tryz.prog (Xav (XBS XaZ Xd8))) (t:Xah) (flags:Int) (options:List UInt8) (payload:List UInt8) (res:(List UInt8)×Int) (h:Xdq XaZ Xd8 t flags options payload=some res) :
 XaI Tryz.prog 23 0 ⟨⟨23,41,[(0,.agg ⟨[.int .i64 t.Proto,.bool t.Src.V6,.int .u64 t.Src.Hi,.int .u64 t.Src.Lo,.bool t.Dst.V6,.int .u64 t.Dst.Hi,.int .u64 t.Dst.Lo,.int .i64 t.SPort,.int .i64 t.DPort]⟩),(1,.int .i64 flags),(2,.string ⟨⟨options⟩⟩),(3,.string ⟨⟨payload⟩⟩)],[.code XBQ],[],false,none⟩,[],[],0⟩ (fun v H _=>Res 0 (rx23 res) v H):=by
 unfold Xdq at h
 refine Xa7 Xao hS true 3000 ?_
 conv=>whnf
 refine br.h h ?_ ?_ ?_
 ·rfl
 ·clear h;intro hb h;conv=>whnf
  all_goals (cases h;exact Res.z rfl rfl rfl)
 clear h;intro hb h;conv=>whnf
 replace h:=Xal.elim h;obtain ⟨p,hy,h⟩:=h
 refine XaK.q rfl rfl (X3q hy) rfl rfl rfl ?_
 conv=>whnf
 refine br.h h ?_ ?_ ?_
 ·rfl
 ·clear h;intro hb h;conv=>whnf
  all_goals (cases h;exact Res.z rfl rfl rfl)
 clear h;intro hb h;conv=>whnf
 replace h:=Xal.elim h;obtain ⟨p1,hy,h⟩:=h
 refine XaK.q rfl rfl (Xwj hy) rfl rfl rfl ?_
 conv=>whnf
 all_goals (cases h;exact Res.z rfl rfl rfl)
theorem ok23 (XaZ:Xah→(List UInt8)→Option ((List UInt8)×Int)) (Xd8:Xak→Xaa→Xaa→(List UInt8)→Option ((List UInt8)×Int)) (hS:Xai Tryz.prog (Xav (XBS XaZ Xd8))):Xar Tryz.prog 23 (s23 (Xdq XaZ Xd8)):=by
 refine Xar.Xay Xao (fun ar os r ha hr=>?_) ⟨Tryz.f23,rfl,by decide,rfl⟩
 replace hr:r23 (Xdq XaZ Xd8) ar (XaD os)=some r:=hr
 unfold r23 at hr
 generalize hc:XaD os=C at hr
 replace hr:=dV.elim hr;obtain ⟨v0,l1,y0,rfl,e0,hr⟩:=hr;obtain rfl:=XdJ _ _ e0
 replace hr:=dV.elim hr;obtain ⟨v1,l2,y1,rfl,e1,hr⟩:=hr;obtain rfl:=XbS _ _ _ e1
 replace hr:=dV.elim hr;obtain ⟨v2,l3,y2,rfl,e2,hr⟩:=hr;obtain rfl:=XbH _ _ e2
 replace hr:=dV.elim hr;obtain ⟨v3,l4,y3,rfl,e3,hr⟩:=hr;obtain rfl:=XbH _ _ e3
 replace hr:=Xc2 hr;obtain ⟨rfl,rfl,x,h,rfl⟩:=hr
 obtain rfl:=Xas hc
 exact ⟨_,rfl,XOx XaZ Xd8 hS _ _ _ _ x h⟩
def XaX:Xah→Int→(List UInt8)→(List UInt8)→Option ((List UInt8)×Int):=Xdq XaZ Xd8
theorem X0a:Xar Tryz.prog 23 (s23 XaX):=ok23 XaZ Xd8 (Xai.XaW ⟨XB8,X9d,trivial⟩)
def Xda (XaZ:Xah→(List UInt8)→Option ((List UInt8)×Int)) (Xei:Xat→Xaa→Xaa→(List UInt8)→Option ((List UInt8)×Int)) (t:Xah) (payload:List UInt8):Option ((List UInt8)×Int):=
 cond (t.Proto !=17)
  (
  some (([],1)))
  (
  (Xei (Xat.mk t.SPort t.DPort) t.Src t.Dst payload).bind fun p=>
  cond (p.2 !=0)
   (
   some (([],p.2)))
   (
   (XaZ t p.1).bind fun p1=>
   some ((p1.1,p1.2))))
def rx25 (x:(List UInt8)×Int):Xca:=⟨.tuple ⟨[.string ⟨⟨x.1⟩⟩,.int .i64 x.2]⟩,[],[]⟩
def r25 (g:Xah→(List UInt8)→Option ((List UInt8)×Int)):Dec:=dV Xdi fun (y0:Xah)=>dV asS fun (y1:List UInt8)=>XcO (ofG (g y0 y1) rx25)
theorem r25_c {g:Xah→(List UInt8)→Option ((List UInt8)×Int)} {y0:Xah} {y1:List UInt8} {x:(List UInt8)×Int} (hx:g y0 y1=some x):r25 g [.agg ⟨[.int .i64 y0.Proto,.bool y0.Src.V6,.int .u64 y0.Src.Hi,.int .u64 y0.Src.Lo,.bool y0.Dst.V6,.int .u64 y0.Dst.Hi,.int .u64 y0.Dst.Lo,.int .i64 y0.SPort,.int .i64 y0.DPort]⟩,.string ⟨⟨y1⟩⟩] []=some (rx25 x):=(XaT (Xet _)).trans ((XaT (Xcp)).trans (Xa0 hx))
def s25 (g:Xah→(List UInt8)→Option ((List UInt8)×Int)):Xbr:=⟨[.v,.v],r25 g⟩
theorem X9C {g:Xah→(List UInt8)→Option ((List UInt8)×Int)} {y0:Xah} {y1:List UInt8} {x:(List UInt8)×Int} (hx:g y0 y1=some x):(s25 g).run [.agg ⟨[.int .i64 y0.Proto,.bool y0.Src.V6,.int .u64 y0.Src.Hi,.int .u64 y0.Src.Lo,.bool y0.Dst.V6,.int .u64 y0.Dst.Hi,.int .u64 y0.Dst.Lo,.int .i64 y0.SPort,.int .i64 y0.DPort]⟩,.string ⟨⟨y1⟩⟩] []=some (rx25 x):=r25_c hx
abbrev XCX (XaZ:Xah→(List UInt8)→Option ((List UInt8)×Int)) (Xei:Xat→Xaa→Xaa→(List UInt8)→Option ((List UInt8)×Int)):List (Nat×Xbr):=[(27,s27 XaZ),(79,s79 Xei)]
theorem XQa (XaZ:Xah→(List UInt8)→Option ((List UInt8)×Int)) (Xei:Xat→Xaa→Xaa→(List UInt8)→Option ((List UInt8)×Int)) (hS:Xai Tryz.prog (Xav (XCX XaZ Xei))) (t:Xah) (payload:List UInt8) (res:(List UInt8)×Int) (h:Xda XaZ Xei t payload=some res) :
 XaI Tryz.prog 25 0 ⟨⟨25,33,[(0,.agg ⟨[.int .i64 t.Proto,.bool t.Src.V6,.int .u64 t.Src.Hi,.int .u64 t.Src.Lo,.bool t.Dst.V6,.int .u64 t.Dst.Hi,.int .u64 t.Dst.Lo,.int .i64 t.SPort,.int .i64 t.DPort]⟩),(1,.string ⟨⟨payload⟩⟩)],[.code XBG],[],false,none⟩,[],[],0⟩ (fun v H _=>Res 0 (rx25 res) v H):=by
 unfold Xda at h
 refine Xa7 Xao hS true 3000 ?_
 conv=>whnf
 refine br.h h ?_ ?_ ?_
 ·rfl
 ·clear h;intro hb h;conv=>whnf
  all_goals (cases h;exact Res.z rfl rfl rfl)
 clear h;intro hb h;conv=>whnf
 replace h:=Xal.elim h;obtain ⟨p,hy,h⟩:=h
 refine XaK.q rfl rfl (XXf hy) rfl rfl rfl ?_
 conv=>whnf
 refine br.h h ?_ ?_ ?_
 ·rfl
 ·clear h;intro hb h;conv=>whnf
  all_goals (cases h;exact Res.z rfl rfl rfl)
 clear h;intro hb h;conv=>whnf
 replace h:=Xal.elim h;obtain ⟨p1,hy,h⟩:=h
 refine XaK.q rfl rfl (Xwj hy) rfl rfl rfl ?_
 conv=>whnf
 all_goals (cases h;exact Res.z rfl rfl rfl)
theorem ok25 (XaZ:Xah→(List UInt8)→Option ((List UInt8)×Int)) (Xei:Xat→Xaa→Xaa→(List UInt8)→Option ((List UInt8)×Int)) (hS:Xai Tryz.prog (Xav (XCX XaZ Xei))):Xar Tryz.prog 25 (s25 (Xda XaZ Xei)):=by
 refine Xar.Xay Xao (fun ar os r ha hr=>?_) ⟨Tryz.f25,rfl,by decide,rfl⟩
 replace hr:r25 (Xda XaZ Xei) ar (XaD os)=some r:=hr
 unfold r25 at hr
 generalize hc:XaD os=C at hr
 replace hr:=dV.elim hr;obtain ⟨v0,l1,y0,rfl,e0,hr⟩:=hr;obtain rfl:=XdJ _ _ e0
 replace hr:=dV.elim hr;obtain ⟨v1,l2,y1,rfl,e1,hr⟩:=hr;obtain rfl:=XbH _ _ e1
 replace hr:=Xc2 hr;obtain ⟨rfl,rfl,x,h,rfl⟩:=hr
 obtain rfl:=Xas hc
 exact ⟨_,rfl,XQa XaZ Xei hS _ _ x h⟩
def XbR:Xah→(List UInt8)→Option ((List UInt8)×Int):=Xda XaZ Xei
theorem lift25:Xar Tryz.prog 25 (s25 XbR):=ok25 XaZ Xei (Xai.XaW ⟨XB8,X4T,trivial⟩)
def Xjl (XaF:Xaa→Option Bool) (XdP:Xag→(List UInt8)→Option ((List UInt8)×Int)) (XdS:Xaj→(List UInt8)→Option ((List UInt8)×Int)) (t:Xah) (body:List UInt8):Option ((List UInt8)×Int):=
 cond (!(t.Src.V6==t.Dst.V6))
  (
  some (([],1)))
  (
  (XaF t.Src).bind fun xr=>
  cond (!xr)
   (
   some (([],1)))
   (
   (XaF t.Dst).bind fun xr1=>
   cond (!xr1)
    (
    some (([],1)))
    (
    cond (t.Proto !=6)
     (
     cond (t.Proto !=17)
      (
      some (([],1)))
      (
      (XdS (Xaj.mk 0 0 t.Proto 64 t.Src t.Dst) body).bind fun p=>
      cond (!t.Src.V6)
       (
       (XdP (Xag.mk 0 0 true 64 t.Proto t.Src t.Dst []) body).bind fun p1=>
       cond (p1.2==0)
        (
        cond (decide ((p1.1.length:Int)>9000))
         (
         some (([],5)))
         (
         some ((p1.1,p1.2))))
        (
        some ((p1.1,p1.2))))
       (
       cond (p.2==0)
        (
        cond (decide ((p.1.length:Int)>9000))
         (
         some (([],5)))
         (
         some ((p.1,p.2))))
        (
        some ((p.1,p.2))))))
     (
     (XdS (Xaj.mk 0 0 t.Proto 64 t.Src t.Dst) body).bind fun p2=>
     cond (!t.Src.V6)
      (
      (XdP (Xag.mk 0 0 true 64 t.Proto t.Src t.Dst []) body).bind fun p3=>
      cond (p3.2==0)
       (
       cond (decide ((p3.1.length:Int)>9000))
        (
        some (([],5)))
        (
        some ((p3.1,p3.2))))
       (
       some ((p3.1,p3.2))))
      (
      cond (p2.2==0)
       (
       cond (decide ((p2.1.length:Int)>9000))
        (
        some (([],5)))
        (
        some ((p2.1,p2.2))))
       (
       some ((p2.1,p2.2))))))))
def rx28 (x:(List UInt8)×Int):Xca:=⟨.tuple ⟨[.string ⟨⟨x.1⟩⟩,.int .i64 x.2]⟩,[],[]⟩
def r28 (g:Xah→(List UInt8)→Option ((List UInt8)×Int)):Dec:=dV Xdi fun (y0:Xah)=>dV asS fun (y1:List UInt8)=>XcO (ofG (g y0 y1) rx28)
theorem r28_c {g:Xah→(List UInt8)→Option ((List UInt8)×Int)} {y0:Xah} {y1:List UInt8} {x:(List UInt8)×Int} (hx:g y0 y1=some x):r28 g [.agg ⟨[.int .i64 y0.Proto,.bool y0.Src.V6,.int .u64 y0.Src.Hi,.int .u64 y0.Src.Lo,.bool y0.Dst.V6,.int .u64 y0.Dst.Hi,.int .u64 y0.Dst.Lo,.int .i64 y0.SPort,.int .i64 y0.DPort]⟩,.string ⟨⟨y1⟩⟩] []=some (rx28 x):=(XaT (Xet _)).trans ((XaT (Xcp)).trans (Xa0 hx))
def s28 (g:Xah→(List UInt8)→Option ((List UInt8)×Int)):Xbr:=⟨[.v,.v],r28 g⟩
theorem Xuu {g:Xah→(List UInt8)→Option ((List UInt8)×Int)} {y0:Xah} {y1:List UInt8} {x:(List UInt8)×Int} (hx:g y0 y1=some x):(s28 g).run [.agg ⟨[.int .i64 y0.Proto,.bool y0.Src.V6,.int .u64 y0.Src.Hi,.int .u64 y0.Src.Lo,.bool y0.Dst.V6,.int .u64 y0.Dst.Hi,.int .u64 y0.Dst.Lo,.int .i64 y0.SPort,.int .i64 y0.DPort]⟩,.string ⟨⟨y1⟩⟩] []=some (rx28 x):=r28_c hx
abbrev XBI (XaF:Xaa→Option Bool) (XdP:Xag→(List UInt8)→Option ((List UInt8)×Int)) (XdS:Xaj→(List UInt8)→Option ((List UInt8)×Int)):List (Nat×Xbr):=[(84,s84 XaF),(86,s86 XdP),(85,s85 XdS)]
theorem XNH (XaF:Xaa→Option Bool) (XdP:Xag→(List UInt8)→Option ((List UInt8)×Int)) (XdS:Xaj→(List UInt8)→Option ((List UInt8)×Int)) (hS:Xai Tryz.prog (Xav (XBI XaF XdP XdS))) (t:Xah) (body:List UInt8) (res:(List UInt8)×Int) (h:Xjl XaF XdP XdS t body=some res) :
 XaI Tryz.prog 28 0 ⟨⟨28,74,[(0,.agg ⟨[.int .i64 t.Proto,.bool t.Src.V6,.int .u64 t.Src.Hi,.int .u64 t.Src.Lo,.bool t.Dst.V6,.int .u64 t.Dst.Hi,.int .u64 t.Dst.Lo,.int .i64 t.SPort,.int .i64 t.DPort]⟩),(1,.string ⟨⟨body⟩⟩)],[.code XCW],[],false,none⟩,[],[],0⟩ (fun v H _=>Res 0 (rx28 res) v H):=by
 unfold Xjl at h
 refine Xa7 Xao hS true 3000 ?_
 conv=>whnf
 refine br.h h ?_ ?_ ?_
 ·rfl
 ·clear h;intro hb h;conv=>whnf
  all_goals (cases h;exact Res.z rfl rfl rfl)
 clear h;intro hb h;conv=>whnf
 replace h:=Xal.elim h;obtain ⟨xr,hy,h⟩:=h
 refine XaK.q rfl rfl (Xna hy) rfl rfl rfl ?_
 conv=>whnf
 refine br.h h ?_ ?_ ?_
 ·rfl
 ·clear h;intro hb h;conv=>whnf
  all_goals (cases h;exact Res.z rfl rfl rfl)
 clear h;intro hb h;conv=>whnf
 replace h:=Xal.elim h;obtain ⟨xr1,hy,h⟩:=h
 refine XaK.q rfl rfl (Xna hy) rfl rfl rfl ?_
 conv=>whnf
 refine br.h h ?_ ?_ ?_
 ·rfl
 ·clear h;intro hb h;conv=>whnf
  all_goals (cases h;exact Res.z rfl rfl rfl)
 clear h;intro hb h;conv=>whnf
 refine br.h2 h ?_ ?_ ?_
 ·rfl
 ·clear h;intro hb h;conv=>whnf
  replace h:=Xal.elim h;obtain ⟨p2,hy,h⟩:=h
  refine XaK.q rfl rfl (XCw hy) rfl rfl rfl ?_
  conv=>whnf
  refine br.h2 h ?_ ?_ ?_
  ·rfl
  ·clear h;intro hb h;conv=>whnf
   refine br.h2 h ?_ ?_ ?_
   ·rfl
   ·clear h;intro hb h;conv=>whnf
    all_goals (cases h;exact Res.z rfl rfl rfl)
   clear h;intro hb h;conv=>whnf
   refine br.h h ?_ ?_ ?_
   ·rfl
   ·clear h;intro hb h;conv=>whnf
    all_goals (cases h;exact Res.z rfl rfl rfl)
   clear h;intro hb h;conv=>whnf
   all_goals (cases h;exact Res.z rfl rfl rfl)
  clear h;intro hb h;conv=>whnf
  replace h:=Xal.elim h;obtain ⟨p3,hy,h⟩:=h
  refine XaK.q rfl rfl (XCN hy) rfl rfl rfl ?_
  conv=>whnf
  refine br.h2 h ?_ ?_ ?_
  ·rfl
  ·clear h;intro hb h;conv=>whnf
   all_goals (cases h;exact Res.z rfl rfl rfl)
  clear h;intro hb h;conv=>whnf
  refine br.h h ?_ ?_ ?_
  ·rfl
  ·clear h;intro hb h;conv=>whnf
   all_goals (cases h;exact Res.z rfl rfl rfl)
  clear h;intro hb h;conv=>whnf
  all_goals (cases h;exact Res.z rfl rfl rfl)
 clear h;intro hb h;conv=>whnf
 refine br.h h ?_ ?_ ?_
 ·rfl
 ·clear h;intro hb h;conv=>whnf
  all_goals (cases h;exact Res.z rfl rfl rfl)
 clear h;intro hb h;conv=>whnf
 replace h:=Xal.elim h;obtain ⟨p,hy,h⟩:=h
 refine XaK.q rfl rfl (XCw hy) rfl rfl rfl ?_
 conv=>whnf
 refine br.h2 h ?_ ?_ ?_
 ·rfl
 ·clear h;intro hb h;conv=>whnf
  refine br.h2 h ?_ ?_ ?_
  ·rfl
  ·clear h;intro hb h;conv=>whnf
   all_goals (cases h;exact Res.z rfl rfl rfl)
  clear h;intro hb h;conv=>whnf
  refine br.h h ?_ ?_ ?_
  ·rfl
  ·clear h;intro hb h;conv=>whnf
   all_goals (cases h;exact Res.z rfl rfl rfl)
  clear h;intro hb h;conv=>whnf
  all_goals (cases h;exact Res.z rfl rfl rfl)
 clear h;intro hb h;conv=>whnf
 replace h:=Xal.elim h;obtain ⟨p1,hy,h⟩:=h
 refine XaK.q rfl rfl (XCN hy) rfl rfl rfl ?_
 conv=>whnf
 refine br.h2 h ?_ ?_ ?_
 ·rfl
 ·clear h;intro hb h;conv=>whnf
  all_goals (cases h;exact Res.z rfl rfl rfl)
 clear h;intro hb h;conv=>whnf
 refine br.h h ?_ ?_ ?_
 ·rfl
 ·clear h;intro hb h;conv=>whnf
  all_goals (cases h;exact Res.z rfl rfl rfl)
 clear h;intro hb h;conv=>whnf
 all_goals (cases h;exact Res.z rfl rfl rfl)
theorem ok28 (XaF:Xaa→Option Bool) (XdP:Xag→(List UInt8)→Option ((List UInt8)×Int)) (XdS:Xaj→(List UInt8)→Option ((List UInt8)×Int)) (hS:Xai Tryz.prog (Xav (XBI XaF XdP XdS))):Xar Tryz.prog 28 (s28 (Xjl XaF XdP XdS)):=by
 refine Xar.Xay Xao (fun ar os r ha hr=>?_) ⟨Tryz.f28,rfl,by decide,rfl⟩
 replace hr:r28 (Xjl XaF XdP XdS) ar (XaD os)=some r:=hr
 unfold r28 at hr
 generalize hc:XaD os=C at hr
 replace hr:=dV.elim hr;obtain ⟨v0,l1,y0,rfl,e0,hr⟩:=hr;obtain rfl:=XdJ _ _ e0
 replace hr:=dV.elim hr;obtain ⟨v1,l2,y1,rfl,e1,hr⟩:=hr;obtain rfl:=XbH _ _ e1
 replace hr:=Xc2 hr;obtain ⟨rfl,rfl,x,h,rfl⟩:=hr
 obtain rfl:=Xas hc
 exact ⟨_,rfl,XNH XaF XdP XdS hS _ _ x h⟩
def XbJ:Xah→(List UInt8)→Option ((List UInt8)×Int):=Xjl XaF XdP XdS
theorem XDh:Xar Tryz.prog 28 (s28 XbJ):=ok28 XaF XdP XdS (Xai.XaW ⟨Xrh,X4Z,YbK,trivial⟩)
def Xfc (Xeo:Xak→Xaa→Xaa→(List UInt8)→Option ((List UInt8)×Int)) (XbJ:Xah→(List UInt8)→Option ((List UInt8)×Int)) (t:Xah) (flags:Int) (options:List UInt8) (payload:List UInt8):Option ((List UInt8)×Int):=
 cond (t.Proto !=6)
  (
  some (([],1)))
  (
  (Xeo (Xak.mk t.SPort t.DPort 0 0 flags 65535 0 options) t.Src t.Dst payload).bind fun p=>
  cond (p.2 !=0)
   (
   some (([],p.2)))
   (
   (XbJ t p.1).bind fun p1=>
   some ((p1.1,p1.2))))
def rx24 (x:(List UInt8)×Int):Xca:=⟨.tuple ⟨[.string ⟨⟨x.1⟩⟩,.int .i64 x.2]⟩,[],[]⟩
def r24 (g:Xah→Int→(List UInt8)→(List UInt8)→Option ((List UInt8)×Int)):Dec:=dV Xdi fun (y0:Xah)=>dV (asI .i64) fun (y1:Int)=>dV asS fun (y2:List UInt8)=>dV asS fun (y3:List UInt8)=>XcO (ofG (g y0 y1 y2 y3) rx24)
theorem r24_c {g:Xah→Int→(List UInt8)→(List UInt8)→Option ((List UInt8)×Int)} {y0:Xah} {y1:Int} {y2:List UInt8} {y3:List UInt8} {x:(List UInt8)×Int} (hx:g y0 y1 y2 y3=some x):r24 g [.agg ⟨[.int .i64 y0.Proto,.bool y0.Src.V6,.int .u64 y0.Src.Hi,.int .u64 y0.Src.Lo,.bool y0.Dst.V6,.int .u64 y0.Dst.Hi,.int .u64 y0.Dst.Lo,.int .i64 y0.SPort,.int .i64 y0.DPort]⟩,.int .i64 y1,.string ⟨⟨y2⟩⟩,.string ⟨⟨y3⟩⟩] []=some (rx24 x):=(XaT (Xet _)).trans ((XaT (Xc3 _)).trans ((XaT (Xcp)).trans ((XaT (Xcp)).trans (Xa0 hx))))
def s24 (g:Xah→Int→(List UInt8)→(List UInt8)→Option ((List UInt8)×Int)):Xbr:=⟨[.v,.v,.v,.v],r24 g⟩
theorem YbF {g:Xah→Int→(List UInt8)→(List UInt8)→Option ((List UInt8)×Int)} {y0:Xah} {y1:Int} {y2:List UInt8} {y3:List UInt8} {x:(List UInt8)×Int} (hx:g y0 y1 y2 y3=some x):(s24 g).run [.agg ⟨[.int .i64 y0.Proto,.bool y0.Src.V6,.int .u64 y0.Src.Hi,.int .u64 y0.Src.Lo,.bool y0.Dst.V6,.int .u64 y0.Dst.Hi,.int .u64 y0.Dst.Lo,.int .i64 y0.SPort,.int .i64 y0.DPort]⟩,.int .i64 y1,.string ⟨⟨y2⟩⟩,.string ⟨⟨y3⟩⟩] []=some (rx24 x):=r24_c hx
abbrev XCx (Xeo:Xak→Xaa→Xaa→(List UInt8)→Option ((List UInt8)×Int)) (XbJ:Xah→(List UInt8)→Option ((List UInt8)×Int)):List (Nat×Xbr):=[(78,s78 Xeo),(28,s28 XbJ)]
theorem XJC (Xeo:Xak→Xaa→Xaa→(List UInt8)→Option ((List UInt8)×Int)) (XbJ:Xah→(List UInt8)→Option ((List UInt8)×Int)) (hS:Xai Tryz.prog (Xav (XCx Xeo XbJ))) (t:Xah) (flags:Int) (options:List UInt8) (payload:List UInt8) (res:(List UInt8)×Int) (h:Xfc Xeo XbJ t flags options payload=some res) :
 XaI Tryz.prog 24 0 ⟨⟨24,39,[(0,.agg ⟨[.int .i64 t.Proto,.bool t.Src.V6,.int .u64 t.Src.Hi,.int .u64 t.Src.Lo,.bool t.Dst.V6,.int .u64 t.Dst.Hi,.int .u64 t.Dst.Lo,.int .i64 t.SPort,.int .i64 t.DPort]⟩),(1,.int .i64 flags),(2,.string ⟨⟨options⟩⟩),(3,.string ⟨⟨payload⟩⟩)],[.code XBu],[],false,none⟩,[],[],0⟩ (fun v H _=>Res 0 (rx24 res) v H):=by
 unfold Xfc at h
 refine Xa7 Xao hS true 3000 ?_
 conv=>whnf
 refine br.h h ?_ ?_ ?_
 ·rfl
 ·clear h;intro hb h;conv=>whnf
  all_goals (cases h;exact Res.z rfl rfl rfl)
 clear h;intro hb h;conv=>whnf
 replace h:=Xal.elim h;obtain ⟨p,hy,h⟩:=h
 refine XaK.q rfl rfl (X6s hy) rfl rfl rfl ?_
 conv=>whnf
 refine br.h h ?_ ?_ ?_
 ·rfl
 ·clear h;intro hb h;conv=>whnf
  all_goals (cases h;exact Res.z rfl rfl rfl)
 clear h;intro hb h;conv=>whnf
 replace h:=Xal.elim h;obtain ⟨p1,hy,h⟩:=h
 refine XaK.q rfl rfl (Xuu hy) rfl rfl rfl ?_
 conv=>whnf
 all_goals (cases h;exact Res.z rfl rfl rfl)
theorem ok24 (Xeo:Xak→Xaa→Xaa→(List UInt8)→Option ((List UInt8)×Int)) (XbJ:Xah→(List UInt8)→Option ((List UInt8)×Int)) (hS:Xai Tryz.prog (Xav (XCx Xeo XbJ))):Xar Tryz.prog 24 (s24 (Xfc Xeo XbJ)):=by
 refine Xar.Xay Xao (fun ar os r ha hr=>?_) ⟨Tryz.f24,rfl,by decide,rfl⟩
 replace hr:r24 (Xfc Xeo XbJ) ar (XaD os)=some r:=hr
 unfold r24 at hr
 generalize hc:XaD os=C at hr
 replace hr:=dV.elim hr;obtain ⟨v0,l1,y0,rfl,e0,hr⟩:=hr;obtain rfl:=XdJ _ _ e0
 replace hr:=dV.elim hr;obtain ⟨v1,l2,y1,rfl,e1,hr⟩:=hr;obtain rfl:=XbS _ _ _ e1
 replace hr:=dV.elim hr;obtain ⟨v2,l3,y2,rfl,e2,hr⟩:=hr;obtain rfl:=XbH _ _ e2
 replace hr:=dV.elim hr;obtain ⟨v3,l4,y3,rfl,e3,hr⟩:=hr;obtain rfl:=XbH _ _ e3
 replace hr:=Xc2 hr;obtain ⟨rfl,rfl,x,h,rfl⟩:=hr
 obtain rfl:=Xas hc
 exact ⟨_,rfl,XJC Xeo XbJ hS _ _ _ _ x h⟩
def XcX:Xah→Int→(List UInt8)→(List UInt8)→Option ((List UInt8)×Int):=Xfc Xeo XbJ
theorem lift24:Xar Tryz.prog 24 (s24 XcX):=ok24 Xeo XbJ (Xai.XaW ⟨XYE,XDh,trivial⟩)
def Xer (Xec:Xat→Xaa→Xaa→(List UInt8)→Option ((List UInt8)×Int)) (XbJ:Xah→(List UInt8)→Option ((List UInt8)×Int)) (t:Xah) (payload:List UInt8):Option ((List UInt8)×Int):=
 cond (t.Proto !=17)
  (
  some (([],1)))
  (
  (Xec (Xat.mk t.SPort t.DPort) t.Src t.Dst payload).bind fun p=>
  cond (p.2 !=0)
   (
   some (([],p.2)))
   (
   (XbJ t p.1).bind fun p1=>
   some ((p1.1,p1.2))))
def rx26 (x:(List UInt8)×Int):Xca:=⟨.tuple ⟨[.string ⟨⟨x.1⟩⟩,.int .i64 x.2]⟩,[],[]⟩
def r26 (g:Xah→(List UInt8)→Option ((List UInt8)×Int)):Dec:=dV Xdi fun (y0:Xah)=>dV asS fun (y1:List UInt8)=>XcO (ofG (g y0 y1) rx26)
theorem r26_c {g:Xah→(List UInt8)→Option ((List UInt8)×Int)} {y0:Xah} {y1:List UInt8} {x:(List UInt8)×Int} (hx:g y0 y1=some x):r26 g [.agg ⟨[.int .i64 y0.Proto,.bool y0.Src.V6,.int .u64 y0.Src.Hi,.int .u64 y0.Src.Lo,.bool y0.Dst.V6,.int .u64 y0.Dst.Hi,.int .u64 y0.Dst.Lo,.int .i64 y0.SPort,.int .i64 y0.DPort]⟩,.string ⟨⟨y1⟩⟩] []=some (rx26 x):=(XaT (Xet _)).trans ((XaT (Xcp)).trans (Xa0 hx))
def s26 (g:Xah→(List UInt8)→Option ((List UInt8)×Int)):Xbr:=⟨[.v,.v],r26 g⟩
theorem XX6 {g:Xah→(List UInt8)→Option ((List UInt8)×Int)} {y0:Xah} {y1:List UInt8} {x:(List UInt8)×Int} (hx:g y0 y1=some x):(s26 g).run [.agg ⟨[.int .i64 y0.Proto,.bool y0.Src.V6,.int .u64 y0.Src.Hi,.int .u64 y0.Src.Lo,.bool y0.Dst.V6,.int .u64 y0.Dst.Hi,.int .u64 y0.Dst.Lo,.int .i64 y0.SPort,.int .i64 y0.DPort]⟩,.string ⟨⟨y1⟩⟩] []=some (rx26 x):=r26_c hx
abbrev XDm (Xec:Xat→Xaa→Xaa→(List UInt8)→Option ((List UInt8)×Int)) (XbJ:Xah→(List UInt8)→Option ((List UInt8)×Int)):List (Nat×Xbr):=[(80,s80 Xec),(28,s28 XbJ)]
theorem XEK (Xec:Xat→Xaa→Xaa→(List UInt8)→Option ((List UInt8)×Int)) (XbJ:Xah→(List UInt8)→Option ((List UInt8)×Int)) (hS:Xai Tryz.prog (Xav (XDm Xec XbJ))) (t:Xah) (payload:List UInt8) (res:(List UInt8)×Int) (h:Xer Xec XbJ t payload=some res) :
 XaI Tryz.prog 26 0 ⟨⟨26,33,[(0,.agg ⟨[.int .i64 t.Proto,.bool t.Src.V6,.int .u64 t.Src.Hi,.int .u64 t.Src.Lo,.bool t.Dst.V6,.int .u64 t.Dst.Hi,.int .u64 t.Dst.Lo,.int .i64 t.SPort,.int .i64 t.DPort]⟩),(1,.string ⟨⟨payload⟩⟩)],[.code XBL],[],false,none⟩,[],[],0⟩ (fun v H _=>Res 0 (rx26 res) v H):=by
 unfold Xer at h
 refine Xa7 Xao hS true 3000 ?_
 conv=>whnf
 refine br.h h ?_ ?_ ?_
 ·rfl
 ·clear h;intro hb h;conv=>whnf
  all_goals (cases h;exact Res.z rfl rfl rfl)
 clear h;intro hb h;conv=>whnf
 replace h:=Xal.elim h;obtain ⟨p,hy,h⟩:=h
 refine XaK.q rfl rfl (X28 hy) rfl rfl rfl ?_
 conv=>whnf
 refine br.h h ?_ ?_ ?_
 ·rfl
 ·clear h;intro hb h;conv=>whnf
  all_goals (cases h;exact Res.z rfl rfl rfl)
 clear h;intro hb h;conv=>whnf
 replace h:=Xal.elim h;obtain ⟨p1,hy,h⟩:=h
 refine XaK.q rfl rfl (Xuu hy) rfl rfl rfl ?_
 conv=>whnf
 all_goals (cases h;exact Res.z rfl rfl rfl)
theorem ok26 (Xec:Xat→Xaa→Xaa→(List UInt8)→Option ((List UInt8)×Int)) (XbJ:Xah→(List UInt8)→Option ((List UInt8)×Int)) (hS:Xai Tryz.prog (Xav (XDm Xec XbJ))):Xar Tryz.prog 26 (s26 (Xer Xec XbJ)):=by
 refine Xar.Xay Xao (fun ar os r ha hr=>?_) ⟨Tryz.f26,rfl,by decide,rfl⟩
 replace hr:r26 (Xer Xec XbJ) ar (XaD os)=some r:=hr
 unfold r26 at hr
 generalize hc:XaD os=C at hr
 replace hr:=dV.elim hr;obtain ⟨v0,l1,y0,rfl,e0,hr⟩:=hr;obtain rfl:=XdJ _ _ e0
 replace hr:=dV.elim hr;obtain ⟨v1,l2,y1,rfl,e1,hr⟩:=hr;obtain rfl:=XbH _ _ e1
 replace hr:=Xc2 hr;obtain ⟨rfl,rfl,x,h,rfl⟩:=hr
 obtain rfl:=Xas hc
 exact ⟨_,rfl,XEK Xec XbJ hS _ _ x h⟩
def Xcz:Xah→(List UInt8)→Option ((List UInt8)×Int):=Xer Xec XbJ
theorem lift26:Xar Tryz.prog 26 (s26 Xcz):=ok26 Xec XbJ (Xai.XaW ⟨XZq,XDh,trivial⟩)
end Go.Vm.Code
namespace Go.Vm.Code
open Go Go.Vm
theorem A4.Xrp {a:Xaa} (h:A4 a):Xmd a:=⟨⟨h.1,h.2.1⟩,h.2.2.1,h.2.2.2⟩
def h6of (t:Xah):Xaj:=⟨0,0,t.Proto,64,t.Src,t.Dst⟩
def h5of (t:Xah):Xag:=⟨0,0,true,64,t.Proto,t.Src,t.Dst,[]⟩
def Xsf (t:Xah) (b:List UInt8):List UInt8×Int:=cond t.Src.V6 (X8b (h6of t) b) (X9L (h5of t) b)
def XoO (t:Xah) (b:List UInt8):List UInt8×Int:=
 if t.Src.V6≠t.Dst.V6∨aok t.Src=false∨aok t.Dst=false∨(t.Proto≠6∧t.Proto≠17) then ([],1) else
  if (Xsf t b).2=0∧9000<(Xsf t b).1.length then ([],5) else Xsf t b
theorem X0V (r:List UInt8×Int):(cond (r.2==0) (cond (decide ((r.1.length:Int)>9000)) (some (([],5):List UInt8×Int)) (some (r.1,r.2))) (some (r.1,r.2)))=some (if r.2=0∧9000<r.1.length then ([],5) else r):=by
 by_cases h:r.2=0
 ·rw [show (r.2==0)=true by simpa using h,cond_true]
  by_cases h2:9000<r.1.length
  ·rw [XaS (by omega),if_pos ⟨h,h2⟩]
  ·rw [XaO (by omega),if_neg (fun x=>h2 x.2)]
 ·rw [show (r.2==0)=false by simpa using h,cond_false,if_neg (fun x=>h x.1)]
theorem Xmu {t:Xah} {b:List UInt8} (h1:A4 t.Src) (h2:A4 t.Dst) (hb:b.length<2^20):XbJ t b=some (XoO t b):=by
 unfold XbJ Xjl XoO
 by_cases g1:t.Src.V6=t.Dst.V6
 ·rw [show (!(t.Src.V6==t.Dst.V6))=false by simp [g1],cond_false,XgP,XgP,Option.bind_some,Option.bind_some]
  cases g2:aok t.Src
  ·rw [if_pos (.inr (.inl rfl))];rfl
  cases g3:aok t.Dst
  ·rw [if_pos (.inr (.inr (.inl rfl)))];rfl
  rw [Bool.not_true,cond_false,cond_false,XzC (h:=⟨0,0,t.Proto,64,t.Src,t.Dst⟩) h1.Xrp h2.Xrp (by omega),XXz (h:=⟨0,0,true,64,t.Proto,t.Src,t.Dst,[]⟩) h1 h2 (by omega) (by simp)]
  simp only [Option.bind_some,X0V]
  by_cases g4:t.Proto=6
  ·rw [show (t.Proto !=6)=false by simpa using g4,cond_false,if_neg (show ¬ (t.Src.V6≠t.Dst.V6∨true=false∨true=false∨(t.Proto≠6∧t.Proto≠17)) from fun h=>h.elim (fun x=>x g1) fun h=>h.elim (fun x=>by cases x) fun h=>h.elim (fun x=>by cases x) fun x=>x.1 g4)]
   unfold Xsf h5of h6of
   cases t.Src.V6<;>rfl
  ·rw [show (t.Proto !=6)=true by simpa using g4,cond_true]
   by_cases g5:t.Proto=17
   ·rw [show (t.Proto !=17)=false by simpa using g5,cond_false,if_neg (show ¬ (t.Src.V6≠t.Dst.V6∨true=false∨true=false∨(t.Proto≠6∧t.Proto≠17)) from fun h=>h.elim (fun x=>x g1) fun h=>h.elim (fun x=>by cases x) fun h=>h.elim (fun x=>by cases x) fun x=>x.2 g5)]
    unfold Xsf h5of h6of
    cases t.Src.V6<;>rfl
   ·rw [show (t.Proto !=17)=true by simpa using g5,cond_true,if_pos (.inr (.inr (.inr ⟨g4,g5⟩)))]
 ·rw [show (!(t.Src.V6==t.Dst.V6))=true by simp [g1],cond_true,if_pos (.inl g1)]
def Xz7 (t:Xah) (flags:Int) (o l:List UInt8):List UInt8×Int:=
 if t.Proto≠6 then ([],1) else if (Xp0 ⟨t.SPort,t.DPort,0,0,flags,65535,0,o⟩ t.Src t.Dst l).2≠0 then ([],(Xp0 ⟨t.SPort,t.DPort,0,0,flags,65535,0,o⟩ t.Src t.Dst l).2) else XoO t (Xp0 ⟨t.SPort,t.DPort,0,0,flags,65535,0,o⟩ t.Src t.Dst l).1
def Xyd (t:Xah) (l:List UInt8):List UInt8×Int:=
 if t.Proto≠17 then ([],1) else if (Xql ⟨t.SPort,t.DPort⟩ t.Src t.Dst l).2≠0 then ([],(Xql ⟨t.SPort,t.DPort⟩ t.Src t.Dst l).2) else XoO t (Xql ⟨t.SPort,t.DPort⟩ t.Src t.Dst l).1
theorem Xrs (h:Xak) (src dst:Xaa) (l:List UInt8):(Xp0 h src dst l).1.length≤20+h.Options.length+l.length:=by
 unfold Xp0
 split
 ·simp
 split
 ·simp
 split
 ·simp
 ·simp only [List.length_append,Xqg];omega
theorem Xre (h:Xat) (src dst:Xaa) (l:List UInt8):(Xql h src dst l).1.length≤34+l.length:=by
 unfold Xql
 split
 ·simp
 split
 ·simp
 split
 ·simp
 ·have:=Xun (h:=h) (l:=l)
  have:=Xok (u8 h l) 6 2 (ck8 (Xln src dst 17 (8+l.length)) (u8 h l))
  simp only [];omega
theorem Xuk {t:Xah} {flags:Int} {o l:List UInt8} (h1:A4 t.Src) (h2:A4 t.Dst) (ho:o.length<2^18) (hl:l.length<2^18):XcX t flags o l=some (Xz7 t flags o l):=by
 unfold XcX Xfc Xz7
 by_cases g:t.Proto=6
 ·have hw:W7 ⟨t.SPort,t.DPort,0,0,flags,65535,0,o⟩:=⟨⟨by simp only [];omega,by simp only [];omega⟩,by simp only [];omega,by simp only [];omega⟩
  have hlen:=Xrs ⟨t.SPort,t.DPort,0,0,flags,65535,0,o⟩ t.Src t.Dst l
  simp only at hlen
  rw [show (t.Proto !=6)=false by simpa using g,cond_false,XA2 hw h1 h2 (by omega) (by simp only [];omega),Option.bind_some,if_neg (by simpa using g)]
  by_cases g2:(Xp0 ⟨t.SPort,t.DPort,0,0,flags,65535,0,o⟩ t.Src t.Dst l).2=0
  ·rw [show ((Xp0 ⟨t.SPort,t.DPort,0,0,flags,65535,0,o⟩ t.Src t.Dst l).2 !=0)=false by simpa using g2,cond_false,if_neg (by simpa using g2),Xmu h1 h2 (by omega)];rfl
  ·rw [show ((Xp0 ⟨t.SPort,t.DPort,0,0,flags,65535,0,o⟩ t.Src t.Dst l).2 !=0)=true by simpa using g2,cond_true,if_pos g2]
 ·rw [show (t.Proto !=6)=true by simpa using g,cond_true,if_pos g]
theorem Xvn {t:Xah} {l:List UInt8} (h1:A4 t.Src) (h2:A4 t.Dst) (hl:l.length<2^18):Xcz t l=some (Xyd t l):=by
 unfold Xcz Xer Xyd
 by_cases g:t.Proto=17
 ·have hlen:=Xre ⟨t.SPort,t.DPort⟩ t.Src t.Dst l
  rw [show (t.Proto !=17)=false by simpa using g,cond_false,Xy4 h1 h2 (by omega),Option.bind_some,if_neg (by simpa using g)]
  by_cases g2:(Xql ⟨t.SPort,t.DPort⟩ t.Src t.Dst l).2=0
  ·rw [show ((Xql ⟨t.SPort,t.DPort⟩ t.Src t.Dst l).2 !=0)=false by simpa using g2,cond_false,if_neg (by simpa using g2),Xmu h1 h2 (by omega)];rfl
  ·rw [show ((Xql ⟨t.SPort,t.DPort⟩ t.Src t.Dst l).2 !=0)=true by simpa using g2,cond_true,if_pos g2]
 ·rw [show (t.Proto !=17)=true by simpa using g,cond_true,if_pos g]
theorem Xl5 {t:Xah} {b:List UInt8} (h1:A4 t.Src) (h2:A4 t.Dst) (hb:b.length<2^20):XaZ t b=some (XoO t b):=by
 unfold XaZ XfP
 have key:(t.Proto=6∨t.Proto=17)→(cond (!(t.Src.V6==t.Dst.V6)) (some (([],1):List UInt8×Int))
  ((Xax t.Src).bind fun xr=>cond (!xr) (some ([],1)) ((Xax t.Dst).bind fun xr1=>cond (!xr1) (some ([],1))
    (cond t.Src.V6
      ((Xce (Xaj.mk 0 0 t.Proto 64 t.Src t.Dst) b).bind fun p=>cond (p.2==0) (cond (decide ((p.1.length:Int)>9000)) (some ([],5)) (some (p.1,p.2))) (some (p.1,p.2)))
      ((XbU (Xag.mk 0 0 true 64 t.Proto t.Src t.Dst []) b).bind fun p1=>cond (p1.2==0) (cond (decide ((p1.1.length:Int)>9000)) (some ([],5)) (some (p1.1,p1.2))) (some (p1.1,p1.2)))))))=some (XoO t b):=by
  intro hp
  unfold XoO
  by_cases g1:t.Src.V6=t.Dst.V6
  ·rw [show (!(t.Src.V6==t.Dst.V6))=false by simp [g1],cond_false,XhI,XhI,Option.bind_some,Option.bind_some]
   cases g2:aok t.Src
   ·rw [if_pos (.inr (.inl rfl))];rfl
   cases g3:aok t.Dst
   ·rw [if_pos (.inr (.inr (.inl rfl)))];rfl
   rw [Bool.not_true,cond_false,cond_false,XGQ (h:=⟨0,0,t.Proto,64,t.Src,t.Dst⟩) h1.Xrp h2.Xrp (by omega),p5_eq (h:=⟨0,0,true,64,t.Proto,t.Src,t.Dst,[]⟩) h1 h2 (by omega) (by simp)]
   simp only [Option.bind_some,X0V]
   rw [if_neg (show ¬ (t.Src.V6≠t.Dst.V6∨true=false∨true=false∨(t.Proto≠6∧t.Proto≠17)) from fun h=>h.elim (fun x=>x g1) fun h=>h.elim (fun x=>by cases x) fun h=>h.elim (fun x=>by cases x) fun x=>by omega)]
   unfold Xsf h5of h6of
   cases t.Src.V6<;>rfl
  ·rw [show (!(t.Src.V6==t.Dst.V6))=true by simp [g1],cond_true,if_pos (.inl g1)]
 by_cases p6:t.Proto=6
 ·rw [show (t.Proto==6)=true by simpa using p6,cond_true];exact key (.inl p6)
 ·rw [show (t.Proto==6)=false by simpa using p6,cond_false]
  by_cases p17:t.Proto=17
  ·rw [show (!(t.Proto==17))=false by simp [p17],cond_false];exact key (.inr p17)
  ·rw [show (!(t.Proto==17))=true by simp [p17],cond_true]
   unfold XoO
   rw [if_pos (.inr (.inr (.inr ⟨p6,p17⟩)))]
theorem Xwp {t:Xah} {flags:Int} {o l:List UInt8} (h1:A4 t.Src) (h2:A4 t.Dst) (ho:o.length<2^18) (hl:l.length<2^18):XaX t flags o l=some (Xz7 t flags o l):=by
 unfold XaX Xdq Xz7
 by_cases g:t.Proto=6
 ·have hw:W7 ⟨t.SPort,t.DPort,0,0,flags,65535,0,o⟩:=⟨⟨by simp only [];omega,by simp only [];omega⟩,by simp only [];omega,by simp only [];omega⟩
  have hlen:=Xrs ⟨t.SPort,t.DPort,0,0,flags,65535,0,o⟩ t.Src t.Dst l
  simp only at hlen
  rw [show (t.Proto !=6)=false by simpa using g,cond_false,XyA hw h1 h2 (by omega) (by simp only [];omega),Option.bind_some,if_neg (by simpa using g)]
  by_cases g2:(Xp0 ⟨t.SPort,t.DPort,0,0,flags,65535,0,o⟩ t.Src t.Dst l).2=0
  ·rw [show ((Xp0 ⟨t.SPort,t.DPort,0,0,flags,65535,0,o⟩ t.Src t.Dst l).2 !=0)=false by simpa using g2,cond_false,if_neg (by simpa using g2),Xl5 h1 h2 (by omega)];rfl
  ·rw [show ((Xp0 ⟨t.SPort,t.DPort,0,0,flags,65535,0,o⟩ t.Src t.Dst l).2 !=0)=true by simpa using g2,cond_true,if_pos g2]
 ·rw [show (t.Proto !=6)=true by simpa using g,cond_true,if_pos g]
theorem Xv5 {t:Xah} {l:List UInt8} (h1:A4 t.Src) (h2:A4 t.Dst) (hl:l.length<2^18):XbR t l=some (Xyd t l):=by
 unfold XbR Xda Xyd
 by_cases g:t.Proto=17
 ·have hlen:=Xre ⟨t.SPort,t.DPort⟩ t.Src t.Dst l
  rw [show (t.Proto !=17)=false by simpa using g,cond_false,XKU h1 h2 (by omega),Option.bind_some,if_neg (by simpa using g)]
  by_cases g2:(Xql ⟨t.SPort,t.DPort⟩ t.Src t.Dst l).2=0
  ·rw [show ((Xql ⟨t.SPort,t.DPort⟩ t.Src t.Dst l).2 !=0)=false by simpa using g2,cond_false,if_neg (by simpa using g2),Xl5 h1 h2 (by omega)];rfl
  ·rw [show ((Xql ⟨t.SPort,t.DPort⟩ t.Src t.Dst l).2 !=0)=true by simpa using g2,cond_true,if_pos g2]
 ·rw [show (t.Proto !=17)=true by simpa using g,cond_true,if_pos g]
end Go.Vm.Code
namespace Go.Vm.Code
open Go Go.Vm Go.Proofs
set_option maxRecDepth 100000
set_option maxHeartbeats 4000000
set_option linter.unusedVariables false
def Xgc (Xa9:(List UInt8)→Option (Xaf×Int)) (XaX:Xah→Int→(List UInt8)→(List UInt8)→Option ((List UInt8)×Int)):Option Bool:=
 (Xa9 []).bind fun p=>
 (XaX (Xah.mk 6 (Xaa.mk false 0 1) (Xaa.mk false 0 2) 3 4) 2 [] [104,105]).bind fun s=>
 (Xa9 s.1).bind fun p1=>
 cond (p.2==2)
  (
  cond (s.2==0)
   (
   cond ((s.1.length:Int)==42)
    (
    cond (p1.2==0)
     (
     let t:=(p1.1.Tuple.Proto==6)&&((p1.1.Tuple.Src.V6==false)&&((p1.1.Tuple.Src.Hi==0)&&((p1.1.Tuple.Src.Lo==1)&&((p1.1.Tuple.Dst.V6==false)&&((p1.1.Tuple.Dst.Hi==0)&&((p1.1.Tuple.Dst.Lo==2)&&((p1.1.Tuple.SPort==3)&&((p1.1.Tuple.DPort==4)&&true))))))))
     cond (t)
      (
      some (p1.1.Flags==2))
      (
      some (false)))
     (
     some (false)))
    (
    some (false)))
   (
   some (false)))
  (
  some (false))
def rx20 (x:Bool):Xca:=⟨.bool x,[],[]⟩
def r20 (g:Option Bool):Dec:=XcO (ofG (g) rx20)
theorem r20_c {g:Option Bool} {x:Bool} (hx:g=some x):r20 g [] []=some (rx20 x):=Xa0 hx
def s20 (g:Option Bool):Xbr:=⟨[],r20 g⟩
theorem Xu9 {g:Option Bool} {x:Bool} (hx:g=some x):(s20 g).run [] []=some (rx20 x):=r20_c hx
abbrev XBr (Xa9:(List UInt8)→Option (Xaf×Int)) (XaX:Xah→Int→(List UInt8)→(List UInt8)→Option ((List UInt8)×Int)):List (Nat×Xbr):=[(21,s21 Xa9),(23,s23 XaX)]
theorem XLX (Xa9:(List UInt8)→Option (Xaf×Int)) (XaX:Xah→Int→(List UInt8)→(List UInt8)→Option ((List UInt8)×Int)) (hS:Xai Tryz.prog (Xav (XBr Xa9 XaX))) (res:Bool) (h:Xgc Xa9 XaX=some res) :
 XaI Tryz.prog 20 0 ⟨⟨20,51,[],[.code XCZ],[],false,none⟩,[],[],0⟩ (fun v H _=>Res 0 (rx20 res) v H):=by
 unfold Xgc at h
 refine Xa7 Xao hS true 3000 ?_
 conv=>whnf
 replace h:=Xal.elim h;obtain ⟨p,hy,h⟩:=h
 refine XaK.q rfl rfl (Xto hy) rfl rfl rfl ?_
 conv=>whnf
 replace h:=Xal.elim h;obtain ⟨s,hy,h⟩:=h
 refine XaK.q rfl rfl (XBR hy) rfl rfl rfl ?_
 conv=>whnf
 replace h:=Xal.elim h;obtain ⟨p1,hy,h⟩:=h
 refine XaK.q rfl rfl (Xto hy) rfl rfl rfl ?_
 conv=>whnf
 refine br.h2 h ?_ ?_ ?_
 ·rfl
 ·clear h;intro hb h;conv=>whnf
  all_goals (cases h;exact Res.z rfl rfl rfl)
 clear h;intro hb h;conv=>whnf
 refine br.h2 h ?_ ?_ ?_
 ·rfl
 ·clear h;intro hb h;conv=>whnf
  all_goals (cases h;exact Res.z rfl rfl rfl)
 clear h;intro hb h;conv=>whnf
 refine br.h2 h ?_ ?_ ?_
 ·rfl
 ·clear h;intro hb h;conv=>whnf
  all_goals (cases h;exact Res.z rfl rfl rfl)
 clear h;intro hb h;conv=>whnf
 refine br.h2 h ?_ ?_ ?_
 ·rfl
 ·clear h;intro hb h;conv=>whnf
  all_goals (cases h;exact Res.z rfl rfl rfl)
 clear h;intro hb h;conv=>whnf
 let t:Bool:=(p1.1.Tuple.Proto==6)&&((p1.1.Tuple.Src.V6==false)&&((p1.1.Tuple.Src.Hi==0)&&((p1.1.Tuple.Src.Lo==1)&&((p1.1.Tuple.Dst.V6==false)&&((p1.1.Tuple.Dst.Hi==0)&&((p1.1.Tuple.Dst.Lo==2)&&((p1.1.Tuple.SPort==3)&&((p1.1.Tuple.DPort==4)&&true))))))))
 refine br.h h ?_ ?_ ?_
 ·rfl
 ·clear h;intro hb h;conv=>whnf
  all_goals (cases h;exact Res.z rfl rfl rfl)
 clear h;intro hb h;conv=>whnf
 all_goals (cases h;exact Res.z rfl rfl rfl)
theorem ok20 (Xa9:(List UInt8)→Option (Xaf×Int)) (XaX:Xah→Int→(List UInt8)→(List UInt8)→Option ((List UInt8)×Int)) (hS:Xai Tryz.prog (Xav (XBr Xa9 XaX))):Xar Tryz.prog 20 (s20 (Xgc Xa9 XaX)):=by
 refine Xar.Xay Xao (fun ar os r ha hr=>?_) ⟨Tryz.f20,rfl,by decide,rfl⟩
 replace hr:r20 (Xgc Xa9 XaX) ar (XaD os)=some r:=hr
 unfold r20 at hr
 generalize hc:XaD os=C at hr
 replace hr:=Xc2 hr;obtain ⟨rfl,rfl,x,h,rfl⟩:=hr
 obtain rfl:=Xas hc
 exact ⟨_,rfl,XLX Xa9 XaX hS x h⟩
def XcJ:Option Bool:=Xgc Xa9 XaX
theorem lift20:Xar Tryz.prog 20 (s20 XcJ):=ok20 Xa9 XaX (Xai.XaW ⟨X4O,X0a,trivial⟩)
def XdW (Xej:(List (List UInt8))→Int→Option Bool) (Xcz:Xah→(List UInt8)→Option ((List UInt8)×Int)) (Xd3:(List UInt8)→Option (Xaf×Int)) (XbJ:Xah→(List UInt8)→Option ((List UInt8)×Int)) (XcX:Xah→Int→(List UInt8)→(List UInt8)→Option ((List UInt8)×Int)) (Xd6:(List UInt8)→Option (Int×Int×Int)) (XcJ:Option Bool) (XbR:Xah→(List UInt8)→Option ((List UInt8)×Int)) (Xa9:(List UInt8)→Option (Xaf×Int)) (XaZ:Xah→(List UInt8)→Option ((List UInt8)×Int)) (XaX:Xah→Int→(List UInt8)→(List UInt8)→Option ((List UInt8)×Int)) (XcE:(List UInt8)→Option (Int×Int×Int)) (s:List UInt8) (t:Xah) (flags:Int) (options:List UInt8) (payload:List UInt8):Option Bool:=
 cond (decide ((s.length:Int)>400))
  (
  (XcJ).bind fun a=>
  some (a))
  (
  (Xej [options,payload] 100).bind fun s1=>
  cond (!s1)
   (
   (XcJ).bind fun a1=>
   some (a1))
   (
   (Xa9 s).bind fun p=>
   (Xd3 s).bind fun p1=>
   (XcE s).bind fun w=>
   (Xd6 s).bind fun w1=>
   (XaX t flags options payload).bind fun s2=>
   (XcX t flags options payload).bind fun s3=>
   (XbR t payload).bind fun d=>
   (Xcz t payload).bind fun d1=>
   (XaZ t payload).bind fun p2=>
   (XbJ t payload).bind fun p3=>
   let t1:=(p.1.Tuple.Proto==p1.1.Tuple.Proto)&&((p.1.Tuple.Src.V6==p1.1.Tuple.Src.V6)&&((p.1.Tuple.Src.Hi==p1.1.Tuple.Src.Hi)&&((p.1.Tuple.Src.Lo==p1.1.Tuple.Src.Lo)&&((p.1.Tuple.Dst.V6==p1.1.Tuple.Dst.V6)&&((p.1.Tuple.Dst.Hi==p1.1.Tuple.Dst.Hi)&&((p.1.Tuple.Dst.Lo==p1.1.Tuple.Dst.Lo)&&((p.1.Tuple.SPort==p1.1.Tuple.SPort)&&((p.1.Tuple.DPort==p1.1.Tuple.DPort)&&((p.1.Flags==p1.1.Flags)&&((p.1.Stamped==p1.1.Stamped)&&((p.1.Val==p1.1.Val)&&((p.1.Echo==p1.1.Echo)&&((p.1.Long==p1.1.Long)&&((p.1.CID==p1.1.CID)&&((p.1.Size==p1.1.Size)&&true)))))))))))))))
   cond (t1)
    (
    cond (p.2==p1.2)
     (
     cond (w.1==w1.1)
      (
      cond (w.2.1==w1.2.1)
       (
       cond (w.2.2==w1.2.2)
        (
        cond (s2.1==s3.1)
         (
         cond (s2.2==s3.2)
          (
          cond (d.1==d1.1)
           (
           cond (d.2==d1.2)
            (
            cond (p2.1==p3.1)
             (
             cond (p2.2==p3.2)
              (
              (XcJ).bind fun a2=>
              some (a2))
              (
              some (false)))
             (
             some (false)))
            (
            some (false)))
           (
           some (false)))
          (
          some (false)))
         (
         some (false)))
        (
        some (false)))
       (
       some (false)))
      (
      some (false)))
     (
     some (false)))
    (
    some (false))))
def rx4 (x:Bool):Xca:=⟨.bool x,[],[]⟩
def r4 (g:(List UInt8)→Xah→Int→(List UInt8)→(List UInt8)→Option Bool):Dec:=dV asS fun (y0:List UInt8)=>dV Xdi fun (y1:Xah)=>dV (asI .i64) fun (y2:Int)=>dV asS fun (y3:List UInt8)=>dV asS fun (y4:List UInt8)=>XcO (ofG (g y0 y1 y2 y3 y4) rx4)
def s4 (g:(List UInt8)→Xah→Int→(List UInt8)→(List UInt8)→Option Bool):Xbr:=⟨[.v,.v,.v,.v,.v],r4 g⟩
abbrev sums4 (Xej:(List (List UInt8))→Int→Option Bool) (Xcz:Xah→(List UInt8)→Option ((List UInt8)×Int)) (Xd3:(List UInt8)→Option (Xaf×Int)) (XbJ:Xah→(List UInt8)→Option ((List UInt8)×Int)) (XcX:Xah→Int→(List UInt8)→(List UInt8)→Option ((List UInt8)×Int)) (Xd6:(List UInt8)→Option (Int×Int×Int)) (XcJ:Option Bool) (XbR:Xah→(List UInt8)→Option ((List UInt8)×Int)) (Xa9:(List UInt8)→Option (Xaf×Int)) (XaZ:Xah→(List UInt8)→Option ((List UInt8)×Int)) (XaX:Xah→Int→(List UInt8)→(List UInt8)→Option ((List UInt8)×Int)) (XcE:(List UInt8)→Option (Int×Int×Int)):List (Nat×Xbr):=[(19,s19 Xej),(26,s26 Xcz),(12,s12 Xd3),(28,s28 XbJ),(24,s24 XcX),(17,s17 Xd6),(20,s20 XcJ),(25,s25 XbR),(21,s21 Xa9),(27,s27 XaZ),(23,s23 XaX),(22,s22 XcE)]
theorem leads4 (Xej:(List (List UInt8))→Int→Option Bool) (Xcz:Xah→(List UInt8)→Option ((List UInt8)×Int)) (Xd3:(List UInt8)→Option (Xaf×Int)) (XbJ:Xah→(List UInt8)→Option ((List UInt8)×Int)) (XcX:Xah→Int→(List UInt8)→(List UInt8)→Option ((List UInt8)×Int)) (Xd6:(List UInt8)→Option (Int×Int×Int)) (XcJ:Option Bool) (XbR:Xah→(List UInt8)→Option ((List UInt8)×Int)) (Xa9:(List UInt8)→Option (Xaf×Int)) (XaZ:Xah→(List UInt8)→Option ((List UInt8)×Int)) (XaX:Xah→Int→(List UInt8)→(List UInt8)→Option ((List UInt8)×Int)) (XcE:(List UInt8)→Option (Int×Int×Int)) (hS:Xai Tryz.prog (Xav (sums4 Xej Xcz Xd3 XbJ XcX Xd6 XcJ XbR Xa9 XaZ XaX XcE))) (s:List UInt8) (t:Xah) (flags:Int) (options:List UInt8) (payload:List UInt8) (res:Bool) (h:XdW Xej Xcz Xd3 XbJ XcX Xd6 XcJ XbR Xa9 XaZ XaX XcE s t flags options payload=some res) :
 XaI Tryz.prog 4 0 ⟨⟨4,162,[(0,.string ⟨⟨s⟩⟩),(1,.agg ⟨[.int .i64 t.Proto,.bool t.Src.V6,.int .u64 t.Src.Hi,.int .u64 t.Src.Lo,.bool t.Dst.V6,.int .u64 t.Dst.Hi,.int .u64 t.Dst.Lo,.int .i64 t.SPort,.int .i64 t.DPort]⟩),(2,.int .i64 flags),(3,.string ⟨⟨options⟩⟩),(4,.string ⟨⟨payload⟩⟩)],[.code XWo],[],false,none⟩,[],[],0⟩ (fun v H _=>Res 0 (rx4 res) v H):=by
 unfold XdW at h
 refine Xa7 Xao hS true 3000 ?_
 conv=>whnf
 refine br.h h ?_ ?_ ?_
 ·rfl
 ·clear h;intro hb h;conv=>whnf
  replace h:=Xal.elim h;obtain ⟨a,hy,h⟩:=h
  refine XaK.q rfl rfl (Xu9 hy) rfl rfl rfl ?_
  conv=>whnf
  all_goals (cases h;exact Res.z rfl rfl rfl)
 clear h;intro hb h;conv=>whnf
 replace h:=Xal.elim h;obtain ⟨s1,hy,h⟩:=h
 refine XaK.Xbb [] (Xaw (aqs:=[.slice (some ⟨0,0,none⟩) ([options,payload]:List (List UInt8)).length 1,.int .i64 100]) (ws:=[.win 1 0 (2*1) false]) (n:=0) (m:=0) (t':=2) (Xau (by first|rfl|exact XPV rfl rfl (by first|rfl|omega) (by first|rfl|(simp;done))|exact XB4 rfl rfl (by first|rfl|omega) (by first|rfl|omega) (by first|omega|(simp at *;omega))) rfl (Xau rfl rfl Xbf)) rfl (by rfl) (XTv hy) rfl rfl rfl rfl (XiT rfl Xbe) Xbc rfl) ?_
 conv=>whnf
 refine br.h h ?_ ?_ ?_
 ·rfl
 ·clear h;intro hb h;conv=>whnf
  replace h:=Xal.elim h;obtain ⟨a1,hy,h⟩:=h
  refine XaK.q rfl rfl (Xu9 hy) rfl rfl rfl ?_
  conv=>whnf
  all_goals (cases h;exact Res.z rfl rfl rfl)
 clear h;intro hb h;conv=>whnf
 replace h:=Xal.elim h;obtain ⟨p,hy,h⟩:=h
 refine XaK.q rfl rfl (Xto hy) rfl rfl rfl ?_
 conv=>whnf
 replace h:=Xal.elim h;obtain ⟨p1,hy,h⟩:=h
 refine XaK.q rfl rfl (Ycl hy) rfl rfl rfl ?_
 conv=>whnf
 replace h:=Xal.elim h;obtain ⟨w,hy,h⟩:=h
 refine XaK.q rfl rfl (X5T hy) rfl rfl rfl ?_
 conv=>whnf
 replace h:=Xal.elim h;obtain ⟨w1,hy,h⟩:=h
 refine XaK.q rfl rfl (X3D hy) rfl rfl rfl ?_
 conv=>whnf
 replace h:=Xal.elim h;obtain ⟨s2,hy,h⟩:=h
 refine XaK.q rfl rfl (XBR hy) rfl rfl rfl ?_
 conv=>whnf
 replace h:=Xal.elim h;obtain ⟨s3,hy,h⟩:=h
 refine XaK.q rfl rfl (YbF hy) rfl rfl rfl ?_
 conv=>whnf
 replace h:=Xal.elim h;obtain ⟨d,hy,h⟩:=h
 refine XaK.q rfl rfl (X9C hy) rfl rfl rfl ?_
 conv=>whnf
 replace h:=Xal.elim h;obtain ⟨d1,hy,h⟩:=h
 refine XaK.q rfl rfl (XX6 hy) rfl rfl rfl ?_
 conv=>whnf
 replace h:=Xal.elim h;obtain ⟨p2,hy,h⟩:=h
 refine XaK.q rfl rfl (Xwj hy) rfl rfl rfl ?_
 conv=>whnf
 replace h:=Xal.elim h;obtain ⟨p3,hy,h⟩:=h
 refine XaK.q rfl rfl (Xuu hy) rfl rfl rfl ?_
 conv=>whnf
 let t1:Bool:=(p.1.Tuple.Proto==p1.1.Tuple.Proto)&&((p.1.Tuple.Src.V6==p1.1.Tuple.Src.V6)&&((p.1.Tuple.Src.Hi==p1.1.Tuple.Src.Hi)&&((p.1.Tuple.Src.Lo==p1.1.Tuple.Src.Lo)&&((p.1.Tuple.Dst.V6==p1.1.Tuple.Dst.V6)&&((p.1.Tuple.Dst.Hi==p1.1.Tuple.Dst.Hi)&&((p.1.Tuple.Dst.Lo==p1.1.Tuple.Dst.Lo)&&((p.1.Tuple.SPort==p1.1.Tuple.SPort)&&((p.1.Tuple.DPort==p1.1.Tuple.DPort)&&((p.1.Flags==p1.1.Flags)&&((p.1.Stamped==p1.1.Stamped)&&((p.1.Val==p1.1.Val)&&((p.1.Echo==p1.1.Echo)&&((p.1.Long==p1.1.Long)&&((p.1.CID==p1.1.CID)&&((p.1.Size==p1.1.Size)&&true)))))))))))))))
 refine br.h2 h ?_ ?_ ?_
 ·rfl
 ·clear h;intro hb h;conv=>whnf
  all_goals (cases h;exact Res.z rfl rfl rfl)
 clear h;intro hb h;conv=>whnf
 refine br.h2 h ?_ ?_ ?_
 ·rfl
 ·clear h;intro hb h;conv=>whnf
  all_goals (cases h;exact Res.z rfl rfl rfl)
 clear h;intro hb h;conv=>whnf
 refine br.h2 h ?_ ?_ ?_
 ·rfl
 ·clear h;intro hb h;conv=>whnf
  all_goals (cases h;exact Res.z rfl rfl rfl)
 clear h;intro hb h;conv=>whnf
 refine br.h2 h ?_ ?_ ?_
 ·rfl
 ·clear h;intro hb h;conv=>whnf
  all_goals (cases h;exact Res.z rfl rfl rfl)
 clear h;intro hb h;conv=>whnf
 refine br.h2 h ?_ ?_ ?_
 ·rfl
 ·clear h;intro hb h;conv=>whnf
  all_goals (cases h;exact Res.z rfl rfl rfl)
 clear h;intro hb h;conv=>whnf
 refine br.h2 h ?_ ?_ ?_
 ·rfl
 ·clear h;intro hb h;conv=>whnf
  all_goals (cases h;exact Res.z rfl rfl rfl)
 clear h;intro hb h;conv=>whnf
 refine br.h2 h ?_ ?_ ?_
 ·rfl
 ·clear h;intro hb h;conv=>whnf
  all_goals (cases h;exact Res.z rfl rfl rfl)
 clear h;intro hb h;conv=>whnf
 refine br.h2 h ?_ ?_ ?_
 ·rfl
 ·clear h;intro hb h;conv=>whnf
  all_goals (cases h;exact Res.z rfl rfl rfl)
 clear h;intro hb h;conv=>whnf
 refine br.h2 h ?_ ?_ ?_
 ·rfl
 ·clear h;intro hb h;conv=>whnf
  all_goals (cases h;exact Res.z rfl rfl rfl)
 clear h;intro hb h;conv=>whnf
 refine br.h2 h ?_ ?_ ?_
 ·rfl
 ·clear h;intro hb h;conv=>whnf
  all_goals (cases h;exact Res.z rfl rfl rfl)
 clear h;intro hb h;conv=>whnf
 refine br.h2 h ?_ ?_ ?_
 ·rfl
 ·clear h;intro hb h;conv=>whnf
  all_goals (cases h;exact Res.z rfl rfl rfl)
 clear h;intro hb h;conv=>whnf
 replace h:=Xal.elim h;obtain ⟨a2,hy,h⟩:=h
 refine XaK.q rfl rfl (Xu9 hy) rfl rfl rfl ?_
 conv=>whnf
 all_goals (cases h;exact Res.z rfl rfl rfl)
def XhR:(List UInt8)→Xah→Int→(List UInt8)→(List UInt8)→Option Bool:=XdW Xej Xcz Xd3 XbJ XcX Xd6 XcJ XbR Xa9 XaZ XaX XcE
end Go.Vm.Code
namespace Go.Vm.Code
open Go Go.Vm
theorem Xoi:XcJ=some true:=by decide +kernel
theorem packetTells (s:List UInt8) (t:Xah) (flags:Int) (o l:List UInt8) (h1:A4 t.Src) (h2:A4 t.Dst):XhR s t flags o l=some true:=by
 unfold XhR XdW
 by_cases g:400<s.length
 ·rw [XaS (by omega),Xoi];rfl
 rw [XaO (by omega),Xyl (by simp),Option.bind_some]
 cases hc:[o,l].all fun x=>decide ((x.length:Int)≤100)
 ·rw [Xoi];rfl
 simp only [List.all_cons,List.all_nil,Bool.and_true,Bool.and_eq_true,decide_eq_true_eq] at hc
 rw [Bool.not_true,cond_false,XyK (by omega),Xwd (by omega),Xz8 (by omega),Xu1 (by omega),Xwp h1 h2 (by omega) (by omega),Xuk h1 h2 (by omega) (by omega),Xv5 h1 h2 (by omega),Xvn h1 h2 (by omega),Xl5 h1 h2 (by omega),Xmu h1 h2 (by omega),Xoi]
 simp only [Option.bind_some,beq_self_eq_true,Bool.and_self,cond_true]
end Go.Vm.Code
