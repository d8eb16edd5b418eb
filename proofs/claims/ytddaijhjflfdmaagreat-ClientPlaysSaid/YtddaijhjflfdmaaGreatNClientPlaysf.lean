import Derived.Test.YtddaijhjflfdmaaGreatNClientPlayse
namespace Go.Vm.Code
open Go Go.Vm
def zP:Xal:=⟨⟨0,⟨false,0,0⟩,⟨false,0,0⟩,0,0⟩,0,false,0,0,false,[],0⟩
structure O11 where
 src:Xab
 dst:Xab
 proto:Int
 size:Nat
 body:List UInt8
 err:Int
def zO (e:Int):O11:=⟨⟨false,0,0⟩,⟨false,0,0⟩,0,0,[],e⟩
def XbW (s:List UInt8):O11:=
 if vK s 0 1/16=4 then (if (Xkj s).2.2≠0 then zO (Xkj s).2.2 else if s.length≠20+(Xkj s).1.Options.length+(Xkj s).2.1.length then zO 5 else ⟨(Xkj s).1.Src,(Xkj s).1.Dst,(Xkj s).1.Proto,20+(Xkj s).1.Options.length,(Xkj s).2.1,0⟩)
 else if vK s 0 1/16=6 then (if (Xmo s).2.2≠0 then zO (Xmo s).2.2 else if s.length≠40+(Xmo s).2.1.length then zO 5 else ⟨(Xmo s).1.Src,(Xmo s).1.Dst,(Xmo s).1.Next,40,(Xmo s).2.1,0⟩)
 else zO 3
def XFr (o:List UInt8):Bool×Int×Int:=if 0≤(XmD o).2.2 then (true,(XmD o).1,(XmD o).2.1) else (false,0,0)
def XQM (b:List UInt8):Bool×List UInt8:=if (XoW b).2=0 then ((XoW b).1.Long,(XoW b).1.DCID) else (false,[])
def Xi9 (o:O11) (n:Nat):Xal×Nat×Int:=
 if o.proto=6 then (if (XkU o.body o.src o.dst).2.2≠0 then (zP,0,(XkU o.body o.src o.dst).2.2) else
  (⟨⟨o.proto,o.src,o.dst,(XkU o.body o.src o.dst).1.SPort,(XkU o.body o.src o.dst).1.DPort⟩,(XkU o.body o.src o.dst).1.Flags,(XFr (XkU o.body o.src o.dst).1.Options).1,(XFr (XkU o.body o.src o.dst).1.Options).2.1,(XFr (XkU o.body o.src o.dst).1.Options).2.2,false,[],n⟩,(XkU o.body o.src o.dst).2.1.length,0))
 else if o.proto=17 then (if (Xkh o.body o.src o.dst).2.2≠0 then (zP,0,(Xkh o.body o.src o.dst).2.2) else if (Xkh o.body o.src o.dst).2.1.length+8≠o.body.length then (zP,0,5) else
  (⟨⟨o.proto,o.src,o.dst,(Xkh o.body o.src o.dst).1.SPort,(Xkh o.body o.src o.dst).1.DPort⟩,0,false,0,0,(XQM (Xkh o.body o.src o.dst).2.1).1,(XQM (Xkh o.body o.src o.dst).2.1).2,n⟩,(Xkh o.body o.src o.dst).2.1.length,0))
 else (zP,0,6)
def XbG (s:List UInt8):Xal×Nat×Nat×Int:=
 if 9000<s.length then (zP,0,0,5) else if s=[] then (zP,0,0,2) else if (XbW s).err≠0 then (zP,0,0,(XbW s).err) else
  if (Xi9 (XbW s) s.length).2.2≠0 then (zP,0,0,(Xi9 (XbW s) s.length).2.2) else
   ((Xi9 (XbW s) s.length).1,s.length - (XbW s).body.length,s.length - (Xi9 (XbW s) s.length).2.1,0)
theorem XPC (s:List UInt8):A4 (Xkj s).1.Src∧A4 (Xkj s).1.Dst:=by
 have z:A4 ⟨false,0,0⟩:=⟨by simp only [];omega,by simp only [];omega,by simp only [];omega,by simp only [];omega⟩
 have k:∀ p,A4 (adr4 s p):=fun p=>by
  have:=Xgl s p 4 4294967296 (by decide)
  exact ⟨Int.le_refl 0,by show (0:Int)<2^64;decide,this.1,by show vK s p 4<2^64;omega⟩
 unfold Xkj
 split
 ·exact ⟨z,z⟩
 split
 ·exact ⟨z,z⟩
 split
 ·exact ⟨z,z⟩
 split
 ·exact ⟨z,z⟩
 split
 ·exact ⟨z,z⟩
 split
 ·exact ⟨z,z⟩
 split
 ·exact ⟨z,z⟩
 exact ⟨k 12,k 16⟩
theorem XJ8 (s:List UInt8):A4 (Xmo s).1.Src∧A4 (Xmo s).1.Dst:=by
 have z:A4 ⟨false,0,0⟩:=⟨by simp only [];omega,by simp only [];omega,by simp only [];omega,by simp only [];omega⟩
 have k:∀ p,A4 (Xw8 ((s.drop p).take 16)):=fun p=>by
  have h1:Xgf (((s.drop p).take 16).take 8)<2^64:=XfJ _ (by decide)
  have h2:Xgf (((s.drop p).take 16).drop 8)<2^64:=by
   have:=XsK (((s.drop p).take 16).drop 8)
   refine Nat.lt_of_lt_of_le this ?_
   have:(((s.drop p).take 16).drop 8).length≤8:=by simp;omega
   exact Nat.pow_le_pow_right (n:=256) (by decide) this
  unfold Xw8
  exact ⟨by simp only [];omega,by simp only [];omega,by simp only [];omega,by simp only [];omega⟩
 unfold Xmo
 split
 ·exact ⟨z,z⟩
 split
 ·exact ⟨z,z⟩
 split
 ·exact ⟨z,z⟩
 exact ⟨k 8,k 24⟩
theorem Xs7 (s:List UInt8):A4 (XbW s).src∧A4 (XbW s).dst:=by
 have z:A4 ⟨false,0,0⟩:=⟨by simp only [];omega,by simp only [];omega,by simp only [];omega,by simp only [];omega⟩
 unfold XbW zO
 split
 ·split
  ·exact ⟨z,z⟩
  split
  ·exact ⟨z,z⟩
  exact XPC s
 split
 ·split
  ·exact ⟨z,z⟩
  split
  ·exact ⟨z,z⟩
  exact XJ8 s
 exact ⟨z,z⟩
theorem Xqj {s:List UInt8} (h:(XbW s).err=0):(XbW s).body.length+(XbW s).size=s.length:=by
 unfold XbW at h ⊢
 by_cases g1:vK s 0 1/16=4
 ·rw [if_pos g1] at h ⊢
  by_cases g2:(Xkj s).2.2≠0
  ·rw [if_pos g2] at h;exact absurd h g2
  rw [if_neg g2] at h ⊢
  by_cases g3:s.length≠20+(Xkj s).1.Options.length+(Xkj s).2.1.length
  ·rw [if_pos g3] at h;exact absurd h (by decide)
  rw [if_neg g3]
  simp only [];omega
 rw [if_neg g1] at h ⊢
 by_cases g4:vK s 0 1/16=6
 ·rw [if_pos g4] at h ⊢
  by_cases g2:(Xmo s).2.2≠0
  ·rw [if_pos g2] at h;exact absurd h g2
  rw [if_neg g2] at h ⊢
  by_cases g3:s.length≠40+(Xmo s).2.1.length
  ·rw [if_pos g3] at h;exact absurd h (by decide)
  rw [if_neg g3]
  simp only [];omega
 ·rw [if_neg g4] at h;exact absurd h (by decide)
theorem Xpw {s:List UInt8} (h:(XbG s).2.2.2≠0):XbG s=(zP,0,0,(XbG s).2.2.2):=by
 unfold XbG at h ⊢
 split
 ·rfl
 rename_i g1
 rw [if_neg g1] at h
 split
 ·rfl
 rename_i g2
 rw [if_neg g2] at h
 split
 ·rfl
 rename_i g3
 rw [if_neg g3] at h
 split
 ·rfl
 rename_i g4
 rw [if_neg g4] at h
 exact absurd rfl h
def o11 (o:O11):XaS:=⟨o.src,o.dst,o.proto,o.body⟩
theorem XAD {s:List UInt8} (hs:s.length<2^19) (hn:s≠[]):Xdx s=some (o11 (XbW s),(XbW s).err):=by
 unfold Xdx Xi4
 have h0:0<s.length:=List.length_pos_iff.2 hn
 have e0:=XmM (s:=s) (p:=0) h0
 have r0:=Xgl s 0 1 256 (by decide)
 rw [List.getElem?_eq_getElem h0,Option.bind_some,←e0,Xs8,show ((2:Int)^4)=16 from rfl,g5_eq (by omega),XOX (by omega),Option.bind_some,Option.bind_some]
 unfold XbW
 by_cases g1:vK s 0 1/16=4
 ·rw [if_pos g1,show (vK s 0 1/16==4)=true by simpa using g1,cond_true]
  by_cases g2:(Xkj s).2.2=0
  ·have hb:(Xkj s).1.Options.length≤s.length∧(Xkj s).2.1.length≤s.length:=by
    unfold Xkj
    repeat' split
    all_goals simp [Xqa]
    omega
   rw [if_neg (by simpa using g2),show ((Xkj s).2.2 !=0)=false by simpa using g2,cond_false,Xed (n:=20+((Xkj s).1.Options.length:Int)) (by omega) (by omega)]
   simp only []
   rw [Xed (n:=20+((Xkj s).1.Options.length:Int)+((Xkj s).2.1.length:Int)) (by omega) (by omega)]
   by_cases g3:s.length=20+(Xkj s).1.Options.length+(Xkj s).2.1.length
   ·rw [if_neg (by simpa using g3),show ((s.length:Int) !=20+((Xkj s).1.Options.length:Int)+((Xkj s).2.1.length:Int))=false by simp;omega];rfl
   ·rw [if_pos g3,show ((s.length:Int) !=20+((Xkj s).1.Options.length:Int)+((Xkj s).2.1.length:Int))=true by simp;omega];rfl
  ·rw [if_pos g2,show ((Xkj s).2.2 !=0)=true by simpa using g2,cond_true];rfl
 ·rw [if_neg g1,show (vK s 0 1/16==4)=false by simpa using g1,cond_false]
  by_cases g4:vK s 0 1/16=6
  ·rw [if_pos g4,show (vK s 0 1/16==6)=true by simpa using g4,cond_true]
   by_cases g2:(Xmo s).2.2=0
   ·have hb:(Xmo s).2.1.length≤s.length:=by
     unfold Xmo
     repeat' split
     all_goals simp
     omega
    rw [if_neg (by simpa using g2),show ((Xmo s).2.2 !=0)=false by simpa using g2,cond_false,Xed (n:=40+((Xmo s).2.1.length:Int)) (by omega) (by omega)]
    by_cases g3:s.length=40+(Xmo s).2.1.length
    ·rw [if_neg (by simpa using g3),show ((s.length:Int) !=40+((Xmo s).2.1.length:Int))=false by simp;omega];rfl
    ·rw [if_pos g3,show ((s.length:Int) !=40+((Xmo s).2.1.length:Int))=true by simp;omega];rfl
   ·rw [if_pos g2,show ((Xmo s).2.2 !=0)=true by simpa using g2,cond_true];rfl
  ·rw [if_neg g4,show (vK s 0 1/16==6)=false by simpa using g4,cond_false];rfl
theorem XUh {o:O11} {n:Nat} (h1:A4 o.src) (h2:A4 o.dst) (hb:o.body.length<2^19) (hp:o.proto=6):∃ q,XbK (o11 o) ⟨⟨o.proto,o.src,o.dst,0,0⟩,0,false,0,0,false,[],(n:Int)⟩=some (((Xi9 o n).2.1:Int),(Xi9 o n).2.2,q)∧((Xi9 o n).2.2=0→q=(Xi9 o n).1):=by
 unfold XbK XfI Xi9 o11
 rw [if_pos hp]
 simp only []
 rw [XGx h1 h2 (by omega),Option.bind_some]
 by_cases g:(XkU o.body o.src o.dst).2.2=0
 ·have ho:(XkU o.body o.src o.dst).1.Options.length<2^20:=by
   unfold XkU
   repeat' split
   all_goals simp [XqB]
   all_goals omega
  rw [if_neg (by simpa using g),show ((XkU o.body o.src o.dst).2.2 !=0)=false by simpa using g,cond_false,XOb ho,Option.bind_some]
  unfold XFr
  by_cases g2:0≤(XmD (XkU o.body o.src o.dst).1.Options).2.2
  ·rw [if_pos g2,XaW (by omega)]
   exact ⟨_,rfl,fun _=>rfl⟩
  ·rw [if_neg g2,XaO (by omega)]
   exact ⟨_,rfl,fun _=>rfl⟩
 ·rw [if_pos g,show ((XkU o.body o.src o.dst).2.2 !=0)=true by simpa using g,cond_true]
  exact ⟨_,rfl,fun h=>absurd h g⟩
theorem XS6 {o:O11} {n:Nat} (h1:A4 o.src) (h2:A4 o.dst) (hb:o.body.length<2^19) (hp:o.proto=17):∃ q,Xbw (o11 o) ⟨⟨o.proto,o.src,o.dst,0,0⟩,0,false,0,0,false,[],(n:Int)⟩=some (((Xi9 o n).2.1:Int),(Xi9 o n).2.2,q)∧((Xi9 o n).2.2=0→q=(Xi9 o n).1):=by
 unfold Xbw Xfo Xi9 o11
 rw [if_neg (by omega),if_pos hp]
 simp only []
 rw [XN7 h1 h2 (by omega),Option.bind_some]
 by_cases g:(Xkh o.body o.src o.dst).2.2=0
 ·have ho:(Xkh o.body o.src o.dst).2.1.length<2^20:=by
   unfold Xkh
   repeat' split
   all_goals simp
   all_goals omega
  rw [if_neg (by simpa using g),show ((Xkh o.body o.src o.dst).2.2 !=0)=false by simpa using g,cond_false,Xed (n:=(o.body.length:Int) - 8) (by omega) (by omega)]
  by_cases g2:(Xkh o.body o.src o.dst).2.1.length+8=o.body.length
  ·rw [if_neg (by simpa using g2),show (((Xkh o.body o.src o.dst).2.1.length:Int) !=(o.body.length:Int) - 8)=false by simp;omega,cond_false,Xvr (by omega),Option.bind_some]
   unfold XQM
   by_cases g3:(XoW (Xkh o.body o.src o.dst).2.1).2=0
   ·rw [if_pos g3,show ((XoW (Xkh o.body o.src o.dst).2.1).2==0)=true by simpa using g3,cond_true]
    exact ⟨_,rfl,fun _=>rfl⟩
   ·rw [if_neg g3,show ((XoW (Xkh o.body o.src o.dst).2.1).2==0)=false by simpa using g3,cond_false]
    exact ⟨_,rfl,fun _=>rfl⟩
  ·rw [if_pos g2,show (((Xkh o.body o.src o.dst).2.1.length:Int) !=(o.body.length:Int) - 8)=true by simp;omega,cond_true]
   exact ⟨_,rfl,fun h=>absurd h (by decide)⟩
 ·rw [if_pos g,show ((Xkh o.body o.src o.dst).2.2 !=0)=true by simpa using g,cond_true]
  exact ⟨_,rfl,fun h=>absurd h g⟩
def Xk1 (s:List UInt8):Xal×Int×Int×Int:=
 if (XbG s).2.2.2≠0 then (zP,0,0,(XbG s).2.2.2) else ((XbG s).1,((s.length - (XbG s).2.1:Nat):Int),((s.length - (XbG s).2.2.1:Nat):Int),0)
theorem XHm {o:O11} {n:Nat}:(Xi9 o n).2.1≤o.body.length:=by
 unfold Xi9
 split
 ·split
  ·simp
  ·show (XkU o.body o.src o.dst).2.1.length≤_
   unfold XkU
   repeat' split
   all_goals simp
 split
 ·split
  ·simp
  split
  ·simp
  ·show (Xkh o.body o.src o.dst).2.1.length≤_
   unfold Xkh
   repeat' split
   all_goals simp
   all_goals omega
 ·simp
theorem Xvo {s:List UInt8} (hs:s.length<2^19):Xci s=some (Xk1 s):=by
 unfold Xci Xkd
 have hz:(⟨⟨0,⟨false,0,0⟩,⟨false,0,0⟩,0,0⟩,0,false,0,0,false,[],0⟩:Xal)=zP:=rfl
 rw [hz]
 by_cases g1:9000<s.length
 ·have hT:XbG s=(zP,0,0,5):=by unfold XbG;rw [if_pos g1]
  unfold Xk1
  rw [XaW (by omega),hT];rfl
 rw [XaO (by omega)]
 by_cases g2:s=[]
 ·subst g2;rfl
 rw [show (s==[])=false by simpa using g2,cond_false,XAD hs g2,Option.bind_some]
 obtain ⟨a1,a2⟩:=Xs7 s
 by_cases g3:(XbW s).err=0
 ·have hb:=Xqj g3
  have hil:=XHm (o:=XbW s) (n:=s.length)
  have hE:(Xi9 (XbW s) s.length).2.2≠0→Xk1 s=(zP,0,0,(Xi9 (XbW s) s.length).2.2):=fun g4=>by
   have hT:XbG s=(zP,0,0,(Xi9 (XbW s) s.length).2.2):=by unfold XbG;rw [if_neg g1,if_neg g2,if_neg (by simpa using g3),if_pos g4]
   unfold Xk1
   rw [hT,if_pos g4]
  have hO:(Xi9 (XbW s) s.length).2.2=0→Xk1 s=((Xi9 (XbW s) s.length).1,((XbW s).body.length:Int),((Xi9 (XbW s) s.length).2.1:Int),0):=fun g4=>by
   have hT:XbG s=((Xi9 (XbW s) s.length).1,s.length - (XbW s).body.length,s.length - (Xi9 (XbW s) s.length).2.1,0):=by unfold XbG;rw [if_neg g1,if_neg g2,if_neg (by simpa using g3),if_neg (by simpa using g4)]
   unfold Xk1
   rw [hT,if_neg (by simp)]
   simp only []
   rw [show s.length - (s.length - (XbW s).body.length)=(XbW s).body.length by omega,show s.length - (s.length - (Xi9 (XbW s) s.length).2.1)=(Xi9 (XbW s) s.length).2.1 by omega]
  simp only [g3,bne_self_eq_false,cond_false]
  by_cases p6:(XbW s).proto=6
  ·obtain ⟨q,q1,q2⟩:=XUh (o:=XbW s) (n:=s.length) a1 a2 (by omega) p6
   have e6:((o11 (XbW s)).proto==6)=true:=by show ((XbW s).proto==6)=true;simpa using p6
   rw [e6,cond_true]
   show (XbK (o11 (XbW s)) ⟨⟨(XbW s).proto,(XbW s).src,(XbW s).dst,0,0⟩,0,false,0,0,false,[],(s.length:Int)⟩).bind _=_
   rw [q1,Option.bind_some]
   simp only []
   by_cases g4:(Xi9 (XbW s) s.length).2.2=0
   ·rw [hO g4,g4,q2 g4];rfl
   ·rw [hE g4,show ((Xi9 (XbW s) s.length).2.2 !=0)=true by simpa using g4];rfl
  ·have e6:((o11 (XbW s)).proto==6)=false:=by show ((XbW s).proto==6)=false;simpa using p6
   rw [e6,cond_false]
   by_cases p17:(XbW s).proto=17
   ·obtain ⟨q,q1,q2⟩:=XS6 (o:=XbW s) (n:=s.length) a1 a2 (by omega) p17
    have e17:((o11 (XbW s)).proto==17)=true:=by show ((XbW s).proto==17)=true;simpa using p17
    rw [e17,cond_true]
    show (Xbw (o11 (XbW s)) ⟨⟨(XbW s).proto,(XbW s).src,(XbW s).dst,0,0⟩,0,false,0,0,false,[],(s.length:Int)⟩).bind _=_
    rw [q1,Option.bind_some]
    simp only []
    by_cases g4:(Xi9 (XbW s) s.length).2.2=0
    ·rw [hO g4,g4,q2 g4];rfl
    ·rw [hE g4,show ((Xi9 (XbW s) s.length).2.2 !=0)=true by simpa using g4];rfl
   ·have e17:((o11 (XbW s)).proto==17)=false:=by show ((XbW s).proto==17)=false;simpa using p17
    have e6':(Xi9 (XbW s) s.length).2.2=6:=by unfold Xi9;rw [if_neg p6,if_neg p17]
    rw [e17,cond_false,hE (by rw [e6'];decide),e6']
 ·have hT:XbG s=(zP,0,0,(XbW s).err):=by unfold XbG;rw [if_neg g1,if_neg g2,if_pos g3]
  unfold Xk1
  rw [hT,if_pos g3,show ((XbW s).err !=0)=true by simpa using g3];rfl
theorem XGd {s:List UInt8} (hs:s.length<2^19):Xd3 s=some ((XbG s).1,(XbG s).2.2.2):=by
 unfold Xd3 XjC
 rw [Xvo hs,Option.bind_some]
 unfold Xk1
 by_cases g:(XbG s).2.2.2=0
 ·rw [if_neg (by simpa using g),g]
 ·rw [if_pos g,Xpw g]
theorem Xst (s:List UInt8):(XbG s).2.1≤s.length∧(XbG s).2.2.1≤s.length:=by
 unfold XbG
 repeat' split
 all_goals simp
theorem XFT {s:List UInt8} (hs:s.length<2^19):Xd4 s=some (((XbG s).2.1:Int),((XbG s).2.2.1:Int),(XbG s).2.2.2):=by
 unfold Xd4 XjK
 rw [Xvo hs,Option.bind_some]
 unfold Xk1
 have hl:=Xst s
 by_cases g:(XbG s).2.2.2=0
 ·rw [if_neg (by simpa using g),g]
  simp only [bne_self_eq_false,cond_false]
  rw [Xed (by omega) (by omega),Xed (by omega) (by omega),show (s.length:Int) - ((s.length - (XbG s).2.1:Nat):Int)=((XbG s).2.1:Int) by omega,show (s.length:Int) - ((s.length - (XbG s).2.2.1:Nat):Int)=((XbG s).2.2.1:Int) by omega]
 ·rw [if_pos g]
  simp only []
  rw [show ((XbG s).2.2.2 !=0)=true by simpa using g,cond_true,Xpw g];rfl
end Go.Vm.Code
namespace Go.Vm.Code
open Go Go.Vm Go.Proofs
set_option maxRecDepth 100000
set_option maxHeartbeats 4000000
set_option linter.unusedVariables false
def Xnv (XiG:XhW) (XiY:Xh6) (s:List UInt8):Option (XeE×Int):=
 (s[0]?).bind fun (b:UInt8)=>
 cond ((wI .u8 ((b.toNat:Int).tdiv 16))==4)
  (
  (XiG s).bind fun xg=>
  let t:=wI .i64 (20+(xg.1.Options.length:Int))
  some ((XeE.mk xg.1.Src xg.1.Dst xg.1.Proto t xg.2.1,xg.2.2)))
  (
  (s[0]?).bind fun (b1:UInt8)=>
  cond ((wI .u8 ((b1.toNat:Int).tdiv 16))==6)
   (
   (XiY s).bind fun xg1=>
   some ((XeE.mk xg1.1.Src xg1.1.Dst xg1.1.Next 40 xg1.2.1,xg1.2.2)))
   (
   some ((XeE.mk (Xab.mk false 0 0) (Xab.mk false 0 0) 0 0 [],3))))
def XDf (x:XeE×Int):XcS:=⟨.tuple ⟨[.agg ⟨[.bool x.1.src.V6,.int .u64 x.1.src.Hi,.int .u64 x.1.src.Lo,.bool x.1.dst.V6,.int .u64 x.1.dst.Hi,.int .u64 x.1.dst.Lo,.int .i64 x.1.proto,.int .i64 x.1.size,.string ⟨⟨x.1.body⟩⟩]⟩,.int .i64 x.2]⟩,[],[]⟩
abbrev XgY:=(List UInt8)→Option (XeE×Int)
def r105 (g:XgY):Dec:=dV asS fun (y0:List UInt8)=>XdJ (ofG (g y0) XDf)
theorem XWC {g:XgY} {y0:List UInt8} {x:XeE×Int} (hx:g y0=some x):r105 g [.string ⟨⟨y0⟩⟩] []=some (XDf x):=(XaP (XdL)).trans (XaN hx)
def s105 (g:XgY):Xbz:=⟨[.v],r105 g⟩
theorem XKd {g:XgY} {y0:List UInt8} {x:XeE×Int} (hx:g y0=some x):(s105 g).run [.string ⟨⟨y0⟩⟩] []=some (XDf x):=XWC hx
abbrev XMu (XiG:XhW) (XiY:Xh6):List (Nat×Xbz):=[(152,s152 XiG),(153,s153 XiY)]
theorem XEq (XiG:XhW) (XiY:Xh6) (hS:Xaj Tryz.prog (XaI (XMu XiG XiY))) (s:List UInt8) (res:XeE×Int) (h:Xnv XiG XiY s=some res) :
 XaJ Tryz.prog 105 0 ⟨⟨105,53,[(0,.string ⟨⟨s⟩⟩)],[.code Xxs],[],false,none⟩,[],[],0⟩ (fun v H _=>Res 0 (XDf res) v H):=by
 unfold Xnv at h
 have R1:=@XN3 XiG
 have R2:=@XPS XiY
 refine Xa7 XaE hS true 3000 ?_
 conv=>whnf
 exact W
def Xhb:XgY:=Xnv XiG XiY
theorem XL6:XbB Tryz.prog 105 (s105 Xhb):=by
 have hL:=XEq XiG XiY (Xaj.XaK ⟨XO7,XNt,trivial⟩)
 exact okA ⟨Tryz.f105,rfl,by decide,rfl⟩
def Xng (Xi0:XhP) (Xf0:Xgj) (XiZ:Xh3) (Xe6:XfW) (Xhb:XgY) (s:List UInt8):Option (Xal×Int×Int×Int):=
 cond (decide ((s.length:Int)>9000))
  (
  some ((Xal.mk (Xah.mk 0 (Xab.mk false 0 0) (Xab.mk false 0 0) 0 0) 0 false 0 0 false [] 0,0,0,5)))
  (
  cond (s==[])
   (
   some ((Xal.mk (Xah.mk 0 (Xab.mk false 0 0) (Xab.mk false 0 0) 0 0) 0 false 0 0 false [] 0,0,0,2)))
   (
   (Xhb s).bind fun xr=>
   cond (xr.2 !=0)
    (
    some ((Xal.mk (Xah.mk 0 (Xab.mk false 0 0) (Xab.mk false 0 0) 0 0) 0 false 0 0 false [] 0,0,0,xr.2)))
    (
    let t:=wI .i64 (xr.1.size+(xr.1.body.length:Int))
    cond (t !=(s.length:Int))
     (
     some ((Xal.mk (Xah.mk 0 (Xab.mk false 0 0) (Xab.mk false 0 0) 0 0) 0 false 0 0 false [] 0,0,0,5)))
     (
     cond (xr.1.proto==6)
      (
      (Xi0 xr.1.body xr.1.src xr.1.dst).bind fun xg=>
      cond (xg.2.2 !=0)
       (
       some ((Xal.mk (Xah.mk 0 (Xab.mk false 0 0) (Xab.mk false 0 0) 0 0) 0 false 0 0 false [] 0,0,0,xg.2.2)))
       (
       (Xf0 xg.1.Options).bind fun s1=>
       cond (decide (s1.2.2≥0))
        (
        let t1:=wI .i64 ((wI .i64 (xr.1.size+20))+(xg.1.Options.length:Int))
        some ((Xal.mk (Xah.mk xr.1.proto xr.1.src xr.1.dst xg.1.SPort xg.1.DPort) xg.1.Flags true s1.1 s1.2.1 false [] (s.length:Int),xr.1.size,t1,0)))
        (
        let t2:=wI .i64 ((wI .i64 (xr.1.size+20))+(xg.1.Options.length:Int))
        some ((Xal.mk (Xah.mk xr.1.proto xr.1.src xr.1.dst xg.1.SPort xg.1.DPort) xg.1.Flags false 0 0 false [] (s.length:Int),xr.1.size,t2,0)))))
      (
      cond (xr.1.proto !=17)
       (
       some ((Xal.mk (Xah.mk 0 (Xab.mk false 0 0) (Xab.mk false 0 0) 0 0) 0 false 0 0 false [] 0,0,0,6)))
       (
       (XiZ xr.1.body xr.1.src xr.1.dst).bind fun xg1=>
       cond (xg1.2.2 !=0)
        (
        some ((Xal.mk (Xah.mk 0 (Xab.mk false 0 0) (Xab.mk false 0 0) 0 0) 0 false 0 0 false [] 0,0,0,xg1.2.2)))
        (
        let t3:=(wI .i64 ((xg1.2.1.length:Int)+8)) !=(xr.1.body.length:Int)
        cond (t3)
         (
         some ((Xal.mk (Xah.mk 0 (Xab.mk false 0 0) (Xab.mk false 0 0) 0 0) 0 false 0 0 false [] 0,0,0,5)))
         (
         (Xe6 xg1.2.1).bind fun xg2=>
         cond (xg2.2==0)
          (
          some ((Xal.mk (Xah.mk xr.1.proto xr.1.src xr.1.dst xg1.1.SPort xg1.1.DPort) 0 false 0 0 xg2.1.Long xg2.1.DCID (s.length:Int),xr.1.size,wI .i64 (xr.1.size+8),0)))
          (
          some ((Xal.mk (Xah.mk xr.1.proto xr.1.src xr.1.dst xg1.1.SPort xg1.1.DPort) 0 false 0 0 false [] (s.length:Int),xr.1.size,wI .i64 (xr.1.size+8),0)))))))))))
def rx66 (x:Xal×Int×Int×Int):XcS:=⟨.tuple ⟨[.agg ⟨[.int .i64 x.1.Tuple.Proto,.bool x.1.Tuple.Src.V6,.int .u64 x.1.Tuple.Src.Hi,.int .u64 x.1.Tuple.Src.Lo,.bool x.1.Tuple.Dst.V6,.int .u64 x.1.Tuple.Dst.Hi,.int .u64 x.1.Tuple.Dst.Lo,.int .i64 x.1.Tuple.SPort,.int .i64 x.1.Tuple.DPort,.int .i64 x.1.Flags,.bool x.1.Stamped,.int .u32 x.1.Val,.int .u32 x.1.Echo,.bool x.1.Long,.string ⟨⟨x.1.CID⟩⟩,.int .i64 x.1.Size]⟩,.int .i64 x.2.1,.int .i64 x.2.2.1,.int .i64 x.2.2.2]⟩,[],[]⟩
abbrev Xfi:=(List UInt8)→Option (Xal×Int×Int×Int)
def r66 (g:Xfi):Dec:=dV asS fun (y0:List UInt8)=>XdJ (ofG (g y0) rx66)
theorem r66_c {g:Xfi} {y0:List UInt8} {x:Xal×Int×Int×Int} (hx:g y0=some x):r66 g [.string ⟨⟨y0⟩⟩] []=some (rx66 x):=(XaP (XdL)).trans (XaN hx)
def s66 (g:Xfi):Xbz:=⟨[.v],r66 g⟩
theorem XIM {g:Xfi} {y0:List UInt8} {x:Xal×Int×Int×Int} (hx:g y0=some x):(s66 g).run [.string ⟨⟨y0⟩⟩] []=some (rx66 x):=r66_c hx
abbrev XUa (Xi0:XhP) (Xf0:Xgj) (XiZ:Xh3) (Xe6:XfW) (Xhb:XgY):List (Nat×Xbz):=[(106,s106 Xi0),(107,s107 Xf0),(108,s108 XiZ),(74,s74 Xe6),(105,s105 Xhb)]
theorem XPH (Xi0:XhP) (Xf0:Xgj) (XiZ:Xh3) (Xe6:XfW) (Xhb:XgY) (hS:Xaj Tryz.prog (XaI (XUa Xi0 Xf0 XiZ Xe6 Xhb))) (s:List UInt8) (res:Xal×Int×Int×Int) (h:Xng Xi0 Xf0 XiZ Xe6 Xhb s=some res) :
 XaJ Tryz.prog 66 0 ⟨⟨66,161,[(0,.string ⟨⟨s⟩⟩)],[.code XJQ],[],false,none⟩,[],[],0⟩ (fun v H _=>Res 0 (rx66 res) v H):=by
 unfold Xng at h
 have R1:=@XKd Xhb
 have R2:=@XQr Xi0
 have R3:=@XNi Xf0
 have R4:=@XME XiZ
 have R5:=@XIg Xe6
 refine Xa7 XaE hS true 3000 ?_
 conv=>whnf
 exact W
def Xer:Xfi:=Xng Xi0 Xf0 XiZ Xe6 Xhb
theorem XI8:XbB Tryz.prog 66 (s66 Xer):=by
 have hL:=XPH Xi0 Xf0 XiZ Xe6 Xhb (Xaj.XaK ⟨XMc,XM0,XKx,XIa,XL6,trivial⟩)
 exact okA ⟨Tryz.f66,rfl,by decide,rfl⟩
def Xmt (Xer:Xfi) (s:List UInt8):Option (Xal×Int):=
 (Xer s).bind fun t=>
 some ((t.1,t.2.2.2))
def rx28 (x:Xal×Int):XcS:=⟨.tuple ⟨[.agg ⟨[.int .i64 x.1.Tuple.Proto,.bool x.1.Tuple.Src.V6,.int .u64 x.1.Tuple.Src.Hi,.int .u64 x.1.Tuple.Src.Lo,.bool x.1.Tuple.Dst.V6,.int .u64 x.1.Tuple.Dst.Hi,.int .u64 x.1.Tuple.Dst.Lo,.int .i64 x.1.Tuple.SPort,.int .i64 x.1.Tuple.DPort,.int .i64 x.1.Flags,.bool x.1.Stamped,.int .u32 x.1.Val,.int .u32 x.1.Echo,.bool x.1.Long,.string ⟨⟨x.1.CID⟩⟩,.int .i64 x.1.Size]⟩,.int .i64 x.2]⟩,[],[]⟩
abbrev XeS:=(List UInt8)→Option (Xal×Int)
def r28 (g:XeS):Dec:=dV asS fun (y0:List UInt8)=>XdJ (ofG (g y0) rx28)
theorem r28_c {g:XeS} {y0:List UInt8} {x:Xal×Int} (hx:g y0=some x):r28 g [.string ⟨⟨y0⟩⟩] []=some (rx28 x):=(XaP (XdL)).trans (XaN hx)
def s28 (g:XeS):Xbz:=⟨[.v],r28 g⟩
theorem XIZ {g:XeS} {y0:List UInt8} {x:Xal×Int} (hx:g y0=some x):(s28 g).run [.string ⟨⟨y0⟩⟩] []=some (rx28 x):=r28_c hx
abbrev XSt (Xer:Xfi):List (Nat×Xbz):=[(66,s66 Xer)]
theorem XNu (Xer:Xfi) (hS:Xaj Tryz.prog (XaI (XSt Xer))) (s:List UInt8) (res:Xal×Int) (h:Xmt Xer s=some res) :
 XaJ Tryz.prog 28 0 ⟨⟨28,17,[(0,.string ⟨⟨s⟩⟩)],[.code XUE],[],false,none⟩,[],[],0⟩ (fun v H _=>Res 0 (rx28 res) v H):=by
 unfold Xmt at h
 have R1:=@XIM Xer
 refine Xa7 XaE hS true 3000 ?_
 conv=>whnf
 exact W
def Xc5:XeS:=Xmt Xer
theorem XIx:XbB Tryz.prog 28 (s28 Xc5):=by
 have hL:=XNu Xer (Xaj.XaK ⟨XI8,trivial⟩)
 exact okA ⟨Tryz.f28,rfl,by decide,rfl⟩
def Xmr (Xer:Xfi) (s:List UInt8):Option (Int×Int×Int):=
 (Xer s).bind fun t=>
 some ((t.2.1,t.2.2.1,t.2.2.2))
def rx73 (x:Int×Int×Int):XcS:=⟨.tuple ⟨[.int .i64 x.1,.int .i64 x.2.1,.int .i64 x.2.2]⟩,[],[]⟩
abbrev Xgh:=(List UInt8)→Option (Int×Int×Int)
def r73 (g:Xgh):Dec:=dV asS fun (y0:List UInt8)=>XdJ (ofG (g y0) rx73)
theorem r73_c {g:Xgh} {y0:List UInt8} {x:Int×Int×Int} (hx:g y0=some x):r73 g [.string ⟨⟨y0⟩⟩] []=some (rx73 x):=(XaP (XdL)).trans (XaN hx)
def s73 (g:Xgh):Xbz:=⟨[.v],r73 g⟩
theorem XRd {g:Xgh} {y0:List UInt8} {x:Int×Int×Int} (hx:g y0=some x):(s73 g).run [.string ⟨⟨y0⟩⟩] []=some (rx73 x):=r73_c hx
abbrev XWm (Xer:Xfi):List (Nat×Xbz):=[(66,s66 Xer)]
theorem XMm (Xer:Xfi) (hS:Xaj Tryz.prog (XaI (XWm Xer))) (s:List UInt8) (res:Int×Int×Int) (h:Xmr Xer s=some res) :
 XaJ Tryz.prog 73 0 ⟨⟨73,19,[(0,.string ⟨⟨s⟩⟩)],[.code XSz],[],false,none⟩,[],[],0⟩ (fun v H _=>Res 0 (rx73 res) v H):=by
 unfold Xmr at h
 have R1:=@XIM Xer
 refine Xa7 XaE hS true 3000 ?_
 conv=>whnf
 exact W
def XfG:Xgh:=Xmr Xer
theorem XQ4:XbB Tryz.prog 73 (s73 XfG):=by
 have hL:=XMm Xer (Xaj.XaK ⟨XI8,trivial⟩)
 exact okA ⟨Tryz.f73,rfl,by decide,rfl⟩
end Go.Vm.Code
namespace Go.Vm.Code
open Go Go.Vm
def Xnf (s:List UInt8):XeE×Int:=
 if vK s 0 1/16=4 then (⟨(Xkj s).1.Src,(Xkj s).1.Dst,(Xkj s).1.Proto,20+((Xkj s).1.Options.length:Int),(Xkj s).2.1⟩,(Xkj s).2.2)
 else if vK s 0 1/16=6 then (⟨(Xmo s).1.Src,(Xmo s).1.Dst,(Xmo s).1.Next,40,(Xmo s).2.1⟩,(Xmo s).2.2)
 else (⟨⟨false,0,0⟩,⟨false,0,0⟩,0,0,[]⟩,3)
theorem Xv1 (s:List UInt8):(Xkj s).1.Options.length≤s.length∧(Xkj s).2.1.length≤s.length:=by
 unfold Xkj
 repeat' split
 all_goals simp [Xqa]
 omega
theorem XCq (s:List UInt8):(Xmo s).2.1.length≤s.length:=by
 unfold Xmo
 repeat' split
 all_goals simp
 omega
theorem XKy {s:List UInt8} (hs:s.length<2^19) (hn:s≠[]):Xhb s=some (Xnf s):=by
 unfold Xhb Xnv Xnf
 have h0:0<s.length:=List.length_pos_iff.2 hn
 have e0:=XmM (s:=s) (p:=0) h0
 have r0:=Xgl s 0 1 256 (by decide)
 obtain ⟨b1,b2⟩:=Xv1 s
 rw [List.getElem?_eq_getElem h0,Option.bind_some,←e0,Int.tdiv_eq_ediv_of_nonneg (by omega),wU8 (by omega) (by omega),XSy (by omega),XGr (by omega),Option.bind_some,Option.bind_some]
 by_cases g1:vK s 0 1/16=4
 ·rw [if_pos g1,show (vK s 0 1/16==4)=true by simpa using g1,cond_true]
  rw [Xed (n:=20+((Xkj s).1.Options.length:Int)) (by omega) (by omega)]
 ·rw [if_neg g1,show (vK s 0 1/16==4)=false by simpa using g1,cond_false,Option.bind_some,←e0,Int.tdiv_eq_ediv_of_nonneg (by omega),wU8 (by omega) (by omega)]
  by_cases g4:vK s 0 1/16=6
  ·rw [if_pos g4,show (vK s 0 1/16==6)=true by simpa using g4,cond_true]
  ·rw [if_neg g4,show (vK s 0 1/16==6)=false by simpa using g4,cond_false]
theorem XGs {s:List UInt8} (h:(Xnf s).2≠0):(XbW s).err=(Xnf s).2:=by
 unfold Xnf XbW at *
 split
 ·rename_i g;rw [if_pos g] at h;rw [if_pos h];rfl
 ·rename_i g;rw [if_neg g] at h
  split
  ·rename_i g2;rw [if_pos g2] at h;rw [if_pos h];rfl
  ·rfl
theorem XBe {s:List UInt8} (h:(Xnf s).2=0) (h2:(Xnf s).1.size+((Xnf s).1.body.length:Int)≠(s.length:Int)):(XbW s).err=5:=by
 unfold Xnf XbW at *
 split
 ·rename_i g;rw [if_pos g] at h h2;rw [if_neg (by simpa using h),if_pos (by simp only [] at h2;omega)];rfl
 ·rename_i g;rw [if_neg g] at h h2
  split
  ·rename_i g2;rw [if_pos g2] at h h2;rw [if_neg (by simpa using h),if_pos (by simp only [] at h2;omega)];rfl
  ·rename_i g2;rw [if_neg g2] at h;exact absurd h (by decide)
theorem XJY {s:List UInt8} (h:(Xnf s).2=0) (h2:(Xnf s).1.size+((Xnf s).1.body.length:Int)=(s.length:Int)):(XbW s).err=0∧(Xnf s).1=⟨(XbW s).src,(XbW s).dst,(XbW s).proto,((XbW s).size:Int),(XbW s).body⟩:=by
 unfold Xnf XbW at *
 by_cases g:vK s 0 1/16=4
 ·rw [if_pos g] at h h2;rw [if_pos g,if_pos g,if_neg (by simpa using h),if_neg (by simp only [] at h2;omega)];exact ⟨rfl,rfl⟩
 ·rw [if_neg g] at h h2
  by_cases g2:vK s 0 1/16=6
  ·rw [if_pos g2] at h h2;rw [if_neg g,if_neg g,if_pos g2,if_pos g2,if_neg (by simpa using h),if_neg (by simp only [] at h2;omega)];exact ⟨rfl,rfl⟩
  ·rw [if_neg g2] at h;exact absurd h (by decide)
theorem XEF {b:List UInt8} {src dst:Xab} (h:(XkU b src dst).2.2=0):20+(XkU b src dst).1.Options.length+(XkU b src dst).2.1.length=b.length:=by
 have r:=Xgl b 12 1 256 (by decide)
 unfold XkU at h ⊢
 by_cases g0:b.length<20
 ·rw [if_pos g0] at h;exact absurd h (by decide)
 by_cases g1:4*(vK b 12 1/16)<20
 ·rw [if_neg g0,if_pos g1] at h;exact absurd h (by decide)
 by_cases g2:vK b 12 1%16≠0
 ·rw [if_neg g0,if_neg g1,if_pos g2] at h;exact absurd h (by decide)
 by_cases g3:(b.length:Int)<4*(vK b 12 1/16)
 ·rw [if_neg g0,if_neg g1,if_neg g2,if_pos g3] at h;exact absurd h (by decide)
 by_cases g4:XoU src dst 6 b.length=[]
 ·rw [if_neg g0,if_neg g1,if_neg g2,if_neg g3,if_pos g4] at h;exact absurd h (by decide)
 by_cases g5:norm (Xic (XoU src dst 6 b.length++b))≠65535
 ·rw [if_neg g0,if_neg g1,if_neg g2,if_neg g3,if_neg g4,if_pos g5] at h;exact absurd h (by decide)
 by_cases g6:(XnZ ((b.drop 20).take ((4*(vK b 12 1/16)).toNat - 20))).2≠0
 ·rw [if_neg g0,if_neg g1,if_neg g2,if_neg g3,if_neg g4,if_neg g5,if_pos g6] at h;exact absurd h g6
 rw [if_neg g0,if_neg g1,if_neg g2,if_neg g3,if_neg g4,if_neg g5,if_neg g6]
 simp only [List.length_take,List.length_drop]
 omega
theorem Xv9 {s:List UInt8} (hs:s.length<2^19):Xer s=some ((XbG s).1,((XbG s).2.1:Int),((XbG s).2.2.1:Int),(XbG s).2.2.2):=by
 unfold Xer Xng
 have hz:(⟨⟨0,⟨false,0,0⟩,⟨false,0,0⟩,0,0⟩,0,false,0,0,false,[],0⟩:Xal)=zP:=rfl
 rw [hz]
 simp only []
 by_cases g1:9000<s.length
 ·have hT:XbG s=(zP,0,0,5):=by unfold XbG;rw [if_pos g1]
  rw [XaW (by omega),hT];rfl
 rw [XaO (by omega)]
 by_cases g2:s=[]
 ·subst g2;rfl
 rw [show (s==[])=false by simpa using g2,cond_false,XKy hs g2,Option.bind_some]
 by_cases g3:(Xnf s).2=0
 ·rw [show ((Xnf s).2 !=0)=false by simpa using g3,cond_false]
  have bs:(Xnf s).1.body.length≤s.length∧0≤(Xnf s).1.size∧(Xnf s).1.size≤40+(s.length:Int):=by
   obtain ⟨b1,b2⟩:=Xv1 s
   have b3:=XCq s
   unfold Xnf
   split
   ·exact ⟨b2,by simp only [];omega,by simp only [];omega⟩
   split
   ·exact ⟨b3,by simp only [];omega,by simp only [];omega⟩
   ·exact ⟨by simp,by simp only [];omega,by simp only [];omega⟩
  rw [Xed (n:=(Xnf s).1.size+((Xnf s).1.body.length:Int)) (by omega) (by omega)]
  by_cases gl:(Xnf s).1.size+((Xnf s).1.body.length:Int)=(s.length:Int)
  ·obtain ⟨k1,k2⟩:=XJY g3 gl
   rw [show ((Xnf s).1.size+((Xnf s).1.body.length:Int) !=(s.length:Int))=false by simpa using gl,k2]
   simp only [cond_false]
   obtain ⟨a1,a2⟩:=Xs7 s
   have hb:=Xqj k1
   have hE:(Xi9 (XbW s) s.length).2.2≠0→XbG s=(zP,0,0,(Xi9 (XbW s) s.length).2.2):=fun g4=>by
    unfold XbG;rw [if_neg g1,if_neg g2,if_neg (by simpa using k1),if_pos g4]
   have hO:(Xi9 (XbW s) s.length).2.2=0→XbG s=((Xi9 (XbW s) s.length).1,s.length - (XbW s).body.length,s.length - (Xi9 (XbW s) s.length).2.1,0):=fun g4=>by
    unfold XbG;rw [if_neg g1,if_neg g2,if_neg (by simpa using k1),if_neg (by simpa using g4)]
   generalize hO':XbW s=o at *
   by_cases p6:o.proto=6
   ·rw [show (o.proto==6)=true by simpa using p6,cond_true,XC6 a1 a2 (by omega),Option.bind_some]
    by_cases g:(XkU o.body o.src o.dst).2.2=0
    ·have hl7:=XEF g
     have hin:Xi9 o s.length=(⟨⟨o.proto,o.src,o.dst,(XkU o.body o.src o.dst).1.SPort,(XkU o.body o.src o.dst).1.DPort⟩,(XkU o.body o.src o.dst).1.Flags,(XFr (XkU o.body o.src o.dst).1.Options).1,(XFr (XkU o.body o.src o.dst).1.Options).2.1,(XFr (XkU o.body o.src o.dst).1.Options).2.2,false,[],s.length⟩,(XkU o.body o.src o.dst).2.1.length,0):=by
      unfold Xi9;rw [if_pos p6,if_neg (by simpa using g)]
     rw [hO (by rw [hin]),hin]
     rw [show ((XkU o.body o.src o.dst).2.2 !=0)=false by simpa using g,cond_false,XM6 (by omega),Option.bind_some]
     simp only []
     rw [Xed (n:=(o.size:Int)+20) (by omega) (by omega),Xed (n:=(o.size:Int)+20+((XkU o.body o.src o.dst).1.Options.length:Int)) (by omega) (by omega),show ((s.length - o.body.length:Nat):Int)=(o.size:Int) by omega,show ((s.length - (XkU o.body o.src o.dst).2.1.length:Nat):Int)=(o.size:Int)+20+((XkU o.body o.src o.dst).1.Options.length:Int) by omega]
     unfold XFr
     by_cases g5:0≤(XmD (XkU o.body o.src o.dst).1.Options).2.2
     ·rw [if_pos g5,XaW (by omega)]
     ·rw [if_neg g5,XaO (by omega)]
    ·have hin:Xi9 o s.length=(zP,0,(XkU o.body o.src o.dst).2.2):=by
      unfold Xi9;rw [if_pos p6,if_pos g]
     rw [hE (by rw [hin];exact g),hin,show ((XkU o.body o.src o.dst).2.2 !=0)=true by simpa using g];rfl
   ·rw [show (o.proto==6)=false by simpa using p6,cond_false]
    by_cases p17:o.proto=17
    ·rw [show (o.proto !=17)=false by simpa using p17,cond_false,XDx a1 a2 (by omega),Option.bind_some]
     by_cases g:(Xkh o.body o.src o.dst).2.2=0
     ·have hb8:(Xkh o.body o.src o.dst).2.1.length≤o.body.length:=by
       unfold Xkh
       repeat' split
       all_goals simp
       all_goals omega
      rw [show ((Xkh o.body o.src o.dst).2.2 !=0)=false by simpa using g,cond_false]
      rw [Xed (n:=((Xkh o.body o.src o.dst).2.1.length:Int)+8) (by omega) (by omega)]
      by_cases g6:(Xkh o.body o.src o.dst).2.1.length+8=o.body.length
      ·have hin:Xi9 o s.length=(⟨⟨o.proto,o.src,o.dst,(Xkh o.body o.src o.dst).1.SPort,(Xkh o.body o.src o.dst).1.DPort⟩,0,false,0,0,(XQM (Xkh o.body o.src o.dst).2.1).1,(XQM (Xkh o.body o.src o.dst).2.1).2,s.length⟩,(Xkh o.body o.src o.dst).2.1.length,0):=by
        unfold Xi9;rw [if_neg p6,if_pos p17,if_neg (by simpa using g),if_neg (by simpa using g6)]
       rw [hO (by rw [hin]),hin,show (((Xkh o.body o.src o.dst).2.1.length:Int)+8 !=(o.body.length:Int))=false by simp;omega,cond_false,Xv0 (by omega),Option.bind_some,Xed (n:=(o.size:Int)+8) (by omega) (by omega)]
       simp only []
       rw [show ((s.length - o.body.length:Nat):Int)=(o.size:Int) by omega,show ((s.length - (Xkh o.body o.src o.dst).2.1.length:Nat):Int)=(o.size:Int)+8 by omega]
       unfold XQM
       by_cases g5:(XoW (Xkh o.body o.src o.dst).2.1).2=0
       ·rw [if_pos g5,show ((XoW (Xkh o.body o.src o.dst).2.1).2==0)=true by simpa using g5,cond_true]
       ·rw [if_neg g5,show ((XoW (Xkh o.body o.src o.dst).2.1).2==0)=false by simpa using g5,cond_false]
      ·have hin:Xi9 o s.length=(zP,0,5):=by
        unfold Xi9;rw [if_neg p6,if_pos p17,if_neg (by simpa using g),if_pos g6]
       rw [hE (by rw [hin];decide),hin,show (((Xkh o.body o.src o.dst).2.1.length:Int)+8 !=(o.body.length:Int))=true by simp;omega];rfl
     ·have hin:Xi9 o s.length=(zP,0,(Xkh o.body o.src o.dst).2.2):=by
       unfold Xi9;rw [if_neg p6,if_pos p17,if_pos g]
      rw [hE (by rw [hin];exact g),hin,show ((Xkh o.body o.src o.dst).2.2 !=0)=true by simpa using g];rfl
    ·have hin:Xi9 o s.length=(zP,0,6):=by
      unfold Xi9;rw [if_neg p6,if_neg p17]
     rw [hE (by rw [hin];decide),hin,show (o.proto !=17)=true by simpa using p17];rfl
  ·have hT:XbG s=(zP,0,0,5):=by
    have e:=XBe g3 gl
    unfold XbG;rw [if_neg g1,if_neg g2,if_pos (by rw [e];decide),e]
   rw [hT,show ((Xnf s).1.size+((Xnf s).1.body.length:Int) !=(s.length:Int))=true by simpa using gl];rfl
 ·have hT:XbG s=(zP,0,0,(Xnf s).2):=by
   have e:=XGs g3
   unfold XbG;rw [if_neg g1,if_neg g2,if_pos (by rw [e];exact g3),e]
  rw [hT,show ((Xnf s).2 !=0)=true by simpa using g3];rfl
theorem XxS {s:List UInt8} (hs:s.length<2^19):Xc5 s=some ((XbG s).1,(XbG s).2.2.2):=by
 unfold Xc5 Xmt
 rw [Xv9 hs,Option.bind_some]
theorem Xzz {s:List UInt8} (hs:s.length<2^19):XfG s=some (((XbG s).2.1:Int),((XbG s).2.2.1:Int),(XbG s).2.2.2):=by
 unfold XfG Xmr
 rw [Xv9 hs,Option.bind_some]
end Go.Vm.Code
namespace Go.Vm.Code
open Go Go.Vm Go.Proofs
set_option maxRecDepth 100000
set_option maxHeartbeats 4000000
set_option linter.unusedVariables false
def Xk3 (XaH:Xb6) (XeK:XfA) (Xfm:Xgn) (t:Xah) (body:List UInt8):Option ((List UInt8)×Int):=
 cond (t.Proto==6)
  (
  cond (!(t.Src.V6==t.Dst.V6))
   (
   some (([],1)))
   (
   (XaH t.Src).bind fun xr=>
   cond (!xr)
    (
    some (([],1)))
    (
    (XaH t.Dst).bind fun xr1=>
    cond (!xr1)
     (
     some (([],1)))
     (
     cond (t.Src.V6)
      (
      (Xfm (Xay.mk 0 0 t.Proto 64 t.Src t.Dst) body).bind fun p=>
      cond (p.2==0)
       (
       cond (decide ((p.1.length:Int)>9000))
        (
        some (([],5)))
        (
        some ((p.1,p.2))))
       (
       some ((p.1,p.2))))
      (
      (XeK (Xan.mk 0 0 true 64 t.Proto t.Src t.Dst []) body).bind fun p1=>
      cond (p1.2==0)
       (
       cond (decide ((p1.1.length:Int)>9000))
        (
        some (([],5)))
        (
        some ((p1.1,p1.2))))
       (
       some ((p1.1,p1.2))))))))
  (
  cond (!(t.Proto==17))
   (
   some (([],1)))
   (
   cond (!(t.Src.V6==t.Dst.V6))
    (
    some (([],1)))
    (
    (XaH t.Src).bind fun xr2=>
    cond (!xr2)
     (
     some (([],1)))
     (
     (XaH t.Dst).bind fun xr3=>
     cond (!xr3)
      (
      some (([],1)))
      (
      cond (t.Src.V6)
       (
       (Xfm (Xay.mk 0 0 t.Proto 64 t.Src t.Dst) body).bind fun p2=>
       cond (p2.2==0)
        (
        cond (decide ((p2.1.length:Int)>9000))
         (
         some (([],5)))
         (
         some ((p2.1,p2.2))))
        (
        some ((p2.1,p2.2))))
       (
       (XeK (Xan.mk 0 0 true 64 t.Proto t.Src t.Dst []) body).bind fun p3=>
       cond (p3.2==0)
        (
        cond (decide ((p3.1.length:Int)>9000))
         (
         some (([],5)))
         (
         some ((p3.1,p3.2))))
        (
        some ((p3.1,p3.2)))))))))
def XEA (x:(List UInt8)×Int):XcS:=⟨.tuple ⟨[.string ⟨⟨x.1⟩⟩,.int .i64 x.2]⟩,[],[]⟩
abbrev Xep:=Xah→(List UInt8)→Option ((List UInt8)×Int)
def r161 (g:Xep):Dec:=dV Xd0 fun (y0:Xah)=>dV asS fun (y1:List UInt8)=>XdJ (ofG (g y0 y1) XEA)
theorem XWz {g:Xep} {y0:Xah} {y1:List UInt8} {x:(List UInt8)×Int} (hx:g y0 y1=some x):r161 g [.agg ⟨[.int .i64 y0.Proto,.bool y0.Src.V6,.int .u64 y0.Src.Hi,.int .u64 y0.Src.Lo,.bool y0.Dst.V6,.int .u64 y0.Dst.Hi,.int .u64 y0.Dst.Lo,.int .i64 y0.SPort,.int .i64 y0.DPort]⟩,.string ⟨⟨y1⟩⟩] []=some (XEA x):=(XaP (Xem _)).trans ((XaP (XdL)).trans (XaN hx))
def s161 (g:Xep):Xbz:=⟨[.v,.v],r161 g⟩
theorem XyO {g:Xep} {y0:Xah} {y1:List UInt8} {x:(List UInt8)×Int} (hx:g y0 y1=some x):(s161 g).run [.agg ⟨[.int .i64 y0.Proto,.bool y0.Src.V6,.int .u64 y0.Src.Hi,.int .u64 y0.Src.Lo,.bool y0.Dst.V6,.int .u64 y0.Dst.Hi,.int .u64 y0.Dst.Lo,.int .i64 y0.SPort,.int .i64 y0.DPort]⟩,.string ⟨⟨y1⟩⟩] []=some (XEA x):=XWz hx
abbrev XPI (XaH:Xb6) (XeK:XfA) (Xfm:Xgn):List (Nat×Xbz):=[(110,XOp XaH),(185,s185 XeK),(184,s184 Xfm)]
theorem XDL (XaH:Xb6) (XeK:XfA) (Xfm:Xgn) (hS:Xaj Tryz.prog (XaI (XPI XaH XeK Xfm))) (t:Xah) (body:List UInt8) (res:(List UInt8)×Int) (h:Xk3 XaH XeK Xfm t body=some res) :
 XaJ Tryz.prog 161 0 ⟨⟨161,76,[(0,.agg ⟨[.int .i64 t.Proto,.bool t.Src.V6,.int .u64 t.Src.Hi,.int .u64 t.Src.Lo,.bool t.Dst.V6,.int .u64 t.Dst.Hi,.int .u64 t.Dst.Lo,.int .i64 t.SPort,.int .i64 t.DPort]⟩),(1,.string ⟨⟨body⟩⟩)],[.code XAi],[],false,none⟩,[],[],0⟩ (fun v H _=>Res 0 (XEA res) v H):=by
 unfold Xk3 at h
 have R1:=@Xql XaH
 have R2:=@XNw Xfm
 have R3:=@XJ9 XeK
 refine Xa7 XaE hS true 3000 ?_
 conv=>whnf
 exact W
def XcI:Xep:=Xk3 XaH XeK Xfm
theorem Xzm:XbB Tryz.prog 161 (s161 XcI):=by
 have hL:=XDL XaH XeK Xfm (Xaj.XaK ⟨Xp5,XN2,XMa,trivial⟩)
 exact okA ⟨Tryz.f161,rfl,by decide,rfl⟩
def Xig (XcI:Xep) (XiJ:Xh7) (t:Xah) (flags:Int) (options:List UInt8) (payload:List UInt8):Option ((List UInt8)×Int):=
 cond (t.Proto !=6)
  (
  some (([],1)))
  (
  (XiJ (XaC.mk t.SPort t.DPort 0 0 flags 65535 0 options) t.Src t.Dst payload).bind fun p=>
  cond (p.2 !=0)
   (
   some (([],p.2)))
   (
   (XcI t p.1).bind fun p1=>
   some ((p1.1,p1.2))))
def XDs (x:(List UInt8)×Int):XcS:=⟨.tuple ⟨[.string ⟨⟨x.1⟩⟩,.int .i64 x.2]⟩,[],[]⟩
abbrev XcH:=Xah→Int→(List UInt8)→(List UInt8)→Option ((List UInt8)×Int)
def r118 (g:XcH):Dec:=dV Xd0 fun (y0:Xah)=>dV (asI .i64) fun (y1:Int)=>dV asS fun (y2:List UInt8)=>dV asS fun (y3:List UInt8)=>XdJ (ofG (g y0 y1 y2 y3) XDs)
theorem XWb {g:XcH} {y0:Xah} {y1:Int} {y2:List UInt8} {y3:List UInt8} {x:(List UInt8)×Int} (hx:g y0 y1 y2 y3=some x):r118 g [.agg ⟨[.int .i64 y0.Proto,.bool y0.Src.V6,.int .u64 y0.Src.Hi,.int .u64 y0.Src.Lo,.bool y0.Dst.V6,.int .u64 y0.Dst.Hi,.int .u64 y0.Dst.Lo,.int .i64 y0.SPort,.int .i64 y0.DPort]⟩,.int .i64 y1,.string ⟨⟨y2⟩⟩,.string ⟨⟨y3⟩⟩] []=some (XDs x):=(XaP (Xem _)).trans ((XaP (Xen _)).trans ((XaP (XdL)).trans ((XaP (XdL)).trans (XaN hx))))
def s118 (g:XcH):Xbz:=⟨[.v,.v,.v,.v],r118 g⟩
theorem Xz8 {g:XcH} {y0:Xah} {y1:Int} {y2:List UInt8} {y3:List UInt8} {x:(List UInt8)×Int} (hx:g y0 y1 y2 y3=some x):(s118 g).run [.agg ⟨[.int .i64 y0.Proto,.bool y0.Src.V6,.int .u64 y0.Src.Hi,.int .u64 y0.Src.Lo,.bool y0.Dst.V6,.int .u64 y0.Dst.Hi,.int .u64 y0.Dst.Lo,.int .i64 y0.SPort,.int .i64 y0.DPort]⟩,.int .i64 y1,.string ⟨⟨y2⟩⟩,.string ⟨⟨y3⟩⟩] []=some (XDs x):=XWb hx
abbrev XLJ (XcI:Xep) (XiJ:Xh7):List (Nat×Xbz):=[(161,s161 XcI),(160,s160 XiJ)]
theorem XFL (XcI:Xep) (XiJ:Xh7) (hS:Xaj Tryz.prog (XaI (XLJ XcI XiJ))) (t:Xah) (flags:Int) (options:List UInt8) (payload:List UInt8) (res:(List UInt8)×Int) (h:Xig XcI XiJ t flags options payload=some res) :
 XaJ Tryz.prog 118 0 ⟨⟨118,41,[(0,.agg ⟨[.int .i64 t.Proto,.bool t.Src.V6,.int .u64 t.Src.Hi,.int .u64 t.Src.Lo,.bool t.Dst.V6,.int .u64 t.Dst.Hi,.int .u64 t.Dst.Lo,.int .i64 t.SPort,.int .i64 t.DPort]⟩),(1,.int .i64 flags),(2,.string ⟨⟨options⟩⟩),(3,.string ⟨⟨payload⟩⟩)],[.code Xxy],[],false,none⟩,[],[],0⟩ (fun v H _=>Res 0 (XDs res) v H):=by
 unfold Xig at h
 have R1:=@XK3 XiJ
 have R2:=@XyO XcI
 refine Xa7 XaE hS true 3000 ?_
 conv=>whnf
 exact W
def XbC:XcH:=Xig XcI XiJ
theorem XzU:XbB Tryz.prog 118 (s118 XbC):=by
 have hL:=XFL XcI XiJ (Xaj.XaK ⟨Xzm,XL4,trivial⟩)
 exact okA ⟨Tryz.f118,rfl,by decide,rfl⟩
def XhB (XcI:Xep) (XiX:XhN) (t:Xah) (payload:List UInt8):Option ((List UInt8)×Int):=
 cond (t.Proto !=17)
  (
  some (([],1)))
  (
  (XiX (XaR.mk t.SPort t.DPort) t.Src t.Dst payload).bind fun p=>
  cond (p.2 !=0)
   (
   some (([],p.2)))
   (
   (XcI t p.1).bind fun p1=>
   some ((p1.1,p1.2))))
def XC5 (x:(List UInt8)×Int):XcS:=⟨.tuple ⟨[.string ⟨⟨x.1⟩⟩,.int .i64 x.2]⟩,[],[]⟩
abbrev XdG:=Xah→(List UInt8)→Option ((List UInt8)×Int)
def r163 (g:XdG):Dec:=dV Xd0 fun (y0:Xah)=>dV asS fun (y1:List UInt8)=>XdJ (ofG (g y0 y1) XC5)
theorem XVG {g:XdG} {y0:Xah} {y1:List UInt8} {x:(List UInt8)×Int} (hx:g y0 y1=some x):r163 g [.agg ⟨[.int .i64 y0.Proto,.bool y0.Src.V6,.int .u64 y0.Src.Hi,.int .u64 y0.Src.Lo,.bool y0.Dst.V6,.int .u64 y0.Dst.Hi,.int .u64 y0.Dst.Lo,.int .i64 y0.SPort,.int .i64 y0.DPort]⟩,.string ⟨⟨y1⟩⟩] []=some (XC5 x):=(XaP (Xem _)).trans ((XaP (XdL)).trans (XaN hx))
def s163 (g:XdG):Xbz:=⟨[.v,.v],r163 g⟩
theorem XLc {g:XdG} {y0:Xah} {y1:List UInt8} {x:(List UInt8)×Int} (hx:g y0 y1=some x):(s163 g).run [.agg ⟨[.int .i64 y0.Proto,.bool y0.Src.V6,.int .u64 y0.Src.Hi,.int .u64 y0.Src.Lo,.bool y0.Dst.V6,.int .u64 y0.Dst.Hi,.int .u64 y0.Dst.Lo,.int .i64 y0.SPort,.int .i64 y0.DPort]⟩,.string ⟨⟨y1⟩⟩] []=some (XC5 x):=XVG hx
abbrev XL8 (XcI:Xep) (XiX:XhN):List (Nat×Xbz):=[(161,s161 XcI),(188,s188 XiX)]
theorem XES (XcI:Xep) (XiX:XhN) (hS:Xaj Tryz.prog (XaI (XL8 XcI XiX))) (t:Xah) (payload:List UInt8) (res:(List UInt8)×Int) (h:XhB XcI XiX t payload=some res) :
 XaJ Tryz.prog 163 0 ⟨⟨163,33,[(0,.agg ⟨[.int .i64 t.Proto,.bool t.Src.V6,.int .u64 t.Src.Hi,.int .u64 t.Src.Lo,.bool t.Dst.V6,.int .u64 t.Dst.Hi,.int .u64 t.Dst.Lo,.int .i64 t.SPort,.int .i64 t.DPort]⟩),(1,.string ⟨⟨payload⟩⟩)],[.code XyK],[],false,none⟩,[],[],0⟩ (fun v H _=>Res 0 (XC5 res) v H):=by
 unfold XhB at h
 have R1:=@XN5 XiX
 have R2:=@XyO XcI
 refine Xa7 XaE hS true 3000 ?_
 conv=>whnf
 exact W
def XcK:XdG:=XhB XcI XiX
theorem XMK:XbB Tryz.prog 163 (s163 XcK):=by
 have hL:=XES XcI XiX (Xaj.XaK ⟨Xzm,XP2,trivial⟩)
 exact okA ⟨Tryz.f163,rfl,by decide,rfl⟩
def Xpv (XaT:Xcm) (Xij:XhZ) (Xim:Xh4) (t:Xah) (body:List UInt8):Option ((List UInt8)×Int):=
 cond (!(t.Src.V6==t.Dst.V6))
  (
  some (([],1)))
  (
  (XaT t.Src).bind fun xr=>
  cond (!xr)
   (
   some (([],1)))
   (
   (XaT t.Dst).bind fun xr1=>
   cond (!xr1)
    (
    some (([],1)))
    (
    cond (t.Proto !=6)
     (
     cond (t.Proto !=17)
      (
      some (([],1)))
      (
      (Xim (Xay.mk 0 0 t.Proto 64 t.Src t.Dst) body).bind fun p=>
      cond (!t.Src.V6)
       (
       (Xij (Xan.mk 0 0 true 64 t.Proto t.Src t.Dst []) body).bind fun p1=>
       cond (p1.2==0)
        (
        cond (decide ((p1.1.length:Int)>9000))
         (
         some (([],5)))
         (
         some ((p1.1,p1.2))))
        (
        some ((p1.1,p1.2))))
       (
       cond (p.2==0)
        (
        cond (decide ((p.1.length:Int)>9000))
         (
         some (([],5)))
         (
         some ((p.1,p.2))))
        (
        some ((p.1,p.2))))))
     (
     (Xim (Xay.mk 0 0 t.Proto 64 t.Src t.Dst) body).bind fun p2=>
     cond (!t.Src.V6)
      (
      (Xij (Xan.mk 0 0 true 64 t.Proto t.Src t.Dst []) body).bind fun p3=>
      cond (p3.2==0)
       (
       cond (decide ((p3.1.length:Int)>9000))
        (
        some (([],5)))
        (
        some ((p3.1,p3.2))))
       (
       some ((p3.1,p3.2))))
      (
      cond (p2.2==0)
       (
       cond (decide ((p2.1.length:Int)>9000))
        (
        some (([],5)))
        (
        some ((p2.1,p2.2))))
       (
       some ((p2.1,p2.2))))))))
def rx61 (x:(List UInt8)×Int):XcS:=⟨.tuple ⟨[.string ⟨⟨x.1⟩⟩,.int .i64 x.2]⟩,[],[]⟩
abbrev XfU:=Xah→(List UInt8)→Option ((List UInt8)×Int)
def r61 (g:XfU):Dec:=dV Xd0 fun (y0:Xah)=>dV asS fun (y1:List UInt8)=>XdJ (ofG (g y0 y1) rx61)
theorem r61_c {g:XfU} {y0:Xah} {y1:List UInt8} {x:(List UInt8)×Int} (hx:g y0 y1=some x):r61 g [.agg ⟨[.int .i64 y0.Proto,.bool y0.Src.V6,.int .u64 y0.Src.Hi,.int .u64 y0.Src.Lo,.bool y0.Dst.V6,.int .u64 y0.Dst.Hi,.int .u64 y0.Dst.Lo,.int .i64 y0.SPort,.int .i64 y0.DPort]⟩,.string ⟨⟨y1⟩⟩] []=some (rx61 x):=(XaP (Xem _)).trans ((XaP (XdL)).trans (XaN hx))
def s61 (g:XfU):Xbz:=⟨[.v,.v],r61 g⟩
theorem XII {g:XfU} {y0:Xah} {y1:List UInt8} {x:(List UInt8)×Int} (hx:g y0 y1=some x):(s61 g).run [.agg ⟨[.int .i64 y0.Proto,.bool y0.Src.V6,.int .u64 y0.Src.Hi,.int .u64 y0.Src.Lo,.bool y0.Dst.V6,.int .u64 y0.Dst.Hi,.int .u64 y0.Dst.Lo,.int .i64 y0.SPort,.int .i64 y0.DPort]⟩,.string ⟨⟨y1⟩⟩] []=some (rx61 x):=r61_c hx
abbrev XST (XaT:Xcm) (Xij:XhZ) (Xim:Xh4):List (Nat×Xbz):=[(59,s59 XaT),(104,s104 Xij),(103,s103 Xim)]
theorem XKB (XaT:Xcm) (Xij:XhZ) (Xim:Xh4) (hS:Xaj Tryz.prog (XaI (XST XaT Xij Xim))) (t:Xah) (body:List UInt8) (res:(List UInt8)×Int) (h:Xpv XaT Xij Xim t body=some res) :
 XaJ Tryz.prog 61 0 ⟨⟨61,74,[(0,.agg ⟨[.int .i64 t.Proto,.bool t.Src.V6,.int .u64 t.Src.Hi,.int .u64 t.Src.Lo,.bool t.Dst.V6,.int .u64 t.Dst.Hi,.int .u64 t.Dst.Lo,.int .i64 t.SPort,.int .i64 t.DPort]⟩),(1,.string ⟨⟨body⟩⟩)],[.code XJV],[],false,none⟩,[],[],0⟩ (fun v H _=>Res 0 (rx61 res) v H):=by
 unfold Xpv at h
 have R1:=@XsX XaT
 have R2:=@XKF Xim
 have R3:=@XLQ Xij
 refine Xa7 XaE hS true 3000 ?_
 conv=>whnf
 exact W
def Xfn:XfU:=Xpv XaT Xij Xim
theorem XJa:XbB Tryz.prog 61 (s61 Xfn):=by
 have hL:=XKB XaT Xij Xim (Xaj.XaK ⟨XsV,XLZ,XP3,trivial⟩)
 exact okA ⟨Tryz.f61,rfl,by decide,rfl⟩
def Xj8 (XiH:XhM) (Xfn:XfU) (t:Xah) (flags:Int) (options:List UInt8) (payload:List UInt8):Option ((List UInt8)×Int):=
 cond (t.Proto !=6)
  (
  some (([],1)))
  (
  (XiH (XaC.mk t.SPort t.DPort 0 0 flags 65535 0 options) t.Src t.Dst payload).bind fun p=>
  cond (p.2 !=0)
   (
   some (([],p.2)))
   (
   (Xfn t p.1).bind fun p1=>
   some ((p1.1,p1.2))))
def rx24 (x:(List UInt8)×Int):XcS:=⟨.tuple ⟨[.string ⟨⟨x.1⟩⟩,.int .i64 x.2]⟩,[],[]⟩
abbrev XdM:=Xah→Int→(List UInt8)→(List UInt8)→Option ((List UInt8)×Int)
def r24 (g:XdM):Dec:=dV Xd0 fun (y0:Xah)=>dV (asI .i64) fun (y1:Int)=>dV asS fun (y2:List UInt8)=>dV asS fun (y3:List UInt8)=>XdJ (ofG (g y0 y1 y2 y3) rx24)
theorem r24_c {g:XdM} {y0:Xah} {y1:Int} {y2:List UInt8} {y3:List UInt8} {x:(List UInt8)×Int} (hx:g y0 y1 y2 y3=some x):r24 g [.agg ⟨[.int .i64 y0.Proto,.bool y0.Src.V6,.int .u64 y0.Src.Hi,.int .u64 y0.Src.Lo,.bool y0.Dst.V6,.int .u64 y0.Dst.Hi,.int .u64 y0.Dst.Lo,.int .i64 y0.SPort,.int .i64 y0.DPort]⟩,.int .i64 y1,.string ⟨⟨y2⟩⟩,.string ⟨⟨y3⟩⟩] []=some (rx24 x):=(XaP (Xem _)).trans ((XaP (Xen _)).trans ((XaP (XdL)).trans ((XaP (XdL)).trans (XaN hx))))
def s24 (g:XdM):Xbz:=⟨[.v,.v,.v,.v],r24 g⟩
theorem XJG {g:XdM} {y0:Xah} {y1:Int} {y2:List UInt8} {y3:List UInt8} {x:(List UInt8)×Int} (hx:g y0 y1 y2 y3=some x):(s24 g).run [.agg ⟨[.int .i64 y0.Proto,.bool y0.Src.V6,.int .u64 y0.Src.Hi,.int .u64 y0.Src.Lo,.bool y0.Dst.V6,.int .u64 y0.Dst.Hi,.int .u64 y0.Dst.Lo,.int .i64 y0.SPort,.int .i64 y0.DPort]⟩,.int .i64 y1,.string ⟨⟨y2⟩⟩,.string ⟨⟨y3⟩⟩] []=some (rx24 x):=r24_c hx
abbrev XTO (XiH:XhM) (Xfn:XfU):List (Nat×Xbz):=[(60,s60 XiH),(61,s61 Xfn)]
theorem XL7 (XiH:XhM) (Xfn:XfU) (hS:Xaj Tryz.prog (XaI (XTO XiH Xfn))) (t:Xah) (flags:Int) (options:List UInt8) (payload:List UInt8) (res:(List UInt8)×Int) (h:Xj8 XiH Xfn t flags options payload=some res) :
 XaJ Tryz.prog 24 0 ⟨⟨24,39,[(0,.agg ⟨[.int .i64 t.Proto,.bool t.Src.V6,.int .u64 t.Src.Hi,.int .u64 t.Src.Lo,.bool t.Dst.V6,.int .u64 t.Dst.Hi,.int .u64 t.Dst.Lo,.int .i64 t.SPort,.int .i64 t.DPort]⟩),(1,.int .i64 flags),(2,.string ⟨⟨options⟩⟩),(3,.string ⟨⟨payload⟩⟩)],[.code XHV],[],false,none⟩,[],[],0⟩ (fun v H _=>Res 0 (rx24 res) v H):=by
 unfold Xj8 at h
 have R1:=@XT0 XiH
 have R2:=@XII Xfn
 refine Xa7 XaE hS true 3000 ?_
 conv=>whnf
 exact W
def Xcf:XdM:=Xj8 XiH Xfn
theorem XJh:XbB Tryz.prog 24 (s24 Xcf):=by
 have hL:=XL7 XiH Xfn (Xaj.XaK ⟨XVM,XJa,trivial⟩)
 exact okA ⟨Tryz.f24,rfl,by decide,rfl⟩
def XjJ (XiL:XhR) (Xfn:XfU) (t:Xah) (payload:List UInt8):Option ((List UInt8)×Int):=
 cond (t.Proto !=17)
  (
  some (([],1)))
  (
  (XiL (XaR.mk t.SPort t.DPort) t.Src t.Dst payload).bind fun p=>
  cond (p.2 !=0)
   (
   some (([],p.2)))
   (
   (Xfn t p.1).bind fun p1=>
   some ((p1.1,p1.2))))
def rx44 (x:(List UInt8)×Int):XcS:=⟨.tuple ⟨[.string ⟨⟨x.1⟩⟩,.int .i64 x.2]⟩,[],[]⟩
abbrev Xdd:=Xah→(List UInt8)→Option ((List UInt8)×Int)
def r44 (g:Xdd):Dec:=dV Xd0 fun (y0:Xah)=>dV asS fun (y1:List UInt8)=>XdJ (ofG (g y0 y1) rx44)
theorem r44_c {g:Xdd} {y0:Xah} {y1:List UInt8} {x:(List UInt8)×Int} (hx:g y0 y1=some x):r44 g [.agg ⟨[.int .i64 y0.Proto,.bool y0.Src.V6,.int .u64 y0.Src.Hi,.int .u64 y0.Src.Lo,.bool y0.Dst.V6,.int .u64 y0.Dst.Hi,.int .u64 y0.Dst.Lo,.int .i64 y0.SPort,.int .i64 y0.DPort]⟩,.string ⟨⟨y1⟩⟩] []=some (rx44 x):=(XaP (Xem _)).trans ((XaP (XdL)).trans (XaN hx))
def s44 (g:Xdd):Xbz:=⟨[.v,.v],r44 g⟩
theorem XIQ {g:Xdd} {y0:Xah} {y1:List UInt8} {x:(List UInt8)×Int} (hx:g y0 y1=some x):(s44 g).run [.agg ⟨[.int .i64 y0.Proto,.bool y0.Src.V6,.int .u64 y0.Src.Hi,.int .u64 y0.Src.Lo,.bool y0.Dst.V6,.int .u64 y0.Dst.Hi,.int .u64 y0.Dst.Lo,.int .i64 y0.SPort,.int .i64 y0.DPort]⟩,.string ⟨⟨y1⟩⟩] []=some (rx44 x):=r44_c hx
abbrev XRY (XiL:XhR) (Xfn:XfU):List (Nat×Xbz):=[(75,s75 XiL),(61,s61 Xfn)]
theorem XPr (XiL:XhR) (Xfn:XfU) (hS:Xaj Tryz.prog (XaI (XRY XiL Xfn))) (t:Xah) (payload:List UInt8) (res:(List UInt8)×Int) (h:XjJ XiL Xfn t payload=some res) :
 XaJ Tryz.prog 44 0 ⟨⟨44,33,[(0,.agg ⟨[.int .i64 t.Proto,.bool t.Src.V6,.int .u64 t.Src.Hi,.int .u64 t.Src.Lo,.bool t.Dst.V6,.int .u64 t.Dst.Hi,.int .u64 t.Dst.Lo,.int .i64 t.SPort,.int .i64 t.DPort]⟩),(1,.string ⟨⟨payload⟩⟩)],[.code XH3],[],false,none⟩,[],[],0⟩ (fun v H _=>Res 0 (rx44 res) v H):=by
 unfold XjJ at h
 have R1:=@XT6 XiL
 have R2:=@XII Xfn
 refine Xa7 XaE hS true 3000 ?_
 conv=>whnf
 exact W
def XbZ:Xdd:=XjJ XiL Xfn
theorem XI9:XbB Tryz.prog 44 (s44 XbZ):=by
 have hL:=XPr XiL Xfn (Xaj.XaK ⟨XRe,XJa,trivial⟩)
 exact okA ⟨Tryz.f44,rfl,by decide,rfl⟩
end Go.Vm.Code
namespace Go.Vm.Code
open Go Go.Vm
theorem A4.XvN {a:Xab} (h:A4 a):Xp4 a:=⟨⟨h.1,h.2.1⟩,h.2.2.1,h.2.2.2⟩
def h6of (t:Xah):Xay:=⟨0,0,t.Proto,64,t.Src,t.Dst⟩
def h5of (t:Xah):Xan:=⟨0,0,true,64,t.Proto,t.Src,t.Dst,[]⟩
def XwN (t:Xah) (b:List UInt8):List UInt8×Int:=cond t.Src.V6 (XVW (h6of t) b) (XQZ (h5of t) b)
def Xs6 (t:Xah) (b:List UInt8):List UInt8×Int:=
 if t.Src.V6≠t.Dst.V6∨aok t.Src=false∨aok t.Dst=false∨(t.Proto≠6∧t.Proto≠17) then ([],1) else
  if (XwN t b).2=0∧9000<(XwN t b).1.length then ([],5) else XwN t b
theorem XU7 (r:List UInt8×Int):(cond (r.2==0) (cond (decide ((r.1.length:Int)>9000)) (some (([],5):List UInt8×Int)) (some (r.1,r.2))) (some (r.1,r.2)))=some (if r.2=0∧9000<r.1.length then ([],5) else r):=by
 by_cases h:r.2=0
 ·rw [show (r.2==0)=true by simpa using h,cond_true]
  by_cases h2:9000<r.1.length
  ·rw [XaW (by omega),if_pos ⟨h,h2⟩]
  ·rw [XaO (by omega),if_neg (fun x=>h2 x.2)]
 ·rw [show (r.2==0)=false by simpa using h,cond_false,if_neg (fun x=>h x.1)]
theorem Xtt {t:Xah} {b:List UInt8} (h1:A4 t.Src) (h2:A4 t.Dst) (hb:b.length<2^20):Xfn t b=some (Xs6 t b):=by
 unfold Xfn Xpv Xs6
 by_cases g1:t.Src.V6=t.Dst.V6
 ·rw [show (!(t.Src.V6==t.Dst.V6))=false by simp [g1],cond_false,XjM,XjM,Option.bind_some,Option.bind_some]
  cases g2:aok t.Src
  ·rw [if_pos (.inr (.inl rfl))];rfl
  cases g3:aok t.Dst
  ·rw [if_pos (.inr (.inr (.inl rfl)))];rfl
  rw [Bool.not_true,cond_false,cond_false,XG0 (h:=⟨0,0,t.Proto,64,t.Src,t.Dst⟩) h1.XvN h2.XvN (by omega),XRB (h:=⟨0,0,true,64,t.Proto,t.Src,t.Dst,[]⟩) h1 h2 (by omega) (by simp)]
  simp only [Option.bind_some,XU7]
  by_cases g4:t.Proto=6
  ·rw [show (t.Proto !=6)=false by simpa using g4,cond_false,if_neg (show ¬ (t.Src.V6≠t.Dst.V6∨true=false∨true=false∨(t.Proto≠6∧t.Proto≠17)) from fun h=>h.elim (fun x=>x g1) fun h=>h.elim (fun x=>by cases x) fun h=>h.elim (fun x=>by cases x) fun x=>x.1 g4)]
   unfold XwN h5of h6of
   cases t.Src.V6<;>rfl
  ·rw [show (t.Proto !=6)=true by simpa using g4,cond_true]
   by_cases g5:t.Proto=17
   ·rw [show (t.Proto !=17)=false by simpa using g5,cond_false,if_neg (show ¬ (t.Src.V6≠t.Dst.V6∨true=false∨true=false∨(t.Proto≠6∧t.Proto≠17)) from fun h=>h.elim (fun x=>x g1) fun h=>h.elim (fun x=>by cases x) fun h=>h.elim (fun x=>by cases x) fun x=>x.2 g5)]
    unfold XwN h5of h6of
    cases t.Src.V6<;>rfl
   ·rw [show (t.Proto !=17)=true by simpa using g5,cond_true,if_pos (.inr (.inr (.inr ⟨g4,g5⟩)))]
 ·rw [show (!(t.Src.V6==t.Dst.V6))=true by simp [g1],cond_true,if_pos (.inl g1)]
def Xwk (t:Xah) (flags:Int) (o l:List UInt8):List UInt8×Int:=
 if t.Proto≠6 then ([],1) else if (Xt4 ⟨t.SPort,t.DPort,0,0,flags,65535,0,o⟩ t.Src t.Dst l).2≠0 then ([],(Xt4 ⟨t.SPort,t.DPort,0,0,flags,65535,0,o⟩ t.Src t.Dst l).2) else Xs6 t (Xt4 ⟨t.SPort,t.DPort,0,0,flags,65535,0,o⟩ t.Src t.Dst l).1
def XtU (t:Xah) (l:List UInt8):List UInt8×Int:=
 if t.Proto≠17 then ([],1) else if (Xuz ⟨t.SPort,t.DPort⟩ t.Src t.Dst l).2≠0 then ([],(Xuz ⟨t.SPort,t.DPort⟩ t.Src t.Dst l).2) else Xs6 t (Xuz ⟨t.SPort,t.DPort⟩ t.Src t.Dst l).1
theorem XvX (h:XaC) (src dst:Xab) (l:List UInt8):(Xt4 h src dst l).1.length≤20+h.Options.length+l.length:=by
 unfold Xt4
 split
 ·simp
 split
 ·simp
 split
 ·simp
 ·simp only [List.length_append,XtQ];omega
theorem XvJ (h:XaR) (src dst:Xab) (l:List UInt8):(Xuz h src dst l).1.length≤34+l.length:=by
 unfold Xuz
 split
 ·simp
 split
 ·simp
 split
 ·simp
 ·have:=XyH (h:=h) (l:=l)
  have:=Xru (u8 h l) 6 2 (ck8 (XoU src dst 17 (8+l.length)) (u8 h l))
  simp only [];omega
theorem Xss {t:Xah} {flags:Int} {o l:List UInt8} (h1:A4 t.Src) (h2:A4 t.Dst) (ho:o.length<2^18) (hl:l.length<2^18):Xcf t flags o l=some (Xwk t flags o l):=by
 unfold Xcf Xj8 Xwk
 by_cases g:t.Proto=6
 ·have hw:W7 ⟨t.SPort,t.DPort,0,0,flags,65535,0,o⟩:=⟨⟨by simp only [];omega,by simp only [];omega⟩,by simp only [];omega,by simp only [];omega⟩
  have hlen:=XvX ⟨t.SPort,t.DPort,0,0,flags,65535,0,o⟩ t.Src t.Dst l
  simp only at hlen
  rw [show (t.Proto !=6)=false by simpa using g,cond_false,XG4 hw h1 h2 (by omega) (by simp only [];omega),Option.bind_some,if_neg (by simpa using g)]
  by_cases g2:(Xt4 ⟨t.SPort,t.DPort,0,0,flags,65535,0,o⟩ t.Src t.Dst l).2=0
  ·rw [show ((Xt4 ⟨t.SPort,t.DPort,0,0,flags,65535,0,o⟩ t.Src t.Dst l).2 !=0)=false by simpa using g2,cond_false,if_neg (by simpa using g2),Xtt h1 h2 (by omega)];rfl
  ·rw [show ((Xt4 ⟨t.SPort,t.DPort,0,0,flags,65535,0,o⟩ t.Src t.Dst l).2 !=0)=true by simpa using g2,cond_true,if_pos g2]
 ·rw [show (t.Proto !=6)=true by simpa using g,cond_true,if_pos g]
theorem XAj {t:Xah} {l:List UInt8} (h1:A4 t.Src) (h2:A4 t.Dst) (hl:l.length<2^18):XbZ t l=some (XtU t l):=by
 unfold XbZ XjJ XtU
 by_cases g:t.Proto=17
 ·have hlen:=XvJ ⟨t.SPort,t.DPort⟩ t.Src t.Dst l
  rw [show (t.Proto !=17)=false by simpa using g,cond_false,XE2 h1 h2 (by omega),Option.bind_some,if_neg (by simpa using g)]
  by_cases g2:(Xuz ⟨t.SPort,t.DPort⟩ t.Src t.Dst l).2=0
  ·rw [show ((Xuz ⟨t.SPort,t.DPort⟩ t.Src t.Dst l).2 !=0)=false by simpa using g2,cond_false,if_neg (by simpa using g2),Xtt h1 h2 (by omega)];rfl
  ·rw [show ((Xuz ⟨t.SPort,t.DPort⟩ t.Src t.Dst l).2 !=0)=true by simpa using g2,cond_true,if_pos g2]
 ·rw [show (t.Proto !=17)=true by simpa using g,cond_true,if_pos g]
theorem Xti {t:Xah} {b:List UInt8} (h1:A4 t.Src) (h2:A4 t.Dst) (hb:b.length<2^20):XcI t b=some (Xs6 t b):=by
 unfold XcI Xk3
 have key:(t.Proto=6∨t.Proto=17)→(cond (!(t.Src.V6==t.Dst.V6)) (some (([],1):List UInt8×Int))
  ((XaH t.Src).bind fun xr=>cond (!xr) (some ([],1)) ((XaH t.Dst).bind fun xr1=>cond (!xr1) (some ([],1))
    (cond t.Src.V6
      ((Xfm (Xay.mk 0 0 t.Proto 64 t.Src t.Dst) b).bind fun p=>cond (p.2==0) (cond (decide ((p.1.length:Int)>9000)) (some ([],5)) (some (p.1,p.2))) (some (p.1,p.2)))
      ((XeK (Xan.mk 0 0 true 64 t.Proto t.Src t.Dst []) b).bind fun p1=>cond (p1.2==0) (cond (decide ((p1.1.length:Int)>9000)) (some ([],5)) (some (p1.1,p1.2))) (some (p1.1,p1.2)))))))=some (Xs6 t b):=by
  intro hp
  unfold Xs6
  by_cases g1:t.Src.V6=t.Dst.V6
  ·rw [show (!(t.Src.V6==t.Dst.V6))=false by simp [g1],cond_false,XkS,XkS,Option.bind_some,Option.bind_some]
   cases g2:aok t.Src
   ·rw [if_pos (.inr (.inl rfl))];rfl
   cases g3:aok t.Dst
   ·rw [if_pos (.inr (.inr (.inl rfl)))];rfl
   rw [Bool.not_true,cond_false,cond_false,XOl (h:=⟨0,0,t.Proto,64,t.Src,t.Dst⟩) h1.XvN h2.XvN (by omega),p5_eq (h:=⟨0,0,true,64,t.Proto,t.Src,t.Dst,[]⟩) h1 h2 (by omega) (by simp)]
   simp only [Option.bind_some,XU7]
   rw [if_neg (show ¬ (t.Src.V6≠t.Dst.V6∨true=false∨true=false∨(t.Proto≠6∧t.Proto≠17)) from fun h=>h.elim (fun x=>x g1) fun h=>h.elim (fun x=>by cases x) fun h=>h.elim (fun x=>by cases x) fun x=>by omega)]
   unfold XwN h5of h6of
   cases t.Src.V6<;>rfl
  ·rw [show (!(t.Src.V6==t.Dst.V6))=true by simp [g1],cond_true,if_pos (.inl g1)]
 by_cases p6:t.Proto=6
 ·rw [show (t.Proto==6)=true by simpa using p6,cond_true];exact key (.inl p6)
 ·rw [show (t.Proto==6)=false by simpa using p6,cond_false]
  by_cases p17:t.Proto=17
  ·rw [show (!(t.Proto==17))=false by simp [p17],cond_false];exact key (.inr p17)
  ·rw [show (!(t.Proto==17))=true by simp [p17],cond_true]
   unfold Xs6
   rw [if_pos (.inr (.inr (.inr ⟨p6,p17⟩)))]
theorem Xtj {t:Xah} {flags:Int} {o l:List UInt8} (h1:A4 t.Src) (h2:A4 t.Dst) (ho:o.length<2^18) (hl:l.length<2^18):XbC t flags o l=some (Xwk t flags o l):=by
 unfold XbC Xig Xwk
 by_cases g:t.Proto=6
 ·have hw:W7 ⟨t.SPort,t.DPort,0,0,flags,65535,0,o⟩:=⟨⟨by simp only [];omega,by simp only [];omega⟩,by simp only [];omega,by simp only [];omega⟩
  have hlen:=XvX ⟨t.SPort,t.DPort,0,0,flags,65535,0,o⟩ t.Src t.Dst l
  simp only at hlen
  rw [show (t.Proto !=6)=false by simpa using g,cond_false,XGi hw h1 h2 (by omega) (by simp only [];omega),Option.bind_some,if_neg (by simpa using g)]
  by_cases g2:(Xt4 ⟨t.SPort,t.DPort,0,0,flags,65535,0,o⟩ t.Src t.Dst l).2=0
  ·rw [show ((Xt4 ⟨t.SPort,t.DPort,0,0,flags,65535,0,o⟩ t.Src t.Dst l).2 !=0)=false by simpa using g2,cond_false,if_neg (by simpa using g2),Xti h1 h2 (by omega)];rfl
  ·rw [show ((Xt4 ⟨t.SPort,t.DPort,0,0,flags,65535,0,o⟩ t.Src t.Dst l).2 !=0)=true by simpa using g2,cond_true,if_pos g2]
 ·rw [show (t.Proto !=6)=true by simpa using g,cond_true,if_pos g]
theorem Xzc {t:Xah} {l:List UInt8} (h1:A4 t.Src) (h2:A4 t.Dst) (hl:l.length<2^18):XcK t l=some (XtU t l):=by
 unfold XcK XhB XtU
 by_cases g:t.Proto=17
 ·have hlen:=XvJ ⟨t.SPort,t.DPort⟩ t.Src t.Dst l
  rw [show (t.Proto !=17)=false by simpa using g,cond_false,XNK h1 h2 (by omega),Option.bind_some,if_neg (by simpa using g)]
  by_cases g2:(Xuz ⟨t.SPort,t.DPort⟩ t.Src t.Dst l).2=0
  ·rw [show ((Xuz ⟨t.SPort,t.DPort⟩ t.Src t.Dst l).2 !=0)=false by simpa using g2,cond_false,if_neg (by simpa using g2),Xti h1 h2 (by omega)];rfl
  ·rw [show ((Xuz ⟨t.SPort,t.DPort⟩ t.Src t.Dst l).2 !=0)=true by simpa using g2,cond_true,if_pos g2]
 ·rw [show (t.Proto !=17)=true by simpa using g,cond_true,if_pos g]
end Go.Vm.Code
namespace Go.Vm.Code
open Go Go.Vm Go.Proofs
set_option maxRecDepth 100000
set_option maxHeartbeats 4000000
set_option linter.unusedVariables false
def Xse (n:Int) (most:Int):Option Bool:=
 cond (decide (n≥0))
  (
  some (decide (n≤most)))
  (
  some (false))
def rx58 (x:Bool):XcS:=⟨.bool x,[],[]⟩
abbrev Xjn:=Int→Int→Option Bool
def r58 (g:Xjn):Dec:=dV (asI .i64) fun (y0:Int)=>dV (asI .i64) fun (y1:Int)=>XdJ (ofG (g y0 y1) rx58)
theorem r58_c {g:Xjn} {y0:Int} {y1:Int} {x:Bool} (hx:g y0 y1=some x):r58 g [.int .i64 y0,.int .i64 y1] []=some (rx58 x):=(XaP (Xen _)).trans ((XaP (Xen _)).trans (XaN hx))
def s58 (g:Xjn):Xbz:=⟨[.v,.v],r58 g⟩
theorem XUv {g:Xjn} {y0:Int} {y1:Int} {x:Bool} (hx:g y0 y1=some x):(s58 g).run [.int .i64 y0,.int .i64 y1] []=some (rx58 x):=r58_c hx
abbrev XSv:List (Nat×Xbz):=[]
theorem XOB (hS:Xaj Tryz.prog (XaI (XSv))) (n:Int) (most:Int) (res:Bool) (h:Xse n most=some res) :
 XaJ Tryz.prog 58 0 ⟨⟨58,12,[(0,.int .i64 n),(1,.int .i64 most)],[.code XRt],[],false,none⟩,[],[],0⟩ (fun v H _=>Res 0 (rx58 res) v H):=by
 unfold Xse at h
 refine Xa7 XaE hS true 3000 ?_
 conv=>whnf
 exact W
def XjS:Xjn:=Xse
theorem XUD:XbB Tryz.prog 58 (s58 XjS):=by
 have hL:=XOB (Xaj.XaK trivial)
 exact okA ⟨Tryz.f58,rfl,by decide,rfl⟩
def Xml (XaT:Xcm) (XjS:Xjn) (t:Xah):Option Bool:=
 (XjS t.Proto 255).bind fun i=>
 cond (i)
  (
  (XaT t.Src).bind fun xr=>
  cond (xr)
   (
   (XaT t.Dst).bind fun xr1=>
   cond (xr1)
    (
    cond (t.Src.V6==t.Dst.V6)
     (
     (XjS t.SPort 65535).bind fun i1=>
     cond (i1)
      (
      (XjS t.DPort 65535).bind fun i2=>
      some (i2))
      (
      some (false)))
     (
     some (false)))
    (
    some (false)))
   (
   some (false)))
  (
  some (false))
def rx23 (x:Bool):XcS:=⟨.bool x,[],[]⟩
abbrev Xe9:=Xah→Option Bool
def r23 (g:Xe9):Dec:=dV Xd0 fun (y0:Xah)=>XdJ (ofG (g y0) rx23)
theorem r23_c {g:Xe9} {y0:Xah} {x:Bool} (hx:g y0=some x):r23 g [.agg ⟨[.int .i64 y0.Proto,.bool y0.Src.V6,.int .u64 y0.Src.Hi,.int .u64 y0.Src.Lo,.bool y0.Dst.V6,.int .u64 y0.Dst.Hi,.int .u64 y0.Dst.Lo,.int .i64 y0.SPort,.int .i64 y0.DPort]⟩] []=some (rx23 x):=(XaP (Xem _)).trans (XaN hx)
def s23 (g:Xe9):Xbz:=⟨[.v],r23 g⟩
theorem Xvp {g:Xe9} {y0:Xah} {x:Bool} (hx:g y0=some x):(s23 g).run [.agg ⟨[.int .i64 y0.Proto,.bool y0.Src.V6,.int .u64 y0.Src.Hi,.int .u64 y0.Src.Lo,.bool y0.Dst.V6,.int .u64 y0.Dst.Hi,.int .u64 y0.Dst.Lo,.int .i64 y0.SPort,.int .i64 y0.DPort]⟩] []=some (rx23 x):=r23_c hx
abbrev XTZ (XaT:Xcm) (XjS:Xjn):List (Nat×Xbz):=[(59,s59 XaT),(58,s58 XjS)]
theorem XM7 (XaT:Xcm) (XjS:Xjn) (hS:Xaj Tryz.prog (XaI (XTZ XaT XjS))) (t:Xah) (res:Bool) (h:Xml XaT XjS t=some res) :
 XaJ Tryz.prog 23 0 ⟨⟨23,35,[(0,.agg ⟨[.int .i64 t.Proto,.bool t.Src.V6,.int .u64 t.Src.Hi,.int .u64 t.Src.Lo,.bool t.Dst.V6,.int .u64 t.Dst.Hi,.int .u64 t.Dst.Lo,.int .i64 t.SPort,.int .i64 t.DPort]⟩)],[.code XVH],[],false,none⟩,[],[],0⟩ (fun v H _=>Res 0 (rx23 res) v H):=by
 unfold Xml at h
 have R1:=@XUv XjS
 have R2:=@XsX XaT
 refine Xa7 XaE hS true 3000 ?_
 conv=>whnf
 exact W
def Xc7:Xe9:=Xml XaT XjS
theorem lift23:XbB Tryz.prog 23 (s23 Xc7):=by
 have hL:=XM7 XaT XjS (Xaj.XaK ⟨XsV,XUD,trivial⟩)
 exact okA ⟨Tryz.f23,rfl,by decide,rfl⟩
def Xf7 (most:Int) (l:List Int) (t9:Int):Option (Sum Int Bool):=
 cond (decide (t9<(l.length:Int)))
  (
  Xbn (decide ((0:Int)≤t9∧t9<(l.length:Int))) <|
  (l[t9.toNat]?).bind fun (e:Int)=>
  cond (decide (e<0))
   (
   some (.inr (false)))
   (
   cond (decide (e>most))
    (
    some (.inr (false)))
    (
    some (.inl (wI .i64 (t9+1))))))
  (
  some (.inr (true)))
def XjH (most:Int) (l:List Int):Option Bool:=
 iter (fun st=>Xf7 most l st) FUEL 0
def XwY (x:Bool):XcS:=⟨.bool x,[],[none]⟩
abbrev XeT:=Int→(List Int)→Option Bool
def r109 (g:XeT):Dec:=dV (asI .i64) fun (y0:Int)=>dSl 0 1 (unL (asI .i64)) fun (y1:List Int)=>XdJ (ofG (g y0 y1) XwY)
theorem XW4 {g:XeT} {y0:Int} {y1:List Int} {x:Bool} (hx:g y0 y1=some x):r109 g [.int .i64 y0,.slice (some ⟨0,0,none⟩) y1.length 1] [some (vI .i64 y1)]=some (XwY x):=(XaP (Xen _)).trans ((XsB (Xvt _ _)).trans (XaN hx))
def s109 (g:XeT):Xbz:=⟨[.v,.sl 1],r109 g⟩
theorem XKD {g:XeT} {y0:Int} {y1:List Int} {x:Bool} (hx:g y0 y1=some x):(s109 g).run [.int .i64 y0,.slice (some ⟨0,0,none⟩) y1.length 1] [some (vI .i64 y1)]=some (XwY x):=XW4 hx
abbrev Xz5:List (Nat×Xbz):=[]
def Xl8 (most:Int) (l:List Int) (t9:Int):VM:=
 ⟨⟨109,21,[(0,.int .i64 most),(7,.slice (some ⟨0,0,none⟩) l.length 1),(8,.int .i64 (l.length:Int)),(9,.int .i64 t9)],[.code XuM,.inLoop XuM,.inBlock 0,.code XAe],[],false,none⟩,[],[(0,.row false (vI .i64 l))],1⟩
theorem XA3 (hS:Xaj Tryz.prog (XaI (Xz5))) (most:Int) (l:List Int) (res:Bool):∀ fuel (st:Int) (o:Bool),iter (fun st=>Xf7 most l st) fuel st=some o→(o=res) →
 XaJ Tryz.prog 109 1 (Xl8 most l st) (fun v H _=>Res 1 (XwY res) v H):=by
 intro fuel st o h hc
 refine XcX (head:=fun st=>Xl8 most l st) (C:=fun o=>(o=res)) ?_ fuel st o h hc
 clear h hc o st fuel
 intro t9 o h hc
 replace h:Xf7 most l t9=some o:=h
 show XaJ Tryz.prog 109 1 (Xl8 most l t9) (fun v H _=>Res 1 (XwY res) v H)
 unfold Xf7 at h
 refine Xa7 XaE hS true 3000 ?_
 conv=>whnf
 refine br.h2 h (by rfl) ?_ ?_
 ·clear h;intro hb h;conv=>whnf
  exact W
 clear h;intro hb h;conv=>whnf
 replace h:=Xbn.elim h;obtain ⟨hb,h⟩:=h
 try (refine req.intro hb ?_;conv=>whnf)
 replace h:=XcR.elim h;obtain ⟨e,hy,h⟩:=h
 refine rd.I hy (by first|rfl|(rw [Nat.zero_add,Nat.mul_one];try rfl;done)|omega) ?_
 conv=>whnf
 refine br.h h (by rfl) ?_ ?_
 ·clear h;intro hb h;conv=>whnf
  exact W
 clear h;intro hb h;conv=>whnf
 refine br.h h (by rfl) ?_ ?_
 ·clear h;intro hb h;conv=>whnf
  exact W
 clear h;intro hb h;conv=>whnf
 cases h;simp only [Sum.elim_inl,Xl8] at hc
 exact Xkz hc [(0,0)] rfl
theorem XC8 (hS:Xaj Tryz.prog (XaI (Xz5))) (most:Int) (l:List Int) (res:Bool) (h:XjH most l=some res) :
 XaJ Tryz.prog 109 1 ⟨⟨109,21,[(0,.int .i64 most),(1,.slice (some ⟨0,0,none⟩) l.length 1)],[.code XyW],[],false,none⟩,[],[(0,.row false (vI .i64 l))],1⟩ (fun v H _=>Res 1 (XwY res) v H):=by
 unfold XjH at h
 refine Xa7 XaE hS true 3000 ?_
 conv=>whnf
 have hl:=XA3 hS _ _ res _ _ _ h rfl;simp only [Xl8] at hl
 exact Xkz hl [(0,0)] rfl
def XdD:XeT:=XjH
theorem XNC:XbB Tryz.prog 109 (s109 XdD):=by
 have hL:=XC8 (Xaj.XaK trivial)
 exact okA ⟨Tryz.f109,rfl,by decide,rfl⟩
def Xj6 (XaH:Xb6) (XdD:XeT) (t:Xah):Option Bool:=
 (XdD 255 [t.Proto]).bind fun w=>
 cond (w)
  (
  (XdD 65535 [t.SPort,t.DPort]).bind fun w1=>
  cond (w1)
   (
   (XaH t.Src).bind fun xr=>
   cond (xr)
    (
    (XaH t.Dst).bind fun xr1=>
    cond (xr1)
     (
     some (t.Src.V6==t.Dst.V6))
     (
     some (false)))
    (
    some (false)))
   (
   some (false)))
  (
  some (false))
def rx67 (x:Bool):XcS:=⟨.bool x,[],[]⟩
abbrev XcZ:=Xah→Option Bool
def r67 (g:XcZ):Dec:=dV Xd0 fun (y0:Xah)=>XdJ (ofG (g y0) rx67)
theorem r67_c {g:XcZ} {y0:Xah} {x:Bool} (hx:g y0=some x):r67 g [.agg ⟨[.int .i64 y0.Proto,.bool y0.Src.V6,.int .u64 y0.Src.Hi,.int .u64 y0.Src.Lo,.bool y0.Dst.V6,.int .u64 y0.Dst.Hi,.int .u64 y0.Dst.Lo,.int .i64 y0.SPort,.int .i64 y0.DPort]⟩] []=some (rx67 x):=(XaP (Xem _)).trans (XaN hx)
def s67 (g:XcZ):Xbz:=⟨[.v],r67 g⟩
theorem XIV {g:XcZ} {y0:Xah} {x:Bool} (hx:g y0=some x):(s67 g).run [.agg ⟨[.int .i64 y0.Proto,.bool y0.Src.V6,.int .u64 y0.Src.Hi,.int .u64 y0.Src.Lo,.bool y0.Dst.V6,.int .u64 y0.Dst.Hi,.int .u64 y0.Dst.Lo,.int .i64 y0.SPort,.int .i64 y0.DPort]⟩] []=some (rx67 x):=r67_c hx
abbrev XR9 (XaH:Xb6) (XdD:XeT):List (Nat×Xbz):=[(110,XOp XaH),(109,s109 XdD)]
theorem XOy (XaH:Xb6) (XdD:XeT) (hS:Xaj Tryz.prog (XaI (XR9 XaH XdD))) (t:Xah) (res:Bool) (h:Xj6 XaH XdD t=some res) :
 XaJ Tryz.prog 67 0 ⟨⟨67,34,[(0,.agg ⟨[.int .i64 t.Proto,.bool t.Src.V6,.int .u64 t.Src.Hi,.int .u64 t.Src.Lo,.bool t.Dst.V6,.int .u64 t.Dst.Hi,.int .u64 t.Dst.Lo,.int .i64 t.SPort,.int .i64 t.DPort]⟩)],[.code XTM],[],false,none⟩,[],[],0⟩ (fun v H _=>Res 0 (rx67 res) v H):=by
 unfold Xj6 at h
 have R1:=@XKD XdD
 have R2:=@Xql XaH
 refine Xa7 XaE hS true 3000 ?_
 conv=>whnf
 exact W
def Xbs:XcZ:=Xj6 XaH XdD
theorem XRT:XbB Tryz.prog 67 (s67 Xbs):=by
 have hL:=XOy XaH XdD (Xaj.XaK ⟨Xp5,XNC,trivial⟩)
 exact okA ⟨Tryz.f67,rfl,by decide,rfl⟩
end Go.Vm.Code
namespace Go.Vm.Code
open Go Go.Vm
def adr (a:Xab):Bool:=a.V6||(decide (a.Hi=0)&&decide (a.Lo<4294967296))
theorem Xou (a:Xab):XaH a=some (adr a):=by
 unfold XaH XiS adr
 cases a.V6 with
 | true=>rfl
 | false=>
   rw [cond_false,Bool.false_or]
   by_cases h:a.Hi=0
   ·rw [h];rfl
   ·rw [beq_eq_false_iff_ne.2 h,cond_false,decide_eq_false h];rfl
theorem XqM (a:Xab):XaT a=some (adr a):=Xou a
def XRM (t:Xah):Bool:=decide (0≤t.Proto∧t.Proto≤255)&&(decide (0≤t.SPort∧t.SPort≤65535)&&(decide (0≤t.DPort∧t.DPort≤65535)&&(adr t.Src&&(adr t.Dst&&(t.Src.V6==t.Dst.V6)))))
theorem Xp2 {m:Int} {l:List Int} (hl:l.length<2^40):XdD m l=some (l.all fun e=>decide (0≤e∧e≤m)):=by
 unfold XdD XjH
 have key:=iter_eq (step:=fun (st:Int)=>Xf7 m l st) (fun st=>(l.drop st.toNat).all fun e=>decide (0≤e∧e≤m)) (fun st=>0≤st∧st≤l.length) (fun st=>(l.length - st).toNat) ?_ FUEL 0 ⟨by omega,by omega⟩ (by rw [Xgx];omega)
 ·rw [key];simp
 rintro p ⟨g1,g2⟩
 obtain ⟨i,rfl⟩:=Int.eq_ofNat_of_zero_le g1
 simp only [Int.toNat_natCast]
 unfold Xf7
 by_cases hi:i<l.length
 ·have e1:((l.drop i).all fun e=>decide (0≤e∧e≤m))=(decide (0≤l[i]∧l[i]≤m)&&(l.drop (i+1)).all fun e=>decide (0≤e∧e≤m)):=by rw [List.drop_eq_getElem_cons hi];rfl
  by_cases h1:l[i]<0
  ·refine .inl ?_
   simp (disch:=omega) only [XaW,XaA,Int.toNat_natCast,List.getElem?_eq_getElem,Option.bind_some]
   rw [e1,decide_eq_false (by omega)];rfl
  ·by_cases h2:l[i]>m
   ·refine .inl ?_
    simp (disch:=omega) only [XaW,XaO,XaA,Int.toNat_natCast,List.getElem?_eq_getElem,Option.bind_some]
    rw [e1,decide_eq_false (by omega)];rfl
   ·refine .inr ⟨((i+1:Nat):Int),?_,⟨by omega,by omega⟩,by omega,?_⟩
    ·simp (disch:=omega) only [XaW,XaO,XaA,Int.toNat_natCast,List.getElem?_eq_getElem,Option.bind_some,Xed];rfl
    ·simp only [Int.toNat_natCast]
     rw [e1,decide_eq_true (by omega),Bool.true_and]
 ·refine .inl ?_
  rw [XaO (by omega),List.drop_eq_nil_of_le (by omega)];rfl
theorem XA1 (t:Xah):Xbs t=some (XRM t):=by
 unfold Xbs Xj6 XRM
 rw [Xp2 (by simp),Xp2 (by simp),Xou,Xou]
 simp only [Option.bind_some,List.all_cons,List.all_nil,Bool.and_true]
 generalize decide (0≤t.Proto∧t.Proto≤255)=a
 generalize decide (0≤t.SPort∧t.SPort≤65535)=b
 generalize decide (0≤t.DPort∧t.DPort≤65535)=c
 generalize adr t.Src=d
 generalize adr t.Dst=e
 cases a<;>cases b<;>cases c<;>cases d<;>cases e<;>rfl
theorem Xp0 (n m:Int):XjS n m=some (decide (0≤n∧n≤m)):=by
 unfold XjS Xse
 by_cases h:n≥0
 ·rw [XaW h];congr 1;rw [Bool.eq_iff_iff,decide_eq_true_eq,decide_eq_true_eq];omega
 ·rw [XaO h];congr 1;symm;exact decide_eq_false (by omega)
theorem Xw2 (t:Xah):Xc7 t=some (XRM t):=by
 unfold Xc7 Xml XRM
 rw [Xp0,Xp0,Xp0,XqM,XqM]
 simp only [Option.bind_some]
 generalize decide (0≤t.Proto∧t.Proto≤255)=a
 generalize decide (0≤t.SPort∧t.SPort≤65535)=b
 generalize decide (0≤t.DPort∧t.DPort≤65535)=c
 generalize adr t.Src=d
 generalize adr t.Dst=e
 generalize (t.Src.V6==t.Dst.V6)=f
 cases a<;>cases b<;>cases c<;>cases d<;>cases e<;>cases f<;>rfl
end Go.Vm.Code
namespace Go.Vm.Code
open Go Go.Vm Go.Proofs
set_option maxRecDepth 100000
set_option maxHeartbeats 4000000
set_option linter.unusedVariables false
def XfQ:Option Bool:=
 some (false)
def XFP (x:Bool):XcS:=⟨.bool x,[],[none]⟩
abbrev Xam:=Option Bool
def r72n (g:Xam):Dec:=dNl 1<|XdJ (ofG (g) XFP)
theorem XUI {g:Xam} {x:Bool} (hx:g=some x):r72n g [.pointer none] [none]=some (XFP x):=(XGK).trans (XaN hx)
abbrev XLr:List (Nat×Xbz):=[]
theorem XHD (hS:Xaj Tryz.prog (XaI (XLr))) (res:Bool) (h:XfQ=some res) :
 XaJ Tryz.prog 72 1 ⟨⟨72,13,[(0,.pointer none)],[.code XKJ],[],false,none⟩,[],[],1⟩ (fun v H _=>Res 1 (XFP res) v H):=by
 unfold XfQ at h
 refine Xa7 XaE hS true 3000 ?_
 conv=>whnf
 exact W
def XfN (c:Xaa):Option (Bool×Xaa):=
 Option.elim c.v_.say
  (
  some ((false,Xaa.mk c.t (Xbg.mk c.v_.hello none c.v_.hear) c.clock c.echo c.id_)))
  (fun n=>
  some ((true,Xaa.mk c.t (Xbg.mk c.v_.hello (some n) c.v_.hear) c.clock c.echo c.id_)))
def rx72 (x:Bool×Xaa):XcS:=⟨.bool x.1,[],[some [.int .i64 x.2.t.Proto,.bool x.2.t.Src.V6,.int .u64 x.2.t.Src.Hi,.int .u64 x.2.t.Src.Lo,.bool x.2.t.Dst.V6,.int .u64 x.2.t.Dst.Hi,.int .u64 x.2.t.Dst.Lo,.int .i64 x.2.t.SPort,.int .i64 x.2.t.DPort,fvV x.2.v_.hello,fvV x.2.v_.say,fvV x.2.v_.hear,.int .u32 x.2.clock,.int .u32 x.2.echo,.string ⟨⟨x.2.id_⟩⟩]]⟩
abbrev Xat:=Xaa→Option (Bool×Xaa)
def r72 (g:Xat):Dec:=dPt 0 Xb1 fun (y0:Xaa)=>XdJ (ofG (g y0) rx72)
theorem r72_c {g:Xat} {y0:Xaa} {x:Bool×Xaa} (hx:g y0=some x):r72 g [.pointer (some ⟨0,0,none⟩)] [some [.int .i64 y0.t.Proto,.bool y0.t.Src.V6,.int .u64 y0.t.Src.Hi,.int .u64 y0.t.Src.Lo,.bool y0.t.Dst.V6,.int .u64 y0.t.Dst.Hi,.int .u64 y0.t.Dst.Lo,.int .i64 y0.t.SPort,.int .i64 y0.t.DPort,fvV y0.v_.hello,fvV y0.v_.say,fvV y0.v_.hear,.int .u32 y0.clock,.int .u32 y0.echo,.string ⟨⟨y0.id_⟩⟩]]=some (rx72 x):=(Xhm (Xcq _)).trans (XaN hx)
def s72 (g:Xat) (g2:Xam):Xbz:=⟨[.pt 15],XsQ 0 (r72 g) (r72n g2)⟩
theorem Xs0 {g:Xat} {g2:Xam} {y0:Xaa} {x:Bool×Xaa} (hx:g y0=some x):(s72 g g2).run [.pointer (some ⟨0,0,none⟩)] [some [.int .i64 y0.t.Proto,.bool y0.t.Src.V6,.int .u64 y0.t.Src.Hi,.int .u64 y0.t.Src.Lo,.bool y0.t.Dst.V6,.int .u64 y0.t.Dst.Hi,.int .u64 y0.t.Dst.Lo,.int .i64 y0.t.SPort,.int .i64 y0.t.DPort,fvV y0.v_.hello,fvV y0.v_.say,fvV y0.v_.hear,.int .u32 y0.clock,.int .u32 y0.echo,.string ⟨⟨y0.id_⟩⟩]]=some (rx72 x):=r72_c hx
theorem XuB {g2:Xat} {g:Xam} {x:Bool} (hx:g=some x):(s72 g2 g).run [.pointer none] [none]=some (XFP x):=XUI hx
abbrev XVT:List (Nat×Xbz):=[]
theorem XKL (hS:Xaj Tryz.prog (XaI (XVT))) (c:Xaa) (res:Bool×Xaa) (h:XfN c=some res) :
 XaJ Tryz.prog 72 1 ⟨⟨72,13,[(0,.pointer (some ⟨0,0,none⟩))],[.code XKJ],[],false,none⟩,[],[(0,.cells [.int .i64 c.t.Proto,.bool c.t.Src.V6,.int .u64 c.t.Src.Hi,.int .u64 c.t.Src.Lo,.bool c.t.Dst.V6,.int .u64 c.t.Dst.Hi,.int .u64 c.t.Dst.Lo,.int .i64 c.t.SPort,.int .i64 c.t.DPort,fvV c.v_.hello,fvV c.v_.say,fvV c.v_.hear,.int .u32 c.clock,.int .u32 c.echo,.string ⟨⟨c.id_⟩⟩])],1⟩ (fun v H _=>Res 1 (rx72 res) v H):=by
 unfold XfN at h
 refine Xa7 XaE hS true 3000 ?_
 conv=>whnf
 exact W
def Xae:Xat:=XfN
def Xac:Xam:=XfQ
theorem XoK:XbB Tryz.prog 72 (s72 Xae Xac):=by
 have hL:=XKL (Xaj.XaK trivial);have hN:=XHD (Xaj.XaK trivial)
 exact okA ⟨Tryz.f72,rfl,by decide,rfl⟩
def Xhg (XbC:XcH) (Xcb:XdQ) (c:Xaa):Option ((List UInt8)×Int×Xaa):=
 (Xcb c.clock 0).bind fun s=>
 (XbC c.t 2 s []).bind fun s1=>
 some ((s1.1,s1.2,c))
def XFH (x:(List UInt8)×Int×Xaa):XcS:=⟨.tuple ⟨[.string ⟨⟨x.1⟩⟩,.int .i64 x.2.1]⟩,[],[some [.int .i64 x.2.2.t.Proto,.bool x.2.2.t.Src.V6,.int .u64 x.2.2.t.Src.Hi,.int .u64 x.2.2.t.Src.Lo,.bool x.2.2.t.Dst.V6,.int .u64 x.2.2.t.Dst.Hi,.int .u64 x.2.2.t.Dst.Lo,.int .i64 x.2.2.t.SPort,.int .i64 x.2.2.t.DPort,fvV x.2.2.v_.hello,fvV x.2.2.v_.say,fvV x.2.2.v_.hear,.int .u32 x.2.2.clock,.int .u32 x.2.2.echo,.string ⟨⟨x.2.2.id_⟩⟩]]⟩
abbrev Xdb:=Xaa→Option ((List UInt8)×Int×Xaa)
def r117 (g:Xdb):Dec:=dPt 0 Xb1 fun (y0:Xaa)=>XdJ (ofG (g y0) XFH)
theorem XRy {g:Xdb} {y0:Xaa} {x:(List UInt8)×Int×Xaa} (hx:g y0=some x):r117 g [.pointer (some ⟨0,0,none⟩)] [some [.int .i64 y0.t.Proto,.bool y0.t.Src.V6,.int .u64 y0.t.Src.Hi,.int .u64 y0.t.Src.Lo,.bool y0.t.Dst.V6,.int .u64 y0.t.Dst.Hi,.int .u64 y0.t.Dst.Lo,.int .i64 y0.t.SPort,.int .i64 y0.t.DPort,fvV y0.v_.hello,fvV y0.v_.say,fvV y0.v_.hear,.int .u32 y0.clock,.int .u32 y0.echo,.string ⟨⟨y0.id_⟩⟩]]=some (XFH x):=(Xhm (Xcq _)).trans (XaN hx)
def s117 (g:Xdb):Xbz:=⟨[.pt 15],r117 g⟩
theorem XLM {g:Xdb} {y0:Xaa} {x:(List UInt8)×Int×Xaa} (hx:g y0=some x):(s117 g).run [.pointer (some ⟨0,0,none⟩)] [some [.int .i64 y0.t.Proto,.bool y0.t.Src.V6,.int .u64 y0.t.Src.Hi,.int .u64 y0.t.Src.Lo,.bool y0.t.Dst.V6,.int .u64 y0.t.Dst.Hi,.int .u64 y0.t.Dst.Lo,.int .i64 y0.t.SPort,.int .i64 y0.t.DPort,fvV y0.v_.hello,fvV y0.v_.say,fvV y0.v_.hear,.int .u32 y0.clock,.int .u32 y0.echo,.string ⟨⟨y0.id_⟩⟩]]=some (XFH x):=XRy hx
abbrev XPW (XbC:XcH) (Xcb:XdQ):List (Nat×Xbz):=[(118,s118 XbC),(119,s119 Xcb)]
theorem XDC (XbC:XcH) (Xcb:XdQ) (hS:Xaj Tryz.prog (XaI (XPW XbC Xcb))) (c:Xaa) (res:(List UInt8)×Int×Xaa) (h:Xhg XbC Xcb c=some res) :
 XaJ Tryz.prog 117 1 ⟨⟨117,16,[(0,.pointer (some ⟨0,0,none⟩))],[.code XJz],[],false,none⟩,[],[(0,.cells [.int .i64 c.t.Proto,.bool c.t.Src.V6,.int .u64 c.t.Src.Hi,.int .u64 c.t.Src.Lo,.bool c.t.Dst.V6,.int .u64 c.t.Dst.Hi,.int .u64 c.t.Dst.Lo,.int .i64 c.t.SPort,.int .i64 c.t.DPort,fvV c.v_.hello,fvV c.v_.say,fvV c.v_.hear,.int .u32 c.clock,.int .u32 c.echo,.string ⟨⟨c.id_⟩⟩])],1⟩ (fun v H _=>Res 1 (XFH res) v H):=by
 unfold Xhg at h
 have R1:=@XzS Xcb
 have R2:=@Xz8 XbC
 refine Xa7 XaE hS true 3000 ?_
 conv=>whnf
 exact W
def XcG:Xdb:=Xhg XbC Xcb
theorem XLG:XbB Tryz.prog 117 (s117 XcG):=by
 have hL:=XDC XbC Xcb (Xaj.XaK ⟨XzU,XA7,trivial⟩)
 exact okA ⟨Tryz.f117,rfl,by decide,rfl⟩
end Go.Vm.Code
namespace Go.Vm
open Go Go.RowKit
theorem HpR.below {P:Program} {w0:World} {U:UG} {ρ:Ren} {H:Hp} {top:Nat} {w w':World} (h:HpR P w0 U ρ H top w) (b:Below w.heap.size w w'):HpR P w0 U ρ H top w':=
 ⟨fun i o e=>let ⟨l,hl,ho,hw⟩:=h.obj i o e;⟨l,hl,ho.same (Ext.refl ρ) (fun he=>b.block _ (ho.lt he)),hw⟩,h.dis,h.lt,h.keep.below b⟩
theorem XbB.XGX {P:Program} {f:Nat} {run:List Value→List (Option (List Value))→Option XcS}
 (h:∀ ar r,run ar []=some r→∃ s k n v,ar=[.string s,.int k n]∧r=⟨v,[],[]⟩∧Xbt v=true∧∀ w,Calls P f ⟨ar⟩ w fun e w'=>e=.returned v∧Below w.heap.size w w')
 (hfn : ∃ fn, P.funcs[f]? = some fn ∧ fn.name ≠ "runtime.NumGoroutine" ∧ fn.body.isSome = true) : XbB P f ⟨[.v, .v], run⟩ where
 fn:=hfn
 calls:=by
  intro w0 U ρ H top w vals rvals v H' top' hlo hg hh hv hs
  unfold Xjk at hs
  split at hs<;>try (cases hs;done)
  rename_i aqs os has
  obtain ⟨a,b,rfl,rfl,rfl⟩:∃ a b,vals=[a,b]∧aqs=[a,b]∧os=[]:=by
   match vals,has with
   | [],has=>cases has
   | [a],has=>simp only [XdF] at has;split at has<;>cases has
   | [a,b],has=>
     simp only [XdF,Xdi] at has
     by_cases h1:Xbt a=true<;>by_cases h2:Xbt b=true<;>simp [h1,h2] at has
     exact ⟨a,b,rfl,has.1.symm,has.2⟩
   | a::b::c::l,has=>
     simp only [XdF,Xdi] at has
     by_cases h1:Xbt a=true<;>by_cases h2:Xbt b=true<;>simp [h1,h2] at has
  split at hs<;>try (cases hs;done)
  rename_i v0 new wr hrun
  obtain ⟨s,k,n,v1,e1,e2,e3,e4⟩:=h _ _ hrun
  cases e1;cases e2
  simp only [Xlg,Xp7,List.append_nil,apartB,Xd5,Xjy,Xl1 _ _ e3,Xl0,XjU,List.length_nil,Nat.add_zero,Option.some.injEq,Prod.mk.injEq] at hs
  obtain ⟨rfl,rfl,rfl⟩:=hs
  obtain ⟨_,_,e5,h1,h2⟩:=hv.inv2
  cases h1;cases h2
  cases e5
  intro cs
  obtain ⟨e,w',fr,⟨rfl,hb⟩,c2⟩:=e4 w cs
  exact ⟨_,w',fr,⟨ρ,_,rfl,VR.flat ρ _ e3,hh.below hb,Ext.refl ρ⟩,c2⟩
end Go.Vm
namespace Go.Proofs
open Go.Shelf
def Tryz.lays105_ren:Go.Shelf.Ren:=⟨fun|105=>68|212=>111|99=>112|165=>113|166=>114|170=>115|169=>116|263=>155|264=>156|206=>157|240=>158|241=>159|276=>178|277=>179|n=>n,fun|9=>9|3=>3|4=>4|20=>20|0=>0|46=>61|109=>166|5=>5|72=>171|76=>175|51=>34|146=>214|53=>29|148=>216|70=>169|37=>154|75=>174|127=>218|164=>247|80=>75|n=>n,fun|n=>n⟩
theorem Tryz.lays105:Go.Proofs.Lays.n105 Tryz.prog Tryz.lays105_ren:={
 mixed:=by kernel_rfl
 f99:=Tryz.func112.trans (congrArg some (by kernel_rfl))
 f105:=Tryz.func68.trans (congrArg some (by kernel_rfl))
 f165:=Tryz.func113.trans (congrArg some (by kernel_rfl))
 f166:=Tryz.func114.trans (congrArg some (by kernel_rfl))
 f169:=Tryz.func116.trans (congrArg some (by kernel_rfl))
 f170:=Tryz.func115.trans (congrArg some (by kernel_rfl))
 f206:=Tryz.func157.trans (congrArg some (by kernel_rfl))
 f212:=Tryz.func111.trans (congrArg some (by kernel_rfl))
 f240:=Tryz.func158.trans (congrArg some (by kernel_rfl))
 f241:=Tryz.func159.trans (congrArg some (by kernel_rfl))
 f263:=Tryz.func155.trans (congrArg some (by kernel_rfl))
 f264:=Tryz.func156.trans (congrArg some (by kernel_rfl))
 f276:=Tryz.func178.trans (congrArg some (by kernel_rfl))
 f277:=Tryz.func179.trans (congrArg some (by kernel_rfl))
 t0:=Tryz.underlying0
 a0:=Tryz.isAgg0
 z0:=Tryz.sizeOf0
 v0:=Tryz.zeroValue0
 t3:=Tryz.underlying3
 a3:=Tryz.isAgg3
 z3:=Tryz.sizeOf3
 v3:=Tryz.zeroValue3
 t4:=Tryz.underlying4
 a4:=Tryz.isAgg4
 z4:=Tryz.sizeOf4
 v4:=Tryz.zeroValue4
 t5:=Tryz.underlying5
 a5:=Tryz.isAgg5
 z5:=Tryz.sizeOf5
 v5:=Tryz.zeroValue5
 t9:=Tryz.underlying9
 a9:=Tryz.isAgg9
 z9:=Tryz.sizeOf9
 v9:=Tryz.zeroValue9
 t20:=Tryz.underlying20
 a20:=Tryz.isAgg20
 z20:=Tryz.sizeOf20
 v20:=Tryz.zeroValue20
 t37:=Tryz.underlying154
 a37:=Tryz.isAgg154
 z37:=Tryz.sizeOf154
 v37:=Tryz.zeroValue154
 t46:=Tryz.underlying61
 a46:=Tryz.isAgg61
 z46:=Tryz.sizeOf61
 v46:=Tryz.zeroValue61
 t51:=Tryz.underlying34
 a51:=Tryz.isAgg34
 z51:=Tryz.sizeOf34
 v51:=Tryz.zeroValue34
 t53:=Tryz.underlying29
 a53:=Tryz.isAgg29
 z53:=Tryz.sizeOf29
 v53:=Tryz.zeroValue29
 t70:=Tryz.underlying169
 a70:=Tryz.isAgg169
 z70:=Tryz.sizeOf169
 v70:=Tryz.zeroValue169
 t72:=Tryz.underlying171
 a72:=Tryz.isAgg171
 z72:=Tryz.sizeOf171
 v72:=Tryz.zeroValue171
 t75:=Tryz.underlying174
 a75:=Tryz.isAgg174
 z75:=Tryz.sizeOf174
 v75:=Tryz.zeroValue174
 t76:=Tryz.underlying175
 a76:=Tryz.isAgg175
 z76:=Tryz.sizeOf175
 v76:=Tryz.zeroValue175
 t109:=Tryz.underlying166
 a109:=Tryz.isAgg166
 z109:=Tryz.sizeOf166
 v109:=Tryz.zeroValue166
 t127:=Tryz.underlying218
 a127:=Tryz.isAgg218
 z127:=Tryz.sizeOf218
 v127:=Tryz.zeroValue218
 t146:=Tryz.underlying214
 a146:=Tryz.isAgg214
 z146:=Tryz.sizeOf214
 v146:=Tryz.zeroValue214
 t148:=Tryz.underlying216
 a148:=Tryz.isAgg216
 z148:=Tryz.sizeOf216
 v148:=Tryz.zeroValue216
 t164:=Tryz.underlying247
 a164:=Tryz.isAgg247
 z164:=Tryz.sizeOf247
 v164:=Tryz.zeroValue247 }
theorem Tryz.Builder_Extra_105:Builder.Extra Tryz.prog Tryz.lays105_ren:={
 sizeBuilder:=by kernel_rfl
 liesBuilder:=by kernel_rfl
 t5:=Tryz.underlying5
 a5:=Tryz.isAgg5
 z5:=Tryz.sizeOf5
 v5:=Tryz.zeroValue5
 infoByte:=by kernel_rfl
 cellsByte:=by kernel_rfl
 sizeByte:=by kernel_rfl
 neB5:=by decide }
open Go.RowKit Go.Lib in
theorem Tryz.strings_Repeat (s:ByteArray) (c:Nat) (w:World) (hc:c≤9223372036854775807) (hlen:s.size*c≤140737488355328) :
 Calls Tryz.prog 68 #[.string s,.int .i64 c] w fun e w'=>e=.returned (.string ⟨(Lib.repeatL s.data.toList c).toArray⟩)∧Below w.heap.size w w':=Any.strings_Repeat Tryz.lays105 Tryz.Builder_Extra_105 s c w hc hlen
end Go.Proofs
namespace Go.Vm.Code
open Go Go.Vm Go.Proofs
set_option maxRecDepth 100000
set_option maxHeartbeats 4000000
set_option linter.unusedVariables false
def Xg4 (s:List UInt8) (count:Int):Option (List UInt8):=
 if 0≤count∧count≤2^47∧s.length*count.toNat≤2^47 then some (Lib.repeatL s count.toNat) else none
def rx68 (x:List UInt8):XcS:=⟨.string ⟨⟨x⟩⟩,[],[]⟩
abbrev XbV:=(List UInt8)→Int→Option (List UInt8)
def r68 (g:XbV):Dec:=dV asS fun (y0:List UInt8)=>dV (asI .i64) fun (y1:Int)=>XdJ (ofG (g y0 y1) rx68)
theorem r68_c {g:XbV} {y0:List UInt8} {y1:Int} {x:List UInt8} (hx:g y0 y1=some x):r68 g [.string ⟨⟨y0⟩⟩,.int .i64 y1] []=some (rx68 x):=(XaP (XdL)).trans ((XaP (Xen _)).trans (XaN hx))
def s68 (g:XbV):Xbz:=⟨[.v,.v],r68 g⟩
theorem XAQ {g:XbV} {y0:List UInt8} {y1:Int} {x:List UInt8} (hx:g y0 y1=some x):(s68 g).run [.string ⟨⟨y0⟩⟩,.int .i64 y1] []=some (rx68 x):=r68_c hx
abbrev XTt:List (Nat×Xbz):=[]
theorem ok68 (_:Xaj Tryz.prog (XaI XTt)):XbB Tryz.prog 68 (s68 Xg4):=by
 refine XbB.XGX (fun ar r hr=>?_) ⟨Tryz.f68,rfl,by decide,rfl⟩
 replace hr:r68 Xg4 ar []=some r:=hr
 unfold r68 at hr
 replace hr:=dV.elim hr;obtain ⟨v0,l1,y0,rfl,e0,hr⟩:=hr;obtain rfl:=Xvf _ _ e0
 replace hr:=dV.elim hr;obtain ⟨v1,l2,y1,rfl,e1,hr⟩:=hr;obtain rfl:=XvS _ _ _ e1
 replace hr:=dFin hr;obtain ⟨rfl,_,x,h,rfl⟩:=hr
 obtain ⟨c,rfl⟩:∃ c:Nat,y1=c:=⟨y1.toNat,by unfold Xg4 at h;split at h;(· omega);cases h⟩
 refine ⟨_,_,_,_,rfl,rfl,rfl,fun w=>?_⟩
 unfold Xg4 at h;split at h
 ·rename_i hc
  cases h
  exact Tryz.strings_Repeat ⟨⟨y0⟩⟩ c w (by omega) (by show y0.length*c≤_;have:=hc.2.2;rw [Int.toNat_natCast] at this;omega)
 ·cases h
def strings_Repeat:XbV:=Xg4
theorem XIn:XbB Tryz.prog 68 (s68 strings_Repeat):=ok68 (Xaj.XaK trivial)
def XhE (XcK:XdG) (Xha:Xg3) (t:Xah) (ha1:XaD):Option ((List UInt8)×Int):=
 (Xha ha1).bind fun p=>
 cond (p.2 !=0)
  (
  some (([],p.2)))
  (
  (XcK t p.1).bind fun d=>
  some ((d.1,d.2)))
def XFo (x:(List UInt8)×Int):XcS:=⟨.tuple ⟨[.string ⟨⟨x.1⟩⟩,.int .i64 x.2]⟩,[],[]⟩
abbrev Xcv:=Xah→XaD→Option ((List UInt8)×Int)
def r123 (g:Xcv):Dec:=dV Xd0 fun (y0:Xah)=>dV XhI fun (y1:XaD)=>XdJ (ofG (g y0 y1) XFo)
theorem XTg {g:Xcv} {y0:Xah} {y1:XaD} {x:(List UInt8)×Int} (hx:g y0 y1=some x):r123 g [.agg ⟨[.int .i64 y0.Proto,.bool y0.Src.V6,.int .u64 y0.Src.Hi,.int .u64 y0.Src.Lo,.bool y0.Dst.V6,.int .u64 y0.Dst.Hi,.int .u64 y0.Dst.Lo,.int .i64 y0.SPort,.int .i64 y0.DPort]⟩,.agg ⟨[.bool y1.Long,.int .i64 y1.Bits,.int .u32 y1.Version,.string ⟨⟨y1.DCID⟩⟩,.string ⟨⟨y1.SCID⟩⟩,.string ⟨⟨y1.Rest⟩⟩]⟩] []=some (XFo x):=(XaP (Xem _)).trans ((XaP (XjE _)).trans (XaN hx))
def s123 (g:Xcv):Xbz:=⟨[.v,.v],r123 g⟩
theorem XAA {g:Xcv} {y0:Xah} {y1:XaD} {x:(List UInt8)×Int} (hx:g y0 y1=some x):(s123 g).run [.agg ⟨[.int .i64 y0.Proto,.bool y0.Src.V6,.int .u64 y0.Src.Hi,.int .u64 y0.Src.Lo,.bool y0.Dst.V6,.int .u64 y0.Dst.Hi,.int .u64 y0.Dst.Lo,.int .i64 y0.SPort,.int .i64 y0.DPort]⟩,.agg ⟨[.bool y1.Long,.int .i64 y1.Bits,.int .u32 y1.Version,.string ⟨⟨y1.DCID⟩⟩,.string ⟨⟨y1.SCID⟩⟩,.string ⟨⟨y1.Rest⟩⟩]⟩] []=some (XFo x):=XTg hx
abbrev XPE (XcK:XdG) (Xha:Xg3):List (Nat×Xbz):=[(163,s163 XcK),(162,s162 Xha)]
theorem XFs (XcK:XdG) (Xha:Xg3) (hS:Xaj Tryz.prog (XaI (XPE XcK Xha))) (t:Xah) (ha1:XaD) (res:(List UInt8)×Int) (h:XhE XcK Xha t ha1=some res) :
 XaJ Tryz.prog 123 0 ⟨⟨123,21,[(0,.agg ⟨[.int .i64 t.Proto,.bool t.Src.V6,.int .u64 t.Src.Hi,.int .u64 t.Src.Lo,.bool t.Dst.V6,.int .u64 t.Dst.Hi,.int .u64 t.Dst.Lo,.int .i64 t.SPort,.int .i64 t.DPort]⟩),(1,.agg ⟨[.bool ha1.Long,.int .i64 ha1.Bits,.int .u32 ha1.Version,.string ⟨⟨ha1.DCID⟩⟩,.string ⟨⟨ha1.SCID⟩⟩,.string ⟨⟨ha1.Rest⟩⟩]⟩)],[.code XyQ],[],false,none⟩,[],[],0⟩ (fun v H _=>Res 0 (XFo res) v H):=by
 unfold XhE at h
 have R1:=@XM8 Xha
 have R2:=@XLc XcK
 refine Xa7 XaE hS true 3000 ?_
 conv=>whnf
 exact W
def Xbh:Xcv:=XhE XcK Xha
theorem XAT:XbB Tryz.prog 123 (s123 Xbh):=by
 have hL:=XFs XcK Xha (Xaj.XaK ⟨XMK,XMG,trivial⟩)
 exact okA ⟨Tryz.f123,rfl,by decide,rfl⟩
def Xik (Xbh:Xcv) (strings_Repeat:XbV) (c:Xaa):Option ((List UInt8)×Int×Xaa):=
 (strings_Repeat [0] 8).bind fun xr=>
 (Xbh c.t (XaD.mk true 0 1 xr [0,0] [])).bind fun d=>
 some ((d.1,d.2,c))
def XCd (x:(List UInt8)×Int×Xaa):XcS:=⟨.tuple ⟨[.string ⟨⟨x.1⟩⟩,.int .i64 x.2.1]⟩,[],[some [.int .i64 x.2.2.t.Proto,.bool x.2.2.t.Src.V6,.int .u64 x.2.2.t.Src.Hi,.int .u64 x.2.2.t.Src.Lo,.bool x.2.2.t.Dst.V6,.int .u64 x.2.2.t.Dst.Hi,.int .u64 x.2.2.t.Dst.Lo,.int .i64 x.2.2.t.SPort,.int .i64 x.2.2.t.DPort,fvV x.2.2.v_.hello,fvV x.2.2.v_.say,fvV x.2.2.v_.hear,.int .u32 x.2.2.clock,.int .u32 x.2.2.echo,.string ⟨⟨x.2.2.id_⟩⟩]]⟩
abbrev Xeb:=Xaa→Option ((List UInt8)×Int×Xaa)
def r122 (g:Xeb):Dec:=dPt 0 Xb1 fun (y0:Xaa)=>XdJ (ofG (g y0) XCd)
theorem XU9 {g:Xeb} {y0:Xaa} {x:(List UInt8)×Int×Xaa} (hx:g y0=some x):r122 g [.pointer (some ⟨0,0,none⟩)] [some [.int .i64 y0.t.Proto,.bool y0.t.Src.V6,.int .u64 y0.t.Src.Hi,.int .u64 y0.t.Src.Lo,.bool y0.t.Dst.V6,.int .u64 y0.t.Dst.Hi,.int .u64 y0.t.Dst.Lo,.int .i64 y0.t.SPort,.int .i64 y0.t.DPort,fvV y0.v_.hello,fvV y0.v_.say,fvV y0.v_.hear,.int .u32 y0.clock,.int .u32 y0.echo,.string ⟨⟨y0.id_⟩⟩]]=some (XCd x):=(Xhm (Xcq _)).trans (XaN hx)
def s122 (g:Xeb):Xbz:=⟨[.pt 15],r122 g⟩
theorem XO1 {g:Xeb} {y0:Xaa} {x:(List UInt8)×Int×Xaa} (hx:g y0=some x):(s122 g).run [.pointer (some ⟨0,0,none⟩)] [some [.int .i64 y0.t.Proto,.bool y0.t.Src.V6,.int .u64 y0.t.Src.Hi,.int .u64 y0.t.Src.Lo,.bool y0.t.Dst.V6,.int .u64 y0.t.Dst.Hi,.int .u64 y0.t.Dst.Lo,.int .i64 y0.t.SPort,.int .i64 y0.t.DPort,fvV y0.v_.hello,fvV y0.v_.say,fvV y0.v_.hear,.int .u32 y0.clock,.int .u32 y0.echo,.string ⟨⟨y0.id_⟩⟩]]=some (XCd x):=XU9 hx
abbrev XMO (Xbh:Xcv) (strings_Repeat:XbV):List (Nat×Xbz):=[(123,s123 Xbh),(68,s68 strings_Repeat)]
theorem XGE (Xbh:Xcv) (strings_Repeat:XbV) (hS:Xaj Tryz.prog (XaI (XMO Xbh strings_Repeat))) (c:Xaa) (res:(List UInt8)×Int×Xaa) (h:Xik Xbh strings_Repeat c=some res) :
 XaJ Tryz.prog 122 1 ⟨⟨122,13,[(0,.pointer (some ⟨0,0,none⟩))],[.code XI4],[],false,none⟩,[],[(0,.cells [.int .i64 c.t.Proto,.bool c.t.Src.V6,.int .u64 c.t.Src.Hi,.int .u64 c.t.Src.Lo,.bool c.t.Dst.V6,.int .u64 c.t.Dst.Hi,.int .u64 c.t.Dst.Lo,.int .i64 c.t.SPort,.int .i64 c.t.DPort,fvV c.v_.hello,fvV c.v_.say,fvV c.v_.hear,.int .u32 c.clock,.int .u32 c.echo,.string ⟨⟨c.id_⟩⟩])],1⟩ (fun v H _=>Res 1 (XCd res) v H):=by
 unfold Xik at h
 have R1:=@XAQ strings_Repeat
 have R2:=@XAA Xbh
 refine Xa7 XaE hS true 3000 ?_
 conv=>whnf
 exact W
def Xdn:Xeb:=Xik Xbh strings_Repeat
theorem XOu:XbB Tryz.prog 122 (s122 Xdn):=by
 have hL:=XGE Xbh strings_Repeat (Xaj.XaK ⟨XAT,XIn,trivial⟩)
 exact okA ⟨Tryz.f122,rfl,by decide,rfl⟩
def Xf9 (Xae:Xat) (Xac:Xam):Option (List UInt8):=
 (Xac).bind fun n=>
 cond (!n)
  (
  some ([]))
  (
  none)
def XHC (x:List UInt8):XcS:=⟨.string ⟨⟨x⟩⟩,[],[none]⟩
abbrev XaV:=Option (List UInt8)
def r35n (g:XaV):Dec:=dNl 1<|XdJ (ofG (g) XHC)
theorem XUi {g:XaV} {x:List UInt8} (hx:g=some x):r35n g [.pointer none] [none]=some (XHC x):=(XGK).trans (XaN hx)
abbrev XMj (Xae:Xat) (Xac:Xam):List (Nat×Xbz):=[(72,s72 Xae Xac)]
theorem XDD (Xae:Xat) (Xac:Xam) (hS:Xaj Tryz.prog (XaI (XMj Xae Xac))) (res:List UInt8) (h:Xf9 Xae Xac=some res) :
 XaJ Tryz.prog 35 1 ⟨⟨35,19,[(0,.pointer none)],[.code XxQ],[],false,none⟩,[],[],1⟩ (fun v H _=>Res 1 (XHC res) v H):=by
 unfold Xf9 at h
 have R1:=@XuB Xae Xac
 refine Xa7 XaE hS true 3000 ?_
 conv=>whnf
 exact W
def XfL (Xae:Xat) (Xac:Xam) (Xdn:Xeb) (XcG:Xdb) (c:Xaa):Option ((List UInt8)×Xaa):=
 (Xae c).bind fun xg=>
 cond (!xg.1)
  (
  some (([],xg.2)))
  (
  Option.elim xg.2.v_.hello
   (
   none)
   (fun n=>
   cond (n==117)
    (
    (XcG (Xaa.mk xg.2.t (Xbg.mk (some 117) xg.2.v_.say xg.2.v_.hear) xg.2.clock xg.2.echo xg.2.id_)).bind fun x1=>
    some ((x1.1,x1.2.2)))
    (
    cond (n==122)
     (
     (Xdn (Xaa.mk xg.2.t (Xbg.mk (some 122) xg.2.v_.say xg.2.v_.hear) xg.2.clock xg.2.echo xg.2.id_)).bind fun x11=>
     some ((x11.1,x11.2.2)))
     (
     none))))
def rx35 (x:(List UInt8)×Xaa):XcS:=⟨.string ⟨⟨x.1⟩⟩,[],[some [.int .i64 x.2.t.Proto,.bool x.2.t.Src.V6,.int .u64 x.2.t.Src.Hi,.int .u64 x.2.t.Src.Lo,.bool x.2.t.Dst.V6,.int .u64 x.2.t.Dst.Hi,.int .u64 x.2.t.Dst.Lo,.int .i64 x.2.t.SPort,.int .i64 x.2.t.DPort,fvV x.2.v_.hello,fvV x.2.v_.say,fvV x.2.v_.hear,.int .u32 x.2.clock,.int .u32 x.2.echo,.string ⟨⟨x.2.id_⟩⟩]]⟩
abbrev Xbe:=Xaa→Option ((List UInt8)×Xaa)
def r35 (g:Xbe):Dec:=dPt 0 Xb1 fun (y0:Xaa)=>XdJ (ofG (g y0) rx35)
theorem r35_c {g:Xbe} {y0:Xaa} {x:(List UInt8)×Xaa} (hx:g y0=some x):r35 g [.pointer (some ⟨0,0,none⟩)] [some [.int .i64 y0.t.Proto,.bool y0.t.Src.V6,.int .u64 y0.t.Src.Hi,.int .u64 y0.t.Src.Lo,.bool y0.t.Dst.V6,.int .u64 y0.t.Dst.Hi,.int .u64 y0.t.Dst.Lo,.int .i64 y0.t.SPort,.int .i64 y0.t.DPort,fvV y0.v_.hello,fvV y0.v_.say,fvV y0.v_.hear,.int .u32 y0.clock,.int .u32 y0.echo,.string ⟨⟨y0.id_⟩⟩]]=some (rx35 x):=(Xhm (Xcq _)).trans (XaN hx)
def s35 (g:Xbe) (g2:XaV):Xbz:=⟨[.pt 15],XsQ 0 (r35 g) (r35n g2)⟩
theorem XIA {g:Xbe} {g2:XaV} {y0:Xaa} {x:(List UInt8)×Xaa} (hx:g y0=some x):(s35 g g2).run [.pointer (some ⟨0,0,none⟩)] [some [.int .i64 y0.t.Proto,.bool y0.t.Src.V6,.int .u64 y0.t.Src.Hi,.int .u64 y0.t.Src.Lo,.bool y0.t.Dst.V6,.int .u64 y0.t.Dst.Hi,.int .u64 y0.t.Dst.Lo,.int .i64 y0.t.SPort,.int .i64 y0.t.DPort,fvV y0.v_.hello,fvV y0.v_.say,fvV y0.v_.hear,.int .u32 y0.clock,.int .u32 y0.echo,.string ⟨⟨y0.id_⟩⟩]]=some (rx35 x):=r35_c hx
theorem XK4 {g2:Xbe} {g:XaV} {x:List UInt8} (hx:g=some x):(s35 g2 g).run [.pointer none] [none]=some (XHC x):=XUi hx
abbrev XW0 (Xae:Xat) (Xac:Xam) (Xdn:Xeb) (XcG:Xdb):List (Nat×Xbz):=[(72,s72 Xae Xac),(122,s122 Xdn),(117,s117 XcG)]
theorem XPq (Xae:Xat) (Xac:Xam) (Xdn:Xeb) (XcG:Xdb) (hS:Xaj Tryz.prog (XaI (XW0 Xae Xac Xdn XcG))) (c:Xaa) (res:(List UInt8)×Xaa) (h:XfL Xae Xac Xdn XcG c=some res) :
 XaJ Tryz.prog 35 1 ⟨⟨35,19,[(0,.pointer (some ⟨0,0,none⟩))],[.code XxQ],[],false,none⟩,[],[(0,.cells [.int .i64 c.t.Proto,.bool c.t.Src.V6,.int .u64 c.t.Src.Hi,.int .u64 c.t.Src.Lo,.bool c.t.Dst.V6,.int .u64 c.t.Dst.Hi,.int .u64 c.t.Dst.Lo,.int .i64 c.t.SPort,.int .i64 c.t.DPort,fvV c.v_.hello,fvV c.v_.say,fvV c.v_.hear,.int .u32 c.clock,.int .u32 c.echo,.string ⟨⟨c.id_⟩⟩])],1⟩ (fun v H _=>Res 1 (rx35 res) v H):=by
 unfold XfL at h
 have R1:=@Xs0 Xae Xac
 have R2:=@XLM XcG
 have R3:=@XO1 Xdn
 refine Xa7 XaE hS true 3000 ?_
 conv=>whnf
 exact W
def Xaq:Xbe:=XfL Xae Xac Xdn XcG
def Xap:XaV:=Xf9 Xae Xac
theorem XWI:XbB Tryz.prog 35 (s35 Xaq Xap):=by
 have hL:=XPq Xae Xac Xdn XcG (Xaj.XaK ⟨XoK,XOu,XLG,trivial⟩);have hN:=XDD Xae Xac (Xaj.XaK ⟨XoK,trivial⟩)
 exact okA ⟨Tryz.f35,rfl,by decide,rfl⟩
def Xhe (XbC:XcH) (Xcb:XdQ) (c:Xaa) (flags:Int) (payload:List UInt8):Option ((List UInt8)×Int×Xaa):=
 (Xcb c.clock c.echo).bind fun s=>
 (XbC c.t flags s payload).bind fun s1=>
 some ((s1.1,s1.2,c))
def XCK (x:(List UInt8)×Int×Xaa):XcS:=⟨.tuple ⟨[.string ⟨⟨x.1⟩⟩,.int .i64 x.2.1]⟩,[],[some [.int .i64 x.2.2.t.Proto,.bool x.2.2.t.Src.V6,.int .u64 x.2.2.t.Src.Hi,.int .u64 x.2.2.t.Src.Lo,.bool x.2.2.t.Dst.V6,.int .u64 x.2.2.t.Dst.Hi,.int .u64 x.2.2.t.Dst.Lo,.int .i64 x.2.2.t.SPort,.int .i64 x.2.2.t.DPort,fvV x.2.2.v_.hello,fvV x.2.2.v_.say,fvV x.2.2.v_.hear,.int .u32 x.2.2.clock,.int .u32 x.2.2.echo,.string ⟨⟨x.2.2.id_⟩⟩]]⟩
abbrev Xde:=Xaa→Int→(List UInt8)→Option ((List UInt8)×Int×Xaa)
def r120 (g:Xde):Dec:=dPt 0 Xb1 fun (y0:Xaa)=>dV (asI .i64) fun (y1:Int)=>dV asS fun (y2:List UInt8)=>XdJ (ofG (g y0 y1 y2) XCK)
theorem XUB {g:Xde} {y0:Xaa} {y1:Int} {y2:List UInt8} {x:(List UInt8)×Int×Xaa} (hx:g y0 y1 y2=some x):r120 g [.pointer (some ⟨0,0,none⟩),.int .i64 y1,.string ⟨⟨y2⟩⟩] [some [.int .i64 y0.t.Proto,.bool y0.t.Src.V6,.int .u64 y0.t.Src.Hi,.int .u64 y0.t.Src.Lo,.bool y0.t.Dst.V6,.int .u64 y0.t.Dst.Hi,.int .u64 y0.t.Dst.Lo,.int .i64 y0.t.SPort,.int .i64 y0.t.DPort,fvV y0.v_.hello,fvV y0.v_.say,fvV y0.v_.hear,.int .u32 y0.clock,.int .u32 y0.echo,.string ⟨⟨y0.id_⟩⟩]]=some (XCK x):=(Xhm (Xcq _)).trans ((XaP (Xen _)).trans ((XaP (XdL)).trans (XaN hx)))
def s120 (g:Xde):Xbz:=⟨[.pt 15,.v,.v],r120 g⟩
theorem XPD {g:Xde} {y0:Xaa} {y1:Int} {y2:List UInt8} {x:(List UInt8)×Int×Xaa} (hx:g y0 y1 y2=some x):(s120 g).run [.pointer (some ⟨0,0,none⟩),.int .i64 y1,.string ⟨⟨y2⟩⟩] [some [.int .i64 y0.t.Proto,.bool y0.t.Src.V6,.int .u64 y0.t.Src.Hi,.int .u64 y0.t.Src.Lo,.bool y0.t.Dst.V6,.int .u64 y0.t.Dst.Hi,.int .u64 y0.t.Dst.Lo,.int .i64 y0.t.SPort,.int .i64 y0.t.DPort,fvV y0.v_.hello,fvV y0.v_.say,fvV y0.v_.hear,.int .u32 y0.clock,.int .u32 y0.echo,.string ⟨⟨y0.id_⟩⟩]]=some (XCK x):=XUB hx
abbrev XPt (XbC:XcH) (Xcb:XdQ):List (Nat×Xbz):=[(118,s118 XbC),(119,s119 Xcb)]
theorem XBX (XbC:XcH) (Xcb:XdQ) (hS:Xaj Tryz.prog (XaI (XPt XbC Xcb))) (c:Xaa) (flags:Int) (payload:List UInt8) (res:(List UInt8)×Int×Xaa) (h:Xhe XbC Xcb c flags payload=some res) :
 XaJ Tryz.prog 120 1 ⟨⟨120,26,[(0,.pointer (some ⟨0,0,none⟩)),(1,.int .i64 flags),(2,.string ⟨⟨payload⟩⟩)],[.code XJt],[],false,none⟩,[],[(0,.cells [.int .i64 c.t.Proto,.bool c.t.Src.V6,.int .u64 c.t.Src.Hi,.int .u64 c.t.Src.Lo,.bool c.t.Dst.V6,.int .u64 c.t.Dst.Hi,.int .u64 c.t.Dst.Lo,.int .i64 c.t.SPort,.int .i64 c.t.DPort,fvV c.v_.hello,fvV c.v_.say,fvV c.v_.hear,.int .u32 c.clock,.int .u32 c.echo,.string ⟨⟨c.id_⟩⟩])],1⟩ (fun v H _=>Res 1 (XCK res) v H):=by
 unfold Xhe at h
 have R1:=@XzS Xcb
 have R2:=@Xz8 XbC
 refine Xa7 XaE hS true 3000 ?_
 conv=>whnf
 exact W
def XcD:Xde:=Xhe XbC Xcb
theorem XKV:XbB Tryz.prog 120 (s120 XcD):=by
 have hL:=XBX XbC Xcb (Xaj.XaK ⟨XzU,XA7,trivial⟩)
 exact okA ⟨Tryz.f120,rfl,by decide,rfl⟩
def Xiu (Xbh:Xcv) (c:Xaa) (a1:Int) (payload:List UInt8):Option ((List UInt8)×Int×Xaa):=
 (Xbh c.t (XaD.mk false 0 0 c.id_ [] payload)).bind fun d=>
 some ((d.1,d.2,c))
def XCN (x:(List UInt8)×Int×Xaa):XcS:=⟨.tuple ⟨[.string ⟨⟨x.1⟩⟩,.int .i64 x.2.1]⟩,[],[some [.int .i64 x.2.2.t.Proto,.bool x.2.2.t.Src.V6,.int .u64 x.2.2.t.Src.Hi,.int .u64 x.2.2.t.Src.Lo,.bool x.2.2.t.Dst.V6,.int .u64 x.2.2.t.Dst.Hi,.int .u64 x.2.2.t.Dst.Lo,.int .i64 x.2.2.t.SPort,.int .i64 x.2.2.t.DPort,fvV x.2.2.v_.hello,fvV x.2.2.v_.say,fvV x.2.2.v_.hear,.int .u32 x.2.2.clock,.int .u32 x.2.2.echo,.string ⟨⟨x.2.2.id_⟩⟩]]⟩
abbrev Xea:=Xaa→Int→(List UInt8)→Option ((List UInt8)×Int×Xaa)
def r124 (g:Xea):Dec:=dPt 0 Xb1 fun (y0:Xaa)=>dV (asI .i64) fun (y1:Int)=>dV asS fun (y2:List UInt8)=>XdJ (ofG (g y0 y1 y2) XCN)
theorem XTs {g:Xea} {y0:Xaa} {y1:Int} {y2:List UInt8} {x:(List UInt8)×Int×Xaa} (hx:g y0 y1 y2=some x):r124 g [.pointer (some ⟨0,0,none⟩),.int .i64 y1,.string ⟨⟨y2⟩⟩] [some [.int .i64 y0.t.Proto,.bool y0.t.Src.V6,.int .u64 y0.t.Src.Hi,.int .u64 y0.t.Src.Lo,.bool y0.t.Dst.V6,.int .u64 y0.t.Dst.Hi,.int .u64 y0.t.Dst.Lo,.int .i64 y0.t.SPort,.int .i64 y0.t.DPort,fvV y0.v_.hello,fvV y0.v_.say,fvV y0.v_.hear,.int .u32 y0.clock,.int .u32 y0.echo,.string ⟨⟨y0.id_⟩⟩]]=some (XCN x):=(Xhm (Xcq _)).trans ((XaP (Xen _)).trans ((XaP (XdL)).trans (XaN hx)))
def s124 (g:Xea):Xbz:=⟨[.pt 15,.v,.v],r124 g⟩
theorem XMI {g:Xea} {y0:Xaa} {y1:Int} {y2:List UInt8} {x:(List UInt8)×Int×Xaa} (hx:g y0 y1 y2=some x):(s124 g).run [.pointer (some ⟨0,0,none⟩),.int .i64 y1,.string ⟨⟨y2⟩⟩] [some [.int .i64 y0.t.Proto,.bool y0.t.Src.V6,.int .u64 y0.t.Src.Hi,.int .u64 y0.t.Src.Lo,.bool y0.t.Dst.V6,.int .u64 y0.t.Dst.Hi,.int .u64 y0.t.Dst.Lo,.int .i64 y0.t.SPort,.int .i64 y0.t.DPort,fvV y0.v_.hello,fvV y0.v_.say,fvV y0.v_.hear,.int .u32 y0.clock,.int .u32 y0.echo,.string ⟨⟨y0.id_⟩⟩]]=some (XCN x):=XTs hx
abbrev XOM (Xbh:Xcv):List (Nat×Xbz):=[(123,s123 Xbh)]
theorem XFd (Xbh:Xcv) (hS:Xaj Tryz.prog (XaI (XOM Xbh))) (c:Xaa) (a1:Int) (payload:List UInt8) (res:(List UInt8)×Int×Xaa) (h:Xiu Xbh c a1 payload=some res) :
 XaJ Tryz.prog 124 1 ⟨⟨124,21,[(0,.pointer (some ⟨0,0,none⟩)),(1,.int .i64 a1),(2,.string ⟨⟨payload⟩⟩)],[.code XIz],[],false,none⟩,[],[(0,.cells [.int .i64 c.t.Proto,.bool c.t.Src.V6,.int .u64 c.t.Src.Hi,.int .u64 c.t.Src.Lo,.bool c.t.Dst.V6,.int .u64 c.t.Dst.Hi,.int .u64 c.t.Dst.Lo,.int .i64 c.t.SPort,.int .i64 c.t.DPort,fvV c.v_.hello,fvV c.v_.say,fvV c.v_.hear,.int .u32 c.clock,.int .u32 c.echo,.string ⟨⟨c.id_⟩⟩])],1⟩ (fun v H _=>Res 1 (XCN res) v H):=by
 unfold Xiu at h
 have R1:=@XAA Xbh
 refine Xa7 XaE hS true 3000 ?_
 conv=>whnf
 exact W
def Xdo:Xea:=Xiu Xbh
theorem XN6:XbB Tryz.prog 124 (s124 Xdo):=by
 have hL:=XFd Xbh (Xaj.XaK ⟨XAT,trivial⟩)
 exact okA ⟨Tryz.f124,rfl,by decide,rfl⟩
def XgI (Xae:Xat) (Xac:Xam) (flags:Int) (payload:List UInt8):Option ((List UInt8)×Int):=
 (Xac).bind fun n=>
 cond (!n)
  (
  some (([],1)))
  (
  none)
def XGH (x:(List UInt8)×Int):XcS:=⟨.tuple ⟨[.string ⟨⟨x.1⟩⟩,.int .i64 x.2]⟩,[],[none]⟩
abbrev Xa8:=Int→(List UInt8)→Option ((List UInt8)×Int)
def r37n (g:Xa8):Dec:=dNl 1<|dV (asI .i64) fun (y1:Int)=>dV asS fun (y2:List UInt8)=>XdJ (ofG (g y1 y2) XGH)
theorem XWd {g:Xa8} {y1:Int} {y2:List UInt8} {x:(List UInt8)×Int} (hx:g y1 y2=some x):r37n g [.pointer none,.int .i64 y1,.string ⟨⟨y2⟩⟩] [none]=some (XGH x):=(XGK).trans ((XaP (Xen _)).trans ((XaP (XdL)).trans (XaN hx)))
abbrev XLh (Xae:Xat) (Xac:Xam):List (Nat×Xbz):=[(72,s72 Xae Xac)]
theorem XHd (Xae:Xat) (Xac:Xam) (hS:Xaj Tryz.prog (XaI (XLh Xae Xac))) (flags:Int) (payload:List UInt8) (res:(List UInt8)×Int) (h:XgI Xae Xac flags payload=some res) :
 XaJ Tryz.prog 37 1 ⟨⟨37,22,[(0,.pointer none),(1,.int .i64 flags),(2,.string ⟨⟨payload⟩⟩)],[.code XKv],[],false,none⟩,[],[],1⟩ (fun v H _=>Res 1 (XGH res) v H):=by
 unfold XgI at h
 have R1:=@XuB Xae Xac
 refine Xa7 XaE hS true 3000 ?_
 conv=>whnf
 exact W
def XgQ (Xae:Xat) (Xac:Xam) (Xdo:Xea) (XcD:Xde) (c:Xaa) (flags:Int) (payload:List UInt8):Option ((List UInt8)×Int×Xaa):=
 (Xae c).bind fun xg=>
 cond (!xg.1)
  (
  some (([],1,xg.2)))
  (
  Option.elim xg.2.v_.say
   (
   none)
   (fun n=>
   cond (n==120)
    (
    (XcD (Xaa.mk xg.2.t (Xbg.mk xg.2.v_.hello (some 120) xg.2.v_.hear) xg.2.clock xg.2.echo xg.2.id_) flags payload).bind fun x2=>
    some ((x2.1,x2.2.1,x2.2.2)))
    (
    cond (n==124)
     (
     (Xdo (Xaa.mk xg.2.t (Xbg.mk xg.2.v_.hello (some 124) xg.2.v_.hear) xg.2.clock xg.2.echo xg.2.id_) flags payload).bind fun x21=>
     some ((x21.1,x21.2.1,x21.2.2)))
     (
     none))))
def rx37 (x:(List UInt8)×Int×Xaa):XcS:=⟨.tuple ⟨[.string ⟨⟨x.1⟩⟩,.int .i64 x.2.1]⟩,[],[some [.int .i64 x.2.2.t.Proto,.bool x.2.2.t.Src.V6,.int .u64 x.2.2.t.Src.Hi,.int .u64 x.2.2.t.Src.Lo,.bool x.2.2.t.Dst.V6,.int .u64 x.2.2.t.Dst.Hi,.int .u64 x.2.2.t.Dst.Lo,.int .i64 x.2.2.t.SPort,.int .i64 x.2.2.t.DPort,fvV x.2.2.v_.hello,fvV x.2.2.v_.say,fvV x.2.2.v_.hear,.int .u32 x.2.2.clock,.int .u32 x.2.2.echo,.string ⟨⟨x.2.2.id_⟩⟩]]⟩
abbrev Xbr:=Xaa→Int→(List UInt8)→Option ((List UInt8)×Int×Xaa)
def r37 (g:Xbr):Dec:=dPt 0 Xb1 fun (y0:Xaa)=>dV (asI .i64) fun (y1:Int)=>dV asS fun (y2:List UInt8)=>XdJ (ofG (g y0 y1 y2) rx37)
theorem r37_c {g:Xbr} {y0:Xaa} {y1:Int} {y2:List UInt8} {x:(List UInt8)×Int×Xaa} (hx:g y0 y1 y2=some x):r37 g [.pointer (some ⟨0,0,none⟩),.int .i64 y1,.string ⟨⟨y2⟩⟩] [some [.int .i64 y0.t.Proto,.bool y0.t.Src.V6,.int .u64 y0.t.Src.Hi,.int .u64 y0.t.Src.Lo,.bool y0.t.Dst.V6,.int .u64 y0.t.Dst.Hi,.int .u64 y0.t.Dst.Lo,.int .i64 y0.t.SPort,.int .i64 y0.t.DPort,fvV y0.v_.hello,fvV y0.v_.say,fvV y0.v_.hear,.int .u32 y0.clock,.int .u32 y0.echo,.string ⟨⟨y0.id_⟩⟩]]=some (rx37 x):=(Xhm (Xcq _)).trans ((XaP (Xen _)).trans ((XaP (XdL)).trans (XaN hx)))
def s37 (g:Xbr) (g2:Xa8):Xbz:=⟨[.pt 15,.v,.v],XsQ 0 (r37 g) (r37n g2)⟩
theorem XUO {g:Xbr} {g2:Xa8} {y0:Xaa} {y1:Int} {y2:List UInt8} {x:(List UInt8)×Int×Xaa} (hx:g y0 y1 y2=some x):(s37 g g2).run [.pointer (some ⟨0,0,none⟩),.int .i64 y1,.string ⟨⟨y2⟩⟩] [some [.int .i64 y0.t.Proto,.bool y0.t.Src.V6,.int .u64 y0.t.Src.Hi,.int .u64 y0.t.Src.Lo,.bool y0.t.Dst.V6,.int .u64 y0.t.Dst.Hi,.int .u64 y0.t.Dst.Lo,.int .i64 y0.t.SPort,.int .i64 y0.t.DPort,fvV y0.v_.hello,fvV y0.v_.say,fvV y0.v_.hear,.int .u32 y0.clock,.int .u32 y0.echo,.string ⟨⟨y0.id_⟩⟩]]=some (rx37 x):=r37_c hx
theorem XMi {g2:Xbr} {g:Xa8} {y1:Int} {y2:List UInt8} {x:(List UInt8)×Int} (hx:g y1 y2=some x):(s37 g2 g).run [.pointer none,.int .i64 y1,.string ⟨⟨y2⟩⟩] [none]=some (XGH x):=XWd hx
abbrev XV0 (Xae:Xat) (Xac:Xam) (Xdo:Xea) (XcD:Xde):List (Nat×Xbz):=[(72,s72 Xae Xac),(124,s124 Xdo),(120,s120 XcD)]
theorem XQn (Xae:Xat) (Xac:Xam) (Xdo:Xea) (XcD:Xde) (hS:Xaj Tryz.prog (XaI (XV0 Xae Xac Xdo XcD))) (c:Xaa) (flags:Int) (payload:List UInt8) (res:(List UInt8)×Int×Xaa) (h:XgQ Xae Xac Xdo XcD c flags payload=some res) :
 XaJ Tryz.prog 37 1 ⟨⟨37,22,[(0,.pointer (some ⟨0,0,none⟩)),(1,.int .i64 flags),(2,.string ⟨⟨payload⟩⟩)],[.code XKv],[],false,none⟩,[],[(0,.cells [.int .i64 c.t.Proto,.bool c.t.Src.V6,.int .u64 c.t.Src.Hi,.int .u64 c.t.Src.Lo,.bool c.t.Dst.V6,.int .u64 c.t.Dst.Hi,.int .u64 c.t.Dst.Lo,.int .i64 c.t.SPort,.int .i64 c.t.DPort,fvV c.v_.hello,fvV c.v_.say,fvV c.v_.hear,.int .u32 c.clock,.int .u32 c.echo,.string ⟨⟨c.id_⟩⟩])],1⟩ (fun v H _=>Res 1 (rx37 res) v H):=by
 unfold XgQ at h
 have R1:=@Xs0 Xae Xac
 have R2:=@XPD XcD
 have R3:=@XMI Xdo
 refine Xa7 XaE hS true 3000 ?_
 conv=>whnf
 exact W
def Xaz:Xbr:=XgQ Xae Xac Xdo XcD
def Xav:Xa8:=XgI Xae Xac
theorem XWl:XbB Tryz.prog 37 (s37 Xaz Xav):=by
 have hL:=XQn Xae Xac Xdo XcD (Xaj.XaK ⟨XoK,XN6,XKV,trivial⟩);have hN:=XHd Xae Xac (Xaj.XaK ⟨XoK,trivial⟩)
 exact okA ⟨Tryz.f37,rfl,by decide,rfl⟩
def XmS (t:Xah):Option Xah:=
 some (Xah.mk t.Proto t.Dst t.Src t.DPort t.SPort)
def rx53 (x:Xah):XcS:=⟨.agg ⟨[.int .i64 x.Proto,.bool x.Src.V6,.int .u64 x.Src.Hi,.int .u64 x.Src.Lo,.bool x.Dst.V6,.int .u64 x.Dst.Hi,.int .u64 x.Dst.Lo,.int .i64 x.SPort,.int .i64 x.DPort]⟩,[],[]⟩
abbrev Xfz:=Xah→Option Xah
def r53 (g:Xfz):Dec:=dV Xd0 fun (y0:Xah)=>XdJ (ofG (g y0) rx53)
theorem r53_c {g:Xfz} {y0:Xah} {x:Xah} (hx:g y0=some x):r53 g [.agg ⟨[.int .i64 y0.Proto,.bool y0.Src.V6,.int .u64 y0.Src.Hi,.int .u64 y0.Src.Lo,.bool y0.Dst.V6,.int .u64 y0.Dst.Hi,.int .u64 y0.Dst.Lo,.int .i64 y0.SPort,.int .i64 y0.DPort]⟩] []=some (rx53 x):=(XaP (Xem _)).trans (XaN hx)
def s53 (g:Xfz):Xbz:=⟨[.v],r53 g⟩
theorem XRb {g:Xfz} {y0:Xah} {x:Xah} (hx:g y0=some x):(s53 g).run [.agg ⟨[.int .i64 y0.Proto,.bool y0.Src.V6,.int .u64 y0.Src.Hi,.int .u64 y0.Src.Lo,.bool y0.Dst.V6,.int .u64 y0.Dst.Hi,.int .u64 y0.Dst.Lo,.int .i64 y0.SPort,.int .i64 y0.DPort]⟩] []=some (rx53 x):=r53_c hx
abbrev XS0:List (Nat×Xbz):=[]
theorem XKb (hS:Xaj Tryz.prog (XaI (XS0))) (t:Xah) (res:Xah) (h:XmS t=some res) :
 XaJ Tryz.prog 53 0 ⟨⟨53,16,[(0,.agg ⟨[.int .i64 t.Proto,.bool t.Src.V6,.int .u64 t.Src.Hi,.int .u64 t.Src.Lo,.bool t.Dst.V6,.int .u64 t.Dst.Hi,.int .u64 t.Dst.Lo,.int .i64 t.SPort,.int .i64 t.DPort]⟩)],[.code XUA],[],false,none⟩,[],[],0⟩ (fun v H _=>Res 0 (rx53 res) v H):=by
 unfold XmS at h
 refine Xa7 XaE hS true 3000 ?_
 conv=>whnf
 exact W
def Xft:Xfz:=XmS
theorem XQX:XbB Tryz.prog 53 (s53 Xft):=by
 have hL:=XKb (Xaj.XaK trivial)
 exact okA ⟨Tryz.f53,rfl,by decide,rfl⟩
def Xhi (c:Xaa) (a1:List UInt8) (x:Xal):Option Xaa:=
 cond (x.Stamped)
  (
  some (Xaa.mk c.t c.v_ c.clock x.Val c.id_))
  (
  some (c))
def XFX (x:Xaa):XcS:=⟨.tuple ⟨[]⟩,[],[some [.int .i64 x.t.Proto,.bool x.t.Src.V6,.int .u64 x.t.Src.Hi,.int .u64 x.t.Src.Lo,.bool x.t.Dst.V6,.int .u64 x.t.Dst.Hi,.int .u64 x.t.Dst.Lo,.int .i64 x.t.SPort,.int .i64 x.t.DPort,fvV x.v_.hello,fvV x.v_.say,fvV x.v_.hear,.int .u32 x.clock,.int .u32 x.echo,.string ⟨⟨x.id_⟩⟩]]⟩
abbrev Xdf:=Xaa→(List UInt8)→Xal→Option Xaa
def r121 (g:Xdf):Dec:=dPt 0 Xb1 fun (y0:Xaa)=>dV asS fun (y1:List UInt8)=>dV Xjp fun (y2:Xal)=>XdJ (ofG (g y0 y1 y2) XFX)
theorem XQ2 {g:Xdf} {y0:Xaa} {y1:List UInt8} {y2:Xal} {x:Xaa} (hx:g y0 y1 y2=some x):r121 g [.pointer (some ⟨0,0,none⟩),.string ⟨⟨y1⟩⟩,.agg ⟨[.int .i64 y2.Tuple.Proto,.bool y2.Tuple.Src.V6,.int .u64 y2.Tuple.Src.Hi,.int .u64 y2.Tuple.Src.Lo,.bool y2.Tuple.Dst.V6,.int .u64 y2.Tuple.Dst.Hi,.int .u64 y2.Tuple.Dst.Lo,.int .i64 y2.Tuple.SPort,.int .i64 y2.Tuple.DPort,.int .i64 y2.Flags,.bool y2.Stamped,.int .u32 y2.Val,.int .u32 y2.Echo,.bool y2.Long,.string ⟨⟨y2.CID⟩⟩,.int .i64 y2.Size]⟩] [some [.int .i64 y0.t.Proto,.bool y0.t.Src.V6,.int .u64 y0.t.Src.Hi,.int .u64 y0.t.Src.Lo,.bool y0.t.Dst.V6,.int .u64 y0.t.Dst.Hi,.int .u64 y0.t.Dst.Lo,.int .i64 y0.t.SPort,.int .i64 y0.t.DPort,fvV y0.v_.hello,fvV y0.v_.say,fvV y0.v_.hear,.int .u32 y0.clock,.int .u32 y0.echo,.string ⟨⟨y0.id_⟩⟩]]=some (XFX x):=(Xhm (Xcq _)).trans ((XaP (XdL)).trans ((XaP (XmG _)).trans (XaN hx)))
def s121 (g:Xdf):Xbz:=⟨[.pt 15,.v,.v],r121 g⟩
theorem XQg {g:Xdf} {y0:Xaa} {y1:List UInt8} {y2:Xal} {x:Xaa} (hx:g y0 y1 y2=some x):(s121 g).run [.pointer (some ⟨0,0,none⟩),.string ⟨⟨y1⟩⟩,.agg ⟨[.int .i64 y2.Tuple.Proto,.bool y2.Tuple.Src.V6,.int .u64 y2.Tuple.Src.Hi,.int .u64 y2.Tuple.Src.Lo,.bool y2.Tuple.Dst.V6,.int .u64 y2.Tuple.Dst.Hi,.int .u64 y2.Tuple.Dst.Lo,.int .i64 y2.Tuple.SPort,.int .i64 y2.Tuple.DPort,.int .i64 y2.Flags,.bool y2.Stamped,.int .u32 y2.Val,.int .u32 y2.Echo,.bool y2.Long,.string ⟨⟨y2.CID⟩⟩,.int .i64 y2.Size]⟩] [some [.int .i64 y0.t.Proto,.bool y0.t.Src.V6,.int .u64 y0.t.Src.Hi,.int .u64 y0.t.Src.Lo,.bool y0.t.Dst.V6,.int .u64 y0.t.Dst.Hi,.int .u64 y0.t.Dst.Lo,.int .i64 y0.t.SPort,.int .i64 y0.t.DPort,fvV y0.v_.hello,fvV y0.v_.say,fvV y0.v_.hear,.int .u32 y0.clock,.int .u32 y0.echo,.string ⟨⟨y0.id_⟩⟩]]=some (XFX x):=XQ2 hx
abbrev XO5:List (Nat×Xbz):=[]
theorem XEm (hS:Xaj Tryz.prog (XaI (XO5))) (c:Xaa) (a1:List UInt8) (x:Xal) (res:Xaa) (h:Xhi c a1 x=some res) :
 XaJ Tryz.prog 121 1 ⟨⟨121,13,[(0,.pointer (some ⟨0,0,none⟩)),(1,.string ⟨⟨a1⟩⟩),(2,.agg ⟨[.int .i64 x.Tuple.Proto,.bool x.Tuple.Src.V6,.int .u64 x.Tuple.Src.Hi,.int .u64 x.Tuple.Src.Lo,.bool x.Tuple.Dst.V6,.int .u64 x.Tuple.Dst.Hi,.int .u64 x.Tuple.Dst.Lo,.int .i64 x.Tuple.SPort,.int .i64 x.Tuple.DPort,.int .i64 x.Flags,.bool x.Stamped,.int .u32 x.Val,.int .u32 x.Echo,.bool x.Long,.string ⟨⟨x.CID⟩⟩,.int .i64 x.Size]⟩)],[.code XHI],[],false,none⟩,[],[(0,.cells [.int .i64 c.t.Proto,.bool c.t.Src.V6,.int .u64 c.t.Src.Hi,.int .u64 c.t.Src.Lo,.bool c.t.Dst.V6,.int .u64 c.t.Dst.Hi,.int .u64 c.t.Dst.Lo,.int .i64 c.t.SPort,.int .i64 c.t.DPort,fvV c.v_.hello,fvV c.v_.say,fvV c.v_.hear,.int .u32 c.clock,.int .u32 c.echo,.string ⟨⟨c.id_⟩⟩])],1⟩ (fun v H _=>Res 1 (XFX res) v H):=by
 unfold Xhi at h
 refine Xa7 XaE hS true 3000 ?_
 conv=>whnf
 exact W
def XcE:Xdf:=Xhi
theorem XOk:XbB Tryz.prog 121 (s121 XcE):=by
 have hL:=XEm (Xaj.XaK trivial)
 exact okA ⟨Tryz.f121,rfl,by decide,rfl⟩
def Xii (Xd4:XeQ) (Xev:Xfk) (c:Xaa) (s:List UInt8) (a2:Xal):Option Xaa:=
 (Xd4 s).bind fun w=>
 Xbn (decide ((0:Int)≤w.2.1∧w.2.1≤(s.length:Int))) <|
 let t:=(s.drop w.2.1.toNat).take (s.length - w.2.1.toNat)
 (Xev t).bind fun xg=>
 cond (xg.2==0)
  (
  cond (xg.1.Long)
   (
   cond ((xg.1.SCID.length:Int)==8)
    (
    some (Xaa.mk c.t c.v_ c.clock c.echo xg.1.SCID))
    (
    some (c)))
   (
   some (c)))
  (
  some (c))
def XCo (x:Xaa):XcS:=⟨.tuple ⟨[]⟩,[],[some [.int .i64 x.t.Proto,.bool x.t.Src.V6,.int .u64 x.t.Src.Hi,.int .u64 x.t.Src.Lo,.bool x.t.Dst.V6,.int .u64 x.t.Dst.Hi,.int .u64 x.t.Dst.Lo,.int .i64 x.t.SPort,.int .i64 x.t.DPort,fvV x.v_.hello,fvV x.v_.say,fvV x.v_.hear,.int .u32 x.clock,.int .u32 x.echo,.string ⟨⟨x.id_⟩⟩]]⟩
abbrev Xd9:=Xaa→(List UInt8)→Xal→Option Xaa
def r125 (g:Xd9):Dec:=dPt 0 Xb1 fun (y0:Xaa)=>dV asS fun (y1:List UInt8)=>dV Xjp fun (y2:Xal)=>XdJ (ofG (g y0 y1 y2) XCo)
theorem XVs {g:Xd9} {y0:Xaa} {y1:List UInt8} {y2:Xal} {x:Xaa} (hx:g y0 y1 y2=some x):r125 g [.pointer (some ⟨0,0,none⟩),.string ⟨⟨y1⟩⟩,.agg ⟨[.int .i64 y2.Tuple.Proto,.bool y2.Tuple.Src.V6,.int .u64 y2.Tuple.Src.Hi,.int .u64 y2.Tuple.Src.Lo,.bool y2.Tuple.Dst.V6,.int .u64 y2.Tuple.Dst.Hi,.int .u64 y2.Tuple.Dst.Lo,.int .i64 y2.Tuple.SPort,.int .i64 y2.Tuple.DPort,.int .i64 y2.Flags,.bool y2.Stamped,.int .u32 y2.Val,.int .u32 y2.Echo,.bool y2.Long,.string ⟨⟨y2.CID⟩⟩,.int .i64 y2.Size]⟩] [some [.int .i64 y0.t.Proto,.bool y0.t.Src.V6,.int .u64 y0.t.Src.Hi,.int .u64 y0.t.Src.Lo,.bool y0.t.Dst.V6,.int .u64 y0.t.Dst.Hi,.int .u64 y0.t.Dst.Lo,.int .i64 y0.t.SPort,.int .i64 y0.t.DPort,fvV y0.v_.hello,fvV y0.v_.say,fvV y0.v_.hear,.int .u32 y0.clock,.int .u32 y0.echo,.string ⟨⟨y0.id_⟩⟩]]=some (XCo x):=(Xhm (Xcq _)).trans ((XaP (XdL)).trans ((XaP (XmG _)).trans (XaN hx)))
def s125 (g:Xd9):Xbz:=⟨[.pt 15,.v,.v],r125 g⟩
theorem XMb {g:Xd9} {y0:Xaa} {y1:List UInt8} {y2:Xal} {x:Xaa} (hx:g y0 y1 y2=some x):(s125 g).run [.pointer (some ⟨0,0,none⟩),.string ⟨⟨y1⟩⟩,.agg ⟨[.int .i64 y2.Tuple.Proto,.bool y2.Tuple.Src.V6,.int .u64 y2.Tuple.Src.Hi,.int .u64 y2.Tuple.Src.Lo,.bool y2.Tuple.Dst.V6,.int .u64 y2.Tuple.Dst.Hi,.int .u64 y2.Tuple.Dst.Lo,.int .i64 y2.Tuple.SPort,.int .i64 y2.Tuple.DPort,.int .i64 y2.Flags,.bool y2.Stamped,.int .u32 y2.Val,.int .u32 y2.Echo,.bool y2.Long,.string ⟨⟨y2.CID⟩⟩,.int .i64 y2.Size]⟩] [some [.int .i64 y0.t.Proto,.bool y0.t.Src.V6,.int .u64 y0.t.Src.Hi,.int .u64 y0.t.Src.Lo,.bool y0.t.Dst.V6,.int .u64 y0.t.Dst.Hi,.int .u64 y0.t.Dst.Lo,.int .i64 y0.t.SPort,.int .i64 y0.t.DPort,fvV y0.v_.hello,fvV y0.v_.say,fvV y0.v_.hear,.int .u32 y0.clock,.int .u32 y0.echo,.string ⟨⟨y0.id_⟩⟩]]=some (XCo x):=XVs hx
abbrev XLo (Xd4:XeQ) (Xev:Xfk):List (Nat×Xbz):=[(93,s93 Xd4),(94,s94 Xev)]
theorem XEK (Xd4:XeQ) (Xev:Xfk) (hS:Xaj Tryz.prog (XaI (XLo Xd4 Xev))) (c:Xaa) (s:List UInt8) (a2:Xal) (res:Xaa) (h:Xii Xd4 Xev c s a2=some res) :
 XaJ Tryz.prog 125 1 ⟨⟨125,41,[(0,.pointer (some ⟨0,0,none⟩)),(1,.string ⟨⟨s⟩⟩),(2,.agg ⟨[.int .i64 a2.Tuple.Proto,.bool a2.Tuple.Src.V6,.int .u64 a2.Tuple.Src.Hi,.int .u64 a2.Tuple.Src.Lo,.bool a2.Tuple.Dst.V6,.int .u64 a2.Tuple.Dst.Hi,.int .u64 a2.Tuple.Dst.Lo,.int .i64 a2.Tuple.SPort,.int .i64 a2.Tuple.DPort,.int .i64 a2.Flags,.bool a2.Stamped,.int .u32 a2.Val,.int .u32 a2.Echo,.bool a2.Long,.string ⟨⟨a2.CID⟩⟩,.int .i64 a2.Size]⟩)],[.code XJB],[],false,none⟩,[],[(0,.cells [.int .i64 c.t.Proto,.bool c.t.Src.V6,.int .u64 c.t.Src.Hi,.int .u64 c.t.Src.Lo,.bool c.t.Dst.V6,.int .u64 c.t.Dst.Hi,.int .u64 c.t.Dst.Lo,.int .i64 c.t.SPort,.int .i64 c.t.DPort,fvV c.v_.hello,fvV c.v_.say,fvV c.v_.hear,.int .u32 c.clock,.int .u32 c.echo,.string ⟨⟨c.id_⟩⟩])],1⟩ (fun v H _=>Res 1 (XCo res) v H):=by
 unfold Xii at h
 have R1:=@XTW Xd4
 have R2:=@XHW Xev
 refine Xa7 XaE hS true 3000 ?_
 conv=>whnf
 exact W
def Xdj:Xd9:=Xii Xd4 Xev
theorem XNN:XbB Tryz.prog 125 (s125 Xdj):=by
 have hL:=XEK Xd4 Xev (Xaj.XaK ⟨XU1,XI2,trivial⟩)
 exact okA ⟨Tryz.f125,rfl,by decide,rfl⟩
def Xgq (Xae:Xat) (Xac:Xam) (Xdj:Xd9) (XcE:Xdf) (Xd3:XeU) (Xft:Xfz) (c:Xaa) (s:List UInt8):Option (Int×Xaa):=
 (Xae c).bind fun xg=>
 cond (!xg.1)
  (
  some ((1,xg.2)))
  (
  (Xd3 s).bind fun p=>
  cond (p.2 !=0)
   (
   some ((p.2,xg.2)))
   (
   (Xft xg.2.t).bind fun b=>
   let t:=!((p.1.Tuple.Proto==b.Proto)&&((p.1.Tuple.Src.V6==b.Src.V6)&&((p.1.Tuple.Src.Hi==b.Src.Hi)&&((p.1.Tuple.Src.Lo==b.Src.Lo)&&((p.1.Tuple.Dst.V6==b.Dst.V6)&&((p.1.Tuple.Dst.Hi==b.Dst.Hi)&&((p.1.Tuple.Dst.Lo==b.Dst.Lo)&&((p.1.Tuple.SPort==b.SPort)&&((p.1.Tuple.DPort==b.DPort)&&true)))))))))
   cond (t)
    (
    some ((16,xg.2)))
    (
    Option.elim xg.2.v_.hear
     (
     none)
     (fun n=>
     cond (n==121)
      (
      (XcE (Xaa.mk xg.2.t (Xbg.mk xg.2.v_.hello xg.2.v_.say (some 121)) xg.2.clock xg.2.echo xg.2.id_) s p.1).bind fun x3=>
      some ((0,x3)))
      (
      cond (n==125)
       (
       (Xdj (Xaa.mk xg.2.t (Xbg.mk xg.2.v_.hello xg.2.v_.say (some 125)) xg.2.clock xg.2.echo xg.2.id_) s p.1).bind fun x31=>
       some ((0,x31)))
       (
       none))))))
def rx39 (x:Int×Xaa):XcS:=⟨.int .i64 x.1,[],[some [.int .i64 x.2.t.Proto,.bool x.2.t.Src.V6,.int .u64 x.2.t.Src.Hi,.int .u64 x.2.t.Src.Lo,.bool x.2.t.Dst.V6,.int .u64 x.2.t.Dst.Hi,.int .u64 x.2.t.Dst.Lo,.int .i64 x.2.t.SPort,.int .i64 x.2.t.DPort,fvV x.2.v_.hello,fvV x.2.v_.say,fvV x.2.v_.hear,.int .u32 x.2.clock,.int .u32 x.2.echo,.string ⟨⟨x.2.id_⟩⟩]]⟩
abbrev Xbv:=Xaa→(List UInt8)→Option (Int×Xaa)
def r39 (g:Xbv):Dec:=dPt 0 Xb1 fun (y0:Xaa)=>dV asS fun (y1:List UInt8)=>XdJ (ofG (g y0 y1) rx39)
theorem r39_c {g:Xbv} {y0:Xaa} {y1:List UInt8} {x:Int×Xaa} (hx:g y0 y1=some x):r39 g [.pointer (some ⟨0,0,none⟩),.string ⟨⟨y1⟩⟩] [some [.int .i64 y0.t.Proto,.bool y0.t.Src.V6,.int .u64 y0.t.Src.Hi,.int .u64 y0.t.Src.Lo,.bool y0.t.Dst.V6,.int .u64 y0.t.Dst.Hi,.int .u64 y0.t.Dst.Lo,.int .i64 y0.t.SPort,.int .i64 y0.t.DPort,fvV y0.v_.hello,fvV y0.v_.say,fvV y0.v_.hear,.int .u32 y0.clock,.int .u32 y0.echo,.string ⟨⟨y0.id_⟩⟩]]=some (rx39 x):=(Xhm (Xcq _)).trans ((XaP (XdL)).trans (XaN hx))
def s39 (g:Xbv):Xbz:=⟨[.pt 15,.v],r39 g⟩
theorem XHH {g:Xbv} {y0:Xaa} {y1:List UInt8} {x:Int×Xaa} (hx:g y0 y1=some x):(s39 g).run [.pointer (some ⟨0,0,none⟩),.string ⟨⟨y1⟩⟩] [some [.int .i64 y0.t.Proto,.bool y0.t.Src.V6,.int .u64 y0.t.Src.Hi,.int .u64 y0.t.Src.Lo,.bool y0.t.Dst.V6,.int .u64 y0.t.Dst.Hi,.int .u64 y0.t.Dst.Lo,.int .i64 y0.t.SPort,.int .i64 y0.t.DPort,fvV y0.v_.hello,fvV y0.v_.say,fvV y0.v_.hear,.int .u32 y0.clock,.int .u32 y0.echo,.string ⟨⟨y0.id_⟩⟩]]=some (rx39 x):=r39_c hx
abbrev XQ1 (Xae:Xat) (Xac:Xam) (Xdj:Xd9) (XcE:Xdf) (Xd3:XeU) (Xft:Xfz):List (Nat×Xbz):=[(72,s72 Xae Xac),(125,s125 Xdj),(121,s121 XcE),(47,s47 Xd3),(53,s53 Xft)]
theorem XQw (Xae:Xat) (Xac:Xam) (Xdj:Xd9) (XcE:Xdf) (Xd3:XeU) (Xft:Xfz) (hS:Xaj Tryz.prog (XaI (XQ1 Xae Xac Xdj XcE Xd3 Xft))) (c:Xaa) (s:List UInt8) (res:Int×Xaa) (h:Xgq Xae Xac Xdj XcE Xd3 Xft c s=some res) :
 XaJ Tryz.prog 39 1 ⟨⟨39,37,[(0,.pointer (some ⟨0,0,none⟩)),(1,.string ⟨⟨s⟩⟩)],[.code XHZ],[],false,none⟩,[],[(0,.cells [.int .i64 c.t.Proto,.bool c.t.Src.V6,.int .u64 c.t.Src.Hi,.int .u64 c.t.Src.Lo,.bool c.t.Dst.V6,.int .u64 c.t.Dst.Hi,.int .u64 c.t.Dst.Lo,.int .i64 c.t.SPort,.int .i64 c.t.DPort,fvV c.v_.hello,fvV c.v_.say,fvV c.v_.hear,.int .u32 c.clock,.int .u32 c.echo,.string ⟨⟨c.id_⟩⟩])],1⟩ (fun v H _=>Res 1 (rx39 res) v H):=by
 unfold Xgq at h
 have R1:=@Xs0 Xae Xac
 have R2:=@XUg Xd3
 have R3:=@XRb Xft
 have R4:=@XQg XcE
 have R5:=@XMb Xdj
 refine Xa7 XaE hS true 3000 ?_
 conv=>whnf
 exact W
def Xau:Xbv:=Xgq Xae Xac Xdj XcE Xd3 Xft
theorem XVF:XbB Tryz.prog 39 (s39 Xau):=by
 have hL:=XQw Xae Xac Xdj XcE Xd3 Xft (Xaj.XaK ⟨XoK,XNN,XOk,XUN,XQX,trivial⟩)
 exact okA ⟨Tryz.f39,rfl,by decide,rfl⟩
def XgW (Xae:Xat) (Xac:Xam) (n:Int):Option Unit:=
 (Xac).bind fun n1=>
 cond (n1)
  (
  none)
  (
  some (()))
def XC2 (x:Unit):XcS:=⟨.tuple ⟨[]⟩,[],[none]⟩
abbrev Xbf:=Int→Option Unit
def r41n (g:Xbf):Dec:=dNl 1<|dV (asI .u32) fun (y1:Int)=>XdJ (ofG (g y1) XC2)
theorem XVy {g:Xbf} {y1:Int} {x:Unit} (hx:g y1=some x):r41n g [.pointer none,.int .u32 y1] [none]=some (XC2 x):=(XGK).trans ((XaP (Xen _)).trans (XaN hx))
abbrev XQm (Xae:Xat) (Xac:Xam):List (Nat×Xbz):=[(72,s72 Xae Xac)]
theorem XCW (Xae:Xat) (Xac:Xam) (hS:Xaj Tryz.prog (XaI (XQm Xae Xac))) (n:Int) (res:Unit) (h:XgW Xae Xac n=some res) :
 XaJ Tryz.prog 41 1 ⟨⟨41,14,[(0,.pointer none),(1,.int .u32 n)],[.code XML],[],false,none⟩,[],[],1⟩ (fun v H _=>Res 1 (XC2 res) v H):=by
 unfold XgW at h
 have R1:=@XuB Xae Xac
 refine Xa7 XaE hS true 3000 ?_
 conv=>whnf
 exact W
def Xg9 (Xae:Xat) (Xac:Xam) (c:Xaa) (n:Int):Option Xaa:=
 (Xae c).bind fun xg=>
 cond (xg.1)
  (
  some (Xaa.mk xg.2.t xg.2.v_ (wI .u32 (xg.2.clock+n)) xg.2.echo xg.2.id_))
  (
  some (xg.2))
def rx41 (x:Xaa):XcS:=⟨.tuple ⟨[]⟩,[],[some [.int .i64 x.t.Proto,.bool x.t.Src.V6,.int .u64 x.t.Src.Hi,.int .u64 x.t.Src.Lo,.bool x.t.Dst.V6,.int .u64 x.t.Dst.Hi,.int .u64 x.t.Dst.Lo,.int .i64 x.t.SPort,.int .i64 x.t.DPort,fvV x.v_.hello,fvV x.v_.say,fvV x.v_.hear,.int .u32 x.clock,.int .u32 x.echo,.string ⟨⟨x.id_⟩⟩]]⟩
abbrev XbI:=Xaa→Int→Option Xaa
def r41 (g:XbI):Dec:=dPt 0 Xb1 fun (y0:Xaa)=>dV (asI .u32) fun (y1:Int)=>XdJ (ofG (g y0 y1) rx41)
theorem r41_c {g:XbI} {y0:Xaa} {y1:Int} {x:Xaa} (hx:g y0 y1=some x):r41 g [.pointer (some ⟨0,0,none⟩),.int .u32 y1] [some [.int .i64 y0.t.Proto,.bool y0.t.Src.V6,.int .u64 y0.t.Src.Hi,.int .u64 y0.t.Src.Lo,.bool y0.t.Dst.V6,.int .u64 y0.t.Dst.Hi,.int .u64 y0.t.Dst.Lo,.int .i64 y0.t.SPort,.int .i64 y0.t.DPort,fvV y0.v_.hello,fvV y0.v_.say,fvV y0.v_.hear,.int .u32 y0.clock,.int .u32 y0.echo,.string ⟨⟨y0.id_⟩⟩]]=some (rx41 x):=(Xhm (Xcq _)).trans ((XaP (Xen _)).trans (XaN hx))
def s41 (g:XbI) (g2:Xbf):Xbz:=⟨[.pt 15,.v],XsQ 0 (r41 g) (r41n g2)⟩
theorem XIB {g:XbI} {g2:Xbf} {y0:Xaa} {y1:Int} {x:Xaa} (hx:g y0 y1=some x):(s41 g g2).run [.pointer (some ⟨0,0,none⟩),.int .u32 y1] [some [.int .i64 y0.t.Proto,.bool y0.t.Src.V6,.int .u64 y0.t.Src.Hi,.int .u64 y0.t.Src.Lo,.bool y0.t.Dst.V6,.int .u64 y0.t.Dst.Hi,.int .u64 y0.t.Dst.Lo,.int .i64 y0.t.SPort,.int .i64 y0.t.DPort,fvV y0.v_.hello,fvV y0.v_.say,fvV y0.v_.hear,.int .u32 y0.clock,.int .u32 y0.echo,.string ⟨⟨y0.id_⟩⟩]]=some (rx41 x):=r41_c hx
theorem XOm {g2:XbI} {g:Xbf} {y1:Int} {x:Unit} (hx:g y1=some x):(s41 g2 g).run [.pointer none,.int .u32 y1] [none]=some (XC2 x):=XVy hx
abbrev XVa (Xae:Xat) (Xac:Xam):List (Nat×Xbz):=[(72,s72 Xae Xac)]
theorem XMp (Xae:Xat) (Xac:Xam) (hS:Xaj Tryz.prog (XaI (XVa Xae Xac))) (c:Xaa) (n:Int) (res:Xaa) (h:Xg9 Xae Xac c n=some res) :
 XaJ Tryz.prog 41 1 ⟨⟨41,14,[(0,.pointer (some ⟨0,0,none⟩)),(1,.int .u32 n)],[.code XML],[],false,none⟩,[],[(0,.cells [.int .i64 c.t.Proto,.bool c.t.Src.V6,.int .u64 c.t.Src.Hi,.int .u64 c.t.Src.Lo,.bool c.t.Dst.V6,.int .u64 c.t.Dst.Hi,.int .u64 c.t.Dst.Lo,.int .i64 c.t.SPort,.int .i64 c.t.DPort,fvV c.v_.hello,fvV c.v_.say,fvV c.v_.hear,.int .u32 c.clock,.int .u32 c.echo,.string ⟨⟨c.id_⟩⟩])],1⟩ (fun v H _=>Res 1 (rx41 res) v H):=by
 unfold Xg9 at h
 have R1:=@Xs0 Xae Xac
 refine Xa7 XaE hS true 3000 ?_
 conv=>whnf
 exact W
def Xax:XbI:=Xg9 Xae Xac
def Xaw:Xbf:=XgW Xae Xac
theorem XT4:XbB Tryz.prog 41 (s41 Xax Xaw):=by
 have hL:=XMp Xae Xac (Xaj.XaK ⟨XoK,trivial⟩);have hN:=XCW Xae Xac (Xaj.XaK ⟨XoK,trivial⟩)
 exact okA ⟨Tryz.f41,rfl,by decide,rfl⟩
def Xgu (Xae:Xat) (Xac:Xam) (c:Xaa):Option (Int×(List UInt8)×Xaa):=
 (Xae c).bind fun xg=>
 cond (!xg.1)
  (
  some ((0,[],xg.2)))
  (
  some ((xg.2.echo,xg.2.id_,xg.2)))
def rx42 (x:Int×(List UInt8)×Xaa):XcS:=⟨.tuple ⟨[.int .u32 x.1,.string ⟨⟨x.2.1⟩⟩]⟩,[],[some [.int .i64 x.2.2.t.Proto,.bool x.2.2.t.Src.V6,.int .u64 x.2.2.t.Src.Hi,.int .u64 x.2.2.t.Src.Lo,.bool x.2.2.t.Dst.V6,.int .u64 x.2.2.t.Dst.Hi,.int .u64 x.2.2.t.Dst.Lo,.int .i64 x.2.2.t.SPort,.int .i64 x.2.2.t.DPort,fvV x.2.2.v_.hello,fvV x.2.2.v_.say,fvV x.2.2.v_.hear,.int .u32 x.2.2.clock,.int .u32 x.2.2.echo,.string ⟨⟨x.2.2.id_⟩⟩]]⟩
abbrev Xby:=Xaa→Option (Int×(List UInt8)×Xaa)
def r42 (g:Xby):Dec:=dPt 0 Xb1 fun (y0:Xaa)=>XdJ (ofG (g y0) rx42)
theorem r42_c {g:Xby} {y0:Xaa} {x:Int×(List UInt8)×Xaa} (hx:g y0=some x):r42 g [.pointer (some ⟨0,0,none⟩)] [some [.int .i64 y0.t.Proto,.bool y0.t.Src.V6,.int .u64 y0.t.Src.Hi,.int .u64 y0.t.Src.Lo,.bool y0.t.Dst.V6,.int .u64 y0.t.Dst.Hi,.int .u64 y0.t.Dst.Lo,.int .i64 y0.t.SPort,.int .i64 y0.t.DPort,fvV y0.v_.hello,fvV y0.v_.say,fvV y0.v_.hear,.int .u32 y0.clock,.int .u32 y0.echo,.string ⟨⟨y0.id_⟩⟩]]=some (rx42 x):=(Xhm (Xcq _)).trans (XaN hx)
def s42 (g:Xby):Xbz:=⟨[.pt 15],r42 g⟩
theorem Xtc {g:Xby} {y0:Xaa} {x:Int×(List UInt8)×Xaa} (hx:g y0=some x):(s42 g).run [.pointer (some ⟨0,0,none⟩)] [some [.int .i64 y0.t.Proto,.bool y0.t.Src.V6,.int .u64 y0.t.Src.Hi,.int .u64 y0.t.Src.Lo,.bool y0.t.Dst.V6,.int .u64 y0.t.Dst.Hi,.int .u64 y0.t.Dst.Lo,.int .i64 y0.t.SPort,.int .i64 y0.t.DPort,fvV y0.v_.hello,fvV y0.v_.say,fvV y0.v_.hear,.int .u32 y0.clock,.int .u32 y0.echo,.string ⟨⟨y0.id_⟩⟩]]=some (rx42 x):=r42_c hx
abbrev XWw (Xae:Xat) (Xac:Xam):List (Nat×Xbz):=[(72,s72 Xae Xac)]
theorem XOV (Xae:Xat) (Xac:Xam) (hS:Xaj Tryz.prog (XaI (XWw Xae Xac))) (c:Xaa) (res:Int×(List UInt8)×Xaa) (h:Xgu Xae Xac c=some res) :
 XaJ Tryz.prog 42 1 ⟨⟨42,15,[(0,.pointer (some ⟨0,0,none⟩))],[.code XVi],[],false,none⟩,[],[(0,.cells [.int .i64 c.t.Proto,.bool c.t.Src.V6,.int .u64 c.t.Src.Hi,.int .u64 c.t.Src.Lo,.bool c.t.Dst.V6,.int .u64 c.t.Dst.Hi,.int .u64 c.t.Dst.Lo,.int .i64 c.t.SPort,.int .i64 c.t.DPort,fvV c.v_.hello,fvV c.v_.say,fvV c.v_.hear,.int .u32 c.clock,.int .u32 c.echo,.string ⟨⟨c.id_⟩⟩])],1⟩ (fun v H _=>Res 1 (rx42 res) v H):=by
 unfold Xgu at h
 have R1:=@Xs0 Xae Xac
 refine Xa7 XaE hS true 3000 ?_
 conv=>whnf
 exact W
def Xao:Xby:=Xgu Xae Xac
theorem XVU:XbB Tryz.prog 42 (s42 Xao):=by
 have hL:=XOV Xae Xac (Xaj.XaK ⟨XoK,trivial⟩)
 exact okA ⟨Tryz.f42,rfl,by decide,rfl⟩
def Xsd:Option (List UInt8):=
 some ([0,0,0,0,0,0,0,0])
def rx71 (x:List UInt8):XcS:=⟨.string ⟨⟨x⟩⟩,[],[]⟩
abbrev Xfe:=Option (List UInt8)
def r71 (g:Xfe):Dec:=XdJ (ofG (g) rx71)
theorem r71_c {g:Xfe} {x:List UInt8} (hx:g=some x):r71 g [] []=some (rx71 x):=XaN hx
def s71 (g:Xfe):Xbz:=⟨[],r71 g⟩
theorem Xvv {g:Xfe} {x:List UInt8} (hx:g=some x):(s71 g).run [] []=some (rx71 x):=r71_c hx
abbrev XRs:List (Nat×Xbz):=[]
theorem XL2 (hS:Xaj Tryz.prog (XaI (XRs))) (res:List UInt8) (h:Xsd=some res) :
 XaJ Tryz.prog 71 0 ⟨⟨71,1,[],[.code XT8],[],false,none⟩,[],[],0⟩ (fun v H _=>Res 0 (rx71 res) v H):=by
 unfold Xsd at h
 refine Xa7 XaE hS true 3000 ?_
 conv=>whnf
 exact W
def Xds:Xfe:=Xsd
theorem XRU:XbB Tryz.prog 71 (s71 Xds):=by
 have hL:=XL2 (Xaj.XaK trivial)
 exact okA ⟨Tryz.f71,rfl,by decide,rfl⟩
def Xhd (Xcc:XdN) (Xe8:XfX) (XbZ:Xdd) (Xcf:XdM) (Xds:Xfe) (c:Xar):Option ((List UInt8)×Xar):=
 cond (c.T.Proto==6)
  (
  (Xcc c.Clock 0).bind fun s=>
  (Xcf c.T 2 s []).bind fun s1=>
  some ((s1.1,c)))
  (
  (Xds).bind fun n=>
  (Xe8 (XaD.mk true 0 1 n [0,0] [])).bind fun p=>
  (XbZ c.T p.1).bind fun d=>
  some ((d.1,c)))
def rx36 (x:(List UInt8)×Xar):XcS:=⟨.string ⟨⟨x.1⟩⟩,[],[some [.int .i64 x.2.T.Proto,.bool x.2.T.Src.V6,.int .u64 x.2.T.Src.Hi,.int .u64 x.2.T.Src.Lo,.bool x.2.T.Dst.V6,.int .u64 x.2.T.Dst.Hi,.int .u64 x.2.T.Dst.Lo,.int .i64 x.2.T.SPort,.int .i64 x.2.T.DPort,.int .u32 x.2.Clock,.int .u32 x.2.Echo,.string ⟨⟨x.2.ID⟩⟩]]⟩
abbrev Xcg:=Xar→Option ((List UInt8)×Xar)
def r36 (g:Xcg):Dec:=dPt 0 XgU fun (y0:Xar)=>XdJ (ofG (g y0) rx36)
theorem r36_c {g:Xcg} {y0:Xar} {x:(List UInt8)×Xar} (hx:g y0=some x):r36 g [.pointer (some ⟨0,0,none⟩)] [some [.int .i64 y0.T.Proto,.bool y0.T.Src.V6,.int .u64 y0.T.Src.Hi,.int .u64 y0.T.Src.Lo,.bool y0.T.Dst.V6,.int .u64 y0.T.Dst.Hi,.int .u64 y0.T.Dst.Lo,.int .i64 y0.T.SPort,.int .i64 y0.T.DPort,.int .u32 y0.Clock,.int .u32 y0.Echo,.string ⟨⟨y0.ID⟩⟩]]=some (rx36 x):=(Xhm (Xko _)).trans (XaN hx)
def s36 (g:Xcg):Xbz:=⟨[.pt 12],r36 g⟩
theorem XUo {g:Xcg} {y0:Xar} {x:(List UInt8)×Xar} (hx:g y0=some x):(s36 g).run [.pointer (some ⟨0,0,none⟩)] [some [.int .i64 y0.T.Proto,.bool y0.T.Src.V6,.int .u64 y0.T.Src.Hi,.int .u64 y0.T.Src.Lo,.bool y0.T.Dst.V6,.int .u64 y0.T.Dst.Hi,.int .u64 y0.T.Dst.Lo,.int .i64 y0.T.SPort,.int .i64 y0.T.DPort,.int .u32 y0.Clock,.int .u32 y0.Echo,.string ⟨⟨y0.ID⟩⟩]]=some (rx36 x):=r36_c hx
abbrev XTf (Xcc:XdN) (Xe8:XfX) (XbZ:Xdd) (Xcf:XdM) (Xds:Xfe):List (Nat×Xbz):=[(25,s25 Xcc),(43,s43 Xe8),(44,s44 XbZ),(24,s24 Xcf),(71,s71 Xds)]
theorem XM2 (Xcc:XdN) (Xe8:XfX) (XbZ:Xdd) (Xcf:XdM) (Xds:Xfe) (hS:Xaj Tryz.prog (XaI (XTf Xcc Xe8 XbZ Xcf Xds))) (c:Xar) (res:(List UInt8)×Xar) (h:Xhd Xcc Xe8 XbZ Xcf Xds c=some res) :
 XaJ Tryz.prog 36 1 ⟨⟨36,45,[(0,.pointer (some ⟨0,0,none⟩))],[.code XJK],[],false,none⟩,[],[(0,.cells [.int .i64 c.T.Proto,.bool c.T.Src.V6,.int .u64 c.T.Src.Hi,.int .u64 c.T.Src.Lo,.bool c.T.Dst.V6,.int .u64 c.T.Dst.Hi,.int .u64 c.T.Dst.Lo,.int .i64 c.T.SPort,.int .i64 c.T.DPort,.int .u32 c.Clock,.int .u32 c.Echo,.string ⟨⟨c.ID⟩⟩])],1⟩ (fun v H _=>Res 1 (rx36 res) v H):=by
 unfold Xhd at h
 have R1:=@XJb Xcc
 have R2:=@XJG Xcf
 have R3:=@Xvv Xds
 have R4:=@XIO Xe8
 have R5:=@XIQ XbZ
 refine Xa7 XaE hS true 3000 ?_
 conv=>whnf
 exact W
def XaQ:Xcg:=Xhd Xcc Xe8 XbZ Xcf Xds
theorem lift36:XbB Tryz.prog 36 (s36 XaQ):=by
 have hL:=XM2 Xcc Xe8 XbZ Xcf Xds (Xaj.XaK ⟨XJO,XJJ,XI9,XJh,XRU,trivial⟩)
 exact okA ⟨Tryz.f36,rfl,by decide,rfl⟩
def Xiw (Xcc:XdN) (Xe8:XfX) (XbZ:Xdd) (Xcf:XdM) (c:Xar) (flags:Int) (payload:List UInt8):Option ((List UInt8)×Int×Xar):=
 cond (c.T.Proto==6)
  (
  (Xcc c.Clock c.Echo).bind fun s=>
  (Xcf c.T flags s payload).bind fun s1=>
  some ((s1.1,s1.2,c)))
  (
  (Xe8 (XaD.mk false 0 0 c.ID [] payload)).bind fun p=>
  (XbZ c.T p.1).bind fun d=>
  some ((d.1,d.2,c)))
def rx38 (x:(List UInt8)×Int×Xar):XcS:=⟨.tuple ⟨[.string ⟨⟨x.1⟩⟩,.int .i64 x.2.1]⟩,[],[some [.int .i64 x.2.2.T.Proto,.bool x.2.2.T.Src.V6,.int .u64 x.2.2.T.Src.Hi,.int .u64 x.2.2.T.Src.Lo,.bool x.2.2.T.Dst.V6,.int .u64 x.2.2.T.Dst.Hi,.int .u64 x.2.2.T.Dst.Lo,.int .i64 x.2.2.T.SPort,.int .i64 x.2.2.T.DPort,.int .u32 x.2.2.Clock,.int .u32 x.2.2.Echo,.string ⟨⟨x.2.2.ID⟩⟩]]⟩
abbrev XcM:=Xar→Int→(List UInt8)→Option ((List UInt8)×Int×Xar)
def r38 (g:XcM):Dec:=dPt 0 XgU fun (y0:Xar)=>dV (asI .i64) fun (y1:Int)=>dV asS fun (y2:List UInt8)=>XdJ (ofG (g y0 y1 y2) rx38)
theorem r38_c {g:XcM} {y0:Xar} {y1:Int} {y2:List UInt8} {x:(List UInt8)×Int×Xar} (hx:g y0 y1 y2=some x):r38 g [.pointer (some ⟨0,0,none⟩),.int .i64 y1,.string ⟨⟨y2⟩⟩] [some [.int .i64 y0.T.Proto,.bool y0.T.Src.V6,.int .u64 y0.T.Src.Hi,.int .u64 y0.T.Src.Lo,.bool y0.T.Dst.V6,.int .u64 y0.T.Dst.Hi,.int .u64 y0.T.Dst.Lo,.int .i64 y0.T.SPort,.int .i64 y0.T.DPort,.int .u32 y0.Clock,.int .u32 y0.Echo,.string ⟨⟨y0.ID⟩⟩]]=some (rx38 x):=(Xhm (Xko _)).trans ((XaP (Xen _)).trans ((XaP (XdL)).trans (XaN hx)))
def s38 (g:XcM):Xbz:=⟨[.pt 12,.v,.v],r38 g⟩
theorem XWr {g:XcM} {y0:Xar} {y1:Int} {y2:List UInt8} {x:(List UInt8)×Int×Xar} (hx:g y0 y1 y2=some x):(s38 g).run [.pointer (some ⟨0,0,none⟩),.int .i64 y1,.string ⟨⟨y2⟩⟩] [some [.int .i64 y0.T.Proto,.bool y0.T.Src.V6,.int .u64 y0.T.Src.Hi,.int .u64 y0.T.Src.Lo,.bool y0.T.Dst.V6,.int .u64 y0.T.Dst.Hi,.int .u64 y0.T.Dst.Lo,.int .i64 y0.T.SPort,.int .i64 y0.T.DPort,.int .u32 y0.Clock,.int .u32 y0.Echo,.string ⟨⟨y0.ID⟩⟩]]=some (rx38 x):=r38_c hx
abbrev XWe (Xcc:XdN) (Xe8:XfX) (XbZ:Xdd) (Xcf:XdM):List (Nat×Xbz):=[(25,s25 Xcc),(43,s43 Xe8),(44,s44 XbZ),(24,s24 Xcf)]
theorem XLO (Xcc:XdN) (Xe8:XfX) (XbZ:Xdd) (Xcf:XdM) (hS:Xaj Tryz.prog (XaI (XWe Xcc Xe8 XbZ Xcf))) (c:Xar) (flags:Int) (payload:List UInt8) (res:(List UInt8)×Int×Xar) (h:Xiw Xcc Xe8 XbZ Xcf c flags payload=some res) :
 XaJ Tryz.prog 38 1 ⟨⟨38,52,[(0,.pointer (some ⟨0,0,none⟩)),(1,.int .i64 flags),(2,.string ⟨⟨payload⟩⟩)],[.code XIw],[],false,none⟩,[],[(0,.cells [.int .i64 c.T.Proto,.bool c.T.Src.V6,.int .u64 c.T.Src.Hi,.int .u64 c.T.Src.Lo,.bool c.T.Dst.V6,.int .u64 c.T.Dst.Hi,.int .u64 c.T.Dst.Lo,.int .i64 c.T.SPort,.int .i64 c.T.DPort,.int .u32 c.Clock,.int .u32 c.Echo,.string ⟨⟨c.ID⟩⟩])],1⟩ (fun v H _=>Res 1 (rx38 res) v H):=by
 unfold Xiw at h
 have R1:=@XJb Xcc
 have R2:=@XJG Xcf
 have R3:=@XIO Xe8
 have R4:=@XIQ XbZ
 refine Xa7 XaE hS true 3000 ?_
 conv=>whnf
 exact W
def Xbb:XcM:=Xiw Xcc Xe8 XbZ Xcf
theorem lift38:XbB Tryz.prog 38 (s38 Xbb):=by
 have hL:=XLO Xcc Xe8 XbZ Xcf (Xaj.XaK ⟨XJO,XJJ,XI9,XJh,trivial⟩)
 exact okA ⟨Tryz.f38,rfl,by decide,rfl⟩
def Xp8 (t:Xah):Option Xah:=
 some (Xah.mk t.Proto t.Dst t.Src t.DPort t.SPort)
def rx27 (x:Xah):XcS:=⟨.agg ⟨[.int .i64 x.Proto,.bool x.Src.V6,.int .u64 x.Src.Hi,.int .u64 x.Src.Lo,.bool x.Dst.V6,.int .u64 x.Dst.Hi,.int .u64 x.Dst.Lo,.int .i64 x.SPort,.int .i64 x.DPort]⟩,[],[]⟩
abbrev Xg5:=Xah→Option Xah
def r27 (g:Xg5):Dec:=dV Xd0 fun (y0:Xah)=>XdJ (ofG (g y0) rx27)
theorem r27_c {g:Xg5} {y0:Xah} {x:Xah} (hx:g y0=some x):r27 g [.agg ⟨[.int .i64 y0.Proto,.bool y0.Src.V6,.int .u64 y0.Src.Hi,.int .u64 y0.Src.Lo,.bool y0.Dst.V6,.int .u64 y0.Dst.Hi,.int .u64 y0.Dst.Lo,.int .i64 y0.SPort,.int .i64 y0.DPort]⟩] []=some (rx27 x):=(XaP (Xem _)).trans (XaN hx)
def s27 (g:Xg5):Xbz:=⟨[.v],r27 g⟩
theorem XUH {g:Xg5} {y0:Xah} {x:Xah} (hx:g y0=some x):(s27 g).run [.agg ⟨[.int .i64 y0.Proto,.bool y0.Src.V6,.int .u64 y0.Src.Hi,.int .u64 y0.Src.Lo,.bool y0.Dst.V6,.int .u64 y0.Dst.Hi,.int .u64 y0.Dst.Lo,.int .i64 y0.SPort,.int .i64 y0.DPort]⟩] []=some (rx27 x):=r27_c hx
abbrev XRW:List (Nat×Xbz):=[]
theorem XM4 (hS:Xaj Tryz.prog (XaI (XRW))) (t:Xah) (res:Xah) (h:Xp8 t=some res) :
 XaJ Tryz.prog 27 0 ⟨⟨27,14,[(0,.agg ⟨[.int .i64 t.Proto,.bool t.Src.V6,.int .u64 t.Src.Hi,.int .u64 t.Src.Lo,.bool t.Dst.V6,.int .u64 t.Dst.Hi,.int .u64 t.Dst.Lo,.int .i64 t.SPort,.int .i64 t.DPort]⟩)],[.code XUF],[],false,none⟩,[],[],0⟩ (fun v H _=>Res 0 (rx27 res) v H):=by
 unfold Xp8 at h
 refine Xa7 XaE hS true 3000 ?_
 conv=>whnf
 exact W
def XhC:Xg5:=Xp8
theorem XSk:XbB Tryz.prog 27 (s27 XhC):=by
 have hL:=XM4 (Xaj.XaK trivial)
 exact okA ⟨Tryz.f27,rfl,by decide,rfl⟩
def XhA (Xe6:XfW) (Xc5:XeS) (XfG:Xgh) (XhC:Xg5) (c:Xar) (s:List UInt8):Option (Int×Xar):=
 (Xc5 s).bind fun p=>
 cond (p.2 !=0)
  (
  some ((p.2,c)))
  (
  (XhC c.T).bind fun b=>
  let t:=!((p.1.Tuple.Proto==b.Proto)&&((p.1.Tuple.Src.V6==b.Src.V6)&&((p.1.Tuple.Src.Hi==b.Src.Hi)&&((p.1.Tuple.Src.Lo==b.Src.Lo)&&((p.1.Tuple.Dst.V6==b.Dst.V6)&&((p.1.Tuple.Dst.Hi==b.Dst.Hi)&&((p.1.Tuple.Dst.Lo==b.Dst.Lo)&&((p.1.Tuple.SPort==b.SPort)&&((p.1.Tuple.DPort==b.DPort)&&true)))))))))
  cond (t)
   (
   some ((16,c)))
   (
   cond (p.1.Stamped)
    (
    (XfG s).bind fun w=>
    Xbn (decide ((0:Int)≤w.2.1∧w.2.1≤(s.length:Int))) <|
    let t1:=(s.drop w.2.1.toNat).take (s.length - w.2.1.toNat)
    (Xe6 t1).bind fun xg=>
    cond (c.T.Proto==17)
     (
     cond (xg.2==0)
      (
      cond (xg.1.Long)
       (
       cond ((xg.1.SCID.length:Int)==8)
        (
        some ((0,Xar.mk c.T c.Clock p.1.Val xg.1.SCID)))
        (
        some ((0,Xar.mk c.T c.Clock p.1.Val c.ID))))
       (
       some ((0,Xar.mk c.T c.Clock p.1.Val c.ID))))
      (
      some ((0,Xar.mk c.T c.Clock p.1.Val c.ID))))
     (
     some ((0,Xar.mk c.T c.Clock p.1.Val c.ID))))
    (
    (XfG s).bind fun w1=>
    Xbn (decide ((0:Int)≤w1.2.1∧w1.2.1≤(s.length:Int))) <|
    let t2:=(s.drop w1.2.1.toNat).take (s.length - w1.2.1.toNat)
    (Xe6 t2).bind fun xg1=>
    cond (c.T.Proto==17)
     (
     cond (xg1.2==0)
      (
      cond (xg1.1.Long)
       (
       cond ((xg1.1.SCID.length:Int)==8)
        (
        some ((0,Xar.mk c.T c.Clock c.Echo xg1.1.SCID)))
        (
        some ((0,c))))
       (
       some ((0,c))))
      (
      some ((0,c))))
     (
     some ((0,c))))))
def rx40 (x:Int×Xar):XcS:=⟨.int .i64 x.1,[],[some [.int .i64 x.2.T.Proto,.bool x.2.T.Src.V6,.int .u64 x.2.T.Src.Hi,.int .u64 x.2.T.Src.Lo,.bool x.2.T.Dst.V6,.int .u64 x.2.T.Dst.Hi,.int .u64 x.2.T.Dst.Lo,.int .i64 x.2.T.SPort,.int .i64 x.2.T.DPort,.int .u32 x.2.Clock,.int .u32 x.2.Echo,.string ⟨⟨x.2.ID⟩⟩]]⟩
abbrev Xcu:=Xar→(List UInt8)→Option (Int×Xar)
def r40 (g:Xcu):Dec:=dPt 0 XgU fun (y0:Xar)=>dV asS fun (y1:List UInt8)=>XdJ (ofG (g y0 y1) rx40)
theorem r40_c {g:Xcu} {y0:Xar} {y1:List UInt8} {x:Int×Xar} (hx:g y0 y1=some x):r40 g [.pointer (some ⟨0,0,none⟩),.string ⟨⟨y1⟩⟩] [some [.int .i64 y0.T.Proto,.bool y0.T.Src.V6,.int .u64 y0.T.Src.Hi,.int .u64 y0.T.Src.Lo,.bool y0.T.Dst.V6,.int .u64 y0.T.Dst.Hi,.int .u64 y0.T.Dst.Lo,.int .i64 y0.T.SPort,.int .i64 y0.T.DPort,.int .u32 y0.Clock,.int .u32 y0.Echo,.string ⟨⟨y0.ID⟩⟩]]=some (rx40 x):=(Xhm (Xko _)).trans ((XaP (XdL)).trans (XaN hx))
def s40 (g:Xcu):Xbz:=⟨[.pt 12,.v],r40 g⟩
theorem XRQ {g:Xcu} {y0:Xar} {y1:List UInt8} {x:Int×Xar} (hx:g y0 y1=some x):(s40 g).run [.pointer (some ⟨0,0,none⟩),.string ⟨⟨y1⟩⟩] [some [.int .i64 y0.T.Proto,.bool y0.T.Src.V6,.int .u64 y0.T.Src.Hi,.int .u64 y0.T.Src.Lo,.bool y0.T.Dst.V6,.int .u64 y0.T.Dst.Hi,.int .u64 y0.T.Dst.Lo,.int .i64 y0.T.SPort,.int .i64 y0.T.DPort,.int .u32 y0.Clock,.int .u32 y0.Echo,.string ⟨⟨y0.ID⟩⟩]]=some (rx40 x):=r40_c hx
abbrev XR2 (Xe6:XfW) (Xc5:XeS) (XfG:Xgh) (XhC:Xg5):List (Nat×Xbz):=[(74,s74 Xe6),(28,s28 Xc5),(73,s73 XfG),(27,s27 XhC)]
theorem XQa (Xe6:XfW) (Xc5:XeS) (XfG:Xgh) (XhC:Xg5) (hS:Xaj Tryz.prog (XaI (XR2 Xe6 Xc5 XfG XhC))) (c:Xar) (s:List UInt8) (res:Int×Xar) (h:XhA Xe6 Xc5 XfG XhC c s=some res) :
 XaJ Tryz.prog 40 1 ⟨⟨40,72,[(0,.pointer (some ⟨0,0,none⟩)),(1,.string ⟨⟨s⟩⟩)],[.code XIT],[],false,none⟩,[],[(0,.cells [.int .i64 c.T.Proto,.bool c.T.Src.V6,.int .u64 c.T.Src.Hi,.int .u64 c.T.Src.Lo,.bool c.T.Dst.V6,.int .u64 c.T.Dst.Hi,.int .u64 c.T.Dst.Lo,.int .i64 c.T.SPort,.int .i64 c.T.DPort,.int .u32 c.Clock,.int .u32 c.Echo,.string ⟨⟨c.ID⟩⟩])],1⟩ (fun v H _=>Res 1 (rx40 res) v H):=by
 unfold XhA at h
 have R1:=@XIZ Xc5
 have R2:=@XUH XhC
 have R3:=@XRd XfG
 have R4:=@XIg Xe6
 refine Xa7 XaE hS true 3000 ?_
 conv=>whnf
 exact W
def XaX:Xcu:=XhA Xe6 Xc5 XfG XhC
theorem lift40:XbB Tryz.prog 40 (s40 XaX):=by
 have hL:=XQa Xe6 Xc5 XfG XhC (Xaj.XaK ⟨XIa,XIx,XQ4,XSk,trivial⟩)
 exact okA ⟨Tryz.f40,rfl,by decide,rfl⟩
end Go.Vm.Code
namespace Go.Vm.Code
open Go Go.Vm
def Xiy (p:Int):Xbg:=cond (p==6) ⟨some 117,some 120,some 121⟩ ⟨some 122,some 124,some 125⟩
def Xks (x:Xar):Xaa:=⟨x.T,Xiy x.T.Proto,x.Clock,x.Echo,x.ID⟩
structure Xl9 (x:Xar):Prop where
 src:A4 x.T.Src
 dst:A4 x.T.Dst
 proto:x.T.Proto=6∨x.T.Proto=17
 clock:0≤x.Clock∧x.Clock<4294967296
 echo:0≤x.Echo∧x.Echo<4294967296
 name:x.ID.length=8
def Xrq:List UInt8:=[0,0,0,0,0,0,0,0]
theorem XR0:strings_Repeat [0] 8=some Xrq:=by decide +kernel
theorem XvF:Xds=some Xrq:=rfl
theorem XpC {x:Xar} (h:Xl9 x):Xae (Xks x)=some (true,Xks x):=by
 rcases h.proto with e|e<;>simp [Xae,XfN,Xks,Xiy,e]
def XvB (x:Xar) (h:XaD):List UInt8×Int:=XtU x.T (XBR h).1
def XuS (x:Xar):List UInt8:=cond (x.T.Proto==6) (Xwk x.T 2 (Xja x.Clock.toNat 0) []).1 (XvB x ⟨true,0,1,Xrq,[0,0],[]⟩).1
def XAv (x:Xar) (f:Int) (l:List UInt8):List UInt8×Int:=cond (x.T.Proto==6) (Xwk x.T f (Xja x.Clock.toNat x.Echo.toNat) l) (XvB x ⟨false,0,0,x.ID,[],l⟩)
theorem XwE {h:XaD} (hk:HOK h):(XoN h).length≤60+h.Rest.length:=by
 unfold XoN
 obtain ⟨_,h2⟩:=hk
 split
 ·rename_i c;rw [if_pos c] at h2;simp only [List.length_append,Xq2];omega
 ·rename_i c;rw [if_neg c] at h2;simp only [List.length_append,Xq2];omega
theorem sd43 {a b:Int} (ha:0≤a∧a<4294967296) (hb:0≤b∧b<4294967296):Xcb a b=some (Xja a.toNat b.toNat)∧Xcc a b=some (Xja a.toNat b.toNat):=by
 have h1:=XMn (v:=a.toNat) (e:=b.toNat) (by omega) (by omega)
 have h2:=XPF (v:=a.toNat) (e:=b.toNat) (by omega) (by omega)
 rw [Int.toNat_of_nonneg ha.1,Int.toNat_of_nonneg hb.1] at h1 h2
 exact ⟨h1,h2⟩
theorem Xvi (a b:Nat):(Xja a b).length=12:=by simp [Xja]
theorem XzQ {t:Xah} {h:XaD} (h1:A4 t.Src) (h2:A4 t.Dst) (hk:HOK h) (hv:0≤h.Version∧h.Version<2^32) (hr:h.Rest.length<2^17) :
 Xbh t h=some (XtU t (XBR h).1)∧Xe8 h=some (XBR h)∧XbZ t (XBR h).1=some (XtU t (XBR h).1):=by
 have e:XBR h=(XoN h,0):=if_pos hk
 have hl:=XwE hk
 refine ⟨?_,XEb hv (by omega),XAj h1 h2 (by rw [e];simp only [];omega)⟩
 unfold Xbh XhE
 rw [XJX hv (by omega),Option.bind_some,e,show ((XoN h,(0:Int)).2 !=0)=false from rfl,cond_false,Xzc h1 h2 (by simp only [];omega)]
 rfl
theorem hokH:HOK ⟨true,0,1,Xrq,[0,0],[]⟩:=by refine ⟨by simp only [];omega,?_⟩;rw [if_pos rfl];exact ⟨by decide,by decide⟩
theorem hokS {i l:List UInt8} (h:i.length=8):HOK ⟨false,0,0,i,[],l⟩:=by refine ⟨by simp only [];omega,?_⟩;rw [if_neg (by simp)];exact ⟨h,rfl,rfl⟩
theorem XqV {x:Xar} (h:Xl9 x):Xaq (Xks x)=some (XuS x,Xks x)∧XaQ x=some (XuS x,x):=by
 have h1:=h.src
 have h2:=h.dst
 obtain ⟨d1,d2,d3⟩:=XzQ h1 h2 hokH (by decide) (by decide)
 obtain ⟨s1,s2⟩:=sd43 h.clock (b:=0) (by decide)
 have g:=XpC h
 unfold Xaq XfL XaQ Xhd XuS XvB
 rw [g,Option.bind_some,show (!(true,Xks x).1)=false from rfl,cond_false]
 rcases h.proto with e|e
 ·have e1:(x.T.Proto==6)=true:=by simp [e]
  have ev:(Xks x).v_=⟨some 117,some 120,some 121⟩:=by simp [Xks,Xiy,e]
  rw [e1]
  simp only [cond_true,ev,Option.elim_some]
  rw [show ((117:Nat)==117)=true from rfl,cond_true]
  unfold XcG Xhg
  simp only []
  rw [show (Xks x).clock=x.Clock from rfl,show (Xks x).t=x.T from rfl,s1,s2]
  simp only [Option.bind_some]
  rw [Xtj h1 h2 (by rw [Xvi];decide) (by decide),Xss h1 h2 (by rw [Xvi];decide) (by decide)]
  refine ⟨?_,rfl⟩
  simp only [Option.bind_some]
  rw [←ev];rfl
 ·have e1:(x.T.Proto==6)=false:=by simp [e]
  have ev:(Xks x).v_=⟨some 122,some 124,some 125⟩:=by simp [Xks,Xiy,e]
  rw [e1]
  simp only [cond_false,ev,Option.elim_some]
  rw [show ((122:Nat)==117)=false from rfl,show ((122:Nat)==122)=true from rfl,cond_true,cond_false]
  unfold Xdn Xik
  rw [XR0,XvF]
  simp only [Option.bind_some]
  rw [show (Xks x).t=x.T from rfl,d1,d2]
  simp only [Option.bind_some,d3]
  refine ⟨?_,trivial⟩
  rw [←ev];rfl
theorem XD8 {x:Xar} (h:Xl9 x) {f:Int} {l:List UInt8} (hl:l.length<2^16):Xaz (Xks x) f l=some ((XAv x f l).1,(XAv x f l).2,Xks x)∧Xbb x f l=some ((XAv x f l).1,(XAv x f l).2,x):=by
 have h1:=h.src
 have h2:=h.dst
 obtain ⟨d1,d2,d3⟩:=XzQ h1 h2 (hokS (l:=l) h.name) (by simp only [];omega) (by simp only [];omega)
 obtain ⟨s1,s2⟩:=sd43 h.clock h.echo
 have g:=XpC h
 unfold Xaz XgQ Xbb Xiw XAv XvB
 rw [g,Option.bind_some,show (!(true,Xks x).1)=false from rfl,cond_false]
 rcases h.proto with e|e
 ·have e1:(x.T.Proto==6)=true:=by simp [e]
  have ev:(Xks x).v_=⟨some 117,some 120,some 121⟩:=by simp [Xks,Xiy,e]
  rw [e1]
  simp only [cond_true,ev,Option.elim_some]
  rw [show ((120:Nat)==120)=true from rfl,cond_true]
  unfold XcD Xhe
  simp only []
  rw [show (Xks x).clock=x.Clock from rfl,show (Xks x).echo=x.Echo from rfl,show (Xks x).t=x.T from rfl,s1,s2]
  simp only [Option.bind_some]
  rw [Xtj h1 h2 (by rw [Xvi];decide) (by omega),Xss h1 h2 (by rw [Xvi];decide) (by omega)]
  refine ⟨?_,rfl⟩
  simp only [Option.bind_some]
  rw [←ev];rfl
 ·have e1:(x.T.Proto==6)=false:=by simp [e]
  have ev:(Xks x).v_=⟨some 122,some 124,some 125⟩:=by simp [Xks,Xiy,e]
  rw [e1]
  simp only [cond_false,ev,Option.elim_some]
  rw [show ((124:Nat)==120)=false from rfl,show ((124:Nat)==124)=true from rfl,cond_true,cond_false]
  unfold Xdo Xiu
  simp only []
  rw [show (Xks x).t=x.T from rfl,show (Xks x).id_=x.ID from rfl,d1,d2]
  simp only [Option.bind_some,d3]
  refine ⟨?_,trivial⟩
  rw [←ev];rfl
theorem XAI:∀ l,(0≤(stL l).1∧(stL l).1<4294967296)∧0≤(stL l).2.1∧(stL l).2.1<4294967296
 | []=>by simp [stL]
 | o::l=>by
   unfold stL
   split
   ·split
    ·exact ⟨Xgl o.Data 0 4 4294967296 (by decide),Xgl o.Data 4 4 4294967296 (by decide)⟩
    ·simp
   ·exact XAI l
theorem z43:(0:Int)≤0∧(0:Int)<4294967296:=by decide
theorem XF4 (o:O11) (n:Nat):(0≤(Xi9 o n).1.Val∧(Xi9 o n).1.Val<4294967296)∧((Xi9 o n).1.Tuple.Proto=17→(Xi9 o n).1.Stamped=false):=by
 unfold Xi9
 split
 ·rename_i h6
  split
  ·exact ⟨z43,fun _=>rfl⟩
  ·refine ⟨?_,fun h=>by simp only [] at h;omega⟩
   simp only [XFr]
   split
   ·exact (XAI _).1
   ·decide
 ·split
  ·split
   ·exact ⟨z43,fun _=>rfl⟩
   ·split
    ·exact ⟨z43,fun _=>rfl⟩
    ·exact ⟨z43,fun _=>rfl⟩
  ·exact ⟨z43,fun _=>rfl⟩
theorem Xv8 (s:List UInt8):(0≤(XbG s).1.Val∧(XbG s).1.Val<4294967296)∧((XbG s).1.Tuple.Proto=17→(XbG s).1.Stamped=false):=by
 unfold XbG
 repeat' split
 all_goals first|exact XF4 _ _|exact ⟨z43,fun _=>rfl⟩
def XqJ (t:Xah):Xah:=⟨t.Proto,t.Dst,t.Src,t.DPort,t.SPort⟩
theorem XBf (t:Xah):Xft t=some (XqJ t)∧XhC t=some (XqJ t):=⟨rfl,rfl⟩
def Xxq (a b:Xah):Bool:=(a.Proto==b.Proto)&&((a.Src.V6==b.Src.V6)&&((a.Src.Hi==b.Src.Hi)&&((a.Src.Lo==b.Src.Lo)&&((a.Dst.V6==b.Dst.V6)&&((a.Dst.Hi==b.Dst.Hi)&&((a.Dst.Lo==b.Dst.Lo)&&((a.SPort==b.SPort)&&((a.DPort==b.DPort)&&true))))))))
theorem XtC {a b:Xah}:Xxq a b=true↔a=b:=by
 unfold Xxq
 obtain ⟨a1,⟨a2,a3,a4⟩,⟨a5,a6,a7⟩,a8,a9⟩:=a
 obtain ⟨b1,⟨b2,b3,b4⟩,⟨b5,b6,b7⟩,b8,b9⟩:=b
 simp [and_assoc]
def Xj9 (s:List UInt8):List UInt8:=(s.drop (XbG s).2.2.1).take (s.length - (XbG s).2.2.1)
def Xn0 (x:Xar) (s:List UInt8):Xar:=
 cond (x.T.Proto==6) (cond (XbG s).1.Stamped ⟨x.T,x.Clock,(XbG s).1.Val,x.ID⟩ x) (if (XoW (Xj9 s)).2=0∧(XoW (Xj9 s)).1.Long=true∧(XoW (Xj9 s)).1.SCID.length=8 then ⟨x.T,x.Clock,x.Echo,(XoW (Xj9 s)).1.SCID⟩ else x)
def Xq3 (x:Xar) (s:List UInt8):Int×Xar:=
 if (XbG s).2.2.2≠0 then ((XbG s).2.2.2,x) else if (XbG s).1.Tuple=XqJ x.T then (0,Xn0 x s) else (16,x)
theorem XQt (x:Xar) (s:List UInt8):(Xn0 x s).T=x.T:=by
 unfold Xn0
 cases (x.T.Proto==6)
 ·rw [cond_false];split<;>rfl
 ·rw [cond_true];cases (XbG s).1.Stamped<;>rfl
theorem XAP {x:Xar} (h:Xl9 x) (s:List UInt8):Xl9 (Xn0 x s):=by
 have ht:=XQt x s
 refine ⟨by rw [ht];exact h.src,by rw [ht];exact h.dst,by rw [ht];exact h.proto,?_,?_,?_⟩
 all_goals
  unfold Xn0
  cases (x.T.Proto==6)
  ·rw [cond_false]
   split
   ·rename_i c;first|exact h.clock|exact h.echo|exact c.2.2
   ·first|exact h.clock|exact h.echo|exact h.name
  ·rw [cond_true]
   cases (XbG s).1.Stamped
   ·first|exact h.clock|exact h.echo|exact h.name
   ·first|exact h.clock|exact (Xv8 s).1|exact h.name
theorem XCG {x:Xar} (h:Xl9 x) (s:List UInt8):Xl9 (Xq3 x s).2:=by
 unfold Xq3
 split
 ·exact h
 ·split
  ·exact XAP h s
  ·exact h
theorem ne43 {n:Int} (h:n≠0):(n !=0)=true:=bne_iff_ne.2 h
theorem Xy0 {x:Xar} (h:Xl9 x) {s:List UInt8} (hs:s.length<2^18):Xau (Xks x) s=some ((Xq3 x s).1,Xks (Xq3 x s).2)∧XaX x s=some (Xq3 x s):=by
 have hp:=XGd (s:=s) (by omega)
 have hrp:=XxS (s:=s) (by omega)
 have hw:=XFT (s:=s) (by omega)
 have hrw:=Xzz (s:=s) (by omega)
 have hle:=(Xst s).2
 have hrl:(Xj9 s).length<2^38:=by unfold Xj9;simp only [List.length_take,List.length_drop];omega
 obtain ⟨b1,b2⟩:=XBf x.T
 have rng:=Xv8 s
 have g:=XpC h
 unfold Xau Xgq XaX XhA Xq3
 rw [g,Option.bind_some,show (!(true,Xks x).1)=false from rfl,cond_false,hp,hrp,Option.bind_some,Option.bind_some]
 try simp only []
 by_cases c0:(XbG s).2.2.2=0
 ·rw [c0,show ((0:Int) !=0)=false from rfl,cond_false,cond_false,show (Xks x).t=x.T from rfl,b1,b2,Option.bind_some,Option.bind_some,if_neg (by simp)]
  try simp only []
  have hst:∀ b:Xah,((XbG s).1.Tuple.Proto==b.Proto&&((XbG s).1.Tuple.Src.V6==b.Src.V6&&((XbG s).1.Tuple.Src.Hi==b.Src.Hi&&((XbG s).1.Tuple.Src.Lo==b.Src.Lo&&((XbG s).1.Tuple.Dst.V6==b.Dst.V6&&((XbG s).1.Tuple.Dst.Hi==b.Dst.Hi&&((XbG s).1.Tuple.Dst.Lo==b.Dst.Lo&&((XbG s).1.Tuple.SPort==b.SPort&&((XbG s).1.Tuple.DPort==b.DPort&&true)))))))))=Xxq (XbG s).1.Tuple b:=fun b=>rfl
  rw [hst]
  by_cases c1:(XbG s).1.Tuple=XqJ x.T
  ·rw [XtC.2 c1,if_pos c1,Bool.not_true,cond_false,cond_false]
   have hpr:(XbG s).1.Tuple.Proto=x.T.Proto:=by rw [c1];rfl
   have hq:=Xvr hrl
   have hrq:=Xv0 hrl
   have ho:∀ {α:Type} (y:Option α),Xbn (decide ((0:Int)≤(((XbG s).2.2.1:Nat):Int)∧(((XbG s).2.2.1:Nat):Int)≤(s.length:Int))) y=y:=fun y=>XaA (by omega)
   have hrs:List.take (s.length - (XbG s).2.2.1) (List.drop (XbG s).2.2.1 s)=Xj9 s:=rfl
   simp only [hrw,Option.bind_some,ho,Int.toNat_natCast,hrs,hrq]
   unfold Xn0
   rcases h.proto with e|e
   ·have e1:(x.T.Proto==6)=true:=by simp [e]
    have e2:(x.T.Proto==17)=false:=by simp [e]
    have ev:(Xks x).v_=⟨some 117,some 120,some 121⟩:=by simp [Xks,Xiy,e]
    rw [e1,e2]
    simp only [cond_true,cond_false,ev,Option.elim_some]
    rw [show ((121:Nat)==121)=true from rfl,cond_true]
    unfold XcE Xhi
    cases c2:(XbG s).1.Stamped
    ·simp only [cond_false,Option.bind_some]
     refine ⟨?_,by trivial⟩
     rw [←ev];rfl
    ·simp only [cond_true,Option.bind_some]
     refine ⟨?_,by trivial⟩
     rw [←ev];rfl
   ·have e1:(x.T.Proto==6)=false:=by simp [e]
    have e2:(x.T.Proto==17)=true:=by simp [e]
    have ev:(Xks x).v_=⟨some 122,some 124,some 125⟩:=by simp [Xks,Xiy,e]
    have c2:(XbG s).1.Stamped=false:=rng.2 (by rw [hpr];exact e)
    rw [e1,e2,c2]
    simp only [cond_true,cond_false,ev,Option.elim_some]
    rw [show ((125:Nat)==121)=false from rfl,show ((125:Nat)==125)=true from rfl,cond_true,cond_false]
    unfold Xdj Xii
    simp only [hw,Option.bind_some,ho,Int.toNat_natCast,hrs,hq]
    by_cases q0:(XoW (Xj9 s)).2=0
    ·rw [show ((XoW (Xj9 s)).2==0)=true by simp [q0],cond_true,cond_true]
     cases q1:(XoW (Xj9 s)).1.Long
     ·rw [cond_false,cond_false,if_neg (by simp)]
      refine ⟨?_,by trivial⟩
      rw [Option.bind_some,←ev];rfl
     ·rw [cond_true,cond_true]
      by_cases q2:(XoW (Xj9 s)).1.SCID.length=8
      ·rw [show (((XoW (Xj9 s)).1.SCID.length:Int)==8)=true by simp [q2],cond_true,cond_true,if_pos ⟨q0,rfl,q2⟩]
       refine ⟨?_,by trivial⟩
       rw [Option.bind_some,←ev];rfl
      ·rw [show (((XoW (Xj9 s)).1.SCID.length:Int)==8)=false by rw [beq_eq_false_iff_ne];omega,cond_false,cond_false,if_neg (fun q=>q2 q.2.2)]
       refine ⟨?_,by trivial⟩
       rw [Option.bind_some,←ev];rfl
    ·rw [show ((XoW (Xj9 s)).2==0)=false by simp [q0],cond_false,cond_false,if_neg (fun q=>q0 q.1)]
     refine ⟨?_,by trivial⟩
     rw [Option.bind_some,←ev];rfl
  ·have c2:Xxq (XbG s).1.Tuple (XqJ x.T)=false:=by
    cases hh:Xxq (XbG s).1.Tuple (XqJ x.T)
    ·rfl
    ·exact absurd (XtC.1 hh) c1
   rw [c2,if_neg c1,Bool.not_false,cond_true,cond_true]
   exact ⟨rfl,rfl⟩
 ·rw [ne43 c0,cond_true,cond_true,if_pos c0]
  exact ⟨rfl,rfl⟩
theorem Xnr {x:Xar} (h:Xl9 x):Xao (Xks x)=some (x.Echo,x.ID,Xks x):=by
 unfold Xao Xgu
 rw [XpC h];rfl
def XuY (x:Xar) (n:Int):Xar:=⟨x.T,wI .u32 (x.Clock+n),x.Echo,x.ID⟩
theorem XNh {x:Xar} (h:Xl9 x) (n:Int):Xax (Xks x) n=some (Xks (XuY x n)):=by
 unfold Xax Xg9
 rw [XpC h];rfl
theorem XU6 (n:Int):0≤wI .u32 n∧wI .u32 n<4294967296:=by
 have:wI .u32 n=n%4294967296:=rfl
 omega
theorem XHl {x:Xar} (h:Xl9 x) (n:Int):Xl9 (XuY x n):=⟨h.src,h.dst,h.proto,XU6 _,h.echo,h.name⟩
end Go.Vm.Code
namespace Go.Vm
open Go
theorem XDi {α:Type} (l:List α) (sz:α→Nat) (K M:Nat) (hK:K<2^40) (step:Int→Option (Sum Int Bool))
 (hs:∀ i:Nat,step (i:Int)=if h:i<l.length then (if i<K then (if M<sz l[i] then some (.inr false) else some (.inl ((i+1:Nat):Int))) else some (.inr (decide (l.length≤K)))) else some (.inr (decide (l.length≤K)))) :
 iter step FUEL 0=some (decide (l.length≤K)&&(l.take K).all fun e=>decide (sz e≤M)):=by
 have key:=iter_eq (step:=step) (fun i:Int=>decide (l.length≤K)&&((l.take K).drop i.toNat).all fun e=>decide (sz e≤M)) (fun i=>0≤i∧i≤K) (fun i=>(K+1 - i.toNat)) ?_ FUEL 0 ⟨by omega,by omega⟩ (by rw [Xgx];omega)
 ·rw [key];simp
 rintro s ⟨h1,h2⟩
 obtain ⟨i,rfl⟩:=Int.eq_ofNat_of_zero_le h1
 rw [hs i]
 simp only [Int.toNat_natCast]
 by_cases c:i<l.length
 ·rw [dif_pos c]
  by_cases c2:i<K
  ·rw [if_pos c2]
   have hd:((l.take K).drop i)=l[i]::((l.take K).drop (i+1)):=by
    rw [List.drop_eq_getElem_cons (by rw [List.length_take];omega),List.getElem_take]
   by_cases c3:M<sz l[i]
   ·rw [if_pos c3,hd]
    refine .inl ?_
    rw [List.all_cons,decide_eq_false (show ¬ sz l[i]≤M by omega)];simp
   ·rw [if_neg c3,hd]
    refine .inr ⟨_,rfl,⟨by omega,by omega⟩,by omega,?_⟩
    rw [List.all_cons,decide_eq_true (show sz l[i]≤M by omega),Bool.true_and];rfl
  ·rw [if_neg c2]
   refine .inl ?_
   rw [List.drop_eq_nil_of_le (by rw [List.length_take];omega)];simp
 ·rw [dif_neg c]
  refine .inl ?_
  rw [List.drop_eq_nil_of_le (by rw [List.length_take];omega)];simp
end Go.Vm
namespace Go.Vm.Code
open Go Go.Vm Go.Proofs
set_option maxRecDepth 100000
set_option maxHeartbeats 4000000
set_option linter.unusedVariables false
def Xjm (l:List Xcd) (i:Int):Option (Sum Int Bool):=
 cond (decide (i<(l.length:Int)))
  (
  cond (decide (i<30))
   (
   Xbn (decide ((0:Int)≤i∧i<(l.length:Int))) <|
   (l[i.toNat]?).bind fun (e:Xcd)=>
   cond (decide ((e.S.length:Int)>300))
    (
    some (.inr (false)))
    (
    some (.inl (wI .i64 (i+1)))))
   (
   some (.inr (decide ((l.length:Int)≤30)))))
  (
  some (.inr (decide ((l.length:Int)≤30))))
def Xmj (l:List Xcd):Option Bool:=
 iter (fun st=>Xjm l st) FUEL 0
def XQN (x:Bool):XcS:=⟨.bool x,[],[none]⟩
abbrev Xfb:=(List Xcd)→Option Bool
def r31 (g:Xfb):Dec:=dSl 0 4 (unR 4 XjP) fun (y0:List Xcd)=>XdJ (ofG (g y0) XQN)
theorem r31_c {g:Xfb} {y0:List Xcd} {x:Bool} (hx:g y0=some x):r31 g [.slice (some ⟨0,0,none⟩) y0.length 4] [some (vT XeF y0)]=some (XQN x):=(XsB (XWs (by first|exact Xe7|exact Xcx|exact Xb2|exact Xdy|exact Xa1|exact Xc6|exact Xb8|exact XbN|exact Xdm|exact XfD|exact Xbp|exact XcQ|exact Xdc|exact Xb4|exact Xdw|exact XfH|exact XbX) (by decide) Xtr _)).trans (XaN hx)
def s31 (g:Xfb):Xbz:=⟨[.sl 4],r31 g⟩
theorem XUS {g:Xfb} {y0:List Xcd} {x:Bool} (hx:g y0=some x):(s31 g).run [.slice (some ⟨0,0,none⟩) y0.length 4] [some (vT XeF y0)]=some (XQN x):=r31_c hx
abbrev XIJ:List (Nat×Xbz):=[]
def Xnp (l:List Xcd) (i:Int):VM:=
 ⟨⟨31,24,[(0,.slice (some ⟨0,0,none⟩) l.length 4),(3,.int .i64 i)],[.code Xxr,.inLoop Xxr,.inBlock 0,.code XIS],[],false,none⟩,[],[(0,.row false (vT XeF l))],1⟩
theorem XCy (hS:Xaj Tryz.prog (XaI (XIJ))) (l:List Xcd) (res:Bool):∀ fuel (st:Int) (o:Bool),iter (fun st=>Xjm l st) fuel st=some o→(o=res) →
 XaJ Tryz.prog 31 1 (Xnp l st) (fun v H _=>Res 1 (XQN res) v H):=by
 intro fuel st o h hc
 refine XcX (head:=fun st=>Xnp l st) (C:=fun o=>(o=res)) ?_ fuel st o h hc
 clear h hc o st fuel
 intro i o h hc
 replace h:Xjm l i=some o:=h
 show XaJ Tryz.prog 31 1 (Xnp l i) (fun v H _=>Res 1 (XQN res) v H)
 unfold Xjm at h
 refine Xa7 XaE hS true 3000 ?_
 conv=>whnf
 refine br.h2 h (by rfl) ?_ ?_
 ·clear h;intro hb h;conv=>whnf
  exact W
 clear h;intro hb h;conv=>whnf
 refine br.h2 h (by rfl) ?_ ?_
 ·clear h;intro hb h;conv=>whnf
  exact W
 clear h;intro hb h;conv=>whnf
 replace h:=Xbn.elim h;obtain ⟨hb,h⟩:=h
 try (refine req.intro hb ?_;conv=>whnf)
 replace h:=XcR.elim h;obtain ⟨e,hy,h⟩:=h
 refine rd.T (j:=2) Xb2 hy (by first|omega|exact Nat.zero_add _|exact congrArg (·+_) (Nat.zero_add _)) (by decide) rfl ?_
 conv=>whnf
 refine br.h h (by rfl) ?_ ?_
 ·clear h;intro hb h;conv=>whnf
  exact W
 clear h;intro hb h;conv=>whnf
 cases h;simp only [Sum.elim_inl,Xnp] at hc
 exact Xkz hc [(0,0)] rfl
theorem XOx (hS:Xaj Tryz.prog (XaI (XIJ))) (l:List Xcd) (res:Bool) (h:Xmj l=some res) :
 XaJ Tryz.prog 31 1 ⟨⟨31,24,[(0,.slice (some ⟨0,0,none⟩) l.length 4)],[.code XIK],[],false,none⟩,[],[(0,.row false (vT XeF l))],1⟩ (fun v H _=>Res 1 (XQN res) v H):=by
 unfold Xmj at h
 refine Xa7 XaE hS true 3000 ?_
 conv=>whnf
 have hl:=XCy hS _ res _ _ _ h rfl;simp only [Xnp] at hl
 exact Xkz hl [(0,0)] rfl
def XdO:Xfb:=Xmj
theorem lift31:XbB Tryz.prog 31 (s31 XdO):=by
 have hL:=XOx (Xaj.XaK trivial)
 exact okA ⟨Tryz.f31,rfl,by decide,rfl⟩
def XlY (Xc5:XeS) (Xao:Xby) (Xax:XbI) (Xaw:Xbf) (Xaq:Xbe) (Xap:XaV) (Xaz:Xbr) (Xav:Xa8) (Xau:Xbv) (strings_Repeat:XbV) (Xbs:XcZ):Option Bool:=
 (Xbs (Xah.mk 6 (Xab.mk false 0 0) (Xab.mk false 0 0) 0 0)).bind fun xr=>
 cond (!xr)
  (
  (Xap).bind fun n=>
  (Xc5 n).bind fun p=>
  (Xbs (Xah.mk 7 (Xab.mk false 0 0) (Xab.mk false 0 0) 0 0)).bind fun xr1=>
  cond (!xr1)
   (
   (Xaw 1).bind fun n1=>
   (Xax (Xaa.mk (Xah.mk 0 (Xab.mk false 0 0) (Xab.mk false 0 0) 0 0) (Xbg.mk none none none) 0 0 []) 1).bind fun xg=>
   (Xav 0 []).bind fun n2=>
   (Xao xg).bind fun e=>
   some (false))
   (
   (strings_Repeat [0] 8).bind fun xr2=>
   (Xaw 1).bind fun n3=>
   (Xax (Xaa.mk (Xah.mk 0 (Xab.mk false 0 0) (Xab.mk false 0 0) 0 0) (Xbg.mk none none none) 0 0 []) 1).bind fun xg1=>
   (Xav 0 []).bind fun n4=>
   (Xao xg1).bind fun e1=>
   some (false)))
  (
  (strings_Repeat [0] 8).bind fun xr3=>
  (Xaq (Xaa.mk (Xah.mk 6 (Xab.mk false 0 0) (Xab.mk false 0 0) 0 0) (Xbg.mk (some 117) (some 120) (some 121)) 1 0 xr3)).bind fun xh=>
  (Xc5 xh.1).bind fun p1=>
  (Xbs (Xah.mk 7 (Xab.mk false 0 0) (Xab.mk false 0 0) 0 0)).bind fun xr4=>
  cond (!xr4)
   (
   (Xaw 1).bind fun n5=>
   (Xax (Xaa.mk (Xah.mk 0 (Xab.mk false 0 0) (Xab.mk false 0 0) 0 0) (Xbg.mk none none none) 0 0 []) 1).bind fun xg2=>
   (Xav 0 []).bind fun n6=>
   (Xao xg2).bind fun e2=>
   cond (p1.2==0)
    (
    cond (p1.1.Flags==2)
     (
     cond (n6.2==1)
      (
      (Xau e2.2.2 []).bind fun t=>
      cond (t.1==1)
       (
       (Xap).bind fun n7=>
       cond (n7==[])
        (
        cond (e2.1==0)
         (
         some (e2.2.1==[]))
         (
         some (false)))
        (
        some (false)))
       (
       some (false)))
      (
      some (false)))
     (
     some (false)))
    (
    some (false)))
   (
   (strings_Repeat [0] 8).bind fun xr5=>
   (Xaw 1).bind fun n8=>
   (Xax (Xaa.mk (Xah.mk 0 (Xab.mk false 0 0) (Xab.mk false 0 0) 0 0) (Xbg.mk none none none) 0 0 []) 1).bind fun xg3=>
   (Xav 0 []).bind fun n9=>
   (Xao xg3).bind fun e3=>
   cond (p1.2==0)
    (
    cond (p1.1.Flags==2)
     (
     cond (n9.2==1)
      (
      (Xau e3.2.2 []).bind fun t1=>
      cond (t1.1==1)
       (
       (Xap).bind fun n10=>
       cond (n10==[])
        (
        cond (e3.1==0)
         (
         some (e3.2.1==[]))
         (
         some (false)))
        (
        some (false)))
       (
       some (false)))
      (
      some (false)))
     (
     some (false)))
    (
    some (false))))
def rx32 (x:Bool):XcS:=⟨.bool x,[],[]⟩
abbrev Xdp:=Option Bool
def r32 (g:Xdp):Dec:=XdJ (ofG (g) rx32)
theorem r32_c {g:Xdp} {x:Bool} (hx:g=some x):r32 g [] []=some (rx32 x):=XaN hx
def s32 (g:Xdp):Xbz:=⟨[],r32 g⟩
theorem Xze {g:Xdp} {x:Bool} (hx:g=some x):(s32 g).run [] []=some (rx32 x):=r32_c hx
abbrev XS2 (Xc5:XeS) (Xao:Xby) (Xax:XbI) (Xaw:Xbf) (Xaq:Xbe) (Xap:XaV) (Xaz:Xbr) (Xav:Xa8) (Xau:Xbv) (strings_Repeat:XbV) (Xbs:XcZ):List (Nat×Xbz):=[(28,s28 Xc5),(42,s42 Xao),(41,s41 Xax Xaw),(35,s35 Xaq Xap),(37,s37 Xaz Xav),(39,s39 Xau),(68,s68 strings_Repeat),(67,s67 Xbs)]
theorem XPA (Xc5:XeS) (Xao:Xby) (Xax:XbI) (Xaw:Xbf) (Xaq:Xbe) (Xap:XaV) (Xaz:Xbr) (Xav:Xa8) (Xau:Xbv) (strings_Repeat:XbV) (Xbs:XcZ) (hS:Xaj Tryz.prog (XaI (XS2 Xc5 Xao Xax Xaw Xaq Xap Xaz Xav Xau strings_Repeat Xbs))) (res:Bool) (h:XlY Xc5 Xao Xax Xaw Xaq Xap Xaz Xav Xau strings_Repeat Xbs=some res) :
 XaJ Tryz.prog 32 0 ⟨⟨32,82,[],[.code XIr],[],false,none⟩,[],[],0⟩ (fun v H _=>Res 0 (rx32 res) v H):=by
 unfold XlY at h
 have R1:=@XIV Xbs
 have R2:=@XK4 Xaq Xap
 have R3:=@XIZ Xc5
 have R4:=@XOm Xax Xaw
 have R5:=@XIB Xax Xaw
 have R6:=@XMi Xaz Xav
 have R7:=@Xtc Xao
 have R8:=@XAQ strings_Repeat
 have R9:=@XIA Xaq Xap
 have R10:=@XHH Xau
 refine Xa7 XaE hS true 3000 ?_
 conv=>whnf
 exact W
def Xa4:Xdp:=XlY Xc5 Xao Xax Xaw Xaq Xap Xaz Xav Xau strings_Repeat Xbs
theorem lift32:XbB Tryz.prog 32 (s32 Xa4):=by
 have hL:=XPA Xc5 Xao Xax Xaw Xaq Xap Xaz Xav Xau strings_Repeat Xbs (Xaj.XaK ⟨XIx,XVU,XT4,XWI,XWl,XVF,XIn,XRT,trivial⟩)
 exact okA ⟨Tryz.f32,rfl,by decide,rfl⟩
def XcC (Xa4:Xdp) (l:List Xcd):Option (Sum Unit Bool):=
 cond (decide (0<(l.length:Int)))
  (
  (Xa4).bind fun a1=>
  some (.inr (a1)))
  (
  (Xa4).bind fun a2=>
  some (.inr (a2)))
def XdB (XaQ:Xcg) (Xbb:XcM) (XaX:Xcu) (Xao:Xby) (Xax:XbI) (Xaq:Xbe) (Xaz:Xbr) (Xau:Xbv) (Xa4:Xdp) (l:List Xcd) (i:Int) (c:Xaa) (x:Xar):Option (Sum (Int×Xaa×Xar) Bool):=
 cond (decide (i<(l.length:Int)))
  (
  Xbn (decide ((0:Int)≤i∧i<(l.length:Int))) <|
  (l[i.toNat]?).bind fun (e:Xcd)=>
  cond (e.Kind==0)
   (
   (Xaq c).bind fun xh=>
   (XaQ x).bind fun xh1=>
   cond (!(xh.1==xh1.1))
    (
    some (.inr (false)))
    (
    (Xao xh.2).bind fun e1=>
    cond (e1.1 !=xh1.2.Echo)
     (
     some (.inr (false)))
     (
     cond (!(e1.2.1==xh1.2.ID))
      (
      some (.inr (false)))
      (
      some (.inl (wI .i64 (i+1),e1.2.2,xh1.2))))))
   (
   cond (e.Kind==1)
    (
    Xbn (decide ((0:Int)≤i∧i<(l.length:Int))) <|
    Xbn (decide ((0:Int)≤i∧i<(l.length:Int))) <|
    (Xaz c e.Flags e.S).bind fun s=>
    Xbn (decide ((0:Int)≤i∧i<(l.length:Int))) <|
    Xbn (decide ((0:Int)≤i∧i<(l.length:Int))) <|
    (Xbb x e.Flags e.S).bind fun s1=>
    cond (!(s.1==s1.1))
     (
     some (.inr (false)))
     (
     cond (s.2.1 !=s1.2.1)
      (
      some (.inr (false)))
      (
      (Xao s.2.2).bind fun e2=>
      cond (e2.1 !=s1.2.2.Echo)
       (
       some (.inr (false)))
       (
       cond (!(e2.2.1==s1.2.2.ID))
        (
        some (.inr (false)))
        (
        some (.inl (wI .i64 (i+1),e2.2.2,s1.2.2)))))))
    (
    cond (e.Kind==2)
     (
     Xbn (decide ((0:Int)≤i∧i<(l.length:Int))) <|
     (Xau c e.S).bind fun t1=>
     Xbn (decide ((0:Int)≤i∧i<(l.length:Int))) <|
     (XaX x e.S).bind fun t2=>
     cond (t1.1 !=t2.1)
      (
      some (.inr (false)))
      (
      (Xao t1.2).bind fun e3=>
      cond (e3.1 !=t2.2.Echo)
       (
       some (.inr (false)))
       (
       cond (!(e3.2.1==t2.2.ID))
        (
        some (.inr (false)))
        (
        some (.inl (wI .i64 (i+1),e3.2.2,t2.2))))))
     (
     Xbn (decide ((0:Int)≤i∧i<(l.length:Int))) <|
     (Xax c e.N).bind fun xg=>
     Xbn (decide ((0:Int)≤i∧i<(l.length:Int))) <|
     (Xao xg).bind fun e4=>
     cond (e4.1 !=x.Echo)
      (
      some (.inr (false)))
      (
      cond (!(e4.2.1==x.ID))
       (
       some (.inr (false)))
       (
       some (.inl (wI .i64 (i+1),e4.2.2,Xar.mk x.T (wI .u32 (x.Clock+e.N)) x.Echo x.ID))))))))
  (
  (Xa4).bind fun a3=>
  some (.inr (a3)))
def XgO (Xc7:Xe9) (XaQ:Xcg) (Xbb:XcM) (XaX:Xcu) (Xds:Xfe) (Xao:Xby) (Xax:XbI) (Xaw:Xbf) (Xaq:Xbe) (Xap:XaV) (Xaz:Xbr) (Xav:Xa8) (Xau:Xbv) (Xa4:Xdp) (XdO:Xfb) (strings_Repeat:XbV) (Xbs:XcZ) (t:Xah) (l:List Xcd):Option Bool:=
 (XdO l).bind fun f=>
 cond (!f)
  (
  (Xa4).bind fun a=>
  some (a))
  (
  (Xbs t).bind fun xr=>
  cond (!xr)
   (
   (Xc7 t).bind fun xr1=>
   cond (!xr1)
    (
    iter (fun _=>XcC Xa4 l) FUEL ())
    (
    cond (t.Proto !=6)
     (
     cond (t.Proto !=17)
      (
      iter (fun _=>XcC Xa4 l) FUEL ())
      (
      (Xds).bind fun n=>
      some (false)))
     (
     (Xds).bind fun n1=>
     some (false))))
   (
   (strings_Repeat [0] 8).bind fun xr2=>
   cond (t.Proto==6)
    (
    (Xc7 t).bind fun xr3=>
    cond (!xr3)
     (
     some (false))
     (
     (Xds).bind fun n2=>
     iter (fun st=>XdB XaQ Xbb XaX Xao Xax Xaq Xaz Xau Xa4 l st.1 st.2.1 st.2.2) FUEL (0,Xaa.mk t (Xbg.mk (some 117) (some 120) (some 121)) 1 0 xr2,Xar.mk t 1 0 n2)))
    (
    cond (t.Proto==17)
     (
     (Xc7 t).bind fun xr4=>
     cond (!xr4)
      (
      some (false))
      (
      (Xds).bind fun n3=>
      iter (fun st=>XdB XaQ Xbb XaX Xao Xax Xaq Xaz Xau Xa4 l st.1 st.2.1 st.2.2) FUEL (0,Xaa.mk t (Xbg.mk (some 122) (some 124) (some 125)) 1 0 xr2,Xar.mk t 1 0 n3)))
     (
     (Xc7 t).bind fun xr5=>
     cond (!xr5)
      (
      iter (fun _=>XcC Xa4 l) FUEL ())
      (
      iter (fun _=>XcC Xa4 l) FUEL ())))))
def rx6 (x:Bool):XcS:=⟨.bool x,[],[none]⟩
abbrev Xjz:=Xah→(List Xcd)→Option Bool
def r6 (g:Xjz):Dec:=dV Xd0 fun (y0:Xah)=>dSl 0 4 (unR 4 XjP) fun (y1:List Xcd)=>XdJ (ofG (g y0 y1) rx6)
abbrev XLY (Xc7:Xe9) (XaQ:Xcg) (Xbb:XcM) (XaX:Xcu) (Xds:Xfe) (Xao:Xby) (Xax:XbI) (Xaw:Xbf) (Xaq:Xbe) (Xap:XaV) (Xaz:Xbr) (Xav:Xa8) (Xau:Xbv) (Xa4:Xdp) (XdO:Xfb) (strings_Repeat:XbV) (Xbs:XcZ):List (Nat×Xbz):=[(23,s23 Xc7),(36,s36 XaQ),(38,s38 Xbb),(40,s40 XaX),(71,s71 Xds),(42,s42 Xao),(41,s41 Xax Xaw),(35,s35 Xaq Xap),(37,s37 Xaz Xav),(39,s39 Xau),(32,s32 Xa4),(31,s31 XdO),(68,s68 strings_Repeat),(67,s67 Xbs)]
def XmY (l:List Xcd):VM:=
 ⟨⟨6,157,[(1,.slice (some ⟨0,0,none⟩) l.length 4),(5,.pointer none),(7,.pointer none),(8,.int .i64 0)],[.code Xya,.inLoop Xya,.inBlock 0,.code XQD],[],false,none⟩,[],[(0,.row false (vT XeF l))],4⟩
def Xld (l:List Xcd) (i:Int) (c:Xaa) (x:Xar):VM:=
 ⟨⟨6,157,[(1,.slice (some ⟨0,0,none⟩) l.length 4),(5,.pointer (some ⟨5,0,none⟩)),(7,.pointer (some ⟨10,0,none⟩)),(8,.int .i64 i)],[.code Xya,.inLoop Xya,.inBlock 0,.code XQD],[],false,none⟩,[],[(0,.row false (vT XeF l)),(5,.cells [.int .i64 c.t.Proto,.bool c.t.Src.V6,.int .u64 c.t.Src.Hi,.int .u64 c.t.Src.Lo,.bool c.t.Dst.V6,.int .u64 c.t.Dst.Hi,.int .u64 c.t.Dst.Lo,.int .i64 c.t.SPort,.int .i64 c.t.DPort,fvV c.v_.hello,fvV c.v_.say,fvV c.v_.hear,.int .u32 c.clock,.int .u32 c.echo,.string ⟨⟨c.id_⟩⟩]),(10,.cells [.int .i64 x.T.Proto,.bool x.T.Src.V6,.int .u64 x.T.Src.Hi,.int .u64 x.T.Src.Lo,.bool x.T.Dst.V6,.int .u64 x.T.Dst.Hi,.int .u64 x.T.Dst.Lo,.int .i64 x.T.SPort,.int .i64 x.T.DPort,.int .u32 x.Clock,.int .u32 x.Echo,.string ⟨⟨x.ID⟩⟩])],11⟩
theorem Xr5 (Xc7:Xe9) (XaQ:Xcg) (Xbb:XcM) (XaX:Xcu) (Xds:Xfe) (Xao:Xby) (Xax:XbI) (Xaw:Xbf) (Xaq:Xbe) (Xap:XaV) (Xaz:Xbr) (Xav:Xa8) (Xau:Xbv) (Xa4:Xdp) (XdO:Xfb) (strings_Repeat:XbV) (Xbs:XcZ) (hS:Xaj Tryz.prog (XaI (XLY Xc7 XaQ Xbb XaX Xds Xao Xax Xaw Xaq Xap Xaz Xav Xau Xa4 XdO strings_Repeat Xbs))) (l:List Xcd) (res:Bool):∀ fuel (st:Unit) (o:Bool),iter (fun _=>XcC Xa4 l) fuel st=some o→(o=res) →
 XaJ Tryz.prog 6 1 (XmY l ) (fun v H _=>Res 1 (rx6 res) v H):=by
 intro fuel st o h hc
 refine XcX (head:=fun st=>XmY l ) (C:=fun o=>(o=res)) ?_ fuel st o h hc
 clear h hc o st fuel
 intro st o h hc
 replace h:XcC Xa4 l=some o:=h
 show XaJ Tryz.prog 6 1 (XmY l ) (fun v H _=>Res 1 (rx6 res) v H)
 unfold XcC at h
 have R1:=@Xze Xa4
 refine Xa7 XaE hS true 3000 ?_
 conv=>whnf
 exact W
theorem XzI (Xc7:Xe9) (XaQ:Xcg) (Xbb:XcM) (XaX:Xcu) (Xds:Xfe) (Xao:Xby) (Xax:XbI) (Xaw:Xbf) (Xaq:Xbe) (Xap:XaV) (Xaz:Xbr) (Xav:Xa8) (Xau:Xbv) (Xa4:Xdp) (XdO:Xfb) (strings_Repeat:XbV) (Xbs:XcZ) (hS:Xaj Tryz.prog (XaI (XLY Xc7 XaQ Xbb XaX Xds Xao Xax Xaw Xaq Xap Xaz Xav Xau Xa4 XdO strings_Repeat Xbs))) (l:List Xcd) (res:Bool):∀ fuel (st:Int×Xaa×Xar) (o:Bool),iter (fun st=>XdB XaQ Xbb XaX Xao Xax Xaq Xaz Xau Xa4 l st.1 st.2.1 st.2.2) fuel st=some o→(o=res) →
 XaJ Tryz.prog 6 1 (Xld l st.1 st.2.1 st.2.2) (fun v H _=>Res 1 (rx6 res) v H):=by
 intro fuel st o h hc
 refine XcX (head:=fun st=>Xld l st.1 st.2.1 st.2.2) (C:=fun o=>(o=res)) ?_ fuel st o h hc
 clear h hc o st fuel
 intro st o h hc
 obtain ⟨i,c,x⟩:=st
 replace h:XdB XaQ Xbb XaX Xao Xax Xaq Xaz Xau Xa4 l i c x=some o:=h
 show XaJ Tryz.prog 6 1 (Xld l i c x) (fun v H _=>Res 1 (rx6 res) v H)
 unfold XdB at h
 have R1:=@Xze Xa4
 refine Xa7 XaE hS true 3000 ?_
 conv=>whnf
 refine br.h2 h (by rfl) ?_ ?_
 ·clear h;intro hb h;conv=>whnf
  exact W
 clear h;intro hb h;conv=>whnf
 replace h:=Xbn.elim h;obtain ⟨hb,h⟩:=h
 try (refine req.intro hb ?_;conv=>whnf)
 replace h:=XcR.elim h;obtain ⟨e,hy,h⟩:=h
 refine rd.T (j:=0) Xb2 hy (by first|omega|exact Nat.zero_add _|exact congrArg (·+_) (Nat.zero_add _)) (by decide) rfl ?_
 conv=>whnf
 refine br.h h (by rfl) ?_ ?_
 ·clear h;intro hb h;conv=>whnf
  replace h:=XcR.elim h;obtain ⟨xh,hy,h⟩:=h
  refine Xgw.a (XIA hy) ?_
  conv=>whnf
  replace h:=XcR.elim h;obtain ⟨xh1,hy,h⟩:=h
  refine Xgw.a (XUo hy) ?_
  conv=>whnf
  refine br.h h (by rfl) ?_ ?_
  ·clear h;intro hb h;conv=>whnf
   exact W
  clear h;intro hb h;conv=>whnf
  replace h:=XcR.elim h;obtain ⟨e1,hy,h⟩:=h
  refine Xgw.a (Xtc hy) ?_
  conv=>whnf
  refine br.h h (by rfl) ?_ ?_
  ·clear h;intro hb h;conv=>whnf
   exact W
  clear h;intro hb h;conv=>whnf
  refine br.h h (by rfl) ?_ ?_
  ·clear h;intro hb h;conv=>whnf
   exact W
  clear h;intro hb h;conv=>whnf
  cases h;simp only [Sum.elim_inl,Xld] at hc
  exact Xkz hc [(0,0),(5,5),(10,10)] rfl
 clear h;intro hb h;conv=>whnf
 refine br.h h (by rfl) ?_ ?_
 ·clear h;intro hb h;conv=>whnf
  replace h:=Xbn.elim h;obtain ⟨hb,h⟩:=h
  try (refine req.intro hb ?_;conv=>whnf)
  refine rd.T (i:=i.toNat) (x:=e) (j:=1) Xb2 (by assumption) (by first|omega|exact Nat.zero_add _|exact congrArg (·+_) (Nat.zero_add _)) (by decide) rfl ?_
  conv=>whnf
  replace h:=Xbn.elim h;obtain ⟨hb,h⟩:=h
  try (refine req.intro hb ?_;conv=>whnf)
  refine rd.T (i:=i.toNat) (x:=e) (j:=2) Xb2 (by assumption) (by first|omega|exact Nat.zero_add _|exact congrArg (·+_) (Nat.zero_add _)) (by decide) rfl ?_
  conv=>whnf
  replace h:=XcR.elim h;obtain ⟨s,hy,h⟩:=h
  refine Xgw.a (XUO hy) ?_
  conv=>whnf
  replace h:=Xbn.elim h;obtain ⟨hb,h⟩:=h
  try (refine req.intro hb ?_;conv=>whnf)
  refine rd.T (i:=i.toNat) (x:=e) (j:=1) Xb2 (by assumption) (by first|omega|exact Nat.zero_add _|exact congrArg (·+_) (Nat.zero_add _)) (by decide) rfl ?_
  conv=>whnf
  replace h:=Xbn.elim h;obtain ⟨hb,h⟩:=h
  try (refine req.intro hb ?_;conv=>whnf)
  refine rd.T (i:=i.toNat) (x:=e) (j:=2) Xb2 (by assumption) (by first|omega|exact Nat.zero_add _|exact congrArg (·+_) (Nat.zero_add _)) (by decide) rfl ?_
  conv=>whnf
  replace h:=XcR.elim h;obtain ⟨s1,hy,h⟩:=h
  refine Xgw.a (XWr hy) ?_
  conv=>whnf
  refine br.h h (by rfl) ?_ ?_
  ·clear h;intro hb h;conv=>whnf
   exact W
  clear h;intro hb h;conv=>whnf
  refine br.h h (by rfl) ?_ ?_
  ·clear h;intro hb h;conv=>whnf
   exact W
  clear h;intro hb h;conv=>whnf
  replace h:=XcR.elim h;obtain ⟨e2,hy,h⟩:=h
  refine Xgw.a (Xtc hy) ?_
  conv=>whnf
  refine br.h h (by rfl) ?_ ?_
  ·clear h;intro hb h;conv=>whnf
   exact W
  clear h;intro hb h;conv=>whnf
  refine br.h h (by rfl) ?_ ?_
  ·clear h;intro hb h;conv=>whnf
   exact W
  clear h;intro hb h;conv=>whnf
  cases h;simp only [Sum.elim_inl,Xld] at hc
  exact Xkz hc [(0,0),(5,5),(10,10)] rfl
 clear h;intro hb h;conv=>whnf
 refine br.h2 h (by rfl) ?_ ?_
 ·clear h;intro hb h;conv=>whnf
  replace h:=Xbn.elim h;obtain ⟨hb,h⟩:=h
  try (refine req.intro hb ?_;conv=>whnf)
  refine rd.T (i:=i.toNat) (x:=e) (j:=3) Xb2 (by assumption) (by first|omega|exact Nat.zero_add _|exact congrArg (·+_) (Nat.zero_add _)) (by decide) rfl ?_
  conv=>whnf
  replace h:=XcR.elim h;obtain ⟨xg,hy,h⟩:=h
  refine Xgw.a (XIB hy) ?_
  conv=>whnf
  replace h:=Xbn.elim h;obtain ⟨hb,h⟩:=h
  try (refine req.intro hb ?_;conv=>whnf)
  refine rd.T (i:=i.toNat) (x:=e) (j:=3) Xb2 (by assumption) (by first|omega|exact Nat.zero_add _|exact congrArg (·+_) (Nat.zero_add _)) (by decide) rfl ?_
  conv=>whnf
  replace h:=XcR.elim h;obtain ⟨e4,hy,h⟩:=h
  refine Xgw.a (Xtc hy) ?_
  conv=>whnf
  refine br.h h (by rfl) ?_ ?_
  ·clear h;intro hb h;conv=>whnf
   exact W
  clear h;intro hb h;conv=>whnf
  refine br.h h (by rfl) ?_ ?_
  ·clear h;intro hb h;conv=>whnf
   exact W
  clear h;intro hb h;conv=>whnf
  cases h;simp only [Sum.elim_inl,Xld] at hc
  exact Xkz hc [(0,0),(5,5),(10,10)] rfl
 clear h;intro hb h;conv=>whnf
 replace h:=Xbn.elim h;obtain ⟨hb,h⟩:=h
 try (refine req.intro hb ?_;conv=>whnf)
 refine rd.T (i:=i.toNat) (x:=e) (j:=2) Xb2 (by assumption) (by first|omega|exact Nat.zero_add _|exact congrArg (·+_) (Nat.zero_add _)) (by decide) rfl ?_
 conv=>whnf
 replace h:=XcR.elim h;obtain ⟨t1,hy,h⟩:=h
 refine Xgw.a (XHH hy) ?_
 conv=>whnf
 replace h:=Xbn.elim h;obtain ⟨hb,h⟩:=h
 try (refine req.intro hb ?_;conv=>whnf)
 refine rd.T (i:=i.toNat) (x:=e) (j:=2) Xb2 (by assumption) (by first|omega|exact Nat.zero_add _|exact congrArg (·+_) (Nat.zero_add _)) (by decide) rfl ?_
 conv=>whnf
 replace h:=XcR.elim h;obtain ⟨t2,hy,h⟩:=h
 refine Xgw.a (XRQ hy) ?_
 conv=>whnf
 refine br.h h (by rfl) ?_ ?_
 ·clear h;intro hb h;conv=>whnf
  exact W
 clear h;intro hb h;conv=>whnf
 replace h:=XcR.elim h;obtain ⟨e3,hy,h⟩:=h
 refine Xgw.a (Xtc hy) ?_
 conv=>whnf
 refine br.h h (by rfl) ?_ ?_
 ·clear h;intro hb h;conv=>whnf
  exact W
 clear h;intro hb h;conv=>whnf
 refine br.h h (by rfl) ?_ ?_
 ·clear h;intro hb h;conv=>whnf
  exact W
 clear h;intro hb h;conv=>whnf
 cases h;simp only [Sum.elim_inl,Xld] at hc
 exact Xkz hc [(0,0),(5,5),(10,10)] rfl
theorem leads6 (Xc7:Xe9) (XaQ:Xcg) (Xbb:XcM) (XaX:Xcu) (Xds:Xfe) (Xao:Xby) (Xax:XbI) (Xaw:Xbf) (Xaq:Xbe) (Xap:XaV) (Xaz:Xbr) (Xav:Xa8) (Xau:Xbv) (Xa4:Xdp) (XdO:Xfb) (strings_Repeat:XbV) (Xbs:XcZ) (hS:Xaj Tryz.prog (XaI (XLY Xc7 XaQ Xbb XaX Xds Xao Xax Xaw Xaq Xap Xaz Xav Xau Xa4 XdO strings_Repeat Xbs))) (t:Xah) (l:List Xcd) (res:Bool) (h:XgO Xc7 XaQ Xbb XaX Xds Xao Xax Xaw Xaq Xap Xaz Xav Xau Xa4 XdO strings_Repeat Xbs t l=some res) :
 XaJ Tryz.prog 6 1 ⟨⟨6,157,[(0,.agg ⟨[.int .i64 t.Proto,.bool t.Src.V6,.int .u64 t.Src.Hi,.int .u64 t.Src.Lo,.bool t.Dst.V6,.int .u64 t.Dst.Hi,.int .u64 t.Dst.Lo,.int .i64 t.SPort,.int .i64 t.DPort]⟩),(1,.slice (some ⟨0,0,none⟩) l.length 4)],[.code XVP],[],false,none⟩,[],[(0,.row false (vT XeF l))],1⟩ (fun v H _=>Res 1 (rx6 res) v H):=by
 unfold XgO at h
 have R1:=@Xze Xa4
 have R2:=@Xvv Xds
 refine Xa7 XaE hS true 3000 ?_
 conv=>whnf
 replace h:=XcR.elim h;obtain ⟨f,hy,h⟩:=h
 refine Xgw.a (XUS hy) ?_
 conv=>whnf
 refine br.h h (by rfl) ?_ ?_
 ·clear h;intro hb h;conv=>whnf
  exact W
 clear h;intro hb h;conv=>whnf
 replace h:=XcR.elim h;obtain ⟨xr,hy,h⟩:=h
 refine Xgw.a (XIV hy) ?_
 conv=>whnf
 refine br.h h (by rfl) ?_ ?_
 ·clear h;intro hb h;conv=>whnf
  replace h:=XcR.elim h;obtain ⟨xr1,hy,h⟩:=h
  refine Xgw.a (Xvp hy) ?_
  conv=>whnf
  refine br.h h (by rfl) ?_ ?_
  ·clear h;intro hb h;conv=>whnf
   have hl:=Xr5 Xc7 XaQ Xbb XaX Xds Xao Xax Xaw Xaq Xap Xaz Xav Xau Xa4 XdO strings_Repeat Xbs hS _ res _ _ _ h rfl;simp only [XmY] at hl
   exact Xkz hl [(0,0)] rfl
  clear h;intro hb h;conv=>whnf
  refine br.h2 h (by rfl) ?_ ?_
  ·clear h;intro hb h;conv=>whnf
   exact W
  clear h;intro hb h;conv=>whnf
  refine br.h h (by rfl) ?_ ?_
  ·clear h;intro hb h;conv=>whnf
   have hl:=Xr5 Xc7 XaQ Xbb XaX Xds Xao Xax Xaw Xaq Xap Xaz Xav Xau Xa4 XdO strings_Repeat Xbs hS _ res _ _ _ h rfl;simp only [XmY] at hl
   exact Xkz hl [(0,0)] rfl
  clear h;intro hb h;conv=>whnf
  exact W
 clear h;intro hb h;conv=>whnf
 replace h:=XcR.elim h;obtain ⟨xr2,hy,h⟩:=h
 refine Xgw.a (XAQ hy) ?_
 conv=>whnf
 refine br.h h (by rfl) ?_ ?_
 ·clear h;intro hb h;conv=>whnf
  replace h:=XcR.elim h;obtain ⟨xr3,hy,h⟩:=h
  refine Xgw.a (Xvp hy) ?_
  conv=>whnf
  refine br.h h (by rfl) ?_ ?_
  ·clear h;intro hb h;conv=>whnf
   exact W
  clear h;intro hb h;conv=>whnf
  refine br.neg ?_ ?_;(focus (clear h;first|assumption|(simp_all;done)))
  conv=>whnf
  replace h:=XcR.elim h;obtain ⟨n2,hy,h⟩:=h
  refine Xgw.a (Xvv hy) ?_
  conv=>whnf
  have hl:=XzI Xc7 XaQ Xbb XaX Xds Xao Xax Xaw Xaq Xap Xaz Xav Xau Xa4 XdO strings_Repeat Xbs hS _ res _ _ _ h rfl;simp only [Xld] at hl
  exact Xkz hl [(0,0),(5,5),(10,10)] rfl
 clear h;intro hb h;conv=>whnf
 refine br.h2 h (by rfl) ?_ ?_
 ·clear h;intro hb h;conv=>whnf
  replace h:=XcR.elim h;obtain ⟨xr5,hy,h⟩:=h
  refine Xgw.a (Xvp hy) ?_
  conv=>whnf
  refine br.h h (by rfl) ?_ ?_
  ·clear h;intro hb h;conv=>whnf
   have hl:=Xr5 Xc7 XaQ Xbb XaX Xds Xao Xax Xaw Xaq Xap Xaz Xav Xau Xa4 XdO strings_Repeat Xbs hS _ res _ _ _ h rfl;simp only [XmY] at hl
   exact Xkz hl [(0,0)] rfl
  clear h;intro hb h;conv=>whnf
  refine br.pos ?_ ?_;(focus (clear h;first|assumption|(simp_all;done)))
  conv=>whnf
  refine br.pos ?_ ?_;(focus (clear h;first|assumption|(simp_all;done)))
  conv=>whnf
  have hl:=Xr5 Xc7 XaQ Xbb XaX Xds Xao Xax Xaw Xaq Xap Xaz Xav Xau Xa4 XdO strings_Repeat Xbs hS _ res _ _ _ h rfl;simp only [XmY] at hl
  exact Xkz hl [(0,0)] rfl
 clear h;intro hb h;conv=>whnf
 replace h:=XcR.elim h;obtain ⟨xr4,hy,h⟩:=h
 refine Xgw.a (Xvp hy) ?_
 conv=>whnf
 refine br.h h (by rfl) ?_ ?_
 ·clear h;intro hb h;conv=>whnf
  exact W
 clear h;intro hb h;conv=>whnf
 refine br.pos ?_ ?_;(focus (clear h;first|assumption|(simp_all;done)))
 conv=>whnf
 refine br.neg ?_ ?_;(focus (clear h;first|assumption|(simp_all;done)))
 conv=>whnf
 replace h:=XcR.elim h;obtain ⟨n3,hy,h⟩:=h
 refine Xgw.a (Xvv hy) ?_
 conv=>whnf
 have hl:=XzI Xc7 XaQ Xbb XaX Xds Xao Xax Xaw Xaq Xap Xaz Xav Xau Xa4 XdO strings_Repeat Xbs hS _ res _ _ _ h rfl;simp only [Xld] at hl
 exact Xkz hl [(0,0),(5,5),(10,10)] rfl
def XkH:Xjz:=XgO Xc7 XaQ Xbb XaX Xds Xao Xax Xaw Xaq Xap Xaz Xav Xau Xa4 XdO strings_Repeat Xbs
end Go.Vm.Code
namespace Go.Vm.Code
open Go Go.Vm
theorem Xuc:Xa4=some true:=by decide +kernel
theorem few43 (l:List Xcd):XdO l=some (decide (l.length≤30)&&(l.take 30).all fun e=>decide (e.S.length≤300)):=by
 unfold XdO Xmj
 refine XDi l (fun e=>e.S.length) 30 300 (by decide) _ fun i=>?_
 unfold Xjm
 by_cases c:i<l.length
 ·rw [dif_pos c,XaW (by omega)]
  by_cases c2:i<30
  ·rw [if_pos c2,XaW (by omega),XaA (by omega),Int.toNat_natCast,List.getElem?_eq_getElem c,Option.bind_some,Xed (by omega) (by omega)]
   by_cases c3:300<(l[i]).S.length
   ·rw [XaW (by omega),if_pos c3]
   ·rw [XaO (by omega),if_neg c3];rfl
  ·rw [if_neg c2,XaO (by omega)]
   congr 3;exact propext (by omega)
 ·rw [dif_neg c,XaO (by omega)]
  congr 3;exact propext (by omega)
theorem XWV {t:Xah} (h1:A4 t.Src) (h2:A4 t.Dst) (hp:t.Proto=6∨t.Proto=17):Xl9 ⟨t,1,0,Xrq⟩:=⟨h1,h2,hp,by simp only [];omega,by simp only [];omega,rfl⟩
theorem Xzj {l:List Xcd} (hl:l.length≤30) (hs:∀ e∈l,e.S.length≤300) {x:Xar} (hx:Xl9 x) :
 iter (fun st=>XdB XaQ Xbb XaX Xao Xax Xaq Xaz Xau Xa4 l st.1 st.2.1 st.2.2) FUEL (0,Xks x,x)=some true:=by
 refine iter_eq (fun _=>true) (fun st:Int×Xaa×Xar=>∃ (y:Xar) (i:Nat),Xl9 y∧i≤l.length∧st=((i:Int),Xks y,y)) (fun st=>l.length+1 - st.1.toNat) ?_ FUEL _ ⟨x,0,hx,by omega,rfl⟩ (by rw [Xgx];simp only [];omega)
 rintro st ⟨y,i,hy,hi,rfl⟩
 simp only []
 unfold XdB
 by_cases c:i<l.length
 ·have ho:∀ {α:Type} (z:Option α),Xbn (decide ((0:Int)≤(i:Int)∧(i:Int)<(l.length:Int))) z=z:=fun z=>XaA (by omega)
  have hS:=hs _ (List.getElem_mem c)
  have hw:wI .i64 ((i:Int)+1)=((i+1:Nat):Int):=by rw [Xed (by omega) (by omega)];rfl
  have done:∀ z,Xl9 z→∃ st',some (.inl (((i+1:Nat):Int),Xks z,z):Sum (Int×Xaa×Xar) Bool)=some (.inl st')∧(∃ (y:Xar) (i:Nat),Xl9 y∧i≤l.length∧st'=((i:Int),Xks y,y))∧l.length+1 - st'.1.toNat<l.length+1 - i∧True:=fun z hz=>
   ⟨_,rfl,⟨z,i+1,hz,by omega,rfl⟩,by simp only [];omega,trivial⟩
  rw [XaW (by omega)]
  simp only [ho,Int.toNat_natCast,List.getElem?_eq_getElem c,Option.bind_some,hw]
  generalize l[i]=e at hS
  refine .inr ?_
  by_cases k0:e.Kind=0
  ·rw [show (e.Kind==0)=true by simp [k0],cond_true]
   simp only [(XqV hy).1,(XqV hy).2,Option.bind_some,Xnr hy,beq_self_eq_true,Bool.not_true,cond_false,bne_self_eq_false]
   exact done y hy
  ·rw [show (e.Kind==0)=false by simp [k0],cond_false]
   by_cases k1:e.Kind=1
   ·rw [show (e.Kind==1)=true by simp [k1],cond_true]
    have hsay:=XD8 hy (f:=e.Flags) (l:=e.S) (by omega)
    simp only [hsay.1,hsay.2,Option.bind_some,Xnr hy,beq_self_eq_true,Bool.not_true,cond_false,bne_self_eq_false]
    exact done y hy
   ·rw [show (e.Kind==1)=false by simp [k1],cond_false]
    by_cases k2:e.Kind=2
    ·rw [show (e.Kind==2)=true by simp [k2],cond_true]
     have htk:=Xy0 hy (s:=e.S) (by omega)
     have hf:=XCG hy e.S
     simp only [htk.1,htk.2,Option.bind_some,Xnr hf,beq_self_eq_true,Bool.not_true,cond_false,bne_self_eq_false]
     exact done _ hf
    ·rw [show (e.Kind==2)=false by simp [k2],cond_false]
     have hf:=XHl hy e.N
     simp only [XNh hy,Option.bind_some,Xnr hf]
     rw [show (XuY y e.N).Echo=y.Echo from rfl,show (XuY y e.N).ID=y.ID from rfl]
     simp only [beq_self_eq_true,Bool.not_true,cond_false,bne_self_eq_false]
     exact done _ hf
 ·rw [XaO (by omega),Xuc]
  exact .inl rfl
theorem XV9 (l:List Xcd):iter (fun _=>XcC Xa4 l) FUEL ()=some true:=by
 refine iter_eq (fun _=>true) (fun _=>True) (fun _=>0) (fun _ _=>.inl ?_) FUEL () trivial (by rw [Xgx];omega)
 unfold XcC
 rw [Xuc]
 cases decide (0<(l.length:Int))<;>rfl
theorem clientPlays (t:Xah) (l:List Xcd) (h1:A4 t.Src) (h2:A4 t.Dst):XkH t l=some true:=by
 unfold XkH XgO
 rw [few43,Option.bind_some,XA1,Xw2,XV9]
 cases hf:(decide (l.length≤30)&&(l.take 30).all fun e=>decide (e.S.length≤300))
 ·rw [Xuc];rfl
 simp only [Bool.and_eq_true,decide_eq_true_eq] at hf
 obtain ⟨hl,ha⟩:=hf
 rw [List.take_of_length_le hl] at ha
 have hs:∀ e∈l,e.S.length≤300:=fun e he=>of_decide_eq_true (List.all_eq_true.1 ha e he)
 rw [Bool.not_true,cond_false,Option.bind_some,Option.bind_some]
 have p6:t.Proto=6→(Xbg.mk (some 117) (some 120) (some 121))=Xiy t.Proto:=fun e=>by simp [Xiy,e]
 have p17:t.Proto=17→(Xbg.mk (some 122) (some 124) (some 125))=Xiy t.Proto:=fun e=>by simp [Xiy,e]
 cases ht:XRM t
 ·rw [Bool.not_false,cond_true];rfl
 ·rw [Bool.not_true,cond_false,XR0,XvF]
  simp only [Option.bind_some,Bool.not_true,cond_false]
  by_cases c6:t.Proto=6
  ·rw [show (t.Proto==6)=true by simp [c6],cond_true,p6 c6]
   have hp:=Xzj hl hs (XWV h1 h2 (.inl c6))
   rw [show Xks ⟨t,1,0,Xrq⟩=⟨t,Xiy t.Proto,1,0,Xrq⟩ from rfl] at hp
   rw [hp]
  ·rw [show (t.Proto==6)=false by simp [c6],cond_false]
   by_cases c17:t.Proto=17
   ·rw [show (t.Proto==17)=true by simp [c17],cond_true,p17 c17]
    have hp:=Xzj hl hs (XWV h1 h2 (.inr c17))
    rw [show Xks ⟨t,1,0,Xrq⟩=⟨t,Xiy t.Proto,1,0,Xrq⟩ from rfl] at hp
    rw [hp]
   ·rw [show (t.Proto==17)=false by simp [c17],cond_false]
end Go.Vm.Code
