import Derived.Test.YtdnbalelfakjhaaGreatNPacketTellsd
namespace Go.Vm.Code
open Go Go.Vm Go.Proofs
set_option maxRecDepth 100000
set_option maxHeartbeats 4000000
set_option linter.unusedVariables false
def Xgx (XbC:(List UInt8)→Option (Xaa×Bool)) (XaA:(List UInt8)→Option Xab) (Xae:Xab→Option (Bool×Xab)) (Xad:Xab→Int→Option (Int×Xab)) (Xac:Xab→Int→Option ((List UInt8)×Xab)) (s:List UInt8):Option (Xaj×(List UInt8)×Int):=
 (XaA s).bind fun n=>
 (Xad n 4).bind fun n1=>
 (Xad n1.2 2).bind fun n2=>
 (Xad n2.2 1).bind fun n3=>
 (Xad n3.2 1).bind fun n4=>
 (Xac n4.2 16).bind fun t=>
 (Xac t.2 16).bind fun t1=>
 (Xae t1.2).bind fun b=>
 cond (b.1)
  (
  some ((Xaj.mk 0 0 0 0 (Xaa.mk false 0 0) (Xaa.mk false 0 0),[],2)))
  (
  cond ((n1.1.fdiv (2^28)) !=6)
   (
   some ((Xaj.mk 0 0 0 0 (Xaa.mk false 0 0) (Xaa.mk false 0 0),[],3)))
   (
   (XbC t.1).bind fun xg=>
   (XbC t1.1).bind fun xg1=>
   (Xac b.2 n2.1).bind fun t2=>
   (Xae t2.2).bind fun b1=>
   cond (b1.1)
    (
    some ((Xaj.mk 0 0 0 0 (Xaa.mk false 0 0) (Xaa.mk false 0 0),[],2)))
    (
    some ((Xaj.mk (Xjr .i64 (n1.1.fdiv (2^20)) 255) (Xjr .i64 n1.1 1048575) n3.1 n4.1 xg.1 xg1.1,t2.1,0)))))
def Xy3 (x:Xaj×(List UInt8)×Int):Xca:=⟨.tuple ⟨[.agg ⟨[.int .i64 x.1.Class,.int .i64 x.1.Label,.int .i64 x.1.Next,.int .i64 x.1.Hop,.bool x.1.Src.V6,.int .u64 x.1.Src.Hi,.int .u64 x.1.Src.Lo,.bool x.1.Dst.V6,.int .u64 x.1.Dst.Hi,.int .u64 x.1.Dst.Lo]⟩,.string ⟨⟨x.2.1⟩⟩,.int .i64 x.2.2]⟩,[],[]⟩
def r201 (g:(List UInt8)→Option (Xaj×(List UInt8)×Int)):Dec:=dV asS fun (y0:List UInt8)=>XcO (ofG (g y0) Xy3)
theorem Ycn {g:(List UInt8)→Option (Xaj×(List UInt8)×Int)} {y0:List UInt8} {x:Xaj×(List UInt8)×Int} (hx:g y0=some x):r201 g [.string ⟨⟨y0⟩⟩] []=some (Xy3 x):=(XaT (Xcp)).trans (Xa0 hx)
def s201 (g:(List UInt8)→Option (Xaj×(List UInt8)×Int)):Xbr:=⟨[.v],r201 g⟩
theorem XLa {g:(List UInt8)→Option (Xaj×(List UInt8)×Int)} {y0:List UInt8} {x:Xaj×(List UInt8)×Int} (hx:g y0=some x):(s201 g).run [.string ⟨⟨y0⟩⟩] []=some (Xy3 x):=Ycn hx
abbrev XsG (XbC:(List UInt8)→Option (Xaa×Bool)) (XaA:(List UInt8)→Option Xab) (Xae:Xab→Option (Bool×Xab)) (Xad:Xab→Int→Option (Int×Xab)) (Xac:Xab→Int→Option ((List UInt8)×Xab)):List (Nat×Xbr):=[(210,X5Q XbC),(112,XBv XaA),(114,XAV Xae),(113,Xw5 Xad),(115,Xs3 Xac)]
theorem XAq (XbC:(List UInt8)→Option (Xaa×Bool)) (XaA:(List UInt8)→Option Xab) (Xae:Xab→Option (Bool×Xab)) (Xad:Xab→Int→Option (Int×Xab)) (Xac:Xab→Int→Option ((List UInt8)×Xab)) (hS:Xai Tryz.prog (Xav (XsG XbC XaA Xae Xad Xac))) (s:List UInt8) (res:Xaj×(List UInt8)×Int) (h:Xgx XbC XaA Xae Xad Xac s=some res) :
 XaI Tryz.prog 201 0 ⟨⟨201,59,[(0,.string ⟨⟨s⟩⟩)],[.code Xtc],[],false,none⟩,[],[],0⟩ (fun v H _=>Res 0 (Xy3 res) v H):=by
 unfold Xgx at h
 refine Xa7 Xao hS true 3000 ?_
 conv=>whnf
 replace h:=Xal.elim h;obtain ⟨n,hy,h⟩:=h
 refine XaK.Xbb [1] (Xaw (aqs:=[.string ⟨⟨s⟩⟩]) (ws:=[]) (n:=1) (m:=0) (t':=2) (Xau rfl rfl Xbf) rfl (by rfl) (Xmi hy) rfl rfl rfl rfl Xbe (Xho (rfl) Xbc) rfl) ?_
 conv=>whnf
 replace h:=Xal.elim h;obtain ⟨n1,hy,h⟩:=h
 refine XaK.Xbb [1] (Xaw (aqs:=[.pointer (some ⟨0,0,none⟩),.int .i64 4]) (ws:=[.win 1 0 3 true]) (n:=0) (m:=0) (t':=2) (Xau rfl rfl (Xau rfl rfl Xbf)) rfl (by rfl) (Xcn hy) rfl rfl rfl rfl (XbF rfl rfl rfl ⟨rfl,Nat.le_of_ble_eq_true rfl⟩ rfl rfl Xbe) Xbc rfl) ?_
 conv=>whnf
 replace h:=Xal.elim h;obtain ⟨n2,hy,h⟩:=h
 refine XaK.Xbb [1] (Xaw (aqs:=[.pointer (some ⟨0,0,none⟩),.int .i64 2]) (ws:=[.win 1 0 3 true]) (n:=0) (m:=0) (t':=2) (Xau rfl rfl (Xau rfl rfl Xbf)) rfl (by rfl) (Xcn hy) rfl rfl rfl rfl (XbF rfl rfl rfl ⟨rfl,Nat.le_of_ble_eq_true rfl⟩ rfl rfl Xbe) Xbc rfl) ?_
 conv=>whnf
 replace h:=Xal.elim h;obtain ⟨n3,hy,h⟩:=h
 refine XaK.Xbb [1] (Xaw (aqs:=[.pointer (some ⟨0,0,none⟩),.int .i64 1]) (ws:=[.win 1 0 3 true]) (n:=0) (m:=0) (t':=2) (Xau rfl rfl (Xau rfl rfl Xbf)) rfl (by rfl) (Xcn hy) rfl rfl rfl rfl (XbF rfl rfl rfl ⟨rfl,Nat.le_of_ble_eq_true rfl⟩ rfl rfl Xbe) Xbc rfl) ?_
 conv=>whnf
 replace h:=Xal.elim h;obtain ⟨n4,hy,h⟩:=h
 refine XaK.Xbb [1] (Xaw (aqs:=[.pointer (some ⟨0,0,none⟩),.int .i64 1]) (ws:=[.win 1 0 3 true]) (n:=0) (m:=0) (t':=2) (Xau rfl rfl (Xau rfl rfl Xbf)) rfl (by rfl) (Xcn hy) rfl rfl rfl rfl (XbF rfl rfl rfl ⟨rfl,Nat.le_of_ble_eq_true rfl⟩ rfl rfl Xbe) Xbc rfl) ?_
 conv=>whnf
 replace h:=Xal.elim h;obtain ⟨t,hy,h⟩:=h
 refine XaK.Xbb [1] (Xaw (aqs:=[.pointer (some ⟨0,0,none⟩),.int .i64 16]) (ws:=[.win 1 0 3 true]) (n:=0) (m:=0) (t':=3) (Xau rfl rfl (Xau rfl rfl Xbf)) rfl (by rfl) (Xfx hy) rfl rfl rfl rfl (XbF rfl rfl rfl ⟨rfl,Nat.le_of_ble_eq_true rfl⟩ rfl rfl Xbe) Xbc rfl) ?_
 conv=>whnf
 replace h:=Xal.elim h;obtain ⟨t1,hy,h⟩:=h
 refine XaK.Xbb [1] (Xaw (aqs:=[.pointer (some ⟨0,0,none⟩),.int .i64 16]) (ws:=[.win 1 0 3 true]) (n:=0) (m:=0) (t':=3) (Xau rfl rfl (Xau rfl rfl Xbf)) rfl (by rfl) (Xfx hy) rfl rfl rfl rfl (XbF rfl rfl rfl ⟨rfl,Nat.le_of_ble_eq_true rfl⟩ rfl rfl Xbe) Xbc rfl) ?_
 conv=>whnf
 replace h:=Xal.elim h;obtain ⟨b,hy,h⟩:=h
 refine XaK.Xbb [1] (Xaw (aqs:=[.pointer (some ⟨0,0,none⟩)]) (ws:=[.win 1 0 3 true]) (n:=0) (m:=0) (t':=3) (Xau rfl rfl Xbf) rfl (by rfl) (Xhl hy) rfl rfl rfl rfl (XbF rfl rfl rfl ⟨rfl,Nat.le_of_ble_eq_true rfl⟩ rfl rfl Xbe) Xbc rfl) ?_
 conv=>whnf
 refine br.h h ?_ ?_ ?_
 ·rfl
 ·clear h;intro hb h;conv=>whnf
  all_goals (cases h;exact Res.z rfl rfl rfl)
 clear h;intro hb h;conv=>whnf
 refine br.h h ?_ ?_ ?_
 ·rfl
 ·clear h;intro hb h;conv=>whnf
  all_goals (cases h;exact Res.z rfl rfl rfl)
 clear h;intro hb h;conv=>whnf
 replace h:=Xal.elim h;obtain ⟨xg,hy,h⟩:=h
 refine XaK.q rfl rfl (Xpz hy) rfl rfl rfl ?_
 conv=>whnf
 replace h:=Xal.elim h;obtain ⟨xg1,hy,h⟩:=h
 refine XaK.q rfl rfl (Xpz hy) rfl rfl rfl ?_
 conv=>whnf
 replace h:=Xal.elim h;obtain ⟨t2,hy,h⟩:=h
 refine XaK.Xbb [1] (Xaw (aqs:=[.pointer (some ⟨0,0,none⟩),.int .i64 n2.1]) (ws:=[.win 1 0 3 true]) (n:=0) (m:=0) (t':=3) (Xau rfl rfl (Xau rfl rfl Xbf)) rfl (by rfl) (Xfx hy) rfl rfl rfl rfl (XbF rfl rfl rfl ⟨rfl,Nat.le_of_ble_eq_true rfl⟩ rfl rfl Xbe) Xbc rfl) ?_
 conv=>whnf
 replace h:=Xal.elim h;obtain ⟨b1,hy,h⟩:=h
 refine XaK.Xbb [1] (Xaw (aqs:=[.pointer (some ⟨0,0,none⟩)]) (ws:=[.win 1 0 3 true]) (n:=0) (m:=0) (t':=3) (Xau rfl rfl Xbf) rfl (by rfl) (Xhl hy) rfl rfl rfl rfl (XbF rfl rfl rfl ⟨rfl,Nat.le_of_ble_eq_true rfl⟩ rfl rfl Xbe) Xbc rfl) ?_
 conv=>whnf
 refine br.h h ?_ ?_ ?_
 ·rfl
 ·clear h;intro hb h;conv=>whnf
  all_goals (cases h;exact Res.z rfl rfl rfl)
 clear h;intro hb h;conv=>whnf
 all_goals (cases h;exact Res.z rfl rfl rfl)
theorem ok201 (XbC:(List UInt8)→Option (Xaa×Bool)) (XaA:(List UInt8)→Option Xab) (Xae:Xab→Option (Bool×Xab)) (Xad:Xab→Int→Option (Int×Xab)) (Xac:Xab→Int→Option ((List UInt8)×Xab)) (hS:Xai Tryz.prog (Xav (XsG XbC XaA Xae Xad Xac))):Xar Tryz.prog 201 (s201 (Xgx XbC XaA Xae Xad Xac)):=by
 refine Xar.Xay Xao (fun ar os r ha hr=>?_) ⟨Tryz.f201,rfl,by decide,rfl⟩
 replace hr:r201 (Xgx XbC XaA Xae Xad Xac) ar (XaD os)=some r:=hr
 unfold r201 at hr
 generalize hc:XaD os=C at hr
 replace hr:=dV.elim hr;obtain ⟨v0,l1,y0,rfl,e0,hr⟩:=hr;obtain rfl:=XbH _ _ e0
 replace hr:=Xc2 hr;obtain ⟨rfl,rfl,x,h,rfl⟩:=hr
 obtain rfl:=Xas hc
 exact ⟨_,rfl,XAq XbC XaA Xae Xad Xac hS _ x h⟩
def XcB:(List UInt8)→Option (Xaj×(List UInt8)×Int):=Xgx XbC XaA Xae Xad Xac
theorem XLh:Xar Tryz.prog 201 (s201 XcB):=ok201 XbC XaA Xae Xad Xac (Xai.XaW ⟨Xs9,XlZ,XkO,Xk7,Xis,trivial⟩)
def XiX (Xam:(List UInt8)→Int→Int→Option Int) (XbN:(List UInt8)→Option (Xaa×Bool)) (s:List UInt8):Option (Xaj×(List UInt8)×Int):=
 cond (decide ((s.length:Int)<40))
  (
  some ((Xaj.mk 0 0 0 0 (Xaa.mk false 0 0) (Xaa.mk false 0 0),[],2)))
  (
  (Xam s 0 4).bind fun m=>
  (Xam s 4 2).bind fun m1=>
  cond ((wI .i64 (m.tdiv 268435456)) !=6)
   (
   some ((Xaj.mk 0 0 0 0 (Xaa.mk false 0 0) (Xaa.mk false 0 0),[],3)))
   (
   let t:=decide ((wI .i64 ((s.length:Int) - 40))<m1)
   cond (t)
    (
    some ((Xaj.mk 0 0 0 0 (Xaa.mk false 0 0) (Xaa.mk false 0 0),[],2)))
    (
    XaJ (decide ((0:Int)≤(24:Int)∧(24:Int)≤(s.length:Int)∧(0:Int)≤(8:Int)∧(8:Int)≤(24:Int))) <|
    (XbN ((s.drop 8).take 16)).bind fun xg=>
    XaJ (decide ((0:Int)≤(40:Int)∧(40:Int)≤(s.length:Int)∧(0:Int)≤(24:Int)∧(24:Int)≤(40:Int))) <|
    (XbN ((s.drop 24).take 16)).bind fun xg1=>
    (s[6]?).bind fun (b:UInt8)=>
    (s[7]?).bind fun (b1:UInt8)=>
    XaJ (decide ((0:Int)≤(wI .i64 (40+m1))∧(wI .i64 (40+m1))≤(s.length:Int)∧(0:Int)≤(40:Int)∧(40:Int)≤((wI .i64 (40+m1)).toNat:Int))) <|
    let t1:=(s.drop 40).take ((wI .i64 (40+m1)).toNat - 40)
    some ((Xaj.mk ((wI .i64 (m.tdiv 1048576)).tmod 256) (m.tmod 1048576) (wI .i64 (b.toNat:Int)) (wI .i64 (b1.toNat:Int)) xg.1 xg1.1,t1,0)))))
def XxI (x:Xaj×(List UInt8)×Int):Xca:=⟨.tuple ⟨[.agg ⟨[.int .i64 x.1.Class,.int .i64 x.1.Label,.int .i64 x.1.Next,.int .i64 x.1.Hop,.bool x.1.Src.V6,.int .u64 x.1.Src.Hi,.int .u64 x.1.Src.Lo,.bool x.1.Dst.V6,.int .u64 x.1.Dst.Hi,.int .u64 x.1.Dst.Lo]⟩,.string ⟨⟨x.2.1⟩⟩,.int .i64 x.2.2]⟩,[],[]⟩
def r166 (g:(List UInt8)→Option (Xaj×(List UInt8)×Int)):Dec:=dV asS fun (y0:List UInt8)=>XcO (ofG (g y0) XxI)
theorem Ybq {g:(List UInt8)→Option (Xaj×(List UInt8)×Int)} {y0:List UInt8} {x:Xaj×(List UInt8)×Int} (hx:g y0=some x):r166 g [.string ⟨⟨y0⟩⟩] []=some (XxI x):=(XaT (Xcp)).trans (Xa0 hx)
def s166 (g:(List UInt8)→Option (Xaj×(List UInt8)×Int)):Xbr:=⟨[.v],r166 g⟩
theorem XFz {g:(List UInt8)→Option (Xaj×(List UInt8)×Int)} {y0:List UInt8} {x:Xaj×(List UInt8)×Int} (hx:g y0=some x):(s166 g).run [.string ⟨⟨y0⟩⟩] []=some (XxI x):=Ybq hx
abbrev XtM (Xam:(List UInt8)→Int→Int→Option Int) (XbN:(List UInt8)→Option (Xaa×Bool)):List (Nat×Xbr):=[(74,s74 Xam),(195,X2A XbN)]
theorem XAZ (Xam:(List UInt8)→Int→Int→Option Int) (XbN:(List UInt8)→Option (Xaa×Bool)) (hS:Xai Tryz.prog (Xav (XtM Xam XbN))) (s:List UInt8) (res:Xaj×(List UInt8)×Int) (h:XiX Xam XbN s=some res) :
 XaI Tryz.prog 166 0 ⟨⟨166,59,[(0,.string ⟨⟨s⟩⟩)],[.code Xtz],[],false,none⟩,[],[],0⟩ (fun v H _=>Res 0 (XxI res) v H):=by
 unfold XiX at h
 refine Xa7 Xao hS true 3000 ?_
 conv=>whnf
 refine br.h h ?_ ?_ ?_
 ·rfl
 ·clear h;intro hb h;conv=>whnf
  all_goals (cases h;exact Res.z rfl rfl rfl)
 clear h;intro hb h;conv=>whnf
 replace h:=Xal.elim h;obtain ⟨m,hy,h⟩:=h
 refine XaK.q rfl rfl (XeL hy) rfl rfl rfl ?_
 conv=>whnf
 replace h:=Xal.elim h;obtain ⟨m1,hy,h⟩:=h
 refine XaK.q rfl rfl (XeL hy) rfl rfl rfl ?_
 conv=>whnf
 refine br.h h ?_ ?_ ?_
 ·rfl
 ·clear h;intro hb h;conv=>whnf
  all_goals (cases h;exact Res.z rfl rfl rfl)
 clear h;intro hb h;conv=>whnf
 let t:Bool:=decide ((wI .i64 ((s.length:Int) - 40))<m1)
 refine br.h h ?_ ?_ ?_
 ·rfl
 ·clear h;intro hb h;conv=>whnf
  all_goals (cases h;exact Res.z rfl rfl rfl)
 clear h;intro hb h;conv=>whnf
 replace h:=XaJ.elim h;obtain ⟨hb,h⟩:=h
 first|(refine req.intro hb ?_;conv=>whnf)|skip
 replace h:=Xal.elim h;obtain ⟨xg,hy,h⟩:=h
 refine XaK.q rfl rfl (XkG hy) rfl rfl rfl ?_
 conv=>whnf
 replace h:=XaJ.elim h;obtain ⟨hb,h⟩:=h
 first|(refine req.intro hb ?_;conv=>whnf)|skip
 replace h:=Xal.elim h;obtain ⟨xg1,hy,h⟩:=h
 refine XaK.q rfl rfl (XkG hy) rfl rfl rfl ?_
 conv=>whnf
 replace h:=Xal.elim h;obtain ⟨b,hy,h⟩:=h
 refine rdS.intro hy ?_
 conv=>whnf
 replace h:=Xal.elim h;obtain ⟨b1,hy,h⟩:=h
 refine rdS.intro hy ?_
 conv=>whnf
 replace h:=XaJ.elim h;obtain ⟨hb,h⟩:=h
 first|(refine req.intro hb ?_;conv=>whnf)|skip
 let t1:List UInt8:=(s.drop 40).take ((wI .i64 (40+m1)).toNat - 40)
 all_goals (cases h;exact Res.z rfl rfl rfl)
theorem ok166 (Xam:(List UInt8)→Int→Int→Option Int) (XbN:(List UInt8)→Option (Xaa×Bool)) (hS:Xai Tryz.prog (Xav (XtM Xam XbN))):Xar Tryz.prog 166 (s166 (XiX Xam XbN)):=by
 refine Xar.Xay Xao (fun ar os r ha hr=>?_) ⟨Tryz.f166,rfl,by decide,rfl⟩
 replace hr:r166 (XiX Xam XbN) ar (XaD os)=some r:=hr
 unfold r166 at hr
 generalize hc:XaD os=C at hr
 replace hr:=dV.elim hr;obtain ⟨v0,l1,y0,rfl,e0,hr⟩:=hr;obtain rfl:=XbH _ _ e0
 replace hr:=Xc2 hr;obtain ⟨rfl,rfl,x,h,rfl⟩:=hr
 obtain rfl:=Xas hc
 exact ⟨_,rfl,XAZ Xam XbN hS _ x h⟩
def Xd1:(List UInt8)→Option (Xaj×(List UInt8)×Int):=XiX Xam XbN
theorem XM5:Xar Tryz.prog 166 (s166 Xd1):=ok166 Xam XbN (Xai.XaW ⟨Xmn,XuD,trivial⟩)
end Go.Vm.Code
namespace Go.Vm.Code
open Go Go.Vm
def zero6:Xaj:=⟨0,0,0,0,⟨false,0,0⟩,⟨false,0,0⟩⟩
def XPI (s:List UInt8):Xaj:=
 let m:=Xdz (s.take 4)
 ⟨((m/2^20%256:Nat):Int),((m%2^20:Nat):Int),((Xdz ((s.drop 6).take 1):Nat):Int),((Xdz ((s.drop 7).take 1):Nat):Int),XrL ((s.drop 8).take 16),XrL ((s.drop 24).take 16)⟩
def Xi4 (s:List UInt8):Xaj×List UInt8×Int:=
 if s.length<40 then (zero6,[],2) else if Xdz (s.take 4)/2^28≠6 then (zero6,[],3) else if s.length - 40<Xdz ((s.drop 4).take 2) then (zero6,[],2) else
  (XPI s,(s.drop 40).take (Xdz ((s.drop 4).take 2)),0)
theorem XLL {s:List UInt8} (h:s.length<2^60):XcB s=some (Xi4 s):=by
 unfold XcB Xgx
 rw [Xmv,Option.bind_some]
 by_cases hs:s.length<40
 ·have e:Xi4 s=(zero6,[],2):=by unfold Xi4;rw [if_pos hs]
  rw [Xft rfl (by simp only [];omega),Option.bind_some]
  simp only []
  have b1:∀ (r:Xab) (k:Int),(rdr r k).s.length≤r.s.length:=by intro r k;unfold rdr;split<;>simp
  have l1:=b1 ⟨s,true,false⟩ (if (4:Int)<1∨(4:Int)>7 then -1 else 4)
  simp only at l1
  generalize hr1:rdr ⟨s,true,false⟩ (if (4:Int)<1∨(4:Int)>7 then -1 else 4)=r1 at *
  have m1:r1.made=true:=by rw [←hr1];exact Xfp _ _
  rw [Xft m1 (by omega),Option.bind_some]
  simp only []
  have l2:=b1 r1 (if (2:Int)<1∨(2:Int)>7 then -1 else 2)
  generalize hr2:rdr r1 (if (2:Int)<1∨(2:Int)>7 then -1 else 2)=r2 at *
  have m2:r2.made=true:=by rw [←hr2];exact Xfp _ _
  rw [Xft m2 (by omega),Option.bind_some]
  simp only []
  have l3:=b1 r2 (if (1:Int)<1∨(1:Int)>7 then -1 else 1)
  generalize hr3:rdr r2 (if (1:Int)<1∨(1:Int)>7 then -1 else 1)=r3 at *
  have m3:r3.made=true:=by rw [←hr3];exact Xfp _ _
  rw [Xft m3 (by omega),Option.bind_some]
  simp only []
  have l4:=b1 r3 (if (1:Int)<1∨(1:Int)>7 then -1 else 1)
  generalize hr4:rdr r3 (if (1:Int)<1∨(1:Int)>7 then -1 else 1)=r4 at *
  have m4:r4.made=true:=by rw [←hr4];exact Xfp _ _
  rw [XeB m4,Option.bind_some]
  simp only []
  generalize hr5:rdr r4 16=r5 at *
  have m5:r5.made=true:=by rw [←hr5];exact Xfp _ _
  rw [XeB m5,Option.bind_some]
  simp only []
  generalize hr6:rdr r5 16=r6 at *
  have m6:r6.made=true:=by rw [←hr6];exact Xfp _ _
  rw [XdQ m6,Option.bind_some]
  have hb:r6.bad=true:=by
   cases hb:r6.bad with
   | true=>rfl
   | false=>
     exfalso
     obtain ⟨a5,n6⟩:=Xf7 hr6 hb
     obtain ⟨a4,n5⟩:=Xf7 hr5 a5
     obtain ⟨a3,n4⟩:=Xf7 hr4 a4
     obtain ⟨a2,n3⟩:=Xf7 hr3 a3
     obtain ⟨a1,n2⟩:=Xf7 hr2 a2
     obtain ⟨a0,n1⟩:=Xf7 hr1 a1
     rw [show (if (4:Int)<1∨(4:Int)>7 then -1 else 4:Int)=4 by decide] at n1
     simp only at n1
     omega
  simp only [hb,cond_true]
  rw [e];rfl
 ·have i4:(if (4:Int)<1∨(4:Int)>7 then -1 else 4:Int)=4:=by decide
  have i2:(if (2:Int)<1∨(2:Int)>7 then -1 else 2:Int)=2:=by decide
  have i1:(if (1:Int)<1∨(1:Int)>7 then -1 else 1:Int)=1:=by decide
  have t4:(4:Int).toNat=4:=rfl
  have t2:(2:Int).toNat=2:=rfl
  have t1:(1:Int).toNat=1:=rfl
  have t16:(16:Int).toNat=16:=rfl
  rw [Xft rfl (by simp only [];omega),Option.bind_some]
  simp only [rdn,i4]
  rw [XgY (by omega) (by omega),XgX (by omega) (by omega),t4]
  rw [Xft rfl (by simp;omega),Option.bind_some]
  simp only [rdn,i2]
  rw [XgY (by omega) (by simp;omega),XgX (by omega) (by simp;omega),t2,List.drop_drop]
  rw [Xft rfl (by simp;omega),Option.bind_some]
  simp only [rdn,i1]
  rw [XgY (by omega) (by simp;omega),XgX (by omega) (by simp;omega),t1,List.drop_drop]
  rw [Xft rfl (by simp;omega),Option.bind_some]
  simp only [rdn,i1]
  rw [XgY (by omega) (by simp;omega),XgX (by omega) (by simp;omega),t1,List.drop_drop]
  rw [XeB rfl,Option.bind_some]
  simp only []
  rw [XgY (by omega) (by simp;omega),XgX (by omega) (by simp;omega),t16,List.drop_drop]
  rw [XeB rfl,Option.bind_some]
  simp only []
  rw [XgY (by omega) (by simp;omega),XgX (by omega) (by simp;omega),t16,List.drop_drop]
  rw [XdQ rfl,Option.bind_some]
  simp only [cond_false,Nat.reduceAdd]
  have v4:Xdz (s.take 4)<2^32:=Xdh _ (by decide)
  have v2:Xdz ((s.drop 4).take 2)<2^16:=Xdh _ (by decide)
  unfold Xi4
  rw [if_neg hs]
  have e1:((((Xdz (s.take 4):Nat):Int).fdiv (2^28)) !=6)=decide (Xdz (s.take 4)/2^28≠6):=by
   rw [XoM,Bool.eq_iff_iff,bne_iff_ne,decide_eq_true_eq];omega
  rw [e1]
  by_cases h6:Xdz (s.take 4)/2^28≠6
  ·rw [XaS h6,if_pos h6];rfl
  rw [XaO h6,if_neg h6]
  rw [XmO (by simp;omega),XmO (by simp;omega)]
  simp only [Option.bind_some]
  rw [XeB rfl,Option.bind_some]
  by_cases hn:s.length - 40<Xdz ((s.drop 4).take 2)
  ·rw [XdQ (Xfp _ _),Option.bind_some]
   have hb:(rdr ⟨s.drop 40,true,false⟩ ((Xdz ((s.drop 4).take 2):Nat):Int)).bad=true:=by
    cases hb:(rdr ⟨s.drop 40,true,false⟩ ((Xdz ((s.drop 4).take 2):Nat):Int)).bad with
    | true=>rfl
    | false=>
      exfalso
      obtain ⟨_,_,c⟩:=Xpv.1 hb
      simp at c;omega
   simp only [hb,cond_true]
   rw [if_pos hn];rfl
  ·rw [XgY (by omega) (by simp;omega),XgX (by omega) (by simp;omega),XdQ rfl,Option.bind_some]
   simp only [cond_false,Int.toNat_natCast]
   rw [if_neg hn]
   unfold XPI
   simp only []
   have e2:Xjr .i64 ((((Xdz (s.take 4):Nat):Int)).fdiv (2^20)) 255=((Xdz (s.take 4)/2^20%256:Nat):Int):=by
    rw [XoM,XgS (m:=255) 8 (by decide) (by decide) (by omega) (by omega)];omega
   have e3:Xjr .i64 ((Xdz (s.take 4):Nat):Int) 1048575=((Xdz (s.take 4)%2^20:Nat):Int):=by
    rw [XgS (m:=1048575) 20 (by decide) (by decide) (by omega) (by omega)];omega
   rw [e2,e3]
theorem XyX {s:List UInt8} (h:s.length<2^60):Xd1 s=some (Xi4 s):=by
 unfold Xd1 XiX Xi4
 by_cases hs:s.length<40
 ·rw [XaS (by omega),if_pos hs];rfl
 rw [XaO (by omega),if_neg hs]
 have v4:Xdz (s.take 4)<2^32:=Xdh _ (by decide)
 have v2:Xdz ((s.drop 4).take 2)<2^16:=Xdh _ (by decide)
 rw [XfV (by omega),XfV (by omega),Xgj (p:=0) (k:=4) (by omega) (by omega) (by omega) (by omega),Xgj (p:=4) (k:=2) (by omega) (by omega) (by omega) (by omega)]
 simp only [Option.bind_some,show (0:Int).toNat=0 from rfl,show (4:Int).toNat=4 from rfl,show (2:Int).toNat=2 from rfl,List.drop_zero]
 rw [Xcg (n:=((Xdz (s.take 4):Nat):Int)) (by omega) (by omega),Xcg (n:=((Xdz ((s.drop 4).take 2):Nat):Int)) (by omega) (by omega)]
 have e1:((wI .i64 ((((Xdz (s.take 4):Nat):Int)).tdiv 268435456)) !=6)=decide (Xdz (s.take 4)/2^28≠6):=by
  rw [Int.tdiv_eq_ediv_of_nonneg (by omega),Xcg (by omega) (by omega),Bool.eq_iff_iff,bne_iff_ne,decide_eq_true_eq];omega
 rw [e1]
 by_cases h6:Xdz (s.take 4)/2^28≠6
 ·rw [XaS h6,if_pos h6];rfl
 rw [XaO h6,if_neg h6,Xcg (n:=(s.length:Int) - 40) (by omega) (by omega)]
 by_cases hn:s.length - 40<Xdz ((s.drop 4).take 2)
 ·rw [XaS (by omega),if_pos hn];rfl
 rw [XaO (by omega),if_neg hn,Xaz (by omega),Xph (by simp;omega),Option.bind_some,Xaz (by omega),Xph (by simp;omega),Option.bind_some,List.getElem?_eq_getElem (by omega:6<s.length),Option.bind_some,
  List.getElem?_eq_getElem (by omega:7<s.length),Option.bind_some,Xcg (n:=40+((Xdz ((s.drop 4).take 2):Nat):Int)) (by omega) (by omega),Xaz (by omega)]
 have b6:=s[6].toNat_lt
 have b7:=s[7].toNat_lt
 have e6:(s.drop 6).take 1=[s[6]]:=by rw [List.drop_eq_getElem_cons (by omega:6<s.length)];rfl
 have e7:(s.drop 7).take 1=[s[7]]:=by rw [List.drop_eq_getElem_cons (by omega:7<s.length)];rfl
 have e8:(40+((Xdz ((s.drop 4).take 2):Nat):Int)).toNat - 40=Xdz ((s.drop 4).take 2):=by omega
 unfold XPI
 simp only [e6,e7,e8,XeQ,XOm]
 rw [Int.tdiv_eq_ediv_of_nonneg (by omega),Xcg (n:=((Xdz (s.take 4):Nat):Int)/1048576) (by omega) (by omega),Int.tmod_eq_emod_of_nonneg (by omega),Int.tmod_eq_emod_of_nonneg (by omega),Xcg (n:=(s[6].toNat:Int)) (by omega) (by omega),Xcg (n:=(s[7].toNat:Int)) (by omega) (by omega)]
 simp
end Go.Vm.Code
namespace Go.Vm.Code
open Go Go.Vm Go.Proofs
set_option maxRecDepth 100000
set_option maxHeartbeats 4000000
set_option linter.unusedVariables false
def Xf2 (text:List UInt8) (i:Int) (c:List XbG):Option (Sum (Int×(List XbG)) ((List XbG)×Int)):=
 cond (decide (i<(text.length:Int)))
  (
  XaJ (decide (0≤i)) <|
  (text[i.toNat]?).bind fun (b:UInt8)=>
  cond ((b.toNat:Int)==0)
   (
   some (.inr ((c,0))))
   (
   cond ((b.toNat:Int)==1)
    (
    some (.inl (wI .i64 (i+1),c)))
    (
    let t:=decide ((wI .i64 (i+1))<(text.length:Int))
    cond (t)
     (
     XaJ (decide (0≤(wI .i64 (i+1)))) <|
     (text[(wI .i64 (i+1)).toNat]?).bind fun (b1:UInt8)=>
     cond (decide ((wI .i64 (b1.toNat:Int))<2))
      (
      some (.inr (([],3))))
      (
      let t1:=decide ((wI .i64 (b1.toNat:Int))>(wI .i64 ((text.length:Int) - i)))
      cond (t1)
       (
       some (.inr (([],3))))
       (
       XaJ (decide (0≤i)) <|
       (text[i.toNat]?).bind fun (b2:UInt8)=>
       XaJ (decide ((0:Int)≤(wI .i64 (i+(wI .i64 (b1.toNat:Int))))∧(wI .i64 (i+(wI .i64 (b1.toNat:Int))))≤(text.length:Int)∧(0:Int)≤(wI .i64 (i+2))∧(wI .i64 (i+2))≤((wI .i64 (i+(wI .i64 (b1.toNat:Int)))).toNat:Int))) <|
       let t2:=(text.drop (wI .i64 (i+2)).toNat).take ((wI .i64 (i+(wI .i64 (b1.toNat:Int)))).toNat - (wI .i64 (i+2)).toNat)
       cond (decide ((wI .i64 (i+2))<0))
        (
        some (.inr (([],3))))
        (
        XaJ (decide ((c.length+1)*24≤2^47)) <|
        let row:=c++[XbG.mk (wI .i64 (b2.toNat:Int)) t2]
        some (.inl (wI .i64 (i+(wI .i64 (b1.toNat:Int))),row))))))
     (
     some (.inr (([],3)))))))
  (
  some (.inr ((c,0))))
def XhB (text:List UInt8):Option ((List XbG)×Int):=
 iter (fun st=>Xf2 text st.1 st.2) FUEL (0,[])
def XpQ (x:(List XbG)×Int):Xca:=⟨.tuple ⟨[.slice (some ⟨0,0,none⟩) x.1.length 2,.int .i64 x.2]⟩,[(vT Xf8 x.1)],[]⟩
def r168 (g:(List UInt8)→Option ((List XbG)×Int)):Dec:=dV asS fun (y0:List UInt8)=>XcO (ofG (g y0) XpQ)
theorem X07 {g:(List UInt8)→Option ((List XbG)×Int)} {y0:List UInt8} {x:(List XbG)×Int} (hx:g y0=some x):r168 g [.string ⟨⟨y0⟩⟩] []=some (XpQ x):=(XaT (Xcp)).trans (Xa0 hx)
def XST (g:(List UInt8)→Option ((List XbG)×Int)):Xbr:=⟨[.v],r168 g⟩
theorem Xuf {g:(List UInt8)→Option ((List XbG)×Int)} {y0:List UInt8} {x:(List XbG)×Int} (hx:g y0=some x):(XST g).run [.string ⟨⟨y0⟩⟩] []=some (XpQ x):=X07 hx
abbrev XpF:List (Nat×Xbr):=[]
def XhX (text:List UInt8) (i:Int) (c:List XbG):VM:=
 ⟨⟨196,62,[(0,.func (.yield 5) #[] #[]),(1,.pointer (some ⟨3,0,none⟩)),(3,.int .i64 i)],[.code Xl4,.inLoop Xl4,.inBlock 0],[],false,none⟩,[⟨168,18,[(2,.pointer (some ⟨0,0,none⟩)),(3,.pointer (some ⟨1,0,none⟩)),(4,.pointer (some ⟨2,0,none⟩))],[.inRangeFunc 5,.inBlock 0,.code Xvr],[4],false,none⟩],[(0,.cells [.slice none 0 0]),(1,.cells [.int .i64 0]),(2,.cells [.slice (some ⟨6,0,none⟩) c.length 2]),(3,.cells [.string ⟨⟨text⟩⟩]),(4,.marks),(5,.loop ⟨.ready,none,168,18,[(2,.pointer (some ⟨0,0,none⟩)),(3,.pointer (some ⟨1,0,none⟩)),(4,.pointer (some ⟨2,0,none⟩))],[8],XC1,Xvm,4⟩),(6,.row true (vT Xf8 c))],7⟩
theorem Xs0 (hS:Xai Tryz.prog (Xav (XpF))) (text:List UInt8) (res:(List XbG)×Int):∀ fuel (st:Int×(List XbG)) (o:(List XbG)×Int),iter (fun st=>Xf2 text st.1 st.2) fuel st=some o→(o=res) →
 XaI Tryz.prog 168 0 (XhX text st.1 st.2) (fun v H t=>∃ v' H' t',Xss v H t v' H' t'∧Res 0 (XpQ res) v' H'):=by
 intro fuel st o h hc
 refine XbX (head:=fun st=>XhX text st.1 st.2) (C:=fun o=>(o=res)) ?_ fuel st o h hc
 clear h hc o st fuel
 intro st o h hc
 obtain ⟨i,c⟩:=st
 replace h:Xf2 text i c=some o:=h
 show XaI Tryz.prog 168 0 (XhX text i c) (fun v H t=>∃ v' H' t',Xss v H t v' H' t'∧Res 0 (XpQ res) v' H')
 unfold Xf2 at h
 refine Xa7 Xao hS true 3000 ?_
 conv=>whnf
 refine br.h2 h ?_ ?_ ?_
 ·rfl
 ·clear h;intro hb h;conv=>whnf
  all_goals (cases h;cases hc)
  all_goals exact ⟨_,_,_,(.refl _ _ _),Res.of [6] rfl (XrK (XpU Xb3) (Xip rfl) Xg3) (by decide) (XrX (by decide) Xg1) Xg2⟩
 clear h;intro hb h;conv=>whnf
 replace h:=XaJ.elim h;obtain ⟨hb,h⟩:=h
 first|(refine req.intro hb ?_;conv=>whnf)|skip
 replace h:=Xal.elim h;obtain ⟨b,hy,h⟩:=h
 refine rdS.intro hy ?_
 conv=>whnf
 refine br.h h ?_ ?_ ?_
 ·rfl
 ·clear h;intro hb h;conv=>whnf
  all_goals (cases h;cases hc)
  all_goals exact ⟨_,_,_,(.refl _ _ _),Res.of [6] rfl (XrK (XpU Xb3) (Xip rfl) Xg3) (by decide) (XrX (by decide) Xg1) Xg2⟩
 clear h;intro hb h;conv=>whnf
 refine br.h h ?_ ?_ ?_
 ·rfl
 ·clear h;intro hb h;conv=>whnf
  cases h;simp only [Sum.elim_inl,XhX] at hc
  exact Xzv hc [(0,0),(1,1),(2,2),(3,3),(4,4),(5,5),(6,6)] rfl
 clear h;intro hb h;conv=>whnf
 let t:Bool:=decide ((wI .i64 (i+1))<(text.length:Int))
 refine br.h2 h ?_ ?_ ?_
 ·rfl
 ·clear h;intro hb h;conv=>whnf
  all_goals (cases h;cases hc)
  all_goals exact ⟨_,_,_,(.val (.tup (.cons (.nil _ _) (.cons (.same _) .nil))) (.refl _ _ _)),Res.of [8] rfl (XrK (XpU Xb3) (Xip rfl) Xg3) (by decide) (XrX (by decide) Xg1) Xg2⟩
 clear h;intro hb h;conv=>whnf
 replace h:=XaJ.elim h;obtain ⟨hb,h⟩:=h
 first|(refine req.intro hb ?_;conv=>whnf)|skip
 replace h:=Xal.elim h;obtain ⟨b1,hy,h⟩:=h
 refine rdS.intro hy ?_
 conv=>whnf
 refine br.h h ?_ ?_ ?_
 ·rfl
 ·clear h;intro hb h;conv=>whnf
  all_goals (cases h;cases hc)
  all_goals exact ⟨_,_,_,(.val (.tup (.cons (.nil _ _) (.cons (.same _) .nil))) (.refl _ _ _)),Res.of [8] rfl (XrK (XpU Xb3) (Xip rfl) Xg3) (by decide) (XrX (by decide) Xg1) Xg2⟩
 clear h;intro hb h;conv=>whnf
 let t1:Bool:=decide ((wI .i64 (b1.toNat:Int))>(wI .i64 ((text.length:Int) - i)))
 refine br.h h ?_ ?_ ?_
 ·rfl
 ·clear h;intro hb h;conv=>whnf
  all_goals (cases h;cases hc)
  all_goals exact ⟨_,_,_,(.val (.tup (.cons (.nil _ _) (.cons (.same _) .nil))) (.refl _ _ _)),Res.of [8] rfl (XrK (XpU Xb3) (Xip rfl) Xg3) (by decide) (XrX (by decide) Xg1) Xg2⟩
 clear h;intro hb h;conv=>whnf
 replace h:=XaJ.elim h;obtain ⟨hb,h⟩:=h
 first|(refine req.intro hb ?_;conv=>whnf)|skip
 replace h:=Xal.elim h;obtain ⟨b2,hy,h⟩:=h
 refine rdS.intro hy ?_
 conv=>whnf
 replace h:=XaJ.elim h;obtain ⟨hb,h⟩:=h
 first|(refine req.intro hb ?_;conv=>whnf)|skip
 let t2:List UInt8:=(text.drop (wI .i64 (i+2)).toNat).take ((wI .i64 (i+(wI .i64 (b1.toNat:Int)))).toNat - (wI .i64 (i+2)).toNat)
 refine br.h h ?_ ?_ ?_
 ·rfl
 ·clear h;intro hb h;conv=>whnf
  all_goals (cases h;cases hc)
  all_goals exact ⟨_,_,_,(.val (.tup (.cons (.nil _ _) (.cons (.same _) .nil))) (.refl _ _ _)),Res.of [24] rfl (XrK (XpU Xb3) (Xip rfl) Xg3) (by decide) (XrX (by decide) Xg1) Xg2⟩
 clear h;intro hb h;conv=>whnf
 replace h:=XaJ.elim h;obtain ⟨hb,h⟩:=h
 refine req.intro (XsO (of_decide_eq_true hb) (by first|rfl|omega|(simp;done)|(simp;omega)|(simp at *;omega)) rfl (by first|rfl|omega|(simp;done)|(simp;omega)|(simp at *;omega)) (by first|rfl|exact Xfq _ _|exact XhN _|exact XhV _|exact Xne (by first|exact Xeu|exact XdN|exact Xdm|exact XcT|exact Xc6|exact XcR|exact Xdu|exact Xex|exact Xe5|exact XeC|exact XdK|exact Xeq|exact Xe1) _|(rw [Xc4];exact Xfq _ _)|simp [Xfq,XhN,XhV,XiO,XiI,XjM,XjL]) rfl) ?_
 conv=>whnf
 let row:List XbG:=c++[XbG.mk (wI .i64 (b2.toNat:Int)) t2]
 refine XBY Xhb (xs:=c) (ys:=[XbG.mk (wI .i64 (b2.toNat:Int)) t2]) rfl (by first|rfl|omega) (by first|(simp;done)|(simp;omega)) (by first|(simp;done)|(simp;omega)) ?_
 conv=>whnf
 cases h;simp only [Sum.elim_inl,XhX] at hc
 exact Xzv hc [(0,0),(1,1),(2,2),(3,3),(4,4),(5,5),(6,25)] rfl
theorem XzU (hS:Xai Tryz.prog (Xav (XpF))) (text:List UInt8) (res:(List XbG)×Int) (h:XhB text=some res) :
 XaI Tryz.prog 168 0 ⟨⟨168,18,[(0,.string ⟨⟨text⟩⟩)],[.code XuJ],[],false,none⟩,[],[],0⟩ (fun v H _=>Res 0 (XpQ res) v H):=by
 refine XaI.nilW (R:=fun v' H'=>Res 0 (XpQ res) v' H') ?_
 unfold XhB at h
 refine Xa7 Xao hS true 3000 ?_
 conv=>whnf
 have hl:=Xs0 hS _ res _ _ _ h rfl;simp only [XhX] at hl
 refine XaI.nilC 2 0 2 ?_
 exact Xzv hl [(0,0),(1,1),(2,2),(3,3),(4,4),(5,5),(6,6)] rfl
theorem ok168 (hS:Xai Tryz.prog (Xav (XpF))):Xar Tryz.prog 168 (XST (XhB)):=by
 refine Xar.Xay Xao (fun ar os r ha hr=>?_) ⟨Tryz.f168,rfl,by decide,rfl⟩
 replace hr:r168 (XhB) ar (XaD os)=some r:=hr
 unfold r168 at hr
 generalize hc:XaD os=C at hr
 replace hr:=dV.elim hr;obtain ⟨v0,l1,y0,rfl,e0,hr⟩:=hr;obtain rfl:=XbH _ _ e0
 replace hr:=Xc2 hr;obtain ⟨rfl,rfl,x,h,rfl⟩:=hr
 obtain rfl:=Xas hc
 exact ⟨_,rfl,XzU hS _ x h⟩
def XbE:(List UInt8)→Option ((List XbG)×Int):=XhB
theorem XvA:Xar Tryz.prog 168 (XST XbE):=ok168 (Xai.XaW trivial)
def XfM (options:List UInt8) (i:Int) (out1:List Xby):Option (Sum (Int×(List Xby)) ((List Xby)×Int)):=
 cond (decide (i<(options.length:Int)))
  (
  XaJ (decide (0≤i)) <|
  (options[i.toNat]?).bind fun (b:UInt8)=>
  cond ((b.toNat:Int) !=0)
   (
   XaJ (decide (0≤i)) <|
   (options[i.toNat]?).bind fun (b1:UInt8)=>
   cond ((b1.toNat:Int)==1)
    (
    some (.inl (wI .i64 (i+1),out1)))
    (
    let t:=decide ((wI .i64 (i+1))≥(options.length:Int))
    cond (t)
     (
     some (.inr (([],3))))
     (
     XaJ (decide (0≤(wI .i64 (i+1)))) <|
     (options[(wI .i64 (i+1)).toNat]?).bind fun (b2:UInt8)=>
     cond (decide ((b2.toNat:Int)<2))
      (
      some (.inr (([],3))))
      (
      XaJ (decide (0≤(wI .i64 (i+1)))) <|
      (options[(wI .i64 (i+1)).toNat]?).bind fun (b3:UInt8)=>
      let t1:=decide ((wI .i64 (b3.toNat:Int))>(wI .i64 ((options.length:Int) - i)))
      cond (t1)
       (
       some (.inr (([],3))))
       (
       XaJ (decide (0≤(wI .i64 (i+1)))) <|
       (options[(wI .i64 (i+1)).toNat]?).bind fun (b4:UInt8)=>
       XaJ (decide (0≤i)) <|
       (options[i.toNat]?).bind fun (b5:UInt8)=>
       XaJ (decide ((0:Int)≤(wI .i64 (i+(wI .i64 (b4.toNat:Int))))∧(wI .i64 (i+(wI .i64 (b4.toNat:Int))))≤(options.length:Int)∧(0:Int)≤(wI .i64 (i+2))∧(wI .i64 (i+2))≤((wI .i64 (i+(wI .i64 (b4.toNat:Int)))).toNat:Int))) <|
       let t2:=(options.drop (wI .i64 (i+2)).toNat).take ((wI .i64 (i+(wI .i64 (b4.toNat:Int)))).toNat - (wI .i64 (i+2)).toNat)
       XaJ (decide ((out1.length+1)*32≤2^47)) <|
       let row:=out1++[Xby.mk (wI .i64 (b5.toNat:Int)) t2 (wI .i64 (i+2))]
       some (.inl (wI .i64 (i+(wI .i64 (b4.toNat:Int))),row)))))))
   (
   some (.inr ((out1,0)))))
  (
  some (.inr ((out1,0))))
def XhC (options:List UInt8):Option ((List Xby)×Int):=
 iter (fun st=>XfM options st.1 st.2) FUEL (0,[])
def XpN (x:(List Xby)×Int):Xca:=⟨.tuple ⟨[.slice (some ⟨0,0,none⟩) x.1.length 3,.int .i64 x.2]⟩,[(vT Xfr x.1)],[]⟩
def r167 (g:(List UInt8)→Option ((List Xby)×Int)):Dec:=dV asS fun (y0:List UInt8)=>XcO (ofG (g y0) XpN)
theorem X20 {g:(List UInt8)→Option ((List Xby)×Int)} {y0:List UInt8} {x:(List Xby)×Int} (hx:g y0=some x):r167 g [.string ⟨⟨y0⟩⟩] []=some (XpN x):=(XaT (Xcp)).trans (Xa0 hx)
def XTf (g:(List UInt8)→Option ((List Xby)×Int)):Xbr:=⟨[.v],r167 g⟩
theorem Xte {g:(List UInt8)→Option ((List Xby)×Int)} {y0:List UInt8} {x:(List Xby)×Int} (hx:g y0=some x):(XTf g).run [.string ⟨⟨y0⟩⟩] []=some (XpN x):=X20 hx
abbrev XpG:List (Nat×Xbr):=[]
def XhG (options:List UInt8) (i:Int) (out1:List Xby):VM:=
 ⟨⟨167,73,[(0,.string ⟨⟨options⟩⟩),(4,.slice (some ⟨0,0,none⟩) out1.length 3),(5,.int .i64 i)],[.code Xqe,.inLoop Xqe,.inBlock 0,.code Xvs],[],false,none⟩,[],[(0,.row true (vT Xfr out1))],1⟩
theorem Xwm (hS:Xai Tryz.prog (Xav (XpG))) (options:List UInt8) (res:(List Xby)×Int):∀ fuel (st:Int×(List Xby)) (o:(List Xby)×Int),iter (fun st=>XfM options st.1 st.2) fuel st=some o→(o=res) →
 XaI Tryz.prog 167 0 (XhG options st.1 st.2) (fun v H t=>∃ v' H' t',Xss v H t v' H' t'∧Res 0 (XpN res) v' H'):=by
 intro fuel st o h hc
 refine XbX (head:=fun st=>XhG options st.1 st.2) (C:=fun o=>(o=res)) ?_ fuel st o h hc
 clear h hc o st fuel
 intro st o h hc
 obtain ⟨i,out1⟩:=st
 replace h:XfM options i out1=some o:=h
 show XaI Tryz.prog 167 0 (XhG options i out1) (fun v H t=>∃ v' H' t',Xss v H t v' H' t'∧Res 0 (XpN res) v' H')
 unfold XfM at h
 refine Xa7 Xao hS true 3000 ?_
 conv=>whnf
 refine br.h2 h ?_ ?_ ?_
 ·rfl
 ·clear h;intro hb h;conv=>whnf
  all_goals (cases h;cases hc)
  all_goals exact ⟨_,_,_,(.refl _ _ _),Res.of [0] rfl (XrK (XpU Xcc) (Xip rfl) Xg3) (by decide) (XrX (by decide) Xg1) Xg2⟩
 clear h;intro hb h;conv=>whnf
 replace h:=XaJ.elim h;obtain ⟨hb,h⟩:=h
 first|(refine req.intro hb ?_;conv=>whnf)|skip
 replace h:=Xal.elim h;obtain ⟨b,hy,h⟩:=h
 refine rdS.intro hy ?_
 conv=>whnf
 refine br.h2 h ?_ ?_ ?_
 ·rfl
 ·clear h;intro hb h;conv=>whnf
  all_goals (cases h;cases hc)
  all_goals exact ⟨_,_,_,(.refl _ _ _),Res.of [0] rfl (XrK (XpU Xcc) (Xip rfl) Xg3) (by decide) (XrX (by decide) Xg1) Xg2⟩
 clear h;intro hb h;conv=>whnf
 replace h:=XaJ.elim h;obtain ⟨hb,h⟩:=h
 first|(refine req.intro hb ?_;conv=>whnf)|skip
 replace h:=Xal.elim h;obtain ⟨b1,hy,h⟩:=h
 refine rdS.intro hy ?_
 conv=>whnf
 refine br.h h ?_ ?_ ?_
 ·rfl
 ·clear h;intro hb h;conv=>whnf
  cases h;simp only [Sum.elim_inl,XhG] at hc
  exact Xj4 hc [(0,0)] rfl
 clear h;intro hb h;conv=>whnf
 let t:Bool:=decide ((wI .i64 (i+1))≥(options.length:Int))
 refine br.h h ?_ ?_ ?_
 ·rfl
 ·clear h;intro hb h;conv=>whnf
  all_goals (cases h;cases hc)
  all_goals exact ⟨_,_,_,(.val (.tup (.cons (.nil _ _) (.cons (.same _) .nil))) (.refl _ _ _)),Res.of [1] rfl (XrK (XpU Xcc) (Xip rfl) Xg3) (by decide) (XrX (by decide) Xg1) Xg2⟩
 clear h;intro hb h;conv=>whnf
 replace h:=XaJ.elim h;obtain ⟨hb,h⟩:=h
 first|(refine req.intro hb ?_;conv=>whnf)|skip
 replace h:=Xal.elim h;obtain ⟨b2,hy,h⟩:=h
 refine rdS.intro hy ?_
 conv=>whnf
 refine br.h h ?_ ?_ ?_
 ·rfl
 ·clear h;intro hb h;conv=>whnf
  all_goals (cases h;cases hc)
  all_goals exact ⟨_,_,_,(.val (.tup (.cons (.nil _ _) (.cons (.same _) .nil))) (.refl _ _ _)),Res.of [1] rfl (XrK (XpU Xcc) (Xip rfl) Xg3) (by decide) (XrX (by decide) Xg1) Xg2⟩
 clear h;intro hb h;conv=>whnf
 replace h:=XaJ.elim h;obtain ⟨hb,h⟩:=h
 first|(refine req.intro hb ?_;conv=>whnf)|skip
 replace h:=Xal.elim h;obtain ⟨b3,hy,h⟩:=h
 refine rdS.intro hy ?_
 conv=>whnf
 let t1:Bool:=decide ((wI .i64 (b3.toNat:Int))>(wI .i64 ((options.length:Int) - i)))
 refine br.h h ?_ ?_ ?_
 ·rfl
 ·clear h;intro hb h;conv=>whnf
  all_goals (cases h;cases hc)
  all_goals exact ⟨_,_,_,(.val (.tup (.cons (.nil _ _) (.cons (.same _) .nil))) (.refl _ _ _)),Res.of [1] rfl (XrK (XpU Xcc) (Xip rfl) Xg3) (by decide) (XrX (by decide) Xg1) Xg2⟩
 clear h;intro hb h;conv=>whnf
 replace h:=XaJ.elim h;obtain ⟨hb,h⟩:=h
 first|(refine req.intro hb ?_;conv=>whnf)|skip
 replace h:=Xal.elim h;obtain ⟨b4,hy,h⟩:=h
 refine rdS.intro hy ?_
 conv=>whnf
 replace h:=XaJ.elim h;obtain ⟨hb,h⟩:=h
 first|(refine req.intro hb ?_;conv=>whnf)|skip
 replace h:=Xal.elim h;obtain ⟨b5,hy,h⟩:=h
 refine rdS.intro hy ?_
 conv=>whnf
 replace h:=XaJ.elim h;obtain ⟨hb,h⟩:=h
 first|(refine req.intro hb ?_;conv=>whnf)|skip
 let t2:List UInt8:=(options.drop (wI .i64 (i+2)).toNat).take ((wI .i64 (i+(wI .i64 (b4.toNat:Int)))).toNat - (wI .i64 (i+2)).toNat)
 replace h:=XaJ.elim h;obtain ⟨hb,h⟩:=h
 refine req.intro (XsO (of_decide_eq_true hb) (by first|rfl|omega|(simp;done)|(simp;omega)|(simp at *;omega)) rfl (by first|rfl|omega|(simp;done)|(simp;omega)|(simp at *;omega)) (by first|rfl|exact Xfq _ _|exact XhN _|exact XhV _|exact Xne (by first|exact Xeu|exact XdN|exact Xdm|exact XcT|exact Xc6|exact XcR|exact Xdu|exact Xex|exact Xe5|exact XeC|exact XdK|exact Xeq|exact Xe1) _|(rw [Xc4];exact Xfq _ _)|simp [Xfq,XhN,XhV,XiO,XiI,XjM,XjL]) rfl) ?_
 conv=>whnf
 let row:List Xby:=out1++[Xby.mk (wI .i64 (b5.toNat:Int)) t2 (wI .i64 (i+2))]
 refine XBY Xdc (xs:=out1) (ys:=[Xby.mk (wI .i64 (b5.toNat:Int)) t2 (wI .i64 (i+2))]) rfl (by first|rfl|omega) (by first|(simp;done)|(simp;omega)) (by first|(simp;done)|(simp;omega)) ?_
 conv=>whnf
 cases h;simp only [Sum.elim_inl,XhG] at hc
 exact Xj4 hc [(0,18)] rfl
theorem XAx (hS:Xai Tryz.prog (Xav (XpG))) (options:List UInt8) (res:(List Xby)×Int) (h:XhC options=some res) :
 XaI Tryz.prog 167 0 ⟨⟨167,73,[(0,.string ⟨⟨options⟩⟩)],[.code Xwf],[],false,none⟩,[],[],0⟩ (fun v H _=>Res 0 (XpN res) v H):=by
 refine XaI.nilW (R:=fun v' H'=>Res 0 (XpN res) v' H') ?_
 unfold XhC at h
 refine Xa7 Xao hS true 3000 ?_
 conv=>whnf
 have hl:=Xwm hS _ res _ _ _ h rfl;simp only [XhG] at hl
 refine XaI.nilT 4 3 ?_
 exact Xj4 hl [(0,0)] rfl
theorem ok167 (hS:Xai Tryz.prog (Xav (XpG))):Xar Tryz.prog 167 (XTf (XhC)):=by
 refine Xar.Xay Xao (fun ar os r ha hr=>?_) ⟨Tryz.f167,rfl,by decide,rfl⟩
 replace hr:r167 (XhC) ar (XaD os)=some r:=hr
 unfold r167 at hr
 generalize hc:XaD os=C at hr
 replace hr:=dV.elim hr;obtain ⟨v0,l1,y0,rfl,e0,hr⟩:=hr;obtain rfl:=XbH _ _ e0
 replace hr:=Xc2 hr;obtain ⟨rfl,rfl,x,h,rfl⟩:=hr
 obtain rfl:=Xas hc
 exact ⟨_,rfl,XAx hS _ x h⟩
def XbD:(List UInt8)→Option ((List Xby)×Int):=XhC
theorem XvC:Xar Tryz.prog 167 (XTf XbD):=ok167 (Xai.XaW trivial)
end Go.Vm.Code
namespace Go.Vm.Code
open Go Go.Vm
structure Xvu where
 Kind:Int
 Data:List UInt8
 At:Int
def toR (o:Xvu):Xby:=⟨o.Kind,o.Data,o.At⟩
def ofR (o:Xby):Xvu:=⟨o.Kind,o.Data,o.At⟩
theorem XtS (c:List Xby):(c.map ofR).map toR=c:=by
 rw [List.map_map,show toR∘ofR=id from rfl,List.map_id]
def Xhq (s:List UInt8):Nat→Nat→List Xvu→List Xvu×Int
 | 0,_,out=>(out,0)
 | n+1,i,out=>match s[i]? with
   | none=>(out,0)
   | some b=>if b=0 then (out,0) else if b=1 then Xhq s n (i+1) out else match s[i+1]? with
     | none=>([],3)
     | some k=>if k.toNat<2 then ([],3) else if s.length - i<k.toNat then ([],3) else
        Xhq s (n+1 - k.toNat) (i+k.toNat) (out++[⟨(b.toNat:Int),(s.drop (i+2)).take (k.toNat - 2),((i+2:Nat):Int)⟩])
termination_by n=>n
decreasing_by all_goals omega
def Xkz (s:List UInt8):List Xvu×Int:=Xhq s s.length 0 []
def strip (o:Xvu):XbG:=⟨o.Kind,o.Data⟩
theorem X2r {s:List UInt8} (hs:s.length<2^20):XbD s=some ((Xkz s).1.map toR,(Xkz s).2):=by
 unfold XbD XhC Xkz
 have key:=iter_eq (step:=fun (st:Int×List Xby)=>XfM s st.1 st.2) (fun st=>((Xhq s (s.length - st.1.toNat) st.1.toNat (st.2.map ofR)).1.map toR,(Xhq s (s.length - st.1.toNat) st.1.toNat (st.2.map ofR)).2)) (fun st=>0≤st.1∧st.1≤s.length∧(st.2.length:Int)≤st.1) (fun st=>s.length - st.1.toNat) ?_ FUEL (0,[]) ⟨by simp,by simp,by simp⟩ (by rw [XeE];simp only;omega)
 ·rw [key];rfl
 rintro ⟨p,out⟩ ⟨g1,g2,g3⟩
 simp only at g1 g2 g3 ⊢
 obtain ⟨i,rfl⟩:=Int.eq_ofNat_of_zero_le g1
 simp only [Int.toNat_natCast]
 unfold XfM
 by_cases hi:i<s.length
 ·obtain ⟨n,hn⟩:∃ n,s.length - i=n+1:=⟨s.length - i - 1,by omega⟩
  have e:s[i]?=some s[i]:=List.getElem?_eq_getElem hi
  rw [XaS (by omega),Xaz (by omega),Int.toNat_natCast,e,Option.bind_some,hn,Xhq,e]
  by_cases h0:s[i]=0
  ·refine .inl ?_
   rw [show ((s[i].toNat:Int) !=0)=false by rw [h0];rfl,cond_false]
   simp only [h0,if_true,XtS]
  rw [show ((s[i].toNat:Int) !=0)=true by simp;intro hx;exact h0 (UInt8.toNat_inj.1 (by simpa using hx)),cond_true,Xaz (by omega),Option.bind_some]
  simp only [if_neg h0]
  by_cases h1:s[i]=1
  ·refine .inr ⟨(((i+1:Nat):Int),out),?_,⟨by simp only;omega,by simp only;omega,by simp only;omega⟩,by simp only;omega,?_⟩
   ·rw [show ((s[i].toNat:Int)==1)=true by rw [h1];rfl,cond_true,Xcg (by omega) (by omega)];rfl
   ·simp only [Int.toNat_natCast,if_pos h1]
    rw [show s.length - (i+1)=n by omega]
  rw [show ((s[i].toNat:Int)==1)=false by simp;intro hx;exact h1 (UInt8.toNat_inj.1 (by simp;omega)),cond_false]
  simp only [if_neg h1]
  rw [Xcg (n:=(i:Int)+1) (by omega) (by omega)]
  by_cases h2:s.length≤i+1
  ·refine .inl ?_
   rw [XaS (by omega),List.getElem?_eq_none (by omega)];rfl
  have hi1:i+1<s.length:=by omega
  have e1:s[i+1]?=some s[i+1]:=List.getElem?_eq_getElem hi1
  have b1:=s[i+1].toNat_lt
  rw [XaO (by omega),show ((i:Int)+1).toNat=i+1 by omega,e1,Xaz (by omega),Option.bind_some]
  simp only [Option.bind_some]
  by_cases h3:s[i+1].toNat<2
  ·refine .inl ?_
   rw [XaS (by omega),if_pos h3];rfl
  rw [XaO (by omega),if_neg h3,Xaz (by omega),Xcg (n:=(s[i+1].toNat:Int)) (by omega) (by omega),Xcg (n:=(s.length:Int) - i) (by omega) (by omega)]
  by_cases h4:s.length - i<s[i+1].toNat
  ·refine .inl ?_
   rw [XaS (by omega),if_pos h4];rfl
  refine .inr ⟨(((i+s[i+1].toNat:Nat):Int),out++[⟨(s[i].toNat:Int),(s.drop (i+2)).take (s[i+1].toNat - 2),((i+2:Nat):Int)⟩]),?_,⟨by simp only;omega,by simp only;omega,by simp;omega⟩,by simp only;omega,?_⟩
  ·have b0:=s[i].toNat_lt
   rw [XaO (by omega),Xaz (by omega),Xaz (by omega),Xcg (n:=(i:Int)+s[i+1].toNat) (by omega) (by omega),Xcg (n:=(i:Int)+2) (by omega) (by omega),Xcg (n:=(s[i].toNat:Int)) (by omega) (by omega),Xaz (by omega),Xaz (by omega),show ((i:Int)+s[i+1].toNat).toNat - ((i:Int)+2).toNat=s[i+1].toNat - 2 by omega,show ((i:Int)+2).toNat=i+2 by omega];rfl
  ·rw [if_neg h4]
   simp only [Int.toNat_natCast]
   rw [show s.length - (i+s[i+1].toNat)=n+1 - s[i+1].toNat by omega,List.map_append];rfl
 ·refine .inl ?_
  rw [XaO (by omega),show s.length - i=0 by omega,Xhq,XtS]
theorem XrE (s:List UInt8):∀ (n i:Nat) (o1 o2:List Xvu),o1.map strip=o2.map strip→(Xhq s n i o1).1.map strip=(Xhq s n i o2).1.map strip∧(Xhq s n i o1).2=(Xhq s n i o2).2:=by
 intro n
 induction n using Nat.strongRecOn with
 | ind n ih=>
   intro i o1 o2 h
   cases n with
   | zero=>rw [Xhq,Xhq];exact ⟨h,rfl⟩
   | succ n=>
     rw [Xhq,Xhq]
     split
     ·exact ⟨h,rfl⟩
     split
     ·exact ⟨h,rfl⟩
     split
     ·exact ih n (by omega) _ _ _ h
     split
     ·exact ⟨rfl,rfl⟩
     split
     ·exact ⟨rfl,rfl⟩
     split
     ·exact ⟨rfl,rfl⟩
     exact ih _ (by omega) _ _ _ (by simp [h,strip])
def Xj2 (o:XbG):Xvu:=⟨o.Kind,o.Data,0⟩
theorem Xq0 (c:List XbG):(c.map Xj2).map strip=c:=by
 rw [List.map_map,show strip∘Xj2=id from rfl,List.map_id]
theorem X3r {s:List UInt8} (hs:s.length<2^20):XbE s=some ((Xkz s).1.map strip,(Xkz s).2):=by
 unfold XbE XhB Xkz
 have key:=iter_eq (step:=fun (st:Int×List XbG)=>Xf2 s st.1 st.2) (fun st=>((Xhq s (s.length - st.1.toNat) st.1.toNat (st.2.map Xj2)).1.map strip,(Xhq s (s.length - st.1.toNat) st.1.toNat (st.2.map Xj2)).2)) (fun st=>0≤st.1∧st.1≤s.length∧(st.2.length:Int)≤st.1) (fun st=>s.length - st.1.toNat) ?_ FUEL (0,[]) ⟨by simp,by simp,by simp⟩ (by rw [XeE];simp only;omega)
 ·rw [key];rfl
 rintro ⟨p,out⟩ ⟨g1,g2,g3⟩
 simp only at g1 g2 g3 ⊢
 obtain ⟨i,rfl⟩:=Int.eq_ofNat_of_zero_le g1
 simp only [Int.toNat_natCast]
 unfold Xf2
 by_cases hi:i<s.length
 ·obtain ⟨n,hn⟩:∃ n,s.length - i=n+1:=⟨s.length - i - 1,by omega⟩
  have e:s[i]?=some s[i]:=List.getElem?_eq_getElem hi
  rw [XaS (by omega),Xaz (by omega),Int.toNat_natCast,e,Option.bind_some,hn,Xhq,e]
  by_cases h0:s[i]=0
  ·refine .inl ?_
   rw [show ((s[i].toNat:Int)==0)=true by rw [h0];rfl,cond_true]
   simp only [h0,if_true,Xq0]
  rw [show ((s[i].toNat:Int)==0)=false by simp;intro hx;exact h0 (UInt8.toNat_inj.1 (by simpa using hx)),cond_false]
  simp only [if_neg h0]
  by_cases h1:s[i]=1
  ·refine .inr ⟨(((i+1:Nat):Int),out),?_,⟨by simp only;omega,by simp only;omega,by simp only;omega⟩,by simp only;omega,?_⟩
   ·rw [show ((s[i].toNat:Int)==1)=true by rw [h1];rfl,cond_true,Xcg (by omega) (by omega)];rfl
   ·simp only [Int.toNat_natCast,if_pos h1]
    rw [show s.length - (i+1)=n by omega]
  rw [show ((s[i].toNat:Int)==1)=false by simp;intro hx;exact h1 (UInt8.toNat_inj.1 (by simp;omega)),cond_false]
  simp only [if_neg h1]
  rw [Xcg (n:=(i:Int)+1) (by omega) (by omega)]
  by_cases h2:s.length≤i+1
  ·refine .inl ?_
   rw [XaO (by omega),List.getElem?_eq_none (by omega)];rfl
  have hi1:i+1<s.length:=by omega
  have e1:s[i+1]?=some s[i+1]:=List.getElem?_eq_getElem hi1
  have b1:=s[i+1].toNat_lt
  rw [XaS (by omega),show ((i:Int)+1).toNat=i+1 by omega,e1,Xaz (by omega),Option.bind_some]
  simp only [Option.bind_some]
  rw [Xcg (n:=(s[i+1].toNat:Int)) (by omega) (by omega)]
  by_cases h3:s[i+1].toNat<2
  ·refine .inl ?_
   rw [XaS (by omega),if_pos h3];rfl
  rw [XaO (by omega),if_neg h3,Xcg (n:=(s.length:Int) - i) (by omega) (by omega)]
  by_cases h4:s.length - i<s[i+1].toNat
  ·refine .inl ?_
   rw [XaS (by omega),if_pos h4];rfl
  refine .inr ⟨(((i+s[i+1].toNat:Nat):Int),out++[⟨(s[i].toNat:Int),(s.drop (i+2)).take (s[i+1].toNat - 2)⟩]),?_,⟨by simp only;omega,by simp only;omega,by simp;omega⟩,by simp only;omega,?_⟩
  ·have b0:=s[i].toNat_lt
   rw [XaO (by omega),Xaz (by omega),Xcg (n:=(i:Int)+s[i+1].toNat) (by omega) (by omega),Xcg (n:=(i:Int)+2) (by omega) (by omega),Xcg (n:=(s[i].toNat:Int)) (by omega) (by omega),Xaz (by omega),XaO (by omega),Xaz (by omega),show ((i:Int)+s[i+1].toNat).toNat - ((i:Int)+2).toNat=s[i+1].toNat - 2 by omega,show ((i:Int)+2).toNat=i+2 by omega];rfl
  ·rw [if_neg h4]
   simp only [Int.toNat_natCast]
   rw [show s.length - (i+s[i+1].toNat)=n+1 - s[i+1].toNat by omega]
   have:=XrE s (n+1 - s[i+1].toNat) (i+s[i+1].toNat) ((out++[(⟨(s[i].toNat:Int),(s.drop (i+2)).take (s[i+1].toNat - 2)⟩:XbG)]).map Xj2) (out.map Xj2++[(⟨(s[i].toNat:Int),(s.drop (i+2)).take (s[i+1].toNat - 2),((i+2:Nat):Int)⟩:Xvu)]) (by simp [strip,Xj2])
   rw [this.1,this.2]
 ·refine .inl ?_
  rw [XaO (by omega),show s.length - i=0 by omega,Xhq,Xq0]
theorem Xrv {A B:List UInt8} {p:Nat} {c:Int} (hA:A.length=p):Xpm (A++(be 0 2++B)) (p:Int) 2 c=A++(be c.toNat 2++B):=by
 subst hA
 unfold Xpm
 rw [if_pos (by simp only [List.length_append,Xru];omega),Int.toNat_natCast,List.take_left,show ((A.length:Int)+2).toNat=A.length+2 by omega,←List.drop_drop,List.drop_left,show (be 0 2++B).drop 2=B from rfl,List.append_assoc];rfl
def ckN (W:Nat):Nat:=65535 - norm W
theorem XCI (a b:Nat) (hb:b<65536):be (a*65536+b) 4=be a 2++be b 2:=by
 rw [XlF _ 2 2,show (256:Nat)^2=65536 from rfl,show (a*65536+b)/65536=a by omega,←XmM (a*65536+b) 2,show (256:Nat)^2=65536 from rfl,show (a*65536+b)%65536=b by omega]
theorem XDZ (a b:Nat) (hb:b<4294967296):be (a*4294967296+b) 8=be a 4++be b 4:=by
 rw [XlF _ 4 4,show (256:Nat)^4=4294967296 from rfl,show (a*4294967296+b)/4294967296=a by omega,←XmM (a*4294967296+b) 4,show (256:Nat)^4=4294967296 from rfl,show (a*4294967296+b)%4294967296=b by omega]
theorem YcS (a b:Nat) (hb:b<256):be (a*256+b) 2=be a 1++be b 1:=by
 rw [XlF _ 1 1,show (256:Nat)^1=256 from rfl,show (a*256+b)/256=a by omega,←XmM (a*256+b) 1,show (256:Nat)^1=256 from rfl,show (a*256+b)%256=b by omega]
end Go.Vm.Code
namespace Go.Vm.Code
open Go Go.Vm Go.Proofs
set_option maxRecDepth 100000
set_option maxHeartbeats 4000000
set_option linter.unusedVariables false
def Xes (most:Int) (l:List Int) (t9:Int):Option (Sum Int Bool):=
 cond (decide (t9<(l.length:Int)))
  (
  XaJ (decide ((0:Int)≤t9∧t9<(l.length:Int))) <|
  (l[t9.toNat]?).bind fun (e:Int)=>
  cond (decide (e<0))
   (
   some (.inr (false)))
   (
   cond (decide (e>most))
    (
    some (.inr (false)))
    (
    some (.inl (wI .i64 (t9+1))))))
  (
  some (.inr (true)))
def XfX (most:Int) (l:List Int):Option Bool:=
 iter (fun st=>Xes most l st) FUEL 0
def XrA (x:Bool):Xca:=⟨.bool x,[],[none]⟩
def r175 (g:Int→(List Int)→Option Bool):Dec:=dV (asI .i64) fun (y0:Int)=>dSl 0 1 (unL (asI .i64)) fun (y1:List Int)=>XcO (ofG (g y0 y1) XrA)
theorem X6I {g:Int→(List Int)→Option Bool} {y0:Int} {y1:List Int} {x:Bool} (hx:g y0 y1=some x):r175 g [.int .i64 y0,.slice (some ⟨0,0,none⟩) y1.length 1] [some (vI .i64 y1)]=some (XrA x):=(XaT (Xc3 _)).trans ((XqN (XsI _ _)).trans (Xa0 hx))
def s175 (g:Int→(List Int)→Option Bool):Xbr:=⟨[.v,.sl 1],r175 g⟩
theorem Xvi {g:Int→(List Int)→Option Bool} {y0:Int} {y1:List Int} {x:Bool} (hx:g y0 y1=some x):(s175 g).run [.int .i64 y0,.slice (some ⟨0,0,none⟩) y1.length 1] [some (vI .i64 y1)]=some (XrA x):=X6I hx
abbrev Xqa:List (Nat×Xbr):=[]
def XiN (most:Int) (l:List Int) (t9:Int):VM:=
 ⟨⟨175,21,[(0,.int .i64 most),(7,.slice (some ⟨0,0,none⟩) l.length 1),(8,.int .i64 (l.length:Int)),(9,.int .i64 t9)],[.code Xqb,.inLoop Xqb,.inBlock 0,.code XtI],[],false,none⟩,[],[(0,.row false (vI .i64 l))],1⟩
theorem Xul (hS:Xai Tryz.prog (Xav (Xqa))) (most:Int) (l:List Int) (res:Bool):∀ fuel (st:Int) (o:Bool),iter (fun st=>Xes most l st) fuel st=some o→(o=res) →
 XaI Tryz.prog 175 1 (XiN most l st) (fun v H _=>Res 1 (XrA res) v H):=by
 intro fuel st o h hc
 refine XbX (head:=fun st=>XiN most l st) (C:=fun o=>(o=res)) ?_ fuel st o h hc
 clear h hc o st fuel
 intro t9 o h hc
 replace h:Xes most l t9=some o:=h
 show XaI Tryz.prog 175 1 (XiN most l t9) (fun v H _=>Res 1 (XrA res) v H)
 unfold Xes at h
 refine Xa7 Xao hS true 3000 ?_
 conv=>whnf
 refine br.h2 h ?_ ?_ ?_
 ·rfl
 ·clear h;intro hb h;conv=>whnf
  all_goals (cases h;cases hc)
  all_goals exact Res.of [] rfl Xg3 (by decide) Xg1 (XBs Xg2)
 clear h;intro hb h;conv=>whnf
 replace h:=XaJ.elim h;obtain ⟨hb,h⟩:=h
 first|(refine req.intro hb ?_;conv=>whnf)|skip
 replace h:=Xal.elim h;obtain ⟨e,hy,h⟩:=h
 refine rd.I hy (by first|rfl|(rw [Nat.zero_add,Nat.mul_one];try rfl;done)|omega) ?_
 conv=>whnf
 refine br.h h ?_ ?_ ?_
 ·rfl
 ·clear h;intro hb h;conv=>whnf
  all_goals (cases h;cases hc)
  all_goals exact Res.of [] rfl Xg3 (by decide) Xg1 (XBs Xg2)
 clear h;intro hb h;conv=>whnf
 refine br.h h ?_ ?_ ?_
 ·rfl
 ·clear h;intro hb h;conv=>whnf
  all_goals (cases h;cases hc)
  all_goals exact Res.of [] rfl Xg3 (by decide) Xg1 (XBs Xg2)
 clear h;intro hb h;conv=>whnf
 cases h;simp only [Sum.elim_inl,XiN] at hc
 exact Xj4 hc [(0,0)] rfl
theorem Xxb (hS:Xai Tryz.prog (Xav (Xqa))) (most:Int) (l:List Int) (res:Bool) (h:XfX most l=some res) :
 XaI Tryz.prog 175 1 ⟨⟨175,21,[(0,.int .i64 most),(1,.slice (some ⟨0,0,none⟩) l.length 1)],[.code XsF],[],false,none⟩,[],[(0,.row false (vI .i64 l))],1⟩ (fun v H _=>Res 1 (XrA res) v H):=by
 unfold XfX at h
 refine Xa7 Xao hS true 3000 ?_
 conv=>whnf
 have hl:=Xul hS _ _ res _ _ _ h rfl;simp only [XiN] at hl
 exact Xj4 hl [(0,0)] rfl
theorem ok175 (hS:Xai Tryz.prog (Xav (Xqa))):Xar Tryz.prog 175 (s175 (XfX)):=by
 refine Xar.Xay Xao (fun ar os r ha hr=>?_) ⟨Tryz.f175,rfl,by decide,rfl⟩
 replace hr:r175 (XfX) ar (XaD os)=some r:=hr
 unfold r175 at hr
 generalize hc:XaD os=C at hr
 replace hr:=dV.elim hr;obtain ⟨v0,l1,y0,rfl,e0,hr⟩:=hr;obtain rfl:=XbS _ _ _ e0
 have hq:=dSl.elim hr;clear hr;obtain ⟨c1,l2,C,y1,rfl,rfl,e1,hr⟩:=hq;obtain rfl:=Xt0 e1
 replace hr:=Xc2 hr;obtain ⟨rfl,rfl,x,h,rfl⟩:=hr
 obtain ⟨os,rfl,ha,hc⟩:=Xc5 ha hc
 obtain rfl:=Xas hc
 exact ⟨_,rfl,Xxb hS _ _ x h⟩
def XbZ:Int→(List Int)→Option Bool:=XfX
theorem XQ9:Xar Tryz.prog 175 (s175 XbZ):=ok175 (Xai.XaW trivial)
def Xey (XbZ:Int→(List Int)→Option Bool) (ha0:Xak):Option Bool:=
 (XbZ 65535 [ha0.SPort,ha0.DPort,ha0.Window,ha0.Urgent]).bind fun w=>
 cond (w)
  (
  (XbZ 255 [ha0.Flags]).bind fun w1=>
  cond (w1)
   (
   cond (((ha0.Options.length:Int).tmod 4)==0)
    (
    some (decide ((ha0.Options.length:Int)≤40)))
    (
    some (false)))
   (
   some (false)))
  (
  some (false))
def XwY (x:Bool):Xca:=⟨.bool x,[],[]⟩
def r126 (g:Xak→Option Bool):Dec:=dV Xfa fun (y0:Xak)=>XcO (ofG (g y0) XwY)
theorem X0E {g:Xak→Option Bool} {y0:Xak} {x:Bool} (hx:g y0=some x):r126 g [.agg ⟨[.int .i64 y0.SPort,.int .i64 y0.DPort,.int .u32 y0.Seq,.int .u32 y0.Ack,.int .i64 y0.Flags,.int .i64 y0.Window,.int .i64 y0.Urgent,.string ⟨⟨y0.Options⟩⟩]⟩] []=some (XwY x):=(XaT (Xgf _)).trans (Xa0 hx)
def s126 (g:Xak→Option Bool):Xbr:=⟨[.v],r126 g⟩
theorem XRa {g:Xak→Option Bool} {y0:Xak} {x:Bool} (hx:g y0=some x):(s126 g).run [.agg ⟨[.int .i64 y0.SPort,.int .i64 y0.DPort,.int .u32 y0.Seq,.int .u32 y0.Ack,.int .i64 y0.Flags,.int .i64 y0.Window,.int .i64 y0.Urgent,.string ⟨⟨y0.Options⟩⟩]⟩] []=some (XwY x):=X0E hx
abbrev XuC (XbZ:Int→(List Int)→Option Bool):List (Nat×Xbr):=[(175,s175 XbZ)]
theorem XzS (XbZ:Int→(List Int)→Option Bool) (hS:Xai Tryz.prog (Xav (XuC XbZ))) (ha0:Xak) (res:Bool) (h:Xey XbZ ha0=some res) :
 XaI Tryz.prog 126 0 ⟨⟨126,32,[(0,.agg ⟨[.int .i64 ha0.SPort,.int .i64 ha0.DPort,.int .u32 ha0.Seq,.int .u32 ha0.Ack,.int .i64 ha0.Flags,.int .i64 ha0.Window,.int .i64 ha0.Urgent,.string ⟨⟨ha0.Options⟩⟩]⟩)],[.code XCe],[],false,none⟩,[],[],0⟩ (fun v H _=>Res 0 (XwY res) v H):=by
 unfold Xey at h
 refine Xa7 Xao hS true 3000 ?_
 conv=>whnf
 replace h:=Xal.elim h;obtain ⟨w,hy,h⟩:=h
 refine XaK.Xbb [] (Xaw (aqs:=[.int .i64 65535,.slice (some ⟨0,0,none⟩) ([ha0.SPort,ha0.DPort,ha0.Window,ha0.Urgent]:List Int).length 1]) (ws:=[.win 1 0 (4*1) false]) (n:=0) (m:=0) (t':=2) (Xau rfl rfl (Xau (by first|rfl|exact XjX rfl rfl (by first|rfl|omega) (by first|rfl|(simp;done))|exact Xle rfl rfl (by first|rfl|omega) (by first|rfl|omega) (by first|omega|(simp at *;omega))) rfl Xbf)) rfl (by rfl) (Xvi hy) rfl rfl rfl rfl (XiT rfl Xbe) Xbc rfl) ?_
 conv=>whnf
 refine br.h2 h ?_ ?_ ?_
 ·rfl
 ·clear h;intro hb h;conv=>whnf
  all_goals (cases h;exact Res.z rfl rfl rfl)
 clear h;intro hb h;conv=>whnf
 replace h:=Xal.elim h;obtain ⟨w1,hy,h⟩:=h
 refine XaK.Xbb [] (Xaw (aqs:=[.int .i64 255,.slice (some ⟨0,0,none⟩) ([ha0.Flags]:List Int).length 1]) (ws:=[.win 2 0 (1*1) false]) (n:=0) (m:=0) (t':=3) (Xau rfl rfl (Xau (by first|rfl|exact XjX rfl rfl (by first|rfl|omega) (by first|rfl|(simp;done))|exact Xle rfl rfl (by first|rfl|omega) (by first|rfl|omega) (by first|omega|(simp at *;omega))) rfl Xbf)) rfl (by rfl) (Xvi hy) rfl rfl rfl rfl (XiT rfl Xbe) Xbc rfl) ?_
 conv=>whnf
 refine br.h2 h ?_ ?_ ?_
 ·rfl
 ·clear h;intro hb h;conv=>whnf
  all_goals (cases h;exact Res.z rfl rfl rfl)
 clear h;intro hb h;conv=>whnf
 refine br.h h ?_ ?_ ?_
 ·rfl
 ·clear h;intro hb h;conv=>whnf
  all_goals (cases h;exact Res.z rfl rfl rfl)
 clear h;intro hb h;conv=>whnf
 all_goals (cases h;exact Res.z rfl rfl rfl)
theorem ok126 (XbZ:Int→(List Int)→Option Bool) (hS:Xai Tryz.prog (Xav (XuC XbZ))):Xar Tryz.prog 126 (s126 (Xey XbZ)):=by
 refine Xar.Xay Xao (fun ar os r ha hr=>?_) ⟨Tryz.f126,rfl,by decide,rfl⟩
 replace hr:r126 (Xey XbZ) ar (XaD os)=some r:=hr
 unfold r126 at hr
 generalize hc:XaD os=C at hr
 replace hr:=dV.elim hr;obtain ⟨v0,l1,y0,rfl,e0,hr⟩:=hr;obtain rfl:=Xfy _ _ e0
 replace hr:=Xc2 hr;obtain ⟨rfl,rfl,x,h,rfl⟩:=hr
 obtain rfl:=Xas hc
 exact ⟨_,rfl,XzS XbZ hS _ x h⟩
def XbI:Xak→Option Bool:=Xey XbZ
theorem XLC:Xar Tryz.prog 126 (s126 XbI):=ok126 XbZ (Xai.XaW ⟨XQ9,trivial⟩)
def XdI (Xan:Int→Int→Option (List UInt8)) (ha0:Xak):Option (List UInt8):=
 let t:=wI .i64 (20+(ha0.Options.length:Int))
 let t1:=Xjh .u64 (wI .u64 ((wI .u64 ha0.SPort)*2^16)) (wI .u64 ha0.DPort)
 (Xan t1 4).bind fun p=>
 let t2:=Xjh .u64 (wI .u64 ((wI .u64 ha0.Seq)*2^32)) (wI .u64 ha0.Ack)
 (Xan t2 8).bind fun p1=>
 let t3:=wI .u64 ((wI .u64 ((wI .u64 t).tdiv 4))*2^12)
 (Xan (Xjh .u64 t3 (wI .u64 ha0.Flags)) 2).bind fun p2=>
 (Xan (wI .u64 ha0.Window) 2).bind fun p3=>
 XaJ (decide (p2.length+p3.length<2^63)) <|
 XaJ (decide (p.length+p1.length<2^63)) <|
 XaJ (decide ((p++p1).length+(p2++p3).length<2^63)) <|
 (Xan (wI .u64 ha0.Urgent) 4).bind fun p4=>
 XaJ (decide (((p++p1)++(p2++p3)).length+p4.length<2^63)) <|
 XaJ (decide ((((p++p1)++(p2++p3))++p4).length+ha0.Options.length<2^63)) <|
 let t4:=(((p++p1)++(p2++p3))++p4)++ha0.Options
 some (t4)
def XAT (x:List UInt8):Xca:=⟨.string ⟨⟨x⟩⟩,[],[]⟩
def r127 (g:Xak→Option (List UInt8)):Dec:=dV Xfa fun (y0:Xak)=>XcO (ofG (g y0) XAT)
theorem X3g {g:Xak→Option (List UInt8)} {y0:Xak} {x:List UInt8} (hx:g y0=some x):r127 g [.agg ⟨[.int .i64 y0.SPort,.int .i64 y0.DPort,.int .u32 y0.Seq,.int .u32 y0.Ack,.int .i64 y0.Flags,.int .i64 y0.Window,.int .i64 y0.Urgent,.string ⟨⟨y0.Options⟩⟩]⟩] []=some (XAT x):=(XaT (Xgf _)).trans (Xa0 hx)
def s127 (g:Xak→Option (List UInt8)):Xbr:=⟨[.v],r127 g⟩
theorem XIT {g:Xak→Option (List UInt8)} {y0:Xak} {x:List UInt8} (hx:g y0=some x):(s127 g).run [.agg ⟨[.int .i64 y0.SPort,.int .i64 y0.DPort,.int .u32 y0.Seq,.int .u32 y0.Ack,.int .i64 y0.Flags,.int .i64 y0.Window,.int .i64 y0.Urgent,.string ⟨⟨y0.Options⟩⟩]⟩] []=some (XAT x):=X3g hx
abbrev Xv7 (Xan:Int→Int→Option (List UInt8)):List (Nat×Xbr):=[(72,s72 Xan)]
theorem XAn (Xan:Int→Int→Option (List UInt8)) (hS:Xai Tryz.prog (Xav (Xv7 Xan))) (ha0:Xak) (res:List UInt8) (h:XdI Xan ha0=some res) :
 XaI Tryz.prog 127 0 ⟨⟨127,56,[(0,.agg ⟨[.int .i64 ha0.SPort,.int .i64 ha0.DPort,.int .u32 ha0.Seq,.int .u32 ha0.Ack,.int .i64 ha0.Flags,.int .i64 ha0.Window,.int .i64 ha0.Urgent,.string ⟨⟨ha0.Options⟩⟩]⟩)],[.code Xvb],[],false,none⟩,[],[],0⟩ (fun v H _=>Res 0 (XAT res) v H):=by
 unfold XdI at h
 refine Xa7 Xao hS true 3000 ?_
 conv=>whnf
 let t:Int:=wI .i64 (20+(ha0.Options.length:Int))
 let t1:Int:=Xjh .u64 (wI .u64 ((wI .u64 ha0.SPort)*2^16)) (wI .u64 ha0.DPort)
 replace h:=Xal.elim h;obtain ⟨p,hy,h⟩:=h
 refine XaK.q rfl rfl (Xg0 hy) rfl rfl rfl ?_
 conv=>whnf
 let t2:Int:=Xjh .u64 (wI .u64 ((wI .u64 ha0.Seq)*2^32)) (wI .u64 ha0.Ack)
 replace h:=Xal.elim h;obtain ⟨p1,hy,h⟩:=h
 refine XaK.q rfl rfl (Xg0 hy) rfl rfl rfl ?_
 conv=>whnf
 let t3:Int:=wI .u64 ((wI .u64 ((wI .u64 t).tdiv 4))*2^12)
 replace h:=Xal.elim h;obtain ⟨p2,hy,h⟩:=h
 refine XaK.q rfl rfl (Xg0 hy) rfl rfl rfl ?_
 conv=>whnf
 replace h:=Xal.elim h;obtain ⟨p3,hy,h⟩:=h
 refine XaK.q rfl rfl (Xg0 hy) rfl rfl rfl ?_
 conv=>whnf
 replace h:=XaJ.elim h;obtain ⟨hb,h⟩:=h
 first|(refine req.intro hb ?_;conv=>whnf)|skip
 replace h:=XaJ.elim h;obtain ⟨hb,h⟩:=h
 first|(refine req.intro hb ?_;conv=>whnf)|skip
 replace h:=XaJ.elim h;obtain ⟨hb,h⟩:=h
 first|(refine req.intro hb ?_;conv=>whnf)|skip
 replace h:=Xal.elim h;obtain ⟨p4,hy,h⟩:=h
 refine XaK.q rfl rfl (Xg0 hy) rfl rfl rfl ?_
 conv=>whnf
 replace h:=XaJ.elim h;obtain ⟨hb,h⟩:=h
 first|(refine req.intro hb ?_;conv=>whnf)|skip
 replace h:=XaJ.elim h;obtain ⟨hb,h⟩:=h
 first|(refine req.intro hb ?_;conv=>whnf)|skip
 let t4:List UInt8:=(((p++p1)++(p2++p3))++p4)++ha0.Options
 all_goals (cases h;exact Res.z rfl rfl rfl)
theorem ok127 (Xan:Int→Int→Option (List UInt8)) (hS:Xai Tryz.prog (Xav (Xv7 Xan))):Xar Tryz.prog 127 (s127 (XdI Xan)):=by
 refine Xar.Xay Xao (fun ar os r ha hr=>?_) ⟨Tryz.f127,rfl,by decide,rfl⟩
 replace hr:r127 (XdI Xan) ar (XaD os)=some r:=hr
 unfold r127 at hr
 generalize hc:XaD os=C at hr
 replace hr:=dV.elim hr;obtain ⟨v0,l1,y0,rfl,e0,hr⟩:=hr;obtain rfl:=Xfy _ _ e0
 replace hr:=Xc2 hr;obtain ⟨rfl,rfl,x,h,rfl⟩:=hr
 obtain rfl:=Xas hc
 exact ⟨_,rfl,XAn Xan hS _ x h⟩
def XbB:Xak→Option (List UInt8):=XdI Xan
theorem XIM:Xar Tryz.prog 127 (s127 XbB):=ok127 Xan (Xai.XaW ⟨XmW,trivial⟩)
def Xi6 (XaR:(List UInt8)→Option Int) (XaC:(List UInt8)→Int→Int→Int→Option (List UInt8)) (Xap:Xaa→Xaa→Int→Int→Option (List UInt8)) (XbB:Xak→Option (List UInt8)) (XbI:Xak→Option Bool) (ha0:Xak) (src:Xaa) (dst:Xaa) (payload:List UInt8):Option ((List UInt8)×Int):=
 let t:=wI .i64 (20+(ha0.Options.length:Int))
 (Xap src dst 6 (wI .i64 (t+(payload.length:Int)))).bind fun p=>
 (XbI ha0).bind fun m=>
 cond (!m)
  (
  some (([],1)))
  (
  cond (p==[])
   (
   some (([],1)))
   (
   let t1:=decide ((payload.length:Int)>(wI .i64 (65535 - t)))
   cond (t1)
    (
    some (([],5)))
    (
    (XbB ha0).bind fun l=>
    XaJ (decide (l.length+payload.length<2^63)) <|
    XaJ (decide (p.length+(l++payload).length<2^63)) <|
    (XaR (p++(l++payload))).bind fun xo=>
    (XaC (l++payload) 16 2 (wI .u64 xo)).bind fun s=>
    some ((s,0)))))
def rx77 (x:(List UInt8)×Int):Xca:=⟨.tuple ⟨[.string ⟨⟨x.1⟩⟩,.int .i64 x.2]⟩,[],[]⟩
def r77 (g:Xak→Xaa→Xaa→(List UInt8)→Option ((List UInt8)×Int)):Dec:=dV Xfa fun (y0:Xak)=>dV Xbp fun (y1:Xaa)=>dV Xbp fun (y2:Xaa)=>dV asS fun (y3:List UInt8)=>XcO (ofG (g y0 y1 y2 y3) rx77)
theorem r77_c {g:Xak→Xaa→Xaa→(List UInt8)→Option ((List UInt8)×Int)} {y0:Xak} {y1:Xaa} {y2:Xaa} {y3:List UInt8} {x:(List UInt8)×Int} (hx:g y0 y1 y2 y3=some x):r77 g [.agg ⟨[.int .i64 y0.SPort,.int .i64 y0.DPort,.int .u32 y0.Seq,.int .u32 y0.Ack,.int .i64 y0.Flags,.int .i64 y0.Window,.int .i64 y0.Urgent,.string ⟨⟨y0.Options⟩⟩]⟩,.agg ⟨[.bool y1.V6,.int .u64 y1.Hi,.int .u64 y1.Lo]⟩,.agg ⟨[.bool y2.V6,.int .u64 y2.Hi,.int .u64 y2.Lo]⟩,.string ⟨⟨y3⟩⟩] []=some (rx77 x):=(XaT (Xgf _)).trans ((XaT (Xa8 _)).trans ((XaT (Xa8 _)).trans ((XaT (Xcp)).trans (Xa0 hx))))
def s77 (g:Xak→Xaa→Xaa→(List UInt8)→Option ((List UInt8)×Int)):Xbr:=⟨[.v,.v,.v,.v],r77 g⟩
theorem X3q {g:Xak→Xaa→Xaa→(List UInt8)→Option ((List UInt8)×Int)} {y0:Xak} {y1:Xaa} {y2:Xaa} {y3:List UInt8} {x:(List UInt8)×Int} (hx:g y0 y1 y2 y3=some x):(s77 g).run [.agg ⟨[.int .i64 y0.SPort,.int .i64 y0.DPort,.int .u32 y0.Seq,.int .u32 y0.Ack,.int .i64 y0.Flags,.int .i64 y0.Window,.int .i64 y0.Urgent,.string ⟨⟨y0.Options⟩⟩]⟩,.agg ⟨[.bool y1.V6,.int .u64 y1.Hi,.int .u64 y1.Lo]⟩,.agg ⟨[.bool y2.V6,.int .u64 y2.Hi,.int .u64 y2.Lo]⟩,.string ⟨⟨y3⟩⟩] []=some (rx77 x):=r77_c hx
abbrev XCL (XaR:(List UInt8)→Option Int) (XaC:(List UInt8)→Int→Int→Int→Option (List UInt8)) (Xap:Xaa→Xaa→Int→Int→Option (List UInt8)) (XbB:Xak→Option (List UInt8)) (XbI:Xak→Option Bool):List (Nat×Xbr):=[(128,XR1 XaR),(73,s73 XaC),(125,XE8 Xap),(127,s127 XbB),(126,s126 XbI)]
theorem XFQ (XaR:(List UInt8)→Option Int) (XaC:(List UInt8)→Int→Int→Int→Option (List UInt8)) (Xap:Xaa→Xaa→Int→Int→Option (List UInt8)) (XbB:Xak→Option (List UInt8)) (XbI:Xak→Option Bool) (hS:Xai Tryz.prog (Xav (XCL XaR XaC Xap XbB XbI))) (ha0:Xak) (src:Xaa) (dst:Xaa) (payload:List UInt8) (res:(List UInt8)×Int) (h:Xi6 XaR XaC Xap XbB XbI ha0 src dst payload=some res) :
 XaI Tryz.prog 77 0 ⟨⟨77,49,[(0,.agg ⟨[.int .i64 ha0.SPort,.int .i64 ha0.DPort,.int .u32 ha0.Seq,.int .u32 ha0.Ack,.int .i64 ha0.Flags,.int .i64 ha0.Window,.int .i64 ha0.Urgent,.string ⟨⟨ha0.Options⟩⟩]⟩),(1,.agg ⟨[.bool src.V6,.int .u64 src.Hi,.int .u64 src.Lo]⟩),(2,.agg ⟨[.bool dst.V6,.int .u64 dst.Hi,.int .u64 dst.Lo]⟩),(3,.string ⟨⟨payload⟩⟩)],[.code XCT],[],false,none⟩,[],[],0⟩ (fun v H _=>Res 0 (rx77 res) v H):=by
 unfold Xi6 at h
 refine Xa7 Xao hS true 3000 ?_
 conv=>whnf
 let t:Int:=wI .i64 (20+(ha0.Options.length:Int))
 replace h:=Xal.elim h;obtain ⟨p,hy,h⟩:=h
 refine XaK.q rfl rfl (Xno hy) rfl rfl rfl ?_
 conv=>whnf
 replace h:=Xal.elim h;obtain ⟨m,hy,h⟩:=h
 refine XaK.q rfl rfl (XRa hy) rfl rfl rfl ?_
 conv=>whnf
 refine br.h h ?_ ?_ ?_
 ·rfl
 ·clear h;intro hb h;conv=>whnf
  all_goals (cases h;exact Res.z rfl rfl rfl)
 clear h;intro hb h;conv=>whnf
 refine br.h h ?_ ?_ ?_
 ·rfl
 ·clear h;intro hb h;conv=>whnf
  all_goals (cases h;exact Res.z rfl rfl rfl)
 clear h;intro hb h;conv=>whnf
 let t1:Bool:=decide ((payload.length:Int)>(wI .i64 (65535 - t)))
 refine br.h h ?_ ?_ ?_
 ·rfl
 ·clear h;intro hb h;conv=>whnf
  all_goals (cases h;exact Res.z rfl rfl rfl)
 clear h;intro hb h;conv=>whnf
 replace h:=Xal.elim h;obtain ⟨l,hy,h⟩:=h
 refine XaK.q rfl rfl (XIT hy) rfl rfl rfl ?_
 conv=>whnf
 replace h:=XaJ.elim h;obtain ⟨hb,h⟩:=h
 first|(refine req.intro hb ?_;conv=>whnf)|skip
 replace h:=XaJ.elim h;obtain ⟨hb,h⟩:=h
 first|(refine req.intro hb ?_;conv=>whnf)|skip
 replace h:=Xal.elim h;obtain ⟨xo,hy,h⟩:=h
 refine XaK.q rfl rfl (Xn6 hy) rfl rfl rfl ?_
 conv=>whnf
 replace h:=Xal.elim h;obtain ⟨s,hy,h⟩:=h
 refine XaK.q rfl rfl (XoG hy) rfl rfl rfl ?_
 conv=>whnf
 all_goals (cases h;exact Res.z rfl rfl rfl)
theorem ok77 (XaR:(List UInt8)→Option Int) (XaC:(List UInt8)→Int→Int→Int→Option (List UInt8)) (Xap:Xaa→Xaa→Int→Int→Option (List UInt8)) (XbB:Xak→Option (List UInt8)) (XbI:Xak→Option Bool) (hS:Xai Tryz.prog (Xav (XCL XaR XaC Xap XbB XbI))):Xar Tryz.prog 77 (s77 (Xi6 XaR XaC Xap XbB XbI)):=by
 refine Xar.Xay Xao (fun ar os r ha hr=>?_) ⟨Tryz.f77,rfl,by decide,rfl⟩
 replace hr:r77 (Xi6 XaR XaC Xap XbB XbI) ar (XaD os)=some r:=hr
 unfold r77 at hr
 generalize hc:XaD os=C at hr
 replace hr:=dV.elim hr;obtain ⟨v0,l1,y0,rfl,e0,hr⟩:=hr;obtain rfl:=Xfy _ _ e0
 replace hr:=dV.elim hr;obtain ⟨v1,l2,y1,rfl,e1,hr⟩:=hr;obtain rfl:=Xa1 _ _ e1
 replace hr:=dV.elim hr;obtain ⟨v2,l3,y2,rfl,e2,hr⟩:=hr;obtain rfl:=Xa1 _ _ e2
 replace hr:=dV.elim hr;obtain ⟨v3,l4,y3,rfl,e3,hr⟩:=hr;obtain rfl:=XbH _ _ e3
 replace hr:=Xc2 hr;obtain ⟨rfl,rfl,x,h,rfl⟩:=hr
 obtain rfl:=Xas hc
 exact ⟨_,rfl,XFQ XaR XaC Xap XbB XbI hS _ _ _ _ x h⟩
def Xd8:Xak→Xaa→Xaa→(List UInt8)→Option ((List UInt8)×Int):=Xi6 XaR XaC Xap XbB XbI
theorem X9d:Xar Tryz.prog 77 (s77 Xd8):=ok77 XaR XaC Xap XbB XbI (Xai.XaW ⟨Xpr,XuW,XnE,XIM,XLC,trivial⟩)
def XfN (XaA:(List UInt8)→Option Xab) (Xad:Xab→Int→Option (Int×Xab)) (Xac:Xab→Int→Option ((List UInt8)×Xab)) (s:List UInt8) (size:Int):Option Xak:=
 (XaA s).bind fun n=>
 (Xad n 2).bind fun n1=>
 (Xad n1.2 2).bind fun n2=>
 (Xad n2.2 4).bind fun n3=>
 (Xad n3.2 4).bind fun n4=>
 (Xad n4.2 2).bind fun n5=>
 (Xad n5.2 2).bind fun n6=>
 (Xad n6.2 2).bind fun n7=>
 (Xad n7.2 2).bind fun n8=>
 (Xac n8.2 (wI .i64 (size - 20))).bind fun t=>
 some (Xak.mk n1.1 n2.1 (wI .u32 n3.1) (wI .u32 n4.1) (Xjr .i64 n5.1 255) n6.1 n8.1 t.1)
def Xy5 (x:Xak):Xca:=⟨.agg ⟨[.int .i64 x.SPort,.int .i64 x.DPort,.int .u32 x.Seq,.int .u32 x.Ack,.int .i64 x.Flags,.int .i64 x.Window,.int .i64 x.Urgent,.string ⟨⟨x.Options⟩⟩]⟩,[],[]⟩
def r202 (g:(List UInt8)→Int→Option Xak):Dec:=dV asS fun (y0:List UInt8)=>dV (asI .i64) fun (y1:Int)=>XcO (ofG (g y0 y1) Xy5)
theorem XSH {g:(List UInt8)→Int→Option Xak} {y0:List UInt8} {y1:Int} {x:Xak} (hx:g y0 y1=some x):r202 g [.string ⟨⟨y0⟩⟩,.int .i64 y1] []=some (Xy5 x):=(XaT (Xcp)).trans ((XaT (Xc3 _)).trans (Xa0 hx))
def s202 (g:(List UInt8)→Int→Option Xak):Xbr:=⟨[.v,.v],r202 g⟩
theorem XH8 {g:(List UInt8)→Int→Option Xak} {y0:List UInt8} {y1:Int} {x:Xak} (hx:g y0 y1=some x):(s202 g).run [.string ⟨⟨y0⟩⟩,.int .i64 y1] []=some (Xy5 x):=XSH hx
abbrev Xuy (XaA:(List UInt8)→Option Xab) (Xad:Xab→Int→Option (Int×Xab)) (Xac:Xab→Int→Option ((List UInt8)×Xab)):List (Nat×Xbr):=[(112,XBv XaA),(113,Xw5 Xad),(115,Xs3 Xac)]
theorem XBd (XaA:(List UInt8)→Option Xab) (Xad:Xab→Int→Option (Int×Xab)) (Xac:Xab→Int→Option ((List UInt8)×Xab)) (hS:Xai Tryz.prog (Xav (Xuy XaA Xad Xac))) (s:List UInt8) (size:Int) (res:Xak) (h:XfN XaA Xad Xac s size=some res) :
 XaI Tryz.prog 202 0 ⟨⟨202,38,[(0,.string ⟨⟨s⟩⟩),(1,.int .i64 size)],[.code XtL],[],false,none⟩,[],[],0⟩ (fun v H _=>Res 0 (Xy5 res) v H):=by
 unfold XfN at h
 refine Xa7 Xao hS true 3000 ?_
 conv=>whnf
 replace h:=Xal.elim h;obtain ⟨n,hy,h⟩:=h
 refine XaK.Xbb [1] (Xaw (aqs:=[.string ⟨⟨s⟩⟩]) (ws:=[]) (n:=1) (m:=0) (t':=2) (Xau rfl rfl Xbf) rfl (by rfl) (Xmi hy) rfl rfl rfl rfl Xbe (Xho (rfl) Xbc) rfl) ?_
 conv=>whnf
 replace h:=Xal.elim h;obtain ⟨n1,hy,h⟩:=h
 refine XaK.Xbb [1] (Xaw (aqs:=[.pointer (some ⟨0,0,none⟩),.int .i64 2]) (ws:=[.win 1 0 3 true]) (n:=0) (m:=0) (t':=2) (Xau rfl rfl (Xau rfl rfl Xbf)) rfl (by rfl) (Xcn hy) rfl rfl rfl rfl (XbF rfl rfl rfl ⟨rfl,Nat.le_of_ble_eq_true rfl⟩ rfl rfl Xbe) Xbc rfl) ?_
 conv=>whnf
 replace h:=Xal.elim h;obtain ⟨n2,hy,h⟩:=h
 refine XaK.Xbb [1] (Xaw (aqs:=[.pointer (some ⟨0,0,none⟩),.int .i64 2]) (ws:=[.win 1 0 3 true]) (n:=0) (m:=0) (t':=2) (Xau rfl rfl (Xau rfl rfl Xbf)) rfl (by rfl) (Xcn hy) rfl rfl rfl rfl (XbF rfl rfl rfl ⟨rfl,Nat.le_of_ble_eq_true rfl⟩ rfl rfl Xbe) Xbc rfl) ?_
 conv=>whnf
 replace h:=Xal.elim h;obtain ⟨n3,hy,h⟩:=h
 refine XaK.Xbb [1] (Xaw (aqs:=[.pointer (some ⟨0,0,none⟩),.int .i64 4]) (ws:=[.win 1 0 3 true]) (n:=0) (m:=0) (t':=2) (Xau rfl rfl (Xau rfl rfl Xbf)) rfl (by rfl) (Xcn hy) rfl rfl rfl rfl (XbF rfl rfl rfl ⟨rfl,Nat.le_of_ble_eq_true rfl⟩ rfl rfl Xbe) Xbc rfl) ?_
 conv=>whnf
 replace h:=Xal.elim h;obtain ⟨n4,hy,h⟩:=h
 refine XaK.Xbb [1] (Xaw (aqs:=[.pointer (some ⟨0,0,none⟩),.int .i64 4]) (ws:=[.win 1 0 3 true]) (n:=0) (m:=0) (t':=2) (Xau rfl rfl (Xau rfl rfl Xbf)) rfl (by rfl) (Xcn hy) rfl rfl rfl rfl (XbF rfl rfl rfl ⟨rfl,Nat.le_of_ble_eq_true rfl⟩ rfl rfl Xbe) Xbc rfl) ?_
 conv=>whnf
 replace h:=Xal.elim h;obtain ⟨n5,hy,h⟩:=h
 refine XaK.Xbb [1] (Xaw (aqs:=[.pointer (some ⟨0,0,none⟩),.int .i64 2]) (ws:=[.win 1 0 3 true]) (n:=0) (m:=0) (t':=3) (Xau rfl rfl (Xau rfl rfl Xbf)) rfl (by rfl) (Xcn hy) rfl rfl rfl rfl (XbF rfl rfl rfl ⟨rfl,Nat.le_of_ble_eq_true rfl⟩ rfl rfl Xbe) Xbc rfl) ?_
 conv=>whnf
 replace h:=Xal.elim h;obtain ⟨n6,hy,h⟩:=h
 refine XaK.Xbb [1] (Xaw (aqs:=[.pointer (some ⟨0,0,none⟩),.int .i64 2]) (ws:=[.win 1 0 3 true]) (n:=0) (m:=0) (t':=3) (Xau rfl rfl (Xau rfl rfl Xbf)) rfl (by rfl) (Xcn hy) rfl rfl rfl rfl (XbF rfl rfl rfl ⟨rfl,Nat.le_of_ble_eq_true rfl⟩ rfl rfl Xbe) Xbc rfl) ?_
 conv=>whnf
 replace h:=Xal.elim h;obtain ⟨n7,hy,h⟩:=h
 refine XaK.Xbb [1] (Xaw (aqs:=[.pointer (some ⟨0,0,none⟩),.int .i64 2]) (ws:=[.win 1 0 3 true]) (n:=0) (m:=0) (t':=3) (Xau rfl rfl (Xau rfl rfl Xbf)) rfl (by rfl) (Xcn hy) rfl rfl rfl rfl (XbF rfl rfl rfl ⟨rfl,Nat.le_of_ble_eq_true rfl⟩ rfl rfl Xbe) Xbc rfl) ?_
 conv=>whnf
 replace h:=Xal.elim h;obtain ⟨n8,hy,h⟩:=h
 refine XaK.Xbb [1] (Xaw (aqs:=[.pointer (some ⟨0,0,none⟩),.int .i64 2]) (ws:=[.win 1 0 3 true]) (n:=0) (m:=0) (t':=3) (Xau rfl rfl (Xau rfl rfl Xbf)) rfl (by rfl) (Xcn hy) rfl rfl rfl rfl (XbF rfl rfl rfl ⟨rfl,Nat.le_of_ble_eq_true rfl⟩ rfl rfl Xbe) Xbc rfl) ?_
 conv=>whnf
 replace h:=Xal.elim h;obtain ⟨t,hy,h⟩:=h
 refine XaK.Xbb [1] (Xaw (aqs:=[.pointer (some ⟨0,0,none⟩),.int .i64 (wI .i64 (size - 20))]) (ws:=[.win 1 0 3 true]) (n:=0) (m:=0) (t':=3) (Xau rfl rfl (Xau rfl rfl Xbf)) rfl (by rfl) (Xfx hy) rfl rfl rfl rfl (XbF rfl rfl rfl ⟨rfl,Nat.le_of_ble_eq_true rfl⟩ rfl rfl Xbe) Xbc rfl) ?_
 conv=>whnf
 all_goals (cases h;exact Res.z rfl rfl rfl)
theorem ok202 (XaA:(List UInt8)→Option Xab) (Xad:Xab→Int→Option (Int×Xab)) (Xac:Xab→Int→Option ((List UInt8)×Xab)) (hS:Xai Tryz.prog (Xav (Xuy XaA Xad Xac))):Xar Tryz.prog 202 (s202 (XfN XaA Xad Xac)):=by
 refine Xar.Xay Xao (fun ar os r ha hr=>?_) ⟨Tryz.f202,rfl,by decide,rfl⟩
 replace hr:r202 (XfN XaA Xad Xac) ar (XaD os)=some r:=hr
 unfold r202 at hr
 generalize hc:XaD os=C at hr
 replace hr:=dV.elim hr;obtain ⟨v0,l1,y0,rfl,e0,hr⟩:=hr;obtain rfl:=XbH _ _ e0
 replace hr:=dV.elim hr;obtain ⟨v1,l2,y1,rfl,e1,hr⟩:=hr;obtain rfl:=XbS _ _ _ e1
 replace hr:=Xc2 hr;obtain ⟨rfl,rfl,x,h,rfl⟩:=hr
 obtain rfl:=Xas hc
 exact ⟨_,rfl,XBd XaA Xad Xac hS _ _ x h⟩
def Xb6:(List UInt8)→Int→Option Xak:=XfN XaA Xad Xac
theorem XMk:Xar Tryz.prog 202 (s202 Xb6):=ok202 XaA Xad Xac (Xai.XaW ⟨XlZ,Xk7,Xis,trivial⟩)
def Xi1 (XaE:(List UInt8)→Option Bool) (Xap:Xaa→Xaa→Int→Int→Option (List UInt8)) (XbE:(List UInt8)→Option ((List XbG)×Int)) (Xb6:(List UInt8)→Int→Option Xak) (s:List UInt8) (src:Xaa) (dst:Xaa):Option (Xak×(List UInt8)×Int):=
 cond (decide ((s.length:Int)<20))
  (
  some ((Xak.mk 0 0 0 0 0 0 0 [],[],2)))
  (
  (s[12]?).bind fun (b:UInt8)=>
  (s[12]?).bind fun (b1:UInt8)=>
  let t:=wI .i64 (4*(wI .i64 ((b.toNat:Int).fdiv (2^4))))
  cond (decide (t<20))
   (
   some ((Xak.mk 0 0 0 0 0 0 0 [],[],3)))
   (
   cond ((Xjr .u8 (b1.toNat:Int) 15) !=0)
    (
    some ((Xak.mk 0 0 0 0 0 0 0 [],[],3)))
    (
    cond (decide (t>(s.length:Int)))
     (
     some ((Xak.mk 0 0 0 0 0 0 0 [],[],2)))
     (
     (Xap src dst 6 (s.length:Int)).bind fun p=>
     cond (p==[])
      (
      some ((Xak.mk 0 0 0 0 0 0 0 [],[],1)))
      (
      XaJ (decide (p.length+s.length<2^63)) <|
      (XaE (p++s)).bind fun xr=>
      cond (!xr)
       (
       some ((Xak.mk 0 0 0 0 0 0 0 [],[],4)))
       (
       (Xb6 s t).bind fun p1=>
       (XbE p1.Options).bind fun l=>
       cond (l.2 !=0)
        (
        some ((Xak.mk 0 0 0 0 0 0 0 [],[],l.2)))
        (
        XaJ (decide ((0:Int)≤t∧t≤(s.length:Int))) <|
        let t1:=(s.drop t.toNat).take (s.length - t.toNat)
        some ((p1,t1,0)))))))))
def Xxu (x:Xak×(List UInt8)×Int):Xca:=⟨.tuple ⟨[.agg ⟨[.int .i64 x.1.SPort,.int .i64 x.1.DPort,.int .u32 x.1.Seq,.int .u32 x.1.Ack,.int .i64 x.1.Flags,.int .i64 x.1.Window,.int .i64 x.1.Urgent,.string ⟨⟨x.1.Options⟩⟩]⟩,.string ⟨⟨x.2.1⟩⟩,.int .i64 x.2.2]⟩,[],[]⟩
def r173 (g:(List UInt8)→Xaa→Xaa→Option (Xak×(List UInt8)×Int)):Dec:=dV asS fun (y0:List UInt8)=>dV Xbp fun (y1:Xaa)=>dV Xbp fun (y2:Xaa)=>XcO (ofG (g y0 y1 y2) Xxu)
theorem X7L {g:(List UInt8)→Xaa→Xaa→Option (Xak×(List UInt8)×Int)} {y0:List UInt8} {y1:Xaa} {y2:Xaa} {x:Xak×(List UInt8)×Int} (hx:g y0 y1 y2=some x):r173 g [.string ⟨⟨y0⟩⟩,.agg ⟨[.bool y1.V6,.int .u64 y1.Hi,.int .u64 y1.Lo]⟩,.agg ⟨[.bool y2.V6,.int .u64 y2.Hi,.int .u64 y2.Lo]⟩] []=some (Xxu x):=(XaT (Xcp)).trans ((XaT (Xa8 _)).trans ((XaT (Xa8 _)).trans (Xa0 hx)))
def s173 (g:(List UInt8)→Xaa→Xaa→Option (Xak×(List UInt8)×Int)):Xbr:=⟨[.v,.v,.v],r173 g⟩
theorem XKD {g:(List UInt8)→Xaa→Xaa→Option (Xak×(List UInt8)×Int)} {y0:List UInt8} {y1:Xaa} {y2:Xaa} {x:Xak×(List UInt8)×Int} (hx:g y0 y1 y2=some x):(s173 g).run [.string ⟨⟨y0⟩⟩,.agg ⟨[.bool y1.V6,.int .u64 y1.Hi,.int .u64 y1.Lo]⟩,.agg ⟨[.bool y2.V6,.int .u64 y2.Hi,.int .u64 y2.Lo]⟩] []=some (Xxu x):=X7L hx
abbrev Xs6 (XaE:(List UInt8)→Option Bool) (Xap:Xaa→Xaa→Int→Int→Option (List UInt8)) (XbE:(List UInt8)→Option ((List XbG)×Int)) (Xb6:(List UInt8)→Int→Option Xak):List (Nat×Xbr):=[(146,XR7 XaE),(125,XE8 Xap),(168,XST XbE),(202,s202 Xb6)]
theorem Xzh (XaE:(List UInt8)→Option Bool) (Xap:Xaa→Xaa→Int→Int→Option (List UInt8)) (XbE:(List UInt8)→Option ((List XbG)×Int)) (Xb6:(List UInt8)→Int→Option Xak) (hS:Xai Tryz.prog (Xav (Xs6 XaE Xap XbE Xb6))) (s:List UInt8) (src:Xaa) (dst:Xaa) (res:Xak×(List UInt8)×Int) (h:Xi1 XaE Xap XbE Xb6 s src dst=some res) :
 XaI Tryz.prog 173 0 ⟨⟨173,76,[(0,.string ⟨⟨s⟩⟩),(1,.agg ⟨[.bool src.V6,.int .u64 src.Hi,.int .u64 src.Lo]⟩),(2,.agg ⟨[.bool dst.V6,.int .u64 dst.Hi,.int .u64 dst.Lo]⟩)],[.code XtK],[],false,none⟩,[],[],0⟩ (fun v H _=>Res 0 (Xxu res) v H):=by
 unfold Xi1 at h
 refine Xa7 Xao hS true 3000 ?_
 conv=>whnf
 refine br.h h ?_ ?_ ?_
 ·rfl
 ·clear h;intro hb h;conv=>whnf
  all_goals (cases h;exact Res.z rfl rfl rfl)
 clear h;intro hb h;conv=>whnf
 replace h:=Xal.elim h;obtain ⟨b,hy,h⟩:=h
 refine rdS.intro hy ?_
 conv=>whnf
 replace h:=Xal.elim h;obtain ⟨b1,hy,h⟩:=h
 refine rdS.intro hy ?_
 conv=>whnf
 let t:Int:=wI .i64 (4*(wI .i64 ((b.toNat:Int).fdiv (2^4))))
 refine br.h h ?_ ?_ ?_
 ·rfl
 ·clear h;intro hb h;conv=>whnf
  all_goals (cases h;exact Res.z rfl rfl rfl)
 clear h;intro hb h;conv=>whnf
 refine br.h h ?_ ?_ ?_
 ·rfl
 ·clear h;intro hb h;conv=>whnf
  all_goals (cases h;exact Res.z rfl rfl rfl)
 clear h;intro hb h;conv=>whnf
 refine br.h h ?_ ?_ ?_
 ·rfl
 ·clear h;intro hb h;conv=>whnf
  all_goals (cases h;exact Res.z rfl rfl rfl)
 clear h;intro hb h;conv=>whnf
 replace h:=Xal.elim h;obtain ⟨p,hy,h⟩:=h
 refine XaK.q rfl rfl (Xno hy) rfl rfl rfl ?_
 conv=>whnf
 refine br.h h ?_ ?_ ?_
 ·rfl
 ·clear h;intro hb h;conv=>whnf
  all_goals (cases h;exact Res.z rfl rfl rfl)
 clear h;intro hb h;conv=>whnf
 replace h:=XaJ.elim h;obtain ⟨hb,h⟩:=h
 first|(refine req.intro hb ?_;conv=>whnf)|skip
 replace h:=Xal.elim h;obtain ⟨xr,hy,h⟩:=h
 refine XaK.q rfl rfl (XnF hy) rfl rfl rfl ?_
 conv=>whnf
 refine br.h h ?_ ?_ ?_
 ·rfl
 ·clear h;intro hb h;conv=>whnf
  all_goals (cases h;exact Res.z rfl rfl rfl)
 clear h;intro hb h;conv=>whnf
 replace h:=Xal.elim h;obtain ⟨p1,hy,h⟩:=h
 refine XaK.q rfl rfl (XH8 hy) rfl rfl rfl ?_
 conv=>whnf
 replace h:=Xal.elim h;obtain ⟨l,hy,h⟩:=h
 refine XaK.Xbb [] (Xaw (aqs:=[.string ⟨⟨p1.Options⟩⟩]) (ws:=[]) (n:=1) (m:=0) (t':=13) (Xau rfl rfl Xbf) rfl (by rfl) (Xuf hy) rfl rfl rfl rfl Xbe (Xho (XpU Xb3) Xbc) rfl) ?_
 conv=>whnf
 refine br.h h ?_ ?_ ?_
 ·rfl
 ·clear h;intro hb h;conv=>whnf
  all_goals (cases h;exact Res.z rfl rfl rfl)
 clear h;intro hb h;conv=>whnf
 replace h:=XaJ.elim h;obtain ⟨hb,h⟩:=h
 first|(refine req.intro hb ?_;conv=>whnf)|skip
 let t1:List UInt8:=(s.drop t.toNat).take (s.length - t.toNat)
 all_goals (cases h;exact Res.z rfl rfl rfl)
theorem ok173 (XaE:(List UInt8)→Option Bool) (Xap:Xaa→Xaa→Int→Int→Option (List UInt8)) (XbE:(List UInt8)→Option ((List XbG)×Int)) (Xb6:(List UInt8)→Int→Option Xak) (hS:Xai Tryz.prog (Xav (Xs6 XaE Xap XbE Xb6))):Xar Tryz.prog 173 (s173 (Xi1 XaE Xap XbE Xb6)):=by
 refine Xar.Xay Xao (fun ar os r ha hr=>?_) ⟨Tryz.f173,rfl,by decide,rfl⟩
 replace hr:r173 (Xi1 XaE Xap XbE Xb6) ar (XaD os)=some r:=hr
 unfold r173 at hr
 generalize hc:XaD os=C at hr
 replace hr:=dV.elim hr;obtain ⟨v0,l1,y0,rfl,e0,hr⟩:=hr;obtain rfl:=XbH _ _ e0
 replace hr:=dV.elim hr;obtain ⟨v1,l2,y1,rfl,e1,hr⟩:=hr;obtain rfl:=Xa1 _ _ e1
 replace hr:=dV.elim hr;obtain ⟨v2,l3,y2,rfl,e2,hr⟩:=hr;obtain rfl:=Xa1 _ _ e2
 replace hr:=Xc2 hr;obtain ⟨rfl,rfl,x,h,rfl⟩:=hr
 obtain rfl:=Xas hc
 exact ⟨_,rfl,Xzh XaE Xap XbE Xb6 hS _ _ _ x h⟩
def Xem:(List UInt8)→Xaa→Xaa→Option (Xak×(List UInt8)×Int):=Xi1 XaE Xap XbE Xb6
theorem XM4:Xar Tryz.prog 173 (s173 Xem):=ok173 XaE Xap XbE Xb6 (Xai.XaW ⟨Xqs,XnE,XvA,XMk,trivial⟩)
def Xjm (XaH:Int→Int→Option (List UInt8)) (n:Int) (k:Int):Option (List UInt8):=
 (XaH (wI .u64 n) k).bind fun p=>
 some (p)
def rx97 (x:List UInt8):Xca:=⟨.string ⟨⟨x⟩⟩,[],[]⟩
def r97 (g:Int→Int→Option (List UInt8)):Dec:=dV (asI .i64) fun (y0:Int)=>dV (asI .i64) fun (y1:Int)=>XcO (ofG (g y0 y1) rx97)
theorem r97_c {g:Int→Int→Option (List UInt8)} {y0:Int} {y1:Int} {x:List UInt8} (hx:g y0 y1=some x):r97 g [.int .i64 y0,.int .i64 y1] []=some (rx97 x):=(XaT (Xc3 _)).trans ((XaT (Xc3 _)).trans (Xa0 hx))
def s97 (g:Int→Int→Option (List UInt8)):Xbr:=⟨[.v,.v],r97 g⟩
theorem Xku {g:Int→Int→Option (List UInt8)} {y0:Int} {y1:Int} {x:List UInt8} (hx:g y0 y1=some x):(s97 g).run [.int .i64 y0,.int .i64 y1] []=some (rx97 x):=r97_c hx
abbrev XBO (XaH:Int→Int→Option (List UInt8)):List (Nat×Xbr):=[(98,s98 XaH)]
theorem XIE (XaH:Int→Int→Option (List UInt8)) (hS:Xai Tryz.prog (Xav (XBO XaH))) (n:Int) (k:Int) (res:List UInt8) (h:Xjm XaH n k=some res) :
 XaI Tryz.prog 97 0 ⟨⟨97,9,[(0,.int .i64 n),(1,.int .i64 k)],[.code X60],[],false,none⟩,[],[],0⟩ (fun v H _=>Res 0 (rx97 res) v H):=by
 unfold Xjm at h
 refine Xa7 Xao hS true 3000 ?_
 conv=>whnf
 replace h:=Xal.elim h;obtain ⟨p,hy,h⟩:=h
 refine XaK.q rfl rfl (XjF hy) rfl rfl rfl ?_
 conv=>whnf
 all_goals (cases h;exact Res.z rfl rfl rfl)
theorem ok97 (XaH:Int→Int→Option (List UInt8)) (hS:Xai Tryz.prog (Xav (XBO XaH))):Xar Tryz.prog 97 (s97 (Xjm XaH)):=by
 refine Xar.Xay Xao (fun ar os r ha hr=>?_) ⟨Tryz.f97,rfl,by decide,rfl⟩
 replace hr:r97 (Xjm XaH) ar (XaD os)=some r:=hr
 unfold r97 at hr
 generalize hc:XaD os=C at hr
 replace hr:=dV.elim hr;obtain ⟨v0,l1,y0,rfl,e0,hr⟩:=hr;obtain rfl:=XbS _ _ _ e0
 replace hr:=dV.elim hr;obtain ⟨v1,l2,y1,rfl,e1,hr⟩:=hr;obtain rfl:=XbS _ _ _ e1
 replace hr:=Xc2 hr;obtain ⟨rfl,rfl,x,h,rfl⟩:=hr
 obtain rfl:=Xas hc
 exact ⟨_,rfl,XIE XaH hS _ _ x h⟩
def XcK:Int→Int→Option (List UInt8):=Xjm XaH
theorem Ydr:Xar Tryz.prog 97 (s97 XcK):=ok97 XaH (Xai.XaW ⟨XmL,trivial⟩)
def XkU (n:Int) (most:Int):Option Bool:=
 cond (decide (n≥0))
  (
  some (decide (n≤most)))
  (
  some (false))
def XAy (x:Bool):Xca:=⟨.bool x,[],[]⟩
def r177 (g:Int→Int→Option Bool):Dec:=dV (asI .i64) fun (y0:Int)=>dV (asI .i64) fun (y1:Int)=>XcO (ofG (g y0 y1) XAy)
theorem Yaf {g:Int→Int→Option Bool} {y0:Int} {y1:Int} {x:Bool} (hx:g y0 y1=some x):r177 g [.int .i64 y0,.int .i64 y1] []=some (XAy x):=(XaT (Xc3 _)).trans ((XaT (Xc3 _)).trans (Xa0 hx))
def s177 (g:Int→Int→Option Bool):Xbr:=⟨[.v,.v],r177 g⟩
theorem XlO {g:Int→Int→Option Bool} {y0:Int} {y1:Int} {x:Bool} (hx:g y0 y1=some x):(s177 g).run [.int .i64 y0,.int .i64 y1] []=some (XAy x):=Yaf hx
abbrev XtR:List (Nat×Xbr):=[]
theorem XwW (hS:Xai Tryz.prog (Xav (XtR))) (n:Int) (most:Int) (res:Bool) (h:XkU n most=some res) :
 XaI Tryz.prog 177 0 ⟨⟨177,12,[(0,.int .i64 n),(1,.int .i64 most)],[.code XC4],[],false,none⟩,[],[],0⟩ (fun v H _=>Res 0 (XAy res) v H):=by
 unfold XkU at h
 refine Xa7 Xao hS true 3000 ?_
 conv=>whnf
 refine br.h h ?_ ?_ ?_
 ·rfl
 ·clear h;intro hb h;conv=>whnf
  all_goals (cases h;exact Res.z rfl rfl rfl)
 clear h;intro hb h;conv=>whnf
 all_goals (cases h;exact Res.z rfl rfl rfl)
theorem ok177 (hS:Xai Tryz.prog (Xav (XtR))):Xar Tryz.prog 177 (s177 (XkU)):=by
 refine Xar.Xay Xao (fun ar os r ha hr=>?_) ⟨Tryz.f177,rfl,by decide,rfl⟩
 replace hr:r177 (XkU) ar (XaD os)=some r:=hr
 unfold r177 at hr
 generalize hc:XaD os=C at hr
 replace hr:=dV.elim hr;obtain ⟨v0,l1,y0,rfl,e0,hr⟩:=hr;obtain rfl:=XbS _ _ _ e0
 replace hr:=dV.elim hr;obtain ⟨v1,l2,y1,rfl,e1,hr⟩:=hr;obtain rfl:=XbS _ _ _ e1
 replace hr:=Xc2 hr;obtain ⟨rfl,rfl,x,h,rfl⟩:=hr
 obtain rfl:=Xas hc
 exact ⟨_,rfl,XwW hS _ _ x h⟩
def XeM:Int→Int→Option Bool:=XkU
theorem XKq:Xar Tryz.prog 177 (s177 XeM):=ok177 (Xai.XaW trivial)
def XgA (XeM:Int→Int→Option Bool) (ha0:Xak):Option Bool:=
 (XeM ha0.SPort 65535).bind fun i=>
 cond (i)
  (
  (XeM ha0.DPort 65535).bind fun i1=>
  cond (i1)
   (
   (XeM ha0.Flags 255).bind fun i2=>
   cond (i2)
    (
    (XeM ha0.Window 65535).bind fun i3=>
    cond (i3)
     (
     (XeM ha0.Urgent 65535).bind fun i4=>
     cond (i4)
      (
      cond (decide ((ha0.Options.length:Int)≤40))
       (
       some (((ha0.Options.length:Int).tmod 4)==0))
       (
       some (false)))
      (
      some (false)))
     (
     some (false)))
    (
    some (false)))
   (
   some (false)))
  (
  some (false))
def Xx1 (x:Bool):Xca:=⟨.bool x,[],[]⟩
def r130 (g:Xak→Option Bool):Dec:=dV Xfa fun (y0:Xak)=>XcO (ofG (g y0) Xx1)
theorem XZt {g:Xak→Option Bool} {y0:Xak} {x:Bool} (hx:g y0=some x):r130 g [.agg ⟨[.int .i64 y0.SPort,.int .i64 y0.DPort,.int .u32 y0.Seq,.int .u32 y0.Ack,.int .i64 y0.Flags,.int .i64 y0.Window,.int .i64 y0.Urgent,.string ⟨⟨y0.Options⟩⟩]⟩] []=some (Xx1 x):=(XaT (Xgf _)).trans (Xa0 hx)
def s130 (g:Xak→Option Bool):Xbr:=⟨[.v],r130 g⟩
theorem XEM {g:Xak→Option Bool} {y0:Xak} {x:Bool} (hx:g y0=some x):(s130 g).run [.agg ⟨[.int .i64 y0.SPort,.int .i64 y0.DPort,.int .u32 y0.Seq,.int .u32 y0.Ack,.int .i64 y0.Flags,.int .i64 y0.Window,.int .i64 y0.Urgent,.string ⟨⟨y0.Options⟩⟩]⟩] []=some (Xx1 x):=XZt hx
abbrev XsS (XeM:Int→Int→Option Bool):List (Nat×Xbr):=[(177,s177 XeM)]
theorem Xxn (XeM:Int→Int→Option Bool) (hS:Xai Tryz.prog (Xav (XsS XeM))) (ha0:Xak) (res:Bool) (h:XgA XeM ha0=some res) :
 XaI Tryz.prog 130 0 ⟨⟨130,39,[(0,.agg ⟨[.int .i64 ha0.SPort,.int .i64 ha0.DPort,.int .u32 ha0.Seq,.int .u32 ha0.Ack,.int .i64 ha0.Flags,.int .i64 ha0.Window,.int .i64 ha0.Urgent,.string ⟨⟨ha0.Options⟩⟩]⟩)],[.code XB1],[],false,none⟩,[],[],0⟩ (fun v H _=>Res 0 (Xx1 res) v H):=by
 unfold XgA at h
 refine Xa7 Xao hS true 3000 ?_
 conv=>whnf
 replace h:=Xal.elim h;obtain ⟨i,hy,h⟩:=h
 refine XaK.q rfl rfl (XlO hy) rfl rfl rfl ?_
 conv=>whnf
 refine br.h2 h ?_ ?_ ?_
 ·rfl
 ·clear h;intro hb h;conv=>whnf
  all_goals (cases h;exact Res.z rfl rfl rfl)
 clear h;intro hb h;conv=>whnf
 replace h:=Xal.elim h;obtain ⟨i1,hy,h⟩:=h
 refine XaK.q rfl rfl (XlO hy) rfl rfl rfl ?_
 conv=>whnf
 refine br.h2 h ?_ ?_ ?_
 ·rfl
 ·clear h;intro hb h;conv=>whnf
  all_goals (cases h;exact Res.z rfl rfl rfl)
 clear h;intro hb h;conv=>whnf
 replace h:=Xal.elim h;obtain ⟨i2,hy,h⟩:=h
 refine XaK.q rfl rfl (XlO hy) rfl rfl rfl ?_
 conv=>whnf
 refine br.h2 h ?_ ?_ ?_
 ·rfl
 ·clear h;intro hb h;conv=>whnf
  all_goals (cases h;exact Res.z rfl rfl rfl)
 clear h;intro hb h;conv=>whnf
 replace h:=Xal.elim h;obtain ⟨i3,hy,h⟩:=h
 refine XaK.q rfl rfl (XlO hy) rfl rfl rfl ?_
 conv=>whnf
 refine br.h2 h ?_ ?_ ?_
 ·rfl
 ·clear h;intro hb h;conv=>whnf
  all_goals (cases h;exact Res.z rfl rfl rfl)
 clear h;intro hb h;conv=>whnf
 replace h:=Xal.elim h;obtain ⟨i4,hy,h⟩:=h
 refine XaK.q rfl rfl (XlO hy) rfl rfl rfl ?_
 conv=>whnf
 refine br.h2 h ?_ ?_ ?_
 ·rfl
 ·clear h;intro hb h;conv=>whnf
  all_goals (cases h;exact Res.z rfl rfl rfl)
 clear h;intro hb h;conv=>whnf
 refine br.h h ?_ ?_ ?_
 ·rfl
 ·clear h;intro hb h;conv=>whnf
  all_goals (cases h;exact Res.z rfl rfl rfl)
 clear h;intro hb h;conv=>whnf
 all_goals (cases h;exact Res.z rfl rfl rfl)
theorem ok130 (XeM:Int→Int→Option Bool) (hS:Xai Tryz.prog (Xav (XsS XeM))):Xar Tryz.prog 130 (s130 (XgA XeM)):=by
 refine Xar.Xay Xao (fun ar os r ha hr=>?_) ⟨Tryz.f130,rfl,by decide,rfl⟩
 replace hr:r130 (XgA XeM) ar (XaD os)=some r:=hr
 unfold r130 at hr
 generalize hc:XaD os=C at hr
 replace hr:=dV.elim hr;obtain ⟨v0,l1,y0,rfl,e0,hr⟩:=hr;obtain rfl:=Xfy _ _ e0
 replace hr:=Xc2 hr;obtain ⟨rfl,rfl,x,h,rfl⟩:=hr
 obtain rfl:=Xas hc
 exact ⟨_,rfl,Xxn XeM hS _ x h⟩
def XcF:Xak→Option Bool:=XgA XeM
theorem XKK:Xar Tryz.prog 130 (s130 XcF):=ok130 XeM (Xai.XaW ⟨XKq,trivial⟩)
def Xjo (XbP:(List UInt8)→Option Int) (Xbm:(List UInt8)→Int→Int→Int→Option (List UInt8)) (XaB:Xaa→Xaa→Int→Int→Option (List UInt8)) (XcF:Xak→Option Bool) (XcK:Int→Int→Option (List UInt8)) (ha0:Xak) (src:Xaa) (dst:Xaa) (payload:List UInt8):Option ((List UInt8)×Int):=
 let t:=wI .i64 (20+(ha0.Options.length:Int))
 (XaB src dst 6 (wI .i64 (t+(payload.length:Int)))).bind fun p=>
 (XcF ha0).bind fun xr=>
 cond (!xr)
  (
  some (([],1)))
  (
  cond (p==[])
   (
   some (([],1)))
   (
   let t1:=decide ((payload.length:Int)>(wI .i64 (65535 - t)))
   cond (t1)
    (
    some (([],5)))
    (
    (XcK ha0.SPort 2).bind fun n=>
    (XcK ha0.DPort 2).bind fun n1=>
    XaJ (decide (n.length+n1.length<2^63)) <|
    (XcK (wI .i64 ha0.Seq) 4).bind fun n2=>
    XaJ (decide ((n++n1).length+n2.length<2^63)) <|
    (XcK (wI .i64 ha0.Ack) 4).bind fun n3=>
    XaJ (decide (((n++n1)++n2).length+n3.length<2^63)) <|
    (XcK (wI .i64 (4*t)) 1).bind fun n4=>
    XaJ (decide ((((n++n1)++n2)++n3).length+n4.length<2^63)) <|
    (XcK ha0.Flags 1).bind fun n5=>
    XaJ (decide (((((n++n1)++n2)++n3)++n4).length+n5.length<2^63)) <|
    (XcK ha0.Window 2).bind fun n6=>
    XaJ (decide ((((((n++n1)++n2)++n3)++n4)++n5).length+n6.length<2^63)) <|
    let t2:=(((((n++n1)++n2)++n3)++n4)++n5)++n6
    (XcK 0 2).bind fun n7=>
    XaJ (decide (t2.length+n7.length<2^63)) <|
    (XcK ha0.Urgent 2).bind fun n8=>
    XaJ (decide ((t2++n7).length+n8.length<2^63)) <|
    XaJ (decide (((t2++n7)++n8).length+ha0.Options.length<2^63)) <|
    XaJ (decide ((((t2++n7)++n8)++ha0.Options).length+payload.length<2^63)) <|
    let t3:=(((t2++n7)++n8)++ha0.Options)++payload
    XaJ (decide (p.length+t3.length<2^63)) <|
    (XbP (p++t3)).bind fun xo=>
    (Xbm t3 16 2 (wI .u64 xo)).bind fun s=>
    some ((s,0)))))
def rx78 (x:(List UInt8)×Int):Xca:=⟨.tuple ⟨[.string ⟨⟨x.1⟩⟩,.int .i64 x.2]⟩,[],[]⟩
def r78 (g:Xak→Xaa→Xaa→(List UInt8)→Option ((List UInt8)×Int)):Dec:=dV Xfa fun (y0:Xak)=>dV Xbp fun (y1:Xaa)=>dV Xbp fun (y2:Xaa)=>dV asS fun (y3:List UInt8)=>XcO (ofG (g y0 y1 y2 y3) rx78)
theorem r78_c {g:Xak→Xaa→Xaa→(List UInt8)→Option ((List UInt8)×Int)} {y0:Xak} {y1:Xaa} {y2:Xaa} {y3:List UInt8} {x:(List UInt8)×Int} (hx:g y0 y1 y2 y3=some x):r78 g [.agg ⟨[.int .i64 y0.SPort,.int .i64 y0.DPort,.int .u32 y0.Seq,.int .u32 y0.Ack,.int .i64 y0.Flags,.int .i64 y0.Window,.int .i64 y0.Urgent,.string ⟨⟨y0.Options⟩⟩]⟩,.agg ⟨[.bool y1.V6,.int .u64 y1.Hi,.int .u64 y1.Lo]⟩,.agg ⟨[.bool y2.V6,.int .u64 y2.Hi,.int .u64 y2.Lo]⟩,.string ⟨⟨y3⟩⟩] []=some (rx78 x):=(XaT (Xgf _)).trans ((XaT (Xa8 _)).trans ((XaT (Xa8 _)).trans ((XaT (Xcp)).trans (Xa0 hx))))
def s78 (g:Xak→Xaa→Xaa→(List UInt8)→Option ((List UInt8)×Int)):Xbr:=⟨[.v,.v,.v,.v],r78 g⟩
theorem X6s {g:Xak→Xaa→Xaa→(List UInt8)→Option ((List UInt8)×Int)} {y0:Xak} {y1:Xaa} {y2:Xaa} {y3:List UInt8} {x:(List UInt8)×Int} (hx:g y0 y1 y2 y3=some x):(s78 g).run [.agg ⟨[.int .i64 y0.SPort,.int .i64 y0.DPort,.int .u32 y0.Seq,.int .u32 y0.Ack,.int .i64 y0.Flags,.int .i64 y0.Window,.int .i64 y0.Urgent,.string ⟨⟨y0.Options⟩⟩]⟩,.agg ⟨[.bool y1.V6,.int .u64 y1.Hi,.int .u64 y1.Lo]⟩,.agg ⟨[.bool y2.V6,.int .u64 y2.Hi,.int .u64 y2.Lo]⟩,.string ⟨⟨y3⟩⟩] []=some (rx78 x):=r78_c hx
abbrev XBk (XbP:(List UInt8)→Option Int) (Xbm:(List UInt8)→Int→Int→Int→Option (List UInt8)) (XaB:Xaa→Xaa→Int→Int→Option (List UInt8)) (XcF:Xak→Option Bool) (XcK:Int→Int→Option (List UInt8)):List (Nat×Xbr):=[(100,XSe XbP),(99,s99 Xbm),(129,XOt XaB),(130,s130 XcF),(97,s97 XcK)]
theorem XN1 (XbP:(List UInt8)→Option Int) (Xbm:(List UInt8)→Int→Int→Int→Option (List UInt8)) (XaB:Xaa→Xaa→Int→Int→Option (List UInt8)) (XcF:Xak→Option Bool) (XcK:Int→Int→Option (List UInt8)) (hS:Xai Tryz.prog (Xav (XBk XbP Xbm XaB XcF XcK))) (ha0:Xak) (src:Xaa) (dst:Xaa) (payload:List UInt8) (res:(List UInt8)×Int) (h:Xjo XbP Xbm XaB XcF XcK ha0 src dst payload=some res) :
 XaI Tryz.prog 78 0 ⟨⟨78,83,[(0,.agg ⟨[.int .i64 ha0.SPort,.int .i64 ha0.DPort,.int .u32 ha0.Seq,.int .u32 ha0.Ack,.int .i64 ha0.Flags,.int .i64 ha0.Window,.int .i64 ha0.Urgent,.string ⟨⟨ha0.Options⟩⟩]⟩),(1,.agg ⟨[.bool src.V6,.int .u64 src.Hi,.int .u64 src.Lo]⟩),(2,.agg ⟨[.bool dst.V6,.int .u64 dst.Hi,.int .u64 dst.Lo]⟩),(3,.string ⟨⟨payload⟩⟩)],[.code XDy],[],false,none⟩,[],[],0⟩ (fun v H _=>Res 0 (rx78 res) v H):=by
 unfold Xjo at h
 refine Xa7 Xao hS true 3000 ?_
 conv=>whnf
 let t:Int:=wI .i64 (20+(ha0.Options.length:Int))
 replace h:=Xal.elim h;obtain ⟨p,hy,h⟩:=h
 refine XaK.q rfl rfl (Xob hy) rfl rfl rfl ?_
 conv=>whnf
 replace h:=Xal.elim h;obtain ⟨xr,hy,h⟩:=h
 refine XaK.q rfl rfl (XEM hy) rfl rfl rfl ?_
 conv=>whnf
 refine br.h h ?_ ?_ ?_
 ·rfl
 ·clear h;intro hb h;conv=>whnf
  all_goals (cases h;exact Res.z rfl rfl rfl)
 clear h;intro hb h;conv=>whnf
 refine br.h h ?_ ?_ ?_
 ·rfl
 ·clear h;intro hb h;conv=>whnf
  all_goals (cases h;exact Res.z rfl rfl rfl)
 clear h;intro hb h;conv=>whnf
 let t1:Bool:=decide ((payload.length:Int)>(wI .i64 (65535 - t)))
 refine br.h h ?_ ?_ ?_
 ·rfl
 ·clear h;intro hb h;conv=>whnf
  all_goals (cases h;exact Res.z rfl rfl rfl)
 clear h;intro hb h;conv=>whnf
 replace h:=Xal.elim h;obtain ⟨n,hy,h⟩:=h
 refine XaK.q rfl rfl (Xku hy) rfl rfl rfl ?_
 conv=>whnf
 replace h:=Xal.elim h;obtain ⟨n1,hy,h⟩:=h
 refine XaK.q rfl rfl (Xku hy) rfl rfl rfl ?_
 conv=>whnf
 replace h:=XaJ.elim h;obtain ⟨hb,h⟩:=h
 first|(refine req.intro hb ?_;conv=>whnf)|skip
 replace h:=Xal.elim h;obtain ⟨n2,hy,h⟩:=h
 refine XaK.q rfl rfl (Xku hy) rfl rfl rfl ?_
 conv=>whnf
 replace h:=XaJ.elim h;obtain ⟨hb,h⟩:=h
 first|(refine req.intro hb ?_;conv=>whnf)|skip
 replace h:=Xal.elim h;obtain ⟨n3,hy,h⟩:=h
 refine XaK.q rfl rfl (Xku hy) rfl rfl rfl ?_
 conv=>whnf
 replace h:=XaJ.elim h;obtain ⟨hb,h⟩:=h
 first|(refine req.intro hb ?_;conv=>whnf)|skip
 replace h:=Xal.elim h;obtain ⟨n4,hy,h⟩:=h
 refine XaK.q rfl rfl (Xku hy) rfl rfl rfl ?_
 conv=>whnf
 replace h:=XaJ.elim h;obtain ⟨hb,h⟩:=h
 first|(refine req.intro hb ?_;conv=>whnf)|skip
 replace h:=Xal.elim h;obtain ⟨n5,hy,h⟩:=h
 refine XaK.q rfl rfl (Xku hy) rfl rfl rfl ?_
 conv=>whnf
 replace h:=XaJ.elim h;obtain ⟨hb,h⟩:=h
 first|(refine req.intro hb ?_;conv=>whnf)|skip
 replace h:=Xal.elim h;obtain ⟨n6,hy,h⟩:=h
 refine XaK.q rfl rfl (Xku hy) rfl rfl rfl ?_
 conv=>whnf
 replace h:=XaJ.elim h;obtain ⟨hb,h⟩:=h
 first|(refine req.intro hb ?_;conv=>whnf)|skip
 let t2:List UInt8:=(((((n++n1)++n2)++n3)++n4)++n5)++n6
 replace h:=Xal.elim h;obtain ⟨n7,hy,h⟩:=h
 refine XaK.q rfl rfl (Xku hy) rfl rfl rfl ?_
 conv=>whnf
 replace h:=XaJ.elim h;obtain ⟨hb,h⟩:=h
 first|(refine req.intro hb ?_;conv=>whnf)|skip
 replace h:=Xal.elim h;obtain ⟨n8,hy,h⟩:=h
 refine XaK.q rfl rfl (Xku hy) rfl rfl rfl ?_
 conv=>whnf
 replace h:=XaJ.elim h;obtain ⟨hb,h⟩:=h
 first|(refine req.intro hb ?_;conv=>whnf)|skip
 replace h:=XaJ.elim h;obtain ⟨hb,h⟩:=h
 first|(refine req.intro hb ?_;conv=>whnf)|skip
 replace h:=XaJ.elim h;obtain ⟨hb,h⟩:=h
 first|(refine req.intro hb ?_;conv=>whnf)|skip
 let t3:List UInt8:=(((t2++n7)++n8)++ha0.Options)++payload
 replace h:=XaJ.elim h;obtain ⟨hb,h⟩:=h
 first|(refine req.intro hb ?_;conv=>whnf)|skip
 replace h:=Xal.elim h;obtain ⟨xo,hy,h⟩:=h
 refine XaK.q rfl rfl (Xol hy) rfl rfl rfl ?_
 conv=>whnf
 replace h:=Xal.elim h;obtain ⟨s,hy,h⟩:=h
 refine XaK.q rfl rfl (XoV hy) rfl rfl rfl ?_
 conv=>whnf
 all_goals (cases h;exact Res.z rfl rfl rfl)
theorem ok78 (XbP:(List UInt8)→Option Int) (Xbm:(List UInt8)→Int→Int→Int→Option (List UInt8)) (XaB:Xaa→Xaa→Int→Int→Option (List UInt8)) (XcF:Xak→Option Bool) (XcK:Int→Int→Option (List UInt8)) (hS:Xai Tryz.prog (Xav (XBk XbP Xbm XaB XcF XcK))):Xar Tryz.prog 78 (s78 (Xjo XbP Xbm XaB XcF XcK)):=by
 refine Xar.Xay Xao (fun ar os r ha hr=>?_) ⟨Tryz.f78,rfl,by decide,rfl⟩
 replace hr:r78 (Xjo XbP Xbm XaB XcF XcK) ar (XaD os)=some r:=hr
 unfold r78 at hr
 generalize hc:XaD os=C at hr
 replace hr:=dV.elim hr;obtain ⟨v0,l1,y0,rfl,e0,hr⟩:=hr;obtain rfl:=Xfy _ _ e0
 replace hr:=dV.elim hr;obtain ⟨v1,l2,y1,rfl,e1,hr⟩:=hr;obtain rfl:=Xa1 _ _ e1
 replace hr:=dV.elim hr;obtain ⟨v2,l3,y2,rfl,e2,hr⟩:=hr;obtain rfl:=Xa1 _ _ e2
 replace hr:=dV.elim hr;obtain ⟨v3,l4,y3,rfl,e3,hr⟩:=hr;obtain rfl:=XbH _ _ e3
 replace hr:=Xc2 hr;obtain ⟨rfl,rfl,x,h,rfl⟩:=hr
 obtain rfl:=Xas hc
 exact ⟨_,rfl,XN1 XbP Xbm XaB XcF XcK hS _ _ _ _ x h⟩
def Xeo:Xak→Xaa→Xaa→(List UInt8)→Option ((List UInt8)×Int):=Xjo XbP Xbm XaB XcF XcK
theorem XYE:Xar Tryz.prog 78 (s78 Xeo):=ok78 XbP Xbm XaB XcF XcK (Xai.XaW ⟨Xqy,XvB,Xnk,XKK,Ydr,trivial⟩)
def Xjd (Xam:(List UInt8)→Int→Int→Option Int) (Xba:(List UInt8)→Option Int) (XaB:Xaa→Xaa→Int→Int→Option (List UInt8)) (XbD:(List UInt8)→Option ((List Xby)×Int)) (s:List UInt8) (src:Xaa) (dst:Xaa):Option (Xak×(List UInt8)×Int):=
 cond (decide ((s.length:Int)<20))
  (
  some ((Xak.mk 0 0 0 0 0 0 0 [],[],2)))
  (
  (s[12]?).bind fun (b:UInt8)=>
  let t:=wI .i64 (wI .u8 ((b.toNat:Int).tdiv 16))
  cond (decide ((wI .i64 (4*t))<20))
   (
   some ((Xak.mk 0 0 0 0 0 0 0 [],[],3)))
   (
   (s[12]?).bind fun (b1:UInt8)=>
   cond (((b1.toNat:Int).tmod 16) !=0)
    (
    some ((Xak.mk 0 0 0 0 0 0 0 [],[],3)))
    (
    let t1:=decide ((s.length:Int)<(wI .i64 (4*t)))
    cond (t1)
     (
     some ((Xak.mk 0 0 0 0 0 0 0 [],[],2)))
     (
     (XaB src dst 6 (s.length:Int)).bind fun p=>
     cond (p==[])
      (
      some ((Xak.mk 0 0 0 0 0 0 0 [],[],1)))
      (
      XaJ (decide (p.length+s.length<2^63)) <|
      (Xba (p++s)).bind fun s1=>
      cond (s1 !=65535)
       (
       some ((Xak.mk 0 0 0 0 0 0 0 [],[],4)))
       (
       XaJ (decide ((0:Int)≤(wI .i64 (4*t))∧(wI .i64 (4*t))≤(s.length:Int)∧(0:Int)≤(20:Int)∧(20:Int)≤((wI .i64 (4*t)).toNat:Int))) <|
       let t2:=(s.drop 20).take ((wI .i64 (4*t)).toNat - 20)
       (XbD t2).bind fun l=>
       cond (l.2 !=0)
        (
        some ((Xak.mk 0 0 0 0 0 0 0 [],[],l.2)))
        (
        (Xam s 0 2).bind fun m=>
        (Xam s 2 2).bind fun m1=>
        (Xam s 4 4).bind fun m2=>
        (Xam s 8 4).bind fun m3=>
        (s[13]?).bind fun (b2:UInt8)=>
        (Xam s 14 2).bind fun m4=>
        (Xam s 18 2).bind fun m5=>
        XaJ (decide ((0:Int)≤(wI .i64 (4*t))∧(wI .i64 (4*t))≤(s.length:Int)∧(0:Int)≤(20:Int)∧(20:Int)≤((wI .i64 (4*t)).toNat:Int))) <|
        let t3:=(s.drop 20).take ((wI .i64 (4*t)).toNat - 20)
        XaJ (decide ((0:Int)≤(wI .i64 (4*t))∧(wI .i64 (4*t))≤(s.length:Int))) <|
        let t4:=(s.drop (wI .i64 (4*t)).toNat).take (s.length - (wI .i64 (4*t)).toNat)
        some ((Xak.mk m m1 (wI .u32 m2) (wI .u32 m3) (wI .i64 (b2.toNat:Int)) m4 m5 t3,t4,0)))))))))
def Xzd (x:Xak×(List UInt8)×Int):Xca:=⟨.tuple ⟨[.agg ⟨[.int .i64 x.1.SPort,.int .i64 x.1.DPort,.int .u32 x.1.Seq,.int .u32 x.1.Ack,.int .i64 x.1.Flags,.int .i64 x.1.Window,.int .i64 x.1.Urgent,.string ⟨⟨x.1.Options⟩⟩]⟩,.string ⟨⟨x.2.1⟩⟩,.int .i64 x.2.2]⟩,[],[]⟩
def r108 (g:(List UInt8)→Xaa→Xaa→Option (Xak×(List UInt8)×Int)):Dec:=dV asS fun (y0:List UInt8)=>dV Xbp fun (y1:Xaa)=>dV Xbp fun (y2:Xaa)=>XcO (ofG (g y0 y1 y2) Xzd)
theorem X8N {g:(List UInt8)→Xaa→Xaa→Option (Xak×(List UInt8)×Int)} {y0:List UInt8} {y1:Xaa} {y2:Xaa} {x:Xak×(List UInt8)×Int} (hx:g y0 y1 y2=some x):r108 g [.string ⟨⟨y0⟩⟩,.agg ⟨[.bool y1.V6,.int .u64 y1.Hi,.int .u64 y1.Lo]⟩,.agg ⟨[.bool y2.V6,.int .u64 y2.Hi,.int .u64 y2.Lo]⟩] []=some (Xzd x):=(XaT (Xcp)).trans ((XaT (Xa8 _)).trans ((XaT (Xa8 _)).trans (Xa0 hx)))
def s108 (g:(List UInt8)→Xaa→Xaa→Option (Xak×(List UInt8)×Int)):Xbr:=⟨[.v,.v,.v],r108 g⟩
theorem XIy {g:(List UInt8)→Xaa→Xaa→Option (Xak×(List UInt8)×Int)} {y0:List UInt8} {y1:Xaa} {y2:Xaa} {x:Xak×(List UInt8)×Int} (hx:g y0 y1 y2=some x):(s108 g).run [.string ⟨⟨y0⟩⟩,.agg ⟨[.bool y1.V6,.int .u64 y1.Hi,.int .u64 y1.Lo]⟩,.agg ⟨[.bool y2.V6,.int .u64 y2.Hi,.int .u64 y2.Lo]⟩] []=some (Xzd x):=X8N hx
abbrev XuR (Xam:(List UInt8)→Int→Int→Option Int) (Xba:(List UInt8)→Option Int) (XaB:Xaa→Xaa→Int→Int→Option (List UInt8)) (XbD:(List UInt8)→Option ((List Xby)×Int)):List (Nat×Xbr):=[(74,s74 Xam),(147,XEP Xba),(129,XOt XaB),(167,XTf XbD)]
theorem XzK (Xam:(List UInt8)→Int→Int→Option Int) (Xba:(List UInt8)→Option Int) (XaB:Xaa→Xaa→Int→Int→Option (List UInt8)) (XbD:(List UInt8)→Option ((List Xby)×Int)) (hS:Xai Tryz.prog (Xav (XuR Xam Xba XaB XbD))) (s:List UInt8) (src:Xaa) (dst:Xaa) (res:Xak×(List UInt8)×Int) (h:Xjd Xam Xba XaB XbD s src dst=some res) :
 XaI Tryz.prog 108 0 ⟨⟨108,85,[(0,.string ⟨⟨s⟩⟩),(1,.agg ⟨[.bool src.V6,.int .u64 src.Hi,.int .u64 src.Lo]⟩),(2,.agg ⟨[.bool dst.V6,.int .u64 dst.Hi,.int .u64 dst.Lo]⟩)],[.code Xtn],[],false,none⟩,[],[],0⟩ (fun v H _=>Res 0 (Xzd res) v H):=by
 unfold Xjd at h
 refine Xa7 Xao hS true 3000 ?_
 conv=>whnf
 refine br.h h ?_ ?_ ?_
 ·rfl
 ·clear h;intro hb h;conv=>whnf
  all_goals (cases h;exact Res.z rfl rfl rfl)
 clear h;intro hb h;conv=>whnf
 replace h:=Xal.elim h;obtain ⟨b,hy,h⟩:=h
 refine rdS.intro hy ?_
 conv=>whnf
 let t:Int:=wI .i64 (wI .u8 ((b.toNat:Int).tdiv 16))
 refine br.h h ?_ ?_ ?_
 ·rfl
 ·clear h;intro hb h;conv=>whnf
  all_goals (cases h;exact Res.z rfl rfl rfl)
 clear h;intro hb h;conv=>whnf
 replace h:=Xal.elim h;obtain ⟨b1,hy,h⟩:=h
 refine rdS.intro hy ?_
 conv=>whnf
 refine br.h h ?_ ?_ ?_
 ·rfl
 ·clear h;intro hb h;conv=>whnf
  all_goals (cases h;exact Res.z rfl rfl rfl)
 clear h;intro hb h;conv=>whnf
 let t1:Bool:=decide ((s.length:Int)<(wI .i64 (4*t)))
 refine br.h h ?_ ?_ ?_
 ·rfl
 ·clear h;intro hb h;conv=>whnf
  all_goals (cases h;exact Res.z rfl rfl rfl)
 clear h;intro hb h;conv=>whnf
 replace h:=Xal.elim h;obtain ⟨p,hy,h⟩:=h
 refine XaK.q rfl rfl (Xob hy) rfl rfl rfl ?_
 conv=>whnf
 refine br.h h ?_ ?_ ?_
 ·rfl
 ·clear h;intro hb h;conv=>whnf
  all_goals (cases h;exact Res.z rfl rfl rfl)
 clear h;intro hb h;conv=>whnf
 replace h:=XaJ.elim h;obtain ⟨hb,h⟩:=h
 first|(refine req.intro hb ?_;conv=>whnf)|skip
 replace h:=Xal.elim h;obtain ⟨s1,hy,h⟩:=h
 refine XaK.q rfl rfl (Xoj hy) rfl rfl rfl ?_
 conv=>whnf
 refine br.h h ?_ ?_ ?_
 ·rfl
 ·clear h;intro hb h;conv=>whnf
  all_goals (cases h;exact Res.z rfl rfl rfl)
 clear h;intro hb h;conv=>whnf
 replace h:=XaJ.elim h;obtain ⟨hb,h⟩:=h
 first|(refine req.intro hb ?_;conv=>whnf)|skip
 let t2:List UInt8:=(s.drop 20).take ((wI .i64 (4*t)).toNat - 20)
 replace h:=Xal.elim h;obtain ⟨l,hy,h⟩:=h
 refine XaK.Xbb [] (Xaw (aqs:=[.string ⟨⟨t2⟩⟩]) (ws:=[]) (n:=1) (m:=0) (t':=4) (Xau rfl rfl Xbf) rfl (by rfl) (Xte hy) rfl rfl rfl rfl Xbe (Xho (XpU Xcc) Xbc) rfl) ?_
 conv=>whnf
 refine br.h h ?_ ?_ ?_
 ·rfl
 ·clear h;intro hb h;conv=>whnf
  all_goals (cases h;exact Res.z rfl rfl rfl)
 clear h;intro hb h;conv=>whnf
 replace h:=Xal.elim h;obtain ⟨m,hy,h⟩:=h
 refine XaK.q rfl rfl (XeL hy) rfl rfl rfl ?_
 conv=>whnf
 replace h:=Xal.elim h;obtain ⟨m1,hy,h⟩:=h
 refine XaK.q rfl rfl (XeL hy) rfl rfl rfl ?_
 conv=>whnf
 replace h:=Xal.elim h;obtain ⟨m2,hy,h⟩:=h
 refine XaK.q rfl rfl (XeL hy) rfl rfl rfl ?_
 conv=>whnf
 replace h:=Xal.elim h;obtain ⟨m3,hy,h⟩:=h
 refine XaK.q rfl rfl (XeL hy) rfl rfl rfl ?_
 conv=>whnf
 replace h:=Xal.elim h;obtain ⟨b2,hy,h⟩:=h
 refine rdS.intro hy ?_
 conv=>whnf
 replace h:=Xal.elim h;obtain ⟨m4,hy,h⟩:=h
 refine XaK.q rfl rfl (XeL hy) rfl rfl rfl ?_
 conv=>whnf
 replace h:=Xal.elim h;obtain ⟨m5,hy,h⟩:=h
 refine XaK.q rfl rfl (XeL hy) rfl rfl rfl ?_
 conv=>whnf
 replace h:=XaJ.elim h;obtain ⟨hb,h⟩:=h
 first|(refine req.intro hb ?_;conv=>whnf)|skip
 let t3:List UInt8:=(s.drop 20).take ((wI .i64 (4*t)).toNat - 20)
 replace h:=XaJ.elim h;obtain ⟨hb,h⟩:=h
 first|(refine req.intro hb ?_;conv=>whnf)|skip
 let t4:List UInt8:=(s.drop (wI .i64 (4*t)).toNat).take (s.length - (wI .i64 (4*t)).toNat)
 all_goals (cases h;exact Res.z rfl rfl rfl)
theorem ok108 (Xam:(List UInt8)→Int→Int→Option Int) (Xba:(List UInt8)→Option Int) (XaB:Xaa→Xaa→Int→Int→Option (List UInt8)) (XbD:(List UInt8)→Option ((List Xby)×Int)) (hS:Xai Tryz.prog (Xav (XuR Xam Xba XaB XbD))):Xar Tryz.prog 108 (s108 (Xjd Xam Xba XaB XbD)):=by
 refine Xar.Xay Xao (fun ar os r ha hr=>?_) ⟨Tryz.f108,rfl,by decide,rfl⟩
 replace hr:r108 (Xjd Xam Xba XaB XbD) ar (XaD os)=some r:=hr
 unfold r108 at hr
 generalize hc:XaD os=C at hr
 replace hr:=dV.elim hr;obtain ⟨v0,l1,y0,rfl,e0,hr⟩:=hr;obtain rfl:=XbH _ _ e0
 replace hr:=dV.elim hr;obtain ⟨v1,l2,y1,rfl,e1,hr⟩:=hr;obtain rfl:=Xa1 _ _ e1
 replace hr:=dV.elim hr;obtain ⟨v2,l3,y2,rfl,e2,hr⟩:=hr;obtain rfl:=Xa1 _ _ e2
 replace hr:=Xc2 hr;obtain ⟨rfl,rfl,x,h,rfl⟩:=hr
 obtain rfl:=Xas hc
 exact ⟨_,rfl,XzK Xam Xba XaB XbD hS _ _ _ x h⟩
def Xd0:(List UInt8)→Xaa→Xaa→Option (Xak×(List UInt8)×Int):=Xjd Xam Xba XaB XbD
theorem XF9:Xar Tryz.prog 108 (s108 Xd0):=ok108 Xam Xba XaB XbD (Xai.XaW ⟨Xmn,XnC,Xnk,XvC,trivial⟩)
end Go.Vm.Code
namespace Go.Vm.Code
open Go Go.Vm
def H7 (h:Xak):Bool:=inR h.SPort 65535&&inR h.DPort 65535&&inR h.Window 65535&&inR h.Urgent 65535&&inR h.Flags 255&&decide (h.Options.length%4=0)&&decide (h.Options.length≤40)
theorem XCS {h:Xak} (hh:H7 h=true):(0≤h.SPort∧h.SPort≤65535)∧(0≤h.DPort∧h.DPort≤65535)∧(0≤h.Window∧h.Window≤65535)∧(0≤h.Urgent∧h.Urgent≤65535)∧(0≤h.Flags∧h.Flags≤255)∧h.Options.length%4=0∧h.Options.length≤40:=by
 unfold H7 at hh
 simp only [Bool.and_eq_true,XvI,decide_eq_true_eq] at hh
 obtain ⟨⟨⟨⟨⟨⟨a,b⟩,c⟩,d⟩,e⟩,f⟩,g⟩:=hh
 exact ⟨a,b,c,d,e,f,g⟩
def W7 (h:Xak):Prop:=(0≤h.Seq∧h.Seq<4294967296)∧0≤h.Ack∧h.Ack<4294967296
def ha7 (h:Xak):List UInt8:=be h.SPort.toNat 2++be h.DPort.toNat 2++be h.Seq.toNat 4++be h.Ack.toNat 4++be (4*(20+h.Options.length)) 1++be h.Flags.toNat 1++be h.Window.toNat 2
def hc7 (h:Xak) (c:Nat):List UInt8:=ha7 h++(be c 2++(be h.Urgent.toNat 2++h.Options))
theorem Xqd (h:Xak):(ha7 h).length=16:=by simp [ha7]
theorem Xqg (h:Xak) (c:Nat):(hc7 h c).length=20+h.Options.length:=by simp [hc7,Xqd];omega
theorem Xn7 (h:Xak) (c:Nat) (l:List UInt8):hc7 h c++l=ha7 h++(be c 2++(be h.Urgent.toNat 2++(h.Options++l))):=by simp only [hc7,List.append_assoc]
def ck7 (p:List UInt8) (h:Xak) (l:List UInt8):Nat:=ckN (Xfk (p++(hc7 h 0++l)))
def Xp0 (h:Xak) (src dst:Xaa) (l:List UInt8):List UInt8×Int:=
 if H7 h=false then ([],1) else if Xln src dst 6 (20+h.Options.length+l.length)=[] then ([],1) else if 65535 - (20+(h.Options.length:Int))<l.length then ([],5) else
  (hc7 h (ck7 (Xln src dst 6 (20+h.Options.length+l.length)) h l)++l,0)
def XmD:Xak:=⟨0,0,0,0,0,0,0,[]⟩
def XhY (s:List UInt8) (src dst:Xaa):Xak×List UInt8×Int:=
 if s.length<20 then (XmD,[],2) else if 4*(vK s 12 1/16)<20 then (XmD,[],3) else if vK s 12 1%16≠0 then (XmD,[],3) else if (s.length:Int)<4*(vK s 12 1/16) then (XmD,[],2) else
  if Xln src dst 6 s.length=[] then (XmD,[],1) else if norm (Xfk (Xln src dst 6 s.length++s))≠65535 then (XmD,[],4) else
   if (Xkz ((s.drop 20).take ((4*(vK s 12 1/16)).toNat - 20))).2≠0 then (XmD,[],(Xkz ((s.drop 20).take ((4*(vK s 12 1/16)).toNat - 20))).2) else
   (⟨vK s 0 2,vK s 2 2,vK s 4 4,vK s 8 4,vK s 13 1,vK s 14 2,vK s 18 2,(s.drop 20).take ((4*(vK s 12 1/16)).toNat - 20)⟩,s.drop (4*(vK s 12 1/16)).toNat,0)
theorem X0k (h:Xak):XbV h.SPort 2++XbV h.DPort 2++XbV h.Seq 4++XbV h.Ack 4++XbV (4*(20+(h.Options.length:Int))) 1++XbV h.Flags 1++XbV h.Window 2++XbV 0 2++XbV h.Urgent 2++h.Options=hc7 h 0:=by
 have p4:∀ n:Int,XbV n 4=be n.toNat 4:=fun n=>Xgn (k:=4) (by omega)
 have p2:∀ n:Int,XbV n 2=be n.toNat 2:=fun n=>Xgn (k:=2) (by omega)
 have p1:∀ n:Int,XbV n 1=be n.toNat 1:=fun n=>Xgn (k:=1) (by omega)
 simp only [p4,p2,p1,show (4*(20+(h.Options.length:Int))).toNat=4*(20+h.Options.length) by omega,show (0:Int).toNat=0 from rfl]
 simp only [hc7,ha7,List.append_assoc]
theorem XzO {p t:List UInt8} {A B:List UInt8} (ht:t=A++(be 0 2++B)) (hA:A.length=16) (hl:p.length<2^30) (hl2:t.length<2^30):((XaR (p++t)).bind fun xo=>(XaC t 16 2 (wI .u64 xo)).bind fun s=>some (s,(0:Int)))=some (A++(be (ckN (Xfk (p++t))) 2++B),0):=by
 have n:=norm_le (Xfk (p++t))
 rw [Xz9 (by rw [List.length_append];omega),Option.bind_some,XeJ (by omega) (by omega),Xq6 (by omega) (by omega),Option.bind_some]
 have:=Xrv (A:=A) (B:=B) (p:=16) (c:=65535 - ((norm (Xfk (p++t)):Nat):Int)) hA
 rw [←ht] at this
 rw [show ((16:Nat):Int)=16 from rfl] at this
 rw [this]
 unfold ckN
 rw [show (65535 - ((norm (Xfk (p++t)):Nat):Int)).toNat=65535 - norm (Xfk (p++t)) by omega]
theorem XtF {p t:List UInt8} {A B:List UInt8} (ht:t=A++(be 0 2++B)) (hA:A.length=16) (hl:p.length<2^30) (hl2:t.length<2^30):((XbP (p++t)).bind fun xo=>(Xbm t 16 2 (wI .u64 xo)).bind fun s=>some (s,(0:Int)))=some (A++(be (ckN (Xfk (p++t))) 2++B),0):=by
 have n:=norm_le (Xfk (p++t))
 rw [XlR (by rw [List.length_append];omega),Option.bind_some,XeJ (by omega) (by omega),Xjq (by omega) (by omega) (by omega),Option.bind_some]
 have:=Xrv (A:=A) (B:=B) (p:=16) (c:=65535 - ((norm (Xfk (p++t)):Nat):Int)) hA
 rw [←ht] at this
 rw [show ((16:Nat):Int)=16 from rfl] at this
 rw [this]
 unfold ckN
 rw [show (65535 - ((norm (Xfk (p++t)):Nat):Int)).toNat=65535 - norm (Xfk (p++t)) by omega]
theorem XmQ {m:Int} {l:List Int} (h:l.length<2^20):XbZ m l=some (l.all fun x=>inR x m):=by
 unfold XbZ XfX
 have key:=iter_eq (step:=fun st=>Xes m l st) (fun st=>(l.drop st.toNat).all fun x=>inR x m) (fun st=>0≤st∧st≤l.length) (fun st=>((l.length:Int) - st).toNat) ?_ FUEL 0 ⟨by omega,by omega⟩ (by rw [XeE];omega)
 ·rw [key];simp
 intro st ⟨g1,g2⟩
 obtain ⟨i,rfl⟩:=Int.eq_ofNat_of_zero_le g1
 unfold Xes
 simp only [Int.toNat_natCast]
 by_cases hp:i<l.length
 ·have ed:l.drop i=l[i]::l.drop (i+1):=List.drop_eq_getElem_cons hp
  rw [XaS (by omega),Xaz (by omega),List.getElem?_eq_getElem hp,Option.bind_some]
  by_cases hb:l[i]<0
  ·refine .inl ?_
   rw [XaS hb,ed,List.all_cons,show inR l[i] m=false by unfold inR;simp;omega,Bool.false_and]
  by_cases hc:l[i]>m
  ·refine .inl ?_
   rw [XaO hb,XaS hc,ed,List.all_cons,show inR l[i] m=false by unfold inR;simp;omega,Bool.false_and]
  ·refine .inr ⟨((i+1:Nat):Int),?_,⟨by omega,by omega⟩,by omega,?_⟩
   ·rw [XaO hb,XaO hc,Xcg (by omega) (by omega)];rfl
   ·rw [Int.toNat_natCast,ed,List.all_cons,show inR l[i] m=true by unfold inR;simp;omega,Bool.true_and]
 ·refine .inl ?_
  rw [XaO (by omega),List.drop_of_length_le (by omega)];rfl
theorem X63 (n m:Int):XeM n m=some (inR n m):=by
 unfold XeM XkU inR
 by_cases h:0≤n
 ·rw [XaS (by omega)];simp [h]
 ·rw [XaO (by omega)];simp [h]
theorem XRg (h:Xak):XbI h=some (H7 h):=by
 unfold XbI Xey H7
 rw [XmQ (by simp),XmQ (by simp)]
 simp only [Option.bind_some,Xoc,XqF,List.all_cons,List.all_nil,Bool.and_true]
 cases inR h.SPort 65535<;>cases inR h.DPort 65535<;>cases inR h.Window 65535<;>cases inR h.Urgent 65535<;>cases inR h.Flags 255<;>cases decide (h.Options.length%4=0)<;>rfl
theorem XvM (h:Xak):XcF h=some (H7 h):=by
 unfold XcF XgA H7
 simp only [X63,Option.bind_some,Xoc,XqF]
 cases inR h.SPort 65535<;>cases inR h.DPort 65535<;>cases inR h.Window 65535<;>cases inR h.Urgent 65535<;>cases inR h.Flags 255<;>cases decide (h.Options.length%4=0)<;>cases decide (h.Options.length≤40)<;>rfl
theorem XPt (n k:Int):XcK n k=some (XbV (wI .u64 n) k):=by
 unfold XcK Xjm
 rw [XcP (Xjp n).1 (Xjp n).2];rfl
theorem put4 (n:Int):XbV n 4=be n.toNat 4:=Xgn (k:=4) (by omega)
theorem put8' (n:Int):XbV n 8=be n.toNat 8:=Xgn (k:=8) (by omega)
theorem X4d (n:Int):XbV n 2=be n.toNat 2:=Xgn (k:=2) (by omega)
theorem XzA {h:Xak} (hh:H7 h=true) (hw:W7 h):XbB h=some (hc7 h 0):=by
 obtain ⟨q1,q2,q3,q4,q5,q6,q7⟩:=XCS hh
 obtain ⟨w1,w2⟩:=hw
 unfold XbB XdI
 obtain ⟨sp,hsp⟩:=Int.eq_ofNat_of_zero_le q1.1
 obtain ⟨dp,hdp⟩:=Int.eq_ofNat_of_zero_le q2.1
 obtain ⟨wi,hwi⟩:=Int.eq_ofNat_of_zero_le q3.1
 obtain ⟨ur,hur⟩:=Int.eq_ofNat_of_zero_le q4.1
 obtain ⟨fl,hfl⟩:=Int.eq_ofNat_of_zero_le q5.1
 obtain ⟨sq,hsq⟩:=Int.eq_ofNat_of_zero_le w1.1
 obtain ⟨ak,hak⟩:=Int.eq_ofNat_of_zero_le w2.1
 rw [hsp] at q1;rw [hdp] at q2;rw [hwi] at q3;rw [hur] at q4;rw [hfl] at q5;rw [hsq] at w1;rw [hak] at w2
 rw [hsp,hdp,hwi,hur,hfl,hsq,hak]
 have e1:Xjh .u64 (wI .u64 ((wI .u64 (sp:Int))*2^16)) (wI .u64 (dp:Int))=((sp*65536+dp:Nat):Int):=by
  rw [XeJ (n:=(sp:Int)) (by omega) (by omega),XeJ (n:=(dp:Int)) (by omega) (by omega),XeJ (n:=(sp:Int)*2^16) (by omega) (by omega),Xfb 16 (by omega) (by omega) (by omega) (by omega) (by omega)];omega
 have e2:Xjh .u64 (wI .u64 ((wI .u64 (sq:Int))*2^32)) (wI .u64 (ak:Int))=((sq*4294967296+ak:Nat):Int):=by
  rw [XeJ (n:=(sq:Int)) (by omega) (by omega),XeJ (n:=(ak:Int)) (by omega) (by omega),XeJ (n:=(sq:Int)*2^32) (by omega) (by omega),Xfb 32 (by omega) (by omega) (by omega) (by omega) (by omega)];omega
 have e3:Xjh .u64 (wI .u64 ((wI .u64 ((wI .u64 (wI .i64 (20+(h.Options.length:Int)))).tdiv 4))*2^12)) (wI .u64 (fl:Int))=((4*(20+h.Options.length)*256+fl:Nat):Int):=by
  rw [Xcg (n:=20+(h.Options.length:Int)) (by omega) (by omega),XeJ (n:=20+(h.Options.length:Int)) (by omega) (by omega),XI1,XeJ (n:=(((20+h.Options.length)/4:Nat):Int)) (by omega) (by omega),XeJ (n:=(fl:Int)) (by omega) (by omega),XeJ (n:=(((20+h.Options.length)/4:Nat):Int)*2^12) (by omega) (by omega),Xfb 12 (by omega) (by omega) (by omega) (by omega) (by omega)];omega
 simp only [e1,e2,e3]
 have k1:Xan ((sp*65536+dp:Nat):Int) 4=some (be sp 2++be dp 2):=by
  rw [Xbq (by omega),put4,Int.toNat_natCast,XCI _ _ (by omega)]
 have k2:Xan ((sq*4294967296+ak:Nat):Int) 8=some (be sq 4++be ak 4):=by
  rw [Xbq (by omega),put8',Int.toNat_natCast,XDZ _ _ (by omega)]
 have k3:Xan ((4*(20+h.Options.length)*256+fl:Nat):Int) 2=some (be (4*(20+h.Options.length)) 1++be fl 1):=by
  rw [Xbq (by omega),X4d,Int.toNat_natCast,YcS _ _ (by omega)]
 have k4:Xan (wI .u64 (wi:Int)) 2=some (be wi 2):=by
  rw [XeJ (by omega) (by omega),Xbq (by omega),X4d,Int.toNat_natCast]
 have k5:Xan (wI .u64 (ur:Int)) 4=some (be 0 2++be ur 2):=by
  have:=XCI 0 ur (by omega)
  rw [Nat.zero_mul,Nat.zero_add] at this
  rw [XeJ (by omega) (by omega),Xbq (by omega),put4,Int.toNat_natCast,this]
 rw [k1,Option.bind_some,k2,Option.bind_some,k3,Option.bind_some,k4,Option.bind_some,k5,Option.bind_some]
 rw [Xaz (by simp),Xaz (by simp),Xaz (by simp),Xaz (by simp),Xaz (by simp;omega)]
 unfold hc7 ha7
 rw [hsp,hdp,hwi,hur,hfl,hsq,hak]
 simp only [Int.toNat_natCast,List.append_assoc]
theorem XyA {h:Xak} {src dst:Xaa} {l:List UInt8} (hw:W7 h) (h1:A4 src) (h2:A4 dst) (hl:l.length<2^20) (ho:h.Options.length<2^20):Xd8 h src dst l=some (Xp0 h src dst l):=by
 unfold Xd8 Xi6 Xp0
 simp only []
 rw [Xcg (n:=20+(h.Options.length:Int)) (by omega) (by omega),Xcg (n:=20+(h.Options.length:Int)+l.length) (by omega) (by omega),Xj5 h1 h2 (by omega) (by omega),Option.bind_some,XRg,Option.bind_some]
 have hp:=Xhe src dst 6 (20+(h.Options.length:Int)+l.length)
 generalize Xln src dst 6 (20+(h.Options.length:Int)+l.length)=p at *
 cases hh:H7 h
 ·rfl
 rw [Bool.not_true,cond_false,if_neg (by decide)]
 by_cases e3:p=[]
 ·subst e3;rfl
 rw [show (p==[])=false by simpa using e3,cond_false,if_neg e3,Xcg (n:=65535 - (20+(h.Options.length:Int))) (by omega) (by omega)]
 by_cases h5:(l.length:Int)>65535 - (20+(h.Options.length:Int))
 ·rw [XaS h5,if_pos (by omega)]
 rw [XaO h5,if_neg (by omega),XzA hh hw,Option.bind_some]
 have hlen:=Xqg h 0
 rw [Xaz (by omega),Xaz (by simp only [List.length_append];omega)]
 have:=XzO (p:=p) (t:=hc7 h 0++l) (Xn7 h 0 l) (Xqd h) (by omega) (by simp only [List.length_append];omega)
 rw [this]
 unfold ck7
 rw [Xn7 h (ckN _) l]
theorem XA2 {h:Xak} {src dst:Xaa} {l:List UInt8} (hw:W7 h) (h1:A4 src) (h2:A4 dst) (hl:l.length<2^20) (ho:h.Options.length<2^20):Xeo h src dst l=some (Xp0 h src dst l):=by
 unfold Xeo Xjo Xp0
 simp only []
 rw [Xcg (n:=20+(h.Options.length:Int)) (by omega) (by omega),Xcg (n:=20+(h.Options.length:Int)+l.length) (by omega) (by omega),Xi3 h1 h2 (by omega) (by omega),Option.bind_some,XvM,Option.bind_some]
 have hp:=Xhe src dst 6 (20+(h.Options.length:Int)+l.length)
 generalize Xln src dst 6 (20+(h.Options.length:Int)+l.length)=p at *
 cases hh:H7 h
 ·rfl
 rw [Bool.not_true,cond_false,if_neg (by decide)]
 by_cases e3:p=[]
 ·subst e3;rfl
 rw [show (p==[])=false by simpa using e3,cond_false,if_neg e3,Xcg (n:=65535 - (20+(h.Options.length:Int))) (by omega) (by omega)]
 by_cases h5:(l.length:Int)>65535 - (20+(h.Options.length:Int))
 ·rw [XaS h5,if_pos (by omega)]
 rw [XaO h5,if_neg (by omega)]
 obtain ⟨q1,q2,q3,q4,q5,q6,q7⟩:=XCS hh
 obtain ⟨w1,w2⟩:=hw
 simp only [XPt,Option.bind_some]
 rw [Xcg (n:=h.Seq) (by omega) (by omega),Xcg (n:=h.Ack) (by omega) (by omega),Xcg (n:=4*(20+(h.Options.length:Int))) (by omega) (by omega),XeJ q1.1 (by omega),XeJ q2.1 (by omega),XeJ w1.1 (by omega),XeJ w2.1 (by omega),XeJ (n:=4*(20+(h.Options.length:Int))) (by omega) (by omega),XeJ q5.1 (by omega),XeJ q3.1 (by omega),XeJ q4.1 (by omega),show wI .u64 0=0 from rfl]
 have hd:=X0k h
 have a1:=XaY h.SPort 2
 have a2:=XaY h.DPort 2
 have a3:=XaY h.Seq 4
 have a4:=XaY h.Ack 4
 have a5:=XaY (4*(20+(h.Options.length:Int))) 1
 have a6:=XaY h.Flags 1
 have a7:=XaY h.Window 2
 have a8:=XaY 0 2
 have a9:=XaY h.Urgent 2
 have hlen:=Xqg h 0
 iterate 10 rw [Xaz (by first|omega|(simp only [List.length_append];omega))]
 rw [hd,Xaz (by simp only [List.length_append];omega)]
 have:=XtF (p:=p) (t:=hc7 h 0++l) (Xn7 h 0 l) (Xqd h) (by omega) (by simp only [List.length_append];omega)
 rw [this]
 unfold ck7
 rw [Xn7 h (ckN _) l]
theorem XrV {s:List UInt8} {n:Nat} (hs:s.length<2^38) (h20:20≤n) (hn:n≤s.length):Xb6 s (n:Int)=some ⟨vK s 0 2,vK s 2 2,vK s 4 4,vK s 8 4,vK s 13 1,vK s 14 2,vK s 18 2,(s.drop 20).take (n - 20)⟩:=by
 unfold Xb6 XfN
 have N:∀ (p k:Nat),1≤k→k≤7→p+k≤20→Xad ⟨s.drop p,true,false⟩ (k:Int)=some (vK s p k,⟨s.drop (p+k),true,false⟩):=fun p k a b c=>XC6 a b (by omega) (by omega)
 have N0:Xad ⟨s,true,false⟩ 2=some (vK s 0 2,⟨s.drop 2,true,false⟩):=N 0 2 (by omega) (by omega) (by omega)
 have N2:Xad ⟨s.drop 2,true,false⟩ 2=some (vK s 2 2,⟨s.drop 4,true,false⟩):=N 2 2 (by omega) (by omega) (by omega)
 have N4:Xad ⟨s.drop 4,true,false⟩ 4=some (vK s 4 4,⟨s.drop 8,true,false⟩):=N 4 4 (by omega) (by omega) (by omega)
 have N8:Xad ⟨s.drop 8,true,false⟩ 4=some (vK s 8 4,⟨s.drop 12,true,false⟩):=N 8 4 (by omega) (by omega) (by omega)
 have N12:Xad ⟨s.drop 12,true,false⟩ 2=some (vK s 12 2,⟨s.drop 14,true,false⟩):=N 12 2 (by omega) (by omega) (by omega)
 have N14:Xad ⟨s.drop 14,true,false⟩ 2=some (vK s 14 2,⟨s.drop 16,true,false⟩):=N 14 2 (by omega) (by omega) (by omega)
 have N16:Xad ⟨s.drop 16,true,false⟩ 2=some (vK s 16 2,⟨s.drop 18,true,false⟩):=N 16 2 (by omega) (by omega) (by omega)
 have N18:Xad ⟨s.drop 18,true,false⟩ 2=some (vK s 18 2,⟨s.drop 20,true,false⟩):=N 18 2 (by omega) (by omega) (by omega)
 have r4:=XdT s 4 4 4294967296 (by decide)
 have r8:=XdT s 8 4 4294967296 (by decide)
 have r12:=XdT s 12 2 65536 (by decide)
 rw [Xmv,Option.bind_some,N0,Option.bind_some]
 simp only []
 rw [N2,Option.bind_some]
 simp only []
 rw [N4,Option.bind_some]
 simp only []
 rw [N8,Option.bind_some]
 simp only []
 rw [N12,Option.bind_some]
 simp only []
 rw [N14,Option.bind_some]
 simp only []
 rw [N16,Option.bind_some]
 simp only []
 rw [N18,Option.bind_some]
 simp only []
 rw [Xcg (n:=(n:Int) - 20) (by omega) (by omega),show (n:Int) - 20=((n - 20:Nat):Int) by omega,Xn1 (by omega),Option.bind_some,Xyy r4.1 r4.2,Xyy r8.1 r8.2,XgS 8 (by decide) (by omega) (by omega) (by omega)]
 have e12:vK s 12 2=(s[12].toNat*256+s[13].toNat:Int):=XvD (s:=s) (p:=12) (by omega)
 have e13:=XjK (s:=s) (p:=13) (by omega)
 have b13:=s[13].toNat_lt
 rw [show vK s 12 2%2^8=vK s 13 1 by rw [e12,e13];omega]
theorem and15:∀ x:Fin 256,Xjr .u8 ((x.val:Nat):Int) 15=((x.val:Nat):Int)%16:=by decide +kernel
theorem Xzj {s:List UInt8} {src dst:Xaa} (h1:A4 src) (h2:A4 dst) (hs:s.length<2^19):Xem s src dst=some (XhY s src dst):=by
 unfold Xem Xi1 XhY
 have hz:(⟨0,0,0,0,0,0,0,[]⟩:Xak)=XmD:=rfl
 rw [hz]
 by_cases h0:s.length<20
 ·rw [XaS (by omega),if_pos h0]
 rw [XaO (by omega),if_neg h0,List.getElem?_eq_getElem (show 12<s.length by omega)]
 have e12:=XjK (s:=s) (p:=12) (by omega)
 have r12:=XdT s 12 1 256 (by decide)
 have hb:=s[12].toNat_lt
 simp only [Option.bind_some]
 rw [←e12,XoM,show ((2:Int)^4)=16 from rfl,Xcg (n:=vK s 12 1/16) (by omega) (by omega),Xcg (n:=4*(vK s 12 1/16)) (by omega) (by omega)]
 have ea:Xjr .u8 (vK s 12 1) 15=vK s 12 1%16:=by
  rw [e12];exact and15 ⟨s[12].toNat,hb⟩
 rw [ea]
 obtain ⟨t,ht⟩:=Int.eq_ofNat_of_zero_le (show 0≤4*(vK s 12 1/16) by omega)
 rw [ht]
 simp only [Int.toNat_natCast]
 by_cases g2:(t:Int)<20
 ·rw [XaS g2,if_pos g2]
 rw [XaO g2,if_neg g2]
 by_cases g3:vK s 12 1%16=0
 ·rw [show (vK s 12 1%16 !=0)=false by simpa using g3,cond_false,if_neg (by simpa using g3)]
  by_cases g4:(s.length:Int)<t
  ·rw [XaS (by omega),if_pos g4]
  rw [XaO (by omega),if_neg g4,Xj5 h1 h2 (by omega) (by omega),Option.bind_some]
  have hp:=Xhe src dst 6 (s.length:Int)
  generalize Xln src dst 6 (s.length:Int)=p at *
  by_cases e3:p=[]
  ·subst e3;rfl
  rw [show (p==[])=false by simpa using e3,cond_false,if_neg e3,Xaz (by omega),Xnw (by simp only [List.length_append];omega),Option.bind_some]
  by_cases g5:norm (Xfk (p++s))=65535
  ·rw [if_neg (by simpa using g5),g5,show ((((65535:Nat):Int)==65535))=true from rfl,Bool.not_true,cond_false,XrV (by omega) (by omega) (by omega),Option.bind_some,X3r (by simp;omega),Option.bind_some]
   by_cases g6:(Xkz ((s.drop 20).take (t - 20))).2=0
   ·rw [if_neg (by simpa using g6)]
    simp only [g6,bne_self_eq_false,cond_false]
    rw [Xaz (by omega),List.take_of_length_le (i:=s.length - t) (by simp)]
   ·rw [if_pos (by simpa using g6),show ((Xkz ((s.drop 20).take (t - 20))).2 !=0)=true by simpa using g6];rfl
  ·rw [if_pos (by simpa using g5),show ((((norm (Xfk (p++s)):Nat):Int)==65535))=false by simp;omega];rfl
 ·rw [show (vK s 12 1%16 !=0)=true by simpa using g3,cond_true,if_pos (by simpa using g3)]
theorem Xy8 {s:List UInt8} {src dst:Xaa} (h1:A4 src) (h2:A4 dst) (hs:s.length<2^19):Xd0 s src dst=some (XhY s src dst):=by
 unfold Xd0 Xjd XhY
 have hz:(⟨0,0,0,0,0,0,0,[]⟩:Xak)=XmD:=rfl
 rw [hz]
 by_cases h0:s.length<20
 ·rw [XaS (by omega),if_pos h0]
 rw [XaO (by omega),if_neg h0,List.getElem?_eq_getElem (show 12<s.length by omega),List.getElem?_eq_getElem (show 13<s.length by omega)]
 have e12:=XjK (s:=s) (p:=12) (by omega)
 have e13:=XjK (s:=s) (p:=13) (by omega)
 have r12:=XdT s 12 1 256 (by decide)
 have r13:=XdT s 13 1 256 (by decide)
 have r4:=XdT s 4 4 4294967296 (by decide)
 have r8:=XdT s 8 4 4294967296 (by decide)
 simp only [Option.bind_some]
 rw [←e12,←e13,Int.tmod_eq_emod_of_nonneg r12.1,Int.tdiv_eq_ediv_of_nonneg r12.1,wU8 (n:=vK s 12 1/16) (by omega) (by omega),Xcg (n:=vK s 12 1/16) (by omega) (by omega),Xcg (n:=4*(vK s 12 1/16)) (by omega) (by omega),Xcg (n:=vK s 13 1) (by omega) (by omega)]
 obtain ⟨t,ht⟩:=Int.eq_ofNat_of_zero_le (show 0≤4*(vK s 12 1/16) by omega)
 rw [ht]
 simp only [Int.toNat_natCast]
 by_cases g2:(t:Int)<20
 ·rw [XaS g2,if_pos g2]
 rw [XaO g2,if_neg g2]
 by_cases g3:vK s 12 1%16=0
 ·rw [show (vK s 12 1%16 !=0)=false by simpa using g3,cond_false,if_neg (by simpa using g3)]
  by_cases g4:(s.length:Int)<t
  ·rw [XaS (by omega),if_pos g4]
  rw [XaO (by omega),if_neg g4,Xi3 h1 h2 (by omega) (by omega),Option.bind_some]
  have hp:=Xhe src dst 6 (s.length:Int)
  generalize Xln src dst 6 (s.length:Int)=p at *
  by_cases e3:p=[]
  ·subst e3;rfl
  rw [show (p==[])=false by simpa using e3,cond_false,if_neg e3,Xaz (by omega),Xi9 (by simp only [List.length_append];omega),Option.bind_some]
  by_cases g5:norm (Xfk (p++s))=65535
  ·rw [if_neg (by simpa using g5),g5,show ((((65535:Nat):Int) !=65535))=false from rfl,cond_false,Xaz (by omega),X2r (by simp;omega),Option.bind_some]
   by_cases g6:(Xkz ((s.drop 20).take (t - 20))).2=0
   ·rw [if_neg (by simpa using g6)]
    simp only [g6,bne_self_eq_false,cond_false]
    have M:∀ (p k:Nat),1≤k→k≤7→p+k≤20→Xam s (p:Int) (k:Int)=some (vK s p k):=fun p k a b c=>XnM (by omega) a b (by omega)
    have M0:Xam s 0 2=some (vK s 0 2):=M 0 2 (by omega) (by omega) (by omega)
    have M2:Xam s 2 2=some (vK s 2 2):=M 2 2 (by omega) (by omega) (by omega)
    have M4:Xam s 4 4=some (vK s 4 4):=M 4 4 (by omega) (by omega) (by omega)
    have M8:Xam s 8 4=some (vK s 8 4):=M 8 4 (by omega) (by omega) (by omega)
    have M14:Xam s 14 2=some (vK s 14 2):=M 14 2 (by omega) (by omega) (by omega)
    have M18:Xam s 18 2=some (vK s 18 2):=M 18 2 (by omega) (by omega) (by omega)
    rw [M0,M2,M4,M8,M14,M18]
    simp only [Option.bind_some]
    rw [Xaz (by omega),Xaz (by omega),List.take_of_length_le (i:=s.length - t) (by simp),Xyy r4.1 r4.2,Xyy r8.1 r8.2]
   ·rw [if_pos (by simpa using g6),show ((Xkz ((s.drop 20).take (t - 20))).2 !=0)=true by simpa using g6];rfl
  ·rw [if_pos (by simpa using g5),show ((((norm (Xfk (p++s)):Nat):Int) !=65535))=true by simp;omega];rfl
 ·rw [show (vK s 12 1%16 !=0)=true by simpa using g3,cond_true,if_pos (by simpa using g3)]
end Go.Vm.Code
namespace Go.Vm.Code
open Go Go.Vm Go.Proofs
set_option maxRecDepth 100000
set_option maxHeartbeats 4000000
set_option linter.unusedVariables false
def Xe6 (XaL:(List UInt8)→Int→Int→Option (Int×Bool)) (text:List UInt8) (i:Int):Option (Sum Int (Int×Int×Int)):=
 cond (decide (i<(text.length:Int)))
  (
  XaJ (decide (0≤i)) <|
  (text[i.toNat]?).bind fun (b:UInt8)=>
  cond ((b.toNat:Int)==0)
   (
   some (.inr ((0,0,(-1)))))
   (
   cond ((b.toNat:Int)==1)
    (
    some (.inl (wI .i64 (i+1))))
    (
    let t:=decide ((wI .i64 (i+1))<(text.length:Int))
    cond (t)
     (
     XaJ (decide (0≤(wI .i64 (i+1)))) <|
     (text[(wI .i64 (i+1)).toNat]?).bind fun (b1:UInt8)=>
     cond (decide ((wI .i64 (b1.toNat:Int))<2))
      (
      some (.inr ((0,0,(-1)))))
      (
      let t1:=decide ((wI .i64 (b1.toNat:Int))>(wI .i64 ((text.length:Int) - i)))
      cond (t1)
       (
       some (.inr ((0,0,(-1)))))
       (
       XaJ (decide (0≤i)) <|
       (text[i.toNat]?).bind fun (b2:UInt8)=>
       XaJ (decide ((0:Int)≤(wI .i64 (i+(wI .i64 (b1.toNat:Int))))∧(wI .i64 (i+(wI .i64 (b1.toNat:Int))))≤(text.length:Int)∧(0:Int)≤(wI .i64 (i+2))∧(wI .i64 (i+2))≤((wI .i64 (i+(wI .i64 (b1.toNat:Int)))).toNat:Int))) <|
       let t2:=(text.drop (wI .i64 (i+2)).toNat).take ((wI .i64 (i+(wI .i64 (b1.toNat:Int)))).toNat - (wI .i64 (i+2)).toNat)
       cond ((wI .i64 (b2.toNat:Int)) !=8)
        (
        some (.inl (wI .i64 (i+(wI .i64 (b1.toNat:Int))))))
        (
        (XaL t2 0 8).bind fun xg=>
        cond (xg.2)
         (
         cond ((t2.length:Int)==8)
          (
          some (.inr ((wI .u32 (xg.1.fdiv (2^32)),wI .u32 xg.1,wI .i64 (i+2)))))
          (
          some (.inr ((0,0,(-1))))))
         (
         some (.inr ((0,0,(-1)))))))))
     (
     some (.inr ((0,0,(-1))))))))
  (
  some (.inr ((0,0,(-1)))))
def XgC (XaL:(List UInt8)→Int→Int→Option (Int×Bool)) (XbE:(List UInt8)→Option ((List XbG)×Int)) (text:List UInt8):Option (Int×Int×Int):=
 (XbE text).bind fun l=>
 cond (l.2 !=0)
  (
  some ((0,0,(-1))))
  (
  iter (fun st=>Xe6 XaL text st) FUEL 0)
def XrH (x:Int×Int×Int):Xca:=⟨.tuple ⟨[.int .u32 x.1,.int .u32 x.2.1,.int .i64 x.2.2]⟩,[],[]⟩
def r111 (g:(List UInt8)→Option (Int×Int×Int)):Dec:=dV asS fun (y0:List UInt8)=>XcO (ofG (g y0) XrH)
theorem X3u {g:(List UInt8)→Option (Int×Int×Int)} {y0:List UInt8} {x:Int×Int×Int} (hx:g y0=some x):r111 g [.string ⟨⟨y0⟩⟩] []=some (XrH x):=(XaT (Xcp)).trans (Xa0 hx)
def s111 (g:(List UInt8)→Option (Int×Int×Int)):Xbr:=⟨[.v],r111 g⟩
theorem XKm {g:(List UInt8)→Option (Int×Int×Int)} {y0:List UInt8} {x:Int×Int×Int} (hx:g y0=some x):(s111 g).run [.string ⟨⟨y0⟩⟩] []=some (XrH x):=X3u hx
abbrev XpS (XaL:(List UInt8)→Int→Int→Option (Int×Bool)) (XbE:(List UInt8)→Option ((List XbG)×Int)):List (Nat×Xbr):=[(70,s70 XaL),(168,XST XbE)]
def Xhy (text:List UInt8) (i:Int):VM:=
 ⟨⟨196,62,[(0,.func (.yield 6) #[] #[]),(1,.pointer (some ⟨4,0,none⟩)),(3,.int .i64 i)],[.code Xl4,.inLoop Xl4,.inBlock 0],[],false,none⟩,[⟨111,46,[(2,.pointer (some ⟨0,0,none⟩)),(3,.pointer (some ⟨1,0,none⟩)),(4,.pointer (some ⟨2,0,none⟩))],[.inRangeFunc 6,.inBlock 0,.code Xv9],[5],false,none⟩],[(0,.cells [.int .u32 0]),(1,.cells [.int .u32 0]),(2,.cells [.int .i64 0]),(4,.cells [.string ⟨⟨text⟩⟩]),(5,.marks),(6,.loop ⟨.ready,none,111,46,[(2,.pointer (some ⟨0,0,none⟩)),(3,.pointer (some ⟨1,0,none⟩)),(4,.pointer (some ⟨2,0,none⟩))],[19],XCg,Xug,5⟩)],7⟩
theorem Xs7 (XaL:(List UInt8)→Int→Int→Option (Int×Bool)) (XbE:(List UInt8)→Option ((List XbG)×Int)) (hS:Xai Tryz.prog (Xav (XpS XaL XbE))) (text:List UInt8) (res:Int×Int×Int):∀ fuel (st:Int) (o:Int×Int×Int),iter (fun st=>Xe6 XaL text st) fuel st=some o→(o=res) →
 XaI Tryz.prog 111 0 (Xhy text st) (fun v H _=>Res 0 (XrH res) v H):=by
 intro fuel st o h hc
 refine XbX (head:=fun st=>Xhy text st) (C:=fun o=>(o=res)) ?_ fuel st o h hc
 clear h hc o st fuel
 intro i o h hc
 replace h:Xe6 XaL text i=some o:=h
 show XaI Tryz.prog 111 0 (Xhy text i) (fun v H _=>Res 0 (XrH res) v H)
 unfold Xe6 at h
 refine Xa7 Xao hS true 3000 ?_
 conv=>whnf
 refine br.h2 h ?_ ?_ ?_
 ·rfl
 ·clear h;intro hb h;conv=>whnf
  all_goals (cases h;cases hc;exact Res.z rfl rfl rfl)
 clear h;intro hb h;conv=>whnf
 replace h:=XaJ.elim h;obtain ⟨hb,h⟩:=h
 first|(refine req.intro hb ?_;conv=>whnf)|skip
 replace h:=Xal.elim h;obtain ⟨b,hy,h⟩:=h
 refine rdS.intro hy ?_
 conv=>whnf
 refine br.h h ?_ ?_ ?_
 ·rfl
 ·clear h;intro hb h;conv=>whnf
  all_goals (cases h;cases hc;exact Res.z rfl rfl rfl)
 clear h;intro hb h;conv=>whnf
 refine br.h h ?_ ?_ ?_
 ·rfl
 ·clear h;intro hb h;conv=>whnf
  cases h;simp only [Sum.elim_inl,Xhy] at hc
  exact Xzv hc [(0,0),(1,1),(2,2),(4,4),(5,5),(6,6)] rfl
 clear h;intro hb h;conv=>whnf
 let t:Bool:=decide ((wI .i64 (i+1))<(text.length:Int))
 refine br.h2 h ?_ ?_ ?_
 ·rfl
 ·clear h;intro hb h;conv=>whnf
  all_goals (cases h;cases hc;exact Res.z rfl rfl rfl)
 clear h;intro hb h;conv=>whnf
 replace h:=XaJ.elim h;obtain ⟨hb,h⟩:=h
 first|(refine req.intro hb ?_;conv=>whnf)|skip
 replace h:=Xal.elim h;obtain ⟨b1,hy,h⟩:=h
 refine rdS.intro hy ?_
 conv=>whnf
 refine br.h h ?_ ?_ ?_
 ·rfl
 ·clear h;intro hb h;conv=>whnf
  all_goals (cases h;cases hc;exact Res.z rfl rfl rfl)
 clear h;intro hb h;conv=>whnf
 let t1:Bool:=decide ((wI .i64 (b1.toNat:Int))>(wI .i64 ((text.length:Int) - i)))
 refine br.h h ?_ ?_ ?_
 ·rfl
 ·clear h;intro hb h;conv=>whnf
  all_goals (cases h;cases hc;exact Res.z rfl rfl rfl)
 clear h;intro hb h;conv=>whnf
 replace h:=XaJ.elim h;obtain ⟨hb,h⟩:=h
 first|(refine req.intro hb ?_;conv=>whnf)|skip
 replace h:=Xal.elim h;obtain ⟨b2,hy,h⟩:=h
 refine rdS.intro hy ?_
 conv=>whnf
 replace h:=XaJ.elim h;obtain ⟨hb,h⟩:=h
 first|(refine req.intro hb ?_;conv=>whnf)|skip
 let t2:List UInt8:=(text.drop (wI .i64 (i+2)).toNat).take ((wI .i64 (i+(wI .i64 (b1.toNat:Int)))).toNat - (wI .i64 (i+2)).toNat)
 refine br.h h ?_ ?_ ?_
 ·rfl
 ·clear h;intro hb h;conv=>whnf
  cases h;simp only [Sum.elim_inl,Xhy] at hc
  exact Xzv hc [(0,0),(1,1),(2,2),(4,4),(5,5),(6,6)] rfl
 clear h;intro hb h;conv=>whnf
 replace h:=Xal.elim h;obtain ⟨xg,hy,h⟩:=h
 refine XaK.q rfl rfl (XlM hy) rfl rfl rfl ?_
 conv=>whnf
 refine br.h2 h ?_ ?_ ?_
 ·rfl
 ·clear h;intro hb h;conv=>whnf
  all_goals (cases h;cases hc;exact Res.z rfl rfl rfl)
 clear h;intro hb h;conv=>whnf
 refine br.h h ?_ ?_ ?_
 ·rfl
 ·clear h;intro hb h;conv=>whnf
  all_goals (cases h;cases hc;exact Res.z rfl rfl rfl)
 clear h;intro hb h;conv=>whnf
 all_goals (cases h;cases hc;exact Res.z rfl rfl rfl)
theorem XAz (XaL:(List UInt8)→Int→Int→Option (Int×Bool)) (XbE:(List UInt8)→Option ((List XbG)×Int)) (hS:Xai Tryz.prog (Xav (XpS XaL XbE))) (text:List UInt8) (res:Int×Int×Int) (h:XgC XaL XbE text=some res) :
 XaI Tryz.prog 111 0 ⟨⟨111,46,[(0,.string ⟨⟨text⟩⟩)],[.code Xt3],[],false,none⟩,[],[],0⟩ (fun v H _=>Res 0 (XrH res) v H):=by
 unfold XgC at h
 refine Xa7 Xao hS true 3000 ?_
 conv=>whnf
 replace h:=Xal.elim h;obtain ⟨l,hy,h⟩:=h
 refine XaK.Xbb [] (Xaw (aqs:=[.string ⟨⟨text⟩⟩]) (ws:=[]) (n:=1) (m:=0) (t':=4) (Xau rfl rfl Xbf) rfl (by rfl) (Xuf hy) rfl rfl rfl rfl Xbe (Xho (XpU Xb3) Xbc) rfl) ?_
 conv=>whnf
 refine br.h h ?_ ?_ ?_
 ·rfl
 ·clear h;intro hb h;conv=>whnf
  all_goals (cases h;exact Res.z rfl rfl rfl)
 clear h;intro hb h;conv=>whnf
 have hl:=Xs7 XaL XbE hS _ res _ _ _ h rfl;simp only [Xhy] at hl
 exact Xzv hl [(0,0),(1,1),(2,2),(4,4),(5,5),(6,6)] rfl
theorem ok111 (XaL:(List UInt8)→Int→Int→Option (Int×Bool)) (XbE:(List UInt8)→Option ((List XbG)×Int)) (hS:Xai Tryz.prog (Xav (XpS XaL XbE))):Xar Tryz.prog 111 (s111 (XgC XaL XbE)):=by
 refine Xar.Xay Xao (fun ar os r ha hr=>?_) ⟨Tryz.f111,rfl,by decide,rfl⟩
 replace hr:r111 (XgC XaL XbE) ar (XaD os)=some r:=hr
 unfold r111 at hr
 generalize hc:XaD os=C at hr
 replace hr:=dV.elim hr;obtain ⟨v0,l1,y0,rfl,e0,hr⟩:=hr;obtain rfl:=XbH _ _ e0
 replace hr:=Xc2 hr;obtain ⟨rfl,rfl,x,h,rfl⟩:=hr
 obtain rfl:=Xas hc
 exact ⟨_,rfl,XAz XaL XbE hS _ x h⟩
def XcC:(List UInt8)→Option (Int×Int×Int):=XgC XaL XbE
theorem XQz:Xar Tryz.prog 111 (s111 XcC):=ok111 XaL XbE (Xai.XaW ⟨Xuz,XvA,trivial⟩)
def XeZ (Xam:(List UInt8)→Int→Int→Option Int) (l:(List Xby)×Int) (i:Int):Option (Sum Int (Int×Int×Int)):=
 cond (decide (i<(l.1.length:Int)))
  (
  XaJ (decide ((0:Int)≤i∧i<(l.1.length:Int))) <|
  (l.1[i.toNat]?).bind fun (e:Xby)=>
  cond (e.Kind==8)
   (
   XaJ (decide ((0:Int)≤i∧i<(l.1.length:Int))) <|
   cond ((e.Data.length:Int) !=8)
    (
    some (.inr ((0,0,(-1)))))
    (
    XaJ (decide ((0:Int)≤i∧i<(l.1.length:Int))) <|
    (Xam e.Data 0 4).bind fun m=>
    XaJ (decide ((0:Int)≤i∧i<(l.1.length:Int))) <|
    (Xam e.Data 4 4).bind fun m1=>
    XaJ (decide ((0:Int)≤i∧i<(l.1.length:Int))) <|
    some (.inr ((wI .u32 m,wI .u32 m1,e.At)))))
   (
   some (.inl (wI .i64 (i+1)))))
  (
  some (.inr ((0,0,(-1)))))
def XgQ (Xam:(List UInt8)→Int→Int→Option Int) (XbD:(List UInt8)→Option ((List Xby)×Int)) (options:List UInt8):Option (Int×Int×Int):=
 (XbD options).bind fun l=>
 iter (fun st=>XeZ Xam l st) FUEL 0
def XrQ (x:Int×Int×Int):Xca:=⟨.tuple ⟨[.int .u32 x.1,.int .u32 x.2.1,.int .i64 x.2.2]⟩,[],[]⟩
def r109 (g:(List UInt8)→Option (Int×Int×Int)):Dec:=dV asS fun (y0:List UInt8)=>XcO (ofG (g y0) XrQ)
theorem Ya3 {g:(List UInt8)→Option (Int×Int×Int)} {y0:List UInt8} {x:Int×Int×Int} (hx:g y0=some x):r109 g [.string ⟨⟨y0⟩⟩] []=some (XrQ x):=(XaT (Xcp)).trans (Xa0 hx)
def s109 (g:(List UInt8)→Option (Int×Int×Int)):Xbr:=⟨[.v],r109 g⟩
theorem XLO {g:(List UInt8)→Option (Int×Int×Int)} {y0:List UInt8} {x:Int×Int×Int} (hx:g y0=some x):(s109 g).run [.string ⟨⟨y0⟩⟩] []=some (XrQ x):=Ya3 hx
abbrev Xp5 (Xam:(List UInt8)→Int→Int→Option Int) (XbD:(List UInt8)→Option ((List Xby)×Int)):List (Nat×Xbr):=[(74,s74 Xam),(167,XTf XbD)]
def Xiv (l:(List Xby)×Int) (i:Int):VM:=
 ⟨⟨109,51,[(5,.slice (some ⟨0,0,none⟩) l.1.length 3),(7,.int .i64 i)],[.code Xp1,.inLoop Xp1,.inBlock 0,.code XsY],[],false,none⟩,[],[(0,.row true (vT Xfr l.1))],1⟩
theorem XuB (Xam:(List UInt8)→Int→Int→Option Int) (XbD:(List UInt8)→Option ((List Xby)×Int)) (hS:Xai Tryz.prog (Xav (Xp5 Xam XbD))) (l:(List Xby)×Int) (res:Int×Int×Int):∀ fuel (st:Int) (o:Int×Int×Int),iter (fun st=>XeZ Xam l st) fuel st=some o→(o=res) →
 XaI Tryz.prog 109 0 (Xiv l st) (fun v H _=>Res 0 (XrQ res) v H):=by
 intro fuel st o h hc
 refine XbX (head:=fun st=>Xiv l st) (C:=fun o=>(o=res)) ?_ fuel st o h hc
 clear h hc o st fuel
 intro i o h hc
 replace h:XeZ Xam l i=some o:=h
 show XaI Tryz.prog 109 0 (Xiv l i) (fun v H _=>Res 0 (XrQ res) v H)
 unfold XeZ at h
 refine Xa7 Xao hS true 3000 ?_
 conv=>whnf
 refine br.h2 h ?_ ?_ ?_
 ·rfl
 ·clear h;intro hb h;conv=>whnf
  all_goals (cases h;cases hc;exact Res.z rfl rfl rfl)
 clear h;intro hb h;conv=>whnf
 replace h:=XaJ.elim h;obtain ⟨hb,h⟩:=h
 first|(refine req.intro hb ?_;conv=>whnf)|skip
 replace h:=Xal.elim h;obtain ⟨e,hy,h⟩:=h
 refine rd.T (j:=0) Xdc hy (by omega) (by decide) rfl ?_
 conv=>whnf
 refine br.h2 h ?_ ?_ ?_
 ·rfl
 ·clear h;intro hb h;conv=>whnf
  cases h;simp only [Sum.elim_inl,Xiv] at hc
  exact Xj4 hc [(0,0)] rfl
 clear h;intro hb h;conv=>whnf
 replace h:=XaJ.elim h;obtain ⟨hb,h⟩:=h
 first|(refine req.intro hb ?_;conv=>whnf)|skip
 refine rd.T (j:=1) Xdc (by assumption) (by omega) (by decide) rfl ?_
 conv=>whnf
 refine br.h h ?_ ?_ ?_
 ·rfl
 ·clear h;intro hb h;conv=>whnf
  all_goals (cases h;cases hc;exact Res.z rfl rfl rfl)
 clear h;intro hb h;conv=>whnf
 replace h:=XaJ.elim h;obtain ⟨hb,h⟩:=h
 first|(refine req.intro hb ?_;conv=>whnf)|skip
 refine rd.T (j:=1) Xdc (by assumption) (by omega) (by decide) rfl ?_
 conv=>whnf
 replace h:=Xal.elim h;obtain ⟨m,hy,h⟩:=h
 refine XaK.q rfl rfl (XeL hy) rfl rfl rfl ?_
 conv=>whnf
 replace h:=XaJ.elim h;obtain ⟨hb,h⟩:=h
 first|(refine req.intro hb ?_;conv=>whnf)|skip
 refine rd.T (j:=1) Xdc (by assumption) (by omega) (by decide) rfl ?_
 conv=>whnf
 replace h:=Xal.elim h;obtain ⟨m1,hy,h⟩:=h
 refine XaK.q rfl rfl (XeL hy) rfl rfl rfl ?_
 conv=>whnf
 replace h:=XaJ.elim h;obtain ⟨hb,h⟩:=h
 first|(refine req.intro hb ?_;conv=>whnf)|skip
 refine rd.T (j:=2) Xdc (by assumption) (by omega) (by decide) rfl ?_
 conv=>whnf
 all_goals (cases h;cases hc;exact Res.z rfl rfl rfl)
theorem XzE (Xam:(List UInt8)→Int→Int→Option Int) (XbD:(List UInt8)→Option ((List Xby)×Int)) (hS:Xai Tryz.prog (Xav (Xp5 Xam XbD))) (options:List UInt8) (res:Int×Int×Int) (h:XgQ Xam XbD options=some res) :
 XaI Tryz.prog 109 0 ⟨⟨109,51,[(0,.string ⟨⟨options⟩⟩)],[.code XuU],[],false,none⟩,[],[],0⟩ (fun v H _=>Res 0 (XrQ res) v H):=by
 unfold XgQ at h
 refine Xa7 Xao hS true 3000 ?_
 conv=>whnf
 replace h:=Xal.elim h;obtain ⟨l,hy,h⟩:=h
 refine XaK.Xbb [] (Xaw (aqs:=[.string ⟨⟨options⟩⟩]) (ws:=[]) (n:=1) (m:=0) (t':=1) (Xau rfl rfl Xbf) rfl (by rfl) (Xte hy) rfl rfl rfl rfl Xbe (Xho (XpU Xcc) Xbc) rfl) ?_
 conv=>whnf
 have hl:=XuB Xam XbD hS _ res _ _ _ h rfl;simp only [Xiv] at hl
 exact Xj4 hl [(0,0)] rfl
theorem ok109 (Xam:(List UInt8)→Int→Int→Option Int) (XbD:(List UInt8)→Option ((List Xby)×Int)) (hS:Xai Tryz.prog (Xav (Xp5 Xam XbD))):Xar Tryz.prog 109 (s109 (XgQ Xam XbD)):=by
 refine Xar.Xay Xao (fun ar os r ha hr=>?_) ⟨Tryz.f109,rfl,by decide,rfl⟩
 replace hr:r109 (XgQ Xam XbD) ar (XaD os)=some r:=hr
 unfold r109 at hr
 generalize hc:XaD os=C at hr
 replace hr:=dV.elim hr;obtain ⟨v0,l1,y0,rfl,e0,hr⟩:=hr;obtain rfl:=XbH _ _ e0
 replace hr:=Xc2 hr;obtain ⟨rfl,rfl,x,h,rfl⟩:=hr
 obtain rfl:=Xas hc
 exact ⟨_,rfl,XzE Xam XbD hS _ x h⟩
def XcA:(List UInt8)→Option (Int×Int×Int):=XgQ Xam XbD
theorem XDR:Xar Tryz.prog 109 (s109 XcA):=ok109 Xam XbD (Xai.XaW ⟨Xmn,XvC,trivial⟩)
end Go.Vm.Code
namespace Go.Vm.Code
open Go Go.Vm
def stL:List Xvu→Int×Int×Int
 | []=>(0,0,-1)
 | o::l=>if o.Kind=8 then (if o.Data.length=8 then (vK o.Data 0 4,vK o.Data 4 4,o.At) else (0,0,-1)) else stL l
def XjG (s:List UInt8):Int×Int×Int:=stL (Xkz s).1
theorem XlA (s:List UInt8):∀ (n i:Nat) (out:List Xvu),Xhq s n i out=if (Xhq s n i []).2=0 then (out++(Xhq s n i []).1,0) else ([],3):=by
 intro n
 induction n using Nat.strongRecOn with
 | ind n ih=>
   intro i out
   cases n with
   | zero=>rw [Xhq,Xhq];simp
   | succ n=>
     have e:∀ o,Xhq s (n+1) i o=match s[i]? with
      | none=>(o,0)
      | some b=>if b=0 then (o,0) else if b=1 then Xhq s n (i+1) o else match s[i+1]? with
        | none=>([],3)
        | some k=>if k.toNat<2 then ([],3) else if s.length - i<k.toNat then ([],3) else
           Xhq s (n+1 - k.toNat) (i+k.toNat) (o++[⟨(b.toNat:Int),(s.drop (i+2)).take (k.toNat - 2),((i+2:Nat):Int)⟩]):=fun o=>by rw [Xhq];try (cases s[i]?<;>cases s[i+1]?<;>rfl)
     rw [e out,e []]
     cases s[i]? with
     | none=>simp
     | some b=>
       simp only
       by_cases h0:b=0
       ·simp [h0]
       rw [if_neg h0,if_neg h0]
       by_cases h1:b=1
       ·rw [if_pos h1,if_pos h1];exact ih n (by omega) _ _
       rw [if_neg h1,if_neg h1]
       cases s[i+1]? with
       | none=>simp
       | some k=>
         simp only
         by_cases h2:k.toNat<2
         ·simp [h2]
         by_cases h3:s.length - i<k.toNat
         ·simp [h2,h3]
         rw [if_neg h2,if_neg h2,if_neg h3,if_neg h3,ih _ (by omega) _ (out++_),ih _ (by omega) _ ([]++_)]
         by_cases hz:(Xhq s (n+1 - k.toNat) (i+k.toNat) []).2=0
         ·simp [hz]
         ·simp [hz]
theorem Xro {s:List UInt8} (h:(Xkz s).2≠0):(Xkz s).1=[]:=by
 unfold Xkz at *
 have:=XlA s s.length 0 []
 rw [if_neg h] at this
 rw [this]
theorem XQg {s:List UInt8}:∀ (n i:Nat),∀ o∈(Xhq s n i []).1,i≤o.At.toNat∧0≤o.At∧o.At.toNat+o.Data.length≤s.length∨(Xhq s n i []).2≠0:=by
 intro n
 induction n using Nat.strongRecOn with
 | ind n ih=>
   intro i o ho
   cases n with
   | zero=>rw [Xhq] at ho;simp at ho
   | succ n=>
     rw [Xhq] at ho ⊢
     cases hb:s[i]? with
     | none=>rw [hb] at ho;simp at ho
     | some b=>
       rw [hb] at ho
       simp only at ho ⊢
       by_cases h0:b=0
       ·rw [if_pos h0] at ho;simp at ho
       rw [if_neg h0] at ho ⊢
       by_cases h1:b=1
       ·rw [if_pos h1] at ho ⊢
        rcases ih n (by omega) _ o ho with h|h
        ·left;omega
        ·right;exact h
       rw [if_neg h1] at ho ⊢
       cases hk:s[i+1]? with
       | none=>rw [hk] at ho;simp at ho
       | some k=>
         rw [hk] at ho
         simp only at ho ⊢
         by_cases h2:k.toNat<2
         ·rw [if_pos h2] at ho;simp at ho
         rw [if_neg h2] at ho ⊢
         by_cases h3:s.length - i<k.toNat
         ·rw [if_pos h3] at ho;simp at ho
         rw [if_neg h3] at ho ⊢
         rw [XlA] at ho ⊢
         by_cases hz:(Xhq s (n+1 - k.toNat) (i+k.toNat) []).2=0
         ·rw [if_pos hz] at ho
          simp only [List.nil_append,List.mem_append,List.mem_singleton] at ho
          left
          have hi:i<s.length:=by
           rcases Nat.lt_or_ge i s.length with h|h
           ·exact h
           ·rw [List.getElem?_eq_none h] at hb;cases hb
          rcases ho with rfl|ho
          ·simp only [List.length_take,List.length_drop];omega
          ·rcases ih _ (by omega) _ o ho with h|h
           ·omega
           ·exact absurd hz h
         ·right;rw [if_neg hz];decide
theorem XPB {s:List UInt8} (hs:s.length<2^20):XcA s=some (XjG s):=by
 unfold XcA XgQ XjG
 rw [X2r hs,Option.bind_some]
 have hlen:∀ o∈(Xkz s).1,o.Data.length<2^61:=by
  intro o ho
  unfold Xkz at ho
  rcases XQg _ _ o ho with h|h
  ·omega
  ·have:=Xro (s:=s) h
   unfold Xkz at this
   rw [this] at ho;simp at ho
 have hcount:(Xkz s).1.length<2^60:=by
  have key:∀ n i out,(Xhq s n i out).1.length≤out.length+n:=by
   intro n
   induction n using Nat.strongRecOn with
   | ind n ih=>
     intro i out
     cases n with
     | zero=>rw [Xhq];simp
     | succ n=>
       rw [Xhq]
       split
       ·simp
       split
       ·simp
       split
       ·have:=ih n (by omega) (i+1) out;omega
       split
       ·simp
       split
       ·simp
       split
       ·simp
       refine Nat.le_trans (ih _ (by omega) _ _) ?_
       simp;omega
  have:=key s.length 0 []
  unfold Xkz
  simp at this;omega
 generalize Xkz s=L at *
 have key:=iter_eq (step:=fun st=>XeZ Xam (L.1.map toR,L.2) st) (fun st=>stL (L.1.drop st.toNat)) (fun st=>0≤st∧st≤L.1.length) (fun st=>((L.1.length:Int) - st).toNat) ?_ FUEL 0 ⟨by omega,by omega⟩ (by rw [XeE];omega)
 ·rw [key];simp
 intro st ⟨g1,g2⟩
 obtain ⟨i,rfl⟩:=Int.eq_ofNat_of_zero_le g1
 unfold XeZ
 simp only [Int.toNat_natCast,List.length_map,List.getElem?_map]
 by_cases hp:i<L.1.length
 ·have ed:L.1.drop i=L.1[i]::L.1.drop (i+1):=List.drop_eq_getElem_cons hp
  have hd:=hlen _ (List.getElem_mem hp)
  rw [XaS (by omega),Xaz (by omega),List.getElem?_eq_getElem hp,Option.map_some,Option.bind_some,ed,stL]
  simp only [toR]
  by_cases h8:L.1[i].Kind=8
  ·refine .inl ?_
   rw [show (L.1[i].Kind==8)=true by simpa using h8,cond_true,if_pos h8,Xaz (by omega)]
   by_cases hl:L.1[i].Data.length=8
   ·have r0:=XdT L.1[i].Data 0 4 4294967296 (by decide)
    have r4:=XdT L.1[i].Data 4 4 4294967296 (by decide)
    have m0:Xam L.1[i].Data 0 4=some (vK L.1[i].Data 0 4):=XnM (p:=0) (k:=4) hd (by omega) (by omega) (by omega)
    have m4:Xam L.1[i].Data 4 4=some (vK L.1[i].Data 4 4):=XnM (p:=4) (k:=4) hd (by omega) (by omega) (by omega)
    rw [show (((L.1[i].Data.length:Nat):Int) !=8)=false by simp;omega,cond_false,if_pos hl,Xaz (by omega),m0,Option.bind_some,Xaz (by omega),m4,Option.bind_some,Xaz (by omega),Xyy r0.1 r0.2,Xyy r4.1 r4.2]
   ·rw [show (((L.1[i].Data.length:Nat):Int) !=8)=true by simp;omega,cond_true,if_neg hl]
  ·refine .inr ⟨((i+1:Nat):Int),?_,⟨by omega,by omega⟩,by omega,?_⟩
   ·rw [show (L.1[i].Kind==8)=false by simpa using h8,cond_false,Xcg (by omega) (by omega)];rfl
   ·rw [if_neg h8,Int.toNat_natCast]
 ·refine .inl ?_
  rw [XaO (by omega),List.drop_of_length_le (by omega)];rfl
theorem val8 {t:List UInt8} (h:t.length=8):((Xdz t:Nat):Int)=vK t 0 4*4294967296+vK t 4 4:=by
 unfold vK
 have e:t.take 4++(t.drop 4).take 4=t:=by rw [List.take_of_length_le (l:=t.drop 4) (by simp;omega),List.take_append_drop]
 have:=val_append (t.take 4) ((t.drop 4).take 4)
 rw [e,show ((t.drop 4).take 4).length=4 by simp;omega] at this
 rw [List.drop_zero,this]
 omega
theorem XPM {s:List UInt8} (hs:s.length<2^20):XcC s=some (XjG s):=by
 unfold XcC XgC
 rw [X3r hs,Option.bind_some]
 by_cases hz:(Xkz s).2=0
 ·rw [show ((Xkz s).2 !=0)=false by simpa using hz,cond_false]
  unfold XjG Xkz
  unfold Xkz at hz
  have key:=iter_eq (step:=fun st=>Xe6 XaL s st) (fun st=>stL (Xhq s (s.length - st.toNat) st.toNat []).1) (fun st=>0≤st∧st≤s.length∧(Xhq s (s.length - st.toNat) st.toNat []).2=0) (fun st=>s.length - st.toNat) ?_ FUEL 0 ⟨by omega,by omega,by simpa using hz⟩ (by rw [XeE];omega)
  ·rw [key];rfl
  intro st ⟨g1,g2,g3⟩
  obtain ⟨i,rfl⟩:=Int.eq_ofNat_of_zero_le g1
  simp only [Int.toNat_natCast] at g3 ⊢
  unfold Xe6
  by_cases hi:i<s.length
  ·obtain ⟨n,hn⟩:∃ n,s.length - i=n+1:=⟨s.length - i - 1,by omega⟩
   have e:s[i]?=some s[i]:=List.getElem?_eq_getElem hi
   rw [hn,Xhq,e] at g3
   simp only at g3
   rw [XaS (by omega),Xaz (by omega),Int.toNat_natCast,e,Option.bind_some,hn,Xhq,e]
   by_cases h0:s[i]=0
   ·refine .inl ?_
    rw [show ((s[i].toNat:Int)==0)=true by rw [h0];rfl,cond_true]
    simp only [h0,if_true];rfl
   rw [show ((s[i].toNat:Int)==0)=false by simp;intro hx;exact h0 (UInt8.toNat_inj.1 (by simpa using hx)),cond_false]
   rw [if_neg h0] at g3
   simp only [if_neg h0]
   by_cases h1:s[i]=1
   ·rw [if_pos h1] at g3
    refine .inr ⟨((i+1:Nat):Int),?_,⟨by omega,by omega,?_⟩,by omega,?_⟩
    ·rw [show ((s[i].toNat:Int)==1)=true by rw [h1];rfl,cond_true,Xcg (by omega) (by omega)];rfl
    ·rw [Int.toNat_natCast,show s.length - (i+1)=n by omega];exact g3
    ·simp only [Int.toNat_natCast,if_pos h1]
     rw [show s.length - (i+1)=n by omega]
   rw [show ((s[i].toNat:Int)==1)=false by simp;intro hx;exact h1 (UInt8.toNat_inj.1 (by simp;omega)),cond_false]
   rw [if_neg h1] at g3
   simp only [if_neg h1]
   rw [Xcg (n:=(i:Int)+1) (by omega) (by omega)]
   by_cases h2:s.length≤i+1
   ·rw [List.getElem?_eq_none (by omega)] at g3
    simp at g3
   have hi1:i+1<s.length:=by omega
   have e1:s[i+1]?=some s[i+1]:=List.getElem?_eq_getElem hi1
   have b1:=s[i+1].toNat_lt
   rw [e1] at g3
   simp only at g3
   rw [XaS (by omega),show ((i:Int)+1).toNat=i+1 by omega,e1,Xaz (by omega),Option.bind_some]
   simp only [Option.bind_some]
   rw [Xcg (n:=(s[i+1].toNat:Int)) (by omega) (by omega)]
   by_cases h3:s[i+1].toNat<2
   ·rw [if_pos h3] at g3
    exact absurd g3 (by decide)
   rw [if_neg h3] at g3
   rw [XaO (by omega),if_neg h3,Xcg (n:=(s.length:Int) - i) (by omega) (by omega)]
   by_cases h4:s.length - i<s[i+1].toNat
   ·rw [if_pos h4] at g3
    exact absurd g3 (by decide)
   rw [if_neg h4,XlA] at g3
   have b0:=s[i].toNat_lt
   have hz2:(Xhq s (n+1 - s[i+1].toNat) (i+s[i+1].toNat) []).2=0:=by
    apply Decidable.byContradiction
    intro hx
    rw [if_neg hx] at g3
    exact absurd g3 (by decide)
   rw [if_neg h4,XlA,if_pos hz2,XaO (by omega),Xaz (by omega),Xcg (n:=(i:Int)+s[i+1].toNat) (by omega) (by omega),Xcg (n:=(i:Int)+2) (by omega) (by omega),Xcg (n:=(s[i].toNat:Int)) (by omega) (by omega),Xaz (by omega),show ((i:Int)+s[i+1].toNat).toNat - ((i:Int)+2).toNat=s[i+1].toNat - 2 by omega,show ((i:Int)+2).toNat=i+2 by omega]
   simp only [List.nil_append,List.cons_append,stL]
   have hdl:((s.drop (i+2)).take (s[i+1].toNat - 2)).length=s[i+1].toNat - 2:=by simp;omega
   generalize (s.drop (i+2)).take (s[i+1].toNat - 2)=D at *
   by_cases h8:(s[i].toNat:Int)=8
   ·refine .inl ?_
    rw [show ((s[i].toNat:Int) !=8)=false by simpa using h8,cond_false,if_pos h8,Xd7 (by omega),Option.bind_some]
    by_cases hl:D.length=8
    ·rw [Xgj (by omega) (by omega) (by omega) (by omega),if_pos hl]
     have r0:=XdT D 0 4 4294967296 (by decide)
     have r4:=XdT D 4 4 4294967296 (by decide)
     have hv:=val8 hl
     have ev:(D.drop (0:Int).toNat).take (8:Int).toNat=D:=by
      rw [show (0:Int).toNat=0 from rfl,show (8:Int).toNat=8 from rfl,List.drop_zero,List.take_of_length_le (by omega)]
     simp only [cond_true,ev]
     rw [show ((D.length:Int)==8)=true by simp;omega,cond_true,hv,XoM,show ((2:Int)^32)=4294967296 from rfl,show (vK D 0 4*4294967296+vK D 4 4)/4294967296=vK D 0 4 by omega,Xyy r0.1 r0.2,wU32m,show (vK D 0 4*4294967296+vK D 4 4)%4294967296=vK D 4 4 by omega];rfl
    ·rw [if_neg hl]
     rw [show ((D.length:Int)==8)=false by simp;omega]
     cases (Xsp D 0 8).2<;>rfl
   ·refine .inr ⟨((i+s[i+1].toNat:Nat):Int),?_,⟨by omega,by omega,?_⟩,by omega,?_⟩
    ·rw [show ((s[i].toNat:Int) !=8)=true by simpa using h8,cond_true];rfl
    ·rw [Int.toNat_natCast,show s.length - (i+s[i+1].toNat)=n+1 - s[i+1].toNat by omega];exact hz2
    ·rw [Int.toNat_natCast,show s.length - (i+s[i+1].toNat)=n+1 - s[i+1].toNat by omega,if_neg h8]
  ·refine .inl ?_
   rw [XaO (by omega),show s.length - i=0 by omega,Xhq];rfl
 ·rw [show ((Xkz s).2 !=0)=true by simpa using hz,cond_true]
  unfold XjG
  rw [Xro hz];rfl
end Go.Vm.Code
namespace Go.Vm.Code
open Go Go.Vm Go.Proofs
set_option maxRecDepth 100000
set_option maxHeartbeats 4000000
set_option linter.unusedVariables false
def Xfe (l:List (List UInt8)) (most:Int) (i:Int):Option (Sum Int Bool):=
 cond (decide (i<(l.length:Int)))
  (
  XaJ (decide ((0:Int)≤i∧i<(l.length:Int))) <|
  (l[i.toNat]?).bind fun (e:List UInt8)=>
  cond (decide ((e.length:Int)>most))
   (
   some (.inr (false)))
   (
   some (.inl (wI .i64 (i+1)))))
  (
  some (.inr (true)))
def XgD (l:List (List UInt8)) (most:Int):Option Bool:=
 iter (fun st=>Xfe l most st) FUEL 0
def XR6 (x:Bool):Xca:=⟨.bool x,[],[none]⟩
def r19 (g:(List (List UInt8))→Int→Option Bool):Dec:=dSl 0 1 (unL asS) fun (y0:List (List UInt8))=>dV (asI .i64) fun (y1:Int)=>XcO (ofG (g y0 y1) XR6)
theorem r19_c {g:(List (List UInt8))→Int→Option Bool} {y0:List (List UInt8)} {y1:Int} {x:Bool} (hx:g y0 y1=some x):r19 g [.slice (some ⟨0,0,none⟩) y0.length 1,.int .i64 y1] [some (vS y0)]=some (XR6 x):=(XqN (X7M _)).trans ((XaT (Xc3 _)).trans (Xa0 hx))
def s19 (g:(List (List UInt8))→Int→Option Bool):Xbr:=⟨[.sl 1,.v],r19 g⟩
theorem XTv {g:(List (List UInt8))→Int→Option Bool} {y0:List (List UInt8)} {y1:Int} {x:Bool} (hx:g y0 y1=some x):(s19 g).run [.slice (some ⟨0,0,none⟩) y0.length 1,.int .i64 y1] [some (vS y0)]=some (XR6 x):=r19_c hx
abbrev XtC:List (Nat×Xbr):=[]
def Xkt (l:List (List UInt8)) (most:Int) (i:Int):VM:=
 ⟨⟨19,19,[(0,.slice (some ⟨0,0,none⟩) l.length 1),(1,.int .i64 most),(5,.int .i64 i)],[.code Xvt,.inLoop Xvt,.inBlock 0,.code XCp],[],false,none⟩,[],[(0,.row false (vS l))],1⟩
theorem XwT (hS:Xai Tryz.prog (Xav (XtC))) (l:List (List UInt8)) (most:Int) (res:Bool):∀ fuel (st:Int) (o:Bool),iter (fun st=>Xfe l most st) fuel st=some o→(o=res) →
 XaI Tryz.prog 19 1 (Xkt l most st) (fun v H _=>Res 1 (XR6 res) v H):=by
 intro fuel st o h hc
 refine XbX (head:=fun st=>Xkt l most st) (C:=fun o=>(o=res)) ?_ fuel st o h hc
 clear h hc o st fuel
 intro i o h hc
 replace h:Xfe l most i=some o:=h
 show XaI Tryz.prog 19 1 (Xkt l most i) (fun v H _=>Res 1 (XR6 res) v H)
 unfold Xfe at h
 refine Xa7 Xao hS true 3000 ?_
 conv=>whnf
 refine br.h2 h ?_ ?_ ?_
 ·rfl
 ·clear h;intro hb h;conv=>whnf
  all_goals (cases h;cases hc)
  all_goals exact Res.of [] rfl Xg3 (by decide) Xg1 (XBs Xg2)
 clear h;intro hb h;conv=>whnf
 replace h:=XaJ.elim h;obtain ⟨hb,h⟩:=h
 first|(refine req.intro hb ?_;conv=>whnf)|skip
 replace h:=Xal.elim h;obtain ⟨e,hy,h⟩:=h
 refine rd.S hy (by first|rfl|(rw [Nat.zero_add,Nat.mul_one];try rfl;done)|omega) ?_
 conv=>whnf
 refine br.h h ?_ ?_ ?_
 ·rfl
 ·clear h;intro hb h;conv=>whnf
  all_goals (cases h;cases hc)
  all_goals exact Res.of [] rfl Xg3 (by decide) Xg1 (XBs Xg2)
 clear h;intro hb h;conv=>whnf
 cases h;simp only [Sum.elim_inl,Xkt] at hc
 exact Xj4 hc [(0,0)] rfl
theorem XQy (hS:Xai Tryz.prog (Xav (XtC))) (l:List (List UInt8)) (most:Int) (res:Bool) (h:XgD l most=some res) :
 XaI Tryz.prog 19 1 ⟨⟨19,19,[(0,.slice (some ⟨0,0,none⟩) l.length 1),(1,.int .i64 most)],[.code XBT],[],false,none⟩,[],[(0,.row false (vS l))],1⟩ (fun v H _=>Res 1 (XR6 res) v H):=by
 unfold XgD at h
 refine Xa7 Xao hS true 3000 ?_
 conv=>whnf
 have hl:=XwT hS _ _ res _ _ _ h rfl;simp only [Xkt] at hl
 exact Xj4 hl [(0,0)] rfl
theorem ok19 (hS:Xai Tryz.prog (Xav (XtC))):Xar Tryz.prog 19 (s19 (XgD)):=by
 refine Xar.Xay Xao (fun ar os r ha hr=>?_) ⟨Tryz.f19,rfl,by decide,rfl⟩
 replace hr:r19 (XgD) ar (XaD os)=some r:=hr
 unfold r19 at hr
 generalize hc:XaD os=C at hr
 have hq:=dSl.elim hr;clear hr;obtain ⟨c0,l1,C,y0,rfl,rfl,e0,hr⟩:=hq;obtain rfl:=Yab e0
 replace hr:=dV.elim hr;obtain ⟨v1,l2,y1,rfl,e1,hr⟩:=hr;obtain rfl:=XbS _ _ _ e1
 replace hr:=Xc2 hr;obtain ⟨rfl,rfl,x,h,rfl⟩:=hr
 obtain ⟨os,rfl,ha,hc⟩:=Xc5 ha hc
 obtain rfl:=Xas hc
 exact ⟨_,rfl,XQy hS _ _ x h⟩
def Xej:(List (List UInt8))→Int→Option Bool:=XgD
theorem lift19:Xar Tryz.prog 19 (s19 Xej):=ok19 (Xai.XaW trivial)
end Go.Vm.Code
namespace Go.Vm.Code
open Go Go.Vm
theorem Xk4 (r:Xab) (k:Int):(rdr r k).s.length≤r.s.length:=by unfold rdr;split<;>simp
def b1 (s:List UInt8) (i:Nat):Nat:=Xdz ((s.drop i).take 1)
theorem XBt {s:List UInt8} {i:Nat} (h:i<s.length):b1 s i=s[i].toNat:=by
 unfold b1
 rw [List.drop_eq_getElem_cons h]
 show Xdz [s[i]]=_
 rw [XeQ];simp
theorem XwR (s:List UInt8) (i:Nat):b1 s i<256:=Xdh _ (by decide)
theorem Xyl {l:List (List UInt8)} {m:Int} (h:l.length<2^20):Xej l m=some (l.all fun x=>decide ((x.length:Int)≤m)):=by
 unfold Xej XgD
 have key:=iter_eq (step:=fun st=>Xfe l m st) (fun st=>(l.drop st.toNat).all fun x=>decide ((x.length:Int)≤m)) (fun st=>0≤st∧st≤l.length) (fun st=>((l.length:Int) - st).toNat) ?_ FUEL 0 ⟨by omega,by omega⟩ (by rw [XeE];omega)
 ·rw [key];simp
 intro st ⟨g1,g2⟩
 obtain ⟨i,rfl⟩:=Int.eq_ofNat_of_zero_le g1
 unfold Xfe
 simp only [Int.toNat_natCast]
 by_cases hp:i<l.length
 ·have ed:l.drop i=l[i]::l.drop (i+1):=List.drop_eq_getElem_cons hp
  rw [XaS (by omega),Xaz (by omega)]
  have e1:l[i]?=some l[i]:=by simp [hp]
  rw [e1,Option.bind_some]
  by_cases hb:(l[i].length:Int)>m
  ·refine .inl ?_
   rw [XaS hb,ed,List.all_cons,decide_eq_false (by omega),Bool.false_and]
  ·refine .inr ⟨((i+1:Nat):Int),?_,⟨by omega,by omega⟩,by omega,?_⟩
   ·rw [XaO hb,Xcg (by omega) (by omega)];rfl
   ·rw [Int.toNat_natCast,ed,List.all_cons,decide_eq_true (by omega),Bool.true_and]
 ·refine .inl ?_
  rw [XaO (by omega),List.drop_of_length_le (by omega)];rfl
end Go.Vm.Code
namespace Go.Vm.Code
open Go Go.Vm Go.Proofs
set_option maxRecDepth 100000
set_option maxHeartbeats 4000000
set_option linter.unusedVariables false
def XhH (n:Int):Option Bool:=
 cond (decide (0≤n))
  (
  some (decide (n≤65535)))
  (
  some (false))
def XxK (x:Bool):Xca:=⟨.bool x,[],[]⟩
def r131 (g:Int→Option Bool):Dec:=dV (asI .i64) fun (y0:Int)=>XcO (ofG (g y0) XxK)
theorem X8m {g:Int→Option Bool} {y0:Int} {x:Bool} (hx:g y0=some x):r131 g [.int .i64 y0] []=some (XxK x):=(XaT (Xc3 _)).trans (Xa0 hx)
def s131 (g:Int→Option Bool):Xbr:=⟨[.v],r131 g⟩
theorem XtT {g:Int→Option Bool} {y0:Int} {x:Bool} (hx:g y0=some x):(s131 g).run [.int .i64 y0] []=some (XxK x):=X8m hx
abbrev Xwe:List (Nat×Xbr):=[]
theorem XyC (hS:Xai Tryz.prog (Xav (Xwe))) (n:Int) (res:Bool) (h:XhH n=some res) :
 XaI Tryz.prog 131 0 ⟨⟨131,9,[(0,.int .i64 n)],[.code XDx],[],false,none⟩,[],[],0⟩ (fun v H _=>Res 0 (XxK res) v H):=by
 unfold XhH at h
 refine Xa7 Xao hS true 3000 ?_
 conv=>whnf
 refine br.h h ?_ ?_ ?_
 ·rfl
 ·clear h;intro hb h;conv=>whnf
  all_goals (cases h;exact Res.z rfl rfl rfl)
 clear h;intro hb h;conv=>whnf
 all_goals (cases h;exact Res.z rfl rfl rfl)
theorem ok131 (hS:Xai Tryz.prog (Xav (Xwe))):Xar Tryz.prog 131 (s131 (XhH)):=by
 refine Xar.Xay Xao (fun ar os r ha hr=>?_) ⟨Tryz.f131,rfl,by decide,rfl⟩
 replace hr:r131 (XhH) ar (XaD os)=some r:=hr
 unfold r131 at hr
 generalize hc:XaD os=C at hr
 replace hr:=dV.elim hr;obtain ⟨v0,l1,y0,rfl,e0,hr⟩:=hr;obtain rfl:=XbS _ _ _ e0
 replace hr:=Xc2 hr;obtain ⟨rfl,rfl,x,h,rfl⟩:=hr
 obtain rfl:=Xas hc
 exact ⟨_,rfl,XyC hS _ x h⟩
def Xct:Int→Option Bool:=XhH
theorem XGV:Xar Tryz.prog 131 (s131 Xct):=ok131 (Xai.XaW trivial)
def XcU (XaR:(List UInt8)→Option Int) (XaC:(List UInt8)→Int→Int→Int→Option (List UInt8)) (Xan:Int→Int→Option (List UInt8)) (ha0:Xat) (payload:List UInt8) (p:List UInt8) (t48:Int) (c:List Int):Option (Sum (Int×(List Int)) ((List UInt8)×Int)):=
 cond (decide (t48<4))
  (
  XaJ (decide (0≤t48∧t48<4)) <|
  ([ha0.SPort,ha0.DPort,wI .i64 (8+(payload.length:Int)),0][t48.toNat]?).bind fun (e:Int)=>
  (Xan (wI .u64 e) 2).bind fun p4=>
  XaJ (decide ((c.length+p4.length)*1≤2^47)) <|
  let row:=c++(bI p4)
  some (.inl (wI .i64 (t48+1),row)))
  (
  XaJ (decide ((c.length+payload.length)*1≤2^47)) <|
  let row1:=c++(bI payload)
  XaJ (decide (row1.length<2^63)) <|
  XaJ (decide (p.length+(iB row1).length<2^63)) <|
  (XaR (p++(iB row1))).bind fun xo=>
  cond (xo==0)
   (
   (XaC (iB row1) 6 2 65535).bind fun s=>
   some (.inr ((s,0))))
   (
   (XaC (iB row1) 6 2 (wI .u64 xo)).bind fun s1=>
   some (.inr ((s1,0)))))
def Xi8 (XaR:(List UInt8)→Option Int) (XaC:(List UInt8)→Int→Int→Int→Option (List UInt8)) (Xap:Xaa→Xaa→Int→Int→Option (List UInt8)) (Xan:Int→Int→Option (List UInt8)) (Xct:Int→Option Bool) (ha0:Xat) (src:Xaa) (dst:Xaa) (payload:List UInt8):Option ((List UInt8)×Int):=
 (Xap src dst 17 (wI .i64 (8+(payload.length:Int)))).bind fun p=>
 (Xct ha0.SPort).bind fun p1=>
 cond (!p1)
  (
  some (([],1)))
  (
  (Xct ha0.DPort).bind fun p2=>
  cond (!p2)
   (
   some (([],1)))
   (
   cond (p==[])
    (
    some (([],1)))
    (
    let t:=decide ((wI .i64 (8+(payload.length:Int)))>65535)
    cond (t)
     (
     some (([],5)))
     (
     (Xan (wI .u64 ha0.SPort) 2).bind fun p3=>
     XaJ (decide (p3.length*1≤2^47)) <|
     iter (fun st=>XcU XaR XaC Xan ha0 payload p st.1 st.2) FUEL (1,bI p3)))))
def XSb (x:(List UInt8)×Int):Xca:=⟨.tuple ⟨[.string ⟨⟨x.1⟩⟩,.int .i64 x.2]⟩,[],[]⟩
def r79 (g:Xat→Xaa→Xaa→(List UInt8)→Option ((List UInt8)×Int)):Dec:=dV XhP fun (y0:Xat)=>dV Xbp fun (y1:Xaa)=>dV Xbp fun (y2:Xaa)=>dV asS fun (y3:List UInt8)=>XcO (ofG (g y0 y1 y2 y3) XSb)
theorem r79_c {g:Xat→Xaa→Xaa→(List UInt8)→Option ((List UInt8)×Int)} {y0:Xat} {y1:Xaa} {y2:Xaa} {y3:List UInt8} {x:(List UInt8)×Int} (hx:g y0 y1 y2 y3=some x):r79 g [.agg ⟨[.int .i64 y0.SPort,.int .i64 y0.DPort]⟩,.agg ⟨[.bool y1.V6,.int .u64 y1.Hi,.int .u64 y1.Lo]⟩,.agg ⟨[.bool y2.V6,.int .u64 y2.Hi,.int .u64 y2.Lo]⟩,.string ⟨⟨y3⟩⟩] []=some (XSb x):=(XaT (Xlc _)).trans ((XaT (Xa8 _)).trans ((XaT (Xa8 _)).trans ((XaT (Xcp)).trans (Xa0 hx))))
def s79 (g:Xat→Xaa→Xaa→(List UInt8)→Option ((List UInt8)×Int)):Xbr:=⟨[.v,.v,.v,.v],r79 g⟩
theorem XXf {g:Xat→Xaa→Xaa→(List UInt8)→Option ((List UInt8)×Int)} {y0:Xat} {y1:Xaa} {y2:Xaa} {y3:List UInt8} {x:(List UInt8)×Int} (hx:g y0 y1 y2 y3=some x):(s79 g).run [.agg ⟨[.int .i64 y0.SPort,.int .i64 y0.DPort]⟩,.agg ⟨[.bool y1.V6,.int .u64 y1.Hi,.int .u64 y1.Lo]⟩,.agg ⟨[.bool y2.V6,.int .u64 y2.Hi,.int .u64 y2.Lo]⟩,.string ⟨⟨y3⟩⟩] []=some (XSb x):=r79_c hx
abbrev Xtb (XaR:(List UInt8)→Option Int) (XaC:(List UInt8)→Int→Int→Int→Option (List UInt8)) (Xap:Xaa→Xaa→Int→Int→Option (List UInt8)) (Xan:Int→Int→Option (List UInt8)) (Xct:Int→Option Bool):List (Nat×Xbr):=[(128,XR1 XaR),(73,s73 XaC),(125,XE8 Xap),(72,s72 Xan),(131,s131 Xct)]
def Xkx (ha0:Xat) (payload:List UInt8) (p:List UInt8) (t48:Int) (c:List Int):VM:=
 ⟨⟨79, 69, [(3, .string ⟨⟨payload⟩⟩), (11, .string ⟨⟨p⟩⟩), (12, .pointer (some ⟨3, 0, none⟩)), (47, .agg ⟨[.int .i64 ha0.SPort, .int .i64 ha0.DPort, .int .i64 (wI .i64 (8 + (payload.length : Int))), .int .i64 0]⟩), (48, .int .i64 t48)], [.code XtN, .inLoop XtN, .inBlock 1, .code XCc], [], false, none⟩, [], [(3, .ty 191 [.pointer (some ⟨3, 0, none⟩), .func (.method "") ⟨[.slice (some ⟨4, 0, none⟩) c.length 1]⟩ ⟨[]⟩]), (4, .ty 5 (vI .u8 c))], 5⟩
theorem Xyk (XaR:(List UInt8)→Option Int) (XaC:(List UInt8)→Int→Int→Int→Option (List UInt8)) (Xap:Xaa→Xaa→Int→Int→Option (List UInt8)) (Xan:Int→Int→Option (List UInt8)) (Xct:Int→Option Bool) (hS:Xai Tryz.prog (Xav (Xtb XaR XaC Xap Xan Xct))) (ha0:Xat) (payload:List UInt8) (p:List UInt8) (res:(List UInt8)×Int):∀ fuel (st:Int×(List Int)) (o:(List UInt8)×Int),iter (fun st=>XcU XaR XaC Xan ha0 payload p st.1 st.2) fuel st=some o→(o=res) →
 XaI Tryz.prog 79 0 (Xkx ha0 payload p st.1 st.2) (fun v H _=>Res 0 (XSb res) v H):=by
 intro fuel st o h hc
 refine XbX (head:=fun st=>Xkx ha0 payload p st.1 st.2) (C:=fun o=>(o=res)) ?_ fuel st o h hc
 clear h hc o st fuel
 intro st o h hc
 obtain ⟨t48,c⟩:=st
 replace h:XcU XaR XaC Xan ha0 payload p t48 c=some o:=h
 show XaI Tryz.prog 79 0 (Xkx ha0 payload p t48 c) (fun v H _=>Res 0 (XSb res) v H)
 unfold XcU at h
 refine Xa7 Xao hS true 3000 ?_
 conv=>whnf
 refine br.h h ?_ ?_ ?_
 ·rfl
 ·clear h;intro hb h;conv=>whnf
  replace h:=XaJ.elim h;obtain ⟨hb,h⟩:=h
  first|(refine req.intro hb ?_;conv=>whnf)|skip
  replace h:=Xal.elim h;obtain ⟨e,hy,h⟩:=h
  refine rd.I hy (by first|rfl|(rw [Nat.zero_add,Nat.mul_one];try rfl;done)|omega) ?_
  conv=>whnf
  replace h:=Xal.elim h;obtain ⟨p4,hy,h⟩:=h
  refine XaK.q rfl rfl (Xg0 hy) rfl rfl rfl ?_
  conv=>whnf
  replace h:=XaJ.elim h;obtain ⟨hb,h⟩:=h
  refine req.intro (Xqn (of_decide_eq_true hb) (by first|rfl|omega|(simp;done)|(simp;omega)|(simp at *;omega)) rfl rfl (by first|rfl|omega|(simp;done)|(simp;omega)|(simp at *;omega)) (by first|rfl|exact Xfq _ _|exact XhN _|exact XhV _|exact Xne (by first|exact Xeu|exact XdN|exact Xdm|exact XcT|exact Xc6|exact XcR|exact Xdu|exact Xex|exact Xe5|exact XeC|exact XdK|exact Xeq|exact Xe1) _|(rw [Xc4];exact Xfq _ _)|simp [Xfq,XhN,XhV,XiO,XiI,XjM,XjL]) rfl) ?_
  conv=>whnf
  let row:List Int:=c++(bI p4)
  refine XvJ (xs:=c) (ys:=bI p4) (Xc4 _) (by first|(simp;done)|(simp;omega)) (by first|(simp;done)|(simp;omega)) ?_
  conv=>whnf
  cases h;simp only [Sum.elim_inl,Xkx] at hc
  exact Xj4 hc [(3,3),(4,5)] rfl
 clear h;intro hb h;conv=>whnf
 replace h:=XaJ.elim h;obtain ⟨hb,h⟩:=h
 refine req.intro (Xqn (of_decide_eq_true hb) (by first|rfl|omega|(simp;done)|(simp;omega)|(simp at *;omega)) rfl rfl (by first|rfl|omega|(simp;done)|(simp;omega)|(simp at *;omega)) (by first|rfl|exact Xfq _ _|exact XhN _|exact XhV _|exact Xne (by first|exact Xeu|exact XdN|exact Xdm|exact XcT|exact Xc6|exact XcR|exact Xdu|exact Xex|exact Xe5|exact XeC|exact XdK|exact Xeq|exact Xe1) _|(rw [Xc4];exact Xfq _ _)|simp [Xfq,XhN,XhV,XiO,XiI,XjM,XjL]) rfl) ?_
 conv=>whnf
 let row1:List Int:=c++(bI payload)
 refine XvJ (xs:=c) (ys:=bI payload) (Xc4 _) (by first|(simp;done)|(simp;omega)) (by first|(simp;done)|(simp;omega)) ?_
 conv=>whnf
 replace h:=XaJ.elim h;obtain ⟨hb,h⟩:=h
 refine req.intro (XCY rfl (by first|rfl|(simp;done)) (by first|rfl|omega|(simp;done)|(simp;omega)|(simp at *;omega)) (of_decide_eq_true hb)) ?_
 conv=>whnf
 refine XYg ?_
 conv=>whnf
 replace h:=XaJ.elim h;obtain ⟨hb,h⟩:=h
 first|(refine req.intro hb ?_;conv=>whnf)|skip
 replace h:=Xal.elim h;obtain ⟨xo,hy,h⟩:=h
 refine XaK.q rfl rfl (Xn6 hy) rfl rfl rfl ?_
 conv=>whnf
 refine br.h h ?_ ?_ ?_
 ·rfl
 ·clear h;intro hb h;conv=>whnf
  replace h:=Xal.elim h;obtain ⟨s,hy,h⟩:=h
  refine XaK.q rfl rfl (XoG hy) rfl rfl rfl ?_
  conv=>whnf
  all_goals (cases h;cases hc;exact Res.z rfl rfl rfl)
 clear h;intro hb h;conv=>whnf
 replace h:=Xal.elim h;obtain ⟨s1,hy,h⟩:=h
 refine XaK.q rfl rfl (XoG hy) rfl rfl rfl ?_
 conv=>whnf
 all_goals (cases h;cases hc;exact Res.z rfl rfl rfl)
theorem XOd (XaR:(List UInt8)→Option Int) (XaC:(List UInt8)→Int→Int→Int→Option (List UInt8)) (Xap:Xaa→Xaa→Int→Int→Option (List UInt8)) (Xan:Int→Int→Option (List UInt8)) (Xct:Int→Option Bool) (hS:Xai Tryz.prog (Xav (Xtb XaR XaC Xap Xan Xct))) (ha0:Xat) (src:Xaa) (dst:Xaa) (payload:List UInt8) (res:(List UInt8)×Int) (h:Xi8 XaR XaC Xap Xan Xct ha0 src dst payload=some res) :
 XaI Tryz.prog 79 0 ⟨⟨79,69,[(0,.agg ⟨[.int .i64 ha0.SPort,.int .i64 ha0.DPort]⟩),(1,.agg ⟨[.bool src.V6,.int .u64 src.Hi,.int .u64 src.Lo]⟩),(2,.agg ⟨[.bool dst.V6,.int .u64 dst.Hi,.int .u64 dst.Lo]⟩),(3,.string ⟨⟨payload⟩⟩)],[.code XBW],[],false,none⟩,[],[],0⟩ (fun v H _=>Res 0 (XSb res) v H):=by
 unfold Xi8 at h
 refine Xa7 Xao hS true 3000 ?_
 conv=>whnf
 replace h:=Xal.elim h;obtain ⟨p,hy,h⟩:=h
 refine XaK.q rfl rfl (Xno hy) rfl rfl rfl ?_
 conv=>whnf
 replace h:=Xal.elim h;obtain ⟨p1,hy,h⟩:=h
 refine XaK.q rfl rfl (XtT hy) rfl rfl rfl ?_
 conv=>whnf
 refine br.h h ?_ ?_ ?_
 ·rfl
 ·clear h;intro hb h;conv=>whnf
  all_goals (cases h;exact Res.z rfl rfl rfl)
 clear h;intro hb h;conv=>whnf
 replace h:=Xal.elim h;obtain ⟨p2,hy,h⟩:=h
 refine XaK.q rfl rfl (XtT hy) rfl rfl rfl ?_
 conv=>whnf
 refine br.h h ?_ ?_ ?_
 ·rfl
 ·clear h;intro hb h;conv=>whnf
  all_goals (cases h;exact Res.z rfl rfl rfl)
 clear h;intro hb h;conv=>whnf
 refine br.h h ?_ ?_ ?_
 ·rfl
 ·clear h;intro hb h;conv=>whnf
  all_goals (cases h;exact Res.z rfl rfl rfl)
 clear h;intro hb h;conv=>whnf
 let t:Bool:=decide ((wI .i64 (8+(payload.length:Int)))>65535)
 refine br.h h ?_ ?_ ?_
 ·rfl
 ·clear h;intro hb h;conv=>whnf
  all_goals (cases h;exact Res.z rfl rfl rfl)
 clear h;intro hb h;conv=>whnf
 refine Xa7 Xao hS true 3000 ?_
 conv=>whnf
 replace h:=Xal.elim h;obtain ⟨p3,hy,h⟩:=h
 refine XaK.q rfl rfl (Xg0 hy) rfl rfl rfl ?_
 conv=>whnf
 replace h:=XaJ.elim h;obtain ⟨hb,h⟩:=h
 refine req.intro (Xq8 (of_decide_eq_true hb) (by first|rfl|omega|(simp;done)|(simp;omega)|(simp at *;omega)) rfl rfl) ?_
 conv=>whnf
 refine XsJ (ys:=bI p3) (Xc4 _) (by first|rfl|(simp;done)|(simp;omega)) ?_
 conv=>whnf
 have hl:=Xyk XaR XaC Xap Xan Xct hS _ _ _ res _ _ _ h rfl;simp only [Xkx] at hl
 exact Xj4 hl [(3,3),(4,4)] rfl
theorem ok79 (XaR:(List UInt8)→Option Int) (XaC:(List UInt8)→Int→Int→Int→Option (List UInt8)) (Xap:Xaa→Xaa→Int→Int→Option (List UInt8)) (Xan:Int→Int→Option (List UInt8)) (Xct:Int→Option Bool) (hS:Xai Tryz.prog (Xav (Xtb XaR XaC Xap Xan Xct))):Xar Tryz.prog 79 (s79 (Xi8 XaR XaC Xap Xan Xct)):=by
 refine Xar.Xay Xao (fun ar os r ha hr=>?_) ⟨Tryz.f79,rfl,by decide,rfl⟩
 replace hr:r79 (Xi8 XaR XaC Xap Xan Xct) ar (XaD os)=some r:=hr
 unfold r79 at hr
 generalize hc:XaD os=C at hr
 replace hr:=dV.elim hr;obtain ⟨v0,l1,y0,rfl,e0,hr⟩:=hr;obtain rfl:=Xke _ _ e0
 replace hr:=dV.elim hr;obtain ⟨v1,l2,y1,rfl,e1,hr⟩:=hr;obtain rfl:=Xa1 _ _ e1
 replace hr:=dV.elim hr;obtain ⟨v2,l3,y2,rfl,e2,hr⟩:=hr;obtain rfl:=Xa1 _ _ e2
 replace hr:=dV.elim hr;obtain ⟨v3,l4,y3,rfl,e3,hr⟩:=hr;obtain rfl:=XbH _ _ e3
 replace hr:=Xc2 hr;obtain ⟨rfl,rfl,x,h,rfl⟩:=hr
 obtain rfl:=Xas hc
 exact ⟨_,rfl,XOd XaR XaC Xap Xan Xct hS _ _ _ _ x h⟩
def Xei:Xat→Xaa→Xaa→(List UInt8)→Option ((List UInt8)×Int):=Xi8 XaR XaC Xap Xan Xct
theorem X4T:Xar Tryz.prog 79 (s79 Xei):=ok79 XaR XaC Xap Xan Xct (Xai.XaW ⟨Xpr,XuW,XnE,XmW,XGV,trivial⟩)
def Xjc (XaE:(List UInt8)→Option Bool) (Xap:Xaa→Xaa→Int→Int→Option (List UInt8)) (XaA:(List UInt8)→Option Xab) (Xae:Xab→Option (Bool×Xab)) (Xad:Xab→Int→Option (Int×Xab)) (s:List UInt8) (src:Xaa) (dst:Xaa):Option (Xat×(List UInt8)×Int):=
 (XaA s).bind fun n=>
 (Xad n 2).bind fun n1=>
 (Xad n1.2 2).bind fun n2=>
 (Xad n2.2 2).bind fun n3=>
 (Xad n3.2 2).bind fun n4=>
 (Xae n4.2).bind fun b=>
 cond (b.1)
  (
  some ((Xat.mk 0 0,[],2)))
  (
  cond (decide (n3.1<8))
   (
   some ((Xat.mk 0 0,[],3)))
   (
   cond (decide (n3.1>(s.length:Int)))
    (
    some ((Xat.mk 0 0,[],2)))
    (
    (Xap src dst 17 n3.1).bind fun p=>
    cond (p==[])
     (
     some ((Xat.mk 0 0,[],1)))
     (
     cond (n4.1==0)
      (
      cond (src.V6)
       (
       some ((Xat.mk 0 0,[],4)))
       (
       cond (n4.1 !=0)
        (
        XaJ (decide ((0:Int)≤n3.1∧n3.1≤(s.length:Int))) <|
        XaJ (decide (p.length+(s.take n3.1.toNat).length<2^63)) <|
        (XaE (p++(s.take n3.1.toNat))).bind fun xr=>
        cond (!xr)
         (
         some ((Xat.mk 0 0,[],4)))
         (
         XaJ (decide ((0:Int)≤n3.1∧n3.1≤(s.length:Int)∧(0:Int)≤(8:Int)∧(8:Int)≤(n3.1.toNat:Int))) <|
         some ((Xat.mk n1.1 n2.1,(s.drop 8).take (n3.1.toNat - 8),0))))
        (
        XaJ (decide ((0:Int)≤n3.1∧n3.1≤(s.length:Int)∧(0:Int)≤(8:Int)∧(8:Int)≤(n3.1.toNat:Int))) <|
        some ((Xat.mk n1.1 n2.1,(s.drop 8).take (n3.1.toNat - 8),0)))))
      (
      cond (n4.1 !=0)
       (
       XaJ (decide ((0:Int)≤n3.1∧n3.1≤(s.length:Int))) <|
       XaJ (decide (p.length+(s.take n3.1.toNat).length<2^63)) <|
       (XaE (p++(s.take n3.1.toNat))).bind fun xr1=>
       cond (!xr1)
        (
        some ((Xat.mk 0 0,[],4)))
        (
        XaJ (decide ((0:Int)≤n3.1∧n3.1≤(s.length:Int)∧(0:Int)≤(8:Int)∧(8:Int)≤(n3.1.toNat:Int))) <|
        some ((Xat.mk n1.1 n2.1,(s.drop 8).take (n3.1.toNat - 8),0))))
       (
       XaJ (decide ((0:Int)≤n3.1∧n3.1≤(s.length:Int)∧(0:Int)≤(8:Int)∧(8:Int)≤(n3.1.toNat:Int))) <|
       some ((Xat.mk n1.1 n2.1,(s.drop 8).take (n3.1.toNat - 8),0))))))))
def XxS (x:Xat×(List UInt8)×Int):Xca:=⟨.tuple ⟨[.agg ⟨[.int .i64 x.1.SPort,.int .i64 x.1.DPort]⟩,.string ⟨⟨x.2.1⟩⟩,.int .i64 x.2.2]⟩,[],[]⟩
def r174 (g:(List UInt8)→Xaa→Xaa→Option (Xat×(List UInt8)×Int)):Dec:=dV asS fun (y0:List UInt8)=>dV Xbp fun (y1:Xaa)=>dV Xbp fun (y2:Xaa)=>XcO (ofG (g y0 y1 y2) XxS)
theorem X32 {g:(List UInt8)→Xaa→Xaa→Option (Xat×(List UInt8)×Int)} {y0:List UInt8} {y1:Xaa} {y2:Xaa} {x:Xat×(List UInt8)×Int} (hx:g y0 y1 y2=some x):r174 g [.string ⟨⟨y0⟩⟩,.agg ⟨[.bool y1.V6,.int .u64 y1.Hi,.int .u64 y1.Lo]⟩,.agg ⟨[.bool y2.V6,.int .u64 y2.Hi,.int .u64 y2.Lo]⟩] []=some (XxS x):=(XaT (Xcp)).trans ((XaT (Xa8 _)).trans ((XaT (Xa8 _)).trans (Xa0 hx)))
def s174 (g:(List UInt8)→Xaa→Xaa→Option (Xat×(List UInt8)×Int)):Xbr:=⟨[.v,.v,.v],r174 g⟩
theorem XKO {g:(List UInt8)→Xaa→Xaa→Option (Xat×(List UInt8)×Int)} {y0:List UInt8} {y1:Xaa} {y2:Xaa} {x:Xat×(List UInt8)×Int} (hx:g y0 y1 y2=some x):(s174 g).run [.string ⟨⟨y0⟩⟩,.agg ⟨[.bool y1.V6,.int .u64 y1.Hi,.int .u64 y1.Lo]⟩,.agg ⟨[.bool y2.V6,.int .u64 y2.Hi,.int .u64 y2.Lo]⟩] []=some (XxS x):=X32 hx
abbrev Xtx (XaE:(List UInt8)→Option Bool) (Xap:Xaa→Xaa→Int→Int→Option (List UInt8)) (XaA:(List UInt8)→Option Xab) (Xae:Xab→Option (Bool×Xab)) (Xad:Xab→Int→Option (Int×Xab)):List (Nat×Xbr):=[(146,XR7 XaE),(125,XE8 Xap),(112,XBv XaA),(114,XAV Xae),(113,Xw5 Xad)]
theorem XxN (XaE:(List UInt8)→Option Bool) (Xap:Xaa→Xaa→Int→Int→Option (List UInt8)) (XaA:(List UInt8)→Option Xab) (Xae:Xab→Option (Bool×Xab)) (Xad:Xab→Int→Option (Int×Xab)) (hS:Xai Tryz.prog (Xav (Xtx XaE Xap XaA Xae Xad))) (s:List UInt8) (src:Xaa) (dst:Xaa) (res:Xat×(List UInt8)×Int) (h:Xjc XaE Xap XaA Xae Xad s src dst=some res) :
 XaI Tryz.prog 174 0 ⟨⟨174,70,[(0,.string ⟨⟨s⟩⟩),(1,.agg ⟨[.bool src.V6,.int .u64 src.Hi,.int .u64 src.Lo]⟩),(2,.agg ⟨[.bool dst.V6,.int .u64 dst.Hi,.int .u64 dst.Lo]⟩)],[.code Xv6],[],false,none⟩,[],[],0⟩ (fun v H _=>Res 0 (XxS res) v H):=by
 unfold Xjc at h
 refine Xa7 Xao hS true 3000 ?_
 conv=>whnf
 replace h:=Xal.elim h;obtain ⟨n,hy,h⟩:=h
 refine XaK.Xbb [3] (Xaw (aqs:=[.string ⟨⟨s⟩⟩]) (ws:=[]) (n:=1) (m:=0) (t':=4) (Xau rfl rfl Xbf) rfl (by rfl) (Xmi hy) rfl rfl rfl rfl Xbe (Xho (rfl) Xbc) rfl) ?_
 conv=>whnf
 replace h:=Xal.elim h;obtain ⟨n1,hy,h⟩:=h
 refine XaK.Xbb [3] (Xaw (aqs:=[.pointer (some ⟨0,0,none⟩),.int .i64 2]) (ws:=[.win 3 0 3 true]) (n:=0) (m:=0) (t':=4) (Xau rfl rfl (Xau rfl rfl Xbf)) rfl (by rfl) (Xcn hy) rfl rfl rfl rfl (XbF rfl rfl rfl ⟨rfl,Nat.le_of_ble_eq_true rfl⟩ rfl rfl Xbe) Xbc rfl) ?_
 conv=>whnf
 replace h:=Xal.elim h;obtain ⟨n2,hy,h⟩:=h
 refine XaK.Xbb [3] (Xaw (aqs:=[.pointer (some ⟨0,0,none⟩),.int .i64 2]) (ws:=[.win 3 0 3 true]) (n:=0) (m:=0) (t':=4) (Xau rfl rfl (Xau rfl rfl Xbf)) rfl (by rfl) (Xcn hy) rfl rfl rfl rfl (XbF rfl rfl rfl ⟨rfl,Nat.le_of_ble_eq_true rfl⟩ rfl rfl Xbe) Xbc rfl) ?_
 conv=>whnf
 replace h:=Xal.elim h;obtain ⟨n3,hy,h⟩:=h
 refine XaK.Xbb [3] (Xaw (aqs:=[.pointer (some ⟨0,0,none⟩),.int .i64 2]) (ws:=[.win 3 0 3 true]) (n:=0) (m:=0) (t':=5) (Xau rfl rfl (Xau rfl rfl Xbf)) rfl (by rfl) (Xcn hy) rfl rfl rfl rfl (XbF rfl rfl rfl ⟨rfl,Nat.le_of_ble_eq_true rfl⟩ rfl rfl Xbe) Xbc rfl) ?_
 conv=>whnf
 replace h:=Xal.elim h;obtain ⟨n4,hy,h⟩:=h
 refine XaK.Xbb [3] (Xaw (aqs:=[.pointer (some ⟨0,0,none⟩),.int .i64 2]) (ws:=[.win 3 0 3 true]) (n:=0) (m:=0) (t':=5) (Xau rfl rfl (Xau rfl rfl Xbf)) rfl (by rfl) (Xcn hy) rfl rfl rfl rfl (XbF rfl rfl rfl ⟨rfl,Nat.le_of_ble_eq_true rfl⟩ rfl rfl Xbe) Xbc rfl) ?_
 conv=>whnf
 replace h:=Xal.elim h;obtain ⟨b,hy,h⟩:=h
 refine XaK.Xbb [3] (Xaw (aqs:=[.pointer (some ⟨0,0,none⟩)]) (ws:=[.win 3 0 3 true]) (n:=0) (m:=0) (t':=5) (Xau rfl rfl Xbf) rfl (by rfl) (Xhl hy) rfl rfl rfl rfl (XbF rfl rfl rfl ⟨rfl,Nat.le_of_ble_eq_true rfl⟩ rfl rfl Xbe) Xbc rfl) ?_
 conv=>whnf
 refine br.h h ?_ ?_ ?_
 ·rfl
 ·clear h;intro hb h;conv=>whnf
  all_goals (cases h;exact Res.z rfl rfl rfl)
 clear h;intro hb h;conv=>whnf
 refine br.h h ?_ ?_ ?_
 ·rfl
 ·clear h;intro hb h;conv=>whnf
  all_goals (cases h;exact Res.z rfl rfl rfl)
 clear h;intro hb h;conv=>whnf
 refine br.h h ?_ ?_ ?_
 ·rfl
 ·clear h;intro hb h;conv=>whnf
  all_goals (cases h;exact Res.z rfl rfl rfl)
 clear h;intro hb h;conv=>whnf
 replace h:=Xal.elim h;obtain ⟨p,hy,h⟩:=h
 refine XaK.q rfl rfl (Xno hy) rfl rfl rfl ?_
 conv=>whnf
 refine br.h h ?_ ?_ ?_
 ·rfl
 ·clear h;intro hb h;conv=>whnf
  all_goals (cases h;exact Res.z rfl rfl rfl)
 clear h;intro hb h;conv=>whnf
 refine br.h2 h ?_ ?_ ?_
 ·rfl
 ·clear h;intro hb h;conv=>whnf
  refine br.h2 h ?_ ?_ ?_
  ·rfl
  ·clear h;intro hb h;conv=>whnf
   replace h:=XaJ.elim h;obtain ⟨hb,h⟩:=h
   first|(refine req.intro hb ?_;conv=>whnf)|skip
   all_goals (cases h;exact Res.z rfl rfl rfl)
  clear h;intro hb h;conv=>whnf
  replace h:=XaJ.elim h;obtain ⟨hb,h⟩:=h
  first|(refine req.intro hb ?_;conv=>whnf)|skip
  replace h:=XaJ.elim h;obtain ⟨hb,h⟩:=h
  first|(refine req.intro hb ?_;conv=>whnf)|skip
  replace h:=Xal.elim h;obtain ⟨xr1,hy,h⟩:=h
  refine XaK.q rfl rfl (XnF hy) rfl rfl rfl ?_
  conv=>whnf
  refine br.h h ?_ ?_ ?_
  ·rfl
  ·clear h;intro hb h;conv=>whnf
   all_goals (cases h;exact Res.z rfl rfl rfl)
  clear h;intro hb h;conv=>whnf
  replace h:=XaJ.elim h;obtain ⟨hb,h⟩:=h
  first|(refine req.intro hb ?_;conv=>whnf)|skip
  all_goals (cases h;exact Res.z rfl rfl rfl)
 clear h;intro hb h;conv=>whnf
 refine br.h h ?_ ?_ ?_
 ·rfl
 ·clear h;intro hb h;conv=>whnf
  refine br.pos ?_ ?_;(focus (clear h;first|assumption|(simp_all;done)))
  conv=>whnf
  all_goals (cases h;exact Res.z rfl rfl rfl)
 clear h;intro hb h;conv=>whnf
 refine br.h2 h ?_ ?_ ?_
 ·rfl
 ·clear h;intro hb h;conv=>whnf
  replace h:=XaJ.elim h;obtain ⟨hb,h⟩:=h
  first|(refine req.intro hb ?_;conv=>whnf)|skip
  all_goals (cases h;exact Res.z rfl rfl rfl)
 clear h;intro hb h;conv=>whnf
 replace h:=XaJ.elim h;obtain ⟨hb,h⟩:=h
 first|(refine req.intro hb ?_;conv=>whnf)|skip
 replace h:=XaJ.elim h;obtain ⟨hb,h⟩:=h
 first|(refine req.intro hb ?_;conv=>whnf)|skip
 replace h:=Xal.elim h;obtain ⟨xr,hy,h⟩:=h
 refine XaK.q rfl rfl (XnF hy) rfl rfl rfl ?_
 conv=>whnf
 refine br.h h ?_ ?_ ?_
 ·rfl
 ·clear h;intro hb h;conv=>whnf
  all_goals (cases h;exact Res.z rfl rfl rfl)
 clear h;intro hb h;conv=>whnf
 replace h:=XaJ.elim h;obtain ⟨hb,h⟩:=h
 first|(refine req.intro hb ?_;conv=>whnf)|skip
 all_goals (cases h;exact Res.z rfl rfl rfl)
theorem ok174 (XaE:(List UInt8)→Option Bool) (Xap:Xaa→Xaa→Int→Int→Option (List UInt8)) (XaA:(List UInt8)→Option Xab) (Xae:Xab→Option (Bool×Xab)) (Xad:Xab→Int→Option (Int×Xab)) (hS:Xai Tryz.prog (Xav (Xtx XaE Xap XaA Xae Xad))):Xar Tryz.prog 174 (s174 (Xjc XaE Xap XaA Xae Xad)):=by
 refine Xar.Xay Xao (fun ar os r ha hr=>?_) ⟨Tryz.f174,rfl,by decide,rfl⟩
 replace hr:r174 (Xjc XaE Xap XaA Xae Xad) ar (XaD os)=some r:=hr
 unfold r174 at hr
 generalize hc:XaD os=C at hr
 replace hr:=dV.elim hr;obtain ⟨v0,l1,y0,rfl,e0,hr⟩:=hr;obtain rfl:=XbH _ _ e0
 replace hr:=dV.elim hr;obtain ⟨v1,l2,y1,rfl,e1,hr⟩:=hr;obtain rfl:=Xa1 _ _ e1
 replace hr:=dV.elim hr;obtain ⟨v2,l3,y2,rfl,e2,hr⟩:=hr;obtain rfl:=Xa1 _ _ e2
 replace hr:=Xc2 hr;obtain ⟨rfl,rfl,x,h,rfl⟩:=hr
 obtain rfl:=Xas hc
 exact ⟨_,rfl,XxN XaE Xap XaA Xae Xad hS _ _ _ x h⟩
def Xen:(List UInt8)→Xaa→Xaa→Option (Xat×(List UInt8)×Int):=Xjc XaE Xap XaA Xae Xad
theorem XGh:Xar Tryz.prog 174 (s174 Xen):=ok174 XaE Xap XaA Xae Xad (Xai.XaW ⟨Xqs,XnE,XlZ,XkO,Xk7,trivial⟩)
def Xk6 (n:Int):Option Bool:=
 cond (decide (n≥0))
  (
  some (decide (n≤65535)))
  (
  some (false))
def Xx2 (x:Bool):Xca:=⟨.bool x,[],[]⟩
def r134 (g:Int→Option Bool):Dec:=dV (asI .i64) fun (y0:Int)=>XcO (ofG (g y0) Xx2)
theorem XWH {g:Int→Option Bool} {y0:Int} {x:Bool} (hx:g y0=some x):r134 g [.int .i64 y0] []=some (Xx2 x):=(XaT (Xc3 _)).trans (Xa0 hx)
def s134 (g:Int→Option Bool):Xbr:=⟨[.v],r134 g⟩
theorem Xu3 {g:Int→Option Bool} {y0:Int} {x:Bool} (hx:g y0=some x):(s134 g).run [.int .i64 y0] []=some (Xx2 x):=XWH hx
abbrev XvN:List (Nat×Xbr):=[]
theorem XzB (hS:Xai Tryz.prog (Xav (XvN))) (n:Int) (res:Bool) (h:Xk6 n=some res) :
 XaI Tryz.prog 134 0 ⟨⟨134,9,[(0,.int .i64 n)],[.code XDw],[],false,none⟩,[],[],0⟩ (fun v H _=>Res 0 (Xx2 res) v H):=by
 unfold Xk6 at h
 refine Xa7 Xao hS true 3000 ?_
 conv=>whnf
 refine br.h h ?_ ?_ ?_
 ·rfl
 ·clear h;intro hb h;conv=>whnf
  all_goals (cases h;exact Res.z rfl rfl rfl)
 clear h;intro hb h;conv=>whnf
 all_goals (cases h;exact Res.z rfl rfl rfl)
theorem ok134 (hS:Xai Tryz.prog (Xav (XvN))):Xar Tryz.prog 134 (s134 (Xk6)):=by
 refine Xar.Xay Xao (fun ar os r ha hr=>?_) ⟨Tryz.f134,rfl,by decide,rfl⟩
 replace hr:r134 (Xk6) ar (XaD os)=some r:=hr
 unfold r134 at hr
 generalize hc:XaD os=C at hr
 replace hr:=dV.elim hr;obtain ⟨v0,l1,y0,rfl,e0,hr⟩:=hr;obtain rfl:=XbS _ _ _ e0
 replace hr:=Xc2 hr;obtain ⟨rfl,rfl,x,h,rfl⟩:=hr
 obtain rfl:=Xas hc
 exact ⟨_,rfl,XzB hS _ x h⟩
def XfJ:Int→Option Bool:=Xk6
theorem XMw:Xar Tryz.prog 134 (s134 XfJ):=ok134 (Xai.XaW trivial)
def XiY (XaH:Int→Int→Option (List UInt8)) (XbP:(List UInt8)→Option Int) (Xbm:(List UInt8)→Int→Int→Int→Option (List UInt8)) (XaB:Xaa→Xaa→Int→Int→Option (List UInt8)) (XfJ:Int→Option Bool) (ha0:Xat) (src:Xaa) (dst:Xaa) (payload:List UInt8):Option ((List UInt8)×Int):=
 (XaB src dst 17 (wI .i64 (8+(payload.length:Int)))).bind fun p=>
 (XfJ ha0.SPort).bind fun i=>
 cond (!i)
  (
  some (([],1)))
  (
  (XfJ ha0.DPort).bind fun i1=>
  cond (!i1)
   (
   some (([],1)))
   (
   cond (p==[])
    (
    some (([],1)))
    (
    let t:=decide ((wI .i64 (8+(payload.length:Int)))>65535)
    cond (t)
     (
     some (([],5)))
     (
     (XaH (wI .u64 ha0.SPort) 2).bind fun p1=>
     (XaH (wI .u64 ha0.DPort) 2).bind fun p2=>
     XaJ (decide (p1.length+p2.length<2^63)) <|
     let t1:=wI .u64 (wI .i64 (8+(payload.length:Int)))
     (XaH t1 2).bind fun p3=>
     XaJ (decide ((p1++p2).length+p3.length<2^63)) <|
     XaJ (decide (((p1++p2)++p3).length+2<2^63)) <|
     XaJ (decide ((((p1++p2)++p3)++[0,0]).length+payload.length<2^63)) <|
     let t2:=(((p1++p2)++p3)++[0,0])++payload
     XaJ (decide (p.length+t2.length<2^63)) <|
     (XbP (p++t2)).bind fun xo=>
     cond (xo==0)
      (
      (Xbm t2 6 2 65535).bind fun s=>
      some ((s,0)))
      (
      (Xbm t2 6 2 (wI .u64 xo)).bind fun s1=>
      some ((s1,0)))))))
def rx80 (x:(List UInt8)×Int):Xca:=⟨.tuple ⟨[.string ⟨⟨x.1⟩⟩,.int .i64 x.2]⟩,[],[]⟩
def r80 (g:Xat→Xaa→Xaa→(List UInt8)→Option ((List UInt8)×Int)):Dec:=dV XhP fun (y0:Xat)=>dV Xbp fun (y1:Xaa)=>dV Xbp fun (y2:Xaa)=>dV asS fun (y3:List UInt8)=>XcO (ofG (g y0 y1 y2 y3) rx80)
theorem r80_c {g:Xat→Xaa→Xaa→(List UInt8)→Option ((List UInt8)×Int)} {y0:Xat} {y1:Xaa} {y2:Xaa} {y3:List UInt8} {x:(List UInt8)×Int} (hx:g y0 y1 y2 y3=some x):r80 g [.agg ⟨[.int .i64 y0.SPort,.int .i64 y0.DPort]⟩,.agg ⟨[.bool y1.V6,.int .u64 y1.Hi,.int .u64 y1.Lo]⟩,.agg ⟨[.bool y2.V6,.int .u64 y2.Hi,.int .u64 y2.Lo]⟩,.string ⟨⟨y3⟩⟩] []=some (rx80 x):=(XaT (Xlc _)).trans ((XaT (Xa8 _)).trans ((XaT (Xa8 _)).trans ((XaT (Xcp)).trans (Xa0 hx))))
def s80 (g:Xat→Xaa→Xaa→(List UInt8)→Option ((List UInt8)×Int)):Xbr:=⟨[.v,.v,.v,.v],r80 g⟩
theorem X28 {g:Xat→Xaa→Xaa→(List UInt8)→Option ((List UInt8)×Int)} {y0:Xat} {y1:Xaa} {y2:Xaa} {y3:List UInt8} {x:(List UInt8)×Int} (hx:g y0 y1 y2 y3=some x):(s80 g).run [.agg ⟨[.int .i64 y0.SPort,.int .i64 y0.DPort]⟩,.agg ⟨[.bool y1.V6,.int .u64 y1.Hi,.int .u64 y1.Lo]⟩,.agg ⟨[.bool y2.V6,.int .u64 y2.Hi,.int .u64 y2.Lo]⟩,.string ⟨⟨y3⟩⟩] []=some (rx80 x):=r80_c hx
abbrev XBx (XaH:Int→Int→Option (List UInt8)) (XbP:(List UInt8)→Option Int) (Xbm:(List UInt8)→Int→Int→Int→Option (List UInt8)) (XaB:Xaa→Xaa→Int→Int→Option (List UInt8)) (XfJ:Int→Option Bool):List (Nat×Xbr):=[(98,s98 XaH),(100,XSe XbP),(99,s99 Xbm),(129,XOt XaB),(134,s134 XfJ)]
theorem XRo (XaH:Int→Int→Option (List UInt8)) (XbP:(List UInt8)→Option Int) (Xbm:(List UInt8)→Int→Int→Int→Option (List UInt8)) (XaB:Xaa→Xaa→Int→Int→Option (List UInt8)) (XfJ:Int→Option Bool) (hS:Xai Tryz.prog (Xav (XBx XaH XbP Xbm XaB XfJ))) (ha0:Xat) (src:Xaa) (dst:Xaa) (payload:List UInt8) (res:(List UInt8)×Int) (h:XiY XaH XbP Xbm XaB XfJ ha0 src dst payload=some res) :
 XaI Tryz.prog 80 0 ⟨⟨80,63,[(0,.agg ⟨[.int .i64 ha0.SPort,.int .i64 ha0.DPort]⟩),(1,.agg ⟨[.bool src.V6,.int .u64 src.Hi,.int .u64 src.Lo]⟩),(2,.agg ⟨[.bool dst.V6,.int .u64 dst.Hi,.int .u64 dst.Lo]⟩),(3,.string ⟨⟨payload⟩⟩)],[.code XCD],[],false,none⟩,[],[],0⟩ (fun v H _=>Res 0 (rx80 res) v H):=by
 unfold XiY at h
 refine Xa7 Xao hS true 3000 ?_
 conv=>whnf
 replace h:=Xal.elim h;obtain ⟨p,hy,h⟩:=h
 refine XaK.q rfl rfl (Xob hy) rfl rfl rfl ?_
 conv=>whnf
 replace h:=Xal.elim h;obtain ⟨i,hy,h⟩:=h
 refine XaK.q rfl rfl (Xu3 hy) rfl rfl rfl ?_
 conv=>whnf
 refine br.h h ?_ ?_ ?_
 ·rfl
 ·clear h;intro hb h;conv=>whnf
  all_goals (cases h;exact Res.z rfl rfl rfl)
 clear h;intro hb h;conv=>whnf
 replace h:=Xal.elim h;obtain ⟨i1,hy,h⟩:=h
 refine XaK.q rfl rfl (Xu3 hy) rfl rfl rfl ?_
 conv=>whnf
 refine br.h h ?_ ?_ ?_
 ·rfl
 ·clear h;intro hb h;conv=>whnf
  all_goals (cases h;exact Res.z rfl rfl rfl)
 clear h;intro hb h;conv=>whnf
 refine br.h h ?_ ?_ ?_
 ·rfl
 ·clear h;intro hb h;conv=>whnf
  all_goals (cases h;exact Res.z rfl rfl rfl)
 clear h;intro hb h;conv=>whnf
 let t:Bool:=decide ((wI .i64 (8+(payload.length:Int)))>65535)
 refine br.h h ?_ ?_ ?_
 ·rfl
 ·clear h;intro hb h;conv=>whnf
  all_goals (cases h;exact Res.z rfl rfl rfl)
 clear h;intro hb h;conv=>whnf
 replace h:=Xal.elim h;obtain ⟨p1,hy,h⟩:=h
 refine XaK.q rfl rfl (XjF hy) rfl rfl rfl ?_
 conv=>whnf
 replace h:=Xal.elim h;obtain ⟨p2,hy,h⟩:=h
 refine XaK.q rfl rfl (XjF hy) rfl rfl rfl ?_
 conv=>whnf
 replace h:=XaJ.elim h;obtain ⟨hb,h⟩:=h
 first|(refine req.intro hb ?_;conv=>whnf)|skip
 let t1:Int:=wI .u64 (wI .i64 (8+(payload.length:Int)))
 replace h:=Xal.elim h;obtain ⟨p3,hy,h⟩:=h
 refine XaK.q rfl rfl (XjF hy) rfl rfl rfl ?_
 conv=>whnf
 replace h:=XaJ.elim h;obtain ⟨hb,h⟩:=h
 first|(refine req.intro hb ?_;conv=>whnf)|skip
 replace h:=XaJ.elim h;obtain ⟨hb,h⟩:=h
 first|(refine req.intro hb ?_;conv=>whnf)|skip
 replace h:=XaJ.elim h;obtain ⟨hb,h⟩:=h
 first|(refine req.intro hb ?_;conv=>whnf)|skip
 let t2:List UInt8:=(((p1++p2)++p3)++[0,0])++payload
 replace h:=XaJ.elim h;obtain ⟨hb,h⟩:=h
 first|(refine req.intro hb ?_;conv=>whnf)|skip
 replace h:=Xal.elim h;obtain ⟨xo,hy,h⟩:=h
 refine XaK.q rfl rfl (Xol hy) rfl rfl rfl ?_
 conv=>whnf
 refine br.h h ?_ ?_ ?_
 ·rfl
 ·clear h;intro hb h;conv=>whnf
  replace h:=Xal.elim h;obtain ⟨s,hy,h⟩:=h
  refine XaK.q rfl rfl (XoV hy) rfl rfl rfl ?_
  conv=>whnf
  all_goals (cases h;exact Res.z rfl rfl rfl)
 clear h;intro hb h;conv=>whnf
 replace h:=Xal.elim h;obtain ⟨s1,hy,h⟩:=h
 refine XaK.q rfl rfl (XoV hy) rfl rfl rfl ?_
 conv=>whnf
 all_goals (cases h;exact Res.z rfl rfl rfl)
theorem ok80 (XaH:Int→Int→Option (List UInt8)) (XbP:(List UInt8)→Option Int) (Xbm:(List UInt8)→Int→Int→Int→Option (List UInt8)) (XaB:Xaa→Xaa→Int→Int→Option (List UInt8)) (XfJ:Int→Option Bool) (hS:Xai Tryz.prog (Xav (XBx XaH XbP Xbm XaB XfJ))):Xar Tryz.prog 80 (s80 (XiY XaH XbP Xbm XaB XfJ)):=by
 refine Xar.Xay Xao (fun ar os r ha hr=>?_) ⟨Tryz.f80,rfl,by decide,rfl⟩
 replace hr:r80 (XiY XaH XbP Xbm XaB XfJ) ar (XaD os)=some r:=hr
 unfold r80 at hr
 generalize hc:XaD os=C at hr
 replace hr:=dV.elim hr;obtain ⟨v0,l1,y0,rfl,e0,hr⟩:=hr;obtain rfl:=Xke _ _ e0
 replace hr:=dV.elim hr;obtain ⟨v1,l2,y1,rfl,e1,hr⟩:=hr;obtain rfl:=Xa1 _ _ e1
 replace hr:=dV.elim hr;obtain ⟨v2,l3,y2,rfl,e2,hr⟩:=hr;obtain rfl:=Xa1 _ _ e2
 replace hr:=dV.elim hr;obtain ⟨v3,l4,y3,rfl,e3,hr⟩:=hr;obtain rfl:=XbH _ _ e3
 replace hr:=Xc2 hr;obtain ⟨rfl,rfl,x,h,rfl⟩:=hr
 obtain rfl:=Xas hc
 exact ⟨_,rfl,XRo XaH XbP Xbm XaB XfJ hS _ _ _ _ x h⟩
def Xec:Xat→Xaa→Xaa→(List UInt8)→Option ((List UInt8)×Int):=XiY XaH XbP Xbm XaB XfJ
theorem XZq:Xar Tryz.prog 80 (s80 Xec):=ok80 XaH XbP Xbm XaB XfJ (Xai.XaW ⟨XmL,Xqy,XvB,Xnk,XMw,trivial⟩)
def Xjb (Xam:(List UInt8)→Int→Int→Option Int) (Xba:(List UInt8)→Option Int) (XaB:Xaa→Xaa→Int→Int→Option (List UInt8)) (s:List UInt8) (src:Xaa) (dst:Xaa):Option (Xat×(List UInt8)×Int):=
 cond (decide ((s.length:Int)<8))
  (
  some ((Xat.mk 0 0,[],2)))
  (
  (Xam s 4 2).bind fun m=>
  cond (decide (m<8))
   (
   some ((Xat.mk 0 0,[],3)))
   (
   cond (decide ((s.length:Int)<m))
    (
    some ((Xat.mk 0 0,[],2)))
    (
    (XaB src dst 17 m).bind fun p=>
    cond (p==[])
     (
     some ((Xat.mk 0 0,[],1)))
     (
     (Xam s 6 2).bind fun m1=>
     cond (m1==0)
      (
      cond (src.V6)
       (
       some ((Xat.mk 0 0,[],4)))
       (
       (Xam s 0 2).bind fun m2=>
       (Xam s 2 2).bind fun m3=>
       XaJ (decide ((0:Int)≤m∧m≤(s.length:Int)∧(0:Int)≤(8:Int)∧(8:Int)≤(m.toNat:Int))) <|
       some ((Xat.mk m2 m3,(s.drop 8).take (m.toNat - 8),0))))
      (
      XaJ (decide ((0:Int)≤m∧m≤(s.length:Int))) <|
      XaJ (decide (p.length+(s.take m.toNat).length<2^63)) <|
      (Xba (p++(s.take m.toNat))).bind fun s1=>
      cond (s1 !=65535)
       (
       some ((Xat.mk 0 0,[],4)))
       (
       (Xam s 0 2).bind fun m4=>
       (Xam s 2 2).bind fun m5=>
       XaJ (decide ((0:Int)≤m∧m≤(s.length:Int)∧(0:Int)≤(8:Int)∧(8:Int)≤(m.toNat:Int))) <|
       some ((Xat.mk m4 m5,(s.drop 8).take (m.toNat - 8),0))))))))
def Xyx (x:Xat×(List UInt8)×Int):Xca:=⟨.tuple ⟨[.agg ⟨[.int .i64 x.1.SPort,.int .i64 x.1.DPort]⟩,.string ⟨⟨x.2.1⟩⟩,.int .i64 x.2.2]⟩,[],[]⟩
def r110 (g:(List UInt8)→Xaa→Xaa→Option (Xat×(List UInt8)×Int)):Dec:=dV asS fun (y0:List UInt8)=>dV Xbp fun (y1:Xaa)=>dV Xbp fun (y2:Xaa)=>XcO (ofG (g y0 y1 y2) Xyx)
theorem XS5 {g:(List UInt8)→Xaa→Xaa→Option (Xat×(List UInt8)×Int)} {y0:List UInt8} {y1:Xaa} {y2:Xaa} {x:Xat×(List UInt8)×Int} (hx:g y0 y1 y2=some x):r110 g [.string ⟨⟨y0⟩⟩,.agg ⟨[.bool y1.V6,.int .u64 y1.Hi,.int .u64 y1.Lo]⟩,.agg ⟨[.bool y2.V6,.int .u64 y2.Hi,.int .u64 y2.Lo]⟩] []=some (Xyx x):=(XaT (Xcp)).trans ((XaT (Xa8 _)).trans ((XaT (Xa8 _)).trans (Xa0 hx)))
def s110 (g:(List UInt8)→Xaa→Xaa→Option (Xat×(List UInt8)×Int)):Xbr:=⟨[.v,.v,.v],r110 g⟩
theorem XQB {g:(List UInt8)→Xaa→Xaa→Option (Xat×(List UInt8)×Int)} {y0:List UInt8} {y1:Xaa} {y2:Xaa} {x:Xat×(List UInt8)×Int} (hx:g y0 y1 y2=some x):(s110 g).run [.string ⟨⟨y0⟩⟩,.agg ⟨[.bool y1.V6,.int .u64 y1.Hi,.int .u64 y1.Lo]⟩,.agg ⟨[.bool y2.V6,.int .u64 y2.Hi,.int .u64 y2.Lo]⟩] []=some (Xyx x):=XS5 hx
abbrev XvT (Xam:(List UInt8)→Int→Int→Option Int) (Xba:(List UInt8)→Option Int) (XaB:Xaa→Xaa→Int→Int→Option (List UInt8)):List (Nat×Xbr):=[(74,s74 Xam),(147,XEP Xba),(129,XOt XaB)]
theorem XyQ (Xam:(List UInt8)→Int→Int→Option Int) (Xba:(List UInt8)→Option Int) (XaB:Xaa→Xaa→Int→Int→Option (List UInt8)) (hS:Xai Tryz.prog (Xav (XvT Xam Xba XaB))) (s:List UInt8) (src:Xaa) (dst:Xaa) (res:Xat×(List UInt8)×Int) (h:Xjb Xam Xba XaB s src dst=some res) :
 XaI Tryz.prog 110 0 ⟨⟨110,54,[(0,.string ⟨⟨s⟩⟩),(1,.agg ⟨[.bool src.V6,.int .u64 src.Hi,.int .u64 src.Lo]⟩),(2,.agg ⟨[.bool dst.V6,.int .u64 dst.Hi,.int .u64 dst.Lo]⟩)],[.code XtQ],[],false,none⟩,[],[],0⟩ (fun v H _=>Res 0 (Xyx res) v H):=by
 unfold Xjb at h
 refine Xa7 Xao hS true 3000 ?_
 conv=>whnf
 refine br.h h ?_ ?_ ?_
 ·rfl
 ·clear h;intro hb h;conv=>whnf
  all_goals (cases h;exact Res.z rfl rfl rfl)
 clear h;intro hb h;conv=>whnf
 replace h:=Xal.elim h;obtain ⟨m,hy,h⟩:=h
 refine XaK.q rfl rfl (XeL hy) rfl rfl rfl ?_
 conv=>whnf
 refine br.h h ?_ ?_ ?_
 ·rfl
 ·clear h;intro hb h;conv=>whnf
  all_goals (cases h;exact Res.z rfl rfl rfl)
 clear h;intro hb h;conv=>whnf
 refine br.h h ?_ ?_ ?_
 ·rfl
 ·clear h;intro hb h;conv=>whnf
  all_goals (cases h;exact Res.z rfl rfl rfl)
 clear h;intro hb h;conv=>whnf
 replace h:=Xal.elim h;obtain ⟨p,hy,h⟩:=h
 refine XaK.q rfl rfl (Xob hy) rfl rfl rfl ?_
 conv=>whnf
 refine br.h h ?_ ?_ ?_
 ·rfl
 ·clear h;intro hb h;conv=>whnf
  all_goals (cases h;exact Res.z rfl rfl rfl)
 clear h;intro hb h;conv=>whnf
 replace h:=Xal.elim h;obtain ⟨m1,hy,h⟩:=h
 refine XaK.q rfl rfl (XeL hy) rfl rfl rfl ?_
 conv=>whnf
 refine br.h h ?_ ?_ ?_
 ·rfl
 ·clear h;intro hb h;conv=>whnf
  refine br.h h ?_ ?_ ?_
  ·rfl
  ·clear h;intro hb h;conv=>whnf
   all_goals (cases h;exact Res.z rfl rfl rfl)
  clear h;intro hb h;conv=>whnf
  replace h:=Xal.elim h;obtain ⟨m2,hy,h⟩:=h
  refine XaK.q rfl rfl (XeL hy) rfl rfl rfl ?_
  conv=>whnf
  replace h:=Xal.elim h;obtain ⟨m3,hy,h⟩:=h
  refine XaK.q rfl rfl (XeL hy) rfl rfl rfl ?_
  conv=>whnf
  replace h:=XaJ.elim h;obtain ⟨hb,h⟩:=h
  first|(refine req.intro hb ?_;conv=>whnf)|skip
  all_goals (cases h;exact Res.z rfl rfl rfl)
 clear h;intro hb h;conv=>whnf
 replace h:=XaJ.elim h;obtain ⟨hb,h⟩:=h
 first|(refine req.intro hb ?_;conv=>whnf)|skip
 replace h:=XaJ.elim h;obtain ⟨hb,h⟩:=h
 first|(refine req.intro hb ?_;conv=>whnf)|skip
 replace h:=Xal.elim h;obtain ⟨s1,hy,h⟩:=h
 refine XaK.q rfl rfl (Xoj hy) rfl rfl rfl ?_
 conv=>whnf
 refine br.h h ?_ ?_ ?_
 ·rfl
 ·clear h;intro hb h;conv=>whnf
  all_goals (cases h;exact Res.z rfl rfl rfl)
 clear h;intro hb h;conv=>whnf
 replace h:=Xal.elim h;obtain ⟨m4,hy,h⟩:=h
 refine XaK.q rfl rfl (XeL hy) rfl rfl rfl ?_
 conv=>whnf
 replace h:=Xal.elim h;obtain ⟨m5,hy,h⟩:=h
 refine XaK.q rfl rfl (XeL hy) rfl rfl rfl ?_
 conv=>whnf
 replace h:=XaJ.elim h;obtain ⟨hb,h⟩:=h
 first|(refine req.intro hb ?_;conv=>whnf)|skip
 all_goals (cases h;exact Res.z rfl rfl rfl)
theorem ok110 (Xam:(List UInt8)→Int→Int→Option Int) (Xba:(List UInt8)→Option Int) (XaB:Xaa→Xaa→Int→Int→Option (List UInt8)) (hS:Xai Tryz.prog (Xav (XvT Xam Xba XaB))):Xar Tryz.prog 110 (s110 (Xjb Xam Xba XaB)):=by
 refine Xar.Xay Xao (fun ar os r ha hr=>?_) ⟨Tryz.f110,rfl,by decide,rfl⟩
 replace hr:r110 (Xjb Xam Xba XaB) ar (XaD os)=some r:=hr
 unfold r110 at hr
 generalize hc:XaD os=C at hr
 replace hr:=dV.elim hr;obtain ⟨v0,l1,y0,rfl,e0,hr⟩:=hr;obtain rfl:=XbH _ _ e0
 replace hr:=dV.elim hr;obtain ⟨v1,l2,y1,rfl,e1,hr⟩:=hr;obtain rfl:=Xa1 _ _ e1
 replace hr:=dV.elim hr;obtain ⟨v2,l3,y2,rfl,e2,hr⟩:=hr;obtain rfl:=Xa1 _ _ e2
 replace hr:=Xc2 hr;obtain ⟨rfl,rfl,x,h,rfl⟩:=hr
 obtain rfl:=Xas hc
 exact ⟨_,rfl,XyQ Xam Xba XaB hS _ _ _ x h⟩
def Xd2:(List UInt8)→Xaa→Xaa→Option (Xat×(List UInt8)×Int):=Xjb Xam Xba XaB
theorem XQ6:Xar Tryz.prog 110 (s110 Xd2):=ok110 Xam Xba XaB (Xai.XaW ⟨Xmn,XnC,Xnk,trivial⟩)
end Go.Vm.Code
namespace Go.Vm.Code
open Go Go.Vm
def port (n:Int):Bool:=decide (0≤n∧n≤65535)
theorem port_eq (n:Int):Xct n=some (port n):=by
 unfold Xct XhH port
 by_cases h:0≤n
 ·rw [XaS h];simp [h]
 ·rw [XaO h];simp [h]
theorem XCb (n:Int):XfJ n=some (port n):=by
 unfold XfJ Xk6 port
 by_cases h:0≤n
 ·rw [XaS (by omega)];simp [h]
 ·rw [XaO (by omega)];simp [h]
theorem XlG {n:Int}:port n=true↔0≤n∧n≤65535:=by unfold port;simp
def u8 (h:Xat) (l:List UInt8):List UInt8:=XbV h.SPort 2++XbV h.DPort 2++XbV (8+l.length) 2++[0,0]++l
theorem Xun {h:Xat} {l:List UInt8}:(u8 h l).length≤26+l.length:=by
 have l1:=XaY h.SPort 2
 have l2:=XaY h.DPort 2
 have l3:=XaY (8+l.length) 2
 unfold u8;simp only [List.length_append,List.length_cons,List.length_nil];omega
def ck8 (p t:List UInt8):Int:=if norm (Xfk (p++t))=65535 then 65535 else 65535 - (norm (Xfk (p++t)):Nat)
def Xql (h:Xat) (src dst:Xaa) (l:List UInt8):List UInt8×Int:=
 if (port h.SPort&&port h.DPort)=false then ([],1) else if Xln src dst 17 (8+l.length)=[] then ([],1) else if 65535<8+l.length then ([],5) else
  (Xpm (u8 h l) 6 2 (ck8 (Xln src dst 17 (8+l.length)) (u8 h l)),0)
theorem XOj {p t:List UInt8} (hp:p.length≤2^30) (ht:t.length≤2^30):((XaR (p++t)).bind fun xo=>cond (xo==0) ((XaC t 6 2 65535).bind fun s=>some (s,(0:Int))) ((XaC t 6 2 (wI .u64 xo)).bind fun s1=>some (s1,0)))=some (Xpm t 6 2 (ck8 p t),0):=by
 have:=norm_le (Xfk (p++t))
 rw [Xz9 (by simp only [List.length_append];omega),Option.bind_some]
 unfold ck8
 by_cases h:norm (Xfk (p++t))=65535
 ·rw [if_pos h,h]
  show ((XaC t 6 2 65535).bind _)=_
  rw [Xq6 (by omega) (by omega)];rfl
 ·rw [if_neg h,show ((65535 - ((norm (Xfk (p++t)):Nat):Int))==0)=false by simp;omega,cond_false,XeJ (by omega) (by omega),Xq6 (by omega) (by omega)];rfl
theorem Xw9 {p t:List UInt8} (hp:p.length≤2^30) (ht:t.length≤2^30):((XbP (p++t)).bind fun xo=>cond (xo==0) ((Xbm t 6 2 65535).bind fun s=>some (s,(0:Int))) ((Xbm t 6 2 (wI .u64 xo)).bind fun s1=>some (s1,0)))=some (Xpm t 6 2 (ck8 p t),0):=by
 have:=norm_le (Xfk (p++t))
 rw [XlR (by simp only [List.length_append];omega),Option.bind_some]
 unfold ck8
 by_cases h:norm (Xfk (p++t))=65535
 ·rw [if_pos h,h]
  show ((Xbm t 6 2 65535).bind _)=_
  rw [Xjq (by omega) (by omega) (by omega)];rfl
 ·rw [if_neg h,show ((65535 - ((norm (Xfk (p++t)):Nat):Int))==0)=false by simp;omega,cond_false,XeJ (by omega) (by omega),Xjq (by omega) (by omega) (by omega)];rfl
theorem XKU {h:Xat} {src dst:Xaa} {l:List UInt8} (h1:A4 src) (h2:A4 dst) (hl:l.length<2^20):Xei h src dst l=some (Xql h src dst l):=by
 unfold Xei Xi8 Xql
 rw [Xcg (n:=8+(l.length:Int)) (by omega) (by omega),Xj5 h1 h2 (by omega) (by omega),port_eq,port_eq]
 have hp:=Xhe src dst 17 (8+(l.length:Int))
 generalize Xln src dst 17 (8+(l.length:Int))=p at *
 simp only [Option.bind_some]
 cases e1:port h.SPort
 ·rfl
 cases e2:port h.DPort
 ·rfl
 simp only [Bool.not_true,cond_false,Bool.and_self]
 by_cases e3:p=[]
 ·subst e3;rfl
 rw [show (p==[])=false by simpa using e3,cond_false,if_neg (by decide),if_neg e3]
 by_cases e4:8+(l.length:Int)>65535
 ·rw [XaS e4,if_pos (by omega)]
 rw [XaO e4,if_neg (by omega)]
 have p1:=XlG.1 e1
 have p2:=XlG.1 e2
 have l1:=XaY h.SPort 2
 have l2:=XaY h.DPort 2
 have l3:=XaY (8+(l.length:Int)) 2
 rw [XeJ p1.1 (by omega),Xbq p1.1,Option.bind_some,Xaz (by omega)]
 obtain ⟨n,hn⟩:=Xo4
 rw [hn]
 have s1:XcU XaR XaC Xan h l p 1 (bI (XbV h.SPort 2))=some (.inl (2,bI (XbV h.SPort 2++XbV h.DPort 2))):=by
  unfold XcU
  rw [XaS (by omega),Xaz (by omega)]
  show ((some h.DPort).bind _)=_
  rw [Option.bind_some,XeJ p2.1 (by omega),Xbq p2.1,Option.bind_some,Xaz (by simp;omega),Xm3];rfl
 have s2:XcU XaR XaC Xan h l p 2 (bI (XbV h.SPort 2++XbV h.DPort 2))=some (.inl (3,bI (XbV h.SPort 2++XbV h.DPort 2++XbV (8+(l.length:Int)) 2))):=by
  unfold XcU
  rw [XaS (by omega),Xaz (by omega)]
  show ((some (wI .i64 (8+(l.length:Int)))).bind _)=_
  rw [Option.bind_some,Xcg (n:=8+(l.length:Int)) (by omega) (by omega),XeJ (by omega) (by omega),Xbq (by omega),Option.bind_some,Xaz (by simp;omega),Xm3 (XbV h.SPort 2++XbV h.DPort 2)];rfl
 have s3:XcU XaR XaC Xan h l p 3 (bI (XbV h.SPort 2++XbV h.DPort 2++XbV (8+(l.length:Int)) 2))=some (.inl (4,bI (XbV h.SPort 2++XbV h.DPort 2++XbV (8+(l.length:Int)) 2++[0,0]))):=by
  unfold XcU
  rw [XaS (by omega),Xaz (by omega)]
  show ((some (0:Int)).bind _)=_
  rw [Option.bind_some,XeJ (n:=0) (by omega) (by omega),Xbq (by omega),Option.bind_some,show XbV 0 2=[0,0] from rfl,Xaz (by simp;omega),Xm3 (XbV h.SPort 2++XbV h.DPort 2++XbV (8+(l.length:Int)) 2)];rfl
 have s4:XcU XaR XaC Xan h l p 4 (bI (XbV h.SPort 2++XbV h.DPort 2++XbV (8+(l.length:Int)) 2++[0,0]))=some (.inr (Xpm (u8 h l) 6 2 (ck8 p (u8 h l)),0)):=by
  unfold XcU
  have hu:=Xun (h:=h) (l:=l)
  have e:iB (bI (XbV h.SPort 2++XbV h.DPort 2++XbV (8+(l.length:Int)) 2++[0,0])++bI l)=u8 h l:=by rw [←Xm3,XAP];rfl
  rw [XaO (by omega),Xaz (by simp only [XCt,List.length_append,List.length_cons,List.length_nil];omega)]
  simp only [e]
  rw [Xaz (by simp only [XCt,List.length_append,List.length_cons,List.length_nil];omega),Xaz (by omega)]
  have:=XOj (p:=p) (t:=u8 h l) (by omega) (by omega)
  rw [Xz9 (by simp only [List.length_append];omega),Option.bind_some] at this ⊢
  cases hx:((65535 - ((norm (Xfk (p++u8 h l)):Nat):Int))==0)<;>rw [hx] at this
  ·simp only [cond_false] at this ⊢
   obtain ⟨s,a,b⟩:=Xal.elim this
   cases b
   rw [a,Option.bind_some]
  ·simp only [cond_true] at this ⊢
   obtain ⟨s,a,b⟩:=Xal.elim this
   cases b
   rw [a,Option.bind_some]
 rw [Xkg (f:=fun (st:Int×List Int)=>XcU XaR XaC Xan h l p st.1 st.2) (n:=n+7) s1,Xkg (n:=n+6) s2,Xkg (n:=n+5) s3,Xrd (n:=n+4) s4]
theorem Xy4 {h:Xat} {src dst:Xaa} {l:List UInt8} (h1:A4 src) (h2:A4 dst) (hl:l.length<2^20):Xec h src dst l=some (Xql h src dst l):=by
 unfold Xec XiY Xql
 rw [Xcg (n:=8+(l.length:Int)) (by omega) (by omega),Xi3 h1 h2 (by omega) (by omega),XCb,XCb]
 have hp:=Xhe src dst 17 (8+(l.length:Int))
 generalize Xln src dst 17 (8+(l.length:Int))=p at *
 simp only [Option.bind_some]
 cases e1:port h.SPort
 ·rfl
 cases e2:port h.DPort
 ·rfl
 simp only [Bool.not_true,cond_false,Bool.and_self]
 by_cases e3:p=[]
 ·subst e3;rfl
 rw [show (p==[])=false by simpa using e3,cond_false,if_neg (by decide),if_neg e3]
 by_cases e4:8+(l.length:Int)>65535
 ·rw [XaS e4,if_pos (by omega)]
 rw [XaO e4,if_neg (by omega)]
 have p1:=XlG.1 e1
 have p2:=XlG.1 e2
 have l1:=XaY h.SPort 2
 have l2:=XaY h.DPort 2
 have l3:=XaY (8+(l.length:Int)) 2
 have hu:=Xun (h:=h) (l:=l)
 rw [XeJ p1.1 (by omega),XeJ p2.1 (by omega),XeJ (n:=8+(l.length:Int)) (by omega) (by omega),XcP p1.1 (by omega),XcP p2.1 (by omega),XcP (n:=8+(l.length:Int)) (by omega) (by omega)]
 simp only [Option.bind_some]
 have e:XbV h.SPort 2++XbV h.DPort 2++XbV (8+(l.length:Int)) 2++[0,0]++l=u8 h l:=rfl
 rw [Xaz (by omega),Xaz (by simp only [List.length_append];omega),Xaz (by simp only [List.length_append];omega),Xaz (by simp only [List.length_append,List.length_cons,List.length_nil];omega),e,Xaz (by omega)]
 exact Xw9 (by omega) (by omega)
def v2 (s:List UInt8) (p:Nat):Int:=(Xdz ((s.drop p).take 2):Nat)
theorem Xup (s:List UInt8) (p:Nat):0≤v2 s p∧v2 s p<65536:=by
 have:=Xdh (l:=s.drop p) (k:=2) 65536 (by decide)
 unfold v2;omega
theorem Xw3 {s:List UInt8} {p:Nat} (hs:s.length<2^61) (h:p+2≤s.length):Xam s (p:Int) 2=some (v2 s p):=by
 rw [XfV hs,Xgj (by omega) (by omega) (by omega) (by omega)]
 have:=Xup s p
 show some (wI .i64 (v2 s p))=_
 rw [Xcg (by omega) (by omega)]
theorem Yad {r:Xab} (h:r.made=true) (hl:r.s.length<2^61):Xad r 2=some (rdn r 2,rdr r 2):=by
 rw [Xft h hl,if_neg (by omega)]
theorem Xnm {s:List UInt8} (h:2≤s.length) (hl:s.length<2^61):Xad ⟨s,true,false⟩ 2=some (v2 s 0,⟨s.drop 2,true,false⟩):=by
 rw [Yad rfl hl,XgY (by omega) (by omega)]
 unfold rdn
 rw [if_neg (by omega),XgX (by omega) (by omega)];rfl
theorem XJA (s:List UInt8) (p q:Nat):v2 (s.drop p) q=v2 s (p+q):=by unfold v2;rw [List.drop_drop]
def Xoy:Xat:=⟨0,0⟩
def Xha (s:List UInt8) (src dst:Xaa):Xat×List UInt8×Int:=
 if s.length<8 then (Xoy,[],2) else if v2 s 4<8 then (Xoy,[],3) else if (s.length:Int)<v2 s 4 then (Xoy,[],2) else if Xln src dst 17 (v2 s 4)=[] then (Xoy,[],1) else
  if v2 s 6=0 then (if src.V6=true then (Xoy,[],4) else (⟨v2 s 0,v2 s 2⟩,(s.drop 8).take ((v2 s 4).toNat - 8),0)) else
   if norm (Xfk (Xln src dst 17 (v2 s 4)++s.take (v2 s 4).toNat))≠65535 then (Xoy,[],4) else (⟨v2 s 0,v2 s 2⟩,(s.drop 8).take ((v2 s 4).toNat - 8),0)
theorem XJQ {s:List UInt8} {src dst:Xaa} (h1:A4 src) (h2:A4 dst) (hs:s.length<2^38):Xen s src dst=some (Xha s src dst):=by
 unfold Xen Xjc Xha
 rw [Xmv,Option.bind_some]
 by_cases h8:s.length<8
 ·rw [if_pos h8]
  have m1:=Xfp ⟨s,true,false⟩ 2
  have m2:=Xfp (rdr ⟨s,true,false⟩ 2) 2
  have m3:=Xfp (rdr (rdr ⟨s,true,false⟩ 2) 2) 2
  have m4:=Xfp (rdr (rdr (rdr ⟨s,true,false⟩ 2) 2) 2) 2
  have k1:=Xk4 ⟨s,true,false⟩ 2
  have k2:=Xk4 (rdr ⟨s,true,false⟩ 2) 2
  have k3:=Xk4 (rdr (rdr ⟨s,true,false⟩ 2) 2) 2
  simp only at k1
  rw [Yad rfl (by simp only;omega),Option.bind_some]
  rw [Yad m1 (by omega),Option.bind_some]
  rw [Yad m2 (by omega),Option.bind_some]
  rw [Yad m3 (by omega),Option.bind_some,XdQ m4,Option.bind_some]
  have hb:(rdr (rdr (rdr (rdr ⟨s,true,false⟩ 2) 2) 2) 2).bad=true:=by
   cases hb:(rdr (rdr (rdr (rdr ⟨s,true,false⟩ 2) 2) 2) 2).bad
   ·exfalso
    obtain ⟨b3,l3⟩:=Xf7 rfl hb
    obtain ⟨b2,l2⟩:=Xf7 rfl b3
    obtain ⟨b1,l1⟩:=Xf7 rfl b2
    obtain ⟨b0,l0⟩:=Xf7 rfl b1
    simp only at l0
    omega
   ·rfl
  simp only [hb,cond_true];rfl
 ·rw [if_neg h8]
  rw [Xnm (by omega) (by omega),Option.bind_some,Xnm (by simp;omega) (by simp;omega),Option.bind_some]
  simp only [List.drop_drop]
  rw [Xnm (by simp;omega) (by simp;omega),Option.bind_some]
  simp only [List.drop_drop]
  rw [Xnm (by simp;omega) (by simp;omega),Option.bind_some,XdQ rfl,Option.bind_some]
  simp only [cond_false,XJA,Nat.add_zero,Nat.reduceAdd]
  have r4:=Xup s 4
  have hp:=Xhe src dst 17 (v2 s 4)
  have hz:(⟨0,0⟩:Xat)=Xoy:=rfl
  rw [hz]
  generalize hm:v2 s 4=m at *
  by_cases g1:m<8
  ·rw [XaS g1,if_pos g1]
  rw [XaO g1,if_neg g1]
  by_cases g2:(s.length:Int)<m
  ·rw [XaS (by omega),if_pos g2]
  rw [XaO (by omega),if_neg g2,Xj5 h1 h2 (by omega) (by omega),Option.bind_some]
  generalize Xln src dst 17 m=p at *
  by_cases g3:p=[]
  ·subst g3;rw [if_pos rfl];rfl
  rw [if_neg g3,show (p==[])=false by simpa using g3,cond_false]
  have hr:XaE (p++s.take m.toNat)=some (((norm (Xfk (p++s.take m.toNat)):Nat):Int)==65535):=Xnw (by simp;omega)
  by_cases g4:v2 s 6=0
  ·rw [if_pos g4,g4]
   simp only [beq_self_eq_true,cond_true,bne_self_eq_false,cond_false]
   cases src.V6
   ·rw [if_neg (by decide),cond_false,Xaz (by omega)]
   ·rw [if_pos rfl,cond_true]
  ·rw [if_neg g4,show (v2 s 6==0)=false by simpa using g4,show (v2 s 6 !=0)=true by simpa using g4]
   simp only [cond_false,cond_true]
   rw [Xaz (by omega),Xaz (by simp only [List.length_take];omega),hr,Option.bind_some,Xaz (by omega)]
   by_cases g5:norm (Xfk (p++s.take m.toNat))=65535
   ·rw [if_neg (by simpa using g5),g5];rfl
   ·rw [if_pos (by simpa using g5),show ((((norm (Xfk (p++s.take m.toNat)):Nat):Int)==65535))=false by simp;omega];rfl
theorem XAc {s:List UInt8} {src dst:Xaa} (h1:A4 src) (h2:A4 dst) (hs:s.length<2^38):Xd2 s src dst=some (Xha s src dst):=by
 unfold Xd2 Xjb Xha
 by_cases h8:s.length<8
 ·rw [if_pos h8,XaS (by omega)];rfl
 rw [if_neg h8,XaO (by omega),show (4:Int)=((4:Nat):Int) from rfl,show (6:Int)=((6:Nat):Int) from rfl,show Xam s 0 2=Xam s ((0:Nat):Int) 2 from rfl,show Xam s 2 2=Xam s ((2:Nat):Int) 2 from rfl,Xw3 (by omega) (by omega),Xw3 (by omega) (by omega),Xw3 (by omega) (by omega),Xw3 (by omega) (by omega)]
 simp only [Option.bind_some]
 have r4:=Xup s 4
 have hp:=Xhe src dst 17 (v2 s 4)
 have hz:(⟨0,0⟩:Xat)=Xoy:=rfl
 rw [hz]
 generalize hm:v2 s 4=m at *
 by_cases g1:m<8
 ·rw [XaS g1,if_pos g1]
 rw [XaO g1,if_neg g1]
 by_cases g2:(s.length:Int)<m
 ·rw [XaS (by omega),if_pos g2]
 rw [XaO (by omega),if_neg g2,Xi3 h1 h2 (by omega) (by omega),Option.bind_some]
 generalize Xln src dst 17 m=p at *
 by_cases g3:p=[]
 ·subst g3;rw [if_pos rfl];rfl
 rw [if_neg g3,show (p==[])=false by simpa using g3,cond_false]
 by_cases g4:v2 s 6=0
 ·rw [if_pos g4,g4]
  simp only [beq_self_eq_true,cond_true]
  cases src.V6
  ·rw [if_neg (by decide),cond_false,Xaz (by omega)]
  ·rw [if_pos rfl,cond_true]
 ·rw [if_neg g4,show (v2 s 6==0)=false by simpa using g4]
  simp only [cond_false]
  rw [Xaz (by omega),Xaz (by simp only [List.length_take];omega),Xi9 (by simp;omega),Option.bind_some,Xaz (by omega)]
  by_cases g5:norm (Xfk (p++s.take m.toNat))=65535
  ·rw [if_neg (by simpa using g5),g5];rfl
  ·rw [if_pos (by simpa using g5),show ((((norm (Xfk (p++s.take m.toNat)):Nat):Int) !=65535))=true by simp;omega];rfl
end Go.Vm.Code
namespace Go.Vm.Code
open Go Go.Vm Go.Proofs
set_option maxRecDepth 100000
set_option maxHeartbeats 4000000
set_option linter.unusedVariables false
def XcG (Xae:Xab→Option (Bool×Xab)) (Xac:Xab→Int→Option ((List UInt8)×Xab)) (ra0:Xab):Option ((List UInt8)×Xab):=
 (Xae ra0).bind fun b=>
 cond (b.1)
  (
  some (([],b.2)))
  (
  (Xac b.2 (b.2.s.length:Int)).bind fun t=>
  some ((t.1,t.2)))
def XAe (x:(List UInt8)×Xab):Xca:=⟨.string ⟨⟨x.1⟩⟩,[],[some [.string ⟨⟨x.2.s⟩⟩,.bool x.2.made,.bool x.2.bad]]⟩
def r116 (g:Xab→Option ((List UInt8)×Xab)):Dec:=dPt 0 Xcs fun (y0:Xab)=>XcO (ofG (g y0) XAe)
theorem X7A {g:Xab→Option ((List UInt8)×Xab)} {y0:Xab} {x:(List UInt8)×Xab} (hx:g y0=some x):r116 g [.pointer (some ⟨0,0,none⟩)] [some [.string ⟨⟨y0.s⟩⟩,.bool y0.made,.bool y0.bad]]=some (XAe x):=(Xl2 (XdG _)).trans (Xa0 hx)
def s116 (g:Xab→Option ((List UInt8)×Xab)):Xbr:=⟨[.pt 3],r116 g⟩
theorem Xwc {g:Xab→Option ((List UInt8)×Xab)} {y0:Xab} {x:(List UInt8)×Xab} (hx:g y0=some x):(s116 g).run [.pointer (some ⟨0,0,none⟩)] [some [.string ⟨⟨y0.s⟩⟩,.bool y0.made,.bool y0.bad]]=some (XAe x):=X7A hx
abbrev Xtk (Xae:Xab→Option (Bool×Xab)) (Xac:Xab→Int→Option ((List UInt8)×Xab)):List (Nat×Xbr):=[(114,XAV Xae),(115,Xs3 Xac)]
theorem XAJ (Xae:Xab→Option (Bool×Xab)) (Xac:Xab→Int→Option ((List UInt8)×Xab)) (hS:Xai Tryz.prog (Xav (Xtk Xae Xac))) (ra0:Xab) (res:(List UInt8)×Xab) (h:XcG Xae Xac ra0=some res) :
 XaI Tryz.prog 116 1 ⟨⟨116,12,[(0,.pointer (some ⟨0,0,none⟩))],[.code XCz],[],false,none⟩,[],[(0,.cells [.string ⟨⟨ra0.s⟩⟩,.bool ra0.made,.bool ra0.bad])],1⟩ (fun v H _=>Res 1 (XAe res) v H):=by
 unfold XcG at h
 refine Xa7 Xao hS true 3000 ?_
 conv=>whnf
 replace h:=Xal.elim h;obtain ⟨b,hy,h⟩:=h
 refine XaK.Xbb [0] (Xaw (aqs:=[.pointer (some ⟨0,0,none⟩)]) (ws:=[.win 0 0 3 true]) (n:=0) (m:=0) (t':=1) (Xau rfl rfl Xbf) rfl (by rfl) (Xhl hy) rfl rfl rfl rfl (XbF rfl rfl rfl ⟨rfl,Nat.le_of_ble_eq_true rfl⟩ rfl rfl Xbe) Xbc rfl) ?_
 conv=>whnf
 refine br.h h ?_ ?_ ?_
 ·rfl
 ·clear h;intro hb h;conv=>whnf
  all_goals (cases h)
  all_goals exact Res.of [] rfl Xg3 (by decide) Xg1 (XlC (rfl) (Xb2 rfl) Xg2)
 clear h;intro hb h;conv=>whnf
 replace h:=Xal.elim h;obtain ⟨t,hy,h⟩:=h
 refine XaK.Xbb [0] (Xaw (aqs:=[.pointer (some ⟨0,0,none⟩),.int .i64 (b.2.s.length:Int)]) (ws:=[.win 0 0 3 true]) (n:=0) (m:=0) (t':=1) (Xau rfl rfl (Xau rfl rfl Xbf)) rfl (by rfl) (Xfx hy) rfl rfl rfl rfl (XbF rfl rfl rfl ⟨rfl,Nat.le_of_ble_eq_true rfl⟩ rfl rfl Xbe) Xbc rfl) ?_
 conv=>whnf
 all_goals (cases h)
 all_goals exact Res.of [] rfl Xg3 (by decide) Xg1 (XlC (rfl) (Xb2 rfl) Xg2)
theorem ok116 (Xae:Xab→Option (Bool×Xab)) (Xac:Xab→Int→Option ((List UInt8)×Xab)) (hS:Xai Tryz.prog (Xav (Xtk Xae Xac))):Xar Tryz.prog 116 (s116 (XcG Xae Xac)):=by
 refine Xar.Xay Xao (fun ar os r ha hr=>?_) ⟨Tryz.f116,rfl,by decide,rfl⟩
 replace hr:r116 (XcG Xae Xac) ar (XaD os)=some r:=hr
 unfold r116 at hr
 generalize hc:XaD os=C at hr
 have hq:=dPt.elim hr;clear hr;obtain ⟨c0,l1,C,y0,rfl,rfl,e0,hr⟩:=hq;obtain rfl:=XcQ _ _ e0
 replace hr:=Xc2 hr;obtain ⟨rfl,rfl,x,h,rfl⟩:=hr
 obtain ⟨os,rfl,ha,hc⟩:=Xc5 ha hc
 obtain rfl:=Xas hc
 exact ⟨_,rfl,XAJ Xae Xac hS _ x h⟩
def Xa2:Xab→Option ((List UInt8)×Xab):=XcG Xae Xac
theorem XED:Xar Tryz.prog 116 (s116 Xa2):=ok116 Xae Xac (Xai.XaW ⟨XkO,Xis,trivial⟩)
def Xin (Xae:Xab→Option (Bool×Xab)) (Xad:Xab→Int→Option (Int×Xab)) (Xac:Xab→Int→Option ((List UInt8)×Xab)) (ra0:Xab):Option ((List UInt8)×Int×Xab):=
 (Xad ra0 1).bind fun n=>
 (Xae n.2).bind fun b=>
 cond (!b.1)
  (
  cond (decide (n.1>20))
   (
   some (([],3,b.2)))
   (
   (Xac b.2 n.1).bind fun t=>
   (Xae t.2).bind fun b1=>
   cond (b1.1)
    (
    some (([],2,b1.2)))
    (
    some ((t.1,0,b1.2)))))
  (
  (Xac b.2 n.1).bind fun t1=>
  (Xae t1.2).bind fun b2=>
  cond (b2.1)
   (
   some (([],2,b2.2)))
   (
   some ((t1.1,0,b2.2))))
def XxY (x:(List UInt8)×Int×Xab):Xca:=⟨.tuple ⟨[.string ⟨⟨x.1⟩⟩,.int .i64 x.2.1]⟩,[],[some [.string ⟨⟨x.2.2.s⟩⟩,.bool x.2.2.made,.bool x.2.2.bad]]⟩
def r118 (g:Xab→Option ((List UInt8)×Int×Xab)):Dec:=dPt 0 Xcs fun (y0:Xab)=>XcO (ofG (g y0) XxY)
theorem Ydy {g:Xab→Option ((List UInt8)×Int×Xab)} {y0:Xab} {x:(List UInt8)×Int×Xab} (hx:g y0=some x):r118 g [.pointer (some ⟨0,0,none⟩)] [some [.string ⟨⟨y0.s⟩⟩,.bool y0.made,.bool y0.bad]]=some (XxY x):=(Xl2 (XdG _)).trans (Xa0 hx)
def s118 (g:Xab→Option ((List UInt8)×Int×Xab)):Xbr:=⟨[.pt 3],r118 g⟩
theorem Xth {g:Xab→Option ((List UInt8)×Int×Xab)} {y0:Xab} {x:(List UInt8)×Int×Xab} (hx:g y0=some x):(s118 g).run [.pointer (some ⟨0,0,none⟩)] [some [.string ⟨⟨y0.s⟩⟩,.bool y0.made,.bool y0.bad]]=some (XxY x):=Ydy hx
abbrev XtH (Xae:Xab→Option (Bool×Xab)) (Xad:Xab→Int→Option (Int×Xab)) (Xac:Xab→Int→Option ((List UInt8)×Xab)):List (Nat×Xbr):=[(114,XAV Xae),(113,Xw5 Xad),(115,Xs3 Xac)]
theorem XAB (Xae:Xab→Option (Bool×Xab)) (Xad:Xab→Int→Option (Int×Xab)) (Xac:Xab→Int→Option ((List UInt8)×Xab)) (hS:Xai Tryz.prog (Xav (XtH Xae Xad Xac))) (ra0:Xab) (res:(List UInt8)×Int×Xab) (h:Xin Xae Xad Xac ra0=some res) :
 XaI Tryz.prog 118 1 ⟨⟨118,21,[(0,.pointer (some ⟨0,0,none⟩))],[.code XuX],[],false,none⟩,[],[(0,.cells [.string ⟨⟨ra0.s⟩⟩,.bool ra0.made,.bool ra0.bad])],1⟩ (fun v H _=>Res 1 (XxY res) v H):=by
 unfold Xin at h
 refine Xa7 Xao hS true 3000 ?_
 conv=>whnf
 replace h:=Xal.elim h;obtain ⟨n,hy,h⟩:=h
 refine XaK.Xbb [0] (Xaw (aqs:=[.pointer (some ⟨0,0,none⟩),.int .i64 1]) (ws:=[.win 0 0 3 true]) (n:=0) (m:=0) (t':=1) (Xau rfl rfl (Xau rfl rfl Xbf)) rfl (by rfl) (Xcn hy) rfl rfl rfl rfl (XbF rfl rfl rfl ⟨rfl,Nat.le_of_ble_eq_true rfl⟩ rfl rfl Xbe) Xbc rfl) ?_
 conv=>whnf
 replace h:=Xal.elim h;obtain ⟨b,hy,h⟩:=h
 refine XaK.Xbb [0] (Xaw (aqs:=[.pointer (some ⟨0,0,none⟩)]) (ws:=[.win 0 0 3 true]) (n:=0) (m:=0) (t':=1) (Xau rfl rfl Xbf) rfl (by rfl) (Xhl hy) rfl rfl rfl rfl (XbF rfl rfl rfl ⟨rfl,Nat.le_of_ble_eq_true rfl⟩ rfl rfl Xbe) Xbc rfl) ?_
 conv=>whnf
 refine br.h2 h ?_ ?_ ?_
 ·rfl
 ·clear h;intro hb h;conv=>whnf
  replace h:=Xal.elim h;obtain ⟨t1,hy,h⟩:=h
  refine XaK.Xbb [0] (Xaw (aqs:=[.pointer (some ⟨0,0,none⟩),.int .i64 n.1]) (ws:=[.win 0 0 3 true]) (n:=0) (m:=0) (t':=1) (Xau rfl rfl (Xau rfl rfl Xbf)) rfl (by rfl) (Xfx hy) rfl rfl rfl rfl (XbF rfl rfl rfl ⟨rfl,Nat.le_of_ble_eq_true rfl⟩ rfl rfl Xbe) Xbc rfl) ?_
  conv=>whnf
  replace h:=Xal.elim h;obtain ⟨b2,hy,h⟩:=h
  refine XaK.Xbb [0] (Xaw (aqs:=[.pointer (some ⟨0,0,none⟩)]) (ws:=[.win 0 0 3 true]) (n:=0) (m:=0) (t':=1) (Xau rfl rfl Xbf) rfl (by rfl) (Xhl hy) rfl rfl rfl rfl (XbF rfl rfl rfl ⟨rfl,Nat.le_of_ble_eq_true rfl⟩ rfl rfl Xbe) Xbc rfl) ?_
  conv=>whnf
  refine br.h h ?_ ?_ ?_
  ·rfl
  ·clear h;intro hb h;conv=>whnf
   all_goals (cases h)
   all_goals exact Res.of [] rfl Xg3 (by decide) Xg1 (XlC (rfl) (Xb2 rfl) Xg2)
  clear h;intro hb h;conv=>whnf
  all_goals (cases h)
  all_goals exact Res.of [] rfl Xg3 (by decide) Xg1 (XlC (rfl) (Xb2 rfl) Xg2)
 clear h;intro hb h;conv=>whnf
 refine br.h h ?_ ?_ ?_
 ·rfl
 ·clear h;intro hb h;conv=>whnf
  all_goals (cases h)
  all_goals exact Res.of [] rfl Xg3 (by decide) Xg1 (XlC (rfl) (Xb2 rfl) Xg2)
 clear h;intro hb h;conv=>whnf
 replace h:=Xal.elim h;obtain ⟨t,hy,h⟩:=h
 refine XaK.Xbb [0] (Xaw (aqs:=[.pointer (some ⟨0,0,none⟩),.int .i64 n.1]) (ws:=[.win 0 0 3 true]) (n:=0) (m:=0) (t':=1) (Xau rfl rfl (Xau rfl rfl Xbf)) rfl (by rfl) (Xfx hy) rfl rfl rfl rfl (XbF rfl rfl rfl ⟨rfl,Nat.le_of_ble_eq_true rfl⟩ rfl rfl Xbe) Xbc rfl) ?_
 conv=>whnf
 replace h:=Xal.elim h;obtain ⟨b1,hy,h⟩:=h
 refine XaK.Xbb [0] (Xaw (aqs:=[.pointer (some ⟨0,0,none⟩)]) (ws:=[.win 0 0 3 true]) (n:=0) (m:=0) (t':=1) (Xau rfl rfl Xbf) rfl (by rfl) (Xhl hy) rfl rfl rfl rfl (XbF rfl rfl rfl ⟨rfl,Nat.le_of_ble_eq_true rfl⟩ rfl rfl Xbe) Xbc rfl) ?_
 conv=>whnf
 refine br.h h ?_ ?_ ?_
 ·rfl
 ·clear h;intro hb h;conv=>whnf
  all_goals (cases h)
  all_goals exact Res.of [] rfl Xg3 (by decide) Xg1 (XlC (rfl) (Xb2 rfl) Xg2)
 clear h;intro hb h;conv=>whnf
 all_goals (cases h)
 all_goals exact Res.of [] rfl Xg3 (by decide) Xg1 (XlC (rfl) (Xb2 rfl) Xg2)
theorem ok118 (Xae:Xab→Option (Bool×Xab)) (Xad:Xab→Int→Option (Int×Xab)) (Xac:Xab→Int→Option ((List UInt8)×Xab)) (hS:Xai Tryz.prog (Xav (XtH Xae Xad Xac))):Xar Tryz.prog 118 (s118 (Xin Xae Xad Xac)):=by
 refine Xar.Xay Xao (fun ar os r ha hr=>?_) ⟨Tryz.f118,rfl,by decide,rfl⟩
 replace hr:r118 (Xin Xae Xad Xac) ar (XaD os)=some r:=hr
 unfold r118 at hr
 generalize hc:XaD os=C at hr
 have hq:=dPt.elim hr;clear hr;obtain ⟨c0,l1,C,y0,rfl,rfl,e0,hr⟩:=hq;obtain rfl:=XcQ _ _ e0
 replace hr:=Xc2 hr;obtain ⟨rfl,rfl,x,h,rfl⟩:=hr
 obtain ⟨os,rfl,ha,hc⟩:=Xc5 ha hc
 obtain rfl:=Xas hc
 exact ⟨_,rfl,XAB Xae Xad Xac hS _ x h⟩
def Xdn:Xab→Option ((List UInt8)×Int×Xab):=Xin Xae Xad Xac
theorem XG0:Xar Tryz.prog 118 (s118 Xdn):=ok118 Xae Xad Xac (Xai.XaW ⟨XkO,Xk7,Xis,trivial⟩)
def XhO (XaA:(List UInt8)→Option Xab) (Xae:Xab→Option (Bool×Xab)) (Xad:Xab→Int→Option (Int×Xab)) (Xa2:Xab→Option ((List UInt8)×Xab)) (Xac:Xab→Int→Option ((List UInt8)×Xab)) (Xdn:Xab→Option ((List UInt8)×Int×Xab)) (s:List UInt8):Option (XaQ×Int):=
 (XaA s).bind fun n=>
 (Xad n 1).bind fun n1=>
 (Xae n1.2).bind fun b=>
 cond (b.1)
  (
  some ((XaQ.mk false 0 0 [] [] [],2)))
  (
  cond ((Xjr .i64 n1.1 64)==0)
   (
   some ((XaQ.mk false 0 0 [] [] [],3)))
   (
   cond (!((Xjr .i64 n1.1 128) !=0))
    (
    (Xac b.2 8).bind fun t=>
    (Xae t.2).bind fun b1=>
    cond (b1.1)
     (
     some ((XaQ.mk false 0 0 [] [] [],2)))
     (
     (Xa2 b1.2).bind fun xr=>
     some ((XaQ.mk ((Xjr .i64 n1.1 128) !=0) (Xjr .i64 n1.1 63) 0 t.1 [] xr.1,0))))
    (
    (Xad b.2 4).bind fun n2=>
    (Xdn n2.2).bind fun i=>
    cond (i.2.1 !=0)
     (
     some ((XaQ.mk false 0 0 [] [] [],i.2.1)))
     (
     (Xdn i.2.2).bind fun i1=>
     cond (i1.2.1 !=0)
      (
      some ((XaQ.mk false 0 0 [] [] [],i1.2.1)))
      (
      (Xa2 i1.2.2).bind fun xr1=>
      some ((XaQ.mk ((Xjr .i64 n1.1 128) !=0) (Xjr .i64 n1.1 63) (wI .u32 n2.1) i.1 i1.1 xr1.1,0)))))))
def rx69 (x:XaQ×Int):Xca:=⟨.tuple ⟨[.agg ⟨[.bool x.1.Long,.int .i64 x.1.Bits,.int .u32 x.1.Version,.string ⟨⟨x.1.DCID⟩⟩,.string ⟨⟨x.1.SCID⟩⟩,.string ⟨⟨x.1.Rest⟩⟩]⟩,.int .i64 x.2]⟩,[],[]⟩
def r69 (g:(List UInt8)→Option (XaQ×Int)):Dec:=dV asS fun (y0:List UInt8)=>XcO (ofG (g y0) rx69)
theorem r69_c {g:(List UInt8)→Option (XaQ×Int)} {y0:List UInt8} {x:XaQ×Int} (hx:g y0=some x):r69 g [.string ⟨⟨y0⟩⟩] []=some (rx69 x):=(XaT (Xcp)).trans (Xa0 hx)
def s69 (g:(List UInt8)→Option (XaQ×Int)):Xbr:=⟨[.v],r69 g⟩
theorem XVl {g:(List UInt8)→Option (XaQ×Int)} {y0:List UInt8} {x:XaQ×Int} (hx:g y0=some x):(s69 g).run [.string ⟨⟨y0⟩⟩] []=some (rx69 x):=r69_c hx
abbrev XDc (XaA:(List UInt8)→Option Xab) (Xae:Xab→Option (Bool×Xab)) (Xad:Xab→Int→Option (Int×Xab)) (Xa2:Xab→Option ((List UInt8)×Xab)) (Xac:Xab→Int→Option ((List UInt8)×Xab)) (Xdn:Xab→Option ((List UInt8)×Int×Xab)):List (Nat×Xbr):=[(112,XBv XaA),(114,XAV Xae),(113,Xw5 Xad),(116,s116 Xa2),(115,Xs3 Xac),(118,s118 Xdn)]
theorem XPP (XaA:(List UInt8)→Option Xab) (Xae:Xab→Option (Bool×Xab)) (Xad:Xab→Int→Option (Int×Xab)) (Xa2:Xab→Option ((List UInt8)×Xab)) (Xac:Xab→Int→Option ((List UInt8)×Xab)) (Xdn:Xab→Option ((List UInt8)×Int×Xab)) (hS:Xai Tryz.prog (Xav (XDc XaA Xae Xad Xa2 Xac Xdn))) (s:List UInt8) (res:XaQ×Int) (h:XhO XaA Xae Xad Xa2 Xac Xdn s=some res) :
 XaI Tryz.prog 69 0 ⟨⟨69,60,[(0,.string ⟨⟨s⟩⟩)],[.code XB3],[],false,none⟩,[],[],0⟩ (fun v H _=>Res 0 (rx69 res) v H):=by
 unfold XhO at h
 refine Xa7 Xao hS true 3000 ?_
 conv=>whnf
 replace h:=Xal.elim h;obtain ⟨n,hy,h⟩:=h
 refine XaK.Xbb [1] (Xaw (aqs:=[.string ⟨⟨s⟩⟩]) (ws:=[]) (n:=1) (m:=0) (t':=2) (Xau rfl rfl Xbf) rfl (by rfl) (Xmi hy) rfl rfl rfl rfl Xbe (Xho (rfl) Xbc) rfl) ?_
 conv=>whnf
 replace h:=Xal.elim h;obtain ⟨n1,hy,h⟩:=h
 refine XaK.Xbb [1] (Xaw (aqs:=[.pointer (some ⟨0,0,none⟩),.int .i64 1]) (ws:=[.win 1 0 3 true]) (n:=0) (m:=0) (t':=2) (Xau rfl rfl (Xau rfl rfl Xbf)) rfl (by rfl) (Xcn hy) rfl rfl rfl rfl (XbF rfl rfl rfl ⟨rfl,Nat.le_of_ble_eq_true rfl⟩ rfl rfl Xbe) Xbc rfl) ?_
 conv=>whnf
 replace h:=Xal.elim h;obtain ⟨b,hy,h⟩:=h
 refine XaK.Xbb [1] (Xaw (aqs:=[.pointer (some ⟨0,0,none⟩)]) (ws:=[.win 1 0 3 true]) (n:=0) (m:=0) (t':=2) (Xau rfl rfl Xbf) rfl (by rfl) (Xhl hy) rfl rfl rfl rfl (XbF rfl rfl rfl ⟨rfl,Nat.le_of_ble_eq_true rfl⟩ rfl rfl Xbe) Xbc rfl) ?_
 conv=>whnf
 refine br.h h ?_ ?_ ?_
 ·rfl
 ·clear h;intro hb h;conv=>whnf
  all_goals (cases h;exact Res.z rfl rfl rfl)
 clear h;intro hb h;conv=>whnf
 refine br.h h ?_ ?_ ?_
 ·rfl
 ·clear h;intro hb h;conv=>whnf
  all_goals (cases h;exact Res.z rfl rfl rfl)
 clear h;intro hb h;conv=>whnf
 refine br.h h ?_ ?_ ?_
 ·rfl
 ·clear h;intro hb h;conv=>whnf
  replace h:=Xal.elim h;obtain ⟨t,hy,h⟩:=h
  refine XaK.Xbb [1] (Xaw (aqs:=[.pointer (some ⟨0,0,none⟩),.int .i64 8]) (ws:=[.win 1 0 3 true]) (n:=0) (m:=0) (t':=3) (Xau rfl rfl (Xau rfl rfl Xbf)) rfl (by rfl) (Xfx hy) rfl rfl rfl rfl (XbF rfl rfl rfl ⟨rfl,Nat.le_of_ble_eq_true rfl⟩ rfl rfl Xbe) Xbc rfl) ?_
  conv=>whnf
  replace h:=Xal.elim h;obtain ⟨b1,hy,h⟩:=h
  refine XaK.Xbb [1] (Xaw (aqs:=[.pointer (some ⟨0,0,none⟩)]) (ws:=[.win 1 0 3 true]) (n:=0) (m:=0) (t':=3) (Xau rfl rfl Xbf) rfl (by rfl) (Xhl hy) rfl rfl rfl rfl (XbF rfl rfl rfl ⟨rfl,Nat.le_of_ble_eq_true rfl⟩ rfl rfl Xbe) Xbc rfl) ?_
  conv=>whnf
  refine br.h h ?_ ?_ ?_
  ·rfl
  ·clear h;intro hb h;conv=>whnf
   all_goals (cases h;exact Res.z rfl rfl rfl)
  clear h;intro hb h;conv=>whnf
  replace h:=Xal.elim h;obtain ⟨xr,hy,h⟩:=h
  refine XaK.Xbb [1] (Xaw (aqs:=[.pointer (some ⟨0,0,none⟩)]) (ws:=[.win 1 0 3 true]) (n:=0) (m:=0) (t':=3) (Xau rfl rfl Xbf) rfl (by rfl) (Xwc hy) rfl rfl rfl rfl (XbF rfl rfl rfl ⟨rfl,Nat.le_of_ble_eq_true rfl⟩ rfl rfl Xbe) Xbc rfl) ?_
  conv=>whnf
  all_goals (cases h;exact Res.z rfl rfl rfl)
 clear h;intro hb h;conv=>whnf
 replace h:=Xal.elim h;obtain ⟨n2,hy,h⟩:=h
 refine XaK.Xbb [1] (Xaw (aqs:=[.pointer (some ⟨0,0,none⟩),.int .i64 4]) (ws:=[.win 1 0 3 true]) (n:=0) (m:=0) (t':=3) (Xau rfl rfl (Xau rfl rfl Xbf)) rfl (by rfl) (Xcn hy) rfl rfl rfl rfl (XbF rfl rfl rfl ⟨rfl,Nat.le_of_ble_eq_true rfl⟩ rfl rfl Xbe) Xbc rfl) ?_
 conv=>whnf
 refine Xa7 Xao hS true 3000 ?_
 conv=>whnf
 replace h:=Xal.elim h;obtain ⟨i,hy,h⟩:=h
 refine XaK.Xbb [1] (Xaw (aqs:=[.pointer (some ⟨0,0,none⟩)]) (ws:=[.win 1 0 3 true]) (n:=0) (m:=0) (t':=4) (Xau rfl rfl Xbf) rfl (by rfl) (Xth hy) rfl rfl rfl rfl (XbF rfl rfl rfl ⟨rfl,Nat.le_of_ble_eq_true rfl⟩ rfl rfl Xbe) Xbc rfl) ?_
 conv=>whnf
 refine br.h h ?_ ?_ ?_
 ·rfl
 ·clear h;intro hb h;conv=>whnf
  refine br.pos ?_ ?_;(focus (clear h;first|assumption|(simp_all;done)))
  conv=>whnf
  all_goals (cases h;exact Res.z rfl rfl rfl)
 clear h;intro hb h;conv=>whnf
 refine Xa7 Xao hS true 3000 ?_
 conv=>whnf
 replace h:=Xal.elim h;obtain ⟨i1,hy,h⟩:=h
 refine XaK.Xbb [1] (Xaw (aqs:=[.pointer (some ⟨0,0,none⟩)]) (ws:=[.win 1 0 3 true]) (n:=0) (m:=0) (t':=4) (Xau rfl rfl Xbf) rfl (by rfl) (Xth hy) rfl rfl rfl rfl (XbF rfl rfl rfl ⟨rfl,Nat.le_of_ble_eq_true rfl⟩ rfl rfl Xbe) Xbc rfl) ?_
 conv=>whnf
 refine br.h h ?_ ?_ ?_
 ·rfl
 ·clear h;intro hb h;conv=>whnf
  refine br.pos ?_ ?_;(focus (clear h;first|assumption|(simp_all;done)))
  conv=>whnf
  all_goals (cases h;exact Res.z rfl rfl rfl)
 clear h;intro hb h;conv=>whnf
 refine Xa7 Xao hS true 3000 ?_
 conv=>whnf
 replace h:=Xal.elim h;obtain ⟨xr1,hy,h⟩:=h
 refine XaK.Xbb [1] (Xaw (aqs:=[.pointer (some ⟨0,0,none⟩)]) (ws:=[.win 1 0 3 true]) (n:=0) (m:=0) (t':=4) (Xau rfl rfl Xbf) rfl (by rfl) (Xwc hy) rfl rfl rfl rfl (XbF rfl rfl rfl ⟨rfl,Nat.le_of_ble_eq_true rfl⟩ rfl rfl Xbe) Xbc rfl) ?_
 conv=>whnf
 all_goals (cases h;exact Res.z rfl rfl rfl)
theorem ok69 (XaA:(List UInt8)→Option Xab) (Xae:Xab→Option (Bool×Xab)) (Xad:Xab→Int→Option (Int×Xab)) (Xa2:Xab→Option ((List UInt8)×Xab)) (Xac:Xab→Int→Option ((List UInt8)×Xab)) (Xdn:Xab→Option ((List UInt8)×Int×Xab)) (hS:Xai Tryz.prog (Xav (XDc XaA Xae Xad Xa2 Xac Xdn))):Xar Tryz.prog 69 (s69 (XhO XaA Xae Xad Xa2 Xac Xdn)):=by
 refine Xar.Xay Xao (fun ar os r ha hr=>?_) ⟨Tryz.f69,rfl,by decide,rfl⟩
 replace hr:r69 (XhO XaA Xae Xad Xa2 Xac Xdn) ar (XaD os)=some r:=hr
 unfold r69 at hr
 generalize hc:XaD os=C at hr
 replace hr:=dV.elim hr;obtain ⟨v0,l1,y0,rfl,e0,hr⟩:=hr;obtain rfl:=XbH _ _ e0
 replace hr:=Xc2 hr;obtain ⟨rfl,rfl,x,h,rfl⟩:=hr
 obtain rfl:=Xas hc
 exact ⟨_,rfl,XPP XaA Xae Xad Xa2 Xac Xdn hS _ x h⟩
def Xdd:(List UInt8)→Option (XaQ×Int):=XhO XaA Xae Xad Xa2 Xac Xdn
theorem X45:Xar Tryz.prog 69 (s69 Xdd):=ok69 XaA Xae Xad Xa2 Xac Xdn (Xai.XaW ⟨XlZ,XkO,Xk7,XED,Xis,XG0,trivial⟩)
def Xk1 (s:List UInt8) (ata1:Int):Option ((List UInt8)×Int×Int):=
 cond (decide (ata1≥(s.length:Int)))
  (
  some (([],2,0)))
  (
  XaJ (decide (0≤ata1)) <|
  (s[ata1.toNat]?).bind fun (b:UInt8)=>
  cond (decide ((wI .i64 (b.toNat:Int))>20))
   (
   some (([],3,0)))
   (
   let t:=wI .i64 ((wI .i64 ((s.length:Int) - ata1)) - 1)
   cond (decide ((wI .i64 (b.toNat:Int))>t))
    (
    some (([],2,0)))
    (
    let t1:=wI .i64 ((wI .i64 (ata1+1))+(wI .i64 (b.toNat:Int)))
    XaJ (decide ((0:Int)≤t1∧t1≤(s.length:Int)∧(0:Int)≤(wI .i64 (ata1+1))∧(wI .i64 (ata1+1))≤(t1.toNat:Int))) <|
    let t2:=(s.drop (wI .i64 (ata1+1)).toNat).take (t1.toNat - (wI .i64 (ata1+1)).toNat)
    let t3:=wI .i64 ((wI .i64 (ata1+1))+(wI .i64 (b.toNat:Int)))
    some ((t2,0,t3)))))
def rx75 (x:(List UInt8)×Int×Int):Xca:=⟨.tuple ⟨[.string ⟨⟨x.1⟩⟩,.int .i64 x.2.1,.int .i64 x.2.2]⟩,[],[]⟩
def r75 (g:(List UInt8)→Int→Option ((List UInt8)×Int×Int)):Dec:=dV asS fun (y0:List UInt8)=>dV (asI .i64) fun (y1:Int)=>XcO (ofG (g y0 y1) rx75)
theorem r75_c {g:(List UInt8)→Int→Option ((List UInt8)×Int×Int)} {y0:List UInt8} {y1:Int} {x:(List UInt8)×Int×Int} (hx:g y0 y1=some x):r75 g [.string ⟨⟨y0⟩⟩,.int .i64 y1] []=some (rx75 x):=(XaT (Xcp)).trans ((XaT (Xc3 _)).trans (Xa0 hx))
def s75 (g:(List UInt8)→Int→Option ((List UInt8)×Int×Int)):Xbr:=⟨[.v,.v],r75 g⟩
theorem XDo {g:(List UInt8)→Int→Option ((List UInt8)×Int×Int)} {y0:List UInt8} {y1:Int} {x:(List UInt8)×Int×Int} (hx:g y0 y1=some x):(s75 g).run [.string ⟨⟨y0⟩⟩,.int .i64 y1] []=some (rx75 x):=r75_c hx
abbrev XC3:List (Nat×Xbr):=[]
theorem XEs (hS:Xai Tryz.prog (Xav (XC3))) (s:List UInt8) (ata1:Int) (res:(List UInt8)×Int×Int) (h:Xk1 s ata1=some res) :
 XaI Tryz.prog 75 0 ⟨⟨75,37,[(0,.string ⟨⟨s⟩⟩),(1,.int .i64 ata1)],[.code XDq],[],false,none⟩,[],[],0⟩ (fun v H _=>Res 0 (rx75 res) v H):=by
 unfold Xk1 at h
 refine Xa7 Xao hS true 3000 ?_
 conv=>whnf
 refine br.h h ?_ ?_ ?_
 ·rfl
 ·clear h;intro hb h;conv=>whnf
  all_goals (cases h;exact Res.z rfl rfl rfl)
 clear h;intro hb h;conv=>whnf
 replace h:=XaJ.elim h;obtain ⟨hb,h⟩:=h
 first|(refine req.intro hb ?_;conv=>whnf)|skip
 replace h:=Xal.elim h;obtain ⟨b,hy,h⟩:=h
 refine rdS.intro hy ?_
 conv=>whnf
 refine br.h h ?_ ?_ ?_
 ·rfl
 ·clear h;intro hb h;conv=>whnf
  all_goals (cases h;exact Res.z rfl rfl rfl)
 clear h;intro hb h;conv=>whnf
 let t:Int:=wI .i64 ((wI .i64 ((s.length:Int) - ata1)) - 1)
 refine br.h h ?_ ?_ ?_
 ·rfl
 ·clear h;intro hb h;conv=>whnf
  all_goals (cases h;exact Res.z rfl rfl rfl)
 clear h;intro hb h;conv=>whnf
 let t1:Int:=wI .i64 ((wI .i64 (ata1+1))+(wI .i64 (b.toNat:Int)))
 replace h:=XaJ.elim h;obtain ⟨hb,h⟩:=h
 first|(refine req.intro hb ?_;conv=>whnf)|skip
 let t2:List UInt8:=(s.drop (wI .i64 (ata1+1)).toNat).take (t1.toNat - (wI .i64 (ata1+1)).toNat)
 let t3:Int:=wI .i64 ((wI .i64 (ata1+1))+(wI .i64 (b.toNat:Int)))
 all_goals (cases h;exact Res.z rfl rfl rfl)
theorem ok75 (hS:Xai Tryz.prog (Xav (XC3))):Xar Tryz.prog 75 (s75 (Xk1)):=by
 refine Xar.Xay Xao (fun ar os r ha hr=>?_) ⟨Tryz.f75,rfl,by decide,rfl⟩
 replace hr:r75 (Xk1) ar (XaD os)=some r:=hr
 unfold r75 at hr
 generalize hc:XaD os=C at hr
 replace hr:=dV.elim hr;obtain ⟨v0,l1,y0,rfl,e0,hr⟩:=hr;obtain rfl:=XbH _ _ e0
 replace hr:=dV.elim hr;obtain ⟨v1,l2,y1,rfl,e1,hr⟩:=hr;obtain rfl:=XbS _ _ _ e1
 replace hr:=Xc2 hr;obtain ⟨rfl,rfl,x,h,rfl⟩:=hr
 obtain rfl:=Xas hc
 exact ⟨_,rfl,XEs hS _ _ x h⟩
def XfI:(List UInt8)→Int→Option ((List UInt8)×Int×Int):=Xk1
theorem X0J:Xar Tryz.prog 75 (s75 XfI):=ok75 (Xai.XaW trivial)
def Xjf (Xam:(List UInt8)→Int→Int→Option Int) (XfI:(List UInt8)→Int→Option ((List UInt8)×Int×Int)) (s:List UInt8):Option (XaQ×Int):=
 cond (s==[])
  (
  some ((XaQ.mk false 0 0 [] [] [],2)))
  (
  (s[0]?).bind fun (b:UInt8)=>
  let t:=(wI .u8 ((b.toNat:Int).tdiv 64)).tmod 2
  cond (t==0)
   (
   some ((XaQ.mk false 0 0 [] [] [],3)))
   (
   (s[0]?).bind fun (b1:UInt8)=>
   (s[0]?).bind fun (b2:UInt8)=>
   cond (!(decide ((b1.toNat:Int)≥128)))
    (
    cond (decide ((s.length:Int)<9))
     (
     some ((XaQ.mk false 0 0 [] [] [],2)))
     (
     XaJ (decide ((0:Int)≤(9:Int)∧(9:Int)≤(s.length:Int)∧(0:Int)≤(1:Int)∧(1:Int)≤(9:Int))) <|
     XaJ (decide ((0:Int)≤(9:Int)∧(9:Int)≤(s.length:Int))) <|
     some ((XaQ.mk (decide ((b1.toNat:Int)≥128)) (wI .i64 ((b2.toNat:Int).tmod 64)) 0 ((s.drop 1).take 8) [] ((s.drop 9).take (s.length - 9)),0))))
    (
    cond (decide ((s.length:Int)<5))
     (
     some ((XaQ.mk false 0 0 [] [] [],2)))
     (
     (Xam s 1 4).bind fun m=>
     (XfI s 5).bind fun i=>
     cond (i.2.1 !=0)
      (
      some ((XaQ.mk false 0 0 [] [] [],i.2.1)))
      (
      (XfI s i.2.2).bind fun i1=>
      cond (i1.2.1 !=0)
       (
       some ((XaQ.mk false 0 0 [] [] [],i1.2.1)))
       (
       XaJ (decide ((0:Int)≤i1.2.2∧i1.2.2≤(s.length:Int))) <|
       let t1:=(s.drop i1.2.2.toNat).take (s.length - i1.2.2.toNat)
       some ((XaQ.mk (decide ((b1.toNat:Int)≥128)) (wI .i64 ((b2.toNat:Int).tmod 64)) (wI .u32 m) i.1 i1.1 t1,0))))))))
def rx18 (x:XaQ×Int):Xca:=⟨.tuple ⟨[.agg ⟨[.bool x.1.Long,.int .i64 x.1.Bits,.int .u32 x.1.Version,.string ⟨⟨x.1.DCID⟩⟩,.string ⟨⟨x.1.SCID⟩⟩,.string ⟨⟨x.1.Rest⟩⟩]⟩,.int .i64 x.2]⟩,[],[]⟩
def r18 (g:(List UInt8)→Option (XaQ×Int)):Dec:=dV asS fun (y0:List UInt8)=>XcO (ofG (g y0) rx18)
theorem r18_c {g:(List UInt8)→Option (XaQ×Int)} {y0:List UInt8} {x:XaQ×Int} (hx:g y0=some x):r18 g [.string ⟨⟨y0⟩⟩] []=some (rx18 x):=(XaT (Xcp)).trans (Xa0 hx)
def s18 (g:(List UInt8)→Option (XaQ×Int)):Xbr:=⟨[.v],r18 g⟩
theorem X1c {g:(List UInt8)→Option (XaQ×Int)} {y0:List UInt8} {x:XaQ×Int} (hx:g y0=some x):(s18 g).run [.string ⟨⟨y0⟩⟩] []=some (rx18 x):=r18_c hx
abbrev XDp (Xam:(List UInt8)→Int→Int→Option Int) (XfI:(List UInt8)→Int→Option ((List UInt8)×Int×Int)):List (Nat×Xbr):=[(74,s74 Xam),(75,s75 XfI)]
theorem XJv (Xam:(List UInt8)→Int→Int→Option Int) (XfI:(List UInt8)→Int→Option ((List UInt8)×Int×Int)) (hS:Xai Tryz.prog (Xav (XDp Xam XfI))) (s:List UInt8) (res:XaQ×Int) (h:Xjf Xam XfI s=some res) :
 XaI Tryz.prog 18 0 ⟨⟨18,79,[(0,.string ⟨⟨s⟩⟩)],[.code XDi],[],false,none⟩,[],[],0⟩ (fun v H _=>Res 0 (rx18 res) v H):=by
 unfold Xjf at h
 refine Xa7 Xao hS true 3000 ?_
 conv=>whnf
 refine br.h h ?_ ?_ ?_
 ·rfl
 ·clear h;intro hb h;conv=>whnf
  all_goals (cases h;exact Res.z rfl rfl rfl)
 clear h;intro hb h;conv=>whnf
 replace h:=Xal.elim h;obtain ⟨b,hy,h⟩:=h
 refine rdS.intro hy ?_
 conv=>whnf
 let t:Int:=(wI .u8 ((b.toNat:Int).tdiv 64)).tmod 2
 refine br.h h ?_ ?_ ?_
 ·rfl
 ·clear h;intro hb h;conv=>whnf
  all_goals (cases h;exact Res.z rfl rfl rfl)
 clear h;intro hb h;conv=>whnf
 replace h:=Xal.elim h;obtain ⟨b1,hy,h⟩:=h
 refine rdS.intro hy ?_
 conv=>whnf
 replace h:=Xal.elim h;obtain ⟨b2,hy,h⟩:=h
 refine rdS.intro hy ?_
 conv=>whnf
 refine br.h h ?_ ?_ ?_
 ·rfl
 ·clear h;intro hb h;conv=>whnf
  refine br.h h ?_ ?_ ?_
  ·rfl
  ·clear h;intro hb h;conv=>whnf
   all_goals (cases h;exact Res.z rfl rfl rfl)
  clear h;intro hb h;conv=>whnf
  replace h:=XaJ.elim h;obtain ⟨hb,h⟩:=h
  first|(refine req.intro hb ?_;conv=>whnf)|skip
  replace h:=XaJ.elim h;obtain ⟨hb,h⟩:=h
  first|(refine req.intro hb ?_;conv=>whnf)|skip
  all_goals (cases h;exact Res.z rfl rfl rfl)
 clear h;intro hb h;conv=>whnf
 refine br.h h ?_ ?_ ?_
 ·rfl
 ·clear h;intro hb h;conv=>whnf
  all_goals (cases h;exact Res.z rfl rfl rfl)
 clear h;intro hb h;conv=>whnf
 replace h:=Xal.elim h;obtain ⟨m,hy,h⟩:=h
 refine XaK.q rfl rfl (XeL hy) rfl rfl rfl ?_
 conv=>whnf
 replace h:=Xal.elim h;obtain ⟨i,hy,h⟩:=h
 refine XaK.q rfl rfl (XDo hy) rfl rfl rfl ?_
 conv=>whnf
 refine br.h h ?_ ?_ ?_
 ·rfl
 ·clear h;intro hb h;conv=>whnf
  all_goals (cases h;exact Res.z rfl rfl rfl)
 clear h;intro hb h;conv=>whnf
 replace h:=Xal.elim h;obtain ⟨i1,hy,h⟩:=h
 refine XaK.q rfl rfl (XDo hy) rfl rfl rfl ?_
 conv=>whnf
 refine br.h h ?_ ?_ ?_
 ·rfl
 ·clear h;intro hb h;conv=>whnf
  all_goals (cases h;exact Res.z rfl rfl rfl)
 clear h;intro hb h;conv=>whnf
 replace h:=XaJ.elim h;obtain ⟨hb,h⟩:=h
 first|(refine req.intro hb ?_;conv=>whnf)|skip
 let t1:List UInt8:=(s.drop i1.2.2.toNat).take (s.length - i1.2.2.toNat)
 all_goals (cases h;exact Res.z rfl rfl rfl)
theorem ok18 (Xam:(List UInt8)→Int→Int→Option Int) (XfI:(List UInt8)→Int→Option ((List UInt8)×Int×Int)) (hS:Xai Tryz.prog (Xav (XDp Xam XfI))):Xar Tryz.prog 18 (s18 (Xjf Xam XfI)):=by
 refine Xar.Xay Xao (fun ar os r ha hr=>?_) ⟨Tryz.f18,rfl,by decide,rfl⟩
 replace hr:r18 (Xjf Xam XfI) ar (XaD os)=some r:=hr
 unfold r18 at hr
 generalize hc:XaD os=C at hr
 replace hr:=dV.elim hr;obtain ⟨v0,l1,y0,rfl,e0,hr⟩:=hr;obtain rfl:=XbH _ _ e0
 replace hr:=Xc2 hr;obtain ⟨rfl,rfl,x,h,rfl⟩:=hr
 obtain rfl:=Xas hc
 exact ⟨_,rfl,XJv Xam XfI hS _ x h⟩
def Xeb:(List UInt8)→Option (XaQ×Int):=Xjf Xam XfI
theorem Yc8:Xar Tryz.prog 18 (s18 Xeb):=ok18 Xam XfI (Xai.XaW ⟨Xmn,X0J,trivial⟩)
end Go.Vm.Code
namespace Go.Vm.Code
open Go Go.Vm
def XrP:XaQ:=⟨false,0,0,[],[],[]⟩
def idS (s:List UInt8) (p:Nat):List UInt8×Int×Nat:=
 if s.length≤p then ([],2,0) else if 20<b1 s p then ([],3,0) else if s.length<p+1+b1 s p then ([],2,0) else ((s.drop (p+1)).take (b1 s p),0,p+1+b1 s p)
theorem XC0 {s:List UInt8} {p:Nat} (h:s.length<2^38):XfI s (p:Int)=some ((idS s p).1,(idS s p).2.1,(((idS s p).2.2:Nat):Int)):=by
 unfold XfI Xk1 idS
 by_cases h1:s.length≤p
 ·rw [XaS (by omega),if_pos h1];rfl
 have e1:s[(p:Int).toNat]?=some (s[p]'(by omega)):=by rw [Int.toNat_natCast];exact List.getElem?_eq_getElem (by omega)
 have hb:=XwR s p
 rw [XaO (by omega),if_neg h1,Xaz (by omega),e1,Option.bind_some,←XBt (by omega),Xcg (n:=((b1 s p:Nat):Int)) (by omega) (by omega)]
 by_cases h2:20<b1 s p
 ·rw [XaS (by omega),if_pos h2];rfl
 rw [XaO (by omega),if_neg h2,Xcg (n:=(s.length:Int) - p) (by omega) (by omega),Xcg (by omega) (by omega),Xcg (n:=(p:Int)+1) (by omega) (by omega),Xcg (n:=(p:Int)+1+((b1 s p:Nat):Int)) (by omega) (by omega)]
 simp only []
 by_cases h3:s.length<p+1+b1 s p
 ·rw [XaS (by omega),if_pos h3];rfl
 rw [XaO (by omega),if_neg h3,Xaz (by omega)]
 have f1:((p:Int)+1).toNat=p+1:=by omega
 have f2:((p:Int)+1+((b1 s p:Nat):Int)).toNat - (p+1)=b1 s p:=by omega
 rw [f1,f2]
 simp
theorem i17:(if (1:Int)<1∨(1:Int)>7 then -1 else 1:Int)=1:=by decide
theorem i47:(if (4:Int)<1∨(4:Int)>7 then -1 else 4:Int)=4:=by decide
theorem XlY (s:List UInt8) (k:Int):rdr ⟨s,true,true⟩ k=⟨s,true,true⟩:=by unfold rdr;rw [if_pos (.inl rfl)]
theorem XMA (s:List UInt8) (h:s.length<2^38):Xdn ⟨s,true,true⟩=some ([],2,⟨s,true,true⟩):=by
 unfold Xdn Xin
 rw [Xft rfl (by simp only [];omega),Option.bind_some]
 simp only [XlY]
 rw [XdQ rfl,Option.bind_some]
 simp only [Bool.not_true,cond_false]
 rw [XeB rfl,Option.bind_some]
 simp only [XlY]
 rw [XdQ rfl,Option.bind_some]
 rfl
theorem XBp {s:List UInt8} {p:Nat} (h:s.length<2^38):∃ r,Xdn ⟨s.drop p,true,false⟩=some ((idS s p).1,(idS s p).2.1,r)∧((idS s p).2.1=0→r=⟨s.drop (idS s p).2.2,true,false⟩):=by
 have hb:=XwR s p
 have ld:(s.drop p).length=s.length - p:=List.length_drop ..
 unfold Xdn Xin idS
 rw [Xft rfl (by simp only [];omega),Option.bind_some]
 simp only [rdn,i17]
 by_cases h1:s.length≤p
 ·have hr:rdr ⟨s.drop p,true,false⟩ 1=⟨s.drop p,true,true⟩:=by unfold rdr;rw [if_pos (.inr (.inr (by simp only [];omega)))]
  rw [if_pos h1,hr,XdQ rfl,Option.bind_some]
  simp only [Bool.not_true,cond_false]
  rw [XeB rfl,Option.bind_some]
  simp only [XlY]
  rw [XdQ rfl,Option.bind_some]
  exact ⟨_,rfl,fun q=>by cases q⟩
 ·rw [if_neg h1,XgY (by omega) (by omega),XgX (by omega) (by omega),show (1:Int).toNat=1 from rfl,List.drop_drop,show Xdz ((s.drop p).take 1)=b1 s p from rfl,XdQ rfl,Option.bind_some]
  simp only [Bool.not_false,cond_true]
  have ld2:(s.drop (p+1)).length=s.length - (p+1):=List.length_drop ..
  by_cases h2:20<b1 s p
  ·rw [XaS (by omega),if_pos h2]
   exact ⟨_,rfl,fun q=>by cases q⟩
  rw [XaO (by omega),if_neg h2,XeB rfl,Option.bind_some]
  by_cases h3:s.length<p+1+b1 s p
  ·have hr:rdr ⟨s.drop (p+1),true,false⟩ ((b1 s p:Nat):Int)=⟨s.drop (p+1),true,true⟩:=by unfold rdr;rw [if_pos (.inr (.inr (by simp only [];omega)))]
   rw [if_pos h3,hr,XdQ rfl,Option.bind_some]
   exact ⟨_,rfl,fun q=>by cases q⟩
  ·rw [if_neg h3,XgY (by omega) (by omega),XgX (by omega) (by omega),XdQ rfl,Option.bind_some,Int.toNat_natCast,List.drop_drop]
   exact ⟨_,rfl,fun _=>rfl⟩
def Xsk (s:List UInt8):XaQ×Int:=
 if s=[] then (XrP,2) else if b1 s 0/64%2=0 then (XrP,3) else
 if b1 s 0<128 then if s.length<9 then (XrP,2) else (⟨false,((b1 s 0%64:Nat):Int),0,(s.drop 1).take 8,[],s.drop 9⟩,0)
 else if s.length<5 then (XrP,2) else if (idS s 5).2.1≠0 then (XrP,(idS s 5).2.1) else if (idS s (idS s 5).2.2).2.1≠0 then (XrP,(idS s (idS s 5).2.2).2.1) else
 (⟨true,((b1 s 0%64:Nat):Int),((Xdz ((s.drop 1).take 4):Nat):Int),(idS s 5).1,(idS s (idS s 5).2.2).1,s.drop (idS s (idS s 5).2.2).2.2⟩,0)
theorem X9k:∀ v:Fin 256,((wI .u8 (((v.val:Nat):Int).tdiv 64)).tmod 2=((v.val/64%2:Nat):Int)∧wI .i64 (((v.val:Nat):Int).tmod 64)=((v.val%64:Nat):Int))∧Xjr .i64 ((v.val:Nat):Int) 64=((v.val/64%2*64:Nat):Int)∧Xjr .i64 ((v.val:Nat):Int) 128=((v.val/128*128:Nat):Int)∧Xjr .i64 ((v.val:Nat):Int) 63=((v.val%64:Nat):Int):=by decide +kernel
theorem XZr {s:List UInt8} {p:Nat} (h:(idS s p).2.1=0):(idS s p).2.2≤s.length:=by
 unfold idS at h ⊢
 split
 ·simp
 split
 ·simp
 split
 ·simp
 ·simp only [];omega
theorem XyI {s:List UInt8} (h:s.length<2^38):Xeb s=some (Xsk s):=by
 unfold Xeb Xjf Xsk
 by_cases h0:s=[]
 ·subst h0;rfl
 have hl:0<s.length:=List.length_pos_iff.2 h0
 have hb:=XwR s 0
 obtain ⟨⟨q1,q2⟩,-⟩:=X9k ⟨b1 s 0,hb⟩
 simp only at q1 q2
 have e0:s[0]?=some s[0]:=List.getElem?_eq_getElem hl
 have e1:s[0].toNat=b1 s 0:=(XBt hl).symm
 have es:(s==[])=false:=by rw [beq_eq_false_iff_ne];exact h0
 rw [es,cond_false,if_neg h0,e0]
 simp only [Option.bind_some,e1,q1,q2]
 by_cases h1:b1 s 0/64%2=0
 ·have:((((b1 s 0/64%2:Nat):Int))==0)=true:=by rw [beq_iff_eq];omega
  rw [this,cond_true,if_pos h1];rfl
 have:((((b1 s 0/64%2:Nat):Int))==0)=false:=by rw [beq_eq_false_iff_ne];omega
 rw [this,cond_false,if_neg h1]
 by_cases h2:b1 s 0<128
 ·rw [decide_eq_false (show ¬ ((b1 s 0:Nat):Int)≥128 by omega),Bool.not_false,cond_true,if_pos h2]
  by_cases h3:s.length<9
  ·rw [XaS (by omega),if_pos h3];rfl
  rw [XaO (by omega),if_neg h3,Xaz (by omega),Xaz (by omega),List.take_of_length_le (l:=s.drop 9) (by simp)]
 ·rw [decide_eq_true (show ((b1 s 0:Nat):Int)≥128 by omega),Bool.not_true,cond_false,if_neg h2]
  by_cases h3:s.length<5
  ·rw [XaS (by omega),if_pos h3];rfl
  have hv:Xdz ((s.drop 1).take 4)<2^32:=Xdh _ (by decide)
  have rid5:=XC0 (s:=s) (p:=5) h
  rw [show ((5:Nat):Int)=5 from rfl] at rid5
  rw [XaO (by omega),if_neg h3,XfV (by omega),Option.bind_some,Xgj (by omega) (by omega) (by omega) (by omega),rid5,Option.bind_some]
  simp only []
  by_cases h4:(idS s 5).2.1=0
  ·have:((idS s 5).2.1 !=0)=false:=by rw [bne_eq_false_iff_eq];exact h4
   rw [this,cond_false,if_neg (by omega),XC0 h,Option.bind_some]
   simp only []
   by_cases h5:(idS s (idS s 5).2.2).2.1=0
   ·have:((idS s (idS s 5).2.2).2.1 !=0)=false:=by rw [bne_eq_false_iff_eq];exact h5
    have hle:=XZr h5
    rw [this,cond_false,if_neg (by omega),Xaz (by omega),Int.toNat_natCast,List.take_of_length_le (l:=s.drop (idS s (idS s 5).2.2).2.2) (by simp)]
    simp only [show (1:Int).toNat=1 from rfl,show (4:Int).toNat=4 from rfl]
    rw [Xcg (n:=((Xdz ((s.drop 1).take 4):Nat):Int)) (by omega) (by omega),Xyy (by omega) (by omega)]
   ·have:((idS s (idS s 5).2.2).2.1 !=0)=true:=by rw [bne_iff_ne];exact h5
    rw [this,cond_true,if_pos h5];rfl
  ·have:((idS s 5).2.1 !=0)=true:=by rw [bne_iff_ne];exact h4
   rw [this,cond_true,if_pos h4];rfl
theorem XtP {r:Xab} (h:r.made=true) (hb:r.bad=false):Xa2 r=some (r.s,rdr r r.s.length):=by
 unfold Xa2 XcG
 rw [XdQ h,Option.bind_some]
 simp only [hb,cond_false]
 rw [XeB h,Option.bind_some]
 have:rdt r r.s.length=r.s:=by unfold rdt;rw [if_neg (by rw [hb];simp),Int.toNat_natCast,List.take_length]
 rw [this]
theorem Xzi {s:List UInt8} (h:s.length<2^38):Xdd s=some (Xsk s):=by
 unfold Xdd XhO Xsk
 by_cases h0:s=[]
 ·subst h0;decide +kernel
 have hl:0<s.length:=List.length_pos_iff.2 h0
 have hb:=XwR s 0
 obtain ⟨-,q1,q2,q3⟩:=X9k ⟨b1 s 0,hb⟩
 simp only at q1 q2 q3
 have l1:(s.drop 1).length=s.length - 1:=List.length_drop ..
 rw [if_neg h0,Xmv,Option.bind_some,Xft rfl (by simp only [];omega),Option.bind_some]
 simp only [rdn,i17]
 rw [XgY (by omega) (by omega),XgX (by omega) (by omega),show (1:Int).toNat=1 from rfl,XdQ rfl,Option.bind_some,show Xdz (s.take 1)=b1 s 0 from rfl,q1,q2,q3]
 simp only [cond_false]
 by_cases h1:b1 s 0/64%2=0
 ·have:((((b1 s 0/64%2*64:Nat):Int))==0)=true:=by rw [beq_iff_eq];omega
  rw [this,cond_true,if_pos h1];rfl
 have:((((b1 s 0/64%2*64:Nat):Int))==0)=false:=by rw [beq_eq_false_iff_ne];omega
 rw [this,cond_false,if_neg h1]
 by_cases h2:b1 s 0<128
 ·have:((((b1 s 0/128*128:Nat):Int)) !=0)=false:=by rw [bne_eq_false_iff_eq];omega
  rw [this,Bool.not_false,cond_true,if_pos h2,XeB rfl,Option.bind_some]
  by_cases h3:s.length<9
  ·have hr:rdr ⟨s.drop 1,true,false⟩ 8=⟨s.drop 1,true,true⟩:=by unfold rdr;rw [if_pos (.inr (.inr (by simp only [];omega)))]
   rw [if_pos h3,hr,XdQ rfl,Option.bind_some];rfl
  ·rw [if_neg h3,XgY (by omega) (by omega),XgX (by omega) (by omega),XdQ rfl,Option.bind_some]
   simp only [cond_false]
   rw [XtP rfl rfl,Option.bind_some,List.drop_drop]
   rfl
 ·have:((((b1 s 0/128*128:Nat):Int)) !=0)=true:=by rw [bne_iff_ne];omega
  rw [this,Bool.not_true,cond_false,if_neg h2,Xft rfl (by simp only [];omega),Option.bind_some]
  simp only [rdn,i47]
  by_cases h3:s.length<5
  ·have hr:rdr ⟨s.drop 1,true,false⟩ 4=⟨s.drop 1,true,true⟩:=by unfold rdr;rw [if_pos (.inr (.inr (by simp only [];omega)))]
   rw [if_pos h3,hr,XMA _ (by omega),Option.bind_some];rfl
  have hv:Xdz ((s.drop 1).take 4)<2^32:=Xdh _ (by decide)
  obtain ⟨r,er,hr⟩:=XBp (s:=s) (p:=5) h
  rw [if_neg h3,XgY (by omega) (by omega),XgX (by omega) (by omega),show (4:Int).toNat=4 from rfl,List.drop_drop,er,Option.bind_some]
  simp only []
  by_cases h4:(idS s 5).2.1=0
  ·have:((idS s 5).2.1 !=0)=false:=by rw [bne_eq_false_iff_eq];exact h4
   obtain ⟨r',er',hr'⟩:=XBp (s:=s) (p:=(idS s 5).2.2) h
   rw [this,cond_false,if_neg (by omega),hr h4,er',Option.bind_some]
   simp only []
   by_cases h5:(idS s (idS s 5).2.2).2.1=0
   ·have:((idS s (idS s 5).2.2).2.1 !=0)=false:=by rw [bne_eq_false_iff_eq];exact h5
    rw [this,cond_false,if_neg (by omega),hr' h5,XtP rfl rfl,Option.bind_some,Xyy (by omega) (by omega)]
   ·have:((idS s (idS s 5).2.2).2.1 !=0)=true:=by rw [bne_iff_ne];exact h5
    rw [this,cond_true,if_pos h5];rfl
  ·have:((idS s 5).2.1 !=0)=true:=by rw [bne_iff_ne];exact h4
   rw [this,cond_true,if_pos h4];rfl
end Go.Vm.Code
namespace Go.Vm.Code
open Go Go.Vm Go.Proofs
set_option maxRecDepth 100000
set_option maxHeartbeats 4000000
set_option linter.unusedVariables false
def XdH (Xb7:(List UInt8)→Option (Xag×(List UInt8)×Int)) (XcB:(List UInt8)→Option (Xaj×(List UInt8)×Int)) (s:List UInt8):Option (Xaq×Int):=
 (s[0]?).bind fun (b:UInt8)=>
 cond (((b.toNat:Int).fdiv (2^4))==4)
  (
  (Xb7 s).bind fun xg=>
  cond (xg.2.2 !=0)
   (
   some ((Xaq.mk (Xaa.mk false 0 0) (Xaa.mk false 0 0) 0 [],xg.2.2)))
   (
   let t:=wI .i64 (20+(xg.1.Options.length:Int))
   let t1:=(s.length:Int) !=(wI .i64 (t+(xg.2.1.length:Int)))
   cond (t1)
    (
    some ((Xaq.mk (Xaa.mk false 0 0) (Xaa.mk false 0 0) 0 [],5)))
    (
    some ((Xaq.mk xg.1.Src xg.1.Dst xg.1.Proto xg.2.1,0)))))
  (
  cond (((b.toNat:Int).fdiv (2^4))==6)
   (
   (XcB s).bind fun xg1=>
   cond (xg1.2.2 !=0)
    (
    some ((Xaq.mk (Xaa.mk false 0 0) (Xaa.mk false 0 0) 0 [],xg1.2.2)))
    (
    let t2:=(s.length:Int) !=(wI .i64 (40+(xg1.2.1.length:Int)))
    cond (t2)
     (
     some ((Xaq.mk (Xaa.mk false 0 0) (Xaa.mk false 0 0) 0 [],5)))
     (
     some ((Xaq.mk xg1.1.Src xg1.1.Dst xg1.1.Next xg1.2.1,0)))))
   (
   some ((Xaq.mk (Xaa.mk false 0 0) (Xaa.mk false 0 0) 0 [],3))))
def XAh (x:Xaq×Int):Xca:=⟨.tuple ⟨[.agg ⟨[.bool x.1.src.V6,.int .u64 x.1.src.Hi,.int .u64 x.1.src.Lo,.bool x.1.dst.V6,.int .u64 x.1.dst.Hi,.int .u64 x.1.dst.Lo,.int .i64 x.1.proto,.string ⟨⟨x.1.body⟩⟩]⟩,.int .i64 x.2]⟩,[],[]⟩
def r122 (g:(List UInt8)→Option (Xaq×Int)):Dec:=dV asS fun (y0:List UInt8)=>XcO (ofG (g y0) XAh)
theorem X1X {g:(List UInt8)→Option (Xaq×Int)} {y0:List UInt8} {x:Xaq×Int} (hx:g y0=some x):r122 g [.string ⟨⟨y0⟩⟩] []=some (XAh x):=(XaT (Xcp)).trans (Xa0 hx)
def s122 (g:(List UInt8)→Option (Xaq×Int)):Xbr:=⟨[.v],r122 g⟩
theorem XNi {g:(List UInt8)→Option (Xaq×Int)} {y0:List UInt8} {x:Xaq×Int} (hx:g y0=some x):(s122 g).run [.string ⟨⟨y0⟩⟩] []=some (XAh x):=X1X hx
abbrev XsK (Xb7:(List UInt8)→Option (Xag×(List UInt8)×Int)) (XcB:(List UInt8)→Option (Xaj×(List UInt8)×Int)):List (Nat×Xbr):=[(200,s200 Xb7),(201,s201 XcB)]
theorem XzM (Xb7:(List UInt8)→Option (Xag×(List UInt8)×Int)) (XcB:(List UInt8)→Option (Xaj×(List UInt8)×Int)) (hS:Xai Tryz.prog (Xav (XsK Xb7 XcB))) (s:List UInt8) (res:Xaq×Int) (h:XdH Xb7 XcB s=some res) :
 XaI Tryz.prog 122 0 ⟨⟨122,61,[(0,.string ⟨⟨s⟩⟩)],[.code Xvz],[],false,none⟩,[],[],0⟩ (fun v H _=>Res 0 (XAh res) v H):=by
 unfold XdH at h
 refine Xa7 Xao hS true 3000 ?_
 conv=>whnf
 replace h:=Xal.elim h;obtain ⟨b,hy,h⟩:=h
 refine rdS.intro hy ?_
 conv=>whnf
 refine br.h h ?_ ?_ ?_
 ·rfl
 ·clear h;intro hb h;conv=>whnf
  replace h:=Xal.elim h;obtain ⟨xg,hy,h⟩:=h
  refine XaK.q rfl rfl (XJ9 hy) rfl rfl rfl ?_
  conv=>whnf
  refine br.h h ?_ ?_ ?_
  ·rfl
  ·clear h;intro hb h;conv=>whnf
   all_goals (cases h;exact Res.z rfl rfl rfl)
  clear h;intro hb h;conv=>whnf
  let t:Int:=wI .i64 (20+(xg.1.Options.length:Int))
  let t1:Bool:=(s.length:Int) !=(wI .i64 (t+(xg.2.1.length:Int)))
  refine br.h h ?_ ?_ ?_
  ·rfl
  ·clear h;intro hb h;conv=>whnf
   all_goals (cases h;exact Res.z rfl rfl rfl)
  clear h;intro hb h;conv=>whnf
  all_goals (cases h;exact Res.z rfl rfl rfl)
 clear h;intro hb h;conv=>whnf
 refine br.h2 h ?_ ?_ ?_
 ·rfl
 ·clear h;intro hb h;conv=>whnf
  all_goals (cases h;exact Res.z rfl rfl rfl)
 clear h;intro hb h;conv=>whnf
 replace h:=Xal.elim h;obtain ⟨xg1,hy,h⟩:=h
 refine XaK.q rfl rfl (XLa hy) rfl rfl rfl ?_
 conv=>whnf
 refine br.h h ?_ ?_ ?_
 ·rfl
 ·clear h;intro hb h;conv=>whnf
  all_goals (cases h;exact Res.z rfl rfl rfl)
 clear h;intro hb h;conv=>whnf
 let t2:Bool:=(s.length:Int) !=(wI .i64 (40+(xg1.2.1.length:Int)))
 refine br.h h ?_ ?_ ?_
 ·rfl
 ·clear h;intro hb h;conv=>whnf
  all_goals (cases h;exact Res.z rfl rfl rfl)
 clear h;intro hb h;conv=>whnf
 all_goals (cases h;exact Res.z rfl rfl rfl)
theorem ok122 (Xb7:(List UInt8)→Option (Xag×(List UInt8)×Int)) (XcB:(List UInt8)→Option (Xaj×(List UInt8)×Int)) (hS:Xai Tryz.prog (Xav (XsK Xb7 XcB))):Xar Tryz.prog 122 (s122 (XdH Xb7 XcB)):=by
 refine Xar.Xay Xao (fun ar os r ha hr=>?_) ⟨Tryz.f122,rfl,by decide,rfl⟩
 replace hr:r122 (XdH Xb7 XcB) ar (XaD os)=some r:=hr
 unfold r122 at hr
 generalize hc:XaD os=C at hr
 replace hr:=dV.elim hr;obtain ⟨v0,l1,y0,rfl,e0,hr⟩:=hr;obtain rfl:=XbH _ _ e0
 replace hr:=Xc2 hr;obtain ⟨rfl,rfl,x,h,rfl⟩:=hr
 obtain rfl:=Xas hc
 exact ⟨_,rfl,XzM Xb7 XcB hS _ x h⟩
def XbA:(List UInt8)→Option (Xaq×Int):=XdH Xb7 XcB
theorem XFR:Xar Tryz.prog 122 (s122 XbA):=ok122 Xb7 XcB (Xai.XaW ⟨XLN,XLh,trivial⟩)
def Xb5 (Xem:(List UInt8)→Xaa→Xaa→Option (Xak×(List UInt8)×Int)) (XcC:(List UInt8)→Option (Int×Int×Int)) (oa0:Xaq) (p:Xaf):Option (Int×Int×Xaf):=
 (Xem oa0.body oa0.src oa0.dst).bind fun xg=>
 cond (xg.2.2 !=0)
  (
  some ((0,xg.2.2,p)))
  (
  (XcC xg.1.Options).bind fun s=>
  cond (decide (s.2.2≥0))
   (
   some (((xg.2.1.length:Int),0,Xaf.mk (Xah.mk p.Tuple.Proto p.Tuple.Src p.Tuple.Dst xg.1.SPort xg.1.DPort) xg.1.Flags true s.1 s.2.1 p.Long p.CID p.Size)))
   (
   some (((xg.2.1.length:Int),0,Xaf.mk (Xah.mk p.Tuple.Proto p.Tuple.Src p.Tuple.Dst xg.1.SPort xg.1.DPort) xg.1.Flags p.Stamped p.Val p.Echo p.Long p.CID p.Size))))
def Xxt (x:Int×Int×Xaf):Xca:=⟨.tuple ⟨[.int .i64 x.1,.int .i64 x.2.1]⟩,[],[some [.int .i64 x.2.2.Tuple.Proto,.bool x.2.2.Tuple.Src.V6,.int .u64 x.2.2.Tuple.Src.Hi,.int .u64 x.2.2.Tuple.Src.Lo,.bool x.2.2.Tuple.Dst.V6,.int .u64 x.2.2.Tuple.Dst.Hi,.int .u64 x.2.2.Tuple.Dst.Lo,.int .i64 x.2.2.Tuple.SPort,.int .i64 x.2.2.Tuple.DPort,.int .i64 x.2.2.Flags,.bool x.2.2.Stamped,.int .u32 x.2.2.Val,.int .u32 x.2.2.Echo,.bool x.2.2.Long,.string ⟨⟨x.2.2.CID⟩⟩,.int .i64 x.2.2.Size]]⟩
def r123 (g:Xaq→Xaf→Option (Int×Int×Xaf)):Dec:=dV XeN fun (y0:Xaq)=>dPt 0 Xge fun (y1:Xaf)=>XcO (ofG (g y0 y1) Xxt)
theorem X6N {g:Xaq→Xaf→Option (Int×Int×Xaf)} {y0:Xaq} {y1:Xaf} {x:Int×Int×Xaf} (hx:g y0 y1=some x):r123 g [.agg ⟨[.bool y0.src.V6,.int .u64 y0.src.Hi,.int .u64 y0.src.Lo,.bool y0.dst.V6,.int .u64 y0.dst.Hi,.int .u64 y0.dst.Lo,.int .i64 y0.proto,.string ⟨⟨y0.body⟩⟩]⟩,.pointer (some ⟨0,0,none⟩)] [some [.int .i64 y1.Tuple.Proto,.bool y1.Tuple.Src.V6,.int .u64 y1.Tuple.Src.Hi,.int .u64 y1.Tuple.Src.Lo,.bool y1.Tuple.Dst.V6,.int .u64 y1.Tuple.Dst.Hi,.int .u64 y1.Tuple.Dst.Lo,.int .i64 y1.Tuple.SPort,.int .i64 y1.Tuple.DPort,.int .i64 y1.Flags,.bool y1.Stamped,.int .u32 y1.Val,.int .u32 y1.Echo,.bool y1.Long,.string ⟨⟨y1.CID⟩⟩,.int .i64 y1.Size]]=some (Xxt x):=(XaT (Xio _)).trans ((Xl2 (XjI _)).trans (Xa0 hx))
def s123 (g:Xaq→Xaf→Option (Int×Int×Xaf)):Xbr:=⟨[.v,.pt 16],r123 g⟩
theorem XI4 {g:Xaq→Xaf→Option (Int×Int×Xaf)} {y0:Xaq} {y1:Xaf} {x:Int×Int×Xaf} (hx:g y0 y1=some x):(s123 g).run [.agg ⟨[.bool y0.src.V6,.int .u64 y0.src.Hi,.int .u64 y0.src.Lo,.bool y0.dst.V6,.int .u64 y0.dst.Hi,.int .u64 y0.dst.Lo,.int .i64 y0.proto,.string ⟨⟨y0.body⟩⟩]⟩,.pointer (some ⟨0,0,none⟩)] [some [.int .i64 y1.Tuple.Proto,.bool y1.Tuple.Src.V6,.int .u64 y1.Tuple.Src.Hi,.int .u64 y1.Tuple.Src.Lo,.bool y1.Tuple.Dst.V6,.int .u64 y1.Tuple.Dst.Hi,.int .u64 y1.Tuple.Dst.Lo,.int .i64 y1.Tuple.SPort,.int .i64 y1.Tuple.DPort,.int .i64 y1.Flags,.bool y1.Stamped,.int .u32 y1.Val,.int .u32 y1.Echo,.bool y1.Long,.string ⟨⟨y1.CID⟩⟩,.int .i64 y1.Size]]=some (Xxt x):=X6N hx
abbrev Xtd (Xem:(List UInt8)→Xaa→Xaa→Option (Xak×(List UInt8)×Int)) (XcC:(List UInt8)→Option (Int×Int×Int)):List (Nat×Xbr):=[(173,s173 Xem),(111,s111 XcC)]
theorem Xyo (Xem:(List UInt8)→Xaa→Xaa→Option (Xak×(List UInt8)×Int)) (XcC:(List UInt8)→Option (Int×Int×Int)) (hS:Xai Tryz.prog (Xav (Xtd Xem XcC))) (oa0:Xaq) (p:Xaf) (res:Int×Int×Xaf) (h:Xb5 Xem XcC oa0 p=some res) :
 XaI Tryz.prog 123 1 ⟨⟨123,65,[(0,.agg ⟨[.bool oa0.src.V6,.int .u64 oa0.src.Hi,.int .u64 oa0.src.Lo,.bool oa0.dst.V6,.int .u64 oa0.dst.Hi,.int .u64 oa0.dst.Lo,.int .i64 oa0.proto,.string ⟨⟨oa0.body⟩⟩]⟩),(1,.pointer (some ⟨0,0,none⟩))],[.code XvH],[],false,none⟩,[],[(0,.cells [.int .i64 p.Tuple.Proto,.bool p.Tuple.Src.V6,.int .u64 p.Tuple.Src.Hi,.int .u64 p.Tuple.Src.Lo,.bool p.Tuple.Dst.V6,.int .u64 p.Tuple.Dst.Hi,.int .u64 p.Tuple.Dst.Lo,.int .i64 p.Tuple.SPort,.int .i64 p.Tuple.DPort,.int .i64 p.Flags,.bool p.Stamped,.int .u32 p.Val,.int .u32 p.Echo,.bool p.Long,.string ⟨⟨p.CID⟩⟩,.int .i64 p.Size])],1⟩ (fun v H _=>Res 1 (Xxt res) v H):=by
 unfold Xb5 at h
 refine Xa7 Xao hS true 3000 ?_
 conv=>whnf
 replace h:=Xal.elim h;obtain ⟨xg,hy,h⟩:=h
 refine XaK.q rfl rfl (XKD hy) rfl rfl rfl ?_
 conv=>whnf
 refine br.h h ?_ ?_ ?_
 ·rfl
 ·clear h;intro hb h;conv=>whnf
  all_goals (cases h)
  all_goals exact Res.of [] rfl Xg3 (by decide) Xg1 (XlC (rfl) (Xb2 rfl) Xg2)
 clear h;intro hb h;conv=>whnf
 replace h:=Xal.elim h;obtain ⟨s,hy,h⟩:=h
 refine XaK.q rfl rfl (XKm hy) rfl rfl rfl ?_
 conv=>whnf
 refine br.h h ?_ ?_ ?_
 ·rfl
 ·clear h;intro hb h;conv=>whnf
  all_goals (cases h)
  all_goals exact Res.of [] rfl Xg3 (by decide) Xg1 (XlC (rfl) (Xb2 rfl) Xg2)
 clear h;intro hb h;conv=>whnf
 all_goals (cases h)
 all_goals exact Res.of [] rfl Xg3 (by decide) Xg1 (XlC (rfl) (Xb2 rfl) Xg2)
theorem ok123 (Xem:(List UInt8)→Xaa→Xaa→Option (Xak×(List UInt8)×Int)) (XcC:(List UInt8)→Option (Int×Int×Int)) (hS:Xai Tryz.prog (Xav (Xtd Xem XcC))):Xar Tryz.prog 123 (s123 (Xb5 Xem XcC)):=by
 refine Xar.Xay Xao (fun ar os r ha hr=>?_) ⟨Tryz.f123,rfl,by decide,rfl⟩
 replace hr:r123 (Xb5 Xem XcC) ar (XaD os)=some r:=hr
 unfold r123 at hr
 generalize hc:XaD os=C at hr
 replace hr:=dV.elim hr;obtain ⟨v0,l1,y0,rfl,e0,hr⟩:=hr;obtain rfl:=XhK _ _ e0
 have hq:=dPt.elim hr;clear hr;obtain ⟨c1,l2,C,y1,rfl,rfl,e1,hr⟩:=hq;obtain rfl:=XiL _ _ e1
 replace hr:=Xc2 hr;obtain ⟨rfl,rfl,x,h,rfl⟩:=hr
 obtain ⟨os,rfl,ha,hc⟩:=Xc5 ha hc
 obtain rfl:=Xas hc
 exact ⟨_,rfl,Xyo Xem XcC hS _ _ x h⟩
def XaP:Xaq→Xaf→Option (Int×Int×Xaf):=Xb5 Xem XcC
theorem XRV:Xar Tryz.prog 123 (s123 XaP):=ok123 Xem XcC (Xai.XaW ⟨XM4,XQz,trivial⟩)
def XbY (Xdd:(List UInt8)→Option (XaQ×Int)) (Xen:(List UInt8)→Xaa→Xaa→Option (Xat×(List UInt8)×Int)) (oa0:Xaq) (p:Xaf):Option (Int×Int×Xaf):=
 (Xen oa0.body oa0.src oa0.dst).bind fun xg=>
 cond (xg.2.2 !=0)
  (
  some ((0,xg.2.2,p)))
  (
  let t:=(xg.2.1.length:Int) !=(wI .i64 ((oa0.body.length:Int) - 8))
  cond (t)
   (
   some ((0,5,p)))
   (
   (Xdd xg.2.1).bind fun xg1=>
   cond (xg1.2==0)
    (
    some (((xg.2.1.length:Int),0,Xaf.mk (Xah.mk p.Tuple.Proto p.Tuple.Src p.Tuple.Dst xg.1.SPort xg.1.DPort) p.Flags p.Stamped p.Val p.Echo xg1.1.Long xg1.1.DCID p.Size)))
    (
    some (((xg.2.1.length:Int),0,Xaf.mk (Xah.mk p.Tuple.Proto p.Tuple.Src p.Tuple.Dst xg.1.SPort xg.1.DPort) p.Flags p.Stamped p.Val p.Echo p.Long p.CID p.Size)))))
def XAY (x:Int×Int×Xaf):Xca:=⟨.tuple ⟨[.int .i64 x.1,.int .i64 x.2.1]⟩,[],[some [.int .i64 x.2.2.Tuple.Proto,.bool x.2.2.Tuple.Src.V6,.int .u64 x.2.2.Tuple.Src.Hi,.int .u64 x.2.2.Tuple.Src.Lo,.bool x.2.2.Tuple.Dst.V6,.int .u64 x.2.2.Tuple.Dst.Hi,.int .u64 x.2.2.Tuple.Dst.Lo,.int .i64 x.2.2.Tuple.SPort,.int .i64 x.2.2.Tuple.DPort,.int .i64 x.2.2.Flags,.bool x.2.2.Stamped,.int .u32 x.2.2.Val,.int .u32 x.2.2.Echo,.bool x.2.2.Long,.string ⟨⟨x.2.2.CID⟩⟩,.int .i64 x.2.2.Size]]⟩
def r124 (g:Xaq→Xaf→Option (Int×Int×Xaf)):Dec:=dV XeN fun (y0:Xaq)=>dPt 0 Xge fun (y1:Xaf)=>XcO (ofG (g y0 y1) XAY)
theorem X4V {g:Xaq→Xaf→Option (Int×Int×Xaf)} {y0:Xaq} {y1:Xaf} {x:Int×Int×Xaf} (hx:g y0 y1=some x):r124 g [.agg ⟨[.bool y0.src.V6,.int .u64 y0.src.Hi,.int .u64 y0.src.Lo,.bool y0.dst.V6,.int .u64 y0.dst.Hi,.int .u64 y0.dst.Lo,.int .i64 y0.proto,.string ⟨⟨y0.body⟩⟩]⟩,.pointer (some ⟨0,0,none⟩)] [some [.int .i64 y1.Tuple.Proto,.bool y1.Tuple.Src.V6,.int .u64 y1.Tuple.Src.Hi,.int .u64 y1.Tuple.Src.Lo,.bool y1.Tuple.Dst.V6,.int .u64 y1.Tuple.Dst.Hi,.int .u64 y1.Tuple.Dst.Lo,.int .i64 y1.Tuple.SPort,.int .i64 y1.Tuple.DPort,.int .i64 y1.Flags,.bool y1.Stamped,.int .u32 y1.Val,.int .u32 y1.Echo,.bool y1.Long,.string ⟨⟨y1.CID⟩⟩,.int .i64 y1.Size]]=some (XAY x):=(XaT (Xio _)).trans ((Xl2 (XjI _)).trans (Xa0 hx))
def s124 (g:Xaq→Xaf→Option (Int×Int×Xaf)):Xbr:=⟨[.v,.pt 16],r124 g⟩
theorem XRU {g:Xaq→Xaf→Option (Int×Int×Xaf)} {y0:Xaq} {y1:Xaf} {x:Int×Int×Xaf} (hx:g y0 y1=some x):(s124 g).run [.agg ⟨[.bool y0.src.V6,.int .u64 y0.src.Hi,.int .u64 y0.src.Lo,.bool y0.dst.V6,.int .u64 y0.dst.Hi,.int .u64 y0.dst.Lo,.int .i64 y0.proto,.string ⟨⟨y0.body⟩⟩]⟩,.pointer (some ⟨0,0,none⟩)] [some [.int .i64 y1.Tuple.Proto,.bool y1.Tuple.Src.V6,.int .u64 y1.Tuple.Src.Hi,.int .u64 y1.Tuple.Src.Lo,.bool y1.Tuple.Dst.V6,.int .u64 y1.Tuple.Dst.Hi,.int .u64 y1.Tuple.Dst.Lo,.int .i64 y1.Tuple.SPort,.int .i64 y1.Tuple.DPort,.int .i64 y1.Flags,.bool y1.Stamped,.int .u32 y1.Val,.int .u32 y1.Echo,.bool y1.Long,.string ⟨⟨y1.CID⟩⟩,.int .i64 y1.Size]]=some (XAY x):=X4V hx
abbrev Xvw (Xdd:(List UInt8)→Option (XaQ×Int)) (Xen:(List UInt8)→Xaa→Xaa→Option (Xat×(List UInt8)×Int)):List (Nat×Xbr):=[(69,s69 Xdd),(174,s174 Xen)]
theorem XAK (Xdd:(List UInt8)→Option (XaQ×Int)) (Xen:(List UInt8)→Xaa→Xaa→Option (Xat×(List UInt8)×Int)) (hS:Xai Tryz.prog (Xav (Xvw Xdd Xen))) (oa0:Xaq) (p:Xaf) (res:Int×Int×Xaf) (h:XbY Xdd Xen oa0 p=some res) :
 XaI Tryz.prog 124 1 ⟨⟨124,65,[(0,.agg ⟨[.bool oa0.src.V6,.int .u64 oa0.src.Hi,.int .u64 oa0.src.Lo,.bool oa0.dst.V6,.int .u64 oa0.dst.Hi,.int .u64 oa0.dst.Lo,.int .i64 oa0.proto,.string ⟨⟨oa0.body⟩⟩]⟩),(1,.pointer (some ⟨0,0,none⟩))],[.code Xvl],[],false,none⟩,[],[(0,.cells [.int .i64 p.Tuple.Proto,.bool p.Tuple.Src.V6,.int .u64 p.Tuple.Src.Hi,.int .u64 p.Tuple.Src.Lo,.bool p.Tuple.Dst.V6,.int .u64 p.Tuple.Dst.Hi,.int .u64 p.Tuple.Dst.Lo,.int .i64 p.Tuple.SPort,.int .i64 p.Tuple.DPort,.int .i64 p.Flags,.bool p.Stamped,.int .u32 p.Val,.int .u32 p.Echo,.bool p.Long,.string ⟨⟨p.CID⟩⟩,.int .i64 p.Size])],1⟩ (fun v H _=>Res 1 (XAY res) v H):=by
 unfold XbY at h
 refine Xa7 Xao hS true 3000 ?_
 conv=>whnf
 replace h:=Xal.elim h;obtain ⟨xg,hy,h⟩:=h
 refine XaK.q rfl rfl (XKO hy) rfl rfl rfl ?_
 conv=>whnf
 refine br.h h ?_ ?_ ?_
 ·rfl
 ·clear h;intro hb h;conv=>whnf
  all_goals (cases h)
  all_goals exact Res.of [] rfl Xg3 (by decide) Xg1 (XlC (rfl) (Xb2 rfl) Xg2)
 clear h;intro hb h;conv=>whnf
 let t:Bool:=(xg.2.1.length:Int) !=(wI .i64 ((oa0.body.length:Int) - 8))
 refine br.h h ?_ ?_ ?_
 ·rfl
 ·clear h;intro hb h;conv=>whnf
  all_goals (cases h)
  all_goals exact Res.of [] rfl Xg3 (by decide) Xg1 (XlC (rfl) (Xb2 rfl) Xg2)
 clear h;intro hb h;conv=>whnf
 replace h:=Xal.elim h;obtain ⟨xg1,hy,h⟩:=h
 refine XaK.q rfl rfl (XVl hy) rfl rfl rfl ?_
 conv=>whnf
 refine br.h h ?_ ?_ ?_
 ·rfl
 ·clear h;intro hb h;conv=>whnf
  all_goals (cases h)
  all_goals exact Res.of [] rfl Xg3 (by decide) Xg1 (XlC (rfl) (Xb2 rfl) Xg2)
 clear h;intro hb h;conv=>whnf
 all_goals (cases h)
 all_goals exact Res.of [] rfl Xg3 (by decide) Xg1 (XlC (rfl) (Xb2 rfl) Xg2)
theorem ok124 (Xdd:(List UInt8)→Option (XaQ×Int)) (Xen:(List UInt8)→Xaa→Xaa→Option (Xat×(List UInt8)×Int)) (hS:Xai Tryz.prog (Xav (Xvw Xdd Xen))):Xar Tryz.prog 124 (s124 (XbY Xdd Xen)):=by
 refine Xar.Xay Xao (fun ar os r ha hr=>?_) ⟨Tryz.f124,rfl,by decide,rfl⟩
 replace hr:r124 (XbY Xdd Xen) ar (XaD os)=some r:=hr
 unfold r124 at hr
 generalize hc:XaD os=C at hr
 replace hr:=dV.elim hr;obtain ⟨v0,l1,y0,rfl,e0,hr⟩:=hr;obtain rfl:=XhK _ _ e0
 have hq:=dPt.elim hr;clear hr;obtain ⟨c1,l2,C,y1,rfl,rfl,e1,hr⟩:=hq;obtain rfl:=XiL _ _ e1
 replace hr:=Xc2 hr;obtain ⟨rfl,rfl,x,h,rfl⟩:=hr
 obtain ⟨os,rfl,ha,hc⟩:=Xc5 ha hc
 obtain rfl:=Xas hc
 exact ⟨_,rfl,XAK Xdd Xen hS _ _ x h⟩
def XaN:Xaq→Xaf→Option (Int×Int×Xaf):=XbY Xdd Xen
theorem XLg:Xar Tryz.prog 124 (s124 XaN):=ok124 Xdd Xen (Xai.XaW ⟨X45,XGh,trivial⟩)
def Xfd (XbA:(List UInt8)→Option (Xaq×Int)) (XaN:Xaq→Xaf→Option (Int×Int×Xaf)) (XaP:Xaq→Xaf→Option (Int×Int×Xaf)) (s:List UInt8):Option (Xaf×Int×Int×Int):=
 cond (decide ((s.length:Int)>9000))
  (
  some ((Xaf.mk (Xah.mk 0 (Xaa.mk false 0 0) (Xaa.mk false 0 0) 0 0) 0 false 0 0 false [] 0,0,0,5)))
  (
  cond (s==[])
   (
   some ((Xaf.mk (Xah.mk 0 (Xaa.mk false 0 0) (Xaa.mk false 0 0) 0 0) 0 false 0 0 false [] 0,0,0,2)))
   (
   (XbA s).bind fun xo=>
   cond (xo.2 !=0)
    (
    some ((Xaf.mk (Xah.mk 0 (Xaa.mk false 0 0) (Xaa.mk false 0 0) 0 0) 0 false 0 0 false [] 0,0,0,xo.2)))
    (
    cond (xo.1.proto==6)
     (
     (XaP xo.1 (Xaf.mk (Xah.mk xo.1.proto xo.1.src xo.1.dst 0 0) 0 false 0 0 false [] (s.length:Int))).bind fun s1=>
     cond (s1.2.1 !=0)
      (
      some ((Xaf.mk (Xah.mk 0 (Xaa.mk false 0 0) (Xaa.mk false 0 0) 0 0) 0 false 0 0 false [] 0,0,0,s1.2.1)))
      (
      some ((s1.2.2,(xo.1.body.length:Int),s1.1,0))))
     (
     cond (xo.1.proto==17)
      (
      (XaN xo.1 (Xaf.mk (Xah.mk xo.1.proto xo.1.src xo.1.dst 0 0) 0 false 0 0 false [] (s.length:Int))).bind fun d=>
      cond (d.2.1 !=0)
       (
       some ((Xaf.mk (Xah.mk 0 (Xaa.mk false 0 0) (Xaa.mk false 0 0) 0 0) 0 false 0 0 false [] 0,0,0,d.2.1)))
       (
       some ((d.2.2,(xo.1.body.length:Int),d.1,0))))
      (
      some ((Xaf.mk (Xah.mk 0 (Xaa.mk false 0 0) (Xaa.mk false 0 0) 0 0) 0 false 0 0 false [] 0,0,0,6)))))))
def rx76 (x:Xaf×Int×Int×Int):Xca:=⟨.tuple ⟨[.agg ⟨[.int .i64 x.1.Tuple.Proto,.bool x.1.Tuple.Src.V6,.int .u64 x.1.Tuple.Src.Hi,.int .u64 x.1.Tuple.Src.Lo,.bool x.1.Tuple.Dst.V6,.int .u64 x.1.Tuple.Dst.Hi,.int .u64 x.1.Tuple.Dst.Lo,.int .i64 x.1.Tuple.SPort,.int .i64 x.1.Tuple.DPort,.int .i64 x.1.Flags,.bool x.1.Stamped,.int .u32 x.1.Val,.int .u32 x.1.Echo,.bool x.1.Long,.string ⟨⟨x.1.CID⟩⟩,.int .i64 x.1.Size]⟩,.int .i64 x.2.1,.int .i64 x.2.2.1,.int .i64 x.2.2.2]⟩,[],[]⟩
def r76 (g:(List UInt8)→Option (Xaf×Int×Int×Int)):Dec:=dV asS fun (y0:List UInt8)=>XcO (ofG (g y0) rx76)
theorem r76_c {g:(List UInt8)→Option (Xaf×Int×Int×Int)} {y0:List UInt8} {x:Xaf×Int×Int×Int} (hx:g y0=some x):r76 g [.string ⟨⟨y0⟩⟩] []=some (rx76 x):=(XaT (Xcp)).trans (Xa0 hx)
def s76 (g:(List UInt8)→Option (Xaf×Int×Int×Int)):Xbr:=⟨[.v],r76 g⟩
theorem XDn {g:(List UInt8)→Option (Xaf×Int×Int×Int)} {y0:List UInt8} {x:Xaf×Int×Int×Int} (hx:g y0=some x):(s76 g).run [.string ⟨⟨y0⟩⟩] []=some (rx76 x):=r76_c hx
abbrev XB7 (XbA:(List UInt8)→Option (Xaq×Int)) (XaN:Xaq→Xaf→Option (Int×Int×Xaf)) (XaP:Xaq→Xaf→Option (Int×Int×Xaf)):List (Nat×Xbr):=[(122,s122 XbA),(124,s124 XaN),(123,s123 XaP)]
theorem XRY (XbA:(List UInt8)→Option (Xaq×Int)) (XaN:Xaq→Xaf→Option (Int×Int×Xaf)) (XaP:Xaq→Xaf→Option (Int×Int×Xaf)) (hS:Xai Tryz.prog (Xav (XB7 XbA XaN XaP))) (s:List UInt8) (res:Xaf×Int×Int×Int) (h:Xfd XbA XaN XaP s=some res) :
 XaI Tryz.prog 76 0 ⟨⟨76,63,[(0,.string ⟨⟨s⟩⟩)],[.code XCo],[],false,none⟩,[],[],0⟩ (fun v H _=>Res 0 (rx76 res) v H):=by
 unfold Xfd at h
 refine Xa7 Xao hS true 3000 ?_
 conv=>whnf
 refine br.h h ?_ ?_ ?_
 ·rfl
 ·clear h;intro hb h;conv=>whnf
  all_goals (cases h;exact Res.z rfl rfl rfl)
 clear h;intro hb h;conv=>whnf
 refine br.h h ?_ ?_ ?_
 ·rfl
 ·clear h;intro hb h;conv=>whnf
  all_goals (cases h;exact Res.z rfl rfl rfl)
 clear h;intro hb h;conv=>whnf
 replace h:=Xal.elim h;obtain ⟨xo,hy,h⟩:=h
 refine XaK.q rfl rfl (XNi hy) rfl rfl rfl ?_
 conv=>whnf
 refine br.h h ?_ ?_ ?_
 ·rfl
 ·clear h;intro hb h;conv=>whnf
  all_goals (cases h;exact Res.z rfl rfl rfl)
 clear h;intro hb h;conv=>whnf
 refine br.h h ?_ ?_ ?_
 ·rfl
 ·clear h;intro hb h;conv=>whnf
  replace h:=Xal.elim h;obtain ⟨s1,hy,h⟩:=h
  refine XaK.Xbb [2] (Xaw (aqs:=[.agg ⟨[.bool xo.1.src.V6,.int .u64 xo.1.src.Hi,.int .u64 xo.1.src.Lo,.bool xo.1.dst.V6,.int .u64 xo.1.dst.Hi,.int .u64 xo.1.dst.Lo,.int .i64 xo.1.proto,.string ⟨⟨xo.1.body⟩⟩]⟩,.pointer (some ⟨0,0,none⟩)]) (ws:=[.win 2 0 16 true]) (n:=0) (m:=0) (t':=3) (Xau rfl rfl (Xau rfl rfl Xbf)) rfl (by rfl) (XI4 hy) rfl rfl rfl rfl (XbF rfl rfl rfl ⟨rfl,Nat.le_of_ble_eq_true rfl⟩ rfl rfl Xbe) Xbc rfl) ?_
  conv=>whnf
  refine br.h h ?_ ?_ ?_
  ·rfl
  ·clear h;intro hb h;conv=>whnf
   all_goals (cases h;exact Res.z rfl rfl rfl)
  clear h;intro hb h;conv=>whnf
  all_goals (cases h;exact Res.z rfl rfl rfl)
 clear h;intro hb h;conv=>whnf
 refine br.h2 h ?_ ?_ ?_
 ·rfl
 ·clear h;intro hb h;conv=>whnf
  all_goals (cases h;exact Res.z rfl rfl rfl)
 clear h;intro hb h;conv=>whnf
 replace h:=Xal.elim h;obtain ⟨d,hy,h⟩:=h
 refine XaK.Xbb [2] (Xaw (aqs:=[.agg ⟨[.bool xo.1.src.V6,.int .u64 xo.1.src.Hi,.int .u64 xo.1.src.Lo,.bool xo.1.dst.V6,.int .u64 xo.1.dst.Hi,.int .u64 xo.1.dst.Lo,.int .i64 xo.1.proto,.string ⟨⟨xo.1.body⟩⟩]⟩,.pointer (some ⟨0,0,none⟩)]) (ws:=[.win 2 0 16 true]) (n:=0) (m:=0) (t':=3) (Xau rfl rfl (Xau rfl rfl Xbf)) rfl (by rfl) (XRU hy) rfl rfl rfl rfl (XbF rfl rfl rfl ⟨rfl,Nat.le_of_ble_eq_true rfl⟩ rfl rfl Xbe) Xbc rfl) ?_
 conv=>whnf
 refine br.h h ?_ ?_ ?_
 ·rfl
 ·clear h;intro hb h;conv=>whnf
  all_goals (cases h;exact Res.z rfl rfl rfl)
 clear h;intro hb h;conv=>whnf
 all_goals (cases h;exact Res.z rfl rfl rfl)
theorem ok76 (XbA:(List UInt8)→Option (Xaq×Int)) (XaN:Xaq→Xaf→Option (Int×Int×Xaf)) (XaP:Xaq→Xaf→Option (Int×Int×Xaf)) (hS:Xai Tryz.prog (Xav (XB7 XbA XaN XaP))):Xar Tryz.prog 76 (s76 (Xfd XbA XaN XaP)):=by
 refine Xar.Xay Xao (fun ar os r ha hr=>?_) ⟨Tryz.f76,rfl,by decide,rfl⟩
 replace hr:r76 (Xfd XbA XaN XaP) ar (XaD os)=some r:=hr
 unfold r76 at hr
 generalize hc:XaD os=C at hr
 replace hr:=dV.elim hr;obtain ⟨v0,l1,y0,rfl,e0,hr⟩:=hr;obtain rfl:=XbH _ _ e0
 replace hr:=Xc2 hr;obtain ⟨rfl,rfl,x,h,rfl⟩:=hr
 obtain rfl:=Xas hc
 exact ⟨_,rfl,XRY XbA XaN XaP hS _ x h⟩
def Xa6:(List UInt8)→Option (Xaf×Int×Int×Int):=Xfd XbA XaN XaP
theorem XCO:Xar Tryz.prog 76 (s76 Xa6):=ok76 XbA XaN XaP (Xai.XaW ⟨XFR,XLg,XRV,trivial⟩)
def Xew (Xa6:(List UInt8)→Option (Xaf×Int×Int×Int)) (s:List UInt8):Option (Xaf×Int):=
 (Xa6 s).bind fun t=>
 some ((t.1,t.2.2.2))
def rx21 (x:Xaf×Int):Xca:=⟨.tuple ⟨[.agg ⟨[.int .i64 x.1.Tuple.Proto,.bool x.1.Tuple.Src.V6,.int .u64 x.1.Tuple.Src.Hi,.int .u64 x.1.Tuple.Src.Lo,.bool x.1.Tuple.Dst.V6,.int .u64 x.1.Tuple.Dst.Hi,.int .u64 x.1.Tuple.Dst.Lo,.int .i64 x.1.Tuple.SPort,.int .i64 x.1.Tuple.DPort,.int .i64 x.1.Flags,.bool x.1.Stamped,.int .u32 x.1.Val,.int .u32 x.1.Echo,.bool x.1.Long,.string ⟨⟨x.1.CID⟩⟩,.int .i64 x.1.Size]⟩,.int .i64 x.2]⟩,[],[]⟩
def r21 (g:(List UInt8)→Option (Xaf×Int)):Dec:=dV asS fun (y0:List UInt8)=>XcO (ofG (g y0) rx21)
theorem r21_c {g:(List UInt8)→Option (Xaf×Int)} {y0:List UInt8} {x:Xaf×Int} (hx:g y0=some x):r21 g [.string ⟨⟨y0⟩⟩] []=some (rx21 x):=(XaT (Xcp)).trans (Xa0 hx)
def s21 (g:(List UInt8)→Option (Xaf×Int)):Xbr:=⟨[.v],r21 g⟩
theorem Xto {g:(List UInt8)→Option (Xaf×Int)} {y0:List UInt8} {x:Xaf×Int} (hx:g y0=some x):(s21 g).run [.string ⟨⟨y0⟩⟩] []=some (rx21 x):=r21_c hx
abbrev XBA (Xa6:(List UInt8)→Option (Xaf×Int×Int×Int)):List (Nat×Xbr):=[(76,s76 Xa6)]
theorem XJ4 (Xa6:(List UInt8)→Option (Xaf×Int×Int×Int)) (hS:Xai Tryz.prog (Xav (XBA Xa6))) (s:List UInt8) (res:Xaf×Int) (h:Xew Xa6 s=some res) :
 XaI Tryz.prog 21 0 ⟨⟨21,17,[(0,.string ⟨⟨s⟩⟩)],[.code X2V],[],false,none⟩,[],[],0⟩ (fun v H _=>Res 0 (rx21 res) v H):=by
 unfold Xew at h
 refine Xa7 Xao hS true 3000 ?_
 conv=>whnf
 replace h:=Xal.elim h;obtain ⟨t,hy,h⟩:=h
 refine XaK.q rfl rfl (XDn hy) rfl rfl rfl ?_
 conv=>whnf
 all_goals (cases h;exact Res.z rfl rfl rfl)
theorem ok21 (Xa6:(List UInt8)→Option (Xaf×Int×Int×Int)) (hS:Xai Tryz.prog (Xav (XBA Xa6))):Xar Tryz.prog 21 (s21 (Xew Xa6)):=by
 refine Xar.Xay Xao (fun ar os r ha hr=>?_) ⟨Tryz.f21,rfl,by decide,rfl⟩
 replace hr:r21 (Xew Xa6) ar (XaD os)=some r:=hr
 unfold r21 at hr
 generalize hc:XaD os=C at hr
 replace hr:=dV.elim hr;obtain ⟨v0,l1,y0,rfl,e0,hr⟩:=hr;obtain rfl:=XbH _ _ e0
 replace hr:=Xc2 hr;obtain ⟨rfl,rfl,x,h,rfl⟩:=hr
 obtain rfl:=Xas hc
 exact ⟨_,rfl,XJ4 Xa6 hS _ x h⟩
def Xa9:(List UInt8)→Option (Xaf×Int):=Xew Xa6
theorem X4O:Xar Tryz.prog 21 (s21 Xa9):=ok21 Xa6 (Xai.XaW ⟨XCO,trivial⟩)
def Xez (Xa6:(List UInt8)→Option (Xaf×Int×Int×Int)) (s:List UInt8):Option (Int×Int×Int):=
 (Xa6 s).bind fun t=>
 cond (t.2.2.2 !=0)
  (
  some ((0,0,t.2.2.2)))
  (
  some ((wI .i64 ((s.length:Int) - t.2.1),wI .i64 ((s.length:Int) - t.2.2.1),0)))
def rx22 (x:Int×Int×Int):Xca:=⟨.tuple ⟨[.int .i64 x.1,.int .i64 x.2.1,.int .i64 x.2.2]⟩,[],[]⟩
def r22 (g:(List UInt8)→Option (Int×Int×Int)):Dec:=dV asS fun (y0:List UInt8)=>XcO (ofG (g y0) rx22)
theorem r22_c {g:(List UInt8)→Option (Int×Int×Int)} {y0:List UInt8} {x:Int×Int×Int} (hx:g y0=some x):r22 g [.string ⟨⟨y0⟩⟩] []=some (rx22 x):=(XaT (Xcp)).trans (Xa0 hx)
def s22 (g:(List UInt8)→Option (Int×Int×Int)):Xbr:=⟨[.v],r22 g⟩
theorem X5T {g:(List UInt8)→Option (Int×Int×Int)} {y0:List UInt8} {x:Int×Int×Int} (hx:g y0=some x):(s22 g).run [.string ⟨⟨y0⟩⟩] []=some (rx22 x):=r22_c hx
abbrev XDe (Xa6:(List UInt8)→Option (Xaf×Int×Int×Int)):List (Nat×Xbr):=[(76,s76 Xa6)]
theorem XPL (Xa6:(List UInt8)→Option (Xaf×Int×Int×Int)) (hS:Xai Tryz.prog (Xav (XDe Xa6))) (s:List UInt8) (res:Int×Int×Int) (h:Xez Xa6 s=some res) :
 XaI Tryz.prog 22 0 ⟨⟨22,27,[(0,.string ⟨⟨s⟩⟩)],[.code XC2],[],false,none⟩,[],[],0⟩ (fun v H _=>Res 0 (rx22 res) v H):=by
 unfold Xez at h
 refine Xa7 Xao hS true 3000 ?_
 conv=>whnf
 replace h:=Xal.elim h;obtain ⟨t,hy,h⟩:=h
 refine XaK.q rfl rfl (XDn hy) rfl rfl rfl ?_
 conv=>whnf
 refine br.h h ?_ ?_ ?_
 ·rfl
 ·clear h;intro hb h;conv=>whnf
  all_goals (cases h;exact Res.z rfl rfl rfl)
 clear h;intro hb h;conv=>whnf
 all_goals (cases h;exact Res.z rfl rfl rfl)
theorem ok22 (Xa6:(List UInt8)→Option (Xaf×Int×Int×Int)) (hS:Xai Tryz.prog (Xav (XDe Xa6))):Xar Tryz.prog 22 (s22 (Xez Xa6)):=by
 refine Xar.Xay Xao (fun ar os r ha hr=>?_) ⟨Tryz.f22,rfl,by decide,rfl⟩
 replace hr:r22 (Xez Xa6) ar (XaD os)=some r:=hr
 unfold r22 at hr
 generalize hc:XaD os=C at hr
 replace hr:=dV.elim hr;obtain ⟨v0,l1,y0,rfl,e0,hr⟩:=hr;obtain rfl:=XbH _ _ e0
 replace hr:=Xc2 hr;obtain ⟨rfl,rfl,x,h,rfl⟩:=hr
 obtain rfl:=Xas hc
 exact ⟨_,rfl,XPL Xa6 hS _ x h⟩
def XcE:(List UInt8)→Option (Int×Int×Int):=Xez Xa6
theorem lift22:Xar Tryz.prog 22 (s22 XcE):=ok22 Xa6 (Xai.XaW ⟨XCO,trivial⟩)
end Go.Vm.Code
