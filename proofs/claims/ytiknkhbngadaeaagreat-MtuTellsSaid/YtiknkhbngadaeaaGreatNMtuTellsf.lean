import Derived.Test.YtiknkhbngadaeaaGreatNMtuTellse
namespace Go.Vm.Code
open Go Go.Vm Go.Proofs
set_option maxRecDepth 100000
set_option maxHeartbeats 4000000
set_option linter.unusedVariables false
def Xfr (XbF:(List UInt8)→Option (Xap×Int)) (XaJ:Xap→Xag→Option (Int×Int×Xag)) (XaQ:Xap→Xag→Option (Int×Int×Xag)) (s:List UInt8):Option (Xag×Int×Int×Int):=
 cond (decide ((s.length:Int)>9000))
  (
  some ((Xag.mk (Xbt.mk 0 (Xaa.mk false 0 0) (Xaa.mk false 0 0) 0 0) 0 false 0 0 false [] 0,0,0,5)))
  (
  cond (s==[])
   (
   some ((Xag.mk (Xbt.mk 0 (Xaa.mk false 0 0) (Xaa.mk false 0 0) 0 0) 0 false 0 0 false [] 0,0,0,2)))
   (
   (XbF s).bind fun xo=>
   cond (xo.2 !=0)
    (
    some ((Xag.mk (Xbt.mk 0 (Xaa.mk false 0 0) (Xaa.mk false 0 0) 0 0) 0 false 0 0 false [] 0,0,0,xo.2)))
    (
    cond (xo.1.proto==6)
     (
     (XaQ xo.1 (Xag.mk (Xbt.mk xo.1.proto xo.1.src xo.1.dst 0 0) 0 false 0 0 false [] (s.length:Int))).bind fun s1=>
     cond (s1.2.1 !=0)
      (
      some ((Xag.mk (Xbt.mk 0 (Xaa.mk false 0 0) (Xaa.mk false 0 0) 0 0) 0 false 0 0 false [] 0,0,0,s1.2.1)))
      (
      some ((s1.2.2,(xo.1.body.length:Int),s1.1,0))))
     (
     cond (xo.1.proto==17)
      (
      (XaJ xo.1 (Xag.mk (Xbt.mk xo.1.proto xo.1.src xo.1.dst 0 0) 0 false 0 0 false [] (s.length:Int))).bind fun d=>
      cond (d.2.1 !=0)
       (
       some ((Xag.mk (Xbt.mk 0 (Xaa.mk false 0 0) (Xaa.mk false 0 0) 0 0) 0 false 0 0 false [] 0,0,0,d.2.1)))
       (
       some ((d.2.2,(xo.1.body.length:Int),d.1,0))))
      (
      some ((Xag.mk (Xbt.mk 0 (Xaa.mk false 0 0) (Xaa.mk false 0 0) 0 0) 0 false 0 0 false [] 0,0,0,6)))))))
def rx46 (x:Xag×Int×Int×Int):Xco:=⟨.tuple ⟨[.agg ⟨[.int .i64 x.1.Tuple.Proto,.bool x.1.Tuple.Src.V6,.int .u64 x.1.Tuple.Src.Hi,.int .u64 x.1.Tuple.Src.Lo,.bool x.1.Tuple.Dst.V6,.int .u64 x.1.Tuple.Dst.Hi,.int .u64 x.1.Tuple.Dst.Lo,.int .i64 x.1.Tuple.SPort,.int .i64 x.1.Tuple.DPort,.int .i64 x.1.Flags,.bool x.1.Stamped,.int .u32 x.1.Val,.int .u32 x.1.Echo,.bool x.1.Long,.string ⟨⟨x.1.CID⟩⟩,.int .i64 x.1.Size]⟩,.int .i64 x.2.1,.int .i64 x.2.2.1,.int .i64 x.2.2.2]⟩,[],[]⟩
def r46 (g:(List UInt8)→Option (Xag×Int×Int×Int)):Dec:=dV asS fun (y0:List UInt8)=>Xc4 (ofG (g y0) rx46)
theorem r46_c {g:(List UInt8)→Option (Xag×Int×Int×Int)} {y0:List UInt8} {x:Xag×Int×Int×Int} (hx:g y0=some x):r46 g [.string ⟨⟨y0⟩⟩] []=some (rx46 x):=(XaS (XdJ)).trans (XaZ hx)
def s46 (g:(List UInt8)→Option (Xag×Int×Int×Int)):Xbp:=⟨[.v],r46 g⟩
theorem XNf {g:(List UInt8)→Option (Xag×Int×Int×Int)} {y0:List UInt8} {x:Xag×Int×Int×Int} (hx:g y0=some x):(s46 g).run [.string ⟨⟨y0⟩⟩] []=some (rx46 x):=r46_c hx
abbrev Xz6 (XbF:(List UInt8)→Option (Xap×Int)) (XaJ:Xap→Xag→Option (Int×Int×Xag)) (XaQ:Xap→Xag→Option (Int×Int×Xag)):List (Nat×Xbp):=[(71,s71 XbF),(73,s73 XaJ),(72,s72 XaQ)]
theorem XFI (XbF:(List UInt8)→Option (Xap×Int)) (XaJ:Xap→Xag→Option (Int×Int×Xag)) (XaQ:Xap→Xag→Option (Int×Int×Xag)) (hS:Xai Tryz.prog (Xar (Xz6 XbF XaJ XaQ))) (s:List UInt8) (res:Xag×Int×Int×Int) (h:Xfr XbF XaJ XaQ s=some res) :
 XaD Tryz.prog 46 0 ⟨⟨46,63,[(0,.string ⟨⟨s⟩⟩)],[.code XAK],[],false,none⟩,[],[],0⟩ (fun v H _=>Res 0 (rx46 res) v H):=by
 unfold Xfr at h
 refine Xa9 Xam hS true 3000 ?_
 conv=>whnf
 refine br.h h ?_ ?_ ?_
 ·rfl
 ·clear h;intro hb h;conv=>whnf
  all_goals (cases h;exact Res.z rfl rfl rfl)
 clear h;intro hb h;conv=>whnf
 refine br.h h ?_ ?_ ?_
 ·rfl
 ·clear h;intro hb h;conv=>whnf
  all_goals (cases h;exact Res.z rfl rfl rfl)
 clear h;intro hb h;conv=>whnf
 replace h:=Xak.elim h;obtain ⟨xo,hy,h⟩:=h
 refine XaG.q rfl rfl (X6b hy) rfl rfl rfl ?_
 conv=>whnf
 refine br.h h ?_ ?_ ?_
 ·rfl
 ·clear h;intro hb h;conv=>whnf
  all_goals (cases h;exact Res.z rfl rfl rfl)
 clear h;intro hb h;conv=>whnf
 refine br.h h ?_ ?_ ?_
 ·rfl
 ·clear h;intro hb h;conv=>whnf
  replace h:=Xak.elim h;obtain ⟨s1,hy,h⟩:=h
  refine XaG.Xba [2] (Xat (aqs:=[.agg ⟨[.bool xo.1.src.V6,.int .u64 xo.1.src.Hi,.int .u64 xo.1.src.Lo,.bool xo.1.dst.V6,.int .u64 xo.1.dst.Hi,.int .u64 xo.1.dst.Lo,.int .i64 xo.1.proto,.string ⟨⟨xo.1.body⟩⟩]⟩,.pointer (some ⟨0,0,none⟩)]) (ws:=[.win 2 0 16 true]) (n:=0) (m:=0) (t':=3) (Xas rfl rfl (Xas rfl rfl Xbd)) rfl (by rfl) (XRg hy) rfl rfl rfl rfl (XbK rfl rfl rfl ⟨rfl,Nat.le_of_ble_eq_true rfl⟩ rfl rfl Xbc) Xbb rfl) ?_
  conv=>whnf
  refine br.h h ?_ ?_ ?_
  ·rfl
  ·clear h;intro hb h;conv=>whnf
   all_goals (cases h;exact Res.z rfl rfl rfl)
  clear h;intro hb h;conv=>whnf
  all_goals (cases h;exact Res.z rfl rfl rfl)
 clear h;intro hb h;conv=>whnf
 refine br.h2 h ?_ ?_ ?_
 ·rfl
 ·clear h;intro hb h;conv=>whnf
  all_goals (cases h;exact Res.z rfl rfl rfl)
 clear h;intro hb h;conv=>whnf
 replace h:=Xak.elim h;obtain ⟨d,hy,h⟩:=h
 refine XaG.Xba [2] (Xat (aqs:=[.agg ⟨[.bool xo.1.src.V6,.int .u64 xo.1.src.Hi,.int .u64 xo.1.src.Lo,.bool xo.1.dst.V6,.int .u64 xo.1.dst.Hi,.int .u64 xo.1.dst.Lo,.int .i64 xo.1.proto,.string ⟨⟨xo.1.body⟩⟩]⟩,.pointer (some ⟨0,0,none⟩)]) (ws:=[.win 2 0 16 true]) (n:=0) (m:=0) (t':=3) (Xas rfl rfl (Xas rfl rfl Xbd)) rfl (by rfl) (XY0 hy) rfl rfl rfl rfl (XbK rfl rfl rfl ⟨rfl,Nat.le_of_ble_eq_true rfl⟩ rfl rfl Xbc) Xbb rfl) ?_
 conv=>whnf
 refine br.h h ?_ ?_ ?_
 ·rfl
 ·clear h;intro hb h;conv=>whnf
  all_goals (cases h;exact Res.z rfl rfl rfl)
 clear h;intro hb h;conv=>whnf
 all_goals (cases h;exact Res.z rfl rfl rfl)
theorem ok46 (XbF:(List UInt8)→Option (Xap×Int)) (XaJ:Xap→Xag→Option (Int×Int×Xag)) (XaQ:Xap→Xag→Option (Int×Int×Xag)) (hS:Xai Tryz.prog (Xar (Xz6 XbF XaJ XaQ))):Xan Tryz.prog 46 (s46 (Xfr XbF XaJ XaQ)):=by
 refine Xan.Xau Xam (fun ar os r ha hr=>?_) ⟨Tryz.f46,rfl,by decide,rfl⟩
 replace hr:r46 (Xfr XbF XaJ XaQ) ar (XaA os)=some r:=hr
 unfold r46 at hr
 generalize hc:XaA os=C at hr
 replace hr:=dV.elim hr;obtain ⟨v0,l1,y0,rfl,e0,hr⟩:=hr;obtain rfl:=Xb7 _ _ e0
 replace hr:=Xdf hr;obtain ⟨rfl,rfl,x,h,rfl⟩:=hr
 obtain rfl:=Xao hc
 exact ⟨_,rfl,XFI XbF XaJ XaQ hS _ x h⟩
def XbZ:(List UInt8)→Option (Xag×Int×Int×Int):=Xfr XbF XaJ XaQ
theorem XN8:Xan Tryz.prog 46 (s46 XbZ):=ok46 XbF XaJ XaQ (Xai.XaW ⟨XPn,X4z,X1o,trivial⟩)
def XeQ (XbZ:(List UInt8)→Option (Xag×Int×Int×Int)) (s:List UInt8):Option (Xag×Int):=
 (XbZ s).bind fun t=>
 some ((t.1,t.2.2.2))
def rx22 (x:Xag×Int):Xco:=⟨.tuple ⟨[.agg ⟨[.int .i64 x.1.Tuple.Proto,.bool x.1.Tuple.Src.V6,.int .u64 x.1.Tuple.Src.Hi,.int .u64 x.1.Tuple.Src.Lo,.bool x.1.Tuple.Dst.V6,.int .u64 x.1.Tuple.Dst.Hi,.int .u64 x.1.Tuple.Dst.Lo,.int .i64 x.1.Tuple.SPort,.int .i64 x.1.Tuple.DPort,.int .i64 x.1.Flags,.bool x.1.Stamped,.int .u32 x.1.Val,.int .u32 x.1.Echo,.bool x.1.Long,.string ⟨⟨x.1.CID⟩⟩,.int .i64 x.1.Size]⟩,.int .i64 x.2]⟩,[],[]⟩
def r22 (g:(List UInt8)→Option (Xag×Int)):Dec:=dV asS fun (y0:List UInt8)=>Xc4 (ofG (g y0) rx22)
theorem r22_c {g:(List UInt8)→Option (Xag×Int)} {y0:List UInt8} {x:Xag×Int} (hx:g y0=some x):r22 g [.string ⟨⟨y0⟩⟩] []=some (rx22 x):=(XaS (XdJ)).trans (XaZ hx)
def s22 (g:(List UInt8)→Option (Xag×Int)):Xbp:=⟨[.v],r22 g⟩
theorem X0g {g:(List UInt8)→Option (Xag×Int)} {y0:List UInt8} {x:Xag×Int} (hx:g y0=some x):(s22 g).run [.string ⟨⟨y0⟩⟩] []=some (rx22 x):=r22_c hx
abbrev XzS (XbZ:(List UInt8)→Option (Xag×Int×Int×Int)):List (Nat×Xbp):=[(46,s46 XbZ)]
theorem XFe (XbZ:(List UInt8)→Option (Xag×Int×Int×Int)) (hS:Xai Tryz.prog (Xar (XzS XbZ))) (s:List UInt8) (res:Xag×Int) (h:XeQ XbZ s=some res) :
 XaD Tryz.prog 22 0 ⟨⟨22,17,[(0,.string ⟨⟨s⟩⟩)],[.code XTc],[],false,none⟩,[],[],0⟩ (fun v H _=>Res 0 (rx22 res) v H):=by
 unfold XeQ at h
 refine Xa9 Xam hS true 3000 ?_
 conv=>whnf
 replace h:=Xak.elim h;obtain ⟨t,hy,h⟩:=h
 refine XaG.q rfl rfl (XNf hy) rfl rfl rfl ?_
 conv=>whnf
 all_goals (cases h;exact Res.z rfl rfl rfl)
theorem ok22 (XbZ:(List UInt8)→Option (Xag×Int×Int×Int)) (hS:Xai Tryz.prog (Xar (XzS XbZ))):Xan Tryz.prog 22 (s22 (XeQ XbZ)):=by
 refine Xan.Xau Xam (fun ar os r ha hr=>?_) ⟨Tryz.f22,rfl,by decide,rfl⟩
 replace hr:r22 (XeQ XbZ) ar (XaA os)=some r:=hr
 unfold r22 at hr
 generalize hc:XaA os=C at hr
 replace hr:=dV.elim hr;obtain ⟨v0,l1,y0,rfl,e0,hr⟩:=hr;obtain rfl:=Xb7 _ _ e0
 replace hr:=Xdf hr;obtain ⟨rfl,rfl,x,h,rfl⟩:=hr
 obtain rfl:=Xao hc
 exact ⟨_,rfl,XFe XbZ hS _ x h⟩
def XbR:(List UInt8)→Option (Xag×Int):=XeQ XbZ
theorem XXz:Xan Tryz.prog 22 (s22 XbR):=ok22 XbZ (Xai.XaW ⟨XN8,trivial⟩)
end Go.Vm.Code
namespace Go.Vm.Code
open Go Go.Vm
def zP:Xag:=⟨⟨0,⟨false,0,0⟩,⟨false,0,0⟩,0,0⟩,0,false,0,0,false,[],0⟩
structure O11 where
 src:Xaa
 dst:Xaa
 proto:Int
 size:Nat
 body:List UInt8
 err:Int
def zO (e:Int):O11:=⟨⟨false,0,0⟩,⟨false,0,0⟩,0,0,[],e⟩
def Xa5 (s:List UInt8):O11:=
 if vK s 0 1/16=4 then (if (XgN s).2.2≠0 then zO (XgN s).2.2 else if s.length≠20+(XgN s).1.Options.length+(XgN s).2.1.length then zO 5 else ⟨(XgN s).1.Src,(XgN s).1.Dst,(XgN s).1.Proto,20+(XgN s).1.Options.length,(XgN s).2.1,0⟩)
 else if vK s 0 1/16=6 then (if (XiT s).2.2≠0 then zO (XiT s).2.2 else if s.length≠40+(XiT s).2.1.length then zO 5 else ⟨(XiT s).1.Src,(XiT s).1.Dst,(XiT s).1.Next,40,(XiT s).2.1,0⟩)
 else zO 3
def XAB (o:List UInt8):Bool×Int×Int:=if 0≤(Xj0 o).2.2 then (true,(Xj0 o).1,(Xj0 o).2.1) else (false,0,0)
def XLv (b:List UInt8):Bool×List UInt8:=if (Xsj b).2=0 then ((Xsj b).1.Long,(Xsj b).1.DCID) else (false,[])
def Xgi (o:O11) (n:Nat):Xag×Nat×Int:=
 if o.proto=6 then (if (Xig o.body o.src o.dst).2.2≠0 then (zP,0,(Xig o.body o.src o.dst).2.2) else
  (⟨⟨o.proto,o.src,o.dst,(Xig o.body o.src o.dst).1.SPort,(Xig o.body o.src o.dst).1.DPort⟩,(Xig o.body o.src o.dst).1.Flags,(XAB (Xig o.body o.src o.dst).1.Options).1,(XAB (Xig o.body o.src o.dst).1.Options).2.1,(XAB (Xig o.body o.src o.dst).1.Options).2.2,false,[],n⟩,(Xig o.body o.src o.dst).2.1.length,0))
 else if o.proto=17 then (if (Xhr o.body o.src o.dst).2.2≠0 then (zP,0,(Xhr o.body o.src o.dst).2.2) else if (Xhr o.body o.src o.dst).2.1.length+8≠o.body.length then (zP,0,5) else
  (⟨⟨o.proto,o.src,o.dst,(Xhr o.body o.src o.dst).1.SPort,(Xhr o.body o.src o.dst).1.DPort⟩,0,false,0,0,(XLv (Xhr o.body o.src o.dst).2.1).1,(XLv (Xhr o.body o.src o.dst).2.1).2,n⟩,(Xhr o.body o.src o.dst).2.1.length,0))
 else (zP,0,6)
def XbN (s:List UInt8):Xag×Nat×Nat×Int:=
 if 9000<s.length then (zP,0,0,5) else if s=[] then (zP,0,0,2) else if (Xa5 s).err≠0 then (zP,0,0,(Xa5 s).err) else
  if (Xgi (Xa5 s) s.length).2.2≠0 then (zP,0,0,(Xgi (Xa5 s) s.length).2.2) else
   ((Xgi (Xa5 s) s.length).1,s.length - (Xa5 s).body.length,s.length - (Xgi (Xa5 s) s.length).2.1,0)
theorem XJA (s:List UInt8):A4 (XgN s).1.Src∧A4 (XgN s).1.Dst:=by
 have z:A4 ⟨false,0,0⟩:=⟨by simp only [];omega,by simp only [];omega,by simp only [];omega,by simp only [];omega⟩
 have k:∀ p,A4 (adr4 s p):=fun p=>by
  have:=Xej s p 4 4294967296 (by decide)
  exact ⟨Int.le_refl 0,by show (0:Int)<2^64;decide,this.1,by show vK s p 4<2^64;omega⟩
 unfold XgN
 split
 ·exact ⟨z,z⟩
 split
 ·exact ⟨z,z⟩
 split
 ·exact ⟨z,z⟩
 split
 ·exact ⟨z,z⟩
 split
 ·exact ⟨z,z⟩
 split
 ·exact ⟨z,z⟩
 split
 ·exact ⟨z,z⟩
 exact ⟨k 12,k 16⟩
theorem XDu (s:List UInt8):A4 (XiT s).1.Src∧A4 (XiT s).1.Dst:=by
 have z:A4 ⟨false,0,0⟩:=⟨by simp only [];omega,by simp only [];omega,by simp only [];omega,by simp only [];omega⟩
 have k:∀ p,A4 (XsF ((s.drop p).take 16)):=fun p=>by
  have h1:Xd0 (((s.drop p).take 16).take 8)<2^64:=XdK _ (by decide)
  have h2:Xd0 (((s.drop p).take 16).drop 8)<2^64:=by
   have:=Xpg (((s.drop p).take 16).drop 8)
   refine Nat.lt_of_lt_of_le this ?_
   have:(((s.drop p).take 16).drop 8).length≤8:=by simp;omega
   exact Nat.pow_le_pow_right (n:=256) (by decide) this
  unfold XsF
  exact ⟨by simp only [];omega,by simp only [];omega,by simp only [];omega,by simp only [];omega⟩
 unfold XiT
 split
 ·exact ⟨z,z⟩
 split
 ·exact ⟨z,z⟩
 split
 ·exact ⟨z,z⟩
 exact ⟨k 8,k 24⟩
theorem Xmd (s:List UInt8):A4 (Xa5 s).src∧A4 (Xa5 s).dst:=by
 have z:A4 ⟨false,0,0⟩:=⟨by simp only [];omega,by simp only [];omega,by simp only [];omega,by simp only [];omega⟩
 unfold Xa5 zO
 split
 ·split
  ·exact ⟨z,z⟩
  split
  ·exact ⟨z,z⟩
  exact XJA s
 split
 ·split
  ·exact ⟨z,z⟩
  split
  ·exact ⟨z,z⟩
  exact XDu s
 exact ⟨z,z⟩
theorem Xkc {s:List UInt8} (h:(Xa5 s).err=0):(Xa5 s).body.length+(Xa5 s).size=s.length:=by
 unfold Xa5 at h ⊢
 by_cases g1:vK s 0 1/16=4
 ·rw [if_pos g1] at h ⊢
  by_cases g2:(XgN s).2.2≠0
  ·rw [if_pos g2] at h;exact absurd h g2
  rw [if_neg g2] at h ⊢
  by_cases g3:s.length≠20+(XgN s).1.Options.length+(XgN s).2.1.length
  ·rw [if_pos g3] at h;exact absurd h (by decide)
  rw [if_neg g3]
  simp only [];omega
 rw [if_neg g1] at h ⊢
 by_cases g4:vK s 0 1/16=6
 ·rw [if_pos g4] at h ⊢
  by_cases g2:(XiT s).2.2≠0
  ·rw [if_pos g2] at h;exact absurd h g2
  rw [if_neg g2] at h ⊢
  by_cases g3:s.length≠40+(XiT s).2.1.length
  ·rw [if_pos g3] at h;exact absurd h (by decide)
  rw [if_neg g3]
  simp only [];omega
 ·rw [if_neg g4] at h;exact absurd h (by decide)
theorem Xqt {s:List UInt8} (h:(XbN s).2.2.2≠0):XbN s=(zP,0,0,(XbN s).2.2.2):=by
 unfold XbN at h ⊢
 split
 ·rfl
 rename_i g1
 rw [if_neg g1] at h
 split
 ·rfl
 rename_i g2
 rw [if_neg g2] at h
 split
 ·rfl
 rename_i g3
 rw [if_neg g3] at h
 split
 ·rfl
 rename_i g4
 rw [if_neg g4] at h
 exact absurd rfl h
def o11 (o:O11):Xap:=⟨o.src,o.dst,o.proto,o.body⟩
theorem XtZ {s:List UInt8} (hs:s.length<2^19) (hn:s≠[]):XbF s=some (o11 (Xa5 s),(Xa5 s).err):=by
 unfold XbF Xef
 have h0:0<s.length:=List.length_pos_iff.2 hn
 have e0:=XjZ (s:=s) (p:=0) h0
 have r0:=Xej s 0 1 256 (by decide)
 rw [List.getElem?_eq_getElem h0,Option.bind_some,←e0,XoJ,show ((2:Int)^4)=16 from rfl,g5_eq (by omega),XKB (by omega),Option.bind_some,Option.bind_some]
 unfold Xa5
 by_cases g1:vK s 0 1/16=4
 ·rw [if_pos g1,show (vK s 0 1/16==4)=true by simpa using g1,cond_true]
  by_cases g2:(XgN s).2.2=0
  ·have hb:(XgN s).1.Options.length≤s.length∧(XgN s).2.1.length≤s.length:=by
    unfold XgN
    repeat' split
    all_goals simp [Xms]
    omega
   rw [if_neg (by simpa using g2),show ((XgN s).2.2 !=0)=false by simpa using g2,cond_false,XcC (n:=20+((XgN s).1.Options.length:Int)) (by omega) (by omega)]
   simp only []
   rw [XcC (n:=20+((XgN s).1.Options.length:Int)+((XgN s).2.1.length:Int)) (by omega) (by omega)]
   by_cases g3:s.length=20+(XgN s).1.Options.length+(XgN s).2.1.length
   ·rw [if_neg (by simpa using g3),show ((s.length:Int) !=20+((XgN s).1.Options.length:Int)+((XgN s).2.1.length:Int))=false by simp;omega];rfl
   ·rw [if_pos g3,show ((s.length:Int) !=20+((XgN s).1.Options.length:Int)+((XgN s).2.1.length:Int))=true by simp;omega];rfl
  ·rw [if_pos g2,show ((XgN s).2.2 !=0)=true by simpa using g2,cond_true];rfl
 ·rw [if_neg g1,show (vK s 0 1/16==4)=false by simpa using g1,cond_false]
  by_cases g4:vK s 0 1/16=6
  ·rw [if_pos g4,show (vK s 0 1/16==6)=true by simpa using g4,cond_true]
   by_cases g2:(XiT s).2.2=0
   ·have hb:(XiT s).2.1.length≤s.length:=by
     unfold XiT
     repeat' split
     all_goals simp
     omega
    rw [if_neg (by simpa using g2),show ((XiT s).2.2 !=0)=false by simpa using g2,cond_false,XcC (n:=40+((XiT s).2.1.length:Int)) (by omega) (by omega)]
    by_cases g3:s.length=40+(XiT s).2.1.length
    ·rw [if_neg (by simpa using g3),show ((s.length:Int) !=40+((XiT s).2.1.length:Int))=false by simp;omega];rfl
    ·rw [if_pos g3,show ((s.length:Int) !=40+((XiT s).2.1.length:Int))=true by simp;omega];rfl
   ·rw [if_pos g2,show ((XiT s).2.2 !=0)=true by simpa using g2,cond_true];rfl
  ·rw [if_neg g4,show (vK s 0 1/16==6)=false by simpa using g4,cond_false];rfl
theorem XOO {o:O11} {n:Nat} (h1:A4 o.src) (h2:A4 o.dst) (hb:o.body.length<2^19) (hp:o.proto=6):∃ q,XaQ (o11 o) ⟨⟨o.proto,o.src,o.dst,0,0⟩,0,false,0,0,false,[],(n:Int)⟩=some (((Xgi o n).2.1:Int),(Xgi o n).2.2,q)∧((Xgi o n).2.2=0→q=(Xgi o n).1):=by
 unfold XaQ Xck Xgi o11
 rw [if_pos hp]
 simp only []
 rw [Xwo h1 h2 (by omega),Option.bind_some]
 by_cases g:(Xig o.body o.src o.dst).2.2=0
 ·have ho:(Xig o.body o.src o.dst).1.Options.length<2^20:=by
   unfold Xig
   repeat' split
   all_goals simp [Xm0]
   all_goals omega
  rw [if_neg (by simpa using g),show ((Xig o.body o.src o.dst).2.2 !=0)=false by simpa using g,cond_false,XG1 ho,Option.bind_some]
  unfold XAB
  by_cases g2:0≤(Xj0 (Xig o.body o.src o.dst).1.Options).2.2
  ·rw [if_pos g2,XaV (by omega)]
   exact ⟨_,rfl,fun _=>rfl⟩
  ·rw [if_neg g2,XaM (by omega)]
   exact ⟨_,rfl,fun _=>rfl⟩
 ·rw [if_pos g,show ((Xig o.body o.src o.dst).2.2 !=0)=true by simpa using g,cond_true]
  exact ⟨_,rfl,fun h=>absurd h g⟩
theorem XPk {o:O11} {n:Nat} (h1:A4 o.src) (h2:A4 o.dst) (hb:o.body.length<2^19) (hp:o.proto=17):∃ q,XaJ (o11 o) ⟨⟨o.proto,o.src,o.dst,0,0⟩,0,false,0,0,false,[],(n:Int)⟩=some (((Xgi o n).2.1:Int),(Xgi o n).2.2,q)∧((Xgi o n).2.2=0→q=(Xgi o n).1):=by
 unfold XaJ Xb4 Xgi o11
 rw [if_neg (by omega),if_pos hp]
 simp only []
 rw [XHo h1 h2 (by omega),Option.bind_some]
 by_cases g:(Xhr o.body o.src o.dst).2.2=0
 ·have ho:(Xhr o.body o.src o.dst).2.1.length<2^20:=by
   unfold Xhr
   repeat' split
   all_goals simp
   all_goals omega
  rw [if_neg (by simpa using g),show ((Xhr o.body o.src o.dst).2.2 !=0)=false by simpa using g,cond_false,XcC (n:=(o.body.length:Int) - 8) (by omega) (by omega)]
  by_cases g2:(Xhr o.body o.src o.dst).2.1.length+8=o.body.length
  ·rw [if_neg (by simpa using g2),show (((Xhr o.body o.src o.dst).2.1.length:Int) !=(o.body.length:Int) - 8)=false by simp;omega,cond_false,Xy2 (by omega),Option.bind_some]
   unfold XLv
   by_cases g3:(Xsj (Xhr o.body o.src o.dst).2.1).2=0
   ·rw [if_pos g3,show ((Xsj (Xhr o.body o.src o.dst).2.1).2==0)=true by simpa using g3,cond_true]
    exact ⟨_,rfl,fun _=>rfl⟩
   ·rw [if_neg g3,show ((Xsj (Xhr o.body o.src o.dst).2.1).2==0)=false by simpa using g3,cond_false]
    exact ⟨_,rfl,fun _=>rfl⟩
  ·rw [if_pos g2,show (((Xhr o.body o.src o.dst).2.1.length:Int) !=(o.body.length:Int) - 8)=true by simp;omega,cond_true]
   exact ⟨_,rfl,fun h=>absurd h (by decide)⟩
 ·rw [if_pos g,show ((Xhr o.body o.src o.dst).2.2 !=0)=true by simpa using g,cond_true]
  exact ⟨_,rfl,fun h=>absurd h g⟩
def Xjf (s:List UInt8):Xag×Int×Int×Int:=
 if (XbN s).2.2.2≠0 then (zP,0,0,(XbN s).2.2.2) else ((XbN s).1,((s.length - (XbN s).2.1:Nat):Int),((s.length - (XbN s).2.2.1:Nat):Int),0)
theorem XwL {o:O11} {n:Nat}:(Xgi o n).2.1≤o.body.length:=by
 unfold Xgi
 split
 ·split
  ·simp
  ·show (Xig o.body o.src o.dst).2.1.length≤_
   unfold Xig
   repeat' split
   all_goals simp
 split
 ·split
  ·simp
  split
  ·simp
  ·show (Xhr o.body o.src o.dst).2.1.length≤_
   unfold Xhr
   repeat' split
   all_goals simp
   all_goals omega
 ·simp
theorem Xxr {s:List UInt8} (hs:s.length<2^19):XbZ s=some (Xjf s):=by
 unfold XbZ Xfr
 have hz:(⟨⟨0,⟨false,0,0⟩,⟨false,0,0⟩,0,0⟩,0,false,0,0,false,[],0⟩:Xag)=zP:=rfl
 rw [hz]
 by_cases g1:9000<s.length
 ·have hT:XbN s=(zP,0,0,5):=by unfold XbN;rw [if_pos g1]
  unfold Xjf
  rw [XaV (by omega),hT];rfl
 rw [XaM (by omega)]
 by_cases g2:s=[]
 ·subst g2;rfl
 rw [show (s==[])=false by simpa using g2,cond_false,XtZ hs g2,Option.bind_some]
 obtain ⟨a1,a2⟩:=Xmd s
 by_cases g3:(Xa5 s).err=0
 ·have hb:=Xkc g3
  have hil:=XwL (o:=Xa5 s) (n:=s.length)
  have hE:(Xgi (Xa5 s) s.length).2.2≠0→Xjf s=(zP,0,0,(Xgi (Xa5 s) s.length).2.2):=fun g4=>by
   have hT:XbN s=(zP,0,0,(Xgi (Xa5 s) s.length).2.2):=by unfold XbN;rw [if_neg g1,if_neg g2,if_neg (by simpa using g3),if_pos g4]
   unfold Xjf
   rw [hT,if_pos g4]
  have hO:(Xgi (Xa5 s) s.length).2.2=0→Xjf s=((Xgi (Xa5 s) s.length).1,((Xa5 s).body.length:Int),((Xgi (Xa5 s) s.length).2.1:Int),0):=fun g4=>by
   have hT:XbN s=((Xgi (Xa5 s) s.length).1,s.length - (Xa5 s).body.length,s.length - (Xgi (Xa5 s) s.length).2.1,0):=by unfold XbN;rw [if_neg g1,if_neg g2,if_neg (by simpa using g3),if_neg (by simpa using g4)]
   unfold Xjf
   rw [hT,if_neg (by simp)]
   simp only []
   rw [show s.length - (s.length - (Xa5 s).body.length)=(Xa5 s).body.length by omega,show s.length - (s.length - (Xgi (Xa5 s) s.length).2.1)=(Xgi (Xa5 s) s.length).2.1 by omega]
  simp only [g3,bne_self_eq_false,cond_false]
  by_cases p6:(Xa5 s).proto=6
  ·obtain ⟨q,q1,q2⟩:=XOO (o:=Xa5 s) (n:=s.length) a1 a2 (by omega) p6
   have e6:((o11 (Xa5 s)).proto==6)=true:=by show ((Xa5 s).proto==6)=true;simpa using p6
   rw [e6,cond_true]
   show (XaQ (o11 (Xa5 s)) ⟨⟨(Xa5 s).proto,(Xa5 s).src,(Xa5 s).dst,0,0⟩,0,false,0,0,false,[],(s.length:Int)⟩).bind _=_
   rw [q1,Option.bind_some]
   simp only []
   by_cases g4:(Xgi (Xa5 s) s.length).2.2=0
   ·rw [hO g4,g4,q2 g4];rfl
   ·rw [hE g4,show ((Xgi (Xa5 s) s.length).2.2 !=0)=true by simpa using g4];rfl
  ·have e6:((o11 (Xa5 s)).proto==6)=false:=by show ((Xa5 s).proto==6)=false;simpa using p6
   rw [e6,cond_false]
   by_cases p17:(Xa5 s).proto=17
   ·obtain ⟨q,q1,q2⟩:=XPk (o:=Xa5 s) (n:=s.length) a1 a2 (by omega) p17
    have e17:((o11 (Xa5 s)).proto==17)=true:=by show ((Xa5 s).proto==17)=true;simpa using p17
    rw [e17,cond_true]
    show (XaJ (o11 (Xa5 s)) ⟨⟨(Xa5 s).proto,(Xa5 s).src,(Xa5 s).dst,0,0⟩,0,false,0,0,false,[],(s.length:Int)⟩).bind _=_
    rw [q1,Option.bind_some]
    simp only []
    by_cases g4:(Xgi (Xa5 s) s.length).2.2=0
    ·rw [hO g4,g4,q2 g4];rfl
    ·rw [hE g4,show ((Xgi (Xa5 s) s.length).2.2 !=0)=true by simpa using g4];rfl
   ·have e17:((o11 (Xa5 s)).proto==17)=false:=by show ((Xa5 s).proto==17)=false;simpa using p17
    have e6':(Xgi (Xa5 s) s.length).2.2=6:=by unfold Xgi;rw [if_neg p6,if_neg p17]
    rw [e17,cond_false,hE (by rw [e6'];decide),e6']
 ·have hT:XbN s=(zP,0,0,(Xa5 s).err):=by unfold XbN;rw [if_neg g1,if_neg g2,if_pos g3]
  unfold Xjf
  rw [hT,if_pos g3,show ((Xa5 s).err !=0)=true by simpa using g3];rfl
theorem XyY {s:List UInt8} (hs:s.length<2^19):XbR s=some ((XbN s).1,(XbN s).2.2.2):=by
 unfold XbR XeQ
 rw [Xxr hs,Option.bind_some]
 unfold Xjf
 by_cases g:(XbN s).2.2.2=0
 ·rw [if_neg (by simpa using g),g]
 ·rw [if_pos g,Xqt g]
end Go.Vm.Code
namespace Go.Vm.Code
open Go Go.Vm Go.Proofs
set_option maxRecDepth 100000
set_option maxHeartbeats 4000000
set_option linter.unusedVariables false
def Xil (XeM:(List UInt8)→Option (Xah×(List UInt8)×Int)) (Xew:(List UInt8)→Option (Xaj×(List UInt8)×Int)) (s:List UInt8):Option (Xb9×Int):=
 (s[0]?).bind fun (b:UInt8)=>
 cond ((wI .u8 ((b.toNat:Int).tdiv 16))==4)
  (
  (XeM s).bind fun xg=>
  let t:=wI .i64 (20+(xg.1.Options.length:Int))
  some ((Xb9.mk xg.1.Src xg.1.Dst xg.1.Proto t xg.2.1,xg.2.2)))
  (
  (s[0]?).bind fun (b1:UInt8)=>
  cond ((wI .u8 ((b1.toNat:Int).tdiv 16))==6)
   (
   (Xew s).bind fun xg1=>
   some ((Xb9.mk xg1.1.Src xg1.1.Dst xg1.1.Next 40 xg1.2.1,xg1.2.2)))
   (
   some ((Xb9.mk (Xaa.mk false 0 0) (Xaa.mk false 0 0) 0 0 [],3))))
def rx56 (x:Xb9×Int):Xco:=⟨.tuple ⟨[.agg ⟨[.bool x.1.src.V6,.int .u64 x.1.src.Hi,.int .u64 x.1.src.Lo,.bool x.1.dst.V6,.int .u64 x.1.dst.Hi,.int .u64 x.1.dst.Lo,.int .i64 x.1.proto,.int .i64 x.1.size,.string ⟨⟨x.1.body⟩⟩]⟩,.int .i64 x.2]⟩,[],[]⟩
def r56 (g:(List UInt8)→Option (Xb9×Int)):Dec:=dV asS fun (y0:List UInt8)=>Xc4 (ofG (g y0) rx56)
theorem r56_c {g:(List UInt8)→Option (Xb9×Int)} {y0:List UInt8} {x:Xb9×Int} (hx:g y0=some x):r56 g [.string ⟨⟨y0⟩⟩] []=some (rx56 x):=(XaS (XdJ)).trans (XaZ hx)
def s56 (g:(List UInt8)→Option (Xb9×Int)):Xbp:=⟨[.v],r56 g⟩
theorem X2z {g:(List UInt8)→Option (Xb9×Int)} {y0:List UInt8} {x:Xb9×Int} (hx:g y0=some x):(s56 g).run [.string ⟨⟨y0⟩⟩] []=some (rx56 x):=r56_c hx
abbrev Xz9 (XeM:(List UInt8)→Option (Xah×(List UInt8)×Int)) (Xew:(List UInt8)→Option (Xaj×(List UInt8)×Int)):List (Nat×Xbp):=[(98,s98 XeM),(99,s99 Xew)]
theorem XHP (XeM:(List UInt8)→Option (Xah×(List UInt8)×Int)) (Xew:(List UInt8)→Option (Xaj×(List UInt8)×Int)) (hS:Xai Tryz.prog (Xar (Xz9 XeM Xew))) (s:List UInt8) (res:Xb9×Int) (h:Xil XeM Xew s=some res) :
 XaD Tryz.prog 56 0 ⟨⟨56,53,[(0,.string ⟨⟨s⟩⟩)],[.code Xzi],[],false,none⟩,[],[],0⟩ (fun v H _=>Res 0 (rx56 res) v H):=by
 unfold Xil at h
 refine Xa9 Xam hS true 3000 ?_
 conv=>whnf
 replace h:=Xak.elim h;obtain ⟨b,hy,h⟩:=h
 refine rdS.intro hy ?_
 conv=>whnf
 refine br.h h ?_ ?_ ?_
 ·rfl
 ·clear h;intro hb h;conv=>whnf
  replace h:=Xak.elim h;obtain ⟨xg,hy,h⟩:=h
  refine XaG.q rfl rfl (XXp hy) rfl rfl rfl ?_
  conv=>whnf
  let t:Int:=wI .i64 (20+(xg.1.Options.length:Int))
  all_goals (cases h;exact Res.z rfl rfl rfl)
 clear h;intro hb h;conv=>whnf
 replace h:=Xak.elim h;obtain ⟨b1,hy,h⟩:=h
 refine rdS.intro hy ?_
 conv=>whnf
 refine br.h2 h ?_ ?_ ?_
 ·rfl
 ·clear h;intro hb h;conv=>whnf
  all_goals (cases h;exact Res.z rfl rfl rfl)
 clear h;intro hb h;conv=>whnf
 replace h:=Xak.elim h;obtain ⟨xg1,hy,h⟩:=h
 refine XaG.q rfl rfl (XUK hy) rfl rfl rfl ?_
 conv=>whnf
 all_goals (cases h;exact Res.z rfl rfl rfl)
theorem ok56 (XeM:(List UInt8)→Option (Xah×(List UInt8)×Int)) (Xew:(List UInt8)→Option (Xaj×(List UInt8)×Int)) (hS:Xai Tryz.prog (Xar (Xz9 XeM Xew))):Xan Tryz.prog 56 (s56 (Xil XeM Xew)):=by
 refine Xan.Xau Xam (fun ar os r ha hr=>?_) ⟨Tryz.f56,rfl,by decide,rfl⟩
 replace hr:r56 (Xil XeM Xew) ar (XaA os)=some r:=hr
 unfold r56 at hr
 generalize hc:XaA os=C at hr
 replace hr:=dV.elim hr;obtain ⟨v0,l1,y0,rfl,e0,hr⟩:=hr;obtain rfl:=Xb7 _ _ e0
 replace hr:=Xdf hr;obtain ⟨rfl,rfl,x,h,rfl⟩:=hr
 obtain rfl:=Xao hc
 exact ⟨_,rfl,XHP XeM Xew hS _ x h⟩
def Xdx:(List UInt8)→Option (Xb9×Int):=Xil XeM Xew
theorem XWR:Xan Tryz.prog 56 (s56 Xdx):=ok56 XeM Xew (Xai.XaW ⟨XYD,XPZ,trivial⟩)
def XhY (XeG:(List UInt8)→Xaa→Xaa→Option (XaF×(List UInt8)×Int)) (XcY:(List UInt8)→Option (Int×Int×Int)) (Xet:(List UInt8)→Xaa→Xaa→Option (XaC×(List UInt8)×Int)) (XeI:(List UInt8)→Option (XaR×Int)) (Xdx:(List UInt8)→Option (Xb9×Int)) (s:List UInt8):Option (Xag×Int×Int×Int):=
 cond (decide ((s.length:Int)>9000))
  (
  some ((Xag.mk (Xbt.mk 0 (Xaa.mk false 0 0) (Xaa.mk false 0 0) 0 0) 0 false 0 0 false [] 0,0,0,5)))
  (
  cond (s==[])
   (
   some ((Xag.mk (Xbt.mk 0 (Xaa.mk false 0 0) (Xaa.mk false 0 0) 0 0) 0 false 0 0 false [] 0,0,0,2)))
   (
   (Xdx s).bind fun xr=>
   cond (xr.2 !=0)
    (
    some ((Xag.mk (Xbt.mk 0 (Xaa.mk false 0 0) (Xaa.mk false 0 0) 0 0) 0 false 0 0 false [] 0,0,0,xr.2)))
    (
    let t:=wI .i64 (xr.1.size+(xr.1.body.length:Int))
    cond (t !=(s.length:Int))
     (
     some ((Xag.mk (Xbt.mk 0 (Xaa.mk false 0 0) (Xaa.mk false 0 0) 0 0) 0 false 0 0 false [] 0,0,0,5)))
     (
     cond (xr.1.proto==6)
      (
      (XeG xr.1.body xr.1.src xr.1.dst).bind fun xg=>
      cond (xg.2.2 !=0)
       (
       some ((Xag.mk (Xbt.mk 0 (Xaa.mk false 0 0) (Xaa.mk false 0 0) 0 0) 0 false 0 0 false [] 0,0,0,xg.2.2)))
       (
       (XcY xg.1.Options).bind fun s1=>
       cond (decide (s1.2.2≥0))
        (
        let t1:=wI .i64 ((wI .i64 (xr.1.size+20))+(xg.1.Options.length:Int))
        some ((Xag.mk (Xbt.mk xr.1.proto xr.1.src xr.1.dst xg.1.SPort xg.1.DPort) xg.1.Flags true s1.1 s1.2.1 false [] (s.length:Int),xr.1.size,t1,0)))
        (
        let t2:=wI .i64 ((wI .i64 (xr.1.size+20))+(xg.1.Options.length:Int))
        some ((Xag.mk (Xbt.mk xr.1.proto xr.1.src xr.1.dst xg.1.SPort xg.1.DPort) xg.1.Flags false 0 0 false [] (s.length:Int),xr.1.size,t2,0)))))
      (
      cond (xr.1.proto !=17)
       (
       some ((Xag.mk (Xbt.mk 0 (Xaa.mk false 0 0) (Xaa.mk false 0 0) 0 0) 0 false 0 0 false [] 0,0,0,6)))
       (
       (Xet xr.1.body xr.1.src xr.1.dst).bind fun xg1=>
       cond (xg1.2.2 !=0)
        (
        some ((Xag.mk (Xbt.mk 0 (Xaa.mk false 0 0) (Xaa.mk false 0 0) 0 0) 0 false 0 0 false [] 0,0,0,xg1.2.2)))
        (
        let t3:=(wI .i64 ((xg1.2.1.length:Int)+8)) !=(xr.1.body.length:Int)
        cond (t3)
         (
         some ((Xag.mk (Xbt.mk 0 (Xaa.mk false 0 0) (Xaa.mk false 0 0) 0 0) 0 false 0 0 false [] 0,0,0,5)))
         (
         (XeI xg1.2.1).bind fun xg2=>
         cond (xg2.2==0)
          (
          some ((Xag.mk (Xbt.mk xr.1.proto xr.1.src xr.1.dst xg1.1.SPort xg1.1.DPort) 0 false 0 0 xg2.1.Long xg2.1.DCID (s.length:Int),xr.1.size,wI .i64 (xr.1.size+8),0)))
          (
          some ((Xag.mk (Xbt.mk xr.1.proto xr.1.src xr.1.dst xg1.1.SPort xg1.1.DPort) 0 false 0 0 false [] (s.length:Int),xr.1.size,wI .i64 (xr.1.size+8),0)))))))))))
def rx31 (x:Xag×Int×Int×Int):Xco:=⟨.tuple ⟨[.agg ⟨[.int .i64 x.1.Tuple.Proto,.bool x.1.Tuple.Src.V6,.int .u64 x.1.Tuple.Src.Hi,.int .u64 x.1.Tuple.Src.Lo,.bool x.1.Tuple.Dst.V6,.int .u64 x.1.Tuple.Dst.Hi,.int .u64 x.1.Tuple.Dst.Lo,.int .i64 x.1.Tuple.SPort,.int .i64 x.1.Tuple.DPort,.int .i64 x.1.Flags,.bool x.1.Stamped,.int .u32 x.1.Val,.int .u32 x.1.Echo,.bool x.1.Long,.string ⟨⟨x.1.CID⟩⟩,.int .i64 x.1.Size]⟩,.int .i64 x.2.1,.int .i64 x.2.2.1,.int .i64 x.2.2.2]⟩,[],[]⟩
def r31 (g:(List UInt8)→Option (Xag×Int×Int×Int)):Dec:=dV asS fun (y0:List UInt8)=>Xc4 (ofG (g y0) rx31)
theorem r31_c {g:(List UInt8)→Option (Xag×Int×Int×Int)} {y0:List UInt8} {x:Xag×Int×Int×Int} (hx:g y0=some x):r31 g [.string ⟨⟨y0⟩⟩] []=some (rx31 x):=(XaS (XdJ)).trans (XaZ hx)
def s31 (g:(List UInt8)→Option (Xag×Int×Int×Int)):Xbp:=⟨[.v],r31 g⟩
theorem X0v {g:(List UInt8)→Option (Xag×Int×Int×Int)} {y0:List UInt8} {x:Xag×Int×Int×Int} (hx:g y0=some x):(s31 g).run [.string ⟨⟨y0⟩⟩] []=some (rx31 x):=r31_c hx
abbrev XBV (XeG:(List UInt8)→Xaa→Xaa→Option (XaF×(List UInt8)×Int)) (XcY:(List UInt8)→Option (Int×Int×Int)) (Xet:(List UInt8)→Xaa→Xaa→Option (XaC×(List UInt8)×Int)) (XeI:(List UInt8)→Option (XaR×Int)) (Xdx:(List UInt8)→Option (Xb9×Int)):List (Nat×Xbp):=[(57,s57 XeG),(58,s58 XcY),(59,s59 Xet),(21,s21 XeI),(56,s56 Xdx)]
theorem XLb (XeG:(List UInt8)→Xaa→Xaa→Option (XaF×(List UInt8)×Int)) (XcY:(List UInt8)→Option (Int×Int×Int)) (Xet:(List UInt8)→Xaa→Xaa→Option (XaC×(List UInt8)×Int)) (XeI:(List UInt8)→Option (XaR×Int)) (Xdx:(List UInt8)→Option (Xb9×Int)) (hS:Xai Tryz.prog (Xar (XBV XeG XcY Xet XeI Xdx))) (s:List UInt8) (res:Xag×Int×Int×Int) (h:XhY XeG XcY Xet XeI Xdx s=some res) :
 XaD Tryz.prog 31 0 ⟨⟨31,161,[(0,.string ⟨⟨s⟩⟩)],[.code XA8],[],false,none⟩,[],[],0⟩ (fun v H _=>Res 0 (rx31 res) v H):=by
 unfold XhY at h
 refine Xa9 Xam hS true 3000 ?_
 conv=>whnf
 refine br.h h ?_ ?_ ?_
 ·rfl
 ·clear h;intro hb h;conv=>whnf
  all_goals (cases h;exact Res.z rfl rfl rfl)
 clear h;intro hb h;conv=>whnf
 refine br.h h ?_ ?_ ?_
 ·rfl
 ·clear h;intro hb h;conv=>whnf
  all_goals (cases h;exact Res.z rfl rfl rfl)
 clear h;intro hb h;conv=>whnf
 replace h:=Xak.elim h;obtain ⟨xr,hy,h⟩:=h
 refine XaG.q rfl rfl (X2z hy) rfl rfl rfl ?_
 conv=>whnf
 refine br.h h ?_ ?_ ?_
 ·rfl
 ·clear h;intro hb h;conv=>whnf
  all_goals (cases h;exact Res.z rfl rfl rfl)
 clear h;intro hb h;conv=>whnf
 let t:Int:=wI .i64 (xr.1.size+(xr.1.body.length:Int))
 refine br.h h ?_ ?_ ?_
 ·rfl
 ·clear h;intro hb h;conv=>whnf
  all_goals (cases h;exact Res.z rfl rfl rfl)
 clear h;intro hb h;conv=>whnf
 refine br.h h ?_ ?_ ?_
 ·rfl
 ·clear h;intro hb h;conv=>whnf
  replace h:=Xak.elim h;obtain ⟨xg,hy,h⟩:=h
  refine XaG.q rfl rfl (X1U hy) rfl rfl rfl ?_
  conv=>whnf
  refine br.h h ?_ ?_ ?_
  ·rfl
  ·clear h;intro hb h;conv=>whnf
   all_goals (cases h;exact Res.z rfl rfl rfl)
  clear h;intro hb h;conv=>whnf
  replace h:=Xak.elim h;obtain ⟨s1,hy,h⟩:=h
  refine XaG.q rfl rfl (XOT hy) rfl rfl rfl ?_
  conv=>whnf
  refine br.h h ?_ ?_ ?_
  ·rfl
  ·clear h;intro hb h;conv=>whnf
   let t1:Int:=wI .i64 ((wI .i64 (xr.1.size+20))+(xg.1.Options.length:Int))
   all_goals (cases h;exact Res.z rfl rfl rfl)
  clear h;intro hb h;conv=>whnf
  let t2:Int:=wI .i64 ((wI .i64 (xr.1.size+20))+(xg.1.Options.length:Int))
  all_goals (cases h;exact Res.z rfl rfl rfl)
 clear h;intro hb h;conv=>whnf
 refine br.h h ?_ ?_ ?_
 ·rfl
 ·clear h;intro hb h;conv=>whnf
  all_goals (cases h;exact Res.z rfl rfl rfl)
 clear h;intro hb h;conv=>whnf
 replace h:=Xak.elim h;obtain ⟨xg1,hy,h⟩:=h
 refine XaG.q rfl rfl (XTu hy) rfl rfl rfl ?_
 conv=>whnf
 refine br.h h ?_ ?_ ?_
 ·rfl
 ·clear h;intro hb h;conv=>whnf
  all_goals (cases h;exact Res.z rfl rfl rfl)
 clear h;intro hb h;conv=>whnf
 let t3:Bool:=(wI .i64 ((xg1.2.1.length:Int)+8)) !=(xr.1.body.length:Int)
 refine br.h h ?_ ?_ ?_
 ·rfl
 ·clear h;intro hb h;conv=>whnf
  all_goals (cases h;exact Res.z rfl rfl rfl)
 clear h;intro hb h;conv=>whnf
 replace h:=Xak.elim h;obtain ⟨xg2,hy,h⟩:=h
 refine XaG.q rfl rfl (X2F hy) rfl rfl rfl ?_
 conv=>whnf
 refine br.h h ?_ ?_ ?_
 ·rfl
 ·clear h;intro hb h;conv=>whnf
  all_goals (cases h;exact Res.z rfl rfl rfl)
 clear h;intro hb h;conv=>whnf
 all_goals (cases h;exact Res.z rfl rfl rfl)
theorem ok31 (XeG:(List UInt8)→Xaa→Xaa→Option (XaF×(List UInt8)×Int)) (XcY:(List UInt8)→Option (Int×Int×Int)) (Xet:(List UInt8)→Xaa→Xaa→Option (XaC×(List UInt8)×Int)) (XeI:(List UInt8)→Option (XaR×Int)) (Xdx:(List UInt8)→Option (Xb9×Int)) (hS:Xai Tryz.prog (Xar (XBV XeG XcY Xet XeI Xdx))):Xan Tryz.prog 31 (s31 (XhY XeG XcY Xet XeI Xdx)):=by
 refine Xan.Xau Xam (fun ar os r ha hr=>?_) ⟨Tryz.f31,rfl,by decide,rfl⟩
 replace hr:r31 (XhY XeG XcY Xet XeI Xdx) ar (XaA os)=some r:=hr
 unfold r31 at hr
 generalize hc:XaA os=C at hr
 replace hr:=dV.elim hr;obtain ⟨v0,l1,y0,rfl,e0,hr⟩:=hr;obtain rfl:=Xb7 _ _ e0
 replace hr:=Xdf hr;obtain ⟨rfl,rfl,x,h,rfl⟩:=hr
 obtain rfl:=Xao hc
 exact ⟨_,rfl,XLb XeG XcY Xet XeI Xdx hS _ x h⟩
def Xdv:(List UInt8)→Option (Xag×Int×Int×Int):=XhY XeG XcY Xet XeI Xdx
theorem X3L:Xan Tryz.prog 31 (s31 Xdv):=ok31 XeG XcY Xet XeI Xdx (Xai.XaW ⟨XQy,X3A,XRa,XNx,XWR,trivial⟩)
def Xg8 (Xdv:(List UInt8)→Option (Xag×Int×Int×Int)) (s:List UInt8):Option (Xag×Int):=
 (Xdv s).bind fun t=>
 some ((t.1,t.2.2.2))
def rx15 (x:Xag×Int):Xco:=⟨.tuple ⟨[.agg ⟨[.int .i64 x.1.Tuple.Proto,.bool x.1.Tuple.Src.V6,.int .u64 x.1.Tuple.Src.Hi,.int .u64 x.1.Tuple.Src.Lo,.bool x.1.Tuple.Dst.V6,.int .u64 x.1.Tuple.Dst.Hi,.int .u64 x.1.Tuple.Dst.Lo,.int .i64 x.1.Tuple.SPort,.int .i64 x.1.Tuple.DPort,.int .i64 x.1.Flags,.bool x.1.Stamped,.int .u32 x.1.Val,.int .u32 x.1.Echo,.bool x.1.Long,.string ⟨⟨x.1.CID⟩⟩,.int .i64 x.1.Size]⟩,.int .i64 x.2]⟩,[],[]⟩
def r15 (g:(List UInt8)→Option (Xag×Int)):Dec:=dV asS fun (y0:List UInt8)=>Xc4 (ofG (g y0) rx15)
theorem r15_c {g:(List UInt8)→Option (Xag×Int)} {y0:List UInt8} {x:Xag×Int} (hx:g y0=some x):r15 g [.string ⟨⟨y0⟩⟩] []=some (rx15 x):=(XaS (XdJ)).trans (XaZ hx)
def s15 (g:(List UInt8)→Option (Xag×Int)):Xbp:=⟨[.v],r15 g⟩
theorem XV8 {g:(List UInt8)→Option (Xag×Int)} {y0:List UInt8} {x:Xag×Int} (hx:g y0=some x):(s15 g).run [.string ⟨⟨y0⟩⟩] []=some (rx15 x):=r15_c hx
abbrev Xzo (Xdv:(List UInt8)→Option (Xag×Int×Int×Int)):List (Nat×Xbp):=[(31,s31 Xdv)]
theorem XEF (Xdv:(List UInt8)→Option (Xag×Int×Int×Int)) (hS:Xai Tryz.prog (Xar (Xzo Xdv))) (s:List UInt8) (res:Xag×Int) (h:Xg8 Xdv s=some res) :
 XaD Tryz.prog 15 0 ⟨⟨15,17,[(0,.string ⟨⟨s⟩⟩)],[.code XMl],[],false,none⟩,[],[],0⟩ (fun v H _=>Res 0 (rx15 res) v H):=by
 unfold Xg8 at h
 refine Xa9 Xam hS true 3000 ?_
 conv=>whnf
 replace h:=Xak.elim h;obtain ⟨t,hy,h⟩:=h
 refine XaG.q rfl rfl (X0v hy) rfl rfl rfl ?_
 conv=>whnf
 all_goals (cases h;exact Res.z rfl rfl rfl)
theorem ok15 (Xdv:(List UInt8)→Option (Xag×Int×Int×Int)) (hS:Xai Tryz.prog (Xar (Xzo Xdv))):Xan Tryz.prog 15 (s15 (Xg8 Xdv)):=by
 refine Xan.Xau Xam (fun ar os r ha hr=>?_) ⟨Tryz.f15,rfl,by decide,rfl⟩
 replace hr:r15 (Xg8 Xdv) ar (XaA os)=some r:=hr
 unfold r15 at hr
 generalize hc:XaA os=C at hr
 replace hr:=dV.elim hr;obtain ⟨v0,l1,y0,rfl,e0,hr⟩:=hr;obtain rfl:=Xb7 _ _ e0
 replace hr:=Xdf hr;obtain ⟨rfl,rfl,x,h,rfl⟩:=hr
 obtain rfl:=Xao hc
 exact ⟨_,rfl,XEF Xdv hS _ x h⟩
def XcO:(List UInt8)→Option (Xag×Int):=Xg8 Xdv
theorem XZi:Xan Tryz.prog 15 (s15 XcO):=ok15 Xdv (Xai.XaW ⟨X3L,trivial⟩)
end Go.Vm.Code
namespace Go.Vm.Code
open Go Go.Vm
def Xkk (s:List UInt8):Xb9×Int:=
 if vK s 0 1/16=4 then (⟨(XgN s).1.Src,(XgN s).1.Dst,(XgN s).1.Proto,20+((XgN s).1.Options.length:Int),(XgN s).2.1⟩,(XgN s).2.2)
 else if vK s 0 1/16=6 then (⟨(XiT s).1.Src,(XiT s).1.Dst,(XiT s).1.Next,40,(XiT s).2.1⟩,(XiT s).2.2)
 else (⟨⟨false,0,0⟩,⟨false,0,0⟩,0,0,[]⟩,3)
theorem XqO (s:List UInt8):(XgN s).1.Options.length≤s.length∧(XgN s).2.1.length≤s.length:=by
 unfold XgN
 repeat' split
 all_goals simp [Xms]
 omega
theorem XyK (s:List UInt8):(XiT s).2.1.length≤s.length:=by
 unfold XiT
 repeat' split
 all_goals simp
 omega
theorem XF7 {s:List UInt8} (hs:s.length<2^19) (hn:s≠[]):Xdx s=some (Xkk s):=by
 unfold Xdx Xil Xkk
 have h0:0<s.length:=List.length_pos_iff.2 hn
 have e0:=XjZ (s:=s) (p:=0) h0
 have r0:=Xej s 0 1 256 (by decide)
 obtain ⟨b1,b2⟩:=XqO s
 rw [List.getElem?_eq_getElem h0,Option.bind_some,←e0,Int.tdiv_eq_ediv_of_nonneg (by omega),wU8 (by omega) (by omega),XX0 (by omega),XyG (by omega),Option.bind_some,Option.bind_some]
 by_cases g1:vK s 0 1/16=4
 ·rw [if_pos g1,show (vK s 0 1/16==4)=true by simpa using g1,cond_true]
  rw [XcC (n:=20+((XgN s).1.Options.length:Int)) (by omega) (by omega)]
 ·rw [if_neg g1,show (vK s 0 1/16==4)=false by simpa using g1,cond_false,Option.bind_some,←e0,Int.tdiv_eq_ediv_of_nonneg (by omega),wU8 (by omega) (by omega)]
  by_cases g4:vK s 0 1/16=6
  ·rw [if_pos g4,show (vK s 0 1/16==6)=true by simpa using g4,cond_true]
  ·rw [if_neg g4,show (vK s 0 1/16==6)=false by simpa using g4,cond_false]
theorem Xw9 {s:List UInt8} (h:(Xkk s).2≠0):(Xa5 s).err=(Xkk s).2:=by
 unfold Xkk Xa5 at *
 split
 ·rename_i g;rw [if_pos g] at h;rw [if_pos h];rfl
 ·rename_i g;rw [if_neg g] at h
  split
  ·rename_i g2;rw [if_pos g2] at h;rw [if_pos h];rfl
  ·rfl
theorem XvO {s:List UInt8} (h:(Xkk s).2=0) (h2:(Xkk s).1.size+((Xkk s).1.body.length:Int)≠(s.length:Int)):(Xa5 s).err=5:=by
 unfold Xkk Xa5 at *
 split
 ·rename_i g;rw [if_pos g] at h h2;rw [if_neg (by simpa using h),if_pos (by simp only [] at h2;omega)];rfl
 ·rename_i g;rw [if_neg g] at h h2
  split
  ·rename_i g2;rw [if_pos g2] at h h2;rw [if_neg (by simpa using h),if_pos (by simp only [] at h2;omega)];rfl
  ·rename_i g2;rw [if_neg g2] at h;exact absurd h (by decide)
theorem XEq {s:List UInt8} (h:(Xkk s).2=0) (h2:(Xkk s).1.size+((Xkk s).1.body.length:Int)=(s.length:Int)):(Xa5 s).err=0∧(Xkk s).1=⟨(Xa5 s).src,(Xa5 s).dst,(Xa5 s).proto,((Xa5 s).size:Int),(Xa5 s).body⟩:=by
 unfold Xkk Xa5 at *
 by_cases g:vK s 0 1/16=4
 ·rw [if_pos g] at h h2;rw [if_pos g,if_pos g,if_neg (by simpa using h),if_neg (by simp only [] at h2;omega)];exact ⟨rfl,rfl⟩
 ·rw [if_neg g] at h h2
  by_cases g2:vK s 0 1/16=6
  ·rw [if_pos g2] at h h2;rw [if_neg g,if_neg g,if_pos g2,if_pos g2,if_neg (by simpa using h),if_neg (by simp only [] at h2;omega)];exact ⟨rfl,rfl⟩
  ·rw [if_neg g2] at h;exact absurd h (by decide)
theorem XqQ {b:List UInt8} {src dst:Xaa} (h:(Xig b src dst).2.2=0):20+(Xig b src dst).1.Options.length+(Xig b src dst).2.1.length=b.length:=by
 have r:=Xej b 12 1 256 (by decide)
 unfold Xig at h ⊢
 by_cases g0:b.length<20
 ·rw [if_pos g0] at h;exact absurd h (by decide)
 by_cases g1:4*(vK b 12 1/16)<20
 ·rw [if_neg g0,if_pos g1] at h;exact absurd h (by decide)
 by_cases g2:vK b 12 1%16≠0
 ·rw [if_neg g0,if_neg g1,if_pos g2] at h;exact absurd h (by decide)
 by_cases g3:(b.length:Int)<4*(vK b 12 1/16)
 ·rw [if_neg g0,if_neg g1,if_neg g2,if_pos g3] at h;exact absurd h (by decide)
 by_cases g4:Xnf src dst 6 b.length=[]
 ·rw [if_neg g0,if_neg g1,if_neg g2,if_neg g3,if_pos g4] at h;exact absurd h (by decide)
 by_cases g5:norm (Xgz (Xnf src dst 6 b.length++b))≠65535
 ·rw [if_neg g0,if_neg g1,if_neg g2,if_neg g3,if_neg g4,if_pos g5] at h;exact absurd h (by decide)
 by_cases g6:(Xk0 ((b.drop 20).take ((4*(vK b 12 1/16)).toNat - 20))).2≠0
 ·rw [if_neg g0,if_neg g1,if_neg g2,if_neg g3,if_neg g4,if_neg g5,if_pos g6] at h;exact absurd h g6
 rw [if_neg g0,if_neg g1,if_neg g2,if_neg g3,if_neg g4,if_neg g5,if_neg g6]
 simp only [List.length_take,List.length_drop]
 omega
theorem Xwu {s:List UInt8} (hs:s.length<2^19):Xdv s=some ((XbN s).1,((XbN s).2.1:Int),((XbN s).2.2.1:Int),(XbN s).2.2.2):=by
 unfold Xdv XhY
 have hz:(⟨⟨0,⟨false,0,0⟩,⟨false,0,0⟩,0,0⟩,0,false,0,0,false,[],0⟩:Xag)=zP:=rfl
 rw [hz]
 simp only []
 by_cases g1:9000<s.length
 ·have hT:XbN s=(zP,0,0,5):=by unfold XbN;rw [if_pos g1]
  rw [XaV (by omega),hT];rfl
 rw [XaM (by omega)]
 by_cases g2:s=[]
 ·subst g2;rfl
 rw [show (s==[])=false by simpa using g2,cond_false,XF7 hs g2,Option.bind_some]
 by_cases g3:(Xkk s).2=0
 ·rw [show ((Xkk s).2 !=0)=false by simpa using g3,cond_false]
  have bs:(Xkk s).1.body.length≤s.length∧0≤(Xkk s).1.size∧(Xkk s).1.size≤40+(s.length:Int):=by
   obtain ⟨b1,b2⟩:=XqO s
   have b3:=XyK s
   unfold Xkk
   split
   ·exact ⟨b2,by simp only [];omega,by simp only [];omega⟩
   split
   ·exact ⟨b3,by simp only [];omega,by simp only [];omega⟩
   ·exact ⟨by simp,by simp only [];omega,by simp only [];omega⟩
  rw [XcC (n:=(Xkk s).1.size+((Xkk s).1.body.length:Int)) (by omega) (by omega)]
  by_cases gl:(Xkk s).1.size+((Xkk s).1.body.length:Int)=(s.length:Int)
  ·obtain ⟨k1,k2⟩:=XEq g3 gl
   rw [show ((Xkk s).1.size+((Xkk s).1.body.length:Int) !=(s.length:Int))=false by simpa using gl,k2]
   simp only [cond_false]
   obtain ⟨a1,a2⟩:=Xmd s
   have hb:=Xkc k1
   have hE:(Xgi (Xa5 s) s.length).2.2≠0→XbN s=(zP,0,0,(Xgi (Xa5 s) s.length).2.2):=fun g4=>by
    unfold XbN;rw [if_neg g1,if_neg g2,if_neg (by simpa using k1),if_pos g4]
   have hO:(Xgi (Xa5 s) s.length).2.2=0→XbN s=((Xgi (Xa5 s) s.length).1,s.length - (Xa5 s).body.length,s.length - (Xgi (Xa5 s) s.length).2.1,0):=fun g4=>by
    unfold XbN;rw [if_neg g1,if_neg g2,if_neg (by simpa using k1),if_neg (by simpa using g4)]
   generalize hO':Xa5 s=o at *
   by_cases p6:o.proto=6
   ·rw [show (o.proto==6)=true by simpa using p6,cond_true,XyU a1 a2 (by omega),Option.bind_some]
    by_cases g:(Xig o.body o.src o.dst).2.2=0
    ·have hl7:=XqQ g
     have hin:Xgi o s.length=(⟨⟨o.proto,o.src,o.dst,(Xig o.body o.src o.dst).1.SPort,(Xig o.body o.src o.dst).1.DPort⟩,(Xig o.body o.src o.dst).1.Flags,(XAB (Xig o.body o.src o.dst).1.Options).1,(XAB (Xig o.body o.src o.dst).1.Options).2.1,(XAB (Xig o.body o.src o.dst).1.Options).2.2,false,[],s.length⟩,(Xig o.body o.src o.dst).2.1.length,0):=by
      unfold Xgi;rw [if_pos p6,if_neg (by simpa using g)]
     rw [hO (by rw [hin]),hin]
     rw [show ((Xig o.body o.src o.dst).2.2 !=0)=false by simpa using g,cond_false,XKK (by omega),Option.bind_some]
     simp only []
     rw [XcC (n:=(o.size:Int)+20) (by omega) (by omega),XcC (n:=(o.size:Int)+20+((Xig o.body o.src o.dst).1.Options.length:Int)) (by omega) (by omega),show ((s.length - o.body.length:Nat):Int)=(o.size:Int) by omega,show ((s.length - (Xig o.body o.src o.dst).2.1.length:Nat):Int)=(o.size:Int)+20+((Xig o.body o.src o.dst).1.Options.length:Int) by omega]
     unfold XAB
     by_cases g5:0≤(Xj0 (Xig o.body o.src o.dst).1.Options).2.2
     ·rw [if_pos g5,XaV (by omega)]
     ·rw [if_neg g5,XaM (by omega)]
    ·have hin:Xgi o s.length=(zP,0,(Xig o.body o.src o.dst).2.2):=by
      unfold Xgi;rw [if_pos p6,if_pos g]
     rw [hE (by rw [hin];exact g),hin,show ((Xig o.body o.src o.dst).2.2 !=0)=true by simpa using g];rfl
   ·rw [show (o.proto==6)=false by simpa using p6,cond_false]
    by_cases p17:o.proto=17
    ·rw [show (o.proto !=17)=false by simpa using p17,cond_false,Xxe a1 a2 (by omega),Option.bind_some]
     by_cases g:(Xhr o.body o.src o.dst).2.2=0
     ·have hb8:(Xhr o.body o.src o.dst).2.1.length≤o.body.length:=by
       unfold Xhr
       repeat' split
       all_goals simp
       all_goals omega
      rw [show ((Xhr o.body o.src o.dst).2.2 !=0)=false by simpa using g,cond_false]
      rw [XcC (n:=((Xhr o.body o.src o.dst).2.1.length:Int)+8) (by omega) (by omega)]
      by_cases g6:(Xhr o.body o.src o.dst).2.1.length+8=o.body.length
      ·have hin:Xgi o s.length=(⟨⟨o.proto,o.src,o.dst,(Xhr o.body o.src o.dst).1.SPort,(Xhr o.body o.src o.dst).1.DPort⟩,0,false,0,0,(XLv (Xhr o.body o.src o.dst).2.1).1,(XLv (Xhr o.body o.src o.dst).2.1).2,s.length⟩,(Xhr o.body o.src o.dst).2.1.length,0):=by
        unfold Xgi;rw [if_neg p6,if_pos p17,if_neg (by simpa using g),if_neg (by simpa using g6)]
       rw [hO (by rw [hin]),hin,show (((Xhr o.body o.src o.dst).2.1.length:Int)+8 !=(o.body.length:Int))=false by simp;omega,cond_false,Xwq (by omega),Option.bind_some,XcC (n:=(o.size:Int)+8) (by omega) (by omega)]
       simp only []
       rw [show ((s.length - o.body.length:Nat):Int)=(o.size:Int) by omega,show ((s.length - (Xhr o.body o.src o.dst).2.1.length:Nat):Int)=(o.size:Int)+8 by omega]
       unfold XLv
       by_cases g5:(Xsj (Xhr o.body o.src o.dst).2.1).2=0
       ·rw [if_pos g5,show ((Xsj (Xhr o.body o.src o.dst).2.1).2==0)=true by simpa using g5,cond_true]
       ·rw [if_neg g5,show ((Xsj (Xhr o.body o.src o.dst).2.1).2==0)=false by simpa using g5,cond_false]
      ·have hin:Xgi o s.length=(zP,0,5):=by
        unfold Xgi;rw [if_neg p6,if_pos p17,if_neg (by simpa using g),if_pos g6]
       rw [hE (by rw [hin];decide),hin,show (((Xhr o.body o.src o.dst).2.1.length:Int)+8 !=(o.body.length:Int))=true by simp;omega];rfl
     ·have hin:Xgi o s.length=(zP,0,(Xhr o.body o.src o.dst).2.2):=by
       unfold Xgi;rw [if_neg p6,if_pos p17,if_pos g]
      rw [hE (by rw [hin];exact g),hin,show ((Xhr o.body o.src o.dst).2.2 !=0)=true by simpa using g];rfl
    ·have hin:Xgi o s.length=(zP,0,6):=by
      unfold Xgi;rw [if_neg p6,if_neg p17]
     rw [hE (by rw [hin];decide),hin,show (o.proto !=17)=true by simpa using p17];rfl
  ·have hT:XbN s=(zP,0,0,5):=by
    have e:=XvO g3 gl
    unfold XbN;rw [if_neg g1,if_neg g2,if_pos (by rw [e];decide),e]
   rw [hT,show ((Xkk s).1.size+((Xkk s).1.body.length:Int) !=(s.length:Int))=true by simpa using gl];rfl
 ·have hT:XbN s=(zP,0,0,(Xkk s).2):=by
   have e:=Xw9 g3
   unfold XbN;rw [if_neg g1,if_neg g2,if_pos (by rw [e];exact g3),e]
  rw [hT,show ((Xkk s).2 !=0)=true by simpa using g3];rfl
theorem XtS {s:List UInt8} (hs:s.length<2^19):XcO s=some ((XbN s).1,(XbN s).2.2.2):=by
 unfold XcO Xg8
 rw [Xwu hs,Option.bind_some]
end Go.Vm.Code
namespace Go.Vm.Code
open Go Go.Vm Go.Proofs
set_option maxRecDepth 100000
set_option maxHeartbeats 4000000
set_option linter.unusedVariables false
def XgO (Xav:Xaa→Xaa→Int→Int→Option (List UInt8)) (src:Xaa) (dst:Xaa) (n:Int):Option ((List UInt8)×Bool):=
 (Xav src dst 58 n).bind fun p=>
 cond (p==[])
  (
  some ((p,!(p==[]))))
  (
  cond (src.V6)
   (
   some ((p,!(p==[]))))
   (
   some (([],true))))
def rx74 (x:(List UInt8)×Bool):Xco:=⟨.tuple ⟨[.string ⟨⟨x.1⟩⟩,.bool x.2]⟩,[],[]⟩
def r74 (g:Xaa→Xaa→Int→Option ((List UInt8)×Bool)):Dec:=dV Xa8 fun (y0:Xaa)=>dV Xa8 fun (y1:Xaa)=>dV (asI .i64) fun (y2:Int)=>Xc4 (ofG (g y0 y1 y2) rx74)
theorem r74_c {g:Xaa→Xaa→Int→Option ((List UInt8)×Bool)} {y0:Xaa} {y1:Xaa} {y2:Int} {x:(List UInt8)×Bool} (hx:g y0 y1 y2=some x):r74 g [.agg ⟨[.bool y0.V6,.int .u64 y0.Hi,.int .u64 y0.Lo]⟩,.agg ⟨[.bool y1.V6,.int .u64 y1.Hi,.int .u64 y1.Lo]⟩,.int .i64 y2] []=some (rx74 x):=(XaS (XaY _)).trans ((XaS (XaY _)).trans ((XaS (XcI _)).trans (XaZ hx)))
def s74 (g:Xaa→Xaa→Int→Option ((List UInt8)×Bool)):Xbp:=⟨[.v,.v,.v],r74 g⟩
theorem X0r {g:Xaa→Xaa→Int→Option ((List UInt8)×Bool)} {y0:Xaa} {y1:Xaa} {y2:Int} {x:(List UInt8)×Bool} (hx:g y0 y1 y2=some x):(s74 g).run [.agg ⟨[.bool y0.V6,.int .u64 y0.Hi,.int .u64 y0.Lo]⟩,.agg ⟨[.bool y1.V6,.int .u64 y1.Hi,.int .u64 y1.Lo]⟩,.int .i64 y2] []=some (rx74 x):=r74_c hx
abbrev XzV (Xav:Xaa→Xaa→Int→Int→Option (List UInt8)):List (Nat×Xbp):=[(109,XLr Xav)]
theorem XJI (Xav:Xaa→Xaa→Int→Int→Option (List UInt8)) (hS:Xai Tryz.prog (Xar (XzV Xav))) (src:Xaa) (dst:Xaa) (n:Int) (res:(List UInt8)×Bool) (h:XgO Xav src dst n=some res) :
 XaD Tryz.prog 74 0 ⟨⟨74,22,[(0,.agg ⟨[.bool src.V6,.int .u64 src.Hi,.int .u64 src.Lo]⟩),(1,.agg ⟨[.bool dst.V6,.int .u64 dst.Hi,.int .u64 dst.Lo]⟩),(2,.int .i64 n)],[.code XBj],[],false,none⟩,[],[],0⟩ (fun v H _=>Res 0 (rx74 res) v H):=by
 unfold XgO at h
 refine Xa9 Xam hS true 3000 ?_
 conv=>whnf
 replace h:=Xak.elim h;obtain ⟨p,hy,h⟩:=h
 refine XaG.q rfl rfl (Xqo hy) rfl rfl rfl ?_
 conv=>whnf
 refine br.h h ?_ ?_ ?_
 ·rfl
 ·clear h;intro hb h;conv=>whnf
  all_goals (cases h;exact Res.z rfl rfl rfl)
 clear h;intro hb h;conv=>whnf
 refine br.h h ?_ ?_ ?_
 ·rfl
 ·clear h;intro hb h;conv=>whnf
  all_goals (cases h;exact Res.z rfl rfl rfl)
 clear h;intro hb h;conv=>whnf
 all_goals (cases h;exact Res.z rfl rfl rfl)
theorem ok74 (Xav:Xaa→Xaa→Int→Int→Option (List UInt8)) (hS:Xai Tryz.prog (Xar (XzV Xav))):Xan Tryz.prog 74 (s74 (XgO Xav)):=by
 refine Xan.Xau Xam (fun ar os r ha hr=>?_) ⟨Tryz.f74,rfl,by decide,rfl⟩
 replace hr:r74 (XgO Xav) ar (XaA os)=some r:=hr
 unfold r74 at hr
 generalize hc:XaA os=C at hr
 replace hr:=dV.elim hr;obtain ⟨v0,l1,y0,rfl,e0,hr⟩:=hr;obtain rfl:=XaN _ _ e0
 replace hr:=dV.elim hr;obtain ⟨v1,l2,y1,rfl,e1,hr⟩:=hr;obtain rfl:=XaN _ _ e1
 replace hr:=dV.elim hr;obtain ⟨v2,l3,y2,rfl,e2,hr⟩:=hr;obtain rfl:=XbO _ _ _ e2
 replace hr:=Xdf hr;obtain ⟨rfl,rfl,x,h,rfl⟩:=hr
 obtain rfl:=Xao hc
 exact ⟨_,rfl,XJI Xav hS _ _ _ x h⟩
def XcU:Xaa→Xaa→Int→Option ((List UInt8)×Bool):=XgO Xav
theorem XVy:Xan Tryz.prog 74 (s74 XcU):=ok74 Xav (Xai.XaW ⟨Xqy,trivial⟩)
def Xfd (n:Int) (most:Int):Option Bool:=
 cond (decide (0≤n))
  (
  some (decide (n≤most)))
  (
  some (false))
def XxI (x:Bool):Xco:=⟨.bool x,[],[]⟩
def r110 (g:Int→Int→Option Bool):Dec:=dV (asI .i64) fun (y0:Int)=>dV (asI .i64) fun (y1:Int)=>Xc4 (ofG (g y0 y1) XxI)
theorem XXS {g:Int→Int→Option Bool} {y0:Int} {y1:Int} {x:Bool} (hx:g y0 y1=some x):r110 g [.int .i64 y0,.int .i64 y1] []=some (XxI x):=(XaS (XcI _)).trans ((XaS (XcI _)).trans (XaZ hx))
def s110 (g:Int→Int→Option Bool):Xbp:=⟨[.v,.v],r110 g⟩
theorem Xu8 {g:Int→Int→Option Bool} {y0:Int} {y1:Int} {x:Bool} (hx:g y0 y1=some x):(s110 g).run [.int .i64 y0,.int .i64 y1] []=some (XxI x):=XXS hx
abbrev Xut:List (Nat×Xbp):=[]
theorem Xyq (hS:Xai Tryz.prog (Xar (Xut))) (n:Int) (most:Int) (res:Bool) (h:Xfd n most=some res) :
 XaD Tryz.prog 110 0 ⟨⟨110,12,[(0,.int .i64 n),(1,.int .i64 most)],[.code Xy7],[],false,none⟩,[],[],0⟩ (fun v H _=>Res 0 (XxI res) v H):=by
 unfold Xfd at h
 refine Xa9 Xam hS true 3000 ?_
 conv=>whnf
 refine br.h h ?_ ?_ ?_
 ·rfl
 ·clear h;intro hb h;conv=>whnf
  all_goals (cases h;exact Res.z rfl rfl rfl)
 clear h;intro hb h;conv=>whnf
 all_goals (cases h;exact Res.z rfl rfl rfl)
theorem ok110 (hS:Xai Tryz.prog (Xar (Xut))):Xan Tryz.prog 110 (s110 (Xfd)):=by
 refine Xan.Xau Xam (fun ar os r ha hr=>?_) ⟨Tryz.f110,rfl,by decide,rfl⟩
 replace hr:r110 (Xfd) ar (XaA os)=some r:=hr
 unfold r110 at hr
 generalize hc:XaA os=C at hr
 replace hr:=dV.elim hr;obtain ⟨v0,l1,y0,rfl,e0,hr⟩:=hr;obtain rfl:=XbO _ _ _ e0
 replace hr:=dV.elim hr;obtain ⟨v1,l2,y1,rfl,e1,hr⟩:=hr;obtain rfl:=XbO _ _ _ e1
 replace hr:=Xdf hr;obtain ⟨rfl,rfl,x,h,rfl⟩:=hr
 obtain rfl:=Xao hc
 exact ⟨_,rfl,Xyq hS _ _ x h⟩
def XbT:Int→Int→Option Bool:=Xfd
theorem XJ3:Xan Tryz.prog 110 (s110 XbT):=ok110 (Xai.XaW trivial)
def Xha (kind:Int) (code:Int) (v6:Bool):Option Bool:=
 cond (kind==2)
  (
  cond (v6)
   (
   some (code==0))
   (
   some (code==4)))
  (
  cond (kind==1)
   (
   cond (!v6)
    (
    some (code !=4))
    (
    some (true)))
   (
   some (true)))
def Xwk (x:Bool):Xco:=⟨.bool x,[],[]⟩
def r111 (g:Int→Int→Bool→Option Bool):Dec:=dV (asI .i64) fun (y0:Int)=>dV (asI .i64) fun (y1:Int)=>dV asB fun (y2:Bool)=>Xc4 (ofG (g y0 y1 y2) Xwk)
theorem X0L {g:Int→Int→Bool→Option Bool} {y0:Int} {y1:Int} {y2:Bool} {x:Bool} (hx:g y0 y1 y2=some x):r111 g [.int .i64 y0,.int .i64 y1,.bool y2] []=some (Xwk x):=(XaS (XcI _)).trans ((XaS (XcI _)).trans ((XaS (Xmz)).trans (XaZ hx)))
def s111 (g:Int→Int→Bool→Option Bool):Xbp:=⟨[.v,.v,.v],r111 g⟩
theorem XCY {g:Int→Int→Bool→Option Bool} {y0:Int} {y1:Int} {y2:Bool} {x:Bool} (hx:g y0 y1 y2=some x):(s111 g).run [.int .i64 y0,.int .i64 y1,.bool y2] []=some (Xwk x):=X0L hx
abbrev Xvq:List (Nat×Xbp):=[]
theorem XwE (hS:Xai Tryz.prog (Xar (Xvq))) (kind:Int) (code:Int) (v6:Bool) (res:Bool) (h:Xha kind code v6=some res) :
 XaD Tryz.prog 111 0 ⟨⟨111,29,[(0,.int .i64 kind),(1,.int .i64 code),(2,.bool v6)],[.code Xus],[],false,none⟩,[],[],0⟩ (fun v H _=>Res 0 (Xwk res) v H):=by
 unfold Xha at h
 refine Xa9 Xam hS true 3000 ?_
 conv=>whnf
 refine br.h h ?_ ?_ ?_
 ·rfl
 ·clear h;intro hb h;conv=>whnf
  refine br.h h ?_ ?_ ?_
  ·rfl
  ·clear h;intro hb h;conv=>whnf
   all_goals (cases h;exact Res.z rfl rfl rfl)
  clear h;intro hb h;conv=>whnf
  refine br.pos ?_ ?_;(focus (clear h;first|assumption|(simp_all;done)))
  conv=>whnf
  all_goals (cases h;exact Res.z rfl rfl rfl)
 clear h;intro hb h;conv=>whnf
 refine br.neg ?_ ?_;(focus (clear h;first|assumption|(simp_all;done)))
 conv=>whnf
 refine br.h2 h ?_ ?_ ?_
 ·rfl
 ·clear h;intro hb h;conv=>whnf
  all_goals (cases h;exact Res.z rfl rfl rfl)
 clear h;intro hb h;conv=>whnf
 refine br.h h ?_ ?_ ?_
 ·rfl
 ·clear h;intro hb h;conv=>whnf
  all_goals (cases h;exact Res.z rfl rfl rfl)
 clear h;intro hb h;conv=>whnf
 all_goals (cases h;exact Res.z rfl rfl rfl)
theorem ok111 (hS:Xai Tryz.prog (Xar (Xvq))):Xan Tryz.prog 111 (s111 (Xha)):=by
 refine Xan.Xau Xam (fun ar os r ha hr=>?_) ⟨Tryz.f111,rfl,by decide,rfl⟩
 replace hr:r111 (Xha) ar (XaA os)=some r:=hr
 unfold r111 at hr
 generalize hc:XaA os=C at hr
 replace hr:=dV.elim hr;obtain ⟨v0,l1,y0,rfl,e0,hr⟩:=hr;obtain rfl:=XbO _ _ _ e0
 replace hr:=dV.elim hr;obtain ⟨v1,l2,y1,rfl,e1,hr⟩:=hr;obtain rfl:=XbO _ _ _ e1
 replace hr:=dV.elim hr;obtain ⟨v2,l3,y2,rfl,e2,hr⟩:=hr;obtain rfl:=XiV _ _ e2
 replace hr:=Xdf hr;obtain ⟨rfl,rfl,x,h,rfl⟩:=hr
 obtain rfl:=Xao hc
 exact ⟨_,rfl,XwE hS _ _ _ x h⟩
def Xc6:Int→Int→Bool→Option Bool:=Xha
theorem XCf:Xan Tryz.prog 111 (s111 Xc6):=ok111 (Xai.XaW trivial)
def Xdg (Xc6:Int→Int→Bool→Option Bool) (XbT:Int→Int→Option Bool) (m:Xaf) (v6:Bool):Option Bool:=
 cond (decide (m.Kind<1))
  (
  some (false))
  (
  cond (decide (m.Kind>3))
   (
   some (false))
   (
   (XbT m.Code 255).bind fun w=>
   cond (!w)
    (
    some (false))
    (
    (XbT m.MTU 65535).bind fun w1=>
    cond (!w1)
     (
     some (false))
     (
     cond (decide ((m.Quote.length:Int)>1232))
      (
      some (false))
      (
      (Xc6 m.Kind m.Code v6).bind fun f=>
      cond (f)
       (
       cond (m.Kind==2)
        (
        some (true))
        (
        some (m.MTU==0)))
       (
       some (false)))))))
def rx75 (x:Bool):Xco:=⟨.bool x,[],[]⟩
def r75 (g:Xaf→Bool→Option Bool):Dec:=dV XcH fun (y0:Xaf)=>dV asB fun (y1:Bool)=>Xc4 (ofG (g y0 y1) rx75)
theorem r75_c {g:Xaf→Bool→Option Bool} {y0:Xaf} {y1:Bool} {x:Bool} (hx:g y0 y1=some x):r75 g [.agg ⟨[.int .i64 y0.Kind,.int .i64 y0.Code,.int .i64 y0.MTU,.string ⟨⟨y0.Quote⟩⟩]⟩,.bool y1] []=some (rx75 x):=(XaS (Xdu _)).trans ((XaS (Xmz)).trans (XaZ hx))
def s75 (g:Xaf→Bool→Option Bool):Xbp:=⟨[.v,.v],r75 g⟩
theorem XZZ {g:Xaf→Bool→Option Bool} {y0:Xaf} {y1:Bool} {x:Bool} (hx:g y0 y1=some x):(s75 g).run [.agg ⟨[.int .i64 y0.Kind,.int .i64 y0.Code,.int .i64 y0.MTU,.string ⟨⟨y0.Quote⟩⟩]⟩,.bool y1] []=some (rx75 x):=r75_c hx
abbrev XBs (Xc6:Int→Int→Bool→Option Bool) (XbT:Int→Int→Option Bool):List (Nat×Xbp):=[(111,s111 Xc6),(110,s110 XbT)]
theorem XF0 (Xc6:Int→Int→Bool→Option Bool) (XbT:Int→Int→Option Bool) (hS:Xai Tryz.prog (Xar (XBs Xc6 XbT))) (m:Xaf) (v6:Bool) (res:Bool) (h:Xdg Xc6 XbT m v6=some res) :
 XaD Tryz.prog 75 0 ⟨⟨75,47,[(0,.agg ⟨[.int .i64 m.Kind,.int .i64 m.Code,.int .i64 m.MTU,.string ⟨⟨m.Quote⟩⟩]⟩),(1,.bool v6)],[.code XS0],[],false,none⟩,[],[],0⟩ (fun v H _=>Res 0 (rx75 res) v H):=by
 unfold Xdg at h
 refine Xa9 Xam hS true 3000 ?_
 conv=>whnf
 refine br.h h ?_ ?_ ?_
 ·rfl
 ·clear h;intro hb h;conv=>whnf
  all_goals (cases h;exact Res.z rfl rfl rfl)
 clear h;intro hb h;conv=>whnf
 refine br.h h ?_ ?_ ?_
 ·rfl
 ·clear h;intro hb h;conv=>whnf
  all_goals (cases h;exact Res.z rfl rfl rfl)
 clear h;intro hb h;conv=>whnf
 replace h:=Xak.elim h;obtain ⟨w,hy,h⟩:=h
 refine XaG.q rfl rfl (Xu8 hy) rfl rfl rfl ?_
 conv=>whnf
 refine br.h h ?_ ?_ ?_
 ·rfl
 ·clear h;intro hb h;conv=>whnf
  all_goals (cases h;exact Res.z rfl rfl rfl)
 clear h;intro hb h;conv=>whnf
 replace h:=Xak.elim h;obtain ⟨w1,hy,h⟩:=h
 refine XaG.q rfl rfl (Xu8 hy) rfl rfl rfl ?_
 conv=>whnf
 refine br.h h ?_ ?_ ?_
 ·rfl
 ·clear h;intro hb h;conv=>whnf
  all_goals (cases h;exact Res.z rfl rfl rfl)
 clear h;intro hb h;conv=>whnf
 refine br.h h ?_ ?_ ?_
 ·rfl
 ·clear h;intro hb h;conv=>whnf
  all_goals (cases h;exact Res.z rfl rfl rfl)
 clear h;intro hb h;conv=>whnf
 replace h:=Xak.elim h;obtain ⟨f,hy,h⟩:=h
 refine XaG.q rfl rfl (XCY hy) rfl rfl rfl ?_
 conv=>whnf
 refine br.h2 h ?_ ?_ ?_
 ·rfl
 ·clear h;intro hb h;conv=>whnf
  all_goals (cases h;exact Res.z rfl rfl rfl)
 clear h;intro hb h;conv=>whnf
 refine br.h h ?_ ?_ ?_
 ·rfl
 ·clear h;intro hb h;conv=>whnf
  all_goals (cases h;exact Res.z rfl rfl rfl)
 clear h;intro hb h;conv=>whnf
 all_goals (cases h;exact Res.z rfl rfl rfl)
theorem ok75 (Xc6:Int→Int→Bool→Option Bool) (XbT:Int→Int→Option Bool) (hS:Xai Tryz.prog (Xar (XBs Xc6 XbT))):Xan Tryz.prog 75 (s75 (Xdg Xc6 XbT)):=by
 refine Xan.Xau Xam (fun ar os r ha hr=>?_) ⟨Tryz.f75,rfl,by decide,rfl⟩
 replace hr:r75 (Xdg Xc6 XbT) ar (XaA os)=some r:=hr
 unfold r75 at hr
 generalize hc:XaA os=C at hr
 replace hr:=dV.elim hr;obtain ⟨v0,l1,y0,rfl,e0,hr⟩:=hr;obtain rfl:=Xdh _ _ e0
 replace hr:=dV.elim hr;obtain ⟨v1,l2,y1,rfl,e1,hr⟩:=hr;obtain rfl:=XiV _ _ e1
 replace hr:=Xdf hr;obtain ⟨rfl,rfl,x,h,rfl⟩:=hr
 obtain rfl:=Xao hc
 exact ⟨_,rfl,XF0 Xc6 XbT hS _ _ x h⟩
def Xbg:Xaf→Bool→Option Bool:=Xdg Xc6 XbT
theorem XUv:Xan Tryz.prog 75 (s75 Xbg):=ok75 Xc6 XbT (Xai.XaW ⟨XCf,XJ3,trivial⟩)
def Xhh:Option Xbh:=
 some (Xbh.mk (Xd6.mk (-1) (-1)) (Xd6.mk 3 1) (Xd6.mk 3 2) (Xd6.mk 11 3))
def rx76 (x:Xbh):Xco:=⟨.agg ⟨[.int .i64 x.e0.e0,.int .i64 x.e0.e1,.int .i64 x.e1.e0,.int .i64 x.e1.e1,.int .i64 x.e2.e0,.int .i64 x.e2.e1,.int .i64 x.e3.e0,.int .i64 x.e3.e1]⟩,[],[]⟩
def r76 (g:Option Xbh):Dec:=Xc4 (ofG (g) rx76)
theorem r76_c {g:Option Xbh} {x:Xbh} (hx:g=some x):r76 g [] []=some (rx76 x):=XaZ hx
def s76 (g:Option Xbh):Xbp:=⟨[],r76 g⟩
theorem XYb {g:Option Xbh} {x:Xbh} (hx:g=some x):(s76 g).run [] []=some (rx76 x):=r76_c hx
abbrev XzM:List (Nat×Xbp):=[]
theorem XCH (hS:Xai Tryz.prog (Xar (XzM))) (res:Xbh) (h:Xhh=some res) :
 XaD Tryz.prog 76 0 ⟨⟨76,6,[],[.code XZ8],[],false,none⟩,[],[],0⟩ (fun v H _=>Res 0 (rx76 res) v H):=by
 unfold Xhh at h
 refine Xa9 Xam hS true 3000 ?_
 conv=>whnf
 all_goals (cases h;exact Res.z rfl rfl rfl)
theorem ok76 (hS:Xai Tryz.prog (Xar (XzM))):Xan Tryz.prog 76 (s76 (Xhh)):=by
 refine Xan.Xau Xam (fun ar os r ha hr=>?_) ⟨Tryz.f76,rfl,by decide,rfl⟩
 replace hr:r76 (Xhh) ar (XaA os)=some r:=hr
 unfold r76 at hr
 generalize hc:XaA os=C at hr
 replace hr:=Xdf hr;obtain ⟨rfl,rfl,x,h,rfl⟩:=hr
 obtain rfl:=Xao hc
 exact ⟨_,rfl,XCH hS x h⟩
def XcA:Option Xbh:=Xhh
theorem XWg:Xan Tryz.prog 76 (s76 XcA):=ok76 (Xai.XaW trivial)
def Xia (v6:Bool):Option Int:=
 cond (v6)
  (
  some (1))
  (
  some (0))
def rx77 (x:Int):Xco:=⟨.int .i64 x,[],[]⟩
def r77 (g:Bool→Option Int):Dec:=dV asB fun (y0:Bool)=>Xc4 (ofG (g y0) rx77)
theorem r77_c {g:Bool→Option Int} {y0:Bool} {x:Int} (hx:g y0=some x):r77 g [.bool y0] []=some (rx77 x):=(XaS (Xmz)).trans (XaZ hx)
def s77 (g:Bool→Option Int):Xbp:=⟨[.v],r77 g⟩
theorem XVR {g:Bool→Option Int} {y0:Bool} {x:Int} (hx:g y0=some x):(s77 g).run [.bool y0] []=some (rx77 x):=r77_c hx
abbrev XAE:List (Nat×Xbp):=[]
theorem XH6 (hS:Xai Tryz.prog (Xar (XAE))) (v6:Bool) (res:Int) (h:Xia v6=some res) :
 XaD Tryz.prog 77 0 ⟨⟨77,4,[(0,.bool v6)],[.code XRA],[],false,none⟩,[],[],0⟩ (fun v H _=>Res 0 (rx77 res) v H):=by
 unfold Xia at h
 refine Xa9 Xam hS true 3000 ?_
 conv=>whnf
 refine br.h h ?_ ?_ ?_
 ·rfl
 ·clear h;intro hb h;conv=>whnf
  all_goals (cases h;exact Res.z rfl rfl rfl)
 clear h;intro hb h;conv=>whnf
 all_goals (cases h;exact Res.z rfl rfl rfl)
theorem ok77 (hS:Xai Tryz.prog (Xar (XAE))):Xan Tryz.prog 77 (s77 (Xia)):=by
 refine Xan.Xau Xam (fun ar os r ha hr=>?_) ⟨Tryz.f77,rfl,by decide,rfl⟩
 replace hr:r77 (Xia) ar (XaA os)=some r:=hr
 unfold r77 at hr
 generalize hc:XaA os=C at hr
 replace hr:=dV.elim hr;obtain ⟨v0,l1,y0,rfl,e0,hr⟩:=hr;obtain rfl:=XiV _ _ e0
 replace hr:=Xdf hr;obtain ⟨rfl,rfl,x,h,rfl⟩:=hr
 obtain rfl:=Xao hc
 exact ⟨_,rfl,XH6 hS _ x h⟩
def Xc7:Bool→Option Int:=Xia
theorem X3a:Xan Tryz.prog 77 (s77 Xc7):=ok77 (Xai.XaW trivial)
def Xih (XbG:(List UInt8)→Option Int) (Xbm:(List UInt8)→Int→Int→Int→Option (List UInt8)) (Xbg:Xaf→Bool→Option Bool) (XcU:Xaa→Xaa→Int→Option ((List UInt8)×Bool)) (Xc7:Bool→Option Int) (XcA:Option Xbh) (Xaq:Int→Int→Option (List UInt8)) (m:Xaf) (src:Xaa) (dst:Xaa):Option ((List UInt8)×Int):=
 (XcU src dst (wI .i64 (8+(m.Quote.length:Int)))).bind fun xo=>
 cond (!xo.2)
  (
  some (([],1)))
  (
  (Xbg m src.V6).bind fun m1=>
  cond (!m1)
   (
   some (([],1)))
   (
   (XcA).bind fun t=>
   XaK (decide (0≤m.Kind∧m.Kind<4)) <|
   ([XaC.mk t.e0.e0 t.e0.e1,XaC.mk t.e1.e0 t.e1.e1,XaC.mk t.e2.e0 t.e2.e1,XaC.mk t.e3.e0 t.e3.e1][m.Kind.toNat]?).bind fun (e:XaC)=>
   (Xc7 src.V6).bind fun s=>
   XaK (decide (0≤s∧s<2)) <|
   ([e.SPort,e.DPort][s.toNat]?).bind fun (e1:Int)=>
   let t1:=Xkl .u64 (wI .u64 ((wI .u64 e1)*2^8)) (wI .u64 m.Code)
   (Xaq t1 2).bind fun p=>
   (Xaq (wI .u64 m.MTU) 6).bind fun p1=>
   XaK (decide (p.length+p1.length<2^63)) <|
   XaK (decide ((p++p1).length+m.Quote.length<2^63)) <|
   XaK (decide (xo.1.length+((p++p1)++m.Quote).length<2^63)) <|
   (XbG (xo.1++((p++p1)++m.Quote))).bind fun xo1=>
   (Xbm ((p++p1)++m.Quote) 2 2 (wI .u64 xo1)).bind fun s1=>
   some ((s1,0))))
def rx47 (x:(List UInt8)×Int):Xco:=⟨.tuple ⟨[.string ⟨⟨x.1⟩⟩,.int .i64 x.2]⟩,[],[]⟩
def r47 (g:Xaf→Xaa→Xaa→Option ((List UInt8)×Int)):Dec:=dV XcH fun (y0:Xaf)=>dV Xa8 fun (y1:Xaa)=>dV Xa8 fun (y2:Xaa)=>Xc4 (ofG (g y0 y1 y2) rx47)
theorem r47_c {g:Xaf→Xaa→Xaa→Option ((List UInt8)×Int)} {y0:Xaf} {y1:Xaa} {y2:Xaa} {x:(List UInt8)×Int} (hx:g y0 y1 y2=some x):r47 g [.agg ⟨[.int .i64 y0.Kind,.int .i64 y0.Code,.int .i64 y0.MTU,.string ⟨⟨y0.Quote⟩⟩]⟩,.agg ⟨[.bool y1.V6,.int .u64 y1.Hi,.int .u64 y1.Lo]⟩,.agg ⟨[.bool y2.V6,.int .u64 y2.Hi,.int .u64 y2.Lo]⟩] []=some (rx47 x):=(XaS (Xdu _)).trans ((XaS (XaY _)).trans ((XaS (XaY _)).trans (XaZ hx)))
def s47 (g:Xaf→Xaa→Xaa→Option ((List UInt8)×Int)):Xbp:=⟨[.v,.v,.v],r47 g⟩
theorem XPl {g:Xaf→Xaa→Xaa→Option ((List UInt8)×Int)} {y0:Xaf} {y1:Xaa} {y2:Xaa} {x:(List UInt8)×Int} (hx:g y0 y1 y2=some x):(s47 g).run [.agg ⟨[.int .i64 y0.Kind,.int .i64 y0.Code,.int .i64 y0.MTU,.string ⟨⟨y0.Quote⟩⟩]⟩,.agg ⟨[.bool y1.V6,.int .u64 y1.Hi,.int .u64 y1.Lo]⟩,.agg ⟨[.bool y2.V6,.int .u64 y2.Hi,.int .u64 y2.Lo]⟩] []=some (rx47 x):=r47_c hx
abbrev XBG (XbG:(List UInt8)→Option Int) (Xbm:(List UInt8)→Int→Int→Int→Option (List UInt8)) (Xbg:Xaf→Bool→Option Bool) (XcU:Xaa→Xaa→Int→Option ((List UInt8)×Bool)) (Xc7:Bool→Option Int) (XcA:Option Xbh) (Xaq:Int→Int→Option (List UInt8)):List (Nat×Xbp):=[(78,s78 XbG),(43,s43 Xbm),(75,s75 Xbg),(74,s74 XcU),(77,s77 Xc7),(76,s76 XcA),(42,s42 Xaq)]
theorem XJK (XbG:(List UInt8)→Option Int) (Xbm:(List UInt8)→Int→Int→Int→Option (List UInt8)) (Xbg:Xaf→Bool→Option Bool) (XcU:Xaa→Xaa→Int→Option ((List UInt8)×Bool)) (Xc7:Bool→Option Int) (XcA:Option Xbh) (Xaq:Int→Int→Option (List UInt8)) (hS:Xai Tryz.prog (Xar (XBG XbG Xbm Xbg XcU Xc7 XcA Xaq))) (m:Xaf) (src:Xaa) (dst:Xaa) (res:(List UInt8)×Int) (h:Xih XbG Xbm Xbg XcU Xc7 XcA Xaq m src dst=some res) :
 XaD Tryz.prog 47 0 ⟨⟨47,62,[(0,.agg ⟨[.int .i64 m.Kind,.int .i64 m.Code,.int .i64 m.MTU,.string ⟨⟨m.Quote⟩⟩]⟩),(1,.agg ⟨[.bool src.V6,.int .u64 src.Hi,.int .u64 src.Lo]⟩),(2,.agg ⟨[.bool dst.V6,.int .u64 dst.Hi,.int .u64 dst.Lo]⟩)],[.code XBJ],[],false,none⟩,[],[],0⟩ (fun v H _=>Res 0 (rx47 res) v H):=by
 unfold Xih at h
 refine Xa9 Xam hS true 3000 ?_
 conv=>whnf
 replace h:=Xak.elim h;obtain ⟨xo,hy,h⟩:=h
 refine XaG.q rfl rfl (X0r hy) rfl rfl rfl ?_
 conv=>whnf
 refine br.h h ?_ ?_ ?_
 ·rfl
 ·clear h;intro hb h;conv=>whnf
  all_goals (cases h;exact Res.z rfl rfl rfl)
 clear h;intro hb h;conv=>whnf
 replace h:=Xak.elim h;obtain ⟨m1,hy,h⟩:=h
 refine XaG.q rfl rfl (XZZ hy) rfl rfl rfl ?_
 conv=>whnf
 refine br.h h ?_ ?_ ?_
 ·rfl
 ·clear h;intro hb h;conv=>whnf
  all_goals (cases h;exact Res.z rfl rfl rfl)
 clear h;intro hb h;conv=>whnf
 replace h:=Xak.elim h;obtain ⟨t,hy,h⟩:=h
 refine XaG.q rfl rfl (XYb hy) rfl rfl rfl ?_
 conv=>whnf
 replace h:=XaK.elim h;obtain ⟨hb,h⟩:=h
 replace h:=Xak.elim h;obtain ⟨e,hy,h⟩:=h
 refine ix_T (xs:=[XaC.mk t.e0.e0 t.e0.e1,XaC.mk t.e1.e0 t.e1.e1,XaC.mk t.e2.e0 t.e2.e1,XaC.mk t.e3.e0 t.e3.e1]) XgL hb hy rfl rfl ?_
 conv=>whnf
 replace h:=Xak.elim h;obtain ⟨s,hy,h⟩:=h
 refine XaG.q rfl rfl (XVR hy) rfl rfl rfl ?_
 conv=>whnf
 replace h:=XaK.elim h;obtain ⟨hb,h⟩:=h
 first|(refine req.intro hb ?_;conv=>whnf)|skip
 replace h:=Xak.elim h;obtain ⟨e1,hy,h⟩:=h
 refine rd.I hy (by first|rfl|(rw [Nat.zero_add,Nat.mul_one];try rfl;done)|omega) ?_
 conv=>whnf
 let t1:Int:=Xkl .u64 (wI .u64 ((wI .u64 e1)*2^8)) (wI .u64 m.Code)
 replace h:=Xak.elim h;obtain ⟨p,hy,h⟩:=h
 refine XaG.q rfl rfl (Xj1 hy) rfl rfl rfl ?_
 conv=>whnf
 replace h:=Xak.elim h;obtain ⟨p1,hy,h⟩:=h
 refine XaG.q rfl rfl (Xj1 hy) rfl rfl rfl ?_
 conv=>whnf
 replace h:=XaK.elim h;obtain ⟨hb,h⟩:=h
 first|(refine req.intro hb ?_;conv=>whnf)|skip
 replace h:=XaK.elim h;obtain ⟨hb,h⟩:=h
 first|(refine req.intro hb ?_;conv=>whnf)|skip
 replace h:=XaK.elim h;obtain ⟨hb,h⟩:=h
 first|(refine req.intro hb ?_;conv=>whnf)|skip
 replace h:=Xak.elim h;obtain ⟨xo1,hy,h⟩:=h
 refine XaG.q rfl rfl (Xvb hy) rfl rfl rfl ?_
 conv=>whnf
 replace h:=Xak.elim h;obtain ⟨s1,hy,h⟩:=h
 refine XaG.q rfl rfl (XsS hy) rfl rfl rfl ?_
 conv=>whnf
 all_goals (cases h;exact Res.z rfl rfl rfl)
theorem ok47 (XbG:(List UInt8)→Option Int) (Xbm:(List UInt8)→Int→Int→Int→Option (List UInt8)) (Xbg:Xaf→Bool→Option Bool) (XcU:Xaa→Xaa→Int→Option ((List UInt8)×Bool)) (Xc7:Bool→Option Int) (XcA:Option Xbh) (Xaq:Int→Int→Option (List UInt8)) (hS:Xai Tryz.prog (Xar (XBG XbG Xbm Xbg XcU Xc7 XcA Xaq))):Xan Tryz.prog 47 (s47 (Xih XbG Xbm Xbg XcU Xc7 XcA Xaq)):=by
 refine Xan.Xau Xam (fun ar os r ha hr=>?_) ⟨Tryz.f47,rfl,by decide,rfl⟩
 replace hr:r47 (Xih XbG Xbm Xbg XcU Xc7 XcA Xaq) ar (XaA os)=some r:=hr
 unfold r47 at hr
 generalize hc:XaA os=C at hr
 replace hr:=dV.elim hr;obtain ⟨v0,l1,y0,rfl,e0,hr⟩:=hr;obtain rfl:=Xdh _ _ e0
 replace hr:=dV.elim hr;obtain ⟨v1,l2,y1,rfl,e1,hr⟩:=hr;obtain rfl:=XaN _ _ e1
 replace hr:=dV.elim hr;obtain ⟨v2,l3,y2,rfl,e2,hr⟩:=hr;obtain rfl:=XaN _ _ e2
 replace hr:=Xdf hr;obtain ⟨rfl,rfl,x,h,rfl⟩:=hr
 obtain rfl:=Xao hc
 exact ⟨_,rfl,XJK XbG Xbm Xbg XcU Xc7 XcA Xaq hS _ _ _ x h⟩
def XdB:Xaf→Xaa→Xaa→Option ((List UInt8)×Int):=Xih XbG Xbm Xbg XcU Xc7 XcA Xaq
theorem XOD:Xan Tryz.prog 47 (s47 XdB):=ok47 XbG Xbm Xbg XcU Xc7 XcA Xaq (Xai.XaW ⟨XBN,XA7,XUv,XVy,X3a,XWg,Xpl,trivial⟩)
def XhT (Xax:Xaa→Xaa→Int→Int→Option (List UInt8)) (src:Xaa) (dst:Xaa):Option Bool:=
 (Xax src dst 1 8).bind fun p=>
 some (!(p==[]))
def rx83 (x:Bool):Xco:=⟨.bool x,[],[]⟩
def r83 (g:Xaa→Xaa→Option Bool):Dec:=dV Xa8 fun (y0:Xaa)=>dV Xa8 fun (y1:Xaa)=>Xc4 (ofG (g y0 y1) rx83)
theorem r83_c {g:Xaa→Xaa→Option Bool} {y0:Xaa} {y1:Xaa} {x:Bool} (hx:g y0 y1=some x):r83 g [.agg ⟨[.bool y0.V6,.int .u64 y0.Hi,.int .u64 y0.Lo]⟩,.agg ⟨[.bool y1.V6,.int .u64 y1.Hi,.int .u64 y1.Lo]⟩] []=some (rx83 x):=(XaS (XaY _)).trans ((XaS (XaY _)).trans (XaZ hx))
def s83 (g:Xaa→Xaa→Option Bool):Xbp:=⟨[.v,.v],r83 g⟩
theorem XRT {g:Xaa→Xaa→Option Bool} {y0:Xaa} {y1:Xaa} {x:Bool} (hx:g y0 y1=some x):(s83 g).run [.agg ⟨[.bool y0.V6,.int .u64 y0.Hi,.int .u64 y0.Lo]⟩,.agg ⟨[.bool y1.V6,.int .u64 y1.Hi,.int .u64 y1.Lo]⟩] []=some (rx83 x):=r83_c hx
abbrev XBi (Xax:Xaa→Xaa→Int→Int→Option (List UInt8)):List (Nat×Xbp):=[(95,s95 Xax)]
theorem XCv (Xax:Xaa→Xaa→Int→Int→Option (List UInt8)) (hS:Xai Tryz.prog (Xar (XBi Xax))) (src:Xaa) (dst:Xaa) (res:Bool) (h:XhT Xax src dst=some res) :
 XaD Tryz.prog 83 0 ⟨⟨83,9,[(0,.agg ⟨[.bool src.V6,.int .u64 src.Hi,.int .u64 src.Lo]⟩),(1,.agg ⟨[.bool dst.V6,.int .u64 dst.Hi,.int .u64 dst.Lo]⟩)],[.code XRD],[],false,none⟩,[],[],0⟩ (fun v H _=>Res 0 (rx83 res) v H):=by
 unfold XhT at h
 refine Xa9 Xam hS true 3000 ?_
 conv=>whnf
 replace h:=Xak.elim h;obtain ⟨p,hy,h⟩:=h
 refine XaG.q rfl rfl (Xrb hy) rfl rfl rfl ?_
 conv=>whnf
 all_goals (cases h;exact Res.z rfl rfl rfl)
theorem ok83 (Xax:Xaa→Xaa→Int→Int→Option (List UInt8)) (hS:Xai Tryz.prog (Xar (XBi Xax))):Xan Tryz.prog 83 (s83 (XhT Xax)):=by
 refine Xan.Xau Xam (fun ar os r ha hr=>?_) ⟨Tryz.f83,rfl,by decide,rfl⟩
 replace hr:r83 (XhT Xax) ar (XaA os)=some r:=hr
 unfold r83 at hr
 generalize hc:XaA os=C at hr
 replace hr:=dV.elim hr;obtain ⟨v0,l1,y0,rfl,e0,hr⟩:=hr;obtain rfl:=XaN _ _ e0
 replace hr:=dV.elim hr;obtain ⟨v1,l2,y1,rfl,e1,hr⟩:=hr;obtain rfl:=XaN _ _ e1
 replace hr:=Xdf hr;obtain ⟨rfl,rfl,x,h,rfl⟩:=hr
 obtain rfl:=Xao hc
 exact ⟨_,rfl,XCv Xax hS _ _ x h⟩
def XdI:Xaa→Xaa→Option Bool:=XhT Xax
theorem XVd:Xan Tryz.prog 83 (s83 XdI):=ok83 Xax (Xai.XaW ⟨XrS,trivial⟩)
def XgZ (m:Xaf) (six:Bool):Option Bool:=
 cond (decide (m.Kind<1))
  (
  some (false))
  (
  cond (decide (m.Kind>3))
   (
   some (false))
   (
   cond (decide (m.Code<0))
    (
    some (false))
    (
    cond (decide (m.Code>255))
     (
     some (false))
     (
     cond (decide (m.MTU<0))
      (
      some (false))
      (
      cond (decide (m.MTU>65535))
       (
       some (false))
       (
       cond (m.Kind !=2)
        (
        cond (m.MTU !=0)
         (
         some (false))
         (
         cond (decide ((m.Quote.length:Int)>1232))
          (
          some (false))
          (
          cond (six)
           (
           some (true))
           (
           cond (m.Kind==3)
            (
            some (true))
            (
            some ((m.Kind==2)==(m.Code==4)))))))
        (
        cond (decide ((m.Quote.length:Int)>1232))
         (
         some (false))
         (
         cond (six)
          (
          some (m.Code==0))
          (
          cond (m.Kind==3)
           (
           some (true))
           (
           some ((m.Kind==2)==(m.Code==4))))))))))))
def rx84 (x:Bool):Xco:=⟨.bool x,[],[]⟩
def r84 (g:Xaf→Bool→Option Bool):Dec:=dV XcH fun (y0:Xaf)=>dV asB fun (y1:Bool)=>Xc4 (ofG (g y0 y1) rx84)
theorem r84_c {g:Xaf→Bool→Option Bool} {y0:Xaf} {y1:Bool} {x:Bool} (hx:g y0 y1=some x):r84 g [.agg ⟨[.int .i64 y0.Kind,.int .i64 y0.Code,.int .i64 y0.MTU,.string ⟨⟨y0.Quote⟩⟩]⟩,.bool y1] []=some (rx84 x):=(XaS (Xdu _)).trans ((XaS (Xmz)).trans (XaZ hx))
def s84 (g:Xaf→Bool→Option Bool):Xbp:=⟨[.v,.v],r84 g⟩
theorem XNn {g:Xaf→Bool→Option Bool} {y0:Xaf} {y1:Bool} {x:Bool} (hx:g y0 y1=some x):(s84 g).run [.agg ⟨[.int .i64 y0.Kind,.int .i64 y0.Code,.int .i64 y0.MTU,.string ⟨⟨y0.Quote⟩⟩]⟩,.bool y1] []=some (rx84 x):=r84_c hx
abbrev XBR:List (Nat×Xbp):=[]
theorem XCW (hS:Xai Tryz.prog (Xar (XBR))) (m:Xaf) (six:Bool) (res:Bool) (h:XgZ m six=some res) :
 XaD Tryz.prog 84 0 ⟨⟨84,70,[(0,.agg ⟨[.int .i64 m.Kind,.int .i64 m.Code,.int .i64 m.MTU,.string ⟨⟨m.Quote⟩⟩]⟩),(1,.bool six)],[.code XA0],[],false,none⟩,[],[],0⟩ (fun v H _=>Res 0 (rx84 res) v H):=by
 unfold XgZ at h
 refine Xa9 Xam hS true 3000 ?_
 conv=>whnf
 refine br.h h ?_ ?_ ?_
 ·rfl
 ·clear h;intro hb h;conv=>whnf
  all_goals (cases h;exact Res.z rfl rfl rfl)
 clear h;intro hb h;conv=>whnf
 refine br.h h ?_ ?_ ?_
 ·rfl
 ·clear h;intro hb h;conv=>whnf
  all_goals (cases h;exact Res.z rfl rfl rfl)
 clear h;intro hb h;conv=>whnf
 refine br.h h ?_ ?_ ?_
 ·rfl
 ·clear h;intro hb h;conv=>whnf
  all_goals (cases h;exact Res.z rfl rfl rfl)
 clear h;intro hb h;conv=>whnf
 refine br.h h ?_ ?_ ?_
 ·rfl
 ·clear h;intro hb h;conv=>whnf
  all_goals (cases h;exact Res.z rfl rfl rfl)
 clear h;intro hb h;conv=>whnf
 refine br.h h ?_ ?_ ?_
 ·rfl
 ·clear h;intro hb h;conv=>whnf
  all_goals (cases h;exact Res.z rfl rfl rfl)
 clear h;intro hb h;conv=>whnf
 refine br.h h ?_ ?_ ?_
 ·rfl
 ·clear h;intro hb h;conv=>whnf
  all_goals (cases h;exact Res.z rfl rfl rfl)
 clear h;intro hb h;conv=>whnf
 refine br.h2 h ?_ ?_ ?_
 ·rfl
 ·clear h;intro hb h;conv=>whnf
  refine br.h h ?_ ?_ ?_
  ·rfl
  ·clear h;intro hb h;conv=>whnf
   all_goals (cases h;exact Res.z rfl rfl rfl)
  clear h;intro hb h;conv=>whnf
  refine br.h h ?_ ?_ ?_
  ·rfl
  ·clear h;intro hb h;conv=>whnf
   refine br.neg ?_ ?_;(focus (clear h;first|assumption|(simp_all;done)))
   conv=>whnf
   all_goals (cases h;exact Res.z rfl rfl rfl)
  clear h;intro hb h;conv=>whnf
  refine br.h h ?_ ?_ ?_
  ·rfl
  ·clear h;intro hb h;conv=>whnf
   all_goals (cases h;exact Res.z rfl rfl rfl)
  clear h;intro hb h;conv=>whnf
  all_goals (cases h;exact Res.z rfl rfl rfl)
 clear h;intro hb h;conv=>whnf
 refine br.h h ?_ ?_ ?_
 ·rfl
 ·clear h;intro hb h;conv=>whnf
  all_goals (cases h;exact Res.z rfl rfl rfl)
 clear h;intro hb h;conv=>whnf
 refine br.h h ?_ ?_ ?_
 ·rfl
 ·clear h;intro hb h;conv=>whnf
  all_goals (cases h;exact Res.z rfl rfl rfl)
 clear h;intro hb h;conv=>whnf
 refine br.h h ?_ ?_ ?_
 ·rfl
 ·clear h;intro hb h;conv=>whnf
  refine br.pos ?_ ?_;(focus (clear h;first|assumption|(simp_all;done)))
  conv=>whnf
  all_goals (cases h;exact Res.z rfl rfl rfl)
 clear h;intro hb h;conv=>whnf
 refine br.h h ?_ ?_ ?_
 ·rfl
 ·clear h;intro hb h;conv=>whnf
  all_goals (cases h;exact Res.z rfl rfl rfl)
 clear h;intro hb h;conv=>whnf
 all_goals (cases h;exact Res.z rfl rfl rfl)
theorem ok84 (hS:Xai Tryz.prog (Xar (XBR))):Xan Tryz.prog 84 (s84 (XgZ)):=by
 refine Xan.Xau Xam (fun ar os r ha hr=>?_) ⟨Tryz.f84,rfl,by decide,rfl⟩
 replace hr:r84 (XgZ) ar (XaA os)=some r:=hr
 unfold r84 at hr
 generalize hc:XaA os=C at hr
 replace hr:=dV.elim hr;obtain ⟨v0,l1,y0,rfl,e0,hr⟩:=hr;obtain rfl:=Xdh _ _ e0
 replace hr:=dV.elim hr;obtain ⟨v1,l2,y1,rfl,e1,hr⟩:=hr;obtain rfl:=XiV _ _ e1
 replace hr:=Xdf hr;obtain ⟨rfl,rfl,x,h,rfl⟩:=hr
 obtain rfl:=Xao hc
 exact ⟨_,rfl,XCW hS _ _ x h⟩
def XcR:Xaf→Bool→Option Bool:=XgZ
theorem XYk:Xan Tryz.prog 84 (s84 XcR):=ok84 (Xai.XaW trivial)
def Xjl (six:Bool) (k:Int):Option Int:=
 cond (six)
  (
  some (k))
  (
  cond (k==3)
   (
   some (11))
   (
   some (3)))
def rx86 (x:Int):Xco:=⟨.int .i64 x,[],[]⟩
def r86 (g:Bool→Int→Option Int):Dec:=dV asB fun (y0:Bool)=>dV (asI .i64) fun (y1:Int)=>Xc4 (ofG (g y0 y1) rx86)
theorem r86_c {g:Bool→Int→Option Int} {y0:Bool} {y1:Int} {x:Int} (hx:g y0 y1=some x):r86 g [.bool y0,.int .i64 y1] []=some (rx86 x):=(XaS (Xmz)).trans ((XaS (XcI _)).trans (XaZ hx))
def s86 (g:Bool→Int→Option Int):Xbp:=⟨[.v,.v],r86 g⟩
theorem X59 {g:Bool→Int→Option Int} {y0:Bool} {y1:Int} {x:Int} (hx:g y0 y1=some x):(s86 g).run [.bool y0,.int .i64 y1] []=some (rx86 x):=r86_c hx
abbrev XAN:List (Nat×Xbp):=[]
theorem XGj (hS:Xai Tryz.prog (Xar (XAN))) (six:Bool) (k:Int) (res:Int) (h:Xjl six k=some res) :
 XaD Tryz.prog 86 0 ⟨⟨86,9,[(0,.bool six),(1,.int .i64 k)],[.code XBh],[],false,none⟩,[],[],0⟩ (fun v H _=>Res 0 (rx86 res) v H):=by
 unfold Xjl at h
 refine Xa9 Xam hS true 3000 ?_
 conv=>whnf
 refine br.h h ?_ ?_ ?_
 ·rfl
 ·clear h;intro hb h;conv=>whnf
  all_goals (cases h;exact Res.z rfl rfl rfl)
 clear h;intro hb h;conv=>whnf
 refine br.h h ?_ ?_ ?_
 ·rfl
 ·clear h;intro hb h;conv=>whnf
  all_goals (cases h;exact Res.z rfl rfl rfl)
 clear h;intro hb h;conv=>whnf
 all_goals (cases h;exact Res.z rfl rfl rfl)
theorem ok86 (hS:Xai Tryz.prog (Xar (XAN))):Xan Tryz.prog 86 (s86 (Xjl)):=by
 refine Xan.Xau Xam (fun ar os r ha hr=>?_) ⟨Tryz.f86,rfl,by decide,rfl⟩
 replace hr:r86 (Xjl) ar (XaA os)=some r:=hr
 unfold r86 at hr
 generalize hc:XaA os=C at hr
 replace hr:=dV.elim hr;obtain ⟨v0,l1,y0,rfl,e0,hr⟩:=hr;obtain rfl:=XiV _ _ e0
 replace hr:=dV.elim hr;obtain ⟨v1,l2,y1,rfl,e1,hr⟩:=hr;obtain rfl:=XbO _ _ _ e1
 replace hr:=Xdf hr;obtain ⟨rfl,rfl,x,h,rfl⟩:=hr
 obtain rfl:=Xao hc
 exact ⟨_,rfl,XGj hS _ _ x h⟩
def Xes:Bool→Int→Option Int:=Xjl
theorem X6s:Xan Tryz.prog 86 (s86 Xes):=ok86 (Xai.XaW trivial)
def XhZ (Xax:Xaa→Xaa→Int→Int→Option (List UInt8)) (src:Xaa) (dst:Xaa) (n:Int):Option (List UInt8):=
 cond (src.V6)
  (
  (Xax src dst 58 n).bind fun p=>
  some (p))
  (
  some ([]))
def rx89 (x:List UInt8):Xco:=⟨.string ⟨⟨x⟩⟩,[],[]⟩
def r89 (g:Xaa→Xaa→Int→Option (List UInt8)):Dec:=dV Xa8 fun (y0:Xaa)=>dV Xa8 fun (y1:Xaa)=>dV (asI .i64) fun (y2:Int)=>Xc4 (ofG (g y0 y1 y2) rx89)
theorem r89_c {g:Xaa→Xaa→Int→Option (List UInt8)} {y0:Xaa} {y1:Xaa} {y2:Int} {x:List UInt8} (hx:g y0 y1 y2=some x):r89 g [.agg ⟨[.bool y0.V6,.int .u64 y0.Hi,.int .u64 y0.Lo]⟩,.agg ⟨[.bool y1.V6,.int .u64 y1.Hi,.int .u64 y1.Lo]⟩,.int .i64 y2] []=some (rx89 x):=(XaS (XaY _)).trans ((XaS (XaY _)).trans ((XaS (XcI _)).trans (XaZ hx)))
def s89 (g:Xaa→Xaa→Int→Option (List UInt8)):Xbp:=⟨[.v,.v,.v],r89 g⟩
theorem XQI {g:Xaa→Xaa→Int→Option (List UInt8)} {y0:Xaa} {y1:Xaa} {y2:Int} {x:List UInt8} (hx:g y0 y1 y2=some x):(s89 g).run [.agg ⟨[.bool y0.V6,.int .u64 y0.Hi,.int .u64 y0.Lo]⟩,.agg ⟨[.bool y1.V6,.int .u64 y1.Hi,.int .u64 y1.Lo]⟩,.int .i64 y2] []=some (rx89 x):=r89_c hx
abbrev Xzv (Xax:Xaa→Xaa→Int→Int→Option (List UInt8)):List (Nat×Xbp):=[(95,s95 Xax)]
theorem XKE (Xax:Xaa→Xaa→Int→Int→Option (List UInt8)) (hS:Xai Tryz.prog (Xar (Xzv Xax))) (src:Xaa) (dst:Xaa) (n:Int) (res:List UInt8) (h:XhZ Xax src dst n=some res) :
 XaD Tryz.prog 89 0 ⟨⟨89,13,[(0,.agg ⟨[.bool src.V6,.int .u64 src.Hi,.int .u64 src.Lo]⟩),(1,.agg ⟨[.bool dst.V6,.int .u64 dst.Hi,.int .u64 dst.Lo]⟩),(2,.int .i64 n)],[.code XSK],[],false,none⟩,[],[],0⟩ (fun v H _=>Res 0 (rx89 res) v H):=by
 unfold XhZ at h
 refine Xa9 Xam hS true 3000 ?_
 conv=>whnf
 refine br.h2 h ?_ ?_ ?_
 ·rfl
 ·clear h;intro hb h;conv=>whnf
  all_goals (cases h;exact Res.z rfl rfl rfl)
 clear h;intro hb h;conv=>whnf
 replace h:=Xak.elim h;obtain ⟨p,hy,h⟩:=h
 refine XaG.q rfl rfl (Xrb hy) rfl rfl rfl ?_
 conv=>whnf
 all_goals (cases h;exact Res.z rfl rfl rfl)
theorem ok89 (Xax:Xaa→Xaa→Int→Int→Option (List UInt8)) (hS:Xai Tryz.prog (Xar (Xzv Xax))):Xan Tryz.prog 89 (s89 (XhZ Xax)):=by
 refine Xan.Xau Xam (fun ar os r ha hr=>?_) ⟨Tryz.f89,rfl,by decide,rfl⟩
 replace hr:r89 (XhZ Xax) ar (XaA os)=some r:=hr
 unfold r89 at hr
 generalize hc:XaA os=C at hr
 replace hr:=dV.elim hr;obtain ⟨v0,l1,y0,rfl,e0,hr⟩:=hr;obtain rfl:=XaN _ _ e0
 replace hr:=dV.elim hr;obtain ⟨v1,l2,y1,rfl,e1,hr⟩:=hr;obtain rfl:=XaN _ _ e1
 replace hr:=dV.elim hr;obtain ⟨v2,l3,y2,rfl,e2,hr⟩:=hr;obtain rfl:=XbO _ _ _ e2
 replace hr:=Xdf hr;obtain ⟨rfl,rfl,x,h,rfl⟩:=hr
 obtain rfl:=Xao hc
 exact ⟨_,rfl,XKE Xax hS _ _ _ x h⟩
def XdH:Xaa→Xaa→Int→Option (List UInt8):=XhZ Xax
theorem X5k:Xan Tryz.prog 89 (s89 XdH):=ok89 Xax (Xai.XaW ⟨XrS,trivial⟩)
def Xjy (XaU:Int→Int→Option (List UInt8)) (Xc1:(List UInt8)→Option Int) (Xb1:(List UInt8)→Int→Int→Int→Option (List UInt8)) (XdH:Xaa→Xaa→Int→Option (List UInt8)) (XdI:Xaa→Xaa→Option Bool) (XcR:Xaf→Bool→Option Bool) (Xes:Bool→Int→Option Int) (m:Xaf) (src:Xaa) (dst:Xaa):Option ((List UInt8)×Int):=
 (XdI src dst).bind fun p=>
 cond (!p)
  (
  some (([],1)))
  (
  (XcR m src.V6).bind fun xr=>
  cond (!xr)
   (
   some (([],1)))
   (
   (Xes src.V6 m.Kind).bind fun t=>
   (XaU (wI .u64 t) 1).bind fun p1=>
   (XaU (wI .u64 m.Code) 1).bind fun p2=>
   XaK (decide (p1.length+p2.length<2^63)) <|
   XaK (decide ((p1++p2).length+4<2^63)) <|
   (XaU (wI .u64 m.MTU) 2).bind fun p3=>
   XaK (decide (((p1++p2)++[0,0,0,0]).length+p3.length<2^63)) <|
   XaK (decide ((((p1++p2)++[0,0,0,0])++p3).length+m.Quote.length<2^63)) <|
   let t1:=(((p1++p2)++[0,0,0,0])++p3)++m.Quote
   (XdH src dst (t1.length:Int)).bind fun xo=>
   XaK (decide (xo.length+t1.length<2^63)) <|
   (Xc1 (xo++t1)).bind fun xo1=>
   (Xb1 t1 2 2 (wI .u64 xo1)).bind fun s=>
   some ((s,0))))
def rx50 (x:(List UInt8)×Int):Xco:=⟨.tuple ⟨[.string ⟨⟨x.1⟩⟩,.int .i64 x.2]⟩,[],[]⟩
def r50 (g:Xaf→Xaa→Xaa→Option ((List UInt8)×Int)):Dec:=dV XcH fun (y0:Xaf)=>dV Xa8 fun (y1:Xaa)=>dV Xa8 fun (y2:Xaa)=>Xc4 (ofG (g y0 y1 y2) rx50)
theorem r50_c {g:Xaf→Xaa→Xaa→Option ((List UInt8)×Int)} {y0:Xaf} {y1:Xaa} {y2:Xaa} {x:(List UInt8)×Int} (hx:g y0 y1 y2=some x):r50 g [.agg ⟨[.int .i64 y0.Kind,.int .i64 y0.Code,.int .i64 y0.MTU,.string ⟨⟨y0.Quote⟩⟩]⟩,.agg ⟨[.bool y1.V6,.int .u64 y1.Hi,.int .u64 y1.Lo]⟩,.agg ⟨[.bool y2.V6,.int .u64 y2.Hi,.int .u64 y2.Lo]⟩] []=some (rx50 x):=(XaS (Xdu _)).trans ((XaS (XaY _)).trans ((XaS (XaY _)).trans (XaZ hx)))
def s50 (g:Xaf→Xaa→Xaa→Option ((List UInt8)×Int)):Xbp:=⟨[.v,.v,.v],r50 g⟩
theorem XQW {g:Xaf→Xaa→Xaa→Option ((List UInt8)×Int)} {y0:Xaf} {y1:Xaa} {y2:Xaa} {x:(List UInt8)×Int} (hx:g y0 y1 y2=some x):(s50 g).run [.agg ⟨[.int .i64 y0.Kind,.int .i64 y0.Code,.int .i64 y0.MTU,.string ⟨⟨y0.Quote⟩⟩]⟩,.agg ⟨[.bool y1.V6,.int .u64 y1.Hi,.int .u64 y1.Lo]⟩,.agg ⟨[.bool y2.V6,.int .u64 y2.Hi,.int .u64 y2.Lo]⟩] []=some (rx50 x):=r50_c hx
abbrev XAb (XaU:Int→Int→Option (List UInt8)) (Xc1:(List UInt8)→Option Int) (Xb1:(List UInt8)→Int→Int→Int→Option (List UInt8)) (XdH:Xaa→Xaa→Int→Option (List UInt8)) (XdI:Xaa→Xaa→Option Bool) (XcR:Xaf→Bool→Option Bool) (Xes:Bool→Int→Option Int):List (Nat×Xbp):=[(85,s85 XaU),(88,s88 Xc1),(87,s87 Xb1),(89,s89 XdH),(83,s83 XdI),(84,s84 XcR),(86,s86 Xes)]
theorem XIg (XaU:Int→Int→Option (List UInt8)) (Xc1:(List UInt8)→Option Int) (Xb1:(List UInt8)→Int→Int→Int→Option (List UInt8)) (XdH:Xaa→Xaa→Int→Option (List UInt8)) (XdI:Xaa→Xaa→Option Bool) (XcR:Xaf→Bool→Option Bool) (Xes:Bool→Int→Option Int) (hS:Xai Tryz.prog (Xar (XAb XaU Xc1 Xb1 XdH XdI XcR Xes))) (m:Xaf) (src:Xaa) (dst:Xaa) (res:(List UInt8)×Int) (h:Xjy XaU Xc1 Xb1 XdH XdI XcR Xes m src dst=some res) :
 XaD Tryz.prog 50 0 ⟨⟨50,52,[(0,.agg ⟨[.int .i64 m.Kind,.int .i64 m.Code,.int .i64 m.MTU,.string ⟨⟨m.Quote⟩⟩]⟩),(1,.agg ⟨[.bool src.V6,.int .u64 src.Hi,.int .u64 src.Lo]⟩),(2,.agg ⟨[.bool dst.V6,.int .u64 dst.Hi,.int .u64 dst.Lo]⟩)],[.code Xz0],[],false,none⟩,[],[],0⟩ (fun v H _=>Res 0 (rx50 res) v H):=by
 unfold Xjy at h
 refine Xa9 Xam hS true 3000 ?_
 conv=>whnf
 replace h:=Xak.elim h;obtain ⟨p,hy,h⟩:=h
 refine XaG.q rfl rfl (XRT hy) rfl rfl rfl ?_
 conv=>whnf
 refine br.h h ?_ ?_ ?_
 ·rfl
 ·clear h;intro hb h;conv=>whnf
  all_goals (cases h;exact Res.z rfl rfl rfl)
 clear h;intro hb h;conv=>whnf
 replace h:=Xak.elim h;obtain ⟨xr,hy,h⟩:=h
 refine XaG.q rfl rfl (XNn hy) rfl rfl rfl ?_
 conv=>whnf
 refine br.h h ?_ ?_ ?_
 ·rfl
 ·clear h;intro hb h;conv=>whnf
  all_goals (cases h;exact Res.z rfl rfl rfl)
 clear h;intro hb h;conv=>whnf
 replace h:=Xak.elim h;obtain ⟨t,hy,h⟩:=h
 refine XaG.q rfl rfl (X59 hy) rfl rfl rfl ?_
 conv=>whnf
 replace h:=Xak.elim h;obtain ⟨p1,hy,h⟩:=h
 refine XaG.q rfl rfl (XkU hy) rfl rfl rfl ?_
 conv=>whnf
 replace h:=Xak.elim h;obtain ⟨p2,hy,h⟩:=h
 refine XaG.q rfl rfl (XkU hy) rfl rfl rfl ?_
 conv=>whnf
 replace h:=XaK.elim h;obtain ⟨hb,h⟩:=h
 first|(refine req.intro hb ?_;conv=>whnf)|skip
 replace h:=XaK.elim h;obtain ⟨hb,h⟩:=h
 first|(refine req.intro hb ?_;conv=>whnf)|skip
 replace h:=Xak.elim h;obtain ⟨p3,hy,h⟩:=h
 refine XaG.q rfl rfl (XkU hy) rfl rfl rfl ?_
 conv=>whnf
 replace h:=XaK.elim h;obtain ⟨hb,h⟩:=h
 first|(refine req.intro hb ?_;conv=>whnf)|skip
 replace h:=XaK.elim h;obtain ⟨hb,h⟩:=h
 first|(refine req.intro hb ?_;conv=>whnf)|skip
 let t1:List UInt8:=(((p1++p2)++[0,0,0,0])++p3)++m.Quote
 replace h:=Xak.elim h;obtain ⟨xo,hy,h⟩:=h
 refine XaG.q rfl rfl (XQI hy) rfl rfl rfl ?_
 conv=>whnf
 replace h:=XaK.elim h;obtain ⟨hb,h⟩:=h
 first|(refine req.intro hb ?_;conv=>whnf)|skip
 replace h:=Xak.elim h;obtain ⟨xo1,hy,h⟩:=h
 refine XaG.q rfl rfl (Xvi hy) rfl rfl rfl ?_
 conv=>whnf
 replace h:=Xak.elim h;obtain ⟨s,hy,h⟩:=h
 refine XaG.q rfl rfl (Xve hy) rfl rfl rfl ?_
 conv=>whnf
 all_goals (cases h;exact Res.z rfl rfl rfl)
theorem ok50 (XaU:Int→Int→Option (List UInt8)) (Xc1:(List UInt8)→Option Int) (Xb1:(List UInt8)→Int→Int→Int→Option (List UInt8)) (XdH:Xaa→Xaa→Int→Option (List UInt8)) (XdI:Xaa→Xaa→Option Bool) (XcR:Xaf→Bool→Option Bool) (Xes:Bool→Int→Option Int) (hS:Xai Tryz.prog (Xar (XAb XaU Xc1 Xb1 XdH XdI XcR Xes))):Xan Tryz.prog 50 (s50 (Xjy XaU Xc1 Xb1 XdH XdI XcR Xes)):=by
 refine Xan.Xau Xam (fun ar os r ha hr=>?_) ⟨Tryz.f50,rfl,by decide,rfl⟩
 replace hr:r50 (Xjy XaU Xc1 Xb1 XdH XdI XcR Xes) ar (XaA os)=some r:=hr
 unfold r50 at hr
 generalize hc:XaA os=C at hr
 replace hr:=dV.elim hr;obtain ⟨v0,l1,y0,rfl,e0,hr⟩:=hr;obtain rfl:=Xdh _ _ e0
 replace hr:=dV.elim hr;obtain ⟨v1,l2,y1,rfl,e1,hr⟩:=hr;obtain rfl:=XaN _ _ e1
 replace hr:=dV.elim hr;obtain ⟨v2,l3,y2,rfl,e2,hr⟩:=hr;obtain rfl:=XaN _ _ e2
 replace hr:=Xdf hr;obtain ⟨rfl,rfl,x,h,rfl⟩:=hr
 obtain rfl:=Xao hc
 exact ⟨_,rfl,XIg XaU Xc1 Xb1 XdH XdI XcR Xes hS _ _ _ x h⟩
def Xev:Xaf→Xaa→Xaa→Option ((List UInt8)×Int):=Xjy XaU Xc1 Xb1 XdH XdI XcR Xes
theorem XX5:Xan Tryz.prog 50 (s50 Xev):=ok50 XaU Xc1 Xb1 XdH XdI XcR Xes (Xai.XaW ⟨Xpz,XAh,Xzj,X5k,XVd,XYk,X6s,trivial⟩)
end Go.Vm.Code
namespace Go.Vm.Code
open Go Go.Vm
def Xn9 (src dst:Xaa):Bool:=aok src&&aok dst&&(src.V6==dst.V6)
theorem Xud (src dst:Xaa) (p n:Int):(Xnf src dst p n==[])=!Xn9 src dst:=by
 unfold Xnf Xn9
 by_cases h:aok src=true∧aok dst=true∧src.V6=dst.V6
 ·rw [if_pos h]
  obtain ⟨a,b,c⟩:=h
  rw [a,b,c]
  have:=Xdi src
  have hl:Xcf src≠[]:=by
   intro e;rw [e] at this;revert this;cases src.V6<;>simp
  have h2:(Xcf src++Xcf dst++cond dst.V6 (XcG n 4++XcG 0 3++XcG p 1) (XcG 0 1++XcG p 1++XcG n 2))≠[]:=by
   intro e
   rw [List.append_assoc] at e
   exact hl (List.append_eq_nil_iff.1 e).1
  rw [show (Xcf src++Xcf dst++cond dst.V6 (XcG n 4++XcG 0 3++XcG p 1) (XcG 0 1++XcG p 1++XcG n 2)==[])=false by simpa using h2]
  simp
 ·rw [if_neg h]
  cases a:aok src
  ·rfl
  cases b:aok dst
  ·rfl
  have c:src.V6≠dst.V6:=fun c=>h ⟨a,b,c⟩
  simp [c]
def ov (src dst:Xaa) (n:Int):List UInt8:=cond src.V6 (Xnf src dst 58 n) []
theorem XBK (src dst:Xaa) (n:Int):(ov src dst n).length≤56:=by
 unfold ov;cases src.V6
 ·exact Nat.zero_le _
 ·exact XkL src dst 58 n
def P53 (m:Xaf):Prop:=1≤m.Kind∧m.Kind≤3∧0≤m.Code∧m.Code≤255∧0≤m.MTU∧m.MTU≤65535∧m.Quote.length≤1232∧(m.Kind=2∨m.MTU=0)
instance (m:Xaf):Decidable (P53 m):=inferInstanceAs (Decidable (_∧_))
def M53 (m:Xaf) (v6:Bool):Bool:=cond v6 (decide (P53 m∧(m.Kind=2→m.Code=0))) (decide (P53 m∧(m.Kind=3∨(m.Kind=2∧m.Code=4)∨(m.Kind=1∧m.Code≠4))))
theorem ibeq (a b:Int):(a==b)=decide (a=b):=by rw [Bool.eq_iff_iff];simp
theorem Xtr {m:Xaf} {v6:Bool} (h:M53 m v6=true):P53 m:=by
 unfold M53 at h
 cases v6
 ·rw [cond_false,decide_eq_true_eq] at h;exact h.1
 ·rw [cond_true,decide_eq_true_eq] at h;exact h.1
def Xkj (v6:Bool) (k:Int):Int:=cond v6 k (cond (k==3) 11 3)
def XkZ (v6:Bool) (m:Xaf) (c:Nat):List UInt8:=be (Xkj v6 m.Kind).toNat 1++be m.Code.toNat 1++(be c 2++(be 0 2++be m.MTU.toNat 2++m.Quote))
theorem XkA (v6:Bool) (m:Xaf) (c:Nat):(XkZ v6 m c).length=8+m.Quote.length:=by simp [XkZ];omega
def XRh (p:List UInt8) (v6:Bool) (m:Xaf):Nat:=ckN (Xgz (p++XkZ v6 m 0))
def XlQ (m:Xaf) (src dst:Xaa):List UInt8×Int:=
 if Xn9 src dst=false then ([],1) else if M53 m src.V6=false then ([],1) else (XkZ src.V6 m (XRh (ov src dst (8+m.Quote.length)) src.V6 m),0)
theorem XtB {p:List UInt8} {v6:Bool} {m:Xaf} (hp:p.length<2^30) (hm:m.Quote.length<2^30):((XbG (p++XkZ v6 m 0)).bind fun xo=>(Xbm (XkZ v6 m 0) 2 2 (wI .u64 xo)).bind fun s=>some (s,(0:Int)))=some (XkZ v6 m (XRh p v6 m),0):=by
 have n:=norm_le (Xgz (p++XkZ v6 m 0))
 have hl:=XkA v6 m 0
 rw [X2y (by rw [List.length_append];omega),Option.bind_some,Xhv (by omega) (by omega),XAP (by omega) (by omega),Option.bind_some]
 have:=Xrt (A:=be (Xkj v6 m.Kind).toNat 1++be m.Code.toNat 1) (B:=be 0 2++be m.MTU.toNat 2++m.Quote) (p:=2) (c:=65535 - ((norm (Xgz (p++XkZ v6 m 0)):Nat):Int)) (by simp)
 rw [show ((2:Nat):Int)=2 from rfl] at this
 show some (XpI (XkZ v6 m 0) 2 2 _,(0:Int))=_
 rw [show XpI (XkZ v6 m 0) 2 2 (65535 - ((norm (Xgz (p++XkZ v6 m 0)):Nat):Int))=_ from this]
 unfold XRh ckN
 rw [show (65535 - ((norm (Xgz (p++XkZ v6 m 0)):Nat):Int)).toNat=65535 - norm (Xgz (p++XkZ v6 m 0)) by omega];rfl
theorem Xss {p:List UInt8} {v6:Bool} {m:Xaf} (hp:p.length<2^30) (hm:m.Quote.length<2^30):((Xc1 (p++XkZ v6 m 0)).bind fun xo=>(Xb1 (XkZ v6 m 0) 2 2 (wI .u64 xo)).bind fun s=>some (s,(0:Int)))=some (XkZ v6 m (XRh p v6 m),0):=by
 have n:=norm_le (Xgz (p++XkZ v6 m 0))
 have hl:=XkA v6 m 0
 rw [XoM (by rw [List.length_append];omega),Option.bind_some,Xhv (by omega) (by omega),Xnc (by omega) (by omega) (by omega),Option.bind_some]
 have:=Xrt (A:=be (Xkj v6 m.Kind).toNat 1++be m.Code.toNat 1) (B:=be 0 2++be m.MTU.toNat 2++m.Quote) (p:=2) (c:=65535 - ((norm (Xgz (p++XkZ v6 m 0)):Nat):Int)) (by simp)
 rw [show ((2:Nat):Int)=2 from rfl] at this
 show some (XpI (XkZ v6 m 0) 2 2 _,(0:Int))=_
 rw [show XpI (XkZ v6 m 0) 2 2 (65535 - ((norm (Xgz (p++XkZ v6 m 0)):Nat):Int))=_ from this]
 unfold XRh ckN
 rw [show (65535 - ((norm (Xgz (p++XkZ v6 m 0)):Nat):Int)).toNat=65535 - norm (Xgz (p++XkZ v6 m 0)) by omega];rfl
theorem XKr {src dst:Xaa} {n:Int} (h1:A4 src) (h2:A4 dst) (hn:0≤n∧n<2^63):XcU src dst n=some (cond (Xn9 src dst) (ov src dst n) [],Xn9 src dst):=by
 unfold XcU XgO ov
 have:=Xud src dst 58 n
 rw [Xma h1 h2 (by omega) hn,Option.bind_some,this]
 cases hp:Xn9 src dst
 ·rw [hp] at this
  have e:Xnf src dst 58 n=[]:=by simpa using this
  rw [e];rfl
 ·cases src.V6<;>rfl
theorem Xu4 {src dst:Xaa} (h1:A4 src) (h2:A4 dst):XdI src dst=some (Xn9 src dst):=by
 unfold XdI XhT
 rw [XjK h1 h2 (by omega) (by omega),Option.bind_some,Xud,Bool.not_not]
theorem XyN {src dst:Xaa} {n:Int} (h1:A4 src) (h2:A4 dst) (hn:0≤n∧n<2^63):XdH src dst n=some (ov src dst n):=by
 unfold XdH XhZ ov
 rw [XjK h1 h2 (by omega) hn]
 cases src.V6<;>rfl
theorem XpP (n m:Int):XbT n m=some (decide (0≤n∧n≤m)):=by
 unfold XbT Xfd
 by_cases h:0≤n
 ·rw [XaV h];simp [h]
 ·rw [XaM h];simp [h]
theorem Xoi (k c u:Int) (q:List UInt8):P53 ⟨k,c,u,q⟩↔(1≤k∧k≤3∧0≤c∧c≤255∧0≤u∧u≤65535∧q.length≤1232∧(k=2∨u=0)):=Iff.rfl
theorem Xl5 {a b:Bool} (h:a=true↔b=true):some a=some b:=by rw [Bool.eq_iff_iff.2 h]
theorem Xxi (m:Xaf) (v6:Bool):Xbg m v6=some (M53 m v6):=by
 obtain ⟨k,c,u,q⟩:=m
 unfold Xbg Xdg M53 Xc6 Xha
 simp only [XpP,Option.bind_some,bne,ibeq,←decide_not,Xiy]
 cases v6
 ·simp only [cond_false,Bool.not_false,cond_true]
  repeat' split
  all_goals (try simp only [Option.bind_some,Xiy])
  all_goals (repeat' split)
  all_goals (refine Xl5 ?_;simp only [decide_eq_true_eq,Bool.false_eq_true,false_iff,true_iff,Xoi];omega)
 ·simp only [cond_false,Bool.not_true,cond_true]
  repeat' split
  all_goals (try simp only [Option.bind_some,Xiy])
  all_goals (repeat' split)
  all_goals (refine Xl5 ?_;simp only [decide_eq_true_eq,Bool.false_eq_true,false_iff,true_iff,Xoi];omega)
theorem XsA (m:Xaf) (v6:Bool):XcR m v6=some (M53 m v6):=by
 obtain ⟨k,c,u,q⟩:=m
 unfold XcR XgZ M53
 simp only [bne,ibeq,←decide_not,Xiy]
 cases v6
 ·simp only [cond_false]
  repeat' split
  all_goals (refine Xl5 ?_;simp only [decide_eq_true_eq,Bool.false_eq_true,false_iff,true_iff,beq_iff_eq,decide_eq_decide,Xoi];omega)
 ·simp only [cond_true]
  repeat' split
  all_goals (refine Xl5 ?_;simp only [decide_eq_true_eq,Bool.false_eq_true,false_iff,true_iff,Xoi];omega)
theorem XwY {α:Type} {k:Int} {v:Bool} (hk:k=1∨k=2∨k=3) (F:Int→Option α):((XcA).bind fun t=>
 XaK (decide (0≤k∧k<4)) <|
 ([XaC.mk t.e0.e0 t.e0.e1,XaC.mk t.e1.e0 t.e1.e1,XaC.mk t.e2.e0 t.e2.e1,XaC.mk t.e3.e0 t.e3.e1][k.toNat]?).bind fun (e:XaC)=>
 (Xc7 v).bind fun s=>
 XaK (decide (0≤s∧s<2)) <|
 ([e.SPort,e.DPort][s.toNat]?).bind fun (e1:Int)=>F e1)=F (Xkj v k):=by
 rcases hk with rfl|rfl|rfl<;>cases v<;>rfl
theorem Xpr {k:Int} {v:Bool} (hk:k=1∨k=2∨k=3):0≤Xkj v k∧Xkj v k≤11:=by
 rcases hk with rfl|rfl|rfl<;>cases v<;>decide
theorem XPf {n:Nat} (h:n<65536):be n 6=be 0 2++(be 0 2++be n 2):=by
 have e1:=XnD n 4 2
 rw [show (256:Nat)^2=65536 from rfl,show n/65536=0 by omega] at e1
 exact e1
theorem XDs {m:Xaf} {src dst:Xaa} (h1:A4 src) (h2:A4 dst) (hq:m.Quote.length<2^20):XdB m src dst=some (XlQ m src dst):=by
 unfold XdB Xih XlQ
 rw [XcC (n:=8+(m.Quote.length:Int)) (by omega) (by omega),XKr h1 h2 (by omega),Option.bind_some]
 have hl:=XBK src dst (8+m.Quote.length)
 generalize ov src dst (8+m.Quote.length)=p at *
 cases hp:Xn9 src dst
 ·rfl
 simp only [Bool.not_true,cond_false,cond_true]
 rw [Xxi,Option.bind_some,if_neg (by decide)]
 cases hm:M53 m src.V6
 ·rfl
 obtain ⟨q1,q2,q3,q4,q5,q6,q7,q8⟩:=Xtr hm
 have hk:m.Kind=1∨m.Kind=2∨m.Kind=3:=by omega
 have ht:=Xpr (v:=src.V6) hk
 rw [Bool.not_true,cond_false,if_neg (by decide)]
 rw [XwY hk]
 have k1:Xaq (Xkl .u64 (wI .u64 ((wI .u64 (Xkj src.V6 m.Kind))*2^8)) (wI .u64 m.Code)) 2=some (be (Xkj src.V6 m.Kind).toNat 1++be m.Code.toNat 1):=by
  obtain ⟨x,hx⟩:=Int.eq_ofNat_of_zero_le ht.1
  obtain ⟨c,hc⟩:=Int.eq_ofNat_of_zero_le q3
  rw [hx,hc]
  have e2:Xkl .u64 (wI .u64 ((wI .u64 (x:Int))*2^8)) (wI .u64 (c:Int))=((x*256+c:Nat):Int):=by
   rw [Xhv (n:=(x:Int)) (by omega) (by omega),Xhv (n:=(c:Int)) (by omega) (by omega),Xhv (n:=(x:Int)*2^8) (by omega) (by omega),Xhe 8 (by omega) (by omega) (by omega) (by omega) (by omega)];omega
  rw [e2,XbY (by omega),show XcG ((x*256+c:Nat):Int) 2=be ((x*256+c:Nat):Int).toNat 2 from Xhn (k:=2) (by omega),Int.toNat_natCast,X3R _ _ (by omega)];rfl
 have k2:Xaq (wI .u64 m.MTU) 6=some (be 0 2++(be 0 2++be m.MTU.toNat 2)):=by
  rw [Xhv (by omega) (by omega),XbY (by omega),show XcG m.MTU 6=be m.MTU.toNat 6 from Xhn (k:=6) (by omega),XPf (by omega)]
 rw [k1,Option.bind_some,k2,Option.bind_some]
 have e:be (Xkj src.V6 m.Kind).toNat 1++be m.Code.toNat 1++(be 0 2++(be 0 2++be m.MTU.toNat 2))++m.Quote=XkZ src.V6 m 0:=by simp only [XkZ,List.append_assoc]
 have hh:=XkA src.V6 m 0
 rw [e,Xaz (by simp),Xaz (by simp;omega),Xaz (by omega)]
 exact XtB (by omega) (by omega)
theorem XEo (v:Bool) (k:Int):Xes v k=some (Xkj v k):=by
 unfold Xes Xjl Xkj
 cases v
 ·cases (k==3)<;>rfl
 ·rfl
theorem Xvx {m:Xaf} {src dst:Xaa} (h1:A4 src) (h2:A4 dst) (hq:m.Quote.length<2^20):Xev m src dst=some (XlQ m src dst):=by
 unfold Xev Xjy XlQ
 rw [Xu4 h1 h2,Option.bind_some]
 cases hp:Xn9 src dst
 ·rfl
 rw [Bool.not_true,cond_false,XsA,Option.bind_some,if_neg (by decide)]
 cases hm:M53 m src.V6
 ·rfl
 obtain ⟨q1,q2,q3,q4,q5,q6,q7,q8⟩:=Xtr hm
 have hk:m.Kind=1∨m.Kind=2∨m.Kind=3:=by omega
 have ht:=Xpr (v:=src.V6) hk
 rw [Bool.not_true,cond_false,if_neg (by decide),XEo,Option.bind_some,Xhv (n:=Xkj src.V6 m.Kind) (by omega) (by omega),Xhv (n:=m.Code) (by omega) (by omega),Xhv (n:=m.MTU) (by omega) (by omega),Xdt (by omega) (by omega),Xdt (by omega) (by omega),Xdt (by omega) (by omega)]
 simp only [Option.bind_some]
 rw [show XcG (Xkj src.V6 m.Kind) 1=be (Xkj src.V6 m.Kind).toNat 1 from Xhn (k:=1) (by omega),show XcG m.Code 1=be m.Code.toNat 1 from Xhn (k:=1) (by omega),show XcG m.MTU 2=be m.MTU.toNat 2 from Xhn (k:=2) (by omega)]
 have e:be (Xkj src.V6 m.Kind).toNat 1++be m.Code.toNat 1++[0,0,0,0]++be m.MTU.toNat 2++m.Quote=XkZ src.V6 m 0:=by
  rw [show ([0,0,0,0]:List UInt8)=be 0 2++be 0 2 from rfl]
  simp only [XkZ,List.append_assoc]
 have hh:=XkA src.V6 m 0
 rw [e,Xaz (by simp),Xaz (by simp),Xaz (by simp),Xaz (by simp;omega),hh,XyN h1 h2 (by omega),Option.bind_some]
 have hn:((8+m.Quote.length:Nat):Int)=8+(m.Quote.length:Int):=by omega
 rw [hn]
 have hl:=XBK src dst (8+m.Quote.length)
 generalize ov src dst (8+m.Quote.length)=p at *
 rw [Xaz (by omega)]
 exact Xss (by omega) (by omega)
end Go.Vm.Code
namespace Go.Vm.Code
open Go Go.Vm Go.Proofs
set_option maxRecDepth 100000
set_option maxHeartbeats 4000000
set_option linter.unusedVariables false
def Xf7 (Xey:Xah→(List UInt8)→Option ((List UInt8)×Int)) (XeD:Xaj→(List UInt8)→Option ((List UInt8)×Int)) (Xev:Xaf→Xaa→Xaa→Option ((List UInt8)×Int)) (m:Xaf) (src:Xaa) (dst:Xaa):Option ((List UInt8)×Int):=
 (Xev m src dst).bind fun p=>
 cond (p.2 !=0)
  (
  some (([],p.2)))
  (
  cond (src.V6)
   (
   (XeD (Xaj.mk 0 0 58 64 src dst) p.1).bind fun p1=>
   some ((p1.1,p1.2)))
   (
   (Xey (Xah.mk 0 0 true 64 1 src dst []) p.1).bind fun p2=>
   some ((p2.1,p2.2))))
def rx27 (x:(List UInt8)×Int):Xco:=⟨.tuple ⟨[.string ⟨⟨x.1⟩⟩,.int .i64 x.2]⟩,[],[]⟩
def r27 (g:Xaf→Xaa→Xaa→Option ((List UInt8)×Int)):Dec:=dV XcH fun (y0:Xaf)=>dV Xa8 fun (y1:Xaa)=>dV Xa8 fun (y2:Xaa)=>Xc4 (ofG (g y0 y1 y2) rx27)
theorem r27_c {g:Xaf→Xaa→Xaa→Option ((List UInt8)×Int)} {y0:Xaf} {y1:Xaa} {y2:Xaa} {x:(List UInt8)×Int} (hx:g y0 y1 y2=some x):r27 g [.agg ⟨[.int .i64 y0.Kind,.int .i64 y0.Code,.int .i64 y0.MTU,.string ⟨⟨y0.Quote⟩⟩]⟩,.agg ⟨[.bool y1.V6,.int .u64 y1.Hi,.int .u64 y1.Lo]⟩,.agg ⟨[.bool y2.V6,.int .u64 y2.Hi,.int .u64 y2.Lo]⟩] []=some (rx27 x):=(XaS (Xdu _)).trans ((XaS (XaY _)).trans ((XaS (XaY _)).trans (XaZ hx)))
def s27 (g:Xaf→Xaa→Xaa→Option ((List UInt8)×Int)):Xbp:=⟨[.v,.v,.v],r27 g⟩
theorem Xzb {g:Xaf→Xaa→Xaa→Option ((List UInt8)×Int)} {y0:Xaf} {y1:Xaa} {y2:Xaa} {x:(List UInt8)×Int} (hx:g y0 y1 y2=some x):(s27 g).run [.agg ⟨[.int .i64 y0.Kind,.int .i64 y0.Code,.int .i64 y0.MTU,.string ⟨⟨y0.Quote⟩⟩]⟩,.agg ⟨[.bool y1.V6,.int .u64 y1.Hi,.int .u64 y1.Lo]⟩,.agg ⟨[.bool y2.V6,.int .u64 y2.Hi,.int .u64 y2.Lo]⟩] []=some (rx27 x):=r27_c hx
abbrev XzT (Xey:Xah→(List UInt8)→Option ((List UInt8)×Int)) (XeD:Xaj→(List UInt8)→Option ((List UInt8)×Int)) (Xev:Xaf→Xaa→Xaa→Option ((List UInt8)×Int)):List (Nat×Xbp):=[(52,s52 Xey),(51,s51 XeD),(50,s50 Xev)]
theorem XKI (Xey:Xah→(List UInt8)→Option ((List UInt8)×Int)) (XeD:Xaj→(List UInt8)→Option ((List UInt8)×Int)) (Xev:Xaf→Xaa→Xaa→Option ((List UInt8)×Int)) (hS:Xai Tryz.prog (Xar (XzT Xey XeD Xev))) (m:Xaf) (src:Xaa) (dst:Xaa) (res:(List UInt8)×Int) (h:Xf7 Xey XeD Xev m src dst=some res) :
 XaD Tryz.prog 27 0 ⟨⟨27,36,[(0,.agg ⟨[.int .i64 m.Kind,.int .i64 m.Code,.int .i64 m.MTU,.string ⟨⟨m.Quote⟩⟩]⟩),(1,.agg ⟨[.bool src.V6,.int .u64 src.Hi,.int .u64 src.Lo]⟩),(2,.agg ⟨[.bool dst.V6,.int .u64 dst.Hi,.int .u64 dst.Lo]⟩)],[.code Xzz],[],false,none⟩,[],[],0⟩ (fun v H _=>Res 0 (rx27 res) v H):=by
 unfold Xf7 at h
 refine Xa9 Xam hS true 3000 ?_
 conv=>whnf
 replace h:=Xak.elim h;obtain ⟨p,hy,h⟩:=h
 refine XaG.q rfl rfl (XQW hy) rfl rfl rfl ?_
 conv=>whnf
 refine br.h h ?_ ?_ ?_
 ·rfl
 ·clear h;intro hb h;conv=>whnf
  all_goals (cases h;exact Res.z rfl rfl rfl)
 clear h;intro hb h;conv=>whnf
 refine br.h h ?_ ?_ ?_
 ·rfl
 ·clear h;intro hb h;conv=>whnf
  replace h:=Xak.elim h;obtain ⟨p1,hy,h⟩:=h
  refine XaG.q rfl rfl (XNJ hy) rfl rfl rfl ?_
  conv=>whnf
  all_goals (cases h;exact Res.z rfl rfl rfl)
 clear h;intro hb h;conv=>whnf
 replace h:=Xak.elim h;obtain ⟨p2,hy,h⟩:=h
 refine XaG.q rfl rfl (XUi hy) rfl rfl rfl ?_
 conv=>whnf
 all_goals (cases h;exact Res.z rfl rfl rfl)
theorem ok27 (Xey:Xah→(List UInt8)→Option ((List UInt8)×Int)) (XeD:Xaj→(List UInt8)→Option ((List UInt8)×Int)) (Xev:Xaf→Xaa→Xaa→Option ((List UInt8)×Int)) (hS:Xai Tryz.prog (Xar (XzT Xey XeD Xev))):Xan Tryz.prog 27 (s27 (Xf7 Xey XeD Xev)):=by
 refine Xan.Xau Xam (fun ar os r ha hr=>?_) ⟨Tryz.f27,rfl,by decide,rfl⟩
 replace hr:r27 (Xf7 Xey XeD Xev) ar (XaA os)=some r:=hr
 unfold r27 at hr
 generalize hc:XaA os=C at hr
 replace hr:=dV.elim hr;obtain ⟨v0,l1,y0,rfl,e0,hr⟩:=hr;obtain rfl:=Xdh _ _ e0
 replace hr:=dV.elim hr;obtain ⟨v1,l2,y1,rfl,e1,hr⟩:=hr;obtain rfl:=XaN _ _ e1
 replace hr:=dV.elim hr;obtain ⟨v2,l3,y2,rfl,e2,hr⟩:=hr;obtain rfl:=XaN _ _ e2
 replace hr:=Xdf hr;obtain ⟨rfl,rfl,x,h,rfl⟩:=hr
 obtain rfl:=Xao hc
 exact ⟨_,rfl,XKI Xey XeD Xev hS _ _ _ x h⟩
def Xb6:Xaf→Xaa→Xaa→Option ((List UInt8)×Int):=Xf7 Xey XeD Xev
theorem XUb:Xan Tryz.prog 27 (s27 Xb6):=ok27 Xey XeD Xev (Xai.XaW ⟨XRJ,X5D,XX5,trivial⟩)
def Xfi (XdB:Xaf→Xaa→Xaa→Option ((List UInt8)×Int)) (Xcg:Xah→(List UInt8)→Option ((List UInt8)×Int)) (XcN:Xaj→(List UInt8)→Option ((List UInt8)×Int)) (m:Xaf) (src:Xaa) (dst:Xaa):Option ((List UInt8)×Int):=
 (XdB m src dst).bind fun p=>
 cond (p.2 !=0)
  (
  some (([],p.2)))
  (
  cond (src.V6)
   (
   (XcN (Xaj.mk 0 0 58 64 src dst) p.1).bind fun p1=>
   some ((p1.1,p1.2)))
   (
   (Xcg (Xah.mk 0 0 true 64 1 src dst []) p.1).bind fun p2=>
   some ((p2.1,p2.2))))
def rx25 (x:(List UInt8)×Int):Xco:=⟨.tuple ⟨[.string ⟨⟨x.1⟩⟩,.int .i64 x.2]⟩,[],[]⟩
def r25 (g:Xaf→Xaa→Xaa→Option ((List UInt8)×Int)):Dec:=dV XcH fun (y0:Xaf)=>dV Xa8 fun (y1:Xaa)=>dV Xa8 fun (y2:Xaa)=>Xc4 (ofG (g y0 y1 y2) rx25)
theorem r25_c {g:Xaf→Xaa→Xaa→Option ((List UInt8)×Int)} {y0:Xaf} {y1:Xaa} {y2:Xaa} {x:(List UInt8)×Int} (hx:g y0 y1 y2=some x):r25 g [.agg ⟨[.int .i64 y0.Kind,.int .i64 y0.Code,.int .i64 y0.MTU,.string ⟨⟨y0.Quote⟩⟩]⟩,.agg ⟨[.bool y1.V6,.int .u64 y1.Hi,.int .u64 y1.Lo]⟩,.agg ⟨[.bool y2.V6,.int .u64 y2.Hi,.int .u64 y2.Lo]⟩] []=some (rx25 x):=(XaS (Xdu _)).trans ((XaS (XaY _)).trans ((XaS (XaY _)).trans (XaZ hx)))
def s25 (g:Xaf→Xaa→Xaa→Option ((List UInt8)×Int)):Xbp:=⟨[.v,.v,.v],r25 g⟩
theorem XAZ {g:Xaf→Xaa→Xaa→Option ((List UInt8)×Int)} {y0:Xaf} {y1:Xaa} {y2:Xaa} {x:(List UInt8)×Int} (hx:g y0 y1 y2=some x):(s25 g).run [.agg ⟨[.int .i64 y0.Kind,.int .i64 y0.Code,.int .i64 y0.MTU,.string ⟨⟨y0.Quote⟩⟩]⟩,.agg ⟨[.bool y1.V6,.int .u64 y1.Hi,.int .u64 y1.Lo]⟩,.agg ⟨[.bool y2.V6,.int .u64 y2.Hi,.int .u64 y2.Lo]⟩] []=some (rx25 x):=r25_c hx
abbrev Xza (XdB:Xaf→Xaa→Xaa→Option ((List UInt8)×Int)) (Xcg:Xah→(List UInt8)→Option ((List UInt8)×Int)) (XcN:Xaj→(List UInt8)→Option ((List UInt8)×Int)):List (Nat×Xbp):=[(47,s47 XdB),(49,s49 Xcg),(48,s48 XcN)]
theorem XIC (XdB:Xaf→Xaa→Xaa→Option ((List UInt8)×Int)) (Xcg:Xah→(List UInt8)→Option ((List UInt8)×Int)) (XcN:Xaj→(List UInt8)→Option ((List UInt8)×Int)) (hS:Xai Tryz.prog (Xar (Xza XdB Xcg XcN))) (m:Xaf) (src:Xaa) (dst:Xaa) (res:(List UInt8)×Int) (h:Xfi XdB Xcg XcN m src dst=some res) :
 XaD Tryz.prog 25 0 ⟨⟨25,38,[(0,.agg ⟨[.int .i64 m.Kind,.int .i64 m.Code,.int .i64 m.MTU,.string ⟨⟨m.Quote⟩⟩]⟩),(1,.agg ⟨[.bool src.V6,.int .u64 src.Hi,.int .u64 src.Lo]⟩),(2,.agg ⟨[.bool dst.V6,.int .u64 dst.Hi,.int .u64 dst.Lo]⟩)],[.code XBL],[],false,none⟩,[],[],0⟩ (fun v H _=>Res 0 (rx25 res) v H):=by
 unfold Xfi at h
 refine Xa9 Xam hS true 3000 ?_
 conv=>whnf
 replace h:=Xak.elim h;obtain ⟨p,hy,h⟩:=h
 refine XaG.q rfl rfl (XPl hy) rfl rfl rfl ?_
 conv=>whnf
 refine br.h h ?_ ?_ ?_
 ·rfl
 ·clear h;intro hb h;conv=>whnf
  all_goals (cases h;exact Res.z rfl rfl rfl)
 clear h;intro hb h;conv=>whnf
 refine br.h h ?_ ?_ ?_
 ·rfl
 ·clear h;intro hb h;conv=>whnf
  replace h:=Xak.elim h;obtain ⟨p1,hy,h⟩:=h
  refine XaG.q rfl rfl (X2n hy) rfl rfl rfl ?_
  conv=>whnf
  all_goals (cases h;exact Res.z rfl rfl rfl)
 clear h;intro hb h;conv=>whnf
 replace h:=Xak.elim h;obtain ⟨p2,hy,h⟩:=h
 refine XaG.q rfl rfl (XSU hy) rfl rfl rfl ?_
 conv=>whnf
 all_goals (cases h;exact Res.z rfl rfl rfl)
theorem ok25 (XdB:Xaf→Xaa→Xaa→Option ((List UInt8)×Int)) (Xcg:Xah→(List UInt8)→Option ((List UInt8)×Int)) (XcN:Xaj→(List UInt8)→Option ((List UInt8)×Int)) (hS:Xai Tryz.prog (Xar (Xza XdB Xcg XcN))):Xan Tryz.prog 25 (s25 (Xfi XdB Xcg XcN)):=by
 refine Xan.Xau Xam (fun ar os r ha hr=>?_) ⟨Tryz.f25,rfl,by decide,rfl⟩
 replace hr:r25 (Xfi XdB Xcg XcN) ar (XaA os)=some r:=hr
 unfold r25 at hr
 generalize hc:XaA os=C at hr
 replace hr:=dV.elim hr;obtain ⟨v0,l1,y0,rfl,e0,hr⟩:=hr;obtain rfl:=Xdh _ _ e0
 replace hr:=dV.elim hr;obtain ⟨v1,l2,y1,rfl,e1,hr⟩:=hr;obtain rfl:=XaN _ _ e1
 replace hr:=dV.elim hr;obtain ⟨v2,l3,y2,rfl,e2,hr⟩:=hr;obtain rfl:=XaN _ _ e2
 replace hr:=Xdf hr;obtain ⟨rfl,rfl,x,h,rfl⟩:=hr
 obtain rfl:=Xao hc
 exact ⟨_,rfl,XIC XdB Xcg XcN hS _ _ _ x h⟩
def XbU:Xaf→Xaa→Xaa→Option ((List UInt8)×Int):=Xfi XdB Xcg XcN
theorem XRq:Xan Tryz.prog 25 (s25 XbU):=ok25 XdB Xcg XcN (Xai.XaW ⟨XOD,X0M,X5W,trivial⟩)
end Go.Vm.Code
namespace Go.Vm.Code
open Go Go.Vm
theorem Xks {a:Xaa} (h:A4 a):XmD a:=⟨⟨h.1,h.2.1⟩,h.2.2.1,h.2.2.2⟩
def Xpa (m:Xaf) (src dst:Xaa):List UInt8×Int:=
 if (XlQ m src dst).2≠0 then ([],(XlQ m src dst).2) else cond src.V6 (XSc ⟨0,0,58,64,src,dst⟩ (XlQ m src dst).1) (XOa ⟨0,0,true,64,1,src,dst,[]⟩ (XlQ m src dst).1)
theorem Xo5 (m:Xaf) (src dst:Xaa):(XlQ m src dst).1.length≤8+m.Quote.length:=by
 unfold XlQ
 split
 ·simp
 split
 ·simp
 ·simp only [XkA];omega
theorem XrP {m:Xaf} {src dst:Xaa} (h1:A4 src) (h2:A4 dst) (hq:m.Quote.length<2^19):XbU m src dst=some (Xpa m src dst):=by
 unfold XbU Xfi Xpa
 have hl:=Xo5 m src dst
 rw [XDs h1 h2 (by omega),Option.bind_some]
 generalize XlQ m src dst=p at *
 by_cases g:p.2=0
 ·rw [show (p.2 !=0)=false by simpa using g,cond_false,if_neg (by simpa using g),XDw (h:=⟨0,0,58,64,src,dst⟩) (Xks h1) (Xks h2) (by omega),p5_eq (h:=⟨0,0,true,64,1,src,dst,[]⟩) h1 h2 (by omega) (by simp)]
  cases src.V6<;>rfl
 ·rw [show (p.2 !=0)=true by simpa using g,cond_true,if_pos g]
theorem XrL {m:Xaf} {src dst:Xaa} (h1:A4 src) (h2:A4 dst) (hq:m.Quote.length<2^19):Xb6 m src dst=some (Xpa m src dst):=by
 unfold Xb6 Xf7 Xpa
 have hl:=Xo5 m src dst
 rw [Xvx h1 h2 (by omega),Option.bind_some]
 generalize XlQ m src dst=p at *
 by_cases g:p.2=0
 ·rw [show (p.2 !=0)=false by simpa using g,cond_false,if_neg (by simpa using g),XxE (h:=⟨0,0,58,64,src,dst⟩) (Xks h1) (Xks h2) (by omega),X08 (h:=⟨0,0,true,64,1,src,dst,[]⟩) h1 h2 (by omega) (by simp)]
  cases src.V6<;>rfl
 ·rw [show (p.2 !=0)=true by simpa using g,cond_true,if_pos g]
end Go.Vm.Code
namespace Go.Vm.Code
open Go Go.Vm Go.Proofs
set_option maxRecDepth 100000
set_option maxHeartbeats 4000000
set_option linter.unusedVariables false
def Xdj (x:Int) (low:Int) (high:Int):Option Bool:=
 cond (decide (low≤x))
  (
  some (decide (x≤high)))
  (
  some (false))
def rx28 (x:Bool):Xco:=⟨.bool x,[],[]⟩
def r28 (g:Int→Int→Int→Option Bool):Dec:=dV (asI .i64) fun (y0:Int)=>dV (asI .i64) fun (y1:Int)=>dV (asI .i64) fun (y2:Int)=>Xc4 (ofG (g y0 y1 y2) rx28)
theorem r28_c {g:Int→Int→Int→Option Bool} {y0:Int} {y1:Int} {y2:Int} {x:Bool} (hx:g y0 y1 y2=some x):r28 g [.int .i64 y0,.int .i64 y1,.int .i64 y2] []=some (rx28 x):=(XaS (XcI _)).trans ((XaS (XcI _)).trans ((XaS (XcI _)).trans (XaZ hx)))
def s28 (g:Int→Int→Int→Option Bool):Xbp:=⟨[.v,.v,.v],r28 g⟩
theorem XA1 {g:Int→Int→Int→Option Bool} {y0:Int} {y1:Int} {y2:Int} {x:Bool} (hx:g y0 y1 y2=some x):(s28 g).run [.int .i64 y0,.int .i64 y1,.int .i64 y2] []=some (rx28 x):=r28_c hx
abbrev XAu:List (Nat×Xbp):=[]
theorem XCL (hS:Xai Tryz.prog (Xar (XAu))) (x:Int) (low:Int) (high:Int) (res:Bool) (h:Xdj x low high=some res) :
 XaD Tryz.prog 28 0 ⟨⟨28,15,[(0,.int .i64 x),(1,.int .i64 low),(2,.int .i64 high)],[.code X48],[],false,none⟩,[],[],0⟩ (fun v H _=>Res 0 (rx28 res) v H):=by
 unfold Xdj at h
 refine Xa9 Xam hS true 3000 ?_
 conv=>whnf
 refine br.h h ?_ ?_ ?_
 ·rfl
 ·clear h;intro hb h;conv=>whnf
  all_goals (cases h;exact Res.z rfl rfl rfl)
 clear h;intro hb h;conv=>whnf
 all_goals (cases h;exact Res.z rfl rfl rfl)
theorem ok28 (hS:Xai Tryz.prog (Xar (XAu))):Xan Tryz.prog 28 (s28 (Xdj)):=by
 refine Xan.Xau Xam (fun ar os r ha hr=>?_) ⟨Tryz.f28,rfl,by decide,rfl⟩
 replace hr:r28 (Xdj) ar (XaA os)=some r:=hr
 unfold r28 at hr
 generalize hc:XaA os=C at hr
 replace hr:=dV.elim hr;obtain ⟨v0,l1,y0,rfl,e0,hr⟩:=hr;obtain rfl:=XbO _ _ _ e0
 replace hr:=dV.elim hr;obtain ⟨v1,l2,y1,rfl,e1,hr⟩:=hr;obtain rfl:=XbO _ _ _ e1
 replace hr:=dV.elim hr;obtain ⟨v2,l3,y2,rfl,e2,hr⟩:=hr;obtain rfl:=XbO _ _ _ e2
 replace hr:=Xdf hr;obtain ⟨rfl,rfl,x,h,rfl⟩:=hr
 obtain rfl:=Xao hc
 exact ⟨_,rfl,XCL hS _ _ _ x h⟩
def XaE:Int→Int→Int→Option Bool:=Xdj
theorem XA9:Xan Tryz.prog 28 (s28 XaE):=ok28 (Xai.XaW trivial)
def Xjw (XaE:Int→Int→Int→Option Bool) (mtu:Int):Option Bool:=
 (XaE mtu 576 9000).bind fun i=>
 some (i)
def rx23 (x:Bool):Xco:=⟨.bool x,[],[]⟩
def r23 (g:Int→Option Bool):Dec:=dV (asI .i64) fun (y0:Int)=>Xc4 (ofG (g y0) rx23)
theorem r23_c {g:Int→Option Bool} {y0:Int} {x:Bool} (hx:g y0=some x):r23 g [.int .i64 y0] []=some (rx23 x):=(XaS (XcI _)).trans (XaZ hx)
def s23 (g:Int→Option Bool):Xbp:=⟨[.v],r23 g⟩
theorem Xy8 {g:Int→Option Bool} {y0:Int} {x:Bool} (hx:g y0=some x):(s23 g).run [.int .i64 y0] []=some (rx23 x):=r23_c hx
abbrev XBn (XaE:Int→Int→Int→Option Bool):List (Nat×Xbp):=[(28,s28 XaE)]
theorem XLg (XaE:Int→Int→Int→Option Bool) (hS:Xai Tryz.prog (Xar (XBn XaE))) (mtu:Int) (res:Bool) (h:Xjw XaE mtu=some res) :
 XaD Tryz.prog 23 0 ⟨⟨23,5,[(0,.int .i64 mtu)],[.code XO6],[],false,none⟩,[],[],0⟩ (fun v H _=>Res 0 (rx23 res) v H):=by
 unfold Xjw at h
 refine Xa9 Xam hS true 3000 ?_
 conv=>whnf
 replace h:=Xak.elim h;obtain ⟨i,hy,h⟩:=h
 refine XaG.q rfl rfl (XA1 hy) rfl rfl rfl ?_
 conv=>whnf
 all_goals (cases h;exact Res.z rfl rfl rfl)
theorem ok23 (XaE:Int→Int→Int→Option Bool) (hS:Xai Tryz.prog (Xar (XBn XaE))):Xan Tryz.prog 23 (s23 (Xjw XaE)):=by
 refine Xan.Xau Xam (fun ar os r ha hr=>?_) ⟨Tryz.f23,rfl,by decide,rfl⟩
 replace hr:r23 (Xjw XaE) ar (XaA os)=some r:=hr
 unfold r23 at hr
 generalize hc:XaA os=C at hr
 replace hr:=dV.elim hr;obtain ⟨v0,l1,y0,rfl,e0,hr⟩:=hr;obtain rfl:=XbO _ _ _ e0
 replace hr:=Xdf hr;obtain ⟨rfl,rfl,x,h,rfl⟩:=hr
 obtain rfl:=Xao hc
 exact ⟨_,rfl,XLg XaE hS _ x h⟩
def Xcc:Int→Option Bool:=Xjw XaE
theorem XAs:Xan Tryz.prog 23 (s23 Xcc):=ok23 XaE (Xai.XaW ⟨XA9,trivial⟩)
def XhR (v6:Bool):Option Int:=
 cond (v6)
  (
  some (48))
  (
  some (28))
def rx24 (x:Int):Xco:=⟨.int .i64 x,[],[]⟩
def r24 (g:Bool→Option Int):Dec:=dV asB fun (y0:Bool)=>Xc4 (ofG (g y0) rx24)
theorem r24_c {g:Bool→Option Int} {y0:Bool} {x:Int} (hx:g y0=some x):r24 g [.bool y0] []=some (rx24 x):=(XaS (Xmz)).trans (XaZ hx)
def s24 (g:Bool→Option Int):Xbp:=⟨[.v],r24 g⟩
theorem XAl {g:Bool→Option Int} {y0:Bool} {x:Int} (hx:g y0=some x):(s24 g).run [.bool y0] []=some (rx24 x):=r24_c hx
abbrev Xzs:List (Nat×Xbp):=[]
theorem XGi (hS:Xai Tryz.prog (Xar (Xzs))) (v6:Bool) (res:Int) (h:XhR v6=some res) :
 XaD Tryz.prog 24 0 ⟨⟨24,4,[(0,.bool v6)],[.code XXP],[],false,none⟩,[],[],0⟩ (fun v H _=>Res 0 (rx24 res) v H):=by
 unfold XhR at h
 refine Xa9 Xam hS true 3000 ?_
 conv=>whnf
 refine br.h h ?_ ?_ ?_
 ·rfl
 ·clear h;intro hb h;conv=>whnf
  all_goals (cases h;exact Res.z rfl rfl rfl)
 clear h;intro hb h;conv=>whnf
 all_goals (cases h;exact Res.z rfl rfl rfl)
theorem ok24 (hS:Xai Tryz.prog (Xar (Xzs))):Xan Tryz.prog 24 (s24 (XhR)):=by
 refine Xan.Xau Xam (fun ar os r ha hr=>?_) ⟨Tryz.f24,rfl,by decide,rfl⟩
 replace hr:r24 (XhR) ar (XaA os)=some r:=hr
 unfold r24 at hr
 generalize hc:XaA os=C at hr
 replace hr:=dV.elim hr;obtain ⟨v0,l1,y0,rfl,e0,hr⟩:=hr;obtain rfl:=XiV _ _ e0
 replace hr:=Xdf hr;obtain ⟨rfl,rfl,x,h,rfl⟩:=hr
 obtain rfl:=Xao hc
 exact ⟨_,rfl,XGi hS _ x h⟩
def XbC:Bool→Option Int:=XhR
theorem XzN:Xan Tryz.prog 24 (s24 XbC):=ok24 (Xai.XaW trivial)
def Xh2 (XbC:Bool→Option Int) (Xcc:Int→Option Bool) (mtu:Int) (v6:Bool):Option Int:=
 (Xcc mtu).bind fun m=>
 cond (!m)
  (
  some (0))
  (
  (XbC v6).bind fun xh=>
  some (wI .i64 ((wI .i64 (mtu - xh)) - 18)))
def rx8 (x:Int):Xco:=⟨.int .i64 x,[],[]⟩
def r8 (g:Int→Bool→Option Int):Dec:=dV (asI .i64) fun (y0:Int)=>dV asB fun (y1:Bool)=>Xc4 (ofG (g y0 y1) rx8)
theorem r8_c {g:Int→Bool→Option Int} {y0:Int} {y1:Bool} {x:Int} (hx:g y0 y1=some x):r8 g [.int .i64 y0,.bool y1] []=some (rx8 x):=(XaS (XcI _)).trans ((XaS (Xmz)).trans (XaZ hx))
def s8 (g:Int→Bool→Option Int):Xbp:=⟨[.v,.v],r8 g⟩
theorem XqF {g:Int→Bool→Option Int} {y0:Int} {y1:Bool} {x:Int} (hx:g y0 y1=some x):(s8 g).run [.int .i64 y0,.bool y1] []=some (rx8 x):=r8_c hx
abbrev XQ8 (XbC:Bool→Option Int) (Xcc:Int→Option Bool):List (Nat×Xbp):=[(24,s24 XbC),(23,s23 Xcc)]
theorem XZX (XbC:Bool→Option Int) (Xcc:Int→Option Bool) (hS:Xai Tryz.prog (Xar (XQ8 XbC Xcc))) (mtu:Int) (v6:Bool) (res:Int) (h:Xh2 XbC Xcc mtu v6=some res) :
 XaD Tryz.prog 8 0 ⟨⟨8,13,[(0,.int .i64 mtu),(1,.bool v6)],[.code k8_9],[],false,none⟩,[],[],0⟩ (fun v H _=>Res 0 (rx8 res) v H):=by
 unfold Xh2 at h
 refine Xa9 Xam hS true 3000 ?_
 conv=>whnf
 replace h:=Xak.elim h;obtain ⟨m,hy,h⟩:=h
 refine XaG.q rfl rfl (Xy8 hy) rfl rfl rfl ?_
 conv=>whnf
 refine br.h h ?_ ?_ ?_
 ·rfl
 ·clear h;intro hb h;conv=>whnf
  all_goals (cases h;exact Res.z rfl rfl rfl)
 clear h;intro hb h;conv=>whnf
 replace h:=Xak.elim h;obtain ⟨xh,hy,h⟩:=h
 refine XaG.q rfl rfl (XAl hy) rfl rfl rfl ?_
 conv=>whnf
 all_goals (cases h;exact Res.z rfl rfl rfl)
theorem ok8 (XbC:Bool→Option Int) (Xcc:Int→Option Bool) (hS:Xai Tryz.prog (Xar (XQ8 XbC Xcc))):Xan Tryz.prog 8 (s8 (Xh2 XbC Xcc)):=by
 refine Xan.Xau Xam (fun ar os r ha hr=>?_) ⟨Tryz.f8,rfl,by decide,rfl⟩
 replace hr:r8 (Xh2 XbC Xcc) ar (XaA os)=some r:=hr
 unfold r8 at hr
 generalize hc:XaA os=C at hr
 replace hr:=dV.elim hr;obtain ⟨v0,l1,y0,rfl,e0,hr⟩:=hr;obtain rfl:=XbO _ _ _ e0
 replace hr:=dV.elim hr;obtain ⟨v1,l2,y1,rfl,e1,hr⟩:=hr;obtain rfl:=XiV _ _ e1
 replace hr:=Xdf hr;obtain ⟨rfl,rfl,x,h,rfl⟩:=hr
 obtain rfl:=Xao hc
 exact ⟨_,rfl,XZX XbC Xcc hS _ _ x h⟩
def Xa1:Int→Bool→Option Int:=Xh2 XbC Xcc
theorem XHG:Xan Tryz.prog 8 (s8 Xa1):=ok8 XbC Xcc (Xai.XaW ⟨XzN,XAs,trivial⟩)
def Xib (Xa1:Int→Bool→Option Int) (s:List UInt8) (mtu:Int) (v6:Bool):Option Bool:=
 (Xa1 mtu v6).bind fun xr=>
 some (decide ((s.length:Int)≤xr))
def rx10 (x:Bool):Xco:=⟨.bool x,[],[]⟩
def r10 (g:(List UInt8)→Int→Bool→Option Bool):Dec:=dV asS fun (y0:List UInt8)=>dV (asI .i64) fun (y1:Int)=>dV asB fun (y2:Bool)=>Xc4 (ofG (g y0 y1 y2) rx10)
theorem r10_c {g:(List UInt8)→Int→Bool→Option Bool} {y0:List UInt8} {y1:Int} {y2:Bool} {x:Bool} (hx:g y0 y1 y2=some x):r10 g [.string ⟨⟨y0⟩⟩,.int .i64 y1,.bool y2] []=some (rx10 x):=(XaS (XdJ)).trans ((XaS (XcI _)).trans ((XaS (Xmz)).trans (XaZ hx)))
def s10 (g:(List UInt8)→Int→Bool→Option Bool):Xbp:=⟨[.v,.v,.v],r10 g⟩
theorem Xpw {g:(List UInt8)→Int→Bool→Option Bool} {y0:List UInt8} {y1:Int} {y2:Bool} {x:Bool} (hx:g y0 y1 y2=some x):(s10 g).run [.string ⟨⟨y0⟩⟩,.int .i64 y1,.bool y2] []=some (rx10 x):=r10_c hx
abbrev XAU (Xa1:Int→Bool→Option Int):List (Nat×Xbp):=[(8,s8 Xa1)]
theorem XD3 (Xa1:Int→Bool→Option Int) (hS:Xai Tryz.prog (Xar (XAU Xa1))) (s:List UInt8) (mtu:Int) (v6:Bool) (res:Bool) (h:Xib Xa1 s mtu v6=some res) :
 XaD Tryz.prog 10 0 ⟨⟨10,13,[(0,.string ⟨⟨s⟩⟩),(1,.int .i64 mtu),(2,.bool v6)],[.code X3q],[],false,none⟩,[],[],0⟩ (fun v H _=>Res 0 (rx10 res) v H):=by
 unfold Xib at h
 refine Xa9 Xam hS true 3000 ?_
 conv=>whnf
 replace h:=Xak.elim h;obtain ⟨xr,hy,h⟩:=h
 refine XaG.q rfl rfl (XqF hy) rfl rfl rfl ?_
 conv=>whnf
 all_goals (cases h;exact Res.z rfl rfl rfl)
theorem ok10 (Xa1:Int→Bool→Option Int) (hS:Xai Tryz.prog (Xar (XAU Xa1))):Xan Tryz.prog 10 (s10 (Xib Xa1)):=by
 refine Xan.Xau Xam (fun ar os r ha hr=>?_) ⟨Tryz.f10,rfl,by decide,rfl⟩
 replace hr:r10 (Xib Xa1) ar (XaA os)=some r:=hr
 unfold r10 at hr
 generalize hc:XaA os=C at hr
 replace hr:=dV.elim hr;obtain ⟨v0,l1,y0,rfl,e0,hr⟩:=hr;obtain rfl:=Xb7 _ _ e0
 replace hr:=dV.elim hr;obtain ⟨v1,l2,y1,rfl,e1,hr⟩:=hr;obtain rfl:=XbO _ _ _ e1
 replace hr:=dV.elim hr;obtain ⟨v2,l3,y2,rfl,e2,hr⟩:=hr;obtain rfl:=XiV _ _ e2
 replace hr:=Xdf hr;obtain ⟨rfl,rfl,x,h,rfl⟩:=hr
 obtain rfl:=Xao hc
 exact ⟨_,rfl,XD3 Xa1 hS _ _ _ x h⟩
def Xbs:(List UInt8)→Int→Bool→Option Bool:=Xib Xa1
theorem XAX:Xan Tryz.prog 10 (s10 Xbs):=ok10 Xa1 (Xai.XaW ⟨XHG,trivial⟩)
def Xg7 (XaE:Int→Int→Int→Option Bool) (known:Int) (told:Int):Option Int:=
 (XaE told 576 known).bind fun i=>
 cond (i)
  (
  some (told))
  (
  some (known))
def rx11 (x:Int):Xco:=⟨.int .i64 x,[],[]⟩
def r11 (g:Int→Int→Option Int):Dec:=dV (asI .i64) fun (y0:Int)=>dV (asI .i64) fun (y1:Int)=>Xc4 (ofG (g y0 y1) rx11)
theorem r11_c {g:Int→Int→Option Int} {y0:Int} {y1:Int} {x:Int} (hx:g y0 y1=some x):r11 g [.int .i64 y0,.int .i64 y1] []=some (rx11 x):=(XaS (XcI _)).trans ((XaS (XcI _)).trans (XaZ hx))
def s11 (g:Int→Int→Option Int):Xbp:=⟨[.v,.v],r11 g⟩
theorem Xpd {g:Int→Int→Option Int} {y0:Int} {y1:Int} {x:Int} (hx:g y0 y1=some x):(s11 g).run [.int .i64 y0,.int .i64 y1] []=some (rx11 x):=r11_c hx
abbrev XA2 (XaE:Int→Int→Int→Option Bool):List (Nat×Xbp):=[(28,s28 XaE)]
theorem XDH (XaE:Int→Int→Int→Option Bool) (hS:Xai Tryz.prog (Xar (XA2 XaE))) (known:Int) (told:Int) (res:Int) (h:Xg7 XaE known told=some res) :
 XaD Tryz.prog 11 0 ⟨⟨11,10,[(0,.int .i64 known),(1,.int .i64 told)],[.code XPm],[],false,none⟩,[],[],0⟩ (fun v H _=>Res 0 (rx11 res) v H):=by
 unfold Xg7 at h
 refine Xa9 Xam hS true 3000 ?_
 conv=>whnf
 replace h:=Xak.elim h;obtain ⟨i,hy,h⟩:=h
 refine XaG.q rfl rfl (XA1 hy) rfl rfl rfl ?_
 conv=>whnf
 refine br.h h ?_ ?_ ?_
 ·rfl
 ·clear h;intro hb h;conv=>whnf
  all_goals (cases h;exact Res.z rfl rfl rfl)
 clear h;intro hb h;conv=>whnf
 all_goals (cases h;exact Res.z rfl rfl rfl)
theorem ok11 (XaE:Int→Int→Int→Option Bool) (hS:Xai Tryz.prog (Xar (XA2 XaE))):Xan Tryz.prog 11 (s11 (Xg7 XaE)):=by
 refine Xan.Xau Xam (fun ar os r ha hr=>?_) ⟨Tryz.f11,rfl,by decide,rfl⟩
 replace hr:r11 (Xg7 XaE) ar (XaA os)=some r:=hr
 unfold r11 at hr
 generalize hc:XaA os=C at hr
 replace hr:=dV.elim hr;obtain ⟨v0,l1,y0,rfl,e0,hr⟩:=hr;obtain rfl:=XbO _ _ _ e0
 replace hr:=dV.elim hr;obtain ⟨v1,l2,y1,rfl,e1,hr⟩:=hr;obtain rfl:=XbO _ _ _ e1
 replace hr:=Xdf hr;obtain ⟨rfl,rfl,x,h,rfl⟩:=hr
 obtain rfl:=Xao hc
 exact ⟨_,rfl,XDH XaE hS _ _ x h⟩
def XaX:Int→Int→Option Int:=Xg7 XaE
theorem XAc:Xan Tryz.prog 11 (s11 XaX):=ok11 XaE (Xai.XaW ⟨XA9,trivial⟩)
def Xfo (XaX:Int→Int→Option Int) (l:List Int) (n:Int) (t8:Int):Option (Sum (Int×Int) Int):=
 cond (decide (t8<(l.length:Int)))
  (
  XaK (decide ((0:Int)≤t8∧t8<(l.length:Int))) <|
  (l[t8.toNat]?).bind fun (e:Int)=>
  (XaX n e).bind fun l1=>
  some (.inl (l1,wI .i64 (t8+1))))
  (
  some (.inr (n)))
def Xg3 (XaX:Int→Int→Option Int) (l:List Int):Option Int:=
 iter (fun st=>Xfo XaX l st.1 st.2) FUEL (9000,0)
def XLB (x:Int):Xco:=⟨.int .i64 x,[],[none]⟩
def r12 (g:(List Int)→Option Int):Dec:=dSl 0 1 (unL (asI .i64)) fun (y0:List Int)=>Xc4 (ofG (g y0) XLB)
theorem r12_c {g:(List Int)→Option Int} {y0:List Int} {x:Int} (hx:g y0=some x):r12 g [.slice (some ⟨0,0,none⟩) y0.length 1] [some (vI .i64 y0)]=some (XLB x):=(XrN (XqR _ _)).trans (XaZ hx)
def s12 (g:(List Int)→Option Int):Xbp:=⟨[.sl 1],r12 g⟩
theorem Xrc {g:(List Int)→Option Int} {y0:List Int} {x:Int} (hx:g y0=some x):(s12 g).run [.slice (some ⟨0,0,none⟩) y0.length 1] [some (vI .i64 y0)]=some (XLB x):=r12_c hx
abbrev Xvj (XaX:Int→Int→Option Int):List (Nat×Xbp):=[(11,s11 XaX)]
def Xkv (l:List Int) (n:Int) (t8:Int):VM:=
 ⟨⟨12,17,[(3,.int .i64 n),(6,.slice (some ⟨0,0,none⟩) l.length 1),(7,.int .i64 (l.length:Int)),(8,.int .i64 t8)],[.code Xs5,.inLoop Xs5,.inBlock 0,.code XBT],[],false,none⟩,[],[(0,.row false (vI .i64 l))],1⟩
theorem Xxz (XaX:Int→Int→Option Int) (hS:Xai Tryz.prog (Xar (Xvj XaX))) (l:List Int) (res:Int):∀ fuel (st:Int×Int) (o:Int),iter (fun st=>Xfo XaX l st.1 st.2) fuel st=some o→(o=res) →
 XaD Tryz.prog 12 1 (Xkv l st.1 st.2) (fun v H _=>Res 1 (XLB res) v H):=by
 intro fuel st o h hc
 refine Xcm (head:=fun st=>Xkv l st.1 st.2) (C:=fun o=>(o=res)) ?_ fuel st o h hc
 clear h hc o st fuel
 intro st o h hc
 obtain ⟨n,t8⟩:=st
 replace h:Xfo XaX l n t8=some o:=h
 show XaD Tryz.prog 12 1 (Xkv l n t8) (fun v H _=>Res 1 (XLB res) v H)
 unfold Xfo at h
 refine Xa9 Xam hS true 3000 ?_
 conv=>whnf
 refine br.h2 h ?_ ?_ ?_
 ·rfl
 ·clear h;intro hb h;conv=>whnf
  all_goals (cases h;cases hc)
  all_goals exact Res.of [] rfl XeZ (by decide) XeW (XkX XeY)
 clear h;intro hb h;conv=>whnf
 replace h:=XaK.elim h;obtain ⟨hb,h⟩:=h
 first|(refine req.intro hb ?_;conv=>whnf)|skip
 replace h:=Xak.elim h;obtain ⟨e,hy,h⟩:=h
 refine rd.I hy (by first|rfl|(rw [Nat.zero_add,Nat.mul_one];try rfl;done)|omega) ?_
 conv=>whnf
 replace h:=Xak.elim h;obtain ⟨l1,hy,h⟩:=h
 refine XaG.q rfl rfl (Xpd hy) rfl rfl rfl ?_
 conv=>whnf
 cases h;simp only [Sum.elim_inl,Xkv] at hc
 exact Xkm hc [(0,0)] rfl
theorem XFS (XaX:Int→Int→Option Int) (hS:Xai Tryz.prog (Xar (Xvj XaX))) (l:List Int) (res:Int) (h:Xg3 XaX l=some res) :
 XaD Tryz.prog 12 1 ⟨⟨12,17,[(0,.slice (some ⟨0,0,none⟩) l.length 1)],[.code XB3],[],false,none⟩,[],[(0,.row false (vI .i64 l))],1⟩ (fun v H _=>Res 1 (XLB res) v H):=by
 unfold Xg3 at h
 refine Xa9 Xam hS true 3000 ?_
 conv=>whnf
 have hl:=Xxz XaX hS _ res _ _ _ h rfl;simp only [Xkv] at hl
 exact Xkm hl [(0,0)] rfl
theorem ok12 (XaX:Int→Int→Option Int) (hS:Xai Tryz.prog (Xar (Xvj XaX))):Xan Tryz.prog 12 (s12 (Xg3 XaX)):=by
 refine Xan.Xau Xam (fun ar os r ha hr=>?_) ⟨Tryz.f12,rfl,by decide,rfl⟩
 replace hr:r12 (Xg3 XaX) ar (XaA os)=some r:=hr
 unfold r12 at hr
 generalize hc:XaA os=C at hr
 have hq:=dSl.elim hr;clear hr;obtain ⟨c0,l1,C,y0,rfl,rfl,e0,hr⟩:=hq;obtain rfl:=Xrs e0
 replace hr:=Xdf hr;obtain ⟨rfl,rfl,x,h,rfl⟩:=hr
 obtain ⟨os,rfl,ha,hc⟩:=Xdr ha hc
 obtain rfl:=Xao hc
 exact ⟨_,rfl,XFS XaX hS _ x h⟩
def XbP:(List Int)→Option Int:=Xg3 XaX
theorem X3M:Xan Tryz.prog 12 (s12 XbP):=ok12 XaX (Xai.XaW ⟨XAc,trivial⟩)
def Xgt (Xbs:(List UInt8)→Int→Bool→Option Bool) (XaX:Int→Int→Option Int) (XbP:(List Int)→Option Int) (Xa1:Int→Bool→Option Int):Option Bool:=
 (Xa1 1500 false).bind fun xr=>
 cond (xr==1454)
  (
  (Xa1 575 true).bind fun xr1=>
  cond (xr1==0)
   (
   (XaX 1500 1400).bind fun l=>
   cond (l==1400)
    (
    (XbP []).bind fun l1=>
    cond (l1==9000)
     (
     (Xbs [] 600 true).bind fun f=>
     some (f))
     (
     some (false)))
    (
    some (false)))
   (
   some (false)))
  (
  some (false))
def rx5 (x:Bool):Xco:=⟨.bool x,[],[]⟩
def r5 (g:Option Bool):Dec:=Xc4 (ofG (g) rx5)
theorem r5_c {g:Option Bool} {x:Bool} (hx:g=some x):r5 g [] []=some (rx5 x):=XaZ hx
def s5 (g:Option Bool):Xbp:=⟨[],r5 g⟩
theorem Xvl {g:Option Bool} {x:Bool} (hx:g=some x):(s5 g).run [] []=some (rx5 x):=r5_c hx
abbrev XSL (Xbs:(List UInt8)→Int→Bool→Option Bool) (XaX:Int→Int→Option Int) (XbP:(List Int)→Option Int) (Xa1:Int→Bool→Option Int):List (Nat×Xbp):=[(10,s10 Xbs),(11,s11 XaX),(12,s12 XbP),(8,s8 Xa1)]
theorem X61 (Xbs:(List UInt8)→Int→Bool→Option Bool) (XaX:Int→Int→Option Int) (XbP:(List Int)→Option Int) (Xa1:Int→Bool→Option Int) (hS:Xai Tryz.prog (Xar (XSL Xbs XaX XbP Xa1))) (res:Bool) (h:Xgt Xbs XaX XbP Xa1=some res) :
 XaD Tryz.prog 5 0 ⟨⟨5,18,[],[.code k5_3],[],false,none⟩,[],[],0⟩ (fun v H _=>Res 0 (rx5 res) v H):=by
 unfold Xgt at h
 refine Xa9 Xam hS true 3000 ?_
 conv=>whnf
 replace h:=Xak.elim h;obtain ⟨xr,hy,h⟩:=h
 refine XaG.q rfl rfl (XqF hy) rfl rfl rfl ?_
 conv=>whnf
 refine br.h2 h ?_ ?_ ?_
 ·rfl
 ·clear h;intro hb h;conv=>whnf
  all_goals (cases h;exact Res.z rfl rfl rfl)
 clear h;intro hb h;conv=>whnf
 replace h:=Xak.elim h;obtain ⟨xr1,hy,h⟩:=h
 refine XaG.q rfl rfl (XqF hy) rfl rfl rfl ?_
 conv=>whnf
 refine br.h2 h ?_ ?_ ?_
 ·rfl
 ·clear h;intro hb h;conv=>whnf
  all_goals (cases h;exact Res.z rfl rfl rfl)
 clear h;intro hb h;conv=>whnf
 replace h:=Xak.elim h;obtain ⟨l,hy,h⟩:=h
 refine XaG.q rfl rfl (Xpd hy) rfl rfl rfl ?_
 conv=>whnf
 refine br.h2 h ?_ ?_ ?_
 ·rfl
 ·clear h;intro hb h;conv=>whnf
  all_goals (cases h;exact Res.z rfl rfl rfl)
 clear h;intro hb h;conv=>whnf
 replace h:=Xak.elim h;obtain ⟨l1,hy,h⟩:=h
 refine XaG.Xba [] (Xat (aqs:=[.slice (some ⟨0,0,none⟩) ([]:List Int).length 1]) (ws:=[.emp false]) (n:=0) (m:=1) (t':=1) (Xas rfl rfl Xbd) rfl (by rfl) (Xrc hy) rfl rfl rfl rfl (XgA rfl Xbc) Xbb rfl) ?_
 conv=>whnf
 refine br.h2 h ?_ ?_ ?_
 ·rfl
 ·clear h;intro hb h;conv=>whnf
  all_goals (cases h;exact Res.z rfl rfl rfl)
 clear h;intro hb h;conv=>whnf
 replace h:=Xak.elim h;obtain ⟨f,hy,h⟩:=h
 refine XaG.q rfl rfl (Xpw hy) rfl rfl rfl ?_
 conv=>whnf
 all_goals (cases h;exact Res.z rfl rfl rfl)
theorem ok5 (Xbs:(List UInt8)→Int→Bool→Option Bool) (XaX:Int→Int→Option Int) (XbP:(List Int)→Option Int) (Xa1:Int→Bool→Option Int) (hS:Xai Tryz.prog (Xar (XSL Xbs XaX XbP Xa1))):Xan Tryz.prog 5 (s5 (Xgt Xbs XaX XbP Xa1)):=by
 refine Xan.Xau Xam (fun ar os r ha hr=>?_) ⟨Tryz.f5,rfl,by decide,rfl⟩
 replace hr:r5 (Xgt Xbs XaX XbP Xa1) ar (XaA os)=some r:=hr
 unfold r5 at hr
 generalize hc:XaA os=C at hr
 replace hr:=Xdf hr;obtain ⟨rfl,rfl,x,h,rfl⟩:=hr
 obtain rfl:=Xao hc
 exact ⟨_,rfl,X61 Xbs XaX XbP Xa1 hS x h⟩
def Xcu:Option Bool:=Xgt Xbs XaX XbP Xa1
theorem lift5:Xan Tryz.prog 5 (s5 Xcu):=ok5 Xbs XaX XbP Xa1 (Xai.XaW ⟨XAX,XAc,X3M,XHG,trivial⟩)
def XgV (XbU:Xaf→Xaa→Xaa→Option ((List UInt8)×Int)) (Xbs:(List UInt8)→Int→Bool→Option Bool) (Xa1:Int→Bool→Option Int) (XbC:Bool→Option Int) (Xcc:Int→Option Bool) (XbR:(List UInt8)→Option (Xag×Int)) (s:List UInt8) (mtu:Int) (v6:Bool):Option ((List UInt8)×Int):=
 (XbR s).bind fun p=>
 cond (p.2 !=0)
  (
  some (([],p.2)))
  (
  (Xbs s mtu v6).bind fun f=>
  cond (f)
   (
   some (([],11)))
   (
   (Xcc mtu).bind fun m=>
   cond (!m)
    (
    some (([],1)))
    (
    (Xa1 mtu v6).bind fun xr=>
    (XbC p.1.Tuple.Src.V6).bind fun xh=>
    XaK (decide ((0:Int)≤xh∧xh≤(s.length:Int))) <|
    cond (p.1.Tuple.Src.V6)
     (
     (XbU (Xaf.mk 2 0 xr (s.take xh.toNat)) p.1.Tuple.Dst p.1.Tuple.Src).bind fun p1=>
     some ((p1.1,p1.2)))
     (
     (XbU (Xaf.mk 2 4 xr (s.take xh.toNat)) p.1.Tuple.Dst p.1.Tuple.Src).bind fun p2=>
     some ((p2.1,p2.2))))))
def rx6 (x:(List UInt8)×Int):Xco:=⟨.tuple ⟨[.string ⟨⟨x.1⟩⟩,.int .i64 x.2]⟩,[],[]⟩
def r6 (g:(List UInt8)→Int→Bool→Option ((List UInt8)×Int)):Dec:=dV asS fun (y0:List UInt8)=>dV (asI .i64) fun (y1:Int)=>dV asB fun (y2:Bool)=>Xc4 (ofG (g y0 y1 y2) rx6)
theorem r6_c {g:(List UInt8)→Int→Bool→Option ((List UInt8)×Int)} {y0:List UInt8} {y1:Int} {y2:Bool} {x:(List UInt8)×Int} (hx:g y0 y1 y2=some x):r6 g [.string ⟨⟨y0⟩⟩,.int .i64 y1,.bool y2] []=some (rx6 x):=(XaS (XdJ)).trans ((XaS (XcI _)).trans ((XaS (Xmz)).trans (XaZ hx)))
def s6 (g:(List UInt8)→Int→Bool→Option ((List UInt8)×Int)):Xbp:=⟨[.v,.v,.v],r6 g⟩
theorem r6_eq {g:(List UInt8)→Int→Bool→Option ((List UInt8)×Int)} {y0:List UInt8} {y1:Int} {y2:Bool} {x:(List UInt8)×Int} (hx:g y0 y1 y2=some x):(s6 g).run [.string ⟨⟨y0⟩⟩,.int .i64 y1,.bool y2] []=some (rx6 x):=r6_c hx
abbrev X23 (XbU:Xaf→Xaa→Xaa→Option ((List UInt8)×Int)) (Xbs:(List UInt8)→Int→Bool→Option Bool) (Xa1:Int→Bool→Option Int) (XbC:Bool→Option Int) (Xcc:Int→Option Bool) (XbR:(List UInt8)→Option (Xag×Int)):List (Nat×Xbp):=[(25,s25 XbU),(10,s10 Xbs),(8,s8 Xa1),(24,s24 XbC),(23,s23 Xcc),(22,s22 XbR)]
theorem XPE (XbU:Xaf→Xaa→Xaa→Option ((List UInt8)×Int)) (Xbs:(List UInt8)→Int→Bool→Option Bool) (Xa1:Int→Bool→Option Int) (XbC:Bool→Option Int) (Xcc:Int→Option Bool) (XbR:(List UInt8)→Option (Xag×Int)) (hS:Xai Tryz.prog (Xar (X23 XbU Xbs Xa1 XbC Xcc XbR))) (s:List UInt8) (mtu:Int) (v6:Bool) (res:(List UInt8)×Int) (h:XgV XbU Xbs Xa1 XbC Xcc XbR s mtu v6=some res) :
 XaD Tryz.prog 6 0 ⟨⟨6,54,[(0,.string ⟨⟨s⟩⟩),(1,.int .i64 mtu),(2,.bool v6)],[.code X1z],[],false,none⟩,[],[],0⟩ (fun v H _=>Res 0 (rx6 res) v H):=by
 unfold XgV at h
 refine Xa9 Xam hS true 3000 ?_
 conv=>whnf
 replace h:=Xak.elim h;obtain ⟨p,hy,h⟩:=h
 refine XaG.q rfl rfl (X0g hy) rfl rfl rfl ?_
 conv=>whnf
 refine br.h h ?_ ?_ ?_
 ·rfl
 ·clear h;intro hb h;conv=>whnf
  all_goals (cases h;exact Res.z rfl rfl rfl)
 clear h;intro hb h;conv=>whnf
 replace h:=Xak.elim h;obtain ⟨f,hy,h⟩:=h
 refine XaG.q rfl rfl (Xpw hy) rfl rfl rfl ?_
 conv=>whnf
 refine br.h h ?_ ?_ ?_
 ·rfl
 ·clear h;intro hb h;conv=>whnf
  all_goals (cases h;exact Res.z rfl rfl rfl)
 clear h;intro hb h;conv=>whnf
 replace h:=Xak.elim h;obtain ⟨m,hy,h⟩:=h
 refine XaG.q rfl rfl (Xy8 hy) rfl rfl rfl ?_
 conv=>whnf
 refine br.h h ?_ ?_ ?_
 ·rfl
 ·clear h;intro hb h;conv=>whnf
  all_goals (cases h;exact Res.z rfl rfl rfl)
 clear h;intro hb h;conv=>whnf
 replace h:=Xak.elim h;obtain ⟨xr,hy,h⟩:=h
 refine XaG.q rfl rfl (XqF hy) rfl rfl rfl ?_
 conv=>whnf
 replace h:=Xak.elim h;obtain ⟨xh,hy,h⟩:=h
 refine XaG.q rfl rfl (XAl hy) rfl rfl rfl ?_
 conv=>whnf
 replace h:=XaK.elim h;obtain ⟨hb,h⟩:=h
 first|(refine req.intro hb ?_;conv=>whnf)|skip
 refine br.h h ?_ ?_ ?_
 ·rfl
 ·clear h;intro hb h;conv=>whnf
  replace h:=Xak.elim h;obtain ⟨p1,hy,h⟩:=h
  refine XaG.q rfl rfl (XAZ hy) rfl rfl rfl ?_
  conv=>whnf
  all_goals (cases h;exact Res.z rfl rfl rfl)
 clear h;intro hb h;conv=>whnf
 replace h:=Xak.elim h;obtain ⟨p2,hy,h⟩:=h
 refine XaG.q rfl rfl (XAZ hy) rfl rfl rfl ?_
 conv=>whnf
 all_goals (cases h;exact Res.z rfl rfl rfl)
theorem ok6 (XbU:Xaf→Xaa→Xaa→Option ((List UInt8)×Int)) (Xbs:(List UInt8)→Int→Bool→Option Bool) (Xa1:Int→Bool→Option Int) (XbC:Bool→Option Int) (Xcc:Int→Option Bool) (XbR:(List UInt8)→Option (Xag×Int)) (hS:Xai Tryz.prog (Xar (X23 XbU Xbs Xa1 XbC Xcc XbR))):Xan Tryz.prog 6 (s6 (XgV XbU Xbs Xa1 XbC Xcc XbR)):=by
 refine Xan.Xau Xam (fun ar os r ha hr=>?_) ⟨Tryz.f6,rfl,by decide,rfl⟩
 replace hr:r6 (XgV XbU Xbs Xa1 XbC Xcc XbR) ar (XaA os)=some r:=hr
 unfold r6 at hr
 generalize hc:XaA os=C at hr
 replace hr:=dV.elim hr;obtain ⟨v0,l1,y0,rfl,e0,hr⟩:=hr;obtain rfl:=Xb7 _ _ e0
 replace hr:=dV.elim hr;obtain ⟨v1,l2,y1,rfl,e1,hr⟩:=hr;obtain rfl:=XbO _ _ _ e1
 replace hr:=dV.elim hr;obtain ⟨v2,l3,y2,rfl,e2,hr⟩:=hr;obtain rfl:=XiV _ _ e2
 replace hr:=Xdf hr;obtain ⟨rfl,rfl,x,h,rfl⟩:=hr
 obtain rfl:=Xao hc
 exact ⟨_,rfl,XPE XbU Xbs Xa1 XbC Xcc XbR hS _ _ _ x h⟩
def XeB:(List UInt8)→Int→Bool→Option ((List UInt8)×Int):=XgV XbU Xbs Xa1 XbC Xcc XbR
theorem lift6:Xan Tryz.prog 6 (s6 XeB):=ok6 XbU Xbs Xa1 XbC Xcc XbR (Xai.XaW ⟨XRq,XAX,XHG,XzN,XAs,XXz,trivial⟩)
def Xhb (mtu:Int):Option Bool:=
 cond (decide (mtu≥576))
  (
  some (decide (mtu≤9000)))
  (
  some (false))
def rx26 (x:Bool):Xco:=⟨.bool x,[],[]⟩
def r26 (g:Int→Option Bool):Dec:=dV (asI .i64) fun (y0:Int)=>Xc4 (ofG (g y0) rx26)
theorem r26_c {g:Int→Option Bool} {y0:Int} {x:Bool} (hx:g y0=some x):r26 g [.int .i64 y0] []=some (rx26 x):=(XaS (XcI _)).trans (XaZ hx)
def s26 (g:Int→Option Bool):Xbp:=⟨[.v],r26 g⟩
theorem XtK {g:Int→Option Bool} {y0:Int} {x:Bool} (hx:g y0=some x):(s26 g).run [.int .i64 y0] []=some (rx26 x):=r26_c hx
abbrev XBP:List (Nat×Xbp):=[]
theorem XKf (hS:Xai Tryz.prog (Xar (XBP))) (mtu:Int) (res:Bool) (h:Xhb mtu=some res) :
 XaD Tryz.prog 26 0 ⟨⟨26,9,[(0,.int .i64 mtu)],[.code XQR],[],false,none⟩,[],[],0⟩ (fun v H _=>Res 0 (rx26 res) v H):=by
 unfold Xhb at h
 refine Xa9 Xam hS true 3000 ?_
 conv=>whnf
 refine br.h h ?_ ?_ ?_
 ·rfl
 ·clear h;intro hb h;conv=>whnf
  all_goals (cases h;exact Res.z rfl rfl rfl)
 clear h;intro hb h;conv=>whnf
 all_goals (cases h;exact Res.z rfl rfl rfl)
theorem ok26 (hS:Xai Tryz.prog (Xar (XBP))):Xan Tryz.prog 26 (s26 (Xhb)):=by
 refine Xan.Xau Xam (fun ar os r ha hr=>?_) ⟨Tryz.f26,rfl,by decide,rfl⟩
 replace hr:r26 (Xhb) ar (XaA os)=some r:=hr
 unfold r26 at hr
 generalize hc:XaA os=C at hr
 replace hr:=dV.elim hr;obtain ⟨v0,l1,y0,rfl,e0,hr⟩:=hr;obtain rfl:=XbO _ _ _ e0
 replace hr:=Xdf hr;obtain ⟨rfl,rfl,x,h,rfl⟩:=hr
 obtain rfl:=Xao hc
 exact ⟨_,rfl,XKf hS _ x h⟩
def XaP:Int→Option Bool:=Xhb
theorem Xu1:Xan Tryz.prog 26 (s26 XaP):=ok26 (Xai.XaW trivial)
def XhV (XaP:Int→Option Bool) (mtu:Int) (six:Bool):Option Int:=
 (XaP mtu).bind fun xr=>
 cond (!xr)
  (
  some (0))
  (
  cond (six)
   (
   some (wI .i64 ((wI .i64 (mtu - 48)) - 18)))
   (
   some (wI .i64 ((wI .i64 (mtu - 28)) - 18))))
def rx9 (x:Int):Xco:=⟨.int .i64 x,[],[]⟩
def r9 (g:Int→Bool→Option Int):Dec:=dV (asI .i64) fun (y0:Int)=>dV asB fun (y1:Bool)=>Xc4 (ofG (g y0 y1) rx9)
theorem r9_c {g:Int→Bool→Option Int} {y0:Int} {y1:Bool} {x:Int} (hx:g y0 y1=some x):r9 g [.int .i64 y0,.bool y1] []=some (rx9 x):=(XaS (XcI _)).trans ((XaS (Xmz)).trans (XaZ hx))
def s9 (g:Int→Bool→Option Int):Xbp:=⟨[.v,.v],r9 g⟩
theorem Xob {g:Int→Bool→Option Int} {y0:Int} {y1:Bool} {x:Int} (hx:g y0 y1=some x):(s9 g).run [.int .i64 y0,.bool y1] []=some (rx9 x):=r9_c hx
abbrev X7d (XaP:Int→Option Bool):List (Nat×Xbp):=[(26,s26 XaP)]
theorem XWa (XaP:Int→Option Bool) (hS:Xai Tryz.prog (Xar (X7d XaP))) (mtu:Int) (six:Bool) (res:Int) (h:XhV XaP mtu six=some res) :
 XaD Tryz.prog 9 0 ⟨⟨9,15,[(0,.int .i64 mtu),(1,.bool six)],[.code XTi],[],false,none⟩,[],[],0⟩ (fun v H _=>Res 0 (rx9 res) v H):=by
 unfold XhV at h
 refine Xa9 Xam hS true 3000 ?_
 conv=>whnf
 replace h:=Xak.elim h;obtain ⟨xr,hy,h⟩:=h
 refine XaG.q rfl rfl (XtK hy) rfl rfl rfl ?_
 conv=>whnf
 refine br.h h ?_ ?_ ?_
 ·rfl
 ·clear h;intro hb h;conv=>whnf
  all_goals (cases h;exact Res.z rfl rfl rfl)
 clear h;intro hb h;conv=>whnf
 refine br.h h ?_ ?_ ?_
 ·rfl
 ·clear h;intro hb h;conv=>whnf
  all_goals (cases h;exact Res.z rfl rfl rfl)
 clear h;intro hb h;conv=>whnf
 all_goals (cases h;exact Res.z rfl rfl rfl)
theorem ok9 (XaP:Int→Option Bool) (hS:Xai Tryz.prog (Xar (X7d XaP))):Xan Tryz.prog 9 (s9 (XhV XaP)):=by
 refine Xan.Xau Xam (fun ar os r ha hr=>?_) ⟨Tryz.f9,rfl,by decide,rfl⟩
 replace hr:r9 (XhV XaP) ar (XaA os)=some r:=hr
 unfold r9 at hr
 generalize hc:XaA os=C at hr
 replace hr:=dV.elim hr;obtain ⟨v0,l1,y0,rfl,e0,hr⟩:=hr;obtain rfl:=XbO _ _ _ e0
 replace hr:=dV.elim hr;obtain ⟨v1,l2,y1,rfl,e1,hr⟩:=hr;obtain rfl:=XiV _ _ e1
 replace hr:=Xdf hr;obtain ⟨rfl,rfl,x,h,rfl⟩:=hr
 obtain rfl:=Xao hc
 exact ⟨_,rfl,XWa XaP hS _ _ x h⟩
def XbQ:Int→Bool→Option Int:=XhV XaP
theorem lift9:Xan Tryz.prog 9 (s9 XbQ):=ok9 XaP (Xai.XaW ⟨Xu1,trivial⟩)
def XgY (XcO:(List UInt8)→Option (Xag×Int)) (Xb6:Xaf→Xaa→Xaa→Option ((List UInt8)×Int)) (XaP:Int→Option Bool) (XbQ:Int→Bool→Option Int) (s:List UInt8) (mtu:Int) (six:Bool):Option ((List UInt8)×Int):=
 (XcO s).bind fun p=>
 cond (p.2 !=0)
  (
  some (([],p.2)))
  (
  (XbQ mtu six).bind fun xr=>
  cond (decide ((s.length:Int)≤xr))
   (
   some (([],11)))
   (
   (XaP mtu).bind fun xr1=>
   cond (!xr1)
    (
    some (([],1)))
    (
    (XbQ mtu six).bind fun xr2=>
    XaK (decide ((0:Int)≤(28:Int)∧(28:Int)≤(s.length:Int))) <|
    cond (p.1.Tuple.Src.V6)
     (
     (XbQ mtu six).bind fun xr3=>
     XaK (decide ((0:Int)≤(48:Int)∧(48:Int)≤(s.length:Int))) <|
     (Xb6 (Xaf.mk 2 0 xr3 (s.take 48)) p.1.Tuple.Dst p.1.Tuple.Src).bind fun p1=>
     some ((p1.1,p1.2)))
     (
     (Xb6 (Xaf.mk 2 4 xr2 (s.take 28)) p.1.Tuple.Dst p.1.Tuple.Src).bind fun p2=>
     some ((p2.1,p2.2))))))
def rx7 (x:(List UInt8)×Int):Xco:=⟨.tuple ⟨[.string ⟨⟨x.1⟩⟩,.int .i64 x.2]⟩,[],[]⟩
def r7 (g:(List UInt8)→Int→Bool→Option ((List UInt8)×Int)):Dec:=dV asS fun (y0:List UInt8)=>dV (asI .i64) fun (y1:Int)=>dV asB fun (y2:Bool)=>Xc4 (ofG (g y0 y1 y2) rx7)
theorem r7_c {g:(List UInt8)→Int→Bool→Option ((List UInt8)×Int)} {y0:List UInt8} {y1:Int} {y2:Bool} {x:(List UInt8)×Int} (hx:g y0 y1 y2=some x):r7 g [.string ⟨⟨y0⟩⟩,.int .i64 y1,.bool y2] []=some (rx7 x):=(XaS (XdJ)).trans ((XaS (XcI _)).trans ((XaS (Xmz)).trans (XaZ hx)))
def s7 (g:(List UInt8)→Int→Bool→Option ((List UInt8)×Int)):Xbp:=⟨[.v,.v,.v],r7 g⟩
theorem r7_eq {g:(List UInt8)→Int→Bool→Option ((List UInt8)×Int)} {y0:List UInt8} {y1:Int} {y2:Bool} {x:(List UInt8)×Int} (hx:g y0 y1 y2=some x):(s7 g).run [.string ⟨⟨y0⟩⟩,.int .i64 y1,.bool y2] []=some (rx7 x):=r7_c hx
abbrev XM5 (XcO:(List UInt8)→Option (Xag×Int)) (Xb6:Xaf→Xaa→Xaa→Option ((List UInt8)×Int)) (XaP:Int→Option Bool) (XbQ:Int→Bool→Option Int):List (Nat×Xbp):=[(15,s15 XcO),(27,s27 Xb6),(26,s26 XaP),(9,s9 XbQ)]
theorem XQj (XcO:(List UInt8)→Option (Xag×Int)) (Xb6:Xaf→Xaa→Xaa→Option ((List UInt8)×Int)) (XaP:Int→Option Bool) (XbQ:Int→Bool→Option Int) (hS:Xai Tryz.prog (Xar (XM5 XcO Xb6 XaP XbQ))) (s:List UInt8) (mtu:Int) (six:Bool) (res:(List UInt8)×Int) (h:XgY XcO Xb6 XaP XbQ s mtu six=some res) :
 XaD Tryz.prog 7 0 ⟨⟨7,54,[(0,.string ⟨⟨s⟩⟩),(1,.int .i64 mtu),(2,.bool six)],[.code XSr],[],false,none⟩,[],[],0⟩ (fun v H _=>Res 0 (rx7 res) v H):=by
 unfold XgY at h
 refine Xa9 Xam hS true 3000 ?_
 conv=>whnf
 replace h:=Xak.elim h;obtain ⟨p,hy,h⟩:=h
 refine XaG.q rfl rfl (XV8 hy) rfl rfl rfl ?_
 conv=>whnf
 refine br.h h ?_ ?_ ?_
 ·rfl
 ·clear h;intro hb h;conv=>whnf
  all_goals (cases h;exact Res.z rfl rfl rfl)
 clear h;intro hb h;conv=>whnf
 replace h:=Xak.elim h;obtain ⟨xr,hy,h⟩:=h
 refine XaG.q rfl rfl (Xob hy) rfl rfl rfl ?_
 conv=>whnf
 refine br.h h ?_ ?_ ?_
 ·rfl
 ·clear h;intro hb h;conv=>whnf
  all_goals (cases h;exact Res.z rfl rfl rfl)
 clear h;intro hb h;conv=>whnf
 replace h:=Xak.elim h;obtain ⟨xr1,hy,h⟩:=h
 refine XaG.q rfl rfl (XtK hy) rfl rfl rfl ?_
 conv=>whnf
 refine br.h h ?_ ?_ ?_
 ·rfl
 ·clear h;intro hb h;conv=>whnf
  all_goals (cases h;exact Res.z rfl rfl rfl)
 clear h;intro hb h;conv=>whnf
 replace h:=Xak.elim h;obtain ⟨xr2,hy,h⟩:=h
 refine XaG.q rfl rfl (Xob hy) rfl rfl rfl ?_
 conv=>whnf
 replace h:=XaK.elim h;obtain ⟨hb,h⟩:=h
 first|(refine req.intro hb ?_;conv=>whnf)|skip
 refine br.h2 h ?_ ?_ ?_
 ·rfl
 ·clear h;intro hb h;conv=>whnf
  replace h:=Xak.elim h;obtain ⟨p2,hy,h⟩:=h
  refine XaG.q rfl rfl (Xzb hy) rfl rfl rfl ?_
  conv=>whnf
  all_goals (cases h;exact Res.z rfl rfl rfl)
 clear h;intro hb h;conv=>whnf
 replace h:=Xak.elim h;obtain ⟨xr3,hy,h⟩:=h
 refine XaG.q rfl rfl (Xob hy) rfl rfl rfl ?_
 conv=>whnf
 replace h:=XaK.elim h;obtain ⟨hb,h⟩:=h
 first|(refine req.intro hb ?_;conv=>whnf)|skip
 replace h:=Xak.elim h;obtain ⟨p1,hy,h⟩:=h
 refine XaG.q rfl rfl (Xzb hy) rfl rfl rfl ?_
 conv=>whnf
 all_goals (cases h;exact Res.z rfl rfl rfl)
theorem ok7 (XcO:(List UInt8)→Option (Xag×Int)) (Xb6:Xaf→Xaa→Xaa→Option ((List UInt8)×Int)) (XaP:Int→Option Bool) (XbQ:Int→Bool→Option Int) (hS:Xai Tryz.prog (Xar (XM5 XcO Xb6 XaP XbQ))):Xan Tryz.prog 7 (s7 (XgY XcO Xb6 XaP XbQ)):=by
 refine Xan.Xau Xam (fun ar os r ha hr=>?_) ⟨Tryz.f7,rfl,by decide,rfl⟩
 replace hr:r7 (XgY XcO Xb6 XaP XbQ) ar (XaA os)=some r:=hr
 unfold r7 at hr
 generalize hc:XaA os=C at hr
 replace hr:=dV.elim hr;obtain ⟨v0,l1,y0,rfl,e0,hr⟩:=hr;obtain rfl:=Xb7 _ _ e0
 replace hr:=dV.elim hr;obtain ⟨v1,l2,y1,rfl,e1,hr⟩:=hr;obtain rfl:=XbO _ _ _ e1
 replace hr:=dV.elim hr;obtain ⟨v2,l3,y2,rfl,e2,hr⟩:=hr;obtain rfl:=XiV _ _ e2
 replace hr:=Xdf hr;obtain ⟨rfl,rfl,x,h,rfl⟩:=hr
 obtain rfl:=Xao hc
 exact ⟨_,rfl,XQj XcO Xb6 XaP XbQ hS _ _ _ x h⟩
def XeH:(List UInt8)→Int→Bool→Option ((List UInt8)×Int):=XgY XcO Xb6 XaP XbQ
theorem lift7:Xan Tryz.prog 7 (s7 XeH):=ok7 XcO Xb6 XaP XbQ (Xai.XaW ⟨XZi,XUb,Xu1,lift9,trivial⟩)
def Xfn (XaP:Int→Option Bool) (l:List Int) (n:Int) (i:Int):Option (Sum (Int×Int) Int):=
 cond (decide (i<(l.length:Int)))
  (
  XaK (decide ((0:Int)≤i∧i<(l.length:Int))) <|
  (l[i.toNat]?).bind fun (e:Int)=>
  (XaP e).bind fun xr=>
  cond (xr)
   (
   XaK (decide ((0:Int)≤i∧i<(l.length:Int))) <|
   (l[i.toNat]?).bind fun (e1:Int)=>
   cond (decide (e1<n))
    (
    XaK (decide ((0:Int)≤i∧i<(l.length:Int))) <|
    (l[i.toNat]?).bind fun (e2:Int)=>
    some (.inl (e2,wI .i64 (i+1))))
    (
    some (.inl (n,wI .i64 (i+1)))))
   (
   some (.inl (n,wI .i64 (i+1)))))
  (
  some (.inr (n)))
def Xhd (XaP:Int→Option Bool) (l:List Int):Option Int:=
 iter (fun st=>Xfn XaP l st.1 st.2) FUEL (9000,0)
def XLz (x:Int):Xco:=⟨.int .i64 x,[],[none]⟩
def r13 (g:(List Int)→Option Int):Dec:=dSl 0 1 (unL (asI .i64)) fun (y0:List Int)=>Xc4 (ofG (g y0) XLz)
theorem r13_c {g:(List Int)→Option Int} {y0:List Int} {x:Int} (hx:g y0=some x):r13 g [.slice (some ⟨0,0,none⟩) y0.length 1] [some (vI .i64 y0)]=some (XLz x):=(XrN (XqR _ _)).trans (XaZ hx)
def s13 (g:(List Int)→Option Int):Xbp:=⟨[.sl 1],r13 g⟩
theorem XvV {g:(List Int)→Option Int} {y0:List Int} {x:Int} (hx:g y0=some x):(s13 g).run [.slice (some ⟨0,0,none⟩) y0.length 1] [some (vI .i64 y0)]=some (XLz x):=r13_c hx
abbrev XsV (XaP:Int→Option Bool):List (Nat×Xbp):=[(26,s26 XaP)]
def Xir (l:List Int) (n:Int) (i:Int):VM:=
 ⟨⟨13,29,[(0,.slice (some ⟨0,0,none⟩) l.length 1),(3,.int .i64 n),(4,.int .i64 i)],[.code Xty,.inLoop Xty,.inBlock 0,.code XzP],[],false,none⟩,[],[(0,.row false (vI .i64 l))],1⟩
theorem Xy3 (XaP:Int→Option Bool) (hS:Xai Tryz.prog (Xar (XsV XaP))) (l:List Int) (res:Int):∀ fuel (st:Int×Int) (o:Int),iter (fun st=>Xfn XaP l st.1 st.2) fuel st=some o→(o=res) →
 XaD Tryz.prog 13 1 (Xir l st.1 st.2) (fun v H _=>Res 1 (XLz res) v H):=by
 intro fuel st o h hc
 refine Xcm (head:=fun st=>Xir l st.1 st.2) (C:=fun o=>(o=res)) ?_ fuel st o h hc
 clear h hc o st fuel
 intro st o h hc
 obtain ⟨n,i⟩:=st
 replace h:Xfn XaP l n i=some o:=h
 show XaD Tryz.prog 13 1 (Xir l n i) (fun v H _=>Res 1 (XLz res) v H)
 unfold Xfn at h
 refine Xa9 Xam hS true 3000 ?_
 conv=>whnf
 refine br.h2 h ?_ ?_ ?_
 ·rfl
 ·clear h;intro hb h;conv=>whnf
  all_goals (cases h;cases hc)
  all_goals exact Res.of [] rfl XeZ (by decide) XeW (XkX XeY)
 clear h;intro hb h;conv=>whnf
 replace h:=XaK.elim h;obtain ⟨hb,h⟩:=h
 first|(refine req.intro hb ?_;conv=>whnf)|skip
 replace h:=Xak.elim h;obtain ⟨e,hy,h⟩:=h
 refine rd.I hy (by first|rfl|(rw [Nat.zero_add,Nat.mul_one];try rfl;done)|omega) ?_
 conv=>whnf
 replace h:=Xak.elim h;obtain ⟨xr,hy,h⟩:=h
 refine XaG.q rfl rfl (XtK hy) rfl rfl rfl ?_
 conv=>whnf
 refine br.h2 h ?_ ?_ ?_
 ·rfl
 ·clear h;intro hb h;conv=>whnf
  cases h;simp only [Sum.elim_inl,Xir] at hc
  exact Xkm hc [(0,0)] rfl
 clear h;intro hb h;conv=>whnf
 replace h:=XaK.elim h;obtain ⟨hb,h⟩:=h
 first|(refine req.intro hb ?_;conv=>whnf)|skip
 replace h:=Xak.elim h;obtain ⟨e1,hy,h⟩:=h
 refine rd.I hy (by first|rfl|(rw [Nat.zero_add,Nat.mul_one];try rfl;done)|omega) ?_
 conv=>whnf
 refine br.h2 h ?_ ?_ ?_
 ·rfl
 ·clear h;intro hb h;conv=>whnf
  cases h;simp only [Sum.elim_inl,Xir] at hc
  exact Xkm hc [(0,0)] rfl
 clear h;intro hb h;conv=>whnf
 replace h:=XaK.elim h;obtain ⟨hb,h⟩:=h
 first|(refine req.intro hb ?_;conv=>whnf)|skip
 replace h:=Xak.elim h;obtain ⟨e2,hy,h⟩:=h
 refine rd.I hy (by first|rfl|(rw [Nat.zero_add,Nat.mul_one];try rfl;done)|omega) ?_
 conv=>whnf
 cases h;simp only [Sum.elim_inl,Xir] at hc
 exact Xkm hc [(0,0)] rfl
theorem XHT (XaP:Int→Option Bool) (hS:Xai Tryz.prog (Xar (XsV XaP))) (l:List Int) (res:Int) (h:Xhd XaP l=some res) :
 XaD Tryz.prog 13 1 ⟨⟨13,29,[(0,.slice (some ⟨0,0,none⟩) l.length 1)],[.code XAO],[],false,none⟩,[],[(0,.row false (vI .i64 l))],1⟩ (fun v H _=>Res 1 (XLz res) v H):=by
 unfold Xhd at h
 refine Xa9 Xam hS true 3000 ?_
 conv=>whnf
 have hl:=Xy3 XaP hS _ res _ _ _ h rfl;simp only [Xir] at hl
 exact Xkm hl [(0,0)] rfl
theorem ok13 (XaP:Int→Option Bool) (hS:Xai Tryz.prog (Xar (XsV XaP))):Xan Tryz.prog 13 (s13 (Xhd XaP)):=by
 refine Xan.Xau Xam (fun ar os r ha hr=>?_) ⟨Tryz.f13,rfl,by decide,rfl⟩
 replace hr:r13 (Xhd XaP) ar (XaA os)=some r:=hr
 unfold r13 at hr
 generalize hc:XaA os=C at hr
 have hq:=dSl.elim hr;clear hr;obtain ⟨c0,l1,C,y0,rfl,rfl,e0,hr⟩:=hq;obtain rfl:=Xrs e0
 replace hr:=Xdf hr;obtain ⟨rfl,rfl,x,h,rfl⟩:=hr
 obtain ⟨os,rfl,ha,hc⟩:=Xdr ha hc
 obtain rfl:=Xao hc
 exact ⟨_,rfl,XHT XaP hS _ x h⟩
def XdO:(List Int)→Option Int:=Xhd XaP
theorem lift13:Xan Tryz.prog 13 (s13 XdO):=ok13 XaP (Xai.XaW ⟨Xu1,trivial⟩)
def XfP (XdO:(List Int)→Option Int) (XeH:(List UInt8)→Int→Bool→Option ((List UInt8)×Int)) (XbQ:Int→Bool→Option Int) (Xcu:Option Bool) (Xbs:(List UInt8)→Int→Bool→Option Bool) (XaX:Int→Int→Option Int) (XbP:(List Int)→Option Int) (XeB:(List UInt8)→Int→Bool→Option ((List UInt8)×Int)) (Xa1:Int→Bool→Option Int) (s:List UInt8) (n:Int) (six:Bool) (known:Int) (told:Int) (l:List Int):Option Bool:=
 cond (decide ((s.length:Int)>1000))
  (
  (Xcu).bind fun a=>
  some (a))
  (
  cond (decide ((l.length:Int)>20))
   (
   (Xcu).bind fun a1=>
   some (a1))
   (
   (XeB s n six).bind fun xr=>
   (XeH s n six).bind fun xr1=>
   cond (decide (told≥576))
    (
    cond (decide (told<known))
     (
     (Xa1 n six).bind fun xr2=>
     (XbQ n six).bind fun xr3=>
     cond (xr2==xr3)
      (
      (Xbs s n six).bind fun f=>
      (XbQ n six).bind fun xr4=>
      cond (f==(decide ((s.length:Int)≤xr4)))
       (
       cond (xr.1==xr1.1)
        (
        cond (xr.2==xr1.2)
         (
         (XaX known told).bind fun l1=>
         cond (l1==told)
          (
          (XbP l).bind fun l2=>
          (XdO l).bind fun l3=>
          cond (l2==l3)
           (
           (Xcu).bind fun a2=>
           some (a2))
           (
           some (false)))
          (
          some (false)))
         (
         some (false)))
        (
        some (false)))
       (
       some (false)))
      (
      some (false)))
     (
     (Xa1 n six).bind fun xr5=>
     (XbQ n six).bind fun xr6=>
     cond (xr5==xr6)
      (
      (Xbs s n six).bind fun f1=>
      (XbQ n six).bind fun xr7=>
      cond (f1==(decide ((s.length:Int)≤xr7)))
       (
       cond (xr.1==xr1.1)
        (
        cond (xr.2==xr1.2)
         (
         (XaX known told).bind fun l4=>
         cond (l4==known)
          (
          (XbP l).bind fun l5=>
          (XdO l).bind fun l6=>
          cond (l5==l6)
           (
           (Xcu).bind fun a3=>
           some (a3))
           (
           some (false)))
          (
          some (false)))
         (
         some (false)))
        (
        some (false)))
       (
       some (false)))
      (
      some (false))))
    (
    (Xa1 n six).bind fun xr8=>
    (XbQ n six).bind fun xr9=>
    cond (xr8==xr9)
     (
     (Xbs s n six).bind fun f2=>
     (XbQ n six).bind fun xr10=>
     cond (f2==(decide ((s.length:Int)≤xr10)))
      (
      cond (xr.1==xr1.1)
       (
       cond (xr.2==xr1.2)
        (
        (XaX known told).bind fun l7=>
        cond (l7==known)
         (
         (XbP l).bind fun l8=>
         (XdO l).bind fun l9=>
         cond (l8==l9)
          (
          (Xcu).bind fun a4=>
          some (a4))
          (
          some (false)))
         (
         some (false)))
        (
        some (false)))
       (
       some (false)))
      (
      some (false)))
     (
     some (false)))))
def rx3 (x:Bool):Xco:=⟨.bool x,[],[none]⟩
def r3 (g:(List UInt8)→Int→Bool→Int→Int→(List Int)→Option Bool):Dec:=dV asS fun (y0:List UInt8)=>dV (asI .i64) fun (y1:Int)=>dV asB fun (y2:Bool)=>dV (asI .i64) fun (y3:Int)=>dV (asI .i64) fun (y4:Int)=>dSl 0 1 (unL (asI .i64)) fun (y5:List Int)=>Xc4 (ofG (g y0 y1 y2 y3 y4 y5) rx3)
def s3 (g:(List UInt8)→Int→Bool→Int→Int→(List Int)→Option Bool):Xbp:=⟨[.v,.v,.v,.v,.v,.sl 1],r3 g⟩
abbrev sums3 (XdO:(List Int)→Option Int) (XeH:(List UInt8)→Int→Bool→Option ((List UInt8)×Int)) (XbQ:Int→Bool→Option Int) (Xcu:Option Bool) (Xbs:(List UInt8)→Int→Bool→Option Bool) (XaX:Int→Int→Option Int) (XbP:(List Int)→Option Int) (XeB:(List UInt8)→Int→Bool→Option ((List UInt8)×Int)) (Xa1:Int→Bool→Option Int):List (Nat×Xbp):=[(13,s13 XdO),(7,s7 XeH),(9,s9 XbQ),(5,s5 Xcu),(10,s10 Xbs),(11,s11 XaX),(12,s12 XbP),(6,s6 XeB),(8,s8 Xa1)]
theorem leads3 (XdO:(List Int)→Option Int) (XeH:(List UInt8)→Int→Bool→Option ((List UInt8)×Int)) (XbQ:Int→Bool→Option Int) (Xcu:Option Bool) (Xbs:(List UInt8)→Int→Bool→Option Bool) (XaX:Int→Int→Option Int) (XbP:(List Int)→Option Int) (XeB:(List UInt8)→Int→Bool→Option ((List UInt8)×Int)) (Xa1:Int→Bool→Option Int) (hS:Xai Tryz.prog (Xar (sums3 XdO XeH XbQ Xcu Xbs XaX XbP XeB Xa1))) (s:List UInt8) (n:Int) (six:Bool) (known:Int) (told:Int) (l:List Int) (res:Bool) (h:XfP XdO XeH XbQ Xcu Xbs XaX XbP XeB Xa1 s n six known told l=some res) :
 XaD Tryz.prog 3 1 ⟨⟨3,97,[(0,.string ⟨⟨s⟩⟩),(1,.int .i64 n),(2,.bool six),(3,.int .i64 known),(4,.int .i64 told),(5,.slice (some ⟨0,0,none⟩) l.length 1)],[.code X3O],[],false,none⟩,[],[(0,.row false (vI .i64 l))],1⟩ (fun v H _=>Res 1 (rx3 res) v H):=by
 unfold XfP at h
 refine Xa9 Xam hS true 3000 ?_
 conv=>whnf
 refine br.h h ?_ ?_ ?_
 ·rfl
 ·clear h;intro hb h;conv=>whnf
  replace h:=Xak.elim h;obtain ⟨a,hy,h⟩:=h
  refine XaG.q rfl rfl (Xvl hy) rfl rfl rfl ?_
  conv=>whnf
  all_goals (cases h)
  all_goals exact Res.of [] rfl XeZ (by decide) XeW (XkX XeY)
 clear h;intro hb h;conv=>whnf
 refine br.h h ?_ ?_ ?_
 ·rfl
 ·clear h;intro hb h;conv=>whnf
  replace h:=Xak.elim h;obtain ⟨a1,hy,h⟩:=h
  refine XaG.q rfl rfl (Xvl hy) rfl rfl rfl ?_
  conv=>whnf
  all_goals (cases h)
  all_goals exact Res.of [] rfl XeZ (by decide) XeW (XkX XeY)
 clear h;intro hb h;conv=>whnf
 replace h:=Xak.elim h;obtain ⟨xr,hy,h⟩:=h
 refine XaG.q rfl rfl (r6_eq hy) rfl rfl rfl ?_
 conv=>whnf
 replace h:=Xak.elim h;obtain ⟨xr1,hy,h⟩:=h
 refine XaG.q rfl rfl (r7_eq hy) rfl rfl rfl ?_
 conv=>whnf
 refine br.h2 h ?_ ?_ ?_
 ·rfl
 ·clear h;intro hb h;conv=>whnf
  replace h:=Xak.elim h;obtain ⟨xr8,hy,h⟩:=h
  refine XaG.q rfl rfl (XqF hy) rfl rfl rfl ?_
  conv=>whnf
  replace h:=Xak.elim h;obtain ⟨xr9,hy,h⟩:=h
  refine XaG.q rfl rfl (Xob hy) rfl rfl rfl ?_
  conv=>whnf
  refine br.h2 h ?_ ?_ ?_
  ·rfl
  ·clear h;intro hb h;conv=>whnf
   all_goals (cases h)
   all_goals exact Res.of [] rfl XeZ (by decide) XeW (XkX XeY)
  clear h;intro hb h;conv=>whnf
  replace h:=Xak.elim h;obtain ⟨f2,hy,h⟩:=h
  refine XaG.q rfl rfl (Xpw hy) rfl rfl rfl ?_
  conv=>whnf
  replace h:=Xak.elim h;obtain ⟨xr10,hy,h⟩:=h
  refine XaG.q rfl rfl (Xob hy) rfl rfl rfl ?_
  conv=>whnf
  refine br.h2 h ?_ ?_ ?_
  ·rfl
  ·clear h;intro hb h;conv=>whnf
   all_goals (cases h)
   all_goals exact Res.of [] rfl XeZ (by decide) XeW (XkX XeY)
  clear h;intro hb h;conv=>whnf
  refine br.h2 h ?_ ?_ ?_
  ·rfl
  ·clear h;intro hb h;conv=>whnf
   all_goals (cases h)
   all_goals exact Res.of [] rfl XeZ (by decide) XeW (XkX XeY)
  clear h;intro hb h;conv=>whnf
  refine br.h2 h ?_ ?_ ?_
  ·rfl
  ·clear h;intro hb h;conv=>whnf
   all_goals (cases h)
   all_goals exact Res.of [] rfl XeZ (by decide) XeW (XkX XeY)
  clear h;intro hb h;conv=>whnf
  replace h:=Xak.elim h;obtain ⟨l7,hy,h⟩:=h
  refine XaG.q rfl rfl (Xpd hy) rfl rfl rfl ?_
  conv=>whnf
  refine br.h2 h ?_ ?_ ?_
  ·rfl
  ·clear h;intro hb h;conv=>whnf
   all_goals (cases h)
   all_goals exact Res.of [] rfl XeZ (by decide) XeW (XkX XeY)
  clear h;intro hb h;conv=>whnf
  replace h:=Xak.elim h;obtain ⟨l8,hy,h⟩:=h
  refine XaG.Xba [] (Xat (aqs:=[.slice (some ⟨0,0,none⟩) (l:List Int).length 1]) (ws:=[.win 0 0 (l.length*1) false]) (n:=0) (m:=0) (t':=1) (Xas (by first|rfl|exact Xhl rfl rfl (by first|rfl|omega) (by first|rfl|(simp;done))|exact XiL rfl rfl (by first|rfl|omega) (by first|rfl|omega) (by first|omega|(simp at *;omega))) rfl Xbd) rfl (by rfl) (Xrc hy) rfl rfl rfl rfl (XgA rfl Xbc) Xbb rfl) ?_
  conv=>whnf
  replace h:=Xak.elim h;obtain ⟨l9,hy,h⟩:=h
  refine XaG.Xba [] (Xat (aqs:=[.slice (some ⟨0,0,none⟩) (l:List Int).length 1]) (ws:=[.win 0 0 (l.length*1) false]) (n:=0) (m:=0) (t':=1) (Xas (by first|rfl|exact Xhl rfl rfl (by first|rfl|omega) (by first|rfl|(simp;done))|exact XiL rfl rfl (by first|rfl|omega) (by first|rfl|omega) (by first|omega|(simp at *;omega))) rfl Xbd) rfl (by rfl) (XvV hy) rfl rfl rfl rfl (XgA rfl Xbc) Xbb rfl) ?_
  conv=>whnf
  refine br.h2 h ?_ ?_ ?_
  ·rfl
  ·clear h;intro hb h;conv=>whnf
   all_goals (cases h)
   all_goals exact Res.of [] rfl XeZ (by decide) XeW (XkX XeY)
  clear h;intro hb h;conv=>whnf
  replace h:=Xak.elim h;obtain ⟨a4,hy,h⟩:=h
  refine XaG.q rfl rfl (Xvl hy) rfl rfl rfl ?_
  conv=>whnf
  all_goals (cases h)
  all_goals exact Res.of [] rfl XeZ (by decide) XeW (XkX XeY)
 clear h;intro hb h;conv=>whnf
 refine br.h h ?_ ?_ ?_
 ·rfl
 ·clear h;intro hb h;conv=>whnf
  replace h:=Xak.elim h;obtain ⟨xr2,hy,h⟩:=h
  refine XaG.q rfl rfl (XqF hy) rfl rfl rfl ?_
  conv=>whnf
  replace h:=Xak.elim h;obtain ⟨xr3,hy,h⟩:=h
  refine XaG.q rfl rfl (Xob hy) rfl rfl rfl ?_
  conv=>whnf
  refine br.h2 h ?_ ?_ ?_
  ·rfl
  ·clear h;intro hb h;conv=>whnf
   all_goals (cases h)
   all_goals exact Res.of [] rfl XeZ (by decide) XeW (XkX XeY)
  clear h;intro hb h;conv=>whnf
  replace h:=Xak.elim h;obtain ⟨f,hy,h⟩:=h
  refine XaG.q rfl rfl (Xpw hy) rfl rfl rfl ?_
  conv=>whnf
  replace h:=Xak.elim h;obtain ⟨xr4,hy,h⟩:=h
  refine XaG.q rfl rfl (Xob hy) rfl rfl rfl ?_
  conv=>whnf
  refine br.h2 h ?_ ?_ ?_
  ·rfl
  ·clear h;intro hb h;conv=>whnf
   all_goals (cases h)
   all_goals exact Res.of [] rfl XeZ (by decide) XeW (XkX XeY)
  clear h;intro hb h;conv=>whnf
  refine br.h2 h ?_ ?_ ?_
  ·rfl
  ·clear h;intro hb h;conv=>whnf
   all_goals (cases h)
   all_goals exact Res.of [] rfl XeZ (by decide) XeW (XkX XeY)
  clear h;intro hb h;conv=>whnf
  refine br.h2 h ?_ ?_ ?_
  ·rfl
  ·clear h;intro hb h;conv=>whnf
   all_goals (cases h)
   all_goals exact Res.of [] rfl XeZ (by decide) XeW (XkX XeY)
  clear h;intro hb h;conv=>whnf
  replace h:=Xak.elim h;obtain ⟨l1,hy,h⟩:=h
  refine XaG.q rfl rfl (Xpd hy) rfl rfl rfl ?_
  conv=>whnf
  refine br.h2 h ?_ ?_ ?_
  ·rfl
  ·clear h;intro hb h;conv=>whnf
   all_goals (cases h)
   all_goals exact Res.of [] rfl XeZ (by decide) XeW (XkX XeY)
  clear h;intro hb h;conv=>whnf
  replace h:=Xak.elim h;obtain ⟨l2,hy,h⟩:=h
  refine XaG.Xba [] (Xat (aqs:=[.slice (some ⟨0,0,none⟩) (l:List Int).length 1]) (ws:=[.win 0 0 (l.length*1) false]) (n:=0) (m:=0) (t':=1) (Xas (by first|rfl|exact Xhl rfl rfl (by first|rfl|omega) (by first|rfl|(simp;done))|exact XiL rfl rfl (by first|rfl|omega) (by first|rfl|omega) (by first|omega|(simp at *;omega))) rfl Xbd) rfl (by rfl) (Xrc hy) rfl rfl rfl rfl (XgA rfl Xbc) Xbb rfl) ?_
  conv=>whnf
  replace h:=Xak.elim h;obtain ⟨l3,hy,h⟩:=h
  refine XaG.Xba [] (Xat (aqs:=[.slice (some ⟨0,0,none⟩) (l:List Int).length 1]) (ws:=[.win 0 0 (l.length*1) false]) (n:=0) (m:=0) (t':=1) (Xas (by first|rfl|exact Xhl rfl rfl (by first|rfl|omega) (by first|rfl|(simp;done))|exact XiL rfl rfl (by first|rfl|omega) (by first|rfl|omega) (by first|omega|(simp at *;omega))) rfl Xbd) rfl (by rfl) (XvV hy) rfl rfl rfl rfl (XgA rfl Xbc) Xbb rfl) ?_
  conv=>whnf
  refine br.h2 h ?_ ?_ ?_
  ·rfl
  ·clear h;intro hb h;conv=>whnf
   all_goals (cases h)
   all_goals exact Res.of [] rfl XeZ (by decide) XeW (XkX XeY)
  clear h;intro hb h;conv=>whnf
  replace h:=Xak.elim h;obtain ⟨a2,hy,h⟩:=h
  refine XaG.q rfl rfl (Xvl hy) rfl rfl rfl ?_
  conv=>whnf
  all_goals (cases h)
  all_goals exact Res.of [] rfl XeZ (by decide) XeW (XkX XeY)
 clear h;intro hb h;conv=>whnf
 replace h:=Xak.elim h;obtain ⟨xr5,hy,h⟩:=h
 refine XaG.q rfl rfl (XqF hy) rfl rfl rfl ?_
 conv=>whnf
 replace h:=Xak.elim h;obtain ⟨xr6,hy,h⟩:=h
 refine XaG.q rfl rfl (Xob hy) rfl rfl rfl ?_
 conv=>whnf
 refine br.h2 h ?_ ?_ ?_
 ·rfl
 ·clear h;intro hb h;conv=>whnf
  all_goals (cases h)
  all_goals exact Res.of [] rfl XeZ (by decide) XeW (XkX XeY)
 clear h;intro hb h;conv=>whnf
 replace h:=Xak.elim h;obtain ⟨f1,hy,h⟩:=h
 refine XaG.q rfl rfl (Xpw hy) rfl rfl rfl ?_
 conv=>whnf
 replace h:=Xak.elim h;obtain ⟨xr7,hy,h⟩:=h
 refine XaG.q rfl rfl (Xob hy) rfl rfl rfl ?_
 conv=>whnf
 refine br.h2 h ?_ ?_ ?_
 ·rfl
 ·clear h;intro hb h;conv=>whnf
  all_goals (cases h)
  all_goals exact Res.of [] rfl XeZ (by decide) XeW (XkX XeY)
 clear h;intro hb h;conv=>whnf
 refine br.h2 h ?_ ?_ ?_
 ·rfl
 ·clear h;intro hb h;conv=>whnf
  all_goals (cases h)
  all_goals exact Res.of [] rfl XeZ (by decide) XeW (XkX XeY)
 clear h;intro hb h;conv=>whnf
 refine br.h2 h ?_ ?_ ?_
 ·rfl
 ·clear h;intro hb h;conv=>whnf
  all_goals (cases h)
  all_goals exact Res.of [] rfl XeZ (by decide) XeW (XkX XeY)
 clear h;intro hb h;conv=>whnf
 replace h:=Xak.elim h;obtain ⟨l4,hy,h⟩:=h
 refine XaG.q rfl rfl (Xpd hy) rfl rfl rfl ?_
 conv=>whnf
 refine br.h2 h ?_ ?_ ?_
 ·rfl
 ·clear h;intro hb h;conv=>whnf
  all_goals (cases h)
  all_goals exact Res.of [] rfl XeZ (by decide) XeW (XkX XeY)
 clear h;intro hb h;conv=>whnf
 replace h:=Xak.elim h;obtain ⟨l5,hy,h⟩:=h
 refine XaG.Xba [] (Xat (aqs:=[.slice (some ⟨0,0,none⟩) (l:List Int).length 1]) (ws:=[.win 0 0 (l.length*1) false]) (n:=0) (m:=0) (t':=1) (Xas (by first|rfl|exact Xhl rfl rfl (by first|rfl|omega) (by first|rfl|(simp;done))|exact XiL rfl rfl (by first|rfl|omega) (by first|rfl|omega) (by first|omega|(simp at *;omega))) rfl Xbd) rfl (by rfl) (Xrc hy) rfl rfl rfl rfl (XgA rfl Xbc) Xbb rfl) ?_
 conv=>whnf
 replace h:=Xak.elim h;obtain ⟨l6,hy,h⟩:=h
 refine XaG.Xba [] (Xat (aqs:=[.slice (some ⟨0,0,none⟩) (l:List Int).length 1]) (ws:=[.win 0 0 (l.length*1) false]) (n:=0) (m:=0) (t':=1) (Xas (by first|rfl|exact Xhl rfl rfl (by first|rfl|omega) (by first|rfl|(simp;done))|exact XiL rfl rfl (by first|rfl|omega) (by first|rfl|omega) (by first|omega|(simp at *;omega))) rfl Xbd) rfl (by rfl) (XvV hy) rfl rfl rfl rfl (XgA rfl Xbc) Xbb rfl) ?_
 conv=>whnf
 refine br.h2 h ?_ ?_ ?_
 ·rfl
 ·clear h;intro hb h;conv=>whnf
  all_goals (cases h)
  all_goals exact Res.of [] rfl XeZ (by decide) XeW (XkX XeY)
 clear h;intro hb h;conv=>whnf
 replace h:=Xak.elim h;obtain ⟨a3,hy,h⟩:=h
 refine XaG.q rfl rfl (Xvl hy) rfl rfl rfl ?_
 conv=>whnf
 all_goals (cases h)
 all_goals exact Res.of [] rfl XeZ (by decide) XeW (XkX XeY)
def Xj3:(List UInt8)→Int→Bool→Int→Int→(List Int)→Option Bool:=XfP XdO XeH XbQ Xcu Xbs XaX XbP XeB Xa1
end Go.Vm.Code
namespace Go.Vm.Code
open Go Go.Vm
theorem XIa:Xcu=some true:=by decide +kernel
theorem XGG (s:List UInt8):(XgN s).1.Src.V6=false:=by
 unfold XgN
 split
 ·rfl
 split
 ·rfl
 split
 ·rfl
 split
 ·rfl
 split
 ·rfl
 split
 ·rfl
 split
 ·rfl
 rfl
theorem Xp1 {s:List UInt8} (h:(Xa5 s).err=0):20≤(Xa5 s).size∧((Xa5 s).src.V6=true→40≤(Xa5 s).size):=by
 unfold Xa5 at h ⊢
 by_cases g1:vK s 0 1/16=4
 ·rw [if_pos g1] at h ⊢
  by_cases g2:(XgN s).2.2≠0
  ·rw [if_pos g2] at h;exact absurd h g2
  rw [if_neg g2] at h ⊢
  by_cases g3:s.length≠20+(XgN s).1.Options.length+(XgN s).2.1.length
  ·rw [if_pos g3] at h;exact absurd h (by decide)
  rw [if_neg g3]
  refine ⟨by simp only [];omega,fun e=>?_⟩
  simp only [XGG] at e
  cases e
 rw [if_neg g1] at h ⊢
 by_cases g4:vK s 0 1/16=6
 ·rw [if_pos g4] at h ⊢
  by_cases g2:(XiT s).2.2≠0
  ·rw [if_pos g2] at h;exact absurd h g2
  rw [if_neg g2] at h ⊢
  by_cases g3:s.length≠40+(XiT s).2.1.length
  ·rw [if_pos g3] at h;exact absurd h (by decide)
  rw [if_neg g3]
  exact ⟨by simp only [];omega,fun _=>by simp only [];omega⟩
 ·rw [if_neg g4] at h;exact absurd h (by decide)
theorem Xtw {o:O11} {n:Nat} (h:(Xgi o n).2.2=0):8≤o.body.length∧(Xgi o n).1.Tuple.Src=o.src∧(Xgi o n).1.Tuple.Dst=o.dst:=by
 unfold Xgi at h ⊢
 by_cases g1:o.proto=6
 ·rw [if_pos g1] at h ⊢
  by_cases g2:(Xig o.body o.src o.dst).2.2≠0
  ·rw [if_pos g2] at h;exact absurd h g2
  rw [if_neg g2]
  have:=XqQ (b:=o.body) (src:=o.src) (dst:=o.dst) (by omega)
  exact ⟨by omega,rfl,rfl⟩
 rw [if_neg g1] at h ⊢
 by_cases g4:o.proto=17
 ·rw [if_pos g4] at h ⊢
  by_cases g2:(Xhr o.body o.src o.dst).2.2≠0
  ·rw [if_pos g2] at h;exact absurd h g2
  rw [if_neg g2] at h ⊢
  by_cases g3:(Xhr o.body o.src o.dst).2.1.length+8≠o.body.length
  ·rw [if_pos g3] at h;exact absurd h (by decide)
  rw [if_neg g3]
  exact ⟨by omega,rfl,rfl⟩
 ·rw [if_neg g4] at h;exact absurd h (by decide)
theorem Xnk {s:List UInt8} (h:(XbN s).2.2.2=0):A4 (XbN s).1.Tuple.Src∧A4 (XbN s).1.Tuple.Dst∧28≤s.length∧((XbN s).1.Tuple.Src.V6=true→48≤s.length):=by
 unfold XbN at h ⊢
 by_cases g1:9000<s.length
 ·rw [if_pos g1] at h;exact absurd h (by decide)
 rw [if_neg g1] at h ⊢
 by_cases g2:s=[]
 ·rw [if_pos g2] at h;exact absurd h (by decide)
 rw [if_neg g2] at h ⊢
 by_cases g3:(Xa5 s).err≠0
 ·rw [if_pos g3] at h;exact absurd h g3
 rw [if_neg g3] at h ⊢
 by_cases g4:(Xgi (Xa5 s) s.length).2.2≠0
 ·rw [if_pos g4] at h;exact absurd h g4
 rw [if_neg g4]
 obtain ⟨k1,k2,k3⟩:=Xtw (o:=Xa5 s) (n:=s.length) (by omega)
 obtain ⟨z1,z2⟩:=Xp1 (s:=s) (by omega)
 have hb:=Xkc (s:=s) (by omega)
 obtain ⟨a1,a2⟩:=Xmd s
 simp only [k2,k3]
 exact ⟨a1,a2,by omega,fun e=>by have:=z2 e;omega⟩
def XkQ (n:Int) (six:Bool):Int:=if 576≤n∧n≤9000 then n - cond six 66 46 else 0
theorem Xru (n:Int):Xcc n=some (decide (576≤n∧n≤9000)):=by
 unfold Xcc Xjw XaE Xdj
 by_cases h1:576≤n
 ·rw [XaV h1];simp [h1]
 ·rw [XaM h1];simp [h1]
theorem Xlm (n:Int):XaP n=some (decide (576≤n∧n≤9000)):=by
 unfold XaP Xhb
 by_cases h1:576≤n
 ·rw [XaV (by omega)];simp [h1]
 ·rw [XaM (by omega)];simp [h1]
theorem Xnm (six:Bool):XbC six=some (cond six 48 28):=by cases six<;>rfl
theorem XnR (n:Int) (six:Bool):Xa1 n six=some (XkQ n six):=by
 unfold Xa1 Xh2 XkQ
 rw [Xru,Option.bind_some]
 by_cases h:576≤n∧n≤9000
 ·rw [decide_eq_true h,Bool.not_true,cond_false,if_pos h,Xnm,Option.bind_some]
  cases six
  ·simp only [cond_false];rw [XcC (n:=n - 28) (by omega) (by omega),XcC (by omega) (by omega)];congr 1;omega
  ·simp only [cond_true];rw [XcC (n:=n - 48) (by omega) (by omega),XcC (by omega) (by omega)];congr 1;omega
 ·rw [decide_eq_false h,Bool.not_false,cond_true,if_neg h]
theorem XrM (n:Int) (six:Bool):XbQ n six=some (XkQ n six):=by
 unfold XbQ XhV XkQ
 rw [Xlm,Option.bind_some]
 by_cases h:576≤n∧n≤9000
 ·rw [decide_eq_true h,Bool.not_true,cond_false,if_pos h]
  cases six
  ·simp only [cond_false];rw [XcC (n:=n - 28) (by omega) (by omega),XcC (by omega) (by omega)];congr 1;omega
  ·simp only [cond_true];rw [XcC (n:=n - 48) (by omega) (by omega),XcC (by omega) (by omega)];congr 1;omega
 ·rw [decide_eq_false h,Bool.not_false,cond_true,if_neg h]
theorem XrC (s:List UInt8) (n:Int) (six:Bool):Xbs s n six=some (decide ((s.length:Int)≤XkQ n six)):=by
 unfold Xbs Xib
 rw [XnR,Option.bind_some]
def XnI (s:List UInt8) (n:Int) (six:Bool):List UInt8×Int:=
 if (XbN s).2.2.2≠0 then ([],(XbN s).2.2.2) else if (s.length:Int)≤XkQ n six then ([],11) else if ¬ (576≤n∧n≤9000) then ([],1) else
  Xpa ⟨2,cond (XbN s).1.Tuple.Src.V6 0 4,XkQ n six,s.take (cond (XbN s).1.Tuple.Src.V6 48 28)⟩ (XbN s).1.Tuple.Dst (XbN s).1.Tuple.Src
theorem Xum {s:List UInt8} {n:Int} {six:Bool} (hs:s.length≤1000):XeB s n six=some (XnI s n six):=by
 unfold XeB XgV XnI
 rw [XyY (by omega),Option.bind_some]
 simp only []
 by_cases h0:(XbN s).2.2.2=0
 ·obtain ⟨a1,a2,l1,l2⟩:=Xnk h0
  rw [show ((XbN s).2.2.2 !=0)=false by rw [h0];rfl,cond_false,if_neg (by omega),XrC,Option.bind_some]
  by_cases h1:(s.length:Int)≤XkQ n six
  ·rw [XaV h1,if_pos h1]
  rw [XaM h1,if_neg h1,Xru,Option.bind_some]
  by_cases h2:576≤n∧n≤9000
  ·rw [decide_eq_true h2,Bool.not_true,cond_false,if_neg (by omega),XnR,Option.bind_some,Xnm,Option.bind_some]
   cases hv:(XbN s).1.Tuple.Src.V6
   ·simp only [cond_false]
    rw [Xaz (by omega),show (28:Int).toNat=28 from rfl,XrP a2 a1 (by simp;omega),Option.bind_some]
   ·have:=l2 hv
    simp only [cond_true]
    rw [Xaz (by omega),show (48:Int).toNat=48 from rfl,XrP a2 a1 (by simp;omega),Option.bind_some]
  ·rw [decide_eq_false h2,Bool.not_false,cond_true,if_pos h2]
 ·rw [show ((XbN s).2.2.2 !=0)=true by simpa using h0,cond_true,if_pos h0]
theorem XvU {s:List UInt8} {n:Int} {six:Bool} (hs:s.length≤1000):XeH s n six=some (XnI s n six):=by
 unfold XeH XgY XnI
 rw [XtS (by omega),Option.bind_some]
 simp only []
 by_cases h0:(XbN s).2.2.2=0
 ·obtain ⟨a1,a2,l1,l2⟩:=Xnk h0
  rw [show ((XbN s).2.2.2 !=0)=false by rw [h0];rfl,cond_false,if_neg (by omega),XrM,Option.bind_some]
  by_cases h1:(s.length:Int)≤XkQ n six
  ·rw [XaV h1,if_pos h1]
  rw [XaM h1,if_neg h1,Xlm,Option.bind_some]
  by_cases h2:576≤n∧n≤9000
  ·rw [decide_eq_true h2,Bool.not_true,cond_false,if_neg (by omega),Option.bind_some,Xaz (by omega)]
   cases hv:(XbN s).1.Tuple.Src.V6
   ·simp only [cond_false]
    rw [XrL a2 a1 (by simp;omega),Option.bind_some]
   ·have:=l2 hv
    simp only [cond_true]
    rw [Option.bind_some,Xaz (by omega),XrL a2 a1 (by simp;omega),Option.bind_some]
  ·rw [decide_eq_false h2,Bool.not_false,cond_true,if_pos h2]
 ·rw [show ((XbN s).2.2.2 !=0)=true by simpa using h0,cond_true,if_pos h0]
theorem Xnw (k t:Int):XaX k t=some (if 576≤t∧t≤k then t else k):=by
 unfold XaX Xg7 XaE Xdj
 by_cases h1:576≤t
 ·rw [XaV h1,Option.bind_some]
  by_cases h2:t≤k
  ·rw [XaV h2,if_pos ⟨h1,h2⟩]
  ·rw [XaM h2,if_neg (by omega)]
 ·rw [XaM h1,Option.bind_some,cond_false,if_neg (by omega)]
def Xj9:List Int→Int→Int
 | [],n=>n
 | x::l,n=>Xj9 l (if 576≤x∧x≤n then x else n)
theorem Xux {l:List Int} (hl:l.length≤20):XbP l=some (Xj9 l 9000):=by
 unfold XbP Xg3
 have key:=iter_eq (step:=fun (st:Int×Int)=>Xfo XaX l st.1 st.2) (fun st=>Xj9 (l.drop st.2.toNat) st.1) (fun st=>0≤st.2∧st.2≤l.length) (fun st=>(l.length - st.2).toNat) ?_ FUEL (9000,0) ⟨by simp,by simp⟩ (by rw [XeV];simp only;omega)
 ·rw [key];rfl
 rintro ⟨n,x⟩ ⟨g1,g2⟩
 simp only at g1 g2 ⊢
 obtain ⟨i,rfl⟩:=Int.eq_ofNat_of_zero_le g1
 unfold Xfo
 by_cases hp:i<l.length
 ·refine .inr ⟨(if 576≤l[i]∧l[i]≤n then l[i] else n,((i+1:Nat):Int)),?_,⟨by simp only;omega,by simp only;omega⟩,by simp only;omega,?_⟩
  ·rw [XaV (by omega),Xaz (by omega),Int.toNat_natCast,List.getElem?_eq_getElem hp,Option.bind_some,Xnw,Option.bind_some,XcC (by omega) (by omega)];rfl
  ·simp only [Int.toNat_natCast]
   rw [List.drop_eq_getElem_cons hp,Xj9]
 ·refine .inl ?_
  rw [XaM (by omega),Int.toNat_natCast,List.drop_of_length_le (by omega)];rfl
theorem XuY {l:List Int} (hl:l.length≤20):XdO l=some (Xj9 l 9000):=by
 unfold XdO Xhd
 have key:=iter_eq (step:=fun (st:Int×Int)=>Xfn XaP l st.1 st.2) (fun st=>Xj9 (l.drop st.2.toNat) st.1) (fun st=>0≤st.2∧st.2≤l.length∧st.1≤9000) (fun st=>(l.length - st.2).toNat) ?_ FUEL (9000,0) ⟨by simp,by simp,by simp⟩ (by rw [XeV];simp only;omega)
 ·rw [key];rfl
 rintro ⟨n,x⟩ ⟨g1,g2,g3⟩
 simp only at g1 g2 g3 ⊢
 obtain ⟨i,rfl⟩:=Int.eq_ofNat_of_zero_le g1
 unfold Xfn
 by_cases hp:i<l.length
 ·refine .inr ⟨(if 576≤l[i]∧l[i]≤n then l[i] else n,((i+1:Nat):Int)),?_,⟨by simp only;omega,by simp only;omega,by simp only;split<;>omega⟩,by simp only;omega,?_⟩
  ·rw [XaV (by omega),Xaz (by omega),Int.toNat_natCast,List.getElem?_eq_getElem hp,Option.bind_some,Xlm,Option.bind_some,Option.bind_some,Option.bind_some,XcC (by omega) (by omega)]
   generalize l[i]=v
   by_cases c1:576≤v∧v≤9000
   ·rw [XaV c1,Xaz (by omega)]
    by_cases c2:v<n
    ·rw [XaV c2,if_pos (by omega),Xaz (by omega)];rfl
    ·rw [XaM c2]
     by_cases c3:v=n
     ·subst c3;rw [if_pos (by omega)];rfl
     ·rw [if_neg (by omega)];rfl
   ·rw [XaM c1,if_neg (by omega)];rfl
  ·simp only [Int.toNat_natCast]
   rw [List.drop_eq_getElem_cons hp,Xj9]
 ·refine .inl ?_
  rw [XaM (by omega),Int.toNat_natCast,List.drop_of_length_le (by omega)];rfl
theorem mtuTells (s:List UInt8) (n:Int) (six:Bool) (known told:Int) (l:List Int):Xj3 s n six known told l=some true:=by
 unfold Xj3 XfP
 rw [XIa]
 by_cases g1:1000<s.length
 ·rw [XaV (by omega)];rfl
 rw [XaM (by omega)]
 by_cases g2:20<l.length
 ·rw [XaV (by omega)];rfl
 rw [XaM (by omega),Xum (by omega),XvU (by omega),Xnw,XnR,XrM,XrC,Xux (by omega),XuY (by omega)]
 simp only [Option.bind_some,beq_self_eq_true,cond_true]
 by_cases c1:told≥576
 ·rw [XaV c1]
  by_cases c2:told<known
  ·rw [XaV c2,if_pos (by omega),beq_self_eq_true,cond_true]
  ·rw [XaM c2]
   by_cases c3:told=known
   ·subst c3;rw [if_pos (by omega),beq_self_eq_true,cond_true]
   ·rw [if_neg (by omega),beq_self_eq_true,cond_true]
 ·rw [XaM c1,if_neg (by omega),beq_self_eq_true,cond_true]
end Go.Vm.Code
