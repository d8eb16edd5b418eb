import Derived.Test.YtiknkhbngadaeaaGreatNMtuTellse
namespace Go.Vm.Code
open Go Go.Vm Go.Proofs
set_option maxRecDepth 100000
set_option maxHeartbeats 4000000
set_option linter.unusedVariables false
def Xfk (XbG:(List UInt8)→Option (Xap×Int)) (XaI:Xap→Xag→Option (Int×Int×Xag)) (XaQ:Xap→Xag→Option (Int×Int×Xag)) (s:List UInt8):Option (Xag×Int×Int×Int):=
 cond (decide ((s.length:Int)>9000))
  (
  some ((Xag.mk (Xbt.mk 0 (Xaa.mk false 0 0) (Xaa.mk false 0 0) 0 0) 0 false 0 0 false [] 0,0,0,5)))
  (
  cond (s==[])
   (
   some ((Xag.mk (Xbt.mk 0 (Xaa.mk false 0 0) (Xaa.mk false 0 0) 0 0) 0 false 0 0 false [] 0,0,0,2)))
   (
   (XbG s).bind fun xo=>
   cond (xo.2 !=0)
    (
    some ((Xag.mk (Xbt.mk 0 (Xaa.mk false 0 0) (Xaa.mk false 0 0) 0 0) 0 false 0 0 false [] 0,0,0,xo.2)))
    (
    cond (xo.1.proto==6)
     (
     (XaQ xo.1 (Xag.mk (Xbt.mk xo.1.proto xo.1.src xo.1.dst 0 0) 0 false 0 0 false [] (s.length:Int))).bind fun s1=>
     cond (s1.2.1 !=0)
      (
      some ((Xag.mk (Xbt.mk 0 (Xaa.mk false 0 0) (Xaa.mk false 0 0) 0 0) 0 false 0 0 false [] 0,0,0,s1.2.1)))
      (
      some ((s1.2.2,(xo.1.body.length:Int),s1.1,0))))
     (
     cond (xo.1.proto==17)
      (
      (XaI xo.1 (Xag.mk (Xbt.mk xo.1.proto xo.1.src xo.1.dst 0 0) 0 false 0 0 false [] (s.length:Int))).bind fun d=>
      cond (d.2.1 !=0)
       (
       some ((Xag.mk (Xbt.mk 0 (Xaa.mk false 0 0) (Xaa.mk false 0 0) 0 0) 0 false 0 0 false [] 0,0,0,d.2.1)))
       (
       some ((d.2.2,(xo.1.body.length:Int),d.1,0))))
      (
      some ((Xag.mk (Xbt.mk 0 (Xaa.mk false 0 0) (Xaa.mk false 0 0) 0 0) 0 false 0 0 false [] 0,0,0,6)))))))
def rx46 (x:Xag×Int×Int×Int):Xco:=⟨.tuple ⟨[.agg ⟨[.int .i64 x.1.Tuple.Proto,.bool x.1.Tuple.Src.V6,.int .u64 x.1.Tuple.Src.Hi,.int .u64 x.1.Tuple.Src.Lo,.bool x.1.Tuple.Dst.V6,.int .u64 x.1.Tuple.Dst.Hi,.int .u64 x.1.Tuple.Dst.Lo,.int .i64 x.1.Tuple.SPort,.int .i64 x.1.Tuple.DPort,.int .i64 x.1.Flags,.bool x.1.Stamped,.int .u32 x.1.Val,.int .u32 x.1.Echo,.bool x.1.Long,.string ⟨⟨x.1.CID⟩⟩,.int .i64 x.1.Size]⟩,.int .i64 x.2.1,.int .i64 x.2.2.1,.int .i64 x.2.2.2]⟩,[],[]⟩
def r46 (g:(List UInt8)→Option (Xag×Int×Int×Int)):Dec:=dV asS fun (y0:List UInt8)=>Xc5 (ofG (g y0) rx46)
theorem r46_c {g:(List UInt8)→Option (Xag×Int×Int×Int)} {y0:List UInt8} {x:Xag×Int×Int×Int} (hx:g y0=some x):r46 g [.string ⟨⟨y0⟩⟩] []=some (rx46 x):=(XaS (XdL)).trans (XaZ hx)
def s46 (g:(List UInt8)→Option (Xag×Int×Int×Int)):Xbp:=⟨[.v],r46 g⟩
theorem XXm {g:(List UInt8)→Option (Xag×Int×Int×Int)} {y0:List UInt8} {x:Xag×Int×Int×Int} (hx:g y0=some x):(s46 g).run [.string ⟨⟨y0⟩⟩] []=some (rx46 x):=r46_c hx
abbrev Xzj (XbG:(List UInt8)→Option (Xap×Int)) (XaI:Xap→Xag→Option (Int×Int×Xag)) (XaQ:Xap→Xag→Option (Int×Int×Xag)):List (Nat×Xbp):=[(71,s71 XbG),(73,s73 XaI),(72,s72 XaQ)]
theorem XCV (XbG:(List UInt8)→Option (Xap×Int)) (XaI:Xap→Xag→Option (Int×Int×Xag)) (XaQ:Xap→Xag→Option (Int×Int×Xag)) (hS:Xai Tryz.prog (Xar (Xzj XbG XaI XaQ))) (s:List UInt8) (res:Xag×Int×Int×Int) (h:Xfk XbG XaI XaQ s=some res) :
 XaD Tryz.prog 46 0 ⟨⟨46,63,[(0,.string ⟨⟨s⟩⟩)],[.code XBy],[],false,none⟩,[],[],0⟩ (fun v H _=>Res 0 (rx46 res) v H):=by
 unfold Xfk at h
 refine Xa9 Xam hS true 3000 ?_
 conv=>whnf
 refine br.h h ?_ ?_ ?_
 ·rfl
 ·clear h;intro hb h;conv=>whnf
  all_goals (cases h;exact Res.z rfl rfl rfl)
 clear h;intro hb h;conv=>whnf
 refine br.h h ?_ ?_ ?_
 ·rfl
 ·clear h;intro hb h;conv=>whnf
  all_goals (cases h;exact Res.z rfl rfl rfl)
 clear h;intro hb h;conv=>whnf
 replace h:=Xak.elim h;obtain ⟨xo,hy,h⟩:=h
 refine XaH.q rfl rfl (XV8 hy) rfl rfl rfl ?_
 conv=>whnf
 refine br.h h ?_ ?_ ?_
 ·rfl
 ·clear h;intro hb h;conv=>whnf
  all_goals (cases h;exact Res.z rfl rfl rfl)
 clear h;intro hb h;conv=>whnf
 refine br.h h ?_ ?_ ?_
 ·rfl
 ·clear h;intro hb h;conv=>whnf
  replace h:=Xak.elim h;obtain ⟨s1,hy,h⟩:=h
  refine XaH.Xbb [2] (Xat («as»:=[.agg ⟨[.bool xo.1.src.V6,.int .u64 xo.1.src.Hi,.int .u64 xo.1.src.Lo,.bool xo.1.dst.V6,.int .u64 xo.1.dst.Hi,.int .u64 xo.1.dst.Lo,.int .i64 xo.1.proto,.string ⟨⟨xo.1.body⟩⟩]⟩,.pointer (some ⟨0,0,none⟩)]) (ws:=[.win 2 0 16 true]) (n:=0) (m:=0) (t':=3) (Xas rfl rfl (Xas rfl rfl Xbd)) rfl (by rfl) (X1z hy) rfl rfl rfl rfl (XbK rfl rfl rfl ⟨rfl,Nat.le_of_ble_eq_true rfl⟩ rfl rfl Xbc) Xba rfl) ?_
  conv=>whnf
  refine br.h h ?_ ?_ ?_
  ·rfl
  ·clear h;intro hb h;conv=>whnf
   all_goals (cases h;exact Res.z rfl rfl rfl)
  clear h;intro hb h;conv=>whnf
  all_goals (cases h;exact Res.z rfl rfl rfl)
 clear h;intro hb h;conv=>whnf
 refine br.h2 h ?_ ?_ ?_
 ·rfl
 ·clear h;intro hb h;conv=>whnf
  all_goals (cases h;exact Res.z rfl rfl rfl)
 clear h;intro hb h;conv=>whnf
 replace h:=Xak.elim h;obtain ⟨d,hy,h⟩:=h
 refine XaH.Xbb [2] (Xat («as»:=[.agg ⟨[.bool xo.1.src.V6,.int .u64 xo.1.src.Hi,.int .u64 xo.1.src.Lo,.bool xo.1.dst.V6,.int .u64 xo.1.dst.Hi,.int .u64 xo.1.dst.Lo,.int .i64 xo.1.proto,.string ⟨⟨xo.1.body⟩⟩]⟩,.pointer (some ⟨0,0,none⟩)]) (ws:=[.win 2 0 16 true]) (n:=0) (m:=0) (t':=3) (Xas rfl rfl (Xas rfl rfl Xbd)) rfl (by rfl) (XUF hy) rfl rfl rfl rfl (XbK rfl rfl rfl ⟨rfl,Nat.le_of_ble_eq_true rfl⟩ rfl rfl Xbc) Xba rfl) ?_
 conv=>whnf
 refine br.h h ?_ ?_ ?_
 ·rfl
 ·clear h;intro hb h;conv=>whnf
  all_goals (cases h;exact Res.z rfl rfl rfl)
 clear h;intro hb h;conv=>whnf
 all_goals (cases h;exact Res.z rfl rfl rfl)
theorem ok46 (XbG:(List UInt8)→Option (Xap×Int)) (XaI:Xap→Xag→Option (Int×Int×Xag)) (XaQ:Xap→Xag→Option (Int×Int×Xag)) (hS:Xai Tryz.prog (Xar (Xzj XbG XaI XaQ))):Xan Tryz.prog 46 (s46 (Xfk XbG XaI XaQ)):=by
 refine Xan.Xau Xam (fun ar os r ha hr=>?_) ⟨Tryz.f46,rfl,by decide,rfl⟩
 replace hr:r46 (Xfk XbG XaI XaQ) ar (XaA os)=some r:=hr
 unfold r46 at hr
 generalize hc:XaA os=C at hr
 replace hr:=dV.elim hr;obtain ⟨v0,l1,y0,rfl,e0,hr⟩:=hr;obtain rfl:=Xb8 _ _ e0
 replace hr:=Xdg hr;obtain ⟨rfl,rfl,x,h,rfl⟩:=hr
 obtain rfl:=Xao hc
 exact ⟨_,rfl,XCV XbG XaI XaQ hS _ x h⟩
def XbY:(List UInt8)→Option (Xag×Int×Int×Int):=Xfk XbG XaI XaQ
theorem X4A:Xan Tryz.prog 46 (s46 XbY):=ok46 XbG XaI XaQ (Xai.XaW ⟨XQf,X3Q,XRY,trivial⟩)
def XeQ (XbY:(List UInt8)→Option (Xag×Int×Int×Int)) (s:List UInt8):Option (Xag×Int):=
 (XbY s).bind fun t=>
 some ((t.1,t.2.2.2))
def rx22 (x:Xag×Int):Xco:=⟨.tuple ⟨[.agg ⟨[.int .i64 x.1.Tuple.Proto,.bool x.1.Tuple.Src.V6,.int .u64 x.1.Tuple.Src.Hi,.int .u64 x.1.Tuple.Src.Lo,.bool x.1.Tuple.Dst.V6,.int .u64 x.1.Tuple.Dst.Hi,.int .u64 x.1.Tuple.Dst.Lo,.int .i64 x.1.Tuple.SPort,.int .i64 x.1.Tuple.DPort,.int .i64 x.1.Flags,.bool x.1.Stamped,.int .u32 x.1.Val,.int .u32 x.1.Echo,.bool x.1.Long,.string ⟨⟨x.1.CID⟩⟩,.int .i64 x.1.Size]⟩,.int .i64 x.2]⟩,[],[]⟩
def r22 (g:(List UInt8)→Option (Xag×Int)):Dec:=dV asS fun (y0:List UInt8)=>Xc5 (ofG (g y0) rx22)
theorem r22_c {g:(List UInt8)→Option (Xag×Int)} {y0:List UInt8} {x:Xag×Int} (hx:g y0=some x):r22 g [.string ⟨⟨y0⟩⟩] []=some (rx22 x):=(XaS (XdL)).trans (XaZ hx)
def s22 (g:(List UInt8)→Option (Xag×Int)):Xbp:=⟨[.v],r22 g⟩
theorem XPg {g:(List UInt8)→Option (Xag×Int)} {y0:List UInt8} {x:Xag×Int} (hx:g y0=some x):(s22 g).run [.string ⟨⟨y0⟩⟩] []=some (rx22 x):=r22_c hx
abbrev XzC (XbY:(List UInt8)→Option (Xag×Int×Int×Int)):List (Nat×Xbp):=[(46,s46 XbY)]
theorem XDl (XbY:(List UInt8)→Option (Xag×Int×Int×Int)) (hS:Xai Tryz.prog (Xar (XzC XbY))) (s:List UInt8) (res:Xag×Int) (h:XeQ XbY s=some res) :
 XaD Tryz.prog 22 0 ⟨⟨22,17,[(0,.string ⟨⟨s⟩⟩)],[.code XSw],[],false,none⟩,[],[],0⟩ (fun v H _=>Res 0 (rx22 res) v H):=by
 unfold XeQ at h
 refine Xa9 Xam hS true 3000 ?_
 conv=>whnf
 replace h:=Xak.elim h;obtain ⟨t,hy,h⟩:=h
 refine XaH.q rfl rfl (XXm hy) rfl rfl rfl ?_
 conv=>whnf
 all_goals (cases h;exact Res.z rfl rfl rfl)
theorem ok22 (XbY:(List UInt8)→Option (Xag×Int×Int×Int)) (hS:Xai Tryz.prog (Xar (XzC XbY))):Xan Tryz.prog 22 (s22 (XeQ XbY)):=by
 refine Xan.Xau Xam (fun ar os r ha hr=>?_) ⟨Tryz.f22,rfl,by decide,rfl⟩
 replace hr:r22 (XeQ XbY) ar (XaA os)=some r:=hr
 unfold r22 at hr
 generalize hc:XaA os=C at hr
 replace hr:=dV.elim hr;obtain ⟨v0,l1,y0,rfl,e0,hr⟩:=hr;obtain rfl:=Xb8 _ _ e0
 replace hr:=Xdg hr;obtain ⟨rfl,rfl,x,h,rfl⟩:=hr
 obtain rfl:=Xao hc
 exact ⟨_,rfl,XDl XbY hS _ x h⟩
def XbR:(List UInt8)→Option (Xag×Int):=XeQ XbY
theorem XNq:Xan Tryz.prog 22 (s22 XbR):=ok22 XbY (Xai.XaW ⟨X4A,trivial⟩)
end Go.Vm.Code
namespace Go.Vm.Code
open Go Go.Vm
def zP:Xag:=⟨⟨0,⟨false,0,0⟩,⟨false,0,0⟩,0,0⟩,0,false,0,0,false,[],0⟩
structure O11 where
 src:Xaa
 dst:Xaa
 proto:Int
 size:Nat
 body:List UInt8
 err:Int
def zO (e:Int):O11:=⟨⟨false,0,0⟩,⟨false,0,0⟩,0,0,[],e⟩
def Xa4 (s:List UInt8):O11:=
 if vK s 0 1/16=4 then (if (XgI s).2.2≠0 then zO (XgI s).2.2 else if s.length≠20+(XgI s).1.Options.length+(XgI s).2.1.length then zO 5 else ⟨(XgI s).1.Src,(XgI s).1.Dst,(XgI s).1.Proto,20+(XgI s).1.Options.length,(XgI s).2.1,0⟩)
 else if vK s 0 1/16=6 then (if (XiT s).2.2≠0 then zO (XiT s).2.2 else if s.length≠40+(XiT s).2.1.length then zO 5 else ⟨(XiT s).1.Src,(XiT s).1.Dst,(XiT s).1.Next,40,(XiT s).2.1,0⟩)
 else zO 3
def XBC (o:List UInt8):Bool×Int×Int:=if 0≤(XjP o).2.2 then (true,(XjP o).1,(XjP o).2.1) else (false,0,0)
def XLs (b:List UInt8):Bool×List UInt8:=if (Xsz b).2=0 then ((Xsz b).1.Long,(Xsz b).1.DCID) else (false,[])
def Xgh (o:O11) (n:Nat):Xag×Nat×Int:=
 if o.proto=6 then (if (Xii o.body o.src o.dst).2.2≠0 then (zP,0,(Xii o.body o.src o.dst).2.2) else
  (⟨⟨o.proto,o.src,o.dst,(Xii o.body o.src o.dst).1.SPort,(Xii o.body o.src o.dst).1.DPort⟩,(Xii o.body o.src o.dst).1.Flags,(XBC (Xii o.body o.src o.dst).1.Options).1,(XBC (Xii o.body o.src o.dst).1.Options).2.1,(XBC (Xii o.body o.src o.dst).1.Options).2.2,false,[],n⟩,(Xii o.body o.src o.dst).2.1.length,0))
 else if o.proto=17 then (if (Xhr o.body o.src o.dst).2.2≠0 then (zP,0,(Xhr o.body o.src o.dst).2.2) else if (Xhr o.body o.src o.dst).2.1.length+8≠o.body.length then (zP,0,5) else
  (⟨⟨o.proto,o.src,o.dst,(Xhr o.body o.src o.dst).1.SPort,(Xhr o.body o.src o.dst).1.DPort⟩,0,false,0,0,(XLs (Xhr o.body o.src o.dst).2.1).1,(XLs (Xhr o.body o.src o.dst).2.1).2,n⟩,(Xhr o.body o.src o.dst).2.1.length,0))
 else (zP,0,6)
def XbN (s:List UInt8):Xag×Nat×Nat×Int:=
 if 9000<s.length then (zP,0,0,5) else if s=[] then (zP,0,0,2) else if (Xa4 s).err≠0 then (zP,0,0,(Xa4 s).err) else
  if (Xgh (Xa4 s) s.length).2.2≠0 then (zP,0,0,(Xgh (Xa4 s) s.length).2.2) else
   ((Xgh (Xa4 s) s.length).1,s.length - (Xa4 s).body.length,s.length - (Xgh (Xa4 s) s.length).2.1,0)
theorem XGF (s:List UInt8):A4 (XgI s).1.Src∧A4 (XgI s).1.Dst:=by
 have z:A4 ⟨false,0,0⟩:=⟨by simp only [];omega,by simp only [];omega,by simp only [];omega,by simp only [];omega⟩
 have k:∀ p,A4 (adr4 s p):=fun p=>by
  have:=Xek s p 4 4294967296 (by decide)
  exact ⟨Int.le_refl 0,by show (0:Int)<2^64;decide,this.1,by show vK s p 4<2^64;omega⟩
 unfold XgI
 split
 ·exact ⟨z,z⟩
 split
 ·exact ⟨z,z⟩
 split
 ·exact ⟨z,z⟩
 split
 ·exact ⟨z,z⟩
 split
 ·exact ⟨z,z⟩
 split
 ·exact ⟨z,z⟩
 split
 ·exact ⟨z,z⟩
 exact ⟨k 12,k 16⟩
theorem XEM (s:List UInt8):A4 (XiT s).1.Src∧A4 (XiT s).1.Dst:=by
 have z:A4 ⟨false,0,0⟩:=⟨by simp only [];omega,by simp only [];omega,by simp only [];omega,by simp only [];omega⟩
 have k:∀ p,A4 (Xsb ((s.drop p).take 16)):=fun p=>by
  have h1:XdZ (((s.drop p).take 16).take 8)<2^64:=XdK _ (by decide)
  have h2:XdZ (((s.drop p).take 16).drop 8)<2^64:=by
   have:=XoV (((s.drop p).take 16).drop 8)
   refine Nat.lt_of_lt_of_le this ?_
   have:(((s.drop p).take 16).drop 8).length≤8:=by simp;omega
   exact Nat.pow_le_pow_right (n:=256) (by decide) this
  unfold Xsb
  exact ⟨by simp only [];omega,by simp only [];omega,by simp only [];omega,by simp only [];omega⟩
 unfold XiT
 split
 ·exact ⟨z,z⟩
 split
 ·exact ⟨z,z⟩
 split
 ·exact ⟨z,z⟩
 exact ⟨k 8,k 24⟩
theorem Xml (s:List UInt8):A4 (Xa4 s).src∧A4 (Xa4 s).dst:=by
 have z:A4 ⟨false,0,0⟩:=⟨by simp only [];omega,by simp only [];omega,by simp only [];omega,by simp only [];omega⟩
 unfold Xa4 zO
 split
 ·split
  ·exact ⟨z,z⟩
  split
  ·exact ⟨z,z⟩
  exact XGF s
 split
 ·split
  ·exact ⟨z,z⟩
  split
  ·exact ⟨z,z⟩
  exact XEM s
 exact ⟨z,z⟩
theorem Xki {s:List UInt8} (h:(Xa4 s).err=0):(Xa4 s).body.length+(Xa4 s).size=s.length:=by
 unfold Xa4 at h ⊢
 by_cases g1:vK s 0 1/16=4
 ·rw [if_pos g1] at h ⊢
  by_cases g2:(XgI s).2.2≠0
  ·rw [if_pos g2] at h;exact absurd h g2
  rw [if_neg g2] at h ⊢
  by_cases g3:s.length≠20+(XgI s).1.Options.length+(XgI s).2.1.length
  ·rw [if_pos g3] at h;exact absurd h (by decide)
  rw [if_neg g3]
  simp only [];omega
 rw [if_neg g1] at h ⊢
 by_cases g4:vK s 0 1/16=6
 ·rw [if_pos g4] at h ⊢
  by_cases g2:(XiT s).2.2≠0
  ·rw [if_pos g2] at h;exact absurd h g2
  rw [if_neg g2] at h ⊢
  by_cases g3:s.length≠40+(XiT s).2.1.length
  ·rw [if_pos g3] at h;exact absurd h (by decide)
  rw [if_neg g3]
  simp only [];omega
 ·rw [if_neg g4] at h;exact absurd h (by decide)
theorem Xp0 {s:List UInt8} (h:(XbN s).2.2.2≠0):XbN s=(zP,0,0,(XbN s).2.2.2):=by
 unfold XbN at h ⊢
 split
 ·rfl
 rename_i g1
 rw [if_neg g1] at h
 split
 ·rfl
 rename_i g2
 rw [if_neg g2] at h
 split
 ·rfl
 rename_i g3
 rw [if_neg g3] at h
 split
 ·rfl
 rename_i g4
 rw [if_neg g4] at h
 exact absurd rfl h
def o11 (o:O11):Xap:=⟨o.src,o.dst,o.proto,o.body⟩
theorem Xtf {s:List UInt8} (hs:s.length<2^19) (hn:s≠[]):XbG s=some (o11 (Xa4 s),(Xa4 s).err):=by
 unfold XbG Xec
 have h0:0<s.length:=List.length_pos_iff.2 hn
 have e0:=XjS (s:=s) (p:=0) h0
 have r0:=Xek s 0 1 256 (by decide)
 rw [List.getElem?_eq_getElem h0,Option.bind_some,←e0,XoP,show ((2:Int)^4)=16 from rfl,g5_eq (by omega),XGC (by omega),Option.bind_some,Option.bind_some]
 unfold Xa4
 by_cases g1:vK s 0 1/16=4
 ·rw [if_pos g1,show (vK s 0 1/16==4)=true by simpa using g1,cond_true]
  by_cases g2:(XgI s).2.2=0
  ·have hb:(XgI s).1.Options.length≤s.length∧(XgI s).2.1.length≤s.length:=by
    unfold XgI
    repeat' split
    all_goals simp [XmB]
    omega
   rw [if_neg (by simpa using g2),show ((XgI s).2.2 !=0)=false by simpa using g2,cond_false,XcC (n:=20+((XgI s).1.Options.length:Int)) (by omega) (by omega)]
   simp only []
   rw [XcC (n:=20+((XgI s).1.Options.length:Int)+((XgI s).2.1.length:Int)) (by omega) (by omega)]
   by_cases g3:s.length=20+(XgI s).1.Options.length+(XgI s).2.1.length
   ·rw [if_neg (by simpa using g3),show ((s.length:Int) !=20+((XgI s).1.Options.length:Int)+((XgI s).2.1.length:Int))=false by simp;omega];rfl
   ·rw [if_pos g3,show ((s.length:Int) !=20+((XgI s).1.Options.length:Int)+((XgI s).2.1.length:Int))=true by simp;omega];rfl
  ·rw [if_pos g2,show ((XgI s).2.2 !=0)=true by simpa using g2,cond_true];rfl
 ·rw [if_neg g1,show (vK s 0 1/16==4)=false by simpa using g1,cond_false]
  by_cases g4:vK s 0 1/16=6
  ·rw [if_pos g4,show (vK s 0 1/16==6)=true by simpa using g4,cond_true]
   by_cases g2:(XiT s).2.2=0
   ·have hb:(XiT s).2.1.length≤s.length:=by
     unfold XiT
     repeat' split
     all_goals simp
     omega
    rw [if_neg (by simpa using g2),show ((XiT s).2.2 !=0)=false by simpa using g2,cond_false,XcC (n:=40+((XiT s).2.1.length:Int)) (by omega) (by omega)]
    by_cases g3:s.length=40+(XiT s).2.1.length
    ·rw [if_neg (by simpa using g3),show ((s.length:Int) !=40+((XiT s).2.1.length:Int))=false by simp;omega];rfl
    ·rw [if_pos g3,show ((s.length:Int) !=40+((XiT s).2.1.length:Int))=true by simp;omega];rfl
   ·rw [if_pos g2,show ((XiT s).2.2 !=0)=true by simpa using g2,cond_true];rfl
  ·rw [if_neg g4,show (vK s 0 1/16==6)=false by simpa using g4,cond_false];rfl
theorem X7g {o:O11} {n:Nat} (h1:A4 o.src) (h2:A4 o.dst) (hb:o.body.length<2^19) (hp:o.proto=6):∃ q,XaQ (o11 o) ⟨⟨o.proto,o.src,o.dst,0,0⟩,0,false,0,0,false,[],(n:Int)⟩=some (((Xgh o n).2.1:Int),(Xgh o n).2.2,q)∧((Xgh o n).2.2=0→q=(Xgh o n).1):=by
 unfold XaQ Xcn Xgh o11
 rw [if_pos hp]
 simp only []
 rw [Xyr h1 h2 (by omega),Option.bind_some]
 by_cases g:(Xii o.body o.src o.dst).2.2=0
 ·have ho:(Xii o.body o.src o.dst).1.Options.length<2^20:=by
   unfold Xii
   repeat' split
   all_goals simp [Xm0]
   all_goals omega
  rw [if_neg (by simpa using g),show ((Xii o.body o.src o.dst).2.2 !=0)=false by simpa using g,cond_false,XKO ho,Option.bind_some]
  unfold XBC
  by_cases g2:0≤(XjP (Xii o.body o.src o.dst).1.Options).2.2
  ·rw [if_pos g2,XaV (by omega)]
   exact ⟨_,rfl,fun _=>rfl⟩
  ·rw [if_neg g2,XaM (by omega)]
   exact ⟨_,rfl,fun _=>rfl⟩
 ·rw [if_pos g,show ((Xii o.body o.src o.dst).2.2 !=0)=true by simpa using g,cond_true]
  exact ⟨_,rfl,fun h=>absurd h g⟩
theorem XVl {o:O11} {n:Nat} (h1:A4 o.src) (h2:A4 o.dst) (hb:o.body.length<2^19) (hp:o.proto=17):∃ q,XaI (o11 o) ⟨⟨o.proto,o.src,o.dst,0,0⟩,0,false,0,0,false,[],(n:Int)⟩=some (((Xgh o n).2.1:Int),(Xgh o n).2.2,q)∧((Xgh o n).2.2=0→q=(Xgh o n).1):=by
 unfold XaI Xb5 Xgh o11
 rw [if_neg (by omega),if_pos hp]
 simp only []
 rw [XGH h1 h2 (by omega),Option.bind_some]
 by_cases g:(Xhr o.body o.src o.dst).2.2=0
 ·have ho:(Xhr o.body o.src o.dst).2.1.length<2^20:=by
   unfold Xhr
   repeat' split
   all_goals simp
   all_goals omega
  rw [if_neg (by simpa using g),show ((Xhr o.body o.src o.dst).2.2 !=0)=false by simpa using g,cond_false,XcC (n:=(o.body.length:Int) - 8) (by omega) (by omega)]
  by_cases g2:(Xhr o.body o.src o.dst).2.1.length+8=o.body.length
  ·rw [if_neg (by simpa using g2),show (((Xhr o.body o.src o.dst).2.1.length:Int) !=(o.body.length:Int) - 8)=false by simp;omega,cond_false,XxH (by omega),Option.bind_some]
   unfold XLs
   by_cases g3:(Xsz (Xhr o.body o.src o.dst).2.1).2=0
   ·rw [if_pos g3,show ((Xsz (Xhr o.body o.src o.dst).2.1).2==0)=true by simpa using g3,cond_true]
    exact ⟨_,rfl,fun _=>rfl⟩
   ·rw [if_neg g3,show ((Xsz (Xhr o.body o.src o.dst).2.1).2==0)=false by simpa using g3,cond_false]
    exact ⟨_,rfl,fun _=>rfl⟩
  ·rw [if_pos g2,show (((Xhr o.body o.src o.dst).2.1.length:Int) !=(o.body.length:Int) - 8)=true by simp;omega,cond_true]
   exact ⟨_,rfl,fun h=>absurd h (by decide)⟩
 ·rw [if_pos g,show ((Xhr o.body o.src o.dst).2.2 !=0)=true by simpa using g,cond_true]
  exact ⟨_,rfl,fun h=>absurd h g⟩
def Xi1 (s:List UInt8):Xag×Int×Int×Int:=
 if (XbN s).2.2.2≠0 then (zP,0,0,(XbN s).2.2.2) else ((XbN s).1,((s.length - (XbN s).2.1:Nat):Int),((s.length - (XbN s).2.2.1:Nat):Int),0)
theorem Xwn {o:O11} {n:Nat}:(Xgh o n).2.1≤o.body.length:=by
 unfold Xgh
 split
 ·split
  ·simp
  ·show (Xii o.body o.src o.dst).2.1.length≤_
   unfold Xii
   repeat' split
   all_goals simp
 split
 ·split
  ·simp
  split
  ·simp
  ·show (Xhr o.body o.src o.dst).2.1.length≤_
   unfold Xhr
   repeat' split
   all_goals simp
   all_goals omega
 ·simp
theorem Xyh {s:List UInt8} (hs:s.length<2^19):XbY s=some (Xi1 s):=by
 unfold XbY Xfk
 have hz:(⟨⟨0,⟨false,0,0⟩,⟨false,0,0⟩,0,0⟩,0,false,0,0,false,[],0⟩:Xag)=zP:=rfl
 rw [hz]
 by_cases g1:9000<s.length
 ·have hT:XbN s=(zP,0,0,5):=by unfold XbN;rw [if_pos g1]
  unfold Xi1
  rw [XaV (by omega),hT];rfl
 rw [XaM (by omega)]
 by_cases g2:s=[]
 ·subst g2;rfl
 rw [show (s==[])=false by simpa using g2,cond_false,Xtf hs g2,Option.bind_some]
 obtain ⟨a1,a2⟩:=Xml s
 by_cases g3:(Xa4 s).err=0
 ·have hb:=Xki g3
  have hil:=Xwn (o:=Xa4 s) (n:=s.length)
  have hE:(Xgh (Xa4 s) s.length).2.2≠0→Xi1 s=(zP,0,0,(Xgh (Xa4 s) s.length).2.2):=fun g4=>by
   have hT:XbN s=(zP,0,0,(Xgh (Xa4 s) s.length).2.2):=by unfold XbN;rw [if_neg g1,if_neg g2,if_neg (by simpa using g3),if_pos g4]
   unfold Xi1
   rw [hT,if_pos g4]
  have hO:(Xgh (Xa4 s) s.length).2.2=0→Xi1 s=((Xgh (Xa4 s) s.length).1,((Xa4 s).body.length:Int),((Xgh (Xa4 s) s.length).2.1:Int),0):=fun g4=>by
   have hT:XbN s=((Xgh (Xa4 s) s.length).1,s.length - (Xa4 s).body.length,s.length - (Xgh (Xa4 s) s.length).2.1,0):=by unfold XbN;rw [if_neg g1,if_neg g2,if_neg (by simpa using g3),if_neg (by simpa using g4)]
   unfold Xi1
   rw [hT,if_neg (by simp)]
   simp only []
   rw [show s.length - (s.length - (Xa4 s).body.length)=(Xa4 s).body.length by omega,show s.length - (s.length - (Xgh (Xa4 s) s.length).2.1)=(Xgh (Xa4 s) s.length).2.1 by omega]
  simp only [g3,bne_self_eq_false,cond_false]
  by_cases p6:(Xa4 s).proto=6
  ·obtain ⟨q,q1,q2⟩:=X7g (o:=Xa4 s) (n:=s.length) a1 a2 (by omega) p6
   have e6:((o11 (Xa4 s)).proto==6)=true:=by show ((Xa4 s).proto==6)=true;simpa using p6
   rw [e6,cond_true]
   show (XaQ (o11 (Xa4 s)) ⟨⟨(Xa4 s).proto,(Xa4 s).src,(Xa4 s).dst,0,0⟩,0,false,0,0,false,[],(s.length:Int)⟩).bind _=_
   rw [q1,Option.bind_some]
   simp only []
   by_cases g4:(Xgh (Xa4 s) s.length).2.2=0
   ·rw [hO g4,g4,q2 g4];rfl
   ·rw [hE g4,show ((Xgh (Xa4 s) s.length).2.2 !=0)=true by simpa using g4];rfl
  ·have e6:((o11 (Xa4 s)).proto==6)=false:=by show ((Xa4 s).proto==6)=false;simpa using p6
   rw [e6,cond_false]
   by_cases p17:(Xa4 s).proto=17
   ·obtain ⟨q,q1,q2⟩:=XVl (o:=Xa4 s) (n:=s.length) a1 a2 (by omega) p17
    have e17:((o11 (Xa4 s)).proto==17)=true:=by show ((Xa4 s).proto==17)=true;simpa using p17
    rw [e17,cond_true]
    show (XaI (o11 (Xa4 s)) ⟨⟨(Xa4 s).proto,(Xa4 s).src,(Xa4 s).dst,0,0⟩,0,false,0,0,false,[],(s.length:Int)⟩).bind _=_
    rw [q1,Option.bind_some]
    simp only []
    by_cases g4:(Xgh (Xa4 s) s.length).2.2=0
    ·rw [hO g4,g4,q2 g4];rfl
    ·rw [hE g4,show ((Xgh (Xa4 s) s.length).2.2 !=0)=true by simpa using g4];rfl
   ·have e17:((o11 (Xa4 s)).proto==17)=false:=by show ((Xa4 s).proto==17)=false;simpa using p17
    have e6':(Xgh (Xa4 s) s.length).2.2=6:=by unfold Xgh;rw [if_neg p6,if_neg p17]
    rw [e17,cond_false,hE (by rw [e6'];decide),e6']
 ·have hT:XbN s=(zP,0,0,(Xa4 s).err):=by unfold XbN;rw [if_neg g1,if_neg g2,if_pos g3]
  unfold Xi1
  rw [hT,if_pos g3,show ((Xa4 s).err !=0)=true by simpa using g3];rfl
theorem Xw3 {s:List UInt8} (hs:s.length<2^19):XbR s=some ((XbN s).1,(XbN s).2.2.2):=by
 unfold XbR XeQ
 rw [Xyh hs,Option.bind_some]
 unfold Xi1
 by_cases g:(XbN s).2.2.2=0
 ·rw [if_neg (by simpa using g),g]
 ·rw [if_pos g,Xp0 g]
end Go.Vm.Code
namespace Go.Vm.Code
open Go Go.Vm Go.Proofs
set_option maxRecDepth 100000
set_option maxHeartbeats 4000000
set_option linter.unusedVariables false
def XhZ (Xew:(List UInt8)→Option (Xah×(List UInt8)×Int)) (XeE:(List UInt8)→Option (Xaj×(List UInt8)×Int)) (s:List UInt8):Option (Xb9×Int):=
 (s[0]?).bind fun (b:UInt8)=>
 cond ((wI .u8 ((b.toNat:Int).tdiv 16))==4)
  (
  (Xew s).bind fun xg=>
  let t:=wI .i64 (20+(xg.1.Options.length:Int))
  some ((Xb9.mk xg.1.Src xg.1.Dst xg.1.Proto t xg.2.1,xg.2.2)))
  (
  (s[0]?).bind fun (b1:UInt8)=>
  cond ((wI .u8 ((b1.toNat:Int).tdiv 16))==6)
   (
   (XeE s).bind fun xg1=>
   some ((Xb9.mk xg1.1.Src xg1.1.Dst xg1.1.Next 40 xg1.2.1,xg1.2.2)))
   (
   some ((Xb9.mk (Xaa.mk false 0 0) (Xaa.mk false 0 0) 0 0 [],3))))
def rx56 (x:Xb9×Int):Xco:=⟨.tuple ⟨[.agg ⟨[.bool x.1.src.V6,.int .u64 x.1.src.Hi,.int .u64 x.1.src.Lo,.bool x.1.dst.V6,.int .u64 x.1.dst.Hi,.int .u64 x.1.dst.Lo,.int .i64 x.1.proto,.int .i64 x.1.size,.string ⟨⟨x.1.body⟩⟩]⟩,.int .i64 x.2]⟩,[],[]⟩
def r56 (g:(List UInt8)→Option (Xb9×Int)):Dec:=dV asS fun (y0:List UInt8)=>Xc5 (ofG (g y0) rx56)
theorem r56_c {g:(List UInt8)→Option (Xb9×Int)} {y0:List UInt8} {x:Xb9×Int} (hx:g y0=some x):r56 g [.string ⟨⟨y0⟩⟩] []=some (rx56 x):=(XaS (XdL)).trans (XaZ hx)
def s56 (g:(List UInt8)→Option (Xb9×Int)):Xbp:=⟨[.v],r56 g⟩
theorem XU6 {g:(List UInt8)→Option (Xb9×Int)} {y0:List UInt8} {x:Xb9×Int} (hx:g y0=some x):(s56 g).run [.string ⟨⟨y0⟩⟩] []=some (rx56 x):=r56_c hx
abbrev XAw (Xew:(List UInt8)→Option (Xah×(List UInt8)×Int)) (XeE:(List UInt8)→Option (Xaj×(List UInt8)×Int)):List (Nat×Xbp):=[(98,s98 Xew),(99,s99 XeE)]
theorem XCt (Xew:(List UInt8)→Option (Xah×(List UInt8)×Int)) (XeE:(List UInt8)→Option (Xaj×(List UInt8)×Int)) (hS:Xai Tryz.prog (Xar (XAw Xew XeE))) (s:List UInt8) (res:Xb9×Int) (h:XhZ Xew XeE s=some res) :
 XaD Tryz.prog 56 0 ⟨⟨56,53,[(0,.string ⟨⟨s⟩⟩)],[.code XAH],[],false,none⟩,[],[],0⟩ (fun v H _=>Res 0 (rx56 res) v H):=by
 unfold XhZ at h
 refine Xa9 Xam hS true 3000 ?_
 conv=>whnf
 replace h:=Xak.elim h;obtain ⟨b,hy,h⟩:=h
 refine rdS.intro hy ?_
 conv=>whnf
 refine br.h h ?_ ?_ ?_
 ·rfl
 ·clear h;intro hb h;conv=>whnf
  replace h:=Xak.elim h;obtain ⟨xg,hy,h⟩:=h
  refine XaH.q rfl rfl (XOI hy) rfl rfl rfl ?_
  conv=>whnf
  let t:Int:=wI .i64 (20+(xg.1.Options.length:Int))
  all_goals (cases h;exact Res.z rfl rfl rfl)
 clear h;intro hb h;conv=>whnf
 replace h:=Xak.elim h;obtain ⟨b1,hy,h⟩:=h
 refine rdS.intro hy ?_
 conv=>whnf
 refine br.h2 h ?_ ?_ ?_
 ·rfl
 ·clear h;intro hb h;conv=>whnf
  all_goals (cases h;exact Res.z rfl rfl rfl)
 clear h;intro hb h;conv=>whnf
 replace h:=Xak.elim h;obtain ⟨xg1,hy,h⟩:=h
 refine XaH.q rfl rfl (XUU hy) rfl rfl rfl ?_
 conv=>whnf
 all_goals (cases h;exact Res.z rfl rfl rfl)
theorem ok56 (Xew:(List UInt8)→Option (Xah×(List UInt8)×Int)) (XeE:(List UInt8)→Option (Xaj×(List UInt8)×Int)) (hS:Xai Tryz.prog (Xar (XAw Xew XeE))):Xan Tryz.prog 56 (s56 (XhZ Xew XeE)):=by
 refine Xan.Xau Xam (fun ar os r ha hr=>?_) ⟨Tryz.f56,rfl,by decide,rfl⟩
 replace hr:r56 (XhZ Xew XeE) ar (XaA os)=some r:=hr
 unfold r56 at hr
 generalize hc:XaA os=C at hr
 replace hr:=dV.elim hr;obtain ⟨v0,l1,y0,rfl,e0,hr⟩:=hr;obtain rfl:=Xb8 _ _ e0
 replace hr:=Xdg hr;obtain ⟨rfl,rfl,x,h,rfl⟩:=hr
 obtain rfl:=Xao hc
 exact ⟨_,rfl,XCt Xew XeE hS _ x h⟩
def Xdy:(List UInt8)→Option (Xb9×Int):=XhZ Xew XeE
theorem XXv:Xan Tryz.prog 56 (s56 Xdy):=ok56 Xew XeE (Xai.XaW ⟨XYB,XNF,trivial⟩)
def Xid (XeI:(List UInt8)→Xaa→Xaa→Option (XaF×(List UInt8)×Int)) (XcU:(List UInt8)→Option (Int×Int×Int)) (XeG:(List UInt8)→Xaa→Xaa→Option (XaC×(List UInt8)×Int)) (XeH:(List UInt8)→Option (XaR×Int)) (Xdy:(List UInt8)→Option (Xb9×Int)) (s:List UInt8):Option (Xag×Int×Int×Int):=
 cond (decide ((s.length:Int)>9000))
  (
  some ((Xag.mk (Xbt.mk 0 (Xaa.mk false 0 0) (Xaa.mk false 0 0) 0 0) 0 false 0 0 false [] 0,0,0,5)))
  (
  cond (s==[])
   (
   some ((Xag.mk (Xbt.mk 0 (Xaa.mk false 0 0) (Xaa.mk false 0 0) 0 0) 0 false 0 0 false [] 0,0,0,2)))
   (
   (Xdy s).bind fun xr=>
   cond (xr.2 !=0)
    (
    some ((Xag.mk (Xbt.mk 0 (Xaa.mk false 0 0) (Xaa.mk false 0 0) 0 0) 0 false 0 0 false [] 0,0,0,xr.2)))
    (
    let t:=wI .i64 (xr.1.size+(xr.1.body.length:Int))
    cond (t !=(s.length:Int))
     (
     some ((Xag.mk (Xbt.mk 0 (Xaa.mk false 0 0) (Xaa.mk false 0 0) 0 0) 0 false 0 0 false [] 0,0,0,5)))
     (
     cond (xr.1.proto==6)
      (
      (XeI xr.1.body xr.1.src xr.1.dst).bind fun xg=>
      cond (xg.2.2 !=0)
       (
       some ((Xag.mk (Xbt.mk 0 (Xaa.mk false 0 0) (Xaa.mk false 0 0) 0 0) 0 false 0 0 false [] 0,0,0,xg.2.2)))
       (
       (XcU xg.1.Options).bind fun s1=>
       cond (decide (s1.2.2≥0))
        (
        let t1:=wI .i64 ((wI .i64 (xr.1.size+20))+(xg.1.Options.length:Int))
        some ((Xag.mk (Xbt.mk xr.1.proto xr.1.src xr.1.dst xg.1.SPort xg.1.DPort) xg.1.Flags true s1.1 s1.2.1 false [] (s.length:Int),xr.1.size,t1,0)))
        (
        let t2:=wI .i64 ((wI .i64 (xr.1.size+20))+(xg.1.Options.length:Int))
        some ((Xag.mk (Xbt.mk xr.1.proto xr.1.src xr.1.dst xg.1.SPort xg.1.DPort) xg.1.Flags false 0 0 false [] (s.length:Int),xr.1.size,t2,0)))))
      (
      cond (xr.1.proto !=17)
       (
       some ((Xag.mk (Xbt.mk 0 (Xaa.mk false 0 0) (Xaa.mk false 0 0) 0 0) 0 false 0 0 false [] 0,0,0,6)))
       (
       (XeG xr.1.body xr.1.src xr.1.dst).bind fun xg1=>
       cond (xg1.2.2 !=0)
        (
        some ((Xag.mk (Xbt.mk 0 (Xaa.mk false 0 0) (Xaa.mk false 0 0) 0 0) 0 false 0 0 false [] 0,0,0,xg1.2.2)))
        (
        let t3:=(wI .i64 ((xg1.2.1.length:Int)+8)) !=(xr.1.body.length:Int)
        cond (t3)
         (
         some ((Xag.mk (Xbt.mk 0 (Xaa.mk false 0 0) (Xaa.mk false 0 0) 0 0) 0 false 0 0 false [] 0,0,0,5)))
         (
         (XeH xg1.2.1).bind fun xg2=>
         cond (xg2.2==0)
          (
          some ((Xag.mk (Xbt.mk xr.1.proto xr.1.src xr.1.dst xg1.1.SPort xg1.1.DPort) 0 false 0 0 xg2.1.Long xg2.1.DCID (s.length:Int),xr.1.size,wI .i64 (xr.1.size+8),0)))
          (
          some ((Xag.mk (Xbt.mk xr.1.proto xr.1.src xr.1.dst xg1.1.SPort xg1.1.DPort) 0 false 0 0 false [] (s.length:Int),xr.1.size,wI .i64 (xr.1.size+8),0)))))))))))
def rx31 (x:Xag×Int×Int×Int):Xco:=⟨.tuple ⟨[.agg ⟨[.int .i64 x.1.Tuple.Proto,.bool x.1.Tuple.Src.V6,.int .u64 x.1.Tuple.Src.Hi,.int .u64 x.1.Tuple.Src.Lo,.bool x.1.Tuple.Dst.V6,.int .u64 x.1.Tuple.Dst.Hi,.int .u64 x.1.Tuple.Dst.Lo,.int .i64 x.1.Tuple.SPort,.int .i64 x.1.Tuple.DPort,.int .i64 x.1.Flags,.bool x.1.Stamped,.int .u32 x.1.Val,.int .u32 x.1.Echo,.bool x.1.Long,.string ⟨⟨x.1.CID⟩⟩,.int .i64 x.1.Size]⟩,.int .i64 x.2.1,.int .i64 x.2.2.1,.int .i64 x.2.2.2]⟩,[],[]⟩
def r31 (g:(List UInt8)→Option (Xag×Int×Int×Int)):Dec:=dV asS fun (y0:List UInt8)=>Xc5 (ofG (g y0) rx31)
theorem r31_c {g:(List UInt8)→Option (Xag×Int×Int×Int)} {y0:List UInt8} {x:Xag×Int×Int×Int} (hx:g y0=some x):r31 g [.string ⟨⟨y0⟩⟩] []=some (rx31 x):=(XaS (XdL)).trans (XaZ hx)
def s31 (g:(List UInt8)→Option (Xag×Int×Int×Int)):Xbp:=⟨[.v],r31 g⟩
theorem XVf {g:(List UInt8)→Option (Xag×Int×Int×Int)} {y0:List UInt8} {x:Xag×Int×Int×Int} (hx:g y0=some x):(s31 g).run [.string ⟨⟨y0⟩⟩] []=some (rx31 x):=r31_c hx
abbrev XzA (XeI:(List UInt8)→Xaa→Xaa→Option (XaF×(List UInt8)×Int)) (XcU:(List UInt8)→Option (Int×Int×Int)) (XeG:(List UInt8)→Xaa→Xaa→Option (XaC×(List UInt8)×Int)) (XeH:(List UInt8)→Option (XaR×Int)) (Xdy:(List UInt8)→Option (Xb9×Int)):List (Nat×Xbp):=[(57,s57 XeI),(58,s58 XcU),(59,s59 XeG),(21,s21 XeH),(56,s56 Xdy)]
theorem XFX (XeI:(List UInt8)→Xaa→Xaa→Option (XaF×(List UInt8)×Int)) (XcU:(List UInt8)→Option (Int×Int×Int)) (XeG:(List UInt8)→Xaa→Xaa→Option (XaC×(List UInt8)×Int)) (XeH:(List UInt8)→Option (XaR×Int)) (Xdy:(List UInt8)→Option (Xb9×Int)) (hS:Xai Tryz.prog (Xar (XzA XeI XcU XeG XeH Xdy))) (s:List UInt8) (res:Xag×Int×Int×Int) (h:Xid XeI XcU XeG XeH Xdy s=some res) :
 XaD Tryz.prog 31 0 ⟨⟨31,161,[(0,.string ⟨⟨s⟩⟩)],[.code XzU],[],false,none⟩,[],[],0⟩ (fun v H _=>Res 0 (rx31 res) v H):=by
 unfold Xid at h
 refine Xa9 Xam hS true 3000 ?_
 conv=>whnf
 refine br.h h ?_ ?_ ?_
 ·rfl
 ·clear h;intro hb h;conv=>whnf
  all_goals (cases h;exact Res.z rfl rfl rfl)
 clear h;intro hb h;conv=>whnf
 refine br.h h ?_ ?_ ?_
 ·rfl
 ·clear h;intro hb h;conv=>whnf
  all_goals (cases h;exact Res.z rfl rfl rfl)
 clear h;intro hb h;conv=>whnf
 replace h:=Xak.elim h;obtain ⟨xr,hy,h⟩:=h
 refine XaH.q rfl rfl (XU6 hy) rfl rfl rfl ?_
 conv=>whnf
 refine br.h h ?_ ?_ ?_
 ·rfl
 ·clear h;intro hb h;conv=>whnf
  all_goals (cases h;exact Res.z rfl rfl rfl)
 clear h;intro hb h;conv=>whnf
 let t:Int:=wI .i64 (xr.1.size+(xr.1.body.length:Int))
 refine br.h h ?_ ?_ ?_
 ·rfl
 ·clear h;intro hb h;conv=>whnf
  all_goals (cases h;exact Res.z rfl rfl rfl)
 clear h;intro hb h;conv=>whnf
 refine br.h h ?_ ?_ ?_
 ·rfl
 ·clear h;intro hb h;conv=>whnf
  replace h:=Xak.elim h;obtain ⟨xg,hy,h⟩:=h
  refine XaH.q rfl rfl (X1d hy) rfl rfl rfl ?_
  conv=>whnf
  refine br.h h ?_ ?_ ?_
  ·rfl
  ·clear h;intro hb h;conv=>whnf
   all_goals (cases h;exact Res.z rfl rfl rfl)
  clear h;intro hb h;conv=>whnf
  replace h:=Xak.elim h;obtain ⟨s1,hy,h⟩:=h
  refine XaH.q rfl rfl (X0M hy) rfl rfl rfl ?_
  conv=>whnf
  refine br.h h ?_ ?_ ?_
  ·rfl
  ·clear h;intro hb h;conv=>whnf
   let t1:Int:=wI .i64 ((wI .i64 (xr.1.size+20))+(xg.1.Options.length:Int))
   all_goals (cases h;exact Res.z rfl rfl rfl)
  clear h;intro hb h;conv=>whnf
  let t2:Int:=wI .i64 ((wI .i64 (xr.1.size+20))+(xg.1.Options.length:Int))
  all_goals (cases h;exact Res.z rfl rfl rfl)
 clear h;intro hb h;conv=>whnf
 refine br.h h ?_ ?_ ?_
 ·rfl
 ·clear h;intro hb h;conv=>whnf
  all_goals (cases h;exact Res.z rfl rfl rfl)
 clear h;intro hb h;conv=>whnf
 replace h:=Xak.elim h;obtain ⟨xg1,hy,h⟩:=h
 refine XaH.q rfl rfl (X4E hy) rfl rfl rfl ?_
 conv=>whnf
 refine br.h h ?_ ?_ ?_
 ·rfl
 ·clear h;intro hb h;conv=>whnf
  all_goals (cases h;exact Res.z rfl rfl rfl)
 clear h;intro hb h;conv=>whnf
 let t3:Bool:=(wI .i64 ((xg1.2.1.length:Int)+8)) !=(xr.1.body.length:Int)
 refine br.h h ?_ ?_ ?_
 ·rfl
 ·clear h;intro hb h;conv=>whnf
  all_goals (cases h;exact Res.z rfl rfl rfl)
 clear h;intro hb h;conv=>whnf
 replace h:=Xak.elim h;obtain ⟨xg2,hy,h⟩:=h
 refine XaH.q rfl rfl (X5k hy) rfl rfl rfl ?_
 conv=>whnf
 refine br.h h ?_ ?_ ?_
 ·rfl
 ·clear h;intro hb h;conv=>whnf
  all_goals (cases h;exact Res.z rfl rfl rfl)
 clear h;intro hb h;conv=>whnf
 all_goals (cases h;exact Res.z rfl rfl rfl)
theorem ok31 (XeI:(List UInt8)→Xaa→Xaa→Option (XaF×(List UInt8)×Int)) (XcU:(List UInt8)→Option (Int×Int×Int)) (XeG:(List UInt8)→Xaa→Xaa→Option (XaC×(List UInt8)×Int)) (XeH:(List UInt8)→Option (XaR×Int)) (Xdy:(List UInt8)→Option (Xb9×Int)) (hS:Xai Tryz.prog (Xar (XzA XeI XcU XeG XeH Xdy))):Xan Tryz.prog 31 (s31 (Xid XeI XcU XeG XeH Xdy)):=by
 refine Xan.Xau Xam (fun ar os r ha hr=>?_) ⟨Tryz.f31,rfl,by decide,rfl⟩
 replace hr:r31 (Xid XeI XcU XeG XeH Xdy) ar (XaA os)=some r:=hr
 unfold r31 at hr
 generalize hc:XaA os=C at hr
 replace hr:=dV.elim hr;obtain ⟨v0,l1,y0,rfl,e0,hr⟩:=hr;obtain rfl:=Xb8 _ _ e0
 replace hr:=Xdg hr;obtain ⟨rfl,rfl,x,h,rfl⟩:=hr
 obtain rfl:=Xao hc
 exact ⟨_,rfl,XFX XeI XcU XeG XeH Xdy hS _ x h⟩
def XdI:(List UInt8)→Option (Xag×Int×Int×Int):=Xid XeI XcU XeG XeH Xdy
theorem XW7:Xan Tryz.prog 31 (s31 XdI):=ok31 XeI XcU XeG XeH Xdy (Xai.XaW ⟨XXy,X3A,XWv,X3n,XXv,trivial⟩)
def XgT (XdI:(List UInt8)→Option (Xag×Int×Int×Int)) (s:List UInt8):Option (Xag×Int):=
 (XdI s).bind fun t=>
 some ((t.1,t.2.2.2))
def rx15 (x:Xag×Int):Xco:=⟨.tuple ⟨[.agg ⟨[.int .i64 x.1.Tuple.Proto,.bool x.1.Tuple.Src.V6,.int .u64 x.1.Tuple.Src.Hi,.int .u64 x.1.Tuple.Src.Lo,.bool x.1.Tuple.Dst.V6,.int .u64 x.1.Tuple.Dst.Hi,.int .u64 x.1.Tuple.Dst.Lo,.int .i64 x.1.Tuple.SPort,.int .i64 x.1.Tuple.DPort,.int .i64 x.1.Flags,.bool x.1.Stamped,.int .u32 x.1.Val,.int .u32 x.1.Echo,.bool x.1.Long,.string ⟨⟨x.1.CID⟩⟩,.int .i64 x.1.Size]⟩,.int .i64 x.2]⟩,[],[]⟩
def r15 (g:(List UInt8)→Option (Xag×Int)):Dec:=dV asS fun (y0:List UInt8)=>Xc5 (ofG (g y0) rx15)
theorem r15_c {g:(List UInt8)→Option (Xag×Int)} {y0:List UInt8} {x:Xag×Int} (hx:g y0=some x):r15 g [.string ⟨⟨y0⟩⟩] []=some (rx15 x):=(XaS (XdL)).trans (XaZ hx)
def s15 (g:(List UInt8)→Option (Xag×Int)):Xbp:=⟨[.v],r15 g⟩
theorem XMn {g:(List UInt8)→Option (Xag×Int)} {y0:List UInt8} {x:Xag×Int} (hx:g y0=some x):(s15 g).run [.string ⟨⟨y0⟩⟩] []=some (rx15 x):=r15_c hx
abbrev XB1 (XdI:(List UInt8)→Option (Xag×Int×Int×Int)):List (Nat×Xbp):=[(31,s31 XdI)]
theorem XDC (XdI:(List UInt8)→Option (Xag×Int×Int×Int)) (hS:Xai Tryz.prog (Xar (XB1 XdI))) (s:List UInt8) (res:Xag×Int) (h:XgT XdI s=some res) :
 XaD Tryz.prog 15 0 ⟨⟨15,17,[(0,.string ⟨⟨s⟩⟩)],[.code XPp],[],false,none⟩,[],[],0⟩ (fun v H _=>Res 0 (rx15 res) v H):=by
 unfold XgT at h
 refine Xa9 Xam hS true 3000 ?_
 conv=>whnf
 replace h:=Xak.elim h;obtain ⟨t,hy,h⟩:=h
 refine XaH.q rfl rfl (XVf hy) rfl rfl rfl ?_
 conv=>whnf
 all_goals (cases h;exact Res.z rfl rfl rfl)
theorem ok15 (XdI:(List UInt8)→Option (Xag×Int×Int×Int)) (hS:Xai Tryz.prog (Xar (XB1 XdI))):Xan Tryz.prog 15 (s15 (XgT XdI)):=by
 refine Xan.Xau Xam (fun ar os r ha hr=>?_) ⟨Tryz.f15,rfl,by decide,rfl⟩
 replace hr:r15 (XgT XdI) ar (XaA os)=some r:=hr
 unfold r15 at hr
 generalize hc:XaA os=C at hr
 replace hr:=dV.elim hr;obtain ⟨v0,l1,y0,rfl,e0,hr⟩:=hr;obtain rfl:=Xb8 _ _ e0
 replace hr:=Xdg hr;obtain ⟨rfl,rfl,x,h,rfl⟩:=hr
 obtain rfl:=Xao hc
 exact ⟨_,rfl,XDC XdI hS _ x h⟩
def XcR:(List UInt8)→Option (Xag×Int):=XgT XdI
theorem XSj:Xan Tryz.prog 15 (s15 XcR):=ok15 XdI (Xai.XaW ⟨XW7,trivial⟩)
end Go.Vm.Code
namespace Go.Vm.Code
open Go Go.Vm
def Xkk (s:List UInt8):Xb9×Int:=
 if vK s 0 1/16=4 then (⟨(XgI s).1.Src,(XgI s).1.Dst,(XgI s).1.Proto,20+((XgI s).1.Options.length:Int),(XgI s).2.1⟩,(XgI s).2.2)
 else if vK s 0 1/16=6 then (⟨(XiT s).1.Src,(XiT s).1.Dst,(XiT s).1.Next,40,(XiT s).2.1⟩,(XiT s).2.2)
 else (⟨⟨false,0,0⟩,⟨false,0,0⟩,0,0,[]⟩,3)
theorem XqP (s:List UInt8):(XgI s).1.Options.length≤s.length∧(XgI s).2.1.length≤s.length:=by
 unfold XgI
 repeat' split
 all_goals simp [XmB]
 omega
theorem XyT (s:List UInt8):(XiT s).2.1.length≤s.length:=by
 unfold XiT
 repeat' split
 all_goals simp
 omega
theorem XEl {s:List UInt8} (hs:s.length<2^19) (hn:s≠[]):Xdy s=some (Xkk s):=by
 unfold Xdy XhZ Xkk
 have h0:0<s.length:=List.length_pos_iff.2 hn
 have e0:=XjS (s:=s) (p:=0) h0
 have r0:=Xek s 0 1 256 (by decide)
 obtain ⟨b1,b2⟩:=XqP s
 rw [List.getElem?_eq_getElem h0,Option.bind_some,←e0,Int.tdiv_eq_ediv_of_nonneg (by omega),wU8 (by omega) (by omega),X1o (by omega),XwA (by omega),Option.bind_some,Option.bind_some]
 by_cases g1:vK s 0 1/16=4
 ·rw [if_pos g1,show (vK s 0 1/16==4)=true by simpa using g1,cond_true]
  rw [XcC (n:=20+((XgI s).1.Options.length:Int)) (by omega) (by omega)]
 ·rw [if_neg g1,show (vK s 0 1/16==4)=false by simpa using g1,cond_false,Option.bind_some,←e0,Int.tdiv_eq_ediv_of_nonneg (by omega),wU8 (by omega) (by omega)]
  by_cases g4:vK s 0 1/16=6
  ·rw [if_pos g4,show (vK s 0 1/16==6)=true by simpa using g4,cond_true]
  ·rw [if_neg g4,show (vK s 0 1/16==6)=false by simpa using g4,cond_false]
theorem Xyj {s:List UInt8} (h:(Xkk s).2≠0):(Xa4 s).err=(Xkk s).2:=by
 unfold Xkk Xa4 at *
 split
 ·rename_i g;rw [if_pos g] at h;rw [if_pos h];rfl
 ·rename_i g;rw [if_neg g] at h
  split
  ·rename_i g2;rw [if_pos g2] at h;rw [if_pos h];rfl
  ·rfl
theorem XsT {s:List UInt8} (h:(Xkk s).2=0) (h2:(Xkk s).1.size+((Xkk s).1.body.length:Int)≠(s.length:Int)):(Xa4 s).err=5:=by
 unfold Xkk Xa4 at *
 split
 ·rename_i g;rw [if_pos g] at h h2;rw [if_neg (by simpa using h),if_pos (by simp only [] at h2;omega)];rfl
 ·rename_i g;rw [if_neg g] at h h2
  split
  ·rename_i g2;rw [if_pos g2] at h h2;rw [if_neg (by simpa using h),if_pos (by simp only [] at h2;omega)];rfl
  ·rename_i g2;rw [if_neg g2] at h;exact absurd h (by decide)
theorem XJS {s:List UInt8} (h:(Xkk s).2=0) (h2:(Xkk s).1.size+((Xkk s).1.body.length:Int)=(s.length:Int)):(Xa4 s).err=0∧(Xkk s).1=⟨(Xa4 s).src,(Xa4 s).dst,(Xa4 s).proto,((Xa4 s).size:Int),(Xa4 s).body⟩:=by
 unfold Xkk Xa4 at *
 by_cases g:vK s 0 1/16=4
 ·rw [if_pos g] at h h2;rw [if_pos g,if_pos g,if_neg (by simpa using h),if_neg (by simp only [] at h2;omega)];exact ⟨rfl,rfl⟩
 ·rw [if_neg g] at h h2
  by_cases g2:vK s 0 1/16=6
  ·rw [if_pos g2] at h h2;rw [if_neg g,if_neg g,if_pos g2,if_pos g2,if_neg (by simpa using h),if_neg (by simp only [] at h2;omega)];exact ⟨rfl,rfl⟩
  ·rw [if_neg g2] at h;exact absurd h (by decide)
theorem XrF {b:List UInt8} {src dst:Xaa} (h:(Xii b src dst).2.2=0):20+(Xii b src dst).1.Options.length+(Xii b src dst).2.1.length=b.length:=by
 have r:=Xek b 12 1 256 (by decide)
 unfold Xii at h ⊢
 by_cases g0:b.length<20
 ·rw [if_pos g0] at h;exact absurd h (by decide)
 by_cases g1:4*(vK b 12 1/16)<20
 ·rw [if_neg g0,if_pos g1] at h;exact absurd h (by decide)
 by_cases g2:vK b 12 1%16≠0
 ·rw [if_neg g0,if_neg g1,if_pos g2] at h;exact absurd h (by decide)
 by_cases g3:(b.length:Int)<4*(vK b 12 1/16)
 ·rw [if_neg g0,if_neg g1,if_neg g2,if_pos g3] at h;exact absurd h (by decide)
 by_cases g4:Xnn src dst 6 b.length=[]
 ·rw [if_neg g0,if_neg g1,if_neg g2,if_neg g3,if_pos g4] at h;exact absurd h (by decide)
 by_cases g5:norm (Xgz (Xnn src dst 6 b.length++b))≠65535
 ·rw [if_neg g0,if_neg g1,if_neg g2,if_neg g3,if_neg g4,if_pos g5] at h;exact absurd h (by decide)
 by_cases g6:(Xk2 ((b.drop 20).take ((4*(vK b 12 1/16)).toNat - 20))).2≠0
 ·rw [if_neg g0,if_neg g1,if_neg g2,if_neg g3,if_neg g4,if_neg g5,if_pos g6] at h;exact absurd h g6
 rw [if_neg g0,if_neg g1,if_neg g2,if_neg g3,if_neg g4,if_neg g5,if_neg g6]
 simp only [List.length_take,List.length_drop]
 omega
theorem Xxv {s:List UInt8} (hs:s.length<2^19):XdI s=some ((XbN s).1,((XbN s).2.1:Int),((XbN s).2.2.1:Int),(XbN s).2.2.2):=by
 unfold XdI Xid
 have hz:(⟨⟨0,⟨false,0,0⟩,⟨false,0,0⟩,0,0⟩,0,false,0,0,false,[],0⟩:Xag)=zP:=rfl
 rw [hz]
 simp only []
 by_cases g1:9000<s.length
 ·have hT:XbN s=(zP,0,0,5):=by unfold XbN;rw [if_pos g1]
  rw [XaV (by omega),hT];rfl
 rw [XaM (by omega)]
 by_cases g2:s=[]
 ·subst g2;rfl
 rw [show (s==[])=false by simpa using g2,cond_false,XEl hs g2,Option.bind_some]
 by_cases g3:(Xkk s).2=0
 ·rw [show ((Xkk s).2 !=0)=false by simpa using g3,cond_false]
  have bs:(Xkk s).1.body.length≤s.length∧0≤(Xkk s).1.size∧(Xkk s).1.size≤40+(s.length:Int):=by
   obtain ⟨b1,b2⟩:=XqP s
   have b3:=XyT s
   unfold Xkk
   split
   ·exact ⟨b2,by simp only [];omega,by simp only [];omega⟩
   split
   ·exact ⟨b3,by simp only [];omega,by simp only [];omega⟩
   ·exact ⟨by simp,by simp only [];omega,by simp only [];omega⟩
  rw [XcC (n:=(Xkk s).1.size+((Xkk s).1.body.length:Int)) (by omega) (by omega)]
  by_cases gl:(Xkk s).1.size+((Xkk s).1.body.length:Int)=(s.length:Int)
  ·obtain ⟨k1,k2⟩:=XJS g3 gl
   rw [show ((Xkk s).1.size+((Xkk s).1.body.length:Int) !=(s.length:Int))=false by simpa using gl,k2]
   simp only [cond_false]
   obtain ⟨a1,a2⟩:=Xml s
   have hb:=Xki k1
   have hE:(Xgh (Xa4 s) s.length).2.2≠0→XbN s=(zP,0,0,(Xgh (Xa4 s) s.length).2.2):=fun g4=>by
    unfold XbN;rw [if_neg g1,if_neg g2,if_neg (by simpa using k1),if_pos g4]
   have hO:(Xgh (Xa4 s) s.length).2.2=0→XbN s=((Xgh (Xa4 s) s.length).1,s.length - (Xa4 s).body.length,s.length - (Xgh (Xa4 s) s.length).2.1,0):=fun g4=>by
    unfold XbN;rw [if_neg g1,if_neg g2,if_neg (by simpa using k1),if_neg (by simpa using g4)]
   generalize hO':Xa4 s=o at *
   by_cases p6:o.proto=6
   ·rw [show (o.proto==6)=true by simpa using p6,cond_true,XwJ a1 a2 (by omega),Option.bind_some]
    by_cases g:(Xii o.body o.src o.dst).2.2=0
    ·have hl7:=XrF g
     have hin:Xgh o s.length=(⟨⟨o.proto,o.src,o.dst,(Xii o.body o.src o.dst).1.SPort,(Xii o.body o.src o.dst).1.DPort⟩,(Xii o.body o.src o.dst).1.Flags,(XBC (Xii o.body o.src o.dst).1.Options).1,(XBC (Xii o.body o.src o.dst).1.Options).2.1,(XBC (Xii o.body o.src o.dst).1.Options).2.2,false,[],s.length⟩,(Xii o.body o.src o.dst).2.1.length,0):=by
      unfold Xgh;rw [if_pos p6,if_neg (by simpa using g)]
     rw [hO (by rw [hin]),hin]
     rw [show ((Xii o.body o.src o.dst).2.2 !=0)=false by simpa using g,cond_false,XJR (by omega),Option.bind_some]
     simp only []
     rw [XcC (n:=(o.size:Int)+20) (by omega) (by omega),XcC (n:=(o.size:Int)+20+((Xii o.body o.src o.dst).1.Options.length:Int)) (by omega) (by omega),show ((s.length - o.body.length:Nat):Int)=(o.size:Int) by omega,show ((s.length - (Xii o.body o.src o.dst).2.1.length:Nat):Int)=(o.size:Int)+20+((Xii o.body o.src o.dst).1.Options.length:Int) by omega]
     unfold XBC
     by_cases g5:0≤(XjP (Xii o.body o.src o.dst).1.Options).2.2
     ·rw [if_pos g5,XaV (by omega)]
     ·rw [if_neg g5,XaM (by omega)]
    ·have hin:Xgh o s.length=(zP,0,(Xii o.body o.src o.dst).2.2):=by
      unfold Xgh;rw [if_pos p6,if_pos g]
     rw [hE (by rw [hin];exact g),hin,show ((Xii o.body o.src o.dst).2.2 !=0)=true by simpa using g];rfl
   ·rw [show (o.proto==6)=false by simpa using p6,cond_false]
    by_cases p17:o.proto=17
    ·rw [show (o.proto !=17)=false by simpa using p17,cond_false,XyV a1 a2 (by omega),Option.bind_some]
     by_cases g:(Xhr o.body o.src o.dst).2.2=0
     ·have hb8:(Xhr o.body o.src o.dst).2.1.length≤o.body.length:=by
       unfold Xhr
       repeat' split
       all_goals simp
       all_goals omega
      rw [show ((Xhr o.body o.src o.dst).2.2 !=0)=false by simpa using g,cond_false]
      rw [XcC (n:=((Xhr o.body o.src o.dst).2.1.length:Int)+8) (by omega) (by omega)]
      by_cases g6:(Xhr o.body o.src o.dst).2.1.length+8=o.body.length
      ·have hin:Xgh o s.length=(⟨⟨o.proto,o.src,o.dst,(Xhr o.body o.src o.dst).1.SPort,(Xhr o.body o.src o.dst).1.DPort⟩,0,false,0,0,(XLs (Xhr o.body o.src o.dst).2.1).1,(XLs (Xhr o.body o.src o.dst).2.1).2,s.length⟩,(Xhr o.body o.src o.dst).2.1.length,0):=by
        unfold Xgh;rw [if_neg p6,if_pos p17,if_neg (by simpa using g),if_neg (by simpa using g6)]
       rw [hO (by rw [hin]),hin,show (((Xhr o.body o.src o.dst).2.1.length:Int)+8 !=(o.body.length:Int))=false by simp;omega,cond_false,XxQ (by omega),Option.bind_some,XcC (n:=(o.size:Int)+8) (by omega) (by omega)]
       simp only []
       rw [show ((s.length - o.body.length:Nat):Int)=(o.size:Int) by omega,show ((s.length - (Xhr o.body o.src o.dst).2.1.length:Nat):Int)=(o.size:Int)+8 by omega]
       unfold XLs
       by_cases g5:(Xsz (Xhr o.body o.src o.dst).2.1).2=0
       ·rw [if_pos g5,show ((Xsz (Xhr o.body o.src o.dst).2.1).2==0)=true by simpa using g5,cond_true]
       ·rw [if_neg g5,show ((Xsz (Xhr o.body o.src o.dst).2.1).2==0)=false by simpa using g5,cond_false]
      ·have hin:Xgh o s.length=(zP,0,5):=by
        unfold Xgh;rw [if_neg p6,if_pos p17,if_neg (by simpa using g),if_pos g6]
       rw [hE (by rw [hin];decide),hin,show (((Xhr o.body o.src o.dst).2.1.length:Int)+8 !=(o.body.length:Int))=true by simp;omega];rfl
     ·have hin:Xgh o s.length=(zP,0,(Xhr o.body o.src o.dst).2.2):=by
       unfold Xgh;rw [if_neg p6,if_pos p17,if_pos g]
      rw [hE (by rw [hin];exact g),hin,show ((Xhr o.body o.src o.dst).2.2 !=0)=true by simpa using g];rfl
    ·have hin:Xgh o s.length=(zP,0,6):=by
      unfold Xgh;rw [if_neg p6,if_neg p17]
     rw [hE (by rw [hin];decide),hin,show (o.proto !=17)=true by simpa using p17];rfl
  ·have hT:XbN s=(zP,0,0,5):=by
    have e:=XsT g3 gl
    unfold XbN;rw [if_neg g1,if_neg g2,if_pos (by rw [e];decide),e]
   rw [hT,show ((Xkk s).1.size+((Xkk s).1.body.length:Int) !=(s.length:Int))=true by simpa using gl];rfl
 ·have hT:XbN s=(zP,0,0,(Xkk s).2):=by
   have e:=Xyj g3
   unfold XbN;rw [if_neg g1,if_neg g2,if_pos (by rw [e];exact g3),e]
  rw [hT,show ((Xkk s).2 !=0)=true by simpa using g3];rfl
theorem Xto {s:List UInt8} (hs:s.length<2^19):XcR s=some ((XbN s).1,(XbN s).2.2.2):=by
 unfold XcR XgT
 rw [Xxv hs,Option.bind_some]
end Go.Vm.Code
namespace Go.Vm.Code
open Go Go.Vm Go.Proofs
set_option maxRecDepth 100000
set_option maxHeartbeats 4000000
set_option linter.unusedVariables false
def XgW (Xav:Xaa→Xaa→Int→Int→Option (List UInt8)) (src:Xaa) (dst:Xaa) (n:Int):Option ((List UInt8)×Bool):=
 (Xav src dst 58 n).bind fun p=>
 cond (p==[])
  (
  some ((p,!(p==[]))))
  (
  cond (src.V6)
   (
   some ((p,!(p==[]))))
   (
   some (([],true))))
def rx74 (x:(List UInt8)×Bool):Xco:=⟨.tuple ⟨[.string ⟨⟨x.1⟩⟩,.bool x.2]⟩,[],[]⟩
def r74 (g:Xaa→Xaa→Int→Option ((List UInt8)×Bool)):Dec:=dV Xa7 fun (y0:Xaa)=>dV Xa7 fun (y1:Xaa)=>dV (asI .i64) fun (y2:Int)=>Xc5 (ofG (g y0 y1 y2) rx74)
theorem r74_c {g:Xaa→Xaa→Int→Option ((List UInt8)×Bool)} {y0:Xaa} {y1:Xaa} {y2:Int} {x:(List UInt8)×Bool} (hx:g y0 y1 y2=some x):r74 g [.agg ⟨[.bool y0.V6,.int .u64 y0.Hi,.int .u64 y0.Lo]⟩,.agg ⟨[.bool y1.V6,.int .u64 y1.Hi,.int .u64 y1.Lo]⟩,.int .i64 y2] []=some (rx74 x):=(XaS (XaY _)).trans ((XaS (XaY _)).trans ((XaS (XcI _)).trans (XaZ hx)))
def s74 (g:Xaa→Xaa→Int→Option ((List UInt8)×Bool)):Xbp:=⟨[.v,.v,.v],r74 g⟩
theorem XS0 {g:Xaa→Xaa→Int→Option ((List UInt8)×Bool)} {y0:Xaa} {y1:Xaa} {y2:Int} {x:(List UInt8)×Bool} (hx:g y0 y1 y2=some x):(s74 g).run [.agg ⟨[.bool y0.V6,.int .u64 y0.Hi,.int .u64 y0.Lo]⟩,.agg ⟨[.bool y1.V6,.int .u64 y1.Hi,.int .u64 y1.Lo]⟩,.int .i64 y2] []=some (rx74 x):=r74_c hx
abbrev XAf (Xav:Xaa→Xaa→Int→Int→Option (List UInt8)):List (Nat×Xbp):=[(109,XLu Xav)]
theorem XGD (Xav:Xaa→Xaa→Int→Int→Option (List UInt8)) (hS:Xai Tryz.prog (Xar (XAf Xav))) (src:Xaa) (dst:Xaa) (n:Int) (res:(List UInt8)×Bool) (h:XgW Xav src dst n=some res) :
 XaD Tryz.prog 74 0 ⟨⟨74,22,[(0,.agg ⟨[.bool src.V6,.int .u64 src.Hi,.int .u64 src.Lo]⟩),(1,.agg ⟨[.bool dst.V6,.int .u64 dst.Hi,.int .u64 dst.Lo]⟩),(2,.int .i64 n)],[.code XAj],[],false,none⟩,[],[],0⟩ (fun v H _=>Res 0 (rx74 res) v H):=by
 unfold XgW at h
 refine Xa9 Xam hS true 3000 ?_
 conv=>whnf
 replace h:=Xak.elim h;obtain ⟨p,hy,h⟩:=h
 refine XaH.q rfl rfl (Xqx hy) rfl rfl rfl ?_
 conv=>whnf
 refine br.h h ?_ ?_ ?_
 ·rfl
 ·clear h;intro hb h;conv=>whnf
  all_goals (cases h;exact Res.z rfl rfl rfl)
 clear h;intro hb h;conv=>whnf
 refine br.h h ?_ ?_ ?_
 ·rfl
 ·clear h;intro hb h;conv=>whnf
  all_goals (cases h;exact Res.z rfl rfl rfl)
 clear h;intro hb h;conv=>whnf
 all_goals (cases h;exact Res.z rfl rfl rfl)
theorem ok74 (Xav:Xaa→Xaa→Int→Int→Option (List UInt8)) (hS:Xai Tryz.prog (Xar (XAf Xav))):Xan Tryz.prog 74 (s74 (XgW Xav)):=by
 refine Xan.Xau Xam (fun ar os r ha hr=>?_) ⟨Tryz.f74,rfl,by decide,rfl⟩
 replace hr:r74 (XgW Xav) ar (XaA os)=some r:=hr
 unfold r74 at hr
 generalize hc:XaA os=C at hr
 replace hr:=dV.elim hr;obtain ⟨v0,l1,y0,rfl,e0,hr⟩:=hr;obtain rfl:=XaN _ _ e0
 replace hr:=dV.elim hr;obtain ⟨v1,l2,y1,rfl,e1,hr⟩:=hr;obtain rfl:=XaN _ _ e1
 replace hr:=dV.elim hr;obtain ⟨v2,l3,y2,rfl,e2,hr⟩:=hr;obtain rfl:=XbP _ _ _ e2
 replace hr:=Xdg hr;obtain ⟨rfl,rfl,x,h,rfl⟩:=hr
 obtain rfl:=Xao hc
 exact ⟨_,rfl,XGD Xav hS _ _ _ x h⟩
def XcO:Xaa→Xaa→Int→Option ((List UInt8)×Bool):=XgW Xav
theorem XWP:Xan Tryz.prog 74 (s74 XcO):=ok74 Xav (Xai.XaW ⟨Xp5,trivial⟩)
def Xfr (n:Int) (most:Int):Option Bool:=
 cond (decide (0≤n))
  (
  some (decide (n≤most)))
  (
  some (false))
def Xyn (x:Bool):Xco:=⟨.bool x,[],[]⟩
def r110 (g:Int→Int→Option Bool):Dec:=dV (asI .i64) fun (y0:Int)=>dV (asI .i64) fun (y1:Int)=>Xc5 (ofG (g y0 y1) Xyn)
theorem XWJ {g:Int→Int→Option Bool} {y0:Int} {y1:Int} {x:Bool} (hx:g y0 y1=some x):r110 g [.int .i64 y0,.int .i64 y1] []=some (Xyn x):=(XaS (XcI _)).trans ((XaS (XcI _)).trans (XaZ hx))
def s110 (g:Int→Int→Option Bool):Xbp:=⟨[.v,.v],r110 g⟩
theorem XuP {g:Int→Int→Option Bool} {y0:Int} {y1:Int} {x:Bool} (hx:g y0 y1=some x):(s110 g).run [.int .i64 y0,.int .i64 y1] []=some (Xyn x):=XWJ hx
abbrev Xvu:List (Nat×Xbp):=[]
theorem XyM (hS:Xai Tryz.prog (Xar (Xvu))) (n:Int) (most:Int) (res:Bool) (h:Xfr n most=some res) :
 XaD Tryz.prog 110 0 ⟨⟨110,12,[(0,.int .i64 n),(1,.int .i64 most)],[.code Xz3],[],false,none⟩,[],[],0⟩ (fun v H _=>Res 0 (Xyn res) v H):=by
 unfold Xfr at h
 refine Xa9 Xam hS true 3000 ?_
 conv=>whnf
 refine br.h h ?_ ?_ ?_
 ·rfl
 ·clear h;intro hb h;conv=>whnf
  all_goals (cases h;exact Res.z rfl rfl rfl)
 clear h;intro hb h;conv=>whnf
 all_goals (cases h;exact Res.z rfl rfl rfl)
theorem ok110 (hS:Xai Tryz.prog (Xar (Xvu))):Xan Tryz.prog 110 (s110 (Xfr)):=by
 refine Xan.Xau Xam (fun ar os r ha hr=>?_) ⟨Tryz.f110,rfl,by decide,rfl⟩
 replace hr:r110 (Xfr) ar (XaA os)=some r:=hr
 unfold r110 at hr
 generalize hc:XaA os=C at hr
 replace hr:=dV.elim hr;obtain ⟨v0,l1,y0,rfl,e0,hr⟩:=hr;obtain rfl:=XbP _ _ _ e0
 replace hr:=dV.elim hr;obtain ⟨v1,l2,y1,rfl,e1,hr⟩:=hr;obtain rfl:=XbP _ _ _ e1
 replace hr:=Xdg hr;obtain ⟨rfl,rfl,x,h,rfl⟩:=hr
 obtain rfl:=Xao hc
 exact ⟨_,rfl,XyM hS _ _ x h⟩
def XbT:Int→Int→Option Bool:=Xfr
theorem XJF:Xan Tryz.prog 110 (s110 XbT):=ok110 (Xai.XaW trivial)
def XgQ (kind:Int) (code:Int) (v6:Bool):Option Bool:=
 cond (kind==2)
  (
  cond (v6)
   (
   some (code==0))
   (
   some (code==4)))
  (
  cond (kind==1)
   (
   cond (!v6)
    (
    some (code !=4))
    (
    some (true)))
   (
   some (true)))
def XxY (x:Bool):Xco:=⟨.bool x,[],[]⟩
def r111 (g:Int→Int→Bool→Option Bool):Dec:=dV (asI .i64) fun (y0:Int)=>dV (asI .i64) fun (y1:Int)=>dV asB fun (y2:Bool)=>Xc5 (ofG (g y0 y1 y2) XxY)
theorem XRs {g:Int→Int→Bool→Option Bool} {y0:Int} {y1:Int} {y2:Bool} {x:Bool} (hx:g y0 y1 y2=some x):r111 g [.int .i64 y0,.int .i64 y1,.bool y2] []=some (XxY x):=(XaS (XcI _)).trans ((XaS (XcI _)).trans ((XaS (XmA)).trans (XaZ hx)))
def s111 (g:Int→Int→Bool→Option Bool):Xbp:=⟨[.v,.v,.v],r111 g⟩
theorem XGv {g:Int→Int→Bool→Option Bool} {y0:Int} {y1:Int} {y2:Bool} {x:Bool} (hx:g y0 y1 y2=some x):(s111 g).run [.int .i64 y0,.int .i64 y1,.bool y2] []=some (XxY x):=XRs hx
abbrev Xta:List (Nat×Xbp):=[]
theorem XyU (hS:Xai Tryz.prog (Xar (Xta))) (kind:Int) (code:Int) (v6:Bool) (res:Bool) (h:XgQ kind code v6=some res) :
 XaD Tryz.prog 111 0 ⟨⟨111,29,[(0,.int .i64 kind),(1,.int .i64 code),(2,.bool v6)],[.code XuI],[],false,none⟩,[],[],0⟩ (fun v H _=>Res 0 (XxY res) v H):=by
 unfold XgQ at h
 refine Xa9 Xam hS true 3000 ?_
 conv=>whnf
 refine br.h h ?_ ?_ ?_
 ·rfl
 ·clear h;intro hb h;conv=>whnf
  refine br.h h ?_ ?_ ?_
  ·rfl
  ·clear h;intro hb h;conv=>whnf
   all_goals (cases h;exact Res.z rfl rfl rfl)
  clear h;intro hb h;conv=>whnf
  refine br.pos ?_ ?_;(focus (clear h;first|assumption|(simp_all;done)))
  conv=>whnf
  all_goals (cases h;exact Res.z rfl rfl rfl)
 clear h;intro hb h;conv=>whnf
 refine br.neg ?_ ?_;(focus (clear h;first|assumption|(simp_all;done)))
 conv=>whnf
 refine br.h2 h ?_ ?_ ?_
 ·rfl
 ·clear h;intro hb h;conv=>whnf
  all_goals (cases h;exact Res.z rfl rfl rfl)
 clear h;intro hb h;conv=>whnf
 refine br.h h ?_ ?_ ?_
 ·rfl
 ·clear h;intro hb h;conv=>whnf
  all_goals (cases h;exact Res.z rfl rfl rfl)
 clear h;intro hb h;conv=>whnf
 all_goals (cases h;exact Res.z rfl rfl rfl)
theorem ok111 (hS:Xai Tryz.prog (Xar (Xta))):Xan Tryz.prog 111 (s111 (XgQ)):=by
 refine Xan.Xau Xam (fun ar os r ha hr=>?_) ⟨Tryz.f111,rfl,by decide,rfl⟩
 replace hr:r111 (XgQ) ar (XaA os)=some r:=hr
 unfold r111 at hr
 generalize hc:XaA os=C at hr
 replace hr:=dV.elim hr;obtain ⟨v0,l1,y0,rfl,e0,hr⟩:=hr;obtain rfl:=XbP _ _ _ e0
 replace hr:=dV.elim hr;obtain ⟨v1,l2,y1,rfl,e1,hr⟩:=hr;obtain rfl:=XbP _ _ _ e1
 replace hr:=dV.elim hr;obtain ⟨v2,l3,y2,rfl,e2,hr⟩:=hr;obtain rfl:=Xja _ _ e2
 replace hr:=Xdg hr;obtain ⟨rfl,rfl,x,h,rfl⟩:=hr
 obtain rfl:=Xao hc
 exact ⟨_,rfl,XyU hS _ _ _ x h⟩
def Xc6:Int→Int→Bool→Option Bool:=XgQ
theorem XDX:Xan Tryz.prog 111 (s111 Xc6):=ok111 (Xai.XaW trivial)
def Xde (Xc6:Int→Int→Bool→Option Bool) (XbT:Int→Int→Option Bool) (m:Xaf) (v6:Bool):Option Bool:=
 cond (decide (m.Kind<1))
  (
  some (false))
  (
  cond (decide (m.Kind>3))
   (
   some (false))
   (
   (XbT m.Code 255).bind fun w=>
   cond (!w)
    (
    some (false))
    (
    (XbT m.MTU 65535).bind fun w1=>
    cond (!w1)
     (
     some (false))
     (
     cond (decide ((m.Quote.length:Int)>1232))
      (
      some (false))
      (
      (Xc6 m.Kind m.Code v6).bind fun f=>
      cond (f)
       (
       cond (m.Kind==2)
        (
        some (true))
        (
        some (m.MTU==0)))
       (
       some (false)))))))
def rx75 (x:Bool):Xco:=⟨.bool x,[],[]⟩
def r75 (g:Xaf→Bool→Option Bool):Dec:=dV XcL fun (y0:Xaf)=>dV asB fun (y1:Bool)=>Xc5 (ofG (g y0 y1) rx75)
theorem r75_c {g:Xaf→Bool→Option Bool} {y0:Xaf} {y1:Bool} {x:Bool} (hx:g y0 y1=some x):r75 g [.agg ⟨[.int .i64 y0.Kind,.int .i64 y0.Code,.int .i64 y0.MTU,.string ⟨⟨y0.Quote⟩⟩]⟩,.bool y1] []=some (rx75 x):=(XaS (Xds _)).trans ((XaS (XmA)).trans (XaZ hx))
def s75 (g:Xaf→Bool→Option Bool):Xbp:=⟨[.v,.v],r75 g⟩
theorem XXW {g:Xaf→Bool→Option Bool} {y0:Xaf} {y1:Bool} {x:Bool} (hx:g y0 y1=some x):(s75 g).run [.agg ⟨[.int .i64 y0.Kind,.int .i64 y0.Code,.int .i64 y0.MTU,.string ⟨⟨y0.Quote⟩⟩]⟩,.bool y1] []=some (rx75 x):=r75_c hx
abbrev XBm (Xc6:Int→Int→Bool→Option Bool) (XbT:Int→Int→Option Bool):List (Nat×Xbp):=[(111,s111 Xc6),(110,s110 XbT)]
theorem XDk (Xc6:Int→Int→Bool→Option Bool) (XbT:Int→Int→Option Bool) (hS:Xai Tryz.prog (Xar (XBm Xc6 XbT))) (m:Xaf) (v6:Bool) (res:Bool) (h:Xde Xc6 XbT m v6=some res) :
 XaD Tryz.prog 75 0 ⟨⟨75,47,[(0,.agg ⟨[.int .i64 m.Kind,.int .i64 m.Code,.int .i64 m.MTU,.string ⟨⟨m.Quote⟩⟩]⟩),(1,.bool v6)],[.code X0j],[],false,none⟩,[],[],0⟩ (fun v H _=>Res 0 (rx75 res) v H):=by
 unfold Xde at h
 refine Xa9 Xam hS true 3000 ?_
 conv=>whnf
 refine br.h h ?_ ?_ ?_
 ·rfl
 ·clear h;intro hb h;conv=>whnf
  all_goals (cases h;exact Res.z rfl rfl rfl)
 clear h;intro hb h;conv=>whnf
 refine br.h h ?_ ?_ ?_
 ·rfl
 ·clear h;intro hb h;conv=>whnf
  all_goals (cases h;exact Res.z rfl rfl rfl)
 clear h;intro hb h;conv=>whnf
 replace h:=Xak.elim h;obtain ⟨w,hy,h⟩:=h
 refine XaH.q rfl rfl (XuP hy) rfl rfl rfl ?_
 conv=>whnf
 refine br.h h ?_ ?_ ?_
 ·rfl
 ·clear h;intro hb h;conv=>whnf
  all_goals (cases h;exact Res.z rfl rfl rfl)
 clear h;intro hb h;conv=>whnf
 replace h:=Xak.elim h;obtain ⟨w1,hy,h⟩:=h
 refine XaH.q rfl rfl (XuP hy) rfl rfl rfl ?_
 conv=>whnf
 refine br.h h ?_ ?_ ?_
 ·rfl
 ·clear h;intro hb h;conv=>whnf
  all_goals (cases h;exact Res.z rfl rfl rfl)
 clear h;intro hb h;conv=>whnf
 refine br.h h ?_ ?_ ?_
 ·rfl
 ·clear h;intro hb h;conv=>whnf
  all_goals (cases h;exact Res.z rfl rfl rfl)
 clear h;intro hb h;conv=>whnf
 replace h:=Xak.elim h;obtain ⟨f,hy,h⟩:=h
 refine XaH.q rfl rfl (XGv hy) rfl rfl rfl ?_
 conv=>whnf
 refine br.h2 h ?_ ?_ ?_
 ·rfl
 ·clear h;intro hb h;conv=>whnf
  all_goals (cases h;exact Res.z rfl rfl rfl)
 clear h;intro hb h;conv=>whnf
 refine br.h h ?_ ?_ ?_
 ·rfl
 ·clear h;intro hb h;conv=>whnf
  all_goals (cases h;exact Res.z rfl rfl rfl)
 clear h;intro hb h;conv=>whnf
 all_goals (cases h;exact Res.z rfl rfl rfl)
theorem ok75 (Xc6:Int→Int→Bool→Option Bool) (XbT:Int→Int→Option Bool) (hS:Xai Tryz.prog (Xar (XBm Xc6 XbT))):Xan Tryz.prog 75 (s75 (Xde Xc6 XbT)):=by
 refine Xan.Xau Xam (fun ar os r ha hr=>?_) ⟨Tryz.f75,rfl,by decide,rfl⟩
 replace hr:r75 (Xde Xc6 XbT) ar (XaA os)=some r:=hr
 unfold r75 at hr
 generalize hc:XaA os=C at hr
 replace hr:=dV.elim hr;obtain ⟨v0,l1,y0,rfl,e0,hr⟩:=hr;obtain rfl:=Xdc _ _ e0
 replace hr:=dV.elim hr;obtain ⟨v1,l2,y1,rfl,e1,hr⟩:=hr;obtain rfl:=Xja _ _ e1
 replace hr:=Xdg hr;obtain ⟨rfl,rfl,x,h,rfl⟩:=hr
 obtain rfl:=Xao hc
 exact ⟨_,rfl,XDk Xc6 XbT hS _ _ x h⟩
def Xbg:Xaf→Bool→Option Bool:=Xde Xc6 XbT
theorem X7s:Xan Tryz.prog 75 (s75 Xbg):=ok75 Xc6 XbT (Xai.XaW ⟨XDX,XJF,trivial⟩)
def Xhp:Option Xbh:=
 some (Xbh.mk (Xd7.mk (-1) (-1)) (Xd7.mk 3 1) (Xd7.mk 3 2) (Xd7.mk 11 3))
def rx76 (x:Xbh):Xco:=⟨.agg ⟨[.int .i64 x.e0.e0,.int .i64 x.e0.e1,.int .i64 x.e1.e0,.int .i64 x.e1.e1,.int .i64 x.e2.e0,.int .i64 x.e2.e1,.int .i64 x.e3.e0,.int .i64 x.e3.e1]⟩,[],[]⟩
def r76 (g:Option Xbh):Dec:=Xc5 (ofG (g) rx76)
theorem r76_c {g:Option Xbh} {x:Xbh} (hx:g=some x):r76 g [] []=some (rx76 x):=XaZ hx
def s76 (g:Option Xbh):Xbp:=⟨[],r76 g⟩
theorem XMs {g:Option Xbh} {x:Xbh} (hx:g=some x):(s76 g).run [] []=some (rx76 x):=r76_c hx
abbrev Xzs:List (Nat×Xbp):=[]
theorem XCf (hS:Xai Tryz.prog (Xar (Xzs))) (res:Xbh) (h:Xhp=some res) :
 XaD Tryz.prog 76 0 ⟨⟨76,6,[],[.code XMv],[],false,none⟩,[],[],0⟩ (fun v H _=>Res 0 (rx76 res) v H):=by
 unfold Xhp at h
 refine Xa9 Xam hS true 3000 ?_
 conv=>whnf
 all_goals (cases h;exact Res.z rfl rfl rfl)
theorem ok76 (hS:Xai Tryz.prog (Xar (Xzs))):Xan Tryz.prog 76 (s76 (Xhp)):=by
 refine Xan.Xau Xam (fun ar os r ha hr=>?_) ⟨Tryz.f76,rfl,by decide,rfl⟩
 replace hr:r76 (Xhp) ar (XaA os)=some r:=hr
 unfold r76 at hr
 generalize hc:XaA os=C at hr
 replace hr:=Xdg hr;obtain ⟨rfl,rfl,x,h,rfl⟩:=hr
 obtain rfl:=Xao hc
 exact ⟨_,rfl,XCf hS x h⟩
def XcA:Option Xbh:=Xhp
theorem X7L:Xan Tryz.prog 76 (s76 XcA):=ok76 (Xai.XaW trivial)
def Xh5 (v6:Bool):Option Int:=
 cond (v6)
  (
  some (1))
  (
  some (0))
def rx77 (x:Int):Xco:=⟨.int .i64 x,[],[]⟩
def r77 (g:Bool→Option Int):Dec:=dV asB fun (y0:Bool)=>Xc5 (ofG (g y0) rx77)
theorem r77_c {g:Bool→Option Int} {y0:Bool} {x:Int} (hx:g y0=some x):r77 g [.bool y0] []=some (rx77 x):=(XaS (XmA)).trans (XaZ hx)
def s77 (g:Bool→Option Int):Xbp:=⟨[.v],r77 g⟩
theorem X3d {g:Bool→Option Int} {y0:Bool} {x:Int} (hx:g y0=some x):(s77 g).run [.bool y0] []=some (rx77 x):=r77_c hx
abbrev XAi:List (Nat×Xbp):=[]
theorem XEe (hS:Xai Tryz.prog (Xar (XAi))) (v6:Bool) (res:Int) (h:Xh5 v6=some res) :
 XaD Tryz.prog 77 0 ⟨⟨77,4,[(0,.bool v6)],[.code X0X],[],false,none⟩,[],[],0⟩ (fun v H _=>Res 0 (rx77 res) v H):=by
 unfold Xh5 at h
 refine Xa9 Xam hS true 3000 ?_
 conv=>whnf
 refine br.h h ?_ ?_ ?_
 ·rfl
 ·clear h;intro hb h;conv=>whnf
  all_goals (cases h;exact Res.z rfl rfl rfl)
 clear h;intro hb h;conv=>whnf
 all_goals (cases h;exact Res.z rfl rfl rfl)
theorem ok77 (hS:Xai Tryz.prog (Xar (XAi))):Xan Tryz.prog 77 (s77 (Xh5)):=by
 refine Xan.Xau Xam (fun ar os r ha hr=>?_) ⟨Tryz.f77,rfl,by decide,rfl⟩
 replace hr:r77 (Xh5) ar (XaA os)=some r:=hr
 unfold r77 at hr
 generalize hc:XaA os=C at hr
 replace hr:=dV.elim hr;obtain ⟨v0,l1,y0,rfl,e0,hr⟩:=hr;obtain rfl:=Xja _ _ e0
 replace hr:=Xdg hr;obtain ⟨rfl,rfl,x,h,rfl⟩:=hr
 obtain rfl:=Xao hc
 exact ⟨_,rfl,XEe hS _ x h⟩
def Xc7:Bool→Option Int:=Xh5
theorem XQd:Xan Tryz.prog 77 (s77 Xc7):=ok77 (Xai.XaW trivial)
def XhX (XbF:(List UInt8)→Option Int) (Xbn:(List UInt8)→Int→Int→Int→Option (List UInt8)) (Xbg:Xaf→Bool→Option Bool) (XcO:Xaa→Xaa→Int→Option ((List UInt8)×Bool)) (Xc7:Bool→Option Int) (XcA:Option Xbh) (Xaq:Int→Int→Option (List UInt8)) (m:Xaf) (src:Xaa) (dst:Xaa):Option ((List UInt8)×Int):=
 (XcO src dst (wI .i64 (8+(m.Quote.length:Int)))).bind fun xo=>
 cond (!xo.2)
  (
  some (([],1)))
  (
  (Xbg m src.V6).bind fun m1=>
  cond (!m1)
   (
   some (([],1)))
   (
   (XcA).bind fun t=>
   XaK (decide (0≤m.Kind∧m.Kind<4)) <|
   ([XaC.mk t.e0.e0 t.e0.e1,XaC.mk t.e1.e0 t.e1.e1,XaC.mk t.e2.e0 t.e2.e1,XaC.mk t.e3.e0 t.e3.e1][m.Kind.toNat]?).bind fun (e:XaC)=>
   (Xc7 src.V6).bind fun s=>
   XaK (decide (0≤s∧s<2)) <|
   ([e.SPort,e.DPort][s.toNat]?).bind fun (e1:Int)=>
   let t1:=Xkl .u64 (wI .u64 ((wI .u64 e1)*2^8)) (wI .u64 m.Code)
   (Xaq t1 2).bind fun p=>
   (Xaq (wI .u64 m.MTU) 6).bind fun p1=>
   XaK (decide (p.length+p1.length<2^63)) <|
   XaK (decide ((p++p1).length+m.Quote.length<2^63)) <|
   XaK (decide (xo.1.length+((p++p1)++m.Quote).length<2^63)) <|
   (XbF (xo.1++((p++p1)++m.Quote))).bind fun xo1=>
   (Xbn ((p++p1)++m.Quote) 2 2 (wI .u64 xo1)).bind fun s1=>
   some ((s1,0))))
def rx47 (x:(List UInt8)×Int):Xco:=⟨.tuple ⟨[.string ⟨⟨x.1⟩⟩,.int .i64 x.2]⟩,[],[]⟩
def r47 (g:Xaf→Xaa→Xaa→Option ((List UInt8)×Int)):Dec:=dV XcL fun (y0:Xaf)=>dV Xa7 fun (y1:Xaa)=>dV Xa7 fun (y2:Xaa)=>Xc5 (ofG (g y0 y1 y2) rx47)
theorem r47_c {g:Xaf→Xaa→Xaa→Option ((List UInt8)×Int)} {y0:Xaf} {y1:Xaa} {y2:Xaa} {x:(List UInt8)×Int} (hx:g y0 y1 y2=some x):r47 g [.agg ⟨[.int .i64 y0.Kind,.int .i64 y0.Code,.int .i64 y0.MTU,.string ⟨⟨y0.Quote⟩⟩]⟩,.agg ⟨[.bool y1.V6,.int .u64 y1.Hi,.int .u64 y1.Lo]⟩,.agg ⟨[.bool y2.V6,.int .u64 y2.Hi,.int .u64 y2.Lo]⟩] []=some (rx47 x):=(XaS (Xds _)).trans ((XaS (XaY _)).trans ((XaS (XaY _)).trans (XaZ hx)))
def s47 (g:Xaf→Xaa→Xaa→Option ((List UInt8)×Int)):Xbp:=⟨[.v,.v,.v],r47 g⟩
theorem XRl {g:Xaf→Xaa→Xaa→Option ((List UInt8)×Int)} {y0:Xaf} {y1:Xaa} {y2:Xaa} {x:(List UInt8)×Int} (hx:g y0 y1 y2=some x):(s47 g).run [.agg ⟨[.int .i64 y0.Kind,.int .i64 y0.Code,.int .i64 y0.MTU,.string ⟨⟨y0.Quote⟩⟩]⟩,.agg ⟨[.bool y1.V6,.int .u64 y1.Hi,.int .u64 y1.Lo]⟩,.agg ⟨[.bool y2.V6,.int .u64 y2.Hi,.int .u64 y2.Lo]⟩] []=some (rx47 x):=r47_c hx
abbrev XAo (XbF:(List UInt8)→Option Int) (Xbn:(List UInt8)→Int→Int→Int→Option (List UInt8)) (Xbg:Xaf→Bool→Option Bool) (XcO:Xaa→Xaa→Int→Option ((List UInt8)×Bool)) (Xc7:Bool→Option Int) (XcA:Option Xbh) (Xaq:Int→Int→Option (List UInt8)):List (Nat×Xbp):=[(78,s78 XbF),(43,s43 Xbn),(75,s75 Xbg),(74,s74 XcO),(77,s77 Xc7),(76,s76 XcA),(42,s42 Xaq)]
theorem XB8 (XbF:(List UInt8)→Option Int) (Xbn:(List UInt8)→Int→Int→Int→Option (List UInt8)) (Xbg:Xaf→Bool→Option Bool) (XcO:Xaa→Xaa→Int→Option ((List UInt8)×Bool)) (Xc7:Bool→Option Int) (XcA:Option Xbh) (Xaq:Int→Int→Option (List UInt8)) (hS:Xai Tryz.prog (Xar (XAo XbF Xbn Xbg XcO Xc7 XcA Xaq))) (m:Xaf) (src:Xaa) (dst:Xaa) (res:(List UInt8)×Int) (h:XhX XbF Xbn Xbg XcO Xc7 XcA Xaq m src dst=some res) :
 XaD Tryz.prog 47 0 ⟨⟨47,62,[(0,.agg ⟨[.int .i64 m.Kind,.int .i64 m.Code,.int .i64 m.MTU,.string ⟨⟨m.Quote⟩⟩]⟩),(1,.agg ⟨[.bool src.V6,.int .u64 src.Hi,.int .u64 src.Lo]⟩),(2,.agg ⟨[.bool dst.V6,.int .u64 dst.Hi,.int .u64 dst.Lo]⟩)],[.code Xzf],[],false,none⟩,[],[],0⟩ (fun v H _=>Res 0 (rx47 res) v H):=by
 unfold XhX at h
 refine Xa9 Xam hS true 3000 ?_
 conv=>whnf
 replace h:=Xak.elim h;obtain ⟨xo,hy,h⟩:=h
 refine XaH.q rfl rfl (XS0 hy) rfl rfl rfl ?_
 conv=>whnf
 refine br.h h ?_ ?_ ?_
 ·rfl
 ·clear h;intro hb h;conv=>whnf
  all_goals (cases h;exact Res.z rfl rfl rfl)
 clear h;intro hb h;conv=>whnf
 replace h:=Xak.elim h;obtain ⟨m1,hy,h⟩:=h
 refine XaH.q rfl rfl (XXW hy) rfl rfl rfl ?_
 conv=>whnf
 refine br.h h ?_ ?_ ?_
 ·rfl
 ·clear h;intro hb h;conv=>whnf
  all_goals (cases h;exact Res.z rfl rfl rfl)
 clear h;intro hb h;conv=>whnf
 replace h:=Xak.elim h;obtain ⟨t,hy,h⟩:=h
 refine XaH.q rfl rfl (XMs hy) rfl rfl rfl ?_
 conv=>whnf
 replace h:=XaK.elim h;obtain ⟨hb,h⟩:=h
 replace h:=Xak.elim h;obtain ⟨e,hy,h⟩:=h
 refine ix_T (xs:=[XaC.mk t.e0.e0 t.e0.e1,XaC.mk t.e1.e0 t.e1.e1,XaC.mk t.e2.e0 t.e2.e1,XaC.mk t.e3.e0 t.e3.e1]) XgJ hb hy rfl rfl ?_
 conv=>whnf
 replace h:=Xak.elim h;obtain ⟨s,hy,h⟩:=h
 refine XaH.q rfl rfl (X3d hy) rfl rfl rfl ?_
 conv=>whnf
 replace h:=XaK.elim h;obtain ⟨hb,h⟩:=h
 first|(refine req.intro hb ?_;conv=>whnf)|skip
 replace h:=Xak.elim h;obtain ⟨e1,hy,h⟩:=h
 refine rd.I hy (by first|rfl|(rw [Nat.zero_add,Nat.mul_one];try rfl;done)|omega) ?_
 conv=>whnf
 let t1:Int:=Xkl .u64 (wI .u64 ((wI .u64 e1)*2^8)) (wI .u64 m.Code)
 replace h:=Xak.elim h;obtain ⟨p,hy,h⟩:=h
 refine XaH.q rfl rfl (XjX hy) rfl rfl rfl ?_
 conv=>whnf
 replace h:=Xak.elim h;obtain ⟨p1,hy,h⟩:=h
 refine XaH.q rfl rfl (XjX hy) rfl rfl rfl ?_
 conv=>whnf
 replace h:=XaK.elim h;obtain ⟨hb,h⟩:=h
 first|(refine req.intro hb ?_;conv=>whnf)|skip
 replace h:=XaK.elim h;obtain ⟨hb,h⟩:=h
 first|(refine req.intro hb ?_;conv=>whnf)|skip
 replace h:=XaK.elim h;obtain ⟨hb,h⟩:=h
 first|(refine req.intro hb ?_;conv=>whnf)|skip
 replace h:=Xak.elim h;obtain ⟨xo1,hy,h⟩:=h
 refine XaH.q rfl rfl (Xtw hy) rfl rfl rfl ?_
 conv=>whnf
 replace h:=Xak.elim h;obtain ⟨s1,hy,h⟩:=h
 refine XaH.q rfl rfl (XuT hy) rfl rfl rfl ?_
 conv=>whnf
 all_goals (cases h;exact Res.z rfl rfl rfl)
theorem ok47 (XbF:(List UInt8)→Option Int) (Xbn:(List UInt8)→Int→Int→Int→Option (List UInt8)) (Xbg:Xaf→Bool→Option Bool) (XcO:Xaa→Xaa→Int→Option ((List UInt8)×Bool)) (Xc7:Bool→Option Int) (XcA:Option Xbh) (Xaq:Int→Int→Option (List UInt8)) (hS:Xai Tryz.prog (Xar (XAo XbF Xbn Xbg XcO Xc7 XcA Xaq))):Xan Tryz.prog 47 (s47 (XhX XbF Xbn Xbg XcO Xc7 XcA Xaq)):=by
 refine Xan.Xau Xam (fun ar os r ha hr=>?_) ⟨Tryz.f47,rfl,by decide,rfl⟩
 replace hr:r47 (XhX XbF Xbn Xbg XcO Xc7 XcA Xaq) ar (XaA os)=some r:=hr
 unfold r47 at hr
 generalize hc:XaA os=C at hr
 replace hr:=dV.elim hr;obtain ⟨v0,l1,y0,rfl,e0,hr⟩:=hr;obtain rfl:=Xdc _ _ e0
 replace hr:=dV.elim hr;obtain ⟨v1,l2,y1,rfl,e1,hr⟩:=hr;obtain rfl:=XaN _ _ e1
 replace hr:=dV.elim hr;obtain ⟨v2,l3,y2,rfl,e2,hr⟩:=hr;obtain rfl:=XaN _ _ e2
 replace hr:=Xdg hr;obtain ⟨rfl,rfl,x,h,rfl⟩:=hr
 obtain rfl:=Xao hc
 exact ⟨_,rfl,XB8 XbF Xbn Xbg XcO Xc7 XcA Xaq hS _ _ _ x h⟩
def XdE:Xaf→Xaa→Xaa→Option ((List UInt8)×Int):=XhX XbF Xbn Xbg XcO Xc7 XcA Xaq
theorem XOc:Xan Tryz.prog 47 (s47 XdE):=ok47 XbF Xbn Xbg XcO Xc7 XcA Xaq (Xai.XaW ⟨XAC,XzV,X7s,XWP,XQd,X7L,Xps,trivial⟩)
def XhR (Xax:Xaa→Xaa→Int→Int→Option (List UInt8)) (src:Xaa) (dst:Xaa):Option Bool:=
 (Xax src dst 1 8).bind fun p=>
 some (!(p==[]))
def rx83 (x:Bool):Xco:=⟨.bool x,[],[]⟩
def r83 (g:Xaa→Xaa→Option Bool):Dec:=dV Xa7 fun (y0:Xaa)=>dV Xa7 fun (y1:Xaa)=>Xc5 (ofG (g y0 y1) rx83)
theorem r83_c {g:Xaa→Xaa→Option Bool} {y0:Xaa} {y1:Xaa} {x:Bool} (hx:g y0 y1=some x):r83 g [.agg ⟨[.bool y0.V6,.int .u64 y0.Hi,.int .u64 y0.Lo]⟩,.agg ⟨[.bool y1.V6,.int .u64 y1.Hi,.int .u64 y1.Lo]⟩] []=some (rx83 x):=(XaS (XaY _)).trans ((XaS (XaY _)).trans (XaZ hx))
def s83 (g:Xaa→Xaa→Option Bool):Xbp:=⟨[.v,.v],r83 g⟩
theorem XNL {g:Xaa→Xaa→Option Bool} {y0:Xaa} {y1:Xaa} {x:Bool} (hx:g y0 y1=some x):(s83 g).run [.agg ⟨[.bool y0.V6,.int .u64 y0.Hi,.int .u64 y0.Lo]⟩,.agg ⟨[.bool y1.V6,.int .u64 y1.Hi,.int .u64 y1.Lo]⟩] []=some (rx83 x):=r83_c hx
abbrev Xzd (Xax:Xaa→Xaa→Int→Int→Option (List UInt8)):List (Nat×Xbp):=[(95,s95 Xax)]
theorem XDu (Xax:Xaa→Xaa→Int→Int→Option (List UInt8)) (hS:Xai Tryz.prog (Xar (Xzd Xax))) (src:Xaa) (dst:Xaa) (res:Bool) (h:XhR Xax src dst=some res) :
 XaD Tryz.prog 83 0 ⟨⟨83,9,[(0,.agg ⟨[.bool src.V6,.int .u64 src.Hi,.int .u64 src.Lo]⟩),(1,.agg ⟨[.bool dst.V6,.int .u64 dst.Hi,.int .u64 dst.Lo]⟩)],[.code XOS],[],false,none⟩,[],[],0⟩ (fun v H _=>Res 0 (rx83 res) v H):=by
 unfold XhR at h
 refine Xa9 Xam hS true 3000 ?_
 conv=>whnf
 replace h:=Xak.elim h;obtain ⟨p,hy,h⟩:=h
 refine XaH.q rfl rfl (Xrm hy) rfl rfl rfl ?_
 conv=>whnf
 all_goals (cases h;exact Res.z rfl rfl rfl)
theorem ok83 (Xax:Xaa→Xaa→Int→Int→Option (List UInt8)) (hS:Xai Tryz.prog (Xar (Xzd Xax))):Xan Tryz.prog 83 (s83 (XhR Xax)):=by
 refine Xan.Xau Xam (fun ar os r ha hr=>?_) ⟨Tryz.f83,rfl,by decide,rfl⟩
 replace hr:r83 (XhR Xax) ar (XaA os)=some r:=hr
 unfold r83 at hr
 generalize hc:XaA os=C at hr
 replace hr:=dV.elim hr;obtain ⟨v0,l1,y0,rfl,e0,hr⟩:=hr;obtain rfl:=XaN _ _ e0
 replace hr:=dV.elim hr;obtain ⟨v1,l2,y1,rfl,e1,hr⟩:=hr;obtain rfl:=XaN _ _ e1
 replace hr:=Xdg hr;obtain ⟨rfl,rfl,x,h,rfl⟩:=hr
 obtain rfl:=Xao hc
 exact ⟨_,rfl,XDu Xax hS _ _ x h⟩
def XdH:Xaa→Xaa→Option Bool:=XhR Xax
theorem XVu:Xan Tryz.prog 83 (s83 XdH):=ok83 Xax (Xai.XaW ⟨Xq6,trivial⟩)
def XgZ (m:Xaf) (six:Bool):Option Bool:=
 cond (decide (m.Kind<1))
  (
  some (false))
  (
  cond (decide (m.Kind>3))
   (
   some (false))
   (
   cond (decide (m.Code<0))
    (
    some (false))
    (
    cond (decide (m.Code>255))
     (
     some (false))
     (
     cond (decide (m.MTU<0))
      (
      some (false))
      (
      cond (decide (m.MTU>65535))
       (
       some (false))
       (
       cond (m.Kind !=2)
        (
        cond (m.MTU !=0)
         (
         some (false))
         (
         cond (decide ((m.Quote.length:Int)>1232))
          (
          some (false))
          (
          cond (six)
           (
           some (true))
           (
           cond (m.Kind==3)
            (
            some (true))
            (
            some ((m.Kind==2)==(m.Code==4)))))))
        (
        cond (decide ((m.Quote.length:Int)>1232))
         (
         some (false))
         (
         cond (six)
          (
          some (m.Code==0))
          (
          cond (m.Kind==3)
           (
           some (true))
           (
           some ((m.Kind==2)==(m.Code==4))))))))))))
def rx84 (x:Bool):Xco:=⟨.bool x,[],[]⟩
def r84 (g:Xaf→Bool→Option Bool):Dec:=dV XcL fun (y0:Xaf)=>dV asB fun (y1:Bool)=>Xc5 (ofG (g y0 y1) rx84)
theorem r84_c {g:Xaf→Bool→Option Bool} {y0:Xaf} {y1:Bool} {x:Bool} (hx:g y0 y1=some x):r84 g [.agg ⟨[.int .i64 y0.Kind,.int .i64 y0.Code,.int .i64 y0.MTU,.string ⟨⟨y0.Quote⟩⟩]⟩,.bool y1] []=some (rx84 x):=(XaS (Xds _)).trans ((XaS (XmA)).trans (XaZ hx))
def s84 (g:Xaf→Bool→Option Bool):Xbp:=⟨[.v,.v],r84 g⟩
theorem X23 {g:Xaf→Bool→Option Bool} {y0:Xaf} {y1:Bool} {x:Bool} (hx:g y0 y1=some x):(s84 g).run [.agg ⟨[.int .i64 y0.Kind,.int .i64 y0.Code,.int .i64 y0.MTU,.string ⟨⟨y0.Quote⟩⟩]⟩,.bool y1] []=some (rx84 x):=r84_c hx
abbrev XA3:List (Nat×Xbp):=[]
theorem XIV (hS:Xai Tryz.prog (Xar (XA3))) (m:Xaf) (six:Bool) (res:Bool) (h:XgZ m six=some res) :
 XaD Tryz.prog 84 0 ⟨⟨84,70,[(0,.agg ⟨[.int .i64 m.Kind,.int .i64 m.Code,.int .i64 m.MTU,.string ⟨⟨m.Quote⟩⟩]⟩),(1,.bool six)],[.code XAE],[],false,none⟩,[],[],0⟩ (fun v H _=>Res 0 (rx84 res) v H):=by
 unfold XgZ at h
 refine Xa9 Xam hS true 3000 ?_
 conv=>whnf
 refine br.h h ?_ ?_ ?_
 ·rfl
 ·clear h;intro hb h;conv=>whnf
  all_goals (cases h;exact Res.z rfl rfl rfl)
 clear h;intro hb h;conv=>whnf
 refine br.h h ?_ ?_ ?_
 ·rfl
 ·clear h;intro hb h;conv=>whnf
  all_goals (cases h;exact Res.z rfl rfl rfl)
 clear h;intro hb h;conv=>whnf
 refine br.h h ?_ ?_ ?_
 ·rfl
 ·clear h;intro hb h;conv=>whnf
  all_goals (cases h;exact Res.z rfl rfl rfl)
 clear h;intro hb h;conv=>whnf
 refine br.h h ?_ ?_ ?_
 ·rfl
 ·clear h;intro hb h;conv=>whnf
  all_goals (cases h;exact Res.z rfl rfl rfl)
 clear h;intro hb h;conv=>whnf
 refine br.h h ?_ ?_ ?_
 ·rfl
 ·clear h;intro hb h;conv=>whnf
  all_goals (cases h;exact Res.z rfl rfl rfl)
 clear h;intro hb h;conv=>whnf
 refine br.h h ?_ ?_ ?_
 ·rfl
 ·clear h;intro hb h;conv=>whnf
  all_goals (cases h;exact Res.z rfl rfl rfl)
 clear h;intro hb h;conv=>whnf
 refine br.h2 h ?_ ?_ ?_
 ·rfl
 ·clear h;intro hb h;conv=>whnf
  refine br.h h ?_ ?_ ?_
  ·rfl
  ·clear h;intro hb h;conv=>whnf
   all_goals (cases h;exact Res.z rfl rfl rfl)
  clear h;intro hb h;conv=>whnf
  refine br.h h ?_ ?_ ?_
  ·rfl
  ·clear h;intro hb h;conv=>whnf
   refine br.neg ?_ ?_;(focus (clear h;first|assumption|(simp_all;done)))
   conv=>whnf
   all_goals (cases h;exact Res.z rfl rfl rfl)
  clear h;intro hb h;conv=>whnf
  refine br.h h ?_ ?_ ?_
  ·rfl
  ·clear h;intro hb h;conv=>whnf
   all_goals (cases h;exact Res.z rfl rfl rfl)
  clear h;intro hb h;conv=>whnf
  all_goals (cases h;exact Res.z rfl rfl rfl)
 clear h;intro hb h;conv=>whnf
 refine br.h h ?_ ?_ ?_
 ·rfl
 ·clear h;intro hb h;conv=>whnf
  all_goals (cases h;exact Res.z rfl rfl rfl)
 clear h;intro hb h;conv=>whnf
 refine br.h h ?_ ?_ ?_
 ·rfl
 ·clear h;intro hb h;conv=>whnf
  all_goals (cases h;exact Res.z rfl rfl rfl)
 clear h;intro hb h;conv=>whnf
 refine br.h h ?_ ?_ ?_
 ·rfl
 ·clear h;intro hb h;conv=>whnf
  refine br.pos ?_ ?_;(focus (clear h;first|assumption|(simp_all;done)))
  conv=>whnf
  all_goals (cases h;exact Res.z rfl rfl rfl)
 clear h;intro hb h;conv=>whnf
 refine br.h h ?_ ?_ ?_
 ·rfl
 ·clear h;intro hb h;conv=>whnf
  all_goals (cases h;exact Res.z rfl rfl rfl)
 clear h;intro hb h;conv=>whnf
 all_goals (cases h;exact Res.z rfl rfl rfl)
theorem ok84 (hS:Xai Tryz.prog (Xar (XA3))):Xan Tryz.prog 84 (s84 (XgZ)):=by
 refine Xan.Xau Xam (fun ar os r ha hr=>?_) ⟨Tryz.f84,rfl,by decide,rfl⟩
 replace hr:r84 (XgZ) ar (XaA os)=some r:=hr
 unfold r84 at hr
 generalize hc:XaA os=C at hr
 replace hr:=dV.elim hr;obtain ⟨v0,l1,y0,rfl,e0,hr⟩:=hr;obtain rfl:=Xdc _ _ e0
 replace hr:=dV.elim hr;obtain ⟨v1,l2,y1,rfl,e1,hr⟩:=hr;obtain rfl:=Xja _ _ e1
 replace hr:=Xdg hr;obtain ⟨rfl,rfl,x,h,rfl⟩:=hr
 obtain rfl:=Xao hc
 exact ⟨_,rfl,XIV hS _ _ x h⟩
def XcW:Xaf→Bool→Option Bool:=XgZ
theorem X1s:Xan Tryz.prog 84 (s84 XcW):=ok84 (Xai.XaW trivial)
def Xjl (six:Bool) (k:Int):Option Int:=
 cond (six)
  (
  some (k))
  (
  cond (k==3)
   (
   some (11))
   (
   some (3)))
def rx86 (x:Int):Xco:=⟨.int .i64 x,[],[]⟩
def r86 (g:Bool→Int→Option Int):Dec:=dV asB fun (y0:Bool)=>dV (asI .i64) fun (y1:Int)=>Xc5 (ofG (g y0 y1) rx86)
theorem r86_c {g:Bool→Int→Option Int} {y0:Bool} {y1:Int} {x:Int} (hx:g y0 y1=some x):r86 g [.bool y0,.int .i64 y1] []=some (rx86 x):=(XaS (XmA)).trans ((XaS (XcI _)).trans (XaZ hx))
def s86 (g:Bool→Int→Option Int):Xbp:=⟨[.v,.v],r86 g⟩
theorem X0S {g:Bool→Int→Option Int} {y0:Bool} {y1:Int} {x:Int} (hx:g y0 y1=some x):(s86 g).run [.bool y0,.int .i64 y1] []=some (rx86 x):=r86_c hx
abbrev XAd:List (Nat×Xbp):=[]
theorem XIn (hS:Xai Tryz.prog (Xar (XAd))) (six:Bool) (k:Int) (res:Int) (h:Xjl six k=some res) :
 XaD Tryz.prog 86 0 ⟨⟨86,9,[(0,.bool six),(1,.int .i64 k)],[.code XAx],[],false,none⟩,[],[],0⟩ (fun v H _=>Res 0 (rx86 res) v H):=by
 unfold Xjl at h
 refine Xa9 Xam hS true 3000 ?_
 conv=>whnf
 refine br.h h ?_ ?_ ?_
 ·rfl
 ·clear h;intro hb h;conv=>whnf
  all_goals (cases h;exact Res.z rfl rfl rfl)
 clear h;intro hb h;conv=>whnf
 refine br.h h ?_ ?_ ?_
 ·rfl
 ·clear h;intro hb h;conv=>whnf
  all_goals (cases h;exact Res.z rfl rfl rfl)
 clear h;intro hb h;conv=>whnf
 all_goals (cases h;exact Res.z rfl rfl rfl)
theorem ok86 (hS:Xai Tryz.prog (Xar (XAd))):Xan Tryz.prog 86 (s86 (Xjl)):=by
 refine Xan.Xau Xam (fun ar os r ha hr=>?_) ⟨Tryz.f86,rfl,by decide,rfl⟩
 replace hr:r86 (Xjl) ar (XaA os)=some r:=hr
 unfold r86 at hr
 generalize hc:XaA os=C at hr
 replace hr:=dV.elim hr;obtain ⟨v0,l1,y0,rfl,e0,hr⟩:=hr;obtain rfl:=Xja _ _ e0
 replace hr:=dV.elim hr;obtain ⟨v1,l2,y1,rfl,e1,hr⟩:=hr;obtain rfl:=XbP _ _ _ e1
 replace hr:=Xdg hr;obtain ⟨rfl,rfl,x,h,rfl⟩:=hr
 obtain rfl:=Xao hc
 exact ⟨_,rfl,XIn hS _ _ x h⟩
def Xes:Bool→Int→Option Int:=Xjl
theorem XWj:Xan Tryz.prog 86 (s86 Xes):=ok86 (Xai.XaW trivial)
def XhQ (Xax:Xaa→Xaa→Int→Int→Option (List UInt8)) (src:Xaa) (dst:Xaa) (n:Int):Option (List UInt8):=
 cond (src.V6)
  (
  (Xax src dst 58 n).bind fun p=>
  some (p))
  (
  some ([]))
def rx89 (x:List UInt8):Xco:=⟨.string ⟨⟨x⟩⟩,[],[]⟩
def r89 (g:Xaa→Xaa→Int→Option (List UInt8)):Dec:=dV Xa7 fun (y0:Xaa)=>dV Xa7 fun (y1:Xaa)=>dV (asI .i64) fun (y2:Int)=>Xc5 (ofG (g y0 y1 y2) rx89)
theorem r89_c {g:Xaa→Xaa→Int→Option (List UInt8)} {y0:Xaa} {y1:Xaa} {y2:Int} {x:List UInt8} (hx:g y0 y1 y2=some x):r89 g [.agg ⟨[.bool y0.V6,.int .u64 y0.Hi,.int .u64 y0.Lo]⟩,.agg ⟨[.bool y1.V6,.int .u64 y1.Hi,.int .u64 y1.Lo]⟩,.int .i64 y2] []=some (rx89 x):=(XaS (XaY _)).trans ((XaS (XaY _)).trans ((XaS (XcI _)).trans (XaZ hx)))
def s89 (g:Xaa→Xaa→Int→Option (List UInt8)):Xbp:=⟨[.v,.v,.v],r89 g⟩
theorem X5y {g:Xaa→Xaa→Int→Option (List UInt8)} {y0:Xaa} {y1:Xaa} {y2:Int} {x:List UInt8} (hx:g y0 y1 y2=some x):(s89 g).run [.agg ⟨[.bool y0.V6,.int .u64 y0.Hi,.int .u64 y0.Lo]⟩,.agg ⟨[.bool y1.V6,.int .u64 y1.Hi,.int .u64 y1.Lo]⟩,.int .i64 y2] []=some (rx89 x):=r89_c hx
abbrev Xzp (Xax:Xaa→Xaa→Int→Int→Option (List UInt8)):List (Nat×Xbp):=[(95,s95 Xax)]
theorem XCK (Xax:Xaa→Xaa→Int→Int→Option (List UInt8)) (hS:Xai Tryz.prog (Xar (Xzp Xax))) (src:Xaa) (dst:Xaa) (n:Int) (res:List UInt8) (h:XhQ Xax src dst n=some res) :
 XaD Tryz.prog 89 0 ⟨⟨89,13,[(0,.agg ⟨[.bool src.V6,.int .u64 src.Hi,.int .u64 src.Lo]⟩),(1,.agg ⟨[.bool dst.V6,.int .u64 dst.Hi,.int .u64 dst.Lo]⟩),(2,.int .i64 n)],[.code X20],[],false,none⟩,[],[],0⟩ (fun v H _=>Res 0 (rx89 res) v H):=by
 unfold XhQ at h
 refine Xa9 Xam hS true 3000 ?_
 conv=>whnf
 refine br.h2 h ?_ ?_ ?_
 ·rfl
 ·clear h;intro hb h;conv=>whnf
  all_goals (cases h;exact Res.z rfl rfl rfl)
 clear h;intro hb h;conv=>whnf
 replace h:=Xak.elim h;obtain ⟨p,hy,h⟩:=h
 refine XaH.q rfl rfl (Xrm hy) rfl rfl rfl ?_
 conv=>whnf
 all_goals (cases h;exact Res.z rfl rfl rfl)
theorem ok89 (Xax:Xaa→Xaa→Int→Int→Option (List UInt8)) (hS:Xai Tryz.prog (Xar (Xzp Xax))):Xan Tryz.prog 89 (s89 (XhQ Xax)):=by
 refine Xan.Xau Xam (fun ar os r ha hr=>?_) ⟨Tryz.f89,rfl,by decide,rfl⟩
 replace hr:r89 (XhQ Xax) ar (XaA os)=some r:=hr
 unfold r89 at hr
 generalize hc:XaA os=C at hr
 replace hr:=dV.elim hr;obtain ⟨v0,l1,y0,rfl,e0,hr⟩:=hr;obtain rfl:=XaN _ _ e0
 replace hr:=dV.elim hr;obtain ⟨v1,l2,y1,rfl,e1,hr⟩:=hr;obtain rfl:=XaN _ _ e1
 replace hr:=dV.elim hr;obtain ⟨v2,l3,y2,rfl,e2,hr⟩:=hr;obtain rfl:=XbP _ _ _ e2
 replace hr:=Xdg hr;obtain ⟨rfl,rfl,x,h,rfl⟩:=hr
 obtain rfl:=Xao hc
 exact ⟨_,rfl,XCK Xax hS _ _ _ x h⟩
def XdA:Xaa→Xaa→Int→Option (List UInt8):=XhQ Xax
theorem XPm:Xan Tryz.prog 89 (s89 XdA):=ok89 Xax (Xai.XaW ⟨Xq6,trivial⟩)
def Xjq (XaU:Int→Int→Option (List UInt8)) (Xc1:(List UInt8)→Option Int) (Xb1:(List UInt8)→Int→Int→Int→Option (List UInt8)) (XdA:Xaa→Xaa→Int→Option (List UInt8)) (XdH:Xaa→Xaa→Option Bool) (XcW:Xaf→Bool→Option Bool) (Xes:Bool→Int→Option Int) (m:Xaf) (src:Xaa) (dst:Xaa):Option ((List UInt8)×Int):=
 (XdH src dst).bind fun p=>
 cond (!p)
  (
  some (([],1)))
  (
  (XcW m src.V6).bind fun xr=>
  cond (!xr)
   (
   some (([],1)))
   (
   (Xes src.V6 m.Kind).bind fun t=>
   (XaU (wI .u64 t) 1).bind fun p1=>
   (XaU (wI .u64 m.Code) 1).bind fun p2=>
   XaK (decide (p1.length+p2.length<2^63)) <|
   XaK (decide ((p1++p2).length+4<2^63)) <|
   (XaU (wI .u64 m.MTU) 2).bind fun p3=>
   XaK (decide (((p1++p2)++[0,0,0,0]).length+p3.length<2^63)) <|
   XaK (decide ((((p1++p2)++[0,0,0,0])++p3).length+m.Quote.length<2^63)) <|
   let t1:=(((p1++p2)++[0,0,0,0])++p3)++m.Quote
   (XdA src dst (t1.length:Int)).bind fun xo=>
   XaK (decide (xo.length+t1.length<2^63)) <|
   (Xc1 (xo++t1)).bind fun xo1=>
   (Xb1 t1 2 2 (wI .u64 xo1)).bind fun s=>
   some ((s,0))))
def rx50 (x:(List UInt8)×Int):Xco:=⟨.tuple ⟨[.string ⟨⟨x.1⟩⟩,.int .i64 x.2]⟩,[],[]⟩
def r50 (g:Xaf→Xaa→Xaa→Option ((List UInt8)×Int)):Dec:=dV XcL fun (y0:Xaf)=>dV Xa7 fun (y1:Xaa)=>dV Xa7 fun (y2:Xaa)=>Xc5 (ofG (g y0 y1 y2) rx50)
theorem r50_c {g:Xaf→Xaa→Xaa→Option ((List UInt8)×Int)} {y0:Xaf} {y1:Xaa} {y2:Xaa} {x:(List UInt8)×Int} (hx:g y0 y1 y2=some x):r50 g [.agg ⟨[.int .i64 y0.Kind,.int .i64 y0.Code,.int .i64 y0.MTU,.string ⟨⟨y0.Quote⟩⟩]⟩,.agg ⟨[.bool y1.V6,.int .u64 y1.Hi,.int .u64 y1.Lo]⟩,.agg ⟨[.bool y2.V6,.int .u64 y2.Hi,.int .u64 y2.Lo]⟩] []=some (rx50 x):=(XaS (Xds _)).trans ((XaS (XaY _)).trans ((XaS (XaY _)).trans (XaZ hx)))
def s50 (g:Xaf→Xaa→Xaa→Option ((List UInt8)×Int)):Xbp:=⟨[.v,.v,.v],r50 g⟩
theorem XX1 {g:Xaf→Xaa→Xaa→Option ((List UInt8)×Int)} {y0:Xaf} {y1:Xaa} {y2:Xaa} {x:(List UInt8)×Int} (hx:g y0 y1 y2=some x):(s50 g).run [.agg ⟨[.int .i64 y0.Kind,.int .i64 y0.Code,.int .i64 y0.MTU,.string ⟨⟨y0.Quote⟩⟩]⟩,.agg ⟨[.bool y1.V6,.int .u64 y1.Hi,.int .u64 y1.Lo]⟩,.agg ⟨[.bool y2.V6,.int .u64 y2.Hi,.int .u64 y2.Lo]⟩] []=some (rx50 x):=r50_c hx
abbrev Xy9 (XaU:Int→Int→Option (List UInt8)) (Xc1:(List UInt8)→Option Int) (Xb1:(List UInt8)→Int→Int→Int→Option (List UInt8)) (XdA:Xaa→Xaa→Int→Option (List UInt8)) (XdH:Xaa→Xaa→Option Bool) (XcW:Xaf→Bool→Option Bool) (Xes:Bool→Int→Option Int):List (Nat×Xbp):=[(85,s85 XaU),(88,s88 Xc1),(87,s87 Xb1),(89,s89 XdA),(83,s83 XdH),(84,s84 XcW),(86,s86 Xes)]
theorem XFq (XaU:Int→Int→Option (List UInt8)) (Xc1:(List UInt8)→Option Int) (Xb1:(List UInt8)→Int→Int→Int→Option (List UInt8)) (XdA:Xaa→Xaa→Int→Option (List UInt8)) (XdH:Xaa→Xaa→Option Bool) (XcW:Xaf→Bool→Option Bool) (Xes:Bool→Int→Option Int) (hS:Xai Tryz.prog (Xar (Xy9 XaU Xc1 Xb1 XdA XdH XcW Xes))) (m:Xaf) (src:Xaa) (dst:Xaa) (res:(List UInt8)×Int) (h:Xjq XaU Xc1 Xb1 XdA XdH XcW Xes m src dst=some res) :
 XaD Tryz.prog 50 0 ⟨⟨50,52,[(0,.agg ⟨[.int .i64 m.Kind,.int .i64 m.Code,.int .i64 m.MTU,.string ⟨⟨m.Quote⟩⟩]⟩),(1,.agg ⟨[.bool src.V6,.int .u64 src.Hi,.int .u64 src.Lo]⟩),(2,.agg ⟨[.bool dst.V6,.int .u64 dst.Hi,.int .u64 dst.Lo]⟩)],[.code XBW],[],false,none⟩,[],[],0⟩ (fun v H _=>Res 0 (rx50 res) v H):=by
 unfold Xjq at h
 refine Xa9 Xam hS true 3000 ?_
 conv=>whnf
 replace h:=Xak.elim h;obtain ⟨p,hy,h⟩:=h
 refine XaH.q rfl rfl (XNL hy) rfl rfl rfl ?_
 conv=>whnf
 refine br.h h ?_ ?_ ?_
 ·rfl
 ·clear h;intro hb h;conv=>whnf
  all_goals (cases h;exact Res.z rfl rfl rfl)
 clear h;intro hb h;conv=>whnf
 replace h:=Xak.elim h;obtain ⟨xr,hy,h⟩:=h
 refine XaH.q rfl rfl (X23 hy) rfl rfl rfl ?_
 conv=>whnf
 refine br.h h ?_ ?_ ?_
 ·rfl
 ·clear h;intro hb h;conv=>whnf
  all_goals (cases h;exact Res.z rfl rfl rfl)
 clear h;intro hb h;conv=>whnf
 replace h:=Xak.elim h;obtain ⟨t,hy,h⟩:=h
 refine XaH.q rfl rfl (X0S hy) rfl rfl rfl ?_
 conv=>whnf
 replace h:=Xak.elim h;obtain ⟨p1,hy,h⟩:=h
 refine XaH.q rfl rfl (Xkz hy) rfl rfl rfl ?_
 conv=>whnf
 replace h:=Xak.elim h;obtain ⟨p2,hy,h⟩:=h
 refine XaH.q rfl rfl (Xkz hy) rfl rfl rfl ?_
 conv=>whnf
 replace h:=XaK.elim h;obtain ⟨hb,h⟩:=h
 first|(refine req.intro hb ?_;conv=>whnf)|skip
 replace h:=XaK.elim h;obtain ⟨hb,h⟩:=h
 first|(refine req.intro hb ?_;conv=>whnf)|skip
 replace h:=Xak.elim h;obtain ⟨p3,hy,h⟩:=h
 refine XaH.q rfl rfl (Xkz hy) rfl rfl rfl ?_
 conv=>whnf
 replace h:=XaK.elim h;obtain ⟨hb,h⟩:=h
 first|(refine req.intro hb ?_;conv=>whnf)|skip
 replace h:=XaK.elim h;obtain ⟨hb,h⟩:=h
 first|(refine req.intro hb ?_;conv=>whnf)|skip
 let t1:List UInt8:=(((p1++p2)++[0,0,0,0])++p3)++m.Quote
 replace h:=Xak.elim h;obtain ⟨xo,hy,h⟩:=h
 refine XaH.q rfl rfl (X5y hy) rfl rfl rfl ?_
 conv=>whnf
 replace h:=XaK.elim h;obtain ⟨hb,h⟩:=h
 first|(refine req.intro hb ?_;conv=>whnf)|skip
 replace h:=Xak.elim h;obtain ⟨xo1,hy,h⟩:=h
 refine XaH.q rfl rfl (Xth hy) rfl rfl rfl ?_
 conv=>whnf
 replace h:=Xak.elim h;obtain ⟨s,hy,h⟩:=h
 refine XaH.q rfl rfl (XvL hy) rfl rfl rfl ?_
 conv=>whnf
 all_goals (cases h;exact Res.z rfl rfl rfl)
theorem ok50 (XaU:Int→Int→Option (List UInt8)) (Xc1:(List UInt8)→Option Int) (Xb1:(List UInt8)→Int→Int→Int→Option (List UInt8)) (XdA:Xaa→Xaa→Int→Option (List UInt8)) (XdH:Xaa→Xaa→Option Bool) (XcW:Xaf→Bool→Option Bool) (Xes:Bool→Int→Option Int) (hS:Xai Tryz.prog (Xar (Xy9 XaU Xc1 Xb1 XdA XdH XcW Xes))):Xan Tryz.prog 50 (s50 (Xjq XaU Xc1 Xb1 XdA XdH XcW Xes)):=by
 refine Xan.Xau Xam (fun ar os r ha hr=>?_) ⟨Tryz.f50,rfl,by decide,rfl⟩
 replace hr:r50 (Xjq XaU Xc1 Xb1 XdA XdH XcW Xes) ar (XaA os)=some r:=hr
 unfold r50 at hr
 generalize hc:XaA os=C at hr
 replace hr:=dV.elim hr;obtain ⟨v0,l1,y0,rfl,e0,hr⟩:=hr;obtain rfl:=Xdc _ _ e0
 replace hr:=dV.elim hr;obtain ⟨v1,l2,y1,rfl,e1,hr⟩:=hr;obtain rfl:=XaN _ _ e1
 replace hr:=dV.elim hr;obtain ⟨v2,l3,y2,rfl,e2,hr⟩:=hr;obtain rfl:=XaN _ _ e2
 replace hr:=Xdg hr;obtain ⟨rfl,rfl,x,h,rfl⟩:=hr
 obtain rfl:=Xao hc
 exact ⟨_,rfl,XFq XaU Xc1 Xb1 XdA XdH XcW Xes hS _ _ _ x h⟩
def XeJ:Xaf→Xaa→Xaa→Option ((List UInt8)×Int):=Xjq XaU Xc1 Xb1 XdA XdH XcW Xes
theorem X7b:Xan Tryz.prog 50 (s50 XeJ):=ok50 XaU Xc1 Xb1 XdA XdH XcW Xes (Xai.XaW ⟨Xpw,XAJ,XAc,XPm,XVu,X1s,XWj,trivial⟩)
end Go.Vm.Code
namespace Go.Vm.Code
open Go Go.Vm
def Xoz (src dst:Xaa):Bool:=aok src&&aok dst&&(src.V6==dst.V6)
theorem XvO (src dst:Xaa) (p n:Int):(Xnn src dst p n==[])=!Xoz src dst:=by
 unfold Xnn Xoz
 by_cases h:aok src=true∧aok dst=true∧src.V6=dst.V6
 ·rw [if_pos h]
  obtain ⟨a,b,c⟩:=h
  rw [a,b,c]
  have:=Xdf src
  have hl:Xci src≠[]:=by
   intro e;rw [e] at this;revert this;cases src.V6<;>simp
  have h2:(Xci src++Xci dst++cond dst.V6 (XcG n 4++XcG 0 3++XcG p 1) (XcG 0 1++XcG p 1++XcG n 2))≠[]:=by
   intro e
   rw [List.append_assoc] at e
   exact hl (List.append_eq_nil_iff.1 e).1
  rw [show (Xci src++Xci dst++cond dst.V6 (XcG n 4++XcG 0 3++XcG p 1) (XcG 0 1++XcG p 1++XcG n 2)==[])=false by simpa using h2]
  simp
 ·rw [if_neg h]
  cases a:aok src
  ·rfl
  cases b:aok dst
  ·rfl
  have c:src.V6≠dst.V6:=fun c=>h ⟨a,b,c⟩
  simp [c]
def ov (src dst:Xaa) (n:Int):List UInt8:=cond src.V6 (Xnn src dst 58 n) []
theorem XA4 (src dst:Xaa) (n:Int):(ov src dst n).length≤56:=by
 unfold ov;cases src.V6
 ·exact Nat.zero_le _
 ·exact XkG src dst 58 n
def P53 (m:Xaf):Prop:=1≤m.Kind∧m.Kind≤3∧0≤m.Code∧m.Code≤255∧0≤m.MTU∧m.MTU≤65535∧m.Quote.length≤1232∧(m.Kind=2∨m.MTU=0)
instance (m:Xaf):Decidable (P53 m):=inferInstanceAs (Decidable (_∧_))
def M53 (m:Xaf) (v6:Bool):Bool:=cond v6 (decide (P53 m∧(m.Kind=2→m.Code=0))) (decide (P53 m∧(m.Kind=3∨(m.Kind=2∧m.Code=4)∨(m.Kind=1∧m.Code≠4))))
theorem ibeq (a b:Int):(a==b)=decide (a=b):=by rw [Bool.eq_iff_iff];simp
theorem XsU {m:Xaf} {v6:Bool} (h:M53 m v6=true):P53 m:=by
 unfold M53 at h
 cases v6
 ·rw [cond_false,decide_eq_true_eq] at h;exact h.1
 ·rw [cond_true,decide_eq_true_eq] at h;exact h.1
def Xkd (v6:Bool) (k:Int):Int:=cond v6 k (cond (k==3) 11 3)
def Xk0 (v6:Bool) (m:Xaf) (c:Nat):List UInt8:=be (Xkd v6 m.Kind).toNat 1++be m.Code.toNat 1++(be c 2++(be 0 2++be m.MTU.toNat 2++m.Quote))
theorem XkM (v6:Bool) (m:Xaf) (c:Nat):(Xk0 v6 m c).length=8+m.Quote.length:=by simp [Xk0];omega
def X0h (p:List UInt8) (v6:Bool) (m:Xaf):Nat:=ckN (Xgz (p++Xk0 v6 m 0))
def XlR (m:Xaf) (src dst:Xaa):List UInt8×Int:=
 if Xoz src dst=false then ([],1) else if M53 m src.V6=false then ([],1) else (Xk0 src.V6 m (X0h (ov src dst (8+m.Quote.length)) src.V6 m),0)
theorem Xu3 {p:List UInt8} {v6:Bool} {m:Xaf} (hp:p.length<2^30) (hm:m.Quote.length<2^30):((XbF (p++Xk0 v6 m 0)).bind fun xo=>(Xbn (Xk0 v6 m 0) 2 2 (wI .u64 xo)).bind fun s=>some (s,(0:Int)))=some (Xk0 v6 m (X0h p v6 m),0):=by
 have n:=norm_le (Xgz (p++Xk0 v6 m 0))
 have hl:=XkM v6 m 0
 rw [X49 (by rw [List.length_append];omega),Option.bind_some,XhB (by omega) (by omega),Xzx (by omega) (by omega),Option.bind_some]
 have:=Xq3 (A:=be (Xkd v6 m.Kind).toNat 1++be m.Code.toNat 1) (B:=be 0 2++be m.MTU.toNat 2++m.Quote) (p:=2) (c:=65535 - ((norm (Xgz (p++Xk0 v6 m 0)):Nat):Int)) (by simp)
 rw [show ((2:Nat):Int)=2 from rfl] at this
 show some (XpI (Xk0 v6 m 0) 2 2 _,(0:Int))=_
 rw [show XpI (Xk0 v6 m 0) 2 2 (65535 - ((norm (Xgz (p++Xk0 v6 m 0)):Nat):Int))=_ from this]
 unfold X0h ckN
 rw [show (65535 - ((norm (Xgz (p++Xk0 v6 m 0)):Nat):Int)).toNat=65535 - norm (Xgz (p++Xk0 v6 m 0)) by omega];rfl
theorem Xr1 {p:List UInt8} {v6:Bool} {m:Xaf} (hp:p.length<2^30) (hm:m.Quote.length<2^30):((Xc1 (p++Xk0 v6 m 0)).bind fun xo=>(Xb1 (Xk0 v6 m 0) 2 2 (wI .u64 xo)).bind fun s=>some (s,(0:Int)))=some (Xk0 v6 m (X0h p v6 m),0):=by
 have n:=norm_le (Xgz (p++Xk0 v6 m 0))
 have hl:=XkM v6 m 0
 rw [Xo8 (by rw [List.length_append];omega),Option.bind_some,XhB (by omega) (by omega),Xnm (by omega) (by omega) (by omega),Option.bind_some]
 have:=Xq3 (A:=be (Xkd v6 m.Kind).toNat 1++be m.Code.toNat 1) (B:=be 0 2++be m.MTU.toNat 2++m.Quote) (p:=2) (c:=65535 - ((norm (Xgz (p++Xk0 v6 m 0)):Nat):Int)) (by simp)
 rw [show ((2:Nat):Int)=2 from rfl] at this
 show some (XpI (Xk0 v6 m 0) 2 2 _,(0:Int))=_
 rw [show XpI (Xk0 v6 m 0) 2 2 (65535 - ((norm (Xgz (p++Xk0 v6 m 0)):Nat):Int))=_ from this]
 unfold X0h ckN
 rw [show (65535 - ((norm (Xgz (p++Xk0 v6 m 0)):Nat):Int)).toNat=65535 - norm (Xgz (p++Xk0 v6 m 0)) by omega];rfl
theorem XHK {src dst:Xaa} {n:Int} (h1:A4 src) (h2:A4 dst) (hn:0≤n∧n<2^63):XcO src dst n=some (cond (Xoz src dst) (ov src dst n) [],Xoz src dst):=by
 unfold XcO XgW ov
 have:=XvO src dst 58 n
 rw [XmK h1 h2 (by omega) hn,Option.bind_some,this]
 cases hp:Xoz src dst
 ·rw [hp] at this
  have e:Xnn src dst 58 n=[]:=by simpa using this
  rw [e];rfl
 ·cases src.V6<;>rfl
theorem Xva {src dst:Xaa} (h1:A4 src) (h2:A4 dst):XdH src dst=some (Xoz src dst):=by
 unfold XdH XhR
 rw [Xjv h1 h2 (by omega) (by omega),Option.bind_some,XvO,Bool.not_not]
theorem Xyx {src dst:Xaa} {n:Int} (h1:A4 src) (h2:A4 dst) (hn:0≤n∧n<2^63):XdA src dst n=some (ov src dst n):=by
 unfold XdA XhQ ov
 rw [Xjv h1 h2 (by omega) hn]
 cases src.V6<;>rfl
theorem XpK (n m:Int):XbT n m=some (decide (0≤n∧n≤m)):=by
 unfold XbT Xfr
 by_cases h:0≤n
 ·rw [XaV h];simp [h]
 ·rw [XaM h];simp [h]
theorem XoA (k c u:Int) (q:List UInt8):P53 ⟨k,c,u,q⟩↔(1≤k∧k≤3∧0≤c∧c≤255∧0≤u∧u≤65535∧q.length≤1232∧(k=2∨u=0)):=Iff.rfl
theorem Xl1 {a b:Bool} (h:a=true↔b=true):some a=some b:=by rw [Bool.eq_iff_iff.2 h]
theorem Xyq (m:Xaf) (v6:Bool):Xbg m v6=some (M53 m v6):=by
 obtain ⟨k,c,u,q⟩:=m
 unfold Xbg Xde M53 Xc6 XgQ
 simp only [XpK,Option.bind_some,bne,ibeq,←decide_not,XiC]
 cases v6
 ·simp only [cond_false,Bool.not_false,cond_true]
  repeat' split
  all_goals (try simp only [Option.bind_some,XiC])
  all_goals (repeat' split)
  all_goals (refine Xl1 ?_;simp only [decide_eq_true_eq,Bool.false_eq_true,false_iff,true_iff,XoA];omega)
 ·simp only [cond_false,Bool.not_true,cond_true]
  repeat' split
  all_goals (try simp only [Option.bind_some,XiC])
  all_goals (repeat' split)
  all_goals (refine Xl1 ?_;simp only [decide_eq_true_eq,Bool.false_eq_true,false_iff,true_iff,XoA];omega)
theorem Xsr (m:Xaf) (v6:Bool):XcW m v6=some (M53 m v6):=by
 obtain ⟨k,c,u,q⟩:=m
 unfold XcW XgZ M53
 simp only [bne,ibeq,←decide_not,XiC]
 cases v6
 ·simp only [cond_false]
  repeat' split
  all_goals (refine Xl1 ?_;simp only [decide_eq_true_eq,Bool.false_eq_true,false_iff,true_iff,beq_iff_eq,decide_eq_decide,XoA];omega)
 ·simp only [cond_true]
  repeat' split
  all_goals (refine Xl1 ?_;simp only [decide_eq_true_eq,Bool.false_eq_true,false_iff,true_iff,XoA];omega)
theorem XxA {α:Type} {k:Int} {v:Bool} (hk:k=1∨k=2∨k=3) (F:Int→Option α):((XcA).bind fun t=>
 XaK (decide (0≤k∧k<4)) <|
 ([XaC.mk t.e0.e0 t.e0.e1,XaC.mk t.e1.e0 t.e1.e1,XaC.mk t.e2.e0 t.e2.e1,XaC.mk t.e3.e0 t.e3.e1][k.toNat]?).bind fun (e:XaC)=>
 (Xc7 v).bind fun s=>
 XaK (decide (0≤s∧s<2)) <|
 ([e.SPort,e.DPort][s.toNat]?).bind fun (e1:Int)=>F e1)=F (Xkd v k):=by
 rcases hk with rfl|rfl|rfl<;>cases v<;>rfl
theorem Xpi {k:Int} {v:Bool} (hk:k=1∨k=2∨k=3):0≤Xkd v k∧Xkd v k≤11:=by
 rcases hk with rfl|rfl|rfl<;>cases v<;>decide
theorem XQ8 {n:Nat} (h:n<65536):be n 6=be 0 2++(be 0 2++be n 2):=by
 have e1:=XnD n 4 2
 rw [show (256:Nat)^2=65536 from rfl,show n/65536=0 by omega] at e1
 exact e1
theorem XLb {m:Xaf} {src dst:Xaa} (h1:A4 src) (h2:A4 dst) (hq:m.Quote.length<2^20):XdE m src dst=some (XlR m src dst):=by
 unfold XdE XhX XlR
 rw [XcC (n:=8+(m.Quote.length:Int)) (by omega) (by omega),XHK h1 h2 (by omega),Option.bind_some]
 have hl:=XA4 src dst (8+m.Quote.length)
 generalize ov src dst (8+m.Quote.length)=p at *
 cases hp:Xoz src dst
 ·rfl
 simp only [Bool.not_true,cond_false,cond_true]
 rw [Xyq,Option.bind_some,if_neg (by decide)]
 cases hm:M53 m src.V6
 ·rfl
 obtain ⟨q1,q2,q3,q4,q5,q6,q7,q8⟩:=XsU hm
 have hk:m.Kind=1∨m.Kind=2∨m.Kind=3:=by omega
 have ht:=Xpi (v:=src.V6) hk
 rw [Bool.not_true,cond_false,if_neg (by decide)]
 rw [XxA hk]
 have k1:Xaq (Xkl .u64 (wI .u64 ((wI .u64 (Xkd src.V6 m.Kind))*2^8)) (wI .u64 m.Code)) 2=some (be (Xkd src.V6 m.Kind).toNat 1++be m.Code.toNat 1):=by
  obtain ⟨x,hx⟩:=Int.eq_ofNat_of_zero_le ht.1
  obtain ⟨c,hc⟩:=Int.eq_ofNat_of_zero_le q3
  rw [hx,hc]
  have e2:Xkl .u64 (wI .u64 ((wI .u64 (x:Int))*2^8)) (wI .u64 (c:Int))=((x*256+c:Nat):Int):=by
   rw [XhB (n:=(x:Int)) (by omega) (by omega),XhB (n:=(c:Int)) (by omega) (by omega),XhB (n:=(x:Int)*2^8) (by omega) (by omega),Xg8 8 (by omega) (by omega) (by omega) (by omega) (by omega)];omega
  rw [e2,XbZ (by omega),show XcG ((x*256+c:Nat):Int) 2=be ((x*256+c:Nat):Int).toNat 2 from Xhk (k:=2) (by omega),Int.toNat_natCast,X00 _ _ (by omega)];rfl
 have k2:Xaq (wI .u64 m.MTU) 6=some (be 0 2++(be 0 2++be m.MTU.toNat 2)):=by
  rw [XhB (by omega) (by omega),XbZ (by omega),show XcG m.MTU 6=be m.MTU.toNat 6 from Xhk (k:=6) (by omega),XQ8 (by omega)]
 rw [k1,Option.bind_some,k2,Option.bind_some]
 have e:be (Xkd src.V6 m.Kind).toNat 1++be m.Code.toNat 1++(be 0 2++(be 0 2++be m.MTU.toNat 2))++m.Quote=Xk0 src.V6 m 0:=by simp only [Xk0,List.append_assoc]
 have hh:=XkM src.V6 m 0
 rw [e,Xaz (by simp),Xaz (by simp;omega),Xaz (by omega)]
 exact Xu3 (by omega) (by omega)
theorem XHX (v:Bool) (k:Int):Xes v k=some (Xkd v k):=by
 unfold Xes Xjl Xkd
 cases v
 ·cases (k==3)<;>rfl
 ·rfl
theorem XsY {m:Xaf} {src dst:Xaa} (h1:A4 src) (h2:A4 dst) (hq:m.Quote.length<2^20):XeJ m src dst=some (XlR m src dst):=by
 unfold XeJ Xjq XlR
 rw [Xva h1 h2,Option.bind_some]
 cases hp:Xoz src dst
 ·rfl
 rw [Bool.not_true,cond_false,Xsr,Option.bind_some,if_neg (by decide)]
 cases hm:M53 m src.V6
 ·rfl
 obtain ⟨q1,q2,q3,q4,q5,q6,q7,q8⟩:=XsU hm
 have hk:m.Kind=1∨m.Kind=2∨m.Kind=3:=by omega
 have ht:=Xpi (v:=src.V6) hk
 rw [Bool.not_true,cond_false,if_neg (by decide),XHX,Option.bind_some,XhB (n:=Xkd src.V6 m.Kind) (by omega) (by omega),XhB (n:=m.Code) (by omega) (by omega),XhB (n:=m.MTU) (by omega) (by omega),Xdr (by omega) (by omega),Xdr (by omega) (by omega),Xdr (by omega) (by omega)]
 simp only [Option.bind_some]
 rw [show XcG (Xkd src.V6 m.Kind) 1=be (Xkd src.V6 m.Kind).toNat 1 from Xhk (k:=1) (by omega),show XcG m.Code 1=be m.Code.toNat 1 from Xhk (k:=1) (by omega),show XcG m.MTU 2=be m.MTU.toNat 2 from Xhk (k:=2) (by omega)]
 have e:be (Xkd src.V6 m.Kind).toNat 1++be m.Code.toNat 1++[0,0,0,0]++be m.MTU.toNat 2++m.Quote=Xk0 src.V6 m 0:=by
  rw [show ([0,0,0,0]:List UInt8)=be 0 2++be 0 2 from rfl]
  simp only [Xk0,List.append_assoc]
 have hh:=XkM src.V6 m 0
 rw [e,Xaz (by simp),Xaz (by simp),Xaz (by simp),Xaz (by simp;omega),hh,Xyx h1 h2 (by omega),Option.bind_some]
 have hn:((8+m.Quote.length:Nat):Int)=8+(m.Quote.length:Int):=by omega
 rw [hn]
 have hl:=XA4 src dst (8+m.Quote.length)
 generalize ov src dst (8+m.Quote.length)=p at *
 rw [Xaz (by omega)]
 exact Xr1 (by omega) (by omega)
end Go.Vm.Code
namespace Go.Vm.Code
open Go Go.Vm Go.Proofs
set_option maxRecDepth 100000
set_option maxHeartbeats 4000000
set_option linter.unusedVariables false
def XfZ (Xet:Xah→(List UInt8)→Option ((List UInt8)×Int)) (Xer:Xaj→(List UInt8)→Option ((List UInt8)×Int)) (XeJ:Xaf→Xaa→Xaa→Option ((List UInt8)×Int)) (m:Xaf) (src:Xaa) (dst:Xaa):Option ((List UInt8)×Int):=
 (XeJ m src dst).bind fun p=>
 cond (p.2 !=0)
  (
  some (([],p.2)))
  (
  cond (src.V6)
   (
   (Xer (Xaj.mk 0 0 58 64 src dst) p.1).bind fun p1=>
   some ((p1.1,p1.2)))
   (
   (Xet (Xah.mk 0 0 true 64 1 src dst []) p.1).bind fun p2=>
   some ((p2.1,p2.2))))
def rx27 (x:(List UInt8)×Int):Xco:=⟨.tuple ⟨[.string ⟨⟨x.1⟩⟩,.int .i64 x.2]⟩,[],[]⟩
def r27 (g:Xaf→Xaa→Xaa→Option ((List UInt8)×Int)):Dec:=dV XcL fun (y0:Xaf)=>dV Xa7 fun (y1:Xaa)=>dV Xa7 fun (y2:Xaa)=>Xc5 (ofG (g y0 y1 y2) rx27)
theorem r27_c {g:Xaf→Xaa→Xaa→Option ((List UInt8)×Int)} {y0:Xaf} {y1:Xaa} {y2:Xaa} {x:(List UInt8)×Int} (hx:g y0 y1 y2=some x):r27 g [.agg ⟨[.int .i64 y0.Kind,.int .i64 y0.Code,.int .i64 y0.MTU,.string ⟨⟨y0.Quote⟩⟩]⟩,.agg ⟨[.bool y1.V6,.int .u64 y1.Hi,.int .u64 y1.Lo]⟩,.agg ⟨[.bool y2.V6,.int .u64 y2.Hi,.int .u64 y2.Lo]⟩] []=some (rx27 x):=(XaS (Xds _)).trans ((XaS (XaY _)).trans ((XaS (XaY _)).trans (XaZ hx)))
def s27 (g:Xaf→Xaa→Xaa→Option ((List UInt8)×Int)):Xbp:=⟨[.v,.v,.v],r27 g⟩
theorem XBJ {g:Xaf→Xaa→Xaa→Option ((List UInt8)×Int)} {y0:Xaf} {y1:Xaa} {y2:Xaa} {x:(List UInt8)×Int} (hx:g y0 y1 y2=some x):(s27 g).run [.agg ⟨[.int .i64 y0.Kind,.int .i64 y0.Code,.int .i64 y0.MTU,.string ⟨⟨y0.Quote⟩⟩]⟩,.agg ⟨[.bool y1.V6,.int .u64 y1.Hi,.int .u64 y1.Lo]⟩,.agg ⟨[.bool y2.V6,.int .u64 y2.Hi,.int .u64 y2.Lo]⟩] []=some (rx27 x):=r27_c hx
abbrev XBc (Xet:Xah→(List UInt8)→Option ((List UInt8)×Int)) (Xer:Xaj→(List UInt8)→Option ((List UInt8)×Int)) (XeJ:Xaf→Xaa→Xaa→Option ((List UInt8)×Int)):List (Nat×Xbp):=[(52,s52 Xet),(51,s51 Xer),(50,s50 XeJ)]
theorem XDw (Xet:Xah→(List UInt8)→Option ((List UInt8)×Int)) (Xer:Xaj→(List UInt8)→Option ((List UInt8)×Int)) (XeJ:Xaf→Xaa→Xaa→Option ((List UInt8)×Int)) (hS:Xai Tryz.prog (Xar (XBc Xet Xer XeJ))) (m:Xaf) (src:Xaa) (dst:Xaa) (res:(List UInt8)×Int) (h:XfZ Xet Xer XeJ m src dst=some res) :
 XaD Tryz.prog 27 0 ⟨⟨27,36,[(0,.agg ⟨[.int .i64 m.Kind,.int .i64 m.Code,.int .i64 m.MTU,.string ⟨⟨m.Quote⟩⟩]⟩),(1,.agg ⟨[.bool src.V6,.int .u64 src.Hi,.int .u64 src.Lo]⟩),(2,.agg ⟨[.bool dst.V6,.int .u64 dst.Hi,.int .u64 dst.Lo]⟩)],[.code XBY],[],false,none⟩,[],[],0⟩ (fun v H _=>Res 0 (rx27 res) v H):=by
 unfold XfZ at h
 refine Xa9 Xam hS true 3000 ?_
 conv=>whnf
 replace h:=Xak.elim h;obtain ⟨p,hy,h⟩:=h
 refine XaH.q rfl rfl (XX1 hy) rfl rfl rfl ?_
 conv=>whnf
 refine br.h h ?_ ?_ ?_
 ·rfl
 ·clear h;intro hb h;conv=>whnf
  all_goals (cases h;exact Res.z rfl rfl rfl)
 clear h;intro hb h;conv=>whnf
 refine br.h h ?_ ?_ ?_
 ·rfl
 ·clear h;intro hb h;conv=>whnf
  replace h:=Xak.elim h;obtain ⟨p1,hy,h⟩:=h
  refine XaH.q rfl rfl (X2s hy) rfl rfl rfl ?_
  conv=>whnf
  all_goals (cases h;exact Res.z rfl rfl rfl)
 clear h;intro hb h;conv=>whnf
 replace h:=Xak.elim h;obtain ⟨p2,hy,h⟩:=h
 refine XaH.q rfl rfl (XN9 hy) rfl rfl rfl ?_
 conv=>whnf
 all_goals (cases h;exact Res.z rfl rfl rfl)
theorem ok27 (Xet:Xah→(List UInt8)→Option ((List UInt8)×Int)) (Xer:Xaj→(List UInt8)→Option ((List UInt8)×Int)) (XeJ:Xaf→Xaa→Xaa→Option ((List UInt8)×Int)) (hS:Xai Tryz.prog (Xar (XBc Xet Xer XeJ))):Xan Tryz.prog 27 (s27 (XfZ Xet Xer XeJ)):=by
 refine Xan.Xau Xam (fun ar os r ha hr=>?_) ⟨Tryz.f27,rfl,by decide,rfl⟩
 replace hr:r27 (XfZ Xet Xer XeJ) ar (XaA os)=some r:=hr
 unfold r27 at hr
 generalize hc:XaA os=C at hr
 replace hr:=dV.elim hr;obtain ⟨v0,l1,y0,rfl,e0,hr⟩:=hr;obtain rfl:=Xdc _ _ e0
 replace hr:=dV.elim hr;obtain ⟨v1,l2,y1,rfl,e1,hr⟩:=hr;obtain rfl:=XaN _ _ e1
 replace hr:=dV.elim hr;obtain ⟨v2,l3,y2,rfl,e2,hr⟩:=hr;obtain rfl:=XaN _ _ e2
 replace hr:=Xdg hr;obtain ⟨rfl,rfl,x,h,rfl⟩:=hr
 obtain rfl:=Xao hc
 exact ⟨_,rfl,XDw Xet Xer XeJ hS _ _ _ x h⟩
def Xb4:Xaf→Xaa→Xaa→Option ((List UInt8)×Int):=XfZ Xet Xer XeJ
theorem XNw:Xan Tryz.prog 27 (s27 Xb4):=ok27 Xet Xer XeJ (Xai.XaW ⟨X2p,XP0,X7b,trivial⟩)
def Xfh (XdE:Xaf→Xaa→Xaa→Option ((List UInt8)×Int)) (Xcf:Xah→(List UInt8)→Option ((List UInt8)×Int)) (XcV:Xaj→(List UInt8)→Option ((List UInt8)×Int)) (m:Xaf) (src:Xaa) (dst:Xaa):Option ((List UInt8)×Int):=
 (XdE m src dst).bind fun p=>
 cond (p.2 !=0)
  (
  some (([],p.2)))
  (
  cond (src.V6)
   (
   (XcV (Xaj.mk 0 0 58 64 src dst) p.1).bind fun p1=>
   some ((p1.1,p1.2)))
   (
   (Xcf (Xah.mk 0 0 true 64 1 src dst []) p.1).bind fun p2=>
   some ((p2.1,p2.2))))
def rx25 (x:(List UInt8)×Int):Xco:=⟨.tuple ⟨[.string ⟨⟨x.1⟩⟩,.int .i64 x.2]⟩,[],[]⟩
def r25 (g:Xaf→Xaa→Xaa→Option ((List UInt8)×Int)):Dec:=dV XcL fun (y0:Xaf)=>dV Xa7 fun (y1:Xaa)=>dV Xa7 fun (y2:Xaa)=>Xc5 (ofG (g y0 y1 y2) rx25)
theorem r25_c {g:Xaf→Xaa→Xaa→Option ((List UInt8)×Int)} {y0:Xaf} {y1:Xaa} {y2:Xaa} {x:(List UInt8)×Int} (hx:g y0 y1 y2=some x):r25 g [.agg ⟨[.int .i64 y0.Kind,.int .i64 y0.Code,.int .i64 y0.MTU,.string ⟨⟨y0.Quote⟩⟩]⟩,.agg ⟨[.bool y1.V6,.int .u64 y1.Hi,.int .u64 y1.Lo]⟩,.agg ⟨[.bool y2.V6,.int .u64 y2.Hi,.int .u64 y2.Lo]⟩] []=some (rx25 x):=(XaS (Xds _)).trans ((XaS (XaY _)).trans ((XaS (XaY _)).trans (XaZ hx)))
def s25 (g:Xaf→Xaa→Xaa→Option ((List UInt8)×Int)):Xbp:=⟨[.v,.v,.v],r25 g⟩
theorem Xzb {g:Xaf→Xaa→Xaa→Option ((List UInt8)×Int)} {y0:Xaf} {y1:Xaa} {y2:Xaa} {x:(List UInt8)×Int} (hx:g y0 y1 y2=some x):(s25 g).run [.agg ⟨[.int .i64 y0.Kind,.int .i64 y0.Code,.int .i64 y0.MTU,.string ⟨⟨y0.Quote⟩⟩]⟩,.agg ⟨[.bool y1.V6,.int .u64 y1.Hi,.int .u64 y1.Lo]⟩,.agg ⟨[.bool y2.V6,.int .u64 y2.Hi,.int .u64 y2.Lo]⟩] []=some (rx25 x):=r25_c hx
abbrev XBM (XdE:Xaf→Xaa→Xaa→Option ((List UInt8)×Int)) (Xcf:Xah→(List UInt8)→Option ((List UInt8)×Int)) (XcV:Xaj→(List UInt8)→Option ((List UInt8)×Int)):List (Nat×Xbp):=[(47,s47 XdE),(49,s49 Xcf),(48,s48 XcV)]
theorem XIg (XdE:Xaf→Xaa→Xaa→Option ((List UInt8)×Int)) (Xcf:Xah→(List UInt8)→Option ((List UInt8)×Int)) (XcV:Xaj→(List UInt8)→Option ((List UInt8)×Int)) (hS:Xai Tryz.prog (Xar (XBM XdE Xcf XcV))) (m:Xaf) (src:Xaa) (dst:Xaa) (res:(List UInt8)×Int) (h:Xfh XdE Xcf XcV m src dst=some res) :
 XaD Tryz.prog 25 0 ⟨⟨25,38,[(0,.agg ⟨[.int .i64 m.Kind,.int .i64 m.Code,.int .i64 m.MTU,.string ⟨⟨m.Quote⟩⟩]⟩),(1,.agg ⟨[.bool src.V6,.int .u64 src.Hi,.int .u64 src.Lo]⟩),(2,.agg ⟨[.bool dst.V6,.int .u64 dst.Hi,.int .u64 dst.Lo]⟩)],[.code Xza],[],false,none⟩,[],[],0⟩ (fun v H _=>Res 0 (rx25 res) v H):=by
 unfold Xfh at h
 refine Xa9 Xam hS true 3000 ?_
 conv=>whnf
 replace h:=Xak.elim h;obtain ⟨p,hy,h⟩:=h
 refine XaH.q rfl rfl (XRl hy) rfl rfl rfl ?_
 conv=>whnf
 refine br.h h ?_ ?_ ?_
 ·rfl
 ·clear h;intro hb h;conv=>whnf
  all_goals (cases h;exact Res.z rfl rfl rfl)
 clear h;intro hb h;conv=>whnf
 refine br.h h ?_ ?_ ?_
 ·rfl
 ·clear h;intro hb h;conv=>whnf
  replace h:=Xak.elim h;obtain ⟨p1,hy,h⟩:=h
  refine XaH.q rfl rfl (X3N hy) rfl rfl rfl ?_
  conv=>whnf
  all_goals (cases h;exact Res.z rfl rfl rfl)
 clear h;intro hb h;conv=>whnf
 replace h:=Xak.elim h;obtain ⟨p2,hy,h⟩:=h
 refine XaH.q rfl rfl (XNg hy) rfl rfl rfl ?_
 conv=>whnf
 all_goals (cases h;exact Res.z rfl rfl rfl)
theorem ok25 (XdE:Xaf→Xaa→Xaa→Option ((List UInt8)×Int)) (Xcf:Xah→(List UInt8)→Option ((List UInt8)×Int)) (XcV:Xaj→(List UInt8)→Option ((List UInt8)×Int)) (hS:Xai Tryz.prog (Xar (XBM XdE Xcf XcV))):Xan Tryz.prog 25 (s25 (Xfh XdE Xcf XcV)):=by
 refine Xan.Xau Xam (fun ar os r ha hr=>?_) ⟨Tryz.f25,rfl,by decide,rfl⟩
 replace hr:r25 (Xfh XdE Xcf XcV) ar (XaA os)=some r:=hr
 unfold r25 at hr
 generalize hc:XaA os=C at hr
 replace hr:=dV.elim hr;obtain ⟨v0,l1,y0,rfl,e0,hr⟩:=hr;obtain rfl:=Xdc _ _ e0
 replace hr:=dV.elim hr;obtain ⟨v1,l2,y1,rfl,e1,hr⟩:=hr;obtain rfl:=XaN _ _ e1
 replace hr:=dV.elim hr;obtain ⟨v2,l3,y2,rfl,e2,hr⟩:=hr;obtain rfl:=XaN _ _ e2
 replace hr:=Xdg hr;obtain ⟨rfl,rfl,x,h,rfl⟩:=hr
 obtain rfl:=Xao hc
 exact ⟨_,rfl,XIg XdE Xcf XcV hS _ _ _ x h⟩
def XbU:Xaf→Xaa→Xaa→Option ((List UInt8)×Int):=Xfh XdE Xcf XcV
theorem XXS:Xan Tryz.prog 25 (s25 XbU):=ok25 XdE Xcf XcV (Xai.XaW ⟨XOc,XWp,X6B,trivial⟩)
end Go.Vm.Code
namespace Go.Vm.Code
open Go Go.Vm
theorem Xkq {a:Xaa} (h:A4 a):XmP a:=⟨⟨h.1,h.2.1⟩,h.2.2.1,h.2.2.2⟩
def XoW (m:Xaf) (src dst:Xaa):List UInt8×Int:=
 if (XlR m src dst).2≠0 then ([],(XlR m src dst).2) else cond src.V6 (XYb ⟨0,0,58,64,src,dst⟩ (XlR m src dst).1) (X1c ⟨0,0,true,64,1,src,dst,[]⟩ (XlR m src dst).1)
theorem Xo5 (m:Xaf) (src dst:Xaa):(XlR m src dst).1.length≤8+m.Quote.length:=by
 unfold XlR
 split
 ·simp
 split
 ·simp
 ·simp only [XkM];omega
theorem XqO {m:Xaf} {src dst:Xaa} (h1:A4 src) (h2:A4 dst) (hq:m.Quote.length<2^19):XbU m src dst=some (XoW m src dst):=by
 unfold XbU Xfh XoW
 have hl:=Xo5 m src dst
 rw [XLb h1 h2 (by omega),Option.bind_some]
 generalize XlR m src dst=p at *
 by_cases g:p.2=0
 ·rw [show (p.2 !=0)=false by simpa using g,cond_false,if_neg (by simpa using g),XHd (h:=⟨0,0,58,64,src,dst⟩) (Xkq h1) (Xkq h2) (by omega),p5_eq (h:=⟨0,0,true,64,1,src,dst,[]⟩) h1 h2 (by omega) (by simp)]
  cases src.V6<;>rfl
 ·rw [show (p.2 !=0)=true by simpa using g,cond_true,if_pos g]
theorem Xry {m:Xaf} {src dst:Xaa} (h1:A4 src) (h2:A4 dst) (hq:m.Quote.length<2^19):Xb4 m src dst=some (XoW m src dst):=by
 unfold Xb4 XfZ XoW
 have hl:=Xo5 m src dst
 rw [XsY h1 h2 (by omega),Option.bind_some]
 generalize XlR m src dst=p at *
 by_cases g:p.2=0
 ·rw [show (p.2 !=0)=false by simpa using g,cond_false,if_neg (by simpa using g),Xw1 (h:=⟨0,0,58,64,src,dst⟩) (Xkq h1) (Xkq h2) (by omega),XVn (h:=⟨0,0,true,64,1,src,dst,[]⟩) h1 h2 (by omega) (by simp)]
  cases src.V6<;>rfl
 ·rw [show (p.2 !=0)=true by simpa using g,cond_true,if_pos g]
end Go.Vm.Code
namespace Go.Vm.Code
open Go Go.Vm Go.Proofs
set_option maxRecDepth 100000
set_option maxHeartbeats 4000000
set_option linter.unusedVariables false
def Xdj (x:Int) (low:Int) (high:Int):Option Bool:=
 cond (decide (low≤x))
  (
  some (decide (x≤high)))
  (
  some (false))
def rx28 (x:Bool):Xco:=⟨.bool x,[],[]⟩
def r28 (g:Int→Int→Int→Option Bool):Dec:=dV (asI .i64) fun (y0:Int)=>dV (asI .i64) fun (y1:Int)=>dV (asI .i64) fun (y2:Int)=>Xc5 (ofG (g y0 y1 y2) rx28)
theorem r28_c {g:Int→Int→Int→Option Bool} {y0:Int} {y1:Int} {y2:Int} {x:Bool} (hx:g y0 y1 y2=some x):r28 g [.int .i64 y0,.int .i64 y1,.int .i64 y2] []=some (rx28 x):=(XaS (XcI _)).trans ((XaS (XcI _)).trans ((XaS (XcI _)).trans (XaZ hx)))
def s28 (g:Int→Int→Int→Option Bool):Xbp:=⟨[.v,.v,.v],r28 g⟩
theorem XAV {g:Int→Int→Int→Option Bool} {y0:Int} {y1:Int} {y2:Int} {x:Bool} (hx:g y0 y1 y2=some x):(s28 g).run [.int .i64 y0,.int .i64 y1,.int .i64 y2] []=some (rx28 x):=r28_c hx
abbrev XA7:List (Nat×Xbp):=[]
theorem XB7 (hS:Xai Tryz.prog (Xar (XA7))) (x:Int) (low:Int) (high:Int) (res:Bool) (h:Xdj x low high=some res) :
 XaD Tryz.prog 28 0 ⟨⟨28,15,[(0,.int .i64 x),(1,.int .i64 low),(2,.int .i64 high)],[.code XQu],[],false,none⟩,[],[],0⟩ (fun v H _=>Res 0 (rx28 res) v H):=by
 unfold Xdj at h
 refine Xa9 Xam hS true 3000 ?_
 conv=>whnf
 refine br.h h ?_ ?_ ?_
 ·rfl
 ·clear h;intro hb h;conv=>whnf
  all_goals (cases h;exact Res.z rfl rfl rfl)
 clear h;intro hb h;conv=>whnf
 all_goals (cases h;exact Res.z rfl rfl rfl)
theorem ok28 (hS:Xai Tryz.prog (Xar (XA7))):Xan Tryz.prog 28 (s28 (Xdj)):=by
 refine Xan.Xau Xam (fun ar os r ha hr=>?_) ⟨Tryz.f28,rfl,by decide,rfl⟩
 replace hr:r28 (Xdj) ar (XaA os)=some r:=hr
 unfold r28 at hr
 generalize hc:XaA os=C at hr
 replace hr:=dV.elim hr;obtain ⟨v0,l1,y0,rfl,e0,hr⟩:=hr;obtain rfl:=XbP _ _ _ e0
 replace hr:=dV.elim hr;obtain ⟨v1,l2,y1,rfl,e1,hr⟩:=hr;obtain rfl:=XbP _ _ _ e1
 replace hr:=dV.elim hr;obtain ⟨v2,l3,y2,rfl,e2,hr⟩:=hr;obtain rfl:=XbP _ _ _ e2
 replace hr:=Xdg hr;obtain ⟨rfl,rfl,x,h,rfl⟩:=hr
 obtain rfl:=Xao hc
 exact ⟨_,rfl,XB7 hS _ _ _ x h⟩
def XaE:Int→Int→Int→Option Bool:=Xdj
theorem XzP:Xan Tryz.prog 28 (s28 XaE):=ok28 (Xai.XaW trivial)
def Xjs (XaE:Int→Int→Int→Option Bool) (mtu:Int):Option Bool:=
 (XaE mtu 576 9000).bind fun i=>
 some (i)
def rx23 (x:Bool):Xco:=⟨.bool x,[],[]⟩
def r23 (g:Int→Option Bool):Dec:=dV (asI .i64) fun (y0:Int)=>Xc5 (ofG (g y0) rx23)
theorem r23_c {g:Int→Option Bool} {y0:Int} {x:Bool} (hx:g y0=some x):r23 g [.int .i64 y0] []=some (rx23 x):=(XaS (XcI _)).trans (XaZ hx)
def s23 (g:Int→Option Bool):Xbp:=⟨[.v],r23 g⟩
theorem XAb {g:Int→Option Bool} {y0:Int} {x:Bool} (hx:g y0=some x):(s23 g).run [.int .i64 y0] []=some (rx23 x):=r23_c hx
abbrev XBj (XaE:Int→Int→Int→Option Bool):List (Nat×Xbp):=[(28,s28 XaE)]
theorem XC5 (XaE:Int→Int→Int→Option Bool) (hS:Xai Tryz.prog (Xar (XBj XaE))) (mtu:Int) (res:Bool) (h:Xjs XaE mtu=some res) :
 XaD Tryz.prog 23 0 ⟨⟨23,5,[(0,.int .i64 mtu)],[.code X2d],[],false,none⟩,[],[],0⟩ (fun v H _=>Res 0 (rx23 res) v H):=by
 unfold Xjs at h
 refine Xa9 Xam hS true 3000 ?_
 conv=>whnf
 replace h:=Xak.elim h;obtain ⟨i,hy,h⟩:=h
 refine XaH.q rfl rfl (XAV hy) rfl rfl rfl ?_
 conv=>whnf
 all_goals (cases h;exact Res.z rfl rfl rfl)
theorem ok23 (XaE:Int→Int→Int→Option Bool) (hS:Xai Tryz.prog (Xar (XBj XaE))):Xan Tryz.prog 23 (s23 (Xjs XaE)):=by
 refine Xan.Xau Xam (fun ar os r ha hr=>?_) ⟨Tryz.f23,rfl,by decide,rfl⟩
 replace hr:r23 (Xjs XaE) ar (XaA os)=some r:=hr
 unfold r23 at hr
 generalize hc:XaA os=C at hr
 replace hr:=dV.elim hr;obtain ⟨v0,l1,y0,rfl,e0,hr⟩:=hr;obtain rfl:=XbP _ _ _ e0
 replace hr:=Xdg hr;obtain ⟨rfl,rfl,x,h,rfl⟩:=hr
 obtain rfl:=Xao hc
 exact ⟨_,rfl,XC5 XaE hS _ x h⟩
def Xcc:Int→Option Bool:=Xjs XaE
theorem XBd:Xan Tryz.prog 23 (s23 Xcc):=ok23 XaE (Xai.XaW ⟨XzP,trivial⟩)
def Xij (v6:Bool):Option Int:=
 cond (v6)
  (
  some (48))
  (
  some (28))
def rx24 (x:Int):Xco:=⟨.int .i64 x,[],[]⟩
def r24 (g:Bool→Option Int):Dec:=dV asB fun (y0:Bool)=>Xc5 (ofG (g y0) rx24)
theorem r24_c {g:Bool→Option Int} {y0:Bool} {x:Int} (hx:g y0=some x):r24 g [.bool y0] []=some (rx24 x):=(XaS (XmA)).trans (XaZ hx)
def s24 (g:Bool→Option Int):Xbp:=⟨[.v],r24 g⟩
theorem XzZ {g:Bool→Option Int} {y0:Bool} {x:Int} (hx:g y0=some x):(s24 g).run [.bool y0] []=some (rx24 x):=r24_c hx
abbrev XBD:List (Nat×Xbp):=[]
theorem XDK (hS:Xai Tryz.prog (Xar (XBD))) (v6:Bool) (res:Int) (h:Xij v6=some res) :
 XaD Tryz.prog 24 0 ⟨⟨24,4,[(0,.bool v6)],[.code XUK],[],false,none⟩,[],[],0⟩ (fun v H _=>Res 0 (rx24 res) v H):=by
 unfold Xij at h
 refine Xa9 Xam hS true 3000 ?_
 conv=>whnf
 refine br.h h ?_ ?_ ?_
 ·rfl
 ·clear h;intro hb h;conv=>whnf
  all_goals (cases h;exact Res.z rfl rfl rfl)
 clear h;intro hb h;conv=>whnf
 all_goals (cases h;exact Res.z rfl rfl rfl)
theorem ok24 (hS:Xai Tryz.prog (Xar (XBD))):Xan Tryz.prog 24 (s24 (Xij)):=by
 refine Xan.Xau Xam (fun ar os r ha hr=>?_) ⟨Tryz.f24,rfl,by decide,rfl⟩
 replace hr:r24 (Xij) ar (XaA os)=some r:=hr
 unfold r24 at hr
 generalize hc:XaA os=C at hr
 replace hr:=dV.elim hr;obtain ⟨v0,l1,y0,rfl,e0,hr⟩:=hr;obtain rfl:=Xja _ _ e0
 replace hr:=Xdg hr;obtain ⟨rfl,rfl,x,h,rfl⟩:=hr
 obtain rfl:=Xao hc
 exact ⟨_,rfl,XDK hS _ x h⟩
def XbC:Bool→Option Int:=Xij
theorem XAa:Xan Tryz.prog 24 (s24 XbC):=ok24 (Xai.XaW trivial)
def XhY (XbC:Bool→Option Int) (Xcc:Int→Option Bool) (mtu:Int) (v6:Bool):Option Int:=
 (Xcc mtu).bind fun m=>
 cond (!m)
  (
  some (0))
  (
  (XbC v6).bind fun xh=>
  some (wI .i64 ((wI .i64 (mtu - xh)) - 18)))
def rx8 (x:Int):Xco:=⟨.int .i64 x,[],[]⟩
def r8 (g:Int→Bool→Option Int):Dec:=dV (asI .i64) fun (y0:Int)=>dV asB fun (y1:Bool)=>Xc5 (ofG (g y0 y1) rx8)
theorem r8_c {g:Int→Bool→Option Int} {y0:Int} {y1:Bool} {x:Int} (hx:g y0 y1=some x):r8 g [.int .i64 y0,.bool y1] []=some (rx8 x):=(XaS (XcI _)).trans ((XaS (XmA)).trans (XaZ hx))
def s8 (g:Int→Bool→Option Int):Xbp:=⟨[.v,.v],r8 g⟩
theorem XpR {g:Int→Bool→Option Int} {y0:Int} {y1:Bool} {x:Int} (hx:g y0 y1=some x):(s8 g).run [.int .i64 y0,.bool y1] []=some (rx8 x):=r8_c hx
abbrev XZw (XbC:Bool→Option Int) (Xcc:Int→Option Bool):List (Nat×Xbp):=[(24,s24 XbC),(23,s23 Xcc)]
theorem X4B (XbC:Bool→Option Int) (Xcc:Int→Option Bool) (hS:Xai Tryz.prog (Xar (XZw XbC Xcc))) (mtu:Int) (v6:Bool) (res:Int) (h:XhY XbC Xcc mtu v6=some res) :
 XaD Tryz.prog 8 0 ⟨⟨8,13,[(0,.int .i64 mtu),(1,.bool v6)],[.code k8_9],[],false,none⟩,[],[],0⟩ (fun v H _=>Res 0 (rx8 res) v H):=by
 unfold XhY at h
 refine Xa9 Xam hS true 3000 ?_
 conv=>whnf
 replace h:=Xak.elim h;obtain ⟨m,hy,h⟩:=h
 refine XaH.q rfl rfl (XAb hy) rfl rfl rfl ?_
 conv=>whnf
 refine br.h h ?_ ?_ ?_
 ·rfl
 ·clear h;intro hb h;conv=>whnf
  all_goals (cases h;exact Res.z rfl rfl rfl)
 clear h;intro hb h;conv=>whnf
 replace h:=Xak.elim h;obtain ⟨xh,hy,h⟩:=h
 refine XaH.q rfl rfl (XzZ hy) rfl rfl rfl ?_
 conv=>whnf
 all_goals (cases h;exact Res.z rfl rfl rfl)
theorem ok8 (XbC:Bool→Option Int) (Xcc:Int→Option Bool) (hS:Xai Tryz.prog (Xar (XZw XbC Xcc))):Xan Tryz.prog 8 (s8 (XhY XbC Xcc)):=by
 refine Xan.Xau Xam (fun ar os r ha hr=>?_) ⟨Tryz.f8,rfl,by decide,rfl⟩
 replace hr:r8 (XhY XbC Xcc) ar (XaA os)=some r:=hr
 unfold r8 at hr
 generalize hc:XaA os=C at hr
 replace hr:=dV.elim hr;obtain ⟨v0,l1,y0,rfl,e0,hr⟩:=hr;obtain rfl:=XbP _ _ _ e0
 replace hr:=dV.elim hr;obtain ⟨v1,l2,y1,rfl,e1,hr⟩:=hr;obtain rfl:=Xja _ _ e1
 replace hr:=Xdg hr;obtain ⟨rfl,rfl,x,h,rfl⟩:=hr
 obtain rfl:=Xao hc
 exact ⟨_,rfl,X4B XbC Xcc hS _ _ x h⟩
def Xa1:Int→Bool→Option Int:=XhY XbC Xcc
theorem XIX:Xan Tryz.prog 8 (s8 Xa1):=ok8 XbC Xcc (Xai.XaW ⟨XAa,XBd,trivial⟩)
def Xh1 (Xa1:Int→Bool→Option Int) (s:List UInt8) (mtu:Int) (v6:Bool):Option Bool:=
 (Xa1 mtu v6).bind fun xr=>
 some (decide ((s.length:Int)≤xr))
def rx10 (x:Bool):Xco:=⟨.bool x,[],[]⟩
def r10 (g:(List UInt8)→Int→Bool→Option Bool):Dec:=dV asS fun (y0:List UInt8)=>dV (asI .i64) fun (y1:Int)=>dV asB fun (y2:Bool)=>Xc5 (ofG (g y0 y1 y2) rx10)
theorem r10_c {g:(List UInt8)→Int→Bool→Option Bool} {y0:List UInt8} {y1:Int} {y2:Bool} {x:Bool} (hx:g y0 y1 y2=some x):r10 g [.string ⟨⟨y0⟩⟩,.int .i64 y1,.bool y2] []=some (rx10 x):=(XaS (XdL)).trans ((XaS (XcI _)).trans ((XaS (XmA)).trans (XaZ hx)))
def s10 (g:(List UInt8)→Int→Bool→Option Bool):Xbp:=⟨[.v,.v,.v],r10 g⟩
theorem Xo0 {g:(List UInt8)→Int→Bool→Option Bool} {y0:List UInt8} {y1:Int} {y2:Bool} {x:Bool} (hx:g y0 y1 y2=some x):(s10 g).run [.string ⟨⟨y0⟩⟩,.int .i64 y1,.bool y2] []=some (rx10 x):=r10_c hx
abbrev XBl (Xa1:Int→Bool→Option Int):List (Nat×Xbp):=[(8,s8 Xa1)]
theorem XB5 (Xa1:Int→Bool→Option Int) (hS:Xai Tryz.prog (Xar (XBl Xa1))) (s:List UInt8) (mtu:Int) (v6:Bool) (res:Bool) (h:Xh1 Xa1 s mtu v6=some res) :
 XaD Tryz.prog 10 0 ⟨⟨10,13,[(0,.string ⟨⟨s⟩⟩),(1,.int .i64 mtu),(2,.bool v6)],[.code X2u],[],false,none⟩,[],[],0⟩ (fun v H _=>Res 0 (rx10 res) v H):=by
 unfold Xh1 at h
 refine Xa9 Xam hS true 3000 ?_
 conv=>whnf
 replace h:=Xak.elim h;obtain ⟨xr,hy,h⟩:=h
 refine XaH.q rfl rfl (XpR hy) rfl rfl rfl ?_
 conv=>whnf
 all_goals (cases h;exact Res.z rfl rfl rfl)
theorem ok10 (Xa1:Int→Bool→Option Int) (hS:Xai Tryz.prog (Xar (XBl Xa1))):Xan Tryz.prog 10 (s10 (Xh1 Xa1)):=by
 refine Xan.Xau Xam (fun ar os r ha hr=>?_) ⟨Tryz.f10,rfl,by decide,rfl⟩
 replace hr:r10 (Xh1 Xa1) ar (XaA os)=some r:=hr
 unfold r10 at hr
 generalize hc:XaA os=C at hr
 replace hr:=dV.elim hr;obtain ⟨v0,l1,y0,rfl,e0,hr⟩:=hr;obtain rfl:=Xb8 _ _ e0
 replace hr:=dV.elim hr;obtain ⟨v1,l2,y1,rfl,e1,hr⟩:=hr;obtain rfl:=XbP _ _ _ e1
 replace hr:=dV.elim hr;obtain ⟨v2,l3,y2,rfl,e2,hr⟩:=hr;obtain rfl:=Xja _ _ e2
 replace hr:=Xdg hr;obtain ⟨rfl,rfl,x,h,rfl⟩:=hr
 obtain rfl:=Xao hc
 exact ⟨_,rfl,XB5 Xa1 hS _ _ _ x h⟩
def Xbq:(List UInt8)→Int→Bool→Option Bool:=Xh1 Xa1
theorem XzX:Xan Tryz.prog 10 (s10 Xbq):=ok10 Xa1 (Xai.XaW ⟨XIX,trivial⟩)
def XgX (XaE:Int→Int→Int→Option Bool) (known:Int) (told:Int):Option Int:=
 (XaE told 576 known).bind fun i=>
 cond (i)
  (
  some (told))
  (
  some (known))
def rx11 (x:Int):Xco:=⟨.int .i64 x,[],[]⟩
def r11 (g:Int→Int→Option Int):Dec:=dV (asI .i64) fun (y0:Int)=>dV (asI .i64) fun (y1:Int)=>Xc5 (ofG (g y0 y1) rx11)
theorem r11_c {g:Int→Int→Option Int} {y0:Int} {y1:Int} {x:Int} (hx:g y0 y1=some x):r11 g [.int .i64 y0,.int .i64 y1] []=some (rx11 x):=(XaS (XcI _)).trans ((XaS (XcI _)).trans (XaZ hx))
def s11 (g:Int→Int→Option Int):Xbp:=⟨[.v,.v],r11 g⟩
theorem XoZ {g:Int→Int→Option Int} {y0:Int} {y1:Int} {x:Int} (hx:g y0 y1=some x):(s11 g).run [.int .i64 y0,.int .i64 y1] []=some (rx11 x):=r11_c hx
abbrev Xzn (XaE:Int→Int→Int→Option Bool):List (Nat×Xbp):=[(28,s28 XaE)]
theorem XIw (XaE:Int→Int→Int→Option Bool) (hS:Xai Tryz.prog (Xar (Xzn XaE))) (known:Int) (told:Int) (res:Int) (h:XgX XaE known told=some res) :
 XaD Tryz.prog 11 0 ⟨⟨11,10,[(0,.int .i64 known),(1,.int .i64 told)],[.code XRA],[],false,none⟩,[],[],0⟩ (fun v H _=>Res 0 (rx11 res) v H):=by
 unfold XgX at h
 refine Xa9 Xam hS true 3000 ?_
 conv=>whnf
 replace h:=Xak.elim h;obtain ⟨i,hy,h⟩:=h
 refine XaH.q rfl rfl (XAV hy) rfl rfl rfl ?_
 conv=>whnf
 refine br.h h ?_ ?_ ?_
 ·rfl
 ·clear h;intro hb h;conv=>whnf
  all_goals (cases h;exact Res.z rfl rfl rfl)
 clear h;intro hb h;conv=>whnf
 all_goals (cases h;exact Res.z rfl rfl rfl)
theorem ok11 (XaE:Int→Int→Int→Option Bool) (hS:Xai Tryz.prog (Xar (Xzn XaE))):Xan Tryz.prog 11 (s11 (XgX XaE)):=by
 refine Xan.Xau Xam (fun ar os r ha hr=>?_) ⟨Tryz.f11,rfl,by decide,rfl⟩
 replace hr:r11 (XgX XaE) ar (XaA os)=some r:=hr
 unfold r11 at hr
 generalize hc:XaA os=C at hr
 replace hr:=dV.elim hr;obtain ⟨v0,l1,y0,rfl,e0,hr⟩:=hr;obtain rfl:=XbP _ _ _ e0
 replace hr:=dV.elim hr;obtain ⟨v1,l2,y1,rfl,e1,hr⟩:=hr;obtain rfl:=XbP _ _ _ e1
 replace hr:=Xdg hr;obtain ⟨rfl,rfl,x,h,rfl⟩:=hr
 obtain rfl:=Xao hc
 exact ⟨_,rfl,XIw XaE hS _ _ x h⟩
def XaX:Int→Int→Option Int:=XgX XaE
theorem XBw:Xan Tryz.prog 11 (s11 XaX):=ok11 XaE (Xai.XaW ⟨XzP,trivial⟩)
def Xfd (XaX:Int→Int→Option Int) (l:List Int) (n:Int) (t8:Int):Option (Sum (Int×Int) Int):=
 cond (decide (t8<(l.length:Int)))
  (
  XaK (decide ((0:Int)≤t8∧t8<(l.length:Int))) <|
  (l[t8.toNat]?).bind fun (e:Int)=>
  (XaX n e).bind fun l1=>
  some (.inl (l1,wI .i64 (t8+1))))
  (
  some (.inr (n)))
def XgO (XaX:Int→Int→Option Int) (l:List Int):Option Int:=
 iter (fun st=>Xfd XaX l st.1 st.2) FUEL (9000,0)
def XLm (x:Int):Xco:=⟨.int .i64 x,[],[none]⟩
def r12 (g:(List Int)→Option Int):Dec:=dSl 0 1 (unL (asI .i64)) fun (y0:List Int)=>Xc5 (ofG (g y0) XLm)
theorem r12_c {g:(List Int)→Option Int} {y0:List Int} {x:Int} (hx:g y0=some x):r12 g [.slice (some ⟨0,0,none⟩) y0.length 1] [some (vI .i64 y0)]=some (XLm x):=(Xro (XqV _ _)).trans (XaZ hx)
def s12 (g:(List Int)→Option Int):Xbp:=⟨[.sl 1],r12 g⟩
theorem XrH {g:(List Int)→Option Int} {y0:List Int} {x:Int} (hx:g y0=some x):(s12 g).run [.slice (some ⟨0,0,none⟩) y0.length 1] [some (vI .i64 y0)]=some (XLm x):=r12_c hx
abbrev XuA (XaX:Int→Int→Option Int):List (Nat×Xbp):=[(11,s11 XaX)]
def XkU (l:List Int) (n:Int) (t8:Int):VM:=
 ⟨⟨12,17,[(3,.int .i64 n),(6,.slice (some ⟨0,0,none⟩) l.length 1),(7,.int .i64 (l.length:Int)),(8,.int .i64 t8)],[.code Xun,.inLoop Xun,.inBlock 0,.code XBU],[],false,none⟩,[],[(0,.row false (vI .i64 l))],1⟩
theorem XwD (XaX:Int→Int→Option Int) (hS:Xai Tryz.prog (Xar (XuA XaX))) (l:List Int) (res:Int):∀ fuel (st:Int×Int) (o:Int),iter (fun st=>Xfd XaX l st.1 st.2) fuel st=some o→(o=res) →
 XaD Tryz.prog 12 1 (XkU l st.1 st.2) (fun v H _=>Res 1 (XLm res) v H):=by
 intro fuel st o h hc
 refine Xch (head:=fun st=>XkU l st.1 st.2) (C:=fun o=>(o=res)) ?_ fuel st o h hc
 clear h hc o st fuel
 intro st o h hc
 obtain ⟨n,t8⟩:=st
 replace h:Xfd XaX l n t8=some o:=h
 show XaD Tryz.prog 12 1 (XkU l n t8) (fun v H _=>Res 1 (XLm res) v H)
 unfold Xfd at h
 refine Xa9 Xam hS true 3000 ?_
 conv=>whnf
 refine br.h2 h ?_ ?_ ?_
 ·rfl
 ·clear h;intro hb h;conv=>whnf
  all_goals (cases h;cases hc)
  all_goals exact Res.of [] rfl XeY (by decide) XeZ (XkV XeX)
 clear h;intro hb h;conv=>whnf
 replace h:=XaK.elim h;obtain ⟨hb,h⟩:=h
 first|(refine req.intro hb ?_;conv=>whnf)|skip
 replace h:=Xak.elim h;obtain ⟨e,hy,h⟩:=h
 refine rd.I hy (by first|rfl|(rw [Nat.zero_add,Nat.mul_one];try rfl;done)|omega) ?_
 conv=>whnf
 replace h:=Xak.elim h;obtain ⟨l1,hy,h⟩:=h
 refine XaH.q rfl rfl (XoZ hy) rfl rfl rfl ?_
 conv=>whnf
 cases h;simp only [Sum.elim_inl,XkU] at hc
 exact Xkm hc [(0,0)] rfl
theorem XKv (XaX:Int→Int→Option Int) (hS:Xai Tryz.prog (Xar (XuA XaX))) (l:List Int) (res:Int) (h:XgO XaX l=some res) :
 XaD Tryz.prog 12 1 ⟨⟨12,17,[(0,.slice (some ⟨0,0,none⟩) l.length 1)],[.code XAO],[],false,none⟩,[],[(0,.row false (vI .i64 l))],1⟩ (fun v H _=>Res 1 (XLm res) v H):=by
 unfold XgO at h
 refine Xa9 Xam hS true 3000 ?_
 conv=>whnf
 have hl:=XwD XaX hS _ res _ _ _ h rfl;simp only [XkU] at hl
 exact Xkm hl [(0,0)] rfl
theorem ok12 (XaX:Int→Int→Option Int) (hS:Xai Tryz.prog (Xar (XuA XaX))):Xan Tryz.prog 12 (s12 (XgO XaX)):=by
 refine Xan.Xau Xam (fun ar os r ha hr=>?_) ⟨Tryz.f12,rfl,by decide,rfl⟩
 replace hr:r12 (XgO XaX) ar (XaA os)=some r:=hr
 unfold r12 at hr
 generalize hc:XaA os=C at hr
 have hq:=dSl.elim hr;clear hr;obtain ⟨c0,l1,C,y0,rfl,rfl,e0,hr⟩:=hq;obtain rfl:=Xrs e0
 replace hr:=Xdg hr;obtain ⟨rfl,rfl,x,h,rfl⟩:=hr
 obtain ⟨os,rfl,ha,hc⟩:=Xdu ha hc
 obtain rfl:=Xao hc
 exact ⟨_,rfl,XKv XaX hS _ x h⟩
def XbO:(List Int)→Option Int:=XgO XaX
theorem XWQ:Xan Tryz.prog 12 (s12 XbO):=ok12 XaX (Xai.XaW ⟨XBw,trivial⟩)
def Xgs (Xbq:(List UInt8)→Int→Bool→Option Bool) (XaX:Int→Int→Option Int) (XbO:(List Int)→Option Int) (Xa1:Int→Bool→Option Int):Option Bool:=
 (Xa1 1500 false).bind fun xr=>
 cond (xr==1454)
  (
  (Xa1 575 true).bind fun xr1=>
  cond (xr1==0)
   (
   (XaX 1500 1400).bind fun l=>
   cond (l==1400)
    (
    (XbO []).bind fun l1=>
    cond (l1==9000)
     (
     (Xbq [] 600 true).bind fun f=>
     some (f))
     (
     some (false)))
    (
    some (false)))
   (
   some (false)))
  (
  some (false))
def rx5 (x:Bool):Xco:=⟨.bool x,[],[]⟩
def r5 (g:Option Bool):Dec:=Xc5 (ofG (g) rx5)
theorem r5_c {g:Option Bool} {x:Bool} (hx:g=some x):r5 g [] []=some (rx5 x):=XaZ hx
def s5 (g:Option Bool):Xbp:=⟨[],r5 g⟩
theorem Xu4 {g:Option Bool} {x:Bool} (hx:g=some x):(s5 g).run [] []=some (rx5 x):=r5_c hx
abbrev XWu (Xbq:(List UInt8)→Int→Bool→Option Bool) (XaX:Int→Int→Option Int) (XbO:(List Int)→Option Int) (Xa1:Int→Bool→Option Int):List (Nat×Xbp):=[(10,s10 Xbq),(11,s11 XaX),(12,s12 XbO),(8,s8 Xa1)]
theorem X11 (Xbq:(List UInt8)→Int→Bool→Option Bool) (XaX:Int→Int→Option Int) (XbO:(List Int)→Option Int) (Xa1:Int→Bool→Option Int) (hS:Xai Tryz.prog (Xar (XWu Xbq XaX XbO Xa1))) (res:Bool) (h:Xgs Xbq XaX XbO Xa1=some res) :
 XaD Tryz.prog 5 0 ⟨⟨5,18,[],[.code k5_3],[],false,none⟩,[],[],0⟩ (fun v H _=>Res 0 (rx5 res) v H):=by
 unfold Xgs at h
 refine Xa9 Xam hS true 3000 ?_
 conv=>whnf
 replace h:=Xak.elim h;obtain ⟨xr,hy,h⟩:=h
 refine XaH.q rfl rfl (XpR hy) rfl rfl rfl ?_
 conv=>whnf
 refine br.h2 h ?_ ?_ ?_
 ·rfl
 ·clear h;intro hb h;conv=>whnf
  all_goals (cases h;exact Res.z rfl rfl rfl)
 clear h;intro hb h;conv=>whnf
 replace h:=Xak.elim h;obtain ⟨xr1,hy,h⟩:=h
 refine XaH.q rfl rfl (XpR hy) rfl rfl rfl ?_
 conv=>whnf
 refine br.h2 h ?_ ?_ ?_
 ·rfl
 ·clear h;intro hb h;conv=>whnf
  all_goals (cases h;exact Res.z rfl rfl rfl)
 clear h;intro hb h;conv=>whnf
 replace h:=Xak.elim h;obtain ⟨l,hy,h⟩:=h
 refine XaH.q rfl rfl (XoZ hy) rfl rfl rfl ?_
 conv=>whnf
 refine br.h2 h ?_ ?_ ?_
 ·rfl
 ·clear h;intro hb h;conv=>whnf
  all_goals (cases h;exact Res.z rfl rfl rfl)
 clear h;intro hb h;conv=>whnf
 replace h:=Xak.elim h;obtain ⟨l1,hy,h⟩:=h
 refine XaH.Xbb [] (Xat («as»:=[.slice (some ⟨0,0,none⟩) ([]:List Int).length 1]) (ws:=[.emp false]) (n:=0) (m:=1) (t':=1) (Xas rfl rfl Xbd) rfl (by rfl) (XrH hy) rfl rfl rfl rfl (XgE rfl Xbc) Xba rfl) ?_
 conv=>whnf
 refine br.h2 h ?_ ?_ ?_
 ·rfl
 ·clear h;intro hb h;conv=>whnf
  all_goals (cases h;exact Res.z rfl rfl rfl)
 clear h;intro hb h;conv=>whnf
 replace h:=Xak.elim h;obtain ⟨f,hy,h⟩:=h
 refine XaH.q rfl rfl (Xo0 hy) rfl rfl rfl ?_
 conv=>whnf
 all_goals (cases h;exact Res.z rfl rfl rfl)
theorem ok5 (Xbq:(List UInt8)→Int→Bool→Option Bool) (XaX:Int→Int→Option Int) (XbO:(List Int)→Option Int) (Xa1:Int→Bool→Option Int) (hS:Xai Tryz.prog (Xar (XWu Xbq XaX XbO Xa1))):Xan Tryz.prog 5 (s5 (Xgs Xbq XaX XbO Xa1)):=by
 refine Xan.Xau Xam (fun ar os r ha hr=>?_) ⟨Tryz.f5,rfl,by decide,rfl⟩
 replace hr:r5 (Xgs Xbq XaX XbO Xa1) ar (XaA os)=some r:=hr
 unfold r5 at hr
 generalize hc:XaA os=C at hr
 replace hr:=Xdg hr;obtain ⟨rfl,rfl,x,h,rfl⟩:=hr
 obtain rfl:=Xao hc
 exact ⟨_,rfl,X11 Xbq XaX XbO Xa1 hS x h⟩
def Xcw:Option Bool:=Xgs Xbq XaX XbO Xa1
theorem lift5:Xan Tryz.prog 5 (s5 Xcw):=ok5 Xbq XaX XbO Xa1 (Xai.XaW ⟨XzX,XBw,XWQ,XIX,trivial⟩)
def Xg7 (XbU:Xaf→Xaa→Xaa→Option ((List UInt8)×Int)) (Xbq:(List UInt8)→Int→Bool→Option Bool) (Xa1:Int→Bool→Option Int) (XbC:Bool→Option Int) (Xcc:Int→Option Bool) (XbR:(List UInt8)→Option (Xag×Int)) (s:List UInt8) (mtu:Int) (v6:Bool):Option ((List UInt8)×Int):=
 (XbR s).bind fun p=>
 cond (p.2 !=0)
  (
  some (([],p.2)))
  (
  (Xbq s mtu v6).bind fun f=>
  cond (f)
   (
   some (([],11)))
   (
   (Xcc mtu).bind fun m=>
   cond (!m)
    (
    some (([],1)))
    (
    (Xa1 mtu v6).bind fun xr=>
    (XbC p.1.Tuple.Src.V6).bind fun xh=>
    XaK (decide ((0:Int)≤xh∧xh≤(s.length:Int))) <|
    cond (p.1.Tuple.Src.V6)
     (
     (XbU (Xaf.mk 2 0 xr (s.take xh.toNat)) p.1.Tuple.Dst p.1.Tuple.Src).bind fun p1=>
     some ((p1.1,p1.2)))
     (
     (XbU (Xaf.mk 2 4 xr (s.take xh.toNat)) p.1.Tuple.Dst p.1.Tuple.Src).bind fun p2=>
     some ((p2.1,p2.2))))))
def rx6 (x:(List UInt8)×Int):Xco:=⟨.tuple ⟨[.string ⟨⟨x.1⟩⟩,.int .i64 x.2]⟩,[],[]⟩
def r6 (g:(List UInt8)→Int→Bool→Option ((List UInt8)×Int)):Dec:=dV asS fun (y0:List UInt8)=>dV (asI .i64) fun (y1:Int)=>dV asB fun (y2:Bool)=>Xc5 (ofG (g y0 y1 y2) rx6)
theorem r6_c {g:(List UInt8)→Int→Bool→Option ((List UInt8)×Int)} {y0:List UInt8} {y1:Int} {y2:Bool} {x:(List UInt8)×Int} (hx:g y0 y1 y2=some x):r6 g [.string ⟨⟨y0⟩⟩,.int .i64 y1,.bool y2] []=some (rx6 x):=(XaS (XdL)).trans ((XaS (XcI _)).trans ((XaS (XmA)).trans (XaZ hx)))
def s6 (g:(List UInt8)→Int→Bool→Option ((List UInt8)×Int)):Xbp:=⟨[.v,.v,.v],r6 g⟩
theorem r6_eq {g:(List UInt8)→Int→Bool→Option ((List UInt8)×Int)} {y0:List UInt8} {y1:Int} {y2:Bool} {x:(List UInt8)×Int} (hx:g y0 y1 y2=some x):(s6 g).run [.string ⟨⟨y0⟩⟩,.int .i64 y1,.bool y2] []=some (rx6 x):=r6_c hx
abbrev XXi (XbU:Xaf→Xaa→Xaa→Option ((List UInt8)×Int)) (Xbq:(List UInt8)→Int→Bool→Option Bool) (Xa1:Int→Bool→Option Int) (XbC:Bool→Option Int) (Xcc:Int→Option Bool) (XbR:(List UInt8)→Option (Xag×Int)):List (Nat×Xbp):=[(25,s25 XbU),(10,s10 Xbq),(8,s8 Xa1),(24,s24 XbC),(23,s23 Xcc),(22,s22 XbR)]
theorem X2r (XbU:Xaf→Xaa→Xaa→Option ((List UInt8)×Int)) (Xbq:(List UInt8)→Int→Bool→Option Bool) (Xa1:Int→Bool→Option Int) (XbC:Bool→Option Int) (Xcc:Int→Option Bool) (XbR:(List UInt8)→Option (Xag×Int)) (hS:Xai Tryz.prog (Xar (XXi XbU Xbq Xa1 XbC Xcc XbR))) (s:List UInt8) (mtu:Int) (v6:Bool) (res:(List UInt8)×Int) (h:Xg7 XbU Xbq Xa1 XbC Xcc XbR s mtu v6=some res) :
 XaD Tryz.prog 6 0 ⟨⟨6,54,[(0,.string ⟨⟨s⟩⟩),(1,.int .i64 mtu),(2,.bool v6)],[.code XU2],[],false,none⟩,[],[],0⟩ (fun v H _=>Res 0 (rx6 res) v H):=by
 unfold Xg7 at h
 refine Xa9 Xam hS true 3000 ?_
 conv=>whnf
 replace h:=Xak.elim h;obtain ⟨p,hy,h⟩:=h
 refine XaH.q rfl rfl (XPg hy) rfl rfl rfl ?_
 conv=>whnf
 refine br.h h ?_ ?_ ?_
 ·rfl
 ·clear h;intro hb h;conv=>whnf
  all_goals (cases h;exact Res.z rfl rfl rfl)
 clear h;intro hb h;conv=>whnf
 replace h:=Xak.elim h;obtain ⟨f,hy,h⟩:=h
 refine XaH.q rfl rfl (Xo0 hy) rfl rfl rfl ?_
 conv=>whnf
 refine br.h h ?_ ?_ ?_
 ·rfl
 ·clear h;intro hb h;conv=>whnf
  all_goals (cases h;exact Res.z rfl rfl rfl)
 clear h;intro hb h;conv=>whnf
 replace h:=Xak.elim h;obtain ⟨m,hy,h⟩:=h
 refine XaH.q rfl rfl (XAb hy) rfl rfl rfl ?_
 conv=>whnf
 refine br.h h ?_ ?_ ?_
 ·rfl
 ·clear h;intro hb h;conv=>whnf
  all_goals (cases h;exact Res.z rfl rfl rfl)
 clear h;intro hb h;conv=>whnf
 replace h:=Xak.elim h;obtain ⟨xr,hy,h⟩:=h
 refine XaH.q rfl rfl (XpR hy) rfl rfl rfl ?_
 conv=>whnf
 replace h:=Xak.elim h;obtain ⟨xh,hy,h⟩:=h
 refine XaH.q rfl rfl (XzZ hy) rfl rfl rfl ?_
 conv=>whnf
 replace h:=XaK.elim h;obtain ⟨hb,h⟩:=h
 first|(refine req.intro hb ?_;conv=>whnf)|skip
 refine br.h h ?_ ?_ ?_
 ·rfl
 ·clear h;intro hb h;conv=>whnf
  replace h:=Xak.elim h;obtain ⟨p1,hy,h⟩:=h
  refine XaH.q rfl rfl (Xzb hy) rfl rfl rfl ?_
  conv=>whnf
  all_goals (cases h;exact Res.z rfl rfl rfl)
 clear h;intro hb h;conv=>whnf
 replace h:=Xak.elim h;obtain ⟨p2,hy,h⟩:=h
 refine XaH.q rfl rfl (Xzb hy) rfl rfl rfl ?_
 conv=>whnf
 all_goals (cases h;exact Res.z rfl rfl rfl)
theorem ok6 (XbU:Xaf→Xaa→Xaa→Option ((List UInt8)×Int)) (Xbq:(List UInt8)→Int→Bool→Option Bool) (Xa1:Int→Bool→Option Int) (XbC:Bool→Option Int) (Xcc:Int→Option Bool) (XbR:(List UInt8)→Option (Xag×Int)) (hS:Xai Tryz.prog (Xar (XXi XbU Xbq Xa1 XbC Xcc XbR))):Xan Tryz.prog 6 (s6 (Xg7 XbU Xbq Xa1 XbC Xcc XbR)):=by
 refine Xan.Xau Xam (fun ar os r ha hr=>?_) ⟨Tryz.f6,rfl,by decide,rfl⟩
 replace hr:r6 (Xg7 XbU Xbq Xa1 XbC Xcc XbR) ar (XaA os)=some r:=hr
 unfold r6 at hr
 generalize hc:XaA os=C at hr
 replace hr:=dV.elim hr;obtain ⟨v0,l1,y0,rfl,e0,hr⟩:=hr;obtain rfl:=Xb8 _ _ e0
 replace hr:=dV.elim hr;obtain ⟨v1,l2,y1,rfl,e1,hr⟩:=hr;obtain rfl:=XbP _ _ _ e1
 replace hr:=dV.elim hr;obtain ⟨v2,l3,y2,rfl,e2,hr⟩:=hr;obtain rfl:=Xja _ _ e2
 replace hr:=Xdg hr;obtain ⟨rfl,rfl,x,h,rfl⟩:=hr
 obtain rfl:=Xao hc
 exact ⟨_,rfl,X2r XbU Xbq Xa1 XbC Xcc XbR hS _ _ _ x h⟩
def XeM:(List UInt8)→Int→Bool→Option ((List UInt8)×Int):=Xg7 XbU Xbq Xa1 XbC Xcc XbR
theorem lift6:Xan Tryz.prog 6 (s6 XeM):=ok6 XbU Xbq Xa1 XbC Xcc XbR (Xai.XaW ⟨XXS,XzX,XIX,XAa,XBd,XNq,trivial⟩)
def Xg2 (mtu:Int):Option Bool:=
 cond (decide (mtu≥576))
  (
  some (decide (mtu≤9000)))
  (
  some (false))
def rx26 (x:Bool):Xco:=⟨.bool x,[],[]⟩
def r26 (g:Int→Option Bool):Dec:=dV (asI .i64) fun (y0:Int)=>Xc5 (ofG (g y0) rx26)
theorem r26_c {g:Int→Option Bool} {y0:Int} {x:Bool} (hx:g y0=some x):r26 g [.int .i64 y0] []=some (rx26 x):=(XaS (XcI _)).trans (XaZ hx)
def s26 (g:Int→Option Bool):Xbp:=⟨[.v],r26 g⟩
theorem XsV {g:Int→Option Bool} {y0:Int} {x:Bool} (hx:g y0=some x):(s26 g).run [.int .i64 y0] []=some (rx26 x):=r26_c hx
abbrev Xze:List (Nat×Xbp):=[]
theorem XGI (hS:Xai Tryz.prog (Xar (Xze))) (mtu:Int) (res:Bool) (h:Xg2 mtu=some res) :
 XaD Tryz.prog 26 0 ⟨⟨26,9,[(0,.int .i64 mtu)],[.code XMe],[],false,none⟩,[],[],0⟩ (fun v H _=>Res 0 (rx26 res) v H):=by
 unfold Xg2 at h
 refine Xa9 Xam hS true 3000 ?_
 conv=>whnf
 refine br.h h ?_ ?_ ?_
 ·rfl
 ·clear h;intro hb h;conv=>whnf
  all_goals (cases h;exact Res.z rfl rfl rfl)
 clear h;intro hb h;conv=>whnf
 all_goals (cases h;exact Res.z rfl rfl rfl)
theorem ok26 (hS:Xai Tryz.prog (Xar (Xze))):Xan Tryz.prog 26 (s26 (Xg2)):=by
 refine Xan.Xau Xam (fun ar os r ha hr=>?_) ⟨Tryz.f26,rfl,by decide,rfl⟩
 replace hr:r26 (Xg2) ar (XaA os)=some r:=hr
 unfold r26 at hr
 generalize hc:XaA os=C at hr
 replace hr:=dV.elim hr;obtain ⟨v0,l1,y0,rfl,e0,hr⟩:=hr;obtain rfl:=XbP _ _ _ e0
 replace hr:=Xdg hr;obtain ⟨rfl,rfl,x,h,rfl⟩:=hr
 obtain rfl:=Xao hc
 exact ⟨_,rfl,XGI hS _ x h⟩
def XaO:Int→Option Bool:=Xg2
theorem XsX:Xan Tryz.prog 26 (s26 XaO):=ok26 (Xai.XaW trivial)
def Xh0 (XaO:Int→Option Bool) (mtu:Int) (six:Bool):Option Int:=
 (XaO mtu).bind fun xr=>
 cond (!xr)
  (
  some (0))
  (
  cond (six)
   (
   some (wI .i64 ((wI .i64 (mtu - 48)) - 18)))
   (
   some (wI .i64 ((wI .i64 (mtu - 28)) - 18))))
def rx9 (x:Int):Xco:=⟨.int .i64 x,[],[]⟩
def r9 (g:Int→Bool→Option Int):Dec:=dV (asI .i64) fun (y0:Int)=>dV asB fun (y1:Bool)=>Xc5 (ofG (g y0 y1) rx9)
theorem r9_c {g:Int→Bool→Option Int} {y0:Int} {y1:Bool} {x:Int} (hx:g y0 y1=some x):r9 g [.int .i64 y0,.bool y1] []=some (rx9 x):=(XaS (XcI _)).trans ((XaS (XmA)).trans (XaZ hx))
def s9 (g:Int→Bool→Option Int):Xbp:=⟨[.v,.v],r9 g⟩
theorem XnS {g:Int→Bool→Option Int} {y0:Int} {y1:Bool} {x:Int} (hx:g y0 y1=some x):(s9 g).run [.int .i64 y0,.bool y1] []=some (rx9 x):=r9_c hx
abbrev XWr (XaO:Int→Option Bool):List (Nat×Xbp):=[(26,s26 XaO)]
theorem XXp (XaO:Int→Option Bool) (hS:Xai Tryz.prog (Xar (XWr XaO))) (mtu:Int) (six:Bool) (res:Int) (h:Xh0 XaO mtu six=some res) :
 XaD Tryz.prog 9 0 ⟨⟨9,15,[(0,.int .i64 mtu),(1,.bool six)],[.code XQB],[],false,none⟩,[],[],0⟩ (fun v H _=>Res 0 (rx9 res) v H):=by
 unfold Xh0 at h
 refine Xa9 Xam hS true 3000 ?_
 conv=>whnf
 replace h:=Xak.elim h;obtain ⟨xr,hy,h⟩:=h
 refine XaH.q rfl rfl (XsV hy) rfl rfl rfl ?_
 conv=>whnf
 refine br.h h ?_ ?_ ?_
 ·rfl
 ·clear h;intro hb h;conv=>whnf
  all_goals (cases h;exact Res.z rfl rfl rfl)
 clear h;intro hb h;conv=>whnf
 refine br.h h ?_ ?_ ?_
 ·rfl
 ·clear h;intro hb h;conv=>whnf
  all_goals (cases h;exact Res.z rfl rfl rfl)
 clear h;intro hb h;conv=>whnf
 all_goals (cases h;exact Res.z rfl rfl rfl)
theorem ok9 (XaO:Int→Option Bool) (hS:Xai Tryz.prog (Xar (XWr XaO))):Xan Tryz.prog 9 (s9 (Xh0 XaO)):=by
 refine Xan.Xau Xam (fun ar os r ha hr=>?_) ⟨Tryz.f9,rfl,by decide,rfl⟩
 replace hr:r9 (Xh0 XaO) ar (XaA os)=some r:=hr
 unfold r9 at hr
 generalize hc:XaA os=C at hr
 replace hr:=dV.elim hr;obtain ⟨v0,l1,y0,rfl,e0,hr⟩:=hr;obtain rfl:=XbP _ _ _ e0
 replace hr:=dV.elim hr;obtain ⟨v1,l2,y1,rfl,e1,hr⟩:=hr;obtain rfl:=Xja _ _ e1
 replace hr:=Xdg hr;obtain ⟨rfl,rfl,x,h,rfl⟩:=hr
 obtain rfl:=Xao hc
 exact ⟨_,rfl,XXp XaO hS _ _ x h⟩
def XbQ:Int→Bool→Option Int:=Xh0 XaO
theorem lift9:Xan Tryz.prog 9 (s9 XbQ):=ok9 XaO (Xai.XaW ⟨XsX,trivial⟩)
def Xg0 (XcR:(List UInt8)→Option (Xag×Int)) (Xb4:Xaf→Xaa→Xaa→Option ((List UInt8)×Int)) (XaO:Int→Option Bool) (XbQ:Int→Bool→Option Int) (s:List UInt8) (mtu:Int) (six:Bool):Option ((List UInt8)×Int):=
 (XcR s).bind fun p=>
 cond (p.2 !=0)
  (
  some (([],p.2)))
  (
  (XbQ mtu six).bind fun xr=>
  cond (decide ((s.length:Int)≤xr))
   (
   some (([],11)))
   (
   (XaO mtu).bind fun xr1=>
   cond (!xr1)
    (
    some (([],1)))
    (
    (XbQ mtu six).bind fun xr2=>
    XaK (decide ((0:Int)≤(28:Int)∧(28:Int)≤(s.length:Int))) <|
    cond (p.1.Tuple.Src.V6)
     (
     (XbQ mtu six).bind fun xr3=>
     XaK (decide ((0:Int)≤(48:Int)∧(48:Int)≤(s.length:Int))) <|
     (Xb4 (Xaf.mk 2 0 xr3 (s.take 48)) p.1.Tuple.Dst p.1.Tuple.Src).bind fun p1=>
     some ((p1.1,p1.2)))
     (
     (Xb4 (Xaf.mk 2 4 xr2 (s.take 28)) p.1.Tuple.Dst p.1.Tuple.Src).bind fun p2=>
     some ((p2.1,p2.2))))))
def rx7 (x:(List UInt8)×Int):Xco:=⟨.tuple ⟨[.string ⟨⟨x.1⟩⟩,.int .i64 x.2]⟩,[],[]⟩
def r7 (g:(List UInt8)→Int→Bool→Option ((List UInt8)×Int)):Dec:=dV asS fun (y0:List UInt8)=>dV (asI .i64) fun (y1:Int)=>dV asB fun (y2:Bool)=>Xc5 (ofG (g y0 y1 y2) rx7)
theorem r7_c {g:(List UInt8)→Int→Bool→Option ((List UInt8)×Int)} {y0:List UInt8} {y1:Int} {y2:Bool} {x:(List UInt8)×Int} (hx:g y0 y1 y2=some x):r7 g [.string ⟨⟨y0⟩⟩,.int .i64 y1,.bool y2] []=some (rx7 x):=(XaS (XdL)).trans ((XaS (XcI _)).trans ((XaS (XmA)).trans (XaZ hx)))
def s7 (g:(List UInt8)→Int→Bool→Option ((List UInt8)×Int)):Xbp:=⟨[.v,.v,.v],r7 g⟩
theorem r7_eq {g:(List UInt8)→Int→Bool→Option ((List UInt8)×Int)} {y0:List UInt8} {y1:Int} {y2:Bool} {x:(List UInt8)×Int} (hx:g y0 y1 y2=some x):(s7 g).run [.string ⟨⟨y0⟩⟩,.int .i64 y1,.bool y2] []=some (rx7 x):=r7_c hx
abbrev XQ6 (XcR:(List UInt8)→Option (Xag×Int)) (Xb4:Xaf→Xaa→Xaa→Option ((List UInt8)×Int)) (XaO:Int→Option Bool) (XbQ:Int→Bool→Option Int):List (Nat×Xbp):=[(15,s15 XcR),(27,s27 Xb4),(26,s26 XaO),(9,s9 XbQ)]
theorem XMH (XcR:(List UInt8)→Option (Xag×Int)) (Xb4:Xaf→Xaa→Xaa→Option ((List UInt8)×Int)) (XaO:Int→Option Bool) (XbQ:Int→Bool→Option Int) (hS:Xai Tryz.prog (Xar (XQ6 XcR Xb4 XaO XbQ))) (s:List UInt8) (mtu:Int) (six:Bool) (res:(List UInt8)×Int) (h:Xg0 XcR Xb4 XaO XbQ s mtu six=some res) :
 XaD Tryz.prog 7 0 ⟨⟨7,54,[(0,.string ⟨⟨s⟩⟩),(1,.int .i64 mtu),(2,.bool six)],[.code XR9],[],false,none⟩,[],[],0⟩ (fun v H _=>Res 0 (rx7 res) v H):=by
 unfold Xg0 at h
 refine Xa9 Xam hS true 3000 ?_
 conv=>whnf
 replace h:=Xak.elim h;obtain ⟨p,hy,h⟩:=h
 refine XaH.q rfl rfl (XMn hy) rfl rfl rfl ?_
 conv=>whnf
 refine br.h h ?_ ?_ ?_
 ·rfl
 ·clear h;intro hb h;conv=>whnf
  all_goals (cases h;exact Res.z rfl rfl rfl)
 clear h;intro hb h;conv=>whnf
 replace h:=Xak.elim h;obtain ⟨xr,hy,h⟩:=h
 refine XaH.q rfl rfl (XnS hy) rfl rfl rfl ?_
 conv=>whnf
 refine br.h h ?_ ?_ ?_
 ·rfl
 ·clear h;intro hb h;conv=>whnf
  all_goals (cases h;exact Res.z rfl rfl rfl)
 clear h;intro hb h;conv=>whnf
 replace h:=Xak.elim h;obtain ⟨xr1,hy,h⟩:=h
 refine XaH.q rfl rfl (XsV hy) rfl rfl rfl ?_
 conv=>whnf
 refine br.h h ?_ ?_ ?_
 ·rfl
 ·clear h;intro hb h;conv=>whnf
  all_goals (cases h;exact Res.z rfl rfl rfl)
 clear h;intro hb h;conv=>whnf
 replace h:=Xak.elim h;obtain ⟨xr2,hy,h⟩:=h
 refine XaH.q rfl rfl (XnS hy) rfl rfl rfl ?_
 conv=>whnf
 replace h:=XaK.elim h;obtain ⟨hb,h⟩:=h
 first|(refine req.intro hb ?_;conv=>whnf)|skip
 refine br.h2 h ?_ ?_ ?_
 ·rfl
 ·clear h;intro hb h;conv=>whnf
  replace h:=Xak.elim h;obtain ⟨p2,hy,h⟩:=h
  refine XaH.q rfl rfl (XBJ hy) rfl rfl rfl ?_
  conv=>whnf
  all_goals (cases h;exact Res.z rfl rfl rfl)
 clear h;intro hb h;conv=>whnf
 replace h:=Xak.elim h;obtain ⟨xr3,hy,h⟩:=h
 refine XaH.q rfl rfl (XnS hy) rfl rfl rfl ?_
 conv=>whnf
 replace h:=XaK.elim h;obtain ⟨hb,h⟩:=h
 first|(refine req.intro hb ?_;conv=>whnf)|skip
 replace h:=Xak.elim h;obtain ⟨p1,hy,h⟩:=h
 refine XaH.q rfl rfl (XBJ hy) rfl rfl rfl ?_
 conv=>whnf
 all_goals (cases h;exact Res.z rfl rfl rfl)
theorem ok7 (XcR:(List UInt8)→Option (Xag×Int)) (Xb4:Xaf→Xaa→Xaa→Option ((List UInt8)×Int)) (XaO:Int→Option Bool) (XbQ:Int→Bool→Option Int) (hS:Xai Tryz.prog (Xar (XQ6 XcR Xb4 XaO XbQ))):Xan Tryz.prog 7 (s7 (Xg0 XcR Xb4 XaO XbQ)):=by
 refine Xan.Xau Xam (fun ar os r ha hr=>?_) ⟨Tryz.f7,rfl,by decide,rfl⟩
 replace hr:r7 (Xg0 XcR Xb4 XaO XbQ) ar (XaA os)=some r:=hr
 unfold r7 at hr
 generalize hc:XaA os=C at hr
 replace hr:=dV.elim hr;obtain ⟨v0,l1,y0,rfl,e0,hr⟩:=hr;obtain rfl:=Xb8 _ _ e0
 replace hr:=dV.elim hr;obtain ⟨v1,l2,y1,rfl,e1,hr⟩:=hr;obtain rfl:=XbP _ _ _ e1
 replace hr:=dV.elim hr;obtain ⟨v2,l3,y2,rfl,e2,hr⟩:=hr;obtain rfl:=Xja _ _ e2
 replace hr:=Xdg hr;obtain ⟨rfl,rfl,x,h,rfl⟩:=hr
 obtain rfl:=Xao hc
 exact ⟨_,rfl,XMH XcR Xb4 XaO XbQ hS _ _ _ x h⟩
def XeC:(List UInt8)→Int→Bool→Option ((List UInt8)×Int):=Xg0 XcR Xb4 XaO XbQ
theorem lift7:Xan Tryz.prog 7 (s7 XeC):=ok7 XcR Xb4 XaO XbQ (Xai.XaW ⟨XSj,XNw,XsX,lift9,trivial⟩)
def Xfn (XaO:Int→Option Bool) (l:List Int) (n:Int) (i:Int):Option (Sum (Int×Int) Int):=
 cond (decide (i<(l.length:Int)))
  (
  XaK (decide ((0:Int)≤i∧i<(l.length:Int))) <|
  (l[i.toNat]?).bind fun (e:Int)=>
  (XaO e).bind fun xr=>
  cond (xr)
   (
   XaK (decide ((0:Int)≤i∧i<(l.length:Int))) <|
   (l[i.toNat]?).bind fun (e1:Int)=>
   cond (decide (e1<n))
    (
    XaK (decide ((0:Int)≤i∧i<(l.length:Int))) <|
    (l[i.toNat]?).bind fun (e2:Int)=>
    some (.inl (e2,wI .i64 (i+1))))
    (
    some (.inl (n,wI .i64 (i+1)))))
   (
   some (.inl (n,wI .i64 (i+1)))))
  (
  some (.inr (n)))
def XgP (XaO:Int→Option Bool) (l:List Int):Option Int:=
 iter (fun st=>Xfn XaO l st.1 st.2) FUEL (9000,0)
def XLr (x:Int):Xco:=⟨.int .i64 x,[],[none]⟩
def r13 (g:(List Int)→Option Int):Dec:=dSl 0 1 (unL (asI .i64)) fun (y0:List Int)=>Xc5 (ofG (g y0) XLr)
theorem r13_c {g:(List Int)→Option Int} {y0:List Int} {x:Int} (hx:g y0=some x):r13 g [.slice (some ⟨0,0,none⟩) y0.length 1] [some (vI .i64 y0)]=some (XLr x):=(Xro (XqV _ _)).trans (XaZ hx)
def s13 (g:(List Int)→Option Int):Xbp:=⟨[.sl 1],r13 g⟩
theorem XuS {g:(List Int)→Option Int} {y0:List Int} {x:Int} (hx:g y0=some x):(s13 g).run [.slice (some ⟨0,0,none⟩) y0.length 1] [some (vI .i64 y0)]=some (XLr x):=r13_c hx
abbrev XtD (XaO:Int→Option Bool):List (Nat×Xbp):=[(26,s26 XaO)]
def XiI (l:List Int) (n:Int) (i:Int):VM:=
 ⟨⟨13,29,[(0,.slice (some ⟨0,0,none⟩) l.length 1),(3,.int .i64 n),(4,.int .i64 i)],[.code XtE,.inLoop XtE,.inBlock 0,.code XAY],[],false,none⟩,[],[(0,.row false (vI .i64 l))],1⟩
theorem XxN (XaO:Int→Option Bool) (hS:Xai Tryz.prog (Xar (XtD XaO))) (l:List Int) (res:Int):∀ fuel (st:Int×Int) (o:Int),iter (fun st=>Xfn XaO l st.1 st.2) fuel st=some o→(o=res) →
 XaD Tryz.prog 13 1 (XiI l st.1 st.2) (fun v H _=>Res 1 (XLr res) v H):=by
 intro fuel st o h hc
 refine Xch (head:=fun st=>XiI l st.1 st.2) (C:=fun o=>(o=res)) ?_ fuel st o h hc
 clear h hc o st fuel
 intro st o h hc
 obtain ⟨n,i⟩:=st
 replace h:Xfn XaO l n i=some o:=h
 show XaD Tryz.prog 13 1 (XiI l n i) (fun v H _=>Res 1 (XLr res) v H)
 unfold Xfn at h
 refine Xa9 Xam hS true 3000 ?_
 conv=>whnf
 refine br.h2 h ?_ ?_ ?_
 ·rfl
 ·clear h;intro hb h;conv=>whnf
  all_goals (cases h;cases hc)
  all_goals exact Res.of [] rfl XeY (by decide) XeZ (XkV XeX)
 clear h;intro hb h;conv=>whnf
 replace h:=XaK.elim h;obtain ⟨hb,h⟩:=h
 first|(refine req.intro hb ?_;conv=>whnf)|skip
 replace h:=Xak.elim h;obtain ⟨e,hy,h⟩:=h
 refine rd.I hy (by first|rfl|(rw [Nat.zero_add,Nat.mul_one];try rfl;done)|omega) ?_
 conv=>whnf
 replace h:=Xak.elim h;obtain ⟨xr,hy,h⟩:=h
 refine XaH.q rfl rfl (XsV hy) rfl rfl rfl ?_
 conv=>whnf
 refine br.h2 h ?_ ?_ ?_
 ·rfl
 ·clear h;intro hb h;conv=>whnf
  cases h;simp only [Sum.elim_inl,XiI] at hc
  exact Xkm hc [(0,0)] rfl
 clear h;intro hb h;conv=>whnf
 replace h:=XaK.elim h;obtain ⟨hb,h⟩:=h
 first|(refine req.intro hb ?_;conv=>whnf)|skip
 replace h:=Xak.elim h;obtain ⟨e1,hy,h⟩:=h
 refine rd.I hy (by first|rfl|(rw [Nat.zero_add,Nat.mul_one];try rfl;done)|omega) ?_
 conv=>whnf
 refine br.h2 h ?_ ?_ ?_
 ·rfl
 ·clear h;intro hb h;conv=>whnf
  cases h;simp only [Sum.elim_inl,XiI] at hc
  exact Xkm hc [(0,0)] rfl
 clear h;intro hb h;conv=>whnf
 replace h:=XaK.elim h;obtain ⟨hb,h⟩:=h
 first|(refine req.intro hb ?_;conv=>whnf)|skip
 replace h:=Xak.elim h;obtain ⟨e2,hy,h⟩:=h
 refine rd.I hy (by first|rfl|(rw [Nat.zero_add,Nat.mul_one];try rfl;done)|omega) ?_
 conv=>whnf
 cases h;simp only [Sum.elim_inl,XiI] at hc
 exact Xkm hc [(0,0)] rfl
theorem XGm (XaO:Int→Option Bool) (hS:Xai Tryz.prog (Xar (XtD XaO))) (l:List Int) (res:Int) (h:XgP XaO l=some res) :
 XaD Tryz.prog 13 1 ⟨⟨13,29,[(0,.slice (some ⟨0,0,none⟩) l.length 1)],[.code XBS],[],false,none⟩,[],[(0,.row false (vI .i64 l))],1⟩ (fun v H _=>Res 1 (XLr res) v H):=by
 unfold XgP at h
 refine Xa9 Xam hS true 3000 ?_
 conv=>whnf
 have hl:=XxN XaO hS _ res _ _ _ h rfl;simp only [XiI] at hl
 exact Xkm hl [(0,0)] rfl
theorem ok13 (XaO:Int→Option Bool) (hS:Xai Tryz.prog (Xar (XtD XaO))):Xan Tryz.prog 13 (s13 (XgP XaO)):=by
 refine Xan.Xau Xam (fun ar os r ha hr=>?_) ⟨Tryz.f13,rfl,by decide,rfl⟩
 replace hr:r13 (XgP XaO) ar (XaA os)=some r:=hr
 unfold r13 at hr
 generalize hc:XaA os=C at hr
 have hq:=dSl.elim hr;clear hr;obtain ⟨c0,l1,C,y0,rfl,rfl,e0,hr⟩:=hq;obtain rfl:=Xrs e0
 replace hr:=Xdg hr;obtain ⟨rfl,rfl,x,h,rfl⟩:=hr
 obtain ⟨os,rfl,ha,hc⟩:=Xdu ha hc
 obtain rfl:=Xao hc
 exact ⟨_,rfl,XGm XaO hS _ x h⟩
def XdU:(List Int)→Option Int:=XgP XaO
theorem lift13:Xan Tryz.prog 13 (s13 XdU):=ok13 XaO (Xai.XaW ⟨XsX,trivial⟩)
def XfR (XdU:(List Int)→Option Int) (XeC:(List UInt8)→Int→Bool→Option ((List UInt8)×Int)) (XbQ:Int→Bool→Option Int) (Xcw:Option Bool) (Xbq:(List UInt8)→Int→Bool→Option Bool) (XaX:Int→Int→Option Int) (XbO:(List Int)→Option Int) (XeM:(List UInt8)→Int→Bool→Option ((List UInt8)×Int)) (Xa1:Int→Bool→Option Int) (s:List UInt8) (n:Int) (six:Bool) (known:Int) (told:Int) (l:List Int):Option Bool:=
 cond (decide ((s.length:Int)>1000))
  (
  (Xcw).bind fun a=>
  some (a))
  (
  cond (decide ((l.length:Int)>20))
   (
   (Xcw).bind fun a1=>
   some (a1))
   (
   (XeM s n six).bind fun xr=>
   (XeC s n six).bind fun xr1=>
   cond (decide (told≥576))
    (
    cond (decide (told<known))
     (
     (Xa1 n six).bind fun xr2=>
     (XbQ n six).bind fun xr3=>
     cond (xr2==xr3)
      (
      (Xbq s n six).bind fun f=>
      (XbQ n six).bind fun xr4=>
      cond (f==(decide ((s.length:Int)≤xr4)))
       (
       cond (xr.1==xr1.1)
        (
        cond (xr.2==xr1.2)
         (
         (XaX known told).bind fun l1=>
         cond (l1==told)
          (
          (XbO l).bind fun l2=>
          (XdU l).bind fun l3=>
          cond (l2==l3)
           (
           (Xcw).bind fun a2=>
           some (a2))
           (
           some (false)))
          (
          some (false)))
         (
         some (false)))
        (
        some (false)))
       (
       some (false)))
      (
      some (false)))
     (
     (Xa1 n six).bind fun xr5=>
     (XbQ n six).bind fun xr6=>
     cond (xr5==xr6)
      (
      (Xbq s n six).bind fun f1=>
      (XbQ n six).bind fun xr7=>
      cond (f1==(decide ((s.length:Int)≤xr7)))
       (
       cond (xr.1==xr1.1)
        (
        cond (xr.2==xr1.2)
         (
         (XaX known told).bind fun l4=>
         cond (l4==known)
          (
          (XbO l).bind fun l5=>
          (XdU l).bind fun l6=>
          cond (l5==l6)
           (
           (Xcw).bind fun a3=>
           some (a3))
           (
           some (false)))
          (
          some (false)))
         (
         some (false)))
        (
        some (false)))
       (
       some (false)))
      (
      some (false))))
    (
    (Xa1 n six).bind fun xr8=>
    (XbQ n six).bind fun xr9=>
    cond (xr8==xr9)
     (
     (Xbq s n six).bind fun f2=>
     (XbQ n six).bind fun xr10=>
     cond (f2==(decide ((s.length:Int)≤xr10)))
      (
      cond (xr.1==xr1.1)
       (
       cond (xr.2==xr1.2)
        (
        (XaX known told).bind fun l7=>
        cond (l7==known)
         (
         (XbO l).bind fun l8=>
         (XdU l).bind fun l9=>
         cond (l8==l9)
          (
          (Xcw).bind fun a4=>
          some (a4))
          (
          some (false)))
         (
         some (false)))
        (
        some (false)))
       (
       some (false)))
      (
      some (false)))
     (
     some (false)))))
def rx3 (x:Bool):Xco:=⟨.bool x,[],[none]⟩
def r3 (g:(List UInt8)→Int→Bool→Int→Int→(List Int)→Option Bool):Dec:=dV asS fun (y0:List UInt8)=>dV (asI .i64) fun (y1:Int)=>dV asB fun (y2:Bool)=>dV (asI .i64) fun (y3:Int)=>dV (asI .i64) fun (y4:Int)=>dSl 0 1 (unL (asI .i64)) fun (y5:List Int)=>Xc5 (ofG (g y0 y1 y2 y3 y4 y5) rx3)
def s3 (g:(List UInt8)→Int→Bool→Int→Int→(List Int)→Option Bool):Xbp:=⟨[.v,.v,.v,.v,.v,.sl 1],r3 g⟩
abbrev sums3 (XdU:(List Int)→Option Int) (XeC:(List UInt8)→Int→Bool→Option ((List UInt8)×Int)) (XbQ:Int→Bool→Option Int) (Xcw:Option Bool) (Xbq:(List UInt8)→Int→Bool→Option Bool) (XaX:Int→Int→Option Int) (XbO:(List Int)→Option Int) (XeM:(List UInt8)→Int→Bool→Option ((List UInt8)×Int)) (Xa1:Int→Bool→Option Int):List (Nat×Xbp):=[(13,s13 XdU),(7,s7 XeC),(9,s9 XbQ),(5,s5 Xcw),(10,s10 Xbq),(11,s11 XaX),(12,s12 XbO),(6,s6 XeM),(8,s8 Xa1)]
theorem leads3 (XdU:(List Int)→Option Int) (XeC:(List UInt8)→Int→Bool→Option ((List UInt8)×Int)) (XbQ:Int→Bool→Option Int) (Xcw:Option Bool) (Xbq:(List UInt8)→Int→Bool→Option Bool) (XaX:Int→Int→Option Int) (XbO:(List Int)→Option Int) (XeM:(List UInt8)→Int→Bool→Option ((List UInt8)×Int)) (Xa1:Int→Bool→Option Int) (hS:Xai Tryz.prog (Xar (sums3 XdU XeC XbQ Xcw Xbq XaX XbO XeM Xa1))) (s:List UInt8) (n:Int) (six:Bool) (known:Int) (told:Int) (l:List Int) (res:Bool) (h:XfR XdU XeC XbQ Xcw Xbq XaX XbO XeM Xa1 s n six known told l=some res) :
 XaD Tryz.prog 3 1 ⟨⟨3,97,[(0,.string ⟨⟨s⟩⟩),(1,.int .i64 n),(2,.bool six),(3,.int .i64 known),(4,.int .i64 told),(5,.slice (some ⟨0,0,none⟩) l.length 1)],[.code X7i],[],false,none⟩,[],[(0,.row false (vI .i64 l))],1⟩ (fun v H _=>Res 1 (rx3 res) v H):=by
 unfold XfR at h
 refine Xa9 Xam hS true 3000 ?_
 conv=>whnf
 refine br.h h ?_ ?_ ?_
 ·rfl
 ·clear h;intro hb h;conv=>whnf
  replace h:=Xak.elim h;obtain ⟨a,hy,h⟩:=h
  refine XaH.q rfl rfl (Xu4 hy) rfl rfl rfl ?_
  conv=>whnf
  all_goals (cases h)
  all_goals exact Res.of [] rfl XeY (by decide) XeZ (XkV XeX)
 clear h;intro hb h;conv=>whnf
 refine br.h h ?_ ?_ ?_
 ·rfl
 ·clear h;intro hb h;conv=>whnf
  replace h:=Xak.elim h;obtain ⟨a1,hy,h⟩:=h
  refine XaH.q rfl rfl (Xu4 hy) rfl rfl rfl ?_
  conv=>whnf
  all_goals (cases h)
  all_goals exact Res.of [] rfl XeY (by decide) XeZ (XkV XeX)
 clear h;intro hb h;conv=>whnf
 replace h:=Xak.elim h;obtain ⟨xr,hy,h⟩:=h
 refine XaH.q rfl rfl (r6_eq hy) rfl rfl rfl ?_
 conv=>whnf
 replace h:=Xak.elim h;obtain ⟨xr1,hy,h⟩:=h
 refine XaH.q rfl rfl (r7_eq hy) rfl rfl rfl ?_
 conv=>whnf
 refine br.h2 h ?_ ?_ ?_
 ·rfl
 ·clear h;intro hb h;conv=>whnf
  replace h:=Xak.elim h;obtain ⟨xr8,hy,h⟩:=h
  refine XaH.q rfl rfl (XpR hy) rfl rfl rfl ?_
  conv=>whnf
  replace h:=Xak.elim h;obtain ⟨xr9,hy,h⟩:=h
  refine XaH.q rfl rfl (XnS hy) rfl rfl rfl ?_
  conv=>whnf
  refine br.h2 h ?_ ?_ ?_
  ·rfl
  ·clear h;intro hb h;conv=>whnf
   all_goals (cases h)
   all_goals exact Res.of [] rfl XeY (by decide) XeZ (XkV XeX)
  clear h;intro hb h;conv=>whnf
  replace h:=Xak.elim h;obtain ⟨f2,hy,h⟩:=h
  refine XaH.q rfl rfl (Xo0 hy) rfl rfl rfl ?_
  conv=>whnf
  replace h:=Xak.elim h;obtain ⟨xr10,hy,h⟩:=h
  refine XaH.q rfl rfl (XnS hy) rfl rfl rfl ?_
  conv=>whnf
  refine br.h2 h ?_ ?_ ?_
  ·rfl
  ·clear h;intro hb h;conv=>whnf
   all_goals (cases h)
   all_goals exact Res.of [] rfl XeY (by decide) XeZ (XkV XeX)
  clear h;intro hb h;conv=>whnf
  refine br.h2 h ?_ ?_ ?_
  ·rfl
  ·clear h;intro hb h;conv=>whnf
   all_goals (cases h)
   all_goals exact Res.of [] rfl XeY (by decide) XeZ (XkV XeX)
  clear h;intro hb h;conv=>whnf
  refine br.h2 h ?_ ?_ ?_
  ·rfl
  ·clear h;intro hb h;conv=>whnf
   all_goals (cases h)
   all_goals exact Res.of [] rfl XeY (by decide) XeZ (XkV XeX)
  clear h;intro hb h;conv=>whnf
  replace h:=Xak.elim h;obtain ⟨l7,hy,h⟩:=h
  refine XaH.q rfl rfl (XoZ hy) rfl rfl rfl ?_
  conv=>whnf
  refine br.h2 h ?_ ?_ ?_
  ·rfl
  ·clear h;intro hb h;conv=>whnf
   all_goals (cases h)
   all_goals exact Res.of [] rfl XeY (by decide) XeZ (XkV XeX)
  clear h;intro hb h;conv=>whnf
  replace h:=Xak.elim h;obtain ⟨l8,hy,h⟩:=h
  refine XaH.Xbb [] (Xat («as»:=[.slice (some ⟨0,0,none⟩) (l:List Int).length 1]) (ws:=[.win 0 0 (l.length*1) false]) (n:=0) (m:=0) (t':=1) (Xas (by first|rfl|exact Xhj rfl rfl (by first|rfl|omega) (by first|rfl|(simp;done))|exact XiN rfl rfl (by first|rfl|omega) (by first|rfl|omega) (by first|omega|(simp at *;omega))) rfl Xbd) rfl (by rfl) (XrH hy) rfl rfl rfl rfl (XgE rfl Xbc) Xba rfl) ?_
  conv=>whnf
  replace h:=Xak.elim h;obtain ⟨l9,hy,h⟩:=h
  refine XaH.Xbb [] (Xat («as»:=[.slice (some ⟨0,0,none⟩) (l:List Int).length 1]) (ws:=[.win 0 0 (l.length*1) false]) (n:=0) (m:=0) (t':=1) (Xas (by first|rfl|exact Xhj rfl rfl (by first|rfl|omega) (by first|rfl|(simp;done))|exact XiN rfl rfl (by first|rfl|omega) (by first|rfl|omega) (by first|omega|(simp at *;omega))) rfl Xbd) rfl (by rfl) (XuS hy) rfl rfl rfl rfl (XgE rfl Xbc) Xba rfl) ?_
  conv=>whnf
  refine br.h2 h ?_ ?_ ?_
  ·rfl
  ·clear h;intro hb h;conv=>whnf
   all_goals (cases h)
   all_goals exact Res.of [] rfl XeY (by decide) XeZ (XkV XeX)
  clear h;intro hb h;conv=>whnf
  replace h:=Xak.elim h;obtain ⟨a4,hy,h⟩:=h
  refine XaH.q rfl rfl (Xu4 hy) rfl rfl rfl ?_
  conv=>whnf
  all_goals (cases h)
  all_goals exact Res.of [] rfl XeY (by decide) XeZ (XkV XeX)
 clear h;intro hb h;conv=>whnf
 refine br.h h ?_ ?_ ?_
 ·rfl
 ·clear h;intro hb h;conv=>whnf
  replace h:=Xak.elim h;obtain ⟨xr2,hy,h⟩:=h
  refine XaH.q rfl rfl (XpR hy) rfl rfl rfl ?_
  conv=>whnf
  replace h:=Xak.elim h;obtain ⟨xr3,hy,h⟩:=h
  refine XaH.q rfl rfl (XnS hy) rfl rfl rfl ?_
  conv=>whnf
  refine br.h2 h ?_ ?_ ?_
  ·rfl
  ·clear h;intro hb h;conv=>whnf
   all_goals (cases h)
   all_goals exact Res.of [] rfl XeY (by decide) XeZ (XkV XeX)
  clear h;intro hb h;conv=>whnf
  replace h:=Xak.elim h;obtain ⟨f,hy,h⟩:=h
  refine XaH.q rfl rfl (Xo0 hy) rfl rfl rfl ?_
  conv=>whnf
  replace h:=Xak.elim h;obtain ⟨xr4,hy,h⟩:=h
  refine XaH.q rfl rfl (XnS hy) rfl rfl rfl ?_
  conv=>whnf
  refine br.h2 h ?_ ?_ ?_
  ·rfl
  ·clear h;intro hb h;conv=>whnf
   all_goals (cases h)
   all_goals exact Res.of [] rfl XeY (by decide) XeZ (XkV XeX)
  clear h;intro hb h;conv=>whnf
  refine br.h2 h ?_ ?_ ?_
  ·rfl
  ·clear h;intro hb h;conv=>whnf
   all_goals (cases h)
   all_goals exact Res.of [] rfl XeY (by decide) XeZ (XkV XeX)
  clear h;intro hb h;conv=>whnf
  refine br.h2 h ?_ ?_ ?_
  ·rfl
  ·clear h;intro hb h;conv=>whnf
   all_goals (cases h)
   all_goals exact Res.of [] rfl XeY (by decide) XeZ (XkV XeX)
  clear h;intro hb h;conv=>whnf
  replace h:=Xak.elim h;obtain ⟨l1,hy,h⟩:=h
  refine XaH.q rfl rfl (XoZ hy) rfl rfl rfl ?_
  conv=>whnf
  refine br.h2 h ?_ ?_ ?_
  ·rfl
  ·clear h;intro hb h;conv=>whnf
   all_goals (cases h)
   all_goals exact Res.of [] rfl XeY (by decide) XeZ (XkV XeX)
  clear h;intro hb h;conv=>whnf
  replace h:=Xak.elim h;obtain ⟨l2,hy,h⟩:=h
  refine XaH.Xbb [] (Xat («as»:=[.slice (some ⟨0,0,none⟩) (l:List Int).length 1]) (ws:=[.win 0 0 (l.length*1) false]) (n:=0) (m:=0) (t':=1) (Xas (by first|rfl|exact Xhj rfl rfl (by first|rfl|omega) (by first|rfl|(simp;done))|exact XiN rfl rfl (by first|rfl|omega) (by first|rfl|omega) (by first|omega|(simp at *;omega))) rfl Xbd) rfl (by rfl) (XrH hy) rfl rfl rfl rfl (XgE rfl Xbc) Xba rfl) ?_
  conv=>whnf
  replace h:=Xak.elim h;obtain ⟨l3,hy,h⟩:=h
  refine XaH.Xbb [] (Xat («as»:=[.slice (some ⟨0,0,none⟩) (l:List Int).length 1]) (ws:=[.win 0 0 (l.length*1) false]) (n:=0) (m:=0) (t':=1) (Xas (by first|rfl|exact Xhj rfl rfl (by first|rfl|omega) (by first|rfl|(simp;done))|exact XiN rfl rfl (by first|rfl|omega) (by first|rfl|omega) (by first|omega|(simp at *;omega))) rfl Xbd) rfl (by rfl) (XuS hy) rfl rfl rfl rfl (XgE rfl Xbc) Xba rfl) ?_
  conv=>whnf
  refine br.h2 h ?_ ?_ ?_
  ·rfl
  ·clear h;intro hb h;conv=>whnf
   all_goals (cases h)
   all_goals exact Res.of [] rfl XeY (by decide) XeZ (XkV XeX)
  clear h;intro hb h;conv=>whnf
  replace h:=Xak.elim h;obtain ⟨a2,hy,h⟩:=h
  refine XaH.q rfl rfl (Xu4 hy) rfl rfl rfl ?_
  conv=>whnf
  all_goals (cases h)
  all_goals exact Res.of [] rfl XeY (by decide) XeZ (XkV XeX)
 clear h;intro hb h;conv=>whnf
 replace h:=Xak.elim h;obtain ⟨xr5,hy,h⟩:=h
 refine XaH.q rfl rfl (XpR hy) rfl rfl rfl ?_
 conv=>whnf
 replace h:=Xak.elim h;obtain ⟨xr6,hy,h⟩:=h
 refine XaH.q rfl rfl (XnS hy) rfl rfl rfl ?_
 conv=>whnf
 refine br.h2 h ?_ ?_ ?_
 ·rfl
 ·clear h;intro hb h;conv=>whnf
  all_goals (cases h)
  all_goals exact Res.of [] rfl XeY (by decide) XeZ (XkV XeX)
 clear h;intro hb h;conv=>whnf
 replace h:=Xak.elim h;obtain ⟨f1,hy,h⟩:=h
 refine XaH.q rfl rfl (Xo0 hy) rfl rfl rfl ?_
 conv=>whnf
 replace h:=Xak.elim h;obtain ⟨xr7,hy,h⟩:=h
 refine XaH.q rfl rfl (XnS hy) rfl rfl rfl ?_
 conv=>whnf
 refine br.h2 h ?_ ?_ ?_
 ·rfl
 ·clear h;intro hb h;conv=>whnf
  all_goals (cases h)
  all_goals exact Res.of [] rfl XeY (by decide) XeZ (XkV XeX)
 clear h;intro hb h;conv=>whnf
 refine br.h2 h ?_ ?_ ?_
 ·rfl
 ·clear h;intro hb h;conv=>whnf
  all_goals (cases h)
  all_goals exact Res.of [] rfl XeY (by decide) XeZ (XkV XeX)
 clear h;intro hb h;conv=>whnf
 refine br.h2 h ?_ ?_ ?_
 ·rfl
 ·clear h;intro hb h;conv=>whnf
  all_goals (cases h)
  all_goals exact Res.of [] rfl XeY (by decide) XeZ (XkV XeX)
 clear h;intro hb h;conv=>whnf
 replace h:=Xak.elim h;obtain ⟨l4,hy,h⟩:=h
 refine XaH.q rfl rfl (XoZ hy) rfl rfl rfl ?_
 conv=>whnf
 refine br.h2 h ?_ ?_ ?_
 ·rfl
 ·clear h;intro hb h;conv=>whnf
  all_goals (cases h)
  all_goals exact Res.of [] rfl XeY (by decide) XeZ (XkV XeX)
 clear h;intro hb h;conv=>whnf
 replace h:=Xak.elim h;obtain ⟨l5,hy,h⟩:=h
 refine XaH.Xbb [] (Xat («as»:=[.slice (some ⟨0,0,none⟩) (l:List Int).length 1]) (ws:=[.win 0 0 (l.length*1) false]) (n:=0) (m:=0) (t':=1) (Xas (by first|rfl|exact Xhj rfl rfl (by first|rfl|omega) (by first|rfl|(simp;done))|exact XiN rfl rfl (by first|rfl|omega) (by first|rfl|omega) (by first|omega|(simp at *;omega))) rfl Xbd) rfl (by rfl) (XrH hy) rfl rfl rfl rfl (XgE rfl Xbc) Xba rfl) ?_
 conv=>whnf
 replace h:=Xak.elim h;obtain ⟨l6,hy,h⟩:=h
 refine XaH.Xbb [] (Xat («as»:=[.slice (some ⟨0,0,none⟩) (l:List Int).length 1]) (ws:=[.win 0 0 (l.length*1) false]) (n:=0) (m:=0) (t':=1) (Xas (by first|rfl|exact Xhj rfl rfl (by first|rfl|omega) (by first|rfl|(simp;done))|exact XiN rfl rfl (by first|rfl|omega) (by first|rfl|omega) (by first|omega|(simp at *;omega))) rfl Xbd) rfl (by rfl) (XuS hy) rfl rfl rfl rfl (XgE rfl Xbc) Xba rfl) ?_
 conv=>whnf
 refine br.h2 h ?_ ?_ ?_
 ·rfl
 ·clear h;intro hb h;conv=>whnf
  all_goals (cases h)
  all_goals exact Res.of [] rfl XeY (by decide) XeZ (XkV XeX)
 clear h;intro hb h;conv=>whnf
 replace h:=Xak.elim h;obtain ⟨a3,hy,h⟩:=h
 refine XaH.q rfl rfl (Xu4 hy) rfl rfl rfl ?_
 conv=>whnf
 all_goals (cases h)
 all_goals exact Res.of [] rfl XeY (by decide) XeZ (XkV XeX)
def XjW:(List UInt8)→Int→Bool→Int→Int→(List Int)→Option Bool:=XfR XdU XeC XbQ Xcw Xbq XaX XbO XeM Xa1
end Go.Vm.Code
namespace Go.Vm.Code
open Go Go.Vm
theorem XII:Xcw=some true:=by decide +kernel
theorem XLc (s:List UInt8):(XgI s).1.Src.V6=false:=by
 unfold XgI
 split
 ·rfl
 split
 ·rfl
 split
 ·rfl
 split
 ·rfl
 split
 ·rfl
 split
 ·rfl
 split
 ·rfl
 rfl
theorem Xqo {s:List UInt8} (h:(Xa4 s).err=0):20≤(Xa4 s).size∧((Xa4 s).src.V6=true→40≤(Xa4 s).size):=by
 unfold Xa4 at h ⊢
 by_cases g1:vK s 0 1/16=4
 ·rw [if_pos g1] at h ⊢
  by_cases g2:(XgI s).2.2≠0
  ·rw [if_pos g2] at h;exact absurd h g2
  rw [if_neg g2] at h ⊢
  by_cases g3:s.length≠20+(XgI s).1.Options.length+(XgI s).2.1.length
  ·rw [if_pos g3] at h;exact absurd h (by decide)
  rw [if_neg g3]
  refine ⟨by simp only [];omega,fun e=>?_⟩
  simp only [XLc] at e
  cases e
 rw [if_neg g1] at h ⊢
 by_cases g4:vK s 0 1/16=6
 ·rw [if_pos g4] at h ⊢
  by_cases g2:(XiT s).2.2≠0
  ·rw [if_pos g2] at h;exact absurd h g2
  rw [if_neg g2] at h ⊢
  by_cases g3:s.length≠40+(XiT s).2.1.length
  ·rw [if_pos g3] at h;exact absurd h (by decide)
  rw [if_neg g3]
  exact ⟨by simp only [];omega,fun _=>by simp only [];omega⟩
 ·rw [if_neg g4] at h;exact absurd h (by decide)
theorem Xt5 {o:O11} {n:Nat} (h:(Xgh o n).2.2=0):8≤o.body.length∧(Xgh o n).1.Tuple.Src=o.src∧(Xgh o n).1.Tuple.Dst=o.dst:=by
 unfold Xgh at h ⊢
 by_cases g1:o.proto=6
 ·rw [if_pos g1] at h ⊢
  by_cases g2:(Xii o.body o.src o.dst).2.2≠0
  ·rw [if_pos g2] at h;exact absurd h g2
  rw [if_neg g2]
  have:=XrF (b:=o.body) (src:=o.src) (dst:=o.dst) (by omega)
  exact ⟨by omega,rfl,rfl⟩
 rw [if_neg g1] at h ⊢
 by_cases g4:o.proto=17
 ·rw [if_pos g4] at h ⊢
  by_cases g2:(Xhr o.body o.src o.dst).2.2≠0
  ·rw [if_pos g2] at h;exact absurd h g2
  rw [if_neg g2] at h ⊢
  by_cases g3:(Xhr o.body o.src o.dst).2.1.length+8≠o.body.length
  ·rw [if_pos g3] at h;exact absurd h (by decide)
  rw [if_neg g3]
  exact ⟨by omega,rfl,rfl⟩
 ·rw [if_neg g4] at h;exact absurd h (by decide)
theorem Xnr {s:List UInt8} (h:(XbN s).2.2.2=0):A4 (XbN s).1.Tuple.Src∧A4 (XbN s).1.Tuple.Dst∧28≤s.length∧((XbN s).1.Tuple.Src.V6=true→48≤s.length):=by
 unfold XbN at h ⊢
 by_cases g1:9000<s.length
 ·rw [if_pos g1] at h;exact absurd h (by decide)
 rw [if_neg g1] at h ⊢
 by_cases g2:s=[]
 ·rw [if_pos g2] at h;exact absurd h (by decide)
 rw [if_neg g2] at h ⊢
 by_cases g3:(Xa4 s).err≠0
 ·rw [if_pos g3] at h;exact absurd h g3
 rw [if_neg g3] at h ⊢
 by_cases g4:(Xgh (Xa4 s) s.length).2.2≠0
 ·rw [if_pos g4] at h;exact absurd h g4
 rw [if_neg g4]
 obtain ⟨k1,k2,k3⟩:=Xt5 (o:=Xa4 s) (n:=s.length) (by omega)
 obtain ⟨z1,z2⟩:=Xqo (s:=s) (by omega)
 have hb:=Xki (s:=s) (by omega)
 obtain ⟨a1,a2⟩:=Xml s
 simp only [k2,k3]
 exact ⟨a1,a2,by omega,fun e=>by have:=z2 e;omega⟩
def Xko (n:Int) (six:Bool):Int:=if 576≤n∧n≤9000 then n - cond six 66 46 else 0
theorem XqI (n:Int):Xcc n=some (decide (576≤n∧n≤9000)):=by
 unfold Xcc Xjs XaE Xdj
 by_cases h1:576≤n
 ·rw [XaV h1];simp [h1]
 ·rw [XaM h1];simp [h1]
theorem XlB (n:Int):XaO n=some (decide (576≤n∧n≤9000)):=by
 unfold XaO Xg2
 by_cases h1:576≤n
 ·rw [XaV (by omega)];simp [h1]
 ·rw [XaM (by omega)];simp [h1]
theorem Xns (six:Bool):XbC six=some (cond six 48 28):=by cases six<;>rfl
theorem Xn4 (n:Int) (six:Bool):Xa1 n six=some (Xko n six):=by
 unfold Xa1 XhY Xko
 rw [XqI,Option.bind_some]
 by_cases h:576≤n∧n≤9000
 ·rw [decide_eq_true h,Bool.not_true,cond_false,if_pos h,Xns,Option.bind_some]
  cases six
  ·simp only [cond_false];rw [XcC (n:=n - 28) (by omega) (by omega),XcC (by omega) (by omega)];congr 1;omega
  ·simp only [cond_true];rw [XcC (n:=n - 48) (by omega) (by omega),XcC (by omega) (by omega)];congr 1;omega
 ·rw [decide_eq_false h,Bool.not_false,cond_true,if_neg h]
theorem XrD (n:Int) (six:Bool):XbQ n six=some (Xko n six):=by
 unfold XbQ Xh0 Xko
 rw [XlB,Option.bind_some]
 by_cases h:576≤n∧n≤9000
 ·rw [decide_eq_true h,Bool.not_true,cond_false,if_pos h]
  cases six
  ·simp only [cond_false];rw [XcC (n:=n - 28) (by omega) (by omega),XcC (by omega) (by omega)];congr 1;omega
  ·simp only [cond_true];rw [XcC (n:=n - 48) (by omega) (by omega),XcC (by omega) (by omega)];congr 1;omega
 ·rw [decide_eq_false h,Bool.not_false,cond_true,if_neg h]
theorem Xrn (s:List UInt8) (n:Int) (six:Bool):Xbq s n six=some (decide ((s.length:Int)≤Xko n six)):=by
 unfold Xbq Xh1
 rw [Xn4,Option.bind_some]
def XnN (s:List UInt8) (n:Int) (six:Bool):List UInt8×Int:=
 if (XbN s).2.2.2≠0 then ([],(XbN s).2.2.2) else if (s.length:Int)≤Xko n six then ([],11) else if ¬ (576≤n∧n≤9000) then ([],1) else
  XoW ⟨2,cond (XbN s).1.Tuple.Src.V6 0 4,Xko n six,s.take (cond (XbN s).1.Tuple.Src.V6 48 28)⟩ (XbN s).1.Tuple.Dst (XbN s).1.Tuple.Src
theorem Xs4 {s:List UInt8} {n:Int} {six:Bool} (hs:s.length≤1000):XeM s n six=some (XnN s n six):=by
 unfold XeM Xg7 XnN
 rw [Xw3 (by omega),Option.bind_some]
 simp only []
 by_cases h0:(XbN s).2.2.2=0
 ·obtain ⟨a1,a2,l1,l2⟩:=Xnr h0
  rw [show ((XbN s).2.2.2 !=0)=false by rw [h0];rfl,cond_false,if_neg (by omega),Xrn,Option.bind_some]
  by_cases h1:(s.length:Int)≤Xko n six
  ·rw [XaV h1,if_pos h1]
  rw [XaM h1,if_neg h1,XqI,Option.bind_some]
  by_cases h2:576≤n∧n≤9000
  ·rw [decide_eq_true h2,Bool.not_true,cond_false,if_neg (by omega),Xn4,Option.bind_some,Xns,Option.bind_some]
   cases hv:(XbN s).1.Tuple.Src.V6
   ·simp only [cond_false]
    rw [Xaz (by omega),show (28:Int).toNat=28 from rfl,XqO a2 a1 (by simp;omega),Option.bind_some]
   ·have:=l2 hv
    simp only [cond_true]
    rw [Xaz (by omega),show (48:Int).toNat=48 from rfl,XqO a2 a1 (by simp;omega),Option.bind_some]
  ·rw [decide_eq_false h2,Bool.not_false,cond_true,if_pos h2]
 ·rw [show ((XbN s).2.2.2 !=0)=true by simpa using h0,cond_true,if_pos h0]
theorem Xuo {s:List UInt8} {n:Int} {six:Bool} (hs:s.length≤1000):XeC s n six=some (XnN s n six):=by
 unfold XeC Xg0 XnN
 rw [Xto (by omega),Option.bind_some]
 simp only []
 by_cases h0:(XbN s).2.2.2=0
 ·obtain ⟨a1,a2,l1,l2⟩:=Xnr h0
  rw [show ((XbN s).2.2.2 !=0)=false by rw [h0];rfl,cond_false,if_neg (by omega),XrD,Option.bind_some]
  by_cases h1:(s.length:Int)≤Xko n six
  ·rw [XaV h1,if_pos h1]
  rw [XaM h1,if_neg h1,XlB,Option.bind_some]
  by_cases h2:576≤n∧n≤9000
  ·rw [decide_eq_true h2,Bool.not_true,cond_false,if_neg (by omega),Option.bind_some,Xaz (by omega)]
   cases hv:(XbN s).1.Tuple.Src.V6
   ·simp only [cond_false]
    rw [Xry a2 a1 (by simp;omega),Option.bind_some]
   ·have:=l2 hv
    simp only [cond_true]
    rw [Option.bind_some,Xaz (by omega),Xry a2 a1 (by simp;omega),Option.bind_some]
  ·rw [decide_eq_false h2,Bool.not_false,cond_true,if_pos h2]
 ·rw [show ((XbN s).2.2.2 !=0)=true by simpa using h0,cond_true,if_pos h0]
theorem Xnz (k t:Int):XaX k t=some (if 576≤t∧t≤k then t else k):=by
 unfold XaX XgX XaE Xdj
 by_cases h1:576≤t
 ·rw [XaV h1,Option.bind_some]
  by_cases h2:t≤k
  ·rw [XaV h2,if_pos ⟨h1,h2⟩]
  ·rw [XaM h2,if_neg (by omega)]
 ·rw [XaM h1,Option.bind_some,cond_false,if_neg (by omega)]
def Xkc:List Int→Int→Int
 | [],n=>n
 | x::l,n=>Xkc l (if 576≤x∧x≤n then x else n)
theorem Xu9 {l:List Int} (hl:l.length≤20):XbO l=some (Xkc l 9000):=by
 unfold XbO XgO
 have key:=iter_eq (step:=fun (st:Int×Int)=>Xfd XaX l st.1 st.2) (fun st=>Xkc (l.drop st.2.toNat) st.1) (fun st=>0≤st.2∧st.2≤l.length) (fun st=>(l.length - st.2).toNat) ?_ FUEL (9000,0) ⟨by simp,by simp⟩ (by rw [XeT];simp only;omega)
 ·rw [key];rfl
 rintro ⟨n,x⟩ ⟨g1,g2⟩
 simp only at g1 g2 ⊢
 obtain ⟨i,rfl⟩:=Int.eq_ofNat_of_zero_le g1
 unfold Xfd
 by_cases hp:i<l.length
 ·refine .inr ⟨(if 576≤l[i]∧l[i]≤n then l[i] else n,((i+1:Nat):Int)),?_,⟨by simp only;omega,by simp only;omega⟩,by simp only;omega,?_⟩
  ·rw [XaV (by omega),Xaz (by omega),Int.toNat_natCast,List.getElem?_eq_getElem hp,Option.bind_some,Xnz,Option.bind_some,XcC (by omega) (by omega)];rfl
  ·simp only [Int.toNat_natCast]
   rw [List.drop_eq_getElem_cons hp,Xkc]
 ·refine .inl ?_
  rw [XaM (by omega),Int.toNat_natCast,List.drop_of_length_le (by omega)];rfl
theorem Xtb {l:List Int} (hl:l.length≤20):XdU l=some (Xkc l 9000):=by
 unfold XdU XgP
 have key:=iter_eq (step:=fun (st:Int×Int)=>Xfn XaO l st.1 st.2) (fun st=>Xkc (l.drop st.2.toNat) st.1) (fun st=>0≤st.2∧st.2≤l.length∧st.1≤9000) (fun st=>(l.length - st.2).toNat) ?_ FUEL (9000,0) ⟨by simp,by simp,by simp⟩ (by rw [XeT];simp only;omega)
 ·rw [key];rfl
 rintro ⟨n,x⟩ ⟨g1,g2,g3⟩
 simp only at g1 g2 g3 ⊢
 obtain ⟨i,rfl⟩:=Int.eq_ofNat_of_zero_le g1
 unfold Xfn
 by_cases hp:i<l.length
 ·refine .inr ⟨(if 576≤l[i]∧l[i]≤n then l[i] else n,((i+1:Nat):Int)),?_,⟨by simp only;omega,by simp only;omega,by simp only;split<;>omega⟩,by simp only;omega,?_⟩
  ·rw [XaV (by omega),Xaz (by omega),Int.toNat_natCast,List.getElem?_eq_getElem hp,Option.bind_some,XlB,Option.bind_some,Option.bind_some,Option.bind_some,XcC (by omega) (by omega)]
   generalize l[i]=v
   by_cases c1:576≤v∧v≤9000
   ·rw [XaV c1,Xaz (by omega)]
    by_cases c2:v<n
    ·rw [XaV c2,if_pos (by omega),Xaz (by omega)];rfl
    ·rw [XaM c2]
     by_cases c3:v=n
     ·subst c3;rw [if_pos (by omega)];rfl
     ·rw [if_neg (by omega)];rfl
   ·rw [XaM c1,if_neg (by omega)];rfl
  ·simp only [Int.toNat_natCast]
   rw [List.drop_eq_getElem_cons hp,Xkc]
 ·refine .inl ?_
  rw [XaM (by omega),Int.toNat_natCast,List.drop_of_length_le (by omega)];rfl
theorem mtuTells (s:List UInt8) (n:Int) (six:Bool) (known told:Int) (l:List Int):XjW s n six known told l=some true:=by
 unfold XjW XfR
 rw [XII]
 by_cases g1:1000<s.length
 ·rw [XaV (by omega)];rfl
 rw [XaM (by omega)]
 by_cases g2:20<l.length
 ·rw [XaV (by omega)];rfl
 rw [XaM (by omega),Xs4 (by omega),Xuo (by omega),Xnz,Xn4,XrD,Xrn,Xu9 (by omega),Xtb (by omega)]
 simp only [Option.bind_some,beq_self_eq_true,cond_true]
 by_cases c1:told≥576
 ·rw [XaV c1]
  by_cases c2:told<known
  ·rw [XaV c2,if_pos (by omega),beq_self_eq_true,cond_true]
  ·rw [XaM c2]
   by_cases c3:told=known
   ·subst c3;rw [if_pos (by omega),beq_self_eq_true,cond_true]
   ·rw [if_neg (by omega),beq_self_eq_true,cond_true]
 ·rw [XaM c1,if_neg (by omega),beq_self_eq_true,cond_true]
end Go.Vm.Code
