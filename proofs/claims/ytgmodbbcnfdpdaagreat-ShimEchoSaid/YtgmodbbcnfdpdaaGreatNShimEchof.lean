import Derived.Test.YtgmodbbcnfdpdaaGreatNShimEchoe
namespace Go.Vm.Code
open Go Go.Vm
theorem andn1:∀ x:Fin 1024,Xj6 .i64 (x.val:Int) 1=((x.val/2*2:Nat):Int):=by decide +kernel
theorem XvF {n:Nat} (h:n<1024):Xj6 .i64 (n:Int) 1=((n/2*2:Nat):Int):=andn1 ⟨n,h⟩
def Xwd (s:List UInt8) (f t:Nat):List UInt8:=if s.length<t then s.drop f++[0] else (s.drop f).take (t - f)
theorem XsV {s:List UInt8} {f t:Nat} (hs:s.length<2^30) (hf:f≤s.length) (ht:f≤t):Xce s (f:Int) (t:Int)=some (Xwd s f t):=by
 unfold Xce XiY Xwd
 by_cases h:s.length<t
 ·rw [if_pos h,Xa2 (by omega),XaC (by omega),Int.toNat_natCast,List.take_of_length_le (by rw [List.length_drop];omega)]
  simp only []
  rw [XaC (by rw [List.length_drop];omega)]
 ·rw [if_neg h,XaQ (by omega),XaC (by omega),Int.toNat_natCast,Int.toNat_natCast]
def Xp2 (s:List UInt8) (i:Nat) (w:List UInt8):List UInt8:=s.take i++w++s.drop (i+w.length)
theorem Xq9 {s w:List UInt8} {i:Nat} (h:i+w.length≤s.length):(Xp2 s i w).length=s.length:=by simp [Xp2];omega
theorem Xmp {s w:List UInt8} {i k:Nat} (h:i+w.length≤s.length):(Xp2 s i w)[k]?=if k<i then s[k]? else if k<i+w.length then w[k - i]? else s[k]?:=by
 unfold Xp2
 rw [List.append_assoc,List.getElem?_append]
 have e1:(s.take i).length=i:=by simp;omega
 rw [e1]
 by_cases h1:k<i
 ·rw [if_pos h1,if_pos h1,List.getElem?_take_of_lt h1]
 ·rw [if_neg h1,if_neg h1,List.getElem?_append]
  by_cases h2:k<i+w.length
  ·rw [if_pos (by omega),if_pos h2]
  ·rw [if_neg (by omega),if_neg h2,List.getElem?_drop]
   congr 1;omega
theorem XAr {s w:List UInt8} {i f:Nat} (h:i+w.length≤s.length) (hf:f≤i):(Xp2 s i w).take f=s.take f:=by
 apply List.ext_getElem?
 intro k
 rw [List.getElem?_take,List.getElem?_take]
 split
 ·rw [Xmp h,if_pos (by omega)]
 ·rfl
theorem XzK {s w:List UInt8} {i t:Nat} (h:i+w.length≤s.length) (ht:i+w.length≤t):(Xp2 s i w).drop t=s.drop t:=by
 apply List.ext_getElem?
 intro k
 rw [List.getElem?_drop,List.getElem?_drop,Xmp h,if_neg (by omega),if_neg (by omega)]
theorem XuQ:∀ s:List UInt8,s.length%2=1→XcA (s++[0])=XcA s
 | [],h=>by simp at h
 | [x],_=>by simp [XcA]
 | x::y::a,h=>by
   have:=XuQ a (by simp at h;omega)
   simp only [List.cons_append,XcA,this]
theorem XmN {s:List UInt8} {f t:Nat} (hf:f%2=0) (ht:t%2=0) (h1:f≤t) (h2:t≤s.length+1) (h3:f≤s.length):XcA s=XcA (s.take f)+(XcA (Xwd s f t)+XcA (s.drop t))∧(Xwd s f t).length=t - f:=by
 unfold Xwd
 by_cases h:s.length<t
 ·rw [if_pos h]
  have hodd:(s.drop f).length%2=1:=by rw [List.length_drop];omega
  rw [XuQ _ hodd,List.drop_eq_nil_of_le (by omega:s.length≤t),show XcA []=0 from rfl]
  refine ⟨?_,by rw [List.length_append,List.length_drop,List.length_singleton];omega⟩
  rw [Nat.add_zero,←XcJ _ _ (by rw [List.length_take];omega),List.take_append_drop]
 ·rw [if_neg h]
  refine ⟨?_,by rw [List.length_take,List.length_drop];omega⟩
  have:=Xvt (s:=s) (p:=f) (k:=t - f) (by omega) hf (by omega)
  rw [show f+(t - f)=t by omega] at this
  exact this
def cAt (b:List UInt8) (j:Nat):Nat:=XdH ((b.drop j).take 2)
theorem XF2 (b:List UInt8) (j:Nat):cAt b j<65536:=Xc9 (k:=2) 65536 (by decide)
def XiA (b:List UInt8) (i:Nat) (w:List UInt8) (j:Nat):List UInt8×Bool:=
 if b.length<i+w.length then ([],false) else if w=[] then (b,true) else if i<j+2∧j<i+w.length then ([],false) else
  (sset (Xp2 b i w) j 2 (XlN (cAt b j:Int) (Xwd b (i/2*2) ((i+w.length+1)/2*2)) (Xwd (Xp2 b i w) (i/2*2) ((i+w.length+1)/2*2))).toNat,true)
theorem Xqi {b w:List UInt8} {i j:Nat} (hw:w≠[]) (h1:i+w.length≤b.length) (hj:j+2≤b.length) (hj2:j%2=0) (ho:j+2≤i∨i+w.length≤j):∃ d:Nat,XlN (cAt b j:Int) (Xwd b (i/2*2) ((i+w.length+1)/2*2)) (Xwd (Xp2 b i w) (i/2*2) ((i+w.length+1)/2*2))=(d:Int)∧d≤65535∧(XcA (sset (Xp2 b i w) j 2 d))%65535=XcA b%65535:=by
 have hl:=Xq9 h1
 have hwl:0<w.length:=List.length_pos_iff.2 hw
 obtain ⟨a1,a2⟩:=XmN (s:=b) (f:=i/2*2) (t:=(i+w.length+1)/2*2) (by omega) (by omega) (by omega) (by omega) (by omega)
 obtain ⟨b1,b2⟩:=XmN (s:=Xp2 b i w) (f:=i/2*2) (t:=(i+w.length+1)/2*2) (by omega) (by omega) (by omega) (by omega) (by omega)
 rw [XAr h1 (by omega),XzK h1 (by omega)] at b1
 have hc:=XF2 b j
 obtain ⟨d,e1,e2,e3⟩:=Xwp (c:=cAt b j) (a:=Xwd b (i/2*2) ((i+w.length+1)/2*2)) (b:=Xwd (Xp2 b i w) (i/2*2) ((i+w.length+1)/2*2)) (by rw [a2,b2]) (by rw [a2];omega) (by omega)
 refine ⟨d,e1,e2,?_⟩
 have s1:=Xo0 (s:=Xp2 b i w) (p:=j) (k:=2) (n:=d) (by omega) hj2 (by omega)
 have s2:((Xp2 b i w).drop j).take 2=(b.drop j).take 2:=by
  apply List.ext_getElem?
  intro x
  rw [XpB,XpB]
  split
  ·rw [Xmp h1]
   by_cases g:j+x<i
   ·rw [if_pos g]
   ·rw [if_neg g,if_neg (by omega)]
  ·rfl
 have s3:XcA ((b.drop j).take 2)=cAt b j:=by
  have e:(b.drop j).take 2=be (cAt b j) 2:=(XKE (by rw [List.length_take,List.length_drop];omega)).symm
  rw [e,XhS hc]
 rw [s2,s3,XhS (by omega)] at s1
 omega
def XFS (body witha2:List UInt8) (ata1 sum:Int):Option (List UInt8×Bool):=
 Xa9 (decide ((0:Int)≤ata1∧ata1≤(body.length:Int))) <|
 Xa9 (decide ((body.take ata1.toNat).length+witha2.length<2^63)) <|
 Xa9 (decide ((0:Int)≤(wI .i64 (ata1+(witha2.length:Int)))∧(wI .i64 (ata1+(witha2.length:Int)))≤(body.length:Int))) <|
 let t3:=(body.drop (wI .i64 (ata1+(witha2.length:Int))).toNat).take (body.length - (wI .i64 (ata1+(witha2.length:Int))).toNat)
 Xa9 (decide (((body.take ata1.toNat)++witha2).length+t3.length<2^63)) <|
 let t4:=wI .i64 ((wI .i64 (ata1+(witha2.length:Int)))+1)
 (Xaw body sum 2).bind fun xg=>
 (Xce body (Xj6 .i64 ata1 1) (Xj6 .i64 t4 1)).bind fun w=>
 (Xce (((body.take ata1.toNat)++witha2)++t3) (Xj6 .i64 ata1 1) (Xj6 .i64 t4 1)).bind fun w1=>
 (Xco (wI .i64 xg.1) w w1).bind fun t5=>
 (XbU (((body.take ata1.toNat)++witha2)++t3) sum 2 (wI .u64 t5)).bind fun s=>
 some ((s,true))
theorem Xst {b w:List UInt8} {i j:Nat} (hb:b.length<1000) (hw:w≠[]) (h1:i+w.length≤b.length) (hj:j+2≤b.length) (hj2:j%2=0) (ho:j+2≤i∨i+w.length≤j):XFS b w (i:Int) (j:Int)=some (sset (Xp2 b i w) j 2 (XlN (cAt b j:Int) (Xwd b (i/2*2) ((i+w.length+1)/2*2)) (Xwd (Xp2 b i w) (i/2*2) ((i+w.length+1)/2*2))).toNat,true):=by
 obtain ⟨d,e1,e2,e3⟩:=Xqi hw h1 hj hj2 ho
 have hwl:0<w.length:=List.length_pos_iff.2 hw
 have hl:=Xq9 h1
 unfold XFS
 simp only []
 rw [Xc5 (n:=(i:Int)+(w.length:Int)) (by omega) (by omega),show (i:Int)+(w.length:Int)=((i+w.length:Nat):Int) by omega,Xc5 (n:=((i+w.length:Nat):Int)+1) (by omega) (by omega),show ((i+w.length:Nat):Int)+1=((i+w.length+1:Nat):Int) by omega,XvF (by omega),XvF (by omega)]
 simp only [Int.toNat_natCast,List.take_of_length_le (show (b.drop (i+w.length)).length≤b.length - (i+w.length) by rw [List.length_drop];omega)]
 show Xa9 _ (Xa9 _ (Xa9 _ (Xa9 _ ((Xaw b (j:Int) 2).bind fun xg=>(Xce b ((i/2*2:Nat):Int) (((i+w.length+1)/2*2:Nat):Int)).bind fun w'=>(Xce (Xp2 b i w) ((i/2*2:Nat):Int) (((i+w.length+1)/2*2:Nat):Int)).bind fun w1=>(Xco (wI .i64 xg.1) w' w1).bind fun t5=>(XbU (Xp2 b i w) (j:Int) 2 (wI .u64 t5)).bind fun s=>some ((s,true))))))=_
 have hg:Xus b (j:Int) 2=((cAt b j:Int),true):=by
  unfold Xus cAt
  rw [if_pos (by omega),Int.toNat_natCast];rfl
 have hc:=XF2 b j
 obtain ⟨_,a2⟩:=XmN (s:=b) (f:=i/2*2) (t:=(i+w.length+1)/2*2) (by omega) (by omega) (by omega) (by omega) (by omega)
 obtain ⟨_,b2⟩:=XmN (s:=Xp2 b i w) (f:=i/2*2) (t:=(i+w.length+1)/2*2) (by omega) (by omega) (by omega) (by omega) (by omega)
 rw [XaC (by omega),XaC (by rw [List.length_take];omega),XaC (by omega),XaC (by rw [List.length_append,List.length_take,List.length_drop];omega),XdC (by omega),Option.bind_some,hg,XsV (by omega) (by omega) (by omega),Option.bind_some,XsV (by omega) (by omega) (by omega),Option.bind_some]
 simp only []
 rw [Xc5 (by omega) (by omega),XxD (by omega) (by omega),Option.bind_some,e1,XjF (by omega) (by omega),show (2:Int)=((2:Nat):Int) from rfl,Xrz (by omega) (by omega) (by omega) (by omega) (by omega),Option.bind_some]
theorem Xu5 {b w:List UInt8} {i j:Nat} (hb:b.length<1000) (hw9:w.length<1000) (hi:i<1000) (hj:j+2≤b.length) (hj2:j%2=0):Xa8 b (i:Int) w (j:Int)=some (XiA b i w j):=by
 unfold Xa8 XiW XiA
 rw [XaQ (by omega),Xc5 (n:=(b.length:Int) - (w.length:Int)) (by omega) (by omega)]
 by_cases g1:b.length<i+w.length
 ·rw [if_pos g1,Xa2 (by omega)]
 rw [if_neg g1,XaQ (by omega),XaQ (by omega),show ((j:Int).tmod 2==1)=false by rw [Int.tmod_eq_emod_of_nonneg (by omega),beq_eq_false_iff_ne];omega,cond_false,Xc5 (n:=(b.length:Int) - 2) (by omega) (by omega)]
 simp only []
 rw [XaQ (by omega)]
 by_cases g2:w=[]
 ·rw [if_pos g2,show (w==[])=true by simpa using g2,cond_true]
 rw [if_neg g2,show (w==[])=false by simpa using g2,cond_false,Xc5 (n:=(j:Int)+2) (by omega) (by omega)]
 by_cases g3:i<j+2
 ·rw [Xa2 (by omega)]
  by_cases g4:j<i+w.length
  ·rw [if_pos ⟨g3,g4⟩,Xc5 (n:=(i:Int)+(w.length:Int)) (by omega) (by omega),Xa2 (by omega)]
  ·rw [if_neg (by omega),XaQ (by rw [Xc5 (by omega) (by omega)];omega)]
   exact Xst hb g2 (by omega) hj hj2 (by omega)
 ·rw [if_neg (by omega),XaQ (by omega)]
  exact Xst hb g2 (by omega) hj hj2 (by omega)
end Go.Vm.Code
namespace Go.Vm.Code
open Go Go.Vm Go.Proofs
set_option maxRecDepth 100000
set_option maxHeartbeats 4000000
set_option linter.unusedVariables false
def Xjg (stamp:Int):Option Int:=
 some (wI .u16 stamp)
def rx59 (x:Int):Xcu:=⟨.int .u16 x,[],[]⟩
abbrev XcL:=Int→Option Int
def r59 (g:XcL):Dec:=dV (asI .u32) fun (y0:Int)=>Xdm (ofG (g y0) rx59)
theorem r59_c {g:XcL} {y0:Int} {x:Int} (hx:g y0=some x):r59 g [.int .u32 y0] []=some (rx59 x):=(XaY (Xc2 _)).trans (XaX hx)
def s59 (g:XcL):Xbs:=⟨[.v],r59 g⟩
theorem XzV {g:XcL} {y0:Int} {x:Int} (hx:g y0=some x):(s59 g).run [.int .u32 y0] []=some (rx59 x):=r59_c hx
abbrev XNF:List (Nat×Xbs):=[]
theorem XIz (hS:Xal Tryz.prog (XaE (XNF))) (stamp:Int) (res:Int) (h:Xjg stamp=some res) :
 XaK Tryz.prog 59 0 ⟨⟨59,5,[(0,.int .u32 stamp)],[.code XMI],[],false,none⟩,[],[],0⟩ (fun v H _=>Res 0 (rx59 res) v H):=by
 unfold Xjg at h
 refine Xbg XaJ hS true 3000 ?_
 conv=>whnf
 exact W
def XbM:XcL:=Xjg
theorem Xxx:XbA Tryz.prog 59 (s59 XbM):=by
 have hL:=XIz (Xal.XaV trivial)
 exact okA ⟨Tryz.f59,rfl,by decide,rfl⟩
def XjJ (XbM:XcL) (stamp:Int) (cookie:Int):Option Int:=
 (XbM stamp).bind fun l=>
 let t:=XuZ .u32 (wI .u32 ((wI .u32 cookie)*2^16)) (wI .u32 l)
 some (t)
def rx66 (x:Int):Xcu:=⟨.int .u32 x,[],[]⟩
abbrev Xep:=Int→Int→Option Int
def r66 (g:Xep):Dec:=dV (asI .u32) fun (y0:Int)=>dV (asI .u16) fun (y1:Int)=>Xdm (ofG (g y0 y1) rx66)
theorem r66_c {g:Xep} {y0:Int} {y1:Int} {x:Int} (hx:g y0 y1=some x):r66 g [.int .u32 y0,.int .u16 y1] []=some (rx66 x):=(XaY (Xc2 _)).trans ((XaY (Xc2 _)).trans (XaX hx))
def s66 (g:Xep):Xbs:=⟨[.v,.v],r66 g⟩
theorem XQH {g:Xep} {y0:Int} {y1:Int} {x:Int} (hx:g y0 y1=some x):(s66 g).run [.int .u32 y0,.int .u16 y1] []=some (rx66 x):=r66_c hx
abbrev XOu (XbM:XcL):List (Nat×Xbs):=[(59,s59 XbM)]
theorem XLy (XbM:XcL) (hS:Xal Tryz.prog (XaE (XOu XbM))) (stamp:Int) (cookie:Int) (res:Int) (h:XjJ XbM stamp cookie=some res) :
 XaK Tryz.prog 66 0 ⟨⟨66,12,[(0,.int .u32 stamp),(1,.int .u16 cookie)],[.code XPA],[],false,none⟩,[],[],0⟩ (fun v H _=>Res 0 (rx66 res) v H):=by
 unfold XjJ at h
 have R1:=@XzV XbM
 refine Xbg XaJ hS true 3000 ?_
 conv=>whnf
 exact W
def Xek:Xep:=XjJ XbM
theorem XMU:XbA Tryz.prog 66 (s66 Xek):=by
 have hL:=XLy XbM (Xal.XaV ⟨Xxx,trivial⟩)
 exact okA ⟨Tryz.f66,rfl,by decide,rfl⟩
def Xi1 (Xek:Xep) (p:Xao) (a1:Int):Option (Int×Int):=
 (Xek p.Val a1).bind fun l=>
 some ((l,a1))
def rx65 (x:Int×Int):Xcu:=⟨.int .u32 x.1,[],[some [.int .u16 x.2]]⟩
abbrev XdZ:=Xao→Int→Option (Int×Int)
def r65 (g:XdZ):Dec:=dV Xh1 fun (y0:Xao)=>dPt 0 (un1 (asI .u16)) fun (y1:Int)=>Xdm (ofG (g y0 y1) rx65)
theorem r65_c {g:XdZ} {y0:Xao} {y1:Int} {x:Int×Int} (hx:g y0 y1=some x):r65 g [.agg ⟨[.int .i64 y0.Tuple.Proto,.bool y0.Tuple.Src.V6,.int .u64 y0.Tuple.Src.Hi,.int .u64 y0.Tuple.Src.Lo,.bool y0.Tuple.Dst.V6,.int .u64 y0.Tuple.Dst.Hi,.int .u64 y0.Tuple.Dst.Lo,.int .i64 y0.Tuple.SPort,.int .i64 y0.Tuple.DPort,.int .i64 y0.Flags,.bool y0.Stamped,.int .u32 y0.Val,.int .u32 y0.Echo,.bool y0.Long,.string ⟨⟨y0.CID⟩⟩,.int .i64 y0.Size]⟩,.pointer (some ⟨0,0,none⟩)] [some [.int .u16 y1]]=some (rx65 x):=(XaY (Xlo _)).trans ((Xma (XOd (Xc2 _))).trans (XaX hx))
def s65 (g:XdZ):Xbs:=⟨[.v,.pt 1],r65 g⟩
theorem XSM {g:XdZ} {y0:Xao} {y1:Int} {x:Int×Int} (hx:g y0 y1=some x):(s65 g).run [.agg ⟨[.int .i64 y0.Tuple.Proto,.bool y0.Tuple.Src.V6,.int .u64 y0.Tuple.Src.Hi,.int .u64 y0.Tuple.Src.Lo,.bool y0.Tuple.Dst.V6,.int .u64 y0.Tuple.Dst.Hi,.int .u64 y0.Tuple.Dst.Lo,.int .i64 y0.Tuple.SPort,.int .i64 y0.Tuple.DPort,.int .i64 y0.Flags,.bool y0.Stamped,.int .u32 y0.Val,.int .u32 y0.Echo,.bool y0.Long,.string ⟨⟨y0.CID⟩⟩,.int .i64 y0.Size]⟩,.pointer (some ⟨0,0,none⟩)] [some [.int .u16 y1]]=some (rx65 x):=r65_c hx
abbrev XSS (Xek:Xep):List (Nat×Xbs):=[(66,s66 Xek)]
theorem XK7 (Xek:Xep) (hS:Xal Tryz.prog (XaE (XSS Xek))) (p:Xao) (a1:Int) (res:Int×Int) (h:Xi1 Xek p a1=some res) :
 XaK Tryz.prog 65 1 ⟨⟨65,8,[(0,.agg ⟨[.int .i64 p.Tuple.Proto,.bool p.Tuple.Src.V6,.int .u64 p.Tuple.Src.Hi,.int .u64 p.Tuple.Src.Lo,.bool p.Tuple.Dst.V6,.int .u64 p.Tuple.Dst.Hi,.int .u64 p.Tuple.Dst.Lo,.int .i64 p.Tuple.SPort,.int .i64 p.Tuple.DPort,.int .i64 p.Flags,.bool p.Stamped,.int .u32 p.Val,.int .u32 p.Echo,.bool p.Long,.string ⟨⟨p.CID⟩⟩,.int .i64 p.Size]⟩),(1,.pointer (some ⟨0,0,none⟩))],[.code XRg],[],false,none⟩,[],[(0,.cells [.int .u16 a1])],1⟩ (fun v H _=>Res 1 (rx65 res) v H):=by
 unfold Xi1 at h
 have R1:=@XQH Xek
 refine Xbg XaJ hS true 3000 ?_
 conv=>whnf
 exact W
def Xdw:XdZ:=Xi1 Xek
theorem XPD:XbA Tryz.prog 65 (s65 Xdw):=by
 have hL:=XK7 Xek (Xal.XaV ⟨XMU,trivial⟩)
 exact okA ⟨Tryz.f65,rfl,by decide,rfl⟩
def XhT (XbM:XcL) (now:Int) (low:Int):Option Int:=
 (XbM now).bind fun l=>
 let t:=wI .u32 (now - (wI .u32 (wI .u16 (l - low))))
 some (t)
def rx58 (x:Int):Xcu:=⟨.int .u32 x,[],[]⟩
abbrev Xdp:=Int→Int→Option Int
def r58 (g:Xdp):Dec:=dV (asI .u32) fun (y0:Int)=>dV (asI .u16) fun (y1:Int)=>Xdm (ofG (g y0 y1) rx58)
theorem r58_c {g:Xdp} {y0:Int} {y1:Int} {x:Int} (hx:g y0 y1=some x):r58 g [.int .u32 y0,.int .u16 y1] []=some (rx58 x):=(XaY (Xc2 _)).trans ((XaY (Xc2 _)).trans (XaX hx))
def s58 (g:Xdp):Xbs:=⟨[.v,.v],r58 g⟩
theorem XRH {g:Xdp} {y0:Int} {y1:Int} {x:Int} (hx:g y0 y1=some x):(s58 g).run [.int .u32 y0,.int .u16 y1] []=some (rx58 x):=r58_c hx
abbrev XO8 (XbM:XcL):List (Nat×Xbs):=[(59,s59 XbM)]
theorem XK4 (XbM:XcL) (hS:Xal Tryz.prog (XaE (XO8 XbM))) (now:Int) (low:Int) (res:Int) (h:XhT XbM now low=some res) :
 XaK Tryz.prog 58 0 ⟨⟨58,12,[(0,.int .u32 now),(1,.int .u16 low)],[.code XMO],[],false,none⟩,[],[],0⟩ (fun v H _=>Res 0 (rx58 res) v H):=by
 unfold XhT at h
 have R1:=@XzV XbM
 refine Xbg XaJ hS true 3000 ?_
 conv=>whnf
 exact W
def XcV:Xdp:=XhT XbM
theorem XQu:XbA Tryz.prog 58 (s58 XcV):=by
 have hL:=XK4 XbM (Xal.XaV ⟨Xxx,trivial⟩)
 exact okA ⟨Tryz.f58,rfl,by decide,rfl⟩
def XjC (XbM:XcL) (XcV:Xdp) (p:Xao) (a1:Int):Option (Int×Int):=
 (XbM p.Echo).bind fun l=>
 (XcV a1 l).bind fun xr=>
 some ((xr,a1))
def rx57 (x:Int×Int):Xcu:=⟨.int .u32 x.1,[],[some [.int .u32 x.2]]⟩
abbrev XeE:=Xao→Int→Option (Int×Int)
def r57 (g:XeE):Dec:=dV Xh1 fun (y0:Xao)=>dPt 0 (un1 (asI .u32)) fun (y1:Int)=>Xdm (ofG (g y0 y1) rx57)
theorem r57_c {g:XeE} {y0:Xao} {y1:Int} {x:Int×Int} (hx:g y0 y1=some x):r57 g [.agg ⟨[.int .i64 y0.Tuple.Proto,.bool y0.Tuple.Src.V6,.int .u64 y0.Tuple.Src.Hi,.int .u64 y0.Tuple.Src.Lo,.bool y0.Tuple.Dst.V6,.int .u64 y0.Tuple.Dst.Hi,.int .u64 y0.Tuple.Dst.Lo,.int .i64 y0.Tuple.SPort,.int .i64 y0.Tuple.DPort,.int .i64 y0.Flags,.bool y0.Stamped,.int .u32 y0.Val,.int .u32 y0.Echo,.bool y0.Long,.string ⟨⟨y0.CID⟩⟩,.int .i64 y0.Size]⟩,.pointer (some ⟨0,0,none⟩)] [some [.int .u32 y1]]=some (rx57 x):=(XaY (Xlo _)).trans ((Xma (XOd (Xc2 _))).trans (XaX hx))
def s57 (g:XeE):Xbs:=⟨[.v,.pt 1],r57 g⟩
theorem XR9 {g:XeE} {y0:Xao} {y1:Int} {x:Int×Int} (hx:g y0 y1=some x):(s57 g).run [.agg ⟨[.int .i64 y0.Tuple.Proto,.bool y0.Tuple.Src.V6,.int .u64 y0.Tuple.Src.Hi,.int .u64 y0.Tuple.Src.Lo,.bool y0.Tuple.Dst.V6,.int .u64 y0.Tuple.Dst.Hi,.int .u64 y0.Tuple.Dst.Lo,.int .i64 y0.Tuple.SPort,.int .i64 y0.Tuple.DPort,.int .i64 y0.Flags,.bool y0.Stamped,.int .u32 y0.Val,.int .u32 y0.Echo,.bool y0.Long,.string ⟨⟨y0.CID⟩⟩,.int .i64 y0.Size]⟩,.pointer (some ⟨0,0,none⟩)] [some [.int .u32 y1]]=some (rx57 x):=r57_c hx
abbrev XP5 (XbM:XcL) (XcV:Xdp):List (Nat×Xbs):=[(59,s59 XbM),(58,s58 XcV)]
theorem XL5 (XbM:XcL) (XcV:Xdp) (hS:Xal Tryz.prog (XaE (XP5 XbM XcV))) (p:Xao) (a1:Int) (res:Int×Int) (h:XjC XbM XcV p a1=some res) :
 XaK Tryz.prog 57 1 ⟨⟨57,9,[(0,.agg ⟨[.int .i64 p.Tuple.Proto,.bool p.Tuple.Src.V6,.int .u64 p.Tuple.Src.Hi,.int .u64 p.Tuple.Src.Lo,.bool p.Tuple.Dst.V6,.int .u64 p.Tuple.Dst.Hi,.int .u64 p.Tuple.Dst.Lo,.int .i64 p.Tuple.SPort,.int .i64 p.Tuple.DPort,.int .i64 p.Flags,.bool p.Stamped,.int .u32 p.Val,.int .u32 p.Echo,.bool p.Long,.string ⟨⟨p.CID⟩⟩,.int .i64 p.Size]⟩),(1,.pointer (some ⟨0,0,none⟩))],[.code XNf],[],false,none⟩,[],[(0,.cells [.int .u32 a1])],1⟩ (fun v H _=>Res 1 (rx57 res) v H):=by
 unfold XjC at h
 have R1:=@XzV XbM
 have R2:=@XRH XcV
 refine Xbg XaJ hS true 3000 ?_
 conv=>whnf
 exact W
def Xd5:XeE:=XjC XbM XcV
theorem XS3:XbA Tryz.prog 57 (s57 Xd5):=by
 have hL:=XL5 XbM XcV (Xal.XaV ⟨Xxx,XQu,trivial⟩)
 exact okA ⟨Tryz.f57,rfl,by decide,rfl⟩
end Go.Vm.Code
namespace Go.Vm.Code
open Go Go.Vm
theorem bv32 {a:Nat} (h:a<4294967296):(BitVec.ofInt 32 (a:Int)).toNat=a:=by
 rw [BitVec.toNat_ofInt];omega
theorem XP6 {a b:Nat} (ha:a<4294967296) (hb:b<4294967296):XuZ .u32 (a:Int) (b:Int)=((a ||| b:Nat):Int):=by
 have h:a ||| b<2^32:=Nat.or_lt_two_pow (by omega) (by omega)
 show IntKind.wrap .u32 _=_
 rw [show IntKind.bits .u32=32 from rfl,BitVec.toNat_or,bv32 (by omega),bv32 (by omega)]
 exact Xvh (by omega) (by omega)
def XfY (v c:Int):Int:=c*65536+v%65536
theorem XyU {p:Xao} {c:Int} (hc:0≤c∧c<65536):Xdw p c=some (XfY p.Val c,c):=by
 unfold Xdw Xi1 Xek XjJ XbM Xjg XfY
 simp only [Option.bind_some]
 rw [XDt,Xvh (n:=c) (by omega) (by omega),Xvh (n:=p.Val%65536) (by omega) (by omega)]
 obtain ⟨n,rfl⟩:=Int.eq_ofNat_of_zero_le hc.1
 obtain ⟨m,hm⟩:=Int.eq_ofNat_of_zero_le (show 0≤p.Val%65536 by omega)
 have hm2:m<65536:=by omega
 have e:(n:Int)*2^16=((n*65536:Nat):Int):=by
  rw [show (2:Int)^16=65536 from rfl];omega
 have key:(n*65536) ||| m=n*65536+m:=XyN (k:=16) (show m<65536 by omega)
 have b1:((n*65536:Nat):Int)<4294967296:=by omega
 have b2:n*65536<4294967296:=by omega
 have b3:m<4294967296:=by omega
 rw [hm,e,Xvh (Int.natCast_nonneg _) b1,XP6 b2 b3,key]
 rw [show ((n*65536+m:Nat):Int)=(n:Int)*65536+(m:Int) by omega]
def Xi2 (now e:Int):Int:=(now - (now%65536 - e%65536)%65536)%4294967296
theorem Xw3 {p:Xao} {now:Int}:Xd5 p now=some (Xi2 now p.Echo,now):=by
 unfold Xd5 XjC XcV XhT XbM Xjg Xi2
 simp only [Option.bind_some]
 rw [XDt,XDt,XDt,Xvh (n:=(now%65536 - p.Echo%65536)%65536) (by omega) (by omega),XOG]
end Go.Vm.Code
namespace Go.Vm.Code
open Go Go.Vm Go.Proofs
set_option maxRecDepth 100000
set_option maxHeartbeats 4000000
set_option linter.unusedVariables false
def Xk6 (Xaz:Xbt) (Xav:Xa7) (Xa3:Xb5) (Xdw:XdZ) (Xa8:Xcf) (XbE:XcO) (s:List UInt8) (cookie:Int):Option ((List UInt8)×Int):=
 (Xav s).bind fun p=>
 cond (p.2 !=0)
  (
  some (([],p.2)))
  (
  cond (!p.1.Stamped)
   (
   some (([],6)))
   (
   (Xa3 s).bind fun w=>
   Xa9 (decide ((0:Int)≤w.2.1∧w.2.1≤(s.length:Int)∧(0:Int)≤(wI .i64 (w.1+20))∧(wI .i64 (w.1+20))≤(w.2.1.toNat:Int))) <|
   let t:=(s.drop (wI .i64 (w.1+20)).toNat).take (w.2.1.toNat - (wI .i64 (w.1+20)).toNat)
   (XbE t).bind fun s1=>
   Xa9 (decide ((0:Int)≤w.1∧w.1≤(s.length:Int))) <|
   let t1:=(s.drop w.1.toNat).take (s.length - w.1.toNat)
   (Xdw p.1 cookie).bind fun x1=>
   (Xaz (wI .u64 x1.1) 4).bind fun p1=>
   (Xa8 t1 (wI .i64 ((wI .i64 (20+s1.2.2))+0)) p1 16).bind fun p2=>
   cond (!p2.2)
    (
    some (([],3)))
    (
    Xa9 (decide ((0:Int)≤w.1∧w.1≤(s.length:Int))) <|
    Xa9 (decide ((s.take w.1.toNat).length+p2.1.length<2^63)) <|
    some (((s.take w.1.toNat)++p2.1,0)))))
def rx37 (x:(List UInt8)×Int):Xcu:=⟨.tuple ⟨[.string ⟨⟨x.1⟩⟩,.int .i64 x.2]⟩,[],[]⟩
abbrev XdA:=(List UInt8)→Int→Option ((List UInt8)×Int)
def r37 (g:XdA):Dec:=dV asS fun (y0:List UInt8)=>dV (asI .u16) fun (y1:Int)=>Xdm (ofG (g y0 y1) rx37)
theorem r37_c {g:XdA} {y0:List UInt8} {y1:Int} {x:(List UInt8)×Int} (hx:g y0 y1=some x):r37 g [.string ⟨⟨y0⟩⟩,.int .u16 y1] []=some (rx37 x):=(XaY (XcY)).trans ((XaY (Xc2 _)).trans (XaX hx))
def s37 (g:XdA):Xbs:=⟨[.v,.v],r37 g⟩
theorem XFY {g:XdA} {y0:List UInt8} {y1:Int} {x:(List UInt8)×Int} (hx:g y0 y1=some x):(s37 g).run [.string ⟨⟨y0⟩⟩,.int .u16 y1] []=some (rx37 x):=r37_c hx
abbrev XPF (Xaz:Xbt) (Xav:Xa7) (Xa3:Xb5) (Xdw:XdZ) (Xa8:Xcf) (XbE:XcO):List (Nat×Xbs):=[(71,s71 Xaz),(30,s30 Xav),(67,s67 Xa3),(65,s65 Xdw),(70,s70 Xa8),(91,s91 XbE)]
theorem XHJ (Xaz:Xbt) (Xav:Xa7) (Xa3:Xb5) (Xdw:XdZ) (Xa8:Xcf) (XbE:XcO) (hS:Xal Tryz.prog (XaE (XPF Xaz Xav Xa3 Xdw Xa8 XbE))) (s:List UInt8) (cookie:Int) (res:(List UInt8)×Int) (h:Xk6 Xaz Xav Xa3 Xdw Xa8 XbE s cookie=some res) :
 XaK Tryz.prog 37 0 ⟨⟨37,11,[(0,.string ⟨⟨s⟩⟩),(1,.int .u16 cookie)],[.code XS5],[],false,none⟩,[],[],0⟩ (fun v H _=>Res 0 (rx37 res) v H):=by
 unfold Xk6 at h
 have R1:=@XqL Xav
 have R2:=@XyY Xa3
 have R3:=@Xxy XbE
 have R4:=@XSM Xdw
 have R5:=@Xpd Xaz
 have R6:=@Xym Xa8
 refine Xbg XaJ hS true 3000 ?_
 conv=>whnf
 exact W
def Xcx:XdA:=Xk6 Xaz Xav Xa3 Xdw Xa8 XbE
theorem XFv:XbA Tryz.prog 37 (s37 Xcx):=by
 have hL:=XHJ Xaz Xav Xa3 Xdw Xa8 XbE (Xal.XaV ⟨Xqx,XqE,XxT,XPD,XAj,XzX,trivial⟩)
 exact okA ⟨Tryz.f37,rfl,by decide,rfl⟩
def XmV (Xaz:Xbt) (Xav:Xa7) (Xa3:Xb5) (Xd5:XeE) (Xa8:Xcf) (XbE:XcO) (s:List UInt8) (now:Int):Option ((List UInt8)×Int):=
 (Xav s).bind fun p=>
 cond (p.2 !=0)
  (
  some (([],p.2)))
  (
  cond (!p.1.Stamped)
   (
   some (([],6)))
   (
   (Xa3 s).bind fun w=>
   Xa9 (decide ((0:Int)≤w.2.1∧w.2.1≤(s.length:Int)∧(0:Int)≤(wI .i64 (w.1+20))∧(wI .i64 (w.1+20))≤(w.2.1.toNat:Int))) <|
   let t:=(s.drop (wI .i64 (w.1+20)).toNat).take (w.2.1.toNat - (wI .i64 (w.1+20)).toNat)
   (XbE t).bind fun s1=>
   Xa9 (decide ((0:Int)≤w.1∧w.1≤(s.length:Int))) <|
   let t1:=(s.drop w.1.toNat).take (s.length - w.1.toNat)
   (Xd5 p.1 now).bind fun x1=>
   (Xaz (wI .u64 x1.1) 4).bind fun p1=>
   (Xa8 t1 (wI .i64 ((wI .i64 (20+s1.2.2))+4)) p1 16).bind fun p2=>
   cond (!p2.2)
    (
    some (([],3)))
    (
    Xa9 (decide ((0:Int)≤w.1∧w.1≤(s.length:Int))) <|
    Xa9 (decide ((s.take w.1.toNat).length+p2.1.length<2^63)) <|
    some (((s.take w.1.toNat)++p2.1,0)))))
def rx32 (x:(List UInt8)×Int):Xcu:=⟨.tuple ⟨[.string ⟨⟨x.1⟩⟩,.int .i64 x.2]⟩,[],[]⟩
abbrev XfI:=(List UInt8)→Int→Option ((List UInt8)×Int)
def r32 (g:XfI):Dec:=dV asS fun (y0:List UInt8)=>dV (asI .u32) fun (y1:Int)=>Xdm (ofG (g y0 y1) rx32)
theorem r32_c {g:XfI} {y0:List UInt8} {y1:Int} {x:(List UInt8)×Int} (hx:g y0 y1=some x):r32 g [.string ⟨⟨y0⟩⟩,.int .u32 y1] []=some (rx32 x):=(XaY (XcY)).trans ((XaY (Xc2 _)).trans (XaX hx))
def s32 (g:XfI):Xbs:=⟨[.v,.v],r32 g⟩
theorem XOf {g:XfI} {y0:List UInt8} {y1:Int} {x:(List UInt8)×Int} (hx:g y0 y1=some x):(s32 g).run [.string ⟨⟨y0⟩⟩,.int .u32 y1] []=some (rx32 x):=r32_c hx
abbrev XPv (Xaz:Xbt) (Xav:Xa7) (Xa3:Xb5) (Xd5:XeE) (Xa8:Xcf) (XbE:XcO):List (Nat×Xbs):=[(71,s71 Xaz),(30,s30 Xav),(67,s67 Xa3),(57,s57 Xd5),(70,s70 Xa8),(91,s91 XbE)]
theorem XJt (Xaz:Xbt) (Xav:Xa7) (Xa3:Xb5) (Xd5:XeE) (Xa8:Xcf) (XbE:XcO) (hS:Xal Tryz.prog (XaE (XPv Xaz Xav Xa3 Xd5 Xa8 XbE))) (s:List UInt8) (now:Int) (res:(List UInt8)×Int) (h:XmV Xaz Xav Xa3 Xd5 Xa8 XbE s now=some res) :
 XaK Tryz.prog 32 0 ⟨⟨32,11,[(0,.string ⟨⟨s⟩⟩),(1,.int .u32 now)],[.code XMK],[],false,none⟩,[],[],0⟩ (fun v H _=>Res 0 (rx32 res) v H):=by
 unfold XmV at h
 have R1:=@XqL Xav
 have R2:=@XyY Xa3
 have R3:=@Xxy XbE
 have R4:=@XR9 Xd5
 have R5:=@Xpd Xaz
 have R6:=@Xym Xa8
 refine Xbg XaJ hS true 3000 ?_
 conv=>whnf
 exact W
def Xfw:XfI:=XmV Xaz Xav Xa3 Xd5 Xa8 XbE
theorem XN5:XbA Tryz.prog 32 (s32 Xfw):=by
 have hL:=XJt Xaz Xav Xa3 Xd5 Xa8 XbE (Xal.XaV ⟨Xqx,XqE,XxT,XS3,XAj,XzX,trivial⟩)
 exact okA ⟨Tryz.f32,rfl,by decide,rfl⟩
end Go.Vm.Code
namespace Go.Vm.Code
open Go Go.Vm
theorem XnZ {B w:List UInt8} {i j:Nat} (hw:w≠[]) (h1:i+w.length≤B.length) (hj:j+2≤B.length) (hj2:j%2=0) (ho:j+2≤i∨i+w.length≤j):∃ b',XiA B i w j=(b',true)∧b'.length=B.length∧XcA b'%65535=XcA B%65535 ∧
 (∀ k,(k<i∨i+w.length≤k)→k≠j→k≠j+1→b'[k]?=B[k]?)∧(∀ k,i≤k→k<i+w.length→b'[k]?=w[k - i]?):=by
 obtain ⟨d,d1,d2,d3⟩:=Xqi (b:=B) (w:=w) (i:=i) (j:=j) hw h1 hj hj2 ho
 have hl:=Xq9 h1
 have hl2:=Xoa (s:=Xp2 B i w) (p:=j) (k:=2) (n:=d) (by omega)
 refine ⟨sset (Xp2 B i w) j 2 d,?_,by omega,d3,fun k h h' h3=>?_,fun k h h'=>?_⟩
 ·unfold XiA
  rw [if_neg (by omega),if_neg hw,if_neg (by omega),d1,Int.toNat_natCast]
 ·rw [XoG (by omega),Xmp h1]
  have e:(if k<i then B[k]? else if k<i+w.length then w[k - i]? else B[k]?)=B[k]?:=by
   by_cases c:k<i
   ·rw [if_pos c]
   ·rw [if_neg c,if_neg (by omega)]
  rw [e]
  by_cases c1:k<j
  ·rw [if_pos c1]
  ·rw [if_neg c1,if_neg (by omega)]
 ·rw [XoG (by omega),Xmp h1,if_neg (show ¬ k<i by omega),if_pos h']
  by_cases c1:k<j
  ·rw [if_pos c1]
  ·rw [if_neg c1,if_neg (by omega)]
def Xl0 (s:List UInt8):Nat:=(Xfs (XgQ (Xaj s).body (Xaj s).src (Xaj s).dst).1.Options).2.2.toNat
def XnG (s:List UInt8) (off:Nat) (v:Int):List UInt8:=s.take (Xaj s).size++(XiA (Xaj s).body (20+Xl0 s+off) (be v.toNat 4) 16).1
theorem Xni {s:List UInt8} {off:Nat} {v:Int} (hoff:off=0∨off=4) (h:(Xax s).2.2.2=0) (hs:(Xax s).1.Stamped=true) (hv:0≤v∧v<4294967296) :
 (XiA (Xaj s).body (20+Xl0 s+off) (be v.toNat 4) 16).2=true∧(XnG s off v).length=s.length ∧
 Xax (XnG s off v)=({(Xax s).1 with Val:=if off=0 then v else (Xax s).1.Val,Echo:=if off=0 then (Xax s).1.Echo else v},(Xax s).2.1,(Xax s).2.2.1,0) ∧
 (∀ k,(k<(Xaj s).size+16∨(Xaj s).size+18≤k)→(k<(Xaj s).size+20+Xl0 s+off∨(Xaj s).size+20+Xl0 s+off+4≤k)→(XnG s off v)[k]?=s[k]?):=by
 obtain ⟨k1,k2,k3,k4,k5,k6,k7⟩:=XhI h hs
 have hq:(Xfs (XgQ (Xaj s).body (Xaj s).src (Xaj s).dst).1.Options).2.2=(Xl0 s:Int):=by unfold Xl0;omega
 obtain ⟨_,_,_,hB⟩:=Xlf (b':=(Xaj s).body) (p:=Xl0 s) h hs hq (.inl rfl) rfl (fun _ _ _ _=>rfl) rfl
 have hbl:=XfB k1
 obtain ⟨_,sw2⟩:=XiM (b:=(Xaj s).body) k1 rfl
 obtain ⟨b',e1,e2,e3,e4,e5⟩:=XnZ (B:=(Xaj s).body) (w:=be v.toNat 4) (i:=20+Xl0 s+off) (j:=16) (by intro e;have:=congrArg List.length e;rw [Xdr] at this;exact absurd this (by decide)) (by rw [Xdr];omega) (by omega) (by decide) (.inl (by omega))
 rw [Xdr] at e4 e5
 have hw:vK b' (20+Xl0 s+off) 4=v:=by
  have:(b'.drop (20+Xl0 s+off)).take 4=be v.toNat 4:=by
   apply List.ext_getElem?
   intro x
   rw [List.getElem?_take]
   split
   ·rw [List.getElem?_drop,e5 _ (by omega) (by omega)];congr 1;omega
   ·rw [List.getElem?_eq_none (by rw [Xdr];omega)]
  rw [Xjc (n:=v.toNat) this rfl (by omega)];omega
 have hsame:∀ x,(x+4≤20+Xl0 s+off∨20+Xl0 s+off+4≤x)→18≤x→vK b' x 4=vK (Xaj s).body x 4:=fun x hx h18=>by
  unfold vK
  rw [Xht (fun k a1 a2=>e4 k (by omega) (by omega) (by omega))]
 obtain ⟨t1,t2,t3,_⟩:=Xlf (b':=b') (p:=Xl0 s+off) (q:=Xl0 s) h hs hq (by omega) e2 (fun k a1 a2 a3=>e4 k (by omega) a1 a2) e3
 unfold XnG
 rw [e1]
 simp only
 refine ⟨trivial,by rw [List.length_append,List.length_take];omega,?_,fun k a1 a2=>?_⟩
 ·rw [t1]
  rcases hoff with rfl|rfl
  ·simp only [if_true]
   rw [t3,←hsame (20+(Xl0 s+4)) (by omega) (by omega),show 20+Xl0 s=20+Xl0 s+0 from rfl,hw]
  ·simp only [show ¬ ((4:Nat)=0) by decide,if_false]
   rw [t2,←hsame (20+Xl0 s) (by omega) (by omega),show 20+(Xl0 s+4)=20+Xl0 s+4 by omega,hw]
 ·rw [List.getElem?_append,List.length_take]
  by_cases c:k<(Xaj s).size
  ·rw [if_pos (by omega),List.getElem?_take_of_lt c]
  ·rw [if_neg (by omega),show min (Xaj s).size s.length=(Xaj s).size by omega,e4 _ (by omega) (by omega) (by omega),sw2,List.getElem?_drop]
   congr 1;omega
theorem XuU {s:List UInt8} {off:Nat} {v x:Int} (hl:s.length<900) (hoff:off=0∨off=4) (h:(Xax s).2.2.2=0) (hs:(Xax s).1.Stamped=true) (hv:0≤v∧v<4294967296) :
 ((Xa3 s).bind fun w=>
 Xa9 (decide ((0:Int)≤w.2.1∧w.2.1≤(s.length:Int)∧(0:Int)≤(wI .i64 (w.1+20))∧(wI .i64 (w.1+20))≤(w.2.1.toNat:Int))) <|
 (XbE ((s.drop (wI .i64 (w.1+20)).toNat).take (w.2.1.toNat - (wI .i64 (w.1+20)).toNat))).bind fun s1=>
 Xa9 (decide ((0:Int)≤w.1∧w.1≤(s.length:Int))) <|
 (some (v,x)).bind fun (x1:Int×Int)=>
 (Xaz (wI .u64 x1.1) 4).bind fun p1=>
 (Xa8 ((s.drop w.1.toNat).take (s.length - w.1.toNat)) (wI .i64 ((wI .i64 (20+s1.2.2))+(off:Int))) p1 16).bind fun p2=>
 cond (!p2.2)
  (
  some (([],3)))
  (
  Xa9 (decide ((0:Int)≤w.1∧w.1≤(s.length:Int))) <|
  Xa9 (decide ((s.take w.1.toNat).length+p2.1.length<2^63)) <|
  some (((s.take w.1.toNat)++p2.1,(0:Int)))))=some (XnG s off v,0):=by
 obtain ⟨k1,k2,k3,k4,k5,k6,k7⟩:=XhI h hs
 obtain ⟨p1,p2,_,_⟩:=Xni (off:=off) (v:=v) hoff h hs hv
 have hbl:=XfB k1
 obtain ⟨_,sw2⟩:=XiM (b:=(Xaj s).body) k1 rfl
 obtain ⟨l20,v5,ln,o7,g7⟩:=XtB k5
 have hq:(Xfs (XgQ (Xaj s).body (Xaj s).src (Xaj s).dst).1.Options).2.2=(Xl0 s:Int):=by unfold Xl0;omega
 obtain ⟨_,_,_,hB⟩:=Xlf (b':=(Xaj s).body) (p:=Xl0 s) h hs hq (.inl rfl) rfl (fun _ _ _ _=>rfl) rfl
 rw [g7] at hq
 simp only [hd7] at hq
 have hin:(Xfo (Xaj s) s.length).2.1=((Xaj s).body.drop (20+n7 (Xaj s).body)).length:=by
  unfold Xfo
  rw [if_pos k2,g7]
  simp
 have ha:(Xax s).2.1=(Xaj s).size:=by rw [k7];simp only;omega
 have hb:(Xax s).2.2.1=(Xaj s).size+(20+n7 (Xaj s).body):=by rw [k7];simp only;rw [hin,List.length_drop];omega
 have hw:((XiA (Xaj s).body (20+Xl0 s+off) (be v.toNat 4) 16).1).length=(Xaj s).body.length:=by
  unfold XnG at p2
  rw [List.length_append,List.length_take] at p2;omega
 rw [XvR (by omega),ha,hb,h,Option.bind_some]
 simp only []
 unfold XnG
 generalize hz:(Xaj s).size=z at *
 have e1:wI .i64 ((z:Int)+20)=((z+20:Nat):Int):=by rw [Xc5 (by omega) (by omega)];omega
 simp only [e1,Int.toNat_natCast]
 have e2:(s.drop (z+20)).take (z+(20+n7 (Xaj s).body) - (z+20))=((Xaj s).body.drop 20).take (n7 (Xaj s).body):=by
  rw [sw2,List.drop_drop];congr 1;omega
 have e3:(s.drop z).take (s.length - z)=(Xaj s).body:=by rw [sw2];exact List.take_of_length_le (by rw [List.length_drop];omega)
 rw [e2,e3,XaC (by omega),XAk (by rw [List.length_take,List.length_drop];omega),Option.bind_some,hq,XaC (by omega),Option.bind_some]
 have hput:Xaz (wI .u64 v) 4=some (be v.toNat 4):=by
  rw [XjF (by omega) (by omega),Xes (by omega)]
  rw [show Xd9 v 4=be v.toNat 4 from Xfn (k:=4) (by omega)]
 have e4:wI .i64 (wI .i64 (20+(Xl0 s:Int))+(off:Int))=((20+Xl0 s+off:Nat):Int):=by
  rw [Xc5 (n:=20+(Xl0 s:Int)) (by omega) (by omega),Xc5 (by omega) (by omega)];omega
 simp only []
 rw [hput,Option.bind_some,e4,show (16:Int)=((16:Nat):Int) from rfl,Xu5 (by omega) (by rw [Xdr];omega) (by omega) (by omega) (by decide),Option.bind_some,p1,Bool.not_true,cond_false,XaC (by omega),XaC (by rw [List.length_take,hw];omega)]
def XCb (s:List UInt8) (c:Int):List UInt8×Int:=if (Xax s).2.2.2≠0 then ([],(Xax s).2.2.2) else if (Xax s).1.Stamped=false then ([],6) else (XnG s 0 (XfY (Xax s).1.Val c),0)
def XMe (s:List UInt8) (now:Int):List UInt8×Int:=if (Xax s).2.2.2≠0 then ([],(Xax s).2.2.2) else if (Xax s).1.Stamped=false then ([],6) else (XnG s 4 (Xi2 now (Xax s).1.Echo),0)
theorem Xt7 {s:List UInt8} (h:(Xax s).2.2.2=0) (hs:(Xax s).1.Stamped=true):(0≤(Xax s).1.Val∧(Xax s).1.Val<4294967296)∧0≤(Xax s).1.Echo∧(Xax s).1.Echo<4294967296:=by
 obtain ⟨k1,k2,k3,k4,k5,k6,k7⟩:=XhI h hs
 have hq:(Xfs (XgQ (Xaj s).body (Xaj s).src (Xaj s).dst).1.Options).2.2=(Xl0 s:Int):=by unfold Xl0;omega
 obtain ⟨_,t2,t3,hB⟩:=Xlf (b':=(Xaj s).body) (p:=Xl0 s) h hs hq (.inl rfl) rfl (fun _ _ _ _=>rfl) rfl
 rw [t2,t3]
 exact ⟨XeH _ _ _ 4294967296 (by decide),XeH _ _ _ 4294967296 (by decide)⟩
theorem XKn {s:List UInt8} {c:Int} (hl:s.length<900) (hc:0≤c∧c<65536):Xcx s c=some (XCb s c):=by
 unfold Xcx Xk6 XCb
 rw [Xmc (by omega),Option.bind_some]
 by_cases h:(Xax s).2.2.2=0
 ·rw [if_neg (by simpa using h),show ((Xax s).2.2.2 !=0)=false by simpa using h,cond_false]
  cases hs:(Xax s).1.Stamped
  ·rfl
  ·rw [if_neg (by decide)]
   obtain ⟨r1,_⟩:=Xt7 h hs
   simp only [Bool.not_true,cond_false,XyU hc]
   exact XuU (off:=0) hl (.inl rfl) h hs (by unfold XfY;omega)
 ·rw [if_pos h,show ((Xax s).2.2.2 !=0)=true by simpa using h];rfl
theorem XPB {s:List UInt8} {now:Int} (hl:s.length<900):Xfw s now=some (XMe s now):=by
 unfold Xfw XmV XMe
 rw [Xmc (by omega),Option.bind_some]
 by_cases h:(Xax s).2.2.2=0
 ·rw [if_neg (by simpa using h),show ((Xax s).2.2.2 !=0)=false by simpa using h,cond_false]
  cases hs:(Xax s).1.Stamped
  ·rfl
  ·rw [if_neg (by decide)]
   simp only [Bool.not_true,cond_false,Xw3]
   exact XuU (off:=4) hl (.inr rfl) h hs (by unfold Xi2;omega)
 ·rw [if_pos h,show ((Xax s).2.2.2 !=0)=true by simpa using h];rfl
theorem v2_nz {b:List UInt8} {p:Nat} (h:v2 b p≠0):XcA b≠0:=fun e=>by
 have ha:=Xnj b e
 apply h
 unfold v2
 have hz:∀ l:List UInt8,XM1 l=true→XdH l=0:=fun l=>by
  induction l with
  | nil=>intro _;rfl
  | cons x l ih=>
    intro hl
    simp only [XM1,List.all_cons,Bool.and_eq_true,beq_iff_eq] at hl
    rw [XfL,ih hl.2,hl.1];simp
 rw [hz]
 ·rfl
 ·simp only [XM1,List.all_eq_true,beq_iff_eq] at ha ⊢
  intro x hx
  exact ha x (List.mem_of_mem_drop (List.mem_of_mem_take hx))
theorem XsT {B C:List UInt8} {src dst:Xab} (h:(XgN B src dst).2.2=0) (hw:(XgN B src dst).2.1.length+8=B.length) (hl:C.length=B.length) (hd:∀ k,k<6→C[k]?=B[k]?)
 (hc:(v2 B 6=0∧v2 C 6=0)∨(v2 B 6≠0∧v2 C 6≠0∧XcA C%65535=XcA B%65535)) :
 XgN B src dst=(⟨v2 B 0,v2 B 2⟩,B.drop 8,0)∧XgN C src dst=(⟨v2 B 0,v2 B 2⟩,C.drop 8,0)∧8≤B.length:=by
 have e:∀ p,p+2≤6→v2 C p=v2 B p:=fun p hp=>by
  unfold v2;rw [Xht (fun k _ a2=>hd k (by omega))]
 have r4:=Xo4 B 4
 unfold XgN at h hw ⊢
 rw [hl,e 4 (by omega),e 0 (by omega),e 2 (by omega)]
 by_cases g1:B.length<8
 ·rw [if_pos g1] at h;exact absurd h (by decide)
 rw [if_neg g1] at h hw ⊢
 rw [if_neg g1]
 by_cases g2:v2 B 4<8
 ·rw [if_pos g2] at h;exact absurd h (by decide)
 rw [if_neg g2] at h hw ⊢
 rw [if_neg g2]
 by_cases g3:(B.length:Int)<v2 B 4
 ·rw [if_pos g3] at h;exact absurd h (by decide)
 rw [if_neg g3] at h hw ⊢
 rw [if_neg g3]
 by_cases g4:XjP src dst 17 (v2 B 4)=[]
 ·rw [if_pos g4] at h;exact absurd h (by decide)
 rw [if_neg g4] at h hw ⊢
 rw [if_neg g4]
 have key:∀ D:List UInt8,D.length=B.length→(v2 B 4).toNat=B.length→(D.drop 8).take ((v2 B 4).toNat - 8)=D.drop 8∧D.take (v2 B 4).toNat=D:=fun D hD h4=>
  ⟨List.take_of_length_le (by rw [List.length_drop];omega),List.take_of_length_le (by omega)⟩
 rcases hc with ⟨c1,c2⟩|⟨c1,c2,c3⟩
 ·rw [if_pos c1] at h hw ⊢
  rw [if_pos c2]
  by_cases g5:src.V6=true
  ·rw [if_pos g5] at h;exact absurd h (by decide)
  rw [if_neg g5] at hw ⊢
  have h4:(v2 B 4).toNat=B.length:=by
   simp only [List.length_take,List.length_drop] at hw;omega
  rw [if_neg g5,(key B rfl h4).1,(key C hl h4).1]
  exact ⟨rfl,rfl,by omega⟩
 ·rw [if_neg c1] at h hw ⊢
  rw [if_neg c2]
  by_cases g5:norm (XcA (XjP src dst 17 (v2 B 4)++B.take (v2 B 4).toNat))≠65535
  ·rw [if_pos g5] at h;exact absurd h (by decide)
  rw [if_neg g5] at hw ⊢
  have h4:(v2 B 4).toNat=B.length:=by
   simp only [List.length_take,List.length_drop] at hw;omega
  rw [(key B rfl h4).2] at g5
  rw [(key C hl h4).2,(key B rfl h4).1,(key C hl h4).1]
  have pe:=XpR src dst 17 (v2 B 4)
  rw [XcJ _ _ pe] at g5 ⊢
  have:=XhO (XcA (XjP src dst 17 (v2 B 4))+XcA B)
  have nz:=v2_nz c2
  rw [if_neg (by rw [Xg6 (by omega) (by omega)];simp)]
  exact ⟨rfl,rfl,by omega⟩
theorem Xq6 {s t:List UInt8} {p:Nat} (h:t[p]?=s[p]?):b1 t p=b1 s p:=by
 unfold b1
 have:=Xht (s:=s) (s':=t) (f:=p) (m:=1) (fun k a1 a2=>by
  have e:k=p:=by omega
  rw [e];exact h)
 rw [this]
theorem Xsw {l m:List UInt8} (h:(XhM l).2=0) (hlg:(XhM l).1.Long=true) (h8:(XhM l).1.SCID.length=8) (hl:m.length=l.length) (hd:∀ k,k<7+(XhM l).1.DCID.length∨15+(XhM l).1.DCID.length≤k→m[k]?=l[k]?) :
 (XhM m).2=0∧(XhM m).1.Long=true∧(XhM m).1.DCID=(XhM l).1.DCID∧(XhM m).1.SCID=(m.drop (7+(XhM l).1.DCID.length)).take 8∧15+(XhM l).1.DCID.length≤l.length∧(XhM l).1.DCID.length≤20:=by
 unfold XhM at h hlg h8 hd
 by_cases g1:l=[]
 ·rw [if_pos g1] at h;exact absurd h (by decide)
 rw [if_neg g1] at h hlg h8 hd
 by_cases g2:b1 l 0/64%2=0
 ·rw [if_pos g2] at h;exact absurd h (by decide)
 rw [if_neg g2] at h hlg h8 hd
 by_cases g3:b1 l 0<128
 ·rw [if_pos g3] at h hlg
  split at hlg
  ·exact absurd hlg (by decide)
  ·exact absurd hlg (by simp)
 rw [if_neg g3] at h hlg h8 hd
 by_cases g4:l.length<5
 ·rw [if_pos g4] at h;exact absurd h (by decide)
 rw [if_neg g4] at h hlg h8 hd
 by_cases g5:(idS l 5).2.1≠0
 ·rw [if_pos g5] at h;exact absurd h g5
 rw [if_neg g5] at h hlg h8 hd
 by_cases g6:(idS l (idS l 5).2.2).2.1≠0
 ·rw [if_pos g6] at h;exact absurd h g6
 rw [if_neg g6] at h8 hd
 simp only at h8 hd
 have eL:(XhM l).1.DCID=(idS l 5).1:=by
  unfold XhM;rw [if_neg g1,if_neg g2,if_neg g3,if_neg g4,if_neg g5,if_neg g6]
 rw [eL]
 have f1:idS l 5=((l.drop 6).take (b1 l 5),0,6+b1 l 5)∧6+b1 l 5≤l.length∧b1 l 5≤20:=by
  unfold idS at g5 ⊢
  by_cases q1:l.length≤5
  ·rw [if_pos q1] at g5;exact absurd g5 (by decide)
  rw [if_neg q1] at g5 ⊢
  by_cases q2:20<b1 l 5
  ·rw [if_pos q2] at g5;exact absurd g5 (by decide)
  rw [if_neg q2] at g5 ⊢
  by_cases q3:l.length<5+1+b1 l 5
  ·rw [if_pos q3] at g5;exact absurd g5 (by decide)
  rw [if_neg q3]
  exact ⟨rfl,by omega,by omega⟩
 obtain ⟨f1,f2,f3⟩:=f1
 rw [f1] at g6 h8 hd ⊢
 simp only at g6 h8 hd ⊢
 have dl:((l.drop 6).take (b1 l 5)).length=b1 l 5:=by rw [List.length_take,List.length_drop];omega
 rw [dl] at hd ⊢
 generalize hD:b1 l 5=D at *
 have s1:idS l (6+D)=((l.drop (6+D+1)).take (b1 l (6+D)),0,6+D+1+b1 l (6+D))∧6+D+1+b1 l (6+D)≤l.length∧b1 l (6+D)≤20:=by
  unfold idS at g6 ⊢
  by_cases q1:l.length≤6+D
  ·rw [if_pos q1] at g6;exact absurd g6 (by simp)
  rw [if_neg q1] at g6 ⊢
  by_cases q2:20<b1 l (6+D)
  ·rw [if_pos q2] at g6;exact absurd g6 (by simp)
  rw [if_neg q2] at g6 ⊢
  by_cases q3:l.length<6+D+1+b1 l (6+D)
  ·rw [if_pos q3] at g6;exact absurd g6 (by simp)
  rw [if_neg q3]
  exact ⟨rfl,by omega,by omega⟩
 obtain ⟨s1,s2,s3⟩:=s1
 rw [s1] at h8
 simp only [List.length_take,List.length_drop] at h8
 have s4:b1 l (6+D)=8:=by omega
 have m0:b1 m 0=b1 l 0:=Xq6 (hd 0 (by omega))
 have m5:b1 m 5=D:=by rw [Xq6 (hd 5 (by omega)),hD]
 have m6:b1 m (6+D)=8:=by rw [Xq6 (hd (6+D) (by omega)),s4]
 have i5:idS m 5=((l.drop 6).take D,0,6+D):=by
  unfold idS
  rw [m5,hl,if_neg (by omega),if_neg (by omega),if_neg (by omega),Xht (s:=l) (fun k a1 a2=>hd k (by omega))]
 have i6:idS m (6+D)=((m.drop (6+D+1)).take 8,0,6+D+1+8):=by
  unfold idS
  rw [m6,hl,if_neg (by omega),if_neg (by omega),if_neg (by omega)]
 unfold XhM
 rw [if_neg (by intro e;rw [e] at hl;simp only [List.length_nil] at hl;omega),m0,if_neg g2,if_neg g3,if_neg (by omega),i5]
 simp only []
 rw [if_neg (by decide),i6]
 simp only []
 rw [if_neg (by decide),show 6+D+1=7+D by omega]
 exact ⟨rfl,rfl,rfl,rfl,by omega,f3⟩
def c36 (B b:List UInt8):Int:=if v2 B 6=0 then 0 else if v2 b 6=0 then 65535 else v2 b 6
def XF9 (s:List UInt8) (i:Int):List UInt8:=
 let B:=(Xaj s).body
 let b:=(XiA B (15+(XhM (B.drop 8)).1.DCID.length) (be i.toNat 8) 6).1
 s.take (Xaj s).size++sset b 6 2 (c36 B b).toNat
theorem XzE {s:List UInt8} {i:Int} (h:(Xax s).2.2.2=0) (hp:(Xax s).1.Tuple.Proto=17) (q0:(XhM (s.drop (Xax s).2.2.1)).2=0) (q1:(XhM (s.drop (Xax s).2.2.1)).1.Long=true) (q8:(XhM (s.drop (Xax s).2.2.1)).1.SCID.length=8) :
 (Xaj s).err=0∧(Xax s).2.1=(Xaj s).size∧(Xax s).2.2.1=(Xaj s).size+8∧(Xaj s).body=s.drop (Xaj s).size∧15+(XhM (s.drop (Xax s).2.2.1)).1.DCID.length+8≤(Xaj s).body.length∧(XhM (s.drop (Xax s).2.2.1)).1.DCID.length≤20 ∧
 s.drop (Xax s).2.2.1=(Xaj s).body.drop 8 ∧
 (XiA (Xaj s).body (15+(XhM (s.drop (Xax s).2.2.1)).1.DCID.length) (be i.toNat 8) 6).2=true∧(XiA (Xaj s).body (15+(XhM (s.drop (Xax s).2.2.1)).1.DCID.length) (be i.toNat 8) 6).1.length=(Xaj s).body.length ∧
 (XF9 s i).length=s.length∧Xax (XF9 s i)=Xax s ∧
 (∀ k,(k<(Xaj s).size+15+(XhM (s.drop (Xax s).2.2.1)).1.DCID.length∨(Xaj s).size+15+(XhM (s.drop (Xax s).2.2.1)).1.DCID.length+8≤k)→(k<(Xaj s).size+6∨(Xaj s).size+6+2≤k)→(XF9 s i)[k]?=s[k]?) ∧
 (XhM ((XF9 s i).drop (Xax s).2.2.1)).2=0∧(XhM ((XF9 s i).drop (Xax s).2.2.1)).1.SCID=be i.toNat 8:=by
 have hT:9000<s.length∨s=[]∨(Xaj s).err≠0∨(Xfo (Xaj s) s.length).2.2≠0∨(¬ 9000<s.length∧s≠[]∧(Xaj s).err=0∧(Xfo (Xaj s) s.length).2.2=0):=by
  by_cases a1:9000<s.length
  ·exact .inl a1
  by_cases a2:s=[]
  ·exact .inr (.inl a2)
  by_cases a3:(Xaj s).err=0
  ·by_cases a4:(Xfo (Xaj s) s.length).2.2=0
   ·exact .inr (.inr (.inr (.inr ⟨a1,a2,a3,a4⟩)))
   ·exact .inr (.inr (.inr (.inl a4)))
  ·exact .inr (.inr (.inl a3))
 have eT:¬ 9000<s.length∧s≠[]∧(Xaj s).err=0∧(Xfo (Xaj s) s.length).2.2=0:=by
  unfold Xax at h
  rcases hT with a|a|a|a|a
  ·rw [if_pos a] at h;exact absurd h (by decide)
  ·by_cases a1:9000<s.length
   ·rw [if_pos a1] at h;exact absurd h (by decide)
   ·rw [if_neg a1,if_pos a] at h;exact absurd h (by decide)
  ·by_cases a1:9000<s.length
   ·rw [if_pos a1] at h;exact absurd h (by decide)
   by_cases a2:s=[]
   ·rw [if_neg a1,if_pos a2] at h;exact absurd h (by decide)
   ·rw [if_neg a1,if_neg a2,if_pos a] at h;exact absurd h a
  ·by_cases a1:9000<s.length
   ·rw [if_pos a1] at h;exact absurd h (by decide)
   by_cases a2:s=[]
   ·rw [if_neg a1,if_pos a2] at h;exact absurd h (by decide)
   by_cases a3:(Xaj s).err≠0
   ·rw [if_neg a1,if_neg a2,if_pos a3] at h;exact absurd h a3
   ·rw [if_neg a1,if_neg a2,if_neg a3,if_pos a] at h;exact absurd h a
  ·exact a
 obtain ⟨n1,n2,n3,n4⟩:=eT
 have tE:Xax s=((Xfo (Xaj s) s.length).1,s.length - (Xaj s).body.length,s.length - (Xfo (Xaj s) s.length).2.1,0):=by
  unfold Xax;rw [if_neg n1,if_neg n2,if_neg (by omega),if_neg (by omega)]
 have hbl:=XfB n3
 obtain ⟨_,sw2⟩:=XiM (b:=(Xaj s).body) n3 rfl
 have hpr:(Xaj s).proto=17:=by
  rw [tE] at hp
  simp only at hp
  unfold Xfo at hp n4
  by_cases c1:(Xaj s).proto=6
  ·rw [if_pos c1] at hp n4
   by_cases c2:(XgQ (Xaj s).body (Xaj s).src (Xaj s).dst).2.2≠0
   ·rw [if_pos c2] at n4;exact absurd n4 c2
   ·rw [if_neg c2] at hp;simp only at hp;omega
  ·rw [if_neg c1] at n4
   by_cases c2:(Xaj s).proto=17
   ·exact c2
   ·rw [if_neg c2] at n4;exact absurd n4 (by decide)
 have in17:∀ o:O11,∀ n:Nat,o.proto=17→Xfo o n=if (XgN o.body o.src o.dst).2.2≠0 then (zP,0,(XgN o.body o.src o.dst).2.2) else if (XgN o.body o.src o.dst).2.1.length+8≠o.body.length then (zP,0,5) else
  (⟨⟨o.proto,o.src,o.dst,(XgN o.body o.src o.dst).1.SPort,(XgN o.body o.src o.dst).1.DPort⟩,0,false,0,0,(Xwv (XgN o.body o.src o.dst).2.1).1,(Xwv (XgN o.body o.src o.dst).2.1).2,n⟩,(XgN o.body o.src o.dst).2.1.length,0):=fun o n e=>by
  unfold Xfo;rw [if_neg (by omega),if_pos e]
 rw [in17 _ _ hpr] at n4
 have g8:(XgN (Xaj s).body (Xaj s).src (Xaj s).dst).2.2=0∧(XgN (Xaj s).body (Xaj s).src (Xaj s).dst).2.1.length+8=(Xaj s).body.length:=by
  by_cases c1:(XgN (Xaj s).body (Xaj s).src (Xaj s).dst).2.2≠0
  ·rw [if_pos c1] at n4;exact absurd n4 c1
  rw [if_neg c1] at n4
  by_cases c2:(XgN (Xaj s).body (Xaj s).src (Xaj s).dst).2.1.length+8≠(Xaj s).body.length
  ·rw [if_pos c2] at n4;exact absurd n4 (by decide)
  ·exact ⟨by omega,by omega⟩
 rw [in17 _ _ hpr,if_neg (by omega),if_neg (by omega)] at tE
 have eB:∀ C:List UInt8,C=(Xaj s).body→(v2 (Xaj s).body 6=0∧v2 C 6=0)∨(v2 (Xaj s).body 6≠0∧v2 C 6≠0∧XcA C%65535=XcA (Xaj s).body%65535):=fun C e=>by
  subst e
  by_cases c:v2 (Xaj s).body 6=0
  ·exact .inl ⟨c,c⟩
  ·exact .inr ⟨c,c,rfl⟩
 obtain ⟨gB,_,b8⟩:=XsT (C:=(Xaj s).body) g8.1 g8.2 rfl (fun _ _=>rfl) (eB _ rfl)
 rw [gB] at tE
 simp only at tE
 have w2:(Xax s).2.1=(Xaj s).size:=by rw [tE];simp only;omega
 have w3:(Xax s).2.2.1=(Xaj s).size+8:=by rw [tE];simp only [List.length_drop];omega
 have eD:s.drop (Xax s).2.2.1=(Xaj s).body.drop 8:=by rw [w3,sw2,List.drop_drop]
 rw [eD] at q0 q1 q8 ⊢
 obtain ⟨_,_,_,_,p5,p6⟩:=Xsw (m:=(Xaj s).body.drop 8) q0 q1 q8 rfl (fun _ _=>rfl)
 rw [List.length_drop] at p5
 unfold XF9
 simp only []
 generalize hB:(Xaj s).body=B at *
 generalize hD:(XhM (B.drop 8)).1.DCID.length=D at *
 obtain ⟨b,e1,e2,e3,e4,e5⟩:=XnZ (B:=B) (w:=be i.toNat 8) (i:=15+D) (j:=6) (by intro e;have:=congrArg List.length e;rw [Xdr] at this;exact absurd this (by decide)) (by rw [Xdr];omega) (by omega) (by decide) (.inl (by omega))
 rw [Xdr] at e4 e5
 rw [e1]
 simp only []
 have hcr:0≤c36 B b∧c36 B b<65536:=by
  have:=Xo4 b 6
  unfold c36;split
  ·omega
  split<;>omega
 have hsl:(sset b 6 2 (c36 B b).toNat).length=B.length:=by rw [Xoa (by omega),e2]
 have hs6:v2 (sset b 6 2 (c36 B b).toNat) 6=c36 B b:=by
  unfold v2
  rw [XvW (by omega),Xew (by simp only [Nat.reducePow];omega)];omega
 have hsw:XcA (sset b 6 2 (c36 B b).toNat)+(v2 b 6).toNat=XcA b+(c36 B b).toNat:=by
  have:=Xo0 (s:=b) (p:=6) (k:=2) (n:=(c36 B b).toNat) (by omega) (by decide) (by decide)
  rw [XhS (by omega)] at this
  have e:XcA ((b.drop 6).take 2)=(v2 b 6).toNat:=by
   have hl2:((b.drop 6).take 2).length=2:=by rw [List.length_take,List.length_drop];omega
   unfold v2
   have hb:=XxC ((b.drop 6).take 2)
   rw [hl2] at hb
   have:=Xc9 (l:=b.drop 6) (k:=2) 65536 (by decide)
   rw [←hb,XhS this,Xew (by simpa using this)];omega
  rw [e] at this
  exact this
 have hsg:∀ k,k≠6→k≠7→(sset b 6 2 (c36 B b).toNat)[k]?=b[k]?:=fun k a1 a2=>by
  rw [XoG (by omega)]
  by_cases c1:k<6
  ·rw [if_pos c1]
  ·rw [if_neg c1,if_neg (by omega)]
 have hcase:(v2 B 6=0∧v2 (sset b 6 2 (c36 B b).toNat) 6=0)∨(v2 B 6≠0∧v2 (sset b 6 2 (c36 B b).toNat) 6≠0∧XcA (sset b 6 2 (c36 B b).toNat)%65535=XcA B%65535):=by
  have r6:=Xo4 b 6
  rw [hs6]
  by_cases c:v2 B 6=0
  ·exact .inl ⟨c,by unfold c36;rw [if_pos c]⟩
  ·refine .inr ⟨c,?_,?_⟩
   ·unfold c36;rw [if_neg c];split<;>omega
   ·rw [←e3]
    unfold c36 at hsw ⊢
    rw [if_neg c] at hsw ⊢
    by_cases c2:v2 b 6=0
    ·rw [if_pos c2] at hsw ⊢
     rw [c2] at hsw
     simp only [show (65535:Int).toNat=65535 from rfl,show (0:Int).toNat=0 from rfl] at hsw ⊢
     omega
    ·rw [if_neg c2] at hsw ⊢
     omega
 generalize hC:sset b 6 2 (c36 B b).toNat=C at *
 obtain ⟨_,gC,_⟩:=XsT (C:=C) g8.1 g8.2 hsl (fun k hk=>by rw [hsg k (by omega) (by omega),e4 k (by omega) (by omega) (by omega)]) hcase
 obtain ⟨z1,z2,z3,z4,_,_⟩:=Xsw (m:=C.drop 8) q0 q1 q8 (by rw [List.length_drop,List.length_drop,hsl]) (fun k hk=>by
  rw [hD] at hk
  rw [List.getElem?_drop,List.getElem?_drop,hsg _ (by omega) (by omega),e4 _ (by omega) (by omega) (by omega)])
 rw [hD] at z4
 obtain ⟨t1,_⟩:=XiM (b:=C) n3 (by rw [hB];exact hsl)
 have tl:(s.take (Xaj s).size++C).length=s.length:=by rw [List.length_append,List.length_take];omega
 have hdr:(s.take (Xaj s).size++C).drop (Xaj s).size=C:=List.drop_left' (by rw [List.length_take];omega)
 have eDC:(s.take (Xaj s).size++C).drop (Xax s).2.2.1=C.drop 8:=by rw [w3,←List.drop_drop,hdr]
 rw [eDC]
 refine ⟨n3,w2,w3,sw2,by omega,p6,trivial,trivial,e2,tl,?_,fun k a1 a2=>?_,z1,?_⟩
 ·rw [tE]
  unfold Xax
  rw [tl,if_neg n1,if_neg (by intro e;rw [e] at tl;exact n2 (List.length_eq_zero_iff.1 (by simpa using tl.symm))),t1]
  simp only []
  have gg:Xfo ⟨(Xaj s).src,(Xaj s).dst,(Xaj s).proto,(Xaj s).size,C,0⟩ s.length=(⟨⟨(Xaj s).proto,(Xaj s).src,(Xaj s).dst,v2 B 0,v2 B 2⟩,0,false,0,0,(Xwv (C.drop 8)).1,(Xwv (C.drop 8)).2,(s.length:Int)⟩,(C.drop 8).length,0):=by
   rw [in17 ⟨(Xaj s).src,(Xaj s).dst,(Xaj s).proto,(Xaj s).size,C,0⟩ _ hpr]
   simp only []
   rw [gC]
   simp only []
   rw [if_neg (show ¬ (0:Int)≠0 by simp),if_neg (by rw [List.length_drop];omega)]
  rw [if_neg (show ¬ (0:Int)≠0 by simp),gg]
  simp only []
  rw [if_neg (show ¬ (0:Int)≠0 by simp)]
  have eq:Xwv (C.drop 8)=Xwv (B.drop 8):=by unfold Xwv;rw [z1,q0,z2,q1,z3]
  rw [eq,hsl]
  simp only [List.length_drop,hsl]
 ·rw [List.getElem?_append,List.length_take]
  by_cases c:k<(Xaj s).size
  ·rw [if_pos (by omega),List.getElem?_take_of_lt c]
  ·rw [if_neg (by omega),show min (Xaj s).size s.length=(Xaj s).size by omega,hsg _ (by omega) (by omega),e4 _ (by omega) (by omega) (by omega),sw2,List.getElem?_drop]
   congr 1;omega
 ·rw [z4]
  apply List.ext_getElem?
  intro x
  rw [List.getElem?_take]
  split
  ·rw [List.getElem?_drop,List.getElem?_drop,hsg _ (by omega) (by omega),e5 _ (by omega) (by omega)];congr 1;omega
  ·rw [List.getElem?_eq_none (by rw [Xdr];omega)]
end Go.Vm.Code
namespace Go.Vm.Code
open Go Go.Vm Go.Proofs
set_option maxRecDepth 100000
set_option maxHeartbeats 4000000
set_option linter.unusedVariables false
def XjB (XbU:Xdz) (Xaw:Xbk) (Xaz:Xbt) (Xav:Xa7) (Xa3:Xb5) (Xdk:Xd8) (Xa8:Xcf) (s:List UInt8) (ida1:Int):Option ((List UInt8)×Int):=
 (Xav s).bind fun p=>
 cond (p.2 !=0)
  (
  some (([],p.2)))
  (
  (Xa3 s).bind fun w=>
  Xa9 (decide ((0:Int)≤w.2.1∧w.2.1≤(s.length:Int))) <|
  let t:=(s.drop w.2.1.toNat).take (s.length - w.2.1.toNat)
  (Xdk t).bind fun xg=>
  cond (p.1.Tuple.Proto !=17)
   (
   some (([],6)))
   (
   cond (xg.2 !=0)
    (
    some (([],6)))
    (
    cond (!xg.1.Long)
     (
     some (([],6)))
     (
     cond ((xg.1.SCID.length:Int) !=8)
      (
      some (([],3)))
      (
      (Xaw s (wI .i64 (w.1+6)) 2).bind fun xg1=>
      Xa9 (decide ((0:Int)≤w.1∧w.1≤(s.length:Int))) <|
      let t1:=(s.drop w.1.toNat).take (s.length - w.1.toNat)
      (Xaz ida1 8).bind fun p1=>
      (Xa8 t1 (wI .i64 (15+(xg.1.DCID.length:Int))) p1 6).bind fun p2=>
      cond (!p2.2)
       (
       some (([],3)))
       (
       (Xaw p2.1 6 2).bind fun xg2=>
       cond (xg1.1==0)
        (
        Xa9 (decide ((0:Int)≤w.1∧w.1≤(s.length:Int))) <|
        (XbU p2.1 6 2 0).bind fun s1=>
        Xa9 (decide ((s.take w.1.toNat).length+s1.length<2^63)) <|
        some (((s.take w.1.toNat)++s1,0)))
        (
        cond (xg2.1==0)
         (
         Xa9 (decide ((0:Int)≤w.1∧w.1≤(s.length:Int))) <|
         (XbU p2.1 6 2 65535).bind fun s2=>
         Xa9 (decide ((s.take w.1.toNat).length+s2.length<2^63)) <|
         some (((s.take w.1.toNat)++s2,0)))
         (
         Xa9 (decide ((0:Int)≤w.1∧w.1≤(s.length:Int))) <|
         (XbU p2.1 6 2 xg2.1).bind fun s3=>
         Xa9 (decide ((s.take w.1.toNat).length+s3.length<2^63)) <|
         some (((s.take w.1.toNat)++s3,0))))))))))
def rx38 (x:(List UInt8)×Int):Xcu:=⟨.tuple ⟨[.string ⟨⟨x.1⟩⟩,.int .i64 x.2]⟩,[],[]⟩
abbrev Xdg:=(List UInt8)→Int→Option ((List UInt8)×Int)
def r38 (g:Xdg):Dec:=dV asS fun (y0:List UInt8)=>dV (asI .u64) fun (y1:Int)=>Xdm (ofG (g y0 y1) rx38)
theorem r38_c {g:Xdg} {y0:List UInt8} {y1:Int} {x:(List UInt8)×Int} (hx:g y0 y1=some x):r38 g [.string ⟨⟨y0⟩⟩,.int .u64 y1] []=some (rx38 x):=(XaY (XcY)).trans ((XaY (Xc2 _)).trans (XaX hx))
def s38 (g:Xdg):Xbs:=⟨[.v,.v],r38 g⟩
theorem XGJ {g:Xdg} {y0:List UInt8} {y1:Int} {x:(List UInt8)×Int} (hx:g y0 y1=some x):(s38 g).run [.string ⟨⟨y0⟩⟩,.int .u64 y1] []=some (rx38 x):=r38_c hx
abbrev XRv (XbU:Xdz) (Xaw:Xbk) (Xaz:Xbt) (Xav:Xa7) (Xa3:Xb5) (Xdk:Xd8) (Xa8:Xcf):List (Nat×Xbs):=[(72,s72 XbU),(69,s69 Xaw),(71,s71 Xaz),(30,s30 Xav),(67,s67 Xa3),(68,s68 Xdk),(70,s70 Xa8)]
theorem XIC (XbU:Xdz) (Xaw:Xbk) (Xaz:Xbt) (Xav:Xa7) (Xa3:Xb5) (Xdk:Xd8) (Xa8:Xcf) (hS:Xal Tryz.prog (XaE (XRv XbU Xaw Xaz Xav Xa3 Xdk Xa8))) (s:List UInt8) (ida1:Int) (res:(List UInt8)×Int) (h:XjB XbU Xaw Xaz Xav Xa3 Xdk Xa8 s ida1=some res) :
 XaK Tryz.prog 38 0 ⟨⟨38,98,[(0,.string ⟨⟨s⟩⟩),(1,.int .u64 ida1)],[.code XGi],[],false,none⟩,[],[],0⟩ (fun v H _=>Res 0 (rx38 res) v H):=by
 unfold XjB at h
 have R1:=@XqL Xav
 have R2:=@XyY Xa3
 have R3:=@XE3 Xdk
 have R4:=@XpF Xaw
 have R5:=@Xpd Xaz
 have R6:=@Xym Xa8
 have R7:=@XFs XbU
 refine Xbg XaJ hS true 3000 ?_
 conv=>whnf
 exact W
def Xcb:Xdg:=XjB XbU Xaw Xaz Xav Xa3 Xdk Xa8
theorem XGV:XbA Tryz.prog 38 (s38 Xcb):=by
 have hL:=XIC XbU Xaw Xaz Xav Xa3 Xdk Xa8 (Xal.XaV ⟨XE2,Xqm,Xqx,XqE,XxT,XGB,XAj,trivial⟩)
 exact okA ⟨Tryz.f38,rfl,by decide,rfl⟩
end Go.Vm.Code
namespace Go.Vm.Code
open Go Go.Vm
def name36 (s:List UInt8) (i:Int):List UInt8×Int:=
 if (Xax s).2.2.2≠0 then ([],(Xax s).2.2.2) else if (Xax s).1.Tuple.Proto≠17 then ([],6) else if (XhM (s.drop (Xax s).2.2.1)).2≠0 then ([],6) else
  if (XhM (s.drop (Xax s).2.2.1)).1.Long=false then ([],6) else if (XhM (s.drop (Xax s).2.2.1)).1.SCID.length≠8 then ([],3) else (XF9 s i,0)
theorem XCd {s:List UInt8} {i:Int} (hl:s.length<900) (h0:0≤i):Xcb s i=some (name36 s i):=by
 unfold Xcb XjB name36
 rw [Xmc (by omega),Option.bind_some]
 simp only []
 by_cases h:(Xax s).2.2.2=0
 ·have hle:=(XsR s).2
  have et:(s.drop (Xax s).2.2.1).take (s.length - (Xax s).2.2.1)=s.drop (Xax s).2.2.1:=List.take_of_length_le (by rw [List.length_drop];omega)
  rw [show ((Xax s).2.2.2 !=0)=false by simpa using h,cond_false,if_neg (by omega),XvR (by omega),Option.bind_some]
  simp only []
  rw [XaC (by omega),Int.toNat_natCast,et,Xu1 (by rw [List.length_drop];omega),Option.bind_some]
  by_cases hp:(Xax s).1.Tuple.Proto=17
  ·rw [show ((Xax s).1.Tuple.Proto !=17)=false by simpa using hp,cond_false,if_neg (by omega)]
   by_cases q0:(XhM (s.drop (Xax s).2.2.1)).2=0
   ·rw [show ((XhM (s.drop (Xax s).2.2.1)).2 !=0)=false by simpa using q0,cond_false,if_neg (by omega)]
    cases q1:(XhM (s.drop (Xax s).2.2.1)).1.Long
    ·rfl
    rw [Bool.not_true,cond_false,if_neg (by decide)]
    by_cases q8:(XhM (s.drop (Xax s).2.2.1)).1.SCID.length=8
    ·rw [show (((XhM (s.drop (Xax s).2.2.1)).1.SCID.length:Int) !=8)=false by rw [q8];rfl,cond_false,if_neg (by omega)]
     obtain ⟨n3,w2,w3,sw2,d1,d2,eD,p1,p2,nl,_⟩:=XzE (i:=i) h hp q0 q1 q8
     have hbl:=XfB n3
     rw [w2]
     unfold XF9
     simp only []
     rw [←eD]
     generalize (XhM (s.drop (Xax s).2.2.1)).1.DCID.length=D at *
     have eb:(s.drop (Xaj s).size).take (s.length - (Xaj s).size)=(Xaj s).body:=by
      rw [sw2];exact List.take_of_length_le (by rw [List.length_drop];omega)
     have e6:Xaw s (wI .i64 (((Xaj s).size:Int)+6)) 2=some (v2 (Xaj s).body 6,true):=by
      rw [Xc5 (by omega) (by omega),XdC (by omega),XgZ (by omega) (by omega) (by omega) (by omega),show ((((Xaj s).size:Int))+6).toNat=(Xaj s).size+6 by omega,sw2,XxP];rfl
     have hput:Xaz i 8=some (be i.toNat 8):=by
      rw [Xes h0,show Xd9 i 8=be i.toNat 8 from Xfn (k:=8) (by omega)]
     have e15:wI .i64 (15+(D:Int))=((15+D:Nat):Int):=by rw [Xc5 (by omega) (by omega)];omega
     rw [e6,Option.bind_some,XaC (by omega),Int.toNat_natCast,eb,hput,Option.bind_some,e15]
     simp only []
     rw [show (6:Int)=((6:Nat):Int) from rfl,Xu5 (by omega) (by rw [Xdr];omega) (by omega) (by omega) (by decide),Option.bind_some,p1,Bool.not_true,cond_false]
     generalize (XiA (Xaj s).body (15+D) (be i.toNat 8) 6).1=b at *
     have r6:=Xo4 b 6
     have g6:Xaw b ((6:Nat):Int) 2=some (v2 b 6,true):=by
      rw [XdC (by omega),XgZ (by omega) (by omega) (by omega) (by omega)];rfl
     rw [g6,Option.bind_some]
     simp only []
     have fin:∀ c:Int,0≤c→(XbU b ((6:Nat):Int) 2 c)=some (sset b 6 2 c.toNat):=fun c hc=>
      Xrz (k:=2) (by omega) hc (by omega) (by omega) (by omega)
     have sl:∀ c:Int,(s.take (Xaj s).size).length+(sset b 6 2 c.toNat).length<2^63:=fun c=>by
      rw [Xoa (by omega),List.length_take];omega
     unfold c36
     by_cases c1:v2 (Xaj s).body 6=0
     ·rw [show (v2 (Xaj s).body 6==0)=true by simpa using c1,cond_true,XaC (by omega),fin 0 (by omega),Option.bind_some,XaC (sl 0),if_pos c1]
     rw [show (v2 (Xaj s).body 6==0)=false by simpa using c1,cond_false,if_neg c1]
     by_cases c2:v2 b 6=0
     ·rw [show (v2 b 6==0)=true by simpa using c2,cond_true,XaC (by omega),fin 65535 (by omega),Option.bind_some,XaC (sl 65535),if_pos c2]
     ·rw [show (v2 b 6==0)=false by simpa using c2,cond_false,XaC (by omega),fin _ (by omega),Option.bind_some,XaC (sl _),if_neg c2]
    ·rw [show (((XhM (s.drop (Xax s).2.2.1)).1.SCID.length:Int) !=8)=true by rw [bne_iff_ne];omega,cond_true,if_pos q8]
   ·rw [show ((XhM (s.drop (Xax s).2.2.1)).2 !=0)=true by simpa using q0,cond_true,if_pos q0]
  ·rw [show ((Xax s).1.Tuple.Proto !=17)=true by simpa using hp,cond_true,if_pos hp]
 ·rw [show ((Xax s).2.2.2 !=0)=true by simpa using h,cond_true,if_pos h]
end Go.Vm.Code
namespace Go.Vm.Code
open Go Go.Vm Go.Proofs
set_option maxRecDepth 100000
set_option maxHeartbeats 4000000
set_option linter.unusedVariables false
def XgX:Option Bool:=
 some (false)
def Xvx (x:Bool):Xcu:=⟨.bool x,[],[none,none]⟩
abbrev Xar:=Option Bool
def Xx6 (g:Xar):Dec:=dNl 2<|Xdm (ofG (g) Xvx)
theorem XIQ {g:Xar} {x:Bool} (hx:g=some x):Xx6 g [.pointer none] [none,none]=some (Xvx x):=(XAD).trans (XaX hx)
abbrev XCL:List (Nat×Xbs):=[]
theorem XyX (hS:Xal Tryz.prog (XaE (XCL))) (res:Bool) (h:XgX=some res) :
 XaK Tryz.prog 28 2 ⟨⟨28,12,[(0,.pointer none)],[.code XBU],[],false,none⟩,[],[],2⟩ (fun v H _=>Res 2 (Xvx res) v H):=by
 unfold XgX at h
 refine Xbg XaJ hS true 3000 ?_
 conv=>whnf
 exact W
def XgY (ha0:Xbn):Option Bool:=
 some (false)
def Xvb (x:Bool):Xcu:=⟨.bool x,[],[none,none]⟩
abbrev Xas:=Xbn→Option Bool
def Xuf (g:Xas):Dec:=dTr 2 (Xfa 0) fun (y0:Xbn)=>Xdm (ofG (g y0) Xvb)
theorem XHC {g:Xas} {y0:Xbn} {x:Bool} (hx:g y0=some x):Xuf g [.pointer (some ⟨0,0,none⟩)] [some [.int .i64 y0.id_,.int .u32 y0.clock,.map none],none]=some (Xvb x):=(Xj3 rfl rfl (XhK 0 _)).trans (XaX hx)
abbrev XDB:List (Nat×Xbs):=[]
theorem Xzq (hS:Xal Tryz.prog (XaE (XDB))) (ha0:Xbn) (res:Bool) (h:XgY ha0=some res) :
 XaK Tryz.prog 28 2 ⟨⟨28,12,[(0,.pointer (some ⟨0,0,none⟩))],[.code XBU],[],false,none⟩,[],[(0,.row false [.int .i64 ha0.id_,.int .u32 ha0.clock,.map none])],2⟩ (fun v H _=>Res 2 (Xvb res) v H):=by
 unfold XgY at h
 refine Xbg XaJ hS true 3000 ?_
 conv=>whnf
 exact W
def XgS (ha0:Xak):Option (Bool×Xak):=
 some ((true,ha0))
def Xuq (x:Bool×Xak):Xcu:=⟨.bool x.1,[],[none,some (.float .f64 0::vT XaB x.2.cookies)]⟩
abbrev Xaq:=Xak→Option (Bool×Xak)
def Xtp (g:Xaq):Dec:=dTr 2 (XdF 0) fun (y0:Xak)=>Xdm (ofG (g y0) Xuq)
theorem XLq {g:Xaq} {y0:Xak} {x:Bool×Xak} (hx:g y0=some x):Xtp g [.pointer (some ⟨0,0,none⟩)] [some [.int .i64 y0.id_,.int .u32 y0.clock,.map (some 1)],some (vT XaB y0.cookies)]=some (Xuq x):=(Xj3 rfl rfl (XeG 0 _)).trans (XaX hx)
abbrev XDV:List (Nat×Xbs):=[]
theorem Xzj (hS:Xal Tryz.prog (XaE (XDV))) (ha0:Xak) (res:Bool×Xak) (h:XgS ha0=some res) :
 XaK Tryz.prog 28 2 ⟨⟨28,12,[(0,.pointer (some ⟨0,0,none⟩))],[.code XBU],[],false,none⟩,[],[(0,.row false [.int .i64 ha0.id_,.int .u32 ha0.clock,.map (some 1)]),(1,.mp (vT XaB ha0.cookies))],2⟩ (fun v H _=>Res 2 (Xuq res) v H):=by
 unfold XgS at h
 refine Xbg XaJ hS true 3000 ?_
 conv=>whnf
 exact W
def s28 (g0:Xar) (g1:Xas) (g2:Xaq):Xbs:=⟨[.tr [⟨none,0,0,0,none⟩,⟨some 0,2,0,3,none⟩]],orD (Xx6 g0) (orD (Xuf g1) (Xtp g2))⟩
theorem Xop {g0:Xar} {g1:Xas} {g2:Xaq} {x:Bool} (hx:g0=some x):(s28 g0 g1 g2).run [.pointer none] [none,none]=some (Xvx x):=Xsf (a:=Xx6 g0) (b:=orD (Xuf g1) (Xtp g2)) (XIQ hx)
theorem Xur {g0:Xar} {g1:Xas} {g2:Xaq} {y0:Xbn} {x:Bool} (hx:g1 y0=some x):(s28 g0 g1 g2).run [.pointer (some ⟨0,0,none⟩)] [some [.int .i64 y0.id_,.int .u32 y0.clock,.map none],none]=some (Xvb x):=Xp3 (a:=Xx6 g0) (b:=orD (Xuf g1) (Xtp g2)) rfl (Xsf (a:=Xuf g1) (b:=Xtp g2) (XHC hx))
theorem Xm2 {g0:Xar} {g1:Xas} {g2:Xaq} {y0:Xak} {x:Bool×Xak} (hx:g2 y0=some x):(s28 g0 g1 g2).run [.pointer (some ⟨0,0,none⟩)] [some [.int .i64 y0.id_,.int .u32 y0.clock,.map (some 1)],some (vT XaB y0.cookies)]=some (Xuq x):=Xp3 (a:=Xx6 g0) (b:=orD (Xuf g1) (Xtp g2)) rfl (Xp3 (a:=Xuf g1) (b:=Xtp g2) rfl (XLq hx))
def Xad:Xar:=XgX
def Xae:Xas:=XgY
def Xac:Xaq:=XgS
theorem Xkp:XbA Tryz.prog 28 (s28 Xad Xae Xac):=by
 have L0:=XyX (Xal.XaV trivial)
 have L1:=Xzq (Xal.XaV trivial)
 have L2:=Xzj (Xal.XaV trivial)
 exact okA ⟨Tryz.f28,rfl,by decide,rfl⟩
def XfR (ha0:Xak) (t:Xag) (c:XaZ):Option (Int×Xak):=
 cond (XbG t ha0.cookies)
  (
  cond (!c.First)
   (
   some ((0,ha0)))
   (
   let m:=Xd6 t c.Cookie ha0.cookies
   some ((0,Xak.mk ha0.id_ ha0.clock m))))
  (
  cond ((ha0.cookies.length:Int)==64)
   (
   some ((9,ha0)))
   (
   let m1:=Xd6 t c.Cookie ha0.cookies
   some ((0,Xak.mk ha0.id_ ha0.clock m1))))
def XvJ (x:Int×Xak):Xcu:=⟨.int .i64 x.1,[],[none,some (.float .f64 0::vT XaB x.2.cookies)]⟩
abbrev Xcw:=Xak→Xag→XaZ→Option (Int×Xak)
def XRe (g:Xcw):Dec:=dTr 2 (XdF 0) fun (y0:Xak)=>dV Xdi fun (y1:Xag)=>dV XiC fun (y2:XaZ)=>Xdm (ofG (g y0 y1 y2) XvJ)
theorem XIV {g:Xcw} {y0:Xak} {y1:Xag} {y2:XaZ} {x:Int×Xak} (hx:g y0 y1 y2=some x):XRe g [.pointer (some ⟨0,0,none⟩),.agg ⟨[.int .i64 y1.Proto,.bool y1.Src.V6,.int .u64 y1.Src.Hi,.int .u64 y1.Src.Lo,.bool y1.Dst.V6,.int .u64 y1.Dst.Hi,.int .u64 y1.Dst.Lo,.int .i64 y1.SPort,.int .i64 y1.DPort]⟩,.agg ⟨[.bool y2.V6,.int .i64 y2.Backend,.int .u64 y2.Cookie,.bool y2.First,.int .i64 y2.Instance]⟩] [some [.int .i64 y0.id_,.int .u32 y0.clock,.map (some 1)],some (vT XaB y0.cookies)]=some (XvJ x):=(Xj3 rfl rfl (XeG 0 _)).trans ((XaY (Xdy _)).trans ((XaY (Xmq _)).trans (XaX hx)))
abbrev XCQ:List (Nat×Xbs):=[]
theorem Xz3 (hS:Xal Tryz.prog (XaE (XCQ))) (ha0:Xak) (t:Xag) (c:XaZ) (res:Int×Xak) (h:XfR ha0 t c=some res) :
 XaK Tryz.prog 31 2 ⟨⟨31,43,[(0,.pointer (some ⟨0,0,none⟩)),(1,.agg ⟨[.int .i64 t.Proto,.bool t.Src.V6,.int .u64 t.Src.Hi,.int .u64 t.Src.Lo,.bool t.Dst.V6,.int .u64 t.Dst.Hi,.int .u64 t.Dst.Lo,.int .i64 t.SPort,.int .i64 t.DPort]⟩),(2,.agg ⟨[.bool c.V6,.int .i64 c.Backend,.int .u64 c.Cookie,.bool c.First,.int .i64 c.Instance]⟩)],[.code XGb],[],false,none⟩,[],[(0,.row false [.int .i64 ha0.id_,.int .u32 ha0.clock,.map (some 1)]),(1,.mp (vT XaB ha0.cookies))],2⟩ (fun v H _=>Res 2 (XvJ res) v H):=by
 unfold XfR at h
 refine Xbg XaJ hS true 3000 ?_
 conv=>whnf
 refine ⟨.int .u64 (Xb2 0 t ha0.cookies),XbG t ha0.cookies,Xej.get _ t ha0.cookies,?_⟩
 conv=>whnf
 refine br.h h (by rfl) ?_ ?_
 ·clear h;intro hb h;conv=>whnf
  refine br.h h (by rfl) ?_ ?_
  ·clear h;intro hb h;conv=>whnf
   exact W
  clear h;intro hb h;conv=>whnf
  refine br.neg ?_ ?_;(focus (clear h;first|assumption|(simp_all;done)))
  conv=>whnf
  let m:List XaA:=Xd6 t c.Cookie ha0.cookies
  refine ⟨vT XaB m,Xej.put _ _ ha0.cookies,?_⟩
  conv=>whnf
  exact W
 clear h;intro hb h;conv=>whnf
 refine br.pos ?_ ?_;(focus (clear h;first|assumption|(simp_all;done)))
 conv=>whnf
 refine ⟨ha0.cookies.length,Xej.length _,?_⟩
 conv=>whnf
 refine br.h h (by rfl) ?_ ?_
 ·clear h;intro hb h;conv=>whnf
  exact W
 clear h;intro hb h;conv=>whnf
 let m1:List XaA:=Xd6 t c.Cookie ha0.cookies
 refine ⟨vT XaB m1,Xej.put _ _ ha0.cookies,?_⟩
 conv=>whnf
 exact W
def s31 (g0:Xcw):Xbs:=⟨[.tr [⟨none,0,0,0,none⟩,⟨some 0,2,0,3,none⟩],.v,.v],XRe g0⟩
theorem XBw {g0:Xcw} {y0:Xak} {y1:Xag} {y2:XaZ} {x:Int×Xak} (hx:g0 y0 y1 y2=some x):(s31 g0).run [.pointer (some ⟨0,0,none⟩),.agg ⟨[.int .i64 y1.Proto,.bool y1.Src.V6,.int .u64 y1.Src.Hi,.int .u64 y1.Src.Lo,.bool y1.Dst.V6,.int .u64 y1.Dst.Hi,.int .u64 y1.Dst.Lo,.int .i64 y1.SPort,.int .i64 y1.DPort]⟩,.agg ⟨[.bool y2.V6,.int .i64 y2.Backend,.int .u64 y2.Cookie,.bool y2.First,.int .i64 y2.Instance]⟩] [some [.int .i64 y0.id_,.int .u32 y0.clock,.map (some 1)],some (vT XaB y0.cookies)]=some (XvJ x):=XIV hx
def Xb3:Xcw:=XfR
theorem XO9:XbA Tryz.prog 31 (s31 Xb3):=by
 have L0:=Xz3 (Xal.XaV trivial)
 exact okA ⟨Tryz.f31,rfl,by decide,rfl⟩
def Xhl (Xec:XeR) (Xad:Xar) (Xae:Xas) (Xac:Xaq) (s:List UInt8):Option ((List UInt8)×Int):=
 (Xad).bind fun n=>
 cond (!n)
  (
  some (([],1)))
  (
  (Xec s).bind fun xg=>
  cond (xg.2.2 !=0)
   (
   some (([],xg.2.2)))
   (
   none))
def XvT (x:(List UInt8)×Int):Xcu:=⟨.tuple ⟨[.string ⟨⟨x.1⟩⟩,.int .i64 x.2]⟩,[],[none,none]⟩
abbrev XbI:=(List UInt8)→Option ((List UInt8)×Int)
def XCG (g:XbI):Dec:=dNl 2<|dV asS fun (y1:List UInt8)=>Xdm (ofG (g y1) XvT)
theorem XHF {g:XbI} {y1:List UInt8} {x:(List UInt8)×Int} (hx:g y1=some x):XCG g [.pointer none,.string ⟨⟨y1⟩⟩] [none,none]=some (XvT x):=(XAD).trans ((XaY (XcY)).trans (XaX hx))
abbrev XD6 (Xec:XeR) (Xad:Xar) (Xae:Xas) (Xac:Xaq):List (Nat×Xbs):=[(29,s29 Xec),(28,s28 Xad Xae Xac)]
theorem Xy4 (Xec:XeR) (Xad:Xar) (Xae:Xas) (Xac:Xaq) (hS:Xal Tryz.prog (XaE (XD6 Xec Xad Xae Xac))) (s:List UInt8) (res:(List UInt8)×Int) (h:Xhl Xec Xad Xae Xac s=some res) :
 XaK Tryz.prog 10 2 ⟨⟨10,57,[(0,.pointer none),(1,.string ⟨⟨s⟩⟩)],[.code XAa],[],false,none⟩,[],[],2⟩ (fun v H _=>Res 2 (XvT res) v H):=by
 unfold Xhl at h
 have R1:=@Xop Xad Xae Xac
 have R2:=@XFR Xec
 refine Xbg XaJ hS true 3000 ?_
 conv=>whnf
 exact W
def XfT (Xec:XeR) (Xav:Xa7) (Xad:Xar) (Xae:Xas) (Xac:Xaq) (Xb3:Xcw) (Xfw:XfI) (ha0:Xak) (s:List UInt8):Option ((List UInt8)×Int×Xak):=
 (Xac ha0).bind fun x1=>
 cond (!x1.1)
  (
  some (([],1,Xak.mk ha0.id_ ha0.clock x1.2.cookies)))
  (
  (Xec s).bind fun xg=>
  cond (xg.2.2 !=0)
   (
   some (([],xg.2.2,Xak.mk ha0.id_ ha0.clock x1.2.cookies)))
   (
   cond (xg.1.Backend !=ha0.id_)
    (
    some (([],16,Xak.mk ha0.id_ ha0.clock x1.2.cookies)))
    (
    (Xav xg.2.1).bind fun p=>
    cond (p.2==0)
     (
     (Xb3 (Xak.mk ha0.id_ ha0.clock x1.2.cookies) p.1.Tuple xg.1).bind fun x11=>
     cond (x11.1 !=0)
      (
      some (([],x11.1,Xak.mk ha0.id_ ha0.clock x11.2.cookies)))
      (
      cond (p.1.Stamped)
       (
       (Xfw xg.2.1 ha0.clock).bind fun i=>
       some ((i.1,i.2,Xak.mk ha0.id_ ha0.clock x11.2.cookies)))
       (
       some ((xg.2.1,0,Xak.mk ha0.id_ ha0.clock x11.2.cookies)))))
     (
     cond (p.2 !=0)
      (
      some (([],p.2,Xak.mk ha0.id_ ha0.clock x1.2.cookies)))
      (
      cond (p.1.Stamped)
       (
       (Xfw xg.2.1 ha0.clock).bind fun i1=>
       some ((i1.1,i1.2,Xak.mk ha0.id_ ha0.clock x1.2.cookies)))
       (
       some ((xg.2.1,0,Xak.mk ha0.id_ ha0.clock x1.2.cookies))))))))
def XvN (x:(List UInt8)×Int×Xak):Xcu:=⟨.tuple ⟨[.string ⟨⟨x.1⟩⟩,.int .i64 x.2.1]⟩,[],[none,some (.float .f64 0::vT XaB x.2.2.cookies)]⟩
abbrev XbH:=Xak→(List UInt8)→Option ((List UInt8)×Int×Xak)
def XBE (g:XbH):Dec:=dTr 2 (XdF 0) fun (y0:Xak)=>dV asS fun (y1:List UInt8)=>Xdm (ofG (g y0 y1) XvN)
theorem XJv {g:XbH} {y0:Xak} {y1:List UInt8} {x:(List UInt8)×Int×Xak} (hx:g y0 y1=some x):XBE g [.pointer (some ⟨0,0,none⟩),.string ⟨⟨y1⟩⟩] [some [.int .i64 y0.id_,.int .u32 y0.clock,.map (some 1)],some (vT XaB y0.cookies)]=some (XvN x):=(Xj3 rfl rfl (XeG 0 _)).trans ((XaY (XcY)).trans (XaX hx))
abbrev XDD (Xec:XeR) (Xav:Xa7) (Xad:Xar) (Xae:Xas) (Xac:Xaq) (Xb3:Xcw) (Xfw:XfI):List (Nat×Xbs):=[(29,s29 Xec),(30,s30 Xav),(28,s28 Xad Xae Xac),(31,s31 Xb3),(32,s32 Xfw)]
theorem XAJ (Xec:XeR) (Xav:Xa7) (Xad:Xar) (Xae:Xas) (Xac:Xaq) (Xb3:Xcw) (Xfw:XfI) (hS:Xal Tryz.prog (XaE (XDD Xec Xav Xad Xae Xac Xb3 Xfw))) (ha0:Xak) (s:List UInt8) (res:(List UInt8)×Int×Xak) (h:XfT Xec Xav Xad Xae Xac Xb3 Xfw ha0 s=some res) :
 XaK Tryz.prog 10 2 ⟨⟨10,57,[(0,.pointer (some ⟨0,0,none⟩)),(1,.string ⟨⟨s⟩⟩)],[.code XAa],[],false,none⟩,[],[(0,.row false [.int .i64 ha0.id_,.int .u32 ha0.clock,.map (some 1)]),(1,.mp (vT XaB ha0.cookies))],2⟩ (fun v H _=>Res 2 (XvN res) v H):=by
 unfold XfT at h
 have R1:=@Xm2 Xad Xae Xac
 have R2:=@XFR Xec
 have R3:=@XqL Xav
 have R4:=@XBw Xb3
 have R5:=@XOf Xfw
 refine Xbg XaJ hS true 3000 ?_
 conv=>whnf
 exact W
def s10 (g0:XbI) (g1:XbH):Xbs:=⟨[.tr [⟨none,0,0,0,none⟩,⟨some 0,2,0,3,none⟩],.v],orD (XCG g0) (XBE g1)⟩
theorem XEB {g0:XbI} {g1:XbH} {y1:List UInt8} {x:(List UInt8)×Int} (hx:g0 y1=some x):(s10 g0 g1).run [.pointer none,.string ⟨⟨y1⟩⟩] [none,none]=some (XvT x):=Xsf (a:=XCG g0) (b:=XBE g1) (XHF hx)
theorem Xup {g0:XbI} {g1:XbH} {y0:Xak} {y1:List UInt8} {x:(List UInt8)×Int×Xak} (hx:g1 y0 y1=some x):(s10 g0 g1).run [.pointer (some ⟨0,0,none⟩),.string ⟨⟨y1⟩⟩] [some [.int .i64 y0.id_,.int .u32 y0.clock,.map (some 1)],some (vT XaB y0.cookies)]=some (XvN x):=Xp3 (a:=XCG g0) (b:=XBE g1) rfl (XJv hx)
def Xbb:XbI:=Xhl Xec Xad Xae Xac
def XaP:XbH:=XfT Xec Xav Xad Xae Xac Xb3 Xfw
theorem XQO:XbA Tryz.prog 10 (s10 Xbb XaP):=by
 have L0:=Xy4 Xec Xad Xae Xac (Xal.XaV ⟨XGl,Xkp,trivial⟩)
 have L1:=XAJ Xec Xav Xad Xae Xac Xb3 Xfw (Xal.XaV ⟨XGl,XqE,Xkp,XO9,XN5,trivial⟩)
 exact okA ⟨Tryz.f10,rfl,by decide,rfl⟩
def Xgk (Xad:Xar) (Xae:Xas) (Xac:Xaq) (t:Xag):Option (Int×Bool):=
 (Xad).bind fun n=>
 cond (!n)
  (
  some ((0,false)))
  (
  none)
def Xvn (x:Int×Bool):Xcu:=⟨.tuple ⟨[.int .u64 x.1,.bool x.2]⟩,[],[none,none]⟩
abbrev XaH:=Xag→Option (Int×Bool)
def Xyy (g:XaH):Dec:=dNl 2<|dV Xdi fun (y1:Xag)=>Xdm (ofG (g y1) Xvn)
theorem XGZ {g:XaH} {y1:Xag} {x:Int×Bool} (hx:g y1=some x):Xyy g [.pointer none,.agg ⟨[.int .i64 y1.Proto,.bool y1.Src.V6,.int .u64 y1.Src.Hi,.int .u64 y1.Src.Lo,.bool y1.Dst.V6,.int .u64 y1.Dst.Hi,.int .u64 y1.Dst.Lo,.int .i64 y1.SPort,.int .i64 y1.DPort]⟩] [none,none]=some (Xvn x):=(XAD).trans ((XaY (Xdy _)).trans (XaX hx))
abbrev XBq (Xad:Xar) (Xae:Xas) (Xac:Xaq):List (Nat×Xbs):=[(28,s28 Xad Xae Xac)]
theorem XyB (Xad:Xar) (Xae:Xas) (Xac:Xaq) (hS:Xal Tryz.prog (XaE (XBq Xad Xae Xac))) (t:Xag) (res:Int×Bool) (h:Xgk Xad Xae Xac t=some res) :
 XaK Tryz.prog 17 2 ⟨⟨17,22,[(0,.pointer none),(1,.agg ⟨[.int .i64 t.Proto,.bool t.Src.V6,.int .u64 t.Src.Hi,.int .u64 t.Src.Lo,.bool t.Dst.V6,.int .u64 t.Dst.Hi,.int .u64 t.Dst.Lo,.int .i64 t.SPort,.int .i64 t.DPort]⟩)],[.code Xuv],[],false,none⟩,[],[],2⟩ (fun v H _=>Res 2 (Xvn res) v H):=by
 unfold Xgk at h
 have R1:=@Xop Xad Xae Xac
 refine Xbg XaJ hS true 3000 ?_
 conv=>whnf
 exact W
def Xgj (Xad:Xar) (Xae:Xas) (Xac:Xaq) (ha0:Xbn) (t:Xag):Option (Int×Bool):=
 (Xae (Xbn.mk ha0.id_ ha0.clock NilMap.mk)).bind fun x0=>
 cond (!x0)
  (
  some ((0,false)))
  (
  some ((0,false)))
def Xuz (x:Int×Bool):Xcu:=⟨.tuple ⟨[.int .u64 x.1,.bool x.2]⟩,[],[none,none]⟩
abbrev XaF:=Xbn→Xag→Option (Int×Bool)
def Xud (g:XaF):Dec:=dTr 2 (Xfa 0) fun (y0:Xbn)=>dV Xdi fun (y1:Xag)=>Xdm (ofG (g y0 y1) Xuz)
theorem XL7 {g:XaF} {y0:Xbn} {y1:Xag} {x:Int×Bool} (hx:g y0 y1=some x):Xud g [.pointer (some ⟨0,0,none⟩),.agg ⟨[.int .i64 y1.Proto,.bool y1.Src.V6,.int .u64 y1.Src.Hi,.int .u64 y1.Src.Lo,.bool y1.Dst.V6,.int .u64 y1.Dst.Hi,.int .u64 y1.Dst.Lo,.int .i64 y1.SPort,.int .i64 y1.DPort]⟩] [some [.int .i64 y0.id_,.int .u32 y0.clock,.map none],none]=some (Xuz x):=(Xj3 rfl rfl (XhK 0 _)).trans ((XaY (Xdy _)).trans (XaX hx))
abbrev XCN (Xad:Xar) (Xae:Xas) (Xac:Xaq):List (Nat×Xbs):=[(28,s28 Xad Xae Xac)]
theorem Xw4 (Xad:Xar) (Xae:Xas) (Xac:Xaq) (hS:Xal Tryz.prog (XaE (XCN Xad Xae Xac))) (ha0:Xbn) (t:Xag) (res:Int×Bool) (h:Xgj Xad Xae Xac ha0 t=some res) :
 XaK Tryz.prog 17 2 ⟨⟨17,22,[(0,.pointer (some ⟨0,0,none⟩)),(1,.agg ⟨[.int .i64 t.Proto,.bool t.Src.V6,.int .u64 t.Src.Hi,.int .u64 t.Src.Lo,.bool t.Dst.V6,.int .u64 t.Dst.Hi,.int .u64 t.Dst.Lo,.int .i64 t.SPort,.int .i64 t.DPort]⟩)],[.code Xuv],[],false,none⟩,[],[(0,.row false [.int .i64 ha0.id_,.int .u32 ha0.clock,.map none])],2⟩ (fun v H _=>Res 2 (Xuz res) v H):=by
 unfold Xgj at h
 have R1:=@Xur Xad Xae Xac
 refine Xbg XaJ hS true 3000 ?_
 conv=>whnf
 exact W
def Xgg (Xad:Xar) (Xae:Xas) (Xac:Xaq) (ha0:Xak) (t:Xag):Option (Int×Bool×Xak):=
 (Xac ha0).bind fun x1=>
 cond (!x1.1)
  (
  some ((0,false,Xak.mk ha0.id_ ha0.clock x1.2.cookies)))
  (
  some ((Xb2 0 t x1.2.cookies,XbG t x1.2.cookies,Xak.mk ha0.id_ ha0.clock x1.2.cookies)))
def Xux (x:Int×Bool×Xak):Xcu:=⟨.tuple ⟨[.int .u64 x.1,.bool x.2.1]⟩,[],[none,some (.float .f64 0::vT XaB x.2.2.cookies)]⟩
abbrev XaG:=Xak→Xag→Option (Int×Bool×Xak)
def XtN (g:XaG):Dec:=dTr 2 (XdF 0) fun (y0:Xak)=>dV Xdi fun (y1:Xag)=>Xdm (ofG (g y0 y1) Xux)
theorem XIe {g:XaG} {y0:Xak} {y1:Xag} {x:Int×Bool×Xak} (hx:g y0 y1=some x):XtN g [.pointer (some ⟨0,0,none⟩),.agg ⟨[.int .i64 y1.Proto,.bool y1.Src.V6,.int .u64 y1.Src.Hi,.int .u64 y1.Src.Lo,.bool y1.Dst.V6,.int .u64 y1.Dst.Hi,.int .u64 y1.Dst.Lo,.int .i64 y1.SPort,.int .i64 y1.DPort]⟩] [some [.int .i64 y0.id_,.int .u32 y0.clock,.map (some 1)],some (vT XaB y0.cookies)]=some (Xux x):=(Xj3 rfl rfl (XeG 0 _)).trans ((XaY (Xdy _)).trans (XaX hx))
abbrev XDe (Xad:Xar) (Xae:Xas) (Xac:Xaq):List (Nat×Xbs):=[(28,s28 Xad Xae Xac)]
theorem Xxs (Xad:Xar) (Xae:Xas) (Xac:Xaq) (hS:Xal Tryz.prog (XaE (XDe Xad Xae Xac))) (ha0:Xak) (t:Xag) (res:Int×Bool×Xak) (h:Xgg Xad Xae Xac ha0 t=some res) :
 XaK Tryz.prog 17 2 ⟨⟨17,22,[(0,.pointer (some ⟨0,0,none⟩)),(1,.agg ⟨[.int .i64 t.Proto,.bool t.Src.V6,.int .u64 t.Src.Hi,.int .u64 t.Src.Lo,.bool t.Dst.V6,.int .u64 t.Dst.Hi,.int .u64 t.Dst.Lo,.int .i64 t.SPort,.int .i64 t.DPort]⟩)],[.code Xuv],[],false,none⟩,[],[(0,.row false [.int .i64 ha0.id_,.int .u32 ha0.clock,.map (some 1)]),(1,.mp (vT XaB ha0.cookies))],2⟩ (fun v H _=>Res 2 (Xux res) v H):=by
 unfold Xgg at h
 refine Xbg XaJ hS true 3000 ?_
 conv=>whnf
 replace h:=Xdv.elim h;obtain ⟨x1,hy,h⟩:=h
 refine Xgn.a (Xm2 hy) ?_
 conv=>whnf
 refine br.h h (by rfl) ?_ ?_
 ·clear h;intro hb h;conv=>whnf
  exact W
 clear h;intro hb h;conv=>whnf
 refine ⟨.int .u64 (Xb2 0 t x1.2.cookies),XbG t x1.2.cookies,Xej.get _ t x1.2.cookies,?_⟩
 conv=>whnf
 exact W
def s17 (g0:XaH) (g1:XaF) (g2:XaG):Xbs:=⟨[.tr [⟨none,0,0,0,none⟩,⟨some 0,2,0,3,none⟩],.v],orD (Xyy g0) (orD (Xud g1) (XtN g2))⟩
theorem XCq {g0:XaH} {g1:XaF} {g2:XaG} {y1:Xag} {x:Int×Bool} (hx:g0 y1=some x):(s17 g0 g1 g2).run [.pointer none,.agg ⟨[.int .i64 y1.Proto,.bool y1.Src.V6,.int .u64 y1.Src.Hi,.int .u64 y1.Src.Lo,.bool y1.Dst.V6,.int .u64 y1.Dst.Hi,.int .u64 y1.Dst.Lo,.int .i64 y1.SPort,.int .i64 y1.DPort]⟩] [none,none]=some (Xvn x):=Xsf (a:=Xyy g0) (b:=orD (Xud g1) (XtN g2)) (XGZ hx)
theorem XvG {g0:XaH} {g1:XaF} {g2:XaG} {y0:Xbn} {y1:Xag} {x:Int×Bool} (hx:g1 y0 y1=some x):(s17 g0 g1 g2).run [.pointer (some ⟨0,0,none⟩),.agg ⟨[.int .i64 y1.Proto,.bool y1.Src.V6,.int .u64 y1.Src.Hi,.int .u64 y1.Src.Lo,.bool y1.Dst.V6,.int .u64 y1.Dst.Hi,.int .u64 y1.Dst.Lo,.int .i64 y1.SPort,.int .i64 y1.DPort]⟩] [some [.int .i64 y0.id_,.int .u32 y0.clock,.map none],none]=some (Xuz x):=Xp3 (a:=Xyy g0) (b:=orD (Xud g1) (XtN g2)) rfl (Xsf (a:=Xud g1) (b:=XtN g2) (XL7 hx))
theorem XvU {g0:XaH} {g1:XaF} {g2:XaG} {y0:Xak} {y1:Xag} {x:Int×Bool×Xak} (hx:g2 y0 y1=some x):(s17 g0 g1 g2).run [.pointer (some ⟨0,0,none⟩),.agg ⟨[.int .i64 y1.Proto,.bool y1.Src.V6,.int .u64 y1.Src.Hi,.int .u64 y1.Src.Lo,.bool y1.Dst.V6,.int .u64 y1.Dst.Hi,.int .u64 y1.Dst.Lo,.int .i64 y1.SPort,.int .i64 y1.DPort]⟩] [some [.int .i64 y0.id_,.int .u32 y0.clock,.map (some 1)],some (vT XaB y0.cookies)]=some (Xux x):=Xp3 (a:=Xyy g0) (b:=orD (Xud g1) (XtN g2)) rfl (Xp3 (a:=Xud g1) (b:=XtN g2) rfl (XIe hx))
def Xap:XaH:=Xgk Xad Xae Xac
def Xan:XaF:=Xgj Xad Xae Xac
def Xam:XaG:=Xgg Xad Xae Xac
theorem XuO:XbA Tryz.prog 17 (s17 Xap Xan Xam):=by
 have L0:=XyB Xad Xae Xac (Xal.XaV ⟨Xkp,trivial⟩)
 have L1:=Xw4 Xad Xae Xac (Xal.XaV ⟨Xkp,trivial⟩)
 have L2:=Xxs Xad Xae Xac (Xal.XaV ⟨Xkp,trivial⟩)
 exact okA ⟨Tryz.f17,rfl,by decide,rfl⟩
def Xhp (Xav:Xa7) (Xap:XaH) (Xan:XaF) (Xam:XaG) (Xad:Xar) (Xae:Xas) (Xac:Xaq) (Xcb:Xdg) (Xcx:XdA) (Xck:Xdj) (ha0:Xbn) (s:List UInt8):Option ((List UInt8)×Int):=
 (Xae (Xbn.mk ha0.id_ ha0.clock NilMap.mk)).bind fun x0=>
 cond (!x0)
  (
  some (([],1)))
  (
  (Xav s).bind fun p=>
  cond (p.2 !=0)
   (
   some (([],p.2)))
   (
   (Xck p.1.Tuple).bind fun b=>
   (Xan (Xbn.mk ha0.id_ ha0.clock NilMap.mk) b).bind fun x01=>
   cond (!x01.2)
    (
    some (([],13)))
    (
    cond (p.1.Stamped)
     (
     (Xcx s (wI .u16 x01.1)).bind fun xo=>
     some ((xo.1,xo.2)))
     (
     (Xcb s x01.1).bind fun n=>
     cond (n.2==0)
      (
      some ((n.1,0)))
      (
      some ((s,0)))))))
def Xu8 (x:(List UInt8)×Int):Xcu:=⟨.tuple ⟨[.string ⟨⟨x.1⟩⟩,.int .i64 x.2]⟩,[],[none,none]⟩
abbrev XbJ:=Xbn→(List UInt8)→Option ((List UInt8)×Int)
def XC9 (g:XbJ):Dec:=dTr 2 (Xfa 0) fun (y0:Xbn)=>dV asS fun (y1:List UInt8)=>Xdm (ofG (g y0 y1) Xu8)
theorem XIK {g:XbJ} {y0:Xbn} {y1:List UInt8} {x:(List UInt8)×Int} (hx:g y0 y1=some x):XC9 g [.pointer (some ⟨0,0,none⟩),.string ⟨⟨y1⟩⟩] [some [.int .i64 y0.id_,.int .u32 y0.clock,.map none],none]=some (Xu8 x):=(Xj3 rfl rfl (XhK 0 _)).trans ((XaY (XcY)).trans (XaX hx))
abbrev XBY (Xav:Xa7) (Xap:XaH) (Xan:XaF) (Xam:XaG) (Xad:Xar) (Xae:Xas) (Xac:Xaq) (Xcb:Xdg) (Xcx:XdA) (Xck:Xdj):List (Nat×Xbs):=[(30,s30 Xav),(17,s17 Xap Xan Xam),(28,s28 Xad Xae Xac),(38,s38 Xcb),(37,s37 Xcx),(36,s36 Xck)]
theorem XyP (Xav:Xa7) (Xap:XaH) (Xan:XaF) (Xam:XaG) (Xad:Xar) (Xae:Xas) (Xac:Xaq) (Xcb:Xdg) (Xcx:XdA) (Xck:Xdj) (hS:Xal Tryz.prog (XaE (XBY Xav Xap Xan Xam Xad Xae Xac Xcb Xcx Xck))) (ha0:Xbn) (s:List UInt8) (res:(List UInt8)×Int) (h:Xhp Xav Xap Xan Xam Xad Xae Xac Xcb Xcx Xck ha0 s=some res) :
 XaK Tryz.prog 12 2 ⟨⟨12,53,[(0,.pointer (some ⟨0,0,none⟩)),(1,.string ⟨⟨s⟩⟩)],[.code XyF],[],false,none⟩,[],[(0,.row false [.int .i64 ha0.id_,.int .u32 ha0.clock,.map none])],2⟩ (fun v H _=>Res 2 (Xu8 res) v H):=by
 unfold Xhp at h
 have R1:=@Xur Xad Xae Xac
 have R2:=@XqL Xav
 have R3:=@XFk Xck
 have R4:=@XvG Xap Xan Xam
 have R5:=@XFY Xcx
 have R6:=@XGJ Xcb
 refine Xbg XaJ hS true 3000 ?_
 conv=>whnf
 exact W
def XfN (Xav:Xa7) (Xap:XaH) (Xan:XaF) (Xam:XaG) (Xad:Xar) (Xae:Xas) (Xac:Xaq) (Xcb:Xdg) (Xcx:XdA) (Xck:Xdj) (ha0:Xak) (s:List UInt8):Option ((List UInt8)×Int×Xak):=
 (Xac ha0).bind fun x1=>
 cond (!x1.1)
  (
  some (([],1,Xak.mk ha0.id_ ha0.clock x1.2.cookies)))
  (
  (Xav s).bind fun p=>
  cond (p.2 !=0)
   (
   some (([],p.2,Xak.mk ha0.id_ ha0.clock x1.2.cookies)))
   (
   (Xck p.1.Tuple).bind fun b=>
   (Xam (Xak.mk ha0.id_ ha0.clock x1.2.cookies) b).bind fun x11=>
   cond (!x11.2.1)
    (
    some (([],13,Xak.mk ha0.id_ ha0.clock x11.2.2.cookies)))
    (
    cond (p.1.Stamped)
     (
     (Xcx s (wI .u16 x11.1)).bind fun xo=>
     some ((xo.1,xo.2,Xak.mk ha0.id_ ha0.clock x11.2.2.cookies)))
     (
     (Xcb s x11.1).bind fun n=>
     cond (n.2==0)
      (
      some ((n.1,0,Xak.mk ha0.id_ ha0.clock x11.2.2.cookies)))
      (
      some ((s,0,Xak.mk ha0.id_ ha0.clock x11.2.2.cookies)))))))
def Xvy (x:(List UInt8)×Int×Xak):Xcu:=⟨.tuple ⟨[.string ⟨⟨x.1⟩⟩,.int .i64 x.2.1]⟩,[],[none,some (.float .f64 0::vT XaB x.2.2.cookies)]⟩
abbrev XbK:=Xak→(List UInt8)→Option ((List UInt8)×Int×Xak)
def XBV (g:XbK):Dec:=dTr 2 (XdF 0) fun (y0:Xak)=>dV asS fun (y1:List UInt8)=>Xdm (ofG (g y0 y1) Xvy)
theorem XG2 {g:XbK} {y0:Xak} {y1:List UInt8} {x:(List UInt8)×Int×Xak} (hx:g y0 y1=some x):XBV g [.pointer (some ⟨0,0,none⟩),.string ⟨⟨y1⟩⟩] [some [.int .i64 y0.id_,.int .u32 y0.clock,.map (some 1)],some (vT XaB y0.cookies)]=some (Xvy x):=(Xj3 rfl rfl (XeG 0 _)).trans ((XaY (XcY)).trans (XaX hx))
abbrev XEz (Xav:Xa7) (Xap:XaH) (Xan:XaF) (Xam:XaG) (Xad:Xar) (Xae:Xas) (Xac:Xaq) (Xcb:Xdg) (Xcx:XdA) (Xck:Xdj):List (Nat×Xbs):=[(30,s30 Xav),(17,s17 Xap Xan Xam),(28,s28 Xad Xae Xac),(38,s38 Xcb),(37,s37 Xcx),(36,s36 Xck)]
theorem XAg (Xav:Xa7) (Xap:XaH) (Xan:XaF) (Xam:XaG) (Xad:Xar) (Xae:Xas) (Xac:Xaq) (Xcb:Xdg) (Xcx:XdA) (Xck:Xdj) (hS:Xal Tryz.prog (XaE (XEz Xav Xap Xan Xam Xad Xae Xac Xcb Xcx Xck))) (ha0:Xak) (s:List UInt8) (res:(List UInt8)×Int×Xak) (h:XfN Xav Xap Xan Xam Xad Xae Xac Xcb Xcx Xck ha0 s=some res) :
 XaK Tryz.prog 12 2 ⟨⟨12,53,[(0,.pointer (some ⟨0,0,none⟩)),(1,.string ⟨⟨s⟩⟩)],[.code XyF],[],false,none⟩,[],[(0,.row false [.int .i64 ha0.id_,.int .u32 ha0.clock,.map (some 1)]),(1,.mp (vT XaB ha0.cookies))],2⟩ (fun v H _=>Res 2 (Xvy res) v H):=by
 unfold XfN at h
 have R1:=@Xm2 Xad Xae Xac
 have R2:=@XqL Xav
 have R3:=@XFk Xck
 have R4:=@XvU Xap Xan Xam
 have R5:=@XFY Xcx
 have R6:=@XGJ Xcb
 refine Xbg XaJ hS true 3000 ?_
 conv=>whnf
 exact W
def s12 (g0:XbJ) (g1:XbK):Xbs:=⟨[.tr [⟨none,0,0,0,none⟩,⟨some 0,2,0,3,none⟩],.v],orD (XC9 g0) (XBV g1)⟩
theorem XC2 {g0:XbJ} {g1:XbK} {y0:Xbn} {y1:List UInt8} {x:(List UInt8)×Int} (hx:g0 y0 y1=some x):(s12 g0 g1).run [.pointer (some ⟨0,0,none⟩),.string ⟨⟨y1⟩⟩] [some [.int .i64 y0.id_,.int .u32 y0.clock,.map none],none]=some (Xu8 x):=Xsf (a:=XC9 g0) (b:=XBV g1) (XIK hx)
theorem XvE {g0:XbJ} {g1:XbK} {y0:Xak} {y1:List UInt8} {x:(List UInt8)×Int×Xak} (hx:g1 y0 y1=some x):(s12 g0 g1).run [.pointer (some ⟨0,0,none⟩),.string ⟨⟨y1⟩⟩] [some [.int .i64 y0.id_,.int .u32 y0.clock,.map (some 1)],some (vT XaB y0.cookies)]=some (Xvy x):=Xp3 (a:=XC9 g0) (b:=XBV g1) rfl (XG2 hx)
def Xba:XbJ:=Xhp Xav Xap Xan Xam Xad Xae Xac Xcb Xcx Xck
def Xa0:XbK:=XfN Xav Xap Xan Xam Xad Xae Xac Xcb Xcx Xck
theorem XOD:XbA Tryz.prog 12 (s12 Xba Xa0):=by
 have L0:=XyP Xav Xap Xan Xam Xad Xae Xac Xcb Xcx Xck (Xal.XaV ⟨XqE,XuO,Xkp,XGV,XFv,XGK,trivial⟩)
 have L1:=XAg Xav Xap Xan Xam Xad Xae Xac Xcb Xcx Xck (Xal.XaV ⟨XqE,XuO,Xkp,XGV,XFv,XGK,trivial⟩)
 exact okA ⟨Tryz.f12,rfl,by decide,rfl⟩
def Xgl (Xap:XaH) (Xan:XaF) (Xam:XaG) (ha0:Xbn) (t:Xag):Option Bool:=
 (Xan (Xbn.mk ha0.id_ ha0.clock NilMap.mk) t).bind fun x0=>
 cond (x0.2)
  (
  some (x0.2))
  (
  some (x0.2))
def Xvw (x:Bool):Xcu:=⟨.bool x,[],[none,none]⟩
abbrev Xcj:=Xbn→Xag→Option Bool
def XP8 (g:Xcj):Dec:=dTr 2 (Xfa 0) fun (y0:Xbn)=>dV Xdi fun (y1:Xag)=>Xdm (ofG (g y0 y1) Xvw)
theorem XI5 {g:Xcj} {y0:Xbn} {y1:Xag} {x:Bool} (hx:g y0 y1=some x):XP8 g [.pointer (some ⟨0,0,none⟩),.agg ⟨[.int .i64 y1.Proto,.bool y1.Src.V6,.int .u64 y1.Src.Hi,.int .u64 y1.Src.Lo,.bool y1.Dst.V6,.int .u64 y1.Dst.Hi,.int .u64 y1.Dst.Lo,.int .i64 y1.SPort,.int .i64 y1.DPort]⟩] [some [.int .i64 y0.id_,.int .u32 y0.clock,.map none],none]=some (Xvw x):=(Xj3 rfl rfl (XhK 0 _)).trans ((XaY (Xdy _)).trans (XaX hx))
abbrev XBt (Xap:XaH) (Xan:XaF) (Xam:XaG):List (Nat×Xbs):=[(17,s17 Xap Xan Xam)]
theorem XzR (Xap:XaH) (Xan:XaF) (Xam:XaG) (hS:Xal Tryz.prog (XaE (XBt Xap Xan Xam))) (ha0:Xbn) (t:Xag) (res:Bool) (h:Xgl Xap Xan Xam ha0 t=some res) :
 XaK Tryz.prog 14 2 ⟨⟨14,20,[(0,.pointer (some ⟨0,0,none⟩)),(1,.agg ⟨[.int .i64 t.Proto,.bool t.Src.V6,.int .u64 t.Src.Hi,.int .u64 t.Src.Lo,.bool t.Dst.V6,.int .u64 t.Dst.Hi,.int .u64 t.Dst.Lo,.int .i64 t.SPort,.int .i64 t.DPort]⟩)],[.code XFc],[],false,none⟩,[],[(0,.row false [.int .i64 ha0.id_,.int .u32 ha0.clock,.map none])],2⟩ (fun v H _=>Res 2 (Xvw res) v H):=by
 unfold Xgl at h
 have R1:=@XvG Xap Xan Xam
 refine Xbg XaJ hS true 3000 ?_
 conv=>whnf
 exact W
def s14 (g0:Xcj):Xbs:=⟨[.tr [⟨none,0,0,0,none⟩,⟨some 0,2,0,3,none⟩],.v],XP8 g0⟩
theorem XBX {g0:Xcj} {y0:Xbn} {y1:Xag} {x:Bool} (hx:g0 y0 y1=some x):(s14 g0).run [.pointer (some ⟨0,0,none⟩),.agg ⟨[.int .i64 y1.Proto,.bool y1.Src.V6,.int .u64 y1.Src.Hi,.int .u64 y1.Src.Lo,.bool y1.Dst.V6,.int .u64 y1.Dst.Hi,.int .u64 y1.Dst.Lo,.int .i64 y1.SPort,.int .i64 y1.DPort]⟩] [some [.int .i64 y0.id_,.int .u32 y0.clock,.map none],none]=some (Xvw x):=XI5 hx
def Xb6:Xcj:=Xgl Xap Xan Xam
theorem XOr:XbA Tryz.prog 14 (s14 Xb6):=by
 have L0:=XzR Xap Xan Xam (Xal.XaV ⟨XuO,trivial⟩)
 exact okA ⟨Tryz.f14,rfl,by decide,rfl⟩
def Xia (Xad:Xar) (Xae:Xas) (Xac:Xaq):Option Int:=
 (Xad).bind fun n=>
 cond (!n)
  (
  some (0))
  (
  none)
def Xvp (x:Int):Xcu:=⟨.int .i64 x,[],[none,none]⟩
abbrev XbQ:=Option Int
def XA7 (g:XbQ):Dec:=dNl 2<|Xdm (ofG (g) Xvp)
theorem XHo {g:XbQ} {x:Int} (hx:g=some x):XA7 g [.pointer none] [none,none]=some (Xvp x):=(XAD).trans (XaX hx)
abbrev XDE (Xad:Xar) (Xae:Xas) (Xac:Xaq):List (Nat×Xbs):=[(28,s28 Xad Xae Xac)]
theorem XxA (Xad:Xar) (Xae:Xas) (Xac:Xaq) (hS:Xal Tryz.prog (XaE (XDE Xad Xae Xac))) (res:Int) (h:Xia Xad Xae Xac=some res) :
 XaK Tryz.prog 19 2 ⟨⟨19,11,[(0,.pointer none)],[.code XJf],[],false,none⟩,[],[],2⟩ (fun v H _=>Res 2 (Xvp res) v H):=by
 unfold Xia at h
 have R1:=@Xop Xad Xae Xac
 refine Xbg XaJ hS true 3000 ?_
 conv=>whnf
 exact W
def Xib (Xad:Xar) (Xae:Xas) (Xac:Xaq) (ha0:Xak):Option (Int×Xak):=
 (Xac ha0).bind fun x1=>
 cond (!x1.1)
  (
  some ((0,Xak.mk ha0.id_ ha0.clock x1.2.cookies)))
  (
  some (((x1.2.cookies.length:Int),Xak.mk ha0.id_ ha0.clock x1.2.cookies)))
def XvL (x:Int×Xak):Xcu:=⟨.int .i64 x.1,[],[none,some (.float .f64 0::vT XaB x.2.cookies)]⟩
abbrev XbP:=Xak→Option (Int×Xak)
def XBH (g:XbP):Dec:=dTr 2 (XdF 0) fun (y0:Xak)=>Xdm (ofG (g y0) XvL)
theorem XJS {g:XbP} {y0:Xak} {x:Int×Xak} (hx:g y0=some x):XBH g [.pointer (some ⟨0,0,none⟩)] [some [.int .i64 y0.id_,.int .u32 y0.clock,.map (some 1)],some (vT XaB y0.cookies)]=some (XvL x):=(Xj3 rfl rfl (XeG 0 _)).trans (XaX hx)
abbrev XBd (Xad:Xar) (Xae:Xas) (Xac:Xaq):List (Nat×Xbs):=[(28,s28 Xad Xae Xac)]
theorem Xx5 (Xad:Xar) (Xae:Xas) (Xac:Xaq) (hS:Xal Tryz.prog (XaE (XBd Xad Xae Xac))) (ha0:Xak) (res:Int×Xak) (h:Xib Xad Xae Xac ha0=some res) :
 XaK Tryz.prog 19 2 ⟨⟨19,11,[(0,.pointer (some ⟨0,0,none⟩))],[.code XJf],[],false,none⟩,[],[(0,.row false [.int .i64 ha0.id_,.int .u32 ha0.clock,.map (some 1)]),(1,.mp (vT XaB ha0.cookies))],2⟩ (fun v H _=>Res 2 (XvL res) v H):=by
 unfold Xib at h
 refine Xbg XaJ hS true 3000 ?_
 conv=>whnf
 replace h:=Xdv.elim h;obtain ⟨x1,hy,h⟩:=h
 refine Xgn.a (Xm2 hy) ?_
 conv=>whnf
 refine br.h h (by rfl) ?_ ?_
 ·clear h;intro hb h;conv=>whnf
  exact W
 clear h;intro hb h;conv=>whnf
 refine ⟨x1.2.cookies.length,Xej.length _,?_⟩
 conv=>whnf
 exact W
def s19 (g0:XbQ) (g1:XbP):Xbs:=⟨[.tr [⟨none,0,0,0,none⟩,⟨some 0,2,0,3,none⟩]],orD (XA7 g0) (XBH g1)⟩
theorem XEq {g0:XbQ} {g1:XbP} {x:Int} (hx:g0=some x):(s19 g0 g1).run [.pointer none] [none,none]=some (Xvp x):=Xsf (a:=XA7 g0) (b:=XBH g1) (XHo hx)
theorem XCZ {g0:XbQ} {g1:XbP} {y0:Xak} {x:Int×Xak} (hx:g1 y0=some x):(s19 g0 g1).run [.pointer (some ⟨0,0,none⟩)] [some [.int .i64 y0.id_,.int .u32 y0.clock,.map (some 1)],some (vT XaB y0.cookies)]=some (XvL x):=Xp3 (a:=XA7 g0) (b:=XBH g1) rfl (XJS hx)
def Xbq:XbQ:=Xia Xad Xae Xac
def Xbl:XbP:=Xib Xad Xae Xac
theorem XO3:XbA Tryz.prog 19 (s19 Xbq Xbl):=by
 have L0:=XxA Xad Xae Xac (Xal.XaV ⟨Xkp,trivial⟩)
 have L1:=Xx5 Xad Xae Xac (Xal.XaV ⟨Xkp,trivial⟩)
 exact okA ⟨Tryz.f19,rfl,by decide,rfl⟩
def XiH (Xad:Xar) (Xae:Xas) (Xac:Xaq) (clock:Int):Option Unit:=
 (Xad).bind fun n=>
 cond (n)
  (
  none)
  (
  some (()))
def Xvg (x:Unit):Xcu:=⟨.tuple ⟨[]⟩,[],[none,none]⟩
abbrev Xb4:=Int→Option Unit
def XDv (g:Xb4):Dec:=dNl 2<|dV (asI .u32) fun (y1:Int)=>Xdm (ofG (g y1) Xvg)
theorem XI8 {g:Xb4} {y1:Int} {x:Unit} (hx:g y1=some x):XDv g [.pointer none,.int .u32 y1] [none,none]=some (Xvg x):=(XAD).trans ((XaY (Xc2 _)).trans (XaX hx))
abbrev XBs (Xad:Xar) (Xae:Xas) (Xac:Xaq):List (Nat×Xbs):=[(28,s28 Xad Xae Xac)]
theorem Xyl (Xad:Xar) (Xae:Xas) (Xac:Xaq) (hS:Xal Tryz.prog (XaE (XBs Xad Xae Xac))) (clock:Int) (res:Unit) (h:XiH Xad Xae Xac clock=some res) :
 XaK Tryz.prog 16 2 ⟨⟨16,10,[(0,.pointer none),(1,.int .u32 clock)],[.code XHc],[],false,none⟩,[],[],2⟩ (fun v H _=>Res 2 (Xvg res) v H):=by
 unfold XiH at h
 have R1:=@Xop Xad Xae Xac
 refine Xbg XaJ hS true 3000 ?_
 conv=>whnf
 exact W
def XiI (Xad:Xar) (Xae:Xas) (Xac:Xaq) (ha0:Xak) (clock:Int):Option Xak:=
 (Xac ha0).bind fun x1=>
 cond (x1.1)
  (
  some (Xak.mk ha0.id_ clock x1.2.cookies))
  (
  some (Xak.mk ha0.id_ ha0.clock x1.2.cookies))
def Xuu (x:Xak):Xcu:=⟨.tuple ⟨[]⟩,[],[some [.int .i64 x.id_,.int .u32 x.clock,.map (some 1)],some (.float .f64 0::vT XaB x.cookies)]⟩
abbrev Xb1:=Xak→Int→Option Xak
def XDU (g:Xb1):Dec:=dTr 2 (XdF 0) fun (y0:Xak)=>dV (asI .u32) fun (y1:Int)=>Xdm (ofG (g y0 y1) Xuu)
theorem XKv {g:Xb1} {y0:Xak} {y1:Int} {x:Xak} (hx:g y0 y1=some x):XDU g [.pointer (some ⟨0,0,none⟩),.int .u32 y1] [some [.int .i64 y0.id_,.int .u32 y0.clock,.map (some 1)],some (vT XaB y0.cookies)]=some (Xuu x):=(Xj3 rfl rfl (XeG 0 _)).trans ((XaY (Xc2 _)).trans (XaX hx))
abbrev XCx (Xad:Xar) (Xae:Xas) (Xac:Xaq):List (Nat×Xbs):=[(28,s28 Xad Xae Xac)]
theorem XAm (Xad:Xar) (Xae:Xas) (Xac:Xaq) (hS:Xal Tryz.prog (XaE (XCx Xad Xae Xac))) (ha0:Xak) (clock:Int) (res:Xak) (h:XiI Xad Xae Xac ha0 clock=some res) :
 XaK Tryz.prog 16 2 ⟨⟨16,10,[(0,.pointer (some ⟨0,0,none⟩)),(1,.int .u32 clock)],[.code XHc],[],false,none⟩,[],[(0,.cells [.int .i64 ha0.id_,.int .u32 ha0.clock,.map (some 1)]),(1,.mp (vT XaB ha0.cookies))],2⟩ (fun v H _=>Res 2 (Xuu res) v H):=by
 unfold XiI at h
 have R1:=@Xm2 Xad Xae Xac
 refine Xbg XaJ hS true 3000 ?_
 conv=>whnf
 exact W
def s16 (g0:Xb4) (g1:Xb1):Xbs:=⟨[.tr [⟨none,0,0,1,none⟩,⟨some 0,2,0,3,none⟩],.v],orD (XDv g0) (XDU g1)⟩
theorem XBo {g0:Xb4} {g1:Xb1} {y1:Int} {x:Unit} (hx:g0 y1=some x):(s16 g0 g1).run [.pointer none,.int .u32 y1] [none,none]=some (Xvg x):=Xsf (a:=XDv g0) (b:=XDU g1) (XI8 hx)
theorem XBn {g0:Xb4} {g1:Xb1} {y0:Xak} {y1:Int} {x:Xak} (hx:g1 y0 y1=some x):(s16 g0 g1).run [.pointer (some ⟨0,0,none⟩),.int .u32 y1] [some [.int .i64 y0.id_,.int .u32 y0.clock,.map (some 1)],some (vT XaB y0.cookies)]=some (Xuu x):=Xp3 (a:=XDv g0) (b:=XDU g1) rfl (XKv hx)
def XbB:Xb4:=XiH Xad Xae Xac
def Xbo:Xb1:=XiI Xad Xae Xac
theorem XRk:XbA Tryz.prog 16 (s16 XbB Xbo):=by
 have L0:=Xyl Xad Xae Xac (Xal.XaV ⟨Xkp,trivial⟩)
 have L1:=XAm Xad Xae Xac (Xal.XaV ⟨Xkp,trivial⟩)
 exact okA ⟨Tryz.f16,rfl,by decide,rfl⟩
end Go.Vm.Code
namespace Go.Vm.Code
open Go Go.Vm
theorem XDT (a b:Xag):Xcz a b=XHI a b:=rfl
theorem XAl {a b:Xag}:Xcz a b=true↔a=b:=by rw [XDT];exact XyJ
theorem XDP (a:Xag):Xcz a a=true:=XAl.2 rfl
def ks37 (m:List XaA):List Xag:=m.map fun e=>e.key
theorem XyA (t:Xag) (e:XaA) (m:List XaA):XbG t (e::m)=(Xcz t e.key||XbG t m):=rfl
theorem Xsj (z:Int) (t:Xag) (e:XaA) (m:List XaA):Xb2 z t (e::m)=cond (Xcz t e.key) e.val (Xb2 z t m):=rfl
theorem XuR {t:Xag}:∀ {m:List XaA},XbG t m=true↔t∈ks37 m
 | []=>by simp [XbG,XGG,ks37]
 | e::m=>by
   rw [XyA,Bool.or_eq_true,XAl,XuR]
   simp [ks37]
def XOC (m:List XaA):Prop:=∀ t,0≤Xb2 0 t m
theorem XAB (s:List UInt8):(Xhu s).2.1.length≤s.length:=by
 unfold Xhu
 repeat' split
 all_goals simp
def Xh7 (m:List XaA) (t:Xag) (c:XaZ):Int×List XaA:=
 if XbG t m=true then (if c.First=true then (0,Xd6 t c.Cookie m) else (0,m)) else if m.length=64 then (9,m) else (0,Xd6 t c.Cookie m)
theorem Xzc {i k:Int} {m:List XaA} {t:Xag} {c:XaZ}:Xb3 ⟨i,k,m⟩ t c=some ((Xh7 m t c).1,⟨i,k,(Xh7 m t c).2⟩):=by
 unfold Xb3 XfR Xh7
 cases h1:XbG t m
 ·rw [cond_false,if_neg (by simp)]
  by_cases h2:m.length=64
  ·rw [show ((m.length:Int)==64)=true by rw [h2];rfl,cond_true,if_pos h2]
  ·rw [show ((m.length:Int)==64)=false by rw [beq_eq_false_iff_ne];omega,cond_false,if_neg h2]
 ·rw [cond_true,if_pos rfl]
  cases c.First<;>rfl
def Xs0 (i k:Int) (m:List XaA) (s:List UInt8):List UInt8×Int×List XaA:=
 if (Xhu s).2.2≠0 then ([],(Xhu s).2.2,m) else if (Xhu s).1.Backend≠i then ([],16,m) else if (Xax (Xhu s).2.1).2.2.2≠0 then ([],(Xax (Xhu s).2.1).2.2.2,m) else
  if (Xh7 m (Xax (Xhu s).2.1).1.Tuple (Xhu s).1).1≠0 then ([],(Xh7 m (Xax (Xhu s).2.1).1.Tuple (Xhu s).1).1,(Xh7 m (Xax (Xhu s).2.1).1.Tuple (Xhu s).1).2) else
   if (Xax (Xhu s).2.1).1.Stamped=true then ((XMe (Xhu s).2.1 k).1,(XMe (Xhu s).2.1 k).2,(Xh7 m (Xax (Xhu s).2.1).1.Tuple (Xhu s).1).2) else ((Xhu s).2.1,0,(Xh7 m (Xax (Xhu s).2.1).1.Tuple (Xhu s).1).2)
theorem nz {n:Int} (h:n≠0):(n !=0)=true:=bne_iff_ne.2 h
theorem ez {n:Int} (h:¬ n≠0):(n !=0)=false:=by simpa using h
theorem XAH {i k:Int} {m:List XaA} {s:List UInt8} (hs:s.length<900):XaP ⟨i,k,m⟩ s=some ((Xs0 i k m s).1,(Xs0 i k m s).2.1,⟨i,k,(Xs0 i k m s).2.2⟩):=by
 have hl:=XAB s
 unfold XaP XfT Xs0
 rw [show Xac ⟨i,k,m⟩=some (true,⟨i,k,m⟩) from rfl,Option.bind_some]
 simp only [Bool.not_true,cond_false]
 rw [XLF (by omega),Option.bind_some]
 generalize Xhu s=g at *
 by_cases h1:g.2.2≠0
 ·rw [nz h1,cond_true,if_pos h1]
 rw [ez h1,cond_false,if_neg h1]
 by_cases h2:g.1.Backend≠i
 ·rw [show (g.1.Backend !=i)=true from bne_iff_ne.2 h2,cond_true,if_pos h2]
 rw [show (g.1.Backend !=i)=false by simpa using h2,cond_false,if_neg h2,Xmc (by omega),Option.bind_some]
 simp only []
 by_cases h3:(Xax g.2.1).2.2.2≠0
 ·rw [show ((Xax g.2.1).2.2.2==0)=false by simpa using h3,cond_false,nz h3,cond_true,if_pos h3]
 rw [show ((Xax g.2.1).2.2.2==0)=true by simpa using h3,cond_true,if_neg h3,Xzc,Option.bind_some]
 simp only []
 generalize Xh7 m (Xax g.2.1).1.Tuple g.1=q
 by_cases h4:q.1≠0
 ·rw [nz h4,cond_true,if_pos h4]
 rw [ez h4,cond_false,if_neg h4]
 cases h5:(Xax g.2.1).1.Stamped
 ·rw [cond_false,if_neg (by decide)]
 ·rw [cond_true,if_pos rfl,XPB (by omega),Option.bind_some]
def XsZ (m:List XaA) (s:List UInt8):List UInt8×Int:=
 if (Xax s).2.2.2≠0 then ([],(Xax s).2.2.2) else if XbG (XiK (Xax s).1.Tuple) m=false then ([],13) else
  if (Xax s).1.Stamped=true then XCb s (Xb2 0 (XiK (Xax s).1.Tuple) m%65536) else
   if (name36 s (Xb2 0 (XiK (Xax s).1.Tuple) m)).2=0 then ((name36 s (Xb2 0 (XiK (Xax s).1.Tuple) m)).1,0) else (s,0)
theorem XPR (n:Int):wI .u16 n=n%65536:=rfl
theorem Xpx {i k:Int} {m:List XaA} {t:Xag}:Xam ⟨i,k,m⟩ t=some (Xb2 0 t m,XbG t m,⟨i,k,m⟩):=rfl
theorem XCA {i k:Int} {m:List XaA}:Xbl ⟨i,k,m⟩=some ((m.length:Int),⟨i,k,m⟩):=rfl
theorem XzC {i k n:Int} {m:List XaA}:Xbo ⟨i,k,m⟩ n=some ⟨i,n,m⟩:=rfl
theorem XyW {i k:Int} {m:List XaA} {s:List UInt8} (hs:s.length<900) (hp:XOC m):Xa0 ⟨i,k,m⟩ s=some ((XsZ m s).1,(XsZ m s).2,⟨i,k,m⟩):=by
 unfold Xa0 XfN XsZ
 rw [show Xac ⟨i,k,m⟩=some (true,⟨i,k,m⟩) from rfl,Option.bind_some]
 simp only [Bool.not_true,cond_false]
 rw [Xmc (by omega),Option.bind_some]
 simp only []
 by_cases h3:(Xax s).2.2.2≠0
 ·rw [nz h3,cond_true,if_pos h3]
 rw [ez h3,cond_false,if_neg h3,(Xsi _).1,Option.bind_some,Xpx,Option.bind_some]
 simp only []
 have hv:=hp (XiK (Xax s).1.Tuple)
 cases h4:XbG (XiK (Xax s).1.Tuple) m
 ·rfl
 rw [Bool.not_true,cond_false,if_neg (by decide)]
 generalize Xb2 0 (XiK (Xax s).1.Tuple) m=v at *
 cases h5:(Xax s).1.Stamped
 ·rw [cond_false,if_neg (by decide),XCd hs hv,Option.bind_some]
  by_cases h6:(name36 s v).2=0
  ·rw [show ((name36 s v).2==0)=true by simpa using h6,cond_true,if_pos h6]
  ·rw [show ((name36 s v).2==0)=false by simpa using h6,cond_false,if_neg h6]
 ·rw [cond_true,if_pos rfl,XPR,XKn hs (by omega),Option.bind_some]
theorem XtG {a b c d e f g r:List UInt8} (ha:a.length=3) (hb:b.length=1) (hc:c.length=2) (hd:d.length=1) (he:e.length=1) (hf:f.length=2) (hg:g.length=8) :
 let s:=a++b++c++d++e++f++g++r
 s.take 3=a∧(s.drop 3).take 1=b∧(s.drop 4).take 2=c∧(s.drop 6).take 1=d∧(s.drop 7).take 1=e∧(s.drop 10).take 8=g∧s.drop 18=r∧s.take 8=a++b++c++d++e∧s.drop 10=g++r:=by
 have da:∀ x:List UInt8,(a++x).drop 3=x:=fun x=>by rw [←ha];exact List.drop_left
 have db:∀ x:List UInt8,(b++x).drop 1=x:=fun x=>by rw [←hb];exact List.drop_left
 have dc:∀ x:List UInt8,(c++x).drop 2=x:=fun x=>by rw [←hc];exact List.drop_left
 have dd:∀ x:List UInt8,(d++x).drop 1=x:=fun x=>by rw [←hd];exact List.drop_left
 have de:∀ x:List UInt8,(e++x).drop 1=x:=fun x=>by rw [←he];exact List.drop_left
 have df:∀ x:List UInt8,(f++x).drop 2=x:=fun x=>by rw [←hf];exact List.drop_left
 have dg:∀ x:List UInt8,(g++x).drop 8=x:=fun x=>by rw [←hg];exact List.drop_left
 simp only []
 have e8:(a++b++c++d++e++f++g++r).take 8=a++b++c++d++e:=by
  rw [show a++b++c++d++e++f++g++r=(a++b++c++d++e)++(f++g++r) by simp,show 8=(a++b++c++d++e).length by simp;omega]
  exact List.take_left
 rw [e8]
 simp only [List.append_assoc]
 have e4:(a++(b++(c++(d++(e++(f++(g++r))))))).drop 4=c++(d++(e++(f++(g++r)))):=by rw [show 4=3+1 from rfl,←List.drop_drop,da,db]
 have e6:(a++(b++(c++(d++(e++(f++(g++r))))))).drop 6=d++(e++(f++(g++r))):=by rw [show 6=4+2 from rfl,←List.drop_drop,e4,dc]
 have e7:(a++(b++(c++(d++(e++(f++(g++r))))))).drop 7=e++(f++(g++r)):=by rw [show 7=6+1 from rfl,←List.drop_drop,e6,dd]
 have e10:(a++(b++(c++(d++(e++(f++(g++r))))))).drop 10=g++r:=by rw [show 10=(7+1)+2 from rfl,←List.drop_drop,←List.drop_drop,e7,de,df]
 have e18:(a++(b++(c++(d++(e++(f++(g++r))))))).drop 18=r:=by rw [show 18=10+8 from rfl,←List.drop_drop,e10,dg]
 refine ⟨by rw [←ha];exact List.take_left,?_,?_,?_,?_,?_,e18,trivial,e10⟩
 ·rw [da,←hb];exact List.take_left
 ·rw [e4,←hc];exact List.take_left
 ·rw [e6,←hd];exact List.take_left
 ·rw [e7,←he];exact List.take_left
 ·rw [e10,←hg];exact List.take_left
theorem XEw (c:XaZ):hd c=[71,85,1]++be (kd c.V6) 1++be c.Backend.toNat 2++be (bt c.First) 1++be c.Instance.toNat 1++be (65535 - norm (XcA (hd0 c))) 2++be c.Cookie.toNat 8:=by
 obtain ⟨_,_,_,_,_,_,_,p8,p9⟩:=XtG (a:=[71,85,1]) (b:=be (kd c.V6) 1) (c:=be c.Backend.toNat 2) (d:=be (bt c.First) 1) (e:=be c.Instance.toNat 1) (f:=be 0 2) (g:=be c.Cookie.toNat 8) (r:=[]) rfl (by simp) (by simp) (by simp) (by simp) (by simp) (by simp)
 simp only [List.append_nil] at p8 p9
 unfold hd sset
 rw [show hd0 c=[71,85,1]++be (kd c.V6) 1++be c.Backend.toNat 2++be (bt c.First) 1++be c.Instance.toNat 1++be 0 2++be c.Cookie.toNat 8 from rfl,p8,p9]
theorem XOi (c:XaZ):XcA (hd c)%65535=0∧XcA (hd c)≠0:=by
 have n1:=norm_le (XcA (hd0 c))
 have n2:=XhO (XcA (hd0 c))
 have n3:=Xiy (XcA (hd0 c))
 have w:=Xo0 (s:=hd0 c) (p:=8) (k:=2) (n:=65535 - norm (XcA (hd0 c))) (by rw [Xks];omega) (by omega) (by omega)
 have z:((hd0 c).drop 8).take 2=be 0 2:=by
  obtain ⟨_,_,_,_,p5,_,_,_,_⟩:=XtG (a:=[71,85,1]) (b:=be (kd c.V6) 1) (c:=be c.Backend.toNat 2) (d:=be (bt c.First) 1) (e:=be c.Instance.toNat 1) (f:=be 0 2) (g:=be c.Cookie.toNat 8) (r:=[]) rfl (by simp) (by simp) (by simp) (by simp) (by simp) (by simp)
  unfold hd0
  rw [show [71,85,1]++be (kd c.V6) 1++be c.Backend.toNat 2++be (bt c.First) 1++be c.Instance.toNat 1++be 0 2++be c.Cookie.toNat 8=([71,85,1]++be (kd c.V6) 1++be c.Backend.toNat 2++be (bt c.First) 1++be c.Instance.toNat 1)++(be 0 2++be c.Cookie.toNat 8) by simp,
   List.drop_append_of_le_length (by simp),List.drop_of_length_le (by simp),List.nil_append,List.take_append_of_le_length (by simp),List.take_of_length_le (by simp)]
 rw [z,XhS (by omega),XhS (by omega)] at w
 unfold hd
 omega
theorem XD8 {c:XaZ} {l:List UInt8} (h:C10 c) (hc:0≤c.Cookie∧c.Cookie<2^64) (hl:l.length≤9000):Xhu (hd c++l)=(c,l,0):=by
 obtain ⟨⟨a1,a2⟩,a3,a4⟩:=h
 have hlen:=Xy9 c
 have hsum:=XOi c
 have tk:(hd c++l).take 18=hd c:=by rw [←hlen];exact List.take_left
 obtain ⟨p1,p2,p3,p4,p5,p6,p7,_,_⟩:=XtG (a:=[71,85,1]) (b:=be (kd c.V6) 1) (c:=be c.Backend.toNat 2) (d:=be (bt c.First) 1) (e:=be c.Instance.toNat 1) (f:=be (65535 - norm (XcA (hd0 c))) 2) (g:=be c.Cookie.toNat 8) (r:=l) rfl (by simp) (by simp) (by simp) (by simp) (by simp) (by simp)
 rw [←XEw] at p1 p2 p3 p4 p5 p6 p7
 have k1:kd c.V6<256:=by cases c.V6<;>decide
 have k2:bt c.First<256:=by cases c.First<;>decide
 have v3:b1 (hd c++l) 3=kd c.V6:=by unfold b1;rw [p2,Xew (by omega)]
 have v6:b1 (hd c++l) 6=bt c.First:=by unfold b1;rw [p4,Xew (by omega)]
 have v7:b1 (hd c++l) 7=c.Instance.toNat:=by unfold b1;rw [p5,Xew (by omega)]
 unfold Xhu
 rw [if_neg (by simp;omega),if_neg (by rw [p1];simp),v3,if_neg (by cases c.V6<;>simp [kd]),v6,if_neg (by cases c.First<;>simp [bt]),if_neg (by simp;omega),tk,if_neg (by rw [Xg6 hsum.1 hsum.2];simp),v7,p3,p6,p7,Xew (by omega),Xew (by omega)]
 obtain ⟨v,b,k,f,i⟩:=c
 simp only at a1 a2 a3 a4 hc ⊢
 rw [Int.toNat_of_nonneg a1,Int.toNat_of_nonneg a3,Int.toNat_of_nonneg hc.1]
 cases v<;>cases f<;>rfl
end Go.Vm.Code
namespace Go.Vm.Code
open Go Go.Vm Go.Proofs
set_option maxRecDepth 100000
set_option maxHeartbeats 4000000
set_option linter.unusedVariables false
def Xkf (Xap:XaH) (Xan:XaF) (Xam:XaG) (Xb6:Xcj) (XbB:Xb4) (Xbo:Xb1) (Xbq:XbQ) (Xbl:XbP) (Xba:XbJ) (Xa0:XbK) (Xbb:XbI) (XaP:XbH):Option Bool:=
 (XaP (Xak.mk 7 0 ([]:List XaA)) []).bind fun x1=>
 (Xa0 (Xak.mk 7 0 x1.2.2.cookies) []).bind fun x11=>
 (XbB 1).bind fun n=>
 (Xbb []).bind fun n1=>
 (Xba (Xbn.mk 0 0 NilMap.mk) []).bind fun x0=>
 (Xap (Xag.mk 0 (Xab.mk false 0 0) (Xab.mk false 0 0) 0 0)).bind fun n2=>
 cond (x1.2.1==2)
  (
  cond (x11.2.1==2)
   (
   cond (n1.2==1)
    (
    cond (x0.2==1)
     (
     cond (!n2.2)
      (
      (Xb6 (Xbn.mk 0 0 NilMap.mk) (Xag.mk 0 (Xab.mk false 0 0) (Xab.mk false 0 0) 0 0)).bind fun x01=>
      cond (!x01)
       (
       (Xbq).bind fun n3=>
       cond (n3==0)
        (
        some (true))
        (
        some (false)))
       (
       some (false)))
      (
      some (false)))
     (
     some (false)))
    (
    some (false)))
   (
   some (false)))
  (
  some (false))
def rx7 (x:Bool):Xcu:=⟨.bool x,[],[]⟩
abbrev XdY:=Option Bool
def r7 (g:XdY):Dec:=Xdm (ofG (g) rx7)
theorem r7_c {g:XdY} {x:Bool} (hx:g=some x):r7 g [] []=some (rx7 x):=XaX hx
def s7 (g:XdY):Xbs:=⟨[],r7 g⟩
theorem r7_eq {g:XdY} {x:Bool} (hx:g=some x):(s7 g).run [] []=some (rx7 x):=r7_c hx
abbrev sums7 (Xap:XaH) (Xan:XaF) (Xam:XaG) (Xb6:Xcj) (XbB:Xb4) (Xbo:Xb1) (Xbq:XbQ) (Xbl:XbP) (Xba:XbJ) (Xa0:XbK) (Xbb:XbI) (XaP:XbH):List (Nat×Xbs):=[(17,s17 Xap Xan Xam),(14,s14 Xb6),(16,s16 XbB Xbo),(19,s19 Xbq Xbl),(12,s12 Xba Xa0),(10,s10 Xbb XaP)]
theorem XOX (Xap:XaH) (Xan:XaF) (Xam:XaG) (Xb6:Xcj) (XbB:Xb4) (Xbo:Xb1) (Xbq:XbQ) (Xbl:XbP) (Xba:XbJ) (Xa0:XbK) (Xbb:XbI) (XaP:XbH) (hS:Xal Tryz.prog (XaE (sums7 Xap Xan Xam Xb6 XbB Xbo Xbq Xbl Xba Xa0 Xbb XaP))) (res:Bool) (h:Xkf Xap Xan Xam Xb6 XbB Xbo Xbq Xbl Xba Xa0 Xbb XaP=some res) :
 XaK Tryz.prog 7 0 ⟨⟨7,80,[],[.code XNh],[],false,none⟩,[],[],0⟩ (fun v H _=>Res 0 (rx7 res) v H):=by
 unfold Xkf at h
 have R1:=@Xup Xbb XaP
 have R2:=@XvE Xba Xa0
 have R3:=@XBo XbB Xbo
 have R4:=@XEB Xbb XaP
 have R5:=@XC2 Xba Xa0
 have R6:=@XCq Xap Xan Xam
 have R7:=@XBX Xb6
 have R8:=@XEq Xbq Xbl
 refine Xbg XaJ hS true 3000 ?_
 conv=>whnf
 exact W
def XdQ:XdY:=Xkf Xap Xan Xam Xb6 XbB Xbo Xbq Xbl Xba Xa0 Xbb XaP
theorem lift7:XbA Tryz.prog 7 (s7 XdQ):=by
 have hL:=XOX Xap Xan Xam Xb6 XbB Xbo Xbq Xbl Xba Xa0 Xbb XaP (Xal.XaV ⟨XuO,XOr,XRk,XO3,XOD,XQO,trivial⟩)
 exact okA ⟨Tryz.f7,rfl,by decide,rfl⟩
end Go.Vm.Code
namespace Go.Vm.Code
open Go Go.Vm
theorem XLL:XdQ=some true:=by decide +kernel
theorem XoQ {t:Xag} (h:XmS t) (hp:t.Proto=6) {f:Int} (hf:0≤f∧f≤255) {v e:Nat} (hv:v<4294967296) (he:e<4294967296) {l:List UInt8} (hl:l.length≤100):(XlX t f (Xcs v e) l).1.length≤72+l.length:=by
 obtain ⟨g0,_⟩:=XjZ h hp hf hv he (l:=l) (by omega)
 unfold XlX at g0 ⊢
 rw [if_neg (by simpa using hp)] at g0 ⊢
 split at g0
 ·rename_i c;exact absurd g0 c
 ·rename_i c
  rw [if_neg c]
  have h1:=(Xrh g0).1
  have h2:=Xrn ⟨t.SPort,t.DPort,0,0,f,65535,0,Xcs v e⟩ t.Src t.Dst l
  simp only [XsP] at h2
  cases hv:t.Src.V6<;>simp only [hv,cond_true,cond_false] at h1<;>omega
def XpZ (t:Xag) (c:Int) (f:Bool):XaZ:=⟨t.Src.V6,7,c,f,0⟩
theorem Xpn {t:Xag} {c:Int} {f:Bool} {l:List UInt8} (hc:0≤c∧c<2^64) (hl:l.length≤9000):(XpO (XpZ t c f) l).2=0∧Xhu (XpO (XpZ t c f) l).1=(XpZ t c f,l,0)∧(XpO (XpZ t c f) l).1.length=18+l.length:=by
 have hC:C10 (XpZ t c f):=⟨by simp only [XpZ];omega,by simp only [XpZ];omega⟩
 have e:XpO (XpZ t c f) l=(hd (XpZ t c f)++l,0):=by
  unfold XpO
  rw [if_neg (by simpa using hC),if_neg (by omega)]
 rw [e]
 exact ⟨rfl,XD8 hC hc hl,by simp [Xy9]⟩
theorem XvC {k c:Int} {m:List XaA} {t:Xag} {f:Bool} {l:List UInt8} {fl v e n:Int} {a b:Nat} (hc:0≤c∧c<2^64) (hl:l.length<800) (ht:Xax l=(⟨t,fl,true,v,e,false,[],n⟩,a,b,0)) :
 XaP ⟨7,k,m⟩ (XpO (XpZ t c f) l).1=some (if (Xh7 m t (XpZ t c f)).1≠0 then [] else XnG l 4 (Xi2 k e),(Xh7 m t (XpZ t c f)).1,⟨7,k,(Xh7 m t (XpZ t c f)).2⟩):=by
 obtain ⟨_,g,gl⟩:=Xpn (t:=t) (f:=f) hc (l:=l) (by omega)
 rw [XAH (by omega)]
 unfold Xs0
 rw [g,if_neg (by simp),if_neg (by simp [XpZ]),ht,if_neg (by simp)]
 simp only []
 have hin:XMe l k=(XnG l 4 (Xi2 k e),0):=by
  unfold XMe
  rw [ht];rfl
 by_cases h4:(Xh7 m t (XpZ t c f)).1≠0
 ·rw [if_pos h4,if_pos h4]
 ·have h5:(Xh7 m t (XpZ t c f)).1=0:=by simpa using h4
  rw [if_neg h4,if_neg h4,if_pos trivial,hin,h5]
end Go.Vm.Code
namespace Go.Vm.Code
open Go Go.Vm Go.Proofs
set_option maxRecDepth 100000
set_option maxHeartbeats 4000000
set_option linter.unusedVariables false
def Xg9 (XcW:XdT) (Xg4:XgG) (XeV:Xfd) (Xdh:Xd0) (Xga:XfD) (Xfl:Xe3) (XdQ:XdY) (Xap:XaH) (Xan:XaF) (Xam:XaG) (XbB:Xb4) (Xbo:Xb1) (Xbq:XbQ) (Xbl:XbP) (Xba:XbJ) (Xa0:XbK) (Xbb:XbI) (XaP:XbH) (t:Xag) (cookie:Int) (val:Int) (later:Int) (flags:Int) (client:Int):Option Bool:=
 (Xfl (Xag.mk 6 t.Src t.Dst t.SPort t.DPort)).bind fun xr=>
 cond (!xr)
  (
  (XdQ).bind fun a=>
  some (a))
  (
  (XcW client 0).bind fun s=>
  (Xdh (Xag.mk 6 t.Src t.Dst t.SPort t.DPort) 2 s []).bind fun s1=>
  (Xg4 (XaZ.mk t.Src.V6 7 (wI .u64 cookie) true 0) s1.1).bind fun p=>
  cond (s1.2 !=0)
   (
   some (false))
   (
   cond (p.2 !=0)
    (
    some (false))
    (
    (XaP (Xak.mk 7 0 ([]:List XaA)) p.1).bind fun x1=>
    (Xbo (Xak.mk 7 0 x1.2.2.cookies) val).bind fun x11=>
    (Xga (Xag.mk 6 t.Src t.Dst t.SPort t.DPort)).bind fun b=>
    (XcW val client).bind fun s2=>
    (Xdh b (wI .i64 flags) s2 [104,105]).bind fun s3=>
    cond (x1.2.1 !=0)
     (
     some (false))
     (
     cond (s3.2 !=0)
      (
      some (false))
      (
      (Xa0 x11 s3.1).bind fun x12=>
      (XeV x12.1).bind fun p1=>
      cond (x12.2.1 !=0)
       (
       some (false))
       (
       cond (p1.2 !=0)
        (
        some (false))
        (
        let t1:=(p1.1.Val.fdiv (2^16)) !=(wI .u32 cookie)
        cond (t1)
         (
         some (false))
         (
         let t2:=(p1.1.Val.tmod 65536) !=(val.tmod 65536)
         cond (t2)
          (
          some (false))
          (
          cond (p1.1.Echo !=client)
           (
           some (false))
           (
           (Xga (Xag.mk 6 t.Src t.Dst t.SPort t.DPort)).bind fun b1=>
           let t3:=!((p1.1.Tuple.Proto==b1.Proto)&&((p1.1.Tuple.Src.V6==b1.Src.V6)&&((p1.1.Tuple.Src.Hi==b1.Src.Hi)&&((p1.1.Tuple.Src.Lo==b1.Src.Lo)&&((p1.1.Tuple.Dst.V6==b1.Dst.V6)&&((p1.1.Tuple.Dst.Hi==b1.Dst.Hi)&&((p1.1.Tuple.Dst.Lo==b1.Dst.Lo)&&((p1.1.Tuple.SPort==b1.SPort)&&((p1.1.Tuple.DPort==b1.DPort)&&true)))))))))
           cond (t3)
            (
            some (false))
            (
            (Xbo (Xak.mk x11.id_ x11.clock x12.2.2.cookies) (wI .u32 (val+(wI .u32 later)))).bind fun x13=>
            (XcW client p1.1.Val).bind fun s4=>
            (Xdh (Xag.mk 6 t.Src t.Dst t.SPort t.DPort) 16 s4 []).bind fun s5=>
            (Xg4 (XaZ.mk t.Src.V6 7 (wI .u64 (p1.1.Val.fdiv (2^16))) false 0) s5.1).bind fun p2=>
            cond (s5.2 !=0)
             (
             some (false))
             (
             cond (p2.2 !=0)
              (
              some (false))
              (
              (XaP x13 p2.1).bind fun x14=>
              (XeV x14.1).bind fun p3=>
              (Xam (Xak.mk x13.id_ x13.clock x14.2.2.cookies) (Xag.mk 6 t.Src t.Dst t.SPort t.DPort)).bind fun x15=>
              cond (x14.2.1==0)
               (
               cond (p3.2==0)
                (
                cond (p3.1.Echo==val)
                 (
                 let t4:=(p3.1.Tuple.Proto==6)&&((p3.1.Tuple.Src.V6==t.Src.V6)&&((p3.1.Tuple.Src.Hi==t.Src.Hi)&&((p3.1.Tuple.Src.Lo==t.Src.Lo)&&((p3.1.Tuple.Dst.V6==t.Dst.V6)&&((p3.1.Tuple.Dst.Hi==t.Dst.Hi)&&((p3.1.Tuple.Dst.Lo==t.Dst.Lo)&&((p3.1.Tuple.SPort==t.SPort)&&((p3.1.Tuple.DPort==t.DPort)&&true))))))))
                 cond (t4)
                  (
                  cond (x15.2.1)
                   (
                   cond (x15.1==(wI .u64 cookie))
                    (
                    (Xbl (Xak.mk x13.id_ x13.clock x15.2.2.cookies)).bind fun x16=>
                    cond (x16.1==1)
                     (
                     (XdQ).bind fun a1=>
                     some (a1))
                     (
                     some (false)))
                    (
                    some (false)))
                   (
                   some (false)))
                  (
                  some (false)))
                 (
                 some (false)))
                (
                some (false)))
               (
               some (false)))))))))))))))
def rx4 (x:Bool):Xcu:=⟨.bool x,[],[]⟩
abbrev Xhg:=Xag→Int→Int→Int→Int→Int→Option Bool
def r4 (g:Xhg):Dec:=dV Xdi fun (y0:Xag)=>dV (asI .u16) fun (y1:Int)=>dV (asI .u32) fun (y2:Int)=>dV (asI .u16) fun (y3:Int)=>dV (asI .u8) fun (y4:Int)=>dV (asI .u32) fun (y5:Int)=>Xdm (ofG (g y0 y1 y2 y3 y4 y5) rx4)
def s4 (g:Xhg):Xbs:=⟨[.v,.v,.v,.v,.v,.v],r4 g⟩
abbrev sums4 (XcW:XdT) (Xg4:XgG) (XeV:Xfd) (Xdh:Xd0) (Xga:XfD) (Xfl:Xe3) (XdQ:XdY) (Xap:XaH) (Xan:XaF) (Xam:XaG) (XbB:Xb4) (Xbo:Xb1) (Xbq:XbQ) (Xbl:XbP) (Xba:XbJ) (Xa0:XbK) (Xbb:XbI) (XaP:XbH):List (Nat×Xbs):=[(22,s22 XcW),(23,s23 Xg4),(25,s25 XeV),(21,s21 Xdh),(24,s24 Xga),(20,s20 Xfl),(7,s7 XdQ),(17,s17 Xap Xan Xam),(16,s16 XbB Xbo),(19,s19 Xbq Xbl),(12,s12 Xba Xa0),(10,s10 Xbb XaP)]
theorem leads4 (XcW:XdT) (Xg4:XgG) (XeV:Xfd) (Xdh:Xd0) (Xga:XfD) (Xfl:Xe3) (XdQ:XdY) (Xap:XaH) (Xan:XaF) (Xam:XaG) (XbB:Xb4) (Xbo:Xb1) (Xbq:XbQ) (Xbl:XbP) (Xba:XbJ) (Xa0:XbK) (Xbb:XbI) (XaP:XbH) (hS:Xal Tryz.prog (XaE (sums4 XcW Xg4 XeV Xdh Xga Xfl XdQ Xap Xan Xam XbB Xbo Xbq Xbl Xba Xa0 Xbb XaP))) (t:Xag) (cookie:Int) (val:Int) (later:Int) (flags:Int) (client:Int) (res:Bool) (h:Xg9 XcW Xg4 XeV Xdh Xga Xfl XdQ Xap Xan Xam XbB Xbo Xbq Xbl Xba Xa0 Xbb XaP t cookie val later flags client=some res) :
 XaK Tryz.prog 4 0 ⟨⟨4,226,[(0,.agg ⟨[.int .i64 t.Proto,.bool t.Src.V6,.int .u64 t.Src.Hi,.int .u64 t.Src.Lo,.bool t.Dst.V6,.int .u64 t.Dst.Hi,.int .u64 t.Dst.Lo,.int .i64 t.SPort,.int .i64 t.DPort]⟩),(1,.int .u16 cookie),(2,.int .u32 val),(3,.int .u16 later),(4,.int .u8 flags),(5,.int .u32 client)],[.code XSB],[],false,none⟩,[],[],0⟩ (fun v H _=>Res 0 (rx4 res) v H):=by
 unfold Xg9 at h
 have R1:=@XSj Xfl
 have R2:=@r7_eq XdQ
 have R3:=@XMD XcW
 have R4:=@XQE Xdh
 have R5:=@XNu Xg4
 have R6:=@Xup Xbb XaP
 have R7:=@XBn XbB Xbo
 have R8:=@XRt Xga
 have R9:=@XvE Xba Xa0
 have R10:=@XO2 XeV
 have R11:=@XvU Xap Xan Xam
 have R12:=@XCZ Xbq Xbl
 refine Xbg XaJ hS true 3000 ?_
 conv=>whnf
 exact W
def Xlr:Xhg:=Xg9 XcW Xg4 XeV Xdh Xga Xfl XdQ Xap Xan Xam XbB Xbo Xbq Xbl Xba Xa0 Xbb XaP
end Go.Vm.Code
namespace Go.Vm.Code
open Go Go.Vm
theorem XzA (t:Xag):XiK (XiK t)=t:=rfl
theorem XJE {a b:Int} (ha:0≤a∧a<4294967296) (hb:0≤b∧b<4294967296):XcW a b=some (Xcs a.toNat b.toNat):=by
 have:=XHs (v:=a.toNat) (e:=b.toNat) (by omega) (by omega)
 rwa [Int.toNat_of_nonneg ha.1,Int.toNat_of_nonneg hb.1] at this
def m37 (t:Xag) (c:Int):List XaA:=[⟨t,c⟩]
theorem Xul (t:Xag) (c:Int):XbG t (m37 t c)=true:=XuR.2 (by simp [ks37,m37])
theorem Xxd (t:Xag) (c:Int):Xb2 0 t (m37 t c)=c:=by unfold m37;rw [Xsj,XDP];rfl
theorem XIZ {t:Xag} {c:Int} (h:0≤c):XOC (m37 t c):=fun u=>by
 unfold m37;rw [Xsj]
 cases Xcz u t
 ·exact Int.le_refl 0
 ·exact h
theorem XwF {t:Xag} (hg:XmS t) (hp:t.Proto=6) {c:Int} (hc:0≤c∧c<65536) {w:Int} (hw:0≤w∧w<4294967296) :
 ∃ o,XaP ⟨7,0,[]⟩ (XpO (XpZ t c true) (XlX t 2 (Xcs w.toNat 0) []).1).1=some (o,0,⟨7,0,m37 t c⟩):=by
 obtain ⟨_,_,n,a,b,ht⟩:=XjZ hg hp (f:=2) (by omega) (v:=w.toNat) (e:=0) (by omega) (by omega) (l:=[]) (by simp)
 have hl:=XoQ hg hp (f:=2) (by omega) (v:=w.toNat) (e:=0) (by omega) (by omega) (l:=[]) (by simp)
 simp only [List.length_nil] at hl
 have h:=XvC (k:=0) (m:=[]) (f:=true) (l:=(XlX t 2 (Xcs w.toNat 0) []).1) (c:=c) (by omega) (by omega) ht
 have hk:Xh7 [] t (XpZ t c true)=(0,m37 t c):=rfl
 rw [hk] at h
 exact ⟨_,h⟩
theorem Xzd {t:Xag} (hg:XmS t) (hp:t.Proto=6) {c:Int} (hc:0≤c∧c<65536) {v w fl:Int} (hv:0≤v∧v<4294967296) (hw:0≤w∧w<4294967296) (hf:0≤fl∧fl≤255) {x:Int} :
 ∃ o n a b,Xa0 ⟨7,x,m37 t c⟩ (XlX (XiK t) fl (Xcs v.toNat w.toNat) [104,105]).1=some (o,0,⟨7,x,m37 t c⟩)∧o.length<900∧Xax o=(⟨XiK t,fl,true,XfY v c,w,false,[],n⟩,a,b,0):=by
 have hgb:=XsD hg
 obtain ⟨_,_,n,a,b,ht⟩:=XjZ hgb hp (f:=fl) hf (v:=v.toNat) (e:=w.toNat) (by omega) (by omega) (l:=[104,105]) (by simp)
 have hl:=XoQ hgb hp (f:=fl) hf (v:=v.toNat) (e:=w.toNat) (by omega) (by omega) (l:=[104,105]) (by simp)
 simp only [List.length_cons,List.length_nil] at hl
 generalize (XlX (XiK t) fl (Xcs v.toNat w.toNat) [104,105]).1=s at *
 rw [Int.toNat_of_nonneg hv.1,Int.toNat_of_nonneg hw.1] at ht
 have hlend:0≤XfY v c∧XfY v c<4294967296:=by unfold XfY;omega
 have h0:(Xax s).2.2.2=0:=by rw [ht]
 have hs:(Xax s).1.Stamped=true:=by rw [ht]
 obtain ⟨_,q2,q3,_⟩:=Xni (off:=0) (v:=XfY v c) (.inl rfl) h0 hs hlend
 have hsend:XsZ (m37 t c) s=(XnG s 0 (XfY v c),0):=by
  unfold XsZ
  rw [if_neg (by rw [h0];simp),ht]
  simp only []
  rw [XzA,Xul,if_neg (by decide),if_pos trivial,Xxd]
  unfold XCb
  rw [ht,if_neg (by simp),if_neg (by simp)]
  simp only []
  rw [show c%65536=c by omega]
 refine ⟨XnG s 0 (XfY v c),n,a,b,?_,by omega,?_⟩
 ·rw [XyW (by omega) (XIZ hc.1),hsend]
 ·rw [q3,ht];rfl
theorem Xxu {t:Xag} (hg:XmS t) (hp:t.Proto=6) {c:Int} (hc:0≤c∧c<65536) {w e now:Int} (hw:0≤w∧w<4294967296) (he:0≤e∧e<4294967296) :
 ∃ o n a b,XaP ⟨7,now,m37 t c⟩ (XpO (XpZ t c false) (XlX t 16 (Xcs w.toNat e.toNat) []).1).1=some (o,0,⟨7,now,m37 t c⟩)∧o.length<900∧Xax o=(⟨t,16,true,w,Xi2 now e,false,[],n⟩,a,b,0):=by
 obtain ⟨_,_,n,a,b,ht⟩:=XjZ hg hp (f:=16) (by omega) (v:=w.toNat) (e:=e.toNat) (by omega) (by omega) (l:=[]) (by simp)
 have hl:=XoQ hg hp (f:=16) (by omega) (v:=w.toNat) (e:=e.toNat) (by omega) (by omega) (l:=[]) (by simp)
 simp only [List.length_nil] at hl
 generalize (XlX t 16 (Xcs w.toNat e.toNat) []).1=s at *
 rw [Int.toNat_of_nonneg hw.1,Int.toNat_of_nonneg he.1] at ht
 have h:=XvC (k:=now) (m:=m37 t c) (f:=false) (l:=s) (c:=c) (by omega) (by omega) ht
 have hk:Xh7 (m37 t c) t (XpZ t c false)=(0,m37 t c):=by
  unfold Xh7;rw [if_pos (Xul t c),if_neg (by simp [XpZ])]
 rw [hk,if_neg (by simp)] at h
 have hr:0≤Xi2 now e∧Xi2 now e<4294967296:=by unfold Xi2;omega
 obtain ⟨_,q2,q3,_⟩:=Xni (s:=s) (off:=4) (v:=Xi2 now e) (.inr rfl) (by rw [ht]) (by rw [ht]) hr
 refine ⟨_,n,a,b,h,by omega,?_⟩
 rw [q3,ht];rfl
theorem shimEcho (t:Xag) (c v later fl w:Int) (h1:A4 t.Src) (h2:A4 t.Dst) (hc:0≤c∧c<65536) (hv:0≤v∧v<4294967296) (hl:0≤later∧later<65536) (hf:0≤fl∧fl≤255) (hw:0≤w∧w<4294967296):Xlr t c v later fl w=some true:=by
 unfold Xlr Xg9
 rw [Xwc,Option.bind_some,XLL]
 cases ht:XLc ⟨6,t.Src,t.Dst,t.SPort,t.DPort⟩
 ·rfl
 have hg:=XJa (t:=⟨6,t.Src,t.Dst,t.SPort,t.DPort⟩) h1 h2 ht
 have hgb:=XsD hg
 have hp:(Xag.mk 6 t.Src t.Dst t.SPort t.DPort).Proto=6:=rfl
 obtain ⟨o1,t1⟩:=XwF hg hp hc hw
 obtain ⟨o2,n2,a2,b2,t2,l2,d2⟩:=Xzd hg hp hc hv hw hf (x:=v)
 have hlend:0≤XfY v c∧XfY v c<4294967296:=by unfold XfY;omega
 obtain ⟨o3,n3,a3,b3,t3,l3,d3⟩:=Xxu hg hp hc hw hlend (now:=wI .u32 (v+(wI .u32 later)))
 obtain ⟨g1,g1l,_⟩:=XjZ hg hp (f:=2) (by omega) (v:=w.toNat) (e:=0) (by omega) (by omega) (l:=[]) (by simp)
 obtain ⟨g2,_⟩:=XjZ hgb hp (f:=fl) hf (v:=v.toNat) (e:=w.toNat) (by omega) (by omega) (l:=[104,105]) (by simp)
 obtain ⟨g3,g3l,_⟩:=XjZ hg hp (f:=16) (by omega) (v:=w.toNat) (e:=(XfY v c).toNat) (by omega) (by omega) (l:=[]) (by simp)
 have e1:wI .u64 c=c:=XjF hc.1 (by omega)
 have e2:wI .u32 c=c:=by show c%4294967296=c;omega
 have e3:wI .i64 fl=fl:=Xc5 (by omega) (by omega)
 have e4:(XfY v c).fdiv (2^16)=c:=by
  rw [Int.fdiv_eq_ediv_of_nonneg _ (by decide)];unfold XfY;omega
 have e5:((XfY v c).tmod 65536)=v.tmod 65536:=by
  rw [Int.tmod_eq_emod_of_nonneg hlend.1,Int.tmod_eq_emod_of_nonneg hv.1];unfold XfY;omega
 have e6:Xi2 (wI .u32 (v+(wI .u32 later))) (XfY v c)=v:=by
  show Xi2 ((v+later%4294967296)%4294967296) (XfY v c)=v
  unfold Xi2 XfY;omega
 rw [e6] at d3
 have p1:=Xpn (t:=⟨6,t.Src,t.Dst,t.SPort,t.DPort⟩) (f:=true) (c:=c) (by omega) g1l
 have p2:=Xpn (t:=⟨6,t.Src,t.Dst,t.SPort,t.DPort⟩) (f:=false) (c:=c) (by omega) g3l
 have c1:∀ f l,Xg4 (XaZ.mk t.Src.V6 7 c f 0) l=some (XpO (XpZ ⟨6,t.Src,t.Dst,t.SPort,t.DPort⟩ c f) l):=fun f l=>Xy3 (c:=⟨t.Src.V6,7,c,f,0⟩) (by simp only [];omega)
 rw [Bool.not_true,cond_false,XJE hw (by omega),Option.bind_some,show (0:Int).toNat=0 from rfl,XpY hg.src hg.dst (by rw [XsP];decide) (by decide),Option.bind_some,e1,c1,Option.bind_some,g1,p1.1,show ((0:Int) !=0)=false from rfl,cond_false,cond_false,t1,Option.bind_some]
 simp only []
 rw [XzC,Option.bind_some,(Xsi _).2,Option.bind_some,XJE hv hw,Option.bind_some,e3,XpY hgb.src hgb.dst (by rw [XsP];decide) (by decide),Option.bind_some,show ((0:Int) !=0)=false from rfl,cond_false,g2,show ((0:Int) !=0)=false from rfl,cond_false,t2,Option.bind_some]
 simp only []
 rw [Xtf (by omega),Option.bind_some,d2,show ((0:Int) !=0)=false from rfl,cond_false]
 simp only []
 rw [cond_false,e4,e2,e5,show (c !=c)=false from bne_self_eq_false' ..,cond_false,show (v.tmod 65536 !=v.tmod 65536)=false from bne_self_eq_false' ..,cond_false,show (w !=w)=false from bne_self_eq_false' ..,cond_false,Option.bind_some]
 simp only [beq_self_eq_true,Bool.and_self,Bool.not_true,cond_false]
 rw [XzC,Option.bind_some,XJE hw hlend,Option.bind_some,XpY hg.src hg.dst (by rw [XsP];decide) (by decide),Option.bind_some,e1,c1,Option.bind_some,g3,p2.1,show ((0:Int) !=0)=false from rfl,cond_false,cond_false,t3,Option.bind_some]
 simp only []
 rw [Xtf (by omega),Option.bind_some,d3,Xpx,Option.bind_some,Xul,Xxd]
 simp only [beq_self_eq_true,Bool.and_self,cond_true,XCA,Option.bind_some,m37,List.length_singleton]
 rfl
end Go.Vm.Code
