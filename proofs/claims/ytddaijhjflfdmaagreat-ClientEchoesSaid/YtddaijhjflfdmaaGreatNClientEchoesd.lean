import Derived.Test.YtddaijhjflfdmaaGreatNClientEchoesc
namespace Go.Vm
open Go Go.RowKit
theorem XQW {h h':Hp} {s:Nat→Option Nat} {b n:Nat} {ws:List Wd} {c c' x:List Value} {cs:List (Option (List Value))} {ob ob':XbL} (e1:XaD h b=some ob) (e2:ob.wcs=some x) (e3:Xe3.renL s c=some c') (e4:Nat.beq c'.length n=true) (e5:Nat.beq x.length n=true) (e6:ob.wr c'=some ob') (t:XdN (Xgx h b ob') s ws cs=some h') :
 XdN h s (.win b 0 n true::ws) (some c::cs)=some h':=by
 have h4:=Nat.eq_of_beq_eq_true e4
 have h5:=Nat.eq_of_beq_eq_true e5
 refine XH9 e1 e2 e3 ⟨h4,by omega⟩ ?_ e6 t
 apply List.ext_getElem?
 intro k
 rw [Xkn _ _ _ _ (by omega)]
 by_cases hk:k<n
 ·rw [if_pos (by omega)];simp
 ·rw [if_neg (by omega),List.getElem?_eq_none (by omega),List.getElem?_eq_none (by omega)]
theorem XSt {h:Hp} {k b n:Nat} {ob:XbL} {cs:List Value} (ho:XaD h b=some ob) (hc:ob.wcs=some cs) (hn:Nat.beq cs.length n=true) (hf:Xbk.flatL cs=true) :
 Xc0 h k (.pt n) (.pointer (some ⟨b,0,none⟩))=some (.pointer (some ⟨k,0,none⟩),[some (.cells cs)]):=
 XHQ ho hc (by have:=Nat.eq_of_beq_eq_true hn;omega) (by have:=Nat.eq_of_beq_eq_true hn;rw [List.drop_zero];exact List.take_of_length_le (by omega)) hf
end Go.Vm
namespace Go.Vm.Code
open Go Go.Vm Go.Proofs
set_option maxRecDepth 100000
set_option maxHeartbeats 4000000
set_option linter.unusedVariables false
@[ext] structure Xaa where
 V6:Bool
 Hi:Int
 Lo:Int
 deriving DecidableEq
@[ext] structure Xag where
 Proto:Int
 Src:Xaa
 Dst:Xaa
 SPort:Int
 DPort:Int
 deriving DecidableEq
@[ext] structure Xhn where
 Kind:Int
 Flags:Int
 S:List UInt8
 N:Int
 deriving DecidableEq
@[ext] structure Xbi where
 hello:Option Nat
 say:Option Nat
 hear:Option Nat
 deriving DecidableEq
@[ext] structure Xab where
 t:Xag
 v_:Xbi
 clock:Int
 echo:Int
 id_:List UInt8
 deriving DecidableEq
@[ext] structure Xar where
 SPort:Int
 DPort:Int
 Seq:Int
 Ack:Int
 Flags:Int
 Window:Int
 Urgent:Int
 Options:List UInt8
 deriving DecidableEq
@[ext] structure Xaq where
 Class:Int
 Label:Int
 Next:Int
 Hop:Int
 Src:Xaa
 Dst:Xaa
 deriving DecidableEq
@[ext] structure Xal where
 Class:Int
 Mark:Int
 Whole:Bool
 TTL:Int
 Proto:Int
 Src:Xaa
 Dst:Xaa
 Options:List UInt8
 deriving DecidableEq
@[ext] structure Xay where
 Long:Bool
 Bits:Int
 Version:Int
 DCID:List UInt8
 SCID:List UInt8
 Rest:List UInt8
 deriving DecidableEq
@[ext] structure XaQ where
 SPort:Int
 DPort:Int
 deriving DecidableEq
@[ext] structure Xam where
 Tuple:Xag
 Flags:Int
 Stamped:Bool
 Val:Int
 Echo:Int
 Long:Bool
 CID:List UInt8
 Size:Int
 deriving DecidableEq
@[ext] structure Xeo where
 src:Xaa
 dst:Xaa
 proto:Int
 size:Int
 body:List UInt8
 deriving DecidableEq
@[ext] structure XcQ where
 Kind:Int
 Data:List UInt8
 At:Int
 deriving DecidableEq
@[ext] structure XaK where
 src:Xaa
 dst:Xaa
 proto:Int
 body:List UInt8
 deriving DecidableEq
@[ext] structure Xah where
 s:List UInt8
 made:Bool
 bad:Bool
 deriving DecidableEq
@[ext] structure XdE where
 Reader:Xah
 deriving DecidableEq
@[ext] structure Xdg where
 Kind:Int
 Data:List UInt8
 deriving DecidableEq
@[ext] structure XaY where
 T:Xag
 Clock:Int
 Echo:Int
 ID:List UInt8
 deriving DecidableEq
def XgM (x:Xaa):List Value:=[.bool x.V6,.int .u64 x.Hi,.int .u64 x.Lo]
theorem Xfd (x:Xaa):(XgM x).length=3:=rfl
theorem XbE (x:Xaa):Xbk.flatL (XgM x)=true:=rfl
theorem XdF (x:Xaa):(XgM x).all Xil=true:=rfl
@[simp] theorem XBX (xs:List Xaa):(vT XgM xs).length=xs.length*3:=Xig Xfd xs
@[simp] theorem XBS (xs:List Xaa) (n:Nat):(vT XgM xs).take (n*3)=vT XgM (xs.take n):=Xgq Xfd xs n
@[simp] theorem XBW (xs:List Xaa) (n:Nat):(vT XgM xs).drop (n*3)=vT XgM (xs.drop n):=Xgp Xfd xs n
def Xoh:List Value→Option Xaa
 | [.bool a1,.int .u64 a2,.int .u64 a3]=>some (Xaa.mk a1 a2 a3)
 | _=>none
theorem XkE (cs:List Value) (x:Xaa) (h:Xoh cs=some x):cs=XgM x:=by
 unfold Xoh at h;split at h
 ·cases h;rfl
 ·cases h
def Xb4:Value→Option Xaa
 | .agg ⟨cs⟩=>Xoh cs
 | _=>none
theorem XrF (v:Value) (x:Xaa) (h:Xb4 v=some x):v=.agg ⟨XgM x⟩:=by
 unfold Xb4 at h;split at h
 ·rw [XkE _ _ h]
 ·cases h
theorem XbM (x:Xaa):Xb4 (.agg ⟨XgM x⟩)=some x:=rfl
def XfR (x:Xag):List Value:=[.int .i64 x.Proto,.bool x.Src.V6,.int .u64 x.Src.Hi,.int .u64 x.Src.Lo,.bool x.Dst.V6,.int .u64 x.Dst.Hi,.int .u64 x.Dst.Lo,.int .i64 x.SPort,.int .i64 x.DPort]
theorem XcA (x:Xag):(XfR x).length=9:=rfl
theorem Xbo (x:Xag):Xbk.flatL (XfR x)=true:=rfl
theorem Xc5 (x:Xag):(XfR x).all Xil=true:=rfl
@[simp] theorem Xxw (xs:List Xag):(vT XfR xs).length=xs.length*9:=Xig XcA xs
@[simp] theorem XBn (xs:List Xag) (n:Nat):(vT XfR xs).take (n*9)=vT XfR (xs.take n):=Xgq XcA xs n
@[simp] theorem XzO (xs:List Xag) (n:Nat):(vT XfR xs).drop (n*9)=vT XfR (xs.drop n):=Xgp XcA xs n
def XmQ:List Value→Option Xag
 | [.int .i64 a1,.bool a2,.int .u64 a3,.int .u64 a4,.bool a5,.int .u64 a6,.int .u64 a7,.int .i64 a8,.int .i64 a9]=>some (Xag.mk a1 (Xaa.mk a2 a3 a4) (Xaa.mk a5 a6 a7) a8 a9)
 | _=>none
theorem Xj9 (cs:List Value) (x:Xag) (h:XmQ cs=some x):cs=XfR x:=by
 unfold XmQ at h;split at h
 ·cases h;rfl
 ·cases h
def Xet:Value→Option Xag
 | .agg ⟨cs⟩=>XmQ cs
 | _=>none
theorem Xqw (v:Value) (x:Xag) (h:Xet v=some x):v=.agg ⟨XfR x⟩:=by
 unfold Xet at h;split at h
 ·rw [Xj9 _ _ h]
 ·cases h
theorem Xev (x:Xag):Xet (.agg ⟨XfR x⟩)=some x:=rfl
def Xhd (x:Xhn):List Value:=[.int .i64 x.Kind,.int .i64 x.Flags,.string ⟨⟨x.S⟩⟩,.int .u32 x.N]
theorem XeQ (x:Xhn):(Xhd x).length=4:=rfl
theorem XbG (x:Xhn):Xbk.flatL (Xhd x)=true:=rfl
theorem XdH (x:Xhn):(Xhd x).all Xil=true:=rfl
@[simp] theorem XBQ (xs:List Xhn):(vT Xhd xs).length=xs.length*4:=Xig XeQ xs
@[simp] theorem XBR (xs:List Xhn) (n:Nat):(vT Xhd xs).take (n*4)=vT Xhd (xs.take n):=Xgq XeQ xs n
@[simp] theorem XBO (xs:List Xhn) (n:Nat):(vT Xhd xs).drop (n*4)=vT Xhd (xs.drop n):=Xgp XeQ xs n
def XnU:List Value→Option Xhn
 | [.int .i64 a1,.int .i64 a2,.string ⟨⟨a3⟩⟩,.int .u32 a4]=>some (Xhn.mk a1 a2 a3 a4)
 | _=>none
theorem XkJ (cs:List Value) (x:Xhn) (h:XnU cs=some x):cs=Xhd x:=by
 unfold XnU at h;split at h
 ·cases h;rfl
 ·cases h
def XqP:Value→Option Xhn
 | .agg ⟨cs⟩=>XnU cs
 | _=>none
theorem XrJ (v:Value) (x:Xhn) (h:XqP v=some x):v=.agg ⟨Xhd x⟩:=by
 unfold XqP at h;split at h
 ·rw [XkJ _ _ h]
 ·cases h
def XdB (x:Xbi):List Value:=[fvV x.hello,fvV x.say,fvV x.hear]
theorem XdK (x:Xbi):(XdB x).length=3:=rfl
theorem XaS (x:Xbi):Xbk.flatL (XdB x)=true:=by simp only [XdB,Xbk.flatL,XdW];rfl
theorem Xcj (x:Xbi):(XdB x).all Xil=true:=by simp only [XdB,List.all_cons,List.all_nil,Xy7];rfl
@[simp] theorem Xve (xs:List Xbi):(vT XdB xs).length=xs.length*3:=Xig XdK xs
@[simp] theorem XvT (xs:List Xbi) (n:Nat):(vT XdB xs).take (n*3)=vT XdB (xs.take n):=Xgq XdK xs n
@[simp] theorem Xvq (xs:List Xbi) (n:Nat):(vT XdB xs).drop (n*3)=vT XdB (xs.drop n):=Xgp XdK xs n
def Xj6:List Value→Option Xbi
 | [va1,va2,va3]=>(asF va1).bind fun a1=>(asF va2).bind fun a2=>(asF va3).bind fun a3=>some (Xbi.mk a1 a2 a3)
 | _=>none
theorem XiC (cs:List Value) (x:Xbi) (h:Xj6 cs=some x):cs=XdB x:=by
 unfold Xj6 at h;split at h
 ·simp only [Option.bind_eq_some_iff] at h
  obtain ⟨a1,ha1,a2,ha2,a3,ha3,h⟩:=h
  cases h;rw [Xp9 _ _ ha1,Xp9 _ _ ha2,Xp9 _ _ ha3];rfl
 ·cases h
def Xmv:Value→Option Xbi
 | .agg ⟨cs⟩=>Xj6 cs
 | _=>none
theorem XnZ (v:Value) (x:Xbi) (h:Xmv v=some x):v=.agg ⟨XdB x⟩:=by
 unfold Xmv at h;split at h
 ·rw [XiC _ _ h]
 ·cases h
def XcB (x:Xab):List Value:=[.int .i64 x.t.Proto,.bool x.t.Src.V6,.int .u64 x.t.Src.Hi,.int .u64 x.t.Src.Lo,.bool x.t.Dst.V6,.int .u64 x.t.Dst.Hi,.int .u64 x.t.Dst.Lo,.int .i64 x.t.SPort,.int .i64 x.t.DPort,fvV x.v_.hello,fvV x.v_.say,fvV x.v_.hear,.int .u32 x.clock,.int .u32 x.echo,.string ⟨⟨x.id_⟩⟩]
theorem XaZ (x:Xab):(XcB x).length=15:=rfl
theorem XaM (x:Xab):Xbk.flatL (XcB x)=true:=by simp only [XcB,Xbk.flatL,XdW];rfl
theorem Xb6 (x:Xab):(XcB x).all Xil=true:=by simp only [XcB,List.all_cons,List.all_nil,Xy7];rfl
@[simp] theorem Xuj (xs:List Xab):(vT XcB xs).length=xs.length*15:=Xig XaZ xs
@[simp] theorem XtX (xs:List Xab) (n:Nat):(vT XcB xs).take (n*15)=vT XcB (xs.take n):=Xgq XaZ xs n
@[simp] theorem Xt9 (xs:List Xab) (n:Nat):(vT XcB xs).drop (n*15)=vT XcB (xs.drop n):=Xgp XaZ xs n
def XbQ:List Value→Option Xab
 | [.int .i64 a1,.bool a2,.int .u64 a3,.int .u64 a4,.bool a5,.int .u64 a6,.int .u64 a7,.int .i64 a8,.int .i64 a9,va10,va11,va12,.int .u32 a13,.int .u32 a14,.string ⟨⟨a15⟩⟩]=>(asF va10).bind fun a10=>(asF va11).bind fun a11=>(asF va12).bind fun a12=>some (Xab.mk (Xag.mk a1 (Xaa.mk a2 a3 a4) (Xaa.mk a5 a6 a7) a8 a9) (Xbi.mk a10 a11 a12) a13 a14 a15)
 | _=>none
theorem Xh9 (cs:List Value) (x:Xab) (h:XbQ cs=some x):cs=XcB x:=by
 unfold XbQ at h;split at h
 ·simp only [Option.bind_eq_some_iff] at h
  obtain ⟨a10,ha10,a11,ha11,a12,ha12,h⟩:=h
  cases h;rw [Xp9 _ _ ha10,Xp9 _ _ ha11,Xp9 _ _ ha12];rfl
 ·cases h
theorem Xci (x:Xab):XbQ (XcB x)=some x:=by simp [XbQ,XcB,asF_c]
def XlW:Value→Option Xab
 | .agg ⟨cs⟩=>XbQ cs
 | _=>none
theorem XnA (v:Value) (x:Xab) (h:XlW v=some x):v=.agg ⟨XcB x⟩:=by
 unfold XlW at h;split at h
 ·rw [Xh9 _ _ h]
 ·cases h
def XgN (x:Xar):List Value:=[.int .i64 x.SPort,.int .i64 x.DPort,.int .u32 x.Seq,.int .u32 x.Ack,.int .i64 x.Flags,.int .i64 x.Window,.int .i64 x.Urgent,.string ⟨⟨x.Options⟩⟩]
theorem Xdd (x:Xar):(XgN x).length=8:=rfl
theorem XbJ (x:Xar):Xbk.flatL (XgN x)=true:=rfl
theorem XdG (x:Xar):(XgN x).all Xil=true:=rfl
@[simp] theorem XBJ (xs:List Xar):(vT XgN xs).length=xs.length*8:=Xig Xdd xs
@[simp] theorem XBV (xs:List Xar) (n:Nat):(vT XgN xs).take (n*8)=vT XgN (xs.take n):=Xgq Xdd xs n
@[simp] theorem XBB (xs:List Xar) (n:Nat):(vT XgN xs).drop (n*8)=vT XgN (xs.drop n):=Xgp Xdd xs n
def Xon:List Value→Option Xar
 | [.int .i64 a1,.int .i64 a2,.int .u32 a3,.int .u32 a4,.int .i64 a5,.int .i64 a6,.int .i64 a7,.string ⟨⟨a8⟩⟩]=>some (Xar.mk a1 a2 a3 a4 a5 a6 a7 a8)
 | _=>none
theorem XkH (cs:List Value) (x:Xar) (h:Xon cs=some x):cs=XgN x:=by
 unfold Xon at h;split at h
 ·cases h;rfl
 ·cases h
def XhI:Value→Option Xar
 | .agg ⟨cs⟩=>Xon cs
 | _=>none
theorem Xsd (v:Value) (x:Xar) (h:XhI v=some x):v=.agg ⟨XgN x⟩:=by
 unfold XhI at h;split at h
 ·rw [XkH _ _ h]
 ·cases h
theorem Xi0 (x:Xar):XhI (.agg ⟨XgN x⟩)=some x:=rfl
def XeZ (x:Xaq):List Value:=[.int .i64 x.Class,.int .i64 x.Label,.int .i64 x.Next,.int .i64 x.Hop,.bool x.Src.V6,.int .u64 x.Src.Hi,.int .u64 x.Src.Lo,.bool x.Dst.V6,.int .u64 x.Dst.Hi,.int .u64 x.Dst.Lo]
theorem Xb7 (x:Xaq):(XeZ x).length=10:=rfl
theorem Xa8 (x:Xaq):Xbk.flatL (XeZ x)=true:=rfl
theorem XcH (x:Xaq):(XeZ x).all Xil=true:=rfl
@[simp] theorem Xxk (xs:List Xaq):(vT XeZ xs).length=xs.length*10:=Xig Xb7 xs
@[simp] theorem Xxn (xs:List Xaq) (n:Nat):(vT XeZ xs).take (n*10)=vT XeZ (xs.take n):=Xgq Xb7 xs n
@[simp] theorem Xxq (xs:List Xaq) (n:Nat):(vT XeZ xs).drop (n*10)=vT XeZ (xs.drop n):=Xgp Xb7 xs n
def Xlo:List Value→Option Xaq
 | [.int .i64 a1,.int .i64 a2,.int .i64 a3,.int .i64 a4,.bool a5,.int .u64 a6,.int .u64 a7,.bool a8,.int .u64 a9,.int .u64 a10]=>some (Xaq.mk a1 a2 a3 a4 (Xaa.mk a5 a6 a7) (Xaa.mk a8 a9 a10))
 | _=>none
theorem Xjx (cs:List Value) (x:Xaq) (h:Xlo cs=some x):cs=XeZ x:=by
 unfold Xlo at h;split at h
 ·cases h;rfl
 ·cases h
def XgL:Value→Option Xaq
 | .agg ⟨cs⟩=>Xlo cs
 | _=>none
theorem XpL (v:Value) (x:Xaq) (h:XgL v=some x):v=.agg ⟨XeZ x⟩:=by
 unfold XgL at h;split at h
 ·rw [Xjx _ _ h]
 ·cases h
theorem XiQ (x:Xaq):XgL (.agg ⟨XeZ x⟩)=some x:=rfl
def XeF (x:Xal):List Value:=[.int .i64 x.Class,.int .i64 x.Mark,.bool x.Whole,.int .i64 x.TTL,.int .i64 x.Proto,.bool x.Src.V6,.int .u64 x.Src.Hi,.int .u64 x.Src.Lo,.bool x.Dst.V6,.int .u64 x.Dst.Hi,.int .u64 x.Dst.Lo,.string ⟨⟨x.Options⟩⟩]
theorem XbK (x:Xal):(XeF x).length=12:=rfl
theorem Xa1 (x:Xal):Xbk.flatL (XeF x)=true:=rfl
theorem Xcs (x:Xal):(XeF x).all Xil=true:=rfl
@[simp] theorem Xwm (xs:List Xal):(vT XeF xs).length=xs.length*12:=Xig XbK xs
@[simp] theorem Xwu (xs:List Xal) (n:Nat):(vT XeF xs).take (n*12)=vT XeF (xs.take n):=Xgq XbK xs n
@[simp] theorem Xwk (xs:List Xal) (n:Nat):(vT XeF xs).drop (n*12)=vT XeF (xs.drop n):=Xgp XbK xs n
def XkU:List Value→Option Xal
 | [.int .i64 a1,.int .i64 a2,.bool a3,.int .i64 a4,.int .i64 a5,.bool a6,.int .u64 a7,.int .u64 a8,.bool a9,.int .u64 a10,.int .u64 a11,.string ⟨⟨a12⟩⟩]=>some (Xal.mk a1 a2 a3 a4 a5 (Xaa.mk a6 a7 a8) (Xaa.mk a9 a10 a11) a12)
 | _=>none
theorem Xi8 (cs:List Value) (x:Xal) (h:XkU cs=some x):cs=XeF x:=by
 unfold XkU at h;split at h
 ·cases h;rfl
 ·cases h
def Xf5:Value→Option Xal
 | .agg ⟨cs⟩=>XkU cs
 | _=>none
theorem XoT (v:Value) (x:Xal) (h:Xf5 v=some x):v=.agg ⟨XeF x⟩:=by
 unfold Xf5 at h;split at h
 ·rw [Xi8 _ _ h]
 ·cases h
theorem Xh3 (x:Xal):Xf5 (.agg ⟨XeF x⟩)=some x:=rfl
def XfC (x:Xay):List Value:=[.bool x.Long,.int .i64 x.Bits,.int .u32 x.Version,.string ⟨⟨x.DCID⟩⟩,.string ⟨⟨x.SCID⟩⟩,.string ⟨⟨x.Rest⟩⟩]
theorem Xdw (x:Xay):(XfC x).length=6:=rfl
theorem Xbr (x:Xay):Xbk.flatL (XfC x)=true:=rfl
theorem Xc2 (x:Xay):(XfC x).all Xil=true:=rfl
@[simp] theorem XA4 (xs:List Xay):(vT XfC xs).length=xs.length*6:=Xig Xdw xs
@[simp] theorem Xx1 (xs:List Xay) (n:Nat):(vT XfC xs).take (n*6)=vT XfC (xs.take n):=Xgq Xdw xs n
@[simp] theorem Xzw (xs:List Xay) (n:Nat):(vT XfC xs).drop (n*6)=vT XfC (xs.drop n):=Xgp Xdw xs n
def XmP:List Value→Option Xay
 | [.bool a1,.int .i64 a2,.int .u32 a3,.string ⟨⟨a4⟩⟩,.string ⟨⟨a5⟩⟩,.string ⟨⟨a6⟩⟩]=>some (Xay.mk a1 a2 a3 a4 a5 a6)
 | _=>none
theorem Xj3 (cs:List Value) (x:Xay) (h:XmP cs=some x):cs=XfC x:=by
 unfold XmP at h;split at h
 ·cases h;rfl
 ·cases h
def XiA:Value→Option Xay
 | .agg ⟨cs⟩=>XmP cs
 | _=>none
theorem Xqu (v:Value) (x:Xay) (h:XiA v=some x):v=.agg ⟨XfC x⟩:=by
 unfold XiA at h;split at h
 ·rw [Xj3 _ _ h]
 ·cases h
theorem Xkx (x:Xay):XiA (.agg ⟨XfC x⟩)=some x:=rfl
def XgD (x:XaQ):List Value:=[.int .i64 x.SPort,.int .i64 x.DPort]
theorem Xge (x:XaQ):(XgD x).length=2:=rfl
theorem XbF (x:XaQ):Xbk.flatL (XgD x)=true:=rfl
theorem XdA (x:XaQ):(XgD x).all Xil=true:=rfl
@[simp] theorem XBF (xs:List XaQ):(vT XgD xs).length=xs.length*2:=Xig Xge xs
@[simp] theorem XBE (xs:List XaQ) (n:Nat):(vT XgD xs).take (n*2)=vT XgD (xs.take n):=Xgq Xge xs n
@[simp] theorem XBD (xs:List XaQ) (n:Nat):(vT XgD xs).drop (n*2)=vT XgD (xs.drop n):=Xgp Xge xs n
def Xow:List Value→Option XaQ
 | [.int .i64 a1,.int .i64 a2]=>some (XaQ.mk a1 a2)
 | _=>none
theorem XkG (cs:List Value) (x:XaQ) (h:Xow cs=some x):cs=XgD x:=by
 unfold Xow at h;split at h
 ·cases h;rfl
 ·cases h
def Xmj:Value→Option XaQ
 | .agg ⟨cs⟩=>Xow cs
 | _=>none
theorem Xrs (v:Value) (x:XaQ) (h:Xmj v=some x):v=.agg ⟨XgD x⟩:=by
 unfold Xmj at h;split at h
 ·rw [XkG _ _ h]
 ·cases h
theorem XtK (x:XaQ):Xmj (.agg ⟨XgD x⟩)=some x:=rfl
def XeN (x:Xam):List Value:=[.int .i64 x.Tuple.Proto,.bool x.Tuple.Src.V6,.int .u64 x.Tuple.Src.Hi,.int .u64 x.Tuple.Src.Lo,.bool x.Tuple.Dst.V6,.int .u64 x.Tuple.Dst.Hi,.int .u64 x.Tuple.Dst.Lo,.int .i64 x.Tuple.SPort,.int .i64 x.Tuple.DPort,.int .i64 x.Flags,.bool x.Stamped,.int .u32 x.Val,.int .u32 x.Echo,.bool x.Long,.string ⟨⟨x.CID⟩⟩,.int .i64 x.Size]
theorem Xbp (x:Xam):(XeN x).length=16:=rfl
theorem Xa7 (x:Xam):Xbk.flatL (XeN x)=true:=rfl
theorem XcJ (x:Xam):(XeN x).all Xil=true:=rfl
@[simp] theorem Xxm (xs:List Xam):(vT XeN xs).length=xs.length*16:=Xig Xbp xs
@[simp] theorem Xxl (xs:List Xam) (n:Nat):(vT XeN xs).take (n*16)=vT XeN (xs.take n):=Xgq Xbp xs n
@[simp] theorem Xxs (xs:List Xam) (n:Nat):(vT XeN xs).drop (n*16)=vT XeN (xs.drop n):=Xgp Xbp xs n
def Xhz:List Value→Option Xam
 | [.int .i64 a1,.bool a2,.int .u64 a3,.int .u64 a4,.bool a5,.int .u64 a6,.int .u64 a7,.int .i64 a8,.int .i64 a9,.int .i64 a10,.bool a11,.int .u32 a12,.int .u32 a13,.bool a14,.string ⟨⟨a15⟩⟩,.int .i64 a16]=>some (Xam.mk (Xag.mk a1 (Xaa.mk a2 a3 a4) (Xaa.mk a5 a6 a7) a8 a9) a10 a11 a12 a13 a14 a15 a16)
 | _=>none
theorem XjC (cs:List Value) (x:Xam) (h:Xhz cs=some x):cs=XeN x:=by
 unfold Xhz at h;split at h
 ·cases h;rfl
 ·cases h
theorem XmF (x:Xam):Xhz (XeN x)=some x:=rfl
def XiU:Value→Option Xam
 | .agg ⟨cs⟩=>Xhz cs
 | _=>none
theorem XpM (v:Value) (x:Xam) (h:XiU v=some x):v=.agg ⟨XeN x⟩:=by
 unfold XiU at h;split at h
 ·rw [XjC _ _ h]
 ·cases h
theorem Xms (x:Xam):XiU (.agg ⟨XeN x⟩)=some x:=rfl
def Xhf (x:Xeo):List Value:=[.bool x.src.V6,.int .u64 x.src.Hi,.int .u64 x.src.Lo,.bool x.dst.V6,.int .u64 x.dst.Hi,.int .u64 x.dst.Lo,.int .i64 x.proto,.int .i64 x.size,.string ⟨⟨x.body⟩⟩]
theorem XcR (x:Xeo):(Xhf x).length=9:=rfl
theorem XbI (x:Xeo):Xbk.flatL (Xhf x)=true:=rfl
theorem XdD (x:Xeo):(Xhf x).all Xil=true:=rfl
@[simp] theorem XBI (xs:List Xeo):(vT Xhf xs).length=xs.length*9:=Xig XcR xs
@[simp] theorem XBN (xs:List Xeo) (n:Nat):(vT Xhf xs).take (n*9)=vT Xhf (xs.take n):=Xgq XcR xs n
@[simp] theorem XBH (xs:List Xeo) (n:Nat):(vT Xhf xs).drop (n*9)=vT Xhf (xs.drop n):=Xgp XcR xs n
def XnV:List Value→Option Xeo
 | [.bool a1,.int .u64 a2,.int .u64 a3,.bool a4,.int .u64 a5,.int .u64 a6,.int .i64 a7,.int .i64 a8,.string ⟨⟨a9⟩⟩]=>some (Xeo.mk (Xaa.mk a1 a2 a3) (Xaa.mk a4 a5 a6) a7 a8 a9)
 | _=>none
theorem XkX (cs:List Value) (x:Xeo) (h:XnV cs=some x):cs=Xhf x:=by
 unfold XnV at h;split at h
 ·cases h;rfl
 ·cases h
def XqF:Value→Option Xeo
 | .agg ⟨cs⟩=>XnV cs
 | _=>none
theorem XrZ (v:Value) (x:Xeo) (h:XqF v=some x):v=.agg ⟨Xhf x⟩:=by
 unfold XqF at h;split at h
 ·rw [XkX _ _ h]
 ·cases h
def XgR (x:XcQ):List Value:=[.int .i64 x.Kind,.string ⟨⟨x.Data⟩⟩,.int .i64 x.At]
theorem Xdn (x:XcQ):(XgR x).length=3:=rfl
theorem Xbh (x:XcQ):Xbk.flatL (XgR x)=true:=rfl
theorem Xek (x:XcQ):(XgR x).all Xil=true:=rfl
@[simp] theorem XGi (xs:List XcQ):(vT XgR xs).length=xs.length*3:=Xig Xdn xs
@[simp] theorem XGp (xs:List XcQ) (n:Nat):(vT XgR xs).take (n*3)=vT XgR (xs.take n):=Xgq Xdn xs n
@[simp] theorem XCA (xs:List XcQ) (n:Nat):(vT XgR xs).drop (n*3)=vT XgR (xs.drop n):=Xgp Xdn xs n
def XpQ:List Value→Option XcQ
 | [.int .i64 a1,.string ⟨⟨a2⟩⟩,.int .i64 a3]=>some (XcQ.mk a1 a2 a3)
 | _=>none
theorem Xlt (cs:List Value) (x:XcQ) (h:XpQ cs=some x):cs=XgR x:=by
 unfold XpQ at h;split at h
 ·cases h;rfl
 ·cases h
def XsQ:Value→Option XcQ
 | .agg ⟨cs⟩=>XpQ cs
 | _=>none
theorem Xs1 (v:Value) (x:XcQ) (h:XsQ v=some x):v=.agg ⟨XgR x⟩:=by
 unfold XsQ at h;split at h
 ·rw [Xlt _ _ h]
 ·cases h
def Xd9 (x:XaK):List Value:=[.bool x.src.V6,.int .u64 x.src.Hi,.int .u64 x.src.Lo,.bool x.dst.V6,.int .u64 x.dst.Hi,.int .u64 x.dst.Lo,.int .i64 x.proto,.string ⟨⟨x.body⟩⟩]
theorem Xb5 (x:XaK):(Xd9 x).length=8:=rfl
theorem XaT (x:XaK):Xbk.flatL (Xd9 x)=true:=rfl
theorem Xcg (x:XaK):(Xd9 x).all Xil=true:=rfl
@[simp] theorem Xu2 (xs:List XaK):(vT Xd9 xs).length=xs.length*8:=Xig Xb5 xs
@[simp] theorem Xvn (xs:List XaK) (n:Nat):(vT Xd9 xs).take (n*8)=vT Xd9 (xs.take n):=Xgq Xb5 xs n
@[simp] theorem Xu4 (xs:List XaK) (n:Nat):(vT Xd9 xs).drop (n*8)=vT Xd9 (xs.drop n):=Xgp Xb5 xs n
def Xj1:List Value→Option XaK
 | [.bool a1,.int .u64 a2,.int .u64 a3,.bool a4,.int .u64 a5,.int .u64 a6,.int .i64 a7,.string ⟨⟨a8⟩⟩]=>some (XaK.mk (Xaa.mk a1 a2 a3) (Xaa.mk a4 a5 a6) a7 a8)
 | _=>none
theorem XiE (cs:List Value) (x:XaK) (h:Xj1 cs=some x):cs=Xd9 x:=by
 unfold Xj1 at h;split at h
 ·cases h;rfl
 ·cases h
def Xhg:Value→Option XaK
 | .agg ⟨cs⟩=>Xj1 cs
 | _=>none
theorem Xn4 (v:Value) (x:XaK) (h:Xhg v=some x):v=.agg ⟨Xd9 x⟩:=by
 unfold Xhg at h;split at h
 ·rw [XiE _ _ h]
 ·cases h
theorem Xk5 (x:XaK):Xhg (.agg ⟨Xd9 x⟩)=some x:=rfl
def Xef (x:Xah):List Value:=[.string ⟨⟨x.s⟩⟩,.bool x.made,.bool x.bad]
theorem XdS (x:Xah):(Xef x).length=3:=rfl
theorem XaU (x:Xah):Xbk.flatL (Xef x)=true:=rfl
theorem Xch (x:Xah):(Xef x).all Xil=true:=rfl
@[simp] theorem Xvr (xs:List Xah):(vT Xef xs).length=xs.length*3:=Xig XdS xs
@[simp] theorem XvK (xs:List Xah) (n:Nat):(vT Xef xs).take (n*3)=vT Xef (xs.take n):=Xgq XdS xs n
@[simp] theorem Xvl (xs:List Xah) (n:Nat):(vT Xef xs).drop (n*3)=vT Xef (xs.drop n):=Xgp XdS xs n
def Xd4:List Value→Option Xah
 | [.string ⟨⟨a1⟩⟩,.bool a2,.bool a3]=>some (Xah.mk a1 a2 a3)
 | _=>none
theorem Xg0 (cs:List Value) (x:Xah) (h:Xd4 cs=some x):cs=Xef x:=by
 unfold Xd4 at h;split at h
 ·cases h;rfl
 ·cases h
theorem Xgi (x:Xah):Xd4 (Xef x)=some x:=rfl
def XmD:Value→Option Xah
 | .agg ⟨cs⟩=>Xd4 cs
 | _=>none
theorem Xof (v:Value) (x:Xah) (h:XmD v=some x):v=.agg ⟨Xef x⟩:=by
 unfold XmD at h;split at h
 ·rw [Xg0 _ _ h]
 ·cases h
def Xhm (x:Xdg):List Value:=[.int .i64 x.Kind,.string ⟨⟨x.Data⟩⟩]
theorem Xf1 (x:Xdg):(Xhm x).length=2:=rfl
theorem Xbc (x:Xdg):Xbk.flatL (Xhm x)=true:=rfl
theorem Xel (x:Xdg):(Xhm x).all Xil=true:=rfl
@[simp] theorem XEM (xs:List Xdg):(vT Xhm xs).length=xs.length*2:=Xig Xf1 xs
@[simp] theorem XFy (xs:List Xdg) (n:Nat):(vT Xhm xs).take (n*2)=vT Xhm (xs.take n):=Xgq Xf1 xs n
@[simp] theorem XEY (xs:List Xdg) (n:Nat):(vT Xhm xs).drop (n*2)=vT Xhm (xs.drop n):=Xgp Xf1 xs n
def XpR:List Value→Option Xdg
 | [.int .i64 a1,.string ⟨⟨a2⟩⟩]=>some (Xdg.mk a1 a2)
 | _=>none
theorem Xlf (cs:List Value) (x:Xdg) (h:XpR cs=some x):cs=Xhm x:=by
 unfold XpR at h;split at h
 ·cases h;rfl
 ·cases h
def XtE:Value→Option Xdg
 | .agg ⟨cs⟩=>XpR cs
 | _=>none
theorem XsU (v:Value) (x:Xdg) (h:XtE v=some x):v=.agg ⟨Xhm x⟩:=by
 unfold XtE at h;split at h
 ·rw [Xlf _ _ h]
 ·cases h
def Xfq (x:XaY):List Value:=[.int .i64 x.T.Proto,.bool x.T.Src.V6,.int .u64 x.T.Src.Hi,.int .u64 x.T.Src.Lo,.bool x.T.Dst.V6,.int .u64 x.T.Dst.Hi,.int .u64 x.T.Dst.Lo,.int .i64 x.T.SPort,.int .i64 x.T.DPort,.int .u32 x.Clock,.int .u32 x.Echo,.string ⟨⟨x.ID⟩⟩]
theorem XbU (x:XaY):(Xfq x).length=12:=rfl
theorem Xa9 (x:XaY):Xbk.flatL (Xfq x)=true:=rfl
theorem XcI (x:XaY):(Xfq x).all Xil=true:=rfl
@[simp] theorem Xxi (xs:List XaY):(vT Xfq xs).length=xs.length*12:=Xig XbU xs
@[simp] theorem Xxg (xs:List XaY) (n:Nat):(vT Xfq xs).take (n*12)=vT Xfq (xs.take n):=Xgq XbU xs n
@[simp] theorem Xxf (xs:List XaY) (n:Nat):(vT Xfq xs).drop (n*12)=vT Xfq (xs.drop n):=Xgp XbU xs n
def Xli:List Value→Option XaY
 | [.int .i64 a1,.bool a2,.int .u64 a3,.int .u64 a4,.bool a5,.int .u64 a6,.int .u64 a7,.int .i64 a8,.int .i64 a9,.int .u32 a10,.int .u32 a11,.string ⟨⟨a12⟩⟩]=>some (XaY.mk (Xag.mk a1 (Xaa.mk a2 a3 a4) (Xaa.mk a5 a6 a7) a8 a9) a10 a11 a12)
 | _=>none
theorem XjD (cs:List Value) (x:XaY) (h:Xli cs=some x):cs=Xfq x:=by
 unfold Xli at h;split at h
 ·cases h;rfl
 ·cases h
def Xoz:Value→Option XaY
 | .agg ⟨cs⟩=>Xli cs
 | _=>none
theorem Xqn (v:Value) (x:XaY) (h:Xoz v=some x):v=.agg ⟨Xfq x⟩:=by
 unfold Xoz at h;split at h
 ·rw [XjD _ _ h]
 ·cases h
def Xh8 (k:Nat):Value→List (Option (List Value))→Option XdE
 | .agg ⟨[.pointer (some ⟨k0,0,none⟩)]⟩,[some c0]=>match Xd4 c0 with|some x0=>(if k0=k+0 then some (XdE.mk x0) else none)|none=>none
 | _,_=>none
theorem Xns {k:Nat} {v:Value} {cs:List (Option (List Value))} {x:XdE} (h:Xh8 k v cs=some x):v=.agg ⟨[.pointer (some ⟨k+0,0,none⟩)]⟩∧cs=[some [.string ⟨⟨x.Reader.s⟩⟩,.bool x.Reader.made,.bool x.Reader.bad]]:=by
 unfold Xh8 at h;split at h<;>try (cases h;done)
 split at h<;>try (cases h;done)
 rename_i x0 e0
 split at h<;>cases h
 rename_i hk
 subst hk
 obtain rfl:=Xg0 _ _ e0
 exact ⟨rfl,rfl⟩
theorem Xoy (k:Nat) (x:XdE):Xh8 k (.agg ⟨[.pointer (some ⟨k+0,0,none⟩)]⟩) [some [.string ⟨⟨x.Reader.s⟩⟩,.bool x.Reader.made,.bool x.Reader.bad]]=some x:=by
 show (if k+0=k+0 then some x else none)=_
 simp
theorem Xg8.a {s:XbC} {vals aqs:List Value} {os:List (Option XbL)} {h h1 h2:Hp} {top n m t':Nat} {ws:List Wd} {r:XcU} {v':Value} {cw:List (Option (List Value))} {K:Value→Hp→Nat→Prop} (e2:s.run aqs cw=some r)
 (k:Xim v' fun v=>Xlh [] (Xjv h2 (top+n) m) fun h'=>K v h' t')
 (e1:Xdr h 0 s.modes vals=some (aqs,os):=by repeat' first|exact XSh|apply XKj|rfl|exact XSt rfl rfl rfl (by first|rfl|(simp only [Xbk.flatL,XdW];rfl))|exact XHQ rfl rfl (Nat.le_of_ble_eq_true rfl) rfl (by first|rfl|(simp only [Xbk.flatL,XdW];rfl))|exact XO8 rfl rfl (by first|rfl|omega) (by first|rfl|(simp;done))|exact XNm rfl rfl (by first|rfl|omega) (by first|rfl|(simp;done))|exact XMn rfl rfl (by first|rfl|omega) (by first|rfl|(simp;done))|exact XgK Xfd XbE rfl rfl (by first|rfl|omega) (by first|rfl|(simp;done))|exact XgK XcA Xbo rfl rfl (by first|rfl|omega) (by first|rfl|(simp;done))|exact XgK XeQ XbG rfl rfl (by first|rfl|omega) (by first|rfl|(simp;done))|exact XgK XdK XaS rfl rfl (by first|rfl|omega) (by first|rfl|(simp;done))|exact XgK XaZ XaM rfl rfl (by first|rfl|omega) (by first|rfl|(simp;done))|exact XgK Xdd XbJ rfl rfl (by first|rfl|omega) (by first|rfl|(simp;done))|exact XgK Xb7 Xa8 rfl rfl (by first|rfl|omega) (by first|rfl|(simp;done))|exact XgK XbK Xa1 rfl rfl (by first|rfl|omega) (by first|rfl|(simp;done))|exact XgK Xdw Xbr rfl rfl (by first|rfl|omega) (by first|rfl|(simp;done))|exact XgK Xge XbF rfl rfl (by first|rfl|omega) (by first|rfl|(simp;done))|exact XgK Xbp Xa7 rfl rfl (by first|rfl|omega) (by first|rfl|(simp;done))|exact XgK XcR XbI rfl rfl (by first|rfl|omega) (by first|rfl|(simp;done))|exact XgK Xdn Xbh rfl rfl (by first|rfl|omega) (by first|rfl|(simp;done))|exact XgK Xb5 XaT rfl rfl (by first|rfl|omega) (by first|rfl|(simp;done))|exact XgK XdS XaU rfl rfl (by first|rfl|omega) (by first|rfl|(simp;done))|exact XgK Xf1 Xbc rfl rfl (by first|rfl|omega) (by first|rfl|(simp;done))|exact XgK XbU Xa9 rfl rfl (by first|rfl|omega) (by first|rfl|(simp;done))|exact XIY rfl rfl (by first|rfl|omega) (by first|rfl|omega) (by first|omega|(simp at *;omega))|exact XHW rfl rfl (by first|rfl|omega) (by first|rfl|omega) (by first|omega|(simp at *;omega))|exact XJy rfl rfl (by first|rfl|omega) (by first|rfl|omega) (by first|omega|(simp at *;omega))|exact Xij Xfd XbE rfl rfl (by first|rfl|omega) (by first|rfl|omega) (by first|omega|(simp at *;omega))|exact Xij XcA Xbo rfl rfl (by first|rfl|omega) (by first|rfl|omega) (by first|omega|(simp at *;omega))|exact Xij XeQ XbG rfl rfl (by first|rfl|omega) (by first|rfl|omega) (by first|omega|(simp at *;omega))|exact Xij XdK XaS rfl rfl (by first|rfl|omega) (by first|rfl|omega) (by first|omega|(simp at *;omega))|exact Xij XaZ XaM rfl rfl (by first|rfl|omega) (by first|rfl|omega) (by first|omega|(simp at *;omega))|exact Xij Xdd XbJ rfl rfl (by first|rfl|omega) (by first|rfl|omega) (by first|omega|(simp at *;omega))|exact Xij Xb7 Xa8 rfl rfl (by first|rfl|omega) (by first|rfl|omega) (by first|omega|(simp at *;omega))|exact Xij XbK Xa1 rfl rfl (by first|rfl|omega) (by first|rfl|omega) (by first|omega|(simp at *;omega))|exact Xij Xdw Xbr rfl rfl (by first|rfl|omega) (by first|rfl|omega) (by first|omega|(simp at *;omega))|exact Xij Xge XbF rfl rfl (by first|rfl|omega) (by first|rfl|omega) (by first|omega|(simp at *;omega))|exact Xij Xbp Xa7 rfl rfl (by first|rfl|omega) (by first|rfl|omega) (by first|omega|(simp at *;omega))|exact Xij XcR XbI rfl rfl (by first|rfl|omega) (by first|rfl|omega) (by first|omega|(simp at *;omega))|exact Xij Xdn Xbh rfl rfl (by first|rfl|omega) (by first|rfl|omega) (by first|omega|(simp at *;omega))|exact Xij Xb5 XaT rfl rfl (by first|rfl|omega) (by first|rfl|omega) (by first|omega|(simp at *;omega))|exact Xij XdS XaU rfl rfl (by first|rfl|omega) (by first|rfl|omega) (by first|omega|(simp at *;omega))|exact Xij Xf1 Xbc rfl rfl (by first|rfl|omega) (by first|rfl|omega) (by first|omega|(simp at *;omega))|exact Xij XbU Xa9 rfl rfl (by first|rfl|omega) (by first|rfl|omega) (by first|omega|(simp at *;omega))|(apply ra_tr rfl rfl _ rfl;repeat' first|exact XRm|apply XRs|apply vp_at rfl rfl (by first|rfl|exact XuO|exact XuE|exact Xt6|exact Xbl XbE|exact Xbl Xbo|exact Xbl XbG|exact Xbl XaS|exact Xbl XaM|exact Xbl XbJ|exact Xbl Xa8|exact Xbl Xa1|exact Xbl Xbr|exact Xbl XbF|exact Xbl Xa7|exact Xbl XbI|exact Xbl Xbh|exact Xbl XaT|exact Xbl XaU|exact Xbl Xbc|exact Xbl Xa9|exact Xcn _ _ (by simp only [Xbk.flatL,XdW];rfl)) rfl))
 (ec:Xk8 os=cw:=by rfl)
 (ew:XkR h s.modes vals=ws:=by first|exact (rfl:_=[])|exact (rfl:_=[_])|exact (rfl:_=[_,_])|exact (rfl:_=[_,_,_])|exact (rfl:_=[_,_,_,_])|exact (rfl:_=[_,_,_,_,_])|exact (rfl:_=[_,_,_,_,_,_])|exact (rfl:_=[_,_,_,_,_,_,_])|exact (rfl:_=[_,_,_,_,_,_,_,_]))
 (e3:apartB ws=true:=by exact rfl)
 (hn:r.new.length=n:=by first|exact (rfl:_=0)|exact (rfl:_=1)|exact (rfl:_=2)|exact (rfl:_=3)|exact (rfl:_=4))
 (hm:Xlx ws=m:=by first|exact (rfl:_=0)|exact (rfl:_=1)|exact (rfl:_=2)|exact (rfl:_=3)|exact (rfl:_=4))
 (ht:top+n+m=t':=by simp only [Nat.reduceAdd];rfl)
 (e4:XdN h (Xuo top n ws) ws r.wr=some h1:=by repeat' first|exact XI2|apply XLc rfl|apply XQW rfl rfl (by first|rfl|exact XuO|exact XuE|exact Xt6|exact Xbl XbE|exact Xbl Xbo|exact Xbl XbG|exact Xbl XaS|exact Xbl XaM|exact Xbl XbJ|exact Xbl Xa8|exact Xbl Xa1|exact Xbl Xbr|exact Xbl XbF|exact Xbl Xa7|exact Xbl XbI|exact Xbl Xbh|exact Xbl XaT|exact Xbl XaU|exact Xbl Xbc|exact Xbl Xa9|exact Xcn _ _ (by simp only [Xbk.flatL,XdW];rfl)) rfl rfl rfl|apply XH9 rfl rfl (by first|rfl|exact XuO|exact XuE|exact Xt6|exact Xbl XbE|exact Xbl Xbo|exact Xbl XbG|exact Xbl XaS|exact Xbl XaM|exact Xbl XbJ|exact Xbl Xa8|exact Xbl Xa1|exact Xbl Xbr|exact Xbl XbF|exact Xbl Xa7|exact Xbl XbI|exact Xbl Xbh|exact Xbl XaT|exact Xbl XaU|exact Xbl Xbc|exact Xbl Xa9|exact Xcn _ _ (by simp only [Xbk.flatL,XdW];rfl)) ⟨rfl,Nat.le_of_ble_eq_true rfl⟩ rfl rfl|apply XRZ rfl rfl (by first|rfl|exact XuO|exact XuE|exact Xt6|exact Xbl XbE|exact Xbl Xbo|exact Xbl XbG|exact Xbl XaS|exact Xbl XaM|exact Xbl XbJ|exact Xbl Xa8|exact Xbl Xa1|exact Xbl Xbr|exact Xbl XbF|exact Xbl Xa7|exact Xbl XbI|exact Xbl Xbh|exact Xbl XaT|exact Xbl XaU|exact Xbl Xbc|exact Xbl Xa9|exact Xcn _ _ (by simp only [Xbk.flatL,XdW];rfl)) rfl|apply XU8)
 (e5:Xjd h1 (Xuo top n ws) top r.new=some h2:=by repeat' first|exact XJz|apply XLR (by first|rfl|exact XuO|exact XuE|exact Xt6|exact Xbl XbE|exact Xbl Xbo|exact Xbl XbG|exact Xbl XaS|exact Xbl XaM|exact Xbl XbJ|exact Xbl Xa8|exact Xbl Xa1|exact Xbl Xbr|exact Xbl XbF|exact Xbl Xa7|exact Xbl XbI|exact Xbl Xbh|exact Xbl XaT|exact Xbl XaU|exact Xbl Xbc|exact Xbl Xa9|exact Xcn _ _ (by simp only [Xbk.flatL,XdW];rfl)))
 (e6:Xe3 (Xuo top n ws) r.v=some v':=by first|exact rfl|exact XlH _ _ (by first|rfl|(simp only [Xbk,Xbk.flatL,XdW];rfl))):Xg8 s vals h top K:=Xg8.XId [] (XsY e1 ew ec e2 e3 hn hm ht e4 e5 e6) k
theorem W {G:Prop} (g:G:=by
 repeat' first
  | (refine fsp h ?_ ?_<;>(clear h;intros;rename_i hx h;rw [hx];conv=>whnf))
  | (refine fcase h ?_ ?_<;>(clear h;intros;first|(rename_i hx h;subst hx;conv=>whnf)|rename_i h))
  | (refine br.h h (by rfl) ?_ ?_<;>(clear h;intro hb h;conv=>whnf))
  | (replace h:=Xbn.elim h;obtain ⟨hb,h⟩:=h;try (refine req.intro hb ?_;conv=>whnf))
  | (replace h:=Xdy.elim h;obtain ⟨x,hy,h⟩:=h;(first|refine Xg8.a (R1 hy) ?_|refine Xg8.a (R2 hy) ?_|refine Xg8.a (R3 hy) ?_|refine Xg8.a (R4 hy) ?_|refine Xg8.a (R5 hy) ?_|refine Xg8.a (R6 hy) ?_|refine Xg8.a (R7 hy) ?_|refine Xg8.a (R8 hy) ?_|refine Xg8.a (R9 hy) ?_|refine Xg8.a (R10 hy) ?_|refine rdS.intro hy ?_|refine rd.I hy (by first|rfl|(rw [Nat.zero_add,Nat.mul_one];try rfl;done)|omega) ?_|refine rd.S hy (by first|rfl|(rw [Nat.zero_add,Nat.mul_one];try rfl;done)|omega) ?_|refine rd.B hy (by first|rfl|(rw [Nat.zero_add,Nat.mul_one];try rfl;done)|omega) ?_|refine rd.T (j:=0) Xfd hy (by first|omega|exact Nat.zero_add _|exact congrArg (·+_) (Nat.zero_add _)) (by decide) rfl ?_|refine rd.T (j:=1) Xfd hy (by first|omega|exact Nat.zero_add _|exact congrArg (·+_) (Nat.zero_add _)) (by decide) rfl ?_|refine rd.T (j:=2) Xfd hy (by first|omega|exact Nat.zero_add _|exact congrArg (·+_) (Nat.zero_add _)) (by decide) rfl ?_|refine rd.T (j:=0) XcA hy (by first|omega|exact Nat.zero_add _|exact congrArg (·+_) (Nat.zero_add _)) (by decide) rfl ?_|refine rd.T (j:=1) XcA hy (by first|omega|exact Nat.zero_add _|exact congrArg (·+_) (Nat.zero_add _)) (by decide) rfl ?_|refine rd.T (j:=2) XcA hy (by first|omega|exact Nat.zero_add _|exact congrArg (·+_) (Nat.zero_add _)) (by decide) rfl ?_|refine rd.T (j:=3) XcA hy (by first|omega|exact Nat.zero_add _|exact congrArg (·+_) (Nat.zero_add _)) (by decide) rfl ?_|refine rd.T (j:=4) XcA hy (by first|omega|exact Nat.zero_add _|exact congrArg (·+_) (Nat.zero_add _)) (by decide) rfl ?_|refine rd.T (j:=5) XcA hy (by first|omega|exact Nat.zero_add _|exact congrArg (·+_) (Nat.zero_add _)) (by decide) rfl ?_|refine rd.T (j:=6) XcA hy (by first|omega|exact Nat.zero_add _|exact congrArg (·+_) (Nat.zero_add _)) (by decide) rfl ?_|refine rd.T (j:=7) XcA hy (by first|omega|exact Nat.zero_add _|exact congrArg (·+_) (Nat.zero_add _)) (by decide) rfl ?_|refine rd.T (j:=8) XcA hy (by first|omega|exact Nat.zero_add _|exact congrArg (·+_) (Nat.zero_add _)) (by decide) rfl ?_|refine rd.T (j:=0) XeQ hy (by first|omega|exact Nat.zero_add _|exact congrArg (·+_) (Nat.zero_add _)) (by decide) rfl ?_|refine rd.T (j:=1) XeQ hy (by first|omega|exact Nat.zero_add _|exact congrArg (·+_) (Nat.zero_add _)) (by decide) rfl ?_|refine rd.T (j:=2) XeQ hy (by first|omega|exact Nat.zero_add _|exact congrArg (·+_) (Nat.zero_add _)) (by decide) rfl ?_|refine rd.T (j:=3) XeQ hy (by first|omega|exact Nat.zero_add _|exact congrArg (·+_) (Nat.zero_add _)) (by decide) rfl ?_|refine rd.T (j:=0) XdK hy (by first|omega|exact Nat.zero_add _|exact congrArg (·+_) (Nat.zero_add _)) (by decide) rfl ?_|refine rd.T (j:=1) XdK hy (by first|omega|exact Nat.zero_add _|exact congrArg (·+_) (Nat.zero_add _)) (by decide) rfl ?_|refine rd.T (j:=2) XdK hy (by first|omega|exact Nat.zero_add _|exact congrArg (·+_) (Nat.zero_add _)) (by decide) rfl ?_|refine rd.T (j:=0) XaZ hy (by first|omega|exact Nat.zero_add _|exact congrArg (·+_) (Nat.zero_add _)) (by decide) rfl ?_|refine rd.T (j:=1) XaZ hy (by first|omega|exact Nat.zero_add _|exact congrArg (·+_) (Nat.zero_add _)) (by decide) rfl ?_|refine rd.T (j:=2) XaZ hy (by first|omega|exact Nat.zero_add _|exact congrArg (·+_) (Nat.zero_add _)) (by decide) rfl ?_|refine rd.T (j:=3) XaZ hy (by first|omega|exact Nat.zero_add _|exact congrArg (·+_) (Nat.zero_add _)) (by decide) rfl ?_|refine rd.T (j:=4) XaZ hy (by first|omega|exact Nat.zero_add _|exact congrArg (·+_) (Nat.zero_add _)) (by decide) rfl ?_|refine rd.T (j:=5) XaZ hy (by first|omega|exact Nat.zero_add _|exact congrArg (·+_) (Nat.zero_add _)) (by decide) rfl ?_|refine rd.T (j:=6) XaZ hy (by first|omega|exact Nat.zero_add _|exact congrArg (·+_) (Nat.zero_add _)) (by decide) rfl ?_|refine rd.T (j:=7) XaZ hy (by first|omega|exact Nat.zero_add _|exact congrArg (·+_) (Nat.zero_add _)) (by decide) rfl ?_|refine rd.T (j:=8) XaZ hy (by first|omega|exact Nat.zero_add _|exact congrArg (·+_) (Nat.zero_add _)) (by decide) rfl ?_|refine rd.T (j:=9) XaZ hy (by first|omega|exact Nat.zero_add _|exact congrArg (·+_) (Nat.zero_add _)) (by decide) rfl ?_|refine rd.T (j:=10) XaZ hy (by first|omega|exact Nat.zero_add _|exact congrArg (·+_) (Nat.zero_add _)) (by decide) rfl ?_|refine rd.T (j:=11) XaZ hy (by first|omega|exact Nat.zero_add _|exact congrArg (·+_) (Nat.zero_add _)) (by decide) rfl ?_|refine rd.T (j:=12) XaZ hy (by first|omega|exact Nat.zero_add _|exact congrArg (·+_) (Nat.zero_add _)) (by decide) rfl ?_|refine rd.T (j:=13) XaZ hy (by first|omega|exact Nat.zero_add _|exact congrArg (·+_) (Nat.zero_add _)) (by decide) rfl ?_|refine rd.T (j:=14) XaZ hy (by first|omega|exact Nat.zero_add _|exact congrArg (·+_) (Nat.zero_add _)) (by decide) rfl ?_|refine rd.T (j:=0) Xdd hy (by first|omega|exact Nat.zero_add _|exact congrArg (·+_) (Nat.zero_add _)) (by decide) rfl ?_|refine rd.T (j:=1) Xdd hy (by first|omega|exact Nat.zero_add _|exact congrArg (·+_) (Nat.zero_add _)) (by decide) rfl ?_|refine rd.T (j:=2) Xdd hy (by first|omega|exact Nat.zero_add _|exact congrArg (·+_) (Nat.zero_add _)) (by decide) rfl ?_|refine rd.T (j:=3) Xdd hy (by first|omega|exact Nat.zero_add _|exact congrArg (·+_) (Nat.zero_add _)) (by decide) rfl ?_|refine rd.T (j:=4) Xdd hy (by first|omega|exact Nat.zero_add _|exact congrArg (·+_) (Nat.zero_add _)) (by decide) rfl ?_|refine rd.T (j:=5) Xdd hy (by first|omega|exact Nat.zero_add _|exact congrArg (·+_) (Nat.zero_add _)) (by decide) rfl ?_|refine rd.T (j:=6) Xdd hy (by first|omega|exact Nat.zero_add _|exact congrArg (·+_) (Nat.zero_add _)) (by decide) rfl ?_|refine rd.T (j:=7) Xdd hy (by first|omega|exact Nat.zero_add _|exact congrArg (·+_) (Nat.zero_add _)) (by decide) rfl ?_|refine rd.T (j:=0) Xb7 hy (by first|omega|exact Nat.zero_add _|exact congrArg (·+_) (Nat.zero_add _)) (by decide) rfl ?_|refine rd.T (j:=1) Xb7 hy (by first|omega|exact Nat.zero_add _|exact congrArg (·+_) (Nat.zero_add _)) (by decide) rfl ?_|refine rd.T (j:=2) Xb7 hy (by first|omega|exact Nat.zero_add _|exact congrArg (·+_) (Nat.zero_add _)) (by decide) rfl ?_|refine rd.T (j:=3) Xb7 hy (by first|omega|exact Nat.zero_add _|exact congrArg (·+_) (Nat.zero_add _)) (by decide) rfl ?_|refine rd.T (j:=4) Xb7 hy (by first|omega|exact Nat.zero_add _|exact congrArg (·+_) (Nat.zero_add _)) (by decide) rfl ?_|refine rd.T (j:=5) Xb7 hy (by first|omega|exact Nat.zero_add _|exact congrArg (·+_) (Nat.zero_add _)) (by decide) rfl ?_|refine rd.T (j:=6) Xb7 hy (by first|omega|exact Nat.zero_add _|exact congrArg (·+_) (Nat.zero_add _)) (by decide) rfl ?_|refine rd.T (j:=7) Xb7 hy (by first|omega|exact Nat.zero_add _|exact congrArg (·+_) (Nat.zero_add _)) (by decide) rfl ?_|refine rd.T (j:=8) Xb7 hy (by first|omega|exact Nat.zero_add _|exact congrArg (·+_) (Nat.zero_add _)) (by decide) rfl ?_|refine rd.T (j:=9) Xb7 hy (by first|omega|exact Nat.zero_add _|exact congrArg (·+_) (Nat.zero_add _)) (by decide) rfl ?_|refine rd.T (j:=0) XbK hy (by first|omega|exact Nat.zero_add _|exact congrArg (·+_) (Nat.zero_add _)) (by decide) rfl ?_|refine rd.T (j:=1) XbK hy (by first|omega|exact Nat.zero_add _|exact congrArg (·+_) (Nat.zero_add _)) (by decide) rfl ?_|refine rd.T (j:=2) XbK hy (by first|omega|exact Nat.zero_add _|exact congrArg (·+_) (Nat.zero_add _)) (by decide) rfl ?_|refine rd.T (j:=3) XbK hy (by first|omega|exact Nat.zero_add _|exact congrArg (·+_) (Nat.zero_add _)) (by decide) rfl ?_|refine rd.T (j:=4) XbK hy (by first|omega|exact Nat.zero_add _|exact congrArg (·+_) (Nat.zero_add _)) (by decide) rfl ?_|refine rd.T (j:=5) XbK hy (by first|omega|exact Nat.zero_add _|exact congrArg (·+_) (Nat.zero_add _)) (by decide) rfl ?_|refine rd.T (j:=6) XbK hy (by first|omega|exact Nat.zero_add _|exact congrArg (·+_) (Nat.zero_add _)) (by decide) rfl ?_|refine rd.T (j:=7) XbK hy (by first|omega|exact Nat.zero_add _|exact congrArg (·+_) (Nat.zero_add _)) (by decide) rfl ?_|refine rd.T (j:=8) XbK hy (by first|omega|exact Nat.zero_add _|exact congrArg (·+_) (Nat.zero_add _)) (by decide) rfl ?_|refine rd.T (j:=9) XbK hy (by first|omega|exact Nat.zero_add _|exact congrArg (·+_) (Nat.zero_add _)) (by decide) rfl ?_|refine rd.T (j:=10) XbK hy (by first|omega|exact Nat.zero_add _|exact congrArg (·+_) (Nat.zero_add _)) (by decide) rfl ?_|refine rd.T (j:=11) XbK hy (by first|omega|exact Nat.zero_add _|exact congrArg (·+_) (Nat.zero_add _)) (by decide) rfl ?_|refine rd.T (j:=0) Xdw hy (by first|omega|exact Nat.zero_add _|exact congrArg (·+_) (Nat.zero_add _)) (by decide) rfl ?_|refine rd.T (j:=1) Xdw hy (by first|omega|exact Nat.zero_add _|exact congrArg (·+_) (Nat.zero_add _)) (by decide) rfl ?_|refine rd.T (j:=2) Xdw hy (by first|omega|exact Nat.zero_add _|exact congrArg (·+_) (Nat.zero_add _)) (by decide) rfl ?_|refine rd.T (j:=3) Xdw hy (by first|omega|exact Nat.zero_add _|exact congrArg (·+_) (Nat.zero_add _)) (by decide) rfl ?_|refine rd.T (j:=4) Xdw hy (by first|omega|exact Nat.zero_add _|exact congrArg (·+_) (Nat.zero_add _)) (by decide) rfl ?_|refine rd.T (j:=5) Xdw hy (by first|omega|exact Nat.zero_add _|exact congrArg (·+_) (Nat.zero_add _)) (by decide) rfl ?_|refine rd.T (j:=0) Xge hy (by first|omega|exact Nat.zero_add _|exact congrArg (·+_) (Nat.zero_add _)) (by decide) rfl ?_|refine rd.T (j:=1) Xge hy (by first|omega|exact Nat.zero_add _|exact congrArg (·+_) (Nat.zero_add _)) (by decide) rfl ?_|refine rd.T (j:=0) Xbp hy (by first|omega|exact Nat.zero_add _|exact congrArg (·+_) (Nat.zero_add _)) (by decide) rfl ?_|refine rd.T (j:=1) Xbp hy (by first|omega|exact Nat.zero_add _|exact congrArg (·+_) (Nat.zero_add _)) (by decide) rfl ?_|refine rd.T (j:=2) Xbp hy (by first|omega|exact Nat.zero_add _|exact congrArg (·+_) (Nat.zero_add _)) (by decide) rfl ?_|refine rd.T (j:=3) Xbp hy (by first|omega|exact Nat.zero_add _|exact congrArg (·+_) (Nat.zero_add _)) (by decide) rfl ?_|refine rd.T (j:=4) Xbp hy (by first|omega|exact Nat.zero_add _|exact congrArg (·+_) (Nat.zero_add _)) (by decide) rfl ?_|refine rd.T (j:=5) Xbp hy (by first|omega|exact Nat.zero_add _|exact congrArg (·+_) (Nat.zero_add _)) (by decide) rfl ?_|refine rd.T (j:=6) Xbp hy (by first|omega|exact Nat.zero_add _|exact congrArg (·+_) (Nat.zero_add _)) (by decide) rfl ?_|refine rd.T (j:=7) Xbp hy (by first|omega|exact Nat.zero_add _|exact congrArg (·+_) (Nat.zero_add _)) (by decide) rfl ?_|refine rd.T (j:=8) Xbp hy (by first|omega|exact Nat.zero_add _|exact congrArg (·+_) (Nat.zero_add _)) (by decide) rfl ?_|refine rd.T (j:=9) Xbp hy (by first|omega|exact Nat.zero_add _|exact congrArg (·+_) (Nat.zero_add _)) (by decide) rfl ?_|refine rd.T (j:=10) Xbp hy (by first|omega|exact Nat.zero_add _|exact congrArg (·+_) (Nat.zero_add _)) (by decide) rfl ?_|refine rd.T (j:=11) Xbp hy (by first|omega|exact Nat.zero_add _|exact congrArg (·+_) (Nat.zero_add _)) (by decide) rfl ?_|refine rd.T (j:=12) Xbp hy (by first|omega|exact Nat.zero_add _|exact congrArg (·+_) (Nat.zero_add _)) (by decide) rfl ?_|refine rd.T (j:=13) Xbp hy (by first|omega|exact Nat.zero_add _|exact congrArg (·+_) (Nat.zero_add _)) (by decide) rfl ?_|refine rd.T (j:=14) Xbp hy (by first|omega|exact Nat.zero_add _|exact congrArg (·+_) (Nat.zero_add _)) (by decide) rfl ?_|refine rd.T (j:=15) Xbp hy (by first|omega|exact Nat.zero_add _|exact congrArg (·+_) (Nat.zero_add _)) (by decide) rfl ?_|refine rd.T (j:=0) XcR hy (by first|omega|exact Nat.zero_add _|exact congrArg (·+_) (Nat.zero_add _)) (by decide) rfl ?_|refine rd.T (j:=1) XcR hy (by first|omega|exact Nat.zero_add _|exact congrArg (·+_) (Nat.zero_add _)) (by decide) rfl ?_|refine rd.T (j:=2) XcR hy (by first|omega|exact Nat.zero_add _|exact congrArg (·+_) (Nat.zero_add _)) (by decide) rfl ?_|refine rd.T (j:=3) XcR hy (by first|omega|exact Nat.zero_add _|exact congrArg (·+_) (Nat.zero_add _)) (by decide) rfl ?_|refine rd.T (j:=4) XcR hy (by first|omega|exact Nat.zero_add _|exact congrArg (·+_) (Nat.zero_add _)) (by decide) rfl ?_|refine rd.T (j:=5) XcR hy (by first|omega|exact Nat.zero_add _|exact congrArg (·+_) (Nat.zero_add _)) (by decide) rfl ?_|refine rd.T (j:=6) XcR hy (by first|omega|exact Nat.zero_add _|exact congrArg (·+_) (Nat.zero_add _)) (by decide) rfl ?_|refine rd.T (j:=7) XcR hy (by first|omega|exact Nat.zero_add _|exact congrArg (·+_) (Nat.zero_add _)) (by decide) rfl ?_|refine rd.T (j:=8) XcR hy (by first|omega|exact Nat.zero_add _|exact congrArg (·+_) (Nat.zero_add _)) (by decide) rfl ?_|refine rd.T (j:=0) Xdn hy (by first|omega|exact Nat.zero_add _|exact congrArg (·+_) (Nat.zero_add _)) (by decide) rfl ?_|refine rd.T (j:=1) Xdn hy (by first|omega|exact Nat.zero_add _|exact congrArg (·+_) (Nat.zero_add _)) (by decide) rfl ?_|refine rd.T (j:=2) Xdn hy (by first|omega|exact Nat.zero_add _|exact congrArg (·+_) (Nat.zero_add _)) (by decide) rfl ?_|refine rd.T (j:=0) Xb5 hy (by first|omega|exact Nat.zero_add _|exact congrArg (·+_) (Nat.zero_add _)) (by decide) rfl ?_|refine rd.T (j:=1) Xb5 hy (by first|omega|exact Nat.zero_add _|exact congrArg (·+_) (Nat.zero_add _)) (by decide) rfl ?_|refine rd.T (j:=2) Xb5 hy (by first|omega|exact Nat.zero_add _|exact congrArg (·+_) (Nat.zero_add _)) (by decide) rfl ?_|refine rd.T (j:=3) Xb5 hy (by first|omega|exact Nat.zero_add _|exact congrArg (·+_) (Nat.zero_add _)) (by decide) rfl ?_|refine rd.T (j:=4) Xb5 hy (by first|omega|exact Nat.zero_add _|exact congrArg (·+_) (Nat.zero_add _)) (by decide) rfl ?_|refine rd.T (j:=5) Xb5 hy (by first|omega|exact Nat.zero_add _|exact congrArg (·+_) (Nat.zero_add _)) (by decide) rfl ?_|refine rd.T (j:=6) Xb5 hy (by first|omega|exact Nat.zero_add _|exact congrArg (·+_) (Nat.zero_add _)) (by decide) rfl ?_|refine rd.T (j:=7) Xb5 hy (by first|omega|exact Nat.zero_add _|exact congrArg (·+_) (Nat.zero_add _)) (by decide) rfl ?_|refine rd.T (j:=0) XdS hy (by first|omega|exact Nat.zero_add _|exact congrArg (·+_) (Nat.zero_add _)) (by decide) rfl ?_|refine rd.T (j:=1) XdS hy (by first|omega|exact Nat.zero_add _|exact congrArg (·+_) (Nat.zero_add _)) (by decide) rfl ?_|refine rd.T (j:=2) XdS hy (by first|omega|exact Nat.zero_add _|exact congrArg (·+_) (Nat.zero_add _)) (by decide) rfl ?_|refine rd.T (j:=0) Xf1 hy (by first|omega|exact Nat.zero_add _|exact congrArg (·+_) (Nat.zero_add _)) (by decide) rfl ?_|refine rd.T (j:=1) Xf1 hy (by first|omega|exact Nat.zero_add _|exact congrArg (·+_) (Nat.zero_add _)) (by decide) rfl ?_|refine rd.T (j:=0) XbU hy (by first|omega|exact Nat.zero_add _|exact congrArg (·+_) (Nat.zero_add _)) (by decide) rfl ?_|refine rd.T (j:=1) XbU hy (by first|omega|exact Nat.zero_add _|exact congrArg (·+_) (Nat.zero_add _)) (by decide) rfl ?_|refine rd.T (j:=2) XbU hy (by first|omega|exact Nat.zero_add _|exact congrArg (·+_) (Nat.zero_add _)) (by decide) rfl ?_|refine rd.T (j:=3) XbU hy (by first|omega|exact Nat.zero_add _|exact congrArg (·+_) (Nat.zero_add _)) (by decide) rfl ?_|refine rd.T (j:=4) XbU hy (by first|omega|exact Nat.zero_add _|exact congrArg (·+_) (Nat.zero_add _)) (by decide) rfl ?_|refine rd.T (j:=5) XbU hy (by first|omega|exact Nat.zero_add _|exact congrArg (·+_) (Nat.zero_add _)) (by decide) rfl ?_|refine rd.T (j:=6) XbU hy (by first|omega|exact Nat.zero_add _|exact congrArg (·+_) (Nat.zero_add _)) (by decide) rfl ?_|refine rd.T (j:=7) XbU hy (by first|omega|exact Nat.zero_add _|exact congrArg (·+_) (Nat.zero_add _)) (by decide) rfl ?_|refine rd.T (j:=8) XbU hy (by first|omega|exact Nat.zero_add _|exact congrArg (·+_) (Nat.zero_add _)) (by decide) rfl ?_|refine rd.T (j:=9) XbU hy (by first|omega|exact Nat.zero_add _|exact congrArg (·+_) (Nat.zero_add _)) (by decide) rfl ?_|refine rd.T (j:=10) XbU hy (by first|omega|exact Nat.zero_add _|exact congrArg (·+_) (Nat.zero_add _)) (by decide) rfl ?_|refine rd.T (j:=11) XbU hy (by first|omega|exact Nat.zero_add _|exact congrArg (·+_) (Nat.zero_add _)) (by decide) rfl ?_);conv=>whnf)
  | (cases h;done)
  | (cases h;(try cases hc);first|exact Res.y|exact Res.of [] rfl (by repeat' first|exact Xtg|apply XtO (by first|rfl|exact XuO|exact XuE|exact Xt6|exact Xbl XbE|exact Xbl Xbo|exact Xbl XbG|exact Xbl XaS|exact Xbl XaM|exact Xbl XbJ|exact Xbl Xa8|exact Xbl Xa1|exact Xbl Xbr|exact Xbl XbF|exact Xbl Xa7|exact Xbl XbI|exact Xbl Xbh|exact Xbl XaT|exact Xbl XaU|exact Xbl Xbc|exact Xbl Xa9|exact Xcn _ _ (by simp only [Xbk.flatL,XdW];rfl)) (by first|exact Xhb rfl|exact XiL rfl)) (by decide) (by repeat' first|exact Xs0|apply XtN (by decide)|apply XUv rfl) (by repeat' first|exact XsS|apply XS8|apply XS7 (by first|rfl|exact XuO|exact XuE|exact Xt6|exact Xbl XbE|exact Xbl Xbo|exact Xbl XbG|exact Xbl XaS|exact Xbl XaM|exact Xbl XbJ|exact Xbl Xa8|exact Xbl Xa1|exact Xbl Xbr|exact Xbl XbF|exact Xbl Xa7|exact Xbl XbI|exact Xbl Xbh|exact Xbl XaT|exact Xbl XaU|exact Xbl Xbc|exact Xbl Xa9|exact Xcn _ _ (by simp only [Xbk.flatL,XdW];rfl)) (by first|exact XiL rfl|exact Xhb rfl))|exact Res.of [_] rfl (by repeat' first|exact Xtg|apply XtO (by first|rfl|exact XuO|exact XuE|exact Xt6|exact Xbl XbE|exact Xbl Xbo|exact Xbl XbG|exact Xbl XaS|exact Xbl XaM|exact Xbl XbJ|exact Xbl Xa8|exact Xbl Xa1|exact Xbl Xbr|exact Xbl XbF|exact Xbl Xa7|exact Xbl XbI|exact Xbl Xbh|exact Xbl XaT|exact Xbl XaU|exact Xbl Xbc|exact Xbl Xa9|exact Xcn _ _ (by simp only [Xbk.flatL,XdW];rfl)) (by first|exact Xhb rfl|exact XiL rfl)) (by decide) (by repeat' first|exact Xs0|apply XtN (by decide)|apply XUv rfl) (by repeat' first|exact XsS|apply XS8|apply XS7 (by first|rfl|exact XuO|exact XuE|exact Xt6|exact Xbl XbE|exact Xbl Xbo|exact Xbl XbG|exact Xbl XaS|exact Xbl XaM|exact Xbl XbJ|exact Xbl Xa8|exact Xbl Xa1|exact Xbl Xbr|exact Xbl XbF|exact Xbl Xa7|exact Xbl XbI|exact Xbl Xbh|exact Xbl XaT|exact Xbl XaU|exact Xbl Xbc|exact Xbl Xa9|exact Xcn _ _ (by simp only [Xbk.flatL,XdW];rfl)) (by first|exact XiL rfl|exact Xhb rfl))|exact Res.of [_,_] rfl (by repeat' first|exact Xtg|apply XtO (by first|rfl|exact XuO|exact XuE|exact Xt6|exact Xbl XbE|exact Xbl Xbo|exact Xbl XbG|exact Xbl XaS|exact Xbl XaM|exact Xbl XbJ|exact Xbl Xa8|exact Xbl Xa1|exact Xbl Xbr|exact Xbl XbF|exact Xbl Xa7|exact Xbl XbI|exact Xbl Xbh|exact Xbl XaT|exact Xbl XaU|exact Xbl Xbc|exact Xbl Xa9|exact Xcn _ _ (by simp only [Xbk.flatL,XdW];rfl)) (by first|exact Xhb rfl|exact XiL rfl)) (by decide) (by repeat' first|exact Xs0|apply XtN (by decide)|apply XUv rfl) (by repeat' first|exact XsS|apply XS8|apply XS7 (by first|rfl|exact XuO|exact XuE|exact Xt6|exact Xbl XbE|exact Xbl Xbo|exact Xbl XbG|exact Xbl XaS|exact Xbl XaM|exact Xbl XbJ|exact Xbl Xa8|exact Xbl Xa1|exact Xbl Xbr|exact Xbl XbF|exact Xbl Xa7|exact Xbl XbI|exact Xbl Xbh|exact Xbl XaT|exact Xbl XaU|exact Xbl Xbc|exact Xbl Xa9|exact Xcn _ _ (by simp only [Xbk.flatL,XdW];rfl)) (by first|exact XiL rfl|exact Xhb rfl))|exact Res.of [_,_,_] rfl (by repeat' first|exact Xtg|apply XtO (by first|rfl|exact XuO|exact XuE|exact Xt6|exact Xbl XbE|exact Xbl Xbo|exact Xbl XbG|exact Xbl XaS|exact Xbl XaM|exact Xbl XbJ|exact Xbl Xa8|exact Xbl Xa1|exact Xbl Xbr|exact Xbl XbF|exact Xbl Xa7|exact Xbl XbI|exact Xbl Xbh|exact Xbl XaT|exact Xbl XaU|exact Xbl Xbc|exact Xbl Xa9|exact Xcn _ _ (by simp only [Xbk.flatL,XdW];rfl)) (by first|exact Xhb rfl|exact XiL rfl)) (by decide) (by repeat' first|exact Xs0|apply XtN (by decide)|apply XUv rfl) (by repeat' first|exact XsS|apply XS8|apply XS7 (by first|rfl|exact XuO|exact XuE|exact Xt6|exact Xbl XbE|exact Xbl Xbo|exact Xbl XbG|exact Xbl XaS|exact Xbl XaM|exact Xbl XbJ|exact Xbl Xa8|exact Xbl Xa1|exact Xbl Xbr|exact Xbl XbF|exact Xbl Xa7|exact Xbl XbI|exact Xbl Xbh|exact Xbl XaT|exact Xbl XaU|exact Xbl Xbc|exact Xbl Xa9|exact Xcn _ _ (by simp only [Xbk.flatL,XdW];rfl)) (by first|exact XiL rfl|exact Xhb rfl))|exact Res.of [_,_,_,_] rfl (by repeat' first|exact Xtg|apply XtO (by first|rfl|exact XuO|exact XuE|exact Xt6|exact Xbl XbE|exact Xbl Xbo|exact Xbl XbG|exact Xbl XaS|exact Xbl XaM|exact Xbl XbJ|exact Xbl Xa8|exact Xbl Xa1|exact Xbl Xbr|exact Xbl XbF|exact Xbl Xa7|exact Xbl XbI|exact Xbl Xbh|exact Xbl XaT|exact Xbl XaU|exact Xbl Xbc|exact Xbl Xa9|exact Xcn _ _ (by simp only [Xbk.flatL,XdW];rfl)) (by first|exact Xhb rfl|exact XiL rfl)) (by decide) (by repeat' first|exact Xs0|apply XtN (by decide)|apply XUv rfl) (by repeat' first|exact XsS|apply XS8|apply XS7 (by first|rfl|exact XuO|exact XuE|exact Xt6|exact Xbl XbE|exact Xbl Xbo|exact Xbl XbG|exact Xbl XaS|exact Xbl XaM|exact Xbl XbJ|exact Xbl Xa8|exact Xbl Xa1|exact Xbl Xbr|exact Xbl XbF|exact Xbl Xa7|exact Xbl XbI|exact Xbl Xbh|exact Xbl XaT|exact Xbl XaU|exact Xbl Xbc|exact Xbl Xa9|exact Xcn _ _ (by simp only [Xbk.flatL,XdW];rfl)) (by first|exact XiL rfl|exact Xhb rfl)))):G:=g
theorem okA {f : Nat} {s : XbC} (hfn : ∃ fn, Tryz.prog.funcs[f]? = some fn ∧ fn.name ≠ "runtime.NumGoroutine" ∧ fn.body.isSome = true)
 (H:∀ ar os r,Xhp (XvA s.modes) os→s.run ar (Xk8 os)=some r→∃ c,XjN (XaD tab) f ar=some c∧XaF Tryz.prog f os.length ⟨c,[],Xqv 0 os,os.length⟩ (fun v' H' _=>Res os.length r v' H'):=by
 intro ar os r ha hr
 generalize hc:Xk8 os=C at hr
 repeat' first
  | (replace hr:=XsL.elim hr;rcases hr with hr|hr)
  | (replace hr:=dV.elim hr;obtain ⟨v,l,y,rfl,e,hr⟩:=hr;first|obtain rfl:=Xwb _ _ _ e|obtain rfl:=XvZ _ _ e|obtain rfl:=XAq _ _ e|obtain rfl:=Xp9 _ _ e|obtain rfl:=XrF _ _ e|obtain rfl:=Xqw _ _ e|obtain rfl:=XrJ _ _ e|obtain rfl:=XnZ _ _ e|obtain rfl:=XnA _ _ e|obtain rfl:=Xsd _ _ e|obtain rfl:=XpL _ _ e|obtain rfl:=XoT _ _ e|obtain rfl:=Xqu _ _ e|obtain rfl:=Xrs _ _ e|obtain rfl:=XpM _ _ e|obtain rfl:=XrZ _ _ e|obtain rfl:=Xs1 _ _ e|obtain rfl:=Xn4 _ _ e|obtain rfl:=Xof _ _ e|obtain rfl:=XsU _ _ e|obtain rfl:=Xqn _ _ e)
  | (have hq:=dSl.elim hr;clear hr;obtain ⟨c,l,C,y,rfl,rfl,e,hr⟩:=hq;first|obtain rfl:=XS2 e|obtain rfl:=XVX e|obtain rfl:=XWm e|obtain rfl:=Xik XkE e|obtain rfl:=Xik Xj9 e|obtain rfl:=Xik XkJ e|obtain rfl:=Xik XiC e|obtain rfl:=Xik Xh9 e|obtain rfl:=Xik XkH e|obtain rfl:=Xik Xjx e|obtain rfl:=Xik Xi8 e|obtain rfl:=Xik Xj3 e|obtain rfl:=Xik XkG e|obtain rfl:=Xik XjC e|obtain rfl:=Xik XkX e|obtain rfl:=Xik Xlt e|obtain rfl:=Xik XiE e|obtain rfl:=Xik Xg0 e|obtain rfl:=Xik Xlf e|obtain rfl:=Xik XjD e)
  | (have hq:=dPt.elim hr;clear hr;obtain ⟨c,l,C,y,rfl,rfl,e,hr⟩:=hq;first|obtain rfl:=XkE _ _ e|obtain rfl:=Xj9 _ _ e|obtain rfl:=XkJ _ _ e|obtain rfl:=XiC _ _ e|obtain rfl:=Xh9 _ _ e|obtain rfl:=XkH _ _ e|obtain rfl:=Xjx _ _ e|obtain rfl:=Xi8 _ _ e|obtain rfl:=Xj3 _ _ e|obtain rfl:=XkG _ _ e|obtain rfl:=XjC _ _ e|obtain rfl:=XkX _ _ e|obtain rfl:=Xlt _ _ e|obtain rfl:=XiE _ _ e|obtain rfl:=Xg0 _ _ e|obtain rfl:=Xlf _ _ e|obtain rfl:=XjD _ _ e|obtain rfl:=XAp (Xwb _) e|obtain rfl:=XAp XvZ e|obtain rfl:=XAp XAq e)
  | (have hq:=dTr.elim hr;clear hr;obtain ⟨v,l,c,C,y,rfl,rfl,e,hr⟩:=hq;(first|obtain ⟨rfl,rfl⟩:=Xns e);simp only [List.nil_append,List.cons_append] at hc)
  | (have hq:=dNl.elim hr;clear hr;obtain ⟨l,C,rfl,rfl,hr⟩:=hq;simp only [List.replicate,List.nil_append,List.cons_append] at hc)
  | (replace hr:=dFin hr;obtain ⟨rfl,rfl,x,h,rfl⟩:=hr;(repeat (first|(replace ha:=Xw9 ha hc;obtain ⟨os,rfl,ha,hc⟩:=ha)|(replace ha:=Xw2 ha hc;obtain ⟨os,rfl,ha,hc⟩:=ha)));obtain rfl:=Xyr hc;first|exact ⟨_,rfl,hL (h:=h) ..⟩|exact ⟨_,rfl,hN (h:=h) ..⟩)):XbD Tryz.prog f s:=XbD.XD9 XaC H hfn
theorem Xmt {P:Program} {f base fn nt:Nat} {e e':Env} {todo todo':List Xgo} {ds ds':List Nat} {ret:Bool} {up up':List XbN} {H H':Hp} {top top':Nat} {R:Value→Hp→Nat→Prop}
 (h:XaF P f base ⟨⟨fn,nt,e',todo',ds',ret,none⟩,up',H',top'⟩ R) (m:List (Nat×Nat)) (hc:XBG base top' m=true) (he:reE (XaD m) e e':=by repeat' first|exact trivial|refine ⟨⟨_,rfl,rfl⟩,?_⟩|refine ⟨⟨_,_,rfl,rfl,.cellsF (by simp only [Xbk.flatL,XdW];rfl)⟩,?_⟩|refine ⟨⟨_,_,rfl,rfl,.rowF (Xj4 _ _) id⟩,?_⟩|refine ⟨⟨_,_,rfl,rfl,.rowF (Xol _) id⟩,?_⟩|refine ⟨⟨_,_,rfl,rfl,.rowF (XnX _) id⟩,?_⟩|refine ⟨⟨_,_,rfl,rfl,.rowF (Xog (by first|exact XbE|exact Xbo|exact XbG|exact XaS|exact XaM|exact XbJ|exact Xa8|exact Xa1|exact Xbr|exact XbF|exact Xa7|exact XbI|exact Xbh|exact XaT|exact XaU|exact Xbc|exact Xa9) _) id⟩,?_⟩|refine ⟨⟨_,_,rfl,rfl,.tyF (Xj4 _ _)⟩,?_⟩|refine ⟨⟨_,_,rfl,rfl,.ty rfl⟩,?_⟩|refine ⟨⟨_,_,rfl,rfl,.cells rfl⟩,?_⟩|refine ⟨⟨_,_,rfl,rfl,.row rfl id⟩,?_⟩|refine ⟨⟨_,_,rfl,rfl,.cr rfl⟩,?_⟩|refine ⟨⟨_,_,rfl,rfl,.rc rfl⟩,?_⟩|refine ⟨⟨_,_,rfl,rfl,.marks⟩,?_⟩|refine ⟨⟨_,_,rfl,rfl,.siter _ _⟩,?_⟩|refine ⟨⟨_,_,rfl,rfl,.loop rfl rfl rfl rfl (by repeat' first|exact trivial|refine ⟨rfl,?_⟩) rfl rfl rfl rfl⟩,?_⟩) (hH:reH (XaD m) H H':=by repeat' first|exact trivial|refine ⟨⟨_,rfl,rfl⟩,?_⟩|refine ⟨⟨_,_,rfl,rfl,.cellsF (by simp only [Xbk.flatL,XdW];rfl)⟩,?_⟩|refine ⟨⟨_,_,rfl,rfl,.rowF (Xj4 _ _) id⟩,?_⟩|refine ⟨⟨_,_,rfl,rfl,.rowF (Xol _) id⟩,?_⟩|refine ⟨⟨_,_,rfl,rfl,.rowF (XnX _) id⟩,?_⟩|refine ⟨⟨_,_,rfl,rfl,.rowF (Xog (by first|exact XbE|exact Xbo|exact XbG|exact XaS|exact XaM|exact XbJ|exact Xa8|exact Xa1|exact Xbr|exact XbF|exact Xa7|exact XbI|exact Xbh|exact XaT|exact XaU|exact Xbc|exact Xa9) _) id⟩,?_⟩|refine ⟨⟨_,_,rfl,rfl,.tyF (Xj4 _ _)⟩,?_⟩|refine ⟨⟨_,_,rfl,rfl,.ty rfl⟩,?_⟩|refine ⟨⟨_,_,rfl,rfl,.cells rfl⟩,?_⟩|refine ⟨⟨_,_,rfl,rfl,.row rfl id⟩,?_⟩|refine ⟨⟨_,_,rfl,rfl,.cr rfl⟩,?_⟩|refine ⟨⟨_,_,rfl,rfl,.rc rfl⟩,?_⟩|refine ⟨⟨_,_,rfl,rfl,.marks⟩,?_⟩|refine ⟨⟨_,_,rfl,rfl,.siter _ _⟩,?_⟩|refine ⟨⟨_,_,rfl,rfl,.loop rfl rfl rfl rfl (by repeat' first|exact trivial|refine ⟨rfl,?_⟩) rfl rfl rfl rfl⟩,?_⟩)
 (ht:XDE (XaD m) todo'=some todo:=by rfl) (hd:XEo (XaD m) ds'=some ds:=by rfl) (hu:reU (XaD m) up up':=by trivial) :
 XaF P f base ⟨⟨fn,nt,e,todo,ds,ret,none⟩,up,H,top⟩ R:=XaF.re h m hc he hH ht hd hu
theorem XEx {P:Program} {f base fn nt:Nat} {e e':Env} {todo todo':List Xgo} {ds ds':List Nat} {ret:Bool} {up up':List XbN} {H H':Hp} {top top':Nat} {R:Value→Hp→Nat→Prop}
 (h:XaF P f base ⟨⟨fn,nt,e',todo',ds',ret,none⟩,up',H',top'⟩ R) (m:List (Nat×Nat)) (hc:XBG base top' m=true) (he:reE (XaD m) e e':=by repeat' first|exact trivial|refine ⟨⟨_,rfl,rfl⟩,?_⟩|refine ⟨⟨_,_,rfl,rfl,.cellsF (by simp only [Xbk.flatL,XdW];rfl)⟩,?_⟩|refine ⟨⟨_,_,rfl,rfl,.rowF (Xj4 _ _) id⟩,?_⟩|refine ⟨⟨_,_,rfl,rfl,.rowF (Xol _) id⟩,?_⟩|refine ⟨⟨_,_,rfl,rfl,.rowF (XnX _) id⟩,?_⟩|refine ⟨⟨_,_,rfl,rfl,.rowF (Xog (by first|exact XbE|exact Xbo|exact XbG|exact XaS|exact XaM|exact XbJ|exact Xa8|exact Xa1|exact Xbr|exact XbF|exact Xa7|exact XbI|exact Xbh|exact XaT|exact XaU|exact Xbc|exact Xa9) _) id⟩,?_⟩|refine ⟨⟨_,_,rfl,rfl,.tyF (Xj4 _ _)⟩,?_⟩|refine ⟨⟨_,_,rfl,rfl,.ty rfl⟩,?_⟩|refine ⟨⟨_,_,rfl,rfl,.cells rfl⟩,?_⟩|refine ⟨⟨_,_,rfl,rfl,.row rfl id⟩,?_⟩|refine ⟨⟨_,_,rfl,rfl,.cr rfl⟩,?_⟩|refine ⟨⟨_,_,rfl,rfl,.rc rfl⟩,?_⟩|refine ⟨⟨_,_,rfl,rfl,.marks⟩,?_⟩|refine ⟨⟨_,_,rfl,rfl,.siter _ _⟩,?_⟩|refine ⟨⟨_,_,rfl,rfl,.loop rfl rfl rfl rfl (by repeat' first|exact trivial|refine ⟨rfl,?_⟩) rfl rfl rfl rfl⟩,?_⟩) (hH:reH (XaD m) H H':=by repeat' first|exact trivial|refine ⟨⟨_,rfl,rfl⟩,?_⟩|refine ⟨⟨_,_,rfl,rfl,.cellsF (by simp only [Xbk.flatL,XdW];rfl)⟩,?_⟩|refine ⟨⟨_,_,rfl,rfl,.rowF (Xj4 _ _) id⟩,?_⟩|refine ⟨⟨_,_,rfl,rfl,.rowF (Xol _) id⟩,?_⟩|refine ⟨⟨_,_,rfl,rfl,.rowF (XnX _) id⟩,?_⟩|refine ⟨⟨_,_,rfl,rfl,.rowF (Xog (by first|exact XbE|exact Xbo|exact XbG|exact XaS|exact XaM|exact XbJ|exact Xa8|exact Xa1|exact Xbr|exact XbF|exact Xa7|exact XbI|exact Xbh|exact XaT|exact XaU|exact Xbc|exact Xa9) _) id⟩,?_⟩|refine ⟨⟨_,_,rfl,rfl,.tyF (Xj4 _ _)⟩,?_⟩|refine ⟨⟨_,_,rfl,rfl,.ty rfl⟩,?_⟩|refine ⟨⟨_,_,rfl,rfl,.cells rfl⟩,?_⟩|refine ⟨⟨_,_,rfl,rfl,.row rfl id⟩,?_⟩|refine ⟨⟨_,_,rfl,rfl,.cr rfl⟩,?_⟩|refine ⟨⟨_,_,rfl,rfl,.rc rfl⟩,?_⟩|refine ⟨⟨_,_,rfl,rfl,.marks⟩,?_⟩|refine ⟨⟨_,_,rfl,rfl,.siter _ _⟩,?_⟩|refine ⟨⟨_,_,rfl,rfl,.loop rfl rfl rfl rfl (by repeat' first|exact trivial|refine ⟨rfl,?_⟩) rfl rfl rfl rfl⟩,?_⟩)
 (ht:XDE (XaD m) todo'=some todo:=by rfl) (hd:XEo (XaD m) ds'=some ds:=by rfl) (hu:reU (XaD m) up up':=by repeat' first|exact trivial|refine ⟨⟨rfl,rfl,rfl,rfl,rfl,?_,rfl,rfl⟩,?_⟩|refine ⟨⟨_,rfl,rfl⟩,?_⟩) :
 XaF P f base ⟨⟨fn,nt,e,todo,ds,ret,none⟩,up,H,top⟩ R:=XaF.re h m hc he hH ht hd hu
def Xib (n1:Int):Option (Sum Int Int):=
 cond (decide (n1>65535))
  (
  let t:=wI .i64 ((XnS .i64 n1 65535)+(n1.fdiv (2^16)))
  some (.inl t))
  (
  some (.inr (n1)))
def XkK (n:Int):Option Int:=
 iter (fun st=>Xib st) FUEL n
def XwT (x:Int):XcU:=⟨.int .i64 x,[],[]⟩
abbrev Xex:=Int→Option Int
def r165 (g:Xex):Dec:=dV (asI .i64) fun (y0:Int)=>Xd2 (ofG (g y0) XwT)
theorem XU7 {g:Xex} {y0:Int} {x:Int} (hx:g y0=some x):r165 g [.int .i64 y0] []=some (XwT x):=(XaO (Xen _)).trans (XaN hx)
def s165 (g:Xex):XbC:=⟨[.v],r165 g⟩
theorem XAf {g:Xex} {y0:Int} {x:Int} (hx:g y0=some x):(s165 g).run [.int .i64 y0] []=some (XwT x):=XU7 hx
abbrev XAo:List (Nat×XbC):=[]
def XlG (n1:Int):VM:=
 ⟨⟨165,11,[(0,.int .i64 n1)],[.code XyQ,.inLoop XyQ,.inBlock 0,.code XAw],[],false,none⟩,[],[],0⟩
theorem XAi (hS:Xak Tryz.prog (XaD (XAo))) (res:Int):∀ fuel (st:Int) (o:Int),iter (fun st=>Xib st) fuel st=some o→(o=res) →
 XaF Tryz.prog 165 0 (XlG st) (fun v H _=>Res 0 (XwT res) v H):=by
 intro fuel st o h hc
 refine Xdh (head:=fun st=>XlG st) (C:=fun o=>(o=res)) ?_ fuel st o h hc
 clear h hc o st fuel
 intro n1 o h hc
 replace h:Xib n1=some o:=h
 show XaF Tryz.prog 165 0 (XlG n1) (fun v H _=>Res 0 (XwT res) v H)
 unfold Xib at h
 refine Xa4 XaC hS true 3000 ?_
 conv=>whnf
 refine br.h2 h (by rfl) ?_ ?_
 ·clear h;intro hb h;conv=>whnf
  exact W
 clear h;intro hb h;conv=>whnf
 let t:Int:=wI .i64 ((XnS .i64 n1 65535)+(n1.fdiv (2^16)))
 cases h;simp only [Sum.elim_inl,XlG] at hc
 exact Xmt hc [] rfl
theorem XB1 (hS:Xak Tryz.prog (XaD (XAo))) (n:Int) (res:Int) (h:XkK n=some res) :
 XaF Tryz.prog 165 0 ⟨⟨165,11,[(0,.int .i64 n)],[.code XAt],[],false,none⟩,[],[],0⟩ (fun v H _=>Res 0 (XwT res) v H):=by
 unfold XkK at h
 refine Xa4 XaC hS true 3000 ?_
 conv=>whnf
 have hl:=XAi hS res _ _ _ h rfl;simp only [XlG] at hl
 exact Xmt hl [] rfl
def XcM:Xex:=XkK
theorem XOc:XbD Tryz.prog 165 (s165 XcM):=by
 have hL:=XB1 (Xak.XaJ trivial)
 exact okA ⟨Tryz.f165,rfl,by decide,rfl⟩
def XhJ (XcM:Xex) (s:List UInt8) (xat:Int) (n:Int):Option (Sum (Int×Int) Int):=
 cond (decide (xat<(s.length:Int)))
  (
  Xbn (decide (0≤xat)) <|
  (s[xat.toNat]?).bind fun (b:UInt8)=>
  let t:=wI .i64 ((wI .i64 (b.toNat:Int))*2^8)
  let t1:=decide ((wI .i64 (xat+1))<(s.length:Int))
  cond (t1)
   (
   Xbn (decide (0≤(wI .i64 (xat+1)))) <|
   (s[(wI .i64 (xat+1)).toNat]?).bind fun (b1:UInt8)=>
   let t2:=wI .i64 (n+(XlO .i64 t (wI .i64 (b1.toNat:Int))))
   (XcM t2).bind fun f=>
   some (.inl (wI .i64 (xat+2),f)))
   (
   (XcM (wI .i64 (n+t))).bind fun f1=>
   some (.inl (wI .i64 (xat+2),f1))))
  (
  some (.inr (n)))
def Xme (XcM:Xex) (s:List UInt8):Option Int:=
 iter (fun st=>XhJ XcM s st.1 st.2) FUEL (0,0)
def XwU (x:Int):XcU:=⟨.int .i64 x,[],[]⟩
abbrev XeC:=(List UInt8)→Option Int
def r130 (g:XeC):Dec:=dV asS fun (y0:List UInt8)=>Xd2 (ofG (g y0) XwU)
theorem XTb {g:XeC} {y0:List UInt8} {x:Int} (hx:g y0=some x):r130 g [.string ⟨⟨y0⟩⟩] []=some (XwU x):=(XaO (Xd3)).trans (XaN hx)
def s130 (g:XeC):XbC:=⟨[.v],r130 g⟩
theorem Xx0 {g:XeC} {y0:List UInt8} {x:Int} (hx:g y0=some x):(s130 g).run [.string ⟨⟨y0⟩⟩] []=some (XwU x):=XTb hx
abbrev Xy9 (XcM:Xex):List (Nat×XbC):=[(165,s165 XcM)]
def Xkl (s:List UInt8) (xat:Int) (n:Int):VM:=
 ⟨⟨189,32,[(0,.func (.yield 3) #[] #[]),(1,.pointer (some ⟨1,0,none⟩)),(3,.int .i64 xat)],[.code XuG,.inLoop XuG,.inBlock 0],[],false,none⟩,[⟨130,13,[(3,.pointer (some ⟨0,0,none⟩))],[.inRangeFunc 3,.inBlock 0,.code Xx9],[2],false,none⟩],[(0,.cells [.int .i64 n]),(1,.cells [.string ⟨⟨s⟩⟩]),(2,.marks),(3,.loop ⟨.ready,none,130,13,[(3,.pointer (some ⟨0,0,none⟩))],[7],XH6,XIV,2⟩)],4⟩
theorem Xxt (XcM:Xex) (hS:Xak Tryz.prog (XaD (Xy9 XcM))) (s:List UInt8) (res:Int):∀ fuel (st:Int×Int) (o:Int),iter (fun st=>XhJ XcM s st.1 st.2) fuel st=some o→(o=res) →
 XaF Tryz.prog 130 0 (Xkl s st.1 st.2) (fun v H _=>Res 0 (XwU res) v H):=by
 intro fuel st o h hc
 refine Xdh (head:=fun st=>Xkl s st.1 st.2) (C:=fun o=>(o=res)) ?_ fuel st o h hc
 clear h hc o st fuel
 intro st o h hc
 obtain ⟨xat,n⟩:=st
 replace h:XhJ XcM s xat n=some o:=h
 show XaF Tryz.prog 130 0 (Xkl s xat n) (fun v H _=>Res 0 (XwU res) v H)
 unfold XhJ at h
 refine Xa4 XaC hS true 3000 ?_
 conv=>whnf
 refine br.h2 h (by rfl) ?_ ?_
 ·clear h;intro hb h;conv=>whnf
  exact W
 clear h;intro hb h;conv=>whnf
 replace h:=Xbn.elim h;obtain ⟨hb,h⟩:=h
 try (refine req.intro hb ?_;conv=>whnf)
 replace h:=Xdy.elim h;obtain ⟨b,hy,h⟩:=h
 refine rdS.intro hy ?_
 conv=>whnf
 let t:Int:=wI .i64 ((wI .i64 (b.toNat:Int))*2^8)
 let t1:Bool:=decide ((wI .i64 (xat+1))<(s.length:Int))
 refine br.h2 h (by rfl) ?_ ?_
 ·clear h;intro hb h;conv=>whnf
  replace h:=Xdy.elim h;obtain ⟨f1,hy,h⟩:=h
  refine Xg8.a (XAf hy) ?_
  conv=>whnf
  cases h;simp only [Sum.elim_inl,Xkl] at hc
  exact XEx hc [(0,0),(1,1),(2,2),(3,3)] rfl
 clear h;intro hb h;conv=>whnf
 replace h:=Xbn.elim h;obtain ⟨hb,h⟩:=h
 try (refine req.intro hb ?_;conv=>whnf)
 replace h:=Xdy.elim h;obtain ⟨b1,hy,h⟩:=h
 refine rdS.intro hy ?_
 conv=>whnf
 let t2:Int:=wI .i64 (n+(XlO .i64 t (wI .i64 (b1.toNat:Int))))
 replace h:=Xdy.elim h;obtain ⟨f,hy,h⟩:=h
 refine Xg8.a (XAf hy) ?_
 conv=>whnf
 cases h;simp only [Sum.elim_inl,Xkl] at hc
 exact XEx hc [(0,0),(1,1),(2,2),(3,3)] rfl
theorem XGz (XcM:Xex) (hS:Xak Tryz.prog (XaD (Xy9 XcM))) (s:List UInt8) (res:Int) (h:Xme XcM s=some res) :
 XaF Tryz.prog 130 0 ⟨⟨130,13,[(0,.string ⟨⟨s⟩⟩)],[.code XBv],[],false,none⟩,[],[],0⟩ (fun v H _=>Res 0 (XwU res) v H):=by
 unfold Xme at h
 refine Xa4 XaC hS true 3000 ?_
 conv=>whnf
 have hl:=Xxt XcM hS _ res _ _ _ h rfl;simp only [Xkl] at hl
 exact XEx hl [(0,0),(1,1),(2,2),(3,3)] rfl
def XcY:XeC:=Xme XcM
theorem Xzh:XbD Tryz.prog 130 (s130 XcY):=by
 have hL:=XGz XcM (Xak.XaJ ⟨XOc,trivial⟩)
 exact okA ⟨Tryz.f130,rfl,by decide,rfl⟩
end Go.Vm.Code
namespace Go.Vm.Code
open Go Go.Vm
def Xfp:List UInt8→Nat
 | []=>0
 | [b]=>b.toNat*256
 | b::c::l=>b.toNat*256+c.toNat+Xfp l
def norm (n:Nat):Nat:=if n=0 then 0 else (n - 1)%65535+1
theorem norm_eq {n r:Nat} (h1:r≤65535) (h2:r%65535=n%65535) (h3:r=0↔n=0):norm n=r:=by unfold norm;split<;>omega
theorem norm_le (n:Nat):norm n≤65535:=by unfold norm;split<;>omega
theorem Xl4 (n:Nat):norm n%65535=n%65535:=by unfold norm;split<;>omega
theorem Xkp (n:Nat):norm n=0↔n=0:=by unfold norm;split<;>omega
theorem Xp5 {n:Nat} (h:n≤65535):norm n=n:=norm_eq h rfl Iff.rfl
theorem XvU (a b:Nat):norm (norm a+b)=norm (a+b):=
 (norm_eq (norm_le _) (by have h1:=Xl4 a;have h2:=Xl4 (norm a+b);omega) (by have h1:=Xkp a;have h2:=Xkp (norm a+b);omega)).symm
theorem fold_eq {n:Int} (h0:0≤n) (h1:n<2^62):XcM n=some ((norm n.toNat:Nat):Int):=by
 unfold XcM XkK
 refine iter_eq (fun n=>((norm n.toNat:Nat):Int)) (fun n=>0≤n∧n<2^62) (fun n=>n.toNat) ?_ FUEL _ ⟨h0,h1⟩ (by rw [XgO];omega)
 intro s ⟨a,b⟩
 unfold Xib
 by_cases hs:s>65535
 ·refine .inr ⟨s%65536+s/65536,?_,⟨by omega,by omega⟩,by omega,?_⟩
  ·rw [XaP hs,Xju (m:=65535) 16 (by decide) (by decide) a (by omega),Xtq,XdY (by omega) (by omega)];rfl
  ·have:norm (s%65536+s/65536).toNat=norm s.toNat:=
    (norm_eq (norm_le _) (by have:=Xl4 (s%65536+s/65536).toNat;omega) (by have:=Xkp (s%65536+s/65536).toNat;omega)).symm
   rw [this]
 ·refine .inl ?_
  rw [XaI hs]
  have:=Xp5 (n:=s.toNat) (by omega)
  simp only [this]
  rw [Int.toNat_of_nonneg a]
theorem XGs {s:List UInt8} {i:Nat} (h:i+1<s.length):Xfp (s.drop i)=s[i].toNat*256+s[i+1].toNat+Xfp (s.drop (i+2)):=by
 rw [List.drop_eq_getElem_cons (by omega:i<s.length),List.drop_eq_getElem_cons h];rfl
theorem XHi {s:List UInt8} {i:Nat} (h:i+1=s.length):Xfp (s.drop i)=s[i].toNat*256:=by
 rw [List.drop_eq_getElem_cons (by omega:i<s.length),List.drop_eq_nil_of_le (by omega)];rfl
theorem XsE {s:List UInt8} {i:Nat} (h:s.length≤i):Xfp (s.drop i)=0:=by
 rw [List.drop_eq_nil_of_le h];rfl
theorem XIv (s:List UInt8) (h:s.length<2^61):XcY s=some ((norm (Xfp s):Nat):Int):=by
 unfold XcY Xme
 have key:=iter_eq (step:=fun (st:Int×Int)=>XhJ XcM s st.1 st.2) (fun (st:Int×Int)=>((norm (st.2.toNat+Xfp (s.drop st.1.toNat)):Nat):Int)) (fun (st:Int×Int)=>0≤st.1∧st.1≤s.length+1∧0≤st.2∧st.2≤65535) (fun (st:Int×Int)=>(s.length+2 - st.1).toNat) ?_ FUEL (0,0) ⟨by simp,by simp;omega,by simp,by simp⟩ (by rw [XgO];simp only;omega)
 ·rw [key];simp
 rintro ⟨p,n⟩ ⟨h1,h2,h3,h4⟩
 simp only at h1 h2 h3 h4 ⊢
 obtain ⟨i,rfl⟩:=Int.eq_ofNat_of_zero_le h1
 obtain ⟨m,rfl⟩:=Int.eq_ofNat_of_zero_le h3
 unfold XhJ
 by_cases hp:i<s.length
 ·by_cases hq:i+1<s.length
  ·have b1:=s[i].toNat_lt
   have b2:=s[i+1].toNat_lt
   refine .inr ⟨(((i+2:Nat):Int),((norm (m+(s[i].toNat*256+s[i+1].toNat)):Nat):Int)),?_,⟨by simp only;omega,by simp only;omega,by simp only;omega,by simp only;have:=norm_le (m+(s[i].toNat*256+s[i+1].toNat));omega⟩,by simp only;omega,?_⟩
   ·simp (disch:=omega) only [XdY,Xat,XaP]
    have e:((i:Int)+1).toNat=i+1:=by omega
    rw [e]
    simp (disch:=omega) only [Int.toNat_natCast,List.getElem?_eq_getElem,Option.bind_some,XqI,XdY,fold_eq]
    congr 3<;>omega
   ·simp only [Int.toNat_natCast]
    rw [XvU,XGs hq,Nat.add_assoc]
  ·have b1:=s[i].toNat_lt
   refine .inr ⟨(((i+2:Nat):Int),((norm (m+s[i].toNat*256):Nat):Int)),?_,⟨by simp only;omega,by simp only;omega,by simp only;omega,by simp only;have:=norm_le (m+s[i].toNat*256);omega⟩,by simp only;omega,?_⟩
   ·simp (disch:=omega) only [XdY,Xat,XaP,XaI,Int.toNat_natCast,List.getElem?_eq_getElem,Option.bind_some,fold_eq]
    congr 3<;>omega
   ·simp only [Int.toNat_natCast]
    rw [XvU,XsE (i:=i+2) (by omega),Nat.add_zero,XHi (i:=i) (by omega)]
 ·refine .inl ?_
  simp (disch:=omega) only [XaI]
  simp only [Int.toNat_natCast]
  rw [XsE (by omega),Nat.add_zero,Xp5 (by omega)]
theorem Xgd:∀ (a b:List UInt8),a.length%2=0→Xfp (a++b)=Xfp a+Xfp b
 | [],b,_=>by simp [Xfp]
 | [_],b,h=>by simp at h
 | x::y::a,b,h=>by
   have:=Xgd a b (by simp at h;omega)
   simp only [List.cons_append,Xfp,this];omega
end Go.Vm.Code
namespace Go.Vm
open Go
def be (n:Nat):Nat→List UInt8
 | 0=>[]
 | r+1=>UInt8.ofNat (n/256^r)::be n r
def Xfy (l:List UInt8):Nat:=l.foldl (fun n b=>n*256+b.toNat) 0
@[simp] theorem Xe4 (n:Nat):∀ k,(be n k).length=k
 | 0=>rfl
 | k+1=>by simp [be,Xe4 n k]
theorem XmU (n:Nat):∀ k,be n (k+1)=be (n/256) k++[UInt8.ofNat n]
 | 0=>by simp [be]
 | k+1=>by
   rw [be,XmU n k,be,Nat.div_div_eq_div_mul,Nat.pow_succ,Nat.mul_comm 256];rfl
theorem XqH (n:Nat):∀ k,be (n%256^k) k=be n k
 | 0=>rfl
 | k+1=>by
   rw [XmU,XmU,Nat.pow_succ,Nat.mul_comm,Nat.mod_mul_right_div_self,XqH (n/256) k]
   congr 2
   apply UInt8.toNat_inj.1
   simp only [UInt8.toNat_ofNat']
   rw [Nat.mod_mul_right_mod]
theorem XsW (l:List UInt8):∀ n:Nat,l.foldl (fun n b=>n*256+b.toNat) n=n*256^l.length+Xfy l:=by
 induction l with
 | nil=>intro n;simp [Xfy]
 | cons b l ih=>
   intro n
   rw [Xfy,List.foldl_cons,ih,List.foldl_cons,ih,List.length_cons,Nat.pow_succ]
   rw [Nat.zero_mul,Nat.zero_add,Nat.add_mul,Nat.mul_assoc,Nat.mul_comm (256^_) 256,Nat.add_assoc]
@[simp] theorem XPh:Xfy []=0:=rfl
theorem Xhl (b:UInt8) (l:List UInt8):Xfy (b::l)=b.toNat*256^l.length+Xfy l:=by
 rw [Xfy,List.foldl_cons,XsW];simp
theorem val_append (l m:List UInt8):Xfy (l++m)=Xfy l*256^m.length+Xfy m:=by
 rw [Xfy,List.foldl_append,XsW];rfl
theorem XHp (l:List UInt8) (b:UInt8):Xfy (l++[b])=Xfy l*256+b.toNat:=by
 rw [val_append];simp [Xhl]
theorem Xtl:∀ l:List UInt8,Xfy l<256^l.length
 | []=>by simp
 | b::l=>by
   have h:=Xtl l
   have hb:=b.toNat_lt
   rw [Xhl,List.length_cons,Nat.pow_succ]
   have:b.toNat*256^l.length+256^l.length≤256*256^l.length:=by
    rw [←Nat.succ_mul];exact Nat.mul_le_mul_right _ (by omega)
   rw [Nat.mul_comm (256^l.length)];omega
theorem Xs4 (n:Nat):∀ k,Xfy (be n k)=n%256^k
 | 0=>by simp [be,Nat.mod_one]
 | k+1=>by
   have e:n%256^(k+1)=n%256+256*(n/256%256^k):=by rw [Nat.pow_succ',Nat.mod_mul]
   rw [XmU,XHp,Xs4 (n/256) k,UInt8.toNat_ofNat',e]
   generalize n/256%256^k=x
   omega
theorem XjE {n k:Nat} (h:n<256^k):Xfy (be n k)=n:=by rw [Xs4,Nat.mod_eq_of_lt h]
theorem XIQ:∀ l:List UInt8,be (Xfy l) l.length=l
 | []=>rfl
 | b::l=>by
   have h:=Xtl l
   rw [List.length_cons,be]
   have e1:Xfy (b::l)/256^l.length=b.toNat:=by
    rw [Xhl,Nat.mul_comm,Nat.mul_add_div (Nat.pow_pos (by decide)),Nat.div_eq_of_lt h,Nat.add_zero]
   have e2:be (Xfy (b::l)) l.length=be (Xfy l) l.length:=by
    rw [←XqH (Xfy (b::l)),Xhl,Nat.mul_add_mod',XqH]
   rw [e1,e2,XIQ l]
   simp
theorem XPn {l:List UInt8} {k:Nat} (h:l.length=k):be (Xfy l) k=l:=by subst h;exact XIQ l
theorem be_of {l:List UInt8} {n k:Nat} (h:l.length=k) (hv:Xfy l=n):be n k=l:=by subst hv;exact XPn h
theorem Xfo {l:List UInt8} {k:Nat} (n:Nat) (h:256^k≤n):Xfy (l.take k)<n:=by
 have h1:=Xtl (l.take k)
 have h2:(l.take k).length≤k:=List.length_take_le _ _
 exact Nat.lt_of_lt_of_le h1 (Nat.le_trans (Nat.pow_le_pow_right (by decide) h2) h)
theorem Xo0 (n:Nat) (j:Nat):∀ k,be n (j+k)=be (n/256^k) j++be n k
 | 0=>by simp [be]
 | k+1=>by
   rw [show j+(k+1)=(j+k)+1 from rfl,XmU,Xo0 (n/256) j k,XmU n k,Nat.div_div_eq_div_mul,Nat.pow_succ,Nat.mul_comm (256^k),List.append_assoc]
end Go.Vm
namespace Go.Vm.Code
open Go Go.Vm Go.Proofs
set_option maxRecDepth 100000
set_option maxHeartbeats 4000000
set_option linter.unusedVariables false
def Xhx (n:Int) (k:Int) (t17:Int) (b:List Int):Option (Sum (Int×(List Int)) (List UInt8)):=
 cond (decide (t17<(k.toNat:Int)))
  (
  let t:=wI .i64 (8*(wI .i64 ((wI .i64 (k - 1)) - t17)))
  Xbn (decide (0≤t)) <|
  Xbn (decide ((0:Int)≤t17∧t17<(k.toNat:Int))) <|
  Xbn (decide (t17.toNat<b.length)) <|
  let row:=b.set t17.toNat (wI .u8 (n.fdiv (2^(min t.toNat 64))))
  some (.inl (wI .i64 (t17+1),row)))
  (
  Xbn (decide (k.toNat≤b.length)) <|
  some (.inr (iB (b.take k.toNat))))
def Xl2 (n:Int) (k:Int):Option (List UInt8):=
 cond (decide (k<1))
  (
  some ([]))
  (
  cond (decide (k>8))
   (
   some ([]))
   (
   Xbn (decide (0≤k∧k≤k∧k<2^63∧(1:Int)*k≤2^48)) <|
   iter (fun st=>Xhx n k st.1 st.2) FUEL (0,List.replicate k.toNat (0))))
def XQh (x:List UInt8):XcU:=⟨.string ⟨⟨x⟩⟩,[],[]⟩
abbrev XaR:=Int→Int→Option (List UInt8)
def r97 (g:XaR):Dec:=dV (asI .u64) fun (y0:Int)=>dV (asI .i64) fun (y1:Int)=>Xd2 (ofG (g y0 y1) XQh)
theorem r97_c {g:XaR} {y0:Int} {y1:Int} {x:List UInt8} (hx:g y0 y1=some x):r97 g [.int .u64 y0,.int .i64 y1] []=some (XQh x):=(XaO (Xen _)).trans ((XaO (Xen _)).trans (XaN hx))
def s97 (g:XaR):XbC:=⟨[.v,.v],r97 g⟩
theorem Xle {g:XaR} {y0:Int} {y1:Int} {x:List UInt8} (hx:g y0 y1=some x):(s97 g).run [.int .u64 y0,.int .i64 y1] []=some (XQh x):=r97_c hx
abbrev XIj:List (Nat×XbC):=[]
def Xno (n:Int) (k:Int) (t17:Int) (b:List Int):VM:=
 ⟨⟨97,34,[(0,.int .u64 n),(1,.int .i64 k),(5,.slice (some ⟨0,0,none⟩) k.toNat 1),(16,.int .i64 (k.toNat:Int)),(17,.int .i64 t17)],[.code Xza,.inLoop Xza,.inBlock 0,.code XIo],[],false,none⟩,[],[(0,.row true (vI .u8 b))],1⟩
theorem XEy (hS:Xak Tryz.prog (XaD (XIj))) (n:Int) (k:Int) (res:List UInt8):∀ fuel (st:Int×(List Int)) (o:List UInt8),iter (fun st=>Xhx n k st.1 st.2) fuel st=some o→(o=res) →
 XaF Tryz.prog 97 0 (Xno n k st.1 st.2) (fun v H _=>Res 0 (XQh res) v H):=by
 intro fuel st o h hc
 refine Xdh (head:=fun st=>Xno n k st.1 st.2) (C:=fun o=>(o=res)) ?_ fuel st o h hc
 clear h hc o st fuel
 intro st o h hc
 obtain ⟨t17,b⟩:=st
 replace h:Xhx n k t17 b=some o:=h
 show XaF Tryz.prog 97 0 (Xno n k t17 b) (fun v H _=>Res 0 (XQh res) v H)
 unfold Xhx at h
 refine Xa4 XaC hS true 3000 ?_
 conv=>whnf
 refine br.h2 h (by rfl) ?_ ?_
 ·clear h;intro hb h;conv=>whnf
  replace h:=Xbn.elim h;obtain ⟨hb,h⟩:=h
  refine req.intro (by (first|rfl|(simp [wI,vI,vB,vS,bI,Xil,Xe6,XaV,Value.cells] at *;omega)|(simp [vI,vB,vS,bI,Xil,Xe6,XaV,Value.cells] at *;omega)|(simp [vI,vB,vS,bI,Xil,Xe6,XaV,Value.cells] at *;done))) ?_
  conv=>whnf
  refine XWC ?_
  conv=>whnf
  exact W
 clear h;intro hb h;conv=>whnf
 let t:Int:=wI .i64 (8*(wI .i64 ((wI .i64 (k - 1)) - t17)))
 replace h:=Xbn.elim h;obtain ⟨hb,h⟩:=h
 try (refine req.intro hb ?_;conv=>whnf)
 replace h:=Xbn.elim h;obtain ⟨hb,h⟩:=h
 try (refine req.intro hb ?_;conv=>whnf)
 replace h:=Xbn.elim h;obtain ⟨hb,h⟩:=h
 refine st_I hb (by first|rfl|(rw [Nat.zero_add,Nat.mul_one];try rfl;done)|omega) ?_
 conv=>whnf
 let row:List Int:=b.set t17.toNat (wI .u8 (n.fdiv (2^(min t.toNat 64))))
 cases h;simp only [Sum.elim_inl,Xno] at hc
 exact Xmt hc [(0,0)] rfl
theorem XJS (hS:Xak Tryz.prog (XaD (XIj))) (n:Int) (k:Int) (res:List UInt8) (h:Xl2 n k=some res) :
 XaF Tryz.prog 97 0 ⟨⟨97,34,[(0,.int .u64 n),(1,.int .i64 k)],[.code XIF],[],false,none⟩,[],[],0⟩ (fun v H _=>Res 0 (XQh res) v H):=by
 unfold Xl2 at h
 refine Xa4 XaC hS true 3000 ?_
 conv=>whnf
 refine br.h h (by rfl) ?_ ?_
 ·clear h;intro hb h;conv=>whnf
  exact W
 clear h;intro hb h;conv=>whnf
 refine br.h h (by rfl) ?_ ?_
 ·clear h;intro hb h;conv=>whnf
  exact W
 clear h;intro hb h;conv=>whnf
 replace h:=Xbn.elim h;obtain ⟨hb,h⟩:=h
 try (refine req.intro hb ?_;conv=>whnf)
 refine XRl ?_
 conv=>whnf
 have hl:=XEy hS _ _ res _ _ _ h rfl;simp only [Xno] at hl
 exact Xmt hl [(0,0)] rfl
def Xaj:XaR:=Xl2
theorem XnL:XbD Tryz.prog 97 (s97 Xaj):=by
 have hL:=XJS (Xak.XaJ trivial)
 exact okA ⟨Tryz.f97,rfl,by decide,rfl⟩
def Xhw (t1:List UInt8) (n:Int) (t37:Int):Option (Sum (Int×Int) (Int×Bool)):=
 cond (decide (t37<(t1.length:Int)))
  (
  Xbn (decide ((0:Int)≤t37∧t37<(t1.length:Int))) <|
  ((bI t1)[t37.toNat]?).bind fun (e:Int)=>
  let t2:=XlO .u64 (wI .u64 (n*2^8)) (wI .u64 e)
  some (.inl (t2,wI .i64 (t37+1))))
  (
  some (.inr ((n,true))))
def Xml (s:List UInt8) (ata1:Int) (k:Int):Option (Int×Bool):=
 cond (decide (k<1))
  (
  some ((0,false)))
  (
  cond (decide (k>8))
   (
   some ((0,false)))
   (
   cond (decide (ata1<0))
    (
    some ((0,false)))
    (
    let t:=decide ((wI .i64 ((s.length:Int) - k))<ata1)
    cond (t)
     (
     some ((0,false)))
     (
     Xbn (decide ((0:Int)≤(wI .i64 (ata1+k))∧(wI .i64 (ata1+k))≤(s.length:Int)∧(0:Int)≤ata1∧ata1≤((wI .i64 (ata1+k)).toNat:Int))) <|
     let t1:=(s.drop ata1.toNat).take ((wI .i64 (ata1+k)).toNat - ata1.toNat)
     iter (fun st=>Xhw t1 st.1 st.2) FUEL (0,0)))))
def XQk (x:Int×Bool):XcU:=⟨.tuple ⟨[.int .u64 x.1,.bool x.2]⟩,[],[]⟩
abbrev XcP:=(List UInt8)→Int→Int→Option (Int×Bool)
def r95 (g:XcP):Dec:=dV asS fun (y0:List UInt8)=>dV (asI .i64) fun (y1:Int)=>dV (asI .i64) fun (y2:Int)=>Xd2 (ofG (g y0 y1 y2) XQk)
theorem r95_c {g:XcP} {y0:List UInt8} {y1:Int} {y2:Int} {x:Int×Bool} (hx:g y0 y1 y2=some x):r95 g [.string ⟨⟨y0⟩⟩,.int .i64 y1,.int .i64 y2] []=some (XQk x):=(XaO (Xd3)).trans ((XaO (Xen _)).trans ((XaO (Xen _)).trans (XaN hx)))
def s95 (g:XcP):XbC:=⟨[.v,.v,.v],r95 g⟩
theorem XxA {g:XcP} {y0:List UInt8} {y1:Int} {y2:Int} {x:Int×Bool} (hx:g y0 y1 y2=some x):(s95 g).run [.string ⟨⟨y0⟩⟩,.int .i64 y1,.int .i64 y2] []=some (XQk x):=r95_c hx
abbrev XIb:List (Nat×XbC):=[]
def XnP (t1:List UInt8) (n:Int) (t37:Int):VM:=
 ⟨⟨95,48,[(8,.int .u64 n),(35,.slice (some ⟨0,0,none⟩) t1.length 1),(36,.int .i64 (t1.length:Int)),(37,.int .i64 t37)],[.code Xz2,.inLoop Xz2,.inBlock 0,.code XIA],[],false,none⟩,[],[(0,.row true (vI .u8 (bI t1)))],1⟩
theorem XF1 (hS:Xak Tryz.prog (XaD (XIb))) (t1:List UInt8) (res:Int×Bool):∀ fuel (st:Int×Int) (o:Int×Bool),iter (fun st=>Xhw t1 st.1 st.2) fuel st=some o→(o=res) →
 XaF Tryz.prog 95 0 (XnP t1 st.1 st.2) (fun v H _=>Res 0 (XQk res) v H):=by
 intro fuel st o h hc
 refine Xdh (head:=fun st=>XnP t1 st.1 st.2) (C:=fun o=>(o=res)) ?_ fuel st o h hc
 clear h hc o st fuel
 intro st o h hc
 obtain ⟨n,t37⟩:=st
 replace h:Xhw t1 n t37=some o:=h
 show XaF Tryz.prog 95 0 (XnP t1 n t37) (fun v H _=>Res 0 (XQk res) v H)
 unfold Xhw at h
 refine Xa4 XaC hS true 3000 ?_
 conv=>whnf
 refine br.h2 h (by rfl) ?_ ?_
 ·clear h;intro hb h;conv=>whnf
  exact W
 clear h;intro hb h;conv=>whnf
 replace h:=Xbn.elim h;obtain ⟨hb,h⟩:=h
 try (refine req.intro hb ?_;conv=>whnf)
 replace h:=Xdy.elim h;obtain ⟨e,hy,h⟩:=h
 refine rd.I hy (by first|rfl|(rw [Nat.zero_add,Nat.mul_one];try rfl;done)|omega) ?_
 conv=>whnf
 let t2:Int:=XlO .u64 (wI .u64 (n*2^8)) (wI .u64 e)
 cases h;simp only [Sum.elim_inl,XnP] at hc
 exact Xmt hc [(0,0)] rfl
theorem XL9 (hS:Xak Tryz.prog (XaD (XIb))) (s:List UInt8) (ata1:Int) (k:Int) (res:Int×Bool) (h:Xml s ata1 k=some res) :
 XaF Tryz.prog 95 0 ⟨⟨95,48,[(0,.string ⟨⟨s⟩⟩),(1,.int .i64 ata1),(2,.int .i64 k)],[.code XJu],[],false,none⟩,[],[],0⟩ (fun v H _=>Res 0 (XQk res) v H):=by
 unfold Xml at h
 refine Xa4 XaC hS true 3000 ?_
 conv=>whnf
 refine br.h h (by rfl) ?_ ?_
 ·clear h;intro hb h;conv=>whnf
  exact W
 clear h;intro hb h;conv=>whnf
 refine br.h h (by rfl) ?_ ?_
 ·clear h;intro hb h;conv=>whnf
  exact W
 clear h;intro hb h;conv=>whnf
 refine br.h h (by rfl) ?_ ?_
 ·clear h;intro hb h;conv=>whnf
  exact W
 clear h;intro hb h;conv=>whnf
 let t:Bool:=decide ((wI .i64 ((s.length:Int) - k))<ata1)
 refine br.h h (by rfl) ?_ ?_
 ·clear h;intro hb h;conv=>whnf
  exact W
 clear h;intro hb h;conv=>whnf
 replace h:=Xbn.elim h;obtain ⟨hb,h⟩:=h
 try (refine req.intro hb ?_;conv=>whnf)
 let t1:List UInt8:=(s.drop ata1.toNat).take ((wI .i64 (ata1+k)).toNat - ata1.toNat)
 refine XSA ?_
 conv=>whnf
 have hl:=XF1 hS _ res _ _ _ h rfl;simp only [XnP] at hl
 exact Xmt hl [(0,0)] rfl
def Xbd:XcP:=Xml
theorem XzP:XbD Tryz.prog 95 (s95 Xbd):=by
 have hL:=XL9 (Xak.XaJ trivial)
 exact okA ⟨Tryz.f95,rfl,by decide,rfl⟩
def XhT (k:Int) (n1:Int) (s:List UInt8) (i:Int):Option (Sum (Int×(List UInt8)×Int) (List UInt8)):=
 cond (decide (i<k))
  (
  cond (decide (k≤8))
   (
   let t:=[UInt8.ofNat (wI .u8 (n1.tmod 256)).toNat]
   Xbn (decide (t.length+s.length<2^63)) <|
   some (.inl (wI .u64 (n1.tdiv 256),t++s,wI .i64 (i+1))))
   (
   some (.inr (s))))
  (
  some (.inr (s)))
def Xo9 (n:Int) (k:Int):Option (List UInt8):=
 iter (fun st=>XhT k st.1 st.2.1 st.2.2) FUEL (n,[],0)
def XQg (x:List UInt8):XcU:=⟨.string ⟨⟨x⟩⟩,[],[]⟩
abbrev XcD:=Int→Int→Option (List UInt8)
def r63 (g:XcD):Dec:=dV (asI .u64) fun (y0:Int)=>dV (asI .i64) fun (y1:Int)=>Xd2 (ofG (g y0 y1) XQg)
theorem r63_c {g:XcD} {y0:Int} {y1:Int} {x:List UInt8} (hx:g y0 y1=some x):r63 g [.int .u64 y0,.int .i64 y1] []=some (XQg x):=(XaO (Xen _)).trans ((XaO (Xen _)).trans (XaN hx))
def s63 (g:XcD):XbC:=⟨[.v,.v],r63 g⟩
theorem Xtx {g:XcD} {y0:Int} {y1:Int} {x:List UInt8} (hx:g y0 y1=some x):(s63 g).run [.int .u64 y0,.int .i64 y1] []=some (XQg x):=r63_c hx
abbrev XHN:List (Nat×XbC):=[]
def Xne (k:Int) (n1:Int) (s:List UInt8) (i:Int):VM:=
 ⟨⟨63,26,[(0,.int .u64 n1),(1,.int .i64 k),(5,.string ⟨⟨s⟩⟩),(6,.int .i64 i)],[.code XyF,.inLoop XyF,.inBlock 0,.code XJq],[],false,none⟩,[],[],0⟩
theorem XEu (hS:Xak Tryz.prog (XaD (XHN))) (k:Int) (res:List UInt8):∀ fuel (st:Int×(List UInt8)×Int) (o:List UInt8),iter (fun st=>XhT k st.1 st.2.1 st.2.2) fuel st=some o→(o=res) →
 XaF Tryz.prog 63 0 (Xne k st.1 st.2.1 st.2.2) (fun v H _=>Res 0 (XQg res) v H):=by
 intro fuel st o h hc
 refine Xdh (head:=fun st=>Xne k st.1 st.2.1 st.2.2) (C:=fun o=>(o=res)) ?_ fuel st o h hc
 clear h hc o st fuel
 intro st o h hc
 obtain ⟨n1,s,i⟩:=st
 replace h:XhT k n1 s i=some o:=h
 show XaF Tryz.prog 63 0 (Xne k n1 s i) (fun v H _=>Res 0 (XQg res) v H)
 unfold XhT at h
 refine Xa4 XaC hS true 3000 ?_
 conv=>whnf
 refine br.h2 h (by rfl) ?_ ?_
 ·clear h;intro hb h;conv=>whnf
  exact W
 clear h;intro hb h;conv=>whnf
 refine br.h2 h (by rfl) ?_ ?_
 ·clear h;intro hb h;conv=>whnf
  exact W
 clear h;intro hb h;conv=>whnf
 refine XK0 rfl ?_
 conv=>whnf
 let t:List UInt8:=[UInt8.ofNat (wI .u8 (n1.tmod 256)).toNat]
 replace h:=Xbn.elim h;obtain ⟨hb,h⟩:=h
 try (refine req.intro hb ?_;conv=>whnf)
 cases h;simp only [Sum.elim_inl,Xne] at hc
 exact Xmt hc [] rfl
theorem XKv (hS:Xak Tryz.prog (XaD (XHN))) (n:Int) (k:Int) (res:List UInt8) (h:Xo9 n k=some res) :
 XaF Tryz.prog 63 0 ⟨⟨63,26,[(0,.int .u64 n),(1,.int .i64 k)],[.code XIs],[],false,none⟩,[],[],0⟩ (fun v H _=>Res 0 (XQg res) v H):=by
 unfold Xo9 at h
 refine Xa4 XaC hS true 3000 ?_
 conv=>whnf
 have hl:=XEu hS _ res _ _ _ h rfl;simp only [Xne] at hl
 exact Xmt hl [] rfl
def Xbe:XcD:=Xo9
theorem XtJ:XbD Tryz.prog 63 (s63 Xbe):=by
 have hL:=XKv (Xak.XaJ trivial)
 exact okA ⟨Tryz.f63,rfl,by decide,rfl⟩
def Xjs (s:List UInt8) (ata1:Int) (k:Int) (n:Int) (i:Int):Option (Sum (Int×Int) (Int×Bool)):=
 cond (decide (i<k))
  (
  Xbn (decide (0≤(wI .i64 (ata1+i)))) <|
  (s[(wI .i64 (ata1+i)).toNat]?).bind fun (b:UInt8)=>
  let t1:=wI .u64 ((wI .u64 (n*256))+(wI .u64 (b.toNat:Int)))
  some (.inl (t1,wI .i64 (i+1))))
  (
  some (.inr ((n,true))))
def Xpq (s:List UInt8) (ata1:Int) (k:Int):Option (Int×Bool):=
 cond (decide (k<1))
  (
  some ((0,false)))
  (
  cond (decide (k>8))
   (
   some ((0,false)))
   (
   cond (decide (ata1<0))
    (
    some ((0,false)))
    (
    cond (decide (ata1>(s.length:Int)))
     (
     some ((0,false)))
     (
     let t:=decide (k>(wI .i64 ((s.length:Int) - ata1)))
     cond (t)
      (
      some ((0,false)))
      (
      iter (fun st=>Xjs s ata1 k st.1 st.2) FUEL (0,0))))))
def XQm (x:Int×Bool):XcU:=⟨.tuple ⟨[.int .u64 x.1,.bool x.2]⟩,[],[]⟩
abbrev XeK:=(List UInt8)→Int→Int→Option (Int×Bool)
def r87 (g:XeK):Dec:=dV asS fun (y0:List UInt8)=>dV (asI .i64) fun (y1:Int)=>dV (asI .i64) fun (y2:Int)=>Xd2 (ofG (g y0 y1 y2) XQm)
theorem r87_c {g:XeK} {y0:List UInt8} {y1:Int} {y2:Int} {x:Int×Bool} (hx:g y0 y1 y2=some x):r87 g [.string ⟨⟨y0⟩⟩,.int .i64 y1,.int .i64 y2] []=some (XQm x):=(XaO (Xd3)).trans ((XaO (Xen _)).trans ((XaO (Xen _)).trans (XaN hx)))
def s87 (g:XeK):XbC:=⟨[.v,.v,.v],r87 g⟩
theorem XzL {g:XeK} {y0:List UInt8} {y1:Int} {y2:Int} {x:Int×Bool} (hx:g y0 y1 y2=some x):(s87 g).run [.string ⟨⟨y0⟩⟩,.int .i64 y1,.int .i64 y2] []=some (XQm x):=r87_c hx
abbrev XIl:List (Nat×XbC):=[]
def Xnz (s:List UInt8) (ata1:Int) (k:Int) (n:Int) (i:Int):VM:=
 ⟨⟨87,49,[(0,.string ⟨⟨s⟩⟩),(1,.int .i64 ata1),(2,.int .i64 k),(8,.int .u64 n),(9,.int .i64 i)],[.code Xzp,.inLoop Xzp,.inBlock 0,.code XHO],[],false,none⟩,[],[],0⟩
theorem XDp (hS:Xak Tryz.prog (XaD (XIl))) (s:List UInt8) (ata1:Int) (k:Int) (res:Int×Bool):∀ fuel (st:Int×Int) (o:Int×Bool),iter (fun st=>Xjs s ata1 k st.1 st.2) fuel st=some o→(o=res) →
 XaF Tryz.prog 87 0 (Xnz s ata1 k st.1 st.2) (fun v H _=>Res 0 (XQm res) v H):=by
 intro fuel st o h hc
 refine Xdh (head:=fun st=>Xnz s ata1 k st.1 st.2) (C:=fun o=>(o=res)) ?_ fuel st o h hc
 clear h hc o st fuel
 intro st o h hc
 obtain ⟨n,i⟩:=st
 replace h:Xjs s ata1 k n i=some o:=h
 show XaF Tryz.prog 87 0 (Xnz s ata1 k n i) (fun v H _=>Res 0 (XQm res) v H)
 unfold Xjs at h
 refine Xa4 XaC hS true 3000 ?_
 conv=>whnf
 refine br.h2 h (by rfl) ?_ ?_
 ·clear h;intro hb h;conv=>whnf
  exact W
 clear h;intro hb h;conv=>whnf
 replace h:=Xbn.elim h;obtain ⟨hb,h⟩:=h
 try (refine req.intro hb ?_;conv=>whnf)
 replace h:=Xdy.elim h;obtain ⟨b,hy,h⟩:=h
 refine rdS.intro hy ?_
 conv=>whnf
 let t1:Int:=wI .u64 ((wI .u64 (n*256))+(wI .u64 (b.toNat:Int)))
 cases h;simp only [Sum.elim_inl,Xnz] at hc
 exact Xmt hc [] rfl
theorem XKu (hS:Xak Tryz.prog (XaD (XIl))) (s:List UInt8) (ata1:Int) (k:Int) (res:Int×Bool) (h:Xpq s ata1 k=some res) :
 XaF Tryz.prog 87 0 ⟨⟨87,49,[(0,.string ⟨⟨s⟩⟩),(1,.int .i64 ata1),(2,.int .i64 k)],[.code XJr],[],false,none⟩,[],[],0⟩ (fun v H _=>Res 0 (XQm res) v H):=by
 unfold Xpq at h
 refine Xa4 XaC hS true 3000 ?_
 conv=>whnf
 refine br.h h (by rfl) ?_ ?_
 ·clear h;intro hb h;conv=>whnf
  exact W
 clear h;intro hb h;conv=>whnf
 refine br.h h (by rfl) ?_ ?_
 ·clear h;intro hb h;conv=>whnf
  exact W
 clear h;intro hb h;conv=>whnf
 refine br.h h (by rfl) ?_ ?_
 ·clear h;intro hb h;conv=>whnf
  exact W
 clear h;intro hb h;conv=>whnf
 refine br.h h (by rfl) ?_ ?_
 ·clear h;intro hb h;conv=>whnf
  exact W
 clear h;intro hb h;conv=>whnf
 let t:Bool:=decide (k>(wI .i64 ((s.length:Int) - ata1)))
 refine br.h h (by rfl) ?_ ?_
 ·clear h;intro hb h;conv=>whnf
  exact W
 clear h;intro hb h;conv=>whnf
 have hl:=XDp hS _ _ _ res _ _ _ h rfl;simp only [Xnz] at hl
 exact Xmt hl [] rfl
def Xc1:XeK:=Xpq
theorem XxZ:XbD Tryz.prog 87 (s87 Xc1):=by
 have hL:=XKu (Xak.XaJ trivial)
 exact okA ⟨Tryz.f87,rfl,by decide,rfl⟩
def Xnr (Xc1:XeK) (s:List UInt8) (ata1:Int) (k:Int):Option Int:=
 (Xc1 s ata1 k).bind fun xg=>
 some (wI .i64 xg.1)
def rx88 (x:Int):XcU:=⟨.int .i64 x,[],[]⟩
abbrev XbA:=(List UInt8)→Int→Int→Option Int
def r88 (g:XbA):Dec:=dV asS fun (y0:List UInt8)=>dV (asI .i64) fun (y1:Int)=>dV (asI .i64) fun (y2:Int)=>Xd2 (ofG (g y0 y1 y2) rx88)
theorem r88_c {g:XbA} {y0:List UInt8} {y1:Int} {y2:Int} {x:Int} (hx:g y0 y1 y2=some x):r88 g [.string ⟨⟨y0⟩⟩,.int .i64 y1,.int .i64 y2] []=some (rx88 x):=(XaO (Xd3)).trans ((XaO (Xen _)).trans ((XaO (Xen _)).trans (XaN hx)))
def s88 (g:XbA):XbC:=⟨[.v,.v,.v],r88 g⟩
theorem XoB {g:XbA} {y0:List UInt8} {y1:Int} {y2:Int} {x:Int} (hx:g y0 y1 y2=some x):(s88 g).run [.string ⟨⟨y0⟩⟩,.int .i64 y1,.int .i64 y2] []=some (rx88 x):=r88_c hx
abbrev XSr (Xc1:XeK):List (Nat×XbC):=[(87,s87 Xc1)]
theorem XLp (Xc1:XeK) (hS:Xak Tryz.prog (XaD (XSr Xc1))) (s:List UInt8) (ata1:Int) (k:Int) (res:Int) (h:Xnr Xc1 s ata1 k=some res) :
 XaF Tryz.prog 88 0 ⟨⟨88,18,[(0,.string ⟨⟨s⟩⟩),(1,.int .i64 ata1),(2,.int .i64 k)],[.code XUI],[],false,none⟩,[],[],0⟩ (fun v H _=>Res 0 (rx88 res) v H):=by
 unfold Xnr at h
 have R1:=@XzL Xc1
 refine Xa4 XaC hS true 3000 ?_
 conv=>whnf
 exact W
def Xao:XbA:=Xnr Xc1
theorem Xp7:XbD Tryz.prog 88 (s88 Xao):=by
 have hL:=XLp Xc1 (Xak.XaJ ⟨XxZ,trivial⟩)
 exact okA ⟨Tryz.f88,rfl,by decide,rfl⟩
end Go.Vm.Code
namespace Go.Vm.Code
open Go Go.Vm
def XcG (n k:Int):List UInt8:=if 1≤k∧k≤8 then be n.toNat k.toNat else []
theorem Xbt {n k:Int} (h0:0≤n):Xaj n k=some (XcG n k):=by
 unfold Xaj Xl2 XcG
 by_cases h1:k<1
 ·rw [XaP h1,if_neg (by omega)]
 by_cases h2:k>8
 ·rw [XaI h1,XaP h2,if_neg (by omega)]
 rw [XaI h1,XaI h2,Xat (by omega),if_pos (by omega)]
 obtain ⟨m,rfl⟩:=Int.eq_ofNat_of_zero_le h0
 obtain ⟨j,rfl⟩:=Int.eq_ofNat_of_zero_le (show 0≤k by omega)
 have key:=iter_eq (step:=fun (st:Int×List Int)=>Xhx (m:Int) (j:Int) st.1 st.2) (fun st=>iB (st.2.take st.1.toNat)++be m (j - st.1.toNat)) (fun st=>0≤st.1∧st.1≤j∧st.2.length=j) (fun st=>(j - st.1).toNat) ?_ FUEL (0,List.replicate (j:Int).toNat 0) ⟨by simp,by simp,by simp⟩ (by rw [XgO];simp only;omega)
 ·rw [key];simp [iB]
 rintro ⟨p,b⟩ ⟨g1,g2,g3⟩
 simp only at g1 g2 g3 ⊢
 obtain ⟨i,rfl⟩:=Int.eq_ofNat_of_zero_le g1
 unfold Xhx
 by_cases hp:i<j
 ·refine .inr ⟨(((i+1:Nat):Int),b.set i ((m/256^(j - 1 - i)%256:Nat):Int)),?_,⟨by simp only;omega,by simp only;omega,by simp [g3]⟩,by simp only;omega,?_⟩
  ·simp (disch:=omega) only [XdY,Xat,XaP,Int.toNat_natCast]
   have e1:min (8*((j:Int) - 1 - i)).toNat 64=8*(j - 1 - i):=by omega
   have e0:(2:Int)^(8*(j - 1 - i))=((256^(j - 1 - i):Nat):Int):=by rw [show (256:Nat)=2^8 from rfl,←Nat.pow_mul];push_cast;rfl
   rw [e1,Xtq,wU8m,e0]
   rfl
  ·simp only [Int.toNat_natCast]
   have e2:j - i=(j - (i+1))+1:=by omega
   have e3:j - (i+1)=j - 1 - i:=by omega
   have e4:(b.set i ((m/256^(j - 1 - i)%256:Nat):Int)).take (i+1)=b.take i++[((m/256^(j - 1 - i)%256:Nat):Int)]:=by
    rw [List.take_succ_eq_append_getElem (by simp;omega),List.take_set_of_le (Nat.le_refl _),List.getElem_set_self]
   rw [e2,e4,be,e3]
   simp only [iB,List.map_append,List.map_cons,List.map_nil,List.append_assoc,List.cons_append,List.nil_append,Int.toNat_natCast]
   congr 2
   apply UInt8.toNat_inj.1
   simp
 ·refine .inl ?_
  obtain rfl:i=j:=by omega
  simp (disch:=omega) only [XaI,Xat,Int.toNat_natCast]
  simp [be]
theorem Xdi {n k:Int} (h0:0≤n) (h1:n<2^64):Xbe n k=some (XcG n k):=by
 unfold Xbe Xo9 XcG
 obtain ⟨m,rfl⟩:=Int.eq_ofNat_of_zero_le h0
 by_cases hk:1≤k∧k≤8
 ·rw [if_pos hk]
  obtain ⟨j,rfl⟩:=Int.eq_ofNat_of_zero_le (show 0≤k by omega)
  have key:=iter_eq (step:=fun st=>XhT (j:Int) st.1 st.2.1 st.2.2) (fun st=>be st.1.toNat (j - st.2.2.toNat)++st.2.1) (fun st=>0≤st.1∧st.1<2^64∧0≤st.2.2∧st.2.2≤j∧st.2.1.length<2^20+st.2.2.toNat) (fun st=>(j - st.2.2).toNat) ?_ FUEL ((m:Int),[],0) ⟨by simp,by simp only;omega,by simp,by simp,by simp⟩ (by rw [XgO];simp only;omega)
  ·rw [key];simp
  rintro ⟨n,s,p⟩ ⟨g1,g2,g3,g4,g5⟩
  simp only at g1 g2 g3 g4 g5 ⊢
  obtain ⟨i,rfl⟩:=Int.eq_ofNat_of_zero_le g3
  obtain ⟨x,rfl⟩:=Int.eq_ofNat_of_zero_le g1
  unfold XhT
  by_cases hp:i<j
  ·refine .inr ⟨(((x/256:Nat):Int),UInt8.ofNat x::s,((i+1:Nat):Int)),?_,⟨by simp only;omega,by simp only;omega,by simp only;omega,by simp only;omega,by simp at g5 ⊢;omega⟩,by simp only;omega,?_⟩
   ·have e1:(x:Int).tmod 256=((x%256:Nat):Int):=by rw [Int.tmod_eq_emod_of_nonneg (by omega)];rfl
    have e2:(x:Int).tdiv 256=((x/256:Nat):Int):=by rw [Int.tdiv_eq_ediv_of_nonneg (by omega)];rfl
    rw [XaP (by omega),XaP (by omega),e1,e2,wU8 (by omega) (by omega)]
    simp only [List.length_cons,List.length_nil]
    rw [Xat (by omega),Xf7 (by omega) (by omega),XdY (by omega) (by omega),Int.toNat_natCast]
    have e3:UInt8.ofNat (x%256)=UInt8.ofNat x:=by apply UInt8.toNat_inj.1;simp
    rw [e3];rfl
   ·simp only [Int.toNat_natCast]
    have e2:j - i=(j - (i+1))+1:=by omega
    rw [e2,XmU];simp
  ·refine .inl ?_
   obtain rfl:i=j:=by omega
   rw [XaI (by omega)]
   simp [be]
 ·rw [if_neg hk]
  show iter _ (18446744073709551615+1) _=_
  rw [iter]
  have:XhT k (m:Int) [] 0=some (.inr []):=by
   unfold XhT
   by_cases h2:0<k
   ·rw [XaP h2,XaI (by omega)]
   ·rw [XaI h2]
  simp only [this]
def Xxe (s:List UInt8) (p k:Int):Int×Bool:=if 1≤k∧k≤8∧0≤p∧p+k≤s.length then (((Xfy ((s.drop p.toNat).take k.toNat):Nat):Int),true) else (0,false)
theorem XrY {v i:Nat} (h:v<256^i) (hi:i≤7):v<2^56:=Nat.lt_of_lt_of_le h (by
 have:(256:Nat)^i≤256^7:=Nat.pow_le_pow_right (by decide) hi
 simpa using this)
theorem XgG {s:List UInt8} {p k:Int} (hs:s.length<2^61):Xbd s p k=some (Xxe s p k):=by
 unfold Xbd Xml Xxe
 by_cases h1:k<1
 ·rw [XaP h1,if_neg (by omega)]
 by_cases h2:k>8
 ·rw [XaI h1,XaP h2,if_neg (by omega)]
 by_cases h3:p<0
 ·rw [XaI h1,XaI h2,XaP h3,if_neg (by omega)]
 rw [XaI h1,XaI h2,XaI h3,XdY (n:=(s.length:Int) - k) (by omega) (by omega)]
 by_cases h4:(s.length:Int) - k<p
 ·simp only []
  rw [XaP h4,if_neg (by omega)]
 simp only []
 rw [XaI h4,XdY (n:=p+k) (by omega) (by omega),Xat (by omega),if_pos (by omega)]
 obtain ⟨q,rfl⟩:=Int.eq_ofNat_of_zero_le (show 0≤p by omega)
 obtain ⟨j,rfl⟩:=Int.eq_ofNat_of_zero_le (show 0≤k by omega)
 have e:((q:Int)+j).toNat - (q:Int).toNat=j:=by omega
 rw [e]
 simp only [Int.toNat_natCast]
 generalize ht:(s.drop q).take j=t
 have hl:t.length=j:=by rw [←ht];simp;omega
 have key:=iter_eq (step:=fun st=>Xhw t st.1 st.2) (fun st=>(((st.1.toNat*256^(j - st.2.toNat)+Xfy (t.drop st.2.toNat):Nat):Int),true)) (fun st=>0≤st.1∧0≤st.2∧st.2≤j∧st.1.toNat<256^st.2.toNat) (fun st=>(j - st.2).toNat) ?_ FUEL (0,0) ⟨by simp,by simp,by simp,by simp⟩ (by rw [XgO];simp only;omega)
 ·rw [key];simp
 rintro ⟨n,x⟩ ⟨g1,g2,g3,g4⟩
 simp only at g1 g2 g3 g4 ⊢
 obtain ⟨i,rfl⟩:=Int.eq_ofNat_of_zero_le g2
 obtain ⟨v,rfl⟩:=Int.eq_ofNat_of_zero_le g1
 simp only [Int.toNat_natCast] at g4 ⊢
 unfold Xhw
 by_cases hp:i<j
 ·have hlt:i<t.length:=by omega
  have hb:=t[i].toNat_lt
  have hv:=XrY g4 (by omega)
  refine .inr ⟨(((v*256+t[i].toNat:Nat):Int),((i+1:Nat):Int)),?_,⟨by simp only;omega,by simp only;omega,by simp only;omega,?_⟩,by simp only;omega,?_⟩
  ·rw [XaP (by omega),Xat (by omega)]
   have e1:(bI t)[(i:Int).toNat]?=some (t[i].toNat:Int):=by simp [bI,hlt]
   rw [e1,Option.bind_some]
   have e2:XlO .u64 (wI .u64 ((v:Int)*2^8)) (wI .u64 (t[i].toNat:Int))=((v*256+t[i].toNat:Nat):Int):=by
    rw [Xf7 (by omega) (by omega),Xf7 (by omega) (by omega),XgT 8 (by omega) (by omega) (by omega) (by omega) (by omega)];omega
   simp only [e2]
   rw [XdY (by omega) (by omega)];rfl
  ·simp only [Int.toNat_natCast]
   rw [Nat.pow_succ];omega
  ·simp only [Int.toNat_natCast]
   rw [List.drop_eq_getElem_cons hlt,Xhl]
   have e3:(t.drop (i+1)).length=j - (i+1):=by simp;omega
   have e4:j - i=(j - (i+1))+1:=by omega
   rw [e3,e4,Nat.pow_succ,Nat.add_mul,Nat.mul_assoc,Nat.mul_comm 256,Nat.add_assoc]
 ·refine .inl ?_
  obtain rfl:i=j:=by omega
  rw [XaI (by omega)]
  simp [←hl]
theorem Xkm {s:List UInt8} {p k:Int} (hs:s.length<2^61):Xc1 s p k=some (Xxe s p k):=by
 unfold Xc1 Xpq Xxe
 by_cases h1:k<1
 ·rw [XaP h1,if_neg (by omega)]
 by_cases h2:k>8
 ·rw [XaI h1,XaP h2,if_neg (by omega)]
 by_cases h3:p<0
 ·rw [XaI h1,XaI h2,XaP h3,if_neg (by omega)]
 by_cases h5:p>s.length
 ·rw [XaI h1,XaI h2,XaI h3,XaP h5,if_neg (by omega)]
 rw [XaI h1,XaI h2,XaI h3,XaI h5,XdY (n:=(s.length:Int) - p) (by omega) (by omega)]
 by_cases h4:k>(s.length:Int) - p
 ·simp only []
  rw [XaP h4,if_neg (by omega)]
 simp only []
 rw [XaI h4,if_pos (by omega)]
 obtain ⟨q,rfl⟩:=Int.eq_ofNat_of_zero_le (show 0≤p by omega)
 obtain ⟨j,rfl⟩:=Int.eq_ofNat_of_zero_le (show 0≤k by omega)
 simp only [Int.toNat_natCast]
 generalize ht:(s.drop q).take j=t
 have hl:t.length=j:=by rw [←ht];simp;omega
 have key:=iter_eq (step:=fun st=>Xjs s (q:Int) (j:Int) st.1 st.2) (fun st=>(((st.1.toNat*256^(j - st.2.toNat)+Xfy (t.drop st.2.toNat):Nat):Int),true)) (fun st=>0≤st.1∧0≤st.2∧st.2≤j∧st.1.toNat<256^st.2.toNat) (fun st=>(j - st.2).toNat) ?_ FUEL (0,0) ⟨by simp,by simp,by simp,by simp⟩ (by rw [XgO];simp only;omega)
 ·rw [key];simp
 rintro ⟨n,x⟩ ⟨g1,g2,g3,g4⟩
 simp only at g1 g2 g3 g4 ⊢
 obtain ⟨i,rfl⟩:=Int.eq_ofNat_of_zero_le g2
 obtain ⟨v,rfl⟩:=Int.eq_ofNat_of_zero_le g1
 simp only [Int.toNat_natCast] at g4 ⊢
 unfold Xjs
 by_cases hp:i<j
 ·have hlt:i<t.length:=by omega
  have hb:=t[i].toNat_lt
  have hv:=XrY g4 (by omega)
  refine .inr ⟨(((v*256+t[i].toNat:Nat):Int),((i+1:Nat):Int)),?_,⟨by simp only;omega,by simp only;omega,by simp only;omega,?_⟩,by simp only;omega,?_⟩
  ·rw [XaP (by omega),XdY (n:=(q:Int)+i) (by omega) (by omega),Xat (by omega)]
   have e0:((q:Int)+i).toNat=q+i:=by omega
   have e1:s[q+i]?=some t[i]:=by
    subst ht
    rw [List.getElem?_eq_getElem (by omega)]
    simp
   rw [e0,e1,Option.bind_some]
   have e2:wI .u64 ((wI .u64 ((v:Int)*256))+(wI .u64 (t[i].toNat:Int)))=((v*256+t[i].toNat:Nat):Int):=by
    rw [Xf7 (n:=(v:Int)*256) (by omega) (by omega),Xf7 (n:=(t[i].toNat:Int)) (by omega) (by omega),Xf7 (by omega) (by omega)];omega
   simp only [e2]
   rw [XdY (by omega) (by omega)];rfl
  ·simp only [Int.toNat_natCast]
   rw [Nat.pow_succ];omega
  ·simp only [Int.toNat_natCast]
   rw [List.drop_eq_getElem_cons hlt,Xhl]
   have e3:(t.drop (i+1)).length=j - (i+1):=by simp;omega
   have e4:j - i=(j - (i+1))+1:=by omega
   rw [e3,e4,Nat.pow_succ,Nat.add_mul,Nat.mul_assoc,Nat.mul_comm 256,Nat.add_assoc]
 ·refine .inl ?_
  obtain rfl:i=j:=by omega
  rw [XaI (by omega)]
  simp [←hl]
theorem Xin {s:List UInt8} {p k:Int} (hs:s.length<2^61):Xao s p k=some (wI .i64 (Xxe s p k).1):=by
 unfold Xao Xnr
 rw [Xkm hs];rfl
end Go.Vm.Code
namespace Go.Vm.Code
open Go Go.Vm Go.Proofs
set_option maxRecDepth 100000
set_option maxHeartbeats 4000000
set_option linter.unusedVariables false
def Xl6 (Xaj:XaR) (s:List UInt8) (ata1:Int) (k:Int) (n:Int):Option (List UInt8):=
 (Xaj n k).bind fun p=>
 cond (p==[])
  (
  some (s))
  (
  cond (decide (ata1<0))
   (
   some (s))
   (
   let t:=decide ((wI .i64 ((s.length:Int) - k))<ata1)
   cond (t)
    (
    some (s))
    (
    Xbn (decide ((0:Int)≤ata1∧ata1≤(s.length:Int))) <|
    Xbn (decide ((s.take ata1.toNat).length+p.length<2^63)) <|
    Xbn (decide ((0:Int)≤(wI .i64 (ata1+k))∧(wI .i64 (ata1+k))≤(s.length:Int))) <|
    let t1:=(s.drop (wI .i64 (ata1+k)).toNat).take (s.length - (wI .i64 (ata1+k)).toNat)
    Xbn (decide (((s.take ata1.toNat)++p).length+t1.length<2^63)) <|
    some (((s.take ata1.toNat)++p)++t1))))
def rx98 (x:List UInt8):XcU:=⟨.string ⟨⟨x⟩⟩,[],[]⟩
abbrev XcO:=(List UInt8)→Int→Int→Int→Option (List UInt8)
def r98 (g:XcO):Dec:=dV asS fun (y0:List UInt8)=>dV (asI .i64) fun (y1:Int)=>dV (asI .i64) fun (y2:Int)=>dV (asI .u64) fun (y3:Int)=>Xd2 (ofG (g y0 y1 y2 y3) rx98)
theorem r98_c {g:XcO} {y0:List UInt8} {y1:Int} {y2:Int} {y3:Int} {x:List UInt8} (hx:g y0 y1 y2 y3=some x):r98 g [.string ⟨⟨y0⟩⟩,.int .i64 y1,.int .i64 y2,.int .u64 y3] []=some (rx98 x):=(XaO (Xd3)).trans ((XaO (Xen _)).trans ((XaO (Xen _)).trans ((XaO (Xen _)).trans (XaN hx))))
def s98 (g:XcO):XbC:=⟨[.v,.v,.v,.v],r98 g⟩
theorem XAj {g:XcO} {y0:List UInt8} {y1:Int} {y2:Int} {y3:Int} {x:List UInt8} (hx:g y0 y1 y2 y3=some x):(s98 g).run [.string ⟨⟨y0⟩⟩,.int .i64 y1,.int .i64 y2,.int .u64 y3] []=some (rx98 x):=r98_c hx
abbrev XV9 (Xaj:XaR):List (Nat×XbC):=[(97,s97 Xaj)]
theorem XNo (Xaj:XaR) (hS:Xak Tryz.prog (XaD (XV9 Xaj))) (s:List UInt8) (ata1:Int) (k:Int) (n:Int) (res:List UInt8) (h:Xl6 Xaj s ata1 k n=some res) :
 XaF Tryz.prog 98 0 ⟨⟨98,39,[(0,.string ⟨⟨s⟩⟩),(1,.int .i64 ata1),(2,.int .i64 k),(3,.int .u64 n)],[.code XJd],[],false,none⟩,[],[],0⟩ (fun v H _=>Res 0 (rx98 res) v H):=by
 unfold Xl6 at h
 have R1:=@Xle Xaj
 refine Xa4 XaC hS true 3000 ?_
 conv=>whnf
 exact W
def XaW:XcO:=Xl6 Xaj
theorem XxR:XbD Tryz.prog 98 (s98 XaW):=by
 have hL:=XNo Xaj (Xak.XaJ ⟨XnL,trivial⟩)
 exact okA ⟨Tryz.f98,rfl,by decide,rfl⟩
def XoY (Xc1:XeK) (Xbe:XcD) (s:List UInt8) (ata1:Int) (k:Int) (n:Int):Option (List UInt8):=
 (Xc1 s ata1 k).bind fun xg=>
 cond (!xg.2)
  (
  some (s))
  (
  Xbn (decide ((0:Int)≤ata1∧ata1≤(s.length:Int))) <|
  (Xbe n k).bind fun p=>
  Xbn (decide ((s.take ata1.toNat).length+p.length<2^63)) <|
  Xbn (decide ((0:Int)≤(wI .i64 (ata1+k))∧(wI .i64 (ata1+k))≤(s.length:Int))) <|
  let t:=(s.drop (wI .i64 (ata1+k)).toNat).take (s.length - (wI .i64 (ata1+k)).toNat)
  Xbn (decide (((s.take ata1.toNat)++p).length+t.length<2^63)) <|
  some (((s.take ata1.toNat)++p)++t))
def rx64 (x:List UInt8):XcU:=⟨.string ⟨⟨x⟩⟩,[],[]⟩
abbrev Xfa:=(List UInt8)→Int→Int→Int→Option (List UInt8)
def r64 (g:Xfa):Dec:=dV asS fun (y0:List UInt8)=>dV (asI .i64) fun (y1:Int)=>dV (asI .i64) fun (y2:Int)=>dV (asI .u64) fun (y3:Int)=>Xd2 (ofG (g y0 y1 y2 y3) rx64)
theorem r64_c {g:Xfa} {y0:List UInt8} {y1:Int} {y2:Int} {y3:Int} {x:List UInt8} (hx:g y0 y1 y2 y3=some x):r64 g [.string ⟨⟨y0⟩⟩,.int .i64 y1,.int .i64 y2,.int .u64 y3] []=some (rx64 x):=(XaO (Xd3)).trans ((XaO (Xen _)).trans ((XaO (Xen _)).trans ((XaO (Xen _)).trans (XaN hx))))
def s64 (g:Xfa):XbC:=⟨[.v,.v,.v,.v],r64 g⟩
theorem XJC {g:Xfa} {y0:List UInt8} {y1:Int} {y2:Int} {y3:Int} {x:List UInt8} (hx:g y0 y1 y2 y3=some x):(s64 g).run [.string ⟨⟨y0⟩⟩,.int .i64 y1,.int .i64 y2,.int .u64 y3] []=some (rx64 x):=r64_c hx
abbrev XRQ (Xc1:XeK) (Xbe:XcD):List (Nat×XbC):=[(87,s87 Xc1),(63,s63 Xbe)]
theorem XKC (Xc1:XeK) (Xbe:XcD) (hS:Xak Tryz.prog (XaD (XRQ Xc1 Xbe))) (s:List UInt8) (ata1:Int) (k:Int) (n:Int) (res:List UInt8) (h:XoY Xc1 Xbe s ata1 k n=some res) :
 XaF Tryz.prog 64 0 ⟨⟨64,34,[(0,.string ⟨⟨s⟩⟩),(1,.int .i64 ata1),(2,.int .i64 k),(3,.int .u64 n)],[.code XIU],[],false,none⟩,[],[],0⟩ (fun v H _=>Res 0 (rx64 res) v H):=by
 unfold XoY at h
 have R1:=@XzL Xc1
 have R2:=@Xtx Xbe
 refine Xa4 XaC hS true 3000 ?_
 conv=>whnf
 exact W
def Xdk:Xfa:=XoY Xc1 Xbe
theorem XI6:XbD Tryz.prog 64 (s64 Xdk):=by
 have hL:=XKC Xc1 Xbe (Xak.XaJ ⟨XxZ,XtJ,trivial⟩)
 exact okA ⟨Tryz.f64,rfl,by decide,rfl⟩
def Xjq (l:List Int) (n1:Int):Option (Sum Int Int):=
 cond (decide (n1>65535))
  (
  let t:=wI .i64 ((n1.tmod 65536)+(wI .i64 (n1.tdiv 65536)))
  some (.inl t))
  (
  some (.inr (n1)))
def Xjn (l:List Int) (n:Int) (i:Int):Option (Sum (Int×Int) Int):=
 cond (decide (i<(l.length:Int)))
  (
  Xbn (decide ((0:Int)≤i∧i<(l.length:Int))) <|
  (l[i.toNat]?).bind fun (e:Int)=>
  some (.inl (wI .i64 (n+e),wI .i64 (i+1))))
  (
  (iter (fun st=>Xjq l st) FUEL n).bind fun o=>some (.inr (o)))
def Xpi (l:List Int):Option Int:=
 iter (fun st=>Xjn l st.1 st.2) FUEL (0,0)
def XtB (x:Int):XcU:=⟨.int .i64 x,[],[none]⟩
abbrev XhS:=(List Int)→Option Int
def r135 (g:XhS):Dec:=dSl 0 1 (unL (asI .i64)) fun (y0:List Int)=>Xd2 (ofG (g y0) XtB)
theorem XTY {g:XhS} {y0:List Int} {x:Int} (hx:g y0=some x):r135 g [.slice (some ⟨0,0,none⟩) y0.length 1] [some (vI .i64 y0)]=some (XtB x):=(Xv7 (XvN _ _)).trans (XaN hx)
def s135 (g:XhS):XbC:=⟨[.sl 1],r135 g⟩
theorem XNX {g:XhS} {y0:List Int} {x:Int} (hx:g y0=some x):(s135 g).run [.slice (some ⟨0,0,none⟩) y0.length 1] [some (vI .i64 y0)]=some (XtB x):=XTY hx
abbrev XuX:List (Nat×XbC):=[]
def XlL (l:List Int) (n1:Int):VM:=
 ⟨⟨135,25,[(3,.int .i64 n1)],[.code Xum,.inLoop Xum,.inBlock 2,.code XzJ],[],false,none⟩,[],[(0,.row false (vI .i64 l))],1⟩
def Xlk (l:List Int) (n:Int) (i:Int):VM:=
 ⟨⟨135,25,[(0,.slice (some ⟨0,0,none⟩) l.length 1),(3,.int .i64 n),(4,.int .i64 i)],[.code Xud,.inLoop Xud,.inBlock 0,.code XAU],[],false,none⟩,[],[(0,.row false (vI .i64 l))],1⟩
theorem XyN (hS:Xak Tryz.prog (XaD (XuX))) (l:List Int) (res:Int):∀ fuel (st:Int) (o:Int),iter (fun st=>Xjq l st) fuel st=some o→(o=res) →
 XaF Tryz.prog 135 1 (XlL l st) (fun v H _=>Res 1 (XtB res) v H):=by
 intro fuel st o h hc
 refine Xdh (head:=fun st=>XlL l st) (C:=fun o=>(o=res)) ?_ fuel st o h hc
 clear h hc o st fuel
 intro n1 o h hc
 replace h:Xjq l n1=some o:=h
 show XaF Tryz.prog 135 1 (XlL l n1) (fun v H _=>Res 1 (XtB res) v H)
 unfold Xjq at h
 refine Xa4 XaC hS true 3000 ?_
 conv=>whnf
 refine br.h2 h (by rfl) ?_ ?_
 ·clear h;intro hb h;conv=>whnf
  exact W
 clear h;intro hb h;conv=>whnf
 let t:Int:=wI .i64 ((n1.tmod 65536)+(wI .i64 (n1.tdiv 65536)))
 cases h;simp only [Sum.elim_inl,XlL] at hc
 exact Xmt hc [(0,0)] rfl
theorem XBx (hS:Xak Tryz.prog (XaD (XuX))) (l:List Int) (res:Int):∀ fuel (st:Int×Int) (o:Int),iter (fun st=>Xjn l st.1 st.2) fuel st=some o→(o=res) →
 XaF Tryz.prog 135 1 (Xlk l st.1 st.2) (fun v H _=>Res 1 (XtB res) v H):=by
 intro fuel st o h hc
 refine Xdh (head:=fun st=>Xlk l st.1 st.2) (C:=fun o=>(o=res)) ?_ fuel st o h hc
 clear h hc o st fuel
 intro st o h hc
 obtain ⟨n,i⟩:=st
 replace h:Xjn l n i=some o:=h
 show XaF Tryz.prog 135 1 (Xlk l n i) (fun v H _=>Res 1 (XtB res) v H)
 unfold Xjn at h
 refine Xa4 XaC hS true 3000 ?_
 conv=>whnf
 refine br.h2 h (by rfl) ?_ ?_
 ·clear h;intro hb h;conv=>whnf
  obtain ⟨y,hy,h2⟩:=Xdy.elim h;cases h2
  have hl:=XyN hS _ res _ _ _ hy hc;simp only [XlL] at hl
  exact Xmt hl [(0,0)] rfl
 clear h;intro hb h;conv=>whnf
 replace h:=Xbn.elim h;obtain ⟨hb,h⟩:=h
 try (refine req.intro hb ?_;conv=>whnf)
 replace h:=Xdy.elim h;obtain ⟨e,hy,h⟩:=h
 refine rd.I hy (by first|rfl|(rw [Nat.zero_add,Nat.mul_one];try rfl;done)|omega) ?_
 conv=>whnf
 cases h;simp only [Sum.elim_inl,Xlk] at hc
 exact Xmt hc [(0,0)] rfl
theorem XDU (hS:Xak Tryz.prog (XaD (XuX))) (l:List Int) (res:Int) (h:Xpi l=some res) :
 XaF Tryz.prog 135 1 ⟨⟨135,25,[(0,.slice (some ⟨0,0,none⟩) l.length 1)],[.code XxF],[],false,none⟩,[],[(0,.row false (vI .i64 l))],1⟩ (fun v H _=>Res 1 (XtB res) v H):=by
 unfold Xpi at h
 refine Xa4 XaC hS true 3000 ?_
 conv=>whnf
 have hl:=XBx hS _ res _ _ _ h rfl;simp only [Xlk] at hl
 exact Xmt hl [(0,0)] rfl
def Xiz:XhS:=Xpi
theorem XPM:XbD Tryz.prog 135 (s135 Xiz):=by
 have hL:=XDU (Xak.XaJ trivial)
 exact okA ⟨Tryz.f135,rfl,by decide,rfl⟩
def XfX (Xao:XbA) (s1:List UInt8) (i:Int) (out1:List Int):Option (Sum ((List UInt8)×Int×(List Int)) (List Int)):=
 cond (decide (i<(s1.length:Int)))
  (
  (Xao s1 i 2).bind fun m=>
  Xbn (decide ((out1.length+1)*8≤2^47)) <|
  let row:=out1++[m]
  some (.inl (s1,wI .i64 (i+2),row)))
  (
  some (.inr (out1)))
def Xmm (Xao:XbA) (s:List UInt8):Option (List Int):=
 cond (((s.length:Int).tmod 2)==1)
  (
  Xbn (decide (s.length+1<2^63)) <|
  iter (fun st=>XfX Xao st.1 st.2.1 st.2.2) FUEL (s++[0],0,[]))
  (
  iter (fun st=>XfX Xao st.1 st.2.1 st.2.2) FUEL (s,0,[]))
def XwP (x:List Int):XcU:=⟨.slice (some ⟨0,0,none⟩) x.length 1,[(vI .i64 x)],[]⟩
abbrev Xf3:=(List UInt8)→Option (List Int)
def r136 (g:Xf3):Dec:=dV asS fun (y0:List UInt8)=>Xd2 (ofG (g y0) XwP)
theorem XQu {g:Xf3} {y0:List UInt8} {x:List Int} (hx:g y0=some x):r136 g [.string ⟨⟨y0⟩⟩] []=some (XwP x):=(XaO (Xd3)).trans (XaN hx)
def s136 (g:Xf3):XbC:=⟨[.v],r136 g⟩
theorem XMT {g:Xf3} {y0:List UInt8} {x:List Int} (hx:g y0=some x):(s136 g).run [.string ⟨⟨y0⟩⟩] []=some (XwP x):=XQu hx
abbrev Xzo (Xao:XbA):List (Nat×XbC):=[(88,s88 Xao)]
def Xku (s1:List UInt8) (i:Int) (out1:List Int):VM:=
 ⟨⟨136,24,[(0,.string ⟨⟨s1⟩⟩),(3,.slice (some ⟨0,0,none⟩) out1.length 1),(4,.int .i64 i)],[.code Xt3,.inLoop Xt3,.inBlock 0,.code XzU],[],false,none⟩,[],[(0,.row true (vI .i64 out1))],1⟩
theorem Xta (Xao:XbA) (hS:Xak Tryz.prog (XaD (Xzo Xao))) (res:List Int):∀ fuel (st:(List UInt8)×Int×(List Int)) (o:List Int),iter (fun st=>XfX Xao st.1 st.2.1 st.2.2) fuel st=some o→(o=res) →
 XaF Tryz.prog 136 0 (Xku st.1 st.2.1 st.2.2) (fun v H _=>Res 0 (XwP res) v H):=by
 intro fuel st o h hc
 refine Xdh (head:=fun st=>Xku st.1 st.2.1 st.2.2) (C:=fun o=>(o=res)) ?_ fuel st o h hc
 clear h hc o st fuel
 intro st o h hc
 obtain ⟨s1,i,out1⟩:=st
 replace h:XfX Xao s1 i out1=some o:=h
 show XaF Tryz.prog 136 0 (Xku s1 i out1) (fun v H _=>Res 0 (XwP res) v H)
 unfold XfX at h
 refine Xa4 XaC hS true 3000 ?_
 conv=>whnf
 refine br.h2 h (by rfl) ?_ ?_
 ·clear h;intro hb h;conv=>whnf
  exact W
 clear h;intro hb h;conv=>whnf
 replace h:=Xdy.elim h;obtain ⟨m,hy,h⟩:=h
 refine Xg8.a (XoB hy) ?_
 conv=>whnf
 replace h:=Xbn.elim h;obtain ⟨hb,h⟩:=h
 refine req.intro (XAB (of_decide_eq_true hb) (by first|rfl|omega|(simp;done)|(simp;omega)|(simp at *;omega)) rfl (by first|rfl|omega|(simp;done)|(simp;omega)|(simp at *;omega)) (by first|rfl|exact Xif _ _|exact Xkt _|exact Xkq _|exact Xk3 (by first|exact XdF|exact Xc5|exact XdH|exact Xcj|exact Xb6|exact XdG|exact XcH|exact Xcs|exact Xc2|exact XdA|exact XcJ|exact XdD|exact Xek|exact Xcg|exact Xch|exact Xel|exact XcI) _|(rw [Xe7];exact Xif _ _)|(simp [Xif,Xkt,Xkq,XlR,Xlu,XmW,XmR];done)|(simp;exact List.all_eq_true.1 (Xk3 (by first|exact XdF|exact Xc5|exact XdH|exact Xcj|exact Xb6|exact XdG|exact XcH|exact Xcs|exact Xc2|exact XdA|exact XcJ|exact XdD|exact Xek|exact Xcg|exact Xch|exact Xel|exact XcI) _))) rfl) ?_
 conv=>whnf
 let row:List Int:=out1++[m]
 first|have hlen_row:row.length=_:=List.length_append ..|skip
 refine XTq (xs:=out1) (ys:=[m]) rfl (by first|rfl|omega) (by first|rfl|omega|(simp;done)|(simp;omega)|(simp at *;omega)) (by first|rfl|omega|(simp;done)|(simp;omega)|(simp at *;omega)) ?_
 conv=>whnf
 cases h;simp only [Sum.elim_inl,Xku] at hc
 exact Xmt hc [(0,2)] rfl
theorem XEB (Xao:XbA) (hS:Xak Tryz.prog (XaD (Xzo Xao))) (s:List UInt8) (res:List Int) (h:Xmm Xao s=some res) :
 XaF Tryz.prog 136 0 ⟨⟨136,24,[(0,.string ⟨⟨s⟩⟩)],[.code XAu],[],false,none⟩,[],[],0⟩ (fun v H _=>Res 0 (XwP res) v H):=by
 unfold Xmm at h
 refine Xa4 XaC hS true 3000 ?_
 conv=>whnf
 refine br.h2 h (by rfl) ?_ ?_
 ·clear h;intro hb h;conv=>whnf
  have hl:=Xta Xao hS res _ _ _ h rfl;simp only [Xku] at hl
  refine XaF.nilT 3 1 ?_
  exact Xmt hl [(0,0)] rfl
 clear h;intro hb h;conv=>whnf
 replace h:=Xbn.elim h;obtain ⟨hb,h⟩:=h
 try (refine req.intro hb ?_;conv=>whnf)
 have hl:=Xta Xao hS res _ _ _ h rfl;simp only [Xku] at hl
 refine XaF.nilT 3 1 ?_
 exact Xmt hl [(0,0)] rfl
def XfH:Xf3:=Xmm Xao
theorem XMe:XbD Tryz.prog 136 (s136 XfH):=by
 have hL:=XEB Xao (Xak.XaJ ⟨Xp7,trivial⟩)
 exact okA ⟨Tryz.f136,rfl,by decide,rfl⟩
def Xpc (Xiz:XhS) (XfH:Xf3) (s:List UInt8):Option Int:=
 (XfH s).bind fun w=>
 (Xiz w).bind fun a=>
 some (a)
def rx86 (x:Int):XcU:=⟨.int .i64 x,[],[]⟩
abbrev XdJ:=(List UInt8)→Option Int
def r86 (g:XdJ):Dec:=dV asS fun (y0:List UInt8)=>Xd2 (ofG (g y0) rx86)
theorem r86_c {g:XdJ} {y0:List UInt8} {x:Int} (hx:g y0=some x):r86 g [.string ⟨⟨y0⟩⟩] []=some (rx86 x):=(XaO (Xd3)).trans (XaN hx)
def s86 (g:XdJ):XbC:=⟨[.v],r86 g⟩
theorem Xvg {g:XdJ} {y0:List UInt8} {x:Int} (hx:g y0=some x):(s86 g).run [.string ⟨⟨y0⟩⟩] []=some (rx86 x):=r86_c hx
abbrev XUg (Xiz:XhS) (XfH:Xf3):List (Nat×XbC):=[(135,s135 Xiz),(136,s136 XfH)]
theorem XMj (Xiz:XhS) (XfH:Xf3) (hS:Xak Tryz.prog (XaD (XUg Xiz XfH))) (s:List UInt8) (res:Int) (h:Xpc Xiz XfH s=some res) :
 XaF Tryz.prog 86 0 ⟨⟨86,6,[(0,.string ⟨⟨s⟩⟩)],[.code XWj],[],false,none⟩,[],[],0⟩ (fun v H _=>Res 0 (rx86 res) v H):=by
 unfold Xpc at h
 have R1:=@XMT XfH
 have R2:=@XNX Xiz
 refine Xa4 XaC hS true 3000 ?_
 conv=>whnf
 exact W
def Xcm:XdJ:=Xpc Xiz XfH
theorem Xwe:XbD Tryz.prog 86 (s86 Xcm):=by
 have hL:=XMj Xiz XfH (Xak.XaJ ⟨XPM,XMe,trivial⟩)
 exact okA ⟨Tryz.f86,rfl,by decide,rfl⟩
def XrN (Xcm:XdJ) (s:List UInt8):Option Int:=
 (Xcm s).bind fun s1=>
 some (wI .i64 (65535 - s1))
def rx65 (x:Int):XcU:=⟨.int .i64 x,[],[]⟩
abbrev Xgh:=(List UInt8)→Option Int
def r65 (g:Xgh):Dec:=dV asS fun (y0:List UInt8)=>Xd2 (ofG (g y0) rx65)
theorem r65_c {g:Xgh} {y0:List UInt8} {x:Int} (hx:g y0=some x):r65 g [.string ⟨⟨y0⟩⟩] []=some (rx65 x):=(XaO (Xd3)).trans (XaN hx)
def s65 (g:Xgh):XbC:=⟨[.v],r65 g⟩
theorem XIC {g:Xgh} {y0:List UInt8} {x:Int} (hx:g y0=some x):(s65 g).run [.string ⟨⟨y0⟩⟩] []=some (rx65 x):=r65_c hx
abbrev XTr (Xcm:XdJ):List (Nat×XbC):=[(86,s86 Xcm)]
theorem XOB (Xcm:XdJ) (hS:Xak Tryz.prog (XaD (XTr Xcm))) (s:List UInt8) (res:Int) (h:XrN Xcm s=some res) :
 XaF Tryz.prog 65 0 ⟨⟨65,6,[(0,.string ⟨⟨s⟩⟩)],[.code XSs],[],false,none⟩,[],[],0⟩ (fun v H _=>Res 0 (rx65 res) v H):=by
 unfold XrN at h
 have R1:=@Xvg Xcm
 refine Xa4 XaC hS true 3000 ?_
 conv=>whnf
 exact W
def Xe5:Xgh:=XrN Xcm
theorem XIZ:XbD Tryz.prog 65 (s65 Xe5):=by
 have hL:=XOB Xcm (Xak.XaJ ⟨Xwe,trivial⟩)
 exact okA ⟨Tryz.f65,rfl,by decide,rfl⟩
def Xm7 (XcY:XeC) (s:List UInt8):Option Int:=
 (XcY s).bind fun s1=>
 some (wI .i64 (65535 - s1))
def XF3 (x:Int):XcU:=⟨.int .i64 x,[],[]⟩
abbrev Xdl:=(List UInt8)→Option Int
def r183 (g:Xdl):Dec:=dV asS fun (y0:List UInt8)=>Xd2 (ofG (g y0) XF3)
theorem XSv {g:Xdl} {y0:List UInt8} {x:Int} (hx:g y0=some x):r183 g [.string ⟨⟨y0⟩⟩] []=some (XF3 x):=(XaO (Xd3)).trans (XaN hx)
def XRy (g:Xdl):XbC:=⟨[.v],r183 g⟩
theorem Xur {g:Xdl} {y0:List UInt8} {x:Int} (hx:g y0=some x):(XRy g).run [.string ⟨⟨y0⟩⟩] []=some (XF3 x):=XSv hx
abbrev XJF (XcY:XeC):List (Nat×XbC):=[(130,s130 XcY)]
theorem XCK (XcY:XeC) (hS:Xak Tryz.prog (XaD (XJF XcY))) (s:List UInt8) (res:Int) (h:Xm7 XcY s=some res) :
 XaF Tryz.prog 183 0 ⟨⟨183,6,[(0,.string ⟨⟨s⟩⟩)],[.code XH2],[],false,none⟩,[],[],0⟩ (fun v H _=>Res 0 (XF3 res) v H):=by
 unfold Xm7 at h
 have R1:=@Xx0 XcY
 refine Xa4 XaC hS true 3000 ?_
 conv=>whnf
 exact W
def Xbx:Xdl:=Xm7 XcY
theorem Xt1:XbD Tryz.prog 183 (XRy Xbx):=by
 have hL:=XCK XcY (Xak.XaJ ⟨Xzh,trivial⟩)
 exact okA ⟨Tryz.f183,rfl,by decide,rfl⟩
def XjS (XcY:XeC) (s:List UInt8):Option Bool:=
 (XcY s).bind fun s1=>
 some (s1==65535)
def rx80 (x:Bool):XcU:=⟨.bool x,[],[]⟩
abbrev Xcz:=(List UInt8)→Option Bool
def r80 (g:Xcz):Dec:=dV asS fun (y0:List UInt8)=>Xd2 (ofG (g y0) rx80)
theorem r80_c {g:Xcz} {y0:List UInt8} {x:Bool} (hx:g y0=some x):r80 g [.string ⟨⟨y0⟩⟩] []=some (rx80 x):=(XaO (Xd3)).trans (XaN hx)
def s80 (g:Xcz):XbC:=⟨[.v],r80 g⟩
theorem Xxy {g:Xcz} {y0:List UInt8} {x:Bool} (hx:g y0=some x):(s80 g).run [.string ⟨⟨y0⟩⟩] []=some (rx80 x):=r80_c hx
abbrev XVF (XcY:XeC):List (Nat×XbC):=[(130,s130 XcY)]
theorem XKV (XcY:XeC) (hS:Xak Tryz.prog (XaD (XVF XcY))) (s:List UInt8) (res:Bool) (h:XjS XcY s=some res) :
 XaF Tryz.prog 80 0 ⟨⟨80,6,[(0,.string ⟨⟨s⟩⟩)],[.code XTy],[],false,none⟩,[],[],0⟩ (fun v H _=>Res 0 (rx80 res) v H):=by
 unfold XjS at h
 have R1:=@Xx0 XcY
 refine Xa4 XaC hS true 3000 ?_
 conv=>whnf
 exact W
def Xa5:Xcz:=XjS XcY
theorem Xyd:XbD Tryz.prog 80 (s80 Xa5):=by
 have hL:=XKV XcY (Xak.XaJ ⟨Xzh,trivial⟩)
 exact okA ⟨Tryz.f80,rfl,by decide,rfl⟩
end Go.Vm.Code
namespace Go.Vm.Code
open Go Go.Vm
theorem XFs {s:List UInt8} {i:Nat} (h:i+1<s.length):Xxe s (i:Int) 2=(((s[i].toNat*256+s[i+1].toNat:Nat):Int),true):=by
 unfold Xxe
 rw [if_pos (by omega)]
 have e:(s.drop (i:Int).toNat).take (2:Int).toNat=[s[i],s[i+1]]:=by
  show (s.drop i).take 2=_
  rw [List.drop_eq_getElem_cons (by omega:i<s.length),List.drop_eq_getElem_cons h];rfl
 rw [e];simp [Xhl]
def XhC:List UInt8→List Int
 | []=>[]
 | [b]=>[((b.toNat*256:Nat):Int)]
 | b::c::l=>((b.toNat*256+c.toNat:Nat):Int)::XhC l
theorem XwA {s:List UInt8} {i:Nat} (h:i+1<s.length):XhC (s.drop i)=((s[i].toNat*256+s[i+1].toNat:Nat):Int)::XhC (s.drop (i+2)):=by
 rw [List.drop_eq_getElem_cons (by omega:i<s.length),List.drop_eq_getElem_cons h];rfl
theorem XqQ:∀ s:List UInt8,s.length%2=1→XhC (s++[0])=XhC s
 | [],h=>by simp at h
 | [b],_=>by
   show [((b.toNat*256+0:Nat):Int)]=[((b.toNat*256:Nat):Int)]
   rw [Nat.add_zero]
 | b::c::l,h=>by
   have:=XqQ l (by simp at h;omega)
   simp only [List.cons_append,XhC,this]
theorem Xq8:∀ s:List UInt8,(XhC s).sum=(Xfp s:Int)
 | []=>rfl
 | [b]=>by simp only [XhC,Xfp,List.sum_cons,List.sum_nil,Int.add_zero]
 | b::c::l=>by
   have:=Xq8 l
   simp only [XhC,Xfp,List.sum_cons,this];omega
theorem XqY:∀ s:List UInt8,∀ e∈XhC s,0≤e∧e≤65535
 | [],e,h=>by simp [XhC] at h
 | [b],e,h=>by simp [XhC] at h;have:=b.toNat_lt;omega
 | b::c::l,e,h=>by
   simp only [XhC,List.mem_cons] at h
   rcases h with rfl|h
   ·have:=b.toNat_lt;have:=c.toNat_lt;omega
   ·exact XqY l e h
theorem Xrh:∀ s:List UInt8,(XhC s).length=(s.length+1)/2
 | []=>rfl
 | [b]=>by simp [XhC]
 | b::c::l=>by
   have:=Xrh l
   simp only [XhC,List.length_cons,this];omega
theorem XmB {s:List UInt8} (h:s.length<2^40) (he:s.length%2=0):iter (fun (st:List UInt8×Int×List Int)=>XfX Xao st.1 st.2.1 st.2.2) FUEL (s,0,[])=some (XhC s):=by
 have key:=iter_eq (step:=fun (st:List UInt8×Int×List Int)=>XfX Xao st.1 st.2.1 st.2.2) (fun st=>st.2.2++XhC (s.drop st.2.1.toNat)) (fun st=>st.1=s∧∃ i:Nat,st.2.1=i∧i%2=0∧i≤s.length∧st.2.2.length≤i) (fun st=>(s.length - st.2.1).toNat) ?_ FUEL (s,0,[]) ⟨rfl,0,rfl,by omega,by omega,by simp⟩ (by rw [XgO];simp only;omega)
 ·rw [key];simp
 rintro ⟨s1,p,out⟩ ⟨h1,i,h2,h3,h4,h5⟩
 simp only at h1 h2 h5 ⊢
 subst h1 h2
 unfold XfX
 by_cases hi:i<s1.length
 ·have hi2:i+1<s1.length:=by omega
  refine .inr ⟨(s1,((i+2:Nat):Int),out++[((s1[i].toNat*256+s1[i+1].toNat:Nat):Int)]),?_,⟨rfl,i+2,rfl,by omega,by omega,by simp;omega⟩,by simp only;omega,?_⟩
  ·have b1:=s1[i].toNat_lt
   have b2:=s1[i+1].toNat_lt
   rw [XaP (by omega),Xin (by omega),XFs hi2,Option.bind_some,Xat (by omega),XdY (by omega) (by omega),XdY (by omega) (by omega)];rfl
  ·simp only [Int.toNat_natCast]
   rw [XwA hi2];simp
 ·refine .inl ?_
  rw [XaI (by omega)]
  simp [List.drop_eq_nil_of_le (by omega:s1.length≤i),XhC]
theorem Xtt {s:List UInt8} (h:s.length<2^39):XfH s=some (XhC s):=by
 unfold XfH Xmm
 have ea:((s.length:Int).tmod 2==1)=decide (s.length%2=1):=by
  rw [Int.tmod_eq_emod_of_nonneg (by omega),Bool.eq_iff_iff,beq_iff_eq,decide_eq_true_eq];omega
 rw [ea]
 by_cases h2:s.length%2=1
 ·rw [XaP h2,Xat (by omega),XmB (by simp only [List.length_append,List.length_cons,List.length_nil];omega) (by simp only [List.length_append,List.length_cons,List.length_nil];omega),XqQ s h2]
 ·rw [XaI h2,XmB (by omega) (by omega)]
theorem XuJ {l:List Int} {n:Int} (h0:0≤n) (h1:n<2^62):iter (fun st=>Xjq l st) FUEL n=some ((norm n.toNat:Nat):Int):=by
 refine iter_eq (fun n=>((norm n.toNat:Nat):Int)) (fun n=>0≤n∧n<2^62) (fun n=>n.toNat) ?_ FUEL _ ⟨h0,h1⟩ (by rw [XgO];omega)
 intro s ⟨a,b⟩
 unfold Xjq
 by_cases hs:s>65535
 ·refine .inr ⟨s%65536+s/65536,?_,⟨by omega,by omega⟩,by omega,?_⟩
  ·rw [XaP hs,Int.tdiv_eq_ediv_of_nonneg a,Int.tmod_eq_emod_of_nonneg a,XdY (n:=s/65536) (by omega) (by omega),XdY (by omega) (by omega)]
  ·have:norm (s%65536+s/65536).toNat=norm s.toNat:=
    (norm_eq (norm_le _) (by have:=Xl4 (s%65536+s/65536).toNat;omega) (by have:=Xkp (s%65536+s/65536).toNat;omega)).symm
   rw [this]
 ·refine .inl ?_
  rw [XaI hs]
  have:=Xp5 (n:=s.toNat) (by omega)
  simp only [this]
  rw [Int.toNat_of_nonneg a]
theorem XwL {l:List Int} (hl:l.length<2^40) (hr:∀ e∈l,0≤e∧e≤65535):Xiz l=some ((norm l.sum.toNat:Nat):Int):=by
 unfold Xiz Xpi
 have key:=iter_eq (step:=fun (st:Int×Int)=>Xjn l st.1 st.2) (fun st=>((norm (st.1+(l.drop st.2.toNat).sum).toNat:Nat):Int)) (fun st=>0≤st.1∧0≤st.2∧st.2≤l.length∧st.1≤st.2*65535) (fun st=>(l.length - st.2).toNat) ?_ FUEL (0,0) ⟨by simp,by simp,by simp,by simp⟩ (by rw [XgO];simp only;omega)
 ·rw [key];simp
 rintro ⟨n,p⟩ ⟨g1,g2,g3,g4⟩
 simp only at g1 g2 g3 g4 ⊢
 obtain ⟨i,rfl⟩:=Int.eq_ofNat_of_zero_le g2
 simp only [Int.toNat_natCast]
 unfold Xjn
 by_cases hi:i<l.length
 ·have hx:=hr l[i] (List.getElem_mem hi)
  refine .inr ⟨(n+l[i],((i+1:Nat):Int)),?_,⟨by simp only;omega,by simp only;omega,by simp only;omega,by simp only;omega⟩,by simp only;omega,?_⟩
  ·simp (disch:=omega) only [XaP,Xat,Int.toNat_natCast,List.getElem?_eq_getElem,Option.bind_some,XdY];rfl
  ·simp only [Int.toNat_natCast]
   rw [List.drop_eq_getElem_cons hi,List.sum_cons,Int.add_assoc]
 ·refine .inl ?_
  rw [XaI (by omega),XuJ g1 (by omega),List.drop_eq_nil_of_le (by omega)]
  simp
theorem Xmc {s:List UInt8} (h:s.length<2^39):Xcm s=some ((norm (Xfp s):Nat):Int):=by
 unfold Xcm Xpc
 rw [Xtt h,Option.bind_some,XwL (by rw [Xrh];omega) (XqY s),Xq8];rfl
def Xsu (s:List UInt8) (p k n:Int):List UInt8:=if 1≤k∧k≤8∧0≤p∧p+k≤s.length then s.take p.toNat++be n.toNat k.toNat++s.drop (p+k).toNat else s
theorem Xv4 {s:List UInt8} {p k n:Int} (hs:s.length<2^40) (hn:0≤n):XaW s p k n=some (Xsu s p k n):=by
 unfold XaW Xl6 Xsu
 rw [Xbt hn,Option.bind_some]
 unfold XcG
 by_cases hk:1≤k∧k≤8
 ·rw [if_pos hk]
  have e:(be n.toNat k.toNat==[])=false:=by
   rw [beq_eq_false_iff_ne];intro h;have:=congrArg List.length h;simp at this;omega
  rw [e,cond_false]
  by_cases h1:p<0
  ·rw [XaP h1,if_neg (by omega)]
  rw [XaI h1,XdY (n:=(s.length:Int) - k) (by omega) (by omega)]
  by_cases h2:(s.length:Int) - k<p
  ·simp only []
   rw [XaP h2,if_neg (by omega)]
  simp only []
  have e1:(p+k).toNat=p.toNat+k.toNat:=by omega
  have e2:((s.drop (p+k).toNat).take (s.length - (p+k).toNat))=s.drop (p+k).toNat:=List.take_of_length_le (by simp)
  rw [XaI h2,Xat (by omega),XdY (n:=p+k) (by omega) (by omega),e2,Xat (by simp;omega),Xat (by omega),Xat (by simp;omega),if_pos (by omega)]
 ·rw [if_neg hk,if_neg (by omega)];rfl
theorem XlZ {s:List UInt8} {p k n:Int} (hs:s.length<2^40) (hn:0≤n) (hn2:n<2^64):Xdk s p k n=some (Xsu s p k n):=by
 unfold Xdk XoY Xsu
 rw [Xkm (by omega),Option.bind_some]
 unfold Xxe
 by_cases hc:1≤k∧k≤8∧0≤p∧p+k≤s.length
 ·rw [if_pos hc,if_pos hc]
  have e2:((s.drop (p+k).toNat).take (s.length - (p+k).toNat))=s.drop (p+k).toNat:=List.take_of_length_le (by simp)
  simp only [Bool.not_true,cond_false]
  rw [Xdi hn hn2,Option.bind_some,Xat (by omega),XdY (n:=p+k) (by omega) (by omega),e2]
  unfold XcG
  rw [if_pos (by omega),Xat (by simp;omega),Xat (by omega),Xat (by simp;omega)]
 ·rw [if_neg hc,if_neg hc];rfl
theorem XDs {s:List UInt8} (h:s.length<2^39):Xbx s=some (65535 - ((norm (Xfp s):Nat):Int)):=by
 unfold Xbx Xm7
 have:=norm_le (Xfp s)
 rw [XIv s (by omega),Option.bind_some,XdY (by omega) (by omega)]
theorem XpS {s:List UInt8} (h:s.length<2^39):Xe5 s=some (65535 - ((norm (Xfp s):Nat):Int)):=by
 unfold Xe5 XrN
 have:=norm_le (Xfp s)
 rw [Xmc h,Option.bind_some,XdY (by omega) (by omega)]
theorem XrS {s:List UInt8} (h:s.length<2^39):Xa5 s=some (((norm (Xfp s):Nat):Int)==65535):=by
 unfold Xa5 XjS
 rw [XIv s (by omega),Option.bind_some]
end Go.Vm.Code
namespace Go.Vm.Code
open Go Go.Vm Go.Proofs
set_option maxRecDepth 100000
set_option maxHeartbeats 4000000
set_option linter.unusedVariables false
def XiB (a:Xaa):Option Bool:=
 cond (a.V6)
  (
  some (true))
  (
  cond (a.Hi==0)
   (
   some (decide (a.Lo<4294967296)))
   (
   some (false)))
def XFW (x:Bool):XcU:=⟨.bool x,[],[]⟩
abbrev XbV:=Xaa→Option Bool
def r110 (g:XbV):Dec:=dV Xb4 fun (y0:Xaa)=>Xd2 (ofG (g y0) XFW)
theorem XQz {g:XbV} {y0:Xaa} {x:Bool} (hx:g y0=some x):r110 g [.agg ⟨[.bool y0.V6,.int .u64 y0.Hi,.int .u64 y0.Lo]⟩] []=some (XFW x):=(XaO (XbM _)).trans (XaN hx)
def XOl (g:XbV):XbC:=⟨[.v],r110 g⟩
theorem Xqm {g:XbV} {y0:Xaa} {x:Bool} (hx:g y0=some x):(XOl g).run [.agg ⟨[.bool y0.V6,.int .u64 y0.Hi,.int .u64 y0.Lo]⟩] []=some (XFW x):=XQz hx
abbrev XK2:List (Nat×XbC):=[]
theorem XGT (hS:Xak Tryz.prog (XaD (XK2))) (a:Xaa) (res:Bool) (h:XiB a=some res) :
 XaF Tryz.prog 110 0 ⟨⟨110,15,[(0,.agg ⟨[.bool a.V6,.int .u64 a.Hi,.int .u64 a.Lo]⟩)],[.code XIg],[],false,none⟩,[],[],0⟩ (fun v H _=>Res 0 (XFW res) v H):=by
 unfold XiB at h
 refine Xa4 XaC hS true 3000 ?_
 conv=>whnf
 exact W
def XaB:XbV:=XiB
theorem Xqf:XbD Tryz.prog 110 (XOl XaB):=by
 have hL:=XGT (Xak.XaJ trivial)
 exact okA ⟨Tryz.f110,rfl,by decide,rfl⟩
def XlK (XaB:XbV) (Xaj:XaR) (a:Xaa):Option (List UInt8):=
 (XaB a).bind fun xr=>
 cond (!xr)
  (
  some ([]))
  (
  cond (a.V6)
   (
   (Xaj a.Hi 8).bind fun p=>
   (Xaj a.Lo 8).bind fun p1=>
   Xbn (decide (p.length+p1.length<2^63)) <|
   some (p++p1))
   (
   (Xaj a.Lo 4).bind fun p2=>
   some (p2)))
def XDq (x:List UInt8):XcU:=⟨.string ⟨⟨x⟩⟩,[],[]⟩
abbrev Xeb:=Xaa→Option (List UInt8)
def r195 (g:Xeb):Dec:=dV Xb4 fun (y0:Xaa)=>Xd2 (ofG (g y0) XDq)
theorem XQY {g:Xeb} {y0:Xaa} {x:List UInt8} (hx:g y0=some x):r195 g [.agg ⟨[.bool y0.V6,.int .u64 y0.Hi,.int .u64 y0.Lo]⟩] []=some (XDq x):=(XaO (XbM _)).trans (XaN hx)
def XRU (g:Xeb):XbC:=⟨[.v],r195 g⟩
theorem XuF {g:Xeb} {y0:Xaa} {x:List UInt8} (hx:g y0=some x):(XRU g).run [.agg ⟨[.bool y0.V6,.int .u64 y0.Hi,.int .u64 y0.Lo]⟩] []=some (XDq x):=XQY hx
abbrev XP3 (XaB:XbV) (Xaj:XaR):List (Nat×XbC):=[(110,XOl XaB),(97,s97 Xaj)]
theorem XCb (XaB:XbV) (Xaj:XaR) (hS:Xak Tryz.prog (XaD (XP3 XaB Xaj))) (a:Xaa) (res:List UInt8) (h:XlK XaB Xaj a=some res) :
 XaF Tryz.prog 195 0 ⟨⟨195,20,[(0,.agg ⟨[.bool a.V6,.int .u64 a.Hi,.int .u64 a.Lo]⟩)],[.code Xxu],[],false,none⟩,[],[],0⟩ (fun v H _=>Res 0 (XDq res) v H):=by
 unfold XlK at h
 have R1:=@Xqm XaB
 have R2:=@Xle Xaj
 refine Xa4 XaC hS true 3000 ?_
 conv=>whnf
 exact W
def XbZ:Xeb:=XlK XaB Xaj
theorem XuY:XbD Tryz.prog 195 (XRU XbZ):=by
 have hL:=XCb XaB Xaj (Xak.XaJ ⟨Xqf,XnL,trivial⟩)
 exact okA ⟨Tryz.f195,rfl,by decide,rfl⟩
def Xkj (a:Xaa):Option Bool:=
 cond (a.V6)
  (
  some (true))
  (
  cond (a.Hi==0)
   (
   some (decide (a.Lo<4294967296)))
   (
   some (false)))
def rx59 (x:Bool):XcU:=⟨.bool x,[],[]⟩
abbrev Xcb:=Xaa→Option Bool
def r59 (g:Xcb):Dec:=dV Xb4 fun (y0:Xaa)=>Xd2 (ofG (g y0) rx59)
theorem r59_c {g:Xcb} {y0:Xaa} {x:Bool} (hx:g y0=some x):r59 g [.agg ⟨[.bool y0.V6,.int .u64 y0.Hi,.int .u64 y0.Lo]⟩] []=some (rx59 x):=(XaO (XbM _)).trans (XaN hx)
def s59 (g:Xcb):XbC:=⟨[.v],r59 g⟩
theorem Xti {g:Xcb} {y0:Xaa} {x:Bool} (hx:g y0=some x):(s59 g).run [.agg ⟨[.bool y0.V6,.int .u64 y0.Hi,.int .u64 y0.Lo]⟩] []=some (rx59 x):=r59_c hx
abbrev XSI:List (Nat×XbC):=[]
theorem XQc (hS:Xak Tryz.prog (XaD (XSI))) (a:Xaa) (res:Bool) (h:Xkj a=some res) :
 XaF Tryz.prog 59 0 ⟨⟨59,15,[(0,.agg ⟨[.bool a.V6,.int .u64 a.Hi,.int .u64 a.Lo]⟩)],[.code XUV],[],false,none⟩,[],[],0⟩ (fun v H _=>Res 0 (rx59 res) v H):=by
 unfold Xkj at h
 refine Xa4 XaC hS true 3000 ?_
 conv=>whnf
 exact W
def XaL:Xcb:=Xkj
theorem XsX:XbD Tryz.prog 59 (s59 XaL):=by
 have hL:=XQc (Xak.XaJ trivial)
 exact okA ⟨Tryz.f59,rfl,by decide,rfl⟩
def XnF (Xbe:XcD) (XaL:Xcb) (a:Xaa):Option (List UInt8):=
 (XaL a).bind fun xr=>
 cond (!xr)
  (
  some ([]))
  (
  cond (a.V6)
   (
   (Xbe a.Hi 8).bind fun p=>
   (Xbe a.Lo 8).bind fun p1=>
   Xbn (decide (p.length+p1.length<2^63)) <|
   some (p++p1))
   (
   (Xbe a.Lo 4).bind fun p2=>
   some (p2)))
def XCZ (x:List UInt8):XcU:=⟨.string ⟨⟨x⟩⟩,[],[]⟩
abbrev XeJ:=Xaa→Option (List UInt8)
def r146 (g:XeJ):Dec:=dV Xb4 fun (y0:Xaa)=>Xd2 (ofG (g y0) XCZ)
theorem XR9 {g:XeJ} {y0:Xaa} {x:List UInt8} (hx:g y0=some x):r146 g [.agg ⟨[.bool y0.V6,.int .u64 y0.Hi,.int .u64 y0.Lo]⟩] []=some (XCZ x):=(XaO (XbM _)).trans (XaN hx)
def XTi (g:XeJ):XbC:=⟨[.v],r146 g⟩
theorem Xt2 {g:XeJ} {y0:Xaa} {x:List UInt8} (hx:g y0=some x):(XTi g).run [.agg ⟨[.bool y0.V6,.int .u64 y0.Hi,.int .u64 y0.Lo]⟩] []=some (XCZ x):=XR9 hx
abbrev XN8 (Xbe:XcD) (XaL:Xcb):List (Nat×XbC):=[(63,s63 Xbe),(59,s59 XaL)]
theorem XEa (Xbe:XcD) (XaL:Xcb) (hS:Xak Tryz.prog (XaD (XN8 Xbe XaL))) (a:Xaa) (res:List UInt8) (h:XnF Xbe XaL a=some res) :
 XaF Tryz.prog 146 0 ⟨⟨146,18,[(0,.agg ⟨[.bool a.V6,.int .u64 a.Hi,.int .u64 a.Lo]⟩)],[.code XAh],[],false,none⟩,[],[],0⟩ (fun v H _=>Res 0 (XCZ res) v H):=by
 unfold XnF at h
 have R1:=@Xti XaL
 have R2:=@Xtx Xbe
 refine Xa4 XaC hS true 3000 ?_
 conv=>whnf
 exact W
def Xco:XeJ:=XnF Xbe XaL
theorem Xuc:XbD Tryz.prog 146 (XTi Xco):=by
 have hL:=XEa Xbe XaL (Xak.XaJ ⟨XtJ,XsX,trivial⟩)
 exact okA ⟨Tryz.f146,rfl,by decide,rfl⟩
def Xdb (Xaj:XaR) (l:List Int) (i:Int) (c:List Int):Option (Sum (Int×(List Int)) (List UInt8)):=
 let t:=decide ((wI .i64 (i+1))<(l.length:Int))
 cond (t)
  (
  Xbn (decide ((0:Int)≤i∧i<(l.length:Int))) <|
  (l[i.toNat]?).bind fun (e2:Int)=>
  Xbn (decide ((0:Int)≤(wI .i64 (i+1))∧(wI .i64 (i+1))<(l.length:Int))) <|
  (l[(wI .i64 (i+1)).toNat]?).bind fun (e3:Int)=>
  (Xaj (wI .u64 e2) e3).bind fun p1=>
  Xbn (decide ((c.length+p1.length)*1≤2^47)) <|
  let row:=c++(bI p1)
  some (.inl (wI .i64 (i+2),row)))
  (
  Xbn (decide (c.length<2^63)) <|
  some (.inr (iB c)))
def XjF (Xaj:XaR) (l:List Int):Option (List UInt8):=
 cond (decide (1<(l.length:Int)))
  (
  Xbn (decide ((0:Int)≤(0:Int)∧(0:Int)<(l.length:Int))) <|
  (l[0]?).bind fun (e:Int)=>
  Xbn (decide ((0:Int)≤(1:Int)∧(1:Int)<(l.length:Int))) <|
  (l[1]?).bind fun (e1:Int)=>
  (Xaj (wI .u64 e) e1).bind fun p=>
  Xbn (decide (p.length*1≤2^47)) <|
  iter (fun st=>Xdb Xaj l st.1 st.2) FUEL (2,bI p))
  (
  some ([]))
def XwM (x:List UInt8):XcU:=⟨.string ⟨⟨x⟩⟩,[],[none]⟩
abbrev Xec:=(List Int)→Option (List UInt8)
def r196 (g:Xec):Dec:=dSl 0 1 (unL (asI .i64)) fun (y0:List Int)=>Xd2 (ofG (g y0) XwM)
theorem XUj {g:Xec} {y0:List Int} {x:List UInt8} (hx:g y0=some x):r196 g [.slice (some ⟨0,0,none⟩) y0.length 1] [some (vI .i64 y0)]=some (XwM x):=(Xv7 (XvN _ _)).trans (XaN hx)
def s196 (g:Xec):XbC:=⟨[.sl 1],r196 g⟩
theorem XBf {g:Xec} {y0:List Int} {x:List UInt8} (hx:g y0=some x):(s196 g).run [.slice (some ⟨0,0,none⟩) y0.length 1] [some (vI .i64 y0)]=some (XwM x):=XUj hx
abbrev Xzg (Xaj:XaR):List (Nat×XbC):=[(97,s97 Xaj)]
def Xlz (l:List Int) (i:Int) (c:List Int):VM:=
 ⟨⟨196, 25, [(0, .slice (some ⟨0, 0, none⟩) l.length 1), (3, .pointer (some ⟨1, 0, none⟩)), (4, .int .i64 i)], [.code XuQ, .inLoop XuQ, .inBlock 0, .code XAg], [], false, none⟩, [], [(0, .row false (vI .i64 l)), (1, .ty 171 [.pointer (some ⟨1, 0, none⟩), .func (.method "") ⟨[.slice (some ⟨12, 0, none⟩) c.length 1]⟩ ⟨[]⟩]), (12, .ty 5 (vI .u8 c))], 13⟩
theorem XxO (Xaj:XaR) (hS:Xak Tryz.prog (XaD (Xzg Xaj))) (l:List Int) (res:List UInt8):∀ fuel (st:Int×(List Int)) (o:List UInt8),iter (fun st=>Xdb Xaj l st.1 st.2) fuel st=some o→(o=res) →
 XaF Tryz.prog 196 1 (Xlz l st.1 st.2) (fun v H _=>Res 1 (XwM res) v H):=by
 intro fuel st o h hc
 refine Xdh (head:=fun st=>Xlz l st.1 st.2) (C:=fun o=>(o=res)) ?_ fuel st o h hc
 clear h hc o st fuel
 intro st o h hc
 obtain ⟨i,c⟩:=st
 replace h:Xdb Xaj l i c=some o:=h
 show XaF Tryz.prog 196 1 (Xlz l i c) (fun v H _=>Res 1 (XwM res) v H)
 unfold Xdb at h
 refine Xa4 XaC hS true 3000 ?_
 conv=>whnf
 let t:Bool:=decide ((wI .i64 (i+1))<(l.length:Int))
 refine br.h2 h (by rfl) ?_ ?_
 ·clear h;intro hb h;conv=>whnf
  replace h:=Xbn.elim h;obtain ⟨hb,h⟩:=h
  refine req.intro (XJw rfl (by first|rfl|(simp;done)) (by first|rfl|omega|(simp;done)|(simp;omega)|(simp at *;omega)) (of_decide_eq_true hb)) ?_
  conv=>whnf
  refine XVu ?_
  conv=>whnf
  exact W
 clear h;intro hb h;conv=>whnf
 replace h:=Xbn.elim h;obtain ⟨hb,h⟩:=h
 try (refine req.intro hb ?_;conv=>whnf)
 replace h:=Xdy.elim h;obtain ⟨e2,hy,h⟩:=h
 refine rd.I hy (by first|rfl|(rw [Nat.zero_add,Nat.mul_one];try rfl;done)|omega) ?_
 conv=>whnf
 replace h:=Xbn.elim h;obtain ⟨hb,h⟩:=h
 try (refine req.intro hb ?_;conv=>whnf)
 replace h:=Xdy.elim h;obtain ⟨e3,hy,h⟩:=h
 refine rd.I hy (by first|rfl|(rw [Nat.zero_add,Nat.mul_one];try rfl;done)|omega) ?_
 conv=>whnf
 replace h:=Xdy.elim h;obtain ⟨p1,hy,h⟩:=h
 refine Xg8.a (Xle hy) ?_
 conv=>whnf
 replace h:=Xbn.elim h;obtain ⟨hb,h⟩:=h
 first|refine req.intro (XtW (of_decide_eq_true hb) (by first|rfl|omega|(simp;done)|(simp;omega)|(simp at *;omega)) rfl rfl (by first|rfl|omega|(simp;done)|(simp;omega)|(simp at *;omega)) (by first|rfl|exact Xif _ _|exact Xkt _|exact Xkq _|exact Xk3 (by first|exact XdF|exact Xc5|exact XdH|exact Xcj|exact Xb6|exact XdG|exact XcH|exact Xcs|exact Xc2|exact XdA|exact XcJ|exact XdD|exact Xek|exact Xcg|exact Xch|exact Xel|exact XcI) _|(rw [Xe7];exact Xif _ _)|(simp [Xif,Xkt,Xkq,XlR,Xlu,XmW,XmR];done)|(simp;exact List.all_eq_true.1 (Xk3 (by first|exact XdF|exact Xc5|exact XdH|exact Xcj|exact Xb6|exact XdG|exact XcH|exact Xcs|exact Xc2|exact XdA|exact XcJ|exact XdD|exact Xek|exact Xcg|exact Xch|exact Xel|exact XcI) _))) rfl) ?_|skip
 conv=>whnf
 let row:List Int:=c++(bI p1)
 first|have hlen_row:row.length=_:=List.length_append ..|skip
 refine XyR (xs:=c) (ys:=bI p1) (Xe7 _) (by first|rfl|omega|(simp;done)|(simp;omega)|(simp at *;omega)) (by first|rfl|omega|(simp;done)|(simp;omega)|(simp at *;omega)) ?_
 conv=>whnf
 cases h;simp only [Sum.elim_inl,Xlz] at hc
 exact Xmt hc [(0,0),(1,1),(12,23)] rfl
theorem XE1 (Xaj:XaR) (hS:Xak Tryz.prog (XaD (Xzg Xaj))) (l:List Int) (res:List UInt8) (h:XjF Xaj l=some res) :
 XaF Tryz.prog 196 1 ⟨⟨196,25,[(0,.slice (some ⟨0,0,none⟩) l.length 1)],[.code XAZ],[],false,none⟩,[],[(0,.row false (vI .i64 l))],1⟩ (fun v H _=>Res 1 (XwM res) v H):=by
 unfold XjF at h
 refine Xa4 XaC hS true 3000 ?_
 conv=>whnf
 refine Xa4 XaC hS true 3000 ?_
 conv=>whnf
 refine br.h2 h (by rfl) ?_ ?_
 ·clear h;intro hb h;conv=>whnf
  exact W
 clear h;intro hb h;conv=>whnf
 replace h:=Xbn.elim h;obtain ⟨hb,h⟩:=h
 try (refine req.intro hb ?_;conv=>whnf)
 replace h:=Xdy.elim h;obtain ⟨e,hy,h⟩:=h
 refine rd.I hy (by first|rfl|(rw [Nat.zero_add,Nat.mul_one];try rfl;done)|omega) ?_
 conv=>whnf
 replace h:=Xbn.elim h;obtain ⟨hb,h⟩:=h
 try (refine req.intro hb ?_;conv=>whnf)
 replace h:=Xdy.elim h;obtain ⟨e1,hy,h⟩:=h
 refine rd.I hy (by first|rfl|(rw [Nat.zero_add,Nat.mul_one];try rfl;done)|omega) ?_
 conv=>whnf
 replace h:=Xdy.elim h;obtain ⟨p,hy,h⟩:=h
 refine Xg8.a (Xle hy) ?_
 conv=>whnf
 replace h:=Xbn.elim h;obtain ⟨hb,h⟩:=h
 refine req.intro (Xvi (of_decide_eq_true hb) (by first|rfl|omega|(simp;done)|(simp;omega)|(simp at *;omega)) rfl rfl) ?_
 conv=>whnf
 refine Xz5 (ys:=bI p) (Xe7 _) (by first|rfl|omega|(simp;done)|(simp;omega)|(simp at *;omega)) ?_
 conv=>whnf
 have hl:=XxO Xaj hS _ res _ _ _ h rfl;simp only [Xlz] at hl
 exact Xmt hl [(0,0),(1,1),(12,12)] rfl
def Xb0:Xec:=XjF Xaj
theorem XBu:XbD Tryz.prog 196 (s196 Xb0):=by
 have hL:=XE1 Xaj (Xak.XaJ ⟨XnL,trivial⟩)
 exact okA ⟨Tryz.f196,rfl,by decide,rfl⟩
def XiN (XbZ:Xeb) (XaB:XbV) (Xb0:Xec) (src:Xaa) (dst:Xaa) (proto:Int) (n:Int):Option (List UInt8):=
 (XaB src).bind fun xr=>
 cond (!xr)
  (
  some ([]))
  (
  (XaB dst).bind fun xr1=>
  cond (!xr1)
   (
   some ([]))
   (
   cond (!(src.V6==dst.V6))
    (
    some ([]))
    (
    (XbZ src).bind fun p=>
    (XbZ dst).bind fun p1=>
    Xbn (decide (p.length+p1.length<2^63)) <|
    cond (src.V6)
     (
     (Xb0 [n,4,0,3,proto,1]).bind fun xr2=>
     Xbn (decide ((p++p1).length+xr2.length<2^63)) <|
     some ((p++p1)++xr2))
     (
     (Xb0 [0,1,proto,1,n,2]).bind fun xr3=>
     Xbn (decide ((p++p1).length+xr3.length<2^63)) <|
     some ((p++p1)++xr3)))))
def XEW (x:List UInt8):XcU:=⟨.string ⟨⟨x⟩⟩,[],[]⟩
abbrev XbB:=Xaa→Xaa→Int→Int→Option (List UInt8)
def r180 (g:XbB):Dec:=dV Xb4 fun (y0:Xaa)=>dV Xb4 fun (y1:Xaa)=>dV (asI .i64) fun (y2:Int)=>dV (asI .i64) fun (y3:Int)=>Xd2 (ofG (g y0 y1 y2 y3) XEW)
theorem XVJ {g:XbB} {y0:Xaa} {y1:Xaa} {y2:Int} {y3:Int} {x:List UInt8} (hx:g y0 y1 y2 y3=some x):r180 g [.agg ⟨[.bool y0.V6,.int .u64 y0.Hi,.int .u64 y0.Lo]⟩,.agg ⟨[.bool y1.V6,.int .u64 y1.Hi,.int .u64 y1.Lo]⟩,.int .i64 y2,.int .i64 y3] []=some (XEW x):=(XaO (XbM _)).trans ((XaO (XbM _)).trans ((XaO (Xen _)).trans ((XaO (Xen _)).trans (XaN hx))))
def XQl (g:XbB):XbC:=⟨[.v,.v,.v,.v],r180 g⟩
theorem Xsg {g:XbB} {y0:Xaa} {y1:Xaa} {y2:Int} {y3:Int} {x:List UInt8} (hx:g y0 y1 y2 y3=some x):(XQl g).run [.agg ⟨[.bool y0.V6,.int .u64 y0.Hi,.int .u64 y0.Lo]⟩,.agg ⟨[.bool y1.V6,.int .u64 y1.Hi,.int .u64 y1.Lo]⟩,.int .i64 y2,.int .i64 y3] []=some (XEW x):=XVJ hx
abbrev XJE (XbZ:Xeb) (XaB:XbV) (Xb0:Xec):List (Nat×XbC):=[(195,XRU XbZ),(110,XOl XaB),(196,s196 Xb0)]
theorem XFe (XbZ:Xeb) (XaB:XbV) (Xb0:Xec) (hS:Xak Tryz.prog (XaD (XJE XbZ XaB Xb0))) (src:Xaa) (dst:Xaa) (proto:Int) (n:Int) (res:List UInt8) (h:XiN XbZ XaB Xb0 src dst proto n=some res) :
 XaF Tryz.prog 180 0 ⟨⟨180,44,[(0,.agg ⟨[.bool src.V6,.int .u64 src.Hi,.int .u64 src.Lo]⟩),(1,.agg ⟨[.bool dst.V6,.int .u64 dst.Hi,.int .u64 dst.Lo]⟩),(2,.int .i64 proto),(3,.int .i64 n)],[.code Xzb],[],false,none⟩,[],[],0⟩ (fun v H _=>Res 0 (XEW res) v H):=by
 unfold XiN at h
 have R1:=@Xqm XaB
 have R2:=@XuF XbZ
 have R3:=@XBf Xb0
 refine Xa4 XaC hS true 3000 ?_
 conv=>whnf
 exact W
def XaA:XbB:=XiN XbZ XaB Xb0
theorem XrL:XbD Tryz.prog 180 (XQl XaA):=by
 have hL:=XFe XbZ XaB Xb0 (Xak.XaJ ⟨XuY,Xqf,XBu,trivial⟩)
 exact okA ⟨Tryz.f180,rfl,by decide,rfl⟩
def Xm9 (Xbe:XcD) (n:Int) (k:Int):Option (List UInt8):=
 (Xbe (wI .u64 n) k).bind fun p=>
 some (p)
def XDw (x:List UInt8):XcU:=⟨.string ⟨⟨x⟩⟩,[],[]⟩
abbrev XfB:=Int→Int→Option (List UInt8)
def r147 (g:XfB):Dec:=dV (asI .i64) fun (y0:Int)=>dV (asI .i64) fun (y1:Int)=>Xd2 (ofG (g y0 y1) XDw)
theorem XT3 {g:XfB} {y0:Int} {y1:Int} {x:List UInt8} (hx:g y0 y1=some x):r147 g [.int .i64 y0,.int .i64 y1] []=some (XDw x):=(XaO (Xen _)).trans ((XaO (Xen _)).trans (XaN hx))
def s147 (g:XfB):XbC:=⟨[.v,.v],r147 g⟩
theorem Xxz {g:XfB} {y0:Int} {y1:Int} {x:List UInt8} (hx:g y0 y1=some x):(s147 g).run [.int .i64 y0,.int .i64 y1] []=some (XDw x):=XT3 hx
abbrev XLE (Xbe:XcD):List (Nat×XbC):=[(63,s63 Xbe)]
theorem XFD (Xbe:XcD) (hS:Xak Tryz.prog (XaD (XLE Xbe))) (n:Int) (k:Int) (res:List UInt8) (h:Xm9 Xbe n k=some res) :
 XaF Tryz.prog 147 0 ⟨⟨147,9,[(0,.int .i64 n),(1,.int .i64 k)],[.code XJo],[],false,none⟩,[],[],0⟩ (fun v H _=>Res 0 (XDw res) v H):=by
 unfold Xm9 at h
 have R1:=@Xtx Xbe
 refine Xa4 XaC hS true 3000 ?_
 conv=>whnf
 exact W
def Xb9:XfB:=Xm9 Xbe
theorem XAs:XbD Tryz.prog 147 (s147 Xb9):=by
 have hL:=XFD Xbe (Xak.XaJ ⟨XtJ,trivial⟩)
 exact okA ⟨Tryz.f147,rfl,by decide,rfl⟩
def XkN (Xco:XeJ) (XaL:Xcb) (Xb9:XfB) (src:Xaa) (dst:Xaa) (proto:Int) (n:Int):Option (List UInt8):=
 (XaL src).bind fun xr=>
 cond (!xr)
  (
  some ([]))
  (
  (XaL dst).bind fun xr1=>
  cond (!xr1)
   (
   some ([]))
   (
   cond (!(src.V6==dst.V6))
    (
    some ([]))
    (
    cond (src.V6)
     (
     (Xco src).bind fun p=>
     (Xco dst).bind fun p1=>
     Xbn (decide (p.length+p1.length<2^63)) <|
     (Xb9 n 4).bind fun n1=>
     Xbn (decide ((p++p1).length+n1.length<2^63)) <|
     (Xb9 0 3).bind fun n2=>
     Xbn (decide (((p++p1)++n1).length+n2.length<2^63)) <|
     (Xb9 proto 1).bind fun n3=>
     Xbn (decide ((((p++p1)++n1)++n2).length+n3.length<2^63)) <|
     some ((((p++p1)++n1)++n2)++n3))
     (
     (Xco src).bind fun p2=>
     (Xco dst).bind fun p3=>
     Xbn (decide (p2.length+p3.length<2^63)) <|
     (Xb9 0 1).bind fun n4=>
     Xbn (decide ((p2++p3).length+n4.length<2^63)) <|
     (Xb9 proto 1).bind fun n5=>
     Xbn (decide (((p2++p3)++n4).length+n5.length<2^63)) <|
     (Xb9 n 2).bind fun n6=>
     Xbn (decide ((((p2++p3)++n4)++n5).length+n6.length<2^63)) <|
     some ((((p2++p3)++n4)++n5)++n6)))))
def XCD (x:List UInt8):XcU:=⟨.string ⟨⟨x⟩⟩,[],[]⟩
abbrev XcF:=Xaa→Xaa→Int→Int→Option (List UInt8)
def r101 (g:XcF):Dec:=dV Xb4 fun (y0:Xaa)=>dV Xb4 fun (y1:Xaa)=>dV (asI .i64) fun (y2:Int)=>dV (asI .i64) fun (y3:Int)=>Xd2 (ofG (g y0 y1 y2 y3) XCD)
theorem XTa {g:XcF} {y0:Xaa} {y1:Xaa} {y2:Int} {y3:Int} {x:List UInt8} (hx:g y0 y1 y2 y3=some x):r101 g [.agg ⟨[.bool y0.V6,.int .u64 y0.Hi,.int .u64 y0.Lo]⟩,.agg ⟨[.bool y1.V6,.int .u64 y1.Hi,.int .u64 y1.Lo]⟩,.int .i64 y2,.int .i64 y3] []=some (XCD x):=(XaO (XbM _)).trans ((XaO (XbM _)).trans ((XaO (Xen _)).trans ((XaO (Xen _)).trans (XaN hx))))
def XWI (g:XcF):XbC:=⟨[.v,.v,.v,.v],r101 g⟩
theorem Xuh {g:XcF} {y0:Xaa} {y1:Xaa} {y2:Int} {y3:Int} {x:List UInt8} (hx:g y0 y1 y2 y3=some x):(XWI g).run [.agg ⟨[.bool y0.V6,.int .u64 y0.Hi,.int .u64 y0.Lo]⟩,.agg ⟨[.bool y1.V6,.int .u64 y1.Hi,.int .u64 y1.Lo]⟩,.int .i64 y2,.int .i64 y3] []=some (XCD x):=XTa hx
abbrev XN6 (Xco:XeJ) (XaL:Xcb) (Xb9:XfB):List (Nat×XbC):=[(146,XTi Xco),(59,s59 XaL),(147,s147 Xb9)]
theorem XGl (Xco:XeJ) (XaL:Xcb) (Xb9:XfB) (hS:Xak Tryz.prog (XaD (XN6 Xco XaL Xb9))) (src:Xaa) (dst:Xaa) (proto:Int) (n:Int) (res:List UInt8) (h:XkN Xco XaL Xb9 src dst proto n=some res) :
 XaF Tryz.prog 101 0 ⟨⟨101,52,[(0,.agg ⟨[.bool src.V6,.int .u64 src.Hi,.int .u64 src.Lo]⟩),(1,.agg ⟨[.bool dst.V6,.int .u64 dst.Hi,.int .u64 dst.Lo]⟩),(2,.int .i64 proto),(3,.int .i64 n)],[.code XyY],[],false,none⟩,[],[],0⟩ (fun v H _=>Res 0 (XCD res) v H):=by
 unfold XkN at h
 have R1:=@Xti XaL
 have R2:=@Xt2 Xco
 have R3:=@Xxz Xb9
 refine Xa4 XaC hS true 3000 ?_
 conv=>whnf
 exact W
def Xbu:XcF:=XkN Xco XaL Xb9
theorem Xuq:XbD Tryz.prog 101 (XWI Xbu):=by
 have hL:=XGl Xco XaL Xb9 (Xak.XaJ ⟨Xuc,XsX,XAs,trivial⟩)
 exact okA ⟨Tryz.f101,rfl,by decide,rfl⟩
end Go.Vm.Code
namespace Go.Vm.Code
open Go Go.Vm
def A4 (a:Xaa):Prop:=0≤a.Hi∧a.Hi<2^64∧0≤a.Lo∧a.Lo<2^64
def aok (a:Xaa):Bool:=a.V6||(a.Hi==0&&decide (a.Lo<4294967296))
theorem Xkf (a:Xaa):XaB a=some (aok a):=by
 unfold XaB XiB aok
 cases a.V6
 ·cases (a.Hi==0)<;>rfl
 ·rfl
theorem Xjp (a:Xaa):XaL a=some (aok a):=by
 unfold XaL Xkj aok
 cases a.V6
 ·cases (a.Hi==0)<;>rfl
 ·rfl
def Xeq (a:Xaa):List UInt8:=cond a.V6 (be a.Hi.toNat 8++be a.Lo.toNat 8) (be a.Lo.toNat 4)
theorem XeH (a:Xaa):(Xeq a).length=cond a.V6 16 4:=by unfold Xeq;cases a.V6<;>simp
theorem XfJ {n:Int} {k:Nat} (h:1≤k∧k≤8):XcG n (k:Int)=be n.toNat k:=by unfold XcG;rw [if_pos (by omega)];rfl
theorem Xr0 {a:Xaa} (h:A4 a) (hr:aok a=true):XbZ a=some (Xeq a):=by
 obtain ⟨h1,h2,h3,h4⟩:=h
 unfold XbZ XlK Xeq
 rw [Xkf,Option.bind_some,hr]
 simp only [Bool.not_true,cond_false]
 cases a.V6
 ·simp only [cond_false]
  rw [Xbt h3,Option.bind_some,show (4:Int)=((4:Nat):Int) from rfl,XfJ (by omega)]
 ·simp only [cond_true]
  rw [Xbt h1,Option.bind_some,Xbt h3,Option.bind_some,show (8:Int)=((8:Nat):Int) from rfl,XfJ (by omega),XfJ (by omega),Xat (by simp)]
theorem Xpe {a:Xaa} (h:A4 a) (hr:aok a=true):Xco a=some (Xeq a):=by
 obtain ⟨h1,h2,h3,h4⟩:=h
 unfold Xco XnF Xeq
 rw [Xjp,Option.bind_some,hr]
 simp only [Bool.not_true,cond_false]
 cases a.V6
 ·simp only [cond_false]
  rw [Xdi h3 h4,Option.bind_some,show (4:Int)=((4:Nat):Int) from rfl,XfJ (by omega)]
 ·simp only [cond_true]
  rw [Xdi h1 h2,Option.bind_some,Xdi h3 h4,Option.bind_some,show (8:Int)=((8:Nat):Int) from rfl,XfJ (by omega),XfJ (by omega),Xat (by simp)]
theorem Xqk {n k:Int} (h0:0≤n) (h1:n<2^63):Xb9 n k=some (XcG n k):=by
 unfold Xb9 Xm9
 rw [Xf7 h0 (by omega),Xdi h0 (by omega)];rfl
theorem Xba (n k:Int):(XcG n k).length≤8:=by unfold XcG;split<;>simp<;>omega
theorem XCR (s:List UInt8):iB (bI s)=s:=by simp [iB,bI,List.map_map,Function.comp_def]
theorem XWv (a b:List Int):iB (a++b)=iB a++iB b:=by simp [iB]
theorem Xrl (a b:List UInt8):bI (a++b)=bI a++bI b:=by simp [bI]
theorem Xm8 {σ ρ:Type} {f:σ→Option (Sum σ ρ)} {n:Nat} {s s':σ} (h:f s=some (.inl s')):iter f (n+1) s=iter f n s':=by rw [iter,h]
theorem Xvp {σ ρ:Type} {f:σ→Option (Sum σ ρ)} {n:Nat} {s:σ} {r:ρ} (h:f s=some (.inr r)):iter f (n+1) s=some r:=by rw [iter,h]
theorem XsA:∃ n,FUEL=n+8:=⟨18446744073709551608,rfl⟩
theorem XIf {a b c d e f:Int} (ha:0≤a) (hc:0≤c) (he:0≤e) (ha1:a<2^63) (hc1:c<2^63) (he1:e<2^63):Xb0 [a,b,c,d,e,f]=some (XcG a b++XcG c d++XcG e f):=by
 have l1:=Xba a b
 have l2:=Xba c d
 have l3:=Xba e f
 unfold Xb0 XjF
 rw [XaP (by simp),Xat (by simp)]
 show ((some a).bind _)=_
 rw [Option.bind_some,Xat (by simp)]
 show ((some b).bind _)=_
 rw [Option.bind_some,Xf7 ha (by omega),Xbt ha,Option.bind_some,Xat (by omega)]
 obtain ⟨n,hn⟩:=XsA
 rw [hn]
 have s1:Xdb Xaj [a,b,c,d,e,f] 2 (bI (XcG a b))=some (.inl (4,bI (XcG a b++XcG c d))):=by
  unfold Xdb
  simp only []
  rw [XaP (by rw [show wI .i64 (2+1)=3 from rfl];simp),Xat (by simp)]
  show ((some c).bind _)=_
  rw [Option.bind_some,Xat (by rw [show wI .i64 (2+1)=3 from rfl];simp)]
  show ((some d).bind _)=_
  rw [Option.bind_some,Xf7 hc (by omega),Xbt hc,Option.bind_some,Xat (by simp;omega),Xrl];rfl
 have s2:Xdb Xaj [a,b,c,d,e,f] 4 (bI (XcG a b++XcG c d))=some (.inl (6,bI (XcG a b++XcG c d++XcG e f))):=by
  unfold Xdb
  simp only []
  rw [XaP (by rw [show wI .i64 (4+1)=5 from rfl];simp),Xat (by simp)]
  show ((some e).bind _)=_
  rw [Option.bind_some,Xat (by rw [show wI .i64 (4+1)=5 from rfl];simp)]
  show ((some f).bind _)=_
  rw [Option.bind_some,Xf7 he (by omega),Xbt he,Option.bind_some,Xat (by simp;omega),Xrl (XcG a b++XcG c d)];rfl
 have s3:Xdb Xaj [a,b,c,d,e,f] 6 (bI (XcG a b++XcG c d++XcG e f))=some (.inr (XcG a b++XcG c d++XcG e f)):=by
  unfold Xdb
  simp only []
  rw [XaI (by rw [show wI .i64 (6+1)=7 from rfl];simp),Xat (by simp;omega),XCR]
 rw [Xm8 (f:=fun (st:Int×List Int)=>Xdb Xaj [a,b,c,d,e,f] st.1 st.2) (n:=n+7) s1,Xm8 (n:=n+6) s2,Xvp (n:=n+5) s3]
def Xlb (src dst:Xaa) (p n:Int):List UInt8:=
 if aok src=true∧aok dst=true∧src.V6=dst.V6 then Xeq src++Xeq dst++cond src.V6 (XcG n 4++XcG 0 3++XcG p 1) (XcG 0 1++XcG p 1++XcG n 2) else []
theorem XjV (src dst:Xaa) (p n:Int):(Xlb src dst p n).length≤56:=by
 have l1:=Xba n 4
 have l2:=Xba 0 3
 have l3:=Xba p 1
 have l4:=Xba 0 1
 have l5:=Xba n 2
 unfold Xlb
 split
 ·rw [List.length_append,List.length_append,XeH,XeH]
  cases src.V6<;>cases dst.V6<;>simp<;>omega
 ·simp
theorem Xnj {src dst:Xaa} {p n:Int} (h1:A4 src) (h2:A4 dst) (hp:0≤p∧p<2^63) (hn:0≤n∧n<2^63):XaA src dst p n=some (Xlb src dst p n):=by
 unfold XaA XiN Xlb
 rw [Xkf,Xkf,Option.bind_some]
 cases e1:aok src
 ·simp
 simp only [Bool.not_true,cond_false,Option.bind_some]
 cases e2:aok dst
 ·simp
 simp only [Bool.not_true,cond_false]
 by_cases e3:src.V6=dst.V6
 ·rw [if_pos (by simpa using e3),show (src.V6==dst.V6)=true by simpa using e3]
  simp only [Bool.not_true,cond_false]
  have l1:=XeH src
  have l2:=XeH dst
  rw [Xr0 h1 e1,Option.bind_some,Xr0 h2 e2,Option.bind_some,Xat (by rw [l1,l2];cases src.V6<;>cases dst.V6<;>decide)]
  rw [XIf hn.1 (by omega) hp.1 hn.2 (by omega) hp.2,XIf (by omega) hp.1 hn.1 (by omega) hp.2 hn.2]
  have m1:=Xba n 4
  have m2:=Xba 0 3
  have m3:=Xba p 1
  have m4:=Xba 0 1
  have m5:=Xba n 2
  have b1:(Xeq src).length≤16:=by rw [l1];cases src.V6<;>decide
  have b2:(Xeq dst).length≤16:=by rw [l2];cases dst.V6<;>decide
  cases src.V6
  ·simp only [cond_false,Option.bind_some]
   rw [Xat (by simp only [List.length_append];omega)]
  ·simp only [cond_true,Option.bind_some]
   rw [Xat (by simp only [List.length_append];omega)]
 ·rw [if_neg (fun h=>e3 h.2.2),show (src.V6==dst.V6)=false by simpa using e3];rfl
theorem Xl1 {src dst:Xaa} {p n:Int} (h1:A4 src) (h2:A4 dst) (hp:0≤p∧p<2^63) (hn:0≤n∧n<2^63):Xbu src dst p n=some (Xlb src dst p n):=by
 unfold Xbu XkN Xlb
 rw [Xjp,Xjp,Option.bind_some]
 cases e1:aok src
 ·simp
 simp only [Bool.not_true,cond_false,Option.bind_some]
 cases e2:aok dst
 ·simp
 simp only [Bool.not_true,cond_false]
 by_cases e3:src.V6=dst.V6
 ·rw [if_pos (by simpa using e3),show (src.V6==dst.V6)=true by simpa using e3]
  simp only [Bool.not_true,cond_false]
  have l1:=XeH src
  have l2:=XeH dst
  have m1:=Xba n 4
  have m2:=Xba 0 3
  have m3:=Xba p 1
  have m4:=Xba 0 1
  have m5:=Xba n 2
  have b1:(Xeq src).length≤16:=by rw [l1];cases src.V6<;>decide
  have b2:(Xeq dst).length≤16:=by rw [l2];cases dst.V6<;>decide
  rw [Xpe h1 e1,Xpe h2 e2,Xqk hn.1 hn.2,Xqk (n:=0) (k:=3) (by omega) (by omega),Xqk hp.1 hp.2,Xqk (n:=0) (k:=1) (by omega) (by omega),Xqk hn.1 hn.2]
  cases src.V6
  ·simp only [cond_false,Option.bind_some]
   rw [Xat (by omega),Xat (by simp only [List.length_append];omega),Xat (by simp only [List.length_append];omega),Xat (by simp only [List.length_append];omega)]
   simp only [List.append_assoc]
  ·simp only [cond_true,Option.bind_some]
   rw [Xat (by omega),Xat (by simp only [List.length_append];omega),Xat (by simp only [List.length_append];omega),Xat (by simp only [List.length_append];omega)]
   simp only [List.append_assoc]
 ·rw [if_neg (fun h=>e3 h.2.2),show (src.V6==dst.V6)=false by simpa using e3];rfl
theorem Xl3 (n:Int):0≤wI .u64 n∧wI .u64 n<2^64:=by rw [wU64m];omega
def XMH:List Int→List UInt8
 | a::b::l=>XcG (wI .u64 a) b++XMH l
 | _=>[]
theorem XMy {l:List Int} (he:l.length%2=0) (h2:2≤l.length) (hl:l.length≤1000):Xb0 l=some (XMH l):=by
 unfold Xb0 XjF
 obtain ⟨a,b,r,rfl⟩:∃ a b r,l=a::b::r:=by
  match l,h2 with
  | a::b::r,_=>exact ⟨a,b,r,rfl⟩
 have p0:=Xba (wI .u64 a) b
 rw [XaP (by simp;omega),Xat (by simp;omega)]
 show ((some a).bind _)=_
 rw [Option.bind_some,Xat (by simp;omega)]
 show ((some b).bind _)=_
 rw [Option.bind_some,Xbt (Xl3 a).1,Option.bind_some,Xat (by omega)]
 generalize hL:a::b::r=L at *
 have key:=iter_eq (step:=fun (st:Int×List Int)=>Xdb Xaj L st.1 st.2) (fun st=>iB st.2++XMH (L.drop st.1.toNat)) (fun st=>0≤st.1∧st.1≤L.length∧st.1.toNat%2=0∧st.2.length≤8*st.1.toNat) (fun st=>(L.length - st.1).toNat) ?_ FUEL (2,bI (XcG (wI .u64 a) b)) ⟨by simp,by simp only;omega,by simp,by simp;omega⟩ (by rw [XgO];simp only;omega)
 ·rw [key]
  simp only [XCR]
  subst hL;rfl
 rintro ⟨p,c⟩ ⟨g1,g2,g3,g4⟩
 simp only at g1 g2 g3 g4 ⊢
 obtain ⟨i,rfl⟩:=Int.eq_ofNat_of_zero_le g1
 simp only [Int.toNat_natCast] at g3 g4 ⊢
 unfold Xdb
 simp only []
 rw [XdY (n:=(i:Int)+1) (by omega) (by omega)]
 by_cases hi:i<L.length
 ·have hi1:i+1<L.length:=by omega
  have pl:=Xba (wI .u64 L[i]) L[i+1]
  refine .inr ⟨(((i+2:Nat):Int),c++bI (XcG (wI .u64 L[i]) L[i+1])),?_,⟨by simp only;omega,by simp only;omega,by simp only [Int.toNat_natCast];omega,by simp;omega⟩,by simp only;omega,?_⟩
  ·rw [XaP (by omega),Xat (by omega),Int.toNat_natCast,List.getElem?_eq_getElem hi,Option.bind_some,Xat (by omega),show ((i:Int)+1).toNat=i+1 by omega,List.getElem?_eq_getElem hi1,Option.bind_some,Xbt (Xl3 _).1,Option.bind_some,Xat (by omega),XdY (by omega) (by omega)];rfl
  ·simp only [Int.toNat_natCast]
   rw [XWv,XCR,List.drop_eq_getElem_cons hi,List.drop_eq_getElem_cons hi1,XMH];simp
 ·refine .inl ?_
  rw [XaI (by omega),Xat (by omega),List.drop_eq_nil_of_le (by omega)];simp [XMH]
theorem XGL (n k:Int):Xb9 n k=some (XcG (wI .u64 n) k):=by
 unfold Xb9 Xm9
 rw [Xdi (Xl3 n).1 (Xl3 n).2];rfl
end Go.Vm.Code
namespace Go.Vm.Code
open Go Go.Vm Go.Proofs
set_option maxRecDepth 100000
set_option maxHeartbeats 4000000
set_option linter.unusedVariables false
def Xg3 (ra0:Xah):Option (Bool×Xah):=
 cond (!ra0.made)
  (
  some ((true,ra0)))
  (
  some ((ra0.bad,ra0)))
def XCa (x:Bool×Xah):XcU:=⟨.bool x.1,[],[some [.string ⟨⟨x.2.s⟩⟩,.bool x.2.made,.bool x.2.bad]]⟩
abbrev XaG:=Xah→Option (Bool×Xah)
def r138 (g:XaG):Dec:=dPt 0 Xd4 fun (y0:Xah)=>Xd2 (ofG (g y0) XCa)
theorem XQx {g:XaG} {y0:Xah} {x:Bool×Xah} (hx:g y0=some x):r138 g [.pointer (some ⟨0,0,none⟩)] [some [.string ⟨⟨y0.s⟩⟩,.bool y0.made,.bool y0.bad]]=some (XCa x):=(Xh1 (Xgi _)).trans (XaN hx)
def XIR (g:XaG):XbC:=⟨[.pt 3],r138 g⟩
theorem Xm0 {g:XaG} {y0:Xah} {x:Bool×Xah} (hx:g y0=some x):(XIR g).run [.pointer (some ⟨0,0,none⟩)] [some [.string ⟨⟨y0.s⟩⟩,.bool y0.made,.bool y0.bad]]=some (XCa x):=XQx hx
abbrev XNi:List (Nat×XbC):=[]
theorem XD1 (hS:Xak Tryz.prog (XaD (XNi))) (ra0:Xah) (res:Bool×Xah) (h:Xg3 ra0=some res) :
 XaF Tryz.prog 138 1 ⟨⟨138,18,[(0,.pointer (some ⟨0,0,none⟩))],[.code XJB],[],false,none⟩,[],[(0,.cells [.string ⟨⟨ra0.s⟩⟩,.bool ra0.made,.bool ra0.bad])],1⟩ (fun v H _=>Res 1 (XCa res) v H):=by
 unfold Xg3 at h
 refine Xa4 XaC hS true 3000 ?_
 conv=>whnf
 exact W
def Xai:XaG:=Xg3
theorem Xn2:XbD Tryz.prog 138 (XIR Xai):=by
 have hL:=XD1 (Xak.XaJ trivial)
 exact okA ⟨Tryz.f138,rfl,by decide,rfl⟩
def Xgv (Xai:XaG) (ra0:Xah) (n:Int):Option ((List UInt8)×Xah):=
 (Xai ra0).bind fun b=>
 cond (b.1)
  (
  some (([],b.2)))
  (
  cond (decide (n<0))
   (
   some (([],Xah.mk b.2.s b.2.made true)))
   (
   cond (decide (n>(b.2.s.length:Int)))
    (
    some (([],Xah.mk b.2.s b.2.made true)))
    (
    Xbn (decide ((0:Int)≤n∧n≤(b.2.s.length:Int))) <|
    Xbn (decide ((0:Int)≤n∧n≤(b.2.s.length:Int))) <|
    let t:=(b.2.s.drop n.toNat).take (b.2.s.length - n.toNat)
    some ((b.2.s.take n.toNat,Xah.mk t b.2.made b.2.bad)))))
def XEd (x:(List UInt8)×Xah):XcU:=⟨.string ⟨⟨x.1⟩⟩,[],[some [.string ⟨⟨x.2.s⟩⟩,.bool x.2.made,.bool x.2.bad]]⟩
abbrev Xav:=Xah→Int→Option ((List UInt8)×Xah)
def r129 (g:Xav):Dec:=dPt 0 Xd4 fun (y0:Xah)=>dV (asI .i64) fun (y1:Int)=>Xd2 (ofG (g y0 y1) XEd)
theorem XVA {g:Xav} {y0:Xah} {y1:Int} {x:(List UInt8)×Xah} (hx:g y0 y1=some x):r129 g [.pointer (some ⟨0,0,none⟩),.int .i64 y1] [some [.string ⟨⟨y0.s⟩⟩,.bool y0.made,.bool y0.bad]]=some (XEd x):=(Xh1 (Xgi _)).trans ((XaO (Xen _)).trans (XaN hx))
def XBC (g:Xav):XbC:=⟨[.pt 3,.v],r129 g⟩
theorem Xlm {g:Xav} {y0:Xah} {y1:Int} {x:(List UInt8)×Xah} (hx:g y0 y1=some x):(XBC g).run [.pointer (some ⟨0,0,none⟩),.int .i64 y1] [some [.string ⟨⟨y0.s⟩⟩,.bool y0.made,.bool y0.bad]]=some (XEd x):=XVA hx
abbrev XL0 (Xai:XaG):List (Nat×XbC):=[(138,XIR Xai)]
theorem XDZ (Xai:XaG) (hS:Xak Tryz.prog (XaD (XL0 Xai))) (ra0:Xah) (n:Int) (res:(List UInt8)×Xah) (h:Xgv Xai ra0 n=some res) :
 XaF Tryz.prog 129 1 ⟨⟨129,38,[(0,.pointer (some ⟨0,0,none⟩)),(1,.int .i64 n)],[.code XzW],[],false,none⟩,[],[(0,.cells [.string ⟨⟨ra0.s⟩⟩,.bool ra0.made,.bool ra0.bad])],1⟩ (fun v H _=>Res 1 (XEd res) v H):=by
 unfold Xgv at h
 have R1:=@Xm0 Xai
 refine Xa4 XaC hS true 3000 ?_
 conv=>whnf
 exact W
def Xaf:Xav:=Xgv Xai
theorem XlU:XbD Tryz.prog 129 (XBC Xaf):=by
 have hL:=XDZ Xai (Xak.XaJ ⟨Xn2,trivial⟩)
 exact okA ⟨Tryz.f129,rfl,by decide,rfl⟩
def Xg1 (Xbd:XcP) (Xaf:Xav) (ra0:Xah) (k:Int):Option (Int×Xah):=
 cond (decide (k<1))
  (
  (Xaf ra0 (-1)).bind fun t=>
  (Xbd t.1 0 (-1)).bind fun xg=>
  some ((wI .i64 xg.1,t.2)))
  (
  cond (decide (k>7))
   (
   (Xaf ra0 (-1)).bind fun t1=>
   (Xbd t1.1 0 (-1)).bind fun xg1=>
   some ((wI .i64 xg1.1,t1.2)))
   (
   (Xaf ra0 k).bind fun t2=>
   (Xbd t2.1 0 k).bind fun xg2=>
   some ((wI .i64 xg2.1,t2.2))))
def rx78 (x:Int×Xah):XcU:=⟨.int .i64 x.1,[],[some [.string ⟨⟨x.2.s⟩⟩,.bool x.2.made,.bool x.2.bad]]⟩
abbrev XaH:=Xah→Int→Option (Int×Xah)
def r78 (g:XaH):Dec:=dPt 0 Xd4 fun (y0:Xah)=>dV (asI .i64) fun (y1:Int)=>Xd2 (ofG (g y0 y1) rx78)
theorem r78_c {g:XaH} {y0:Xah} {y1:Int} {x:Int×Xah} (hx:g y0 y1=some x):r78 g [.pointer (some ⟨0,0,none⟩),.int .i64 y1] [some [.string ⟨⟨y0.s⟩⟩,.bool y0.made,.bool y0.bad]]=some (rx78 x):=(Xh1 (Xgi _)).trans ((XaO (Xen _)).trans (XaN hx))
def s78 (g:XaH):XbC:=⟨[.pt 3,.v],r78 g⟩
theorem XmE {g:XaH} {y0:Xah} {y1:Int} {x:Int×Xah} (hx:g y0 y1=some x):(s78 g).run [.pointer (some ⟨0,0,none⟩),.int .i64 y1] [some [.string ⟨⟨y0.s⟩⟩,.bool y0.made,.bool y0.bad]]=some (rx78 x):=r78_c hx
abbrev XR1 (Xbd:XcP) (Xaf:Xav):List (Nat×XbC):=[(95,s95 Xbd),(129,XBC Xaf)]
theorem XP5 (Xbd:XcP) (Xaf:Xav) (hS:Xak Tryz.prog (XaD (XR1 Xbd Xaf))) (ra0:Xah) (k:Int) (res:Int×Xah) (h:Xg1 Xbd Xaf ra0 k=some res) :
 XaF Tryz.prog 78 1 ⟨⟨78,23,[(0,.pointer (some ⟨0,0,none⟩)),(1,.int .i64 k)],[.code XHM],[],false,none⟩,[],[(0,.cells [.string ⟨⟨ra0.s⟩⟩,.bool ra0.made,.bool ra0.bad])],1⟩ (fun v H _=>Res 1 (rx78 res) v H):=by
 unfold Xg1 at h
 have R1:=@Xlm Xaf
 have R2:=@XxA Xbd
 refine Xa4 XaC hS true 3000 ?_
 conv=>whnf
 exact W
def Xad:XaH:=Xg1 Xbd Xaf
theorem Xq4:XbD Tryz.prog 78 (s78 Xad):=by
 have hL:=XP5 Xbd Xaf (Xak.XaJ ⟨XzP,XlU,trivial⟩)
 exact okA ⟨Tryz.f78,rfl,by decide,rfl⟩
def Xoc (s:List UInt8):Option Xah:=
 some (Xah.mk s true false)
def rx77 (x:Xah):XcU:=⟨.pointer (some ⟨0,0,none⟩),[[.string ⟨⟨x.s⟩⟩,.bool x.made,.bool x.bad]],[]⟩
abbrev Xce:=(List UInt8)→Option Xah
def r77 (g:Xce):Dec:=dV asS fun (y0:List UInt8)=>Xd2 (ofG (g y0) rx77)
theorem r77_c {g:Xce} {y0:List UInt8} {x:Xah} (hx:g y0=some x):r77 g [.string ⟨⟨y0⟩⟩] []=some (rx77 x):=(XaO (Xd3)).trans (XaN hx)
def s77 (g:Xce):XbC:=⟨[.v],r77 g⟩
theorem Xtm {g:Xce} {y0:List UInt8} {x:Xah} (hx:g y0=some x):(s77 g).run [.string ⟨⟨y0⟩⟩] []=some (rx77 x):=r77_c hx
abbrev XWy:List (Nat×XbC):=[]
theorem XOV (hS:Xak Tryz.prog (XaD (XWy))) (s:List UInt8) (res:Xah) (h:Xoc s=some res) :
 XaF Tryz.prog 77 0 ⟨⟨77,6,[(0,.string ⟨⟨s⟩⟩)],[.code XTW],[],false,none⟩,[],[],0⟩ (fun v H _=>Res 0 (rx77 res) v H):=by
 unfold Xoc at h
 refine Xa4 XaC hS true 3000 ?_
 conv=>whnf
 exact W
def Xa2:Xce:=Xoc
theorem Xs7:XbD Tryz.prog 77 (s77 Xa2):=by
 have hL:=XOV (Xak.XaJ trivial)
 exact okA ⟨Tryz.f77,rfl,by decide,rfl⟩
end Go.Vm.Code
namespace Go.Vm.Code
open Go Go.Vm
def rdr (r:Xah) (k:Int):Xah:=if r.bad=true∨k<0∨k>r.s.length then ⟨r.s,true,true⟩ else ⟨r.s.drop k.toNat,true,false⟩
def rdt (r:Xah) (k:Int):List UInt8:=if r.bad=true∨k<0∨k>r.s.length then [] else r.s.take k.toNat
theorem Xgt {r:Xah} (h:r.made=true):Xai r=some (r.bad,r):=by
 unfold Xai Xg3
 rw [h];rfl
theorem XgU {r:Xah} {k:Int} (h:r.made=true):Xaf r k=some (rdt r k,rdr r k):=by
 unfold Xaf Xgv rdt rdr
 rw [Xgt h,Option.bind_some]
 simp only []
 obtain ⟨s,m,b⟩:=r
 simp only at h ⊢
 subst h
 cases b with
 | true=>simp
 | false=>
   rw [cond_false]
   by_cases h1:k<0
   ·rw [XaP h1,if_pos (by omega),if_pos (by omega)]
   rw [XaI h1]
   by_cases h2:k>s.length
   ·rw [XaP h2,if_pos (by omega),if_pos (by omega)]
   ·have e:(s.drop k.toNat).take (s.length - k.toNat)=s.drop k.toNat:=List.take_of_length_le (by simp)
    rw [XaI h2,Xat (by omega),Xat (by omega),if_neg (by simp;omega),if_neg (by simp;omega),e]
theorem Xh6 (r:Xah) (k:Int):(rdr r k).made=true:=by unfold rdr;split<;>rfl
theorem XuW {r:Xah} {k:Int}:(rdr r k).bad=false↔r.bad=false∧0≤k∧k≤r.s.length:=by
 unfold rdr
 split
 ·rename_i h
  simp only [Bool.true_eq_false,false_iff]
  intro ⟨a,b,c⟩
  rcases h with h|h|h
  ·rw [a] at h;cases h
  ·omega
  ·omega
 ·rename_i h
  simp only [true_iff]
  cases hb:r.bad
  ·exact ⟨rfl,by omega,by omega⟩
  ·exact absurd (.inl hb) h
theorem XO6 {r:Xah} {k:Int} (h:(rdr r k).bad=false):((rdr r k).s.length:Int)=r.s.length - k:=by
 obtain ⟨a,b,c⟩:=XuW.1 h
 unfold rdr
 rw [if_neg (by rw [a];simp;omega)]
 simp;omega
theorem XiM {r r':Xah} {k:Int} (h:rdr r k=r') (hb:r'.bad=false):r.bad=false∧(r'.s.length:Int)+k=r.s.length:=by
 subst h
 have:=XO6 hb
 exact ⟨(XuW.1 hb).1,by omega⟩
theorem XjB {s:List UInt8} {k:Int} (h0:0≤k) (h1:k≤s.length):rdr ⟨s,true,false⟩ k=⟨s.drop k.toNat,true,false⟩:=by
 unfold rdr;rw [if_neg (by simp;omega)]
theorem XjA {s:List UInt8} {k:Int} (h0:0≤k) (h1:k≤s.length):rdt ⟨s,true,false⟩ k=s.take k.toNat:=by
 unfold rdt;rw [if_neg (by simp;omega)]
theorem XOf (r:Xah) (k:Int):(rdt r k).length≤r.s.length:=by
 unfold rdt;split
 ·simp
 ·rw [List.length_take];omega
def rdn (r:Xah) (k:Int):Int:=(Xfy (rdt r (if k<1∨k>7 then -1 else k)):Nat)
theorem Xia {r:Xah} {k:Int} (h:r.made=true) (hl:r.s.length<2^61):Xad r k=some (rdn r k,rdr r (if k<1∨k>7 then -1 else k)):=by
 unfold Xad Xg1 rdn
 have bad:Xaf r (-1)=some ([],rdr r (-1)):=by
  rw [XgU h];unfold rdt;rw [if_pos (by omega)]
 have e0:rdt r (-1)=[]:=by unfold rdt;rw [if_pos (by omega)]
 by_cases h1:k<1
 ·rw [XaP h1,bad,Option.bind_some,XgG (by simp),if_pos (by omega),Option.bind_some,e0];rfl
 rw [XaI h1]
 by_cases h2:k>7
 ·rw [XaP h2,bad,Option.bind_some,XgG (by simp),if_pos (by omega),Option.bind_some,e0];rfl
 have hlen:=XOf r k
 rw [XaI h2,XgU h,Option.bind_some,XgG (by simp only [];omega),Option.bind_some,if_neg (by omega)]
 simp only []
 unfold Xxe
 by_cases hc:r.bad=true∨k<0∨k>r.s.length
 ·have e:rdt r k=[]:=by unfold rdt;rw [if_pos hc]
  rw [e,if_neg (by simp;omega)];rfl
 ·have hl2:(rdt r k).length=k.toNat:=by unfold rdt;rw [if_neg hc];simp;omega
  rw [if_pos (by omega)]
  have e2:((rdt r k).drop (0:Int).toNat).take k.toNat=rdt r k:=by
   rw [show (0:Int).toNat=0 from rfl,List.drop_zero,List.take_of_length_le (by omega)]
  have hv:Xfy (rdt r k)<2^56:=by
   have:=Xtl (rdt r k)
   rw [hl2] at this
   exact XrY this (by omega)
  simp only [e2]
  rw [XdY (by omega) (by omega)]
theorem Xi9 {s:List UInt8} {p k:Int} (h0:0≤p) (h1:1≤k) (h8:k≤8) (h:p+k≤s.length):Xxe s p k=(((Xfy ((s.drop p.toNat).take k.toNat):Nat):Int),true):=by
 unfold Xxe;rw [if_pos (by omega)]
theorem XpK (s:List UInt8):Xa2 s=some ⟨s,true,false⟩:=rfl
theorem Xpk {n:Nat} (h:n<65536):Xfp (be n 2)=n:=by
 have e:be n 2=[UInt8.ofNat (n/256),UInt8.ofNat n]:=by simp [be]
 rw [e,Xfp,Xfp]
 simp only [UInt8.toNat_ofNat']
 omega
theorem XnE {n:Nat} (h:n%65535=0) (h0:n≠0):norm n=65535:=norm_eq (by omega) (by omega) (by omega)
def inR (n m:Int):Bool:=decide (0≤n∧n≤m)
theorem XuK {n m:Int}:inR n m=true↔0≤n∧n≤m:=by unfold inR;simp
theorem XrE (n:Nat):(((n:Int).tmod 4)==0)=decide (n%4=0):=by
 rw [Int.tmod_eq_emod_of_nonneg (by omega),Bool.eq_iff_iff,beq_iff_eq,decide_eq_true_eq];omega
theorem XvR (n:Nat):decide ((n:Int)≤40)=decide (n≤40):=by rw [Bool.eq_iff_iff,decide_eq_true_eq,decide_eq_true_eq];omega
theorem XKF (n:Nat):(20+(n:Int)).tdiv 4=(((20+n)/4:Nat):Int):=by rw [Int.tdiv_eq_ediv_of_nonneg (by omega)];omega
def vK (s:List UInt8) (p k:Nat):Int:=(Xfy ((s.drop p).take k):Nat)
theorem XfW (s:List UInt8) (p k n:Nat) (h:256^k≤n):0≤vK s p k∧vK s p k<n:=by
 have:=Xfo (l:=s.drop p) (k:=k) n h
 unfold vK;omega
theorem XIB {s:List UInt8} {p k:Nat} (h1:1≤k) (h7:k≤7) (h:p+k≤s.length) (hl:s.length<2^61):Xad ⟨s.drop p,true,false⟩ (k:Int)=some (vK s p k,⟨s.drop (p+k),true,false⟩):=by
 have hd:(s.drop p).length=s.length - p:=by simp
 rw [Xia rfl (by simp only;omega),if_neg (by omega),XjB (by omega) (by omega)]
 unfold rdn
 rw [if_neg (by omega),XjA (by omega) (by omega),Int.toNat_natCast,List.drop_drop];rfl
theorem Xrv {s:List UInt8} {p k:Nat} (h:p+k≤s.length):Xaf ⟨s.drop p,true,false⟩ (k:Int)=some ((s.drop p).take k,⟨s.drop (p+k),true,false⟩):=by
 have hd:(s.drop p).length=s.length - p:=by simp
 rw [XgU rfl,XjB (by omega) (by omega),XjA (by omega) (by omega),Int.toNat_natCast,List.drop_drop]
theorem XrH {s:List UInt8} {p k:Nat} (hs:s.length<2^61) (h1:1≤k) (h7:k≤7) (h:p+k≤s.length):Xao s (p:Int) (k:Int)=some (vK s p k):=by
 rw [Xin hs,Xi9 (by omega) (by omega) (by omega) (by omega)]
 have:=XfW s p k (256^k) (Nat.le_refl _)
 have h8:256^k≤256^7:=Nat.pow_le_pow_right (by decide) h7
 have h9:(256:Nat)^7=72057594037927936:=by decide
 show some (wI .i64 (vK s p k))=_
 rw [XdY (by omega) (by omega)]
theorem XmA {s:List UInt8} {p:Nat} (h:p<s.length):vK s p 1=(s[p].toNat:Int):=by
 unfold vK
 rw [List.drop_eq_getElem_cons h]
 show ((Xfy [s[p]]:Nat):Int)=_
 rw [Xhl];simp
theorem Xzd {s:List UInt8} {p:Nat} (h:p+1<s.length):vK s p 2=(s[p].toNat*256+s[p+1].toNat:Int):=by
 unfold vK
 rw [List.drop_eq_getElem_cons (by omega:p<s.length),List.drop_eq_getElem_cons h]
 show ((Xfy [s[p],s[p+1]]:Nat):Int)=_
 rw [Xhl,Xhl];simp
theorem l1 {l:List UInt8} (h:l.length=1):∃ a,l=[a]:=by
 match l,h with
 | [a],_=>exact ⟨a,rfl⟩
theorem l2 {l:List UInt8} (h:l.length=2):∃ a b,l=[a,b]:=by
 match l,h with
 | [a,b],_=>exact ⟨a,b,rfl⟩
theorem l4 {l:List UInt8} (h:l.length=4):∃ a b c d,l=[a,b,c,d]:=by
 match l,h with
 | [a,b,c,d],_=>exact ⟨a,b,c,d,rfl⟩
theorem Xkh {s w:List UInt8} {p k n:Nat} (h:(s.drop p).take k=w) (e:w=be n k) (hn:n<256^k):vK s p k=(n:Int):=by
 unfold vK;rw [h,e,XjE hn]
theorem Xzn (src dst:Xaa) (p n:Int):(Xlb src dst p n).length%2=0:=by
 unfold Xlb
 split
 ·rename_i h
  rw [List.length_append,List.length_append,XeH,XeH,←h.2.2]
  cases src.V6
  ·simp only [cond_false,List.length_append]
   rw [show (XcG 0 1).length=1 from rfl,show XcG p 1=be p.toNat 1 from XfJ (k:=1) (by omega),show XcG n 2=be n.toNat 2 from XfJ (k:=2) (by omega),Xe4,Xe4]
  ·simp only [cond_true,List.length_append]
   rw [show (XcG 0 3).length=3 from rfl,show XcG p 1=be p.toNat 1 from XfJ (k:=1) (by omega),show XcG n 4=be n.toNat 4 from XfJ (k:=4) (by omega),Xe4,Xe4]
 ·rfl
end Go.Vm.Code
namespace Go.Vm.Code
open Go Go.Vm Go.Proofs
set_option maxRecDepth 100000
set_option maxHeartbeats 4000000
set_option linter.unusedVariables false
def XiJ (n:Int) (most:Int):Option Bool:=
 cond (decide (0≤n))
  (
  some (decide (n≤most)))
  (
  some (false))
def XGS (x:Bool):XcU:=⟨.bool x,[],[]⟩
abbrev Xej:=Int→Int→Option Bool
def r203 (g:Xej):Dec:=dV (asI .i64) fun (y0:Int)=>dV (asI .i64) fun (y1:Int)=>Xd2 (ofG (g y0 y1) XGS)
theorem XR6 {g:Xej} {y0:Int} {y1:Int} {x:Bool} (hx:g y0 y1=some x):r203 g [.int .i64 y0,.int .i64 y1] []=some (XGS x):=(XaO (Xen _)).trans ((XaO (Xen _)).trans (XaN hx))
def s203 (g:Xej):XbC:=⟨[.v,.v],r203 g⟩
theorem XPG {g:Xej} {y0:Int} {y1:Int} {x:Bool} (hx:g y0 y1=some x):(s203 g).run [.int .i64 y0,.int .i64 y1] []=some (XGS x):=XR6 hx
abbrev XJQ:List (Nat×XbC):=[]
theorem XEc (hS:Xak Tryz.prog (XaD (XJQ))) (n:Int) (most:Int) (res:Bool) (h:XiJ n most=some res) :
 XaF Tryz.prog 203 0 ⟨⟨203,12,[(0,.int .i64 n),(1,.int .i64 most)],[.code XIa],[],false,none⟩,[],[],0⟩ (fun v H _=>Res 0 (XGS res) v H):=by
 unfold XiJ at h
 refine Xa4 XaC hS true 3000 ?_
 conv=>whnf
 exact W
def Xcp:Xej:=XiJ
theorem XNG:XbD Tryz.prog 203 (s203 Xcp):=by
 have hL:=XEc (Xak.XaJ trivial)
 exact okA ⟨Tryz.f203,rfl,by decide,rfl⟩
def XjT (XaB:XbV) (a:Xaa):Option Bool:=
 cond (!a.V6)
  (
  (XaB a).bind fun xr=>
  some (xr))
  (
  some (false))
def XG4 (x:Bool):XcU:=⟨.bool x,[],[]⟩
abbrev XeR:=Xaa→Option Bool
def r204 (g:XeR):Dec:=dV Xb4 fun (y0:Xaa)=>Xd2 (ofG (g y0) XG4)
theorem XVl {g:XeR} {y0:Xaa} {x:Bool} (hx:g y0=some x):r204 g [.agg ⟨[.bool y0.V6,.int .u64 y0.Hi,.int .u64 y0.Lo]⟩] []=some (XG4 x):=(XaO (XbM _)).trans (XaN hx)
def s204 (g:XeR):XbC:=⟨[.v],r204 g⟩
theorem XJ9 {g:XeR} {y0:Xaa} {x:Bool} (hx:g y0=some x):(s204 g).run [.agg ⟨[.bool y0.V6,.int .u64 y0.Hi,.int .u64 y0.Lo]⟩] []=some (XG4 x):=XVl hx
abbrev XOb (XaB:XbV):List (Nat×XbC):=[(110,XOl XaB)]
theorem XFq (XaB:XbV) (hS:Xak Tryz.prog (XaD (XOb XaB))) (a:Xaa) (res:Bool) (h:XjT XaB a=some res) :
 XaF Tryz.prog 204 0 ⟨⟨204,10,[(0,.agg ⟨[.bool a.V6,.int .u64 a.Hi,.int .u64 a.Lo]⟩)],[.code XJc],[],false,none⟩,[],[],0⟩ (fun v H _=>Res 0 (XG4 res) v H):=by
 unfold XjT at h
 have R1:=@Xqm XaB
 refine Xa4 XaC hS true 3000 ?_
 conv=>whnf
 exact W
def Xea:XeR:=XjT XaB
theorem XOh:XbD Tryz.prog 204 (s204 Xea):=by
 have hL:=XFq XaB (Xak.XaJ ⟨Xqf,trivial⟩)
 exact okA ⟨Tryz.f204,rfl,by decide,rfl⟩
def Xhj (Xea:XeR) (Xcp:Xej) (ha0:Xal):Option Bool:=
 (Xcp ha0.Class 255).bind fun w=>
 cond (!w)
  (
  some (false))
  (
  (Xcp ha0.Mark 65535).bind fun w1=>
  cond (!w1)
   (
   some (false))
   (
   (Xcp ha0.TTL 255).bind fun w2=>
   cond (!w2)
    (
    some (false))
    (
    (Xcp ha0.Proto 255).bind fun w3=>
    cond (!w3)
     (
     some (false))
     (
     (Xea ha0.Src).bind fun f=>
     cond (f)
      (
      (Xea ha0.Dst).bind fun f1=>
      cond (f1)
       (
       cond (((ha0.Options.length:Int).tmod 4)==0)
        (
        some (decide ((ha0.Options.length:Int)≤40)))
        (
        some (false)))
       (
       some (false)))
      (
      some (false))))))
def XCo (x:Bool):XcU:=⟨.bool x,[],[]⟩
abbrev Xdt:=Xal→Option Bool
def r199 (g:Xdt):Dec:=dV Xf5 fun (y0:Xal)=>Xd2 (ofG (g y0) XCo)
theorem XWq {g:Xdt} {y0:Xal} {x:Bool} (hx:g y0=some x):r199 g [.agg ⟨[.int .i64 y0.Class,.int .i64 y0.Mark,.bool y0.Whole,.int .i64 y0.TTL,.int .i64 y0.Proto,.bool y0.Src.V6,.int .u64 y0.Src.Hi,.int .u64 y0.Src.Lo,.bool y0.Dst.V6,.int .u64 y0.Dst.Hi,.int .u64 y0.Dst.Lo,.string ⟨⟨y0.Options⟩⟩]⟩] []=some (XCo x):=(XaO (Xh3 _)).trans (XaN hx)
def s199 (g:Xdt):XbC:=⟨[.v],r199 g⟩
theorem XOu {g:Xdt} {y0:Xal} {x:Bool} (hx:g y0=some x):(s199 g).run [.agg ⟨[.int .i64 y0.Class,.int .i64 y0.Mark,.bool y0.Whole,.int .i64 y0.TTL,.int .i64 y0.Proto,.bool y0.Src.V6,.int .u64 y0.Src.Hi,.int .u64 y0.Src.Lo,.bool y0.Dst.V6,.int .u64 y0.Dst.Hi,.int .u64 y0.Dst.Lo,.string ⟨⟨y0.Options⟩⟩]⟩] []=some (XCo x):=XWq hx
abbrev XO0 (Xea:XeR) (Xcp:Xej):List (Nat×XbC):=[(204,s204 Xea),(203,s203 Xcp)]
theorem XDj (Xea:XeR) (Xcp:Xej) (hS:Xak Tryz.prog (XaD (XO0 Xea Xcp))) (ha0:Xal) (res:Bool) (h:Xhj Xea Xcp ha0=some res) :
 XaF Tryz.prog 199 0 ⟨⟨199,46,[(0,.agg ⟨[.int .i64 ha0.Class,.int .i64 ha0.Mark,.bool ha0.Whole,.int .i64 ha0.TTL,.int .i64 ha0.Proto,.bool ha0.Src.V6,.int .u64 ha0.Src.Hi,.int .u64 ha0.Src.Lo,.bool ha0.Dst.V6,.int .u64 ha0.Dst.Hi,.int .u64 ha0.Dst.Lo,.string ⟨⟨ha0.Options⟩⟩]⟩)],[.code XH5],[],false,none⟩,[],[],0⟩ (fun v H _=>Res 0 (XCo res) v H):=by
 unfold Xhj at h
 have R1:=@XPG Xcp
 have R2:=@XJ9 Xea
 refine Xa4 XaC hS true 3000 ?_
 conv=>whnf
 exact W
def Xcy:Xdt:=Xhj Xea Xcp
theorem XN1:XbD Tryz.prog 199 (s199 Xcy):=by
 have hL:=XDj Xea Xcp (Xak.XaJ ⟨XOh,XNG,trivial⟩)
 exact okA ⟨Tryz.f199,rfl,by decide,rfl⟩
def Xkz (XbZ:Xeb) (Xbx:Xdl) (XaW:XcO) (Xcy:Xdt) (Xb0:Xec) (ha0:Xal) (payload:List UInt8):Option ((List UInt8)×Int):=
 let t:=wI .i64 (20+(ha0.Options.length:Int))
 (Xcy ha0).bind fun m=>
 cond (!m)
  (
  some (([],1)))
  (
  let t1:=decide ((payload.length:Int)>(wI .i64 (65535 - t)))
  cond (t1)
   (
   some (([],5)))
   (
   cond (ha0.Whole)
    (
    (Xb0 [XlO .i64 64 (wI .i64 (t.tdiv 4)),1,ha0.Class,1,wI .i64 (t+(payload.length:Int)),2,ha0.Mark,2,64,1,0,1,ha0.TTL,1,ha0.Proto,1,0,2]).bind fun xr=>
    (XbZ ha0.Src).bind fun p=>
    (XbZ ha0.Dst).bind fun p1=>
    Xbn (decide (p.length+p1.length<2^63)) <|
    Xbn (decide ((p++p1).length+ha0.Options.length<2^63)) <|
    Xbn (decide (xr.length+((p++p1)++ha0.Options).length<2^63)) <|
    (Xbx (xr++((p++p1)++ha0.Options))).bind fun xo=>
    (XaW (xr++((p++p1)++ha0.Options)) 10 2 (wI .u64 xo)).bind fun s=>
    Xbn (decide (s.length+payload.length<2^63)) <|
    some ((s++payload,0)))
    (
    (Xb0 [XlO .i64 64 (wI .i64 (t.tdiv 4)),1,ha0.Class,1,wI .i64 (t+(payload.length:Int)),2,ha0.Mark,2,0,1,0,1,ha0.TTL,1,ha0.Proto,1,0,2]).bind fun xr1=>
    (XbZ ha0.Src).bind fun p2=>
    (XbZ ha0.Dst).bind fun p3=>
    Xbn (decide (p2.length+p3.length<2^63)) <|
    Xbn (decide ((p2++p3).length+ha0.Options.length<2^63)) <|
    Xbn (decide (xr1.length+((p2++p3)++ha0.Options).length<2^63)) <|
    (Xbx (xr1++((p2++p3)++ha0.Options))).bind fun xo1=>
    (XaW (xr1++((p2++p3)++ha0.Options)) 10 2 (wI .u64 xo1)).bind fun s1=>
    Xbn (decide (s1.length+payload.length<2^63)) <|
    some ((s1++payload,0)))))
def XC1 (x:(List UInt8)×Int):XcU:=⟨.tuple ⟨[.string ⟨⟨x.1⟩⟩,.int .i64 x.2]⟩,[],[]⟩
abbrev Xfg:=Xal→(List UInt8)→Option ((List UInt8)×Int)
def r185 (g:Xfg):Dec:=dV Xf5 fun (y0:Xal)=>dV asS fun (y1:List UInt8)=>Xd2 (ofG (g y0 y1) XC1)
theorem XT0 {g:Xfg} {y0:Xal} {y1:List UInt8} {x:(List UInt8)×Int} (hx:g y0 y1=some x):r185 g [.agg ⟨[.int .i64 y0.Class,.int .i64 y0.Mark,.bool y0.Whole,.int .i64 y0.TTL,.int .i64 y0.Proto,.bool y0.Src.V6,.int .u64 y0.Src.Hi,.int .u64 y0.Src.Lo,.bool y0.Dst.V6,.int .u64 y0.Dst.Hi,.int .u64 y0.Dst.Lo,.string ⟨⟨y0.Options⟩⟩]⟩,.string ⟨⟨y1⟩⟩] []=some (XC1 x):=(XaO (Xh3 _)).trans ((XaO (Xd3)).trans (XaN hx))
def s185 (g:Xfg):XbC:=⟨[.v,.v],r185 g⟩
theorem XLm {g:Xfg} {y0:Xal} {y1:List UInt8} {x:(List UInt8)×Int} (hx:g y0 y1=some x):(s185 g).run [.agg ⟨[.int .i64 y0.Class,.int .i64 y0.Mark,.bool y0.Whole,.int .i64 y0.TTL,.int .i64 y0.Proto,.bool y0.Src.V6,.int .u64 y0.Src.Hi,.int .u64 y0.Src.Lo,.bool y0.Dst.V6,.int .u64 y0.Dst.Hi,.int .u64 y0.Dst.Lo,.string ⟨⟨y0.Options⟩⟩]⟩,.string ⟨⟨y1⟩⟩] []=some (XC1 x):=XT0 hx
abbrev XM4 (XbZ:Xeb) (Xbx:Xdl) (XaW:XcO) (Xcy:Xdt) (Xb0:Xec):List (Nat×XbC):=[(195,XRU XbZ),(183,XRy Xbx),(98,s98 XaW),(199,s199 Xcy),(196,s196 Xb0)]
theorem XD8 (XbZ:Xeb) (Xbx:Xdl) (XaW:XcO) (Xcy:Xdt) (Xb0:Xec) (hS:Xak Tryz.prog (XaD (XM4 XbZ Xbx XaW Xcy Xb0))) (ha0:Xal) (payload:List UInt8) (res:(List UInt8)×Int) (h:Xkz XbZ Xbx XaW Xcy Xb0 ha0 payload=some res) :
 XaF Tryz.prog 185 0 ⟨⟨185,62,[(0,.agg ⟨[.int .i64 ha0.Class,.int .i64 ha0.Mark,.bool ha0.Whole,.int .i64 ha0.TTL,.int .i64 ha0.Proto,.bool ha0.Src.V6,.int .u64 ha0.Src.Hi,.int .u64 ha0.Src.Lo,.bool ha0.Dst.V6,.int .u64 ha0.Dst.Hi,.int .u64 ha0.Dst.Lo,.string ⟨⟨ha0.Options⟩⟩]⟩),(1,.string ⟨⟨payload⟩⟩)],[.code XBa],[],false,none⟩,[],[],0⟩ (fun v H _=>Res 0 (XC1 res) v H):=by
 unfold Xkz at h
 have R1:=@XOu Xcy
 have R2:=@XBf Xb0
 have R3:=@XuF XbZ
 have R4:=@Xur Xbx
 have R5:=@XAj XaW
 refine Xa4 XaC hS true 3000 ?_
 conv=>whnf
 exact W
def Xes:Xfg:=Xkz XbZ Xbx XaW Xcy Xb0
theorem XM5:XbD Tryz.prog 185 (s185 Xes):=by
 have hL:=XD8 XbZ Xbx XaW Xcy Xb0 (Xak.XaJ ⟨XuY,Xt1,XxR,XN1,XBu,trivial⟩)
 exact okA ⟨Tryz.f185,rfl,by decide,rfl⟩
def Xsf (n:Int) (most:Int):Option Bool:=
 cond (decide (n≥0))
  (
  some (decide (n≤most)))
  (
  some (false))
def XFl (x:Bool):XcU:=⟨.bool x,[],[]⟩
abbrev Xi2:=Int→Int→Option Bool
def r175 (g:Xi2):Dec:=dV (asI .i64) fun (y0:Int)=>dV (asI .i64) fun (y1:Int)=>Xd2 (ofG (g y0 y1) XFl)
theorem XUP {g:Xi2} {y0:Int} {y1:Int} {x:Bool} (hx:g y0 y1=some x):r175 g [.int .i64 y0,.int .i64 y1] []=some (XFl x):=(XaO (Xen _)).trans ((XaO (Xen _)).trans (XaN hx))
def s175 (g:Xi2):XbC:=⟨[.v,.v],r175 g⟩
theorem XN5 {g:Xi2} {y0:Int} {y1:Int} {x:Bool} (hx:g y0 y1=some x):(s175 g).run [.int .i64 y0,.int .i64 y1] []=some (XFl x):=XUP hx
abbrev XNs:List (Nat×XbC):=[]
theorem XEQ (hS:Xak Tryz.prog (XaD (XNs))) (n:Int) (most:Int) (res:Bool) (h:Xsf n most=some res) :
 XaF Tryz.prog 175 0 ⟨⟨175,12,[(0,.int .i64 n),(1,.int .i64 most)],[.code XJx],[],false,none⟩,[],[],0⟩ (fun v H _=>Res 0 (XFl res) v H):=by
 unfold Xsf at h
 refine Xa4 XaC hS true 3000 ?_
 conv=>whnf
 exact W
def Xjb:Xi2:=Xsf
theorem XLi:XbD Tryz.prog 175 (s175 Xjb):=by
 have hL:=XEQ (Xak.XaJ trivial)
 exact okA ⟨Tryz.f175,rfl,by decide,rfl⟩
def XnM (XaL:Xcb) (a:Xaa):Option Bool:=
 (XaL a).bind fun xr=>
 cond (xr)
  (
  some (!a.V6))
  (
  some (false))
def XEt (x:Bool):XcU:=⟨.bool x,[],[]⟩
abbrev XgF:=Xaa→Option Bool
def r176 (g:XgF):Dec:=dV Xb4 fun (y0:Xaa)=>Xd2 (ofG (g y0) XEt)
theorem XT6 {g:XgF} {y0:Xaa} {x:Bool} (hx:g y0=some x):r176 g [.agg ⟨[.bool y0.V6,.int .u64 y0.Hi,.int .u64 y0.Lo]⟩] []=some (XEt x):=(XaO (XbM _)).trans (XaN hx)
def s176 (g:XgF):XbC:=⟨[.v],r176 g⟩
theorem XL8 {g:XgF} {y0:Xaa} {x:Bool} (hx:g y0=some x):(s176 g).run [.agg ⟨[.bool y0.V6,.int .u64 y0.Hi,.int .u64 y0.Lo]⟩] []=some (XEt x):=XT6 hx
abbrev XOo (XaL:Xcb):List (Nat×XbC):=[(59,s59 XaL)]
theorem XG9 (XaL:Xcb) (hS:Xak Tryz.prog (XaD (XOo XaL))) (a:Xaa) (res:Bool) (h:XnM XaL a=some res) :
 XaF Tryz.prog 176 0 ⟨⟨176,10,[(0,.agg ⟨[.bool a.V6,.int .u64 a.Hi,.int .u64 a.Lo]⟩)],[.code XJl],[],false,none⟩,[],[],0⟩ (fun v H _=>Res 0 (XEt res) v H):=by
 unfold XnM at h
 have R1:=@Xti XaL
 refine Xa4 XaC hS true 3000 ?_
 conv=>whnf
 exact W
def Xgu:XgF:=XnM XaL
theorem XNz:XbD Tryz.prog 176 (s176 Xgu):=by
 have hL:=XG9 XaL (Xak.XaJ ⟨XsX,trivial⟩)
 exact okA ⟨Tryz.f176,rfl,by decide,rfl⟩
def Xmd (Xgu:XgF) (Xjb:Xi2) (ha0:Xal):Option Bool:=
 (Xjb ha0.Class 255).bind fun i=>
 cond (i)
  (
  (Xjb ha0.Mark 65535).bind fun i1=>
  cond (i1)
   (
   (Xjb ha0.TTL 255).bind fun i2=>
   cond (i2)
    (
    (Xjb ha0.Proto 255).bind fun i3=>
    cond (i3)
     (
     (Xgu ha0.Src).bind fun f=>
     cond (f)
      (
      (Xgu ha0.Dst).bind fun f1=>
      cond (f1)
       (
       cond (decide ((ha0.Options.length:Int)≤40))
        (
        some (((ha0.Options.length:Int).tmod 4)==0))
        (
        some (false)))
       (
       some (false)))
      (
      some (false)))
     (
     some (false)))
    (
    some (false)))
   (
   some (false)))
  (
  some (false))
def XGM (x:Bool):XcU:=⟨.bool x,[],[]⟩
abbrev Xf2:=Xal→Option Bool
def r151 (g:Xf2):Dec:=dV Xf5 fun (y0:Xal)=>Xd2 (ofG (g y0) XGM)
theorem XRo {g:Xf2} {y0:Xal} {x:Bool} (hx:g y0=some x):r151 g [.agg ⟨[.int .i64 y0.Class,.int .i64 y0.Mark,.bool y0.Whole,.int .i64 y0.TTL,.int .i64 y0.Proto,.bool y0.Src.V6,.int .u64 y0.Src.Hi,.int .u64 y0.Src.Lo,.bool y0.Dst.V6,.int .u64 y0.Dst.Hi,.int .u64 y0.Dst.Lo,.string ⟨⟨y0.Options⟩⟩]⟩] []=some (XGM x):=(XaO (Xh3 _)).trans (XaN hx)
def s151 (g:Xf2):XbC:=⟨[.v],r151 g⟩
theorem XOm {g:Xf2} {y0:Xal} {x:Bool} (hx:g y0=some x):(s151 g).run [.agg ⟨[.int .i64 y0.Class,.int .i64 y0.Mark,.bool y0.Whole,.int .i64 y0.TTL,.int .i64 y0.Proto,.bool y0.Src.V6,.int .u64 y0.Src.Hi,.int .u64 y0.Src.Lo,.bool y0.Dst.V6,.int .u64 y0.Dst.Hi,.int .u64 y0.Dst.Lo,.string ⟨⟨y0.Options⟩⟩]⟩] []=some (XGM x):=XRo hx
abbrev XPI (Xgu:XgF) (Xjb:Xi2):List (Nat×XbC):=[(176,s176 Xgu),(175,s175 Xjb)]
theorem XFL (Xgu:XgF) (Xjb:Xi2) (hS:Xak Tryz.prog (XaD (XPI Xgu Xjb))) (ha0:Xal) (res:Bool) (h:Xmd Xgu Xjb ha0=some res) :
 XaF Tryz.prog 151 0 ⟨⟨151,44,[(0,.agg ⟨[.int .i64 ha0.Class,.int .i64 ha0.Mark,.bool ha0.Whole,.int .i64 ha0.TTL,.int .i64 ha0.Proto,.bool ha0.Src.V6,.int .u64 ha0.Src.Hi,.int .u64 ha0.Src.Lo,.bool ha0.Dst.V6,.int .u64 ha0.Dst.Hi,.int .u64 ha0.Dst.Lo,.string ⟨⟨ha0.Options⟩⟩]⟩)],[.code XIO],[],false,none⟩,[],[],0⟩ (fun v H _=>Res 0 (XGM res) v H):=by
 unfold Xmd at h
 have R1:=@XN5 Xjb
 have R2:=@XL8 Xgu
 refine Xa4 XaC hS true 3000 ?_
 conv=>whnf
 exact W
def XfD:Xf2:=Xmd Xgu Xjb
theorem XLy:XbD Tryz.prog 151 (s151 XfD):=by
 have hL:=XFL Xgu Xjb (Xak.XaJ ⟨XNz,XLi,trivial⟩)
 exact okA ⟨Tryz.f151,rfl,by decide,rfl⟩
def XoV (Xe5:Xgh) (Xdk:Xfa) (Xco:XeJ) (XfD:Xf2) (Xb9:XfB) (ha0:Xal) (payload:List UInt8):Option ((List UInt8)×Int):=
 (XfD ha0).bind fun xr=>
 cond (!xr)
  (
  some (([],1)))
  (
  let t:=wI .i64 (20+(ha0.Options.length:Int))
  let t1:=decide ((payload.length:Int)>(wI .i64 (65535 - t)))
  cond (t1)
   (
   some (([],5)))
   (
   cond (ha0.Whole)
    (
    (Xb9 (wI .i64 (64+(wI .i64 (t.tdiv 4)))) 1).bind fun n=>
    (Xb9 ha0.Class 1).bind fun n1=>
    Xbn (decide (n.length+n1.length<2^63)) <|
    (Xb9 (wI .i64 (t+(payload.length:Int))) 2).bind fun n2=>
    Xbn (decide ((n++n1).length+n2.length<2^63)) <|
    (Xb9 ha0.Mark 2).bind fun n3=>
    Xbn (decide (((n++n1)++n2).length+n3.length<2^63)) <|
    (Xb9 64 1).bind fun n4=>
    Xbn (decide ((((n++n1)++n2)++n3).length+n4.length<2^63)) <|
    (Xb9 0 1).bind fun n5=>
    Xbn (decide (((((n++n1)++n2)++n3)++n4).length+n5.length<2^63)) <|
    (Xb9 ha0.TTL 1).bind fun n6=>
    Xbn (decide ((((((n++n1)++n2)++n3)++n4)++n5).length+n6.length<2^63)) <|
    let t2:=(((((n++n1)++n2)++n3)++n4)++n5)++n6
    (Xb9 ha0.Proto 1).bind fun n7=>
    Xbn (decide (t2.length+n7.length<2^63)) <|
    (Xb9 0 2).bind fun n8=>
    Xbn (decide ((t2++n7).length+n8.length<2^63)) <|
    (Xco ha0.Src).bind fun p=>
    Xbn (decide (((t2++n7)++n8).length+p.length<2^63)) <|
    (Xco ha0.Dst).bind fun p1=>
    Xbn (decide ((((t2++n7)++n8)++p).length+p1.length<2^63)) <|
    Xbn (decide (((((t2++n7)++n8)++p)++p1).length+ha0.Options.length<2^63)) <|
    let t3:=((((t2++n7)++n8)++p)++p1)++ha0.Options
    (Xe5 t3).bind fun xo=>
    (Xdk t3 10 2 (wI .u64 xo)).bind fun s=>
    Xbn (decide (s.length+payload.length<2^63)) <|
    some ((s++payload,0)))
    (
    (Xb9 (wI .i64 (64+(wI .i64 (t.tdiv 4)))) 1).bind fun n9=>
    (Xb9 ha0.Class 1).bind fun n10=>
    Xbn (decide (n9.length+n10.length<2^63)) <|
    (Xb9 (wI .i64 (t+(payload.length:Int))) 2).bind fun n11=>
    Xbn (decide ((n9++n10).length+n11.length<2^63)) <|
    (Xb9 ha0.Mark 2).bind fun n12=>
    Xbn (decide (((n9++n10)++n11).length+n12.length<2^63)) <|
    (Xb9 0 1).bind fun n13=>
    Xbn (decide ((((n9++n10)++n11)++n12).length+n13.length<2^63)) <|
    (Xb9 0 1).bind fun n14=>
    Xbn (decide (((((n9++n10)++n11)++n12)++n13).length+n14.length<2^63)) <|
    let t4:=((((n9++n10)++n11)++n12)++n13)++n14
    (Xb9 ha0.TTL 1).bind fun n15=>
    Xbn (decide (t4.length+n15.length<2^63)) <|
    (Xb9 ha0.Proto 1).bind fun n16=>
    Xbn (decide ((t4++n15).length+n16.length<2^63)) <|
    (Xb9 0 2).bind fun n17=>
    Xbn (decide (((t4++n15)++n16).length+n17.length<2^63)) <|
    (Xco ha0.Src).bind fun p2=>
    Xbn (decide ((((t4++n15)++n16)++n17).length+p2.length<2^63)) <|
    (Xco ha0.Dst).bind fun p3=>
    Xbn (decide (((((t4++n15)++n16)++n17)++p2).length+p3.length<2^63)) <|
    let t5:=((((t4++n15)++n16)++n17)++p2)++p3
    Xbn (decide (t5.length+ha0.Options.length<2^63)) <|
    (Xe5 (t5++ha0.Options)).bind fun xo1=>
    (Xdk (t5++ha0.Options) 10 2 (wI .u64 xo1)).bind fun s1=>
    Xbn (decide (s1.length+payload.length<2^63)) <|
    some ((s1++payload,0)))))
def XG0 (x:(List UInt8)×Int):XcU:=⟨.tuple ⟨[.string ⟨⟨x.1⟩⟩,.int .i64 x.2]⟩,[],[]⟩
abbrev Xhu:=Xal→(List UInt8)→Option ((List UInt8)×Int)
def r104 (g:Xhu):Dec:=dV Xf5 fun (y0:Xal)=>dV asS fun (y1:List UInt8)=>Xd2 (ofG (g y0 y1) XG0)
theorem XVT {g:Xhu} {y0:Xal} {y1:List UInt8} {x:(List UInt8)×Int} (hx:g y0 y1=some x):r104 g [.agg ⟨[.int .i64 y0.Class,.int .i64 y0.Mark,.bool y0.Whole,.int .i64 y0.TTL,.int .i64 y0.Proto,.bool y0.Src.V6,.int .u64 y0.Src.Hi,.int .u64 y0.Src.Lo,.bool y0.Dst.V6,.int .u64 y0.Dst.Hi,.int .u64 y0.Dst.Lo,.string ⟨⟨y0.Options⟩⟩]⟩,.string ⟨⟨y1⟩⟩] []=some (XG0 x):=(XaO (Xh3 _)).trans ((XaO (Xd3)).trans (XaN hx))
def s104 (g:Xhu):XbC:=⟨[.v,.v],r104 g⟩
theorem XKe {g:Xhu} {y0:Xal} {y1:List UInt8} {x:(List UInt8)×Int} (hx:g y0 y1=some x):(s104 g).run [.agg ⟨[.int .i64 y0.Class,.int .i64 y0.Mark,.bool y0.Whole,.int .i64 y0.TTL,.int .i64 y0.Proto,.bool y0.Src.V6,.int .u64 y0.Src.Hi,.int .u64 y0.Src.Lo,.bool y0.Dst.V6,.int .u64 y0.Dst.Hi,.int .u64 y0.Dst.Lo,.string ⟨⟨y0.Options⟩⟩]⟩,.string ⟨⟨y1⟩⟩] []=some (XG0 x):=XVT hx
abbrev XPi (Xe5:Xgh) (Xdk:Xfa) (Xco:XeJ) (XfD:Xf2) (Xb9:XfB):List (Nat×XbC):=[(65,s65 Xe5),(64,s64 Xdk),(146,XTi Xco),(151,s151 XfD),(147,s147 Xb9)]
theorem XFn (Xe5:Xgh) (Xdk:Xfa) (Xco:XeJ) (XfD:Xf2) (Xb9:XfB) (hS:Xak Tryz.prog (XaD (XPi Xe5 Xdk Xco XfD Xb9))) (ha0:Xal) (payload:List UInt8) (res:(List UInt8)×Int) (h:XoV Xe5 Xdk Xco XfD Xb9 ha0 payload=some res) :
 XaF Tryz.prog 104 0 ⟨⟨104,74,[(0,.agg ⟨[.int .i64 ha0.Class,.int .i64 ha0.Mark,.bool ha0.Whole,.int .i64 ha0.TTL,.int .i64 ha0.Proto,.bool ha0.Src.V6,.int .u64 ha0.Src.Hi,.int .u64 ha0.Src.Lo,.bool ha0.Dst.V6,.int .u64 ha0.Dst.Hi,.int .u64 ha0.Dst.Lo,.string ⟨⟨ha0.Options⟩⟩]⟩),(1,.string ⟨⟨payload⟩⟩)],[.code Xye],[],false,none⟩,[],[],0⟩ (fun v H _=>Res 0 (XG0 res) v H):=by
 unfold XoV at h
 have R1:=@XOm XfD
 have R2:=@Xxz Xb9
 have R3:=@Xt2 Xco
 have R4:=@XIC Xe5
 have R5:=@XJC Xdk
 refine Xa4 XaC hS true 3000 ?_
 conv=>whnf
 exact W
def Xic:Xhu:=XoV Xe5 Xdk Xco XfD Xb9
theorem XOD:XbD Tryz.prog 104 (s104 Xic):=by
 have hL:=XFn Xe5 Xdk Xco XfD Xb9 (Xak.XaJ ⟨XIZ,XI6,Xuc,XLy,XAs,trivial⟩)
 exact okA ⟨Tryz.f104,rfl,by decide,rfl⟩
end Go.Vm.Code
namespace Go.Vm.Code
open Go Go.Vm
theorem Xw0 (n m:Int):Xcp n m=some (inR n m):=by
 unfold Xcp XiJ inR
 by_cases h:0≤n
 ·rw [XaP h];simp [h]
 ·rw [XaI h];simp [h]
theorem XRG (n m:Int):Xjb n m=some (inR n m):=by
 unfold Xjb Xsf inR
 by_cases h:0≤n
 ·rw [XaP (by omega)];simp [h]
 ·rw [XaI (by omega)];simp [h]
def four (a:Xaa):Bool:=!a.V6&&aok a
theorem XJ5 (a:Xaa):Xea a=some (four a):=by
 unfold Xea XjT four
 rw [Xkf];cases a.V6<;>rfl
theorem XEK (a:Xaa):Xgu a=some (four a):=by
 unfold Xgu XnM four
 rw [Xjp];cases aok a<;>cases a.V6<;>rfl
def H5 (h:Xal):Bool:=inR h.Class 255&&inR h.Mark 65535&&inR h.TTL 255&&inR h.Proto 255&&four h.Src&&four h.Dst&&decide (h.Options.length%4=0)&&decide (h.Options.length≤40)
theorem XKf (h:Xal):Xcy h=some (H5 h):=by
 unfold Xcy Xhj H5
 simp only [Xw0,XJ5,Option.bind_some,XrE,XvR]
 cases inR h.Class 255<;>cases inR h.Mark 65535<;>cases inR h.TTL 255<;>cases inR h.Proto 255<;>cases four h.Src<;>cases four h.Dst<;>cases decide (h.Options.length%4=0)<;>rfl
theorem XzI (h:Xal):XfD h=some (H5 h):=by
 unfold XfD Xmd H5
 simp only [XRG,XEK,Option.bind_some,XrE,XvR]
 cases inR h.Class 255<;>cases inR h.Mark 65535<;>cases inR h.TTL 255<;>cases inR h.Proto 255<;>cases four h.Src<;>cases four h.Dst<;>cases decide (h.Options.length%4=0)<;>cases decide (h.Options.length≤40)<;>rfl
def hd5 (h:Xal) (n:Int):List UInt8:=
 XcG (64+((20+h.Options.length)/4:Nat)) 1++XcG h.Class 1++XcG n 2++XcG h.Mark 2++XcG (cond h.Whole 64 0) 1++XcG 0 1++XcG h.TTL 1++XcG h.Proto 1++XcG 0 2++Xeq h.Src++Xeq h.Dst++h.Options
theorem XuT (h:Xal) (n:Int):(hd5 h n).length≤104+h.Options.length:=by
 have a1:=Xba (64+((20+h.Options.length)/4:Nat)) 1
 have a2:=Xba h.Class 1
 have a3:=Xba n 2
 have a4:=Xba h.Mark 2
 have a5:=Xba (cond h.Whole 64 0) 1
 have a6:=Xba 0 1
 have a7:=Xba h.TTL 1
 have a8:=Xba h.Proto 1
 have a9:=Xba 0 2
 have b1:(Xeq h.Src).length≤16:=by rw [XeH];cases h.Src.V6<;>decide
 have b2:(Xeq h.Dst).length≤16:=by rw [XeH];cases h.Dst.V6<;>decide
 unfold hd5
 simp only [List.length_append];omega
def XJ2 (h:Xal) (l:List UInt8):List UInt8×Int:=
 if H5 h=false then ([],1) else if 65535 - (20+(h.Options.length:Int))<l.length then ([],5) else
  (Xsu (hd5 h (20+h.Options.length+l.length)) 10 2 (65535 - (norm (Xfp (hd5 h (20+h.Options.length+l.length))):Nat))++l,0)
theorem XoW (s:List UInt8) (p k n:Int):(Xsu s p k n).length≤s.length+8:=by
 unfold Xsu
 split
 ·simp;omega
 ·omega
theorem XGo {t l:List UInt8} (ht:t.length≤2^20) (hl:l.length<2^30):((Xbx t).bind fun xo=>(XaW t 10 2 (wI .u64 xo)).bind fun s=>Xbn (decide (s.length+l.length<2^63)) (some (s++l,(0:Int))))=some (Xsu t 10 2 (65535 - (norm (Xfp t):Nat))++l,0):=by
 have:=norm_le (Xfp t)
 have hs:=XoW t 10 2 (65535 - (norm (Xfp t):Nat))
 rw [XDs (by omega),Option.bind_some,Xf7 (by omega) (by omega),Xv4 (by omega) (by omega),Option.bind_some,Xat (by omega)]
theorem Xtf {t l:List UInt8} (ht:t.length≤2^20) (hl:l.length<2^30):((Xe5 t).bind fun xo=>(Xdk t 10 2 (wI .u64 xo)).bind fun s=>Xbn (decide (s.length+l.length<2^63)) (some (s++l,(0:Int))))=some (Xsu t 10 2 (65535 - (norm (Xfp t):Nat))++l,0):=by
 have:=norm_le (Xfp t)
 have hs:=XoW t 10 2 (65535 - (norm (Xfp t):Nat))
 rw [XpS (by omega),Option.bind_some,Xf7 (by omega) (by omega),XlZ (by omega) (by omega) (by omega),Option.bind_some,Xat (by omega)]
theorem XAn {h:Xal} (hh:H5 h=true):(0≤h.Class∧h.Class≤255)∧(0≤h.Mark∧h.Mark≤65535)∧(0≤h.TTL∧h.TTL≤255)∧(0≤h.Proto∧h.Proto≤255)∧(h.Src.V6=false∧aok h.Src=true)∧(h.Dst.V6=false∧aok h.Dst=true)∧h.Options.length%4=0∧h.Options.length≤40:=by
 unfold H5 four at hh
 simp only [Bool.and_eq_true,XuK,Bool.not_eq_true',decide_eq_true_eq] at hh
 obtain ⟨⟨⟨⟨⟨⟨⟨a,b⟩,c⟩,d⟩,e⟩,f⟩,g⟩,i⟩:=hh
 exact ⟨a,b,c,d,e,f,g,i⟩
theorem p5_eq {h:Xal} {l:List UInt8} (h1:A4 h.Src) (h2:A4 h.Dst) (hl:l.length<2^20) (ho:h.Options.length<2^20):Xes h l=some (XJ2 h l):=by
 unfold Xes Xkz XJ2
 rw [XKf,Option.bind_some]
 cases hh:H5 h
 ·rfl
 obtain ⟨q1,q2,q3,q4,q5,q6,q7,q8⟩:=XAn hh
 simp only [Bool.not_true,cond_false]
 rw [if_neg (by decide),XdY (n:=20+(h.Options.length:Int)) (by omega) (by omega),XdY (n:=65535 - (20+(h.Options.length:Int))) (by omega) (by omega)]
 by_cases h5:(l.length:Int)>65535 - (20+(h.Options.length:Int))
 ·rw [XaP h5,if_pos (by omega)]
 rw [XaI h5,if_neg (by omega)]
 have b1:(Xeq h.Src).length≤16:=by rw [XeH];cases h.Src.V6<;>decide
 have b2:(Xeq h.Dst).length≤16:=by rw [XeH];cases h.Dst.V6<;>decide
 have eo:XlO .i64 64 (wI .i64 (((20+h.Options.length)/4:Nat):Int))=64+(((20+h.Options.length)/4:Nat):Int):=by
  rw [XdY (by omega) (by omega)]
  exact XqI 4 (a:=4) (by omega) (by omega) (by omega) (by omega) (by omega)
 have hlen:=XuT h (20+h.Options.length+l.length)
 have key:∀ fl:Int,fl=cond h.Whole 64 0→((Xb0 [64+(((20+h.Options.length)/4:Nat):Int),1,h.Class,1,20+(h.Options.length:Int)+l.length,2,h.Mark,2,fl,1,0,1,h.TTL,1,h.Proto,1,0,2]).bind fun xr=>Xbn (decide ((Xeq h.Src).length+(Xeq h.Dst).length<2^63))<|Xbn (decide ((Xeq h.Src++Xeq h.Dst).length+h.Options.length<2^63))<|Xbn (decide (xr.length+((Xeq h.Src++Xeq h.Dst)++h.Options).length<2^63)) <|
  (Xbx (xr++((Xeq h.Src++Xeq h.Dst)++h.Options))).bind fun xo=>(XaW (xr++((Xeq h.Src++Xeq h.Dst)++h.Options)) 10 2 (wI .u64 xo)).bind fun s=>Xbn (decide (s.length+l.length<2^63)) (some (s++l,(0:Int))))=some (Xsu (hd5 h (20+h.Options.length+l.length)) 10 2 (65535 - (norm (Xfp (hd5 h (20+h.Options.length+l.length))):Nat))++l,0):=by
  intro fl hfl
  have hfr:0≤fl∧fl≤64:=by subst hfl;cases h.Whole<;>decide
  have hrow:XMH [64+(((20+h.Options.length)/4:Nat):Int),1,h.Class,1,20+(h.Options.length:Int)+l.length,2,h.Mark,2,fl,1,0,1,h.TTL,1,h.Proto,1,0,2]=XcG (64+((20+h.Options.length)/4:Nat)) 1++(XcG h.Class 1++(XcG (20+(h.Options.length:Int)+l.length) 2++(XcG h.Mark 2++(XcG fl 1++(XcG 0 1++(XcG h.TTL 1++(XcG h.Proto 1++(XcG 0 2++[])))))))):=by
   simp only [XMH]
   rw [Xf7 (n:=64+(((20+h.Options.length)/4:Nat):Int)) (by omega) (by omega),Xf7 q1.1 (by omega),Xf7 (n:=20+(h.Options.length:Int)+l.length) (by omega) (by omega),Xf7 q2.1 (by omega),Xf7 hfr.1 (by omega),Xf7 q3.1 (by omega),Xf7 q4.1 (by omega),show wI .u64 0=0 from rfl]
  rw [XMy (by simp) (by simp) (by simp),hrow,Option.bind_some]
  have e:XcG (64+((20+h.Options.length)/4:Nat)) 1++(XcG h.Class 1++(XcG (20+(h.Options.length:Int)+l.length) 2++(XcG h.Mark 2++(XcG fl 1++(XcG 0 1++(XcG h.TTL 1++(XcG h.Proto 1++(XcG 0 2++[]))))))))++(Xeq h.Src++Xeq h.Dst++h.Options)=hd5 h (20+h.Options.length+l.length):=by
   subst hfl;unfold hd5;simp only [List.append_assoc,List.append_nil]
  have hl2:=congrArg List.length e
  rw [List.length_append] at hl2
  rw [Xat (by omega),Xat (by simp only [List.length_append];omega),Xat (by omega),e]
  exact XGo (by omega) (by omega)
 rw [XdY (n:=20+(h.Options.length:Int)+l.length) (by omega) (by omega),XKF,eo,Xr0 h1 q5.2,Xr0 h2 q6.2]
 simp only [Option.bind_some]
 cases hw:h.Whole
 ·rw [cond_false]
  have:=key 0 (by rw [hw];rfl)
  rw [hw] at *
  exact this
 ·rw [cond_true]
  have:=key 64 (by rw [hw];rfl)
  exact this
theorem XWa {h:Xal} {l:List UInt8} (h1:A4 h.Src) (h2:A4 h.Dst) (hl:l.length<2^20) (ho:h.Options.length<2^20):Xic h l=some (XJ2 h l):=by
 unfold Xic XoV XJ2
 rw [XzI,Option.bind_some]
 cases hh:H5 h
 ·rfl
 obtain ⟨q1,q2,q3,q4,q5,q6,q7,q8⟩:=XAn hh
 simp only [Bool.not_true,cond_false]
 rw [if_neg (by decide),XdY (n:=20+(h.Options.length:Int)) (by omega) (by omega),XdY (n:=65535 - (20+(h.Options.length:Int))) (by omega) (by omega)]
 by_cases h5:(l.length:Int)>65535 - (20+(h.Options.length:Int))
 ·rw [XaP h5,if_pos (by omega)]
 rw [XaI h5,if_neg (by omega)]
 have b1:(Xeq h.Src).length≤16:=by rw [XeH];cases h.Src.V6<;>decide
 have b2:(Xeq h.Dst).length≤16:=by rw [XeH];cases h.Dst.V6<;>decide
 rw [XdY (n:=20+(h.Options.length:Int)+l.length) (by omega) (by omega),XKF,XdY (n:=(((20+h.Options.length)/4:Nat):Int)) (by omega) (by omega),XdY (n:=64+(((20+h.Options.length)/4:Nat):Int)) (by omega) (by omega),Xpe h1 q5.2,Xpe h2 q6.2]
 simp only [XGL,Option.bind_some]
 rw [Xf7 (n:=64+(((20+h.Options.length)/4:Nat):Int)) (by omega) (by omega),Xf7 q1.1 (by omega),Xf7 (n:=20+(h.Options.length:Int)+l.length) (by omega) (by omega),Xf7 q2.1 (by omega),Xf7 q3.1 (by omega),Xf7 q4.1 (by omega),show wI .u64 0=0 from rfl,show wI .u64 64=64 from rfl]
 have a1:=Xba (64+((20+h.Options.length)/4:Nat)) 1
 have a2:=Xba h.Class 1
 have a3:=Xba (20+(h.Options.length:Int)+l.length) 2
 have a4:=Xba h.Mark 2
 have a5:=Xba 64 1
 have a6:=Xba 0 1
 have a7:=Xba h.TTL 1
 have a8:=Xba h.Proto 1
 have a9:=Xba 0 2
 have hlen:=XuT h (20+h.Options.length+l.length)
 cases hw:h.Whole
 ·rw [cond_false]
  have e:XcG (64+((20+h.Options.length)/4:Nat)) 1++XcG h.Class 1++XcG (20+(h.Options.length:Int)+l.length) 2++XcG h.Mark 2++XcG 0 1++XcG 0 1++XcG h.TTL 1++XcG h.Proto 1++XcG 0 2++Xeq h.Src++Xeq h.Dst++h.Options=hd5 h (20+h.Options.length+l.length):=by unfold hd5;rw [hw];rfl
  iterate 11 rw [Xat (by first|omega|(simp only [List.length_append];omega))]
  rw [e]
  exact Xtf (by omega) (by omega)
 ·rw [cond_true]
  have e:XcG (64+((20+h.Options.length)/4:Nat)) 1++XcG h.Class 1++XcG (20+(h.Options.length:Int)+l.length) 2++XcG h.Mark 2++XcG 64 1++XcG 0 1++XcG h.TTL 1++XcG h.Proto 1++XcG 0 2++Xeq h.Src++Xeq h.Dst++h.Options=hd5 h (20+h.Options.length+l.length):=by unfold hd5;rw [hw];rfl
  iterate 11 rw [Xat (by first|omega|(simp only [List.length_append];omega))]
  rw [e]
  exact Xtf (by omega) (by omega)
theorem XQ1 {a b n m f g t p c x y r:List UInt8} (ha:a.length=1) (hb:b.length=1) (hn:n.length=2) (hm:m.length=2) (hf:f.length=1) (hg:g.length=1) (ht:t.length=1) (hp:p.length=1) (hc:c.length=2) (hx:x.length=4) (hy:y.length=4) :
 let s:=a++b++n++m++f++g++t++p++c++x++y++r
 (s.drop 0).take 1=a∧(s.drop 1).take 1=b∧(s.drop 2).take 2=n∧(s.drop 4).take 2=m∧(s.drop 6).take 2=f++g∧(s.drop 8).take 1=t∧(s.drop 9).take 1=p∧(s.drop 12).take 4=x∧(s.drop 16).take 4=y∧s.drop 20=r∧s.take 10=a++b++n++m++f++g++t++p∧s.drop 12=x++y++r:=by
 obtain ⟨a1,rfl⟩:=l1 ha
 obtain ⟨b1,rfl⟩:=l1 hb
 obtain ⟨n1,n2,rfl⟩:=l2 hn
 obtain ⟨m1,m2,rfl⟩:=l2 hm
 obtain ⟨f1,rfl⟩:=l1 hf
 obtain ⟨g1,rfl⟩:=l1 hg
 obtain ⟨t1,rfl⟩:=l1 ht
 obtain ⟨p1,rfl⟩:=l1 hp
 obtain ⟨c1,c2,rfl⟩:=l2 hc
 obtain ⟨x1,x2,x3,x4,rfl⟩:=l4 hx
 obtain ⟨y1,y2,y3,y4,rfl⟩:=l4 hy
 exact ⟨rfl,rfl,rfl,rfl,rfl,rfl,rfl,rfl,rfl,rfl,rfl,rfl⟩
def hc5 (h:Xal) (n c:Nat):List UInt8:=
 be (64+(20+h.Options.length)/4) 1++be h.Class.toNat 1++be n 2++be h.Mark.toNat 2++be (cond h.Whole 64 0) 1++be 0 1++be h.TTL.toNat 1++be h.Proto.toNat 1++be c 2++be h.Src.Lo.toNat 4++be h.Dst.Lo.toNat 4++h.Options
theorem Xsj (h:Xal) (n c:Nat):(hc5 h n c).length=20+h.Options.length:=by simp [hc5];omega
theorem pu1 (n:Int):XcG n 1=be n.toNat 1:=XfJ (k:=1) (by omega)
theorem pu2 (n:Int):XcG n 2=be n.toNat 2:=XfJ (k:=2) (by omega)
theorem XSk {h:Xal} {n:Nat} (h1:h.Src.V6=false) (h2:h.Dst.V6=false):hd5 h (n:Int)=hc5 h n 0:=by
 have e:(64+((20+h.Options.length)/4:Nat):Int).toNat=64+(20+h.Options.length)/4:=by omega
 have ew:(cond h.Whole 64 0:Int).toNat=cond h.Whole 64 0:=by cases h.Whole<;>rfl
 unfold hd5 hc5 Xeq
 rw [h1,h2]
 simp only [pu1,pu2,cond_false,Int.toNat_natCast,e,ew]
 rfl
theorem Xpx (h:Xal) (n c:Nat) (r:List UInt8):let s:=hc5 h n c++r
 (s.drop 0).take 1=be (64+(20+h.Options.length)/4) 1∧(s.drop 1).take 1=be h.Class.toNat 1∧(s.drop 2).take 2=be n 2∧(s.drop 4).take 2=be h.Mark.toNat 2∧(s.drop 6).take 2=be (cond h.Whole 64 0) 1++be 0 1∧(s.drop 8).take 1=be h.TTL.toNat 1∧(s.drop 9).take 1=be h.Proto.toNat 1∧(s.drop 12).take 4=be h.Src.Lo.toNat 4∧(s.drop 16).take 4=be h.Dst.Lo.toNat 4∧s.drop 20=h.Options++r∧s.take 10=be (64+(20+h.Options.length)/4) 1++be h.Class.toNat 1++be n 2++be h.Mark.toNat 2++be (cond h.Whole 64 0) 1++be 0 1++be h.TTL.toNat 1++be h.Proto.toNat 1∧s.drop 12=be h.Src.Lo.toNat 4++be h.Dst.Lo.toNat 4++(h.Options++r):=by
 have e:hc5 h n c++r=be (64+(20+h.Options.length)/4) 1++be h.Class.toNat 1++be n 2++be h.Mark.toNat 2++be (cond h.Whole 64 0) 1++be 0 1++be h.TTL.toNat 1++be h.Proto.toNat 1++be c 2++be h.Src.Lo.toNat 4++be h.Dst.Lo.toNat 4++(h.Options++r):=by simp only [hc5,List.append_assoc]
 rw [e]
 exact XQ1 (Xe4 _ _) (Xe4 _ _) (Xe4 _ _) (Xe4 _ _) (Xe4 _ _) (Xe4 _ _) (Xe4 _ _) (Xe4 _ _) (Xe4 _ _) (Xe4 _ _) (Xe4 _ _)
theorem XQZ {h:Xal} {n:Nat} {c:Int}:Xsu (hc5 h n 0) 10 2 c=hc5 h n c.toNat:=by
 obtain ⟨_,_,_,_,_,_,_,_,_,_,q11,q12⟩:=Xpx h n 0 []
 simp only [List.append_nil] at q11 q12
 unfold Xsu
 rw [if_pos (by rw [Xsj];omega),show (10:Int).toNat=10 from rfl,show ((10:Int)+2).toNat=12 from rfl,q11,q12]
 unfold hc5
 simp only [List.append_assoc];rfl
theorem XPw {h:Xal} {n c:Nat} (hc:c<65536):Xfp (hc5 h n c)=Xfp (hc5 h n 0)+c:=by
 have e:∀ x,hc5 h n x=(be (64+(20+h.Options.length)/4) 1++be h.Class.toNat 1++be n 2++be h.Mark.toNat 2++be (cond h.Whole 64 0) 1++be 0 1++be h.TTL.toNat 1++be h.Proto.toNat 1)++(be x 2++(be h.Src.Lo.toNat 4++be h.Dst.Lo.toNat 4++h.Options)):=fun x=>by simp only [hc5,List.append_assoc]
 have hA:(be (64+(20+h.Options.length)/4) 1++be h.Class.toNat 1++be n 2++be h.Mark.toNat 2++be (cond h.Whole 64 0) 1++be 0 1++be h.TTL.toNat 1++be h.Proto.toNat 1).length%2=0:=by simp
 rw [e c,e 0]
 generalize be (64+(20+h.Options.length)/4) 1++be h.Class.toNat 1++be n 2++be h.Mark.toNat 2++be (cond h.Whole 64 0) 1++be 0 1++be h.TTL.toNat 1++be h.Proto.toNat 1=A at hA
 rw [Xgd _ _ hA,Xgd _ _ hA,Xgd (be c 2) _ (by simp),Xgd (be 0 2) _ (by simp),Xpk hc,Xpk (by omega)];omega
theorem wflag (b:Bool):be (cond b 64 0) 1++be 0 1=be (cond b 16384 0) 2:=by cases b<;>rfl
def ck5 (h:Xal) (n:Nat):Nat:=65535 - norm (Xfp (hc5 h n 0))
theorem XVp (h:Xal) (n:Nat):ck5 h n≤65535∧Xfp (hc5 h n (ck5 h n))%65535=0∧Xfp (hc5 h n (ck5 h n))≠0:=by
 have n1:=norm_le (Xfp (hc5 h n 0))
 have n2:=Xl4 (Xfp (hc5 h n 0))
 have n3:=Xkp (Xfp (hc5 h n 0))
 have hk:ck5 h n<65536:=by unfold ck5;omega
 rw [XPw hk]
 unfold ck5;omega
end Go.Vm.Code
namespace Go.Vm.Code
open Go Go.Vm Go.Proofs
set_option maxRecDepth 100000
set_option maxHeartbeats 4000000
set_option linter.unusedVariables false
def Xh5 (ha0:Xaq):Option Bool:=
 cond (decide (ha0.Class<0))
  (
  some (false))
  (
  cond (decide (ha0.Class>255))
   (
   some (false))
   (
   cond (decide (ha0.Label<0))
    (
    some (false))
    (
    cond (decide (ha0.Label>1048575))
     (
     some (false))
     (
     cond (decide (ha0.Next<0))
      (
      some (false))
      (
      cond (decide (ha0.Next>255))
       (
       some (false))
       (
       cond (decide (ha0.Hop<0))
        (
        some (false))
        (
        cond (decide (ha0.Hop>255))
         (
         some (false))
         (
         cond (ha0.Src.V6)
          (
          some (ha0.Dst.V6))
          (
          some (false))))))))))
def XDc (x:Bool):XcU:=⟨.bool x,[],[]⟩
abbrev XdR:=Xaq→Option Bool
def r198 (g:XdR):Dec:=dV XgL fun (y0:Xaq)=>Xd2 (ofG (g y0) XDc)
theorem XVL {g:XdR} {y0:Xaq} {x:Bool} (hx:g y0=some x):r198 g [.agg ⟨[.int .i64 y0.Class,.int .i64 y0.Label,.int .i64 y0.Next,.int .i64 y0.Hop,.bool y0.Src.V6,.int .u64 y0.Src.Hi,.int .u64 y0.Src.Lo,.bool y0.Dst.V6,.int .u64 y0.Dst.Hi,.int .u64 y0.Dst.Lo]⟩] []=some (XDc x):=(XaO (XiQ _)).trans (XaN hx)
def s198 (g:XdR):XbC:=⟨[.v],r198 g⟩
theorem XKt {g:XdR} {y0:Xaq} {x:Bool} (hx:g y0=some x):(s198 g).run [.agg ⟨[.int .i64 y0.Class,.int .i64 y0.Label,.int .i64 y0.Next,.int .i64 y0.Hop,.bool y0.Src.V6,.int .u64 y0.Src.Hi,.int .u64 y0.Src.Lo,.bool y0.Dst.V6,.int .u64 y0.Dst.Hi,.int .u64 y0.Dst.Lo]⟩] []=some (XDc x):=XVL hx
abbrev XP9:List (Nat×XbC):=[]
theorem XHo (hS:Xak Tryz.prog (XaD (XP9))) (ha0:Xaq) (res:Bool) (h:Xh5 ha0=some res) :
 XaF Tryz.prog 198 0 ⟨⟨198,42,[(0,.agg ⟨[.int .i64 ha0.Class,.int .i64 ha0.Label,.int .i64 ha0.Next,.int .i64 ha0.Hop,.bool ha0.Src.V6,.int .u64 ha0.Src.Hi,.int .u64 ha0.Src.Lo,.bool ha0.Dst.V6,.int .u64 ha0.Dst.Hi,.int .u64 ha0.Dst.Lo]⟩)],[.code Xx6],[],false,none⟩,[],[],0⟩ (fun v H _=>Res 0 (XDc res) v H):=by
 unfold Xh5 at h
 refine Xa4 XaC hS true 3000 ?_
 conv=>whnf
 refine Xa4 XaC hS true 3000 ?_
 conv=>whnf
 refine br.h h (by rfl) ?_ ?_
 ·clear h;intro hb h;conv=>whnf
  exact W
 clear h;intro hb h;conv=>whnf
 refine br.h h (by rfl) ?_ ?_
 ·clear h;intro hb h;conv=>whnf
  exact W
 clear h;intro hb h;conv=>whnf
 refine Xa4 XaC hS true 3000 ?_
 conv=>whnf
 refine br.h h (by rfl) ?_ ?_
 ·clear h;intro hb h;conv=>whnf
  exact W
 clear h;intro hb h;conv=>whnf
 refine br.h h (by rfl) ?_ ?_
 ·clear h;intro hb h;conv=>whnf
  exact W
 clear h;intro hb h;conv=>whnf
 refine Xa4 XaC hS true 3000 ?_
 conv=>whnf
 refine br.h h (by rfl) ?_ ?_
 ·clear h;intro hb h;conv=>whnf
  exact W
 clear h;intro hb h;conv=>whnf
 refine br.h h (by rfl) ?_ ?_
 ·clear h;intro hb h;conv=>whnf
  exact W
 clear h;intro hb h;conv=>whnf
 refine Xa4 XaC hS true 3000 ?_
 conv=>whnf
 refine br.h h (by rfl) ?_ ?_
 ·clear h;intro hb h;conv=>whnf
  exact W
 clear h;intro hb h;conv=>whnf
 refine br.h h (by rfl) ?_ ?_
 ·clear h;intro hb h;conv=>whnf
  exact W
 clear h;intro hb h;conv=>whnf
 refine Xa4 XaC hS true 3000 ?_
 conv=>whnf
 exact W
def XcL:XdR:=Xh5
theorem XKa:XbD Tryz.prog 198 (s198 XcL):=by
 have hL:=XHo (Xak.XaJ trivial)
 exact okA ⟨Tryz.f198,rfl,by decide,rfl⟩
def Xmg (XbZ:Xeb) (XcL:XdR) (Xaj:XaR) (ha0:Xaq) (payload:List UInt8):Option ((List UInt8)×Int):=
 (XcL ha0).bind fun m=>
 cond (!m)
  (
  some (([],1)))
  (
  cond (decide ((payload.length:Int)>65535))
   (
   some (([],5)))
   (
   let t:=XlO .u64 1610612736 (wI .u64 ((wI .u64 ha0.Class)*2^20))
   (Xaj (XlO .u64 t (wI .u64 ha0.Label)) 4).bind fun p=>
   let t1:=wI .u64 ((wI .u64 (payload.length:Int))*2^16)
   let t2:=XlO .u64 t1 (wI .u64 ((wI .u64 ha0.Next)*2^8))
   (Xaj (XlO .u64 t2 (wI .u64 ha0.Hop)) 4).bind fun p1=>
   Xbn (decide (p.length+p1.length<2^63)) <|
   (XbZ ha0.Src).bind fun p2=>
   Xbn (decide ((p++p1).length+p2.length<2^63)) <|
   (XbZ ha0.Dst).bind fun p3=>
   Xbn (decide (((p++p1)++p2).length+p3.length<2^63)) <|
   Xbn (decide ((((p++p1)++p2)++p3).length+payload.length<2^63)) <|
   some (((((p++p1)++p2)++p3)++payload,0))))
def XDo (x:(List UInt8)×Int):XcU:=⟨.tuple ⟨[.string ⟨⟨x.1⟩⟩,.int .i64 x.2]⟩,[],[]⟩
abbrev XfU:=Xaq→(List UInt8)→Option ((List UInt8)×Int)
def r184 (g:XfU):Dec:=dV XgL fun (y0:Xaq)=>dV asS fun (y1:List UInt8)=>Xd2 (ofG (g y0 y1) XDo)
theorem XQt {g:XfU} {y0:Xaq} {y1:List UInt8} {x:(List UInt8)×Int} (hx:g y0 y1=some x):r184 g [.agg ⟨[.int .i64 y0.Class,.int .i64 y0.Label,.int .i64 y0.Next,.int .i64 y0.Hop,.bool y0.Src.V6,.int .u64 y0.Src.Hi,.int .u64 y0.Src.Lo,.bool y0.Dst.V6,.int .u64 y0.Dst.Hi,.int .u64 y0.Dst.Lo]⟩,.string ⟨⟨y1⟩⟩] []=some (XDo x):=(XaO (XiQ _)).trans ((XaO (Xd3)).trans (XaN hx))
def s184 (g:XfU):XbC:=⟨[.v,.v],r184 g⟩
theorem XLz {g:XfU} {y0:Xaq} {y1:List UInt8} {x:(List UInt8)×Int} (hx:g y0 y1=some x):(s184 g).run [.agg ⟨[.int .i64 y0.Class,.int .i64 y0.Label,.int .i64 y0.Next,.int .i64 y0.Hop,.bool y0.Src.V6,.int .u64 y0.Src.Hi,.int .u64 y0.Src.Lo,.bool y0.Dst.V6,.int .u64 y0.Dst.Hi,.int .u64 y0.Dst.Lo]⟩,.string ⟨⟨y1⟩⟩] []=some (XDo x):=XQt hx
abbrev XJO (XbZ:Xeb) (XcL:XdR) (Xaj:XaR):List (Nat×XbC):=[(195,XRU XbZ),(198,s198 XcL),(97,s97 Xaj)]
theorem XEw (XbZ:Xeb) (XcL:XdR) (Xaj:XaR) (hS:Xak Tryz.prog (XaD (XJO XbZ XcL Xaj))) (ha0:Xaq) (payload:List UInt8) (res:(List UInt8)×Int) (h:Xmg XbZ XcL Xaj ha0 payload=some res) :
 XaF Tryz.prog 184 0 ⟨⟨184,53,[(0,.agg ⟨[.int .i64 ha0.Class,.int .i64 ha0.Label,.int .i64 ha0.Next,.int .i64 ha0.Hop,.bool ha0.Src.V6,.int .u64 ha0.Src.Hi,.int .u64 ha0.Src.Lo,.bool ha0.Dst.V6,.int .u64 ha0.Dst.Hi,.int .u64 ha0.Dst.Lo]⟩),(1,.string ⟨⟨payload⟩⟩)],[.code XBt],[],false,none⟩,[],[],0⟩ (fun v H _=>Res 0 (XDo res) v H):=by
 unfold Xmg at h
 have R1:=@XKt XcL
 have R2:=@Xle Xaj
 have R3:=@XuF XbZ
 refine Xa4 XaC hS true 3000 ?_
 conv=>whnf
 exact W
def Xe0:XfU:=Xmg XbZ XcL Xaj
theorem XPm:XbD Tryz.prog 184 (s184 Xe0):=by
 have hL:=XEw XbZ XcL Xaj (Xak.XaJ ⟨XuY,XKa,XnL,trivial⟩)
 exact okA ⟨Tryz.f184,rfl,by decide,rfl⟩
def Xsl (n:Int) (most:Int):Option Bool:=
 cond (decide (n≥0))
  (
  some (decide (n≤most)))
  (
  some (false))
def XFZ (x:Bool):XcU:=⟨.bool x,[],[]⟩
abbrev Xi4:=Int→Int→Option Bool
def r174 (g:Xi4):Dec:=dV (asI .i64) fun (y0:Int)=>dV (asI .i64) fun (y1:Int)=>Xd2 (ofG (g y0 y1) XFZ)
theorem XQS {g:Xi4} {y0:Int} {y1:Int} {x:Bool} (hx:g y0 y1=some x):r174 g [.int .i64 y0,.int .i64 y1] []=some (XFZ x):=(XaO (Xen _)).trans ((XaO (Xen _)).trans (XaN hx))
def s174 (g:Xi4):XbC:=⟨[.v,.v],r174 g⟩
theorem XJU {g:Xi4} {y0:Int} {y1:Int} {x:Bool} (hx:g y0 y1=some x):(s174 g).run [.int .i64 y0,.int .i64 y1] []=some (XFZ x):=XQS hx
abbrev XKK:List (Nat×XbC):=[]
theorem XEg (hS:Xak Tryz.prog (XaD (XKK))) (n:Int) (most:Int) (res:Bool) (h:Xsl n most=some res) :
 XaF Tryz.prog 174 0 ⟨⟨174,12,[(0,.int .i64 n),(1,.int .i64 most)],[.code XHT],[],false,none⟩,[],[],0⟩ (fun v H _=>Res 0 (XFZ res) v H):=by
 unfold Xsl at h
 refine Xa4 XaC hS true 3000 ?_
 conv=>whnf
 exact W
def Xjc:Xi4:=Xsl
theorem XMw:XbD Tryz.prog 174 (s174 Xjc):=by
 have hL:=XEg (Xak.XaJ trivial)
 exact okA ⟨Tryz.f174,rfl,by decide,rfl⟩
def Xl5 (Xjc:Xi4) (ha0:Xaq):Option Bool:=
 (Xjc ha0.Class 255).bind fun i=>
 cond (i)
  (
  (Xjc ha0.Label 1048575).bind fun i1=>
  cond (i1)
   (
   (Xjc ha0.Next 255).bind fun i2=>
   cond (i2)
    (
    (Xjc ha0.Hop 255).bind fun i3=>
    cond (i3)
     (
     cond (ha0.Src.V6)
      (
      some (ha0.Dst.V6))
      (
      some (false)))
     (
     some (false)))
    (
    some (false)))
   (
   some (false)))
  (
  some (false))
def XFp (x:Bool):XcU:=⟨.bool x,[],[]⟩
abbrev Xf0:=Xaq→Option Bool
def r149 (g:Xf0):Dec:=dV XgL fun (y0:Xaq)=>Xd2 (ofG (g y0) XFp)
theorem XVv {g:Xf0} {y0:Xaq} {x:Bool} (hx:g y0=some x):r149 g [.agg ⟨[.int .i64 y0.Class,.int .i64 y0.Label,.int .i64 y0.Next,.int .i64 y0.Hop,.bool y0.Src.V6,.int .u64 y0.Src.Hi,.int .u64 y0.Src.Lo,.bool y0.Dst.V6,.int .u64 y0.Dst.Hi,.int .u64 y0.Dst.Lo]⟩] []=some (XFp x):=(XaO (XiQ _)).trans (XaN hx)
def s149 (g:Xf0):XbC:=⟨[.v],r149 g⟩
theorem XKG {g:Xf0} {y0:Xaq} {x:Bool} (hx:g y0=some x):(s149 g).run [.agg ⟨[.int .i64 y0.Class,.int .i64 y0.Label,.int .i64 y0.Next,.int .i64 y0.Hop,.bool y0.Src.V6,.int .u64 y0.Src.Hi,.int .u64 y0.Src.Lo,.bool y0.Dst.V6,.int .u64 y0.Dst.Hi,.int .u64 y0.Dst.Lo]⟩] []=some (XFp x):=XVv hx
abbrev XLk (Xjc:Xi4):List (Nat×XbC):=[(174,s174 Xjc)]
theorem XEL (Xjc:Xi4) (hS:Xak Tryz.prog (XaD (XLk Xjc))) (ha0:Xaq) (res:Bool) (h:Xl5 Xjc ha0=some res) :
 XaF Tryz.prog 149 0 ⟨⟨149,31,[(0,.agg ⟨[.int .i64 ha0.Class,.int .i64 ha0.Label,.int .i64 ha0.Next,.int .i64 ha0.Hop,.bool ha0.Src.V6,.int .u64 ha0.Src.Hi,.int .u64 ha0.Src.Lo,.bool ha0.Dst.V6,.int .u64 ha0.Dst.Hi,.int .u64 ha0.Dst.Lo]⟩)],[.code XIM],[],false,none⟩,[],[],0⟩ (fun v H _=>Res 0 (XFp res) v H):=by
 unfold Xl5 at h
 have R1:=@XJU Xjc
 refine Xa4 XaC hS true 3000 ?_
 conv=>whnf
 exact W
def XfE:Xf0:=Xl5 Xjc
theorem XOK:XbD Tryz.prog 149 (s149 XfE):=by
 have hL:=XEL Xjc (Xak.XaJ ⟨XMw,trivial⟩)
 exact okA ⟨Tryz.f149,rfl,by decide,rfl⟩
def Xpr (Xbe:XcD) (n:Int) (k:Int):Option (List UInt8):=
 (Xbe (wI .u64 n) k).bind fun p=>
 some (p)
def XC0 (x:List UInt8):XcU:=⟨.string ⟨⟨x⟩⟩,[],[]⟩
abbrev Xht:=Int→Int→Option (List UInt8)
def r150 (g:Xht):Dec:=dV (asI .i64) fun (y0:Int)=>dV (asI .i64) fun (y1:Int)=>Xd2 (ofG (g y0 y1) XC0)
theorem XSW {g:Xht} {y0:Int} {y1:Int} {x:List UInt8} (hx:g y0 y1=some x):r150 g [.int .i64 y0,.int .i64 y1] []=some (XC0 x):=(XaO (Xen _)).trans ((XaO (Xen _)).trans (XaN hx))
def s150 (g:Xht):XbC:=⟨[.v,.v],r150 g⟩
theorem XOk {g:Xht} {y0:Int} {y1:Int} {x:List UInt8} (hx:g y0 y1=some x):(s150 g).run [.int .i64 y0,.int .i64 y1] []=some (XC0 x):=XSW hx
abbrev XJX (Xbe:XcD):List (Nat×XbC):=[(63,s63 Xbe)]
theorem XD7 (Xbe:XcD) (hS:Xak Tryz.prog (XaD (XJX Xbe))) (n:Int) (k:Int) (res:List UInt8) (h:Xpr Xbe n k=some res) :
 XaF Tryz.prog 150 0 ⟨⟨150,9,[(0,.int .i64 n),(1,.int .i64 k)],[.code XJm],[],false,none⟩,[],[],0⟩ (fun v H _=>Res 0 (XC0 res) v H):=by
 unfold Xpr at h
 have R1:=@Xtx Xbe
 refine Xa4 XaC hS true 3000 ?_
 conv=>whnf
 exact W
def Xg7:Xht:=Xpr Xbe
theorem XOz:XbD Tryz.prog 150 (s150 Xg7):=by
 have hL:=XD7 Xbe (Xak.XaJ ⟨XtJ,trivial⟩)
 exact okA ⟨Tryz.f150,rfl,by decide,rfl⟩
def Xo6 (Xco:XeJ) (XfE:Xf0) (Xg7:Xht) (ha0:Xaq) (payload:List UInt8):Option ((List UInt8)×Int):=
 (XfE ha0).bind fun xr=>
 cond (!xr)
  (
  some (([],1)))
  (
  cond (decide ((payload.length:Int)>65535))
   (
   some (([],5)))
   (
   let t:=wI .i64 (1610612736+(wI .i64 (ha0.Class*1048576)))
   (Xg7 (wI .i64 (t+ha0.Label)) 4).bind fun n=>
   (Xg7 (payload.length:Int) 2).bind fun n1=>
   Xbn (decide (n.length+n1.length<2^63)) <|
   (Xg7 ha0.Next 1).bind fun n2=>
   Xbn (decide ((n++n1).length+n2.length<2^63)) <|
   (Xg7 ha0.Hop 1).bind fun n3=>
   Xbn (decide (((n++n1)++n2).length+n3.length<2^63)) <|
   (Xco ha0.Src).bind fun p=>
   Xbn (decide ((((n++n1)++n2)++n3).length+p.length<2^63)) <|
   (Xco ha0.Dst).bind fun p1=>
   Xbn (decide (((((n++n1)++n2)++n3)++p).length+p1.length<2^63)) <|
   Xbn (decide ((((((n++n1)++n2)++n3)++p)++p1).length+payload.length<2^63)) <|
   let t1:=(((((n++n1)++n2)++n3)++p)++p1)++payload
   some ((t1,0))))
def XFv (x:(List UInt8)×Int):XcU:=⟨.tuple ⟨[.string ⟨⟨x.1⟩⟩,.int .i64 x.2]⟩,[],[]⟩
abbrev XhP:=Xaq→(List UInt8)→Option ((List UInt8)×Int)
def r103 (g:XhP):Dec:=dV XgL fun (y0:Xaq)=>dV asS fun (y1:List UInt8)=>Xd2 (ofG (g y0 y1) XFv)
theorem XTE {g:XhP} {y0:Xaq} {y1:List UInt8} {x:(List UInt8)×Int} (hx:g y0 y1=some x):r103 g [.agg ⟨[.int .i64 y0.Class,.int .i64 y0.Label,.int .i64 y0.Next,.int .i64 y0.Hop,.bool y0.Src.V6,.int .u64 y0.Src.Hi,.int .u64 y0.Src.Lo,.bool y0.Dst.V6,.int .u64 y0.Dst.Hi,.int .u64 y0.Dst.Lo]⟩,.string ⟨⟨y1⟩⟩] []=some (XFv x):=(XaO (XiQ _)).trans ((XaO (Xd3)).trans (XaN hx))
def s103 (g:XhP):XbC:=⟨[.v,.v],r103 g⟩
theorem XMG {g:XhP} {y0:Xaq} {y1:List UInt8} {x:(List UInt8)×Int} (hx:g y0 y1=some x):(s103 g).run [.agg ⟨[.int .i64 y0.Class,.int .i64 y0.Label,.int .i64 y0.Next,.int .i64 y0.Hop,.bool y0.Src.V6,.int .u64 y0.Src.Hi,.int .u64 y0.Src.Lo,.bool y0.Dst.V6,.int .u64 y0.Dst.Hi,.int .u64 y0.Dst.Lo]⟩,.string ⟨⟨y1⟩⟩] []=some (XFv x):=XTE hx
abbrev XOH (Xco:XeJ) (XfE:Xf0) (Xg7:Xht):List (Nat×XbC):=[(146,XTi Xco),(149,s149 XfE),(150,s150 Xg7)]
theorem XFG (Xco:XeJ) (XfE:Xf0) (Xg7:Xht) (hS:Xak Tryz.prog (XaD (XOH Xco XfE Xg7))) (ha0:Xaq) (payload:List UInt8) (res:(List UInt8)×Int) (h:Xo6 Xco XfE Xg7 ha0 payload=some res) :
 XaF Tryz.prog 103 0 ⟨⟨103,42,[(0,.agg ⟨[.int .i64 ha0.Class,.int .i64 ha0.Label,.int .i64 ha0.Next,.int .i64 ha0.Hop,.bool ha0.Src.V6,.int .u64 ha0.Src.Hi,.int .u64 ha0.Src.Lo,.bool ha0.Dst.V6,.int .u64 ha0.Dst.Hi,.int .u64 ha0.Dst.Lo]⟩),(1,.string ⟨⟨payload⟩⟩)],[.code XxH],[],false,none⟩,[],[],0⟩ (fun v H _=>Res 0 (XFv res) v H):=by
 unfold Xo6 at h
 have R1:=@XKG XfE
 have R2:=@XOk Xg7
 have R3:=@Xt2 Xco
 refine Xa4 XaC hS true 3000 ?_
 conv=>whnf
 exact W
def Xh0:XhP:=Xo6 Xco XfE Xg7
theorem XPb:XbD Tryz.prog 103 (s103 Xh0):=by
 have hL:=XFG Xco XfE Xg7 (Xak.XaJ ⟨Xuc,XOK,XOz,trivial⟩)
 exact okA ⟨Tryz.f103,rfl,by decide,rfl⟩
end Go.Vm.Code
namespace Go.Vm.Code
open Go Go.Vm
def XlY (a:Xaa):Prop:=(0≤a.Hi∧a.Hi<2^64)∧0≤a.Lo∧a.Lo<2^64
def Xjt (a:Xaa):List UInt8:=be a.Hi.toNat 8++be a.Lo.toNat 8
theorem XsJ {a:Xaa} (h:XlY a) (h6:a.V6=true):XbZ a=some (Xjt a):=by
 unfold XbZ XlK XaB XiB
 rw [h6]
 simp only [cond_true,Option.bind_some,Bool.not_true,cond_false]
 rw [Xbt h.1.1,Xbt h.2.1]
 simp only [Option.bind_some,XcG]
 rw [if_pos (by omega),if_pos (by omega),Xat (by simp)];rfl
theorem Xvk {a:Xaa} (h:XlY a) (h6:a.V6=true):Xco a=some (Xjt a):=by
 unfold Xco XnF XaL Xkj
 rw [h6]
 simp only [cond_true,Option.bind_some,Bool.not_true,cond_false]
 rw [Xdi h.1.1 h.1.2,Xdi h.2.1 h.2.2]
 simp only [Option.bind_some,XcG]
 rw [if_pos (by omega),if_pos (by omega),Xat (by simp)];rfl
def Xtv (s:List UInt8):Xaa:=⟨true,(Xfy (s.take 8):Nat),(Xfy (s.drop 8):Nat)⟩
def H6 (h:Xaq):Prop:=(0≤h.Class∧h.Class≤255)∧(0≤h.Label∧h.Label≤1048575)∧(0≤h.Next∧h.Next≤255)∧(0≤h.Hop∧h.Hop≤255)∧h.Src.V6=true∧h.Dst.V6=true
instance (h:Xaq):Decidable (H6 h):=inferInstanceAs (Decidable (_∧_))
theorem XOM (h:Xaq):XcL h=some (decide (H6 h)):=by
 unfold XcL Xh5
 simp only [XrQ]
 by_cases hh:H6 h
 ·rw [decide_eq_true hh]
  obtain ⟨a,b,c,d,e,f⟩:=hh
  rw [if_neg (by omega),if_neg (by omega),if_neg (by omega),if_neg (by omega),if_neg (by omega),if_neg (by omega),if_neg (by omega),if_neg (by omega),e,f];rfl
 ·rw [decide_eq_false hh]
  unfold H6 at hh
  repeat' split
  all_goals first|rfl|skip
  cases e:h.Src.V6
  ·rfl
  ·rw [cond_true]
   cases f:h.Dst.V6
   ·rfl
   ·exact absurd ⟨by omega,by omega,by omega,by omega,e,f⟩ hh
theorem XT5 (n m:Int):Xjc n m=some (decide (0≤n∧n≤m)):=by
 unfold Xjc Xsl
 by_cases h:n≥0
 ·rw [XaP h];congr 1;rw [Bool.eq_iff_iff,decide_eq_true_eq,decide_eq_true_eq];omega
 ·rw [XaI h];congr 1;symm;exact decide_eq_false (by omega)
theorem XxV (h:Xaq):XfE h=some (decide (H6 h)):=by
 unfold XfE Xl5
 simp only [XT5,Option.bind_some,XrQ]
 by_cases hh:H6 h
 ·rw [decide_eq_true hh]
  obtain ⟨a,b,c,d,e,f⟩:=hh
  rw [if_pos a,if_pos b,if_pos c,if_pos d,e,f];rfl
 ·rw [decide_eq_false hh]
  unfold H6 at hh
  repeat' split
  all_goals first|rfl|skip
  cases e:h.Src.V6
  ·rfl
  ·rw [cond_true]
   cases f:h.Dst.V6
   ·rfl
   ·exact absurd ⟨by assumption,by assumption,by assumption,by assumption,e,f⟩ hh
def headB (h:Xaq) (n:Nat):List UInt8:=be (6*2^28+h.Class.toNat*2^20+h.Label.toNat) 4++be n 2++be h.Next.toNat 1++be h.Hop.toNat 1++Xjt h.Src++Xjt h.Dst
theorem Xnk (h:Xaq) (n:Nat):(headB h n).length=40:=by simp [headB,Xjt]
def XKb (h:Xaq) (p:List UInt8):List UInt8×Int:=if ¬ H6 h then ([],1) else if p.length>65535 then ([],5) else (headB h p.length++p,0)
theorem XKm {h:Xaq} {p:List UInt8} (hs:XlY h.Src) (hd:XlY h.Dst) (hp:p.length<2^60):Xe0 h p=some (XKb h p):=by
 unfold Xe0 Xmg XKb
 rw [XOM,Option.bind_some]
 by_cases hh:H6 h
 ·rw [decide_eq_true hh,Bool.not_true,cond_false,if_neg (by simpa using hh)]
  obtain ⟨a,b,c,d,e,f⟩:=hh
  by_cases h5:(p.length:Int)>65535
  ·rw [XaP h5,if_pos (by omega)]
  rw [XaI h5,if_neg (by omega)]
  simp only []
  rw [XsJ hs e,XsJ hd f]
  obtain ⟨C,hC⟩:=Int.eq_ofNat_of_zero_le a.1
  obtain ⟨L,hL⟩:=Int.eq_ofNat_of_zero_le b.1
  obtain ⟨X,hX⟩:=Int.eq_ofNat_of_zero_le c.1
  obtain ⟨O,hO⟩:=Int.eq_ofNat_of_zero_le d.1
  rw [hC] at a;rw [hL] at b;rw [hX] at c;rw [hO] at d
  have e1:XlO .u64 (XlO .u64 1610612736 (wI .u64 ((wI .u64 h.Class)*2^20))) (wI .u64 h.Label)=((6*2^28+C*2^20+L:Nat):Int):=by
   rw [hC,hL,Xf7 (n:=(C:Int)) (by omega) (by omega),Xf7 (n:=(L:Int)) (by omega) (by omega),Xf7 (n:=(C:Int)*2^20) (by omega) (by omega)]
   have g1:XlO .u64 1610612736 ((C:Int)*2^20)=((6*2^8+C:Nat):Int)*2^20:=by
    have:=XgT 28 (a:=6) (b:=(C:Int)*2^20) (by omega) (by omega) (by omega) (by omega) (by omega)
    rw [show (6:Int)*2^28=1610612736 from rfl] at this
    rw [this];omega
   rw [g1,XgT 20 (by omega) (by omega) (by omega) (by omega) (by omega)];omega
  have e2:XlO .u64 (XlO .u64 (wI .u64 ((wI .u64 (p.length:Int))*2^16)) (wI .u64 ((wI .u64 h.Next)*2^8))) (wI .u64 h.Hop)=((p.length*2^16+X*2^8+O:Nat):Int):=by
   rw [hX,hO,Xf7 (n:=(X:Int)) (by omega) (by omega),Xf7 (n:=(O:Int)) (by omega) (by omega),Xf7 (n:=(p.length:Int)) (by omega) (by omega),Xf7 (n:=(X:Int)*2^8) (by omega) (by omega),Xf7 (n:=(p.length:Int)*2^16) (by omega) (by omega)]
   have g1:XlO .u64 ((p.length:Int)*2^16) ((X:Int)*2^8)=((p.length*2^8+X:Nat):Int)*2^8:=by
    rw [XgT 16 (by omega) (by omega) (by omega) (by omega) (by omega)];omega
   rw [g1,XgT 8 (by omega) (by omega) (by omega) (by omega) (by omega)];omega
  rw [e1,e2,Xbt (by omega),Xbt (by omega)]
  simp only [Option.bind_some,XcG]
  have e3:be (p.length*2^16+X*2^8+O) 4=be p.length 2++be X 1++be O 1:=by
   refine be_of (by simp) ?_
   rw [val_append,val_append,Xs4,Xs4,Xs4]
   simp only [Xe4]
   omega
  rw [if_pos (by omega),if_pos (by omega)]
  have hl:(be (6*2^28+C*2^20+L) 4).length=4:=Xe4 _ _
  simp only [Int.toNat_natCast,show (4:Int).toNat=4 from rfl,e3]
  rw [Xat (by simp),Xat (by simp [Xjt]),Xat (by simp [Xjt]),Xat (by simp [Xjt];omega)]
  simp [headB,hC,hL,hX,hO]
 ·rw [decide_eq_false hh,Bool.not_false,cond_true,if_pos hh]
theorem num6 {n k:Int} (h0:0≤n) (h1:n<2^64):Xg7 n k=some (XcG n k):=by
 unfold Xg7 Xpr
 rw [Xf7 h0 (by omega),Xdi h0 h1];rfl
theorem XDV {h:Xaq} {p:List UInt8} (hs:XlY h.Src) (hd:XlY h.Dst) (hp:p.length<2^60):Xh0 h p=some (XKb h p):=by
 unfold Xh0 Xo6 XKb
 rw [XxV,Option.bind_some]
 by_cases hh:H6 h
 ·rw [decide_eq_true hh,Bool.not_true,cond_false,if_neg (by simpa using hh)]
  obtain ⟨a,b,c,d,e,f⟩:=hh
  by_cases h5:(p.length:Int)>65535
  ·rw [XaP h5,if_pos (by omega)]
  rw [XaI h5,if_neg (by omega)]
  simp only []
  obtain ⟨C,hC⟩:=Int.eq_ofNat_of_zero_le a.1
  obtain ⟨L,hL⟩:=Int.eq_ofNat_of_zero_le b.1
  rw [hC] at a;rw [hL] at b
  have e1:wI .i64 (wI .i64 (1610612736+(wI .i64 (h.Class*1048576)))+h.Label)=((6*2^28+C*2^20+L:Nat):Int):=by
   rw [hC,hL,XdY (n:=(C:Int)*1048576) (by omega) (by omega),XdY (n:=1610612736+(C:Int)*1048576) (by omega) (by omega),XdY (by omega) (by omega)];omega
  rw [e1,Xvk hs e,Xvk hd f,num6 (by omega) (by omega),num6 (by omega) (by omega),num6 c.1 (by omega),num6 d.1 (by omega)]
  simp only [Option.bind_some,XcG]
  rw [if_pos (by omega),if_pos (by omega),if_pos (by omega),if_pos (by omega)]
  simp only [Int.toNat_natCast,show (4:Int).toNat=4 from rfl,show (2:Int).toNat=2 from rfl,show (1:Int).toNat=1 from rfl]
  rw [Xat (by simp),Xat (by simp),Xat (by simp),Xat (by simp [Xjt]),Xat (by simp [Xjt]),Xat (by simp [Xjt];omega)]
  simp [headB,hC,hL]
 ·rw [decide_eq_false hh,Bool.not_false,cond_true,if_pos hh]
theorem XpO {a:Xaa} (h:XlY a) (h6:a.V6=true):Xtv (Xjt a)=a:=by
 obtain ⟨v,hi,lo⟩:=a
 simp only [XlY] at h h6
 subst h6
 unfold Xtv Xjt
 have e1:(be hi.toNat 8++be lo.toNat 8).take 8=be hi.toNat 8:=by rw [List.take_append_of_le_length (by simp),List.take_of_length_le (by simp)]
 have e2:(be hi.toNat 8++be lo.toNat 8).drop 8=be lo.toNat 8:=by rw [List.drop_append_of_le_length (by simp),List.drop_of_length_le (by simp)];rfl
 rw [e1,e2,XjE (by have:=h.1;omega),XjE (by have:=h.2;omega),Int.toNat_of_nonneg h.1.1,Int.toNat_of_nonneg h.2.1]
theorem XJb {a b c d e f r:List UInt8} (ha:a.length=4) (hb:b.length=2) (hc:c.length=1) (hd:d.length=1) (he:e.length=16) (hf:f.length=16) :
 let s:=a++b++c++d++e++f++r
 s.take 4=a∧(s.drop 4).take 2=b∧(s.drop 6).take 1=c∧(s.drop 7).take 1=d∧(s.drop 8).take 16=e∧(s.drop 24).take 16=f∧s.drop 40=r:=by
 have d4:∀ x:List UInt8,(a++x).drop 4=x:=fun x=>by rw [←ha];exact List.drop_left
 have d2:∀ x:List UInt8,(b++x).drop 2=x:=fun x=>by rw [←hb];exact List.drop_left
 have dc:∀ x:List UInt8,(c++x).drop 1=x:=fun x=>by rw [←hc];exact List.drop_left
 have dd:∀ x:List UInt8,(d++x).drop 1=x:=fun x=>by rw [←hd];exact List.drop_left
 have de:∀ x:List UInt8,(e++x).drop 16=x:=fun x=>by rw [←he];exact List.drop_left
 have df:∀ x:List UInt8,(f++x).drop 16=x:=fun x=>by rw [←hf];exact List.drop_left
 simp only [List.append_assoc]
 have e6:(a++(b++(c++(d++(e++(f++r)))))).drop 6=c++(d++(e++(f++r))):=by
  rw [show 6=4+2 from rfl,←List.drop_drop,d4,d2]
 have e7:(a++(b++(c++(d++(e++(f++r)))))).drop 7=d++(e++(f++r)):=by
  rw [show 7=6+1 from rfl,←List.drop_drop,e6,dc]
 have e8:(a++(b++(c++(d++(e++(f++r)))))).drop 8=e++(f++r):=by
  rw [show 8=7+1 from rfl,←List.drop_drop,e7,dd]
 have e24:(a++(b++(c++(d++(e++(f++r)))))).drop 24=f++r:=by
  rw [show 24=8+16 from rfl,←List.drop_drop,e8,de]
 have e40:(a++(b++(c++(d++(e++(f++r)))))).drop 40=r:=by
  rw [show 40=24+16 from rfl,←List.drop_drop,e24,df]
 refine ⟨by rw [←ha];exact List.take_left,?_,?_,?_,?_,?_,e40⟩
 ·rw [d4,←hb];exact List.take_left
 ·rw [e6,←hc];exact List.take_left
 ·rw [e7,←hd];exact List.take_left
 ·rw [e8,←he];exact List.take_left
 ·rw [e24,←hf];exact List.take_left
end Go.Vm.Code
namespace Go.Vm.Code
open Go Go.Vm Go.Proofs
set_option maxRecDepth 100000
set_option maxHeartbeats 4000000
set_option linter.unusedVariables false
def Xiv (text:List UInt8) (i:Int) (c:List Xdg):Option (Sum (Int×(List Xdg)) ((List Xdg)×Int)):=
 cond (decide (i<(text.length:Int)))
  (
  Xbn (decide (0≤i)) <|
  (text[i.toNat]?).bind fun (b:UInt8)=>
  cond ((b.toNat:Int)==0)
   (
   some (.inr ((c,0))))
   (
   cond ((b.toNat:Int)==1)
    (
    some (.inl (wI .i64 (i+1),c)))
    (
    let t:=decide ((wI .i64 (i+1))<(text.length:Int))
    cond (t)
     (
     Xbn (decide (0≤(wI .i64 (i+1)))) <|
     (text[(wI .i64 (i+1)).toNat]?).bind fun (b1:UInt8)=>
     cond (decide ((wI .i64 (b1.toNat:Int))<2))
      (
      some (.inr (([],3))))
      (
      let t1:=decide ((wI .i64 (b1.toNat:Int))>(wI .i64 ((text.length:Int) - i)))
      cond (t1)
       (
       some (.inr (([],3))))
       (
       Xbn (decide (0≤i)) <|
       (text[i.toNat]?).bind fun (b2:UInt8)=>
       Xbn (decide ((0:Int)≤(wI .i64 (i+(wI .i64 (b1.toNat:Int))))∧(wI .i64 (i+(wI .i64 (b1.toNat:Int))))≤(text.length:Int)∧(0:Int)≤(wI .i64 (i+2))∧(wI .i64 (i+2))≤((wI .i64 (i+(wI .i64 (b1.toNat:Int)))).toNat:Int))) <|
       let t2:=(text.drop (wI .i64 (i+2)).toNat).take ((wI .i64 (i+(wI .i64 (b1.toNat:Int)))).toNat - (wI .i64 (i+2)).toNat)
       cond (decide ((wI .i64 (i+2))<0))
        (
        some (.inr (([],3))))
        (
        Xbn (decide ((c.length+1)*24≤2^47)) <|
        let row:=c++[Xdg.mk (wI .i64 (b2.toNat:Int)) t2]
        some (.inl (wI .i64 (i+(wI .i64 (b1.toNat:Int))),row))))))
     (
     some (.inr (([],3)))))))
  (
  some (.inr ((c,0))))
def Xm6 (text:List UInt8):Option ((List Xdg)×Int):=
 iter (fun st=>Xiv text st.1 st.2) FUEL (0,[])
def XuL (x:(List Xdg)×Int):XcU:=⟨.tuple ⟨[.slice (some ⟨0,0,none⟩) x.1.length 2,.int .i64 x.2]⟩,[(vT Xhm x.1)],[]⟩
abbrev XeL:=(List UInt8)→Option ((List Xdg)×Int)
def r169 (g:XeL):Dec:=dV asS fun (y0:List UInt8)=>Xd2 (ofG (g y0) XuL)
theorem XSl {g:XeL} {y0:List UInt8} {x:(List Xdg)×Int} (hx:g y0=some x):r169 g [.string ⟨⟨y0⟩⟩] []=some (XuL x):=(XaO (Xd3)).trans (XaN hx)
def s169 (g:XeL):XbC:=⟨[.v],r169 g⟩
theorem XyV {g:XeL} {y0:List UInt8} {x:(List Xdg)×Int} (hx:g y0=some x):(s169 g).run [.string ⟨⟨y0⟩⟩] []=some (XuL x):=XSl hx
abbrev XyW:List (Nat×XbC):=[]
def Xki (text:List UInt8) (i:Int) (c:List Xdg):VM:=
 ⟨⟨193,62,[(0,.func (.yield 5) #[] #[]),(1,.pointer (some ⟨3,0,none⟩)),(3,.int .i64 i)],[.code XpU,.inLoop XpU,.inBlock 0],[],false,none⟩,[⟨169,18,[(2,.pointer (some ⟨0,0,none⟩)),(3,.pointer (some ⟨1,0,none⟩)),(4,.pointer (some ⟨2,0,none⟩))],[.inRangeFunc 5,.inBlock 0,.code Xym],[4],false,none⟩],[(0,.cells [.slice none 0 0]),(1,.cells [.int .i64 0]),(2,.cells [.slice (some ⟨6,0,none⟩) c.length 2]),(3,.cells [.string ⟨⟨text⟩⟩]),(4,.marks),(5,.loop ⟨.ready,none,169,18,[(2,.pointer (some ⟨0,0,none⟩)),(3,.pointer (some ⟨1,0,none⟩)),(4,.pointer (some ⟨2,0,none⟩))],[8],XIy,Xx4,4⟩),(6,.row true (vT Xhm c))],7⟩
theorem XA9 (hS:Xak Tryz.prog (XaD (XyW))) (text:List UInt8) (res:(List Xdg)×Int):∀ fuel (st:Int×(List Xdg)) (o:(List Xdg)×Int),iter (fun st=>Xiv text st.1 st.2) fuel st=some o→(o=res) →
 XaF Tryz.prog 169 0 (Xki text st.1 st.2) (fun v H t=>∃ v' H' t',Xxp v H t v' H' t'∧Res 0 (XuL res) v' H'):=by
 intro fuel st o h hc
 refine Xdh (head:=fun st=>Xki text st.1 st.2) (C:=fun o=>(o=res)) ?_ fuel st o h hc
 clear h hc o st fuel
 intro st o h hc
 obtain ⟨i,c⟩:=st
 replace h:Xiv text i c=some o:=h
 show XaF Tryz.prog 169 0 (Xki text i c) (fun v H t=>∃ v' H' t',Xxp v H t v' H' t'∧Res 0 (XuL res) v' H')
 unfold Xiv at h
 refine Xa4 XaC hS true 3000 ?_
 conv=>whnf
 refine br.h2 h (by rfl) ?_ ?_
 ·clear h;intro hb h;conv=>whnf
  all_goals (cases h;cases hc)
  all_goals exact ⟨_,_,_,(.refl _ _ _),Res.of [6] rfl (XtO (Xbl Xbc) (Xhb rfl) Xtg) (by decide) (XtN (by decide) Xs0) XsS⟩
 clear h;intro hb h;conv=>whnf
 replace h:=Xbn.elim h;obtain ⟨hb,h⟩:=h
 try (refine req.intro hb ?_;conv=>whnf)
 replace h:=Xdy.elim h;obtain ⟨b,hy,h⟩:=h
 refine rdS.intro hy ?_
 conv=>whnf
 refine br.h h (by rfl) ?_ ?_
 ·clear h;intro hb h;conv=>whnf
  all_goals (cases h;cases hc)
  all_goals exact ⟨_,_,_,(.refl _ _ _),Res.of [6] rfl (XtO (Xbl Xbc) (Xhb rfl) Xtg) (by decide) (XtN (by decide) Xs0) XsS⟩
 clear h;intro hb h;conv=>whnf
 refine br.h h (by rfl) ?_ ?_
 ·clear h;intro hb h;conv=>whnf
  cases h;simp only [Sum.elim_inl,Xki] at hc
  exact XEx hc [(0,0),(1,1),(2,2),(3,3),(4,4),(5,5),(6,6)] rfl
 clear h;intro hb h;conv=>whnf
 let t:Bool:=decide ((wI .i64 (i+1))<(text.length:Int))
 refine br.h2 h (by rfl) ?_ ?_
 ·clear h;intro hb h;conv=>whnf
  all_goals (cases h;cases hc)
  all_goals exact ⟨_,_,_,(.val (.tup (.cons (.nil _ _) (.cons (.same _) .nil))) (.refl _ _ _)),Res.of [8] rfl (XtO (Xbl Xbc) (Xhb rfl) Xtg) (by decide) (XtN (by decide) Xs0) XsS⟩
 clear h;intro hb h;conv=>whnf
 replace h:=Xbn.elim h;obtain ⟨hb,h⟩:=h
 try (refine req.intro hb ?_;conv=>whnf)
 replace h:=Xdy.elim h;obtain ⟨b1,hy,h⟩:=h
 refine rdS.intro hy ?_
 conv=>whnf
 refine br.h h (by rfl) ?_ ?_
 ·clear h;intro hb h;conv=>whnf
  all_goals (cases h;cases hc)
  all_goals exact ⟨_,_,_,(.val (.tup (.cons (.nil _ _) (.cons (.same _) .nil))) (.refl _ _ _)),Res.of [8] rfl (XtO (Xbl Xbc) (Xhb rfl) Xtg) (by decide) (XtN (by decide) Xs0) XsS⟩
 clear h;intro hb h;conv=>whnf
 let t1:Bool:=decide ((wI .i64 (b1.toNat:Int))>(wI .i64 ((text.length:Int) - i)))
 refine br.h h (by rfl) ?_ ?_
 ·clear h;intro hb h;conv=>whnf
  all_goals (cases h;cases hc)
  all_goals exact ⟨_,_,_,(.val (.tup (.cons (.nil _ _) (.cons (.same _) .nil))) (.refl _ _ _)),Res.of [8] rfl (XtO (Xbl Xbc) (Xhb rfl) Xtg) (by decide) (XtN (by decide) Xs0) XsS⟩
 clear h;intro hb h;conv=>whnf
 replace h:=Xbn.elim h;obtain ⟨hb,h⟩:=h
 try (refine req.intro hb ?_;conv=>whnf)
 replace h:=Xdy.elim h;obtain ⟨b2,hy,h⟩:=h
 refine rdS.intro hy ?_
 conv=>whnf
 replace h:=Xbn.elim h;obtain ⟨hb,h⟩:=h
 try (refine req.intro hb ?_;conv=>whnf)
 let t2:List UInt8:=(text.drop (wI .i64 (i+2)).toNat).take ((wI .i64 (i+(wI .i64 (b1.toNat:Int)))).toNat - (wI .i64 (i+2)).toNat)
 refine br.h h (by rfl) ?_ ?_
 ·clear h;intro hb h;conv=>whnf
  all_goals (cases h;cases hc)
  all_goals exact ⟨_,_,_,(.val (.tup (.cons (.nil _ _) (.cons (.same _) .nil))) (.refl _ _ _)),Res.of [24] rfl (XtO (Xbl Xbc) (Xhb rfl) Xtg) (by decide) (XtN (by decide) Xs0) XsS⟩
 clear h;intro hb h;conv=>whnf
 replace h:=Xbn.elim h;obtain ⟨hb,h⟩:=h
 refine req.intro (XAB (of_decide_eq_true hb) (by first|rfl|omega|(simp;done)|(simp;omega)|(simp at *;omega)) rfl (by first|rfl|omega|(simp;done)|(simp;omega)|(simp at *;omega)) (by first|rfl|exact Xif _ _|exact Xkt _|exact Xkq _|exact Xk3 (by first|exact XdF|exact Xc5|exact XdH|exact Xcj|exact Xb6|exact XdG|exact XcH|exact Xcs|exact Xc2|exact XdA|exact XcJ|exact XdD|exact Xek|exact Xcg|exact Xch|exact Xel|exact XcI) _|(rw [Xe7];exact Xif _ _)|(simp [Xif,Xkt,Xkq,XlR,Xlu,XmW,XmR];done)|(simp;exact List.all_eq_true.1 (Xk3 (by first|exact XdF|exact Xc5|exact XdH|exact Xcj|exact Xb6|exact XdG|exact XcH|exact Xcs|exact Xc2|exact XdA|exact XcJ|exact XdD|exact Xek|exact Xcg|exact Xch|exact Xel|exact XcI) _))) rfl) ?_
 conv=>whnf
 let row:List Xdg:=c++[Xdg.mk (wI .i64 (b2.toNat:Int)) t2]
 first|have hlen_row:row.length=_:=List.length_append ..|skip
 refine XJe Xf1 (xs:=c) (ys:=[Xdg.mk (wI .i64 (b2.toNat:Int)) t2]) rfl (by first|rfl|omega) (by first|rfl|omega|(simp;done)|(simp;omega)|(simp at *;omega)) (by first|rfl|omega|(simp;done)|(simp;omega)|(simp at *;omega)) ?_
 conv=>whnf
 cases h;simp only [Sum.elim_inl,Xki] at hc
 exact XEx hc [(0,0),(1,1),(2,2),(3,3),(4,4),(5,5),(6,25)] rfl
theorem XDC (hS:Xak Tryz.prog (XaD (XyW))) (text:List UInt8) (res:(List Xdg)×Int) (h:Xm6 text=some res) :
 XaF Tryz.prog 169 0 ⟨⟨169,18,[(0,.string ⟨⟨text⟩⟩)],[.code Xyw],[],false,none⟩,[],[],0⟩ (fun v H _=>Res 0 (XuL res) v H):=by
 refine XaF.nilW (R:=fun v' H'=>Res 0 (XuL res) v' H') ?_
 unfold Xm6 at h
 refine Xa4 XaC hS true 3000 ?_
 conv=>whnf
 have hl:=XA9 hS _ res _ _ _ h rfl;simp only [Xki] at hl
 refine XaF.nilC 2 0 2 ?_
 exact XEx hl [(0,0),(1,1),(2,2),(3,3),(4,4),(5,5),(6,6)] rfl
def XdC:XeL:=Xm6
theorem Xyi:XbD Tryz.prog 169 (s169 XdC):=by
 have hL:=XDC (Xak.XaJ trivial)
 exact okA ⟨Tryz.f169,rfl,by decide,rfl⟩
def Xiw (options:List UInt8) (i:Int) (out1:List XcQ):Option (Sum (Int×(List XcQ)) ((List XcQ)×Int)):=
 cond (decide (i<(options.length:Int)))
  (
  Xbn (decide (0≤i)) <|
  (options[i.toNat]?).bind fun (b:UInt8)=>
  cond ((b.toNat:Int) !=0)
   (
   Xbn (decide (0≤i)) <|
   (options[i.toNat]?).bind fun (b1:UInt8)=>
   cond ((b1.toNat:Int)==1)
    (
    some (.inl (wI .i64 (i+1),out1)))
    (
    let t:=decide ((wI .i64 (i+1))≥(options.length:Int))
    cond (t)
     (
     some (.inr (([],3))))
     (
     Xbn (decide (0≤(wI .i64 (i+1)))) <|
     (options[(wI .i64 (i+1)).toNat]?).bind fun (b2:UInt8)=>
     cond (decide ((b2.toNat:Int)<2))
      (
      some (.inr (([],3))))
      (
      Xbn (decide (0≤(wI .i64 (i+1)))) <|
      (options[(wI .i64 (i+1)).toNat]?).bind fun (b3:UInt8)=>
      let t1:=decide ((wI .i64 (b3.toNat:Int))>(wI .i64 ((options.length:Int) - i)))
      cond (t1)
       (
       some (.inr (([],3))))
       (
       Xbn (decide (0≤(wI .i64 (i+1)))) <|
       (options[(wI .i64 (i+1)).toNat]?).bind fun (b4:UInt8)=>
       Xbn (decide (0≤i)) <|
       (options[i.toNat]?).bind fun (b5:UInt8)=>
       Xbn (decide ((0:Int)≤(wI .i64 (i+(wI .i64 (b4.toNat:Int))))∧(wI .i64 (i+(wI .i64 (b4.toNat:Int))))≤(options.length:Int)∧(0:Int)≤(wI .i64 (i+2))∧(wI .i64 (i+2))≤((wI .i64 (i+(wI .i64 (b4.toNat:Int)))).toNat:Int))) <|
       let t2:=(options.drop (wI .i64 (i+2)).toNat).take ((wI .i64 (i+(wI .i64 (b4.toNat:Int)))).toNat - (wI .i64 (i+2)).toNat)
       Xbn (decide ((out1.length+1)*32≤2^47)) <|
       let row:=out1++[XcQ.mk (wI .i64 (b5.toNat:Int)) t2 (wI .i64 (i+2))]
       some (.inl (wI .i64 (i+(wI .i64 (b4.toNat:Int))),row)))))))
   (
   some (.inr ((out1,0)))))
  (
  some (.inr ((out1,0))))
def Xnh (options:List UInt8):Option ((List XcQ)×Int):=
 iter (fun st=>Xiw options st.1 st.2) FUEL (0,[])
def XuR (x:(List XcQ)×Int):XcU:=⟨.tuple ⟨[.slice (some ⟨0,0,none⟩) x.1.length 3,.int .i64 x.2]⟩,[(vT XgR x.1)],[]⟩
abbrev XeM:=(List UInt8)→Option ((List XcQ)×Int)
def r154 (g:XeM):Dec:=dV asS fun (y0:List UInt8)=>Xd2 (ofG (g y0) XuR)
theorem XRV {g:XeM} {y0:List UInt8} {x:(List XcQ)×Int} (hx:g y0=some x):r154 g [.string ⟨⟨y0⟩⟩] []=some (XuR x):=(XaO (Xd3)).trans (XaN hx)
def s154 (g:XeM):XbC:=⟨[.v],r154 g⟩
theorem XxW {g:XeM} {y0:List UInt8} {x:(List XcQ)×Int} (hx:g y0=some x):(s154 g).run [.string ⟨⟨y0⟩⟩] []=some (XuR x):=XRV hx
abbrev XAI:List (Nat×XbC):=[]
def Xko (options:List UInt8) (i:Int) (out1:List XcQ):VM:=
 ⟨⟨154,73,[(0,.string ⟨⟨options⟩⟩),(4,.slice (some ⟨0,0,none⟩) out1.length 3),(5,.int .i64 i)],[.code Xus,.inLoop Xus,.inBlock 0,.code Xy4],[],false,none⟩,[],[(0,.row true (vT XgR out1))],1⟩
theorem Xzk (hS:Xak Tryz.prog (XaD (XAI))) (options:List UInt8) (res:(List XcQ)×Int):∀ fuel (st:Int×(List XcQ)) (o:(List XcQ)×Int),iter (fun st=>Xiw options st.1 st.2) fuel st=some o→(o=res) →
 XaF Tryz.prog 154 0 (Xko options st.1 st.2) (fun v H t=>∃ v' H' t',Xxp v H t v' H' t'∧Res 0 (XuR res) v' H'):=by
 intro fuel st o h hc
 refine Xdh (head:=fun st=>Xko options st.1 st.2) (C:=fun o=>(o=res)) ?_ fuel st o h hc
 clear h hc o st fuel
 intro st o h hc
 obtain ⟨i,out1⟩:=st
 replace h:Xiw options i out1=some o:=h
 show XaF Tryz.prog 154 0 (Xko options i out1) (fun v H t=>∃ v' H' t',Xxp v H t v' H' t'∧Res 0 (XuR res) v' H')
 unfold Xiw at h
 refine Xa4 XaC hS true 3000 ?_
 conv=>whnf
 refine br.h2 h (by rfl) ?_ ?_
 ·clear h;intro hb h;conv=>whnf
  all_goals (cases h;cases hc)
  all_goals exact ⟨_,_,_,(.refl _ _ _),Res.of [0] rfl (XtO (Xbl Xbh) (Xhb rfl) Xtg) (by decide) (XtN (by decide) Xs0) XsS⟩
 clear h;intro hb h;conv=>whnf
 replace h:=Xbn.elim h;obtain ⟨hb,h⟩:=h
 try (refine req.intro hb ?_;conv=>whnf)
 replace h:=Xdy.elim h;obtain ⟨b,hy,h⟩:=h
 refine rdS.intro hy ?_
 conv=>whnf
 refine br.h2 h (by rfl) ?_ ?_
 ·clear h;intro hb h;conv=>whnf
  all_goals (cases h;cases hc)
  all_goals exact ⟨_,_,_,(.refl _ _ _),Res.of [0] rfl (XtO (Xbl Xbh) (Xhb rfl) Xtg) (by decide) (XtN (by decide) Xs0) XsS⟩
 clear h;intro hb h;conv=>whnf
 replace h:=Xbn.elim h;obtain ⟨hb,h⟩:=h
 try (refine req.intro hb ?_;conv=>whnf)
 replace h:=Xdy.elim h;obtain ⟨b1,hy,h⟩:=h
 refine rdS.intro hy ?_
 conv=>whnf
 refine br.h h (by rfl) ?_ ?_
 ·clear h;intro hb h;conv=>whnf
  cases h;simp only [Sum.elim_inl,Xko] at hc
  exact Xmt hc [(0,0)] rfl
 clear h;intro hb h;conv=>whnf
 let t:Bool:=decide ((wI .i64 (i+1))≥(options.length:Int))
 refine br.h h (by rfl) ?_ ?_
 ·clear h;intro hb h;conv=>whnf
  all_goals (cases h;cases hc)
  all_goals exact ⟨_,_,_,(.val (.tup (.cons (.nil _ _) (.cons (.same _) .nil))) (.refl _ _ _)),Res.of [1] rfl (XtO (Xbl Xbh) (Xhb rfl) Xtg) (by decide) (XtN (by decide) Xs0) XsS⟩
 clear h;intro hb h;conv=>whnf
 replace h:=Xbn.elim h;obtain ⟨hb,h⟩:=h
 try (refine req.intro hb ?_;conv=>whnf)
 replace h:=Xdy.elim h;obtain ⟨b2,hy,h⟩:=h
 refine rdS.intro hy ?_
 conv=>whnf
 refine br.h h (by rfl) ?_ ?_
 ·clear h;intro hb h;conv=>whnf
  all_goals (cases h;cases hc)
  all_goals exact ⟨_,_,_,(.val (.tup (.cons (.nil _ _) (.cons (.same _) .nil))) (.refl _ _ _)),Res.of [1] rfl (XtO (Xbl Xbh) (Xhb rfl) Xtg) (by decide) (XtN (by decide) Xs0) XsS⟩
 clear h;intro hb h;conv=>whnf
 replace h:=Xbn.elim h;obtain ⟨hb,h⟩:=h
 try (refine req.intro hb ?_;conv=>whnf)
 replace h:=Xdy.elim h;obtain ⟨b3,hy,h⟩:=h
 refine rdS.intro hy ?_
 conv=>whnf
 let t1:Bool:=decide ((wI .i64 (b3.toNat:Int))>(wI .i64 ((options.length:Int) - i)))
 refine br.h h (by rfl) ?_ ?_
 ·clear h;intro hb h;conv=>whnf
  all_goals (cases h;cases hc)
  all_goals exact ⟨_,_,_,(.val (.tup (.cons (.nil _ _) (.cons (.same _) .nil))) (.refl _ _ _)),Res.of [1] rfl (XtO (Xbl Xbh) (Xhb rfl) Xtg) (by decide) (XtN (by decide) Xs0) XsS⟩
 clear h;intro hb h;conv=>whnf
 replace h:=Xbn.elim h;obtain ⟨hb,h⟩:=h
 try (refine req.intro hb ?_;conv=>whnf)
 replace h:=Xdy.elim h;obtain ⟨b4,hy,h⟩:=h
 refine rdS.intro hy ?_
 conv=>whnf
 replace h:=Xbn.elim h;obtain ⟨hb,h⟩:=h
 try (refine req.intro hb ?_;conv=>whnf)
 replace h:=Xdy.elim h;obtain ⟨b5,hy,h⟩:=h
 refine rdS.intro hy ?_
 conv=>whnf
 replace h:=Xbn.elim h;obtain ⟨hb,h⟩:=h
 try (refine req.intro hb ?_;conv=>whnf)
 let t2:List UInt8:=(options.drop (wI .i64 (i+2)).toNat).take ((wI .i64 (i+(wI .i64 (b4.toNat:Int)))).toNat - (wI .i64 (i+2)).toNat)
 replace h:=Xbn.elim h;obtain ⟨hb,h⟩:=h
 refine req.intro (XAB (of_decide_eq_true hb) (by first|rfl|omega|(simp;done)|(simp;omega)|(simp at *;omega)) rfl (by first|rfl|omega|(simp;done)|(simp;omega)|(simp at *;omega)) (by first|rfl|exact Xif _ _|exact Xkt _|exact Xkq _|exact Xk3 (by first|exact XdF|exact Xc5|exact XdH|exact Xcj|exact Xb6|exact XdG|exact XcH|exact Xcs|exact Xc2|exact XdA|exact XcJ|exact XdD|exact Xek|exact Xcg|exact Xch|exact Xel|exact XcI) _|(rw [Xe7];exact Xif _ _)|(simp [Xif,Xkt,Xkq,XlR,Xlu,XmW,XmR];done)|(simp;exact List.all_eq_true.1 (Xk3 (by first|exact XdF|exact Xc5|exact XdH|exact Xcj|exact Xb6|exact XdG|exact XcH|exact Xcs|exact Xc2|exact XdA|exact XcJ|exact XdD|exact Xek|exact Xcg|exact Xch|exact Xel|exact XcI) _))) rfl) ?_
 conv=>whnf
 let row:List XcQ:=out1++[XcQ.mk (wI .i64 (b5.toNat:Int)) t2 (wI .i64 (i+2))]
 first|have hlen_row:row.length=_:=List.length_append ..|skip
 refine XJe Xdn (xs:=out1) (ys:=[XcQ.mk (wI .i64 (b5.toNat:Int)) t2 (wI .i64 (i+2))]) rfl (by first|rfl|omega) (by first|rfl|omega|(simp;done)|(simp;omega)|(simp at *;omega)) (by first|rfl|omega|(simp;done)|(simp;omega)|(simp at *;omega)) ?_
 conv=>whnf
 cases h;simp only [Sum.elim_inl,Xko] at hc
 exact Xmt hc [(0,18)] rfl
theorem XCP (hS:Xak Tryz.prog (XaD (XAI))) (options:List UInt8) (res:(List XcQ)×Int) (h:Xnh options=some res) :
 XaF Tryz.prog 154 0 ⟨⟨154,73,[(0,.string ⟨⟨options⟩⟩)],[.code XzG],[],false,none⟩,[],[],0⟩ (fun v H _=>Res 0 (XuR res) v H):=by
 refine XaF.nilW (R:=fun v' H'=>Res 0 (XuR res) v' H') ?_
 unfold Xnh at h
 refine Xa4 XaC hS true 3000 ?_
 conv=>whnf
 have hl:=Xzk hS _ res _ _ _ h rfl;simp only [Xko] at hl
 refine XaF.nilT 4 3 ?_
 exact Xmt hl [(0,0)] rfl
def Xdz:XeM:=Xnh
theorem XAP:XbD Tryz.prog 154 (s154 Xdz):=by
 have hL:=XCP (Xak.XaJ trivial)
 exact okA ⟨Tryz.f154,rfl,by decide,rfl⟩
end Go.Vm.Code
namespace Go.Vm.Code
open Go Go.Vm
structure Xx3 where
 Kind:Int
 Data:List UInt8
 At:Int
def toR (o:Xx3):XcQ:=⟨o.Kind,o.Data,o.At⟩
def ofR (o:XcQ):Xx3:=⟨o.Kind,o.Data,o.At⟩
theorem Xz0 (c:List XcQ):(c.map ofR).map toR=c:=by
 rw [List.map_map,show toR∘ofR=id from rfl,List.map_id]
def Xja (s:List UInt8):Nat→Nat→List Xx3→List Xx3×Int
 | 0,_,out=>(out,0)
 | n+1,i,out=>match s[i]? with
   | none=>(out,0)
   | some b=>if b=0 then (out,0) else if b=1 then Xja s n (i+1) out else match s[i+1]? with
     | none=>([],3)
     | some k=>if k.toNat<2 then ([],3) else if s.length - i<k.toNat then ([],3) else
        Xja s (n+1 - k.toNat) (i+k.toNat) (out++[⟨(b.toNat:Int),(s.drop (i+2)).take (k.toNat - 2),((i+2:Nat):Int)⟩])
termination_by n=>n
decreasing_by all_goals omega
def Xmq (s:List UInt8):List Xx3×Int:=Xja s s.length 0 []
def strip (o:Xx3):Xdg:=⟨o.Kind,o.Data⟩
theorem XV7 {s:List UInt8} (hs:s.length<2^20):Xdz s=some ((Xmq s).1.map toR,(Xmq s).2):=by
 unfold Xdz Xnh Xmq
 have key:=iter_eq (step:=fun (st:Int×List XcQ)=>Xiw s st.1 st.2) (fun st=>((Xja s (s.length - st.1.toNat) st.1.toNat (st.2.map ofR)).1.map toR,(Xja s (s.length - st.1.toNat) st.1.toNat (st.2.map ofR)).2)) (fun st=>0≤st.1∧st.1≤s.length∧(st.2.length:Int)≤st.1) (fun st=>s.length - st.1.toNat) ?_ FUEL (0,[]) ⟨by simp,by simp,by simp⟩ (by rw [XgO];simp only;omega)
 ·rw [key];rfl
 rintro ⟨p,out⟩ ⟨g1,g2,g3⟩
 simp only at g1 g2 g3 ⊢
 obtain ⟨i,rfl⟩:=Int.eq_ofNat_of_zero_le g1
 simp only [Int.toNat_natCast]
 unfold Xiw
 by_cases hi:i<s.length
 ·obtain ⟨n,hn⟩:∃ n,s.length - i=n+1:=⟨s.length - i - 1,by omega⟩
  have e:s[i]?=some s[i]:=List.getElem?_eq_getElem hi
  rw [XaP (by omega),Xat (by omega),Int.toNat_natCast,e,Option.bind_some,hn,Xja,e]
  by_cases h0:s[i]=0
  ·refine .inl ?_
   rw [show ((s[i].toNat:Int) !=0)=false by rw [h0];rfl,cond_false]
   simp only [h0,if_true,Xz0]
  rw [show ((s[i].toNat:Int) !=0)=true by simp;intro hx;exact h0 (UInt8.toNat_inj.1 (by simpa using hx)),cond_true,Xat (by omega),Option.bind_some]
  simp only [if_neg h0]
  by_cases h1:s[i]=1
  ·refine .inr ⟨(((i+1:Nat):Int),out),?_,⟨by simp only;omega,by simp only;omega,by simp only;omega⟩,by simp only;omega,?_⟩
   ·rw [show ((s[i].toNat:Int)==1)=true by rw [h1];rfl,cond_true,XdY (by omega) (by omega)];rfl
   ·simp only [Int.toNat_natCast,if_pos h1]
    rw [show s.length - (i+1)=n by omega]
  rw [show ((s[i].toNat:Int)==1)=false by simp;intro hx;exact h1 (UInt8.toNat_inj.1 (by simp;omega)),cond_false]
  simp only [if_neg h1]
  rw [XdY (n:=(i:Int)+1) (by omega) (by omega)]
  by_cases h2:s.length≤i+1
  ·refine .inl ?_
   rw [XaP (by omega),List.getElem?_eq_none (by omega)];rfl
  have hi1:i+1<s.length:=by omega
  have e1:s[i+1]?=some s[i+1]:=List.getElem?_eq_getElem hi1
  have b1:=s[i+1].toNat_lt
  rw [XaI (by omega),show ((i:Int)+1).toNat=i+1 by omega,e1,Xat (by omega),Option.bind_some]
  simp only [Option.bind_some]
  by_cases h3:s[i+1].toNat<2
  ·refine .inl ?_
   rw [XaP (by omega),if_pos h3];rfl
  rw [XaI (by omega),if_neg h3,Xat (by omega),XdY (n:=(s[i+1].toNat:Int)) (by omega) (by omega),XdY (n:=(s.length:Int) - i) (by omega) (by omega)]
  by_cases h4:s.length - i<s[i+1].toNat
  ·refine .inl ?_
   rw [XaP (by omega),if_pos h4];rfl
  refine .inr ⟨(((i+s[i+1].toNat:Nat):Int),out++[⟨(s[i].toNat:Int),(s.drop (i+2)).take (s[i+1].toNat - 2),((i+2:Nat):Int)⟩]),?_,⟨by simp only;omega,by simp only;omega,by simp;omega⟩,by simp only;omega,?_⟩
  ·have b0:=s[i].toNat_lt
   rw [XaI (by omega),Xat (by omega),Xat (by omega),XdY (n:=(i:Int)+s[i+1].toNat) (by omega) (by omega),XdY (n:=(i:Int)+2) (by omega) (by omega),XdY (n:=(s[i].toNat:Int)) (by omega) (by omega),Xat (by omega),Xat (by omega),show ((i:Int)+s[i+1].toNat).toNat - ((i:Int)+2).toNat=s[i+1].toNat - 2 by omega,show ((i:Int)+2).toNat=i+2 by omega];rfl
  ·rw [if_neg h4]
   simp only [Int.toNat_natCast]
   rw [show s.length - (i+s[i+1].toNat)=n+1 - s[i+1].toNat by omega,List.map_append];rfl
 ·refine .inl ?_
  rw [XaI (by omega),show s.length - i=0 by omega,Xja,Xz0]
theorem XwO (s:List UInt8):∀ (n i:Nat) (o1 o2:List Xx3),o1.map strip=o2.map strip→(Xja s n i o1).1.map strip=(Xja s n i o2).1.map strip∧(Xja s n i o1).2=(Xja s n i o2).2:=by
 intro n
 induction n using Nat.strongRecOn with
 | ind n ih=>
   intro i o1 o2 h
   cases n with
   | zero=>rw [Xja,Xja];exact ⟨h,rfl⟩
   | succ n=>
     rw [Xja,Xja]
     split
     ·exact ⟨h,rfl⟩
     split
     ·exact ⟨h,rfl⟩
     split
     ·exact ih n (by omega) _ _ _ h
     split
     ·exact ⟨rfl,rfl⟩
     split
     ·exact ⟨rfl,rfl⟩
     split
     ·exact ⟨rfl,rfl⟩
     exact ih _ (by omega) _ _ _ (by simp [h,strip])
def Xm2 (o:Xdg):Xx3:=⟨o.Kind,o.Data,0⟩
theorem XvQ (c:List Xdg):(c.map Xm2).map strip=c:=by
 rw [List.map_map,show strip∘Xm2=id from rfl,List.map_id]
theorem XSi {s:List UInt8} (hs:s.length<2^20):XdC s=some ((Xmq s).1.map strip,(Xmq s).2):=by
 unfold XdC Xm6 Xmq
 have key:=iter_eq (step:=fun (st:Int×List Xdg)=>Xiv s st.1 st.2) (fun st=>((Xja s (s.length - st.1.toNat) st.1.toNat (st.2.map Xm2)).1.map strip,(Xja s (s.length - st.1.toNat) st.1.toNat (st.2.map Xm2)).2)) (fun st=>0≤st.1∧st.1≤s.length∧(st.2.length:Int)≤st.1) (fun st=>s.length - st.1.toNat) ?_ FUEL (0,[]) ⟨by simp,by simp,by simp⟩ (by rw [XgO];simp only;omega)
 ·rw [key];rfl
 rintro ⟨p,out⟩ ⟨g1,g2,g3⟩
 simp only at g1 g2 g3 ⊢
 obtain ⟨i,rfl⟩:=Int.eq_ofNat_of_zero_le g1
 simp only [Int.toNat_natCast]
 unfold Xiv
 by_cases hi:i<s.length
 ·obtain ⟨n,hn⟩:∃ n,s.length - i=n+1:=⟨s.length - i - 1,by omega⟩
  have e:s[i]?=some s[i]:=List.getElem?_eq_getElem hi
  rw [XaP (by omega),Xat (by omega),Int.toNat_natCast,e,Option.bind_some,hn,Xja,e]
  by_cases h0:s[i]=0
  ·refine .inl ?_
   rw [show ((s[i].toNat:Int)==0)=true by rw [h0];rfl,cond_true]
   simp only [h0,if_true,XvQ]
  rw [show ((s[i].toNat:Int)==0)=false by simp;intro hx;exact h0 (UInt8.toNat_inj.1 (by simpa using hx)),cond_false]
  simp only [if_neg h0]
  by_cases h1:s[i]=1
  ·refine .inr ⟨(((i+1:Nat):Int),out),?_,⟨by simp only;omega,by simp only;omega,by simp only;omega⟩,by simp only;omega,?_⟩
   ·rw [show ((s[i].toNat:Int)==1)=true by rw [h1];rfl,cond_true,XdY (by omega) (by omega)];rfl
   ·simp only [Int.toNat_natCast,if_pos h1]
    rw [show s.length - (i+1)=n by omega]
  rw [show ((s[i].toNat:Int)==1)=false by simp;intro hx;exact h1 (UInt8.toNat_inj.1 (by simp;omega)),cond_false]
  simp only [if_neg h1]
  rw [XdY (n:=(i:Int)+1) (by omega) (by omega)]
  by_cases h2:s.length≤i+1
  ·refine .inl ?_
   rw [XaI (by omega),List.getElem?_eq_none (by omega)];rfl
  have hi1:i+1<s.length:=by omega
  have e1:s[i+1]?=some s[i+1]:=List.getElem?_eq_getElem hi1
  have b1:=s[i+1].toNat_lt
  rw [XaP (by omega),show ((i:Int)+1).toNat=i+1 by omega,e1,Xat (by omega),Option.bind_some]
  simp only [Option.bind_some]
  rw [XdY (n:=(s[i+1].toNat:Int)) (by omega) (by omega)]
  by_cases h3:s[i+1].toNat<2
  ·refine .inl ?_
   rw [XaP (by omega),if_pos h3];rfl
  rw [XaI (by omega),if_neg h3,XdY (n:=(s.length:Int) - i) (by omega) (by omega)]
  by_cases h4:s.length - i<s[i+1].toNat
  ·refine .inl ?_
   rw [XaP (by omega),if_pos h4];rfl
  refine .inr ⟨(((i+s[i+1].toNat:Nat):Int),out++[⟨(s[i].toNat:Int),(s.drop (i+2)).take (s[i+1].toNat - 2)⟩]),?_,⟨by simp only;omega,by simp only;omega,by simp;omega⟩,by simp only;omega,?_⟩
  ·have b0:=s[i].toNat_lt
   rw [XaI (by omega),Xat (by omega),XdY (n:=(i:Int)+s[i+1].toNat) (by omega) (by omega),XdY (n:=(i:Int)+2) (by omega) (by omega),XdY (n:=(s[i].toNat:Int)) (by omega) (by omega),Xat (by omega),XaI (by omega),Xat (by omega),show ((i:Int)+s[i+1].toNat).toNat - ((i:Int)+2).toNat=s[i+1].toNat - 2 by omega,show ((i:Int)+2).toNat=i+2 by omega];rfl
  ·rw [if_neg h4]
   simp only [Int.toNat_natCast]
   rw [show s.length - (i+s[i+1].toNat)=n+1 - s[i+1].toNat by omega]
   have:=XwO s (n+1 - s[i+1].toNat) (i+s[i+1].toNat) ((out++[(⟨(s[i].toNat:Int),(s.drop (i+2)).take (s[i+1].toNat - 2)⟩:Xdg)]).map Xm2) (out.map Xm2++[(⟨(s[i].toNat:Int),(s.drop (i+2)).take (s[i+1].toNat - 2),((i+2:Nat):Int)⟩:Xx3)]) (by simp [strip,Xm2])
   rw [this.1,this.2]
 ·refine .inl ?_
  rw [XaI (by omega),show s.length - i=0 by omega,Xja,XvQ]
theorem XvW {A B:List UInt8} {p:Nat} {c:Int} (hA:A.length=p):Xsu (A++(be 0 2++B)) (p:Int) 2 c=A++(be c.toNat 2++B):=by
 subst hA
 unfold Xsu
 rw [if_pos (by simp only [List.length_append,Xe4];omega),Int.toNat_natCast,List.take_left,show ((A.length:Int)+2).toNat=A.length+2 by omega,←List.drop_drop,List.drop_left,show (be 0 2++B).drop 2=B from rfl,List.append_assoc];rfl
theorem XCm {A B:List UInt8} {c:Nat} (hA:A.length%2=0) (hc:c<65536):Xfp (A++(be c 2++B))=Xfp (A++(be 0 2++B))+c:=by
 rw [Xgd _ _ hA,Xgd _ _ hA,Xgd (be c 2) B (by simp),Xgd (be 0 2) B (by simp),Xpk hc,Xpk (by omega)];omega
def ckN (W:Nat):Nat:=65535 - norm W
theorem XSo (W:Nat):ckN W≤65535∧(W+ckN W)%65535=0∧W+ckN W≠0:=by
 have n1:=norm_le W
 have n2:=Xl4 W
 have n3:=Xkp W
 unfold ckN;omega
theorem XHP (a b:Nat) (hb:b<65536):be (a*65536+b) 4=be a 2++be b 2:=by
 rw [Xo0 _ 2 2,show (256:Nat)^2=65536 from rfl,show (a*65536+b)/65536=a by omega,←XqH (a*65536+b) 2,show (256:Nat)^2=65536 from rfl,show (a*65536+b)%65536=b by omega]
theorem XAR (a b:Nat) (hb:b<4294967296):be (a*4294967296+b) 8=be a 4++be b 4:=by
 rw [Xo0 _ 4 4,show (256:Nat)^4=4294967296 from rfl,show (a*4294967296+b)/4294967296=a by omega,←XqH (a*4294967296+b) 4,show (256:Nat)^4=4294967296 from rfl,show (a*4294967296+b)%4294967296=b by omega]
theorem XWH (a b:Nat) (hb:b<256):be (a*256+b) 2=be a 1++be b 1:=by
 rw [Xo0 _ 1 1,show (256:Nat)^1=256 from rfl,show (a*256+b)/256=a by omega,←XqH (a*256+b) 1,show (256:Nat)^1=256 from rfl,show (a*256+b)%256=b by omega]
end Go.Vm.Code
namespace Go.Vm.Code
open Go Go.Vm Go.Proofs
set_option maxRecDepth 100000
set_option maxHeartbeats 4000000
set_option linter.unusedVariables false
def XgV (most:Int) (l:List Int) (t9:Int):Option (Sum Int Bool):=
 cond (decide (t9<(l.length:Int)))
  (
  Xbn (decide ((0:Int)≤t9∧t9<(l.length:Int))) <|
  (l[t9.toNat]?).bind fun (e:Int)=>
  cond (decide (e<0))
   (
   some (.inr (false)))
   (
   cond (decide (e>most))
    (
    some (.inr (false)))
    (
    some (.inl (wI .i64 (t9+1))))))
  (
  some (.inr (true)))
def XkI (most:Int) (l:List Int):Option Bool:=
 iter (fun st=>XgV most l st) FUEL 0
def Xwg (x:Bool):XcU:=⟨.bool x,[],[none]⟩
abbrev Xfl:=Int→(List Int)→Option Bool
def r197 (g:Xfl):Dec:=dV (asI .i64) fun (y0:Int)=>dSl 0 1 (unL (asI .i64)) fun (y1:List Int)=>Xd2 (ofG (g y0 y1) Xwg)
theorem XQs {g:Xfl} {y0:Int} {y1:List Int} {x:Bool} (hx:g y0 y1=some x):r197 g [.int .i64 y0,.slice (some ⟨0,0,none⟩) y1.length 1] [some (vI .i64 y1)]=some (Xwg x):=(XaO (Xen _)).trans ((Xv7 (XvN _ _)).trans (XaN hx))
def s197 (g:Xfl):XbC:=⟨[.v,.sl 1],r197 g⟩
theorem XO1 {g:Xfl} {y0:Int} {y1:List Int} {x:Bool} (hx:g y0 y1=some x):(s197 g).run [.int .i64 y0,.slice (some ⟨0,0,none⟩) y1.length 1] [some (vI .i64 y1)]=some (Xwg x):=XQs hx
abbrev XyC:List (Nat×XbC):=[]
def XlF (most:Int) (l:List Int) (t9:Int):VM:=
 ⟨⟨197,21,[(0,.int .i64 most),(7,.slice (some ⟨0,0,none⟩) l.length 1),(8,.int .i64 (l.length:Int)),(9,.int .i64 t9)],[.code Xua,.inLoop Xua,.inBlock 0,.code Xz7],[],false,none⟩,[],[(0,.row false (vI .i64 l))],1⟩
theorem XxC (hS:Xak Tryz.prog (XaD (XyC))) (most:Int) (l:List Int) (res:Bool):∀ fuel (st:Int) (o:Bool),iter (fun st=>XgV most l st) fuel st=some o→(o=res) →
 XaF Tryz.prog 197 1 (XlF most l st) (fun v H _=>Res 1 (Xwg res) v H):=by
 intro fuel st o h hc
 refine Xdh (head:=fun st=>XlF most l st) (C:=fun o=>(o=res)) ?_ fuel st o h hc
 clear h hc o st fuel
 intro t9 o h hc
 replace h:XgV most l t9=some o:=h
 show XaF Tryz.prog 197 1 (XlF most l t9) (fun v H _=>Res 1 (Xwg res) v H)
 unfold XgV at h
 refine Xa4 XaC hS true 3000 ?_
 conv=>whnf
 refine br.h2 h (by rfl) ?_ ?_
 ·clear h;intro hb h;conv=>whnf
  exact W
 clear h;intro hb h;conv=>whnf
 replace h:=Xbn.elim h;obtain ⟨hb,h⟩:=h
 try (refine req.intro hb ?_;conv=>whnf)
 replace h:=Xdy.elim h;obtain ⟨e,hy,h⟩:=h
 refine rd.I hy (by first|rfl|(rw [Nat.zero_add,Nat.mul_one];try rfl;done)|omega) ?_
 conv=>whnf
 refine br.h h (by rfl) ?_ ?_
 ·clear h;intro hb h;conv=>whnf
  exact W
 clear h;intro hb h;conv=>whnf
 refine br.h h (by rfl) ?_ ?_
 ·clear h;intro hb h;conv=>whnf
  exact W
 clear h;intro hb h;conv=>whnf
 cases h;simp only [Sum.elim_inl,XlF] at hc
 exact Xmt hc [(0,0)] rfl
theorem XEb (hS:Xak Tryz.prog (XaD (XyC))) (most:Int) (l:List Int) (res:Bool) (h:XkI most l=some res) :
 XaF Tryz.prog 197 1 ⟨⟨197,21,[(0,.int .i64 most),(1,.slice (some ⟨0,0,none⟩) l.length 1)],[.code Xyn],[],false,none⟩,[],[(0,.row false (vI .i64 l))],1⟩ (fun v H _=>Res 1 (Xwg res) v H):=by
 unfold XkI at h
 refine Xa4 XaC hS true 3000 ?_
 conv=>whnf
 have hl:=XxC hS _ _ res _ _ _ h rfl;simp only [XlF] at hl
 exact Xmt hl [(0,0)] rfl
def XeI:Xfl:=XkI
theorem XJJ:XbD Tryz.prog 197 (s197 XeI):=by
 have hL:=XEb (Xak.XaJ trivial)
 exact okA ⟨Tryz.f197,rfl,by decide,rfl⟩
def Xjm (XeI:Xfl) (ha0:Xar):Option Bool:=
 (XeI 65535 [ha0.SPort,ha0.DPort,ha0.Window,ha0.Urgent]).bind fun w=>
 cond (w)
  (
  (XeI 255 [ha0.Flags]).bind fun w1=>
  cond (w1)
   (
   cond (((ha0.Options.length:Int).tmod 4)==0)
    (
    some (decide ((ha0.Options.length:Int)≤40)))
    (
    some (false)))
   (
   some (false)))
  (
  some (false))
def XHd (x:Bool):XcU:=⟨.bool x,[],[]⟩
abbrev XeB:=Xar→Option Bool
def r181 (g:XeB):Dec:=dV XhI fun (y0:Xar)=>Xd2 (ofG (g y0) XHd)
theorem XQJ {g:XeB} {y0:Xar} {x:Bool} (hx:g y0=some x):r181 g [.agg ⟨[.int .i64 y0.SPort,.int .i64 y0.DPort,.int .u32 y0.Seq,.int .u32 y0.Ack,.int .i64 y0.Flags,.int .i64 y0.Window,.int .i64 y0.Urgent,.string ⟨⟨y0.Options⟩⟩]⟩] []=some (XHd x):=(XaO (Xi0 _)).trans (XaN hx)
def s181 (g:XeB):XbC:=⟨[.v],r181 g⟩
theorem XKL {g:XeB} {y0:Xar} {x:Bool} (hx:g y0=some x):(s181 g).run [.agg ⟨[.int .i64 y0.SPort,.int .i64 y0.DPort,.int .u32 y0.Seq,.int .u32 y0.Ack,.int .i64 y0.Flags,.int .i64 y0.Window,.int .i64 y0.Urgent,.string ⟨⟨y0.Options⟩⟩]⟩] []=some (XHd x):=XQJ hx
abbrev XMp (XeI:Xfl):List (Nat×XbC):=[(197,s197 XeI)]
theorem XC4 (XeI:Xfl) (hS:Xak Tryz.prog (XaD (XMp XeI))) (ha0:Xar) (res:Bool) (h:Xjm XeI ha0=some res) :
 XaF Tryz.prog 181 0 ⟨⟨181,32,[(0,.agg ⟨[.int .i64 ha0.SPort,.int .i64 ha0.DPort,.int .u32 ha0.Seq,.int .u32 ha0.Ack,.int .i64 ha0.Flags,.int .i64 ha0.Window,.int .i64 ha0.Urgent,.string ⟨⟨ha0.Options⟩⟩]⟩)],[.code XJv],[],false,none⟩,[],[],0⟩ (fun v H _=>Res 0 (XHd res) v H):=by
 unfold Xjm at h
 have R1:=@XO1 XeI
 refine Xa4 XaC hS true 3000 ?_
 conv=>whnf
 exact W
def XdU:XeB:=Xjm XeI
theorem XPS:XbD Tryz.prog 181 (s181 XdU):=by
 have hL:=XC4 XeI (Xak.XaJ ⟨XJJ,trivial⟩)
 exact okA ⟨Tryz.f181,rfl,by decide,rfl⟩
def XiO (Xaj:XaR) (ha0:Xar):Option (List UInt8):=
 let t:=wI .i64 (20+(ha0.Options.length:Int))
 let t1:=XlO .u64 (wI .u64 ((wI .u64 ha0.SPort)*2^16)) (wI .u64 ha0.DPort)
 (Xaj t1 4).bind fun p=>
 let t2:=XlO .u64 (wI .u64 ((wI .u64 ha0.Seq)*2^32)) (wI .u64 ha0.Ack)
 (Xaj t2 8).bind fun p1=>
 let t3:=wI .u64 ((wI .u64 ((wI .u64 t).tdiv 4))*2^12)
 (Xaj (XlO .u64 t3 (wI .u64 ha0.Flags)) 2).bind fun p2=>
 (Xaj (wI .u64 ha0.Window) 2).bind fun p3=>
 Xbn (decide (p2.length+p3.length<2^63)) <|
 Xbn (decide (p.length+p1.length<2^63)) <|
 Xbn (decide ((p++p1).length+(p2++p3).length<2^63)) <|
 (Xaj (wI .u64 ha0.Urgent) 4).bind fun p4=>
 Xbn (decide (((p++p1)++(p2++p3)).length+p4.length<2^63)) <|
 Xbn (decide ((((p++p1)++(p2++p3))++p4).length+ha0.Options.length<2^63)) <|
 let t4:=(((p++p1)++(p2++p3))++p4)++ha0.Options
 some (t4)
def XHv (x:List UInt8):XcU:=⟨.string ⟨⟨x⟩⟩,[],[]⟩
abbrev Xem:=Xar→Option (List UInt8)
def r182 (g:Xem):Dec:=dV XhI fun (y0:Xar)=>Xd2 (ofG (g y0) XHv)
theorem XSf {g:Xem} {y0:Xar} {x:List UInt8} (hx:g y0=some x):r182 g [.agg ⟨[.int .i64 y0.SPort,.int .i64 y0.DPort,.int .u32 y0.Seq,.int .u32 y0.Ack,.int .i64 y0.Flags,.int .i64 y0.Window,.int .i64 y0.Urgent,.string ⟨⟨y0.Options⟩⟩]⟩] []=some (XHv x):=(XaO (Xi0 _)).trans (XaN hx)
def s182 (g:Xem):XbC:=⟨[.v],r182 g⟩
theorem XN9 {g:Xem} {y0:Xar} {x:List UInt8} (hx:g y0=some x):(s182 g).run [.agg ⟨[.int .i64 y0.SPort,.int .i64 y0.DPort,.int .u32 y0.Seq,.int .u32 y0.Ack,.int .i64 y0.Flags,.int .i64 y0.Window,.int .i64 y0.Urgent,.string ⟨⟨y0.Options⟩⟩]⟩] []=some (XHv x):=XSf hx
abbrev XP8 (Xaj:XaR):List (Nat×XbC):=[(97,s97 Xaj)]
theorem XGd (Xaj:XaR) (hS:Xak Tryz.prog (XaD (XP8 Xaj))) (ha0:Xar) (res:List UInt8) (h:XiO Xaj ha0=some res) :
 XaF Tryz.prog 182 0 ⟨⟨182,56,[(0,.agg ⟨[.int .i64 ha0.SPort,.int .i64 ha0.DPort,.int .u32 ha0.Seq,.int .u32 ha0.Ack,.int .i64 ha0.Flags,.int .i64 ha0.Window,.int .i64 ha0.Urgent,.string ⟨⟨ha0.Options⟩⟩]⟩)],[.code Xyg],[],false,none⟩,[],[],0⟩ (fun v H _=>Res 0 (XHv res) v H):=by
 unfold XiO at h
 have R1:=@Xle Xaj
 refine Xa4 XaC hS true 3000 ?_
 conv=>whnf
 exact W
def Xdf:Xem:=XiO Xaj
theorem XO3:XbD Tryz.prog 182 (s182 Xdf):=by
 have hL:=XGd Xaj (Xak.XaJ ⟨XnL,trivial⟩)
 exact okA ⟨Tryz.f182,rfl,by decide,rfl⟩
def Xph (Xbx:Xdl) (XaW:XcO) (XaA:XbB) (Xdf:Xem) (XdU:XeB) (ha0:Xar) (src:Xaa) (dst:Xaa) (payload:List UInt8):Option ((List UInt8)×Int):=
 let t:=wI .i64 (20+(ha0.Options.length:Int))
 (XaA src dst 6 (wI .i64 (t+(payload.length:Int)))).bind fun p=>
 (XdU ha0).bind fun m=>
 cond (!m)
  (
  some (([],1)))
  (
  cond (p==[])
   (
   some (([],1)))
   (
   let t1:=decide ((payload.length:Int)>(wI .i64 (65535 - t)))
   cond (t1)
    (
    some (([],5)))
    (
    (Xdf ha0).bind fun l=>
    Xbn (decide (l.length+payload.length<2^63)) <|
    Xbn (decide (p.length+(l++payload).length<2^63)) <|
    (Xbx (p++(l++payload))).bind fun xo=>
    (XaW (l++payload) 16 2 (wI .u64 xo)).bind fun s=>
    some ((s,0)))))
def XGC (x:(List UInt8)×Int):XcU:=⟨.tuple ⟨[.string ⟨⟨x.1⟩⟩,.int .i64 x.2]⟩,[],[]⟩
abbrev Xhy:=Xar→Xaa→Xaa→(List UInt8)→Option ((List UInt8)×Int)
def r160 (g:Xhy):Dec:=dV XhI fun (y0:Xar)=>dV Xb4 fun (y1:Xaa)=>dV Xb4 fun (y2:Xaa)=>dV asS fun (y3:List UInt8)=>Xd2 (ofG (g y0 y1 y2 y3) XGC)
theorem XVM {g:Xhy} {y0:Xar} {y1:Xaa} {y2:Xaa} {y3:List UInt8} {x:(List UInt8)×Int} (hx:g y0 y1 y2 y3=some x):r160 g [.agg ⟨[.int .i64 y0.SPort,.int .i64 y0.DPort,.int .u32 y0.Seq,.int .u32 y0.Ack,.int .i64 y0.Flags,.int .i64 y0.Window,.int .i64 y0.Urgent,.string ⟨⟨y0.Options⟩⟩]⟩,.agg ⟨[.bool y1.V6,.int .u64 y1.Hi,.int .u64 y1.Lo]⟩,.agg ⟨[.bool y2.V6,.int .u64 y2.Hi,.int .u64 y2.Lo]⟩,.string ⟨⟨y3⟩⟩] []=some (XGC x):=(XaO (Xi0 _)).trans ((XaO (XbM _)).trans ((XaO (XbM _)).trans ((XaO (Xd3)).trans (XaN hx))))
def s160 (g:Xhy):XbC:=⟨[.v,.v,.v,.v],r160 g⟩
theorem XPA {g:Xhy} {y0:Xar} {y1:Xaa} {y2:Xaa} {y3:List UInt8} {x:(List UInt8)×Int} (hx:g y0 y1 y2 y3=some x):(s160 g).run [.agg ⟨[.int .i64 y0.SPort,.int .i64 y0.DPort,.int .u32 y0.Seq,.int .u32 y0.Ack,.int .i64 y0.Flags,.int .i64 y0.Window,.int .i64 y0.Urgent,.string ⟨⟨y0.Options⟩⟩]⟩,.agg ⟨[.bool y1.V6,.int .u64 y1.Hi,.int .u64 y1.Lo]⟩,.agg ⟨[.bool y2.V6,.int .u64 y2.Hi,.int .u64 y2.Lo]⟩,.string ⟨⟨y3⟩⟩] []=some (XGC x):=XVM hx
abbrev XLS (Xbx:Xdl) (XaW:XcO) (XaA:XbB) (Xdf:Xem) (XdU:XeB):List (Nat×XbC):=[(183,XRy Xbx),(98,s98 XaW),(180,XQl XaA),(182,s182 Xdf),(181,s181 XdU)]
theorem XDY (Xbx:Xdl) (XaW:XcO) (XaA:XbB) (Xdf:Xem) (XdU:XeB) (hS:Xak Tryz.prog (XaD (XLS Xbx XaW XaA Xdf XdU))) (ha0:Xar) (src:Xaa) (dst:Xaa) (payload:List UInt8) (res:(List UInt8)×Int) (h:Xph Xbx XaW XaA Xdf XdU ha0 src dst payload=some res) :
 XaF Tryz.prog 160 0 ⟨⟨160,49,[(0,.agg ⟨[.int .i64 ha0.SPort,.int .i64 ha0.DPort,.int .u32 ha0.Seq,.int .u32 ha0.Ack,.int .i64 ha0.Flags,.int .i64 ha0.Window,.int .i64 ha0.Urgent,.string ⟨⟨ha0.Options⟩⟩]⟩),(1,.agg ⟨[.bool src.V6,.int .u64 src.Hi,.int .u64 src.Lo]⟩),(2,.agg ⟨[.bool dst.V6,.int .u64 dst.Hi,.int .u64 dst.Lo]⟩),(3,.string ⟨⟨payload⟩⟩)],[.code XAz],[],false,none⟩,[],[],0⟩ (fun v H _=>Res 0 (XGC res) v H):=by
 unfold Xph at h
 have R1:=@Xsg XaA
 have R2:=@XKL XdU
 have R3:=@XN9 Xdf
 have R4:=@Xur Xbx
 have R5:=@XAj XaW
 refine Xa4 XaC hS true 3000 ?_
 conv=>whnf
 exact W
def Xit:Xhy:=Xph Xbx XaW XaA Xdf XdU
theorem XOS:XbD Tryz.prog 160 (s160 Xit):=by
 have hL:=XDY Xbx XaW XaA Xdf XdU (Xak.XaJ ⟨Xt1,XxR,XrL,XO3,XPS,trivial⟩)
 exact okA ⟨Tryz.f160,rfl,by decide,rfl⟩
def XkM (Xa2:Xce) (Xad:XaH) (Xaf:Xav) (s:List UInt8) (size:Int):Option Xar:=
 (Xa2 s).bind fun n=>
 (Xad n 2).bind fun n1=>
 (Xad n1.2 2).bind fun n2=>
 (Xad n2.2 4).bind fun n3=>
 (Xad n3.2 4).bind fun n4=>
 (Xad n4.2 2).bind fun n5=>
 (Xad n5.2 2).bind fun n6=>
 (Xad n6.2 2).bind fun n7=>
 (Xad n7.2 2).bind fun n8=>
 (Xaf n8.2 (wI .i64 (size - 20))).bind fun t=>
 some (Xar.mk n1.1 n2.1 (wI .u32 n3.1) (wI .u32 n4.1) (XnS .i64 n5.1 255) n6.1 n8.1 t.1)
def XEr (x:Xar):XcU:=⟨.agg ⟨[.int .i64 x.SPort,.int .i64 x.DPort,.int .u32 x.Seq,.int .u32 x.Ack,.int .i64 x.Flags,.int .i64 x.Window,.int .i64 x.Urgent,.string ⟨⟨x.Options⟩⟩]⟩,[],[]⟩
abbrev Xfb:=(List UInt8)→Int→Option Xar
def r192 (g:Xfb):Dec:=dV asS fun (y0:List UInt8)=>dV (asI .i64) fun (y1:Int)=>Xd2 (ofG (g y0 y1) XEr)
theorem XRw {g:Xfb} {y0:List UInt8} {y1:Int} {x:Xar} (hx:g y0 y1=some x):r192 g [.string ⟨⟨y0⟩⟩,.int .i64 y1] []=some (XEr x):=(XaO (Xd3)).trans ((XaO (Xen _)).trans (XaN hx))
def s192 (g:Xfb):XbC:=⟨[.v,.v],r192 g⟩
theorem XLZ {g:Xfb} {y0:List UInt8} {y1:Int} {x:Xar} (hx:g y0 y1=some x):(s192 g).run [.string ⟨⟨y0⟩⟩,.int .i64 y1] []=some (XEr x):=XRw hx
abbrev XLB (Xa2:Xce) (Xad:XaH) (Xaf:Xav):List (Nat×XbC):=[(77,s77 Xa2),(78,s78 Xad),(129,XBC Xaf)]
theorem XFF (Xa2:Xce) (Xad:XaH) (Xaf:Xav) (hS:Xak Tryz.prog (XaD (XLB Xa2 Xad Xaf))) (s:List UInt8) (size:Int) (res:Xar) (h:XkM Xa2 Xad Xaf s size=some res) :
 XaF Tryz.prog 192 0 ⟨⟨192,38,[(0,.string ⟨⟨s⟩⟩),(1,.int .i64 size)],[.code XBi],[],false,none⟩,[],[],0⟩ (fun v H _=>Res 0 (XEr res) v H):=by
 unfold XkM at h
 have R1:=@Xtm Xa2
 have R2:=@XmE Xad
 have R3:=@Xlm Xaf
 refine Xa4 XaC hS true 3000 ?_
 conv=>whnf
 exact W
def XeS:Xfb:=XkM Xa2 Xad Xaf
theorem XPN:XbD Tryz.prog 192 (s192 XeS):=by
 have hL:=XFF Xa2 Xad Xaf (Xak.XaJ ⟨Xs7,Xq4,XlU,trivial⟩)
 exact okA ⟨Tryz.f192,rfl,by decide,rfl⟩
def Xpj (Xa5:Xcz) (XaA:XbB) (XdC:XeL) (XeS:Xfb) (s:List UInt8) (src:Xaa) (dst:Xaa):Option (Xar×(List UInt8)×Int):=
 cond (decide ((s.length:Int)<20))
  (
  some ((Xar.mk 0 0 0 0 0 0 0 [],[],2)))
  (
  (s[12]?).bind fun (b:UInt8)=>
  (s[12]?).bind fun (b1:UInt8)=>
  let t:=wI .i64 (4*(wI .i64 ((b.toNat:Int).fdiv (2^4))))
  cond (decide (t<20))
   (
   some ((Xar.mk 0 0 0 0 0 0 0 [],[],3)))
   (
   cond ((XnS .u8 (b1.toNat:Int) 15) !=0)
    (
    some ((Xar.mk 0 0 0 0 0 0 0 [],[],3)))
    (
    cond (decide (t>(s.length:Int)))
     (
     some ((Xar.mk 0 0 0 0 0 0 0 [],[],2)))
     (
     (XaA src dst 6 (s.length:Int)).bind fun p=>
     cond (p==[])
      (
      some ((Xar.mk 0 0 0 0 0 0 0 [],[],1)))
      (
      Xbn (decide (p.length+s.length<2^63)) <|
      (Xa5 (p++s)).bind fun xr=>
      cond (!xr)
       (
       some ((Xar.mk 0 0 0 0 0 0 0 [],[],4)))
       (
       (XeS s t).bind fun p1=>
       (XdC p1.Options).bind fun l=>
       cond (l.2 !=0)
        (
        some ((Xar.mk 0 0 0 0 0 0 0 [],[],l.2)))
        (
        Xbn (decide ((0:Int)≤t∧t≤(s.length:Int))) <|
        let t1:=(s.drop t.toNat).take (s.length - t.toNat)
        some ((p1,t1,0)))))))))
def XG3 (x:Xar×(List UInt8)×Int):XcU:=⟨.tuple ⟨[.agg ⟨[.int .i64 x.1.SPort,.int .i64 x.1.DPort,.int .u32 x.1.Seq,.int .u32 x.1.Ack,.int .i64 x.1.Flags,.int .i64 x.1.Window,.int .i64 x.1.Urgent,.string ⟨⟨x.1.Options⟩⟩]⟩,.string ⟨⟨x.2.1⟩⟩,.int .i64 x.2.2]⟩,[],[]⟩
abbrev XhK:=(List UInt8)→Xaa→Xaa→Option (Xar×(List UInt8)×Int)
def r167 (g:XhK):Dec:=dV asS fun (y0:List UInt8)=>dV Xb4 fun (y1:Xaa)=>dV Xb4 fun (y2:Xaa)=>Xd2 (ofG (g y0 y1 y2) XG3)
theorem XVd {g:XhK} {y0:List UInt8} {y1:Xaa} {y2:Xaa} {x:Xar×(List UInt8)×Int} (hx:g y0 y1 y2=some x):r167 g [.string ⟨⟨y0⟩⟩,.agg ⟨[.bool y1.V6,.int .u64 y1.Hi,.int .u64 y1.Lo]⟩,.agg ⟨[.bool y2.V6,.int .u64 y2.Hi,.int .u64 y2.Lo]⟩] []=some (XG3 x):=(XaO (Xd3)).trans ((XaO (XbM _)).trans ((XaO (XbM _)).trans (XaN hx)))
def s167 (g:XhK):XbC:=⟨[.v,.v,.v],r167 g⟩
theorem XMW {g:XhK} {y0:List UInt8} {y1:Xaa} {y2:Xaa} {x:Xar×(List UInt8)×Int} (hx:g y0 y1 y2=some x):(s167 g).run [.string ⟨⟨y0⟩⟩,.agg ⟨[.bool y1.V6,.int .u64 y1.Hi,.int .u64 y1.Lo]⟩,.agg ⟨[.bool y2.V6,.int .u64 y2.Hi,.int .u64 y2.Lo]⟩] []=some (XG3 x):=XVd hx
abbrev XNy (Xa5:Xcz) (XaA:XbB) (XdC:XeL) (XeS:Xfb):List (Nat×XbC):=[(80,s80 Xa5),(180,XQl XaA),(169,s169 XdC),(192,s192 XeS)]
theorem XGE (Xa5:Xcz) (XaA:XbB) (XdC:XeL) (XeS:Xfb) (hS:Xak Tryz.prog (XaD (XNy Xa5 XaA XdC XeS))) (s:List UInt8) (src:Xaa) (dst:Xaa) (res:Xar×(List UInt8)×Int) (h:Xpj Xa5 XaA XdC XeS s src dst=some res) :
 XaF Tryz.prog 167 0 ⟨⟨167,76,[(0,.string ⟨⟨s⟩⟩),(1,.agg ⟨[.bool src.V6,.int .u64 src.Hi,.int .u64 src.Lo]⟩),(2,.agg ⟨[.bool dst.V6,.int .u64 dst.Hi,.int .u64 dst.Lo]⟩)],[.code XA8],[],false,none⟩,[],[],0⟩ (fun v H _=>Res 0 (XG3 res) v H):=by
 unfold Xpj at h
 have R1:=@Xsg XaA
 have R2:=@Xxy Xa5
 have R3:=@XLZ XeS
 have R4:=@XyV XdC
 refine Xa4 XaC hS true 3000 ?_
 conv=>whnf
 exact W
def Xis:XhK:=Xpj Xa5 XaA XdC XeS
theorem XLs:XbD Tryz.prog 167 (s167 Xis):=by
 have hL:=XGE Xa5 XaA XdC XeS (Xak.XaJ ⟨Xyd,XrL,Xyi,XPN,trivial⟩)
 exact okA ⟨Tryz.f167,rfl,by decide,rfl⟩
def Xnu (Xbe:XcD) (n:Int) (k:Int):Option (List UInt8):=
 (Xbe (wI .u64 n) k).bind fun p=>
 some (p)
def rx62 (x:List UInt8):XcU:=⟨.string ⟨⟨x⟩⟩,[],[]⟩
abbrev XfP:=Int→Int→Option (List UInt8)
def r62 (g:XfP):Dec:=dV (asI .i64) fun (y0:Int)=>dV (asI .i64) fun (y1:Int)=>Xd2 (ofG (g y0 y1) rx62)
theorem r62_c {g:XfP} {y0:Int} {y1:Int} {x:List UInt8} (hx:g y0 y1=some x):r62 g [.int .i64 y0,.int .i64 y1] []=some (rx62 x):=(XaO (Xen _)).trans ((XaO (Xen _)).trans (XaN hx))
def s62 (g:XfP):XbC:=⟨[.v,.v],r62 g⟩
theorem XH3 {g:XfP} {y0:Int} {y1:Int} {x:List UInt8} (hx:g y0 y1=some x):(s62 g).run [.int .i64 y0,.int .i64 y1] []=some (rx62 x):=r62_c hx
abbrev XUu (Xbe:XcD):List (Nat×XbC):=[(63,s63 Xbe)]
theorem XOO (Xbe:XcD) (hS:Xak Tryz.prog (XaD (XUu Xbe))) (n:Int) (k:Int) (res:List UInt8) (h:Xnu Xbe n k=some res) :
 XaF Tryz.prog 62 0 ⟨⟨62,9,[(0,.int .i64 n),(1,.int .i64 k)],[.code XTu],[],false,none⟩,[],[],0⟩ (fun v H _=>Res 0 (rx62 res) v H):=by
 unfold Xnu at h
 have R1:=@Xtx Xbe
 refine Xa4 XaC hS true 3000 ?_
 conv=>whnf
 exact W
def Xde:XfP:=Xnu Xbe
theorem XII:XbD Tryz.prog 62 (s62 Xde):=by
 have hL:=XOO Xbe (Xak.XaJ ⟨XtJ,trivial⟩)
 exact okA ⟨Tryz.f62,rfl,by decide,rfl⟩
def XrB (n:Int) (most:Int):Option Bool:=
 cond (decide (n≥0))
  (
  some (decide (n≤most)))
  (
  some (false))
def XBZ (x:Bool):XcU:=⟨.bool x,[],[]⟩
abbrev XiX:=Int→Int→Option Bool
def r148 (g:XiX):Dec:=dV (asI .i64) fun (y0:Int)=>dV (asI .i64) fun (y1:Int)=>Xd2 (ofG (g y0 y1) XBZ)
theorem XQD {g:XiX} {y0:Int} {y1:Int} {x:Bool} (hx:g y0 y1=some x):r148 g [.int .i64 y0,.int .i64 y1] []=some (XBZ x):=(XaO (Xen _)).trans ((XaO (Xen _)).trans (XaN hx))
def s148 (g:XiX):XbC:=⟨[.v,.v],r148 g⟩
theorem XPZ {g:XiX} {y0:Int} {y1:Int} {x:Bool} (hx:g y0 y1=some x):(s148 g).run [.int .i64 y0,.int .i64 y1] []=some (XBZ x):=XQD hx
abbrev XMX:List (Nat×XbC):=[]
theorem XEU (hS:Xak Tryz.prog (XaD (XMX))) (n:Int) (most:Int) (res:Bool) (h:XrB n most=some res) :
 XaF Tryz.prog 148 0 ⟨⟨148,12,[(0,.int .i64 n),(1,.int .i64 most)],[.code XJp],[],false,none⟩,[],[],0⟩ (fun v H _=>Res 0 (XBZ res) v H):=by
 unfold XrB at h
 refine Xa4 XaC hS true 3000 ?_
 conv=>whnf
 exact W
def XiW:XiX:=XrB
theorem XJ3:XbD Tryz.prog 148 (s148 XiW):=by
 have hL:=XEU (Xak.XaJ trivial)
 exact okA ⟨Tryz.f148,rfl,by decide,rfl⟩
def Xmk (XiW:XiX) (ha0:Xar):Option Bool:=
 (XiW ha0.SPort 65535).bind fun i=>
 cond (i)
  (
  (XiW ha0.DPort 65535).bind fun i1=>
  cond (i1)
   (
   (XiW ha0.Flags 255).bind fun i2=>
   cond (i2)
    (
    (XiW ha0.Window 65535).bind fun i3=>
    cond (i3)
     (
     (XiW ha0.Urgent 65535).bind fun i4=>
     cond (i4)
      (
      cond (decide ((ha0.Options.length:Int)≤40))
       (
       some (((ha0.Options.length:Int).tmod 4)==0))
       (
       some (false)))
      (
      some (false)))
     (
     some (false)))
    (
    some (false)))
   (
   some (false)))
  (
  some (false))
def XDg (x:Bool):XcU:=⟨.bool x,[],[]⟩
abbrev XfZ:=Xar→Option Bool
def r102 (g:XfZ):Dec:=dV XhI fun (y0:Xar)=>Xd2 (ofG (g y0) XDg)
theorem XVa {g:XfZ} {y0:Xar} {x:Bool} (hx:g y0=some x):r102 g [.agg ⟨[.int .i64 y0.SPort,.int .i64 y0.DPort,.int .u32 y0.Seq,.int .u32 y0.Ack,.int .i64 y0.Flags,.int .i64 y0.Window,.int .i64 y0.Urgent,.string ⟨⟨y0.Options⟩⟩]⟩] []=some (XDg x):=(XaO (Xi0 _)).trans (XaN hx)
def s102 (g:XfZ):XbC:=⟨[.v],r102 g⟩
theorem XNa {g:XfZ} {y0:Xar} {x:Bool} (hx:g y0=some x):(s102 g).run [.agg ⟨[.int .i64 y0.SPort,.int .i64 y0.DPort,.int .u32 y0.Seq,.int .u32 y0.Ack,.int .i64 y0.Flags,.int .i64 y0.Window,.int .i64 y0.Urgent,.string ⟨⟨y0.Options⟩⟩]⟩] []=some (XDg x):=XVa hx
abbrev XNb (XiW:XiX):List (Nat×XbC):=[(148,s148 XiW)]
theorem XGX (XiW:XiX) (hS:Xak Tryz.prog (XaD (XNb XiW))) (ha0:Xar) (res:Bool) (h:Xmk XiW ha0=some res) :
 XaF Tryz.prog 102 0 ⟨⟨102,39,[(0,.agg ⟨[.int .i64 ha0.SPort,.int .i64 ha0.DPort,.int .u32 ha0.Seq,.int .u32 ha0.Ack,.int .i64 ha0.Flags,.int .i64 ha0.Window,.int .i64 ha0.Urgent,.string ⟨⟨ha0.Options⟩⟩]⟩)],[.code XIi],[],false,none⟩,[],[],0⟩ (fun v H _=>Res 0 (XDg res) v H):=by
 unfold Xmk at h
 have R1:=@XPZ XiW
 refine Xa4 XaC hS true 3000 ?_
 conv=>whnf
 exact W
def XfN:XfZ:=Xmk XiW
theorem XKH:XbD Tryz.prog 102 (s102 XfN):=by
 have hL:=XGX XiW (Xak.XaJ ⟨XJ3,trivial⟩)
 exact okA ⟨Tryz.f102,rfl,by decide,rfl⟩
def Xpp (Xe5:Xgh) (Xdk:Xfa) (Xbu:XcF) (XfN:XfZ) (Xde:XfP) (ha0:Xar) (src:Xaa) (dst:Xaa) (payload:List UInt8):Option ((List UInt8)×Int):=
 let t:=wI .i64 (20+(ha0.Options.length:Int))
 (Xbu src dst 6 (wI .i64 (t+(payload.length:Int)))).bind fun p=>
 (XfN ha0).bind fun xr=>
 cond (!xr)
  (
  some (([],1)))
  (
  cond (p==[])
   (
   some (([],1)))
   (
   let t1:=decide ((payload.length:Int)>(wI .i64 (65535 - t)))
   cond (t1)
    (
    some (([],5)))
    (
    (Xde ha0.SPort 2).bind fun n=>
    (Xde ha0.DPort 2).bind fun n1=>
    Xbn (decide (n.length+n1.length<2^63)) <|
    (Xde (wI .i64 ha0.Seq) 4).bind fun n2=>
    Xbn (decide ((n++n1).length+n2.length<2^63)) <|
    (Xde (wI .i64 ha0.Ack) 4).bind fun n3=>
    Xbn (decide (((n++n1)++n2).length+n3.length<2^63)) <|
    (Xde (wI .i64 (4*t)) 1).bind fun n4=>
    Xbn (decide ((((n++n1)++n2)++n3).length+n4.length<2^63)) <|
    (Xde ha0.Flags 1).bind fun n5=>
    Xbn (decide (((((n++n1)++n2)++n3)++n4).length+n5.length<2^63)) <|
    (Xde ha0.Window 2).bind fun n6=>
    Xbn (decide ((((((n++n1)++n2)++n3)++n4)++n5).length+n6.length<2^63)) <|
    let t2:=(((((n++n1)++n2)++n3)++n4)++n5)++n6
    (Xde 0 2).bind fun n7=>
    Xbn (decide (t2.length+n7.length<2^63)) <|
    (Xde ha0.Urgent 2).bind fun n8=>
    Xbn (decide ((t2++n7).length+n8.length<2^63)) <|
    Xbn (decide (((t2++n7)++n8).length+ha0.Options.length<2^63)) <|
    Xbn (decide ((((t2++n7)++n8)++ha0.Options).length+payload.length<2^63)) <|
    let t3:=(((t2++n7)++n8)++ha0.Options)++payload
    Xbn (decide (p.length+t3.length<2^63)) <|
    (Xe5 (p++t3)).bind fun xo=>
    (Xdk t3 16 2 (wI .u64 xo)).bind fun s=>
    some ((s,0)))))
def rx60 (x:(List UInt8)×Int):XcU:=⟨.tuple ⟨[.string ⟨⟨x.1⟩⟩,.int .i64 x.2]⟩,[],[]⟩
abbrev XhR:=Xar→Xaa→Xaa→(List UInt8)→Option ((List UInt8)×Int)
def r60 (g:XhR):Dec:=dV XhI fun (y0:Xar)=>dV Xb4 fun (y1:Xaa)=>dV Xb4 fun (y2:Xaa)=>dV asS fun (y3:List UInt8)=>Xd2 (ofG (g y0 y1 y2 y3) rx60)
theorem r60_c {g:XhR} {y0:Xar} {y1:Xaa} {y2:Xaa} {y3:List UInt8} {x:(List UInt8)×Int} (hx:g y0 y1 y2 y3=some x):r60 g [.agg ⟨[.int .i64 y0.SPort,.int .i64 y0.DPort,.int .u32 y0.Seq,.int .u32 y0.Ack,.int .i64 y0.Flags,.int .i64 y0.Window,.int .i64 y0.Urgent,.string ⟨⟨y0.Options⟩⟩]⟩,.agg ⟨[.bool y1.V6,.int .u64 y1.Hi,.int .u64 y1.Lo]⟩,.agg ⟨[.bool y2.V6,.int .u64 y2.Hi,.int .u64 y2.Lo]⟩,.string ⟨⟨y3⟩⟩] []=some (rx60 x):=(XaO (Xi0 _)).trans ((XaO (XbM _)).trans ((XaO (XbM _)).trans ((XaO (Xd3)).trans (XaN hx))))
def s60 (g:XhR):XbC:=⟨[.v,.v,.v,.v],r60 g⟩
theorem XTR {g:XhR} {y0:Xar} {y1:Xaa} {y2:Xaa} {y3:List UInt8} {x:(List UInt8)×Int} (hx:g y0 y1 y2 y3=some x):(s60 g).run [.agg ⟨[.int .i64 y0.SPort,.int .i64 y0.DPort,.int .u32 y0.Seq,.int .u32 y0.Ack,.int .i64 y0.Flags,.int .i64 y0.Window,.int .i64 y0.Urgent,.string ⟨⟨y0.Options⟩⟩]⟩,.agg ⟨[.bool y1.V6,.int .u64 y1.Hi,.int .u64 y1.Lo]⟩,.agg ⟨[.bool y2.V6,.int .u64 y2.Hi,.int .u64 y2.Lo]⟩,.string ⟨⟨y3⟩⟩] []=some (rx60 x):=r60_c hx
abbrev XUb (Xe5:Xgh) (Xdk:Xfa) (Xbu:XcF) (XfN:XfZ) (Xde:XfP):List (Nat×XbC):=[(65,s65 Xe5),(64,s64 Xdk),(101,XWI Xbu),(102,s102 XfN),(62,s62 Xde)]
theorem XKP (Xe5:Xgh) (Xdk:Xfa) (Xbu:XcF) (XfN:XfZ) (Xde:XfP) (hS:Xak Tryz.prog (XaD (XUb Xe5 Xdk Xbu XfN Xde))) (ha0:Xar) (src:Xaa) (dst:Xaa) (payload:List UInt8) (res:(List UInt8)×Int) (h:Xpp Xe5 Xdk Xbu XfN Xde ha0 src dst payload=some res) :
 XaF Tryz.prog 60 0 ⟨⟨60,83,[(0,.agg ⟨[.int .i64 ha0.SPort,.int .i64 ha0.DPort,.int .u32 ha0.Seq,.int .u32 ha0.Ack,.int .i64 ha0.Flags,.int .i64 ha0.Window,.int .i64 ha0.Urgent,.string ⟨⟨ha0.Options⟩⟩]⟩),(1,.agg ⟨[.bool src.V6,.int .u64 src.Hi,.int .u64 src.Lo]⟩),(2,.agg ⟨[.bool dst.V6,.int .u64 dst.Hi,.int .u64 dst.Lo]⟩),(3,.string ⟨⟨payload⟩⟩)],[.code XHK],[],false,none⟩,[],[],0⟩ (fun v H _=>Res 0 (rx60 res) v H):=by
 unfold Xpp at h
 have R1:=@Xuh Xbu
 have R2:=@XNa XfN
 have R3:=@XH3 Xde
 have R4:=@XIC Xe5
 have R5:=@XJC Xdk
 refine Xa4 XaC hS true 3000 ?_
 conv=>whnf
 exact W
def Xip:XhR:=Xpp Xe5 Xdk Xbu XfN Xde
theorem XVY:XbD Tryz.prog 60 (s60 Xip):=by
 have hL:=XKP Xe5 Xdk Xbu XfN Xde (Xak.XaJ ⟨XIZ,XI6,Xuq,XKH,XII,trivial⟩)
 exact okA ⟨Tryz.f60,rfl,by decide,rfl⟩
def Xps (Xao:XbA) (Xcm:XdJ) (Xbu:XcF) (Xdz:XeM) (s:List UInt8) (src:Xaa) (dst:Xaa):Option (Xar×(List UInt8)×Int):=
 cond (decide ((s.length:Int)<20))
  (
  some ((Xar.mk 0 0 0 0 0 0 0 [],[],2)))
  (
  (s[12]?).bind fun (b:UInt8)=>
  let t:=wI .i64 (wI .u8 ((b.toNat:Int).tdiv 16))
  cond (decide ((wI .i64 (4*t))<20))
   (
   some ((Xar.mk 0 0 0 0 0 0 0 [],[],3)))
   (
   (s[12]?).bind fun (b1:UInt8)=>
   cond (((b1.toNat:Int).tmod 16) !=0)
    (
    some ((Xar.mk 0 0 0 0 0 0 0 [],[],3)))
    (
    let t1:=decide ((s.length:Int)<(wI .i64 (4*t)))
    cond (t1)
     (
     some ((Xar.mk 0 0 0 0 0 0 0 [],[],2)))
     (
     (Xbu src dst 6 (s.length:Int)).bind fun p=>
     cond (p==[])
      (
      some ((Xar.mk 0 0 0 0 0 0 0 [],[],1)))
      (
      Xbn (decide (p.length+s.length<2^63)) <|
      (Xcm (p++s)).bind fun s1=>
      cond (s1 !=65535)
       (
       some ((Xar.mk 0 0 0 0 0 0 0 [],[],4)))
       (
       Xbn (decide ((0:Int)≤(wI .i64 (4*t))∧(wI .i64 (4*t))≤(s.length:Int)∧(0:Int)≤(20:Int)∧(20:Int)≤((wI .i64 (4*t)).toNat:Int))) <|
       let t2:=(s.drop 20).take ((wI .i64 (4*t)).toNat - 20)
       (Xdz t2).bind fun l=>
       cond (l.2 !=0)
        (
        some ((Xar.mk 0 0 0 0 0 0 0 [],[],l.2)))
        (
        (Xao s 0 2).bind fun m=>
        (Xao s 2 2).bind fun m1=>
        (Xao s 4 4).bind fun m2=>
        (Xao s 8 4).bind fun m3=>
        (s[13]?).bind fun (b2:UInt8)=>
        (Xao s 14 2).bind fun m4=>
        (Xao s 18 2).bind fun m5=>
        Xbn (decide ((0:Int)≤(wI .i64 (4*t))∧(wI .i64 (4*t))≤(s.length:Int)∧(0:Int)≤(20:Int)∧(20:Int)≤((wI .i64 (4*t)).toNat:Int))) <|
        let t3:=(s.drop 20).take ((wI .i64 (4*t)).toNat - 20)
        Xbn (decide ((0:Int)≤(wI .i64 (4*t))∧(wI .i64 (4*t))≤(s.length:Int))) <|
        let t4:=(s.drop (wI .i64 (4*t)).toNat).take (s.length - (wI .i64 (4*t)).toNat)
        some ((Xar.mk m m1 (wI .u32 m2) (wI .u32 m3) (wI .i64 (b2.toNat:Int)) m4 m5 t3,t4,0)))))))))
def XB2 (x:Xar×(List UInt8)×Int):XcU:=⟨.tuple ⟨[.agg ⟨[.int .i64 x.1.SPort,.int .i64 x.1.DPort,.int .u32 x.1.Seq,.int .u32 x.1.Ack,.int .i64 x.1.Flags,.int .i64 x.1.Window,.int .i64 x.1.Urgent,.string ⟨⟨x.1.Options⟩⟩]⟩,.string ⟨⟨x.2.1⟩⟩,.int .i64 x.2.2]⟩,[],[]⟩
abbrev Xhv:=(List UInt8)→Xaa→Xaa→Option (Xar×(List UInt8)×Int)
def r106 (g:Xhv):Dec:=dV asS fun (y0:List UInt8)=>dV Xb4 fun (y1:Xaa)=>dV Xb4 fun (y2:Xaa)=>Xd2 (ofG (g y0 y1 y2) XB2)
theorem XRv {g:Xhv} {y0:List UInt8} {y1:Xaa} {y2:Xaa} {x:Xar×(List UInt8)×Int} (hx:g y0 y1 y2=some x):r106 g [.string ⟨⟨y0⟩⟩,.agg ⟨[.bool y1.V6,.int .u64 y1.Hi,.int .u64 y1.Lo]⟩,.agg ⟨[.bool y2.V6,.int .u64 y2.Hi,.int .u64 y2.Lo]⟩] []=some (XB2 x):=(XaO (Xd3)).trans ((XaO (XbM _)).trans ((XaO (XbM _)).trans (XaN hx)))
def s106 (g:Xhv):XbC:=⟨[.v,.v,.v],r106 g⟩
theorem XMf {g:Xhv} {y0:List UInt8} {y1:Xaa} {y2:Xaa} {x:Xar×(List UInt8)×Int} (hx:g y0 y1 y2=some x):(s106 g).run [.string ⟨⟨y0⟩⟩,.agg ⟨[.bool y1.V6,.int .u64 y1.Hi,.int .u64 y1.Lo]⟩,.agg ⟨[.bool y2.V6,.int .u64 y2.Hi,.int .u64 y2.Lo]⟩] []=some (XB2 x):=XRv hx
abbrev XKA (Xao:XbA) (Xcm:XdJ) (Xbu:XcF) (Xdz:XeM):List (Nat×XbC):=[(88,s88 Xao),(86,s86 Xcm),(101,XWI Xbu),(154,s154 Xdz)]
theorem XHI (Xao:XbA) (Xcm:XdJ) (Xbu:XcF) (Xdz:XeM) (hS:Xak Tryz.prog (XaD (XKA Xao Xcm Xbu Xdz))) (s:List UInt8) (src:Xaa) (dst:Xaa) (res:Xar×(List UInt8)×Int) (h:Xps Xao Xcm Xbu Xdz s src dst=some res) :
 XaF Tryz.prog 106 0 ⟨⟨106,85,[(0,.string ⟨⟨s⟩⟩),(1,.agg ⟨[.bool src.V6,.int .u64 src.Hi,.int .u64 src.Lo]⟩),(2,.agg ⟨[.bool dst.V6,.int .u64 dst.Hi,.int .u64 dst.Lo]⟩)],[.code Xyq],[],false,none⟩,[],[],0⟩ (fun v H _=>Res 0 (XB2 res) v H):=by
 unfold Xps at h
 have R1:=@Xuh Xbu
 have R2:=@Xvg Xcm
 have R3:=@XxW Xdz
 have R4:=@XoB Xao
 refine Xa4 XaC hS true 3000 ?_
 conv=>whnf
 exact W
def XiI:Xhv:=Xps Xao Xcm Xbu Xdz
theorem XMq:XbD Tryz.prog 106 (s106 XiI):=by
 have hL:=XHI Xao Xcm Xbu Xdz (Xak.XaJ ⟨Xp7,Xwe,Xuq,XAP,trivial⟩)
 exact okA ⟨Tryz.f106,rfl,by decide,rfl⟩
end Go.Vm.Code
