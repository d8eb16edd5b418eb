import Derived.Test.YtdnbalelfakjhaaGreatNPacketTellsc
namespace Go.Vm.Code
open Go Go.Vm Go.Proofs
set_option maxRecDepth 100000
set_option maxHeartbeats 4000000
set_option linter.unusedVariables false
@[ext] structure Xaa where
 V6:Bool
 Hi:Int
 Lo:Int
 deriving DecidableEq
@[ext] structure Xah where
 Proto:Int
 Src:Xaa
 Dst:Xaa
 SPort:Int
 DPort:Int
 deriving DecidableEq
@[ext] structure Xaf where
 Tuple:Xah
 Flags:Int
 Stamped:Bool
 Val:Int
 Echo:Int
 Long:Bool
 CID:List UInt8
 Size:Int
 deriving DecidableEq
@[ext] structure Xaq where
 src:Xaa
 dst:Xaa
 proto:Int
 body:List UInt8
 deriving DecidableEq
@[ext] structure Xag where
 Class:Int
 Mark:Int
 Whole:Bool
 TTL:Int
 Proto:Int
 Src:Xaa
 Dst:Xaa
 Options:List UInt8
 deriving DecidableEq
@[ext] structure Xab where
 s:List UInt8
 made:Bool
 bad:Bool
 deriving DecidableEq
@[ext] structure Xbo where
 Reader:Xab
 deriving DecidableEq
@[ext] structure Xaj where
 Class:Int
 Label:Int
 Next:Int
 Hop:Int
 Src:Xaa
 Dst:Xaa
 deriving DecidableEq
@[ext] structure Xak where
 SPort:Int
 DPort:Int
 Seq:Int
 Ack:Int
 Flags:Int
 Window:Int
 Urgent:Int
 Options:List UInt8
 deriving DecidableEq
@[ext] structure XbG where
 Kind:Int
 Data:List UInt8
 deriving DecidableEq
@[ext] structure Xat where
 SPort:Int
 DPort:Int
 deriving DecidableEq
@[ext] structure XaQ where
 Long:Bool
 Bits:Int
 Version:Int
 DCID:List UInt8
 SCID:List UInt8
 Rest:List UInt8
 deriving DecidableEq
@[ext] structure Xb1 where
 src:Xaa
 dst:Xaa
 proto:Int
 size:Int
 body:List UInt8
 deriving DecidableEq
@[ext] structure Xby where
 Kind:Int
 Data:List UInt8
 At:Int
 deriving DecidableEq
def Xd5 (x:Xaa):List Value:=[.bool x.V6,.int .u64 x.Hi,.int .u64 x.Lo]
theorem Xil (x:Xaa):(Xd5 x).length=3:=rfl
theorem Xf4 (x:Xaa):Xbz.flatL (Xd5 x)=true:=rfl
theorem Xeu (x:Xaa):(Xd5 x).all XgK=true:=rfl
@[simp] theorem Xww (xs:List Xaa):(vT Xd5 xs).length=xs.length*3:=Xhg Xil xs
@[simp] theorem XwI (xs:List Xaa) (n:Nat):(vT Xd5 xs).take (n*3)=vT Xd5 (xs.take n):=XfY Xil xs n
@[simp] theorem Xws (xs:List Xaa) (n:Nat):(vT Xd5 xs).drop (n*3)=vT Xd5 (xs.drop n):=XfO Xil xs n
def XkD:List Value→Option Xaa
 | [.bool a1,.int .u64 a2,.int .u64 a3]=>some (Xaa.mk a1 a2 a3)
 | _=>none
theorem Xns (cs:List Value) (x:Xaa) (h:XkD cs=some x):cs=Xd5 x:=by
 unfold XkD at h;split at h
 ·cases h;rfl
 ·cases h
def Xbp:Value→Option Xaa
 | .agg ⟨cs⟩=>XkD cs
 | _=>none
theorem Xa1 (v:Value) (x:Xaa) (h:Xbp v=some x):v=.agg ⟨Xd5 x⟩:=by
 unfold Xbp at h;split at h
 ·rw [Xns _ _ h]
 ·cases h
theorem Xa8 (x:Xaa):Xbp (.agg ⟨Xd5 x⟩)=some x:=rfl
def Xdp (x:Xah):List Value:=[.int .i64 x.Proto,.bool x.Src.V6,.int .u64 x.Src.Hi,.int .u64 x.Src.Lo,.bool x.Dst.V6,.int .u64 x.Dst.Hi,.int .u64 x.Dst.Lo,.int .i64 x.SPort,.int .i64 x.DPort]
theorem Xhm (x:Xah):(Xdp x).length=9:=rfl
theorem Xfw (x:Xah):Xbz.flatL (Xdp x)=true:=rfl
theorem XdN (x:Xah):(Xdp x).all XgK=true:=rfl
@[simp] theorem Xvk (xs:List Xah):(vT Xdp xs).length=xs.length*9:=Xhg Xhm xs
@[simp] theorem Xv4 (xs:List Xah) (n:Nat):(vT Xdp xs).take (n*9)=vT Xdp (xs.take n):=XfY Xhm xs n
@[simp] theorem Xwq (xs:List Xah) (n:Nat):(vT Xdp xs).drop (n*9)=vT Xdp (xs.drop n):=XfO Xhm xs n
def XjY:List Value→Option Xah
 | [.int .i64 a1,.bool a2,.int .u64 a3,.int .u64 a4,.bool a5,.int .u64 a6,.int .u64 a7,.int .i64 a8,.int .i64 a9]=>some (Xah.mk a1 (Xaa.mk a2 a3 a4) (Xaa.mk a5 a6 a7) a8 a9)
 | _=>none
theorem XmF (cs:List Value) (x:Xah) (h:XjY cs=some x):cs=Xdp x:=by
 unfold XjY at h;split at h
 ·cases h;rfl
 ·cases h
def Xdi:Value→Option Xah
 | .agg ⟨cs⟩=>XjY cs
 | _=>none
theorem XdJ (v:Value) (x:Xah) (h:Xdi v=some x):v=.agg ⟨Xdp x⟩:=by
 unfold Xdi at h;split at h
 ·rw [XmF _ _ h]
 ·cases h
theorem Xet (x:Xah):Xdi (.agg ⟨Xdp x⟩)=some x:=rfl
def Xdj (x:Xaf):List Value:=[.int .i64 x.Tuple.Proto,.bool x.Tuple.Src.V6,.int .u64 x.Tuple.Src.Hi,.int .u64 x.Tuple.Src.Lo,.bool x.Tuple.Dst.V6,.int .u64 x.Tuple.Dst.Hi,.int .u64 x.Tuple.Dst.Lo,.int .i64 x.Tuple.SPort,.int .i64 x.Tuple.DPort,.int .i64 x.Flags,.bool x.Stamped,.int .u32 x.Val,.int .u32 x.Echo,.bool x.Long,.string ⟨⟨x.CID⟩⟩,.int .i64 x.Size]
theorem XgW (x:Xaf):(Xdj x).length=16:=rfl
theorem XeR (x:Xaf):Xbz.flatL (Xdj x)=true:=rfl
theorem Xdm (x:Xaf):(Xdj x).all XgK=true:=rfl
@[simp] theorem Xsu (xs:List Xaf):(vT Xdj xs).length=xs.length*16:=Xhg XgW xs
@[simp] theorem Xsr (xs:List Xaf) (n:Nat):(vT Xdj xs).take (n*16)=vT Xdj (xs.take n):=XfY XgW xs n
@[simp] theorem Xsv (xs:List Xaf) (n:Nat):(vT Xdj xs).drop (n*16)=vT Xdj (xs.drop n):=XfO XgW xs n
def Xge:List Value→Option Xaf
 | [.int .i64 a1,.bool a2,.int .u64 a3,.int .u64 a4,.bool a5,.int .u64 a6,.int .u64 a7,.int .i64 a8,.int .i64 a9,.int .i64 a10,.bool a11,.int .u32 a12,.int .u32 a13,.bool a14,.string ⟨⟨a15⟩⟩,.int .i64 a16]=>some (Xaf.mk (Xah.mk a1 (Xaa.mk a2 a3 a4) (Xaa.mk a5 a6 a7) a8 a9) a10 a11 a12 a13 a14 a15 a16)
 | _=>none
theorem XiL (cs:List Value) (x:Xaf) (h:Xge cs=some x):cs=Xdj x:=by
 unfold Xge at h;split at h
 ·cases h;rfl
 ·cases h
theorem XjI (x:Xaf):Xge (Xdj x)=some x:=rfl
def Xcd (x:Xaq):List Value:=[.bool x.src.V6,.int .u64 x.src.Hi,.int .u64 x.src.Lo,.bool x.dst.V6,.int .u64 x.dst.Hi,.int .u64 x.dst.Lo,.int .i64 x.proto,.string ⟨⟨x.body⟩⟩]
theorem XfW (x:Xaq):(Xcd x).length=8:=rfl
theorem XdV (x:Xaq):Xbz.flatL (Xcd x)=true:=rfl
theorem XcT (x:Xaq):(Xcd x).all XgK=true:=rfl
@[simp] theorem XqM (xs:List Xaq):(vT Xcd xs).length=xs.length*8:=Xhg XfW xs
@[simp] theorem Xrj (xs:List Xaq) (n:Nat):(vT Xcd xs).take (n*8)=vT Xcd (xs.take n):=XfY XfW xs n
@[simp] theorem Xrz (xs:List Xaq) (n:Nat):(vT Xcd xs).drop (n*8)=vT Xcd (xs.drop n):=XfO XfW xs n
def Xht:List Value→Option Xaq
 | [.bool a1,.int .u64 a2,.int .u64 a3,.bool a4,.int .u64 a5,.int .u64 a6,.int .i64 a7,.string ⟨⟨a8⟩⟩]=>some (Xaq.mk (Xaa.mk a1 a2 a3) (Xaa.mk a4 a5 a6) a7 a8)
 | _=>none
theorem XkZ (cs:List Value) (x:Xaq) (h:Xht cs=some x):cs=Xcd x:=by
 unfold Xht at h;split at h
 ·cases h;rfl
 ·cases h
def XeN:Value→Option Xaq
 | .agg ⟨cs⟩=>Xht cs
 | _=>none
theorem XhK (v:Value) (x:Xaq) (h:XeN v=some x):v=.agg ⟨Xcd x⟩:=by
 unfold XeN at h;split at h
 ·rw [XkZ _ _ h]
 ·cases h
theorem Xio (x:Xaq):XeN (.agg ⟨Xcd x⟩)=some x:=rfl
def Xcx (x:Xag):List Value:=[.int .i64 x.Class,.int .i64 x.Mark,.bool x.Whole,.int .i64 x.TTL,.int .i64 x.Proto,.bool x.Src.V6,.int .u64 x.Src.Hi,.int .u64 x.Src.Lo,.bool x.Dst.V6,.int .u64 x.Dst.Hi,.int .u64 x.Dst.Lo,.string ⟨⟨x.Options⟩⟩]
theorem Xgk (x:Xag):(Xcx x).length=12:=rfl
theorem Xev (x:Xag):Xbz.flatL (Xcx x)=true:=rfl
theorem Xc6 (x:Xag):(Xcx x).all XgK=true:=rfl
@[simp] theorem XrY (xs:List Xag):(vT Xcx xs).length=xs.length*12:=Xhg Xgk xs
@[simp] theorem Xr7 (xs:List Xag) (n:Nat):(vT Xcx xs).take (n*12)=vT Xcx (xs.take n):=XfY Xgk xs n
@[simp] theorem XrO (xs:List Xag) (n:Nat):(vT Xcx xs).drop (n*12)=vT Xcx (xs.drop n):=XfO Xgk xs n
def Xh4:List Value→Option Xag
 | [.int .i64 a1,.int .i64 a2,.bool a3,.int .i64 a4,.int .i64 a5,.bool a6,.int .u64 a7,.int .u64 a8,.bool a9,.int .u64 a10,.int .u64 a11,.string ⟨⟨a12⟩⟩]=>some (Xag.mk a1 a2 a3 a4 a5 (Xaa.mk a6 a7 a8) (Xaa.mk a9 a10 a11) a12)
 | _=>none
theorem Xlm (cs:List Value) (x:Xag) (h:Xh4 cs=some x):cs=Xcx x:=by
 unfold Xh4 at h;split at h
 ·cases h;rfl
 ·cases h
def XdC:Value→Option Xag
 | .agg ⟨cs⟩=>Xh4 cs
 | _=>none
theorem XeT (v:Value) (x:Xag) (h:XdC v=some x):v=.agg ⟨Xcx x⟩:=by
 unfold XdC at h;split at h
 ·rw [Xlm _ _ h]
 ·cases h
theorem Xfn (x:Xag):XdC (.agg ⟨Xcx x⟩)=some x:=rfl
def Xcq (x:Xab):List Value:=[.string ⟨⟨x.s⟩⟩,.bool x.made,.bool x.bad]
theorem Xf3 (x:Xab):(Xcq x).length=3:=rfl
theorem XdU (x:Xab):Xbz.flatL (Xcq x)=true:=rfl
theorem XcR (x:Xab):(Xcq x).all XgK=true:=rfl
@[simp] theorem XqQ (xs:List Xab):(vT Xcq xs).length=xs.length*3:=Xhg Xf3 xs
@[simp] theorem Xrb (xs:List Xab) (n:Nat):(vT Xcq xs).take (n*3)=vT Xcq (xs.take n):=XfY Xf3 xs n
@[simp] theorem XqH (xs:List Xab) (n:Nat):(vT Xcq xs).drop (n*3)=vT Xcq (xs.drop n):=XfO Xf3 xs n
def Xcs:List Value→Option Xab
 | [.string ⟨⟨a1⟩⟩,.bool a2,.bool a3]=>some (Xab.mk a1 a2 a3)
 | _=>none
theorem XcQ (cs:List Value) (x:Xab) (h:Xcs cs=some x):cs=Xcq x:=by
 unfold Xcs at h;split at h
 ·cases h;rfl
 ·cases h
theorem XdG (x:Xab):Xcs (Xcq x)=some x:=rfl
def XcW (x:Xaj):List Value:=[.int .i64 x.Class,.int .i64 x.Label,.int .i64 x.Next,.int .i64 x.Hop,.bool x.Src.V6,.int .u64 x.Src.Hi,.int .u64 x.Src.Lo,.bool x.Dst.V6,.int .u64 x.Dst.Hi,.int .u64 x.Dst.Lo]
theorem XgT (x:Xaj):(XcW x).length=10:=rfl
theorem XeS (x:Xaj):Xbz.flatL (XcW x)=true:=rfl
theorem Xdu (x:Xaj):(XcW x).all XgK=true:=rfl
@[simp] theorem Xsq (xs:List Xaj):(vT XcW xs).length=xs.length*10:=Xhg XgT xs
@[simp] theorem Xso (xs:List Xaj) (n:Nat):(vT XcW xs).take (n*10)=vT XcW (xs.take n):=XfY XgT xs n
@[simp] theorem Xsn (xs:List Xaj) (n:Nat):(vT XcW xs).drop (n*10)=vT XcW (xs.drop n):=XfO XgT xs n
def Xiu:List Value→Option Xaj
 | [.int .i64 a1,.int .i64 a2,.int .i64 a3,.int .i64 a4,.bool a5,.int .u64 a6,.int .u64 a7,.bool a8,.int .u64 a9,.int .u64 a10]=>some (Xaj.mk a1 a2 a3 a4 (Xaa.mk a5 a6 a7) (Xaa.mk a8 a9 a10))
 | _=>none
theorem Xl1 (cs:List Value) (x:Xaj) (h:Xiu cs=some x):cs=XcW x:=by
 unfold Xiu at h;split at h
 ·cases h;rfl
 ·cases h
def Xel:Value→Option Xaj
 | .agg ⟨cs⟩=>Xiu cs
 | _=>none
theorem XfA (v:Value) (x:Xaj) (h:Xel v=some x):v=.agg ⟨XcW x⟩:=by
 unfold Xel at h;split at h
 ·rw [Xl1 _ _ h]
 ·cases h
theorem Xf5 (x:Xaj):Xel (.agg ⟨XcW x⟩)=some x:=rfl
def Xee (x:Xak):List Value:=[.int .i64 x.SPort,.int .i64 x.DPort,.int .u32 x.Seq,.int .u32 x.Ack,.int .i64 x.Flags,.int .i64 x.Window,.int .i64 x.Urgent,.string ⟨⟨x.Options⟩⟩]
theorem Xh6 (x:Xak):(Xee x).length=8:=rfl
theorem Xf9 (x:Xak):Xbz.flatL (Xee x)=true:=rfl
theorem Xex (x:Xak):(Xee x).all XgK=true:=rfl
@[simp] theorem XwL (xs:List Xak):(vT Xee xs).length=xs.length*8:=Xhg Xh6 xs
@[simp] theorem XwG (xs:List Xak) (n:Nat):(vT Xee xs).take (n*8)=vT Xee (xs.take n):=XfY Xh6 xs n
@[simp] theorem XwA (xs:List Xak) (n:Nat):(vT Xee xs).drop (n*8)=vT Xee (xs.drop n):=XfO Xh6 xs n
def XkE:List Value→Option Xak
 | [.int .i64 a1,.int .i64 a2,.int .u32 a3,.int .u32 a4,.int .i64 a5,.int .i64 a6,.int .i64 a7,.string ⟨⟨a8⟩⟩]=>some (Xak.mk a1 a2 a3 a4 a5 a6 a7 a8)
 | _=>none
theorem Xoh (cs:List Value) (x:Xak) (h:XkE cs=some x):cs=Xee x:=by
 unfold XkE at h;split at h
 ·cases h;rfl
 ·cases h
def Xfa:Value→Option Xak
 | .agg ⟨cs⟩=>XkE cs
 | _=>none
theorem Xfy (v:Value) (x:Xak) (h:Xfa v=some x):v=.agg ⟨Xee x⟩:=by
 unfold Xfa at h;split at h
 ·rw [Xoh _ _ h]
 ·cases h
theorem Xgf (x:Xak):Xfa (.agg ⟨Xee x⟩)=some x:=rfl
def Xf8 (x:XbG):List Value:=[.int .i64 x.Kind,.string ⟨⟨x.Data⟩⟩]
theorem Xhb (x:XbG):(Xf8 x).length=2:=rfl
theorem Xb3 (x:XbG):Xbz.flatL (Xf8 x)=true:=rfl
theorem Xe5 (x:XbG):(Xf8 x).all XgK=true:=rfl
@[simp] theorem XzZ (xs:List XbG):(vT Xf8 xs).length=xs.length*2:=Xhg Xhb xs
@[simp] theorem XAC (xs:List XbG) (n:Nat):(vT Xf8 xs).take (n*2)=vT Xf8 (xs.take n):=XfY Xhb xs n
@[simp] theorem Xy0 (xs:List XbG) (n:Nat):(vT Xf8 xs).drop (n*2)=vT Xf8 (xs.drop n):=XfO Xhb xs n
def Xef (x:Xat):List Value:=[.int .i64 x.SPort,.int .i64 x.DPort]
theorem Xik (x:Xat):(Xef x).length=2:=rfl
theorem Xf6 (x:Xat):Xbz.flatL (Xef x)=true:=rfl
theorem XeC (x:Xat):(Xef x).all XgK=true:=rfl
@[simp] theorem XwD (xs:List Xat):(vT Xef xs).length=xs.length*2:=Xhg Xik xs
@[simp] theorem XwB (xs:List Xat) (n:Nat):(vT Xef xs).take (n*2)=vT Xef (xs.take n):=XfY Xik xs n
@[simp] theorem XwE (xs:List Xat) (n:Nat):(vT Xef xs).drop (n*2)=vT Xef (xs.drop n):=XfO Xik xs n
def Xk5:List Value→Option Xat
 | [.int .i64 a1,.int .i64 a2]=>some (Xat.mk a1 a2)
 | _=>none
theorem Xnj (cs:List Value) (x:Xat) (h:Xk5 cs=some x):cs=Xef x:=by
 unfold Xk5 at h;split at h
 ·cases h;rfl
 ·cases h
def XhP:Value→Option Xat
 | .agg ⟨cs⟩=>Xk5 cs
 | _=>none
theorem Xke (v:Value) (x:Xat) (h:XhP v=some x):v=.agg ⟨Xef x⟩:=by
 unfold XhP at h;split at h
 ·rw [Xnj _ _ h]
 ·cases h
theorem Xlc (x:Xat):XhP (.agg ⟨Xef x⟩)=some x:=rfl
def Xe0 (x:XaQ):List Value:=[.bool x.Long,.int .i64 x.Bits,.int .u32 x.Version,.string ⟨⟨x.DCID⟩⟩,.string ⟨⟨x.SCID⟩⟩,.string ⟨⟨x.Rest⟩⟩]
theorem Xhk (x:XaQ):(Xe0 x).length=6:=rfl
theorem XfD (x:XaQ):Xbz.flatL (Xe0 x)=true:=rfl
theorem XdK (x:XaQ):(Xe0 x).all XgK=true:=rfl
@[simp] theorem XuA (xs:List XaQ):(vT Xe0 xs).length=xs.length*6:=Xhg Xhk xs
@[simp] theorem Xt8 (xs:List XaQ) (n:Nat):(vT Xe0 xs).take (n*6)=vT Xe0 (xs.take n):=XfY Xhk xs n
@[simp] theorem XsC (xs:List XaQ) (n:Nat):(vT Xe0 xs).drop (n*6)=vT Xe0 (xs.drop n):=XfO Xhk xs n
def Xgd (x:Xb1):List Value:=[.bool x.src.V6,.int .u64 x.src.Hi,.int .u64 x.src.Lo,.bool x.dst.V6,.int .u64 x.dst.Hi,.int .u64 x.dst.Lo,.int .i64 x.proto,.int .i64 x.size,.string ⟨⟨x.body⟩⟩]
theorem Xif (x:Xb1):(Xgd x).length=9:=rfl
theorem Xgb (x:Xb1):Xbz.flatL (Xgd x)=true:=rfl
theorem Xeq (x:Xb1):(Xgd x).all XgK=true:=rfl
@[simp] theorem XwC (xs:List Xb1):(vT Xgd xs).length=xs.length*9:=Xhg Xif xs
@[simp] theorem XwK (xs:List Xb1) (n:Nat):(vT Xgd xs).take (n*9)=vT Xgd (xs.take n):=XfY Xif xs n
@[simp] theorem Xwu (xs:List Xb1) (n:Nat):(vT Xgd xs).drop (n*9)=vT Xgd (xs.drop n):=XfO Xif xs n
def Xfr (x:Xby):List Value:=[.int .i64 x.Kind,.string ⟨⟨x.Data⟩⟩,.int .i64 x.At]
theorem Xdc (x:Xby):(Xfr x).length=3:=rfl
theorem Xcc (x:Xby):Xbz.flatL (Xfr x)=true:=rfl
theorem Xe1 (x:Xby):(Xfr x).all XgK=true:=rfl
@[simp] theorem Xyz (xs:List Xby):(vT Xfr xs).length=xs.length*3:=Xhg Xdc xs
@[simp] theorem Xx7 (xs:List Xby) (n:Nat):(vT Xfr xs).take (n*3)=vT Xfr (xs.take n):=XfY Xdc xs n
@[simp] theorem Xxh (xs:List Xby) (n:Nat):(vT Xfr xs).drop (n*3)=vT Xfr (xs.drop n):=XfO Xdc xs n
def Xfo (k:Nat):Value→List (Option (List Value))→Option Xbo
 | .agg ⟨[.pointer (some ⟨k0,0,none⟩)]⟩,[some c0]=>match Xcs c0 with|some x0=>(if k0=k+0 then some (Xbo.mk x0) else none)|none=>none
 | _,_=>none
theorem Xkc {k:Nat} {v:Value} {cs:List (Option (List Value))} {x:Xbo} (h:Xfo k v cs=some x):v=.agg ⟨[.pointer (some ⟨k+0,0,none⟩)]⟩∧cs=[some [.string ⟨⟨x.Reader.s⟩⟩,.bool x.Reader.made,.bool x.Reader.bad]]:=by
 unfold Xfo at h;split at h<;>try (cases h;done)
 split at h<;>try (cases h;done)
 rename_i x0 e0
 split at h<;>cases h
 rename_i hk
 subst hk
 obtain rfl:=XcQ _ _ e0
 exact ⟨rfl,rfl⟩
theorem XkJ (k:Nat) (x:Xbo):Xfo k (.agg ⟨[.pointer (some ⟨k+0,0,none⟩)]⟩) [some [.string ⟨⟨x.Reader.s⟩⟩,.bool x.Reader.made,.bool x.Reader.bad]]=some x:=by
 show (if k+0=k+0 then some x else none)=_
 simp
theorem Xj4 {P:Program} {f base fn nt:Nat} {e e':Env} {todo todo':List XdR} {ds ds':List Nat} {ret:Bool} {up up':List Xbh} {H H':Hp} {top top':Nat} {R:Value→Hp→Nat→Prop}
 (h:XaI P f base ⟨⟨fn,nt,e',todo',ds',ret,none⟩,up',H',top'⟩ R) (m:List (Nat×Nat)) (hc:Xwy base top' m=true) (he:reE (Xav m) e e':=by repeat' first|exact trivial|refine ⟨⟨_,rfl,rfl⟩,?_⟩|refine ⟨⟨_,_,rfl,rfl,.rowF (Xhp _ _) id⟩,?_⟩|refine ⟨⟨_,_,rfl,rfl,.rowF (Xmq _) id⟩,?_⟩|refine ⟨⟨_,_,rfl,rfl,.rowF (Xom _) id⟩,?_⟩|refine ⟨⟨_,_,rfl,rfl,.rowF (Xmj (by first|exact Xf4|exact Xfw|exact XeR|exact XdV|exact Xev|exact XdU|exact XeS|exact Xf9|exact Xb3|exact Xf6|exact XfD|exact Xgb|exact Xcc) _) id⟩,?_⟩|refine ⟨⟨_,_,rfl,rfl,.tyF (Xhp _ _)⟩,?_⟩|refine ⟨⟨_,_,rfl,rfl,.ty rfl⟩,?_⟩|refine ⟨⟨_,_,rfl,rfl,.cells rfl⟩,?_⟩|refine ⟨⟨_,_,rfl,rfl,.row rfl id⟩,?_⟩|refine ⟨⟨_,_,rfl,rfl,.cr rfl⟩,?_⟩|refine ⟨⟨_,_,rfl,rfl,.rc rfl⟩,?_⟩|refine ⟨⟨_,_,rfl,rfl,.marks⟩,?_⟩|refine ⟨⟨_,_,rfl,rfl,.siter _ _⟩,?_⟩|refine ⟨⟨_,_,rfl,rfl,.loop rfl rfl rfl rfl (by repeat' first|exact trivial|refine ⟨rfl,?_⟩) rfl rfl rfl rfl⟩,?_⟩) (hH:reH (Xav m) H H':=by repeat' first|exact trivial|refine ⟨⟨_,rfl,rfl⟩,?_⟩|refine ⟨⟨_,_,rfl,rfl,.rowF (Xhp _ _) id⟩,?_⟩|refine ⟨⟨_,_,rfl,rfl,.rowF (Xmq _) id⟩,?_⟩|refine ⟨⟨_,_,rfl,rfl,.rowF (Xom _) id⟩,?_⟩|refine ⟨⟨_,_,rfl,rfl,.rowF (Xmj (by first|exact Xf4|exact Xfw|exact XeR|exact XdV|exact Xev|exact XdU|exact XeS|exact Xf9|exact Xb3|exact Xf6|exact XfD|exact Xgb|exact Xcc) _) id⟩,?_⟩|refine ⟨⟨_,_,rfl,rfl,.tyF (Xhp _ _)⟩,?_⟩|refine ⟨⟨_,_,rfl,rfl,.ty rfl⟩,?_⟩|refine ⟨⟨_,_,rfl,rfl,.cells rfl⟩,?_⟩|refine ⟨⟨_,_,rfl,rfl,.row rfl id⟩,?_⟩|refine ⟨⟨_,_,rfl,rfl,.cr rfl⟩,?_⟩|refine ⟨⟨_,_,rfl,rfl,.rc rfl⟩,?_⟩|refine ⟨⟨_,_,rfl,rfl,.marks⟩,?_⟩|refine ⟨⟨_,_,rfl,rfl,.siter _ _⟩,?_⟩|refine ⟨⟨_,_,rfl,rfl,.loop rfl rfl rfl rfl (by repeat' first|exact trivial|refine ⟨rfl,?_⟩) rfl rfl rfl rfl⟩,?_⟩)
 (ht:XAW (Xav m) todo'=some todo:=by rfl) (hd:Xw8 (Xav m) ds'=some ds:=by rfl) (hu:reU (Xav m) up up':=by trivial) :
 XaI P f base ⟨⟨fn,nt,e,todo,ds,ret,none⟩,up,H,top⟩ R:=XaI.re h m hc he hH ht hd hu
theorem Xzv {P:Program} {f base fn nt:Nat} {e e':Env} {todo todo':List XdR} {ds ds':List Nat} {ret:Bool} {up up':List Xbh} {H H':Hp} {top top':Nat} {R:Value→Hp→Nat→Prop}
 (h:XaI P f base ⟨⟨fn,nt,e',todo',ds',ret,none⟩,up',H',top'⟩ R) (m:List (Nat×Nat)) (hc:Xwy base top' m=true) (he:reE (Xav m) e e':=by repeat' first|exact trivial|refine ⟨⟨_,rfl,rfl⟩,?_⟩|refine ⟨⟨_,_,rfl,rfl,.rowF (Xhp _ _) id⟩,?_⟩|refine ⟨⟨_,_,rfl,rfl,.rowF (Xmq _) id⟩,?_⟩|refine ⟨⟨_,_,rfl,rfl,.rowF (Xom _) id⟩,?_⟩|refine ⟨⟨_,_,rfl,rfl,.rowF (Xmj (by first|exact Xf4|exact Xfw|exact XeR|exact XdV|exact Xev|exact XdU|exact XeS|exact Xf9|exact Xb3|exact Xf6|exact XfD|exact Xgb|exact Xcc) _) id⟩,?_⟩|refine ⟨⟨_,_,rfl,rfl,.tyF (Xhp _ _)⟩,?_⟩|refine ⟨⟨_,_,rfl,rfl,.ty rfl⟩,?_⟩|refine ⟨⟨_,_,rfl,rfl,.cells rfl⟩,?_⟩|refine ⟨⟨_,_,rfl,rfl,.row rfl id⟩,?_⟩|refine ⟨⟨_,_,rfl,rfl,.cr rfl⟩,?_⟩|refine ⟨⟨_,_,rfl,rfl,.rc rfl⟩,?_⟩|refine ⟨⟨_,_,rfl,rfl,.marks⟩,?_⟩|refine ⟨⟨_,_,rfl,rfl,.siter _ _⟩,?_⟩|refine ⟨⟨_,_,rfl,rfl,.loop rfl rfl rfl rfl (by repeat' first|exact trivial|refine ⟨rfl,?_⟩) rfl rfl rfl rfl⟩,?_⟩) (hH:reH (Xav m) H H':=by repeat' first|exact trivial|refine ⟨⟨_,rfl,rfl⟩,?_⟩|refine ⟨⟨_,_,rfl,rfl,.rowF (Xhp _ _) id⟩,?_⟩|refine ⟨⟨_,_,rfl,rfl,.rowF (Xmq _) id⟩,?_⟩|refine ⟨⟨_,_,rfl,rfl,.rowF (Xom _) id⟩,?_⟩|refine ⟨⟨_,_,rfl,rfl,.rowF (Xmj (by first|exact Xf4|exact Xfw|exact XeR|exact XdV|exact Xev|exact XdU|exact XeS|exact Xf9|exact Xb3|exact Xf6|exact XfD|exact Xgb|exact Xcc) _) id⟩,?_⟩|refine ⟨⟨_,_,rfl,rfl,.tyF (Xhp _ _)⟩,?_⟩|refine ⟨⟨_,_,rfl,rfl,.ty rfl⟩,?_⟩|refine ⟨⟨_,_,rfl,rfl,.cells rfl⟩,?_⟩|refine ⟨⟨_,_,rfl,rfl,.row rfl id⟩,?_⟩|refine ⟨⟨_,_,rfl,rfl,.cr rfl⟩,?_⟩|refine ⟨⟨_,_,rfl,rfl,.rc rfl⟩,?_⟩|refine ⟨⟨_,_,rfl,rfl,.marks⟩,?_⟩|refine ⟨⟨_,_,rfl,rfl,.siter _ _⟩,?_⟩|refine ⟨⟨_,_,rfl,rfl,.loop rfl rfl rfl rfl (by repeat' first|exact trivial|refine ⟨rfl,?_⟩) rfl rfl rfl rfl⟩,?_⟩)
 (ht:XAW (Xav m) todo'=some todo:=by rfl) (hd:Xw8 (Xav m) ds'=some ds:=by rfl) (hu:reU (Xav m) up up':=by repeat' first|exact trivial|refine ⟨⟨rfl,rfl,rfl,rfl,rfl,?_,rfl,rfl⟩,?_⟩|refine ⟨⟨_,rfl,rfl⟩,?_⟩) :
 XaI P f base ⟨⟨fn,nt,e,todo,ds,ret,none⟩,up,H,top⟩ R:=XaI.re h m hc he hH ht hd hu
def XfC (n1:Int):Option (Sum Int Int):=
 cond (decide (n1>65535))
  (
  let t:=wI .i64 ((Xjr .i64 n1 65535)+(n1.fdiv (2^16)))
  some (.inl t))
  (
  some (.inr (n1)))
def Xf1 (n:Int):Option Int:=
 iter (fun st=>XfC st) FUEL n
def Xsd (x:Int):Xca:=⟨.int .i64 x,[],[]⟩
def r199 (g:Int→Option Int):Dec:=dV (asI .i64) fun (y0:Int)=>XcO (ofG (g y0) Xsd)
theorem X6V {g:Int→Option Int} {y0:Int} {x:Int} (hx:g y0=some x):r199 g [.int .i64 y0] []=some (Xsd x):=(XaT (Xc3 _)).trans (Xa0 hx)
def s199 (g:Int→Option Int):Xbr:=⟨[.v],r199 g⟩
theorem Xu5 {g:Int→Option Int} {y0:Int} {x:Int} (hx:g y0=some x):(s199 g).run [.int .i64 y0] []=some (Xsd x):=X6V hx
abbrev Xqc:List (Nat×Xbr):=[]
def Xit (n1:Int):VM:=
 ⟨⟨199,11,[(0,.int .i64 n1)],[.code XtB,.inLoop XtB,.inBlock 0,.code XsW],[],false,none⟩,[],[],0⟩
theorem XtD (hS:Xai Tryz.prog (Xav (Xqc))) (res:Int):∀ fuel (st:Int) (o:Int),iter (fun st=>XfC st) fuel st=some o→(o=res) →
 XaI Tryz.prog 199 0 (Xit st) (fun v H _=>Res 0 (Xsd res) v H):=by
 intro fuel st o h hc
 refine XbX (head:=fun st=>Xit st) (C:=fun o=>(o=res)) ?_ fuel st o h hc
 clear h hc o st fuel
 intro n1 o h hc
 replace h:XfC n1=some o:=h
 show XaI Tryz.prog 199 0 (Xit n1) (fun v H _=>Res 0 (Xsd res) v H)
 unfold XfC at h
 refine Xa7 Xao hS true 3000 ?_
 conv=>whnf
 refine br.h2 h ?_ ?_ ?_
 ·rfl
 ·clear h;intro hb h;conv=>whnf
  all_goals (cases h;cases hc;exact Res.z rfl rfl rfl)
 clear h;intro hb h;conv=>whnf
 let t:Int:=wI .i64 ((Xjr .i64 n1 65535)+(n1.fdiv (2^16)))
 cases h;simp only [Sum.elim_inl,Xit] at hc
 exact Xj4 hc [] rfl
theorem Xys (hS:Xai Tryz.prog (Xav (Xqc))) (n:Int) (res:Int) (h:Xf1 n=some res) :
 XaI Tryz.prog 199 0 ⟨⟨199,11,[(0,.int .i64 n)],[.code Xvg],[],false,none⟩,[],[],0⟩ (fun v H _=>Res 0 (Xsd res) v H):=by
 unfold Xf1 at h
 refine Xa7 Xao hS true 3000 ?_
 conv=>whnf
 have hl:=XtD hS res _ _ _ h rfl;simp only [Xit] at hl
 exact Xj4 hl [] rfl
theorem ok199 (hS:Xai Tryz.prog (Xav (Xqc))):Xar Tryz.prog 199 (s199 (Xf1)):=by
 refine Xar.Xay Xao (fun ar os r ha hr=>?_) ⟨Tryz.f199,rfl,by decide,rfl⟩
 replace hr:r199 (Xf1) ar (XaD os)=some r:=hr
 unfold r199 at hr
 generalize hc:XaD os=C at hr
 replace hr:=dV.elim hr;obtain ⟨v0,l1,y0,rfl,e0,hr⟩:=hr;obtain rfl:=XbS _ _ _ e0
 replace hr:=Xc2 hr;obtain ⟨rfl,rfl,x,h,rfl⟩:=hr
 obtain rfl:=Xas hc
 exact ⟨_,rfl,Xys hS _ x h⟩
def Xbw:Int→Option Int:=Xf1
theorem XDS:Xar Tryz.prog 199 (s199 Xbw):=ok199 (Xai.XaW trivial)
def Xe2 (Xbw:Int→Option Int) (s:List UInt8) (xat:Int) (n:Int):Option (Sum (Int×Int) Int):=
 cond (decide (xat<(s.length:Int)))
  (
  XaJ (decide (0≤xat)) <|
  (s[xat.toNat]?).bind fun (b:UInt8)=>
  let t:=wI .i64 ((wI .i64 (b.toNat:Int))*2^8)
  let t1:=decide ((wI .i64 (xat+1))<(s.length:Int))
  cond (t1)
   (
   XaJ (decide (0≤(wI .i64 (xat+1)))) <|
   (s[(wI .i64 (xat+1)).toNat]?).bind fun (b1:UInt8)=>
   let t2:=wI .i64 (n+(Xjh .i64 t (wI .i64 (b1.toNat:Int))))
   (Xbw t2).bind fun f=>
   some (.inl (wI .i64 (xat+2),f)))
   (
   (Xbw (wI .i64 (n+t))).bind fun f1=>
   some (.inl (wI .i64 (xat+2),f1))))
  (
  some (.inr (n)))
def Xgy (Xbw:Int→Option Int) (s:List UInt8):Option Int:=
 iter (fun st=>Xe2 Xbw s st.1 st.2) FUEL (0,0)
def XrN (x:Int):Xca:=⟨.int .i64 x,[],[]⟩
def r176 (g:(List UInt8)→Option Int):Dec:=dV asS fun (y0:List UInt8)=>XcO (ofG (g y0) XrN)
theorem X84 {g:(List UInt8)→Option Int} {y0:List UInt8} {x:Int} (hx:g y0=some x):r176 g [.string ⟨⟨y0⟩⟩] []=some (XrN x):=(XaT (Xcp)).trans (Xa0 hx)
def X5S (g:(List UInt8)→Option Int):Xbr:=⟨[.v],r176 g⟩
theorem XvV {g:(List UInt8)→Option Int} {y0:List UInt8} {x:Int} (hx:g y0=some x):(X5S g).run [.string ⟨⟨y0⟩⟩] []=some (XrN x):=X84 hx
abbrev Xp8 (Xbw:Int→Option Int):List (Nat×Xbr):=[(199,s199 Xbw)]
def XhM (s:List UInt8) (xat:Int) (n:Int):VM:=
 ⟨⟨197,32,[(0,.func (.yield 3) #[] #[]),(1,.pointer (some ⟨1,0,none⟩)),(3,.int .i64 xat)],[.code Xqr,.inLoop Xqr,.inBlock 0],[],false,none⟩,[⟨176,13,[(3,.pointer (some ⟨0,0,none⟩))],[.inRangeFunc 3,.inBlock 0,.code XvP],[2],false,none⟩],[(0,.cells [.int .i64 n]),(1,.cells [.string ⟨⟨s⟩⟩]),(2,.marks),(3,.loop ⟨.ready,none,176,13,[(3,.pointer (some ⟨0,0,none⟩))],[7],XCy,XCs,2⟩)],4⟩
theorem Xuc (Xbw:Int→Option Int) (hS:Xai Tryz.prog (Xav (Xp8 Xbw))) (s:List UInt8) (res:Int):∀ fuel (st:Int×Int) (o:Int),iter (fun st=>Xe2 Xbw s st.1 st.2) fuel st=some o→(o=res) →
 XaI Tryz.prog 176 0 (XhM s st.1 st.2) (fun v H _=>Res 0 (XrN res) v H):=by
 intro fuel st o h hc
 refine XbX (head:=fun st=>XhM s st.1 st.2) (C:=fun o=>(o=res)) ?_ fuel st o h hc
 clear h hc o st fuel
 intro st o h hc
 obtain ⟨xat,n⟩:=st
 replace h:Xe2 Xbw s xat n=some o:=h
 show XaI Tryz.prog 176 0 (XhM s xat n) (fun v H _=>Res 0 (XrN res) v H)
 unfold Xe2 at h
 refine Xa7 Xao hS true 3000 ?_
 conv=>whnf
 refine br.h2 h ?_ ?_ ?_
 ·rfl
 ·clear h;intro hb h;conv=>whnf
  all_goals (cases h;cases hc;exact Res.z rfl rfl rfl)
 clear h;intro hb h;conv=>whnf
 replace h:=XaJ.elim h;obtain ⟨hb,h⟩:=h
 first|(refine req.intro hb ?_;conv=>whnf)|skip
 replace h:=Xal.elim h;obtain ⟨b,hy,h⟩:=h
 refine rdS.intro hy ?_
 conv=>whnf
 let t:Int:=wI .i64 ((wI .i64 (b.toNat:Int))*2^8)
 let t1:Bool:=decide ((wI .i64 (xat+1))<(s.length:Int))
 refine br.h2 h ?_ ?_ ?_
 ·rfl
 ·clear h;intro hb h;conv=>whnf
  replace h:=Xal.elim h;obtain ⟨f1,hy,h⟩:=h
  refine XaK.q rfl rfl (Xu5 hy) rfl rfl rfl ?_
  conv=>whnf
  cases h;simp only [Sum.elim_inl,XhM] at hc
  exact Xzv hc [(0,0),(1,1),(2,2),(3,3)] rfl
 clear h;intro hb h;conv=>whnf
 replace h:=XaJ.elim h;obtain ⟨hb,h⟩:=h
 first|(refine req.intro hb ?_;conv=>whnf)|skip
 replace h:=Xal.elim h;obtain ⟨b1,hy,h⟩:=h
 refine rdS.intro hy ?_
 conv=>whnf
 let t2:Int:=wI .i64 (n+(Xjh .i64 t (wI .i64 (b1.toNat:Int))))
 replace h:=Xal.elim h;obtain ⟨f,hy,h⟩:=h
 refine XaK.q rfl rfl (Xu5 hy) rfl rfl rfl ?_
 conv=>whnf
 cases h;simp only [Sum.elim_inl,XhM] at hc
 exact Xzv hc [(0,0),(1,1),(2,2),(3,3)] rfl
theorem Xyf (Xbw:Int→Option Int) (hS:Xai Tryz.prog (Xav (Xp8 Xbw))) (s:List UInt8) (res:Int) (h:Xgy Xbw s=some res) :
 XaI Tryz.prog 176 0 ⟨⟨176,13,[(0,.string ⟨⟨s⟩⟩)],[.code XuL],[],false,none⟩,[],[],0⟩ (fun v H _=>Res 0 (XrN res) v H):=by
 unfold Xgy at h
 refine Xa7 Xao hS true 3000 ?_
 conv=>whnf
 have hl:=Xuc Xbw hS _ res _ _ _ h rfl;simp only [XhM] at hl
 exact Xzv hl [(0,0),(1,1),(2,2),(3,3)] rfl
theorem ok176 (Xbw:Int→Option Int) (hS:Xai Tryz.prog (Xav (Xp8 Xbw))):Xar Tryz.prog 176 (X5S (Xgy Xbw)):=by
 refine Xar.Xay Xao (fun ar os r ha hr=>?_) ⟨Tryz.f176,rfl,by decide,rfl⟩
 replace hr:r176 (Xgy Xbw) ar (XaD os)=some r:=hr
 unfold r176 at hr
 generalize hc:XaD os=C at hr
 replace hr:=dV.elim hr;obtain ⟨v0,l1,y0,rfl,e0,hr⟩:=hr;obtain rfl:=XbH _ _ e0
 replace hr:=Xc2 hr;obtain ⟨rfl,rfl,x,h,rfl⟩:=hr
 obtain rfl:=Xas hc
 exact ⟨_,rfl,Xyf Xbw hS _ x h⟩
def Xbt:(List UInt8)→Option Int:=Xgy Xbw
theorem Xtj:Xar Tryz.prog 176 (X5S Xbt):=ok176 Xbw (Xai.XaW ⟨XDS,trivial⟩)
end Go.Vm.Code
namespace Go.Vm.Code
open Go Go.Vm
def Xfk:List UInt8→Nat
 | []=>0
 | [b]=>b.toNat*256
 | b::c::l=>b.toNat*256+c.toNat+Xfk l
def norm (n:Nat):Nat:=if n=0 then 0 else (n - 1)%65535+1
theorem norm_eq {n r:Nat} (h1:r≤65535) (h2:r%65535=n%65535) (h3:r=0↔n=0):norm n=r:=by unfold norm;split<;>omega
theorem norm_le (n:Nat):norm n≤65535:=by unfold norm;split<;>omega
theorem XlB (n:Nat):norm n%65535=n%65535:=by unfold norm;split<;>omega
theorem Xki (n:Nat):norm n=0↔n=0:=by unfold norm;split<;>omega
theorem Xmp {n:Nat} (h:n≤65535):norm n=n:=norm_eq h rfl Iff.rfl
theorem Xq9 (a b:Nat):norm (norm a+b)=norm (a+b):=
 (norm_eq (norm_le _) (by have h1:=XlB a;have h2:=XlB (norm a+b);omega) (by have h1:=Xki a;have h2:=Xki (norm a+b);omega)).symm
theorem fold_eq {n:Int} (h0:0≤n) (h1:n<2^62):Xbw n=some ((norm n.toNat:Nat):Int):=by
 unfold Xbw Xf1
 refine iter_eq (fun n=>((norm n.toNat:Nat):Int)) (fun n=>0≤n∧n<2^62) (fun n=>n.toNat) ?_ FUEL _ ⟨h0,h1⟩ (by rw [XeE];omega)
 intro s ⟨a,b⟩
 unfold XfC
 by_cases hs:s>65535
 ·refine .inr ⟨s%65536+s/65536,?_,⟨by omega,by omega⟩,by omega,?_⟩
  ·rw [XaS hs,XgS (m:=65535) 16 (by decide) (by decide) a (by omega),XoM,Xcg (by omega) (by omega)];rfl
  ·have:norm (s%65536+s/65536).toNat=norm s.toNat:=
    (norm_eq (norm_le _) (by have:=XlB (s%65536+s/65536).toNat;omega) (by have:=Xki (s%65536+s/65536).toNat;omega)).symm
   rw [this]
 ·refine .inl ?_
  rw [XaO hs]
  have:=Xmp (n:=s.toNat) (by omega)
  simp only [this]
  rw [Int.toNat_of_nonneg a]
theorem Xx8 {s:List UInt8} {i:Nat} (h:i+1<s.length):Xfk (s.drop i)=s[i].toNat*256+s[i+1].toNat+Xfk (s.drop (i+2)):=by
 rw [List.drop_eq_getElem_cons (by omega:i<s.length),List.drop_eq_getElem_cons h];rfl
theorem XyJ {s:List UInt8} {i:Nat} (h:i+1=s.length):Xfk (s.drop i)=s[i].toNat*256:=by
 rw [List.drop_eq_getElem_cons (by omega:i<s.length),List.drop_eq_nil_of_le (by omega)];rfl
theorem XoU {s:List UInt8} {i:Nat} (h:s.length≤i):Xfk (s.drop i)=0:=by
 rw [List.drop_eq_nil_of_le h];rfl
theorem XDl (s:List UInt8) (h:s.length<2^61):Xbt s=some ((norm (Xfk s):Nat):Int):=by
 unfold Xbt Xgy
 have key:=iter_eq (step:=fun (st:Int×Int)=>Xe2 Xbw s st.1 st.2) (fun (st:Int×Int)=>((norm (st.2.toNat+Xfk (s.drop st.1.toNat)):Nat):Int)) (fun (st:Int×Int)=>0≤st.1∧st.1≤s.length+1∧0≤st.2∧st.2≤65535) (fun (st:Int×Int)=>(s.length+2 - st.1).toNat) ?_ FUEL (0,0) ⟨by simp,by simp;omega,by simp,by simp⟩ (by rw [XeE];simp only;omega)
 ·rw [key];simp
 rintro ⟨p,n⟩ ⟨h1,h2,h3,h4⟩
 simp only at h1 h2 h3 h4 ⊢
 obtain ⟨i,rfl⟩:=Int.eq_ofNat_of_zero_le h1
 obtain ⟨m,rfl⟩:=Int.eq_ofNat_of_zero_le h3
 unfold Xe2
 by_cases hp:i<s.length
 ·by_cases hq:i+1<s.length
  ·have b1:=s[i].toNat_lt
   have b2:=s[i+1].toNat_lt
   refine .inr ⟨(((i+2:Nat):Int),((norm (m+(s[i].toNat*256+s[i+1].toNat)):Nat):Int)),?_,⟨by simp only;omega,by simp only;omega,by simp only;omega,by simp only;have:=norm_le (m+(s[i].toNat*256+s[i+1].toNat));omega⟩,by simp only;omega,?_⟩
   ·simp (disch:=omega) only [Xcg,Xaz,XaS]
    have e:((i:Int)+1).toNat=i+1:=by omega
    rw [e]
    simp (disch:=omega) only [Int.toNat_natCast,List.getElem?_eq_getElem,Option.bind_some,Xnf,Xcg,fold_eq]
    congr 3<;>omega
   ·simp only [Int.toNat_natCast]
    rw [Xq9,Xx8 hq,Nat.add_assoc]
  ·have b1:=s[i].toNat_lt
   refine .inr ⟨(((i+2:Nat):Int),((norm (m+s[i].toNat*256):Nat):Int)),?_,⟨by simp only;omega,by simp only;omega,by simp only;omega,by simp only;have:=norm_le (m+s[i].toNat*256);omega⟩,by simp only;omega,?_⟩
   ·simp (disch:=omega) only [Xcg,Xaz,XaS,XaO,Int.toNat_natCast,List.getElem?_eq_getElem,Option.bind_some,fold_eq]
    congr 3<;>omega
   ·simp only [Int.toNat_natCast]
    rw [Xq9,XoU (i:=i+2) (by omega),Nat.add_zero,XyJ (i:=i) (by omega)]
 ·refine .inl ?_
  simp (disch:=omega) only [XaO]
  simp only [Int.toNat_natCast]
  rw [XoU (by omega),Nat.add_zero,Xmp (by omega)]
end Go.Vm.Code
namespace Go.Vm
open Go
def be (n:Nat):Nat→List UInt8
 | 0=>[]
 | r+1=>UInt8.ofNat (n/256^r)::be n r
def Xdz (l:List UInt8):Nat:=l.foldl (fun n b=>n*256+b.toNat) 0
@[simp] theorem Xru (n:Nat):∀ k,(be n k).length=k
 | 0=>rfl
 | k+1=>by simp [be,Xru n k]
theorem XjV (n:Nat):∀ k,be n (k+1)=be (n/256) k++[UInt8.ofNat n]
 | 0=>by simp [be]
 | k+1=>by
   rw [be,XjV n k,be,Nat.div_div_eq_div_mul,Nat.pow_succ,Nat.mul_comm 256];rfl
theorem XmM (n:Nat):∀ k,be (n%256^k) k=be n k
 | 0=>rfl
 | k+1=>by
   rw [XjV,XjV,Nat.pow_succ,Nat.mul_comm,Nat.mod_mul_right_div_self,XmM (n/256) k]
   congr 2
   apply UInt8.toNat_inj.1
   simp only [UInt8.toNat_ofNat']
   rw [Nat.mod_mul_right_mod]
theorem Xox (l:List UInt8):∀ n:Nat,l.foldl (fun n b=>n*256+b.toNat) n=n*256^l.length+Xdz l:=by
 induction l with
 | nil=>intro n;simp [Xdz]
 | cons b l ih=>
   intro n
   rw [Xdz,List.foldl_cons,ih,List.foldl_cons,ih,List.length_cons,Nat.pow_succ]
   rw [Nat.zero_mul,Nat.zero_add,Nat.add_mul,Nat.mul_assoc,Nat.mul_comm (256^_) 256,Nat.add_assoc]
@[simp] theorem XOm:Xdz []=0:=rfl
theorem XeQ (b:UInt8) (l:List UInt8):Xdz (b::l)=b.toNat*256^l.length+Xdz l:=by
 rw [Xdz,List.foldl_cons,Xox];simp
theorem val_append (l m:List UInt8):Xdz (l++m)=Xdz l*256^m.length+Xdz m:=by
 rw [Xdz,List.foldl_append,Xox];rfl
theorem Xxz (l:List UInt8) (b:UInt8):Xdz (l++[b])=Xdz l*256+b.toNat:=by
 rw [val_append];simp [XeQ]
theorem XoB:∀ l:List UInt8,Xdz l<256^l.length
 | []=>by simp
 | b::l=>by
   have h:=XoB l
   have hb:=b.toNat_lt
   rw [XeQ,List.length_cons,Nat.pow_succ]
   have:b.toNat*256^l.length+256^l.length≤256*256^l.length:=by
    rw [←Nat.succ_mul];exact Nat.mul_le_mul_right _ (by omega)
   rw [Nat.mul_comm (256^l.length)];omega
theorem Xrm (n:Nat):∀ k,Xdz (be n k)=n%256^k
 | 0=>by simp [be,Nat.mod_one]
 | k+1=>by
   have e:n%256^(k+1)=n%256+256*(n/256%256^k):=by rw [Nat.pow_succ',Nat.mod_mul]
   rw [XjV,Xxz,Xrm (n/256) k,UInt8.toNat_ofNat',e]
   generalize n/256%256^k=x
   omega
theorem XCq:∀ l:List UInt8,be (Xdz l) l.length=l
 | []=>rfl
 | b::l=>by
   have h:=XoB l
   rw [List.length_cons,be]
   have e1:Xdz (b::l)/256^l.length=b.toNat:=by
    rw [XeQ,Nat.mul_comm,Nat.mul_add_div (Nat.pow_pos (by decide)),Nat.div_eq_of_lt h,Nat.add_zero]
   have e2:be (Xdz (b::l)) l.length=be (Xdz l) l.length:=by
    rw [←XmM (Xdz (b::l)),XeQ,Nat.mul_add_mod',XmM]
   rw [e1,e2,XCq l]
   simp
theorem XPo {l:List UInt8} {k:Nat} (h:l.length=k):be (Xdz l) k=l:=by subst h;exact XCq l
theorem be_of {l:List UInt8} {n k:Nat} (h:l.length=k) (hv:Xdz l=n):be n k=l:=by subst hv;exact XPo h
theorem Xdh {l:List UInt8} {k:Nat} (n:Nat) (h:256^k≤n):Xdz (l.take k)<n:=by
 have h1:=XoB (l.take k)
 have h2:(l.take k).length≤k:=List.length_take_le _ _
 exact Nat.lt_of_lt_of_le h1 (Nat.le_trans (Nat.pow_le_pow_right (by decide) h2) h)
theorem XlF (n:Nat) (j:Nat):∀ k,be n (j+k)=be (n/256^k) j++be n k
 | 0=>by simp [be]
 | k+1=>by
   rw [show j+(k+1)=(j+k)+1 from rfl,XjV,XlF (n/256) j k,XjV n k,Nat.div_div_eq_div_mul,Nat.pow_succ,Nat.mul_comm (256^k),List.append_assoc]
end Go.Vm
namespace Go.Vm.Code
open Go Go.Vm Go.Proofs
set_option maxRecDepth 100000
set_option maxHeartbeats 4000000
set_option linter.unusedVariables false
def Xe4 (n:Int) (k:Int) (t17:Int) (b:List Int):Option (Sum (Int×(List Int)) (List UInt8)):=
 cond (decide (t17<(k.toNat:Int)))
  (
  let t:=wI .i64 (8*(wI .i64 ((wI .i64 (k - 1)) - t17)))
  XaJ (decide (0≤t)) <|
  XaJ (decide ((0:Int)≤t17∧t17<(k.toNat:Int))) <|
  XaJ (decide (t17.toNat<b.length)) <|
  let row:=b.set t17.toNat (wI .u8 (n.fdiv (2^(min t.toNat 64))))
  some (.inl (wI .i64 (t17+1),row)))
  (
  XaJ (decide (k.toNat≤b.length)) <|
  some (.inr (iB (b.take k.toNat))))
def XgN (n:Int) (k:Int):Option (List UInt8):=
 cond (decide (k<1))
  (
  some ([]))
  (
  cond (decide (k>8))
   (
   some ([]))
   (
   XaJ (decide (0≤k∧k≤k∧k<2^63∧(1:Int)*k≤2^48)) <|
   iter (fun st=>Xe4 n k st.1 st.2) FUEL (0,List.replicate k.toNat (0))))
def XSd (x:List UInt8):Xca:=⟨.string ⟨⟨x⟩⟩,[],[]⟩
def r72 (g:Int→Int→Option (List UInt8)):Dec:=dV (asI .u64) fun (y0:Int)=>dV (asI .i64) fun (y1:Int)=>XcO (ofG (g y0 y1) XSd)
theorem r72_c {g:Int→Int→Option (List UInt8)} {y0:Int} {y1:Int} {x:List UInt8} (hx:g y0 y1=some x):r72 g [.int .u64 y0,.int .i64 y1] []=some (XSd x):=(XaT (Xc3 _)).trans ((XaT (Xc3 _)).trans (Xa0 hx))
def s72 (g:Int→Int→Option (List UInt8)):Xbr:=⟨[.v,.v],r72 g⟩
theorem Xg0 {g:Int→Int→Option (List UInt8)} {y0:Int} {y1:Int} {x:List UInt8} (hx:g y0 y1=some x):(s72 g).run [.int .u64 y0,.int .i64 y1] []=some (XSd x):=r72_c hx
abbrev XtU:List (Nat×Xbr):=[]
def Xky (n:Int) (k:Int) (t17:Int) (b:List Int):VM:=
 ⟨⟨72,34,[(0,.int .u64 n),(1,.int .i64 k),(5,.slice (some ⟨0,0,none⟩) k.toNat 1),(16,.int .i64 (k.toNat:Int)),(17,.int .i64 t17)],[.code Xu0,.inLoop Xu0,.inBlock 0,.code XCQ],[],false,none⟩,[],[(0,.row true (vI .u8 b))],1⟩
theorem XxA (hS:Xai Tryz.prog (Xav (XtU))) (n:Int) (k:Int) (res:List UInt8):∀ fuel (st:Int×(List Int)) (o:List UInt8),iter (fun st=>Xe4 n k st.1 st.2) fuel st=some o→(o=res) →
 XaI Tryz.prog 72 0 (Xky n k st.1 st.2) (fun v H _=>Res 0 (XSd res) v H):=by
 intro fuel st o h hc
 refine XbX (head:=fun st=>Xky n k st.1 st.2) (C:=fun o=>(o=res)) ?_ fuel st o h hc
 clear h hc o st fuel
 intro st o h hc
 obtain ⟨t17,b⟩:=st
 replace h:Xe4 n k t17 b=some o:=h
 show XaI Tryz.prog 72 0 (Xky n k t17 b) (fun v H _=>Res 0 (XSd res) v H)
 unfold Xe4 at h
 refine Xa7 Xao hS true 3000 ?_
 conv=>whnf
 refine br.h2 h ?_ ?_ ?_
 ·rfl
 ·clear h;intro hb h;conv=>whnf
  replace h:=XaJ.elim h;obtain ⟨hb,h⟩:=h
  refine req.intro (by (first|rfl|(simp [vI,vB,vS,bI,XgK,Xdg,XaU,Value.cells] at *;omega)|(simp [vI,vB,vS,bI,XgK,Xdg,XaU,Value.cells] at *;done))) ?_
  conv=>whnf
  refine X3G ?_
  conv=>whnf
  all_goals (cases h;cases hc;exact Res.z rfl rfl rfl)
 clear h;intro hb h;conv=>whnf
 let t:Int:=wI .i64 (8*(wI .i64 ((wI .i64 (k - 1)) - t17)))
 replace h:=XaJ.elim h;obtain ⟨hb,h⟩:=h
 first|(refine req.intro hb ?_;conv=>whnf)|skip
 replace h:=XaJ.elim h;obtain ⟨hb,h⟩:=h
 first|(refine req.intro hb ?_;conv=>whnf)|skip
 replace h:=XaJ.elim h;obtain ⟨hb,h⟩:=h
 refine st_I hb (by first|rfl|(rw [Nat.zero_add,Nat.mul_one];try rfl;done)|omega) ?_
 conv=>whnf
 let row:List Int:=b.set t17.toNat (wI .u8 (n.fdiv (2^(min t.toNat 64))))
 cases h;simp only [Sum.elim_inl,Xky] at hc
 exact Xj4 hc [(0,0)] rfl
theorem XFI (hS:Xai Tryz.prog (Xav (XtU))) (n:Int) (k:Int) (res:List UInt8) (h:XgN n k=some res) :
 XaI Tryz.prog 72 0 ⟨⟨72,34,[(0,.int .u64 n),(1,.int .i64 k)],[.code XBw],[],false,none⟩,[],[],0⟩ (fun v H _=>Res 0 (XSd res) v H):=by
 unfold XgN at h
 refine Xa7 Xao hS true 3000 ?_
 conv=>whnf
 refine br.h h ?_ ?_ ?_
 ·rfl
 ·clear h;intro hb h;conv=>whnf
  all_goals (cases h;exact Res.z rfl rfl rfl)
 clear h;intro hb h;conv=>whnf
 refine br.h h ?_ ?_ ?_
 ·rfl
 ·clear h;intro hb h;conv=>whnf
  all_goals (cases h;exact Res.z rfl rfl rfl)
 clear h;intro hb h;conv=>whnf
 replace h:=XaJ.elim h;obtain ⟨hb,h⟩:=h
 first|(refine req.intro hb ?_;conv=>whnf)|skip
 refine XUh ?_
 conv=>whnf
 have hl:=XxA hS _ _ res _ _ _ h rfl;simp only [Xky] at hl
 exact Xj4 hl [(0,0)] rfl
theorem ok72 (hS:Xai Tryz.prog (Xav (XtU))):Xar Tryz.prog 72 (s72 (XgN)):=by
 refine Xar.Xay Xao (fun ar os r ha hr=>?_) ⟨Tryz.f72,rfl,by decide,rfl⟩
 replace hr:r72 (XgN) ar (XaD os)=some r:=hr
 unfold r72 at hr
 generalize hc:XaD os=C at hr
 replace hr:=dV.elim hr;obtain ⟨v0,l1,y0,rfl,e0,hr⟩:=hr;obtain rfl:=XbS _ _ _ e0
 replace hr:=dV.elim hr;obtain ⟨v1,l2,y1,rfl,e1,hr⟩:=hr;obtain rfl:=XbS _ _ _ e1
 replace hr:=Xc2 hr;obtain ⟨rfl,rfl,x,h,rfl⟩:=hr
 obtain rfl:=Xas hc
 exact ⟨_,rfl,XFI hS _ _ x h⟩
def Xan:Int→Int→Option (List UInt8):=XgN
theorem XmW:Xar Tryz.prog 72 (s72 Xan):=ok72 (Xai.XaW trivial)
def Xe8 (t1:List UInt8) (n:Int) (t37:Int):Option (Sum (Int×Int) (Int×Bool)):=
 cond (decide (t37<(t1.length:Int)))
  (
  XaJ (decide ((0:Int)≤t37∧t37<(t1.length:Int))) <|
  ((bI t1)[t37.toNat]?).bind fun (e:Int)=>
  let t2:=Xjh .u64 (wI .u64 (n*2^8)) (wI .u64 e)
  some (.inl (t2,wI .i64 (t37+1))))
  (
  some (.inr ((n,true))))
def XgF (s:List UInt8) (ata1:Int) (k:Int):Option (Int×Bool):=
 cond (decide (k<1))
  (
  some ((0,false)))
  (
  cond (decide (k>8))
   (
   some ((0,false)))
   (
   cond (decide (ata1<0))
    (
    some ((0,false)))
    (
    let t:=decide ((wI .i64 ((s.length:Int) - k))<ata1)
    cond (t)
     (
     some ((0,false)))
     (
     XaJ (decide ((0:Int)≤(wI .i64 (ata1+k))∧(wI .i64 (ata1+k))≤(s.length:Int)∧(0:Int)≤ata1∧ata1≤((wI .i64 (ata1+k)).toNat:Int))) <|
     let t1:=(s.drop ata1.toNat).take ((wI .i64 (ata1+k)).toNat - ata1.toNat)
     iter (fun st=>Xe8 t1 st.1 st.2) FUEL (0,0)))))
def XR0 (x:Int×Bool):Xca:=⟨.tuple ⟨[.int .u64 x.1,.bool x.2]⟩,[],[]⟩
def r70 (g:(List UInt8)→Int→Int→Option (Int×Bool)):Dec:=dV asS fun (y0:List UInt8)=>dV (asI .i64) fun (y1:Int)=>dV (asI .i64) fun (y2:Int)=>XcO (ofG (g y0 y1 y2) XR0)
theorem r70_c {g:(List UInt8)→Int→Int→Option (Int×Bool)} {y0:List UInt8} {y1:Int} {y2:Int} {x:Int×Bool} (hx:g y0 y1 y2=some x):r70 g [.string ⟨⟨y0⟩⟩,.int .i64 y1,.int .i64 y2] []=some (XR0 x):=(XaT (Xcp)).trans ((XaT (Xc3 _)).trans ((XaT (Xc3 _)).trans (Xa0 hx)))
def s70 (g:(List UInt8)→Int→Int→Option (Int×Bool)):Xbr:=⟨[.v,.v,.v],r70 g⟩
theorem XlM {g:(List UInt8)→Int→Int→Option (Int×Bool)} {y0:List UInt8} {y1:Int} {y2:Int} {x:Int×Bool} (hx:g y0 y1 y2=some x):(s70 g).run [.string ⟨⟨y0⟩⟩,.int .i64 y1,.int .i64 y2] []=some (XR0 x):=r70_c hx
abbrev Xwa:List (Nat×Xbr):=[]
def Xkp (t1:List UInt8) (n:Int) (t37:Int):VM:=
 ⟨⟨70,48,[(8,.int .u64 n),(35,.slice (some ⟨0,0,none⟩) t1.length 1),(36,.int .i64 (t1.length:Int)),(37,.int .i64 t37)],[.code Xu2,.inLoop Xu2,.inBlock 0,.code XCm],[],false,none⟩,[],[(0,.row true (vI .u8 (bI t1)))],1⟩
theorem XzV (hS:Xai Tryz.prog (Xav (Xwa))) (t1:List UInt8) (res:Int×Bool):∀ fuel (st:Int×Int) (o:Int×Bool),iter (fun st=>Xe8 t1 st.1 st.2) fuel st=some o→(o=res) →
 XaI Tryz.prog 70 0 (Xkp t1 st.1 st.2) (fun v H _=>Res 0 (XR0 res) v H):=by
 intro fuel st o h hc
 refine XbX (head:=fun st=>Xkp t1 st.1 st.2) (C:=fun o=>(o=res)) ?_ fuel st o h hc
 clear h hc o st fuel
 intro st o h hc
 obtain ⟨n,t37⟩:=st
 replace h:Xe8 t1 n t37=some o:=h
 show XaI Tryz.prog 70 0 (Xkp t1 n t37) (fun v H _=>Res 0 (XR0 res) v H)
 unfold Xe8 at h
 refine Xa7 Xao hS true 3000 ?_
 conv=>whnf
 refine br.h2 h ?_ ?_ ?_
 ·rfl
 ·clear h;intro hb h;conv=>whnf
  all_goals (cases h;cases hc;exact Res.z rfl rfl rfl)
 clear h;intro hb h;conv=>whnf
 replace h:=XaJ.elim h;obtain ⟨hb,h⟩:=h
 first|(refine req.intro hb ?_;conv=>whnf)|skip
 replace h:=Xal.elim h;obtain ⟨e,hy,h⟩:=h
 refine rd.I hy (by first|rfl|(rw [Nat.zero_add,Nat.mul_one];try rfl;done)|omega) ?_
 conv=>whnf
 let t2:Int:=Xjh .u64 (wI .u64 (n*2^8)) (wI .u64 e)
 cases h;simp only [Sum.elim_inl,Xkp] at hc
 exact Xj4 hc [(0,0)] rfl
theorem XIX (hS:Xai Tryz.prog (Xav (Xwa))) (s:List UInt8) (ata1:Int) (k:Int) (res:Int×Bool) (h:XgF s ata1 k=some res) :
 XaI Tryz.prog 70 0 ⟨⟨70,48,[(0,.string ⟨⟨s⟩⟩),(1,.int .i64 ata1),(2,.int .i64 k)],[.code XBg],[],false,none⟩,[],[],0⟩ (fun v H _=>Res 0 (XR0 res) v H):=by
 unfold XgF at h
 refine Xa7 Xao hS true 3000 ?_
 conv=>whnf
 refine br.h h ?_ ?_ ?_
 ·rfl
 ·clear h;intro hb h;conv=>whnf
  all_goals (cases h;exact Res.z rfl rfl rfl)
 clear h;intro hb h;conv=>whnf
 refine br.h h ?_ ?_ ?_
 ·rfl
 ·clear h;intro hb h;conv=>whnf
  all_goals (cases h;exact Res.z rfl rfl rfl)
 clear h;intro hb h;conv=>whnf
 refine br.h h ?_ ?_ ?_
 ·rfl
 ·clear h;intro hb h;conv=>whnf
  all_goals (cases h;exact Res.z rfl rfl rfl)
 clear h;intro hb h;conv=>whnf
 let t:Bool:=decide ((wI .i64 ((s.length:Int) - k))<ata1)
 refine br.h h ?_ ?_ ?_
 ·rfl
 ·clear h;intro hb h;conv=>whnf
  all_goals (cases h;exact Res.z rfl rfl rfl)
 clear h;intro hb h;conv=>whnf
 replace h:=XaJ.elim h;obtain ⟨hb,h⟩:=h
 first|(refine req.intro hb ?_;conv=>whnf)|skip
 let t1:List UInt8:=(s.drop ata1.toNat).take ((wI .i64 (ata1+k)).toNat - ata1.toNat)
 refine XS0 ?_
 conv=>whnf
 have hl:=XzV hS _ res _ _ _ h rfl;simp only [Xkp] at hl
 exact Xj4 hl [(0,0)] rfl
theorem ok70 (hS:Xai Tryz.prog (Xav (Xwa))):Xar Tryz.prog 70 (s70 (XgF)):=by
 refine Xar.Xay Xao (fun ar os r ha hr=>?_) ⟨Tryz.f70,rfl,by decide,rfl⟩
 replace hr:r70 (XgF) ar (XaD os)=some r:=hr
 unfold r70 at hr
 generalize hc:XaD os=C at hr
 replace hr:=dV.elim hr;obtain ⟨v0,l1,y0,rfl,e0,hr⟩:=hr;obtain rfl:=XbH _ _ e0
 replace hr:=dV.elim hr;obtain ⟨v1,l2,y1,rfl,e1,hr⟩:=hr;obtain rfl:=XbS _ _ _ e1
 replace hr:=dV.elim hr;obtain ⟨v2,l3,y2,rfl,e2,hr⟩:=hr;obtain rfl:=XbS _ _ _ e2
 replace hr:=Xc2 hr;obtain ⟨rfl,rfl,x,h,rfl⟩:=hr
 obtain rfl:=Xas hc
 exact ⟨_,rfl,XIX hS _ _ _ x h⟩
def XaL:(List UInt8)→Int→Int→Option (Int×Bool):=XgF
theorem Xuz:Xar Tryz.prog 70 (s70 XaL):=ok70 (Xai.XaW trivial)
def Xe9 (k:Int) (n1:Int) (s:List UInt8) (i:Int):Option (Sum (Int×(List UInt8)×Int) (List UInt8)):=
 cond (decide (i<k))
  (
  cond (decide (k≤8))
   (
   let t:=[UInt8.ofNat (wI .u8 (n1.tmod 256)).toNat]
   XaJ (decide (t.length+s.length<2^63)) <|
   some (.inl (wI .u64 (n1.tdiv 256),t++s,wI .i64 (i+1))))
   (
   some (.inr (s))))
  (
  some (.inr (s)))
def Xju (n:Int) (k:Int):Option (List UInt8):=
 iter (fun st=>Xe9 k st.1 st.2.1 st.2.2) FUEL (n,[],0)
def XR5 (x:List UInt8):Xca:=⟨.string ⟨⟨x⟩⟩,[],[]⟩
def r98 (g:Int→Int→Option (List UInt8)):Dec:=dV (asI .u64) fun (y0:Int)=>dV (asI .i64) fun (y1:Int)=>XcO (ofG (g y0 y1) XR5)
theorem r98_c {g:Int→Int→Option (List UInt8)} {y0:Int} {y1:Int} {x:List UInt8} (hx:g y0 y1=some x):r98 g [.int .u64 y0,.int .i64 y1] []=some (XR5 x):=(XaT (Xc3 _)).trans ((XaT (Xc3 _)).trans (Xa0 hx))
def s98 (g:Int→Int→Option (List UInt8)):Xbr:=⟨[.v,.v],r98 g⟩
theorem XjF {g:Int→Int→Option (List UInt8)} {y0:Int} {y1:Int} {x:List UInt8} (hx:g y0 y1=some x):(s98 g).run [.int .u64 y0,.int .i64 y1] []=some (XR5 x):=r98_c hx
abbrev XvW:List (Nat×Xbr):=[]
def Xkv (k:Int) (n1:Int) (s:List UInt8) (i:Int):VM:=
 ⟨⟨98,26,[(0,.int .u64 n1),(1,.int .i64 k),(5,.string ⟨⟨s⟩⟩),(6,.int .i64 i)],[.code Xvy,.inLoop Xvy,.inBlock 0,.code XB5],[],false,none⟩,[],[],0⟩
theorem Xyw (hS:Xai Tryz.prog (Xav (XvW))) (k:Int) (res:List UInt8):∀ fuel (st:Int×(List UInt8)×Int) (o:List UInt8),iter (fun st=>Xe9 k st.1 st.2.1 st.2.2) fuel st=some o→(o=res) →
 XaI Tryz.prog 98 0 (Xkv k st.1 st.2.1 st.2.2) (fun v H _=>Res 0 (XR5 res) v H):=by
 intro fuel st o h hc
 refine XbX (head:=fun st=>Xkv k st.1 st.2.1 st.2.2) (C:=fun o=>(o=res)) ?_ fuel st o h hc
 clear h hc o st fuel
 intro st o h hc
 obtain ⟨n1,s,i⟩:=st
 replace h:Xe9 k n1 s i=some o:=h
 show XaI Tryz.prog 98 0 (Xkv k n1 s i) (fun v H _=>Res 0 (XR5 res) v H)
 unfold Xe9 at h
 refine Xa7 Xao hS true 3000 ?_
 conv=>whnf
 refine br.h2 h ?_ ?_ ?_
 ·rfl
 ·clear h;intro hb h;conv=>whnf
  all_goals (cases h;cases hc;exact Res.z rfl rfl rfl)
 clear h;intro hb h;conv=>whnf
 refine br.h2 h ?_ ?_ ?_
 ·rfl
 ·clear h;intro hb h;conv=>whnf
  all_goals (cases h;cases hc;exact Res.z rfl rfl rfl)
 clear h;intro hb h;conv=>whnf
 refine XM8 rfl ?_
 conv=>whnf
 let t:List UInt8:=[UInt8.ofNat (wI .u8 (n1.tmod 256)).toNat]
 replace h:=XaJ.elim h;obtain ⟨hb,h⟩:=h
 first|(refine req.intro hb ?_;conv=>whnf)|skip
 cases h;simp only [Sum.elim_inl,Xkv] at hc
 exact Xj4 hc [] rfl
theorem XLI (hS:Xai Tryz.prog (Xav (XvW))) (n:Int) (k:Int) (res:List UInt8) (h:Xju n k=some res) :
 XaI Tryz.prog 98 0 ⟨⟨98,26,[(0,.int .u64 n),(1,.int .i64 k)],[.code XBy],[],false,none⟩,[],[],0⟩ (fun v H _=>Res 0 (XR5 res) v H):=by
 unfold Xju at h
 refine Xa7 Xao hS true 3000 ?_
 conv=>whnf
 have hl:=Xyw hS _ res _ _ _ h rfl;simp only [Xkv] at hl
 exact Xj4 hl [] rfl
theorem ok98 (hS:Xai Tryz.prog (Xav (XvW))):Xar Tryz.prog 98 (s98 (Xju)):=by
 refine Xar.Xay Xao (fun ar os r ha hr=>?_) ⟨Tryz.f98,rfl,by decide,rfl⟩
 replace hr:r98 (Xju) ar (XaD os)=some r:=hr
 unfold r98 at hr
 generalize hc:XaD os=C at hr
 replace hr:=dV.elim hr;obtain ⟨v0,l1,y0,rfl,e0,hr⟩:=hr;obtain rfl:=XbS _ _ _ e0
 replace hr:=dV.elim hr;obtain ⟨v1,l2,y1,rfl,e1,hr⟩:=hr;obtain rfl:=XbS _ _ _ e1
 replace hr:=Xc2 hr;obtain ⟨rfl,rfl,x,h,rfl⟩:=hr
 obtain rfl:=Xas hc
 exact ⟨_,rfl,XLI hS _ _ x h⟩
def XaH:Int→Int→Option (List UInt8):=Xju
theorem XmL:Xar Tryz.prog 98 (s98 XaH):=ok98 (Xai.XaW trivial)
def Xgv (s:List UInt8) (ata1:Int) (k:Int) (n:Int) (i:Int):Option (Sum (Int×Int) (Int×Bool)):=
 cond (decide (i<k))
  (
  XaJ (decide (0≤(wI .i64 (ata1+i)))) <|
  (s[(wI .i64 (ata1+i)).toNat]?).bind fun (b:UInt8)=>
  let t1:=wI .u64 ((wI .u64 (n*256))+(wI .u64 (b.toNat:Int)))
  some (.inl (t1,wI .i64 (i+1))))
  (
  some (.inr ((n,true))))
def Xjt (s:List UInt8) (ata1:Int) (k:Int):Option (Int×Bool):=
 cond (decide (k<1))
  (
  some ((0,false)))
  (
  cond (decide (k>8))
   (
   some ((0,false)))
   (
   cond (decide (ata1<0))
    (
    some ((0,false)))
    (
    cond (decide (ata1>(s.length:Int)))
     (
     some ((0,false)))
     (
     let t:=decide (k>(wI .i64 ((s.length:Int) - ata1)))
     cond (t)
      (
      some ((0,false)))
      (
      iter (fun st=>Xgv s ata1 k st.1 st.2) FUEL (0,0))))))
def XrF (x:Int×Bool):Xca:=⟨.tuple ⟨[.int .u64 x.1,.bool x.2]⟩,[],[]⟩
def r121 (g:(List UInt8)→Int→Int→Option (Int×Bool)):Dec:=dV asS fun (y0:List UInt8)=>dV (asI .i64) fun (y1:Int)=>dV (asI .i64) fun (y2:Int)=>XcO (ofG (g y0 y1 y2) XrF)
theorem Yb4 {g:(List UInt8)→Int→Int→Option (Int×Bool)} {y0:List UInt8} {y1:Int} {y2:Int} {x:Int×Bool} (hx:g y0 y1 y2=some x):r121 g [.string ⟨⟨y0⟩⟩,.int .i64 y1,.int .i64 y2] []=some (XrF x):=(XaT (Xcp)).trans ((XaT (Xc3 _)).trans ((XaT (Xc3 _)).trans (Xa0 hx)))
def XSc (g:(List UInt8)→Int→Int→Option (Int×Bool)):Xbr:=⟨[.v,.v,.v],r121 g⟩
theorem Xmk {g:(List UInt8)→Int→Int→Option (Int×Bool)} {y0:List UInt8} {y1:Int} {y2:Int} {x:Int×Bool} (hx:g y0 y1 y2=some x):(XSc g).run [.string ⟨⟨y0⟩⟩,.int .i64 y1,.int .i64 y2] []=some (XrF x):=Yb4 hx
abbrev Xpn:List (Nat×Xbr):=[]
def XiC (s:List UInt8) (ata1:Int) (k:Int) (n:Int) (i:Int):VM:=
 ⟨⟨121,49,[(0,.string ⟨⟨s⟩⟩),(1,.int .i64 ata1),(2,.int .i64 k),(8,.int .u64 n),(9,.int .i64 i)],[.code XpT,.inLoop XpT,.inBlock 0,.code Xuo],[],false,none⟩,[],[],0⟩
theorem Xwr (hS:Xai Tryz.prog (Xav (Xpn))) (s:List UInt8) (ata1:Int) (k:Int) (res:Int×Bool):∀ fuel (st:Int×Int) (o:Int×Bool),iter (fun st=>Xgv s ata1 k st.1 st.2) fuel st=some o→(o=res) →
 XaI Tryz.prog 121 0 (XiC s ata1 k st.1 st.2) (fun v H _=>Res 0 (XrF res) v H):=by
 intro fuel st o h hc
 refine XbX (head:=fun st=>XiC s ata1 k st.1 st.2) (C:=fun o=>(o=res)) ?_ fuel st o h hc
 clear h hc o st fuel
 intro st o h hc
 obtain ⟨n,i⟩:=st
 replace h:Xgv s ata1 k n i=some o:=h
 show XaI Tryz.prog 121 0 (XiC s ata1 k n i) (fun v H _=>Res 0 (XrF res) v H)
 unfold Xgv at h
 refine Xa7 Xao hS true 3000 ?_
 conv=>whnf
 refine br.h2 h ?_ ?_ ?_
 ·rfl
 ·clear h;intro hb h;conv=>whnf
  all_goals (cases h;cases hc;exact Res.z rfl rfl rfl)
 clear h;intro hb h;conv=>whnf
 replace h:=XaJ.elim h;obtain ⟨hb,h⟩:=h
 first|(refine req.intro hb ?_;conv=>whnf)|skip
 replace h:=Xal.elim h;obtain ⟨b,hy,h⟩:=h
 refine rdS.intro hy ?_
 conv=>whnf
 let t1:Int:=wI .u64 ((wI .u64 (n*256))+(wI .u64 (b.toNat:Int)))
 cases h;simp only [Sum.elim_inl,XiC] at hc
 exact Xj4 hc [] rfl
theorem XAg (hS:Xai Tryz.prog (Xav (Xpn))) (s:List UInt8) (ata1:Int) (k:Int) (res:Int×Bool) (h:Xjt s ata1 k=some res) :
 XaI Tryz.prog 121 0 ⟨⟨121,49,[(0,.string ⟨⟨s⟩⟩),(1,.int .i64 ata1),(2,.int .i64 k)],[.code Xt4],[],false,none⟩,[],[],0⟩ (fun v H _=>Res 0 (XrF res) v H):=by
 unfold Xjt at h
 refine Xa7 Xao hS true 3000 ?_
 conv=>whnf
 refine br.h h ?_ ?_ ?_
 ·rfl
 ·clear h;intro hb h;conv=>whnf
  all_goals (cases h;exact Res.z rfl rfl rfl)
 clear h;intro hb h;conv=>whnf
 refine br.h h ?_ ?_ ?_
 ·rfl
 ·clear h;intro hb h;conv=>whnf
  all_goals (cases h;exact Res.z rfl rfl rfl)
 clear h;intro hb h;conv=>whnf
 refine br.h h ?_ ?_ ?_
 ·rfl
 ·clear h;intro hb h;conv=>whnf
  all_goals (cases h;exact Res.z rfl rfl rfl)
 clear h;intro hb h;conv=>whnf
 refine br.h h ?_ ?_ ?_
 ·rfl
 ·clear h;intro hb h;conv=>whnf
  all_goals (cases h;exact Res.z rfl rfl rfl)
 clear h;intro hb h;conv=>whnf
 let t:Bool:=decide (k>(wI .i64 ((s.length:Int) - ata1)))
 refine br.h h ?_ ?_ ?_
 ·rfl
 ·clear h;intro hb h;conv=>whnf
  all_goals (cases h;exact Res.z rfl rfl rfl)
 clear h;intro hb h;conv=>whnf
 have hl:=Xwr hS _ _ _ res _ _ _ h rfl;simp only [XiC] at hl
 exact Xj4 hl [] rfl
theorem ok121 (hS:Xai Tryz.prog (Xav (Xpn))):Xar Tryz.prog 121 (XSc (Xjt)):=by
 refine Xar.Xay Xao (fun ar os r ha hr=>?_) ⟨Tryz.f121,rfl,by decide,rfl⟩
 replace hr:r121 (Xjt) ar (XaD os)=some r:=hr
 unfold r121 at hr
 generalize hc:XaD os=C at hr
 replace hr:=dV.elim hr;obtain ⟨v0,l1,y0,rfl,e0,hr⟩:=hr;obtain rfl:=XbH _ _ e0
 replace hr:=dV.elim hr;obtain ⟨v1,l2,y1,rfl,e1,hr⟩:=hr;obtain rfl:=XbS _ _ _ e1
 replace hr:=dV.elim hr;obtain ⟨v2,l3,y2,rfl,e2,hr⟩:=hr;obtain rfl:=XbS _ _ _ e2
 replace hr:=Xc2 hr;obtain ⟨rfl,rfl,x,h,rfl⟩:=hr
 obtain rfl:=Xas hc
 exact ⟨_,rfl,XAg hS _ _ _ x h⟩
def Xbu:(List UInt8)→Int→Int→Option (Int×Bool):=Xjt
theorem Xqx:Xar Tryz.prog 121 (XSc Xbu):=ok121 (Xai.XaW trivial)
def XhL (Xbu:(List UInt8)→Int→Int→Option (Int×Bool)) (s:List UInt8) (ata1:Int) (k:Int):Option Int:=
 (Xbu s ata1 k).bind fun xg=>
 some (wI .i64 xg.1)
def rx74 (x:Int):Xca:=⟨.int .i64 x,[],[]⟩
def r74 (g:(List UInt8)→Int→Int→Option Int):Dec:=dV asS fun (y0:List UInt8)=>dV (asI .i64) fun (y1:Int)=>dV (asI .i64) fun (y2:Int)=>XcO (ofG (g y0 y1 y2) rx74)
theorem r74_c {g:(List UInt8)→Int→Int→Option Int} {y0:List UInt8} {y1:Int} {y2:Int} {x:Int} (hx:g y0 y1 y2=some x):r74 g [.string ⟨⟨y0⟩⟩,.int .i64 y1,.int .i64 y2] []=some (rx74 x):=(XaT (Xcp)).trans ((XaT (Xc3 _)).trans ((XaT (Xc3 _)).trans (Xa0 hx)))
def s74 (g:(List UInt8)→Int→Int→Option Int):Xbr:=⟨[.v,.v,.v],r74 g⟩
theorem XeL {g:(List UInt8)→Int→Int→Option Int} {y0:List UInt8} {y1:Int} {y2:Int} {x:Int} (hx:g y0 y1 y2=some x):(s74 g).run [.string ⟨⟨y0⟩⟩,.int .i64 y1,.int .i64 y2] []=some (rx74 x):=r74_c hx
abbrev XBB (Xbu:(List UInt8)→Int→Int→Option (Int×Bool)):List (Nat×Xbr):=[(121,XSc Xbu)]
theorem XQ5 (Xbu:(List UInt8)→Int→Int→Option (Int×Bool)) (hS:Xai Tryz.prog (Xav (XBB Xbu))) (s:List UInt8) (ata1:Int) (k:Int) (res:Int) (h:XhL Xbu s ata1 k=some res) :
 XaI Tryz.prog 74 0 ⟨⟨74,18,[(0,.string ⟨⟨s⟩⟩),(1,.int .i64 ata1),(2,.int .i64 k)],[.code XS9],[],false,none⟩,[],[],0⟩ (fun v H _=>Res 0 (rx74 res) v H):=by
 unfold XhL at h
 refine Xa7 Xao hS true 3000 ?_
 conv=>whnf
 replace h:=Xal.elim h;obtain ⟨xg,hy,h⟩:=h
 refine XaK.q rfl rfl (Xmk hy) rfl rfl rfl ?_
 conv=>whnf
 all_goals (cases h;exact Res.z rfl rfl rfl)
theorem ok74 (Xbu:(List UInt8)→Int→Int→Option (Int×Bool)) (hS:Xai Tryz.prog (Xav (XBB Xbu))):Xar Tryz.prog 74 (s74 (XhL Xbu)):=by
 refine Xar.Xay Xao (fun ar os r ha hr=>?_) ⟨Tryz.f74,rfl,by decide,rfl⟩
 replace hr:r74 (XhL Xbu) ar (XaD os)=some r:=hr
 unfold r74 at hr
 generalize hc:XaD os=C at hr
 replace hr:=dV.elim hr;obtain ⟨v0,l1,y0,rfl,e0,hr⟩:=hr;obtain rfl:=XbH _ _ e0
 replace hr:=dV.elim hr;obtain ⟨v1,l2,y1,rfl,e1,hr⟩:=hr;obtain rfl:=XbS _ _ _ e1
 replace hr:=dV.elim hr;obtain ⟨v2,l3,y2,rfl,e2,hr⟩:=hr;obtain rfl:=XbS _ _ _ e2
 replace hr:=Xc2 hr;obtain ⟨rfl,rfl,x,h,rfl⟩:=hr
 obtain rfl:=Xas hc
 exact ⟨_,rfl,XQ5 Xbu hS _ _ _ x h⟩
def Xam:(List UInt8)→Int→Int→Option Int:=XhL Xbu
theorem Xmn:Xar Tryz.prog 74 (s74 Xam):=ok74 Xbu (Xai.XaW ⟨Xqx,trivial⟩)
end Go.Vm.Code
namespace Go.Vm.Code
open Go Go.Vm
def XbV (n k:Int):List UInt8:=if 1≤k∧k≤8 then be n.toNat k.toNat else []
theorem Xbq {n k:Int} (h0:0≤n):Xan n k=some (XbV n k):=by
 unfold Xan XgN XbV
 by_cases h1:k<1
 ·rw [XaS h1,if_neg (by omega)]
 by_cases h2:k>8
 ·rw [XaO h1,XaS h2,if_neg (by omega)]
 rw [XaO h1,XaO h2,Xaz (by omega),if_pos (by omega)]
 obtain ⟨m,rfl⟩:=Int.eq_ofNat_of_zero_le h0
 obtain ⟨j,rfl⟩:=Int.eq_ofNat_of_zero_le (show 0≤k by omega)
 have key:=iter_eq (step:=fun (st:Int×List Int)=>Xe4 (m:Int) (j:Int) st.1 st.2) (fun st=>iB (st.2.take st.1.toNat)++be m (j - st.1.toNat)) (fun st=>0≤st.1∧st.1≤j∧st.2.length=j) (fun st=>(j - st.1).toNat) ?_ FUEL (0,List.replicate (j:Int).toNat 0) ⟨by simp,by simp,by simp⟩ (by rw [XeE];simp only;omega)
 ·rw [key];simp [iB]
 rintro ⟨p,b⟩ ⟨g1,g2,g3⟩
 simp only at g1 g2 g3 ⊢
 obtain ⟨i,rfl⟩:=Int.eq_ofNat_of_zero_le g1
 unfold Xe4
 by_cases hp:i<j
 ·refine .inr ⟨(((i+1:Nat):Int),b.set i ((m/256^(j - 1 - i)%256:Nat):Int)),?_,⟨by simp only;omega,by simp only;omega,by simp [g3]⟩,by simp only;omega,?_⟩
  ·simp (disch:=omega) only [Xcg,Xaz,XaS,Int.toNat_natCast]
   have e1:min (8*((j:Int) - 1 - i)).toNat 64=8*(j - 1 - i):=by omega
   have e0:(2:Int)^(8*(j - 1 - i))=((256^(j - 1 - i):Nat):Int):=by rw [show (256:Nat)=2^8 from rfl,←Nat.pow_mul];push_cast;rfl
   rw [e1,XoM,wU8m,e0]
   rfl
  ·simp only [Int.toNat_natCast]
   have e2:j - i=(j - (i+1))+1:=by omega
   have e3:j - (i+1)=j - 1 - i:=by omega
   have e4:(b.set i ((m/256^(j - 1 - i)%256:Nat):Int)).take (i+1)=b.take i++[((m/256^(j - 1 - i)%256:Nat):Int)]:=by
    rw [List.take_succ_eq_append_getElem (by simp;omega),List.take_set_of_le (Nat.le_refl _),List.getElem_set_self]
   rw [e2,e4,be,e3]
   simp only [iB,List.map_append,List.map_cons,List.map_nil,List.append_assoc,List.cons_append,List.nil_append,Int.toNat_natCast]
   congr 2
   apply UInt8.toNat_inj.1
   simp
 ·refine .inl ?_
  obtain rfl:i=j:=by omega
  simp (disch:=omega) only [XaO,Xaz,Int.toNat_natCast]
  simp [be]
theorem XcP {n k:Int} (h0:0≤n) (h1:n<2^64):XaH n k=some (XbV n k):=by
 unfold XaH Xju XbV
 obtain ⟨m,rfl⟩:=Int.eq_ofNat_of_zero_le h0
 by_cases hk:1≤k∧k≤8
 ·rw [if_pos hk]
  obtain ⟨j,rfl⟩:=Int.eq_ofNat_of_zero_le (show 0≤k by omega)
  have key:=iter_eq (step:=fun st=>Xe9 (j:Int) st.1 st.2.1 st.2.2) (fun st=>be st.1.toNat (j - st.2.2.toNat)++st.2.1) (fun st=>0≤st.1∧st.1<2^64∧0≤st.2.2∧st.2.2≤j∧st.2.1.length<2^20+st.2.2.toNat) (fun st=>(j - st.2.2).toNat) ?_ FUEL ((m:Int),[],0) ⟨by simp,by simp only;omega,by simp,by simp,by simp⟩ (by rw [XeE];simp only;omega)
  ·rw [key];simp
  rintro ⟨n,s,p⟩ ⟨g1,g2,g3,g4,g5⟩
  simp only at g1 g2 g3 g4 g5 ⊢
  obtain ⟨i,rfl⟩:=Int.eq_ofNat_of_zero_le g3
  obtain ⟨x,rfl⟩:=Int.eq_ofNat_of_zero_le g1
  unfold Xe9
  by_cases hp:i<j
  ·refine .inr ⟨(((x/256:Nat):Int),UInt8.ofNat x::s,((i+1:Nat):Int)),?_,⟨by simp only;omega,by simp only;omega,by simp only;omega,by simp only;omega,by simp at g5 ⊢;omega⟩,by simp only;omega,?_⟩
   ·have e1:(x:Int).tmod 256=((x%256:Nat):Int):=by rw [Int.tmod_eq_emod_of_nonneg (by omega)];rfl
    have e2:(x:Int).tdiv 256=((x/256:Nat):Int):=by rw [Int.tdiv_eq_ediv_of_nonneg (by omega)];rfl
    rw [XaS (by omega),XaS (by omega),e1,e2,wU8 (by omega) (by omega)]
    simp only [List.length_cons,List.length_nil]
    rw [Xaz (by omega),XeJ (by omega) (by omega),Xcg (by omega) (by omega),Int.toNat_natCast]
    have e3:UInt8.ofNat (x%256)=UInt8.ofNat x:=by apply UInt8.toNat_inj.1;simp
    rw [e3];rfl
   ·simp only [Int.toNat_natCast]
    have e2:j - i=(j - (i+1))+1:=by omega
    rw [e2,XjV];simp
  ·refine .inl ?_
   obtain rfl:i=j:=by omega
   rw [XaO (by omega)]
   simp [be]
 ·rw [if_neg hk]
  show iter _ (18446744073709551615+1) _=_
  rw [iter]
  have:Xe9 k (m:Int) [] 0=some (.inr []):=by
   unfold Xe9
   by_cases h2:0<k
   ·rw [XaS h2,XaO (by omega)]
   ·rw [XaO h2]
  simp only [this]
def Xsp (s:List UInt8) (p k:Int):Int×Bool:=if 1≤k∧k≤8∧0≤p∧p+k≤s.length then (((Xdz ((s.drop p.toNat).take k.toNat):Nat):Int),true) else (0,false)
theorem Xni {v i:Nat} (h:v<256^i) (hi:i≤7):v<2^56:=Nat.lt_of_lt_of_le h (by
 have:(256:Nat)^i≤256^7:=Nat.pow_le_pow_right (by decide) hi
 simpa using this)
theorem Xd7 {s:List UInt8} {p k:Int} (hs:s.length<2^61):XaL s p k=some (Xsp s p k):=by
 unfold XaL XgF Xsp
 by_cases h1:k<1
 ·rw [XaS h1,if_neg (by omega)]
 by_cases h2:k>8
 ·rw [XaO h1,XaS h2,if_neg (by omega)]
 by_cases h3:p<0
 ·rw [XaO h1,XaO h2,XaS h3,if_neg (by omega)]
 rw [XaO h1,XaO h2,XaO h3,Xcg (n:=(s.length:Int) - k) (by omega) (by omega)]
 by_cases h4:(s.length:Int) - k<p
 ·simp only []
  rw [XaS h4,if_neg (by omega)]
 simp only []
 rw [XaO h4,Xcg (n:=p+k) (by omega) (by omega),Xaz (by omega),if_pos (by omega)]
 obtain ⟨q,rfl⟩:=Int.eq_ofNat_of_zero_le (show 0≤p by omega)
 obtain ⟨j,rfl⟩:=Int.eq_ofNat_of_zero_le (show 0≤k by omega)
 have e:((q:Int)+j).toNat - (q:Int).toNat=j:=by omega
 rw [e]
 simp only [Int.toNat_natCast]
 generalize ht:(s.drop q).take j=t
 have hl:t.length=j:=by rw [←ht];simp;omega
 have key:=iter_eq (step:=fun st=>Xe8 t st.1 st.2) (fun st=>(((st.1.toNat*256^(j - st.2.toNat)+Xdz (t.drop st.2.toNat):Nat):Int),true)) (fun st=>0≤st.1∧0≤st.2∧st.2≤j∧st.1.toNat<256^st.2.toNat) (fun st=>(j - st.2).toNat) ?_ FUEL (0,0) ⟨by simp,by simp,by simp,by simp⟩ (by rw [XeE];simp only;omega)
 ·rw [key];simp
 rintro ⟨n,x⟩ ⟨g1,g2,g3,g4⟩
 simp only at g1 g2 g3 g4 ⊢
 obtain ⟨i,rfl⟩:=Int.eq_ofNat_of_zero_le g2
 obtain ⟨v,rfl⟩:=Int.eq_ofNat_of_zero_le g1
 simp only [Int.toNat_natCast] at g4 ⊢
 unfold Xe8
 by_cases hp:i<j
 ·have hlt:i<t.length:=by omega
  have hb:=t[i].toNat_lt
  have hv:=Xni g4 (by omega)
  refine .inr ⟨(((v*256+t[i].toNat:Nat):Int),((i+1:Nat):Int)),?_,⟨by simp only;omega,by simp only;omega,by simp only;omega,?_⟩,by simp only;omega,?_⟩
  ·rw [XaS (by omega),Xaz (by omega)]
   have e1:(bI t)[(i:Int).toNat]?=some (t[i].toNat:Int):=by simp [bI,hlt]
   rw [e1,Option.bind_some]
   have e2:Xjh .u64 (wI .u64 ((v:Int)*2^8)) (wI .u64 (t[i].toNat:Int))=((v*256+t[i].toNat:Nat):Int):=by
    rw [XeJ (by omega) (by omega),XeJ (by omega) (by omega),Xfb 8 (by omega) (by omega) (by omega) (by omega) (by omega)];omega
   simp only [e2]
   rw [Xcg (by omega) (by omega)];rfl
  ·simp only [Int.toNat_natCast]
   rw [Nat.pow_succ];omega
  ·simp only [Int.toNat_natCast]
   rw [List.drop_eq_getElem_cons hlt,XeQ]
   have e3:(t.drop (i+1)).length=j - (i+1):=by simp;omega
   have e4:j - i=(j - (i+1))+1:=by omega
   rw [e3,e4,Nat.pow_succ,Nat.add_mul,Nat.mul_assoc,Nat.mul_comm 256,Nat.add_assoc]
 ·refine .inl ?_
  obtain rfl:i=j:=by omega
  rw [XaO (by omega)]
  simp [←hl]
theorem Xhz {s:List UInt8} {p k:Int} (hs:s.length<2^61):Xbu s p k=some (Xsp s p k):=by
 unfold Xbu Xjt Xsp
 by_cases h1:k<1
 ·rw [XaS h1,if_neg (by omega)]
 by_cases h2:k>8
 ·rw [XaO h1,XaS h2,if_neg (by omega)]
 by_cases h3:p<0
 ·rw [XaO h1,XaO h2,XaS h3,if_neg (by omega)]
 by_cases h5:p>s.length
 ·rw [XaO h1,XaO h2,XaO h3,XaS h5,if_neg (by omega)]
 rw [XaO h1,XaO h2,XaO h3,XaO h5,Xcg (n:=(s.length:Int) - p) (by omega) (by omega)]
 by_cases h4:k>(s.length:Int) - p
 ·simp only []
  rw [XaS h4,if_neg (by omega)]
 simp only []
 rw [XaO h4,if_pos (by omega)]
 obtain ⟨q,rfl⟩:=Int.eq_ofNat_of_zero_le (show 0≤p by omega)
 obtain ⟨j,rfl⟩:=Int.eq_ofNat_of_zero_le (show 0≤k by omega)
 simp only [Int.toNat_natCast]
 generalize ht:(s.drop q).take j=t
 have hl:t.length=j:=by rw [←ht];simp;omega
 have key:=iter_eq (step:=fun st=>Xgv s (q:Int) (j:Int) st.1 st.2) (fun st=>(((st.1.toNat*256^(j - st.2.toNat)+Xdz (t.drop st.2.toNat):Nat):Int),true)) (fun st=>0≤st.1∧0≤st.2∧st.2≤j∧st.1.toNat<256^st.2.toNat) (fun st=>(j - st.2).toNat) ?_ FUEL (0,0) ⟨by simp,by simp,by simp,by simp⟩ (by rw [XeE];simp only;omega)
 ·rw [key];simp
 rintro ⟨n,x⟩ ⟨g1,g2,g3,g4⟩
 simp only at g1 g2 g3 g4 ⊢
 obtain ⟨i,rfl⟩:=Int.eq_ofNat_of_zero_le g2
 obtain ⟨v,rfl⟩:=Int.eq_ofNat_of_zero_le g1
 simp only [Int.toNat_natCast] at g4 ⊢
 unfold Xgv
 by_cases hp:i<j
 ·have hlt:i<t.length:=by omega
  have hb:=t[i].toNat_lt
  have hv:=Xni g4 (by omega)
  refine .inr ⟨(((v*256+t[i].toNat:Nat):Int),((i+1:Nat):Int)),?_,⟨by simp only;omega,by simp only;omega,by simp only;omega,?_⟩,by simp only;omega,?_⟩
  ·rw [XaS (by omega),Xcg (n:=(q:Int)+i) (by omega) (by omega),Xaz (by omega)]
   have e0:((q:Int)+i).toNat=q+i:=by omega
   have e1:s[q+i]?=some t[i]:=by
    subst ht
    rw [List.getElem?_eq_getElem (by omega)]
    simp
   rw [e0,e1,Option.bind_some]
   have e2:wI .u64 ((wI .u64 ((v:Int)*256))+(wI .u64 (t[i].toNat:Int)))=((v*256+t[i].toNat:Nat):Int):=by
    rw [XeJ (n:=(v:Int)*256) (by omega) (by omega),XeJ (n:=(t[i].toNat:Int)) (by omega) (by omega),XeJ (by omega) (by omega)];omega
   simp only [e2]
   rw [Xcg (by omega) (by omega)];rfl
  ·simp only [Int.toNat_natCast]
   rw [Nat.pow_succ];omega
  ·simp only [Int.toNat_natCast]
   rw [List.drop_eq_getElem_cons hlt,XeQ]
   have e3:(t.drop (i+1)).length=j - (i+1):=by simp;omega
   have e4:j - i=(j - (i+1))+1:=by omega
   rw [e3,e4,Nat.pow_succ,Nat.add_mul,Nat.mul_assoc,Nat.mul_comm 256,Nat.add_assoc]
 ·refine .inl ?_
  obtain rfl:i=j:=by omega
  rw [XaO (by omega)]
  simp [←hl]
theorem XfV {s:List UInt8} {p k:Int} (hs:s.length<2^61):Xam s p k=some (wI .i64 (Xsp s p k).1):=by
 unfold Xam XhL
 rw [Xhz hs];rfl
end Go.Vm.Code
namespace Go.Vm.Code
open Go Go.Vm Go.Proofs
set_option maxRecDepth 100000
set_option maxHeartbeats 4000000
set_option linter.unusedVariables false
def Xgz (Xan:Int→Int→Option (List UInt8)) (s:List UInt8) (ata1:Int) (k:Int) (n:Int):Option (List UInt8):=
 (Xan n k).bind fun p=>
 cond (p==[])
  (
  some (s))
  (
  cond (decide (ata1<0))
   (
   some (s))
   (
   let t:=decide ((wI .i64 ((s.length:Int) - k))<ata1)
   cond (t)
    (
    some (s))
    (
    XaJ (decide ((0:Int)≤ata1∧ata1≤(s.length:Int))) <|
    XaJ (decide ((s.take ata1.toNat).length+p.length<2^63)) <|
    XaJ (decide ((0:Int)≤(wI .i64 (ata1+k))∧(wI .i64 (ata1+k))≤(s.length:Int))) <|
    let t1:=(s.drop (wI .i64 (ata1+k)).toNat).take (s.length - (wI .i64 (ata1+k)).toNat)
    XaJ (decide (((s.take ata1.toNat)++p).length+t1.length<2^63)) <|
    some (((s.take ata1.toNat)++p)++t1))))
def rx73 (x:List UInt8):Xca:=⟨.string ⟨⟨x⟩⟩,[],[]⟩
def r73 (g:(List UInt8)→Int→Int→Int→Option (List UInt8)):Dec:=dV asS fun (y0:List UInt8)=>dV (asI .i64) fun (y1:Int)=>dV (asI .i64) fun (y2:Int)=>dV (asI .u64) fun (y3:Int)=>XcO (ofG (g y0 y1 y2 y3) rx73)
theorem r73_c {g:(List UInt8)→Int→Int→Int→Option (List UInt8)} {y0:List UInt8} {y1:Int} {y2:Int} {y3:Int} {x:List UInt8} (hx:g y0 y1 y2 y3=some x):r73 g [.string ⟨⟨y0⟩⟩,.int .i64 y1,.int .i64 y2,.int .u64 y3] []=some (rx73 x):=(XaT (Xcp)).trans ((XaT (Xc3 _)).trans ((XaT (Xc3 _)).trans ((XaT (Xc3 _)).trans (Xa0 hx))))
def s73 (g:(List UInt8)→Int→Int→Int→Option (List UInt8)):Xbr:=⟨[.v,.v,.v,.v],r73 g⟩
theorem XoG {g:(List UInt8)→Int→Int→Int→Option (List UInt8)} {y0:List UInt8} {y1:Int} {y2:Int} {y3:Int} {x:List UInt8} (hx:g y0 y1 y2 y3=some x):(s73 g).run [.string ⟨⟨y0⟩⟩,.int .i64 y1,.int .i64 y2,.int .u64 y3] []=some (rx73 x):=r73_c hx
abbrev XDg (Xan:Int→Int→Option (List UInt8)):List (Nat×Xbr):=[(72,s72 Xan)]
theorem XFp (Xan:Int→Int→Option (List UInt8)) (hS:Xai Tryz.prog (Xav (XDg Xan))) (s:List UInt8) (ata1:Int) (k:Int) (n:Int) (res:List UInt8) (h:Xgz Xan s ata1 k n=some res) :
 XaI Tryz.prog 73 0 ⟨⟨73,39,[(0,.string ⟨⟨s⟩⟩),(1,.int .i64 ata1),(2,.int .i64 k),(3,.int .u64 n)],[.code XB2],[],false,none⟩,[],[],0⟩ (fun v H _=>Res 0 (rx73 res) v H):=by
 unfold Xgz at h
 refine Xa7 Xao hS true 3000 ?_
 conv=>whnf
 replace h:=Xal.elim h;obtain ⟨p,hy,h⟩:=h
 refine XaK.q rfl rfl (Xg0 hy) rfl rfl rfl ?_
 conv=>whnf
 refine br.h h ?_ ?_ ?_
 ·rfl
 ·clear h;intro hb h;conv=>whnf
  all_goals (cases h;exact Res.z rfl rfl rfl)
 clear h;intro hb h;conv=>whnf
 refine br.h h ?_ ?_ ?_
 ·rfl
 ·clear h;intro hb h;conv=>whnf
  all_goals (cases h;exact Res.z rfl rfl rfl)
 clear h;intro hb h;conv=>whnf
 let t:Bool:=decide ((wI .i64 ((s.length:Int) - k))<ata1)
 refine br.h h ?_ ?_ ?_
 ·rfl
 ·clear h;intro hb h;conv=>whnf
  all_goals (cases h;exact Res.z rfl rfl rfl)
 clear h;intro hb h;conv=>whnf
 replace h:=XaJ.elim h;obtain ⟨hb,h⟩:=h
 first|(refine req.intro hb ?_;conv=>whnf)|skip
 replace h:=XaJ.elim h;obtain ⟨hb,h⟩:=h
 first|(refine req.intro hb ?_;conv=>whnf)|skip
 replace h:=XaJ.elim h;obtain ⟨hb,h⟩:=h
 first|(refine req.intro hb ?_;conv=>whnf)|skip
 let t1:List UInt8:=(s.drop (wI .i64 (ata1+k)).toNat).take (s.length - (wI .i64 (ata1+k)).toNat)
 replace h:=XaJ.elim h;obtain ⟨hb,h⟩:=h
 first|(refine req.intro hb ?_;conv=>whnf)|skip
 all_goals (cases h;exact Res.z rfl rfl rfl)
theorem ok73 (Xan:Int→Int→Option (List UInt8)) (hS:Xai Tryz.prog (Xav (XDg Xan))):Xar Tryz.prog 73 (s73 (Xgz Xan)):=by
 refine Xar.Xay Xao (fun ar os r ha hr=>?_) ⟨Tryz.f73,rfl,by decide,rfl⟩
 replace hr:r73 (Xgz Xan) ar (XaD os)=some r:=hr
 unfold r73 at hr
 generalize hc:XaD os=C at hr
 replace hr:=dV.elim hr;obtain ⟨v0,l1,y0,rfl,e0,hr⟩:=hr;obtain rfl:=XbH _ _ e0
 replace hr:=dV.elim hr;obtain ⟨v1,l2,y1,rfl,e1,hr⟩:=hr;obtain rfl:=XbS _ _ _ e1
 replace hr:=dV.elim hr;obtain ⟨v2,l3,y2,rfl,e2,hr⟩:=hr;obtain rfl:=XbS _ _ _ e2
 replace hr:=dV.elim hr;obtain ⟨v3,l4,y3,rfl,e3,hr⟩:=hr;obtain rfl:=XbS _ _ _ e3
 replace hr:=Xc2 hr;obtain ⟨rfl,rfl,x,h,rfl⟩:=hr
 obtain rfl:=Xas hc
 exact ⟨_,rfl,XFp Xan hS _ _ _ _ x h⟩
def XaC:(List UInt8)→Int→Int→Int→Option (List UInt8):=Xgz Xan
theorem XuW:Xar Tryz.prog 73 (s73 XaC):=ok73 Xan (Xai.XaW ⟨XmW,trivial⟩)
def Xje (Xbu:(List UInt8)→Int→Int→Option (Int×Bool)) (XaH:Int→Int→Option (List UInt8)) (s:List UInt8) (ata1:Int) (k:Int) (n:Int):Option (List UInt8):=
 (Xbu s ata1 k).bind fun xg=>
 cond (!xg.2)
  (
  some (s))
  (
  XaJ (decide ((0:Int)≤ata1∧ata1≤(s.length:Int))) <|
  (XaH n k).bind fun p=>
  XaJ (decide ((s.take ata1.toNat).length+p.length<2^63)) <|
  XaJ (decide ((0:Int)≤(wI .i64 (ata1+k))∧(wI .i64 (ata1+k))≤(s.length:Int))) <|
  let t:=(s.drop (wI .i64 (ata1+k)).toNat).take (s.length - (wI .i64 (ata1+k)).toNat)
  XaJ (decide (((s.take ata1.toNat)++p).length+t.length<2^63)) <|
  some (((s.take ata1.toNat)++p)++t))
def rx99 (x:List UInt8):Xca:=⟨.string ⟨⟨x⟩⟩,[],[]⟩
def r99 (g:(List UInt8)→Int→Int→Int→Option (List UInt8)):Dec:=dV asS fun (y0:List UInt8)=>dV (asI .i64) fun (y1:Int)=>dV (asI .i64) fun (y2:Int)=>dV (asI .u64) fun (y3:Int)=>XcO (ofG (g y0 y1 y2 y3) rx99)
theorem r99_c {g:(List UInt8)→Int→Int→Int→Option (List UInt8)} {y0:List UInt8} {y1:Int} {y2:Int} {y3:Int} {x:List UInt8} (hx:g y0 y1 y2 y3=some x):r99 g [.string ⟨⟨y0⟩⟩,.int .i64 y1,.int .i64 y2,.int .u64 y3] []=some (rx99 x):=(XaT (Xcp)).trans ((XaT (Xc3 _)).trans ((XaT (Xc3 _)).trans ((XaT (Xc3 _)).trans (Xa0 hx))))
def s99 (g:(List UInt8)→Int→Int→Int→Option (List UInt8)):Xbr:=⟨[.v,.v,.v,.v],r99 g⟩
theorem XoV {g:(List UInt8)→Int→Int→Int→Option (List UInt8)} {y0:List UInt8} {y1:Int} {y2:Int} {y3:Int} {x:List UInt8} (hx:g y0 y1 y2 y3=some x):(s99 g).run [.string ⟨⟨y0⟩⟩,.int .i64 y1,.int .i64 y2,.int .u64 y3] []=some (rx99 x):=r99_c hx
abbrev XBj (Xbu:(List UInt8)→Int→Int→Option (Int×Bool)) (XaH:Int→Int→Option (List UInt8)):List (Nat×Xbr):=[(121,XSc Xbu),(98,s98 XaH)]
theorem XKk (Xbu:(List UInt8)→Int→Int→Option (Int×Bool)) (XaH:Int→Int→Option (List UInt8)) (hS:Xai Tryz.prog (Xav (XBj Xbu XaH))) (s:List UInt8) (ata1:Int) (k:Int) (n:Int) (res:List UInt8) (h:Xje Xbu XaH s ata1 k n=some res) :
 XaI Tryz.prog 99 0 ⟨⟨99,34,[(0,.string ⟨⟨s⟩⟩),(1,.int .i64 ata1),(2,.int .i64 k),(3,.int .u64 n)],[.code XBM],[],false,none⟩,[],[],0⟩ (fun v H _=>Res 0 (rx99 res) v H):=by
 unfold Xje at h
 refine Xa7 Xao hS true 3000 ?_
 conv=>whnf
 replace h:=Xal.elim h;obtain ⟨xg,hy,h⟩:=h
 refine XaK.q rfl rfl (Xmk hy) rfl rfl rfl ?_
 conv=>whnf
 refine br.h h ?_ ?_ ?_
 ·rfl
 ·clear h;intro hb h;conv=>whnf
  all_goals (cases h;exact Res.z rfl rfl rfl)
 clear h;intro hb h;conv=>whnf
 replace h:=XaJ.elim h;obtain ⟨hb,h⟩:=h
 first|(refine req.intro hb ?_;conv=>whnf)|skip
 replace h:=Xal.elim h;obtain ⟨p,hy,h⟩:=h
 refine XaK.q rfl rfl (XjF hy) rfl rfl rfl ?_
 conv=>whnf
 replace h:=XaJ.elim h;obtain ⟨hb,h⟩:=h
 first|(refine req.intro hb ?_;conv=>whnf)|skip
 replace h:=XaJ.elim h;obtain ⟨hb,h⟩:=h
 first|(refine req.intro hb ?_;conv=>whnf)|skip
 let t:List UInt8:=(s.drop (wI .i64 (ata1+k)).toNat).take (s.length - (wI .i64 (ata1+k)).toNat)
 replace h:=XaJ.elim h;obtain ⟨hb,h⟩:=h
 first|(refine req.intro hb ?_;conv=>whnf)|skip
 all_goals (cases h;exact Res.z rfl rfl rfl)
theorem ok99 (Xbu:(List UInt8)→Int→Int→Option (Int×Bool)) (XaH:Int→Int→Option (List UInt8)) (hS:Xai Tryz.prog (Xav (XBj Xbu XaH))):Xar Tryz.prog 99 (s99 (Xje Xbu XaH)):=by
 refine Xar.Xay Xao (fun ar os r ha hr=>?_) ⟨Tryz.f99,rfl,by decide,rfl⟩
 replace hr:r99 (Xje Xbu XaH) ar (XaD os)=some r:=hr
 unfold r99 at hr
 generalize hc:XaD os=C at hr
 replace hr:=dV.elim hr;obtain ⟨v0,l1,y0,rfl,e0,hr⟩:=hr;obtain rfl:=XbH _ _ e0
 replace hr:=dV.elim hr;obtain ⟨v1,l2,y1,rfl,e1,hr⟩:=hr;obtain rfl:=XbS _ _ _ e1
 replace hr:=dV.elim hr;obtain ⟨v2,l3,y2,rfl,e2,hr⟩:=hr;obtain rfl:=XbS _ _ _ e2
 replace hr:=dV.elim hr;obtain ⟨v3,l4,y3,rfl,e3,hr⟩:=hr;obtain rfl:=XbS _ _ _ e3
 replace hr:=Xc2 hr;obtain ⟨rfl,rfl,x,h,rfl⟩:=hr
 obtain rfl:=Xas hc
 exact ⟨_,rfl,XKk Xbu XaH hS _ _ _ _ x h⟩
def Xbm:(List UInt8)→Int→Int→Int→Option (List UInt8):=Xje Xbu XaH
theorem XvB:Xar Tryz.prog 99 (s99 Xbm):=ok99 Xbu XaH (Xai.XaW ⟨Xqx,XmL,trivial⟩)
def XgB (l:List Int) (n1:Int):Option (Sum Int Int):=
 cond (decide (n1>65535))
  (
  let t:=wI .i64 ((n1.tmod 65536)+(wI .i64 (n1.tdiv 65536)))
  some (.inl t))
  (
  some (.inr (n1)))
def XgJ (l:List Int) (n:Int) (i:Int):Option (Sum (Int×Int) Int):=
 cond (decide (i<(l.length:Int)))
  (
  XaJ (decide ((0:Int)≤i∧i<(l.length:Int))) <|
  (l[i.toNat]?).bind fun (e:Int)=>
  some (.inl (wI .i64 (n+e),wI .i64 (i+1))))
  (
  (iter (fun st=>XgB l st) FUEL n).bind fun o=>some (.inr (o)))
def Xi2 (l:List Int):Option Int:=
 iter (fun st=>XgJ l st.1 st.2) FUEL (0,0)
def XoY (x:Int):Xca:=⟨.int .i64 x,[],[none]⟩
def r185 (g:(List Int)→Option Int):Dec:=dSl 0 1 (unL (asI .i64)) fun (y0:List Int)=>XcO (ofG (g y0) XoY)
theorem X9w {g:(List Int)→Option Int} {y0:List Int} {x:Int} (hx:g y0=some x):r185 g [.slice (some ⟨0,0,none⟩) y0.length 1] [some (vI .i64 y0)]=some (XoY x):=(XqN (XsI _ _)).trans (Xa0 hx)
def s185 (g:(List Int)→Option Int):Xbr:=⟨[.sl 1],r185 g⟩
theorem XPd {g:(List Int)→Option Int} {y0:List Int} {x:Int} (hx:g y0=some x):(s185 g).run [.slice (some ⟨0,0,none⟩) y0.length 1] [some (vI .i64 y0)]=some (XoY x):=X9w hx
abbrev XnL:List (Nat×Xbr):=[]
def XiB (l:List Int) (n1:Int):VM:=
 ⟨⟨185,25,[(3,.int .i64 n1)],[.code XpP,.inLoop XpP,.inBlock 2,.code Xwb],[],false,none⟩,[],[(0,.row false (vI .i64 l))],1⟩
def XiE (l:List Int) (n:Int) (i:Int):VM:=
 ⟨⟨185,25,[(0,.slice (some ⟨0,0,none⟩) l.length 1),(3,.int .i64 n),(4,.int .i64 i)],[.code XpW,.inLoop XpW,.inBlock 0,.code XsT],[],false,none⟩,[],[(0,.row false (vI .i64 l))],1⟩
theorem Xtw (hS:Xai Tryz.prog (Xav (XnL))) (l:List Int) (res:Int):∀ fuel (st:Int) (o:Int),iter (fun st=>XgB l st) fuel st=some o→(o=res) →
 XaI Tryz.prog 185 1 (XiB l st) (fun v H _=>Res 1 (XoY res) v H):=by
 intro fuel st o h hc
 refine XbX (head:=fun st=>XiB l st) (C:=fun o=>(o=res)) ?_ fuel st o h hc
 clear h hc o st fuel
 intro n1 o h hc
 replace h:XgB l n1=some o:=h
 show XaI Tryz.prog 185 1 (XiB l n1) (fun v H _=>Res 1 (XoY res) v H)
 unfold XgB at h
 refine Xa7 Xao hS true 3000 ?_
 conv=>whnf
 refine br.h2 h ?_ ?_ ?_
 ·rfl
 ·clear h;intro hb h;conv=>whnf
  all_goals (cases h;cases hc)
  all_goals exact Res.of [] rfl Xg3 (by decide) Xg1 (XBs Xg2)
 clear h;intro hb h;conv=>whnf
 let t:Int:=wI .i64 ((n1.tmod 65536)+(wI .i64 (n1.tdiv 65536)))
 cases h;simp only [Sum.elim_inl,XiB] at hc
 exact Xj4 hc [(0,0)] rfl
theorem Xt7 (hS:Xai Tryz.prog (Xav (XnL))) (l:List Int) (res:Int):∀ fuel (st:Int×Int) (o:Int),iter (fun st=>XgJ l st.1 st.2) fuel st=some o→(o=res) →
 XaI Tryz.prog 185 1 (XiE l st.1 st.2) (fun v H _=>Res 1 (XoY res) v H):=by
 intro fuel st o h hc
 refine XbX (head:=fun st=>XiE l st.1 st.2) (C:=fun o=>(o=res)) ?_ fuel st o h hc
 clear h hc o st fuel
 intro st o h hc
 obtain ⟨n,i⟩:=st
 replace h:XgJ l n i=some o:=h
 show XaI Tryz.prog 185 1 (XiE l n i) (fun v H _=>Res 1 (XoY res) v H)
 unfold XgJ at h
 refine Xa7 Xao hS true 3000 ?_
 conv=>whnf
 refine br.h2 h ?_ ?_ ?_
 ·rfl
 ·clear h;intro hb h;conv=>whnf
  obtain ⟨y,hy,h2⟩:=Xal.elim h;cases h2
  have hl:=Xtw hS _ res _ _ _ hy hc;simp only [XiB] at hl
  exact Xj4 hl [(0,0)] rfl
 clear h;intro hb h;conv=>whnf
 replace h:=XaJ.elim h;obtain ⟨hb,h⟩:=h
 first|(refine req.intro hb ?_;conv=>whnf)|skip
 replace h:=Xal.elim h;obtain ⟨e,hy,h⟩:=h
 refine rd.I hy (by first|rfl|(rw [Nat.zero_add,Nat.mul_one];try rfl;done)|omega) ?_
 conv=>whnf
 cases h;simp only [Sum.elim_inl,XiE] at hc
 exact Xj4 hc [(0,0)] rfl
theorem Xx3 (hS:Xai Tryz.prog (Xav (XnL))) (l:List Int) (res:Int) (h:Xi2 l=some res) :
 XaI Tryz.prog 185 1 ⟨⟨185,25,[(0,.slice (some ⟨0,0,none⟩) l.length 1)],[.code XsM],[],false,none⟩,[],[(0,.row false (vI .i64 l))],1⟩ (fun v H _=>Res 1 (XoY res) v H):=by
 unfold Xi2 at h
 refine Xa7 Xao hS true 3000 ?_
 conv=>whnf
 have hl:=Xt7 hS _ res _ _ _ h rfl;simp only [XiE] at hl
 exact Xj4 hl [(0,0)] rfl
theorem ok185 (hS:Xai Tryz.prog (Xav (XnL))):Xar Tryz.prog 185 (s185 (Xi2)):=by
 refine Xar.Xay Xao (fun ar os r ha hr=>?_) ⟨Tryz.f185,rfl,by decide,rfl⟩
 replace hr:r185 (Xi2) ar (XaD os)=some r:=hr
 unfold r185 at hr
 generalize hc:XaD os=C at hr
 have hq:=dSl.elim hr;clear hr;obtain ⟨c0,l1,C,y0,rfl,rfl,e0,hr⟩:=hq;obtain rfl:=Xt0 e0
 replace hr:=Xc2 hr;obtain ⟨rfl,rfl,x,h,rfl⟩:=hr
 obtain ⟨os,rfl,ha,hc⟩:=Xc5 ha hc
 obtain rfl:=Xas hc
 exact ⟨_,rfl,Xx3 hS _ x h⟩
def Xd4:(List Int)→Option Int:=Xi2
theorem XDX:Xar Tryz.prog 185 (s185 Xd4):=ok185 (Xai.XaW trivial)
def Xdy (Xam:(List UInt8)→Int→Int→Option Int) (s1:List UInt8) (i:Int) (out1:List Int):Option (Sum ((List UInt8)×Int×(List Int)) (List Int)):=
 cond (decide (i<(s1.length:Int)))
  (
  (Xam s1 i 2).bind fun m=>
  XaJ (decide ((out1.length+1)*8≤2^47)) <|
  let row:=out1++[m]
  some (.inl (s1,wI .i64 (i+2),row)))
  (
  some (.inr (out1)))
def XgH (Xam:(List UInt8)→Int→Int→Option Int) (s:List UInt8):Option (List Int):=
 cond (((s.length:Int).tmod 2)==1)
  (
  XaJ (decide (s.length+1<2^63)) <|
  iter (fun st=>Xdy Xam st.1 st.2.1 st.2.2) FUEL (s++[0],0,[]))
  (
  iter (fun st=>Xdy Xam st.1 st.2.1 st.2.2) FUEL (s,0,[]))
def XrI (x:List Int):Xca:=⟨.slice (some ⟨0,0,none⟩) x.length 1,[(vI .i64 x)],[]⟩
def r186 (g:(List UInt8)→Option (List Int)):Dec:=dV asS fun (y0:List UInt8)=>XcO (ofG (g y0) XrI)
theorem YbC {g:(List UInt8)→Option (List Int)} {y0:List UInt8} {x:List Int} (hx:g y0=some x):r186 g [.string ⟨⟨y0⟩⟩] []=some (XrI x):=(XaT (Xcp)).trans (Xa0 hx)
def s186 (g:(List UInt8)→Option (List Int)):Xbr:=⟨[.v],r186 g⟩
theorem XJ3 {g:(List UInt8)→Option (List Int)} {y0:List UInt8} {x:List Int} (hx:g y0=some x):(s186 g).run [.string ⟨⟨y0⟩⟩] []=some (XrI x):=YbC hx
abbrev XpY (Xam:(List UInt8)→Int→Int→Option Int):List (Nat×Xbr):=[(74,s74 Xam)]
def XhT (s1:List UInt8) (i:Int) (out1:List Int):VM:=
 ⟨⟨186,24,[(0,.string ⟨⟨s1⟩⟩),(3,.slice (some ⟨0,0,none⟩) out1.length 1),(4,.int .i64 i)],[.code Xp3,.inLoop Xp3,.inBlock 0,.code Xwo],[],false,none⟩,[],[(0,.row true (vI .i64 out1))],1⟩
theorem Xov (Xam:(List UInt8)→Int→Int→Option Int) (hS:Xai Tryz.prog (Xav (XpY Xam))) (res:List Int):∀ fuel (st:(List UInt8)×Int×(List Int)) (o:List Int),iter (fun st=>Xdy Xam st.1 st.2.1 st.2.2) fuel st=some o→(o=res) →
 XaI Tryz.prog 186 0 (XhT st.1 st.2.1 st.2.2) (fun v H _=>Res 0 (XrI res) v H):=by
 intro fuel st o h hc
 refine XbX (head:=fun st=>XhT st.1 st.2.1 st.2.2) (C:=fun o=>(o=res)) ?_ fuel st o h hc
 clear h hc o st fuel
 intro st o h hc
 obtain ⟨s1,i,out1⟩:=st
 replace h:Xdy Xam s1 i out1=some o:=h
 show XaI Tryz.prog 186 0 (XhT s1 i out1) (fun v H _=>Res 0 (XrI res) v H)
 unfold Xdy at h
 refine Xa7 Xao hS true 3000 ?_
 conv=>whnf
 refine br.h2 h ?_ ?_ ?_
 ·rfl
 ·clear h;intro hb h;conv=>whnf
  all_goals (cases h;cases hc)
  all_goals exact Res.of [0] rfl (XrK (rn_I) (Xip rfl) Xg3) (by decide) (XrX (by decide) Xg1) Xg2
 clear h;intro hb h;conv=>whnf
 replace h:=Xal.elim h;obtain ⟨m,hy,h⟩:=h
 refine XaK.q rfl rfl (XeL hy) rfl rfl rfl ?_
 conv=>whnf
 replace h:=XaJ.elim h;obtain ⟨hb,h⟩:=h
 refine req.intro (XsO (of_decide_eq_true hb) (by first|rfl|omega|(simp;done)|(simp;omega)|(simp at *;omega)) rfl (by first|rfl|omega|(simp;done)|(simp;omega)|(simp at *;omega)) (by first|rfl|exact Xfq _ _|exact XhN _|exact XhV _|exact Xne (by first|exact Xeu|exact XdN|exact Xdm|exact XcT|exact Xc6|exact XcR|exact Xdu|exact Xex|exact Xe5|exact XeC|exact XdK|exact Xeq|exact Xe1) _|(rw [Xc4];exact Xfq _ _)|simp [Xfq,XhN,XhV,XiO,XiI,XjM,XjL]) rfl) ?_
 conv=>whnf
 let row:List Int:=out1++[m]
 refine Ycs (xs:=out1) (ys:=[m]) rfl (by first|rfl|omega) (by first|(simp;done)|(simp;omega)) (by first|(simp;done)|(simp;omega)) ?_
 conv=>whnf
 cases h;simp only [Sum.elim_inl,XhT] at hc
 exact Xj4 hc [(0,2)] rfl
theorem Xzb (Xam:(List UInt8)→Int→Int→Option Int) (hS:Xai Tryz.prog (Xav (XpY Xam))) (s:List UInt8) (res:List Int) (h:XgH Xam s=some res) :
 XaI Tryz.prog 186 0 ⟨⟨186,24,[(0,.string ⟨⟨s⟩⟩)],[.code Xvj],[],false,none⟩,[],[],0⟩ (fun v H _=>Res 0 (XrI res) v H):=by
 unfold XgH at h
 refine Xa7 Xao hS true 3000 ?_
 conv=>whnf
 refine br.h2 h ?_ ?_ ?_
 ·rfl
 ·clear h;intro hb h;conv=>whnf
  have hl:=Xov Xam hS res _ _ _ h rfl;simp only [XhT] at hl
  refine XaI.nilT 3 1 ?_
  exact Xj4 hl [(0,0)] rfl
 clear h;intro hb h;conv=>whnf
 replace h:=XaJ.elim h;obtain ⟨hb,h⟩:=h
 first|(refine req.intro hb ?_;conv=>whnf)|skip
 have hl:=Xov Xam hS res _ _ _ h rfl;simp only [XhT] at hl
 refine XaI.nilT 3 1 ?_
 exact Xj4 hl [(0,0)] rfl
theorem ok186 (Xam:(List UInt8)→Int→Int→Option Int) (hS:Xai Tryz.prog (Xav (XpY Xam))):Xar Tryz.prog 186 (s186 (XgH Xam)):=by
 refine Xar.Xay Xao (fun ar os r ha hr=>?_) ⟨Tryz.f186,rfl,by decide,rfl⟩
 replace hr:r186 (XgH Xam) ar (XaD os)=some r:=hr
 unfold r186 at hr
 generalize hc:XaD os=C at hr
 replace hr:=dV.elim hr;obtain ⟨v0,l1,y0,rfl,e0,hr⟩:=hr;obtain rfl:=XbH _ _ e0
 replace hr:=Xc2 hr;obtain ⟨rfl,rfl,x,h,rfl⟩:=hr
 obtain rfl:=Xas hc
 exact ⟨_,rfl,Xzb Xam hS _ x h⟩
def Xcv:(List UInt8)→Option (List Int):=XgH Xam
theorem XKt:Xar Tryz.prog 186 (s186 Xcv):=ok186 Xam (Xai.XaW ⟨Xmn,trivial⟩)
def Xi7 (Xd4:(List Int)→Option Int) (Xcv:(List UInt8)→Option (List Int)) (s:List UInt8):Option Int:=
 (Xcv s).bind fun w=>
 (Xd4 w).bind fun a=>
 some (a)
def Xxk (x:Int):Xca:=⟨.int .i64 x,[],[]⟩
def r147 (g:(List UInt8)→Option Int):Dec:=dV asS fun (y0:List UInt8)=>XcO (ofG (g y0) Xxk)
theorem XUO {g:(List UInt8)→Option Int} {y0:List UInt8} {x:Int} (hx:g y0=some x):r147 g [.string ⟨⟨y0⟩⟩] []=some (Xxk x):=(XaT (Xcp)).trans (Xa0 hx)
def XEP (g:(List UInt8)→Option Int):Xbr:=⟨[.v],r147 g⟩
theorem Xoj {g:(List UInt8)→Option Int} {y0:List UInt8} {x:Int} (hx:g y0=some x):(XEP g).run [.string ⟨⟨y0⟩⟩] []=some (Xxk x):=XUO hx
abbrev XsN (Xd4:(List Int)→Option Int) (Xcv:(List UInt8)→Option (List Int)):List (Nat×Xbr):=[(185,s185 Xd4),(186,s186 Xcv)]
theorem Xyr (Xd4:(List Int)→Option Int) (Xcv:(List UInt8)→Option (List Int)) (hS:Xai Tryz.prog (Xav (XsN Xd4 Xcv))) (s:List UInt8) (res:Int) (h:Xi7 Xd4 Xcv s=some res) :
 XaI Tryz.prog 147 0 ⟨⟨147,6,[(0,.string ⟨⟨s⟩⟩)],[.code XC5],[],false,none⟩,[],[],0⟩ (fun v H _=>Res 0 (Xxk res) v H):=by
 unfold Xi7 at h
 refine Xa7 Xao hS true 3000 ?_
 conv=>whnf
 replace h:=Xal.elim h;obtain ⟨w,hy,h⟩:=h
 refine XaK.Xbb [] (Xaw (aqs:=[.string ⟨⟨s⟩⟩]) (ws:=[]) (n:=1) (m:=0) (t':=1) (Xau rfl rfl Xbf) rfl (by rfl) (XJ3 hy) rfl rfl rfl rfl Xbe (Xho (rn_I) Xbc) rfl) ?_
 conv=>whnf
 replace h:=Xal.elim h;obtain ⟨a,hy,h⟩:=h
 refine XaK.Xbb [] (Xaw (aqs:=[.slice (some ⟨0,0,none⟩) (w:List Int).length 1]) (ws:=[.win 0 0 (w.length*1) false]) (n:=0) (m:=0) (t':=1) (Xau (by first|rfl|exact XjX rfl rfl (by first|rfl|omega) (by first|rfl|(simp;done))|exact Xle rfl rfl (by first|rfl|omega) (by first|rfl|omega) (by first|omega|(simp at *;omega))) rfl Xbf) rfl (by rfl) (XPd hy) rfl rfl rfl rfl (XiT rfl Xbe) Xbc rfl) ?_
 conv=>whnf
 all_goals (cases h;exact Res.z rfl rfl rfl)
theorem ok147 (Xd4:(List Int)→Option Int) (Xcv:(List UInt8)→Option (List Int)) (hS:Xai Tryz.prog (Xav (XsN Xd4 Xcv))):Xar Tryz.prog 147 (XEP (Xi7 Xd4 Xcv)):=by
 refine Xar.Xay Xao (fun ar os r ha hr=>?_) ⟨Tryz.f147,rfl,by decide,rfl⟩
 replace hr:r147 (Xi7 Xd4 Xcv) ar (XaD os)=some r:=hr
 unfold r147 at hr
 generalize hc:XaD os=C at hr
 replace hr:=dV.elim hr;obtain ⟨v0,l1,y0,rfl,e0,hr⟩:=hr;obtain rfl:=XbH _ _ e0
 replace hr:=Xc2 hr;obtain ⟨rfl,rfl,x,h,rfl⟩:=hr
 obtain rfl:=Xas hc
 exact ⟨_,rfl,Xyr Xd4 Xcv hS _ x h⟩
def Xba:(List UInt8)→Option Int:=Xi7 Xd4 Xcv
theorem XnC:Xar Tryz.prog 147 (XEP Xba):=ok147 Xd4 Xcv (Xai.XaW ⟨XDX,XKt,trivial⟩)
def XkQ (Xba:(List UInt8)→Option Int) (s:List UInt8):Option Int:=
 (Xba s).bind fun s1=>
 some (wI .i64 (65535 - s1))
def XxO (x:Int):Xca:=⟨.int .i64 x,[],[]⟩
def r100 (g:(List UInt8)→Option Int):Dec:=dV asS fun (y0:List UInt8)=>XcO (ofG (g y0) XxO)
theorem X6K {g:(List UInt8)→Option Int} {y0:List UInt8} {x:Int} (hx:g y0=some x):r100 g [.string ⟨⟨y0⟩⟩] []=some (XxO x):=(XaT (Xcp)).trans (Xa0 hx)
def XSe (g:(List UInt8)→Option Int):Xbr:=⟨[.v],r100 g⟩
theorem Xol {g:(List UInt8)→Option Int} {y0:List UInt8} {x:Int} (hx:g y0=some x):(XSe g).run [.string ⟨⟨y0⟩⟩] []=some (XxO x):=X6K hx
abbrev Xuv (Xba:(List UInt8)→Option Int):List (Nat×Xbr):=[(147,XEP Xba)]
theorem XxM (Xba:(List UInt8)→Option Int) (hS:Xai Tryz.prog (Xav (Xuv Xba))) (s:List UInt8) (res:Int) (h:XkQ Xba s=some res) :
 XaI Tryz.prog 100 0 ⟨⟨100,6,[(0,.string ⟨⟨s⟩⟩)],[.code XBK],[],false,none⟩,[],[],0⟩ (fun v H _=>Res 0 (XxO res) v H):=by
 unfold XkQ at h
 refine Xa7 Xao hS true 3000 ?_
 conv=>whnf
 replace h:=Xal.elim h;obtain ⟨s1,hy,h⟩:=h
 refine XaK.q rfl rfl (Xoj hy) rfl rfl rfl ?_
 conv=>whnf
 all_goals (cases h;exact Res.z rfl rfl rfl)
theorem ok100 (Xba:(List UInt8)→Option Int) (hS:Xai Tryz.prog (Xav (Xuv Xba))):Xar Tryz.prog 100 (XSe (XkQ Xba)):=by
 refine Xar.Xay Xao (fun ar os r ha hr=>?_) ⟨Tryz.f100,rfl,by decide,rfl⟩
 replace hr:r100 (XkQ Xba) ar (XaD os)=some r:=hr
 unfold r100 at hr
 generalize hc:XaD os=C at hr
 replace hr:=dV.elim hr;obtain ⟨v0,l1,y0,rfl,e0,hr⟩:=hr;obtain rfl:=XbH _ _ e0
 replace hr:=Xc2 hr;obtain ⟨rfl,rfl,x,h,rfl⟩:=hr
 obtain rfl:=Xas hc
 exact ⟨_,rfl,XxM Xba hS _ x h⟩
def XbP:(List UInt8)→Option Int:=XkQ Xba
theorem Xqy:Xar Tryz.prog 100 (XSe XbP):=ok100 Xba (Xai.XaW ⟨XnC,trivial⟩)
def XhS (Xbt:(List UInt8)→Option Int) (s:List UInt8):Option Int:=
 (Xbt s).bind fun s1=>
 some (wI .i64 (65535 - s1))
def XwQ (x:Int):Xca:=⟨.int .i64 x,[],[]⟩
def r128 (g:(List UInt8)→Option Int):Dec:=dV asS fun (y0:List UInt8)=>XcO (ofG (g y0) XwQ)
theorem X6q {g:(List UInt8)→Option Int} {y0:List UInt8} {x:Int} (hx:g y0=some x):r128 g [.string ⟨⟨y0⟩⟩] []=some (XwQ x):=(XaT (Xcp)).trans (Xa0 hx)
def XR1 (g:(List UInt8)→Option Int):Xbr:=⟨[.v],r128 g⟩
theorem Xn6 {g:(List UInt8)→Option Int} {y0:List UInt8} {x:Int} (hx:g y0=some x):(XR1 g).run [.string ⟨⟨y0⟩⟩] []=some (XwQ x):=X6q hx
abbrev Xsz (Xbt:(List UInt8)→Option Int):List (Nat×Xbr):=[(176,X5S Xbt)]
theorem XA4 (Xbt:(List UInt8)→Option Int) (hS:Xai Tryz.prog (Xav (Xsz Xbt))) (s:List UInt8) (res:Int) (h:XhS Xbt s=some res) :
 XaI Tryz.prog 128 0 ⟨⟨128,6,[(0,.string ⟨⟨s⟩⟩)],[.code XCh],[],false,none⟩,[],[],0⟩ (fun v H _=>Res 0 (XwQ res) v H):=by
 unfold XhS at h
 refine Xa7 Xao hS true 3000 ?_
 conv=>whnf
 replace h:=Xal.elim h;obtain ⟨s1,hy,h⟩:=h
 refine XaK.q rfl rfl (XvV hy) rfl rfl rfl ?_
 conv=>whnf
 all_goals (cases h;exact Res.z rfl rfl rfl)
theorem ok128 (Xbt:(List UInt8)→Option Int) (hS:Xai Tryz.prog (Xav (Xsz Xbt))):Xar Tryz.prog 128 (XR1 (XhS Xbt)):=by
 refine Xar.Xay Xao (fun ar os r ha hr=>?_) ⟨Tryz.f128,rfl,by decide,rfl⟩
 replace hr:r128 (XhS Xbt) ar (XaD os)=some r:=hr
 unfold r128 at hr
 generalize hc:XaD os=C at hr
 replace hr:=dV.elim hr;obtain ⟨v0,l1,y0,rfl,e0,hr⟩:=hr;obtain rfl:=XbH _ _ e0
 replace hr:=Xc2 hr;obtain ⟨rfl,rfl,x,h,rfl⟩:=hr
 obtain rfl:=Xas hc
 exact ⟨_,rfl,XA4 Xbt hS _ x h⟩
def XaR:(List UInt8)→Option Int:=XhS Xbt
theorem Xpr:Xar Tryz.prog 128 (XR1 XaR):=ok128 Xbt (Xai.XaW ⟨Xtj,trivial⟩)
def Xfi (Xbt:(List UInt8)→Option Int) (s:List UInt8):Option Bool:=
 (Xbt s).bind fun s1=>
 some (s1==65535)
def Xzc (x:Bool):Xca:=⟨.bool x,[],[]⟩
def r146 (g:(List UInt8)→Option Bool):Dec:=dV asS fun (y0:List UInt8)=>XcO (ofG (g y0) Xzc)
theorem X8U {g:(List UInt8)→Option Bool} {y0:List UInt8} {x:Bool} (hx:g y0=some x):r146 g [.string ⟨⟨y0⟩⟩] []=some (Xzc x):=(XaT (Xcp)).trans (Xa0 hx)
def XR7 (g:(List UInt8)→Option Bool):Xbr:=⟨[.v],r146 g⟩
theorem XnF {g:(List UInt8)→Option Bool} {y0:List UInt8} {x:Bool} (hx:g y0=some x):(XR7 g).run [.string ⟨⟨y0⟩⟩] []=some (Xzc x):=X8U hx
abbrev Xtg (Xbt:(List UInt8)→Option Int):List (Nat×Xbr):=[(176,X5S Xbt)]
theorem XAU (Xbt:(List UInt8)→Option Int) (hS:Xai Tryz.prog (Xav (Xtg Xbt))) (s:List UInt8) (res:Bool) (h:Xfi Xbt s=some res) :
 XaI Tryz.prog 146 0 ⟨⟨146,6,[(0,.string ⟨⟨s⟩⟩)],[.code XBo],[],false,none⟩,[],[],0⟩ (fun v H _=>Res 0 (Xzc res) v H):=by
 unfold Xfi at h
 refine Xa7 Xao hS true 3000 ?_
 conv=>whnf
 replace h:=Xal.elim h;obtain ⟨s1,hy,h⟩:=h
 refine XaK.q rfl rfl (XvV hy) rfl rfl rfl ?_
 conv=>whnf
 all_goals (cases h;exact Res.z rfl rfl rfl)
theorem ok146 (Xbt:(List UInt8)→Option Int) (hS:Xai Tryz.prog (Xav (Xtg Xbt))):Xar Tryz.prog 146 (XR7 (Xfi Xbt)):=by
 refine Xar.Xay Xao (fun ar os r ha hr=>?_) ⟨Tryz.f146,rfl,by decide,rfl⟩
 replace hr:r146 (Xfi Xbt) ar (XaD os)=some r:=hr
 unfold r146 at hr
 generalize hc:XaD os=C at hr
 replace hr:=dV.elim hr;obtain ⟨v0,l1,y0,rfl,e0,hr⟩:=hr;obtain rfl:=XbH _ _ e0
 replace hr:=Xc2 hr;obtain ⟨rfl,rfl,x,h,rfl⟩:=hr
 obtain rfl:=Xas hc
 exact ⟨_,rfl,XAU Xbt hS _ x h⟩
def XaE:(List UInt8)→Option Bool:=Xfi Xbt
theorem Xqs:Xar Tryz.prog 146 (XR7 XaE):=ok146 Xbt (Xai.XaW ⟨Xtj,trivial⟩)
end Go.Vm.Code
namespace Go.Vm.Code
open Go Go.Vm
theorem XxQ {s:List UInt8} {i:Nat} (h:i+1<s.length):Xsp s (i:Int) 2=(((s[i].toNat*256+s[i+1].toNat:Nat):Int),true):=by
 unfold Xsp
 rw [if_pos (by omega)]
 have e:(s.drop (i:Int).toNat).take (2:Int).toNat=[s[i],s[i+1]]:=by
  show (s.drop i).take 2=_
  rw [List.drop_eq_getElem_cons (by omega:i<s.length),List.drop_eq_getElem_cons h];rfl
 rw [e];simp [XeQ]
def Xfh:List UInt8→List Int
 | []=>[]
 | [b]=>[((b.toNat*256:Nat):Int)]
 | b::c::l=>((b.toNat*256+c.toNat:Nat):Int)::Xfh l
theorem XrS {s:List UInt8} {i:Nat} (h:i+1<s.length):Xfh (s.drop i)=((s[i].toNat*256+s[i+1].toNat:Nat):Int)::Xfh (s.drop (i+2)):=by
 rw [List.drop_eq_getElem_cons (by omega:i<s.length),List.drop_eq_getElem_cons h];rfl
theorem XmZ:∀ s:List UInt8,s.length%2=1→Xfh (s++[0])=Xfh s
 | [],h=>by simp at h
 | [b],_=>by
   show [((b.toNat*256+0:Nat):Int)]=[((b.toNat*256:Nat):Int)]
   rw [Nat.add_zero]
 | b::c::l,h=>by
   have:=XmZ l (by simp at h;omega)
   simp only [List.cons_append,Xfh,this]
theorem Xnb:∀ s:List UInt8,(Xfh s).sum=(Xfk s:Int)
 | []=>rfl
 | [b]=>by simp only [Xfh,Xfk,List.sum_cons,List.sum_nil,Int.add_zero]
 | b::c::l=>by
   have:=Xnb l
   simp only [Xfh,Xfk,List.sum_cons,this];omega
theorem Xm5:∀ s:List UInt8,∀ e∈Xfh s,0≤e∧e≤65535
 | [],e,h=>by simp [Xfh] at h
 | [b],e,h=>by simp [Xfh] at h;have:=b.toNat_lt;omega
 | b::c::l,e,h=>by
   simp only [Xfh,List.mem_cons] at h
   rcases h with rfl|h
   ·have:=b.toNat_lt;have:=c.toNat_lt;omega
   ·exact Xm5 l e h
theorem Xnh:∀ s:List UInt8,(Xfh s).length=(s.length+1)/2
 | []=>rfl
 | [b]=>by simp [Xfh]
 | b::c::l=>by
   have:=Xnh l
   simp only [Xfh,List.length_cons,this];omega
theorem Xjy {s:List UInt8} (h:s.length<2^40) (he:s.length%2=0):iter (fun (st:List UInt8×Int×List Int)=>Xdy Xam st.1 st.2.1 st.2.2) FUEL (s,0,[])=some (Xfh s):=by
 have key:=iter_eq (step:=fun (st:List UInt8×Int×List Int)=>Xdy Xam st.1 st.2.1 st.2.2) (fun st=>st.2.2++Xfh (s.drop st.2.1.toNat)) (fun st=>st.1=s∧∃ i:Nat,st.2.1=i∧i%2=0∧i≤s.length∧st.2.2.length≤i) (fun st=>(s.length - st.2.1).toNat) ?_ FUEL (s,0,[]) ⟨rfl,0,rfl,by omega,by omega,by simp⟩ (by rw [XeE];simp only;omega)
 ·rw [key];simp
 rintro ⟨s1,p,out⟩ ⟨h1,i,h2,h3,h4,h5⟩
 simp only at h1 h2 h5 ⊢
 subst h1 h2
 unfold Xdy
 by_cases hi:i<s1.length
 ·have hi2:i+1<s1.length:=by omega
  refine .inr ⟨(s1,((i+2:Nat):Int),out++[((s1[i].toNat*256+s1[i+1].toNat:Nat):Int)]),?_,⟨rfl,i+2,rfl,by omega,by omega,by simp;omega⟩,by simp only;omega,?_⟩
  ·have b1:=s1[i].toNat_lt
   have b2:=s1[i+1].toNat_lt
   rw [XaS (by omega),XfV (by omega),XxQ hi2,Option.bind_some,Xaz (by omega),Xcg (by omega) (by omega),Xcg (by omega) (by omega)];rfl
  ·simp only [Int.toNat_natCast]
   rw [XrS hi2];simp
 ·refine .inl ?_
  rw [XaO (by omega)]
  simp [List.drop_eq_nil_of_le (by omega:s1.length≤i),Xfh]
theorem XoD {s:List UInt8} (h:s.length<2^39):Xcv s=some (Xfh s):=by
 unfold Xcv XgH
 have ea:((s.length:Int).tmod 2==1)=decide (s.length%2=1):=by
  rw [Int.tmod_eq_emod_of_nonneg (by omega),Bool.eq_iff_iff,beq_iff_eq,decide_eq_true_eq];omega
 rw [ea]
 by_cases h2:s.length%2=1
 ·rw [XaS h2,Xaz (by omega),Xjy (by simp only [List.length_append,List.length_cons,List.length_nil];omega) (by simp only [List.length_append,List.length_cons,List.length_nil];omega),XmZ s h2]
 ·rw [XaO h2,Xjy (by omega) (by omega)]
theorem Xqw {l:List Int} {n:Int} (h0:0≤n) (h1:n<2^62):iter (fun st=>XgB l st) FUEL n=some ((norm n.toNat:Nat):Int):=by
 refine iter_eq (fun n=>((norm n.toNat:Nat):Int)) (fun n=>0≤n∧n<2^62) (fun n=>n.toNat) ?_ FUEL _ ⟨h0,h1⟩ (by rw [XeE];omega)
 intro s ⟨a,b⟩
 unfold XgB
 by_cases hs:s>65535
 ·refine .inr ⟨s%65536+s/65536,?_,⟨by omega,by omega⟩,by omega,?_⟩
  ·rw [XaS hs,Int.tdiv_eq_ediv_of_nonneg a,Int.tmod_eq_emod_of_nonneg a,Xcg (n:=s/65536) (by omega) (by omega),Xcg (by omega) (by omega)]
  ·have:norm (s%65536+s/65536).toNat=norm s.toNat:=
    (norm_eq (norm_le _) (by have:=XlB (s%65536+s/65536).toNat;omega) (by have:=Xki (s%65536+s/65536).toNat;omega)).symm
   rw [this]
 ·refine .inl ?_
  rw [XaO hs]
  have:=Xmp (n:=s.toNat) (by omega)
  simp only [this]
  rw [Int.toNat_of_nonneg a]
theorem Xsm {l:List Int} (hl:l.length<2^40) (hr:∀ e∈l,0≤e∧e≤65535):Xd4 l=some ((norm l.sum.toNat:Nat):Int):=by
 unfold Xd4 Xi2
 have key:=iter_eq (step:=fun (st:Int×Int)=>XgJ l st.1 st.2) (fun st=>((norm (st.1+(l.drop st.2.toNat).sum).toNat:Nat):Int)) (fun st=>0≤st.1∧0≤st.2∧st.2≤l.length∧st.1≤st.2*65535) (fun st=>(l.length - st.2).toNat) ?_ FUEL (0,0) ⟨by simp,by simp,by simp,by simp⟩ (by rw [XeE];simp only;omega)
 ·rw [key];simp
 rintro ⟨n,p⟩ ⟨g1,g2,g3,g4⟩
 simp only at g1 g2 g3 g4 ⊢
 obtain ⟨i,rfl⟩:=Int.eq_ofNat_of_zero_le g2
 simp only [Int.toNat_natCast]
 unfold XgJ
 by_cases hi:i<l.length
 ·have hx:=hr l[i] (List.getElem_mem hi)
  refine .inr ⟨(n+l[i],((i+1:Nat):Int)),?_,⟨by simp only;omega,by simp only;omega,by simp only;omega,by simp only;omega⟩,by simp only;omega,?_⟩
  ·simp (disch:=omega) only [XaS,Xaz,Int.toNat_natCast,List.getElem?_eq_getElem,Option.bind_some,Xcg];rfl
  ·simp only [Int.toNat_natCast]
   rw [List.drop_eq_getElem_cons hi,List.sum_cons,Int.add_assoc]
 ·refine .inl ?_
  rw [XaO (by omega),Xqw g1 (by omega),List.drop_eq_nil_of_le (by omega)]
  simp
theorem Xi9 {s:List UInt8} (h:s.length<2^39):Xba s=some ((norm (Xfk s):Nat):Int):=by
 unfold Xba Xi7
 rw [XoD h,Option.bind_some,Xsm (by rw [Xnh];omega) (Xm5 s),Xnb];rfl
def Xpm (s:List UInt8) (p k n:Int):List UInt8:=if 1≤k∧k≤8∧0≤p∧p+k≤s.length then s.take p.toNat++be n.toNat k.toNat++s.drop (p+k).toNat else s
theorem Xq6 {s:List UInt8} {p k n:Int} (hs:s.length<2^40) (hn:0≤n):XaC s p k n=some (Xpm s p k n):=by
 unfold XaC Xgz Xpm
 rw [Xbq hn,Option.bind_some]
 unfold XbV
 by_cases hk:1≤k∧k≤8
 ·rw [if_pos hk]
  have e:(be n.toNat k.toNat==[])=false:=by
   rw [beq_eq_false_iff_ne];intro h;have:=congrArg List.length h;simp at this;omega
  rw [e,cond_false]
  by_cases h1:p<0
  ·rw [XaS h1,if_neg (by omega)]
  rw [XaO h1,Xcg (n:=(s.length:Int) - k) (by omega) (by omega)]
  by_cases h2:(s.length:Int) - k<p
  ·simp only []
   rw [XaS h2,if_neg (by omega)]
  simp only []
  have e1:(p+k).toNat=p.toNat+k.toNat:=by omega
  have e2:((s.drop (p+k).toNat).take (s.length - (p+k).toNat))=s.drop (p+k).toNat:=List.take_of_length_le (by simp)
  rw [XaO h2,Xaz (by omega),Xcg (n:=p+k) (by omega) (by omega),e2,Xaz (by simp;omega),Xaz (by omega),Xaz (by simp;omega),if_pos (by omega)]
 ·rw [if_neg hk,if_neg (by omega)];rfl
theorem Xjq {s:List UInt8} {p k n:Int} (hs:s.length<2^40) (hn:0≤n) (hn2:n<2^64):Xbm s p k n=some (Xpm s p k n):=by
 unfold Xbm Xje Xpm
 rw [Xhz (by omega),Option.bind_some]
 unfold Xsp
 by_cases hc:1≤k∧k≤8∧0≤p∧p+k≤s.length
 ·rw [if_pos hc,if_pos hc]
  have e2:((s.drop (p+k).toNat).take (s.length - (p+k).toNat))=s.drop (p+k).toNat:=List.take_of_length_le (by simp)
  simp only [Bool.not_true,cond_false]
  rw [XcP hn hn2,Option.bind_some,Xaz (by omega),Xcg (n:=p+k) (by omega) (by omega),e2]
  unfold XbV
  rw [if_pos (by omega),Xaz (by simp;omega),Xaz (by omega),Xaz (by simp;omega)]
 ·rw [if_neg hc,if_neg hc];rfl
theorem Xz9 {s:List UInt8} (h:s.length<2^39):XaR s=some (65535 - ((norm (Xfk s):Nat):Int)):=by
 unfold XaR XhS
 have:=norm_le (Xfk s)
 rw [XDl s (by omega),Option.bind_some,Xcg (by omega) (by omega)]
theorem XlR {s:List UInt8} (h:s.length<2^39):XbP s=some (65535 - ((norm (Xfk s):Nat):Int)):=by
 unfold XbP XkQ
 have:=norm_le (Xfk s)
 rw [Xi9 h,Option.bind_some,Xcg (by omega) (by omega)]
theorem Xnw {s:List UInt8} (h:s.length<2^39):XaE s=some (((norm (Xfk s):Nat):Int)==65535):=by
 unfold XaE Xfi
 rw [XDl s (by omega),Option.bind_some]
end Go.Vm.Code
namespace Go.Vm.Code
open Go Go.Vm Go.Proofs
set_option maxRecDepth 100000
set_option maxHeartbeats 4000000
set_option linter.unusedVariables false
def XeW (a:Xaa):Option Bool:=
 cond (a.V6)
  (
  some (true))
  (
  cond (a.Hi==0)
   (
   some (decide (a.Lo<4294967296)))
   (
   some (false)))
def rx81 (x:Bool):Xca:=⟨.bool x,[],[]⟩
def r81 (g:Xaa→Option Bool):Dec:=dV Xbp fun (y0:Xaa)=>XcO (ofG (g y0) rx81)
theorem r81_c {g:Xaa→Option Bool} {y0:Xaa} {x:Bool} (hx:g y0=some x):r81 g [.agg ⟨[.bool y0.V6,.int .u64 y0.Hi,.int .u64 y0.Lo]⟩] []=some (rx81 x):=(XaT (Xa8 _)).trans (Xa0 hx)
def s81 (g:Xaa→Option Bool):Xbr:=⟨[.v],r81 g⟩
theorem Xlg {g:Xaa→Option Bool} {y0:Xaa} {x:Bool} (hx:g y0=some x):(s81 g).run [.agg ⟨[.bool y0.V6,.int .u64 y0.Hi,.int .u64 y0.Lo]⟩] []=some (rx81 x):=r81_c hx
abbrev XCu:List (Nat×Xbr):=[]
theorem XKJ (hS:Xai Tryz.prog (Xav (XCu))) (a:Xaa) (res:Bool) (h:XeW a=some res) :
 XaI Tryz.prog 81 0 ⟨⟨81,15,[(0,.agg ⟨[.bool a.V6,.int .u64 a.Hi,.int .u64 a.Lo]⟩)],[.code X92],[],false,none⟩,[],[],0⟩ (fun v H _=>Res 0 (rx81 res) v H):=by
 unfold XeW at h
 refine Xa7 Xao hS true 3000 ?_
 conv=>whnf
 refine br.h h ?_ ?_ ?_
 ·rfl
 ·clear h;intro hb h;conv=>whnf
  all_goals (cases h;exact Res.z rfl rfl rfl)
 clear h;intro hb h;conv=>whnf
 refine br.h h ?_ ?_ ?_
 ·rfl
 ·clear h;intro hb h;conv=>whnf
  all_goals (cases h;exact Res.z rfl rfl rfl)
 clear h;intro hb h;conv=>whnf
 all_goals (cases h;exact Res.z rfl rfl rfl)
theorem ok81 (hS:Xai Tryz.prog (Xav (XCu))):Xar Tryz.prog 81 (s81 (XeW)):=by
 refine Xar.Xay Xao (fun ar os r ha hr=>?_) ⟨Tryz.f81,rfl,by decide,rfl⟩
 replace hr:r81 (XeW) ar (XaD os)=some r:=hr
 unfold r81 at hr
 generalize hc:XaD os=C at hr
 replace hr:=dV.elim hr;obtain ⟨v0,l1,y0,rfl,e0,hr⟩:=hr;obtain rfl:=Xa1 _ _ e0
 replace hr:=Xc2 hr;obtain ⟨rfl,rfl,x,h,rfl⟩:=hr
 obtain rfl:=Xas hc
 exact ⟨_,rfl,XKJ hS _ x h⟩
def Xax:Xaa→Option Bool:=XeW
theorem XqR:Xar Tryz.prog 81 (s81 Xax):=ok81 (Xai.XaW trivial)
def XgU (Xax:Xaa→Option Bool) (Xan:Int→Int→Option (List UInt8)) (a:Xaa):Option (List UInt8):=
 (Xax a).bind fun xr=>
 cond (!xr)
  (
  some ([]))
  (
  cond (a.V6)
   (
   (Xan a.Hi 8).bind fun p=>
   (Xan a.Lo 8).bind fun p1=>
   XaJ (decide (p.length+p1.length<2^63)) <|
   some (p++p1))
   (
   (Xan a.Lo 4).bind fun p2=>
   some (p2)))
def XyH (x:List UInt8):Xca:=⟨.string ⟨⟨x⟩⟩,[],[]⟩
def r136 (g:Xaa→Option (List UInt8)):Dec:=dV Xbp fun (y0:Xaa)=>XcO (ofG (g y0) XyH)
theorem X39 {g:Xaa→Option (List UInt8)} {y0:Xaa} {x:List UInt8} (hx:g y0=some x):r136 g [.agg ⟨[.bool y0.V6,.int .u64 y0.Hi,.int .u64 y0.Lo]⟩] []=some (XyH x):=(XaT (Xa8 _)).trans (Xa0 hx)
def XR9 (g:Xaa→Option (List UInt8)):Xbr:=⟨[.v],r136 g⟩
theorem XiW {g:Xaa→Option (List UInt8)} {y0:Xaa} {x:List UInt8} (hx:g y0=some x):(XR9 g).run [.agg ⟨[.bool y0.V6,.int .u64 y0.Hi,.int .u64 y0.Lo]⟩] []=some (XyH x):=X39 hx
abbrev Xwg (Xax:Xaa→Option Bool) (Xan:Int→Int→Option (List UInt8)):List (Nat×Xbr):=[(81,s81 Xax),(72,s72 Xan)]
theorem XxW (Xax:Xaa→Option Bool) (Xan:Int→Int→Option (List UInt8)) (hS:Xai Tryz.prog (Xav (Xwg Xax Xan))) (a:Xaa) (res:List UInt8) (h:XgU Xax Xan a=some res) :
 XaI Tryz.prog 136 0 ⟨⟨136,20,[(0,.agg ⟨[.bool a.V6,.int .u64 a.Hi,.int .u64 a.Lo]⟩)],[.code Xtv],[],false,none⟩,[],[],0⟩ (fun v H _=>Res 0 (XyH res) v H):=by
 unfold XgU at h
 refine Xa7 Xao hS true 3000 ?_
 conv=>whnf
 replace h:=Xal.elim h;obtain ⟨xr,hy,h⟩:=h
 refine XaK.q rfl rfl (Xlg hy) rfl rfl rfl ?_
 conv=>whnf
 refine br.h h ?_ ?_ ?_
 ·rfl
 ·clear h;intro hb h;conv=>whnf
  all_goals (cases h;exact Res.z rfl rfl rfl)
 clear h;intro hb h;conv=>whnf
 refine br.h2 h ?_ ?_ ?_
 ·rfl
 ·clear h;intro hb h;conv=>whnf
  replace h:=Xal.elim h;obtain ⟨p2,hy,h⟩:=h
  refine XaK.q rfl rfl (Xg0 hy) rfl rfl rfl ?_
  conv=>whnf
  all_goals (cases h;exact Res.z rfl rfl rfl)
 clear h;intro hb h;conv=>whnf
 replace h:=Xal.elim h;obtain ⟨p,hy,h⟩:=h
 refine XaK.q rfl rfl (Xg0 hy) rfl rfl rfl ?_
 conv=>whnf
 replace h:=Xal.elim h;obtain ⟨p1,hy,h⟩:=h
 refine XaK.q rfl rfl (Xg0 hy) rfl rfl rfl ?_
 conv=>whnf
 replace h:=XaJ.elim h;obtain ⟨hb,h⟩:=h
 first|(refine req.intro hb ?_;conv=>whnf)|skip
 all_goals (cases h;exact Res.z rfl rfl rfl)
theorem ok136 (Xax:Xaa→Option Bool) (Xan:Int→Int→Option (List UInt8)) (hS:Xai Tryz.prog (Xav (Xwg Xax Xan))):Xar Tryz.prog 136 (XR9 (XgU Xax Xan)):=by
 refine Xar.Xay Xao (fun ar os r ha hr=>?_) ⟨Tryz.f136,rfl,by decide,rfl⟩
 replace hr:r136 (XgU Xax Xan) ar (XaD os)=some r:=hr
 unfold r136 at hr
 generalize hc:XaD os=C at hr
 replace hr:=dV.elim hr;obtain ⟨v0,l1,y0,rfl,e0,hr⟩:=hr;obtain rfl:=Xa1 _ _ e0
 replace hr:=Xc2 hr;obtain ⟨rfl,rfl,x,h,rfl⟩:=hr
 obtain rfl:=Xas hc
 exact ⟨_,rfl,XxW Xax Xan hS _ x h⟩
def Xa3:Xaa→Option (List UInt8):=XgU Xax Xan
theorem Xqh:Xar Tryz.prog 136 (XR9 Xa3):=ok136 Xax Xan (Xai.XaW ⟨XqR,XmW,trivial⟩)
def XfK (a:Xaa):Option Bool:=
 cond (a.V6)
  (
  some (true))
  (
  cond (a.Hi==0)
   (
   some (decide (a.Lo<4294967296)))
   (
   some (false)))
def rx84 (x:Bool):Xca:=⟨.bool x,[],[]⟩
def r84 (g:Xaa→Option Bool):Dec:=dV Xbp fun (y0:Xaa)=>XcO (ofG (g y0) rx84)
theorem r84_c {g:Xaa→Option Bool} {y0:Xaa} {x:Bool} (hx:g y0=some x):r84 g [.agg ⟨[.bool y0.V6,.int .u64 y0.Hi,.int .u64 y0.Lo]⟩] []=some (rx84 x):=(XaT (Xa8 _)).trans (Xa0 hx)
def s84 (g:Xaa→Option Bool):Xbr:=⟨[.v],r84 g⟩
theorem Xna {g:Xaa→Option Bool} {y0:Xaa} {x:Bool} (hx:g y0=some x):(s84 g).run [.agg ⟨[.bool y0.V6,.int .u64 y0.Hi,.int .u64 y0.Lo]⟩] []=some (rx84 x):=r84_c hx
abbrev XCa:List (Nat×Xbr):=[]
theorem XHQ (hS:Xai Tryz.prog (Xav (XCa))) (a:Xaa) (res:Bool) (h:XfK a=some res) :
 XaI Tryz.prog 84 0 ⟨⟨84,15,[(0,.agg ⟨[.bool a.V6,.int .u64 a.Hi,.int .u64 a.Lo]⟩)],[.code XZE],[],false,none⟩,[],[],0⟩ (fun v H _=>Res 0 (rx84 res) v H):=by
 unfold XfK at h
 refine Xa7 Xao hS true 3000 ?_
 conv=>whnf
 refine br.h h ?_ ?_ ?_
 ·rfl
 ·clear h;intro hb h;conv=>whnf
  all_goals (cases h;exact Res.z rfl rfl rfl)
 clear h;intro hb h;conv=>whnf
 refine br.h h ?_ ?_ ?_
 ·rfl
 ·clear h;intro hb h;conv=>whnf
  all_goals (cases h;exact Res.z rfl rfl rfl)
 clear h;intro hb h;conv=>whnf
 all_goals (cases h;exact Res.z rfl rfl rfl)
theorem ok84 (hS:Xai Tryz.prog (Xav (XCa))):Xar Tryz.prog 84 (s84 (XfK)):=by
 refine Xar.Xay Xao (fun ar os r ha hr=>?_) ⟨Tryz.f84,rfl,by decide,rfl⟩
 replace hr:r84 (XfK) ar (XaD os)=some r:=hr
 unfold r84 at hr
 generalize hc:XaD os=C at hr
 replace hr:=dV.elim hr;obtain ⟨v0,l1,y0,rfl,e0,hr⟩:=hr;obtain rfl:=Xa1 _ _ e0
 replace hr:=Xc2 hr;obtain ⟨rfl,rfl,x,h,rfl⟩:=hr
 obtain rfl:=Xas hc
 exact ⟨_,rfl,XHQ hS _ x h⟩
def XaF:Xaa→Option Bool:=XfK
theorem Xrh:Xar Tryz.prog 84 (s84 XaF):=ok84 (Xai.XaW trivial)
def Xh2 (XaH:Int→Int→Option (List UInt8)) (XaF:Xaa→Option Bool) (a:Xaa):Option (List UInt8):=
 (XaF a).bind fun xr=>
 cond (!xr)
  (
  some ([]))
  (
  cond (a.V6)
   (
   (XaH a.Hi 8).bind fun p=>
   (XaH a.Lo 8).bind fun p1=>
   XaJ (decide (p.length+p1.length<2^63)) <|
   some (p++p1))
   (
   (XaH a.Lo 4).bind fun p2=>
   some (p2)))
def XAG (x:List UInt8):Xca:=⟨.string ⟨⟨x⟩⟩,[],[]⟩
def r141 (g:Xaa→Option (List UInt8)):Dec:=dV Xbp fun (y0:Xaa)=>XcO (ofG (g y0) XAG)
theorem YaL {g:Xaa→Option (List UInt8)} {y0:Xaa} {x:List UInt8} (hx:g y0=some x):r141 g [.agg ⟨[.bool y0.V6,.int .u64 y0.Hi,.int .u64 y0.Lo]⟩] []=some (XAG x):=(XaT (Xa8 _)).trans (Xa0 hx)
def XR4 (g:Xaa→Option (List UInt8)):Xbr:=⟨[.v],r141 g⟩
theorem Xhn {g:Xaa→Option (List UInt8)} {y0:Xaa} {x:List UInt8} (hx:g y0=some x):(XR4 g).run [.agg ⟨[.bool y0.V6,.int .u64 y0.Hi,.int .u64 y0.Lo]⟩] []=some (XAG x):=YaL hx
abbrev XvX (XaH:Int→Int→Option (List UInt8)) (XaF:Xaa→Option Bool):List (Nat×Xbr):=[(98,s98 XaH),(84,s84 XaF)]
theorem XA7 (XaH:Int→Int→Option (List UInt8)) (XaF:Xaa→Option Bool) (hS:Xai Tryz.prog (Xav (XvX XaH XaF))) (a:Xaa) (res:List UInt8) (h:Xh2 XaH XaF a=some res) :
 XaI Tryz.prog 141 0 ⟨⟨141,18,[(0,.agg ⟨[.bool a.V6,.int .u64 a.Hi,.int .u64 a.Lo]⟩)],[.code Xut],[],false,none⟩,[],[],0⟩ (fun v H _=>Res 0 (XAG res) v H):=by
 unfold Xh2 at h
 refine Xa7 Xao hS true 3000 ?_
 conv=>whnf
 replace h:=Xal.elim h;obtain ⟨xr,hy,h⟩:=h
 refine XaK.q rfl rfl (Xna hy) rfl rfl rfl ?_
 conv=>whnf
 refine br.h h ?_ ?_ ?_
 ·rfl
 ·clear h;intro hb h;conv=>whnf
  all_goals (cases h;exact Res.z rfl rfl rfl)
 clear h;intro hb h;conv=>whnf
 refine br.h2 h ?_ ?_ ?_
 ·rfl
 ·clear h;intro hb h;conv=>whnf
  replace h:=Xal.elim h;obtain ⟨p2,hy,h⟩:=h
  refine XaK.q rfl rfl (XjF hy) rfl rfl rfl ?_
  conv=>whnf
  all_goals (cases h;exact Res.z rfl rfl rfl)
 clear h;intro hb h;conv=>whnf
 replace h:=Xal.elim h;obtain ⟨p,hy,h⟩:=h
 refine XaK.q rfl rfl (XjF hy) rfl rfl rfl ?_
 conv=>whnf
 replace h:=Xal.elim h;obtain ⟨p1,hy,h⟩:=h
 refine XaK.q rfl rfl (XjF hy) rfl rfl rfl ?_
 conv=>whnf
 replace h:=XaJ.elim h;obtain ⟨hb,h⟩:=h
 first|(refine req.intro hb ?_;conv=>whnf)|skip
 all_goals (cases h;exact Res.z rfl rfl rfl)
theorem ok141 (XaH:Int→Int→Option (List UInt8)) (XaF:Xaa→Option Bool) (hS:Xai Tryz.prog (Xav (XvX XaH XaF))):Xar Tryz.prog 141 (XR4 (Xh2 XaH XaF)):=by
 refine Xar.Xay Xao (fun ar os r ha hr=>?_) ⟨Tryz.f141,rfl,by decide,rfl⟩
 replace hr:r141 (Xh2 XaH XaF) ar (XaD os)=some r:=hr
 unfold r141 at hr
 generalize hc:XaD os=C at hr
 replace hr:=dV.elim hr;obtain ⟨v0,l1,y0,rfl,e0,hr⟩:=hr;obtain rfl:=Xa1 _ _ e0
 replace hr:=Xc2 hr;obtain ⟨rfl,rfl,x,h,rfl⟩:=hr
 obtain rfl:=Xas hc
 exact ⟨_,rfl,XA7 XaH XaF hS _ x h⟩
def Xbj:Xaa→Option (List UInt8):=Xh2 XaH XaF
theorem Xp2:Xar Tryz.prog 141 (XR4 Xbj):=ok141 XaH XaF (Xai.XaW ⟨XmL,Xrh,trivial⟩)
def XbT (Xan:Int→Int→Option (List UInt8)) (l:List Int) (i:Int) (c:List Int):Option (Sum (Int×(List Int)) (List UInt8)):=
 let t:=decide ((wI .i64 (i+1))<(l.length:Int))
 cond (t)
  (
  XaJ (decide ((0:Int)≤i∧i<(l.length:Int))) <|
  (l[i.toNat]?).bind fun (e2:Int)=>
  XaJ (decide ((0:Int)≤(wI .i64 (i+1))∧(wI .i64 (i+1))<(l.length:Int))) <|
  (l[(wI .i64 (i+1)).toNat]?).bind fun (e3:Int)=>
  (Xan (wI .u64 e2) e3).bind fun p1=>
  XaJ (decide ((c.length+p1.length)*1≤2^47)) <|
  let row:=c++(bI p1)
  some (.inl (wI .i64 (i+2),row)))
  (
  XaJ (decide (c.length<2^63)) <|
  some (.inr (iB c)))
def XeV (Xan:Int→Int→Option (List UInt8)) (l:List Int):Option (List UInt8):=
 cond (decide (1<(l.length:Int)))
  (
  XaJ (decide ((0:Int)≤(0:Int)∧(0:Int)<(l.length:Int))) <|
  (l[0]?).bind fun (e:Int)=>
  XaJ (decide ((0:Int)≤(1:Int)∧(1:Int)<(l.length:Int))) <|
  (l[1]?).bind fun (e1:Int)=>
  (Xan (wI .u64 e) e1).bind fun p=>
  XaJ (decide (p.length*1≤2^47)) <|
  iter (fun st=>XbT Xan l st.1 st.2) FUEL (2,bI p))
  (
  some ([]))
def Xr9 (x:List UInt8):Xca:=⟨.string ⟨⟨x⟩⟩,[],[none]⟩
def r138 (g:(List Int)→Option (List UInt8)):Dec:=dSl 0 1 (unL (asI .i64)) fun (y0:List Int)=>XcO (ofG (g y0) Xr9)
theorem X3l {g:(List Int)→Option (List UInt8)} {y0:List Int} {x:List UInt8} (hx:g y0=some x):r138 g [.slice (some ⟨0,0,none⟩) y0.length 1] [some (vI .i64 y0)]=some (Xr9 x):=(XqN (XsI _ _)).trans (Xa0 hx)
def XWz (g:(List Int)→Option (List UInt8)):Xbr:=⟨[.sl 1],r138 g⟩
theorem Xoe {g:(List Int)→Option (List UInt8)} {y0:List Int} {x:List UInt8} (hx:g y0=some x):(XWz g).run [.slice (some ⟨0,0,none⟩) y0.length 1] [some (vI .i64 y0)]=some (Xr9 x):=X3l hx
abbrev Xqv (Xan:Int→Int→Option (List UInt8)):List (Nat×Xbr):=[(72,s72 Xan)]
def XiU (l:List Int) (i:Int) (c:List Int):VM:=
 ⟨⟨138, 25, [(0, .slice (some ⟨0, 0, none⟩) l.length 1), (3, .pointer (some ⟨1, 0, none⟩)), (4, .int .i64 i)], [.code XpI, .inLoop XpI, .inBlock 0, .code XuI], [], false, none⟩, [], [(0, .row false (vI .i64 l)), (1, .ty 191 [.pointer (some ⟨1, 0, none⟩), .func (.method "") ⟨[.slice (some ⟨12, 0, none⟩) c.length 1]⟩ ⟨[]⟩]), (12, .ty 5 (vI .u8 c))], 13⟩
theorem XuS (Xan:Int→Int→Option (List UInt8)) (hS:Xai Tryz.prog (Xav (Xqv Xan))) (l:List Int) (res:List UInt8):∀ fuel (st:Int×(List Int)) (o:List UInt8),iter (fun st=>XbT Xan l st.1 st.2) fuel st=some o→(o=res) →
 XaI Tryz.prog 138 1 (XiU l st.1 st.2) (fun v H _=>Res 1 (Xr9 res) v H):=by
 intro fuel st o h hc
 refine XbX (head:=fun st=>XiU l st.1 st.2) (C:=fun o=>(o=res)) ?_ fuel st o h hc
 clear h hc o st fuel
 intro st o h hc
 obtain ⟨i,c⟩:=st
 replace h:XbT Xan l i c=some o:=h
 show XaI Tryz.prog 138 1 (XiU l i c) (fun v H _=>Res 1 (Xr9 res) v H)
 unfold XbT at h
 refine Xa7 Xao hS true 3000 ?_
 conv=>whnf
 let t:Bool:=decide ((wI .i64 (i+1))<(l.length:Int))
 refine br.h2 h ?_ ?_ ?_
 ·rfl
 ·clear h;intro hb h;conv=>whnf
  replace h:=XaJ.elim h;obtain ⟨hb,h⟩:=h
  refine req.intro (XCY rfl (by first|rfl|(simp;done)) (by first|rfl|omega|(simp;done)|(simp;omega)|(simp at *;omega)) (of_decide_eq_true hb)) ?_
  conv=>whnf
  refine XYg ?_
  conv=>whnf
  all_goals (cases h;cases hc)
  all_goals exact Res.of [] rfl Xg3 (by decide) Xg1 (XBs Xg2)
 clear h;intro hb h;conv=>whnf
 replace h:=XaJ.elim h;obtain ⟨hb,h⟩:=h
 first|(refine req.intro hb ?_;conv=>whnf)|skip
 replace h:=Xal.elim h;obtain ⟨e2,hy,h⟩:=h
 refine rd.I hy (by first|rfl|(rw [Nat.zero_add,Nat.mul_one];try rfl;done)|omega) ?_
 conv=>whnf
 replace h:=XaJ.elim h;obtain ⟨hb,h⟩:=h
 first|(refine req.intro hb ?_;conv=>whnf)|skip
 replace h:=Xal.elim h;obtain ⟨e3,hy,h⟩:=h
 refine rd.I hy (by first|rfl|(rw [Nat.zero_add,Nat.mul_one];try rfl;done)|omega) ?_
 conv=>whnf
 replace h:=Xal.elim h;obtain ⟨p1,hy,h⟩:=h
 refine XaK.q rfl rfl (Xg0 hy) rfl rfl rfl ?_
 conv=>whnf
 replace h:=XaJ.elim h;obtain ⟨hb,h⟩:=h
 refine req.intro (Xqn (of_decide_eq_true hb) (by first|rfl|omega|(simp;done)|(simp;omega)|(simp at *;omega)) rfl rfl (by first|rfl|omega|(simp;done)|(simp;omega)|(simp at *;omega)) (by first|rfl|exact Xfq _ _|exact XhN _|exact XhV _|exact Xne (by first|exact Xeu|exact XdN|exact Xdm|exact XcT|exact Xc6|exact XcR|exact Xdu|exact Xex|exact Xe5|exact XeC|exact XdK|exact Xeq|exact Xe1) _|(rw [Xc4];exact Xfq _ _)|simp [Xfq,XhN,XhV,XiO,XiI,XjM,XjL]) rfl) ?_
 conv=>whnf
 let row:List Int:=c++(bI p1)
 refine XvJ (xs:=c) (ys:=bI p1) (Xc4 _) (by first|(simp;done)|(simp;omega)) (by first|(simp;done)|(simp;omega)) ?_
 conv=>whnf
 cases h;simp only [Sum.elim_inl,XiU] at hc
 exact Xj4 hc [(0,0),(1,1),(12,23)] rfl
theorem XAH (Xan:Int→Int→Option (List UInt8)) (hS:Xai Tryz.prog (Xav (Xqv Xan))) (l:List Int) (res:List UInt8) (h:XeV Xan l=some res) :
 XaI Tryz.prog 138 1 ⟨⟨138,25,[(0,.slice (some ⟨0,0,none⟩) l.length 1)],[.code XvQ],[],false,none⟩,[],[(0,.row false (vI .i64 l))],1⟩ (fun v H _=>Res 1 (Xr9 res) v H):=by
 unfold XeV at h
 refine Xa7 Xao hS true 3000 ?_
 conv=>whnf
 refine Xa7 Xao hS true 3000 ?_
 conv=>whnf
 refine br.h2 h ?_ ?_ ?_
 ·rfl
 ·clear h;intro hb h;conv=>whnf
  all_goals (cases h)
  all_goals exact Res.of [] rfl Xg3 (by decide) Xg1 (XBs Xg2)
 clear h;intro hb h;conv=>whnf
 replace h:=XaJ.elim h;obtain ⟨hb,h⟩:=h
 first|(refine req.intro hb ?_;conv=>whnf)|skip
 replace h:=Xal.elim h;obtain ⟨e,hy,h⟩:=h
 refine rd.I hy (by first|rfl|(rw [Nat.zero_add,Nat.mul_one];try rfl;done)|omega) ?_
 conv=>whnf
 replace h:=XaJ.elim h;obtain ⟨hb,h⟩:=h
 first|(refine req.intro hb ?_;conv=>whnf)|skip
 replace h:=Xal.elim h;obtain ⟨e1,hy,h⟩:=h
 refine rd.I hy (by first|rfl|(rw [Nat.zero_add,Nat.mul_one];try rfl;done)|omega) ?_
 conv=>whnf
 replace h:=Xal.elim h;obtain ⟨p,hy,h⟩:=h
 refine XaK.q rfl rfl (Xg0 hy) rfl rfl rfl ?_
 conv=>whnf
 replace h:=XaJ.elim h;obtain ⟨hb,h⟩:=h
 refine req.intro (Xq8 (of_decide_eq_true hb) (by first|rfl|omega|(simp;done)|(simp;omega)|(simp at *;omega)) rfl rfl) ?_
 conv=>whnf
 refine XsJ (ys:=bI p) (Xc4 _) (by first|rfl|(simp;done)|(simp;omega)) ?_
 conv=>whnf
 have hl:=XuS Xan hS _ res _ _ _ h rfl;simp only [XiU] at hl
 exact Xj4 hl [(0,0),(1,1),(12,12)] rfl
theorem ok138 (Xan:Int→Int→Option (List UInt8)) (hS:Xai Tryz.prog (Xav (Xqv Xan))):Xar Tryz.prog 138 (XWz (XeV Xan)):=by
 refine Xar.Xay Xao (fun ar os r ha hr=>?_) ⟨Tryz.f138,rfl,by decide,rfl⟩
 replace hr:r138 (XeV Xan) ar (XaD os)=some r:=hr
 unfold r138 at hr
 generalize hc:XaD os=C at hr
 have hq:=dSl.elim hr;clear hr;obtain ⟨c0,l1,C,y0,rfl,rfl,e0,hr⟩:=hq;obtain rfl:=Xt0 e0
 replace hr:=Xc2 hr;obtain ⟨rfl,rfl,x,h,rfl⟩:=hr
 obtain ⟨os,rfl,ha,hc⟩:=Xc5 ha hc
 obtain rfl:=Xas hc
 exact ⟨_,rfl,XAH Xan hS _ x h⟩
def Xa4:(List Int)→Option (List UInt8):=XeV Xan
theorem XtO:Xar Tryz.prog 138 (XWz Xa4):=ok138 Xan (Xai.XaW ⟨XmW,trivial⟩)
def XdM (Xa3:Xaa→Option (List UInt8)) (Xax:Xaa→Option Bool) (Xa4:(List Int)→Option (List UInt8)) (src:Xaa) (dst:Xaa) (proto:Int) (n:Int):Option (List UInt8):=
 (Xax src).bind fun xr=>
 cond (!xr)
  (
  some ([]))
  (
  (Xax dst).bind fun xr1=>
  cond (!xr1)
   (
   some ([]))
   (
   cond (!(src.V6==dst.V6))
    (
    some ([]))
    (
    (Xa3 src).bind fun p=>
    (Xa3 dst).bind fun p1=>
    XaJ (decide (p.length+p1.length<2^63)) <|
    cond (src.V6)
     (
     (Xa4 [n,4,0,3,proto,1]).bind fun xr2=>
     XaJ (decide ((p++p1).length+xr2.length<2^63)) <|
     some ((p++p1)++xr2))
     (
     (Xa4 [0,1,proto,1,n,2]).bind fun xr3=>
     XaJ (decide ((p++p1).length+xr3.length<2^63)) <|
     some ((p++p1)++xr3)))))
def Xyp (x:List UInt8):Xca:=⟨.string ⟨⟨x⟩⟩,[],[]⟩
def r125 (g:Xaa→Xaa→Int→Int→Option (List UInt8)):Dec:=dV Xbp fun (y0:Xaa)=>dV Xbp fun (y1:Xaa)=>dV (asI .i64) fun (y2:Int)=>dV (asI .i64) fun (y3:Int)=>XcO (ofG (g y0 y1 y2 y3) Xyp)
theorem XZ1 {g:Xaa→Xaa→Int→Int→Option (List UInt8)} {y0:Xaa} {y1:Xaa} {y2:Int} {y3:Int} {x:List UInt8} (hx:g y0 y1 y2 y3=some x):r125 g [.agg ⟨[.bool y0.V6,.int .u64 y0.Hi,.int .u64 y0.Lo]⟩,.agg ⟨[.bool y1.V6,.int .u64 y1.Hi,.int .u64 y1.Lo]⟩,.int .i64 y2,.int .i64 y3] []=some (Xyp x):=(XaT (Xa8 _)).trans ((XaT (Xa8 _)).trans ((XaT (Xc3 _)).trans ((XaT (Xc3 _)).trans (Xa0 hx))))
def XE8 (g:Xaa→Xaa→Int→Int→Option (List UInt8)):Xbr:=⟨[.v,.v,.v,.v],r125 g⟩
theorem Xno {g:Xaa→Xaa→Int→Int→Option (List UInt8)} {y0:Xaa} {y1:Xaa} {y2:Int} {y3:Int} {x:List UInt8} (hx:g y0 y1 y2 y3=some x):(XE8 g).run [.agg ⟨[.bool y0.V6,.int .u64 y0.Hi,.int .u64 y0.Lo]⟩,.agg ⟨[.bool y1.V6,.int .u64 y1.Hi,.int .u64 y1.Lo]⟩,.int .i64 y2,.int .i64 y3] []=some (Xyp x):=XZ1 hx
abbrev Xu4 (Xa3:Xaa→Option (List UInt8)) (Xax:Xaa→Option Bool) (Xa4:(List Int)→Option (List UInt8)):List (Nat×Xbr):=[(136,XR9 Xa3),(81,s81 Xax),(138,XWz Xa4)]
theorem Xxy (Xa3:Xaa→Option (List UInt8)) (Xax:Xaa→Option Bool) (Xa4:(List Int)→Option (List UInt8)) (hS:Xai Tryz.prog (Xav (Xu4 Xa3 Xax Xa4))) (src:Xaa) (dst:Xaa) (proto:Int) (n:Int) (res:List UInt8) (h:XdM Xa3 Xax Xa4 src dst proto n=some res) :
 XaI Tryz.prog 125 0 ⟨⟨125,44,[(0,.agg ⟨[.bool src.V6,.int .u64 src.Hi,.int .u64 src.Lo]⟩),(1,.agg ⟨[.bool dst.V6,.int .u64 dst.Hi,.int .u64 dst.Lo]⟩),(2,.int .i64 proto),(3,.int .i64 n)],[.code Xu6],[],false,none⟩,[],[],0⟩ (fun v H _=>Res 0 (Xyp res) v H):=by
 unfold XdM at h
 refine Xa7 Xao hS true 3000 ?_
 conv=>whnf
 replace h:=Xal.elim h;obtain ⟨xr,hy,h⟩:=h
 refine XaK.q rfl rfl (Xlg hy) rfl rfl rfl ?_
 conv=>whnf
 refine br.h h ?_ ?_ ?_
 ·rfl
 ·clear h;intro hb h;conv=>whnf
  all_goals (cases h;exact Res.z rfl rfl rfl)
 clear h;intro hb h;conv=>whnf
 replace h:=Xal.elim h;obtain ⟨xr1,hy,h⟩:=h
 refine XaK.q rfl rfl (Xlg hy) rfl rfl rfl ?_
 conv=>whnf
 refine br.h h ?_ ?_ ?_
 ·rfl
 ·clear h;intro hb h;conv=>whnf
  all_goals (cases h;exact Res.z rfl rfl rfl)
 clear h;intro hb h;conv=>whnf
 refine br.h h ?_ ?_ ?_
 ·rfl
 ·clear h;intro hb h;conv=>whnf
  all_goals (cases h;exact Res.z rfl rfl rfl)
 clear h;intro hb h;conv=>whnf
 replace h:=Xal.elim h;obtain ⟨p,hy,h⟩:=h
 refine XaK.q rfl rfl (XiW hy) rfl rfl rfl ?_
 conv=>whnf
 replace h:=Xal.elim h;obtain ⟨p1,hy,h⟩:=h
 refine XaK.q rfl rfl (XiW hy) rfl rfl rfl ?_
 conv=>whnf
 replace h:=XaJ.elim h;obtain ⟨hb,h⟩:=h
 first|(refine req.intro hb ?_;conv=>whnf)|skip
 refine br.h h ?_ ?_ ?_
 ·rfl
 ·clear h;intro hb h;conv=>whnf
  replace h:=Xal.elim h;obtain ⟨xr2,hy,h⟩:=h
  refine XaK.Xbb [] (Xaw (aqs:=[.slice (some ⟨0,0,none⟩) ([n,4,0,3,proto,1]:List Int).length 1]) (ws:=[.win 5 0 (6*1) false]) (n:=0) (m:=0) (t':=6) (Xau (by first|rfl|exact XjX rfl rfl (by first|rfl|omega) (by first|rfl|(simp;done))|exact Xle rfl rfl (by first|rfl|omega) (by first|rfl|omega) (by first|omega|(simp at *;omega))) rfl Xbf) rfl (by rfl) (Xoe hy) rfl rfl rfl rfl (XiT rfl Xbe) Xbc rfl) ?_
  conv=>whnf
  replace h:=XaJ.elim h;obtain ⟨hb,h⟩:=h
  first|(refine req.intro hb ?_;conv=>whnf)|skip
  all_goals (cases h;exact Res.z rfl rfl rfl)
 clear h;intro hb h;conv=>whnf
 replace h:=Xal.elim h;obtain ⟨xr3,hy,h⟩:=h
 refine XaK.Xbb [] (Xaw (aqs:=[.slice (some ⟨0,0,none⟩) ([0,1,proto,1,n,2]:List Int).length 1]) (ws:=[.win 5 0 (6*1) false]) (n:=0) (m:=0) (t':=6) (Xau (by first|rfl|exact XjX rfl rfl (by first|rfl|omega) (by first|rfl|(simp;done))|exact Xle rfl rfl (by first|rfl|omega) (by first|rfl|omega) (by first|omega|(simp at *;omega))) rfl Xbf) rfl (by rfl) (Xoe hy) rfl rfl rfl rfl (XiT rfl Xbe) Xbc rfl) ?_
 conv=>whnf
 replace h:=XaJ.elim h;obtain ⟨hb,h⟩:=h
 first|(refine req.intro hb ?_;conv=>whnf)|skip
 all_goals (cases h;exact Res.z rfl rfl rfl)
theorem ok125 (Xa3:Xaa→Option (List UInt8)) (Xax:Xaa→Option Bool) (Xa4:(List Int)→Option (List UInt8)) (hS:Xai Tryz.prog (Xav (Xu4 Xa3 Xax Xa4))):Xar Tryz.prog 125 (XE8 (XdM Xa3 Xax Xa4)):=by
 refine Xar.Xay Xao (fun ar os r ha hr=>?_) ⟨Tryz.f125,rfl,by decide,rfl⟩
 replace hr:r125 (XdM Xa3 Xax Xa4) ar (XaD os)=some r:=hr
 unfold r125 at hr
 generalize hc:XaD os=C at hr
 replace hr:=dV.elim hr;obtain ⟨v0,l1,y0,rfl,e0,hr⟩:=hr;obtain rfl:=Xa1 _ _ e0
 replace hr:=dV.elim hr;obtain ⟨v1,l2,y1,rfl,e1,hr⟩:=hr;obtain rfl:=Xa1 _ _ e1
 replace hr:=dV.elim hr;obtain ⟨v2,l3,y2,rfl,e2,hr⟩:=hr;obtain rfl:=XbS _ _ _ e2
 replace hr:=dV.elim hr;obtain ⟨v3,l4,y3,rfl,e3,hr⟩:=hr;obtain rfl:=XbS _ _ _ e3
 replace hr:=Xc2 hr;obtain ⟨rfl,rfl,x,h,rfl⟩:=hr
 obtain rfl:=Xas hc
 exact ⟨_,rfl,Xxy Xa3 Xax Xa4 hS _ _ _ _ x h⟩
def Xap:Xaa→Xaa→Int→Int→Option (List UInt8):=XdM Xa3 Xax Xa4
theorem XnE:Xar Tryz.prog 125 (XE8 Xap):=ok125 Xa3 Xax Xa4 (Xai.XaW ⟨Xqh,XqR,XtO,trivial⟩)
def Xh7 (XaH:Int→Int→Option (List UInt8)) (n:Int) (k:Int):Option (List UInt8):=
 (XaH (wI .u64 n) k).bind fun p=>
 some (p)
def XAN (x:List UInt8):Xca:=⟨.string ⟨⟨x⟩⟩,[],[]⟩
def r143 (g:Int→Int→Option (List UInt8)):Dec:=dV (asI .i64) fun (y0:Int)=>dV (asI .i64) fun (y1:Int)=>XcO (ofG (g y0 y1) XAN)
theorem X90 {g:Int→Int→Option (List UInt8)} {y0:Int} {y1:Int} {x:List UInt8} (hx:g y0 y1=some x):r143 g [.int .i64 y0,.int .i64 y1] []=some (XAN x):=(XaT (Xc3 _)).trans ((XaT (Xc3 _)).trans (Xa0 hx))
def X5U (g:Int→Int→Option (List UInt8)):Xbr:=⟨[.v,.v],r143 g⟩
theorem XcN {g:Int→Int→Option (List UInt8)} {y0:Int} {y1:Int} {x:List UInt8} (hx:g y0 y1=some x):(X5U g).run [.int .i64 y0,.int .i64 y1] []=some (XAN x):=X90 hx
abbrev Xt1 (XaH:Int→Int→Option (List UInt8)):List (Nat×Xbr):=[(98,s98 XaH)]
theorem Xzl (XaH:Int→Int→Option (List UInt8)) (hS:Xai Tryz.prog (Xav (Xt1 XaH))) (n:Int) (k:Int) (res:List UInt8) (h:Xh7 XaH n k=some res) :
 XaI Tryz.prog 143 0 ⟨⟨143,9,[(0,.int .i64 n),(1,.int .i64 k)],[.code XBl],[],false,none⟩,[],[],0⟩ (fun v H _=>Res 0 (XAN res) v H):=by
 unfold Xh7 at h
 refine Xa7 Xao hS true 3000 ?_
 conv=>whnf
 replace h:=Xal.elim h;obtain ⟨p,hy,h⟩:=h
 refine XaK.q rfl rfl (XjF hy) rfl rfl rfl ?_
 conv=>whnf
 all_goals (cases h;exact Res.z rfl rfl rfl)
theorem ok143 (XaH:Int→Int→Option (List UInt8)) (hS:Xai Tryz.prog (Xav (Xt1 XaH))):Xar Tryz.prog 143 (X5U (Xh7 XaH)):=by
 refine Xar.Xay Xao (fun ar os r ha hr=>?_) ⟨Tryz.f143,rfl,by decide,rfl⟩
 replace hr:r143 (Xh7 XaH) ar (XaD os)=some r:=hr
 unfold r143 at hr
 generalize hc:XaD os=C at hr
 replace hr:=dV.elim hr;obtain ⟨v0,l1,y0,rfl,e0,hr⟩:=hr;obtain rfl:=XbS _ _ _ e0
 replace hr:=dV.elim hr;obtain ⟨v1,l2,y1,rfl,e1,hr⟩:=hr;obtain rfl:=XbS _ _ _ e1
 replace hr:=Xc2 hr;obtain ⟨rfl,rfl,x,h,rfl⟩:=hr
 obtain rfl:=Xas hc
 exact ⟨_,rfl,Xzl XaH hS _ _ x h⟩
def Xbi:Int→Int→Option (List UInt8):=Xh7 XaH
theorem Xux:Xar Tryz.prog 143 (X5U Xbi):=ok143 XaH (Xai.XaW ⟨XmL,trivial⟩)
def XfU (Xbj:Xaa→Option (List UInt8)) (XaF:Xaa→Option Bool) (Xbi:Int→Int→Option (List UInt8)) (src:Xaa) (dst:Xaa) (proto:Int) (n:Int):Option (List UInt8):=
 (XaF src).bind fun xr=>
 cond (!xr)
  (
  some ([]))
  (
  (XaF dst).bind fun xr1=>
  cond (!xr1)
   (
   some ([]))
   (
   cond (!(src.V6==dst.V6))
    (
    some ([]))
    (
    cond (src.V6)
     (
     (Xbj src).bind fun p=>
     (Xbj dst).bind fun p1=>
     XaJ (decide (p.length+p1.length<2^63)) <|
     (Xbi n 4).bind fun n1=>
     XaJ (decide ((p++p1).length+n1.length<2^63)) <|
     (Xbi 0 3).bind fun n2=>
     XaJ (decide (((p++p1)++n1).length+n2.length<2^63)) <|
     (Xbi proto 1).bind fun n3=>
     XaJ (decide ((((p++p1)++n1)++n2).length+n3.length<2^63)) <|
     some ((((p++p1)++n1)++n2)++n3))
     (
     (Xbj src).bind fun p2=>
     (Xbj dst).bind fun p3=>
     XaJ (decide (p2.length+p3.length<2^63)) <|
     (Xbi 0 1).bind fun n4=>
     XaJ (decide ((p2++p3).length+n4.length<2^63)) <|
     (Xbi proto 1).bind fun n5=>
     XaJ (decide (((p2++p3)++n4).length+n5.length<2^63)) <|
     (Xbi n 2).bind fun n6=>
     XaJ (decide ((((p2++p3)++n4)++n5).length+n6.length<2^63)) <|
     some ((((p2++p3)++n4)++n5)++n6)))))
def XAS (x:List UInt8):Xca:=⟨.string ⟨⟨x⟩⟩,[],[]⟩
def r129 (g:Xaa→Xaa→Int→Int→Option (List UInt8)):Dec:=dV Xbp fun (y0:Xaa)=>dV Xbp fun (y1:Xaa)=>dV (asI .i64) fun (y2:Int)=>dV (asI .i64) fun (y3:Int)=>XcO (ofG (g y0 y1 y2 y3) XAS)
theorem Yc7 {g:Xaa→Xaa→Int→Int→Option (List UInt8)} {y0:Xaa} {y1:Xaa} {y2:Int} {y3:Int} {x:List UInt8} (hx:g y0 y1 y2 y3=some x):r129 g [.agg ⟨[.bool y0.V6,.int .u64 y0.Hi,.int .u64 y0.Lo]⟩,.agg ⟨[.bool y1.V6,.int .u64 y1.Hi,.int .u64 y1.Lo]⟩,.int .i64 y2,.int .i64 y3] []=some (XAS x):=(XaT (Xa8 _)).trans ((XaT (Xa8 _)).trans ((XaT (Xc3 _)).trans ((XaT (Xc3 _)).trans (Xa0 hx))))
def XOt (g:Xaa→Xaa→Int→Int→Option (List UInt8)):Xbr:=⟨[.v,.v,.v,.v],r129 g⟩
theorem Xob {g:Xaa→Xaa→Int→Int→Option (List UInt8)} {y0:Xaa} {y1:Xaa} {y2:Int} {y3:Int} {x:List UInt8} (hx:g y0 y1 y2 y3=some x):(XOt g).run [.agg ⟨[.bool y0.V6,.int .u64 y0.Hi,.int .u64 y0.Lo]⟩,.agg ⟨[.bool y1.V6,.int .u64 y1.Hi,.int .u64 y1.Lo]⟩,.int .i64 y2,.int .i64 y3] []=some (XAS x):=Yc7 hx
abbrev Xtu (Xbj:Xaa→Option (List UInt8)) (XaF:Xaa→Option Bool) (Xbi:Int→Int→Option (List UInt8)):List (Nat×Xbr):=[(141,XR4 Xbj),(84,s84 XaF),(143,X5U Xbi)]
theorem Xxp (Xbj:Xaa→Option (List UInt8)) (XaF:Xaa→Option Bool) (Xbi:Int→Int→Option (List UInt8)) (hS:Xai Tryz.prog (Xav (Xtu Xbj XaF Xbi))) (src:Xaa) (dst:Xaa) (proto:Int) (n:Int) (res:List UInt8) (h:XfU Xbj XaF Xbi src dst proto n=some res) :
 XaI Tryz.prog 129 0 ⟨⟨129,52,[(0,.agg ⟨[.bool src.V6,.int .u64 src.Hi,.int .u64 src.Lo]⟩),(1,.agg ⟨[.bool dst.V6,.int .u64 dst.Hi,.int .u64 dst.Lo]⟩),(2,.int .i64 proto),(3,.int .i64 n)],[.code Xva],[],false,none⟩,[],[],0⟩ (fun v H _=>Res 0 (XAS res) v H):=by
 unfold XfU at h
 refine Xa7 Xao hS true 3000 ?_
 conv=>whnf
 replace h:=Xal.elim h;obtain ⟨xr,hy,h⟩:=h
 refine XaK.q rfl rfl (Xna hy) rfl rfl rfl ?_
 conv=>whnf
 refine br.h h ?_ ?_ ?_
 ·rfl
 ·clear h;intro hb h;conv=>whnf
  all_goals (cases h;exact Res.z rfl rfl rfl)
 clear h;intro hb h;conv=>whnf
 replace h:=Xal.elim h;obtain ⟨xr1,hy,h⟩:=h
 refine XaK.q rfl rfl (Xna hy) rfl rfl rfl ?_
 conv=>whnf
 refine br.h h ?_ ?_ ?_
 ·rfl
 ·clear h;intro hb h;conv=>whnf
  all_goals (cases h;exact Res.z rfl rfl rfl)
 clear h;intro hb h;conv=>whnf
 refine br.h h ?_ ?_ ?_
 ·rfl
 ·clear h;intro hb h;conv=>whnf
  all_goals (cases h;exact Res.z rfl rfl rfl)
 clear h;intro hb h;conv=>whnf
 refine br.h h ?_ ?_ ?_
 ·rfl
 ·clear h;intro hb h;conv=>whnf
  replace h:=Xal.elim h;obtain ⟨p,hy,h⟩:=h
  refine XaK.q rfl rfl (Xhn hy) rfl rfl rfl ?_
  conv=>whnf
  replace h:=Xal.elim h;obtain ⟨p1,hy,h⟩:=h
  refine XaK.q rfl rfl (Xhn hy) rfl rfl rfl ?_
  conv=>whnf
  replace h:=XaJ.elim h;obtain ⟨hb,h⟩:=h
  first|(refine req.intro hb ?_;conv=>whnf)|skip
  replace h:=Xal.elim h;obtain ⟨n1,hy,h⟩:=h
  refine XaK.q rfl rfl (XcN hy) rfl rfl rfl ?_
  conv=>whnf
  replace h:=XaJ.elim h;obtain ⟨hb,h⟩:=h
  first|(refine req.intro hb ?_;conv=>whnf)|skip
  replace h:=Xal.elim h;obtain ⟨n2,hy,h⟩:=h
  refine XaK.q rfl rfl (XcN hy) rfl rfl rfl ?_
  conv=>whnf
  replace h:=XaJ.elim h;obtain ⟨hb,h⟩:=h
  first|(refine req.intro hb ?_;conv=>whnf)|skip
  replace h:=Xal.elim h;obtain ⟨n3,hy,h⟩:=h
  refine XaK.q rfl rfl (XcN hy) rfl rfl rfl ?_
  conv=>whnf
  replace h:=XaJ.elim h;obtain ⟨hb,h⟩:=h
  first|(refine req.intro hb ?_;conv=>whnf)|skip
  all_goals (cases h;exact Res.z rfl rfl rfl)
 clear h;intro hb h;conv=>whnf
 replace h:=Xal.elim h;obtain ⟨p2,hy,h⟩:=h
 refine XaK.q rfl rfl (Xhn hy) rfl rfl rfl ?_
 conv=>whnf
 replace h:=Xal.elim h;obtain ⟨p3,hy,h⟩:=h
 refine XaK.q rfl rfl (Xhn hy) rfl rfl rfl ?_
 conv=>whnf
 replace h:=XaJ.elim h;obtain ⟨hb,h⟩:=h
 first|(refine req.intro hb ?_;conv=>whnf)|skip
 replace h:=Xal.elim h;obtain ⟨n4,hy,h⟩:=h
 refine XaK.q rfl rfl (XcN hy) rfl rfl rfl ?_
 conv=>whnf
 replace h:=XaJ.elim h;obtain ⟨hb,h⟩:=h
 first|(refine req.intro hb ?_;conv=>whnf)|skip
 replace h:=Xal.elim h;obtain ⟨n5,hy,h⟩:=h
 refine XaK.q rfl rfl (XcN hy) rfl rfl rfl ?_
 conv=>whnf
 replace h:=XaJ.elim h;obtain ⟨hb,h⟩:=h
 first|(refine req.intro hb ?_;conv=>whnf)|skip
 replace h:=Xal.elim h;obtain ⟨n6,hy,h⟩:=h
 refine XaK.q rfl rfl (XcN hy) rfl rfl rfl ?_
 conv=>whnf
 replace h:=XaJ.elim h;obtain ⟨hb,h⟩:=h
 first|(refine req.intro hb ?_;conv=>whnf)|skip
 all_goals (cases h;exact Res.z rfl rfl rfl)
theorem ok129 (Xbj:Xaa→Option (List UInt8)) (XaF:Xaa→Option Bool) (Xbi:Int→Int→Option (List UInt8)) (hS:Xai Tryz.prog (Xav (Xtu Xbj XaF Xbi))):Xar Tryz.prog 129 (XOt (XfU Xbj XaF Xbi)):=by
 refine Xar.Xay Xao (fun ar os r ha hr=>?_) ⟨Tryz.f129,rfl,by decide,rfl⟩
 replace hr:r129 (XfU Xbj XaF Xbi) ar (XaD os)=some r:=hr
 unfold r129 at hr
 generalize hc:XaD os=C at hr
 replace hr:=dV.elim hr;obtain ⟨v0,l1,y0,rfl,e0,hr⟩:=hr;obtain rfl:=Xa1 _ _ e0
 replace hr:=dV.elim hr;obtain ⟨v1,l2,y1,rfl,e1,hr⟩:=hr;obtain rfl:=Xa1 _ _ e1
 replace hr:=dV.elim hr;obtain ⟨v2,l3,y2,rfl,e2,hr⟩:=hr;obtain rfl:=XbS _ _ _ e2
 replace hr:=dV.elim hr;obtain ⟨v3,l4,y3,rfl,e3,hr⟩:=hr;obtain rfl:=XbS _ _ _ e3
 replace hr:=Xc2 hr;obtain ⟨rfl,rfl,x,h,rfl⟩:=hr
 obtain rfl:=Xas hc
 exact ⟨_,rfl,Xxp Xbj XaF Xbi hS _ _ _ _ x h⟩
def XaB:Xaa→Xaa→Int→Int→Option (List UInt8):=XfU Xbj XaF Xbi
theorem Xnk:Xar Tryz.prog 129 (XOt XaB):=ok129 Xbj XaF Xbi (Xai.XaW ⟨Xp2,Xrh,Xux,trivial⟩)
end Go.Vm.Code
namespace Go.Vm.Code
open Go Go.Vm
def A4 (a:Xaa):Prop:=0≤a.Hi∧a.Hi<2^64∧0≤a.Lo∧a.Lo<2^64
def aok (a:Xaa):Bool:=a.V6||(a.Hi==0&&decide (a.Lo<4294967296))
theorem XhI (a:Xaa):Xax a=some (aok a):=by
 unfold Xax XeW aok
 cases a.V6
 ·cases (a.Hi==0)<;>rfl
 ·rfl
theorem XgP (a:Xaa):XaF a=some (aok a):=by
 unfold XaF XfK aok
 cases a.V6
 ·cases (a.Hi==0)<;>rfl
 ·rfl
def Xco (a:Xaa):List UInt8:=cond a.V6 (be a.Hi.toNat 8++be a.Lo.toNat 8) (be a.Lo.toNat 4)
theorem Xc9 (a:Xaa):(Xco a).length=cond a.V6 16 4:=by unfold Xco;cases a.V6<;>simp
theorem Xgn {n:Int} {k:Nat} (h:1≤k∧k≤8):XbV n (k:Int)=be n.toNat k:=by unfold XbV;rw [if_pos (by omega)];rfl
theorem Xnl {a:Xaa} (h:A4 a) (hr:aok a=true):Xa3 a=some (Xco a):=by
 obtain ⟨h1,h2,h3,h4⟩:=h
 unfold Xa3 XgU Xco
 rw [XhI,Option.bind_some,hr]
 simp only [Bool.not_true,cond_false]
 cases a.V6
 ·simp only [cond_false]
  rw [Xbq h3,Option.bind_some,show (4:Int)=((4:Nat):Int) from rfl,Xgn (by omega)]
 ·simp only [cond_true]
  rw [Xbq h1,Option.bind_some,Xbq h3,Option.bind_some,show (8:Int)=((8:Nat):Int) from rfl,Xgn (by omega),Xgn (by omega),Xaz (by simp)]
theorem Xly {a:Xaa} (h:A4 a) (hr:aok a=true):Xbj a=some (Xco a):=by
 obtain ⟨h1,h2,h3,h4⟩:=h
 unfold Xbj Xh2 Xco
 rw [XgP,Option.bind_some,hr]
 simp only [Bool.not_true,cond_false]
 cases a.V6
 ·simp only [cond_false]
  rw [XcP h3 h4,Option.bind_some,show (4:Int)=((4:Nat):Int) from rfl,Xgn (by omega)]
 ·simp only [cond_true]
  rw [XcP h1 h2,Option.bind_some,XcP h3 h4,Option.bind_some,show (8:Int)=((8:Nat):Int) from rfl,Xgn (by omega),Xgn (by omega),Xaz (by simp)]
theorem Xmg {n k:Int} (h0:0≤n) (h1:n<2^63):Xbi n k=some (XbV n k):=by
 unfold Xbi Xh7
 rw [XeJ h0 (by omega),XcP h0 (by omega)];rfl
theorem XaY (n k:Int):(XbV n k).length≤8:=by unfold XbV;split<;>simp<;>omega
theorem XAP (s:List UInt8):iB (bI s)=s:=by simp [iB,bI,List.map_map,Function.comp_def]
theorem X7c (a b:List Int):iB (a++b)=iB a++iB b:=by simp [iB]
theorem Xm3 (a b:List UInt8):bI (a++b)=bI a++bI b:=by simp [bI]
theorem Xkg {σ ρ:Type} {f:σ→Option (Sum σ ρ)} {n:Nat} {s s':σ} (h:f s=some (.inl s')):iter f (n+1) s=iter f n s':=by rw [iter,h]
theorem Xrd {σ ρ:Type} {f:σ→Option (Sum σ ρ)} {n:Nat} {s:σ} {r:ρ} (h:f s=some (.inr r)):iter f (n+1) s=some r:=by rw [iter,h]
theorem Xo4:∃ n,FUEL=n+8:=⟨18446744073709551608,rfl⟩
theorem XBH {a b c d e f:Int} (ha:0≤a) (hc:0≤c) (he:0≤e) (ha1:a<2^63) (hc1:c<2^63) (he1:e<2^63):Xa4 [a,b,c,d,e,f]=some (XbV a b++XbV c d++XbV e f):=by
 have l1:=XaY a b
 have l2:=XaY c d
 have l3:=XaY e f
 unfold Xa4 XeV
 rw [XaS (by simp),Xaz (by simp)]
 show ((some a).bind _)=_
 rw [Option.bind_some,Xaz (by simp)]
 show ((some b).bind _)=_
 rw [Option.bind_some,XeJ ha (by omega),Xbq ha,Option.bind_some,Xaz (by omega)]
 obtain ⟨n,hn⟩:=Xo4
 rw [hn]
 have s1:XbT Xan [a,b,c,d,e,f] 2 (bI (XbV a b))=some (.inl (4,bI (XbV a b++XbV c d))):=by
  unfold XbT
  simp only []
  rw [XaS (by rw [show wI .i64 (2+1)=3 from rfl];simp),Xaz (by simp)]
  show ((some c).bind _)=_
  rw [Option.bind_some,Xaz (by rw [show wI .i64 (2+1)=3 from rfl];simp)]
  show ((some d).bind _)=_
  rw [Option.bind_some,XeJ hc (by omega),Xbq hc,Option.bind_some,Xaz (by simp;omega),Xm3];rfl
 have s2:XbT Xan [a,b,c,d,e,f] 4 (bI (XbV a b++XbV c d))=some (.inl (6,bI (XbV a b++XbV c d++XbV e f))):=by
  unfold XbT
  simp only []
  rw [XaS (by rw [show wI .i64 (4+1)=5 from rfl];simp),Xaz (by simp)]
  show ((some e).bind _)=_
  rw [Option.bind_some,Xaz (by rw [show wI .i64 (4+1)=5 from rfl];simp)]
  show ((some f).bind _)=_
  rw [Option.bind_some,XeJ he (by omega),Xbq he,Option.bind_some,Xaz (by simp;omega),Xm3 (XbV a b++XbV c d)];rfl
 have s3:XbT Xan [a,b,c,d,e,f] 6 (bI (XbV a b++XbV c d++XbV e f))=some (.inr (XbV a b++XbV c d++XbV e f)):=by
  unfold XbT
  simp only []
  rw [XaO (by rw [show wI .i64 (6+1)=7 from rfl];simp),Xaz (by simp;omega),XAP]
 rw [Xkg (f:=fun (st:Int×List Int)=>XbT Xan [a,b,c,d,e,f] st.1 st.2) (n:=n+7) s1,Xkg (n:=n+6) s2,Xrd (n:=n+5) s3]
def Xln (src dst:Xaa) (p n:Int):List UInt8:=
 if aok src=true∧aok dst=true∧src.V6=dst.V6 then Xco src++Xco dst++cond src.V6 (XbV n 4++XbV 0 3++XbV p 1) (XbV 0 1++XbV p 1++XbV n 2) else []
theorem Xhe (src dst:Xaa) (p n:Int):(Xln src dst p n).length≤56:=by
 have l1:=XaY n 4
 have l2:=XaY 0 3
 have l3:=XaY p 1
 have l4:=XaY 0 1
 have l5:=XaY n 2
 unfold Xln
 split
 ·rw [List.length_append,List.length_append,Xc9,Xc9]
  cases src.V6<;>cases dst.V6<;>simp<;>omega
 ·simp
theorem Xj5 {src dst:Xaa} {p n:Int} (h1:A4 src) (h2:A4 dst) (hp:0≤p∧p<2^63) (hn:0≤n∧n<2^63):Xap src dst p n=some (Xln src dst p n):=by
 unfold Xap XdM Xln
 rw [XhI,XhI,Option.bind_some]
 cases e1:aok src
 ·simp
 simp only [Bool.not_true,cond_false,Option.bind_some]
 cases e2:aok dst
 ·simp
 simp only [Bool.not_true,cond_false]
 by_cases e3:src.V6=dst.V6
 ·rw [if_pos (by simpa using e3),show (src.V6==dst.V6)=true by simpa using e3]
  simp only [Bool.not_true,cond_false]
  have l1:=Xc9 src
  have l2:=Xc9 dst
  rw [Xnl h1 e1,Option.bind_some,Xnl h2 e2,Option.bind_some,Xaz (by rw [l1,l2];cases src.V6<;>cases dst.V6<;>decide)]
  rw [XBH hn.1 (by omega) hp.1 hn.2 (by omega) hp.2,XBH (by omega) hp.1 hn.1 (by omega) hp.2 hn.2]
  have m1:=XaY n 4
  have m2:=XaY 0 3
  have m3:=XaY p 1
  have m4:=XaY 0 1
  have m5:=XaY n 2
  have b1:(Xco src).length≤16:=by rw [l1];cases src.V6<;>decide
  have b2:(Xco dst).length≤16:=by rw [l2];cases dst.V6<;>decide
  cases src.V6
  ·simp only [cond_false,Option.bind_some]
   rw [Xaz (by simp only [List.length_append];omega)]
  ·simp only [cond_true,Option.bind_some]
   rw [Xaz (by simp only [List.length_append];omega)]
 ·rw [if_neg (fun h=>e3 h.2.2),show (src.V6==dst.V6)=false by simpa using e3];rfl
theorem Xi3 {src dst:Xaa} {p n:Int} (h1:A4 src) (h2:A4 dst) (hp:0≤p∧p<2^63) (hn:0≤n∧n<2^63):XaB src dst p n=some (Xln src dst p n):=by
 unfold XaB XfU Xln
 rw [XgP,XgP,Option.bind_some]
 cases e1:aok src
 ·simp
 simp only [Bool.not_true,cond_false,Option.bind_some]
 cases e2:aok dst
 ·simp
 simp only [Bool.not_true,cond_false]
 by_cases e3:src.V6=dst.V6
 ·rw [if_pos (by simpa using e3),show (src.V6==dst.V6)=true by simpa using e3]
  simp only [Bool.not_true,cond_false]
  have l1:=Xc9 src
  have l2:=Xc9 dst
  have m1:=XaY n 4
  have m2:=XaY 0 3
  have m3:=XaY p 1
  have m4:=XaY 0 1
  have m5:=XaY n 2
  have b1:(Xco src).length≤16:=by rw [l1];cases src.V6<;>decide
  have b2:(Xco dst).length≤16:=by rw [l2];cases dst.V6<;>decide
  rw [Xly h1 e1,Xly h2 e2,Xmg hn.1 hn.2,Xmg (n:=0) (k:=3) (by omega) (by omega),Xmg hp.1 hp.2,Xmg (n:=0) (k:=1) (by omega) (by omega),Xmg hn.1 hn.2]
  cases src.V6
  ·simp only [cond_false,Option.bind_some]
   rw [Xaz (by omega),Xaz (by simp only [List.length_append];omega),Xaz (by simp only [List.length_append];omega),Xaz (by simp only [List.length_append];omega)]
   simp only [List.append_assoc]
  ·simp only [cond_true,Option.bind_some]
   rw [Xaz (by omega),Xaz (by simp only [List.length_append];omega),Xaz (by simp only [List.length_append];omega),Xaz (by simp only [List.length_append];omega)]
   simp only [List.append_assoc]
 ·rw [if_neg (fun h=>e3 h.2.2),show (src.V6==dst.V6)=false by simpa using e3];rfl
theorem Xjp (n:Int):0≤wI .u64 n∧wI .u64 n<2^64:=by rw [wU64m];omega
def XRR:List Int→List UInt8
 | a::b::l=>XbV (wI .u64 a) b++XRR l
 | _=>[]
theorem XFk {l:List Int} (he:l.length%2=0) (h2:2≤l.length) (hl:l.length≤1000):Xa4 l=some (XRR l):=by
 unfold Xa4 XeV
 obtain ⟨a,b,r,rfl⟩:∃ a b r,l=a::b::r:=by
  match l,h2 with
  | a::b::r,_=>exact ⟨a,b,r,rfl⟩
 have p0:=XaY (wI .u64 a) b
 rw [XaS (by simp;omega),Xaz (by simp;omega)]
 show ((some a).bind _)=_
 rw [Option.bind_some,Xaz (by simp;omega)]
 show ((some b).bind _)=_
 rw [Option.bind_some,Xbq (Xjp a).1,Option.bind_some,Xaz (by omega)]
 generalize hL:a::b::r=L at *
 have key:=iter_eq (step:=fun (st:Int×List Int)=>XbT Xan L st.1 st.2) (fun st=>iB st.2++XRR (L.drop st.1.toNat)) (fun st=>0≤st.1∧st.1≤L.length∧st.1.toNat%2=0∧st.2.length≤8*st.1.toNat) (fun st=>(L.length - st.1).toNat) ?_ FUEL (2,bI (XbV (wI .u64 a) b)) ⟨by simp,by simp only;omega,by simp,by simp;omega⟩ (by rw [XeE];simp only;omega)
 ·rw [key]
  simp only [XAP]
  subst hL;rfl
 rintro ⟨p,c⟩ ⟨g1,g2,g3,g4⟩
 simp only at g1 g2 g3 g4 ⊢
 obtain ⟨i,rfl⟩:=Int.eq_ofNat_of_zero_le g1
 simp only [Int.toNat_natCast] at g3 g4 ⊢
 unfold XbT
 simp only []
 rw [Xcg (n:=(i:Int)+1) (by omega) (by omega)]
 by_cases hi:i<L.length
 ·have hi1:i+1<L.length:=by omega
  have pl:=XaY (wI .u64 L[i]) L[i+1]
  refine .inr ⟨(((i+2:Nat):Int),c++bI (XbV (wI .u64 L[i]) L[i+1])),?_,⟨by simp only;omega,by simp only;omega,by simp only [Int.toNat_natCast];omega,by simp;omega⟩,by simp only;omega,?_⟩
  ·rw [XaS (by omega),Xaz (by omega),Int.toNat_natCast,List.getElem?_eq_getElem hi,Option.bind_some,Xaz (by omega),show ((i:Int)+1).toNat=i+1 by omega,List.getElem?_eq_getElem hi1,Option.bind_some,Xbq (Xjp _).1,Option.bind_some,Xaz (by omega),Xcg (by omega) (by omega)];rfl
  ·simp only [Int.toNat_natCast]
   rw [X7c,XAP,List.drop_eq_getElem_cons hi,List.drop_eq_getElem_cons hi1,XRR];simp
 ·refine .inl ?_
  rw [XaO (by omega),Xaz (by omega),List.drop_eq_nil_of_le (by omega)];simp [XRR]
theorem XA3 (n k:Int):Xbi n k=some (XbV (wI .u64 n) k):=by
 unfold Xbi Xh7
 rw [XcP (Xjp n).1 (Xjp n).2];rfl
end Go.Vm.Code
namespace Go.Vm.Code
open Go Go.Vm Go.Proofs
set_option maxRecDepth 100000
set_option maxHeartbeats 4000000
set_option linter.unusedVariables false
def XcS (ra0:Xab):Option (Bool×Xab):=
 cond (!ra0.made)
  (
  some ((true,ra0)))
  (
  some ((ra0.bad,ra0)))
def XyL (x:Bool×Xab):Xca:=⟨.bool x.1,[],[some [.string ⟨⟨x.2.s⟩⟩,.bool x.2.made,.bool x.2.bad]]⟩
def r114 (g:Xab→Option (Bool×Xab)):Dec:=dPt 0 Xcs fun (y0:Xab)=>XcO (ofG (g y0) XyL)
theorem X9Q {g:Xab→Option (Bool×Xab)} {y0:Xab} {x:Bool×Xab} (hx:g y0=some x):r114 g [.pointer (some ⟨0,0,none⟩)] [some [.string ⟨⟨y0.s⟩⟩,.bool y0.made,.bool y0.bad]]=some (XyL x):=(Xl2 (XdG _)).trans (Xa0 hx)
def XAV (g:Xab→Option (Bool×Xab)):Xbr:=⟨[.pt 3],r114 g⟩
theorem Xhl {g:Xab→Option (Bool×Xab)} {y0:Xab} {x:Bool×Xab} (hx:g y0=some x):(XAV g).run [.pointer (some ⟨0,0,none⟩)] [some [.string ⟨⟨y0.s⟩⟩,.bool y0.made,.bool y0.bad]]=some (XyL x):=X9Q hx
abbrev Xtt:List (Nat×Xbr):=[]
theorem Xzt (hS:Xai Tryz.prog (Xav (Xtt))) (ra0:Xab) (res:Bool×Xab) (h:XcS ra0=some res) :
 XaI Tryz.prog 114 1 ⟨⟨114,18,[(0,.pointer (some ⟨0,0,none⟩))],[.code XBX],[],false,none⟩,[],[(0,.cells [.string ⟨⟨ra0.s⟩⟩,.bool ra0.made,.bool ra0.bad])],1⟩ (fun v H _=>Res 1 (XyL res) v H):=by
 unfold XcS at h
 refine Xa7 Xao hS true 3000 ?_
 conv=>whnf
 refine br.h h ?_ ?_ ?_
 ·rfl
 ·clear h;intro hb h;conv=>whnf
  all_goals (cases h)
  all_goals exact Res.of [] rfl Xg3 (by decide) Xg1 (XlC (rfl) (Xb2 rfl) Xg2)
 clear h;intro hb h;conv=>whnf
 all_goals (cases h)
 all_goals exact Res.of [] rfl Xg3 (by decide) Xg1 (XlC (rfl) (Xb2 rfl) Xg2)
theorem ok114 (hS:Xai Tryz.prog (Xav (Xtt))):Xar Tryz.prog 114 (XAV (XcS)):=by
 refine Xar.Xay Xao (fun ar os r ha hr=>?_) ⟨Tryz.f114,rfl,by decide,rfl⟩
 replace hr:r114 (XcS) ar (XaD os)=some r:=hr
 unfold r114 at hr
 generalize hc:XaD os=C at hr
 have hq:=dPt.elim hr;clear hr;obtain ⟨c0,l1,C,y0,rfl,rfl,e0,hr⟩:=hq;obtain rfl:=XcQ _ _ e0
 replace hr:=Xc2 hr;obtain ⟨rfl,rfl,x,h,rfl⟩:=hr
 obtain ⟨os,rfl,ha,hc⟩:=Xc5 ha hc
 obtain rfl:=Xas hc
 exact ⟨_,rfl,Xzt hS _ x h⟩
def Xae:Xab→Option (Bool×Xab):=XcS
theorem XkO:Xar Tryz.prog 114 (XAV Xae):=ok114 (Xai.XaW trivial)
def XcI (Xae:Xab→Option (Bool×Xab)) (ra0:Xab) (n:Int):Option ((List UInt8)×Xab):=
 (Xae ra0).bind fun b=>
 cond (b.1)
  (
  some (([],b.2)))
  (
  cond (decide (n<0))
   (
   some (([],Xab.mk b.2.s b.2.made true)))
   (
   cond (decide (n>(b.2.s.length:Int)))
    (
    some (([],Xab.mk b.2.s b.2.made true)))
    (
    XaJ (decide ((0:Int)≤n∧n≤(b.2.s.length:Int))) <|
    XaJ (decide ((0:Int)≤n∧n≤(b.2.s.length:Int))) <|
    let t:=(b.2.s.drop n.toNat).take (b.2.s.length - n.toNat)
    some ((b.2.s.take n.toNat,Xab.mk t b.2.made b.2.bad)))))
def XzN (x:(List UInt8)×Xab):Xca:=⟨.string ⟨⟨x.1⟩⟩,[],[some [.string ⟨⟨x.2.s⟩⟩,.bool x.2.made,.bool x.2.bad]]⟩
def r115 (g:Xab→Int→Option ((List UInt8)×Xab)):Dec:=dPt 0 Xcs fun (y0:Xab)=>dV (asI .i64) fun (y1:Int)=>XcO (ofG (g y0 y1) XzN)
theorem XX1 {g:Xab→Int→Option ((List UInt8)×Xab)} {y0:Xab} {y1:Int} {x:(List UInt8)×Xab} (hx:g y0 y1=some x):r115 g [.pointer (some ⟨0,0,none⟩),.int .i64 y1] [some [.string ⟨⟨y0.s⟩⟩,.bool y0.made,.bool y0.bad]]=some (XzN x):=(Xl2 (XdG _)).trans ((XaT (Xc3 _)).trans (Xa0 hx))
def Xs3 (g:Xab→Int→Option ((List UInt8)×Xab)):Xbr:=⟨[.pt 3,.v],r115 g⟩
theorem Xfx {g:Xab→Int→Option ((List UInt8)×Xab)} {y0:Xab} {y1:Int} {x:(List UInt8)×Xab} (hx:g y0 y1=some x):(Xs3 g).run [.pointer (some ⟨0,0,none⟩),.int .i64 y1] [some [.string ⟨⟨y0.s⟩⟩,.bool y0.made,.bool y0.bad]]=some (XzN x):=XX1 hx
abbrev XsV (Xae:Xab→Option (Bool×Xab)):List (Nat×Xbr):=[(114,XAV Xae)]
theorem Xzu (Xae:Xab→Option (Bool×Xab)) (hS:Xai Tryz.prog (Xav (XsV Xae))) (ra0:Xab) (n:Int) (res:(List UInt8)×Xab) (h:XcI Xae ra0 n=some res) :
 XaI Tryz.prog 115 1 ⟨⟨115,38,[(0,.pointer (some ⟨0,0,none⟩)),(1,.int .i64 n)],[.code XsR],[],false,none⟩,[],[(0,.cells [.string ⟨⟨ra0.s⟩⟩,.bool ra0.made,.bool ra0.bad])],1⟩ (fun v H _=>Res 1 (XzN res) v H):=by
 unfold XcI at h
 refine Xa7 Xao hS true 3000 ?_
 conv=>whnf
 replace h:=Xal.elim h;obtain ⟨b,hy,h⟩:=h
 refine XaK.Xbb [0] (Xaw (aqs:=[.pointer (some ⟨0,0,none⟩)]) (ws:=[.win 0 0 3 true]) (n:=0) (m:=0) (t':=1) (Xau rfl rfl Xbf) rfl (by rfl) (Xhl hy) rfl rfl rfl rfl (XbF rfl rfl rfl ⟨rfl,Nat.le_of_ble_eq_true rfl⟩ rfl rfl Xbe) Xbc rfl) ?_
 conv=>whnf
 refine br.h h ?_ ?_ ?_
 ·rfl
 ·clear h;intro hb h;conv=>whnf
  all_goals (cases h)
  all_goals exact Res.of [] rfl Xg3 (by decide) Xg1 (XlC (rfl) (Xb2 rfl) Xg2)
 clear h;intro hb h;conv=>whnf
 refine br.h h ?_ ?_ ?_
 ·rfl
 ·clear h;intro hb h;conv=>whnf
  all_goals (cases h)
  all_goals exact Res.of [] rfl Xg3 (by decide) Xg1 (XlC (rfl) (Xb2 rfl) Xg2)
 clear h;intro hb h;conv=>whnf
 refine br.h h ?_ ?_ ?_
 ·rfl
 ·clear h;intro hb h;conv=>whnf
  all_goals (cases h)
  all_goals exact Res.of [] rfl Xg3 (by decide) Xg1 (XlC (rfl) (Xb2 rfl) Xg2)
 clear h;intro hb h;conv=>whnf
 replace h:=XaJ.elim h;obtain ⟨hb,h⟩:=h
 first|(refine req.intro hb ?_;conv=>whnf)|skip
 replace h:=XaJ.elim h;obtain ⟨hb,h⟩:=h
 first|(refine req.intro hb ?_;conv=>whnf)|skip
 let t:List UInt8:=(b.2.s.drop n.toNat).take (b.2.s.length - n.toNat)
 all_goals (cases h)
 all_goals exact Res.of [] rfl Xg3 (by decide) Xg1 (XlC (rfl) (Xb2 rfl) Xg2)
theorem ok115 (Xae:Xab→Option (Bool×Xab)) (hS:Xai Tryz.prog (Xav (XsV Xae))):Xar Tryz.prog 115 (Xs3 (XcI Xae)):=by
 refine Xar.Xay Xao (fun ar os r ha hr=>?_) ⟨Tryz.f115,rfl,by decide,rfl⟩
 replace hr:r115 (XcI Xae) ar (XaD os)=some r:=hr
 unfold r115 at hr
 generalize hc:XaD os=C at hr
 have hq:=dPt.elim hr;clear hr;obtain ⟨c0,l1,C,y0,rfl,rfl,e0,hr⟩:=hq;obtain rfl:=XcQ _ _ e0
 replace hr:=dV.elim hr;obtain ⟨v1,l2,y1,rfl,e1,hr⟩:=hr;obtain rfl:=XbS _ _ _ e1
 replace hr:=Xc2 hr;obtain ⟨rfl,rfl,x,h,rfl⟩:=hr
 obtain ⟨os,rfl,ha,hc⟩:=Xc5 ha hc
 obtain rfl:=Xas hc
 exact ⟨_,rfl,Xzu Xae hS _ _ x h⟩
def Xac:Xab→Int→Option ((List UInt8)×Xab):=XcI Xae
theorem Xis:Xar Tryz.prog 115 (Xs3 Xac):=ok115 Xae (Xai.XaW ⟨XkO,trivial⟩)
def XcV (XaL:(List UInt8)→Int→Int→Option (Int×Bool)) (Xac:Xab→Int→Option ((List UInt8)×Xab)) (ra0:Xab) (k:Int):Option (Int×Xab):=
 cond (decide (k<1))
  (
  (Xac ra0 (-1)).bind fun t=>
  (XaL t.1 0 (-1)).bind fun xg=>
  some ((wI .i64 xg.1,t.2)))
  (
  cond (decide (k>7))
   (
   (Xac ra0 (-1)).bind fun t1=>
   (XaL t1.1 0 (-1)).bind fun xg1=>
   some ((wI .i64 xg1.1,t1.2)))
   (
   (Xac ra0 k).bind fun t2=>
   (XaL t2.1 0 k).bind fun xg2=>
   some ((wI .i64 xg2.1,t2.2))))
def Xz3 (x:Int×Xab):Xca:=⟨.int .i64 x.1,[],[some [.string ⟨⟨x.2.s⟩⟩,.bool x.2.made,.bool x.2.bad]]⟩
def r113 (g:Xab→Int→Option (Int×Xab)):Dec:=dPt 0 Xcs fun (y0:Xab)=>dV (asI .i64) fun (y1:Int)=>XcO (ofG (g y0 y1) Xz3)
theorem X4S {g:Xab→Int→Option (Int×Xab)} {y0:Xab} {y1:Int} {x:Int×Xab} (hx:g y0 y1=some x):r113 g [.pointer (some ⟨0,0,none⟩),.int .i64 y1] [some [.string ⟨⟨y0.s⟩⟩,.bool y0.made,.bool y0.bad]]=some (Xz3 x):=(Xl2 (XdG _)).trans ((XaT (Xc3 _)).trans (Xa0 hx))
def Xw5 (g:Xab→Int→Option (Int×Xab)):Xbr:=⟨[.pt 3,.v],r113 g⟩
theorem Xcn {g:Xab→Int→Option (Int×Xab)} {y0:Xab} {y1:Int} {x:Int×Xab} (hx:g y0 y1=some x):(Xw5 g).run [.pointer (some ⟨0,0,none⟩),.int .i64 y1] [some [.string ⟨⟨y0.s⟩⟩,.bool y0.made,.bool y0.bad]]=some (Xz3 x):=X4S hx
abbrev Xtr (XaL:(List UInt8)→Int→Int→Option (Int×Bool)) (Xac:Xab→Int→Option ((List UInt8)×Xab)):List (Nat×Xbr):=[(70,s70 XaL),(115,Xs3 Xac)]
theorem Xzk (XaL:(List UInt8)→Int→Int→Option (Int×Bool)) (Xac:Xab→Int→Option ((List UInt8)×Xab)) (hS:Xai Tryz.prog (Xav (Xtr XaL Xac))) (ra0:Xab) (k:Int) (res:Int×Xab) (h:XcV XaL Xac ra0 k=some res) :
 XaI Tryz.prog 113 1 ⟨⟨113,23,[(0,.pointer (some ⟨0,0,none⟩)),(1,.int .i64 k)],[.code XuZ],[],false,none⟩,[],[(0,.cells [.string ⟨⟨ra0.s⟩⟩,.bool ra0.made,.bool ra0.bad])],1⟩ (fun v H _=>Res 1 (Xz3 res) v H):=by
 unfold XcV at h
 refine Xa7 Xao hS true 3000 ?_
 conv=>whnf
 refine br.h h ?_ ?_ ?_
 ·rfl
 ·clear h;intro hb h;conv=>whnf
  replace h:=Xal.elim h;obtain ⟨t,hy,h⟩:=h
  refine XaK.Xbb [0] (Xaw (aqs:=[.pointer (some ⟨0,0,none⟩),.int .i64 (-1)]) (ws:=[.win 0 0 3 true]) (n:=0) (m:=0) (t':=1) (Xau rfl rfl (Xau rfl rfl Xbf)) rfl (by rfl) (Xfx hy) rfl rfl rfl rfl (XbF rfl rfl rfl ⟨rfl,Nat.le_of_ble_eq_true rfl⟩ rfl rfl Xbe) Xbc rfl) ?_
  conv=>whnf
  replace h:=Xal.elim h;obtain ⟨xg,hy,h⟩:=h
  refine XaK.q rfl rfl (XlM hy) rfl rfl rfl ?_
  conv=>whnf
  all_goals (cases h)
  all_goals exact Res.of [] rfl Xg3 (by decide) Xg1 (XlC (rfl) (Xb2 rfl) Xg2)
 clear h;intro hb h;conv=>whnf
 refine br.h h ?_ ?_ ?_
 ·rfl
 ·clear h;intro hb h;conv=>whnf
  replace h:=Xal.elim h;obtain ⟨t1,hy,h⟩:=h
  refine XaK.Xbb [0] (Xaw (aqs:=[.pointer (some ⟨0,0,none⟩),.int .i64 (-1)]) (ws:=[.win 0 0 3 true]) (n:=0) (m:=0) (t':=1) (Xau rfl rfl (Xau rfl rfl Xbf)) rfl (by rfl) (Xfx hy) rfl rfl rfl rfl (XbF rfl rfl rfl ⟨rfl,Nat.le_of_ble_eq_true rfl⟩ rfl rfl Xbe) Xbc rfl) ?_
  conv=>whnf
  replace h:=Xal.elim h;obtain ⟨xg1,hy,h⟩:=h
  refine XaK.q rfl rfl (XlM hy) rfl rfl rfl ?_
  conv=>whnf
  all_goals (cases h)
  all_goals exact Res.of [] rfl Xg3 (by decide) Xg1 (XlC (rfl) (Xb2 rfl) Xg2)
 clear h;intro hb h;conv=>whnf
 replace h:=Xal.elim h;obtain ⟨t2,hy,h⟩:=h
 refine XaK.Xbb [0] (Xaw (aqs:=[.pointer (some ⟨0,0,none⟩),.int .i64 k]) (ws:=[.win 0 0 3 true]) (n:=0) (m:=0) (t':=1) (Xau rfl rfl (Xau rfl rfl Xbf)) rfl (by rfl) (Xfx hy) rfl rfl rfl rfl (XbF rfl rfl rfl ⟨rfl,Nat.le_of_ble_eq_true rfl⟩ rfl rfl Xbe) Xbc rfl) ?_
 conv=>whnf
 replace h:=Xal.elim h;obtain ⟨xg2,hy,h⟩:=h
 refine XaK.q rfl rfl (XlM hy) rfl rfl rfl ?_
 conv=>whnf
 all_goals (cases h)
 all_goals exact Res.of [] rfl Xg3 (by decide) Xg1 (XlC (rfl) (Xb2 rfl) Xg2)
theorem ok113 (XaL:(List UInt8)→Int→Int→Option (Int×Bool)) (Xac:Xab→Int→Option ((List UInt8)×Xab)) (hS:Xai Tryz.prog (Xav (Xtr XaL Xac))):Xar Tryz.prog 113 (Xw5 (XcV XaL Xac)):=by
 refine Xar.Xay Xao (fun ar os r ha hr=>?_) ⟨Tryz.f113,rfl,by decide,rfl⟩
 replace hr:r113 (XcV XaL Xac) ar (XaD os)=some r:=hr
 unfold r113 at hr
 generalize hc:XaD os=C at hr
 have hq:=dPt.elim hr;clear hr;obtain ⟨c0,l1,C,y0,rfl,rfl,e0,hr⟩:=hq;obtain rfl:=XcQ _ _ e0
 replace hr:=dV.elim hr;obtain ⟨v1,l2,y1,rfl,e1,hr⟩:=hr;obtain rfl:=XbS _ _ _ e1
 replace hr:=Xc2 hr;obtain ⟨rfl,rfl,x,h,rfl⟩:=hr
 obtain ⟨os,rfl,ha,hc⟩:=Xc5 ha hc
 obtain rfl:=Xas hc
 exact ⟨_,rfl,Xzk XaL Xac hS _ _ x h⟩
def Xad:Xab→Int→Option (Int×Xab):=XcV XaL Xac
theorem Xk7:Xar Tryz.prog 113 (Xw5 Xad):=ok113 XaL Xac (Xai.XaW ⟨Xuz,Xis,trivial⟩)
def XhD (s:List UInt8):Option Xab:=
 some (Xab.mk s true false)
def Xzo (x:Xab):Xca:=⟨.pointer (some ⟨0,0,none⟩),[[.string ⟨⟨x.s⟩⟩,.bool x.made,.bool x.bad]],[]⟩
def r112 (g:(List UInt8)→Option Xab):Dec:=dV asS fun (y0:List UInt8)=>XcO (ofG (g y0) Xzo)
theorem X4C {g:(List UInt8)→Option Xab} {y0:List UInt8} {x:Xab} (hx:g y0=some x):r112 g [.string ⟨⟨y0⟩⟩] []=some (Xzo x):=(XaT (Xcp)).trans (Xa0 hx)
def XBv (g:(List UInt8)→Option Xab):Xbr:=⟨[.v],r112 g⟩
theorem Xmi {g:(List UInt8)→Option Xab} {y0:List UInt8} {x:Xab} (hx:g y0=some x):(XBv g).run [.string ⟨⟨y0⟩⟩] []=some (Xzo x):=X4C hx
abbrev XuY:List (Nat×Xbr):=[]
theorem Xz2 (hS:Xai Tryz.prog (Xav (XuY))) (s:List UInt8) (res:Xab) (h:XhD s=some res) :
 XaI Tryz.prog 112 0 ⟨⟨112,6,[(0,.string ⟨⟨s⟩⟩)],[.code XBi],[],false,none⟩,[],[],0⟩ (fun v H _=>Res 0 (Xzo res) v H):=by
 unfold XhD at h
 refine Xa7 Xao hS true 3000 ?_
 conv=>whnf
 all_goals (cases h)
 all_goals exact Res.of [0] rfl (XrK (rfl) (Xb2 rfl) Xg3) (by decide) (XrX (by decide) Xg1) Xg2
theorem ok112 (hS:Xai Tryz.prog (Xav (XuY))):Xar Tryz.prog 112 (XBv (XhD)):=by
 refine Xar.Xay Xao (fun ar os r ha hr=>?_) ⟨Tryz.f112,rfl,by decide,rfl⟩
 replace hr:r112 (XhD) ar (XaD os)=some r:=hr
 unfold r112 at hr
 generalize hc:XaD os=C at hr
 replace hr:=dV.elim hr;obtain ⟨v0,l1,y0,rfl,e0,hr⟩:=hr;obtain rfl:=XbH _ _ e0
 replace hr:=Xc2 hr;obtain ⟨rfl,rfl,x,h,rfl⟩:=hr
 obtain rfl:=Xas hc
 exact ⟨_,rfl,Xz2 hS _ x h⟩
def XaA:(List UInt8)→Option Xab:=XhD
theorem XlZ:Xar Tryz.prog 112 (XBv XaA):=ok112 (Xai.XaW trivial)
end Go.Vm.Code
namespace Go.Vm.Code
open Go Go.Vm
def rdr (r:Xab) (k:Int):Xab:=if r.bad=true∨k<0∨k>r.s.length then ⟨r.s,true,true⟩ else ⟨r.s.drop k.toNat,true,false⟩
def rdt (r:Xab) (k:Int):List UInt8:=if r.bad=true∨k<0∨k>r.s.length then [] else r.s.take k.toNat
theorem XdQ {r:Xab} (h:r.made=true):Xae r=some (r.bad,r):=by
 unfold Xae XcS
 rw [h];rfl
theorem XeB {r:Xab} {k:Int} (h:r.made=true):Xac r k=some (rdt r k,rdr r k):=by
 unfold Xac XcI rdt rdr
 rw [XdQ h,Option.bind_some]
 simp only []
 obtain ⟨s,m,b⟩:=r
 simp only at h ⊢
 subst h
 cases b with
 | true=>simp
 | false=>
   rw [cond_false]
   by_cases h1:k<0
   ·rw [XaS h1,if_pos (by omega),if_pos (by omega)]
   rw [XaO h1]
   by_cases h2:k>s.length
   ·rw [XaS h2,if_pos (by omega),if_pos (by omega)]
   ·have e:(s.drop k.toNat).take (s.length - k.toNat)=s.drop k.toNat:=List.take_of_length_le (by simp)
    rw [XaO h2,Xaz (by omega),Xaz (by omega),if_neg (by simp;omega),if_neg (by simp;omega),e]
theorem Xfp (r:Xab) (k:Int):(rdr r k).made=true:=by unfold rdr;split<;>rfl
theorem Xpv {r:Xab} {k:Int}:(rdr r k).bad=false↔r.bad=false∧0≤k∧k≤r.s.length:=by
 unfold rdr
 split
 ·rename_i h
  simp only [Bool.true_eq_false,false_iff]
  intro ⟨a,b,c⟩
  rcases h with h|h|h
  ·rw [a] at h;cases h
  ·omega
  ·omega
 ·rename_i h
  simp only [true_iff]
  cases hb:r.bad
  ·exact ⟨rfl,by omega,by omega⟩
  ·exact absurd (.inl hb) h
theorem XEO {r:Xab} {k:Int} (h:(rdr r k).bad=false):((rdr r k).s.length:Int)=r.s.length - k:=by
 obtain ⟨a,b,c⟩:=Xpv.1 h
 unfold rdr
 rw [if_neg (by rw [a];simp;omega)]
 simp;omega
theorem Xf7 {r r':Xab} {k:Int} (h:rdr r k=r') (hb:r'.bad=false):r.bad=false∧(r'.s.length:Int)+k=r.s.length:=by
 subst h
 have:=XEO hb
 exact ⟨(Xpv.1 hb).1,by omega⟩
theorem XgY {s:List UInt8} {k:Int} (h0:0≤k) (h1:k≤s.length):rdr ⟨s,true,false⟩ k=⟨s.drop k.toNat,true,false⟩:=by
 unfold rdr;rw [if_neg (by simp;omega)]
theorem XgX {s:List UInt8} {k:Int} (h0:0≤k) (h1:k≤s.length):rdt ⟨s,true,false⟩ k=s.take k.toNat:=by
 unfold rdt;rw [if_neg (by simp;omega)]
theorem XRL (r:Xab) (k:Int):(rdt r k).length≤r.s.length:=by
 unfold rdt;split
 ·simp
 ·rw [List.length_take];omega
def rdn (r:Xab) (k:Int):Int:=(Xdz (rdt r (if k<1∨k>7 then -1 else k)):Nat)
theorem Xft {r:Xab} {k:Int} (h:r.made=true) (hl:r.s.length<2^61):Xad r k=some (rdn r k,rdr r (if k<1∨k>7 then -1 else k)):=by
 unfold Xad XcV rdn
 have bad:Xac r (-1)=some ([],rdr r (-1)):=by
  rw [XeB h];unfold rdt;rw [if_pos (by omega)]
 have e0:rdt r (-1)=[]:=by unfold rdt;rw [if_pos (by omega)]
 by_cases h1:k<1
 ·rw [XaS h1,bad,Option.bind_some,Xd7 (by simp),if_pos (by omega),Option.bind_some,e0];rfl
 rw [XaO h1]
 by_cases h2:k>7
 ·rw [XaS h2,bad,Option.bind_some,Xd7 (by simp),if_pos (by omega),Option.bind_some,e0];rfl
 have hlen:=XRL r k
 rw [XaO h2,XeB h,Option.bind_some,Xd7 (by simp only [];omega),Option.bind_some,if_neg (by omega)]
 simp only []
 unfold Xsp
 by_cases hc:r.bad=true∨k<0∨k>r.s.length
 ·have e:rdt r k=[]:=by unfold rdt;rw [if_pos hc]
  rw [e,if_neg (by simp;omega)];rfl
 ·have hl2:(rdt r k).length=k.toNat:=by unfold rdt;rw [if_neg hc];simp;omega
  rw [if_pos (by omega)]
  have e2:((rdt r k).drop (0:Int).toNat).take k.toNat=rdt r k:=by
   rw [show (0:Int).toNat=0 from rfl,List.drop_zero,List.take_of_length_le (by omega)]
  have hv:Xdz (rdt r k)<2^56:=by
   have:=XoB (rdt r k)
   rw [hl2] at this
   exact Xni this (by omega)
  simp only [e2]
  rw [Xcg (by omega) (by omega)]
theorem Xgj {s:List UInt8} {p k:Int} (h0:0≤p) (h1:1≤k) (h8:k≤8) (h:p+k≤s.length):Xsp s p k=(((Xdz ((s.drop p.toNat).take k.toNat):Nat):Int),true):=by
 unfold Xsp;rw [if_pos (by omega)]
theorem Xmv (s:List UInt8):XaA s=some ⟨s,true,false⟩:=rfl
def inR (n m:Int):Bool:=decide (0≤n∧n≤m)
theorem XvI {n m:Int}:inR n m=true↔0≤n∧n≤m:=by unfold inR;simp
theorem Xoc (n:Nat):(((n:Int).tmod 4)==0)=decide (n%4=0):=by
 rw [Int.tmod_eq_emod_of_nonneg (by omega),Bool.eq_iff_iff,beq_iff_eq,decide_eq_true_eq];omega
theorem XqF (n:Nat):decide ((n:Int)≤40)=decide (n≤40):=by rw [Bool.eq_iff_iff,decide_eq_true_eq,decide_eq_true_eq];omega
theorem XI1 (n:Nat):(20+(n:Int)).tdiv 4=(((20+n)/4:Nat):Int):=by rw [Int.tdiv_eq_ediv_of_nonneg (by omega)];omega
def vK (s:List UInt8) (p k:Nat):Int:=(Xdz ((s.drop p).take k):Nat)
theorem XdT (s:List UInt8) (p k n:Nat) (h:256^k≤n):0≤vK s p k∧vK s p k<n:=by
 have:=Xdh (l:=s.drop p) (k:=k) n h
 unfold vK;omega
theorem XC6 {s:List UInt8} {p k:Nat} (h1:1≤k) (h7:k≤7) (h:p+k≤s.length) (hl:s.length<2^61):Xad ⟨s.drop p,true,false⟩ (k:Int)=some (vK s p k,⟨s.drop (p+k),true,false⟩):=by
 have hd:(s.drop p).length=s.length - p:=by simp
 rw [Xft rfl (by simp only;omega),if_neg (by omega),XgY (by omega) (by omega)]
 unfold rdn
 rw [if_neg (by omega),XgX (by omega) (by omega),Int.toNat_natCast,List.drop_drop];rfl
theorem Xn1 {s:List UInt8} {p k:Nat} (h:p+k≤s.length):Xac ⟨s.drop p,true,false⟩ (k:Int)=some ((s.drop p).take k,⟨s.drop (p+k),true,false⟩):=by
 have hd:(s.drop p).length=s.length - p:=by simp
 rw [XeB rfl,XgY (by omega) (by omega),XgX (by omega) (by omega),Int.toNat_natCast,List.drop_drop]
theorem XnM {s:List UInt8} {p k:Nat} (hs:s.length<2^61) (h1:1≤k) (h7:k≤7) (h:p+k≤s.length):Xam s (p:Int) (k:Int)=some (vK s p k):=by
 rw [XfV hs,Xgj (by omega) (by omega) (by omega) (by omega)]
 have:=XdT s p k (256^k) (Nat.le_refl _)
 have h8:256^k≤256^7:=Nat.pow_le_pow_right (by decide) h7
 have h9:(256:Nat)^7=72057594037927936:=by decide
 show some (wI .i64 (vK s p k))=_
 rw [Xcg (by omega) (by omega)]
theorem XjK {s:List UInt8} {p:Nat} (h:p<s.length):vK s p 1=(s[p].toNat:Int):=by
 unfold vK
 rw [List.drop_eq_getElem_cons h]
 show ((Xdz [s[p]]:Nat):Int)=_
 rw [XeQ];simp
theorem XvD {s:List UInt8} {p:Nat} (h:p+1<s.length):vK s p 2=(s[p].toNat*256+s[p+1].toNat:Int):=by
 unfold vK
 rw [List.drop_eq_getElem_cons (by omega:p<s.length),List.drop_eq_getElem_cons h]
 show ((Xdz [s[p],s[p+1]]:Nat):Int)=_
 rw [XeQ,XeQ];simp
theorem l1 {l:List UInt8} (h:l.length=1):∃ a,l=[a]:=by
 match l,h with
 | [a],_=>exact ⟨a,rfl⟩
theorem l2 {l:List UInt8} (h:l.length=2):∃ a b,l=[a,b]:=by
 match l,h with
 | [a,b],_=>exact ⟨a,b,rfl⟩
theorem l4 {l:List UInt8} (h:l.length=4):∃ a b c d,l=[a,b,c,d]:=by
 match l,h with
 | [a,b,c,d],_=>exact ⟨a,b,c,d,rfl⟩
end Go.Vm.Code
namespace Go.Vm.Code
open Go Go.Vm Go.Proofs
set_option maxRecDepth 100000
set_option maxHeartbeats 4000000
set_option linter.unusedVariables false
def XdL (n:Int) (most:Int):Option Bool:=
 cond (decide (0≤n))
  (
  some (decide (n≤most)))
  (
  some (false))
def Xzz (x:Bool):Xca:=⟨.bool x,[],[]⟩
def r179 (g:Int→Int→Option Bool):Dec:=dV (asI .i64) fun (y0:Int)=>dV (asI .i64) fun (y1:Int)=>XcO (ofG (g y0 y1) Xzz)
theorem X2D {g:Int→Int→Option Bool} {y0:Int} {y1:Int} {x:Bool} (hx:g y0 y1=some x):r179 g [.int .i64 y0,.int .i64 y1] []=some (Xzz x):=(XaT (Xc3 _)).trans ((XaT (Xc3 _)).trans (Xa0 hx))
def s179 (g:Int→Int→Option Bool):Xbr:=⟨[.v,.v],r179 g⟩
theorem XnW {g:Int→Int→Option Bool} {y0:Int} {y1:Int} {x:Bool} (hx:g y0 y1=some x):(s179 g).run [.int .i64 y0,.int .i64 y1] []=some (Xzz x):=X2D hx
abbrev Xs8:List (Nat×Xbr):=[]
theorem XxJ (hS:Xai Tryz.prog (Xav (Xs8))) (n:Int) (most:Int) (res:Bool) (h:XdL n most=some res) :
 XaI Tryz.prog 179 0 ⟨⟨179,12,[(0,.int .i64 n),(1,.int .i64 most)],[.code XBm],[],false,none⟩,[],[],0⟩ (fun v H _=>Res 0 (Xzz res) v H):=by
 unfold XdL at h
 refine Xa7 Xao hS true 3000 ?_
 conv=>whnf
 refine br.h h ?_ ?_ ?_
 ·rfl
 ·clear h;intro hb h;conv=>whnf
  all_goals (cases h;exact Res.z rfl rfl rfl)
 clear h;intro hb h;conv=>whnf
 all_goals (cases h;exact Res.z rfl rfl rfl)
theorem ok179 (hS:Xai Tryz.prog (Xav (Xs8))):Xar Tryz.prog 179 (s179 (XdL)):=by
 refine Xar.Xay Xao (fun ar os r ha hr=>?_) ⟨Tryz.f179,rfl,by decide,rfl⟩
 replace hr:r179 (XdL) ar (XaD os)=some r:=hr
 unfold r179 at hr
 generalize hc:XaD os=C at hr
 replace hr:=dV.elim hr;obtain ⟨v0,l1,y0,rfl,e0,hr⟩:=hr;obtain rfl:=XbS _ _ _ e0
 replace hr:=dV.elim hr;obtain ⟨v1,l2,y1,rfl,e1,hr⟩:=hr;obtain rfl:=XbS _ _ _ e1
 replace hr:=Xc2 hr;obtain ⟨rfl,rfl,x,h,rfl⟩:=hr
 obtain rfl:=Xas hc
 exact ⟨_,rfl,XxJ hS _ _ x h⟩
def Xbn:Int→Int→Option Bool:=XdL
theorem XRC:Xar Tryz.prog 179 (s179 Xbn):=ok179 (Xai.XaW trivial)
def Xff (Xax:Xaa→Option Bool) (a:Xaa):Option Bool:=
 cond (!a.V6)
  (
  (Xax a).bind fun xr=>
  some (xr))
  (
  some (false))
def XA8 (x:Bool):Xca:=⟨.bool x,[],[]⟩
def r180 (g:Xaa→Option Bool):Dec:=dV Xbp fun (y0:Xaa)=>XcO (ofG (g y0) XA8)
theorem X06 {g:Xaa→Option Bool} {y0:Xaa} {x:Bool} (hx:g y0=some x):r180 g [.agg ⟨[.bool y0.V6,.int .u64 y0.Hi,.int .u64 y0.Lo]⟩] []=some (XA8 x):=(XaT (Xa8 _)).trans (Xa0 hx)
def s180 (g:Xaa→Option Bool):Xbr:=⟨[.v],r180 g⟩
theorem XuK {g:Xaa→Option Bool} {y0:Xaa} {x:Bool} (hx:g y0=some x):(s180 g).run [.agg ⟨[.bool y0.V6,.int .u64 y0.Hi,.int .u64 y0.Lo]⟩] []=some (XA8 x):=X06 hx
abbrev XtX (Xax:Xaa→Option Bool):List (Nat×Xbr):=[(81,s81 Xax)]
theorem XAs (Xax:Xaa→Option Bool) (hS:Xai Tryz.prog (Xav (XtX Xax))) (a:Xaa) (res:Bool) (h:Xff Xax a=some res) :
 XaI Tryz.prog 180 0 ⟨⟨180,10,[(0,.agg ⟨[.bool a.V6,.int .u64 a.Hi,.int .u64 a.Lo]⟩)],[.code XCd],[],false,none⟩,[],[],0⟩ (fun v H _=>Res 0 (XA8 res) v H):=by
 unfold Xff at h
 refine Xa7 Xao hS true 3000 ?_
 conv=>whnf
 refine br.h2 h ?_ ?_ ?_
 ·rfl
 ·clear h;intro hb h;conv=>whnf
  all_goals (cases h;exact Res.z rfl rfl rfl)
 clear h;intro hb h;conv=>whnf
 replace h:=Xal.elim h;obtain ⟨xr,hy,h⟩:=h
 refine XaK.q rfl rfl (Xlg hy) rfl rfl rfl ?_
 conv=>whnf
 all_goals (cases h;exact Res.z rfl rfl rfl)
theorem ok180 (Xax:Xaa→Option Bool) (hS:Xai Tryz.prog (Xav (XtX Xax))):Xar Tryz.prog 180 (s180 (Xff Xax)):=by
 refine Xar.Xay Xao (fun ar os r ha hr=>?_) ⟨Tryz.f180,rfl,by decide,rfl⟩
 replace hr:r180 (Xff Xax) ar (XaD os)=some r:=hr
 unfold r180 at hr
 generalize hc:XaD os=C at hr
 replace hr:=dV.elim hr;obtain ⟨v0,l1,y0,rfl,e0,hr⟩:=hr;obtain rfl:=Xa1 _ _ e0
 replace hr:=Xc2 hr;obtain ⟨rfl,rfl,x,h,rfl⟩:=hr
 obtain rfl:=Xas hc
 exact ⟨_,rfl,XAs Xax hS _ x h⟩
def XbO:Xaa→Option Bool:=Xff Xax
theorem XGo:Xar Tryz.prog 180 (s180 XbO):=ok180 Xax (Xai.XaW ⟨XqR,trivial⟩)
def Xc8 (XbO:Xaa→Option Bool) (Xbn:Int→Int→Option Bool) (ha0:Xag):Option Bool:=
 (Xbn ha0.Class 255).bind fun w=>
 cond (!w)
  (
  some (false))
  (
  (Xbn ha0.Mark 65535).bind fun w1=>
  cond (!w1)
   (
   some (false))
   (
   (Xbn ha0.TTL 255).bind fun w2=>
   cond (!w2)
    (
    some (false))
    (
    (Xbn ha0.Proto 255).bind fun w3=>
    cond (!w3)
     (
     some (false))
     (
     (XbO ha0.Src).bind fun f=>
     cond (f)
      (
      (XbO ha0.Dst).bind fun f1=>
      cond (f1)
       (
       cond (((ha0.Options.length:Int).tmod 4)==0)
        (
        some (decide ((ha0.Options.length:Int)≤40)))
        (
        some (false)))
       (
       some (false)))
      (
      some (false))))))
def Xzm (x:Bool):Xca:=⟨.bool x,[],[]⟩
def r137 (g:Xag→Option Bool):Dec:=dV XdC fun (y0:Xag)=>XcO (ofG (g y0) Xzm)
theorem XUe {g:Xag→Option Bool} {y0:Xag} {x:Bool} (hx:g y0=some x):r137 g [.agg ⟨[.int .i64 y0.Class,.int .i64 y0.Mark,.bool y0.Whole,.int .i64 y0.TTL,.int .i64 y0.Proto,.bool y0.Src.V6,.int .u64 y0.Src.Hi,.int .u64 y0.Src.Lo,.bool y0.Dst.V6,.int .u64 y0.Dst.Hi,.int .u64 y0.Dst.Lo,.string ⟨⟨y0.Options⟩⟩]⟩] []=some (Xzm x):=(XaT (Xfn _)).trans (Xa0 hx)
def s137 (g:Xag→Option Bool):Xbr:=⟨[.v],r137 g⟩
theorem XN4 {g:Xag→Option Bool} {y0:Xag} {x:Bool} (hx:g y0=some x):(s137 g).run [.agg ⟨[.int .i64 y0.Class,.int .i64 y0.Mark,.bool y0.Whole,.int .i64 y0.TTL,.int .i64 y0.Proto,.bool y0.Src.V6,.int .u64 y0.Src.Hi,.int .u64 y0.Src.Lo,.bool y0.Dst.V6,.int .u64 y0.Dst.Hi,.int .u64 y0.Dst.Lo,.string ⟨⟨y0.Options⟩⟩]⟩] []=some (Xzm x):=XUe hx
abbrev XsB (XbO:Xaa→Option Bool) (Xbn:Int→Int→Option Bool):List (Nat×Xbr):=[(180,s180 XbO),(179,s179 Xbn)]
theorem Xy6 (XbO:Xaa→Option Bool) (Xbn:Int→Int→Option Bool) (hS:Xai Tryz.prog (Xav (XsB XbO Xbn))) (ha0:Xag) (res:Bool) (h:Xc8 XbO Xbn ha0=some res) :
 XaI Tryz.prog 137 0 ⟨⟨137,46,[(0,.agg ⟨[.int .i64 ha0.Class,.int .i64 ha0.Mark,.bool ha0.Whole,.int .i64 ha0.TTL,.int .i64 ha0.Proto,.bool ha0.Src.V6,.int .u64 ha0.Src.Hi,.int .u64 ha0.Src.Lo,.bool ha0.Dst.V6,.int .u64 ha0.Dst.Hi,.int .u64 ha0.Dst.Lo,.string ⟨⟨ha0.Options⟩⟩]⟩)],[.code XDt],[],false,none⟩,[],[],0⟩ (fun v H _=>Res 0 (Xzm res) v H):=by
 unfold Xc8 at h
 refine Xa7 Xao hS true 3000 ?_
 conv=>whnf
 replace h:=Xal.elim h;obtain ⟨w,hy,h⟩:=h
 refine XaK.q rfl rfl (XnW hy) rfl rfl rfl ?_
 conv=>whnf
 refine br.h h ?_ ?_ ?_
 ·rfl
 ·clear h;intro hb h;conv=>whnf
  all_goals (cases h;exact Res.z rfl rfl rfl)
 clear h;intro hb h;conv=>whnf
 replace h:=Xal.elim h;obtain ⟨w1,hy,h⟩:=h
 refine XaK.q rfl rfl (XnW hy) rfl rfl rfl ?_
 conv=>whnf
 refine br.h h ?_ ?_ ?_
 ·rfl
 ·clear h;intro hb h;conv=>whnf
  all_goals (cases h;exact Res.z rfl rfl rfl)
 clear h;intro hb h;conv=>whnf
 replace h:=Xal.elim h;obtain ⟨w2,hy,h⟩:=h
 refine XaK.q rfl rfl (XnW hy) rfl rfl rfl ?_
 conv=>whnf
 refine br.h h ?_ ?_ ?_
 ·rfl
 ·clear h;intro hb h;conv=>whnf
  all_goals (cases h;exact Res.z rfl rfl rfl)
 clear h;intro hb h;conv=>whnf
 replace h:=Xal.elim h;obtain ⟨w3,hy,h⟩:=h
 refine XaK.q rfl rfl (XnW hy) rfl rfl rfl ?_
 conv=>whnf
 refine br.h h ?_ ?_ ?_
 ·rfl
 ·clear h;intro hb h;conv=>whnf
  all_goals (cases h;exact Res.z rfl rfl rfl)
 clear h;intro hb h;conv=>whnf
 replace h:=Xal.elim h;obtain ⟨f,hy,h⟩:=h
 refine XaK.q rfl rfl (XuK hy) rfl rfl rfl ?_
 conv=>whnf
 refine br.h2 h ?_ ?_ ?_
 ·rfl
 ·clear h;intro hb h;conv=>whnf
  all_goals (cases h;exact Res.z rfl rfl rfl)
 clear h;intro hb h;conv=>whnf
 replace h:=Xal.elim h;obtain ⟨f1,hy,h⟩:=h
 refine XaK.q rfl rfl (XuK hy) rfl rfl rfl ?_
 conv=>whnf
 refine br.h2 h ?_ ?_ ?_
 ·rfl
 ·clear h;intro hb h;conv=>whnf
  all_goals (cases h;exact Res.z rfl rfl rfl)
 clear h;intro hb h;conv=>whnf
 refine br.h h ?_ ?_ ?_
 ·rfl
 ·clear h;intro hb h;conv=>whnf
  all_goals (cases h;exact Res.z rfl rfl rfl)
 clear h;intro hb h;conv=>whnf
 all_goals (cases h;exact Res.z rfl rfl rfl)
theorem ok137 (XbO:Xaa→Option Bool) (Xbn:Int→Int→Option Bool) (hS:Xai Tryz.prog (Xav (XsB XbO Xbn))):Xar Tryz.prog 137 (s137 (Xc8 XbO Xbn)):=by
 refine Xar.Xay Xao (fun ar os r ha hr=>?_) ⟨Tryz.f137,rfl,by decide,rfl⟩
 replace hr:r137 (Xc8 XbO Xbn) ar (XaD os)=some r:=hr
 unfold r137 at hr
 generalize hc:XaD os=C at hr
 replace hr:=dV.elim hr;obtain ⟨v0,l1,y0,rfl,e0,hr⟩:=hr;obtain rfl:=XeT _ _ e0
 replace hr:=Xc2 hr;obtain ⟨rfl,rfl,x,h,rfl⟩:=hr
 obtain rfl:=Xas hc
 exact ⟨_,rfl,Xy6 XbO Xbn hS _ x h⟩
def Xbk:Xag→Option Bool:=Xc8 XbO Xbn
theorem XIf:Xar Tryz.prog 137 (s137 Xbk):=ok137 XbO Xbn (Xai.XaW ⟨XGo,XRC,trivial⟩)
def XfL (Xa3:Xaa→Option (List UInt8)) (XaR:(List UInt8)→Option Int) (XaC:(List UInt8)→Int→Int→Int→Option (List UInt8)) (Xbk:Xag→Option Bool) (Xa4:(List Int)→Option (List UInt8)) (ha0:Xag) (payload:List UInt8):Option ((List UInt8)×Int):=
 let t:=wI .i64 (20+(ha0.Options.length:Int))
 (Xbk ha0).bind fun m=>
 cond (!m)
  (
  some (([],1)))
  (
  let t1:=decide ((payload.length:Int)>(wI .i64 (65535 - t)))
  cond (t1)
   (
   some (([],5)))
   (
   cond (ha0.Whole)
    (
    (Xa4 [Xjh .i64 64 (wI .i64 (t.tdiv 4)),1,ha0.Class,1,wI .i64 (t+(payload.length:Int)),2,ha0.Mark,2,64,1,0,1,ha0.TTL,1,ha0.Proto,1,0,2]).bind fun xr=>
    (Xa3 ha0.Src).bind fun p=>
    (Xa3 ha0.Dst).bind fun p1=>
    XaJ (decide (p.length+p1.length<2^63)) <|
    XaJ (decide ((p++p1).length+ha0.Options.length<2^63)) <|
    XaJ (decide (xr.length+((p++p1)++ha0.Options).length<2^63)) <|
    (XaR (xr++((p++p1)++ha0.Options))).bind fun xo=>
    (XaC (xr++((p++p1)++ha0.Options)) 10 2 (wI .u64 xo)).bind fun s=>
    XaJ (decide (s.length+payload.length<2^63)) <|
    some ((s++payload,0)))
    (
    (Xa4 [Xjh .i64 64 (wI .i64 (t.tdiv 4)),1,ha0.Class,1,wI .i64 (t+(payload.length:Int)),2,ha0.Mark,2,0,1,0,1,ha0.TTL,1,ha0.Proto,1,0,2]).bind fun xr1=>
    (Xa3 ha0.Src).bind fun p2=>
    (Xa3 ha0.Dst).bind fun p3=>
    XaJ (decide (p2.length+p3.length<2^63)) <|
    XaJ (decide ((p2++p3).length+ha0.Options.length<2^63)) <|
    XaJ (decide (xr1.length+((p2++p3)++ha0.Options).length<2^63)) <|
    (XaR (xr1++((p2++p3)++ha0.Options))).bind fun xo1=>
    (XaC (xr1++((p2++p3)++ha0.Options)) 10 2 (wI .u64 xo1)).bind fun s1=>
    XaJ (decide (s1.length+payload.length<2^63)) <|
    some ((s1++payload,0)))))
def rx83 (x:(List UInt8)×Int):Xca:=⟨.tuple ⟨[.string ⟨⟨x.1⟩⟩,.int .i64 x.2]⟩,[],[]⟩
def r83 (g:Xag→(List UInt8)→Option ((List UInt8)×Int)):Dec:=dV XdC fun (y0:Xag)=>dV asS fun (y1:List UInt8)=>XcO (ofG (g y0 y1) rx83)
theorem r83_c {g:Xag→(List UInt8)→Option ((List UInt8)×Int)} {y0:Xag} {y1:List UInt8} {x:(List UInt8)×Int} (hx:g y0 y1=some x):r83 g [.agg ⟨[.int .i64 y0.Class,.int .i64 y0.Mark,.bool y0.Whole,.int .i64 y0.TTL,.int .i64 y0.Proto,.bool y0.Src.V6,.int .u64 y0.Src.Hi,.int .u64 y0.Src.Lo,.bool y0.Dst.V6,.int .u64 y0.Dst.Hi,.int .u64 y0.Dst.Lo,.string ⟨⟨y0.Options⟩⟩]⟩,.string ⟨⟨y1⟩⟩] []=some (rx83 x):=(XaT (Xfn _)).trans ((XaT (Xcp)).trans (Xa0 hx))
def s83 (g:Xag→(List UInt8)→Option ((List UInt8)×Int)):Xbr:=⟨[.v,.v],r83 g⟩
theorem XBN {g:Xag→(List UInt8)→Option ((List UInt8)×Int)} {y0:Xag} {y1:List UInt8} {x:(List UInt8)×Int} (hx:g y0 y1=some x):(s83 g).run [.agg ⟨[.int .i64 y0.Class,.int .i64 y0.Mark,.bool y0.Whole,.int .i64 y0.TTL,.int .i64 y0.Proto,.bool y0.Src.V6,.int .u64 y0.Src.Hi,.int .u64 y0.Src.Lo,.bool y0.Dst.V6,.int .u64 y0.Dst.Hi,.int .u64 y0.Dst.Lo,.string ⟨⟨y0.Options⟩⟩]⟩,.string ⟨⟨y1⟩⟩] []=some (rx83 x):=r83_c hx
abbrev XBE (Xa3:Xaa→Option (List UInt8)) (XaR:(List UInt8)→Option Int) (XaC:(List UInt8)→Int→Int→Int→Option (List UInt8)) (Xbk:Xag→Option Bool) (Xa4:(List Int)→Option (List UInt8)):List (Nat×Xbr):=[(136,XR9 Xa3),(128,XR1 XaR),(73,s73 XaC),(137,s137 Xbk),(138,XWz Xa4)]
theorem XKl (Xa3:Xaa→Option (List UInt8)) (XaR:(List UInt8)→Option Int) (XaC:(List UInt8)→Int→Int→Int→Option (List UInt8)) (Xbk:Xag→Option Bool) (Xa4:(List Int)→Option (List UInt8)) (hS:Xai Tryz.prog (Xav (XBE Xa3 XaR XaC Xbk Xa4))) (ha0:Xag) (payload:List UInt8) (res:(List UInt8)×Int) (h:XfL Xa3 XaR XaC Xbk Xa4 ha0 payload=some res) :
 XaI Tryz.prog 83 0 ⟨⟨83,62,[(0,.agg ⟨[.int .i64 ha0.Class,.int .i64 ha0.Mark,.bool ha0.Whole,.int .i64 ha0.TTL,.int .i64 ha0.Proto,.bool ha0.Src.V6,.int .u64 ha0.Src.Hi,.int .u64 ha0.Src.Lo,.bool ha0.Dst.V6,.int .u64 ha0.Dst.Hi,.int .u64 ha0.Dst.Lo,.string ⟨⟨ha0.Options⟩⟩]⟩),(1,.string ⟨⟨payload⟩⟩)],[.code XCH],[],false,none⟩,[],[],0⟩ (fun v H _=>Res 0 (rx83 res) v H):=by
 unfold XfL at h
 refine Xa7 Xao hS true 3000 ?_
 conv=>whnf
 let t:Int:=wI .i64 (20+(ha0.Options.length:Int))
 replace h:=Xal.elim h;obtain ⟨m,hy,h⟩:=h
 refine XaK.q rfl rfl (XN4 hy) rfl rfl rfl ?_
 conv=>whnf
 refine br.h h ?_ ?_ ?_
 ·rfl
 ·clear h;intro hb h;conv=>whnf
  all_goals (cases h;exact Res.z rfl rfl rfl)
 clear h;intro hb h;conv=>whnf
 let t1:Bool:=decide ((payload.length:Int)>(wI .i64 (65535 - t)))
 refine br.h h ?_ ?_ ?_
 ·rfl
 ·clear h;intro hb h;conv=>whnf
  all_goals (cases h;exact Res.z rfl rfl rfl)
 clear h;intro hb h;conv=>whnf
 refine br.h h ?_ ?_ ?_
 ·rfl
 ·clear h;intro hb h;conv=>whnf
  replace h:=Xal.elim h;obtain ⟨xr,hy,h⟩:=h
  refine XaK.Xbb [] (Xaw (aqs:=[.slice (some ⟨0,0,none⟩) ([Xjh .i64 64 (wI .i64 (t.tdiv 4)),1,ha0.Class,1,wI .i64 (t+(payload.length:Int)),2,ha0.Mark,2,64,1,0,1,ha0.TTL,1,ha0.Proto,1,0,2]:List Int).length 1]) (ws:=[.win 1 0 (18*1) false]) (n:=0) (m:=0) (t':=2) (Xau (by first|rfl|exact XjX rfl rfl (by first|rfl|omega) (by first|rfl|(simp;done))|exact Xle rfl rfl (by first|rfl|omega) (by first|rfl|omega) (by first|omega|(simp at *;omega))) rfl Xbf) rfl (by rfl) (Xoe hy) rfl rfl rfl rfl (XiT rfl Xbe) Xbc rfl) ?_
  conv=>whnf
  replace h:=Xal.elim h;obtain ⟨p,hy,h⟩:=h
  refine XaK.q rfl rfl (XiW hy) rfl rfl rfl ?_
  conv=>whnf
  replace h:=Xal.elim h;obtain ⟨p1,hy,h⟩:=h
  refine XaK.q rfl rfl (XiW hy) rfl rfl rfl ?_
  conv=>whnf
  replace h:=XaJ.elim h;obtain ⟨hb,h⟩:=h
  first|(refine req.intro hb ?_;conv=>whnf)|skip
  replace h:=XaJ.elim h;obtain ⟨hb,h⟩:=h
  first|(refine req.intro hb ?_;conv=>whnf)|skip
  replace h:=XaJ.elim h;obtain ⟨hb,h⟩:=h
  first|(refine req.intro hb ?_;conv=>whnf)|skip
  replace h:=Xal.elim h;obtain ⟨xo,hy,h⟩:=h
  refine XaK.q rfl rfl (Xn6 hy) rfl rfl rfl ?_
  conv=>whnf
  replace h:=Xal.elim h;obtain ⟨s,hy,h⟩:=h
  refine XaK.q rfl rfl (XoG hy) rfl rfl rfl ?_
  conv=>whnf
  replace h:=XaJ.elim h;obtain ⟨hb,h⟩:=h
  first|(refine req.intro hb ?_;conv=>whnf)|skip
  all_goals (cases h;exact Res.z rfl rfl rfl)
 clear h;intro hb h;conv=>whnf
 replace h:=Xal.elim h;obtain ⟨xr1,hy,h⟩:=h
 refine XaK.Xbb [] (Xaw (aqs:=[.slice (some ⟨0,0,none⟩) ([Xjh .i64 64 (wI .i64 (t.tdiv 4)),1,ha0.Class,1,wI .i64 (t+(payload.length:Int)),2,ha0.Mark,2,0,1,0,1,ha0.TTL,1,ha0.Proto,1,0,2]:List Int).length 1]) (ws:=[.win 1 0 (18*1) false]) (n:=0) (m:=0) (t':=2) (Xau (by first|rfl|exact XjX rfl rfl (by first|rfl|omega) (by first|rfl|(simp;done))|exact Xle rfl rfl (by first|rfl|omega) (by first|rfl|omega) (by first|omega|(simp at *;omega))) rfl Xbf) rfl (by rfl) (Xoe hy) rfl rfl rfl rfl (XiT rfl Xbe) Xbc rfl) ?_
 conv=>whnf
 replace h:=Xal.elim h;obtain ⟨p2,hy,h⟩:=h
 refine XaK.q rfl rfl (XiW hy) rfl rfl rfl ?_
 conv=>whnf
 replace h:=Xal.elim h;obtain ⟨p3,hy,h⟩:=h
 refine XaK.q rfl rfl (XiW hy) rfl rfl rfl ?_
 conv=>whnf
 replace h:=XaJ.elim h;obtain ⟨hb,h⟩:=h
 first|(refine req.intro hb ?_;conv=>whnf)|skip
 replace h:=XaJ.elim h;obtain ⟨hb,h⟩:=h
 first|(refine req.intro hb ?_;conv=>whnf)|skip
 replace h:=XaJ.elim h;obtain ⟨hb,h⟩:=h
 first|(refine req.intro hb ?_;conv=>whnf)|skip
 replace h:=Xal.elim h;obtain ⟨xo1,hy,h⟩:=h
 refine XaK.q rfl rfl (Xn6 hy) rfl rfl rfl ?_
 conv=>whnf
 replace h:=Xal.elim h;obtain ⟨s1,hy,h⟩:=h
 refine XaK.q rfl rfl (XoG hy) rfl rfl rfl ?_
 conv=>whnf
 replace h:=XaJ.elim h;obtain ⟨hb,h⟩:=h
 first|(refine req.intro hb ?_;conv=>whnf)|skip
 all_goals (cases h;exact Res.z rfl rfl rfl)
theorem ok83 (Xa3:Xaa→Option (List UInt8)) (XaR:(List UInt8)→Option Int) (XaC:(List UInt8)→Int→Int→Int→Option (List UInt8)) (Xbk:Xag→Option Bool) (Xa4:(List Int)→Option (List UInt8)) (hS:Xai Tryz.prog (Xav (XBE Xa3 XaR XaC Xbk Xa4))):Xar Tryz.prog 83 (s83 (XfL Xa3 XaR XaC Xbk Xa4)):=by
 refine Xar.Xay Xao (fun ar os r ha hr=>?_) ⟨Tryz.f83,rfl,by decide,rfl⟩
 replace hr:r83 (XfL Xa3 XaR XaC Xbk Xa4) ar (XaD os)=some r:=hr
 unfold r83 at hr
 generalize hc:XaD os=C at hr
 replace hr:=dV.elim hr;obtain ⟨v0,l1,y0,rfl,e0,hr⟩:=hr;obtain rfl:=XeT _ _ e0
 replace hr:=dV.elim hr;obtain ⟨v1,l2,y1,rfl,e1,hr⟩:=hr;obtain rfl:=XbH _ _ e1
 replace hr:=Xc2 hr;obtain ⟨rfl,rfl,x,h,rfl⟩:=hr
 obtain rfl:=Xas hc
 exact ⟨_,rfl,XKl Xa3 XaR XaC Xbk Xa4 hS _ _ x h⟩
def XbU:Xag→(List UInt8)→Option ((List UInt8)×Int):=XfL Xa3 XaR XaC Xbk Xa4
theorem X0e:Xar Tryz.prog 83 (s83 XbU):=ok83 Xa3 XaR XaC Xbk Xa4 (Xai.XaW ⟨Xqh,Xpr,XuW,XIf,XtO,trivial⟩)
def XkW (n:Int) (most:Int):Option Bool:=
 cond (decide (n≥0))
  (
  some (decide (n≤most)))
  (
  some (false))
def XyN (x:Bool):Xca:=⟨.bool x,[],[]⟩
def r182 (g:Int→Int→Option Bool):Dec:=dV (asI .i64) fun (y0:Int)=>dV (asI .i64) fun (y1:Int)=>XcO (ofG (g y0 y1) XyN)
theorem XVH {g:Int→Int→Option Bool} {y0:Int} {y1:Int} {x:Bool} (hx:g y0 y1=some x):r182 g [.int .i64 y0,.int .i64 y1] []=some (XyN x):=(XaT (Xc3 _)).trans ((XaT (Xc3 _)).trans (Xa0 hx))
def s182 (g:Int→Int→Option Bool):Xbr:=⟨[.v,.v],r182 g⟩
theorem XnH {g:Int→Int→Option Bool} {y0:Int} {y1:Int} {x:Bool} (hx:g y0 y1=some x):(s182 g).run [.int .i64 y0,.int .i64 y1] []=some (XyN x):=XVH hx
abbrev Xt5:List (Nat×Xbr):=[]
theorem XAD (hS:Xai Tryz.prog (Xav (Xt5))) (n:Int) (most:Int) (res:Bool) (h:XkW n most=some res) :
 XaI Tryz.prog 182 0 ⟨⟨182,12,[(0,.int .i64 n),(1,.int .i64 most)],[.code XCV],[],false,none⟩,[],[],0⟩ (fun v H _=>Res 0 (XyN res) v H):=by
 unfold XkW at h
 refine Xa7 Xao hS true 3000 ?_
 conv=>whnf
 refine br.h h ?_ ?_ ?_
 ·rfl
 ·clear h;intro hb h;conv=>whnf
  all_goals (cases h;exact Res.z rfl rfl rfl)
 clear h;intro hb h;conv=>whnf
 all_goals (cases h;exact Res.z rfl rfl rfl)
theorem ok182 (hS:Xai Tryz.prog (Xav (Xt5))):Xar Tryz.prog 182 (s182 (XkW)):=by
 refine Xar.Xay Xao (fun ar os r ha hr=>?_) ⟨Tryz.f182,rfl,by decide,rfl⟩
 replace hr:r182 (XkW) ar (XaD os)=some r:=hr
 unfold r182 at hr
 generalize hc:XaD os=C at hr
 replace hr:=dV.elim hr;obtain ⟨v0,l1,y0,rfl,e0,hr⟩:=hr;obtain rfl:=XbS _ _ _ e0
 replace hr:=dV.elim hr;obtain ⟨v1,l2,y1,rfl,e1,hr⟩:=hr;obtain rfl:=XbS _ _ _ e1
 replace hr:=Xc2 hr;obtain ⟨rfl,rfl,x,h,rfl⟩:=hr
 obtain rfl:=Xas hc
 exact ⟨_,rfl,XAD hS _ _ x h⟩
def XeY:Int→Int→Option Bool:=XkW
theorem XLq:Xar Tryz.prog 182 (s182 XeY):=ok182 (Xai.XaW trivial)
def XhJ (XaF:Xaa→Option Bool) (a:Xaa):Option Bool:=
 (XaF a).bind fun xr=>
 cond (xr)
  (
  some (!a.V6))
  (
  some (false))
def XyO (x:Bool):Xca:=⟨.bool x,[],[]⟩
def r183 (g:Xaa→Option Bool):Dec:=dV Xbp fun (y0:Xaa)=>XcO (ofG (g y0) XyO)
theorem X0U {g:Xaa→Option Bool} {y0:Xaa} {x:Bool} (hx:g y0=some x):r183 g [.agg ⟨[.bool y0.V6,.int .u64 y0.Hi,.int .u64 y0.Lo]⟩] []=some (XyO x):=(XaT (Xa8 _)).trans (Xa0 hx)
def s183 (g:Xaa→Option Bool):Xbr:=⟨[.v],r183 g⟩
theorem Xus {g:Xaa→Option Bool} {y0:Xaa} {x:Bool} (hx:g y0=some x):(s183 g).run [.agg ⟨[.bool y0.V6,.int .u64 y0.Hi,.int .u64 y0.Lo]⟩] []=some (XyO x):=X0U hx
abbrev Xt6 (XaF:Xaa→Option Bool):List (Nat×Xbr):=[(84,s84 XaF)]
theorem Xx6 (XaF:Xaa→Option Bool) (hS:Xai Tryz.prog (Xav (Xt6 XaF))) (a:Xaa) (res:Bool) (h:XhJ XaF a=some res) :
 XaI Tryz.prog 183 0 ⟨⟨183,10,[(0,.agg ⟨[.bool a.V6,.int .u64 a.Hi,.int .u64 a.Lo]⟩)],[.code XCU],[],false,none⟩,[],[],0⟩ (fun v H _=>Res 0 (XyO res) v H):=by
 unfold XhJ at h
 refine Xa7 Xao hS true 3000 ?_
 conv=>whnf
 replace h:=Xal.elim h;obtain ⟨xr,hy,h⟩:=h
 refine XaK.q rfl rfl (Xna hy) rfl rfl rfl ?_
 conv=>whnf
 refine br.h h ?_ ?_ ?_
 ·rfl
 ·clear h;intro hb h;conv=>whnf
  all_goals (cases h;exact Res.z rfl rfl rfl)
 clear h;intro hb h;conv=>whnf
 all_goals (cases h;exact Res.z rfl rfl rfl)
theorem ok183 (XaF:Xaa→Option Bool) (hS:Xai Tryz.prog (Xav (Xt6 XaF))):Xar Tryz.prog 183 (s183 (XhJ XaF)):=by
 refine Xar.Xay Xao (fun ar os r ha hr=>?_) ⟨Tryz.f183,rfl,by decide,rfl⟩
 replace hr:r183 (XhJ XaF) ar (XaD os)=some r:=hr
 unfold r183 at hr
 generalize hc:XaD os=C at hr
 replace hr:=dV.elim hr;obtain ⟨v0,l1,y0,rfl,e0,hr⟩:=hr;obtain rfl:=Xa1 _ _ e0
 replace hr:=Xc2 hr;obtain ⟨rfl,rfl,x,h,rfl⟩:=hr
 obtain rfl:=Xas hc
 exact ⟨_,rfl,Xx6 XaF hS _ x h⟩
def XcZ:Xaa→Option Bool:=XhJ XaF
theorem XKb:Xar Tryz.prog 183 (s183 XcZ):=ok183 XaF (Xai.XaW ⟨Xrh,trivial⟩)
def XgE (XcZ:Xaa→Option Bool) (XeY:Int→Int→Option Bool) (ha0:Xag):Option Bool:=
 (XeY ha0.Class 255).bind fun i=>
 cond (i)
  (
  (XeY ha0.Mark 65535).bind fun i1=>
  cond (i1)
   (
   (XeY ha0.TTL 255).bind fun i2=>
   cond (i2)
    (
    (XeY ha0.Proto 255).bind fun i3=>
    cond (i3)
     (
     (XcZ ha0.Src).bind fun f=>
     cond (f)
      (
      (XcZ ha0.Dst).bind fun f1=>
      cond (f1)
       (
       cond (decide ((ha0.Options.length:Int)≤40))
        (
        some (((ha0.Options.length:Int).tmod 4)==0))
        (
        some (false)))
       (
       some (false)))
      (
      some (false)))
     (
     some (false)))
    (
    some (false)))
   (
   some (false)))
  (
  some (false))
def Xzq (x:Bool):Xca:=⟨.bool x,[],[]⟩
def r142 (g:Xag→Option Bool):Dec:=dV XdC fun (y0:Xag)=>XcO (ofG (g y0) Xzq)
theorem X80 {g:Xag→Option Bool} {y0:Xag} {x:Bool} (hx:g y0=some x):r142 g [.agg ⟨[.int .i64 y0.Class,.int .i64 y0.Mark,.bool y0.Whole,.int .i64 y0.TTL,.int .i64 y0.Proto,.bool y0.Src.V6,.int .u64 y0.Src.Hi,.int .u64 y0.Src.Lo,.bool y0.Dst.V6,.int .u64 y0.Dst.Hi,.int .u64 y0.Dst.Lo,.string ⟨⟨y0.Options⟩⟩]⟩] []=some (Xzq x):=(XaT (Xfn _)).trans (Xa0 hx)
def s142 (g:Xag→Option Bool):Xbr:=⟨[.v],r142 g⟩
theorem XFe {g:Xag→Option Bool} {y0:Xag} {x:Bool} (hx:g y0=some x):(s142 g).run [.agg ⟨[.int .i64 y0.Class,.int .i64 y0.Mark,.bool y0.Whole,.int .i64 y0.TTL,.int .i64 y0.Proto,.bool y0.Src.V6,.int .u64 y0.Src.Hi,.int .u64 y0.Src.Lo,.bool y0.Dst.V6,.int .u64 y0.Dst.Hi,.int .u64 y0.Dst.Lo,.string ⟨⟨y0.Options⟩⟩]⟩] []=some (Xzq x):=X80 hx
abbrev XuQ (XcZ:Xaa→Option Bool) (XeY:Int→Int→Option Bool):List (Nat×Xbr):=[(183,s183 XcZ),(182,s182 XeY)]
theorem Xw1 (XcZ:Xaa→Option Bool) (XeY:Int→Int→Option Bool) (hS:Xai Tryz.prog (Xav (XuQ XcZ XeY))) (ha0:Xag) (res:Bool) (h:XgE XcZ XeY ha0=some res) :
 XaI Tryz.prog 142 0 ⟨⟨142,44,[(0,.agg ⟨[.int .i64 ha0.Class,.int .i64 ha0.Mark,.bool ha0.Whole,.int .i64 ha0.TTL,.int .i64 ha0.Proto,.bool ha0.Src.V6,.int .u64 ha0.Src.Hi,.int .u64 ha0.Src.Lo,.bool ha0.Dst.V6,.int .u64 ha0.Dst.Hi,.int .u64 ha0.Dst.Lo,.string ⟨⟨ha0.Options⟩⟩]⟩)],[.code XBz],[],false,none⟩,[],[],0⟩ (fun v H _=>Res 0 (Xzq res) v H):=by
 unfold XgE at h
 refine Xa7 Xao hS true 3000 ?_
 conv=>whnf
 replace h:=Xal.elim h;obtain ⟨i,hy,h⟩:=h
 refine XaK.q rfl rfl (XnH hy) rfl rfl rfl ?_
 conv=>whnf
 refine br.h2 h ?_ ?_ ?_
 ·rfl
 ·clear h;intro hb h;conv=>whnf
  all_goals (cases h;exact Res.z rfl rfl rfl)
 clear h;intro hb h;conv=>whnf
 replace h:=Xal.elim h;obtain ⟨i1,hy,h⟩:=h
 refine XaK.q rfl rfl (XnH hy) rfl rfl rfl ?_
 conv=>whnf
 refine br.h2 h ?_ ?_ ?_
 ·rfl
 ·clear h;intro hb h;conv=>whnf
  all_goals (cases h;exact Res.z rfl rfl rfl)
 clear h;intro hb h;conv=>whnf
 replace h:=Xal.elim h;obtain ⟨i2,hy,h⟩:=h
 refine XaK.q rfl rfl (XnH hy) rfl rfl rfl ?_
 conv=>whnf
 refine br.h2 h ?_ ?_ ?_
 ·rfl
 ·clear h;intro hb h;conv=>whnf
  all_goals (cases h;exact Res.z rfl rfl rfl)
 clear h;intro hb h;conv=>whnf
 replace h:=Xal.elim h;obtain ⟨i3,hy,h⟩:=h
 refine XaK.q rfl rfl (XnH hy) rfl rfl rfl ?_
 conv=>whnf
 refine br.h2 h ?_ ?_ ?_
 ·rfl
 ·clear h;intro hb h;conv=>whnf
  all_goals (cases h;exact Res.z rfl rfl rfl)
 clear h;intro hb h;conv=>whnf
 replace h:=Xal.elim h;obtain ⟨f,hy,h⟩:=h
 refine XaK.q rfl rfl (Xus hy) rfl rfl rfl ?_
 conv=>whnf
 refine br.h2 h ?_ ?_ ?_
 ·rfl
 ·clear h;intro hb h;conv=>whnf
  all_goals (cases h;exact Res.z rfl rfl rfl)
 clear h;intro hb h;conv=>whnf
 replace h:=Xal.elim h;obtain ⟨f1,hy,h⟩:=h
 refine XaK.q rfl rfl (Xus hy) rfl rfl rfl ?_
 conv=>whnf
 refine br.h2 h ?_ ?_ ?_
 ·rfl
 ·clear h;intro hb h;conv=>whnf
  all_goals (cases h;exact Res.z rfl rfl rfl)
 clear h;intro hb h;conv=>whnf
 refine br.h h ?_ ?_ ?_
 ·rfl
 ·clear h;intro hb h;conv=>whnf
  all_goals (cases h;exact Res.z rfl rfl rfl)
 clear h;intro hb h;conv=>whnf
 all_goals (cases h;exact Res.z rfl rfl rfl)
theorem ok142 (XcZ:Xaa→Option Bool) (XeY:Int→Int→Option Bool) (hS:Xai Tryz.prog (Xav (XuQ XcZ XeY))):Xar Tryz.prog 142 (s142 (XgE XcZ XeY)):=by
 refine Xar.Xay Xao (fun ar os r ha hr=>?_) ⟨Tryz.f142,rfl,by decide,rfl⟩
 replace hr:r142 (XgE XcZ XeY) ar (XaD os)=some r:=hr
 unfold r142 at hr
 generalize hc:XaD os=C at hr
 replace hr:=dV.elim hr;obtain ⟨v0,l1,y0,rfl,e0,hr⟩:=hr;obtain rfl:=XeT _ _ e0
 replace hr:=Xc2 hr;obtain ⟨rfl,rfl,x,h,rfl⟩:=hr
 obtain rfl:=Xas hc
 exact ⟨_,rfl,Xw1 XcZ XeY hS _ x h⟩
def Xcw:Xag→Option Bool:=XgE XcZ XeY
theorem XJy:Xar Tryz.prog 142 (s142 Xcw):=ok142 XcZ XeY (Xai.XaW ⟨XKb,XLq,trivial⟩)
def Xjj (XbP:(List UInt8)→Option Int) (Xbm:(List UInt8)→Int→Int→Int→Option (List UInt8)) (Xbj:Xaa→Option (List UInt8)) (Xcw:Xag→Option Bool) (Xbi:Int→Int→Option (List UInt8)) (ha0:Xag) (payload:List UInt8):Option ((List UInt8)×Int):=
 (Xcw ha0).bind fun xr=>
 cond (!xr)
  (
  some (([],1)))
  (
  let t:=wI .i64 (20+(ha0.Options.length:Int))
  let t1:=decide ((payload.length:Int)>(wI .i64 (65535 - t)))
  cond (t1)
   (
   some (([],5)))
   (
   cond (ha0.Whole)
    (
    (Xbi (wI .i64 (64+(wI .i64 (t.tdiv 4)))) 1).bind fun n=>
    (Xbi ha0.Class 1).bind fun n1=>
    XaJ (decide (n.length+n1.length<2^63)) <|
    (Xbi (wI .i64 (t+(payload.length:Int))) 2).bind fun n2=>
    XaJ (decide ((n++n1).length+n2.length<2^63)) <|
    (Xbi ha0.Mark 2).bind fun n3=>
    XaJ (decide (((n++n1)++n2).length+n3.length<2^63)) <|
    (Xbi 64 1).bind fun n4=>
    XaJ (decide ((((n++n1)++n2)++n3).length+n4.length<2^63)) <|
    (Xbi 0 1).bind fun n5=>
    XaJ (decide (((((n++n1)++n2)++n3)++n4).length+n5.length<2^63)) <|
    (Xbi ha0.TTL 1).bind fun n6=>
    XaJ (decide ((((((n++n1)++n2)++n3)++n4)++n5).length+n6.length<2^63)) <|
    let t2:=(((((n++n1)++n2)++n3)++n4)++n5)++n6
    (Xbi ha0.Proto 1).bind fun n7=>
    XaJ (decide (t2.length+n7.length<2^63)) <|
    (Xbi 0 2).bind fun n8=>
    XaJ (decide ((t2++n7).length+n8.length<2^63)) <|
    (Xbj ha0.Src).bind fun p=>
    XaJ (decide (((t2++n7)++n8).length+p.length<2^63)) <|
    (Xbj ha0.Dst).bind fun p1=>
    XaJ (decide ((((t2++n7)++n8)++p).length+p1.length<2^63)) <|
    XaJ (decide (((((t2++n7)++n8)++p)++p1).length+ha0.Options.length<2^63)) <|
    let t3:=((((t2++n7)++n8)++p)++p1)++ha0.Options
    (XbP t3).bind fun xo=>
    (Xbm t3 10 2 (wI .u64 xo)).bind fun s=>
    XaJ (decide (s.length+payload.length<2^63)) <|
    some ((s++payload,0)))
    (
    (Xbi (wI .i64 (64+(wI .i64 (t.tdiv 4)))) 1).bind fun n9=>
    (Xbi ha0.Class 1).bind fun n10=>
    XaJ (decide (n9.length+n10.length<2^63)) <|
    (Xbi (wI .i64 (t+(payload.length:Int))) 2).bind fun n11=>
    XaJ (decide ((n9++n10).length+n11.length<2^63)) <|
    (Xbi ha0.Mark 2).bind fun n12=>
    XaJ (decide (((n9++n10)++n11).length+n12.length<2^63)) <|
    (Xbi 0 1).bind fun n13=>
    XaJ (decide ((((n9++n10)++n11)++n12).length+n13.length<2^63)) <|
    (Xbi 0 1).bind fun n14=>
    XaJ (decide (((((n9++n10)++n11)++n12)++n13).length+n14.length<2^63)) <|
    let t4:=((((n9++n10)++n11)++n12)++n13)++n14
    (Xbi ha0.TTL 1).bind fun n15=>
    XaJ (decide (t4.length+n15.length<2^63)) <|
    (Xbi ha0.Proto 1).bind fun n16=>
    XaJ (decide ((t4++n15).length+n16.length<2^63)) <|
    (Xbi 0 2).bind fun n17=>
    XaJ (decide (((t4++n15)++n16).length+n17.length<2^63)) <|
    (Xbj ha0.Src).bind fun p2=>
    XaJ (decide ((((t4++n15)++n16)++n17).length+p2.length<2^63)) <|
    (Xbj ha0.Dst).bind fun p3=>
    XaJ (decide (((((t4++n15)++n16)++n17)++p2).length+p3.length<2^63)) <|
    let t5:=((((t4++n15)++n16)++n17)++p2)++p3
    XaJ (decide (t5.length+ha0.Options.length<2^63)) <|
    (XbP (t5++ha0.Options)).bind fun xo1=>
    (Xbm (t5++ha0.Options) 10 2 (wI .u64 xo1)).bind fun s1=>
    XaJ (decide (s1.length+payload.length<2^63)) <|
    some ((s1++payload,0)))))
def rx86 (x:(List UInt8)×Int):Xca:=⟨.tuple ⟨[.string ⟨⟨x.1⟩⟩,.int .i64 x.2]⟩,[],[]⟩
def r86 (g:Xag→(List UInt8)→Option ((List UInt8)×Int)):Dec:=dV XdC fun (y0:Xag)=>dV asS fun (y1:List UInt8)=>XcO (ofG (g y0 y1) rx86)
theorem r86_c {g:Xag→(List UInt8)→Option ((List UInt8)×Int)} {y0:Xag} {y1:List UInt8} {x:(List UInt8)×Int} (hx:g y0 y1=some x):r86 g [.agg ⟨[.int .i64 y0.Class,.int .i64 y0.Mark,.bool y0.Whole,.int .i64 y0.TTL,.int .i64 y0.Proto,.bool y0.Src.V6,.int .u64 y0.Src.Hi,.int .u64 y0.Src.Lo,.bool y0.Dst.V6,.int .u64 y0.Dst.Hi,.int .u64 y0.Dst.Lo,.string ⟨⟨y0.Options⟩⟩]⟩,.string ⟨⟨y1⟩⟩] []=some (rx86 x):=(XaT (Xfn _)).trans ((XaT (Xcp)).trans (Xa0 hx))
def s86 (g:Xag→(List UInt8)→Option ((List UInt8)×Int)):Xbr:=⟨[.v,.v],r86 g⟩
theorem XCN {g:Xag→(List UInt8)→Option ((List UInt8)×Int)} {y0:Xag} {y1:List UInt8} {x:(List UInt8)×Int} (hx:g y0 y1=some x):(s86 g).run [.agg ⟨[.int .i64 y0.Class,.int .i64 y0.Mark,.bool y0.Whole,.int .i64 y0.TTL,.int .i64 y0.Proto,.bool y0.Src.V6,.int .u64 y0.Src.Hi,.int .u64 y0.Src.Lo,.bool y0.Dst.V6,.int .u64 y0.Dst.Hi,.int .u64 y0.Dst.Lo,.string ⟨⟨y0.Options⟩⟩]⟩,.string ⟨⟨y1⟩⟩] []=some (rx86 x):=r86_c hx
abbrev XCE (XbP:(List UInt8)→Option Int) (Xbm:(List UInt8)→Int→Int→Int→Option (List UInt8)) (Xbj:Xaa→Option (List UInt8)) (Xcw:Xag→Option Bool) (Xbi:Int→Int→Option (List UInt8)):List (Nat×Xbr):=[(100,XSe XbP),(99,s99 Xbm),(141,XR4 Xbj),(142,s142 Xcw),(143,X5U Xbi)]
theorem XOV (XbP:(List UInt8)→Option Int) (Xbm:(List UInt8)→Int→Int→Int→Option (List UInt8)) (Xbj:Xaa→Option (List UInt8)) (Xcw:Xag→Option Bool) (Xbi:Int→Int→Option (List UInt8)) (hS:Xai Tryz.prog (Xav (XCE XbP Xbm Xbj Xcw Xbi))) (ha0:Xag) (payload:List UInt8) (res:(List UInt8)×Int) (h:Xjj XbP Xbm Xbj Xcw Xbi ha0 payload=some res) :
 XaI Tryz.prog 86 0 ⟨⟨86,74,[(0,.agg ⟨[.int .i64 ha0.Class,.int .i64 ha0.Mark,.bool ha0.Whole,.int .i64 ha0.TTL,.int .i64 ha0.Proto,.bool ha0.Src.V6,.int .u64 ha0.Src.Hi,.int .u64 ha0.Src.Lo,.bool ha0.Dst.V6,.int .u64 ha0.Dst.Hi,.int .u64 ha0.Dst.Lo,.string ⟨⟨ha0.Options⟩⟩]⟩),(1,.string ⟨⟨payload⟩⟩)],[.code XBV],[],false,none⟩,[],[],0⟩ (fun v H _=>Res 0 (rx86 res) v H):=by
 unfold Xjj at h
 refine Xa7 Xao hS true 3000 ?_
 conv=>whnf
 replace h:=Xal.elim h;obtain ⟨xr,hy,h⟩:=h
 refine XaK.q rfl rfl (XFe hy) rfl rfl rfl ?_
 conv=>whnf
 refine br.h h ?_ ?_ ?_
 ·rfl
 ·clear h;intro hb h;conv=>whnf
  all_goals (cases h;exact Res.z rfl rfl rfl)
 clear h;intro hb h;conv=>whnf
 let t:Int:=wI .i64 (20+(ha0.Options.length:Int))
 let t1:Bool:=decide ((payload.length:Int)>(wI .i64 (65535 - t)))
 refine br.h h ?_ ?_ ?_
 ·rfl
 ·clear h;intro hb h;conv=>whnf
  all_goals (cases h;exact Res.z rfl rfl rfl)
 clear h;intro hb h;conv=>whnf
 refine br.h h ?_ ?_ ?_
 ·rfl
 ·clear h;intro hb h;conv=>whnf
  replace h:=Xal.elim h;obtain ⟨n,hy,h⟩:=h
  refine XaK.q rfl rfl (XcN hy) rfl rfl rfl ?_
  conv=>whnf
  replace h:=Xal.elim h;obtain ⟨n1,hy,h⟩:=h
  refine XaK.q rfl rfl (XcN hy) rfl rfl rfl ?_
  conv=>whnf
  replace h:=XaJ.elim h;obtain ⟨hb,h⟩:=h
  first|(refine req.intro hb ?_;conv=>whnf)|skip
  replace h:=Xal.elim h;obtain ⟨n2,hy,h⟩:=h
  refine XaK.q rfl rfl (XcN hy) rfl rfl rfl ?_
  conv=>whnf
  replace h:=XaJ.elim h;obtain ⟨hb,h⟩:=h
  first|(refine req.intro hb ?_;conv=>whnf)|skip
  replace h:=Xal.elim h;obtain ⟨n3,hy,h⟩:=h
  refine XaK.q rfl rfl (XcN hy) rfl rfl rfl ?_
  conv=>whnf
  replace h:=XaJ.elim h;obtain ⟨hb,h⟩:=h
  first|(refine req.intro hb ?_;conv=>whnf)|skip
  replace h:=Xal.elim h;obtain ⟨n4,hy,h⟩:=h
  refine XaK.q rfl rfl (XcN hy) rfl rfl rfl ?_
  conv=>whnf
  replace h:=XaJ.elim h;obtain ⟨hb,h⟩:=h
  first|(refine req.intro hb ?_;conv=>whnf)|skip
  replace h:=Xal.elim h;obtain ⟨n5,hy,h⟩:=h
  refine XaK.q rfl rfl (XcN hy) rfl rfl rfl ?_
  conv=>whnf
  replace h:=XaJ.elim h;obtain ⟨hb,h⟩:=h
  first|(refine req.intro hb ?_;conv=>whnf)|skip
  replace h:=Xal.elim h;obtain ⟨n6,hy,h⟩:=h
  refine XaK.q rfl rfl (XcN hy) rfl rfl rfl ?_
  conv=>whnf
  replace h:=XaJ.elim h;obtain ⟨hb,h⟩:=h
  first|(refine req.intro hb ?_;conv=>whnf)|skip
  let t2:List UInt8:=(((((n++n1)++n2)++n3)++n4)++n5)++n6
  replace h:=Xal.elim h;obtain ⟨n7,hy,h⟩:=h
  refine XaK.q rfl rfl (XcN hy) rfl rfl rfl ?_
  conv=>whnf
  replace h:=XaJ.elim h;obtain ⟨hb,h⟩:=h
  first|(refine req.intro hb ?_;conv=>whnf)|skip
  replace h:=Xal.elim h;obtain ⟨n8,hy,h⟩:=h
  refine XaK.q rfl rfl (XcN hy) rfl rfl rfl ?_
  conv=>whnf
  replace h:=XaJ.elim h;obtain ⟨hb,h⟩:=h
  first|(refine req.intro hb ?_;conv=>whnf)|skip
  replace h:=Xal.elim h;obtain ⟨p,hy,h⟩:=h
  refine XaK.q rfl rfl (Xhn hy) rfl rfl rfl ?_
  conv=>whnf
  replace h:=XaJ.elim h;obtain ⟨hb,h⟩:=h
  first|(refine req.intro hb ?_;conv=>whnf)|skip
  replace h:=Xal.elim h;obtain ⟨p1,hy,h⟩:=h
  refine XaK.q rfl rfl (Xhn hy) rfl rfl rfl ?_
  conv=>whnf
  replace h:=XaJ.elim h;obtain ⟨hb,h⟩:=h
  first|(refine req.intro hb ?_;conv=>whnf)|skip
  replace h:=XaJ.elim h;obtain ⟨hb,h⟩:=h
  first|(refine req.intro hb ?_;conv=>whnf)|skip
  let t3:List UInt8:=((((t2++n7)++n8)++p)++p1)++ha0.Options
  replace h:=Xal.elim h;obtain ⟨xo,hy,h⟩:=h
  refine XaK.q rfl rfl (Xol hy) rfl rfl rfl ?_
  conv=>whnf
  replace h:=Xal.elim h;obtain ⟨s,hy,h⟩:=h
  refine XaK.q rfl rfl (XoV hy) rfl rfl rfl ?_
  conv=>whnf
  replace h:=XaJ.elim h;obtain ⟨hb,h⟩:=h
  first|(refine req.intro hb ?_;conv=>whnf)|skip
  all_goals (cases h;exact Res.z rfl rfl rfl)
 clear h;intro hb h;conv=>whnf
 replace h:=Xal.elim h;obtain ⟨n9,hy,h⟩:=h
 refine XaK.q rfl rfl (XcN hy) rfl rfl rfl ?_
 conv=>whnf
 replace h:=Xal.elim h;obtain ⟨n10,hy,h⟩:=h
 refine XaK.q rfl rfl (XcN hy) rfl rfl rfl ?_
 conv=>whnf
 replace h:=XaJ.elim h;obtain ⟨hb,h⟩:=h
 first|(refine req.intro hb ?_;conv=>whnf)|skip
 replace h:=Xal.elim h;obtain ⟨n11,hy,h⟩:=h
 refine XaK.q rfl rfl (XcN hy) rfl rfl rfl ?_
 conv=>whnf
 replace h:=XaJ.elim h;obtain ⟨hb,h⟩:=h
 first|(refine req.intro hb ?_;conv=>whnf)|skip
 replace h:=Xal.elim h;obtain ⟨n12,hy,h⟩:=h
 refine XaK.q rfl rfl (XcN hy) rfl rfl rfl ?_
 conv=>whnf
 replace h:=XaJ.elim h;obtain ⟨hb,h⟩:=h
 first|(refine req.intro hb ?_;conv=>whnf)|skip
 replace h:=Xal.elim h;obtain ⟨n13,hy,h⟩:=h
 refine XaK.q rfl rfl (XcN hy) rfl rfl rfl ?_
 conv=>whnf
 replace h:=XaJ.elim h;obtain ⟨hb,h⟩:=h
 first|(refine req.intro hb ?_;conv=>whnf)|skip
 replace h:=Xal.elim h;obtain ⟨n14,hy,h⟩:=h
 refine XaK.q rfl rfl (XcN hy) rfl rfl rfl ?_
 conv=>whnf
 replace h:=XaJ.elim h;obtain ⟨hb,h⟩:=h
 first|(refine req.intro hb ?_;conv=>whnf)|skip
 let t4:List UInt8:=((((n9++n10)++n11)++n12)++n13)++n14
 replace h:=Xal.elim h;obtain ⟨n15,hy,h⟩:=h
 refine XaK.q rfl rfl (XcN hy) rfl rfl rfl ?_
 conv=>whnf
 replace h:=XaJ.elim h;obtain ⟨hb,h⟩:=h
 first|(refine req.intro hb ?_;conv=>whnf)|skip
 replace h:=Xal.elim h;obtain ⟨n16,hy,h⟩:=h
 refine XaK.q rfl rfl (XcN hy) rfl rfl rfl ?_
 conv=>whnf
 replace h:=XaJ.elim h;obtain ⟨hb,h⟩:=h
 first|(refine req.intro hb ?_;conv=>whnf)|skip
 replace h:=Xal.elim h;obtain ⟨n17,hy,h⟩:=h
 refine XaK.q rfl rfl (XcN hy) rfl rfl rfl ?_
 conv=>whnf
 replace h:=XaJ.elim h;obtain ⟨hb,h⟩:=h
 first|(refine req.intro hb ?_;conv=>whnf)|skip
 replace h:=Xal.elim h;obtain ⟨p2,hy,h⟩:=h
 refine XaK.q rfl rfl (Xhn hy) rfl rfl rfl ?_
 conv=>whnf
 replace h:=XaJ.elim h;obtain ⟨hb,h⟩:=h
 first|(refine req.intro hb ?_;conv=>whnf)|skip
 replace h:=Xal.elim h;obtain ⟨p3,hy,h⟩:=h
 refine XaK.q rfl rfl (Xhn hy) rfl rfl rfl ?_
 conv=>whnf
 replace h:=XaJ.elim h;obtain ⟨hb,h⟩:=h
 first|(refine req.intro hb ?_;conv=>whnf)|skip
 let t5:List UInt8:=((((t4++n15)++n16)++n17)++p2)++p3
 replace h:=XaJ.elim h;obtain ⟨hb,h⟩:=h
 first|(refine req.intro hb ?_;conv=>whnf)|skip
 replace h:=Xal.elim h;obtain ⟨xo1,hy,h⟩:=h
 refine XaK.q rfl rfl (Xol hy) rfl rfl rfl ?_
 conv=>whnf
 replace h:=Xal.elim h;obtain ⟨s1,hy,h⟩:=h
 refine XaK.q rfl rfl (XoV hy) rfl rfl rfl ?_
 conv=>whnf
 replace h:=XaJ.elim h;obtain ⟨hb,h⟩:=h
 first|(refine req.intro hb ?_;conv=>whnf)|skip
 all_goals (cases h;exact Res.z rfl rfl rfl)
theorem ok86 (XbP:(List UInt8)→Option Int) (Xbm:(List UInt8)→Int→Int→Int→Option (List UInt8)) (Xbj:Xaa→Option (List UInt8)) (Xcw:Xag→Option Bool) (Xbi:Int→Int→Option (List UInt8)) (hS:Xai Tryz.prog (Xav (XCE XbP Xbm Xbj Xcw Xbi))):Xar Tryz.prog 86 (s86 (Xjj XbP Xbm Xbj Xcw Xbi)):=by
 refine Xar.Xay Xao (fun ar os r ha hr=>?_) ⟨Tryz.f86,rfl,by decide,rfl⟩
 replace hr:r86 (Xjj XbP Xbm Xbj Xcw Xbi) ar (XaD os)=some r:=hr
 unfold r86 at hr
 generalize hc:XaD os=C at hr
 replace hr:=dV.elim hr;obtain ⟨v0,l1,y0,rfl,e0,hr⟩:=hr;obtain rfl:=XeT _ _ e0
 replace hr:=dV.elim hr;obtain ⟨v1,l2,y1,rfl,e1,hr⟩:=hr;obtain rfl:=XbH _ _ e1
 replace hr:=Xc2 hr;obtain ⟨rfl,rfl,x,h,rfl⟩:=hr
 obtain rfl:=Xas hc
 exact ⟨_,rfl,XOV XbP Xbm Xbj Xcw Xbi hS _ _ x h⟩
def XdP:Xag→(List UInt8)→Option ((List UInt8)×Int):=Xjj XbP Xbm Xbj Xcw Xbi
theorem X4Z:Xar Tryz.prog 86 (s86 XdP):=ok86 XbP Xbm Xbj Xcw Xbi (Xai.XaW ⟨Xqy,XvB,Xp2,XJy,Xux,trivial⟩)
end Go.Vm.Code
namespace Go.Vm.Code
open Go Go.Vm
theorem Xse (n m:Int):Xbn n m=some (inR n m):=by
 unfold Xbn XdL inR
 by_cases h:0≤n
 ·rw [XaS h];simp [h]
 ·rw [XaO h];simp [h]
theorem XWy (n m:Int):XeY n m=some (inR n m):=by
 unfold XeY XkW inR
 by_cases h:0≤n
 ·rw [XaS (by omega)];simp [h]
 ·rw [XaO (by omega)];simp [h]
def four (a:Xaa):Bool:=!a.V6&&aok a
theorem XHl (a:Xaa):XbO a=some (four a):=by
 unfold XbO Xff four
 rw [XhI];cases a.V6<;>rfl
theorem Xye (a:Xaa):XcZ a=some (four a):=by
 unfold XcZ XhJ four
 rw [XgP];cases aok a<;>cases a.V6<;>rfl
def H5 (h:Xag):Bool:=inR h.Class 255&&inR h.Mark 65535&&inR h.TTL 255&&inR h.Proto 255&&four h.Src&&four h.Dst&&decide (h.Options.length%4=0)&&decide (h.Options.length≤40)
theorem XKd (h:Xag):Xbk h=some (H5 h):=by
 unfold Xbk Xc8 H5
 simp only [Xse,XHl,Option.bind_some,Xoc,XqF]
 cases inR h.Class 255<;>cases inR h.Mark 65535<;>cases inR h.TTL 255<;>cases inR h.Proto 255<;>cases four h.Src<;>cases four h.Dst<;>cases decide (h.Options.length%4=0)<;>rfl
theorem Xs4 (h:Xag):Xcw h=some (H5 h):=by
 unfold Xcw XgE H5
 simp only [XWy,Xye,Option.bind_some,Xoc,XqF]
 cases inR h.Class 255<;>cases inR h.Mark 65535<;>cases inR h.TTL 255<;>cases inR h.Proto 255<;>cases four h.Src<;>cases four h.Dst<;>cases decide (h.Options.length%4=0)<;>cases decide (h.Options.length≤40)<;>rfl
def hd5 (h:Xag) (n:Int):List UInt8:=
 XbV (64+((20+h.Options.length)/4:Nat)) 1++XbV h.Class 1++XbV n 2++XbV h.Mark 2++XbV (cond h.Whole 64 0) 1++XbV 0 1++XbV h.TTL 1++XbV h.Proto 1++XbV 0 2++Xco h.Src++Xco h.Dst++h.Options
theorem XvE (h:Xag) (n:Int):(hd5 h n).length≤104+h.Options.length:=by
 have a1:=XaY (64+((20+h.Options.length)/4:Nat)) 1
 have a2:=XaY h.Class 1
 have a3:=XaY n 2
 have a4:=XaY h.Mark 2
 have a5:=XaY (cond h.Whole 64 0) 1
 have a6:=XaY 0 1
 have a7:=XaY h.TTL 1
 have a8:=XaY h.Proto 1
 have a9:=XaY 0 2
 have b1:(Xco h.Src).length≤16:=by rw [Xc9];cases h.Src.V6<;>decide
 have b2:(Xco h.Dst).length≤16:=by rw [Xc9];cases h.Dst.V6<;>decide
 unfold hd5
 simp only [List.length_append];omega
def X9L (h:Xag) (l:List UInt8):List UInt8×Int:=
 if H5 h=false then ([],1) else if 65535 - (20+(h.Options.length:Int))<l.length then ([],5) else
  (Xpm (hd5 h (20+h.Options.length+l.length)) 10 2 (65535 - (norm (Xfk (hd5 h (20+h.Options.length+l.length))):Nat))++l,0)
theorem Xok (s:List UInt8) (p k n:Int):(Xpm s p k n).length≤s.length+8:=by
 unfold Xpm
 split
 ·simp;omega
 ·omega
theorem Xxi {t l:List UInt8} (ht:t.length≤2^20) (hl:l.length<2^30):((XaR t).bind fun xo=>(XaC t 10 2 (wI .u64 xo)).bind fun s=>XaJ (decide (s.length+l.length<2^63)) (some (s++l,(0:Int))))=some (Xpm t 10 2 (65535 - (norm (Xfk t):Nat))++l,0):=by
 have:=norm_le (Xfk t)
 have hs:=Xok t 10 2 (65535 - (norm (Xfk t):Nat))
 rw [Xz9 (by omega),Option.bind_some,XeJ (by omega) (by omega),Xq6 (by omega) (by omega),Option.bind_some,Xaz (by omega)]
theorem XoP {t l:List UInt8} (ht:t.length≤2^20) (hl:l.length<2^30):((XbP t).bind fun xo=>(Xbm t 10 2 (wI .u64 xo)).bind fun s=>XaJ (decide (s.length+l.length<2^63)) (some (s++l,(0:Int))))=some (Xpm t 10 2 (65535 - (norm (Xfk t):Nat))++l,0):=by
 have:=norm_le (Xfk t)
 have hs:=Xok t 10 2 (65535 - (norm (Xfk t):Nat))
 rw [XlR (by omega),Option.bind_some,XeJ (by omega) (by omega),Xjq (by omega) (by omega) (by omega),Option.bind_some,Xaz (by omega)]
theorem XCA {h:Xag} (hh:H5 h=true):(0≤h.Class∧h.Class≤255)∧(0≤h.Mark∧h.Mark≤65535)∧(0≤h.TTL∧h.TTL≤255)∧(0≤h.Proto∧h.Proto≤255)∧(h.Src.V6=false∧aok h.Src=true)∧(h.Dst.V6=false∧aok h.Dst=true)∧h.Options.length%4=0∧h.Options.length≤40:=by
 unfold H5 four at hh
 simp only [Bool.and_eq_true,XvI,Bool.not_eq_true',decide_eq_true_eq] at hh
 obtain ⟨⟨⟨⟨⟨⟨⟨a,b⟩,c⟩,d⟩,e⟩,f⟩,g⟩,i⟩:=hh
 exact ⟨a,b,c,d,e,f,g,i⟩
theorem p5_eq {h:Xag} {l:List UInt8} (h1:A4 h.Src) (h2:A4 h.Dst) (hl:l.length<2^20) (ho:h.Options.length<2^20):XbU h l=some (X9L h l):=by
 unfold XbU XfL X9L
 rw [XKd,Option.bind_some]
 cases hh:H5 h
 ·rfl
 obtain ⟨q1,q2,q3,q4,q5,q6,q7,q8⟩:=XCA hh
 simp only [Bool.not_true,cond_false]
 rw [if_neg (by decide),Xcg (n:=20+(h.Options.length:Int)) (by omega) (by omega),Xcg (n:=65535 - (20+(h.Options.length:Int))) (by omega) (by omega)]
 by_cases h5:(l.length:Int)>65535 - (20+(h.Options.length:Int))
 ·rw [XaS h5,if_pos (by omega)]
 rw [XaO h5,if_neg (by omega)]
 have b1:(Xco h.Src).length≤16:=by rw [Xc9];cases h.Src.V6<;>decide
 have b2:(Xco h.Dst).length≤16:=by rw [Xc9];cases h.Dst.V6<;>decide
 have eo:Xjh .i64 64 (wI .i64 (((20+h.Options.length)/4:Nat):Int))=64+(((20+h.Options.length)/4:Nat):Int):=by
  rw [Xcg (by omega) (by omega)]
  exact Xnf 4 (a:=4) (by omega) (by omega) (by omega) (by omega) (by omega)
 have hlen:=XvE h (20+h.Options.length+l.length)
 have key:∀ fl:Int,fl=cond h.Whole 64 0→((Xa4 [64+(((20+h.Options.length)/4:Nat):Int),1,h.Class,1,20+(h.Options.length:Int)+l.length,2,h.Mark,2,fl,1,0,1,h.TTL,1,h.Proto,1,0,2]).bind fun xr=>XaJ (decide ((Xco h.Src).length+(Xco h.Dst).length<2^63))<|XaJ (decide ((Xco h.Src++Xco h.Dst).length+h.Options.length<2^63))<|XaJ (decide (xr.length+((Xco h.Src++Xco h.Dst)++h.Options).length<2^63)) <|
  (XaR (xr++((Xco h.Src++Xco h.Dst)++h.Options))).bind fun xo=>(XaC (xr++((Xco h.Src++Xco h.Dst)++h.Options)) 10 2 (wI .u64 xo)).bind fun s=>XaJ (decide (s.length+l.length<2^63)) (some (s++l,(0:Int))))=some (Xpm (hd5 h (20+h.Options.length+l.length)) 10 2 (65535 - (norm (Xfk (hd5 h (20+h.Options.length+l.length))):Nat))++l,0):=by
  intro fl hfl
  have hfr:0≤fl∧fl≤64:=by subst hfl;cases h.Whole<;>decide
  have hrow:XRR [64+(((20+h.Options.length)/4:Nat):Int),1,h.Class,1,20+(h.Options.length:Int)+l.length,2,h.Mark,2,fl,1,0,1,h.TTL,1,h.Proto,1,0,2]=XbV (64+((20+h.Options.length)/4:Nat)) 1++(XbV h.Class 1++(XbV (20+(h.Options.length:Int)+l.length) 2++(XbV h.Mark 2++(XbV fl 1++(XbV 0 1++(XbV h.TTL 1++(XbV h.Proto 1++(XbV 0 2++[])))))))):=by
   simp only [XRR]
   rw [XeJ (n:=64+(((20+h.Options.length)/4:Nat):Int)) (by omega) (by omega),XeJ q1.1 (by omega),XeJ (n:=20+(h.Options.length:Int)+l.length) (by omega) (by omega),XeJ q2.1 (by omega),XeJ hfr.1 (by omega),XeJ q3.1 (by omega),XeJ q4.1 (by omega),show wI .u64 0=0 from rfl]
  rw [XFk (by simp) (by simp) (by simp),hrow,Option.bind_some]
  have e:XbV (64+((20+h.Options.length)/4:Nat)) 1++(XbV h.Class 1++(XbV (20+(h.Options.length:Int)+l.length) 2++(XbV h.Mark 2++(XbV fl 1++(XbV 0 1++(XbV h.TTL 1++(XbV h.Proto 1++(XbV 0 2++[]))))))))++(Xco h.Src++Xco h.Dst++h.Options)=hd5 h (20+h.Options.length+l.length):=by
   subst hfl;unfold hd5;simp only [List.append_assoc,List.append_nil]
  have hl2:=congrArg List.length e
  rw [List.length_append] at hl2
  rw [Xaz (by omega),Xaz (by simp only [List.length_append];omega),Xaz (by omega),e]
  exact Xxi (by omega) (by omega)
 rw [Xcg (n:=20+(h.Options.length:Int)+l.length) (by omega) (by omega),XI1,eo,Xnl h1 q5.2,Xnl h2 q6.2]
 simp only [Option.bind_some]
 cases hw:h.Whole
 ·rw [cond_false]
  have:=key 0 (by rw [hw];rfl)
  rw [hw] at *
  exact this
 ·rw [cond_true]
  have:=key 64 (by rw [hw];rfl)
  exact this
theorem XXz {h:Xag} {l:List UInt8} (h1:A4 h.Src) (h2:A4 h.Dst) (hl:l.length<2^20) (ho:h.Options.length<2^20):XdP h l=some (X9L h l):=by
 unfold XdP Xjj X9L
 rw [Xs4,Option.bind_some]
 cases hh:H5 h
 ·rfl
 obtain ⟨q1,q2,q3,q4,q5,q6,q7,q8⟩:=XCA hh
 simp only [Bool.not_true,cond_false]
 rw [if_neg (by decide),Xcg (n:=20+(h.Options.length:Int)) (by omega) (by omega),Xcg (n:=65535 - (20+(h.Options.length:Int))) (by omega) (by omega)]
 by_cases h5:(l.length:Int)>65535 - (20+(h.Options.length:Int))
 ·rw [XaS h5,if_pos (by omega)]
 rw [XaO h5,if_neg (by omega)]
 have b1:(Xco h.Src).length≤16:=by rw [Xc9];cases h.Src.V6<;>decide
 have b2:(Xco h.Dst).length≤16:=by rw [Xc9];cases h.Dst.V6<;>decide
 rw [Xcg (n:=20+(h.Options.length:Int)+l.length) (by omega) (by omega),XI1,Xcg (n:=(((20+h.Options.length)/4:Nat):Int)) (by omega) (by omega),Xcg (n:=64+(((20+h.Options.length)/4:Nat):Int)) (by omega) (by omega),Xly h1 q5.2,Xly h2 q6.2]
 simp only [XA3,Option.bind_some]
 rw [XeJ (n:=64+(((20+h.Options.length)/4:Nat):Int)) (by omega) (by omega),XeJ q1.1 (by omega),XeJ (n:=20+(h.Options.length:Int)+l.length) (by omega) (by omega),XeJ q2.1 (by omega),XeJ q3.1 (by omega),XeJ q4.1 (by omega),show wI .u64 0=0 from rfl,show wI .u64 64=64 from rfl]
 have a1:=XaY (64+((20+h.Options.length)/4:Nat)) 1
 have a2:=XaY h.Class 1
 have a3:=XaY (20+(h.Options.length:Int)+l.length) 2
 have a4:=XaY h.Mark 2
 have a5:=XaY 64 1
 have a6:=XaY 0 1
 have a7:=XaY h.TTL 1
 have a8:=XaY h.Proto 1
 have a9:=XaY 0 2
 have hlen:=XvE h (20+h.Options.length+l.length)
 cases hw:h.Whole
 ·rw [cond_false]
  have e:XbV (64+((20+h.Options.length)/4:Nat)) 1++XbV h.Class 1++XbV (20+(h.Options.length:Int)+l.length) 2++XbV h.Mark 2++XbV 0 1++XbV 0 1++XbV h.TTL 1++XbV h.Proto 1++XbV 0 2++Xco h.Src++Xco h.Dst++h.Options=hd5 h (20+h.Options.length+l.length):=by unfold hd5;rw [hw];rfl
  iterate 11 rw [Xaz (by first|omega|(simp only [List.length_append];omega))]
  rw [e]
  exact XoP (by omega) (by omega)
 ·rw [cond_true]
  have e:XbV (64+((20+h.Options.length)/4:Nat)) 1++XbV h.Class 1++XbV (20+(h.Options.length:Int)+l.length) 2++XbV h.Mark 2++XbV 64 1++XbV 0 1++XbV h.TTL 1++XbV h.Proto 1++XbV 0 2++Xco h.Src++Xco h.Dst++h.Options=hd5 h (20+h.Options.length+l.length):=by unfold hd5;rw [hw];rfl
  iterate 11 rw [Xaz (by first|omega|(simp only [List.length_append];omega))]
  rw [e]
  exact XoP (by omega) (by omega)
theorem XrD:∀ i:Fin 16,i.val≠14→Nat.testBit 18446744073709535231 i.val=true:=by decide +kernel
theorem Xr3 {x:Nat} (hx:x<65536):x &&& 18446744073709535231=0↔x=0∨x=16384:=by
 constructor
 ·intro h
  have hbit:∀ i,i≠14→x.testBit i=false:=by
   intro i hi
   by_cases h16:i<16
   ·have h1:(x &&& 18446744073709535231).testBit i=false:=by rw [h];exact Nat.zero_testBit i
    rw [Nat.testBit_and,XrD ⟨i,h16⟩ hi,Bool.and_true] at h1
    exact h1
   ·exact Nat.testBit_lt_two_pow (Nat.lt_of_lt_of_le hx (by
     have:2^16≤2^i:=Nat.pow_le_pow_right (by decide) (by omega)
     omega))
  cases h14:x.testBit 14
  ·left
   apply Nat.eq_of_testBit_eq
   intro i
   rw [Nat.zero_testBit]
   by_cases hi:i=14
   ·rw [hi,h14]
   ·exact hbit i hi
  ·right
   apply Nat.eq_of_testBit_eq
   intro i
   rw [show (16384:Nat)=2^14 from rfl,Nat.testBit_two_pow]
   by_cases hi:i=14
   ·rw [hi,h14];rfl
   ·rw [hbit i hi,decide_eq_false (fun e=>hi e.symm)]
 ·rintro (h|h)
  ·rw [h];rfl
  ·rw [h];rfl
theorem XZP {x:Nat} (hx:x<65536):Xza .i64 (x:Int) 16384=((x &&& 18446744073709535231:Nat):Int):=by
 have h:x &&& 18446744073709535231≤x:=Nat.and_le_left
 show IntKind.wrap .i64 _=_
 rw [show IntKind.bits .i64=64 from rfl,BitVec.toNat_and,XDO (by omega),show (~~~ (BitVec.ofInt 64 16384)).toNat=18446744073709535231 from rfl]
 exact Xcg (by omega) (by omega)
theorem XvR {a b:UInt8}:(Xza .i64 ((a.toNat:Int)*256+b.toNat) 16384 !=0)=decide ((a.toNat:Int)*256+b.toNat≠0∧(a.toNat:Int)*256+b.toNat≠16384):=by
 have h1:=a.toNat_lt
 have h2:=b.toNat_lt
 have hx:a.toNat*256+b.toNat<65536:=by omega
 rw [show (a.toNat:Int)*256+b.toNat=((a.toNat*256+b.toNat:Nat):Int) by omega,XZP hx,Bool.eq_iff_iff,bne_iff_ne,decide_eq_true_eq]
 have hz:=Xr3 hx
 generalize a.toNat*256+b.toNat=x at *
 generalize x &&& 18446744073709535231=y at *
 constructor
 ·intro h
  have:¬ (x=0∨x=16384):=fun e=>h (by have:=hz.2 e;omega)
  omega
 ·intro h e
  have:=hz.1 (by omega)
  omega
end Go.Vm.Code
namespace Go.Vm.Code
open Go Go.Vm Go.Proofs
set_option maxRecDepth 100000
set_option maxHeartbeats 4000000
set_option linter.unusedVariables false
def Xdo (ha0:Xaj):Option Bool:=
 cond (decide (ha0.Class<0))
  (
  some (false))
  (
  cond (decide (ha0.Class>255))
   (
   some (false))
   (
   cond (decide (ha0.Label<0))
    (
    some (false))
    (
    cond (decide (ha0.Label>1048575))
     (
     some (false))
     (
     cond (decide (ha0.Next<0))
      (
      some (false))
      (
      cond (decide (ha0.Next>255))
       (
       some (false))
       (
       cond (decide (ha0.Hop<0))
        (
        some (false))
        (
        cond (decide (ha0.Hop>255))
         (
         some (false))
         (
         cond (ha0.Src.V6)
          (
          some (ha0.Dst.V6))
          (
          some (false))))))))))
def XyG (x:Bool):Xca:=⟨.bool x,[],[]⟩
def r135 (g:Xaj→Option Bool):Dec:=dV Xel fun (y0:Xaj)=>XcO (ofG (g y0) XyG)
theorem X4i {g:Xaj→Option Bool} {y0:Xaj} {x:Bool} (hx:g y0=some x):r135 g [.agg ⟨[.int .i64 y0.Class,.int .i64 y0.Label,.int .i64 y0.Next,.int .i64 y0.Hop,.bool y0.Src.V6,.int .u64 y0.Src.Hi,.int .u64 y0.Src.Lo,.bool y0.Dst.V6,.int .u64 y0.Dst.Hi,.int .u64 y0.Dst.Lo]⟩] []=some (XyG x):=(XaT (Xf5 _)).trans (Xa0 hx)
def s135 (g:Xaj→Option Bool):Xbr:=⟨[.v],r135 g⟩
theorem XKG {g:Xaj→Option Bool} {y0:Xaj} {x:Bool} (hx:g y0=some x):(s135 g).run [.agg ⟨[.int .i64 y0.Class,.int .i64 y0.Label,.int .i64 y0.Next,.int .i64 y0.Hop,.bool y0.Src.V6,.int .u64 y0.Src.Hi,.int .u64 y0.Src.Lo,.bool y0.Dst.V6,.int .u64 y0.Dst.Hi,.int .u64 y0.Dst.Lo]⟩] []=some (XyG x):=X4i hx
abbrev Xub:List (Nat×Xbr):=[]
theorem XyY (hS:Xai Tryz.prog (Xav (Xub))) (ha0:Xaj) (res:Bool) (h:Xdo ha0=some res) :
 XaI Tryz.prog 135 0 ⟨⟨135,42,[(0,.agg ⟨[.int .i64 ha0.Class,.int .i64 ha0.Label,.int .i64 ha0.Next,.int .i64 ha0.Hop,.bool ha0.Src.V6,.int .u64 ha0.Src.Hi,.int .u64 ha0.Src.Lo,.bool ha0.Dst.V6,.int .u64 ha0.Dst.Hi,.int .u64 ha0.Dst.Lo]⟩)],[.code XtV],[],false,none⟩,[],[],0⟩ (fun v H _=>Res 0 (XyG res) v H):=by
 unfold Xdo at h
 refine Xa7 Xao hS true 3000 ?_
 conv=>whnf
 refine Xa7 Xao hS true 3000 ?_
 conv=>whnf
 refine br.h h ?_ ?_ ?_
 ·rfl
 ·clear h;intro hb h;conv=>whnf
  all_goals (cases h;exact Res.z rfl rfl rfl)
 clear h;intro hb h;conv=>whnf
 refine br.h h ?_ ?_ ?_
 ·rfl
 ·clear h;intro hb h;conv=>whnf
  all_goals (cases h;exact Res.z rfl rfl rfl)
 clear h;intro hb h;conv=>whnf
 refine Xa7 Xao hS true 3000 ?_
 conv=>whnf
 refine br.h h ?_ ?_ ?_
 ·rfl
 ·clear h;intro hb h;conv=>whnf
  all_goals (cases h;exact Res.z rfl rfl rfl)
 clear h;intro hb h;conv=>whnf
 refine br.h h ?_ ?_ ?_
 ·rfl
 ·clear h;intro hb h;conv=>whnf
  all_goals (cases h;exact Res.z rfl rfl rfl)
 clear h;intro hb h;conv=>whnf
 refine Xa7 Xao hS true 3000 ?_
 conv=>whnf
 refine br.h h ?_ ?_ ?_
 ·rfl
 ·clear h;intro hb h;conv=>whnf
  all_goals (cases h;exact Res.z rfl rfl rfl)
 clear h;intro hb h;conv=>whnf
 refine br.h h ?_ ?_ ?_
 ·rfl
 ·clear h;intro hb h;conv=>whnf
  all_goals (cases h;exact Res.z rfl rfl rfl)
 clear h;intro hb h;conv=>whnf
 refine Xa7 Xao hS true 3000 ?_
 conv=>whnf
 refine br.h h ?_ ?_ ?_
 ·rfl
 ·clear h;intro hb h;conv=>whnf
  all_goals (cases h;exact Res.z rfl rfl rfl)
 clear h;intro hb h;conv=>whnf
 refine br.h h ?_ ?_ ?_
 ·rfl
 ·clear h;intro hb h;conv=>whnf
  all_goals (cases h;exact Res.z rfl rfl rfl)
 clear h;intro hb h;conv=>whnf
 refine Xa7 Xao hS true 3000 ?_
 conv=>whnf
 refine br.h h ?_ ?_ ?_
 ·rfl
 ·clear h;intro hb h;conv=>whnf
  all_goals (cases h;exact Res.z rfl rfl rfl)
 clear h;intro hb h;conv=>whnf
 all_goals (cases h;exact Res.z rfl rfl rfl)
theorem ok135 (hS:Xai Tryz.prog (Xav (Xub))):Xar Tryz.prog 135 (s135 (Xdo)):=by
 refine Xar.Xay Xao (fun ar os r ha hr=>?_) ⟨Tryz.f135,rfl,by decide,rfl⟩
 replace hr:r135 (Xdo) ar (XaD os)=some r:=hr
 unfold r135 at hr
 generalize hc:XaD os=C at hr
 replace hr:=dV.elim hr;obtain ⟨v0,l1,y0,rfl,e0,hr⟩:=hr;obtain rfl:=XfA _ _ e0
 replace hr:=Xc2 hr;obtain ⟨rfl,rfl,x,h,rfl⟩:=hr
 obtain rfl:=Xas hc
 exact ⟨_,rfl,XyY hS _ x h⟩
def Xbs:Xaj→Option Bool:=Xdo
theorem XGt:Xar Tryz.prog 135 (s135 Xbs):=ok135 (Xai.XaW trivial)
def XgL (Xa3:Xaa→Option (List UInt8)) (Xbs:Xaj→Option Bool) (Xan:Int→Int→Option (List UInt8)) (ha0:Xaj) (payload:List UInt8):Option ((List UInt8)×Int):=
 (Xbs ha0).bind fun m=>
 cond (!m)
  (
  some (([],1)))
  (
  cond (decide ((payload.length:Int)>65535))
   (
   some (([],5)))
   (
   let t:=Xjh .u64 1610612736 (wI .u64 ((wI .u64 ha0.Class)*2^20))
   (Xan (Xjh .u64 t (wI .u64 ha0.Label)) 4).bind fun p=>
   let t1:=wI .u64 ((wI .u64 (payload.length:Int))*2^16)
   let t2:=Xjh .u64 t1 (wI .u64 ((wI .u64 ha0.Next)*2^8))
   (Xan (Xjh .u64 t2 (wI .u64 ha0.Hop)) 4).bind fun p1=>
   XaJ (decide (p.length+p1.length<2^63)) <|
   (Xa3 ha0.Src).bind fun p2=>
   XaJ (decide ((p++p1).length+p2.length<2^63)) <|
   (Xa3 ha0.Dst).bind fun p3=>
   XaJ (decide (((p++p1)++p2).length+p3.length<2^63)) <|
   XaJ (decide ((((p++p1)++p2)++p3).length+payload.length<2^63)) <|
   some (((((p++p1)++p2)++p3)++payload,0))))
def rx82 (x:(List UInt8)×Int):Xca:=⟨.tuple ⟨[.string ⟨⟨x.1⟩⟩,.int .i64 x.2]⟩,[],[]⟩
def r82 (g:Xaj→(List UInt8)→Option ((List UInt8)×Int)):Dec:=dV Xel fun (y0:Xaj)=>dV asS fun (y1:List UInt8)=>XcO (ofG (g y0 y1) rx82)
theorem r82_c {g:Xaj→(List UInt8)→Option ((List UInt8)×Int)} {y0:Xaj} {y1:List UInt8} {x:(List UInt8)×Int} (hx:g y0 y1=some x):r82 g [.agg ⟨[.int .i64 y0.Class,.int .i64 y0.Label,.int .i64 y0.Next,.int .i64 y0.Hop,.bool y0.Src.V6,.int .u64 y0.Src.Hi,.int .u64 y0.Src.Lo,.bool y0.Dst.V6,.int .u64 y0.Dst.Hi,.int .u64 y0.Dst.Lo]⟩,.string ⟨⟨y1⟩⟩] []=some (rx82 x):=(XaT (Xf5 _)).trans ((XaT (Xcp)).trans (Xa0 hx))
def s82 (g:Xaj→(List UInt8)→Option ((List UInt8)×Int)):Xbr:=⟨[.v,.v],r82 g⟩
theorem XCR {g:Xaj→(List UInt8)→Option ((List UInt8)×Int)} {y0:Xaj} {y1:List UInt8} {x:(List UInt8)×Int} (hx:g y0 y1=some x):(s82 g).run [.agg ⟨[.int .i64 y0.Class,.int .i64 y0.Label,.int .i64 y0.Next,.int .i64 y0.Hop,.bool y0.Src.V6,.int .u64 y0.Src.Hi,.int .u64 y0.Src.Lo,.bool y0.Dst.V6,.int .u64 y0.Dst.Hi,.int .u64 y0.Dst.Lo]⟩,.string ⟨⟨y1⟩⟩] []=some (rx82 x):=r82_c hx
abbrev XCn (Xa3:Xaa→Option (List UInt8)) (Xbs:Xaj→Option Bool) (Xan:Int→Int→Option (List UInt8)):List (Nat×Xbr):=[(136,XR9 Xa3),(135,s135 Xbs),(72,s72 Xan)]
theorem XJi (Xa3:Xaa→Option (List UInt8)) (Xbs:Xaj→Option Bool) (Xan:Int→Int→Option (List UInt8)) (hS:Xai Tryz.prog (Xav (XCn Xa3 Xbs Xan))) (ha0:Xaj) (payload:List UInt8) (res:(List UInt8)×Int) (h:XgL Xa3 Xbs Xan ha0 payload=some res) :
 XaI Tryz.prog 82 0 ⟨⟨82,53,[(0,.agg ⟨[.int .i64 ha0.Class,.int .i64 ha0.Label,.int .i64 ha0.Next,.int .i64 ha0.Hop,.bool ha0.Src.V6,.int .u64 ha0.Src.Hi,.int .u64 ha0.Src.Lo,.bool ha0.Dst.V6,.int .u64 ha0.Dst.Hi,.int .u64 ha0.Dst.Lo]⟩),(1,.string ⟨⟨payload⟩⟩)],[.code XCJ],[],false,none⟩,[],[],0⟩ (fun v H _=>Res 0 (rx82 res) v H):=by
 unfold XgL at h
 refine Xa7 Xao hS true 3000 ?_
 conv=>whnf
 replace h:=Xal.elim h;obtain ⟨m,hy,h⟩:=h
 refine XaK.q rfl rfl (XKG hy) rfl rfl rfl ?_
 conv=>whnf
 refine br.h h ?_ ?_ ?_
 ·rfl
 ·clear h;intro hb h;conv=>whnf
  all_goals (cases h;exact Res.z rfl rfl rfl)
 clear h;intro hb h;conv=>whnf
 refine br.h h ?_ ?_ ?_
 ·rfl
 ·clear h;intro hb h;conv=>whnf
  all_goals (cases h;exact Res.z rfl rfl rfl)
 clear h;intro hb h;conv=>whnf
 let t:Int:=Xjh .u64 1610612736 (wI .u64 ((wI .u64 ha0.Class)*2^20))
 replace h:=Xal.elim h;obtain ⟨p,hy,h⟩:=h
 refine XaK.q rfl rfl (Xg0 hy) rfl rfl rfl ?_
 conv=>whnf
 let t1:Int:=wI .u64 ((wI .u64 (payload.length:Int))*2^16)
 let t2:Int:=Xjh .u64 t1 (wI .u64 ((wI .u64 ha0.Next)*2^8))
 replace h:=Xal.elim h;obtain ⟨p1,hy,h⟩:=h
 refine XaK.q rfl rfl (Xg0 hy) rfl rfl rfl ?_
 conv=>whnf
 replace h:=XaJ.elim h;obtain ⟨hb,h⟩:=h
 first|(refine req.intro hb ?_;conv=>whnf)|skip
 replace h:=Xal.elim h;obtain ⟨p2,hy,h⟩:=h
 refine XaK.q rfl rfl (XiW hy) rfl rfl rfl ?_
 conv=>whnf
 replace h:=XaJ.elim h;obtain ⟨hb,h⟩:=h
 first|(refine req.intro hb ?_;conv=>whnf)|skip
 replace h:=Xal.elim h;obtain ⟨p3,hy,h⟩:=h
 refine XaK.q rfl rfl (XiW hy) rfl rfl rfl ?_
 conv=>whnf
 replace h:=XaJ.elim h;obtain ⟨hb,h⟩:=h
 first|(refine req.intro hb ?_;conv=>whnf)|skip
 replace h:=XaJ.elim h;obtain ⟨hb,h⟩:=h
 first|(refine req.intro hb ?_;conv=>whnf)|skip
 all_goals (cases h;exact Res.z rfl rfl rfl)
theorem ok82 (Xa3:Xaa→Option (List UInt8)) (Xbs:Xaj→Option Bool) (Xan:Int→Int→Option (List UInt8)) (hS:Xai Tryz.prog (Xav (XCn Xa3 Xbs Xan))):Xar Tryz.prog 82 (s82 (XgL Xa3 Xbs Xan)):=by
 refine Xar.Xay Xao (fun ar os r ha hr=>?_) ⟨Tryz.f82,rfl,by decide,rfl⟩
 replace hr:r82 (XgL Xa3 Xbs Xan) ar (XaD os)=some r:=hr
 unfold r82 at hr
 generalize hc:XaD os=C at hr
 replace hr:=dV.elim hr;obtain ⟨v0,l1,y0,rfl,e0,hr⟩:=hr;obtain rfl:=XfA _ _ e0
 replace hr:=dV.elim hr;obtain ⟨v1,l2,y1,rfl,e1,hr⟩:=hr;obtain rfl:=XbH _ _ e1
 replace hr:=Xc2 hr;obtain ⟨rfl,rfl,x,h,rfl⟩:=hr
 obtain rfl:=Xas hc
 exact ⟨_,rfl,XJi Xa3 Xbs Xan hS _ _ x h⟩
def Xce:Xaj→(List UInt8)→Option ((List UInt8)×Int):=XgL Xa3 Xbs Xan
theorem X1Z:Xar Tryz.prog 82 (s82 Xce):=ok82 Xa3 Xbs Xan (Xai.XaW ⟨Xqh,XGt,XmW,trivial⟩)
def XkL (n:Int) (most:Int):Option Bool:=
 cond (decide (n≥0))
  (
  some (decide (n≤most)))
  (
  some (false))
def XyE (x:Bool):Xca:=⟨.bool x,[],[]⟩
def r181 (g:Int→Int→Option Bool):Dec:=dV (asI .i64) fun (y0:Int)=>dV (asI .i64) fun (y1:Int)=>XcO (ofG (g y0 y1) XyE)
theorem XX0 {g:Int→Int→Option Bool} {y0:Int} {y1:Int} {x:Bool} (hx:g y0 y1=some x):r181 g [.int .i64 y0,.int .i64 y1] []=some (XyE x):=(XaT (Xc3 _)).trans ((XaT (Xc3 _)).trans (Xa0 hx))
def s181 (g:Int→Int→Option Bool):Xbr:=⟨[.v,.v],r181 g⟩
theorem Xnp {g:Int→Int→Option Bool} {y0:Int} {y1:Int} {x:Bool} (hx:g y0 y1=some x):(s181 g).run [.int .i64 y0,.int .i64 y1] []=some (XyE x):=XX0 hx
abbrev XuF:List (Nat×Xbr):=[]
theorem XyZ (hS:Xai Tryz.prog (Xav (XuF))) (n:Int) (most:Int) (res:Bool) (h:XkL n most=some res) :
 XaI Tryz.prog 181 0 ⟨⟨181,12,[(0,.int .i64 n),(1,.int .i64 most)],[.code XCk],[],false,none⟩,[],[],0⟩ (fun v H _=>Res 0 (XyE res) v H):=by
 unfold XkL at h
 refine Xa7 Xao hS true 3000 ?_
 conv=>whnf
 refine br.h h ?_ ?_ ?_
 ·rfl
 ·clear h;intro hb h;conv=>whnf
  all_goals (cases h;exact Res.z rfl rfl rfl)
 clear h;intro hb h;conv=>whnf
 all_goals (cases h;exact Res.z rfl rfl rfl)
theorem ok181 (hS:Xai Tryz.prog (Xav (XuF))):Xar Tryz.prog 181 (s181 (XkL)):=by
 refine Xar.Xay Xao (fun ar os r ha hr=>?_) ⟨Tryz.f181,rfl,by decide,rfl⟩
 replace hr:r181 (XkL) ar (XaD os)=some r:=hr
 unfold r181 at hr
 generalize hc:XaD os=C at hr
 replace hr:=dV.elim hr;obtain ⟨v0,l1,y0,rfl,e0,hr⟩:=hr;obtain rfl:=XbS _ _ _ e0
 replace hr:=dV.elim hr;obtain ⟨v1,l2,y1,rfl,e1,hr⟩:=hr;obtain rfl:=XbS _ _ _ e1
 replace hr:=Xc2 hr;obtain ⟨rfl,rfl,x,h,rfl⟩:=hr
 obtain rfl:=Xas hc
 exact ⟨_,rfl,XyZ hS _ _ x h⟩
def Xe3:Int→Int→Option Bool:=XkL
theorem XLW:Xar Tryz.prog 181 (s181 Xe3):=ok181 (Xai.XaW trivial)
def XgO (Xe3:Int→Int→Option Bool) (ha0:Xaj):Option Bool:=
 (Xe3 ha0.Class 255).bind fun i=>
 cond (i)
  (
  (Xe3 ha0.Label 1048575).bind fun i1=>
  cond (i1)
   (
   (Xe3 ha0.Next 255).bind fun i2=>
   cond (i2)
    (
    (Xe3 ha0.Hop 255).bind fun i3=>
    cond (i3)
     (
     cond (ha0.Src.V6)
      (
      some (ha0.Dst.V6))
      (
      some (false)))
     (
     some (false)))
    (
    some (false)))
   (
   some (false)))
  (
  some (false))
def XzD (x:Bool):Xca:=⟨.bool x,[],[]⟩
def r139 (g:Xaj→Option Bool):Dec:=dV Xel fun (y0:Xaj)=>XcO (ofG (g y0) XzD)
theorem X6j {g:Xaj→Option Bool} {y0:Xaj} {x:Bool} (hx:g y0=some x):r139 g [.agg ⟨[.int .i64 y0.Class,.int .i64 y0.Label,.int .i64 y0.Next,.int .i64 y0.Hop,.bool y0.Src.V6,.int .u64 y0.Src.Hi,.int .u64 y0.Src.Lo,.bool y0.Dst.V6,.int .u64 y0.Dst.Hi,.int .u64 y0.Dst.Lo]⟩] []=some (XzD x):=(XaT (Xf5 _)).trans (Xa0 hx)
def s139 (g:Xaj→Option Bool):Xbr:=⟨[.v],r139 g⟩
theorem XKM {g:Xaj→Option Bool} {y0:Xaj} {x:Bool} (hx:g y0=some x):(s139 g).run [.agg ⟨[.int .i64 y0.Class,.int .i64 y0.Label,.int .i64 y0.Next,.int .i64 y0.Hop,.bool y0.Src.V6,.int .u64 y0.Src.Hi,.int .u64 y0.Src.Lo,.bool y0.Dst.V6,.int .u64 y0.Dst.Hi,.int .u64 y0.Dst.Lo]⟩] []=some (XzD x):=X6j hx
abbrev Xwn (Xe3:Int→Int→Option Bool):List (Nat×Xbr):=[(181,s181 Xe3)]
theorem Xy1 (Xe3:Int→Int→Option Bool) (hS:Xai Tryz.prog (Xav (Xwn Xe3))) (ha0:Xaj) (res:Bool) (h:XgO Xe3 ha0=some res) :
 XaI Tryz.prog 139 0 ⟨⟨139,31,[(0,.agg ⟨[.int .i64 ha0.Class,.int .i64 ha0.Label,.int .i64 ha0.Next,.int .i64 ha0.Hop,.bool ha0.Src.V6,.int .u64 ha0.Src.Hi,.int .u64 ha0.Src.Lo,.bool ha0.Dst.V6,.int .u64 ha0.Dst.Hi,.int .u64 ha0.Dst.Lo]⟩)],[.code XCP],[],false,none⟩,[],[],0⟩ (fun v H _=>Res 0 (XzD res) v H):=by
 unfold XgO at h
 refine Xa7 Xao hS true 3000 ?_
 conv=>whnf
 replace h:=Xal.elim h;obtain ⟨i,hy,h⟩:=h
 refine XaK.q rfl rfl (Xnp hy) rfl rfl rfl ?_
 conv=>whnf
 refine br.h2 h ?_ ?_ ?_
 ·rfl
 ·clear h;intro hb h;conv=>whnf
  all_goals (cases h;exact Res.z rfl rfl rfl)
 clear h;intro hb h;conv=>whnf
 replace h:=Xal.elim h;obtain ⟨i1,hy,h⟩:=h
 refine XaK.q rfl rfl (Xnp hy) rfl rfl rfl ?_
 conv=>whnf
 refine br.h2 h ?_ ?_ ?_
 ·rfl
 ·clear h;intro hb h;conv=>whnf
  all_goals (cases h;exact Res.z rfl rfl rfl)
 clear h;intro hb h;conv=>whnf
 replace h:=Xal.elim h;obtain ⟨i2,hy,h⟩:=h
 refine XaK.q rfl rfl (Xnp hy) rfl rfl rfl ?_
 conv=>whnf
 refine br.h2 h ?_ ?_ ?_
 ·rfl
 ·clear h;intro hb h;conv=>whnf
  all_goals (cases h;exact Res.z rfl rfl rfl)
 clear h;intro hb h;conv=>whnf
 replace h:=Xal.elim h;obtain ⟨i3,hy,h⟩:=h
 refine XaK.q rfl rfl (Xnp hy) rfl rfl rfl ?_
 conv=>whnf
 refine br.h2 h ?_ ?_ ?_
 ·rfl
 ·clear h;intro hb h;conv=>whnf
  all_goals (cases h;exact Res.z rfl rfl rfl)
 clear h;intro hb h;conv=>whnf
 refine br.h h ?_ ?_ ?_
 ·rfl
 ·clear h;intro hb h;conv=>whnf
  all_goals (cases h;exact Res.z rfl rfl rfl)
 clear h;intro hb h;conv=>whnf
 all_goals (cases h;exact Res.z rfl rfl rfl)
theorem ok139 (Xe3:Int→Int→Option Bool) (hS:Xai Tryz.prog (Xav (Xwn Xe3))):Xar Tryz.prog 139 (s139 (XgO Xe3)):=by
 refine Xar.Xay Xao (fun ar os r ha hr=>?_) ⟨Tryz.f139,rfl,by decide,rfl⟩
 replace hr:r139 (XgO Xe3) ar (XaD os)=some r:=hr
 unfold r139 at hr
 generalize hc:XaD os=C at hr
 replace hr:=dV.elim hr;obtain ⟨v0,l1,y0,rfl,e0,hr⟩:=hr;obtain rfl:=XfA _ _ e0
 replace hr:=Xc2 hr;obtain ⟨rfl,rfl,x,h,rfl⟩:=hr
 obtain rfl:=Xas hc
 exact ⟨_,rfl,Xy1 Xe3 hS _ x h⟩
def Xcy:Xaj→Option Bool:=XgO Xe3
theorem XEd:Xar Tryz.prog 139 (s139 Xcy):=ok139 Xe3 (Xai.XaW ⟨XLW,trivial⟩)
def XiZ (XaH:Int→Int→Option (List UInt8)) (n:Int) (k:Int):Option (List UInt8):=
 (XaH (wI .u64 n) k).bind fun p=>
 some (p)
def XxU (x:List UInt8):Xca:=⟨.string ⟨⟨x⟩⟩,[],[]⟩
def r140 (g:Int→Int→Option (List UInt8)):Dec:=dV (asI .i64) fun (y0:Int)=>dV (asI .i64) fun (y1:Int)=>XcO (ofG (g y0 y1) XxU)
theorem X3H {g:Int→Int→Option (List UInt8)} {y0:Int} {y1:Int} {x:List UInt8} (hx:g y0 y1=some x):r140 g [.int .i64 y0,.int .i64 y1] []=some (XxU x):=(XaT (Xc3 _)).trans ((XaT (Xc3 _)).trans (Xa0 hx))
def s140 (g:Int→Int→Option (List UInt8)):Xbr:=⟨[.v,.v],r140 g⟩
theorem XnG {g:Int→Int→Option (List UInt8)} {y0:Int} {y1:Int} {x:List UInt8} (hx:g y0 y1=some x):(s140 g).run [.int .i64 y0,.int .i64 y1] []=some (XxU x):=X3H hx
abbrev XsZ (XaH:Int→Int→Option (List UInt8)):List (Nat×Xbr):=[(98,s98 XaH)]
theorem XAt (XaH:Int→Int→Option (List UInt8)) (hS:Xai Tryz.prog (Xav (XsZ XaH))) (n:Int) (k:Int) (res:List UInt8) (h:XiZ XaH n k=some res) :
 XaI Tryz.prog 140 0 ⟨⟨140,9,[(0,.int .i64 n),(1,.int .i64 k)],[.code XDu],[],false,none⟩,[],[],0⟩ (fun v H _=>Res 0 (XxU res) v H):=by
 unfold XiZ at h
 refine Xa7 Xao hS true 3000 ?_
 conv=>whnf
 replace h:=Xal.elim h;obtain ⟨p,hy,h⟩:=h
 refine XaK.q rfl rfl (XjF hy) rfl rfl rfl ?_
 conv=>whnf
 all_goals (cases h;exact Res.z rfl rfl rfl)
theorem ok140 (XaH:Int→Int→Option (List UInt8)) (hS:Xai Tryz.prog (Xav (XsZ XaH))):Xar Tryz.prog 140 (s140 (XiZ XaH)):=by
 refine Xar.Xay Xao (fun ar os r ha hr=>?_) ⟨Tryz.f140,rfl,by decide,rfl⟩
 replace hr:r140 (XiZ XaH) ar (XaD os)=some r:=hr
 unfold r140 at hr
 generalize hc:XaD os=C at hr
 replace hr:=dV.elim hr;obtain ⟨v0,l1,y0,rfl,e0,hr⟩:=hr;obtain rfl:=XbS _ _ _ e0
 replace hr:=dV.elim hr;obtain ⟨v1,l2,y1,rfl,e1,hr⟩:=hr;obtain rfl:=XbS _ _ _ e1
 replace hr:=Xc2 hr;obtain ⟨rfl,rfl,x,h,rfl⟩:=hr
 obtain rfl:=Xas hc
 exact ⟨_,rfl,XAt XaH hS _ _ x h⟩
def Xdt:Int→Int→Option (List UInt8):=XiZ XaH
theorem XKW:Xar Tryz.prog 140 (s140 Xdt):=ok140 XaH (Xai.XaW ⟨XmL,trivial⟩)
def Xjv (Xbj:Xaa→Option (List UInt8)) (Xcy:Xaj→Option Bool) (Xdt:Int→Int→Option (List UInt8)) (ha0:Xaj) (payload:List UInt8):Option ((List UInt8)×Int):=
 (Xcy ha0).bind fun xr=>
 cond (!xr)
  (
  some (([],1)))
  (
  cond (decide ((payload.length:Int)>65535))
   (
   some (([],5)))
   (
   let t:=wI .i64 (1610612736+(wI .i64 (ha0.Class*1048576)))
   (Xdt (wI .i64 (t+ha0.Label)) 4).bind fun n=>
   (Xdt (payload.length:Int) 2).bind fun n1=>
   XaJ (decide (n.length+n1.length<2^63)) <|
   (Xdt ha0.Next 1).bind fun n2=>
   XaJ (decide ((n++n1).length+n2.length<2^63)) <|
   (Xdt ha0.Hop 1).bind fun n3=>
   XaJ (decide (((n++n1)++n2).length+n3.length<2^63)) <|
   (Xbj ha0.Src).bind fun p=>
   XaJ (decide ((((n++n1)++n2)++n3).length+p.length<2^63)) <|
   (Xbj ha0.Dst).bind fun p1=>
   XaJ (decide (((((n++n1)++n2)++n3)++p).length+p1.length<2^63)) <|
   XaJ (decide ((((((n++n1)++n2)++n3)++p)++p1).length+payload.length<2^63)) <|
   let t1:=(((((n++n1)++n2)++n3)++p)++p1)++payload
   some ((t1,0))))
def rx85 (x:(List UInt8)×Int):Xca:=⟨.tuple ⟨[.string ⟨⟨x.1⟩⟩,.int .i64 x.2]⟩,[],[]⟩
def r85 (g:Xaj→(List UInt8)→Option ((List UInt8)×Int)):Dec:=dV Xel fun (y0:Xaj)=>dV asS fun (y1:List UInt8)=>XcO (ofG (g y0 y1) rx85)
theorem r85_c {g:Xaj→(List UInt8)→Option ((List UInt8)×Int)} {y0:Xaj} {y1:List UInt8} {x:(List UInt8)×Int} (hx:g y0 y1=some x):r85 g [.agg ⟨[.int .i64 y0.Class,.int .i64 y0.Label,.int .i64 y0.Next,.int .i64 y0.Hop,.bool y0.Src.V6,.int .u64 y0.Src.Hi,.int .u64 y0.Src.Lo,.bool y0.Dst.V6,.int .u64 y0.Dst.Hi,.int .u64 y0.Dst.Lo]⟩,.string ⟨⟨y1⟩⟩] []=some (rx85 x):=(XaT (Xf5 _)).trans ((XaT (Xcp)).trans (Xa0 hx))
def s85 (g:Xaj→(List UInt8)→Option ((List UInt8)×Int)):Xbr:=⟨[.v,.v],r85 g⟩
theorem XCw {g:Xaj→(List UInt8)→Option ((List UInt8)×Int)} {y0:Xaj} {y1:List UInt8} {x:(List UInt8)×Int} (hx:g y0 y1=some x):(s85 g).run [.agg ⟨[.int .i64 y0.Class,.int .i64 y0.Label,.int .i64 y0.Next,.int .i64 y0.Hop,.bool y0.Src.V6,.int .u64 y0.Src.Hi,.int .u64 y0.Src.Lo,.bool y0.Dst.V6,.int .u64 y0.Dst.Hi,.int .u64 y0.Dst.Lo]⟩,.string ⟨⟨y1⟩⟩] []=some (rx85 x):=r85_c hx
abbrev XCG (Xbj:Xaa→Option (List UInt8)) (Xcy:Xaj→Option Bool) (Xdt:Int→Int→Option (List UInt8)):List (Nat×Xbr):=[(141,XR4 Xbj),(139,s139 Xcy),(140,s140 Xdt)]
theorem XIx (Xbj:Xaa→Option (List UInt8)) (Xcy:Xaj→Option Bool) (Xdt:Int→Int→Option (List UInt8)) (hS:Xai Tryz.prog (Xav (XCG Xbj Xcy Xdt))) (ha0:Xaj) (payload:List UInt8) (res:(List UInt8)×Int) (h:Xjv Xbj Xcy Xdt ha0 payload=some res) :
 XaI Tryz.prog 85 0 ⟨⟨85,42,[(0,.agg ⟨[.int .i64 ha0.Class,.int .i64 ha0.Label,.int .i64 ha0.Next,.int .i64 ha0.Hop,.bool ha0.Src.V6,.int .u64 ha0.Src.Hi,.int .u64 ha0.Src.Lo,.bool ha0.Dst.V6,.int .u64 ha0.Dst.Hi,.int .u64 ha0.Dst.Lo]⟩),(1,.string ⟨⟨payload⟩⟩)],[.code XBF],[],false,none⟩,[],[],0⟩ (fun v H _=>Res 0 (rx85 res) v H):=by
 unfold Xjv at h
 refine Xa7 Xao hS true 3000 ?_
 conv=>whnf
 replace h:=Xal.elim h;obtain ⟨xr,hy,h⟩:=h
 refine XaK.q rfl rfl (XKM hy) rfl rfl rfl ?_
 conv=>whnf
 refine br.h h ?_ ?_ ?_
 ·rfl
 ·clear h;intro hb h;conv=>whnf
  all_goals (cases h;exact Res.z rfl rfl rfl)
 clear h;intro hb h;conv=>whnf
 refine br.h h ?_ ?_ ?_
 ·rfl
 ·clear h;intro hb h;conv=>whnf
  all_goals (cases h;exact Res.z rfl rfl rfl)
 clear h;intro hb h;conv=>whnf
 let t:Int:=wI .i64 (1610612736+(wI .i64 (ha0.Class*1048576)))
 replace h:=Xal.elim h;obtain ⟨n,hy,h⟩:=h
 refine XaK.q rfl rfl (XnG hy) rfl rfl rfl ?_
 conv=>whnf
 replace h:=Xal.elim h;obtain ⟨n1,hy,h⟩:=h
 refine XaK.q rfl rfl (XnG hy) rfl rfl rfl ?_
 conv=>whnf
 replace h:=XaJ.elim h;obtain ⟨hb,h⟩:=h
 first|(refine req.intro hb ?_;conv=>whnf)|skip
 replace h:=Xal.elim h;obtain ⟨n2,hy,h⟩:=h
 refine XaK.q rfl rfl (XnG hy) rfl rfl rfl ?_
 conv=>whnf
 replace h:=XaJ.elim h;obtain ⟨hb,h⟩:=h
 first|(refine req.intro hb ?_;conv=>whnf)|skip
 replace h:=Xal.elim h;obtain ⟨n3,hy,h⟩:=h
 refine XaK.q rfl rfl (XnG hy) rfl rfl rfl ?_
 conv=>whnf
 replace h:=XaJ.elim h;obtain ⟨hb,h⟩:=h
 first|(refine req.intro hb ?_;conv=>whnf)|skip
 replace h:=Xal.elim h;obtain ⟨p,hy,h⟩:=h
 refine XaK.q rfl rfl (Xhn hy) rfl rfl rfl ?_
 conv=>whnf
 replace h:=XaJ.elim h;obtain ⟨hb,h⟩:=h
 first|(refine req.intro hb ?_;conv=>whnf)|skip
 replace h:=Xal.elim h;obtain ⟨p1,hy,h⟩:=h
 refine XaK.q rfl rfl (Xhn hy) rfl rfl rfl ?_
 conv=>whnf
 replace h:=XaJ.elim h;obtain ⟨hb,h⟩:=h
 first|(refine req.intro hb ?_;conv=>whnf)|skip
 replace h:=XaJ.elim h;obtain ⟨hb,h⟩:=h
 first|(refine req.intro hb ?_;conv=>whnf)|skip
 let t1:List UInt8:=(((((n++n1)++n2)++n3)++p)++p1)++payload
 all_goals (cases h;exact Res.z rfl rfl rfl)
theorem ok85 (Xbj:Xaa→Option (List UInt8)) (Xcy:Xaj→Option Bool) (Xdt:Int→Int→Option (List UInt8)) (hS:Xai Tryz.prog (Xav (XCG Xbj Xcy Xdt))):Xar Tryz.prog 85 (s85 (Xjv Xbj Xcy Xdt)):=by
 refine Xar.Xay Xao (fun ar os r ha hr=>?_) ⟨Tryz.f85,rfl,by decide,rfl⟩
 replace hr:r85 (Xjv Xbj Xcy Xdt) ar (XaD os)=some r:=hr
 unfold r85 at hr
 generalize hc:XaD os=C at hr
 replace hr:=dV.elim hr;obtain ⟨v0,l1,y0,rfl,e0,hr⟩:=hr;obtain rfl:=XfA _ _ e0
 replace hr:=dV.elim hr;obtain ⟨v1,l2,y1,rfl,e1,hr⟩:=hr;obtain rfl:=XbH _ _ e1
 replace hr:=Xc2 hr;obtain ⟨rfl,rfl,x,h,rfl⟩:=hr
 obtain rfl:=Xas hc
 exact ⟨_,rfl,XIx Xbj Xcy Xdt hS _ _ x h⟩
def XdS:Xaj→(List UInt8)→Option ((List UInt8)×Int):=Xjv Xbj Xcy Xdt
theorem YbK:Xar Tryz.prog 85 (s85 XdS):=ok85 Xbj Xcy Xdt (Xai.XaW ⟨Xp2,XEd,XKW,trivial⟩)
end Go.Vm.Code
namespace Go.Vm.Code
open Go Go.Vm
def Xmd (a:Xaa):Prop:=(0≤a.Hi∧a.Hi<2^64)∧0≤a.Lo∧a.Lo<2^64
def XmG (a:Xaa):List UInt8:=be a.Hi.toNat 8++be a.Lo.toNat 8
theorem Xo3 {a:Xaa} (h:Xmd a) (h6:a.V6=true):Xa3 a=some (XmG a):=by
 unfold Xa3 XgU Xax XeW
 rw [h6]
 simp only [cond_true,Option.bind_some,Bool.not_true,cond_false]
 rw [Xbq h.1.1,Xbq h.2.1]
 simp only [Option.bind_some,XbV]
 rw [if_pos (by omega),if_pos (by omega),Xaz (by simp)];rfl
theorem XqE {a:Xaa} (h:Xmd a) (h6:a.V6=true):Xbj a=some (XmG a):=by
 unfold Xbj Xh2 XaF XfK
 rw [h6]
 simp only [cond_true,Option.bind_some,Bool.not_true,cond_false]
 rw [XcP h.1.1 h.1.2,XcP h.2.1 h.2.2]
 simp only [Option.bind_some,XbV]
 rw [if_pos (by omega),if_pos (by omega),Xaz (by simp)];rfl
def XrL (s:List UInt8):Xaa:=⟨true,(Xdz (s.take 8):Nat),(Xdz (s.drop 8):Nat)⟩
def H6 (h:Xaj):Prop:=(0≤h.Class∧h.Class≤255)∧(0≤h.Label∧h.Label≤1048575)∧(0≤h.Next∧h.Next≤255)∧(0≤h.Hop∧h.Hop≤255)∧h.Src.V6=true∧h.Dst.V6=true
instance (h:Xaj):Decidable (H6 h):=inferInstanceAs (Decidable (_∧_))
theorem XKS (h:Xaj):Xbs h=some (decide (H6 h)):=by
 unfold Xbs Xdo
 simp only [XnZ]
 by_cases hh:H6 h
 ·rw [decide_eq_true hh]
  obtain ⟨a,b,c,d,e,f⟩:=hh
  rw [if_neg (by omega),if_neg (by omega),if_neg (by omega),if_neg (by omega),if_neg (by omega),if_neg (by omega),if_neg (by omega),if_neg (by omega),e,f];rfl
 ·rw [decide_eq_false hh]
  unfold H6 at hh
  repeat' split
  all_goals first|rfl|skip
  cases e:h.Src.V6
  ·rfl
  ·rw [cond_true]
   cases f:h.Dst.V6
   ·rfl
   ·exact absurd ⟨by omega,by omega,by omega,by omega,e,f⟩ hh
theorem X7y (n m:Int):Xe3 n m=some (decide (0≤n∧n≤m)):=by
 unfold Xe3 XkL
 by_cases h:n≥0
 ·rw [XaS h];congr 1;rw [Bool.eq_iff_iff,decide_eq_true_eq,decide_eq_true_eq];omega
 ·rw [XaO h];congr 1;symm;exact decide_eq_false (by omega)
theorem XsA (h:Xaj):Xcy h=some (decide (H6 h)):=by
 unfold Xcy XgO
 simp only [X7y,Option.bind_some,XnZ]
 by_cases hh:H6 h
 ·rw [decide_eq_true hh]
  obtain ⟨a,b,c,d,e,f⟩:=hh
  rw [if_pos a,if_pos b,if_pos c,if_pos d,e,f];rfl
 ·rw [decide_eq_false hh]
  unfold H6 at hh
  repeat' split
  all_goals first|rfl|skip
  cases e:h.Src.V6
  ·rfl
  ·rw [cond_true]
   cases f:h.Dst.V6
   ·rfl
   ·exact absurd ⟨by assumption,by assumption,by assumption,by assumption,e,f⟩ hh
def headB (h:Xaj) (n:Nat):List UInt8:=be (6*2^28+h.Class.toNat*2^20+h.Label.toNat) 4++be n 2++be h.Next.toNat 1++be h.Hop.toNat 1++XmG h.Src++XmG h.Dst
def X8b (h:Xaj) (p:List UInt8):List UInt8×Int:=if ¬ H6 h then ([],1) else if p.length>65535 then ([],5) else (headB h p.length++p,0)
theorem XGQ {h:Xaj} {p:List UInt8} (hs:Xmd h.Src) (hd:Xmd h.Dst) (hp:p.length<2^60):Xce h p=some (X8b h p):=by
 unfold Xce XgL X8b
 rw [XKS,Option.bind_some]
 by_cases hh:H6 h
 ·rw [decide_eq_true hh,Bool.not_true,cond_false,if_neg (by simpa using hh)]
  obtain ⟨a,b,c,d,e,f⟩:=hh
  by_cases h5:(p.length:Int)>65535
  ·rw [XaS h5,if_pos (by omega)]
  rw [XaO h5,if_neg (by omega)]
  simp only []
  rw [Xo3 hs e,Xo3 hd f]
  obtain ⟨C,hC⟩:=Int.eq_ofNat_of_zero_le a.1
  obtain ⟨L,hL⟩:=Int.eq_ofNat_of_zero_le b.1
  obtain ⟨X,hX⟩:=Int.eq_ofNat_of_zero_le c.1
  obtain ⟨O,hO⟩:=Int.eq_ofNat_of_zero_le d.1
  rw [hC] at a;rw [hL] at b;rw [hX] at c;rw [hO] at d
  have e1:Xjh .u64 (Xjh .u64 1610612736 (wI .u64 ((wI .u64 h.Class)*2^20))) (wI .u64 h.Label)=((6*2^28+C*2^20+L:Nat):Int):=by
   rw [hC,hL,XeJ (n:=(C:Int)) (by omega) (by omega),XeJ (n:=(L:Int)) (by omega) (by omega),XeJ (n:=(C:Int)*2^20) (by omega) (by omega)]
   have g1:Xjh .u64 1610612736 ((C:Int)*2^20)=((6*2^8+C:Nat):Int)*2^20:=by
    have:=Xfb 28 (a:=6) (b:=(C:Int)*2^20) (by omega) (by omega) (by omega) (by omega) (by omega)
    rw [show (6:Int)*2^28=1610612736 from rfl] at this
    rw [this];omega
   rw [g1,Xfb 20 (by omega) (by omega) (by omega) (by omega) (by omega)];omega
  have e2:Xjh .u64 (Xjh .u64 (wI .u64 ((wI .u64 (p.length:Int))*2^16)) (wI .u64 ((wI .u64 h.Next)*2^8))) (wI .u64 h.Hop)=((p.length*2^16+X*2^8+O:Nat):Int):=by
   rw [hX,hO,XeJ (n:=(X:Int)) (by omega) (by omega),XeJ (n:=(O:Int)) (by omega) (by omega),XeJ (n:=(p.length:Int)) (by omega) (by omega),XeJ (n:=(X:Int)*2^8) (by omega) (by omega),XeJ (n:=(p.length:Int)*2^16) (by omega) (by omega)]
   have g1:Xjh .u64 ((p.length:Int)*2^16) ((X:Int)*2^8)=((p.length*2^8+X:Nat):Int)*2^8:=by
    rw [Xfb 16 (by omega) (by omega) (by omega) (by omega) (by omega)];omega
   rw [g1,Xfb 8 (by omega) (by omega) (by omega) (by omega) (by omega)];omega
  rw [e1,e2,Xbq (by omega),Xbq (by omega)]
  simp only [Option.bind_some,XbV]
  have e3:be (p.length*2^16+X*2^8+O) 4=be p.length 2++be X 1++be O 1:=by
   refine be_of (by simp) ?_
   rw [val_append,val_append,Xrm,Xrm,Xrm]
   simp only [Xru]
   omega
  rw [if_pos (by omega),if_pos (by omega)]
  have hl:(be (6*2^28+C*2^20+L) 4).length=4:=Xru _ _
  simp only [Int.toNat_natCast,show (4:Int).toNat=4 from rfl,e3]
  rw [Xaz (by simp),Xaz (by simp [XmG]),Xaz (by simp [XmG]),Xaz (by simp [XmG];omega)]
  simp [headB,hC,hL,hX,hO]
 ·rw [decide_eq_false hh,Bool.not_false,cond_true,if_pos hh]
theorem num6 {n k:Int} (h0:0≤n) (h1:n<2^64):Xdt n k=some (XbV n k):=by
 unfold Xdt XiZ
 rw [XeJ h0 (by omega),XcP h0 h1];rfl
theorem XzC {h:Xaj} {p:List UInt8} (hs:Xmd h.Src) (hd:Xmd h.Dst) (hp:p.length<2^60):XdS h p=some (X8b h p):=by
 unfold XdS Xjv X8b
 rw [XsA,Option.bind_some]
 by_cases hh:H6 h
 ·rw [decide_eq_true hh,Bool.not_true,cond_false,if_neg (by simpa using hh)]
  obtain ⟨a,b,c,d,e,f⟩:=hh
  by_cases h5:(p.length:Int)>65535
  ·rw [XaS h5,if_pos (by omega)]
  rw [XaO h5,if_neg (by omega)]
  simp only []
  obtain ⟨C,hC⟩:=Int.eq_ofNat_of_zero_le a.1
  obtain ⟨L,hL⟩:=Int.eq_ofNat_of_zero_le b.1
  rw [hC] at a;rw [hL] at b
  have e1:wI .i64 (wI .i64 (1610612736+(wI .i64 (h.Class*1048576)))+h.Label)=((6*2^28+C*2^20+L:Nat):Int):=by
   rw [hC,hL,Xcg (n:=(C:Int)*1048576) (by omega) (by omega),Xcg (n:=1610612736+(C:Int)*1048576) (by omega) (by omega),Xcg (by omega) (by omega)];omega
  rw [e1,XqE hs e,XqE hd f,num6 (by omega) (by omega),num6 (by omega) (by omega),num6 c.1 (by omega),num6 d.1 (by omega)]
  simp only [Option.bind_some,XbV]
  rw [if_pos (by omega),if_pos (by omega),if_pos (by omega),if_pos (by omega)]
  simp only [Int.toNat_natCast,show (4:Int).toNat=4 from rfl,show (2:Int).toNat=2 from rfl,show (1:Int).toNat=1 from rfl]
  rw [Xaz (by simp),Xaz (by simp),Xaz (by simp),Xaz (by simp [XmG]),Xaz (by simp [XmG]),Xaz (by simp [XmG];omega)]
  simp [headB,hC,hL]
 ·rw [decide_eq_false hh,Bool.not_false,cond_true,if_pos hh]
end Go.Vm.Code
namespace Go.Vm.Code
open Go Go.Vm Go.Proofs
set_option maxRecDepth 100000
set_option maxHeartbeats 4000000
set_option linter.unusedVariables false
def XgZ (XaL:(List UInt8)→Int→Int→Option (Int×Bool)) (s:List UInt8):Option (Xaa×Bool):=
 cond ((s.length:Int)==4)
  (
  (XaL s 0 4).bind fun xg=>
  some ((Xaa.mk false 0 xg.1,true)))
  (
  cond ((s.length:Int)==16)
   (
   (XaL s 0 8).bind fun xg1=>
   (XaL s 8 8).bind fun xg2=>
   some ((Xaa.mk true xg1.1 xg2.1,true)))
   (
   some ((Xaa.mk false 0 0,false))))
def XxD (x:Xaa×Bool):Xca:=⟨.tuple ⟨[.agg ⟨[.bool x.1.V6,.int .u64 x.1.Hi,.int .u64 x.1.Lo]⟩,.bool x.2]⟩,[],[]⟩
def r210 (g:(List UInt8)→Option (Xaa×Bool)):Dec:=dV asS fun (y0:List UInt8)=>XcO (ofG (g y0) XxD)
theorem X2d {g:(List UInt8)→Option (Xaa×Bool)} {y0:List UInt8} {x:Xaa×Bool} (hx:g y0=some x):r210 g [.string ⟨⟨y0⟩⟩] []=some (XxD x):=(XaT (Xcp)).trans (Xa0 hx)
def X5Q (g:(List UInt8)→Option (Xaa×Bool)):Xbr:=⟨[.v],r210 g⟩
theorem Xpz {g:(List UInt8)→Option (Xaa×Bool)} {y0:List UInt8} {x:Xaa×Bool} (hx:g y0=some x):(X5Q g).run [.string ⟨⟨y0⟩⟩] []=some (XxD x):=X2d hx
abbrev XvU (XaL:(List UInt8)→Int→Int→Option (Int×Bool)):List (Nat×Xbr):=[(70,s70 XaL)]
theorem XzG (XaL:(List UInt8)→Int→Int→Option (Int×Bool)) (hS:Xai Tryz.prog (Xav (XvU XaL))) (s:List UInt8) (res:Xaa×Bool) (h:XgZ XaL s=some res) :
 XaI Tryz.prog 210 0 ⟨⟨210,35,[(0,.string ⟨⟨s⟩⟩)],[.code XuT],[],false,none⟩,[],[],0⟩ (fun v H _=>Res 0 (XxD res) v H):=by
 unfold XgZ at h
 refine Xa7 Xao hS true 3000 ?_
 conv=>whnf
 refine br.h h ?_ ?_ ?_
 ·rfl
 ·clear h;intro hb h;conv=>whnf
  replace h:=Xal.elim h;obtain ⟨xg,hy,h⟩:=h
  refine XaK.q rfl rfl (XlM hy) rfl rfl rfl ?_
  conv=>whnf
  all_goals (cases h;exact Res.z rfl rfl rfl)
 clear h;intro hb h;conv=>whnf
 refine br.h2 h ?_ ?_ ?_
 ·rfl
 ·clear h;intro hb h;conv=>whnf
  all_goals (cases h;exact Res.z rfl rfl rfl)
 clear h;intro hb h;conv=>whnf
 replace h:=Xal.elim h;obtain ⟨xg1,hy,h⟩:=h
 refine XaK.q rfl rfl (XlM hy) rfl rfl rfl ?_
 conv=>whnf
 replace h:=Xal.elim h;obtain ⟨xg2,hy,h⟩:=h
 refine XaK.q rfl rfl (XlM hy) rfl rfl rfl ?_
 conv=>whnf
 all_goals (cases h;exact Res.z rfl rfl rfl)
theorem ok210 (XaL:(List UInt8)→Int→Int→Option (Int×Bool)) (hS:Xai Tryz.prog (Xav (XvU XaL))):Xar Tryz.prog 210 (X5Q (XgZ XaL)):=by
 refine Xar.Xay Xao (fun ar os r ha hr=>?_) ⟨Tryz.f210,rfl,by decide,rfl⟩
 replace hr:r210 (XgZ XaL) ar (XaD os)=some r:=hr
 unfold r210 at hr
 generalize hc:XaD os=C at hr
 replace hr:=dV.elim hr;obtain ⟨v0,l1,y0,rfl,e0,hr⟩:=hr;obtain rfl:=XbH _ _ e0
 replace hr:=Xc2 hr;obtain ⟨rfl,rfl,x,h,rfl⟩:=hr
 obtain rfl:=Xas hc
 exact ⟨_,rfl,XzG XaL hS _ x h⟩
def XbC:(List UInt8)→Option (Xaa×Bool):=XgZ XaL
theorem Xs9:Xar Tryz.prog 210 (X5Q XbC):=ok210 XaL (Xai.XaW ⟨Xuz,trivial⟩)
def Xig (Xbu:(List UInt8)→Int→Int→Option (Int×Bool)) (s:List UInt8):Option (Xaa×Bool):=
 cond ((s.length:Int)==4)
  (
  (Xbu s 0 4).bind fun xg=>
  some ((Xaa.mk false 0 xg.1,true)))
  (
  cond ((s.length:Int)==16)
   (
   (Xbu s 0 8).bind fun xg1=>
   (Xbu s 8 8).bind fun xg2=>
   some ((Xaa.mk true xg1.1 xg2.1,true)))
   (
   some ((Xaa.mk false 0 0,false))))
def XxG (x:Xaa×Bool):Xca:=⟨.tuple ⟨[.agg ⟨[.bool x.1.V6,.int .u64 x.1.Hi,.int .u64 x.1.Lo]⟩,.bool x.2]⟩,[],[]⟩
def r195 (g:(List UInt8)→Option (Xaa×Bool)):Dec:=dV asS fun (y0:List UInt8)=>XcO (ofG (g y0) XxG)
theorem X8L {g:(List UInt8)→Option (Xaa×Bool)} {y0:List UInt8} {x:Xaa×Bool} (hx:g y0=some x):r195 g [.string ⟨⟨y0⟩⟩] []=some (XxG x):=(XaT (Xcp)).trans (Xa0 hx)
def X2A (g:(List UInt8)→Option (Xaa×Bool)):Xbr:=⟨[.v],r195 g⟩
theorem XkG {g:(List UInt8)→Option (Xaa×Bool)} {y0:List UInt8} {x:Xaa×Bool} (hx:g y0=some x):(X2A g).run [.string ⟨⟨y0⟩⟩] []=some (XxG x):=X8L hx
abbrev Xv0 (Xbu:(List UInt8)→Int→Int→Option (Int×Bool)):List (Nat×Xbr):=[(121,XSc Xbu)]
theorem XAO (Xbu:(List UInt8)→Int→Int→Option (Int×Bool)) (hS:Xai Tryz.prog (Xav (Xv0 Xbu))) (s:List UInt8) (res:Xaa×Bool) (h:Xig Xbu s=some res) :
 XaI Tryz.prog 195 0 ⟨⟨195,37,[(0,.string ⟨⟨s⟩⟩)],[.code Xuh],[],false,none⟩,[],[],0⟩ (fun v H _=>Res 0 (XxG res) v H):=by
 unfold Xig at h
 refine Xa7 Xao hS true 3000 ?_
 conv=>whnf
 refine br.h h ?_ ?_ ?_
 ·rfl
 ·clear h;intro hb h;conv=>whnf
  replace h:=Xal.elim h;obtain ⟨xg,hy,h⟩:=h
  refine XaK.q rfl rfl (Xmk hy) rfl rfl rfl ?_
  conv=>whnf
  all_goals (cases h;exact Res.z rfl rfl rfl)
 clear h;intro hb h;conv=>whnf
 refine br.h2 h ?_ ?_ ?_
 ·rfl
 ·clear h;intro hb h;conv=>whnf
  all_goals (cases h;exact Res.z rfl rfl rfl)
 clear h;intro hb h;conv=>whnf
 replace h:=Xal.elim h;obtain ⟨xg1,hy,h⟩:=h
 refine XaK.q rfl rfl (Xmk hy) rfl rfl rfl ?_
 conv=>whnf
 replace h:=Xal.elim h;obtain ⟨xg2,hy,h⟩:=h
 refine XaK.q rfl rfl (Xmk hy) rfl rfl rfl ?_
 conv=>whnf
 all_goals (cases h;exact Res.z rfl rfl rfl)
theorem ok195 (Xbu:(List UInt8)→Int→Int→Option (Int×Bool)) (hS:Xai Tryz.prog (Xav (Xv0 Xbu))):Xar Tryz.prog 195 (X2A (Xig Xbu)):=by
 refine Xar.Xay Xao (fun ar os r ha hr=>?_) ⟨Tryz.f195,rfl,by decide,rfl⟩
 replace hr:r195 (Xig Xbu) ar (XaD os)=some r:=hr
 unfold r195 at hr
 generalize hc:XaD os=C at hr
 replace hr:=dV.elim hr;obtain ⟨v0,l1,y0,rfl,e0,hr⟩:=hr;obtain rfl:=XbH _ _ e0
 replace hr:=Xc2 hr;obtain ⟨rfl,rfl,x,h,rfl⟩:=hr
 obtain rfl:=Xas hc
 exact ⟨_,rfl,XAO Xbu hS _ x h⟩
def XbN:(List UInt8)→Option (Xaa×Bool):=Xig Xbu
theorem XuD:Xar Tryz.prog 195 (X2A XbN):=ok195 Xbu (Xai.XaW ⟨Xqx,trivial⟩)
end Go.Vm.Code
namespace Go.Vm.Code
open Go Go.Vm
theorem XmO {s:List UInt8} (h:s.length=16):XbC s=some (XrL s,true):=by
 unfold XbC XgZ
 have e1:((s.length:Int)==4)=false:=by rw [h];rfl
 have e2:((s.length:Int)==16)=true:=by rw [h];rfl
 have e3:(s.drop 8).take 8=s.drop 8:=List.take_of_length_le (by simp;omega)
 rw [e1,e2,cond_false,cond_true,Xd7 (by omega),Xd7 (by omega),Xgj (p:=0) (k:=8) (by omega) (by omega) (by omega) (by omega),Xgj (p:=8) (k:=8) (by omega) (by omega) (by omega) (by omega)]
 show some ((⟨true,((Xdz ((s.drop 0).take 8):Nat):Int),((Xdz ((s.drop 8).take 8):Nat):Int)⟩:Xaa),true)=_
 rw [e3];rfl
theorem Xph {s:List UInt8} (h:s.length=16):XbN s=some (XrL s,true):=by
 unfold XbN Xig
 have e1:((s.length:Int)==4)=false:=by rw [h];rfl
 have e2:((s.length:Int)==16)=true:=by rw [h];rfl
 have e3:(s.drop 8).take 8=s.drop 8:=List.take_of_length_le (by simp;omega)
 rw [e1,e2,cond_false,cond_true,Xhz (by omega),Xhz (by omega),Xgj (p:=0) (k:=8) (by omega) (by omega) (by omega) (by omega),Xgj (p:=8) (k:=8) (by omega) (by omega) (by omega) (by omega)]
 show some ((⟨true,((Xdz ((s.drop 0).take 8):Nat):Int),((Xdz ((s.drop 8).take 8):Nat):Int)⟩:Xaa),true)=_
 rw [e3];rfl
def adr4 (s:List UInt8) (p:Nat):Xaa:=⟨false,0,vK s p 4⟩
theorem aget4 {s:List UInt8} (h:s.length=4):XbC s=some (⟨false,0,vK s 0 4⟩,true):=by
 unfold XbC XgZ
 rw [show ((s.length:Int)==4)=true by rw [h];rfl,cond_true,Xd7 (by omega),Xgj (by omega) (by omega) (by omega) (by omega)];rfl
theorem XDf {s:List UInt8} (h:s.length=4):XbN s=some (⟨false,0,vK s 0 4⟩,true):=by
 unfold XbN Xig
 rw [show ((s.length:Int)==4)=true by rw [h];rfl,cond_true,Xhz (by omega),Xgj (by omega) (by omega) (by omega) (by omega)];rfl
end Go.Vm.Code
namespace Go.Vm.Code
open Go Go.Vm Go.Proofs
set_option maxRecDepth 100000
set_option maxHeartbeats 4000000
set_option linter.unusedVariables false
def Xb0 (XbC:(List UInt8)→Option (Xaa×Bool)) (Xac:Xab→Int→Option ((List UInt8)×Xab)) (f:Xbo):Option (Xaa×Xab):=
 (Xac f.Reader 4).bind fun t=>
 (XbC t.1).bind fun xg=>
 some ((xg.1,t.2))
def Xw4 (x:Xaa×Xab):Xca:=⟨.agg ⟨[.bool x.1.V6,.int .u64 x.1.Hi,.int .u64 x.1.Lo]⟩,[],[some [.string ⟨⟨x.2.s⟩⟩,.bool x.2.made,.bool x.2.bad]]⟩
def r209 (g:Xbo→Option (Xaa×Xab)):Dec:=dTr 1 (Xfo 0) fun (y0:Xbo)=>XcO (ofG (g y0) Xw4)
theorem XUL {g:Xbo→Option (Xaa×Xab)} {y0:Xbo} {x:Xaa×Xab} (hx:g y0=some x):r209 g [.agg ⟨[.pointer (some ⟨0,0,none⟩)]⟩] [some [.string ⟨⟨y0.Reader.s⟩⟩,.bool y0.Reader.made,.bool y0.Reader.bad]]=some (Xw4 x):=(X2m rfl rfl (XkJ 0 _)).trans (Xa0 hx)
def s209 (g:Xbo→Option (Xaa×Xab)):Xbr:=⟨[.tr [⟨none,0,0,1,none⟩]],r209 g⟩
theorem XvS {g:Xbo→Option (Xaa×Xab)} {y0:Xbo} {x:Xaa×Xab} (hx:g y0=some x):(s209 g).run [.agg ⟨[.pointer (some ⟨0,0,none⟩)]⟩] [some [.string ⟨⟨y0.Reader.s⟩⟩,.bool y0.Reader.made,.bool y0.Reader.bad]]=some (Xw4 x):=XUL hx
abbrev XtJ (XbC:(List UInt8)→Option (Xaa×Bool)) (Xac:Xab→Int→Option ((List UInt8)×Xab)):List (Nat×Xbr):=[(210,X5Q XbC),(115,Xs3 Xac)]
theorem XxC (XbC:(List UInt8)→Option (Xaa×Bool)) (Xac:Xab→Int→Option ((List UInt8)×Xab)) (hS:Xai Tryz.prog (Xav (XtJ XbC Xac))) (f:Xbo) (res:Xaa×Xab) (h:Xb0 XbC Xac f=some res) :
 XaI Tryz.prog 209 1 ⟨⟨209,13,[(0,.agg ⟨[.pointer (some ⟨0,0,none⟩)]⟩)],[.code XBJ],[],false,none⟩,[],[(0,.cells [.string ⟨⟨f.Reader.s⟩⟩,.bool f.Reader.made,.bool f.Reader.bad])],1⟩ (fun v H _=>Res 1 (Xw4 res) v H):=by
 unfold Xb0 at h
 refine Xa7 Xao hS true 3000 ?_
 conv=>whnf
 replace h:=Xal.elim h;obtain ⟨t,hy,h⟩:=h
 refine XaK.Xbb [0] (Xaw (aqs:=[.pointer (some ⟨0,0,none⟩),.int .i64 4]) (ws:=[.win 0 0 3 true]) (n:=0) (m:=0) (t':=3) (Xau rfl rfl (Xau rfl rfl Xbf)) rfl (by rfl) (Xfx hy) rfl rfl rfl rfl (XbF rfl rfl rfl ⟨rfl,Nat.le_of_ble_eq_true rfl⟩ rfl rfl Xbe) Xbc rfl) ?_
 conv=>whnf
 replace h:=Xal.elim h;obtain ⟨xg,hy,h⟩:=h
 refine XaK.q rfl rfl (Xpz hy) rfl rfl rfl ?_
 conv=>whnf
 all_goals (cases h)
 all_goals exact Res.of [] rfl Xg3 (by decide) Xg1 (XlC (rfl) (Xb2 rfl) Xg2)
theorem ok209 (XbC:(List UInt8)→Option (Xaa×Bool)) (Xac:Xab→Int→Option ((List UInt8)×Xab)) (hS:Xai Tryz.prog (Xav (XtJ XbC Xac))):Xar Tryz.prog 209 (s209 (Xb0 XbC Xac)):=by
 refine Xar.Xay Xao (fun ar os r ha hr=>?_) ⟨Tryz.f209,rfl,by decide,rfl⟩
 replace hr:r209 (Xb0 XbC Xac) ar (XaD os)=some r:=hr
 unfold r209 at hr
 generalize hc:XaD os=C at hr
 have hq:=dTr.elim hr;clear hr;obtain ⟨v0,l1,c0,C,y0,rfl,rfl,e0,hr⟩:=hq;obtain ⟨rfl,rfl⟩:=Xkc e0;simp only [List.nil_append,List.cons_append] at hc
 replace hr:=Xc2 hr;obtain ⟨rfl,rfl,x,h,rfl⟩:=hr
 obtain ⟨os,rfl,ha,hc⟩:=Xc5 ha hc
 obtain rfl:=Xas hc
 exact ⟨_,rfl,XxC XbC Xac hS _ x h⟩
def XaM:Xbo→Option (Xaa×Xab):=Xb0 XbC Xac
theorem XFV:Xar Tryz.prog 209 (s209 XaM):=ok209 XbC Xac (Xai.XaW ⟨Xs9,Xis,trivial⟩)
def XfR (XaE:(List UInt8)→Option Bool) (XaM:Xbo→Option (Xaa×Xab)) (XaA:(List UInt8)→Option Xab) (Xad:Xab→Int→Option (Int×Xab)) (Xac:Xab→Int→Option ((List UInt8)×Xab)) (s:List UInt8):Option (Xag×(List UInt8)×Int):=
 cond (decide ((s.length:Int)<20))
  (
  some ((Xag.mk 0 0 false 0 0 (Xaa.mk false 0 0) (Xaa.mk false 0 0) [],[],2)))
  (
  (XaA s).bind fun n=>
  (Xad n 1).bind fun n1=>
  (Xad n1.2 1).bind fun n2=>
  (Xad n2.2 2).bind fun n3=>
  cond ((n1.1.fdiv (2^4)) !=4)
   (
   some ((Xag.mk 0 0 false 0 0 (Xaa.mk false 0 0) (Xaa.mk false 0 0) [],[],3)))
   (
   let t:=decide ((wI .i64 ((Xjr .i64 n1.1 15)*4))<20)
   cond (t)
    (
    some ((Xag.mk 0 0 false 0 0 (Xaa.mk false 0 0) (Xaa.mk false 0 0) [],[],3)))
    (
    let t1:=decide (n3.1<(wI .i64 ((Xjr .i64 n1.1 15)*4)))
    cond (t1)
     (
     some ((Xag.mk 0 0 false 0 0 (Xaa.mk false 0 0) (Xaa.mk false 0 0) [],[],3)))
     (
     cond (decide (n3.1>(s.length:Int)))
      (
      some ((Xag.mk 0 0 false 0 0 (Xaa.mk false 0 0) (Xaa.mk false 0 0) [],[],2)))
      (
      XaJ (decide ((0:Int)≤(wI .i64 ((Xjr .i64 n1.1 15)*4))∧(wI .i64 ((Xjr .i64 n1.1 15)*4))≤(s.length:Int))) <|
      let t2:=s.take (wI .i64 ((Xjr .i64 n1.1 15)*4)).toNat
      (XaE t2).bind fun xr=>
      cond (!xr)
       (
       some ((Xag.mk 0 0 false 0 0 (Xaa.mk false 0 0) (Xaa.mk false 0 0) [],[],4)))
       (
       (Xad n3.2 2).bind fun n4=>
       (Xad n4.2 2).bind fun n5=>
       cond ((Xza .i64 n5.1 16384) !=0)
        (
        some ((Xag.mk 0 0 false 0 0 (Xaa.mk false 0 0) (Xaa.mk false 0 0) [],[],7)))
        (
        (Xad n5.2 1).bind fun n6=>
        (Xad n6.2 1).bind fun n7=>
        (Xad n7.2 2).bind fun n8=>
        (XaM (Xbo.mk n8.2)).bind fun a=>
        (XaM (Xbo.mk a.2)).bind fun a1=>
        let t3:=wI .i64 ((wI .i64 ((Xjr .i64 n1.1 15)*4)) - 20)
        (Xac a1.2 t3).bind fun t4=>
        let t5:=wI .i64 (n3.1 - (wI .i64 ((Xjr .i64 n1.1 15)*4)))
        (Xac t4.2 t5).bind fun t6=>
        some ((Xag.mk n2.1 n4.1 (n5.1 !=0) n6.1 n7.1 a.1 a1.1 t4.1,t6.1,0)))))))))
def XAj (x:Xag×(List UInt8)×Int):Xca:=⟨.tuple ⟨[.agg ⟨[.int .i64 x.1.Class,.int .i64 x.1.Mark,.bool x.1.Whole,.int .i64 x.1.TTL,.int .i64 x.1.Proto,.bool x.1.Src.V6,.int .u64 x.1.Src.Hi,.int .u64 x.1.Src.Lo,.bool x.1.Dst.V6,.int .u64 x.1.Dst.Hi,.int .u64 x.1.Dst.Lo,.string ⟨⟨x.1.Options⟩⟩]⟩,.string ⟨⟨x.2.1⟩⟩,.int .i64 x.2.2]⟩,[],[]⟩
def r200 (g:(List UInt8)→Option (Xag×(List UInt8)×Int)):Dec:=dV asS fun (y0:List UInt8)=>XcO (ofG (g y0) XAj)
theorem X5v {g:(List UInt8)→Option (Xag×(List UInt8)×Int)} {y0:List UInt8} {x:Xag×(List UInt8)×Int} (hx:g y0=some x):r200 g [.string ⟨⟨y0⟩⟩] []=some (XAj x):=(XaT (Xcp)).trans (Xa0 hx)
def s200 (g:(List UInt8)→Option (Xag×(List UInt8)×Int)):Xbr:=⟨[.v],r200 g⟩
theorem XJ9 {g:(List UInt8)→Option (Xag×(List UInt8)×Int)} {y0:List UInt8} {x:Xag×(List UInt8)×Int} (hx:g y0=some x):(s200 g).run [.string ⟨⟨y0⟩⟩] []=some (XAj x):=X5v hx
abbrev XsE (XaE:(List UInt8)→Option Bool) (XaM:Xbo→Option (Xaa×Xab)) (XaA:(List UInt8)→Option Xab) (Xad:Xab→Int→Option (Int×Xab)) (Xac:Xab→Int→Option ((List UInt8)×Xab)):List (Nat×Xbr):=[(146,XR7 XaE),(209,s209 XaM),(112,XBv XaA),(113,Xw5 Xad),(115,Xs3 Xac)]
theorem XxR (XaE:(List UInt8)→Option Bool) (XaM:Xbo→Option (Xaa×Xab)) (XaA:(List UInt8)→Option Xab) (Xad:Xab→Int→Option (Int×Xab)) (Xac:Xab→Int→Option ((List UInt8)×Xab)) (hS:Xai Tryz.prog (Xav (XsE XaE XaM XaA Xad Xac))) (s:List UInt8) (res:Xag×(List UInt8)×Int) (h:XfR XaE XaM XaA Xad Xac s=some res) :
 XaI Tryz.prog 200 0 ⟨⟨200,102,[(0,.string ⟨⟨s⟩⟩)],[.code Xvf],[],false,none⟩,[],[],0⟩ (fun v H _=>Res 0 (XAj res) v H):=by
 unfold XfR at h
 refine Xa7 Xao hS true 3000 ?_
 conv=>whnf
 refine br.h h ?_ ?_ ?_
 ·rfl
 ·clear h;intro hb h;conv=>whnf
  all_goals (cases h;exact Res.z rfl rfl rfl)
 clear h;intro hb h;conv=>whnf
 replace h:=Xal.elim h;obtain ⟨n,hy,h⟩:=h
 refine XaK.Xbb [1] (Xaw (aqs:=[.string ⟨⟨s⟩⟩]) (ws:=[]) (n:=1) (m:=0) (t':=2) (Xau rfl rfl Xbf) rfl (by rfl) (Xmi hy) rfl rfl rfl rfl Xbe (Xho (rfl) Xbc) rfl) ?_
 conv=>whnf
 replace h:=Xal.elim h;obtain ⟨n1,hy,h⟩:=h
 refine XaK.Xbb [1] (Xaw (aqs:=[.pointer (some ⟨0,0,none⟩),.int .i64 1]) (ws:=[.win 1 0 3 true]) (n:=0) (m:=0) (t':=3) (Xau rfl rfl (Xau rfl rfl Xbf)) rfl (by rfl) (Xcn hy) rfl rfl rfl rfl (XbF rfl rfl rfl ⟨rfl,Nat.le_of_ble_eq_true rfl⟩ rfl rfl Xbe) Xbc rfl) ?_
 conv=>whnf
 replace h:=Xal.elim h;obtain ⟨n2,hy,h⟩:=h
 refine XaK.Xbb [1] (Xaw (aqs:=[.pointer (some ⟨0,0,none⟩),.int .i64 1]) (ws:=[.win 1 0 3 true]) (n:=0) (m:=0) (t':=3) (Xau rfl rfl (Xau rfl rfl Xbf)) rfl (by rfl) (Xcn hy) rfl rfl rfl rfl (XbF rfl rfl rfl ⟨rfl,Nat.le_of_ble_eq_true rfl⟩ rfl rfl Xbe) Xbc rfl) ?_
 conv=>whnf
 replace h:=Xal.elim h;obtain ⟨n3,hy,h⟩:=h
 refine XaK.Xbb [1] (Xaw (aqs:=[.pointer (some ⟨0,0,none⟩),.int .i64 2]) (ws:=[.win 1 0 3 true]) (n:=0) (m:=0) (t':=4) (Xau rfl rfl (Xau rfl rfl Xbf)) rfl (by rfl) (Xcn hy) rfl rfl rfl rfl (XbF rfl rfl rfl ⟨rfl,Nat.le_of_ble_eq_true rfl⟩ rfl rfl Xbe) Xbc rfl) ?_
 conv=>whnf
 refine br.h h ?_ ?_ ?_
 ·rfl
 ·clear h;intro hb h;conv=>whnf
  all_goals (cases h;exact Res.z rfl rfl rfl)
 clear h;intro hb h;conv=>whnf
 let t:Bool:=decide ((wI .i64 ((Xjr .i64 n1.1 15)*4))<20)
 refine br.h h ?_ ?_ ?_
 ·rfl
 ·clear h;intro hb h;conv=>whnf
  all_goals (cases h;exact Res.z rfl rfl rfl)
 clear h;intro hb h;conv=>whnf
 let t1:Bool:=decide (n3.1<(wI .i64 ((Xjr .i64 n1.1 15)*4)))
 refine br.h h ?_ ?_ ?_
 ·rfl
 ·clear h;intro hb h;conv=>whnf
  all_goals (cases h;exact Res.z rfl rfl rfl)
 clear h;intro hb h;conv=>whnf
 refine br.h h ?_ ?_ ?_
 ·rfl
 ·clear h;intro hb h;conv=>whnf
  all_goals (cases h;exact Res.z rfl rfl rfl)
 clear h;intro hb h;conv=>whnf
 replace h:=XaJ.elim h;obtain ⟨hb,h⟩:=h
 first|(refine req.intro hb ?_;conv=>whnf)|skip
 let t2:List UInt8:=s.take (wI .i64 ((Xjr .i64 n1.1 15)*4)).toNat
 replace h:=Xal.elim h;obtain ⟨xr,hy,h⟩:=h
 refine XaK.q rfl rfl (XnF hy) rfl rfl rfl ?_
 conv=>whnf
 refine br.h h ?_ ?_ ?_
 ·rfl
 ·clear h;intro hb h;conv=>whnf
  all_goals (cases h;exact Res.z rfl rfl rfl)
 clear h;intro hb h;conv=>whnf
 replace h:=Xal.elim h;obtain ⟨n4,hy,h⟩:=h
 refine XaK.Xbb [1] (Xaw (aqs:=[.pointer (some ⟨0,0,none⟩),.int .i64 2]) (ws:=[.win 1 0 3 true]) (n:=0) (m:=0) (t':=4) (Xau rfl rfl (Xau rfl rfl Xbf)) rfl (by rfl) (Xcn hy) rfl rfl rfl rfl (XbF rfl rfl rfl ⟨rfl,Nat.le_of_ble_eq_true rfl⟩ rfl rfl Xbe) Xbc rfl) ?_
 conv=>whnf
 replace h:=Xal.elim h;obtain ⟨n5,hy,h⟩:=h
 refine XaK.Xbb [1] (Xaw (aqs:=[.pointer (some ⟨0,0,none⟩),.int .i64 2]) (ws:=[.win 1 0 3 true]) (n:=0) (m:=0) (t':=4) (Xau rfl rfl (Xau rfl rfl Xbf)) rfl (by rfl) (Xcn hy) rfl rfl rfl rfl (XbF rfl rfl rfl ⟨rfl,Nat.le_of_ble_eq_true rfl⟩ rfl rfl Xbe) Xbc rfl) ?_
 conv=>whnf
 refine br.h h ?_ ?_ ?_
 ·rfl
 ·clear h;intro hb h;conv=>whnf
  all_goals (cases h;exact Res.z rfl rfl rfl)
 clear h;intro hb h;conv=>whnf
 replace h:=Xal.elim h;obtain ⟨n6,hy,h⟩:=h
 refine XaK.Xbb [1] (Xaw (aqs:=[.pointer (some ⟨0,0,none⟩),.int .i64 1]) (ws:=[.win 1 0 3 true]) (n:=0) (m:=0) (t':=6) (Xau rfl rfl (Xau rfl rfl Xbf)) rfl (by rfl) (Xcn hy) rfl rfl rfl rfl (XbF rfl rfl rfl ⟨rfl,Nat.le_of_ble_eq_true rfl⟩ rfl rfl Xbe) Xbc rfl) ?_
 conv=>whnf
 replace h:=Xal.elim h;obtain ⟨n7,hy,h⟩:=h
 refine XaK.Xbb [1] (Xaw (aqs:=[.pointer (some ⟨0,0,none⟩),.int .i64 1]) (ws:=[.win 1 0 3 true]) (n:=0) (m:=0) (t':=9) (Xau rfl rfl (Xau rfl rfl Xbf)) rfl (by rfl) (Xcn hy) rfl rfl rfl rfl (XbF rfl rfl rfl ⟨rfl,Nat.le_of_ble_eq_true rfl⟩ rfl rfl Xbe) Xbc rfl) ?_
 conv=>whnf
 replace h:=Xal.elim h;obtain ⟨n8,hy,h⟩:=h
 refine XaK.Xbb [1] (Xaw (aqs:=[.pointer (some ⟨0,0,none⟩),.int .i64 2]) (ws:=[.win 1 0 3 true]) (n:=0) (m:=0) (t':=11) (Xau rfl rfl (Xau rfl rfl Xbf)) rfl (by rfl) (Xcn hy) rfl rfl rfl rfl (XbF rfl rfl rfl ⟨rfl,Nat.le_of_ble_eq_true rfl⟩ rfl rfl Xbe) Xbc rfl) ?_
 conv=>whnf
 replace h:=Xal.elim h;obtain ⟨a,hy,h⟩:=h
 refine XaK.Xbb [1] (Xaw (aqs:=[.agg ⟨[.pointer (some ⟨0,0,none⟩)]⟩]) (ws:=[.blk 1 true]) (n:=0) (m:=0) (t':=12) (Xau (X0M rfl rfl (XSt rfl rfl rfl rfl XDs) rfl) rfl Xbf) rfl (by rfl) (XvS hy) rfl rfl rfl rfl (XBh rfl rfl rfl rfl Xbe) Xbc rfl) ?_
 conv=>whnf
 replace h:=Xal.elim h;obtain ⟨a1,hy,h⟩:=h
 refine XaK.Xbb [1] (Xaw (aqs:=[.agg ⟨[.pointer (some ⟨0,0,none⟩)]⟩]) (ws:=[.blk 1 true]) (n:=0) (m:=0) (t':=14) (Xau (X0M rfl rfl (XSt rfl rfl rfl rfl XDs) rfl) rfl Xbf) rfl (by rfl) (XvS hy) rfl rfl rfl rfl (XBh rfl rfl rfl rfl Xbe) Xbc rfl) ?_
 conv=>whnf
 let t3:Int:=wI .i64 ((wI .i64 ((Xjr .i64 n1.1 15)*4)) - 20)
 replace h:=Xal.elim h;obtain ⟨t4,hy,h⟩:=h
 refine XaK.Xbb [1] (Xaw (aqs:=[.pointer (some ⟨0,0,none⟩),.int .i64 t3]) (ws:=[.win 1 0 3 true]) (n:=0) (m:=0) (t':=16) (Xau rfl rfl (Xau rfl rfl Xbf)) rfl (by rfl) (Xfx hy) rfl rfl rfl rfl (XbF rfl rfl rfl ⟨rfl,Nat.le_of_ble_eq_true rfl⟩ rfl rfl Xbe) Xbc rfl) ?_
 conv=>whnf
 let t5:Int:=wI .i64 (n3.1 - (wI .i64 ((Xjr .i64 n1.1 15)*4)))
 replace h:=Xal.elim h;obtain ⟨t6,hy,h⟩:=h
 refine XaK.Xbb [1] (Xaw (aqs:=[.pointer (some ⟨0,0,none⟩),.int .i64 t5]) (ws:=[.win 1 0 3 true]) (n:=0) (m:=0) (t':=22) (Xau rfl rfl (Xau rfl rfl Xbf)) rfl (by rfl) (Xfx hy) rfl rfl rfl rfl (XbF rfl rfl rfl ⟨rfl,Nat.le_of_ble_eq_true rfl⟩ rfl rfl Xbe) Xbc rfl) ?_
 conv=>whnf
 all_goals (cases h;exact Res.z rfl rfl rfl)
theorem ok200 (XaE:(List UInt8)→Option Bool) (XaM:Xbo→Option (Xaa×Xab)) (XaA:(List UInt8)→Option Xab) (Xad:Xab→Int→Option (Int×Xab)) (Xac:Xab→Int→Option ((List UInt8)×Xab)) (hS:Xai Tryz.prog (Xav (XsE XaE XaM XaA Xad Xac))):Xar Tryz.prog 200 (s200 (XfR XaE XaM XaA Xad Xac)):=by
 refine Xar.Xay Xao (fun ar os r ha hr=>?_) ⟨Tryz.f200,rfl,by decide,rfl⟩
 replace hr:r200 (XfR XaE XaM XaA Xad Xac) ar (XaD os)=some r:=hr
 unfold r200 at hr
 generalize hc:XaD os=C at hr
 replace hr:=dV.elim hr;obtain ⟨v0,l1,y0,rfl,e0,hr⟩:=hr;obtain rfl:=XbH _ _ e0
 replace hr:=Xc2 hr;obtain ⟨rfl,rfl,x,h,rfl⟩:=hr
 obtain rfl:=Xas hc
 exact ⟨_,rfl,XxR XaE XaM XaA Xad Xac hS _ x h⟩
def Xb7:(List UInt8)→Option (Xag×(List UInt8)×Int):=XfR XaE XaM XaA Xad Xac
theorem XLN:Xar Tryz.prog 200 (s200 Xb7):=ok200 XaE XaM XaA Xad Xac (Xai.XaW ⟨Xqs,XFV,XlZ,Xk7,Xis,trivial⟩)
def Xja (Xam:(List UInt8)→Int→Int→Option Int) (Xba:(List UInt8)→Option Int) (XbN:(List UInt8)→Option (Xaa×Bool)) (s:List UInt8):Option (Xag×(List UInt8)×Int):=
 cond (decide ((s.length:Int)<20))
  (
  some ((Xag.mk 0 0 false 0 0 (Xaa.mk false 0 0) (Xaa.mk false 0 0) [],[],2)))
  (
  (s[0]?).bind fun (b:UInt8)=>
  let t:=wI .i64 (4*(wI .i64 ((b.toNat:Int).tmod 16)))
  (Xam s 2 2).bind fun m=>
  (s[0]?).bind fun (b1:UInt8)=>
  cond ((wI .u8 ((b1.toNat:Int).tdiv 16)) !=4)
   (
   some ((Xag.mk 0 0 false 0 0 (Xaa.mk false 0 0) (Xaa.mk false 0 0) [],[],3)))
   (
   cond (decide (t<20))
    (
    some ((Xag.mk 0 0 false 0 0 (Xaa.mk false 0 0) (Xaa.mk false 0 0) [],[],3)))
    (
    cond (decide (m<t))
     (
     some ((Xag.mk 0 0 false 0 0 (Xaa.mk false 0 0) (Xaa.mk false 0 0) [],[],3)))
     (
     cond (decide ((s.length:Int)<m))
      (
      some ((Xag.mk 0 0 false 0 0 (Xaa.mk false 0 0) (Xaa.mk false 0 0) [],[],2)))
      (
      XaJ (decide ((0:Int)≤t∧t≤(s.length:Int))) <|
      (Xba (s.take t.toNat)).bind fun s1=>
      cond (s1 !=65535)
       (
       some ((Xag.mk 0 0 false 0 0 (Xaa.mk false 0 0) (Xaa.mk false 0 0) [],[],4)))
       (
       (s[6]?).bind fun (b2:UInt8)=>
       cond ((b2.toNat:Int) !=0)
        (
        (s[6]?).bind fun (b3:UInt8)=>
        cond ((b3.toNat:Int) !=64)
         (
         some ((Xag.mk 0 0 false 0 0 (Xaa.mk false 0 0) (Xaa.mk false 0 0) [],[],7)))
         (
         (s[7]?).bind fun (b4:UInt8)=>
         cond ((b4.toNat:Int) !=0)
          (
          some ((Xag.mk 0 0 false 0 0 (Xaa.mk false 0 0) (Xaa.mk false 0 0) [],[],7)))
          (
          XaJ (decide ((0:Int)≤(16:Int)∧(16:Int)≤(s.length:Int)∧(0:Int)≤(12:Int)∧(12:Int)≤(16:Int))) <|
          (XbN ((s.drop 12).take 4)).bind fun xg=>
          XaJ (decide ((0:Int)≤(20:Int)∧(20:Int)≤(s.length:Int)∧(0:Int)≤(16:Int)∧(16:Int)≤(20:Int))) <|
          (XbN ((s.drop 16).take 4)).bind fun xg1=>
          (s[1]?).bind fun (b5:UInt8)=>
          (Xam s 4 2).bind fun m1=>
          (s[6]?).bind fun (b6:UInt8)=>
          (s[8]?).bind fun (b7:UInt8)=>
          (s[9]?).bind fun (b8:UInt8)=>
          XaJ (decide ((0:Int)≤t∧t≤(s.length:Int)∧(0:Int)≤(20:Int)∧(20:Int)≤(t.toNat:Int))) <|
          XaJ (decide ((0:Int)≤m∧m≤(s.length:Int)∧(0:Int)≤t∧t≤(m.toNat:Int))) <|
          let t1:=(s.drop t.toNat).take (m.toNat - t.toNat)
          some ((Xag.mk (wI .i64 (b5.toNat:Int)) m1 ((b6.toNat:Int)==64) (wI .i64 (b7.toNat:Int)) (wI .i64 (b8.toNat:Int)) xg.1 xg1.1 ((s.drop 20).take (t.toNat - 20)),t1,0)))))
        (
        (s[7]?).bind fun (b9:UInt8)=>
        cond ((b9.toNat:Int) !=0)
         (
         some ((Xag.mk 0 0 false 0 0 (Xaa.mk false 0 0) (Xaa.mk false 0 0) [],[],7)))
         (
         XaJ (decide ((0:Int)≤(16:Int)∧(16:Int)≤(s.length:Int)∧(0:Int)≤(12:Int)∧(12:Int)≤(16:Int))) <|
         (XbN ((s.drop 12).take 4)).bind fun xg2=>
         XaJ (decide ((0:Int)≤(20:Int)∧(20:Int)≤(s.length:Int)∧(0:Int)≤(16:Int)∧(16:Int)≤(20:Int))) <|
         (XbN ((s.drop 16).take 4)).bind fun xg3=>
         (s[1]?).bind fun (b10:UInt8)=>
         (Xam s 4 2).bind fun m2=>
         (s[6]?).bind fun (b11:UInt8)=>
         (s[8]?).bind fun (b12:UInt8)=>
         (s[9]?).bind fun (b13:UInt8)=>
         XaJ (decide ((0:Int)≤t∧t≤(s.length:Int)∧(0:Int)≤(20:Int)∧(20:Int)≤(t.toNat:Int))) <|
         XaJ (decide ((0:Int)≤m∧m≤(s.length:Int)∧(0:Int)≤t∧t≤(m.toNat:Int))) <|
         let t2:=(s.drop t.toNat).take (m.toNat - t.toNat)
         some ((Xag.mk (wI .i64 (b10.toNat:Int)) m2 ((b11.toNat:Int)==64) (wI .i64 (b12.toNat:Int)) (wI .i64 (b13.toNat:Int)) xg2.1 xg3.1 ((s.drop 20).take (t.toNat - 20)),t2,0))))))))))
def Xxm (x:Xag×(List UInt8)×Int):Xca:=⟨.tuple ⟨[.agg ⟨[.int .i64 x.1.Class,.int .i64 x.1.Mark,.bool x.1.Whole,.int .i64 x.1.TTL,.int .i64 x.1.Proto,.bool x.1.Src.V6,.int .u64 x.1.Src.Hi,.int .u64 x.1.Src.Lo,.bool x.1.Dst.V6,.int .u64 x.1.Dst.Hi,.int .u64 x.1.Dst.Lo,.string ⟨⟨x.1.Options⟩⟩]⟩,.string ⟨⟨x.2.1⟩⟩,.int .i64 x.2.2]⟩,[],[]⟩
def r165 (g:(List UInt8)→Option (Xag×(List UInt8)×Int)):Dec:=dV asS fun (y0:List UInt8)=>XcO (ofG (g y0) Xxm)
theorem XWA {g:(List UInt8)→Option (Xag×(List UInt8)×Int)} {y0:List UInt8} {x:Xag×(List UInt8)×Int} (hx:g y0=some x):r165 g [.string ⟨⟨y0⟩⟩] []=some (Xxm x):=(XaT (Xcp)).trans (Xa0 hx)
def s165 (g:(List UInt8)→Option (Xag×(List UInt8)×Int)):Xbr:=⟨[.v],r165 g⟩
theorem XFy {g:(List UInt8)→Option (Xag×(List UInt8)×Int)} {y0:List UInt8} {x:Xag×(List UInt8)×Int} (hx:g y0=some x):(s165 g).run [.string ⟨⟨y0⟩⟩] []=some (Xxm x):=XWA hx
abbrev Xv2 (Xam:(List UInt8)→Int→Int→Option Int) (Xba:(List UInt8)→Option Int) (XbN:(List UInt8)→Option (Xaa×Bool)):List (Nat×Xbr):=[(74,s74 Xam),(147,XEP Xba),(195,X2A XbN)]
theorem Xz5 (Xam:(List UInt8)→Int→Int→Option Int) (Xba:(List UInt8)→Option Int) (XbN:(List UInt8)→Option (Xaa×Bool)) (hS:Xai Tryz.prog (Xav (Xv2 Xam Xba XbN))) (s:List UInt8) (res:Xag×(List UInt8)×Int) (h:Xja Xam Xba XbN s=some res) :
 XaI Tryz.prog 165 0 ⟨⟨165,97,[(0,.string ⟨⟨s⟩⟩)],[.code Xue],[],false,none⟩,[],[],0⟩ (fun v H _=>Res 0 (Xxm res) v H):=by
 unfold Xja at h
 refine Xa7 Xao hS true 3000 ?_
 conv=>whnf
 refine br.h h ?_ ?_ ?_
 ·rfl
 ·clear h;intro hb h;conv=>whnf
  all_goals (cases h;exact Res.z rfl rfl rfl)
 clear h;intro hb h;conv=>whnf
 replace h:=Xal.elim h;obtain ⟨b,hy,h⟩:=h
 refine rdS.intro hy ?_
 conv=>whnf
 let t:Int:=wI .i64 (4*(wI .i64 ((b.toNat:Int).tmod 16)))
 replace h:=Xal.elim h;obtain ⟨m,hy,h⟩:=h
 refine XaK.q rfl rfl (XeL hy) rfl rfl rfl ?_
 conv=>whnf
 replace h:=Xal.elim h;obtain ⟨b1,hy,h⟩:=h
 refine rdS.intro hy ?_
 conv=>whnf
 refine br.h h ?_ ?_ ?_
 ·rfl
 ·clear h;intro hb h;conv=>whnf
  all_goals (cases h;exact Res.z rfl rfl rfl)
 clear h;intro hb h;conv=>whnf
 refine br.h h ?_ ?_ ?_
 ·rfl
 ·clear h;intro hb h;conv=>whnf
  all_goals (cases h;exact Res.z rfl rfl rfl)
 clear h;intro hb h;conv=>whnf
 refine br.h h ?_ ?_ ?_
 ·rfl
 ·clear h;intro hb h;conv=>whnf
  all_goals (cases h;exact Res.z rfl rfl rfl)
 clear h;intro hb h;conv=>whnf
 refine br.h h ?_ ?_ ?_
 ·rfl
 ·clear h;intro hb h;conv=>whnf
  all_goals (cases h;exact Res.z rfl rfl rfl)
 clear h;intro hb h;conv=>whnf
 replace h:=XaJ.elim h;obtain ⟨hb,h⟩:=h
 first|(refine req.intro hb ?_;conv=>whnf)|skip
 replace h:=Xal.elim h;obtain ⟨s1,hy,h⟩:=h
 refine XaK.q rfl rfl (Xoj hy) rfl rfl rfl ?_
 conv=>whnf
 refine br.h h ?_ ?_ ?_
 ·rfl
 ·clear h;intro hb h;conv=>whnf
  all_goals (cases h;exact Res.z rfl rfl rfl)
 clear h;intro hb h;conv=>whnf
 replace h:=Xal.elim h;obtain ⟨b2,hy,h⟩:=h
 refine rdS.intro hy ?_
 conv=>whnf
 refine br.h2 h ?_ ?_ ?_
 ·rfl
 ·clear h;intro hb h;conv=>whnf
  replace h:=Xal.elim h;obtain ⟨b9,hy,h⟩:=h
  refine rdS.intro hy ?_
  conv=>whnf
  refine br.h h ?_ ?_ ?_
  ·rfl
  ·clear h;intro hb h;conv=>whnf
   all_goals (cases h;exact Res.z rfl rfl rfl)
  clear h;intro hb h;conv=>whnf
  replace h:=XaJ.elim h;obtain ⟨hb,h⟩:=h
  first|(refine req.intro hb ?_;conv=>whnf)|skip
  replace h:=Xal.elim h;obtain ⟨xg2,hy,h⟩:=h
  refine XaK.q rfl rfl (XkG hy) rfl rfl rfl ?_
  conv=>whnf
  replace h:=XaJ.elim h;obtain ⟨hb,h⟩:=h
  first|(refine req.intro hb ?_;conv=>whnf)|skip
  replace h:=Xal.elim h;obtain ⟨xg3,hy,h⟩:=h
  refine XaK.q rfl rfl (XkG hy) rfl rfl rfl ?_
  conv=>whnf
  replace h:=Xal.elim h;obtain ⟨b10,hy,h⟩:=h
  refine rdS.intro hy ?_
  conv=>whnf
  replace h:=Xal.elim h;obtain ⟨m2,hy,h⟩:=h
  refine XaK.q rfl rfl (XeL hy) rfl rfl rfl ?_
  conv=>whnf
  replace h:=Xal.elim h;obtain ⟨b11,hy,h⟩:=h
  refine rdS.intro hy ?_
  conv=>whnf
  replace h:=Xal.elim h;obtain ⟨b12,hy,h⟩:=h
  refine rdS.intro hy ?_
  conv=>whnf
  replace h:=Xal.elim h;obtain ⟨b13,hy,h⟩:=h
  refine rdS.intro hy ?_
  conv=>whnf
  replace h:=XaJ.elim h;obtain ⟨hb,h⟩:=h
  first|(refine req.intro hb ?_;conv=>whnf)|skip
  replace h:=XaJ.elim h;obtain ⟨hb,h⟩:=h
  first|(refine req.intro hb ?_;conv=>whnf)|skip
  let t2:List UInt8:=(s.drop t.toNat).take (m.toNat - t.toNat)
  all_goals (cases h;exact Res.z rfl rfl rfl)
 clear h;intro hb h;conv=>whnf
 replace h:=Xal.elim h;obtain ⟨b3,hy,h⟩:=h
 refine rdS.intro hy ?_
 conv=>whnf
 refine br.h h ?_ ?_ ?_
 ·rfl
 ·clear h;intro hb h;conv=>whnf
  all_goals (cases h;exact Res.z rfl rfl rfl)
 clear h;intro hb h;conv=>whnf
 replace h:=Xal.elim h;obtain ⟨b4,hy,h⟩:=h
 refine rdS.intro hy ?_
 conv=>whnf
 refine br.h h ?_ ?_ ?_
 ·rfl
 ·clear h;intro hb h;conv=>whnf
  all_goals (cases h;exact Res.z rfl rfl rfl)
 clear h;intro hb h;conv=>whnf
 replace h:=XaJ.elim h;obtain ⟨hb,h⟩:=h
 first|(refine req.intro hb ?_;conv=>whnf)|skip
 replace h:=Xal.elim h;obtain ⟨xg,hy,h⟩:=h
 refine XaK.q rfl rfl (XkG hy) rfl rfl rfl ?_
 conv=>whnf
 replace h:=XaJ.elim h;obtain ⟨hb,h⟩:=h
 first|(refine req.intro hb ?_;conv=>whnf)|skip
 replace h:=Xal.elim h;obtain ⟨xg1,hy,h⟩:=h
 refine XaK.q rfl rfl (XkG hy) rfl rfl rfl ?_
 conv=>whnf
 replace h:=Xal.elim h;obtain ⟨b5,hy,h⟩:=h
 refine rdS.intro hy ?_
 conv=>whnf
 replace h:=Xal.elim h;obtain ⟨m1,hy,h⟩:=h
 refine XaK.q rfl rfl (XeL hy) rfl rfl rfl ?_
 conv=>whnf
 replace h:=Xal.elim h;obtain ⟨b6,hy,h⟩:=h
 refine rdS.intro hy ?_
 conv=>whnf
 replace h:=Xal.elim h;obtain ⟨b7,hy,h⟩:=h
 refine rdS.intro hy ?_
 conv=>whnf
 replace h:=Xal.elim h;obtain ⟨b8,hy,h⟩:=h
 refine rdS.intro hy ?_
 conv=>whnf
 replace h:=XaJ.elim h;obtain ⟨hb,h⟩:=h
 first|(refine req.intro hb ?_;conv=>whnf)|skip
 replace h:=XaJ.elim h;obtain ⟨hb,h⟩:=h
 first|(refine req.intro hb ?_;conv=>whnf)|skip
 let t1:List UInt8:=(s.drop t.toNat).take (m.toNat - t.toNat)
 all_goals (cases h;exact Res.z rfl rfl rfl)
theorem ok165 (Xam:(List UInt8)→Int→Int→Option Int) (Xba:(List UInt8)→Option Int) (XbN:(List UInt8)→Option (Xaa×Bool)) (hS:Xai Tryz.prog (Xav (Xv2 Xam Xba XbN))):Xar Tryz.prog 165 (s165 (Xja Xam Xba XbN)):=by
 refine Xar.Xay Xao (fun ar os r ha hr=>?_) ⟨Tryz.f165,rfl,by decide,rfl⟩
 replace hr:r165 (Xja Xam Xba XbN) ar (XaD os)=some r:=hr
 unfold r165 at hr
 generalize hc:XaD os=C at hr
 replace hr:=dV.elim hr;obtain ⟨v0,l1,y0,rfl,e0,hr⟩:=hr;obtain rfl:=XbH _ _ e0
 replace hr:=Xc2 hr;obtain ⟨rfl,rfl,x,h,rfl⟩:=hr
 obtain rfl:=Xas hc
 exact ⟨_,rfl,Xz5 Xam Xba XbN hS _ x h⟩
def Xea:(List UInt8)→Option (Xag×(List UInt8)×Int):=Xja Xam Xba XbN
theorem XQO:Xar Tryz.prog 165 (s165 Xea):=ok165 Xam Xba XbN (Xai.XaW ⟨Xmn,XnC,XuD,trivial⟩)
end Go.Vm.Code
namespace Go.Vm.Code
open Go Go.Vm
def Xl0:Xag:=⟨0,0,false,0,0,⟨false,0,0⟩,⟨false,0,0⟩,[]⟩
def Xg9 (s:List UInt8):Xag×List UInt8×Int:=
 if s.length<20 then (Xl0,[],2) else if vK s 0 1/16≠4 then (Xl0,[],3) else if vK s 0 1%16*4<20 then (Xl0,[],3) else if vK s 2 2<vK s 0 1%16*4 then (Xl0,[],3) else if (s.length:Int)<vK s 2 2 then (Xl0,[],2) else
  if norm (Xfk (s.take (vK s 0 1%16*4).toNat))≠65535 then (Xl0,[],4) else if vK s 6 2≠0∧vK s 6 2≠16384 then (Xl0,[],7) else
   (⟨vK s 1 1,vK s 4 2,vK s 6 2 !=0,vK s 8 1,vK s 9 1,adr4 s 12,adr4 s 16,(s.drop 20).take ((vK s 0 1%16*4).toNat - 20)⟩,(s.drop (vK s 0 1%16*4).toNat).take ((vK s 2 2).toNat - (vK s 0 1%16*4).toNat),0)
theorem XtZ (s:List UInt8) (p:Nat):vK ((s.drop p).take 4) 0 4=vK s p 4:=by unfold vK;simp [List.take_take]
theorem XWu {s:List UInt8} {p:Nat} (h:p+4≤s.length):XaM ⟨⟨s.drop p,true,false⟩⟩=some (adr4 s p,⟨s.drop (p+4),true,false⟩):=by
 unfold XaM Xb0
 rw [show (4:Int)=((4:Nat):Int) from rfl,Xn1 h,Option.bind_some,aget4 (by simp;omega),Option.bind_some,XtZ];rfl
theorem g5_eq {s:List UInt8} (hs:s.length<2^38):Xb7 s=some (Xg9 s):=by
 unfold Xb7 XfR Xg9
 by_cases h0:s.length<20
 ·rw [XaS (by omega),if_pos h0];rfl
 rw [XaO (by omega),if_neg h0,Xmv,Option.bind_some]
 have N:∀ (p k:Nat),1≤k→k≤7→p+k≤20→Xad ⟨s.drop p,true,false⟩ (k:Int)=some (vK s p k,⟨s.drop (p+k),true,false⟩):=fun p k a b c=>XC6 a b (by omega) (by omega)
 have N0:Xad ⟨s,true,false⟩ 1=some (vK s 0 1,⟨s.drop 1,true,false⟩):=N 0 1 (by omega) (by omega) (by omega)
 have N1:Xad ⟨s.drop 1,true,false⟩ 1=some (vK s 1 1,⟨s.drop 2,true,false⟩):=N 1 1 (by omega) (by omega) (by omega)
 have N2:Xad ⟨s.drop 2,true,false⟩ 2=some (vK s 2 2,⟨s.drop 4,true,false⟩):=N 2 2 (by omega) (by omega) (by omega)
 have N4:Xad ⟨s.drop 4,true,false⟩ 2=some (vK s 4 2,⟨s.drop 6,true,false⟩):=N 4 2 (by omega) (by omega) (by omega)
 have N6:Xad ⟨s.drop 6,true,false⟩ 2=some (vK s 6 2,⟨s.drop 8,true,false⟩):=N 6 2 (by omega) (by omega) (by omega)
 have N8:Xad ⟨s.drop 8,true,false⟩ 1=some (vK s 8 1,⟨s.drop 9,true,false⟩):=N 8 1 (by omega) (by omega) (by omega)
 have N9:Xad ⟨s.drop 9,true,false⟩ 1=some (vK s 9 1,⟨s.drop 10,true,false⟩):=N 9 1 (by omega) (by omega) (by omega)
 have N10:Xad ⟨s.drop 10,true,false⟩ 2=some (vK s 10 2,⟨s.drop 12,true,false⟩):=N 10 2 (by omega) (by omega) (by omega)
 rw [N0,Option.bind_some,N1,Option.bind_some,N2,Option.bind_some]
 simp only []
 rw [N4]
 simp only [Option.bind_some]
 rw [N6,XoM,show ((2:Int)^4)=16 from rfl]
 have r0:=XdT s 0 1 256 (by decide)
 have r2:=XdT s 2 2 65536 (by decide)
 have ea:Xjr .i64 (vK s 0 1) 15=vK s 0 1%16:=XgS 4 rfl (by omega) (by omega) (by omega)
 rw [ea,Xcg (n:=vK s 0 1%16*4) (by omega) (by omega)]
 have hz:(⟨0,0,false,0,0,⟨false,0,0⟩,⟨false,0,0⟩,[]⟩:Xag)=Xl0:=rfl
 rw [hz]
 by_cases g1:vK s 0 1/16=4
 ·rw [show (vK s 0 1/16 !=4)=false by simpa using g1,cond_false,if_neg (by simpa using g1)]
  obtain ⟨t,ht⟩:=Int.eq_ofNat_of_zero_le (show 0≤vK s 0 1%16*4 by omega)
  rw [ht]
  simp only [Option.bind_some,Int.toNat_natCast]
  by_cases g2:(t:Int)<20
  ·rw [XaS g2,if_pos g2]
  rw [XaO g2,if_neg g2]
  by_cases g3:vK s 2 2<t
  ·rw [XaS g3,if_pos g3]
  rw [XaO g3,if_neg g3]
  by_cases g4:(s.length:Int)<vK s 2 2
  ·rw [XaS (by omega),if_pos g4]
  rw [XaO (by omega),if_neg g4,Xaz (by omega),Xnw (by simp;omega),Option.bind_some]
  by_cases g5:norm (Xfk (s.take t))=65535
  ·rw [if_neg (by simpa using g5),g5]
   simp only [show ((((65535:Nat):Int)==65535))=true from rfl,Bool.not_true,cond_false]
   have e6:=XvD (s:=s) (p:=6) (by omega)
   rw [show (Xza .i64 (vK s 6 2) 16384 !=0)=decide (vK s 6 2≠0∧vK s 6 2≠16384) by rw [e6];exact XvR,XnZ]
   split
   ·rfl
   obtain ⟨m,hm⟩:=Int.eq_ofNat_of_zero_le r2.1
   rw [N8,Option.bind_some,N9,Option.bind_some,N10,Option.bind_some,XWu (by omega),Option.bind_some,XWu (by omega),Option.bind_some,Xcg (n:=(t:Int) - 20) (by omega) (by omega),hm,Xcg (n:=(m:Int) - t) (by omega) (by omega)]
   simp only []
   rw [show (t:Int) - 20=((t - 20:Nat):Int) by omega,show (m:Int) - t=((m - t:Nat):Int) by omega,Xn1 (by omega),Option.bind_some]
   simp only []
   rw [Xn1 (by omega),Option.bind_some,show 12+4+4+(t - 20)=t by omega,Int.toNat_natCast]
  ·rw [if_pos (by simpa using g5),show ((((norm (Xfk (s.take t)):Nat):Int)==65535))=false by simp;omega];rfl
 ·rw [show (vK s 0 1/16 !=4)=true by simpa using g1,cond_true,if_pos (by simpa using g1)]
theorem XUB {s:List UInt8} (hs:s.length<2^38):Xea s=some (Xg9 s):=by
 unfold Xea Xja Xg9
 by_cases h0:s.length<20
 ·rw [XaS (by omega),if_pos h0];rfl
 rw [XaO (by omega),if_neg h0]
 have G:∀ i:Nat,(h:i<20)→s[i]?=some (s[i]'(by omega)):=fun i h=>List.getElem?_eq_getElem (by omega)
 have M:∀ (p k:Nat),1≤k→k≤7→p+k≤20→Xam s (p:Int) (k:Int)=some (vK s p k):=fun p k a b c=>XnM (by omega) a b (by omega)
 have M2:Xam s 2 2=some (vK s 2 2):=M 2 2 (by omega) (by omega) (by omega)
 have M4:Xam s 4 2=some (vK s 4 2):=M 4 2 (by omega) (by omega) (by omega)
 rw [G 0 (by omega),G 1 (by omega),G 6 (by omega),G 7 (by omega),G 8 (by omega),G 9 (by omega),M2,M4]
 have e0:=XjK (s:=s) (p:=0) (by omega)
 have e1:=XjK (s:=s) (p:=1) (by omega)
 have e8:=XjK (s:=s) (p:=8) (by omega)
 have e9:=XjK (s:=s) (p:=9) (by omega)
 have e6:vK s 6 2=(s[6].toNat*256+s[7].toNat:Int):=XvD (s:=s) (p:=6) (by omega)
 have r0:=XdT s 0 1 256 (by decide)
 have r1:=XdT s 1 1 256 (by decide)
 have r8:=XdT s 8 1 256 (by decide)
 have r9:=XdT s 9 1 256 (by decide)
 have r2:=XdT s 2 2 65536 (by decide)
 simp only [Option.bind_some]
 rw [←e0,←e1,←e8,←e9,Int.tmod_eq_emod_of_nonneg r0.1,Int.tdiv_eq_ediv_of_nonneg r0.1,Xcg (n:=vK s 0 1%16) (by omega) (by omega),Xcg (n:=4*(vK s 0 1%16)) (by omega) (by omega),wU8 (n:=vK s 0 1/16) (by omega) (by omega),Xcg (n:=vK s 1 1) (by omega) (by omega),Xcg (n:=vK s 8 1) (by omega) (by omega),Xcg (n:=vK s 9 1) (by omega) (by omega)]
 have hz:(⟨0,0,false,0,0,⟨false,0,0⟩,⟨false,0,0⟩,[]⟩:Xag)=Xl0:=rfl
 rw [hz,Int.mul_comm 4]
 by_cases g1:vK s 0 1/16=4
 ·rw [show (vK s 0 1/16 !=4)=false by simpa using g1,cond_false,if_neg (by simpa using g1)]
  obtain ⟨t,ht⟩:=Int.eq_ofNat_of_zero_le (show 0≤vK s 0 1%16*4 by omega)
  rw [ht]
  simp only [Int.toNat_natCast]
  by_cases g2:(t:Int)<20
  ·rw [XaS g2,if_pos g2]
  rw [XaO g2,if_neg g2]
  by_cases g3:vK s 2 2<t
  ·rw [XaS g3,if_pos g3]
  rw [XaO g3,if_neg g3]
  by_cases g4:(s.length:Int)<vK s 2 2
  ·rw [XaS (by omega),if_pos g4]
  rw [XaO (by omega),if_neg g4,Xaz (by omega),Xi9 (by simp;omega),Option.bind_some]
  by_cases g5:norm (Xfk (s.take t))=65535
  ·rw [if_neg (by simpa using g5),g5]
   simp only [show ((((65535:Nat):Int) !=65535))=false from rfl,cond_false]
   have a1:=XDf (s:=(s.drop 12).take 4) (by simp;omega)
   have a2:=XDf (s:=(s.drop 16).take 4) (by simp;omega)
   rw [a1,a2,XtZ,XtZ]
   obtain ⟨m,hm⟩:=Int.eq_ofNat_of_zero_le r2.1
   rw [hm]
   simp only [Option.bind_some,Int.toNat_natCast]
   rw [Xaz (p:=(0:Int)≤16∧(16:Int)≤(s.length:Int)∧(0:Int)≤12∧(12:Int)≤16) (by omega),Xaz (p:=(0:Int)≤20∧(20:Int)≤(s.length:Int)∧(0:Int)≤16∧(16:Int)≤20) (by omega),Xaz (p:=(0:Int)≤(t:Int)∧(t:Int)≤(s.length:Int)∧(0:Int)≤20∧(20:Int)≤(t:Int)) (by omega),Xaz (p:=(0:Int)≤(m:Int)∧(m:Int)≤(s.length:Int)∧(0:Int)≤(t:Int)∧(t:Int)≤(m:Int)) (by omega)]
   have b6:=s[6].toNat_lt
   have b7:=s[7].toNat_lt
   by_cases k6:(s[6].toNat:Int)=0
   ·rw [show ((s[6].toNat:Int) !=0)=false by simpa using k6,cond_false]
    by_cases k7:(s[7].toNat:Int)=0
    ·rw [show ((s[7].toNat:Int) !=0)=false by simpa using k7,cond_false,if_neg (by rw [e6];omega),show (vK s 6 2 !=0)=false by rw [e6,k6,k7];rfl,k6];rfl
    ·rw [show ((s[7].toNat:Int) !=0)=true by simpa using k7,cond_true,if_pos (by rw [e6];omega)]
   ·rw [show ((s[6].toNat:Int) !=0)=true by simpa using k6,cond_true]
    by_cases k8:(s[6].toNat:Int)=64
    ·rw [show ((s[6].toNat:Int) !=64)=false by rw [k8];rfl,cond_false]
     by_cases k7:(s[7].toNat:Int)=0
     ·rw [show ((s[7].toNat:Int) !=0)=false by simpa using k7,cond_false,if_neg (by rw [e6];omega),show (vK s 6 2 !=0)=true by rw [e6,k8,k7];rfl,k8];rfl
     ·rw [show ((s[7].toNat:Int) !=0)=true by simpa using k7,cond_true,if_pos (by rw [e6];omega)]
    ·rw [show ((s[6].toNat:Int) !=64)=true by simpa using k8,cond_true,if_pos (by rw [e6];omega)]
  ·rw [if_pos (by simpa using g5),show ((((norm (Xfk (s.take t)):Nat):Int) !=65535))=true by simp;omega];rfl
 ·rw [show (vK s 0 1/16 !=4)=true by simpa using g1,cond_true,if_pos (by simpa using g1)]
end Go.Vm.Code
