import Derived.Test.YtddaijhjflfdmaaGreatNClientNamesc
namespace Go.Vm
open Go Go.RowKit
theorem XVF {h h':Hp} {s:Nat→Option Nat} {b n:Nat} {ws:List Wd} {c c' x:List Value} {cs:List (Option (List Value))} {ob ob':XbO} (e1:XaD h b=some ob) (e2:ob.wcs=some x) (e3:Xe0.renL s c=some c') (e4:Nat.beq c'.length n=true) (e5:Nat.beq x.length n=true) (e6:ob.wr c'=some ob') (t:XdF (Xgp h b ob') s ws cs=some h') :
 XdF h s (.win b 0 n true::ws) (some c::cs)=some h':=by
 have h4:=Nat.eq_of_beq_eq_true e4
 have h5:=Nat.eq_of_beq_eq_true e5
 refine XIz e1 e2 e3 ⟨h4,by omega⟩ ?_ e6 t
 apply List.ext_getElem?
 intro k
 rw [Xkl _ _ _ _ (by omega)]
 by_cases hk:k<n
 ·rw [if_pos (by omega)];simp
 ·rw [if_neg (by omega),List.getElem?_eq_none (by omega),List.getElem?_eq_none (by omega)]
theorem XTx {h:Hp} {k b n:Nat} {ob:XbO} {cs:List Value} (ho:XaD h b=some ob) (hc:ob.wcs=some cs) (hn:Nat.beq cs.length n=true) (hf:Xbm.flatL cs=true) :
 XcY h k (.pt n) (.pointer (some ⟨b,0,none⟩))=some (.pointer (some ⟨k,0,none⟩),[some (.cells cs)]):=
 XIu ho hc (by have:=Nat.eq_of_beq_eq_true hn;omega) (by have:=Nat.eq_of_beq_eq_true hn;rw [List.drop_zero];exact List.take_of_length_le (by omega)) hf
end Go.Vm
namespace Go.Vm.Code
open Go Go.Vm Go.Proofs
set_option maxRecDepth 100000
set_option maxHeartbeats 4000000
set_option linter.unusedVariables false
@[ext] structure Xaa where
 V6:Bool
 Hi:Int
 Lo:Int
 deriving DecidableEq
@[ext] structure Xag where
 Proto:Int
 Src:Xaa
 Dst:Xaa
 SPort:Int
 DPort:Int
 deriving DecidableEq
@[ext] structure Xhk where
 Kind:Int
 Flags:Int
 S:List UInt8
 N:Int
 deriving DecidableEq
@[ext] structure Xbj where
 hello:Option Nat
 say:Option Nat
 hear:Option Nat
 deriving DecidableEq
@[ext] structure Xab where
 t:Xag
 v_:Xbj
 clock:Int
 echo:Int
 id_:List UInt8
 deriving DecidableEq
@[ext] structure Xaz where
 SPort:Int
 DPort:Int
 Seq:Int
 Ack:Int
 Flags:Int
 Window:Int
 Urgent:Int
 Options:List UInt8
 deriving DecidableEq
@[ext] structure Xaq where
 Class:Int
 Label:Int
 Next:Int
 Hop:Int
 Src:Xaa
 Dst:Xaa
 deriving DecidableEq
@[ext] structure Xal where
 Class:Int
 Mark:Int
 Whole:Bool
 TTL:Int
 Proto:Int
 Src:Xaa
 Dst:Xaa
 Options:List UInt8
 deriving DecidableEq
@[ext] structure Xat where
 Long:Bool
 Bits:Int
 Version:Int
 DCID:List UInt8
 SCID:List UInt8
 Rest:List UInt8
 deriving DecidableEq
@[ext] structure XaH where
 SPort:Int
 DPort:Int
 deriving DecidableEq
@[ext] structure Xam where
 Tuple:Xag
 Flags:Int
 Stamped:Bool
 Val:Int
 Echo:Int
 Long:Bool
 CID:List UInt8
 Size:Int
 deriving DecidableEq
@[ext] structure Xek where
 src:Xaa
 dst:Xaa
 proto:Int
 size:Int
 body:List UInt8
 deriving DecidableEq
@[ext] structure XcQ where
 Kind:Int
 Data:List UInt8
 At:Int
 deriving DecidableEq
@[ext] structure XaL where
 src:Xaa
 dst:Xaa
 proto:Int
 body:List UInt8
 deriving DecidableEq
@[ext] structure Xah where
 s:List UInt8
 made:Bool
 bad:Bool
 deriving DecidableEq
@[ext] structure Xdv where
 Reader:Xah
 deriving DecidableEq
@[ext] structure Xdc where
 Kind:Int
 Data:List UInt8
 deriving DecidableEq
@[ext] structure XaY where
 T:Xag
 Clock:Int
 Echo:Int
 ID:List UInt8
 deriving DecidableEq
def XgN (x:Xaa):List Value:=[.bool x.V6,.int .u64 x.Hi,.int .u64 x.Lo]
theorem Xe9 (x:Xaa):(XgN x).length=3:=rfl
theorem XbL (x:Xaa):Xbm.flatL (XgN x)=true:=rfl
theorem Xdw (x:Xaa):(XgN x).all Xij=true:=rfl
@[simp] theorem XBI (xs:List Xaa):(vT XgN xs).length=xs.length*3:=Xia Xe9 xs
@[simp] theorem XBZ (xs:List Xaa) (n:Nat):(vT XgN xs).take (n*3)=vT XgN (xs.take n):=Xgl Xe9 xs n
@[simp] theorem XBU (xs:List Xaa) (n:Nat):(vT XgN xs).drop (n*3)=vT XgN (xs.drop n):=Xgm Xe9 xs n
def XnY:List Value→Option Xaa
 | [.bool a1,.int .u64 a2,.int .u64 a3]=>some (Xaa.mk a1 a2 a3)
 | _=>none
theorem XkW (cs:List Value) (x:Xaa) (h:XnY cs=some x):cs=XgN x:=by
 unfold XnY at h;split at h
 ·cases h;rfl
 ·cases h
def Xb6:Value→Option Xaa
 | .agg ⟨cs⟩=>XnY cs
 | _=>none
theorem Xr2 (v:Value) (x:Xaa) (h:Xb6 v=some x):v=.agg ⟨XgN x⟩:=by
 unfold Xb6 at h;split at h
 ·rw [XkW _ _ h]
 ·cases h
theorem XbP (x:Xaa):Xb6 (.agg ⟨XgN x⟩)=some x:=rfl
def XfL (x:Xag):List Value:=[.int .i64 x.Proto,.bool x.Src.V6,.int .u64 x.Src.Hi,.int .u64 x.Src.Lo,.bool x.Dst.V6,.int .u64 x.Dst.Hi,.int .u64 x.Dst.Lo,.int .i64 x.SPort,.int .i64 x.DPort]
theorem XcC (x:Xag):(XfL x).length=9:=rfl
theorem Xbp (x:Xag):Xbm.flatL (XfL x)=true:=rfl
theorem Xc4 (x:Xag):(XfL x).all Xij=true:=rfl
@[simp] theorem XAS (xs:List Xag):(vT XfL xs).length=xs.length*9:=Xia XcC xs
@[simp] theorem XBA (xs:List Xag) (n:Nat):(vT XfL xs).take (n*9)=vT XfL (xs.take n):=Xgl XcC xs n
@[simp] theorem XBE (xs:List Xag) (n:Nat):(vT XfL xs).drop (n*9)=vT XfL (xs.drop n):=Xgm XcC xs n
def XmV:List Value→Option Xag
 | [.int .i64 a1,.bool a2,.int .u64 a3,.int .u64 a4,.bool a5,.int .u64 a6,.int .u64 a7,.int .i64 a8,.int .i64 a9]=>some (Xag.mk a1 (Xaa.mk a2 a3 a4) (Xaa.mk a5 a6 a7) a8 a9)
 | _=>none
theorem Xj2 (cs:List Value) (x:Xag) (h:XmV cs=some x):cs=XfL x:=by
 unfold XmV at h;split at h
 ·cases h;rfl
 ·cases h
def Xd6:Value→Option Xag
 | .agg ⟨cs⟩=>XmV cs
 | _=>none
theorem Xqt (v:Value) (x:Xag) (h:Xd6 v=some x):v=.agg ⟨XfL x⟩:=by
 unfold Xd6 at h;split at h
 ·rw [Xj2 _ _ h]
 ·cases h
theorem Xer (x:Xag):Xd6 (.agg ⟨XfL x⟩)=some x:=rfl
def Xhi (x:Xhk):List Value:=[.int .i64 x.Kind,.int .i64 x.Flags,.string ⟨⟨x.S⟩⟩,.int .u32 x.N]
theorem XeN (x:Xhk):(Xhi x).length=4:=rfl
theorem XbH (x:Xhk):Xbm.flatL (Xhi x)=true:=rfl
theorem XdD (x:Xhk):(Xhi x).all Xij=true:=rfl
@[simp] theorem XBX (xs:List Xhk):(vT Xhi xs).length=xs.length*4:=Xia XeN xs
@[simp] theorem XBP (xs:List Xhk) (n:Nat):(vT Xhi xs).take (n*4)=vT Xhi (xs.take n):=Xgl XeN xs n
@[simp] theorem XBQ (xs:List Xhk) (n:Nat):(vT Xhi xs).drop (n*4)=vT Xhi (xs.drop n):=Xgm XeN xs n
def XnZ:List Value→Option Xhk
 | [.int .i64 a1,.int .i64 a2,.string ⟨⟨a3⟩⟩,.int .u32 a4]=>some (Xhk.mk a1 a2 a3 a4)
 | _=>none
theorem XkP (cs:List Value) (x:Xhk) (h:XnZ cs=some x):cs=Xhi x:=by
 unfold XnZ at h;split at h
 ·cases h;rfl
 ·cases h
def XqZ:Value→Option Xhk
 | .agg ⟨cs⟩=>XnZ cs
 | _=>none
theorem XrF (v:Value) (x:Xhk) (h:XqZ v=some x):v=.agg ⟨Xhi x⟩:=by
 unfold XqZ at h;split at h
 ·rw [XkP _ _ h]
 ·cases h
def XdA (x:Xbj):List Value:=[fvV x.hello,fvV x.say,fvV x.hear]
theorem XdM (x:Xbj):(XdA x).length=3:=rfl
theorem XaV (x:Xbj):Xbm.flatL (XdA x)=true:=by simp only [XdA,Xbm.flatL,XdS];rfl
theorem Xcj (x:Xbj):(XdA x).all Xij=true:=by simp only [XdA,List.all_cons,List.all_nil,XAV];rfl
@[simp] theorem Xwg (xs:List Xbj):(vT XdA xs).length=xs.length*3:=Xia XdM xs
@[simp] theorem Xvf (xs:List Xbj) (n:Nat):(vT XdA xs).take (n*3)=vT XdA (xs.take n):=Xgl XdM xs n
@[simp] theorem Xwe (xs:List Xbj) (n:Nat):(vT XdA xs).drop (n*3)=vT XdA (xs.drop n):=Xgm XdM xs n
def XjZ:List Value→Option Xbj
 | [va1,va2,va3]=>(asF va1).bind fun a1=>(asF va2).bind fun a2=>(asF va3).bind fun a3=>some (Xbj.mk a1 a2 a3)
 | _=>none
theorem XiF (cs:List Value) (x:Xbj) (h:XjZ cs=some x):cs=XdA x:=by
 unfold XjZ at h;split at h
 ·simp only [Option.bind_eq_some_iff] at h
  obtain ⟨a1,ha1,a2,ha2,a3,ha3,h⟩:=h
  cases h;rw [Xpy _ _ ha1,Xpy _ _ ha2,Xpy _ _ ha3];rfl
 ·cases h
def Xmr:Value→Option Xbj
 | .agg ⟨cs⟩=>XjZ cs
 | _=>none
theorem Xoj (v:Value) (x:Xbj) (h:Xmr v=some x):v=.agg ⟨XdA x⟩:=by
 unfold Xmr at h;split at h
 ·rw [XiF _ _ h]
 ·cases h
def XcA (x:Xab):List Value:=[.int .i64 x.t.Proto,.bool x.t.Src.V6,.int .u64 x.t.Src.Hi,.int .u64 x.t.Src.Lo,.bool x.t.Dst.V6,.int .u64 x.t.Dst.Hi,.int .u64 x.t.Dst.Lo,.int .i64 x.t.SPort,.int .i64 x.t.DPort,fvV x.v_.hello,fvV x.v_.say,fvV x.v_.hear,.int .u32 x.clock,.int .u32 x.echo,.string ⟨⟨x.id_⟩⟩]
theorem Xa0 (x:Xab):(XcA x).length=15:=rfl
theorem XaO (x:Xab):Xbm.flatL (XcA x)=true:=by simp only [XcA,Xbm.flatL,XdS];rfl
theorem Xb7 (x:Xab):(XcA x).all Xij=true:=by simp only [XcA,List.all_cons,List.all_nil,XAV];rfl
@[simp] theorem XuU (xs:List Xab):(vT XcA xs).length=xs.length*15:=Xia Xa0 xs
@[simp] theorem Xuf (xs:List Xab) (n:Nat):(vT XcA xs).take (n*15)=vT XcA (xs.take n):=Xgl Xa0 xs n
@[simp] theorem XuF (xs:List Xab) (n:Nat):(vT XcA xs).drop (n*15)=vT XcA (xs.drop n):=Xgm Xa0 xs n
def XbU:List Value→Option Xab
 | [.int .i64 a1,.bool a2,.int .u64 a3,.int .u64 a4,.bool a5,.int .u64 a6,.int .u64 a7,.int .i64 a8,.int .i64 a9,va10,va11,va12,.int .u32 a13,.int .u32 a14,.string ⟨⟨a15⟩⟩]=>(asF va10).bind fun a10=>(asF va11).bind fun a11=>(asF va12).bind fun a12=>some (Xab.mk (Xag.mk a1 (Xaa.mk a2 a3 a4) (Xaa.mk a5 a6 a7) a8 a9) (Xbj.mk a10 a11 a12) a13 a14 a15)
 | _=>none
theorem Xid (cs:List Value) (x:Xab) (h:XbU cs=some x):cs=XcA x:=by
 unfold XbU at h;split at h
 ·simp only [Option.bind_eq_some_iff] at h
  obtain ⟨a10,ha10,a11,ha11,a12,ha12,h⟩:=h
  cases h;rw [Xpy _ _ ha10,Xpy _ _ ha11,Xpy _ _ ha12];rfl
 ·cases h
theorem Xch (x:Xab):XbU (XcA x)=some x:=by simp [XbU,XcA,asF_c]
def XlT:Value→Option Xab
 | .agg ⟨cs⟩=>XbU cs
 | _=>none
theorem Xne (v:Value) (x:Xab) (h:XlT v=some x):v=.agg ⟨XcA x⟩:=by
 unfold XlT at h;split at h
 ·rw [Xid _ _ h]
 ·cases h
def Xgx (x:Xaz):List Value:=[.int .i64 x.SPort,.int .i64 x.DPort,.int .u32 x.Seq,.int .u32 x.Ack,.int .i64 x.Flags,.int .i64 x.Window,.int .i64 x.Urgent,.string ⟨⟨x.Options⟩⟩]
theorem Xc9 (x:Xaz):(Xgx x).length=8:=rfl
theorem XbK (x:Xaz):Xbm.flatL (Xgx x)=true:=rfl
theorem XdB (x:Xaz):(Xgx x).all Xij=true:=rfl
@[simp] theorem XBR (xs:List Xaz):(vT Xgx xs).length=xs.length*8:=Xia Xc9 xs
@[simp] theorem XBM (xs:List Xaz) (n:Nat):(vT Xgx xs).take (n*8)=vT Xgx (xs.take n):=Xgl Xc9 xs n
@[simp] theorem XB1 (xs:List Xaz) (n:Nat):(vT Xgx xs).drop (n*8)=vT Xgx (xs.drop n):=Xgm Xc9 xs n
def Xob:List Value→Option Xaz
 | [.int .i64 a1,.int .i64 a2,.int .u32 a3,.int .u32 a4,.int .i64 a5,.int .i64 a6,.int .i64 a7,.string ⟨⟨a8⟩⟩]=>some (Xaz.mk a1 a2 a3 a4 a5 a6 a7 a8)
 | _=>none
theorem XkV (cs:List Value) (x:Xaz) (h:Xob cs=some x):cs=Xgx x:=by
 unfold Xob at h;split at h
 ·cases h;rfl
 ·cases h
def Xjt:Value→Option Xaz
 | .agg ⟨cs⟩=>Xob cs
 | _=>none
theorem Xsq (v:Value) (x:Xaz) (h:Xjt v=some x):v=.agg ⟨Xgx x⟩:=by
 unfold Xjt at h;split at h
 ·rw [XkV _ _ h]
 ·cases h
theorem Xlv (x:Xaz):Xjt (.agg ⟨Xgx x⟩)=some x:=rfl
def XeV (x:Xaq):List Value:=[.int .i64 x.Class,.int .i64 x.Label,.int .i64 x.Next,.int .i64 x.Hop,.bool x.Src.V6,.int .u64 x.Src.Hi,.int .u64 x.Src.Lo,.bool x.Dst.V6,.int .u64 x.Dst.Hi,.int .u64 x.Dst.Lo]
theorem Xca (x:Xaq):(XeV x).length=10:=rfl
theorem Xa9 (x:Xaq):Xbm.flatL (XeV x)=true:=rfl
theorem XcI (x:Xaq):(XeV x).all Xij=true:=rfl
@[simp] theorem Xxw (xs:List Xaq):(vT XeV xs).length=xs.length*10:=Xia Xca xs
@[simp] theorem Xxs (xs:List Xaq) (n:Nat):(vT XeV xs).take (n*10)=vT XeV (xs.take n):=Xgl Xca xs n
@[simp] theorem Xxl (xs:List Xaq) (n:Nat):(vT XeV xs).drop (n*10)=vT XeV (xs.drop n):=Xgm Xca xs n
def Xlh:List Value→Option Xaq
 | [.int .i64 a1,.int .i64 a2,.int .i64 a3,.int .i64 a4,.bool a5,.int .u64 a6,.int .u64 a7,.bool a8,.int .u64 a9,.int .u64 a10]=>some (Xaq.mk a1 a2 a3 a4 (Xaa.mk a5 a6 a7) (Xaa.mk a8 a9 a10))
 | _=>none
theorem XjC (cs:List Value) (x:Xaq) (h:Xlh cs=some x):cs=XeV x:=by
 unfold Xlh at h;split at h
 ·cases h;rfl
 ·cases h
def XgE:Value→Option Xaq
 | .agg ⟨cs⟩=>Xlh cs
 | _=>none
theorem Xqm (v:Value) (x:Xaq) (h:XgE v=some x):v=.agg ⟨XeV x⟩:=by
 unfold XgE at h;split at h
 ·rw [XjC _ _ h]
 ·cases h
theorem XiR (x:Xaq):XgE (.agg ⟨XeV x⟩)=some x:=rfl
def Xez (x:Xal):List Value:=[.int .i64 x.Class,.int .i64 x.Mark,.bool x.Whole,.int .i64 x.TTL,.int .i64 x.Proto,.bool x.Src.V6,.int .u64 x.Src.Hi,.int .u64 x.Src.Lo,.bool x.Dst.V6,.int .u64 x.Dst.Hi,.int .u64 x.Dst.Lo,.string ⟨⟨x.Options⟩⟩]
theorem XbN (x:Xal):(Xez x).length=12:=rfl
theorem Xa2 (x:Xal):Xbm.flatL (Xez x)=true:=rfl
theorem Xcr (x:Xal):(Xez x).all Xij=true:=rfl
@[simp] theorem XwH (xs:List Xal):(vT Xez xs).length=xs.length*12:=Xia XbN xs
@[simp] theorem XwZ (xs:List Xal) (n:Nat):(vT Xez xs).take (n*12)=vT Xez (xs.take n):=Xgl XbN xs n
@[simp] theorem Xw7 (xs:List Xal) (n:Nat):(vT Xez xs).drop (n*12)=vT Xez (xs.drop n):=Xgm XbN xs n
def XkQ:List Value→Option Xal
 | [.int .i64 a1,.int .i64 a2,.bool a3,.int .i64 a4,.int .i64 a5,.bool a6,.int .u64 a7,.int .u64 a8,.bool a9,.int .u64 a10,.int .u64 a11,.string ⟨⟨a12⟩⟩]=>some (Xal.mk a1 a2 a3 a4 a5 (Xaa.mk a6 a7 a8) (Xaa.mk a9 a10 a11) a12)
 | _=>none
theorem Xi6 (cs:List Value) (x:Xal) (h:XkQ cs=some x):cs=Xez x:=by
 unfold XkQ at h;split at h
 ·cases h;rfl
 ·cases h
def Xf4:Value→Option Xal
 | .agg ⟨cs⟩=>XkQ cs
 | _=>none
theorem XoS (v:Value) (x:Xal) (h:Xf4 v=some x):v=.agg ⟨Xez x⟩:=by
 unfold Xf4 at h;split at h
 ·rw [Xi6 _ _ h]
 ·cases h
theorem Xif (x:Xal):Xf4 (.agg ⟨Xez x⟩)=some x:=rfl
def Xfy (x:Xat):List Value:=[.bool x.Long,.int .i64 x.Bits,.int .u32 x.Version,.string ⟨⟨x.DCID⟩⟩,.string ⟨⟨x.SCID⟩⟩,.string ⟨⟨x.Rest⟩⟩]
theorem Xds (x:Xat):(Xfy x).length=6:=rfl
theorem Xbq (x:Xat):Xbm.flatL (Xfy x)=true:=rfl
theorem Xc6 (x:Xat):(Xfy x).all Xij=true:=rfl
@[simp] theorem XA0 (xs:List Xat):(vT Xfy xs).length=xs.length*6:=Xia Xds xs
@[simp] theorem XA9 (xs:List Xat) (n:Nat):(vT Xfy xs).take (n*6)=vT Xfy (xs.take n):=Xgl Xds xs n
@[simp] theorem XxO (xs:List Xat) (n:Nat):(vT Xfy xs).drop (n*6)=vT Xfy (xs.drop n):=Xgm Xds xs n
def Xm3:List Value→Option Xat
 | [.bool a1,.int .i64 a2,.int .u32 a3,.string ⟨⟨a4⟩⟩,.string ⟨⟨a5⟩⟩,.string ⟨⟨a6⟩⟩]=>some (Xat.mk a1 a2 a3 a4 a5 a6)
 | _=>none
theorem Xj5 (cs:List Value) (x:Xat) (h:Xm3 cs=some x):cs=Xfy x:=by
 unfold Xm3 at h;split at h
 ·cases h;rfl
 ·cases h
def Xht:Value→Option Xat
 | .agg ⟨cs⟩=>Xm3 cs
 | _=>none
theorem Xqv (v:Value) (x:Xat) (h:Xht v=some x):v=.agg ⟨Xfy x⟩:=by
 unfold Xht at h;split at h
 ·rw [Xj5 _ _ h]
 ·cases h
theorem Xjl (x:Xat):Xht (.agg ⟨Xfy x⟩)=some x:=rfl
def XgI (x:XaH):List Value:=[.int .i64 x.SPort,.int .i64 x.DPort]
theorem Xf8 (x:XaH):(XgI x).length=2:=rfl
theorem XbJ (x:XaH):Xbm.flatL (XgI x)=true:=rfl
theorem XdC (x:XaH):(XgI x).all Xij=true:=rfl
@[simp] theorem XBV (xs:List XaH):(vT XgI xs).length=xs.length*2:=Xia Xf8 xs
@[simp] theorem XBH (xs:List XaH) (n:Nat):(vT XgI xs).take (n*2)=vT XgI (xs.take n):=Xgl Xf8 xs n
@[simp] theorem XBF (xs:List XaH) (n:Nat):(vT XgI xs).drop (n*2)=vT XgI (xs.drop n):=Xgm Xf8 xs n
def Xoa:List Value→Option XaH
 | [.int .i64 a1,.int .i64 a2]=>some (XaH.mk a1 a2)
 | _=>none
theorem XkX (cs:List Value) (x:XaH) (h:Xoa cs=some x):cs=XgI x:=by
 unfold Xoa at h;split at h
 ·cases h;rfl
 ·cases h
def Xkv:Value→Option XaH
 | .agg ⟨cs⟩=>Xoa cs
 | _=>none
theorem XrC (v:Value) (x:XaH) (h:Xkv v=some x):v=.agg ⟨XgI x⟩:=by
 unfold Xkv at h;split at h
 ·rw [XkX _ _ h]
 ·cases h
theorem XoJ (x:XaH):Xkv (.agg ⟨XgI x⟩)=some x:=rfl
def XeJ (x:Xam):List Value:=[.int .i64 x.Tuple.Proto,.bool x.Tuple.Src.V6,.int .u64 x.Tuple.Src.Hi,.int .u64 x.Tuple.Src.Lo,.bool x.Tuple.Dst.V6,.int .u64 x.Tuple.Dst.Hi,.int .u64 x.Tuple.Dst.Lo,.int .i64 x.Tuple.SPort,.int .i64 x.Tuple.DPort,.int .i64 x.Flags,.bool x.Stamped,.int .u32 x.Val,.int .u32 x.Echo,.bool x.Long,.string ⟨⟨x.CID⟩⟩,.int .i64 x.Size]
theorem Xbr (x:Xam):(XeJ x).length=16:=rfl
theorem Xbb (x:Xam):Xbm.flatL (XeJ x)=true:=rfl
theorem XcH (x:Xam):(XeJ x).all Xij=true:=rfl
@[simp] theorem Xxr (xs:List Xam):(vT XeJ xs).length=xs.length*16:=Xia Xbr xs
@[simp] theorem Xxj (xs:List Xam) (n:Nat):(vT XeJ xs).take (n*16)=vT XeJ (xs.take n):=Xgl Xbr xs n
@[simp] theorem Xxo (xs:List Xam) (n:Nat):(vT XeJ xs).drop (n*16)=vT XeJ (xs.drop n):=Xgm Xbr xs n
def XhR:List Value→Option Xam
 | [.int .i64 a1,.bool a2,.int .u64 a3,.int .u64 a4,.bool a5,.int .u64 a6,.int .u64 a7,.int .i64 a8,.int .i64 a9,.int .i64 a10,.bool a11,.int .u32 a12,.int .u32 a13,.bool a14,.string ⟨⟨a15⟩⟩,.int .i64 a16]=>some (Xam.mk (Xag.mk a1 (Xaa.mk a2 a3 a4) (Xaa.mk a5 a6 a7) a8 a9) a10 a11 a12 a13 a14 a15 a16)
 | _=>none
theorem Xjz (cs:List Value) (x:Xam) (h:XhR cs=some x):cs=XeJ x:=by
 unfold XhR at h;split at h
 ·cases h;rfl
 ·cases h
theorem Xmw (x:Xam):XhR (XeJ x)=some x:=rfl
def XiY:Value→Option Xam
 | .agg ⟨cs⟩=>XhR cs
 | _=>none
theorem Xqh (v:Value) (x:Xam) (h:XiY v=some x):v=.agg ⟨XeJ x⟩:=by
 unfold XiY at h;split at h
 ·rw [Xjz _ _ h]
 ·cases h
theorem Xms (x:Xam):XiY (.agg ⟨XeJ x⟩)=some x:=rfl
def Xhe (x:Xek):List Value:=[.bool x.src.V6,.int .u64 x.src.Hi,.int .u64 x.src.Lo,.bool x.dst.V6,.int .u64 x.dst.Hi,.int .u64 x.dst.Lo,.int .i64 x.proto,.int .i64 x.size,.string ⟨⟨x.body⟩⟩]
theorem XcR (x:Xek):(Xhe x).length=9:=rfl
theorem XbG (x:Xek):Xbm.flatL (Xhe x)=true:=rfl
theorem Xdz (x:Xek):(Xhe x).all Xij=true:=rfl
@[simp] theorem XB0 (xs:List Xek):(vT Xhe xs).length=xs.length*9:=Xia XcR xs
@[simp] theorem XBL (xs:List Xek) (n:Nat):(vT Xhe xs).take (n*9)=vT Xhe (xs.take n):=Xgl XcR xs n
@[simp] theorem XBN (xs:List Xek) (n:Nat):(vT Xhe xs).drop (n*9)=vT Xhe (xs.drop n):=Xgm XcR xs n
def Xoe:List Value→Option Xek
 | [.bool a1,.int .u64 a2,.int .u64 a3,.bool a4,.int .u64 a5,.int .u64 a6,.int .i64 a7,.int .i64 a8,.string ⟨⟨a9⟩⟩]=>some (Xek.mk (Xaa.mk a1 a2 a3) (Xaa.mk a4 a5 a6) a7 a8 a9)
 | _=>none
theorem XkU (cs:List Value) (x:Xek) (h:Xoe cs=some x):cs=Xhe x:=by
 unfold Xoe at h;split at h
 ·cases h;rfl
 ·cases h
def XqF:Value→Option Xek
 | .agg ⟨cs⟩=>Xoe cs
 | _=>none
theorem Xsg (v:Value) (x:Xek) (h:XqF v=some x):v=.agg ⟨Xhe x⟩:=by
 unfold XqF at h;split at h
 ·rw [XkU _ _ h]
 ·cases h
def XgU (x:XcQ):List Value:=[.int .i64 x.Kind,.string ⟨⟨x.Data⟩⟩,.int .i64 x.At]
theorem Xdq (x:XcQ):(XgU x).length=3:=rfl
theorem Xbi (x:XcQ):Xbm.flatL (XgU x)=true:=rfl
theorem Xeg (x:XcQ):(XgU x).all Xij=true:=rfl
@[simp] theorem XGn (xs:List XcQ):(vT XgU xs).length=xs.length*3:=Xia Xdq xs
@[simp] theorem XE5 (xs:List XcQ) (n:Nat):(vT XgU xs).take (n*3)=vT XgU (xs.take n):=Xgl Xdq xs n
@[simp] theorem XHs (xs:List XcQ) (n:Nat):(vT XgU xs).drop (n*3)=vT XgU (xs.drop n):=Xgm Xdq xs n
def Xqp:List Value→Option XcQ
 | [.int .i64 a1,.string ⟨⟨a2⟩⟩,.int .i64 a3]=>some (XcQ.mk a1 a2 a3)
 | _=>none
theorem XlD (cs:List Value) (x:XcQ) (h:Xqp cs=some x):cs=XgU x:=by
 unfold Xqp at h;split at h
 ·cases h;rfl
 ·cases h
def XsJ:Value→Option XcQ
 | .agg ⟨cs⟩=>Xqp cs
 | _=>none
theorem XtA (v:Value) (x:XcQ) (h:XsJ v=some x):v=.agg ⟨XgU x⟩:=by
 unfold XsJ at h;split at h
 ·rw [XlD _ _ h]
 ·cases h
def Xd7 (x:XaL):List Value:=[.bool x.src.V6,.int .u64 x.src.Hi,.int .u64 x.src.Lo,.bool x.dst.V6,.int .u64 x.dst.Hi,.int .u64 x.dst.Lo,.int .i64 x.proto,.string ⟨⟨x.body⟩⟩]
theorem Xb5 (x:XaL):(Xd7 x).length=8:=rfl
theorem XaU (x:XaL):Xbm.flatL (Xd7 x)=true:=rfl
theorem Xcg (x:XaL):(Xd7 x).all Xij=true:=rfl
@[simp] theorem Xu9 (xs:List XaL):(vT Xd7 xs).length=xs.length*8:=Xia Xb5 xs
@[simp] theorem Xvm (xs:List XaL) (n:Nat):(vT Xd7 xs).take (n*8)=vT Xd7 (xs.take n):=Xgl Xb5 xs n
@[simp] theorem XvX (xs:List XaL) (n:Nat):(vT Xd7 xs).drop (n*8)=vT Xd7 (xs.drop n):=Xgm Xb5 xs n
def Xj6:List Value→Option XaL
 | [.bool a1,.int .u64 a2,.int .u64 a3,.bool a4,.int .u64 a5,.int .u64 a6,.int .i64 a7,.string ⟨⟨a8⟩⟩]=>some (XaL.mk (Xaa.mk a1 a2 a3) (Xaa.mk a4 a5 a6) a7 a8)
 | _=>none
theorem Xiv (cs:List Value) (x:XaL) (h:Xj6 cs=some x):cs=Xd7 x:=by
 unfold Xj6 at h;split at h
 ·cases h;rfl
 ·cases h
def Xhc:Value→Option XaL
 | .agg ⟨cs⟩=>Xj6 cs
 | _=>none
theorem Xoc (v:Value) (x:XaL) (h:Xhc v=some x):v=.agg ⟨Xd7 x⟩:=by
 unfold Xhc at h;split at h
 ·rw [Xiv _ _ h]
 ·cases h
theorem Xk3 (x:XaL):Xhc (.agg ⟨Xd7 x⟩)=some x:=rfl
def Xd9 (x:Xah):List Value:=[.string ⟨⟨x.s⟩⟩,.bool x.made,.bool x.bad]
theorem XdN (x:Xah):(Xd9 x).length=3:=rfl
theorem XaT (x:Xah):Xbm.flatL (Xd9 x)=true:=rfl
theorem Xci (x:Xah):(Xd9 x).all Xij=true:=rfl
@[simp] theorem Xvs (xs:List Xah):(vT Xd9 xs).length=xs.length*3:=Xia XdN xs
@[simp] theorem Xvx (xs:List Xah) (n:Nat):(vT Xd9 xs).take (n*3)=vT Xd9 (xs.take n):=Xgl XdN xs n
@[simp] theorem Xv8 (xs:List Xah) (n:Nat):(vT Xd9 xs).drop (n*3)=vT Xd9 (xs.drop n):=Xgm XdN xs n
def XdZ:List Value→Option Xah
 | [.string ⟨⟨a1⟩⟩,.bool a2,.bool a3]=>some (Xah.mk a1 a2 a3)
 | _=>none
theorem Xg2 (cs:List Value) (x:Xah) (h:XdZ cs=some x):cs=Xd9 x:=by
 unfold XdZ at h;split at h
 ·cases h;rfl
 ·cases h
theorem Xga (x:Xah):XdZ (Xd9 x)=some x:=rfl
def Xmy:Value→Option Xah
 | .agg ⟨cs⟩=>XdZ cs
 | _=>none
theorem Xod (v:Value) (x:Xah) (h:Xmy v=some x):v=.agg ⟨Xd9 x⟩:=by
 unfold Xmy at h;split at h
 ·rw [Xg2 _ _ h]
 ·cases h
def Xhn (x:Xdc):List Value:=[.int .i64 x.Kind,.string ⟨⟨x.Data⟩⟩]
theorem XfT (x:Xdc):(Xhn x).length=2:=rfl
theorem Xbe (x:Xdc):Xbm.flatL (Xhn x)=true:=rfl
theorem Xee (x:Xdc):(Xhn x).all Xij=true:=rfl
@[simp] theorem XEy (xs:List Xdc):(vT Xhn xs).length=xs.length*2:=Xia XfT xs
@[simp] theorem XG8 (xs:List Xdc) (n:Nat):(vT Xhn xs).take (n*2)=vT Xhn (xs.take n):=Xgl XfT xs n
@[simp] theorem XDL (xs:List Xdc) (n:Nat):(vT Xhn xs).drop (n*2)=vT Xhn (xs.drop n):=Xgm XfT xs n
def Xpx:List Value→Option Xdc
 | [.int .i64 a1,.string ⟨⟨a2⟩⟩]=>some (Xdc.mk a1 a2)
 | _=>none
theorem Xlf (cs:List Value) (x:Xdc) (h:Xpx cs=some x):cs=Xhn x:=by
 unfold Xpx at h;split at h
 ·cases h;rfl
 ·cases h
def Xtw:Value→Option Xdc
 | .agg ⟨cs⟩=>Xpx cs
 | _=>none
theorem Xs4 (v:Value) (x:Xdc) (h:Xtw v=some x):v=.agg ⟨Xhn x⟩:=by
 unfold Xtw at h;split at h
 ·rw [Xlf _ _ h]
 ·cases h
def Xfm (x:XaY):List Value:=[.int .i64 x.T.Proto,.bool x.T.Src.V6,.int .u64 x.T.Src.Hi,.int .u64 x.T.Src.Lo,.bool x.T.Dst.V6,.int .u64 x.T.Dst.Hi,.int .u64 x.T.Dst.Lo,.int .i64 x.T.SPort,.int .i64 x.T.DPort,.int .u32 x.Clock,.int .u32 x.Echo,.string ⟨⟨x.ID⟩⟩]
theorem XbV (x:XaY):(Xfm x).length=12:=rfl
theorem Xba (x:XaY):Xbm.flatL (Xfm x)=true:=rfl
theorem XcG (x:XaY):(Xfm x).all Xij=true:=rfl
@[simp] theorem Xxm (xs:List XaY):(vT Xfm xs).length=xs.length*12:=Xia XbV xs
@[simp] theorem Xxq (xs:List XaY) (n:Nat):(vT Xfm xs).take (n*12)=vT Xfm (xs.take n):=Xgl XbV xs n
@[simp] theorem Xxt (xs:List XaY) (n:Nat):(vT Xfm xs).drop (n*12)=vT Xfm (xs.drop n):=Xgm XbV xs n
def Xlw:List Value→Option XaY
 | [.int .i64 a1,.bool a2,.int .u64 a3,.int .u64 a4,.bool a5,.int .u64 a6,.int .u64 a7,.int .i64 a8,.int .i64 a9,.int .u32 a10,.int .u32 a11,.string ⟨⟨a12⟩⟩]=>some (XaY.mk (Xag.mk a1 (Xaa.mk a2 a3 a4) (Xaa.mk a5 a6 a7) a8 a9) a10 a11 a12)
 | _=>none
theorem XjB (cs:List Value) (x:XaY) (h:Xlw cs=some x):cs=Xfm x:=by
 unfold Xlw at h;split at h
 ·cases h;rfl
 ·cases h
def XoL:Value→Option XaY
 | .agg ⟨cs⟩=>Xlw cs
 | _=>none
theorem Xqa (v:Value) (x:XaY) (h:XoL v=some x):v=.agg ⟨Xfm x⟩:=by
 unfold XoL at h;split at h
 ·rw [XjB _ _ h]
 ·cases h
def XhZ (k:Nat):Value→List (Option (List Value))→Option Xdv
 | .agg ⟨[.pointer (some ⟨k0,0,none⟩)]⟩,[some c0]=>match XdZ c0 with|some x0=>(if k0=k+0 then some (Xdv.mk x0) else none)|none=>none
 | _,_=>none
theorem XnN {k:Nat} {v:Value} {cs:List (Option (List Value))} {x:Xdv} (h:XhZ k v cs=some x):v=.agg ⟨[.pointer (some ⟨k+0,0,none⟩)]⟩∧cs=[some [.string ⟨⟨x.Reader.s⟩⟩,.bool x.Reader.made,.bool x.Reader.bad]]:=by
 unfold XhZ at h;split at h<;>try (cases h;done)
 split at h<;>try (cases h;done)
 rename_i x0 e0
 split at h<;>cases h
 rename_i hk
 subst hk
 obtain rfl:=Xg2 _ _ e0
 exact ⟨rfl,rfl⟩
theorem Xos (k:Nat) (x:Xdv):XhZ k (.agg ⟨[.pointer (some ⟨k+0,0,none⟩)]⟩) [some [.string ⟨⟨x.Reader.s⟩⟩,.bool x.Reader.made,.bool x.Reader.bad]]=some x:=by
 show (if k+0=k+0 then some x else none)=_
 simp
theorem Xg9.a {s:XbE} {vals aqs:List Value} {os:List (Option XbO)} {h h1 h2:Hp} {top n m t':Nat} {ws:List Wd} {r:XcU} {v':Value} {cw:List (Option (List Value))} {K:Value→Hp→Nat→Prop} (e2:s.run aqs cw=some r)
 (k:Xil v' fun v=>XlP [] (Xjy h2 (top+n) m) fun h'=>K v h' t')
 (e1:Xdj h 0 s.modes vals=some (aqs,os):=by repeat' first|exact XQ1|apply XMh|rfl|exact XTx rfl rfl rfl (by first|rfl|(simp only [Xbm.flatL,XdS];rfl))|exact XIu rfl rfl (Nat.le_of_ble_eq_true rfl) rfl (by first|rfl|(simp only [Xbm.flatL,XdS];rfl))|exact XKG rfl rfl (by first|rfl|omega) (by first|rfl|(simp;done))|exact XPQ rfl rfl (by first|rfl|omega) (by first|rfl|(simp;done))|exact XLc rfl rfl (by first|rfl|omega) (by first|rfl|(simp;done))|exact Xgz Xe9 XbL rfl rfl (by first|rfl|omega) (by first|rfl|(simp;done))|exact Xgz XcC Xbp rfl rfl (by first|rfl|omega) (by first|rfl|(simp;done))|exact Xgz XeN XbH rfl rfl (by first|rfl|omega) (by first|rfl|(simp;done))|exact Xgz XdM XaV rfl rfl (by first|rfl|omega) (by first|rfl|(simp;done))|exact Xgz Xa0 XaO rfl rfl (by first|rfl|omega) (by first|rfl|(simp;done))|exact Xgz Xc9 XbK rfl rfl (by first|rfl|omega) (by first|rfl|(simp;done))|exact Xgz Xca Xa9 rfl rfl (by first|rfl|omega) (by first|rfl|(simp;done))|exact Xgz XbN Xa2 rfl rfl (by first|rfl|omega) (by first|rfl|(simp;done))|exact Xgz Xds Xbq rfl rfl (by first|rfl|omega) (by first|rfl|(simp;done))|exact Xgz Xf8 XbJ rfl rfl (by first|rfl|omega) (by first|rfl|(simp;done))|exact Xgz Xbr Xbb rfl rfl (by first|rfl|omega) (by first|rfl|(simp;done))|exact Xgz XcR XbG rfl rfl (by first|rfl|omega) (by first|rfl|(simp;done))|exact Xgz Xdq Xbi rfl rfl (by first|rfl|omega) (by first|rfl|(simp;done))|exact Xgz Xb5 XaU rfl rfl (by first|rfl|omega) (by first|rfl|(simp;done))|exact Xgz XdN XaT rfl rfl (by first|rfl|omega) (by first|rfl|(simp;done))|exact Xgz XfT Xbe rfl rfl (by first|rfl|omega) (by first|rfl|(simp;done))|exact Xgz XbV Xba rfl rfl (by first|rfl|omega) (by first|rfl|(simp;done))|exact XHY rfl rfl (by first|rfl|omega) (by first|rfl|omega) (by first|omega|(simp at *;omega))|exact XH8 rfl rfl (by first|rfl|omega) (by first|rfl|omega) (by first|omega|(simp at *;omega))|exact XJl rfl rfl (by first|rfl|omega) (by first|rfl|omega) (by first|omega|(simp at *;omega))|exact Xim Xe9 XbL rfl rfl (by first|rfl|omega) (by first|rfl|omega) (by first|omega|(simp at *;omega))|exact Xim XcC Xbp rfl rfl (by first|rfl|omega) (by first|rfl|omega) (by first|omega|(simp at *;omega))|exact Xim XeN XbH rfl rfl (by first|rfl|omega) (by first|rfl|omega) (by first|omega|(simp at *;omega))|exact Xim XdM XaV rfl rfl (by first|rfl|omega) (by first|rfl|omega) (by first|omega|(simp at *;omega))|exact Xim Xa0 XaO rfl rfl (by first|rfl|omega) (by first|rfl|omega) (by first|omega|(simp at *;omega))|exact Xim Xc9 XbK rfl rfl (by first|rfl|omega) (by first|rfl|omega) (by first|omega|(simp at *;omega))|exact Xim Xca Xa9 rfl rfl (by first|rfl|omega) (by first|rfl|omega) (by first|omega|(simp at *;omega))|exact Xim XbN Xa2 rfl rfl (by first|rfl|omega) (by first|rfl|omega) (by first|omega|(simp at *;omega))|exact Xim Xds Xbq rfl rfl (by first|rfl|omega) (by first|rfl|omega) (by first|omega|(simp at *;omega))|exact Xim Xf8 XbJ rfl rfl (by first|rfl|omega) (by first|rfl|omega) (by first|omega|(simp at *;omega))|exact Xim Xbr Xbb rfl rfl (by first|rfl|omega) (by first|rfl|omega) (by first|omega|(simp at *;omega))|exact Xim XcR XbG rfl rfl (by first|rfl|omega) (by first|rfl|omega) (by first|omega|(simp at *;omega))|exact Xim Xdq Xbi rfl rfl (by first|rfl|omega) (by first|rfl|omega) (by first|omega|(simp at *;omega))|exact Xim Xb5 XaU rfl rfl (by first|rfl|omega) (by first|rfl|omega) (by first|omega|(simp at *;omega))|exact Xim XdN XaT rfl rfl (by first|rfl|omega) (by first|rfl|omega) (by first|omega|(simp at *;omega))|exact Xim XfT Xbe rfl rfl (by first|rfl|omega) (by first|rfl|omega) (by first|omega|(simp at *;omega))|exact Xim XbV Xba rfl rfl (by first|rfl|omega) (by first|rfl|omega) (by first|omega|(simp at *;omega))|(apply ra_tr rfl rfl _ rfl;repeat' first|exact XRR|apply XVa|apply vp_no|apply vp_at rfl rfl (by first|rfl|exact XuN|exact Xub|exact XuB|exact Xbo XbL|exact Xbo Xbp|exact Xbo XbH|exact Xbo XaV|exact Xbo XaO|exact Xbo XbK|exact Xbo Xa9|exact Xbo Xa2|exact Xbo Xbq|exact Xbo XbJ|exact Xbo Xbb|exact Xbo XbG|exact Xbo Xbi|exact Xbo XaU|exact Xbo XaT|exact Xbo Xbe|exact Xbo Xba|exact Xco _ _ (by simp only [Xbm.flatL,XdS];rfl)) rfl))
 (ec:Xk6 os=cw:=by rfl)
 (ew:XkH h s.modes vals=ws:=by first|exact (rfl:_=[])|exact (rfl:_=[_])|exact (rfl:_=[_,_])|exact (rfl:_=[_,_,_])|exact (rfl:_=[_,_,_,_])|exact (rfl:_=[_,_,_,_,_])|exact (rfl:_=[_,_,_,_,_,_])|exact (rfl:_=[_,_,_,_,_,_,_])|exact (rfl:_=[_,_,_,_,_,_,_,_]))
 (e3:apartB ws=true:=by exact rfl)
 (hn:r.new.length=n:=by first|exact (rfl:_=0)|exact (rfl:_=1)|exact (rfl:_=2)|exact (rfl:_=3)|exact (rfl:_=4))
 (hm:Xlu ws=m:=by first|exact (rfl:_=0)|exact (rfl:_=1)|exact (rfl:_=2)|exact (rfl:_=3)|exact (rfl:_=4))
 (ht:top+n+m=t':=by simp only [Nat.reduceAdd];rfl)
 (e4:XdF h (XuH top n ws) ws r.wr=some h1:=by repeat' first|exact XJc|apply XQc rfl|apply XVF rfl rfl (by first|rfl|exact XuN|exact Xub|exact XuB|exact Xbo XbL|exact Xbo Xbp|exact Xbo XbH|exact Xbo XaV|exact Xbo XaO|exact Xbo XbK|exact Xbo Xa9|exact Xbo Xa2|exact Xbo Xbq|exact Xbo XbJ|exact Xbo Xbb|exact Xbo XbG|exact Xbo Xbi|exact Xbo XaU|exact Xbo XaT|exact Xbo Xbe|exact Xbo Xba|exact Xco _ _ (by simp only [Xbm.flatL,XdS];rfl)) rfl rfl rfl|apply XIz rfl rfl (by first|rfl|exact XuN|exact Xub|exact XuB|exact Xbo XbL|exact Xbo Xbp|exact Xbo XbH|exact Xbo XaV|exact Xbo XaO|exact Xbo XbK|exact Xbo Xa9|exact Xbo Xa2|exact Xbo Xbq|exact Xbo XbJ|exact Xbo Xbb|exact Xbo XbG|exact Xbo Xbi|exact Xbo XaU|exact Xbo XaT|exact Xbo Xbe|exact Xbo Xba|exact Xco _ _ (by simp only [Xbm.flatL,XdS];rfl)) ⟨rfl,Nat.le_of_ble_eq_true rfl⟩ rfl rfl|apply XRj rfl rfl (by first|rfl|exact XuN|exact Xub|exact XuB|exact Xbo XbL|exact Xbo Xbp|exact Xbo XbH|exact Xbo XaV|exact Xbo XaO|exact Xbo XbK|exact Xbo Xa9|exact Xbo Xa2|exact Xbo Xbq|exact Xbo XbJ|exact Xbo Xbb|exact Xbo XbG|exact Xbo Xbi|exact Xbo XaU|exact Xbo XaT|exact Xbo Xbe|exact Xbo Xba|exact Xco _ _ (by simp only [Xbm.flatL,XdS];rfl)) rfl|apply XR0)
 (e5:Xi8 h1 (XuH top n ws) top r.new=some h2:=by repeat' first|exact XIa|apply XO6 (by first|rfl|exact XuN|exact Xub|exact XuB|exact Xbo XbL|exact Xbo Xbp|exact Xbo XbH|exact Xbo XaV|exact Xbo XaO|exact Xbo XbK|exact Xbo Xa9|exact Xbo Xa2|exact Xbo Xbq|exact Xbo XbJ|exact Xbo Xbb|exact Xbo XbG|exact Xbo Xbi|exact Xbo XaU|exact Xbo XaT|exact Xbo Xbe|exact Xbo Xba|exact Xco _ _ (by simp only [Xbm.flatL,XdS];rfl)))
 (e6:Xe0 (XuH top n ws) r.v=some v':=by first|exact rfl|exact XlX _ _ (by first|rfl|(simp only [Xbm,Xbm.flatL,XdS];rfl))):Xg9 s vals h top K:=Xg9.XHW [] (Xtr e1 ew ec e2 e3 hn hm ht e4 e5 e6) k
theorem W {G:Prop} (g:G:=by
 repeat' first
  | (refine fsp h ?_ ?_<;>(clear h;intros;rename_i hx h;rw [hx];conv=>whnf))
  | (refine fcase h ?_ ?_<;>first|(clear h;intro hx h;(first|subst hx|rw [hx]);conv=>whnf)|(clear h;intro h))
  | (refine br.h h (by rfl) ?_ ?_<;>(clear h;intro hb h;conv=>whnf))
  | (replace h:=Xbh.elim h;obtain ⟨hb,h⟩:=h;try (refine req.intro hb ?_;conv=>whnf))
  | (replace h:=Xdg.elim h;obtain ⟨x,hy,h⟩:=h;(first|refine Xg9.a (R1 hy) ?_|refine Xg9.a (R2 hy) ?_|refine Xg9.a (R3 hy) ?_|refine Xg9.a (R4 hy) ?_|refine Xg9.a (R5 hy) ?_|refine Xg9.a (R6 hy) ?_|refine Xg9.a (R7 hy) ?_|refine Xg9.a (R8 hy) ?_|refine Xg9.a (R9 hy) ?_|refine Xg9.a (R10 hy) ?_|refine rdS.intro hy ?_|refine rd.I hy (by first|rfl|(rw [Nat.zero_add,Nat.mul_one];try rfl;done)|omega) ?_|refine rd.S hy (by first|rfl|(rw [Nat.zero_add,Nat.mul_one];try rfl;done)|omega) ?_|refine rd.B hy (by first|rfl|(rw [Nat.zero_add,Nat.mul_one];try rfl;done)|omega) ?_|refine rd.T (j:=0) Xe9 hy (by first|omega|exact Nat.zero_add _|exact congrArg (·+_) (Nat.zero_add _)) (by decide) rfl ?_|refine rd.T (j:=1) Xe9 hy (by first|omega|exact Nat.zero_add _|exact congrArg (·+_) (Nat.zero_add _)) (by decide) rfl ?_|refine rd.T (j:=2) Xe9 hy (by first|omega|exact Nat.zero_add _|exact congrArg (·+_) (Nat.zero_add _)) (by decide) rfl ?_|refine rd.T (j:=0) XcC hy (by first|omega|exact Nat.zero_add _|exact congrArg (·+_) (Nat.zero_add _)) (by decide) rfl ?_|refine rd.T (j:=1) XcC hy (by first|omega|exact Nat.zero_add _|exact congrArg (·+_) (Nat.zero_add _)) (by decide) rfl ?_|refine rd.T (j:=2) XcC hy (by first|omega|exact Nat.zero_add _|exact congrArg (·+_) (Nat.zero_add _)) (by decide) rfl ?_|refine rd.T (j:=3) XcC hy (by first|omega|exact Nat.zero_add _|exact congrArg (·+_) (Nat.zero_add _)) (by decide) rfl ?_|refine rd.T (j:=4) XcC hy (by first|omega|exact Nat.zero_add _|exact congrArg (·+_) (Nat.zero_add _)) (by decide) rfl ?_|refine rd.T (j:=5) XcC hy (by first|omega|exact Nat.zero_add _|exact congrArg (·+_) (Nat.zero_add _)) (by decide) rfl ?_|refine rd.T (j:=6) XcC hy (by first|omega|exact Nat.zero_add _|exact congrArg (·+_) (Nat.zero_add _)) (by decide) rfl ?_|refine rd.T (j:=7) XcC hy (by first|omega|exact Nat.zero_add _|exact congrArg (·+_) (Nat.zero_add _)) (by decide) rfl ?_|refine rd.T (j:=8) XcC hy (by first|omega|exact Nat.zero_add _|exact congrArg (·+_) (Nat.zero_add _)) (by decide) rfl ?_|refine rd.T (j:=0) XeN hy (by first|omega|exact Nat.zero_add _|exact congrArg (·+_) (Nat.zero_add _)) (by decide) rfl ?_|refine rd.T (j:=1) XeN hy (by first|omega|exact Nat.zero_add _|exact congrArg (·+_) (Nat.zero_add _)) (by decide) rfl ?_|refine rd.T (j:=2) XeN hy (by first|omega|exact Nat.zero_add _|exact congrArg (·+_) (Nat.zero_add _)) (by decide) rfl ?_|refine rd.T (j:=3) XeN hy (by first|omega|exact Nat.zero_add _|exact congrArg (·+_) (Nat.zero_add _)) (by decide) rfl ?_|refine rd.T (j:=0) XdM hy (by first|omega|exact Nat.zero_add _|exact congrArg (·+_) (Nat.zero_add _)) (by decide) rfl ?_|refine rd.T (j:=1) XdM hy (by first|omega|exact Nat.zero_add _|exact congrArg (·+_) (Nat.zero_add _)) (by decide) rfl ?_|refine rd.T (j:=2) XdM hy (by first|omega|exact Nat.zero_add _|exact congrArg (·+_) (Nat.zero_add _)) (by decide) rfl ?_|refine rd.T (j:=0) Xa0 hy (by first|omega|exact Nat.zero_add _|exact congrArg (·+_) (Nat.zero_add _)) (by decide) rfl ?_|refine rd.T (j:=1) Xa0 hy (by first|omega|exact Nat.zero_add _|exact congrArg (·+_) (Nat.zero_add _)) (by decide) rfl ?_|refine rd.T (j:=2) Xa0 hy (by first|omega|exact Nat.zero_add _|exact congrArg (·+_) (Nat.zero_add _)) (by decide) rfl ?_|refine rd.T (j:=3) Xa0 hy (by first|omega|exact Nat.zero_add _|exact congrArg (·+_) (Nat.zero_add _)) (by decide) rfl ?_|refine rd.T (j:=4) Xa0 hy (by first|omega|exact Nat.zero_add _|exact congrArg (·+_) (Nat.zero_add _)) (by decide) rfl ?_|refine rd.T (j:=5) Xa0 hy (by first|omega|exact Nat.zero_add _|exact congrArg (·+_) (Nat.zero_add _)) (by decide) rfl ?_|refine rd.T (j:=6) Xa0 hy (by first|omega|exact Nat.zero_add _|exact congrArg (·+_) (Nat.zero_add _)) (by decide) rfl ?_|refine rd.T (j:=7) Xa0 hy (by first|omega|exact Nat.zero_add _|exact congrArg (·+_) (Nat.zero_add _)) (by decide) rfl ?_|refine rd.T (j:=8) Xa0 hy (by first|omega|exact Nat.zero_add _|exact congrArg (·+_) (Nat.zero_add _)) (by decide) rfl ?_|refine rd.T (j:=9) Xa0 hy (by first|omega|exact Nat.zero_add _|exact congrArg (·+_) (Nat.zero_add _)) (by decide) rfl ?_|refine rd.T (j:=10) Xa0 hy (by first|omega|exact Nat.zero_add _|exact congrArg (·+_) (Nat.zero_add _)) (by decide) rfl ?_|refine rd.T (j:=11) Xa0 hy (by first|omega|exact Nat.zero_add _|exact congrArg (·+_) (Nat.zero_add _)) (by decide) rfl ?_|refine rd.T (j:=12) Xa0 hy (by first|omega|exact Nat.zero_add _|exact congrArg (·+_) (Nat.zero_add _)) (by decide) rfl ?_|refine rd.T (j:=13) Xa0 hy (by first|omega|exact Nat.zero_add _|exact congrArg (·+_) (Nat.zero_add _)) (by decide) rfl ?_|refine rd.T (j:=14) Xa0 hy (by first|omega|exact Nat.zero_add _|exact congrArg (·+_) (Nat.zero_add _)) (by decide) rfl ?_|refine rd.T (j:=0) Xc9 hy (by first|omega|exact Nat.zero_add _|exact congrArg (·+_) (Nat.zero_add _)) (by decide) rfl ?_|refine rd.T (j:=1) Xc9 hy (by first|omega|exact Nat.zero_add _|exact congrArg (·+_) (Nat.zero_add _)) (by decide) rfl ?_|refine rd.T (j:=2) Xc9 hy (by first|omega|exact Nat.zero_add _|exact congrArg (·+_) (Nat.zero_add _)) (by decide) rfl ?_|refine rd.T (j:=3) Xc9 hy (by first|omega|exact Nat.zero_add _|exact congrArg (·+_) (Nat.zero_add _)) (by decide) rfl ?_|refine rd.T (j:=4) Xc9 hy (by first|omega|exact Nat.zero_add _|exact congrArg (·+_) (Nat.zero_add _)) (by decide) rfl ?_|refine rd.T (j:=5) Xc9 hy (by first|omega|exact Nat.zero_add _|exact congrArg (·+_) (Nat.zero_add _)) (by decide) rfl ?_|refine rd.T (j:=6) Xc9 hy (by first|omega|exact Nat.zero_add _|exact congrArg (·+_) (Nat.zero_add _)) (by decide) rfl ?_|refine rd.T (j:=7) Xc9 hy (by first|omega|exact Nat.zero_add _|exact congrArg (·+_) (Nat.zero_add _)) (by decide) rfl ?_|refine rd.T (j:=0) Xca hy (by first|omega|exact Nat.zero_add _|exact congrArg (·+_) (Nat.zero_add _)) (by decide) rfl ?_|refine rd.T (j:=1) Xca hy (by first|omega|exact Nat.zero_add _|exact congrArg (·+_) (Nat.zero_add _)) (by decide) rfl ?_|refine rd.T (j:=2) Xca hy (by first|omega|exact Nat.zero_add _|exact congrArg (·+_) (Nat.zero_add _)) (by decide) rfl ?_|refine rd.T (j:=3) Xca hy (by first|omega|exact Nat.zero_add _|exact congrArg (·+_) (Nat.zero_add _)) (by decide) rfl ?_|refine rd.T (j:=4) Xca hy (by first|omega|exact Nat.zero_add _|exact congrArg (·+_) (Nat.zero_add _)) (by decide) rfl ?_|refine rd.T (j:=5) Xca hy (by first|omega|exact Nat.zero_add _|exact congrArg (·+_) (Nat.zero_add _)) (by decide) rfl ?_|refine rd.T (j:=6) Xca hy (by first|omega|exact Nat.zero_add _|exact congrArg (·+_) (Nat.zero_add _)) (by decide) rfl ?_|refine rd.T (j:=7) Xca hy (by first|omega|exact Nat.zero_add _|exact congrArg (·+_) (Nat.zero_add _)) (by decide) rfl ?_|refine rd.T (j:=8) Xca hy (by first|omega|exact Nat.zero_add _|exact congrArg (·+_) (Nat.zero_add _)) (by decide) rfl ?_|refine rd.T (j:=9) Xca hy (by first|omega|exact Nat.zero_add _|exact congrArg (·+_) (Nat.zero_add _)) (by decide) rfl ?_|refine rd.T (j:=0) XbN hy (by first|omega|exact Nat.zero_add _|exact congrArg (·+_) (Nat.zero_add _)) (by decide) rfl ?_|refine rd.T (j:=1) XbN hy (by first|omega|exact Nat.zero_add _|exact congrArg (·+_) (Nat.zero_add _)) (by decide) rfl ?_|refine rd.T (j:=2) XbN hy (by first|omega|exact Nat.zero_add _|exact congrArg (·+_) (Nat.zero_add _)) (by decide) rfl ?_|refine rd.T (j:=3) XbN hy (by first|omega|exact Nat.zero_add _|exact congrArg (·+_) (Nat.zero_add _)) (by decide) rfl ?_|refine rd.T (j:=4) XbN hy (by first|omega|exact Nat.zero_add _|exact congrArg (·+_) (Nat.zero_add _)) (by decide) rfl ?_|refine rd.T (j:=5) XbN hy (by first|omega|exact Nat.zero_add _|exact congrArg (·+_) (Nat.zero_add _)) (by decide) rfl ?_|refine rd.T (j:=6) XbN hy (by first|omega|exact Nat.zero_add _|exact congrArg (·+_) (Nat.zero_add _)) (by decide) rfl ?_|refine rd.T (j:=7) XbN hy (by first|omega|exact Nat.zero_add _|exact congrArg (·+_) (Nat.zero_add _)) (by decide) rfl ?_|refine rd.T (j:=8) XbN hy (by first|omega|exact Nat.zero_add _|exact congrArg (·+_) (Nat.zero_add _)) (by decide) rfl ?_|refine rd.T (j:=9) XbN hy (by first|omega|exact Nat.zero_add _|exact congrArg (·+_) (Nat.zero_add _)) (by decide) rfl ?_|refine rd.T (j:=10) XbN hy (by first|omega|exact Nat.zero_add _|exact congrArg (·+_) (Nat.zero_add _)) (by decide) rfl ?_|refine rd.T (j:=11) XbN hy (by first|omega|exact Nat.zero_add _|exact congrArg (·+_) (Nat.zero_add _)) (by decide) rfl ?_|refine rd.T (j:=0) Xds hy (by first|omega|exact Nat.zero_add _|exact congrArg (·+_) (Nat.zero_add _)) (by decide) rfl ?_|refine rd.T (j:=1) Xds hy (by first|omega|exact Nat.zero_add _|exact congrArg (·+_) (Nat.zero_add _)) (by decide) rfl ?_|refine rd.T (j:=2) Xds hy (by first|omega|exact Nat.zero_add _|exact congrArg (·+_) (Nat.zero_add _)) (by decide) rfl ?_|refine rd.T (j:=3) Xds hy (by first|omega|exact Nat.zero_add _|exact congrArg (·+_) (Nat.zero_add _)) (by decide) rfl ?_|refine rd.T (j:=4) Xds hy (by first|omega|exact Nat.zero_add _|exact congrArg (·+_) (Nat.zero_add _)) (by decide) rfl ?_|refine rd.T (j:=5) Xds hy (by first|omega|exact Nat.zero_add _|exact congrArg (·+_) (Nat.zero_add _)) (by decide) rfl ?_|refine rd.T (j:=0) Xf8 hy (by first|omega|exact Nat.zero_add _|exact congrArg (·+_) (Nat.zero_add _)) (by decide) rfl ?_|refine rd.T (j:=1) Xf8 hy (by first|omega|exact Nat.zero_add _|exact congrArg (·+_) (Nat.zero_add _)) (by decide) rfl ?_|refine rd.T (j:=0) Xbr hy (by first|omega|exact Nat.zero_add _|exact congrArg (·+_) (Nat.zero_add _)) (by decide) rfl ?_|refine rd.T (j:=1) Xbr hy (by first|omega|exact Nat.zero_add _|exact congrArg (·+_) (Nat.zero_add _)) (by decide) rfl ?_|refine rd.T (j:=2) Xbr hy (by first|omega|exact Nat.zero_add _|exact congrArg (·+_) (Nat.zero_add _)) (by decide) rfl ?_|refine rd.T (j:=3) Xbr hy (by first|omega|exact Nat.zero_add _|exact congrArg (·+_) (Nat.zero_add _)) (by decide) rfl ?_|refine rd.T (j:=4) Xbr hy (by first|omega|exact Nat.zero_add _|exact congrArg (·+_) (Nat.zero_add _)) (by decide) rfl ?_|refine rd.T (j:=5) Xbr hy (by first|omega|exact Nat.zero_add _|exact congrArg (·+_) (Nat.zero_add _)) (by decide) rfl ?_|refine rd.T (j:=6) Xbr hy (by first|omega|exact Nat.zero_add _|exact congrArg (·+_) (Nat.zero_add _)) (by decide) rfl ?_|refine rd.T (j:=7) Xbr hy (by first|omega|exact Nat.zero_add _|exact congrArg (·+_) (Nat.zero_add _)) (by decide) rfl ?_|refine rd.T (j:=8) Xbr hy (by first|omega|exact Nat.zero_add _|exact congrArg (·+_) (Nat.zero_add _)) (by decide) rfl ?_|refine rd.T (j:=9) Xbr hy (by first|omega|exact Nat.zero_add _|exact congrArg (·+_) (Nat.zero_add _)) (by decide) rfl ?_|refine rd.T (j:=10) Xbr hy (by first|omega|exact Nat.zero_add _|exact congrArg (·+_) (Nat.zero_add _)) (by decide) rfl ?_|refine rd.T (j:=11) Xbr hy (by first|omega|exact Nat.zero_add _|exact congrArg (·+_) (Nat.zero_add _)) (by decide) rfl ?_|refine rd.T (j:=12) Xbr hy (by first|omega|exact Nat.zero_add _|exact congrArg (·+_) (Nat.zero_add _)) (by decide) rfl ?_|refine rd.T (j:=13) Xbr hy (by first|omega|exact Nat.zero_add _|exact congrArg (·+_) (Nat.zero_add _)) (by decide) rfl ?_|refine rd.T (j:=14) Xbr hy (by first|omega|exact Nat.zero_add _|exact congrArg (·+_) (Nat.zero_add _)) (by decide) rfl ?_|refine rd.T (j:=15) Xbr hy (by first|omega|exact Nat.zero_add _|exact congrArg (·+_) (Nat.zero_add _)) (by decide) rfl ?_|refine rd.T (j:=0) XcR hy (by first|omega|exact Nat.zero_add _|exact congrArg (·+_) (Nat.zero_add _)) (by decide) rfl ?_|refine rd.T (j:=1) XcR hy (by first|omega|exact Nat.zero_add _|exact congrArg (·+_) (Nat.zero_add _)) (by decide) rfl ?_|refine rd.T (j:=2) XcR hy (by first|omega|exact Nat.zero_add _|exact congrArg (·+_) (Nat.zero_add _)) (by decide) rfl ?_|refine rd.T (j:=3) XcR hy (by first|omega|exact Nat.zero_add _|exact congrArg (·+_) (Nat.zero_add _)) (by decide) rfl ?_|refine rd.T (j:=4) XcR hy (by first|omega|exact Nat.zero_add _|exact congrArg (·+_) (Nat.zero_add _)) (by decide) rfl ?_|refine rd.T (j:=5) XcR hy (by first|omega|exact Nat.zero_add _|exact congrArg (·+_) (Nat.zero_add _)) (by decide) rfl ?_|refine rd.T (j:=6) XcR hy (by first|omega|exact Nat.zero_add _|exact congrArg (·+_) (Nat.zero_add _)) (by decide) rfl ?_|refine rd.T (j:=7) XcR hy (by first|omega|exact Nat.zero_add _|exact congrArg (·+_) (Nat.zero_add _)) (by decide) rfl ?_|refine rd.T (j:=8) XcR hy (by first|omega|exact Nat.zero_add _|exact congrArg (·+_) (Nat.zero_add _)) (by decide) rfl ?_|refine rd.T (j:=0) Xdq hy (by first|omega|exact Nat.zero_add _|exact congrArg (·+_) (Nat.zero_add _)) (by decide) rfl ?_|refine rd.T (j:=1) Xdq hy (by first|omega|exact Nat.zero_add _|exact congrArg (·+_) (Nat.zero_add _)) (by decide) rfl ?_|refine rd.T (j:=2) Xdq hy (by first|omega|exact Nat.zero_add _|exact congrArg (·+_) (Nat.zero_add _)) (by decide) rfl ?_|refine rd.T (j:=0) Xb5 hy (by first|omega|exact Nat.zero_add _|exact congrArg (·+_) (Nat.zero_add _)) (by decide) rfl ?_|refine rd.T (j:=1) Xb5 hy (by first|omega|exact Nat.zero_add _|exact congrArg (·+_) (Nat.zero_add _)) (by decide) rfl ?_|refine rd.T (j:=2) Xb5 hy (by first|omega|exact Nat.zero_add _|exact congrArg (·+_) (Nat.zero_add _)) (by decide) rfl ?_|refine rd.T (j:=3) Xb5 hy (by first|omega|exact Nat.zero_add _|exact congrArg (·+_) (Nat.zero_add _)) (by decide) rfl ?_|refine rd.T (j:=4) Xb5 hy (by first|omega|exact Nat.zero_add _|exact congrArg (·+_) (Nat.zero_add _)) (by decide) rfl ?_|refine rd.T (j:=5) Xb5 hy (by first|omega|exact Nat.zero_add _|exact congrArg (·+_) (Nat.zero_add _)) (by decide) rfl ?_|refine rd.T (j:=6) Xb5 hy (by first|omega|exact Nat.zero_add _|exact congrArg (·+_) (Nat.zero_add _)) (by decide) rfl ?_|refine rd.T (j:=7) Xb5 hy (by first|omega|exact Nat.zero_add _|exact congrArg (·+_) (Nat.zero_add _)) (by decide) rfl ?_|refine rd.T (j:=0) XdN hy (by first|omega|exact Nat.zero_add _|exact congrArg (·+_) (Nat.zero_add _)) (by decide) rfl ?_|refine rd.T (j:=1) XdN hy (by first|omega|exact Nat.zero_add _|exact congrArg (·+_) (Nat.zero_add _)) (by decide) rfl ?_|refine rd.T (j:=2) XdN hy (by first|omega|exact Nat.zero_add _|exact congrArg (·+_) (Nat.zero_add _)) (by decide) rfl ?_|refine rd.T (j:=0) XfT hy (by first|omega|exact Nat.zero_add _|exact congrArg (·+_) (Nat.zero_add _)) (by decide) rfl ?_|refine rd.T (j:=1) XfT hy (by first|omega|exact Nat.zero_add _|exact congrArg (·+_) (Nat.zero_add _)) (by decide) rfl ?_|refine rd.T (j:=0) XbV hy (by first|omega|exact Nat.zero_add _|exact congrArg (·+_) (Nat.zero_add _)) (by decide) rfl ?_|refine rd.T (j:=1) XbV hy (by first|omega|exact Nat.zero_add _|exact congrArg (·+_) (Nat.zero_add _)) (by decide) rfl ?_|refine rd.T (j:=2) XbV hy (by first|omega|exact Nat.zero_add _|exact congrArg (·+_) (Nat.zero_add _)) (by decide) rfl ?_|refine rd.T (j:=3) XbV hy (by first|omega|exact Nat.zero_add _|exact congrArg (·+_) (Nat.zero_add _)) (by decide) rfl ?_|refine rd.T (j:=4) XbV hy (by first|omega|exact Nat.zero_add _|exact congrArg (·+_) (Nat.zero_add _)) (by decide) rfl ?_|refine rd.T (j:=5) XbV hy (by first|omega|exact Nat.zero_add _|exact congrArg (·+_) (Nat.zero_add _)) (by decide) rfl ?_|refine rd.T (j:=6) XbV hy (by first|omega|exact Nat.zero_add _|exact congrArg (·+_) (Nat.zero_add _)) (by decide) rfl ?_|refine rd.T (j:=7) XbV hy (by first|omega|exact Nat.zero_add _|exact congrArg (·+_) (Nat.zero_add _)) (by decide) rfl ?_|refine rd.T (j:=8) XbV hy (by first|omega|exact Nat.zero_add _|exact congrArg (·+_) (Nat.zero_add _)) (by decide) rfl ?_|refine rd.T (j:=9) XbV hy (by first|omega|exact Nat.zero_add _|exact congrArg (·+_) (Nat.zero_add _)) (by decide) rfl ?_|refine rd.T (j:=10) XbV hy (by first|omega|exact Nat.zero_add _|exact congrArg (·+_) (Nat.zero_add _)) (by decide) rfl ?_|refine rd.T (j:=11) XbV hy (by first|omega|exact Nat.zero_add _|exact congrArg (·+_) (Nat.zero_add _)) (by decide) rfl ?_);conv=>whnf)
  | (cases h;done)
  | (cases h;(try cases hc);first|exact Res.y|exact Res.of [] rfl (by repeat' first|exact Xta|apply XtS (by first|rfl|exact XuN|exact Xub|exact XuB|exact Xbo XbL|exact Xbo Xbp|exact Xbo XbH|exact Xbo XaV|exact Xbo XaO|exact Xbo XbK|exact Xbo Xa9|exact Xbo Xa2|exact Xbo Xbq|exact Xbo XbJ|exact Xbo Xbb|exact Xbo XbG|exact Xbo Xbi|exact Xbo XaU|exact Xbo XaT|exact Xbo Xbe|exact Xbo Xba|exact Xco _ _ (by simp only [Xbm.flatL,XdS];rfl)) (by first|exact Xhg rfl|exact XiM rfl)) (by decide) (by repeat' first|exact Xtg|apply XtR (by decide)|apply XWs rfl) (by repeat' first|exact Xtk|apply XVw|apply XSc (by first|rfl|exact XuN|exact Xub|exact XuB|exact Xbo XbL|exact Xbo Xbp|exact Xbo XbH|exact Xbo XaV|exact Xbo XaO|exact Xbo XbK|exact Xbo Xa9|exact Xbo Xa2|exact Xbo Xbq|exact Xbo XbJ|exact Xbo Xbb|exact Xbo XbG|exact Xbo Xbi|exact Xbo XaU|exact Xbo XaT|exact Xbo Xbe|exact Xbo Xba|exact Xco _ _ (by simp only [Xbm.flatL,XdS];rfl)) (by first|exact XiM rfl|exact Xhg rfl))|exact Res.of [_] rfl (by repeat' first|exact Xta|apply XtS (by first|rfl|exact XuN|exact Xub|exact XuB|exact Xbo XbL|exact Xbo Xbp|exact Xbo XbH|exact Xbo XaV|exact Xbo XaO|exact Xbo XbK|exact Xbo Xa9|exact Xbo Xa2|exact Xbo Xbq|exact Xbo XbJ|exact Xbo Xbb|exact Xbo XbG|exact Xbo Xbi|exact Xbo XaU|exact Xbo XaT|exact Xbo Xbe|exact Xbo Xba|exact Xco _ _ (by simp only [Xbm.flatL,XdS];rfl)) (by first|exact Xhg rfl|exact XiM rfl)) (by decide) (by repeat' first|exact Xtg|apply XtR (by decide)|apply XWs rfl) (by repeat' first|exact Xtk|apply XVw|apply XSc (by first|rfl|exact XuN|exact Xub|exact XuB|exact Xbo XbL|exact Xbo Xbp|exact Xbo XbH|exact Xbo XaV|exact Xbo XaO|exact Xbo XbK|exact Xbo Xa9|exact Xbo Xa2|exact Xbo Xbq|exact Xbo XbJ|exact Xbo Xbb|exact Xbo XbG|exact Xbo Xbi|exact Xbo XaU|exact Xbo XaT|exact Xbo Xbe|exact Xbo Xba|exact Xco _ _ (by simp only [Xbm.flatL,XdS];rfl)) (by first|exact XiM rfl|exact Xhg rfl))|exact Res.of [_,_] rfl (by repeat' first|exact Xta|apply XtS (by first|rfl|exact XuN|exact Xub|exact XuB|exact Xbo XbL|exact Xbo Xbp|exact Xbo XbH|exact Xbo XaV|exact Xbo XaO|exact Xbo XbK|exact Xbo Xa9|exact Xbo Xa2|exact Xbo Xbq|exact Xbo XbJ|exact Xbo Xbb|exact Xbo XbG|exact Xbo Xbi|exact Xbo XaU|exact Xbo XaT|exact Xbo Xbe|exact Xbo Xba|exact Xco _ _ (by simp only [Xbm.flatL,XdS];rfl)) (by first|exact Xhg rfl|exact XiM rfl)) (by decide) (by repeat' first|exact Xtg|apply XtR (by decide)|apply XWs rfl) (by repeat' first|exact Xtk|apply XVw|apply XSc (by first|rfl|exact XuN|exact Xub|exact XuB|exact Xbo XbL|exact Xbo Xbp|exact Xbo XbH|exact Xbo XaV|exact Xbo XaO|exact Xbo XbK|exact Xbo Xa9|exact Xbo Xa2|exact Xbo Xbq|exact Xbo XbJ|exact Xbo Xbb|exact Xbo XbG|exact Xbo Xbi|exact Xbo XaU|exact Xbo XaT|exact Xbo Xbe|exact Xbo Xba|exact Xco _ _ (by simp only [Xbm.flatL,XdS];rfl)) (by first|exact XiM rfl|exact Xhg rfl))|exact Res.of [_,_,_] rfl (by repeat' first|exact Xta|apply XtS (by first|rfl|exact XuN|exact Xub|exact XuB|exact Xbo XbL|exact Xbo Xbp|exact Xbo XbH|exact Xbo XaV|exact Xbo XaO|exact Xbo XbK|exact Xbo Xa9|exact Xbo Xa2|exact Xbo Xbq|exact Xbo XbJ|exact Xbo Xbb|exact Xbo XbG|exact Xbo Xbi|exact Xbo XaU|exact Xbo XaT|exact Xbo Xbe|exact Xbo Xba|exact Xco _ _ (by simp only [Xbm.flatL,XdS];rfl)) (by first|exact Xhg rfl|exact XiM rfl)) (by decide) (by repeat' first|exact Xtg|apply XtR (by decide)|apply XWs rfl) (by repeat' first|exact Xtk|apply XVw|apply XSc (by first|rfl|exact XuN|exact Xub|exact XuB|exact Xbo XbL|exact Xbo Xbp|exact Xbo XbH|exact Xbo XaV|exact Xbo XaO|exact Xbo XbK|exact Xbo Xa9|exact Xbo Xa2|exact Xbo Xbq|exact Xbo XbJ|exact Xbo Xbb|exact Xbo XbG|exact Xbo Xbi|exact Xbo XaU|exact Xbo XaT|exact Xbo Xbe|exact Xbo Xba|exact Xco _ _ (by simp only [Xbm.flatL,XdS];rfl)) (by first|exact XiM rfl|exact Xhg rfl))|exact Res.of [_,_,_,_] rfl (by repeat' first|exact Xta|apply XtS (by first|rfl|exact XuN|exact Xub|exact XuB|exact Xbo XbL|exact Xbo Xbp|exact Xbo XbH|exact Xbo XaV|exact Xbo XaO|exact Xbo XbK|exact Xbo Xa9|exact Xbo Xa2|exact Xbo Xbq|exact Xbo XbJ|exact Xbo Xbb|exact Xbo XbG|exact Xbo Xbi|exact Xbo XaU|exact Xbo XaT|exact Xbo Xbe|exact Xbo Xba|exact Xco _ _ (by simp only [Xbm.flatL,XdS];rfl)) (by first|exact Xhg rfl|exact XiM rfl)) (by decide) (by repeat' first|exact Xtg|apply XtR (by decide)|apply XWs rfl) (by repeat' first|exact Xtk|apply XVw|apply XSc (by first|rfl|exact XuN|exact Xub|exact XuB|exact Xbo XbL|exact Xbo Xbp|exact Xbo XbH|exact Xbo XaV|exact Xbo XaO|exact Xbo XbK|exact Xbo Xa9|exact Xbo Xa2|exact Xbo Xbq|exact Xbo XbJ|exact Xbo Xbb|exact Xbo XbG|exact Xbo Xbi|exact Xbo XaU|exact Xbo XaT|exact Xbo Xbe|exact Xbo Xba|exact Xco _ _ (by simp only [Xbm.flatL,XdS];rfl)) (by first|exact XiM rfl|exact Xhg rfl)))):G:=g
theorem okA {f : Nat} {s : XbE} (hfn : ∃ fn, Tryz.prog.funcs[f]? = some fn ∧ fn.name ≠ "runtime.NumGoroutine" ∧ fn.body.isSome = true)
 (H:∀ ar os r,Xhs (Xvy s.modes) os→s.run ar (Xk6 os)=some r→∃ c,XjX (XaD tab) f ar=some c∧XaG Tryz.prog f os.length ⟨c,[],Xqu 0 os,os.length⟩ (fun v' H' _=>Res os.length r v' H'):=by
 intro ar os r ha hr
 generalize hc:Xk6 os=C at hr
 repeat' first
  | (replace hr:=XsB.elim hr;rcases hr with hr|hr)
  | (replace hr:=orD.elim hr;rcases hr with hr|hr)
  | (replace hr:=dV.elim hr;obtain ⟨v,l,y,rfl,e,hr⟩:=hr;first|obtain rfl:=XvA _ _ _ e|obtain rfl:=XvM _ _ e|obtain rfl:=XAZ _ _ e|obtain rfl:=Xpy _ _ e|obtain rfl:=Xr2 _ _ e|obtain rfl:=Xqt _ _ e|obtain rfl:=XrF _ _ e|obtain rfl:=Xoj _ _ e|obtain rfl:=Xne _ _ e|obtain rfl:=Xsq _ _ e|obtain rfl:=Xqm _ _ e|obtain rfl:=XoS _ _ e|obtain rfl:=Xqv _ _ e|obtain rfl:=XrC _ _ e|obtain rfl:=Xqh _ _ e|obtain rfl:=Xsg _ _ e|obtain rfl:=XtA _ _ e|obtain rfl:=Xoc _ _ e|obtain rfl:=Xod _ _ e|obtain rfl:=Xs4 _ _ e|obtain rfl:=Xqa _ _ e)
  | (have hq:=dSl.elim hr;clear hr;obtain ⟨c,l,C,y,rfl,rfl,e,hr⟩:=hq;first|obtain rfl:=XVT e|obtain rfl:=XUD e|obtain rfl:=XUh e|obtain rfl:=Xik XkW e|obtain rfl:=Xik Xj2 e|obtain rfl:=Xik XkP e|obtain rfl:=Xik XiF e|obtain rfl:=Xik Xid e|obtain rfl:=Xik XkV e|obtain rfl:=Xik XjC e|obtain rfl:=Xik Xi6 e|obtain rfl:=Xik Xj5 e|obtain rfl:=Xik XkX e|obtain rfl:=Xik Xjz e|obtain rfl:=Xik XkU e|obtain rfl:=Xik XlD e|obtain rfl:=Xik Xiv e|obtain rfl:=Xik Xg2 e|obtain rfl:=Xik Xlf e|obtain rfl:=Xik XjB e)
  | (have hq:=dPt.elim hr;clear hr;obtain ⟨c,l,C,y,rfl,rfl,e,hr⟩:=hq;first|obtain rfl:=XkW _ _ e|obtain rfl:=Xj2 _ _ e|obtain rfl:=XkP _ _ e|obtain rfl:=XiF _ _ e|obtain rfl:=Xid _ _ e|obtain rfl:=XkV _ _ e|obtain rfl:=XjC _ _ e|obtain rfl:=Xi6 _ _ e|obtain rfl:=Xj5 _ _ e|obtain rfl:=XkX _ _ e|obtain rfl:=Xjz _ _ e|obtain rfl:=XkU _ _ e|obtain rfl:=XlD _ _ e|obtain rfl:=Xiv _ _ e|obtain rfl:=Xg2 _ _ e|obtain rfl:=Xlf _ _ e|obtain rfl:=XjB _ _ e|obtain rfl:=Xzd (XvA _) e|obtain rfl:=Xzd XvM e|obtain rfl:=Xzd XAZ e)
  | (have hq:=dTr.elim hr;clear hr;obtain ⟨v,l,c,C,y,rfl,rfl,e,hr⟩:=hq;(first|obtain ⟨rfl,rfl⟩:=XnN e);simp only [List.nil_append,List.cons_append] at hc)
  | (have hq:=dNl.elim hr;clear hr;obtain ⟨l,C,rfl,rfl,hr⟩:=hq;simp only [List.replicate,List.nil_append,List.cons_append] at hc)
  | (replace hr:=dFin hr;obtain ⟨rfl,rfl,x,h,rfl⟩:=hr;(repeat (first|(replace ha:=Xwq ha hc;obtain ⟨os,rfl,ha,hc⟩:=ha)|(replace ha:=XwR ha hc;obtain ⟨os,rfl,ha,hc⟩:=ha)));obtain rfl:=XxN hc;first|exact ⟨_,rfl,hL (h:=h) ..⟩|exact ⟨_,rfl,hN (h:=h) ..⟩)):XbM Tryz.prog f s:=XbM.XFF XaE H hfn
theorem Xmp {P:Program} {f base fn nt:Nat} {e e':Env} {todo todo':List Xgo} {ds ds':List Nat} {ret:Bool} {up up':List XbQ} {H H':Hp} {top top':Nat} {R:Value→Hp→Nat→Prop}
 (h:XaG P f base ⟨⟨fn,nt,e',todo',ds',ret,none⟩,up',H',top'⟩ R) (m:List (Nat×Nat)) (hc:XBW base top' m=true) (he:reE (XaD m) e e':=by repeat' first|exact trivial|refine ⟨⟨_,rfl,rfl⟩,?_⟩|refine ⟨⟨_,_,rfl,rfl,.cellsF (by simp only [Xbm.flatL,XdS];rfl)⟩,?_⟩|refine ⟨⟨_,_,rfl,rfl,.rowF (Xj8 _ _) id⟩,?_⟩|refine ⟨⟨_,_,rfl,rfl,.rowF (Xol _) id⟩,?_⟩|refine ⟨⟨_,_,rfl,rfl,.rowF (Xn9 _) id⟩,?_⟩|refine ⟨⟨_,_,rfl,rfl,.rowF (XnV (by first|exact XbL|exact Xbp|exact XbH|exact XaV|exact XaO|exact XbK|exact Xa9|exact Xa2|exact Xbq|exact XbJ|exact Xbb|exact XbG|exact Xbi|exact XaU|exact XaT|exact Xbe|exact Xba) _) id⟩,?_⟩|refine ⟨⟨_,_,rfl,rfl,.tyF (Xj8 _ _)⟩,?_⟩|refine ⟨⟨_,_,rfl,rfl,.ty rfl⟩,?_⟩|refine ⟨⟨_,_,rfl,rfl,.cells rfl⟩,?_⟩|refine ⟨⟨_,_,rfl,rfl,.row rfl id⟩,?_⟩|refine ⟨⟨_,_,rfl,rfl,.cr rfl⟩,?_⟩|refine ⟨⟨_,_,rfl,rfl,.rc rfl⟩,?_⟩|refine ⟨⟨_,_,rfl,rfl,.marks⟩,?_⟩|refine ⟨⟨_,_,rfl,rfl,.siter _ _⟩,?_⟩|refine ⟨⟨_,_,rfl,rfl,.loop rfl rfl rfl rfl (by repeat' first|exact trivial|refine ⟨rfl,?_⟩) rfl rfl rfl rfl⟩,?_⟩) (hH:reH (XaD m) H H':=by repeat' first|exact trivial|refine ⟨⟨_,rfl,rfl⟩,?_⟩|refine ⟨⟨_,_,rfl,rfl,.cellsF (by simp only [Xbm.flatL,XdS];rfl)⟩,?_⟩|refine ⟨⟨_,_,rfl,rfl,.rowF (Xj8 _ _) id⟩,?_⟩|refine ⟨⟨_,_,rfl,rfl,.rowF (Xol _) id⟩,?_⟩|refine ⟨⟨_,_,rfl,rfl,.rowF (Xn9 _) id⟩,?_⟩|refine ⟨⟨_,_,rfl,rfl,.rowF (XnV (by first|exact XbL|exact Xbp|exact XbH|exact XaV|exact XaO|exact XbK|exact Xa9|exact Xa2|exact Xbq|exact XbJ|exact Xbb|exact XbG|exact Xbi|exact XaU|exact XaT|exact Xbe|exact Xba) _) id⟩,?_⟩|refine ⟨⟨_,_,rfl,rfl,.tyF (Xj8 _ _)⟩,?_⟩|refine ⟨⟨_,_,rfl,rfl,.ty rfl⟩,?_⟩|refine ⟨⟨_,_,rfl,rfl,.cells rfl⟩,?_⟩|refine ⟨⟨_,_,rfl,rfl,.row rfl id⟩,?_⟩|refine ⟨⟨_,_,rfl,rfl,.cr rfl⟩,?_⟩|refine ⟨⟨_,_,rfl,rfl,.rc rfl⟩,?_⟩|refine ⟨⟨_,_,rfl,rfl,.marks⟩,?_⟩|refine ⟨⟨_,_,rfl,rfl,.siter _ _⟩,?_⟩|refine ⟨⟨_,_,rfl,rfl,.loop rfl rfl rfl rfl (by repeat' first|exact trivial|refine ⟨rfl,?_⟩) rfl rfl rfl rfl⟩,?_⟩)
 (ht:XGI (XaD m) todo'=some todo:=by rfl) (hd:XDC (XaD m) ds'=some ds:=by rfl) (hu:reU (XaD m) up up':=by trivial) :
 XaG P f base ⟨⟨fn,nt,e,todo,ds,ret,none⟩,up,H,top⟩ R:=XaG.re h m hc he hH ht hd hu
theorem XFQ {P:Program} {f base fn nt:Nat} {e e':Env} {todo todo':List Xgo} {ds ds':List Nat} {ret:Bool} {up up':List XbQ} {H H':Hp} {top top':Nat} {R:Value→Hp→Nat→Prop}
 (h:XaG P f base ⟨⟨fn,nt,e',todo',ds',ret,none⟩,up',H',top'⟩ R) (m:List (Nat×Nat)) (hc:XBW base top' m=true) (he:reE (XaD m) e e':=by repeat' first|exact trivial|refine ⟨⟨_,rfl,rfl⟩,?_⟩|refine ⟨⟨_,_,rfl,rfl,.cellsF (by simp only [Xbm.flatL,XdS];rfl)⟩,?_⟩|refine ⟨⟨_,_,rfl,rfl,.rowF (Xj8 _ _) id⟩,?_⟩|refine ⟨⟨_,_,rfl,rfl,.rowF (Xol _) id⟩,?_⟩|refine ⟨⟨_,_,rfl,rfl,.rowF (Xn9 _) id⟩,?_⟩|refine ⟨⟨_,_,rfl,rfl,.rowF (XnV (by first|exact XbL|exact Xbp|exact XbH|exact XaV|exact XaO|exact XbK|exact Xa9|exact Xa2|exact Xbq|exact XbJ|exact Xbb|exact XbG|exact Xbi|exact XaU|exact XaT|exact Xbe|exact Xba) _) id⟩,?_⟩|refine ⟨⟨_,_,rfl,rfl,.tyF (Xj8 _ _)⟩,?_⟩|refine ⟨⟨_,_,rfl,rfl,.ty rfl⟩,?_⟩|refine ⟨⟨_,_,rfl,rfl,.cells rfl⟩,?_⟩|refine ⟨⟨_,_,rfl,rfl,.row rfl id⟩,?_⟩|refine ⟨⟨_,_,rfl,rfl,.cr rfl⟩,?_⟩|refine ⟨⟨_,_,rfl,rfl,.rc rfl⟩,?_⟩|refine ⟨⟨_,_,rfl,rfl,.marks⟩,?_⟩|refine ⟨⟨_,_,rfl,rfl,.siter _ _⟩,?_⟩|refine ⟨⟨_,_,rfl,rfl,.loop rfl rfl rfl rfl (by repeat' first|exact trivial|refine ⟨rfl,?_⟩) rfl rfl rfl rfl⟩,?_⟩) (hH:reH (XaD m) H H':=by repeat' first|exact trivial|refine ⟨⟨_,rfl,rfl⟩,?_⟩|refine ⟨⟨_,_,rfl,rfl,.cellsF (by simp only [Xbm.flatL,XdS];rfl)⟩,?_⟩|refine ⟨⟨_,_,rfl,rfl,.rowF (Xj8 _ _) id⟩,?_⟩|refine ⟨⟨_,_,rfl,rfl,.rowF (Xol _) id⟩,?_⟩|refine ⟨⟨_,_,rfl,rfl,.rowF (Xn9 _) id⟩,?_⟩|refine ⟨⟨_,_,rfl,rfl,.rowF (XnV (by first|exact XbL|exact Xbp|exact XbH|exact XaV|exact XaO|exact XbK|exact Xa9|exact Xa2|exact Xbq|exact XbJ|exact Xbb|exact XbG|exact Xbi|exact XaU|exact XaT|exact Xbe|exact Xba) _) id⟩,?_⟩|refine ⟨⟨_,_,rfl,rfl,.tyF (Xj8 _ _)⟩,?_⟩|refine ⟨⟨_,_,rfl,rfl,.ty rfl⟩,?_⟩|refine ⟨⟨_,_,rfl,rfl,.cells rfl⟩,?_⟩|refine ⟨⟨_,_,rfl,rfl,.row rfl id⟩,?_⟩|refine ⟨⟨_,_,rfl,rfl,.cr rfl⟩,?_⟩|refine ⟨⟨_,_,rfl,rfl,.rc rfl⟩,?_⟩|refine ⟨⟨_,_,rfl,rfl,.marks⟩,?_⟩|refine ⟨⟨_,_,rfl,rfl,.siter _ _⟩,?_⟩|refine ⟨⟨_,_,rfl,rfl,.loop rfl rfl rfl rfl (by repeat' first|exact trivial|refine ⟨rfl,?_⟩) rfl rfl rfl rfl⟩,?_⟩)
 (ht:XGI (XaD m) todo'=some todo:=by rfl) (hd:XDC (XaD m) ds'=some ds:=by rfl) (hu:reU (XaD m) up up':=by repeat' first|exact trivial|refine ⟨⟨rfl,rfl,rfl,rfl,rfl,?_,rfl,rfl⟩,?_⟩|refine ⟨⟨_,rfl,rfl⟩,?_⟩) :
 XaG P f base ⟨⟨fn,nt,e,todo,ds,ret,none⟩,up,H,top⟩ R:=XaG.re h m hc he hH ht hd hu
def Xig (n1:Int):Option (Sum Int Int):=
 cond (decide (n1>65535))
  (
  let t:=wI .i64 ((Xnr .i64 n1 65535)+(n1.fdiv (2^16)))
  some (.inl t))
  (
  some (.inr (n1)))
def XkM (n:Int):Option Int:=
 iter (fun st=>Xig st) FUEL n
def Xw3 (x:Int):XcU:=⟨.int .i64 x,[],[]⟩
abbrev Xeq:=Int→Option Int
def r165 (g:Xeq):Dec:=dV (asI .i64) fun (y0:Int)=>XdX (ofG (g y0) Xw3)
theorem XU0 {g:Xeq} {y0:Int} {x:Int} (hx:g y0=some x):r165 g [.int .i64 y0] []=some (Xw3 x):=(XaS (XeL _)).trans (XaQ hx)
def s165 (g:Xeq):XbE:=⟨[.v],r165 g⟩
theorem XBk {g:Xeq} {y0:Int} {x:Int} (hx:g y0=some x):(s165 g).run [.int .i64 y0] []=some (Xw3 x):=XU0 hx
abbrev Xzj:List (Nat×XbE):=[]
def Xlz (n1:Int):VM:=
 ⟨⟨165,11,[(0,.int .i64 n1)],[.code XzH,.inLoop XzH,.inBlock 0,.code Xyi],[],false,none⟩,[],[],0⟩
theorem Xyt (hS:Xak Tryz.prog (XaD (Xzj))) (res:Int):∀ fuel (st:Int) (o:Int),iter (fun st=>Xig st) fuel st=some o→(o=res) →
 XaG Tryz.prog 165 0 (Xlz st) (fun v H _=>Res 0 (Xw3 res) v H):=by
 intro fuel st o h hc
 refine Xde (head:=fun st=>Xlz st) (C:=fun o=>(o=res)) ?_ fuel st o h hc
 clear h hc o st fuel
 intro n1 o h hc
 replace h:Xig n1=some o:=h
 show XaG Tryz.prog 165 0 (Xlz n1) (fun v H _=>Res 0 (Xw3 res) v H)
 unfold Xig at h
 refine Xa6 XaE hS true 3000 ?_
 conv=>whnf
 refine br.h2 h (by rfl) ?_ ?_
 ·clear h;intro hb h;conv=>whnf
  exact W
 clear h;intro hb h;conv=>whnf
 let t:Int:=wI .i64 ((Xnr .i64 n1 65535)+(n1.fdiv (2^16)))
 cases h;simp only [Sum.elim_inl,Xlz] at hc
 exact Xmp hc [] rfl
theorem XFW (hS:Xak Tryz.prog (XaD (Xzj))) (n:Int) (res:Int) (h:XkM n=some res) :
 XaG Tryz.prog 165 0 ⟨⟨165,11,[(0,.int .i64 n)],[.code Xz0],[],false,none⟩,[],[],0⟩ (fun v H _=>Res 0 (Xw3 res) v H):=by
 unfold XkM at h
 refine Xa6 XaE hS true 3000 ?_
 conv=>whnf
 have hl:=Xyt hS res _ _ _ h rfl;simp only [Xlz] at hl
 exact Xmp hl [] rfl
def XcL:Xeq:=XkM
theorem XPk:XbM Tryz.prog 165 (s165 XcL):=by
 have hL:=XFW (Xak.XaM trivial)
 exact okA ⟨Tryz.f165,rfl,by decide,rfl⟩
def XhB (XcL:Xeq) (s:List UInt8) (xat:Int) (n:Int):Option (Sum (Int×Int) Int):=
 cond (decide (xat<(s.length:Int)))
  (
  Xbh (decide (0≤xat)) <|
  (s[xat.toNat]?).bind fun (b:UInt8)=>
  let t:=wI .i64 ((wI .i64 (b.toNat:Int))*2^8)
  let t1:=decide ((wI .i64 (xat+1))<(s.length:Int))
  cond (t1)
   (
   Xbh (decide (0≤(wI .i64 (xat+1)))) <|
   (s[(wI .i64 (xat+1)).toNat]?).bind fun (b1:UInt8)=>
   let t2:=wI .i64 (n+(Xlg .i64 t (wI .i64 (b1.toNat:Int))))
   (XcL t2).bind fun f=>
   some (.inl (wI .i64 (xat+2),f)))
   (
   (XcL (wI .i64 (n+t))).bind fun f1=>
   some (.inl (wI .i64 (xat+2),f1))))
  (
  some (.inr (n)))
def Xme (XcL:Xeq) (s:List UInt8):Option Int:=
 iter (fun st=>XhB XcL s st.1 st.2) FUEL (0,0)
def Xw5 (x:Int):XcU:=⟨.int .i64 x,[],[]⟩
abbrev Xex:=(List UInt8)→Option Int
def r130 (g:Xex):Dec:=dV asS fun (y0:List UInt8)=>XdX (ofG (g y0) Xw5)
theorem XQ4 {g:Xex} {y0:List UInt8} {x:Int} (hx:g y0=some x):r130 g [.string ⟨⟨y0⟩⟩] []=some (Xw5 x):=(XaS (Xd4)).trans (XaQ hx)
def s130 (g:Xex):XbE:=⟨[.v],r130 g⟩
theorem XyO {g:Xex} {y0:List UInt8} {x:Int} (hx:g y0=some x):(s130 g).run [.string ⟨⟨y0⟩⟩] []=some (Xw5 x):=XQ4 hx
abbrev Xzv (XcL:Xeq):List (Nat×XbE):=[(165,s165 XcL)]
def Xkh (s:List UInt8) (xat:Int) (n:Int):VM:=
 ⟨⟨189,32,[(0,.func (.yield 3) #[] #[]),(1,.pointer (some ⟨1,0,none⟩)),(3,.int .i64 xat)],[.code XtV,.inLoop XtV,.inBlock 0],[],false,none⟩,[⟨130,13,[(3,.pointer (some ⟨0,0,none⟩))],[.inRangeFunc 3,.inBlock 0,.code XxX],[2],false,none⟩],[(0,.cells [.int .i64 n]),(1,.cells [.string ⟨⟨s⟩⟩]),(2,.marks),(3,.loop ⟨.ready,none,130,13,[(3,.pointer (some ⟨0,0,none⟩))],[7],XIg,XHT,2⟩)],4⟩
theorem XyR (XcL:Xeq) (hS:Xak Tryz.prog (XaD (Xzv XcL))) (s:List UInt8) (res:Int):∀ fuel (st:Int×Int) (o:Int),iter (fun st=>XhB XcL s st.1 st.2) fuel st=some o→(o=res) →
 XaG Tryz.prog 130 0 (Xkh s st.1 st.2) (fun v H _=>Res 0 (Xw5 res) v H):=by
 intro fuel st o h hc
 refine Xde (head:=fun st=>Xkh s st.1 st.2) (C:=fun o=>(o=res)) ?_ fuel st o h hc
 clear h hc o st fuel
 intro st o h hc
 obtain ⟨xat,n⟩:=st
 replace h:XhB XcL s xat n=some o:=h
 show XaG Tryz.prog 130 0 (Xkh s xat n) (fun v H _=>Res 0 (Xw5 res) v H)
 unfold XhB at h
 refine Xa6 XaE hS true 3000 ?_
 conv=>whnf
 refine br.h2 h (by rfl) ?_ ?_
 ·clear h;intro hb h;conv=>whnf
  exact W
 clear h;intro hb h;conv=>whnf
 replace h:=Xbh.elim h;obtain ⟨hb,h⟩:=h
 try (refine req.intro hb ?_;conv=>whnf)
 replace h:=Xdg.elim h;obtain ⟨b,hy,h⟩:=h
 refine rdS.intro hy ?_
 conv=>whnf
 let t:Int:=wI .i64 ((wI .i64 (b.toNat:Int))*2^8)
 let t1:Bool:=decide ((wI .i64 (xat+1))<(s.length:Int))
 refine br.h2 h (by rfl) ?_ ?_
 ·clear h;intro hb h;conv=>whnf
  replace h:=Xdg.elim h;obtain ⟨f1,hy,h⟩:=h
  refine Xg9.a (XBk hy) ?_
  conv=>whnf
  cases h;simp only [Sum.elim_inl,Xkh] at hc
  exact XFQ hc [(0,0),(1,1),(2,2),(3,3)] rfl
 clear h;intro hb h;conv=>whnf
 replace h:=Xbh.elim h;obtain ⟨hb,h⟩:=h
 try (refine req.intro hb ?_;conv=>whnf)
 replace h:=Xdg.elim h;obtain ⟨b1,hy,h⟩:=h
 refine rdS.intro hy ?_
 conv=>whnf
 let t2:Int:=wI .i64 (n+(Xlg .i64 t (wI .i64 (b1.toNat:Int))))
 replace h:=Xdg.elim h;obtain ⟨f,hy,h⟩:=h
 refine Xg9.a (XBk hy) ?_
 conv=>whnf
 cases h;simp only [Sum.elim_inl,Xkh] at hc
 exact XFQ hc [(0,0),(1,1),(2,2),(3,3)] rfl
theorem XGE (XcL:Xeq) (hS:Xak Tryz.prog (XaD (Xzv XcL))) (s:List UInt8) (res:Int) (h:Xme XcL s=some res) :
 XaG Tryz.prog 130 0 ⟨⟨130,13,[(0,.string ⟨⟨s⟩⟩)],[.code Xy8],[],false,none⟩,[],[],0⟩ (fun v H _=>Res 0 (Xw5 res) v H):=by
 unfold Xme at h
 refine Xa6 XaE hS true 3000 ?_
 conv=>whnf
 have hl:=XyR XcL hS _ res _ _ _ h rfl;simp only [Xkh] at hl
 exact XFQ hl [(0,0),(1,1),(2,2),(3,3)] rfl
def XcX:Xex:=Xme XcL
theorem XAn:XbM Tryz.prog 130 (s130 XcX):=by
 have hL:=XGE XcL (Xak.XaM ⟨XPk,trivial⟩)
 exact okA ⟨Tryz.f130,rfl,by decide,rfl⟩
end Go.Vm.Code
namespace Go.Vm.Code
open Go Go.Vm
def Xfj:List UInt8→Nat
 | []=>0
 | [b]=>b.toNat*256
 | b::c::l=>b.toNat*256+c.toNat+Xfj l
def norm (n:Nat):Nat:=if n=0 then 0 else (n - 1)%65535+1
theorem norm_eq {n r:Nat} (h1:r≤65535) (h2:r%65535=n%65535) (h3:r=0↔n=0):norm n=r:=by unfold norm;split<;>omega
theorem norm_le (n:Nat):norm n≤65535:=by unfold norm;split<;>omega
theorem Xmc (n:Nat):norm n%65535=n%65535:=by unfold norm;split<;>omega
theorem Xkn (n:Nat):norm n=0↔n=0:=by unfold norm;split<;>omega
theorem Xp5 {n:Nat} (h:n≤65535):norm n=n:=norm_eq h rfl Iff.rfl
theorem Xvq (a b:Nat):norm (norm a+b)=norm (a+b):=
 (norm_eq (norm_le _) (by have h1:=Xmc a;have h2:=Xmc (norm a+b);omega) (by have h1:=Xkn a;have h2:=Xkn (norm a+b);omega)).symm
theorem fold_eq {n:Int} (h0:0≤n) (h1:n<2^62):XcL n=some ((norm n.toNat:Nat):Int):=by
 unfold XcL XkM
 refine iter_eq (fun n=>((norm n.toNat:Nat):Int)) (fun n=>0≤n∧n<2^62) (fun n=>n.toNat) ?_ FUEL _ ⟨h0,h1⟩ (by rw [XgM];omega)
 intro s ⟨a,b⟩
 unfold Xig
 by_cases hs:s>65535
 ·refine .inr ⟨s%65536+s/65536,?_,⟨by omega,by omega⟩,by omega,?_⟩
  ·rw [XaP hs,Xjv (m:=65535) 16 (by decide) (by decide) a (by omega),XsS,XdT (by omega) (by omega)];rfl
  ·have:norm (s%65536+s/65536).toNat=norm s.toNat:=
    (norm_eq (norm_le _) (by have:=Xmc (s%65536+s/65536).toNat;omega) (by have:=Xkn (s%65536+s/65536).toNat;omega)).symm
   rw [this]
 ·refine .inl ?_
  rw [XaK hs]
  have:=Xp5 (n:=s.toNat) (by omega)
  simp only [this]
  rw [Int.toNat_of_nonneg a]
theorem XB8 {s:List UInt8} {i:Nat} (h:i+1<s.length):Xfj (s.drop i)=s[i].toNat*256+s[i+1].toNat+Xfj (s.drop (i+2)):=by
 rw [List.drop_eq_getElem_cons (by omega:i<s.length),List.drop_eq_getElem_cons h];rfl
theorem XCJ {s:List UInt8} {i:Nat} (h:i+1=s.length):Xfj (s.drop i)=s[i].toNat*256:=by
 rw [List.drop_eq_getElem_cons (by omega:i<s.length),List.drop_eq_nil_of_le (by omega)];rfl
theorem XsD {s:List UInt8} {i:Nat} (h:s.length≤i):Xfj (s.drop i)=0:=by
 rw [List.drop_eq_nil_of_le h];rfl
theorem XIU (s:List UInt8) (h:s.length<2^61):XcX s=some ((norm (Xfj s):Nat):Int):=by
 unfold XcX Xme
 have key:=iter_eq (step:=fun (st:Int×Int)=>XhB XcL s st.1 st.2) (fun (st:Int×Int)=>((norm (st.2.toNat+Xfj (s.drop st.1.toNat)):Nat):Int)) (fun (st:Int×Int)=>0≤st.1∧st.1≤s.length+1∧0≤st.2∧st.2≤65535) (fun (st:Int×Int)=>(s.length+2 - st.1).toNat) ?_ FUEL (0,0) ⟨by simp,by simp;omega,by simp,by simp⟩ (by rw [XgM];simp only;omega)
 ·rw [key];simp
 rintro ⟨p,n⟩ ⟨h1,h2,h3,h4⟩
 simp only at h1 h2 h3 h4 ⊢
 obtain ⟨i,rfl⟩:=Int.eq_ofNat_of_zero_le h1
 obtain ⟨m,rfl⟩:=Int.eq_ofNat_of_zero_le h3
 unfold XhB
 by_cases hp:i<s.length
 ·by_cases hq:i+1<s.length
  ·have b1:=s[i].toNat_lt
   have b2:=s[i+1].toNat_lt
   refine .inr ⟨(((i+2:Nat):Int),((norm (m+(s[i].toNat*256+s[i+1].toNat)):Nat):Int)),?_,⟨by simp only;omega,by simp only;omega,by simp only;omega,by simp only;have:=norm_le (m+(s[i].toNat*256+s[i+1].toNat));omega⟩,by simp only;omega,?_⟩
   ·simp (disch:=omega) only [XdT,Xar,XaP]
    have e:((i:Int)+1).toNat=i+1:=by omega
    rw [e]
    simp (disch:=omega) only [Int.toNat_natCast,List.getElem?_eq_getElem,Option.bind_some,Xrk,XdT,fold_eq]
    congr 3<;>omega
   ·simp only [Int.toNat_natCast]
    rw [Xvq,XB8 hq,Nat.add_assoc]
  ·have b1:=s[i].toNat_lt
   refine .inr ⟨(((i+2:Nat):Int),((norm (m+s[i].toNat*256):Nat):Int)),?_,⟨by simp only;omega,by simp only;omega,by simp only;omega,by simp only;have:=norm_le (m+s[i].toNat*256);omega⟩,by simp only;omega,?_⟩
   ·simp (disch:=omega) only [XdT,Xar,XaP,XaK,Int.toNat_natCast,List.getElem?_eq_getElem,Option.bind_some,fold_eq]
    congr 3<;>omega
   ·simp only [Int.toNat_natCast]
    rw [Xvq,XsD (i:=i+2) (by omega),Nat.add_zero,XCJ (i:=i) (by omega)]
 ·refine .inl ?_
  simp (disch:=omega) only [XaK]
  simp only [Int.toNat_natCast]
  rw [XsD (by omega),Nat.add_zero,Xp5 (by omega)]
theorem Xfl:∀ (a b:List UInt8),a.length%2=0→Xfj (a++b)=Xfj a+Xfj b
 | [],b,_=>by simp [Xfj]
 | [_],b,h=>by simp at h
 | x::y::a,b,h=>by
   have:=Xfl a b (by simp at h;omega)
   simp only [List.cons_append,Xfj,this];omega
end Go.Vm.Code
namespace Go.Vm
open Go
def be (n:Nat):Nat→List UInt8
 | 0=>[]
 | r+1=>UInt8.ofNat (n/256^r)::be n r
def Xfu (l:List UInt8):Nat:=l.foldl (fun n b=>n*256+b.toNat) 0
@[simp] theorem Xhd (n:Nat):∀ k,(be n k).length=k
 | 0=>rfl
 | k+1=>by simp [be,Xhd n k]
theorem XmJ (n:Nat):∀ k,be n (k+1)=be (n/256) k++[UInt8.ofNat n]
 | 0=>by simp [be]
 | k+1=>by
   rw [be,XmJ n k,be,Nat.div_div_eq_div_mul,Nat.pow_succ,Nat.mul_comm 256];rfl
theorem XqT (n:Nat):∀ k,be (n%256^k) k=be n k
 | 0=>rfl
 | k+1=>by
   rw [XmJ,XmJ,Nat.pow_succ,Nat.mul_comm,Nat.mod_mul_right_div_self,XqT (n/256) k]
   congr 2
   apply UInt8.toNat_inj.1
   simp only [UInt8.toNat_ofNat']
   rw [Nat.mod_mul_right_mod]
theorem XsX (l:List UInt8):∀ n:Nat,l.foldl (fun n b=>n*256+b.toNat) n=n*256^l.length+Xfu l:=by
 induction l with
 | nil=>intro n;simp [Xfu]
 | cons b l ih=>
   intro n
   rw [Xfu,List.foldl_cons,ih,List.foldl_cons,ih,List.length_cons,Nat.pow_succ]
   rw [Nat.zero_mul,Nat.zero_add,Nat.add_mul,Nat.mul_assoc,Nat.mul_comm (256^_) 256,Nat.add_assoc]
@[simp] theorem XPY:Xfu []=0:=rfl
theorem Xhj (b:UInt8) (l:List UInt8):Xfu (b::l)=b.toNat*256^l.length+Xfu l:=by
 rw [Xfu,List.foldl_cons,XsX];simp
theorem val_append (l m:List UInt8):Xfu (l++m)=Xfu l*256^m.length+Xfu m:=by
 rw [Xfu,List.foldl_append,XsX];rfl
theorem XHt (l:List UInt8) (b:UInt8):Xfu (l++[b])=Xfu l*256+b.toNat:=by
 rw [val_append];simp [Xhj]
theorem Xs3:∀ l:List UInt8,Xfu l<256^l.length
 | []=>by simp
 | b::l=>by
   have h:=Xs3 l
   have hb:=b.toNat_lt
   rw [Xhj,List.length_cons,Nat.pow_succ]
   have:b.toNat*256^l.length+256^l.length≤256*256^l.length:=by
    rw [←Nat.succ_mul];exact Nat.mul_le_mul_right _ (by omega)
   rw [Nat.mul_comm (256^l.length)];omega
theorem Xtq (n:Nat):∀ k,Xfu (be n k)=n%256^k
 | 0=>by simp [be,Nat.mod_one]
 | k+1=>by
   have e:n%256^(k+1)=n%256+256*(n/256%256^k):=by rw [Nat.pow_succ',Nat.mod_mul]
   rw [XmJ,XHt,Xtq (n/256) k,UInt8.toNat_ofNat',e]
   generalize n/256%256^k=x
   omega
theorem Xhf {n k:Nat} (h:n<256^k):Xfu (be n k)=n:=by rw [Xtq,Nat.mod_eq_of_lt h]
theorem XID:∀ l:List UInt8,be (Xfu l) l.length=l
 | []=>rfl
 | b::l=>by
   have h:=Xs3 l
   rw [List.length_cons,be]
   have e1:Xfu (b::l)/256^l.length=b.toNat:=by
    rw [Xhj,Nat.mul_comm,Nat.mul_add_div (Nat.pow_pos (by decide)),Nat.div_eq_of_lt h,Nat.add_zero]
   have e2:be (Xfu (b::l)) l.length=be (Xfu l) l.length:=by
    rw [←XqT (Xfu (b::l)),Xhj,Nat.mul_add_mod',XqT]
   rw [e1,e2,XID l]
   simp
theorem XPW {l:List UInt8} {k:Nat} (h:l.length=k):be (Xfu l) k=l:=by subst h;exact XID l
theorem be_of {l:List UInt8} {n k:Nat} (h:l.length=k) (hv:Xfu l=n):be n k=l:=by subst hv;exact XPW h
theorem Xfn {l:List UInt8} {k:Nat} (n:Nat) (h:256^k≤n):Xfu (l.take k)<n:=by
 have h1:=Xs3 (l.take k)
 have h2:(l.take k).length≤k:=List.length_take_le _ _
 exact Nat.lt_of_lt_of_le h1 (Nat.le_trans (Nat.pow_le_pow_right (by decide) h2) h)
theorem Xo6 (n:Nat) (j:Nat):∀ k,be n (j+k)=be (n/256^k) j++be n k
 | 0=>by simp [be]
 | k+1=>by
   rw [show j+(k+1)=(j+k)+1 from rfl,XmJ,Xo6 (n/256) j k,XmJ n k,Nat.div_div_eq_div_mul,Nat.pow_succ,Nat.mul_comm (256^k),List.append_assoc]
end Go.Vm
namespace Go.Vm.Code
open Go Go.Vm Go.Proofs
set_option maxRecDepth 100000
set_option maxHeartbeats 4000000
set_option linter.unusedVariables false
def XhL (n:Int) (k:Int) (t17:Int) (b:List Int):Option (Sum (Int×(List Int)) (List UInt8)):=
 cond (decide (t17<(k.toNat:Int)))
  (
  let t:=wI .i64 (8*(wI .i64 ((wI .i64 (k - 1)) - t17)))
  Xbh (decide (0≤t)) <|
  Xbh (decide ((0:Int)≤t17∧t17<(k.toNat:Int))) <|
  Xbh (decide (t17.toNat<b.length)) <|
  let row:=b.set t17.toNat (wI .u8 (n.fdiv (2^(min t.toNat 64))))
  some (.inl (wI .i64 (t17+1),row)))
  (
  Xbh (decide (k.toNat≤b.length)) <|
  some (.inr (iB (b.take k.toNat))))
def Xl7 (n:Int) (k:Int):Option (List UInt8):=
 cond (decide (k<1))
  (
  some ([]))
  (
  cond (decide (k>8))
   (
   some ([]))
   (
   Xbh (decide (0≤k∧k≤k∧k<2^63∧(1:Int)*k≤2^48)) <|
   iter (fun st=>XhL n k st.1 st.2) FUEL (0,List.replicate k.toNat (0))))
def XQk (x:List UInt8):XcU:=⟨.string ⟨⟨x⟩⟩,[],[]⟩
abbrev XaR:=Int→Int→Option (List UInt8)
def r97 (g:XaR):Dec:=dV (asI .u64) fun (y0:Int)=>dV (asI .i64) fun (y1:Int)=>XdX (ofG (g y0 y1) XQk)
theorem r97_c {g:XaR} {y0:Int} {y1:Int} {x:List UInt8} (hx:g y0 y1=some x):r97 g [.int .u64 y0,.int .i64 y1] []=some (XQk x):=(XaS (XeL _)).trans ((XaS (XeL _)).trans (XaQ hx))
def s97 (g:XaR):XbE:=⟨[.v,.v],r97 g⟩
theorem Xlb {g:XaR} {y0:Int} {y1:Int} {x:List UInt8} (hx:g y0 y1=some x):(s97 g).run [.int .u64 y0,.int .i64 y1] []=some (XQk x):=r97_c hx
abbrev XIA:List (Nat×XbE):=[]
def Xm9 (n:Int) (k:Int) (t17:Int) (b:List Int):VM:=
 ⟨⟨97,34,[(0,.int .u64 n),(1,.int .i64 k),(5,.slice (some ⟨0,0,none⟩) k.toNat 1),(16,.int .i64 (k.toNat:Int)),(17,.int .i64 t17)],[.code XxK,.inLoop XxK,.inBlock 0,.code XI6],[],false,none⟩,[],[(0,.row true (vI .u8 b))],1⟩
theorem XEB (hS:Xak Tryz.prog (XaD (XIA))) (n:Int) (k:Int) (res:List UInt8):∀ fuel (st:Int×(List Int)) (o:List UInt8),iter (fun st=>XhL n k st.1 st.2) fuel st=some o→(o=res) →
 XaG Tryz.prog 97 0 (Xm9 n k st.1 st.2) (fun v H _=>Res 0 (XQk res) v H):=by
 intro fuel st o h hc
 refine Xde (head:=fun st=>Xm9 n k st.1 st.2) (C:=fun o=>(o=res)) ?_ fuel st o h hc
 clear h hc o st fuel
 intro st o h hc
 obtain ⟨t17,b⟩:=st
 replace h:XhL n k t17 b=some o:=h
 show XaG Tryz.prog 97 0 (Xm9 n k t17 b) (fun v H _=>Res 0 (XQk res) v H)
 unfold XhL at h
 refine Xa6 XaE hS true 3000 ?_
 conv=>whnf
 refine br.h2 h (by rfl) ?_ ?_
 ·clear h;intro hb h;conv=>whnf
  replace h:=Xbh.elim h;obtain ⟨hb,h⟩:=h
  refine req.intro (by (first|rfl|(simp [wI,vI,vB,vS,bI,Xij,Xe2,XaX,Value.cells] at *;omega)|(simp [vI,vB,vS,bI,Xij,Xe2,XaX,Value.cells] at *;omega)|(simp [vI,vB,vS,bI,Xij,Xe2,XaX,Value.cells] at *;done))) ?_
  conv=>whnf
  refine XUn ?_
  conv=>whnf
  exact W
 clear h;intro hb h;conv=>whnf
 let t:Int:=wI .i64 (8*(wI .i64 ((wI .i64 (k - 1)) - t17)))
 replace h:=Xbh.elim h;obtain ⟨hb,h⟩:=h
 try (refine req.intro hb ?_;conv=>whnf)
 replace h:=Xbh.elim h;obtain ⟨hb,h⟩:=h
 try (refine req.intro hb ?_;conv=>whnf)
 replace h:=Xbh.elim h;obtain ⟨hb,h⟩:=h
 refine st_I hb (by first|rfl|(rw [Nat.zero_add,Nat.mul_one];try rfl;done)|omega) ?_
 conv=>whnf
 let row:List Int:=b.set t17.toNat (wI .u8 (n.fdiv (2^(min t.toNat 64))))
 cases h;simp only [Sum.elim_inl,Xm9] at hc
 exact Xmp hc [(0,0)] rfl
theorem XMS (hS:Xak Tryz.prog (XaD (XIA))) (n:Int) (k:Int) (res:List UInt8) (h:Xl7 n k=some res) :
 XaG Tryz.prog 97 0 ⟨⟨97,34,[(0,.int .u64 n),(1,.int .i64 k)],[.code XH1],[],false,none⟩,[],[],0⟩ (fun v H _=>Res 0 (XQk res) v H):=by
 unfold Xl7 at h
 refine Xa6 XaE hS true 3000 ?_
 conv=>whnf
 refine br.h h (by rfl) ?_ ?_
 ·clear h;intro hb h;conv=>whnf
  exact W
 clear h;intro hb h;conv=>whnf
 refine br.h h (by rfl) ?_ ?_
 ·clear h;intro hb h;conv=>whnf
  exact W
 clear h;intro hb h;conv=>whnf
 replace h:=Xbh.elim h;obtain ⟨hb,h⟩:=h
 try (refine req.intro hb ?_;conv=>whnf)
 refine XQQ ?_
 conv=>whnf
 have hl:=XEB hS _ _ res _ _ _ h rfl;simp only [Xm9] at hl
 exact Xmp hl [(0,0)] rfl
def Xaj:XaR:=Xl7
theorem Xnh:XbM Tryz.prog 97 (s97 Xaj):=by
 have hL:=XMS (Xak.XaM trivial)
 exact okA ⟨Tryz.f97,rfl,by decide,rfl⟩
def XhG (t1:List UInt8) (n:Int) (t37:Int):Option (Sum (Int×Int) (Int×Bool)):=
 cond (decide (t37<(t1.length:Int)))
  (
  Xbh (decide ((0:Int)≤t37∧t37<(t1.length:Int))) <|
  ((bI t1)[t37.toNat]?).bind fun (e:Int)=>
  let t2:=Xlg .u64 (wI .u64 (n*2^8)) (wI .u64 e)
  some (.inl (t2,wI .i64 (t37+1))))
  (
  some (.inr ((n,true))))
def Xmf (s:List UInt8) (ata1:Int) (k:Int):Option (Int×Bool):=
 cond (decide (k<1))
  (
  some ((0,false)))
  (
  cond (decide (k>8))
   (
   some ((0,false)))
   (
   cond (decide (ata1<0))
    (
    some ((0,false)))
    (
    let t:=decide ((wI .i64 ((s.length:Int) - k))<ata1)
    cond (t)
     (
     some ((0,false)))
     (
     Xbh (decide ((0:Int)≤(wI .i64 (ata1+k))∧(wI .i64 (ata1+k))≤(s.length:Int)∧(0:Int)≤ata1∧ata1≤((wI .i64 (ata1+k)).toNat:Int))) <|
     let t1:=(s.drop ata1.toNat).take ((wI .i64 (ata1+k)).toNat - ata1.toNat)
     iter (fun st=>XhG t1 st.1 st.2) FUEL (0,0)))))
def XQn (x:Int×Bool):XcU:=⟨.tuple ⟨[.int .u64 x.1,.bool x.2]⟩,[],[]⟩
abbrev XcO:=(List UInt8)→Int→Int→Option (Int×Bool)
def r95 (g:XcO):Dec:=dV asS fun (y0:List UInt8)=>dV (asI .i64) fun (y1:Int)=>dV (asI .i64) fun (y2:Int)=>XdX (ofG (g y0 y1 y2) XQn)
theorem r95_c {g:XcO} {y0:List UInt8} {y1:Int} {y2:Int} {x:Int×Bool} (hx:g y0 y1 y2=some x):r95 g [.string ⟨⟨y0⟩⟩,.int .i64 y1,.int .i64 y2] []=some (XQn x):=(XaS (Xd4)).trans ((XaS (XeL _)).trans ((XaS (XeL _)).trans (XaQ hx)))
def s95 (g:XcO):XbE:=⟨[.v,.v,.v],r95 g⟩
theorem XAN {g:XcO} {y0:List UInt8} {y1:Int} {y2:Int} {x:Int×Bool} (hx:g y0 y1 y2=some x):(s95 g).run [.string ⟨⟨y0⟩⟩,.int .i64 y1,.int .i64 y2] []=some (XQn x):=r95_c hx
abbrev XH0:List (Nat×XbE):=[]
def Xnq (t1:List UInt8) (n:Int) (t37:Int):VM:=
 ⟨⟨95,48,[(8,.int .u64 n),(35,.slice (some ⟨0,0,none⟩) t1.length 1),(36,.int .i64 (t1.length:Int)),(37,.int .i64 t37)],[.code Xyc,.inLoop Xyc,.inBlock 0,.code XJo],[],false,none⟩,[],[(0,.row true (vI .u8 (bI t1)))],1⟩
theorem XDO (hS:Xak Tryz.prog (XaD (XH0))) (t1:List UInt8) (res:Int×Bool):∀ fuel (st:Int×Int) (o:Int×Bool),iter (fun st=>XhG t1 st.1 st.2) fuel st=some o→(o=res) →
 XaG Tryz.prog 95 0 (Xnq t1 st.1 st.2) (fun v H _=>Res 0 (XQn res) v H):=by
 intro fuel st o h hc
 refine Xde (head:=fun st=>Xnq t1 st.1 st.2) (C:=fun o=>(o=res)) ?_ fuel st o h hc
 clear h hc o st fuel
 intro st o h hc
 obtain ⟨n,t37⟩:=st
 replace h:XhG t1 n t37=some o:=h
 show XaG Tryz.prog 95 0 (Xnq t1 n t37) (fun v H _=>Res 0 (XQn res) v H)
 unfold XhG at h
 refine Xa6 XaE hS true 3000 ?_
 conv=>whnf
 refine br.h2 h (by rfl) ?_ ?_
 ·clear h;intro hb h;conv=>whnf
  exact W
 clear h;intro hb h;conv=>whnf
 replace h:=Xbh.elim h;obtain ⟨hb,h⟩:=h
 try (refine req.intro hb ?_;conv=>whnf)
 replace h:=Xdg.elim h;obtain ⟨e,hy,h⟩:=h
 refine rd.I hy (by first|rfl|(rw [Nat.zero_add,Nat.mul_one];try rfl;done)|omega) ?_
 conv=>whnf
 let t2:Int:=Xlg .u64 (wI .u64 (n*2^8)) (wI .u64 e)
 cases h;simp only [Sum.elim_inl,Xnq] at hc
 exact Xmp hc [(0,0)] rfl
theorem XOH (hS:Xak Tryz.prog (XaD (XH0))) (s:List UInt8) (ata1:Int) (k:Int) (res:Int×Bool) (h:Xmf s ata1 k=some res) :
 XaG Tryz.prog 95 0 ⟨⟨95,48,[(0,.string ⟨⟨s⟩⟩),(1,.int .i64 ata1),(2,.int .i64 k)],[.code XIr],[],false,none⟩,[],[],0⟩ (fun v H _=>Res 0 (XQn res) v H):=by
 unfold Xmf at h
 refine Xa6 XaE hS true 3000 ?_
 conv=>whnf
 refine br.h h (by rfl) ?_ ?_
 ·clear h;intro hb h;conv=>whnf
  exact W
 clear h;intro hb h;conv=>whnf
 refine br.h h (by rfl) ?_ ?_
 ·clear h;intro hb h;conv=>whnf
  exact W
 clear h;intro hb h;conv=>whnf
 refine br.h h (by rfl) ?_ ?_
 ·clear h;intro hb h;conv=>whnf
  exact W
 clear h;intro hb h;conv=>whnf
 let t:Bool:=decide ((wI .i64 ((s.length:Int) - k))<ata1)
 refine br.h h (by rfl) ?_ ?_
 ·clear h;intro hb h;conv=>whnf
  exact W
 clear h;intro hb h;conv=>whnf
 replace h:=Xbh.elim h;obtain ⟨hb,h⟩:=h
 try (refine req.intro hb ?_;conv=>whnf)
 let t1:List UInt8:=(s.drop ata1.toNat).take ((wI .i64 (ata1+k)).toNat - ata1.toNat)
 refine XWi ?_
 conv=>whnf
 have hl:=XDO hS _ res _ _ _ h rfl;simp only [Xnq] at hl
 exact Xmp hl [(0,0)] rfl
def Xbf:XcO:=Xmf
theorem Xx6:XbM Tryz.prog 95 (s95 Xbf):=by
 have hL:=XOH (Xak.XaM trivial)
 exact okA ⟨Tryz.f95,rfl,by decide,rfl⟩
def XhN (k:Int) (n1:Int) (s:List UInt8) (i:Int):Option (Sum (Int×(List UInt8)×Int) (List UInt8)):=
 cond (decide (i<k))
  (
  cond (decide (k≤8))
   (
   let t:=[UInt8.ofNat (wI .u8 (n1.tmod 256)).toNat]
   Xbh (decide (t.length+s.length<2^63)) <|
   some (.inl (wI .u64 (n1.tdiv 256),t++s,wI .i64 (i+1))))
   (
   some (.inr (s))))
  (
  some (.inr (s)))
def Xo8 (n:Int) (k:Int):Option (List UInt8):=
 iter (fun st=>XhN k st.1 st.2.1 st.2.2) FUEL (n,[],0)
def XQh (x:List UInt8):XcU:=⟨.string ⟨⟨x⟩⟩,[],[]⟩
abbrev Xcn:=Int→Int→Option (List UInt8)
def r63 (g:Xcn):Dec:=dV (asI .u64) fun (y0:Int)=>dV (asI .i64) fun (y1:Int)=>XdX (ofG (g y0 y1) XQh)
theorem r63_c {g:Xcn} {y0:Int} {y1:Int} {x:List UInt8} (hx:g y0 y1=some x):r63 g [.int .u64 y0,.int .i64 y1] []=some (XQh x):=(XaS (XeL _)).trans ((XaS (XeL _)).trans (XaQ hx))
def s63 (g:Xcn):XbE:=⟨[.v,.v],r63 g⟩
theorem Xq0 {g:Xcn} {y0:Int} {y1:Int} {x:List UInt8} (hx:g y0 y1=some x):(s63 g).run [.int .u64 y0,.int .i64 y1] []=some (XQh x):=r63_c hx
abbrev XJy:List (Nat×XbE):=[]
def Xng (k:Int) (n1:Int) (s:List UInt8) (i:Int):VM:=
 ⟨⟨63,26,[(0,.int .u64 n1),(1,.int .i64 k),(5,.string ⟨⟨s⟩⟩),(6,.int .i64 i)],[.code Xzg,.inLoop Xzg,.inBlock 0,.code XH5],[],false,none⟩,[],[],0⟩
theorem XEs (hS:Xak Tryz.prog (XaD (XJy))) (k:Int) (res:List UInt8):∀ fuel (st:Int×(List UInt8)×Int) (o:List UInt8),iter (fun st=>XhN k st.1 st.2.1 st.2.2) fuel st=some o→(o=res) →
 XaG Tryz.prog 63 0 (Xng k st.1 st.2.1 st.2.2) (fun v H _=>Res 0 (XQh res) v H):=by
 intro fuel st o h hc
 refine Xde (head:=fun st=>Xng k st.1 st.2.1 st.2.2) (C:=fun o=>(o=res)) ?_ fuel st o h hc
 clear h hc o st fuel
 intro st o h hc
 obtain ⟨n1,s,i⟩:=st
 replace h:XhN k n1 s i=some o:=h
 show XaG Tryz.prog 63 0 (Xng k n1 s i) (fun v H _=>Res 0 (XQh res) v H)
 unfold XhN at h
 refine Xa6 XaE hS true 3000 ?_
 conv=>whnf
 refine br.h2 h (by rfl) ?_ ?_
 ·clear h;intro hb h;conv=>whnf
  exact W
 clear h;intro hb h;conv=>whnf
 refine br.h2 h (by rfl) ?_ ?_
 ·clear h;intro hb h;conv=>whnf
  exact W
 clear h;intro hb h;conv=>whnf
 refine XPE rfl ?_
 conv=>whnf
 let t:List UInt8:=[UInt8.ofNat (wI .u8 (n1.tmod 256)).toNat]
 replace h:=Xbh.elim h;obtain ⟨hb,h⟩:=h
 try (refine req.intro hb ?_;conv=>whnf)
 cases h;simp only [Sum.elim_inl,Xng] at hc
 exact Xmp hc [] rfl
theorem XOc (hS:Xak Tryz.prog (XaD (XJy))) (n:Int) (k:Int) (res:List UInt8) (h:Xo8 n k=some res) :
 XaG Tryz.prog 63 0 ⟨⟨63,26,[(0,.int .u64 n),(1,.int .i64 k)],[.code XII],[],false,none⟩,[],[],0⟩ (fun v H _=>Res 0 (XQh res) v H):=by
 unfold Xo8 at h
 refine Xa6 XaE hS true 3000 ?_
 conv=>whnf
 have hl:=XEs hS _ res _ _ _ h rfl;simp only [Xng] at hl
 exact Xmp hl [] rfl
def Xa4:Xcn:=Xo8
theorem Xrg:XbM Tryz.prog 63 (s63 Xa4):=by
 have hL:=XOc (Xak.XaM trivial)
 exact okA ⟨Tryz.f63,rfl,by decide,rfl⟩
def Xjs (s:List UInt8) (ata1:Int) (k:Int) (n:Int) (i:Int):Option (Sum (Int×Int) (Int×Bool)):=
 cond (decide (i<k))
  (
  Xbh (decide (0≤(wI .i64 (ata1+i)))) <|
  (s[(wI .i64 (ata1+i)).toNat]?).bind fun (b:UInt8)=>
  let t1:=wI .u64 ((wI .u64 (n*256))+(wI .u64 (b.toNat:Int)))
  some (.inl (t1,wI .i64 (i+1))))
  (
  some (.inr ((n,true))))
def Xpl (s:List UInt8) (ata1:Int) (k:Int):Option (Int×Bool):=
 cond (decide (k<1))
  (
  some ((0,false)))
  (
  cond (decide (k>8))
   (
   some ((0,false)))
   (
   cond (decide (ata1<0))
    (
    some ((0,false)))
    (
    cond (decide (ata1>(s.length:Int)))
     (
     some ((0,false)))
     (
     let t:=decide (k>(wI .i64 ((s.length:Int) - ata1)))
     cond (t)
      (
      some ((0,false)))
      (
      iter (fun st=>Xjs s ata1 k st.1 st.2) FUEL (0,0))))))
def XQm (x:Int×Bool):XcU:=⟨.tuple ⟨[.int .u64 x.1,.bool x.2]⟩,[],[]⟩
abbrev XeG:=(List UInt8)→Int→Int→Option (Int×Bool)
def r87 (g:XeG):Dec:=dV asS fun (y0:List UInt8)=>dV (asI .i64) fun (y1:Int)=>dV (asI .i64) fun (y2:Int)=>XdX (ofG (g y0 y1 y2) XQm)
theorem r87_c {g:XeG} {y0:List UInt8} {y1:Int} {y2:Int} {x:Int×Bool} (hx:g y0 y1 y2=some x):r87 g [.string ⟨⟨y0⟩⟩,.int .i64 y1,.int .i64 y2] []=some (XQm x):=(XaS (Xd4)).trans ((XaS (XeL _)).trans ((XaS (XeL _)).trans (XaQ hx)))
def s87 (g:XeG):XbE:=⟨[.v,.v,.v],r87 g⟩
theorem XzU {g:XeG} {y0:List UInt8} {y1:Int} {y2:Int} {x:Int×Bool} (hx:g y0 y1 y2=some x):(s87 g).run [.string ⟨⟨y0⟩⟩,.int .i64 y1,.int .i64 y2] []=some (XQm x):=r87_c hx
abbrev XIK:List (Nat×XbE):=[]
def Xnt (s:List UInt8) (ata1:Int) (k:Int) (n:Int) (i:Int):VM:=
 ⟨⟨87,49,[(0,.string ⟨⟨s⟩⟩),(1,.int .i64 ata1),(2,.int .i64 k),(8,.int .u64 n),(9,.int .i64 i)],[.code XzT,.inLoop XzT,.inBlock 0,.code XHS],[],false,none⟩,[],[],0⟩
theorem XFk (hS:Xak Tryz.prog (XaD (XIK))) (s:List UInt8) (ata1:Int) (k:Int) (res:Int×Bool):∀ fuel (st:Int×Int) (o:Int×Bool),iter (fun st=>Xjs s ata1 k st.1 st.2) fuel st=some o→(o=res) →
 XaG Tryz.prog 87 0 (Xnt s ata1 k st.1 st.2) (fun v H _=>Res 0 (XQm res) v H):=by
 intro fuel st o h hc
 refine Xde (head:=fun st=>Xnt s ata1 k st.1 st.2) (C:=fun o=>(o=res)) ?_ fuel st o h hc
 clear h hc o st fuel
 intro st o h hc
 obtain ⟨n,i⟩:=st
 replace h:Xjs s ata1 k n i=some o:=h
 show XaG Tryz.prog 87 0 (Xnt s ata1 k n i) (fun v H _=>Res 0 (XQm res) v H)
 unfold Xjs at h
 refine Xa6 XaE hS true 3000 ?_
 conv=>whnf
 refine br.h2 h (by rfl) ?_ ?_
 ·clear h;intro hb h;conv=>whnf
  exact W
 clear h;intro hb h;conv=>whnf
 replace h:=Xbh.elim h;obtain ⟨hb,h⟩:=h
 try (refine req.intro hb ?_;conv=>whnf)
 replace h:=Xdg.elim h;obtain ⟨b,hy,h⟩:=h
 refine rdS.intro hy ?_
 conv=>whnf
 let t1:Int:=wI .u64 ((wI .u64 (n*256))+(wI .u64 (b.toNat:Int)))
 cases h;simp only [Sum.elim_inl,Xnt] at hc
 exact Xmp hc [] rfl
theorem XNq (hS:Xak Tryz.prog (XaD (XIK))) (s:List UInt8) (ata1:Int) (k:Int) (res:Int×Bool) (h:Xpl s ata1 k=some res) :
 XaG Tryz.prog 87 0 ⟨⟨87,49,[(0,.string ⟨⟨s⟩⟩),(1,.int .i64 ata1),(2,.int .i64 k)],[.code XJg],[],false,none⟩,[],[],0⟩ (fun v H _=>Res 0 (XQm res) v H):=by
 unfold Xpl at h
 refine Xa6 XaE hS true 3000 ?_
 conv=>whnf
 refine br.h h (by rfl) ?_ ?_
 ·clear h;intro hb h;conv=>whnf
  exact W
 clear h;intro hb h;conv=>whnf
 refine br.h h (by rfl) ?_ ?_
 ·clear h;intro hb h;conv=>whnf
  exact W
 clear h;intro hb h;conv=>whnf
 refine br.h h (by rfl) ?_ ?_
 ·clear h;intro hb h;conv=>whnf
  exact W
 clear h;intro hb h;conv=>whnf
 refine br.h h (by rfl) ?_ ?_
 ·clear h;intro hb h;conv=>whnf
  exact W
 clear h;intro hb h;conv=>whnf
 let t:Bool:=decide (k>(wI .i64 ((s.length:Int) - ata1)))
 refine br.h h (by rfl) ?_ ?_
 ·clear h;intro hb h;conv=>whnf
  exact W
 clear h;intro hb h;conv=>whnf
 have hl:=XFk hS _ _ _ res _ _ _ h rfl;simp only [Xnt] at hl
 exact Xmp hl [] rfl
def Xc0:XeG:=Xpl
theorem Xya:XbM Tryz.prog 87 (s87 Xc0):=by
 have hL:=XNq (Xak.XaM trivial)
 exact okA ⟨Tryz.f87,rfl,by decide,rfl⟩
def Xny (Xc0:XeG) (s:List UInt8) (ata1:Int) (k:Int):Option Int:=
 (Xc0 s ata1 k).bind fun xg=>
 some (wI .i64 xg.1)
def rx88 (x:Int):XcU:=⟨.int .i64 x,[],[]⟩
abbrev XbC:=(List UInt8)→Int→Int→Option Int
def r88 (g:XbC):Dec:=dV asS fun (y0:List UInt8)=>dV (asI .i64) fun (y1:Int)=>dV (asI .i64) fun (y2:Int)=>XdX (ofG (g y0 y1 y2) rx88)
theorem r88_c {g:XbC} {y0:List UInt8} {y1:Int} {y2:Int} {x:Int} (hx:g y0 y1 y2=some x):r88 g [.string ⟨⟨y0⟩⟩,.int .i64 y1,.int .i64 y2] []=some (rx88 x):=(XaS (Xd4)).trans ((XaS (XeL _)).trans ((XaS (XeL _)).trans (XaQ hx)))
def s88 (g:XbC):XbE:=⟨[.v,.v,.v],r88 g⟩
theorem XoK {g:XbC} {y0:List UInt8} {y1:Int} {y2:Int} {x:Int} (hx:g y0 y1 y2=some x):(s88 g).run [.string ⟨⟨y0⟩⟩,.int .i64 y1,.int .i64 y2] []=some (rx88 x):=r88_c hx
abbrev XQP (Xc0:XeG):List (Nat×XbE):=[(87,s87 Xc0)]
theorem XP4 (Xc0:XeG) (hS:Xak Tryz.prog (XaD (XQP Xc0))) (s:List UInt8) (ata1:Int) (k:Int) (res:Int) (h:Xny Xc0 s ata1 k=some res) :
 XaG Tryz.prog 88 0 ⟨⟨88,18,[(0,.string ⟨⟨s⟩⟩),(1,.int .i64 ata1),(2,.int .i64 k)],[.code XT1],[],false,none⟩,[],[],0⟩ (fun v H _=>Res 0 (rx88 res) v H):=by
 unfold Xny at h
 have R1:=@XzU Xc0
 refine Xa6 XaE hS true 3000 ?_
 conv=>whnf
 exact W
def Xao:XbC:=Xny Xc0
theorem Xql:XbM Tryz.prog 88 (s88 Xao):=by
 have hL:=XP4 Xc0 (Xak.XaM ⟨Xya,trivial⟩)
 exact okA ⟨Tryz.f88,rfl,by decide,rfl⟩
end Go.Vm.Code
namespace Go.Vm.Code
open Go Go.Vm
def XcF (n k:Int):List UInt8:=if 1≤k∧k≤8 then be n.toNat k.toNat else []
theorem Xbu {n k:Int} (h0:0≤n):Xaj n k=some (XcF n k):=by
 unfold Xaj Xl7 XcF
 by_cases h1:k<1
 ·rw [XaP h1,if_neg (by omega)]
 by_cases h2:k>8
 ·rw [XaK h1,XaP h2,if_neg (by omega)]
 rw [XaK h1,XaK h2,Xar (by omega),if_pos (by omega)]
 obtain ⟨m,rfl⟩:=Int.eq_ofNat_of_zero_le h0
 obtain ⟨j,rfl⟩:=Int.eq_ofNat_of_zero_le (show 0≤k by omega)
 have key:=iter_eq (step:=fun (st:Int×List Int)=>XhL (m:Int) (j:Int) st.1 st.2) (fun st=>iB (st.2.take st.1.toNat)++be m (j - st.1.toNat)) (fun st=>0≤st.1∧st.1≤j∧st.2.length=j) (fun st=>(j - st.1).toNat) ?_ FUEL (0,List.replicate (j:Int).toNat 0) ⟨by simp,by simp,by simp⟩ (by rw [XgM];simp only;omega)
 ·rw [key];simp [iB]
 rintro ⟨p,b⟩ ⟨g1,g2,g3⟩
 simp only at g1 g2 g3 ⊢
 obtain ⟨i,rfl⟩:=Int.eq_ofNat_of_zero_le g1
 unfold XhL
 by_cases hp:i<j
 ·refine .inr ⟨(((i+1:Nat):Int),b.set i ((m/256^(j - 1 - i)%256:Nat):Int)),?_,⟨by simp only;omega,by simp only;omega,by simp [g3]⟩,by simp only;omega,?_⟩
  ·simp (disch:=omega) only [XdT,Xar,XaP,Int.toNat_natCast]
   have e1:min (8*((j:Int) - 1 - i)).toNat 64=8*(j - 1 - i):=by omega
   have e0:(2:Int)^(8*(j - 1 - i))=((256^(j - 1 - i):Nat):Int):=by rw [show (256:Nat)=2^8 from rfl,←Nat.pow_mul];push_cast;rfl
   rw [e1,XsS,wU8m,e0]
   rfl
  ·simp only [Int.toNat_natCast]
   have e2:j - i=(j - (i+1))+1:=by omega
   have e3:j - (i+1)=j - 1 - i:=by omega
   have e4:(b.set i ((m/256^(j - 1 - i)%256:Nat):Int)).take (i+1)=b.take i++[((m/256^(j - 1 - i)%256:Nat):Int)]:=by
    rw [List.take_succ_eq_append_getElem (by simp;omega),List.take_set_of_le (Nat.le_refl _),List.getElem_set_self]
   rw [e2,e4,be,e3]
   simp only [iB,List.map_append,List.map_cons,List.map_nil,List.append_assoc,List.cons_append,List.nil_append,Int.toNat_natCast]
   congr 2
   apply UInt8.toNat_inj.1
   simp
 ·refine .inl ?_
  obtain rfl:i=j:=by omega
  simp (disch:=omega) only [XaK,Xar,Int.toNat_natCast]
  simp [be]
theorem Xdb {n k:Int} (h0:0≤n) (h1:n<2^64):Xa4 n k=some (XcF n k):=by
 unfold Xa4 Xo8 XcF
 obtain ⟨m,rfl⟩:=Int.eq_ofNat_of_zero_le h0
 by_cases hk:1≤k∧k≤8
 ·rw [if_pos hk]
  obtain ⟨j,rfl⟩:=Int.eq_ofNat_of_zero_le (show 0≤k by omega)
  have key:=iter_eq (step:=fun st=>XhN (j:Int) st.1 st.2.1 st.2.2) (fun st=>be st.1.toNat (j - st.2.2.toNat)++st.2.1) (fun st=>0≤st.1∧st.1<2^64∧0≤st.2.2∧st.2.2≤j∧st.2.1.length<2^20+st.2.2.toNat) (fun st=>(j - st.2.2).toNat) ?_ FUEL ((m:Int),[],0) ⟨by simp,by simp only;omega,by simp,by simp,by simp⟩ (by rw [XgM];simp only;omega)
  ·rw [key];simp
  rintro ⟨n,s,p⟩ ⟨g1,g2,g3,g4,g5⟩
  simp only at g1 g2 g3 g4 g5 ⊢
  obtain ⟨i,rfl⟩:=Int.eq_ofNat_of_zero_le g3
  obtain ⟨x,rfl⟩:=Int.eq_ofNat_of_zero_le g1
  unfold XhN
  by_cases hp:i<j
  ·refine .inr ⟨(((x/256:Nat):Int),UInt8.ofNat x::s,((i+1:Nat):Int)),?_,⟨by simp only;omega,by simp only;omega,by simp only;omega,by simp only;omega,by simp at g5 ⊢;omega⟩,by simp only;omega,?_⟩
   ·have e1:(x:Int).tmod 256=((x%256:Nat):Int):=by rw [Int.tmod_eq_emod_of_nonneg (by omega)];rfl
    have e2:(x:Int).tdiv 256=((x/256:Nat):Int):=by rw [Int.tdiv_eq_ediv_of_nonneg (by omega)];rfl
    rw [XaP (by omega),XaP (by omega),e1,e2,wU8 (by omega) (by omega)]
    simp only [List.length_cons,List.length_nil]
    rw [Xar (by omega),XfY (by omega) (by omega),XdT (by omega) (by omega),Int.toNat_natCast]
    have e3:UInt8.ofNat (x%256)=UInt8.ofNat x:=by apply UInt8.toNat_inj.1;simp
    rw [e3];rfl
   ·simp only [Int.toNat_natCast]
    have e2:j - i=(j - (i+1))+1:=by omega
    rw [e2,XmJ];simp
  ·refine .inl ?_
   obtain rfl:i=j:=by omega
   rw [XaK (by omega)]
   simp [be]
 ·rw [if_neg hk]
  show iter _ (18446744073709551615+1) _=_
  rw [iter]
  have:XhN k (m:Int) [] 0=some (.inr []):=by
   unfold XhN
   by_cases h2:0<k
   ·rw [XaP h2,XaK (by omega)]
   ·rw [XaK h2]
  simp only [this]
def Xxp (s:List UInt8) (p k:Int):Int×Bool:=if 1≤k∧k≤8∧0≤p∧p+k≤s.length then (((Xfu ((s.drop p.toNat).take k.toNat):Nat):Int),true) else (0,false)
theorem XrE {v i:Nat} (h:v<256^i) (hi:i≤7):v<2^56:=Nat.lt_of_lt_of_le h (by
 have:(256:Nat)^i≤256^7:=Nat.pow_le_pow_right (by decide) hi
 simpa using this)
theorem XgG {s:List UInt8} {p k:Int} (hs:s.length<2^61):Xbf s p k=some (Xxp s p k):=by
 unfold Xbf Xmf Xxp
 by_cases h1:k<1
 ·rw [XaP h1,if_neg (by omega)]
 by_cases h2:k>8
 ·rw [XaK h1,XaP h2,if_neg (by omega)]
 by_cases h3:p<0
 ·rw [XaK h1,XaK h2,XaP h3,if_neg (by omega)]
 rw [XaK h1,XaK h2,XaK h3,XdT (n:=(s.length:Int) - k) (by omega) (by omega)]
 by_cases h4:(s.length:Int) - k<p
 ·simp only []
  rw [XaP h4,if_neg (by omega)]
 simp only []
 rw [XaK h4,XdT (n:=p+k) (by omega) (by omega),Xar (by omega),if_pos (by omega)]
 obtain ⟨q,rfl⟩:=Int.eq_ofNat_of_zero_le (show 0≤p by omega)
 obtain ⟨j,rfl⟩:=Int.eq_ofNat_of_zero_le (show 0≤k by omega)
 have e:((q:Int)+j).toNat - (q:Int).toNat=j:=by omega
 rw [e]
 simp only [Int.toNat_natCast]
 generalize ht:(s.drop q).take j=t
 have hl:t.length=j:=by rw [←ht];simp;omega
 have key:=iter_eq (step:=fun st=>XhG t st.1 st.2) (fun st=>(((st.1.toNat*256^(j - st.2.toNat)+Xfu (t.drop st.2.toNat):Nat):Int),true)) (fun st=>0≤st.1∧0≤st.2∧st.2≤j∧st.1.toNat<256^st.2.toNat) (fun st=>(j - st.2).toNat) ?_ FUEL (0,0) ⟨by simp,by simp,by simp,by simp⟩ (by rw [XgM];simp only;omega)
 ·rw [key];simp
 rintro ⟨n,x⟩ ⟨g1,g2,g3,g4⟩
 simp only at g1 g2 g3 g4 ⊢
 obtain ⟨i,rfl⟩:=Int.eq_ofNat_of_zero_le g2
 obtain ⟨v,rfl⟩:=Int.eq_ofNat_of_zero_le g1
 simp only [Int.toNat_natCast] at g4 ⊢
 unfold XhG
 by_cases hp:i<j
 ·have hlt:i<t.length:=by omega
  have hb:=t[i].toNat_lt
  have hv:=XrE g4 (by omega)
  refine .inr ⟨(((v*256+t[i].toNat:Nat):Int),((i+1:Nat):Int)),?_,⟨by simp only;omega,by simp only;omega,by simp only;omega,?_⟩,by simp only;omega,?_⟩
  ·rw [XaP (by omega),Xar (by omega)]
   have e1:(bI t)[(i:Int).toNat]?=some (t[i].toNat:Int):=by simp [bI,hlt]
   rw [e1,Option.bind_some]
   have e2:Xlg .u64 (wI .u64 ((v:Int)*2^8)) (wI .u64 (t[i].toNat:Int))=((v*256+t[i].toNat:Nat):Int):=by
    rw [XfY (by omega) (by omega),XfY (by omega) (by omega),XgW 8 (by omega) (by omega) (by omega) (by omega) (by omega)];omega
   simp only [e2]
   rw [XdT (by omega) (by omega)];rfl
  ·simp only [Int.toNat_natCast]
   rw [Nat.pow_succ];omega
  ·simp only [Int.toNat_natCast]
   rw [List.drop_eq_getElem_cons hlt,Xhj]
   have e3:(t.drop (i+1)).length=j - (i+1):=by simp;omega
   have e4:j - i=(j - (i+1))+1:=by omega
   rw [e3,e4,Nat.pow_succ,Nat.add_mul,Nat.mul_assoc,Nat.mul_comm 256,Nat.add_assoc]
 ·refine .inl ?_
  obtain rfl:i=j:=by omega
  rw [XaK (by omega)]
  simp [←hl]
theorem Xkm {s:List UInt8} {p k:Int} (hs:s.length<2^61):Xc0 s p k=some (Xxp s p k):=by
 unfold Xc0 Xpl Xxp
 by_cases h1:k<1
 ·rw [XaP h1,if_neg (by omega)]
 by_cases h2:k>8
 ·rw [XaK h1,XaP h2,if_neg (by omega)]
 by_cases h3:p<0
 ·rw [XaK h1,XaK h2,XaP h3,if_neg (by omega)]
 by_cases h5:p>s.length
 ·rw [XaK h1,XaK h2,XaK h3,XaP h5,if_neg (by omega)]
 rw [XaK h1,XaK h2,XaK h3,XaK h5,XdT (n:=(s.length:Int) - p) (by omega) (by omega)]
 by_cases h4:k>(s.length:Int) - p
 ·simp only []
  rw [XaP h4,if_neg (by omega)]
 simp only []
 rw [XaK h4,if_pos (by omega)]
 obtain ⟨q,rfl⟩:=Int.eq_ofNat_of_zero_le (show 0≤p by omega)
 obtain ⟨j,rfl⟩:=Int.eq_ofNat_of_zero_le (show 0≤k by omega)
 simp only [Int.toNat_natCast]
 generalize ht:(s.drop q).take j=t
 have hl:t.length=j:=by rw [←ht];simp;omega
 have key:=iter_eq (step:=fun st=>Xjs s (q:Int) (j:Int) st.1 st.2) (fun st=>(((st.1.toNat*256^(j - st.2.toNat)+Xfu (t.drop st.2.toNat):Nat):Int),true)) (fun st=>0≤st.1∧0≤st.2∧st.2≤j∧st.1.toNat<256^st.2.toNat) (fun st=>(j - st.2).toNat) ?_ FUEL (0,0) ⟨by simp,by simp,by simp,by simp⟩ (by rw [XgM];simp only;omega)
 ·rw [key];simp
 rintro ⟨n,x⟩ ⟨g1,g2,g3,g4⟩
 simp only at g1 g2 g3 g4 ⊢
 obtain ⟨i,rfl⟩:=Int.eq_ofNat_of_zero_le g2
 obtain ⟨v,rfl⟩:=Int.eq_ofNat_of_zero_le g1
 simp only [Int.toNat_natCast] at g4 ⊢
 unfold Xjs
 by_cases hp:i<j
 ·have hlt:i<t.length:=by omega
  have hb:=t[i].toNat_lt
  have hv:=XrE g4 (by omega)
  refine .inr ⟨(((v*256+t[i].toNat:Nat):Int),((i+1:Nat):Int)),?_,⟨by simp only;omega,by simp only;omega,by simp only;omega,?_⟩,by simp only;omega,?_⟩
  ·rw [XaP (by omega),XdT (n:=(q:Int)+i) (by omega) (by omega),Xar (by omega)]
   have e0:((q:Int)+i).toNat=q+i:=by omega
   have e1:s[q+i]?=some t[i]:=by
    subst ht
    rw [List.getElem?_eq_getElem (by omega)]
    simp
   rw [e0,e1,Option.bind_some]
   have e2:wI .u64 ((wI .u64 ((v:Int)*256))+(wI .u64 (t[i].toNat:Int)))=((v*256+t[i].toNat:Nat):Int):=by
    rw [XfY (n:=(v:Int)*256) (by omega) (by omega),XfY (n:=(t[i].toNat:Int)) (by omega) (by omega),XfY (by omega) (by omega)];omega
   simp only [e2]
   rw [XdT (by omega) (by omega)];rfl
  ·simp only [Int.toNat_natCast]
   rw [Nat.pow_succ];omega
  ·simp only [Int.toNat_natCast]
   rw [List.drop_eq_getElem_cons hlt,Xhj]
   have e3:(t.drop (i+1)).length=j - (i+1):=by simp;omega
   have e4:j - i=(j - (i+1))+1:=by omega
   rw [e3,e4,Nat.pow_succ,Nat.add_mul,Nat.mul_assoc,Nat.mul_comm 256,Nat.add_assoc]
 ·refine .inl ?_
  obtain rfl:i=j:=by omega
  rw [XaK (by omega)]
  simp [←hl]
theorem Xir {s:List UInt8} {p k:Int} (hs:s.length<2^61):Xao s p k=some (wI .i64 (Xxp s p k).1):=by
 unfold Xao Xny
 rw [Xkm hs];rfl
end Go.Vm.Code
namespace Go.Vm.Code
open Go Go.Vm Go.Proofs
set_option maxRecDepth 100000
set_option maxHeartbeats 4000000
set_option linter.unusedVariables false
def Xl8 (Xaj:XaR) (s:List UInt8) (ata1:Int) (k:Int) (n:Int):Option (List UInt8):=
 (Xaj n k).bind fun p=>
 cond (p==[])
  (
  some (s))
  (
  cond (decide (ata1<0))
   (
   some (s))
   (
   let t:=decide ((wI .i64 ((s.length:Int) - k))<ata1)
   cond (t)
    (
    some (s))
    (
    Xbh (decide ((0:Int)≤ata1∧ata1≤(s.length:Int))) <|
    Xbh (decide ((s.take ata1.toNat).length+p.length<2^63)) <|
    Xbh (decide ((0:Int)≤(wI .i64 (ata1+k))∧(wI .i64 (ata1+k))≤(s.length:Int))) <|
    let t1:=(s.drop (wI .i64 (ata1+k)).toNat).take (s.length - (wI .i64 (ata1+k)).toNat)
    Xbh (decide (((s.take ata1.toNat)++p).length+t1.length<2^63)) <|
    some (((s.take ata1.toNat)++p)++t1))))
def rx98 (x:List UInt8):XcU:=⟨.string ⟨⟨x⟩⟩,[],[]⟩
abbrev XcP:=(List UInt8)→Int→Int→Int→Option (List UInt8)
def r98 (g:XcP):Dec:=dV asS fun (y0:List UInt8)=>dV (asI .i64) fun (y1:Int)=>dV (asI .i64) fun (y2:Int)=>dV (asI .u64) fun (y3:Int)=>XdX (ofG (g y0 y1 y2 y3) rx98)
theorem r98_c {g:XcP} {y0:List UInt8} {y1:Int} {y2:Int} {y3:Int} {x:List UInt8} (hx:g y0 y1 y2 y3=some x):r98 g [.string ⟨⟨y0⟩⟩,.int .i64 y1,.int .i64 y2,.int .u64 y3] []=some (rx98 x):=(XaS (Xd4)).trans ((XaS (XeL _)).trans ((XaS (XeL _)).trans ((XaS (XeL _)).trans (XaQ hx))))
def s98 (g:XcP):XbE:=⟨[.v,.v,.v,.v],r98 g⟩
theorem XAh {g:XcP} {y0:List UInt8} {y1:Int} {y2:Int} {y3:Int} {x:List UInt8} (hx:g y0 y1 y2 y3=some x):(s98 g).run [.string ⟨⟨y0⟩⟩,.int .i64 y1,.int .i64 y2,.int .u64 y3] []=some (rx98 x):=r98_c hx
abbrev XSQ (Xaj:XaR):List (Nat×XbE):=[(97,s97 Xaj)]
theorem XJ2 (Xaj:XaR) (hS:Xak Tryz.prog (XaD (XSQ Xaj))) (s:List UInt8) (ata1:Int) (k:Int) (n:Int) (res:List UInt8) (h:Xl8 Xaj s ata1 k n=some res) :
 XaG Tryz.prog 98 0 ⟨⟨98,39,[(0,.string ⟨⟨s⟩⟩),(1,.int .i64 ata1),(2,.int .i64 k),(3,.int .u64 n)],[.code XIy],[],false,none⟩,[],[],0⟩ (fun v H _=>Res 0 (rx98 res) v H):=by
 unfold Xl8 at h
 have R1:=@Xlb Xaj
 refine Xa6 XaE hS true 3000 ?_
 conv=>whnf
 exact W
def XaW:XcP:=Xl8 Xaj
theorem XAa:XbM Tryz.prog 98 (s98 XaW):=by
 have hL:=XJ2 Xaj (Xak.XaM ⟨Xnh,trivial⟩)
 exact okA ⟨Tryz.f98,rfl,by decide,rfl⟩
def Xo5 (Xc0:XeG) (Xa4:Xcn) (s:List UInt8) (ata1:Int) (k:Int) (n:Int):Option (List UInt8):=
 (Xc0 s ata1 k).bind fun xg=>
 cond (!xg.2)
  (
  some (s))
  (
  Xbh (decide ((0:Int)≤ata1∧ata1≤(s.length:Int))) <|
  (Xa4 n k).bind fun p=>
  Xbh (decide ((s.take ata1.toNat).length+p.length<2^63)) <|
  Xbh (decide ((0:Int)≤(wI .i64 (ata1+k))∧(wI .i64 (ata1+k))≤(s.length:Int))) <|
  let t:=(s.drop (wI .i64 (ata1+k)).toNat).take (s.length - (wI .i64 (ata1+k)).toNat)
  Xbh (decide (((s.take ata1.toNat)++p).length+t.length<2^63)) <|
  some (((s.take ata1.toNat)++p)++t))
def rx64 (x:List UInt8):XcU:=⟨.string ⟨⟨x⟩⟩,[],[]⟩
abbrev Xe6:=(List UInt8)→Int→Int→Int→Option (List UInt8)
def r64 (g:Xe6):Dec:=dV asS fun (y0:List UInt8)=>dV (asI .i64) fun (y1:Int)=>dV (asI .i64) fun (y2:Int)=>dV (asI .u64) fun (y3:Int)=>XdX (ofG (g y0 y1 y2 y3) rx64)
theorem r64_c {g:Xe6} {y0:List UInt8} {y1:Int} {y2:Int} {y3:Int} {x:List UInt8} (hx:g y0 y1 y2 y3=some x):r64 g [.string ⟨⟨y0⟩⟩,.int .i64 y1,.int .i64 y2,.int .u64 y3] []=some (rx64 x):=(XaS (Xd4)).trans ((XaS (XeL _)).trans ((XaS (XeL _)).trans ((XaS (XeL _)).trans (XaQ hx))))
def s64 (g:Xe6):XbE:=⟨[.v,.v,.v,.v],r64 g⟩
theorem XJz {g:Xe6} {y0:List UInt8} {y1:Int} {y2:Int} {y3:Int} {x:List UInt8} (hx:g y0 y1 y2 y3=some x):(s64 g).run [.string ⟨⟨y0⟩⟩,.int .i64 y1,.int .i64 y2,.int .u64 y3] []=some (rx64 x):=r64_c hx
abbrev XRs (Xc0:XeG) (Xa4:Xcn):List (Nat×XbE):=[(87,s87 Xc0),(63,s63 Xa4)]
theorem XOs (Xc0:XeG) (Xa4:Xcn) (hS:Xak Tryz.prog (XaD (XRs Xc0 Xa4))) (s:List UInt8) (ata1:Int) (k:Int) (n:Int) (res:List UInt8) (h:Xo5 Xc0 Xa4 s ata1 k n=some res) :
 XaG Tryz.prog 64 0 ⟨⟨64,34,[(0,.string ⟨⟨s⟩⟩),(1,.int .i64 ata1),(2,.int .i64 k),(3,.int .u64 n)],[.code XJk],[],false,none⟩,[],[],0⟩ (fun v H _=>Res 0 (rx64 res) v H):=by
 unfold Xo5 at h
 have R1:=@XzU Xc0
 have R2:=@Xq0 Xa4
 refine Xa6 XaE hS true 3000 ?_
 conv=>whnf
 exact W
def Xdh:Xe6:=Xo5 Xc0 Xa4
theorem XIm:XbM Tryz.prog 64 (s64 Xdh):=by
 have hL:=XOs Xc0 Xa4 (Xak.XaM ⟨Xya,Xrg,trivial⟩)
 exact okA ⟨Tryz.f64,rfl,by decide,rfl⟩
def Xjq (l:List Int) (n1:Int):Option (Sum Int Int):=
 cond (decide (n1>65535))
  (
  let t:=wI .i64 ((n1.tmod 65536)+(wI .i64 (n1.tdiv 65536)))
  some (.inl t))
  (
  some (.inr (n1)))
def Xjp (l:List Int) (n:Int) (i:Int):Option (Sum (Int×Int) Int):=
 cond (decide (i<(l.length:Int)))
  (
  Xbh (decide ((0:Int)≤i∧i<(l.length:Int))) <|
  (l[i.toNat]?).bind fun (e:Int)=>
  some (.inl (wI .i64 (n+e),wI .i64 (i+1))))
  (
  (iter (fun st=>Xjq l st) FUEL n).bind fun o=>some (.inr (o)))
def Xo4 (l:List Int):Option Int:=
 iter (fun st=>Xjp l st.1 st.2) FUEL (0,0)
def Xts (x:Int):XcU:=⟨.int .i64 x,[],[none]⟩
abbrev XhC:=(List Int)→Option Int
def r135 (g:XhC):Dec:=dSl 0 1 (unL (asI .i64)) fun (y0:List Int)=>XdX (ofG (g y0) Xts)
theorem XRh {g:XhC} {y0:List Int} {x:Int} (hx:g y0=some x):r135 g [.slice (some ⟨0,0,none⟩) y0.length 1] [some (vI .i64 y0)]=some (Xts x):=(Xwb (XvV _ _)).trans (XaQ hx)
def s135 (g:XhC):XbE:=⟨[.sl 1],r135 g⟩
theorem XMF {g:XhC} {y0:List Int} {x:Int} (hx:g y0=some x):(s135 g).run [.slice (some ⟨0,0,none⟩) y0.length 1] [some (vI .i64 y0)]=some (Xts x):=XRh hx
abbrev Xt8:List (Nat×XbE):=[]
def Xlm (l:List Int) (n1:Int):VM:=
 ⟨⟨135,25,[(3,.int .i64 n1)],[.code XtY,.inLoop XtY,.inBlock 2,.code Xzo],[],false,none⟩,[],[(0,.row false (vI .i64 l))],1⟩
def Xll (l:List Int) (n:Int) (i:Int):VM:=
 ⟨⟨135,25,[(0,.slice (some ⟨0,0,none⟩) l.length 1),(3,.int .i64 n),(4,.int .i64 i)],[.code Xus,.inLoop Xus,.inBlock 0,.code XyI],[],false,none⟩,[],[(0,.row false (vI .i64 l))],1⟩
theorem Xza (hS:Xak Tryz.prog (XaD (Xt8))) (l:List Int) (res:Int):∀ fuel (st:Int) (o:Int),iter (fun st=>Xjq l st) fuel st=some o→(o=res) →
 XaG Tryz.prog 135 1 (Xlm l st) (fun v H _=>Res 1 (Xts res) v H):=by
 intro fuel st o h hc
 refine Xde (head:=fun st=>Xlm l st) (C:=fun o=>(o=res)) ?_ fuel st o h hc
 clear h hc o st fuel
 intro n1 o h hc
 replace h:Xjq l n1=some o:=h
 show XaG Tryz.prog 135 1 (Xlm l n1) (fun v H _=>Res 1 (Xts res) v H)
 unfold Xjq at h
 refine Xa6 XaE hS true 3000 ?_
 conv=>whnf
 refine br.h2 h (by rfl) ?_ ?_
 ·clear h;intro hb h;conv=>whnf
  exact W
 clear h;intro hb h;conv=>whnf
 let t:Int:=wI .i64 ((n1.tmod 65536)+(wI .i64 (n1.tdiv 65536)))
 cases h;simp only [Sum.elim_inl,Xlm] at hc
 exact Xmp hc [(0,0)] rfl
theorem XBD (hS:Xak Tryz.prog (XaD (Xt8))) (l:List Int) (res:Int):∀ fuel (st:Int×Int) (o:Int),iter (fun st=>Xjp l st.1 st.2) fuel st=some o→(o=res) →
 XaG Tryz.prog 135 1 (Xll l st.1 st.2) (fun v H _=>Res 1 (Xts res) v H):=by
 intro fuel st o h hc
 refine Xde (head:=fun st=>Xll l st.1 st.2) (C:=fun o=>(o=res)) ?_ fuel st o h hc
 clear h hc o st fuel
 intro st o h hc
 obtain ⟨n,i⟩:=st
 replace h:Xjp l n i=some o:=h
 show XaG Tryz.prog 135 1 (Xll l n i) (fun v H _=>Res 1 (Xts res) v H)
 unfold Xjp at h
 refine Xa6 XaE hS true 3000 ?_
 conv=>whnf
 refine br.h2 h (by rfl) ?_ ?_
 ·clear h;intro hb h;conv=>whnf
  obtain ⟨y,hy,h2⟩:=Xdg.elim h;cases h2
  have hl:=Xza hS _ res _ _ _ hy hc;simp only [Xlm] at hl
  exact Xmp hl [(0,0)] rfl
 clear h;intro hb h;conv=>whnf
 replace h:=Xbh.elim h;obtain ⟨hb,h⟩:=h
 try (refine req.intro hb ?_;conv=>whnf)
 replace h:=Xdg.elim h;obtain ⟨e,hy,h⟩:=h
 refine rd.I hy (by first|rfl|(rw [Nat.zero_add,Nat.mul_one];try rfl;done)|omega) ?_
 conv=>whnf
 cases h;simp only [Sum.elim_inl,Xll] at hc
 exact Xmp hc [(0,0)] rfl
theorem XDi (hS:Xak Tryz.prog (XaD (Xt8))) (l:List Int) (res:Int) (h:Xo4 l=some res) :
 XaG Tryz.prog 135 1 ⟨⟨135,25,[(0,.slice (some ⟨0,0,none⟩) l.length 1)],[.code XAl],[],false,none⟩,[],[(0,.row false (vI .i64 l))],1⟩ (fun v H _=>Res 1 (Xts res) v H):=by
 unfold Xo4 at h
 refine Xa6 XaE hS true 3000 ?_
 conv=>whnf
 have hl:=XBD hS _ res _ _ _ h rfl;simp only [Xll] at hl
 exact Xmp hl [(0,0)] rfl
def Xix:XhC:=Xo4
theorem XL9:XbM Tryz.prog 135 (s135 Xix):=by
 have hL:=XDi (Xak.XaM trivial)
 exact okA ⟨Tryz.f135,rfl,by decide,rfl⟩
def XfR (Xao:XbC) (s1:List UInt8) (i:Int) (out1:List Int):Option (Sum ((List UInt8)×Int×(List Int)) (List Int)):=
 cond (decide (i<(s1.length:Int)))
  (
  (Xao s1 i 2).bind fun m=>
  Xbh (decide ((out1.length+1)*8≤2^47)) <|
  let row:=out1++[m]
  some (.inl (s1,wI .i64 (i+2),row)))
  (
  some (.inr (out1)))
def Xmd (Xao:XbC) (s:List UInt8):Option (List Int):=
 cond (((s.length:Int).tmod 2)==1)
  (
  Xbh (decide (s.length+1<2^63)) <|
  iter (fun st=>XfR Xao st.1 st.2.1 st.2.2) FUEL (s++[0],0,[]))
  (
  iter (fun st=>XfR Xao st.1 st.2.1 st.2.2) FUEL (s,0,[]))
def Xxc (x:List Int):XcU:=⟨.slice (some ⟨0,0,none⟩) x.length 1,[(vI .i64 x)],[]⟩
abbrev XfW:=(List UInt8)→Option (List Int)
def r136 (g:XfW):Dec:=dV asS fun (y0:List UInt8)=>XdX (ofG (g y0) Xxc)
theorem XTh {g:XfW} {y0:List UInt8} {x:List Int} (hx:g y0=some x):r136 g [.string ⟨⟨y0⟩⟩] []=some (Xxc x):=(XaS (Xd4)).trans (XaQ hx)
def s136 (g:XfW):XbE:=⟨[.v],r136 g⟩
theorem XNe {g:XfW} {y0:List UInt8} {x:List Int} (hx:g y0=some x):(s136 g).run [.string ⟨⟨y0⟩⟩] []=some (Xxc x):=XTh hx
abbrev XzE (Xao:XbC):List (Nat×XbE):=[(88,s88 Xao)]
def Xkw (s1:List UInt8) (i:Int) (out1:List Int):VM:=
 ⟨⟨136,24,[(0,.string ⟨⟨s1⟩⟩),(3,.slice (some ⟨0,0,none⟩) out1.length 1),(4,.int .i64 i)],[.code Xt3,.inLoop Xt3,.inBlock 0,.code Xyr],[],false,none⟩,[],[(0,.row true (vI .i64 out1))],1⟩
theorem XsO (Xao:XbC) (hS:Xak Tryz.prog (XaD (XzE Xao))) (res:List Int):∀ fuel (st:(List UInt8)×Int×(List Int)) (o:List Int),iter (fun st=>XfR Xao st.1 st.2.1 st.2.2) fuel st=some o→(o=res) →
 XaG Tryz.prog 136 0 (Xkw st.1 st.2.1 st.2.2) (fun v H _=>Res 0 (Xxc res) v H):=by
 intro fuel st o h hc
 refine Xde (head:=fun st=>Xkw st.1 st.2.1 st.2.2) (C:=fun o=>(o=res)) ?_ fuel st o h hc
 clear h hc o st fuel
 intro st o h hc
 obtain ⟨s1,i,out1⟩:=st
 replace h:XfR Xao s1 i out1=some o:=h
 show XaG Tryz.prog 136 0 (Xkw s1 i out1) (fun v H _=>Res 0 (Xxc res) v H)
 unfold XfR at h
 refine Xa6 XaE hS true 3000 ?_
 conv=>whnf
 refine br.h2 h (by rfl) ?_ ?_
 ·clear h;intro hb h;conv=>whnf
  exact W
 clear h;intro hb h;conv=>whnf
 replace h:=Xdg.elim h;obtain ⟨m,hy,h⟩:=h
 refine Xg9.a (XoK hy) ?_
 conv=>whnf
 replace h:=Xbh.elim h;obtain ⟨hb,h⟩:=h
 refine req.intro (XzB (of_decide_eq_true hb) (by first|rfl|omega|(simp;done)|(simp;omega)|(simp at *;omega)) rfl (by first|rfl|omega|(simp;done)|(simp;omega)|(simp at *;omega)) (by first|rfl|exact Xh3 _ _|exact Xkf _|exact Xku _|exact Xk5 (by first|exact Xdw|exact Xc4|exact XdD|exact Xcj|exact Xb7|exact XdB|exact XcI|exact Xcr|exact Xc6|exact XdC|exact XcH|exact Xdz|exact Xeg|exact Xcg|exact Xci|exact Xee|exact XcG) _|(rw [Xe7];exact Xh3 _ _)|(simp [Xh3,Xkf,Xku,Xly,Xlk,XmQ,XmW];done)|(simp;exact List.all_eq_true.1 (Xk5 (by first|exact Xdw|exact Xc4|exact XdD|exact Xcj|exact Xb7|exact XdB|exact XcI|exact Xcr|exact Xc6|exact XdC|exact XcH|exact Xdz|exact Xeg|exact Xcg|exact Xci|exact Xee|exact XcG) _))) rfl) ?_
 conv=>whnf
 let row:List Int:=out1++[m]
 first|have hlen_row:row.length=_:=List.length_append ..|skip
 refine XSW (xs:=out1) (ys:=[m]) rfl (by first|rfl|omega) (by first|rfl|omega|(simp;done)|(simp;omega)|(simp at *;omega)) (by first|rfl|omega|(simp;done)|(simp;omega)|(simp at *;omega)) ?_
 conv=>whnf
 cases h;simp only [Sum.elim_inl,Xkw] at hc
 exact Xmp hc [(0,2)] rfl
theorem XCf (Xao:XbC) (hS:Xak Tryz.prog (XaD (XzE Xao))) (s:List UInt8) (res:List Int) (h:Xmd Xao s=some res) :
 XaG Tryz.prog 136 0 ⟨⟨136,24,[(0,.string ⟨⟨s⟩⟩)],[.code Xzh],[],false,none⟩,[],[],0⟩ (fun v H _=>Res 0 (Xxc res) v H):=by
 unfold Xmd at h
 refine Xa6 XaE hS true 3000 ?_
 conv=>whnf
 refine br.h2 h (by rfl) ?_ ?_
 ·clear h;intro hb h;conv=>whnf
  have hl:=XsO Xao hS res _ _ _ h rfl;simp only [Xkw] at hl
  refine XaG.nilT 3 1 ?_
  exact Xmp hl [(0,0)] rfl
 clear h;intro hb h;conv=>whnf
 replace h:=Xbh.elim h;obtain ⟨hb,h⟩:=h
 try (refine req.intro hb ?_;conv=>whnf)
 have hl:=XsO Xao hS res _ _ _ h rfl;simp only [Xkw] at hl
 refine XaG.nilT 3 1 ?_
 exact Xmp hl [(0,0)] rfl
def XfE:XfW:=Xmd Xao
theorem XLX:XbM Tryz.prog 136 (s136 XfE):=by
 have hL:=XCf Xao (Xak.XaM ⟨Xql,trivial⟩)
 exact okA ⟨Tryz.f136,rfl,by decide,rfl⟩
def Xpu (Xix:XhC) (XfE:XfW) (s:List UInt8):Option Int:=
 (XfE s).bind fun w=>
 (Xix w).bind fun a=>
 some (a)
def rx86 (x:Int):XcU:=⟨.int .i64 x,[],[]⟩
abbrev XdJ:=(List UInt8)→Option Int
def r86 (g:XdJ):Dec:=dV asS fun (y0:List UInt8)=>XdX (ofG (g y0) rx86)
theorem r86_c {g:XdJ} {y0:List UInt8} {x:Int} (hx:g y0=some x):r86 g [.string ⟨⟨y0⟩⟩] []=some (rx86 x):=(XaS (Xd4)).trans (XaQ hx)
def s86 (g:XdJ):XbE:=⟨[.v],r86 g⟩
theorem Xu6 {g:XdJ} {y0:List UInt8} {x:Int} (hx:g y0=some x):(s86 g).run [.string ⟨⟨y0⟩⟩] []=some (rx86 x):=r86_c hx
abbrev XTY (Xix:XhC) (XfE:XfW):List (Nat×XbE):=[(135,s135 Xix),(136,s136 XfE)]
theorem XMZ (Xix:XhC) (XfE:XfW) (hS:Xak Tryz.prog (XaD (XTY Xix XfE))) (s:List UInt8) (res:Int) (h:Xpu Xix XfE s=some res) :
 XaG Tryz.prog 86 0 ⟨⟨86,6,[(0,.string ⟨⟨s⟩⟩)],[.code XWp],[],false,none⟩,[],[],0⟩ (fun v H _=>Res 0 (rx86 res) v H):=by
 unfold Xpu at h
 have R1:=@XNe XfE
 have R2:=@XMF Xix
 refine Xa6 XaE hS true 3000 ?_
 conv=>whnf
 exact W
def Xcm:XdJ:=Xpu Xix XfE
theorem Xv4:XbM Tryz.prog 86 (s86 Xcm):=by
 have hL:=XMZ Xix XfE (Xak.XaM ⟨XL9,XLX,trivial⟩)
 exact okA ⟨Tryz.f86,rfl,by decide,rfl⟩
def XrB (Xcm:XdJ) (s:List UInt8):Option Int:=
 (Xcm s).bind fun s1=>
 some (wI .i64 (65535 - s1))
def rx65 (x:Int):XcU:=⟨.int .i64 x,[],[]⟩
abbrev Xgc:=(List UInt8)→Option Int
def r65 (g:Xgc):Dec:=dV asS fun (y0:List UInt8)=>XdX (ofG (g y0) rx65)
theorem r65_c {g:Xgc} {y0:List UInt8} {x:Int} (hx:g y0=some x):r65 g [.string ⟨⟨y0⟩⟩] []=some (rx65 x):=(XaS (Xd4)).trans (XaQ hx)
def s65 (g:Xgc):XbE:=⟨[.v],r65 g⟩
theorem XJD {g:Xgc} {y0:List UInt8} {x:Int} (hx:g y0=some x):(s65 g).run [.string ⟨⟨y0⟩⟩] []=some (rx65 x):=r65_c hx
abbrev XTQ (Xcm:XdJ):List (Nat×XbE):=[(86,s86 Xcm)]
theorem XMn (Xcm:XdJ) (hS:Xak Tryz.prog (XaD (XTQ Xcm))) (s:List UInt8) (res:Int) (h:XrB Xcm s=some res) :
 XaG Tryz.prog 65 0 ⟨⟨65,6,[(0,.string ⟨⟨s⟩⟩)],[.code XVM],[],false,none⟩,[],[],0⟩ (fun v H _=>Res 0 (rx65 res) v H):=by
 unfold XrB at h
 have R1:=@Xu6 Xcm
 refine Xa6 XaE hS true 3000 ?_
 conv=>whnf
 exact W
def Xe1:Xgc:=XrB Xcm
theorem XIt:XbM Tryz.prog 65 (s65 Xe1):=by
 have hL:=XMn Xcm (Xak.XaM ⟨Xv4,trivial⟩)
 exact okA ⟨Tryz.f65,rfl,by decide,rfl⟩
def Xm7 (XcX:Xex) (s:List UInt8):Option Int:=
 (XcX s).bind fun s1=>
 some (wI .i64 (65535 - s1))
def XGh (x:Int):XcU:=⟨.int .i64 x,[],[]⟩
abbrev Xdi:=(List UInt8)→Option Int
def r183 (g:Xdi):Dec:=dV asS fun (y0:List UInt8)=>XdX (ofG (g y0) XGh)
theorem XWn {g:Xdi} {y0:List UInt8} {x:Int} (hx:g y0=some x):r183 g [.string ⟨⟨y0⟩⟩] []=some (XGh x):=(XaS (Xd4)).trans (XaQ hx)
def XVl (g:Xdi):XbE:=⟨[.v],r183 g⟩
theorem XuS {g:Xdi} {y0:List UInt8} {x:Int} (hx:g y0=some x):(XVl g).run [.string ⟨⟨y0⟩⟩] []=some (XGh x):=XWn hx
abbrev XL6 (XcX:Xex):List (Nat×XbE):=[(130,s130 XcX)]
theorem XGx (XcX:Xex) (hS:Xak Tryz.prog (XaD (XL6 XcX))) (s:List UInt8) (res:Int) (h:Xm7 XcX s=some res) :
 XaG Tryz.prog 183 0 ⟨⟨183,6,[(0,.string ⟨⟨s⟩⟩)],[.code XIk],[],false,none⟩,[],[],0⟩ (fun v H _=>Res 0 (XGh res) v H):=by
 unfold Xm7 at h
 have R1:=@XyO XcX
 refine Xa6 XaE hS true 3000 ?_
 conv=>whnf
 exact W
def Xbw:Xdi:=Xm7 XcX
theorem XuA:XbM Tryz.prog 183 (XVl Xbw):=by
 have hL:=XGx XcX (Xak.XaM ⟨XAn,trivial⟩)
 exact okA ⟨Tryz.f183,rfl,by decide,rfl⟩
def XjV (XcX:Xex) (s:List UInt8):Option Bool:=
 (XcX s).bind fun s1=>
 some (s1==65535)
def rx80 (x:Bool):XcU:=⟨.bool x,[],[]⟩
abbrev XcB:=(List UInt8)→Option Bool
def r80 (g:XcB):Dec:=dV asS fun (y0:List UInt8)=>XdX (ofG (g y0) rx80)
theorem r80_c {g:XcB} {y0:List UInt8} {x:Bool} (hx:g y0=some x):r80 g [.string ⟨⟨y0⟩⟩] []=some (rx80 x):=(XaS (Xd4)).trans (XaQ hx)
def s80 (g:XcB):XbE:=⟨[.v],r80 g⟩
theorem Xym {g:XcB} {y0:List UInt8} {x:Bool} (hx:g y0=some x):(s80 g).run [.string ⟨⟨y0⟩⟩] []=some (rx80 x):=r80_c hx
abbrev XSi (XcX:Xex):List (Nat×XbE):=[(130,s130 XcX)]
theorem XPr (XcX:Xex) (hS:Xak Tryz.prog (XaD (XSi XcX))) (s:List UInt8) (res:Bool) (h:XjV XcX s=some res) :
 XaG Tryz.prog 80 0 ⟨⟨80,6,[(0,.string ⟨⟨s⟩⟩)],[.code XVh],[],false,none⟩,[],[],0⟩ (fun v H _=>Res 0 (rx80 res) v H):=by
 unfold XjV at h
 have R1:=@XyO XcX
 refine Xa6 XaE hS true 3000 ?_
 conv=>whnf
 exact W
def Xa7:XcB:=XjV XcX
theorem XAF:XbM Tryz.prog 80 (s80 Xa7):=by
 have hL:=XPr XcX (Xak.XaM ⟨XAn,trivial⟩)
 exact okA ⟨Tryz.f80,rfl,by decide,rfl⟩
end Go.Vm.Code
namespace Go.Vm.Code
open Go Go.Vm
theorem XEQ {s:List UInt8} {i:Nat} (h:i+1<s.length):Xxp s (i:Int) 2=(((s[i].toNat*256+s[i+1].toNat:Nat):Int),true):=by
 unfold Xxp
 rw [if_pos (by omega)]
 have e:(s.drop (i:Int).toNat).take (2:Int).toNat=[s[i],s[i+1]]:=by
  show (s.drop i).take 2=_
  rw [List.drop_eq_getElem_cons (by omega:i<s.length),List.drop_eq_getElem_cons h];rfl
 rw [e];simp [Xhj]
def XhF:List UInt8→List Int
 | []=>[]
 | [b]=>[((b.toNat*256:Nat):Int)]
 | b::c::l=>((b.toNat*256+c.toNat:Nat):Int)::XhF l
theorem Xw0 {s:List UInt8} {i:Nat} (h:i+1<s.length):XhF (s.drop i)=((s[i].toNat*256+s[i+1].toNat:Nat):Int)::XhF (s.drop (i+2)):=by
 rw [List.drop_eq_getElem_cons (by omega:i<s.length),List.drop_eq_getElem_cons h];rfl
theorem Xrh:∀ s:List UInt8,s.length%2=1→XhF (s++[0])=XhF s
 | [],h=>by simp at h
 | [b],_=>by
   show [((b.toNat*256+0:Nat):Int)]=[((b.toNat*256:Nat):Int)]
   rw [Nat.add_zero]
 | b::c::l,h=>by
   have:=Xrh l (by simp at h;omega)
   simp only [List.cons_append,XhF,this]
theorem XqE:∀ s:List UInt8,(XhF s).sum=(Xfj s:Int)
 | []=>rfl
 | [b]=>by simp only [XhF,Xfj,List.sum_cons,List.sum_nil,Int.add_zero]
 | b::c::l=>by
   have:=XqE l
   simp only [XhF,Xfj,List.sum_cons,this];omega
theorem Xq1:∀ s:List UInt8,∀ e∈XhF s,0≤e∧e≤65535
 | [],e,h=>by simp [XhF] at h
 | [b],e,h=>by simp [XhF] at h;have:=b.toNat_lt;omega
 | b::c::l,e,h=>by
   simp only [XhF,List.mem_cons] at h
   rcases h with rfl|h
   ·have:=b.toNat_lt;have:=c.toNat_lt;omega
   ·exact Xq1 l e h
theorem XqP:∀ s:List UInt8,(XhF s).length=(s.length+1)/2
 | []=>rfl
 | [b]=>by simp [XhF]
 | b::c::l=>by
   have:=XqP l
   simp only [XhF,List.length_cons,this];omega
theorem XmC {s:List UInt8} (h:s.length<2^40) (he:s.length%2=0):iter (fun (st:List UInt8×Int×List Int)=>XfR Xao st.1 st.2.1 st.2.2) FUEL (s,0,[])=some (XhF s):=by
 have key:=iter_eq (step:=fun (st:List UInt8×Int×List Int)=>XfR Xao st.1 st.2.1 st.2.2) (fun st=>st.2.2++XhF (s.drop st.2.1.toNat)) (fun st=>st.1=s∧∃ i:Nat,st.2.1=i∧i%2=0∧i≤s.length∧st.2.2.length≤i) (fun st=>(s.length - st.2.1).toNat) ?_ FUEL (s,0,[]) ⟨rfl,0,rfl,by omega,by omega,by simp⟩ (by rw [XgM];simp only;omega)
 ·rw [key];simp
 rintro ⟨s1,p,out⟩ ⟨h1,i,h2,h3,h4,h5⟩
 simp only at h1 h2 h5 ⊢
 subst h1 h2
 unfold XfR
 by_cases hi:i<s1.length
 ·have hi2:i+1<s1.length:=by omega
  refine .inr ⟨(s1,((i+2:Nat):Int),out++[((s1[i].toNat*256+s1[i+1].toNat:Nat):Int)]),?_,⟨rfl,i+2,rfl,by omega,by omega,by simp;omega⟩,by simp only;omega,?_⟩
  ·have b1:=s1[i].toNat_lt
   have b2:=s1[i+1].toNat_lt
   rw [XaP (by omega),Xir (by omega),XEQ hi2,Option.bind_some,Xar (by omega),XdT (by omega) (by omega),XdT (by omega) (by omega)];rfl
  ·simp only [Int.toNat_natCast]
   rw [Xw0 hi2];simp
 ·refine .inl ?_
  rw [XaK (by omega)]
  simp [List.drop_eq_nil_of_le (by omega:s1.length≤i),XhF]
theorem XsT {s:List UInt8} (h:s.length<2^39):XfE s=some (XhF s):=by
 unfold XfE Xmd
 have ea:((s.length:Int).tmod 2==1)=decide (s.length%2=1):=by
  rw [Int.tmod_eq_emod_of_nonneg (by omega),Bool.eq_iff_iff,beq_iff_eq,decide_eq_true_eq];omega
 rw [ea]
 by_cases h2:s.length%2=1
 ·rw [XaP h2,Xar (by omega),XmC (by simp only [List.length_append,List.length_cons,List.length_nil];omega) (by simp only [List.length_append,List.length_cons,List.length_nil];omega),Xrh s h2]
 ·rw [XaK h2,XmC (by omega) (by omega)]
theorem Xun {l:List Int} {n:Int} (h0:0≤n) (h1:n<2^62):iter (fun st=>Xjq l st) FUEL n=some ((norm n.toNat:Nat):Int):=by
 refine iter_eq (fun n=>((norm n.toNat:Nat):Int)) (fun n=>0≤n∧n<2^62) (fun n=>n.toNat) ?_ FUEL _ ⟨h0,h1⟩ (by rw [XgM];omega)
 intro s ⟨a,b⟩
 unfold Xjq
 by_cases hs:s>65535
 ·refine .inr ⟨s%65536+s/65536,?_,⟨by omega,by omega⟩,by omega,?_⟩
  ·rw [XaP hs,Int.tdiv_eq_ediv_of_nonneg a,Int.tmod_eq_emod_of_nonneg a,XdT (n:=s/65536) (by omega) (by omega),XdT (by omega) (by omega)]
  ·have:norm (s%65536+s/65536).toNat=norm s.toNat:=
    (norm_eq (norm_le _) (by have:=Xmc (s%65536+s/65536).toNat;omega) (by have:=Xkn (s%65536+s/65536).toNat;omega)).symm
   rw [this]
 ·refine .inl ?_
  rw [XaK hs]
  have:=Xp5 (n:=s.toNat) (by omega)
  simp only [this]
  rw [Int.toNat_of_nonneg a]
theorem XwA {l:List Int} (hl:l.length<2^40) (hr:∀ e∈l,0≤e∧e≤65535):Xix l=some ((norm l.sum.toNat:Nat):Int):=by
 unfold Xix Xo4
 have key:=iter_eq (step:=fun (st:Int×Int)=>Xjp l st.1 st.2) (fun st=>((norm (st.1+(l.drop st.2.toNat).sum).toNat:Nat):Int)) (fun st=>0≤st.1∧0≤st.2∧st.2≤l.length∧st.1≤st.2*65535) (fun st=>(l.length - st.2).toNat) ?_ FUEL (0,0) ⟨by simp,by simp,by simp,by simp⟩ (by rw [XgM];simp only;omega)
 ·rw [key];simp
 rintro ⟨n,p⟩ ⟨g1,g2,g3,g4⟩
 simp only at g1 g2 g3 g4 ⊢
 obtain ⟨i,rfl⟩:=Int.eq_ofNat_of_zero_le g2
 simp only [Int.toNat_natCast]
 unfold Xjp
 by_cases hi:i<l.length
 ·have hx:=hr l[i] (List.getElem_mem hi)
  refine .inr ⟨(n+l[i],((i+1:Nat):Int)),?_,⟨by simp only;omega,by simp only;omega,by simp only;omega,by simp only;omega⟩,by simp only;omega,?_⟩
  ·simp (disch:=omega) only [XaP,Xar,Int.toNat_natCast,List.getElem?_eq_getElem,Option.bind_some,XdT];rfl
  ·simp only [Int.toNat_natCast]
   rw [List.drop_eq_getElem_cons hi,List.sum_cons,Int.add_assoc]
 ·refine .inl ?_
  rw [XaK (by omega),Xun g1 (by omega),List.drop_eq_nil_of_le (by omega)]
  simp
theorem Xl5 {s:List UInt8} (h:s.length<2^39):Xcm s=some ((norm (Xfj s):Nat):Int):=by
 unfold Xcm Xpu
 rw [XsT h,Option.bind_some,XwA (by rw [XqP];omega) (Xq1 s),XqE];rfl
def Xq7 (s:List UInt8) (p k n:Int):List UInt8:=if 1≤k∧k≤8∧0≤p∧p+k≤s.length then s.take p.toNat++be n.toNat k.toNat++s.drop (p+k).toNat else s
theorem XvW {s:List UInt8} {p k n:Int} (hs:s.length<2^40) (hn:0≤n):XaW s p k n=some (Xq7 s p k n):=by
 unfold XaW Xl8 Xq7
 rw [Xbu hn,Option.bind_some]
 unfold XcF
 by_cases hk:1≤k∧k≤8
 ·rw [if_pos hk]
  have e:(be n.toNat k.toNat==[])=false:=by
   rw [beq_eq_false_iff_ne];intro h;have:=congrArg List.length h;simp at this;omega
  rw [e,cond_false]
  by_cases h1:p<0
  ·rw [XaP h1,if_neg (by omega)]
  rw [XaK h1,XdT (n:=(s.length:Int) - k) (by omega) (by omega)]
  by_cases h2:(s.length:Int) - k<p
  ·simp only []
   rw [XaP h2,if_neg (by omega)]
  simp only []
  have e1:(p+k).toNat=p.toNat+k.toNat:=by omega
  have e2:((s.drop (p+k).toNat).take (s.length - (p+k).toNat))=s.drop (p+k).toNat:=List.take_of_length_le (by simp)
  rw [XaK h2,Xar (by omega),XdT (n:=p+k) (by omega) (by omega),e2,Xar (by simp;omega),Xar (by omega),Xar (by simp;omega),if_pos (by omega)]
 ·rw [if_neg hk,if_neg (by omega)];rfl
theorem Xl4 {s:List UInt8} {p k n:Int} (hs:s.length<2^40) (hn:0≤n) (hn2:n<2^64):Xdh s p k n=some (Xq7 s p k n):=by
 unfold Xdh Xo5 Xq7
 rw [Xkm (by omega),Option.bind_some]
 unfold Xxp
 by_cases hc:1≤k∧k≤8∧0≤p∧p+k≤s.length
 ·rw [if_pos hc,if_pos hc]
  have e2:((s.drop (p+k).toNat).take (s.length - (p+k).toNat))=s.drop (p+k).toNat:=List.take_of_length_le (by simp)
  simp only [Bool.not_true,cond_false]
  rw [Xdb hn hn2,Option.bind_some,Xar (by omega),XdT (n:=p+k) (by omega) (by omega),e2]
  unfold XcF
  rw [if_pos (by omega),Xar (by simp;omega),Xar (by omega),Xar (by simp;omega)]
 ·rw [if_neg hc,if_neg hc];rfl
theorem XCw {s:List UInt8} (h:s.length<2^39):Xbw s=some (65535 - ((norm (Xfj s):Nat):Int)):=by
 unfold Xbw Xm7
 have:=norm_le (Xfj s)
 rw [XIU s (by omega),Option.bind_some,XdT (by omega) (by omega)]
theorem Xqk {s:List UInt8} (h:s.length<2^39):Xe1 s=some (65535 - ((norm (Xfj s):Nat):Int)):=by
 unfold Xe1 XrB
 have:=norm_le (Xfj s)
 rw [Xl5 h,Option.bind_some,XdT (by omega) (by omega)]
theorem Xr7 {s:List UInt8} (h:s.length<2^39):Xa7 s=some (((norm (Xfj s):Nat):Int)==65535):=by
 unfold Xa7 XjV
 rw [XIU s (by omega),Option.bind_some]
end Go.Vm.Code
namespace Go.Vm.Code
open Go Go.Vm Go.Proofs
set_option maxRecDepth 100000
set_option maxHeartbeats 4000000
set_option linter.unusedVariables false
def Xiw (a:Xaa):Option Bool:=
 cond (a.V6)
  (
  some (true))
  (
  cond (a.Hi==0)
   (
   some (decide (a.Lo<4294967296)))
   (
   some (false)))
def XGt (x:Bool):XcU:=⟨.bool x,[],[]⟩
abbrev XbW:=Xaa→Option Bool
def r110 (g:XbW):Dec:=dV Xb6 fun (y0:Xaa)=>XdX (ofG (g y0) XGt)
theorem XUp {g:XbW} {y0:Xaa} {x:Bool} (hx:g y0=some x):r110 g [.agg ⟨[.bool y0.V6,.int .u64 y0.Hi,.int .u64 y0.Lo]⟩] []=some (XGt x):=(XaS (XbP _)).trans (XaQ hx)
def XKN (g:XbW):XbE:=⟨[.v],r110 g⟩
theorem Xp8 {g:XbW} {y0:Xaa} {x:Bool} (hx:g y0=some x):(XKN g).run [.agg ⟨[.bool y0.V6,.int .u64 y0.Hi,.int .u64 y0.Lo]⟩] []=some (XGt x):=XUp hx
abbrev XMg:List (Nat×XbE):=[]
theorem XFY (hS:Xak Tryz.prog (XaD (XMg))) (a:Xaa) (res:Bool) (h:Xiw a=some res) :
 XaG Tryz.prog 110 0 ⟨⟨110,15,[(0,.agg ⟨[.bool a.V6,.int .u64 a.Hi,.int .u64 a.Lo]⟩)],[.code XJi],[],false,none⟩,[],[],0⟩ (fun v H _=>Res 0 (XGt res) v H):=by
 unfold Xiw at h
 refine Xa6 XaE hS true 3000 ?_
 conv=>whnf
 exact W
def XaC:XbW:=Xiw
theorem XpD:XbM Tryz.prog 110 (XKN XaC):=by
 have hL:=XFY (Xak.XaM trivial)
 exact okA ⟨Tryz.f110,rfl,by decide,rfl⟩
def Xlj (XaC:XbW) (Xaj:XaR) (a:Xaa):Option (List UInt8):=
 (XaC a).bind fun xr=>
 cond (!xr)
  (
  some ([]))
  (
  cond (a.V6)
   (
   (Xaj a.Hi 8).bind fun p=>
   (Xaj a.Lo 8).bind fun p1=>
   Xbh (decide (p.length+p1.length<2^63)) <|
   some (p++p1))
   (
   (Xaj a.Lo 4).bind fun p2=>
   some (p2)))
def XG3 (x:List UInt8):XcU:=⟨.string ⟨⟨x⟩⟩,[],[]⟩
abbrev Xd2:=Xaa→Option (List UInt8)
def r195 (g:Xd2):Dec:=dV Xb6 fun (y0:Xaa)=>XdX (ofG (g y0) XG3)
theorem XTS {g:Xd2} {y0:Xaa} {x:List UInt8} (hx:g y0=some x):r195 g [.agg ⟨[.bool y0.V6,.int .u64 y0.Hi,.int .u64 y0.Lo]⟩] []=some (XG3 x):=(XaS (XbP _)).trans (XaQ hx)
def XS3 (g:Xd2):XbE:=⟨[.v],r195 g⟩
theorem Xul {g:Xd2} {y0:Xaa} {x:List UInt8} (hx:g y0=some x):(XS3 g).run [.agg ⟨[.bool y0.V6,.int .u64 y0.Hi,.int .u64 y0.Lo]⟩] []=some (XG3 x):=XTS hx
abbrev XOy (XaC:XbW) (Xaj:XaR):List (Nat×XbE):=[(110,XKN XaC),(97,s97 Xaj)]
theorem XD0 (XaC:XbW) (Xaj:XaR) (hS:Xak Tryz.prog (XaD (XOy XaC Xaj))) (a:Xaa) (res:List UInt8) (h:Xlj XaC Xaj a=some res) :
 XaG Tryz.prog 195 0 ⟨⟨195,20,[(0,.agg ⟨[.bool a.V6,.int .u64 a.Hi,.int .u64 a.Lo]⟩)],[.code Xzy],[],false,none⟩,[],[],0⟩ (fun v H _=>Res 0 (XG3 res) v H):=by
 unfold Xlj at h
 have R1:=@Xp8 XaC
 have R2:=@Xlb Xaj
 refine Xa6 XaE hS true 3000 ?_
 conv=>whnf
 exact W
def XbZ:Xd2:=Xlj XaC Xaj
theorem Xuo:XbM Tryz.prog 195 (XS3 XbZ):=by
 have hL:=XD0 XaC Xaj (Xak.XaM ⟨XpD,Xnh,trivial⟩)
 exact okA ⟨Tryz.f195,rfl,by decide,rfl⟩
def Xkr (a:Xaa):Option Bool:=
 cond (a.V6)
  (
  some (true))
  (
  cond (a.Hi==0)
   (
   some (decide (a.Lo<4294967296)))
   (
   some (false)))
def rx59 (x:Bool):XcU:=⟨.bool x,[],[]⟩
abbrev Xce:=Xaa→Option Bool
def r59 (g:Xce):Dec:=dV Xb6 fun (y0:Xaa)=>XdX (ofG (g y0) rx59)
theorem r59_c {g:Xce} {y0:Xaa} {x:Bool} (hx:g y0=some x):r59 g [.agg ⟨[.bool y0.V6,.int .u64 y0.Hi,.int .u64 y0.Lo]⟩] []=some (rx59 x):=(XaS (XbP _)).trans (XaQ hx)
def s59 (g:Xce):XbE:=⟨[.v],r59 g⟩
theorem Xtd {g:Xce} {y0:Xaa} {x:Bool} (hx:g y0=some x):(s59 g).run [.agg ⟨[.bool y0.V6,.int .u64 y0.Hi,.int .u64 y0.Lo]⟩] []=some (rx59 x):=r59_c hx
abbrev XQB:List (Nat×XbE):=[]
theorem XNZ (hS:Xak Tryz.prog (XaD (XQB))) (a:Xaa) (res:Bool) (h:Xkr a=some res) :
 XaG Tryz.prog 59 0 ⟨⟨59,15,[(0,.agg ⟨[.bool a.V6,.int .u64 a.Hi,.int .u64 a.Lo]⟩)],[.code XWg],[],false,none⟩,[],[],0⟩ (fun v H _=>Res 0 (rx59 res) v H):=by
 unfold Xkr at h
 refine Xa6 XaE hS true 3000 ?_
 conv=>whnf
 exact W
def XaN:Xce:=Xkr
theorem XtI:XbM Tryz.prog 59 (s59 XaN):=by
 have hL:=XNZ (Xak.XaM trivial)
 exact okA ⟨Tryz.f59,rfl,by decide,rfl⟩
def Xns (Xa4:Xcn) (XaN:Xce) (a:Xaa):Option (List UInt8):=
 (XaN a).bind fun xr=>
 cond (!xr)
  (
  some ([]))
  (
  cond (a.V6)
   (
   (Xa4 a.Hi 8).bind fun p=>
   (Xa4 a.Lo 8).bind fun p1=>
   Xbh (decide (p.length+p1.length<2^63)) <|
   some (p++p1))
   (
   (Xa4 a.Lo 4).bind fun p2=>
   some (p2)))
def XEA (x:List UInt8):XcU:=⟨.string ⟨⟨x⟩⟩,[],[]⟩
abbrev XeE:=Xaa→Option (List UInt8)
def r146 (g:XeE):Dec:=dV Xb6 fun (y0:Xaa)=>XdX (ofG (g y0) XEA)
theorem XRt {g:XeE} {y0:Xaa} {x:List UInt8} (hx:g y0=some x):r146 g [.agg ⟨[.bool y0.V6,.int .u64 y0.Hi,.int .u64 y0.Lo]⟩] []=some (XEA x):=(XaS (XbP _)).trans (XaQ hx)
def XR6 (g:XeE):XbE:=⟨[.v],r146 g⟩
theorem XuK {g:XeE} {y0:Xaa} {x:List UInt8} (hx:g y0=some x):(XR6 g).run [.agg ⟨[.bool y0.V6,.int .u64 y0.Hi,.int .u64 y0.Lo]⟩] []=some (XEA x):=XRt hx
abbrev XLK (Xa4:Xcn) (XaN:Xce):List (Nat×XbE):=[(63,s63 Xa4),(59,s59 XaN)]
theorem XCo (Xa4:Xcn) (XaN:Xce) (hS:Xak Tryz.prog (XaD (XLK Xa4 XaN))) (a:Xaa) (res:List UInt8) (h:Xns Xa4 XaN a=some res) :
 XaG Tryz.prog 146 0 ⟨⟨146,18,[(0,.agg ⟨[.bool a.V6,.int .u64 a.Hi,.int .u64 a.Lo]⟩)],[.code Xyd],[],false,none⟩,[],[],0⟩ (fun v H _=>Res 0 (XEA res) v H):=by
 unfold Xns at h
 have R1:=@Xtd XaN
 have R2:=@Xq0 Xa4
 refine Xa6 XaE hS true 3000 ?_
 conv=>whnf
 exact W
def Xcp:XeE:=Xns Xa4 XaN
theorem Xu4:XbM Tryz.prog 146 (XR6 Xcp):=by
 have hL:=XCo Xa4 XaN (Xak.XaM ⟨Xrg,XtI,trivial⟩)
 exact okA ⟨Tryz.f146,rfl,by decide,rfl⟩
def Xdd (Xaj:XaR) (l:List Int) (i:Int) (c:List Int):Option (Sum (Int×(List Int)) (List UInt8)):=
 let t:=decide ((wI .i64 (i+1))<(l.length:Int))
 cond (t)
  (
  Xbh (decide ((0:Int)≤i∧i<(l.length:Int))) <|
  (l[i.toNat]?).bind fun (e2:Int)=>
  Xbh (decide ((0:Int)≤(wI .i64 (i+1))∧(wI .i64 (i+1))<(l.length:Int))) <|
  (l[(wI .i64 (i+1)).toNat]?).bind fun (e3:Int)=>
  (Xaj (wI .u64 e2) e3).bind fun p1=>
  Xbh (decide ((c.length+p1.length)*1≤2^47)) <|
  let row:=c++(bI p1)
  some (.inl (wI .i64 (i+2),row)))
  (
  Xbh (decide (c.length<2^63)) <|
  some (.inr (iB c)))
def XjD (Xaj:XaR) (l:List Int):Option (List UInt8):=
 cond (decide (1<(l.length:Int)))
  (
  Xbh (decide ((0:Int)≤(0:Int)∧(0:Int)<(l.length:Int))) <|
  (l[0]?).bind fun (e:Int)=>
  Xbh (decide ((0:Int)≤(1:Int)∧(1:Int)<(l.length:Int))) <|
  (l[1]?).bind fun (e1:Int)=>
  (Xaj (wI .u64 e) e1).bind fun p=>
  Xbh (decide (p.length*1≤2^47)) <|
  iter (fun st=>Xdd Xaj l st.1 st.2) FUEL (2,bI p))
  (
  some ([]))
def Xwk (x:List UInt8):XcU:=⟨.string ⟨⟨x⟩⟩,[],[none]⟩
abbrev Xd5:=(List Int)→Option (List UInt8)
def r196 (g:Xd5):Dec:=dSl 0 1 (unL (asI .i64)) fun (y0:List Int)=>XdX (ofG (g y0) Xwk)
theorem XSp {g:Xd5} {y0:List Int} {x:List UInt8} (hx:g y0=some x):r196 g [.slice (some ⟨0,0,none⟩) y0.length 1] [some (vI .i64 y0)]=some (Xwk x):=(Xwb (XvV _ _)).trans (XaQ hx)
def s196 (g:Xd5):XbE:=⟨[.sl 1],r196 g⟩
theorem XAo {g:Xd5} {y0:List Int} {x:List UInt8} (hx:g y0=some x):(s196 g).run [.slice (some ⟨0,0,none⟩) y0.length 1] [some (vI .i64 y0)]=some (Xwk x):=XSp hx
abbrev XAM (Xaj:XaR):List (Nat×XbE):=[(97,s97 Xaj)]
def Xle (l:List Int) (i:Int) (c:List Int):VM:=
 ⟨⟨196, 25, [(0, .slice (some ⟨0, 0, none⟩) l.length 1), (3, .pointer (some ⟨1, 0, none⟩)), (4, .int .i64 i)], [.code Xui, .inLoop Xui, .inBlock 0, .code Xyg], [], false, none⟩, [], [(0, .row false (vI .i64 l)), (1, .ty 171 [.pointer (some ⟨1, 0, none⟩), .func (.method "") ⟨[.slice (some ⟨12, 0, none⟩) c.length 1]⟩ ⟨[]⟩]), (12, .ty 5 (vI .u8 c))], 13⟩
theorem XyY (Xaj:XaR) (hS:Xak Tryz.prog (XaD (XAM Xaj))) (l:List Int) (res:List UInt8):∀ fuel (st:Int×(List Int)) (o:List UInt8),iter (fun st=>Xdd Xaj l st.1 st.2) fuel st=some o→(o=res) →
 XaG Tryz.prog 196 1 (Xle l st.1 st.2) (fun v H _=>Res 1 (Xwk res) v H):=by
 intro fuel st o h hc
 refine Xde (head:=fun st=>Xle l st.1 st.2) (C:=fun o=>(o=res)) ?_ fuel st o h hc
 clear h hc o st fuel
 intro st o h hc
 obtain ⟨i,c⟩:=st
 replace h:Xdd Xaj l i c=some o:=h
 show XaG Tryz.prog 196 1 (Xle l i c) (fun v H _=>Res 1 (Xwk res) v H)
 unfold Xdd at h
 refine Xa6 XaE hS true 3000 ?_
 conv=>whnf
 let t:Bool:=decide ((wI .i64 (i+1))<(l.length:Int))
 refine br.h2 h (by rfl) ?_ ?_
 ·clear h;intro hb h;conv=>whnf
  replace h:=Xbh.elim h;obtain ⟨hb,h⟩:=h
  refine req.intro (XIM rfl (by first|rfl|(simp;done)) (by first|rfl|omega|(simp;done)|(simp;omega)|(simp at *;omega)) (of_decide_eq_true hb)) ?_
  conv=>whnf
  refine XV9 ?_
  conv=>whnf
  exact W
 clear h;intro hb h;conv=>whnf
 replace h:=Xbh.elim h;obtain ⟨hb,h⟩:=h
 try (refine req.intro hb ?_;conv=>whnf)
 replace h:=Xdg.elim h;obtain ⟨e2,hy,h⟩:=h
 refine rd.I hy (by first|rfl|(rw [Nat.zero_add,Nat.mul_one];try rfl;done)|omega) ?_
 conv=>whnf
 replace h:=Xbh.elim h;obtain ⟨hb,h⟩:=h
 try (refine req.intro hb ?_;conv=>whnf)
 replace h:=Xdg.elim h;obtain ⟨e3,hy,h⟩:=h
 refine rd.I hy (by first|rfl|(rw [Nat.zero_add,Nat.mul_one];try rfl;done)|omega) ?_
 conv=>whnf
 replace h:=Xdg.elim h;obtain ⟨p1,hy,h⟩:=h
 refine Xg9.a (Xlb hy) ?_
 conv=>whnf
 replace h:=Xbh.elim h;obtain ⟨hb,h⟩:=h
 first|refine req.intro (Xup (of_decide_eq_true hb) (by first|rfl|omega|(simp;done)|(simp;omega)|(simp at *;omega)) rfl rfl (by first|rfl|omega|(simp;done)|(simp;omega)|(simp at *;omega)) (by first|rfl|exact Xh3 _ _|exact Xkf _|exact Xku _|exact Xk5 (by first|exact Xdw|exact Xc4|exact XdD|exact Xcj|exact Xb7|exact XdB|exact XcI|exact Xcr|exact Xc6|exact XdC|exact XcH|exact Xdz|exact Xeg|exact Xcg|exact Xci|exact Xee|exact XcG) _|(rw [Xe7];exact Xh3 _ _)|(simp [Xh3,Xkf,Xku,Xly,Xlk,XmQ,XmW];done)|(simp;exact List.all_eq_true.1 (Xk5 (by first|exact Xdw|exact Xc4|exact XdD|exact Xcj|exact Xb7|exact XdB|exact XcI|exact Xcr|exact Xc6|exact XdC|exact XcH|exact Xdz|exact Xeg|exact Xcg|exact Xci|exact Xee|exact XcG) _))) rfl) ?_|skip
 conv=>whnf
 let row:List Int:=c++(bI p1)
 first|have hlen_row:row.length=_:=List.length_append ..|skip
 refine XAP (xs:=c) (ys:=bI p1) (Xe7 _) (by first|rfl|omega|(simp;done)|(simp;omega)|(simp at *;omega)) (by first|rfl|omega|(simp;done)|(simp;omega)|(simp at *;omega)) ?_
 conv=>whnf
 cases h;simp only [Sum.elim_inl,Xle] at hc
 exact Xmp hc [(0,0),(1,1),(12,23)] rfl
theorem XEO (Xaj:XaR) (hS:Xak Tryz.prog (XaD (XAM Xaj))) (l:List Int) (res:List UInt8) (h:XjD Xaj l=some res) :
 XaG Tryz.prog 196 1 ⟨⟨196,25,[(0,.slice (some ⟨0,0,none⟩) l.length 1)],[.code XAc],[],false,none⟩,[],[(0,.row false (vI .i64 l))],1⟩ (fun v H _=>Res 1 (Xwk res) v H):=by
 unfold XjD at h
 refine Xa6 XaE hS true 3000 ?_
 conv=>whnf
 refine Xa6 XaE hS true 3000 ?_
 conv=>whnf
 refine br.h2 h (by rfl) ?_ ?_
 ·clear h;intro hb h;conv=>whnf
  exact W
 clear h;intro hb h;conv=>whnf
 replace h:=Xbh.elim h;obtain ⟨hb,h⟩:=h
 try (refine req.intro hb ?_;conv=>whnf)
 replace h:=Xdg.elim h;obtain ⟨e,hy,h⟩:=h
 refine rd.I hy (by first|rfl|(rw [Nat.zero_add,Nat.mul_one];try rfl;done)|omega) ?_
 conv=>whnf
 replace h:=Xbh.elim h;obtain ⟨hb,h⟩:=h
 try (refine req.intro hb ?_;conv=>whnf)
 replace h:=Xdg.elim h;obtain ⟨e1,hy,h⟩:=h
 refine rd.I hy (by first|rfl|(rw [Nat.zero_add,Nat.mul_one];try rfl;done)|omega) ?_
 conv=>whnf
 replace h:=Xdg.elim h;obtain ⟨p,hy,h⟩:=h
 refine Xg9.a (Xlb hy) ?_
 conv=>whnf
 replace h:=Xbh.elim h;obtain ⟨hb,h⟩:=h
 refine req.intro (Xu8 (of_decide_eq_true hb) (by first|rfl|omega|(simp;done)|(simp;omega)|(simp at *;omega)) rfl rfl) ?_
 conv=>whnf
 refine XzP (ys:=bI p) (Xe7 _) (by first|rfl|omega|(simp;done)|(simp;omega)|(simp at *;omega)) ?_
 conv=>whnf
 have hl:=XyY Xaj hS _ res _ _ _ h rfl;simp only [Xle] at hl
 exact Xmp hl [(0,0),(1,1),(12,12)] rfl
def Xb0:Xd5:=XjD Xaj
theorem XAE:XbM Tryz.prog 196 (s196 Xb0):=by
 have hL:=XEO Xaj (Xak.XaM ⟨Xnh,trivial⟩)
 exact okA ⟨Tryz.f196,rfl,by decide,rfl⟩
def XiQ (XbZ:Xd2) (XaC:XbW) (Xb0:Xd5) (src:Xaa) (dst:Xaa) (proto:Int) (n:Int):Option (List UInt8):=
 (XaC src).bind fun xr=>
 cond (!xr)
  (
  some ([]))
  (
  (XaC dst).bind fun xr1=>
  cond (!xr1)
   (
   some ([]))
   (
   cond (!(src.V6==dst.V6))
    (
    some ([]))
    (
    (XbZ src).bind fun p=>
    (XbZ dst).bind fun p1=>
    Xbh (decide (p.length+p1.length<2^63)) <|
    cond (src.V6)
     (
     (Xb0 [n,4,0,3,proto,1]).bind fun xr2=>
     Xbh (decide ((p++p1).length+xr2.length<2^63)) <|
     some ((p++p1)++xr2))
     (
     (Xb0 [0,1,proto,1,n,2]).bind fun xr3=>
     Xbh (decide ((p++p1).length+xr3.length<2^63)) <|
     some ((p++p1)++xr3)))))
def XDe (x:List UInt8):XcU:=⟨.string ⟨⟨x⟩⟩,[],[]⟩
abbrev XbD:=Xaa→Xaa→Int→Int→Option (List UInt8)
def r180 (g:XbD):Dec:=dV Xb6 fun (y0:Xaa)=>dV Xb6 fun (y1:Xaa)=>dV (asI .i64) fun (y2:Int)=>dV (asI .i64) fun (y3:Int)=>XdX (ofG (g y0 y1 y2 y3) XDe)
theorem XVK {g:XbD} {y0:Xaa} {y1:Xaa} {y2:Int} {y3:Int} {x:List UInt8} (hx:g y0 y1 y2 y3=some x):r180 g [.agg ⟨[.bool y0.V6,.int .u64 y0.Hi,.int .u64 y0.Lo]⟩,.agg ⟨[.bool y1.V6,.int .u64 y1.Hi,.int .u64 y1.Lo]⟩,.int .i64 y2,.int .i64 y3] []=some (XDe x):=(XaS (XbP _)).trans ((XaS (XbP _)).trans ((XaS (XeL _)).trans ((XaS (XeL _)).trans (XaQ hx))))
def XQg (g:XbD):XbE:=⟨[.v,.v,.v,.v],r180 g⟩
theorem Xsd {g:XbD} {y0:Xaa} {y1:Xaa} {y2:Int} {y3:Int} {x:List UInt8} (hx:g y0 y1 y2 y3=some x):(XQg g).run [.agg ⟨[.bool y0.V6,.int .u64 y0.Hi,.int .u64 y0.Lo]⟩,.agg ⟨[.bool y1.V6,.int .u64 y1.Hi,.int .u64 y1.Lo]⟩,.int .i64 y2,.int .i64 y3] []=some (XDe x):=XVK hx
abbrev XK6 (XbZ:Xd2) (XaC:XbW) (Xb0:Xd5):List (Nat×XbE):=[(195,XS3 XbZ),(110,XKN XaC),(196,s196 Xb0)]
theorem XDF (XbZ:Xd2) (XaC:XbW) (Xb0:Xd5) (hS:Xak Tryz.prog (XaD (XK6 XbZ XaC Xb0))) (src:Xaa) (dst:Xaa) (proto:Int) (n:Int) (res:List UInt8) (h:XiQ XbZ XaC Xb0 src dst proto n=some res) :
 XaG Tryz.prog 180 0 ⟨⟨180,44,[(0,.agg ⟨[.bool src.V6,.int .u64 src.Hi,.int .u64 src.Lo]⟩),(1,.agg ⟨[.bool dst.V6,.int .u64 dst.Hi,.int .u64 dst.Lo]⟩),(2,.int .i64 proto),(3,.int .i64 n)],[.code Xzn],[],false,none⟩,[],[],0⟩ (fun v H _=>Res 0 (XDe res) v H):=by
 unfold XiQ at h
 have R1:=@Xp8 XaC
 have R2:=@Xul XbZ
 have R3:=@XAo Xb0
 refine Xa6 XaE hS true 3000 ?_
 conv=>whnf
 exact W
def XaB:XbD:=XiQ XbZ XaC Xb0
theorem XrO:XbM Tryz.prog 180 (XQg XaB):=by
 have hL:=XDF XbZ XaC Xb0 (Xak.XaM ⟨Xuo,XpD,XAE,trivial⟩)
 exact okA ⟨Tryz.f180,rfl,by decide,rfl⟩
def Xnb (Xa4:Xcn) (n:Int) (k:Int):Option (List UInt8):=
 (Xa4 (wI .u64 n) k).bind fun p=>
 some (p)
def XDb (x:List UInt8):XcU:=⟨.string ⟨⟨x⟩⟩,[],[]⟩
abbrev XfD:=Int→Int→Option (List UInt8)
def r147 (g:XfD):Dec:=dV (asI .i64) fun (y0:Int)=>dV (asI .i64) fun (y1:Int)=>XdX (ofG (g y0 y1) XDb)
theorem XTf {g:XfD} {y0:Int} {y1:Int} {x:List UInt8} (hx:g y0 y1=some x):r147 g [.int .i64 y0,.int .i64 y1] []=some (XDb x):=(XaS (XeL _)).trans ((XaS (XeL _)).trans (XaQ hx))
def s147 (g:XfD):XbE:=⟨[.v,.v],r147 g⟩
theorem XzQ {g:XfD} {y0:Int} {y1:Int} {x:List UInt8} (hx:g y0 y1=some x):(s147 g).run [.int .i64 y0,.int .i64 y1] []=some (XDb x):=XTf hx
abbrev XLk (Xa4:Xcn):List (Nat×XbE):=[(63,s63 Xa4)]
theorem XGP (Xa4:Xcn) (hS:Xak Tryz.prog (XaD (XLk Xa4))) (n:Int) (k:Int) (res:List UInt8) (h:Xnb Xa4 n k=some res) :
 XaG Tryz.prog 147 0 ⟨⟨147,9,[(0,.int .i64 n),(1,.int .i64 k)],[.code XJv],[],false,none⟩,[],[],0⟩ (fun v H _=>Res 0 (XDb res) v H):=by
 unfold Xnb at h
 have R1:=@Xq0 Xa4
 refine Xa6 XaE hS true 3000 ?_
 conv=>whnf
 exact W
def Xb8:XfD:=Xnb Xa4
theorem XBz:XbM Tryz.prog 147 (s147 Xb8):=by
 have hL:=XGP Xa4 (Xak.XaM ⟨Xrg,trivial⟩)
 exact okA ⟨Tryz.f147,rfl,by decide,rfl⟩
def XkK (Xcp:XeE) (XaN:Xce) (Xb8:XfD) (src:Xaa) (dst:Xaa) (proto:Int) (n:Int):Option (List UInt8):=
 (XaN src).bind fun xr=>
 cond (!xr)
  (
  some ([]))
  (
  (XaN dst).bind fun xr1=>
  cond (!xr1)
   (
   some ([]))
   (
   cond (!(src.V6==dst.V6))
    (
    some ([]))
    (
    cond (src.V6)
     (
     (Xcp src).bind fun p=>
     (Xcp dst).bind fun p1=>
     Xbh (decide (p.length+p1.length<2^63)) <|
     (Xb8 n 4).bind fun n1=>
     Xbh (decide ((p++p1).length+n1.length<2^63)) <|
     (Xb8 0 3).bind fun n2=>
     Xbh (decide (((p++p1)++n1).length+n2.length<2^63)) <|
     (Xb8 proto 1).bind fun n3=>
     Xbh (decide ((((p++p1)++n1)++n2).length+n3.length<2^63)) <|
     some ((((p++p1)++n1)++n2)++n3))
     (
     (Xcp src).bind fun p2=>
     (Xcp dst).bind fun p3=>
     Xbh (decide (p2.length+p3.length<2^63)) <|
     (Xb8 0 1).bind fun n4=>
     Xbh (decide ((p2++p3).length+n4.length<2^63)) <|
     (Xb8 proto 1).bind fun n5=>
     Xbh (decide (((p2++p3)++n4).length+n5.length<2^63)) <|
     (Xb8 n 2).bind fun n6=>
     Xbh (decide ((((p2++p3)++n4)++n5).length+n6.length<2^63)) <|
     some ((((p2++p3)++n4)++n5)++n6)))))
def XF9 (x:List UInt8):XcU:=⟨.string ⟨⟨x⟩⟩,[],[]⟩
abbrev XcD:=Xaa→Xaa→Int→Int→Option (List UInt8)
def r101 (g:XcD):Dec:=dV Xb6 fun (y0:Xaa)=>dV Xb6 fun (y1:Xaa)=>dV (asI .i64) fun (y2:Int)=>dV (asI .i64) fun (y3:Int)=>XdX (ofG (g y0 y1 y2 y3) XF9)
theorem XVr {g:XcD} {y0:Xaa} {y1:Xaa} {y2:Int} {y3:Int} {x:List UInt8} (hx:g y0 y1 y2 y3=some x):r101 g [.agg ⟨[.bool y0.V6,.int .u64 y0.Hi,.int .u64 y0.Lo]⟩,.agg ⟨[.bool y1.V6,.int .u64 y1.Hi,.int .u64 y1.Lo]⟩,.int .i64 y2,.int .i64 y3] []=some (XF9 x):=(XaS (XbP _)).trans ((XaS (XbP _)).trans ((XaS (XeL _)).trans ((XaS (XeL _)).trans (XaQ hx))))
def XRy (g:XcD):XbE:=⟨[.v,.v,.v,.v],r101 g⟩
theorem XuP {g:XcD} {y0:Xaa} {y1:Xaa} {y2:Int} {y3:Int} {x:List UInt8} (hx:g y0 y1 y2 y3=some x):(XRy g).run [.agg ⟨[.bool y0.V6,.int .u64 y0.Hi,.int .u64 y0.Lo]⟩,.agg ⟨[.bool y1.V6,.int .u64 y1.Hi,.int .u64 y1.Lo]⟩,.int .i64 y2,.int .i64 y3] []=some (XF9 x):=XVr hx
abbrev XNa (Xcp:XeE) (XaN:Xce) (Xb8:XfD):List (Nat×XbE):=[(146,XR6 Xcp),(59,s59 XaN),(147,s147 Xb8)]
theorem XGq (Xcp:XeE) (XaN:Xce) (Xb8:XfD) (hS:Xak Tryz.prog (XaD (XNa Xcp XaN Xb8))) (src:Xaa) (dst:Xaa) (proto:Int) (n:Int) (res:List UInt8) (h:XkK Xcp XaN Xb8 src dst proto n=some res) :
 XaG Tryz.prog 101 0 ⟨⟨101,52,[(0,.agg ⟨[.bool src.V6,.int .u64 src.Hi,.int .u64 src.Lo]⟩),(1,.agg ⟨[.bool dst.V6,.int .u64 dst.Hi,.int .u64 dst.Lo]⟩),(2,.int .i64 proto),(3,.int .i64 n)],[.code XAR],[],false,none⟩,[],[],0⟩ (fun v H _=>Res 0 (XF9 res) v H):=by
 unfold XkK at h
 have R1:=@Xtd XaN
 have R2:=@XuK Xcp
 have R3:=@XzQ Xb8
 refine Xa6 XaE hS true 3000 ?_
 conv=>whnf
 exact W
def Xbv:XcD:=XkK Xcp XaN Xb8
theorem Xt2:XbM Tryz.prog 101 (XRy Xbv):=by
 have hL:=XGq Xcp XaN Xb8 (Xak.XaM ⟨Xu4,XtI,XBz,trivial⟩)
 exact okA ⟨Tryz.f101,rfl,by decide,rfl⟩
end Go.Vm.Code
namespace Go.Vm.Code
open Go Go.Vm
def A4 (a:Xaa):Prop:=0≤a.Hi∧a.Hi<2^64∧0≤a.Lo∧a.Lo<2^64
def aok (a:Xaa):Bool:=a.V6||(a.Hi==0&&decide (a.Lo<4294967296))
theorem Xkp (a:Xaa):XaC a=some (aok a):=by
 unfold XaC Xiw aok
 cases a.V6
 ·cases (a.Hi==0)<;>rfl
 ·rfl
theorem Xju (a:Xaa):XaN a=some (aok a):=by
 unfold XaN Xkr aok
 cases a.V6
 ·cases (a.Hi==0)<;>rfl
 ·rfl
def Xel (a:Xaa):List UInt8:=cond a.V6 (be a.Hi.toNat 8++be a.Lo.toNat 8) (be a.Lo.toNat 4)
theorem XeD (a:Xaa):(Xel a).length=cond a.V6 16 4:=by unfold Xel;cases a.V6<;>simp
theorem Xfo {n:Int} {k:Nat} (h:1≤k∧k≤8):XcF n (k:Int)=be n.toNat k:=by unfold XcF;rw [if_pos (by omega)];rfl
theorem Xsk {a:Xaa} (h:A4 a) (hr:aok a=true):XbZ a=some (Xel a):=by
 obtain ⟨h1,h2,h3,h4⟩:=h
 unfold XbZ Xlj Xel
 rw [Xkp,Option.bind_some,hr]
 simp only [Bool.not_true,cond_false]
 cases a.V6
 ·simp only [cond_false]
  rw [Xbu h3,Option.bind_some,show (4:Int)=((4:Nat):Int) from rfl,Xfo (by omega)]
 ·simp only [cond_true]
  rw [Xbu h1,Option.bind_some,Xbu h3,Option.bind_some,show (8:Int)=((8:Nat):Int) from rfl,Xfo (by omega),Xfo (by omega),Xar (by simp)]
theorem Xpa {a:Xaa} (h:A4 a) (hr:aok a=true):Xcp a=some (Xel a):=by
 obtain ⟨h1,h2,h3,h4⟩:=h
 unfold Xcp Xns Xel
 rw [Xju,Option.bind_some,hr]
 simp only [Bool.not_true,cond_false]
 cases a.V6
 ·simp only [cond_false]
  rw [Xdb h3 h4,Option.bind_some,show (4:Int)=((4:Nat):Int) from rfl,Xfo (by omega)]
 ·simp only [cond_true]
  rw [Xdb h1 h2,Option.bind_some,Xdb h3 h4,Option.bind_some,show (8:Int)=((8:Nat):Int) from rfl,Xfo (by omega),Xfo (by omega),Xar (by simp)]
theorem XpS {n k:Int} (h0:0≤n) (h1:n<2^63):Xb8 n k=some (XcF n k):=by
 unfold Xb8 Xnb
 rw [XfY h0 (by omega),Xdb h0 (by omega)];rfl
theorem Xbc (n k:Int):(XcF n k).length≤8:=by unfold XcF;split<;>simp<;>omega
theorem XF1 (s:List UInt8):iB (bI s)=s:=by simp [iB,bI,List.map_map,Function.comp_def]
theorem XVo (a b:List Int):iB (a++b)=iB a++iB b:=by simp [iB]
theorem Xre (a b:List UInt8):bI (a++b)=bI a++bI b:=by simp [bI]
theorem Xnp {σ ρ:Type} {f:σ→Option (Sum σ ρ)} {n:Nat} {s s':σ} (h:f s=some (.inl s')):iter f (n+1) s=iter f n s':=by rw [iter,h]
theorem Xv6 {σ ρ:Type} {f:σ→Option (Sum σ ρ)} {n:Nat} {s:σ} {r:ρ} (h:f s=some (.inr r)):iter f (n+1) s=some r:=by rw [iter,h]
theorem XtP:∃ n,FUEL=n+8:=⟨18446744073709551608,rfl⟩
theorem XJm {a b c d e f:Int} (ha:0≤a) (hc:0≤c) (he:0≤e) (ha1:a<2^63) (hc1:c<2^63) (he1:e<2^63):Xb0 [a,b,c,d,e,f]=some (XcF a b++XcF c d++XcF e f):=by
 have l1:=Xbc a b
 have l2:=Xbc c d
 have l3:=Xbc e f
 unfold Xb0 XjD
 rw [XaP (by simp),Xar (by simp)]
 show ((some a).bind _)=_
 rw [Option.bind_some,Xar (by simp)]
 show ((some b).bind _)=_
 rw [Option.bind_some,XfY ha (by omega),Xbu ha,Option.bind_some,Xar (by omega)]
 obtain ⟨n,hn⟩:=XtP
 rw [hn]
 have s1:Xdd Xaj [a,b,c,d,e,f] 2 (bI (XcF a b))=some (.inl (4,bI (XcF a b++XcF c d))):=by
  unfold Xdd
  simp only []
  rw [XaP (by rw [show wI .i64 (2+1)=3 from rfl];simp),Xar (by simp)]
  show ((some c).bind _)=_
  rw [Option.bind_some,Xar (by rw [show wI .i64 (2+1)=3 from rfl];simp)]
  show ((some d).bind _)=_
  rw [Option.bind_some,XfY hc (by omega),Xbu hc,Option.bind_some,Xar (by simp;omega),Xre];rfl
 have s2:Xdd Xaj [a,b,c,d,e,f] 4 (bI (XcF a b++XcF c d))=some (.inl (6,bI (XcF a b++XcF c d++XcF e f))):=by
  unfold Xdd
  simp only []
  rw [XaP (by rw [show wI .i64 (4+1)=5 from rfl];simp),Xar (by simp)]
  show ((some e).bind _)=_
  rw [Option.bind_some,Xar (by rw [show wI .i64 (4+1)=5 from rfl];simp)]
  show ((some f).bind _)=_
  rw [Option.bind_some,XfY he (by omega),Xbu he,Option.bind_some,Xar (by simp;omega),Xre (XcF a b++XcF c d)];rfl
 have s3:Xdd Xaj [a,b,c,d,e,f] 6 (bI (XcF a b++XcF c d++XcF e f))=some (.inr (XcF a b++XcF c d++XcF e f)):=by
  unfold Xdd
  simp only []
  rw [XaK (by rw [show wI .i64 (6+1)=7 from rfl];simp),Xar (by simp;omega),XF1]
 rw [Xnp (f:=fun (st:Int×List Int)=>Xdd Xaj [a,b,c,d,e,f] st.1 st.2) (n:=n+7) s1,Xnp (n:=n+6) s2,Xv6 (n:=n+5) s3]
def Xma (src dst:Xaa) (p n:Int):List UInt8:=
 if aok src=true∧aok dst=true∧src.V6=dst.V6 then Xel src++Xel dst++cond src.V6 (XcF n 4++XcF 0 3++XcF p 1) (XcF 0 1++XcF p 1++XcF n 2) else []
theorem XjT (src dst:Xaa) (p n:Int):(Xma src dst p n).length≤56:=by
 have l1:=Xbc n 4
 have l2:=Xbc 0 3
 have l3:=Xbc p 1
 have l4:=Xbc 0 1
 have l5:=Xbc n 2
 unfold Xma
 split
 ·rw [List.length_append,List.length_append,XeD,XeD]
  cases src.V6<;>cases dst.V6<;>simp<;>omega
 ·simp
theorem Xnc {src dst:Xaa} {p n:Int} (h1:A4 src) (h2:A4 dst) (hp:0≤p∧p<2^63) (hn:0≤n∧n<2^63):XaB src dst p n=some (Xma src dst p n):=by
 unfold XaB XiQ Xma
 rw [Xkp,Xkp,Option.bind_some]
 cases e1:aok src
 ·simp
 simp only [Bool.not_true,cond_false,Option.bind_some]
 cases e2:aok dst
 ·simp
 simp only [Bool.not_true,cond_false]
 by_cases e3:src.V6=dst.V6
 ·rw [if_pos (by simpa using e3),show (src.V6==dst.V6)=true by simpa using e3]
  simp only [Bool.not_true,cond_false]
  have l1:=XeD src
  have l2:=XeD dst
  rw [Xsk h1 e1,Option.bind_some,Xsk h2 e2,Option.bind_some,Xar (by rw [l1,l2];cases src.V6<;>cases dst.V6<;>decide)]
  rw [XJm hn.1 (by omega) hp.1 hn.2 (by omega) hp.2,XJm (by omega) hp.1 hn.1 (by omega) hp.2 hn.2]
  have m1:=Xbc n 4
  have m2:=Xbc 0 3
  have m3:=Xbc p 1
  have m4:=Xbc 0 1
  have m5:=Xbc n 2
  have b1:(Xel src).length≤16:=by rw [l1];cases src.V6<;>decide
  have b2:(Xel dst).length≤16:=by rw [l2];cases dst.V6<;>decide
  cases src.V6
  ·simp only [cond_false,Option.bind_some]
   rw [Xar (by simp only [List.length_append];omega)]
  ·simp only [cond_true,Option.bind_some]
   rw [Xar (by simp only [List.length_append];omega)]
 ·rw [if_neg (fun h=>e3 h.2.2),show (src.V6==dst.V6)=false by simpa using e3];rfl
theorem Xmm {src dst:Xaa} {p n:Int} (h1:A4 src) (h2:A4 dst) (hp:0≤p∧p<2^63) (hn:0≤n∧n<2^63):Xbv src dst p n=some (Xma src dst p n):=by
 unfold Xbv XkK Xma
 rw [Xju,Xju,Option.bind_some]
 cases e1:aok src
 ·simp
 simp only [Bool.not_true,cond_false,Option.bind_some]
 cases e2:aok dst
 ·simp
 simp only [Bool.not_true,cond_false]
 by_cases e3:src.V6=dst.V6
 ·rw [if_pos (by simpa using e3),show (src.V6==dst.V6)=true by simpa using e3]
  simp only [Bool.not_true,cond_false]
  have l1:=XeD src
  have l2:=XeD dst
  have m1:=Xbc n 4
  have m2:=Xbc 0 3
  have m3:=Xbc p 1
  have m4:=Xbc 0 1
  have m5:=Xbc n 2
  have b1:(Xel src).length≤16:=by rw [l1];cases src.V6<;>decide
  have b2:(Xel dst).length≤16:=by rw [l2];cases dst.V6<;>decide
  rw [Xpa h1 e1,Xpa h2 e2,XpS hn.1 hn.2,XpS (n:=0) (k:=3) (by omega) (by omega),XpS hp.1 hp.2,XpS (n:=0) (k:=1) (by omega) (by omega),XpS hn.1 hn.2]
  cases src.V6
  ·simp only [cond_false,Option.bind_some]
   rw [Xar (by omega),Xar (by simp only [List.length_append];omega),Xar (by simp only [List.length_append];omega),Xar (by simp only [List.length_append];omega)]
   simp only [List.append_assoc]
  ·simp only [cond_true,Option.bind_some]
   rw [Xar (by omega),Xar (by simp only [List.length_append];omega),Xar (by simp only [List.length_append];omega),Xar (by simp only [List.length_append];omega)]
   simp only [List.append_assoc]
 ·rw [if_neg (fun h=>e3 h.2.2),show (src.V6==dst.V6)=false by simpa using e3];rfl
theorem Xml (n:Int):0≤wI .u64 n∧wI .u64 n<2^64:=by rw [wU64m];omega
def XM1:List Int→List UInt8
 | a::b::l=>XcF (wI .u64 a) b++XM1 l
 | _=>[]
theorem XKS {l:List Int} (he:l.length%2=0) (h2:2≤l.length) (hl:l.length≤1000):Xb0 l=some (XM1 l):=by
 unfold Xb0 XjD
 obtain ⟨a,b,r,rfl⟩:∃ a b r,l=a::b::r:=by
  match l,h2 with
  | a::b::r,_=>exact ⟨a,b,r,rfl⟩
 have p0:=Xbc (wI .u64 a) b
 rw [XaP (by simp;omega),Xar (by simp;omega)]
 show ((some a).bind _)=_
 rw [Option.bind_some,Xar (by simp;omega)]
 show ((some b).bind _)=_
 rw [Option.bind_some,Xbu (Xml a).1,Option.bind_some,Xar (by omega)]
 generalize hL:a::b::r=L at *
 have key:=iter_eq (step:=fun (st:Int×List Int)=>Xdd Xaj L st.1 st.2) (fun st=>iB st.2++XM1 (L.drop st.1.toNat)) (fun st=>0≤st.1∧st.1≤L.length∧st.1.toNat%2=0∧st.2.length≤8*st.1.toNat) (fun st=>(L.length - st.1).toNat) ?_ FUEL (2,bI (XcF (wI .u64 a) b)) ⟨by simp,by simp only;omega,by simp,by simp;omega⟩ (by rw [XgM];simp only;omega)
 ·rw [key]
  simp only [XF1]
  subst hL;rfl
 rintro ⟨p,c⟩ ⟨g1,g2,g3,g4⟩
 simp only at g1 g2 g3 g4 ⊢
 obtain ⟨i,rfl⟩:=Int.eq_ofNat_of_zero_le g1
 simp only [Int.toNat_natCast] at g3 g4 ⊢
 unfold Xdd
 simp only []
 rw [XdT (n:=(i:Int)+1) (by omega) (by omega)]
 by_cases hi:i<L.length
 ·have hi1:i+1<L.length:=by omega
  have pl:=Xbc (wI .u64 L[i]) L[i+1]
  refine .inr ⟨(((i+2:Nat):Int),c++bI (XcF (wI .u64 L[i]) L[i+1])),?_,⟨by simp only;omega,by simp only;omega,by simp only [Int.toNat_natCast];omega,by simp;omega⟩,by simp only;omega,?_⟩
  ·rw [XaP (by omega),Xar (by omega),Int.toNat_natCast,List.getElem?_eq_getElem hi,Option.bind_some,Xar (by omega),show ((i:Int)+1).toNat=i+1 by omega,List.getElem?_eq_getElem hi1,Option.bind_some,Xbu (Xml _).1,Option.bind_some,Xar (by omega),XdT (by omega) (by omega)];rfl
  ·simp only [Int.toNat_natCast]
   rw [XVo,XF1,List.drop_eq_getElem_cons hi,List.drop_eq_getElem_cons hi1,XM1];simp
 ·refine .inl ?_
  rw [XaK (by omega),Xar (by omega),List.drop_eq_nil_of_le (by omega)];simp [XM1]
theorem XHg (n k:Int):Xb8 n k=some (XcF (wI .u64 n) k):=by
 unfold Xb8 Xnb
 rw [Xdb (Xml n).1 (Xml n).2];rfl
end Go.Vm.Code
namespace Go.Vm.Code
open Go Go.Vm Go.Proofs
set_option maxRecDepth 100000
set_option maxHeartbeats 4000000
set_option linter.unusedVariables false
def XgR (ra0:Xah):Option (Bool×Xah):=
 cond (!ra0.made)
  (
  some ((true,ra0)))
  (
  some ((ra0.bad,ra0)))
def XDs (x:Bool×Xah):XcU:=⟨.bool x.1,[],[some [.string ⟨⟨x.2.s⟩⟩,.bool x.2.made,.bool x.2.bad]]⟩
abbrev XaI:=Xah→Option (Bool×Xah)
def r138 (g:XaI):Dec:=dPt 0 XdZ fun (y0:Xah)=>XdX (ofG (g y0) XDs)
theorem XU8 {g:XaI} {y0:Xah} {x:Bool×Xah} (hx:g y0=some x):r138 g [.pointer (some ⟨0,0,none⟩)] [some [.string ⟨⟨y0.s⟩⟩,.bool y0.made,.bool y0.bad]]=some (XDs x):=(Xie (Xga _)).trans (XaQ hx)
def XH9 (g:XaI):XbE:=⟨[.pt 3],r138 g⟩
theorem XmP {g:XaI} {y0:Xah} {x:Bool×Xah} (hx:g y0=some x):(XH9 g).run [.pointer (some ⟨0,0,none⟩)] [some [.string ⟨⟨y0.s⟩⟩,.bool y0.made,.bool y0.bad]]=some (XDs x):=XU8 hx
abbrev XNW:List (Nat×XbE):=[]
theorem XGR (hS:Xak Tryz.prog (XaD (XNW))) (ra0:Xah) (res:Bool×Xah) (h:XgR ra0=some res) :
 XaG Tryz.prog 138 1 ⟨⟨138,18,[(0,.pointer (some ⟨0,0,none⟩))],[.code XIY],[],false,none⟩,[],[(0,.cells [.string ⟨⟨ra0.s⟩⟩,.bool ra0.made,.bool ra0.bad])],1⟩ (fun v H _=>Res 1 (XDs res) v H):=by
 unfold XgR at h
 refine Xa6 XaE hS true 3000 ?_
 conv=>whnf
 exact W
def Xai:XaI:=XgR
theorem Xog:XbM Tryz.prog 138 (XH9 Xai):=by
 have hL:=XGR (Xak.XaM trivial)
 exact okA ⟨Tryz.f138,rfl,by decide,rfl⟩
def Xgs (Xai:XaI) (ra0:Xah) (n:Int):Option ((List UInt8)×Xah):=
 (Xai ra0).bind fun b=>
 cond (b.1)
  (
  some (([],b.2)))
  (
  cond (decide (n<0))
   (
   some (([],Xah.mk b.2.s b.2.made true)))
   (
   cond (decide (n>(b.2.s.length:Int)))
    (
    some (([],Xah.mk b.2.s b.2.made true)))
    (
    Xbh (decide ((0:Int)≤n∧n≤(b.2.s.length:Int))) <|
    Xbh (decide ((0:Int)≤n∧n≤(b.2.s.length:Int))) <|
    let t:=(b.2.s.drop n.toNat).take (b.2.s.length - n.toNat)
    some ((b.2.s.take n.toNat,Xah.mk t b.2.made b.2.bad)))))
def XDz (x:(List UInt8)×Xah):XcU:=⟨.string ⟨⟨x.1⟩⟩,[],[some [.string ⟨⟨x.2.s⟩⟩,.bool x.2.made,.bool x.2.bad]]⟩
abbrev Xaw:=Xah→Int→Option ((List UInt8)×Xah)
def r129 (g:Xaw):Dec:=dPt 0 XdZ fun (y0:Xah)=>dV (asI .i64) fun (y1:Int)=>XdX (ofG (g y0 y1) XDz)
theorem XTl {g:Xaw} {y0:Xah} {y1:Int} {x:(List UInt8)×Xah} (hx:g y0 y1=some x):r129 g [.pointer (some ⟨0,0,none⟩),.int .i64 y1] [some [.string ⟨⟨y0.s⟩⟩,.bool y0.made,.bool y0.bad]]=some (XDz x):=(Xie (Xga _)).trans ((XaS (XeL _)).trans (XaQ hx))
def XBS (g:Xaw):XbE:=⟨[.pt 3,.v],r129 g⟩
theorem XlU {g:Xaw} {y0:Xah} {y1:Int} {x:(List UInt8)×Xah} (hx:g y0 y1=some x):(XBS g).run [.pointer (some ⟨0,0,none⟩),.int .i64 y1] [some [.string ⟨⟨y0.s⟩⟩,.bool y0.made,.bool y0.bad]]=some (XDz x):=XTl hx
abbrev XP8 (Xai:XaI):List (Nat×XbE):=[(138,XH9 Xai)]
theorem XEJ (Xai:XaI) (hS:Xak Tryz.prog (XaD (XP8 Xai))) (ra0:Xah) (n:Int) (res:(List UInt8)×Xah) (h:Xgs Xai ra0 n=some res) :
 XaG Tryz.prog 129 1 ⟨⟨129,38,[(0,.pointer (some ⟨0,0,none⟩)),(1,.int .i64 n)],[.code XzN],[],false,none⟩,[],[(0,.cells [.string ⟨⟨ra0.s⟩⟩,.bool ra0.made,.bool ra0.bad])],1⟩ (fun v H _=>Res 1 (XDz res) v H):=by
 unfold Xgs at h
 have R1:=@XmP Xai
 refine Xa6 XaE hS true 3000 ?_
 conv=>whnf
 exact W
def Xaf:Xaw:=Xgs Xai
theorem Xlr:XbM Tryz.prog 129 (XBS Xaf):=by
 have hL:=XEJ Xai (Xak.XaM ⟨Xog,trivial⟩)
 exact okA ⟨Tryz.f129,rfl,by decide,rfl⟩
def XgT (Xbf:XcO) (Xaf:Xaw) (ra0:Xah) (k:Int):Option (Int×Xah):=
 cond (decide (k<1))
  (
  (Xaf ra0 (-1)).bind fun t=>
  (Xbf t.1 0 (-1)).bind fun xg=>
  some ((wI .i64 xg.1,t.2)))
  (
  cond (decide (k>7))
   (
   (Xaf ra0 (-1)).bind fun t1=>
   (Xbf t1.1 0 (-1)).bind fun xg1=>
   some ((wI .i64 xg1.1,t1.2)))
   (
   (Xaf ra0 k).bind fun t2=>
   (Xbf t2.1 0 k).bind fun xg2=>
   some ((wI .i64 xg2.1,t2.2))))
def rx78 (x:Int×Xah):XcU:=⟨.int .i64 x.1,[],[some [.string ⟨⟨x.2.s⟩⟩,.bool x.2.made,.bool x.2.bad]]⟩
abbrev XaJ:=Xah→Int→Option (Int×Xah)
def r78 (g:XaJ):Dec:=dPt 0 XdZ fun (y0:Xah)=>dV (asI .i64) fun (y1:Int)=>XdX (ofG (g y0 y1) rx78)
theorem r78_c {g:XaJ} {y0:Xah} {y1:Int} {x:Int×Xah} (hx:g y0 y1=some x):r78 g [.pointer (some ⟨0,0,none⟩),.int .i64 y1] [some [.string ⟨⟨y0.s⟩⟩,.bool y0.made,.bool y0.bad]]=some (rx78 x):=(Xie (Xga _)).trans ((XaS (XeL _)).trans (XaQ hx))
def s78 (g:XaJ):XbE:=⟨[.pt 3,.v],r78 g⟩
theorem XmI {g:XaJ} {y0:Xah} {y1:Int} {x:Int×Xah} (hx:g y0 y1=some x):(s78 g).run [.pointer (some ⟨0,0,none⟩),.int .i64 y1] [some [.string ⟨⟨y0.s⟩⟩,.bool y0.made,.bool y0.bad]]=some (rx78 x):=r78_c hx
abbrev XRI (Xbf:XcO) (Xaf:Xaw):List (Nat×XbE):=[(95,s95 Xbf),(129,XBS Xaf)]
theorem XN2 (Xbf:XcO) (Xaf:Xaw) (hS:Xak Tryz.prog (XaD (XRI Xbf Xaf))) (ra0:Xah) (k:Int) (res:Int×Xah) (h:XgT Xbf Xaf ra0 k=some res) :
 XaG Tryz.prog 78 1 ⟨⟨78,23,[(0,.pointer (some ⟨0,0,none⟩)),(1,.int .i64 k)],[.code XIZ],[],false,none⟩,[],[(0,.cells [.string ⟨⟨ra0.s⟩⟩,.bool ra0.made,.bool ra0.bad])],1⟩ (fun v H _=>Res 1 (rx78 res) v H):=by
 unfold XgT at h
 have R1:=@XlU Xaf
 have R2:=@XAN Xbf
 refine Xa6 XaE hS true 3000 ?_
 conv=>whnf
 exact W
def Xad:XaJ:=XgT Xbf Xaf
theorem XqG:XbM Tryz.prog 78 (s78 Xad):=by
 have hL:=XN2 Xbf Xaf (Xak.XaM ⟨Xx6,Xlr,trivial⟩)
 exact okA ⟨Tryz.f78,rfl,by decide,rfl⟩
def XnW (s:List UInt8):Option Xah:=
 some (Xah.mk s true false)
def rx77 (x:Xah):XcU:=⟨.pointer (some ⟨0,0,none⟩),[[.string ⟨⟨x.s⟩⟩,.bool x.made,.bool x.bad]],[]⟩
abbrev Xcf:=(List UInt8)→Option Xah
def r77 (g:Xcf):Dec:=dV asS fun (y0:List UInt8)=>XdX (ofG (g y0) rx77)
theorem r77_c {g:Xcf} {y0:List UInt8} {x:Xah} (hx:g y0=some x):r77 g [.string ⟨⟨y0⟩⟩] []=some (rx77 x):=(XaS (Xd4)).trans (XaQ hx)
def s77 (g:Xcf):XbE:=⟨[.v],r77 g⟩
theorem XsP {g:Xcf} {y0:List UInt8} {x:Xah} (hx:g y0=some x):(s77 g).run [.string ⟨⟨y0⟩⟩] []=some (rx77 x):=r77_c hx
abbrev XVY:List (Nat×XbE):=[]
theorem XPX (hS:Xak Tryz.prog (XaD (XVY))) (s:List UInt8) (res:Xah) (h:XnW s=some res) :
 XaG Tryz.prog 77 0 ⟨⟨77,6,[(0,.string ⟨⟨s⟩⟩)],[.code XUX],[],false,none⟩,[],[],0⟩ (fun v H _=>Res 0 (rx77 res) v H):=by
 unfold XnW at h
 refine Xa6 XaE hS true 3000 ?_
 conv=>whnf
 exact W
def Xa3:Xcf:=XnW
theorem XsK:XbM Tryz.prog 77 (s77 Xa3):=by
 have hL:=XPX (Xak.XaM trivial)
 exact okA ⟨Tryz.f77,rfl,by decide,rfl⟩
end Go.Vm.Code
namespace Go.Vm.Code
open Go Go.Vm
def rdr (r:Xah) (k:Int):Xah:=if r.bad=true∨k<0∨k>r.s.length then ⟨r.s,true,true⟩ else ⟨r.s.drop k.toNat,true,false⟩
def rdt (r:Xah) (k:Int):List UInt8:=if r.bad=true∨k<0∨k>r.s.length then [] else r.s.take k.toNat
theorem Xgj {r:Xah} (h:r.made=true):Xai r=some (r.bad,r):=by
 unfold Xai XgR
 rw [h];rfl
theorem XgX {r:Xah} {k:Int} (h:r.made=true):Xaf r k=some (rdt r k,rdr r k):=by
 unfold Xaf Xgs rdt rdr
 rw [Xgj h,Option.bind_some]
 simp only []
 obtain ⟨s,m,b⟩:=r
 simp only at h ⊢
 subst h
 cases b with
 | true=>simp
 | false=>
   rw [cond_false]
   by_cases h1:k<0
   ·rw [XaP h1,if_pos (by omega),if_pos (by omega)]
   rw [XaK h1]
   by_cases h2:k>s.length
   ·rw [XaP h2,if_pos (by omega),if_pos (by omega)]
   ·have e:(s.drop k.toNat).take (s.length - k.toNat)=s.drop k.toNat:=List.take_of_length_le (by simp)
    rw [XaK h2,Xar (by omega),Xar (by omega),if_neg (by simp;omega),if_neg (by simp;omega),e]
theorem Xh2 (r:Xah) (k:Int):(rdr r k).made=true:=by unfold rdr;split<;>rfl
theorem Xt7 {r:Xah} {k:Int}:(rdr r k).bad=false↔r.bad=false∧0≤k∧k≤r.s.length:=by
 unfold rdr
 split
 ·rename_i h
  simp only [Bool.true_eq_false,false_iff]
  intro ⟨a,b,c⟩
  rcases h with h|h|h
  ·rw [a] at h;cases h
  ·omega
  ·omega
 ·rename_i h
  simp only [true_iff]
  cases hb:r.bad
  ·exact ⟨rfl,by omega,by omega⟩
  ·exact absurd (.inl hb) h
theorem XK2 {r:Xah} {k:Int} (h:(rdr r k).bad=false):((rdr r k).s.length:Int)=r.s.length - k:=by
 obtain ⟨a,b,c⟩:=Xt7.1 h
 unfold rdr
 rw [if_neg (by rw [a];simp;omega)]
 simp;omega
theorem XiI {r r':Xah} {k:Int} (h:rdr r k=r') (hb:r'.bad=false):r.bad=false∧(r'.s.length:Int)+k=r.s.length:=by
 subst h
 have:=XK2 hb
 exact ⟨(Xt7.1 hb).1,by omega⟩
theorem Xjx {s:List UInt8} {k:Int} (h0:0≤k) (h1:k≤s.length):rdr ⟨s,true,false⟩ k=⟨s.drop k.toNat,true,false⟩:=by
 unfold rdr;rw [if_neg (by simp;omega)]
theorem XjA {s:List UInt8} {k:Int} (h0:0≤k) (h1:k≤s.length):rdt ⟨s,true,false⟩ k=s.take k.toNat:=by
 unfold rdt;rw [if_neg (by simp;omega)]
theorem XM3 (r:Xah) (k:Int):(rdt r k).length≤r.s.length:=by
 unfold rdt;split
 ·simp
 ·rw [List.length_take];omega
def rdn (r:Xah) (k:Int):Int:=(Xfu (rdt r (if k<1∨k>7 then -1 else k)):Nat)
theorem Xh4 {r:Xah} {k:Int} (h:r.made=true) (hl:r.s.length<2^61):Xad r k=some (rdn r k,rdr r (if k<1∨k>7 then -1 else k)):=by
 unfold Xad XgT rdn
 have bad:Xaf r (-1)=some ([],rdr r (-1)):=by
  rw [XgX h];unfold rdt;rw [if_pos (by omega)]
 have e0:rdt r (-1)=[]:=by unfold rdt;rw [if_pos (by omega)]
 by_cases h1:k<1
 ·rw [XaP h1,bad,Option.bind_some,XgG (by simp),if_pos (by omega),Option.bind_some,e0];rfl
 rw [XaK h1]
 by_cases h2:k>7
 ·rw [XaP h2,bad,Option.bind_some,XgG (by simp),if_pos (by omega),Option.bind_some,e0];rfl
 have hlen:=XM3 r k
 rw [XaK h2,XgX h,Option.bind_some,XgG (by simp only [];omega),Option.bind_some,if_neg (by omega)]
 simp only []
 unfold Xxp
 by_cases hc:r.bad=true∨k<0∨k>r.s.length
 ·have e:rdt r k=[]:=by unfold rdt;rw [if_pos hc]
  rw [e,if_neg (by simp;omega)];rfl
 ·have hl2:(rdt r k).length=k.toNat:=by unfold rdt;rw [if_neg hc];simp;omega
  rw [if_pos (by omega)]
  have e2:((rdt r k).drop (0:Int).toNat).take k.toNat=rdt r k:=by
   rw [show (0:Int).toNat=0 from rfl,List.drop_zero,List.take_of_length_le (by omega)]
  have hv:Xfu (rdt r k)<2^56:=by
   have:=Xs3 (rdt r k)
   rw [hl2] at this
   exact XrE this (by omega)
  simp only [e2]
  rw [XdT (by omega) (by omega)]
theorem Xi7 {s:List UInt8} {p k:Int} (h0:0≤p) (h1:1≤k) (h8:k≤8) (h:p+k≤s.length):Xxp s p k=(((Xfu ((s.drop p.toNat).take k.toNat):Nat):Int),true):=by
 unfold Xxp;rw [if_pos (by omega)]
theorem Xqj (s:List UInt8):Xa3 s=some ⟨s,true,false⟩:=rfl
theorem Xo7 {n:Nat} (h:n<65536):Xfj (be n 2)=n:=by
 have e:be n 2=[UInt8.ofNat (n/256),UInt8.ofNat n]:=by simp [be]
 rw [e,Xfj,Xfj]
 simp only [UInt8.toNat_ofNat']
 omega
theorem Xni {n:Nat} (h:n%65535=0) (h0:n≠0):norm n=65535:=norm_eq (by omega) (by omega) (by omega)
def inR (n m:Int):Bool:=decide (0≤n∧n≤m)
theorem XAz {n m:Int}:inR n m=true↔0≤n∧n≤m:=by unfold inR;simp
theorem Xsb (n:Nat):(((n:Int).tmod 4)==0)=decide (n%4=0):=by
 rw [Int.tmod_eq_emod_of_nonneg (by omega),Bool.eq_iff_iff,beq_iff_eq,decide_eq_true_eq];omega
theorem XvE (n:Nat):decide ((n:Int)≤40)=decide (n≤40):=by rw [Bool.eq_iff_iff,decide_eq_true_eq,decide_eq_true_eq];omega
theorem XPP (n:Nat):(20+(n:Int)).tdiv 4=(((20+n)/4:Nat):Int):=by rw [Int.tdiv_eq_ediv_of_nonneg (by omega)];omega
def vK (s:List UInt8) (p k:Nat):Int:=(Xfu ((s.drop p).take k):Nat)
theorem XfQ (s:List UInt8) (p k n:Nat) (h:256^k≤n):0≤vK s p k∧vK s p k<n:=by
 have:=Xfn (l:=s.drop p) (k:=k) n h
 unfold vK;omega
theorem XJC {s:List UInt8} {p k:Nat} (h1:1≤k) (h7:k≤7) (h:p+k≤s.length) (hl:s.length<2^61):Xad ⟨s.drop p,true,false⟩ (k:Int)=some (vK s p k,⟨s.drop (p+k),true,false⟩):=by
 have hd:(s.drop p).length=s.length - p:=by simp
 rw [Xh4 rfl (by simp only;omega),if_neg (by omega),Xjx (by omega) (by omega)]
 unfold rdn
 rw [if_neg (by omega),XjA (by omega) (by omega),Int.toNat_natCast,List.drop_drop];rfl
theorem Xrs {s:List UInt8} {p k:Nat} (h:p+k≤s.length):Xaf ⟨s.drop p,true,false⟩ (k:Int)=some ((s.drop p).take k,⟨s.drop (p+k),true,false⟩):=by
 have hd:(s.drop p).length=s.length - p:=by simp
 rw [XgX rfl,Xjx (by omega) (by omega),XjA (by omega) (by omega),Int.toNat_natCast,List.drop_drop]
theorem XrI {s:List UInt8} {p k:Nat} (hs:s.length<2^61) (h1:1≤k) (h7:k≤7) (h:p+k≤s.length):Xao s (p:Int) (k:Int)=some (vK s p k):=by
 rw [Xir hs,Xi7 (by omega) (by omega) (by omega) (by omega)]
 have:=XfQ s p k (256^k) (Nat.le_refl _)
 have h8:256^k≤256^7:=Nat.pow_le_pow_right (by decide) h7
 have h9:(256:Nat)^7=72057594037927936:=by decide
 show some (wI .i64 (vK s p k))=_
 rw [XdT (by omega) (by omega)]
theorem XmD {s:List UInt8} {p:Nat} (h:p<s.length):vK s p 1=(s[p].toNat:Int):=by
 unfold vK
 rw [List.drop_eq_getElem_cons h]
 show ((Xfu [s[p]]:Nat):Int)=_
 rw [Xhj];simp
theorem Xyj {s:List UInt8} {p:Nat} (h:p+1<s.length):vK s p 2=(s[p].toNat*256+s[p+1].toNat:Int):=by
 unfold vK
 rw [List.drop_eq_getElem_cons (by omega:p<s.length),List.drop_eq_getElem_cons h]
 show ((Xfu [s[p],s[p+1]]:Nat):Int)=_
 rw [Xhj,Xhj];simp
theorem l1 {l:List UInt8} (h:l.length=1):∃ a,l=[a]:=by
 match l,h with
 | [a],_=>exact ⟨a,rfl⟩
theorem l2 {l:List UInt8} (h:l.length=2):∃ a b,l=[a,b]:=by
 match l,h with
 | [a,b],_=>exact ⟨a,b,rfl⟩
theorem l4 {l:List UInt8} (h:l.length=4):∃ a b c d,l=[a,b,c,d]:=by
 match l,h with
 | [a,b,c,d],_=>exact ⟨a,b,c,d,rfl⟩
theorem Xqx {s w:List UInt8} {p k n:Nat} (h:(s.drop p).take k=w) (e:w=be n k) (hn:n<256^k):vK s p k=(n:Int):=by
 unfold vK;rw [h,e,Xhf hn]
theorem Xsu (n:Int):XcF n 2=be n.toNat 2:=Xfo (k:=2) (by omega)
theorem Xx3 (src dst:Xaa) (p n:Int):(Xma src dst p n).length%2=0:=by
 unfold Xma
 split
 ·rename_i h
  rw [List.length_append,List.length_append,XeD,XeD,←h.2.2]
  cases src.V6
  ·simp only [cond_false,List.length_append]
   rw [show (XcF 0 1).length=1 from rfl,show XcF p 1=be p.toNat 1 from Xfo (k:=1) (by omega),show XcF n 2=be n.toNat 2 from Xfo (k:=2) (by omega),Xhd,Xhd]
  ·simp only [cond_true,List.length_append]
   rw [show (XcF 0 3).length=3 from rfl,show XcF p 1=be p.toNat 1 from Xfo (k:=1) (by omega),show XcF n 4=be n.toNat 4 from Xfo (k:=4) (by omega),Xhd,Xhd]
 ·rfl
end Go.Vm.Code
namespace Go.Vm.Code
open Go Go.Vm Go.Proofs
set_option maxRecDepth 100000
set_option maxHeartbeats 4000000
set_option linter.unusedVariables false
def XiN (n:Int) (most:Int):Option Bool:=
 cond (decide (0≤n))
  (
  some (decide (n≤most)))
  (
  some (false))
def XGa (x:Bool):XcU:=⟨.bool x,[],[]⟩
abbrev Xeh:=Int→Int→Option Bool
def r203 (g:Xeh):Dec:=dV (asI .i64) fun (y0:Int)=>dV (asI .i64) fun (y1:Int)=>XdX (ofG (g y0 y1) XGa)
theorem XUG {g:Xeh} {y0:Int} {y1:Int} {x:Bool} (hx:g y0 y1=some x):r203 g [.int .i64 y0,.int .i64 y1] []=some (XGa x):=(XaS (XeL _)).trans ((XaS (XeL _)).trans (XaQ hx))
def s203 (g:Xeh):XbE:=⟨[.v,.v],r203 g⟩
theorem XPf {g:Xeh} {y0:Int} {y1:Int} {x:Bool} (hx:g y0 y1=some x):(s203 g).run [.int .i64 y0,.int .i64 y1] []=some (XGa x):=XUG hx
abbrev XLF:List (Nat×XbE):=[]
theorem XD3 (hS:Xak Tryz.prog (XaD (XLF))) (n:Int) (most:Int) (res:Bool) (h:XiN n most=some res) :
 XaG Tryz.prog 203 0 ⟨⟨203,12,[(0,.int .i64 n),(1,.int .i64 most)],[.code XIi],[],false,none⟩,[],[],0⟩ (fun v H _=>Res 0 (XGa res) v H):=by
 unfold XiN at h
 refine Xa6 XaE hS true 3000 ?_
 conv=>whnf
 exact W
def Xcq:Xeh:=XiN
theorem XNf:XbM Tryz.prog 203 (s203 Xcq):=by
 have hL:=XD3 (Xak.XaM trivial)
 exact okA ⟨Tryz.f203,rfl,by decide,rfl⟩
def XjK (XaC:XbW) (a:Xaa):Option Bool:=
 cond (!a.V6)
  (
  (XaC a).bind fun xr=>
  some (xr))
  (
  some (false))
def XHq (x:Bool):XcU:=⟨.bool x,[],[]⟩
abbrev XeO:=Xaa→Option Bool
def r204 (g:XeO):Dec:=dV Xb6 fun (y0:Xaa)=>XdX (ofG (g y0) XHq)
theorem XR2 {g:XeO} {y0:Xaa} {x:Bool} (hx:g y0=some x):r204 g [.agg ⟨[.bool y0.V6,.int .u64 y0.Hi,.int .u64 y0.Lo]⟩] []=some (XHq x):=(XaS (XbP _)).trans (XaQ hx)
def s204 (g:XeO):XbE:=⟨[.v],r204 g⟩
theorem XJ9 {g:XeO} {y0:Xaa} {x:Bool} (hx:g y0=some x):(s204 g).run [.agg ⟨[.bool y0.V6,.int .u64 y0.Hi,.int .u64 y0.Lo]⟩] []=some (XHq x):=XR2 hx
abbrev XMl (XaC:XbW):List (Nat×XbE):=[(110,XKN XaC)]
theorem XEt (XaC:XbW) (hS:Xak Tryz.prog (XaD (XMl XaC))) (a:Xaa) (res:Bool) (h:XjK XaC a=some res) :
 XaG Tryz.prog 204 0 ⟨⟨204,10,[(0,.agg ⟨[.bool a.V6,.int .u64 a.Hi,.int .u64 a.Lo]⟩)],[.code XIL],[],false,none⟩,[],[],0⟩ (fun v H _=>Res 0 (XHq res) v H):=by
 unfold XjK at h
 have R1:=@Xp8 XaC
 refine Xa6 XaE hS true 3000 ?_
 conv=>whnf
 exact W
def Xeb:XeO:=XjK XaC
theorem XKh:XbM Tryz.prog 204 (s204 Xeb):=by
 have hL:=XEt XaC (Xak.XaM ⟨XpD,trivial⟩)
 exact okA ⟨Tryz.f204,rfl,by decide,rfl⟩
def Xhp (Xeb:XeO) (Xcq:Xeh) (ha0:Xal):Option Bool:=
 (Xcq ha0.Class 255).bind fun w=>
 cond (!w)
  (
  some (false))
  (
  (Xcq ha0.Mark 65535).bind fun w1=>
  cond (!w1)
   (
   some (false))
   (
   (Xcq ha0.TTL 255).bind fun w2=>
   cond (!w2)
    (
    some (false))
    (
    (Xcq ha0.Proto 255).bind fun w3=>
    cond (!w3)
     (
     some (false))
     (
     (Xeb ha0.Src).bind fun f=>
     cond (f)
      (
      (Xeb ha0.Dst).bind fun f1=>
      cond (f1)
       (
       cond (((ha0.Options.length:Int).tmod 4)==0)
        (
        some (decide ((ha0.Options.length:Int)≤40)))
        (
        some (false)))
       (
       some (false)))
      (
      some (false))))))
def XFO (x:Bool):XcU:=⟨.bool x,[],[]⟩
abbrev Xdm:=Xal→Option Bool
def r199 (g:Xdm):Dec:=dV Xf4 fun (y0:Xal)=>XdX (ofG (g y0) XFO)
theorem XRV {g:Xdm} {y0:Xal} {x:Bool} (hx:g y0=some x):r199 g [.agg ⟨[.int .i64 y0.Class,.int .i64 y0.Mark,.bool y0.Whole,.int .i64 y0.TTL,.int .i64 y0.Proto,.bool y0.Src.V6,.int .u64 y0.Src.Hi,.int .u64 y0.Src.Lo,.bool y0.Dst.V6,.int .u64 y0.Dst.Hi,.int .u64 y0.Dst.Lo,.string ⟨⟨y0.Options⟩⟩]⟩] []=some (XFO x):=(XaS (Xif _)).trans (XaQ hx)
def s199 (g:Xdm):XbE:=⟨[.v],r199 g⟩
theorem XOF {g:Xdm} {y0:Xal} {x:Bool} (hx:g y0=some x):(s199 g).run [.agg ⟨[.int .i64 y0.Class,.int .i64 y0.Mark,.bool y0.Whole,.int .i64 y0.TTL,.int .i64 y0.Proto,.bool y0.Src.V6,.int .u64 y0.Src.Hi,.int .u64 y0.Src.Lo,.bool y0.Dst.V6,.int .u64 y0.Dst.Hi,.int .u64 y0.Dst.Lo,.string ⟨⟨y0.Options⟩⟩]⟩] []=some (XFO x):=XRV hx
abbrev XMD (Xeb:XeO) (Xcq:Xeh):List (Nat×XbE):=[(204,s204 Xeb),(203,s203 Xcq)]
theorem XFZ (Xeb:XeO) (Xcq:Xeh) (hS:Xak Tryz.prog (XaD (XMD Xeb Xcq))) (ha0:Xal) (res:Bool) (h:Xhp Xeb Xcq ha0=some res) :
 XaG Tryz.prog 199 0 ⟨⟨199,46,[(0,.agg ⟨[.int .i64 ha0.Class,.int .i64 ha0.Mark,.bool ha0.Whole,.int .i64 ha0.TTL,.int .i64 ha0.Proto,.bool ha0.Src.V6,.int .u64 ha0.Src.Hi,.int .u64 ha0.Src.Lo,.bool ha0.Dst.V6,.int .u64 ha0.Dst.Hi,.int .u64 ha0.Dst.Lo,.string ⟨⟨ha0.Options⟩⟩]⟩)],[.code XJq],[],false,none⟩,[],[],0⟩ (fun v H _=>Res 0 (XFO res) v H):=by
 unfold Xhp at h
 have R1:=@XPf Xcq
 have R2:=@XJ9 Xeb
 refine Xa6 XaE hS true 3000 ?_
 conv=>whnf
 exact W
def Xcy:Xdm:=Xhp Xeb Xcq
theorem XKU:XbM Tryz.prog 199 (s199 Xcy):=by
 have hL:=XFZ Xeb Xcq (Xak.XaM ⟨XKh,XNf,trivial⟩)
 exact okA ⟨Tryz.f199,rfl,by decide,rfl⟩
def XkN (XbZ:Xd2) (Xbw:Xdi) (XaW:XcP) (Xcy:Xdm) (Xb0:Xd5) (ha0:Xal) (payload:List UInt8):Option ((List UInt8)×Int):=
 let t:=wI .i64 (20+(ha0.Options.length:Int))
 (Xcy ha0).bind fun m=>
 cond (!m)
  (
  some (([],1)))
  (
  let t1:=decide ((payload.length:Int)>(wI .i64 (65535 - t)))
  cond (t1)
   (
   some (([],5)))
   (
   cond (ha0.Whole)
    (
    (Xb0 [Xlg .i64 64 (wI .i64 (t.tdiv 4)),1,ha0.Class,1,wI .i64 (t+(payload.length:Int)),2,ha0.Mark,2,64,1,0,1,ha0.TTL,1,ha0.Proto,1,0,2]).bind fun xr=>
    (XbZ ha0.Src).bind fun p=>
    (XbZ ha0.Dst).bind fun p1=>
    Xbh (decide (p.length+p1.length<2^63)) <|
    Xbh (decide ((p++p1).length+ha0.Options.length<2^63)) <|
    Xbh (decide (xr.length+((p++p1)++ha0.Options).length<2^63)) <|
    (Xbw (xr++((p++p1)++ha0.Options))).bind fun xo=>
    (XaW (xr++((p++p1)++ha0.Options)) 10 2 (wI .u64 xo)).bind fun s=>
    Xbh (decide (s.length+payload.length<2^63)) <|
    some ((s++payload,0)))
    (
    (Xb0 [Xlg .i64 64 (wI .i64 (t.tdiv 4)),1,ha0.Class,1,wI .i64 (t+(payload.length:Int)),2,ha0.Mark,2,0,1,0,1,ha0.TTL,1,ha0.Proto,1,0,2]).bind fun xr1=>
    (XbZ ha0.Src).bind fun p2=>
    (XbZ ha0.Dst).bind fun p3=>
    Xbh (decide (p2.length+p3.length<2^63)) <|
    Xbh (decide ((p2++p3).length+ha0.Options.length<2^63)) <|
    Xbh (decide (xr1.length+((p2++p3)++ha0.Options).length<2^63)) <|
    (Xbw (xr1++((p2++p3)++ha0.Options))).bind fun xo1=>
    (XaW (xr1++((p2++p3)++ha0.Options)) 10 2 (wI .u64 xo1)).bind fun s1=>
    Xbh (decide (s1.length+payload.length<2^63)) <|
    some ((s1++payload,0)))))
def XDK (x:(List UInt8)×Int):XcU:=⟨.tuple ⟨[.string ⟨⟨x.1⟩⟩,.int .i64 x.2]⟩,[],[]⟩
abbrev Xfk:=Xal→(List UInt8)→Option ((List UInt8)×Int)
def r185 (g:Xfk):Dec:=dV Xf4 fun (y0:Xal)=>dV asS fun (y1:List UInt8)=>XdX (ofG (g y0 y1) XDK)
theorem XQ8 {g:Xfk} {y0:Xal} {y1:List UInt8} {x:(List UInt8)×Int} (hx:g y0 y1=some x):r185 g [.agg ⟨[.int .i64 y0.Class,.int .i64 y0.Mark,.bool y0.Whole,.int .i64 y0.TTL,.int .i64 y0.Proto,.bool y0.Src.V6,.int .u64 y0.Src.Hi,.int .u64 y0.Src.Lo,.bool y0.Dst.V6,.int .u64 y0.Dst.Hi,.int .u64 y0.Dst.Lo,.string ⟨⟨y0.Options⟩⟩]⟩,.string ⟨⟨y1⟩⟩] []=some (XDK x):=(XaS (Xif _)).trans ((XaS (Xd4)).trans (XaQ hx))
def s185 (g:Xfk):XbE:=⟨[.v,.v],r185 g⟩
theorem XK9 {g:Xfk} {y0:Xal} {y1:List UInt8} {x:(List UInt8)×Int} (hx:g y0 y1=some x):(s185 g).run [.agg ⟨[.int .i64 y0.Class,.int .i64 y0.Mark,.bool y0.Whole,.int .i64 y0.TTL,.int .i64 y0.Proto,.bool y0.Src.V6,.int .u64 y0.Src.Hi,.int .u64 y0.Src.Lo,.bool y0.Dst.V6,.int .u64 y0.Dst.Hi,.int .u64 y0.Dst.Lo,.string ⟨⟨y0.Options⟩⟩]⟩,.string ⟨⟨y1⟩⟩] []=some (XDK x):=XQ8 hx
abbrev XPc (XbZ:Xd2) (Xbw:Xdi) (XaW:XcP) (Xcy:Xdm) (Xb0:Xd5):List (Nat×XbE):=[(195,XS3 XbZ),(183,XVl Xbw),(98,s98 XaW),(199,s199 Xcy),(196,s196 Xb0)]
theorem XFi (XbZ:Xd2) (Xbw:Xdi) (XaW:XcP) (Xcy:Xdm) (Xb0:Xd5) (hS:Xak Tryz.prog (XaD (XPc XbZ Xbw XaW Xcy Xb0))) (ha0:Xal) (payload:List UInt8) (res:(List UInt8)×Int) (h:XkN XbZ Xbw XaW Xcy Xb0 ha0 payload=some res) :
 XaG Tryz.prog 185 0 ⟨⟨185,62,[(0,.agg ⟨[.int .i64 ha0.Class,.int .i64 ha0.Mark,.bool ha0.Whole,.int .i64 ha0.TTL,.int .i64 ha0.Proto,.bool ha0.Src.V6,.int .u64 ha0.Src.Hi,.int .u64 ha0.Src.Lo,.bool ha0.Dst.V6,.int .u64 ha0.Dst.Hi,.int .u64 ha0.Dst.Lo,.string ⟨⟨ha0.Options⟩⟩]⟩),(1,.string ⟨⟨payload⟩⟩)],[.code XAY],[],false,none⟩,[],[],0⟩ (fun v H _=>Res 0 (XDK res) v H):=by
 unfold XkN at h
 have R1:=@XOF Xcy
 have R2:=@XAo Xb0
 have R3:=@Xul XbZ
 have R4:=@XuS Xbw
 have R5:=@XAh XaW
 refine Xa6 XaE hS true 3000 ?_
 conv=>whnf
 exact W
def Xeo:Xfk:=XkN XbZ Xbw XaW Xcy Xb0
theorem XNJ:XbM Tryz.prog 185 (s185 Xeo):=by
 have hL:=XFi XbZ Xbw XaW Xcy Xb0 (Xak.XaM ⟨Xuo,XuA,XAa,XKU,XAE,trivial⟩)
 exact okA ⟨Tryz.f185,rfl,by decide,rfl⟩
def XrP (n:Int) (most:Int):Option Bool:=
 cond (decide (n≥0))
  (
  some (decide (n≤most)))
  (
  some (false))
def XFc (x:Bool):XcU:=⟨.bool x,[],[]⟩
abbrev XiZ:=Int→Int→Option Bool
def r175 (g:XiZ):Dec:=dV (asI .i64) fun (y0:Int)=>dV (asI .i64) fun (y1:Int)=>XdX (ofG (g y0 y1) XFc)
theorem XTI {g:XiZ} {y0:Int} {y1:Int} {x:Bool} (hx:g y0 y1=some x):r175 g [.int .i64 y0,.int .i64 y1] []=some (XFc x):=(XaS (XeL _)).trans ((XaS (XeL _)).trans (XaQ hx))
def s175 (g:XiZ):XbE:=⟨[.v,.v],r175 g⟩
theorem XNH {g:XiZ} {y0:Int} {y1:Int} {x:Bool} (hx:g y0 y1=some x):(s175 g).run [.int .i64 y0,.int .i64 y1] []=some (XFc x):=XTI hx
abbrev XOJ:List (Nat×XbE):=[]
theorem XGU (hS:Xak Tryz.prog (XaD (XOJ))) (n:Int) (most:Int) (res:Bool) (h:XrP n most=some res) :
 XaG Tryz.prog 175 0 ⟨⟨175,12,[(0,.int .i64 n),(1,.int .i64 most)],[.code XHZ],[],false,none⟩,[],[],0⟩ (fun v H _=>Res 0 (XFc res) v H):=by
 unfold XrP at h
 refine Xa6 XaE hS true 3000 ?_
 conv=>whnf
 exact W
def Xja:XiZ:=XrP
theorem XN1:XbM Tryz.prog 175 (s175 Xja):=by
 have hL:=XGU (Xak.XaM trivial)
 exact okA ⟨Tryz.f175,rfl,by decide,rfl⟩
def XnD (XaN:Xce) (a:Xaa):Option Bool:=
 (XaN a).bind fun xr=>
 cond (xr)
  (
  some (!a.V6))
  (
  some (false))
def XFM (x:Bool):XcU:=⟨.bool x,[],[]⟩
abbrev XgA:=Xaa→Option Bool
def r176 (g:XgA):Dec:=dV Xb6 fun (y0:Xaa)=>XdX (ofG (g y0) XFM)
theorem XU9 {g:XgA} {y0:Xaa} {x:Bool} (hx:g y0=some x):r176 g [.agg ⟨[.bool y0.V6,.int .u64 y0.Hi,.int .u64 y0.Lo]⟩] []=some (XFM x):=(XaS (XbP _)).trans (XaQ hx)
def s176 (g:XgA):XbE:=⟨[.v],r176 g⟩
theorem XPe {g:XgA} {y0:Xaa} {x:Bool} (hx:g y0=some x):(s176 g).run [.agg ⟨[.bool y0.V6,.int .u64 y0.Hi,.int .u64 y0.Lo]⟩] []=some (XFM x):=XU9 hx
abbrev XLR (XaN:Xce):List (Nat×XbE):=[(59,s59 XaN)]
theorem XHb (XaN:Xce) (hS:Xak Tryz.prog (XaD (XLR XaN))) (a:Xaa) (res:Bool) (h:XnD XaN a=some res) :
 XaG Tryz.prog 176 0 ⟨⟨176,10,[(0,.agg ⟨[.bool a.V6,.int .u64 a.Hi,.int .u64 a.Lo]⟩)],[.code XIE],[],false,none⟩,[],[],0⟩ (fun v H _=>Res 0 (XFM res) v H):=by
 unfold XnD at h
 have R1:=@Xtd XaN
 refine Xa6 XaE hS true 3000 ?_
 conv=>whnf
 exact W
def Xgt:XgA:=XnD XaN
theorem XO0:XbM Tryz.prog 176 (s176 Xgt):=by
 have hL:=XHb XaN (Xak.XaM ⟨XtI,trivial⟩)
 exact okA ⟨Tryz.f176,rfl,by decide,rfl⟩
def Xl0 (Xgt:XgA) (Xja:XiZ) (ha0:Xal):Option Bool:=
 (Xja ha0.Class 255).bind fun i=>
 cond (i)
  (
  (Xja ha0.Mark 65535).bind fun i1=>
  cond (i1)
   (
   (Xja ha0.TTL 255).bind fun i2=>
   cond (i2)
    (
    (Xja ha0.Proto 255).bind fun i3=>
    cond (i3)
     (
     (Xgt ha0.Src).bind fun f=>
     cond (f)
      (
      (Xgt ha0.Dst).bind fun f1=>
      cond (f1)
       (
       cond (decide ((ha0.Options.length:Int)≤40))
        (
        some (((ha0.Options.length:Int).tmod 4)==0))
        (
        some (false)))
       (
       some (false)))
      (
      some (false)))
     (
     some (false)))
    (
    some (false)))
   (
   some (false)))
  (
  some (false))
def XCA (x:Bool):XcU:=⟨.bool x,[],[]⟩
abbrev XfP:=Xal→Option Bool
def r151 (g:XfP):Dec:=dV Xf4 fun (y0:Xal)=>XdX (ofG (g y0) XCA)
theorem XVQ {g:XfP} {y0:Xal} {x:Bool} (hx:g y0=some x):r151 g [.agg ⟨[.int .i64 y0.Class,.int .i64 y0.Mark,.bool y0.Whole,.int .i64 y0.TTL,.int .i64 y0.Proto,.bool y0.Src.V6,.int .u64 y0.Src.Hi,.int .u64 y0.Src.Lo,.bool y0.Dst.V6,.int .u64 y0.Dst.Hi,.int .u64 y0.Dst.Lo,.string ⟨⟨y0.Options⟩⟩]⟩] []=some (XCA x):=(XaS (Xif _)).trans (XaQ hx)
def s151 (g:XfP):XbE:=⟨[.v],r151 g⟩
theorem XL1 {g:XfP} {y0:Xal} {x:Bool} (hx:g y0=some x):(s151 g).run [.agg ⟨[.int .i64 y0.Class,.int .i64 y0.Mark,.bool y0.Whole,.int .i64 y0.TTL,.int .i64 y0.Proto,.bool y0.Src.V6,.int .u64 y0.Src.Hi,.int .u64 y0.Src.Lo,.bool y0.Dst.V6,.int .u64 y0.Dst.Hi,.int .u64 y0.Dst.Lo,.string ⟨⟨y0.Options⟩⟩]⟩] []=some (XCA x):=XVQ hx
abbrev XMs (Xgt:XgA) (Xja:XiZ):List (Nat×XbE):=[(176,s176 Xgt),(175,s175 Xja)]
theorem XHx (Xgt:XgA) (Xja:XiZ) (hS:Xak Tryz.prog (XaD (XMs Xgt Xja))) (ha0:Xal) (res:Bool) (h:Xl0 Xgt Xja ha0=some res) :
 XaG Tryz.prog 151 0 ⟨⟨151,44,[(0,.agg ⟨[.int .i64 ha0.Class,.int .i64 ha0.Mark,.bool ha0.Whole,.int .i64 ha0.TTL,.int .i64 ha0.Proto,.bool ha0.Src.V6,.int .u64 ha0.Src.Hi,.int .u64 ha0.Src.Lo,.bool ha0.Dst.V6,.int .u64 ha0.Dst.Hi,.int .u64 ha0.Dst.Lo,.string ⟨⟨ha0.Options⟩⟩]⟩)],[.code XIo],[],false,none⟩,[],[],0⟩ (fun v H _=>Res 0 (XCA res) v H):=by
 unfold Xl0 at h
 have R1:=@XNH Xja
 have R2:=@XPe Xgt
 refine Xa6 XaE hS true 3000 ?_
 conv=>whnf
 exact W
def XfM:XfP:=Xl0 Xgt Xja
theorem XO7:XbM Tryz.prog 151 (s151 XfM):=by
 have hL:=XHx Xgt Xja (Xak.XaM ⟨XO0,XN1,trivial⟩)
 exact okA ⟨Tryz.f151,rfl,by decide,rfl⟩
def Xpj (Xe1:Xgc) (Xdh:Xe6) (Xcp:XeE) (XfM:XfP) (Xb8:XfD) (ha0:Xal) (payload:List UInt8):Option ((List UInt8)×Int):=
 (XfM ha0).bind fun xr=>
 cond (!xr)
  (
  some (([],1)))
  (
  let t:=wI .i64 (20+(ha0.Options.length:Int))
  let t1:=decide ((payload.length:Int)>(wI .i64 (65535 - t)))
  cond (t1)
   (
   some (([],5)))
   (
   cond (ha0.Whole)
    (
    (Xb8 (wI .i64 (64+(wI .i64 (t.tdiv 4)))) 1).bind fun n=>
    (Xb8 ha0.Class 1).bind fun n1=>
    Xbh (decide (n.length+n1.length<2^63)) <|
    (Xb8 (wI .i64 (t+(payload.length:Int))) 2).bind fun n2=>
    Xbh (decide ((n++n1).length+n2.length<2^63)) <|
    (Xb8 ha0.Mark 2).bind fun n3=>
    Xbh (decide (((n++n1)++n2).length+n3.length<2^63)) <|
    (Xb8 64 1).bind fun n4=>
    Xbh (decide ((((n++n1)++n2)++n3).length+n4.length<2^63)) <|
    (Xb8 0 1).bind fun n5=>
    Xbh (decide (((((n++n1)++n2)++n3)++n4).length+n5.length<2^63)) <|
    (Xb8 ha0.TTL 1).bind fun n6=>
    Xbh (decide ((((((n++n1)++n2)++n3)++n4)++n5).length+n6.length<2^63)) <|
    let t2:=(((((n++n1)++n2)++n3)++n4)++n5)++n6
    (Xb8 ha0.Proto 1).bind fun n7=>
    Xbh (decide (t2.length+n7.length<2^63)) <|
    (Xb8 0 2).bind fun n8=>
    Xbh (decide ((t2++n7).length+n8.length<2^63)) <|
    (Xcp ha0.Src).bind fun p=>
    Xbh (decide (((t2++n7)++n8).length+p.length<2^63)) <|
    (Xcp ha0.Dst).bind fun p1=>
    Xbh (decide ((((t2++n7)++n8)++p).length+p1.length<2^63)) <|
    Xbh (decide (((((t2++n7)++n8)++p)++p1).length+ha0.Options.length<2^63)) <|
    let t3:=((((t2++n7)++n8)++p)++p1)++ha0.Options
    (Xe1 t3).bind fun xo=>
    (Xdh t3 10 2 (wI .u64 xo)).bind fun s=>
    Xbh (decide (s.length+payload.length<2^63)) <|
    some ((s++payload,0)))
    (
    (Xb8 (wI .i64 (64+(wI .i64 (t.tdiv 4)))) 1).bind fun n9=>
    (Xb8 ha0.Class 1).bind fun n10=>
    Xbh (decide (n9.length+n10.length<2^63)) <|
    (Xb8 (wI .i64 (t+(payload.length:Int))) 2).bind fun n11=>
    Xbh (decide ((n9++n10).length+n11.length<2^63)) <|
    (Xb8 ha0.Mark 2).bind fun n12=>
    Xbh (decide (((n9++n10)++n11).length+n12.length<2^63)) <|
    (Xb8 0 1).bind fun n13=>
    Xbh (decide ((((n9++n10)++n11)++n12).length+n13.length<2^63)) <|
    (Xb8 0 1).bind fun n14=>
    Xbh (decide (((((n9++n10)++n11)++n12)++n13).length+n14.length<2^63)) <|
    let t4:=((((n9++n10)++n11)++n12)++n13)++n14
    (Xb8 ha0.TTL 1).bind fun n15=>
    Xbh (decide (t4.length+n15.length<2^63)) <|
    (Xb8 ha0.Proto 1).bind fun n16=>
    Xbh (decide ((t4++n15).length+n16.length<2^63)) <|
    (Xb8 0 2).bind fun n17=>
    Xbh (decide (((t4++n15)++n16).length+n17.length<2^63)) <|
    (Xcp ha0.Src).bind fun p2=>
    Xbh (decide ((((t4++n15)++n16)++n17).length+p2.length<2^63)) <|
    (Xcp ha0.Dst).bind fun p3=>
    Xbh (decide (((((t4++n15)++n16)++n17)++p2).length+p3.length<2^63)) <|
    let t5:=((((t4++n15)++n16)++n17)++p2)++p3
    Xbh (decide (t5.length+ha0.Options.length<2^63)) <|
    (Xe1 (t5++ha0.Options)).bind fun xo1=>
    (Xdh (t5++ha0.Options) 10 2 (wI .u64 xo1)).bind fun s1=>
    Xbh (decide (s1.length+payload.length<2^63)) <|
    some ((s1++payload,0)))))
def XG9 (x:(List UInt8)×Int):XcU:=⟨.tuple ⟨[.string ⟨⟨x.1⟩⟩,.int .i64 x.2]⟩,[],[]⟩
abbrev XhI:=Xal→(List UInt8)→Option ((List UInt8)×Int)
def r104 (g:XhI):Dec:=dV Xf4 fun (y0:Xal)=>dV asS fun (y1:List UInt8)=>XdX (ofG (g y0 y1) XG9)
theorem XTd {g:XhI} {y0:Xal} {y1:List UInt8} {x:(List UInt8)×Int} (hx:g y0 y1=some x):r104 g [.agg ⟨[.int .i64 y0.Class,.int .i64 y0.Mark,.bool y0.Whole,.int .i64 y0.TTL,.int .i64 y0.Proto,.bool y0.Src.V6,.int .u64 y0.Src.Hi,.int .u64 y0.Src.Lo,.bool y0.Dst.V6,.int .u64 y0.Dst.Hi,.int .u64 y0.Dst.Lo,.string ⟨⟨y0.Options⟩⟩]⟩,.string ⟨⟨y1⟩⟩] []=some (XG9 x):=(XaS (Xif _)).trans ((XaS (Xd4)).trans (XaQ hx))
def s104 (g:XhI):XbE:=⟨[.v,.v],r104 g⟩
theorem XKD {g:XhI} {y0:Xal} {y1:List UInt8} {x:(List UInt8)×Int} (hx:g y0 y1=some x):(s104 g).run [.agg ⟨[.int .i64 y0.Class,.int .i64 y0.Mark,.bool y0.Whole,.int .i64 y0.TTL,.int .i64 y0.Proto,.bool y0.Src.V6,.int .u64 y0.Src.Hi,.int .u64 y0.Src.Lo,.bool y0.Dst.V6,.int .u64 y0.Dst.Hi,.int .u64 y0.Dst.Lo,.string ⟨⟨y0.Options⟩⟩]⟩,.string ⟨⟨y1⟩⟩] []=some (XG9 x):=XTd hx
abbrev XNo (Xe1:Xgc) (Xdh:Xe6) (Xcp:XeE) (XfM:XfP) (Xb8:XfD):List (Nat×XbE):=[(65,s65 Xe1),(64,s64 Xdh),(146,XR6 Xcp),(151,s151 XfM),(147,s147 Xb8)]
theorem XHj (Xe1:Xgc) (Xdh:Xe6) (Xcp:XeE) (XfM:XfP) (Xb8:XfD) (hS:Xak Tryz.prog (XaD (XNo Xe1 Xdh Xcp XfM Xb8))) (ha0:Xal) (payload:List UInt8) (res:(List UInt8)×Int) (h:Xpj Xe1 Xdh Xcp XfM Xb8 ha0 payload=some res) :
 XaG Tryz.prog 104 0 ⟨⟨104,74,[(0,.agg ⟨[.int .i64 ha0.Class,.int .i64 ha0.Mark,.bool ha0.Whole,.int .i64 ha0.TTL,.int .i64 ha0.Proto,.bool ha0.Src.V6,.int .u64 ha0.Src.Hi,.int .u64 ha0.Src.Lo,.bool ha0.Dst.V6,.int .u64 ha0.Dst.Hi,.int .u64 ha0.Dst.Lo,.string ⟨⟨ha0.Options⟩⟩]⟩),(1,.string ⟨⟨payload⟩⟩)],[.code XAe],[],false,none⟩,[],[],0⟩ (fun v H _=>Res 0 (XG9 res) v H):=by
 unfold Xpj at h
 have R1:=@XL1 XfM
 have R2:=@XzQ Xb8
 have R3:=@XuK Xcp
 have R4:=@XJD Xe1
 have R5:=@XJz Xdh
 refine Xa6 XaE hS true 3000 ?_
 conv=>whnf
 exact W
def XhY:XhI:=Xpj Xe1 Xdh Xcp XfM Xb8
theorem XJS:XbM Tryz.prog 104 (s104 XhY):=by
 have hL:=XHj Xe1 Xdh Xcp XfM Xb8 (Xak.XaM ⟨XIt,XIm,Xu4,XO7,XBz,trivial⟩)
 exact okA ⟨Tryz.f104,rfl,by decide,rfl⟩
end Go.Vm.Code
namespace Go.Vm.Code
open Go Go.Vm
theorem XwY (n m:Int):Xcq n m=some (inR n m):=by
 unfold Xcq XiN inR
 by_cases h:0≤n
 ·rw [XaP h];simp [h]
 ·rw [XaK h];simp [h]
theorem XWy (n m:Int):Xja n m=some (inR n m):=by
 unfold Xja XrP inR
 by_cases h:0≤n
 ·rw [XaP (by omega)];simp [h]
 ·rw [XaK (by omega)];simp [h]
def four (a:Xaa):Bool:=!a.V6&&aok a
theorem XKz (a:Xaa):Xeb a=some (four a):=by
 unfold Xeb XjK four
 rw [Xkp];cases a.V6<;>rfl
theorem XHc (a:Xaa):Xgt a=some (four a):=by
 unfold Xgt XnD four
 rw [Xju];cases aok a<;>cases a.V6<;>rfl
def H5 (h:Xal):Bool:=inR h.Class 255&&inR h.Mark 65535&&inR h.TTL 255&&inR h.Proto 255&&four h.Src&&four h.Dst&&decide (h.Options.length%4=0)&&decide (h.Options.length≤40)
theorem XNB (h:Xal):Xcy h=some (H5 h):=by
 unfold Xcy Xhp H5
 simp only [XwY,XKz,Option.bind_some,Xsb,XvE]
 cases inR h.Class 255<;>cases inR h.Mark 65535<;>cases inR h.TTL 255<;>cases inR h.Proto 255<;>cases four h.Src<;>cases four h.Dst<;>cases decide (h.Options.length%4=0)<;>rfl
theorem XA1 (h:Xal):XfM h=some (H5 h):=by
 unfold XfM Xl0 H5
 simp only [XWy,XHc,Option.bind_some,Xsb,XvE]
 cases inR h.Class 255<;>cases inR h.Mark 65535<;>cases inR h.TTL 255<;>cases inR h.Proto 255<;>cases four h.Src<;>cases four h.Dst<;>cases decide (h.Options.length%4=0)<;>cases decide (h.Options.length≤40)<;>rfl
def hd5 (h:Xal) (n:Int):List UInt8:=
 XcF (64+((20+h.Options.length)/4:Nat)) 1++XcF h.Class 1++XcF n 2++XcF h.Mark 2++XcF (cond h.Whole 64 0) 1++XcF 0 1++XcF h.TTL 1++XcF h.Proto 1++XcF 0 2++Xel h.Src++Xel h.Dst++h.Options
theorem XuD (h:Xal) (n:Int):(hd5 h n).length≤104+h.Options.length:=by
 have a1:=Xbc (64+((20+h.Options.length)/4:Nat)) 1
 have a2:=Xbc h.Class 1
 have a3:=Xbc n 2
 have a4:=Xbc h.Mark 2
 have a5:=Xbc (cond h.Whole 64 0) 1
 have a6:=Xbc 0 1
 have a7:=Xbc h.TTL 1
 have a8:=Xbc h.Proto 1
 have a9:=Xbc 0 2
 have b1:(Xel h.Src).length≤16:=by rw [XeD];cases h.Src.V6<;>decide
 have b2:(Xel h.Dst).length≤16:=by rw [XeD];cases h.Dst.V6<;>decide
 unfold hd5
 simp only [List.length_append];omega
def XLO (h:Xal) (l:List UInt8):List UInt8×Int:=
 if H5 h=false then ([],1) else if 65535 - (20+(h.Options.length:Int))<l.length then ([],5) else
  (Xq7 (hd5 h (20+h.Options.length+l.length)) 10 2 (65535 - (norm (Xfj (hd5 h (20+h.Options.length+l.length))):Nat))++l,0)
theorem Xo0 (s:List UInt8) (p k n:Int):(Xq7 s p k n).length≤s.length+8:=by
 unfold Xq7
 split
 ·simp;omega
 ·omega
theorem XDu {t l:List UInt8} (ht:t.length≤2^20) (hl:l.length<2^30):((Xbw t).bind fun xo=>(XaW t 10 2 (wI .u64 xo)).bind fun s=>Xbh (decide (s.length+l.length<2^63)) (some (s++l,(0:Int))))=some (Xq7 t 10 2 (65535 - (norm (Xfj t):Nat))++l,0):=by
 have:=norm_le (Xfj t)
 have hs:=Xo0 t 10 2 (65535 - (norm (Xfj t):Nat))
 rw [XCw (by omega),Option.bind_some,XfY (by omega) (by omega),XvW (by omega) (by omega),Option.bind_some,Xar (by omega)]
theorem Xth {t l:List UInt8} (ht:t.length≤2^20) (hl:l.length<2^30):((Xe1 t).bind fun xo=>(Xdh t 10 2 (wI .u64 xo)).bind fun s=>Xbh (decide (s.length+l.length<2^63)) (some (s++l,(0:Int))))=some (Xq7 t 10 2 (65535 - (norm (Xfj t):Nat))++l,0):=by
 have:=norm_le (Xfj t)
 have hs:=Xo0 t 10 2 (65535 - (norm (Xfj t):Nat))
 rw [Xqk (by omega),Option.bind_some,XfY (by omega) (by omega),Xl4 (by omega) (by omega) (by omega),Option.bind_some,Xar (by omega)]
theorem XxZ {h:Xal} (hh:H5 h=true):(0≤h.Class∧h.Class≤255)∧(0≤h.Mark∧h.Mark≤65535)∧(0≤h.TTL∧h.TTL≤255)∧(0≤h.Proto∧h.Proto≤255)∧(h.Src.V6=false∧aok h.Src=true)∧(h.Dst.V6=false∧aok h.Dst=true)∧h.Options.length%4=0∧h.Options.length≤40:=by
 unfold H5 four at hh
 simp only [Bool.and_eq_true,XAz,Bool.not_eq_true',decide_eq_true_eq] at hh
 obtain ⟨⟨⟨⟨⟨⟨⟨a,b⟩,c⟩,d⟩,e⟩,f⟩,g⟩,i⟩:=hh
 exact ⟨a,b,c,d,e,f,g,i⟩
theorem p5_eq {h:Xal} {l:List UInt8} (h1:A4 h.Src) (h2:A4 h.Dst) (hl:l.length<2^20) (ho:h.Options.length<2^20):Xeo h l=some (XLO h l):=by
 unfold Xeo XkN XLO
 rw [XNB,Option.bind_some]
 cases hh:H5 h
 ·rfl
 obtain ⟨q1,q2,q3,q4,q5,q6,q7,q8⟩:=XxZ hh
 simp only [Bool.not_true,cond_false]
 rw [if_neg (by decide),XdT (n:=20+(h.Options.length:Int)) (by omega) (by omega),XdT (n:=65535 - (20+(h.Options.length:Int))) (by omega) (by omega)]
 by_cases h5:(l.length:Int)>65535 - (20+(h.Options.length:Int))
 ·rw [XaP h5,if_pos (by omega)]
 rw [XaK h5,if_neg (by omega)]
 have b1:(Xel h.Src).length≤16:=by rw [XeD];cases h.Src.V6<;>decide
 have b2:(Xel h.Dst).length≤16:=by rw [XeD];cases h.Dst.V6<;>decide
 have eo:Xlg .i64 64 (wI .i64 (((20+h.Options.length)/4:Nat):Int))=64+(((20+h.Options.length)/4:Nat):Int):=by
  rw [XdT (by omega) (by omega)]
  exact Xrk 4 (a:=4) (by omega) (by omega) (by omega) (by omega) (by omega)
 have hlen:=XuD h (20+h.Options.length+l.length)
 have key:∀ fl:Int,fl=cond h.Whole 64 0→((Xb0 [64+(((20+h.Options.length)/4:Nat):Int),1,h.Class,1,20+(h.Options.length:Int)+l.length,2,h.Mark,2,fl,1,0,1,h.TTL,1,h.Proto,1,0,2]).bind fun xr=>Xbh (decide ((Xel h.Src).length+(Xel h.Dst).length<2^63))<|Xbh (decide ((Xel h.Src++Xel h.Dst).length+h.Options.length<2^63))<|Xbh (decide (xr.length+((Xel h.Src++Xel h.Dst)++h.Options).length<2^63)) <|
  (Xbw (xr++((Xel h.Src++Xel h.Dst)++h.Options))).bind fun xo=>(XaW (xr++((Xel h.Src++Xel h.Dst)++h.Options)) 10 2 (wI .u64 xo)).bind fun s=>Xbh (decide (s.length+l.length<2^63)) (some (s++l,(0:Int))))=some (Xq7 (hd5 h (20+h.Options.length+l.length)) 10 2 (65535 - (norm (Xfj (hd5 h (20+h.Options.length+l.length))):Nat))++l,0):=by
  intro fl hfl
  have hfr:0≤fl∧fl≤64:=by subst hfl;cases h.Whole<;>decide
  have hrow:XM1 [64+(((20+h.Options.length)/4:Nat):Int),1,h.Class,1,20+(h.Options.length:Int)+l.length,2,h.Mark,2,fl,1,0,1,h.TTL,1,h.Proto,1,0,2]=XcF (64+((20+h.Options.length)/4:Nat)) 1++(XcF h.Class 1++(XcF (20+(h.Options.length:Int)+l.length) 2++(XcF h.Mark 2++(XcF fl 1++(XcF 0 1++(XcF h.TTL 1++(XcF h.Proto 1++(XcF 0 2++[])))))))):=by
   simp only [XM1]
   rw [XfY (n:=64+(((20+h.Options.length)/4:Nat):Int)) (by omega) (by omega),XfY q1.1 (by omega),XfY (n:=20+(h.Options.length:Int)+l.length) (by omega) (by omega),XfY q2.1 (by omega),XfY hfr.1 (by omega),XfY q3.1 (by omega),XfY q4.1 (by omega),show wI .u64 0=0 from rfl]
  rw [XKS (by simp) (by simp) (by simp),hrow,Option.bind_some]
  have e:XcF (64+((20+h.Options.length)/4:Nat)) 1++(XcF h.Class 1++(XcF (20+(h.Options.length:Int)+l.length) 2++(XcF h.Mark 2++(XcF fl 1++(XcF 0 1++(XcF h.TTL 1++(XcF h.Proto 1++(XcF 0 2++[]))))))))++(Xel h.Src++Xel h.Dst++h.Options)=hd5 h (20+h.Options.length+l.length):=by
   subst hfl;unfold hd5;simp only [List.append_assoc,List.append_nil]
  have hl2:=congrArg List.length e
  rw [List.length_append] at hl2
  rw [Xar (by omega),Xar (by simp only [List.length_append];omega),Xar (by omega),e]
  exact XDu (by omega) (by omega)
 rw [XdT (n:=20+(h.Options.length:Int)+l.length) (by omega) (by omega),XPP,eo,Xsk h1 q5.2,Xsk h2 q6.2]
 simp only [Option.bind_some]
 cases hw:h.Whole
 ·rw [cond_false]
  have:=key 0 (by rw [hw];rfl)
  rw [hw] at *
  exact this
 ·rw [cond_true]
  have:=key 64 (by rw [hw];rfl)
  exact this
theorem XRe {h:Xal} {l:List UInt8} (h1:A4 h.Src) (h2:A4 h.Dst) (hl:l.length<2^20) (ho:h.Options.length<2^20):XhY h l=some (XLO h l):=by
 unfold XhY Xpj XLO
 rw [XA1,Option.bind_some]
 cases hh:H5 h
 ·rfl
 obtain ⟨q1,q2,q3,q4,q5,q6,q7,q8⟩:=XxZ hh
 simp only [Bool.not_true,cond_false]
 rw [if_neg (by decide),XdT (n:=20+(h.Options.length:Int)) (by omega) (by omega),XdT (n:=65535 - (20+(h.Options.length:Int))) (by omega) (by omega)]
 by_cases h5:(l.length:Int)>65535 - (20+(h.Options.length:Int))
 ·rw [XaP h5,if_pos (by omega)]
 rw [XaK h5,if_neg (by omega)]
 have b1:(Xel h.Src).length≤16:=by rw [XeD];cases h.Src.V6<;>decide
 have b2:(Xel h.Dst).length≤16:=by rw [XeD];cases h.Dst.V6<;>decide
 rw [XdT (n:=20+(h.Options.length:Int)+l.length) (by omega) (by omega),XPP,XdT (n:=(((20+h.Options.length)/4:Nat):Int)) (by omega) (by omega),XdT (n:=64+(((20+h.Options.length)/4:Nat):Int)) (by omega) (by omega),Xpa h1 q5.2,Xpa h2 q6.2]
 simp only [XHg,Option.bind_some]
 rw [XfY (n:=64+(((20+h.Options.length)/4:Nat):Int)) (by omega) (by omega),XfY q1.1 (by omega),XfY (n:=20+(h.Options.length:Int)+l.length) (by omega) (by omega),XfY q2.1 (by omega),XfY q3.1 (by omega),XfY q4.1 (by omega),show wI .u64 0=0 from rfl,show wI .u64 64=64 from rfl]
 have a1:=Xbc (64+((20+h.Options.length)/4:Nat)) 1
 have a2:=Xbc h.Class 1
 have a3:=Xbc (20+(h.Options.length:Int)+l.length) 2
 have a4:=Xbc h.Mark 2
 have a5:=Xbc 64 1
 have a6:=Xbc 0 1
 have a7:=Xbc h.TTL 1
 have a8:=Xbc h.Proto 1
 have a9:=Xbc 0 2
 have hlen:=XuD h (20+h.Options.length+l.length)
 cases hw:h.Whole
 ·rw [cond_false]
  have e:XcF (64+((20+h.Options.length)/4:Nat)) 1++XcF h.Class 1++XcF (20+(h.Options.length:Int)+l.length) 2++XcF h.Mark 2++XcF 0 1++XcF 0 1++XcF h.TTL 1++XcF h.Proto 1++XcF 0 2++Xel h.Src++Xel h.Dst++h.Options=hd5 h (20+h.Options.length+l.length):=by unfold hd5;rw [hw];rfl
  iterate 11 rw [Xar (by first|omega|(simp only [List.length_append];omega))]
  rw [e]
  exact Xth (by omega) (by omega)
 ·rw [cond_true]
  have e:XcF (64+((20+h.Options.length)/4:Nat)) 1++XcF h.Class 1++XcF (20+(h.Options.length:Int)+l.length) 2++XcF h.Mark 2++XcF 64 1++XcF 0 1++XcF h.TTL 1++XcF h.Proto 1++XcF 0 2++Xel h.Src++Xel h.Dst++h.Options=hd5 h (20+h.Options.length+l.length):=by unfold hd5;rw [hw];rfl
  iterate 11 rw [Xar (by first|omega|(simp only [List.length_append];omega))]
  rw [e]
  exact Xth (by omega) (by omega)
theorem XQ3 {a b n m f g t p c x y r:List UInt8} (ha:a.length=1) (hb:b.length=1) (hn:n.length=2) (hm:m.length=2) (hf:f.length=1) (hg:g.length=1) (ht:t.length=1) (hp:p.length=1) (hc:c.length=2) (hx:x.length=4) (hy:y.length=4) :
 let s:=a++b++n++m++f++g++t++p++c++x++y++r
 (s.drop 0).take 1=a∧(s.drop 1).take 1=b∧(s.drop 2).take 2=n∧(s.drop 4).take 2=m∧(s.drop 6).take 2=f++g∧(s.drop 8).take 1=t∧(s.drop 9).take 1=p∧(s.drop 12).take 4=x∧(s.drop 16).take 4=y∧s.drop 20=r∧s.take 10=a++b++n++m++f++g++t++p∧s.drop 12=x++y++r:=by
 obtain ⟨a1,rfl⟩:=l1 ha
 obtain ⟨b1,rfl⟩:=l1 hb
 obtain ⟨n1,n2,rfl⟩:=l2 hn
 obtain ⟨m1,m2,rfl⟩:=l2 hm
 obtain ⟨f1,rfl⟩:=l1 hf
 obtain ⟨g1,rfl⟩:=l1 hg
 obtain ⟨t1,rfl⟩:=l1 ht
 obtain ⟨p1,rfl⟩:=l1 hp
 obtain ⟨c1,c2,rfl⟩:=l2 hc
 obtain ⟨x1,x2,x3,x4,rfl⟩:=l4 hx
 obtain ⟨y1,y2,y3,y4,rfl⟩:=l4 hy
 exact ⟨rfl,rfl,rfl,rfl,rfl,rfl,rfl,rfl,rfl,rfl,rfl,rfl⟩
def hc5 (h:Xal) (n c:Nat):List UInt8:=
 be (64+(20+h.Options.length)/4) 1++be h.Class.toNat 1++be n 2++be h.Mark.toNat 2++be (cond h.Whole 64 0) 1++be 0 1++be h.TTL.toNat 1++be h.Proto.toNat 1++be c 2++be h.Src.Lo.toNat 4++be h.Dst.Lo.toNat 4++h.Options
theorem Xr5 (h:Xal) (n c:Nat):(hc5 h n c).length=20+h.Options.length:=by simp [hc5];omega
theorem pu1 (n:Int):XcF n 1=be n.toNat 1:=Xfo (k:=1) (by omega)
theorem pu2 (n:Int):XcF n 2=be n.toNat 2:=Xfo (k:=2) (by omega)
theorem XTJ {h:Xal} {n:Nat} (h1:h.Src.V6=false) (h2:h.Dst.V6=false):hd5 h (n:Int)=hc5 h n 0:=by
 have e:(64+((20+h.Options.length)/4:Nat):Int).toNat=64+(20+h.Options.length)/4:=by omega
 have ew:(cond h.Whole 64 0:Int).toNat=cond h.Whole 64 0:=by cases h.Whole<;>rfl
 unfold hd5 hc5 Xel
 rw [h1,h2]
 simp only [pu1,pu2,cond_false,Int.toNat_natCast,e,ew]
 rfl
theorem Xp2 (h:Xal) (n c:Nat) (r:List UInt8):let s:=hc5 h n c++r
 (s.drop 0).take 1=be (64+(20+h.Options.length)/4) 1∧(s.drop 1).take 1=be h.Class.toNat 1∧(s.drop 2).take 2=be n 2∧(s.drop 4).take 2=be h.Mark.toNat 2∧(s.drop 6).take 2=be (cond h.Whole 64 0) 1++be 0 1∧(s.drop 8).take 1=be h.TTL.toNat 1∧(s.drop 9).take 1=be h.Proto.toNat 1∧(s.drop 12).take 4=be h.Src.Lo.toNat 4∧(s.drop 16).take 4=be h.Dst.Lo.toNat 4∧s.drop 20=h.Options++r∧s.take 10=be (64+(20+h.Options.length)/4) 1++be h.Class.toNat 1++be n 2++be h.Mark.toNat 2++be (cond h.Whole 64 0) 1++be 0 1++be h.TTL.toNat 1++be h.Proto.toNat 1∧s.drop 12=be h.Src.Lo.toNat 4++be h.Dst.Lo.toNat 4++(h.Options++r):=by
 have e:hc5 h n c++r=be (64+(20+h.Options.length)/4) 1++be h.Class.toNat 1++be n 2++be h.Mark.toNat 2++be (cond h.Whole 64 0) 1++be 0 1++be h.TTL.toNat 1++be h.Proto.toNat 1++be c 2++be h.Src.Lo.toNat 4++be h.Dst.Lo.toNat 4++(h.Options++r):=by simp only [hc5,List.append_assoc]
 rw [e]
 exact XQ3 (Xhd _ _) (Xhd _ _) (Xhd _ _) (Xhd _ _) (Xhd _ _) (Xhd _ _) (Xhd _ _) (Xhd _ _) (Xhd _ _) (Xhd _ _) (Xhd _ _)
theorem XQK {h:Xal} {n:Nat} {c:Int}:Xq7 (hc5 h n 0) 10 2 c=hc5 h n c.toNat:=by
 obtain ⟨_,_,_,_,_,_,_,_,_,_,q11,q12⟩:=Xp2 h n 0 []
 simp only [List.append_nil] at q11 q12
 unfold Xq7
 rw [if_pos (by rw [Xr5];omega),show (10:Int).toNat=10 from rfl,show ((10:Int)+2).toNat=12 from rfl,q11,q12]
 unfold hc5
 simp only [List.append_assoc];rfl
theorem XM6 {h:Xal} {n c:Nat} (hc:c<65536):Xfj (hc5 h n c)=Xfj (hc5 h n 0)+c:=by
 have e:∀ x,hc5 h n x=(be (64+(20+h.Options.length)/4) 1++be h.Class.toNat 1++be n 2++be h.Mark.toNat 2++be (cond h.Whole 64 0) 1++be 0 1++be h.TTL.toNat 1++be h.Proto.toNat 1)++(be x 2++(be h.Src.Lo.toNat 4++be h.Dst.Lo.toNat 4++h.Options)):=fun x=>by simp only [hc5,List.append_assoc]
 have hA:(be (64+(20+h.Options.length)/4) 1++be h.Class.toNat 1++be n 2++be h.Mark.toNat 2++be (cond h.Whole 64 0) 1++be 0 1++be h.TTL.toNat 1++be h.Proto.toNat 1).length%2=0:=by simp
 rw [e c,e 0]
 generalize be (64+(20+h.Options.length)/4) 1++be h.Class.toNat 1++be n 2++be h.Mark.toNat 2++be (cond h.Whole 64 0) 1++be 0 1++be h.TTL.toNat 1++be h.Proto.toNat 1=A at hA
 rw [Xfl _ _ hA,Xfl _ _ hA,Xfl (be c 2) _ (by simp),Xfl (be 0 2) _ (by simp),Xo7 hc,Xo7 (by omega)];omega
theorem wflag (b:Bool):be (cond b 64 0) 1++be 0 1=be (cond b 16384 0) 2:=by cases b<;>rfl
def ck5 (h:Xal) (n:Nat):Nat:=65535 - norm (Xfj (hc5 h n 0))
theorem XVJ (h:Xal) (n:Nat):ck5 h n≤65535∧Xfj (hc5 h n (ck5 h n))%65535=0∧Xfj (hc5 h n (ck5 h n))≠0:=by
 have n1:=norm_le (Xfj (hc5 h n 0))
 have n2:=Xmc (Xfj (hc5 h n 0))
 have n3:=Xkn (Xfj (hc5 h n 0))
 have hk:ck5 h n<65536:=by unfold ck5;omega
 rw [XM6 hk]
 unfold ck5;omega
end Go.Vm.Code
namespace Go.Vm.Code
open Go Go.Vm Go.Proofs
set_option maxRecDepth 100000
set_option maxHeartbeats 4000000
set_option linter.unusedVariables false
def XhX (ha0:Xaq):Option Bool:=
 cond (decide (ha0.Class<0))
  (
  some (false))
  (
  cond (decide (ha0.Class>255))
   (
   some (false))
   (
   cond (decide (ha0.Label<0))
    (
    some (false))
    (
    cond (decide (ha0.Label>1048575))
     (
     some (false))
     (
     cond (decide (ha0.Next<0))
      (
      some (false))
      (
      cond (decide (ha0.Next>255))
       (
       some (false))
       (
       cond (decide (ha0.Hop<0))
        (
        some (false))
        (
        cond (decide (ha0.Hop>255))
         (
         some (false))
         (
         cond (ha0.Src.V6)
          (
          some (ha0.Dst.V6))
          (
          some (false))))))))))
def XC6 (x:Bool):XcU:=⟨.bool x,[],[]⟩
abbrev XdG:=Xaq→Option Bool
def r198 (g:XdG):Dec:=dV XgE fun (y0:Xaq)=>XdX (ofG (g y0) XC6)
theorem XRW {g:XdG} {y0:Xaq} {x:Bool} (hx:g y0=some x):r198 g [.agg ⟨[.int .i64 y0.Class,.int .i64 y0.Label,.int .i64 y0.Next,.int .i64 y0.Hop,.bool y0.Src.V6,.int .u64 y0.Src.Hi,.int .u64 y0.Src.Lo,.bool y0.Dst.V6,.int .u64 y0.Dst.Hi,.int .u64 y0.Dst.Lo]⟩] []=some (XC6 x):=(XaS (XiR _)).trans (XaQ hx)
def s198 (g:XdG):XbE:=⟨[.v],r198 g⟩
theorem XN3 {g:XdG} {y0:Xaq} {x:Bool} (hx:g y0=some x):(s198 g).run [.agg ⟨[.int .i64 y0.Class,.int .i64 y0.Label,.int .i64 y0.Next,.int .i64 y0.Hop,.bool y0.Src.V6,.int .u64 y0.Src.Hi,.int .u64 y0.Src.Lo,.bool y0.Dst.V6,.int .u64 y0.Dst.Hi,.int .u64 y0.Dst.Lo]⟩] []=some (XC6 x):=XRW hx
abbrev XOk:List (Nat×XbE):=[]
theorem XGd (hS:Xak Tryz.prog (XaD (XOk))) (ha0:Xaq) (res:Bool) (h:XhX ha0=some res) :
 XaG Tryz.prog 198 0 ⟨⟨198,42,[(0,.agg ⟨[.int .i64 ha0.Class,.int .i64 ha0.Label,.int .i64 ha0.Next,.int .i64 ha0.Hop,.bool ha0.Src.V6,.int .u64 ha0.Src.Hi,.int .u64 ha0.Src.Lo,.bool ha0.Dst.V6,.int .u64 ha0.Dst.Hi,.int .u64 ha0.Dst.Lo]⟩)],[.code XzS],[],false,none⟩,[],[],0⟩ (fun v H _=>Res 0 (XC6 res) v H):=by
 unfold XhX at h
 refine Xa6 XaE hS true 3000 ?_
 conv=>whnf
 refine Xa6 XaE hS true 3000 ?_
 conv=>whnf
 refine br.h h (by rfl) ?_ ?_
 ·clear h;intro hb h;conv=>whnf
  exact W
 clear h;intro hb h;conv=>whnf
 refine br.h h (by rfl) ?_ ?_
 ·clear h;intro hb h;conv=>whnf
  exact W
 clear h;intro hb h;conv=>whnf
 refine Xa6 XaE hS true 3000 ?_
 conv=>whnf
 refine br.h h (by rfl) ?_ ?_
 ·clear h;intro hb h;conv=>whnf
  exact W
 clear h;intro hb h;conv=>whnf
 refine br.h h (by rfl) ?_ ?_
 ·clear h;intro hb h;conv=>whnf
  exact W
 clear h;intro hb h;conv=>whnf
 refine Xa6 XaE hS true 3000 ?_
 conv=>whnf
 refine br.h h (by rfl) ?_ ?_
 ·clear h;intro hb h;conv=>whnf
  exact W
 clear h;intro hb h;conv=>whnf
 refine br.h h (by rfl) ?_ ?_
 ·clear h;intro hb h;conv=>whnf
  exact W
 clear h;intro hb h;conv=>whnf
 refine Xa6 XaE hS true 3000 ?_
 conv=>whnf
 refine br.h h (by rfl) ?_ ?_
 ·clear h;intro hb h;conv=>whnf
  exact W
 clear h;intro hb h;conv=>whnf
 refine br.h h (by rfl) ?_ ?_
 ·clear h;intro hb h;conv=>whnf
  exact W
 clear h;intro hb h;conv=>whnf
 refine Xa6 XaE hS true 3000 ?_
 conv=>whnf
 exact W
def XcK:XdG:=XhX
theorem XLE:XbM Tryz.prog 198 (s198 XcK):=by
 have hL:=XGd (Xak.XaM trivial)
 exact okA ⟨Tryz.f198,rfl,by decide,rfl⟩
def Xmk (XbZ:Xd2) (XcK:XdG) (Xaj:XaR) (ha0:Xaq) (payload:List UInt8):Option ((List UInt8)×Int):=
 (XcK ha0).bind fun m=>
 cond (!m)
  (
  some (([],1)))
  (
  cond (decide ((payload.length:Int)>65535))
   (
   some (([],5)))
   (
   let t:=Xlg .u64 1610612736 (wI .u64 ((wI .u64 ha0.Class)*2^20))
   (Xaj (Xlg .u64 t (wI .u64 ha0.Label)) 4).bind fun p=>
   let t1:=wI .u64 ((wI .u64 (payload.length:Int))*2^16)
   let t2:=Xlg .u64 t1 (wI .u64 ((wI .u64 ha0.Next)*2^8))
   (Xaj (Xlg .u64 t2 (wI .u64 ha0.Hop)) 4).bind fun p1=>
   Xbh (decide (p.length+p1.length<2^63)) <|
   (XbZ ha0.Src).bind fun p2=>
   Xbh (decide ((p++p1).length+p2.length<2^63)) <|
   (XbZ ha0.Dst).bind fun p3=>
   Xbh (decide (((p++p1)++p2).length+p3.length<2^63)) <|
   Xbh (decide ((((p++p1)++p2)++p3).length+payload.length<2^63)) <|
   some (((((p++p1)++p2)++p3)++payload,0))))
def XGZ (x:(List UInt8)×Int):XcU:=⟨.tuple ⟨[.string ⟨⟨x.1⟩⟩,.int .i64 x.2]⟩,[],[]⟩
abbrev XfU:=Xaq→(List UInt8)→Option ((List UInt8)×Int)
def r184 (g:XfU):Dec:=dV XgE fun (y0:Xaq)=>dV asS fun (y1:List UInt8)=>XdX (ofG (g y0 y1) XGZ)
theorem XVx {g:XfU} {y0:Xaq} {y1:List UInt8} {x:(List UInt8)×Int} (hx:g y0 y1=some x):r184 g [.agg ⟨[.int .i64 y0.Class,.int .i64 y0.Label,.int .i64 y0.Next,.int .i64 y0.Hop,.bool y0.Src.V6,.int .u64 y0.Src.Hi,.int .u64 y0.Src.Lo,.bool y0.Dst.V6,.int .u64 y0.Dst.Hi,.int .u64 y0.Dst.Lo]⟩,.string ⟨⟨y1⟩⟩] []=some (XGZ x):=(XaS (XiR _)).trans ((XaS (Xd4)).trans (XaQ hx))
def s184 (g:XfU):XbE:=⟨[.v,.v],r184 g⟩
theorem XL5 {g:XfU} {y0:Xaq} {y1:List UInt8} {x:(List UInt8)×Int} (hx:g y0 y1=some x):(s184 g).run [.agg ⟨[.int .i64 y0.Class,.int .i64 y0.Label,.int .i64 y0.Next,.int .i64 y0.Hop,.bool y0.Src.V6,.int .u64 y0.Src.Hi,.int .u64 y0.Src.Lo,.bool y0.Dst.V6,.int .u64 y0.Dst.Hi,.int .u64 y0.Dst.Lo]⟩,.string ⟨⟨y1⟩⟩] []=some (XGZ x):=XVx hx
abbrev XNh (XbZ:Xd2) (XcK:XdG) (Xaj:XaR):List (Nat×XbE):=[(195,XS3 XbZ),(198,s198 XcK),(97,s97 Xaj)]
theorem XFv (XbZ:Xd2) (XcK:XdG) (Xaj:XaR) (hS:Xak Tryz.prog (XaD (XNh XbZ XcK Xaj))) (ha0:Xaq) (payload:List UInt8) (res:(List UInt8)×Int) (h:Xmk XbZ XcK Xaj ha0 payload=some res) :
 XaG Tryz.prog 184 0 ⟨⟨184,53,[(0,.agg ⟨[.int .i64 ha0.Class,.int .i64 ha0.Label,.int .i64 ha0.Next,.int .i64 ha0.Hop,.bool ha0.Src.V6,.int .u64 ha0.Src.Hi,.int .u64 ha0.Src.Lo,.bool ha0.Dst.V6,.int .u64 ha0.Dst.Hi,.int .u64 ha0.Dst.Lo]⟩),(1,.string ⟨⟨payload⟩⟩)],[.code Xz9],[],false,none⟩,[],[],0⟩ (fun v H _=>Res 0 (XGZ res) v H):=by
 unfold Xmk at h
 have R1:=@XN3 XcK
 have R2:=@Xlb Xaj
 have R3:=@Xul XbZ
 refine Xa6 XaE hS true 3000 ?_
 conv=>whnf
 exact W
def XeU:XfU:=Xmk XbZ XcK Xaj
theorem XPx:XbM Tryz.prog 184 (s184 XeU):=by
 have hL:=XFv XbZ XcK Xaj (Xak.XaM ⟨Xuo,XLE,Xnh,trivial⟩)
 exact okA ⟨Tryz.f184,rfl,by decide,rfl⟩
def Xse (n:Int) (most:Int):Option Bool:=
 cond (decide (n≥0))
  (
  some (decide (n≤most)))
  (
  some (false))
def XHA (x:Bool):XcU:=⟨.bool x,[],[]⟩
abbrev XiW:=Int→Int→Option Bool
def r174 (g:XiW):Dec:=dV (asI .i64) fun (y0:Int)=>dV (asI .i64) fun (y1:Int)=>XdX (ofG (g y0 y1) XHA)
theorem XUs {g:XiW} {y0:Int} {y1:Int} {x:Bool} (hx:g y0 y1=some x):r174 g [.int .i64 y0,.int .i64 y1] []=some (XHA x):=(XaS (XeL _)).trans ((XaS (XeL _)).trans (XaQ hx))
def s174 (g:XiW):XbE:=⟨[.v,.v],r174 g⟩
theorem XPg {g:XiW} {y0:Int} {y1:Int} {x:Bool} (hx:g y0 y1=some x):(s174 g).run [.int .i64 y0,.int .i64 y1] []=some (XHA x):=XUs hx
abbrev XKY:List (Nat×XbE):=[]
theorem XEC (hS:Xak Tryz.prog (XaD (XKY))) (n:Int) (most:Int) (res:Bool) (h:Xse n most=some res) :
 XaG Tryz.prog 174 0 ⟨⟨174,12,[(0,.int .i64 n),(1,.int .i64 most)],[.code XJt],[],false,none⟩,[],[],0⟩ (fun v H _=>Res 0 (XHA res) v H):=by
 unfold Xse at h
 refine Xa6 XaE hS true 3000 ?_
 conv=>whnf
 exact W
def Xjb:XiW:=Xse
theorem XPi:XbM Tryz.prog 174 (s174 Xjb):=by
 have hL:=XEC (Xak.XaM trivial)
 exact okA ⟨Tryz.f174,rfl,by decide,rfl⟩
def Xl6 (Xjb:XiW) (ha0:Xaq):Option Bool:=
 (Xjb ha0.Class 255).bind fun i=>
 cond (i)
  (
  (Xjb ha0.Label 1048575).bind fun i1=>
  cond (i1)
   (
   (Xjb ha0.Next 255).bind fun i2=>
   cond (i2)
    (
    (Xjb ha0.Hop 255).bind fun i3=>
    cond (i3)
     (
     cond (ha0.Src.V6)
      (
      some (ha0.Dst.V6))
      (
      some (false)))
     (
     some (false)))
    (
    some (false)))
   (
   some (false)))
  (
  some (false))
def XFs (x:Bool):XcU:=⟨.bool x,[],[]⟩
abbrev XfV:=Xaq→Option Bool
def r149 (g:XfV):Dec:=dV XgE fun (y0:Xaq)=>XdX (ofG (g y0) XFs)
theorem XRM {g:XfV} {y0:Xaq} {x:Bool} (hx:g y0=some x):r149 g [.agg ⟨[.int .i64 y0.Class,.int .i64 y0.Label,.int .i64 y0.Next,.int .i64 y0.Hop,.bool y0.Src.V6,.int .u64 y0.Src.Hi,.int .u64 y0.Src.Lo,.bool y0.Dst.V6,.int .u64 y0.Dst.Hi,.int .u64 y0.Dst.Lo]⟩] []=some (XFs x):=(XaS (XiR _)).trans (XaQ hx)
def s149 (g:XfV):XbE:=⟨[.v],r149 g⟩
theorem XO1 {g:XfV} {y0:Xaq} {x:Bool} (hx:g y0=some x):(s149 g).run [.agg ⟨[.int .i64 y0.Class,.int .i64 y0.Label,.int .i64 y0.Next,.int .i64 y0.Hop,.bool y0.Src.V6,.int .u64 y0.Src.Hi,.int .u64 y0.Src.Lo,.bool y0.Dst.V6,.int .u64 y0.Dst.Hi,.int .u64 y0.Dst.Lo]⟩] []=some (XFs x):=XRM hx
abbrev XLW (Xjb:XiW):List (Nat×XbE):=[(174,s174 Xjb)]
theorem XFR (Xjb:XiW) (hS:Xak Tryz.prog (XaD (XLW Xjb))) (ha0:Xaq) (res:Bool) (h:Xl6 Xjb ha0=some res) :
 XaG Tryz.prog 149 0 ⟨⟨149,31,[(0,.agg ⟨[.int .i64 ha0.Class,.int .i64 ha0.Label,.int .i64 ha0.Next,.int .i64 ha0.Hop,.bool ha0.Src.V6,.int .u64 ha0.Src.Hi,.int .u64 ha0.Src.Lo,.bool ha0.Dst.V6,.int .u64 ha0.Dst.Hi,.int .u64 ha0.Dst.Lo]⟩)],[.code XI5],[],false,none⟩,[],[],0⟩ (fun v H _=>Res 0 (XFs res) v H):=by
 unfold Xl6 at h
 have R1:=@XPg Xjb
 refine Xa6 XaE hS true 3000 ?_
 conv=>whnf
 exact W
def Xfz:XfV:=Xl6 Xjb
theorem XOU:XbM Tryz.prog 149 (s149 Xfz):=by
 have hL:=XFR Xjb (Xak.XaM ⟨XPi,trivial⟩)
 exact okA ⟨Tryz.f149,rfl,by decide,rfl⟩
def Xpp (Xa4:Xcn) (n:Int) (k:Int):Option (List UInt8):=
 (Xa4 (wI .u64 n) k).bind fun p=>
 some (p)
def XGs (x:List UInt8):XcU:=⟨.string ⟨⟨x⟩⟩,[],[]⟩
abbrev Xhz:=Int→Int→Option (List UInt8)
def r150 (g:Xhz):Dec:=dV (asI .i64) fun (y0:Int)=>dV (asI .i64) fun (y1:Int)=>XdX (ofG (g y0 y1) XGs)
theorem XTE {g:Xhz} {y0:Int} {y1:Int} {x:List UInt8} (hx:g y0 y1=some x):r150 g [.int .i64 y0,.int .i64 y1] []=some (XGs x):=(XaS (XeL _)).trans ((XaS (XeL _)).trans (XaQ hx))
def s150 (g:Xhz):XbE:=⟨[.v,.v],r150 g⟩
theorem XMa {g:Xhz} {y0:Int} {y1:Int} {x:List UInt8} (hx:g y0 y1=some x):(s150 g).run [.int .i64 y0,.int .i64 y1] []=some (XGs x):=XTE hx
abbrev XNi (Xa4:Xcn):List (Nat×XbE):=[(63,s63 Xa4)]
theorem XGo (Xa4:Xcn) (hS:Xak Tryz.prog (XaD (XNi Xa4))) (n:Int) (k:Int) (res:List UInt8) (h:Xpp Xa4 n k=some res) :
 XaG Tryz.prog 150 0 ⟨⟨150,9,[(0,.int .i64 n),(1,.int .i64 k)],[.code XJd],[],false,none⟩,[],[],0⟩ (fun v H _=>Res 0 (XGs res) v H):=by
 unfold Xpp at h
 have R1:=@Xq0 Xa4
 refine Xa6 XaE hS true 3000 ?_
 conv=>whnf
 exact W
def Xg4:Xhz:=Xpp Xa4
theorem XMG:XbM Tryz.prog 150 (s150 Xg4):=by
 have hL:=XGo Xa4 (Xak.XaM ⟨Xrg,trivial⟩)
 exact okA ⟨Tryz.f150,rfl,by decide,rfl⟩
def XoY (Xcp:XeE) (Xfz:XfV) (Xg4:Xhz) (ha0:Xaq) (payload:List UInt8):Option ((List UInt8)×Int):=
 (Xfz ha0).bind fun xr=>
 cond (!xr)
  (
  some (([],1)))
  (
  cond (decide ((payload.length:Int)>65535))
   (
   some (([],5)))
   (
   let t:=wI .i64 (1610612736+(wI .i64 (ha0.Class*1048576)))
   (Xg4 (wI .i64 (t+ha0.Label)) 4).bind fun n=>
   (Xg4 (payload.length:Int) 2).bind fun n1=>
   Xbh (decide (n.length+n1.length<2^63)) <|
   (Xg4 ha0.Next 1).bind fun n2=>
   Xbh (decide ((n++n1).length+n2.length<2^63)) <|
   (Xg4 ha0.Hop 1).bind fun n3=>
   Xbh (decide (((n++n1)++n2).length+n3.length<2^63)) <|
   (Xcp ha0.Src).bind fun p=>
   Xbh (decide ((((n++n1)++n2)++n3).length+p.length<2^63)) <|
   (Xcp ha0.Dst).bind fun p1=>
   Xbh (decide (((((n++n1)++n2)++n3)++p).length+p1.length<2^63)) <|
   Xbh (decide ((((((n++n1)++n2)++n3)++p)++p1).length+payload.length<2^63)) <|
   let t1:=(((((n++n1)++n2)++n3)++p)++p1)++payload
   some ((t1,0))))
def XHn (x:(List UInt8)×Int):XcU:=⟨.tuple ⟨[.string ⟨⟨x.1⟩⟩,.int .i64 x.2]⟩,[],[]⟩
abbrev XhJ:=Xaq→(List UInt8)→Option ((List UInt8)×Int)
def r103 (g:XhJ):Dec:=dV XgE fun (y0:Xaq)=>dV asS fun (y1:List UInt8)=>XdX (ofG (g y0 y1) XHn)
theorem XTU {g:XhJ} {y0:Xaq} {y1:List UInt8} {x:(List UInt8)×Int} (hx:g y0 y1=some x):r103 g [.agg ⟨[.int .i64 y0.Class,.int .i64 y0.Label,.int .i64 y0.Next,.int .i64 y0.Hop,.bool y0.Src.V6,.int .u64 y0.Src.Hi,.int .u64 y0.Src.Lo,.bool y0.Dst.V6,.int .u64 y0.Dst.Hi,.int .u64 y0.Dst.Lo]⟩,.string ⟨⟨y1⟩⟩] []=some (XHn x):=(XaS (XiR _)).trans ((XaS (Xd4)).trans (XaQ hx))
def s103 (g:XhJ):XbE:=⟨[.v,.v],r103 g⟩
theorem XJR {g:XhJ} {y0:Xaq} {y1:List UInt8} {x:(List UInt8)×Int} (hx:g y0 y1=some x):(s103 g).run [.agg ⟨[.int .i64 y0.Class,.int .i64 y0.Label,.int .i64 y0.Next,.int .i64 y0.Hop,.bool y0.Src.V6,.int .u64 y0.Src.Hi,.int .u64 y0.Src.Lo,.bool y0.Dst.V6,.int .u64 y0.Dst.Hi,.int .u64 y0.Dst.Lo]⟩,.string ⟨⟨y1⟩⟩] []=some (XHn x):=XTU hx
abbrev XOp (Xcp:XeE) (Xfz:XfV) (Xg4:Xhz):List (Nat×XbE):=[(146,XR6 Xcp),(149,s149 Xfz),(150,s150 Xg4)]
theorem XFa (Xcp:XeE) (Xfz:XfV) (Xg4:Xhz) (hS:Xak Tryz.prog (XaD (XOp Xcp Xfz Xg4))) (ha0:Xaq) (payload:List UInt8) (res:(List UInt8)×Int) (h:XoY Xcp Xfz Xg4 ha0 payload=some res) :
 XaG Tryz.prog 103 0 ⟨⟨103,42,[(0,.agg ⟨[.int .i64 ha0.Class,.int .i64 ha0.Label,.int .i64 ha0.Next,.int .i64 ha0.Hop,.bool ha0.Src.V6,.int .u64 ha0.Src.Hi,.int .u64 ha0.Src.Lo,.bool ha0.Dst.V6,.int .u64 ha0.Dst.Hi,.int .u64 ha0.Dst.Lo]⟩),(1,.string ⟨⟨payload⟩⟩)],[.code XxV],[],false,none⟩,[],[],0⟩ (fun v H _=>Res 0 (XHn res) v H):=by
 unfold XoY at h
 have R1:=@XO1 Xfz
 have R2:=@XMa Xg4
 have R3:=@XuK Xcp
 refine Xa6 XaE hS true 3000 ?_
 conv=>whnf
 exact W
def Xib:XhJ:=XoY Xcp Xfz Xg4
theorem XPK:XbM Tryz.prog 103 (s103 Xib):=by
 have hL:=XFa Xcp Xfz Xg4 (Xak.XaM ⟨Xu4,XOU,XMG,trivial⟩)
 exact okA ⟨Tryz.f103,rfl,by decide,rfl⟩
end Go.Vm.Code
namespace Go.Vm.Code
open Go Go.Vm
def Xls (a:Xaa):Prop:=(0≤a.Hi∧a.Hi<2^64)∧0≤a.Lo∧a.Lo<2^64
def Xjw (a:Xaa):List UInt8:=be a.Hi.toNat 8++be a.Lo.toNat 8
theorem Xty {a:Xaa} (h:Xls a) (h6:a.V6=true):XbZ a=some (Xjw a):=by
 unfold XbZ Xlj XaC Xiw
 rw [h6]
 simp only [cond_true,Option.bind_some,Bool.not_true,cond_false]
 rw [Xbu h.1.1,Xbu h.2.1]
 simp only [Option.bind_some,XcF]
 rw [if_pos (by omega),if_pos (by omega),Xar (by simp)];rfl
theorem XvG {a:Xaa} (h:Xls a) (h6:a.V6=true):Xcp a=some (Xjw a):=by
 unfold Xcp Xns XaN Xkr
 rw [h6]
 simp only [cond_true,Option.bind_some,Bool.not_true,cond_false]
 rw [Xdb h.1.1 h.1.2,Xdb h.2.1 h.2.2]
 simp only [Option.bind_some,XcF]
 rw [if_pos (by omega),if_pos (by omega),Xar (by simp)];rfl
def Xs0 (s:List UInt8):Xaa:=⟨true,(Xfu (s.take 8):Nat),(Xfu (s.drop 8):Nat)⟩
def H6 (h:Xaq):Prop:=(0≤h.Class∧h.Class≤255)∧(0≤h.Label∧h.Label≤1048575)∧(0≤h.Next∧h.Next≤255)∧(0≤h.Hop∧h.Hop≤255)∧h.Src.V6=true∧h.Dst.V6=true
instance (h:Xaq):Decidable (H6 h):=inferInstanceAs (Decidable (_∧_))
theorem XJ8 (h:Xaq):XcK h=some (decide (H6 h)):=by
 unfold XcK XhX
 simp only [XrA]
 by_cases hh:H6 h
 ·rw [decide_eq_true hh]
  obtain ⟨a,b,c,d,e,f⟩:=hh
  rw [if_neg (by omega),if_neg (by omega),if_neg (by omega),if_neg (by omega),if_neg (by omega),if_neg (by omega),if_neg (by omega),if_neg (by omega),e,f];rfl
 ·rw [decide_eq_false hh]
  unfold H6 at hh
  repeat' split
  all_goals first|rfl|skip
  cases e:h.Src.V6
  ·rfl
  ·rw [cond_true]
   cases f:h.Dst.V6
   ·rfl
   ·exact absurd ⟨by omega,by omega,by omega,by omega,e,f⟩ hh
theorem XRN (n m:Int):Xjb n m=some (decide (0≤n∧n≤m)):=by
 unfold Xjb Xse
 by_cases h:n≥0
 ·rw [XaP h];congr 1;rw [Bool.eq_iff_iff,decide_eq_true_eq,decide_eq_true_eq];omega
 ·rw [XaK h];congr 1;symm;exact decide_eq_false (by omega)
theorem XAO (h:Xaq):Xfz h=some (decide (H6 h)):=by
 unfold Xfz Xl6
 simp only [XRN,Option.bind_some,XrA]
 by_cases hh:H6 h
 ·rw [decide_eq_true hh]
  obtain ⟨a,b,c,d,e,f⟩:=hh
  rw [if_pos a,if_pos b,if_pos c,if_pos d,e,f];rfl
 ·rw [decide_eq_false hh]
  unfold H6 at hh
  repeat' split
  all_goals first|rfl|skip
  cases e:h.Src.V6
  ·rfl
  ·rw [cond_true]
   cases f:h.Dst.V6
   ·rfl
   ·exact absurd ⟨by assumption,by assumption,by assumption,by assumption,e,f⟩ hh
def headB (h:Xaq) (n:Nat):List UInt8:=be (6*2^28+h.Class.toNat*2^20+h.Label.toNat) 4++be n 2++be h.Next.toNat 1++be h.Hop.toNat 1++Xjw h.Src++Xjw h.Dst
theorem XnJ (h:Xaq) (n:Nat):(headB h n).length=40:=by simp [headB,Xjw]
def XKP (h:Xaq) (p:List UInt8):List UInt8×Int:=if ¬ H6 h then ([],1) else if p.length>65535 then ([],5) else (headB h p.length++p,0)
theorem XP2 {h:Xaq} {p:List UInt8} (hs:Xls h.Src) (hd:Xls h.Dst) (hp:p.length<2^60):XeU h p=some (XKP h p):=by
 unfold XeU Xmk XKP
 rw [XJ8,Option.bind_some]
 by_cases hh:H6 h
 ·rw [decide_eq_true hh,Bool.not_true,cond_false,if_neg (by simpa using hh)]
  obtain ⟨a,b,c,d,e,f⟩:=hh
  by_cases h5:(p.length:Int)>65535
  ·rw [XaP h5,if_pos (by omega)]
  rw [XaK h5,if_neg (by omega)]
  simp only []
  rw [Xty hs e,Xty hd f]
  obtain ⟨C,hC⟩:=Int.eq_ofNat_of_zero_le a.1
  obtain ⟨L,hL⟩:=Int.eq_ofNat_of_zero_le b.1
  obtain ⟨X,hX⟩:=Int.eq_ofNat_of_zero_le c.1
  obtain ⟨O,hO⟩:=Int.eq_ofNat_of_zero_le d.1
  rw [hC] at a;rw [hL] at b;rw [hX] at c;rw [hO] at d
  have e1:Xlg .u64 (Xlg .u64 1610612736 (wI .u64 ((wI .u64 h.Class)*2^20))) (wI .u64 h.Label)=((6*2^28+C*2^20+L:Nat):Int):=by
   rw [hC,hL,XfY (n:=(C:Int)) (by omega) (by omega),XfY (n:=(L:Int)) (by omega) (by omega),XfY (n:=(C:Int)*2^20) (by omega) (by omega)]
   have g1:Xlg .u64 1610612736 ((C:Int)*2^20)=((6*2^8+C:Nat):Int)*2^20:=by
    have:=XgW 28 (a:=6) (b:=(C:Int)*2^20) (by omega) (by omega) (by omega) (by omega) (by omega)
    rw [show (6:Int)*2^28=1610612736 from rfl] at this
    rw [this];omega
   rw [g1,XgW 20 (by omega) (by omega) (by omega) (by omega) (by omega)];omega
  have e2:Xlg .u64 (Xlg .u64 (wI .u64 ((wI .u64 (p.length:Int))*2^16)) (wI .u64 ((wI .u64 h.Next)*2^8))) (wI .u64 h.Hop)=((p.length*2^16+X*2^8+O:Nat):Int):=by
   rw [hX,hO,XfY (n:=(X:Int)) (by omega) (by omega),XfY (n:=(O:Int)) (by omega) (by omega),XfY (n:=(p.length:Int)) (by omega) (by omega),XfY (n:=(X:Int)*2^8) (by omega) (by omega),XfY (n:=(p.length:Int)*2^16) (by omega) (by omega)]
   have g1:Xlg .u64 ((p.length:Int)*2^16) ((X:Int)*2^8)=((p.length*2^8+X:Nat):Int)*2^8:=by
    rw [XgW 16 (by omega) (by omega) (by omega) (by omega) (by omega)];omega
   rw [g1,XgW 8 (by omega) (by omega) (by omega) (by omega) (by omega)];omega
  rw [e1,e2,Xbu (by omega),Xbu (by omega)]
  simp only [Option.bind_some,XcF]
  have e3:be (p.length*2^16+X*2^8+O) 4=be p.length 2++be X 1++be O 1:=by
   refine be_of (by simp) ?_
   rw [val_append,val_append,Xtq,Xtq,Xtq]
   simp only [Xhd]
   omega
  rw [if_pos (by omega),if_pos (by omega)]
  have hl:(be (6*2^28+C*2^20+L) 4).length=4:=Xhd _ _
  simp only [Int.toNat_natCast,show (4:Int).toNat=4 from rfl,e3]
  rw [Xar (by simp),Xar (by simp [Xjw]),Xar (by simp [Xjw]),Xar (by simp [Xjw];omega)]
  simp [headB,hC,hL,hX,hO]
 ·rw [decide_eq_false hh,Bool.not_false,cond_true,if_pos hh]
theorem num6 {n k:Int} (h0:0≤n) (h1:n<2^64):Xg4 n k=some (XcF n k):=by
 unfold Xg4 Xpp
 rw [XfY h0 (by omega),Xdb h0 h1];rfl
theorem XFd {h:Xaq} {p:List UInt8} (hs:Xls h.Src) (hd:Xls h.Dst) (hp:p.length<2^60):Xib h p=some (XKP h p):=by
 unfold Xib XoY XKP
 rw [XAO,Option.bind_some]
 by_cases hh:H6 h
 ·rw [decide_eq_true hh,Bool.not_true,cond_false,if_neg (by simpa using hh)]
  obtain ⟨a,b,c,d,e,f⟩:=hh
  by_cases h5:(p.length:Int)>65535
  ·rw [XaP h5,if_pos (by omega)]
  rw [XaK h5,if_neg (by omega)]
  simp only []
  obtain ⟨C,hC⟩:=Int.eq_ofNat_of_zero_le a.1
  obtain ⟨L,hL⟩:=Int.eq_ofNat_of_zero_le b.1
  rw [hC] at a;rw [hL] at b
  have e1:wI .i64 (wI .i64 (1610612736+(wI .i64 (h.Class*1048576)))+h.Label)=((6*2^28+C*2^20+L:Nat):Int):=by
   rw [hC,hL,XdT (n:=(C:Int)*1048576) (by omega) (by omega),XdT (n:=1610612736+(C:Int)*1048576) (by omega) (by omega),XdT (by omega) (by omega)];omega
  rw [e1,XvG hs e,XvG hd f,num6 (by omega) (by omega),num6 (by omega) (by omega),num6 c.1 (by omega),num6 d.1 (by omega)]
  simp only [Option.bind_some,XcF]
  rw [if_pos (by omega),if_pos (by omega),if_pos (by omega),if_pos (by omega)]
  simp only [Int.toNat_natCast,show (4:Int).toNat=4 from rfl,show (2:Int).toNat=2 from rfl,show (1:Int).toNat=1 from rfl]
  rw [Xar (by simp),Xar (by simp),Xar (by simp),Xar (by simp [Xjw]),Xar (by simp [Xjw]),Xar (by simp [Xjw];omega)]
  simp [headB,hC,hL]
 ·rw [decide_eq_false hh,Bool.not_false,cond_true,if_pos hh]
theorem XpW {a:Xaa} (h:Xls a) (h6:a.V6=true):Xs0 (Xjw a)=a:=by
 obtain ⟨v,hi,lo⟩:=a
 simp only [Xls] at h h6
 subst h6
 unfold Xs0 Xjw
 have e1:(be hi.toNat 8++be lo.toNat 8).take 8=be hi.toNat 8:=by rw [List.take_append_of_le_length (by simp),List.take_of_length_le (by simp)]
 have e2:(be hi.toNat 8++be lo.toNat 8).drop 8=be lo.toNat 8:=by rw [List.drop_append_of_le_length (by simp),List.drop_of_length_le (by simp)];rfl
 rw [e1,e2,Xhf (by have:=h.1;omega),Xhf (by have:=h.2;omega),Int.toNat_of_nonneg h.1.1,Int.toNat_of_nonneg h.2.1]
theorem XH2 {a b c d e f r:List UInt8} (ha:a.length=4) (hb:b.length=2) (hc:c.length=1) (hd:d.length=1) (he:e.length=16) (hf:f.length=16) :
 let s:=a++b++c++d++e++f++r
 s.take 4=a∧(s.drop 4).take 2=b∧(s.drop 6).take 1=c∧(s.drop 7).take 1=d∧(s.drop 8).take 16=e∧(s.drop 24).take 16=f∧s.drop 40=r:=by
 have d4:∀ x:List UInt8,(a++x).drop 4=x:=fun x=>by rw [←ha];exact List.drop_left
 have d2:∀ x:List UInt8,(b++x).drop 2=x:=fun x=>by rw [←hb];exact List.drop_left
 have dc:∀ x:List UInt8,(c++x).drop 1=x:=fun x=>by rw [←hc];exact List.drop_left
 have dd:∀ x:List UInt8,(d++x).drop 1=x:=fun x=>by rw [←hd];exact List.drop_left
 have de:∀ x:List UInt8,(e++x).drop 16=x:=fun x=>by rw [←he];exact List.drop_left
 have df:∀ x:List UInt8,(f++x).drop 16=x:=fun x=>by rw [←hf];exact List.drop_left
 simp only [List.append_assoc]
 have e6:(a++(b++(c++(d++(e++(f++r)))))).drop 6=c++(d++(e++(f++r))):=by
  rw [show 6=4+2 from rfl,←List.drop_drop,d4,d2]
 have e7:(a++(b++(c++(d++(e++(f++r)))))).drop 7=d++(e++(f++r)):=by
  rw [show 7=6+1 from rfl,←List.drop_drop,e6,dc]
 have e8:(a++(b++(c++(d++(e++(f++r)))))).drop 8=e++(f++r):=by
  rw [show 8=7+1 from rfl,←List.drop_drop,e7,dd]
 have e24:(a++(b++(c++(d++(e++(f++r)))))).drop 24=f++r:=by
  rw [show 24=8+16 from rfl,←List.drop_drop,e8,de]
 have e40:(a++(b++(c++(d++(e++(f++r)))))).drop 40=r:=by
  rw [show 40=24+16 from rfl,←List.drop_drop,e24,df]
 refine ⟨by rw [←ha];exact List.take_left,?_,?_,?_,?_,?_,e40⟩
 ·rw [d4,←hb];exact List.take_left
 ·rw [e6,←hc];exact List.take_left
 ·rw [e7,←hd];exact List.take_left
 ·rw [e8,←he];exact List.take_left
 ·rw [e24,←hf];exact List.take_left
end Go.Vm.Code
namespace Go.Vm.Code
open Go Go.Vm Go.Proofs
set_option maxRecDepth 100000
set_option maxHeartbeats 4000000
set_option linter.unusedVariables false
def Xiu (text:List UInt8) (i:Int) (c:List Xdc):Option (Sum (Int×(List Xdc)) ((List Xdc)×Int)):=
 cond (decide (i<(text.length:Int)))
  (
  Xbh (decide (0≤i)) <|
  (text[i.toNat]?).bind fun (b:UInt8)=>
  cond ((b.toNat:Int)==0)
   (
   some (.inr ((c,0))))
   (
   cond ((b.toNat:Int)==1)
    (
    some (.inl (wI .i64 (i+1),c)))
    (
    let t:=decide ((wI .i64 (i+1))<(text.length:Int))
    cond (t)
     (
     Xbh (decide (0≤(wI .i64 (i+1)))) <|
     (text[(wI .i64 (i+1)).toNat]?).bind fun (b1:UInt8)=>
     cond (decide ((wI .i64 (b1.toNat:Int))<2))
      (
      some (.inr (([],3))))
      (
      let t1:=decide ((wI .i64 (b1.toNat:Int))>(wI .i64 ((text.length:Int) - i)))
      cond (t1)
       (
       some (.inr (([],3))))
       (
       Xbh (decide (0≤i)) <|
       (text[i.toNat]?).bind fun (b2:UInt8)=>
       Xbh (decide ((0:Int)≤(wI .i64 (i+(wI .i64 (b1.toNat:Int))))∧(wI .i64 (i+(wI .i64 (b1.toNat:Int))))≤(text.length:Int)∧(0:Int)≤(wI .i64 (i+2))∧(wI .i64 (i+2))≤((wI .i64 (i+(wI .i64 (b1.toNat:Int)))).toNat:Int))) <|
       let t2:=(text.drop (wI .i64 (i+2)).toNat).take ((wI .i64 (i+(wI .i64 (b1.toNat:Int)))).toNat - (wI .i64 (i+2)).toNat)
       cond (decide ((wI .i64 (i+2))<0))
        (
        some (.inr (([],3))))
        (
        Xbh (decide ((c.length+1)*24≤2^47)) <|
        let row:=c++[Xdc.mk (wI .i64 (b2.toNat:Int)) t2]
        some (.inl (wI .i64 (i+(wI .i64 (b1.toNat:Int))),row))))))
     (
     some (.inr (([],3)))))))
  (
  some (.inr ((c,0))))
def XnP (text:List UInt8):Option ((List Xdc)×Int):=
 iter (fun st=>Xiu text st.1 st.2) FUEL (0,[])
def XuJ (x:(List Xdc)×Int):XcU:=⟨.tuple ⟨[.slice (some ⟨0,0,none⟩) x.1.length 2,.int .i64 x.2]⟩,[(vT Xhn x.1)],[]⟩
abbrev XeH:=(List UInt8)→Option ((List Xdc)×Int)
def r169 (g:XeH):Dec:=dV asS fun (y0:List UInt8)=>XdX (ofG (g y0) XuJ)
theorem XTu {g:XeH} {y0:List UInt8} {x:(List Xdc)×Int} (hx:g y0=some x):r169 g [.string ⟨⟨y0⟩⟩] []=some (XuJ x):=(XaS (Xd4)).trans (XaQ hx)
def s169 (g:XeH):XbE:=⟨[.v],r169 g⟩
theorem Xyp {g:XeH} {y0:List UInt8} {x:(List Xdc)×Int} (hx:g y0=some x):(s169 g).run [.string ⟨⟨y0⟩⟩] []=some (XuJ x):=XTu hx
abbrev XAA:List (Nat×XbE):=[]
def Xkt (text:List UInt8) (i:Int) (c:List Xdc):VM:=
 ⟨⟨193,62,[(0,.func (.yield 5) #[] #[]),(1,.pointer (some ⟨3,0,none⟩)),(3,.int .i64 i)],[.code XpT,.inLoop XpT,.inBlock 0],[],false,none⟩,[⟨169,18,[(2,.pointer (some ⟨0,0,none⟩)),(3,.pointer (some ⟨1,0,none⟩)),(4,.pointer (some ⟨2,0,none⟩))],[.inRangeFunc 5,.inBlock 0,.code Xz5],[4],false,none⟩],[(0,.cells [.slice none 0 0]),(1,.cells [.int .i64 0]),(2,.cells [.slice (some ⟨6,0,none⟩) c.length 2]),(3,.cells [.string ⟨⟨text⟩⟩]),(4,.marks),(5,.loop ⟨.ready,none,169,18,[(2,.pointer (some ⟨0,0,none⟩)),(3,.pointer (some ⟨1,0,none⟩)),(4,.pointer (some ⟨2,0,none⟩))],[8],XIR,Xx7,4⟩),(6,.row true (vT Xhn c))],7⟩
theorem Xyn (hS:Xak Tryz.prog (XaD (XAA))) (text:List UInt8) (res:(List Xdc)×Int):∀ fuel (st:Int×(List Xdc)) (o:(List Xdc)×Int),iter (fun st=>Xiu text st.1 st.2) fuel st=some o→(o=res) →
 XaG Tryz.prog 169 0 (Xkt text st.1 st.2) (fun v H t=>∃ v' H' t',Xxx v H t v' H' t'∧Res 0 (XuJ res) v' H'):=by
 intro fuel st o h hc
 refine Xde (head:=fun st=>Xkt text st.1 st.2) (C:=fun o=>(o=res)) ?_ fuel st o h hc
 clear h hc o st fuel
 intro st o h hc
 obtain ⟨i,c⟩:=st
 replace h:Xiu text i c=some o:=h
 show XaG Tryz.prog 169 0 (Xkt text i c) (fun v H t=>∃ v' H' t',Xxx v H t v' H' t'∧Res 0 (XuJ res) v' H')
 unfold Xiu at h
 refine Xa6 XaE hS true 3000 ?_
 conv=>whnf
 refine br.h2 h (by rfl) ?_ ?_
 ·clear h;intro hb h;conv=>whnf
  all_goals (cases h;cases hc)
  all_goals exact ⟨_,_,_,(.refl _ _ _),Res.of [6] rfl (XtS (Xbo Xbe) (Xhg rfl) Xta) (by decide) (XtR (by decide) Xtg) Xtk⟩
 clear h;intro hb h;conv=>whnf
 replace h:=Xbh.elim h;obtain ⟨hb,h⟩:=h
 try (refine req.intro hb ?_;conv=>whnf)
 replace h:=Xdg.elim h;obtain ⟨b,hy,h⟩:=h
 refine rdS.intro hy ?_
 conv=>whnf
 refine br.h h (by rfl) ?_ ?_
 ·clear h;intro hb h;conv=>whnf
  all_goals (cases h;cases hc)
  all_goals exact ⟨_,_,_,(.refl _ _ _),Res.of [6] rfl (XtS (Xbo Xbe) (Xhg rfl) Xta) (by decide) (XtR (by decide) Xtg) Xtk⟩
 clear h;intro hb h;conv=>whnf
 refine br.h h (by rfl) ?_ ?_
 ·clear h;intro hb h;conv=>whnf
  cases h;simp only [Sum.elim_inl,Xkt] at hc
  exact XFQ hc [(0,0),(1,1),(2,2),(3,3),(4,4),(5,5),(6,6)] rfl
 clear h;intro hb h;conv=>whnf
 let t:Bool:=decide ((wI .i64 (i+1))<(text.length:Int))
 refine br.h2 h (by rfl) ?_ ?_
 ·clear h;intro hb h;conv=>whnf
  all_goals (cases h;cases hc)
  all_goals exact ⟨_,_,_,(.val (.tup (.cons (.nil _ _) (.cons (.same _) .nil))) (.refl _ _ _)),Res.of [8] rfl (XtS (Xbo Xbe) (Xhg rfl) Xta) (by decide) (XtR (by decide) Xtg) Xtk⟩
 clear h;intro hb h;conv=>whnf
 replace h:=Xbh.elim h;obtain ⟨hb,h⟩:=h
 try (refine req.intro hb ?_;conv=>whnf)
 replace h:=Xdg.elim h;obtain ⟨b1,hy,h⟩:=h
 refine rdS.intro hy ?_
 conv=>whnf
 refine br.h h (by rfl) ?_ ?_
 ·clear h;intro hb h;conv=>whnf
  all_goals (cases h;cases hc)
  all_goals exact ⟨_,_,_,(.val (.tup (.cons (.nil _ _) (.cons (.same _) .nil))) (.refl _ _ _)),Res.of [8] rfl (XtS (Xbo Xbe) (Xhg rfl) Xta) (by decide) (XtR (by decide) Xtg) Xtk⟩
 clear h;intro hb h;conv=>whnf
 let t1:Bool:=decide ((wI .i64 (b1.toNat:Int))>(wI .i64 ((text.length:Int) - i)))
 refine br.h h (by rfl) ?_ ?_
 ·clear h;intro hb h;conv=>whnf
  all_goals (cases h;cases hc)
  all_goals exact ⟨_,_,_,(.val (.tup (.cons (.nil _ _) (.cons (.same _) .nil))) (.refl _ _ _)),Res.of [8] rfl (XtS (Xbo Xbe) (Xhg rfl) Xta) (by decide) (XtR (by decide) Xtg) Xtk⟩
 clear h;intro hb h;conv=>whnf
 replace h:=Xbh.elim h;obtain ⟨hb,h⟩:=h
 try (refine req.intro hb ?_;conv=>whnf)
 replace h:=Xdg.elim h;obtain ⟨b2,hy,h⟩:=h
 refine rdS.intro hy ?_
 conv=>whnf
 replace h:=Xbh.elim h;obtain ⟨hb,h⟩:=h
 try (refine req.intro hb ?_;conv=>whnf)
 let t2:List UInt8:=(text.drop (wI .i64 (i+2)).toNat).take ((wI .i64 (i+(wI .i64 (b1.toNat:Int)))).toNat - (wI .i64 (i+2)).toNat)
 refine br.h h (by rfl) ?_ ?_
 ·clear h;intro hb h;conv=>whnf
  all_goals (cases h;cases hc)
  all_goals exact ⟨_,_,_,(.val (.tup (.cons (.nil _ _) (.cons (.same _) .nil))) (.refl _ _ _)),Res.of [24] rfl (XtS (Xbo Xbe) (Xhg rfl) Xta) (by decide) (XtR (by decide) Xtg) Xtk⟩
 clear h;intro hb h;conv=>whnf
 replace h:=Xbh.elim h;obtain ⟨hb,h⟩:=h
 refine req.intro (XzB (of_decide_eq_true hb) (by first|rfl|omega|(simp;done)|(simp;omega)|(simp at *;omega)) rfl (by first|rfl|omega|(simp;done)|(simp;omega)|(simp at *;omega)) (by first|rfl|exact Xh3 _ _|exact Xkf _|exact Xku _|exact Xk5 (by first|exact Xdw|exact Xc4|exact XdD|exact Xcj|exact Xb7|exact XdB|exact XcI|exact Xcr|exact Xc6|exact XdC|exact XcH|exact Xdz|exact Xeg|exact Xcg|exact Xci|exact Xee|exact XcG) _|(rw [Xe7];exact Xh3 _ _)|(simp [Xh3,Xkf,Xku,Xly,Xlk,XmQ,XmW];done)|(simp;exact List.all_eq_true.1 (Xk5 (by first|exact Xdw|exact Xc4|exact XdD|exact Xcj|exact Xb7|exact XdB|exact XcI|exact Xcr|exact Xc6|exact XdC|exact XcH|exact Xdz|exact Xeg|exact Xcg|exact Xci|exact Xee|exact XcG) _))) rfl) ?_
 conv=>whnf
 let row:List Xdc:=c++[Xdc.mk (wI .i64 (b2.toNat:Int)) t2]
 first|have hlen_row:row.length=_:=List.length_append ..|skip
 refine XHX XfT (xs:=c) (ys:=[Xdc.mk (wI .i64 (b2.toNat:Int)) t2]) rfl (by first|rfl|omega) (by first|rfl|omega|(simp;done)|(simp;omega)|(simp at *;omega)) (by first|rfl|omega|(simp;done)|(simp;omega)|(simp at *;omega)) ?_
 conv=>whnf
 cases h;simp only [Sum.elim_inl,Xkt] at hc
 exact XFQ hc [(0,0),(1,1),(2,2),(3,3),(4,4),(5,5),(6,25)] rfl
theorem XFu (hS:Xak Tryz.prog (XaD (XAA))) (text:List UInt8) (res:(List Xdc)×Int) (h:XnP text=some res) :
 XaG Tryz.prog 169 0 ⟨⟨169,18,[(0,.string ⟨⟨text⟩⟩)],[.code XyU],[],false,none⟩,[],[],0⟩ (fun v H _=>Res 0 (XuJ res) v H):=by
 refine XaG.nilW (R:=fun v' H'=>Res 0 (XuJ res) v' H') ?_
 unfold XnP at h
 refine Xa6 XaE hS true 3000 ?_
 conv=>whnf
 have hl:=Xyn hS _ res _ _ _ h rfl;simp only [Xkt] at hl
 refine XaG.nilC 2 0 2 ?_
 exact XFQ hl [(0,0),(1,1),(2,2),(3,3),(4,4),(5,5),(6,6)] rfl
def Xdy:XeH:=XnP
theorem Xzi:XbM Tryz.prog 169 (s169 Xdy):=by
 have hL:=XFu (Xak.XaM trivial)
 exact okA ⟨Tryz.f169,rfl,by decide,rfl⟩
def XiH (options:List UInt8) (i:Int) (out1:List XcQ):Option (Sum (Int×(List XcQ)) ((List XcQ)×Int)):=
 cond (decide (i<(options.length:Int)))
  (
  Xbh (decide (0≤i)) <|
  (options[i.toNat]?).bind fun (b:UInt8)=>
  cond ((b.toNat:Int) !=0)
   (
   Xbh (decide (0≤i)) <|
   (options[i.toNat]?).bind fun (b1:UInt8)=>
   cond ((b1.toNat:Int)==1)
    (
    some (.inl (wI .i64 (i+1),out1)))
    (
    let t:=decide ((wI .i64 (i+1))≥(options.length:Int))
    cond (t)
     (
     some (.inr (([],3))))
     (
     Xbh (decide (0≤(wI .i64 (i+1)))) <|
     (options[(wI .i64 (i+1)).toNat]?).bind fun (b2:UInt8)=>
     cond (decide ((b2.toNat:Int)<2))
      (
      some (.inr (([],3))))
      (
      Xbh (decide (0≤(wI .i64 (i+1)))) <|
      (options[(wI .i64 (i+1)).toNat]?).bind fun (b3:UInt8)=>
      let t1:=decide ((wI .i64 (b3.toNat:Int))>(wI .i64 ((options.length:Int) - i)))
      cond (t1)
       (
       some (.inr (([],3))))
       (
       Xbh (decide (0≤(wI .i64 (i+1)))) <|
       (options[(wI .i64 (i+1)).toNat]?).bind fun (b4:UInt8)=>
       Xbh (decide (0≤i)) <|
       (options[i.toNat]?).bind fun (b5:UInt8)=>
       Xbh (decide ((0:Int)≤(wI .i64 (i+(wI .i64 (b4.toNat:Int))))∧(wI .i64 (i+(wI .i64 (b4.toNat:Int))))≤(options.length:Int)∧(0:Int)≤(wI .i64 (i+2))∧(wI .i64 (i+2))≤((wI .i64 (i+(wI .i64 (b4.toNat:Int)))).toNat:Int))) <|
       let t2:=(options.drop (wI .i64 (i+2)).toNat).take ((wI .i64 (i+(wI .i64 (b4.toNat:Int)))).toNat - (wI .i64 (i+2)).toNat)
       Xbh (decide ((out1.length+1)*32≤2^47)) <|
       let row:=out1++[XcQ.mk (wI .i64 (b5.toNat:Int)) t2 (wI .i64 (i+2))]
       some (.inl (wI .i64 (i+(wI .i64 (b4.toNat:Int))),row)))))))
   (
   some (.inr ((out1,0)))))
  (
  some (.inr ((out1,0))))
def Xnw (options:List UInt8):Option ((List XcQ)×Int):=
 iter (fun st=>XiH options st.1 st.2) FUEL (0,[])
def Xt0 (x:(List XcQ)×Int):XcU:=⟨.tuple ⟨[.slice (some ⟨0,0,none⟩) x.1.length 3,.int .i64 x.2]⟩,[(vT XgU x.1)],[]⟩
abbrev XeI:=(List UInt8)→Option ((List XcQ)×Int)
def r154 (g:XeI):Dec:=dV asS fun (y0:List UInt8)=>XdX (ofG (g y0) Xt0)
theorem XQI {g:XeI} {y0:List UInt8} {x:(List XcQ)×Int} (hx:g y0=some x):r154 g [.string ⟨⟨y0⟩⟩] []=some (Xt0 x):=(XaS (Xd4)).trans (XaQ hx)
def s154 (g:XeI):XbE:=⟨[.v],r154 g⟩
theorem XyF {g:XeI} {y0:List UInt8} {x:(List XcQ)×Int} (hx:g y0=some x):(s154 g).run [.string ⟨⟨y0⟩⟩] []=some (Xt0 x):=XQI hx
abbrev XA2:List (Nat×XbE):=[]
def Xko (options:List UInt8) (i:Int) (out1:List XcQ):VM:=
 ⟨⟨154,73,[(0,.string ⟨⟨options⟩⟩),(4,.slice (some ⟨0,0,none⟩) out1.length 3),(5,.int .i64 i)],[.code Xuj,.inLoop Xuj,.inBlock 0,.code XzW],[],false,none⟩,[],[(0,.row true (vT XgU out1))],1⟩
theorem Xx8 (hS:Xak Tryz.prog (XaD (XA2))) (options:List UInt8) (res:(List XcQ)×Int):∀ fuel (st:Int×(List XcQ)) (o:(List XcQ)×Int),iter (fun st=>XiH options st.1 st.2) fuel st=some o→(o=res) →
 XaG Tryz.prog 154 0 (Xko options st.1 st.2) (fun v H t=>∃ v' H' t',Xxx v H t v' H' t'∧Res 0 (Xt0 res) v' H'):=by
 intro fuel st o h hc
 refine Xde (head:=fun st=>Xko options st.1 st.2) (C:=fun o=>(o=res)) ?_ fuel st o h hc
 clear h hc o st fuel
 intro st o h hc
 obtain ⟨i,out1⟩:=st
 replace h:XiH options i out1=some o:=h
 show XaG Tryz.prog 154 0 (Xko options i out1) (fun v H t=>∃ v' H' t',Xxx v H t v' H' t'∧Res 0 (Xt0 res) v' H')
 unfold XiH at h
 refine Xa6 XaE hS true 3000 ?_
 conv=>whnf
 refine br.h2 h (by rfl) ?_ ?_
 ·clear h;intro hb h;conv=>whnf
  all_goals (cases h;cases hc)
  all_goals exact ⟨_,_,_,(.refl _ _ _),Res.of [0] rfl (XtS (Xbo Xbi) (Xhg rfl) Xta) (by decide) (XtR (by decide) Xtg) Xtk⟩
 clear h;intro hb h;conv=>whnf
 replace h:=Xbh.elim h;obtain ⟨hb,h⟩:=h
 try (refine req.intro hb ?_;conv=>whnf)
 replace h:=Xdg.elim h;obtain ⟨b,hy,h⟩:=h
 refine rdS.intro hy ?_
 conv=>whnf
 refine br.h2 h (by rfl) ?_ ?_
 ·clear h;intro hb h;conv=>whnf
  all_goals (cases h;cases hc)
  all_goals exact ⟨_,_,_,(.refl _ _ _),Res.of [0] rfl (XtS (Xbo Xbi) (Xhg rfl) Xta) (by decide) (XtR (by decide) Xtg) Xtk⟩
 clear h;intro hb h;conv=>whnf
 replace h:=Xbh.elim h;obtain ⟨hb,h⟩:=h
 try (refine req.intro hb ?_;conv=>whnf)
 replace h:=Xdg.elim h;obtain ⟨b1,hy,h⟩:=h
 refine rdS.intro hy ?_
 conv=>whnf
 refine br.h h (by rfl) ?_ ?_
 ·clear h;intro hb h;conv=>whnf
  cases h;simp only [Sum.elim_inl,Xko] at hc
  exact Xmp hc [(0,0)] rfl
 clear h;intro hb h;conv=>whnf
 let t:Bool:=decide ((wI .i64 (i+1))≥(options.length:Int))
 refine br.h h (by rfl) ?_ ?_
 ·clear h;intro hb h;conv=>whnf
  all_goals (cases h;cases hc)
  all_goals exact ⟨_,_,_,(.val (.tup (.cons (.nil _ _) (.cons (.same _) .nil))) (.refl _ _ _)),Res.of [1] rfl (XtS (Xbo Xbi) (Xhg rfl) Xta) (by decide) (XtR (by decide) Xtg) Xtk⟩
 clear h;intro hb h;conv=>whnf
 replace h:=Xbh.elim h;obtain ⟨hb,h⟩:=h
 try (refine req.intro hb ?_;conv=>whnf)
 replace h:=Xdg.elim h;obtain ⟨b2,hy,h⟩:=h
 refine rdS.intro hy ?_
 conv=>whnf
 refine br.h h (by rfl) ?_ ?_
 ·clear h;intro hb h;conv=>whnf
  all_goals (cases h;cases hc)
  all_goals exact ⟨_,_,_,(.val (.tup (.cons (.nil _ _) (.cons (.same _) .nil))) (.refl _ _ _)),Res.of [1] rfl (XtS (Xbo Xbi) (Xhg rfl) Xta) (by decide) (XtR (by decide) Xtg) Xtk⟩
 clear h;intro hb h;conv=>whnf
 replace h:=Xbh.elim h;obtain ⟨hb,h⟩:=h
 try (refine req.intro hb ?_;conv=>whnf)
 replace h:=Xdg.elim h;obtain ⟨b3,hy,h⟩:=h
 refine rdS.intro hy ?_
 conv=>whnf
 let t1:Bool:=decide ((wI .i64 (b3.toNat:Int))>(wI .i64 ((options.length:Int) - i)))
 refine br.h h (by rfl) ?_ ?_
 ·clear h;intro hb h;conv=>whnf
  all_goals (cases h;cases hc)
  all_goals exact ⟨_,_,_,(.val (.tup (.cons (.nil _ _) (.cons (.same _) .nil))) (.refl _ _ _)),Res.of [1] rfl (XtS (Xbo Xbi) (Xhg rfl) Xta) (by decide) (XtR (by decide) Xtg) Xtk⟩
 clear h;intro hb h;conv=>whnf
 replace h:=Xbh.elim h;obtain ⟨hb,h⟩:=h
 try (refine req.intro hb ?_;conv=>whnf)
 replace h:=Xdg.elim h;obtain ⟨b4,hy,h⟩:=h
 refine rdS.intro hy ?_
 conv=>whnf
 replace h:=Xbh.elim h;obtain ⟨hb,h⟩:=h
 try (refine req.intro hb ?_;conv=>whnf)
 replace h:=Xdg.elim h;obtain ⟨b5,hy,h⟩:=h
 refine rdS.intro hy ?_
 conv=>whnf
 replace h:=Xbh.elim h;obtain ⟨hb,h⟩:=h
 try (refine req.intro hb ?_;conv=>whnf)
 let t2:List UInt8:=(options.drop (wI .i64 (i+2)).toNat).take ((wI .i64 (i+(wI .i64 (b4.toNat:Int)))).toNat - (wI .i64 (i+2)).toNat)
 replace h:=Xbh.elim h;obtain ⟨hb,h⟩:=h
 refine req.intro (XzB (of_decide_eq_true hb) (by first|rfl|omega|(simp;done)|(simp;omega)|(simp at *;omega)) rfl (by first|rfl|omega|(simp;done)|(simp;omega)|(simp at *;omega)) (by first|rfl|exact Xh3 _ _|exact Xkf _|exact Xku _|exact Xk5 (by first|exact Xdw|exact Xc4|exact XdD|exact Xcj|exact Xb7|exact XdB|exact XcI|exact Xcr|exact Xc6|exact XdC|exact XcH|exact Xdz|exact Xeg|exact Xcg|exact Xci|exact Xee|exact XcG) _|(rw [Xe7];exact Xh3 _ _)|(simp [Xh3,Xkf,Xku,Xly,Xlk,XmQ,XmW];done)|(simp;exact List.all_eq_true.1 (Xk5 (by first|exact Xdw|exact Xc4|exact XdD|exact Xcj|exact Xb7|exact XdB|exact XcI|exact Xcr|exact Xc6|exact XdC|exact XcH|exact Xdz|exact Xeg|exact Xcg|exact Xci|exact Xee|exact XcG) _))) rfl) ?_
 conv=>whnf
 let row:List XcQ:=out1++[XcQ.mk (wI .i64 (b5.toNat:Int)) t2 (wI .i64 (i+2))]
 first|have hlen_row:row.length=_:=List.length_append ..|skip
 refine XHX Xdq (xs:=out1) (ys:=[XcQ.mk (wI .i64 (b5.toNat:Int)) t2 (wI .i64 (i+2))]) rfl (by first|rfl|omega) (by first|rfl|omega|(simp;done)|(simp;omega)|(simp at *;omega)) (by first|rfl|omega|(simp;done)|(simp;omega)|(simp at *;omega)) ?_
 conv=>whnf
 cases h;simp only [Sum.elim_inl,Xko] at hc
 exact Xmp hc [(0,18)] rfl
theorem XE1 (hS:Xak Tryz.prog (XaD (XA2))) (options:List UInt8) (res:(List XcQ)×Int) (h:Xnw options=some res) :
 XaG Tryz.prog 154 0 ⟨⟨154,73,[(0,.string ⟨⟨options⟩⟩)],[.code XBC],[],false,none⟩,[],[],0⟩ (fun v H _=>Res 0 (Xt0 res) v H):=by
 refine XaG.nilW (R:=fun v' H'=>Res 0 (Xt0 res) v' H') ?_
 unfold Xnw at h
 refine Xa6 XaE hS true 3000 ?_
 conv=>whnf
 have hl:=Xx8 hS _ res _ _ _ h rfl;simp only [Xko] at hl
 refine XaG.nilT 4 3 ?_
 exact Xmp hl [(0,0)] rfl
def Xdx:XeI:=Xnw
theorem Xx9:XbM Tryz.prog 154 (s154 Xdx):=by
 have hL:=XE1 (Xak.XaM trivial)
 exact okA ⟨Tryz.f154,rfl,by decide,rfl⟩
end Go.Vm.Code
namespace Go.Vm.Code
open Go Go.Vm
structure XAb where
 Kind:Int
 Data:List UInt8
 At:Int
def toR (o:XAb):XcQ:=⟨o.Kind,o.Data,o.At⟩
def ofR (o:XcQ):XAb:=⟨o.Kind,o.Data,o.At⟩
theorem XxS (c:List XcQ):(c.map ofR).map toR=c:=by
 rw [List.map_map,show toR∘ofR=id from rfl,List.map_id]
def Xj3 (s:List UInt8):Nat→Nat→List XAb→List XAb×Int
 | 0,_,out=>(out,0)
 | n+1,i,out=>match s[i]? with
   | none=>(out,0)
   | some b=>if b=0 then (out,0) else if b=1 then Xj3 s n (i+1) out else match s[i+1]? with
     | none=>([],3)
     | some k=>if k.toNat<2 then ([],3) else if s.length - i<k.toNat then ([],3) else
        Xj3 s (n+1 - k.toNat) (i+k.toNat) (out++[⟨(b.toNat:Int),(s.drop (i+2)).take (k.toNat - 2),((i+2:Nat):Int)⟩])
termination_by n=>n
decreasing_by all_goals omega
def XnU (s:List UInt8):List XAb×Int:=Xj3 s s.length 0 []
def strip (o:XAb):Xdc:=⟨o.Kind,o.Data⟩
theorem XRD {s:List UInt8} (hs:s.length<2^20):Xdx s=some ((XnU s).1.map toR,(XnU s).2):=by
 unfold Xdx Xnw XnU
 have key:=iter_eq (step:=fun (st:Int×List XcQ)=>XiH s st.1 st.2) (fun st=>((Xj3 s (s.length - st.1.toNat) st.1.toNat (st.2.map ofR)).1.map toR,(Xj3 s (s.length - st.1.toNat) st.1.toNat (st.2.map ofR)).2)) (fun st=>0≤st.1∧st.1≤s.length∧(st.2.length:Int)≤st.1) (fun st=>s.length - st.1.toNat) ?_ FUEL (0,[]) ⟨by simp,by simp,by simp⟩ (by rw [XgM];simp only;omega)
 ·rw [key];rfl
 rintro ⟨p,out⟩ ⟨g1,g2,g3⟩
 simp only at g1 g2 g3 ⊢
 obtain ⟨i,rfl⟩:=Int.eq_ofNat_of_zero_le g1
 simp only [Int.toNat_natCast]
 unfold XiH
 by_cases hi:i<s.length
 ·obtain ⟨n,hn⟩:∃ n,s.length - i=n+1:=⟨s.length - i - 1,by omega⟩
  have e:s[i]?=some s[i]:=List.getElem?_eq_getElem hi
  rw [XaP (by omega),Xar (by omega),Int.toNat_natCast,e,Option.bind_some,hn,Xj3,e]
  by_cases h0:s[i]=0
  ·refine .inl ?_
   rw [show ((s[i].toNat:Int) !=0)=false by rw [h0];rfl,cond_false]
   simp only [h0,if_true,XxS]
  rw [show ((s[i].toNat:Int) !=0)=true by simp;intro hx;exact h0 (UInt8.toNat_inj.1 (by simpa using hx)),cond_true,Xar (by omega),Option.bind_some]
  simp only [if_neg h0]
  by_cases h1:s[i]=1
  ·refine .inr ⟨(((i+1:Nat):Int),out),?_,⟨by simp only;omega,by simp only;omega,by simp only;omega⟩,by simp only;omega,?_⟩
   ·rw [show ((s[i].toNat:Int)==1)=true by rw [h1];rfl,cond_true,XdT (by omega) (by omega)];rfl
   ·simp only [Int.toNat_natCast,if_pos h1]
    rw [show s.length - (i+1)=n by omega]
  rw [show ((s[i].toNat:Int)==1)=false by simp;intro hx;exact h1 (UInt8.toNat_inj.1 (by simp;omega)),cond_false]
  simp only [if_neg h1]
  rw [XdT (n:=(i:Int)+1) (by omega) (by omega)]
  by_cases h2:s.length≤i+1
  ·refine .inl ?_
   rw [XaP (by omega),List.getElem?_eq_none (by omega)];rfl
  have hi1:i+1<s.length:=by omega
  have e1:s[i+1]?=some s[i+1]:=List.getElem?_eq_getElem hi1
  have b1:=s[i+1].toNat_lt
  rw [XaK (by omega),show ((i:Int)+1).toNat=i+1 by omega,e1,Xar (by omega),Option.bind_some]
  simp only [Option.bind_some]
  by_cases h3:s[i+1].toNat<2
  ·refine .inl ?_
   rw [XaP (by omega),if_pos h3];rfl
  rw [XaK (by omega),if_neg h3,Xar (by omega),XdT (n:=(s[i+1].toNat:Int)) (by omega) (by omega),XdT (n:=(s.length:Int) - i) (by omega) (by omega)]
  by_cases h4:s.length - i<s[i+1].toNat
  ·refine .inl ?_
   rw [XaP (by omega),if_pos h4];rfl
  refine .inr ⟨(((i+s[i+1].toNat:Nat):Int),out++[⟨(s[i].toNat:Int),(s.drop (i+2)).take (s[i+1].toNat - 2),((i+2:Nat):Int)⟩]),?_,⟨by simp only;omega,by simp only;omega,by simp;omega⟩,by simp only;omega,?_⟩
  ·have b0:=s[i].toNat_lt
   rw [XaK (by omega),Xar (by omega),Xar (by omega),XdT (n:=(i:Int)+s[i+1].toNat) (by omega) (by omega),XdT (n:=(i:Int)+2) (by omega) (by omega),XdT (n:=(s[i].toNat:Int)) (by omega) (by omega),Xar (by omega),Xar (by omega),show ((i:Int)+s[i+1].toNat).toNat - ((i:Int)+2).toNat=s[i+1].toNat - 2 by omega,show ((i:Int)+2).toNat=i+2 by omega];rfl
  ·rw [if_neg h4]
   simp only [Int.toNat_natCast]
   rw [show s.length - (i+s[i+1].toNat)=n+1 - s[i+1].toNat by omega,List.map_append];rfl
 ·refine .inl ?_
  rw [XaK (by omega),show s.length - i=0 by omega,Xj3,XxS]
theorem XwN (s:List UInt8):∀ (n i:Nat) (o1 o2:List XAb),o1.map strip=o2.map strip→(Xj3 s n i o1).1.map strip=(Xj3 s n i o2).1.map strip∧(Xj3 s n i o1).2=(Xj3 s n i o2).2:=by
 intro n
 induction n using Nat.strongRecOn with
 | ind n ih=>
   intro i o1 o2 h
   cases n with
   | zero=>rw [Xj3,Xj3];exact ⟨h,rfl⟩
   | succ n=>
     rw [Xj3,Xj3]
     split
     ·exact ⟨h,rfl⟩
     split
     ·exact ⟨h,rfl⟩
     split
     ·exact ih n (by omega) _ _ _ h
     split
     ·exact ⟨rfl,rfl⟩
     split
     ·exact ⟨rfl,rfl⟩
     split
     ·exact ⟨rfl,rfl⟩
     exact ih _ (by omega) _ _ _ (by simp [h,strip])
def XmO (o:Xdc):XAb:=⟨o.Kind,o.Data,0⟩
theorem XvN (c:List Xdc):(c.map XmO).map strip=c:=by
 rw [List.map_map,show strip∘XmO=id from rfl,List.map_id]
theorem XTD {s:List UInt8} (hs:s.length<2^20):Xdy s=some ((XnU s).1.map strip,(XnU s).2):=by
 unfold Xdy XnP XnU
 have key:=iter_eq (step:=fun (st:Int×List Xdc)=>Xiu s st.1 st.2) (fun st=>((Xj3 s (s.length - st.1.toNat) st.1.toNat (st.2.map XmO)).1.map strip,(Xj3 s (s.length - st.1.toNat) st.1.toNat (st.2.map XmO)).2)) (fun st=>0≤st.1∧st.1≤s.length∧(st.2.length:Int)≤st.1) (fun st=>s.length - st.1.toNat) ?_ FUEL (0,[]) ⟨by simp,by simp,by simp⟩ (by rw [XgM];simp only;omega)
 ·rw [key];rfl
 rintro ⟨p,out⟩ ⟨g1,g2,g3⟩
 simp only at g1 g2 g3 ⊢
 obtain ⟨i,rfl⟩:=Int.eq_ofNat_of_zero_le g1
 simp only [Int.toNat_natCast]
 unfold Xiu
 by_cases hi:i<s.length
 ·obtain ⟨n,hn⟩:∃ n,s.length - i=n+1:=⟨s.length - i - 1,by omega⟩
  have e:s[i]?=some s[i]:=List.getElem?_eq_getElem hi
  rw [XaP (by omega),Xar (by omega),Int.toNat_natCast,e,Option.bind_some,hn,Xj3,e]
  by_cases h0:s[i]=0
  ·refine .inl ?_
   rw [show ((s[i].toNat:Int)==0)=true by rw [h0];rfl,cond_true]
   simp only [h0,if_true,XvN]
  rw [show ((s[i].toNat:Int)==0)=false by simp;intro hx;exact h0 (UInt8.toNat_inj.1 (by simpa using hx)),cond_false]
  simp only [if_neg h0]
  by_cases h1:s[i]=1
  ·refine .inr ⟨(((i+1:Nat):Int),out),?_,⟨by simp only;omega,by simp only;omega,by simp only;omega⟩,by simp only;omega,?_⟩
   ·rw [show ((s[i].toNat:Int)==1)=true by rw [h1];rfl,cond_true,XdT (by omega) (by omega)];rfl
   ·simp only [Int.toNat_natCast,if_pos h1]
    rw [show s.length - (i+1)=n by omega]
  rw [show ((s[i].toNat:Int)==1)=false by simp;intro hx;exact h1 (UInt8.toNat_inj.1 (by simp;omega)),cond_false]
  simp only [if_neg h1]
  rw [XdT (n:=(i:Int)+1) (by omega) (by omega)]
  by_cases h2:s.length≤i+1
  ·refine .inl ?_
   rw [XaK (by omega),List.getElem?_eq_none (by omega)];rfl
  have hi1:i+1<s.length:=by omega
  have e1:s[i+1]?=some s[i+1]:=List.getElem?_eq_getElem hi1
  have b1:=s[i+1].toNat_lt
  rw [XaP (by omega),show ((i:Int)+1).toNat=i+1 by omega,e1,Xar (by omega),Option.bind_some]
  simp only [Option.bind_some]
  rw [XdT (n:=(s[i+1].toNat:Int)) (by omega) (by omega)]
  by_cases h3:s[i+1].toNat<2
  ·refine .inl ?_
   rw [XaP (by omega),if_pos h3];rfl
  rw [XaK (by omega),if_neg h3,XdT (n:=(s.length:Int) - i) (by omega) (by omega)]
  by_cases h4:s.length - i<s[i+1].toNat
  ·refine .inl ?_
   rw [XaP (by omega),if_pos h4];rfl
  refine .inr ⟨(((i+s[i+1].toNat:Nat):Int),out++[⟨(s[i].toNat:Int),(s.drop (i+2)).take (s[i+1].toNat - 2)⟩]),?_,⟨by simp only;omega,by simp only;omega,by simp;omega⟩,by simp only;omega,?_⟩
  ·have b0:=s[i].toNat_lt
   rw [XaK (by omega),Xar (by omega),XdT (n:=(i:Int)+s[i+1].toNat) (by omega) (by omega),XdT (n:=(i:Int)+2) (by omega) (by omega),XdT (n:=(s[i].toNat:Int)) (by omega) (by omega),Xar (by omega),XaK (by omega),Xar (by omega),show ((i:Int)+s[i+1].toNat).toNat - ((i:Int)+2).toNat=s[i+1].toNat - 2 by omega,show ((i:Int)+2).toNat=i+2 by omega];rfl
  ·rw [if_neg h4]
   simp only [Int.toNat_natCast]
   rw [show s.length - (i+s[i+1].toNat)=n+1 - s[i+1].toNat by omega]
   have:=XwN s (n+1 - s[i+1].toNat) (i+s[i+1].toNat) ((out++[(⟨(s[i].toNat:Int),(s.drop (i+2)).take (s[i+1].toNat - 2)⟩:Xdc)]).map XmO) (out.map XmO++[(⟨(s[i].toNat:Int),(s.drop (i+2)).take (s[i+1].toNat - 2),((i+2:Nat):Int)⟩:XAb)]) (by simp [strip,XmO])
   rw [this.1,this.2]
 ·refine .inl ?_
  rw [XaK (by omega),show s.length - i=0 by omega,Xj3,XvN]
theorem Xve {A B:List UInt8} {p:Nat} {c:Int} (hA:A.length=p):Xq7 (A++(be 0 2++B)) (p:Int) 2 c=A++(be c.toNat 2++B):=by
 subst hA
 unfold Xq7
 rw [if_pos (by simp only [List.length_append,Xhd];omega),Int.toNat_natCast,List.take_left,show ((A.length:Int)+2).toNat=A.length+2 by omega,←List.drop_drop,List.drop_left,show (be 0 2++B).drop 2=B from rfl,List.append_assoc];rfl
def ckN (W:Nat):Nat:=65535 - norm W
theorem XIQ (a b:Nat) (hb:b<65536):be (a*65536+b) 4=be a 2++be b 2:=by
 rw [Xo6 _ 2 2,show (256:Nat)^2=65536 from rfl,show (a*65536+b)/65536=a by omega,←XqT (a*65536+b) 2,show (256:Nat)^2=65536 from rfl,show (a*65536+b)%65536=b by omega]
theorem XAu (a b:Nat) (hb:b<4294967296):be (a*4294967296+b) 8=be a 4++be b 4:=by
 rw [Xo6 _ 4 4,show (256:Nat)^4=4294967296 from rfl,show (a*4294967296+b)/4294967296=a by omega,←XqT (a*4294967296+b) 4,show (256:Nat)^4=4294967296 from rfl,show (a*4294967296+b)%4294967296=b by omega]
theorem XSd (a b:Nat) (hb:b<256):be (a*256+b) 2=be a 1++be b 1:=by
 rw [Xo6 _ 1 1,show (256:Nat)^1=256 from rfl,show (a*256+b)/256=a by omega,←XqT (a*256+b) 1,show (256:Nat)^1=256 from rfl,show (a*256+b)%256=b by omega]
end Go.Vm.Code
namespace Go.Vm.Code
open Go Go.Vm Go.Proofs
set_option maxRecDepth 100000
set_option maxHeartbeats 4000000
set_option linter.unusedVariables false
def XgV (most:Int) (l:List Int) (t9:Int):Option (Sum Int Bool):=
 cond (decide (t9<(l.length:Int)))
  (
  Xbh (decide ((0:Int)≤t9∧t9<(l.length:Int))) <|
  (l[t9.toNat]?).bind fun (e:Int)=>
  cond (decide (e<0))
   (
   some (.inr (false)))
   (
   cond (decide (e>most))
    (
    some (.inr (false)))
    (
    some (.inl (wI .i64 (t9+1))))))
  (
  some (.inr (true)))
def XkY (most:Int) (l:List Int):Option Bool:=
 iter (fun st=>XgV most l st) FUEL 0
def Xwy (x:Bool):XcU:=⟨.bool x,[],[none]⟩
abbrev Xff:=Int→(List Int)→Option Bool
def r197 (g:Xff):Dec:=dV (asI .i64) fun (y0:Int)=>dSl 0 1 (unL (asI .i64)) fun (y1:List Int)=>XdX (ofG (g y0 y1) Xwy)
theorem XWh {g:Xff} {y0:Int} {y1:List Int} {x:Bool} (hx:g y0 y1=some x):r197 g [.int .i64 y0,.slice (some ⟨0,0,none⟩) y1.length 1] [some (vI .i64 y1)]=some (Xwy x):=(XaS (XeL _)).trans ((Xwb (XvV _ _)).trans (XaQ hx))
def s197 (g:Xff):XbE:=⟨[.v,.sl 1],r197 g⟩
theorem XO5 {g:Xff} {y0:Int} {y1:List Int} {x:Bool} (hx:g y0 y1=some x):(s197 g).run [.int .i64 y0,.slice (some ⟨0,0,none⟩) y1.length 1] [some (vI .i64 y1)]=some (Xwy x):=XWh hx
abbrev XA8:List (Nat×XbE):=[]
def XlB (most:Int) (l:List Int) (t9:Int):VM:=
 ⟨⟨197,21,[(0,.int .i64 most),(7,.slice (some ⟨0,0,none⟩) l.length 1),(8,.int .i64 (l.length:Int)),(9,.int .i64 t9)],[.code XuY,.inLoop XuY,.inBlock 0,.code XBr],[],false,none⟩,[],[(0,.row false (vI .i64 l))],1⟩
theorem XxG (hS:Xak Tryz.prog (XaD (XA8))) (most:Int) (l:List Int) (res:Bool):∀ fuel (st:Int) (o:Bool),iter (fun st=>XgV most l st) fuel st=some o→(o=res) →
 XaG Tryz.prog 197 1 (XlB most l st) (fun v H _=>Res 1 (Xwy res) v H):=by
 intro fuel st o h hc
 refine Xde (head:=fun st=>XlB most l st) (C:=fun o=>(o=res)) ?_ fuel st o h hc
 clear h hc o st fuel
 intro t9 o h hc
 replace h:XgV most l t9=some o:=h
 show XaG Tryz.prog 197 1 (XlB most l t9) (fun v H _=>Res 1 (Xwy res) v H)
 unfold XgV at h
 refine Xa6 XaE hS true 3000 ?_
 conv=>whnf
 refine br.h2 h (by rfl) ?_ ?_
 ·clear h;intro hb h;conv=>whnf
  exact W
 clear h;intro hb h;conv=>whnf
 replace h:=Xbh.elim h;obtain ⟨hb,h⟩:=h
 try (refine req.intro hb ?_;conv=>whnf)
 replace h:=Xdg.elim h;obtain ⟨e,hy,h⟩:=h
 refine rd.I hy (by first|rfl|(rw [Nat.zero_add,Nat.mul_one];try rfl;done)|omega) ?_
 conv=>whnf
 refine br.h h (by rfl) ?_ ?_
 ·clear h;intro hb h;conv=>whnf
  exact W
 clear h;intro hb h;conv=>whnf
 refine br.h h (by rfl) ?_ ?_
 ·clear h;intro hb h;conv=>whnf
  exact W
 clear h;intro hb h;conv=>whnf
 cases h;simp only [Sum.elim_inl,XlB] at hc
 exact Xmp hc [(0,0)] rfl
theorem XCW (hS:Xak Tryz.prog (XaD (XA8))) (most:Int) (l:List Int) (res:Bool) (h:XkY most l=some res) :
 XaG Tryz.prog 197 1 ⟨⟨197,21,[(0,.int .i64 most),(1,.slice (some ⟨0,0,none⟩) l.length 1)],[.code Xzb],[],false,none⟩,[],[(0,.row false (vI .i64 l))],1⟩ (fun v H _=>Res 1 (Xwy res) v H):=by
 unfold XkY at h
 refine Xa6 XaE hS true 3000 ?_
 conv=>whnf
 have hl:=XxG hS _ _ res _ _ _ h rfl;simp only [XlB] at hl
 exact Xmp hl [(0,0)] rfl
def XeF:Xff:=XkY
theorem XM4:XbM Tryz.prog 197 (s197 XeF):=by
 have hL:=XCW (Xak.XaM trivial)
 exact okA ⟨Tryz.f197,rfl,by decide,rfl⟩
def Xje (XeF:Xff) (ha0:Xaz):Option Bool:=
 (XeF 65535 [ha0.SPort,ha0.DPort,ha0.Window,ha0.Urgent]).bind fun w=>
 cond (w)
  (
  (XeF 255 [ha0.Flags]).bind fun w1=>
  cond (w1)
   (
   cond (((ha0.Options.length:Int).tmod 4)==0)
    (
    some (decide ((ha0.Options.length:Int)≤40)))
    (
    some (false)))
   (
   some (false)))
  (
  some (false))
def XHv (x:Bool):XcU:=⟨.bool x,[],[]⟩
abbrev XeB:=Xaz→Option Bool
def r181 (g:XeB):Dec:=dV Xjt fun (y0:Xaz)=>XdX (ofG (g y0) XHv)
theorem XSa {g:XeB} {y0:Xaz} {x:Bool} (hx:g y0=some x):r181 g [.agg ⟨[.int .i64 y0.SPort,.int .i64 y0.DPort,.int .u32 y0.Seq,.int .u32 y0.Ack,.int .i64 y0.Flags,.int .i64 y0.Window,.int .i64 y0.Urgent,.string ⟨⟨y0.Options⟩⟩]⟩] []=some (XHv x):=(XaS (Xlv _)).trans (XaQ hx)
def s181 (g:XeB):XbE:=⟨[.v],r181 g⟩
theorem XMR {g:XeB} {y0:Xaz} {x:Bool} (hx:g y0=some x):(s181 g).run [.agg ⟨[.int .i64 y0.SPort,.int .i64 y0.DPort,.int .u32 y0.Seq,.int .u32 y0.Ack,.int .i64 y0.Flags,.int .i64 y0.Window,.int .i64 y0.Urgent,.string ⟨⟨y0.Options⟩⟩]⟩] []=some (XHv x):=XSa hx
abbrev XOl (XeF:Xff):List (Nat×XbE):=[(197,s197 XeF)]
theorem XB5 (XeF:Xff) (hS:Xak Tryz.prog (XaD (XOl XeF))) (ha0:Xaz) (res:Bool) (h:Xje XeF ha0=some res) :
 XaG Tryz.prog 181 0 ⟨⟨181,32,[(0,.agg ⟨[.int .i64 ha0.SPort,.int .i64 ha0.DPort,.int .u32 ha0.Seq,.int .u32 ha0.Ack,.int .i64 ha0.Flags,.int .i64 ha0.Window,.int .i64 ha0.Urgent,.string ⟨⟨ha0.Options⟩⟩]⟩)],[.code XIw],[],false,none⟩,[],[],0⟩ (fun v H _=>Res 0 (XHv res) v H):=by
 unfold Xje at h
 have R1:=@XO5 XeF
 refine Xa6 XaE hS true 3000 ?_
 conv=>whnf
 exact W
def XdK:XeB:=Xje XeF
theorem XPH:XbM Tryz.prog 181 (s181 XdK):=by
 have hL:=XB5 XeF (Xak.XaM ⟨XM4,trivial⟩)
 exact okA ⟨Tryz.f181,rfl,by decide,rfl⟩
def XiP (Xaj:XaR) (ha0:Xaz):Option (List UInt8):=
 let t:=wI .i64 (20+(ha0.Options.length:Int))
 let t1:=Xlg .u64 (wI .u64 ((wI .u64 ha0.SPort)*2^16)) (wI .u64 ha0.DPort)
 (Xaj t1 4).bind fun p=>
 let t2:=Xlg .u64 (wI .u64 ((wI .u64 ha0.Seq)*2^32)) (wI .u64 ha0.Ack)
 (Xaj t2 8).bind fun p1=>
 let t3:=wI .u64 ((wI .u64 ((wI .u64 t).tdiv 4))*2^12)
 (Xaj (Xlg .u64 t3 (wI .u64 ha0.Flags)) 2).bind fun p2=>
 (Xaj (wI .u64 ha0.Window) 2).bind fun p3=>
 Xbh (decide (p2.length+p3.length<2^63)) <|
 Xbh (decide (p.length+p1.length<2^63)) <|
 Xbh (decide ((p++p1).length+(p2++p3).length<2^63)) <|
 (Xaj (wI .u64 ha0.Urgent) 4).bind fun p4=>
 Xbh (decide (((p++p1)++(p2++p3)).length+p4.length<2^63)) <|
 Xbh (decide ((((p++p1)++(p2++p3))++p4).length+ha0.Options.length<2^63)) <|
 let t4:=(((p++p1)++(p2++p3))++p4)++ha0.Options
 some (t4)
def XCN (x:List UInt8):XcU:=⟨.string ⟨⟨x⟩⟩,[],[]⟩
abbrev Xej:=Xaz→Option (List UInt8)
def r182 (g:Xej):Dec:=dV Xjt fun (y0:Xaz)=>XdX (ofG (g y0) XCN)
theorem XUH {g:Xej} {y0:Xaz} {x:List UInt8} (hx:g y0=some x):r182 g [.agg ⟨[.int .i64 y0.SPort,.int .i64 y0.DPort,.int .u32 y0.Seq,.int .u32 y0.Ack,.int .i64 y0.Flags,.int .i64 y0.Window,.int .i64 y0.Urgent,.string ⟨⟨y0.Options⟩⟩]⟩] []=some (XCN x):=(XaS (Xlv _)).trans (XaQ hx)
def s182 (g:Xej):XbE:=⟨[.v],r182 g⟩
theorem XMK {g:Xej} {y0:Xaz} {x:List UInt8} (hx:g y0=some x):(s182 g).run [.agg ⟨[.int .i64 y0.SPort,.int .i64 y0.DPort,.int .u32 y0.Seq,.int .u32 y0.Ack,.int .i64 y0.Flags,.int .i64 y0.Window,.int .i64 y0.Urgent,.string ⟨⟨y0.Options⟩⟩]⟩] []=some (XCN x):=XUH hx
abbrev XQb (Xaj:XaR):List (Nat×XbE):=[(97,s97 Xaj)]
theorem XHB (Xaj:XaR) (hS:Xak Tryz.prog (XaD (XQb Xaj))) (ha0:Xaz) (res:List UInt8) (h:XiP Xaj ha0=some res) :
 XaG Tryz.prog 182 0 ⟨⟨182,56,[(0,.agg ⟨[.int .i64 ha0.SPort,.int .i64 ha0.DPort,.int .u32 ha0.Seq,.int .u32 ha0.Ack,.int .i64 ha0.Flags,.int .i64 ha0.Window,.int .i64 ha0.Urgent,.string ⟨⟨ha0.Options⟩⟩]⟩)],[.code Xz6],[],false,none⟩,[],[],0⟩ (fun v H _=>Res 0 (XCN res) v H):=by
 unfold XiP at h
 have R1:=@Xlb Xaj
 refine Xa6 XaE hS true 3000 ?_
 conv=>whnf
 exact W
def Xc8:Xej:=XiP Xaj
theorem XMr:XbM Tryz.prog 182 (s182 Xc8):=by
 have hL:=XHB Xaj (Xak.XaM ⟨Xnh,trivial⟩)
 exact okA ⟨Tryz.f182,rfl,by decide,rfl⟩
def Xpv (Xbw:Xdi) (XaW:XcP) (XaB:XbD) (Xc8:Xej) (XdK:XeB) (ha0:Xaz) (src:Xaa) (dst:Xaa) (payload:List UInt8):Option ((List UInt8)×Int):=
 let t:=wI .i64 (20+(ha0.Options.length:Int))
 (XaB src dst 6 (wI .i64 (t+(payload.length:Int)))).bind fun p=>
 (XdK ha0).bind fun m=>
 cond (!m)
  (
  some (([],1)))
  (
  cond (p==[])
   (
   some (([],1)))
   (
   let t1:=decide ((payload.length:Int)>(wI .i64 (65535 - t)))
   cond (t1)
    (
    some (([],5)))
    (
    (Xc8 ha0).bind fun l=>
    Xbh (decide (l.length+payload.length<2^63)) <|
    Xbh (decide (p.length+(l++payload).length<2^63)) <|
    (Xbw (p++(l++payload))).bind fun xo=>
    (XaW (l++payload) 16 2 (wI .u64 xo)).bind fun s=>
    some ((s,0)))))
def XCd (x:(List UInt8)×Int):XcU:=⟨.tuple ⟨[.string ⟨⟨x.1⟩⟩,.int .i64 x.2]⟩,[],[]⟩
abbrev Xhw:=Xaz→Xaa→Xaa→(List UInt8)→Option ((List UInt8)×Int)
def r160 (g:Xhw):Dec:=dV Xjt fun (y0:Xaz)=>dV Xb6 fun (y1:Xaa)=>dV Xb6 fun (y2:Xaa)=>dV asS fun (y3:List UInt8)=>XdX (ofG (g y0 y1 y2 y3) XCd)
theorem XUl {g:Xhw} {y0:Xaz} {y1:Xaa} {y2:Xaa} {y3:List UInt8} {x:(List UInt8)×Int} (hx:g y0 y1 y2 y3=some x):r160 g [.agg ⟨[.int .i64 y0.SPort,.int .i64 y0.DPort,.int .u32 y0.Seq,.int .u32 y0.Ack,.int .i64 y0.Flags,.int .i64 y0.Window,.int .i64 y0.Urgent,.string ⟨⟨y0.Options⟩⟩]⟩,.agg ⟨[.bool y1.V6,.int .u64 y1.Hi,.int .u64 y1.Lo]⟩,.agg ⟨[.bool y2.V6,.int .u64 y2.Hi,.int .u64 y2.Lo]⟩,.string ⟨⟨y3⟩⟩] []=some (XCd x):=(XaS (Xlv _)).trans ((XaS (XbP _)).trans ((XaS (XbP _)).trans ((XaS (Xd4)).trans (XaQ hx))))
def s160 (g:Xhw):XbE:=⟨[.v,.v,.v,.v],r160 g⟩
theorem XOf {g:Xhw} {y0:Xaz} {y1:Xaa} {y2:Xaa} {y3:List UInt8} {x:(List UInt8)×Int} (hx:g y0 y1 y2 y3=some x):(s160 g).run [.agg ⟨[.int .i64 y0.SPort,.int .i64 y0.DPort,.int .u32 y0.Seq,.int .u32 y0.Ack,.int .i64 y0.Flags,.int .i64 y0.Window,.int .i64 y0.Urgent,.string ⟨⟨y0.Options⟩⟩]⟩,.agg ⟨[.bool y1.V6,.int .u64 y1.Hi,.int .u64 y1.Lo]⟩,.agg ⟨[.bool y2.V6,.int .u64 y2.Hi,.int .u64 y2.Lo]⟩,.string ⟨⟨y3⟩⟩] []=some (XCd x):=XUl hx
abbrev XLj (Xbw:Xdi) (XaW:XcP) (XaB:XbD) (Xc8:Xej) (XdK:XeB):List (Nat×XbE):=[(183,XVl Xbw),(98,s98 XaW),(180,XQg XaB),(182,s182 Xc8),(181,s181 XdK)]
theorem XEG (Xbw:Xdi) (XaW:XcP) (XaB:XbD) (Xc8:Xej) (XdK:XeB) (hS:Xak Tryz.prog (XaD (XLj Xbw XaW XaB Xc8 XdK))) (ha0:Xaz) (src:Xaa) (dst:Xaa) (payload:List UInt8) (res:(List UInt8)×Int) (h:Xpv Xbw XaW XaB Xc8 XdK ha0 src dst payload=some res) :
 XaG Tryz.prog 160 0 ⟨⟨160,49,[(0,.agg ⟨[.int .i64 ha0.SPort,.int .i64 ha0.DPort,.int .u32 ha0.Seq,.int .u32 ha0.Ack,.int .i64 ha0.Flags,.int .i64 ha0.Window,.int .i64 ha0.Urgent,.string ⟨⟨ha0.Options⟩⟩]⟩),(1,.agg ⟨[.bool src.V6,.int .u64 src.Hi,.int .u64 src.Lo]⟩),(2,.agg ⟨[.bool dst.V6,.int .u64 dst.Hi,.int .u64 dst.Lo]⟩),(3,.string ⟨⟨payload⟩⟩)],[.code XyT],[],false,none⟩,[],[],0⟩ (fun v H _=>Res 0 (XCd res) v H):=by
 unfold Xpv at h
 have R1:=@Xsd XaB
 have R2:=@XMR XdK
 have R3:=@XMK Xc8
 have R4:=@XuS Xbw
 have R5:=@XAh XaW
 refine Xa6 XaE hS true 3000 ?_
 conv=>whnf
 exact W
def Xiq:Xhw:=Xpv Xbw XaW XaB Xc8 XdK
theorem XPC:XbM Tryz.prog 160 (s160 Xiq):=by
 have hL:=XEG Xbw XaW XaB Xc8 XdK (Xak.XaM ⟨XuA,XAa,XrO,XMr,XPH,trivial⟩)
 exact okA ⟨Tryz.f160,rfl,by decide,rfl⟩
def XkA (Xa3:Xcf) (Xad:XaJ) (Xaf:Xaw) (s:List UInt8) (size:Int):Option Xaz:=
 (Xa3 s).bind fun n=>
 (Xad n 2).bind fun n1=>
 (Xad n1.2 2).bind fun n2=>
 (Xad n2.2 4).bind fun n3=>
 (Xad n3.2 4).bind fun n4=>
 (Xad n4.2 2).bind fun n5=>
 (Xad n5.2 2).bind fun n6=>
 (Xad n6.2 2).bind fun n7=>
 (Xad n7.2 2).bind fun n8=>
 (Xaf n8.2 (wI .i64 (size - 20))).bind fun t=>
 some (Xaz.mk n1.1 n2.1 (wI .u32 n3.1) (wI .u32 n4.1) (Xnr .i64 n5.1 255) n6.1 n8.1 t.1)
def XHy (x:Xaz):XcU:=⟨.agg ⟨[.int .i64 x.SPort,.int .i64 x.DPort,.int .u32 x.Seq,.int .u32 x.Ack,.int .i64 x.Flags,.int .i64 x.Window,.int .i64 x.Urgent,.string ⟨⟨x.Options⟩⟩]⟩,[],[]⟩
abbrev Xfe:=(List UInt8)→Int→Option Xaz
def r192 (g:Xfe):Dec:=dV asS fun (y0:List UInt8)=>dV (asI .i64) fun (y1:Int)=>XdX (ofG (g y0 y1) XHy)
theorem XSf {g:Xfe} {y0:List UInt8} {y1:Int} {x:Xaz} (hx:g y0 y1=some x):r192 g [.string ⟨⟨y0⟩⟩,.int .i64 y1] []=some (XHy x):=(XaS (Xd4)).trans ((XaS (XeL _)).trans (XaQ hx))
def s192 (g:Xfe):XbE:=⟨[.v,.v],r192 g⟩
theorem XNI {g:Xfe} {y0:List UInt8} {y1:Int} {x:Xaz} (hx:g y0 y1=some x):(s192 g).run [.string ⟨⟨y0⟩⟩,.int .i64 y1] []=some (XHy x):=XSf hx
abbrev XOh (Xa3:Xcf) (Xad:XaJ) (Xaf:Xaw):List (Nat×XbE):=[(77,s77 Xa3),(78,s78 Xad),(129,XBS Xaf)]
theorem XB7 (Xa3:Xcf) (Xad:XaJ) (Xaf:Xaw) (hS:Xak Tryz.prog (XaD (XOh Xa3 Xad Xaf))) (s:List UInt8) (size:Int) (res:Xaz) (h:XkA Xa3 Xad Xaf s size=some res) :
 XaG Tryz.prog 192 0 ⟨⟨192,38,[(0,.string ⟨⟨s⟩⟩),(1,.int .i64 size)],[.code XyG],[],false,none⟩,[],[],0⟩ (fun v H _=>Res 0 (XHy res) v H):=by
 unfold XkA at h
 have R1:=@XsP Xa3
 have R2:=@XmI Xad
 have R3:=@XlU Xaf
 refine Xa6 XaE hS true 3000 ?_
 conv=>whnf
 exact W
def XeS:Xfe:=XkA Xa3 Xad Xaf
theorem XJH:XbM Tryz.prog 192 (s192 XeS):=by
 have hL:=XB7 Xa3 Xad Xaf (Xak.XaM ⟨XsK,XqG,Xlr,trivial⟩)
 exact okA ⟨Tryz.f192,rfl,by decide,rfl⟩
def Xph (Xa7:XcB) (XaB:XbD) (Xdy:XeH) (XeS:Xfe) (s:List UInt8) (src:Xaa) (dst:Xaa):Option (Xaz×(List UInt8)×Int):=
 cond (decide ((s.length:Int)<20))
  (
  some ((Xaz.mk 0 0 0 0 0 0 0 [],[],2)))
  (
  (s[12]?).bind fun (b:UInt8)=>
  (s[12]?).bind fun (b1:UInt8)=>
  let t:=wI .i64 (4*(wI .i64 ((b.toNat:Int).fdiv (2^4))))
  cond (decide (t<20))
   (
   some ((Xaz.mk 0 0 0 0 0 0 0 [],[],3)))
   (
   cond ((Xnr .u8 (b1.toNat:Int) 15) !=0)
    (
    some ((Xaz.mk 0 0 0 0 0 0 0 [],[],3)))
    (
    cond (decide (t>(s.length:Int)))
     (
     some ((Xaz.mk 0 0 0 0 0 0 0 [],[],2)))
     (
     (XaB src dst 6 (s.length:Int)).bind fun p=>
     cond (p==[])
      (
      some ((Xaz.mk 0 0 0 0 0 0 0 [],[],1)))
      (
      Xbh (decide (p.length+s.length<2^63)) <|
      (Xa7 (p++s)).bind fun xr=>
      cond (!xr)
       (
       some ((Xaz.mk 0 0 0 0 0 0 0 [],[],4)))
       (
       (XeS s t).bind fun p1=>
       (Xdy p1.Options).bind fun l=>
       cond (l.2 !=0)
        (
        some ((Xaz.mk 0 0 0 0 0 0 0 [],[],l.2)))
        (
        Xbh (decide ((0:Int)≤t∧t≤(s.length:Int))) <|
        let t1:=(s.drop t.toNat).take (s.length - t.toNat)
        some ((p1,t1,0)))))))))
def XGy (x:Xaz×(List UInt8)×Int):XcU:=⟨.tuple ⟨[.agg ⟨[.int .i64 x.1.SPort,.int .i64 x.1.DPort,.int .u32 x.1.Seq,.int .u32 x.1.Ack,.int .i64 x.1.Flags,.int .i64 x.1.Window,.int .i64 x.1.Urgent,.string ⟨⟨x.1.Options⟩⟩]⟩,.string ⟨⟨x.2.1⟩⟩,.int .i64 x.2.2]⟩,[],[]⟩
abbrev Xhx:=(List UInt8)→Xaa→Xaa→Option (Xaz×(List UInt8)×Int)
def r167 (g:Xhx):Dec:=dV asS fun (y0:List UInt8)=>dV Xb6 fun (y1:Xaa)=>dV Xb6 fun (y2:Xaa)=>XdX (ofG (g y0 y1 y2) XGy)
theorem XUT {g:Xhx} {y0:List UInt8} {y1:Xaa} {y2:Xaa} {x:Xaz×(List UInt8)×Int} (hx:g y0 y1 y2=some x):r167 g [.string ⟨⟨y0⟩⟩,.agg ⟨[.bool y1.V6,.int .u64 y1.Hi,.int .u64 y1.Lo]⟩,.agg ⟨[.bool y2.V6,.int .u64 y2.Hi,.int .u64 y2.Lo]⟩] []=some (XGy x):=(XaS (Xd4)).trans ((XaS (XbP _)).trans ((XaS (XbP _)).trans (XaQ hx)))
def s167 (g:Xhx):XbE:=⟨[.v,.v,.v],r167 g⟩
theorem XKQ {g:Xhx} {y0:List UInt8} {y1:Xaa} {y2:Xaa} {x:Xaz×(List UInt8)×Int} (hx:g y0 y1 y2=some x):(s167 g).run [.string ⟨⟨y0⟩⟩,.agg ⟨[.bool y1.V6,.int .u64 y1.Hi,.int .u64 y1.Lo]⟩,.agg ⟨[.bool y2.V6,.int .u64 y2.Hi,.int .u64 y2.Lo]⟩] []=some (XGy x):=XUT hx
abbrev XNR (Xa7:XcB) (XaB:XbD) (Xdy:XeH) (XeS:Xfe):List (Nat×XbE):=[(80,s80 Xa7),(180,XQg XaB),(169,s169 Xdy),(192,s192 XeS)]
theorem XGF (Xa7:XcB) (XaB:XbD) (Xdy:XeH) (XeS:Xfe) (hS:Xak Tryz.prog (XaD (XNR Xa7 XaB Xdy XeS))) (s:List UInt8) (src:Xaa) (dst:Xaa) (res:Xaz×(List UInt8)×Int) (h:Xph Xa7 XaB Xdy XeS s src dst=some res) :
 XaG Tryz.prog 167 0 ⟨⟨167,76,[(0,.string ⟨⟨s⟩⟩),(1,.agg ⟨[.bool src.V6,.int .u64 src.Hi,.int .u64 src.Lo]⟩),(2,.agg ⟨[.bool dst.V6,.int .u64 dst.Hi,.int .u64 dst.Lo]⟩)],[.code XzY],[],false,none⟩,[],[],0⟩ (fun v H _=>Res 0 (XGy res) v H):=by
 unfold Xph at h
 have R1:=@Xsd XaB
 have R2:=@Xym Xa7
 have R3:=@XNI XeS
 have R4:=@Xyp Xdy
 refine Xa6 XaE hS true 3000 ?_
 conv=>whnf
 exact W
def XiA:Xhx:=Xph Xa7 XaB Xdy XeS
theorem XLJ:XbM Tryz.prog 167 (s167 XiA):=by
 have hL:=XGF Xa7 XaB Xdy XeS (Xak.XaM ⟨XAF,XrO,Xzi,XJH,trivial⟩)
 exact okA ⟨Tryz.f167,rfl,by decide,rfl⟩
def Xru (Xa4:Xcn) (n:Int) (k:Int):Option (List UInt8):=
 (Xa4 (wI .u64 n) k).bind fun p=>
 some (p)
abbrev Xn2:=Int→Int→Option (List UInt8)
def Xf1:Xn2:=Xru Xa4
def XA7 (n:Int) (most:Int):Option Bool:=
 cond (decide (n≥0))
  (
  some (decide (n≤most)))
  (
  some (false))
abbrev Xtp:=Int→Int→Option Bool
def XnQ:Xtp:=XA7
def Xrl (XnQ:Xtp) (ha0:Xaz):Option Bool:=
 (XnQ ha0.SPort 65535).bind fun i=>
 cond (i)
  (
  (XnQ ha0.DPort 65535).bind fun i1=>
  cond (i1)
   (
   (XnQ ha0.Flags 255).bind fun i2=>
   cond (i2)
    (
    (XnQ ha0.Window 65535).bind fun i3=>
    cond (i3)
     (
     (XnQ ha0.Urgent 65535).bind fun i4=>
     cond (i4)
      (
      cond (decide ((ha0.Options.length:Int)≤40))
       (
       some (((ha0.Options.length:Int).tmod 4)==0))
       (
       some (false)))
      (
      some (false)))
     (
     some (false)))
    (
    some (false)))
   (
   some (false)))
  (
  some (false))
abbrev XoN:=Xaz→Option Bool
def XlW:XoN:=Xrl XnQ
def Xv9 (Xe1:Xgc) (Xdh:Xe6) (Xbv:XcD) (XlW:XoN) (Xf1:Xn2) (ha0:Xaz) (src:Xaa) (dst:Xaa) (payload:List UInt8):Option ((List UInt8)×Int):=
 let t:=wI .i64 (20+(ha0.Options.length:Int))
 (Xbv src dst 6 (wI .i64 (t+(payload.length:Int)))).bind fun p=>
 (XlW ha0).bind fun xr=>
 cond (!xr)
  (
  some (([],1)))
  (
  cond (p==[])
   (
   some (([],1)))
   (
   let t1:=decide ((payload.length:Int)>(wI .i64 (65535 - t)))
   cond (t1)
    (
    some (([],5)))
    (
    (Xf1 ha0.SPort 2).bind fun n=>
    (Xf1 ha0.DPort 2).bind fun n1=>
    Xbh (decide (n.length+n1.length<2^63)) <|
    (Xf1 (wI .i64 ha0.Seq) 4).bind fun n2=>
    Xbh (decide ((n++n1).length+n2.length<2^63)) <|
    (Xf1 (wI .i64 ha0.Ack) 4).bind fun n3=>
    Xbh (decide (((n++n1)++n2).length+n3.length<2^63)) <|
    (Xf1 (wI .i64 (4*t)) 1).bind fun n4=>
    Xbh (decide ((((n++n1)++n2)++n3).length+n4.length<2^63)) <|
    (Xf1 ha0.Flags 1).bind fun n5=>
    Xbh (decide (((((n++n1)++n2)++n3)++n4).length+n5.length<2^63)) <|
    (Xf1 ha0.Window 2).bind fun n6=>
    Xbh (decide ((((((n++n1)++n2)++n3)++n4)++n5).length+n6.length<2^63)) <|
    let t2:=(((((n++n1)++n2)++n3)++n4)++n5)++n6
    (Xf1 0 2).bind fun n7=>
    Xbh (decide (t2.length+n7.length<2^63)) <|
    (Xf1 ha0.Urgent 2).bind fun n8=>
    Xbh (decide ((t2++n7).length+n8.length<2^63)) <|
    Xbh (decide (((t2++n7)++n8).length+ha0.Options.length<2^63)) <|
    Xbh (decide ((((t2++n7)++n8)++ha0.Options).length+payload.length<2^63)) <|
    let t3:=(((t2++n7)++n8)++ha0.Options)++payload
    Xbh (decide (p.length+t3.length<2^63)) <|
    (Xe1 (p++t3)).bind fun xo=>
    (Xdh t3 16 2 (wI .u64 xo)).bind fun s=>
    some ((s,0)))))
abbrev XqO:=Xaz→Xaa→Xaa→(List UInt8)→Option ((List UInt8)×Int)
def XpX:XqO:=Xv9 Xe1 Xdh Xbv XlW Xf1
def Xpo (Xao:XbC) (Xcm:XdJ) (Xbv:XcD) (Xdx:XeI) (s:List UInt8) (src:Xaa) (dst:Xaa):Option (Xaz×(List UInt8)×Int):=
 cond (decide ((s.length:Int)<20))
  (
  some ((Xaz.mk 0 0 0 0 0 0 0 [],[],2)))
  (
  (s[12]?).bind fun (b:UInt8)=>
  let t:=wI .i64 (wI .u8 ((b.toNat:Int).tdiv 16))
  cond (decide ((wI .i64 (4*t))<20))
   (
   some ((Xaz.mk 0 0 0 0 0 0 0 [],[],3)))
   (
   (s[12]?).bind fun (b1:UInt8)=>
   cond (((b1.toNat:Int).tmod 16) !=0)
    (
    some ((Xaz.mk 0 0 0 0 0 0 0 [],[],3)))
    (
    let t1:=decide ((s.length:Int)<(wI .i64 (4*t)))
    cond (t1)
     (
     some ((Xaz.mk 0 0 0 0 0 0 0 [],[],2)))
     (
     (Xbv src dst 6 (s.length:Int)).bind fun p=>
     cond (p==[])
      (
      some ((Xaz.mk 0 0 0 0 0 0 0 [],[],1)))
      (
      Xbh (decide (p.length+s.length<2^63)) <|
      (Xcm (p++s)).bind fun s1=>
      cond (s1 !=65535)
       (
       some ((Xaz.mk 0 0 0 0 0 0 0 [],[],4)))
       (
       Xbh (decide ((0:Int)≤(wI .i64 (4*t))∧(wI .i64 (4*t))≤(s.length:Int)∧(0:Int)≤(20:Int)∧(20:Int)≤((wI .i64 (4*t)).toNat:Int))) <|
       let t2:=(s.drop 20).take ((wI .i64 (4*t)).toNat - 20)
       (Xdx t2).bind fun l=>
       cond (l.2 !=0)
        (
        some ((Xaz.mk 0 0 0 0 0 0 0 [],[],l.2)))
        (
        (Xao s 0 2).bind fun m=>
        (Xao s 2 2).bind fun m1=>
        (Xao s 4 4).bind fun m2=>
        (Xao s 8 4).bind fun m3=>
        (s[13]?).bind fun (b2:UInt8)=>
        (Xao s 14 2).bind fun m4=>
        (Xao s 18 2).bind fun m5=>
        Xbh (decide ((0:Int)≤(wI .i64 (4*t))∧(wI .i64 (4*t))≤(s.length:Int)∧(0:Int)≤(20:Int)∧(20:Int)≤((wI .i64 (4*t)).toNat:Int))) <|
        let t3:=(s.drop 20).take ((wI .i64 (4*t)).toNat - 20)
        Xbh (decide ((0:Int)≤(wI .i64 (4*t))∧(wI .i64 (4*t))≤(s.length:Int))) <|
        let t4:=(s.drop (wI .i64 (4*t)).toNat).take (s.length - (wI .i64 (4*t)).toNat)
        some ((Xaz.mk m m1 (wI .u32 m2) (wI .u32 m3) (wI .i64 (b2.toNat:Int)) m4 m5 t3,t4,0)))))))))
def XEL (x:Xaz×(List UInt8)×Int):XcU:=⟨.tuple ⟨[.agg ⟨[.int .i64 x.1.SPort,.int .i64 x.1.DPort,.int .u32 x.1.Seq,.int .u32 x.1.Ack,.int .i64 x.1.Flags,.int .i64 x.1.Window,.int .i64 x.1.Urgent,.string ⟨⟨x.1.Options⟩⟩]⟩,.string ⟨⟨x.2.1⟩⟩,.int .i64 x.2.2]⟩,[],[]⟩
abbrev XhA:=(List UInt8)→Xaa→Xaa→Option (Xaz×(List UInt8)×Int)
def r106 (g:XhA):Dec:=dV asS fun (y0:List UInt8)=>dV Xb6 fun (y1:Xaa)=>dV Xb6 fun (y2:Xaa)=>XdX (ofG (g y0 y1 y2) XEL)
theorem XT5 {g:XhA} {y0:List UInt8} {y1:Xaa} {y2:Xaa} {x:Xaz×(List UInt8)×Int} (hx:g y0 y1 y2=some x):r106 g [.string ⟨⟨y0⟩⟩,.agg ⟨[.bool y1.V6,.int .u64 y1.Hi,.int .u64 y1.Lo]⟩,.agg ⟨[.bool y2.V6,.int .u64 y2.Hi,.int .u64 y2.Lo]⟩] []=some (XEL x):=(XaS (Xd4)).trans ((XaS (XbP _)).trans ((XaS (XbP _)).trans (XaQ hx)))
def s106 (g:XhA):XbE:=⟨[.v,.v,.v],r106 g⟩
theorem XKa {g:XhA} {y0:List UInt8} {y1:Xaa} {y2:Xaa} {x:Xaz×(List UInt8)×Int} (hx:g y0 y1 y2=some x):(s106 g).run [.string ⟨⟨y0⟩⟩,.agg ⟨[.bool y1.V6,.int .u64 y1.Hi,.int .u64 y1.Lo]⟩,.agg ⟨[.bool y2.V6,.int .u64 y2.Hi,.int .u64 y2.Lo]⟩] []=some (XEL x):=XT5 hx
abbrev XLH (Xao:XbC) (Xcm:XdJ) (Xbv:XcD) (Xdx:XeI):List (Nat×XbE):=[(88,s88 Xao),(86,s86 Xcm),(101,XRy Xbv),(154,s154 Xdx)]
theorem XHr (Xao:XbC) (Xcm:XdJ) (Xbv:XcD) (Xdx:XeI) (hS:Xak Tryz.prog (XaD (XLH Xao Xcm Xbv Xdx))) (s:List UInt8) (src:Xaa) (dst:Xaa) (res:Xaz×(List UInt8)×Int) (h:Xpo Xao Xcm Xbv Xdx s src dst=some res) :
 XaG Tryz.prog 106 0 ⟨⟨106,85,[(0,.string ⟨⟨s⟩⟩),(1,.agg ⟨[.bool src.V6,.int .u64 src.Hi,.int .u64 src.Lo]⟩),(2,.agg ⟨[.bool dst.V6,.int .u64 dst.Hi,.int .u64 dst.Lo]⟩)],[.code Xye],[],false,none⟩,[],[],0⟩ (fun v H _=>Res 0 (XEL res) v H):=by
 unfold Xpo at h
 have R1:=@XuP Xbv
 have R2:=@Xu6 Xcm
 have R3:=@XyF Xdx
 have R4:=@XoK Xao
 refine Xa6 XaE hS true 3000 ?_
 conv=>whnf
 exact W
def XiD:XhA:=Xpo Xao Xcm Xbv Xdx
theorem XNz:XbM Tryz.prog 106 (s106 XiD):=by
 have hL:=XHr Xao Xcm Xbv Xdx (Xak.XaM ⟨Xql,Xv4,Xt2,Xx9,trivial⟩)
 exact okA ⟨Tryz.f106,rfl,by decide,rfl⟩
end Go.Vm.Code
