import Derived.Deep.Slices
import Derived.WideShapes
import Derived.ChangeShapes
import Derived.Laws.BitsLemmas
import Derived.RangeFuncLeaves
import Derived.RangeFuncRecord
import Derived.Lib.Builder
import Derived.Lib.UnsafeStr
import Derived.Laws.Externs
import Derived.KernelRfl
import Derived.WalkSpells
import Derived.WalkKit
import Derived.Calls
import Derived.Orders
import Derived.Shelf.Strings.Repeat
import Derived.Test.YtddaijhjflfdmaaGreatProg
namespace Go.Vm
open Go
def XaD {α:Type}:List (Nat×α)→Nat→Option α
 | [],_=>none
 | (i,x)::l,j=>cond (Nat.beq i j) (some x) (XaD l j)
def XoP {α:Type}:List (Nat×α)→Nat→List (Nat×α)
 | [],_=>[]
 | (i,x)::l,j=>cond (Nat.beq i j) (XoP l j) ((i,x)::XoP l j)
def Xgp {α:Type} (l:List (Nat×α)) (i:Nat) (x:α):List (Nat×α):=(i,x)::XoP l i
abbrev Env:=List (Nat×Value)
inductive SK where
 | bool|int (k:IntKind)|str|oth
inductive VOp where
 | mv (x:Operand)
 | pick (c a b:Operand)
 | alloc (z:List Value)
 | box (x:Operand)
 | build (z:List Value) (ps:List (Nat×Nat×Operand))
 | buildSl (len sz:Nat) (z:List Value) (ps:List (Nat×Nat×Operand))
 | load1 (k:SK) (a:Operand)
 | loadN (ks:List SK) (a:Operand)
 | store (n:Nat) (a x:Operand)
 | nilCheck (x:Operand)
 | bin (op:BinOp) (x y:Operand)
 | eqB (neg:Bool) (x y:Operand)
 | isNil (k:Nat) (neg:Bool) (x:Operand)
 | eqAgg (neg:Bool) (os:List (Nat×SK)) (x y:Operand)
 | not (x:Operand)
 | neg (x:Operand)
 | cmpl (x:Operand)
 | conv (k:IntKind) (x:Operand)
 | s2b (x:Operand)
 | b2s (x:Operand)
 | s2s (x:Operand)
 | r2s (x:Operand)
 | iface (t:Nat) (x:Operand)
 | tassert (t:Nat) (z:Value) (x:Operand)
 | mkFunc (f:Nat) (first caps:List Operand)
 | mkSl (sz bytes:Nat) (z:List Value) (len cap:Operand)
 | sliceS (x:Operand) (lo hi:Option Operand)
 | sliceL (sz:Nat) (x:Operand) (lo hi:Option Operand)
 | sliceA (n sz:Nat) (x:Operand) (lo hi:Option Operand)
 | fieldA (off:Nat) (x:Operand)
 | part1 (off:Nat) (x:Operand)
 | partN (off n:Nat) (x:Operand)
 | idxAA (n sz:Nat) (x i:Operand)
 | idxAL (sz:Nat) (x i:Operand)
 | idxV1 (n:Nat) (x i:Operand)
 | idxVN (n sz:Nat) (x i:Operand)
 | idxS (x i:Operand)
 | ixb (x y:Operand)
 | extract (i:Nat) (x:Operand)
 | lenS (x:Operand)
 | lenL (x:Operand)
 | lenN (n:Nat)
 | minmax (mx:Bool) (xs:List Operand)
 | app (t sz bytes:Nat) (x y:Operand)
 | allocB (t e:Nat)
 | eqP (neg:Bool) (x y:Operand)
 | toU (x:Operand)
 | ofU (u n:Nat) (x:Operand)
 | sdata (x:Operand)
 | ustr (t:Nat) (x n:Operand)
 | clr (sz:Nat) (x:Operand)
 | callF (f:Nat) (xs:List Operand)
 | callV (fv:Operand) (xs:List Operand)
 | rangeS (x:Operand)
 | nextS (it:Operand)
structure Xdf where
 dst:Option Nat
 op:VOp
 g:Option (Nat×Bool)
inductive VC where
 | skip
 | reg (ops:List Xdf)
 | regD (ops:List Xdf) (chk:List (Nat×Nat)) (post:List Xdf)
 | stuck
 | seq (a b:VC)
 | cond (c:Operand) (a b:VC)
 | block (id:Nat) (b:VC)
 | loop (b:VC)
 | scope (b:VC)
 | rangeF (f:Operand) (ps:List Nat) (asg body:VC)
 | exit (id:Nat)
 | ret
structure XxR where
 state:LoopState
 pending:Option VC
 fn:Nat
 nt:Nat
 env:Env
 params:List Nat
 asg:VC
 body:VC
 defers:Nat
inductive XbO where
 | cells (cs:List Value)
 | row (own:Bool) (cs:List Value)
 | ty (t:Nat) (cs:List Value)
 | siter (s:ByteArray) (pos:Nat)
 | loop (l:XxR)
 | marks
abbrev Hp:=List (Nat×XbO)
inductive Xgo where
 | code (c:VC)
 | inBlock (id:Nat)
 | inScope
 | inLoop (b:VC)
 | inReg (ops:List Xdf)
 | inRangeFunc (l:Nat)
 | endRangeFunc (l:Nat)
 | beginRound
structure XbQ where
 fn:Nat
 nt:Nat
 env:Env
 todo:List Xgo
 defers:List Nat
 ret:Bool
 round:Option Nat
structure VM where
 cur:XbQ
 up:List XbQ
 heap:Hp
 top:Nat
inductive XBJ where
 | tmp (t:Nat)
 | cell (t:Nat) (ks:List SK) (agg:Bool)
structure VFn where
 nt:Nat
 body:VC
 results:List XBJ
def Xov (e:Env):Operand→Option Value
 | .tmp t=>XaD e t
 | .const v=>some v
 | .global _=>none
 | .func f=>some (.func (.func f) #[] #[])
def Xnx (e:Env):List Operand→Option (List Value)
 | []=>some []
 | o::os=>match Xov e o with
   | some v=>match Xnx e os with
     | some vs=>some (v::vs)
     | none=>none
   | none=>none
def VOp.ops:VOp→List Operand
 | .mv x|.box x|.load1 _ x|.loadN _ x|.nilCheck x|.isNil _ _ x|.not x|.neg x|.cmpl x|.conv _ x|.s2b x|.b2s x|.s2s x|.r2s x
 | .iface _ x|.tassert _ _ x|.fieldA _ x|.part1 _ x|.partN _ _ x|.extract _ x|.lenS x|.lenL x|.rangeS x|.nextS x|.toU x|.ofU _ _ x|.sdata x|.clr _ x=>[x]
 | .pick c a b=>[c,a,b]
 | .alloc _|.lenN _|.allocB _ _=>[]
 | .build _ ps|.buildSl _ _ _ ps=>ps.map (·.2.2)
 | .store _ a x|.bin _ a x|.eqB _ a x|.eqAgg _ _ a x|.mkSl _ _ _ a x|.idxAA _ _ a x|.idxAL _ a x|.idxV1 _ a x|.idxVN _ _ a x|.idxS a x|.ixb a x
 | .app _ _ _ a x|.eqP _ a x|.ustr _ a x=>[a,x]
 | .mkFunc _ first caps=>first++caps
 | .sliceS x lo hi|.sliceL _ x lo hi|.sliceA _ _ x lo hi=>x::(lo.toList++hi.toList)
 | .minmax _ xs=>xs
 | .callF _ xs=>xs
 | .callV f xs=>f::xs
def Xh9:Value:=.tuple #[]
def Xwj (op:BinOp):Value→Value→Option Value
 | .int k a,.int k' b=>match op with
   | .shl=>if 0≤b then some (.int k (k.wrap (a*2^(min b.toNat k.bits)))) else none
   | .shr=>if 0≤b then some (.int k (a.fdiv (2^(min b.toNat k.bits)))) else none
   | op=>if k=k' then match op with
     | .add=>some (.int k (k.wrap (a+b)))
     | .sub=>some (.int k (k.wrap (a - b)))
     | .mul=>some (.int k (k.wrap (a*b)))
     | .quo=>if b=0 then none else some (.int k (k.wrap (a.tdiv b)))
     | .rem=>if b=0 then none else some (.int k (a.tmod b))
     | .and=>some (.int k (k.wrap (BitVec.ofInt k.bits a &&& BitVec.ofInt k.bits b).toNat))
     | .or=>some (.int k (k.wrap (BitVec.ofInt k.bits a ||| BitVec.ofInt k.bits b).toNat))
     | .xor=>some (.int k (k.wrap (BitVec.ofInt k.bits a ^^^ BitVec.ofInt k.bits b).toNat))
     | .andNot=>some (.int k (k.wrap (BitVec.ofInt k.bits a &&& ~~~ BitVec.ofInt k.bits b).toNat))
     | .eql=>some (.bool (a==b))
     | .neq=>some (.bool (a !=b))
     | .lss=>some (.bool (decide (a<b)))
     | .leq=>some (.bool (decide (a≤b)))
     | .gtr=>some (.bool (decide (a>b)))
     | .geq=>some (.bool (decide (a≥b)))
     | _=>none
     else none
 | .string a,.string b=>match op with
   | .add=>if a.data.toList.length+b.data.toList.length<2^63 then some (.string ⟨⟨a.data.toList++b.data.toList⟩⟩) else none
   | .eql=>some (.bool (a.data.toList==b.data.toList))
   | .neq=>some (.bool (!(a.data.toList==b.data.toList)))
   | .lss=>some (.bool (Op.bytesLess a.data.toList b.data.toList))
   | _=>none
 | _,_=>none
def XIe:Nat→Value→Option Bool
 | 0,.pointer none=>some true
 | 0,.pointer (some _)=>some false
 | 1,.slice none 0 _=>some true
 | 1,.slice (some _) (_+1) _=>some false
 | 2,.nilFunc=>some true
 | 2,.func (.func _) _ _=>some false
 | 2,.func (.yield _) _ _=>some false
 | 3,.nilIface=>some true
 | 3,.iface ..=>some false
 | _,_=>none
def XoD:SK→Value→Value→Option Bool
 | .bool,.bool a,.bool b=>some (a==b)
 | .int _,.int k a,.int k' b=>if k=k' then some (a==b) else none
 | .str,.string a,.string b=>some (a.data.toList==b.data.toList)
 | _,_,_=>none
def Xfb (xs ys:List Value):List (Nat×SK)→Option Bool
 | []=>some true
 | (o,k)::os=>match xs[o]?,ys[o]? with
   | some x,some y=>match XoD k x y with
     | some b=>match Xfb xs ys os with
       | some c=>some (b&&c)
       | none=>none
     | none=>none
   | _,_=>none
def setAt {α:Type}:List α→Nat→List α→List α
 | cs,_,[]=>cs
 | cs,o,v::vs=>setAt (cs.set o v) (o+1) vs
def XaX (v:Value):List Value:=v.cells.toList
def Xij:Value→Bool
 | .agg _=>false
 | .tuple _=>false
 | _=>true
def Xp1:List Value→List (Nat×Nat×Value)→Option (List Value)
 | cs,[]=>some cs
 | cs,(off,size,v)::rest=>
   if (XaX v).length=size∧off+size≤cs.length then Xp1 (setAt cs off (XaX v)) rest else none
def XIT:List (Nat×Nat×Operand)→List Value→List (Nat×Nat×Value)
 | (o,s,_)::ps,v::vs=>(o,s,v)::XIT ps vs
 | _,_=>[]
def XbO.cs:XbO→Option (List Value)
 | .cells cs|.row _ cs|.ty _ cs=>some cs
 | _=>none
def XbO.wr:XbO→List Value→Option XbO
 | .cells _,cs=>some (.cells cs)
 | .row true _,cs=>some (.row true cs)
 | .ty t _,cs=>some (.ty t cs)
 | _,_=>none
def Xg7:List Value→Option (List UInt8)
 | []=>some []
 | .int .u8 n::l=>match Xg7 l with
   | some bs=>some (UInt8.ofNat n.toNat::bs)
   | none=>none
 | _::_=>none
def ofBytes (l:List UInt8):List Value:=l.map fun b=>.int .u8 b.toNat
def XBY (n:Nat) (hasLo hasHi:Bool) (bs:List Value):Option (Nat×Nat):=
 match hasLo,hasHi,bs with
 | false,false,[]=>some (0,n)
 | true,false,[.int _ l]=>if 0≤l∧l≤n then some (l.toNat,n) else none
 | false,true,[.int _ h]=>if 0≤h∧h≤n then some (0,h.toNat) else none
 | true,true,[.int _ l,.int _ h]=>if 0≤h∧h≤n∧0≤l∧l≤h.toNat then some (l.toNat,h.toNat) else none
 | _,_,_=>none
def Xe2:Value→List Nat
 | .pointer (some a)=>[a.block]
 | .slice (some a) _ _=>[a.block]
 | .func (.method _) ⟨[.slice (some a) _ _]⟩ _=>[a.block]
 | _=>[]
def needs:VOp→List Value→List Nat
 | .load1 ..,vs|.loadN ..,vs|.b2s _,vs|.nextS _,vs|.sliceA ..,vs|.toU _,vs|.ofU ..,vs|.ustr ..,vs|.clr ..,vs=>(vs.take 1).flatMap Xe2
 | .store ..,vs=>(vs.take 1).flatMap Xe2
 | .app ..,vs=>(vs.take 2).flatMap Xe2
 | _,_=>[]
def XzI (mx:Bool):Value→Value→Option Value
 | .int k x,.int k' y=>if k=k' then some (.int k (if mx then (if y>x then y else x) else (if y<x then y else x))) else none
 | _,_=>none
def XxJ (mx:Bool):Value→List Value→Option Value
 | x,[]=>some x
 | x,y::l=>match XzI mx x y with
   | some z=>XxJ mx z l
   | none=>none
structure XdQ where
 v:Option Value
 objs:List (Option XbO)
 fresh:Option XbO
def val (v:Value):Option XdQ:=some ⟨some v,[],none⟩
def XjQ (sz:Nat):Value→List XbO→Option (List Value)
 | .string s,_=>some (ofBytes s.data.toList)
 | .slice none 0 _,_=>some []
 | .slice (some a) n _,[o]=>match o.cs with
   | some cs=>if a.off+n*sz≤cs.length then some ((cs.drop a.off).take (n*sz)) else none
   | none=>none
 | _,_=>none
def XnI:Value→Option Nat
 | .string s=>some s.data.toList.length
 | .slice _ n _=>some n
 | _=>none
def c_mv  (vals:List Value) (objs:List XbO):Option XdQ:=
 match vals,objs with
 | [v],[]=>val v
 | _,_=>none
def XsQ  (vals:List Value) (objs:List XbO):Option XdQ:=
 match vals,objs with
 | [.bool c,a,b],[]=>val (if c then a else b)
 | _,_=>none
def Xut (z:List Value) (vals:List Value) (objs:List XbO) (top:Nat):Option XdQ:=
 match vals,objs with
 | [],[]=>some ⟨some (.pointer (some ⟨top,0,none⟩)),[],some (.cells z)⟩
 | _,_=>none
def XLl  (vals:List Value) (objs:List XbO) (top:Nat):Option XdQ:=
 match vals,objs with
 | [v],[]=>some ⟨some (.pointer (some ⟨top,0,none⟩)),[],some (.cells (XaX v))⟩
 | _,_=>none
def Xln (z:List Value) (ps:List (Nat×Nat×Operand)) (vals:List Value) (objs:List XbO):Option XdQ:=
 match vals,objs with
 | vs,[]=>if vs.length=ps.length then match Xp1 z (XIT ps vs) with|some cs=>val (.agg ⟨cs⟩)|none=>none else none
 | _,_=>none
def XlM (len:Nat) (sz:Nat) (z:List Value) (ps:List (Nat×Nat×Operand)) (vals:List Value) (objs:List XbO) (top:Nat):Option XdQ:=
 match vals,objs with
 | vs,[]=>if vs.length=ps.length then match Xp1 z (XIT ps vs) with
    | some cs=>some ⟨some (.slice (some ⟨top,0,none⟩) len sz),[],some (.row true cs)⟩
    | none=>none else none
 | _,_=>none
def Xka  (vals:List Value) (objs:List XbO):Option XdQ:=
 match vals,objs with
 | [.pointer (some ⟨_,o,none⟩)],[ob]=>match ob.cs with
    | some cs=>match cs[o]? with|some v=>some ⟨some v,[some ob],none⟩|none=>none
    | none=>none
 | _,_=>none
def Xj0 (n:Nat) (vals:List Value) (objs:List XbO):Option XdQ:=
 match vals,objs with
 | [.pointer (some ⟨_,o,none⟩)],[ob]=>match ob.cs with
    | some cs=>if o+n≤cs.length then some ⟨some (.agg ⟨(cs.drop o).take n⟩),[some ob],none⟩ else none
    | none=>none
 | _,_=>none
def Xli (n:Nat) (vals:List Value) (objs:List XbO):Option XdQ:=
 match vals,objs with
 | [.pointer (some ⟨_,o,none⟩),v],[ob]=>match ob.cs with
    | some cs=>if (XaX v).length=n∧o+n≤cs.length∧(XaX v).all Xij=true then match ob.wr (setAt cs o (XaX v)) with
       | some ob'=>some ⟨none,[some ob'],none⟩
       | none=>none else none
    | none=>none
 | _,_=>none
def Xl1  (vals:List Value) (objs:List XbO):Option XdQ:=
 match vals,objs with
 | [.pointer (some a)],[]=>val (.pointer (some a))
 | [.func (.func f) a b],[]=>val (.func (.func f) a b)
 | [.func (.yield f) a b],[]=>val (.func (.yield f) a b)
 | _,_=>none
def XuG (op:BinOp) (vals:List Value) (objs:List XbO):Option XdQ:=
 match vals,objs with
 | [x,y],[]=>match Xwj op x y with|some v=>val v|none=>none
 | _,_=>none
def XFr (neg:Bool) (vals:List Value) (objs:List XbO):Option XdQ:=
 match vals,objs with
 | [.bool x,.bool y],[]=>val (.bool (if neg then !(x==y) else (x==y)))
 | _,_=>none
def XmU (k:Nat) (neg:Bool) (vals:List Value) (objs:List XbO):Option XdQ:=
 match vals,objs with
 | [x],[]=>match XIe k x with|some b=>val (.bool (if neg then !b else b))|none=>none
 | _,_=>none
def XrT (neg:Bool) (os:List (Nat×SK)) (vals:List Value) (objs:List XbO):Option XdQ:=
 match vals,objs with
 | [.agg ⟨xs⟩,.agg ⟨ys⟩],[]=>match Xfb xs ys os with|some b=>val (.bool (if neg then !b else b))|none=>none
 | _,_=>none
def XHk  (vals:List Value) (objs:List XbO):Option XdQ:=
 match vals,objs with
 | [.bool b],[]=>val (.bool (!b))
 | _,_=>none
def XDQ  (vals:List Value) (objs:List XbO):Option XdQ:=
 match vals,objs with
 | [.int k n],[]=>val (.int k (k.wrap (0 - n)))
 | _,_=>none
def XvY  (vals:List Value) (objs:List XbO):Option XdQ:=
 match vals,objs with
 | [.int k n],[]=>val (.int k (k.wrap (BitVec.ofInt k.bits (if k.signed then -1 else k.max) ^^^ BitVec.ofInt k.bits n).toNat))
 | _,_=>none
def Xv2 (k:IntKind) (vals:List Value) (objs:List XbO):Option XdQ:=
 match vals,objs with
 | [.int _ n],[]=>val (.int k (k.wrap n))
 | _,_=>none
def XFq  (vals:List Value) (objs:List XbO) (top:Nat):Option XdQ:=
 match vals,objs with
 | [.string s],[]=>some ⟨some (.slice (some ⟨top,0,none⟩) s.data.toList.length 1),[],some (.row true (ofBytes s.data.toList))⟩
 | _,_=>none
def Xsj  (vals:List Value) (objs:List XbO):Option XdQ:=
 match vals,objs with
 | [.slice none 0 _],[]=>val (.string ⟨⟨[]⟩⟩)
 | [.slice (some ⟨_,o,none⟩) n 1],[ob]=>match ob.cs with
    | some cs=>if o+n≤cs.length then match Xg7 ((cs.drop o).take n) with
       | some bs=>some ⟨some (.string ⟨⟨bs⟩⟩),[some ob],none⟩
       | none=>none else none
    | none=>none
 | _,_=>none
def encR (r:Int):List UInt8:=(Utf8.encode r).data.toList
def XDo (vals:List Value) (objs:List XbO):Option XdQ:=
 match vals,objs with
 | [.int _ r],[]=>val (.string ⟨⟨encR r⟩⟩)
 | _,_=>none
def XFN  (vals:List Value) (objs:List XbO):Option XdQ:=
 match vals,objs with
 | [.string s],[]=>val (.string s)
 | _,_=>none
def XrH (t:Nat) (vals:List Value) (objs:List XbO):Option XdQ:=
 match vals,objs with
 | [v],[]=>val (.iface t v)
 | _,_=>none
def Xno (t:Nat) (z:Value) (vals:List Value) (objs:List XbO):Option XdQ:=
 match vals,objs with
 | [.iface t' v],[]=>if t'=t then val (.tuple #[v,.bool true]) else val (.tuple #[z,.bool false])
 | [.nilIface],[]=>val (.tuple #[z,.bool false])
 | _,_=>none
def Xpn (f n:Nat) (vals:List Value) (objs:List XbO):Option XdQ:=
 match vals,objs with
 | vs,[]=>val (.func (.func f) ⟨vs.take n⟩ ⟨vs.drop n⟩)
 | _,_=>none
def Xs7 (sz:Nat) (bytes:Nat) (z:List Value) (vals:List Value) (objs:List XbO) (top:Nat):Option XdQ:=
 match vals,objs with
 | [.int _ l,.int _ c],[]=>
    if 0≤l∧l≤c∧c<2^63∧(bytes:Int)*c≤2^48 then
     some ⟨some (.slice (some ⟨top,0,none⟩) l.toNat sz),[],some (.row true (List.replicate c.toNat z).flatten)⟩
    else none
 | _,_=>none
def Xmi (bl:Bool) (bh:Bool) (vals:List Value) (objs:List XbO):Option XdQ:=
 match vals,objs with
 | .string s::bs,[]=>match XBY s.data.toList.length bl bh bs with
    | some (l,h)=>val (.string ⟨⟨(s.data.toList.drop l).take (h - l)⟩⟩)
    | none=>none
 | _,_=>none
def XkS (sz:Nat) (bl:Bool) (bh:Bool) (vals:List Value) (objs:List XbO):Option XdQ:=
 match vals,objs with
 | .slice none 0 c::bs,[]=>match XBY 0 bl bh bs with
    | some _=>val (.slice none 0 c)
    | none=>none
 | .slice (some ⟨b,o,none⟩) n sz'::bs,[]=>if sz=sz' then match XBY n bl bh bs with
    | some (l,h)=>val (.slice (some ⟨b,o+l*sz,none⟩) (h - l) sz)
    | none=>none else none
 | _,_=>none
def XjR (n:Nat) (sz:Nat) (bl:Bool) (bh:Bool) (vals:List Value) (objs:List XbO):Option XdQ:=
 match vals,objs with
 | .pointer (some ⟨b,o,none⟩)::bs,[ob]=>match ob.cs with
   | some cs=>if o+n*sz≤cs.length then match XBY n bl bh bs with
     | some (l,h)=>some ⟨some (.slice (some ⟨b,o+l*sz,none⟩) (h - l) sz),[some ob],none⟩
     | none=>none else none
   | none=>none
 | _,_=>none
def Xpe (off:Nat) (vals:List Value) (objs:List XbO):Option XdQ:=
 match vals,objs with
 | [.pointer (some ⟨b,o,none⟩)],[]=>val (.pointer (some ⟨b,o+off,none⟩))
 | _,_=>none
def Xsm (off:Nat) (vals:List Value) (objs:List XbO):Option XdQ:=
 match vals,objs with
 | [.agg ⟨cs⟩],[]=>match cs[off]? with|some v=>val v|none=>none
 | _,_=>none
def XrM (off:Nat) (n:Nat) (vals:List Value) (objs:List XbO):Option XdQ:=
 match vals,objs with
 | [.agg ⟨cs⟩],[]=>if off+n≤cs.length then val (.agg ⟨(cs.drop off).take n⟩) else none
 | _,_=>none
def Xn8 (n:Nat) (sz:Nat) (vals:List Value) (objs:List XbO):Option XdQ:=
 match vals,objs with
 | [.pointer (some ⟨b,o,none⟩),.int _ i],[]=>if 0≤i∧i<n then val (.pointer (some ⟨b,o+i.toNat*sz,none⟩)) else none
 | _,_=>none
def Xoz (sz:Nat) (vals:List Value) (objs:List XbO):Option XdQ:=
 match vals,objs with
 | [.slice (some ⟨b,o,none⟩) n _,.int _ i],[]=>if 0≤i∧i<n then val (.pointer (some ⟨b,o+i.toNat*sz,none⟩)) else none
 | _,_=>none
def Xn3 (n:Nat) (vals:List Value) (objs:List XbO):Option XdQ:=
 match vals,objs with
 | [.agg ⟨cs⟩,.int _ i],[]=>if 0≤i∧i<n then match cs[i.toNat]? with|some v=>val v|none=>none else none
 | _,_=>none
def Xoq (n:Nat) (sz:Nat) (vals:List Value) (objs:List XbO):Option XdQ:=
 match vals,objs with
 | [.agg ⟨cs⟩,.int _ i],[]=>if 0≤i∧i<n∧i.toNat*sz+sz≤cs.length then val (.agg ⟨(cs.drop (i.toNat*sz)).take sz⟩) else none
 | _,_=>none
def XqQ  (vals:List Value) (objs:List XbO):Option XdQ:=
 match vals,objs with
 | [.string s,.int _ i],[]=>if 0≤i then match s.data.toList[i.toNat]? with|some b=>val (.int .u8 b.toNat)|none=>none else none
 | _,_=>none
def ixB (s:List UInt8) (c:Int):Int:=
 match s.findIdx? (fun b=>b==c.toNat.toUInt8) with
 | some i=>i
 | none=>-1
def XBx (vals:List Value) (objs:List XbO):Option XdQ:=
 match vals,objs with
 | [.string s,.int .u8 c],[]=>val (.int .i64 (ixB s.data.toList c))
 | _,_=>none
def Xnv (i:Nat) (vals:List Value) (objs:List XbO):Option XdQ:=
 match vals,objs with
 | [.tuple ⟨vs⟩],[]=>match vs[i]? with|some v=>val v|none=>none
 | _,_=>none
def XvT (vals:List Value) (objs:List XbO):Option XdQ:=
 match vals,objs with
 | [.string s],[]=>val (.int .i64 s.data.toList.length)
 | _,_=>none
def Xwd (vals:List Value) (objs:List XbO):Option XdQ:=
 match vals,objs with
 | [.slice _ n _],[]=>val (.int .i64 n)
 | [.func (.method _) ⟨[.slice _ n _]⟩ ⟨[]⟩],[]=>val (.int .i64 n)
 | _,_=>none
def Xva (n:Nat) (vals:List Value) (objs:List XbO):Option XdQ:=
 match vals,objs with
 | [],[]=>val (.int .i64 n)
 | _,_=>none
def Xpm (mx:Bool) (vals:List Value) (objs:List XbO):Option XdQ:=
 match vals,objs with
 | .int k n::vs,[]=>match XxJ mx (.int k n) vs with|some z=>val z|none=>none
 | _,_=>none
def bSl (b n : Nat) : Value := .func (.method "") ⟨[.slice (some ⟨b, 0, none⟩) n 1]⟩ ⟨[]⟩
def XrV (t e:Nat) (vals:List Value) (objs:List XbO) (top:Nat):Option XdQ:=
 match vals,objs with
 | [], [] => some ⟨some (.pointer (some ⟨top, 0, none⟩)), [], some (.ty t [.pointer none, .func (.method "") ⟨[.slice none 0 e]⟩ ⟨[]⟩])⟩
 | _,_=>none
def XFJ (neg:Bool) (vals:List Value) (objs:List XbO):Option XdQ:=
 match vals,objs with
 | [.pointer (some ⟨b,o,none⟩),.pointer (some ⟨b',o',none⟩)],[]=>if b=b'∧o=o' then val (.bool (!neg)) else none
 | _,_=>none
def Xwr (vals:List Value) (objs:List XbO):Option XdQ:=
 match vals,objs with
 | [.pointer (some ⟨b,o,none⟩)],[.ty e cs]=>if o<cs.length then some ⟨some (.pointer (some ⟨b,o,none⟩)),[some (.ty e cs)],none⟩ else none
 | _,_=>none
def Xww (u n:Nat) (vals:List Value) (objs:List XbO):Option XdQ:=
 match vals,objs with
 | [.pointer (some ⟨b,0,none⟩)],[.ty e cs]=>if e=u∧n≤cs.length then some ⟨some (.pointer (some ⟨b,0,none⟩)),[some (.ty e cs)],none⟩ else none
 | _,_=>none
def Xr8 (vals:List Value) (objs:List XbO):Option XdQ:=
 match vals,objs with
 | [.func (.method _) ⟨[.slice none 0 _]⟩ ⟨[]⟩],[]=>val (.pointer none)
 | [.func (.method _) ⟨[.slice (some ⟨b, 0, none⟩) n 1]⟩ ⟨[]⟩], [] => val (.func (.method "") ⟨[.slice (some ⟨b, 0, none⟩) n 1]⟩ ⟨[.bool true]⟩)
 | _,_=>none
def Xrf (t:Nat) (vals:List Value) (objs:List XbO):Option XdQ:=
 match vals,objs with
 | [.pointer none,.int .i64 0],[]=>val (.string ⟨⟨[]⟩⟩)
 | [.func (.method _) ⟨[.slice (some ⟨_,0,none⟩) n 1]⟩ ⟨[.bool true]⟩,.int .i64 m],[.ty e cs]=>if e=t∧m=n∧n≤cs.length∧n<2^63 then match Xg7 (cs.take n) with
    | some bs=>some ⟨some (.string ⟨⟨bs⟩⟩),[some (.row false cs)],none⟩
    | none=>none else none
 | _,_=>none
def Xwv (sz:Nat) (vals:List Value) (objs:List XbO):Option XdQ:=
 match vals,objs with
 | [.slice none 0 _],[]=>val (.tuple ⟨[]⟩)
 | [.slice (some ⟨_,o,none⟩) n sz'],[.row true cs]=>if sz=sz'∧o+n*sz=cs.length then
    some ⟨some (.tuple ⟨[]⟩),[some (.row true (cs.take o))],none⟩ else none
 | _,_=>none
def Xuk (t sz bytes:Nat) (vals:List Value) (objs:List XbO) (top:Nat):Option XdQ:=
 match vals,objs with
 | [.slice none 0 _,y],objs=>match XjQ sz y objs,XnI y with
    | some new,some m=>if m*bytes≤2^47∧new.length=m*sz then
       some ⟨some (.slice (some ⟨top,0,none⟩) m sz),objs.map some,some (.row true new)⟩ else none
    | _,_=>none
 | [.slice (some ⟨b,o,none⟩) n sz',y],.row true cs::objs=>match XjQ sz y objs,XnI y with
    | some new,some m=>if (n+m)*bytes≤2^47∧o+n*sz≤cs.length∧sz=sz'∧new.length=m*sz∧new.all Xij=true∧(Xe2 y).all (fun c=>!Nat.beq b c)=true then
       some ⟨some (.slice (some ⟨top,0,none⟩) (n+m) sz),none::objs.map some,some (.row true ((cs.drop o).take (n*sz)++new))⟩ else none
    | _,_=>none
 | [.func (.method _) ⟨[.slice none 0 e]⟩ ⟨[]⟩,y],objs=>match XjQ sz y objs,XnI y with
    | some new,some m=>if m*bytes≤2^47∧new.length=m*sz∧sz=1∧e=t then
       some ⟨some (bSl top m),objs.map some,some (.ty t new)⟩ else none
    | _,_=>none
 | [.func (.method _) ⟨[.slice (some ⟨b,0,none⟩) n 1]⟩ ⟨[]⟩,y],.ty e cs::objs=>match XjQ sz y objs,XnI y with
    | some new,some m=>if (n+m)*bytes≤2^47∧n≤cs.length∧sz=1∧e=t∧new.length=m∧new.all Xij=true∧(Xe2 y).all (fun c=>!Nat.beq b c)=true then
       some ⟨some (bSl top (n+m)),none::objs.map some,some (.ty t (cs.take n++new))⟩ else none
    | _,_=>none
 | _,_=>none
def Xv3  (vals:List Value) (objs:List XbO) (top:Nat):Option XdQ:=
 match vals,objs with
 | [.string s],[]=>some ⟨some (.pointer (some ⟨top,0,none⟩)),[],some (.siter s 0)⟩
 | _,_=>none
def XmZ  (vals:List Value) (objs:List XbO):Option XdQ:=
 match vals,objs with
 | [.pointer (some ⟨_,0,none⟩)],[.siter s pos]=>
    if pos<s.size then some ⟨some (.tuple #[.bool true,.int .i64 pos,.int .i32 (Utf8.decode s pos).1]),[some (.siter s (pos+(Utf8.decode s pos).2))],none⟩
    else some ⟨some (.tuple #[.bool false]),[some (.siter s pos)],none⟩
 | _,_=>none
def core (op:VOp) (vals:List Value) (objs:List XbO) (top:Nat):Option XdQ:=
 match op with
 | .mv _=>c_mv  vals objs
 | .pick _ _ _=>XsQ  vals objs
 | .alloc z=>Xut z vals objs top
 | .box _=>XLl  vals objs top
 | .build z ps=>Xln z ps vals objs
 | .buildSl len sz z ps=>XlM len sz z ps vals objs top
 | .load1 _ _=>Xka  vals objs
 | .loadN ks _=>Xj0 ks.length vals objs
 | .store n _ _=>Xli n vals objs
 | .nilCheck _=>Xl1  vals objs
 | .bin op _ _=>XuG op vals objs
 | .eqB neg _ _=>XFr neg vals objs
 | .isNil k neg _=>XmU k neg vals objs
 | .eqAgg neg os _ _=>XrT neg os vals objs
 | .not _=>XHk  vals objs
 | .neg _=>XDQ  vals objs
 | .cmpl _=>XvY  vals objs
 | .conv k _=>Xv2 k vals objs
 | .s2b _=>XFq  vals objs top
 | .b2s _=>Xsj  vals objs
 | .s2s _=>XFN  vals objs
 | .r2s _=>XDo vals objs
 | .iface t _=>XrH t vals objs
 | .tassert t z _=>Xno t z vals objs
 | .mkFunc f first _=>Xpn f first.length vals objs
 | .mkSl sz bytes z _ _=>Xs7 sz bytes z vals objs top
 | .sliceS _ lo hi=>Xmi lo.isSome hi.isSome vals objs
 | .sliceL sz _ lo hi=>XkS sz lo.isSome hi.isSome vals objs
 | .sliceA n sz _ lo hi=>XjR n sz lo.isSome hi.isSome vals objs
 | .fieldA off _=>Xpe off vals objs
 | .part1 off _=>Xsm off vals objs
 | .partN off n _=>XrM off n vals objs
 | .idxAA n sz _ _=>Xn8 n sz vals objs
 | .idxAL sz _ _=>Xoz sz vals objs
 | .idxV1 n _ _=>Xn3 n vals objs
 | .idxVN n sz _ _=>Xoq n sz vals objs
 | .idxS _ _=>XqQ  vals objs
 | .ixb _ _=>XBx vals objs
 | .extract i _=>Xnv i vals objs
 | .lenS _=>XvT vals objs
 | .lenL _=>Xwd vals objs
 | .lenN n=>Xva n vals objs
 | .minmax mx _=>Xpm mx vals objs
 | .app t sz bytes _ _=>Xuk t sz bytes vals objs top
 | .allocB t e=>XrV t e vals objs top
 | .eqP neg _ _=>XFJ neg vals objs
 | .toU _=>Xwr vals objs
 | .ofU u n _=>Xww u n vals objs
 | .sdata _=>Xr8 vals objs
 | .ustr t _ _=>Xrf t vals objs
 | .clr sz _=>Xwv sz vals objs
 | .rangeS _=>Xv3  vals objs top
 | .nextS _=>XmZ  vals objs
 | .callF ..=>none
 | .callV ..=>none
def Xjh (h:Hp):List Nat→Option (List XbO)
 | []=>some []
 | i::is=>match XaD h i with
   | some o=>match Xjh h is with
     | some os=>some (o::os)
     | none=>none
   | none=>none
def Xgv (h:Hp):List Nat→List (Option XbO)→Hp
 | i::is,some o::os=>Xgv (Xgp h i o) is os
 | i::is,none::os=>Xgv (XoP h i) is os
 | _,_=>h
def XcM (op:VOp) (vals:List Value) (h:Hp) (top:Nat):Option (Option Value×Hp×Nat):=
 match Xjh h (needs op vals) with
 | none=>none
 | some objs=>match core op vals objs top with
   | none=>none
   | some ⟨v,objs',fr⟩=>match fr with
     | none=>some (v,Xgv h (needs op vals) objs',top)
     | some o=>some (v,Xgp (Xgv h (needs op vals) objs') top o,top+1)
structure Path where
 src:Option Nat
 cell:Nat
 k:Nat
 kind:Nat
 nil:Option Nat
inductive Md where
 | v
 | sl (sz:Nat)
 | pt (n:Nat)
 | tr (ps:List Path)
structure XcU where
 v:Value
 new:List (List Value)
 wr:List (Option (List Value))
structure XbE where
 modes:List Md
 run:List Value→List (Option (List Value))→Option XcU
abbrev Fns:=Nat→Option VFn
abbrev Xm2:=Nat→Option XbE
def Xbm:Value→Bool
 | .bool _|.int ..|.string _|.pointer none|.slice none 0 0|.nilFunc|.nilIface=>true
 | .agg ⟨l⟩=>flatL l
 | .tuple ⟨l⟩=>flatL l
 | .iface _ v=>Xbm v
 | .func (.func _) ⟨[]⟩ ⟨[]⟩=>true
 | _=>false
where flatL:List Value→Bool
 | []=>true
 | v::l=>Xbm v&&flatL l
def XbO.wcs:XbO→Option (List Value)
 | .cells cs|.row true cs=>some cs
 | _=>none
def Xzu:Value→List (Option Nat)
 | .pointer none=>[none]
 | .pointer (some a)=>[some a.block]
 | .slice none _ _=>[none]
 | .slice (some a) _ _=>[some a.block]
 | .func _ ⟨f⟩ ⟨c⟩=>addrsL f++addrsL c
 | .iface _ v=>Xzu v
 | .agg ⟨l⟩=>addrsL l
 | .tuple ⟨l⟩=>addrsL l
 | _=>[]
where addrsL:List Value→List (Option Nat)
 | []=>[]
 | v::l=>Xzu v++addrsL l
inductive PR where
 | no
 | nil (sz:Nat)
 | hit (b:Nat)
def prOf (p:Path):Option Value→PR
 | none=>.no
 | some c=>match p.nil,c with
   | some sz,.slice none 0 _=>.nil sz
   | _,c=>match (Xzu c)[p.k]? with
     | some (some b)=>.hit b
     | _=>.no
def XrW (h:Hp) (v:Value) (bs:List PR) (p:Path):PR:=
 match p.src with
 | none=>prOf p (XaX v)[p.cell]?
 | some i=>match bs[i]? with
   | some (.hit b)=>match XaD h b with
     | some ob=>match ob.cs with
       | some cs=>prOf p cs[p.cell]?
       | none=>.no
     | none=>.no
   | _=>.no
def XhV (h:Hp) (v:Value):List Path→List PR→List PR
 | [],bs=>bs
 | p::ps,bs=>XhV h v ps (bs++[XrW h v bs p])
def Xxn (k:Nat):List PR→Nat→Option Nat
 | [],_=>none
 | .hit c::l,b=>cond (Nat.beq c b) (some k) (Xxn (k+1) l b)
 | _::l,b=>Xxn (k+1) l b
def Xm0 (k:Nat) (src:Option Nat):List Path→List PR→List (Nat×Value)
 | p::ps,.nil sz::bs=>cond (p.src==src) ((p.cell,.slice (some ⟨k,0,none⟩) 0 sz)::Xm0 (k+1) src ps bs) (Xm0 (k+1) src ps bs)
 | _::ps,_::bs=>Xm0 (k+1) src ps bs
 | _,_=>[]
def Xqs:List Value→List (Nat×Value)→List Value
 | cs,[]=>cs
 | cs,(i,x)::l=>Xqs (cs.set i x) l
def Xvk (v:Value) (l:List (Nat×Value)):Value:=
 match l with
 | []=>v
 | (_,x)::_=>match v with
   | .agg ⟨cs⟩=>.agg ⟨Xqs cs l⟩
   | _=>x
def mkObj (kind:Nat) (cs:List Value):XbO:=
 match kind with
 | 0=>.row false cs
 | 1=>.cells cs
 | _=>.row true cs
inductive Wd where
 | no
 | emp (wr:Bool)
 | win (b off n:Nat) (wr:Bool)
 | blk (b:Nat) (wr:Bool)
def isW (kind:Nat):Bool:=match kind with|0=>false|_=>true
def Xsv:List Path→List PR→List Wd
 | _::ps,.no::bs=>.no::Xsv ps bs
 | p::ps,.nil _::bs=>.emp (isW p.kind)::Xsv ps bs
 | p::ps,.hit b::bs=>.blk b (isW p.kind)::Xsv ps bs
 | _,_=>[]
def XpU (h:Hp):Md→Value→List Wd
 | .v,_=>[]
 | .sl sz,.slice (some a) n _=>[.win a.block a.off (n*sz) false]
 | .sl _,_=>[.emp false]
 | .pt n,.pointer (some a)=>[.win a.block a.off n true]
 | .pt _,_=>[.no]
 | .tr ps,v=>Xsv ps (XhV h v ps [])
def XkH (h:Hp):List Md→List Value→List Wd
 | m::ms,v::vs=>XpU h m v++XkH h ms vs
 | _,_=>[]
def Wd.wr:Wd→Bool
 | .no=>false
 | .emp w=>w
 | .win _ _ _ w=>w
 | .blk _ w=>w
def Wd.Xj4:Wd→Option Nat
 | .win b _ _ _=>some b
 | .blk b _=>some b
 | _=>none
def Xe0 (s:Nat→Option Nat):Value→Option Value
 | .pointer (some ⟨b,o,none⟩)=>match s b with
   | some c=>some (.pointer (some ⟨c,o,none⟩))
   | none=>none
 | .slice (some ⟨b,o,none⟩) n sz=>match s b with
   | some c=>some (.slice (some ⟨c,o,none⟩) n sz)
   | none=>none
 | .func (.func f) ⟨a⟩ ⟨b⟩=>match renL a,renL b with
   | some a',some b'=>some (.func (.func f) ⟨a'⟩ ⟨b'⟩)
   | _,_=>none
 | .func (.yield l) ⟨[]⟩ ⟨[]⟩=>match s l with
   | some c=>some (.func (.yield c) ⟨[]⟩ ⟨[]⟩)
   | none=>none
 | .func (.method m) ⟨[.slice none 0 e]⟩ ⟨[]⟩=>some (.func (.method m) ⟨[.slice none 0 e]⟩ ⟨[]⟩)
 | .func (.method m) ⟨[.slice (some ⟨b,0,none⟩) n 1]⟩ ⟨[]⟩=>match s b with
   | some c=>some (.func (.method m) ⟨[.slice (some ⟨c,0,none⟩) n 1]⟩ ⟨[]⟩)
   | none=>none
 | .iface t v=>match Xe0 s v with
   | some v'=>some (.iface t v')
   | none=>none
 | .agg ⟨l⟩=>match renL l with
   | some l'=>some (.agg ⟨l'⟩)
   | none=>none
 | .tuple ⟨l⟩=>match renL l with
   | some l'=>some (.tuple ⟨l'⟩)
   | none=>none
 | .bool b=>some (.bool b)
 | .int k n=>some (.int k n)
 | .string x=>some (.string x)
 | .float k n=>some (.float k n)
 | .pointer none=>some (.pointer none)
 | .slice none n c=>some (.slice none n c)
 | .nilFunc=>some .nilFunc
 | .nilIface=>some .nilIface
 | _=>none
where renL:List Value→Option (List Value)
 | []=>some []
 | v::l=>match Xe0 s v with
   | some v'=>match renL l with
     | some l'=>some (v'::l')
     | none=>none
   | none=>none
def Xgy (h:Hp) (s:Nat→Option Nat) (pat:Option Nat→List (Nat×Value)) (i:Nat):List Path→List PR→Option (List (Option XbO))
 | _::ps,.no::bs=>match Xgy h s pat (i+1) ps bs with
   | some l=>some (none::l)
   | none=>none
 | p::ps,.nil _::bs=>match Xgy h s pat (i+1) ps bs with
   | some l=>some (some (mkObj p.kind [])::l)
   | none=>none
 | p::ps,.hit b::bs=>match XaD h b with
   | some ob=>match (cond (isW p.kind) ob.wcs ob.cs) with
     | some cs=>match Xe0.renL s cs with
       | some cs'=>match Xgy h s pat (i+1) ps bs with
         | some l=>some (some (mkObj p.kind (Xqs cs' (pat (some i))))::l)
         | none=>none
       | none=>none
     | none=>none
   | none=>none
 | [],[]=>some []
 | _,_=>none
def XcY (h:Hp) (k:Nat):Md→Value→Option (Value×List (Option XbO))
 | .v,v=>if Xbm v then some (v,[]) else none
 | .sl sz,.slice none 0 _=>some (.slice (some ⟨k,0,none⟩) 0 sz,[some (.row false [])])
 | .sl sz,.slice (some ⟨b,o,none⟩) n sz'=>if sz=sz' then match XaD h b with
   | some ob=>match ob.cs with
     | some cs=>if o+n*sz≤cs.length then (if Xbm.flatL ((cs.drop o).take (n*sz)) then some (.slice (some ⟨k,0,none⟩) n sz,[some (.row false ((cs.drop o).take (n*sz)))]) else none) else none
     | none=>none
   | none=>none else none
 | .pt _,.pointer none=>some (.pointer none,[none])
 | .pt n,.pointer (some ⟨b,o,none⟩)=>match XaD h b with
   | some ob=>match ob.wcs with
     | some cs=>if o+n≤cs.length then (if Xbm.flatL ((cs.drop o).take n) then some (.pointer (some ⟨k,0,none⟩),[some (.cells ((cs.drop o).take n))]) else none) else none
     | none=>none
   | none=>none
 | .tr ps,v=>match Xe0 (Xxn k (XhV h v ps [])) v with
   | some v'=>match Xgy h (Xxn k (XhV h v ps [])) (fun s=>Xm0 k s ps (XhV h v ps [])) 0 ps (XhV h v ps []) with
     | some l=>some (Xvk v' (Xm0 k none ps (XhV h v ps [])),l)
     | none=>none
   | none=>none
 | _,_=>none
def Xdj (h:Hp) (k:Nat):List Md→List Value→Option (List Value×List (Option XbO))
 | [],[]=>some ([],[])
 | m::ms,v::vs=>match XcY h k m v with
   | some (a,os)=>match Xdj h (k+os.length) ms vs with
     | some (aqs,os')=>some (a::aqs,os++os')
     | none=>none
   | none=>none
 | _,_=>none
def Xk6:List (Option XbO)→List (Option (List Value))
 | []=>[]
 | none::l=>none::Xk6 l
 | some o::l=>o.cs::Xk6 l
def XkO (b:Nat) (wr:Bool):List Wd→Bool
 | []=>true
 | x::l=>match x.Xj4 with
   | none=>XkO b wr l
   | some c=>cond (Nat.beq b c) (cond wr false (cond x.wr false (XkO b wr l))) (XkO b wr l)
def apartB:List Wd→Bool
 | []=>true
 | x::l=>match x.Xj4 with
   | none=>apartB l
   | some b=>cond (XkO b x.wr l) (apartB l) false
def XwU (m:Nat):List Wd→Nat→Option Nat
 | [],_=>none
 | x::_,0=>match x with
   | .blk b _=>some b
   | .emp _=>some m
   | _=>none
 | .emp _::ws,j+1=>XwU (m+1) ws j
 | _::ws,j+1=>XwU m ws j
def XuH (top n:Nat) (ws:List Wd) (i:Nat):Option Nat:=cond (Nat.blt i n) (some (top+i)) (XwU (top+n) ws (i - n))
def Xlu:List Wd→Nat
 | []=>0
 | .emp _::ws=>Xlu ws+1
 | _::ws=>Xlu ws
def XdF (h:Hp) (s:Nat→Option Nat):List Wd→List (Option (List Value))→Option Hp
 | [],[]=>some h
 | .win b off n true::ws,some c::cs=>match XaD h b with
   | some ob=>match ob.wcs with
     | some x=>match Xe0.renL s c with
       | some c'=>if c'.length=n∧off+n≤x.length then (match ob.wr (setAt x off c') with|some ob'=>XdF (Xgp h b ob') s ws cs|none=>none) else none
       | none=>none
     | none=>none
   | none=>none
 | .win _ _ _ true::_,none::_=>none
 | .blk b true::ws,some c::cs=>match XaD h b with
   | some ob=>match ob.wcs with
     | some _=>match Xe0.renL s c with
       | some c'=>match ob.wr c' with
         | some ob'=>XdF (Xgp h b ob') s ws cs
         | none=>none
       | none=>none
     | none=>none
   | none=>none
 | .blk b true::ws,none::cs=>XdF (XoP h b) s ws cs
 | _::ws,_::cs=>XdF h s ws cs
 | _,_=>none
def Xi8 (h:Hp) (s:Nat→Option Nat) (top:Nat):List (List Value)→Option Hp
 | []=>some h
 | c::cs=>match Xe0.renL s c with
   | some c'=>Xi8 (Xgp h top (.row true c')) s (top+1) cs
   | none=>none
def Xjy (h:Hp) (top:Nat):Nat→Hp
 | 0=>h
 | n+1=>Xjy (Xgp h top (.row true [])) (top+1) n
def Xi0 (s:XbE) (vals:List Value) (h:Hp) (top:Nat):Option (Value×Hp×Nat):=
 match Xdj h 0 s.modes vals with
 | none=>none
 | some (aqs,os)=>match s.run aqs (Xk6 os) with
   | none=>none
   | some ⟨v,new,wr⟩=>match apartB (XkH h s.modes vals) with
     | false=>none
     | true=>match XdF h (XuH top new.length (XkH h s.modes vals)) (XkH h s.modes vals) wr with
       | none=>none
       | some h1=>match Xi8 h1 (XuH top new.length (XkH h s.modes vals)) top new with
         | none=>none
         | some h2=>match Xe0 (XuH top new.length (XkH h s.modes vals)) v with
           | none=>none
           | some v'=>some (v',Xjy h2 (top+new.length) (Xlu (XkH h s.modes vals)),top+new.length+Xlu (XkH h s.modes vals))
def XpR (n:Nat) (e:Env) (d:Option Nat) (v:Value):Env:=match d with|some i=>cond (Nat.blt i n) (Xgp e i v) e|none=>e
def Xn1 (i:Nat):List Value→Env
 | []=>[]
 | v::vs=>(i,v)::Xn1 (i+1) vs
def exitTo (id:Nat):List Xgo→Option (List Xgo)
 | .inBlock id'::k=>if id'=id then some k else exitTo id k
 | _::k=>exitTo id k
 | []=>none
def finish (u:XbQ) (v:Value):Option XbQ:=
 match u.todo with
 | .inReg (o::rest)::k=>some { u with env:=XpR u.nt u.env o.dst v,todo:=.inReg rest::k }
 | .inRangeFunc l::k=>some { u with todo:=.endRangeFunc l::k }
 | _=>none
def resV (e:Env) (h:Hp):XBJ→Option Value
 | .tmp t=>XaD e t
 | .cell t ks agg=>match XaD e t with
   | some (.pointer (some ⟨b,o,none⟩))=>match XaD h b with
     | some ob=>match ob.cs with
       | some cs=>if agg then (if o+ks.length≤cs.length then some (.agg ⟨(cs.drop o).take ks.length⟩) else none) else cs[o]?
       | none=>none
     | none=>none
   | _=>none
def XpO (e:Env) (h:Hp):List XBJ→Option (List Value)
 | []=>some []
 | r::rs=>match resV e h r with
   | some v=>match XpO e h rs with
     | some vs=>some (v::vs)
     | none=>none
   | none=>none
def XJj:List Value→Value
 | [v]=>v
 | vs=>.tuple ⟨vs⟩
def XeK (e:Env):Option (Nat×Bool)→Option Bool
 | none=>some true
 | some (d,w)=>match XaD e d with
   | some (.bool b)=>some (b==w)
   | some (.tuple ⟨[]⟩)=>some false
   | _=>none
def XjX (F:Fns) (f:Nat) (args:List Value):Option XbQ:=
 match F f with
 | some fn=>if args.length≤fn.nt then some ⟨f,fn.nt,Xn1 0 args,[.code fn.body],[],false,none⟩ else none
 | none=>none
def XnO (n:Nat):Env→List Nat→List Value→Env
 | e,p::ps,v::vs=>XnO n (XpR n e (some p) v) ps vs
 | e,_,_=>e
def Xio (l:Nat) (jump:Option VC) (up:List XbQ) (h:Hp) (top:Nat):Option VM:=
 match XaD h l with
 | some (.loop r)=>match up with
   | u::us=>match finish u (.bool jump.isNone) with
     | some u'=>some ⟨u',us,Xgp h l (.loop { r with state:=if jump.isNone then .ready else .done,pending:=jump }),top⟩
     | none=>none
   | []=>none
 | _=>none
def Xnf (l:Nat) (args:List Value) (h:Hp):Option XbQ:=
 match XaD h l with
 | some (.loop r)=>if args.length=r.params.length then
    some ⟨r.fn,r.nt,XnO r.nt r.env r.params args,[.code r.asg,.beginRound,.code r.body],[],false,some l⟩ else none
 | _=>none
def XtD (F:Fns) (S:Xm2) (o:Xdf) (rest:List Xdf) (k:List Xgo) (fr:XbQ) (up:List XbQ) (h:Hp) (top:Nat):Option VM:=
 match Xnx fr.env o.op.ops with
 | none=>none
 | some vals=>match o.op with
   | .callF f _=>match S f with
     | some s=>match Xi0 s vals h top with
       | some (v,h',top')=>some ⟨{ fr with env:=XpR fr.nt fr.env o.dst v,todo:=.inReg rest::k },up,h',top'⟩
       | none=>none
     | none=>match XjX F f vals with
       | some c=>some ⟨c,{ fr with todo:=.inReg (o::rest)::k }::up,h,top⟩
       | none=>none
   | .callV _ _=>match vals with
     | .func (.func f) ⟨first⟩ ⟨caps⟩::args=>match S f with
       | some s=>match Xi0 s (first++args++caps) h top with
         | some (v,h',top')=>some ⟨{ fr with env:=XpR fr.nt fr.env o.dst v,todo:=.inReg rest::k },up,h',top'⟩
         | none=>none
       | none=>match XjX F f (first++args++caps) with
         | some c=>some ⟨c,{ fr with todo:=.inReg (o::rest)::k }::up,h,top⟩
         | none=>none
     | .func (.yield l) ⟨[]⟩ ⟨[]⟩::args=>match Xnf l args h with
       | some c=>some ⟨c,{ fr with todo:=.inReg (o::rest)::k }::up,h,top⟩
       | none=>none
     | _=>none
   | op=>match XcM op vals h top with
     | some (v,h',top')=>some ⟨{ fr with env:=XpR fr.nt fr.env o.dst (v.getD Xh9),todo:=.inReg rest::k },up,h',top'⟩
     | none=>none
def XxH:VOp→Bool
 | .store ..|.app ..|.nextS ..|.ustr ..|.clr ..=>true
 | _=>false
def XdV:List Wd→List Nat
 | []=>[]
 | x::l=>match x.Xj4 with
   | none=>XdV l
   | some b=>b::XdV l
def XmM:List Wd→List Nat
 | []=>[]
 | x::l=>match x.Xj4 with
   | none=>XmM l
   | some b=>cond x.wr (b::XmM l) (XmM l)
def stepD (S:Xm2) (nt:Nat) (o:Xdf) (e:Env) (h:Hp) (m:Nat):Option (Env×Hp×Nat×List Nat×List Nat):=
 match XeK e o.g with
 | none=>none
 | some false=>some (XpR nt e o.dst Xh9,h,m,[],[])
 | some true=>match Xnx e o.op.ops with
   | none=>none
   | some vals=>match o.op with
     | .callF f _=>match S f with
       | some s=>match Xi0 s vals h m with
         | some (v,h',m')=>some (XpR nt e o.dst v,h',m',XdV (XkH h s.modes vals),XmM (XkH h s.modes vals))
         | none=>none
       | none=>none
     | .callV _ _=>match vals with
       | .func (.func f) ⟨first⟩ ⟨caps⟩::args=>match S f with
         | some s=>match Xi0 s (first++args++caps) h m with
           | some (v,h',m')=>some (XpR nt e o.dst v,h',m',XdV (XkH h s.modes (first++args++caps)),XmM (XkH h s.modes (first++args++caps)))
           | none=>none
         | none=>none
       | _=>none
     | op=>match XcM op vals h m with
       | some (v,h',m')=>some (XpR nt e o.dst (v.getD Xh9),h',m',needs op vals,cond (XxH op) (needs op vals) [])
       | none=>none
abbrev Fp:=List Nat×List Nat
def XIP (S:Xm2) (nt:Nat):List Xdf→Env→Hp→Nat→Option (List Fp×Env×Hp×Nat)
 | [],e,h,m=>some ([],e,h,m)
 | o::os,e,h,m=>match stepD S nt o e h m with
   | none=>none
   | some (e1,h1,m1,r,w)=>match XIP S nt os e1 h1 (m1+1) with
     | none=>none
     | some (fps,e',h',m')=>some ((r,w++List.range' m (m1 - m))::fps,e',h',m')
def XwB (m i:Nat):Bool:=Nat.beq (Nat.land 1 (Nat.shiftRight m i)) 1
def XJx (x:Nat):List Nat→Bool
 | []=>false
 | y::l=>cond (Nat.beq x y) true (XJx x l)
def XwM:List Nat→List Nat→Bool
 | [],_=>true
 | x::l,k=>cond (XJx x k) false (XwM l k)
def Xmu (a b:Fp):Bool:=XwM a.2 b.1&&XwM a.2 b.2&&XwM b.2 a.1
def XzM (i:Nat) (f:Fp):List Nat→List Fp→Bool
 | _,[]=>true
 | m::ms,g::gs=>(XwB m i||Xmu f g)&&XzM i f ms gs
 | [],_::_=>false
def XuV (i:Nat):List Nat→List Fp→Bool
 | _,[]=>true
 | _::ms,f::fs=>XzM i f ms fs&&XuV (i+1) ms fs
 | [],_::_=>false
def XqW:VOp→Nat
 | .load1 ..|.loadN ..|.b2s _|.sliceA ..|.toU _|.ofU ..=>1
 | .allocB ..|.ustr ..|.clr ..=>2
 | .store ..|.app ..|.nextS ..|.alloc _|.box _|.buildSl ..|.s2b _|.mkSl ..|.rangeS _|.callF ..|.callV ..=>2
 | _=>0
def XkD (a b:VOp):Bool:=Nat.beq (XqW a) 0||(Nat.beq (XqW b) 0||(Nat.beq (XqW a) 1&&Nat.beq (XqW b) 1))
def XAH (i j:Nat) (a:VOp):List Nat→List Xdf→List (Nat×Nat)
 | m::ms,o::os=>cond (XwB m i||XkD a o.op) (XAH i (j+1) a ms os) ((i,j)::XAH i (j+1) a ms os)
 | _,_=>[]
def Xkx (i:Nat):List Nat→List Xdf→List (Nat×Nat)
 | _::ms,o::os=>XAH i (i+1) o.op ms os++Xkx (i+1) ms os
 | _,_=>[]
def Xn6 (fps:List Fp):List (Nat×Nat)→Bool
 | []=>true
 | (i,j)::l=>(match fps[i]?,fps[j]? with|some a,some b=>Xmu a b|_,_=>false)&&Xn6 fps l
def tmpsOf:List Operand→List Nat
 | []=>[]
 | .tmp t::l=>t::tmpsOf l
 | _::l=>tmpsOf l
def XnH (o:Xdf):Fp:=((match o.g with|some (d,_)=>[d]|none=>[])++tmpsOf o.op.ops,match o.dst with|some d=>[d]|none=>[])
def XdE (F:Fns) (S:Xm2):VM→Option VM
 | ⟨fr,up,h,top⟩=>
   match fr.ret with
   | true=>match fr.defers with
     | r::ds=>match XaD h r with
       | some .marks=>some ⟨{ fr with defers:=ds },up,XoP h r,top⟩
       | _=>none
     | []=>match F fr.fn,up with
       | some f,u::us=>match XpO fr.env h f.results with
         | some vs=>match finish u (XJj vs) with
           | some u'=>some ⟨u',us,h,top⟩
           | none=>none
         | none=>none
       | _,_=>none
   | false=>match fr.todo with
     | []=>match fr.round with
       | none=>some ⟨{ fr with ret:=true },up,h,top⟩
       | some l=>Xio l none up h top
     | .code .ret::_=>match fr.round with
       | none=>some ⟨{ fr with ret:=true },up,h,top⟩
       | some l=>Xio l (some .ret) up h top
     | .code .skip::k=>some ⟨{ fr with todo:=k },up,h,top⟩
     | .inBlock _::k=>some ⟨{ fr with todo:=k },up,h,top⟩
     | .inScope::k=>some ⟨{ fr with todo:=k },up,h,top⟩
     | .code (.seq a b)::k=>some ⟨{ fr with todo:=.code a::.code b::k },up,h,top⟩
     | .code (.cond c a b)::k=>match Xov fr.env c with
       | some (.bool x)=>some ⟨{ fr with todo:=.code (if x then a else b)::k },up,h,top⟩
       | _=>none
     | .code (.block id b)::k=>some ⟨{ fr with todo:=.code b::.inBlock id::k },up,h,top⟩
     | .code (.scope b)::k=>some ⟨{ fr with todo:=.code b::.inScope::k },up,h,top⟩
     | .code (.loop b)::k=>some ⟨{ fr with todo:=.code b::.inLoop b::k },up,h,top⟩
     | .inLoop b::k=>some ⟨{ fr with todo:=.code b::.inLoop b::k },up,h,top⟩
     | .code (.exit id)::k=>match exitTo id k with
       | some k'=>some ⟨{ fr with todo:=k' },up,h,top⟩
       | none=>match fr.round with
         | none=>none
         | some l=>Xio l (some (.exit id)) up h top
     | .code (.reg ops)::k=>some ⟨{ fr with todo:=.inReg ops::k },up,h,top⟩
     | .code .stuck::_=>none
     | .code (.regD ops chk post)::k=>match XIP S fr.nt ops fr.env h top with
       | none=>none
       | some (fps,e',h',top')=>match Xn6 fps chk with
         | false=>none
         | true=>some ⟨{ fr with env:=e',todo:=.inReg post::k },up,h',top'⟩
     | .inReg []::k=>some ⟨{ fr with todo:=k },up,h,top⟩
     | .inReg (o::rest)::k=>match XeK fr.env o.g with
       | none=>none
       | some false=>some ⟨{ fr with env:=XpR fr.nt fr.env o.dst Xh9,todo:=.inReg rest::k },up,h,top⟩
       | some true=>XtD F S o rest k fr up h top
     | .code (.rangeF f ps asg body)::k=>match Xov fr.env f,fr.round with
       | some (.func (.func g) ⟨first⟩ ⟨caps⟩),none=>
         match XjX F g (first++[.func (.yield (top+1)) #[] #[]]++caps) with
         | some c=>some ⟨c,{ fr with todo:=.inRangeFunc (top+1)::k,defers:=top::fr.defers }::up,
            Xgp (Xgp h top .marks) (top+1) (.loop ⟨.ready,none,fr.fn,fr.nt,fr.env,ps,asg,body,top⟩),top+2⟩
         | none=>none
       | some (.func (.func g) ⟨first⟩ ⟨caps⟩),some l0=>match XaD h l0 with
         | some (.loop r0)=>match XjX F g (first++[.func (.yield top) #[] #[]]++caps) with
           | some c=>some ⟨c,{ fr with todo:=.inRangeFunc top::k }::up,
              Xgp h top (.loop ⟨.ready,none,fr.fn,fr.nt,fr.env,ps,asg,body,r0.defers⟩),top+1⟩
           | none=>none
         | _=>none
       | _,_=>none
     | .inRangeFunc _::_=>none
     | .endRangeFunc l::k=>match XaD h l with
       | some (.loop r)=>match r.state with
         | .busy=>none
         | _=>some ⟨{ fr with todo:=(match r.pending with|some c=>[.code c]|none=>[])++k },up,
            Xgp h l (.loop { r with state:=.exhausted }),top⟩
       | _=>none
     | .beginRound::k=>match fr.round with
       | some l=>match XaD h l with
         | some (.loop r)=>match r.state with
           | .ready=>some ⟨{ fr with todo:=k },up,Xgp h l (.loop { r with state:=.busy }),top⟩
           | _=>none
         | _=>none
       | none=>none
end Go.Vm
namespace Go.Vm
open Go Go.RowKit
theorem Xgh {α:Type} (l:List (Nat×α)) (i:Nat):XaD (XoP l i) i=none:=by
 induction l with
 | nil=>rfl
 | cons x l ih=>
   obtain ⟨j,x⟩:=x
   simp only [XoP]
   cases h:Nat.beq j i with
   | true=>simpa [h] using ih
   | false=>simp [XaD,h,ih]
theorem XgB {α:Type} (l:List (Nat×α)) {i j:Nat} (h:i≠j):XaD (XoP l i) j=XaD l j:=by
 induction l with
 | nil=>rfl
 | cons x l ih=>
   obtain ⟨k,x⟩:=x
   simp only [XoP,XaD]
   cases hk:Nat.beq k i with
   | true=>
     have:k=i:=Nat.eq_of_beq_eq_true hk
     subst this
     have hn:Nat.beq k j=false:=by
      cases hb:Nat.beq k j with
      | true=>exact absurd (Nat.eq_of_beq_eq_true hb) h
      | false=>rfl
     simp [hn,ih]
   | false=>simp [XaD,ih]
theorem XbI {α:Type} (l:List (Nat×α)) (i:Nat) (x:α):XaD (Xgp l i x) i=some x:=by
 simp [Xgp,XaD,Nat.beq_refl]
theorem Xcb {α:Type} (l:List (Nat×α)) {i j:Nat} (x:α) (h:i≠j):XaD (Xgp l i x) j=XaD l j:=by
 have hn:Nat.beq i j=false:=by
  cases hb:Nat.beq i j with
  | true=>exact absurd (Nat.eq_of_beq_eq_true hb) h
  | false=>rfl
 simp [Xgp,XaD,hn,XgB _ h]
theorem Xa1 {α:Type} (l:List (Nat×α)) (i j:Nat) (x:α):XaD (Xgp l i x) j=if i=j then some x else XaD l j:=by
 by_cases h:i=j
 ·subst h;simp [XbI]
 ·simp [h,Xcb _ _ h]
theorem Xd1 {α:Type} (l:List (Nat×α)) (i j:Nat):XaD (XoP l i) j=if i=j then none else XaD l j:=by
 by_cases h:i=j
 ·subst h;simp [Xgh]
 ·simp [h,XgB _ h]
structure Loc where
 blk:Nat
 sh:Nat
 ext:Nat
abbrev Ren:=Nat→Option Loc
mutual
inductive VR (ρ:Ren):Value→Value→Prop
 | bool (b):VR ρ (.bool b) (.bool b)
 | int (k n):VR ρ (.int k n) (.int k n)
 | string (s):VR ρ (.string s) (.string s)
 | junk (k n) {v:Value} (h:Xij v=true):VR ρ (.float k n) v
 | nilp:VR ρ (.pointer none) (.pointer none)
 | ptr {b o:Nat} {l:Loc} (h:ρ b=some l):VR ρ (.pointer (some ⟨b,o,none⟩)) (.pointer (some ⟨l.blk,l.sh+o,none⟩))
 | nils (sz:Nat):VR ρ (.slice none 0 sz) (.slice none 0 0)
 | slice {b o n sz c:Nat} {l:Loc} (h:ρ b=some l) (hn:n≤c) (hc:o+c*sz≤l.ext) :
    VR ρ (.slice (some ⟨b,o,none⟩) n sz) (.slice (some ⟨l.blk,l.sh+o,none⟩) n c)
 | slice0 {b o sz:Nat} (a:Option Addr):VR ρ (.slice (some ⟨b,o,none⟩) 0 sz) (.slice a 0 0)
 | nilf:VR ρ .nilFunc .nilFunc
 | func (f:Nat) {a b a' b':List Value} (ha:VRL ρ a a') (hb:VRL ρ b b'):VR ρ (.func (.func f) ⟨a⟩ ⟨b⟩) (.func (.func f) ⟨a'⟩ ⟨b'⟩)
 | yield {r:Nat} {l:Loc} (h:ρ r=some l):VR ρ (.func (.yield r) #[] #[]) (.func (.yield l.blk) #[] #[])
 | tnil (m:String) (e:Nat):VR ρ (.func (.method m) ⟨[.slice none 0 e]⟩ ⟨[]⟩) (.slice none 0 0)
 | tsl {b n:Nat} {l:Loc} {v':Value} (m:String) (h:ρ b=some l) (hv:(n=0∧v'=.slice none 0 0)∨∃ c,v'=.slice (some ⟨l.blk,l.sh,none⟩) n c∧n≤c∧0<c∧c≤l.ext) :
    VR ρ (.func (.method m) ⟨[.slice (some ⟨b,0,none⟩) n 1]⟩ ⟨[]⟩) v'
 | sdat {b n:Nat} {l:Loc} {p:Option Addr} (m:String) (h:ρ b=some l) (hp:0<n→p=some ⟨l.blk,l.sh,none⟩):VR ρ (.func (.method m) ⟨[.slice (some ⟨b,0,none⟩) n 1]⟩ ⟨[.bool true]⟩) (.pointer p)
 | nili:VR ρ .nilIface .nilIface
 | iface (t:Nat) {v v':Value} (h:VR ρ v v'):VR ρ (.iface t v) (.iface t v')
 | agg {a a':List Value} (h:VRL ρ a a'):VR ρ (.agg ⟨a⟩) (.agg ⟨a'⟩)
 | tuple {a a':List Value} (h:VRL ρ a a'):VR ρ (.tuple ⟨a⟩) (.tuple ⟨a'⟩)
inductive VRL (ρ:Ren):List Value→List Value→Prop
 | nil:VRL ρ [] []
 | cons {v v':Value} {l l':List Value} (h:VR ρ v v') (hl:VRL ρ l l'):VRL ρ (v::l) (v'::l')
end
def Ext (ρ ρ':Ren):Prop:=∀ b l,ρ b=some l→ρ' b=some l
theorem Ext.refl (ρ:Ren):Ext ρ ρ:=fun _ _ h=>h
theorem Ext.trans {a b c:Ren} (h:Ext a b) (k:Ext b c):Ext a c:=fun _ _ x=>k _ _ (h _ _ x)
mutual
theorem VR.mono {ρ ρ':Ren} (e:Ext ρ ρ'):∀ {v v':Value},VR ρ v v'→VR ρ' v v'
 | _,_,.bool b=>.bool b
 | _,_,.int k n=>.int k n
 | _,_,.string s=>.string s
 | _,_,.junk k n h=>.junk k n h
 | _,_,.nilp=>.nilp
 | _,_,.ptr h=>.ptr (e _ _ h)
 | _,_,.nils s=>.nils s
 | _,_,.slice h hn hc=>.slice (e _ _ h) hn hc
 | _,_,.slice0 a=>.slice0 a
 | _,_,.nilf=>.nilf
 | _,_,.func f ha hb=>.func f (VRL.mono e ha) (VRL.mono e hb)
 | _,_,.yield h=>.yield (e _ _ h)
 | _,_,.tnil m t=>.tnil m t
 | _,_,.tsl m h hv=>.tsl m (e _ _ h) hv
 | _,_,.sdat m h hp=>.sdat m (e _ _ h) hp
 | _,_,.nili=>.nili
 | _,_,.iface t h=>.iface t (VR.mono e h)
 | _,_,.agg h=>.agg (VRL.mono e h)
 | _,_,.tuple h=>.tuple (VRL.mono e h)
theorem VRL.mono {ρ ρ':Ren} (e:Ext ρ ρ'):∀ {v v':List Value},VRL ρ v v'→VRL ρ' v v'
 | _,_,.nil=>.nil
 | _,_,.cons h hl=>.cons (VR.mono e h) (VRL.mono e hl)
end
theorem VRL.length {ρ:Ren}:∀ {a b:List Value},VRL ρ a b→a.length=b.length
 | _,_,.nil=>rfl
 | _,_,.cons _ hl=>by simp [VRL.length hl]
theorem VRL.get {ρ:Ren}:∀ {a b:List Value},VRL ρ a b→∀ {i:Nat} {v:Value},a[i]?=some v→∃ v',b[i]?=some v'∧VR ρ v v'
 | _,_,.nil,_,_,h=>by simp at h
 | _,_,.cons (v':=v') h hl,0,_,e=>by simp at e;subst e;exact ⟨v',rfl,h⟩
 | _,_,.cons h hl,i+1,_,e=>by simpa using VRL.get hl (i:=i) (by simpa using e)
theorem VRL.append {ρ:Ren}:∀ {a b c d:List Value},VRL ρ a b→VRL ρ c d→VRL ρ (a++c) (b++d)
 | _,_,_,_,.nil,k=>k
 | _,_,_,_,.cons h hl,k=>.cons h (VRL.append hl k)
theorem VRL.drop {ρ:Ren}:∀ {a b:List Value} (n:Nat),VRL ρ a b→VRL ρ (a.drop n) (b.drop n)
 | _,_,0,h=>by simpa using h
 | _,_,n+1,.nil=>by simpa using VRL.nil
 | _,_,n+1,.cons _ hl=>by simpa using VRL.drop n hl
theorem VRL.take {ρ:Ren}:∀ {a b:List Value} (n:Nat),VRL ρ a b→VRL ρ (a.take n) (b.take n)
 | _,_,0,h=>by simpa using VRL.nil
 | _,_,n+1,.nil=>by simpa using VRL.nil
 | _,_,n+1,.cons h hl=>by simpa using VRL.cons h (VRL.take n hl)
theorem VRL.set {ρ:Ren}:∀ {a b:List Value} (n:Nat) {v v':Value},VRL ρ a b→VR ρ v v'→VRL ρ (a.set n v) (b.set n v')
 | _,_,_,_,_,.nil,_=>by simpa using VRL.nil
 | _,_,0,_,_,.cons _ hl,k=>by simpa using VRL.cons k hl
 | _,_,n+1,_,_,.cons h hl,k=>by simpa using VRL.cons h (VRL.set n hl k)
theorem VRL.setAt {ρ:Ren}:∀ {c d:List Value} {a b:List Value} (n:Nat),VRL ρ a b→VRL ρ c d→VRL ρ (setAt a n c) (Vm.setAt b n d)
 | _,_,_,_,n,h,.nil=>by simpa [Vm.setAt] using h
 | _,_,_,_,n,h,.cons k kl=>by simpa [Vm.setAt] using VRL.setAt (n+1) (VRL.set n h k) kl
theorem XsR {g:Fn} {a b:Array Value} (h:Xbm (.func g a b)=true):∃ f,g=.func f∧a=⟨[]⟩∧b=⟨[]⟩:=by
 obtain ⟨a⟩:=a
 obtain ⟨b⟩:=b
 cases g with
 | func f=>
   cases a with
   | nil=>
     cases b with
     | nil=>exact ⟨f,rfl,rfl,rfl⟩
     | cons _ _=>simp [Xbm] at h
   | cons _ _=>simp [Xbm] at h
 | _=>simp [Xbm] at h
mutual
theorem VR.flat (ρ:Ren):∀ (v:Value),Xbm v=true→VR ρ v v
 | .bool b,_=>.bool b
 | .int k n,_=>.int k n
 | .string s,_=>.string s
 | .pointer none,_=>.nilp
 | .pointer (some _),h=>by simp [Xbm] at h
 | .slice none 0 0,_=>.nils 0
 | .slice none 0 (_+1),h=>by simp [Xbm] at h
 | .slice none (_+1) _,h=>by simp [Xbm] at h
 | .slice (some _) _ _,h=>by simp [Xbm] at h
 | .nilFunc,_=>.nilf
 | .nilIface,_=>.nili
 | .agg ⟨l⟩,h=>.agg (VRL.flat ρ l (by simpa [Xbm] using h))
 | .tuple ⟨l⟩,h=>.tuple (VRL.flat ρ l (by simpa [Xbm] using h))
 | .iface t v,h=>.iface t (VR.flat ρ v (by simpa [Xbm] using h))
 | .float ..,h=>by simp [Xbm] at h
 | .complex ..,h=>by simp [Xbm] at h
 | .map _,h=>by simp [Xbm] at h
 | .chan _,h=>by simp [Xbm] at h
 | .func _ _ _,h=>by obtain ⟨f,rfl,rfl,rfl⟩:=XsR h;exact .func f .nil .nil
theorem VRL.flat (ρ:Ren):∀ (l:List Value),Xbm.flatL l=true→VRL ρ l l
 | [],_=>.nil
 | v::l,h=>by
   simp only [Xbm.flatL,Bool.and_eq_true] at h
   exact .cons (VR.flat ρ v h.1) (VRL.flat ρ l h.2)
end
def okO:Operand→Bool
 | .tmp _=>true
 | .const v=>Xbm v
 | .global _=>false
 | .func _=>true
def skOf (P:Program) (t:TypeId):SK:=
 match P.underlying t with
 | some .bool=>.bool
 | some (.int k)=>.int k
 | some .string=>.str
 | _=>.oth
def Xgb (P:Program) (t:TypeId):Bool:=
 match P.underlying t with
 | some (.struct _)=>true
 | some (.array _ _)=>true
 | _=>false
def leaves (P:Program):Nat→TypeId→List SK
 | 0,_=>[]
 | n+1,t=>match P.underlying t with
   | some (.struct fs)=>fs.toList.flatMap fun f=>leaves P n f.type
   | some (.array m e)=>(List.replicate m (leaves P n e)).flatten
   | _=>[skOf P t]
def eqFields (P:Program) (g:TypeId→Nat→Option (List (Nat×SK))) (o size:Nat):List Field→Option (List (Nat×SK))
 | []=>some []
 | f :: fs => if f.name = "_" ∨ size < f.offset + P.cellsOf f.type ∨ P.cellsOf f.type = 0 ∨ (P.info? f.type).isNone = true then none else match g f.type (o + f.offset) with
   | some a=>match eqFields P g o size fs with
     | some b=>some (a++b)
     | none=>none
   | none=>none
def Xk0 (g:TypeId→Nat→Option (List (Nat×SK))) (o:Nat) (e:TypeId) (sz:Nat) (i:Nat):Nat→Option (List (Nat×SK))
 | 0=>some []
 | m+1=>match g e (o+i*sz) with
   | some a=>match Xk0 g o e sz (i+1) m with
     | some b=>some (a++b)
     | none=>none
   | none=>none
def XiV (P:Program):Nat→TypeId→Nat→Option (List (Nat×SK))
 | 0,_,_=>none
 | n+1,t,o=>match P.underlying t with
   | some .bool=>some [(o,.bool)]
   | some (.int k)=>some [(o,.int k)]
   | some .string=>some [(o,.str)]
   | some (.struct fs)=>if P.stoodInHeld t then none else eqFields P (XiV P n) o (P.cellsOf t) fs.toList
   | some (.array m e)=>if m*P.cellsOf e≤P.cellsOf t∧1≤P.cellsOf e∧(P.info? e).isSome=true then Xk0 (XiV P n) o e (P.cellsOf e) 0 m else none
   | _=>none
def XoT:Nat→Operand→Bool
 | 0,.const (.pointer none)=>true
 | 1,.const (.slice none 0 0)=>true
 | 2,.const .nilFunc=>true
 | 3,.const .nilIface=>true
 | _,_=>false
def Xow (k:Nat) (op:BinOp) (x y:Operand):Option VOp:=
 match op with
 | .eql=>if XoT k y then some (.isNil k false x) else none
 | .neq=>if XoT k y then some (.isNil k true x) else none
 | _=>none
def XzV (P:Program) (op:BinOp) (t:TypeId) (x y:Operand):Option VOp:=
 match P.underlying t with
 | some .bool=>match op with
   | .eql=>some (.eqB false x y)
   | .neq=>some (.eqB true x y)
   | _=>none
 | some (.int _)|some .string=>some (.bin op x y)
 | some (.pointer te)=>match Xow 0 op x y with
   | some v=>some v
   | none=>match op with
     | .neq=>if (P.info? te).isSome=true then some (.eqP true x y) else none
     | _=>none
 | some (.slice _)=>Xow 1 op x y
 | some (.func ..)=>Xow 2 op x y
 | some (.interface _)=>Xow 3 op x y
 | some (.struct _)|some (.array ..)=>
   match op with
   | .eql=>if P.eqGuardType P.depth t then none else match XiV P 12 t 0 with|some os=>some (.eqAgg false os x y)|none=>none
   | .neq=>if P.eqGuardType P.depth t then none else match XiV P 12 t 0 with|some os=>some (.eqAgg true os x y)|none=>none
   | _=>none
 | _=>none
def XCZ (P:Program) (i:TypeInfo) (t:TypeId):Option TypeId:=
 match i.desc with
 | .named n _ => if n = "strings.Builder" then match P.underlying t with
   | some (.struct ⟨[_,f]⟩)=>match P.underlying f.type with
     | some (.slice e)=>match i.zero with
       | some (.agg ⟨[.pointer none,.slice none 0 0]⟩)=>if i.size=2 then some e else none
       | _=>none
     | _=>none
   | _=>none else none
 | _=>none
def Xjr (P:Program) (fields:Array Field):List (Nat×Operand)→Option (List (Nat×Nat×Operand))
 | []=>some []
 | (i,x)::l=>match fields[i]? with
   | some f=>match P.info? f.type with
     | some _=>match Xjr P fields l with
       | some r=>some ((f.offset,P.cellsOf f.type,x)::r)
       | none=>none
     | none=>none
   | none=>none
def Xcw (P:Program) (op:Op):Option VOp:=
 match op with
 | .move x=>some (.mv x)
 | .assign x=>some (.mv x)
 | .pick c a b=>some (.pick c a b)
 | .alloc t=>match P.info? t with
   | some i=>match XCZ P i t with
     | some e=>some (.allocB t e)
     | none=>match i.zero with
       | some z=>if Xbm z then some (.alloc (XaX z)) else none
       | none=>none
   | none=>none
 | .box _ x=>some (.box x)
 | .build t ps=>match P.info? t with
   | some i=>match i.zero with
     | some z=>if Xbm z then match P.underlying t with
       | some (.struct fs)=>if fs.toList.all (fun f=>(P.info? f.type).isSome) then match Xjr P fs ps.toList with
         | some q=>some (.build (XaX z) q)
         | none=>none else none
       | some (.array _ e)=>match P.info? e with
         | some _=>some (.build (XaX z) (ps.toList.map fun (i,x)=>(i*P.cellsOf e,P.cellsOf e,x)))
         | none=>none
       | _=>none else none
     | none=>none
   | none=>none
 | .buildSlice t len ps=>match P.underlying t with
   | some (.slice e)=>match P.info? e with
     | some i=>match i.zero with
       | some z=>if Xbm z∧(XaX z).length=i.size∧1≤len*i.size∧len*i.size≤2^24 then
          some (.buildSl len i.size ((List.replicate len (XaX z)).flatten) (ps.toList.map fun (j,x)=>(j*i.size,i.size,x))) else none
       | none=>none
     | none=>none
   | _=>none
 | .load t a=>match P.info? t with
   | some i=>match P.underlying t with
     | some _=>if Xgb P t then (if (leaves P 12 t).length=i.size then some (.loadN (leaves P 12 t) a) else none) else some (.load1 (skOf P t) a)
     | none=>none
   | none=>none
 | .store t a x=>match P.info? t with
   | some i=>some (.store i.size a x)
   | none=>none
 | .nilCheck x=>some (.nilCheck x)
 | .binOp op t x y _=>XzV P op t x y
 | .unOp op _ x=>match op with
   | .not=>some (.not x)
   | .neg=>some (.neg x)
   | .xor=>some (.cmpl x)
   | _=>none
 | .convert s d x=>match P.underlying s,P.underlying d with
   | some (.int _),some (.int k)=>some (.conv k x)
   | some .string,some .string=>some (.s2s x)
   | some (.int _),some .string=>some (.r2s x)
   | some (.pointer t),some .unsafePointer=>match P.info? t with
     | some i=>if i.size=0 then none else some (.toU x)
     | none=>none
   | some .unsafePointer,some (.pointer u)=>match P.info? u with
     | some i=>if i.size=0 then none else some (.ofU u i.size x)
     | none=>none
   | some .string,some (.slice e)=>match P.underlying e with
     | some (.int .u8)=>some (.s2b x)
     | _=>none
   | some (.slice e),some .string=>match P.underlying e with
     | some (.int .u8)=>some (.b2s x)
     | _=>none
   | _,_=>none
 | .makeInterface t x=>match P.underlying t with
   | some (.interface _)=>none
   | some _=>some (.iface t x)
   | none=>none
 | .typeAssert x _ t true=>match P.underlying t with
   | some (.interface _)=>none
   | some _=>match P.info? t with
     | some i=>match i.zero with
       | some z=>if Xbm z then some (.tassert t z x) else none
       | none=>none
     | none=>none
   | none=>none
 | .makeFunc (.func f) first caps=>some (.mkFunc f first.toList caps.toList)
 | .makeSlice t l c=>match P.underlying t with
   | some (.slice e)=>match P.info? e with
     | some i=>match i.zero with
       | some z=>if Xbm z∧(XaX z).length=i.size∧1≤i.size then some (.mkSl i.size i.bytes (XaX z) l c) else none
       | none=>none
     | none=>none
   | _=>none
 | .slice t x lo hi none=>match P.underlying t with
   | some .string=>some (.sliceS x lo hi)
   | some (.slice e)=>match P.info? e with
     | some i=>some (.sliceL i.size x lo hi)
     | none=>none
   | some (.array n e)=>match P.info? e with
     | some i=>some (.sliceA n i.size x lo hi)
     | none=>none
   | _=>none
 | .fieldAddr t x f=>match P.underlying t with
   | some (.struct fs)=>match fs[f]? with
     | some fd=>match P.info? fd.type with
       | some i=>if i.size=0 then none else some (.fieldA fd.offset x)
       | none=>none
     | none=>none
   | _=>none
 | .field t x f=>match P.underlying t with
   | some (.struct fs)=>match fs[f]? with
     | some fd=>match P.info? fd.type with
       | some i=>match P.underlying fd.type with
         | some _=>if Xgb P fd.type then some (.partN fd.offset i.size x) else some (.part1 fd.offset x)
         | none=>none
       | none=>none
     | none=>none
   | _=>none
 | .indexAddr t x i=>match P.underlying t with
   | some (.array n e)=>match P.info? e with
     | some j=>some (.idxAA n j.size x i)
     | none=>none
   | some (.slice e)=>match P.info? e with
     | some j=>some (.idxAL j.size x i)
     | none=>none
   | _=>none
 | .index t x i=>match P.underlying t with
   | some (.array n e)=>match P.info? e with
     | some j=>match P.underlying e with
       | some _=>if Xgb P e then some (.idxVN n j.size x i) else (if j.size=1 then some (.idxV1 n x i) else none)
       | none=>none
     | none=>none
   | some .string=>some (.idxS x i)
   | _=>none
 | .extract x i=>some (.extract i x)
 | .call ⟨.builtin .len,⟨[x]⟩,⟨[t]⟩⟩=>match P.underlying t with
   | some .string=>some (.lenS x)
   | some (.slice _)=>some (.lenL x)
   | some (.array n _)=>some (.lenN n)
   | some (.pointer a)=>match P.underlying a with
     | some (.array n _)=>some (.lenN n)
     | _=>none
   | _=>none
 | .call ⟨.builtin .max,xs,_⟩=>some (.minmax true xs.toList)
 | .call ⟨.builtin .min,xs,_⟩=>some (.minmax false xs.toList)
 | .call ⟨.builtin .append,⟨[x,y]⟩,⟨[s,u]⟩⟩=>match P.underlying s,P.underlying u with
   | some (.slice e),some (.slice _)|some (.slice e),some .string=>match P.info? e with
     | some i=>match i.zero with
       | some z=>if 1≤i.bytes∧1≤i.size∧(XaX z).length=i.size then some (.app e i.size i.bytes x y) else none
       | none=>none
     | none=>none
   | _,_=>none
 | .call ⟨.builtin .unsafeSliceData,⟨[x]⟩,_⟩=>some (.sdata x)
 | .call ⟨.builtin .unsafeString,⟨[x,y]⟩,⟨[pt,_]⟩⟩=>match P.underlying pt with
   | some (.pointer e)=>match P.info? e with
     | some i=>if i.size=1 then some (.ustr e x y) else none
     | none=>none
   | _=>none
 | .call ⟨.builtin .clear,⟨[x]⟩,⟨[t]⟩⟩=>match P.underlying t with
   | some (.slice e)=>match P.info? e with
     | some i=>match i.zero with
       | some z=>if (XaX z).length=i.size∧1≤i.size∧Xbm z=true∧(XaX z).all Xij=true then some (.clr i.size x) else none
       | none=>none
     | none=>none
   | _=>none
 | .call ⟨.value (.func f),⟨[x]⟩,_⟩=>match P.funcs[f]? with
   | some fn => if fn.body.isNone = true ∧ fn.name = "internal/abi.NoEscape" ∧ (fn.origin = "" ∨ fn.origin = "internal/abi.NoEscape") then some (.mv x) else none
   | none=>none
 | .call ⟨.value (.func f),⟨[x,y]⟩,_⟩=>match P.funcs[f]? with
   | some fn => if fn.body.isNone = true ∧ fn.name = "internal/bytealg.IndexByteString" ∧ (fn.origin = "" ∨ fn.origin = "internal/bytealg.IndexByteString") then some (.ixb x y) else none
   | none=>none
 | .range t x=>match P.underlying t with
   | some .string=>some (.rangeS x)
   | _=>none
 | .next it true=>some (.nextS it)
 | _=>none
def Xvh:Op→Option VOp
 | .call ⟨.value (.func f),xs,_⟩=>some (.callF f xs.toList)
 | .call ⟨.value (.tmp t),xs,_⟩=>some (.callV (.tmp t) xs.toList)
 | _=>none
def Xsi:VOp→Bool
 | .callF ..=>true
 | .callV ..=>true
 | _=>false
def XpA (P:Program) (op:Op):Option VOp:=
 match Xcw P op with
 | some v=>if Xsi v then none else some v
 | none=>Xvh op
theorem XoF {P:Program} {op:Op} {v:VOp} (h:XpA P op=some v):(∀ f xs,v=.callF f xs→∃ ys ts,op=.call ⟨.value (.func f),ys,ts⟩∧xs=ys.toList) ∧
 (∀ x xs,v=.callV x xs→∃ t ys ts,x=.tmp t∧op=.call ⟨.value (.tmp t),ys,ts⟩∧xs=ys.toList)∧(Xsi v=false→Xcw P op=some v)∧(∀ c,op≠.defer c):=by
 unfold XpA at h
 split at h
 ·rename_i v' hv
  split at h<;>try (cases h;done)
  rename_i hn
  cases h
  refine ⟨fun f xs e=>?_,fun f xs e=>?_,fun _=>hv,fun c e=>?_⟩
  ·subst e;exact absurd rfl hn
  ·subst e;exact absurd rfl hn
  ·subst e;simp [Xcw] at hv
 ·unfold Xvh at h
  split at h
  ·cases h;exact ⟨fun _ _ e=>by cases e;exact ⟨_,_,rfl,rfl⟩,fun _ _ e=>(by cases e),fun e=>(by cases e),fun _ e=>by cases e⟩
  ·cases h;exact ⟨fun _ _ e=>(by cases e),fun _ _ e=>by cases e;exact ⟨_,_,_,rfl,rfl,rfl⟩,fun e=>(by cases e),fun _ e=>by cases e⟩
  ·cases h
def Xji (P:Program) (ops:Array Oper) (o:Oper):Option Xdf:=
 match XpA P o.op with
 | some v=>if v.ops.all okO then match o.guard with
    | none=>some ⟨o.dst,v,none⟩
    | some (j,w)=>match ops[j]? with
      | some p=>match p.dst with
        | some d=>some ⟨o.dst,v,some (d,w)⟩
        | none=>none
      | none=>none
    else none
 | none=>none
def Xd8 (P:Program) (ops:Array Oper):List Oper→Option (List Xdf)
 | []=>some []
 | o::l=>match Xji P ops o with
   | some v=>match Xd8 P ops l with
     | some vs=>some (v::vs)
     | none=>none
   | none=>none
def Xfd (ops:List Oper):List Nat:=
 go [] ops
where
 go (acc:List Nat):List Oper→List Nat
  | []=>acc
  | o::l=>go (acc++[o.after.toList.foldl (fun s e=>if Region.binds .any e then s ||| 2^e.on ||| acc.getD e.on 0 else s) 0]) l
def XtX (md:Region.Mode) (rk:Nat→Nat) (n:Nat) (i:Nat):List Oper→Bool
 | []=>true
 | o::l=>o.after.toList.all (fun e=>!Region.binds md e||(Nat.blt e.on n&&Nat.blt (rk e.on) (rk i)))&&XtX md rk n (i+1) l
def XLs:List Nat→Nat→Nat
 | [],_=>0
 | x::l,y=>cond (Nat.beq x y) 0 (XLs l y+1)
def XjG (ops:Array Oper):Bool:=
 XtX .any (fun i=>i) ops.size 0 ops.toList&&(!Region.departs ops||(XtX .text (XLs (Region.linearise .text ops 0)) ops.size 0 ops.toList&&XtX .gc (XLs (Region.linearise .gc ops 0)) ops.size 0 ops.toList))
def XqB (j:Nat):List Nat→Nat→Nat
 | [],p=>p
 | m::ms,p=>XqB (j+1) ms (cond (Nat.beq m (2^j - 1)) p (j+1))
def Xfc (P:Program):Code→Option VC
 | .refuse _=>some .stuck
 | .skip=>some .skip
 | .region _ ops false=>match Xd8 P ops ops.toList with
   | some l=>some (.reg l)
   | none=>some .stuck
 | .region _ ops true=>match Xd8 P ops ops.toList with
   | some l=>if XjG ops=true∧XuV 0 (Xfd ops.toList) (l.map XnH)=true then some (.regD (l.take (XqB 0 (Xfd ops.toList) 0)) (Xkx 0 ((Xfd ops.toList).take (XqB 0 (Xfd ops.toList) 0)) (l.take (XqB 0 (Xfd ops.toList) 0))) (l.drop (XqB 0 (Xfd ops.toList) 0))) else some .stuck
   | none=>some .stuck
 | .seq a b=>match Xfc P a with
   | some x=>match Xfc P b with
     | some y=>some (.seq x y)
     | none=>none
   | none=>none
 | .cond c a b=>match okO c,Xfc P a with
   | true,some x=>match Xfc P b with
     | some y=>some (.cond c x y)
     | none=>none
   | _,_=>none
 | .block id b=>match Xfc P b with
   | some x=>some (.block id x)
   | none=>none
 | .loop b=>match Xfc P b with
   | some x=>some (.loop x)
   | none=>none
 | .scope b=>match Xfc P b with
   | some x=>some (.scope x)
   | none=>none
 | .label _=>some .skip
 | .goto _=>some .stuck
 | .rangeFunc f ps a b=>match okO f,Xfc P a with
   | true,some x=>match Xfc P b with
     | some y=>some (.rangeF f ps.toList x y)
     | none=>none
   | _,_=>none
 | .exit id=>some (.exit id)
 | .ret=>some .ret
def Xrz (P:Program):ResultVar→Option XBJ
 | .tmp t=>some (.tmp t)
 | .cell a t=>match P.info? t with
   | some i=>match P.underlying t with
     | some _=>if Xgb P t then (if (leaves P 12 t).length=i.size then some (.cell a (leaves P 12 t) true) else none) else some (.cell a [skOf P t] false)
     | none=>none
   | none=>none
def Xl9 (P:Program):List ResultVar→Option (List XBJ)
 | []=>some []
 | o::l=>match Xrz P o with
   | some v=>match Xl9 P l with
     | some vs=>some (v::vs)
     | none=>none
   | none=>none
def XaA (P:Program) (fn:Func):Option VFn:=
 match fn.body with
 | some b => if fn.name = "runtime.NumGoroutine" then none else match Xfc P b with
   | some c=>match Xl9 P fn.results.toList with
     | some rs=>some ⟨fn.ntmps,c,rs⟩
     | none=>none
   | none=>none
 | none=>none
def Xlx (P:Program) (F:Fns):Prop:=∀ f vf,F f=some vf→∃ fn,P.funcs[f]?=some fn∧XaA P fn=some vf
def Xsz (ρ:Ren) (e:Env) (tmps:Array Value):Prop:=∀ (i:Nat) v,XaD e i=some v→∃ v',tmps[i]?=some v'∧VR ρ v v'
theorem Xsz.mono {ρ ρ':Ren} {e:Env} {t:Array Value} (h:Xsz ρ e t) (x:Ext ρ ρ'):Xsz ρ' e t:=
 fun i v g=>let ⟨v',a,b⟩:=h i v g;⟨v',a,b.mono x⟩
structure XDw (P:Program) (ρ:Ren) (r:XxR) (r':Loop):Prop where
 state:r'.state=r.state
 fn:r'.fn=r.fn
 size:r'.tmps.size=r.nt
 env:Xsz ρ r.env r'.tmps
 params:r'.params.toList=r.params
 asg:Xfc P r'.assign=some r.asg
 body:Xfc P r'.body=some r.body
 defers:∃ l,ρ r.defers=some l∧r'.defers=l.blk
 pending:match r.pending,r'.pending with
  | none,none=>True
  | some c,some c'=>Xfc P c'=some c
  | _,_=>False
theorem XDw.mono {P:Program} {ρ ρ':Ren} {r:XxR} {r':Loop} (h:XDw P ρ r r') (x:Ext ρ ρ'):XDw P ρ' r r':=
 { h with env:=h.env.mono x,defers:=let ⟨l,a,b⟩:=h.defers;⟨l,x _ _ a,b⟩ }
def Xbt (ρ:Ren) (w:World) (l:Loc) (own:Bool) (cs:List Value):Prop:=
 cs.length≤l.ext ∧
 (∀ (i:Nat) v,cs[i]?=some v→∃ v',w.cell? ⟨l.blk,l.sh+i,none⟩=some v'∧VR ρ v v') ∧
 (∀ i,i<l.ext→(w.cell? ⟨l.blk,l.sh+i,none⟩).isSome=true∧(own=true→w.frozen? ⟨l.blk,l.sh+i,none⟩=false))
def XmK (P:Program) (ρ:Ren) (w:World) (l:Loc):XbO→Prop
 | .cells cs=>Xbt ρ w l true cs
 | .row own cs=>Xbt ρ w l own cs
 | .ty t cs=>Xbt ρ w l true cs∧l.sh=0∧(l.ext=0∨w.shape? l.blk=some (t,l.ext))
 | .siter s p=>w.heap[l.blk]?=some (.stringIter s p)∧l.sh=0∧l.ext=1
 | .loop r=>(∃ r',w.heap[l.blk]?=some (.loop r')∧XDw P ρ r r')∧l.sh=0∧l.ext=1
 | .marks=>w.heap[l.blk]?=some (.deferred (some []))∧l.sh=0∧l.ext=1
def writable:XbO→Bool
 | .row own _=>own
 | _=>true
def Apart (a b:Loc):Prop:=∀ k,a.blk=b.blk→a.sh≤k→k<a.sh+a.ext→b.sh≤k→k<b.sh+b.ext→False
theorem Apart.symm {a b:Loc} (h:Apart a b):Apart b a:=fun k e h1 h2 h3 h4=>h k e.symm h3 h4 h1 h2
def Xwn (u:Nat→Prop):Option Obj→Option Obj→Prop
 | some (.cells arr T fr),x=>∃ arr' fr',x=some (.cells arr' T fr')∧arr'.size=arr.size∧(fr'=fr∨∃ k,u k)∧∀ k,¬ u k→arr'[k]?=arr[k]?∧(k<arr.size→((fr.1≤k∧k<fr.2)↔(fr'.1≤k∧k<fr'.2)))
 | o,x=>u 0∨x=o
theorem Xwn.refl (u:Nat→Prop) (o:Option Obj):Xwn u o o:=by
 unfold Xwn;split
 ·exact ⟨_,_,rfl,rfl,.inl rfl,fun _ _=>⟨rfl,fun _=>Iff.rfl⟩⟩
 ·exact .inr rfl
structure UG where
 u:Nat→Nat→Prop
 g:Nat→Prop
 lo:Nat
def UG.of (u:Nat→Nat→Prop):UG:=⟨u,fun _=>False,0⟩
abbrev UG.no:UG:=.of fun _ _=>False
class NG (U:UG) (top:Nat):Prop where
 out:¬ U.g top
 le:U.lo≤top
instance (u:Nat→Nat→Prop) (top:Nat):NG (.of u) top:=⟨id,Nat.zero_le _⟩
structure Keep (U:UG) (w0 w:World):Prop where
 os:w.os=w0.os
 tape:w.tape=w0.tape
 output:w.output=w0.output
 size:w0.heap.size≤w.heap.size
 block:∀ b,b<w0.heap.size→Xwn (U.u b) w0.heap[b]? w.heap[b]?
structure HpR (P:Program) (w0:World) (U:UG) (ρ:Ren) (H:Hp) (top:Nat) (w:World):Prop where
 obj:∀ i o,XaD H i=some o→∃ l,ρ i=some l∧XmK P ρ w l o∧(writable o=true→∀ k,l.sh≤k→k<l.sh+l.ext→U.u l.blk k∨w0.heap.size≤l.blk)
 dis:∀ i j oi oj li lj,i≠j→XaD H i=some oi→XaD H j=some oj→ρ i=some li→ρ j=some lj→writable oi=true→Apart li lj
 lt:∀ i l,ρ i=some l→U.g i∨(U.lo≤i∧i<top)
 keep:Keep U w0 w
theorem Xbt.stay {ρ ρ':Ren} {w w':World} {l:Loc} {own:Bool} {cs:List Value} (h:Xbt ρ w l own cs) (x:Ext ρ ρ')
 (hc:∀ i,i<l.ext→w'.cell? ⟨l.blk,l.sh+i,none⟩=w.cell? ⟨l.blk,l.sh+i,none⟩)
 (hf:∀ i,i<l.ext→w'.frozen? ⟨l.blk,l.sh+i,none⟩=w.frozen? ⟨l.blk,l.sh+i,none⟩):Xbt ρ' w' l own cs:=by
 obtain ⟨h1,h2,h3⟩:=h
 refine ⟨h1,fun i v e=>?_,fun i hi=>?_⟩
 ·obtain ⟨v',a,b⟩:=h2 i v e
  have hi:i<cs.length:=by
   rcases Nat.lt_or_ge i cs.length with h|h
   ·exact h
   ·simp [List.getElem?_eq_none h] at e
  exact ⟨v',by rw [hc i (by omega)];exact a,b.mono x⟩
 ·rw [hc i hi,hf i hi];exact h3 i hi
theorem XmK.stay {P:Program} {ρ ρ':Ren} {w w':World} {l:Loc} {o:XbO} (h:XmK P ρ w l o) (x:Ext ρ ρ')
 (hc:∀ i,i<l.ext→w'.cell? ⟨l.blk,l.sh+i,none⟩=w.cell? ⟨l.blk,l.sh+i,none⟩)
 (hf:∀ i,i<l.ext→w'.frozen? ⟨l.blk,l.sh+i,none⟩=w.frozen? ⟨l.blk,l.sh+i,none⟩)
 (hb:(∀ c t f,w.heap[l.blk]?≠some (.cells c t f))→0<l.ext→w'.heap[l.blk]?=w.heap[l.blk]?) (hs:0<l.ext→∀ x,w.shape? l.blk=some x→w'.shape? l.blk=some x):XmK P ρ' w' l o:=by
 cases o with
 | cells cs=>exact Xbt.stay h x hc hf
 | row own cs=>exact Xbt.stay h x hc hf
 | ty t cs=>
   refine ⟨Xbt.stay h.1 x hc hf,h.2.1,?_⟩
   rcases h.2.2 with h0|h0
   ·exact .inl h0
   ·rcases Nat.eq_zero_or_pos l.ext with he|he
    ·exact .inl he
    ·exact .inr (hs he _ h0)
 | siter s p=>obtain ⟨a,b,c⟩:=h;exact ⟨by rw [hb (by simp [a]) (by omega)];exact a,b,c⟩
 | loop r=>obtain ⟨⟨r',a,d⟩,b,c⟩:=h;exact ⟨⟨r',by rw [hb (by simp [a]) (by omega)];exact a,d.mono x⟩,b,c⟩
 | marks=>obtain ⟨a,b,c⟩:=h;exact ⟨by rw [hb (by simp [a]) (by omega)];exact a,b,c⟩
theorem XmK.same {P:Program} {ρ ρ':Ren} {w w':World} {l:Loc} {o:XbO} (h:XmK P ρ w l o) (x:Ext ρ ρ')
 (hb:0<l.ext→w'.heap[l.blk]?=w.heap[l.blk]?):XmK P ρ' w' l o:=
 h.stay x (fun i hi=>World.cell?_of_block (w:=w) (hb (by omega))) (fun i hi=>World.frozen?_of_block (w:=w) (hb (by omega))) (fun _ h=>hb h) (fun he x h=>by unfold World.shape? at h ⊢;rw [hb he];exact h)
theorem Xbt.lt {ρ:Ren} {w:World} {l:Loc} {own:Bool} {cs:List Value} (h:Xbt ρ w l own cs) (he:0<l.ext):l.blk<w.heap.size:=by
 have:=(h.2.2 0 he).1
 cases hc:w.cell? ⟨l.blk,l.sh+0,none⟩ with
 | none=>rw [hc] at this;simp at this
 | some u=>exact World.block_lt_of_cell? w _ hc
theorem XmK.lt {P:Program} {ρ:Ren} {w:World} {l:Loc} {o:XbO} (h:XmK P ρ w l o) (he:0<l.ext):l.blk<w.heap.size:=by
 have key:∀ (x:Obj),w.heap[l.blk]?=some x→l.blk<w.heap.size:=fun x hx=>by
  rcases Nat.lt_or_ge l.blk w.heap.size with h'|h'
  ·exact h'
  ·simp [Array.getElem?_eq_none h'] at hx
 cases o with
 | cells cs=>exact Xbt.lt h he
 | row own cs=>exact Xbt.lt h he
 | ty t cs=>exact Xbt.lt h.1 he
 | siter s p=>exact key _ h.1
 | loop r=>obtain ⟨⟨r',a,_⟩,_⟩:=h;exact key _ a
 | marks=>exact key _ h.1
section
variable {P:Program} {w0 w:World} {U:UG} {ρ:Ren} {H:Hp} {top:Nat}
theorem Keep.refl (U:UG) (w:World):Keep U w w:=⟨rfl,rfl,rfl,Nat.le_refl _,fun _ _=>Xwn.refl _ _⟩
theorem Keep.drew (h:Keep U w0 w):Keep U w0 w.drew:=⟨h.os,h.tape,h.output,h.size,h.block⟩
theorem Keep.alloc (h:Keep U w0 w) (o:Obj):Keep U w0 (w.alloc o):=
 ⟨h.os,h.tape,h.output,by have:=h.size;simp;omega,fun b hb=>by
   rw [Below.heap_alloc w o b (by have:=h.size;omega)];exact h.block b hb⟩
theorem Keep.setCell (h:Keep U w0 w) (b o:Nat) (v:Value) (hu:U.u b o∨w0.heap.size≤b):Keep U w0 (w.setCell ⟨b,o,none⟩ v):=
 ⟨h.os,h.tape,h.output,by have:=h.size;simp;omega,fun k hk=>by
   by_cases hkb:k=b
   ·subst hkb
    have hU:U.u k o:=hu.resolve_right (by omega)
    have:=h.block k hk
    simp only [World.setCell,Array.getElem?_modify,if_true]
    cases h0:w0.heap[k]? with
    | none=>rw [Array.getElem?_eq_none_iff] at h0;omega
    | some x=>
      rw [h0] at this
      cases x with
      | cells arr T fr=>
        obtain ⟨arr',fr',e,s,q,g⟩:=this
        rw [e]
        refine ⟨arr'.setIfInBounds o v,fr',by simp,by simp [s],q,fun i hi=>?_⟩
        have:o≠i:=fun e=>hi (e▸hU)
        rw [Array.getElem?_setIfInBounds_ne this];exact g i hi
      | _=>
        simp only [Xwn] at this ⊢
        rcases this with hz|he
        ·exact .inl hz
        ·rw [he];exact .inr rfl
   ·rw [Below.heap_setCell _ _ _ _ (by simpa using hkb)];exact h.block k hk⟩
theorem Xin (w:World) (r:Nat) (o:Obj) (k:Nat) (h:k≠r):({ w with heap:=w.heap.setIfInBounds r o }:World).heap[k]?=w.heap[k]?:=by
 show (w.heap.setIfInBounds r o)[k]?=_
 rw [Array.getElem?_setIfInBounds_ne (fun e=>h e.symm)]
theorem Keep.setObj (h:Keep U w0 w) (b:Nat) (o:Obj) (hu:U.u b 0∨w0.heap.size≤b) (hc:∀ c t f,w.heap[b]?≠some (.cells c t f)) :
 Keep U w0 { w with heap:=w.heap.setIfInBounds b o }:=
 ⟨h.os,h.tape,h.output,by have:=h.size;simpa using this,fun k hk=>by
   by_cases hkb:k=b
   ·subst hkb
    have hU:U.u k 0:=hu.resolve_right (by omega)
    have:=h.block k hk
    cases h0:w0.heap[k]? with
    | none=>rw [Array.getElem?_eq_none_iff] at h0;omega
    | some x=>
      rw [h0] at this
      cases x with
      | cells arr T fr=>
        obtain ⟨arr',fr',e,_⟩:=this
        exact absurd e (hc _ _ _)
      | _=>exact .inl hU
   ·rw [Xin _ _ _ _ hkb];exact h.block k hk⟩
theorem Keep.below (h:Keep U w0 w) {w':World} (b:Below w.heap.size w w'):Keep U w0 w':=
 ⟨b.os.trans h.os,b.tape.trans h.tape,b.output.trans h.output,Nat.le_trans h.size b.size,fun k hk=>by
   rw [b.block k (by have:=h.size;omega)];exact h.block k hk⟩
theorem Keep.toBelow (h:Keep UG.no w0 w):Below w0.heap.size w0 w:=
 ⟨h.os,h.tape,h.output,h.size,fun k hk=>by
   have:=h.block k hk
   cases h0:w0.heap[k]? with
   | none=>rw [Array.getElem?_eq_none_iff] at h0;omega
   | some x=>
     rw [h0] at this
     cases x with
     | cells arr T fr=>
       obtain ⟨arr',fr',e,s,q,g⟩:=this
       have:arr'=arr:=Array.ext_getElem? fun i=>(g i (fun h=>h)).1
       have hq:fr'=fr:=by
        rcases q with q|⟨k,hk⟩
        ·exact q
        ·exact hk.elim
       rw [e,this,hq]
     | _=>
       rcases this with hz|he
       ·exact absurd hz (fun h=>h)
       ·exact he⟩
theorem HpR.XIV (h:HpR P w0 U ρ H top w) {i:Nat} {o:XbO} {l:Loc} (ho:XaD H i=some o) (hl:ρ i=some l) (he:0<l.ext):l.blk<w.heap.size:=by
 obtain ⟨l',hl',hr,_⟩:=h.obj i o ho
 rw [hl] at hl';cases hl'
 exact hr.lt he
theorem HpR.kept (h:HpR P w0 U ρ H top w) {w':World} (hk:Keep U w0 w') (hb:∀ k,k<w.heap.size→w'.heap[k]?=w.heap[k]?):HpR P w0 U ρ H top w' where
 obj i o ho:=by
  obtain ⟨l,hl,hr,hw⟩:=h.obj i o ho
  exact ⟨l,hl,hr.same (Ext.refl ρ) (fun he=>hb _ (hr.lt he)),hw⟩
 dis:=h.dis
 lt:=h.lt
 keep:=hk
theorem HpR.drew (h:HpR P w0 U ρ H top w):HpR P w0 U ρ H top w.drew:=h.kept h.keep.drew (fun _ _=>rfl)
def upd (ρ:Ren) (i:Nat) (l:Loc):Ren:=fun j=>if i=j then some l else ρ j
theorem upd_same (ρ:Ren) (i:Nat) (l:Loc):upd ρ i l i=some l:=by simp [upd]
theorem upd_ne (ρ:Ren) {i j:Nat} (l:Loc) (h:i≠j):upd ρ i l j=ρ j:=by simp [upd,h]
theorem Ext.upd {ρ:Ren} {i:Nat} {l:Loc} (h:ρ i=none):Ext ρ (upd ρ i l):=fun j l' e=>by
 by_cases hij:i=j
 ·subst hij;rw [h] at e;cases e
 ·rw [upd_ne _ _ hij];exact e
theorem HpR.XoV [hn:NG U top] (h:HpR P w0 U ρ H top w):ρ top=none:=by
 cases e:ρ top with
 | none=>rfl
 | some l=>
   rcases h.lt top l e with h1|h1
   ·exact (hn.out h1).elim
   ·omega
theorem HpR.new [hn:NG U top] (h:HpR P w0 U ρ H top w) {w':World} {l:Loc} {o:XbO} (hk:Keep U w0 w') (hb:∀ k,k<w.heap.size→w'.heap[k]?=w.heap[k]?)
 (ho:XmK P (upd ρ top l) w' l o) (hl:w.heap.size≤l.blk∨l.ext=0) :
 HpR P w0 U (upd ρ top l) (Xgp H top o) (top+1) w' where
 obj i x hx:=by
  rw [Xa1] at hx
  by_cases hi:top=i
  ·subst hi
   rw [if_pos rfl] at hx;cases hx
   refine ⟨l,upd_same _ _ _,ho,fun _ k h1 h2=>?_⟩
   rcases hl with hl|hl
   ·exact .inr (Nat.le_trans h.keep.size hl)
   ·omega
  ·rw [if_neg hi] at hx
   obtain ⟨l',hl',hr,hw⟩:=h.obj i x hx
   exact ⟨l',by rw [upd_ne _ _ hi];exact hl',hr.same (Ext.upd (h.XoV)) (fun he=>hb _ (hr.lt he)),hw⟩
 dis i j oi oj li lj hij hi hj hli hlj hw:=by
  have key:∀ (j:Nat) oj lj,XaD H j=some oj→ρ j=some lj→Apart l lj:=fun j oj lj hj hlj k e h1 h2 h3 h4=>by
   have:=h.XIV hj hlj (by omega)
   omega
  rw [Xa1] at hi hj
  by_cases h1:top=i
  ·subst h1
   rw [if_neg hij] at hj
   rw [upd_same] at hli;cases hli
   rw [upd_ne _ _ hij] at hlj
   exact key j oj lj hj hlj
  ·rw [if_neg h1] at hi
   rw [upd_ne _ _ h1] at hli
   by_cases h2:top=j
   ·subst h2
    rw [upd_same] at hlj;cases hlj
    exact (key i oi li hi hli).symm
   ·rw [if_neg h2] at hj
    rw [upd_ne _ _ h2] at hlj
    exact h.dis i j oi oj li lj hij hi hj hli hlj hw
 lt i l' e:=by
  by_cases hi:top=i
  ·have:=hn.le;omega
  ·rw [upd_ne _ _ hi] at e;exact (h.lt i l' e).imp id (fun h=>by omega)
 keep:=hk
theorem HpR.put (h:HpR P w0 U ρ H top w) {w':World} {i:Nat} {l:Loc} {o o':XbO} (hi:XaD H i=some o) (hl:ρ i=some l) (hw:writable o=true)
 (hk:Keep U w0 w') (ho:XmK P ρ w' l o')
 (hc:∀ b k,¬ (b=l.blk∧l.sh≤k∧k<l.sh+l.ext)→w'.cell? ⟨b,k,none⟩=w.cell? ⟨b,k,none⟩)
 (hf:∀ b k,¬ (b=l.blk∧l.sh≤k∧k<l.sh+l.ext)→w'.frozen? ⟨b,k,none⟩=w.frozen? ⟨b,k,none⟩)
 (hb:∀ b,(∀ c t f,w.heap[b]?≠some (.cells c t f))→¬ (b=l.blk∧l.sh=0∧0<l.ext)→w'.heap[b]?=w.heap[b]?)
 (hT:∀ b x,w.shape? b=some x→w'.shape? b=some x) :
 HpR P w0 U ρ (Xgp H i o') top w' where
 obj j x hx:=by
  rw [Xa1] at hx
  by_cases hij:i=j
  ·subst hij
   rw [if_pos rfl] at hx;cases hx
   obtain ⟨l',hl',hr,hwr⟩:=h.obj i o hi
   rw [hl] at hl';cases hl'
   exact ⟨l,hl,ho,fun _=>hwr hw⟩
  ·rw [if_neg hij] at hx
   obtain ⟨l',hl',hr,hwr⟩:=h.obj j x hx
   have ap:=h.dis i j o x l l' hij hi hx hl hl' hw
   refine ⟨l',hl',hr.stay (Ext.refl ρ) (fun k hk=>hc _ _ fun ⟨e,h1,h2⟩=>ap (l'.sh+k) e.symm h1 h2 (by omega) (by omega))
    (fun k hk=>hf _ _ fun ⟨e,h1,h2⟩=>ap (l'.sh+k) e.symm h1 h2 (by omega) (by omega)) (fun hcell he=>hb _ hcell fun ⟨e,h1,h2⟩=>?_) (fun _ x=>hT _ x),hwr⟩
   have:l'.sh=0:=by
    cases x with
    | cells cs=>
      exfalso
      have:=(hr.2.2 0 he).1
      unfold World.cell? at this
      cases hh:w.heap[l'.blk]? with
      | none=>simp [hh] at this
      | some y=>cases y<;>simp [hh] at this<;>exact hcell _ _ _ hh
    | row own cs=>
      exfalso
      have:=(hr.2.2 0 he).1
      unfold World.cell? at this
      cases hh:w.heap[l'.blk]? with
      | none=>simp [hh] at this
      | some y=>cases y<;>simp [hh] at this<;>exact hcell _ _ _ hh
    | ty t cs=>exact hr.2.1
    | siter=>exact hr.2.1
    | loop=>exact hr.2.1
    | marks=>exact hr.2.1
   exact ap 0 e.symm (by omega) (by omega) (by omega) (by omega)
 dis a b oa ob la lb hab ha hb' hla hlb hwa:=by
  rw [Xa1] at ha hb'
  by_cases h1:i=a
  ·subst h1
   rw [if_neg hab] at hb'
   exact h.dis i b o ob la lb hab hi hb' hla hlb hw
  ·rw [if_neg h1] at ha
   by_cases h2:i=b
   ·subst h2
    exact (h.dis i a o oa lb la (fun e=>h1 e) hi ha hlb hla hw).symm
   ·rw [if_neg h2] at hb'
    exact h.dis a b oa ob la lb hab ha hb' hla hlb hwa
 lt:=h.lt
 keep:=hk
theorem HpR.del (h:HpR P w0 U ρ H top w) (i:Nat):HpR P w0 U ρ (XoP H i) top w where
 obj j x hx:=by
  rw [Xd1] at hx
  by_cases hij:i=j
  ·simp [hij] at hx
  ·rw [if_neg hij] at hx;exact h.obj j x hx
 dis a b oa ob la lb hab ha hb' hla hlb hwa:=by
  rw [Xd1] at ha hb'
  by_cases h1:i=a
  ·simp [h1] at ha
  ·rw [if_neg h1] at ha
   by_cases h2:i=b
   ·simp [h2] at hb'
   ·rw [if_neg h2] at hb';exact h.dis a b oa ob la lb hab ha hb' hla hlb hwa
 lt:=h.lt
 keep:=h.keep
end
theorem VRL.inv {ρ:Ren} {v:Value} {l r:List Value} (h:VRL ρ (v::l) r):∃ v' l',r=v'::l'∧VR ρ v v'∧VRL ρ l l':=by
 cases h with|cons h hl=>exact ⟨_,_,rfl,h,hl⟩
theorem VRL.inv0 {ρ:Ren} {r:List Value} (h:VRL ρ [] r):r=[]:=by cases h;rfl
theorem VRL.inv1 {ρ:Ren} {v:Value} {r:List Value} (h:VRL ρ [v] r):∃ v',r=[v']∧VR ρ v v':=by
 obtain ⟨v',l',rfl,a,b⟩:=h.inv;rw [b.inv0];exact ⟨_,rfl,a⟩
theorem VRL.inv2 {ρ:Ren} {u v:Value} {r:List Value} (h:VRL ρ [u,v] r):∃ u' v',r=[u',v']∧VR ρ u u'∧VR ρ v v':=by
 obtain ⟨u',l',rfl,a,b⟩:=h.inv;obtain ⟨v',rfl,c⟩:=b.inv1;exact ⟨_,_,rfl,a,c⟩
theorem VRL.inv3 {ρ:Ren} {u v x:Value} {r:List Value} (h:VRL ρ [u,v,x] r):∃ u' v' x',r=[u',v',x']∧VR ρ u u'∧VR ρ v v'∧VR ρ x x':=by
 obtain ⟨u',l',rfl,a,b⟩:=h.inv;obtain ⟨v',x',rfl,c,d⟩:=b.inv2;exact ⟨_,_,_,rfl,a,c,d⟩
section
variable (P:Program) (w0:World) (U:UG) (ρ:Ren)
def Done (o:Oper) (a:Operand→Value) (w:World) (v:Option Value) (H':Hp) (top':Nat):Prop:=
 ∃ (ρ':Ren) (w':World) (nx:Next),(execOp a o).run P w=.ok nx w'∧Ext ρ ρ'∧HpR P w0 U ρ' H' top' w' ∧
  match v with
  | some v=>∃ v',nx=.value v'∧VR ρ' v v'
  | none=>nx=.skip
end
section
variable {P:Program} {w0:World} {U:UG} {ρ:Ren} {o:Oper} {a:Operand→Value} {w:World} {H:Hp} {top:Nat} [NG U top]
theorem Done.pure {P:Program} {w0:World} {U:UG} {ρ:Ren} {o:Oper} {a:Operand→Value} {w:World} {H:Hp} {top:Nat} (h:HpR P w0 U ρ H top w) {v v':Value} (hr:(execOp a o).run P w=.ok (.value v') w) (hv:VR ρ v v'):Done P w0 U ρ o a w (some v) H top:=
 ⟨ρ,w,_,hr,Ext.refl ρ,h,_,rfl,hv⟩
theorem Done.fresh (h:HpR P w0 U ρ H top w) {v v':Value} {w':World} {ob:XbO} {ext:Nat} (hr:(execOp a o).run P w=.ok (.value v') w')
 (hk:Keep U w0 w') (hb:∀ k,k<w.heap.size→w'.heap[k]?=w.heap[k]?)
 (ho:XmK P (upd ρ top ⟨w.heap.size,0,ext⟩) w' ⟨w.heap.size,0,ext⟩ ob) (hv:VR (upd ρ top ⟨w.heap.size,0,ext⟩) v v') :
 Done P w0 U ρ o a w (some v) (Xgp H top ob) (top+1):=
 ⟨_,w',_,hr,Ext.upd (h.XoV),h.new hk hb ho (.inl (Nat.le_refl _)),_,rfl,hv⟩
theorem XfA {t:TypeId} {i:TypeInfo} (h:P.info? t=some i):P.cellsOf t=i.size:=by simp [Program.cellsOf,h]
theorem XdR {t:TypeId} {i:TypeInfo} (h:P.info? t=some i) (w:World):(sizeOf t).run P w=.ok i.size w:=by
 rw [run_sizeOf (w:=w) h,XfA h]
theorem Xd0 {t:TypeId} {i:TypeInfo} {z:Value} (h:P.info? t=some i) (hz:i.zero=some z) (w:World):(zeroValue t).run P w=.ok z w:=by
 simp [zeroValue,run_typeInfo (w:=w) h,hz]
theorem Xfx {t:TypeId} {d:TypeDesc} (h:P.underlying t=some d) (w:World):(isAgg t).run P w=.ok (Xgb P t) w:=by
 unfold isAgg Xgb
 simp only [Sem.run_bind,run_underlying h,Result.andThen_ok,h]
 cases d<;>rfl
theorem Xmb (ρ:Ren) (z:Value) (h:Xbm z=true):VRL ρ (XaX z) (XaX z):=by
 cases z with
 | agg cs=>obtain ⟨l⟩:=cs;exact VRL.flat ρ l (by simpa [Xbm] using h)
 | _=>exact .cons (VR.flat ρ _ h) .nil
theorem VR.one {ρ:Ren} {v v':Value} (h:VR ρ v v'):Xij v=Xij v':=by
 cases h<;>first|rfl|(rename_i h;exact h.symm)|(rename_i hv;rcases hv with ⟨_,rfl⟩|⟨c,rfl,_⟩<;>rfl)
theorem VR.cells {ρ:Ren} {v v':Value} (h:VR ρ v v'):VRL ρ (XaX v) (XaX v'):=by
 cases h with
 | agg h=>simpa [XaX,Value.cells] using h
 | junk k n h=>
   have:XaX v'=[v']:=by cases v'<;>first|rfl|simp [Xij] at h
   rw [this];exact .cons (.junk k n h) .nil
 | tsl m h hv=>
   have:XaX v'=[v']:=by rcases hv with ⟨_,rfl⟩|⟨c,rfl,_⟩<;>rfl
   rw [this];exact .cons (.tsl m h hv) .nil
 | _=>all_goals (refine .cons ?_ .nil;constructor<;>assumption)
end
end Go.Vm
namespace Go.Vm
open Go Go.RowKit
section
variable {P:Program} {w0:World} {U:UG} {ρ:Ren} {o:Oper} {a:Operand→Value} {w:World} {H:Hp} {top:Nat} [NG U top]
 {x:Option Value} {H':Hp} {top':Nat} {vals:List Value}
theorem XlZ {v:VOp} (hn:needs v vals=[]) (hr:XcM v vals H top=some (x,H',top')) :
 ∃ r,core v vals [] top=some r∧x=r.v∧((r.fresh=none∧H'=H∧top'=top)∨(∃ ob,r.fresh=some ob∧H'=Xgp H top ob∧top'=top+1)):=by
 simp only [XcM,hn,Xjh] at hr
 cases hc:core v vals [] top with
 | none=>simp [hc] at hr
 | some r=>
   obtain ⟨rv,ro,rf⟩:=r
   simp only [hc] at hr
   refine ⟨_,rfl,?_⟩
   cases rf with
   | none=>simp only [Option.some.injEq,Prod.mk.injEq] at hr;obtain ⟨rfl,rfl,rfl⟩:=hr;exact ⟨rfl,.inl ⟨rfl,by cases ro<;>rfl,rfl⟩⟩
   | some ob=>simp only [Option.some.injEq,Prod.mk.injEq] at hr;obtain ⟨rfl,rfl,rfl⟩:=hr;exact ⟨rfl,.inr ⟨ob,rfl,by cases ro<;>rfl,rfl⟩⟩
theorem XdW (h:HpR P w0 U ρ H top w) {v:VOp} (hn:needs v vals=[]) (hr:XcM v vals H top=some (x,H',top'))
 (key:∀ r,core v vals [] top=some r→∃ u u',r=⟨some u,[],none⟩∧(execOp a o).run P w=.ok (.value u') w∧VR ρ u u') :
 Done P w0 U ρ o a w x H' top':=by
 obtain ⟨r,hc,rfl,hh⟩:=XlZ hn hr
 obtain ⟨u,u',rfl,hrun,hv⟩:=key r hc
 rcases hh with ⟨_,rfl,rfl⟩|⟨ob,e,_⟩
 ·exact Done.pure h hrun hv
 ·cases e
theorem Xb2 {v:Value} {r:XdQ} (h:val v=some r):r=⟨some v,[],none⟩:=by simpa [val] using h.symm
theorem XUz (h:HpR P w0 U ρ H top w) {y:Operand} (he:execOp a o=pure (.value (a y))) (hv:VRL ρ vals [a y])
 (hr:XcM (.mv y) vals H top=some (x,H',top')):Done P w0 U ρ o a w x H' top':=by
 refine XdW h rfl hr fun r hc=>?_
 cases hv with|cons hv hl=>
 cases hl
 simp only [core] at hc
 exact ⟨_,_,Xb2 hc,by rw [he];rfl,hv⟩
theorem XKv (h:HpR P w0 U ρ H top w) {c y z:Operand} (ho:o.op=.pick c y z) (hv:VRL ρ vals [a c,a y,a z])
 (hr:XcM (.pick c y z) vals H top=some (x,H',top')):Done P w0 U ρ o a w x H' top':=by
 refine XdW h rfl hr fun r hc=>?_
 change XsQ vals []=some r at hc
 unfold XsQ at hc;split at hc
 ·obtain ⟨v1,v2,v3,e,h1,h2,h3⟩:=hv.inv3
  cases h1
  simp only [List.cons.injEq,and_true] at e
  obtain ⟨e1,rfl,rfl⟩:=e
  rename_i b _ _ _
  refine ⟨_,if b then a y else a z,Xb2 hc,?_,by cases b<;>simpa⟩
  simp [execOp,ho,asBool,e1]
 ·cases hc
theorem Xux (h:HpR P w0 U ρ H top w) {y:Operand} (ho:o.op=.nilCheck y) (hv:VRL ρ vals [a y])
 (hr:XcM (.nilCheck y) vals H top=some (x,H',top')):Done P w0 U ρ o a w x H' top':=by
 refine XdW h rfl hr fun r hc=>?_
 change Xl1 vals []=some r at hc
 obtain ⟨y',hy⟩:∃ y',y'=a y:=⟨_,rfl⟩
 rw [←hy] at hv
 unfold Xl1 at hc;split at hc
 all_goals first
  | (cases hc;done)
  | (obtain ⟨v1,e,h1⟩:=hv.inv1
     simp only [List.cons.injEq,and_true] at e
     subst e
     refine ⟨_,y',Xb2 hc,?_,h1⟩
     cases h1<;>simp [execOp,ho,←hy])
theorem XM9 {op:BinOp} {u v r:Value} (hb:Xwj op u v=some r) (t:TypeId):(Go.binOp op t u v).run P w=.ok r w:=by
 unfold Xwj at hb
 split at hb
 ·rename_i k p k' q
  split at hb
  ·split at hb
   ·cases hb;rename_i h0;simp [Go.binOp,Op.shift,show ¬ q<0 by omega]
   ·cases hb
  ·split at hb
   ·cases hb;rename_i h0;simp [Go.binOp,Op.shift,show ¬ q<0 by omega]
   ·cases hb
  ·split at hb
   ·rename_i hk;subst hk
    cases op<;>simp only at hb<;>first
     | (cases hb;simp [Go.binOp,Op.intArith,Op.intBits,Op.intCmp];done)
     | (split at hb<;>first|(cases hb;done)|(cases hb;rename_i h0;simp [Go.binOp,Op.intDiv,h0];done))
     | simp_all
   ·cases hb
 ·rename_i p q
  split at hb
  ·split at hb
   ·cases hb
    rename_i h0
    have hm:IntKind.i64.max=2^63 - 1:=rfl
    have e1:¬ IntKind.i64.max<((p.size+q.size:Nat):Int):=by
     have:p.size=p.data.toList.length:=by simp
     have:q.size=q.data.toList.length:=by simp
     rw [hm];omega
    have e2:p++q=⟨⟨p.data.toList++q.data.toList⟩⟩:=by
     apply ByteArray.ext
     simp
    simp only [Go.binOp,Op.stringOp,gt_iff_lt,if_neg e1,e2];rfl
   ·cases hb
  ·cases hb;simp [Go.binOp,Op.stringOp,ByteArray.toList_eq]
  ·cases hb;simp [Go.binOp,Op.stringOp,ByteArray.toList_eq]
  ·cases hb;simp [Go.binOp,Op.stringOp,ByteArray.toList_eq]
  ·cases hb
 ·cases hb
theorem XIX (h:HpR P w0 U ρ H top w) {op:BinOp} {t u:TypeId} {y z:Operand} (ho:o.op=.binOp op t y z u) (hv:VRL ρ vals [a y,a z])
 (hr:XcM (.bin op y z) vals H top=some (x,H',top')):Done P w0 U ρ o a w x H' top':=by
 refine XdW h rfl hr fun r hc=>?_
 change XuG op vals []=some r at hc
 unfold XuG at hc;split at hc
 ·rename_i p q _
  split at hc
  ·rename_i v hb
   obtain ⟨v1,v2,e,h1,h2⟩:=hv.inv2
   simp only [List.cons.injEq,and_true] at e
   obtain ⟨e1,e2⟩:=e
   have key:v1=p∧v2=q∧Xbm v=true:=by
    unfold Xwj at hb
    split at hb
    ·cases h1;cases h2;refine ⟨rfl,rfl,?_⟩
     split at hb
     ·split at hb<;>first|(cases hb;done)|(cases hb;rfl)
     ·split at hb<;>first|(cases hb;done)|(cases hb;rfl)
     ·split at hb
      ·cases op<;>simp only at hb<;>first|(cases hb;done)|(cases hb;rfl)|(split at hb<;>first|(cases hb;done)|(cases hb;rfl))
      ·cases hb
    ·cases h1;cases h2;refine ⟨rfl,rfl,?_⟩
     split at hb<;>first|(cases hb;done)|(cases hb;rfl)|(split at hb<;>first|(cases hb;done)|(cases hb;rfl))
    ·cases hb
   obtain ⟨rfl,rfl,hf⟩:=key
   refine ⟨_,v,Xb2 hc,?_,VR.flat ρ v hf⟩
   have hg:(eqGuard op t y z v1 v2).run P w=.ok () w:=by
    unfold eqGuard
    cases v1<;>cases v2<;>first
     | (simp [Xwj] at hb;done)
     | (cases op<;>rfl)
   simp [execOp,ho,e1,e2,hg,XM9 hb t]
  ·cases hc
 ·cases hc
theorem run_equalIn_bool (d:Nat) {t:TypeId} (ht:P.underlying t=some .bool) (p q:Bool):(Op.equalIn (d+1) t (.bool p) (.bool q)).run P w=.ok (p==q) w:=by
 simp only [Op.equalIn,Sem.run_bind,run_underlying ht,Result.andThen_ok];rfl
theorem run_equal_bool {t:TypeId} (ht:P.underlying t=some .bool) (p q:Bool):(Op.equal t (.bool p) (.bool q)).run P w=.ok (p==q) w:=run_equalIn_bool 9999 ht p q
theorem XJE (h:HpR P w0 U ρ H top w) {neg:Bool} {t u:TypeId} {y z:Operand} (ho:o.op=.binOp (if neg then .neq else .eql) t y z u) (ht:P.underlying t=some .bool)
 (hv:VRL ρ vals [a y,a z]) (hr:XcM (.eqB neg y z) vals H top=some (x,H',top')):Done P w0 U ρ o a w x H' top':=by
 refine XdW h rfl hr fun r hc=>?_
 change XFr neg vals []=some r at hc
 unfold XFr at hc;split at hc
 ·rename_i p q _
  obtain ⟨v1,v2,e,h1,h2⟩:=hv.inv2
  simp only [List.cons.injEq,and_true] at e
  obtain ⟨e1,e2⟩:=e
  cases h1;cases h2
  refine ⟨_,_,Xb2 hc,?_,.bool _⟩
  cases neg
  ·simp only [execOp,ho,e1,e2]
   show (do let x ←(do (eqGuard .eql t y z (.bool p) (.bool q));(do pure (Value.bool (←Op.equal t (.bool p) (.bool q)))):Sem Value);pure (Next.value x):Sem Next).run P w=_
   simp [eqGuard,run_equal_bool ht]
  ·simp only [execOp,ho,e1,e2]
   show (do let x ←(do (eqGuard .neq t y z (.bool p) (.bool q));(do pure (Value.bool (!(←Op.equal t (.bool p) (.bool q))))):Sem Value);pure (Next.value x):Sem Next).run P w=_
   simp [eqGuard,run_equal_bool ht]
 ·cases hc
theorem XSG (h:HpR P w0 U ρ H top w) {t:TypeId} {y:Operand} (ho:o.op=.unOp .not t y) (hv:VRL ρ vals [a y])
 (hr:XcM (.not y) vals H top=some (x,H',top')):Done P w0 U ρ o a w x H' top':=by
 refine XdW h rfl hr fun r hc=>?_
 change XHk vals []=some r at hc
 unfold XHk at hc;split at hc
 ·obtain ⟨v1,e,h1⟩:=hv.inv1
  simp only [List.cons.injEq,and_true] at e
  cases h1
  exact ⟨_,_,Xb2 hc,by simp [execOp,ho,e,Op.unary],.bool _⟩
 ·cases hc
theorem XT3 (h:HpR P w0 U ρ H top w) {t:TypeId} {y:Operand} (ho:o.op=.unOp .neg t y) (hv:VRL ρ vals [a y])
 (hr:XcM (.neg y) vals H top=some (x,H',top')):Done P w0 U ρ o a w x H' top':=by
 refine XdW h rfl hr fun r hc=>?_
 change XDQ vals []=some r at hc
 unfold XDQ at hc;split at hc
 ·obtain ⟨v1,e,h1⟩:=hv.inv1
  simp only [List.cons.injEq,and_true] at e
  cases h1
  exact ⟨_,_,Xb2 hc,by simp [execOp,ho,e,Op.unary,Op.intArith],.int _ _⟩
 ·cases hc
theorem XNy (h:HpR P w0 U ρ H top w) {t:TypeId} {y:Operand} (ho:o.op=.unOp .xor t y) (hv:VRL ρ vals [a y])
 (hr:XcM (.cmpl y) vals H top=some (x,H',top')):Done P w0 U ρ o a w x H' top':=by
 refine XdW h rfl hr fun r hc=>?_
 change XvY vals []=some r at hc
 unfold XvY at hc;split at hc
 ·obtain ⟨v1,e,h1⟩:=hv.inv1
  simp only [List.cons.injEq,and_true] at e
  cases h1
  exact ⟨_,_,Xb2 hc,by simp [execOp,ho,e,Op.unary,Op.intBits],.int _ _⟩
 ·cases hc
theorem XKt (h:HpR P w0 U ρ H top w) {s t:TypeId} {k:IntKind} {d:TypeDesc} {y:Operand} (ho:o.op=.convert s t y) (hs:P.underlying s=some d) (ht:P.underlying t=some (.int k)) (hv:VRL ρ vals [a y])
 (hr:XcM (.conv k y) vals H top=some (x,H',top')):Done P w0 U ρ o a w x H' top':=by
 refine XdW h rfl hr fun r hc=>?_
 change Xv2 k vals []=some r at hc
 unfold Xv2 at hc;split at hc
 ·obtain ⟨v1,e,h1⟩:=hv.inv1
  simp only [List.cons.injEq,and_true] at e
  cases h1
  exact ⟨_,_,Xb2 hc,by simp [execOp,ho,e,Go.convert,run_underlying hs,run_underlying ht,Conv.intToInt],.int _ _⟩
 ·cases hc
theorem XWD (h:HpR P w0 U ρ H top w) {s t:TypeId} {y:Operand} (ho:o.op=.convert s t y) (hs:P.underlying s=some .string) (ht:P.underlying t=some .string) (hv:VRL ρ vals [a y])
 (hr:XcM (.s2s y) vals H top=some (x,H',top')):Done P w0 U ρ o a w x H' top':=by
 refine XdW h rfl hr fun r hc=>?_
 change XFN vals []=some r at hc
 unfold XFN at hc;split at hc
 ·obtain ⟨v1,e,h1⟩:=hv.inv1
  simp only [List.cons.injEq,and_true] at e
  cases h1
  exact ⟨_,_,Xb2 hc,by simp [execOp,ho,e,Go.convert,run_underlying hs,run_underlying ht],.string _⟩
 ·cases hc
theorem XS2 (h:HpR P w0 U ρ H top w) {s t:TypeId} {k:IntKind} {y:Operand} (ho:o.op=.convert s t y) (hs:P.underlying s=some (.int k)) (ht:P.underlying t=some .string) (hv:VRL ρ vals [a y])
 (hr:XcM (.r2s y) vals H top=some (x,H',top')):Done P w0 U ρ o a w x H' top':=by
 refine XdW h rfl hr fun r hc=>?_
 change XDo vals []=some r at hc
 unfold XDo at hc;split at hc
 ·obtain ⟨v1,e,h1⟩:=hv.inv1
  simp only [List.cons.injEq,and_true] at e
  cases h1
  exact ⟨_,_,Xb2 hc,by simp [execOp,ho,e,Go.convert,run_underlying hs,run_underlying ht,Conv.intToString,encR],.string _⟩
 ·cases hc
theorem XGJ (h:HpR P w0 U ρ H top w) {t:TypeId} {y:Operand} {d:TypeDesc} (ho:o.op=.makeInterface t y) (ht:P.underlying t=some d) (hd:∀ ms,d≠.interface ms) (hv:VRL ρ vals [a y])
 (hr:XcM (.iface t y) vals H top=some (x,H',top')):Done P w0 U ρ o a w x H' top':=by
 refine XdW h rfl hr fun r hc=>?_
 change XrH t vals []=some r at hc
 unfold XrH at hc;split at hc
 ·obtain ⟨v1,e,h1⟩:=hv.inv1
  simp only [List.cons.injEq,and_true] at e
  subst e
  refine ⟨_,_,Xb2 hc,?_,.iface _ h1⟩
  simp only [execOp,ho,Instr.makeInterface,Sem.run_bind,run_underlying ht,Result.andThen_ok]
  cases d<;>first|rfl|exact absurd rfl (hd _)
 ·cases hc
theorem XwQ (h:HpR P w0 U ρ H top w) {t s:TypeId} {z:Value} {y:Operand} {d:TypeDesc} {i:TypeInfo} (ho:o.op=.typeAssert y s t true) (ht:P.underlying t=some d) (hd:∀ ms,d≠.interface ms)
 (hi:P.info? t=some i) (hz:i.zero=some z) (hf:Xbm z=true) (hv:VRL ρ vals [a y])
 (hr:XcM (.tassert t z y) vals H top=some (x,H',top')):Done P w0 U ρ o a w x H' top':=by
 refine XdW h rfl hr fun r hc=>?_
 change Xno t z vals []=some r at hc
 unfold Xno at hc;split at hc
 ·rename_i t' v _
  obtain ⟨v1,e,h1⟩:=hv.inv1
  simp only [List.cons.injEq,and_true] at e
  cases h1
  rename_i v' h1
  split at hc
  ·rename_i htt
   refine ⟨_,.tuple #[v',.bool true],Xb2 hc,?_,.tuple (.cons h1 (.cons (.bool _) .nil))⟩
   simp only [execOp,ho,Instr.typeAssert,e,Sem.run_bind,run_underlying ht,Result.andThen_ok]
   cases d<;>first|exact absurd rfl (hd _)|(simp [htt];done)
  ·rename_i htt
   refine ⟨_,.tuple #[z,.bool false],Xb2 hc,?_,.tuple (.cons (VR.flat ρ z hf) (.cons (.bool _) .nil))⟩
   simp only [execOp,ho,Instr.typeAssert,e,Sem.run_bind,run_underlying ht,Result.andThen_ok]
   cases d<;>first|exact absurd rfl (hd _)|(simp [htt,Xd0 hi hz];done)
 ·obtain ⟨v1,e,h1⟩:=hv.inv1
  simp only [List.cons.injEq,and_true] at e
  cases h1
  refine ⟨_,.tuple #[z,.bool false],Xb2 hc,?_,.tuple (.cons (VR.flat ρ z hf) (.cons (.bool _) .nil))⟩
  simp only [execOp,ho,Instr.typeAssert,e,Sem.run_bind,run_underlying ht,Result.andThen_ok]
  cases d<;>first|exact absurd rfl (hd _)|(simp [Xd0 hi hz];done)
 ·cases hc
theorem XBy (h:HpR P w0 U ρ H top w) {f:Nat} {fs cs:Array Operand} (ho:o.op=.makeFunc (.func f) fs cs) (hv:VRL ρ vals ((fs.toList++cs.toList).map a))
 (hr:XcM (.mkFunc f fs.toList cs.toList) vals H top=some (x,H',top')):Done P w0 U ρ o a w x H' top':=by
 refine XdW h rfl hr fun r hc=>?_
 change Xpn f fs.toList.length vals []=some r at hc
 unfold Xpn at hc;split at hc
 ·refine ⟨_,.func (.func f) (fs.map a) (cs.map a),Xb2 hc,by simp [execOp,ho,Instr.makeFunc],?_⟩
  have e1:fs.map a=⟨((fs.toList++cs.toList).map a).take fs.toList.length⟩:=by
   apply Array.ext';simp
  have e2:cs.map a=⟨((fs.toList++cs.toList).map a).drop fs.toList.length⟩:=by
   apply Array.ext';simp
  rw [e1,e2]
  exact .func f (hv.take _) (hv.drop _)
 ·rename_i hx;exact absurd rfl hx
theorem XwE (h:HpR P w0 U ρ H top w) {i:Nat} {y:Operand} (ho:o.op=.extract y i) (hv:VRL ρ vals [a y])
 (hr:XcM (.extract i y) vals H top=some (x,H',top')):Done P w0 U ρ o a w x H' top':=by
 refine XdW h rfl hr fun r hc=>?_
 change Xnv i vals []=some r at hc
 unfold Xnv at hc;split at hc
 ·obtain ⟨v1,e,h1⟩:=hv.inv1
  simp only [List.cons.injEq,and_true] at e
  cases h1
  rename_i h1
  split at hc
  ·rename_i v hg
   obtain ⟨v',g',hvr⟩:=h1.get hg
   exact ⟨_,v',Xb2 hc,by simp [execOp,ho,e,Instr.extract,g'],hvr⟩
  ·cases hc
 ·cases hc
theorem XMu (h:HpR P w0 U ρ H top w) {t:TypeId} {y:Operand} (ho:o.op=.call ⟨.builtin .len,#[y],#[t]⟩) (ht:P.underlying t=some .string) (hv:VRL ρ vals [a y])
 (hr:XcM (.lenS y) vals H top=some (x,H',top')):Done P w0 U ρ o a w x H' top':=by
 refine XdW h rfl hr fun r hc=>?_
 change XvT vals []=some r at hc
 unfold XvT at hc;split at hc
 ·obtain ⟨v1,e,h1⟩:=hv.inv1
  simp only [List.cons.injEq,and_true] at e
  cases h1
  refine ⟨_,_,Xb2 hc,?_,.int _ _⟩
  simp [execOp,ho,resolve,invoke,Go.builtin,Builtin.len_,e,run_underlying ht,goInt]
 ·cases hc
theorem XPa (h:HpR P w0 U ρ H top w) {t e:TypeId} {y:Operand} (ho:o.op=.call ⟨.builtin .len,#[y],#[t]⟩) (ht:P.underlying t=some (.slice e)) (hv:VRL ρ vals [a y])
 (hr:XcM (.lenL y) vals H top=some (x,H',top')):Done P w0 U ρ o a w x H' top':=by
 refine XdW h rfl hr fun r hc=>?_
 change Xwd vals []=some r at hc
 unfold Xwd at hc;split at hc
 ·obtain ⟨v1,e,h1⟩:=hv.inv1
  simp only [List.cons.injEq,and_true] at e
  refine ⟨_,_,Xb2 hc,?_,.int _ _⟩
  cases h1<;>simp [execOp,ho,resolve,invoke,Go.builtin,Builtin.len_,e,run_underlying ht,goInt]
 ·obtain ⟨v1,e,h1⟩:=hv.inv1
  simp only [List.cons.injEq,and_true] at e
  refine ⟨_,_,Xb2 hc,?_,.int _ _⟩
  cases h1 with
  | tnil=>simp [execOp,ho,resolve,invoke,Go.builtin,Builtin.len_,e,run_underlying ht,goInt]
  | tsl m h hv'=>
    rcases hv' with ⟨rfl,rfl⟩|⟨c,rfl,_⟩<;>simp [execOp,ho,resolve,invoke,Go.builtin,Builtin.len_,e,run_underlying ht,goInt]
 ·cases hc
theorem XBt (h:HpR P w0 U ρ H top w) {t:TypeId} {n:Nat} {e:TypeId} {y:Operand} (ho:o.op=.call ⟨.builtin .len,#[y],#[t]⟩) (ht:P.underlying t=some (.array n e)∨∃ q,P.underlying t=some (.pointer q)∧P.underlying q=some (.array n e)) (hv:VRL ρ vals [])
 (hr:XcM (.lenN n) vals H top=some (x,H',top')):Done P w0 U ρ o a w x H' top':=by
 refine XdW h rfl hr fun r hc=>?_
 change Xva n vals []=some r at hc
 unfold Xva at hc;split at hc
 ·refine ⟨_,_,Xb2 hc,?_,.int _ _⟩
  rcases ht with ht|⟨q,ht,hq⟩
  ·simp only [execOp,ho,resolve,invoke,Go.builtin,Builtin.len_,Sem.run_bind,Sem.run_pure,Result.andThen_ok,List.map_toArray,List.map,List.getElem?_toArray,List.getElem?_cons_zero,run_underlying ht]
   cases a y<;>rfl
  ·simp only [execOp,ho,resolve,invoke,Go.builtin,Builtin.len_,Sem.run_bind,Sem.run_pure,Result.andThen_ok,List.map_toArray,List.map,List.getElem?_toArray,List.getElem?_cons_zero,run_underlying ht]
   cases a y<;>simp [run_underlying hq,goInt]
 ·cases hc
theorem Xz8 (h:HpR P w0 U ρ H top w) {t:TypeId} {fs:Array Field} {fd:Field} {f:Nat} {i:TypeInfo} {y:Operand} (ho:o.op=.fieldAddr t y f) (ht:P.underlying t=some (.struct fs)) (hf:fs[f]?=some fd)
 (hi:P.info? fd.type=some i) (hs:i.size≠0) (hv:VRL ρ vals [a y]) (hr:XcM (.fieldA fd.offset y) vals H top=some (x,H',top')):Done P w0 U ρ o a w x H' top':=by
 refine XdW h rfl hr fun r hc=>?_
 change Xpe fd.offset vals []=some r at hc
 unfold Xpe at hc;split at hc
 ·obtain ⟨v1,e,h1⟩:=hv.inv1
  simp only [List.cons.injEq,and_true] at e
  cases h1
  rename_i q _ l hl
  refine ⟨_,.pointer (some ⟨l.blk,l.sh+(q+fd.offset),none⟩),Xb2 hc,?_,.ptr hl⟩
  simp only [execOp,ho,Instr.fieldAt,e,Sem.run_bind,run_underlying ht,Result.andThen_ok,hf,Instr.sureAddr,fieldPlace,Sem.run_pure,XdR hi,hs,↓reduceIte,Addr.add]
  by_cases h0:fd.offset=0<;>simp [h0,Nat.add_assoc]
 ·cases hc
theorem XEw (h:HpR P w0 U ρ H top w) {t:TypeId} {fs:Array Field} {fd:Field} {f:Nat} {d:TypeDesc} {y:Operand} (ho:o.op=.field t y f) (ht:P.underlying t=some (.struct fs)) (hf:fs[f]?=some fd)
 (hd:P.underlying fd.type=some d) (ha:Xgb P fd.type=false) (hv:VRL ρ vals [a y]) (hr:XcM (.part1 fd.offset y) vals H top=some (x,H',top')):Done P w0 U ρ o a w x H' top':=by
 refine XdW h rfl hr fun r hc=>?_
 change Xsm fd.offset vals []=some r at hc
 unfold Xsm at hc;split at hc
 ·obtain ⟨v1,e,h1⟩:=hv.inv1
  simp only [List.cons.injEq,and_true] at e
  cases h1
  rename_i h1
  split at hc
  ·rename_i v hg
   obtain ⟨v',g',hvr⟩:=h1.get hg
   refine ⟨_,v',Xb2 hc,?_,hvr⟩
   simp [execOp,ho,Instr.field,e,run_underlying ht,hf,asAgg,part,Xfx hd,ha,g']
  ·cases hc
 ·cases hc
theorem XHK (h:HpR P w0 U ρ H top w) {t:TypeId} {fs:Array Field} {fd:Field} {f:Nat} {i:TypeInfo} {d:TypeDesc} {y:Operand} (ho:o.op=.field t y f) (ht:P.underlying t=some (.struct fs)) (hf:fs[f]?=some fd)
 (hd:P.underlying fd.type=some d) (hi:P.info? fd.type=some i) (ha:Xgb P fd.type=true) (hv:VRL ρ vals [a y]) (hr:XcM (.partN fd.offset i.size y) vals H top=some (x,H',top')):Done P w0 U ρ o a w x H' top':=by
 refine XdW h rfl hr fun r hc=>?_
 change XrM fd.offset i.size vals []=some r at hc
 unfold XrM at hc;split at hc
 ·obtain ⟨v1,e,h1⟩:=hv.inv1
  simp only [List.cons.injEq,and_true] at e
  cases h1
  rename_i cs' h1
  split at hc
  ·refine ⟨_,.agg ⟨(cs'.drop fd.offset).take i.size⟩,Xb2 hc,?_,.agg ((h1.drop _).take _)⟩
   simp [execOp,ho,Instr.field,e,run_underlying ht,hf,asAgg,part,Xfx hd,ha,XdR hi]
  ·cases hc
 ·cases hc
theorem XGz (h:HpR P w0 U ρ H top w) {t e:TypeId} {n:Nat} {j:TypeInfo} {y z:Operand} (ho:o.op=.indexAddr t y z) (ht:P.underlying t=some (.array n e)) (hj:P.info? e=some j)
 (hv:VRL ρ vals [a y,a z]) (hr:XcM (.idxAA n j.size y z) vals H top=some (x,H',top')):Done P w0 U ρ o a w x H' top':=by
 refine XdW h rfl hr fun r hc=>?_
 change Xn8 n j.size vals []=some r at hc
 unfold Xn8 at hc;split at hc
 ·obtain ⟨v1,v2,e,h1,h2⟩:=hv.inv2
  simp only [List.cons.injEq,and_true] at e
  cases h1;cases h2
  rename_i b q k i _ l hl
  split at hc
  ·rename_i hin
   refine ⟨_,.pointer (some ⟨l.blk,l.sh+(q+i.toNat*j.size),none⟩),Xb2 hc,?_,.ptr hl⟩
   simp only [execOp,ho,Instr.indexAt,e.1,e.2,asIntOf,Sem.run_bind,Sem.run_pure,run_underlying ht,Result.andThen_ok,Instr.sureAddr,if_pos hin,XdR hj,Addr.add]
   by_cases h0:i.toNat*j.size=0<;>simp [h0,Nat.add_assoc]
  ·cases hc
 ·cases hc
theorem XEU (h:HpR P w0 U ρ H top w) {t e:TypeId} {j:TypeInfo} {y z:Operand} (ho:o.op=.indexAddr t y z) (ht:P.underlying t=some (.slice e)) (hj:P.info? e=some j)
 (hv:VRL ρ vals [a y,a z]) (hr:XcM (.idxAL j.size y z) vals H top=some (x,H',top')):Done P w0 U ρ o a w x H' top':=by
 refine XdW h rfl hr fun r hc=>?_
 change Xoz j.size vals []=some r at hc
 unfold Xoz at hc;split at hc
 ·obtain ⟨v1,v2,e,h1,h2⟩:=hv.inv2
  simp only [List.cons.injEq,and_true] at e
  cases h2
  cases h1
  ·rename_i b q n sz k i _ c l hl hn hcap
   split at hc
   ·rename_i hin
    refine ⟨_,.pointer (some ⟨l.blk,l.sh+(q+i.toNat*j.size),none⟩),Xb2 hc,?_,.ptr hl⟩
    simp only [execOp,ho,Instr.indexAt,e.1,e.2,asIntOf,Sem.run_bind,Sem.run_pure,run_underlying ht,Result.andThen_ok,if_pos hin,XdR hj,Addr.add]
    by_cases h0:i.toNat*j.size=0<;>simp [h0,Nat.add_assoc]
   ·cases hc
  ·split at hc
   ·omega
   ·cases hc
 ·cases hc
theorem XE0 (h:HpR P w0 U ρ H top w) {t e:TypeId} {n:Nat} {j:TypeInfo} {d:TypeDesc} {y z:Operand} (ho:o.op=.index t y z) (ht:P.underlying t=some (.array n e)) (hj:P.info? e=some j)
 (hd:P.underlying e=some d) (ha:Xgb P e=false) (h1j:j.size=1) (hv:VRL ρ vals [a y,a z]) (hr:XcM (.idxV1 n y z) vals H top=some (x,H',top')):Done P w0 U ρ o a w x H' top':=by
 refine XdW h rfl hr fun r hc=>?_
 change Xn3 n vals []=some r at hc
 unfold Xn3 at hc;split at hc
 ·obtain ⟨v1,v2,e,h1,h2⟩:=hv.inv2
  simp only [List.cons.injEq,and_true] at e
  cases h1;cases h2
  rename_i h1
  split at hc
  ·rename_i hin
   split at hc
   ·rename_i v hg
    obtain ⟨v',g',hvr⟩:=h1.get hg
    refine ⟨_,v',Xb2 hc,?_,hvr⟩
    simp [execOp,ho,Instr.index,e.1,e.2,asIntOf,run_underlying ht,hin,XdR hj,h1j,part,Xfx hd,ha,g']
   ·cases hc
  ·cases hc
 ·cases hc
theorem XD8 (h:HpR P w0 U ρ H top w) {t e:TypeId} {n:Nat} {j:TypeInfo} {d:TypeDesc} {y z:Operand} (ho:o.op=.index t y z) (ht:P.underlying t=some (.array n e)) (hj:P.info? e=some j)
 (hd:P.underlying e=some d) (ha:Xgb P e=true) (hv:VRL ρ vals [a y,a z]) (hr:XcM (.idxVN n j.size y z) vals H top=some (x,H',top')):Done P w0 U ρ o a w x H' top':=by
 refine XdW h rfl hr fun r hc=>?_
 change Xoq n j.size vals []=some r at hc
 unfold Xoq at hc;split at hc
 ·obtain ⟨v1,v2,e,h1,h2⟩:=hv.inv2
  simp only [List.cons.injEq,and_true] at e
  cases h1;cases h2
  rename_i cs k i _ cs' h1
  split at hc
  ·rename_i hin
   refine ⟨_,.agg ⟨(cs'.drop (i.toNat*j.size)).take j.size⟩,Xb2 hc,?_,.agg ((h1.drop _).take _)⟩
   simp [execOp,ho,Instr.index,e.1,e.2,asIntOf,run_underlying ht,hin.1,hin.2.1,XdR hj,part,Xfx hd,ha]
  ·cases hc
 ·cases hc
theorem XMP (h:HpR P w0 U ρ H top w) {t:TypeId} {y z:Operand} (ho:o.op=.index t y z) (ht:P.underlying t=some .string)
 (hv:VRL ρ vals [a y,a z]) (hr:XcM (.idxS y z) vals H top=some (x,H',top')):Done P w0 U ρ o a w x H' top':=by
 refine XdW h rfl hr fun r hc=>?_
 change XqQ vals []=some r at hc
 unfold XqQ at hc;split at hc
 ·obtain ⟨v1,v2,e,h1,h2⟩:=hv.inv2
  simp only [List.cons.injEq,and_true] at e
  cases h1;cases h2
  rename_i s k i _
  split at hc
  ·rename_i hin
   split at hc
   ·rename_i b hg
    have hg':s[i.toNat]?=some b:=by
     rw [←hg];simp [getElem?_def];rfl
    refine ⟨_,_,Xb2 hc,?_,.int _ _⟩
    simp [execOp,ho,Instr.index,e.1,e.2,asIntOf,run_underlying ht,hin,hg']
   ·cases hc
  ·cases hc
 ·cases hc
end
section
variable {P:Program} {w0:World} {U:UG} {ρ:Ren} {o:Oper} {a:Operand→Value} {w:World} {H:Hp} {top:Nat} [NG U top]
 {x:Option Value} {H':Hp} {top':Nat} {vals:List Value}
theorem Xnz {k:IntKind} {i:Int} {y:Nat} {c:BoundsCode} (h0:0≤i) (h1:i≤y):(Instr.sliceBound (.int k i) y c).run P w=.ok i.toNat w:=by
 simp [Instr.sliceBound,asIntOf,h0,h1]
theorem XnK {bs:List Value} {lo hi:Option Operand} {n cap l r:Nat} (hbs:VRL ρ bs ((lo.toList++hi.toList).map a)) (hl:XBY n lo.isSome hi.isSome bs=some (l,r)) (hn:n≤cap) (isS:Bool) :
 (Instr.sliceBounds isS n cap (lo.map a) (hi.map a) none).run P w=.ok (l,r,cap) w∧l≤r∧r≤n:=by
 unfold XBY at hl
 split at hl
 ·rename_i h1 h2
  cases lo<;>cases hi<;>simp at h1 h2
  cases hl
  exact ⟨by simp [Instr.sliceBounds],Nat.zero_le _,Nat.le_refl _⟩
 ·rename_i h1 h2
  cases lo<;>cases hi<;>simp at h1 h2
  obtain ⟨v1,e,h3⟩:=hbs.inv1
  simp only [Option.toList,List.append_nil,List.map,List.cons.injEq,and_true] at e
  cases h3
  split at hl
  ·rename_i hh
   cases hl
   refine ⟨?_,by omega,Nat.le_refl _⟩
   simp [Instr.sliceBounds,e,Xnz hh.1 hh.2]
  ·cases hl
 ·rename_i h1 h2
  cases lo<;>cases hi<;>simp at h1 h2
  obtain ⟨v1,e,h3⟩:=hbs.inv1
  simp only [Option.toList,List.nil_append,List.map,List.cons.injEq,and_true] at e
  cases h3
  split at hl
  ·rename_i hh
   cases hl
   refine ⟨?_,by omega,by omega⟩
   simp [Instr.sliceBounds,e,Xnz hh.1 (show _≤(cap:Int) by omega)]
  ·cases hl
 ·rename_i h1 h2
  cases lo<;>cases hi<;>simp at h1 h2
  obtain ⟨v1,v2,e,h3,h4⟩:=hbs.inv2
  simp only [Option.toList,List.cons_append,List.nil_append,List.map,List.cons.injEq,and_true] at e
  cases h3;cases h4
  split at hl
  ·rename_i hh
   cases hl
   refine ⟨?_,by omega,by omega⟩
   simp only [Instr.sliceBounds,Option.map,e.1,e.2,Sem.run_bind,Sem.run_pure,Result.andThen_ok,Xnz hh.1 (show _≤(cap:Int) by omega),Xnz hh.2.2.1 hh.2.2.2]
  ·cases hl
 ·cases hl
theorem XzX (h:HpR P w0 U ρ H top w) {t:TypeId} {y:Operand} {lo hi:Option Operand} (ho:o.op=.slice t y lo hi none) (ht:P.underlying t=some .string)
 (hv:VRL ρ vals ((y::(lo.toList++hi.toList)).map a)) (hr:XcM (.sliceS y lo hi) vals H top=some (x,H',top')):Done P w0 U ρ o a w x H' top':=by
 refine XdW h rfl hr fun r hc=>?_
 change Xmi lo.isSome hi.isSome vals []=some r at hc
 unfold Xmi at hc;split at hc
 ·rename_i s bs _
  obtain ⟨v1,l',e,h1,h2⟩:=hv.inv
  simp only [List.map_cons,List.cons.injEq] at e
  cases h1
  split at hc
  ·rename_i l r hl
   obtain ⟨e1,e2⟩:=e
   rw [←e2] at h2
   obtain ⟨hb,hlr,hrn⟩:=XnK (P:=P) (w:=w) h2 hl (Nat.le_refl _) false
   refine ⟨_,_,Xb2 hc,?_,.string _⟩
   have hsz:s.size=s.data.toList.length:=by simp
   simp only [execOp,ho,Instr.sliceAt,Sem.run_bind,run_underlying ht,Result.andThen_ok,e1,Option.map_none]
   simp only [Instr.slice,Sem.run_bind,run_underlying ht,Result.andThen_ok,hsz,hb,Option.isSome_none,Bool.false_eq_true,↓reduceIte,Sem.run_pure]
   congr 3
   apply ByteArray.ext
   apply Array.ext'
   simp [ByteArray.data_extract]
  ·cases hc
 ·cases hc
theorem Value.XnR {v':Value} {n c:Nat} (h:VR ρ (.slice none n c) v'):n=0∧v'=.slice none 0 0:=by cases h;exact ⟨rfl,rfl⟩
theorem XzR (h:HpR P w0 U ρ H top w) {t e:TypeId} {j:TypeInfo} {y:Operand} {lo hi:Option Operand} (ho:o.op=.slice t y lo hi none) (ht:P.underlying t=some (.slice e)) (hj:P.info? e=some j)
 (hv:VRL ρ vals ((y::(lo.toList++hi.toList)).map a)) (hr:XcM (.sliceL j.size y lo hi) vals H top=some (x,H',top')):Done P w0 U ρ o a w x H' top':=by
 refine XdW h rfl hr fun r hc=>?_
 change XkS j.size lo.isSome hi.isSome vals []=some r at hc
 unfold XkS at hc;split at hc
 ·rename_i c bs _
  obtain ⟨v1,l',e,h1,h2⟩:=hv.inv
  simp only [List.map_cons,List.cons.injEq] at e
  obtain ⟨e1,e2⟩:=e
  obtain ⟨_,rfl⟩:=Value.XnR h1
  rw [←e2] at h2
  split at hc
  ·rename_i lr hl
   obtain ⟨l,r'⟩:=lr
   obtain ⟨hb,hlr,hrn⟩:=XnK (P:=P) (w:=w) h2 hl (Nat.le_refl _) true
   refine ⟨_,_,Xb2 hc,?_,.nils _⟩
   obtain rfl:r'=0:=by omega
   obtain rfl:l=0:=by omega
   simp only [execOp,ho,Instr.sliceAt,Sem.run_bind,run_underlying ht,Result.andThen_ok,e1,Option.map_none]
   simp only [Instr.slice,Sem.run_bind,run_underlying ht,Result.andThen_ok,hb,XdR hj,Sem.run_pure]
   simp
  ·cases hc
 ·rename_i b q n sz bs _
  obtain ⟨v1,l',e,h1,h2⟩:=hv.inv
  simp only [List.map_cons,List.cons.injEq] at e
  obtain ⟨e1,e2⟩:=e
  rw [←e2] at h2
  split at hc
  ·rename_i hsz
   split at hc
   ·rename_i l r' hl
    subst hsz
    cases h1 with
    | @slice _ _ _ _ c ll hll hn hcap=>
      obtain ⟨hb,hlr,hrn⟩:=XnK (P:=P) (w:=w) h2 hl hn true
      by_cases hcl:c=l
      ·subst hcl
       have:r' - c=0:=by omega
       rw [this] at hc
       refine ⟨_,.slice (some ⟨ll.blk,ll.sh+q,none⟩) 0 0,Xb2 hc,?_,.slice0 _⟩
       simp only [execOp,ho,Instr.sliceAt,Sem.run_bind,run_underlying ht,Result.andThen_ok,e1,Option.map_none]
       simp only [Instr.slice,Sem.run_bind,run_underlying ht,Result.andThen_ok,hb,XdR hj,Sem.run_pure]
       simp [this]
      ·refine ⟨_,.slice (some ⟨ll.blk,ll.sh+(q+l*j.size),none⟩) (r' - l) (c - l),Xb2 hc,?_,.slice hll (by omega) ?_⟩
       ·simp only [execOp,ho,Instr.sliceAt,Sem.run_bind,run_underlying ht,Result.andThen_ok,e1,Option.map_none]
        simp only [Instr.slice,Sem.run_bind,run_underlying ht,Result.andThen_ok,hb,XdR hj,Sem.run_pure,if_neg hcl,Option.map_some,Addr.add]
        by_cases h0:l*j.size=0<;>simp [h0,Nat.add_assoc]
       ·have:l*j.size+(c - l)*j.size=c*j.size:=by rw [←Nat.add_mul];congr 1;omega
        omega
    | slice0 ad=>
      obtain ⟨hb,hlr,hrn⟩:=XnK (P:=P) (w:=w) h2 hl (Nat.le_refl 0) true
      obtain rfl:r'=0:=by omega
      obtain rfl:l=0:=by omega
      refine ⟨_,.slice ad 0 0,Xb2 hc,?_,.slice0 _⟩
      simp only [execOp,ho,Instr.sliceAt,Sem.run_bind,run_underlying ht,Result.andThen_ok,e1,Option.map_none]
      simp only [Instr.slice,Sem.run_bind,run_underlying ht,Result.andThen_ok,hb,XdR hj,Sem.run_pure]
      simp
   ·cases hc
  ·cases hc
 ·cases hc
theorem Xpw {mx:Bool} (f:Value→Value→Sem Value) (hf:∀ k p q,f (.int k p) (.int k q)=pure (.int k (if mx then (if q>p then q else p) else (if q<p then q else p)))) :
 ∀ {l l':List Value} {k:IntKind} {n:Int} {v:Value},VRL ρ l l'→XxJ mx (.int k n) l=some v→(l'.foldlM f (.int k n)).run P w=.ok v w∧∃ m,v=.int k m
 | [],_,k,n,v,.nil,he=>by
   simp only [XxJ,Option.some.injEq] at he
   subst he
   exact ⟨rfl,_,rfl⟩
 | y::l,_,k,n,v,.cons hy hl,he=>by
   simp only [XxJ] at he
   split at he
   ·rename_i z hz
    cases y<;>simp only [XzI] at hz<;>first|(cases hz;done)|skip
    rename_i k' m
    split at hz
    ·rename_i hk
     subst hk
     cases hz
     cases hy
     obtain ⟨h1,h2⟩:=Xpw f hf hl he
     refine ⟨?_,h2⟩
     rw [List.foldlM_cons,hf]
     simpa using h1
    ·cases hz
   ·cases he
theorem XtL (h:HpR P w0 U ρ H top w) {mx:Bool} {xs:Array Operand} {ts:Array TypeId} (ho:o.op=.call ⟨.builtin (if mx then .max else .min),xs,ts⟩)
 (hv:VRL ρ vals (xs.toList.map a)) (hr:XcM (.minmax mx xs.toList) vals H top=some (x,H',top')):Done P w0 U ρ o a w x H' top':=by
 refine XdW h rfl hr fun r hc=>?_
 change Xpm mx vals []=some r at hc
 unfold Xpm at hc;split at hc
 ·rename_i k n us _
  obtain ⟨v1,l',e,h1,h2⟩:=hv.inv
  split at hc
  ·rename_i z hz
   cases h1
   cases mx
   ·obtain ⟨hrun,m,rfl⟩:=Xpw (P:=P) (w:=w) (ρ:=ρ) (mx:=false) Builtin.min2 (fun k p q=>by simp [Builtin.min2]) h2 hz
    refine ⟨_,_,Xb2 hc,?_,.int _ _⟩
    simp only [execOp,ho,resolve,invoke,Go.builtin,Builtin.min_,Sem.run_bind,Sem.run_pure,Result.andThen_ok,Array.toList_map,e,Bool.false_eq_true,↓reduceIte,hrun]
   ·obtain ⟨hrun,m,rfl⟩:=Xpw (P:=P) (w:=w) (ρ:=ρ) (mx:=true) Builtin.max2 (fun k p q=>by simp [Builtin.max2]) h2 hz
    refine ⟨_,_,Xb2 hc,?_,.int _ _⟩
    simp only [execOp,ho,resolve,invoke,Go.builtin,Builtin.max_,Sem.run_bind,Sem.run_pure,Result.andThen_ok,Array.toList_map,e,↓reduceIte,hrun]
  ·cases hc
 ·cases hc
def Xi5 (k:Nat) (d:TypeDesc) (v:Value):Prop:=
 match k,d with
 | 0,.pointer _=>v=.pointer none
 | 1,.slice _=>v=.slice none 0 0
 | 2,.func ..=>v=.nilFunc
 | 3,.interface _=>v=.nilIface
 | _,_=>False
theorem XtZ {k:Nat} {d:TypeDesc} {t:TypeId} {v v' z:Value} {b:Bool} (ht:P.underlying t=some d) (hk:Xi5 k d z) (hvr:VR ρ v v') (hb:XIe k v=some b) (m:Nat) :
 (Op.equalIn (m+1) t v' z).run P w=.ok b w:=by
 unfold XIe at hb
 unfold Xi5 at hk
 split at hk<;>first|exact hk.elim|subst hk
 all_goals
  split at hb
  all_goals first
   | (cases hb;done)
   | (exfalso;omega)
   | (cases hvr<;>(cases hb;simp only [Op.equalIn,Sem.run_bind,run_underlying ht,Result.andThen_ok];rfl))
theorem Xyx {k:Nat} {d:TypeDesc} {t:TypeId} {v v' z:Value} {b:Bool} (hk:Xi5 k d z) (hvr:VR ρ v v') (hb:XIe k v=some b) :
 Go.binOp .eql t v' z=(do pure (Value.bool (←Op.equal t v' z)))∧Go.binOp .neq t v' z=(do pure (Value.bool (!(←Op.equal t v' z)))):=by
 unfold Xi5 at hk
 split at hk<;>first|exact hk.elim|subst hk
 all_goals
  cases hvr<;>first|exact ⟨rfl,rfl⟩|(simp [XIe] at hb;done)
theorem Xyu {k:Nat} {d:TypeDesc} {t:TypeId} {v v' z:Value} {b:Bool} {y:Operand} {op:BinOp} (hk:Xi5 k d z) (hvr:VR ρ v v') (hb:XIe k v=some b) :
 (eqGuard op t y (.const z) v' z).run P w=.ok () w:=by
 unfold Xi5 at hk
 split at hk<;>first|exact hk.elim|subst hk
 all_goals
  cases hvr<;>first|(simp [XIe] at hb;done)|(cases op<;>simp [eqGuard])
theorem XHp (h:HpR P w0 U ρ H top w) {k:Nat} {neg:Bool} {t u:TypeId} {d:TypeDesc} {y:Operand} {z:Value} (ho:o.op=.binOp (if neg then .neq else .eql) t y (.const z) u) (ht:P.underlying t=some d)
 (hk:Xi5 k d z) (hz:a (.const z)=z)
 (hv:VRL ρ vals [a y]) (hr:XcM (.isNil k neg y) vals H top=some (x,H',top')):Done P w0 U ρ o a w x H' top':=by
 refine XdW h rfl hr fun r hc=>?_
 change XmU k neg vals []=some r at hc
 unfold XmU at hc;split at hc
 ·rename_i v _
  obtain ⟨v1,e,h1⟩:=hv.inv1
  simp only [List.cons.injEq,and_true] at e
  split at hc
  ·rename_i b hb
   refine ⟨_,_,Xb2 hc,?_,.bool _⟩
   have e1:(Op.equal t v1 z).run P w=.ok b w:=XtZ ht hk h1 hb 9999
   obtain ⟨e2,e3⟩:=Xyx (t:=t) hk h1 hb
   have e4:=fun op=>Xyu (P:=P) (w:=w) (t:=t) (y:=y) (op:=op) hk h1 hb
   cases neg<;>simp [execOp,ho,e,hz,e1,e2,e3,e4]
  ·cases hc
 ·cases hc
end
section
variable {P:Program} {w0:World} {U:UG} {ρ:Ren} {o:Oper} {a:Operand→Value} {w:World} {H:Hp} {top:Nat} [NG U top]
 {x:Option Value} {H':Hp} {top':Nat} {vals:List Value}
theorem XzZ {k:SK} {u v u' v':Value} {b:Bool} (hu:VR ρ u u') (hv:VR ρ v v') (h:XoD k u v=some b):XoD k u' v'=some b:=by
 unfold XoD at h
 split at h<;>first|(cases h;done)|(cases hu;cases hv;exact h)
theorem XpN {xs ys xs' ys':List Value} (hx:VRL ρ xs xs') (hy:VRL ρ ys ys'):∀ {os:List (Nat×SK)} {b:Bool},Xfb xs ys os=some b→Xfb xs' ys' os=some b
 | [],b,h=>h
 | q::os,b,h=>by
   simp only [Xfb] at h ⊢
   split at h
   ·rename_i u v hu hv
    obtain ⟨u',hu',ru⟩:=hx.get hu
    obtain ⟨v',hv',rv⟩:=hy.get hv
    simp only [hu',hv']
    split at h
    ·rename_i c hc
     rw [XzZ ru rv hc]
     split at h
     ·rename_i d hd
      simp only [XpN hx hy hd];exact h
     ·cases h
    ·cases h
   ·cases h
theorem XjE {xs ys:List Value}:∀ {l m:List (Nat×SK)} {b:Bool},Xfb xs ys (l++m)=some b→∃ p q,Xfb xs ys l=some p∧Xfb xs ys m=some q∧b=(p&&q)
 | [],m,b,h=>⟨true,b,rfl,h,by simp⟩
 | k::l,m,b,h=>by
   simp only [List.cons_append,Xfb] at h ⊢
   split at h
   ·rename_i u v hu hv
    split at h
    ·rename_i c hc
     split at h
     ·rename_i d hd
      obtain ⟨p,q,h1,h2,rfl⟩:=XjE hd
      simp only [Option.some.injEq] at h
      exact ⟨c&&p,q,by simp [h1],h2,by rw [←h,Bool.and_assoc]⟩
     ·cases h
    ·cases h
   ·cases h
theorem XnC {t s:TypeId} {X:List Value} {q f:Nat} {d:TypeDesc} {i:TypeInfo} (hd:P.underlying t=some d) (hi:P.info? t=some i) (hn:f+i.size≤s) (h1:1≤i.size) :
 (part t ⟨(X.drop q).take s⟩ f).run P w=(part t ⟨X⟩ (q+f)).run P w:=by
 unfold part
 simp only [Sem.run_bind,Xfx hd,Result.andThen_ok]
 cases ha:Xgb P t
 ·simp only [Bool.false_eq_true,↓reduceIte,List.getElem?_toArray]
  rw [List.getElem?_take,if_pos (by omega),List.getElem?_drop]
 ·simp only [↓reduceIte,Sem.run_bind,XdR hi,Result.andThen_ok,Sem.run_pure]
  congr 2
  apply Array.ext'
  simp only [List.extract_toArray,List.extract_eq_take_drop]
  rw [List.drop_take,List.take_take,List.drop_drop]
  congr 1
  ·omega
theorem XkG {n:Nat} {t:TypeId} {q:Nat} {os:List (Nat×SK)} (h:XiV P n t q=some os):∃ d,P.underlying t=some d:=by
 cases n with
 | zero=>simp [XiV] at h
 | succ n=>
   simp only [XiV] at h
   cases hd:P.underlying t with
   | none=>simp [hd] at h
   | some d=>exact ⟨d,rfl⟩
def EqAt (P:Program) (n:Nat):Prop:=∀ (t:TypeId) (q:Nat) (os:List (Nat×SK)),XiV P n t q=some os→∀ (xs ys:List Value) (b:Bool),Xfb xs ys os=some b→∀ (d:Nat) (w:World),n≤d →
 (∃ i,P.info? t=some i)→∃ u v,(part t ⟨xs⟩ q).run P w=.ok u w∧(part t ⟨ys⟩ q).run P w=.ok v w∧(Op.equalIn d t u v).run P w=.ok b w
theorem XlF {n q size:Nat} (ih:EqAt P n) {xs ys X Y:List Value} {d:Nat} (hd:n≤d)
 (hX:∀ (f:Field) (dd:TypeDesc) (i:TypeInfo) (w:World),P.underlying f.type=some dd→P.info? f.type=some i→f.offset+i.size≤size→1≤i.size→(part f.type ⟨X⟩ f.offset).run P w=(part f.type ⟨xs⟩ (q+f.offset)).run P w)
 (hY:∀ (f:Field) (dd:TypeDesc) (i:TypeInfo) (w:World),P.underlying f.type=some dd→P.info? f.type=some i→f.offset+i.size≤size→1≤i.size→(part f.type ⟨Y⟩ f.offset).run P w=(part f.type ⟨ys⟩ (q+f.offset)).run P w) :
 ∀ (fs:List Field) (os:List (Nat×SK)) (b:Bool),eqFields P (XiV P n) q size fs=some os→Xfb xs ys os=some b→(Op.eqFields d ⟨X⟩ ⟨Y⟩ fs).run P w=.ok b w
 | [],os,b,h,hb=>by
   simp only [eqFields,Option.some.injEq] at h
   subst h
   simp only [Xfb,Option.some.injEq] at hb
   subst hb;rfl
 | f::fs,os,b,h,hb=>by
   simp only [eqFields] at h
   split at h
   ·cases h
   ·rename_i hc
    simp only [not_or] at hc
    obtain ⟨c1,c2,c3,c4⟩:=hc
    obtain ⟨i,hi⟩:∃ i,P.info? f.type=some i:=by
     cases h:P.info? f.type with
     | none=>simp [h] at c4
     | some i=>exact ⟨i,rfl⟩
    rw [XfA hi] at c2 c3
    split at h
    ·rename_i l hl
     split at h
     ·rename_i m hm
      cases h
      obtain ⟨p,r,h1,h2,rfl⟩:=XjE hb
      obtain ⟨dd,hdd⟩:=XkG hl
      obtain ⟨u,v,e1,e2,e3⟩:=ih f.type _ _ hl xs ys p h1 d w hd ⟨i,hi⟩
      simp only [Op.eqFields,if_pos c1,Sem.run_bind,hX f dd i w hdd hi (by omega) (by omega),hY f dd i w hdd hi (by omega) (by omega),e1,e2,e3,Result.andThen_ok]
      cases p
      ·simp
      ·simp only [Bool.not_true,Bool.false_eq_true,↓reduceIte,Bool.true_and]
       exact XlF ih hd hX hY fs m r hm h2
     ·cases h
    ·cases h
def Xwm (d:Nat) (e:TypeId) (sz:Nat) (xs ys:Array Value):Nat→Nat→Sem Bool
 | _,0=>pure true
 | i,m+1=>do
   let a ←part e xs (i*sz)
   let b ←part e ys (i*sz)
   let r ←Op.equalIn d e a b
   if (!r)=true then pure false else Xwm d e sz xs ys (i+1) m
theorem run_equalIn_array {d:Nat} {t e:TypeId} {m:Nat} {i:TypeInfo} {xs ys:Array Value} (ht:P.underlying t=some (.array m e)) (hi:P.info? e=some i) :
 (Op.equalIn (d+1) t (.agg xs) (.agg ys)).run P w=(Xwm d e i.size xs ys 0 m).run P w:=by
 simp only [Op.equalIn,Sem.run_bind,run_underlying ht,Result.andThen_ok,XdR hi]
 rw [Std.Legacy.Range.forIn_eq_forIn_range']
 simp only [Std.Legacy.Range.size,Nat.sub_zero,Nat.add_sub_cancel,Nat.div_one]
 generalize 0=j
 clear ht
 induction m generalizing w j with
 | zero=>simp [Xwm]
 | succ m ih=>
   simp only [List.range'_succ,List.forIn_cons,Xwm,Sem.run_bind]
   generalize (part e xs (j*i.size)).run P w=r1
   cases r1 with
   | ok a w1=>
     simp only [Result.andThen_ok]
     generalize (part e ys (j*i.size)).run P w1=r2
     cases r2 with
     | ok b w2=>
       simp only [Result.andThen_ok]
       generalize (Op.equalIn d e a b).run P w2=r3
       cases r3 with
       | ok r w3=>
         cases r
         ·simp
         ·simp only [Result.andThen_ok,Bool.not_true,Bool.false_eq_true,if_false,Sem.run_pure]
          exact ih (w:=w3) (j:=j+1)
       | halt x w3=>simp [Result.andThen]
     | halt x w2=>simp [Result.andThen]
   | halt x w1=>simp [Result.andThen]
theorem XmT {n q size:Nat} {e:TypeId} {j:TypeInfo} {dd:TypeDesc} (ih:EqAt P n) {xs ys X Y:List Value} {d:Nat} (hd:n≤d) (hj:P.info? e=some j) (hdd:P.underlying e=some dd) (h1:1≤j.size)
 (hX:∀ (f:Nat) (w:World),f+j.size≤size→(part e ⟨X⟩ f).run P w=(part e ⟨xs⟩ (q+f)).run P w)
 (hY:∀ (f:Nat) (w:World),f+j.size≤size→(part e ⟨Y⟩ f).run P w=(part e ⟨ys⟩ (q+f)).run P w) :
 ∀ (m i:Nat) (os:List (Nat×SK)) (b:Bool),(i+m)*j.size≤size→Xk0 (XiV P n) q e j.size i m=some os→Xfb xs ys os=some b→(Xwm d e j.size ⟨X⟩ ⟨Y⟩ i m).run P w=.ok b w
 | 0,i,os,b,_,h,hb=>by
   simp only [Xk0,Option.some.injEq] at h
   subst h
   simp only [Xfb,Option.some.injEq] at hb
   subst hb;rfl
 | m+1,i,os,b,hs,h,hb=>by
   simp only [Xk0] at h
   split at h
   ·rename_i l hl
    split at h
    ·rename_i k hk
     cases h
     obtain ⟨p,r,e1,e2,rfl⟩:=XjE hb
     obtain ⟨u,v,g1,g2,g3⟩:=ih e _ _ hl xs ys p e1 d w hd ⟨j,hj⟩
     have hle:i*j.size+j.size≤size:=by
      have:(i+(m+1))*j.size=i*j.size+j.size+m*j.size:=by rw [show i+(m+1)=(i+1)+m by omega,Nat.add_mul,Nat.add_mul];omega
      omega
     simp only [Xwm,Sem.run_bind,hX _ w hle,hY _ w hle,g1,g2,g3,Result.andThen_ok]
     cases p
     ·simp
     ·simp only [Bool.not_true,Bool.false_eq_true,↓reduceIte,Bool.true_and]
      exact XmT ih hd hj hdd h1 hX hY m (i+1) k r (by rw [show i+1+m=i+(m+1) by omega];exact hs) hk e2
    ·cases h
   ·cases h
theorem Xpr {t:TypeId} {i:TypeInfo} {d:TypeDesc} (hd:P.underlying t=some d) (ha:Xgb P t=true) (hi:P.info? t=some i) (X:List Value) (q:Nat) :
 (part t ⟨X⟩ q).run P w=.ok (.agg ⟨(X.drop q).take i.size⟩) w:=by
 unfold part
 simp only [Sem.run_bind,Xfx hd,Result.andThen_ok,ha,↓reduceIte,XdR hi,Sem.run_pure]
 congr 2
 apply Array.ext'
 simp [List.extract_eq_take_drop]
theorem eqAt:∀ n,EqAt P n
 | 0=>fun t q os h=>by simp [XiV] at h
 | n+1=>fun t q os h xs ys b hb d w hd ⟨i,hi⟩=>by
   obtain ⟨d,rfl⟩:∃ d',d=d'+1:=⟨d - 1,by omega⟩
   obtain ⟨dd,hdd⟩:=XkG h
   simp only [XiV,hdd] at h
   have scalar:∀ (k:SK) (ha:Xgb P t=false) (key:∀ u v b,XoD k u v=some b→(Op.equalIn (d+1) t u v).run P w=.ok b w) (hos:os=[(q,k)]),∃ u v,(part t ⟨xs⟩ q).run P w=.ok u w∧(part t ⟨ys⟩ q).run P w=.ok v w∧(Op.equalIn (d+1) t u v).run P w=.ok b w:=by
    intro k ha key hos
    subst hos
    simp only [Xfb] at hb
    split at hb
    ·rename_i u v hu hv
     split at hb
     ·rename_i c hc
      simp only [Bool.and_true,Option.some.injEq] at hb
      subst hb
      refine ⟨u,v,?_,?_,key u v c hc⟩<;>simp [part,Xfx hdd,ha,hu,hv]
     ·cases hb
    ·cases hb
   cases dd with
   | bool=>
     simp only [Option.some.injEq] at h
     refine scalar _ (by simp [Xgb,hdd]) (fun u v b hl=>?_) h.symm
     unfold XoD at hl
     split at hl<;>first|(cases hl;done)|(rename_i he;cases he;done)|skip
     cases hl;exact run_equalIn_bool d hdd _ _
   | int k=>
     simp only [Option.some.injEq] at h
     refine scalar _ (by simp [Xgb,hdd]) (fun u v b hl=>?_) h.symm
     unfold XoD at hl
     split at hl<;>first|(cases hl;done)|(rename_i he;cases he;done)|skip
     split at hl
     ·rename_i hk
      subst hk
      cases hl;exact run_equalIn_int w d t _ _ _ _ hdd
     ·cases hl
   | string=>
     simp only [Option.some.injEq] at h
     refine scalar _ (by simp [Xgb,hdd]) (fun u v b hl=>?_) h.symm
     unfold XoD at hl
     split at hl<;>first|(cases hl;done)|(rename_i he;cases he;done)|skip
     cases hl;rw [run_equalIn_string w d t _ _ hdd,ByteArray.toList_eq,ByteArray.toList_eq]
   | struct fs=>
     simp only at h
     split at h
     ·cases h
     ·rename_i hs
      have ha:Xgb P t=true:=by simp [Xgb,hdd]
      refine ⟨_,_,Xpr hdd ha hi xs q,Xpr hdd ha hi ys q,?_⟩
      have hf:P.underlying t=some (.struct (P.fieldsOf t)):=by simp [Program.fieldsOf,hdd]
      have hff:P.fieldsOf t=fs:=by simp [Program.fieldsOf,hdd]
      rw [run_equalIn_struct w d t _ _ hf (by simpa using hs),hff]
      rw [XfA hi] at h
      refine XlF (eqAt n) (by omega) (fun f dd' j w hd' hj hle h1=>XnC hd' hj hle h1) (fun f dd' j w hd' hj hle h1=>XnC hd' hj hle h1) fs.toList os b h hb
   | array m e=>
     simp only at h
     split at h
     ·rename_i hs
      obtain ⟨s1,s2,s3⟩:=hs
      obtain ⟨j,hj⟩:∃ j,P.info? e=some j:=Option.isSome_iff_exists.1 s3
      rw [XfA hj] at s1 s2 h
      rw [XfA hi] at s1
      have ha:Xgb P t=true:=by simp [Xgb,hdd]
      refine ⟨_,_,Xpr hdd ha hi xs q,Xpr hdd ha hi ys q,?_⟩
      rw [run_equalIn_array hdd hj]
      cases m with
      | zero=>
        simp only [Xk0,Option.some.injEq] at h
        subst h
        simp only [Xfb,Option.some.injEq] at hb
        subst hb;rfl
      | succ m=>
        obtain ⟨d',hd'⟩:∃ d',P.underlying e=some d':=by
         simp only [Xk0] at h
         split at h
         ·rename_i l hl;exact XkG hl
         ·cases h
        exact XmT (eqAt n) (by omega) hj hd' s2 (fun f w hle=>XnC hd' hj hle s2) (fun f w hle=>XnC hd' hj hle s2) (m+1) 0 os b (by simpa using s1) h hb
     ·cases h
   | _=>simp at h
theorem XsL {t:TypeId} {y z:Operand} {op:BinOp} {xs ys:List Value} (hg:P.eqGuardType P.depth t=false):(eqGuard op t y z (.agg ⟨xs⟩) (.agg ⟨ys⟩)).run P w=.ok () w:=
 run_eqGuard_agg w op t y z ⟨xs⟩ ⟨ys⟩ hg
theorem Xpc (h:HpR P w0 U ρ H top w) {neg:Bool} {t u:TypeId} {d:TypeDesc} {os:List (Nat×SK)} {y z:Operand} (ho:o.op=.binOp (if neg then .neq else .eql) t y z u) (hd:P.underlying t=some d)
 (hda:(∃ fs,d=.struct fs)∨∃ m e,d=.array m e)
 (hg:P.eqGuardType P.depth t=false) (hos:XiV P 12 t 0=some os)
 (hv:VRL ρ vals [a y,a z]) (hr:XcM (.eqAgg neg os y z) vals H top=some (x,H',top')):Done P w0 U ρ o a w x H' top':=by
 refine XdW h rfl hr fun r hc=>?_
 change XrT neg os vals []=some r at hc
 unfold XrT at hc;split at hc
 ·rename_i xs ys _
  obtain ⟨v1,v2,e,h1,h2⟩:=hv.inv2
  simp only [List.cons.injEq,and_true] at e
  obtain ⟨e1,e2⟩:=e
  cases h1 with|agg h1=>
  cases h2 with|agg h2=>
  rename_i xs' ys'
  split at hc
  ·rename_i b hb
   have hb':=XpN h1 h2 hb
   refine ⟨_,_,Xb2 hc,?_,.bool _⟩
   have key:(Op.equalIn 10000 t (.agg ⟨xs'⟩) (.agg ⟨ys'⟩)).run P w=.ok b w:=by
    rcases hda with ⟨fs,rfl⟩|⟨m,e,rfl⟩
    ·have hos:XiV P (11+1) t 0=some os:=hos
     rw [XiV,hd] at hos
     simp only at hos
     split at hos
     ·cases hos
     ·rename_i hs
      have hf:P.underlying t=some (.struct (P.fieldsOf t)):=by simp [Program.fieldsOf,hd]
      have hff:P.fieldsOf t=fs:=by simp [Program.fieldsOf,hd]
      rw [run_equalIn_struct w 9999 t _ _ hf (by simpa using hs),hff]
      exact XlF (eqAt 11) (by omega) (fun f dd' j w hd' hj hle h1=>by rw [Nat.zero_add]) (fun f dd' j w hd' hj hle h1=>by rw [Nat.zero_add]) fs.toList os b hos hb'
    ·have hos:XiV P (11+1) t 0=some os:=hos
     rw [XiV,hd] at hos
     simp only at hos
     split at hos
     ·rename_i hs
      obtain ⟨s1,s2,s3⟩:=hs
      obtain ⟨j,hj⟩:∃ j,P.info? e=some j:=Option.isSome_iff_exists.1 s3
      rw [XfA hj] at s1 s2 hos
      rw [run_equalIn_array hd hj]
      cases m with
      | zero=>
        simp only [Xk0,Option.some.injEq] at hos
        subst hos
        simp only [Xfb,Option.some.injEq] at hb'
        subst hb';rfl
      | succ m=>
        obtain ⟨d',hd'⟩:∃ d',P.underlying e=some d':=by
         simp only [Xk0] at hos
         split at hos
         ·rename_i l hl;exact XkG hl
         ·cases hos
        exact XmT (eqAt 11) (by omega) hj hd' s2 (fun f w hle=>by rw [Nat.zero_add]) (fun f w hle=>by rw [Nat.zero_add]) (m+1) 0 os b (by simpa using s1) hos hb'
     ·cases hos
   cases neg
   ·simp only [execOp,ho,e1,e2,Sem.run_bind,XsL hg,Result.andThen_ok,run_eql_struct w t ⟨xs'⟩ ⟨ys'⟩,key,Bool.false_eq_true,↓reduceIte,Sem.run_pure]
   ·simp only [execOp,ho,e1,e2,Sem.run_bind,XsL hg,Result.andThen_ok,run_neq_struct w t ⟨xs'⟩ ⟨ys'⟩,key,↓reduceIte,Sem.run_pure]
  ·cases hc
 ·cases hc
end
section
variable {P:Program} {w0:World} {U:UG} {ρ:Ren} {o:Oper} {a:Operand→Value} {w:World} {H:Hp} {top:Nat} [NG U top]
 {x:Option Value} {H':Hp} {top':Nat} {vals:List Value}
theorem XqR:∀ (vs:List Value) (off k:Nat) (cs:Array Value),(vs.zipIdx k).foldl (fun cs (p:Value×Nat)=>cs.setIfInBounds (off+p.2) p.1) cs=⟨setAt cs.toList (off+k) vs⟩
 | [],off,k,cs=>by simp [setAt]
 | v::vs,off,k,cs=>by
   simp only [List.zipIdx_cons,List.foldl_cons,setAt]
   rw [XqR vs off (k+1)]
   congr 1
   rw [Array.toList_setIfInBounds]
   rfl
theorem XjP {α:Type}:∀ (vs cs:List α) (off:Nat),(setAt cs off vs).length=cs.length
 | [],cs,off=>rfl
 | v::vs,cs,off=>by simp [setAt,XjP vs]
theorem Xpd (place:Nat→Option (Nat×Nat)):∀ (pl:List (Nat×Operand)) (q:List (Nat×Nat×Operand)) (vs:List Value) (cs cs' rcs:List Value),
 (pl.map fun p=>(place p.1).map fun s=>(s.1,s.2,p.2))=q.map some→VRL ρ vs (q.map fun p=>a p.2.2)→VRL ρ cs rcs→Xp1 cs (XIT q vs)=some cs' →
 ∃ rcs',Instr.fill place ⟨rcs⟩ (pl.map fun p=>(p.1,a p.2))=some ⟨rcs'⟩∧VRL ρ cs' rcs'
 | [],q,vs,cs,cs',rcs,hq,hv,hc,hf=>by
   cases q with
   | nil=>
     cases hv
     simp only [XIT,Xp1,Option.some.injEq] at hf
     subst hf
     exact ⟨rcs,rfl,hc⟩
   | cons _ _=>simp at hq
 | (i,y)::pl,q,vs,cs,cs',rcs,hq,hv,hc,hf=>by
   cases q with
   | nil=>simp at hq
   | cons p q=>
     obtain ⟨off,sz,y'⟩:=p
     simp only [List.map_cons,List.cons.injEq] at hq
     obtain ⟨hq1,hq2⟩:=hq
     cases hp:place i with
     | none=>simp [hp] at hq1
     | some s=>
       simp only [hp,Option.map_some,Option.some.injEq,Prod.mk.injEq] at hq1
       obtain ⟨rfl,rfl,rfl⟩:=hq1
       cases hv with
       | cons hv hvs=>
         rename_i v vs
         simp only [XIT,Xp1] at hf
         split at hf
         ·rename_i hcond
          have hcl:=hv.cells
          have hl:(a y).cells.size=s.2:=by
           have:=hcl.length
           simp only [XaX] at this hcond
           simp only [Array.length_toList] at this hcond
           omega
          have hle:s.1+s.2≤rcs.length:=by have:=hc.length;omega
          obtain ⟨rcs',e1,e2⟩:=Xpd place pl q vs _ cs' _ hq2 hvs (VRL.setAt s.1 hc hcl) hf
          refine ⟨rcs',?_,e2⟩
          simp only [List.map_cons,Instr.fill,hp,hl]
          have:¬ ((s.2 !=s.2||decide (s.1+s.2>(⟨rcs⟩:Array Value).size))=true):=by
           simp;omega
          simp only [ne_eq,not_true_eq_false,decide_false,Bool.false_or,decide_eq_true_eq]
          rw [if_neg (by simp;omega)]
          rw [←e1]
          congr 1
          have hfold:=XqR (XaX (a y)) s.1 0 ⟨rcs⟩
          simp only [Nat.add_zero,XaX] at hfold
          change _=(⟨setAt rcs s.fst (a y).cells.toList⟩:Array Value)
          rw [←hfold,←Array.foldl_toList,Array.toList_zipIdx]
         ·cases hf
theorem Xmx {fs:Array Field}:∀ {pl:List (Nat×Operand)} {q:List (Nat×Nat×Operand)},Xjr P fs pl=some q →
 (pl.map fun p=>(((fs.map fun f=>(f.offset,P.cellsOf f.type))[p.1]?).map fun s=>(s.1,s.2,p.2)))=q.map some
 | [],q,h=>by simp only [Xjr,Option.some.injEq] at h;subst h;rfl
 | (i,y)::pl,q,h=>by
   simp only [Xjr] at h
   split at h
   ·rename_i f hf
    split at h
    ·split at h
     ·rename_i r hr
      cases h
      simp only [List.map_cons,Xmx hr,List.cons.injEq,and_true]
      simp [hf]
     ·cases h
    ·cases h
   ·cases h
theorem XpL:∀ (fs:List Field),fs.all (fun f=>(P.info? f.type).isSome)=true→(fs.mapM fun (f:Field)=>(do pure (f.offset,←sizeOf f.type):Sem (Nat×Nat))).run P w=.ok (fs.map fun f=>(f.offset,P.cellsOf f.type)) w
 | [],_=>rfl
 | f::fs,h=>by
   simp only [List.all_cons,Bool.and_eq_true] at h
   obtain ⟨i,hi⟩:=Option.isSome_iff_exists.1 h.1
   rw [List.mapM_cons]
   simp only [Sem.run_bind,XdR hi,Result.andThen_ok,Sem.run_pure,XpL fs h.2,List.map_cons,XfA hi]
theorem XAQ (h:HpR P w0 U ρ H top w) {t:TypeId} {i:TypeInfo} {z:Value} {fs:Array Field} {ps:Array (Nat×Operand)} {q:List (Nat×Nat×Operand)} (ho:o.op=.build t ps) (hi:P.info? t=some i) (hz:i.zero=some z) (hf:Xbm z=true)
 (hd:P.underlying t=some (.struct fs)) (hall:fs.toList.all (fun f=>(P.info? f.type).isSome)=true) (hq:Xjr P fs ps.toList=some q)
 (hv:VRL ρ vals (q.map fun p=>a p.2.2)) (hr:XcM (.build (XaX z) q) vals H top=some (x,H',top')):Done P w0 U ρ o a w x H' top':=by
 refine XdW h rfl hr fun r hc=>?_
 change Xln (XaX z) q vals []=some r at hc
 simp only [Xln] at hc
 split at hc
 ·split at hc
  ·rename_i cs' hcs
   obtain ⟨rcs',e1,e2⟩:=Xpd (a:=a) (fun j=>(fs.map fun f=>(f.offset,P.cellsOf f.type))[j]?) ps.toList q vals _ cs' _ (Xmx hq) hv (Xmb ρ z hf) hcs
   refine ⟨_,.agg ⟨rcs'⟩,Xb2 hc,?_,.agg e2⟩
   have hpl:(fs.mapM fun (f:Field)=>(do pure (f.offset,←sizeOf f.type):Sem (Nat×Nat))).run P w=.ok (fs.map fun f=>(f.offset,P.cellsOf f.type)) w:=by
    rw [Array.mapM_eq_mapM_toList,Sem.run_map,XpL fs.toList hall]
    simp only [Result.andThen_ok]
    congr 1
    apply Array.ext'
    simp
   have hz':z.cells=⟨XaX z⟩:=by simp [XaX]
   simp only [execOp,ho,Instr.build,Sem.run_bind,Xd0 hi hz,Result.andThen_ok,run_underlying hd,hpl,hz']
   have:(ps.map fun (p:Nat×Operand)=>(p.1,a p.2)).toList=ps.toList.map fun p=>(p.1,a p.2):=by simp
   rw [show (Array.map (fun x=>match x with|(i,x)=>(i,a x)) ps).toList=ps.toList.map fun p=>(p.1,a p.2) by simp]
   rw [e1]
   rfl
  ·cases hc
 ·cases hc
theorem XBu (h:HpR P w0 U ρ H top w) {t e:TypeId} {m:Nat} {i j:TypeInfo} {z:Value} {ps:Array (Nat×Operand)} (ho:o.op=.build t ps) (hi:P.info? t=some i) (hz:i.zero=some z) (hf:Xbm z=true)
 (hd:P.underlying t=some (.array m e)) (hj:P.info? e=some j)
 (hv:VRL ρ vals ((ps.toList.map fun p=>(p.1*P.cellsOf e,P.cellsOf e,p.2)).map fun p=>a p.2.2))
 (hr:XcM (.build (XaX z) (ps.toList.map fun p=>(p.1*P.cellsOf e,P.cellsOf e,p.2))) vals H top=some (x,H',top')):Done P w0 U ρ o a w x H' top':=by
 refine XdW h rfl hr fun r hc=>?_
 change Xln (XaX z) (ps.toList.map fun p=>(p.1*P.cellsOf e,P.cellsOf e,p.2)) vals []=some r at hc
 simp only [Xln] at hc
 split at hc
 ·split at hc
  ·rename_i cs' hcs
   obtain ⟨rcs',e1,e2⟩:=Xpd (a:=a) (fun k=>some (k*j.size,j.size)) ps.toList _ vals _ cs' _ (by simp [XfA hj]) hv (Xmb ρ z hf) hcs
   refine ⟨_,.agg ⟨rcs'⟩,Xb2 hc,?_,.agg e2⟩
   have hz':z.cells=⟨XaX z⟩:=by simp [XaX]
   simp only [execOp,ho,Instr.build,Sem.run_bind,Xd0 hi hz,Result.andThen_ok,run_underlying hd,XdR hj,hz']
   rw [show (Array.map (fun x=>match x with|(i,x)=>(i,a x)) ps).toList=ps.toList.map fun p=>(p.1,a p.2) by simp]
   rw [e1]
   rfl
  ·cases hc
 ·cases hc
theorem Xh7 (w:World) (ob:Obj):∀ k,k<w.heap.size→(w.alloc ob).heap[k]?=w.heap[k]?:=fun k hk=>Below.heap_alloc w ob k hk
theorem XAw (h:HpR P w0 U ρ H top w) {v:VOp} (hn:needs v vals=[]) (hr:XcM v vals H top=some (x,H',top'))
 (key:∀ r,core v vals [] top=some r→∃ (u u':Value) (vs rs:List Value) (T:TypeId) (own:Bool) (lo hi:Nat),(r=⟨some u,[],some (.cells vs)⟩∧own=true∨r=⟨some u,[],some (.row own vs)⟩) ∧
   (∃ dr:Bool,(execOp a o).run P w=.ok (.value u') ((if dr then w.drew else w).alloc (.cells ⟨rs⟩ T (lo,hi))))∧(rs.length≤lo∨hi≤lo) ∧
   vs.length≤rs.length∧VRL ρ vs (rs.take vs.length)∧VR (upd ρ top ⟨w.heap.size,0,rs.length⟩) u u') :
 Done P w0 U ρ o a w x H' top':=by
 obtain ⟨r,hc,rfl,hh⟩:=XlZ hn hr
 obtain ⟨u,u',vs,rs,T,own,lo,hi,hrr,⟨dr,hrun⟩,hlo,hlen,hvr,hv⟩:=key r hc
 have hb:∀ k,k<w.heap.size→((if dr then w.drew else w).alloc (.cells ⟨rs⟩ T (lo,hi))).heap[k]?=w.heap[k]?:=by
  intro k hk;cases dr<;>exact Xh7 _ _ k hk
 have hk:Keep U w0 ((if dr then w.drew else w).alloc (.cells ⟨rs⟩ T (lo,hi))):=by cases dr;exact h.keep.alloc _;exact h.keep.drew.alloc _
 have hcells:Xbt (upd ρ top ⟨w.heap.size,0,rs.length⟩) ((if dr then w.drew else w).alloc (.cells ⟨rs⟩ T (lo,hi))) ⟨w.heap.size,0,rs.length⟩ own vs:=by
  have hsz:(if dr then w.drew else w).heap.size=w.heap.size:=by cases dr<;>rfl
  have hcell:∀ i,((if dr then w.drew else w).alloc (.cells ⟨rs⟩ T (lo,hi))).cell? ⟨w.heap.size,0+i,none⟩=rs[i]?:=fun i=>by
   rw [←hsz,World.cell?_alloc_mark];simp
  have hfr:∀ i,i<rs.length→((if dr then w.drew else w).alloc (.cells ⟨rs⟩ T (lo,hi))).frozen? ⟨w.heap.size,0+i,none⟩=false:=fun i hi=>by
   rw [←hsz,World.frozen?_alloc_mark];simp;omega
  refine ⟨hlen,fun i v e=>?_,fun i hi=>⟨?_,fun _=>hfr i hi⟩⟩
  ·obtain ⟨v',e',r'⟩:=hvr.get e
   refine ⟨v',?_,r'.mono (Ext.upd (h.XoV))⟩
   rw [hcell]
   rw [List.getElem?_take] at e'
   split at e'
   ·exact e'
   ·cases e'
  ·rw [hcell];simp;exact hi
 rcases hh with ⟨e,_⟩|⟨ob,e,rfl,rfl⟩
 ·rcases hrr with ⟨rfl,_⟩|rfl<;>cases e
 ·rcases hrr with ⟨rfl,rfl⟩|rfl
  ·cases e;exact Done.fresh h hrun hk hb hcells hv
  ·cases e;exact Done.fresh h hrun hk hb hcells hv
theorem XCS (h:HpR P w0 U ρ H top w) {t:TypeId} {i:TypeInfo} {z:Value} (ho:o.op=.alloc t) (hi:P.info? t=some i) (hz:i.zero=some z) (hf:Xbm z=true)
 (hv:VRL ρ vals []) (hr:XcM (.alloc (XaX z)) vals H top=some (x,H',top')):Done P w0 U ρ o a w x H' top':=by
 refine XAw h rfl hr fun r hc=>?_
 change Xut (XaX z) vals [] top=some r at hc
 unfold Xut at hc;split at hc
 ·refine ⟨_,.pointer (some ⟨w.heap.size,0,none⟩),XaX z,XaX z,t,true,0,0,.inl ⟨(Option.some.inj hc).symm,rfl⟩,⟨false,?_⟩,.inr (Nat.le_refl _),Nat.le_refl _,by rw [List.take_length];exact Xmb ρ z hf,.ptr (upd_same _ _ _)⟩
  simp [execOp,ho,Instr.alloc,Xd0 hi hz,newVar,newRow,XaX]
 ·cases hc
theorem XSI (h:HpR P w0 U ρ H top w) {t:TypeId} {y:Operand} (ho:o.op=.box t y)
 (hv:VRL ρ vals [a y]) (hr:XcM (.box y) vals H top=some (x,H',top')):Done P w0 U ρ o a w x H' top':=by
 refine XAw h rfl hr fun r hc=>?_
 change XLl vals [] top=some r at hc
 unfold XLl at hc;split at hc
 ·rename_i v _
  obtain ⟨v1,e,h1⟩:=hv.inv1
  simp only [List.cons.injEq,and_true] at e
  subst e
  have hcl:=h1.cells
  refine ⟨_,.pointer (some ⟨w.heap.size,0,none⟩),XaX v,XaX (a y),t,true,0,0,.inl ⟨(Option.some.inj hc).symm,rfl⟩,⟨false,?_⟩,.inr (Nat.le_refl _),by rw [hcl.length];exact Nat.le_refl _,by rw [hcl.length,List.take_length];exact hcl,.ptr (upd_same _ _ _)⟩
  simp [execOp,ho,Instr.box,newVar,newRow,XaX]
 ·cases hc
theorem flat_get (z:List Value):∀ (len i:Nat),i<len*z.length→((List.replicate len z).flatten)[i]?=z[i%z.length]?
 | 0,i,h=>by omega
 | len+1,i,h=>by
   rw [List.replicate_succ,List.flatten_cons]
   rcases Nat.lt_or_ge i z.length with hi|hi
   ·rw [List.getElem?_append_left hi,Nat.mod_eq_of_lt hi]
   ·rw [List.getElem?_append_right hi,flat_get z len (i - z.length) (by rw [Nat.succ_mul] at h;omega),Nat.mod_eq_sub_mod hi]
theorem Xom (z:Value) (len:Nat) (hz:1≤(XaX z).length):(Array.range (len*(XaX z).length)).map (fun i=>z.cells[i%z.cells.size]!)=⟨(List.replicate len (XaX z)).flatten⟩:=by
 have hs:z.cells.size=(XaX z).length:=by simp [XaX]
 apply Array.ext'
 simp only [Array.toList_map,Array.toList_range]
 apply List.ext_getElem?
 intro i
 rcases Nat.lt_or_ge i (len*(XaX z).length) with h|h
 ·rw [flat_get _ _ _ h]
  rw [List.getElem?_map,List.getElem?_range h]
  have hm:i%(XaX z).length<(XaX z).length:=Nat.mod_lt _ (by omega)
  simp only [Option.map_some,hs]
  rw [getElem!_pos z.cells _ (by omega),List.getElem?_eq_getElem hm]
  simp [XaX]
 ·rw [List.getElem?_eq_none (by simpa using h),List.getElem?_eq_none (by simpa using h)]
theorem Xsp (ρ:Ren) (z:Value) (hf:Xbm z=true) (len:Nat):VRL ρ ((List.replicate len (XaX z)).flatten) ((List.replicate len (XaX z)).flatten):=by
 induction len with
 | zero=>exact .nil
 | succ n ih=>simpa [List.replicate_succ] using VRL.append (Xmb ρ z hf) ih
theorem XwI (h:HpR P w0 U ρ H top w) {t e:TypeId} {len:Nat} {i:TypeInfo} {z:Value} {ps:Array (Nat×Operand)} (ho:o.op=.buildSlice t len ps) (hd:P.underlying t=some (.slice e)) (hi:P.info? e=some i) (hz:i.zero=some z) (hf:Xbm z=true)
 (hl:(XaX z).length=i.size) (h1:1≤len*i.size) (h2:len*i.size≤2^24)
 (hv:VRL ρ vals ((ps.toList.map fun p=>(p.1*i.size,i.size,p.2)).map fun p=>a p.2.2))
 (hr:XcM (.buildSl len i.size ((List.replicate len (XaX z)).flatten) (ps.toList.map fun p=>(p.1*i.size,i.size,p.2))) vals H top=some (x,H',top')):Done P w0 U ρ o a w x H' top':=by
 refine XAw h rfl hr fun r hc=>?_
 change XlM len i.size _ _ vals [] top=some r at hc
 simp only [XlM] at hc
 split at hc
 ·split at hc
  ·rename_i cs' hcs
   obtain ⟨rcs',e1,e2⟩:=Xpd (a:=a) (fun k=>some (k*i.size,i.size)) ps.toList _ vals _ cs' _ (by simp) hv (Xsp ρ z hf len) hcs
   have hlen:cs'.length=rcs'.length:=e2.length
   have hz1:1≤(XaX z).length:=by
    rw [hl];rcases Nat.eq_zero_or_pos i.size with h|h
    ·rw [h] at h1;omega
    ·exact h
   have hlr:rcs'.length=len*i.size:=by
    rw [←hlen]
    have hff:∀ (l:List (Nat×Nat×Value)) (cs cs':List Value),Xp1 cs l=some cs'→cs'.length=cs.length:=by
     intro l
     induction l with
     | nil=>intro cs cs' h;simp only [Xp1,Option.some.injEq] at h;rw [h]
     | cons p l ih=>
       obtain ⟨p1,p2,p3⟩:=p
       intro cs cs' h
       simp only [Xp1] at h
       split at h
       ·rw [ih _ _ h,XjP]
       ·cases h
    rw [hff _ _ _ hcs]
    simp [hl]
   refine ⟨_,.slice (some ⟨w.heap.size,0,none⟩) len len,cs',rcs',e,true,0,0,.inr (Option.some.inj hc).symm,⟨false,?_⟩,.inr (Nat.le_refl _),by omega,by rw [hlen,List.take_length];exact e2,?_⟩
   ·have hne:len*i.size≠0:=by omega
    have hle:¬ (len*i.size>2^24):=by omega
    have hrf:=Xom z len hz1
    rw [hl] at hrf
    simp only [execOp,ho,Instr.buildSlice,Sem.run_bind,run_underlying hd,Result.andThen_ok,XdR hi,if_neg hle,if_neg hne,Sem.run_pure,Xd0 hi hz,Sem.run_ite,hrf]
    rw [show (Array.map (fun x=>match x with|(i,x)=>(i,a x)) ps).toList=ps.toList.map fun p=>(p.1,a p.2) by simp]
    rw [e1]
    simp [newRow]
   ·have:=VR.slice (ρ:=upd ρ top ⟨w.heap.size,0,rcs'.length⟩) (b:=top) (o:=0) (n:=len) (sz:=i.size) (c:=len) (upd_same _ _ _) (Nat.le_refl _) (by simp [hlr])
    simpa using this
  ·cases hc
 ·cases hc
theorem Xw9 (w:World) (C:Array Value) (e:TypeId) (k:Nat):(w.alloc (.cells C e)).freeze ⟨w.heap.size,k,none⟩ 1=w.alloc (.cells C e (k,k+1)):=by
 have hm:∀ (a:Array Obj) (x:Obj) (f:Obj→Obj),(a.push x).modify a.size f=a.push (f x):=by
  intro a x f
  apply Array.ext
  ·simp
  ·intro i h1 h2
   simp only [Array.size_modify,Array.size_push] at h1
   rw [Array.getElem_modify]
   by_cases hi:a.size=i
   ·subst hi;simp
   ·have hi2:i<a.size:=by omega
    simp [hi,Array.getElem_push,hi2]
 unfold World.freeze
 simp only [Nat.one_ne_zero,↓reduceIte]
 show ({ w with heap:=(w.heap.push (.cells C e)).modify w.heap.size _ }:World)=_
 rw [hm]
 rfl
theorem XAU (w:World) (C:Array Value) (e:TypeId):(w.alloc (.cells C e)).shape? w.heap.size=some (e,C.size):=by
 have:(w.alloc (.cells C e)).heap[w.heap.size]?=some (.cells C e):=by
  show (w.heap.push (.cells C e))[w.heap.size]?=_
  simp
 unfold World.shape?
 rw [this]
theorem XlC:∀ (l:List UInt8),Xbm.flatL (ofBytes l)=true
 | []=>rfl
 | b::l=>by
   have:=XlC l
   simp only [ofBytes,List.map_cons,Xbm.flatL,Bool.and_eq_true] at this ⊢
   exact ⟨rfl,this⟩
theorem XUx (h:HpR P w0 U ρ H top w) {s t e:TypeId} {y:Operand} (ho:o.op=.convert s t y) (hs:P.underlying s=some .string) (ht:P.underlying t=some (.slice e)) (he:P.underlying e=some (.int .u8)) (hv:VRL ρ vals [a y])
 (hr:XcM (.s2b y) vals H top=some (x,H',top')):Done P w0 U ρ o a w x H' top':=by
 refine XAw h rfl hr fun r hc=>?_
 change XFq vals [] top=some r at hc
 unfold XFq at hc;split at hc
 ·rename_i str _
  obtain ⟨v1,ee,h1⟩:=hv.inv1
  simp only [List.cons.injEq,and_true] at ee
  cases h1
  obtain ⟨c,hcdef⟩:∃ c,(Question.appendCap str.size 0 e).cut (w.tape w.drawn (.appendCap str.size 0 e))=c:=⟨_,rfl⟩
  have hcge:str.size≤c:=by rw [←hcdef];simp [Question.cut]
  have hsz:str.size=str.data.toList.length:=by simp
  have hel:(str.data.map fun b=>Value.int .u8 b.toNat).toList=ofBytes str.data.toList:=by simp [ofBytes]
  have hln:(ofBytes str.data.toList).length=str.size:=by simp [ofBytes]
  refine ⟨_,.slice (some ⟨w.heap.size,0,none⟩) str.size c,ofBytes str.data.toList,ofBytes str.data.toList++List.replicate (c - str.size) (.int .u8 0),e,true,c,c+1,.inr (Option.some.inj hc).symm,⟨true,?_⟩,?_,?_,?_,?_⟩
  ·have harr:(str.data.map fun b=>Value.int .u8 b.toNat)++Array.replicate (c - str.size) (Value.int .u8 0)=⟨ofBytes str.data.toList++List.replicate (c - str.size) (.int .u8 0)⟩:=by
    apply Array.ext';simp [ofBytes]
   have hasz:(⟨ofBytes str.data.toList++List.replicate (c - str.size) (.int .u8 0)⟩:Array Value).size=c:=by simp [ofBytes];omega
   simp only [execOp,ho,Sem.run_bind,Go.convert,run_underlying hs,run_underlying ht,Result.andThen_ok,ee,run_underlying he,Conv.stringToBytes,run_choose,Question.forced,Bool.false_eq_true,↓reduceIte,hcdef,newRow,run_newObj,Sem.run_pure,harr,markStringish,World.alloc_eq,World.drew_eq,run_shape]
   rw [show w.drew.heap.size=w.heap.size from rfl]
   have hsh:=XAU w.drew ⟨ofBytes str.data.toList++List.replicate (c - str.size) (.int .u8 0)⟩ e
   rw [show w.drew.heap.size=w.heap.size from rfl] at hsh
   rw [hsh]
   simp only [run_freeze,Result.andThen_ok]
   have hfz:=Xw9 w.drew ⟨ofBytes str.data.toList++List.replicate (c - str.size) (.int .u8 0)⟩ e c
   rw [show w.drew.heap.size=w.heap.size from rfl] at hfz
   rw [hasz,hfz]
  ·left;simp [hln];omega
  ·simp
  ·rw [List.take_left']
   ·exact VRL.flat _ _ (XlC _)
   ·rfl
  ·have:=VR.slice (ρ:=upd ρ top ⟨w.heap.size,0,(ofBytes str.data.toList++List.replicate (c - str.size) (Value.int .u8 0)).length⟩) (b:=top) (o:=0) (n:=str.data.toList.length) (sz:=1) (c:=c) (upd_same _ _ _) (by omega) (by simp [hln];omega)
   rw [hsz]
   simpa using this
 ·cases hc
theorem XKp (h:HpR P w0 U ρ H top w) {t e:TypeId} {i:TypeInfo} {z:Value} {y n:Operand} (ho:o.op=.makeSlice t y n) (hd:P.underlying t=some (.slice e)) (hi:P.info? e=some i) (hz:i.zero=some z) (hf:Xbm z=true)
 (hl:(XaX z).length=i.size) (h1:1≤i.size) (hv:VRL ρ vals [a y,a n])
 (hr:XcM (.mkSl i.size i.bytes (XaX z) y n) vals H top=some (x,H',top')):Done P w0 U ρ o a w x H' top':=by
 refine XAw h rfl hr fun r hc=>?_
 change Xs7 i.size i.bytes (XaX z) vals [] top=some r at hc
 unfold Xs7 at hc;split at hc
 ·rename_i k l k' c _
  obtain ⟨v1,v2,ee,h3,h4⟩:=hv.inv2
  simp only [List.cons.injEq,and_true] at ee
  obtain ⟨e1,e2⟩:=ee
  cases h3;cases h4
  split at hc
  ·rename_i hb
   obtain ⟨b1,b2,b3,b4⟩:=hb
   have hrl:((List.replicate c.toNat (XaX z)).flatten).length=c.toNat*i.size:=by simp [hl]
   refine ⟨_,.slice (some ⟨w.heap.size,0,none⟩) l.toNat c.toNat,_,(List.replicate c.toNat (XaX z)).flatten,e,true,0,0,.inr (Option.some.inj hc).symm,⟨false,?_⟩,.inr (Nat.le_refl _),Nat.le_refl _,by rw [List.take_length];exact Xsp ρ z hf _,?_⟩
   ·have w1:IntKind.i64.wrap l=l:=by
     unfold IntKind.wrap IntKind.bits;simp;omega
    have w2:IntKind.i64.wrap c=c:=by
     unfold IntKind.wrap IntKind.bits;simp;omega
    have hrf:=Xom z c.toNat (by omega)
    rw [hl] at hrf
    have t1:(decide (c<0)||decide ((i.bytes:Int)*c>2^48))=false:=by simp;omega
    simp only [execOp,ho,Instr.makeSlice,Sem.run_bind,run_underlying hd,Result.andThen_ok,e1,e2,asInt,asIntOf,Sem.run_pure,run_typeInfo (w:=w) hi,w1,w2,t1]
    simp only [Bool.false_or,Bool.or_eq_true,decide_eq_true_eq,show ¬ (l<0∨l>c) by omega,↓reduceIte,Sem.run_bind,run_askRoom,Result.andThen_ok,XdR hi]
    by_cases h0:c.toNat*i.size=0
    ·have hc0:c.toNat=0:=by
      rcases Nat.mul_eq_zero.1 h0 with h|h
      ·exact h
      ·omega
     simp [hc0,newRow]
     congr 2
     apply Array.ext';simp
    ·simp only [h0,↓reduceIte,Sem.run_bind,Xd0 hi hz,Result.andThen_ok,Sem.run_pure,hrf,newRow,run_newObj]
     rfl
   ·have:=VR.slice (ρ:=upd ρ top ⟨w.heap.size,0,((List.replicate c.toNat (XaX z)).flatten).length⟩) (b:=top) (o:=0) (n:=l.toNat) (sz:=i.size) (c:=c.toNat) (upd_same _ _ _) (by omega) (by simp [hl])
    simpa using this
  ·cases hc
 ·cases hc
end
section
variable {P:Program} {w0:World} {U:UG} {ρ:Ren} {o:Oper} {a:Operand→Value} {w:World} {H:Hp} {top:Nat} [NG U top]
 {x:Option Value} {H':Hp} {top':Nat} {vals:List Value}
theorem HpR.congr {P:Program} {w0:World} {U:UG} {ρ:Ren} {H H':Hp} {top:Nat} {w:World} (h:HpR P w0 U ρ H top w) (e:∀ i,XaD H' i=XaD H i):HpR P w0 U ρ H' top w where
 obj i o ho:=h.obj i o (by rw [←e];exact ho)
 dis i j oi oj li lj hij hi hj:=h.dis i j oi oj li lj hij (by rw [←e];exact hi) (by rw [←e];exact hj)
 lt:=h.lt
 keep:=h.keep
theorem XlV {α:Type} {l:List (Nat×α)} {i:Nat} {y:α} (h:XaD l i=some y) (j:Nat):XaD (Xgp l i y) j=XaD l j:=by
 rw [Xa1];split
 ·rename_i e;rw [←e,h]
 ·rfl
theorem Xgg {v:VOp} (hr:XcM v vals H top=some (x,H',top')):∃ objs r,core v vals objs top=some r:=by
 unfold XcM at hr
 split at hr
 ·cases hr
 ·split at hr
  ·cases hr
  ·rename_i h;exact ⟨_,_,h⟩
theorem XlK {v:VOp} {b:Nat} (hn:needs v vals=[b]) (hr:XcM v vals H top=some (x,H',top')) :
 ∃ ob r,XaD H b=some ob∧core v vals [ob] top=some r∧x=r.v∧((r.fresh=none∧H'=Xgv H [b] r.objs∧top'=top)∨(∃ fo,r.fresh=some fo∧H'=Xgp (Xgv H [b] r.objs) top fo∧top'=top+1)):=by
 simp only [XcM,hn,Xjh] at hr
 cases hb:XaD H b with
 | none=>simp [hb] at hr
 | some ob=>
   simp only [hb] at hr
   cases hc:core v vals [ob] top with
   | none=>simp [hc] at hr
   | some r=>
     obtain ⟨rv,ro,rf⟩:=r
     simp only [hc] at hr
     refine ⟨ob,_,rfl,hc,?_⟩
     cases rf with
     | none=>simp only [Option.some.injEq,Prod.mk.injEq] at hr;obtain ⟨rfl,rfl,rfl⟩:=hr;exact ⟨rfl,.inl ⟨rfl,rfl,rfl⟩⟩
     | some fo=>simp only [Option.some.injEq,Prod.mk.injEq] at hr;obtain ⟨rfl,rfl,rfl⟩:=hr;exact ⟨rfl,.inr ⟨fo,rfl,rfl,rfl⟩⟩
theorem Xq2 (h:HpR P w0 U ρ H top w) {v:VOp} {b:Nat} (hn:needs v vals=[b]) (hr:XcM v vals H top=some (x,H',top'))
 (key:∀ ob r l,XaD H b=some ob→ρ b=some l→XmK P ρ w l ob→core v vals [ob] top=some r→∃ u u',r=⟨some u,[some ob],none⟩∧(execOp a o).run P w=.ok (.value u') w∧VR ρ u u') :
 Done P w0 U ρ o a w x H' top':=by
 obtain ⟨ob,r,hb,hc,rfl,hh⟩:=XlK hn hr
 obtain ⟨l,hl,hob,_⟩:=h.obj b ob hb
 obtain ⟨u,u',rfl,hrun,hv⟩:=key ob r l hb hl hob hc
 rcases hh with ⟨_,rfl,rfl⟩|⟨fo,e,_⟩
 ·exact ⟨ρ,w,_,hrun,Ext.refl ρ,h.congr (fun i=>by simp only [Xgv];exact XlV hb i),_,rfl,hv⟩
 ·cases e
theorem XmK.cells {ob:XbO} {l:Loc} {cs:List Value} (h:XmK P ρ w l ob) (hc:ob.cs=some cs):∃ own,Xbt ρ w l own cs:=by
 cases ob with
 | cells c=>simp only [XbO.cs,Option.some.injEq] at hc;subst hc;exact ⟨true,h⟩
 | row own c=>simp only [XbO.cs,Option.some.injEq] at hc;subst hc;exact ⟨own,h⟩
 | ty t c=>simp only [XbO.cs,Option.some.injEq] at hc;subst hc;exact ⟨true,h.1⟩
 | _=>simp [XbO.cs] at hc
theorem Xbt.values {l:Loc} {own:Bool} {cs:List Value} (h:Xbt ρ w l own cs) (q n:Nat) (hn:q+n≤cs.length) :
 ∃ vs,VRL ρ ((cs.drop q).take n) vs∧vs.length=n∧∀ j v,vs[j]?=some v→w.cell? ⟨l.blk,l.sh+q+j,none⟩=some v:=by
 induction n with
 | zero=>exact ⟨[],by simpa using VRL.nil,rfl,fun j v e=>by simp at e⟩
 | succ n ih=>
   obtain ⟨vs,h1,h2,h3⟩:=ih (by omega)
   have hlt:q+n<cs.length:=by omega
   obtain ⟨v',hc,hv⟩:=h.2.1 (q+n) cs[q+n] (List.getElem?_eq_getElem hlt)
   refine ⟨vs++[v'],?_,by simp [h2],fun j v e=>?_⟩
   ·have:(cs.drop q).take (n+1)=(cs.drop q).take n++[cs[q+n]]:=by
     rw [List.take_succ_eq_append_getElem (by simp;omega)]
     simp
    rw [this]
    exact VRL.append h1 (.cons hv .nil)
   ·rcases Nat.lt_or_ge j n with hj|hj
    ·rw [List.getElem?_append_left (by omega)] at e
     exact h3 j v e
    ·rw [List.getElem?_append_right (by omega)] at e
     have:j=n:=by
      rcases Nat.eq_or_lt_of_le hj with h|h
      ·exact h.symm
      ·rw [List.getElem?_eq_none (by simp;omega)] at e;cases e
     subst this
     simp [h2] at e
     subst e
     rw [←hc];congr 2;omega
theorem addr_add (b q j:Nat):Addr.add ⟨b,q,none⟩ j=⟨b,q+j,none⟩:=by
 unfold Addr.add;split
 ·rename_i h;subst h;rfl
 ·rfl
theorem Xf2 {l:Loc} {q n:Nat} {vs:List Value} (hl:vs.length=n) (h:∀ j v,vs[j]?=some v→w.cell? ⟨l.blk,l.sh+q+j,none⟩=some v) :
 (loadCells ⟨l.blk,l.sh+q,none⟩ n).run P w=.ok ⟨vs⟩ w:=by
 subst hl
 exact run_loadCells_list w ⟨l.blk,l.sh+q,none⟩ vs fun j v e=>by rw [addr_add];exact h j v e
theorem XFU (h:HpR P w0 U ρ H top w) {t:TypeId} {d:TypeDesc} {k:SK} {y:Operand} (ho:o.op=.load t y) (hd:P.underlying t=some d) (ha:Xgb P t=false) (hv:VRL ρ vals [a y])
 (hr:XcM (.load1 k y) vals H top=some (x,H',top')):Done P w0 U ρ o a w x H' top':=by
 have hn:∃ b q,vals=[.pointer (some ⟨b,q,none⟩)]:=by
  obtain ⟨objs,rr,hc⟩:=Xgg hr
  change Xka vals objs=_ at hc
  unfold Xka at hc
  split at hc
  ·exact ⟨_,_,rfl⟩
  ·cases hc
 obtain ⟨b,q,rfl⟩:=hn
 obtain ⟨v1,e,h1⟩:=hv.inv1
 simp only [List.cons.injEq,and_true] at e
 refine Xq2 h (b:=b) rfl hr fun ob r l hb hl hob hc=>?_
 simp only [core,Xka] at hc
 split at hc
 ·rename_i cs hcs
  split at hc
  ·rename_i v hg
   obtain ⟨own,hcr⟩:=hob.cells hcs
   obtain ⟨v',hv',hvr⟩:=hcr.2.1 q v hg
   cases h1 with|ptr hl'=>
   rw [hl] at hl';cases hl'
   refine ⟨v,v',(Option.some.inj hc).symm,?_,hvr⟩
   simp [execOp,ho,Instr.loadAt,e,Instr.sureAddr,loadVar,Xfx hd,ha,hv']
  ·cases hc
 ·cases hc
theorem XGK (h:HpR P w0 U ρ H top w) {t:TypeId} {d:TypeDesc} {i:TypeInfo} {ks:List SK} {y:Operand} (ho:o.op=.load t y) (hd:P.underlying t=some d) (ha:Xgb P t=true) (hi:P.info? t=some i) (hk:ks.length=i.size) (hv:VRL ρ vals [a y])
 (hr:XcM (.loadN ks y) vals H top=some (x,H',top')):Done P w0 U ρ o a w x H' top':=by
 have hn:∃ b q,vals=[.pointer (some ⟨b,q,none⟩)]:=by
  obtain ⟨objs,rr,hc⟩:=Xgg hr
  change Xj0 ks.length vals objs=_ at hc
  unfold Xj0 at hc
  split at hc
  ·exact ⟨_,_,rfl⟩
  ·cases hc
 obtain ⟨b,q,rfl⟩:=hn
 obtain ⟨v1,e,h1⟩:=hv.inv1
 simp only [List.cons.injEq,and_true] at e
 refine Xq2 h (b:=b) rfl hr fun ob r l hb hl hob hc=>?_
 simp only [core,Xj0] at hc
 split at hc
 ·rename_i cs hcs
  split at hc
  ·rename_i hle
   obtain ⟨own,hcr⟩:=hob.cells hcs
   obtain ⟨vs,g1,g2,g3⟩:=hcr.values q ks.length hle
   cases h1 with|ptr hl'=>
   rw [hl] at hl';cases hl'
   refine ⟨_,.agg ⟨vs⟩,(Option.some.inj hc).symm,?_,.agg g1⟩
   simp only [execOp,ho,Instr.loadAt,e,Instr.sureAddr,loadVar,Sem.run_bind,Sem.run_pure,Xfx hd,ha,Result.andThen_ok,↓reduceIte,XdR hi,←hk,Xf2 g2 g3]
  ·cases hc
 ·cases hc
theorem Xkl {α:Type}:∀ (vs cs:List α) (q i:Nat),q+vs.length≤cs.length→(setAt cs q vs)[i]?=if q≤i∧i<q+vs.length then vs[i - q]? else cs[i]?
 | [],cs,q,i,_=>by
   simp only [setAt,List.length_nil,Nat.add_zero]
   rw [if_neg (by omega)]
 | v::vs,cs,q,i,h=>by
   simp only [List.length_cons] at h
   rw [setAt,Xkl vs (cs.set q v) (q+1) i (by simp;omega)]
   simp only [List.length_cons]
   by_cases h1:i=q
   ·subst h1
    rw [if_neg (by omega),if_pos (by omega)]
    simp [show i<cs.length by omega]
   ·by_cases h2:q≤i∧i<q+(vs.length+1)
    ·rw [if_pos (by omega),if_pos h2]
     rw [show i - q=(i - (q+1))+1 by omega,List.getElem?_cons_succ]
    ·rw [if_neg (by omega),if_neg h2,List.getElem?_set_ne (by omega)]
theorem XPL (v:Value):v.oneCell'=Xij v:=by cases v<;>rfl
theorem XrZ (w:World) (b q:Nat) (v:Value) (b':Nat):(w.setCell ⟨b,q,none⟩ v).shape? b'=w.shape? b':=by
 unfold World.shape? World.setCell
 simp only [Array.getElem?_modify]
 by_cases h:b=b'
 ·subst h
  cases w.heap[b]? with
  | none=>simp
  | some x=>cases x<;>simp
 ·simp [h]
theorem XiK (b q:Nat):∀ (vs:List Value) (i:Nat) (w:World),(∀ j,j<vs.length→(w.cell? ⟨b,q+i+j,none⟩).isSome=true∧w.frozen? ⟨b,q+i+j,none⟩=false)→vs.all Xij=true →
 ∃ w',(storeCells ⟨b,q,none⟩ vs i).run P w=.ok () w'∧(∀ j v,vs[j]?=some v→w'.cell? ⟨b,q+i+j,none⟩=some v) ∧
  (∀ b' k,¬ (b'=b∧q+i≤k∧k<q+i+vs.length)→w'.cell? ⟨b',k,none⟩=w.cell? ⟨b',k,none⟩)∧(∀ b' k,w'.frozen? ⟨b',k,none⟩=w.frozen? ⟨b',k,none⟩) ∧
  (∀ b',b'≠b→w'.heap[b']?=w.heap[b']?)∧(vs=[]→w'=w) ∧
  (∀ w0 U,Keep U w0 w→(∀ k,q+i≤k→k<q+i+vs.length→U.u b k∨w0.heap.size≤b)→Keep U w0 w')∧(∀ b',w'.shape? b'=w.shape? b')
 | [],i,w,_,_=>⟨w,rfl,fun j v e=>by simp at e,fun _ _ _=>rfl,fun _ _=>rfl,fun _ _=>rfl,fun _=>rfl,fun _ _ k _=>k,fun _=>rfl⟩
 | v::vs,i,w,h,h1=>by
   simp only [List.all_cons,Bool.and_eq_true] at h1
   have h0:=h 0 (by simp)
   simp only [Nat.add_zero] at h0
   obtain ⟨u,hu⟩:=Option.isSome_iff_exists.1 h0.1
   obtain ⟨w',e1,e2,e3,e4,e5,e6,e7,e8⟩:=XiK b q vs (i+1) (w.setCell ⟨b,q+i,none⟩ v) (fun j hj=>by
    have hx:=h (j+1) (by simp;omega)
    rw [show q+(i+1)+j=q+i+(j+1) by omega]
    rw [World.cell?_setCell_other _ _ _ _ (by intro e;injection e with _ e _;omega),World.frozen?_setCell]
    exact hx) h1.2
   refine ⟨w',?_,?_,?_,?_,?_,?_,?_,fun b'=>by rw [e8,XrZ]⟩
   ·simp only [storeCells,Sem.run_bind,addr_add,run_store P w _ v _ (by rw [XPL];exact h1.1),hu,h0.2,Bool.false_eq_true,↓reduceIte,Result.andThen_ok,e1]
   ·intro j x hx
    cases j with
    | zero=>
      simp at hx;subst hx
      rw [e3 _ _ (by omega),Nat.add_zero]
      exact World.cell?_setCell_same _ _ _ hu
    | succ j=>
      rw [show q+i+(j+1)=q+(i+1)+j by omega]
      exact e2 j x (by simpa using hx)
   ·intro b' k hk
    simp only [List.length_cons] at hk
    rw [e3 b' k (by omega)]
    exact World.cell?_setCell_other _ _ _ _ (by intro e;injection e with e1 e2 _;exact hk ⟨e1.symm,by omega,by omega⟩)
   ·intro b' k;rw [e4,World.frozen?_setCell]
   ·intro b' hb;rw [e5 b' hb];exact Below.heap_setCell _ _ _ _ hb
   ·intro e;cases e
   ·intro w0 U hk hu'
    simp only [List.length_cons] at hu'
    exact e7 w0 U (hk.setCell b (q+i) v (hu' _ (by omega) (by omega))) (fun k h1 h2=>hu' k (by omega) (by omega))
theorem VRL.Xij {l l':List Value} (h:VRL ρ l l'):l.all Xij=l'.all Xij:=by
 induction l generalizing l' with
 | nil=>cases h;rfl
 | cons v l ih=>cases h with|cons h hl=>simp only [List.all_cons,h.one,ih hl]
theorem XUa {ob ob':XbO} {cs:List Value} (h:ob.wr cs=some ob'):writable ob=true∧((∃ c,ob=.cells c∧ob'=.cells cs)∨(∃ c,ob=.row true c∧ob'=.row true cs)∨∃ t c,ob=.ty t c∧ob'=.ty t cs):=by
 unfold XbO.wr at h
 split at h<;>cases h
 ·exact ⟨rfl,.inl ⟨_,rfl,rfl⟩⟩
 ·exact ⟨rfl,.inr (.inl ⟨_,rfl,rfl⟩)⟩
 ·exact ⟨rfl,.inr (.inr ⟨_,_,rfl,rfl⟩)⟩
theorem XvD {P:Program} {w0:World} {U:UG} {ρ:Ren} {H:Hp} {top:Nat} {w:World} (h:HpR P w0 U ρ H top w) {b q:Nat} {ob ob':XbO} {l:Loc} {cs vs rs:List Value} (hb:XaD H b=some ob) (hl:ρ b=some l) (hc:ob.cs=some cs) (hw:ob.wr (setAt cs q vs)=some ob') (hr:VRL ρ vs rs) (h1:vs.all Xij=true) (hle:q+vs.length≤cs.length) :
 ∃ w',(storeCells ⟨l.blk,l.sh+q,none⟩ rs 0).run P w=.ok () w'∧HpR P w0 U ρ (Xgp H b ob') top w':=by
 obtain ⟨l',hl',hob,hwr⟩:=h.obj b ob hb
 rw [hl] at hl';cases hl'
 obtain ⟨hwo,hsh⟩:=XUa hw
 have hcr:Xbt ρ w l true cs:=by
  rcases hsh with ⟨c,rfl,_⟩|⟨c,rfl,_⟩|⟨t,c,rfl,_⟩
  ·simp only [XbO.cs,Option.some.injEq] at hc;subst hc;exact hob
  ·simp only [XbO.cs,Option.some.injEq] at hc;subst hc;exact hob
  ·simp only [XbO.cs,Option.some.injEq] at hc;subst hc;exact hob.1
 have hlen:=hr.length
 have hext:cs.length≤l.ext:=hcr.1
 obtain ⟨w',e1,e2,e3,e4,e5,e6,e7,e8⟩:=XiK (P:=P) l.blk (l.sh+q) rs 0 w (fun j hj=>by
  have:=hcr.2.2 (q+j) (by omega)
  rw [show l.sh+q+0+j=l.sh+(q+j) by omega]
  exact ⟨this.1,this.2 rfl⟩) (by rw [←hr.Xij];exact h1)
 refine ⟨w',e1,?_⟩
 have hnew:Xbt ρ w' l true (setAt cs q vs):=by
  refine ⟨by rw [XjP];exact hext,fun i v hi=>?_,fun i hi=>⟨?_,fun _=>?_⟩⟩
  ·rw [Xkl _ _ _ _ hle] at hi
   split at hi
   ·rename_i hin
    obtain ⟨v',g1,g2⟩:=hr.get hi
    refine ⟨v',?_,g2⟩
    have:=e2 (i - q) v' g1
    rw [show l.sh+q+0+(i - q)=l.sh+i by omega] at this
    exact this
   ·rename_i hout
    obtain ⟨v',g1,g2⟩:=hcr.2.1 i v hi
    exact ⟨v',by rw [e3 _ _ (by omega)];exact g1,g2⟩
  ·by_cases hin:q≤i∧i<q+rs.length
   ·have hj:i - q<rs.length:=by omega
    have:=e2 (i - q) _ (List.getElem?_eq_getElem hj)
    rw [show l.sh+q+0+(i - q)=l.sh+i by omega] at this
    rw [this];rfl
   ·rw [e3 _ _ (by omega)];exact (hcr.2.2 i hi).1
  ·rw [e4];exact (hcr.2.2 i hi).2 rfl
 have hk:Keep U w0 w':=e7 w0 U h.keep (fun k k1 k2=>hwr hwo k (by omega) (by omega))
 have hbk:∀ (b':Nat),(∀ c t f,w.heap[b']?≠some (Obj.cells c t f))→w'.heap[b']?=w.heap[b']?:=by
  intro b' hb'
  by_cases hbb:b'=l.blk
  ·subst hbb
   cases rs with
   | nil=>rw [e6 rfl]
   | cons r rs=>
     exfalso
     have:=(hcr.2.2 q (by simp at hlen;omega)).1
     unfold World.cell? at this
     cases hh:w.heap[l.blk]? with
     | none=>simp [hh] at this
     | some y=>cases y<;>simp [hh] at this<;>exact hb' _ _ _ hh
  ·exact e5 b' hbb
 have hnewO:XmK P ρ w' l ob':=by
  rcases hsh with ⟨c,_,rfl⟩|⟨c,_,rfl⟩|⟨t,c,rfl,rfl⟩
  ·exact hnew
  ·exact hnew
  ·exact ⟨hnew,hob.2.1,by rw [e8];exact hob.2.2⟩
 exact h.put hb hl hwo hk hnewO (fun b' k hk'=>e3 b' k (by omega)) (fun b' k _=>e4 b' k) (fun b' hb' _=>hbk b' hb') (fun b' x hx=>by rw [e8];exact hx)
theorem XFC (h:HpR P w0 U ρ H top w) {t:TypeId} {i:TypeInfo} {y z:Operand} (ho:o.op=.store t y z) (hi:P.info? t=some i) (hv:VRL ρ vals [a y,a z])
 (hr:XcM (.store i.size y z) vals H top=some (x,H',top')):Done P w0 U ρ o a w x H' top':=by
 have hn:∃ b q v,vals=[.pointer (some ⟨b,q,none⟩),v]:=by
  obtain ⟨objs,rr,hc⟩:=Xgg hr
  change Xli i.size vals objs=_ at hc
  unfold Xli at hc
  split at hc
  ·exact ⟨_,_,_,rfl⟩
  ·cases hc
 obtain ⟨b,q,v,rfl⟩:=hn
 obtain ⟨v1,v2,e,h1,h2⟩:=hv.inv2
 simp only [List.cons.injEq,and_true] at e
 obtain ⟨ob,r,hb,hc,rfl,hh⟩:=XlK (b:=b) rfl hr
 simp only [core,Xli] at hc
 split at hc
 ·rename_i cs hcs
  split at hc
  ·rename_i hcond
   obtain ⟨c1,c2,c3⟩:=hcond
   split at hc
   ·rename_i ob' hw
    cases hc
    cases h1 with|ptr hl=>
    have hcl:=h2.cells
    obtain ⟨w',g1,g2⟩:=XvD (P:=P) h hb hl hcs hw hcl c3 (by omega)
    rcases hh with ⟨_,rfl,rfl⟩|⟨fo,e',_⟩
    ·refine ⟨ρ,w',.skip,?_,Ext.refl ρ,g2,rfl⟩
     have hsz:v2.cells.size=i.size:=by
      have:=hcl.length
      simp only [XaX,Array.length_toList] at this c1
      omega
     simp only [execOp,ho,Instr.storeAt,e.1,e.2,Instr.sureAddr,storeVar,Sem.run_bind,Sem.run_pure,Result.andThen_ok,XdR hi,hsz,ne_eq,not_true_eq_false,↓reduceIte]
     have g1':(storeCells ⟨_,_,none⟩ v2.cells.toList).run P w=.ok () w':=g1
     rw [g1'];rfl
    ·cases e'
   ·cases hc
  ·cases hc
 ·cases hc
end
section
variable {P:Program} {w0:World} {U:UG} {ρ:Ren} {o:Oper} {a:Operand→Value} {w:World} {H:Hp} {top:Nat} [NG U top]
 {x:Option Value} {H':Hp} {top':Nat} {vals:List Value}
theorem Xyq (h:HpR P w0 U ρ H top w) {t:TypeId} {y:Operand} (ho:o.op=.range t y) (ht:P.underlying t=some .string) (hv:VRL ρ vals [a y])
 (hr:XcM (.rangeS y) vals H top=some (x,H',top')):Done P w0 U ρ o a w x H' top':=by
 obtain ⟨r,hc,rfl,hh⟩:=XlZ rfl hr
 simp only [core] at hc
 unfold Xv3 at hc;split at hc
 ·rename_i s _
  obtain ⟨v1,e,h1⟩:=hv.inv1
  simp only [List.cons.injEq,and_true] at e
  cases h1
  cases hc
  rcases hh with ⟨e',_⟩|⟨ob,e',rfl,rfl⟩
  ·cases e'
  ·cases e'
   refine ⟨upd ρ top ⟨w.heap.size,0,1⟩,w.alloc (.stringIter s 0),.value (.pointer (some ⟨w.heap.size,0,none⟩)),?_,Ext.upd (h.XoV),?_,_,rfl,.ptr (upd_same _ _ _)⟩
   ·simp [execOp,ho,Instr.range,run_underlying ht,e]
   ·refine h.new (h.keep.alloc _) (Xh7 _ _) ⟨?_,rfl,rfl⟩ (.inl (Nat.le_refl _))
    show (w.heap.push (.stringIter s 0))[w.heap.size]?=_
    simp
 ·cases hc
theorem XuO (w:World) (r:Nat) (ob:Obj) (h:∀ c t f,w.heap[r]?≠some (.cells c t f)) (h':∀ c t f,ob≠.cells c t f) (b k:Nat) :
 ({ w with heap:=w.heap.setIfInBounds r ob }:World).cell? ⟨b,k,none⟩=w.cell? ⟨b,k,none⟩:=by
 by_cases hb:b=r
 ·subst hb
  unfold World.cell?
  simp only [Array.getElem?_setIfInBounds]
  cases hw:w.heap[b]? with
  | none=>
    rw [Array.getElem?_eq_none_iff] at hw
    simp [show ¬ b<w.heap.size by omega]
  | some y=>
    have hlt:b<w.heap.size:=by
     rcases Nat.lt_or_ge b w.heap.size with h|h
     ·exact h
     ·rw [Array.getElem?_eq_none h] at hw;cases hw
    simp only [hlt,↓reduceIte]
    cases y<;>first|exact absurd hw (h _ _ _)|(cases ob<;>first|exact absurd rfl (h' _ _ _)|rfl)
 ·unfold World.cell?
  rw [Xin w r ob b hb]
theorem Xsl (w:World) (r:Nat) (ob:Obj) (h:∀ c t f,w.heap[r]?≠some (.cells c t f)) (h':∀ c t f,ob≠.cells c t f) (b k:Nat) :
 ({ w with heap:=w.heap.setIfInBounds r ob }:World).frozen? ⟨b,k,none⟩=w.frozen? ⟨b,k,none⟩:=by
 by_cases hb:b=r
 ·subst hb
  unfold World.frozen?
  simp only [Array.getElem?_setIfInBounds]
  cases hw:w.heap[b]? with
  | none=>
    rw [Array.getElem?_eq_none_iff] at hw
    simp [show ¬ b<w.heap.size by omega]
  | some y=>
    have hlt:b<w.heap.size:=by
     rcases Nat.lt_or_ge b w.heap.size with h|h
     ·exact h
     ·rw [Array.getElem?_eq_none h] at hw;cases hw
    simp only [hlt,↓reduceIte]
    cases y<;>first|exact absurd hw (h _ _ _)|(cases ob<;>first|exact absurd rfl (h' _ _ _)|rfl)
 ·unfold World.frozen?
  rw [Xin w r ob b hb]
theorem HpR.setObj {P:Program} {w0:World} {U:UG} {ρ:Ren} {H:Hp} {top:Nat} {w:World} (h:HpR P w0 U ρ H top w) {b:Nat} {ob ob':XbO} {l:Loc} {r r':Obj} (hb:XaD H b=some ob) (hl:ρ b=some l) (hwr:writable ob=true) (hle:l.sh=0∧l.ext=1)
 (hr:w.heap[l.blk]?=some r) (hn:∀ c t f,r≠.cells c t f) (hn':∀ c t f,r'≠.cells c t f)
 (ho:XmK P ρ ({ w with heap:=w.heap.setIfInBounds l.blk r' }:World) l ob') :
 HpR P w0 U ρ (Xgp H b ob') top { w with heap:=w.heap.setIfInBounds l.blk r' }:=by
 obtain ⟨l',hl',_,hU⟩:=h.obj b ob hb
 rw [hl] at hl';cases hl'
 have hnc:∀ c t f,w.heap[l.blk]?≠some (.cells c t f):=fun c t f e=>hn c t f (Option.some.inj (hr.symm.trans e))
 refine h.put hb hl hwr (h.keep.setObj l.blk r' (hU hwr 0 (by omega) (by omega)) hnc) ho (fun b' k _=>XuO w l.blk r' hnc hn' b' k) (fun b' k _=>Xsl w l.blk r' hnc hn' b' k) (fun b' _ hne=>?_) (fun b' x hx=>?_)
 rotate_left
 ·by_cases hbl:b'=l.blk
  ·subst hbl;unfold World.shape? at hx;rw [hr] at hx;cases r<;>first|exact absurd rfl (hn _ _ _)|cases hx
  ·unfold World.shape? at hx ⊢;rw [Xin _ _ _ _ hbl];exact hx
 refine Xin w l.blk r' b' fun e=>hne ⟨e,hle.1,by omega⟩
theorem Xho (w:World) (r:Nat) (ob ob':Obj) (h:w.heap[r]?=some ob):({ w with heap:=w.heap.setIfInBounds r ob' }:World).heap[r]?=some ob':=by
 have hlt:r<w.heap.size:=by
  rcases Nat.lt_or_ge r w.heap.size with h'|h'
  ·exact h'
  ·rw [Array.getElem?_eq_none h'] at h;cases h
 show (w.heap.setIfInBounds r ob')[r]?=_
 simp [hlt]
theorem XqX {r:Nat} {ob:Obj} (h:w.heap[r]?=some ob) (hn:∀ c t f,ob≠.cells c t f):(getObj r).run P w=.ok ob w:=by
 cases ob<;>first|exact absurd rfl (hn _ _ _)|simp [getObj,Sem.run,h]
theorem Xxd {r:Nat} {ob ob':Obj} (h:w.heap[r]?=some ob) (hn:∀ c t f,ob≠.cells c t f):(setObj r ob').run P w=.ok () { w with heap:=w.heap.setIfInBounds r ob' }:=by
 cases ob<;>first|exact absurd rfl (hn _ _ _)|simp [Go.setObj,Sem.run,h]
theorem XEc (h:HpR P w0 U ρ H top w) {y:Operand} (ho:o.op=.next y true) (hv:VRL ρ vals [a y])
 (hr:XcM (.nextS y) vals H top=some (x,H',top')):Done P w0 U ρ o a w x H' top':=by
 have hn:∃ b,vals=[.pointer (some ⟨b,0,none⟩)]:=by
  obtain ⟨objs,rr,hc⟩:=Xgg hr
  change XmZ vals objs=_ at hc
  unfold XmZ at hc
  split at hc
  ·exact ⟨_,rfl⟩
  ·cases hc
 obtain ⟨b,rfl⟩:=hn
 obtain ⟨v1,e,h1⟩:=hv.inv1
 simp only [List.cons.injEq,and_true] at e
 obtain ⟨ob,r,hb,hc,rfl,hh⟩:=XlK (b:=b) rfl hr
 cases h1 with|@ptr _ _ l hl=>
 obtain ⟨l',hl',hob,_⟩:=h.obj b ob hb
 rw [hl] at hl';cases hl'
 cases ob<;>simp only [core,XmZ] at hc<;>try (cases hc;done)
 ·rename_i s pos _
  obtain ⟨g1,g2,g3⟩:=hob
  have ha:a y=.pointer (some ⟨l.blk,0,none⟩):=by rw [e,g2]
  split at hc
  ·rename_i hlt
   cases hc
   rcases hh with ⟨_,rfl,rfl⟩|⟨fo,e',_⟩
   ·refine ⟨ρ,{ w with heap:=w.heap.setIfInBounds l.blk (.stringIter s (pos+(Utf8.decode s pos).2)) },.value (.tuple #[.bool true,.int .i64 pos,.int .i32 (Utf8.decode s pos).1]),?_,Ext.refl ρ,?_,_,rfl,.tuple (.cons (.bool _) (.cons (.int _ _) (.cons (.int _ _) .nil)))⟩
    ·simp only [execOp,ho,Instr.next,ha,Sem.run_bind,XqX g1 (by simp),Result.andThen_ok,hlt,↓reduceIte,Xxd g1 (by simp),Sem.run_pure,goInt]
    ·exact h.setObj hb hl rfl ⟨g2,g3⟩ g1 (by simp) (by simp) ⟨Xho _ _ _ _ g1,g2,g3⟩
   ·cases e'
  ·rename_i hlt
   cases hc
   rcases hh with ⟨_,rfl,rfl⟩|⟨fo,e',_⟩
   ·refine ⟨ρ,w,.value (.tuple #[.bool false]),?_,Ext.refl ρ,h.congr (fun i=>XlV hb i),_,rfl,.tuple (.cons (.bool _) .nil)⟩
    simp only [execOp,ho,Instr.next,ha,Sem.run_bind,XqX g1 (by simp),Result.andThen_ok,hlt,↓reduceIte,Sem.run_pure]
   ·cases e'
theorem XlH:∀ {l:List Value} {bs:List UInt8},Xg7 l=some bs→∃ ns:List Int,l=ns.map (Value.int .u8)∧bs=ns.map fun n=>UInt8.ofNat n.toNat
 | [],bs,h=>by simp only [Xg7,Option.some.injEq] at h;subst h;exact ⟨[],rfl,rfl⟩
 | v::l,bs,h=>by
   unfold Xg7 at h
   split at h
   ·rename_i he;cases he
   ·rename_i n l' he
    cases he
    split at h
    ·rename_i bs' hb
     cases h
     obtain ⟨ns,e1,e2⟩:=XlH hb
     exact ⟨n::ns,by simp [e1],by simp [e2]⟩
    ·cases h
   ·cases h
theorem VRL.ints {k:IntKind} {ns:List Int} {l:List Value} (h:VRL ρ (ns.map (Value.int k)) l):l=ns.map (Value.int k):=by
 induction ns generalizing l with
 | nil=>exact h.inv0
 | cons n ns ih=>
   obtain ⟨v',l',rfl,h1,h2⟩:=h.inv
   cases h1
   rw [ih h2];rfl
theorem XAs (ns:List Int):∀ (s:ByteArray),ns.foldl (fun r n=>r.push (UInt8.ofNat n.toNat)) s=⟨⟨s.data.toList++ns.map fun n=>UInt8.ofNat n.toNat⟩⟩:=by
 induction ns with
 | nil=>intro s;simp
 | cons n ns ih=>
   intro s
   rw [List.foldl_cons,ih]
   simp [ByteArray.push]
theorem XS6 (h:HpR P w0 U ρ H top w) {s t e:TypeId} {y:Operand} (ho:o.op=.convert s t y) (hs:P.underlying s=some (.slice e)) (ht:P.underlying t=some .string) (he:P.underlying e=some (.int .u8)) (hv:VRL ρ vals [a y])
 (hr:XcM (.b2s y) vals H top=some (x,H',top')):Done P w0 U ρ o a w x H' top':=by
 have hn:(∃ c,vals=[.slice none 0 c])∨∃ b q n,vals=[.slice (some ⟨b,q,none⟩) n 1]:=by
  obtain ⟨objs,rr,hc⟩:=Xgg hr
  change Xsj vals objs=_ at hc
  unfold Xsj at hc
  split at hc
  ·exact .inl ⟨_,rfl⟩
  ·exact .inr ⟨_,_,_,rfl⟩
  ·cases hc
 obtain ⟨v1,e1,h1⟩:∃ v1,a y=v1∧VRL ρ vals [v1]:=⟨_,rfl,hv⟩
 rcases hn with ⟨c,rfl⟩|⟨b,q,n,rfl⟩
 ·obtain ⟨v2,e2,h2⟩:=h1.inv1
  simp only [List.cons.injEq,and_true] at e2
  subst e2
  refine XdW h rfl hr fun r hc=>?_
  simp only [core,Xsj] at hc
  obtain ⟨_,rfl⟩:=Value.XnR h2
  refine ⟨_,_,Xb2 hc,?_,.string _⟩
  simp only [execOp,ho,Sem.run_bind,e1,run_convert_bytes_string (P:=P) w s t e none 0 0 hs he ht]
  rfl
 ·obtain ⟨v2,e2,h2⟩:=h1.inv1
  simp only [List.cons.injEq,and_true] at e2
  subst e2
  refine Xq2 h (b:=b) rfl hr fun ob r l hb hl hob hc=>?_
  simp only [core,Xsj] at hc
  split at hc
  ·rename_i cs hcs
   split at hc
   ·rename_i hle
    split at hc
    ·rename_i bs hbs
     obtain ⟨own,hcr⟩:=hob.cells hcs
     obtain ⟨vs,g1,g2,g3⟩:=hcr.values q n hle
     obtain ⟨ns,n1,n2⟩:=XlH hbs
     rw [n1] at g1
     have hvs:=g1.ints
     refine ⟨_,_,(Option.some.inj hc).symm,?_,.string _⟩
     have hstr:ns.foldl (fun r n=>r.push (UInt8.ofNat n.toNat)) ByteArray.empty=⟨⟨bs⟩⟩:=by rw [XAs,n2];simp
     cases h2 with
     | @slice _ _ _ _ c ll hll hnc hcap=>
       rw [hl] at hll;cases hll
       have hload:=Xf2 (P:=P) (w:=w) g2 g3
       rw [hvs] at hload
       simp only [execOp,ho,Sem.run_bind,e1,run_convert_bytes_string (P:=P) w s t e _ _ _ hs he ht,run_bytesToString w _ n c ns hload,hstr,Result.andThen_ok,Sem.run_pure]
     | slice0 ad=>
       have hns:ns=[]:=by
        have:ns.length=0:=by rw [←g2,hvs];simp
        exact List.length_eq_zero_iff.1 this
       subst hns
       simp only [List.map_nil] at n2
       subst n2
       cases ad with
       | none=>
         simp only [execOp,ho,Sem.run_bind,e1,run_convert_bytes_string (P:=P) w s t e none 0 0 hs he ht]
         rfl
       | some ad=>
         have hload:(loadCells ad 0).run P w=.ok (([]:List Int).map (Value.int .u8)).toArray w:=rfl
         simp only [execOp,ho,Sem.run_bind,e1,run_convert_bytes_string (P:=P) w s t e _ _ _ hs he ht,run_bytesToString w ad 0 0 [] hload,hstr,Result.andThen_ok,Sem.run_pure]
    ·cases hc
   ·cases hc
  ·cases hc
theorem Xzz (h:HpR P w0 U ρ H top w) {t e:TypeId} {n:Nat} {j:TypeInfo} {y:Operand} {lo hi:Option Operand} (ho:o.op=.slice t y lo hi none) (ht:P.underlying t=some (.array n e)) (hj:P.info? e=some j)
 (hv:VRL ρ vals ((y::(lo.toList++hi.toList)).map a)) (hr:XcM (.sliceA n j.size y lo hi) vals H top=some (x,H',top')):Done P w0 U ρ o a w x H' top':=by
 have hn:∃ b q bs,vals=.pointer (some ⟨b,q,none⟩)::bs:=by
  obtain ⟨objs,rr,hc⟩:=Xgg hr
  change XjR n j.size lo.isSome hi.isSome vals objs=_ at hc
  unfold XjR at hc
  split at hc
  ·exact ⟨_,_,_,rfl⟩
  ·cases hc
 obtain ⟨b,q,bs,rfl⟩:=hn
 obtain ⟨v1,l',e,h1,h2⟩:=hv.inv
 simp only [List.map_cons,List.cons.injEq] at e
 obtain ⟨e1,e2⟩:=e
 rw [←e2] at h2
 refine Xq2 h (b:=b) rfl hr fun ob r l hb hl hob hc=>?_
 simp only [core,XjR] at hc
 split at hc
 ·rename_i cs hcs
  split at hc
  ·rename_i hle
   split at hc
   ·rename_i lw r' hlh
    obtain ⟨own,hcr⟩:=hob.cells hcs
    obtain ⟨hb',hlr,hrn⟩:=XnK (P:=P) (w:=w) h2 hlh (Nat.le_refl n) false
    cases h1 with|ptr hl'=>
    rw [hl] at hl';cases hl'
    have hext:cs.length≤l.ext:=hcr.1
    by_cases hcl:n=lw
    ·subst hcl
     have:r' - n=0:=by omega
     refine ⟨_,.slice (some ⟨l.blk,l.sh+q,none⟩) 0 0,(Option.some.inj hc).symm,?_,?_⟩
     ·simp only [execOp,ho,Instr.sliceAt,Sem.run_bind,run_underlying ht,Result.andThen_ok,e1,Instr.sureAddr,Sem.run_pure,Option.map_none,hb',XdR hj]
      simp [this]
     ·rw [this];exact .slice0 _
    ·refine ⟨_,.slice (some ⟨l.blk,l.sh+(q+lw*j.size),none⟩) (r' - lw) (n - lw),(Option.some.inj hc).symm,?_,.slice hl (by omega) ?_⟩
     ·simp only [execOp,ho,Instr.sliceAt,Sem.run_bind,run_underlying ht,Result.andThen_ok,e1,Instr.sureAddr,Sem.run_pure,Option.map_none,hb',XdR hj,if_neg hcl,addr_add]
      simp [Nat.add_assoc]
     ·have:lw*j.size+(n - lw)*j.size=n*j.size:=by rw [←Nat.add_mul];congr 1;omega
      omega
   ·cases hc
  ·cases hc
 ·cases hc
end
section
variable {P:Program} {w0:World} {U:UG} {ρ:Ren} {o:Oper} {a:Operand→Value} {w:World} {H:Hp} {top:Nat} [NG U top]
 {x:Option Value} {H':Hp} {top':Nat} {vals:List Value}
theorem XhK {t u ty e:TypeId} {i:TypeInfo} {z:Value} {du:TypeDesc} (ht:P.underlying t=some (.slice e)) (hu:P.underlying u=some du) (hdu:du=.string∨∃ e',du=.slice e') (hi:P.info? e=some i) (hz:i.zero=some z)
 {base:Option Addr} {n c m:Nat} {y:Value} {olds news:List Value} (hlen:∀ w,(Builtin.lenOf y).run P w=.ok m w)
 (ho:(Builtin.firstCells i.size n (.slice base n c)).run P w.drew=.ok ⟨olds⟩ w.drew) (hn:(Builtin.firstCells i.size m y).run P w=.ok ⟨news⟩ w) (hn':(Builtin.firstCells i.size m y).run P w.drew=.ok ⟨news⟩ w.drew)
 (h1:1≤i.bytes) (hb:(n+m)*i.bytes≤2^47) :
 (n+m≤c→(Builtin.append_ #[t,u] ty #[.slice base n c,y]).run P w=(((match base with|some ad=>storeCells (ad.add (n*i.size)) news|none=>pure ()):Sem Unit).run P w).andThen fun _ w'=>.ok (.slice base (n+m) c) w') ∧
 (c<n+m→(Builtin.append_ #[t,u] ty #[.slice base n c,y]).run P w =
   .ok (.slice (some ⟨w.heap.size,0,none⟩) (n+m) (grownCap w (n+m) c e)) (w.drew.alloc (.cells ⟨olds++news++(Builtin.zeroCells z.cells (grownCap w (n+m) c e - (n+m))).toList⟩ e))):=by
 constructor
 ·intro hle
  rcases hdu with rfl|⟨e',rfl⟩
  all_goals
   simp only [Builtin.append_,List.getElem?_toArray,List.getElem?_cons_zero,List.getElem?_cons_succ,Sem.run_bind,run_underlying ht,run_underlying hu,Result.andThen_ok,XdR hi,Sem.run_pure,Bool.false_eq_true,↓reduceIte,hlen,hle,Bool.not_false,hn]
   cases base<;>simp
 ·intro hlt
  have hle:¬ (n+m≤c):=by omega
  have hfit:=growslice_fits (need:=n+m) (old:=c) (bytes:=i.bytes) hlt (by simpa using hb)
  have h48:¬ (Builtin.nextslicecap (n+m) c*i.bytes>2^48):=by omega
  have hne:¬ (i.bytes=0):=by omega
  have harr:(⟨olds⟩:Array Value)++⟨news⟩++Builtin.zeroCells z.cells (grownCap w (n+m) c e - (n+m))=⟨olds++news++(Builtin.zeroCells z.cells (grownCap w (n+m) c e - (n+m))).toList⟩:=by
   apply Array.ext';simp
  rw [←harr]
  rcases hdu with rfl|⟨e',rfl⟩
  all_goals
   simp only [Builtin.append_,List.getElem?_toArray,List.getElem?_cons_zero,List.getElem?_cons_succ,Sem.run_bind,run_underlying ht,run_underlying hu,Result.andThen_ok,XdR hi,Sem.run_pure,Bool.false_eq_true,↓reduceIte,hlen,hle,Bool.not_false,run_typeInfo (w:=w) hi]
   simp only [false_or,hne,and_false,↓reduceIte,Sem.run_bind,run_typeInfo (w:=w) hi,Result.andThen_ok,h48,run_choose,Question.forced,Bool.false_eq_true,World.drew_eq]
   simp only [run_typeInfo (w:=w.drew) hi,Result.andThen_ok,Sem.run_bind,run_askRoom,ho,hn',Xd0 hi hz,newRow,run_newObj,Sem.run_pure]
   rfl
theorem HpR.move (h:HpR P w0 U ρ H top w) {b q:Nat} {l:Loc} {cs:List Value} {ext:Nat} (hb:XaD H b=some (.row true cs)) (hl:ρ b=some l) (hq:q+ext≤l.ext) (hc:(cs.drop q).length≤ext) :
 HpR P w0 U (upd ρ top ⟨l.blk,l.sh+q,ext⟩) (Xgp (XoP H b) top (.row true (cs.drop q))) (top+1) w:=by
 have hnb:b≠top:=fun e=>by subst e;rw [h.XoV] at hl;cases hl
 obtain ⟨l',hl',hob,hwr⟩:=h.obj b _ hb
 rw [hl] at hl';cases hl'
 have hx:Ext ρ (upd ρ top ⟨l.blk,l.sh+q,ext⟩):=Ext.upd (h.XoV)
 have hcr:Xbt ρ w l true cs:=hob
 refine ⟨fun i ob hi=>?_,fun i j oi oj li lj hij hi hj hli hlj hw=>?_,fun i l' e=>?_,h.keep⟩
 ·rw [Xa1] at hi
  by_cases h1:top=i
  ·subst h1
   rw [if_pos rfl] at hi;cases hi
   refine ⟨_,upd_same _ _ _,⟨hc,fun k v e=>?_,fun k hk=>?_⟩,fun _ k k1 k2=>hwr rfl k (by simp at k1;omega) (by simp at k2;omega)⟩
   ·rw [List.getElem?_drop] at e
    obtain ⟨v',g1,g2⟩:=hcr.2.1 _ v e
    exact ⟨v',by rw [←g1];congr 2;simp;omega,g2.mono hx⟩
   ·have:=hcr.2.2 (q+k) (by simp at hk;omega)
    rw [show l.sh+(q+k)=(⟨l.blk,l.sh+q,ext⟩:Loc).sh+k by simp;omega] at this
    exact this
  ·rw [if_neg h1,Xd1] at hi
   by_cases h2:b=i
   ·simp [h2] at hi
   ·rw [if_neg h2] at hi
    obtain ⟨l',hl',hr,hw⟩:=h.obj i ob hi
    exact ⟨l',by rw [upd_ne _ _ h1];exact hl',hr.same hx (fun _=>rfl),hw⟩
 ·have key:∀ (j:Nat) oj lj,b≠j→XaD H j=some oj→ρ j=some lj→Apart ⟨l.blk,l.sh+q,ext⟩ lj:=fun j oj lj hbj hj hlj k e h1 h2 h3 h4=>
   h.dis b j _ oj l lj hbj hb hj hl hlj rfl k e (by simp at h1;omega) (by simp at h2;omega) h3 h4
  rw [Xa1] at hi hj
  by_cases h1:top=i
  ·subst h1
   rw [if_neg hij,Xd1] at hj
   rw [upd_same] at hli;cases hli
   rw [upd_ne _ _ hij] at hlj
   by_cases h2:b=j
   ·simp [h2] at hj
   ·rw [if_neg h2] at hj;exact key j oj lj h2 hj hlj
  ·rw [if_neg h1,Xd1] at hi
   rw [upd_ne _ _ h1] at hli
   by_cases h2:b=i
   ·simp [h2] at hi
   ·rw [if_neg h2] at hi
    by_cases h3:top=j
    ·subst h3
     rw [upd_same] at hlj;cases hlj
     exact (key i oi li h2 hi hli).symm
    ·rw [if_neg h3,Xd1] at hj
     rw [upd_ne _ _ h3] at hlj
     by_cases h4:b=j
     ·simp [h4] at hj
     ·rw [if_neg h4] at hj
      exact h.dis i j oi oj li lj hij hi hj hli hlj hw
 ·by_cases h1:top=i
  ·have:=(inferInstance:NG U top).le;omega
  ·rw [upd_ne _ _ h1] at e;exact (h.lt i l' e).imp id (fun h=>by omega)
theorem Xrp {y:Value} {v:Value} {objs:List XbO} {sz m:Nat} {new:List Value} (hvr:VR ρ v y) (hs:XjQ sz v objs=some new) (hm:XnI v=some m)
 (hob:∀ ad n c ob,v=.slice (some ad) n c→objs=[ob]→∃ l,ρ ad.block=some l∧XmK P ρ w l ob) (hl:new.length=m*sz) :
 ∃ news,VRL ρ new news∧(∀ w',(Builtin.lenOf y).run P w'=.ok m w')∧(Builtin.firstCells sz m y).run P w=.ok ⟨news⟩ w∧(Builtin.firstCells sz m y).run P w.drew=.ok ⟨news⟩ w.drew:=by
 unfold XjQ at hs
 split at hs
 ·rename_i s
  cases hs
  simp only [XnI,Option.some.injEq] at hm
  cases hvr
  refine ⟨ofBytes s.data.toList,VRL.flat _ _ (XlC _),fun w'=>?_,?_,?_⟩
  ·rw [←hm];simp [Builtin.lenOf]
  all_goals
   have:(s.extract 0 m).data.map (fun b=>Value.int .u8 (b.toNat:Int))=⟨ofBytes s.data.toList⟩:=by
    apply Array.ext'
    simp only [ofBytes,Array.toList_map,ByteArray.data_extract,Array.toList_extract,List.extract_eq_take_drop,List.drop_zero,Nat.sub_zero]
    rw [←hm,List.take_length]
   simp only [Builtin.firstCells,Sem.run_pure,this]
 ·cases hs
  simp only [XnI,Option.some.injEq] at hm
  subst hm
  obtain ⟨_,rfl⟩:=Value.XnR hvr
  exact ⟨[],.nil,fun w'=>rfl,rfl,rfl⟩
 ·rename_i ad n c ob
  split at hs
  ·rename_i cs hcs
   split at hs
   ·rename_i hle
    cases hs
    simp only [XnI,Option.some.injEq] at hm
    subst hm
    obtain ⟨l,hl',hob'⟩:=hob ad n c ob rfl rfl
    obtain ⟨own,hcr⟩:=hob'.cells hcs
    obtain ⟨vs,g1,g2,g3⟩:=hcr.values ad.off (n*sz) hle
    cases hvr with
    | @slice b q _ _ c' ll hll hnc hcap=>
      simp only at hl' g1 g3
      rw [hl'] at hll;cases hll
      refine ⟨vs,g1,fun w'=>rfl,?_,?_⟩
      ·simp only [Builtin.firstCells];exact Xf2 g2 g3
      ·simp only [Builtin.firstCells];exact Xf2 (w:=w.drew) g2 g3
    | @slice0 b q _ ad'=>
      have:vs=[]:=by
       have:vs.length=0:=by rw [g2];simp
       exact List.length_eq_zero_iff.1 this
      subst this
      refine ⟨[],by simpa using g1,fun w'=>rfl,?_,?_⟩
      ·cases ad'<;>simp [Builtin.firstCells]<;>rfl
      ·cases ad'<;>simp [Builtin.firstCells]<;>rfl
   ·cases hs
  ·cases hs
 ·cases hs
theorem Xud (h:HpR P w0 U ρ H top w) {new news:List Value} (rest:List Value) {e:TypeId} (hr:VRL ρ new news) :
 HpR P w0 U (upd ρ top ⟨w.heap.size,0,(news++rest).length⟩) (Xgp H top (.row true new)) (top+1) (w.drew.alloc (.cells ⟨news++rest⟩ e)):=by
 refine h.new (h.keep.drew.alloc _) (fun k hk=>Xh7 w.drew _ k hk) ⟨by rw [hr.length];simp,fun i v ei=>?_,fun i hi=>⟨?_,fun _=>?_⟩⟩ (.inl (Nat.le_refl _))
 ·obtain ⟨v',g1,g2⟩:=hr.get ei
  refine ⟨v',?_,g2.mono (Ext.upd (h.XoV))⟩
  have:=World.cell?_alloc_new w.drew ⟨news++rest⟩ e i
  rw [show w.drew.heap.size=w.heap.size from rfl] at this
  simp only [Nat.zero_add]
  rw [this]
  have hlt:i<news.length:=by
   rcases Nat.lt_or_ge i news.length with h|h
   ·exact h
   ·rw [List.getElem?_eq_none h] at g1;cases g1
  simp only [List.getElem?_toArray]
  rw [List.getElem?_append_left hlt];exact g1
 ·have:=World.cell?_alloc_new w.drew ⟨news++rest⟩ e i
  rw [show w.drew.heap.size=w.heap.size from rfl] at this
  simp only [Nat.zero_add]
  rw [this]
  simp only [List.getElem?_toArray]
  simp at hi ⊢;exact hi
 ·have:=World.frozen?_alloc_new w.drew ⟨news++rest⟩ e i
  rw [show w.drew.heap.size=w.heap.size from rfl] at this
  simpa using this
theorem Xkg (h:HpR P w0 U ρ H top w):HpR P w0 U (upd ρ top ⟨0,0,0⟩) (Xgp H top (.row true [])) (top+1) w:=
 h.new h.keep (fun _ _=>rfl) ⟨Nat.le_refl _,fun i v e=>by simp at e,fun i hi=>by simp at hi⟩ (.inr rfl)
theorem HpR.XOY (h:HpR P w0 U ρ H top w) {b:Nat} {l:Loc} {ob:XbO} (hb:XaD H b=some ob) (hl:ρ b=some l) (hw:writable ob=true:=by rfl):HpR P w0 U (upd ρ top l) (Xgp (XoP H b) top ob) (top+1) w:=by
 obtain ⟨l',hl',hob,hwr⟩:=h.obj b _ hb
 rw [hl] at hl';cases hl'
 have hx:Ext ρ (upd ρ top l):=Ext.upd (h.XoV)
 refine ⟨fun i o hi=>?_,fun i j oi oj li lj hij hi hj hli hlj hwi=>?_,fun i l' e=>?_,h.keep⟩
 ·rw [Xa1] at hi
  by_cases h1:top=i
  ·subst h1
   rw [if_pos rfl] at hi;cases hi
   exact ⟨_,upd_same _ _ _,hob.same hx (fun _=>rfl),hwr⟩
  ·rw [if_neg h1,Xd1] at hi
   by_cases h2:b=i
   ·simp [h2] at hi
   ·rw [if_neg h2] at hi
    obtain ⟨l',hl',hr,hw⟩:=h.obj i o hi
    exact ⟨l',by rw [upd_ne _ _ h1];exact hl',hr.same hx (fun _=>rfl),hw⟩
 ·have key:∀ (j:Nat) oj lj,b≠j→XaD H j=some oj→ρ j=some lj→Apart l lj:=fun j oj lj hbj hj hlj=>h.dis b j _ oj l lj hbj hb hj hl hlj hw
  rw [Xa1] at hi hj
  by_cases h1:top=i
  ·subst h1
   rw [if_neg hij,Xd1] at hj
   rw [upd_same] at hli;cases hli
   rw [upd_ne _ _ hij] at hlj
   by_cases h2:b=j
   ·simp [h2] at hj
   ·rw [if_neg h2] at hj;exact key j oj lj h2 hj hlj
  ·rw [if_neg h1,Xd1] at hi
   rw [upd_ne _ _ h1] at hli
   by_cases h2:b=i
   ·simp [h2] at hi
   ·rw [if_neg h2] at hi
    by_cases h3:top=j
    ·subst h3
     rw [upd_same] at hlj;cases hlj
     exact (key i oi li h2 hi hli).symm
    ·rw [if_neg h3,Xd1] at hj
     rw [upd_ne _ _ h3] at hlj
     by_cases h4:b=j
     ·simp [h4] at hj
     ·rw [if_neg h4] at hj
      exact h.dis i j oi oj li lj hij hi hj hli hlj hwi
 ·by_cases h1:top=i
  ·have:=(inferInstance:NG U top).le;omega
  ·rw [upd_ne _ _ h1] at e;exact (h.lt i l' e).imp id (fun h=>by omega)
theorem Xvl (h:HpR P w0 U ρ H top w) (t:Nat):HpR P w0 U (upd ρ top ⟨0,0,0⟩) (Xgp H top (.ty t [])) (top+1) w:=
 h.new h.keep (fun _ _=>rfl) ⟨⟨Nat.le_refl _,fun i v e=>by simp at e,fun i hi=>by simp at hi⟩,rfl,.inl rfl⟩ (.inr rfl)
theorem XI8 (h:HpR P w0 U ρ H top w) {new news:List Value} (rest:List Value) {e:TypeId} (hr:VRL ρ new news) :
 HpR P w0 U (upd ρ top ⟨w.heap.size,0,(news++rest).length⟩) (Xgp H top (.ty e new)) (top+1) (w.drew.alloc (.cells ⟨news++rest⟩ e)):=by
 have h0:=Xud h rest (e:=e) hr
 obtain ⟨l,hl,hob,_⟩:=h0.obj top _ (XbI _ _ _)
 rw [upd_same] at hl;cases hl
 refine h.new (h.keep.drew.alloc _) (fun k hk=>Xh7 w.drew _ k hk) ⟨hob,rfl,.inr ?_⟩ (.inl (Nat.le_refl _))
 have:(w.drew.alloc (.cells ⟨news++rest⟩ e)).heap[w.heap.size]?=some (.cells ⟨news++rest⟩ e):=by
  show (w.drew.heap.push _)[w.drew.heap.size]?=_
  exact Array.getElem?_push_size
 unfold World.shape?
 simp only [this]
 simp
theorem grownCap_ge (w:World) (need old:Nat) (e:TypeId):need≤grownCap w need old e:=by simp [grownCap,Question.cut]
theorem XsZ {b:Nat} {bs:List Nat} {objs:List XbO} (hg:Xjh H bs=some objs) (hne:∀ c∈bs,c≠b) :
 ∀ i,XaD (Xgv H (b::bs) (none::objs.map some)) i=XaD (XoP H b) i:=by
 have gen:∀ (bs:List Nat) (objs:List XbO) (K:Hp),(∀ c∈bs,c≠b)→Xjh H bs=some objs→(∀ j,j≠b→XaD K j=XaD H j)→∀ i,XaD (Xgv K bs (objs.map some)) i=XaD K i:=by
  intro bs
  induction bs with
  | nil=>intro objs K _ h _ i;simp only [Xjh,Option.some.injEq] at h;subst h;rfl
  | cons c bs ih=>
    intro objs K hne h hK i
    simp only [Xjh] at h
    split at h
    ·rename_i o ho
     split at h
     ·rename_i os hos
      cases h
      have hcb:=hne c (List.mem_cons_self ..)
      have hKc:XaD K c=some o:=by rw [hK c hcb];exact ho
      simp only [List.map_cons,Xgv]
      rw [ih os (Xgp K c o) (fun d hd=>hne d (List.mem_cons_of_mem _ hd)) hos (fun j hj=>by rw [XlV hKc];exact hK j hj) i,XlV hKc]
     ·cases h
    ·cases h
 intro i
 simp only [Xgv]
 exact gen bs objs (XoP H b) hne hg (fun j hj=>XgB _ (fun e=>hj e.symm)) i
theorem Xq8 {bs:List Nat}:∀ {objs:List XbO},Xjh H bs=some objs→∀ i,XaD (Xgv H bs (objs.map some)) i=XaD H i:=by
 have gen:∀ (bs:List Nat) (objs:List XbO) (K:Hp),Xjh H bs=some objs→(∀ j,XaD K j=XaD H j)→∀ i,XaD (Xgv K bs (objs.map some)) i=XaD H i:=by
  intro bs
  induction bs with
  | nil=>intro objs K h hK i;simp only [Xjh,Option.some.injEq] at h;subst h;exact hK i
  | cons c bs ih=>
    intro objs K h hK i
    simp only [Xjh] at h
    split at h
    ·rename_i o ho
     split at h
     ·rename_i os hos
      cases h
      simp only [List.map_cons,Xgv]
      exact ih os _ hos (fun j=>by rw [XlV (by rw [hK c];exact ho)];exact hK j) i
     ·cases h
    ·cases h
 intro objs h i
 exact gen bs objs H h (fun _=>rfl) i
theorem XIv (h:HpR P w0 U ρ H top w) {t u e:TypeId} {i:TypeInfo} {z:Value} {du:TypeDesc} {y s:Operand} (ho:o.op=.call ⟨.builtin .append,#[s,y],#[t,u]⟩) (ht:P.underlying t=some (.slice e)) (hu:P.underlying u=some du)
 (hdu:du=.string∨∃ e',du=.slice e') (hi:P.info? e=some i) (hz:i.zero=some z) (h1:1≤i.bytes) (hzs:(XaX z).length=i.size)
 (hv:VRL ρ vals [a s,a y]) (hr:XcM (.app e i.size i.bytes s y) vals H top=some (x,H',top')):Done P w0 U ρ o a w x H' top':=by
 have hexec:∀ r w',(Builtin.append_ #[t,u] o.type #[a s,a y]).run P w=.ok r w'→(execOp a o).run P w=.ok (.value r) w':=by
  intro r w' hrun
  simp only [execOp,ho,resolve,invoke,Go.builtin,Sem.run_bind,Sem.run_pure,Result.andThen_ok,List.map_toArray,List.map,hrun]
 simp only [XcM] at hr
 split at hr
 ·cases hr
 rename_i objs hobjs
 split at hr
 ·cases hr
 rename_i rv ro rf hc
 simp only [core] at hc
 unfold Xuk at hc
 split at hc
 ·rename_i c v _
  obtain ⟨s',y',e1,k1,k2⟩:=hv.inv2
  simp only [List.cons.injEq,and_true] at e1
  obtain ⟨e1,e2⟩:=e1
  obtain ⟨_,rfl⟩:=Value.XnR k1
  split at hc
  ·rename_i new m hs hm
   split at hc
   ·rename_i hb
    cases hc
    obtain ⟨news,g1,g2,g3,g4⟩:=Xrp (P:=P) (w:=w) k2 hs hm (fun ad n c ob hv' hob'=>by
     subst hv' hob'
     simp only [needs,List.take,List.flatMap_cons,Xe2,List.flatMap_nil,List.append_nil,List.nil_append,Xjh] at hobjs
     split at hobjs
     ·rename_i ob' hg
      simp only [Option.some.injEq,List.cons.injEq,and_true] at hobjs
      subst hobjs
      obtain ⟨l,q1,q2,_⟩:=h.obj _ _ hg
      exact ⟨l,q1,q2⟩
     ·cases hobjs) hb.2
    have hrun:=XhK (P:=P) (w:=w) (ty:=o.type) ht hu hdu hi hz (base:=none) (n:=0) (c:=0) g2 (olds:=[]) (by simp [Builtin.firstCells]) g3 g4 h1 (by simpa using hb.1)
    simp only [Option.some.injEq,Prod.mk.injEq] at hr
    obtain ⟨rfl,rfl,rfl⟩:=hr
    have hcong:=Xq8 (H:=H) hobjs
    rcases Nat.eq_zero_or_pos m with h0|h0
    ·subst h0
     have hnew:new=[]:=List.length_eq_zero_iff.1 (by rw [hb.2];simp)
     subst hnew
     have hrn:=hexec _ _ (by rw [e1,e2];exact (hrun.1 (by omega)))
     refine ⟨upd ρ top ⟨0,0,0⟩,w,_,hrn,Ext.upd (h.XoV),?_,_,rfl,.slice0 _⟩
     refine (Xkg h).congr (fun j=>?_)
     rw [Xa1,Xa1,hcong]
    ·have hrn:=hexec _ _ (by rw [e1,e2];exact (hrun.2 (by omega)))
     simp only [List.nil_append,Nat.zero_add] at hrn
     have hcap:=grownCap_ge w m 0 e
     have hzl:(Builtin.zeroCells z.cells (grownCap w m 0 e - m)).toList.length=(grownCap w m 0 e - m)*i.size:=by rw [←hzs];simp [Builtin.zeroCells,XaX]
     refine ⟨_,_,_,hrn,Ext.upd (h.XoV),(Xud h _ g1).congr (fun j=>by rw [Xa1,Xa1,hcong]),_,rfl,?_⟩
     have:=VR.slice (ρ:=upd ρ top ⟨w.heap.size,0,(news++(Builtin.zeroCells z.cells (grownCap w m 0 e - m)).toList).length⟩) (b:=top) (o:=0) (n:=m) (sz:=i.size) (c:=grownCap w m 0 e) (upd_same _ _ _) hcap (by
      rw [List.length_append,hzl,←g1.length,hb.2,←Nat.add_mul]
      simp only [Nat.zero_add]
      exact Nat.mul_le_mul_right _ (by omega))
     simpa using this
   ·cases hc
  ·cases hc
 ·rename_i b q n sz' v cs objs'
  obtain ⟨s',y',e1,k1,k2⟩:=hv.inv2
  simp only [List.cons.injEq,and_true] at e1
  obtain ⟨e1,e2⟩:=e1
  split at hc
  ·rename_i new m hs hm
   split at hc
   ·rename_i hb
    obtain ⟨b1,b2,rfl,b4,b5,b6⟩:=hb
    cases hc
    have hnd:needs (.app e i.size i.bytes s y) [.slice (some ⟨b,q,none⟩) n i.size,v]=b::Xe2 v:=by simp [needs,Xe2]
    rw [hnd] at hr hobjs
    simp only [Xjh] at hobjs
    split at hobjs
    case h_2=>cases hobjs
    rename_i ob0 hg0
    split at hobjs
    case h_2=>cases hobjs
    rename_i os0 hos
    simp only [Option.some.injEq,List.cons.injEq] at hobjs
    obtain ⟨rfl,rfl⟩:=hobjs
    have hne:∀ c∈Xe2 v,c≠b:=fun c hc e=>by
     have:=List.all_eq_true.1 b6 c hc
     subst e
     simp [Nat.beq_refl] at this
    obtain ⟨l0,hl0,hob0,hwr0⟩:=h.obj b _ hg0
    have hcr0:Xbt ρ w l0 true cs:=hob0
    obtain ⟨news,g1,g2,g3,g4⟩:=Xrp (P:=P) (w:=w) k2 hs hm (fun ad n c ob hv' hob'=>by
     subst hv' hob'
     simp only [Xe2,Xjh] at hos
     split at hos
     ·rename_i ob' hg
      simp only [Option.some.injEq,List.cons.injEq,and_true] at hos
      subst hos
      obtain ⟨l,q1,q2,_⟩:=h.obj _ _ hg
      exact ⟨l,q1,q2⟩
     ·cases hos) b4
    obtain ⟨olds,o1,o2,o3⟩:=hcr0.values q (n*i.size) b2
    simp only [Option.some.injEq,Prod.mk.injEq] at hr
    obtain ⟨rfl,rfl,rfl⟩:=hr
    have hcong:=XsZ (b:=b) hos hne
    have hres:∀ (l':Loc) (c:Nat),(c=0→n+m=0→True)→n+m≤c→c*i.size≤l'.ext→VR (upd ρ top l') (.slice (some ⟨top,0,none⟩) (n+m) i.size) (.slice (some ⟨l'.blk,l'.sh,none⟩) (n+m) c):=fun l' c _ h3 h4=>by
     have:=VR.slice (ρ:=upd ρ top l') (b:=top) (o:=0) (n:=n+m) (sz:=i.size) (c:=c) (upd_same _ _ _) h3 (by omega)
     simpa using this
    have hgrow:∀ (base:Option Addr) (c:Nat),a s=.slice base n c→(Builtin.firstCells i.size n (.slice base n c)).run P w.drew=.ok ⟨olds⟩ w.drew→c<n+m →
     Done P w0 U ρ o a w (some (.slice (some ⟨top,0,none⟩) (n+m) i.size)) (Xgp (Xgv H (b::Xe2 v) (none::os0.map some)) top (.row true ((cs.drop q).take (n*i.size)++new))) (top+1):=by
     intro base c hbase hfo hlt
     have hrun:=XhK (P:=P) (w:=w) (ty:=o.type) ht hu hdu hi hz (base:=base) (n:=n) (c:=c) g2 (olds:=olds) hfo g3 g4 h1 b1
     have hrn:=hexec _ _ (by rw [hbase,e2];exact (hrun.2 hlt))
     have hcap:=grownCap_ge w (n+m) c e
     have hzl:(Builtin.zeroCells z.cells (grownCap w (n+m) c e - (n+m))).toList.length=(grownCap w (n+m) c e - (n+m))*i.size:=by rw [←hzs];simp [Builtin.zeroCells,XaX]
     refine ⟨_,_,_,hrn,Ext.upd (h.XoV),(Xud (h.del b) _ (VRL.append o1 g1)).congr (fun j=>by rw [Xa1,Xa1,hcong]),_,rfl,?_⟩
     refine hres ⟨w.heap.size,0,_⟩ _ (fun _ _=>trivial) hcap ?_
     rw [List.length_append,hzl,List.length_append,o2,←g1.length,b4,←Nat.add_mul,←Nat.add_mul]
     exact Nat.mul_le_mul_right _ (by omega)
    cases k1 with
    | @slice _ _ _ _ c l hl hnc hcap=>
      rw [hl0] at hl;cases hl
      have hfo:(Builtin.firstCells i.size n (.slice (some ⟨l0.blk,l0.sh+q,none⟩) n c)).run P w.drew=.ok ⟨olds⟩ w.drew:=by
       simp only [Builtin.firstCells];exact Xf2 (w:=w.drew) o2 o3
      rcases Nat.lt_or_ge c (n+m) with hlt|hge
      ·exact hgrow _ c e1 hfo hlt
      ·
       have hrun:=XhK (P:=P) (w:=w) (ty:=o.type) ht hu hdu hi hz (base:=some ⟨l0.blk,l0.sh+q,none⟩) (n:=n) (c:=c) g2 (olds:=olds) hfo g3 g4 h1 b1
       have hext:=hcr0.1
       have hnm:n*i.size+m*i.size≤c*i.size:=by rw [←Nat.add_mul];exact Nat.mul_le_mul_right _ hge
       have hnl:=g1.length
       obtain ⟨w',f1,f2,f3,f4,f5,f6,f7,f8⟩:=XiK (P:=P) l0.blk (l0.sh+q+n*i.size) news 0 w (fun j hj=>by
        have:=hcr0.2.2 (q+n*i.size+j) (by omega)
        rw [show l0.sh+q+n*i.size+0+j=l0.sh+(q+n*i.size+j) by omega]
        exact ⟨this.1,this.2 rfl⟩) (by rw [←g1.Xij];exact b5)
       have hnew:Xbt ρ w' l0 true (cs.take (q+n*i.size)++new):=by
        refine ⟨by simp;omega,fun k v' hk=>?_,fun k hk=>⟨?_,fun _=>?_⟩⟩
        ·rcases Nat.lt_or_ge k (q+n*i.size) with h3|h3
         ·rw [List.getElem?_append_left (by simp;omega),List.getElem?_take,if_pos h3] at hk
          obtain ⟨u',q1,q2⟩:=hcr0.2.1 k v' hk
          exact ⟨u',by rw [f3 _ _ (by omega)];exact q1,q2⟩
         ·rw [List.getElem?_append_right (by simp;omega)] at hk
          simp only [List.length_take,Nat.min_eq_left b2] at hk
          obtain ⟨u',q1,q2⟩:=g1.get hk
          refine ⟨u',?_,q2⟩
          have:=f2 _ u' q1
          rw [show l0.sh+q+n*i.size+0+(k - (q+n*i.size))=l0.sh+k by omega] at this
          exact this
        ·by_cases h3:q+n*i.size≤k∧k<q+n*i.size+news.length
         ·have:=f2 (k - (q+n*i.size)) _ (List.getElem?_eq_getElem (by omega))
          rw [show l0.sh+q+n*i.size+0+(k - (q+n*i.size))=l0.sh+k by omega] at this
          rw [this];rfl
         ·rw [f3 _ _ (by omega)];exact (hcr0.2.2 k hk).1
        ·rw [f4];exact (hcr0.2.2 k hk).2 rfl
       have hk:Keep U w0 w':=f7 w0 U h.keep (fun k k1 k2=>hwr0 rfl k (by omega) (by omega))
       have hbk:∀ (b':Nat),(∀ c t f,w.heap[b']?≠some (Obj.cells c t f))→w'.heap[b']?=w.heap[b']?:=by
        intro b' hb'
        by_cases hbb:b'=l0.blk
        ·subst hbb
         cases hnw:news with
         | nil=>rw [f6 hnw]
         | cons r rs=>
           exfalso
           have hp:0<m*i.size:=by rw [←b4,hnl,hnw];simp
           have:=(hcr0.2.2 q (by omega)).1
           unfold World.cell? at this
           cases hh:w.heap[l0.blk]? with
           | none=>simp [hh] at this
           | some y=>cases y<;>simp [hh] at this<;>exact hb' _ _ _ hh
        ·exact f5 b' hbb
       have hput:HpR P w0 U ρ (Xgp H b (.row true (cs.take (q+n*i.size)++new))) top w':=
        h.put hg0 hl0 rfl hk hnew (fun b' k hk'=>f3 b' k (by omega)) (fun b' k _=>f4 b' k) (fun b' hb' _=>hbk b' hb') (fun b' x hx=>by rw [f8];exact hx)
       have hdrop:(cs.take (q+n*i.size)++new).drop q=(cs.drop q).take (n*i.size)++new:=by
        rw [List.drop_append_of_le_length (by simp;omega),List.drop_take]
        congr 2
        omega
       have hmv:=hput.move (q:=q) (ext:=c*i.size) (XbI _ _ _) hl0 (by omega) (by rw [hdrop];simp;omega)
       rw [hdrop] at hmv
       have hrn:=hexec _ w' (by
        rw [e1,e2,hrun.1 hge]
        simp only [addr_add,f1]
        rfl)
       refine ⟨_,w',_,hrn,Ext.upd (h.XoV),hmv.congr (fun j=>?_),_,rfl,hres ⟨l0.blk,l0.sh+q,c*i.size⟩ c (fun _ _=>trivial) hge (Nat.le_refl _)⟩
       rw [Xa1,Xa1,hcong]
       by_cases h3:top=j
       ·rw [if_pos h3,if_pos h3]
       ·rw [if_neg h3,if_neg h3,Xd1,Xd1]
        by_cases h4:b=j
        ·rw [if_pos h4,if_pos h4]
        ·rw [if_neg h4,if_neg h4,Xcb _ _ h4]
    | @slice0 _ _ _ ad=>
      have holds:olds=[]:=List.length_eq_zero_iff.1 (by rw [o2];simp)
      subst holds
      have hfo:(Builtin.firstCells i.size 0 (.slice ad 0 0)).run P w.drew=.ok ⟨[]⟩ w.drew:=by cases ad<;>simp [Builtin.firstCells]<;>rfl
      rcases Nat.eq_zero_or_pos m with h0|h0
      ·subst h0
       have hnew:new=[]:=List.length_eq_zero_iff.1 (by rw [b4];simp)
       subst hnew
       have hnw:news=[]:=g1.inv0
       subst hnw
       have hrun:=XhK (P:=P) (w:=w) (ty:=o.type) ht hu hdu hi hz (base:=ad) (n:=0) (c:=0) g2 (olds:=[]) hfo g3 g4 h1 b1
       have hrn:=hexec (.slice ad 0 0) w (by
        rw [e1,e2,hrun.1 (by omega)]
        cases ad<;>rfl)
       refine ⟨upd ρ top ⟨0,0,0⟩,w,_,hrn,Ext.upd (h.XoV),?_,_,rfl,by simpa using VR.slice0 ad⟩
       simp only [Nat.zero_mul,List.take_zero,List.append_nil]
       exact (Xkg (h.del b)).congr (fun j=>by rw [Xa1,Xa1,hcong])
      ·exact hgrow _ 0 e1 hfo (by omega)
   ·cases hc
  ·cases hc
 ·
  rename_i os1 mm e' v
  obtain ⟨s',y',e1,k1,k2⟩:=hv.inv2
  simp only [List.cons.injEq,and_true] at e1
  obtain ⟨e1,e2⟩:=e1
  have k1':s'=.slice none 0 0:=by cases k1;rfl
  subst k1'
  split at hc
  ·rename_i new m hs hm
   split at hc
   ·rename_i hb
    obtain ⟨hb1,hb2,hb3,hb4⟩:=hb
    subst hb4
    cases hc
    obtain ⟨news,g1,g2,g3,g4⟩:=Xrp (P:=P) (w:=w) k2 hs hm (fun ad n c ob hv' hob'=>by
     subst hv' hob'
     simp only [needs,List.take,List.flatMap_cons,Xe2,List.flatMap_nil,List.append_nil,List.nil_append,Xjh] at hobjs
     split at hobjs
     ·rename_i ob' hg
      simp only [Option.some.injEq,List.cons.injEq,and_true] at hobjs
      subst hobjs
      obtain ⟨l,q1,q2,_⟩:=h.obj _ _ hg
      exact ⟨l,q1,q2⟩
     ·cases hobjs) hb2
    have hrun:=XhK (P:=P) (w:=w) (ty:=o.type) ht hu hdu hi hz (base:=none) (n:=0) (c:=0) g2 (olds:=[]) (by simp [Builtin.firstCells]) g3 g4 h1 (by simpa using hb1)
    simp only [Option.some.injEq,Prod.mk.injEq] at hr
    obtain ⟨rfl,rfl,rfl⟩:=hr
    have hcong:=Xq8 (H:=H) hobjs
    rcases Nat.eq_zero_or_pos m with h0|h0
    ·subst h0
     have hnew:new=[]:=List.length_eq_zero_iff.1 (by rw [hb2];simp)
     subst hnew
     have hrn:=hexec _ _ (by rw [e1,e2];exact (hrun.1 (by omega)))
     refine ⟨upd ρ top ⟨0, 0, 0⟩, w, _, hrn, Ext.upd (h.XoV), ?_, _, rfl, .tsl "" (upd_same _ _ _) (.inl ⟨rfl, rfl⟩)⟩
     refine (Xvl h e').congr (fun j=>?_)
     rw [Xa1,Xa1,hcong]
    ·have hrn:=hexec _ _ (by rw [e1,e2];exact (hrun.2 (by omega)))
     simp only [List.nil_append,Nat.zero_add] at hrn
     have hcap:=grownCap_ge w m 0 e'
     have hzl:(Builtin.zeroCells z.cells (grownCap w m 0 e' - m)).toList.length=(grownCap w m 0 e' - m)*i.size:=by rw [←hzs];simp [Builtin.zeroCells,XaX]
     refine ⟨_, _, _, hrn, Ext.upd (h.XoV), (XI8 h _ g1).congr (fun j => by rw [Xa1, Xa1, hcong]), _, rfl, .tsl "" (upd_same _ _ _) (.inr ⟨_, rfl, hcap, by omega, ?_⟩)⟩
     simp only [List.length_append,hzl,←g1.length,hb2,hb3,Nat.mul_one]
     omega
   ·cases hc
  ·cases hc
 ·
  rename_i mm b n v t' cs objs'
  obtain ⟨s',y',e1,k1,k2⟩:=hv.inv2
  simp only [List.cons.injEq,and_true] at e1
  obtain ⟨e1,e2⟩:=e1
  split at hc
  ·rename_i new m hs hm
   split at hc
   ·rename_i hb
    obtain ⟨b1,b2,b3,rfl,b4,b5,b6⟩:=hb
    cases hc
    have hnd:needs (.app t' i.size i.bytes s y) [.func (.method mm) ⟨[.slice (some ⟨b,0,none⟩) n 1]⟩ ⟨[]⟩,v]=b::Xe2 v:=by simp [needs,Xe2]
    rw [hnd] at hr hobjs
    simp only [Xjh] at hobjs
    split at hobjs
    case h_2=>cases hobjs
    rename_i ob0 hg0
    split at hobjs
    case h_2=>cases hobjs
    rename_i os0 hos
    simp only [Option.some.injEq,List.cons.injEq] at hobjs
    obtain ⟨rfl,rfl⟩:=hobjs
    have hne:∀ c∈Xe2 v,c≠b:=fun c hc e=>by
     have:=List.all_eq_true.1 b6 c hc
     subst e
     simp [Nat.beq_refl] at this
    obtain ⟨l0,hl0,⟨hcr0,hsh0,hty0⟩,hwr0⟩:=h.obj b _ hg0
    have b4':new.length=m*i.size:=by rw [b3,Nat.mul_one];exact b4
    obtain ⟨news,g1,g2,g3,g4⟩:=Xrp (P:=P) (w:=w) k2 hs hm (fun ad n c ob hv' hob'=>by
     subst hv' hob'
     simp only [Xe2,Xjh] at hos
     split at hos
     ·rename_i ob' hg
      simp only [Option.some.injEq,List.cons.injEq,and_true] at hos
      subst hos
      obtain ⟨l,q1,q2,_⟩:=h.obj _ _ hg
      exact ⟨l,q1,q2⟩
     ·cases hos) b4'
    obtain ⟨olds,o1,o2,o3⟩:=hcr0.values 0 (n*i.size) (by rw [b3];omega)
    have o1':VRL ρ (cs.take n) olds:=by rw [b3] at o1;simpa using o1
    simp only [Option.some.injEq,Prod.mk.injEq] at hr
    obtain ⟨rfl,rfl,rfl⟩:=hr
    have hcong:=XsZ (b:=b) hos hne
    have hgrow:∀ (base:Option Addr) (c:Nat),a s=.slice base n c→(Builtin.firstCells i.size n (.slice base n c)).run P w.drew=.ok ⟨olds⟩ w.drew→c<n+m →
     Done P w0 U ρ o a w (some (bSl top (n+m))) (Xgp (Xgv H (b::Xe2 v) (none::os0.map some)) top (.ty t' (cs.take n++new))) (top+1):=by
     intro base c hbase hfo hlt
     have hrun:=XhK (P:=P) (w:=w) (ty:=o.type) ht hu hdu hi hz (base:=base) (n:=n) (c:=c) g2 (olds:=olds) hfo g3 g4 h1 b1
     have hrn:=hexec _ _ (by rw [hbase,e2];exact (hrun.2 hlt))
     have hcap:=grownCap_ge w (n+m) c t'
     have hzl:(Builtin.zeroCells z.cells (grownCap w (n+m) c t' - (n+m))).toList.length=(grownCap w (n+m) c t' - (n+m))*i.size:=by rw [←hzs];simp [Builtin.zeroCells,XaX]
     refine ⟨_, _, _, hrn, Ext.upd (h.XoV), (XI8 (h.del b) _ (VRL.append o1' g1)).congr (fun j => by rw [Xa1, Xa1, hcong]), _, rfl, .tsl "" (upd_same _ _ _) (.inr ⟨_, rfl, hcap, by omega, ?_⟩)⟩
     simp only [List.length_append,hzl,o2,←g1.length,b4,b3,Nat.mul_one]
     omega
    cases k1 with
    | tsl _ hl hv'=>
      rename_i l
      rw [hl0] at hl;cases hl
      rcases hv' with ⟨rfl,rfl⟩|⟨c,rfl,hnc,hc0,hce⟩
      ·have holds:olds=[]:=List.length_eq_zero_iff.1 (by rw [o2];simp)
       subst holds
       have hfo:(Builtin.firstCells i.size 0 (.slice none 0 0)).run P w.drew=.ok ⟨[]⟩ w.drew:=by simp [Builtin.firstCells]
       rcases Nat.eq_zero_or_pos m with h0|h0
       ·subst h0
        have hnew:new=[]:=List.length_eq_zero_iff.1 b4
        subst hnew
        have hrun:=XhK (P:=P) (w:=w) (ty:=o.type) ht hu hdu hi hz (base:=none) (n:=0) (c:=0) g2 (olds:=[]) hfo g3 g4 h1 b1
        have hrn:=hexec (.slice none 0 0) w (by
         rw [e1,e2,hrun.1 (by omega)];rfl)
        refine ⟨upd ρ top ⟨0, 0, 0⟩, w, _, hrn, Ext.upd (h.XoV), ?_, _, rfl, .tsl "" (upd_same _ _ _) (.inl ⟨rfl, rfl⟩)⟩
        simp only [List.take_zero,List.append_nil]
        exact (Xvl (h.del b) t').congr (fun j=>by rw [Xa1,Xa1,hcong])
       ·exact hgrow none 0 e1 hfo (by omega)
      ·have hfo:(Builtin.firstCells i.size n (.slice (some ⟨l0.blk,l0.sh,none⟩) n c)).run P w.drew=.ok ⟨olds⟩ w.drew:=by
        simp only [Builtin.firstCells];exact Xf2 (w:=w.drew) (q:=0) o2 o3
       rcases Nat.lt_or_ge c (n+m) with hlt|hge
       ·exact hgrow _ c e1 hfo hlt
       ·
        have hrun:=XhK (P:=P) (w:=w) (ty:=o.type) ht hu hdu hi hz (base:=some ⟨l0.blk,l0.sh,none⟩) (n:=n) (c:=c) g2 (olds:=olds) hfo g3 g4 h1 b1
        have hnl:=g1.length
        obtain ⟨w',f1,f2,f3,f4,f5,f6,f7,f8⟩:=XiK (P:=P) l0.blk (l0.sh+n*i.size) news 0 w (fun j hj=>by
         have:=hcr0.2.2 (n+j) (by omega)
         rw [b3,Nat.mul_one,show l0.sh+n+0+j=l0.sh+(n+j) by omega]
         exact ⟨this.1,this.2 rfl⟩) (by rw [←g1.Xij];exact b5)
        rw [b3,Nat.mul_one] at f1 f2 f3 f7
        have hnew:Xbt ρ w' l0 true (cs.take n++new):=by
         refine ⟨by simp;omega,fun k v' hk=>?_,fun k hk=>⟨?_,fun _=>?_⟩⟩
         ·rcases Nat.lt_or_ge k n with h3|h3
          ·rw [List.getElem?_append_left (by simp;omega),List.getElem?_take,if_pos h3] at hk
           obtain ⟨u',q1,q2⟩:=hcr0.2.1 k v' hk
           exact ⟨u',by rw [f3 _ _ (by omega)];exact q1,q2⟩
          ·rw [List.getElem?_append_right (by simp;omega)] at hk
           simp only [List.length_take,Nat.min_eq_left b2] at hk
           obtain ⟨u',q1,q2⟩:=g1.get hk
           refine ⟨u',?_,q2⟩
           have:=f2 _ u' q1
           rw [show l0.sh+n+0+(k - n)=l0.sh+k by omega] at this
           exact this
         ·by_cases h3:n≤k∧k<n+news.length
          ·have:=f2 (k - n) _ (List.getElem?_eq_getElem (by omega))
           rw [show l0.sh+n+0+(k - n)=l0.sh+k by omega] at this
           rw [this];rfl
          ·rw [f3 _ _ (by omega)];exact (hcr0.2.2 k hk).1
         ·rw [f4];exact (hcr0.2.2 k hk).2 rfl
        have hk:Keep U w0 w':=f7 w0 U h.keep (fun k k1 k2=>hwr0 rfl k (by omega) (by omega))
        have hbk:∀ (b':Nat),(∀ c t f,w.heap[b']?≠some (Obj.cells c t f))→w'.heap[b']?=w.heap[b']?:=by
         intro b' hb'
         by_cases hbb:b'=l0.blk
         ·subst hbb
          exfalso
          have:=(hcr0.2.2 0 (by omega)).1
          unfold World.cell? at this
          cases hh:w.heap[l0.blk]? with
          | none=>simp [hh] at this
          | some y=>cases y<;>simp [hh] at this<;>exact hb' _ _ _ hh
         ·exact f5 b' hbb
        have hput:HpR P w0 U ρ (Xgp H b (.ty t' (cs.take n++new))) top w':=
         h.put hg0 hl0 rfl hk ⟨hnew,hsh0,by rw [f8];exact hty0⟩ (fun b' k hk'=>f3 b' k (by omega)) (fun b' k _=>f4 b' k) (fun b' hb' _=>hbk b' hb') (fun b' x hx=>by rw [f8];exact hx)
        have hmv:=hput.XOY (XbI _ _ _) hl0
        have hrn:=hexec _ w' (by
         rw [e1,e2,hrun.1 hge]
         simp only [b3,Nat.mul_one,addr_add,f1]
         rfl)
        refine ⟨_, w', _, hrn, Ext.upd (h.XoV), hmv.congr (fun j => ?_), _, rfl, .tsl "" (upd_same _ _ _) (.inr ⟨c, rfl, hge, hc0, hce⟩)⟩
        rw [Xa1,Xa1,hcong]
        by_cases h3:top=j
        ·rw [if_pos h3,if_pos h3]
        ·rw [if_neg h3,if_neg h3,Xd1,Xd1]
         by_cases h4:b=j
         ·rw [if_pos h4,if_pos h4]
         ·rw [if_neg h4,if_neg h4,Xcb _ _ h4]
   ·cases hc
  ·cases hc
 ·cases hc
end
section
variable {P:Program} {w0:World} {U:UG} {ρ:Ren} {o:Oper} {a:Operand→Value} {w:World} {H:Hp} {top:Nat} [NG U top]
 {x:Option Value} {H':Hp} {top':Nat} {vals:List Value}
theorem XyQ {i:TypeInfo} {t:TypeId} {e:TypeId} (h:XCZ P i t=some e):i.zero=some (.agg ⟨[.pointer none,.slice none 0 0]⟩)∧i.size=2:=by
 unfold XCZ at h
 split at h<;>try (cases h;done)
 split at h<;>try (cases h;done)
 split at h<;>try (cases h;done)
 split at h<;>try (cases h;done)
 split at h<;>try (cases h;done)
 rename_i hz
 split at h<;>try (cases h;done)
 rename_i hs
 exact ⟨hz,hs⟩
theorem Xzw (h:HpR P w0 U ρ H top w) {t e:TypeId} {i:TypeInfo} (ho:o.op=.alloc t) (hi:P.info? t=some i) (hb:XCZ P i t=some e)
 (hv:VRL ρ vals []) (hr:XcM (.allocB t e) vals H top=some (x,H',top')):Done P w0 U ρ o a w x H' top':=by
 obtain ⟨hz,hsz⟩:=XyQ hb
 obtain ⟨r,hc,rfl,hh⟩:=XlZ (v:=.allocB t e) rfl hr
 change XrV t e vals [] top=some r at hc
 unfold XrV at hc
 split at hc
 ·cases hc
  rcases hh with ⟨e1,_⟩|⟨ob,e1,rfl,rfl⟩
  ·cases e1
  ·cases e1
   have hrun:(execOp a o).run P w=.ok (.value (.pointer (some ⟨w.heap.size,0,none⟩))) (w.alloc (.cells #[.pointer none,.slice none 0 0] t)):=by
    simp [execOp,ho,Instr.alloc,Xd0 hi hz,newVar,newRow,Value.cells]
   have hheap:(w.alloc (.cells #[.pointer none,.slice none 0 0] t)).heap[w.heap.size]?=some (.cells #[.pointer none,.slice none 0 0] t):=by
    show (w.heap.push _)[w.heap.size]?=_
    exact Array.getElem?_push_size
   refine Done.fresh h (ext:=2) hrun (h.keep.alloc _) (fun k hk=>Xh7 w _ k hk) ⟨⟨Nat.le_refl _,fun j v ej=>?_,fun j hj=>⟨?_,fun _=>?_⟩⟩,rfl,.inr ?_⟩ (.ptr (upd_same _ _ _))
   ·simp only [World.cell?,Nat.zero_add,hheap]
    match j,ej with
    | 0,ej=>simp at ej;subst ej;exact ⟨_,rfl,.nilp⟩
    | 1,ej=>simp at ej;subst ej;exact ⟨_,rfl,.tnil _ _⟩
    | j+2,ej=>simp at ej
   ·simp only [World.cell?,Nat.zero_add,hheap]
    simp only at hj
    match j,hj with
    | 0,_=>rfl
    | 1,_=>rfl
   ·simp only [World.frozen?,Nat.zero_add,hheap]
    simp
   ·simp only [World.shape?,hheap];rfl
 ·cases hc
theorem XRU (h:HpR P w0 U ρ H top w) {t u te:TypeId} {y z:Operand} (ho:o.op=.binOp .neq t y z u) (hd:P.underlying t=some (.pointer te)) (hi:(P.info? te).isSome=true) (hv:VRL ρ vals [a y,a z])
 (hr:XcM (.eqP true y z) vals H top=some (x,H',top')):Done P w0 U ρ o a w x H' top':=by
 obtain ⟨j,hj⟩:=Option.isSome_iff_exists.1 hi
 refine XdW h rfl hr fun r hc=>?_
 change XFJ true vals []=some r at hc
 unfold XFJ at hc;split at hc
 ·split at hc
  ·rename_i hb
   obtain ⟨rfl,rfl⟩:=hb
   obtain ⟨v1,v2,e,h1,h2⟩:=hv.inv2
   simp only [List.cons.injEq,and_true] at e
   obtain ⟨e1,e2⟩:=e
   refine ⟨_,_,Xb2 hc,?_,.bool _⟩
   cases h1 with|ptr hl1=>
   cases h2 with|ptr hl2=>
   rw [hl1] at hl2;cases hl2
   have hg:∀ v v',(eqGuard .neq t y z (.pointer v) (.pointer v')).run P w=.ok () w:=fun v v'=>by simp [eqGuard]
   simp [execOp,ho,e1,e2,hg,Lib.run_neq_ptr_same (P:=P) w _ hd hj]
  ·cases hc
 ·cases hc
theorem Xpg {l:Loc} {t q:Nat} {cs:List Value} (h:XmK P ρ w l (.ty t cs)) (hq:q<cs.length):w.shape? l.blk=some (t,l.ext)∧l.sh=0∧q<l.ext:=by
 obtain ⟨h1,h2,h3⟩:=h
 have:=h1.1
 rcases h3 with h3|h3
 ·omega
 ·exact ⟨h3,h2,by omega⟩
theorem XVq (h:HpR P w0 U ρ H top w) {s d t:TypeId} {i:TypeInfo} {y:Operand} (ho:o.op=.convert s d y) (hs:P.underlying s=some (.pointer t)) (hd:P.underlying d=some .unsafePointer) (hi:P.info? t=some i) (hz:i.size≠0) (hv:VRL ρ vals [a y])
 (hr:XcM (.toU y) vals H top=some (x,H',top')):Done P w0 U ρ o a w x H' top':=by
 have hn:∃ b q,vals=[.pointer (some ⟨b,q,none⟩)]:=by
  obtain ⟨objs,rr,hc⟩:=Xgg hr
  change Xwr vals objs=_ at hc
  unfold Xwr at hc
  split at hc
  ·exact ⟨_,_,rfl⟩
  ·cases hc
 obtain ⟨b,q,rfl⟩:=hn
 obtain ⟨v1,e,h1⟩:=hv.inv1
 simp only [List.cons.injEq,and_true] at e
 refine Xq2 h (b:=b) rfl hr fun ob r l hb hl hob hc=>?_
 simp only [core,Xwr] at hc
 split at hc
 ·rename_i heq1 heq2
  cases heq1
  cases heq2
  split at hc
  ·rename_i hlt
   obtain ⟨z1,z2,z3⟩:=Xpg hob hlt
   refine ⟨_,v1,(Option.some.inj hc).symm,?_,h1⟩
   cases h1 with|ptr hl'=>
   rw [hl] at hl';cases hl'
   have:=Lib.run_to_unsafe (P:=P) w ⟨l.blk,l.sh+q,none⟩ hs hd hi hz z1 (by simp only [z2];omega)
   simp only [execOp,ho,e,Sem.run_bind,this];rfl
  ·cases hc
 ·cases hc
theorem XpC {e:TypeId} (hc:1≤P.cellsOf e) (count n:Nat) (hn:n≤count):liesAt P P.depth e count 0 e n=true:=by
 have hd:P.depth=(2*(P.types.size+Made.depth)+1)+1:=rfl
 rw [hd]
 simp only [liesAt,Bool.or_eq_true]
 left
 rw [hd]
 have h0:¬ P.cellsOf e=0:=by omega
 simp [rowAt,h0,hn,sameLayout]
theorem XUC (h:HpR P w0 U ρ H top w) {s d u:TypeId} {i:TypeInfo} {y:Operand} (ho:o.op=.convert s d y) (hs:P.underlying s=some .unsafePointer) (hd:P.underlying d=some (.pointer u)) (hi:P.info? u=some i) (hz:i.size≠0) (hv:VRL ρ vals [a y])
 (hr:XcM (.ofU u i.size y) vals H top=some (x,H',top')):Done P w0 U ρ o a w x H' top':=by
 have hn:∃ b,vals=[.pointer (some ⟨b,0,none⟩)]:=by
  obtain ⟨objs,rr,hc⟩:=Xgg hr
  change Xww u i.size vals objs=_ at hc
  unfold Xww at hc
  split at hc
  ·exact ⟨_,rfl⟩
  ·cases hc
 obtain ⟨b,rfl⟩:=hn
 obtain ⟨v1,e,h1⟩:=hv.inv1
 simp only [List.cons.injEq,and_true] at e
 refine Xq2 h (b:=b) rfl hr fun ob r l hb hl hob hc=>?_
 simp only [core,Xww] at hc
 split at hc
 ·rename_i heq1 heq2
  cases heq1
  cases heq2
  split at hc
  ·rename_i hlt
   obtain ⟨rfl,hlt⟩:=hlt
   obtain ⟨z1,z2,z3⟩:=Xpg (q:=0) hob (by omega)
   have hext:i.size≤l.ext:=Nat.le_trans hlt hob.1.1
   refine ⟨_,v1,(Option.some.inj hc).symm,?_,h1⟩
   cases h1 with|ptr hl'=>
   rw [hl] at hl';cases hl'
   have hlies:=XpC (P:=P) (e:=_) (by rw [XfA hi];omega) (l.ext/i.size) 1 (by rw [Nat.le_div_iff_mul_le (by omega)];omega)
   have:=Lib.run_from_unsafe (P:=P) w ⟨l.blk,l.sh+0,none⟩ hs hd hi z1 (by simp only [z2,Nat.add_zero,XfA hi];exact hlies)
   simp only [execOp,ho,e,Sem.run_bind,this];rfl
  ·cases hc
 ·cases hc
theorem XsH : Extern.allNextRows.lookup "internal/abi.NoEscape" = none := by kernel_rfl
theorem XqL : Extern.allNextRows.lookup "" = none := by kernel_rfl
theorem XE2 : Extern.allGenericRows.lookup "internal/abi.NoEscape" = none := by kernel_rfl
theorem XC9 : Extern.allTypedRows.lookup "internal/abi.NoEscape" = none := by kernel_rfl
theorem XHG : Extern.allRows.lookup "internal/abi.NoEscape" = some Extern.AbiNoEscape.same := by kernel_rfl
theorem XFH (h : HpR P w0 U ρ H top w) {f : FuncId} {fn : Func} {y : Operand} {ts : Array TypeId} (ho : o.op = .call ⟨.value (.func f), #[y], ts⟩) (ha : a (.func f) = .func (.func f) #[] #[]) (hf : P.funcs[f]? = some fn) (hb : fn.body.isNone = true) (hn : fn.name = "internal/abi.NoEscape") (hor : fn.origin = "" ∨ fn.origin = "internal/abi.NoEscape") (hv : VRL ρ vals [a y])
 (hr:XcM (.mv y) vals H top=some (x,H',top')):Done P w0 U ρ o a w x H' top':=by
 refine XdW h rfl hr fun r hc=>?_
 obtain ⟨v,rfl⟩:∃ v,vals=[v]:=by
  cases hv with|cons _ ht=>cases ht;exact ⟨_,rfl⟩
 obtain ⟨v2,e2,h2⟩:=hv.inv1
 simp only [List.cons.injEq,and_true] at e2
 simp only [core,c_mv] at hc
 refine ⟨_,v2,Xb2 hc,?_,h2⟩
 have hname : (fn.name == "runtime.NumGoroutine") = false := by rw [hn]; decide
 have hnx:Extern.findNext fn=none:=by
  unfold Extern.findNext
  simp only [hn,XsH]
  rcases hor with h|h<;>simp [h,XsH,XqL]
 have hfd:Extern.find fn=some Extern.AbiNoEscape.same:=by
  unfold Extern.find
  simp only [hn,XE2,XC9,XHG]
  rfl
 have:=run_callFunc_extern hf hname hb hnx hfd #[v2] w
 rw [Lib.run_noEscape] at this
 simp only [execOp,ho,resolve,ha,Deferred.ofValue,Sem.run_bind,Sem.run_pure,Result.andThen_ok,invoke,Array.append_empty,Array.empty_append,List.map_toArray,List.map,e2]
 rw [this];rfl
theorem XqK : Extern.allNextRows.lookup "internal/bytealg.IndexByteString" = none := by kernel_rfl
theorem XAy : Extern.allGenericRows.lookup "internal/bytealg.IndexByteString" = none := by kernel_rfl
theorem XBB : Extern.allTypedRows.lookup "internal/bytealg.IndexByteString" = none := by kernel_rfl
theorem XyC : Extern.allRows.lookup "internal/bytealg.IndexByteString" = some Extern.BytealgIndexByte.indexByte := by kernel_rfl
theorem XGw (b:ByteArray) (c:UInt8):((List.range b.size).find? fun i=>b[i]! == c)=b.data.toList.findIdx? (fun x=>x==c):=by
 have h1:∀ (l:List UInt8) (k:Nat) (p:Nat→Bool),(∀ i,(h:i<l.length)→p (k+i)=(l[i]==c))→(List.range' k l.length).find? p=(l.findIdx? (fun x=>x==c)).map (·+k):=by
  intro l
  induction l with
  | nil=>intro k p _;rfl
  | cons x l ih=>
    intro k p hp
    rw [List.length_cons,List.range'_succ,List.find?_cons,List.findIdx?_cons,show p k=(x==c) from hp 0 (by simp)]
    cases hx:(x==c)
    ·simp only [Bool.false_eq_true,if_false]
     rw [ih (k+1) p (fun i hi=>by have:=hp (i+1) (by simpa using hi);rw [show k+1+i=k+(i+1) by omega,this];rfl)]
     cases l.findIdx? (fun x=>x==c)<;>simp;omega
    ·simp
 have h2:=h1 b.data.toList 0 (fun i=>b[i]! == c) (fun i hi=>by
  have:i<b.size:=hi
  rw [Nat.zero_add,getElem!_pos b i this];rfl)
 rw [List.range_eq_range',show b.size=b.data.toList.length from rfl,h2]
 cases b.data.toList.findIdx? (fun x=>x==c)<;>simp
theorem XTc (h : HpR P w0 U ρ H top w) {f : FuncId} {fn : Func} {y z : Operand} {ts : Array TypeId} (ho : o.op = .call ⟨.value (.func f), #[y, z], ts⟩) (ha : a (.func f) = .func (.func f) #[] #[]) (hf : P.funcs[f]? = some fn) (hb : fn.body.isNone = true) (hn : fn.name = "internal/bytealg.IndexByteString") (hor : fn.origin = "" ∨ fn.origin = "internal/bytealg.IndexByteString") (hv : VRL ρ vals [a y, a z])
 (hr:XcM (.ixb y z) vals H top=some (x,H',top')):Done P w0 U ρ o a w x H' top':=by
 refine XdW h rfl hr fun r hc=>?_
 change XBx vals []=some r at hc
 unfold XBx at hc;split at hc
 ·obtain ⟨v1,v2,e,h1,h2⟩:=hv.inv2
  simp only [List.cons.injEq,and_true] at e
  cases h1;cases h2
  rename_i s c _
  refine ⟨_,_,Xb2 hc,?_,.int _ _⟩
  have hname : (fn.name == "runtime.NumGoroutine") = false := by rw [hn]; decide
  have hnx:Extern.findNext fn=none:=by
   unfold Extern.findNext
   simp only [hn,XqK]
   rcases hor with h|h<;>simp [h,XqK,XqL]
  have hfd:Extern.find fn=some Extern.BytealgIndexByte.indexByte:=by
   unfold Extern.find
   simp only [hn,XAy,XBB,XyC]
   rfl
  have:=run_callFunc_extern hf hname hb hnx hfd #[.string s,.int .u8 c] w
  simp only [execOp,ho,resolve,ha,Deferred.ofValue,Sem.run_bind,Sem.run_pure,Result.andThen_ok,invoke,Array.append_empty,Array.empty_append,List.map_toArray,List.map,e.1,e.2]
  rw [this]
  have e3:Extern.BytealgIndexByte.indexByte #[.string s,.int .u8 c]=(do
   let b ←Extern.Bytes.bytesOf (.string s)
   let d ←Extern.Bytes.asByte (.int .u8 c)
   match (List.range b.size).find? fun i=>b[i]! == d with
   | some i=>pure (goInt i)
   | none=>pure (goInt (-1))):=rfl
  rw [e3]
  simp only [Extern.Bytes.bytesOf,Extern.Bytes.asByte,XGw,Sem.run_bind,Sem.run_pure,Result.andThen_ok,ixB]
  cases List.findIdx? (fun x=>x==c.toNat.toUInt8) s.data.toList<;>rfl
 ·cases hc
theorem XDy (h:HpR P w0 U ρ H top w) {ts:Array TypeId} {y:Operand} (ho:o.op=.call ⟨.builtin .unsafeSliceData,#[y],ts⟩) (hv:VRL ρ vals [a y])
 (hr:XcM (.sdata y) vals H top=some (x,H',top')):Done P w0 U ρ o a w x H' top':=by
 refine XdW h rfl hr fun r hc=>?_
 change Xr8 vals []=some r at hc
 unfold Xr8 at hc;split at hc
 ·obtain ⟨v1,e,h1⟩:=hv.inv1
  simp only [List.cons.injEq,and_true] at e
  have:v1=.slice none 0 0:=by cases h1;rfl
  subst this
  refine ⟨_,.pointer none,Xb2 hc,?_,.nilp⟩
  simp only [execOp,ho,resolve,invoke,Go.builtin,Sem.run_bind,Sem.run_pure,Result.andThen_ok,List.map_toArray,List.map,e]
  rfl
 ·obtain ⟨v1,e,h1⟩:=hv.inv1
  simp only [List.cons.injEq,and_true] at e
  cases h1 with
  | tsl m hl hv'=>
    rcases hv' with ⟨rfl,rfl⟩|⟨c,rfl,hnc,hc0,hce⟩
    ·refine ⟨_,.pointer none,Xb2 hc,?_,.sdat _ hl (fun h=>absurd h (Nat.lt_irrefl _))⟩
     simp only [execOp,ho,resolve,invoke,Go.builtin,Sem.run_bind,Sem.run_pure,Result.andThen_ok,List.map_toArray,List.map,e]
     rfl
    ·refine ⟨_,.pointer (some ⟨_,_,none⟩),Xb2 hc,?_,.sdat _ hl (fun _=>rfl)⟩
     simp only [execOp,ho,resolve,invoke,Go.builtin,Sem.run_bind,Sem.run_pure,Result.andThen_ok,List.map_toArray,List.map,e,Lib.run_unsafeSliceData_row (P:=P) w ts o.type _ _ c (by omega)]
 ·cases hc
theorem XpM (w:World) (b q n b' k:Nat):(w.freeze ⟨b,q,none⟩ n).cell? ⟨b',k,none⟩=w.cell? ⟨b',k,none⟩:=by
 unfold World.freeze
 split
 ·rfl
 ·unfold World.cell?
  simp only [Array.getElem?_modify]
  by_cases h:b=b'
  ·subst h
   cases w.heap[b]? with
   | none=>simp
   | some x=>cases x<;>simp
  ·simp [h]
theorem Xp3 (w:World) (b q n b':Nat) (h:b≠b'):(w.freeze ⟨b,q,none⟩ n).heap[b']?=w.heap[b']?:=by
 unfold World.freeze
 split
 ·rfl
 ·simp only [Array.getElem?_modify,if_neg h]
end
section
variable {P:Program} {w0:World} {U:UG} {ρ:Ren} {o:Oper} {a:Operand→Value} {w:World} {H:Hp} {top:Nat}
theorem HpR.freeze (h:HpR P w0 U ρ H top w) {b n t:Nat} {l:Loc} {cs:List Value} (hb:XaD H b=some (.ty t cs)) (hl:ρ b=some l) (hn:0<n) (hc:n≤cs.length) :
 HpR P w0 U ρ (Xgp H b (.row false cs)) top (w.freeze ⟨l.blk,0,none⟩ n):=by
 obtain ⟨l',hl',hob,hwr⟩:=h.obj b _ hb
 rw [hl] at hl';cases hl'
 obtain ⟨hsh,hs0,hext⟩:=Xpg (q:=0) hob (by omega)
 obtain ⟨hcr,_,_⟩:=hob
 have hle:=hcr.1
 have hw:=hwr rfl
 obtain ⟨arr,fr,hheap,hsz⟩:∃ arr fr,w.heap[l.blk]?=some (.cells arr t fr)∧arr.size=l.ext:=by
  unfold World.shape? at hsh
  split at hsh
  ·rename_i c e f hh
   simp only [Option.some.injEq,Prod.mk.injEq] at hsh
   obtain ⟨rfl,hs⟩:=hsh
   exact ⟨c,f,hh,hs⟩
  ·cases hsh
 have hnf:∀ k,k<l.ext→¬ (fr.1≤k∧k<fr.2):=fun k hk hx=>by
  have:=(hcr.2.2 k hk).2 rfl
  rw [hs0,Nat.zero_add] at this
  simp only [World.frozen?,hheap] at this
  simp at this
  omega
 have hwb:(w.freeze ⟨l.blk,0,none⟩ n).heap[l.blk]?=some (.cells arr t (if fr.1==fr.2 then (0,n) else (min fr.1 0,max fr.2 n))):=by
  unfold World.freeze
  rw [if_neg (by omega)]
  simp only [Array.getElem?_modify,if_true,hheap,Option.map_some]
  cases fr;simp
 have hk:Keep U w0 (w.freeze ⟨l.blk,0,none⟩ n):=by
  refine ⟨?_,?_,?_,?_,fun b' hb'=>?_⟩
  ·unfold World.freeze;split<;>exact h.keep.os
  ·unfold World.freeze;split<;>exact h.keep.tape
  ·unfold World.freeze;split<;>exact h.keep.output
  ·have:=h.keep.size
   unfold World.freeze;split
   ·exact this
   ·simpa using this
  ·have hbk:=h.keep.block b' hb'
   by_cases hbl:l.blk=b'
   ·subst hbl
    have hU:∀ k,k<l.ext→U.u l.blk k:=fun k hk=>by
     rcases hw k (by omega) (by omega) with h1|h1
     ·exact h1
     ·omega
    rw [hwb]
    rw [hheap] at hbk
    cases h0:w0.heap[l.blk]? with
    | none=>rw [Array.getElem?_eq_none_iff] at h0;omega
    | some y=>
      rw [h0] at hbk
      cases y with
      | cells arr0 T fr0=>
        obtain ⟨arr',fr',e1,e2,e3,e4⟩:=hbk
        cases e1
        refine ⟨arr,_,rfl,e2,.inr ⟨0,hU 0 hext⟩,fun k hku=>⟨(e4 k hku).1,fun hk'=>absurd (hU k (by omega)) hku⟩⟩
      | _=>
        rcases hbk with hz|hz
        ·exact .inl hz
        ·cases hz
   ·rw [Xp3 _ _ _ _ _ hbl];exact hbk
 have hother:∀ j x lj,b≠j→XaD H j=some x→ρ j=some lj→0<lj.ext→lj.blk≠l.blk:=fun j x lj hbj hj hlj he e=>by
  have ap:=h.dis b j _ x l lj hbj hb hj hl hlj rfl
  obtain ⟨lj',hlj',hor,_⟩:=h.obj j x hj
  rw [hlj] at hlj';cases hlj'
  have key:∀ own cs',Xbt ρ w lj own cs'→False:=fun own cs' hcj=>by
   have:=(hcj.2.2 0 he).1
   rw [e,Nat.add_zero] at this
   simp only [World.cell?,hheap] at this
   simp at this
   exact ap lj.sh e.symm (by omega) (by omega) (Nat.le_refl _) (by omega)
  cases x with
  | cells cs'=>exact key _ _ hor
  | row own cs'=>exact key _ _ hor
  | ty t' cs'=>exact key _ _ hor.1
  | siter s p=>have a:=hor.1;rw [e,hheap] at a;cases a
  | loop r=>obtain ⟨⟨r',a,_⟩,_⟩:=hor;rw [e,hheap] at a;cases a
  | marks=>have a:=hor.1;rw [e,hheap] at a;cases a
 refine ⟨fun j x hj=>?_,fun i j oi oj li lj hij hi hj hli hlj hwi=>?_,h.lt,hk⟩
 ·rw [Xa1] at hj
  by_cases hbj:b=j
  ·subst hbj
   rw [if_pos rfl] at hj;cases hj
   refine ⟨l,hl,?_,fun e=>by cases e⟩
   refine ⟨hcr.1,fun i v e=>?_,fun i hi=>⟨?_,fun e=>by cases e⟩⟩
   ·obtain ⟨v',e1,e2⟩:=hcr.2.1 i v e
    exact ⟨v',by rw [XpM];exact e1,e2⟩
   ·rw [XpM];exact (hcr.2.2 i hi).1
  ·rw [if_neg hbj] at hj
   obtain ⟨lj,hlj,hor,hwj⟩:=h.obj j x hj
   refine ⟨lj,hlj,?_,hwj⟩
   rcases Nat.eq_zero_or_pos lj.ext with he|he
   ·exact hor.same (Ext.refl ρ) (fun h=>by omega)
   ·exact hor.same (Ext.refl ρ) (fun _=>Xp3 _ _ _ _ _ (Ne.symm (hother j x lj hbj hj hlj he)))
 ·rw [Xa1] at hi hj
  by_cases h1:b=i
  ·subst h1;rw [if_pos rfl] at hi;cases hi;cases hwi
  ·rw [if_neg h1] at hi
   by_cases h2:b=j
   ·subst h2
    rw [if_pos rfl] at hj
    exact h.dis i b oi _ li lj hij hi hb hli hlj hwi
   ·rw [if_neg h2] at hj
    exact h.dis i j oi oj li lj hij hi hj hli hlj hwi
theorem HpR.thaw (h:HpR P w0 U ρ H top w) {b t:Nat} {cs:List Value} (hb:XaD H b=some (.ty t cs)):HpR P w0 U ρ (Xgp H b (.row false cs)) top w:=by
 refine ⟨fun j x hj=>?_,fun i j oi oj li lj hij hi hj hli hlj hwi=>?_,h.lt,h.keep⟩
 ·rw [Xa1] at hj
  by_cases hbj:b=j
  ·subst hbj
   rw [if_pos rfl] at hj;cases hj
   obtain ⟨l,hl,hob,_⟩:=h.obj b _ hb
   refine ⟨l,hl,⟨hob.1.1,hob.1.2.1,fun i hi=>⟨(hob.1.2.2 i hi).1,fun e=>by cases e⟩⟩,fun e=>by cases e⟩
  ·rw [if_neg hbj] at hj;exact h.obj j x hj
 ·rw [Xa1] at hi hj
  by_cases h1:b=i
  ·subst h1;rw [if_pos rfl] at hi;cases hi;cases hwi
  ·rw [if_neg h1] at hi
   by_cases h2:b=j
   ·subst h2
    exact h.dis i b oi _ li lj hij hi hb hli hlj hwi
   ·rw [if_neg h2] at hj
    exact h.dis i j oi oj li lj hij hi hj hli hlj hwi
end
section
variable {P:Program} {w0:World} {U:UG} {ρ:Ren} {o:Oper} {a:Operand→Value} {w:World} {H:Hp} {top:Nat} [NG U top]
 {x:Option Value} {H':Hp} {top':Nat} {vals:List Value}
theorem XmG:∀ (l:List Int) (a:Addr) (acc:ByteArray),(∀ (j:Nat) x,l[j]?=some x→w.cell? (a.add j)=some (.int .u8 x)) →
 (loadBytes a acc l.length).run P w=.ok ⟨acc.data++(l.map fun n=>UInt8.ofNat n.toNat).toArray⟩ w
 | [],a,acc,_=>by simp [loadBytes]
 | x::l,a,acc,h=>by
   have h0:w.cell? a=some (.int .u8 x):=by
    have:=h 0 x rfl
    simpa [Addr.add] using this
   have ih:=XmG l (a.add 1) (acc.push (UInt8.ofNat x.toNat)) (fun j y hy=>by
    have:=h (j+1) y (by simpa using hy)
    have e:(a.add 1).add j=a.add (j+1):=by
     unfold Addr.add
     by_cases hj:j=0
     ·subst hj;simp
     ·simp [hj];omega
    rw [e];exact this)
   have hx:x.toNat.toUInt8=UInt8.ofNat x.toNat:=rfl
   simp only [List.length_cons,loadBytes,Sem.run_bind,run_load,h0,Result.andThen,hx]
   rw [ih]
   congr 1
   apply ByteArray.ext
   simp [ByteArray.push]
theorem Xoh (pt it ty e:TypeId) (hp:P.underlying pt=some (.pointer e)) (hc:P.cellsOf e=1) (g cells:Nat) (hsh:w.shape? g=some (e,cells)) (l:List Int) (h0:l≠[]) (hn:l.length≤cells) (h63:l.length≤9223372036854775807)
 (hcell:∀ (j:Nat) x,l[j]?=some x→w.cell? ((⟨g,0,none⟩:Addr).add j)=some (.int .u8 x)) :
 (Builtin.unsafeString_ #[pt,it] ty #[.pointer (some ⟨g,0,none⟩),.int .i64 l.length]).run P w=.ok (.string ⟨(l.map fun n=>UInt8.ofNat n.toNat).toArray⟩) (w.freeze ⟨g,0,none⟩ l.length):=by
 have hl:l.length≠0:=by simpa using h0
 have hlb:=XmG (P:=P) (w:=w) l ⟨g,0,none⟩ .empty hcell
 have hlies:=XpC (P:=P) (e:=e) (by omega) (cells/P.cellsOf e) l.length (by rw [hc];simpa using hn)
 have h63':¬ (9223372036854775807:Int)<(l.length:Int):=by omega
 obtain ⟨err,hdef⟩:∃ err,Builtin.unsafeString_ #[pt,it] ty #[.pointer (some ⟨g,0,none⟩),.int .i64 l.length] =
  (do
    let n ←asInt (.int .i64 l.length)
    if n<0 then runtimePanic err
    if n > IntKind.i64.max then unsupported (.unsafePointer "String: a length above the largest int")
    if n=0 then pure (.string .empty)
    else if ←variablesAt ⟨g,0,none⟩ (←elemOf pt) n.toNat then do
     let s ←loadBytes ⟨g,0,none⟩ .empty n.toNat
     freeze ⟨g,0,none⟩ n.toNat
     pure (.string s)
    else unsupported (.unsafePointer "String: not so many bytes at ptr")) := ⟨_, rfl⟩
 rw [hdef]
 have hmax:IntKind.i64.max=9223372036854775807:=rfl
 have hneg:¬ (l.length:Int)<0:=by omega
 simp [asInt,asIntOf,hmax,h63',hneg,hl,variablesAt,hsh,elemOf,run_underlying hp,hlies,hlb]
theorem XKc (h:HpR P w0 U ρ H top w) {pt it e:TypeId} {i:TypeInfo} {y z:Operand} (ho:o.op=.call ⟨.builtin .unsafeString,#[y,z],#[pt,it]⟩) (hp:P.underlying pt=some (.pointer e)) (hi:P.info? e=some i) (hs:i.size=1) (hv:VRL ρ vals [a y,a z])
 (hr:XcM (.ustr e y z) vals H top=some (x,H',top')):Done P w0 U ρ o a w x H' top':=by
 have hexec:∀ r w',(Builtin.unsafeString_ #[pt,it] o.type #[a y,a z]).run P w=.ok r w'→(execOp a o).run P w=.ok (.value r) w':=by
  intro r w' hrun
  simp only [execOp,ho,resolve,invoke,Go.builtin,Sem.run_bind,Sem.run_pure,Result.andThen_ok,List.map_toArray,List.map,hrun]
 have hn:vals=[.pointer none,.int .i64 0]∨∃ m b n k,vals=[.func (.method m) ⟨[.slice (some ⟨b,0,none⟩) n 1]⟩ ⟨[.bool true]⟩,.int .i64 k]:=by
  obtain ⟨objs,rr,hc⟩:=Xgg hr
  change Xrf e vals objs=_ at hc
  unfold Xrf at hc
  split at hc
  ·exact .inl rfl
  ·exact .inr ⟨_,_,_,_,rfl⟩
  ·cases hc
 obtain ⟨v1,v2,ev,h1,h2⟩:∃ v1 v2,(a y=v1∧a z=v2)∧True∧VRL ρ vals [v1,v2]:=⟨_,_,⟨rfl,rfl⟩,trivial,hv⟩
 rcases hn with rfl|⟨m,b,n,k,rfl⟩
 ·refine XdW h rfl hr fun r hc=>?_
  obtain ⟨u1,u2,eu,k1,k2⟩:=h2.inv2
  simp only [List.cons.injEq,and_true] at eu
  obtain ⟨rfl,rfl⟩:=eu
  cases k1
  cases k2
  change val _=some r at hc
  refine ⟨_,.string .empty,Xb2 hc,?_,.string _⟩
  exact hexec _ _ (by rw [ev.1,ev.2];exact Lib.run_unsafeString_none w pt it o.type none)
 ·obtain ⟨ob,r,hb,hc,rfl,hh⟩:=XlK (b:=b) rfl hr
  simp only [core] at hc
  unfold Xrf at hc
  split at hc
  ·rename_i heq _;cases heq
  ·rename_i heq1 heq2
   cases heq1
   cases heq2
   split at hc<;>try (cases hc;done)
   rename_i hcond
   obtain ⟨het,rfl,hle,h63⟩:=hcond
   subst het
   split at hc<;>try (cases hc;done)
   rename_i bs hbs
   cases hc
   rcases hh with ⟨_,rfl,rfl⟩|⟨fo,e',_⟩
   case inr=>cases e'
   obtain ⟨u1,u2,eu,k1,k2⟩:=h2.inv2
   simp only [List.cons.injEq,and_true] at eu
   obtain ⟨rfl,rfl⟩:=eu
   cases k2
   obtain ⟨l,hl,hob,_⟩:=h.obj b _ hb
   rcases Nat.eq_zero_or_pos n with h0|h0
   ·subst h0
    simp only [List.take_zero,Xg7,Option.some.injEq] at hbs
    subst hbs
    have hrn:=hexec (.string .empty) w (by
     rw [ev.1,ev.2]
     cases k1 with
     | sdat _ hl' hp'=>exact Lib.run_unsafeString_none w pt it o.type _)
    exact ⟨ρ,w,_,hrn,Ext.refl ρ,h.thaw hb,_,rfl,.string _⟩
   ·cases k1 with
    | sdat _ hl' hp'=>
      rw [hl] at hl';cases hl'
      have hp0:=hp' h0
      subst hp0
      obtain ⟨hsh,hs0,_⟩:=Xpg (q:=0) hob (by omega)
      obtain ⟨ns,n1,n2⟩:=XlH hbs
      obtain ⟨vs,g1,g2,g3⟩:=hob.1.values 0 n (by omega)
      rw [List.drop_zero,n1] at g1
      have hvs:=g1.ints
      have hnl:ns.length=n:=by rw [←g2,hvs];simp
      have hrn:=hexec (.string ⟨(ns.map fun n=>UInt8.ofNat n.toNat).toArray⟩) (w.freeze ⟨l.blk,0,none⟩ n) (by
       rw [ev.1,ev.2]
       have:=Xoh (P:=P) (w:=w) pt it o.type _ hp (by rw [XfA hi,hs]) l.blk l.ext hsh ns (by intro e;rw [e] at hnl;simp at hnl;omega) (by have:=hob.1.1;omega) (by omega) (fun j x hx=>by
        rw [addr_add,Nat.zero_add]
        have:=g3 j (.int .u8 x) (by rw [hvs,List.getElem?_map,hx];rfl)
        rw [hs0] at this
        simpa using this)
       rw [hnl] at this
       rw [hs0]
       exact this)
      refine ⟨ρ,_,_,hrn,Ext.refl ρ,h.freeze hb hl h0 hle,_,rfl,?_⟩
      rw [n2]
      exact .string _
  ·cases hc
end
section
variable {P:Program} {w0:World} {U:UG} {ρ:Ren} {o:Oper} {a:Operand→Value} {w:World} {H:Hp} {top:Nat} [NG U top]
 {x:Option Value} {H':Hp} {top':Nat} {vals:List Value}
omit [NG U top] in
theorem HpR.cut (h:HpR P w0 U ρ H top w) {b k:Nat} {cs:List Value} (hb:XaD H b=some (.row true cs)):HpR P w0 U ρ (Xgp H b (.row true (cs.take k))) top w:=by
 refine ⟨fun j x hj=>?_,fun i j oi oj li lj hij hi hj hli hlj hwi=>?_,h.lt,h.keep⟩
 ·rw [Xa1] at hj
  by_cases hbj:b=j
  ·subst hbj
   rw [if_pos rfl] at hj;cases hj
   obtain ⟨l,hl,hob,hw⟩:=h.obj b _ hb
   have hob:Xbt ρ w l true cs:=hob
   refine ⟨l,hl,⟨by have:=hob.1;simp only [List.length_take];omega,fun i v hv=>?_,hob.2.2⟩,fun _=>hw rfl⟩
   rw [List.getElem?_take] at hv
   split at hv
   ·exact hob.2.1 i v hv
   ·cases hv
  ·rw [if_neg hbj] at hj;exact h.obj j x hj
 ·have key:∀ j o,XaD (Xgp H b (.row true (cs.take k))) j=some o→∃ o',XaD H j=some o'∧(writable o=true→writable o'=true):=fun j o ho=>by
   rw [Xa1] at ho
   split at ho
   ·rename_i hj;subst hj;exact ⟨_,hb,fun _=>rfl⟩
   ·exact ⟨o,ho,id⟩
  obtain ⟨oi',a1,a2⟩:=key i oi hi
  obtain ⟨oj',b1,_⟩:=key j oj hj
  exact h.dis i j oi' oj' li lj hij a1 b1 hli hlj (a2 hwi)
theorem Xwx (cs vs:List Value) (q:Nat) (h:q+vs.length≤cs.length):(setAt cs q vs).take q=cs.take q:=by
 apply List.ext_getElem?
 intro k
 rw [List.getElem?_take,List.getElem?_take]
 split
 ·rw [Xkl _ _ _ _ h,if_neg (by omega)]
 ·rfl
theorem XV5 (h:HpR P w0 U ρ H top w) {t e:TypeId} {i:TypeInfo} {z:Value} {y:Operand} (ho:o.op=.call ⟨.builtin .clear,#[y],#[t]⟩) (ht:P.underlying t=some (.slice e)) (hi:P.info? e=some i) (hz:i.zero=some z)
 (hl:(XaX z).length=i.size) (h1:1≤i.size) (hf:Xbm z=true) (hone:(XaX z).all Xij=true) (hv:VRL ρ vals [a y])
 (hr:XcM (.clr i.size y) vals H top=some (x,H',top')):Done P w0 U ρ o a w x H' top':=by
 have hexec:∀ r w',(Builtin.clear_ #[t] o.type #[a y]).run P w=.ok r w'→(execOp a o).run P w=.ok (.value r) w':=by
  intro r w' hrun
  simp only [execOp,ho,resolve,invoke,Go.builtin,Sem.run_bind,Sem.run_pure,Result.andThen_ok,List.map_toArray,List.map,hrun]
 have hn:(∃ c,vals=[.slice none 0 c])∨∃ b q n s,vals=[.slice (some ⟨b,q,none⟩) n s]:=by
  obtain ⟨objs,rr,hc⟩:=Xgg hr
  change Xwv i.size vals objs=_ at hc
  unfold Xwv at hc
  split at hc
  ·exact .inl ⟨_,rfl⟩
  ·exact .inr ⟨_,_,_,_,rfl⟩
  ·cases hc
 obtain ⟨v1,ev,h2⟩:∃ v1,a y=v1∧VRL ρ vals [v1]:=⟨_,rfl,hv⟩
 rcases hn with ⟨c,rfl⟩|⟨b,q,n,s,rfl⟩
 ·refine XdW h rfl hr fun r hc=>?_
  change val _=some r at hc
  cases h2 with|cons k1 k2=>
  obtain ⟨_,rfl⟩:=Value.XnR k1
  refine ⟨_,.tuple ⟨[]⟩,Xb2 hc,?_,.tuple .nil⟩
  refine hexec _ _ ?_
  rw [ev]
  simp [Builtin.clear_,run_underlying ht]
 ·obtain ⟨ob,r,hb,hc,rfl,hh⟩:=XlK (b:=b) rfl hr
  simp only [core] at hc
  unfold Xwv at hc
  split at hc
  ·rename_i heq _;cases heq
  ·rename_i heq1 heq2
   cases heq1
   cases heq2
   split at hc<;>try (cases hc;done)
   rename_i hcond
   obtain ⟨rfl,hend⟩:=hcond
   cases hc
   rcases hh with ⟨_,rfl,rfl⟩|⟨fo,e',_⟩
   ·cases h2 with|cons k1 k2=>
    rcases Nat.eq_zero_or_pos n with h0|h0
    ·subst h0
     refine ⟨ρ,w,_,hexec (.tuple #[]) w ?_,Ext.refl ρ,h.cut hb,_,rfl,.tuple .nil⟩
     rw [ev]
     cases k1<;>(rename_i ad;try (cases ad))<;>simp [Builtin.clear_,run_underlying ht]
    ·cases k1 with
     | slice0 ad=>omega
     | @slice _ _ _ _ c l hl' hnc hcc=>
     have hzl:(Builtin.zeroCells z.cells n).toList=(List.replicate n (XaX z)).flatten:=by
      have hs:z.cells.size=(XaX z).length:=by simp [XaX]
      have:=Xom z n (by rw [hl];omega)
      rw [←hs] at this
      unfold Builtin.zeroCells
      rw [this]
     have hzlen:((List.replicate n (XaX z)).flatten).length=n*i.size:=by simp [hl]
     obtain ⟨w',g1,g2⟩:=XvD (P:=P) (q:=q) (vs:=(List.replicate n (XaX z)).flatten) h hb hl' rfl rfl (Xsp ρ z hf n) (by
      rw [List.all_flatten];simp only [List.all_replicate,hone];simp) (by rw [hzlen];omega)
     have g3:=g2.cut (k:=q) (XbI _ _ _)
     refine ⟨ρ,w',_,hexec (.tuple #[]) w' ?_,Ext.refl ρ,g3.congr (fun j=>?_),_,rfl,.tuple .nil⟩
     ·rw [ev]
      obtain ⟨m,rfl⟩:∃ m,n=m+1:=⟨n - 1,by omega⟩
      simp only [Builtin.clear_,List.getElem?_toArray,List.getElem?_cons_zero,Sem.run_bind,run_underlying ht,Result.andThen_ok,Xd0 hi hz,hzl,g1,Sem.run_pure]
     ·simp only [Xgv,Xa1]
      split
      ·rw [Xwx _ _ _ (by rw [hzlen];omega)]
      ·rfl
   ·cases e'
  ·cases hc
end
section
variable {P:Program} {w0:World} {U:UG} {ρ:Ren} {o:Oper} {a:Operand→Value} {w:World} {H:Hp} {top:Nat} [NG U top]
 {x:Option Value} {H':Hp} {top':Nat} {vals:List Value}
theorem nil0 {e:TypeId}:∀ z',XoT 0 (.const z')=true→Xi5 0 (.pointer e) z':=(fun z' hn=>by unfold XoT at hn;split at hn<;>first|(cases hn;done)|(exfalso;omega)|(rename_i e1;cases e1;rfl))
theorem nil1 {e:TypeId}:∀ z',XoT 1 (.const z')=true→Xi5 1 (.slice e) z':=(fun z' hn=>by unfold XoT at hn;split at hn<;>first|(cases hn;done)|(exfalso;omega)|(rename_i e1;cases e1;rfl))
theorem nil2 {p q:Array TypeId} {r:Bool}:∀ z',XoT 2 (.const z')=true→Xi5 2 (.func p q r) z':=(fun z' hn=>by unfold XoT at hn;split at hn<;>first|(cases hn;done)|(exfalso;omega)|(rename_i e1;cases e1;rfl))
theorem nil3 {e:Array (String×TypeId)}:∀ z',XoT 3 (.const z')=true→Xi5 3 (.interface e) z':=(fun z' hn=>by unfold XoT at hn;split at hn<;>first|(cases hn;done)|(exfalso;omega)|(rename_i e1;cases e1;rfl))
theorem XxY (h:HpR P w0 U ρ H top w) {v:VOp} (hc:Xcw P o.op=some v) (ha:∀ c,a (.const c)=c) (haf:∀ f,a (.func f)=.func (.func f) #[] #[]) (hv:VRL ρ vals (v.ops.map a)) (hr:XcM v vals H top=some (x,H',top')):Done P w0 U ρ o a w x H' top':=by
 cases hop:o.op<;>rw [hop] at hc
 case move y=>
  simp only [Xcw,Option.some.injEq] at hc;subst hc
  exact XUz h (by simp [execOp,hop]) hv hr
 case assign y=>
  simp only [Xcw,Option.some.injEq] at hc;subst hc
  exact XUz h (by simp [execOp,hop]) hv hr
 case pick c y z=>
  simp only [Xcw,Option.some.injEq] at hc;subst hc
  exact XKv h hop hv hr
 case alloc t=>
  simp only [Xcw] at hc
  split at hc<;>try (cases hc;done)
  rename_i i hi
  split at hc
  ·rename_i e hb
   cases hc
   exact Xzw h hop hi hb hv hr
  ·split at hc<;>try (cases hc;done)
   rename_i z hz
   split at hc<;>try (cases hc;done)
   rename_i hf
   cases hc
   exact XCS h hop hi hz hf hv hr
 case box t y=>
  simp only [Xcw,Option.some.injEq] at hc;subst hc
  exact XSI h hop hv hr
 case build t ps=>
  simp only [Xcw] at hc
  split at hc<;>try (cases hc;done)
  rename_i i hi
  split at hc<;>try (cases hc;done)
  rename_i z hz
  split at hc<;>try (cases hc;done)
  rename_i hf
  split at hc<;>try (cases hc;done)
  ·rename_i fs hd
   split at hc<;>try (cases hc;done)
   rename_i hall
   split at hc<;>try (cases hc;done)
   rename_i q hq
   cases hc
   refine XAQ h hop hi hz hf hd hall hq ?_ hr
   simpa [VOp.ops,Function.comp_def] using hv
  ·rename_i m e hd
   split at hc<;>try (cases hc;done)
   rename_i j hj
   cases hc
   refine XBu h hop hi hz hf hd hj ?_ hr
   simpa [VOp.ops,Function.comp_def] using hv
 case buildSlice t len ps=>
  simp only [Xcw] at hc
  split at hc<;>try (cases hc;done)
  rename_i e hd
  split at hc<;>try (cases hc;done)
  rename_i i hi
  split at hc<;>try (cases hc;done)
  rename_i z hz
  split at hc<;>try (cases hc;done)
  rename_i hf
  cases hc
  refine XwI h hop hd hi hz hf.1 hf.2.1 hf.2.2.1 hf.2.2.2 ?_ hr
  simpa [VOp.ops,Function.comp_def] using hv
 case load t y=>
  simp only [Xcw] at hc
  split at hc<;>try (cases hc;done)
  rename_i i hi
  split at hc<;>try (cases hc;done)
  rename_i d hd
  split at hc
  ·rename_i hag
   split at hc<;>try (cases hc;done)
   rename_i hl
   cases hc
   exact XGK h hop hd hag hi hl hv hr
  ·rename_i hag
   cases hc
   exact XFU h hop hd (by simpa using hag) hv hr
 case store t y z=>
  simp only [Xcw] at hc
  split at hc<;>try (cases hc;done)
  rename_i i hi
  cases hc
  exact XFC h hop hi hv hr
 case nilCheck y=>
  simp only [Xcw,Option.some.injEq] at hc;subst hc
  exact Xux h hop hv hr
 case binOp op t y z u=>
  simp only [Xcw] at hc
  unfold XzV at hc
  have nilc:∀ k d,P.underlying t=some d→(∀ z',XoT k (.const z')=true→Xi5 k d z')→Xow k op y z=some v→Done P w0 U ρ o a w x H' top':=by
   intro k d hd hcase hcn
   unfold Xow at hcn
   split at hcn<;>try (cases hcn;done)
   all_goals
    split at hcn<;>try (cases hcn;done)
    rename_i hn
    cases hcn
    cases z with
    | const z'=>exact XHp h (neg:=_) (by first|(exact hop)|(simpa using hop)) hd (hcase z' hn) (ha _) hv hr
    | _=>cases k<;>simp [XoT] at hn
  split at hc<;>try (cases hc;done)
  ·rename_i hd
   split at hc<;>try (cases hc;done)
   ·cases hc;exact XJE h (neg:=false) hop hd hv hr
   ·cases hc;exact XJE h (neg:=true) hop hd hv hr
  ·cases hc;exact XIX h hop hv hr
  ·cases hc;exact XIX h hop hv hr
  ·rename_i e hd
   split at hc
   ·rename_i v' hv'
    cases hc
    exact nilc 0 _ hd nil0 hv'
   ·split at hc<;>try (cases hc;done)
    split at hc<;>try (cases hc;done)
    rename_i hi
    cases hc
    exact XRU h hop hd hi hv hr
  ·rename_i e hd
   exact nilc 1 _ hd nil1 hc
  ·rename_i p q r hd
   exact nilc 2 _ hd nil2 hc
  ·rename_i e hd
   exact nilc 3 _ hd nil3 hc
  ·rename_i fs hd
   split at hc<;>try (cases hc;done)
   all_goals
    split at hc<;>try (cases hc;done)
    rename_i hg
    split at hc<;>try (cases hc;done)
    rename_i os hos
    cases hc
   ·exact Xpc h (neg:=false) hop hd (.inl ⟨_,rfl⟩) (by simpa using hg) hos hv hr
   ·exact Xpc h (neg:=true) hop hd (.inl ⟨_,rfl⟩) (by simpa using hg) hos hv hr
  ·rename_i n e hd
   split at hc<;>try (cases hc;done)
   all_goals
    split at hc<;>try (cases hc;done)
    rename_i hg
    split at hc<;>try (cases hc;done)
    rename_i os hos
    cases hc
   ·exact Xpc h (neg:=false) hop hd (.inr ⟨_,_,rfl⟩) (by simpa using hg) hos hv hr
   ·exact Xpc h (neg:=true) hop hd (.inr ⟨_,_,rfl⟩) (by simpa using hg) hos hv hr
 case unOp op t y=>
  simp only [Xcw] at hc
  split at hc<;>try (cases hc;done)
  ·cases hc;exact XSG h hop hv hr
  ·cases hc;exact XT3 h hop hv hr
  ·cases hc;exact XNy h hop hv hr
 case convert s t y=>
  simp only [Xcw] at hc
  split at hc<;>try (cases hc;done)
  ·rename_i k k' hs ht
   cases hc;exact XKt h hop hs ht hv hr
  ·rename_i hs ht
   cases hc;exact XWD h hop hs ht hv hr
  ·rename_i k hs ht
   cases hc;exact XS2 h hop hs ht hv hr
  ·rename_i q hs ht
   split at hc<;>try (cases hc;done)
   rename_i i hi
   split at hc<;>try (cases hc;done)
   rename_i hz
   cases hc;exact XVq h hop hs ht hi hz hv hr
  ·rename_i q hs ht
   split at hc<;>try (cases hc;done)
   rename_i i hi
   split at hc<;>try (cases hc;done)
   rename_i hz
   cases hc;exact XUC h hop hs ht hi hz hv hr
  ·rename_i e hs ht
   split at hc<;>try (cases hc;done)
   rename_i he
   cases hc;exact XUx h hop hs ht he hv hr
  ·rename_i e hs ht
   split at hc<;>try (cases hc;done)
   rename_i he
   cases hc;exact XS6 h hop hs ht he hv hr
 case makeInterface t y=>
  simp only [Xcw] at hc
  split at hc<;>try (cases hc;done)
  rename_i d hn hd
  cases hc;exact XGJ h hop hd (fun ms e=>hn ms e) hv hr
 case typeAssert y s t ok=>
  cases ok
  ·simp [Xcw] at hc
  ·simp only [Xcw] at hc
   split at hc<;>try (cases hc;done)
   rename_i d hn hd
   split at hc<;>try (cases hc;done)
   rename_i i hi
   split at hc<;>try (cases hc;done)
   rename_i z hz
   split at hc<;>try (cases hc;done)
   rename_i hf
   cases hc;exact XwQ h hop hd (fun ms e=>hn ms e) hi hz hf hv hr
 case makeFunc fn first caps=>
  cases fn<;>simp only [Xcw] at hc<;>try (cases hc;done)
  cases hc
  exact XBy h hop hv hr
 case makeSlice t y n=>
  simp only [Xcw] at hc
  split at hc<;>try (cases hc;done)
  rename_i e hd
  split at hc<;>try (cases hc;done)
  rename_i i hi
  split at hc<;>try (cases hc;done)
  rename_i z hz
  split at hc<;>try (cases hc;done)
  rename_i hf
  cases hc
  exact XKp h hop hd hi hz hf.1 hf.2.1 hf.2.2 hv hr
 case slice t y lo hi mx=>
  cases mx with
  | some m=>simp [Xcw] at hc
  | none=>
    simp only [Xcw] at hc
    split at hc<;>try (cases hc;done)
    ·rename_i hd
     cases hc;exact XzX h hop hd hv hr
    ·rename_i e hd
     split at hc<;>try (cases hc;done)
     rename_i j hj
     cases hc;exact XzR h hop hd hj hv hr
    ·rename_i n e hd
     split at hc<;>try (cases hc;done)
     rename_i j hj
     cases hc;exact Xzz h hop hd hj hv hr
 case fieldAddr t y f=>
  simp only [Xcw] at hc
  split at hc<;>try (cases hc;done)
  rename_i fs hd
  split at hc<;>try (cases hc;done)
  rename_i fd hf
  split at hc<;>try (cases hc;done)
  rename_i i hi
  split at hc<;>try (cases hc;done)
  rename_i hs
  cases hc;exact Xz8 h hop hd hf hi hs hv hr
 case field t y f=>
  simp only [Xcw] at hc
  split at hc<;>try (cases hc;done)
  rename_i fs hd
  split at hc<;>try (cases hc;done)
  rename_i fd hf
  split at hc<;>try (cases hc;done)
  rename_i i hi
  split at hc<;>try (cases hc;done)
  rename_i d hdd
  split at hc
  ·rename_i hag
   cases hc;exact XHK h hop hd hf hdd hi hag hv hr
  ·rename_i hag
   cases hc;exact XEw h hop hd hf hdd (by simpa using hag) hv hr
 case indexAddr t y i=>
  simp only [Xcw] at hc
  split at hc<;>try (cases hc;done)
  ·rename_i n e hd
   split at hc<;>try (cases hc;done)
   rename_i j hj
   cases hc;exact XGz h hop hd hj hv hr
  ·rename_i e hd
   split at hc<;>try (cases hc;done)
   rename_i j hj
   cases hc;exact XEU h hop hd hj hv hr
 case index t y i=>
  simp only [Xcw] at hc
  split at hc<;>try (cases hc;done)
  ·rename_i n e hd
   split at hc<;>try (cases hc;done)
   rename_i j hj
   split at hc<;>try (cases hc;done)
   rename_i d hdd
   split at hc
   ·rename_i hag
    cases hc;exact XD8 h hop hd hj hdd hag hv hr
   ·rename_i hag
    split at hc<;>try (cases hc;done)
    rename_i h1
    cases hc;exact XE0 h hop hd hj hdd (by simpa using hag) h1 hv hr
  ·rename_i hd
   cases hc;exact XMP h hop hd hv hr
 case extract y i=>
  simp only [Xcw,Option.some.injEq] at hc;subst hc
  exact XwE h hop hv hr
 case range t y=>
  simp only [Xcw] at hc
  split at hc<;>try (cases hc;done)
  rename_i hd
  cases hc;exact Xyq h hop hd hv hr
 case next it s=>
  cases s
  ·simp [Xcw] at hc
  ·simp only [Xcw,Option.some.injEq] at hc;subst hc
   exact XEc h hop hv hr
 case call c=>
  obtain ⟨callee,args,tys⟩:=c
  cases callee with
  | value f=>
    cases f<;>first|(simp [Xcw] at hc;done)|skip
    rcases args with ⟨_|⟨y,_|⟨z,_|_⟩⟩⟩<;>first|(simp [Xcw] at hc;done)|skip
    ·simp only [Xcw] at hc
     split at hc<;>try (cases hc;done)
     rename_i fn hf
     split at hc<;>try (cases hc;done)
     rename_i hcond
     cases hc
     exact XFH h hop (haf _) hf hcond.1 hcond.2.1 hcond.2.2 hv hr
    ·simp only [Xcw] at hc
     split at hc<;>try (cases hc;done)
     rename_i fn hf
     split at hc<;>try (cases hc;done)
     rename_i hcond
     cases hc
     exact XTc h hop (haf _) hf hcond.1 hcond.2.1 hcond.2.2 hv hr
  | invoke r m=>simp [Xcw] at hc
  | builtin b=>
    cases b<;>first|(simp [Xcw] at hc;done)|skip
    case append=>
     rcases args with ⟨_|⟨s,_|⟨y,_|_⟩⟩⟩<;>first|(simp [Xcw] at hc;done)|skip
     rcases tys with ⟨_|⟨t,_|⟨u,_|_⟩⟩⟩<;>first|(simp [Xcw] at hc;done)|skip
     simp only [Xcw] at hc
     split at hc<;>try (cases hc;done)
     ·rename_i e e' ht hu
      split at hc<;>try (cases hc;done)
      rename_i i hi
      split at hc<;>try (cases hc;done)
      rename_i z hz
      split at hc<;>try (cases hc;done)
      rename_i hb
      cases hc
      exact XIv h hop ht hu (.inr ⟨_,rfl⟩) hi hz hb.1 hb.2.2 hv hr
     ·rename_i e ht hu
      split at hc<;>try (cases hc;done)
      rename_i i hi
      split at hc<;>try (cases hc;done)
      rename_i z hz
      split at hc<;>try (cases hc;done)
      rename_i hb
      cases hc
      exact XIv h hop ht hu (.inl rfl) hi hz hb.1 hb.2.2 hv hr
    case len=>
     rcases args with ⟨_|⟨y,_|_⟩⟩<;>first|(simp [Xcw] at hc;done)|skip
     rcases tys with ⟨_|⟨t,_|_⟩⟩<;>first|(simp [Xcw] at hc;done)|skip
     simp only [Xcw] at hc
     split at hc<;>try (cases hc;done)
     ·rename_i ht
      cases hc;exact XMu h hop ht hv hr
     ·rename_i e ht
      cases hc;exact XPa h hop ht hv hr
     ·rename_i n e ht
      cases hc;exact XBt h hop (.inl ht) hv hr
     ·rename_i q ht
      split at hc<;>try (cases hc;done)
      rename_i n e hq
      cases hc;exact XBt h hop (.inr ⟨_,ht,hq⟩) hv hr
    case unsafeSliceData=>
     rcases args with ⟨_|⟨y,_|_⟩⟩<;>first|(simp [Xcw] at hc;done)|skip
     simp only [Xcw,Option.some.injEq] at hc;subst hc
     exact XDy h hop hv hr
    case unsafeString=>
     rcases args with ⟨_|⟨y,_|⟨z,_|_⟩⟩⟩<;>first|(simp [Xcw] at hc;done)|skip
     rcases tys with ⟨_|⟨t,_|⟨u,_|_⟩⟩⟩<;>first|(simp [Xcw] at hc;done)|skip
     simp only [Xcw] at hc
     split at hc<;>try (cases hc;done)
     rename_i e ht
     split at hc<;>try (cases hc;done)
     rename_i i hi
     split at hc<;>try (cases hc;done)
     rename_i hs
     cases hc
     exact XKc h hop ht hi hs hv hr
    case clear=>
     rcases args with ⟨_|⟨y,_|_⟩⟩<;>first|(simp [Xcw] at hc;done)|skip
     rcases tys with ⟨_|⟨t,_|_⟩⟩<;>first|(simp [Xcw] at hc;done)|skip
     simp only [Xcw] at hc
     split at hc<;>try (cases hc;done)
     rename_i e ht
     split at hc<;>try (cases hc;done)
     rename_i i hi
     split at hc<;>try (cases hc;done)
     rename_i z hz
     split at hc<;>try (cases hc;done)
     rename_i hb
     cases hc
     exact XV5 h hop ht hi hz hb.1 hb.2.1 hb.2.2.1 hb.2.2.2 hv hr
    case max=>
     simp only [Xcw,Option.some.injEq] at hc;subst hc
     exact XtL h (mx:=true) hop hv hr
    case min=>
     simp only [Xcw,Option.some.injEq] at hc;subst hc
     exact XtL h (mx:=false) hop hv hr
 all_goals (simp [Xcw] at hc)
end
abbrev mkF (fn:FuncId) (tmps:Array Value) (todo:List Item) (defers:List Deferred) (round:Option Nat):Frame:=
 { fn,tmps,todo,defers,mode:=.run,kind:=.normal,roundOf:=round }
abbrev mkR (fn:FuncId) (tmps:Array Value) (todo:List Item) (defers:List Deferred) (round:Option Nat):Frame:=
 { fn,tmps,todo,defers,mode:=.returning,kind:=.normal,roundOf:=round }
section
variable {P:Program} {fn:FuncId} {t:Array Value} {k:List Item} {d:List Deferred} {r:Option Nat} {cs:List Frame} {w w':World}
theorem XS9:step P (lone (mkF fn t [] d none) cs w)=.next (lone (mkR fn t [] d none) cs w):=step_lone_go (by simp [stepG,stepG.exec])
theorem XSv:step P (lone (mkF fn t (.code .ret::k) d none) cs w)=.next (lone (mkR fn t (.code .ret::k) d none) cs w):=step_lone_go (by simp [stepG,stepG.exec])
theorem XM5:step P (lone (mkF fn t (.code .skip::k) d r) cs w)=.next (lone (mkF fn t k d r) cs w):=step_lone_go (by simp [stepG,stepG.exec])
theorem Xxe {id:Nat}:step P (lone (mkF fn t (.inBlock id::k) d r) cs w)=.next (lone (mkF fn t k d r) cs w):=step_lone_go (by simp [stepG,stepG.exec])
theorem XD4 {l:Nat}:step P (lone (mkF fn t (.code (.label l)::k) d r) cs w)=.next (lone (mkF fn t k d r) cs w):=step_lone_go (by simp [stepG,stepG.exec])
theorem Xw2 {c:Code}:step P (lone (mkF fn t (.inScope c::k) d r) cs w)=.next (lone (mkF fn t k d r) cs w):=step_lone_go (by simp [stepG,stepG.exec])
theorem XGf {c:Code}:step P (lone (mkF fn t (.code (.scope c)::k) d r) cs w)=.next (lone (mkF fn t (.code c::.inScope c::k) d r) cs w):=step_lone_go (by simp [stepG,stepG.exec])
theorem XTg {x y:Code}:step P (lone (mkF fn t (.code (.seq x y)::k) d r) cs w)=.next (lone (mkF fn t (.code x::.code y::k) d r) cs w):=step_lone_go (by simp [stepG,stepG.exec])
theorem XNK {c:Operand} {x y:Code} {b:Bool} (h:(mkF fn t (.code (.cond c x y)::k) d r).eval c=.bool b) :
 step P (lone (mkF fn t (.code (.cond c x y)::k) d r) cs w)=.next (lone (mkF fn t (.code (if b then x else y)::k) d r) cs w):=step_lone_go (by simp [stepG,stepG.exec,h])
theorem XC5 {id:Nat} {c:Code}:step P (lone (mkF fn t (.code (.block id c)::k) d r) cs w)=.next (lone (mkF fn t (.code c::.inBlock id::k) d r) cs w):=step_lone_go (by simp [stepG,stepG.exec])
theorem XJ4 {c:Code}:step P (lone (mkF fn t (.code (.loop c)::k) d r) cs w)=.next (lone (mkF fn t (.code c::.inLoop c::k) d r) cs w):=step_lone_go (by simp [stepG,stepG.exec])
theorem Xy1 {c:Code}:step P (lone (mkF fn t (.inLoop c::k) d r) cs w)=.next (lone (mkF fn t (.code c::.inLoop c::k) d r) cs w):=step_lone_go (by simp [stepG,stepG.exec])
theorem XLC {id:Nat} {k':List Item} (h:Go.exitTo id k=some k'):step P (lone (mkF fn t (.code (.exit id)::k) d r) cs w)=.next (lone (mkF fn t k' d r) cs w):=
 step_lone_go (by simp [stepG,stepG.exec,h])
theorem XVZ {id:Nat} {ops:Array Oper}:step P (lone (mkF fn t (.code (.region id ops false)::k) d r) cs w)=.next (lone (mkF fn t (.inRegion ops (List.range ops.size)::k) d r) cs w):=
 step_lone_go (by simp [stepG,stepG.exec])
theorem XAi {ops:Array Oper}:step P (lone (mkF fn t (.inRegion ops []::k) d r) cs w)=.next (lone (mkF fn t k d r) cs w):=step_lone_go (by simp [stepG,stepG.exec])
theorem Xtf {ops:Array Oper} {i:Nat} {rest:List Nat} (h:((ops[i]?).map (Region.wanted · (yielded ops t))).getD false=false) :
 step P (lone (mkF fn t (.inRegion ops (i::rest)::k) d r) cs w)=.next (lone ((mkF fn t (.inRegion ops (i::rest)::k) d r).finish undef) cs w):=by
 refine step_lone_go ?_
 simp only [stepG,stepG.exec,h]
 rfl
theorem Xvt {ops:Array Oper} {i:Nat} {rest:List Nat} {o:Oper} (ho:ops[i]?=some o) (hw:Region.wanted o (yielded ops t)=true) (hd:∀ c,o.op≠.defer c) :
 stepG P true { frame:=mkF fn t (.inRegion ops (i::rest)::k) d r,callers:=cs,status:=.running,dying:=none } w =
  stepG.apply P true (mkF fn t (.inRegion ops (i::rest)::k) d r) cs none (execOp (mkF fn t (.inRegion ops (i::rest)::k) d r).eval o) w:=by
 simp only [stepG,stepG.exec,ho,Option.map_some,hw,Option.getD_some,↓reduceIte,stepG.oper,Frame.oper?]
 cases r with
 | none=>rfl
 | some l=>
   cases hop:o.op<;>first|rfl|exact absurd hop (hd _)
theorem Xwf {ops:Array Oper} {i:Nat} {rest:List Nat} {o:Oper} {v:Value} (ho:ops[i]?=some o) (hw:Region.wanted o (yielded ops t)=true) (hd:∀ c,o.op≠.defer c)
 (hr:(execOp (mkF fn t (.inRegion ops (i::rest)::k) d r).eval o).run P w=.ok (.value v) w') :
 step P (lone (mkF fn t (.inRegion ops (i::rest)::k) d r) cs w)=.next (lone ((mkF fn t (.inRegion ops (i::rest)::k) d r).finish v) cs w'):=
 step_lone_go (by rw [Xvt ho hw hd];simp only [stepG.apply,Sem.runT_eq,hr,↓reduceIte,GStep.bare_after];rfl)
theorem XsF {ops:Array Oper} {i:Nat} {rest:List Nat} {o:Oper} (ho:ops[i]?=some o) (hw:Region.wanted o (yielded ops t)=true) (hd:∀ c,o.op≠.defer c)
 (hr:(execOp (mkF fn t (.inRegion ops (i::rest)::k) d r).eval o).run P w=.ok .skip w') :
 step P (lone (mkF fn t (.inRegion ops (i::rest)::k) d r) cs w)=.next (lone ((mkF fn t (.inRegion ops (i::rest)::k) d r).finish undef) cs w'):=
 step_lone_go (by rw [Xvt ho hw hd];simp only [stepG.apply,Sem.runT_eq,hr,↓reduceIte,GStep.bare_after];rfl)
theorem Xo1 {ops:Array Oper} {i:Nat} {rest:List Nat} {o:Oper} {f:FuncId} {args:Array Value} (ho:ops[i]?=some o) (hw:Region.wanted o (yielded ops t)=true) (hd:∀ c,o.op≠.defer c)
 (hr:(execOp (mkF fn t (.inRegion ops (i::rest)::k) d r).eval o).run P w=.ok (.enter f args) w') :
 step P (lone (mkF fn t (.inRegion ops (i::rest)::k) d r) cs w)=.next (lone (Frame.enter P f args .normal) (mkF fn t (.inRegion ops (i::rest)::k) d r::cs) w'):=
 step_lone_go (by rw [Xvt ho hw hd];simp only [stepG.apply,Sem.runT_eq,hr,↓reduceIte,GStep.bare_after];rfl)
theorem XEK {ops:Array Oper} {i:Nat} {rest:List Nat} {o:Oper} {l:Nat} {f:FuncId} {tm:Array Value} {aqs bd:Code} (ho:ops[i]?=some o) (hw:Region.wanted o (yielded ops t)=true) (hd:∀ c,o.op≠.defer c)
 (hr:(execOp (mkF fn t (.inRegion ops (i::rest)::k) d r).eval o).run P w=.ok (.round l f tm aqs bd) w') :
 step P (lone (mkF fn t (.inRegion ops (i::rest)::k) d r) cs w)=.next (lone (mkF f tm [.code aqs,.beginRound,.code bd] [] (some l)) (mkF fn t (.inRegion ops (i::rest)::k) d r::cs) w'):=
 step_lone_go (by rw [Xvt ho hw hd];simp only [stepG.apply,Sem.runT_eq,hr,↓reduceIte,GStep.bare_after];rfl)
theorem XET {f:Func} {v:Value} {c:Frame} (hf:P.funcs[fn]?=some f) (hr:(results f t).run P w=.ok v w) :
 step P (lone (mkR fn t k [] r) (c::cs) w)=.next (lone (c.finish v) cs w):=
 step_lone_go (by simp [stepG,unwind,doReturn,hf,hr])
end
inductive XlL {α β:Type} (R:α→β→Prop):List α→List β→Prop
 | nil:XlL R [] []
 | cons {a b l m} (h:R a b) (t:XlL R l m):XlL R (a::l) (b::m)
theorem XlL.mono {α β:Type} {R S:α→β→Prop} (h:∀ a b,R a b→S a b):∀ {l:List α} {m:List β},XlL R l m→XlL S l m
 | _,_,.nil=>.nil
 | _,_,.cons x t=>.cons (h _ _ x) (XlL.mono h t)
theorem XlL.append {α β:Type} {R:α→β→Prop}:∀ {l l':List α} {m m':List β},XlL R l m→XlL R l' m'→XlL R (l++l') (m++m')
 | _,_,_,_,.nil,k=>k
 | _,_,_,_,.cons x t,k=>.cons x (XlL.append t k)
inductive XvS (P:Program) (ops:Array Oper):List Nat→List Xdf→Prop
 | nil:XvS P ops [] []
 | cons {i is o v vs} (ho:ops[i]?=some o) (hc:Xji P ops o=some v) (t:XvS P ops is vs):XvS P ops (i::is) (v::vs)
inductive Xih (P:Program) (ρ:Ren):Xgo→Item→Prop
 | code {c:VC} {c':Code} (h:Xfc P c'=some c):Xih P ρ (.code c) (.code c')
 | inBlock (id:Nat):Xih P ρ (.inBlock id) (.inBlock id)
 | inScope (c:Code):Xih P ρ .inScope (.inScope c)
 | inLoop {c:VC} {c':Code} (h:Xfc P c'=some c):Xih P ρ (.inLoop c) (.inLoop c')
 | inReg {ops:Array Oper} {is:List Nat} {vs:List Xdf} (h:XvS P ops is vs):Xih P ρ (.inReg vs) (.inRegion ops is)
 | inRangeFunc {r:Nat} {l:Loc} (h:ρ r=some l):Xih P ρ (.inRangeFunc r) (.inRangeFunc l.blk)
 | endRangeFunc {r:Nat} {l:Loc} (h:ρ r=some l):Xih P ρ (.endRangeFunc r) (.endRangeFunc l.blk)
 | beginRound:Xih P ρ .beginRound .beginRound
theorem Xih.mono {P:Program} {ρ ρ':Ren} (x:Ext ρ ρ'):∀ v i,Xih P ρ v i→Xih P ρ' v i
 | _,_,.code h=>.code h
 | _,_,.inBlock id=>.inBlock id
 | _,_,.inScope c=>.inScope c
 | _,_,.inLoop h=>.inLoop h
 | _,_,.inReg h=>.inReg h
 | _,_,.inRangeFunc h=>.inRangeFunc (x _ _ h)
 | _,_,.endRangeFunc h=>.endRangeFunc (x _ _ h)
 | _,_,.beginRound=>.beginRound
def XQf (ρ:Ren) (r:Nat) (d:Deferred):Prop:=∃ l,ρ r=some l∧d={ target:=.collected l.blk,args:=#[] }
def Xvb (ρ:Ren):Option Nat→Option Nat→Prop
 | none,none=>True
 | some r,some q=>∃ l,ρ r=some l∧q=l.blk∧l.sh=0
 | _,_=>False
theorem Xvb.mono {ρ ρ':Ren} (x:Ext ρ ρ'):∀ {a b:Option Nat},Xvb ρ a b→Xvb ρ' a b
 | none,none,_=>trivial
 | some _,some _,⟨l,h,e⟩=>⟨l,x _ _ h,e⟩
 | none,some _,h=>h.elim
 | some _,none,h=>h.elim
structure FrR (P:Program) (ρ:Ren) (v:XbQ) (f:Frame):Prop where
 fn:f.fn=v.fn
 size:f.tmps.size=v.nt
 env:Xsz ρ v.env f.tmps
 todo:XlL (Xih P ρ) v.todo f.todo
 defers:XlL (XQf ρ) v.defers f.defers
 mode:f.mode=if v.ret then .returning else .run
 kind:f.kind=.normal
 round:Xvb ρ v.round f.roundOf
theorem FrR.mono {P:Program} {ρ ρ':Ren} (x:Ext ρ ρ') {v:XbQ} {f:Frame} (h:FrR P ρ v f):FrR P ρ' v f:=
 { h with env:=h.env.mono x,todo:=h.todo.mono (Xih.mono x),defers:=h.defers.mono (fun _ _ ⟨l,a,b⟩=>⟨l,x _ _ a,b⟩),round:=h.round.mono x }
structure VMR (P:Program) (w0:World) (U:Nat→Nat→Prop) (ρ:Ren) (vm:VM) (fr:Frame) (frs:List Frame) (w:World):Prop where
 cur:FrR P ρ vm.cur fr
 up:XlL (FrR P ρ) vm.up frs
 heap:HpR P w0 (.of U) ρ vm.heap vm.top w
structure XbM (P:Program) (f:Nat) (s:XbE):Prop where
 fn : ∃ fn, P.funcs[f]? = some fn ∧ fn.name ≠ "runtime.NumGoroutine" ∧ fn.body.isSome = true
 calls:∀ (w0:World) (U:UG) (ρ:Ren) (H:Hp) (top:Nat) (w:World) (vals rvals:List Value) (v:Value) (H':Hp) (top':Nat),U.lo≤top→(∀ j,top≤j→j<top'→¬ U.g j)→HpR P w0 U ρ H top w→VRL ρ vals rvals→Xi0 s vals H top=some (v,H',top') →
  Calls P f ⟨rvals⟩ w fun e w'=>∃ ρ' rv,e=.returned rv∧VR ρ' v rv∧HpR P w0 U ρ' H' top' w'∧Ext ρ ρ'
def Xak (P:Program) (S:Xm2):Prop:=∀ f s,S f=some s→XbM P f s
section
variable {P:Program} {w0:World} {U:Nat→Nat→Prop} {ρ:Ren} {F:Fns} {S:Xm2}
theorem Xso {e:Env} {tmps:Array Value} (he:Xsz ρ e tmps) {x:Operand} (hx:okO x=true) {v:Value} (h:Xov e x=some v) {f:Frame} (hf:f.tmps=tmps):VR ρ v (f.eval x):=by
 cases x with
 | tmp i=>
   obtain ⟨v',g,r⟩:=he i v h
   simp only [Frame.eval,hf,Array.getD_eq_getD_getElem?,g,Option.getD_some];exact r
 | const c=>
   simp only [Xov,Option.some.injEq] at h;subst h
   exact VR.flat ρ c hx
 | global g=>cases hx
 | func g=>
   simp only [Xov,Option.some.injEq] at h;subst h
   exact .func g .nil .nil
theorem XvC {e:Env} {tmps:Array Value} (he:Xsz ρ e tmps) {f:Frame} (hf:f.tmps=tmps):∀ {xs:List Operand} {vs:List Value},xs.all okO=true→Xnx e xs=some vs→VRL ρ vs (xs.map f.eval)
 | [],vs,_,h=>by simp only [Xnx,Option.some.injEq] at h;subst h;exact .nil
 | x::xs,vs,hx,h=>by
   simp only [List.all_cons,Bool.and_eq_true] at hx
   simp only [Xnx] at h
   split at h
   ·rename_i v hv
    split at h
    ·rename_i ws hws
     cases h
     exact .cons (Xso he hx.1 hv hf) (XvC he hf hx.2 hws)
    ·cases h
   ·cases h
theorem XxQ {e:Env} {tmps:Array Value} {n:Nat} (he:Xsz ρ e tmps) (hs:tmps.size=n) (d:Option Nat) {v v':Value} (hv:VR ρ v v') :
 Xsz ρ (XpR n e d v) (match d with|some d=>tmps.setIfInBounds d v'|none=>tmps):=by
 cases d with
 | none=>exact he
 | some d=>
   simp only [XpR]
   cases hb:Nat.blt d n with
   | false=>
     have:¬ d<n:=fun h=>by rw [←Nat.blt_eq] at h;simp [hb] at h
     simp only [cond_false]
     rw [Array.setIfInBounds,dif_neg (by omega)]
     exact he
   | true=>
     have hlt:d<n:=by rw [←Nat.blt_eq];exact hb
     simp only [cond_true]
     intro i u hu
     rw [Xa1] at hu
     by_cases hi:d=i
     ·subst hi
      rw [if_pos rfl] at hu;cases hu
      exact ⟨v',by simp [hs,hlt],hv⟩
     ·rw [if_neg hi] at hu
      obtain ⟨u',g,r⟩:=he i u hu
      exact ⟨u',by rw [Array.getElem?_setIfInBounds_ne hi];exact g,r⟩
theorem XvL:∀ (vs:List Value) (k i:Nat) (v:Value),XaD (Xn1 k vs) i=some v→k≤i∧vs[i - k]?=some v
 | [],k,i,v,h=>by simp [Xn1,XaD] at h
 | x::vs,k,i,v,h=>by
   simp only [Xn1,XaD] at h
   cases hb:Nat.beq k i with
   | true=>
     have:=Nat.eq_of_beq_eq_true hb
     subst this
     simp only [hb,cond_true,Option.some.injEq] at h
     subst h
     exact ⟨Nat.le_refl _,by simp⟩
   | false=>
     simp only [hb,cond_false] at h
     obtain ⟨h1,h2⟩:=XvL vs (k+1) i v h
     refine ⟨by omega,?_⟩
     rw [show i - k=(i - (k+1))+1 by omega,List.getElem?_cons_succ];exact h2
theorem Xkz (hF:Xlx P F) {f:Nat} {args rargs:List Value} {c:XbQ} (h:XjX F f args=some c) (hr:VRL ρ args rargs) :
 FrR P ρ c (Frame.enter P f ⟨rargs⟩ .normal) ∧ ∃ fn, P.funcs[f]? = some fn ∧ fn.name ≠ "runtime.NumGoroutine" ∧ fn.body.isSome = true := by
 unfold XjX at h
 split at h
 ·rename_i vf hvf
  split at h
  ·rename_i hle
   cases h
   obtain ⟨fn,hfn,hcf⟩:=hF f vf hvf
   unfold XaA at hcf
   split at hcf
   ·rename_i b hb
    split at hcf
    ·cases hcf
    ·rename_i hname
     split at hcf
     ·rename_i cc hcc
      split at hcf
      ·rename_i rs hrs
       cases hcf
       have hlen:=hr.length
       refine ⟨⟨rfl,?_,?_,?_,.nil,rfl,rfl,trivial⟩,fn,hfn,hname,by simp [hb]⟩
       ·simp [Frame.enter,hfn];simp at hle;omega
       ·intro i v hi
        obtain ⟨h1,h2⟩:=XvL _ _ _ _ hi
        obtain ⟨v',g1,g2⟩:=hr.get h2
        refine ⟨v',?_,g2⟩
        simp only [Nat.sub_zero] at g1
        have hlt:i<rargs.length:=by
         rcases Nat.lt_or_ge i rargs.length with h|h
         ·exact h
         ·rw [List.getElem?_eq_none h] at g1;cases g1
        simp only [Frame.enter]
        rw [Array.getElem?_append_left (by simpa using hlt)]
        simpa using g1
       ·simp only [Frame.enter,hfn,Option.bind_some,hb,Option.getD_some]
        exact .cons (.code hcc) .nil
      ·cases hcf
     ·cases hcf
   ·cases hcf
  ·cases h
 ·cases h
theorem XlN {f : Nat} {args : Array Value} {w : World} (h : ∃ fn, P.funcs[f]? = some fn ∧ fn.name ≠ "runtime.NumGoroutine" ∧ fn.body.isSome = true) : (callFunc f args).run P w = .ok (.enter f args) w := by
 obtain ⟨fn,h1,h2,h3⟩:=h
 obtain ⟨b,hb⟩:=Option.isSome_iff_exists.1 h3
 simp [callFunc,h1,h2,hb]
theorem Xqo {e:Env} {tmps:Array Value} (he:Xsz ρ e tmps) {ops:Array Oper} {o:Oper} {v:Xdf} (hc:Xji P ops o=some v) {b:Bool} (h:XeK e v.g=some b):Region.wanted o (yielded ops tmps)=b:=by
 unfold Xji at hc
 split at hc<;>try (cases hc;done)
 split at hc<;>try (cases hc;done)
 split at hc
 ·rename_i hg
  cases hc
  simp only [XeK,Option.some.injEq] at h
  simp [Region.wanted,hg,←h]
 ·rename_i j w hg
  split at hc<;>try (cases hc;done)
  rename_i p hp
  split at hc<;>try (cases hc;done)
  rename_i d hd
  cases hc
  simp only [XeK] at h
  split at h
  ·rename_i x hx
   cases h
   obtain ⟨v',g,r⟩:=he d _ hx
   cases r
   simp only [Region.wanted,hg,yielded,hp,Option.bind_some,hd,g]
   cases x<;>cases w<;>rfl
  ·rename_i hx
   cases h
   obtain ⟨v',g,r⟩:=he d _ hx
   cases r with
   | tuple hl=>
     cases hl
     simp only [Region.wanted,hg,yielded,hp,Option.bind_some,hd,g]
     rfl
  ·cases h
theorem XoO {ops:Array Oper} {o:Oper} {v:Xdf} (hc:Xji P ops o=some v):o.dst=v.dst∧v.op.ops.all okO=true∧XpA P o.op=some v.op:=by
 unfold Xji at hc
 split at hc<;>try (cases hc;done)
 rename_i vo hvo
 split at hc<;>try (cases hc;done)
 rename_i hok
 split at hc
 ·cases hc;exact ⟨rfl,hok,hvo⟩
 ·split at hc<;>try (cases hc;done)
  split at hc<;>try (cases hc;done)
  cases hc;exact ⟨rfl,hok,hvo⟩
theorem XpV {u u':XbQ} {f:Frame} {v v':Value} (h:FrR P ρ u f) (hv:VR ρ v v') (hf:finish u v=some u'):FrR P ρ u' (f.finish v'):=by
 obtain ⟨h1,h2,h3,h4,h5,h6,h7,h8⟩:=h
 unfold finish at hf
 split at hf
 ·rename_i o rest k htd
  cases hf
  rw [htd] at h4
  cases hft:f.todo with
  | nil=>rw [hft] at h4;cases h4
  | cons it k'=>
    rw [hft] at h4
    cases h4 with|cons hi hk=>
    cases hi with|inReg hr=>
    cases hr with|@cons i is oo _ _ ho hc ht=>
    have hdst:=(XoO hc).1
    have he:=XxQ (d:=o.dst) h3 h2 hv
    refine ⟨?_,?_,?_,?_,?_,?_,?_,?_⟩<;>simp only [Frame.finish,hft,ho,Option.bind_some,hdst]
    ·exact h1
    ·cases o.dst with
     | none=>exact h2
     | some d=>simpa using h2
    ·cases hd:o.dst with
     | none=>rw [hd] at he;exact he
     | some d=>rw [hd] at he;exact he
    ·exact .cons (.inReg ht) hk
    ·exact h5
    ·exact h6
    ·exact h7
    ·exact h8
 ·rename_i l k htd
  cases hf
  rw [htd] at h4
  cases hft:f.todo with
  | nil=>rw [hft] at h4;cases h4
  | cons it k'=>
    rw [hft] at h4
    cases h4 with|cons hi hk=>
    cases hi with|inRangeFunc hl=>
    exact ⟨by simp [Frame.finish,hft,h1],by simp [Frame.finish,hft,h2],by simpa [Frame.finish,hft] using h3,by simpa [Frame.finish,hft] using .cons (.endRangeFunc hl) hk,by simpa [Frame.finish,hft] using h5,by simp [Frame.finish,hft,h6],by simp [Frame.finish,hft,h7],by simpa [Frame.finish,hft] using h8⟩
 ·cases hf
def Xro (tmps:Array Value):ResultVar→Sem Value
 | .tmp t=>pure (tmps.getD t undef)
 | .cell a t=>do loadVar t (←asAddr (tmps.getD a undef))
theorem XPo {e:Env} {tmps:Array Value} {H:Hp} {top:Nat} {w:World} (he:Xsz ρ e tmps) (hh:HpR P w0 (.of U) ρ H top w) {r:ResultVar} {vr:XBJ} (hc:Xrz P r=some vr) {v:Value} (h:resV e H vr=some v) :
 ∃ v',VR ρ v v'∧(Xro tmps r).run P w=.ok v' w:=by
 cases r with
 | tmp t=>
   simp only [Xrz,Option.some.injEq] at hc;subst hc
   obtain ⟨v',g,r⟩:=he t v h
   exact ⟨v',r,by simp [Xro,Array.getD_eq_getD_getElem?,g]⟩
 | cell a t=>
   simp only [Xrz] at hc
   split at hc<;>try (cases hc;done)
   rename_i i hi
   split at hc<;>try (cases hc;done)
   rename_i d hd
   have key:∀ ks agg,vr=.cell a ks agg→∃ b q ob cs l,XaD e a=some (.pointer (some ⟨b,q,none⟩))∧XaD H b=some ob∧ob.cs=some cs∧ρ b=some l∧tmps.getD a undef=.pointer (some ⟨l.blk,l.sh+q,none⟩)∧(∃ own,Xbt ρ w l own cs) ∧
    (if agg then (if q+ks.length≤cs.length then some (.agg ⟨(cs.drop q).take ks.length⟩) else none) else cs[q]?)=some v:=by
    intro ks agg e'
    subst e'
    simp only [resV] at h
    split at h<;>try (cases h;done)
    rename_i b q hp
    split at h<;>try (cases h;done)
    rename_i ob hob
    split at h<;>try (cases h;done)
    rename_i cs hcs
    obtain ⟨v',g,r⟩:=he a _ hp
    cases r with|ptr hl=>
    obtain ⟨l',hl',hor,_⟩:=hh.obj b ob hob
    rw [hl] at hl';cases hl'
    exact ⟨b,q,ob,cs,_,hp,hob,hcs,hl,by simp [Array.getD_eq_getD_getElem?,g],hor.cells hcs,h⟩
   split at hc
   ·rename_i hag
    split at hc<;>try (cases hc;done)
    rename_i hlen
    obtain ⟨b,q,ob,cs,l,k1,k2,k3,k4,k5,⟨own,k6⟩,k7⟩:=key _ _ (Option.some.inj hc).symm
    simp only [↓reduceIte] at k7
    split at k7
    ·rename_i hle
     cases k7
     obtain ⟨vs,g1,g2,g3⟩:=k6.values q _ hle
     refine ⟨.agg ⟨vs⟩,.agg g1,?_⟩
     simp only [Xro,k5,asAddr,Sem.run_bind,Sem.run_pure,Result.andThen_ok,loadVar,Xfx hd,hag,↓reduceIte,XdR hi,←hlen,Xf2 g2 g3]
    ·cases k7
   ·rename_i hag
    obtain ⟨b,q,ob,cs,l,k1,k2,k3,k4,k5,⟨own,k6⟩,k7⟩:=key _ _ (Option.some.inj hc).symm
    simp only [Bool.false_eq_true,↓reduceIte] at k7
    obtain ⟨v',g1,g2⟩:=k6.2.1 q v k7
    refine ⟨v',g2,?_⟩
    simp [Xro,k5,asAddr,loadVar,Xfx hd,hag,g1]
theorem XqH {e:Env} {tmps:Array Value} {H:Hp} {top:Nat} {w:World} (he:Xsz ρ e tmps) (hh:HpR P w0 (.of U) ρ H top w):∀ {rs:List ResultVar} {vrs:List XBJ} {vs:List Value},Xl9 P rs=some vrs→XpO e H vrs=some vs →
 ∃ vs',VRL ρ vs vs'∧(rs.mapM (Xro tmps)).run P w=.ok vs' w
 | [],vrs,vs,hc,h=>by
   simp only [Xl9,Option.some.injEq] at hc;subst hc
   simp only [XpO,Option.some.injEq] at h;subst h
   exact ⟨[],.nil,rfl⟩
 | r::rs,vrs,vs,hc,h=>by
   simp only [Xl9] at hc
   split at hc<;>try (cases hc;done)
   rename_i vr hvr
   split at hc<;>try (cases hc;done)
   rename_i vrs' hvrs
   cases hc
   simp only [XpO] at h
   split at h<;>try (cases h;done)
   rename_i v hv
   split at h<;>try (cases h;done)
   rename_i ws hws
   cases h
   obtain ⟨v',g1,g2⟩:=XPo he hh hvr hv
   obtain ⟨vs',g3,g4⟩:=XqH he hh hvrs hws
   refine ⟨v'::vs',.cons g1 g3,?_⟩
   rw [List.mapM_cons]
   simp only [Sem.run_bind,g2,Result.andThen_ok,g4,Sem.run_pure]
theorem XRa {vs vs':List Value} (h:VRL ρ vs vs'):VR ρ (XJj vs) (if hs:(⟨vs'⟩:Array Value).size=1 then (⟨vs'⟩:Array Value)[0] else .tuple ⟨vs'⟩):=by
 cases h with
 | nil=>exact .tuple .nil
 | cons h hl=>
   cases hl with
   | nil=>simpa [XJj] using h
   | cons k kl=>
     simp only [XJj]
     rw [dif_neg (by simp)]
     exact .tuple (.cons h (.cons k kl))
theorem XpP {fn:Func} {e:Env} {tmps:Array Value} {H:Hp} {top:Nat} {w:World} (he:Xsz ρ e tmps) (hh:HpR P w0 (.of U) ρ H top w) {vrs:List XBJ} {vs:List Value} (hc:Xl9 P fn.results.toList=some vrs) (h:XpO e H vrs=some vs) :
 ∃ v',VR ρ (XJj vs) v'∧(results fn tmps).run P w=.ok v' w:=by
 obtain ⟨vs',g1,g2⟩:=XqH he hh hc h
 refine ⟨_,XRa g1,?_⟩
 have hres:results fn tmps=(do let vals ←fn.results.mapM (Xro tmps);return if h:vals.size=1 then vals[0] else .tuple vals):=by
  unfold results
  congr 2
 rw [hres,Array.mapM_eq_mapM_toList]
 simp only [Sem.run_bind,Sem.run_map,g2,Result.andThen_ok,Sem.run_pure]
end
end Go.Vm
