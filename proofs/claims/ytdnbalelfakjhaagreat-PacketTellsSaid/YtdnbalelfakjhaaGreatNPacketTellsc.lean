import Derived.Test.YtdnbalelfakjhaaGreatNPacketTellsb
namespace Go.Vm
open Go Go.RowKit
abbrev wI (k:IntKind) (n:Int):Int:=IntKind.wrap k n
abbrev Xjr (k:IntKind) (a b:Int):Int:=IntKind.wrap k (BitVec.ofInt k.bits a &&& BitVec.ofInt k.bits b).toNat
abbrev Xjh (k:IntKind) (a b:Int):Int:=IntKind.wrap k (BitVec.ofInt k.bits a ||| BitVec.ofInt k.bits b).toNat
abbrev Xza (k:IntKind) (a b:Int):Int:=IntKind.wrap k (BitVec.ofInt k.bits a &&& ~~~ BitVec.ofInt k.bits b).toNat
def XaJ {α:Type} (b:Bool) (x:Option α):Option α:=match b with|true=>x|false=>none
theorem XaJ.elim {α:Type} {b:Bool} {x:Option α} {r:α} (h:XaJ b x=some r):b=true∧x=some r:=by cases b;cases h;exact ⟨rfl,h⟩
theorem XaJ.mk {α:Type} {b:Bool} {x:Option α} (h:b=true):XaJ b x=x:=by subst h;rfl
theorem Xal.elim {α β:Type} {x:Option α} {F:α→Option β} {r:β} (h:x.bind F=some r):∃ a,x=some a∧F a=some r:=by cases x with|none=>cases h|some a=>exact ⟨a,rfl,h⟩
def FUEL:Nat:=2^64
def iter {σ ρ:Type} (f:σ→Option (Sum σ ρ)):Nat→σ→Option ρ
 | 0,_=>none
 | n+1,s=>match f s with
   | none=>none
   | some (.inl s')=>iter f n s'
   | some (.inr r)=>some r
theorem XbX {σ ρ:Type} {P:Program} {f base:Nat} {R:Value→Hp→Nat→Prop} {step:σ→Option (Sum σ ρ)} {head:σ→VM} {C:ρ→Prop}
 (h:∀ s o,step s=some o→Sum.elim (fun s'=>XaI P f base (head s') R) C o→XaI P f base (head s) R) :
 ∀ n s r,iter step n s=some r→C r→XaI P f base (head s) R
 | 0,_,_,e,_=>by cases e
 | n+1,s,r,e,hc=>by
   rw [iter] at e
   split at e
   ·cases e
   ·rename_i s' hs
    exact h s _ hs (XbX h n s' r e hc)
   ·rename_i r' hs
    cases e
    exact h s _ hs hc
def vI (k:IntKind) (xs:List Int):List Value:=xs.map (Value.int k)
def vB (xs:List Bool):List Value:=xs.map Value.bool
def vS (xs:List (List UInt8)):List Value:=xs.map fun s=>Value.string ⟨⟨s⟩⟩
def bI (l:List UInt8):List Int:=l.map fun b=>(b.toNat:Int)
def iB (xs:List Int):List UInt8:=xs.map fun n=>UInt8.ofNat n.toNat
@[simp] theorem vI_len (k:IntKind) (xs:List Int):(vI k xs).length=xs.length:=List.length_map _
@[simp] theorem vB_len (xs:List Bool):(vB xs).length=xs.length:=List.length_map _
@[simp] theorem vS_len (xs:List (List UInt8)):(vS xs).length=xs.length:=List.length_map _
@[simp] theorem XCt (l:List UInt8):(bI l).length=l.length:=List.length_map _
@[simp] theorem iB_len (l:List Int):(iB l).length=l.length:=List.length_map _
theorem Xhp (k:IntKind) (xs:List Int):Xbz.flatL (vI k xs)=true:=Xkk (fun _=>rfl) xs
theorem Xom (xs:List Bool):Xbz.flatL (vB xs)=true:=Xkk (fun _=>rfl) xs
theorem Xmq (xs:List (List UInt8)):Xbz.flatL (vS xs)=true:=Xkk (fun _=>rfl) xs
theorem Xfq (k:IntKind):∀ (xs:List Int),(vI k xs).all XgK=true
 | []=>rfl
 | _::xs=>by simp only [vI,List.map_cons,List.all_cons,XgK,Bool.true_and];exact Xfq k xs
theorem XhV:∀ (xs:List Bool),(vB xs).all XgK=true
 | []=>rfl
 | _::xs=>by simp only [vB,List.map_cons,List.all_cons,XgK,Bool.true_and];exact XhV xs
theorem XhN:∀ (xs:List (List UInt8)),(vS xs).all XgK=true
 | []=>rfl
 | _::xs=>by simp only [vS,List.map_cons,List.all_cons,XgK,Bool.true_and];exact XhN xs
theorem Xc4 (l:List UInt8):ofBytes l=vI .u8 (bI l):=by simp [ofBytes,vI,bI,List.map_map]
theorem XkX:∀ (xs:List Int),XeF (vI .u8 xs)=some (iB xs)
 | []=>rfl
 | x::xs=>by simp only [vI,List.map_cons,XeF];rw [show XeF (xs.map (Value.int .u8))=_ from XkX xs];rfl
theorem XZC (k:IntKind) (xs:List Int) (i:Nat) (x:Int):(vI k xs).set i (.int k x)=vI k (xs.set i x):=by simp [vI,List.map_set]
theorem XiO (k:IntKind) (xs:List Int) (n:Nat):(vI k xs).drop n=vI k (xs.drop n):=by simp [vI,List.map_drop]
theorem XiI (k:IntKind) (xs:List Int) (n:Nat):(vI k xs).take n=vI k (xs.take n):=by simp [vI,List.map_take]
theorem XjM (xs:List (List UInt8)) (n:Nat):(vS xs).drop n=vS (xs.drop n):=by simp [vS,List.map_drop]
theorem XjL (xs:List (List UInt8)) (n:Nat):(vS xs).take n=vS (xs.take n):=by simp [vS,List.map_take]
theorem XCK (k:IntKind) (xs ys:List Int):vI k xs++vI k ys=vI k (xs++ys):=by simp [vI]
theorem br.h {α:Type} {b b':Bool} {X Y:Option α} {r:α} {p q:Prop} (h:cond b' X Y=some r) (e:b=b') (k1:b'=true→X=some r→p) (k2:b'=false→Y=some r→q):br b p q:=by
 subst e;cases b;exact k2 rfl h;exact k1 rfl h
theorem rd.I {k:IntKind} {xs:List Int} {o i:Nat} {x:Int} {K:Value→Prop} (hx:xs[i]?=some x) (e:o=i) (h:Xgo (.int k x) K):rd (vI k xs) o K:=by
 subst e;exact rd.intro (v:=.int k x) (by simp [vI,hx]) h
theorem rd.B {xs:List Bool} {o i:Nat} {x:Bool} {K:Value→Prop} (hx:xs[i]?=some x) (e:o=i) (h:Xgo (.bool x) K):rd (vB xs) o K:=by
 subst e;exact rd.intro (v:=.bool x) (by simp [vB,hx]) h
theorem rd.S {xs:List (List UInt8)} {o i:Nat} {x:List UInt8} {K:Value→Prop} (hx:xs[i]?=some x) (e:o=i) (h:Xgo (.string ⟨⟨x⟩⟩) K):rd (vS xs) o K:=by
 subst e;exact rd.intro (v:=.string ⟨⟨x⟩⟩) (by simp [vS,hx]) h
theorem XO0 {k:IntKind} {xs:List Int} {o i:Nat} {x:Int} (hb:decide (i<xs.length)=true) (e:o=i):(decide ((XaU (.int k x)).length=1∧o+1≤(vI k xs).length)&&(XaU (.int k x)).all XgK)=true:=by
 subst e;have:=of_decide_eq_true hb;simp [XaU,Value.cells,XgK];omega
theorem X9I {k:IntKind} {xs:List Int} {o i:Nat} {x:Int} {K:List Value→Prop} (e:o=i) (h:K (vI k (xs.set i x))):∃ cs',setAt (vI k xs) o (XaU (.int k x))=cs'∧K cs':=
 ⟨_,by subst e;exact XZC k xs o x,h⟩
theorem XUh {k:IntKind} {n:Nat} {z:Int} {K:List Value→Prop} (h:K (vI k (List.replicate n z))):∃ cs',(List.replicate n [Value.int k z]).flatten=cs'∧K cs':=
 ⟨_,by simp [vI,List.flatten_replicate_singleton],h⟩
theorem XS0 {l:List UInt8} {K:List Value→Prop} (h:K (vI .u8 (bI l))):∃ cs',ofBytes l=cs'∧K cs':=⟨_,Xc4 l,h⟩
theorem X3G {xs:List Int} {o n:Nat} {K:List UInt8→Prop} (h:K (iB ((xs.drop o).take n))):∃ bs,XeF (((vI .u8 xs).drop o).take n)=some bs∧K bs:=
 ⟨_,by rw [XiO,XiI];exact XkX _,h⟩
theorem XM8 {l:List Value} {bs:List UInt8} {K:List UInt8→Prop} (e:XeF l=some bs) (h:K bs):∃ bs,XeF l=some bs∧K bs:=⟨_,e,h⟩
theorem XsJ {k:IntKind} {new:List Value} {m:Nat} {ys:List Int} {K:List Value→Nat→Prop} (e:new=vI k ys) (em:m=ys.length) (h:K (vI k ys) ys.length):∃ cs' n',new=cs'∧m=n'∧K cs' n':=⟨_,_,e,em,h⟩
theorem Ycs {k:IntKind} {new:List Value} {xs:List Int} {o c n m:Nat} {ys:List Int} {K:List Value→Nat→Prop} (e:new=vI k ys) (h0:o=0) (hc:c=xs.length) (hn:n+m=(xs++ys).length) (h:K (vI k (xs++ys)) (xs++ys).length) :
 ∃ cs' n',((vI k xs).drop o).take c++new=cs'∧n+m=n'∧K cs' n':=
 ⟨_,_,by subst h0;rw [List.drop_zero,List.take_of_length_le (by simp [hc]),e,XCK],hn,h⟩
def vT {α:Type} (f:α→List Value) (xs:List α):List Value:=xs.flatMap f
section
variable {α:Type} {f:α→List Value} {c:Nat}
theorem Xhg (hf:∀ x,(f x).length=c) (xs:List α):(vT f xs).length=xs.length*c:=by
 induction xs with
 | nil=>simp [vT]
 | cons x xs ih=>
   have:vT f (x::xs)=f x++vT f xs:=rfl
   rw [this,List.length_append,hf,ih,List.length_cons,Nat.succ_mul];omega
theorem Xmj (hf:∀ x,Xbz.flatL (f x)=true) (xs:List α):Xbz.flatL (vT f xs)=true:=by
 have app:∀ a b:List Value,Xbz.flatL a=true→Xbz.flatL b=true→Xbz.flatL (a++b)=true:=by
  intro a b ha hb
  induction a with
  | nil=>exact hb
  | cons v a ih=>simp only [Xbz.flatL,Bool.and_eq_true,List.cons_append] at ha ⊢;exact ⟨ha.1,ih ha.2⟩
 induction xs with
 | nil=>rfl
 | cons x xs ih=>exact app _ _ (hf x) ih
theorem Xne (hf:∀ x,(f x).all XgK=true) (xs:List α):(vT f xs).all XgK=true:=by
 induction xs with
 | nil=>rfl
 | cons x xs ih=>have:vT f (x::xs)=f x++vT f xs:=rfl;rw [this,List.all_append,hf,ih];rfl
theorem X6x (xs ys:List α):vT f xs++vT f ys=vT f (xs++ys):=by simp [vT]
theorem XfO (hf:∀ x,(f x).length=c) (xs:List α) (n:Nat):(vT f xs).drop (n*c)=vT f (xs.drop n):=by
 induction xs generalizing n with
 | nil=>simp [vT]
 | cons x xs ih=>
   cases n with
   | zero=>simp
   | succ n=>
     have:vT f (x::xs)=f x++vT f xs:=rfl
     rw [this,List.drop_succ_cons,Nat.succ_mul,Nat.add_comm,List.drop_append,hf,List.drop_eq_nil_of_le (by rw [hf];omega),List.nil_append,show c+n*c - c=n*c by omega,ih]
theorem XfY (hf:∀ x,(f x).length=c) (xs:List α) (n:Nat):(vT f xs).take (n*c)=vT f (xs.take n):=by
 induction xs generalizing n with
 | nil=>simp [vT]
 | cons x xs ih=>
   cases n with
   | zero=>simp [vT]
   | succ n=>
     have:vT f (x::xs)=f x++vT f xs:=rfl
     have h2:vT f ((x::xs).take (n+1))=f x++vT f (xs.take n):=rfl
     rw [this,h2,Nat.succ_mul,Nat.add_comm,List.take_append,hf,List.take_of_length_le (by rw [hf];omega),show c+n*c - c=n*c by omega,ih]
theorem XXO (hf:∀ x,(f x).length=c) {xs:List α} {i j:Nat} {x:α} (hx:xs[i]?=some x) (hj:j<c):(vT f xs)[i*c+j]?=(f x)[j]?:=by
 induction xs generalizing i with
 | nil=>simp at hx
 | cons y xs ih=>
   have:vT f (y::xs)=f y++vT f xs:=rfl
   rw [this]
   cases i with
   | zero=>
     simp at hx;subst hx
     rw [Nat.zero_mul,Nat.zero_add,List.getElem?_append_left (by rw [hf];exact hj)]
   | succ i=>
     rw [List.getElem?_append_right (by rw [hf,Nat.succ_mul];omega),hf,show (i+1)*c+j - c=i*c+j by rw [Nat.succ_mul];omega]
     exact ih (by simpa using hx)
theorem rd.T (hf:∀ x,(f x).length=c) {xs:List α} {o i j:Nat} {x:α} {v:Value} {K:Value→Prop} (hx:xs[i]?=some x) (e:o=i*c+j) (hj:j<c) (hv:(f x)[j]?=some v) (h:Xgo v K):rd (vT f xs) o K:=by
 subst e;exact rd.intro (by rw [XXO hf hx hj];exact hv) h
theorem XBY (hf:∀ x,(f x).length=c) {new:List Value} {xs:List α} {o k n m:Nat} {ys:List α} {K:List Value→Nat→Prop} (e:new=vT f ys) (h0:o=0) (hc:k=xs.length*c) (hn:n+m=(xs++ys).length) (h:K (vT f (xs++ys)) (xs++ys).length) :
 ∃ cs' n',((vT f xs).drop o).take k++new=cs'∧n+m=n'∧K cs' n':=
 ⟨_,_,by subst h0;rw [List.drop_zero,List.take_of_length_le (by rw [Xhg hf,hc];omega),e,X6x],hn,h⟩
end
theorem Xaw {s:Xbr} {vals aqs:List Value} {os:List (Option Xbl)} {h h1 h2:Hp} {top n m t':Nat} {ws:List Wd} {r:Xca} {v':Value} (e1:Xcr h 0 s.modes vals=some (aqs,os)) (ew:Xir h s.modes vals=ws) {cw:List (Option (List Value))} (ec:XaD os=cw) (e2:s.run aqs cw=some r) (e3:apartB ws=true)
 (hn:r.new.length=n) (hm:Xjw ws=m) (ht:top+n+m=t') (e4:Xcl h (Xtm top n ws) ws r.wr=some h1) (e5:Xhf h1 (Xtm top n ws) top r.new=some h2) (e6:Xdl (Xtm top n ws) r.v=some v'):Xgq s vals h top=some (v',XhF h2 (top+n) m,t'):=by
 subst hn hm ht ec
 simp only [Xgq,e1,e2,ew,e3,e4,e5,e6]
theorem Xbf {h:Hp} {k:Nat}:Xcr h k [] []=some ([],[]):=rfl
theorem Xau {h:Hp} {k k':Nat} {m:Md} {ms:List Md} {v a:Value} {vs aqs:List Value} {os os':List (Option Xbl)} (e:XcD h k m v=some (a,os)) (hk:k+os.length=k') (t:Xcr h k' ms vs=some (aqs,os')):Xcr h k (m::ms) (v::vs)=some (a::aqs,os++os'):=by
 subst hk
 simp only [Xcr,e,t]
theorem XVV {h:Hp} {k b o n m sz sz':Nat} {ob:Xbl} {cs cs':List Value} (ho:Xav h b=some ob) (hc:ob.cs=some cs) (hs:sz=sz') (en:n=m) (hle:o+n*sz≤cs.length) (e:(cs.drop o).take (n*sz)=cs') (hf:Xbz.flatL cs'=true) :
 XcD h k (.sl sz) (.slice (some ⟨b,o,none⟩) n sz')=some (.slice (some ⟨k,0,none⟩) m sz,[some (.row false cs')]):=by
 subst hs en e
 simp only [XcD,ho,hc,hle,hf,↓reduceIte]
theorem Xle {h:Hp} {b o n i m sz kk:Nat} {k:IntKind} {own:Bool} {xs:List Int} (ho:Xav h b=some (.row own (vI k xs))) (hs:sz=1) (e0:o=i) (en:n=m) (hle:i+m≤xs.length):XcD h kk (.sl 1) (.slice (some ⟨b,o,none⟩) n sz)=some (.slice (some ⟨kk,0,none⟩) m 1,[some (.row false (vI k ((xs.drop i).take m)))]):=by
 subst hs e0 en
 exact XVV ho rfl rfl rfl (by simp;omega) (by rw [XiO,XiI,Nat.mul_one]) (Xhp _ _)
theorem XB4 {h:Hp} {b o n i m sz kk:Nat} {own:Bool} {xs:List (List UInt8)} (ho:Xav h b=some (.row own (vS xs))) (hs:sz=1) (e0:o=i) (en:n=m) (hle:i+m≤xs.length):XcD h kk (.sl 1) (.slice (some ⟨b,o,none⟩) n sz)=some (.slice (some ⟨kk,0,none⟩) m 1,[some (.row false (vS ((xs.drop i).take m)))]):=by
 subst hs e0 en
 exact XVV ho rfl rfl rfl (by simp;omega) (by rw [XjM,XjL,Nat.mul_one]) (Xmq _)
theorem XjX {h:Hp} {b o n sz kk:Nat} {k:IntKind} {own:Bool} {xs:List Int} (ho:Xav h b=some (.row own (vI k xs))) (hs:sz=1) (e0:o=0) (en:n=xs.length):XcD h kk (.sl 1) (.slice (some ⟨b,o,none⟩) n sz)=some (.slice (some ⟨kk,0,none⟩) xs.length 1,[some (.row false (vI k xs))]):=by
 have:=Xle (kk:=kk) (i:=0) (m:=xs.length) ho hs e0 en (by omega)
 simpa using this
theorem XPV {h:Hp} {b o n sz kk:Nat} {own:Bool} {xs:List (List UInt8)} (ho:Xav h b=some (.row own (vS xs))) (hs:sz=1) (e0:o=0) (en:n=xs.length):XcD h kk (.sl 1) (.slice (some ⟨b,o,none⟩) n sz)=some (.slice (some ⟨kk,0,none⟩) xs.length 1,[some (.row false (vS xs))]):=by
 have:=XB4 (kk:=kk) (i:=0) (m:=xs.length) ho hs e0 en (by omega)
 simpa using this
theorem X0M {h:Hp} {k:Nat} {ps:List Path} {bs:List PR} {v v' w:Value} {l:List (Option Xbl)} (e0:Xfl h v ps []=bs) (e1:Xdl (Xst k bs) v=some v') (e2:Xfu h (Xst k bs) (fun s=>XjN k s ps bs) 0 ps bs=some l) (e3:Xri v' (XjN k none ps bs)=w):XcD h k (.tr ps) v=some (w,l):=by
 subst e0 e3
 simp only [XcD,e1,e2]
theorem XDs {h:Hp} {s:Nat→Option Nat} {pat:Option Nat→List (Nat×Value)} {i:Nat}:Xfu h s pat i [] []=some []:=rfl
theorem XSt {h:Hp} {s:Nat→Option Nat} {pat:Option Nat→List (Nat×Value)} {i b:Nat} {p:Path} {ps:List Path} {bs:List PR} {l:List (Option Xbl)} {ob:Xbl} {cs cs' cs'':List Value} (e1:Xav h b=some ob) (e2:(cond (isW p.kind) ob.wcs ob.cs)=some cs) (e3:Xdl.renL s cs=some cs') (e4:XmB cs' (pat (some i))=cs'')
 (t:Xfu h s pat (i+1) ps bs=some l):Xfu h s pat i (p::ps) (.hit b::bs)=some (some (mkObj p.kind cs'')::l):=by
 subst e4
 simp only [Xfu,e1,e2,e3,t]
def skipW:Wd→Bool
 | .no|.emp _|.win _ _ _ false|.blk _ false=>true
 | _=>false
theorem Xbe {h:Hp} {s:Nat→Option Nat}:Xcl h s [] []=some h:=rfl
theorem XiT {h h':Hp} {s:Nat→Option Nat} {x:Wd} {ws:List Wd} {c:Option (List Value)} {cs:List (Option (List Value))} (hx:skipW x=true) (t:Xcl h s ws cs=some h'):Xcl h s (x::ws) (c::cs)=some h':=by
 cases x with
 | win b o n w=>cases w<;>first|(simp only [Xcl];exact t)|cases hx
 | blk b w=>cases w<;>first|(simp only [Xcl];exact t)|cases hx
 | _=>simp only [Xcl];exact t
theorem XbF {h h':Hp} {s:Nat→Option Nat} {b off n:Nat} {ws:List Wd} {c c' x y:List Value} {cs:List (Option (List Value))} {ob ob':Xbl} (e1:Xav h b=some ob) (e2:ob.wcs=some x) (e3:Xdl.renL s c=some c') (e4:c'.length=n∧off+n≤x.length) (e5:setAt x off c'=y) (e6:ob.wr y=some ob') (t:Xcl (Xed h b ob') s ws cs=some h') :
 Xcl h s (.win b off n true::ws) (some c::cs)=some h':=by
 subst e5
 simp only [Xcl,e1,e2,e3,e6,if_pos e4];exact t
theorem XBh {h h':Hp} {s:Nat→Option Nat} {b:Nat} {ws:List Wd} {c c' x:List Value} {cs:List (Option (List Value))} {ob ob':Xbl} (e1:Xav h b=some ob) (e2:ob.wcs=some x) (e3:Xdl.renL s c=some c') (e6:ob.wr c'=some ob') (t:Xcl (Xed h b ob') s ws cs=some h') :
 Xcl h s (.blk b true::ws) (some c::cs)=some h':=by
 simp only [Xcl,e1,e2,e3,e6];exact t
theorem Xbc {h:Hp} {s:Nat→Option Nat} {top:Nat}:Xhf h s top []=some h:=rfl
theorem Xho {h h':Hp} {s:Nat→Option Nat} {top:Nat} {c c':List Value} {cs:List (List Value)} (e:Xdl.renL s c=some c') (t:Xhf (Xed h top (.row true c')) s (top+1) cs=some h'):Xhf h s top (c::cs)=some h':=by
 simp only [Xhf,e];exact t
theorem rn_I {s:Nat→Option Nat} {k:IntKind} {xs:List Int}:Xdl.renL s (vI k xs)=some (vI k xs):=Xeg _ _ (Xhp _ _)
theorem XpU {s:Nat→Option Nat} {α:Type} {f:α→List Value} (hfl:∀ x,Xbz.flatL (f x)=true) {xs:List α}:Xdl.renL s (vT f xs)=some (vT f xs):=Xeg _ _ (Xmj hfl _)
def XSa (n:Nat) (wr:List (Option (List Value))):List Nat→Prop
 | []=>True
 | j::js=>(n≤j∨wr[j]?=some none)∧XSa n wr js
theorem XqP {n:Nat} {wr:List (Option (List Value))}:∀ {js:List Nat},XSa n wr js→∀ j∈js,n≤j∨wr[j]?=some none
 | [],_,j,h=>by cases h
 | k::js,h,j,hj=>by
   rcases List.mem_cons.1 hj with rfl|hj
   ·exact h.1
   ·exact XqP h.2 j hj
theorem Res.of {n:Nat} {r:Xca} {v':Value} {H':Hp} (js:List Nat) (e1:Xdl (Xsw js n) r.v=some v') (e2:Xp4 H' (Xsw js n) js r.new) (e3:js.Nodup) (e4:XSa n r.wr js) (e5:Xwt H' (Xsw js n) 0 r.wr):Res n r v' H':=
 ⟨⟨js,e1,e2,e3,XqP e4,e5⟩⟩
theorem Xip {H:Hp} {j:Nat} {c:List Value} (h:Xav H j=some (.row true c)):Has H j c:=.inl h
theorem Xb2 {H:Hp} {j:Nat} {c:List Value} (h:Xav H j=some (.cells c)):Has H j c:=.inr (.inl h)
abbrev Dec:=List Value→List (Option (List Value))→Option Xca
def dV {α:Type} (un:Value→Option α) (K:α→Dec):Dec:=fun vs cs=>match vs with
 | v::vs'=>match un v with
   | some x=>K x vs' cs
   | none=>none
 | []=>none
theorem XaT {α:Type} {un:Value→Option α} {K:α→Dec} {v:Value} {vs:List Value} {cs:List (Option (List Value))} {x:α} (h:un v=some x):dV un K (v::vs) cs=K x vs cs:=by simp only [dV,h]
theorem dV.elim {α:Type} {un:Value→Option α} {K:α→Dec} {vs:List Value} {cs:List (Option (List Value))} {r:Xca} (h:dV un K vs cs=some r):∃ v vs' x,vs=v::vs'∧un v=some x∧K x vs' cs=some r:=by
 unfold dV at h
 split at h<;>try (cases h;done)
 split at h<;>try (cases h;done)
 exact ⟨_,_,_,rfl,by assumption,h⟩
def dSl {α:Type} (k sz:Nat) (un:List Value→Option (List α)) (K:List α→Dec):Dec:=fun vs cs=>match vs,cs with
 | .slice (some ⟨k',0,none⟩) n sz'::vs',some c::cs'=>match un c with
   | some xs=>if k'=k∧sz'=sz∧n=xs.length then K xs vs' cs' else none
   | none=>none
 | _,_=>none
theorem XqN {α:Type} {k sz:Nat} {un:List Value→Option (List α)} {K:List α→Dec} {vs:List Value} {c:List Value} {cs:List (Option (List Value))} {xs:List α} (h:un c=some xs):dSl k sz un K (.slice (some ⟨k,0,none⟩) xs.length sz::vs) (some c::cs)=K xs vs cs:=by simp [dSl,h]
theorem dSl.elim {α:Type} {k sz:Nat} {un:List Value→Option (List α)} {K:List α→Dec} {vs:List Value} {cs:List (Option (List Value))} {r:Xca} (h:dSl k sz un K vs cs=some r):∃ c vs' cs' xs,vs=.slice (some ⟨k,0,none⟩) xs.length sz::vs'∧cs=some c::cs'∧un c=some xs∧K xs vs' cs'=some r:=by
 unfold dSl at h
 split at h<;>try (cases h;done)
 split at h<;>try (cases h;done)
 split at h<;>try (cases h;done)
 rename_i hc
 obtain ⟨rfl,rfl,rfl⟩:=hc
 exact ⟨_,_,_,_,rfl,rfl,by assumption,h⟩
def dTr {α:Type} (n:Nat) (un:Value→List (Option (List Value))→Option α) (K:α→Dec):Dec:=fun vs cs=>match vs with
 | v::vs'=>match un v (cs.take n) with
   | some x=>K x vs' (cs.drop n)
   | none=>none
 | []=>none
theorem X2m {α:Type} {n:Nat} {un:Value→List (Option (List Value))→Option α} {K:α→Dec} {v:Value} {vs:List Value} {cs cs1 cs2:List (Option (List Value))} {x:α} (h1:cs.take n=cs1) (h2:cs.drop n=cs2) (h:un v cs1=some x):dTr n un K (v::vs) cs=K x vs cs2:=by
 subst h1 h2;simp only [dTr,h]
theorem dTr.elim {α:Type} {n:Nat} {un:Value→List (Option (List Value))→Option α} {K:α→Dec} {vs:List Value} {cs:List (Option (List Value))} {r:Xca} (h:dTr n un K vs cs=some r):∃ v vs' cs1 cs2 x,vs=v::vs'∧cs=cs1++cs2∧un v cs1=some x∧K x vs' cs2=some r:=by
 unfold dTr at h
 split at h<;>try (cases h;done)
 split at h<;>try (cases h;done)
 exact ⟨_,_,_,_,_,rfl,(List.take_append_drop n cs).symm,by assumption,h⟩
def dPt {α:Type} (k:Nat) (un:List Value→Option α) (K:α→Dec):Dec:=fun vs cs=>match vs,cs with
 | .pointer (some ⟨k',0,none⟩)::vs',some c::cs'=>match un c with
   | some x=>if k'=k then K x vs' cs' else none
   | none=>none
 | _,_=>none
theorem Xl2 {α:Type} {k:Nat} {un:List Value→Option α} {K:α→Dec} {vs:List Value} {c:List Value} {cs:List (Option (List Value))} {x:α} (h:un c=some x):dPt k un K (.pointer (some ⟨k,0,none⟩)::vs) (some c::cs)=K x vs cs:=by simp [dPt,h]
theorem dPt.elim {α:Type} {k:Nat} {un:List Value→Option α} {K:α→Dec} {vs:List Value} {cs:List (Option (List Value))} {r:Xca} (h:dPt k un K vs cs=some r):∃ c vs' cs' x,vs=.pointer (some ⟨k,0,none⟩)::vs'∧cs=some c::cs'∧un c=some x∧K x vs' cs'=some r:=by
 unfold dPt at h
 split at h<;>try (cases h;done)
 split at h<;>try (cases h;done)
 split at h<;>try (cases h;done)
 rename_i hc
 subst hc
 exact ⟨_,_,_,_,rfl,rfl,by assumption,h⟩
def dNo:Nat→Dec→Dec
 | 0,K=>K
 | n+1,K=>fun vs cs=>match cs with
   | none::cs'=>dNo n K vs cs'
   | _=>none
theorem dNo.elim {K:Dec} {vs:List Value} {r:Xca}:∀ {n:Nat} {cs:List (Option (List Value))},dNo n K vs cs=some r→∃ cs',cs=List.replicate n none++cs'∧K vs cs'=some r
 | 0,cs,h=>⟨cs,rfl,h⟩
 | n+1,cs,h=>by
   simp only [dNo] at h
   split at h<;>try (cases h;done)
   obtain ⟨cs',rfl,h2⟩:=dNo.elim h
   exact ⟨cs',rfl,h2⟩
def dNl (n:Nat) (K:Dec):Dec:=fun vs cs=>match vs with
 | .pointer none::vs'=>dNo n K vs' cs
 | _=>none
theorem dNl.elim {n:Nat} {K:Dec} {vs:List Value} {cs:List (Option (List Value))} {r:Xca} (h:dNl n K vs cs=some r):∃ vs' cs',vs=.pointer none::vs'∧cs=List.replicate n none++cs'∧K vs' cs'=some r:=by
 unfold dNl at h
 split at h<;>try (cases h;done)
 obtain ⟨cs',rfl,h2⟩:=dNo.elim h
 exact ⟨_,cs',rfl,rfl,h2⟩
def XcO (r:Option Xca):Dec:=fun vs cs=>match vs,cs with
 | [],[]=>r
 | _,_=>none
theorem XcO.elim {o:Option Xca} {vs:List Value} {cs:List (Option (List Value))} {r:Xca} (h:XcO o vs cs=some r):vs=[]∧cs=[]∧o=some r:=by
 unfold XcO at h
 split at h<;>try (cases h;done)
 exact ⟨rfl,rfl,h⟩
def orD (a b:Dec):Dec:=fun vs cs=>match a vs cs with
 | some r=>some r
 | none=>b vs cs
theorem orD.elim {a b:Dec} {vs:List Value} {cs:List (Option (List Value))} {r:Xca} (h:orD a b vs cs=some r):a vs cs=some r∨b vs cs=some r:=by
 unfold orD at h
 split at h
 ·cases h;left;assumption
 ·exact .inr h
def ofG {α:Type} (o:Option α) (f:α→Xca):Option Xca:=match o with
 | some x=>some (f x)
 | none=>none
theorem Xa0 {α:Type} {o:Option α} {f:α→Xca} {x:α} (h:o=some x):ofG o f=some (f x):=by subst h;rfl
theorem ofG.elim {α:Type} {o:Option α} {f:α→Xca} {r:Xca} (h:ofG o f=some r):∃ x,o=some x∧f x=r:=by
 cases o with
 | none=>cases h
 | some x=>exact ⟨x,rfl,by cases h;rfl⟩
def asS:Value→Option (List UInt8)|.string s=>some s.data.toList|_=>none
theorem XbH (v:Value) (x:List UInt8) (h:asS v=some x):v=.string ⟨⟨x⟩⟩:=by cases v<;>simp [asS] at h;subst h;rfl
theorem XsI (k:IntKind) (xs:List Int):unL (asI k) (vI k xs)=some xs:=XpK (fun x=>by simp [asI]) xs
theorem X7M (xs:List (List UInt8)):unL asS (vS xs)=some xs:=XpK (g:=fun s=>Value.string ⟨⟨s⟩⟩) (fun x=>by simp [asS]) xs
theorem Xt0 {k:IntKind} {cs:List Value} {xs:List Int} (h:unL (asI k) cs=some xs):cs=vI k xs:=Xuq (XbS k) h
theorem Yab {cs:List Value} {xs:List (List UInt8)} (h:unL asS cs=some xs):cs=vS xs:=Xuq (g:=fun s=>Value.string ⟨⟨s⟩⟩) XbH h
end Go.Vm
namespace Go.Vm
open Go Go.RowKit
end Go.Vm
namespace Go.Vm
open Go Go.RowKit
theorem st_I {k:IntKind} {xs:List Int} {o i:Nat} {x:Int} {K:List Value→Prop} (hb:decide (i<xs.length)=true) (e:o=i) (h:K (vI k (xs.set i x))) :
 req (decide ((XaU (.int k x)).length=1∧o+1≤(vI k xs).length)&&(XaU (.int k x)).all XgK) (∃ cs',setAt (vI k xs) o (XaU (.int k x))=cs'∧K cs'):=req.intro (XO0 hb e) (X9I e h)
end Go.Vm
namespace Go.Vm
theorem br.h2 {α:Type} {b b':Bool} {X Y:Option α} {r:α} {p q:Prop} (h:cond b' X Y=some r) (e:b=b') (k2:b'=false→Y=some r→q) (k1:b'=true→X=some r→p):br b p q:=br.h h e k1 k2
end Go.Vm
namespace Go.Vm
open Go Go.RowKit
theorem VR.ofNil {ρ:Ren} {s:Nat} {rv:Value} (h:VR ρ (.slice none 0 s) rv) (j sz:Nat):VR ρ (.slice (some ⟨j,0,none⟩) 0 sz) rv:=by
 cases h;exact .slice0 none
theorem XaI.nilT {P:Program} {f base fn nt s:Nat} {e:Env} {todo:List XdR} {ds:List Nat} {ret:Bool} {rd:Option Nat} {up:List Xbh} {H:Hp} {top:Nat} {R:Value→Hp→Nat→Prop} (t sz:Nat)
 (h:XaI P f base ⟨⟨fn,nt,Xed e t (.slice (some ⟨top,0,none⟩) 0 sz),todo,ds,ret,rd⟩,up,Xed H top (.row true []),top+1⟩ R) (he:Xav e t=some (.slice none 0 s):=by rfl) :
 XaI P f base ⟨⟨fn,nt,e,todo,ds,ret,rd⟩,up,H,top⟩ R:=by
 refine ⟨fun w0 U ρ rf rfs w cs hr=>?_⟩
 have hx:=Ext.upd (l:=⟨0,0,0⟩) hr.heap.Xll
 have hcur:FrR P (upd ρ top ⟨0,0,0⟩) ⟨fn,nt,Xed e t (.slice (some ⟨top,0,none⟩) 0 sz),todo,ds,ret,rd⟩ rf:=
  { hr.cur.mono hx with
    env:=fun i v hv=>by
     rw [XaV] at hv
     split at hv
     ·rename_i hi;subst hi;cases hv
      obtain ⟨v',a,b⟩:=hr.cur.env t _ he
      exact ⟨v',a,(VR.ofNil b _ _).mono hx⟩
     ·exact (hr.cur.env.mono hx) i v hv }
 obtain ⟨ρ',rv,fr',w',v,H',top',h1,h2,h3,h4,h5,h6,h7⟩:=h.get w0 U _ rf rfs w cs ⟨hcur,hr.up.mono (fun _ _ x=>x.mono hx),XhA hr.heap⟩
 exact ⟨ρ',rv,fr',w',v,H',top',h1,h2,h3,h4,h5,fun i l hi hl=>h6 i l hi (hx _ _ hl),h7⟩
theorem XaI.nilC {P:Program} {f base s:Nat} {fr:Xbh} {up:List Xbh} {H:Hp} {top:Nat} {R:Value→Hp→Nat→Prop} (b i sz:Nat) {cs:List Value}
 (h:XaI P f base ⟨fr,up,Xed (Xed H b (.cells (cs.set i (.slice (some ⟨top,0,none⟩) 0 sz)))) top (.row true []),top+1⟩ R) (hb:Xav H b=some (.cells cs):=by rfl) (hi:cs[i]?=some (.slice none 0 s):=by rfl) :
 XaI P f base ⟨fr,up,H,top⟩ R:=by
 refine ⟨fun w0 U ρ rf rfs w cs' hr=>?_⟩
 have hx:=Ext.upd (l:=⟨0,0,0⟩) hr.heap.Xll
 have hp:HpR P w0 (.of U) ρ (Xed H b (.cells (cs.set i (.slice (some ⟨top,0,none⟩) 0 sz)))) top w:=
  { hr.heap with
    obj:=fun j o ho=>by
     rw [XaV] at ho
     split at ho
     ·rename_i hj;subst hj;cases ho
      obtain ⟨l,hl,hc,hw⟩:=hr.heap.obj b _ hb
      refine ⟨l,hl,?_,fun _=>hw rfl⟩
      obtain ⟨g1,g2,g3⟩:=(hc:Xa5 ρ w l true cs)
      refine ⟨by simpa using g1,fun k v hv=>?_,g3⟩
      rw [List.getElem?_set] at hv
      split at hv
      ·rename_i hk;subst hk
       split at hv
       ·cases hv
        obtain ⟨v',a,b'⟩:=g2 i _ hi
        exact ⟨v',a,VR.ofNil b' _ _⟩
       ·cases hv
      ·exact g2 k v hv
     ·exact hr.heap.obj j o ho
    dis:=fun j k oj ok lj lk hjk hj hk hlj hlk hw=>by
     have key:∀ j o,Xav (Xed H b (.cells (cs.set i (.slice (some ⟨top,0,none⟩) 0 sz)))) j=some o→∃ o',Xav H j=some o'∧(writable o=true→writable o'=true):=fun j o ho=>by
      rw [XaV] at ho
      split at ho
      ·rename_i hj;subst hj;exact ⟨_,hb,fun _=>rfl⟩
      ·exact ⟨o,ho,id⟩
     obtain ⟨oj',a1,a2⟩:=key j oj hj
     obtain ⟨ok',b1,_⟩:=key k ok hk
     exact hr.heap.dis j k oj' ok' lj lk hjk a1 b1 hlj hlk (a2 hw) }
 obtain ⟨ρ',rv,fr',w',v,H',top',h1,h2,h3,h4,h5,h6,h7⟩:=h.get w0 U _ rf rfs w cs' ⟨hr.cur.mono hx,hr.up.mono (fun _ _ x=>x.mono hx),XhA hp⟩
 exact ⟨ρ',rv,fr',w',v,H',top',h1,h2,h3,h4,h5,fun i l hi hl=>h6 i l hi (hx _ _ hl),h7⟩
mutual
inductive Nv (j:Nat):Value→Value→Prop
 | same (v):Nv j v v
 | nil (s sz):Nv j (.slice none 0 s) (.slice (some ⟨j,0,none⟩) 0 sz)
 | tup {a b:List Value} (h:NvL j a b):Nv j (.tuple ⟨a⟩) (.tuple ⟨b⟩)
inductive NvL (j:Nat):List Value→List Value→Prop
 | nil:NvL j [] []
 | cons {v v':Value} {l l':List Value} (h:Nv j v v') (t:NvL j l l'):NvL j (v::l) (v'::l')
end
mutual
theorem Nv.vr {j:Nat} {ρ:Ren}:∀ {v v':Value},Nv j v v'→∀ {rv:Value},VR ρ v rv→VR ρ v' rv
 | _,_,.same v,_,h=>h
 | _,_,.nil s sz,_,h=>VR.ofNil h _ _
 | _,_,.tup hl,_,h=>by cases h with|tuple ht=>exact .tuple (NvL.vr hl ht)
theorem NvL.vr {j:Nat} {ρ:Ren}:∀ {l l':List Value},NvL j l l'→∀ {rl:List Value},VRL ρ l rl→VRL ρ l' rl
 | _,_,.nil,_,h=>h
 | _,_,.cons hv ht,_,h=>by cases h with|cons a b=>exact .cons (Nv.vr hv a) (NvL.vr ht b)
end
end Go.Vm
namespace Go.Vm
theorem XsO {A B C D:Prop} [Decidable (A∧B∧C∧D)] {p q:Bool} (a:A) (b:B) (c:C) (d:D) (e:p=true) (g:q=true):(decide (A∧B∧C∧D)&&p&&q)=true:=by
 rw [decide_eq_true ⟨a,b,c,d⟩,e,g];rfl
end Go.Vm
namespace Go.Vm
open Go Go.RowKit
def XpD (o:Xbl) (K:Xbl→Prop):Prop:=
 match o with
 | .cells cs=>Xld cs fun cs=>K (.cells cs)
 | .row own cs=>Xld cs fun cs=>K (.row own cs)
 | .ty t cs=>K (.ty t cs)
 | .siter s p=>K (.siter s p)
 | .loop l=>K (.loop l)
 | .marks=>K .marks
theorem XrM (o:Xbl) (K:Xbl→Prop):XpD o K=K o:=by
 cases o<;>simp only [XpD,Xiy]
def Xk9 (bs:List Nat) (h:Hp) (K:Hp→Prop):Prop:=
 match h with
 | []=>K []
 | (i,o)::l=>cond (XBU i bs) (XpD o fun o=>Xk9 bs l fun l=>K ((i,o)::l)) (Xt9 o fun o=>Xk9 bs l fun l=>K ((i,o)::l))
theorem Xk8 (bs:List Nat):∀ (h:Hp) (K:Hp→Prop),Xk9 bs h K=K h
 | [],K=>rfl
 | (i,o)::l,K=>by
   rw [Xk9]
   cases XBU i bs
   ·rw [cond_false,Xpa,Xk8 bs l]
   ·rw [cond_true,XrM,Xk8 bs l]
theorem XaK.Xbb {s:Xbr} {vals:List Value} {h:Hp} {top:Nat} {K:Value→Hp→Nat→Prop} {v:Value} {h':Hp} {top':Nat} (bs:List Nat) (e:Xgq s vals h top=some (v,h',top')) (k:Xgo v fun v=>Xk9 bs h' fun h'=>K v h' top'):XaK s vals h top K:=
 XaK.intro e (by simpa only [Xfz,Xk8] using k)
end Go.Vm
namespace Go.Vm
open Go Go.RowKit
inductive Xss:Value→Hp→Nat→Value→Hp→Nat→Prop
 | refl (v:Value) (H:Hp) (t:Nat):Xss v H t v H t
 | val {v v' v2:Value} {H H2:Hp} {t t2:Nat} (h:Nv t v v') (k:Xss v' (Xed H t (.row true [])) (t+1) v2 H2 t2):Xss v H t v2 H2 t2
 | cell {v v2:Value} {H H2:Hp} {t t2 s:Nat} (b i sz:Nat) {cs:List Value} (hb:Xav H b=some (.cells cs)) (hi:cs[i]?=some (.slice none 0 s)) (k:Xss v (Xed (Xed H b (.cells (cs.set i (.slice (some ⟨t,0,none⟩) 0 sz)))) t (.row true [])) (t+1) v2 H2 t2):Xss v H t v2 H2 t2
theorem XPW {P:Program} {w0:World} {U:UG} {ρ:Ren} {H:Hp} {top s:Nat} {w:World} (h:HpR P w0 U ρ H top w) {b i:Nat} (sz:Nat) {cs:List Value} (hb:Xav H b=some (.cells cs)) (hi:cs[i]?=some (.slice none 0 s)):HpR P w0 U ρ (Xed H b (.cells (cs.set i (.slice (some ⟨top,0,none⟩) 0 sz)))) top w:=
 { h with
   obj:=fun j o ho=>by
    rw [XaV] at ho
    split at ho
    ·rename_i hj;subst hj;cases ho
     obtain ⟨l,hl,hc,hw⟩:=h.obj b _ hb
     refine ⟨l,hl,?_,fun _=>hw rfl⟩
     obtain ⟨g1,g2,g3⟩:=(hc:Xa5 ρ w l true cs)
     refine ⟨by simpa using g1,fun k v hv=>?_,g3⟩
     rw [List.getElem?_set] at hv
     split at hv
     ·rename_i hk;subst hk
      split at hv
      ·cases hv
       obtain ⟨v',a,b'⟩:=g2 i _ hi
       exact ⟨v',a,VR.ofNil b' _ _⟩
      ·cases hv
     ·exact g2 k v hv
    ·exact h.obj j o ho
   dis:=fun j k oj ok lj lk hjk hj hk hlj hlk hw=>by
    have key:∀ j o,Xav (Xed H b (.cells (cs.set i (.slice (some ⟨top,0,none⟩) 0 sz)))) j=some o→∃ o',Xav H j=some o'∧(writable o=true→writable o'=true):=fun j o ho=>by
     rw [XaV] at ho
     split at ho
     ·rename_i hj;subst hj;exact ⟨_,hb,fun _=>rfl⟩
     ·exact ⟨o,ho,id⟩
    obtain ⟨oj',a1,a2⟩:=key j oj hj
    obtain ⟨ok',b1,_⟩:=key k ok hk
    exact h.dis j k oj' ok' lj lk hjk a1 b1 hlj hlk (a2 hw) }
theorem Xss.ok {P:Program} {w0:World} {U:Nat→Nat→Prop} {v v2 rv:Value} {H H2:Hp} {t t2:Nat} (k:Xss v H t v2 H2 t2):∀ {ρ:Ren} {w:World},VR ρ v rv→HpR P w0 (.of U) ρ H t w→∃ ρ',Ext ρ ρ'∧VR ρ' v2 rv∧HpR P w0 (.of U) ρ' H2 t2 w:=by
 induction k with
 | refl=>intro ρ w h1 h2;exact ⟨ρ,Ext.refl ρ,h1,h2⟩
 | val h k ih=>
   intro ρ w h1 h2
   have hx:=Ext.upd (l:=⟨0,0,0⟩) h2.Xll
   obtain ⟨ρ',e1,e2,e3⟩:=ih ((h.vr h1).mono hx) (XhA h2)
   exact ⟨ρ',hx.trans e1,e2,e3⟩
 | cell b i sz hb hi k ih=>
   intro ρ w h1 h2
   have hx:=Ext.upd (l:=⟨0,0,0⟩) h2.Xll
   obtain ⟨ρ',e1,e2,e3⟩:=ih (h1.mono hx) (XhA (XPW h2 sz hb hi))
   exact ⟨ρ',hx.trans e1,e2,e3⟩
theorem XaI.nilW {P:Program} {f base:Nat} {vm:VM} {R:Value→Hp→Prop} (h:XaI P f base vm (fun v H t=>∃ v' H' t',Xss v H t v' H' t'∧R v' H')):XaI P f base vm (fun v H _=>R v H):=by
 refine ⟨fun w0 U ρ rf rfs w cs hr=>?_⟩
 obtain ⟨ρ',rv,fr',w',v,H',top',h1,h2,h3,h4,h5,h6,v2,H2,t2,hk,h7⟩:=h.get w0 U ρ rf rfs w cs hr
 obtain ⟨ρ2,e1,e2,e3⟩:=hk.ok h4 h5
 exact ⟨ρ2,rv,fr',w',v2,H2,t2,h1,h2,h3,e2,e3,fun i l hi hl=>e1 _ _ (h6 i l hi hl),h7⟩
end Go.Vm
namespace Go.Vm
end Go.Vm
namespace Go.Vm
open Go Go.RowKit
@[simp] theorem XIH (l:List UInt8):(ofBytes l).length=l.length:=by simp [ofBytes]
theorem XYg {xs:List Int} {n:Nat} {K:List UInt8→Prop} (h:K (iB xs)) (hn:xs.length≤n:=by first|exact Nat.le_refl _|omega|(simp;done)|(simp;omega)):∃ bs,XeF ((vI .u8 xs).take n)=some bs∧K bs:=
 ⟨_,by rw [List.take_of_length_le (by simpa using hn)];exact XkX _,h⟩
theorem XCY {A B C D:Prop} [Decidable (A∧B∧C∧D)] (a:A) (b:B) (c:C) (d:D):decide (A∧B∧C∧D)=true:=decide_eq_true ⟨a,b,c,d⟩
theorem Xq8 {A B C D:Prop} [Decidable (A∧B∧C∧D)] (a:A) (b:B) (c:C) (d:D):decide (A∧B∧C∧D)=true:=decide_eq_true ⟨a,b,c,d⟩
theorem Xqn {A B C D E:Prop} [Decidable (A∧B∧C∧D∧E)] {p q:Bool} (a:A) (b:B) (c:C) (d:D) (e:E) (f:p=true) (g:q=true):(decide (A∧B∧C∧D∧E)&&p&&q)=true:=by
 rw [decide_eq_true ⟨a,b,c,d,e⟩,f,g];rfl
theorem XvJ {new:List Value} {xs:List Int} {n m:Nat} {ys:List Int} {K:List Value→Nat→Prop} (e:new=vI .u8 ys) (hc:n=xs.length) (hn:n+m=(xs++ys).length) (h:K (vI .u8 (xs++ys)) (xs++ys).length) :
 ∃ cs' n',(vI .u8 xs).take n++new=cs'∧n+m=n'∧K cs' n':=
 ⟨_,_,by rw [List.take_of_length_le (by simp [hc]),e,XCK],hn,h⟩
theorem Xc3 (k:IntKind) {n:Int}:asI k (.int k n)=some n:=by simp [asI]
theorem Xcp {s:List UInt8}:asS (.string ⟨⟨s⟩⟩)=some s:=rfl
def XNx (i:Nat) (a b:Dec):Dec:=fun vs cs=>match vs[i]? with
 | some (.pointer none)=>b vs cs
 | _=>a vs cs
theorem XNx.elim {i:Nat} {a b:Dec} {vs:List Value} {cs:List (Option (List Value))} {r:Xca} (h:XNx i a b vs cs=some r):a vs cs=some r∨b vs cs=some r:=by
 unfold XNx at h
 split at h
 ·exact .inr h
 ·exact .inl h
theorem Xg3 {H:Hp} {s:Nat→Option Nat}:Xp4 H s [] []:=trivial
theorem XrK {H:Hp} {s:Nat→Option Nat} {j:Nat} {js:List Nat} {c c':List Value} {cs:List (List Value)} (e:Xdl.renL s c=some c') (h:Has H j c') (t:Xp4 H s js cs):Xp4 H s (j::js) (c::cs):=⟨⟨_,e,h⟩,t⟩
theorem Xg1 {n:Nat} {wr:List (Option (List Value))}:XSa n wr []:=trivial
theorem XrX {n j:Nat} {wr:List (Option (List Value))} {js:List Nat} (h:n≤j) (t:XSa n wr js):XSa n wr (j::js):=⟨.inl h,t⟩
theorem Xg2 {H:Hp} {s:Nat→Option Nat} {k:Nat}:Xwt H s k []:=trivial
theorem XBs {H:Hp} {s:Nat→Option Nat} {k:Nat} {l:List (Option (List Value))} (t:Xwt H s (k+1) l):Xwt H s k (none::l):=t
theorem XlC {H:Hp} {s:Nat→Option Nat} {k:Nat} {c c':List Value} {l:List (Option (List Value))} (e:Xdl.renL s c=some c') (h:Has H k c') (t:Xwt H s (k+1) l):Xwt H s k (some c::l):=⟨⟨_,e,h⟩,t⟩
theorem Res.flat {n:Nat} {r:Xca} {v':Value} {H':Hp} {b:Bool} (e:r.v=.bool b) (_:r.new=[]) (h:Res n r v' H'):v'=.bool b:=by
 obtain ⟨js,h1,h2,-⟩:=h.ex
 rw [e] at h1
 cases h1;rfl
theorem XaK.q {s:Xbr} {vals:List Value} {h:Hp} {top:Nat} {K:Value→Hp→Nat→Prop} {r:Xca} {v':Value} (e1:Xcr h 0 s.modes vals=some (vals,[])) (ew:Xir h s.modes vals=[]) (e2:s.run vals []=some r) (hn:r.new=[]) (hw:r.wr=[]) (e6:Xdl (Xtm top 0 []) r.v=some v')
 (k:Xgo v' fun v=>Xk9 [] h fun h'=>K v h' top):XaK s vals h top K:=by
 refine XaK.Xbb [] (Xaw (n:=0) (m:=0) (t':=top) e1 ew rfl e2 rfl (by rw [hn];rfl) rfl rfl (by rw [hw];exact Xbe) (by rw [hn];exact Xbc) e6) k
theorem Xc2 {α:Type} {o:Option α} {f:α→Xca} {vs:List Value} {cs:List (Option (List Value))} {r:Xca} (h:XcO (ofG o f) vs cs=some r):vs=[]∧cs=[]∧∃ x,o=some x∧f x=r:=by
 obtain ⟨a,b,c⟩:=XcO.elim h
 exact ⟨a,b,ofG.elim c⟩
theorem Res.z {n:Nat} {r:Xca} {v':Value} {H':Hp} (e1:Xdl (Xsw [] n) r.v=some v') (e2:r.new=[]) (e3:r.wr=[]):Res n r v' H':=
 Res.of [] e1 (by rw [e2];exact Xg3) (by decide) Xg1 (by rw [e3];exact Xg2)
end Go.Vm
namespace Go.Vm
open Go
theorem Xcg {n:Int} (h1:-9223372036854775808≤n) (h2:n<9223372036854775808):wI .i64 n=n:=by
 show IntKind.wrap .i64 n=n;rw [IntKind.wrap_i64];omega
theorem XeJ {n:Int} (h1:0≤n) (h2:n<18446744073709551616):wI .u64 n=n:=by
 show IntKind.wrap .u64 n=n
 simp only [IntKind.wrap,IntKind.bits,IntKind.signed];simp;omega
theorem Xyy {n:Int} (h1:0≤n) (h2:n<4294967296):wI .u32 n=n:=by
 show IntKind.wrap .u32 n=n
 simp only [IntKind.wrap,IntKind.bits,IntKind.signed];simp;omega
theorem wU8 {n:Int} (h1:0≤n) (h2:n<256):wI .u8 n=n:=by
 show IntKind.wrap .u8 n=n
 simp only [IntKind.wrap,IntKind.bits,IntKind.signed];simp;omega
theorem wU64m (n:Int):wI .u64 n=n%18446744073709551616:=by
 show IntKind.wrap .u64 n=_
 simp only [IntKind.wrap,IntKind.bits,IntKind.signed];simp
theorem wU32m (n:Int):wI .u32 n=n%4294967296:=by
 show IntKind.wrap .u32 n=_
 simp only [IntKind.wrap,IntKind.bits,IntKind.signed];simp
theorem wU8m (n:Int):wI .u8 n=n%256:=by
 show IntKind.wrap .u8 n=_
 simp only [IntKind.wrap,IntKind.bits,IntKind.signed];simp
theorem XDO {n:Nat} (h:n<18446744073709551616):(BitVec.ofInt 64 (n:Int)).toNat=n:=by
 rw [BitVec.toNat_ofInt];omega
theorem X67 {a b:Nat} (ha:a<9223372036854775808) (hb:b<9223372036854775808):Xjr .i64 (a:Int) (b:Int)=((a &&& b:Nat):Int):=by
 have h:a &&& b≤a:=Nat.and_le_left
 show IntKind.wrap .i64 _=_
 rw [show IntKind.bits .i64=64 from rfl,BitVec.toNat_and,XDO (by omega),XDO (by omega)]
 exact Xcg (by omega) (by omega)
theorem X7V {a b:Nat} (ha:a<9223372036854775808) (hb:b<9223372036854775808):Xjh .i64 (a:Int) (b:Int)=((a ||| b:Nat):Int):=by
 have h:a ||| b<2^63:=Nat.or_lt_two_pow (by omega) (by omega)
 show IntKind.wrap .i64 _=_
 rw [show IntKind.bits .i64=64 from rfl,BitVec.toNat_or,XDO (by omega),XDO (by omega)]
 exact Xcg (by omega) (by omega)
theorem X7l {a b:Nat} (ha:a<18446744073709551616) (hb:b<18446744073709551616):Xjh .u64 (a:Int) (b:Int)=((a ||| b:Nat):Int):=by
 have h:a ||| b<2^64:=Nat.or_lt_two_pow (by omega) (by omega)
 show IntKind.wrap .u64 _=_
 rw [show IntKind.bits .u64=64 from rfl,BitVec.toNat_or,XDO (by omega),XDO (by omega)]
 exact XeJ (by omega) (by omega)
theorem Xyj (a k:Nat):a &&& (2^k - 1)=a%2^k:=Nat.and_two_pow_sub_one_eq_mod a k
theorem XC7 {a b k:Nat} (hb:b<2^k):(a*2^k) ||| b=a*2^k+b:=by
 rw [Nat.mul_comm];exact (Nat.two_pow_add_eq_or_of_lt hb a).symm
theorem XgS (k:Nat) {a m:Int} (hm:m=2^k - 1) (hk:k≤62) (h0:0≤a) (h1:a<9223372036854775808):Xjr .i64 a m=a%2^k:=by
 obtain ⟨n,rfl⟩:=Int.eq_ofNat_of_zero_le h0
 have hp:2^k≤2^62:=Nat.pow_le_pow_right (by decide) hk
 have hp1:1≤2^k:=Nat.one_le_two_pow
 have:m=((2^k - 1:Nat):Int):=by rw [hm];push_cast [hp1];rfl
 rw [this,X67 (by omega) (by omega),Xyj];push_cast;rfl
theorem Xnf (k:Nat) {a b:Int} (h0:0≤a) (h1:a*2^k<9223372036854775808) (hb0:0≤b) (hb:b<2^k) (hb1:b<9223372036854775808):Xjh .i64 (a*2^k) b=a*2^k+b:=by
 obtain ⟨n,rfl⟩:=Int.eq_ofNat_of_zero_le h0
 obtain ⟨m,rfl⟩:=Int.eq_ofNat_of_zero_le hb0
 have e:((n:Int)*2^k)=((n*2^k:Nat):Int):=by push_cast;rfl
 rw [e] at h1 ⊢
 rw [X7V (by omega) (by omega),XC7 (by exact_mod_cast hb)];push_cast;rfl
theorem Xfb (k:Nat) {a b:Int} (h0:0≤a) (h1:a*2^k<18446744073709551616) (hb0:0≤b) (hb:b<2^k) (hb1:b<18446744073709551616):Xjh .u64 (a*2^k) b=a*2^k+b:=by
 obtain ⟨n,rfl⟩:=Int.eq_ofNat_of_zero_le h0
 obtain ⟨m,rfl⟩:=Int.eq_ofNat_of_zero_le hb0
 have e:((n:Int)*2^k)=((n*2^k:Nat):Int):=by push_cast;rfl
 rw [e] at h1 ⊢
 rw [X7l (by omega) (by omega),XC7 (by exact_mod_cast hb)];push_cast;rfl
theorem XoM (a:Int) (k:Nat):a.fdiv (2^k)=a/2^k:=Int.fdiv_eq_ediv_of_nonneg a (Int.le_of_lt (Int.pow_pos (by decide)))
theorem Xaz {α:Type} {p:Prop} [Decidable p] {x:Option α} (h:p):XaJ (decide p) x=x:=XaJ.mk (decide_eq_true h)
theorem XaS {α:Type} {p:Prop} [Decidable p] {x y:α} (h:p):cond (decide p) x y=x:=by rw [decide_eq_true h,cond_true]
theorem XaO {α:Type} {p:Prop} [Decidable p] {x y:α} (h:¬ p):cond (decide p) x y=y:=by rw [decide_eq_false h,cond_false]
theorem XnZ {α:Type} {p:Prop} [Decidable p] {x y:α}:cond (decide p) x y=if p then x else y:=by
 by_cases h:p<;>simp [h]
theorem iter_eq {σ ρ:Type} {step:σ→Option (Sum σ ρ)} (F:σ→ρ) (P:σ→Prop) (μ:σ→Nat)
 (h:∀ s,P s→step s=some (.inr (F s))∨∃ s',step s=some (.inl s')∧P s'∧μ s'<μ s∧F s'=F s):∀ n s,P s→μ s<n→iter step n s=some (F s)
 | 0,s,hp,hn=>by omega
 | n+1,s,hp,hn=>by
   rw [iter]
   rcases h s hp with e|⟨s',e,hp',hm,hf⟩
   ·rw [e]
   ·rw [e];exact hf▸iter_eq F P μ h n s' hp' (by omega)
theorem XeE:FUEL=18446744073709551616:=rfl
end Go.Vm
namespace Go.Vm.Code
open Go Go.Vm Go.Proofs
def τ0:Operand:=.tmp 0
def τ1:Operand:=.tmp 1
def τ2:Operand:=.tmp 2
def τ3:Operand:=.tmp 3
def τ4:Operand:=.tmp 4
def τ5:Operand:=.tmp 5
def τ6:Operand:=.tmp 6
def τ7:Operand:=.tmp 7
def τ8:Operand:=.tmp 8
def τ9:Operand:=.tmp 9
def Xcj:Operand:=.tmp 10
def Xb4:Operand:=.tmp 11
def XcH:Operand:=.tmp 12
def XcM:Operand:=.tmp 13
def Xc7:Operand:=.tmp 14
def XcY:Operand:=.tmp 15
def Xc1:Operand:=.tmp 16
def Xc0:Operand:=.tmp 17
def Xdw:Operand:=.tmp 18
def Xdk:Operand:=.tmp 19
def XdE:Operand:=.tmp 20
def XdX:Operand:=.tmp 21
def Xeh:Operand:=.tmp 22
def Xep:Operand:=.tmp 23
def Xek:Operand:=.tmp 24
def XeI:Operand:=.tmp 25
def XdY:Operand:=.tmp 26
def XeH:Operand:=.tmp 27
def XeD:Operand:=.tmp 28
def XeG:Operand:=.tmp 29
def XeO:Operand:=.tmp 30
def XeP:Operand:=.tmp 31
def Xfj:Operand:=.tmp 32
def XfE:Operand:=.tmp 33
def XfH:Operand:=.tmp 34
def XfG:Operand:=.tmp 35
def XfF:Operand:=.tmp 36
def Xfm:Operand:=.tmp 37
def Xgl:Operand:=.tmp 38
def Xgp:Operand:=.tmp 39
def Xg4:Operand:=.tmp 40
def Xg7:Operand:=.tmp 41
def Xg6:Operand:=.tmp 42
def Xg5:Operand:=.tmp 43
def Xhv:Operand:=.tmp 44
def Xhw:Operand:=.tmp 45
def XhZ:Operand:=.tmp 46
def Xhu:Operand:=.tmp 47
def Xh0:Operand:=.tmp 48
def Xh9:Operand:=.tmp 49
def Xiq:Operand:=.tmp 50
def Xi5:Operand:=.tmp 51
def Xjx:Operand:=.tmp 52
def XjE:Operand:=.tmp 53
def XjP:Operand:=.tmp 54
def XjT:Operand:=.tmp 55
def XkA:Operand:=.tmp 56
def Xj7:Operand:=.tmp 57
def Xkj:Operand:=.tmp 58
def XkB:Operand:=.tmp 59
def XkV:Operand:=.tmp 60
def Xlq:Operand:=.tmp 61
def Xl6:Operand:=.tmp 62
def Xm0:Operand:=.tmp 63
def Xnc:Operand:=.tmp 64
def XnT:Operand:=.tmp 65
def Xnr:Operand:=.tmp 66
def XnI:Operand:=.tmp 67
def Xos:Operand:=.tmp 68
def XoR:Operand:=.tmp 69
def XpE:Operand:=.tmp 70
def XpO:Operand:=.tmp 71
def Xpt:Operand:=.tmp 72
def XqX:Operand:=.tmp 73
def Xr0:Operand:=.tmp 74
def Xsx:Operand:=.tmp 75
def Xwv:Operand:=.tmp 76
def Xtl:Operand:=.tmp 77
def XwM:Operand:=.tmp 78
def XAL:Operand:=.tmp 79
def XwH:Operand:=.tmp 80
def Xz4:Operand:=.tmp 81
def Xya:Operand:=.tmp 82
def XwF:Operand:=.tmp 83
def XCC:Operand:=.tmp 84
def XNQ:Operand:=.tmp 85
def XK0:Operand:=.tmp 86
def XI9:Operand:=.tmp 87
def XDa:Operand:=.tmp 88
def XCF:Operand:=.tmp 89
def XKI:Operand:=.tmp 90
def XPe:Operand:=.tmp 91
def XHu:Operand:=.tmp 92
def XJ8:Operand:=.tmp 93
def XCr:Operand:=.tmp 94
def XHH:Operand:=.tmp 95
def XHW:Operand:=.tmp 96
def XNC:Operand:=.tmp 97
def XXP:Operand:=.tmp 98
def τ99:Operand:=.tmp 99
def XvZ:Operand:=.tmp 100
def Xxc:Operand:=.tmp 101
def XRf:Operand:=.tmp 102
def XRp:Operand:=.tmp 103
def XEA:Operand:=.tmp 104
def XJ5:Operand:=.tmp 105
def XJS:Operand:=.tmp 106
def XLb:Operand:=.tmp 107
def XQq:Operand:=.tmp 108
def XQV:Operand:=.tmp 109
def XNb:Operand:=.tmp 110
def Xty:Operand:=.tmp 111
def XMP:Operand:=.tmp 112
def XKx:Operand:=.tmp 113
def XKF:Operand:=.tmp 114
def XJE:Operand:=.tmp 115
def XIV:Operand:=.tmp 116
def XPx:Operand:=.tmp 117
def XKe:Operand:=.tmp 118
def XP3:Operand:=.tmp 119
def XQ8:Operand:=.tmp 120
def XEG:Operand:=.tmp 121
def XOg:Operand:=.tmp 122
def XN6:Operand:=.tmp 123
def XMJ:Operand:=.tmp 124
def XDN:Operand:=.tmp 125
def XKc:Operand:=.tmp 126
def XQ3:Operand:=.tmp 127
def XQ4:Operand:=.tmp 128
def XN9:Operand:=.tmp 129
def XIs:Operand:=.tmp 130
def XMC:Operand:=.tmp 131
def XPr:Operand:=.tmp 132
def XEk:Operand:=.tmp 133
def XOF:Operand:=.tmp 134
def XGc:Operand:=.tmp 135
def XPn:Operand:=.tmp 136
def XQl:Operand:=.tmp 137
def XRq:Operand:=.tmp 138
def XPU:Operand:=.tmp 139
def XEb:Operand:=.tmp 140
def XO7:Operand:=.tmp 141
def XAk:Operand:=.tmp 142
def XAI:Operand:=.tmp 143
def XF6:Operand:=.tmp 144
def XJX:Operand:=.tmp 145
def XQu:Operand:=.tmp 146
def XFT:Operand:=.tmp 147
def XHU:Operand:=.tmp 148
def XJD:Operand:=.tmp 149
def XLD:Operand:=.tmp 150
def XFf:Operand:=.tmp 151
def XPA:Operand:=.tmp 152
def XNI:Operand:=.tmp 153
def XDG:Operand:=.tmp 154
def XIe:Operand:=.tmp 155
def Xy7:Operand:=.tmp 156
def XPv:Operand:=.tmp 157
def XJH:Operand:=.tmp 158
def XFc:Operand:=.tmp 159
def XD4:Operand:=.tmp 160
def XBc:Operand:=.tmp 161
def τ162:Operand:=.tmp 162
def τ163:Operand:=.tmp 163
def τ164:Operand:=.tmp 164
def τ165:Operand:=.tmp 165
def τ166:Operand:=.tmp 166
def τ167:Operand:=.tmp 167
def τ168:Operand:=.tmp 168
def τ169:Operand:=.tmp 169
def τ170:Operand:=.tmp 170
def τ171:Operand:=.tmp 171
def τ172:Operand:=.tmp 172
def τ173:Operand:=.tmp 173
def τ174:Operand:=.tmp 174
def τ175:Operand:=.tmp 175
def τ176:Operand:=.tmp 176
def τ177:Operand:=.tmp 177
def τ178:Operand:=.tmp 178
def τ179:Operand:=.tmp 179
def τ180:Operand:=.tmp 180
def τ181:Operand:=.tmp 181
def τ182:Operand:=.tmp 182
def τ183:Operand:=.tmp 183
def τ184:Operand:=.tmp 184
def τ185:Operand:=.tmp 185
def τ186:Operand:=.tmp 186
def τ187:Operand:=.tmp 187
def τ188:Operand:=.tmp 188
def τ189:Operand:=.tmp 189
def τ190:Operand:=.tmp 190
def τ191:Operand:=.tmp 191
def τ192:Operand:=.tmp 192
def τ193:Operand:=.tmp 193
def τ194:Operand:=.tmp 194
def τ195:Operand:=.tmp 195
def τ196:Operand:=.tmp 196
def X5J:Operand:=.tmp 197
def τ198:Operand:=.tmp 198
def τ199:Operand:=.tmp 199
def τ200:Operand:=.tmp 200
def τ201:Operand:=.tmp 201
def τ202:Operand:=.tmp 202
def τ203:Operand:=.tmp 203
def τ204:Operand:=.tmp 204
def τ205:Operand:=.tmp 205
def τ206:Operand:=.tmp 206
def τ207:Operand:=.tmp 207
def τ208:Operand:=.tmp 208
def τ209:Operand:=.tmp 209
def τ210:Operand:=.tmp 210
def τ211:Operand:=.tmp 211
def τ212:Operand:=.tmp 212
def τ213:Operand:=.tmp 213
def τ214:Operand:=.tmp 214
def τ215:Operand:=.tmp 215
def τ216:Operand:=.tmp 216
def τ217:Operand:=.tmp 217
def τ218:Operand:=.tmp 218
def τ219:Operand:=.tmp 219
def τ220:Operand:=.tmp 220
def τ221:Operand:=.tmp 221
def τ222:Operand:=.tmp 222
def τ223:Operand:=.tmp 223
def τ224:Operand:=.tmp 224
def τ225:Operand:=.tmp 225
def τ226:Operand:=.tmp 226
def τ227:Operand:=.tmp 227
def τ228:Operand:=.tmp 228
def oD (n:Nat) (o:VOp):XbW:=⟨some n,o,none⟩
def oN (o:VOp):XbW:=⟨none,o,none⟩
def oM (n:Nat) (x:Operand):XbW:=⟨some n,.mv x,none⟩
def oG (n:Nat) (o:VOp) (j:Nat) (b:Bool):XbW:=⟨some n,o,some (j,b)⟩
def oE (n i:Nat) (x:Operand):XbW:=⟨some n,.extract i x,none⟩
def k4_0:VC:=.reg [oD 6 (.box τ1),oD 10 (.mv (.const (.bool false)))]
def k4_1:VC:=.reg [oM 33 τ0,oD 34 (.lenS XfE),oD 35 (.bin .gtr XfH (.const (.int .i64 400))),oM 36 XfG,oG 37 (.mv τ3) 36 false,oG 38 (.mv τ4) 36 false,oG 39 (.buildSl 2 1 [(.string ⟨⟨[]⟩⟩),(.string ⟨⟨[]⟩⟩)] [(0,1,Xfm),(1,1,Xgl)]) 36 false,oG 40 (.callF 19 [Xgp,(.const (.int .i64 100))]) 36 false,oG 41 (.not Xg4) 36 false,oD 42 (.pick XfF (.const (.bool true)) Xg7)]
def k4_2:VC:=.reg [oD 43 (.callF 20 []),oM 10 Xg5]
def k4_3:VC:=.seq k4_2 .ret
def k4_4:VC:=.cond Xg6 k4_3 .skip
def k4_5:VC:=.seq k4_1 k4_4
def k4_6:VC:=.reg [oM 45 τ0,oD 46 (.callF 21 [Xhw]),oM 44 XhZ,oE 47 0 Xhv,oE 48 1 Xhv,oD 11 (.alloc [(.int .i64 0),(.bool false),(.int .u64 0),(.int .u64 0),(.bool false),(.int .u64 0),(.int .u64 0),(.int .i64 0),(.int .i64 0),(.int .i64 0),(.bool false),(.int .u32 0),(.int .u32 0),(.bool false),(.string ⟨⟨[]⟩⟩),(.int .i64 0)]),oN (.store 16 Xb4 Xhu),oM 12 Xh0]
def k4_7:VC:=.reg [oM 50 τ0,oD 51 (.callF 12 [Xiq]),oM 49 Xi5,oE 52 0 Xh9,oE 53 1 Xh9,oD 13 (.alloc [(.int .i64 0),(.bool false),(.int .u64 0),(.int .u64 0),(.bool false),(.int .u64 0),(.int .u64 0),(.int .i64 0),(.int .i64 0),(.int .i64 0),(.bool false),(.int .u32 0),(.int .u32 0),(.bool false),(.string ⟨⟨[]⟩⟩),(.int .i64 0)]),oN (.store 16 XcM Xjx),oM 14 XjE]
def k4_8:VC:=.reg [oM 55 τ0,oD 56 (.callF 22 [XjT]),oM 54 XkA,oE 57 0 XjP,oE 58 1 XjP,oE 59 2 XjP,oM 15 Xj7,oM 16 Xkj,oM 17 XkB]
def k4_9:VC:=.reg [oM 61 τ0,oD 62 (.callF 17 [Xlq]),oM 60 Xl6,oE 63 0 XkV,oE 64 1 XkV,oE 65 2 XkV,oM 18 Xm0,oM 19 Xnc,oM 20 XnT]
def k4_10:VC:=.reg [oD 67 (.loadN [(.int .i64),.bool,(.int .u64),(.int .u64),.bool,(.int .u64),(.int .u64),(.int .i64),(.int .i64)] τ6),oM 68 τ2,oM 69 τ3,oM 70 τ4,oD 71 (.callF 23 [XnI,Xos,XoR,XpE]),oM 66 XpO,oE 72 0 Xnr,oE 73 1 Xnr,oM 21 Xpt,oM 22 XqX]
def k4_11:VC:=.reg [oD 75 (.loadN [(.int .i64),.bool,(.int .u64),(.int .u64),.bool,(.int .u64),(.int .u64),(.int .i64),(.int .i64)] τ6),oM 76 τ2,oM 77 τ3,oM 78 τ4,oD 79 (.callF 24 [Xsx,Xwv,Xtl,XwM]),oM 74 XAL,oE 80 0 Xr0,oE 81 1 Xr0,oM 23 XwH,oM 24 Xz4]
def k4_12:VC:=.reg [oD 83 (.loadN [(.int .i64),.bool,(.int .u64),(.int .u64),.bool,(.int .u64),(.int .u64),(.int .i64),(.int .i64)] τ6),oM 84 τ4,oD 85 (.callF 25 [XwF,XCC]),oM 82 XNQ,oE 86 0 Xya,oE 87 1 Xya,oM 25 XK0,oM 26 XI9]
def k4_13:VC:=.reg [oD 89 (.loadN [(.int .i64),.bool,(.int .u64),(.int .u64),.bool,(.int .u64),(.int .u64),(.int .i64),(.int .i64)] τ6),oM 90 τ4,oD 91 (.callF 26 [XCF,XKI]),oM 88 XPe,oE 92 0 XDa,oE 93 1 XDa,oM 27 XHu,oM 28 XJ8]
def k4_14:VC:=.reg [oD 95 (.loadN [(.int .i64),.bool,(.int .u64),(.int .u64),.bool,(.int .u64),(.int .u64),(.int .i64),(.int .i64)] τ6),oM 96 τ4,oD 97 (.callF 27 [XHH,XHW]),oM 94 XNC,oE 98 0 XCr,oE 99 1 XCr,oM 29 XXP,oM 30 τ99]
def k4_15:VC:=.reg [oD 101 (.loadN [(.int .i64),.bool,(.int .u64),(.int .u64),.bool,(.int .u64),(.int .u64),(.int .i64),(.int .i64)] τ6),oM 102 τ4,oD 103 (.callF 28 [Xxc,XRf]),oM 100 XRp,oE 104 0 XvZ,oE 105 1 XvZ,oM 31 XEA,oM 32 XJ5]
def k4_16:VC:=.reg [oD 106 (.loadN [(.int .i64),.bool,(.int .u64),(.int .u64),.bool,(.int .u64),(.int .u64),(.int .i64),(.int .i64),(.int .i64),.bool,(.int .u32),(.int .u32),.bool,.str,(.int .i64)] Xb4),oD 107 (.loadN [(.int .i64),.bool,(.int .u64),(.int .u64),.bool,(.int .u64),(.int .u64),(.int .i64),(.int .i64),(.int .i64),.bool,(.int .u32),(.int .u32),.bool,.str,(.int .i64)] XcM),oD 108 (.eqAgg false [(0,(.int .i64)),(1,.bool),(2,(.int .u64)),(3,(.int .u64)),(4,.bool),(5,(.int .u64)),(6,(.int .u64)),(7,(.int .i64)),(8,(.int .i64)),(9,(.int .i64)),(10,.bool),(11,(.int .u32)),(12,(.int .u32)),(13,.bool),(14,.str),(15,(.int .i64))] XJS XLb),oM 109 XQq,oG 110 (.mv XcH) 109 true,oG 111 (.mv Xc7) 109 true,oG 112 (.bin .eql XNb Xty) 109 true,oD 113 (.pick XQV XMP (.const (.bool false))),oM 114 XKx,oG 115 (.mv XcY) 114 true,oG 116 (.mv Xdw) 114 true,oG 117 (.bin .eql XJE XIV) 114 true,oD 118 (.pick XKF XPx (.const (.bool false))),oM 119 XKe,oG 120 (.mv Xc1) 119 true,oG 121 (.mv Xdk) 119 true,oG 122 (.bin .eql XQ8 XEG) 119 true,oD 123 (.pick XP3 XOg (.const (.bool false))),oM 124 XN6,oG 125 (.mv Xc0) 124 true,oG 126 (.mv XdE) 124 true,oG 127 (.bin .eql XDN XKc) 124 true,oD 128 (.pick XMJ XQ3 (.const (.bool false))),oM 129 XQ4,oG 130 (.mv XdX) 129 true,oG 131 (.mv Xep) 129 true,oG 132 (.bin .eql XIs XMC) 129 true,oD 133 (.pick XN9 XPr (.const (.bool false))),oM 134 XEk,oG 135 (.mv Xeh) 134 true,oG 136 (.mv Xek) 134 true,oG 137 (.bin .eql XGc XPn) 134 true,oD 138 (.pick XOF XQl (.const (.bool false))),oM 139 XRq,oG 140 (.mv XeI) 139 true,oG 141 (.mv XeH) 139 true,oG 142 (.bin .eql XEb XO7) 139 true,oD 143 (.pick XPU XAk (.const (.bool false))),oM 144 XAI,oG 145 (.mv XdY) 144 true,oG 146 (.mv XeD) 144 true,oG 147 (.bin .eql XJX XQu) 144 true,oD 148 (.pick XF6 XFT (.const (.bool false))),oM 149 XHU,oG 150 (.mv XeG) 149 true,oG 151 (.mv XeP) 149 true,oG 152 (.bin .eql XLD XFf) 149 true,oD 153 (.pick XJD XPA (.const (.bool false))),oM 154 XNI,oG 155 (.mv XeO) 154 true,oG 156 (.mv Xfj) 154 true,oG 157 (.bin .eql XIe Xy7) 154 true,oD 158 (.pick XDG XPv (.const (.bool false))),oM 159 XJH,oG 160 (.callF 20 []) 159 true,oD 161 (.pick XFc XD4 (.const (.bool false))),oM 10 XBc]
def k4_17:VC:=.seq k4_16 .ret
def k4_18:VC:=.seq k4_15 k4_17
def k4_19:VC:=.seq k4_14 k4_18
def k4_20:VC:=.seq k4_13 k4_19
def k4_21:VC:=.seq k4_12 k4_20
def k4_22:VC:=.seq k4_11 k4_21
def k4_23:VC:=.seq k4_10 k4_22
def k4_24:VC:=.seq k4_9 k4_23
def k4_25:VC:=.seq k4_8 k4_24
def k4_26:VC:=.seq k4_7 k4_25
def k4_27:VC:=.seq k4_6 k4_26
def k4_28:VC:=.seq k4_5 k4_27
def XWo:VC:=.seq k4_0 k4_28
def fn4:VFn:=⟨162,XWo,[.tmp 10]⟩
def k19_0:VC:=.reg [oD 4 (.mv (.const (.bool false)))]
def k19_1:VC:=.reg [oD 5 (.mv (.const (.int .i64 0)))]
def k19_2:VC:=.reg [oM 6 τ5,oM 7 τ0,oD 8 (.lenL τ7),oD 9 (.bin .lss τ6 τ8)]
def k19_3:VC:=.cond τ9 .skip (.exit 0)
def k19_4:VC:=.seq k19_2 k19_3
def k19_5:VC:=.reg [oM 12 τ0,oM 13 τ5,oD 14 (.idxAL 1 XcH XcM),oD 15 (.load1 .str Xc7),oD 16 (.lenS XcY),oM 17 τ1,oD 18 (.bin .gtr Xc1 Xc0)]
def k19_6:VC:=.reg [oD 4 (.mv (.const (.bool false)))]
def k19_7:VC:=.seq k19_6 .ret
def k19_8:VC:=.cond Xdw k19_7 .skip
def k19_9:VC:=.seq k19_5 k19_8
def YaA:VC:=.block 1 k19_9
def Yby:VC:=.reg [oM 10 τ5,oD 11 (.bin .add Xcj (.const (.int .i64 1))),oM 5 Xb4]
def X08:VC:=.seq YaA Yby
def Xvt:VC:=.seq k19_4 X08
def X2h:VC:=.loop Xvt
def XXS:VC:=.block 0 X2h
def YcP:VC:=.seq k19_1 XXS
def XXr:VC:=.reg [oD 4 (.mv (.const (.bool true)))]
def XCp:VC:=.seq XXr .ret
def Ybe:VC:=.seq YcP XCp
def XBT:VC:=.seq k19_0 Ybe
def fn19:VFn:=⟨19,XBT,[.tmp 4]⟩
def k20_0:VC:=.reg [oD 0 (.mv (.const (.bool false)))]
def k20_1:VC:=.reg [oD 9 (.callF 21 [(.const (.string ⟨⟨[]⟩⟩))]),oM 8 τ9,oE 10 0 τ8,oE 11 1 τ8,oD 1 (.alloc [(.int .i64 0),(.bool false),(.int .u64 0),(.int .u64 0),(.bool false),(.int .u64 0),(.int .u64 0),(.int .i64 0),(.int .i64 0),(.int .i64 0),(.bool false),(.int .u32 0),(.int .u32 0),(.bool false),(.string ⟨⟨[]⟩⟩),(.int .i64 0)]),oN (.store 16 τ1 Xcj),oM 2 Xb4]
def k20_2:VC:=.reg [oD 12 (.build [(.bool false),(.int .u64 0),(.int .u64 0)] [(2,1,(.const (.int .u64 1)))]),oD 13 (.build [(.bool false),(.int .u64 0),(.int .u64 0)] [(2,1,(.const (.int .u64 2)))]),oD 14 (.build [(.int .i64 0),(.bool false),(.int .u64 0),(.int .u64 0),(.bool false),(.int .u64 0),(.int .u64 0),(.int .i64 0),(.int .i64 0)] [(0,1,(.const (.int .i64 6))),(1,3,XcH),(4,3,XcM),(7,1,(.const (.int .i64 3))),(8,1,(.const (.int .i64 4)))]),oD 3 (.alloc [(.int .i64 0),(.bool false),(.int .u64 0),(.int .u64 0),(.bool false),(.int .u64 0),(.int .u64 0),(.int .i64 0),(.int .i64 0)]),oN (.store 9 τ3 Xc7)]
def k20_3:VC:=.reg [oD 16 (.loadN [(.int .i64),.bool,(.int .u64),(.int .u64),.bool,(.int .u64),(.int .u64),(.int .i64),(.int .i64)] τ3),oD 17 (.callF 23 [Xc1,(.const (.int .i64 2)),(.const (.string ⟨⟨[]⟩⟩)),(.const (.string ⟨⟨[104,105]⟩⟩))]),oM 15 Xc0,oE 18 0 XcY,oE 19 1 XcY,oM 4 Xdw,oM 5 Xdk]
def k20_4:VC:=.reg [oM 21 τ4,oD 22 (.callF 21 [XdX]),oM 20 Xeh,oE 23 0 XdE,oE 24 1 XdE,oD 6 (.alloc [(.int .i64 0),(.bool false),(.int .u64 0),(.int .u64 0),(.bool false),(.int .u64 0),(.int .u64 0),(.int .i64 0),(.int .i64 0),(.int .i64 0),(.bool false),(.int .u32 0),(.int .u32 0),(.bool false),(.string ⟨⟨[]⟩⟩),(.int .i64 0)]),oN (.store 16 τ6 Xep),oM 7 Xek]
def k20_5:VC:=.reg [oM 25 τ2,oD 26 (.bin .eql XeI (.const (.int .i64 2))),oM 27 XdY,oG 28 (.mv τ5) 27 true,oG 29 (.bin .eql XeD (.const (.int .i64 0))) 27 true,oD 30 (.pick XeH XeG (.const (.bool false))),oM 31 XeO,oG 32 (.mv τ4) 31 true,oG 33 (.lenS Xfj) 31 true,oG 34 (.bin .eql XfE (.const (.int .i64 42))) 31 true,oD 35 (.pick XeP XfH (.const (.bool false))),oM 36 XfG,oG 37 (.mv τ7) 36 true,oG 38 (.bin .eql Xfm (.const (.int .i64 0))) 36 true,oD 39 (.pick XfF Xgl (.const (.bool false))),oM 40 Xgp,oG 41 (.fieldA 0 τ6) 40 true,oG 42 (.loadN [(.int .i64),.bool,(.int .u64),(.int .u64),.bool,(.int .u64),(.int .u64),(.int .i64),(.int .i64)] Xg7) 40 true,oG 43 (.loadN [(.int .i64),.bool,(.int .u64),(.int .u64),.bool,(.int .u64),(.int .u64),(.int .i64),(.int .i64)] τ3) 40 true,oG 44 (.eqAgg false [(0,(.int .i64)),(1,.bool),(2,(.int .u64)),(3,(.int .u64)),(4,.bool),(5,(.int .u64)),(6,(.int .u64)),(7,(.int .i64)),(8,(.int .i64))] Xg6 Xg5) 40 true,oD 45 (.pick Xg4 Xhv (.const (.bool false))),oM 46 Xhw,oG 47 (.fieldA 9 τ6) 46 true,oG 48 (.load1 (.int .i64) Xhu) 46 true,oG 49 (.bin .eql Xh0 (.const (.int .i64 2))) 46 true,oD 50 (.pick XhZ Xh9 (.const (.bool false))),oM 0 Xiq]
def k20_6:VC:=.seq k20_5 .ret
def k20_7:VC:=.seq k20_4 k20_6
def k20_8:VC:=.seq k20_3 k20_7
def k20_9:VC:=.seq k20_2 k20_8
def X09:VC:=.seq k20_1 k20_9
def XCZ:VC:=.seq k20_0 X09
def fn20:VFn:=⟨51,XCZ,[.tmp 0]⟩
def k21_0:VC:=.reg [oD 2 (.alloc [(.int .i64 0),(.bool false),(.int .u64 0),(.int .u64 0),(.bool false),(.int .u64 0),(.int .u64 0),(.int .i64 0),(.int .i64 0),(.int .i64 0),(.bool false),(.int .u32 0),(.int .u32 0),(.bool false),(.string ⟨⟨[]⟩⟩),(.int .i64 0)]),oD 3 (.mv (.const (.int .i64 0)))]
def k21_1:VC:=.reg [oM 9 τ0,oD 10 (.callF 76 [τ9]),oM 8 Xcj,oE 11 0 τ8,oE 12 1 τ8,oE 13 2 τ8,oE 14 3 τ8,oD 4 (.alloc [(.int .i64 0),(.bool false),(.int .u64 0),(.int .u64 0),(.bool false),(.int .u64 0),(.int .u64 0),(.int .i64 0),(.int .i64 0),(.int .i64 0),(.bool false),(.int .u32 0),(.int .u32 0),(.bool false),(.string ⟨⟨[]⟩⟩),(.int .i64 0)]),oN (.store 16 τ4 Xb4),oM 5 XcH,oM 6 XcM,oM 7 Xc7]
def k21_2:VC:=.reg [oD 15 (.loadN [(.int .i64),.bool,(.int .u64),(.int .u64),.bool,(.int .u64),(.int .u64),(.int .i64),(.int .i64),(.int .i64),.bool,(.int .u32),(.int .u32),.bool,.str,(.int .i64)] τ4),oM 16 τ7,oN (.store 16 τ2 XcY),oM 3 Xc1]
def k21_3:VC:=.seq k21_2 .ret
def k21_4:VC:=.seq k21_1 k21_3
def X2V:VC:=.seq k21_0 k21_4
def fn21:VFn:=⟨17,X2V,[.cell 2 [(.int .i64),.bool,(.int .u64),(.int .u64),.bool,(.int .u64),(.int .u64),(.int .i64),(.int .i64),(.int .i64),.bool,(.int .u32),(.int .u32),.bool,.str,(.int .i64)] true,.tmp 3]⟩
def k76_0:VC:=.reg [oD 2 (.alloc [(.int .i64 0),(.bool false),(.int .u64 0),(.int .u64 0),(.bool false),(.int .u64 0),(.int .u64 0),(.int .i64 0),(.int .i64 0),(.int .i64 0),(.bool false),(.int .u32 0),(.int .u32 0),(.bool false),(.string ⟨⟨[]⟩⟩),(.int .i64 0)]),oD 3 (.mv (.const (.int .i64 0))),oD 4 (.mv (.const (.int .i64 0))),oD 5 (.mv (.const (.int .i64 0)))]
def k76_1:VC:=.reg [oM 11 τ0,oD 12 (.lenS Xb4),oD 13 (.bin .gtr XcH (.const (.int .i64 9000))),oM 10 XcM]
def k76_2:VC:=.reg [oD 14 (.build [(.int .i64 0),(.bool false),(.int .u64 0),(.int .u64 0),(.bool false),(.int .u64 0),(.int .u64 0),(.int .i64 0),(.int .i64 0),(.int .i64 0),(.bool false),(.int .u32 0),(.int .u32 0),(.bool false),(.string ⟨⟨[]⟩⟩),(.int .i64 0)] []),oN (.store 16 τ2 Xc7),oD 3 (.mv (.const (.int .i64 0))),oD 4 (.mv (.const (.int .i64 0))),oD 5 (.mv (.const (.int .i64 5)))]
def k76_3:VC:=.seq k76_2 .ret
def k76_4:VC:=.reg [oM 16 τ0,oD 17 (.bin .eql Xc1 (.const (.string ⟨⟨[]⟩⟩))),oM 15 Xc0]
def k76_5:VC:=.reg [oD 18 (.build [(.int .i64 0),(.bool false),(.int .u64 0),(.int .u64 0),(.bool false),(.int .u64 0),(.int .u64 0),(.int .i64 0),(.int .i64 0),(.int .i64 0),(.bool false),(.int .u32 0),(.int .u32 0),(.bool false),(.string ⟨⟨[]⟩⟩),(.int .i64 0)] []),oN (.store 16 τ2 Xdw),oD 3 (.mv (.const (.int .i64 0))),oD 4 (.mv (.const (.int .i64 0))),oD 5 (.mv (.const (.int .i64 2)))]
def k76_6:VC:=.seq k76_5 .ret
def k76_7:VC:=.cond XcY k76_6 .skip
def k76_8:VC:=.seq k76_4 k76_7
def k76_9:VC:=.cond Xcj k76_3 k76_8
def XXU:VC:=.seq k76_1 k76_9
def X3I:VC:=.block 0 XXU
def XWp:VC:=.reg [oM 20 τ0,oD 21 (.callF 122 [XdE]),oM 19 XdX,oE 22 0 Xdk,oE 23 1 Xdk,oD 6 (.alloc [(.bool false),(.int .u64 0),(.int .u64 0),(.bool false),(.int .u64 0),(.int .u64 0),(.int .i64 0),(.string ⟨⟨[]⟩⟩)]),oN (.store 8 τ6 Xeh),oM 7 Xep]
def X8k:VC:=.reg [oM 24 τ7,oD 25 (.bin .neq Xek (.const (.int .i64 0)))]
def XVb:VC:=.reg [oD 26 (.build [(.int .i64 0),(.bool false),(.int .u64 0),(.int .u64 0),(.bool false),(.int .u64 0),(.int .u64 0),(.int .i64 0),(.int .i64 0),(.int .i64 0),(.bool false),(.int .u32 0),(.int .u32 0),(.bool false),(.string ⟨⟨[]⟩⟩),(.int .i64 0)] []),oM 27 τ7,oN (.store 16 τ2 XdY),oD 3 (.mv (.const (.int .i64 0))),oD 4 (.mv (.const (.int .i64 0))),oM 5 XeH]
def YbB:VC:=.seq XVb .ret
def X01:VC:=.cond XeI YbB .skip
def XVI:VC:=.seq X8k X01
def Ybx:VC:=.reg [oM 28 τ0,oD 29 (.lenS XeD),oD 30 (.fieldA 6 τ6),oD 31 (.load1 (.int .i64) XeO),oD 32 (.fieldA 0 τ6),oD 33 (.loadN [.bool,(.int .u64),(.int .u64)] Xfj),oD 34 (.fieldA 3 τ6),oD 35 (.loadN [.bool,(.int .u64),(.int .u64)] XfH),oD 36 (.build [(.int .i64 0),(.bool false),(.int .u64 0),(.int .u64 0),(.bool false),(.int .u64 0),(.int .u64 0),(.int .i64 0),(.int .i64 0)] [(0,1,XeP),(1,3,XfE),(4,3,XfG)]),oD 37 (.build [(.int .i64 0),(.bool false),(.int .u64 0),(.int .u64 0),(.bool false),(.int .u64 0),(.int .u64 0),(.int .i64 0),(.int .i64 0),(.int .i64 0),(.bool false),(.int .u32 0),(.int .u32 0),(.bool false),(.string ⟨⟨[]⟩⟩),(.int .i64 0)] [(15,1,XeG),(0,9,XfF)]),oD 8 (.alloc [(.int .i64 0),(.bool false),(.int .u64 0),(.int .u64 0),(.bool false),(.int .u64 0),(.int .u64 0),(.int .i64 0),(.int .i64 0),(.int .i64 0),(.bool false),(.int .u32 0),(.int .u32 0),(.bool false),(.string ⟨⟨[]⟩⟩),(.int .i64 0)]),oN (.store 16 τ8 Xfm)]
def X34:VC:=.reg [oD 9 (.mv (.const (.int .i64 0)))]
def YcT:VC:=.reg [oD 38 (.fieldA 6 τ6),oD 39 (.load1 (.int .i64) Xgl)]
def XZF:VC:=.reg [oD 41 (.bin .eql Xgp (.const (.int .i64 6))),oM 40 Xg7]
def XUu:VC:=.reg [oD 43 (.loadN [.bool,(.int .u64),(.int .u64),.bool,(.int .u64),(.int .u64),(.int .i64),.str] τ6),oD 44 (.callF 123 [Xg5,τ8]),oM 42 Xhv,oE 45 0 Xg6,oE 46 1 Xg6,oM 9 Xhw,oM 7 XhZ]
def Ycj:VC:=.reg [oD 48 (.bin .eql Xgp (.const (.int .i64 17))),oM 47 Xh0]
def Ydi:VC:=.reg [oD 50 (.loadN [.bool,(.int .u64),(.int .u64),.bool,(.int .u64),(.int .u64),(.int .i64),.str] τ6),oD 51 (.callF 124 [Xiq,τ8]),oM 49 Xi5,oE 52 0 Xh9,oE 53 1 Xh9,oM 9 Xjx,oM 7 XjE]
def X9r:VC:=.reg [oD 7 (.mv (.const (.int .i64 6)))]
def X7w:VC:=.cond Xhu Ydi X9r
def X2U:VC:=.seq Ycj X7w
def X95:VC:=.cond Xg4 XUu X2U
def Ya5:VC:=.seq XZF X95
def X0v:VC:=.block 1 Ya5
def X16:VC:=.seq YcT X0v
def X59:VC:=.reg [oM 54 τ7,oD 55 (.bin .neq XjP (.const (.int .i64 0)))]
def XTy:VC:=.reg [oD 56 (.build [(.int .i64 0),(.bool false),(.int .u64 0),(.int .u64 0),(.bool false),(.int .u64 0),(.int .u64 0),(.int .i64 0),(.int .i64 0),(.int .i64 0),(.bool false),(.int .u32 0),(.int .u32 0),(.bool false),(.string ⟨⟨[]⟩⟩),(.int .i64 0)] []),oM 57 τ7,oN (.store 16 τ2 XkA),oD 3 (.mv (.const (.int .i64 0))),oD 4 (.mv (.const (.int .i64 0))),oM 5 Xj7]
def X4s:VC:=.seq XTy .ret
def X0n:VC:=.cond XjT X4s .skip
def XUn:VC:=.seq X59 X0n
def X5y:VC:=.regD [oD 58 (.loadN [(.int .i64),.bool,(.int .u64),(.int .u64),.bool,(.int .u64),(.int .u64),(.int .i64),(.int .i64),(.int .i64),.bool,(.int .u32),(.int .u32),.bool,.str,(.int .i64)] τ8),oD 59 (.fieldA 7 τ6),oD 60 (.load1 .str XkB),oD 61 (.lenS XkV),oM 62 τ9,oN (.store 16 τ2 Xkj),oM 3 Xlq] [(2,5)] [oM 4 Xl6,oD 5 (.mv (.const (.int .i64 0)))]
def XZv:VC:=.seq X5y .ret
def XWW:VC:=.seq XUn XZv
def Ydo:VC:=.seq X16 XWW
def XYy:VC:=.seq X34 Ydo
def XSM:VC:=.seq Ybx XYy
def X6Z:VC:=.seq XVI XSM
def XS7:VC:=.seq XWp X6Z
def X9o:VC:=.seq X3I XS7
def XCo:VC:=.seq k76_0 X9o
def fn76:VFn:=⟨63,XCo,[.cell 2 [(.int .i64),.bool,(.int .u64),(.int .u64),.bool,(.int .u64),(.int .u64),(.int .i64),(.int .i64),(.int .i64),.bool,(.int .u32),(.int .u32),.bool,.str,(.int .i64)] true,.tmp 3,.tmp 4,.tmp 5]⟩
def XYI:VC:=.reg [oD 2 (.alloc [(.bool false),(.int .u64 0),(.int .u64 0),(.bool false),(.int .u64 0),(.int .u64 0),(.int .i64 0),(.string ⟨⟨[]⟩⟩)]),oD 3 (.mv (.const (.int .i64 0)))]
def X7u:VC:=.reg [oM 10 τ0,oD 11 (.callF 172 [Xcj]),oM 9 Xb4,oE 12 0 τ9,oE 13 1 τ9,oE 14 2 τ9,oM 4 XcH,oM 5 XcM,oM 6 Xc7]
def XZs:VC:=.reg [oM 15 τ6,oD 16 (.bin .neq XcY (.const (.int .i64 0)))]
def X4A:VC:=.reg [oD 17 (.build [(.bool false),(.int .u64 0),(.int .u64 0),(.bool false),(.int .u64 0),(.int .u64 0),(.int .i64 0),(.string ⟨⟨[]⟩⟩)] []),oM 18 τ6,oN (.store 8 τ2 Xc0),oM 3 Xdw]
def X8P:VC:=.seq X4A .ret
def XSj:VC:=.cond Xc1 X8P .skip
def X8I:VC:=.seq XZs XSj
def XZg:VC:=.reg [oM 19 τ4]
def X8g:VC:=.reg [oD 20 (.tassert 135 (.agg ⟨[(.int .i64 0),(.int .i64 0),(.bool false),(.int .i64 0),(.int .i64 0),(.bool false),(.int .u64 0),(.int .u64 0),(.bool false),(.int .u64 0),(.int .u64 0),(.string ⟨⟨[]⟩⟩)]⟩) Xdk),oE 21 1 XdE,oE 22 0 XdE]
def X9f:VC:=.reg [oD 7 (.alloc [(.int .i64 0),(.int .i64 0),(.bool false),(.int .i64 0),(.int .i64 0),(.bool false),(.int .u64 0),(.int .u64 0),(.bool false),(.int .u64 0),(.int .u64 0),(.string ⟨⟨[]⟩⟩)]),oN (.store 12 τ7 Xeh)]
def XO6:VC:=.reg [oM 23 τ0,oD 24 (.lenS Xep),oD 25 (.fieldA 11 τ7),oD 26 (.load1 .str XeI),oD 27 (.lenS XdY),oD 28 (.bin .add (.const (.int .i64 20)) XeH),oM 29 τ5,oD 30 (.lenS XeG),oD 31 (.bin .add XeD XeO),oD 32 (.bin .neq Xek XeP)]
def XEj:VC:=.reg [oD 33 (.build [(.bool false),(.int .u64 0),(.int .u64 0),(.bool false),(.int .u64 0),(.int .u64 0),(.int .i64 0),(.string ⟨⟨[]⟩⟩)] []),oN (.store 8 τ2 XfE),oD 3 (.mv (.const (.int .i64 5)))]
def XFi:VC:=.seq XEj .ret
def XFK:VC:=.cond Xfj XFi .skip
def XHr:VC:=.seq XO6 XFK
def XM3:VC:=.reg [oD 34 (.fieldA 5 τ7),oD 35 (.loadN [.bool,(.int .u64),(.int .u64)] XfH),oD 36 (.fieldA 8 τ7),oD 37 (.loadN [.bool,(.int .u64),(.int .u64)] XfF),oD 38 (.fieldA 4 τ7),oD 39 (.load1 (.int .i64) Xgl),oM 40 τ5,oD 41 (.build [(.bool false),(.int .u64 0),(.int .u64 0),(.bool false),(.int .u64 0),(.int .u64 0),(.int .i64 0),(.string ⟨⟨[]⟩⟩)] [(0,3,XfG),(3,3,Xfm),(6,1,Xgp),(7,1,Xg4)]),oN (.store 8 τ2 Xg7),oD 3 (.mv (.const (.int .i64 0)))]
def XFw:VC:=.seq XM3 .ret
def XPh:VC:=.seq XHr XFw
def XRe:VC:=.seq X9f XPh
def XHX:VC:=.reg [oD 42 (.tassert 132 (.agg ⟨[(.int .i64 0),(.int .i64 0),(.int .i64 0),(.int .i64 0),(.bool false),(.int .u64 0),(.int .u64 0),(.bool false),(.int .u64 0),(.int .u64 0)]⟩) Xdk),oE 43 1 Xg6,oE 44 0 Xg6]
def XGx:VC:=.reg [oD 8 (.alloc [(.int .i64 0),(.int .i64 0),(.int .i64 0),(.int .i64 0),(.bool false),(.int .u64 0),(.int .u64 0),(.bool false),(.int .u64 0),(.int .u64 0)]),oN (.store 10 τ8 Xhv)]
def XNS:VC:=.reg [oM 45 τ0,oD 46 (.lenS Xhw),oM 47 τ5,oD 48 (.lenS Xhu),oD 49 (.bin .add (.const (.int .i64 40)) Xh0),oD 50 (.bin .neq XhZ Xh9)]
def XPG:VC:=.reg [oD 51 (.build [(.bool false),(.int .u64 0),(.int .u64 0),(.bool false),(.int .u64 0),(.int .u64 0),(.int .i64 0),(.string ⟨⟨[]⟩⟩)] []),oN (.store 8 τ2 Xi5),oD 3 (.mv (.const (.int .i64 5)))]
def XOz:VC:=.seq XPG .ret
def XQo:VC:=.cond Xiq XOz .skip
def XNy:VC:=.seq XNS XQo
def XO5:VC:=.reg [oD 52 (.fieldA 4 τ8),oD 53 (.loadN [.bool,(.int .u64),(.int .u64)] Xjx),oD 54 (.fieldA 7 τ8),oD 55 (.loadN [.bool,(.int .u64),(.int .u64)] XjP),oD 56 (.fieldA 2 τ8),oD 57 (.load1 (.int .i64) XkA),oM 58 τ5,oD 59 (.build [(.bool false),(.int .u64 0),(.int .u64 0),(.bool false),(.int .u64 0),(.int .u64 0),(.int .i64 0),(.string ⟨⟨[]⟩⟩)] [(0,3,XjE),(3,3,XjT),(6,1,Xj7),(7,1,Xkj)]),oN (.store 8 τ2 XkB),oD 3 (.mv (.const (.int .i64 0)))]
def XNB:VC:=.seq XO5 .ret
def XFv:VC:=.seq XNy XNB
def XDJ:VC:=.seq XGx XFv
def XRv:VC:=.cond Xg5 XDJ .skip
def XLS:VC:=.seq XHX XRv
def XNN:VC:=.cond XdX XRe XLS
def XJz:VC:=.seq X8g XNN
def XEU:VC:=.block 0 XJz
def XPz:VC:=.seq XZg XEU
def XQG:VC:=.reg [oD 60 (.build [(.bool false),(.int .u64 0),(.int .u64 0),(.bool false),(.int .u64 0),(.int .u64 0),(.int .i64 0),(.string ⟨⟨[]⟩⟩)] []),oN (.store 8 τ2 XkV),oD 3 (.mv (.const (.int .i64 3)))]
def XK6:VC:=.seq XQG .ret
def XD9:VC:=.seq XPz XK6
def XI7:VC:=.seq X8I XD9
def XD0:VC:=.seq X7u XI7
def Xvz:VC:=.seq XYI XD0
def XVv:VFn:=⟨61,Xvz,[.cell 2 [.bool,(.int .u64),(.int .u64),.bool,(.int .u64),(.int .u64),(.int .i64),.str] true,.tmp 3]⟩
def XSy:VC:=.reg [oM 2 (.const .nilIface),oD 3 (.mv (.const (.string ⟨⟨[]⟩⟩))),oD 4 (.mv (.const (.int .i64 0)))]
def XXg:VC:=.reg [oM 11 τ0,oD 12 (.idxS Xb4 (.const (.int .i64 0))),oD 13 (.bin .shr XcH (.const (.int .u64 4)))]
def X9M:VC:=.reg [oD 15 (.bin .eql XcM (.const (.int .u8 4))),oM 14 XcY]
def X9j:VC:=.reg [oM 17 τ0,oD 18 (.callF 200 [Xc0]),oM 16 Xdw,oE 19 0 Xc1,oE 20 1 Xc1,oE 21 2 Xc1,oD 5 (.alloc [(.int .i64 0),(.int .i64 0),(.bool false),(.int .i64 0),(.int .i64 0),(.bool false),(.int .u64 0),(.int .u64 0),(.bool false),(.int .u64 0),(.int .u64 0),(.string ⟨⟨[]⟩⟩)]),oN (.store 12 τ5 Xdk),oM 6 XdE,oM 7 XdX]
def Ydq:VC:=.reg [oD 22 (.loadN [(.int .i64),(.int .i64),.bool,(.int .i64),(.int .i64),.bool,(.int .u64),(.int .u64),.bool,(.int .u64),(.int .u64),.str] τ5),oD 23 (.iface 135 Xeh),oM 24 τ6,oM 25 τ7,oM 2 Xep,oM 3 Xek,oM 4 XeI]
def XUV:VC:=.seq Ydq .ret
def XXt:VC:=.seq X9j XUV
def XWt:VC:=.reg [oD 27 (.bin .eql XcM (.const (.int .u8 6))),oM 26 XeH]
def X6S:VC:=.reg [oM 29 τ0,oD 30 (.callF 201 [XeG]),oM 28 XeO,oE 31 0 XeD,oE 32 1 XeD,oE 33 2 XeD,oD 8 (.alloc [(.int .i64 0),(.int .i64 0),(.int .i64 0),(.int .i64 0),(.bool false),(.int .u64 0),(.int .u64 0),(.bool false),(.int .u64 0),(.int .u64 0)]),oN (.store 10 τ8 XeP),oM 9 Xfj,oM 10 XfE]
def XT9:VC:=.reg [oD 34 (.loadN [(.int .i64),(.int .i64),(.int .i64),(.int .i64),.bool,(.int .u64),(.int .u64),.bool,(.int .u64),(.int .u64)] τ8),oD 35 (.iface 132 XfH),oM 36 τ9,oM 37 Xcj,oM 2 XfG,oM 3 XfF,oM 4 Xfm]
def XRD:VC:=.seq XT9 .ret
def XP5:VC:=.seq X6S XRD
def XLr:VC:=.cond XdY XP5 .skip
def XOL:VC:=.seq XWt XLr
def XI5:VC:=.cond Xc7 XXt XOL
def XFU:VC:=.seq X9M XI5
def XGZ:VC:=.block 0 XFU
def XJ1:VC:=.seq XXg XGZ
def XLv:VC:=.reg [oM 2 (.const .nilIface),oD 3 (.mv (.const (.string ⟨⟨[]⟩⟩))),oD 4 (.mv (.const (.int .i64 3)))]
def XMo:VC:=.seq XLv .ret
def XN8:VC:=.seq XJ1 XMo
def XRK:VC:=.seq XSy XN8
def Yb5:VFn:=⟨38,XRK,[.tmp 2,.tmp 3,.tmp 4]⟩
def YcG:VC:=.reg [oD 2 (.alloc [(.int .i64 0),(.int .i64 0),(.bool false),(.int .i64 0),(.int .i64 0),(.bool false),(.int .u64 0),(.int .u64 0),(.bool false),(.int .u64 0),(.int .u64 0),(.string ⟨⟨[]⟩⟩)]),oD 3 (.mv (.const (.string ⟨⟨[]⟩⟩))),oD 4 (.mv (.const (.int .i64 0)))]
def XTP:VC:=.reg [oM 11 τ0,oD 12 (.lenS Xb4),oD 13 (.bin .lss XcH (.const (.int .i64 20)))]
def XVL:VC:=.reg [oD 14 (.build [(.int .i64 0),(.int .i64 0),(.bool false),(.int .i64 0),(.int .i64 0),(.bool false),(.int .u64 0),(.int .u64 0),(.bool false),(.int .u64 0),(.int .u64 0),(.string ⟨⟨[]⟩⟩)] []),oN (.store 12 τ2 Xc7),oD 3 (.mv (.const (.string ⟨⟨[]⟩⟩))),oD 4 (.mv (.const (.int .i64 2)))]
def X2w:VC:=.seq XVL .ret
def X46:VC:=.cond XcM X2w .skip
def Yb3:VC:=.seq XTP X46
def X98:VC:=.reg [oM 15 τ0,oD 16 (.callF 112 [XcY]),oD 17 (.build [(.pointer none)] [(0,1,Xc1)]),oD 5 (.alloc [(.pointer none)]),oN (.store 1 τ5 Xc0)]
def XUa:VC:=.reg [oD 18 (.fieldA 0 τ5),oD 19 (.load1 .oth Xdw),oD 20 (.callF 113 [Xdk,(.const (.int .i64 1))]),oM 6 XdE]
def X1r:VC:=.reg [oD 21 (.fieldA 0 τ5),oD 22 (.load1 .oth XdX),oD 23 (.callF 113 [Xeh,(.const (.int .i64 1))]),oD 24 (.build [(.int .i64 0),(.int .i64 0),(.bool false),(.int .i64 0),(.int .i64 0),(.bool false),(.int .u64 0),(.int .u64 0),(.bool false),(.int .u64 0),(.int .u64 0),(.string ⟨⟨[]⟩⟩)] [(0,1,Xep)]),oD 7 (.alloc [(.int .i64 0),(.int .i64 0),(.bool false),(.int .i64 0),(.int .i64 0),(.bool false),(.int .u64 0),(.int .u64 0),(.bool false),(.int .u64 0),(.int .u64 0),(.string ⟨⟨[]⟩⟩)]),oN (.store 12 τ7 Xek)]
def X7v:VC:=.reg [oM 25 τ6,oD 26 (.bin .and XeI (.const (.int .i64 15))),oD 27 (.bin .mul XdY (.const (.int .i64 4))),oD 28 (.fieldA 0 τ5),oD 29 (.load1 .oth XeD),oD 30 (.callF 113 [XeG,(.const (.int .i64 2))]),oM 8 XeH,oM 9 XeO]
def XNL:VC:=.reg [oM 32 τ6,oD 33 (.bin .shr Xfj (.const (.int .u64 4))),oD 34 (.bin .neq XfE (.const (.int .i64 4))),oM 35 XfH,oG 36 (.mv τ8) 35 false,oG 37 (.bin .lss XfF (.const (.int .i64 20))) 35 false,oD 38 (.pick XfG (.const (.bool true)) Xfm),oM 39 Xgl,oG 40 (.mv τ9) 39 false,oG 41 (.mv τ8) 39 false,oG 42 (.bin .lss Xg4 Xg7) 39 false,oD 43 (.pick Xgp (.const (.bool true)) Xg6),oM 31 Xg5]
def XLK:VC:=.reg [oD 44 (.build [(.int .i64 0),(.int .i64 0),(.bool false),(.int .i64 0),(.int .i64 0),(.bool false),(.int .u64 0),(.int .u64 0),(.bool false),(.int .u64 0),(.int .u64 0),(.string ⟨⟨[]⟩⟩)] []),oN (.store 12 τ2 Xhv),oD 3 (.mv (.const (.string ⟨⟨[]⟩⟩))),oD 4 (.mv (.const (.int .i64 3)))]
def XLl:VC:=.seq XLK .ret
def XIt:VC:=.reg [oM 46 τ9,oM 47 τ0,oD 48 (.lenS Xhu),oD 49 (.bin .gtr XhZ Xh0),oM 45 Xh9]
def XGi:VC:=.reg [oD 50 (.build [(.int .i64 0),(.int .i64 0),(.bool false),(.int .i64 0),(.int .i64 0),(.bool false),(.int .u64 0),(.int .u64 0),(.bool false),(.int .u64 0),(.int .u64 0),(.string ⟨⟨[]⟩⟩)] []),oN (.store 12 τ2 Xiq),oD 3 (.mv (.const (.string ⟨⟨[]⟩⟩))),oD 4 (.mv (.const (.int .i64 2)))]
def XIC:VC:=.seq XGi .ret
def XFg:VC:=.reg [oM 52 τ0,oM 53 τ8,oD 54 (.sliceS Xjx none (some XjE)),oD 55 (.callF 146 [XjP]),oD 56 (.not XjT),oM 51 XkA]
def XHh:VC:=.reg [oD 57 (.build [(.int .i64 0),(.int .i64 0),(.bool false),(.int .i64 0),(.int .i64 0),(.bool false),(.int .u64 0),(.int .u64 0),(.bool false),(.int .u64 0),(.int .u64 0),(.string ⟨⟨[]⟩⟩)] []),oN (.store 12 τ2 Xj7),oD 3 (.mv (.const (.string ⟨⟨[]⟩⟩))),oD 4 (.mv (.const (.int .i64 4)))]
def XDA:VC:=.seq XHh .ret
def XHt:VC:=.cond Xi5 XDA .skip
def XNW:VC:=.seq XFg XHt
def XEQ:VC:=.cond Xhw XIC XNW
def XK8:VC:=.seq XIt XEQ
def XJZ:VC:=.cond XeP XLl XK8
def XES:VC:=.seq XNL XJZ
def XQC:VC:=.block 0 XES
def XKh:VC:=.reg [oD 58 (.fieldA 0 τ5),oD 59 (.load1 .oth Xkj),oD 60 (.callF 113 [XkB,(.const (.int .i64 2))]),oD 61 (.fieldA 1 τ7),oN (.store 1 Xlq XkV)]
def XJB:VC:=.reg [oD 62 (.fieldA 0 τ5),oD 63 (.load1 .oth Xl6),oD 64 (.callF 113 [Xm0,(.const (.int .i64 2))]),oM 10 Xnc]
def XGu:VC:=.reg [oM 65 Xcj,oD 66 (.bin .andNot XnT (.const (.int .i64 16384))),oD 67 (.bin .neq Xnr (.const (.int .i64 0)))]
def XFa:VC:=.reg [oD 68 (.build [(.int .i64 0),(.int .i64 0),(.bool false),(.int .i64 0),(.int .i64 0),(.bool false),(.int .u64 0),(.int .u64 0),(.bool false),(.int .u64 0),(.int .u64 0),(.string ⟨⟨[]⟩⟩)] []),oN (.store 12 τ2 Xos),oD 3 (.mv (.const (.string ⟨⟨[]⟩⟩))),oD 4 (.mv (.const (.int .i64 7)))]
def XOM:VC:=.seq XFa .ret
def XL9:VC:=.cond XnI XOM .skip
def XQI:VC:=.seq XGu XL9
def XN5:VC:=.reg [oM 69 Xcj,oD 70 (.bin .neq XoR (.const (.int .i64 0))),oD 71 (.fieldA 2 τ7),oN (.store 1 XpO XpE)]
def XRy:VC:=.regD [oD 72 (.fieldA 0 τ5),oD 73 (.load1 .oth Xpt),oD 74 (.callF 113 [XqX,(.const (.int .i64 1))]),oD 75 (.fieldA 0 τ5),oD 76 (.load1 .oth Xsx),oD 77 (.callF 113 [Xwv,(.const (.int .i64 1))]),oD 78 (.fieldA 3 τ7)] [(2,4)] [oN (.store 1 XwM Xr0),oD 79 (.fieldA 4 τ7),oN (.store 1 XAL Xtl)]
def XOl:VC:=.reg [oD 80 (.fieldA 0 τ5),oD 81 (.load1 .oth XwH),oD 82 (.callF 113 [Xz4,(.const (.int .i64 2))])]
def XEN:VC:=.regD [oD 83 (.loadN [.oth] τ5),oD 84 (.callF 209 [XwF]),oD 85 (.loadN [.oth] τ5),oD 86 (.callF 209 [XNQ]),oD 87 (.fieldA 5 τ7)] [(1,2)] [oN (.store 3 XI9 XCC),oD 88 (.fieldA 8 τ7),oN (.store 3 XDa XK0)]
def XG6:VC:=.reg [oD 89 (.fieldA 0 τ5),oD 90 (.load1 .oth XCF),oM 91 τ8,oD 92 (.bin .sub XPe (.const (.int .i64 20))),oD 93 (.callF 115 [XKI,XHu]),oD 94 (.fieldA 11 τ7),oN (.store 1 XCr XJ8)]
def XFn:VC:=.regD [oD 95 (.loadN [(.int .i64),(.int .i64),.bool,(.int .i64),(.int .i64),.bool,(.int .u64),(.int .u64),.bool,(.int .u64),(.int .u64),.str] τ7),oD 96 (.fieldA 0 τ5),oD 97 (.load1 .oth XHW),oM 98 τ9,oM 99 τ8,oD 100 (.bin .sub XXP τ99),oD 101 (.callF 115 [XNC,XvZ])] [(0,6)] [oN (.store 12 τ2 XHH),oM 3 Xxc,oD 4 (.mv (.const (.int .i64 0)))]
def XPw:VC:=.seq XFn .ret
def XRm:VC:=.seq XG6 XPw
def XHA:VC:=.seq XEN XRm
def XQn:VC:=.seq XOl XHA
def XQk:VC:=.seq XRy XQn
def XJJ:VC:=.seq XN5 XQk
def XOy:VC:=.seq XQI XJJ
def XQw:VC:=.seq XJB XOy
def XKa:VC:=.seq XKh XQw
def XMF:VC:=.seq XQC XKa
def XIp:VC:=.seq X7v XMF
def XHf:VC:=.seq X1r XIp
def XKA:VC:=.seq XUa XHf
def XD2:VC:=.seq X98 XKA
def XE0:VC:=.seq Yb3 XD2
def Xvf:VC:=.seq YcG XE0
def X5t:VFn:=⟨102,Xvf,[.cell 2 [(.int .i64),(.int .i64),.bool,(.int .i64),(.int .i64),.bool,(.int .u64),(.int .u64),.bool,(.int .u64),(.int .u64),.str] true,.tmp 3,.tmp 4]⟩
def XZj:VC:=.reg [oD 2 (.mv (.const (.pointer none)))]
def X2B:VC:=.reg [oM 3 τ0,oD 4 (.build [(.string ⟨⟨[]⟩⟩),(.bool false),(.bool false)] [(0,1,τ3),(1,1,(.const (.bool true)))]),oD 5 (.box τ4),oM 2 τ5]
def X18:VC:=.seq X2B .ret
def XBi:VC:=.seq XZj X18
def X3R:VFn:=⟨6,XBi,[.tmp 2]⟩
def Yce:VC:=.reg [oD 4 (.mv (.const (.int .i64 0)))]
def XY6:VC:=.reg [oM 7 τ1,oD 8 (.bin .lss τ7 (.const (.int .i64 1))),oM 9 τ8,oG 10 (.mv τ1) 9 false,oG 11 (.bin .gtr Xcj (.const (.int .i64 7))) 9 false,oD 12 (.pick τ9 (.const (.bool true)) Xb4)]
def YcA:VC:=.reg [oD 1 (.mv (.const (.int .i64 (-1))))]
def XVy:VC:=.cond XcH YcA .skip
def X9i:VC:=.seq XY6 XVy
def XSr:VC:=.reg [oM 14 τ0,oM 15 τ1,oD 16 (.callF 115 [Xc7,XcY]),oM 17 τ1,oD 18 (.callF 70 [Xc1,(.const (.int .i64 0)),Xc0]),oM 13 Xdw,oE 19 0 XcM,oE 20 1 XcM,oM 5 Xdk,oM 6 XdE]
def YbT:VC:=.reg [oM 21 τ5,oD 22 (.conv .i64 XdX),oM 4 Xeh]
def X5O:VC:=.seq YbT .ret
def XTL:VC:=.seq XSr X5O
def X82:VC:=.seq X9i XTL
def XuZ:VC:=.seq Yce X82
def X1k:VFn:=⟨23,XuZ,[.tmp 4]⟩
def XWT:VC:=.reg [oD 4 (.mv (.const (.string ⟨⟨[]⟩⟩)))]
def X9l:VC:=.reg [oM 6 τ0,oD 7 (.callF 114 [τ6])]
def X1a:VC:=.reg [oD 4 (.mv (.const (.string ⟨⟨[]⟩⟩)))]
def XYS:VC:=.seq X1a .ret
def X5e:VC:=.cond τ7 XYS .skip
def XSi:VC:=.seq X9l X5e
def XXw:VC:=.reg [oM 8 τ1,oD 9 (.bin .lss τ8 (.const (.int .i64 0))),oM 10 τ9,oG 11 (.mv τ1) 10 false,oG 12 (.mv τ0) 10 false,oG 13 (.nilCheck XcH) 10 false,oG 14 (.fieldA 0 XcM) 10 false,oG 15 (.load1 .str Xc7) 10 false,oG 16 (.lenS XcY) 10 false,oG 17 (.bin .gtr Xb4 Xc1) 10 false,oD 18 (.pick Xcj (.const (.bool true)) Xc0)]
def X2e:VC:=.reg [oM 19 τ0,oD 20 (.nilCheck Xdk),oD 21 (.fieldA 2 XdE),oN (.store 1 XdX (.const (.bool true)))]
def XYL:VC:=.reg [oD 4 (.mv (.const (.string ⟨⟨[]⟩⟩)))]
def Ycw:VC:=.seq XYL .ret
def XPC:VC:=.seq X2e Ycw
def XKR:VC:=.cond Xdw XPC .skip
def XGO:VC:=.seq XXw XKR
def XKy:VC:=.reg [oM 22 τ0,oD 23 (.nilCheck Xeh),oD 24 (.fieldA 0 Xep),oD 25 (.load1 .str Xek),oM 26 τ1,oD 27 (.sliceS XeI none (some XdY)),oM 5 XeH]
def XPE:VC:=.reg [oM 28 τ0,oM 29 τ0,oD 30 (.nilCheck XeG),oD 31 (.fieldA 0 XeO),oD 32 (.load1 .str XeP),oM 33 τ1,oD 34 (.sliceS Xfj (some XfE) none),oD 35 (.nilCheck XeD),oD 36 (.fieldA 0 XfG),oN (.store 1 XfF XfH)]
def XJd:VC:=.reg [oM 37 τ5,oM 4 Xfm]
def XIG:VC:=.seq XJd .ret
def XLU:VC:=.seq XPE XIG
def XNm:VC:=.seq XKy XLU
def XJR:VC:=.seq XGO XNm
def XKL:VC:=.seq XSi XJR
def XsR:VC:=.seq XWT XKL
def X5a:VFn:=⟨38,XsR,[.tmp 4]⟩
def X1Q:VC:=.reg [oD 2 (.mv (.const (.bool false)))]
def X2O:VC:=.reg [oM 3 τ0,oD 4 (.isNil 0 false τ3),oM 5 τ4,oG 6 (.mv τ0) 5 false,oG 7 (.nilCheck τ6) 5 false,oG 8 (.fieldA 1 τ7) 5 false,oG 9 (.load1 .bool τ8) 5 false,oG 10 (.not τ9) 5 false,oD 11 (.pick τ5 (.const (.bool true)) Xcj),oM 12 Xb4,oG 13 (.mv τ0) 12 false,oG 14 (.nilCheck XcM) 12 false,oG 15 (.fieldA 2 Xc7) 12 false,oG 16 (.load1 .bool XcY) 12 false,oD 17 (.pick XcH (.const (.bool true)) Xc1),oM 2 Xc0]
def X69:VC:=.seq X2O .ret
def XBX:VC:=.seq X1Q X69
def X3a:VFn:=⟨18,XBX,[.tmp 2]⟩
def k70_0:VC:=.reg [oD 6 (.mv (.const (.int .u64 0))),oD 7 (.mv (.const (.bool false)))]
def k70_1:VC:=.reg [oM 11 τ2,oD 12 (.bin .lss Xb4 (.const (.int .i64 1))),oM 13 XcH,oG 14 (.mv τ2) 13 false,oG 15 (.bin .gtr Xc7 (.const (.int .i64 8))) 13 false,oD 16 (.pick XcM (.const (.bool true)) XcY),oM 17 Xc1,oG 18 (.mv τ1) 17 false,oG 19 (.bin .lss Xdw (.const (.int .i64 0))) 17 false,oD 20 (.pick Xc0 (.const (.bool true)) Xdk),oM 21 XdE,oG 22 (.mv τ0) 21 false,oG 23 (.lenS Xeh) 21 false,oG 24 (.mv τ2) 21 false,oG 25 (.bin .sub Xep Xek) 21 false,oG 26 (.mv τ1) 21 false,oG 27 (.bin .lss XeI XdY) 21 false,oD 28 (.pick XdX (.const (.bool true)) XeH)]
def k70_2:VC:=.reg [oD 6 (.mv (.const (.int .u64 0))),oD 7 (.mv (.const (.bool false)))]
def k70_3:VC:=.seq k70_2 .ret
def k70_4:VC:=.cond XeD k70_3 .skip
def k70_5:VC:=.seq k70_1 k70_4
def k70_6:VC:=.reg [oD 8 (.mv (.const (.int .u64 0)))]
def k70_7:VC:=.reg [oM 29 τ0,oM 30 τ1,oM 31 τ1,oM 32 τ2,oD 33 (.bin .add XeP Xfj),oD 34 (.sliceS XeG (some XeO) (some XfE)),oD 35 (.s2b XfH),oD 36 (.lenL XfG),oD 37 (.mv (.const (.int .i64 0)))]
def k70_8:VC:=.reg [oD 38 (.bin .lss Xfm XfF)]
def k70_9:VC:=.cond Xgl .skip (.exit 0)
def X5D:VC:=.reg [oD 39 (.idxAL 1 XfG Xfm),oD 40 (.load1 (.int .u8) Xgp),oM 10 Xg4]
def X8B:VC:=.reg [oM 41 τ8,oD 42 (.bin .shl Xg7 (.const (.int .u64 8))),oM 43 Xcj,oD 44 (.conv .u64 Xg5),oD 45 (.bin .or Xg6 Xhv),oM 8 Xhw]
def XYv:VC:=.seq X5D X8B
def X5n:VC:=.block 1 XYv
def X7D:VC:=.reg [oD 46 (.bin .add Xfm (.const (.int .i64 1))),oM 37 XhZ]
def XVq:VC:=.seq X5n X7D
def XU3:VC:=.seq k70_9 XVq
def Xu2:VC:=.seq k70_8 XU3
def Ybh:VC:=.loop Xu2
def XU4:VC:=.block 0 Ybh
def Ydw:VC:=.seq k70_7 XU4
def X4w:VC:=.reg [oM 47 τ8,oM 6 Xhu,oD 7 (.mv (.const (.bool true)))]
def XCm:VC:=.seq X4w .ret
def XYc:VC:=.seq Ydw XCm
def X6D:VC:=.seq k70_6 XYc
def X47:VC:=.seq k70_5 X6D
def XBg:VC:=.seq k70_0 X47
def fn70:VFn:=⟨48,XBg,[.tmp 6,.tmp 7]⟩
def Ya1:VC:=.reg [oD 2 (.mv (.const (.bool false)))]
def XSU:VC:=.reg [oM 3 τ0,oD 4 (.callF 176 [τ3]),oD 5 (.bin .eql τ4 (.const (.int .i64 65535))),oM 2 τ5]
def YbN:VC:=.seq XSU .ret
def XBo:VC:=.seq Ya1 YbN
def X0l:VFn:=⟨6,XBo,[.tmp 2]⟩
def YcO:VC:=.reg [oD 2 (.mv (.const (.int .i64 0)))]
def XVB:VC:=.reg [oD 3 (.alloc [(.int .i64 0)]),oN (.store 1 τ3 (.const (.int .i64 0)))]
def X4x:VC:=.reg [oM 5 τ0,oD 6 (.callF 170 [τ5])]
def XCy:VC:=.reg [oM 4 τ7]
def Ya8:VC:=.reg [oD 8 (.load1 (.int .i64) τ3),oM 9 τ4,oD 10 (.bin .add τ8 τ9),oD 11 (.callF 199 [Xcj]),oN (.store 1 τ3 Xb4)]
def XCs:VC:=.block 1 Ya8
def XY7:VC:=.rangeF τ6 [7] XCy XCs
def X9K:VC:=.block 0 XY7
def X0K:VC:=.seq X4x X9K
def Yda:VC:=.reg [oD 12 (.load1 (.int .i64) τ3),oM 2 XcH]
def XvP:VC:=.seq Yda .ret
def XMp:VC:=.seq X0K XvP
def XDF:VC:=.seq XVB XMp
def XuL:VC:=.seq YcO XDF
def X9s:VFn:=⟨13,XuL,[.tmp 2]⟩
def X15:VC:=.reg [oD 1 (.box τ0),oM 2 (.const .nilFunc)]
def XYj:VC:=.reg [oD 3 (.mkFunc 197 [] [τ1]),oM 2 τ3]
def XTB:VC:=.seq XYj .ret
def XS2:VC:=.seq X15 XTB
def XVP:VFn:=⟨4,XS2,[.tmp 2]⟩
def XZO:VC:=.reg [oD 3 (.mv (.const (.int .i64 0)))]
def X4r:VC:=.reg [oM 5 τ3,oD 6 (.load1 .str τ1),oD 7 (.lenS τ6),oD 8 (.bin .lss τ5 τ7)]
def X7P:VC:=.cond τ8 .skip (.exit 0)
def XVw:VC:=.seq X4r X7P
def Ybs:VC:=.reg [oD 11 (.load1 .str τ1),oM 12 τ3,oD 13 (.idxS Xb4 XcH),oD 14 (.conv .i64 XcM),oD 15 (.bin .shl Xc7 (.const (.int .u64 8))),oM 4 XcY]
def XZD:VC:=.reg [oM 16 τ3,oD 17 (.bin .add Xc1 (.const (.int .i64 1))),oD 18 (.load1 .str τ1),oD 19 (.lenS Xdw),oD 20 (.bin .lss Xc0 Xdk)]
def X3v:VC:=.reg [oM 21 τ4,oD 22 (.load1 .str τ1),oM 23 τ3,oD 24 (.bin .add Xep (.const (.int .i64 1))),oD 25 (.idxS Xeh Xek),oD 26 (.conv .i64 XeI),oD 27 (.bin .or XdX XdY),oM 4 XeH]
def X2L:VC:=.cond XdE X3v .skip
def XZi:VC:=.seq XZD X2L
def X0x:VC:=.reg [oM 28 τ0,oM 29 τ4,oD 30 (.callV XeD [XeG]),oD 31 (.not XeO)]
def XGY:VC:=.cond XeP .ret .skip
def XKg:VC:=.seq X0x XGY
def XHo:VC:=.seq XZi XKg
def XG9:VC:=.seq Ybs XHo
def XGF:VC:=.block 1 XG9
def XML:VC:=.reg [oM 9 τ3,oD 10 (.bin .add τ9 (.const (.int .i64 2))),oM 3 Xcj]
def XIA:VC:=.seq XGF XML
def Xqr:VC:=.seq XVw XIA
def XRl:VC:=.loop Xqr
def XFF:VC:=.block 0 XRl
def XKw:VC:=.seq XZO XFF
def X3c:VFn:=⟨32,XKw,[]⟩
def XZH:VC:=.reg [oD 2 (.mv (.const (.int .i64 0)))]
def X8C:VC:=.reg [oM 3 τ0,oD 4 (.bin .gtr τ3 (.const (.int .i64 65535)))]
def X9p:VC:=.cond τ4 .skip (.exit 0)
def X56:VC:=.seq X8C X9p
def XZB:VC:=.reg [oM 5 τ0,oD 6 (.bin .and τ5 (.const (.int .i64 65535))),oM 7 τ0,oD 8 (.bin .shr τ7 (.const (.int .u64 16))),oD 9 (.bin .add τ6 τ8),oM 0 τ9]
def X83:VC:=.block 1 XZB
def XtB:VC:=.seq X56 X83
def Yds:VC:=.loop XtB
def X8V:VC:=.block 0 Yds
def X5l:VC:=.reg [oM 10 τ0,oM 2 Xcj]
def XsW:VC:=.seq X5l .ret
def XQN:VC:=.seq X8V XsW
def Xvg:VC:=.seq XZH XQN
def X7b:VFn:=⟨11,Xvg,[.tmp 2]⟩
def XTI:VC:=.reg [oD 1 (.box τ0),oD 2 (.alloc [(.bool false),(.int .u64 0),(.int .u64 0)])]
def XTM:VC:=.reg [oD 6 (.fieldA 0 τ1),oD 7 (.load1 .oth τ6),oD 8 (.callF 115 [τ7,(.const (.int .i64 4))]),oD 9 (.callF 210 [τ8]),oM 5 τ9,oE 10 0 τ5,oE 11 1 τ5,oD 3 (.alloc [(.bool false),(.int .u64 0),(.int .u64 0)]),oN (.store 3 τ3 Xcj),oM 4 Xb4]
def XV9:VC:=.reg [oD 12 (.loadN [.bool,(.int .u64),(.int .u64)] τ3),oN (.store 3 τ2 XcH)]
def X3B:VC:=.seq XV9 .ret
def X1L:VC:=.seq XTM X3B
def XBJ:VC:=.seq XTI X1L
def XSO:VFn:=⟨13,XBJ,[.cell 2 [.bool,(.int .u64),(.int .u64)] true]⟩
def X4K:VC:=.reg [oD 2 (.alloc [(.bool false),(.int .u64 0),(.int .u64 0)]),oD 3 (.mv (.const (.bool false)))]
def XS8:VC:=.reg [oM 7 τ0,oD 8 (.lenS τ7)]
def XS3:VC:=.reg [oD 10 (.bin .eql τ8 (.const (.int .i64 4))),oM 9 Xcj]
def XUM:VC:=.reg [oM 12 τ0,oD 13 (.callF 70 [XcH,(.const (.int .i64 0)),(.const (.int .i64 4))]),oM 11 XcM,oE 14 0 Xb4,oE 15 1 Xb4,oM 4 Xc7,oM 5 XcY]
def X1e:VC:=.reg [oM 16 τ4,oD 17 (.build [(.bool false),(.int .u64 0),(.int .u64 0)] [(2,1,Xc1)]),oN (.store 3 τ2 Xc0),oD 3 (.mv (.const (.bool true)))]
def YcH:VC:=.seq X1e .ret
def XXd:VC:=.seq XUM YcH
def X1A:VC:=.reg [oD 19 (.bin .eql τ8 (.const (.int .i64 16))),oM 18 Xdk]
def X6M:VC:=.reg [oD 20 (.build [(.bool false),(.int .u64 0),(.int .u64 0)] [(0,1,(.const (.bool true)))]),oD 6 (.alloc [(.bool false),(.int .u64 0),(.int .u64 0)]),oN (.store 3 τ6 XdE)]
def XVJ:VC:=.reg [oM 22 τ0,oD 23 (.callF 70 [Xeh,(.const (.int .i64 0)),(.const (.int .i64 8))]),oM 21 Xep,oE 24 0 XdX,oE 25 1 XdX,oD 26 (.fieldA 1 τ6),oN (.store 1 XdY Xek)]
def XK5:VC:=.reg [oM 28 τ0,oD 29 (.callF 70 [XeD,(.const (.int .i64 8)),(.const (.int .i64 8))]),oM 27 XeG,oE 30 0 XeH,oE 31 1 XeH,oD 32 (.fieldA 2 τ6),oN (.store 1 Xfj XeO)]
def XHy:VC:=.reg [oD 33 (.loadN [.bool,(.int .u64),(.int .u64)] τ6),oN (.store 3 τ2 XfE),oD 3 (.mv (.const (.bool true)))]
def XGS:VC:=.seq XHy .ret
def XJf:VC:=.seq XK5 XGS
def XND:VC:=.seq XVJ XJf
def XEw:VC:=.seq X6M XND
def XIg:VC:=.cond Xdw XEw .skip
def XEp:VC:=.seq X1A XIg
def XIZ:VC:=.cond τ9 XXd XEp
def XG7:VC:=.seq XS3 XIZ
def XMc:VC:=.block 0 XG7
def XM7:VC:=.seq XS8 XMc
def XMY:VC:=.reg [oD 34 (.build [(.bool false),(.int .u64 0),(.int .u64 0)] []),oN (.store 3 τ2 XfH),oD 3 (.mv (.const (.bool false)))]
def XNl:VC:=.seq XMY .ret
def XIO:VC:=.seq XM7 XNl
def XuT:VC:=.seq X4K XIO
def XW0:VFn:=⟨35,XuT,[.cell 2 [.bool,(.int .u64),(.int .u64)] true,.tmp 3]⟩
def X4P:VC:=.reg [oD 2 (.alloc [(.int .i64 0),(.int .i64 0),(.int .i64 0),(.int .i64 0),(.bool false),(.int .u64 0),(.int .u64 0),(.bool false),(.int .u64 0),(.int .u64 0)]),oD 3 (.mv (.const (.string ⟨⟨[]⟩⟩))),oD 4 (.mv (.const (.int .i64 0)))]
def Ya0:VC:=.reg [oM 12 τ0,oD 13 (.callF 112 [XcH]),oM 5 XcM]
def YdB:VC:=.reg [oM 14 τ5,oD 15 (.callF 113 [Xc7,(.const (.int .i64 4))]),oM 16 τ5,oD 17 (.callF 113 [Xc1,(.const (.int .i64 2))]),oM 6 XcY,oM 7 Xc0]
def Ya6:VC:=.reg [oM 18 τ6,oD 19 (.bin .shr Xdw (.const (.int .u64 20))),oD 20 (.bin .and Xdk (.const (.int .i64 255))),oM 21 τ6,oD 22 (.bin .and XdX (.const (.int .i64 1048575))),oM 23 τ5,oD 24 (.callF 113 [Xep,(.const (.int .i64 1))]),oM 25 τ5,oD 26 (.callF 113 [XeI,(.const (.int .i64 1))]),oD 27 (.build [(.int .i64 0),(.int .i64 0),(.int .i64 0),(.int .i64 0),(.bool false),(.int .u64 0),(.int .u64 0),(.bool false),(.int .u64 0),(.int .u64 0)] [(0,1,XdE),(1,1,Xeh),(2,1,Xek),(3,1,XdY)]),oD 8 (.alloc [(.int .i64 0),(.int .i64 0),(.int .i64 0),(.int .i64 0),(.bool false),(.int .u64 0),(.int .u64 0),(.bool false),(.int .u64 0),(.int .u64 0)]),oN (.store 10 τ8 XeH)]
def XZ5:VC:=.reg [oM 28 τ5,oD 29 (.callF 115 [XeD,(.const (.int .i64 16))]),oM 30 τ5,oD 31 (.callF 115 [XeO,(.const (.int .i64 16))]),oM 9 XeG,oM 10 XeP]
def XUq:VC:=.reg [oM 32 τ5,oD 33 (.callF 114 [Xfj])]
def XWI:VC:=.reg [oD 34 (.build [(.int .i64 0),(.int .i64 0),(.int .i64 0),(.int .i64 0),(.bool false),(.int .u64 0),(.int .u64 0),(.bool false),(.int .u64 0),(.int .u64 0)] []),oN (.store 10 τ2 XfH),oD 3 (.mv (.const (.string ⟨⟨[]⟩⟩))),oD 4 (.mv (.const (.int .i64 2)))]
def Ybv:VC:=.seq XWI .ret
def X6T:VC:=.cond XfE Ybv .skip
def X2y:VC:=.seq XUq X6T
def XQY:VC:=.reg [oM 35 τ6,oD 36 (.bin .shr XfG (.const (.int .u64 28))),oD 37 (.bin .neq XfF (.const (.int .i64 6)))]
def XLs:VC:=.reg [oD 38 (.build [(.int .i64 0),(.int .i64 0),(.int .i64 0),(.int .i64 0),(.bool false),(.int .u64 0),(.int .u64 0),(.bool false),(.int .u64 0),(.int .u64 0)] []),oN (.store 10 τ2 Xgl),oD 3 (.mv (.const (.string ⟨⟨[]⟩⟩))),oD 4 (.mv (.const (.int .i64 3)))]
def XFC:VC:=.seq XLs .ret
def XIk:VC:=.cond Xfm XFC .skip
def XHS:VC:=.seq XQY XIk
def XJl:VC:=.reg [oM 40 τ9,oD 41 (.callF 210 [Xg4]),oM 39 Xg7,oE 42 0 Xgp,oE 43 1 Xgp,oD 44 (.fieldA 4 τ8),oN (.store 3 Xhv Xg6)]
def XE1:VC:=.reg [oM 46 Xcj,oD 47 (.callF 210 [XhZ]),oM 45 Xhu,oE 48 0 Xhw,oE 49 1 Xhw,oD 50 (.fieldA 7 τ8),oN (.store 3 Xiq Xh0)]
def XOh:VC:=.reg [oM 51 τ5,oM 52 τ7,oD 53 (.callF 115 [Xi5,Xjx]),oM 11 XjE]
def XRQ:VC:=.reg [oM 54 τ5,oD 55 (.callF 114 [XjP])]
def XQP:VC:=.reg [oD 56 (.build [(.int .i64 0),(.int .i64 0),(.int .i64 0),(.int .i64 0),(.bool false),(.int .u64 0),(.int .u64 0),(.bool false),(.int .u64 0),(.int .u64 0)] []),oN (.store 10 τ2 XkA),oD 3 (.mv (.const (.string ⟨⟨[]⟩⟩))),oD 4 (.mv (.const (.int .i64 2)))]
def XGX:VC:=.seq XQP .ret
def XKr:VC:=.cond XjT XGX .skip
def XJw:VC:=.seq XRQ XKr
def XPY:VC:=.reg [oD 57 (.loadN [(.int .i64),(.int .i64),(.int .i64),(.int .i64),.bool,(.int .u64),(.int .u64),.bool,(.int .u64),(.int .u64)] τ8),oM 58 Xb4,oN (.store 10 τ2 Xj7),oM 3 Xkj,oD 4 (.mv (.const (.int .i64 0)))]
def XNk:VC:=.seq XPY .ret
def XLn:VC:=.seq XJw XNk
def XMd:VC:=.seq XOh XLn
def XO1:VC:=.seq XE1 XMd
def XGW:VC:=.seq XJl XO1
def XIR:VC:=.seq XHS XGW
def XJb:VC:=.seq X2y XIR
def XFN:VC:=.seq XZ5 XJb
def XDH:VC:=.seq Ya6 XFN
def XMZ:VC:=.seq YdB XDH
def XHj:VC:=.seq Ya0 XMZ
def Xtc:VC:=.seq X4P XHj
def X3P:VFn:=⟨59,Xtc,[.cell 2 [(.int .i64),(.int .i64),(.int .i64),(.int .i64),.bool,(.int .u64),(.int .u64),.bool,(.int .u64),(.int .u64)] true,.tmp 3,.tmp 4]⟩
def X66:VC:=.reg [oD 2 (.box τ0),oD 4 (.mv (.const (.int .i64 0))),oD 5 (.mv (.const (.int .i64 0)))]
def X51:VC:=.reg [oD 13 (.fieldA 7 τ2),oD 14 (.load1 .str XcM),oD 15 (.fieldA 0 τ2),oD 16 (.loadN [.bool,(.int .u64),(.int .u64)] XcY),oD 17 (.fieldA 3 τ2),oD 18 (.loadN [.bool,(.int .u64),(.int .u64)] Xc0),oD 19 (.callF 173 [Xc7,Xc1,Xdw]),oM 12 Xdk,oE 20 0 XcH,oE 21 1 XcH,oE 22 2 XcH,oD 6 (.alloc [(.int .i64 0),(.int .i64 0),(.int .u32 0),(.int .u32 0),(.int .i64 0),(.int .i64 0),(.int .i64 0),(.string ⟨⟨[]⟩⟩)]),oN (.store 8 τ6 XdE),oM 7 XdX,oM 8 Xeh]
def X0m:VC:=.reg [oM 23 τ8,oD 24 (.bin .neq Xep (.const (.int .i64 0)))]
def XXn:VC:=.reg [oM 25 τ8,oD 4 (.mv (.const (.int .i64 0))),oM 5 XeI]
def XTD:VC:=.seq XXn .ret
def XXR:VC:=.cond Xek XTD .skip
def XSm:VC:=.seq X0m XXR
def YaE:VC:=.regD [oM 26 τ1,oM 27 τ1,oM 28 τ1,oD 29 (.fieldA 0 τ6),oD 30 (.load1 (.int .i64) XeG),oD 31 (.fieldA 1 τ6),oD 32 (.load1 (.int .i64) XeP),oD 33 (.fieldA 4 τ6),oD 34 (.load1 (.int .i64) XfE),oD 35 (.nilCheck XdY),oD 36 (.fieldA 0 XfG),oD 37 (.fieldA 7 XfF),oN (.store 1 Xfm XeO),oD 38 (.nilCheck XeH),oD 39 (.fieldA 0 Xgl),oD 40 (.fieldA 8 Xgp),oN (.store 1 Xg4 Xfj)] [(6,12),(8,12),(8,16)] [oD 41 (.nilCheck XeD),oD 42 (.fieldA 9 Xg7),oN (.store 1 Xg6 XfH)]
def X87:VC:=.reg [oD 44 (.fieldA 7 τ6),oD 45 (.load1 .str Xhv),oD 46 (.callF 111 [Xhw]),oM 43 XhZ,oE 47 0 Xg5,oE 48 1 Xg5,oE 49 2 Xg5,oM 9 Xhu,oM 10 Xh0,oM 11 Xh9]
def X5G:VC:=.reg [oM 50 Xb4,oD 51 (.bin .geq Xiq (.const (.int .i64 0)))]
def XKB:VC:=.reg [oM 52 τ1,oM 53 τ1,oM 54 τ1,oM 55 τ9,oM 56 Xcj,oD 57 (.nilCheck Xjx),oD 58 (.fieldA 10 Xj7),oN (.store 1 Xkj (.const (.bool true))),oD 59 (.nilCheck XjE),oD 60 (.fieldA 11 XkB),oN (.store 1 XkV XjT),oD 61 (.nilCheck XjP),oD 62 (.fieldA 12 Xlq),oN (.store 1 Xl6 XkA)]
def XNP:VC:=.cond Xi5 XKB .skip
def XH9:VC:=.seq X5G XNP
def XLc:VC:=.seq X87 XH9
def XNY:VC:=.reg [oM 63 τ7,oD 64 (.lenS Xm0),oM 4 Xnc,oD 5 (.mv (.const (.int .i64 0)))]
def XH1:VC:=.seq XNY .ret
def XEz:VC:=.seq XLc XH1
def XMq:VC:=.seq YaE XEz
def XLB:VC:=.seq XSm XMq
def XH2:VC:=.seq X51 XLB
def XvH:VC:=.seq X66 XH2
def YcU:VFn:=⟨65,XvH,[.tmp 4,.tmp 5]⟩
def XVx:VC:=.reg [oD 4 (.box τ1),oD 5 (.box τ2),oD 6 (.alloc [(.int .i64 0),(.int .i64 0),(.int .u32 0),(.int .u32 0),(.int .i64 0),(.int .i64 0),(.int .i64 0),(.string ⟨⟨[]⟩⟩)]),oD 7 (.mv (.const (.string ⟨⟨[]⟩⟩))),oD 8 (.mv (.const (.int .i64 0)))]
def X4k:VC:=.reg [oM 16 τ0,oD 17 (.lenS Xc1),oD 18 (.bin .lss Xc0 (.const (.int .i64 20)))]
def X6d:VC:=.reg [oD 19 (.build [(.int .i64 0),(.int .i64 0),(.int .u32 0),(.int .u32 0),(.int .i64 0),(.int .i64 0),(.int .i64 0),(.string ⟨⟨[]⟩⟩)] []),oN (.store 8 τ6 Xdk),oD 7 (.mv (.const (.string ⟨⟨[]⟩⟩))),oD 8 (.mv (.const (.int .i64 2)))]
def X8v:VC:=.seq X6d .ret
def XZV:VC:=.cond Xdw X8v .skip
def XXD:VC:=.seq X4k XZV
def XVK:VC:=.regD [oM 20 τ0,oD 21 (.idxS XdE (.const (.int .i64 12))),oD 22 (.bin .shr XdX (.const (.int .u64 4))),oD 23 (.conv .i64 Xeh),oM 24 τ0,oD 25 (.idxS Xek (.const (.int .i64 12))),oD 26 (.bin .and XeI (.const (.int .u8 15))),oM 9 Xep] [] [oM 10 XdY]
def XYb:VC:=.reg [oM 27 τ9,oD 28 (.bin .mul (.const (.int .i64 4)) XeH),oM 11 XeD]
def X6w:VC:=.reg [oM 30 Xb4,oD 31 (.bin .lss XeO (.const (.int .i64 20))),oM 32 XeP,oG 33 (.mv Xcj) 32 false,oG 34 (.bin .neq XfE (.const (.int .u8 0))) 32 false,oD 35 (.pick Xfj (.const (.bool true)) XfH),oM 29 XfG]
def Ycb:VC:=.reg [oD 36 (.build [(.int .i64 0),(.int .i64 0),(.int .u32 0),(.int .u32 0),(.int .i64 0),(.int .i64 0),(.int .i64 0),(.string ⟨⟨[]⟩⟩)] []),oN (.store 8 τ6 XfF),oD 7 (.mv (.const (.string ⟨⟨[]⟩⟩))),oD 8 (.mv (.const (.int .i64 3)))]
def XOv:VC:=.seq Ycb .ret
def XPf:VC:=.reg [oM 38 Xb4,oM 39 τ0,oD 40 (.lenS Xgp),oD 41 (.bin .gtr Xgl Xg4),oM 37 Xg7]
def XJU:VC:=.reg [oD 42 (.build [(.int .i64 0),(.int .i64 0),(.int .u32 0),(.int .u32 0),(.int .i64 0),(.int .i64 0),(.int .i64 0),(.string ⟨⟨[]⟩⟩)] []),oN (.store 8 τ6 Xg6),oD 7 (.mv (.const (.string ⟨⟨[]⟩⟩))),oD 8 (.mv (.const (.int .i64 2)))]
def XQU:VC:=.seq XJU .ret
def XGC:VC:=.cond Xfm XQU .skip
def XOO:VC:=.seq XPf XGC
def XIJ:VC:=.cond XeG XOv XOO
def XOf:VC:=.seq X6w XIJ
def XIB:VC:=.block 0 XOf
def XOW:VC:=.reg [oD 43 (.loadN [.bool,(.int .u64),(.int .u64)] τ4),oD 44 (.loadN [.bool,(.int .u64),(.int .u64)] τ5),oM 45 τ0,oD 46 (.lenS Xhw),oD 47 (.callF 125 [Xg5,Xhv,(.const (.int .i64 6)),XhZ]),oM 12 Xhu]
def XEt:VC:=.reg [oM 49 XcH,oD 50 (.bin .eql Xh9 (.const (.string ⟨⟨[]⟩⟩))),oM 48 Xiq]
def XIU:VC:=.reg [oD 51 (.build [(.int .i64 0),(.int .i64 0),(.int .u32 0),(.int .u32 0),(.int .i64 0),(.int .i64 0),(.int .i64 0),(.string ⟨⟨[]⟩⟩)] []),oN (.store 8 τ6 Xi5),oD 7 (.mv (.const (.string ⟨⟨[]⟩⟩))),oD 8 (.mv (.const (.int .i64 1)))]
def XF8:VC:=.seq XIU .ret
def XOX:VC:=.reg [oM 53 XcH,oM 54 τ0,oD 55 (.bin .add XjE XjP),oD 56 (.callF 146 [XjT]),oD 57 (.not XkA),oM 52 Xj7]
def XJa:VC:=.reg [oD 58 (.build [(.int .i64 0),(.int .i64 0),(.int .u32 0),(.int .u32 0),(.int .i64 0),(.int .i64 0),(.int .i64 0),(.string ⟨⟨[]⟩⟩)] []),oN (.store 8 τ6 Xkj),oD 7 (.mv (.const (.string ⟨⟨[]⟩⟩))),oD 8 (.mv (.const (.int .i64 4)))]
def XH0:VC:=.seq XJa .ret
def XFO:VC:=.cond Xjx XH0 .skip
def XOr:VC:=.seq XOX XFO
def XLu:VC:=.cond Xh0 XF8 XOr
def XE5:VC:=.seq XEt XLu
def XMV:VC:=.block 1 XE5
def XKi:VC:=.reg [oM 59 τ0,oM 60 Xb4,oD 61 (.callF 202 [XkB,XkV]),oD 13 (.alloc [(.int .i64 0),(.int .i64 0),(.int .u32 0),(.int .u32 0),(.int .i64 0),(.int .i64 0),(.int .i64 0),(.string ⟨⟨[]⟩⟩)]),oN (.store 8 XcM Xlq)]
def XID:VC:=.reg [oD 63 (.fieldA 7 XcM),oD 64 (.load1 .str Xm0),oD 65 (.callF 168 [Xnc]),oM 62 XnT,oE 66 0 Xl6,oE 67 1 Xl6,oM 14 Xnr,oM 15 XnI]
def XGT:VC:=.reg [oM 68 XcY,oD 69 (.bin .neq Xos (.const (.int .i64 0)))]
def XMU:VC:=.reg [oD 70 (.build [(.int .i64 0),(.int .i64 0),(.int .u32 0),(.int .u32 0),(.int .i64 0),(.int .i64 0),(.int .i64 0),(.string ⟨⟨[]⟩⟩)] []),oM 71 XcY,oN (.store 8 τ6 XpE),oD 7 (.mv (.const (.string ⟨⟨[]⟩⟩))),oM 8 XpO]
def XQS:VC:=.seq XMU .ret
def XRS:VC:=.cond XoR XQS .skip
def XMi:VC:=.seq XGT XRS
def XP9:VC:=.seq XID XMi
def XMy:VC:=.regD [oD 72 (.loadN [(.int .i64),(.int .i64),(.int .u32),(.int .u32),(.int .i64),(.int .i64),(.int .i64),.str] XcM),oM 73 τ0,oM 74 Xb4,oD 75 (.sliceS XqX (some Xr0) none),oN (.store 8 τ6 Xpt)] [] [oM 7 Xsx,oD 8 (.mv (.const (.int .i64 0)))]
def XME:VC:=.seq XMy .ret
def XEJ:VC:=.seq XP9 XME
def XIn:VC:=.seq XKi XEJ
def XJL:VC:=.seq XMV XIn
def XQh:VC:=.seq XOW XJL
def XEi:VC:=.seq XIB XQh
def XM2:VC:=.seq XYb XEi
def XNo:VC:=.seq XVK XM2
def XO9:VC:=.seq XXD XNo
def XtK:VC:=.seq XVx XO9
def YaI:VFn:=⟨76,XtK,[.cell 6 [(.int .i64),(.int .i64),(.int .u32),(.int .u32),(.int .i64),(.int .i64),(.int .i64),.str] true,.tmp 7,.tmp 8]⟩
def XTV:VC:=.reg [oD 4 (.box τ0),oD 5 (.box τ1),oD 8 (.mv (.const (.string ⟨⟨[]⟩⟩)))]
def XUH:VC:=.reg [oD 10 (.loadN [.bool,(.int .u64),(.int .u64)] τ4),oD 11 (.callF 81 [Xcj]),oD 12 (.not Xb4),oM 13 XcH,oG 14 (.loadN [.bool,(.int .u64),(.int .u64)] τ5) 13 false,oG 15 (.callF 81 [Xc7]) 13 false,oG 16 (.not XcY) 13 false,oD 17 (.pick XcM (.const (.bool true)) Xc1),oM 18 Xc0,oG 19 (.fieldA 0 τ4) 18 false,oG 20 (.load1 .bool Xdk) 18 false,oG 21 (.fieldA 0 τ5) 18 false,oG 22 (.load1 .bool XdX) 18 false,oG 23 (.eqB true XdE Xeh) 18 false,oD 24 (.pick Xdw (.const (.bool true)) Xep)]
def X6L:VC:=.reg [oD 8 (.mv (.const (.string ⟨⟨[]⟩⟩)))]
def X9b:VC:=.seq X6L .ret
def X44:VC:=.cond Xek X9b .skip
def X1I:VC:=.seq XUH X44
def X42:VC:=.regD [oD 25 (.loadN [.bool,(.int .u64),(.int .u64)] τ4),oD 26 (.callF 136 [XeI]),oD 27 (.loadN [.bool,(.int .u64),(.int .u64)] τ5)] [(1,2)] [oD 28 (.callF 136 [XeH]),oD 29 (.bin .add XdY XeD),oM 9 XeG]
def YdF:VC:=.reg [oD 30 (.fieldA 0 τ4),oD 31 (.load1 .bool XeO)]
def XZn:VC:=.reg [oM 32 τ9,oM 33 τ3,oM 34 τ2,oD 35 (.buildSl 6 1 [(.int .i64 0),(.int .i64 0),(.int .i64 0),(.int .i64 0),(.int .i64 0),(.int .i64 0)] [(0,1,XfE),(1,1,(.const (.int .i64 4))),(2,1,(.const (.int .i64 0))),(3,1,(.const (.int .i64 3))),(4,1,XfH),(5,1,(.const (.int .i64 1)))]),oD 36 (.callF 138 [XfG]),oD 37 (.bin .add Xfj XfF),oM 8 Xfm]
def Yb2:VC:=.seq XZn .ret
def XQL:VC:=.cond XeP Yb2 .skip
def XPN:VC:=.seq YdF XQL
def XIu:VC:=.reg [oM 38 τ9,oM 39 τ2,oM 40 τ3,oD 41 (.buildSl 6 1 [(.int .i64 0),(.int .i64 0),(.int .i64 0),(.int .i64 0),(.int .i64 0),(.int .i64 0)] [(0,1,(.const (.int .i64 0))),(1,1,(.const (.int .i64 1))),(2,1,Xgp),(3,1,(.const (.int .i64 1))),(4,1,Xg4),(5,1,(.const (.int .i64 2)))]),oD 42 (.callF 138 [Xg7]),oD 43 (.bin .add Xgl Xg6),oM 8 Xg5]
def XO4:VC:=.seq XIu .ret
def XOq:VC:=.seq XPN XO4
def XHs:VC:=.seq X42 XOq
def XFt:VC:=.seq X1I XHs
def Xu6:VC:=.seq XTV XFt
def XWr:VFn:=⟨44,Xu6,[.tmp 8]⟩
def k81_0:VC:=.reg [oD 1 (.box τ0),oD 2 (.mv (.const (.bool false)))]
def k81_1:VC:=.reg [oD 3 (.fieldA 0 τ1),oD 4 (.load1 .bool τ3),oM 5 τ4,oG 6 (.fieldA 1 τ1) 5 false,oG 7 (.load1 (.int .u64) τ6) 5 false,oG 8 (.bin .eql τ7 (.const (.int .u64 0))) 5 false,oG 9 (.mv τ8) 5 false,oG 10 (.fieldA 2 τ1) 9 true,oG 11 (.load1 (.int .u64) Xcj) 9 true,oG 12 (.bin .lss Xb4 (.const (.int .u64 4294967296))) 9 true,oG 13 (.pick τ9 XcH (.const (.bool false))) 5 false,oD 14 (.pick τ5 (.const (.bool true)) XcM),oM 2 Xc7]
def k81_2:VC:=.seq k81_1 .ret
def X92:VC:=.seq k81_0 k81_2
def fn81:VFn:=⟨15,X92,[.tmp 2]⟩
def X1u:VC:=.reg [oD 1 (.box τ0),oD 2 (.mv (.const (.string ⟨⟨[]⟩⟩)))]
def XWS:VC:=.reg [oD 4 (.loadN [.bool,(.int .u64),(.int .u64)] τ1),oD 5 (.callF 81 [τ4]),oD 6 (.not τ5),oM 3 τ6]
def X6b:VC:=.reg [oD 2 (.mv (.const (.string ⟨⟨[]⟩⟩)))]
def X8d:VC:=.seq X6b .ret
def X2z:VC:=.reg [oD 8 (.fieldA 0 τ1),oD 9 (.load1 .bool τ8),oM 7 τ9]
def X1f:VC:=.regD [oD 10 (.fieldA 1 τ1),oD 11 (.load1 (.int .u64) Xcj),oD 12 (.callF 72 [Xb4,(.const (.int .i64 8))]),oD 13 (.fieldA 2 τ1),oD 14 (.load1 (.int .u64) XcM)] [(2,4)] [oD 15 (.callF 72 [Xc7,(.const (.int .i64 8))]),oD 16 (.bin .add XcH XcY),oM 2 Xc1]
def X1R:VC:=.seq X1f .ret
def X0P:VC:=.cond τ7 X1R .skip
def X9P:VC:=.seq X2z X0P
def X8e:VC:=.cond τ3 X8d X9P
def XJN:VC:=.seq XWS X8e
def XGK:VC:=.block 0 XJN
def XNE:VC:=.reg [oD 17 (.fieldA 2 τ1),oD 18 (.load1 (.int .u64) Xc0),oD 19 (.callF 72 [Xdw,(.const (.int .i64 4))]),oM 2 Xdk]
def XMm:VC:=.seq XNE .ret
def XHC:VC:=.seq XGK XMm
def Xtv:VC:=.seq X1u XHC
def X4t:VFn:=⟨20,Xtv,[.tmp 2]⟩
def k72_0:VC:=.reg [oD 4 (.mv (.const (.string ⟨⟨[]⟩⟩)))]
def k72_1:VC:=.reg [oM 7 τ1,oD 8 (.bin .lss τ7 (.const (.int .i64 1))),oM 9 τ8,oG 10 (.mv τ1) 9 false,oG 11 (.bin .gtr Xcj (.const (.int .i64 8))) 9 false,oD 12 (.pick τ9 (.const (.bool true)) Xb4)]
def k72_2:VC:=.reg [oD 4 (.mv (.const (.string ⟨⟨[]⟩⟩)))]
def k72_3:VC:=.seq k72_2 .ret
def k72_4:VC:=.cond XcH k72_3 .skip
def k72_5:VC:=.seq k72_1 k72_4
def k72_6:VC:=.reg [oM 13 τ1,oD 14 (.mkSl 1 1 [(.int .u8 0)] XcM XcM),oM 5 Xc7]
def k72_7:VC:=.reg [oM 15 τ5,oD 16 (.lenL XcY),oD 17 (.mv (.const (.int .i64 0)))]
def k72_8:VC:=.reg [oD 18 (.bin .lss Xc0 Xc1)]
def k72_9:VC:=.cond Xdw .skip (.exit 0)
def X7G:VC:=.reg [oM 19 Xc0,oM 6 Xdk]
def XVR:VC:=.reg [oM 20 τ5,oM 21 τ6,oM 22 τ0,oM 23 τ1,oD 24 (.bin .sub Xep (.const (.int .i64 1))),oM 25 τ6,oD 26 (.bin .sub Xek XeI),oD 27 (.bin .mul (.const (.int .i64 8)) XdY),oD 28 (.bin .shr Xeh XeH),oD 29 (.conv .u8 XeD),oD 30 (.idxAL 1 XdE XdX),oN (.store 1 XeO XeG)]
def XWN:VC:=.seq X7G XVR
def XWX:VC:=.block 1 XWN
def XXH:VC:=.reg [oD 31 (.bin .add Xc0 (.const (.int .i64 1))),oM 17 XeP]
def Ybw:VC:=.seq XWX XXH
def X7z:VC:=.seq k72_9 Ybw
def Xu0:VC:=.seq k72_8 X7z
def Yal:VC:=.loop Xu0
def XZx:VC:=.block 0 Yal
def Ydg:VC:=.seq k72_7 XZx
def Ybo:VC:=.reg [oM 32 τ5,oD 33 (.b2s Xfj),oM 4 XfE]
def XCQ:VC:=.seq Ybo .ret
def XUm:VC:=.seq Ydg XCQ
def XUo:VC:=.seq k72_6 XUm
def XVX:VC:=.seq k72_5 XUo
def XBw:VC:=.seq k72_0 XVX
def fn72:VFn:=⟨34,XBw,[.tmp 4]⟩
def XWD:VC:=.reg [oD 2 (.mv (.const (.string ⟨⟨[]⟩⟩)))]
def YbY:VC:=.reg [oD 3 (.allocB 191 5)]
def XYG:VC:=.reg [oD 4 (.mv (.const (.int .i64 0)))]
def X8D:VC:=.reg [oM 5 τ4,oD 6 (.bin .add τ5 (.const (.int .i64 1))),oM 7 τ0,oD 8 (.lenL τ7),oD 9 (.bin .lss τ6 τ8)]
def Yax:VC:=.cond τ9 .skip (.exit 0)
def X1g:VC:=.seq X8D Yax
def X4g:VC:=.regD [oM 12 τ0,oM 13 τ4,oD 14 (.idxAL 1 XcH XcM),oD 15 (.load1 (.int .i64) Xc7),oD 16 (.conv .u64 XcY),oM 17 τ0,oM 18 τ4,oD 19 (.bin .add Xdw (.const (.int .i64 1))),oD 20 (.idxAL 1 Xc0 Xdk),oD 21 (.load1 (.int .i64) XdE)] [] [oD 22 (.callF 72 [Xc1,XdX]),oD 23 (.callF 132 [τ3,Xeh])]
def X75:VC:=.block 1 X4g
def XWf:VC:=.reg [oM 10 τ4,oD 11 (.bin .add Xcj (.const (.int .i64 2))),oM 4 Xb4]
def XX3:VC:=.seq X75 XWf
def XpI:VC:=.seq X1g XX3
def XO2:VC:=.loop XpI
def XDQ:VC:=.block 0 XO2
def XPg:VC:=.seq XYG XDQ
def XOk:VC:=.reg [oD 24 (.callF 133 [τ3]),oM 2 Xek]
def XuI:VC:=.seq XOk .ret
def XRi:VC:=.seq XPg XuI
def XL7:VC:=.seq YbY XRi
def XvQ:VC:=.seq XWD XL7
def X0s:VFn:=⟨25,XvQ,[.tmp 2]⟩
def X0Y:VC:=.reg [oD 4 (.mv (.const (.int .i64 0))),oM 5 (.const .nilIface)]
def XTJ:VC:=.reg [oM 6 τ0,oD 7 (.callF 178 [τ6])]
def X3J:VC:=.reg [oM 8 τ0,oM 9 τ0,oD 10 (.nilCheck τ9),oD 11 (.fieldA 1 Xcj),oD 12 (.load1 .oth Xb4),oM 13 τ1,oD 14 (.app 5 1 1 XcH XcM),oD 15 (.nilCheck τ8),oD 16 (.fieldA 1 XcY),oN (.store 1 Xc1 Xc7)]
def XWl:VC:=.reg [oM 17 τ1,oD 18 (.lenS Xc0),oM 4 Xdw,oM 5 (.const .nilIface)]
def XSX:VC:=.seq XWl .ret
def X6F:VC:=.seq X3J XSX
def X3W:VC:=.seq XTJ X6F
def X1Y:VC:=.seq X0Y X3W
def XVn:VFn:=⟨19,X1Y,[.tmp 4,.tmp 5]⟩
def YcC:VC:=.reg [oM 2 τ0,oD 3 (.nilCheck τ2),oD 4 (.fieldA 0 τ3),oD 5 (.load1 .oth τ4),oD 6 (.isNil 0 false τ5)]
def X6U:VC:=.reg [oM 7 τ0,oM 8 τ0,oD 9 (.toU τ8),oM 10 τ9,oD 11 (.ofU 191 2 Xcj),oD 12 (.nilCheck τ7),oD 13 (.fieldA 0 XcH),oN (.store 1 XcM Xb4)]
def X1B:VC:=.reg [oM 14 τ0,oD 15 (.nilCheck Xc7),oD 16 (.fieldA 0 XcY),oD 17 (.load1 .oth Xc1),oM 18 τ0,oD 19 (.eqP true Xc0 Xdw)]
def XU0:VC:=.cond Xdk .stuck .skip
def X96:VC:=.seq X1B XU0
def XSl:VC:=.cond τ6 X6U X96
def XTp:VC:=.seq YcC XSl
def XY2:VFn:=⟨20,XTp,[]⟩
def XZJ:VC:=.reg [oD 2 (.mv (.const (.string ⟨⟨[]⟩⟩)))]
def X7W:VC:=.regD [oM 3 τ0,oD 4 (.nilCheck τ3),oD 5 (.fieldA 1 τ4),oD 6 (.load1 .oth τ5),oD 7 (.sdata τ6),oM 8 τ0,oD 9 (.nilCheck τ8),oD 10 (.fieldA 1 τ9),oD 11 (.load1 .oth Xcj),oD 12 (.lenL Xb4)] [] [oD 13 (.ustr 5 τ7 XcH),oM 2 XcM]
def X4o:VC:=.seq X7W .ret
def XXW:VC:=.seq XZJ X4o
def X8Q:VFn:=⟨14,XXW,[.tmp 2]⟩
def Yam:VC:=.reg [oD 4 (.alloc [(.int .i64 0),(.int .i64 0),(.int .u32 0),(.int .u32 0),(.int .i64 0),(.int .i64 0),(.int .i64 0),(.string ⟨⟨[]⟩⟩)])]
def X1v:VC:=.reg [oM 7 τ0,oD 8 (.callF 112 [τ7]),oM 5 τ8]
def Ybd:VC:=.reg [oM 9 τ5,oD 10 (.callF 113 [τ9,(.const (.int .i64 2))]),oM 11 τ5,oD 12 (.callF 113 [Xb4,(.const (.int .i64 2))]),oM 13 τ5,oD 14 (.callF 113 [XcM,(.const (.int .i64 4))]),oD 15 (.conv .u32 Xc7),oM 16 τ5,oD 17 (.callF 113 [Xc1,(.const (.int .i64 4))]),oD 18 (.conv .u32 Xc0),oD 19 (.build [(.int .i64 0),(.int .i64 0),(.int .u32 0),(.int .u32 0),(.int .i64 0),(.int .i64 0),(.int .i64 0),(.string ⟨⟨[]⟩⟩)] [(0,1,Xcj),(1,1,XcH),(2,1,XcY),(3,1,Xdw)]),oD 6 (.alloc [(.int .i64 0),(.int .i64 0),(.int .u32 0),(.int .u32 0),(.int .i64 0),(.int .i64 0),(.int .i64 0),(.string ⟨⟨[]⟩⟩)]),oN (.store 8 τ6 Xdk)]
def YcN:VC:=.reg [oM 20 τ5,oD 21 (.callF 113 [XdE,(.const (.int .i64 2))]),oD 22 (.bin .and XdX (.const (.int .i64 255))),oD 23 (.fieldA 4 τ6),oN (.store 1 Xep Xeh)]
def X5W:VC:=.reg [oM 24 τ5,oD 25 (.callF 113 [Xek,(.const (.int .i64 2))]),oD 26 (.fieldA 5 τ6),oN (.store 1 XdY XeI)]
def X2J:VC:=.reg [oM 27 τ5,oD 28 (.callF 113 [XeH,(.const (.int .i64 2))])]
def X12:VC:=.reg [oM 29 τ5,oD 30 (.callF 113 [XeG,(.const (.int .i64 2))]),oD 31 (.fieldA 6 τ6),oN (.store 1 XeP XeO)]
def X2o:VC:=.reg [oM 32 τ5,oM 33 τ1,oD 34 (.bin .sub XfE (.const (.int .i64 20))),oD 35 (.callF 115 [Xfj,XfH]),oD 36 (.fieldA 7 τ6),oN (.store 1 XfF XfG)]
def X4u:VC:=.reg [oD 37 (.loadN [(.int .i64),(.int .i64),(.int .u32),(.int .u32),(.int .i64),(.int .i64),(.int .i64),.str] τ6),oN (.store 8 τ4 Xfm)]
def X7Y:VC:=.seq X4u .ret
def XLJ:VC:=.seq X2o X7Y
def XGp:VC:=.seq X12 XLJ
def XHD:VC:=.seq X2J XGp
def XNJ:VC:=.seq X5W XHD
def XGz:VC:=.seq YcN XNJ
def XKQ:VC:=.seq Ybd XGz
def XHZ:VC:=.seq X1v XKQ
def XtL:VC:=.seq Yam XHZ
def X05:VFn:=⟨38,XtL,[.cell 4 [(.int .i64),(.int .i64),(.int .u32),(.int .u32),(.int .i64),(.int .i64),(.int .i64),.str] true]⟩
def X1s:VC:=.reg [oD 2 (.alloc [(.slice none 0 0)]),oD 3 (.alloc [(.int .i64 0)])]
def X6o:VC:=.reg [oD 4 (.alloc [(.slice none 0 0)])]
def X8w:VC:=.reg [oM 6 τ0,oD 7 (.callF 169 [τ6])]
def XC1:VC:=.reg [oD 5 (.alloc [(.int .i64 0),(.string ⟨⟨[]⟩⟩),(.int .i64 0)]),oN (.store 3 τ5 τ8)]
def Ydt:VC:=.reg [oD 9 (.fieldA 2 τ5),oD 10 (.load1 (.int .i64) τ9),oD 11 (.bin .lss Xcj (.const (.int .i64 0)))]
def X2Z:VC:=.reg [oN (.store 1 τ2 (.const (.slice none 0 0))),oN (.store 1 τ3 (.const (.int .i64 3)))]
def X1H:VC:=.seq X2Z .ret
def X1G:VC:=.cond Xb4 X1H .skip
def Yb7:VC:=.seq Ydt X1G
def XVA:VC:=.reg [oD 12 (.load1 .oth τ4),oD 13 (.fieldA 0 τ5),oD 14 (.loadN [(.int .i64),.str] XcM),oD 15 (.buildSl 1 2 [(.int .i64 0),(.string ⟨⟨[]⟩⟩)] [(0,2,Xc7)]),oD 16 (.app 227 2 24 XcH XcY),oN (.store 1 τ4 Xc1)]
def XPS:VC:=.seq Yb7 XVA
def Xvm:VC:=.block 1 XPS
def XRk:VC:=.rangeF τ7 [8] XC1 Xvm
def XNa:VC:=.block 0 XRk
def XMN:VC:=.seq X8w XNa
def XHM:VC:=.reg [oD 17 (.load1 .oth τ4),oN (.store 1 τ2 Xc0),oN (.store 1 τ3 (.const (.int .i64 0)))]
def Xvr:VC:=.seq XHM .ret
def XDY:VC:=.seq XMN Xvr
def XJF:VC:=.seq X6o XDY
def XuJ:VC:=.seq X1s XJF
def XY5:VFn:=⟨18,XuJ,[.cell 2 [.oth] false,.cell 3 [(.int .i64)] false]⟩
def XUw:VC:=.reg [oD 1 (.box τ0),oM 2 (.const .nilFunc)]
def X5F:VC:=.reg [oD 3 (.mkFunc 196 [] [τ1]),oM 2 τ3]
def XTC:VC:=.seq X5F .ret
def X8p:VC:=.seq XUw XTC
def XZX:VFn:=⟨4,X8p,[.tmp 2]⟩
def XVf:VC:=.reg [oD 3 (.mv (.const (.int .i64 0)))]
def X6c:VC:=.reg [oM 5 τ3,oD 6 (.load1 .str τ1),oD 7 (.lenS τ6),oD 8 (.bin .lss τ5 τ7)]
def XVd:VC:=.cond τ8 .skip (.exit 0)
def X1N:VC:=.seq X6c XVd
def Yaq:VC:=.reg [oD 9 (.load1 .str τ1),oM 10 τ3,oD 11 (.idxS τ9 Xcj)]
def Ycg:VC:=.reg [oD 13 (.bin .eql Xb4 (.const (.int .u8 0))),oM 12 XcM]
def X9u:VC:=.reg [oD 15 (.bin .eql Xb4 (.const (.int .u8 1))),oM 14 XcY]
def XXj:VC:=.reg [oM 16 τ3,oD 17 (.bin .add Xc1 (.const (.int .i64 1))),oM 3 Xc0]
def X4j:VC:=.seq XXj (.exit 1)
def XYq:VC:=.cond Xc7 X4j .skip
def XGm:VC:=.seq X9u XYq
def XDE:VC:=.cond XcH .ret XGm
def XIi:VC:=.seq Ycg XDE
def XQ2:VC:=.block 2 XIi
def XRG:VC:=.seq Yaq XQ2
def XEY:VC:=.reg [oD 4 (.mv (.const (.int .i64 0)))]
def XGG:VC:=.reg [oM 18 τ3,oD 19 (.bin .add Xdw (.const (.int .i64 1))),oD 20 (.load1 .str τ1),oD 21 (.lenS XdE),oD 22 (.bin .lss Xdk XdX)]
def XPi:VC:=.reg [oD 23 (.load1 .str τ1),oM 24 τ3,oD 25 (.bin .add Xek (.const (.int .i64 1))),oD 26 (.idxS Xep XeI),oD 27 (.conv .i64 XdY),oM 4 XeH]
def XHa:VC:=.cond Xeh XPi .skip
def XEC:VC:=.seq XGG XHa
def XRA:VC:=.reg [oM 28 τ4,oD 29 (.bin .lss XeD (.const (.int .i64 2))),oM 30 XeG,oG 31 (.mv τ4) 30 false,oG 32 (.load1 .str τ1) 30 false,oG 33 (.lenS Xfj) 30 false,oG 34 (.mv τ3) 30 false,oG 35 (.bin .sub XfE XfH) 30 false,oG 36 (.bin .gtr XeP XfG) 30 false,oD 37 (.pick XeO (.const (.bool true)) XfF)]
def XIw:VC:=.reg [oM 38 τ0,oD 39 (.build [(.int .i64 0),(.string ⟨⟨[]⟩⟩),(.int .i64 0)] [(2,1,(.const (.int .i64 (-1))))]),oD 40 (.callV Xgl [Xgp])]
def XHP:VC:=.seq XIw .ret
def XIc:VC:=.cond Xfm XHP .skip
def XH7:VC:=.seq XRA XIc
def XQW:VC:=.regD [oM 41 τ0,oD 42 (.load1 .str τ1),oM 43 τ3,oD 44 (.idxS Xg6 Xg5),oD 45 (.conv .i64 Xhv),oD 46 (.load1 .str τ1),oM 47 τ3,oD 48 (.bin .add Xhu (.const (.int .i64 2))),oM 49 τ3,oM 50 τ4,oD 51 (.bin .add Xh9 Xiq),oD 52 (.sliceS XhZ (some Xh0) (some Xi5)),oD 53 (.build [(.int .i64 0),(.string ⟨⟨[]⟩⟩)] [(0,1,Xhw),(1,1,Xjx)]),oM 54 τ3,oD 55 (.bin .add XjP (.const (.int .i64 2))),oD 56 (.build [(.int .i64 0),(.string ⟨⟨[]⟩⟩),(.int .i64 0)] [(0,2,XjE),(2,1,XjT)])] [] [oD 57 (.callV Xg7 [XkA]),oD 58 (.not Xj7)]
def XGL:VC:=.cond Xkj .ret .skip
def XGR:VC:=.seq XQW XGL
def XIW:VC:=.reg [oM 59 τ3,oM 60 τ4,oD 61 (.bin .add XkB XkV),oM 3 Xlq]
def XK3:VC:=.seq XGR XIW
def XE6:VC:=.seq XH7 XK3
def XF7:VC:=.seq XEC XE6
def XFD:VC:=.seq XEY XF7
def XLd:VC:=.seq XRG XFD
def XHb:VC:=.block 1 XLd
def Xl4:VC:=.seq X1N XHb
def XEm:VC:=.loop Xl4
def XFh:VC:=.block 0 XEm
def XNM:VC:=.seq XVf XFh
def X38:VFn:=⟨62,XNM,[]⟩
def X73:VC:=.reg [oD 2 (.alloc [(.int .u32 0)]),oD 3 (.alloc [(.int .u32 0)]),oD 4 (.alloc [(.int .i64 0)])]
def XUJ:VC:=.reg [oM 11 τ0,oD 12 (.callF 168 [Xb4]),oM 10 XcH,oE 13 0 Xcj,oE 14 1 Xcj,oM 5 XcM,oM 6 Xc7]
def Ycu:VC:=.reg [oM 15 τ6,oD 16 (.bin .neq XcY (.const (.int .i64 0)))]
def XUE:VC:=.reg [oN (.store 1 τ2 (.const (.int .u32 0))),oN (.store 1 τ3 (.const (.int .u32 0))),oN (.store 1 τ4 (.const (.int .i64 (-1))))]
def XYr:VC:=.seq XUE .ret
def X65:VC:=.cond Xc1 XYr .skip
def YaK:VC:=.seq Ycu X65
def XSF:VC:=.seq XUJ YaK
def XZS:VC:=.reg [oM 17 τ0,oD 18 (.callF 169 [Xc0])]
def XCg:VC:=.reg [oD 7 (.alloc [(.int .i64 0),(.string ⟨⟨[]⟩⟩),(.int .i64 0)]),oN (.store 3 τ7 Xdk)]
def XNf:VC:=.reg [oD 20 (.fieldA 0 τ7),oD 21 (.fieldA 0 XdE),oD 22 (.load1 (.int .i64) XdX),oD 23 (.bin .neq Xeh (.const (.int .i64 8)))]
def XMa:VC:=.cond Xep (.exit 1) .skip
def XEq:VC:=.seq XNf XMa
def XFW:VC:=.reg [oD 25 (.fieldA 0 τ7),oD 26 (.fieldA 1 XeI),oD 27 (.load1 .str XdY),oD 28 (.callF 70 [XeH,(.const (.int .i64 0)),(.const (.int .i64 8))]),oM 24 XeD,oE 29 0 Xek,oE 30 1 Xek,oM 8 XeG,oM 9 XeO]
def XO8:VC:=.reg [oM 31 τ9,oM 32 XeP,oG 33 (.fieldA 0 τ7) 32 true,oG 34 (.fieldA 1 XfE) 32 true,oG 35 (.load1 .str XfH) 32 true,oG 36 (.lenS XfG) 32 true,oG 37 (.bin .eql XfF (.const (.int .i64 8))) 32 true,oD 38 (.pick Xfj Xfm (.const (.bool false)))]
def XHg:VC:=.regD [oM 39 τ8,oD 40 (.bin .shr Xgp (.const (.int .u64 32))),oD 41 (.conv .u32 Xg4),oM 42 τ8,oD 43 (.conv .u32 Xg6),oD 44 (.fieldA 2 τ7),oD 45 (.load1 (.int .i64) Xhv),oN (.store 1 τ2 Xg7),oN (.store 1 τ3 Xg5)] [(6,7),(6,8)] [oN (.store 1 τ4 Xhw)]
def XOi:VC:=.seq XHg .ret
def XQR:VC:=.cond Xgl XOi .skip
def XPH:VC:=.seq XO8 XQR
def XF0:VC:=.seq XFW XPH
def XDL:VC:=.seq XF0 (.exit 0)
def XPq:VC:=.seq XEq XDL
def Xug:VC:=.block 1 XPq
def XI0:VC:=.rangeF Xdw [19] XCg Xug
def XGb:VC:=.block 0 XI0
def XRs:VC:=.seq XZS XGb
def XKs:VC:=.reg [oN (.store 1 τ2 (.const (.int .u32 0))),oN (.store 1 τ3 (.const (.int .u32 0))),oN (.store 1 τ4 (.const (.int .i64 (-1))))]
def Xv9:VC:=.seq XKs .ret
def XIN:VC:=.seq XRs Xv9
def XOA:VC:=.seq XSF XIN
def Xt3:VC:=.seq X73 XOA
def Yap:VFn:=⟨46,Xt3,[.cell 2 [(.int .u32)] false,.cell 3 [(.int .u32)] false,.cell 4 [(.int .i64)] false]⟩
def X8a:VC:=.reg [oD 2 (.box τ0),oD 4 (.mv (.const (.int .i64 0))),oD 5 (.mv (.const (.int .i64 0)))]
def X0F:VC:=.reg [oD 12 (.fieldA 7 τ2),oD 13 (.load1 .str XcH),oD 14 (.fieldA 0 τ2),oD 15 (.loadN [.bool,(.int .u64),(.int .u64)] Xc7),oD 16 (.fieldA 3 τ2),oD 17 (.loadN [.bool,(.int .u64),(.int .u64)] Xc1),oD 18 (.callF 174 [XcM,XcY,Xc0]),oM 11 Xdw,oE 19 0 Xb4,oE 20 1 Xb4,oE 21 2 Xb4,oD 6 (.alloc [(.int .i64 0),(.int .i64 0)]),oN (.store 2 τ6 Xdk),oM 7 XdE,oM 8 XdX]
def X25:VC:=.reg [oM 23 τ8,oD 24 (.bin .neq Xep (.const (.int .i64 0))),oM 22 Xek]
def X9z:VC:=.reg [oM 25 τ8,oD 4 (.mv (.const (.int .i64 0))),oM 5 XeI]
def XY3:VC:=.seq X9z .ret
def XTx:VC:=.reg [oM 27 τ7,oD 28 (.lenS XeH),oD 29 (.fieldA 7 τ2),oD 30 (.load1 .str XeG),oD 31 (.lenS XeO),oD 32 (.bin .sub XeP (.const (.int .i64 8))),oD 33 (.bin .neq XeD Xfj),oM 26 XfE]
def XXN:VC:=.reg [oD 4 (.mv (.const (.int .i64 0))),oD 5 (.mv (.const (.int .i64 5)))]
def X0i:VC:=.seq XXN .ret
def XWn:VC:=.cond XdY X0i .skip
def X1b:VC:=.seq XTx XWn
def XHJ:VC:=.cond Xeh XY3 X1b
def XIv:VC:=.seq X25 XHJ
def XRw:VC:=.block 0 XIv
def XHc:VC:=.regD [oM 34 τ1,oM 35 τ1,oD 36 (.fieldA 0 τ6),oD 37 (.load1 (.int .i64) XfF),oD 38 (.fieldA 1 τ6),oD 39 (.load1 (.int .i64) Xgl),oD 40 (.nilCheck XfH),oD 41 (.fieldA 0 Xg4),oD 42 (.fieldA 7 Xg7),oN (.store 1 Xg6 Xfm)] [(5,9)] [oD 43 (.nilCheck XfG),oD 44 (.fieldA 0 Xg5),oD 45 (.fieldA 8 Xhv),oN (.store 1 Xhw Xgp)]
def XQ1:VC:=.reg [oM 47 τ7,oD 48 (.callF 69 [Xhu]),oM 46 Xh0,oE 49 0 XhZ,oE 50 1 XhZ,oD 9 (.alloc [(.bool false),(.int .i64 0),(.int .u32 0),(.string ⟨⟨[]⟩⟩),(.string ⟨⟨[]⟩⟩),(.string ⟨⟨[]⟩⟩)]),oN (.store 6 τ9 Xh9),oM 10 Xiq]
def XMD:VC:=.reg [oM 51 Xcj,oD 52 (.bin .eql Xi5 (.const (.int .i64 0)))]
def XJg:VC:=.regD [oM 53 τ1,oM 54 τ1,oD 55 (.fieldA 0 τ9),oD 56 (.load1 .bool XjT),oD 57 (.fieldA 3 τ9),oD 58 (.load1 .str Xj7),oD 59 (.nilCheck XjE),oD 60 (.fieldA 13 XkB),oN (.store 1 XkV XkA)] [(5,8)] [oD 61 (.nilCheck XjP),oD 62 (.fieldA 14 Xlq),oN (.store 1 Xl6 Xkj)]
def XIF:VC:=.cond Xjx XJg .skip
def XQi:VC:=.seq XMD XIF
def XLE:VC:=.seq XQ1 XQi
def XEy:VC:=.reg [oM 63 τ7,oD 64 (.lenS Xm0),oM 4 Xnc,oD 5 (.mv (.const (.int .i64 0)))]
def XRE:VC:=.seq XEy .ret
def XEr:VC:=.seq XLE XRE
def XGJ:VC:=.seq XHc XEr
def XIr:VC:=.seq XRw XGJ
def XE2:VC:=.seq X0F XIr
def Xvl:VC:=.seq X8a XE2
def XUj:VFn:=⟨65,Xvl,[.tmp 4,.tmp 5]⟩
def X2p:VC:=.reg [oD 4 (.box τ1),oD 5 (.box τ2),oD 6 (.alloc [(.int .i64 0),(.int .i64 0)]),oD 7 (.mv (.const (.string ⟨⟨[]⟩⟩))),oD 8 (.mv (.const (.int .i64 0)))]
def XYp:VC:=.reg [oM 14 τ0,oD 15 (.callF 112 [Xc7]),oM 9 XcY]
def X5Z:VC:=.reg [oM 16 τ9,oD 17 (.callF 113 [Xc1,(.const (.int .i64 2))]),oM 18 τ9,oD 19 (.callF 113 [Xdw,(.const (.int .i64 2))]),oD 20 (.build [(.int .i64 0),(.int .i64 0)] [(0,1,Xc0),(1,1,Xdk)]),oD 10 (.alloc [(.int .i64 0),(.int .i64 0)]),oN (.store 2 Xcj XdE)]
def X3z:VC:=.reg [oM 21 τ9,oD 22 (.callF 113 [XdX,(.const (.int .i64 2))]),oM 23 τ9,oD 24 (.callF 113 [Xep,(.const (.int .i64 2))]),oM 11 Xeh,oM 12 Xek]
def XSP:VC:=.reg [oM 26 τ9,oD 27 (.callF 114 [XdY]),oM 25 XeH]
def X6f:VC:=.reg [oD 28 (.build [(.int .i64 0),(.int .i64 0)] []),oN (.store 2 τ6 XeD),oD 7 (.mv (.const (.string ⟨⟨[]⟩⟩))),oD 8 (.mv (.const (.int .i64 2)))]
def XVc:VC:=.seq X6f .ret
def X4n:VC:=.reg [oM 30 Xb4,oD 31 (.bin .lss XeO (.const (.int .i64 8))),oM 29 XeP]
def X1F:VC:=.reg [oD 32 (.build [(.int .i64 0),(.int .i64 0)] []),oN (.store 2 τ6 Xfj),oD 7 (.mv (.const (.string ⟨⟨[]⟩⟩))),oD 8 (.mv (.const (.int .i64 3)))]
def XXq:VC:=.seq X1F .ret
def XLe:VC:=.reg [oM 34 Xb4,oM 35 τ0,oD 36 (.lenS XfG),oD 37 (.bin .gtr XfH XfF),oM 33 Xfm]
def XD8:VC:=.reg [oD 38 (.build [(.int .i64 0),(.int .i64 0)] []),oN (.store 2 τ6 Xgl),oD 7 (.mv (.const (.string ⟨⟨[]⟩⟩))),oD 8 (.mv (.const (.int .i64 2)))]
def XJt:VC:=.seq XD8 .ret
def XGk:VC:=.cond XfE XJt .skip
def XHN:VC:=.seq XLe XGk
def XFd:VC:=.cond XeG XXq XHN
def XQe:VC:=.seq X4n XFd
def XDI:VC:=.cond XeI XVc XQe
def XOw:VC:=.seq XSP XDI
def XIh:VC:=.block 0 XOw
def XNr:VC:=.reg [oD 39 (.loadN [.bool,(.int .u64),(.int .u64)] τ4),oD 40 (.loadN [.bool,(.int .u64),(.int .u64)] τ5),oM 41 Xb4,oD 42 (.callF 125 [Xgp,Xg4,(.const (.int .i64 17)),Xg7]),oM 13 Xg6]
def XJV:VC:=.reg [oM 44 XcM,oD 45 (.bin .eql Xhv (.const (.string ⟨⟨[]⟩⟩))),oM 43 Xhw]
def XDT:VC:=.reg [oD 46 (.build [(.int .i64 0),(.int .i64 0)] []),oN (.store 2 τ6 XhZ),oD 7 (.mv (.const (.string ⟨⟨[]⟩⟩))),oD 8 (.mv (.const (.int .i64 1)))]
def XLi:VC:=.seq XDT .ret
def XP8:VC:=.reg [oM 48 XcH,oD 49 (.bin .eql Xh0 (.const (.int .i64 0))),oM 50 Xh9,oG 51 (.fieldA 0 τ4) 50 true,oG 52 (.load1 .bool Xi5) 50 true,oD 53 (.pick Xiq Xjx (.const (.bool false))),oM 47 XjE]
def XMK:VC:=.reg [oM 54 XcH,oD 55 (.bin .neq XjP (.const (.int .i64 0))),oM 56 XjT,oG 57 (.mv XcM) 56 true,oG 58 (.mv τ0) 56 true,oG 59 (.mv Xb4) 56 true,oG 60 (.sliceS Xkj none (some XkB)) 56 true,oG 61 (.bin .add Xj7 XkV) 56 true,oG 62 (.callF 146 [Xlq]) 56 true,oG 63 (.not Xl6) 56 true,oD 64 (.pick XkA Xm0 (.const (.bool false))),oM 47 Xnc]
def XMe:VC:=.cond Xhu .skip XMK
def XI3:VC:=.seq XP8 XMe
def XPm:VC:=.reg [oD 65 (.build [(.int .i64 0),(.int .i64 0)] []),oN (.store 2 τ6 XnT),oD 7 (.mv (.const (.string ⟨⟨[]⟩⟩))),oD 8 (.mv (.const (.int .i64 4)))]
def XPQ:VC:=.seq XPm .ret
def XMM:VC:=.cond Xhu XPQ .skip
def XMS:VC:=.seq XI3 XMM
def XEe:VC:=.cond Xg5 XLi XMS
def XJT:VC:=.seq XJV XEe
def XRI:VC:=.block 1 XJT
def XMv:VC:=.regD [oD 66 (.loadN [(.int .i64),(.int .i64)] Xcj),oM 67 τ0,oM 68 Xb4,oD 69 (.sliceS XnI (some (.const (.int .i64 8))) (some Xos)),oN (.store 2 τ6 Xnr)] [] [oM 7 XoR,oD 8 (.mv (.const (.int .i64 0)))]
def XLx:VC:=.seq XMv .ret
def XQT:VC:=.seq XRI XLx
def XGN:VC:=.seq XNr XQT
def XGI:VC:=.seq XIh XGN
def XLo:VC:=.seq X3z XGI
def XRx:VC:=.seq X5Z XLo
def XP4:VC:=.seq XYp XRx
def Xv6:VC:=.seq X2p XP4
def X5d:VFn:=⟨70,Xv6,[.cell 6 [(.int .i64),(.int .i64)] true,.tmp 7,.tmp 8]⟩
def k69_0:VC:=.reg [oD 2 (.alloc [(.bool false),(.int .i64 0),(.int .u32 0),(.string ⟨⟨[]⟩⟩),(.string ⟨⟨[]⟩⟩),(.string ⟨⟨[]⟩⟩)]),oD 3 (.mv (.const (.int .i64 0)))]
def k69_1:VC:=.reg [oM 9 τ0,oD 10 (.callF 112 [τ9]),oM 4 Xcj]
def k69_2:VC:=.reg [oM 11 τ4,oD 12 (.callF 113 [Xb4,(.const (.int .i64 1))]),oM 5 XcH]
def k69_3:VC:=.reg [oM 14 τ4,oD 15 (.callF 114 [Xc7]),oM 13 XcY]
def k69_4:VC:=.reg [oD 16 (.build [(.bool false),(.int .i64 0),(.int .u32 0),(.string ⟨⟨[]⟩⟩),(.string ⟨⟨[]⟩⟩),(.string ⟨⟨[]⟩⟩)] []),oN (.store 6 τ2 Xc1),oD 3 (.mv (.const (.int .i64 2)))]
def k69_5:VC:=.seq k69_4 .ret
def k69_6:VC:=.reg [oM 18 τ5,oD 19 (.bin .and Xdw (.const (.int .i64 64))),oD 20 (.bin .eql Xdk (.const (.int .i64 0))),oM 17 XdE]
def k69_7:VC:=.reg [oD 21 (.build [(.bool false),(.int .i64 0),(.int .u32 0),(.string ⟨⟨[]⟩⟩),(.string ⟨⟨[]⟩⟩),(.string ⟨⟨[]⟩⟩)] []),oN (.store 6 τ2 XdX),oD 3 (.mv (.const (.int .i64 3)))]
def k69_8:VC:=.seq k69_7 .ret
def k69_9:VC:=.cond Xc0 k69_8 .skip
def XTo:VC:=.seq k69_6 k69_9
def XUt:VC:=.cond XcM k69_5 XTo
def Yci:VC:=.seq k69_3 XUt
def XSR:VC:=.block 0 Yci
def X57:VC:=.reg [oM 22 τ5,oD 23 (.bin .and Xeh (.const (.int .i64 128))),oD 24 (.bin .neq Xep (.const (.int .i64 0))),oM 25 τ5,oD 26 (.bin .and XeI (.const (.int .i64 63))),oD 27 (.build [(.bool false),(.int .i64 0),(.int .u32 0),(.string ⟨⟨[]⟩⟩),(.string ⟨⟨[]⟩⟩),(.string ⟨⟨[]⟩⟩)] [(0,1,Xek),(1,1,XdY)]),oD 6 (.alloc [(.bool false),(.int .i64 0),(.int .u32 0),(.string ⟨⟨[]⟩⟩),(.string ⟨⟨[]⟩⟩),(.string ⟨⟨[]⟩⟩)]),oN (.store 6 τ6 XeH)]
def X88:VC:=.reg [oD 28 (.fieldA 0 τ6),oD 29 (.load1 .bool XeD),oD 30 (.not XeG)]
def XXy:VC:=.reg [oM 31 τ4,oD 32 (.mkFunc 115 [XeP] []),oM 7 Xfj]
def X6a:VC:=.reg [oM 33 τ7,oD 34 (.callV XfE [(.const (.int .i64 8))]),oD 35 (.fieldA 3 τ6),oN (.store 1 XfG XfH)]
def Ycy:VC:=.reg [oM 36 τ4,oD 37 (.callF 114 [XfF])]
def XS6:VC:=.reg [oD 38 (.build [(.bool false),(.int .i64 0),(.int .u32 0),(.string ⟨⟨[]⟩⟩),(.string ⟨⟨[]⟩⟩),(.string ⟨⟨[]⟩⟩)] []),oN (.store 6 τ2 Xgl),oD 3 (.mv (.const (.int .i64 2)))]
def X8M:VC:=.seq XS6 .ret
def X54:VC:=.cond Xfm X8M .skip
def X5P:VC:=.seq Ycy X54
def XV8:VC:=.seq X6a X5P
def X3U:VC:=.reg [oM 39 τ4,oD 40 (.callF 116 [Xgp]),oD 41 (.fieldA 5 τ6),oN (.store 1 Xg7 Xg4)]
def XTi:VC:=.reg [oD 42 (.loadN [.bool,(.int .i64),(.int .u32),.str,.str,.str] τ6),oN (.store 6 τ2 Xg6),oD 3 (.mv (.const (.int .i64 0)))]
def XWh:VC:=.seq XTi .ret
def XUr:VC:=.seq X3U XWh
def XU8:VC:=.seq XV8 XUr
def X4z:VC:=.seq XXy XU8
def XTa:VC:=.cond XeO X4z .skip
def XY9:VC:=.seq X88 XTa
def X2E:VC:=.reg [oM 43 τ4,oD 44 (.callF 113 [Xg5,(.const (.int .i64 4))]),oD 45 (.conv .u32 Xhv),oD 46 (.fieldA 2 τ6),oN (.store 1 XhZ Xhw)]
def XZl:VC:=.reg [oM 47 τ4,oD 48 (.fieldA 3 τ6),oD 49 (.fieldA 4 τ6),oD 50 (.buildSl 2 1 [(.pointer none),(.pointer none)] [(0,1,Xh0),(1,1,Xh9)]),oD 51 (.callF 117 [(.func 118),Xhu,Xiq]),oM 8 Xi5]
def XYz:VC:=.reg [oM 52 τ8,oD 53 (.bin .neq Xjx (.const (.int .i64 0)))]
def X3k:VC:=.reg [oD 54 (.build [(.bool false),(.int .i64 0),(.int .u32 0),(.string ⟨⟨[]⟩⟩),(.string ⟨⟨[]⟩⟩),(.string ⟨⟨[]⟩⟩)] []),oM 55 τ8,oN (.store 6 τ2 XjP),oM 3 XjT]
def X3m:VC:=.seq X3k .ret
def XUg:VC:=.cond XjE X3m .skip
def XUS:VC:=.seq XYz XUg
def Ydh:VC:=.seq XZl XUS
def XSW:VC:=.reg [oM 56 τ4,oD 57 (.callF 116 [XkA]),oD 58 (.fieldA 5 τ6),oN (.store 1 Xkj Xj7)]
def X9Z:VC:=.reg [oD 59 (.loadN [.bool,(.int .i64),(.int .u32),.str,.str,.str] τ6),oN (.store 6 τ2 XkB),oD 3 (.mv (.const (.int .i64 0)))]
def YbS:VC:=.seq X9Z .ret
def X0g:VC:=.seq XSW YbS
def XZm:VC:=.seq Ydh X0g
def XWQ:VC:=.seq X2E XZm
def X4H:VC:=.seq XY9 XWQ
def XWY:VC:=.seq X57 X4H
def YcD:VC:=.seq XSR XWY
def Ycp:VC:=.seq k69_2 YcD
def XVo:VC:=.seq k69_1 Ycp
def XB3:VC:=.seq k69_0 XVo
def fn69:VFn:=⟨60,XB3,[.cell 2 [.bool,(.int .i64),(.int .u32),.str,.str,.str] true,.tmp 3]⟩
def YaC:VC:=.reg [oD 2 (.mv (.const (.string ⟨⟨[]⟩⟩)))]
def XZb:VC:=.reg [oM 3 τ0,oD 4 (.callF 114 [τ3])]
def XYU:VC:=.reg [oD 2 (.mv (.const (.string ⟨⟨[]⟩⟩)))]
def X7g:VC:=.seq XYU .ret
def X3V:VC:=.cond τ4 X7g .skip
def XXm:VC:=.seq XZb X3V
def XXG:VC:=.reg [oM 5 τ0,oM 6 τ0,oD 7 (.nilCheck τ6),oD 8 (.fieldA 0 τ7),oD 9 (.load1 .str τ8),oD 10 (.lenS τ9),oD 11 (.callF 115 [τ5,Xcj]),oM 2 Xb4]
def X7T:VC:=.seq XXG .ret
def Yc4:VC:=.seq XXm X7T
def XCz:VC:=.seq YaC Yc4
def YdH:VFn:=⟨12,XCz,[.tmp 2]⟩
def Yca:VC:=.reg [oD 6 (.mv (.const (.int .i64 0)))]
def X2N:VC:=.reg [oM 11 τ2,oD 12 (.lenL Xb4),oD 13 (.mv (.const (.int .i64 0)))]
def X9g:VC:=.reg [oD 14 (.bin .lss XcM XcH)]
def XUD:VC:=.cond Xc7 .skip (.exit 0)
def X8s:VC:=.reg [oD 15 (.idxAL 1 Xb4 XcM),oD 16 (.load1 .oth XcY),oM 8 Xc1]
def X5A:VC:=.reg [oM 18 τ0,oM 19 τ1,oD 20 (.callV Xdw [Xdk]),oM 17 XdE,oE 21 0 Xc0,oE 22 1 Xc0,oM 9 XdX,oM 10 Xeh]
def Ybu:VC:=.reg [oM 23 Xcj,oD 24 (.bin .neq Xep (.const (.int .i64 0)))]
def XVM:VC:=.reg [oM 25 Xcj,oM 6 XeI]
def XWP:VC:=.seq XVM .ret
def YaP:VC:=.cond Xek XWP .skip
def XNu:VC:=.seq Ybu YaP
def XN2:VC:=.reg [oM 26 τ8,oM 27 τ9,oD 28 (.nilCheck XdY),oN (.store 1 XeD XeH)]
def XQp:VC:=.seq XNu XN2
def XLf:VC:=.seq X5A XQp
def XI6:VC:=.seq X8s XLf
def XG2:VC:=.block 1 XI6
def XGU:VC:=.reg [oD 29 (.bin .add XcM (.const (.int .i64 1))),oM 13 XeG]
def XNG:VC:=.seq XG2 XGU
def XGg:VC:=.seq XUD XNG
def XNg:VC:=.seq X9g XGg
def XLY:VC:=.loop XNg
def XFj:VC:=.block 0 XLY
def XHq:VC:=.seq X2N XFj
def XEX:VC:=.reg [oD 6 (.mv (.const (.int .i64 0)))]
def XHY:VC:=.seq XEX .ret
def XEl:VC:=.seq XHq XHY
def XQf:VC:=.seq Yca XEl
def X0B:VFn:=⟨30,XQf,[.tmp 6]⟩
def XVe:VC:=.reg [oD 2 (.mv (.const (.string ⟨⟨[]⟩⟩))),oD 3 (.mv (.const (.int .i64 0)))]
def X4E:VC:=.reg [oM 6 τ0,oD 7 (.callF 113 [τ6,(.const (.int .i64 1))]),oM 4 τ7]
def XUk:VC:=.reg [oM 8 τ0,oD 9 (.callF 114 [τ8]),oD 10 (.not τ9),oM 11 Xcj,oG 12 (.mv τ4) 11 true,oG 13 (.bin .gtr XcH (.const (.int .i64 20))) 11 true,oD 14 (.pick Xb4 XcM (.const (.bool false)))]
def XSC:VC:=.reg [oD 2 (.mv (.const (.string ⟨⟨[]⟩⟩))),oD 3 (.mv (.const (.int .i64 3)))]
def X3O:VC:=.seq XSC .ret
def XVm:VC:=.cond Xc7 X3O .skip
def Yb8:VC:=.seq XUk XVm
def Ydv:VC:=.reg [oM 15 τ0,oM 16 τ4,oD 17 (.callF 115 [XcY,Xc1]),oM 5 Xc0]
def X6R:VC:=.reg [oM 18 τ0,oD 19 (.callF 114 [Xdw])]
def X0C:VC:=.reg [oD 2 (.mv (.const (.string ⟨⟨[]⟩⟩))),oD 3 (.mv (.const (.int .i64 2)))]
def XNO:VC:=.seq X0C .ret
def XEW:VC:=.cond Xdk XNO .skip
def XD5:VC:=.seq X6R XEW
def XLF:VC:=.reg [oM 20 τ5,oM 2 XdE,oD 3 (.mv (.const (.int .i64 0)))]
def XEV:VC:=.seq XLF .ret
def XMj:VC:=.seq XD5 XEV
def XJc:VC:=.seq Ydv XMj
def XE9:VC:=.seq Yb8 XJc
def XD6:VC:=.seq X4E XE9
def XuX:VC:=.seq XVe XD6
def X7E:VFn:=⟨21,XuX,[.tmp 2,.tmp 3]⟩
def k23_0:VC:=.reg [oD 4 (.box τ0),oD 8 (.mv (.const (.string ⟨⟨[]⟩⟩))),oD 9 (.mv (.const (.int .i64 0)))]
def k23_1:VC:=.reg [oD 13 (.fieldA 0 τ4),oD 14 (.load1 (.int .i64) XcM),oD 15 (.bin .neq Xc7 (.const (.int .i64 6)))]
def k23_2:VC:=.reg [oD 8 (.mv (.const (.string ⟨⟨[]⟩⟩))),oD 9 (.mv (.const (.int .i64 1)))]
def k23_3:VC:=.seq k23_2 .ret
def k23_4:VC:=.cond XcY k23_3 .skip
def k23_5:VC:=.seq k23_1 k23_4
def k23_6:VC:=.reg [oD 16 (.fieldA 7 τ4),oD 17 (.load1 (.int .i64) Xc1),oD 18 (.fieldA 8 τ4),oD 19 (.load1 (.int .i64) Xdw),oM 20 τ1,oM 21 τ2,oD 22 (.build [(.int .i64 0),(.int .i64 0),(.int .u32 0),(.int .u32 0),(.int .i64 0),(.int .i64 0),(.int .i64 0),(.string ⟨⟨[]⟩⟩)] [(0,1,Xc0),(1,1,Xdk),(4,1,XdE),(5,1,(.const (.int .i64 65535))),(7,1,XdX)]),oD 10 (.alloc [(.int .i64 0),(.int .i64 0),(.int .u32 0),(.int .u32 0),(.int .i64 0),(.int .i64 0),(.int .i64 0),(.string ⟨⟨[]⟩⟩)]),oN (.store 8 Xcj Xeh)]
def k23_7:VC:=.reg [oD 24 (.loadN [(.int .i64),(.int .i64),(.int .u32),(.int .u32),(.int .i64),(.int .i64),(.int .i64),.str] Xcj),oD 25 (.fieldA 1 τ4),oD 26 (.loadN [.bool,(.int .u64),(.int .u64)] XeI),oD 27 (.fieldA 4 τ4),oD 28 (.loadN [.bool,(.int .u64),(.int .u64)] XeH),oM 29 τ3,oD 30 (.callF 77 [Xek,XdY,XeD,XeG]),oM 23 XeO,oE 31 0 Xep,oE 32 1 Xep,oM 11 XeP,oM 12 Xfj]
def k23_8:VC:=.reg [oM 33 XcH,oD 34 (.bin .neq XfE (.const (.int .i64 0)))]
def k23_9:VC:=.reg [oM 35 XcH,oD 8 (.mv (.const (.string ⟨⟨[]⟩⟩))),oM 9 XfG]
def XZR:VC:=.seq k23_9 .ret
def XX9:VC:=.cond XfH XZR .skip
def YaB:VC:=.seq k23_8 XX9
def Ycc:VC:=.reg [oD 36 (.loadN [(.int .i64),.bool,(.int .u64),(.int .u64),.bool,(.int .u64),(.int .u64),(.int .i64),(.int .i64)] τ4),oM 37 Xb4,oD 38 (.callF 27 [XfF,Xfm]),oE 39 0 Xgl,oE 40 1 Xgl,oM 8 Xgp,oM 9 Xg4]
def X23:VC:=.seq Ycc .ret
def X35:VC:=.seq YaB X23
def XUQ:VC:=.seq k23_7 X35
def X97:VC:=.seq k23_6 XUQ
def XSg:VC:=.seq k23_5 X97
def XBQ:VC:=.seq k23_0 XSg
def fn23:VFn:=⟨41,XBQ,[.tmp 8,.tmp 9]⟩
def k77_0:VC:=.reg [oD 4 (.box τ0),oD 5 (.box τ1),oD 6 (.box τ2),oD 8 (.mv (.const (.string ⟨⟨[]⟩⟩))),oD 9 (.mv (.const (.int .i64 0)))]
def k77_1:VC:=.reg [oD 13 (.fieldA 7 τ4),oD 14 (.load1 .str XcM),oD 15 (.lenS Xc7),oD 16 (.bin .add (.const (.int .i64 20)) XcY),oM 10 Xc1]
def k77_2:VC:=.reg [oD 17 (.loadN [.bool,(.int .u64),(.int .u64)] τ5),oD 18 (.loadN [.bool,(.int .u64),(.int .u64)] τ6),oM 19 Xcj,oM 20 τ3,oD 21 (.lenS XdE),oD 22 (.bin .add Xdk XdX),oD 23 (.callF 125 [Xc0,Xdw,(.const (.int .i64 6)),Xeh]),oM 11 Xep]
def k77_3:VC:=.reg [oD 25 (.loadN [(.int .i64),(.int .i64),(.int .u32),(.int .u32),(.int .i64),(.int .i64),(.int .i64),.str] τ4),oD 26 (.callF 126 [XeI]),oD 27 (.not XdY),oM 28 XeH,oG 29 (.mv Xb4) 28 false,oG 30 (.bin .eql XeG (.const (.string ⟨⟨[]⟩⟩))) 28 false,oD 31 (.pick XeD (.const (.bool true)) XeO),oM 24 XeP]
def k77_4:VC:=.reg [oD 8 (.mv (.const (.string ⟨⟨[]⟩⟩))),oD 9 (.mv (.const (.int .i64 1)))]
def k77_5:VC:=.seq k77_4 .ret
def k77_6:VC:=.reg [oM 33 τ3,oD 34 (.lenS XfE),oM 35 Xcj,oD 36 (.bin .sub (.const (.int .i64 65535)) XfG),oD 37 (.bin .gtr XfH XfF),oM 32 Xfm]
def k77_7:VC:=.reg [oD 8 (.mv (.const (.string ⟨⟨[]⟩⟩))),oD 9 (.mv (.const (.int .i64 5)))]
def k77_8:VC:=.seq k77_7 .ret
def k77_9:VC:=.cond Xfj k77_8 .skip
def XYP:VC:=.seq k77_6 k77_9
def XXC:VC:=.cond Xek k77_5 XYP
def YbG:VC:=.seq k77_3 XXC
def X6C:VC:=.block 0 YbG
def XYC:VC:=.reg [oD 38 (.loadN [(.int .i64),(.int .i64),(.int .u32),(.int .u32),(.int .i64),(.int .i64),(.int .i64),.str] τ4),oD 39 (.callF 127 [Xgl]),oM 40 τ3,oD 41 (.bin .add Xgp Xg4),oM 12 Xg7]
def X3n:VC:=.reg [oM 42 XcH,oM 43 Xb4,oM 44 XcH,oD 45 (.bin .add Xg5 Xhv),oD 46 (.callF 128 [Xhw]),oD 47 (.conv .u64 XhZ),oD 48 (.callF 73 [Xg6,(.const (.int .i64 16)),(.const (.int .i64 2)),Xhu]),oM 8 Xh0,oD 9 (.mv (.const (.int .i64 0)))]
def X5K:VC:=.seq X3n .ret
def Ydp:VC:=.seq XYC X5K
def XSY:VC:=.seq X6C Ydp
def X27:VC:=.seq k77_2 XSY
def X8X:VC:=.seq k77_1 X27
def XCT:VC:=.seq k77_0 X8X
def fn77:VFn:=⟨49,XCT,[.tmp 8,.tmp 9]⟩
def X5s:VC:=.reg [oD 1 (.box τ0),oD 2 (.mv (.const (.bool false)))]
def X7X:VC:=.reg [oD 3 (.fieldA 0 τ1),oD 4 (.load1 (.int .i64) τ3),oD 5 (.fieldA 1 τ1),oD 6 (.load1 (.int .i64) τ5),oD 7 (.fieldA 5 τ1),oD 8 (.load1 (.int .i64) τ7),oD 9 (.fieldA 6 τ1),oD 10 (.load1 (.int .i64) τ9),oD 11 (.buildSl 4 1 [(.int .i64 0),(.int .i64 0),(.int .i64 0),(.int .i64 0)] [(0,1,τ4),(1,1,τ6),(2,1,τ8),(3,1,Xcj)]),oD 12 (.callF 175 [(.const (.int .i64 65535)),Xb4]),oM 13 XcH,oG 14 (.fieldA 4 τ1) 13 true,oG 15 (.load1 (.int .i64) Xc7) 13 true,oG 16 (.buildSl 1 1 [(.int .i64 0)] [(0,1,XcY)]) 13 true,oG 17 (.callF 175 [(.const (.int .i64 255)),Xc1]) 13 true,oD 18 (.pick XcM Xc0 (.const (.bool false))),oM 19 Xdw,oG 20 (.fieldA 7 τ1) 19 true,oG 21 (.load1 .str XdE) 19 true,oG 22 (.lenS XdX) 19 true,oG 23 (.bin .rem Xeh (.const (.int .i64 4))) 19 true,oG 24 (.bin .eql Xep (.const (.int .i64 0))) 19 true,oD 25 (.pick Xdk Xek (.const (.bool false))),oM 26 XeI,oG 27 (.fieldA 7 τ1) 26 true,oG 28 (.load1 .str XeH) 26 true,oG 29 (.lenS XeD) 26 true,oG 30 (.bin .leq XeG (.const (.int .i64 40))) 26 true,oD 31 (.pick XdY XeO (.const (.bool false))),oM 2 XeP]
def X9D:VC:=.seq X7X .ret
def XCe:VC:=.seq X5s X9D
def YcE:VFn:=⟨32,XCe,[.tmp 2]⟩
def X6g:VC:=.reg [oD 4 (.mv (.const (.bool false)))]
def X5V:VC:=.reg [oM 7 τ1,oD 8 (.lenL τ7),oD 9 (.mv (.const (.int .i64 0)))]
def X17:VC:=.reg [oD 10 (.bin .lss τ9 τ8)]
def XXp:VC:=.cond Xcj .skip (.exit 0)
def XWg:VC:=.reg [oD 11 (.idxAL 1 τ7 τ9),oD 12 (.load1 (.int .i64) Xb4),oM 6 XcH]
def YaG:VC:=.reg [oM 13 τ6,oD 14 (.bin .lss XcM (.const (.int .i64 0))),oM 15 Xc7,oG 16 (.mv τ6) 15 false,oG 17 (.mv τ0) 15 false,oG 18 (.bin .gtr Xc1 Xc0) 15 false,oD 19 (.pick XcY (.const (.bool true)) Xdw)]
def XW6:VC:=.reg [oD 4 (.mv (.const (.bool false)))]
def XVW:VC:=.seq XW6 .ret
def XYt:VC:=.cond Xdk XVW .skip
def XYl:VC:=.seq YaG XYt
def XOH:VC:=.seq XWg XYl
def XLA:VC:=.block 1 XOH
def XHd:VC:=.reg [oD 20 (.bin .add τ9 (.const (.int .i64 1))),oM 9 XdE]
def XI8:VC:=.seq XLA XHd
def XRz:VC:=.seq XXp XI8
def Xqb:VC:=.seq X17 XRz
def XPk:VC:=.loop Xqb
def XIS:VC:=.block 0 XPk
def XDC:VC:=.seq X5V XIS
def XMr:VC:=.reg [oD 4 (.mv (.const (.bool true)))]
def XtI:VC:=.seq XMr .ret
def XNU:VC:=.seq XDC XtI
def XsF:VC:=.seq X6g XNU
def Ydx:VFn:=⟨21,XsF,[.tmp 4]⟩
def XV4:VC:=.reg [oD 1 (.box τ0),oD 2 (.mv (.const (.string ⟨⟨[]⟩⟩)))]
def X1E:VC:=.reg [oD 7 (.fieldA 7 τ1),oD 8 (.load1 .str τ7),oD 9 (.lenS τ8),oD 10 (.bin .add (.const (.int .i64 20)) τ9),oD 11 (.conv .u64 Xcj),oD 12 (.bin .quo Xb4 (.const (.int .u64 4))),oM 3 XcH]
def X2a:VC:=.reg [oD 13 (.fieldA 0 τ1),oD 14 (.load1 (.int .i64) XcM),oD 15 (.conv .u64 Xc7),oD 16 (.bin .shl XcY (.const (.int .u64 16))),oD 17 (.fieldA 1 τ1),oD 18 (.load1 (.int .i64) Xc0),oD 19 (.conv .u64 Xdw),oD 20 (.bin .or Xc1 Xdk),oD 21 (.callF 72 [XdE,(.const (.int .i64 4))]),oM 4 XdX]
def YdE:VC:=.reg [oD 22 (.fieldA 2 τ1),oD 23 (.load1 (.int .u32) Xeh),oD 24 (.conv .u64 Xep),oD 25 (.bin .shl Xek (.const (.int .u64 32))),oD 26 (.fieldA 3 τ1),oD 27 (.load1 (.int .u32) XdY),oD 28 (.conv .u64 XeH),oD 29 (.bin .or XeI XeD),oD 30 (.callF 72 [XeG,(.const (.int .i64 8))]),oM 5 XeO]
def X4v:VC:=.regD [oM 31 τ3,oD 32 (.bin .shl XeP (.const (.int .u64 12))),oD 33 (.fieldA 4 τ1),oD 34 (.load1 (.int .i64) XfE),oD 35 (.conv .u64 XfH),oD 36 (.bin .or Xfj XfG),oD 37 (.callF 72 [XfF,(.const (.int .i64 2))]),oD 38 (.fieldA 5 τ1),oD 39 (.load1 (.int .i64) Xgl),oD 40 (.conv .u64 Xgp)] [(6,8)] [oD 41 (.callF 72 [Xg4,(.const (.int .i64 2))]),oD 42 (.bin .add Xfm Xg7),oM 6 Xg6]
def X3y:VC:=.regD [oM 43 τ4,oM 44 τ5,oD 45 (.bin .add Xg5 Xhv),oM 46 τ6,oD 47 (.bin .add Xhw XhZ),oD 48 (.fieldA 6 τ1),oD 49 (.load1 (.int .i64) Xh0),oD 50 (.conv .u64 Xh9),oD 51 (.callF 72 [Xiq,(.const (.int .i64 4))]),oD 52 (.bin .add Xhu Xi5),oD 53 (.fieldA 7 τ1),oD 54 (.load1 .str XjE)] [(8,11)] [oD 55 (.bin .add Xjx XjP),oM 2 XjT]
def X0t:VC:=.seq X3y .ret
def XSB:VC:=.seq X4v X0t
def X91:VC:=.seq YdE XSB
def XUp:VC:=.seq X2a X91
def XJm:VC:=.seq X1E XUp
def Xvb:VC:=.seq XV4 XJm
def X6m:VFn:=⟨56,Xvb,[.tmp 2]⟩
def X81:VC:=.reg [oD 2 (.mv (.const (.int .i64 0)))]
def X48:VC:=.reg [oM 3 τ0,oD 4 (.callF 176 [τ3]),oD 5 (.bin .sub (.const (.int .i64 65535)) τ4),oM 2 τ5]
def X6y:VC:=.seq X48 .ret
def XCh:VC:=.seq X81 X6y
def Yba:VFn:=⟨6,XCh,[.tmp 2]⟩
def k73_0:VC:=.reg [oD 8 (.mv (.const (.string ⟨⟨[]⟩⟩)))]
def k73_1:VC:=.reg [oM 10 τ3,oM 11 τ2,oD 12 (.callF 72 [Xcj,Xb4]),oM 9 XcH]
def k73_2:VC:=.reg [oM 13 τ9,oD 14 (.bin .eql XcM (.const (.string ⟨⟨[]⟩⟩))),oM 15 Xc7,oG 16 (.mv τ1) 15 false,oG 17 (.bin .lss Xc1 (.const (.int .i64 0))) 15 false,oD 18 (.pick XcY (.const (.bool true)) Xc0),oM 19 Xdw,oG 20 (.mv τ0) 19 false,oG 21 (.lenS XdE) 19 false,oG 22 (.mv τ2) 19 false,oG 23 (.bin .sub XdX Xeh) 19 false,oG 24 (.mv τ1) 19 false,oG 25 (.bin .lss Xep Xek) 19 false,oD 26 (.pick Xdk (.const (.bool true)) XeI)]
def k73_3:VC:=.reg [oM 27 τ0,oM 8 XeH]
def k73_4:VC:=.seq k73_3 .ret
def k73_5:VC:=.cond XdY k73_4 .skip
def k73_6:VC:=.seq k73_2 k73_5
def k73_7:VC:=.regD [oM 28 τ0,oM 29 τ1,oD 30 (.sliceS XeD none (some XeG)),oM 31 τ9,oD 32 (.bin .add XeO XeP),oM 33 τ0,oM 34 τ1,oM 35 τ2,oD 36 (.bin .add XfH XfG),oD 37 (.sliceS XfE (some XfF) none)] [] [oD 38 (.bin .add Xfj Xfm),oM 8 Xgl]
def k73_8:VC:=.seq k73_7 .ret
def k73_9:VC:=.seq k73_6 k73_8
def XSV:VC:=.seq k73_1 k73_9
def XB2:VC:=.seq k73_0 XSV
def fn73:VFn:=⟨39,XB2,[.tmp 8]⟩
def k27_0:VC:=.reg [oD 2 (.box τ0),oD 4 (.mv (.const (.string ⟨⟨[]⟩⟩))),oD 5 (.mv (.const (.int .i64 0)))]
def k27_1:VC:=.reg [oD 9 (.fieldA 0 τ2),oD 10 (.load1 (.int .i64) τ9),oD 11 (.bin .eql Xcj (.const (.int .i64 6))),oM 12 Xb4,oG 13 (.fieldA 0 τ2) 12 false,oG 14 (.load1 (.int .i64) XcM) 12 false,oG 15 (.bin .eql Xc7 (.const (.int .i64 17))) 12 false,oD 16 (.pick XcH (.const (.bool true)) XcY),oM 6 Xc1]
def k27_2:VC:=.reg [oM 17 τ6,oD 18 (.not Xc0),oM 19 Xdw,oG 20 (.fieldA 1 τ2) 19 false,oG 21 (.fieldA 0 XdE) 19 false,oG 22 (.load1 .bool XdX) 19 false,oG 23 (.fieldA 4 τ2) 19 false,oG 24 (.fieldA 0 Xep) 19 false,oG 25 (.load1 .bool Xek) 19 false,oG 26 (.eqB true Xeh XeI) 19 false,oD 27 (.pick Xdk (.const (.bool true)) XdY),oM 28 XeH,oG 29 (.fieldA 1 τ2) 28 false,oG 30 (.loadN [.bool,(.int .u64),(.int .u64)] XeG) 28 false,oG 31 (.callF 81 [XeO]) 28 false,oG 32 (.not XeP) 28 false,oD 33 (.pick XeD (.const (.bool true)) Xfj),oM 34 XfE,oG 35 (.fieldA 4 τ2) 34 false,oG 36 (.loadN [.bool,(.int .u64),(.int .u64)] XfG) 34 false,oG 37 (.callF 81 [XfF]) 34 false,oG 38 (.not Xfm) 34 false,oD 39 (.pick XfH (.const (.bool true)) Xgl)]
def k27_3:VC:=.reg [oD 4 (.mv (.const (.string ⟨⟨[]⟩⟩))),oD 5 (.mv (.const (.int .i64 1)))]
def k27_4:VC:=.seq k27_3 .ret
def k27_5:VC:=.cond Xgp k27_4 .skip
def k27_6:VC:=.seq k27_2 k27_5
def k27_7:VC:=.reg [oD 7 (.mv (.const (.string ⟨⟨[]⟩⟩)))]
def k27_8:VC:=.reg [oD 8 (.mv (.const (.int .i64 0)))]
def k27_9:VC:=.reg [oD 40 (.fieldA 1 τ2),oD 41 (.fieldA 0 Xg4),oD 42 (.load1 .bool Xg7)]
def XW9:VC:=.reg [oD 44 (.fieldA 0 τ2),oD 45 (.load1 (.int .i64) Xhv),oD 46 (.fieldA 1 τ2),oD 47 (.loadN [.bool,(.int .u64),(.int .u64)] XhZ),oD 48 (.fieldA 4 τ2),oD 49 (.loadN [.bool,(.int .u64),(.int .u64)] Xh0),oD 50 (.build [(.int .i64 0),(.int .i64 0),(.int .i64 0),(.int .i64 0),(.bool false),(.int .u64 0),(.int .u64 0),(.bool false),(.int .u64 0),(.int .u64 0)] [(2,1,Xhw),(3,1,(.const (.int .i64 64))),(4,3,Xhu),(7,3,Xh9)]),oM 51 τ1,oD 52 (.callF 82 [Xiq,Xi5]),oM 43 Xjx,oE 53 0 Xg5,oE 54 1 Xg5,oM 7 XjE,oM 8 XjP]
def XZQ:VC:=.reg [oD 56 (.fieldA 0 τ2),oD 57 (.load1 (.int .i64) XkA),oD 58 (.fieldA 1 τ2),oD 59 (.loadN [.bool,(.int .u64),(.int .u64)] Xkj),oD 60 (.fieldA 4 τ2),oD 61 (.loadN [.bool,(.int .u64),(.int .u64)] XkV),oD 62 (.build [(.int .i64 0),(.int .i64 0),(.bool false),(.int .i64 0),(.int .i64 0),(.bool false),(.int .u64 0),(.int .u64 0),(.bool false),(.int .u64 0),(.int .u64 0),(.string ⟨⟨[]⟩⟩)] [(2,1,(.const (.bool true))),(3,1,(.const (.int .i64 64))),(4,1,Xj7),(5,3,XkB),(8,3,Xlq)]),oM 63 τ1,oD 64 (.callF 83 [Xl6,Xm0]),oM 55 Xnc,oE 65 0 XjT,oE 66 1 XjT,oM 7 XnT,oM 8 Xnr]
def X5N:VC:=.cond Xg6 XW9 XZQ
def X5Y:VC:=.seq k27_9 X5N
def X8l:VC:=.reg [oM 67 τ8,oD 68 (.bin .eql XnI (.const (.int .i64 0))),oM 69 Xos,oG 70 (.mv τ7) 69 true,oG 71 (.lenS XpE) 69 true,oG 72 (.bin .gtr XpO (.const (.int .i64 9000))) 69 true,oD 73 (.pick XoR Xpt (.const (.bool false)))]
def XY8:VC:=.reg [oD 4 (.mv (.const (.string ⟨⟨[]⟩⟩))),oD 5 (.mv (.const (.int .i64 5)))]
def YbP:VC:=.seq XY8 .ret
def XTm:VC:=.cond XqX YbP .skip
def Ybm:VC:=.seq X8l XTm
def X7U:VC:=.reg [oM 74 τ7,oM 75 τ8,oM 4 Xr0,oM 5 Xsx]
def YaQ:VC:=.seq X7U .ret
def XSw:VC:=.seq Ybm YaQ
def X4I:VC:=.seq X5Y XSw
def YdA:VC:=.seq k27_8 X4I
def X5k:VC:=.seq k27_7 YdA
def XTH:VC:=.seq k27_6 X5k
def X5x:VC:=.seq k27_1 XTH
def XDj:VC:=.seq k27_0 X5x
def fn27:VFn:=⟨76,XDj,[.tmp 4,.tmp 5]⟩
def k82_0:VC:=.reg [oD 2 (.box τ0),oD 4 (.mv (.const (.string ⟨⟨[]⟩⟩))),oD 5 (.mv (.const (.int .i64 0)))]
def k82_1:VC:=.reg [oD 9 (.loadN [(.int .i64),(.int .i64),(.int .i64),(.int .i64),.bool,(.int .u64),(.int .u64),.bool,(.int .u64),(.int .u64)] τ2),oD 10 (.callF 135 [τ9]),oD 11 (.not Xcj),oM 8 Xb4]
def k82_2:VC:=.reg [oD 4 (.mv (.const (.string ⟨⟨[]⟩⟩))),oD 5 (.mv (.const (.int .i64 1)))]
def k82_3:VC:=.seq k82_2 .ret
def k82_4:VC:=.reg [oM 13 τ1,oD 14 (.lenS XcM),oD 15 (.bin .gtr Xc7 (.const (.int .i64 65535))),oM 12 XcY]
def k82_5:VC:=.reg [oD 4 (.mv (.const (.string ⟨⟨[]⟩⟩))),oD 5 (.mv (.const (.int .i64 5)))]
def k82_6:VC:=.seq k82_5 .ret
def k82_7:VC:=.cond XcH k82_6 .skip
def k82_8:VC:=.seq k82_4 k82_7
def k82_9:VC:=.cond τ8 k82_3 k82_8
def Ych:VC:=.seq k82_1 k82_9
def XSz:VC:=.block 0 Ych
def XVC:VC:=.reg [oD 16 (.fieldA 0 τ2),oD 17 (.load1 (.int .i64) Xc1),oD 18 (.conv .u64 Xc0),oD 19 (.bin .shl Xdw (.const (.int .u64 20))),oD 20 (.bin .or (.const (.int .u64 1610612736)) Xdk),oD 21 (.fieldA 1 τ2),oD 22 (.load1 (.int .i64) XdX),oD 23 (.conv .u64 Xeh),oD 24 (.bin .or XdE Xep),oD 25 (.callF 72 [Xek,(.const (.int .i64 4))]),oM 6 XeI]
def XYB:VC:=.reg [oM 26 τ1,oD 27 (.lenS XdY),oD 28 (.conv .u64 XeH),oD 29 (.bin .shl XeD (.const (.int .u64 16))),oD 30 (.fieldA 2 τ2),oD 31 (.load1 (.int .i64) XeO),oD 32 (.conv .u64 XeP),oD 33 (.bin .shl Xfj (.const (.int .u64 8))),oD 34 (.bin .or XeG XfE),oD 35 (.fieldA 3 τ2),oD 36 (.load1 (.int .i64) XfG),oD 37 (.conv .u64 XfF),oD 38 (.bin .or XfH Xfm),oD 39 (.callF 72 [Xgl,(.const (.int .i64 4))]),oM 7 Xgp]
def Yb1:VC:=.regD [oM 40 τ6,oM 41 τ7,oD 42 (.bin .add Xg4 Xg7),oD 43 (.fieldA 4 τ2),oD 44 (.loadN [.bool,(.int .u64),(.int .u64)] Xg5),oD 45 (.callF 136 [Xhv]),oD 46 (.bin .add Xg6 Xhw),oD 47 (.fieldA 7 τ2),oD 48 (.loadN [.bool,(.int .u64),(.int .u64)] Xhu),oD 49 (.callF 136 [Xh0]),oD 50 (.bin .add XhZ Xh9),oM 51 τ1] [(5,8)] [oD 52 (.bin .add Xiq Xi5),oM 4 Xjx,oD 5 (.mv (.const (.int .i64 0)))]
def XYX:VC:=.seq Yb1 .ret
def X2Y:VC:=.seq XYB XYX
def X4G:VC:=.seq XVC X2Y
def XSG:VC:=.seq XSz X4G
def XCJ:VC:=.seq k82_0 XSG
def fn82:VFn:=⟨53,XCJ,[.tmp 4,.tmp 5]⟩
def XTb:VC:=.reg [oD 1 (.box τ0),oD 2 (.mv (.const (.bool false)))]
def XZ2:VC:=.reg [oD 5 (.fieldA 0 τ1),oD 6 (.load1 (.int .i64) τ5),oD 7 (.build [(.int .i64 0),(.int .i64 0)] [(0,1,τ6),(1,1,(.const (.int .i64 255)))]),oD 8 (.fieldA 1 τ1),oD 9 (.load1 (.int .i64) τ8),oD 10 (.build [(.int .i64 0),(.int .i64 0)] [(0,1,τ9),(1,1,(.const (.int .i64 1048575)))]),oD 11 (.fieldA 2 τ1),oD 12 (.load1 (.int .i64) Xb4),oD 13 (.build [(.int .i64 0),(.int .i64 0)] [(0,1,XcH),(1,1,(.const (.int .i64 255)))]),oD 14 (.fieldA 3 τ1),oD 15 (.load1 (.int .i64) Xc7),oD 16 (.build [(.int .i64 0),(.int .i64 0)] [(0,1,XcY),(1,1,(.const (.int .i64 255)))]),oD 17 (.buildSl 4 2 [(.int .i64 0),(.int .i64 0),(.int .i64 0),(.int .i64 0),(.int .i64 0),(.int .i64 0),(.int .i64 0),(.int .i64 0)] [(0,2,τ7),(2,2,Xcj),(4,2,XcM),(6,2,Xc1)]),oD 18 (.lenL Xc0),oD 19 (.mv (.const (.int .i64 0)))]
def Ybp:VC:=.reg [oD 20 (.bin .lss Xdk Xdw)]
def YcY:VC:=.cond XdE .skip (.exit 0)
def XU6:VC:=.reg [oD 21 (.idxAL 2 Xc0 Xdk),oD 22 (.loadN [(.int .i64),(.int .i64)] XdX),oD 4 (.alloc [(.int .i64 0),(.int .i64 0)]),oN (.store 2 τ4 Xeh)]
def XWJ:VC:=.reg [oD 23 (.idxAA 2 1 τ4 (.const (.int .i64 0))),oD 24 (.load1 (.int .i64) Xep),oD 25 (.bin .lss Xek (.const (.int .i64 0))),oM 26 XeI,oG 27 (.idxAA 2 1 τ4 (.const (.int .i64 0))) 26 false,oG 28 (.load1 (.int .i64) XeH) 26 false,oG 29 (.idxAA 2 1 τ4 (.const (.int .i64 1))) 26 false,oG 30 (.load1 (.int .i64) XeG) 26 false,oG 31 (.bin .gtr XeD XeO) 26 false,oD 32 (.pick XdY (.const (.bool true)) XeP)]
def X9n:VC:=.reg [oD 2 (.mv (.const (.bool false)))]
def X9a:VC:=.seq X9n .ret
def XWm:VC:=.cond Xfj X9a .skip
def X62:VC:=.seq XWJ XWm
def XQM:VC:=.seq XU6 X62
def XMz:VC:=.block 1 XQM
def XMh:VC:=.reg [oD 33 (.bin .add Xdk (.const (.int .i64 1))),oM 19 XfE]
def XFG:VC:=.seq XMz XMh
def XOS:VC:=.seq YcY XFG
def XHF:VC:=.seq Ybp XOS
def XPO:VC:=.loop XHF
def XEL:VC:=.block 0 XPO
def XEf:VC:=.seq XZ2 XEL
def XGA:VC:=.reg [oD 34 (.fieldA 4 τ1),oD 35 (.fieldA 0 XfH),oD 36 (.load1 .bool XfG),oM 37 XfF,oG 38 (.fieldA 7 τ1) 37 true,oG 39 (.fieldA 0 Xgl) 37 true,oG 40 (.load1 .bool Xgp) 37 true,oD 41 (.pick Xfm Xg4 (.const (.bool false))),oM 2 Xg7]
def XO3:VC:=.seq XGA .ret
def XKf:VC:=.seq XEf XO3
def XtV:VC:=.seq XTb XKf
def XYm:VFn:=⟨42,XtV,[.tmp 2]⟩
def k83_0:VC:=.reg [oD 2 (.box τ0),oD 4 (.mv (.const (.string ⟨⟨[]⟩⟩))),oD 5 (.mv (.const (.int .i64 0)))]
def k83_1:VC:=.reg [oD 9 (.fieldA 11 τ2),oD 10 (.load1 .str τ9),oD 11 (.lenS Xcj),oD 12 (.bin .add (.const (.int .i64 20)) Xb4),oM 6 XcH]
def k83_2:VC:=.reg [oD 14 (.loadN [(.int .i64),(.int .i64),.bool,(.int .i64),(.int .i64),.bool,(.int .u64),(.int .u64),.bool,(.int .u64),(.int .u64),.str] τ2),oD 15 (.callF 137 [Xc7]),oD 16 (.not XcY),oM 13 Xc1]
def k83_3:VC:=.reg [oD 4 (.mv (.const (.string ⟨⟨[]⟩⟩))),oD 5 (.mv (.const (.int .i64 1)))]
def k83_4:VC:=.seq k83_3 .ret
def k83_5:VC:=.reg [oM 18 τ1,oD 19 (.lenS Xdw),oM 20 τ6,oD 21 (.bin .sub (.const (.int .i64 65535)) XdE),oD 22 (.bin .gtr Xdk XdX),oM 17 Xeh]
def k83_6:VC:=.reg [oD 4 (.mv (.const (.string ⟨⟨[]⟩⟩))),oD 5 (.mv (.const (.int .i64 5)))]
def k83_7:VC:=.seq k83_6 .ret
def k83_8:VC:=.cond Xc0 k83_7 .skip
def k83_9:VC:=.seq k83_5 k83_8
def XVj:VC:=.cond XcM k83_4 k83_9
def XW1:VC:=.seq k83_2 XVj
def X8J:VC:=.block 0 XW1
def X7h:VC:=.reg [oD 7 (.mv (.const (.int .i64 0)))]
def X6P:VC:=.reg [oD 23 (.fieldA 2 τ2),oD 24 (.load1 .bool Xep)]
def YcQ:VC:=.reg [oD 7 (.mv (.const (.int .i64 64)))]
def X5C:VC:=.cond Xek YcQ .skip
def X6X:VC:=.seq X6P X5C
def XXa:VC:=.reg [oM 25 τ6,oD 26 (.bin .quo XeI (.const (.int .i64 4))),oD 27 (.bin .or (.const (.int .i64 64)) XdY),oD 28 (.fieldA 0 τ2),oD 29 (.load1 (.int .i64) XeD),oM 30 τ6,oM 31 τ1,oD 32 (.lenS XeP),oD 33 (.bin .add XeO Xfj),oD 34 (.fieldA 1 τ2),oD 35 (.load1 (.int .i64) XfH),oM 36 τ7,oD 37 (.fieldA 3 τ2),oD 38 (.load1 (.int .i64) Xfm),oD 39 (.fieldA 4 τ2),oD 40 (.load1 (.int .i64) Xgp),oD 41 (.buildSl 18 1 [(.int .i64 0),(.int .i64 0),(.int .i64 0),(.int .i64 0),(.int .i64 0),(.int .i64 0),(.int .i64 0),(.int .i64 0),(.int .i64 0),(.int .i64 0),(.int .i64 0),(.int .i64 0),(.int .i64 0),(.int .i64 0),(.int .i64 0),(.int .i64 0),(.int .i64 0),(.int .i64 0)] [(0,1,XeH),(1,1,(.const (.int .i64 1))),(2,1,XeG),(3,1,(.const (.int .i64 1))),(4,1,XfE),(5,1,(.const (.int .i64 2))),(6,1,XfG),(7,1,(.const (.int .i64 2))),(8,1,XfF),(9,1,(.const (.int .i64 1))),(10,1,(.const (.int .i64 0))),(11,1,(.const (.int .i64 1))),(12,1,Xgl),(13,1,(.const (.int .i64 1))),(14,1,Xg4),(15,1,(.const (.int .i64 1))),(16,1,(.const (.int .i64 0))),(17,1,(.const (.int .i64 2)))]),oD 42 (.callF 138 [Xg7]),oM 8 Xg6]
def XUl:VC:=.regD [oM 43 τ8,oD 44 (.fieldA 5 τ2),oD 45 (.loadN [.bool,(.int .u64),(.int .u64)] Xhv),oD 46 (.callF 136 [Xhw]),oD 47 (.fieldA 8 τ2),oD 48 (.loadN [.bool,(.int .u64),(.int .u64)] Xhu),oD 49 (.callF 136 [Xh0]),oD 50 (.bin .add XhZ Xh9),oD 51 (.fieldA 11 τ2),oD 52 (.load1 .str Xi5),oD 53 (.bin .add Xiq Xjx)] [(3,5),(3,9),(6,9)] [oD 54 (.bin .add Xg5 XjE),oM 8 XjP]
def XYs:VC:=.reg [oM 55 τ8,oM 56 τ8,oD 57 (.callF 128 [XkA]),oD 58 (.conv .u64 Xj7),oD 59 (.callF 73 [XjT,(.const (.int .i64 10)),(.const (.int .i64 2)),Xkj]),oM 60 τ1,oD 61 (.bin .add XkB XkV),oM 4 Xlq,oD 5 (.mv (.const (.int .i64 0)))]
def XVN:VC:=.seq XYs .ret
def X2q:VC:=.seq XUl XVN
def Ydn:VC:=.seq XXa X2q
def X4b:VC:=.seq X6X Ydn
def Yc6:VC:=.seq X7h X4b
def X6e:VC:=.seq X8J Yc6
def XW4:VC:=.seq k83_1 X6e
def XCH:VC:=.seq k83_0 XW4
def fn83:VFn:=⟨62,XCH,[.tmp 4,.tmp 5]⟩
def X5p:VC:=.reg [oD 1 (.box τ0),oD 2 (.mv (.const (.bool false)))]
def XWk:VC:=.reg [oD 3 (.fieldA 0 τ1),oD 4 (.load1 (.int .i64) τ3),oD 5 (.callF 179 [τ4,(.const (.int .i64 255))]),oD 6 (.not τ5),oM 7 τ6,oG 8 (.fieldA 1 τ1) 7 false,oG 9 (.load1 (.int .i64) τ8) 7 false,oG 10 (.callF 179 [τ9,(.const (.int .i64 65535))]) 7 false,oG 11 (.not Xcj) 7 false,oD 12 (.pick τ7 (.const (.bool true)) Xb4),oM 13 XcH,oG 14 (.fieldA 3 τ1) 13 false,oG 15 (.load1 (.int .i64) Xc7) 13 false,oG 16 (.callF 179 [XcY,(.const (.int .i64 255))]) 13 false,oG 17 (.not Xc1) 13 false,oD 18 (.pick XcM (.const (.bool true)) Xc0),oM 19 Xdw,oG 20 (.fieldA 4 τ1) 19 false,oG 21 (.load1 (.int .i64) XdE) 19 false,oG 22 (.callF 179 [XdX,(.const (.int .i64 255))]) 19 false,oG 23 (.not Xeh) 19 false,oD 24 (.pick Xdk (.const (.bool true)) Xep)]
def X0z:VC:=.reg [oD 2 (.mv (.const (.bool false)))]
def X89:VC:=.seq X0z .ret
def XT4:VC:=.cond Xek X89 .skip
def X9q:VC:=.seq XWk XT4
def X0H:VC:=.reg [oD 25 (.fieldA 5 τ1),oD 26 (.loadN [.bool,(.int .u64),(.int .u64)] XeI),oD 27 (.callF 180 [XdY]),oM 28 XeH,oG 29 (.fieldA 8 τ1) 28 true,oG 30 (.loadN [.bool,(.int .u64),(.int .u64)] XeG) 28 true,oG 31 (.callF 180 [XeO]) 28 true,oD 32 (.pick XeD XeP (.const (.bool false))),oM 33 Xfj,oG 34 (.fieldA 11 τ1) 33 true,oG 35 (.load1 .str XfH) 33 true,oG 36 (.lenS XfG) 33 true,oG 37 (.bin .rem XfF (.const (.int .i64 4))) 33 true,oG 38 (.bin .eql Xfm (.const (.int .i64 0))) 33 true,oD 39 (.pick XfE Xgl (.const (.bool false))),oM 40 Xgp,oG 41 (.fieldA 11 τ1) 40 true,oG 42 (.load1 .str Xg7) 40 true,oG 43 (.lenS Xg6) 40 true,oG 44 (.bin .leq Xg5 (.const (.int .i64 40))) 40 true,oD 45 (.pick Xg4 Xhv (.const (.bool false))),oM 2 Xhw]
def Ydb:VC:=.seq X0H .ret
def XUb:VC:=.seq X9q Ydb
def XDt:VC:=.seq X5p XUb
def XXF:VFn:=⟨46,XDt,[.tmp 2]⟩
def XWv:VC:=.reg [oD 4 (.mv (.const (.bool false)))]
def X7r:VC:=.reg [oM 5 τ0,oD 6 (.bin .leq (.const (.int .i64 0)) τ5),oM 7 τ6,oG 8 (.mv τ0) 7 true,oG 9 (.mv τ1) 7 true,oG 10 (.bin .leq τ8 τ9) 7 true,oD 11 (.pick τ7 Xcj (.const (.bool false))),oM 4 Xb4]
def XYT:VC:=.seq X7r .ret
def XBm:VC:=.seq XWv XYT
def XV2:VFn:=⟨12,XBm,[.tmp 4]⟩
def XUG:VC:=.reg [oD 1 (.box τ0),oD 2 (.mv (.const (.bool false)))]
def XSJ:VC:=.reg [oD 3 (.fieldA 0 τ1),oD 4 (.load1 .bool τ3),oD 5 (.not τ4),oM 6 τ5,oG 7 (.loadN [.bool,(.int .u64),(.int .u64)] τ1) 6 true,oG 8 (.callF 81 [τ7]) 6 true,oD 9 (.pick τ6 τ8 (.const (.bool false))),oM 2 τ9]
def X1w:VC:=.seq XSJ .ret
def XCd:VC:=.seq XUG X1w
def X4Q:VFn:=⟨10,XCd,[.tmp 2]⟩
def k12_0:VC:=.reg [oD 2 (.alloc [(.int .i64 0),(.bool false),(.int .u64 0),(.int .u64 0),(.bool false),(.int .u64 0),(.int .u64 0),(.int .i64 0),(.int .i64 0),(.int .i64 0),(.bool false),(.int .u32 0),(.int .u32 0),(.bool false),(.string ⟨⟨[]⟩⟩),(.int .i64 0)]),oD 3 (.mv (.const (.int .i64 0)))]
def k12_1:VC:=.reg [oM 9 τ0,oD 10 (.callF 62 [τ9]),oM 8 Xcj,oE 11 0 τ8,oE 12 1 τ8,oE 13 2 τ8,oE 14 3 τ8,oD 4 (.alloc [(.int .i64 0),(.bool false),(.int .u64 0),(.int .u64 0),(.bool false),(.int .u64 0),(.int .u64 0),(.int .i64 0),(.int .i64 0),(.int .i64 0),(.bool false),(.int .u32 0),(.int .u32 0),(.bool false),(.string ⟨⟨[]⟩⟩),(.int .i64 0)]),oN (.store 16 τ4 Xb4),oM 5 XcH,oM 6 XcM,oM 7 Xc7]
def k12_2:VC:=.reg [oD 15 (.loadN [(.int .i64),.bool,(.int .u64),(.int .u64),.bool,(.int .u64),(.int .u64),(.int .i64),(.int .i64),(.int .i64),.bool,(.int .u32),(.int .u32),.bool,.str,(.int .i64)] τ4),oM 16 τ7,oN (.store 16 τ2 XcY),oM 3 Xc1]
def k12_3:VC:=.seq k12_2 .ret
def k12_4:VC:=.seq k12_1 k12_3
def XUK:VC:=.seq k12_0 k12_4
def fn12:VFn:=⟨17,XUK,[.cell 2 [(.int .i64),.bool,(.int .u64),(.int .u64),.bool,(.int .u64),(.int .u64),(.int .i64),(.int .i64),(.int .i64),.bool,(.int .u32),(.int .u32),.bool,.str,(.int .i64)] true,.tmp 3]⟩
def k62_0:VC:=.reg [oD 2 (.alloc [(.int .i64 0),(.bool false),(.int .u64 0),(.int .u64 0),(.bool false),(.int .u64 0),(.int .u64 0),(.int .i64 0),(.int .i64 0),(.int .i64 0),(.bool false),(.int .u32 0),(.int .u32 0),(.bool false),(.string ⟨⟨[]⟩⟩),(.int .i64 0)]),oD 3 (.mv (.const (.int .i64 0))),oD 4 (.mv (.const (.int .i64 0))),oD 5 (.mv (.const (.int .i64 0)))]
def k62_1:VC:=.reg [oM 18 τ0,oD 19 (.lenS Xdw),oD 20 (.bin .gtr Xdk (.const (.int .i64 9000)))]
def k62_2:VC:=.reg [oD 21 (.build [(.int .i64 0),(.bool false),(.int .u64 0),(.int .u64 0),(.bool false),(.int .u64 0),(.int .u64 0),(.int .i64 0),(.int .i64 0),(.int .i64 0),(.bool false),(.int .u32 0),(.int .u32 0),(.bool false),(.string ⟨⟨[]⟩⟩),(.int .i64 0)] []),oN (.store 16 τ2 XdX),oD 3 (.mv (.const (.int .i64 0))),oD 4 (.mv (.const (.int .i64 0))),oD 5 (.mv (.const (.int .i64 5)))]
def k62_3:VC:=.seq k62_2 .ret
def k62_4:VC:=.cond XdE k62_3 .skip
def k62_5:VC:=.seq k62_1 k62_4
def k62_6:VC:=.reg [oM 22 τ0,oD 23 (.bin .eql Xeh (.const (.string ⟨⟨[]⟩⟩)))]
def k62_7:VC:=.reg [oD 24 (.build [(.int .i64 0),(.bool false),(.int .u64 0),(.int .u64 0),(.bool false),(.int .u64 0),(.int .u64 0),(.int .i64 0),(.int .i64 0),(.int .i64 0),(.bool false),(.int .u32 0),(.int .u32 0),(.bool false),(.string ⟨⟨[]⟩⟩),(.int .i64 0)] []),oN (.store 16 τ2 Xek),oD 3 (.mv (.const (.int .i64 0))),oD 4 (.mv (.const (.int .i64 0))),oD 5 (.mv (.const (.int .i64 2)))]
def k62_8:VC:=.seq k62_7 .ret
def k62_9:VC:=.cond Xep k62_8 .skip
def XTX:VC:=.seq k62_6 k62_9
def X3p:VC:=.reg [oM 26 τ0,oD 27 (.callF 107 [XdY]),oM 25 XeH,oE 28 0 XeI,oE 29 1 XeI,oD 6 (.alloc [(.bool false),(.int .u64 0),(.int .u64 0),(.bool false),(.int .u64 0),(.int .u64 0),(.int .i64 0),(.int .i64 0),(.string ⟨⟨[]⟩⟩)]),oN (.store 9 τ6 XeD),oM 7 XeG]
def Ybc:VC:=.reg [oM 30 τ7,oD 31 (.bin .neq XeO (.const (.int .i64 0)))]
def X3s:VC:=.reg [oD 32 (.build [(.int .i64 0),(.bool false),(.int .u64 0),(.int .u64 0),(.bool false),(.int .u64 0),(.int .u64 0),(.int .i64 0),(.int .i64 0),(.int .i64 0),(.bool false),(.int .u32 0),(.int .u32 0),(.bool false),(.string ⟨⟨[]⟩⟩),(.int .i64 0)] []),oM 33 τ7,oN (.store 16 τ2 Xfj),oD 3 (.mv (.const (.int .i64 0))),oD 4 (.mv (.const (.int .i64 0))),oM 5 XfE]
def Ycm:VC:=.seq X3s .ret
def Ydj:VC:=.cond XeP Ycm .skip
def X1y:VC:=.seq Ybc Ydj
def XZ4:VC:=.reg [oD 34 (.fieldA 7 τ6),oD 35 (.load1 (.int .i64) XfH),oD 36 (.fieldA 8 τ6),oD 37 (.load1 .str XfF),oD 38 (.lenS Xfm),oD 39 (.bin .add XfG Xgl),oM 40 τ0,oD 41 (.lenS Xg4),oD 42 (.bin .neq Xgp Xg7)]
def X3b:VC:=.reg [oD 43 (.build [(.int .i64 0),(.bool false),(.int .u64 0),(.int .u64 0),(.bool false),(.int .u64 0),(.int .u64 0),(.int .i64 0),(.int .i64 0),(.int .i64 0),(.bool false),(.int .u32 0),(.int .u32 0),(.bool false),(.string ⟨⟨[]⟩⟩),(.int .i64 0)] []),oN (.store 16 τ2 Xg5),oD 3 (.mv (.const (.int .i64 0))),oD 4 (.mv (.const (.int .i64 0))),oD 5 (.mv (.const (.int .i64 5)))]
def X6E:VC:=.seq X3b .ret
def X29:VC:=.cond Xg6 X6E .skip
def XT3:VC:=.seq XZ4 X29
def XY4:VC:=.reg [oM 44 τ0,oD 45 (.lenS Xhv),oD 46 (.fieldA 6 τ6),oD 47 (.load1 (.int .i64) XhZ),oD 48 (.fieldA 0 τ6),oD 49 (.loadN [.bool,(.int .u64),(.int .u64)] Xh0),oD 50 (.fieldA 3 τ6),oD 51 (.loadN [.bool,(.int .u64),(.int .u64)] Xiq),oD 52 (.build [(.int .i64 0),(.bool false),(.int .u64 0),(.int .u64 0),(.bool false),(.int .u64 0),(.int .u64 0),(.int .i64 0),(.int .i64 0)] [(0,1,Xhu),(1,3,Xh9),(4,3,Xi5)]),oD 53 (.build [(.int .i64 0),(.bool false),(.int .u64 0),(.int .u64 0),(.bool false),(.int .u64 0),(.int .u64 0),(.int .i64 0),(.int .i64 0),(.int .i64 0),(.bool false),(.int .u32 0),(.int .u32 0),(.bool false),(.string ⟨⟨[]⟩⟩),(.int .i64 0)] [(15,1,Xhw),(0,9,Xjx)]),oD 8 (.alloc [(.int .i64 0),(.bool false),(.int .u64 0),(.int .u64 0),(.bool false),(.int .u64 0),(.int .u64 0),(.int .i64 0),(.int .i64 0),(.int .i64 0),(.bool false),(.int .u32 0),(.int .u32 0),(.bool false),(.string ⟨⟨[]⟩⟩),(.int .i64 0)]),oN (.store 16 τ8 XjE)]
def Ybr:VC:=.reg [oD 54 (.fieldA 6 τ6),oD 55 (.load1 (.int .i64) XjP),oD 56 (.bin .eql XjT (.const (.int .i64 6)))]
def XUU:VC:=.reg [oD 58 (.fieldA 8 τ6),oD 59 (.load1 .str Xkj),oD 60 (.fieldA 0 τ6),oD 61 (.loadN [.bool,(.int .u64),(.int .u64)] XkV),oD 62 (.fieldA 3 τ6),oD 63 (.loadN [.bool,(.int .u64),(.int .u64)] Xl6),oD 64 (.callF 108 [XkB,Xlq,Xm0]),oM 57 Xnc,oE 65 0 Xj7,oE 66 1 Xj7,oE 67 2 Xj7,oD 9 (.alloc [(.int .i64 0),(.int .i64 0),(.int .u32 0),(.int .u32 0),(.int .i64 0),(.int .i64 0),(.int .i64 0),(.string ⟨⟨[]⟩⟩)]),oN (.store 8 τ9 XnT),oM 10 Xnr,oM 11 XnI]
def X6B:VC:=.reg [oM 68 Xb4,oD 69 (.bin .neq Xos (.const (.int .i64 0)))]
def X31:VC:=.reg [oD 70 (.build [(.int .i64 0),(.bool false),(.int .u64 0),(.int .u64 0),(.bool false),(.int .u64 0),(.int .u64 0),(.int .i64 0),(.int .i64 0),(.int .i64 0),(.bool false),(.int .u32 0),(.int .u32 0),(.bool false),(.string ⟨⟨[]⟩⟩),(.int .i64 0)] []),oM 71 Xb4,oN (.store 16 τ2 XpE),oD 3 (.mv (.const (.int .i64 0))),oD 4 (.mv (.const (.int .i64 0))),oM 5 XpO]
def XX7:VC:=.seq X31 .ret
def XUP:VC:=.cond XoR XX7 .skip
def XTG:VC:=.seq X6B XUP
def X2c:VC:=.reg [oD 72 (.fieldA 0 τ9),oD 73 (.load1 (.int .i64) Xpt),oD 74 (.fieldA 0 τ8),oD 75 (.fieldA 7 Xr0),oN (.store 1 Xsx XqX)]
def Ya2:VC:=.reg [oD 76 (.fieldA 1 τ9),oD 77 (.load1 (.int .i64) Xwv),oD 78 (.fieldA 0 τ8),oD 79 (.fieldA 8 XwM),oN (.store 1 XAL Xtl)]
def Ycf:VC:=.reg [oD 80 (.fieldA 4 τ9),oD 81 (.load1 (.int .i64) XwH),oD 82 (.fieldA 9 τ8),oN (.store 1 Xya Xz4)]
def X9Y:VC:=.reg [oD 84 (.fieldA 7 τ9),oD 85 (.load1 .str XCC),oD 86 (.callF 109 [XNQ]),oM 83 XK0,oE 87 0 XwF,oE 88 1 XwF,oE 89 2 XwF,oM 12 XI9,oM 13 XDa,oM 14 XCF]
def YcR:VC:=.reg [oM 90 Xc7,oD 91 (.bin .geq XKI (.const (.int .i64 0)))]
def XVp:VC:=.reg [oD 92 (.fieldA 10 τ8),oN (.store 1 XHu (.const (.bool true)))]
def X9N:VC:=.reg [oM 93 XcH,oD 94 (.fieldA 11 τ8),oN (.store 1 XCr XJ8)]
def XUZ:VC:=.reg [oM 95 XcM,oD 96 (.fieldA 12 τ8),oN (.store 1 XHW XHH)]
def Yaw:VC:=.seq X9N XUZ
def XXI:VC:=.seq XVp Yaw
def XWq:VC:=.cond XPe XXI .skip
def X7m:VC:=.seq YcR XWq
def YaH:VC:=.regD [oD 97 (.loadN [(.int .i64),.bool,(.int .u64),(.int .u64),.bool,(.int .u64),(.int .u64),(.int .i64),(.int .i64),(.int .i64),.bool,(.int .u32),(.int .u32),.bool,.str,(.int .i64)] τ8),oD 98 (.fieldA 7 τ6),oD 99 (.load1 (.int .i64) XXP),oD 100 (.fieldA 7 τ6),oD 101 (.load1 (.int .i64) XvZ),oD 102 (.bin .add Xxc (.const (.int .i64 20))),oD 103 (.fieldA 7 τ9),oD 104 (.load1 .str XRp),oD 105 (.lenS XEA),oD 106 (.bin .add XRf XJ5),oN (.store 16 τ2 XNC),oM 3 τ99] [(2,10),(4,10),(7,10)] [oM 4 XJS,oD 5 (.mv (.const (.int .i64 0)))]
def X7J:VC:=.seq YaH .ret
def XVz:VC:=.seq X7m X7J
def X40:VC:=.seq X9Y XVz
def X11:VC:=.seq Ycf X40
def X8O:VC:=.seq Ya2 X11
def XYM:VC:=.seq X2c X8O
def YaD:VC:=.seq XTG XYM
def X7j:VC:=.seq XUU YaD
def XZp:VC:=.cond XkA X7j .skip
def X61:VC:=.seq Ybr XZp
def X2n:VC:=.reg [oD 107 (.fieldA 6 τ6),oD 108 (.load1 (.int .i64) XLb),oD 109 (.bin .neq XQq (.const (.int .i64 17)))]
def Ya9:VC:=.reg [oD 110 (.build [(.int .i64 0),(.bool false),(.int .u64 0),(.int .u64 0),(.bool false),(.int .u64 0),(.int .u64 0),(.int .i64 0),(.int .i64 0),(.int .i64 0),(.bool false),(.int .u32 0),(.int .u32 0),(.bool false),(.string ⟨⟨[]⟩⟩),(.int .i64 0)] []),oN (.store 16 τ2 XNb),oD 3 (.mv (.const (.int .i64 0))),oD 4 (.mv (.const (.int .i64 0))),oD 5 (.mv (.const (.int .i64 6)))]
def XTz:VC:=.seq Ya9 .ret
def Yb0:VC:=.cond XQV XTz .skip
def X8T:VC:=.seq X2n Yb0
def X3M:VC:=.reg [oD 112 (.fieldA 8 τ6),oD 113 (.load1 .str XMP),oD 114 (.fieldA 0 τ6),oD 115 (.loadN [.bool,(.int .u64),(.int .u64)] XKF),oD 116 (.fieldA 3 τ6),oD 117 (.loadN [.bool,(.int .u64),(.int .u64)] XIV),oD 118 (.callF 110 [XKx,XJE,XPx]),oM 111 XKe,oE 119 0 Xty,oE 120 1 Xty,oE 121 2 Xty,oD 15 (.alloc [(.int .i64 0),(.int .i64 0)]),oN (.store 2 XcY XP3),oM 16 XQ8,oM 7 XEG]
def Ycx:VC:=.reg [oM 122 τ7,oD 123 (.bin .neq XOg (.const (.int .i64 0)))]
def Ybj:VC:=.reg [oD 124 (.build [(.int .i64 0),(.bool false),(.int .u64 0),(.int .u64 0),(.bool false),(.int .u64 0),(.int .u64 0),(.int .i64 0),(.int .i64 0),(.int .i64 0),(.bool false),(.int .u32 0),(.int .u32 0),(.bool false),(.string ⟨⟨[]⟩⟩),(.int .i64 0)] []),oM 125 τ7,oN (.store 16 τ2 XMJ),oD 3 (.mv (.const (.int .i64 0))),oD 4 (.mv (.const (.int .i64 0))),oM 5 XDN]
def XXB:VC:=.seq Ybj .ret
def X3Z:VC:=.cond XN6 XXB .skip
def XYD:VC:=.seq Ycx X3Z
def XWw:VC:=.reg [oM 126 Xc1,oD 127 (.lenS XKc),oD 128 (.bin .add XQ3 (.const (.int .i64 8))),oD 129 (.fieldA 8 τ6),oD 130 (.load1 .str XN9),oD 131 (.lenS XIs),oD 132 (.bin .neq XQ4 XMC)]
def X2Q:VC:=.reg [oD 133 (.build [(.int .i64 0),(.bool false),(.int .u64 0),(.int .u64 0),(.bool false),(.int .u64 0),(.int .u64 0),(.int .i64 0),(.int .i64 0),(.int .i64 0),(.bool false),(.int .u32 0),(.int .u32 0),(.bool false),(.string ⟨⟨[]⟩⟩),(.int .i64 0)] []),oN (.store 16 τ2 XEk),oD 3 (.mv (.const (.int .i64 0))),oD 4 (.mv (.const (.int .i64 0))),oD 5 (.mv (.const (.int .i64 5)))]
def XZz:VC:=.seq X2Q .ret
def X52:VC:=.cond XPr XZz .skip
def XTj:VC:=.seq XWw X52
def YbR:VC:=.reg [oD 134 (.fieldA 0 XcY),oD 135 (.load1 (.int .i64) XOF),oD 136 (.fieldA 0 τ8),oD 137 (.fieldA 7 XPn),oN (.store 1 XQl XGc)]
def X8F:VC:=.reg [oD 138 (.fieldA 1 XcY),oD 139 (.load1 (.int .i64) XRq),oD 140 (.fieldA 0 τ8),oD 141 (.fieldA 8 XEb),oN (.store 1 XO7 XPU)]
def X5L:VC:=.reg [oM 143 Xc1,oD 144 (.callF 18 [XAI]),oM 142 XF6,oE 145 0 XAk,oE 146 1 XAk,oD 17 (.alloc [(.bool false),(.int .i64 0),(.int .u32 0),(.string ⟨⟨[]⟩⟩),(.string ⟨⟨[]⟩⟩),(.string ⟨⟨[]⟩⟩)]),oN (.store 6 Xc0 XJX),oM 7 XQu]
def XUf:VC:=.reg [oM 147 τ7,oD 148 (.bin .eql XFT (.const (.int .i64 0)))]
def XVh:VC:=.reg [oD 149 (.fieldA 0 Xc0),oD 150 (.load1 .bool XJD),oD 151 (.fieldA 13 τ8),oN (.store 1 XFf XLD)]
def X9H:VC:=.reg [oD 152 (.fieldA 3 Xc0),oD 153 (.load1 .str XPA),oD 154 (.fieldA 14 τ8),oN (.store 1 XDG XNI)]
def XW5:VC:=.seq XVh X9H
def XWb:VC:=.cond XHU XW5 .skip
def XT5:VC:=.seq XUf XWb
def X9V:VC:=.regD [oD 155 (.loadN [(.int .i64),.bool,(.int .u64),(.int .u64),.bool,(.int .u64),(.int .u64),(.int .i64),(.int .i64),(.int .i64),.bool,(.int .u32),(.int .u32),.bool,.str,(.int .i64)] τ8),oD 156 (.fieldA 7 τ6),oD 157 (.load1 (.int .i64) Xy7),oD 158 (.fieldA 7 τ6),oD 159 (.load1 (.int .i64) XJH),oD 160 (.bin .add XFc (.const (.int .i64 8))),oN (.store 16 τ2 XIe),oM 3 XPv] [(2,6),(4,6)] [oM 4 XD4,oD 5 (.mv (.const (.int .i64 0)))]
def X1o:VC:=.seq X9V .ret
def X9X:VC:=.seq XT5 X1o
def XTw:VC:=.seq X5L X9X
def X2I:VC:=.seq X8F XTw
def X5R:VC:=.seq YbR X2I
def XTl:VC:=.seq XTj X5R
def X8u:VC:=.seq XYD XTl
def X8G:VC:=.seq X3M X8u
def YaT:VC:=.seq X8T X8G
def XXi:VC:=.seq X61 YaT
def XWV:VC:=.seq XY4 XXi
def XXe:VC:=.seq XT3 XWV
def YdC:VC:=.seq X1y XXe
def YbL:VC:=.seq X3p YdC
def YbH:VC:=.seq XTX YbL
def X9E:VC:=.seq k62_5 YbH
def XBq:VC:=.seq k62_0 X9E
def fn62:VFn:=⟨161,XBq,[.cell 2 [(.int .i64),.bool,(.int .u64),(.int .u64),.bool,(.int .u64),(.int .u64),(.int .i64),(.int .i64),(.int .i64),.bool,(.int .u32),(.int .u32),.bool,.str,(.int .i64)] true,.tmp 3,.tmp 4,.tmp 5]⟩
def X9h:VC:=.reg [oD 2 (.alloc [(.bool false),(.int .u64 0),(.int .u64 0),(.bool false),(.int .u64 0),(.int .u64 0),(.int .i64 0),(.int .i64 0),(.string ⟨⟨[]⟩⟩)]),oD 3 (.mv (.const (.int .i64 0)))]
def X9t:VC:=.reg [oM 10 τ0,oD 11 (.idxS Xcj (.const (.int .i64 0))),oD 12 (.bin .quo Xb4 (.const (.int .u8 16))),oD 13 (.bin .eql XcH (.const (.int .u8 4)))]
def X8n:VC:=.reg [oM 15 τ0,oD 16 (.callF 165 [XcY]),oM 14 Xc1,oE 17 0 Xc7,oE 18 1 Xc7,oE 19 2 Xc7,oD 4 (.alloc [(.int .i64 0),(.int .i64 0),(.bool false),(.int .i64 0),(.int .i64 0),(.bool false),(.int .u64 0),(.int .u64 0),(.bool false),(.int .u64 0),(.int .u64 0),(.string ⟨⟨[]⟩⟩)]),oN (.store 12 τ4 Xc0),oM 5 Xdw,oM 6 Xdk]
def Ycz:VC:=.reg [oD 20 (.fieldA 5 τ4),oD 21 (.loadN [.bool,(.int .u64),(.int .u64)] XdE),oD 22 (.fieldA 8 τ4),oD 23 (.loadN [.bool,(.int .u64),(.int .u64)] Xeh),oD 24 (.fieldA 4 τ4),oD 25 (.load1 (.int .i64) Xek),oD 26 (.fieldA 11 τ4),oD 27 (.load1 .str XdY),oD 28 (.lenS XeH),oD 29 (.bin .add (.const (.int .i64 20)) XeD),oM 30 τ5,oD 31 (.build [(.bool false),(.int .u64 0),(.int .u64 0),(.bool false),(.int .u64 0),(.int .u64 0),(.int .i64 0),(.int .i64 0),(.string ⟨⟨[]⟩⟩)] [(0,3,XdX),(3,3,Xep),(6,1,XeI),(7,1,XeG),(8,1,XeO)]),oM 32 τ6,oN (.store 9 τ2 XeP),oM 3 Xfj]
def X3L:VC:=.seq Ycz .ret
def Yas:VC:=.seq X8n X3L
def YaO:VC:=.cond XcM Yas .skip
def Yc5:VC:=.seq X9t YaO
def X8H:VC:=.reg [oM 33 τ0,oD 34 (.idxS XfE (.const (.int .i64 0))),oD 35 (.bin .quo XfH (.const (.int .u8 16))),oD 36 (.bin .eql XfG (.const (.int .u8 6)))]
def X4c:VC:=.reg [oM 38 τ0,oD 39 (.callF 166 [Xgl]),oM 37 Xgp,oE 40 0 Xfm,oE 41 1 Xfm,oE 42 2 Xfm,oD 7 (.alloc [(.int .i64 0),(.int .i64 0),(.int .i64 0),(.int .i64 0),(.bool false),(.int .u64 0),(.int .u64 0),(.bool false),(.int .u64 0),(.int .u64 0)]),oN (.store 10 τ7 Xg4),oM 8 Xg7,oM 9 Xg6]
def XQ0:VC:=.reg [oD 43 (.fieldA 4 τ7),oD 44 (.loadN [.bool,(.int .u64),(.int .u64)] Xg5),oD 45 (.fieldA 7 τ7),oD 46 (.loadN [.bool,(.int .u64),(.int .u64)] Xhw),oD 47 (.fieldA 2 τ7),oD 48 (.load1 (.int .i64) Xhu),oM 49 τ8,oD 50 (.build [(.bool false),(.int .u64 0),(.int .u64 0),(.bool false),(.int .u64 0),(.int .u64 0),(.int .i64 0),(.int .i64 0),(.string ⟨⟨[]⟩⟩)] [(0,3,Xhv),(3,3,XhZ),(6,1,Xh0),(7,1,(.const (.int .i64 40))),(8,1,Xh9)]),oM 51 τ9,oN (.store 9 τ2 Xiq),oM 3 Xi5]
def XOG:VC:=.seq XQ0 .ret
def XFP:VC:=.seq X4c XOG
def XKZ:VC:=.cond XfF XFP .skip
def XM6:VC:=.seq X8H XKZ
def XL4:VC:=.reg [oD 52 (.build [(.bool false),(.int .u64 0),(.int .u64 0),(.bool false),(.int .u64 0),(.int .u64 0),(.int .i64 0),(.int .i64 0),(.string ⟨⟨[]⟩⟩)] []),oN (.store 9 τ2 Xjx),oD 3 (.mv (.const (.int .i64 3)))]
def XFX:VC:=.seq XL4 .ret
def XK1:VC:=.seq XM6 XFX
def XLP:VC:=.seq Yc5 XK1
def XsH:VC:=.seq X9h XLP
def X4Y:VFn:=⟨53,XsH,[.cell 2 [.bool,(.int .u64),(.int .u64),.bool,(.int .u64),(.int .u64),(.int .i64),(.int .i64),.str] true,.tmp 3]⟩
def XUX:VC:=.reg [oD 2 (.alloc [(.int .i64 0),(.int .i64 0),(.bool false),(.int .i64 0),(.int .i64 0),(.bool false),(.int .u64 0),(.int .u64 0),(.bool false),(.int .u64 0),(.int .u64 0),(.string ⟨⟨[]⟩⟩)]),oD 3 (.mv (.const (.string ⟨⟨[]⟩⟩))),oD 4 (.mv (.const (.int .i64 0)))]
def XWe:VC:=.reg [oM 11 τ0,oD 12 (.lenS Xb4),oD 13 (.bin .lss XcH (.const (.int .i64 20)))]
def XWF:VC:=.reg [oD 14 (.build [(.int .i64 0),(.int .i64 0),(.bool false),(.int .i64 0),(.int .i64 0),(.bool false),(.int .u64 0),(.int .u64 0),(.bool false),(.int .u64 0),(.int .u64 0),(.string ⟨⟨[]⟩⟩)] []),oN (.store 12 τ2 Xc7),oD 3 (.mv (.const (.string ⟨⟨[]⟩⟩))),oD 4 (.mv (.const (.int .i64 2)))]
def Ydd:VC:=.seq XWF .ret
def XUy:VC:=.cond XcM Ydd .skip
def X0o:VC:=.seq XWe XUy
def YdD:VC:=.regD [oM 15 τ0,oD 16 (.idxS XcY (.const (.int .i64 0))),oD 17 (.bin .rem Xc1 (.const (.int .u8 16))),oD 18 (.conv .i64 Xc0),oD 19 (.bin .mul (.const (.int .i64 4)) Xdw),oM 20 τ0,oD 21 (.callF 74 [XdE,(.const (.int .i64 2)),(.const (.int .i64 2))])] [] [oM 5 Xdk,oM 6 XdX]
def YaS:VC:=.reg [oM 22 τ0,oD 23 (.idxS Xeh (.const (.int .i64 0))),oD 24 (.bin .quo Xep (.const (.int .u8 16))),oD 25 (.bin .neq Xek (.const (.int .u8 4))),oM 26 XeI,oG 27 (.mv τ5) 26 false,oG 28 (.bin .lss XeH (.const (.int .i64 20))) 26 false,oD 29 (.pick XdY (.const (.bool true)) XeD),oM 30 XeG,oG 31 (.mv τ6) 30 false,oG 32 (.mv τ5) 30 false,oG 33 (.bin .lss XeP Xfj) 30 false,oD 34 (.pick XeO (.const (.bool true)) XfE)]
def XS1:VC:=.reg [oD 35 (.build [(.int .i64 0),(.int .i64 0),(.bool false),(.int .i64 0),(.int .i64 0),(.bool false),(.int .u64 0),(.int .u64 0),(.bool false),(.int .u64 0),(.int .u64 0),(.string ⟨⟨[]⟩⟩)] []),oN (.store 12 τ2 XfG),oD 3 (.mv (.const (.string ⟨⟨[]⟩⟩))),oD 4 (.mv (.const (.int .i64 3)))]
def XXZ:VC:=.seq XS1 .ret
def XD3:VC:=.cond XfH XXZ .skip
def XKj:VC:=.seq YaS XD3
def XMg:VC:=.reg [oM 36 τ0,oD 37 (.lenS XfF),oM 38 τ6,oD 39 (.bin .lss Xfm Xgl)]
def XMb:VC:=.reg [oD 40 (.build [(.int .i64 0),(.int .i64 0),(.bool false),(.int .i64 0),(.int .i64 0),(.bool false),(.int .u64 0),(.int .u64 0),(.bool false),(.int .u64 0),(.int .u64 0),(.string ⟨⟨[]⟩⟩)] []),oN (.store 12 τ2 Xg4),oD 3 (.mv (.const (.string ⟨⟨[]⟩⟩))),oD 4 (.mv (.const (.int .i64 2)))]
def XLt:VC:=.seq XMb .ret
def XH4:VC:=.cond Xgp XLt .skip
def XHK:VC:=.seq XMg XH4
def XF1:VC:=.reg [oM 41 τ0,oM 42 τ5,oD 43 (.sliceS Xg7 none (some Xg6)),oD 44 (.callF 147 [Xg5]),oD 45 (.bin .neq Xhv (.const (.int .i64 65535)))]
def XOs:VC:=.reg [oD 46 (.build [(.int .i64 0),(.int .i64 0),(.bool false),(.int .i64 0),(.int .i64 0),(.bool false),(.int .u64 0),(.int .u64 0),(.bool false),(.int .u64 0),(.int .u64 0),(.string ⟨⟨[]⟩⟩)] []),oN (.store 12 τ2 XhZ),oD 3 (.mv (.const (.string ⟨⟨[]⟩⟩))),oD 4 (.mv (.const (.int .i64 4)))]
def XNX:VC:=.seq XOs .ret
def XFx:VC:=.cond Xhw XNX .skip
def XKn:VC:=.seq XF1 XFx
def XNA:VC:=.reg [oM 47 τ0,oD 48 (.idxS Xhu (.const (.int .i64 6))),oD 49 (.bin .neq Xh0 (.const (.int .u8 0))),oM 50 Xh9,oG 51 (.mv τ0) 50 true,oG 52 (.idxS Xi5 (.const (.int .i64 6))) 50 true,oG 53 (.bin .neq Xjx (.const (.int .u8 64))) 50 true,oD 54 (.pick Xiq XjE (.const (.bool false))),oM 55 XjP,oG 56 (.mv τ0) 55 false,oG 57 (.idxS XkA (.const (.int .i64 7))) 55 false,oG 58 (.bin .neq Xj7 (.const (.int .u8 0))) 55 false,oD 59 (.pick XjT (.const (.bool true)) Xkj)]
def XNw:VC:=.reg [oD 60 (.build [(.int .i64 0),(.int .i64 0),(.bool false),(.int .i64 0),(.int .i64 0),(.bool false),(.int .u64 0),(.int .u64 0),(.bool false),(.int .u64 0),(.int .u64 0),(.string ⟨⟨[]⟩⟩)] []),oN (.store 12 τ2 XkV),oD 3 (.mv (.const (.string ⟨⟨[]⟩⟩))),oD 4 (.mv (.const (.int .i64 7)))]
def XQs:VC:=.seq XNw .ret
def XKo:VC:=.cond XkB XQs .skip
def XG8:VC:=.seq XNA XKo
def XIP:VC:=.reg [oM 62 τ0,oD 63 (.sliceS Xl6 (some (.const (.int .i64 12))) (some (.const (.int .i64 16)))),oD 64 (.callF 195 [Xm0]),oM 61 Xnc,oE 65 0 Xlq,oE 66 1 Xlq,oD 7 (.alloc [(.bool false),(.int .u64 0),(.int .u64 0)]),oN (.store 3 τ7 XnT),oM 8 Xnr]
def XEZ:VC:=.reg [oM 68 τ0,oD 69 (.sliceS Xos (some (.const (.int .i64 16))) (some (.const (.int .i64 20)))),oD 70 (.callF 195 [XoR]),oM 67 XpE,oE 71 0 XnI,oE 72 1 XnI,oD 9 (.alloc [(.bool false),(.int .u64 0),(.int .u64 0)]),oN (.store 3 τ9 XpO),oM 10 Xpt]
def XLM:VC:=.regD [oM 73 τ0,oD 74 (.idxS XqX (.const (.int .i64 1))),oD 75 (.conv .i64 Xr0),oM 76 τ0,oD 77 (.callF 74 [Xwv,(.const (.int .i64 4)),(.const (.int .i64 2))]),oM 78 τ0,oD 79 (.idxS XwM (.const (.int .i64 6))),oD 80 (.bin .eql XAL (.const (.int .u8 64))),oM 81 τ0,oD 82 (.idxS Xz4 (.const (.int .i64 8))),oD 83 (.conv .i64 Xya),oM 84 τ0,oD 85 (.idxS XCC (.const (.int .i64 9))),oD 86 (.conv .i64 XNQ),oD 87 (.loadN [.bool,(.int .u64),(.int .u64)] τ7),oD 88 (.loadN [.bool,(.int .u64),(.int .u64)] τ9),oM 89 τ0,oM 90 τ5,oD 91 (.sliceS XCF (some (.const (.int .i64 20))) (some XKI)),oD 92 (.build [(.int .i64 0),(.int .i64 0),(.bool false),(.int .i64 0),(.int .i64 0),(.bool false),(.int .u64 0),(.int .u64 0),(.bool false),(.int .u64 0),(.int .u64 0),(.string ⟨⟨[]⟩⟩)] [(0,1,Xsx),(1,1,Xtl),(2,1,XwH),(3,1,XwF),(4,1,XK0),(5,3,XI9),(8,3,XDa),(11,1,XPe)]),oM 93 τ0,oM 94 τ5,oM 95 τ6,oD 96 (.sliceS XJ8 (some XCr) (some XHH)),oN (.store 12 τ2 XHu)] [(4,14),(4,15)] [oM 3 XHW,oD 4 (.mv (.const (.int .i64 0)))]
def XHV:VC:=.seq XLM .ret
def XOa:VC:=.seq XEZ XHV
def XD1:VC:=.seq XIP XOa
def XL0:VC:=.seq XG8 XD1
def XKv:VC:=.seq XKn XL0
def XMX:VC:=.seq XHK XKv
def XLz:VC:=.seq XKj XMX
def XMG:VC:=.seq YdD XLz
def XJ6:VC:=.seq X0o XMG
def Xue:VC:=.seq XUX XJ6
def Ybt:VFn:=⟨97,Xue,[.cell 2 [(.int .i64),(.int .i64),.bool,(.int .i64),(.int .i64),.bool,(.int .u64),(.int .u64),.bool,(.int .u64),(.int .u64),.str] true,.tmp 3,.tmp 4]⟩
def k74_0:VC:=.reg [oD 6 (.mv (.const (.int .i64 0)))]
def k74_1:VC:=.reg [oM 10 τ0,oM 11 τ1,oM 12 τ2,oD 13 (.callF 121 [Xcj,Xb4,XcH]),oM 9 XcM,oE 14 0 τ9,oE 15 1 τ9,oM 7 Xc7,oM 8 XcY]
def k74_2:VC:=.reg [oM 16 τ7,oD 17 (.conv .i64 Xc1),oM 6 Xc0]
def k74_3:VC:=.seq k74_2 .ret
def k74_4:VC:=.seq k74_1 k74_3
def XS9:VC:=.seq k74_0 k74_4
def fn74:VFn:=⟨18,XS9,[.tmp 6]⟩
def YbZ:VC:=.reg [oD 6 (.mv (.const (.int .u64 0))),oD 7 (.mv (.const (.bool false)))]
def YaV:VC:=.reg [oM 10 τ2,oD 11 (.bin .lss Xcj (.const (.int .i64 1))),oM 12 Xb4,oG 13 (.mv τ2) 12 false,oG 14 (.bin .gtr XcM (.const (.int .i64 8))) 12 false,oD 15 (.pick XcH (.const (.bool true)) Xc7),oM 16 XcY,oG 17 (.mv τ1) 16 false,oG 18 (.bin .lss Xc0 (.const (.int .i64 0))) 16 false,oD 19 (.pick Xc1 (.const (.bool true)) Xdw),oM 20 Xdk,oG 21 (.mv τ1) 20 false,oG 22 (.mv τ0) 20 false,oG 23 (.lenS Xeh) 20 false,oG 24 (.bin .gtr XdX Xep) 20 false,oD 25 (.pick XdE (.const (.bool true)) Xek),oM 26 XeI,oG 27 (.mv τ2) 26 false,oG 28 (.mv τ0) 26 false,oG 29 (.lenS XeD) 26 false,oG 30 (.mv τ1) 26 false,oG 31 (.bin .sub XeG XeO) 26 false,oG 32 (.bin .gtr XeH XeP) 26 false,oD 33 (.pick XdY (.const (.bool true)) Xfj)]
def XYa:VC:=.reg [oD 6 (.mv (.const (.int .u64 0))),oD 7 (.mv (.const (.bool false)))]
def XTd:VC:=.seq XYa .ret
def XTe:VC:=.cond XfE XTd .skip
def X5H:VC:=.seq YaV XTe
def X4D:VC:=.reg [oD 8 (.mv (.const (.int .u64 0)))]
def YcX:VC:=.reg [oD 9 (.mv (.const (.int .i64 0)))]
def XYf:VC:=.reg [oM 34 τ9,oM 35 τ2,oD 36 (.bin .lss XfH XfG)]
def XZw:VC:=.cond XfF .skip (.exit 0)
def XLR:VC:=.seq XYf XZw
def XK9:VC:=.reg [oM 39 τ8,oD 40 (.bin .mul Xgp (.const (.int .u64 256))),oM 41 τ0,oM 42 τ1,oM 43 τ9,oD 44 (.bin .add Xg6 Xg5),oD 45 (.idxS Xg7 Xhv),oD 46 (.conv .u64 Xhw),oD 47 (.bin .add Xg4 XhZ),oM 8 Xhu]
def XG1:VC:=.block 1 XK9
def XGf:VC:=.reg [oM 37 τ9,oD 38 (.bin .add Xfm (.const (.int .i64 1))),oM 9 Xgl]
def XNv:VC:=.seq XG1 XGf
def XpT:VC:=.seq XLR XNv
def XRj:VC:=.loop XpT
def XHw:VC:=.block 0 XRj
def XEF:VC:=.seq YcX XHw
def XGB:VC:=.reg [oM 48 τ8,oM 6 Xh0,oD 7 (.mv (.const (.bool true)))]
def Xuo:VC:=.seq XGB .ret
def XGj:VC:=.seq XEF Xuo
def XET:VC:=.seq X4D XGj
def XDz:VC:=.seq X5H XET
def Xt4:VC:=.seq YbZ XDz
def X1j:VFn:=⟨49,Xt4,[.tmp 6,.tmp 7]⟩
def X1m:VC:=.reg [oD 2 (.mv (.const (.int .i64 0)))]
def XSD:VC:=.reg [oM 3 τ0,oD 4 (.callF 186 [τ3]),oD 5 (.callF 185 [τ4]),oM 2 τ5]
def XWE:VC:=.seq XSD .ret
def XC5:VC:=.seq X1m XWE
def XU7:VFn:=⟨6,XC5,[.tmp 2]⟩
def Ydk:VC:=.reg [oD 2 (.mv (.const (.slice none 0 0)))]
def X0q:VC:=.reg [oM 5 τ0,oD 6 (.lenS τ5),oD 7 (.bin .rem τ6 (.const (.int .i64 2))),oD 8 (.bin .eql τ7 (.const (.int .i64 1)))]
def X8y:VC:=.reg [oM 9 τ0,oD 10 (.bin .add τ9 (.const (.string ⟨⟨[0]⟩⟩))),oM 0 Xcj]
def XWd:VC:=.cond τ8 X8y .skip
def XZZ:VC:=.seq X0q XWd
def X2G:VC:=.reg [oD 3 (.mv (.const (.slice none 0 0)))]
def XUW:VC:=.reg [oD 4 (.mv (.const (.int .i64 0)))]
def XZd:VC:=.reg [oM 11 τ4,oM 12 τ0,oD 13 (.lenS XcH),oD 14 (.bin .lss Xb4 XcM)]
def X7C:VC:=.cond Xc7 .skip (.exit 0)
def X4J:VC:=.seq XZd X7C
def XPc:VC:=.reg [oM 17 τ3,oM 18 τ0,oM 19 τ4,oD 20 (.callF 74 [Xdw,Xdk,(.const (.int .i64 2))]),oD 21 (.buildSl 1 1 [(.int .i64 0)] [(0,1,XdE)]),oD 22 (.app 3 1 8 Xc0 XdX),oM 3 Xeh]
def XNp:VC:=.block 1 XPc
def XNV:VC:=.reg [oM 15 τ4,oD 16 (.bin .add XcY (.const (.int .i64 2))),oM 4 Xc1]
def XQc:VC:=.seq XNp XNV
def Xp3:VC:=.seq X4J XQc
def XHL:VC:=.loop Xp3
def XOZ:VC:=.block 0 XHL
def XKY:VC:=.seq XUW XOZ
def XHz:VC:=.reg [oM 23 τ3,oM 2 Xep]
def Xwo:VC:=.seq XHz .ret
def XPl:VC:=.seq XKY Xwo
def XEc:VC:=.seq X2G XPl
def XDP:VC:=.seq XZZ XEc
def Xvj:VC:=.seq Ydk XDP
def XVY:VFn:=⟨24,Xvj,[.tmp 2]⟩
def X1M:VC:=.reg [oD 2 (.mv (.const (.int .i64 0)))]
def X3e:VC:=.reg [oD 3 (.mv (.const (.int .i64 0)))]
def XWR:VC:=.reg [oD 4 (.mv (.const (.int .i64 0)))]
def XXx:VC:=.reg [oM 5 τ4,oM 6 τ0,oD 7 (.lenL τ6),oD 8 (.bin .lss τ5 τ7)]
def X6l:VC:=.cond τ8 .skip (.exit 0)
def XYW:VC:=.seq XXx X6l
def XZW:VC:=.reg [oM 11 τ3,oM 12 τ0,oM 13 τ4,oD 14 (.idxAL 1 XcH XcM),oD 15 (.load1 (.int .i64) Xc7),oD 16 (.bin .add Xb4 XcY),oM 3 Xc1]
def X1T:VC:=.block 1 XZW
def XVD:VC:=.reg [oM 9 τ4,oD 10 (.bin .add τ9 (.const (.int .i64 1))),oM 4 Xcj]
def X7F:VC:=.seq X1T XVD
def XpW:VC:=.seq XYW X7F
def XFE:VC:=.loop XpW
def XJI:VC:=.block 0 XFE
def XRt:VC:=.seq XWR XJI
def XEI:VC:=.reg [oM 17 τ3,oD 18 (.bin .gtr Xc0 (.const (.int .i64 65535)))]
def XH3:VC:=.cond Xdw .skip (.exit 2)
def XKu:VC:=.seq XEI XH3
def XP2:VC:=.reg [oM 19 τ3,oD 20 (.bin .rem Xdk (.const (.int .i64 65536))),oM 21 τ3,oD 22 (.bin .quo XdX (.const (.int .i64 65536))),oD 23 (.bin .add XdE Xeh),oM 3 Xep]
def XQX:VC:=.block 3 XP2
def XpP:VC:=.seq XKu XQX
def XF2:VC:=.loop XpP
def XKp:VC:=.block 2 XF2
def XLj:VC:=.reg [oM 24 τ3,oM 2 Xek]
def Xwb:VC:=.seq XLj .ret
def XsT:VC:=.seq XKp Xwb
def XDV:VC:=.seq XRt XsT
def XGs:VC:=.seq X3e XDV
def XsM:VC:=.seq X1M XGs
def XZf:VFn:=⟨25,XsM,[.tmp 2]⟩
def X5B:VC:=.reg [oD 2 (.alloc [(.bool false),(.int .u64 0),(.int .u64 0)]),oD 3 (.mv (.const (.bool false)))]
def XSn:VC:=.reg [oM 10 τ0,oD 11 (.lenS Xcj),oD 12 (.bin .eql Xb4 (.const (.int .i64 4)))]
def Yak:VC:=.reg [oM 14 τ0,oD 15 (.callF 121 [Xc7,(.const (.int .i64 0)),(.const (.int .i64 4))]),oM 13 XcY,oE 16 0 XcM,oE 17 1 XcM,oM 4 Xc1,oM 5 Xc0]
def Yar:VC:=.reg [oM 18 τ4,oD 19 (.build [(.bool false),(.int .u64 0),(.int .u64 0)] [(2,1,Xdw)]),oN (.store 3 τ2 Xdk),oD 3 (.mv (.const (.bool true)))]
def X8c:VC:=.seq Yar .ret
def Yc3:VC:=.seq Yak X8c
def XV0:VC:=.cond XcH Yc3 .skip
def Yaa:VC:=.seq XSn XV0
def X9e:VC:=.reg [oM 20 τ0,oD 21 (.lenS XdE),oD 22 (.bin .eql XdX (.const (.int .i64 16)))]
def X10:VC:=.reg [oM 24 τ0,oD 25 (.callF 121 [Xek,(.const (.int .i64 0)),(.const (.int .i64 8))]),oM 23 XeI,oE 26 0 Xep,oE 27 1 Xep,oM 6 XdY,oM 7 XeH]
def XMB:VC:=.reg [oM 29 τ0,oD 30 (.callF 121 [XeG,(.const (.int .i64 8)),(.const (.int .i64 8))]),oM 28 XeO,oE 31 0 XeD,oE 32 1 XeD,oM 8 XeP,oM 9 Xfj]
def XGd:VC:=.reg [oM 33 τ6,oM 34 τ8,oD 35 (.build [(.bool false),(.int .u64 0),(.int .u64 0)] [(0,1,(.const (.bool true))),(1,1,XfE),(2,1,XfH)]),oN (.store 3 τ2 XfG),oD 3 (.mv (.const (.bool true)))]
def XJP:VC:=.seq XGd .ret
def XRh:VC:=.seq XMB XJP
def XKX:VC:=.seq X10 XRh
def XRF:VC:=.cond Xeh XKX .skip
def XOU:VC:=.seq X9e XRF
def XRB:VC:=.reg [oD 36 (.build [(.bool false),(.int .u64 0),(.int .u64 0)] []),oN (.store 3 τ2 XfF),oD 3 (.mv (.const (.bool false)))]
def XNq:VC:=.seq XRB .ret
def XFq:VC:=.seq XOU XNq
def XLT:VC:=.seq Yaa XFq
def Xuh:VC:=.seq X5B XLT
def X68:VFn:=⟨37,Xuh,[.cell 2 [.bool,(.int .u64),(.int .u64)] true,.tmp 3]⟩
def X4p:VC:=.reg [oD 2 (.alloc [(.int .i64 0),(.int .i64 0),(.int .i64 0),(.int .i64 0),(.bool false),(.int .u64 0),(.int .u64 0),(.bool false),(.int .u64 0),(.int .u64 0)]),oD 3 (.mv (.const (.string ⟨⟨[]⟩⟩))),oD 4 (.mv (.const (.int .i64 0)))]
def X1l:VC:=.reg [oM 11 τ0,oD 12 (.lenS Xb4),oD 13 (.bin .lss XcH (.const (.int .i64 40)))]
def Yc0:VC:=.reg [oD 14 (.build [(.int .i64 0),(.int .i64 0),(.int .i64 0),(.int .i64 0),(.bool false),(.int .u64 0),(.int .u64 0),(.bool false),(.int .u64 0),(.int .u64 0)] []),oN (.store 10 τ2 Xc7),oD 3 (.mv (.const (.string ⟨⟨[]⟩⟩))),oD 4 (.mv (.const (.int .i64 2)))]
def XTY:VC:=.seq Yc0 .ret
def XV5:VC:=.cond XcM XTY .skip
def X2b:VC:=.seq X1l XV5
def XSK:VC:=.reg [oM 15 τ0,oD 16 (.callF 74 [XcY,(.const (.int .i64 0)),(.const (.int .i64 4))]),oM 17 τ0,oD 18 (.callF 74 [Xc0,(.const (.int .i64 4)),(.const (.int .i64 2))]),oM 5 Xc1,oM 6 Xdw]
def X64:VC:=.reg [oM 19 τ5,oD 20 (.bin .quo Xdk (.const (.int .i64 268435456))),oD 21 (.bin .neq XdE (.const (.int .i64 6)))]
def X0c:VC:=.reg [oD 22 (.build [(.int .i64 0),(.int .i64 0),(.int .i64 0),(.int .i64 0),(.bool false),(.int .u64 0),(.int .u64 0),(.bool false),(.int .u64 0),(.int .u64 0)] []),oN (.store 10 τ2 Xeh),oD 3 (.mv (.const (.string ⟨⟨[]⟩⟩))),oD 4 (.mv (.const (.int .i64 3)))]
def XXs:VC:=.seq X0c .ret
def XQJ:VC:=.cond XdX XXs .skip
def XRW:VC:=.seq X64 XQJ
def XFL:VC:=.reg [oM 23 τ0,oD 24 (.lenS Xep),oD 25 (.bin .sub Xek (.const (.int .i64 40))),oM 26 τ6,oD 27 (.bin .lss XeI XdY)]
def XHx:VC:=.reg [oD 28 (.build [(.int .i64 0),(.int .i64 0),(.int .i64 0),(.int .i64 0),(.bool false),(.int .u64 0),(.int .u64 0),(.bool false),(.int .u64 0),(.int .u64 0)] []),oN (.store 10 τ2 XeD),oD 3 (.mv (.const (.string ⟨⟨[]⟩⟩))),oD 4 (.mv (.const (.int .i64 2)))]
def XQQ:VC:=.seq XHx .ret
def XGP:VC:=.cond XeH XQQ .skip
def XPX:VC:=.seq XFL XGP
def XMx:VC:=.reg [oM 30 τ0,oD 31 (.sliceS XeO (some (.const (.int .i64 8))) (some (.const (.int .i64 24)))),oD 32 (.callF 195 [XeP]),oM 29 Xfj,oE 33 0 XeG,oE 34 1 XeG,oD 7 (.alloc [(.bool false),(.int .u64 0),(.int .u64 0)]),oN (.store 3 τ7 XfE),oM 8 XfH]
def XII:VC:=.reg [oM 36 τ0,oD 37 (.sliceS XfF (some (.const (.int .i64 24))) (some (.const (.int .i64 40)))),oD 38 (.callF 195 [Xfm]),oM 35 Xgl,oE 39 0 XfG,oE 40 1 XfG,oD 9 (.alloc [(.bool false),(.int .u64 0),(.int .u64 0)]),oN (.store 3 τ9 Xgp),oM 10 Xg4]
def XL5:VC:=.regD [oM 41 τ5,oD 42 (.bin .quo Xg7 (.const (.int .i64 1048576))),oD 43 (.bin .rem Xg6 (.const (.int .i64 256))),oM 44 τ5,oD 45 (.bin .rem Xhv (.const (.int .i64 1048576))),oM 46 τ0,oD 47 (.idxS XhZ (.const (.int .i64 6))),oD 48 (.conv .i64 Xhu),oM 49 τ0,oD 50 (.idxS Xh9 (.const (.int .i64 7))),oD 51 (.conv .i64 Xiq),oD 52 (.loadN [.bool,(.int .u64),(.int .u64)] τ7),oD 53 (.loadN [.bool,(.int .u64),(.int .u64)] τ9),oD 54 (.build [(.int .i64 0),(.int .i64 0),(.int .i64 0),(.int .i64 0),(.bool false),(.int .u64 0),(.int .u64 0),(.bool false),(.int .u64 0),(.int .u64 0)] [(0,1,Xg5),(1,1,Xhw),(2,1,Xh0),(3,1,Xi5),(4,3,Xjx),(7,3,XjE)]),oM 55 τ0,oM 56 τ6,oD 57 (.bin .add (.const (.int .i64 40)) XkA),oD 58 (.sliceS XjT (some (.const (.int .i64 40))) (some Xj7)),oN (.store 10 τ2 XjP)] [] [oM 3 Xkj,oD 4 (.mv (.const (.int .i64 0)))]
def XOn:VC:=.seq XL5 .ret
def XGl:VC:=.seq XII XOn
def XNT:VC:=.seq XMx XGl
def XHR:VC:=.seq XPX XNT
def XFm:VC:=.seq XRW XHR
def XRJ:VC:=.seq XSK XFm
def XPD:VC:=.seq X2b XRJ
def Xtz:VC:=.seq X4p XPD
def XWB:VFn:=⟨59,Xtz,[.cell 2 [(.int .i64),(.int .i64),(.int .i64),(.int .i64),.bool,(.int .u64),(.int .u64),.bool,(.int .u64),(.int .u64)] true,.tmp 3,.tmp 4]⟩
theorem X2X:(Tryz.prog.funcs[4]?).bind (XaG Tryz.prog)=some fn4:=by kernel_rfl
theorem XJ7:(Tryz.prog.funcs[19]?).bind (XaG Tryz.prog)=some fn19:=by kernel_rfl
theorem XFl:(Tryz.prog.funcs[20]?).bind (XaG Tryz.prog)=some fn20:=by kernel_rfl
theorem XNt:(Tryz.prog.funcs[21]?).bind (XaG Tryz.prog)=some fn21:=by kernel_rfl
theorem XJ0:(Tryz.prog.funcs[76]?).bind (XaG Tryz.prog)=some fn76:=by kernel_rfl
theorem XwS:(Tryz.prog.funcs[122]?).bind (XaG Tryz.prog)=some XVv:=by kernel_rfl
theorem XBe:(Tryz.prog.funcs[172]?).bind (XaG Tryz.prog)=some Yb5:=by kernel_rfl
theorem Xzg:(Tryz.prog.funcs[200]?).bind (XaG Tryz.prog)=some X5t:=by kernel_rfl
theorem XAv:(Tryz.prog.funcs[112]?).bind (XaG Tryz.prog)=some X3R:=by kernel_rfl
theorem Xxl:(Tryz.prog.funcs[113]?).bind (XaG Tryz.prog)=some X1k:=by kernel_rfl
theorem Xx9:(Tryz.prog.funcs[115]?).bind (XaG Tryz.prog)=some X5a:=by kernel_rfl
theorem Xzf:(Tryz.prog.funcs[114]?).bind (XaG Tryz.prog)=some X3a:=by kernel_rfl
theorem XOE:(Tryz.prog.funcs[70]?).bind (XaG Tryz.prog)=some fn70:=by kernel_rfl
theorem XA9:(Tryz.prog.funcs[146]?).bind (XaG Tryz.prog)=some X0l:=by kernel_rfl
theorem Xxx:(Tryz.prog.funcs[176]?).bind (XaG Tryz.prog)=some X9s:=by kernel_rfl
theorem XA6:(Tryz.prog.funcs[170]?).bind (XaG Tryz.prog)=some XVP:=by kernel_rfl
theorem XzH:(Tryz.prog.funcs[197]?).bind (XaG Tryz.prog)=some X3c:=by kernel_rfl
theorem XAb:(Tryz.prog.funcs[199]?).bind (XaG Tryz.prog)=some X7b:=by kernel_rfl
theorem XwU:(Tryz.prog.funcs[209]?).bind (XaG Tryz.prog)=some XSO:=by kernel_rfl
theorem XBb:(Tryz.prog.funcs[210]?).bind (XaG Tryz.prog)=some XW0:=by kernel_rfl
theorem XAf:(Tryz.prog.funcs[201]?).bind (XaG Tryz.prog)=some X3P:=by kernel_rfl
theorem Xxr:(Tryz.prog.funcs[123]?).bind (XaG Tryz.prog)=some YcU:=by kernel_rfl
theorem XAA:(Tryz.prog.funcs[173]?).bind (XaG Tryz.prog)=some YaI:=by kernel_rfl
theorem XzJ:(Tryz.prog.funcs[125]?).bind (XaG Tryz.prog)=some XWr:=by kernel_rfl
theorem XRZ:(Tryz.prog.funcs[81]?).bind (XaG Tryz.prog)=some fn81:=by kernel_rfl
theorem XA0:(Tryz.prog.funcs[136]?).bind (XaG Tryz.prog)=some X4t:=by kernel_rfl
theorem XDM:(Tryz.prog.funcs[72]?).bind (XaG Tryz.prog)=some fn72:=by kernel_rfl
theorem Xzs:(Tryz.prog.funcs[138]?).bind (XaG Tryz.prog)=some X0s:=by kernel_rfl
theorem XA5:(Tryz.prog.funcs[132]?).bind (XaG Tryz.prog)=some XVn:=by kernel_rfl
theorem XyU:(Tryz.prog.funcs[178]?).bind (XaG Tryz.prog)=some XY2:=by kernel_rfl
theorem XxB:(Tryz.prog.funcs[133]?).bind (XaG Tryz.prog)=some X8Q:=by kernel_rfl
theorem XwN:(Tryz.prog.funcs[202]?).bind (XaG Tryz.prog)=some X05:=by kernel_rfl
theorem XAm:(Tryz.prog.funcs[168]?).bind (XaG Tryz.prog)=some XY5:=by kernel_rfl
theorem Xw0:(Tryz.prog.funcs[169]?).bind (XaG Tryz.prog)=some XZX:=by kernel_rfl
theorem Xyu:(Tryz.prog.funcs[196]?).bind (XaG Tryz.prog)=some X38:=by kernel_rfl
theorem Xzn:(Tryz.prog.funcs[111]?).bind (XaG Tryz.prog)=some Yap:=by kernel_rfl
theorem Xzw:(Tryz.prog.funcs[124]?).bind (XaG Tryz.prog)=some XUj:=by kernel_rfl
theorem Xyh:(Tryz.prog.funcs[174]?).bind (XaG Tryz.prog)=some X5d:=by kernel_rfl
theorem XHe:(Tryz.prog.funcs[69]?).bind (XaG Tryz.prog)=some fn69:=by kernel_rfl
theorem Xxe:(Tryz.prog.funcs[116]?).bind (XaG Tryz.prog)=some YdH:=by kernel_rfl
theorem XyM:(Tryz.prog.funcs[117]?).bind (XaG Tryz.prog)=some X0B:=by kernel_rfl
theorem XzQ:(Tryz.prog.funcs[118]?).bind (XaG Tryz.prog)=some X7E:=by kernel_rfl
theorem XK7:(Tryz.prog.funcs[23]?).bind (XaG Tryz.prog)=some fn23:=by kernel_rfl
theorem XJe:(Tryz.prog.funcs[77]?).bind (XaG Tryz.prog)=some fn77:=by kernel_rfl
theorem Xzx:(Tryz.prog.funcs[126]?).bind (XaG Tryz.prog)=some YcE:=by kernel_rfl
theorem Xx4:(Tryz.prog.funcs[175]?).bind (XaG Tryz.prog)=some Ydx:=by kernel_rfl
theorem XAQ:(Tryz.prog.funcs[127]?).bind (XaG Tryz.prog)=some X6m:=by kernel_rfl
theorem XxV:(Tryz.prog.funcs[128]?).bind (XaG Tryz.prog)=some Yba:=by kernel_rfl
theorem XRN:(Tryz.prog.funcs[73]?).bind (XaG Tryz.prog)=some fn73:=by kernel_rfl
theorem XEo:(Tryz.prog.funcs[27]?).bind (XaG Tryz.prog)=some fn27:=by kernel_rfl
theorem XLm:(Tryz.prog.funcs[82]?).bind (XaG Tryz.prog)=some fn82:=by kernel_rfl
theorem Xxf:(Tryz.prog.funcs[135]?).bind (XaG Tryz.prog)=some XYm:=by kernel_rfl
theorem XOY:(Tryz.prog.funcs[83]?).bind (XaG Tryz.prog)=some fn83:=by kernel_rfl
theorem XwO:(Tryz.prog.funcs[137]?).bind (XaG Tryz.prog)=some XXF:=by kernel_rfl
theorem XxF:(Tryz.prog.funcs[179]?).bind (XaG Tryz.prog)=some XV2:=by kernel_rfl
theorem Xz6:(Tryz.prog.funcs[180]?).bind (XaG Tryz.prog)=some X4Q:=by kernel_rfl
theorem XLV:(Tryz.prog.funcs[12]?).bind (XaG Tryz.prog)=some fn12:=by kernel_rfl
theorem XOP:(Tryz.prog.funcs[62]?).bind (XaG Tryz.prog)=some fn62:=by kernel_rfl
theorem XxZ:(Tryz.prog.funcs[107]?).bind (XaG Tryz.prog)=some X4Y:=by kernel_rfl
theorem XxT:(Tryz.prog.funcs[165]?).bind (XaG Tryz.prog)=some Ybt:=by kernel_rfl
theorem XMt:(Tryz.prog.funcs[74]?).bind (XaG Tryz.prog)=some fn74:=by kernel_rfl
theorem Xyg:(Tryz.prog.funcs[121]?).bind (XaG Tryz.prog)=some X1j:=by kernel_rfl
theorem XxE:(Tryz.prog.funcs[147]?).bind (XaG Tryz.prog)=some XU7:=by kernel_rfl
theorem XwV:(Tryz.prog.funcs[186]?).bind (XaG Tryz.prog)=some XVY:=by kernel_rfl
theorem XAi:(Tryz.prog.funcs[185]?).bind (XaG Tryz.prog)=some XZf:=by kernel_rfl
theorem Xw7:(Tryz.prog.funcs[195]?).bind (XaG Tryz.prog)=some X68:=by kernel_rfl
theorem Xxq:(Tryz.prog.funcs[166]?).bind (XaG Tryz.prog)=some XWB:=by kernel_rfl
def XWx:VC:=.reg [oD 4 (.box τ1),oD 5 (.box τ2),oD 6 (.alloc [(.int .i64 0),(.int .i64 0),(.int .u32 0),(.int .u32 0),(.int .i64 0),(.int .i64 0),(.int .i64 0),(.string ⟨⟨[]⟩⟩)]),oD 7 (.mv (.const (.string ⟨⟨[]⟩⟩))),oD 8 (.mv (.const (.int .i64 0)))]
def XWa:VC:=.reg [oM 13 τ0,oD 14 (.lenS XcM),oD 15 (.bin .lss Xc7 (.const (.int .i64 20)))]
def X1t:VC:=.reg [oD 16 (.build [(.int .i64 0),(.int .i64 0),(.int .u32 0),(.int .u32 0),(.int .i64 0),(.int .i64 0),(.int .i64 0),(.string ⟨⟨[]⟩⟩)] []),oN (.store 8 τ6 Xc1),oD 7 (.mv (.const (.string ⟨⟨[]⟩⟩))),oD 8 (.mv (.const (.int .i64 2)))]
def X9B:VC:=.seq X1t .ret
def XYx:VC:=.cond XcY X9B .skip
def X2W:VC:=.seq XWa XYx
def X4B:VC:=.reg [oM 17 τ0,oD 18 (.idxS Xc0 (.const (.int .i64 12))),oD 19 (.bin .quo Xdw (.const (.int .u8 16))),oD 20 (.conv .i64 Xdk),oD 21 (.bin .mul (.const (.int .i64 4)) XdE),oM 9 XdX]
def XUx:VC:=.reg [oM 22 τ9,oD 23 (.bin .lss Xeh (.const (.int .i64 20))),oM 24 Xep,oG 25 (.mv τ0) 24 false,oG 26 (.idxS XeI (.const (.int .i64 12))) 24 false,oG 27 (.bin .rem XdY (.const (.int .u8 16))) 24 false,oG 28 (.bin .neq XeH (.const (.int .u8 0))) 24 false,oD 29 (.pick Xek (.const (.bool true)) XeD)]
def YbJ:VC:=.reg [oD 30 (.build [(.int .i64 0),(.int .i64 0),(.int .u32 0),(.int .u32 0),(.int .i64 0),(.int .i64 0),(.int .i64 0),(.string ⟨⟨[]⟩⟩)] []),oN (.store 8 τ6 XeO),oD 7 (.mv (.const (.string ⟨⟨[]⟩⟩))),oD 8 (.mv (.const (.int .i64 3)))]
def XXK:VC:=.seq YbJ .ret
def XNz:VC:=.cond XeG XXK .skip
def XOC:VC:=.seq XUx XNz
def XHG:VC:=.reg [oM 31 τ0,oD 32 (.lenS XeP),oM 33 τ9,oD 34 (.bin .lss Xfj XfE)]
def XJM:VC:=.reg [oD 35 (.build [(.int .i64 0),(.int .i64 0),(.int .u32 0),(.int .u32 0),(.int .i64 0),(.int .i64 0),(.int .i64 0),(.string ⟨⟨[]⟩⟩)] []),oN (.store 8 τ6 XfG),oD 7 (.mv (.const (.string ⟨⟨[]⟩⟩))),oD 8 (.mv (.const (.int .i64 2)))]
def XMf:VC:=.seq XJM .ret
def XER:VC:=.cond XfH XMf .skip
def XHi:VC:=.seq XHG XER
def XJh:VC:=.reg [oD 36 (.loadN [.bool,(.int .u64),(.int .u64)] τ4),oD 37 (.loadN [.bool,(.int .u64),(.int .u64)] τ5),oM 38 τ0,oD 39 (.lenS Xgl),oD 40 (.callF 129 [XfF,Xfm,(.const (.int .i64 6)),Xgp]),oM 10 Xg4]
def XPa:VC:=.reg [oM 41 Xcj,oD 42 (.bin .eql Xg7 (.const (.string ⟨⟨[]⟩⟩)))]
def XRc:VC:=.reg [oD 43 (.build [(.int .i64 0),(.int .i64 0),(.int .u32 0),(.int .u32 0),(.int .i64 0),(.int .i64 0),(.int .i64 0),(.string ⟨⟨[]⟩⟩)] []),oN (.store 8 τ6 Xg5),oD 7 (.mv (.const (.string ⟨⟨[]⟩⟩))),oD 8 (.mv (.const (.int .i64 1)))]
def XIK:VC:=.seq XRc .ret
def XNe:VC:=.cond Xg6 XIK .skip
def XNR:VC:=.seq XPa XNe
def XPj:VC:=.reg [oM 44 Xcj,oM 45 τ0,oD 46 (.bin .add Xhv Xhw),oD 47 (.callF 147 [XhZ]),oD 48 (.bin .neq Xhu (.const (.int .i64 65535)))]
def XG3:VC:=.reg [oD 49 (.build [(.int .i64 0),(.int .i64 0),(.int .u32 0),(.int .u32 0),(.int .i64 0),(.int .i64 0),(.int .i64 0),(.string ⟨⟨[]⟩⟩)] []),oN (.store 8 τ6 Xh9),oD 7 (.mv (.const (.string ⟨⟨[]⟩⟩))),oD 8 (.mv (.const (.int .i64 4)))]
def XLZ:VC:=.seq XG3 .ret
def XOI:VC:=.cond Xh0 XLZ .skip
def XPT:VC:=.seq XPj XOI
def XJO:VC:=.reg [oM 51 τ0,oM 52 τ9,oD 53 (.sliceS Xi5 (some (.const (.int .i64 20))) (some Xjx)),oD 54 (.callF 167 [XjE]),oM 50 XjP,oE 55 0 Xiq,oE 56 1 Xiq,oM 11 XjT,oM 12 XkA]
def XPK:VC:=.reg [oM 57 XcH,oD 58 (.bin .neq Xj7 (.const (.int .i64 0)))]
def XJo:VC:=.reg [oD 59 (.build [(.int .i64 0),(.int .i64 0),(.int .u32 0),(.int .u32 0),(.int .i64 0),(.int .i64 0),(.int .i64 0),(.string ⟨⟨[]⟩⟩)] []),oM 60 XcH,oN (.store 8 τ6 XkB),oD 7 (.mv (.const (.string ⟨⟨[]⟩⟩))),oM 8 XkV]
def XPp:VC:=.seq XJo .ret
def XP1:VC:=.cond Xkj XPp .skip
def XRu:VC:=.seq XPK XP1
def XRH:VC:=.regD [oM 61 τ0,oD 62 (.callF 74 [Xlq,(.const (.int .i64 0)),(.const (.int .i64 2))]),oM 63 τ0,oD 64 (.callF 74 [Xm0,(.const (.int .i64 2)),(.const (.int .i64 2))]),oM 65 τ0,oD 66 (.callF 74 [XnT,(.const (.int .i64 4)),(.const (.int .i64 4))]),oD 67 (.conv .u32 Xnr),oM 68 τ0,oD 69 (.callF 74 [Xos,(.const (.int .i64 8)),(.const (.int .i64 4))]),oD 70 (.conv .u32 XoR),oM 71 τ0,oD 72 (.idxS XpO (.const (.int .i64 13))),oD 73 (.conv .i64 Xpt),oM 74 τ0,oD 75 (.callF 74 [Xr0,(.const (.int .i64 14)),(.const (.int .i64 2))]),oM 76 τ0,oD 77 (.callF 74 [Xwv,(.const (.int .i64 18)),(.const (.int .i64 2))]),oM 78 τ0,oM 79 τ9,oD 80 (.sliceS XwM (some (.const (.int .i64 20))) (some XAL)),oD 81 (.build [(.int .i64 0),(.int .i64 0),(.int .u32 0),(.int .u32 0),(.int .i64 0),(.int .i64 0),(.int .i64 0),(.string ⟨⟨[]⟩⟩)] [(0,1,Xl6),(1,1,Xnc),(2,1,XnI),(3,1,XpE),(4,1,XqX),(5,1,Xsx),(6,1,Xtl),(7,1,XwH)]),oM 82 τ0,oM 83 τ9,oD 84 (.sliceS Xya (some XwF) none),oN (.store 8 τ6 Xz4)] [] [oM 7 XCC,oD 8 (.mv (.const (.int .i64 0)))]
def XMn:VC:=.seq XRH .ret
def XNn:VC:=.seq XRu XMn
def XIm:VC:=.seq XJO XNn
def XEg:VC:=.seq XPT XIm
def XGE:VC:=.seq XNR XEg
def XLQ:VC:=.seq XJh XGE
def XQv:VC:=.seq XHi XLQ
def XKT:VC:=.seq XOC XQv
def XL1:VC:=.seq X4B XKT
def XGw:VC:=.seq X2W XL1
def Xtn:VC:=.seq XWx XGw
def X0j:VFn:=⟨85,Xtn,[.cell 6 [(.int .i64),(.int .i64),(.int .u32),(.int .u32),(.int .i64),(.int .i64),(.int .i64),.str] true,.tmp 7,.tmp 8]⟩
def XT6:VC:=.reg [oD 4 (.box τ0),oD 5 (.box τ1),oD 8 (.mv (.const (.string ⟨⟨[]⟩⟩)))]
def X4y:VC:=.reg [oD 9 (.loadN [.bool,(.int .u64),(.int .u64)] τ4),oD 10 (.callF 84 [τ9]),oD 11 (.not Xcj),oM 12 Xb4,oG 13 (.loadN [.bool,(.int .u64),(.int .u64)] τ5) 12 false,oG 14 (.callF 84 [XcM]) 12 false,oG 15 (.not Xc7) 12 false,oD 16 (.pick XcH (.const (.bool true)) XcY),oM 17 Xc1,oG 18 (.fieldA 0 τ4) 17 false,oG 19 (.load1 .bool Xdw) 17 false,oG 20 (.fieldA 0 τ5) 17 false,oG 21 (.load1 .bool XdE) 17 false,oG 22 (.eqB true Xdk XdX) 17 false,oD 23 (.pick Xc0 (.const (.bool true)) Xeh)]
def X94:VC:=.reg [oD 8 (.mv (.const (.string ⟨⟨[]⟩⟩)))]
def Yc9:VC:=.seq X94 .ret
def X7I:VC:=.cond Xep Yc9 .skip
def XT2:VC:=.seq X4y X7I
def XUc:VC:=.reg [oD 24 (.fieldA 0 τ4),oD 25 (.load1 .bool Xek)]
def X3F:VC:=.regD [oD 26 (.loadN [.bool,(.int .u64),(.int .u64)] τ4),oD 27 (.callF 141 [XdY]),oD 28 (.loadN [.bool,(.int .u64),(.int .u64)] τ5),oD 29 (.callF 141 [XeD]),oD 30 (.bin .add XeH XeG),oM 31 τ3,oD 32 (.callF 143 [XeP,(.const (.int .i64 4))]),oD 33 (.bin .add XeO Xfj),oD 34 (.callF 143 [(.const (.int .i64 0)),(.const (.int .i64 3))]),oD 35 (.bin .add XfE XfH),oM 36 τ2,oD 37 (.callF 143 [XfF,(.const (.int .i64 1))])] [(1,2)] [oD 38 (.bin .add XfG Xfm),oM 8 Xgl]
def X1V:VC:=.seq X3F .ret
def X4F:VC:=.cond XeI X1V .skip
def XNs:VC:=.seq XUc X4F
def XLy:VC:=.regD [oD 39 (.loadN [.bool,(.int .u64),(.int .u64)] τ4),oD 40 (.callF 141 [Xgp]),oD 41 (.loadN [.bool,(.int .u64),(.int .u64)] τ5),oD 42 (.callF 141 [Xg7]),oD 43 (.bin .add Xg4 Xg6),oD 44 (.callF 143 [(.const (.int .i64 0)),(.const (.int .i64 1))]),oD 45 (.bin .add Xg5 Xhv),oM 46 τ2,oD 47 (.callF 143 [XhZ,(.const (.int .i64 1))]),oD 48 (.bin .add Xhw Xhu),oM 49 τ3,oD 50 (.callF 143 [Xh9,(.const (.int .i64 2))])] [(1,2)] [oD 51 (.bin .add Xh0 Xiq),oM 8 Xi5]
def XJu:VC:=.seq XLy .ret
def XHE:VC:=.seq XNs XJu
def XQH:VC:=.seq XT2 XHE
def Xva:VC:=.seq XT6 XQH
def XXM:VFn:=⟨52,Xva,[.tmp 8]⟩
def k84_0:VC:=.reg [oD 1 (.box τ0),oD 2 (.mv (.const (.bool false)))]
def k84_1:VC:=.reg [oD 3 (.fieldA 0 τ1),oD 4 (.load1 .bool τ3),oM 5 τ4,oG 6 (.fieldA 1 τ1) 5 false,oG 7 (.load1 (.int .u64) τ6) 5 false,oG 8 (.bin .eql τ7 (.const (.int .u64 0))) 5 false,oG 9 (.mv τ8) 5 false,oG 10 (.fieldA 2 τ1) 9 true,oG 11 (.load1 (.int .u64) Xcj) 9 true,oG 12 (.bin .lss Xb4 (.const (.int .u64 4294967296))) 9 true,oG 13 (.pick τ9 XcH (.const (.bool false))) 5 false,oD 14 (.pick τ5 (.const (.bool true)) XcM),oM 2 Xc7]
def k84_2:VC:=.seq k84_1 .ret
def XZE:VC:=.seq k84_0 k84_2
def fn84:VFn:=⟨15,XZE,[.tmp 2]⟩
def X6p:VC:=.reg [oD 1 (.box τ0),oD 2 (.mv (.const (.string ⟨⟨[]⟩⟩)))]
def X99:VC:=.reg [oD 3 (.loadN [.bool,(.int .u64),(.int .u64)] τ1),oD 4 (.callF 84 [τ3]),oD 5 (.not τ4)]
def YaR:VC:=.reg [oD 2 (.mv (.const (.string ⟨⟨[]⟩⟩)))]
def X58:VC:=.seq YaR .ret
def XX4:VC:=.cond τ5 X58 .skip
def X2H:VC:=.seq X99 XX4
def X5u:VC:=.reg [oD 6 (.fieldA 0 τ1),oD 7 (.load1 .bool τ6)]
def XSN:VC:=.regD [oD 8 (.fieldA 1 τ1),oD 9 (.load1 (.int .u64) τ8),oD 10 (.callF 98 [τ9,(.const (.int .i64 8))]),oD 11 (.fieldA 2 τ1),oD 12 (.load1 (.int .u64) Xb4)] [(2,4)] [oD 13 (.callF 98 [XcH,(.const (.int .i64 8))]),oD 14 (.bin .add Xcj XcM),oM 2 Xc7]
def X0u:VC:=.seq XSN .ret
def XSI:VC:=.cond τ7 X0u .skip
def XQd:VC:=.seq X5u XSI
def XMO:VC:=.reg [oD 15 (.fieldA 2 τ1),oD 16 (.load1 (.int .u64) XcY),oD 17 (.callF 98 [Xc1,(.const (.int .i64 4))]),oM 2 Xc0]
def XIq:VC:=.seq XMO .ret
def XOQ:VC:=.seq XQd XIq
def XJG:VC:=.seq X2H XOQ
def Xut:VC:=.seq X6p XJG
def X9W:VFn:=⟨18,Xut,[.tmp 2]⟩
def k98_0:VC:=.reg [oD 4 (.mv (.const (.string ⟨⟨[]⟩⟩)))]
def k98_1:VC:=.reg [oD 5 (.mv (.const (.string ⟨⟨[]⟩⟩)))]
def k98_2:VC:=.reg [oD 6 (.mv (.const (.int .i64 0)))]
def k98_3:VC:=.reg [oM 7 τ6,oM 8 τ1,oD 9 (.bin .lss τ7 τ8),oM 10 τ9,oG 11 (.mv τ1) 10 true,oG 12 (.bin .leq Xb4 (.const (.int .i64 8))) 10 true,oD 13 (.pick Xcj XcH (.const (.bool false)))]
def k98_4:VC:=.cond XcM .skip (.exit 0)
def k98_5:VC:=.seq k98_3 k98_4
def k98_6:VC:=.reg [oM 16 τ0,oD 17 (.bin .rem Xc1 (.const (.int .u64 256))),oD 18 (.conv .u8 Xc0),oD 19 (.buildSl 1 1 [(.int .u8 0)] [(0,1,Xdw)]),oD 20 (.b2s Xdk),oM 21 τ5,oD 22 (.bin .add XdE XdX),oM 5 Xeh]
def k98_7:VC:=.reg [oM 23 τ0,oD 24 (.bin .quo Xep (.const (.int .u64 256))),oM 0 Xek]
def k98_8:VC:=.seq k98_6 k98_7
def k98_9:VC:=.block 1 k98_8
def XXY:VC:=.reg [oM 14 τ6,oD 15 (.bin .add Xc7 (.const (.int .i64 1))),oM 6 XcY]
def XZ0:VC:=.seq k98_9 XXY
def Xvy:VC:=.seq k98_5 XZ0
def X0O:VC:=.loop Xvy
def XZN:VC:=.block 0 X0O
def X6k:VC:=.seq k98_2 XZN
def X8W:VC:=.reg [oM 25 τ5,oM 4 XeI]
def XB5:VC:=.seq X8W .ret
def XVg:VC:=.seq X6k XB5
def X3N:VC:=.seq k98_1 XVg
def XBy:VC:=.seq k98_0 X3N
def fn98:VFn:=⟨26,XBy,[.tmp 4]⟩
def Yav:VC:=.reg [oD 4 (.mv (.const (.string ⟨⟨[]⟩⟩)))]
def XZG:VC:=.reg [oM 5 τ0,oD 6 (.conv .u64 τ5),oM 7 τ1,oD 8 (.callF 98 [τ6,τ7]),oM 4 τ8]
def X0Z:VC:=.seq XZG .ret
def XBl:VC:=.seq Yav X0Z
def X30:VFn:=⟨9,XBl,[.tmp 4]⟩
def X7t:VC:=.reg [oD 2 (.mv (.const (.slice none 0 0))),oD 3 (.mv (.const (.int .i64 0)))]
def X3t:VC:=.reg [oD 4 (.mv (.const (.slice none 0 0)))]
def Ydl:VC:=.reg [oD 5 (.mv (.const (.int .i64 0)))]
def X37:VC:=.reg [oM 7 τ5,oM 8 τ0,oD 9 (.lenS τ8),oD 10 (.bin .lss τ7 τ9),oM 11 Xcj,oG 12 (.mv τ0) 11 true,oG 13 (.mv τ5) 11 true,oG 14 (.idxS XcH XcM) 11 true,oG 15 (.bin .neq Xc7 (.const (.int .u8 0))) 11 true,oD 16 (.pick Xb4 XcY (.const (.bool false)))]
def XTk:VC:=.cond Xc1 .skip (.exit 0)
def YaF:VC:=.seq X37 XTk
def X9v:VC:=.reg [oM 17 τ0,oM 18 τ5,oD 19 (.idxS Xc0 Xdw),oD 20 (.bin .eql Xdk (.const (.int .u8 1)))]
def XT0:VC:=.reg [oM 21 τ5,oD 22 (.bin .add XdX (.const (.int .i64 1))),oM 5 Xeh]
def X7q:VC:=.seq XT0 (.exit 1)
def XXv:VC:=.cond XdE X7q .skip
def XHT:VC:=.seq X9v XXv
def XF4:VC:=.reg [oM 23 τ5,oD 24 (.bin .add Xep (.const (.int .i64 1))),oM 25 τ0,oD 26 (.lenS XeI),oD 27 (.bin .geq Xek XdY),oM 28 XeH,oG 29 (.mv τ0) 28 false,oG 30 (.mv τ5) 28 false,oG 31 (.bin .add XeO (.const (.int .i64 1))) 28 false,oG 32 (.idxS XeG XeP) 28 false,oG 33 (.bin .lss Xfj (.const (.int .u8 2))) 28 false,oD 34 (.pick XeD (.const (.bool true)) XfE),oM 35 XfH,oG 36 (.mv τ0) 35 false,oG 37 (.mv τ5) 35 false,oG 38 (.bin .add Xfm (.const (.int .i64 1))) 35 false,oG 39 (.idxS XfF Xgl) 35 false,oG 40 (.conv .i64 Xgp) 35 false,oG 41 (.mv τ0) 35 false,oG 42 (.lenS Xg7) 35 false,oG 43 (.mv τ5) 35 false,oG 44 (.bin .sub Xg6 Xg5) 35 false,oG 45 (.bin .gtr Xg4 Xhv) 35 false,oD 46 (.pick XfG (.const (.bool true)) Xhw)]
def XGy:VC:=.reg [oD 2 (.mv (.const (.slice none 0 0))),oD 3 (.mv (.const (.int .i64 3)))]
def XKz:VC:=.seq XGy .ret
def XNK:VC:=.cond XhZ XKz .skip
def XGe:VC:=.seq XF4 XNK
def XEn:VC:=.reg [oM 47 τ0,oM 48 τ5,oD 49 (.bin .add Xh0 (.const (.int .i64 1))),oD 50 (.idxS Xhu Xh9),oD 51 (.conv .i64 Xiq),oM 6 Xi5]
def XNF:VC:=.regD [oM 52 τ4,oM 53 τ0,oM 54 τ5,oD 55 (.idxS XjE XjP),oD 56 (.conv .i64 XjT),oM 57 τ0,oM 58 τ5,oD 59 (.bin .add Xkj (.const (.int .i64 2))),oM 60 τ5,oM 61 τ6,oD 62 (.bin .add XkV Xlq),oD 63 (.sliceS Xj7 (some XkB) (some Xl6)),oM 64 τ5,oD 65 (.bin .add Xnc (.const (.int .i64 2))),oD 66 (.build [(.int .i64 0),(.string ⟨⟨[]⟩⟩),(.int .i64 0)] [(0,1,XkA),(1,1,Xm0),(2,1,XnT)]),oD 67 (.buildSl 1 3 [(.int .i64 0),(.string ⟨⟨[]⟩⟩),(.int .i64 0)] [(0,3,Xnr)])] [] [oD 68 (.app 219 3 32 Xjx XnI),oM 4 Xos]
def XOe:VC:=.reg [oM 69 τ5,oM 70 τ6,oD 71 (.bin .add XoR XpE),oM 5 XpO]
def XPy:VC:=.seq XNF XOe
def XF5:VC:=.seq XEn XPy
def XP0:VC:=.seq XGe XF5
def XJp:VC:=.seq XHT XP0
def XFY:VC:=.block 1 XJp
def Xqe:VC:=.seq YaF XFY
def XRM:VC:=.loop Xqe
def XM0:VC:=.block 0 XRM
def XQ7:VC:=.seq Ydl XM0
def XL6:VC:=.reg [oM 72 τ4,oM 2 Xpt,oD 3 (.mv (.const (.int .i64 0)))]
def Xvs:VC:=.seq XL6 .ret
def XL8:VC:=.seq XQ7 Xvs
def XEE:VC:=.seq X3t XL8
def Xwf:VC:=.seq X7t XEE
def X8E:VFn:=⟨73,Xwf,[.tmp 2,.tmp 3]⟩
def X2l:VC:=.reg [oD 2 (.mv (.const (.int .u32 0))),oD 3 (.mv (.const (.int .u32 0))),oD 4 (.mv (.const (.int .i64 0)))]
def XSu:VC:=.reg [oM 9 τ0,oD 10 (.callF 167 [τ9]),oM 8 Xcj,oE 11 0 τ8,oE 12 1 τ8,oM 5 Xb4,oM 6 XcH]
def XWZ:VC:=.reg [oD 7 (.mv (.const (.int .i64 0)))]
def X7R:VC:=.reg [oM 13 τ7,oM 14 τ5,oD 15 (.lenL Xc7),oD 16 (.bin .lss XcM XcY)]
def Ydz:VC:=.cond Xc1 .skip (.exit 0)
def X7Z:VC:=.seq X7R Ydz
def X78:VC:=.reg [oM 19 τ5,oM 20 τ7,oD 21 (.idxAL 3 Xdk XdE),oD 22 (.fieldA 0 XdX),oD 23 (.load1 (.int .i64) Xeh),oD 24 (.bin .eql Xep (.const (.int .i64 8)))]
def XU9:VC:=.reg [oM 25 τ5,oM 26 τ7,oD 27 (.idxAL 3 XeI XdY),oD 28 (.fieldA 1 XeH),oD 29 (.load1 .str XeD),oD 30 (.lenS XeG),oD 31 (.bin .neq XeO (.const (.int .i64 8)))]
def XXA:VC:=.reg [oD 2 (.mv (.const (.int .u32 0))),oD 3 (.mv (.const (.int .u32 0))),oD 4 (.mv (.const (.int .i64 (-1))))]
def YcF:VC:=.seq XXA .ret
def XOp:VC:=.cond XeP YcF .skip
def XGv:VC:=.seq XU9 XOp
def XPu:VC:=.regD [oM 32 τ5,oM 33 τ7,oD 34 (.idxAL 3 Xfj XfE),oD 35 (.fieldA 1 XfH),oD 36 (.load1 .str XfG),oD 37 (.callF 74 [XfF,(.const (.int .i64 0)),(.const (.int .i64 4))]),oD 38 (.conv .u32 Xfm),oM 39 τ5,oM 40 τ7,oD 41 (.idxAL 3 Xgp Xg4),oD 42 (.fieldA 1 Xg7),oD 43 (.load1 .str Xg6),oD 44 (.callF 74 [Xg5,(.const (.int .i64 4)),(.const (.int .i64 4))]),oD 45 (.conv .u32 Xhv),oM 46 τ5,oM 47 τ7,oD 48 (.idxAL 3 XhZ Xhu),oD 49 (.fieldA 2 Xh0),oD 50 (.load1 (.int .i64) Xh9),oM 2 Xgl,oM 3 Xhw] [(5,11),(5,18),(12,18)] [oM 4 Xiq]
def XIj:VC:=.seq XPu .ret
def XHv:VC:=.seq XGv XIj
def XFB:VC:=.cond Xek XHv .skip
def XE4:VC:=.seq X78 XFB
def XMI:VC:=.block 1 XE4
def XHI:VC:=.reg [oM 17 τ7,oD 18 (.bin .add Xc0 (.const (.int .i64 1))),oM 7 Xdw]
def XJY:VC:=.seq XMI XHI
def Xp1:VC:=.seq X7Z XJY
def XQF:VC:=.loop Xp1
def XFr:VC:=.block 0 XQF
def XRd:VC:=.seq XWZ XFr
def XQj:VC:=.reg [oD 2 (.mv (.const (.int .u32 0))),oD 3 (.mv (.const (.int .u32 0))),oD 4 (.mv (.const (.int .i64 (-1))))]
def XsY:VC:=.seq XQj .ret
def XGq:VC:=.seq XRd XsY
def XDD:VC:=.seq XSu XGq
def XuU:VC:=.seq X2l XDD
def XUd:VFn:=⟨51,XuU,[.tmp 2,.tmp 3,.tmp 4]⟩
def XZ7:VC:=.reg [oD 4 (.box τ1),oD 5 (.box τ2),oD 6 (.alloc [(.int .i64 0),(.int .i64 0)]),oD 7 (.mv (.const (.string ⟨⟨[]⟩⟩))),oD 8 (.mv (.const (.int .i64 0)))]
def X7f:VC:=.reg [oM 11 τ0,oD 12 (.lenS Xb4),oD 13 (.bin .lss XcH (.const (.int .i64 8)))]
def Yay:VC:=.reg [oD 14 (.build [(.int .i64 0),(.int .i64 0)] []),oN (.store 2 τ6 Xc7),oD 7 (.mv (.const (.string ⟨⟨[]⟩⟩))),oD 8 (.mv (.const (.int .i64 2)))]
def XS4:VC:=.seq Yay .ret
def X5c:VC:=.cond XcM XS4 .skip
def X7s:VC:=.seq X7f X5c
def XYH:VC:=.reg [oM 15 τ0,oD 16 (.callF 74 [XcY,(.const (.int .i64 4)),(.const (.int .i64 2))]),oM 9 Xc1]
def X7B:VC:=.reg [oM 17 τ9,oD 18 (.bin .lss Xc0 (.const (.int .i64 8)))]
def X2P:VC:=.reg [oD 19 (.build [(.int .i64 0),(.int .i64 0)] []),oN (.store 2 τ6 Xdk),oD 7 (.mv (.const (.string ⟨⟨[]⟩⟩))),oD 8 (.mv (.const (.int .i64 3)))]
def X5q:VC:=.seq X2P .ret
def XHp:VC:=.cond Xdw X5q .skip
def XHB:VC:=.seq X7B XHp
def XON:VC:=.reg [oM 20 τ0,oD 21 (.lenS XdE),oM 22 τ9,oD 23 (.bin .lss XdX Xeh)]
def XI2:VC:=.reg [oD 24 (.build [(.int .i64 0),(.int .i64 0)] []),oN (.store 2 τ6 Xek),oD 7 (.mv (.const (.string ⟨⟨[]⟩⟩))),oD 8 (.mv (.const (.int .i64 2)))]
def XPb:VC:=.seq XI2 .ret
def XMs:VC:=.cond Xep XPb .skip
def XOc:VC:=.seq XON XMs
def XEa:VC:=.reg [oD 25 (.loadN [.bool,(.int .u64),(.int .u64)] τ4),oD 26 (.loadN [.bool,(.int .u64),(.int .u64)] τ5),oM 27 τ9,oD 28 (.callF 129 [XeI,XdY,(.const (.int .i64 17)),XeH]),oM 10 XeD]
def XD7:VC:=.reg [oM 29 Xcj,oD 30 (.bin .eql XeG (.const (.string ⟨⟨[]⟩⟩)))]
def XFb:VC:=.reg [oD 31 (.build [(.int .i64 0),(.int .i64 0)] []),oN (.store 2 τ6 XeP),oD 7 (.mv (.const (.string ⟨⟨[]⟩⟩))),oD 8 (.mv (.const (.int .i64 1)))]
def XKN:VC:=.seq XFb .ret
def XOB:VC:=.cond XeO XKN .skip
def XNj:VC:=.seq XD7 XOB
def XNc:VC:=.reg [oM 32 τ0,oD 33 (.callF 74 [Xfj,(.const (.int .i64 6)),(.const (.int .i64 2))]),oD 34 (.bin .eql XfE (.const (.int .i64 0)))]
def XQx:VC:=.reg [oD 35 (.fieldA 0 τ4),oD 36 (.load1 .bool XfG)]
def XKH:VC:=.reg [oD 37 (.build [(.int .i64 0),(.int .i64 0)] []),oN (.store 2 τ6 Xfm),oD 7 (.mv (.const (.string ⟨⟨[]⟩⟩))),oD 8 (.mv (.const (.int .i64 4)))]
def XK4:VC:=.seq XKH .ret
def XQZ:VC:=.cond XfF XK4 .skip
def XN7:VC:=.seq XQx XQZ
def XPR:VC:=.reg [oM 38 Xcj,oM 39 τ0,oM 40 τ9,oD 41 (.sliceS Xgp none (some Xg4)),oD 42 (.bin .add Xgl Xg7),oD 43 (.callF 147 [Xg6]),oD 44 (.bin .neq Xg5 (.const (.int .i64 65535)))]
def XMT:VC:=.reg [oD 45 (.build [(.int .i64 0),(.int .i64 0)] []),oN (.store 2 τ6 Xhw),oD 7 (.mv (.const (.string ⟨⟨[]⟩⟩))),oD 8 (.mv (.const (.int .i64 4)))]
def XPJ:VC:=.seq XMT .ret
def XMu:VC:=.cond Xhv XPJ .skip
def XDW:VC:=.seq XPR XMu
def XEx:VC:=.cond XfH XN7 XDW
def XQb:VC:=.seq XNc XEx
def XDU:VC:=.regD [oM 46 τ0,oD 47 (.callF 74 [XhZ,(.const (.int .i64 0)),(.const (.int .i64 2))]),oM 48 τ0,oD 49 (.callF 74 [Xh0,(.const (.int .i64 2)),(.const (.int .i64 2))]),oD 50 (.build [(.int .i64 0),(.int .i64 0)] [(0,1,Xhu),(1,1,Xh9)]),oM 51 τ0,oM 52 τ9,oD 53 (.sliceS Xi5 (some (.const (.int .i64 8))) (some Xjx)),oN (.store 2 τ6 Xiq)] [] [oM 7 XjE,oD 8 (.mv (.const (.int .i64 0)))]
def XLk:VC:=.seq XDU .ret
def XGn:VC:=.seq XQb XLk
def XOb:VC:=.seq XNj XGn
def XP7:VC:=.seq XEa XOb
def XPs:VC:=.seq XOc XP7
def XJj:VC:=.seq XHB XPs
def XG5:VC:=.seq XYH XJj
def XRr:VC:=.seq X7s XG5
def XtQ:VC:=.seq XZ7 XRr
def X4l:VFn:=⟨54,XtQ,[.cell 6 [(.int .i64),(.int .i64)] true,.tmp 7,.tmp 8]⟩
def k18_0:VC:=.reg [oD 2 (.alloc [(.bool false),(.int .i64 0),(.int .u32 0),(.string ⟨⟨[]⟩⟩),(.string ⟨⟨[]⟩⟩),(.string ⟨⟨[]⟩⟩)]),oD 3 (.mv (.const (.int .i64 0)))]
def k18_1:VC:=.reg [oM 10 τ0,oD 11 (.bin .eql Xcj (.const (.string ⟨⟨[]⟩⟩)))]
def k18_2:VC:=.reg [oD 12 (.build [(.bool false),(.int .i64 0),(.int .u32 0),(.string ⟨⟨[]⟩⟩),(.string ⟨⟨[]⟩⟩),(.string ⟨⟨[]⟩⟩)] []),oN (.store 6 τ2 XcH),oD 3 (.mv (.const (.int .i64 2)))]
def k18_3:VC:=.seq k18_2 .ret
def k18_4:VC:=.cond Xb4 k18_3 .skip
def k18_5:VC:=.seq k18_1 k18_4
def k18_6:VC:=.reg [oM 13 τ0,oD 14 (.idxS XcM (.const (.int .i64 0))),oD 15 (.bin .quo Xc7 (.const (.int .u8 64))),oD 16 (.bin .rem XcY (.const (.int .u8 2))),oD 17 (.bin .eql Xc1 (.const (.int .u8 0)))]
def k18_7:VC:=.reg [oD 18 (.build [(.bool false),(.int .i64 0),(.int .u32 0),(.string ⟨⟨[]⟩⟩),(.string ⟨⟨[]⟩⟩),(.string ⟨⟨[]⟩⟩)] []),oN (.store 6 τ2 Xdw),oD 3 (.mv (.const (.int .i64 3)))]
def k18_8:VC:=.seq k18_7 .ret
def k18_9:VC:=.cond Xc0 k18_8 .skip
def X4L:VC:=.seq k18_6 k18_9
def X74:VC:=.regD [oM 19 τ0,oD 20 (.idxS Xdk (.const (.int .i64 0))),oD 21 (.bin .geq XdE (.const (.int .u8 128))),oM 22 τ0,oD 23 (.idxS Xeh (.const (.int .i64 0))),oD 24 (.bin .rem Xep (.const (.int .u8 64))),oD 25 (.conv .i64 Xek),oD 26 (.build [(.bool false),(.int .i64 0),(.int .u32 0),(.string ⟨⟨[]⟩⟩),(.string ⟨⟨[]⟩⟩),(.string ⟨⟨[]⟩⟩)] [(0,1,XdX),(1,1,XeI)]),oD 4 (.alloc [(.bool false),(.int .i64 0),(.int .u32 0),(.string ⟨⟨[]⟩⟩),(.string ⟨⟨[]⟩⟩),(.string ⟨⟨[]⟩⟩)])] [] [oN (.store 6 τ4 XdY)]
def X7x:VC:=.reg [oD 27 (.fieldA 0 τ4),oD 28 (.load1 .bool XeH),oD 29 (.not XeD)]
def XSs:VC:=.reg [oM 30 τ0,oD 31 (.lenS XeO),oD 32 (.bin .lss XeP (.const (.int .i64 9)))]
def X2F:VC:=.reg [oD 33 (.build [(.bool false),(.int .i64 0),(.int .u32 0),(.string ⟨⟨[]⟩⟩),(.string ⟨⟨[]⟩⟩),(.string ⟨⟨[]⟩⟩)] []),oN (.store 6 τ2 XfE),oD 3 (.mv (.const (.int .i64 2)))]
def XYF:VC:=.seq X2F .ret
def XYR:VC:=.cond Xfj XYF .skip
def YbE:VC:=.seq XSs XYR
def XW8:VC:=.reg [oM 34 τ0,oD 35 (.sliceS XfH (some (.const (.int .i64 1))) (some (.const (.int .i64 9)))),oD 36 (.fieldA 3 τ4),oN (.store 1 XfF XfG)]
def XXh:VC:=.reg [oM 37 τ0,oD 38 (.sliceS Xfm (some (.const (.int .i64 9))) none),oD 39 (.fieldA 5 τ4),oN (.store 1 Xgp Xgl)]
def YcI:VC:=.reg [oD 40 (.loadN [.bool,(.int .i64),(.int .u32),.str,.str,.str] τ4),oN (.store 6 τ2 Xg4),oD 3 (.mv (.const (.int .i64 0)))]
def XUR:VC:=.seq YcI .ret
def X6z:VC:=.seq XXh XUR
def XTU:VC:=.seq XW8 X6z
def X4h:VC:=.seq YbE XTU
def X0w:VC:=.cond XeG X4h .skip
def XZL:VC:=.seq X7x X0w
def X4M:VC:=.reg [oM 41 τ0,oD 42 (.lenS Xg7),oD 43 (.bin .lss Xg6 (.const (.int .i64 5)))]
def X8A:VC:=.reg [oD 44 (.build [(.bool false),(.int .i64 0),(.int .u32 0),(.string ⟨⟨[]⟩⟩),(.string ⟨⟨[]⟩⟩),(.string ⟨⟨[]⟩⟩)] []),oN (.store 6 τ2 Xhv),oD 3 (.mv (.const (.int .i64 2)))]
def XSv:VC:=.seq X8A .ret
def XYJ:VC:=.cond Xg5 XSv .skip
def XWK:VC:=.seq X4M XYJ
def X3x:VC:=.reg [oM 45 τ0,oD 46 (.callF 74 [Xhw,(.const (.int .i64 1)),(.const (.int .i64 4))]),oD 47 (.conv .u32 XhZ),oD 48 (.fieldA 2 τ4),oN (.store 1 Xh0 Xhu)]
def X24:VC:=.reg [oM 50 τ0,oD 51 (.callF 75 [Xiq,(.const (.int .i64 5))]),oM 49 Xi5,oE 52 0 Xh9,oE 53 1 Xh9,oE 54 2 Xh9,oM 5 Xjx,oM 6 XjE,oM 7 XjP]
def Yco:VC:=.reg [oM 55 τ6,oD 56 (.bin .neq XjT (.const (.int .i64 0)))]
def XXV:VC:=.reg [oD 57 (.build [(.bool false),(.int .i64 0),(.int .u32 0),(.string ⟨⟨[]⟩⟩),(.string ⟨⟨[]⟩⟩),(.string ⟨⟨[]⟩⟩)] []),oM 58 τ6,oN (.store 6 τ2 Xj7),oM 3 Xkj]
def YbO:VC:=.seq XXV .ret
def XTR:VC:=.cond XkA YbO .skip
def X8Y:VC:=.seq Yco XTR
def X7H:VC:=.reg [oM 60 τ0,oM 61 τ7,oD 62 (.callF 75 [XkV,Xlq]),oM 59 Xl6,oE 63 0 XkB,oE 64 1 XkB,oE 65 2 XkB,oM 8 Xm0,oM 6 Xnc,oM 9 XnT]
def X9O:VC:=.reg [oM 66 τ6,oD 67 (.bin .neq Xnr (.const (.int .i64 0)))]
def XTu:VC:=.reg [oD 68 (.build [(.bool false),(.int .i64 0),(.int .u32 0),(.string ⟨⟨[]⟩⟩),(.string ⟨⟨[]⟩⟩),(.string ⟨⟨[]⟩⟩)] []),oM 69 τ6,oN (.store 6 τ2 Xos),oM 3 XoR]
def X9U:VC:=.seq XTu .ret
def XSo:VC:=.cond XnI X9U .skip
def XWM:VC:=.seq X9O XSo
def X8f:VC:=.reg [oM 70 τ5,oD 71 (.fieldA 3 τ4),oN (.store 1 XpO XpE)]
def X1n:VC:=.reg [oM 72 τ8,oD 73 (.fieldA 4 τ4),oN (.store 1 XqX Xpt)]
def XTg:VC:=.reg [oM 74 τ0,oM 75 τ9,oD 76 (.sliceS Xr0 (some Xsx) none),oD 77 (.fieldA 5 τ4),oN (.store 1 Xtl Xwv)]
def XUI:VC:=.reg [oD 78 (.loadN [.bool,(.int .i64),(.int .u32),.str,.str,.str] τ4),oN (.store 6 τ2 XwM),oD 3 (.mv (.const (.int .i64 0)))]
def X8K:VC:=.seq XUI .ret
def YaN:VC:=.seq XTg X8K
def X21:VC:=.seq X1n YaN
def XWC:VC:=.seq X8f X21
def X8z:VC:=.seq XWM XWC
def X1D:VC:=.seq X7H X8z
def X26:VC:=.seq X8Y X1D
def XV3:VC:=.seq X24 X26
def Yae:VC:=.seq X3x XV3
def X2g:VC:=.seq XWK Yae
def X02:VC:=.seq XZL X2g
def XX2:VC:=.seq X74 X02
def Ybi:VC:=.seq X4L XX2
def X0T:VC:=.seq k18_5 Ybi
def XDi:VC:=.seq k18_0 X0T
def fn18:VFn:=⟨79,XDi,[.cell 2 [.bool,(.int .i64),(.int .u32),.str,.str,.str] true,.tmp 3]⟩
def k75_0:VC:=.reg [oD 4 (.mv (.const (.string ⟨⟨[]⟩⟩))),oD 5 (.mv (.const (.int .i64 0))),oD 6 (.mv (.const (.int .i64 0)))]
def k75_1:VC:=.reg [oM 8 τ1,oM 9 τ0,oD 10 (.lenS τ9),oD 11 (.bin .geq τ8 Xcj)]
def k75_2:VC:=.reg [oD 4 (.mv (.const (.string ⟨⟨[]⟩⟩))),oD 5 (.mv (.const (.int .i64 2))),oD 6 (.mv (.const (.int .i64 0)))]
def k75_3:VC:=.seq k75_2 .ret
def k75_4:VC:=.cond Xb4 k75_3 .skip
def k75_5:VC:=.seq k75_1 k75_4
def k75_6:VC:=.reg [oM 12 τ0,oM 13 τ1,oD 14 (.idxS XcH XcM),oD 15 (.conv .i64 Xc7),oM 7 XcY]
def k75_7:VC:=.reg [oM 16 τ7,oD 17 (.bin .gtr Xc1 (.const (.int .i64 20)))]
def k75_8:VC:=.reg [oD 4 (.mv (.const (.string ⟨⟨[]⟩⟩))),oD 5 (.mv (.const (.int .i64 3))),oD 6 (.mv (.const (.int .i64 0)))]
def k75_9:VC:=.seq k75_8 .ret
def X5X:VC:=.cond Xc0 k75_9 .skip
def XYk:VC:=.seq k75_7 X5X
def XUs:VC:=.reg [oM 18 τ7,oM 19 τ0,oD 20 (.lenS Xdk),oM 21 τ1,oD 22 (.bin .sub XdE XdX),oD 23 (.bin .sub Xeh (.const (.int .i64 1))),oD 24 (.bin .gtr Xdw Xep)]
def X04:VC:=.reg [oD 4 (.mv (.const (.string ⟨⟨[]⟩⟩))),oD 5 (.mv (.const (.int .i64 2))),oD 6 (.mv (.const (.int .i64 0)))]
def X77:VC:=.seq X04 .ret
def X5b:VC:=.cond Xek X77 .skip
def XZy:VC:=.seq XUs X5b
def Yac:VC:=.reg [oM 25 τ0,oM 26 τ1,oD 27 (.bin .add XdY (.const (.int .i64 1))),oM 28 τ1,oD 29 (.bin .add XeD (.const (.int .i64 1))),oM 30 τ7,oD 31 (.bin .add XeG XeO),oD 32 (.sliceS XeI (some XeH) (some XeP)),oM 33 τ1,oD 34 (.bin .add XfE (.const (.int .i64 1))),oM 35 τ7,oD 36 (.bin .add XfH XfG),oM 4 Xfj,oD 5 (.mv (.const (.int .i64 0))),oM 6 XfF]
def XSk:VC:=.seq Yac .ret
def XSx:VC:=.seq XZy XSk
def X2x:VC:=.seq XYk XSx
def X1W:VC:=.seq k75_6 X2x
def X3E:VC:=.seq k75_5 X1W
def XDq:VC:=.seq k75_0 X3E
def fn75:VFn:=⟨37,XDq,[.tmp 4,.tmp 5,.tmp 6]⟩
def k22_0:VC:=.reg [oD 2 (.mv (.const (.int .i64 0))),oD 3 (.mv (.const (.int .i64 0))),oD 4 (.mv (.const (.int .i64 0)))]
def k22_1:VC:=.reg [oM 10 τ0,oD 11 (.callF 76 [Xcj]),oM 9 Xb4,oE 12 0 τ9,oE 13 1 τ9,oE 14 2 τ9,oE 15 3 τ9,oD 5 (.alloc [(.int .i64 0),(.bool false),(.int .u64 0),(.int .u64 0),(.bool false),(.int .u64 0),(.int .u64 0),(.int .i64 0),(.int .i64 0),(.int .i64 0),(.bool false),(.int .u32 0),(.int .u32 0),(.bool false),(.string ⟨⟨[]⟩⟩),(.int .i64 0)]),oN (.store 16 τ5 XcH),oM 6 XcM,oM 7 Xc7,oM 8 XcY]
def k22_2:VC:=.reg [oM 16 τ8,oD 17 (.bin .neq Xc1 (.const (.int .i64 0)))]
def k22_3:VC:=.reg [oM 18 τ8,oD 2 (.mv (.const (.int .i64 0))),oD 3 (.mv (.const (.int .i64 0))),oM 4 Xdw]
def k22_4:VC:=.seq k22_3 .ret
def k22_5:VC:=.cond Xc0 k22_4 .skip
def k22_6:VC:=.seq k22_2 k22_5
def k22_7:VC:=.reg [oM 19 τ0,oD 20 (.lenS Xdk),oM 21 τ6,oD 22 (.bin .sub XdE XdX),oM 23 τ0,oD 24 (.lenS Xep),oM 25 τ7,oD 26 (.bin .sub Xek XeI),oM 2 Xeh,oM 3 XdY,oD 4 (.mv (.const (.int .i64 0)))]
def k22_8:VC:=.seq k22_7 .ret
def k22_9:VC:=.seq k22_6 k22_8
def XVr:VC:=.seq k22_1 k22_9
def XC2:VC:=.seq k22_0 XVr
def fn22:VFn:=⟨27,XC2,[.tmp 2,.tmp 3,.tmp 4]⟩
def k17_0:VC:=.reg [oD 2 (.mv (.const (.int .i64 0))),oD 3 (.mv (.const (.int .i64 0))),oD 4 (.mv (.const (.int .i64 0)))]
def k17_1:VC:=.reg [oM 10 τ0,oD 11 (.callF 62 [Xcj]),oM 9 Xb4,oE 12 0 τ9,oE 13 1 τ9,oE 14 2 τ9,oE 15 3 τ9,oD 5 (.alloc [(.int .i64 0),(.bool false),(.int .u64 0),(.int .u64 0),(.bool false),(.int .u64 0),(.int .u64 0),(.int .i64 0),(.int .i64 0),(.int .i64 0),(.bool false),(.int .u32 0),(.int .u32 0),(.bool false),(.string ⟨⟨[]⟩⟩),(.int .i64 0)]),oN (.store 16 τ5 XcH),oM 6 XcM,oM 7 Xc7,oM 8 XcY]
def k17_2:VC:=.reg [oM 16 τ6,oM 17 τ7,oM 18 τ8,oM 2 Xc1,oM 3 Xc0,oM 4 Xdw]
def k17_3:VC:=.seq k17_2 .ret
def k17_4:VC:=.seq k17_1 k17_3
def X3f:VC:=.seq k17_0 k17_4
def fn17:VFn:=⟨19,X3f,[.tmp 2,.tmp 3,.tmp 4]⟩
def k24_0:VC:=.reg [oD 4 (.box τ0),oD 8 (.mv (.const (.string ⟨⟨[]⟩⟩))),oD 9 (.mv (.const (.int .i64 0)))]
def k24_1:VC:=.reg [oD 12 (.fieldA 0 τ4),oD 13 (.load1 (.int .i64) XcH),oD 14 (.bin .neq XcM (.const (.int .i64 6)))]
def k24_2:VC:=.reg [oD 8 (.mv (.const (.string ⟨⟨[]⟩⟩))),oD 9 (.mv (.const (.int .i64 1)))]
def k24_3:VC:=.seq k24_2 .ret
def k24_4:VC:=.cond Xc7 k24_3 .skip
def k24_5:VC:=.seq k24_1 k24_4
def k24_6:VC:=.reg [oD 16 (.fieldA 7 τ4),oD 17 (.load1 (.int .i64) Xc1),oD 18 (.fieldA 8 τ4),oD 19 (.load1 (.int .i64) Xdw),oM 20 τ1,oM 21 τ2,oD 22 (.build [(.int .i64 0),(.int .i64 0),(.int .u32 0),(.int .u32 0),(.int .i64 0),(.int .i64 0),(.int .i64 0),(.string ⟨⟨[]⟩⟩)] [(0,1,Xc0),(1,1,Xdk),(4,1,XdE),(5,1,(.const (.int .i64 65535))),(7,1,XdX)]),oD 23 (.fieldA 1 τ4),oD 24 (.loadN [.bool,(.int .u64),(.int .u64)] Xep),oD 25 (.fieldA 4 τ4),oD 26 (.loadN [.bool,(.int .u64),(.int .u64)] XeI),oM 27 τ3,oD 28 (.callF 78 [Xeh,Xek,XdY,XeH]),oM 15 XeD,oE 29 0 XcY,oE 30 1 XcY,oM 10 XeG,oM 11 XeO]
def k24_7:VC:=.reg [oM 31 Xb4,oD 32 (.bin .neq XeP (.const (.int .i64 0)))]
def k24_8:VC:=.reg [oM 33 Xb4,oD 8 (.mv (.const (.string ⟨⟨[]⟩⟩))),oM 9 XfE]
def k24_9:VC:=.seq k24_8 .ret
def X6h:VC:=.cond Xfj k24_9 .skip
def X36:VC:=.seq k24_7 X6h
def XTK:VC:=.reg [oD 34 (.loadN [(.int .i64),.bool,(.int .u64),(.int .u64),.bool,(.int .u64),(.int .u64),(.int .i64),(.int .i64)] τ4),oM 35 Xcj,oD 36 (.callF 28 [XfH,XfG]),oE 37 0 XfF,oE 38 1 XfF,oM 8 Xfm,oM 9 Xgl]
def XVT:VC:=.seq XTK .ret
def XXk:VC:=.seq X36 XVT
def YaM:VC:=.seq k24_6 XXk
def XTr:VC:=.seq k24_5 YaM
def XBu:VC:=.seq k24_0 XTr
def fn24:VFn:=⟨39,XBu,[.tmp 8,.tmp 9]⟩
def k78_0:VC:=.reg [oD 4 (.box τ0),oD 5 (.box τ1),oD 6 (.box τ2),oD 8 (.mv (.const (.string ⟨⟨[]⟩⟩))),oD 9 (.mv (.const (.int .i64 0)))]
def k78_1:VC:=.reg [oD 13 (.fieldA 7 τ4),oD 14 (.load1 .str XcM),oD 15 (.lenS Xc7),oD 16 (.bin .add (.const (.int .i64 20)) XcY),oM 10 Xc1]
def k78_2:VC:=.reg [oD 17 (.loadN [.bool,(.int .u64),(.int .u64)] τ5),oD 18 (.loadN [.bool,(.int .u64),(.int .u64)] τ6),oM 19 Xcj,oM 20 τ3,oD 21 (.lenS XdE),oD 22 (.bin .add Xdk XdX),oD 23 (.callF 129 [Xc0,Xdw,(.const (.int .i64 6)),Xeh]),oM 11 Xep]
def k78_3:VC:=.reg [oD 24 (.loadN [(.int .i64),(.int .i64),(.int .u32),(.int .u32),(.int .i64),(.int .i64),(.int .i64),.str] τ4),oD 25 (.callF 130 [Xek]),oD 26 (.not XeI),oM 27 XdY,oG 28 (.mv Xb4) 27 false,oG 29 (.bin .eql XeD (.const (.string ⟨⟨[]⟩⟩))) 27 false,oD 30 (.pick XeH (.const (.bool true)) XeG)]
def k78_4:VC:=.reg [oD 8 (.mv (.const (.string ⟨⟨[]⟩⟩))),oD 9 (.mv (.const (.int .i64 1)))]
def k78_5:VC:=.seq k78_4 .ret
def k78_6:VC:=.cond XeO k78_5 .skip
def k78_7:VC:=.seq k78_3 k78_6
def k78_8:VC:=.reg [oM 31 τ3,oD 32 (.lenS XeP),oM 33 Xcj,oD 34 (.bin .sub (.const (.int .i64 65535)) XfE),oD 35 (.bin .gtr Xfj XfH)]
def k78_9:VC:=.reg [oD 8 (.mv (.const (.string ⟨⟨[]⟩⟩))),oD 9 (.mv (.const (.int .i64 5)))]
def X5g:VC:=.seq k78_9 .ret
def X0S:VC:=.cond XfG X5g .skip
def X03:VC:=.seq k78_8 X0S
def X7i:VC:=.regD [oD 36 (.fieldA 0 τ4),oD 37 (.load1 (.int .i64) XfF),oD 38 (.callF 97 [Xfm,(.const (.int .i64 2))]),oD 39 (.fieldA 1 τ4),oD 40 (.load1 (.int .i64) Xgp),oD 41 (.callF 97 [Xg4,(.const (.int .i64 2))]),oD 42 (.bin .add Xgl Xg7),oD 43 (.fieldA 2 τ4),oD 44 (.load1 (.int .u32) Xg5),oD 45 (.conv .i64 Xhv),oD 46 (.callF 97 [Xhw,(.const (.int .i64 4))]),oD 47 (.bin .add Xg6 XhZ),oD 48 (.fieldA 3 τ4),oD 49 (.load1 (.int .u32) Xh0),oD 50 (.conv .i64 Xh9),oD 51 (.callF 97 [Xiq,(.const (.int .i64 4))]),oD 52 (.bin .add Xhu Xi5),oM 53 Xcj,oD 54 (.bin .mul (.const (.int .i64 4)) XjE),oD 55 (.callF 97 [XjP,(.const (.int .i64 1))]),oD 56 (.bin .add Xjx XjT),oD 57 (.fieldA 4 τ4),oD 58 (.load1 (.int .i64) Xj7),oD 59 (.callF 97 [Xkj,(.const (.int .i64 1))]),oD 60 (.bin .add XkA XkB),oD 61 (.fieldA 5 τ4),oD 62 (.load1 (.int .i64) Xlq),oD 63 (.callF 97 [Xl6,(.const (.int .i64 2))]),oD 64 (.bin .add XkV Xm0),oD 65 (.callF 97 [(.const (.int .i64 0)),(.const (.int .i64 2))]),oD 66 (.bin .add Xnc XnT),oD 67 (.fieldA 6 τ4),oD 68 (.load1 (.int .i64) XnI),oD 69 (.callF 97 [Xos,(.const (.int .i64 2))]),oD 70 (.bin .add Xnr XoR),oD 71 (.fieldA 7 τ4),oD 72 (.load1 .str XpO),oD 73 (.bin .add XpE Xpt),oM 74 τ3] [(2,4),(2,8),(2,13),(2,22),(2,26),(2,32),(2,36),(5,8),(5,13),(5,22),(5,26),(5,32),(5,36),(10,13),(10,22),(10,26),(10,32),(10,36),(15,22),(15,26),(15,32),(15,36),(19,22),(19,26),(19,32),(19,36),(23,26),(23,32),(23,36),(27,32),(27,36),(29,32),(29,36),(33,36)] [oD 75 (.bin .add XqX Xr0),oM 12 Xsx]
def Yck:VC:=.reg [oM 76 XcH,oM 77 Xb4,oM 78 XcH,oD 79 (.bin .add Xtl XwM),oD 80 (.callF 100 [XAL]),oD 81 (.conv .u64 XwH),oD 82 (.callF 99 [Xwv,(.const (.int .i64 16)),(.const (.int .i64 2)),Xz4]),oM 8 Xya,oD 9 (.mv (.const (.int .i64 0)))]
def X6O:VC:=.seq Yck .ret
def XZh:VC:=.seq X7i X6O
def X2K:VC:=.seq X03 XZh
def XTQ:VC:=.seq k78_7 X2K
def XXT:VC:=.seq k78_2 XTQ
def X50:VC:=.seq k78_1 XXT
def XDy:VC:=.seq k78_0 X50
def fn78:VFn:=⟨83,XDy,[.tmp 8,.tmp 9]⟩
def X2T:VC:=.reg [oD 1 (.box τ0),oD 2 (.mv (.const (.bool false)))]
def X7K:VC:=.reg [oD 3 (.fieldA 0 τ1),oD 4 (.load1 (.int .i64) τ3),oD 5 (.callF 177 [τ4,(.const (.int .i64 65535))]),oM 6 τ5,oG 7 (.fieldA 1 τ1) 6 true,oG 8 (.load1 (.int .i64) τ7) 6 true,oG 9 (.callF 177 [τ8,(.const (.int .i64 65535))]) 6 true,oD 10 (.pick τ6 τ9 (.const (.bool false))),oM 11 Xcj,oG 12 (.fieldA 4 τ1) 11 true,oG 13 (.load1 (.int .i64) XcH) 11 true,oG 14 (.callF 177 [XcM,(.const (.int .i64 255))]) 11 true,oD 15 (.pick Xb4 Xc7 (.const (.bool false))),oM 16 XcY,oG 17 (.fieldA 5 τ1) 16 true,oG 18 (.load1 (.int .i64) Xc0) 16 true,oG 19 (.callF 177 [Xdw,(.const (.int .i64 65535))]) 16 true,oD 20 (.pick Xc1 Xdk (.const (.bool false))),oM 21 XdE,oG 22 (.fieldA 6 τ1) 21 true,oG 23 (.load1 (.int .i64) Xeh) 21 true,oG 24 (.callF 177 [Xep,(.const (.int .i64 65535))]) 21 true,oD 25 (.pick XdX Xek (.const (.bool false))),oM 26 XeI,oG 27 (.fieldA 7 τ1) 26 true,oG 28 (.load1 .str XeH) 26 true,oG 29 (.lenS XeD) 26 true,oG 30 (.bin .leq XeG (.const (.int .i64 40))) 26 true,oD 31 (.pick XdY XeO (.const (.bool false))),oM 32 XeP,oG 33 (.fieldA 7 τ1) 32 true,oG 34 (.load1 .str XfE) 32 true,oG 35 (.lenS XfH) 32 true,oG 36 (.bin .rem XfG (.const (.int .i64 4))) 32 true,oG 37 (.bin .eql XfF (.const (.int .i64 0))) 32 true,oD 38 (.pick Xfj Xfm (.const (.bool false))),oM 2 Xgl]
def XV7:VC:=.seq X7K .ret
def XB1:VC:=.seq X2T XV7
def X4W:VFn:=⟨39,XB1,[.tmp 2]⟩
def XXE:VC:=.reg [oD 4 (.mv (.const (.bool false)))]
def X1K:VC:=.reg [oM 5 τ0,oD 6 (.bin .geq τ5 (.const (.int .i64 0))),oM 7 τ6,oG 8 (.mv τ0) 7 true,oG 9 (.mv τ1) 7 true,oG 10 (.bin .leq τ8 τ9) 7 true,oD 11 (.pick τ7 Xcj (.const (.bool false))),oM 4 Xb4]
def X2v:VC:=.seq X1K .ret
def XC4:VC:=.seq XXE X2v
def YbU:VFn:=⟨12,XC4,[.tmp 4]⟩
def k97_0:VC:=.reg [oD 4 (.mv (.const (.string ⟨⟨[]⟩⟩)))]
def k97_1:VC:=.reg [oM 5 τ0,oD 6 (.conv .u64 τ5),oM 7 τ1,oD 8 (.callF 98 [τ6,τ7]),oM 4 τ8]
def k97_2:VC:=.seq k97_1 .ret
def X60:VC:=.seq k97_0 k97_2
def fn97:VFn:=⟨9,X60,[.tmp 4]⟩
def YcJ:VC:=.reg [oD 2 (.mv (.const (.int .i64 0)))]
def X76:VC:=.reg [oM 3 τ0,oD 4 (.callF 147 [τ3]),oD 5 (.bin .sub (.const (.int .i64 65535)) τ4),oM 2 τ5]
def X3j:VC:=.seq X76 .ret
def XBK:VC:=.seq YcJ X3j
def XSZ:VFn:=⟨6,XBK,[.tmp 2]⟩
def k99_0:VC:=.reg [oD 8 (.mv (.const (.string ⟨⟨[]⟩⟩)))]
def k99_1:VC:=.reg [oM 12 τ0,oM 13 τ1,oM 14 τ2,oD 15 (.callF 121 [XcH,XcM,Xc7]),oM 11 XcY,oE 16 0 Xb4,oE 17 1 Xb4,oM 9 Xc1,oM 10 Xc0]
def k99_2:VC:=.reg [oM 18 Xcj,oD 19 (.not Xdw)]
def k99_3:VC:=.reg [oM 20 τ0,oM 8 XdE]
def k99_4:VC:=.seq k99_3 .ret
def k99_5:VC:=.cond Xdk k99_4 .skip
def k99_6:VC:=.seq k99_2 k99_5
def k99_7:VC:=.regD [oM 21 τ0,oM 22 τ1,oD 23 (.sliceS XdX none (some Xeh)),oM 24 τ3,oM 25 τ2,oD 26 (.callF 98 [Xek,XeI]),oD 27 (.bin .add Xep XdY),oM 28 τ0,oM 29 τ1,oM 30 τ2,oD 31 (.bin .add XeG XeO),oD 32 (.sliceS XeD (some XeP) none)] [] [oD 33 (.bin .add XeH Xfj),oM 8 XfE]
def k99_8:VC:=.seq k99_7 .ret
def k99_9:VC:=.seq k99_6 k99_8
def X6A:VC:=.seq k99_1 k99_9
def XBM:VC:=.seq k99_0 X6A
def fn99:VFn:=⟨34,XBM,[.tmp 8]⟩
def k28_0:VC:=.reg [oD 2 (.box τ0),oD 4 (.mv (.const (.string ⟨⟨[]⟩⟩))),oD 5 (.mv (.const (.int .i64 0)))]
def k28_1:VC:=.reg [oD 8 (.fieldA 1 τ2),oD 9 (.fieldA 0 τ8),oD 10 (.load1 .bool τ9),oD 11 (.fieldA 4 τ2),oD 12 (.fieldA 0 Xb4),oD 13 (.load1 .bool XcH),oD 14 (.eqB true Xcj XcM),oM 15 Xc7,oG 16 (.fieldA 1 τ2) 15 false,oG 17 (.loadN [.bool,(.int .u64),(.int .u64)] Xc1) 15 false,oG 18 (.callF 84 [Xc0]) 15 false,oG 19 (.not Xdw) 15 false,oD 20 (.pick XcY (.const (.bool true)) Xdk),oM 21 XdE,oG 22 (.fieldA 4 τ2) 21 false,oG 23 (.loadN [.bool,(.int .u64),(.int .u64)] Xeh) 21 false,oG 24 (.callF 84 [Xep]) 21 false,oG 25 (.not Xek) 21 false,oD 26 (.pick XdX (.const (.bool true)) XeI),oM 27 XdY,oG 28 (.fieldA 0 τ2) 27 false,oG 29 (.load1 (.int .i64) XeD) 27 false,oG 30 (.bin .neq XeG (.const (.int .i64 6))) 27 false,oG 31 (.mv XeO) 27 false,oG 32 (.fieldA 0 τ2) 31 true,oG 33 (.load1 (.int .i64) Xfj) 31 true,oG 34 (.bin .neq XfE (.const (.int .i64 17))) 31 true,oG 35 (.pick XeP XfH (.const (.bool false))) 27 false,oD 36 (.pick XeH (.const (.bool true)) XfG)]
def k28_2:VC:=.reg [oD 4 (.mv (.const (.string ⟨⟨[]⟩⟩))),oD 5 (.mv (.const (.int .i64 1)))]
def k28_3:VC:=.seq k28_2 .ret
def k28_4:VC:=.cond XfF k28_3 .skip
def k28_5:VC:=.seq k28_1 k28_4
def k28_6:VC:=.reg [oD 38 (.fieldA 0 τ2),oD 39 (.load1 (.int .i64) Xgl),oD 40 (.fieldA 1 τ2),oD 41 (.loadN [.bool,(.int .u64),(.int .u64)] Xg4),oD 42 (.fieldA 4 τ2),oD 43 (.loadN [.bool,(.int .u64),(.int .u64)] Xg6),oD 44 (.build [(.int .i64 0),(.int .i64 0),(.int .i64 0),(.int .i64 0),(.bool false),(.int .u64 0),(.int .u64 0),(.bool false),(.int .u64 0),(.int .u64 0)] [(2,1,Xgp),(3,1,(.const (.int .i64 64))),(4,3,Xg7),(7,3,Xg5)]),oM 45 τ1,oD 46 (.callF 85 [Xhv,Xhw]),oM 37 XhZ,oE 47 0 Xfm,oE 48 1 Xfm,oM 6 Xhu,oM 7 Xh0]
def k28_7:VC:=.reg [oD 49 (.fieldA 1 τ2),oD 50 (.fieldA 0 Xh9),oD 51 (.load1 .bool Xiq),oD 52 (.not Xi5)]
def k28_8:VC:=.reg [oD 54 (.fieldA 0 τ2),oD 55 (.load1 (.int .i64) XjP),oD 56 (.fieldA 1 τ2),oD 57 (.loadN [.bool,(.int .u64),(.int .u64)] XkA),oD 58 (.fieldA 4 τ2),oD 59 (.loadN [.bool,(.int .u64),(.int .u64)] Xkj),oD 60 (.build [(.int .i64 0),(.int .i64 0),(.bool false),(.int .i64 0),(.int .i64 0),(.bool false),(.int .u64 0),(.int .u64 0),(.bool false),(.int .u64 0),(.int .u64 0),(.string ⟨⟨[]⟩⟩)] [(2,1,(.const (.bool true))),(3,1,(.const (.int .i64 64))),(4,1,XjT),(5,3,Xj7),(8,3,XkB)]),oM 61 τ1,oD 62 (.callF 86 [XkV,Xlq]),oM 53 Xl6,oE 63 0 XjE,oE 64 1 XjE,oM 6 Xm0,oM 7 Xnc]
def k28_9:VC:=.cond Xjx k28_8 .skip
def X4f:VC:=.seq k28_7 k28_9
def XUi:VC:=.reg [oM 65 τ7,oD 66 (.bin .eql XnT (.const (.int .i64 0))),oM 67 Xnr,oG 68 (.mv τ6) 67 true,oG 69 (.lenS Xos) 67 true,oG 70 (.bin .gtr XoR (.const (.int .i64 9000))) 67 true,oD 71 (.pick XnI XpE (.const (.bool false)))]
def XZ6:VC:=.reg [oD 4 (.mv (.const (.string ⟨⟨[]⟩⟩))),oD 5 (.mv (.const (.int .i64 5)))]
def X1x:VC:=.seq XZ6 .ret
def XZo:VC:=.cond XpO X1x .skip
def Yc2:VC:=.seq XUi XZo
def X9c:VC:=.reg [oM 72 τ6,oM 73 τ7,oM 4 Xpt,oM 5 XqX]
def XTs:VC:=.seq X9c .ret
def Ya7:VC:=.seq Yc2 XTs
def X70:VC:=.seq X4f Ya7
def XWO:VC:=.seq k28_6 X70
def XV1:VC:=.seq k28_5 XWO
def XCW:VC:=.seq k28_0 XV1
def fn28:VFn:=⟨74,XCW,[.tmp 4,.tmp 5]⟩
def k85_0:VC:=.reg [oD 2 (.box τ0),oD 4 (.mv (.const (.string ⟨⟨[]⟩⟩))),oD 5 (.mv (.const (.int .i64 0)))]
def k85_1:VC:=.reg [oD 6 (.loadN [(.int .i64),(.int .i64),(.int .i64),(.int .i64),.bool,(.int .u64),(.int .u64),.bool,(.int .u64),(.int .u64)] τ2),oD 7 (.callF 139 [τ6]),oD 8 (.not τ7)]
def k85_2:VC:=.reg [oD 4 (.mv (.const (.string ⟨⟨[]⟩⟩))),oD 5 (.mv (.const (.int .i64 1)))]
def k85_3:VC:=.seq k85_2 .ret
def k85_4:VC:=.cond τ8 k85_3 .skip
def k85_5:VC:=.seq k85_1 k85_4
def k85_6:VC:=.reg [oM 9 τ1,oD 10 (.lenS τ9),oD 11 (.bin .gtr Xcj (.const (.int .i64 65535)))]
def k85_7:VC:=.reg [oD 4 (.mv (.const (.string ⟨⟨[]⟩⟩))),oD 5 (.mv (.const (.int .i64 5)))]
def k85_8:VC:=.seq k85_7 .ret
def k85_9:VC:=.cond Xb4 k85_8 .skip
def X22:VC:=.seq k85_6 k85_9
def X5I:VC:=.regD [oD 12 (.fieldA 0 τ2),oD 13 (.load1 (.int .i64) XcH),oD 14 (.bin .mul XcM (.const (.int .i64 1048576))),oD 15 (.bin .add (.const (.int .i64 1610612736)) Xc7),oD 16 (.fieldA 1 τ2),oD 17 (.load1 (.int .i64) Xc1),oD 18 (.bin .add XcY Xc0),oD 19 (.callF 140 [Xdw,(.const (.int .i64 4))]),oM 20 τ1,oD 21 (.lenS XdE),oD 22 (.callF 140 [XdX,(.const (.int .i64 2))]),oD 23 (.bin .add Xdk Xeh),oD 24 (.fieldA 2 τ2),oD 25 (.load1 (.int .i64) Xek),oD 26 (.callF 140 [XeI,(.const (.int .i64 1))]),oD 27 (.bin .add Xep XdY),oD 28 (.fieldA 3 τ2),oD 29 (.load1 (.int .i64) XeD),oD 30 (.callF 140 [XeG,(.const (.int .i64 1))]),oD 31 (.bin .add XeH XeO),oD 32 (.fieldA 4 τ2),oD 33 (.loadN [.bool,(.int .u64),(.int .u64)] Xfj),oD 34 (.callF 141 [XfE]),oD 35 (.bin .add XeP XfH),oD 36 (.fieldA 7 τ2),oD 37 (.loadN [.bool,(.int .u64),(.int .u64)] XfF),oD 38 (.callF 141 [Xfm]),oD 39 (.bin .add XfG Xgl),oM 40 τ1] [(7,13),(7,17),(7,21),(7,25),(10,13),(10,17),(10,21),(10,25),(14,17),(14,21),(14,25),(18,21),(18,25),(22,25)] [oD 41 (.bin .add Xgp Xg4),oM 4 Xg7,oD 5 (.mv (.const (.int .i64 0)))]
def XYO:VC:=.seq X5I .ret
def X0h:VC:=.seq X22 XYO
def YbW:VC:=.seq k85_5 X0h
def XBF:VC:=.seq k85_0 YbW
def fn85:VFn:=⟨42,XBF,[.tmp 4,.tmp 5]⟩
def XTO:VC:=.reg [oD 1 (.box τ0),oD 2 (.mv (.const (.bool false)))]
def X1J:VC:=.reg [oD 3 (.fieldA 0 τ1),oD 4 (.load1 (.int .i64) τ3),oD 5 (.callF 181 [τ4,(.const (.int .i64 255))]),oM 6 τ5,oG 7 (.fieldA 1 τ1) 6 true,oG 8 (.load1 (.int .i64) τ7) 6 true,oG 9 (.callF 181 [τ8,(.const (.int .i64 1048575))]) 6 true,oD 10 (.pick τ6 τ9 (.const (.bool false))),oM 11 Xcj,oG 12 (.fieldA 2 τ1) 11 true,oG 13 (.load1 (.int .i64) XcH) 11 true,oG 14 (.callF 181 [XcM,(.const (.int .i64 255))]) 11 true,oD 15 (.pick Xb4 Xc7 (.const (.bool false))),oM 16 XcY,oG 17 (.fieldA 3 τ1) 16 true,oG 18 (.load1 (.int .i64) Xc0) 16 true,oG 19 (.callF 181 [Xdw,(.const (.int .i64 255))]) 16 true,oD 20 (.pick Xc1 Xdk (.const (.bool false))),oM 21 XdE,oG 22 (.fieldA 4 τ1) 21 true,oG 23 (.fieldA 0 Xeh) 21 true,oG 24 (.load1 .bool Xep) 21 true,oD 25 (.pick XdX Xek (.const (.bool false))),oM 26 XeI,oG 27 (.fieldA 7 τ1) 26 true,oG 28 (.fieldA 0 XeH) 26 true,oG 29 (.load1 .bool XeD) 26 true,oD 30 (.pick XdY XeG (.const (.bool false))),oM 2 XeO]
def X93:VC:=.seq X1J .ret
def XCP:VC:=.seq XTO X93
def X3o:VFn:=⟨31,XCP,[.tmp 2]⟩
def X0r:VC:=.reg [oD 4 (.mv (.const (.bool false)))]
def X3S:VC:=.reg [oM 5 τ0,oD 6 (.bin .geq τ5 (.const (.int .i64 0))),oM 7 τ6,oG 8 (.mv τ0) 7 true,oG 9 (.mv τ1) 7 true,oG 10 (.bin .leq τ8 τ9) 7 true,oD 11 (.pick τ7 Xcj (.const (.bool false))),oM 4 Xb4]
def Yao:VC:=.seq X3S .ret
def XCk:VC:=.seq X0r Yao
def Ybf:VFn:=⟨12,XCk,[.tmp 4]⟩
def YaJ:VC:=.reg [oD 4 (.mv (.const (.string ⟨⟨[]⟩⟩)))]
def X2S:VC:=.reg [oM 5 τ0,oD 6 (.conv .u64 τ5),oM 7 τ1,oD 8 (.callF 98 [τ6,τ7]),oM 4 τ8]
def X0W:VC:=.seq X2S .ret
def XDu:VC:=.seq YaJ X0W
def X0f:VFn:=⟨9,XDu,[.tmp 4]⟩
def k86_0:VC:=.reg [oD 2 (.box τ0),oD 4 (.mv (.const (.string ⟨⟨[]⟩⟩))),oD 5 (.mv (.const (.int .i64 0)))]
def k86_1:VC:=.reg [oD 9 (.loadN [(.int .i64),(.int .i64),.bool,(.int .i64),(.int .i64),.bool,(.int .u64),(.int .u64),.bool,(.int .u64),(.int .u64),.str] τ2),oD 10 (.callF 142 [τ9]),oD 11 (.not Xcj)]
def k86_2:VC:=.reg [oD 4 (.mv (.const (.string ⟨⟨[]⟩⟩))),oD 5 (.mv (.const (.int .i64 1)))]
def k86_3:VC:=.seq k86_2 .ret
def k86_4:VC:=.cond Xb4 k86_3 .skip
def k86_5:VC:=.seq k86_1 k86_4
def k86_6:VC:=.reg [oD 12 (.fieldA 11 τ2),oD 13 (.load1 .str XcH),oD 14 (.lenS XcM),oD 15 (.bin .add (.const (.int .i64 20)) Xc7),oM 6 XcY]
def k86_7:VC:=.reg [oM 16 τ1,oD 17 (.lenS Xc1),oM 18 τ6,oD 19 (.bin .sub (.const (.int .i64 65535)) Xdw),oD 20 (.bin .gtr Xc0 Xdk)]
def k86_8:VC:=.reg [oD 4 (.mv (.const (.string ⟨⟨[]⟩⟩))),oD 5 (.mv (.const (.int .i64 5)))]
def k86_9:VC:=.seq k86_8 .ret
def XWi:VC:=.cond XdE k86_9 .skip
def XWs:VC:=.seq k86_7 XWi
def X9m:VC:=.reg [oD 7 (.mv (.const (.int .i64 0)))]
def X5w:VC:=.reg [oD 21 (.fieldA 2 τ2),oD 22 (.load1 .bool XdX)]
def YdG:VC:=.reg [oD 7 (.mv (.const (.int .i64 64)))]
def X8Z:VC:=.cond Xeh YdG .skip
def X3X:VC:=.seq X5w X8Z
def Ybn:VC:=.regD [oM 23 τ6,oD 24 (.bin .quo Xep (.const (.int .i64 4))),oD 25 (.bin .add (.const (.int .i64 64)) Xek),oD 26 (.callF 143 [XeI,(.const (.int .i64 1))]),oD 27 (.fieldA 0 τ2),oD 28 (.load1 (.int .i64) XeH),oD 29 (.callF 143 [XeD,(.const (.int .i64 1))]),oD 30 (.bin .add XdY XeG),oM 31 τ6,oM 32 τ1,oD 33 (.lenS Xfj),oD 34 (.bin .add XeP XfE),oD 35 (.callF 143 [XfH,(.const (.int .i64 2))]),oD 36 (.bin .add XeO XfG),oD 37 (.fieldA 1 τ2),oD 38 (.load1 (.int .i64) Xfm),oD 39 (.callF 143 [Xgl,(.const (.int .i64 2))]),oD 40 (.bin .add XfF Xgp),oM 41 τ7,oD 42 (.callF 143 [Xg7,(.const (.int .i64 1))]),oD 43 (.bin .add Xg4 Xg6),oD 44 (.callF 143 [(.const (.int .i64 0)),(.const (.int .i64 1))]),oD 45 (.bin .add Xg5 Xhv),oD 46 (.fieldA 3 τ2),oD 47 (.load1 (.int .i64) XhZ),oD 48 (.callF 143 [Xhu,(.const (.int .i64 1))]),oD 49 (.bin .add Xhw Xh0),oD 50 (.fieldA 4 τ2),oD 51 (.load1 (.int .i64) Xiq),oD 52 (.callF 143 [Xi5,(.const (.int .i64 1))]),oD 53 (.bin .add Xh9 Xjx),oD 54 (.callF 143 [(.const (.int .i64 0)),(.const (.int .i64 2))]),oD 55 (.bin .add XjE XjP),oD 56 (.fieldA 5 τ2),oD 57 (.loadN [.bool,(.int .u64),(.int .u64)] XkA),oD 58 (.callF 141 [Xj7]),oD 59 (.bin .add XjT Xkj),oD 60 (.fieldA 8 τ2),oD 61 (.loadN [.bool,(.int .u64),(.int .u64)] XkV),oD 62 (.callF 141 [Xlq]),oD 63 (.bin .add XkB Xl6),oD 64 (.fieldA 11 τ2),oD 65 (.load1 .str Xnc)] [(3,5),(3,15),(3,24),(3,28),(3,34),(3,38),(3,42),(6,15),(6,24),(6,28),(6,34),(6,38),(6,42),(12,15),(12,24),(12,28),(12,34),(12,38),(12,42),(16,24),(16,28),(16,34),(16,38),(16,42),(19,24),(19,28),(19,34),(19,38),(19,42),(21,24),(21,28),(21,34),(21,38),(21,42),(25,28),(25,34),(25,38),(25,42),(29,34),(29,38),(29,42),(31,34),(31,38),(31,42),(35,38),(35,42),(39,42)] [oD 66 (.bin .add Xm0 XnT),oM 8 Xnr]
def XTc:VC:=.reg [oM 67 τ8,oM 68 τ8,oD 69 (.callF 100 [Xos]),oD 70 (.conv .u64 XoR),oD 71 (.callF 99 [XnI,(.const (.int .i64 10)),(.const (.int .i64 2)),XpE]),oM 72 τ1,oD 73 (.bin .add XpO Xpt),oM 4 XqX,oD 5 (.mv (.const (.int .i64 0)))]
def XX5:VC:=.seq XTc .ret
def X3C:VC:=.seq Ybn XX5
def Yan:VC:=.seq X3X X3C
def XVk:VC:=.seq X9m Yan
def X7N:VC:=.seq XWs XVk
def XW3:VC:=.seq k86_6 X7N
def X4q:VC:=.seq k86_5 XW3
def XBV:VC:=.seq k86_0 X4q
def fn86:VFn:=⟨74,XBV,[.tmp 4,.tmp 5]⟩
def X6i:VC:=.reg [oD 1 (.box τ0),oD 2 (.mv (.const (.bool false)))]
def YbA:VC:=.reg [oD 3 (.fieldA 0 τ1),oD 4 (.load1 (.int .i64) τ3),oD 5 (.callF 182 [τ4,(.const (.int .i64 255))]),oM 6 τ5,oG 7 (.fieldA 1 τ1) 6 true,oG 8 (.load1 (.int .i64) τ7) 6 true,oG 9 (.callF 182 [τ8,(.const (.int .i64 65535))]) 6 true,oD 10 (.pick τ6 τ9 (.const (.bool false))),oM 11 Xcj,oG 12 (.fieldA 3 τ1) 11 true,oG 13 (.load1 (.int .i64) XcH) 11 true,oG 14 (.callF 182 [XcM,(.const (.int .i64 255))]) 11 true,oD 15 (.pick Xb4 Xc7 (.const (.bool false))),oM 16 XcY,oG 17 (.fieldA 4 τ1) 16 true,oG 18 (.load1 (.int .i64) Xc0) 16 true,oG 19 (.callF 182 [Xdw,(.const (.int .i64 255))]) 16 true,oD 20 (.pick Xc1 Xdk (.const (.bool false))),oM 21 XdE,oG 22 (.fieldA 5 τ1) 21 true,oG 23 (.loadN [.bool,(.int .u64),(.int .u64)] Xeh) 21 true,oG 24 (.callF 183 [Xep]) 21 true,oD 25 (.pick XdX Xek (.const (.bool false))),oM 26 XeI,oG 27 (.fieldA 8 τ1) 26 true,oG 28 (.loadN [.bool,(.int .u64),(.int .u64)] XeH) 26 true,oG 29 (.callF 183 [XeD]) 26 true,oD 30 (.pick XdY XeG (.const (.bool false))),oM 31 XeO,oG 32 (.fieldA 11 τ1) 31 true,oG 33 (.load1 .str Xfj) 31 true,oG 34 (.lenS XfE) 31 true,oG 35 (.bin .leq XfH (.const (.int .i64 40))) 31 true,oD 36 (.pick XeP XfG (.const (.bool false))),oM 37 XfF,oG 38 (.fieldA 11 τ1) 37 true,oG 39 (.load1 .str Xgl) 37 true,oG 40 (.lenS Xgp) 37 true,oG 41 (.bin .rem Xg4 (.const (.int .i64 4))) 37 true,oG 42 (.bin .eql Xg7 (.const (.int .i64 0))) 37 true,oD 43 (.pick Xfm Xg6 (.const (.bool false))),oM 2 Xg5]
def X2t:VC:=.seq YbA .ret
def XBz:VC:=.seq X6i X2t
def XZ3:VFn:=⟨44,XBz,[.tmp 2]⟩
def X9y:VC:=.reg [oD 4 (.mv (.const (.bool false)))]
def X8h:VC:=.reg [oM 5 τ0,oD 6 (.bin .geq τ5 (.const (.int .i64 0))),oM 7 τ6,oG 8 (.mv τ0) 7 true,oG 9 (.mv τ1) 7 true,oG 10 (.bin .leq τ8 τ9) 7 true,oD 11 (.pick τ7 Xcj (.const (.bool false))),oM 4 Xb4]
def X8q:VC:=.seq X8h .ret
def XCV:VC:=.seq X9y X8q
def XXL:VFn:=⟨12,XCV,[.tmp 4]⟩
def X7O:VC:=.reg [oD 1 (.box τ0),oD 2 (.mv (.const (.bool false)))]
def XZa:VC:=.reg [oD 3 (.loadN [.bool,(.int .u64),(.int .u64)] τ1),oD 4 (.callF 84 [τ3]),oM 5 τ4,oG 6 (.fieldA 0 τ1) 5 true,oG 7 (.load1 .bool τ6) 5 true,oG 8 (.not τ7) 5 true,oD 9 (.pick τ5 τ8 (.const (.bool false))),oM 2 τ9]
def XT1:VC:=.seq XZa .ret
def XCU:VC:=.seq X7O XT1
def X5E:VFn:=⟨10,XCU,[.tmp 2]⟩
def k25_0:VC:=.reg [oD 2 (.box τ0),oD 4 (.mv (.const (.string ⟨⟨[]⟩⟩))),oD 5 (.mv (.const (.int .i64 0)))]
def k25_1:VC:=.reg [oD 8 (.fieldA 0 τ2),oD 9 (.load1 (.int .i64) τ8),oD 10 (.bin .neq τ9 (.const (.int .i64 17)))]
def k25_2:VC:=.reg [oD 4 (.mv (.const (.string ⟨⟨[]⟩⟩))),oD 5 (.mv (.const (.int .i64 1)))]
def k25_3:VC:=.seq k25_2 .ret
def k25_4:VC:=.cond Xcj k25_3 .skip
def k25_5:VC:=.seq k25_1 k25_4
def k25_6:VC:=.reg [oD 12 (.fieldA 7 τ2),oD 13 (.load1 (.int .i64) XcH),oD 14 (.fieldA 8 τ2),oD 15 (.load1 (.int .i64) Xc7),oD 16 (.build [(.int .i64 0),(.int .i64 0)] [(0,1,XcM),(1,1,XcY)]),oD 17 (.fieldA 1 τ2),oD 18 (.loadN [.bool,(.int .u64),(.int .u64)] Xc0),oD 19 (.fieldA 4 τ2),oD 20 (.loadN [.bool,(.int .u64),(.int .u64)] Xdk),oM 21 τ1,oD 22 (.callF 79 [Xc1,Xdw,XdE,XdX]),oM 11 Xeh,oE 23 0 Xb4,oE 24 1 Xb4,oM 6 Xep,oM 7 Xek]
def k25_7:VC:=.reg [oM 25 τ7,oD 26 (.bin .neq XeI (.const (.int .i64 0)))]
def k25_8:VC:=.reg [oM 27 τ7,oD 4 (.mv (.const (.string ⟨⟨[]⟩⟩))),oM 5 XeH]
def k25_9:VC:=.seq k25_8 .ret
def XVu:VC:=.cond XdY k25_9 .skip
def X9S:VC:=.seq k25_7 XVu
def XSp:VC:=.reg [oD 28 (.loadN [(.int .i64),.bool,(.int .u64),(.int .u64),.bool,(.int .u64),(.int .u64),(.int .i64),(.int .i64)] τ2),oM 29 τ6,oD 30 (.callF 27 [XeD,XeG]),oE 31 0 XeO,oE 32 1 XeO,oM 4 XeP,oM 5 Xfj]
def X9R:VC:=.seq XSp .ret
def XYN:VC:=.seq X9S X9R
def X3Q:VC:=.seq k25_6 XYN
def XYK:VC:=.seq k25_5 X3Q
def XBG:VC:=.seq k25_0 XYK
def fn25:VFn:=⟨33,XBG,[.tmp 4,.tmp 5]⟩
def k79_0:VC:=.reg [oD 4 (.box τ0),oD 5 (.box τ1),oD 6 (.box τ2),oD 8 (.mv (.const (.string ⟨⟨[]⟩⟩))),oD 9 (.mv (.const (.int .i64 0)))]
def k79_1:VC:=.reg [oM 17 τ3,oD 18 (.lenS Xc0),oD 19 (.bin .add (.const (.int .i64 8)) Xdw),oM 10 Xdk]
def k79_2:VC:=.reg [oD 20 (.loadN [.bool,(.int .u64),(.int .u64)] τ5),oD 21 (.loadN [.bool,(.int .u64),(.int .u64)] τ6),oM 22 Xcj,oD 23 (.callF 125 [XdE,XdX,(.const (.int .i64 17)),Xeh]),oM 11 Xep]
def k79_3:VC:=.reg [oD 25 (.fieldA 0 τ4),oD 26 (.load1 (.int .i64) XeI),oD 27 (.callF 131 [XdY]),oD 28 (.not XeH),oM 29 XeD,oG 30 (.fieldA 1 τ4) 29 false,oG 31 (.load1 (.int .i64) XeO) 29 false,oG 32 (.callF 131 [XeP]) 29 false,oG 33 (.not Xfj) 29 false,oD 34 (.pick XeG (.const (.bool true)) XfE),oM 35 XfH,oG 36 (.mv Xb4) 35 false,oG 37 (.bin .eql XfF (.const (.string ⟨⟨[]⟩⟩))) 35 false,oD 38 (.pick XfG (.const (.bool true)) Xfm),oM 24 Xgl]
def k79_4:VC:=.reg [oD 8 (.mv (.const (.string ⟨⟨[]⟩⟩))),oD 9 (.mv (.const (.int .i64 1)))]
def k79_5:VC:=.seq k79_4 .ret
def k79_6:VC:=.reg [oM 40 Xcj,oD 41 (.bin .gtr Xg4 (.const (.int .i64 65535))),oM 39 Xg7]
def k79_7:VC:=.reg [oD 8 (.mv (.const (.string ⟨⟨[]⟩⟩))),oD 9 (.mv (.const (.int .i64 5)))]
def k79_8:VC:=.seq k79_7 .ret
def k79_9:VC:=.cond Xgp k79_8 .skip
def X5h:VC:=.seq k79_6 k79_9
def XTW:VC:=.cond Xek k79_5 X5h
def XYw:VC:=.seq k79_3 XTW
def YdI:VC:=.block 0 XYw
def YdJ:VC:=.reg [oD 12 (.allocB 191 5)]
def XUF:VC:=.reg [oD 42 (.fieldA 0 τ4),oD 43 (.load1 (.int .i64) Xg6),oD 44 (.fieldA 1 τ4),oD 45 (.load1 (.int .i64) Xhv),oM 46 Xcj,oD 47 (.build [(.int .i64 0),(.int .i64 0),(.int .i64 0),(.int .i64 0)] [(0,1,Xg5),(1,1,Xhw),(2,1,XhZ),(3,1,(.const (.int .i64 0)))]),oD 48 (.mv (.const (.int .i64 0)))]
def X6W:VC:=.reg [oD 49 (.bin .lss Xh0 (.const (.int .i64 4)))]
def Yaj:VC:=.cond Xh9 .skip (.exit 1)
def YcM:VC:=.reg [oD 50 (.idxV1 4 Xhu Xh0),oM 14 Xiq]
def X5z:VC:=.reg [oM 51 Xc7,oD 52 (.conv .u64 Xi5),oD 53 (.callF 72 [Xjx,(.const (.int .i64 2))]),oD 54 (.callF 132 [XcH,XjE])]
def Ycr:VC:=.seq YcM X5z
def XY1:VC:=.block 2 Ycr
def XVG:VC:=.reg [oD 55 (.bin .add Xh0 (.const (.int .i64 1))),oM 48 XjT]
def XVU:VC:=.seq XY1 XVG
def X0L:VC:=.seq Yaj XVU
def XtN:VC:=.seq X6W X0L
def YbI:VC:=.loop XtN
def X3h:VC:=.block 1 YbI
def XZu:VC:=.seq XUF X3h
def X0N:VC:=.reg [oM 56 τ3,oD 57 (.callF 132 [XcH,XkA])]
def X8t:VC:=.reg [oD 58 (.callF 133 [XcH]),oM 15 Xkj]
def X0R:VC:=.reg [oM 59 Xb4,oM 60 XcY,oD 61 (.bin .add XkB XkV),oD 62 (.callF 128 [Xlq]),oM 16 Xl6]
def XZU:VC:=.reg [oM 63 Xc1,oD 64 (.bin .eql Xm0 (.const (.int .i64 0)))]
def XZM:VC:=.reg [oD 16 (.mv (.const (.int .i64 65535)))]
def X6Y:VC:=.cond Xnc XZM .skip
def XW7:VC:=.seq XZU X6Y
def X8S:VC:=.reg [oM 65 XcY,oM 66 Xc1,oD 67 (.conv .u64 Xnr),oD 68 (.callF 73 [XnT,(.const (.int .i64 6)),(.const (.int .i64 2)),XnI]),oM 8 Xos,oD 9 (.mv (.const (.int .i64 0)))]
def X8R:VC:=.seq X8S .ret
def XVE:VC:=.seq XW7 X8R
def X0d:VC:=.seq X0R XVE
def XZA:VC:=.seq X8t X0d
def XCc:VC:=.seq X0N XZA
def XZ9:VC:=.seq XZu XCc
def X7Q:VC:=.seq YdJ XZ9
def XYu:VC:=.seq YdI X7Q
def X7e:VC:=.seq k79_2 XYu
def X9G:VC:=.seq k79_1 X7e
def XBW:VC:=.seq k79_0 X9G
def fn79:VFn:=⟨69,XBW,[.tmp 8,.tmp 9]⟩
def X2C:VC:=.reg [oD 2 (.mv (.const (.bool false)))]
def Yau:VC:=.reg [oM 3 τ0,oD 4 (.bin .leq (.const (.int .i64 0)) τ3),oM 5 τ4,oG 6 (.mv τ0) 5 true,oG 7 (.bin .leq τ6 (.const (.int .i64 65535))) 5 true,oD 8 (.pick τ5 τ7 (.const (.bool false))),oM 2 τ8]
def XVt:VC:=.seq Yau .ret
def XDx:VC:=.seq X2C XVt
def X85:VFn:=⟨9,XDx,[.tmp 2]⟩
def k26_0:VC:=.reg [oD 2 (.box τ0),oD 4 (.mv (.const (.string ⟨⟨[]⟩⟩))),oD 5 (.mv (.const (.int .i64 0)))]
def k26_1:VC:=.reg [oD 8 (.fieldA 0 τ2),oD 9 (.load1 (.int .i64) τ8),oD 10 (.bin .neq τ9 (.const (.int .i64 17)))]
def k26_2:VC:=.reg [oD 4 (.mv (.const (.string ⟨⟨[]⟩⟩))),oD 5 (.mv (.const (.int .i64 1)))]
def k26_3:VC:=.seq k26_2 .ret
def k26_4:VC:=.cond Xcj k26_3 .skip
def k26_5:VC:=.seq k26_1 k26_4
def k26_6:VC:=.reg [oD 12 (.fieldA 7 τ2),oD 13 (.load1 (.int .i64) XcH),oD 14 (.fieldA 8 τ2),oD 15 (.load1 (.int .i64) Xc7),oD 16 (.build [(.int .i64 0),(.int .i64 0)] [(0,1,XcM),(1,1,XcY)]),oD 17 (.fieldA 1 τ2),oD 18 (.loadN [.bool,(.int .u64),(.int .u64)] Xc0),oD 19 (.fieldA 4 τ2),oD 20 (.loadN [.bool,(.int .u64),(.int .u64)] Xdk),oM 21 τ1,oD 22 (.callF 80 [Xc1,Xdw,XdE,XdX]),oM 11 Xeh,oE 23 0 Xb4,oE 24 1 Xb4,oM 6 Xep,oM 7 Xek]
def k26_7:VC:=.reg [oM 25 τ7,oD 26 (.bin .neq XeI (.const (.int .i64 0)))]
def k26_8:VC:=.reg [oM 27 τ7,oD 4 (.mv (.const (.string ⟨⟨[]⟩⟩))),oM 5 XeH]
def k26_9:VC:=.seq k26_8 .ret
def YaX:VC:=.cond XdY k26_9 .skip
def X79:VC:=.seq k26_7 YaX
def X43:VC:=.reg [oD 28 (.loadN [(.int .i64),.bool,(.int .u64),(.int .u64),.bool,(.int .u64),(.int .u64),(.int .i64),(.int .i64)] τ2),oM 29 τ6,oD 30 (.callF 28 [XeD,XeG]),oE 31 0 XeO,oE 32 1 XeO,oM 4 XeP,oM 5 Xfj]
def X8x:VC:=.seq X43 .ret
def X7k:VC:=.seq X79 X8x
def X7o:VC:=.seq k26_6 X7k
def X9x:VC:=.seq k26_5 X7o
def XBL:VC:=.seq k26_0 X9x
def fn26:VFn:=⟨33,XBL,[.tmp 4,.tmp 5]⟩
def k80_0:VC:=.reg [oD 4 (.box τ0),oD 5 (.box τ1),oD 6 (.box τ2),oD 8 (.mv (.const (.string ⟨⟨[]⟩⟩))),oD 9 (.mv (.const (.int .i64 0)))]
def k80_1:VC:=.reg [oM 14 τ3,oD 15 (.lenS Xc7),oD 16 (.bin .add (.const (.int .i64 8)) XcY),oM 10 Xc1]
def k80_2:VC:=.reg [oD 17 (.loadN [.bool,(.int .u64),(.int .u64)] τ5),oD 18 (.loadN [.bool,(.int .u64),(.int .u64)] τ6),oM 19 Xcj,oD 20 (.callF 129 [Xc0,Xdw,(.const (.int .i64 17)),Xdk]),oM 11 XdE]
def k80_3:VC:=.reg [oD 21 (.fieldA 0 τ4),oD 22 (.load1 (.int .i64) XdX),oD 23 (.callF 134 [Xeh]),oD 24 (.not Xep),oM 25 Xek,oG 26 (.fieldA 1 τ4) 25 false,oG 27 (.load1 (.int .i64) XdY) 25 false,oG 28 (.callF 134 [XeH]) 25 false,oG 29 (.not XeD) 25 false,oD 30 (.pick XeI (.const (.bool true)) XeG),oM 31 XeO,oG 32 (.mv Xb4) 31 false,oG 33 (.bin .eql Xfj (.const (.string ⟨⟨[]⟩⟩))) 31 false,oD 34 (.pick XeP (.const (.bool true)) XfE)]
def k80_4:VC:=.reg [oD 8 (.mv (.const (.string ⟨⟨[]⟩⟩))),oD 9 (.mv (.const (.int .i64 1)))]
def k80_5:VC:=.seq k80_4 .ret
def k80_6:VC:=.cond XfH k80_5 .skip
def k80_7:VC:=.seq k80_3 k80_6
def k80_8:VC:=.reg [oM 35 Xcj,oD 36 (.bin .gtr XfG (.const (.int .i64 65535)))]
def k80_9:VC:=.reg [oD 8 (.mv (.const (.string ⟨⟨[]⟩⟩))),oD 9 (.mv (.const (.int .i64 5)))]
def XYQ:VC:=.seq k80_9 .ret
def X6J:VC:=.cond XfF XYQ .skip
def XYh:VC:=.seq k80_8 X6J
def X1i:VC:=.regD [oD 37 (.fieldA 0 τ4),oD 38 (.load1 (.int .i64) Xfm),oD 39 (.conv .u64 Xgl),oD 40 (.callF 98 [Xgp,(.const (.int .i64 2))]),oD 41 (.fieldA 1 τ4),oD 42 (.load1 (.int .i64) Xg7),oD 43 (.conv .u64 Xg6),oD 44 (.callF 98 [Xg5,(.const (.int .i64 2))]),oD 45 (.bin .add Xg4 Xhv),oM 46 Xcj,oD 47 (.conv .u64 XhZ),oD 48 (.callF 98 [Xhu,(.const (.int .i64 2))]),oD 49 (.bin .add Xhw Xh0),oD 50 (.bin .add Xh9 (.const (.string ⟨⟨[0,0]⟩⟩))),oM 51 τ3] [(3,5)] [oD 52 (.bin .add Xiq Xi5),oM 12 Xjx]
def XZY:VC:=.reg [oM 53 Xb4,oM 54 XcH,oD 55 (.bin .add XjE XjP),oD 56 (.callF 100 [XjT]),oM 13 XkA]
def X2f:VC:=.reg [oM 57 XcM,oD 58 (.bin .eql Xj7 (.const (.int .i64 0)))]
def X0X:VC:=.reg [oD 13 (.mv (.const (.int .i64 65535)))]
def XYd:VC:=.cond Xkj X0X .skip
def XZe:VC:=.seq X2f XYd
def X4a:VC:=.reg [oM 59 XcH,oM 60 XcM,oD 61 (.conv .u64 XkV),oD 62 (.callF 99 [XkB,(.const (.int .i64 6)),(.const (.int .i64 2)),Xlq]),oM 8 Xl6,oD 9 (.mv (.const (.int .i64 0)))]
def X9T:VC:=.seq X4a .ret
def X6v:VC:=.seq XZe X9T
def XSL:VC:=.seq XZY X6v
def X8j:VC:=.seq X1i XSL
def XTt:VC:=.seq XYh X8j
def XVa:VC:=.seq k80_7 XTt
def XVO:VC:=.seq k80_2 XVa
def XY0:VC:=.seq k80_1 XVO
def XCD:VC:=.seq k80_0 XY0
def fn80:VFn:=⟨63,XCD,[.tmp 8,.tmp 9]⟩
def XTh:VC:=.reg [oD 2 (.mv (.const (.bool false)))]
def X6G:VC:=.reg [oM 3 τ0,oD 4 (.bin .geq τ3 (.const (.int .i64 0))),oM 5 τ4,oG 6 (.mv τ0) 5 true,oG 7 (.bin .leq τ6 (.const (.int .i64 65535))) 5 true,oD 8 (.pick τ5 τ7 (.const (.bool false))),oM 2 τ8]
def XZI:VC:=.seq X6G .ret
def XDw:VC:=.seq XTh XZI
def X1U:VFn:=⟨9,XDw,[.tmp 2]⟩
def k3_0:VC:=.reg [oD 8 (.mv (.const (.bool false)))]
def k3_1:VC:=.reg [oM 30 τ0,oD 31 (.lenS XeO),oD 32 (.bin .gtr XeP (.const (.int .i64 200)))]
def k3_2:VC:=.reg [oD 33 (.callF 11 []),oM 8 XfE]
def k3_3:VC:=.seq k3_2 .ret
def k3_4:VC:=.cond Xfj k3_3 .skip
def k3_5:VC:=.seq k3_1 k3_4
def k3_6:VC:=.reg [oM 35 τ0,oD 36 (.callF 12 [XfG]),oM 34 XfF,oE 37 0 XfH,oE 38 1 XfH,oD 9 (.alloc [(.int .i64 0),(.bool false),(.int .u64 0),(.int .u64 0),(.bool false),(.int .u64 0),(.int .u64 0),(.int .i64 0),(.int .i64 0),(.int .i64 0),(.bool false),(.int .u32 0),(.int .u32 0),(.bool false),(.string ⟨⟨[]⟩⟩),(.int .i64 0)]),oN (.store 16 τ9 Xfm),oM 10 Xgl]
def k3_7:VC:=.reg [oM 40 τ0,oM 41 τ1,oD 42 (.callF 13 [Xg4,Xg7]),oM 39 Xg6,oE 43 0 Xgp,oE 44 1 Xgp,oM 11 Xg5,oM 12 Xhv]
def k3_8:VC:=.reg [oM 45 XcH,oD 46 (.bin .eql Xhw (.const (.int .i64 0)))]
def k3_9:VC:=.reg [oM 48 Xb4,oD 49 (.callF 12 [Xh0]),oM 47 Xh9,oE 50 0 Xhu,oE 51 1 Xhu,oD 13 (.alloc [(.int .i64 0),(.bool false),(.int .u64 0),(.int .u64 0),(.bool false),(.int .u64 0),(.int .u64 0),(.int .i64 0),(.int .i64 0),(.int .i64 0),(.bool false),(.int .u32 0),(.int .u32 0),(.bool false),(.string ⟨⟨[]⟩⟩),(.int .i64 0)]),oN (.store 16 XcM Xiq),oM 14 Xi5]
def k3_10:VC:=.reg [oM 52 Xcj,oD 53 (.bin .neq Xjx (.const (.int .i64 0))),oM 54 XjE,oG 55 (.mv Xc7) 54 false,oG 56 (.bin .neq XjT (.const (.int .i64 0))) 54 false,oD 57 (.pick XjP (.const (.bool true)) XkA),oM 58 Xj7,oG 59 (.fieldA 11 XcM) 58 false,oG 60 (.load1 (.int .u32) XkB) 58 false,oG 61 (.mv τ1) 58 false,oG 62 (.conv .u32 Xlq) 58 false,oG 63 (.bin .shl Xl6 (.const (.int .u64 16))) 58 false,oG 64 (.fieldA 11 τ9) 58 false,oG 65 (.load1 (.int .u32) Xnc) 58 false,oG 66 (.bin .rem XnT (.const (.int .u32 65536))) 58 false,oG 67 (.bin .add Xm0 Xnr) 58 false,oG 68 (.bin .neq XkV XnI) 58 false,oD 69 (.pick Xkj (.const (.bool true)) Xos),oM 70 XoR,oG 71 (.mv Xb4) 70 false,oG 72 (.lenS XpO) 70 false,oG 73 (.mv τ0) 70 false,oG 74 (.lenS XqX) 70 false,oG 75 (.bin .neq Xpt Xr0) 70 false,oD 76 (.pick XpE (.const (.bool true)) Xsx),oM 77 Xwv,oG 78 (.mv τ0) 77 false,oG 79 (.mv Xb4) 77 false,oG 80 (.callF 14 [XwM,XAL]) 77 false,oG 81 (.bin .gtr XwH (.const (.int .i64 4))) 77 false,oD 82 (.pick Xtl (.const (.bool true)) Xz4)]
def k3_11:VC:=.reg [oD 8 (.mv (.const (.bool false)))]
def k3_12:VC:=.seq k3_11 .ret
def k3_13:VC:=.cond Xya k3_12 .skip
def k3_14:VC:=.seq k3_10 k3_13
def k3_15:VC:=.reg [oD 83 (.fieldA 11 τ9),oD 84 (.load1 (.int .u32) XwF),oD 85 (.fieldA 11 XcM),oN (.store 1 XNQ XCC)]
def k3_16:VC:=.reg [oD 86 (.loadN [(.int .i64),.bool,(.int .u64),(.int .u64),.bool,(.int .u64),(.int .u64),(.int .i64),(.int .i64),(.int .i64),.bool,(.int .u32),(.int .u32),.bool,.str,(.int .i64)] XcM),oD 87 (.loadN [(.int .i64),.bool,(.int .u64),(.int .u64),.bool,(.int .u64),(.int .u64),(.int .i64),(.int .i64),(.int .i64),.bool,(.int .u32),(.int .u32),.bool,.str,(.int .i64)] τ9),oD 88 (.eqAgg true [(0,(.int .i64)),(1,.bool),(2,(.int .u64)),(3,(.int .u64)),(4,.bool),(5,(.int .u64)),(6,(.int .u64)),(7,(.int .i64)),(8,(.int .i64)),(9,(.int .i64)),(10,.bool),(11,(.int .u32)),(12,(.int .u32)),(13,.bool),(14,.str),(15,(.int .i64))] XK0 XI9)]
def k3_17:VC:=.reg [oD 8 (.mv (.const (.bool false)))]
def k3_18:VC:=.seq k3_17 .ret
def k3_19:VC:=.cond XDa k3_18 .skip
def k3_20:VC:=.seq k3_16 k3_19
def k3_21:VC:=.seq k3_15 k3_20
def k3_22:VC:=.seq k3_14 k3_21
def k3_23:VC:=.seq k3_9 k3_22
def k3_24:VC:=.cond XhZ k3_23 .skip
def k3_25:VC:=.seq k3_8 k3_24
def k3_26:VC:=.seq k3_7 k3_25
def k3_27:VC:=.reg [oM 90 τ0,oM 91 τ2,oD 92 (.callF 15 [XKI,XPe]),oM 89 XHu,oE 93 0 XCF,oE 94 1 XCF,oM 15 XJ8,oM 16 XCr]
def k3_28:VC:=.reg [oM 95 Xc1,oD 96 (.bin .eql XHH (.const (.int .i64 0)))]
def k3_29:VC:=.reg [oM 98 XcY,oD 99 (.callF 12 [XXP]),oM 97 τ99,oE 100 0 XNC,oE 101 1 XNC,oD 17 (.alloc [(.int .i64 0),(.bool false),(.int .u64 0),(.int .u64 0),(.bool false),(.int .u64 0),(.int .u64 0),(.int .i64 0),(.int .i64 0),(.int .i64 0),(.bool false),(.int .u32 0),(.int .u32 0),(.bool false),(.string ⟨⟨[]⟩⟩),(.int .i64 0)]),oN (.store 16 Xc0 XvZ),oM 18 Xxc]
def k3_30:VC:=.reg [oM 102 Xcj,oD 103 (.bin .neq XRf (.const (.int .i64 0))),oM 104 XRp,oG 105 (.mv Xdw) 104 false,oG 106 (.bin .neq XJ5 (.const (.int .i64 0))) 104 false,oD 107 (.pick XEA (.const (.bool true)) XJS),oM 108 XLb,oG 109 (.fieldA 12 Xc0) 108 false,oG 110 (.load1 (.int .u32) XQV) 108 false,oG 111 (.bin .rem XNb (.const (.int .u32 65536))) 108 false,oG 112 (.fieldA 12 τ9) 108 false,oG 113 (.load1 (.int .u32) XMP) 108 false,oG 114 (.bin .rem XKx (.const (.int .u32 65536))) 108 false,oG 115 (.bin .neq Xty XKF) 108 false,oD 116 (.pick XQq (.const (.bool true)) XJE),oM 117 XIV,oG 118 (.mv τ2) 117 false,oG 119 (.fieldA 12 Xc0) 117 false,oG 120 (.load1 (.int .u32) XP3) 117 false,oG 121 (.bin .sub XKe XQ8) 117 false,oG 122 (.bin .geq XEG (.const (.int .u32 65536))) 117 false,oD 123 (.pick XPx (.const (.bool true)) XOg),oM 124 XN6,oG 125 (.mv XcY) 124 false,oG 126 (.lenS XDN) 124 false,oG 127 (.mv τ0) 124 false,oG 128 (.lenS XQ3) 124 false,oG 129 (.bin .neq XKc XQ4) 124 false,oD 130 (.pick XMJ (.const (.bool true)) XN9),oM 131 XIs,oG 132 (.mv τ0) 131 false,oG 133 (.mv XcY) 131 false,oG 134 (.callF 14 [XPr,XEk]) 131 false,oG 135 (.bin .gtr XOF (.const (.int .i64 4))) 131 false,oD 136 (.pick XMC (.const (.bool true)) XGc)]
def k3_31:VC:=.reg [oD 8 (.mv (.const (.bool false)))]
def k3_32:VC:=.seq k3_31 .ret
def k3_33:VC:=.cond XPn k3_32 .skip
def k3_34:VC:=.seq k3_30 k3_33
def k3_35:VC:=.reg [oD 137 (.fieldA 12 τ9),oD 138 (.load1 (.int .u32) XQl),oD 139 (.fieldA 12 Xc0),oN (.store 1 XPU XRq)]
def k3_36:VC:=.reg [oD 140 (.loadN [(.int .i64),.bool,(.int .u64),(.int .u64),.bool,(.int .u64),(.int .u64),(.int .i64),(.int .i64),(.int .i64),.bool,(.int .u32),(.int .u32),.bool,.str,(.int .i64)] Xc0),oD 141 (.loadN [(.int .i64),.bool,(.int .u64),(.int .u64),.bool,(.int .u64),(.int .u64),(.int .i64),(.int .i64),(.int .i64),.bool,(.int .u32),(.int .u32),.bool,.str,(.int .i64)] τ9),oD 142 (.eqAgg true [(0,(.int .i64)),(1,.bool),(2,(.int .u64)),(3,(.int .u64)),(4,.bool),(5,(.int .u64)),(6,(.int .u64)),(7,(.int .i64)),(8,(.int .i64)),(9,(.int .i64)),(10,.bool),(11,(.int .u32)),(12,(.int .u32)),(13,.bool),(14,.str),(15,(.int .i64))] XEb XO7)]
def k3_37:VC:=.reg [oD 8 (.mv (.const (.bool false)))]
def k3_38:VC:=.seq k3_37 .ret
def k3_39:VC:=.cond XAk k3_38 .skip
def k3_40:VC:=.seq k3_36 k3_39
def k3_41:VC:=.seq k3_35 k3_40
def k3_42:VC:=.seq k3_34 k3_41
def k3_43:VC:=.seq k3_29 k3_42
def k3_44:VC:=.cond XHW k3_43 .skip
def k3_45:VC:=.seq k3_28 k3_44
def k3_46:VC:=.seq k3_27 k3_45
def k3_47:VC:=.reg [oM 144 τ0,oM 145 τ3,oD 146 (.callF 16 [XF6,XJX]),oM 143 XQu,oE 147 0 XAI,oE 148 1 XAI,oM 19 XFT,oM 20 XHU]
def k3_48:VC:=.reg [oM 149 XdE,oD 150 (.bin .neq XJD (.const (.int .i64 0)))]
def k3_49:VC:=.reg [oM 151 Xdk,oD 152 (.bin .eql XFf (.const (.string ⟨⟨[]⟩⟩))),oM 153 XPA,oG 154 (.callF 11 []) 153 true,oD 155 (.pick XNI XDG (.const (.bool false))),oM 8 XIe]
def k3_50:VC:=.seq k3_49 .ret
def k3_51:VC:=.cond XLD k3_50 .skip
def k3_52:VC:=.seq k3_48 k3_51
def k3_53:VC:=.reg [oM 157 Xdk,oD 158 (.callF 12 [XPv]),oM 156 XJH,oE 159 0 Xy7,oE 160 1 Xy7,oD 21 (.alloc [(.int .i64 0),(.bool false),(.int .u64 0),(.int .u64 0),(.bool false),(.int .u64 0),(.int .u64 0),(.int .i64 0),(.int .i64 0),(.int .i64 0),(.bool false),(.int .u32 0),(.int .u32 0),(.bool false),(.string ⟨⟨[]⟩⟩),(.int .i64 0)]),oN (.store 16 XdX XFc),oM 22 XD4]
def k3_54:VC:=.reg [oM 162 Xdk,oD 163 (.callF 17 [τ162]),oM 161 τ163,oE 164 0 XBc,oE 165 1 XBc,oE 166 2 XBc,oM 23 τ164,oM 24 τ165,oM 25 τ166]
def k3_55:VC:=.reg [oM 167 Xcj,oD 168 (.bin .neq τ167 (.const (.int .i64 0))),oM 169 τ168,oG 170 (.mv Xeh) 169 false,oG 171 (.bin .neq τ170 (.const (.int .i64 0))) 169 false,oD 172 (.pick τ169 (.const (.bool true)) τ171),oM 173 τ172,oG 174 (.loadN [(.int .i64),.bool,(.int .u64),(.int .u64),.bool,(.int .u64),(.int .u64),(.int .i64),(.int .i64),(.int .i64),.bool,(.int .u32),(.int .u32),.bool,.str,(.int .i64)] XdX) 173 false,oG 175 (.loadN [(.int .i64),.bool,(.int .u64),(.int .u64),.bool,(.int .u64),(.int .u64),(.int .i64),(.int .i64),(.int .i64),.bool,(.int .u32),(.int .u32),.bool,.str,(.int .i64)] τ9) 173 false,oG 176 (.eqAgg true [(0,(.int .i64)),(1,.bool),(2,(.int .u64)),(3,(.int .u64)),(4,.bool),(5,(.int .u64)),(6,(.int .u64)),(7,(.int .i64)),(8,(.int .i64)),(9,(.int .i64)),(10,.bool),(11,(.int .u32)),(12,(.int .u32)),(13,.bool),(14,.str),(15,(.int .i64))] τ174 τ175) 173 false,oD 177 (.pick τ173 (.const (.bool true)) τ176),oM 178 τ177,oG 179 (.mv Xdk) 178 false,oG 180 (.lenS τ179) 178 false,oG 181 (.mv τ0) 178 false,oG 182 (.lenS τ181) 178 false,oG 183 (.bin .neq τ180 τ182) 178 false,oD 184 (.pick τ178 (.const (.bool true)) τ183),oM 185 τ184,oG 186 (.mv τ0) 185 false,oG 187 (.mv Xdk) 185 false,oG 188 (.callF 14 [τ186,τ187]) 185 false,oG 189 (.bin .gtr τ188 (.const (.int .i64 10))) 185 false,oD 190 (.pick τ185 (.const (.bool true)) τ189),oM 191 τ190,oG 192 (.mv Xek) 191 false,oG 193 (.mv Xdk) 191 false,oG 194 (.lenS τ193) 191 false,oG 195 (.bin .gtr τ192 τ194) 191 false,oD 196 (.pick τ191 (.const (.bool true)) τ195)]
def k3_56:VC:=.reg [oD 8 (.mv (.const (.bool false)))]
def k3_57:VC:=.seq k3_56 .ret
def k3_58:VC:=.cond τ196 k3_57 .skip
def k3_59:VC:=.seq k3_55 k3_58
def k3_60:VC:=.reg [oM 198 Xdk,oM 199 Xek,oD 200 (.sliceS τ198 (some τ199) none),oD 201 (.callF 18 [τ200]),oM 197 τ201,oE 202 0 X5J,oE 203 1 X5J,oD 26 (.alloc [(.bool false),(.int .i64 0),(.int .u32 0),(.string ⟨⟨[]⟩⟩),(.string ⟨⟨[]⟩⟩),(.string ⟨⟨[]⟩⟩)]),oN (.store 6 XdY τ202),oM 27 τ203]
def k3_61:VC:=.reg [oD 28 (.mv (.const (.int .u64 0)))]
def k3_62:VC:=.reg [oD 29 (.mv (.const (.int .i64 0)))]
def k3_63:VC:=.reg [oM 204 XeG,oD 205 (.fieldA 4 XdY),oD 206 (.load1 .str τ205),oD 207 (.lenS τ206),oD 208 (.bin .lss τ204 τ207)]
def k3_64:VC:=.cond τ208 .skip (.exit 0)
def k3_65:VC:=.seq k3_63 k3_64
def k3_66:VC:=.reg [oM 211 XeD,oD 212 (.bin .shl τ211 (.const (.int .u64 8))),oD 213 (.fieldA 4 XdY),oD 214 (.load1 .str τ213),oM 215 XeG,oD 216 (.idxS τ214 τ215),oD 217 (.conv .u64 τ216),oD 218 (.bin .add τ212 τ217),oM 28 τ218]
def k3_67:VC:=.block 1 k3_66
def k3_68:VC:=.reg [oM 209 XeG,oD 210 (.bin .add τ209 (.const (.int .i64 1))),oM 29 τ210]
def k3_69:VC:=.seq k3_67 k3_68
def k3_70:VC:=.seq k3_65 k3_69
def k3_71:VC:=.loop k3_70
def k3_72:VC:=.block 0 k3_71
def k3_73:VC:=.seq k3_62 k3_72
def k3_74:VC:=.reg [oM 219 XeH,oD 220 (.bin .eql τ219 (.const (.int .i64 0))),oM 221 τ220,oG 222 (.mv XeD) 221 true,oG 223 (.mv τ3) 221 true,oG 224 (.bin .eql τ222 τ223) 221 true,oD 225 (.pick τ221 τ224 (.const (.bool false))),oM 226 τ225,oG 227 (.callF 11 []) 226 true,oD 228 (.pick τ226 τ227 (.const (.bool false))),oM 8 τ228]
def k3_75:VC:=.seq k3_74 .ret
def k3_76:VC:=.seq k3_73 k3_75
def k3_77:VC:=.seq k3_61 k3_76
def k3_78:VC:=.seq k3_60 k3_77
def k3_79:VC:=.seq k3_59 k3_78
def k3_80:VC:=.seq k3_54 k3_79
def k3_81:VC:=.seq k3_53 k3_80
def k3_82:VC:=.seq k3_52 k3_81
def k3_83:VC:=.seq k3_47 k3_82
def k3_84:VC:=.seq k3_46 k3_83
def k3_85:VC:=.seq k3_26 k3_84
def k3_86:VC:=.seq k3_6 k3_85
def k3_87:VC:=.seq k3_5 k3_86
def k3_88:VC:=.seq k3_0 k3_87
def fn3:VFn:=⟨229,k3_88,[.tmp 8]⟩
def k11_0:VC:=.reg [oD 0 (.mv (.const (.bool false)))]
def k11_1:VC:=.reg [oD 12 (.build [(.bool false),(.int .u64 0),(.int .u64 0)] [(2,1,(.const (.int .u64 1)))]),oD 13 (.build [(.bool false),(.int .u64 0),(.int .u64 0)] [(2,1,(.const (.int .u64 2)))]),oD 14 (.build [(.int .i64 0),(.bool false),(.int .u64 0),(.int .u64 0),(.bool false),(.int .u64 0),(.int .u64 0),(.int .i64 0),(.int .i64 0)] [(0,1,(.const (.int .i64 6))),(1,3,XcH),(4,3,XcM)]),oD 1 (.alloc [(.int .i64 0),(.bool false),(.int .u64 0),(.int .u64 0),(.bool false),(.int .u64 0),(.int .u64 0),(.int .i64 0),(.int .i64 0)]),oN (.store 9 τ1 Xc7)]
def k11_2:VC:=.reg [oD 16 (.loadN [(.int .i64),.bool,(.int .u64),(.int .u64),.bool,(.int .u64),(.int .u64),(.int .i64),(.int .i64)] τ1),oD 17 (.callF 24 [Xc1,(.const (.int .i64 16)),(.const (.string ⟨⟨[]⟩⟩)),(.const (.string ⟨⟨[]⟩⟩))]),oM 15 Xc0,oE 18 0 XcY,oE 19 1 XcY,oM 2 Xdw,oM 3 Xdk]
def k11_3:VC:=.regD [oD 21 (.loadN [(.int .i64),.bool,(.int .u64),(.int .u64),.bool,(.int .u64),(.int .u64),(.int .i64),(.int .i64)] τ1),oD 22 (.callF 44 [(.const (.int .u32 74565)),(.const (.int .u32 7))]),oD 23 (.callF 24 [XdX,(.const (.int .i64 16)),Xeh,(.const (.string ⟨⟨[]⟩⟩))]),oM 20 Xep,oE 24 0 XdE,oE 25 1 XdE,oM 4 Xek] [(0,1)] [oM 5 XeI]
def k11_4:VC:=.reg [oM 27 τ2,oD 28 (.callF 13 [XeH,(.const (.int .u16 1))]),oM 26 XeD,oE 29 0 XdY,oE 30 1 XdY,oM 6 XeG,oM 7 XeO]
def k11_5:VC:=.reg [oM 32 τ4,oD 33 (.callF 13 [Xfj,(.const (.int .u16 43981))]),oM 31 XfE,oE 34 0 XeP,oE 35 1 XeP,oM 8 XfH,oM 9 XfG]
def k11_6:VC:=.reg [oM 37 τ8,oD 38 (.callF 12 [Xfm]),oM 36 Xgl,oE 39 0 XfF,oE 40 1 XfF,oD 10 (.alloc [(.int .i64 0),(.bool false),(.int .u64 0),(.int .u64 0),(.bool false),(.int .u64 0),(.int .u64 0),(.int .i64 0),(.int .i64 0),(.int .i64 0),(.bool false),(.int .u32 0),(.int .u32 0),(.bool false),(.string ⟨⟨[]⟩⟩),(.int .i64 0)]),oN (.store 16 Xcj Xgp),oM 11 Xg4]
def k11_7:VC:=.reg [oM 41 τ7,oD 42 (.bin .eql Xg7 (.const (.int .i64 6))),oM 43 Xg6,oG 44 (.mv τ9) 43 true,oG 45 (.bin .eql Xhv (.const (.int .i64 0))) 43 true,oD 46 (.pick Xg5 Xhw (.const (.bool false))),oM 47 XhZ,oG 48 (.mv Xb4) 47 true,oG 49 (.bin .eql Xh0 (.const (.int .i64 0))) 47 true,oD 50 (.pick Xhu Xh9 (.const (.bool false))),oM 51 Xiq,oG 52 (.fieldA 11 Xcj) 51 true,oG 53 (.load1 (.int .u32) Xjx) 51 true,oG 54 (.bin .eql XjE (.const (.int .u32 2882347845))) 51 true,oD 55 (.pick Xi5 XjP (.const (.bool false))),oM 0 XjT]
def k11_8:VC:=.seq k11_7 .ret
def k11_9:VC:=.seq k11_6 k11_8
def X4X:VC:=.seq k11_5 k11_9
def XTF:VC:=.seq k11_4 X4X
def X8i:VC:=.seq k11_3 XTF
def X2u:VC:=.seq k11_2 X8i
def Yai:VC:=.seq k11_1 X2u
def X1P:VC:=.seq k11_0 Yai
def fn11:VFn:=⟨56,X1P,[.tmp 0]⟩
def k44_0:VC:=.reg [oD 4 (.mv (.const (.string ⟨⟨[]⟩⟩)))]
def k44_1:VC:=.reg [oM 5 τ0,oD 6 (.conv .i64 τ5),oD 7 (.callF 97 [τ6,(.const (.int .i64 4))]),oD 8 (.bin .add (.const (.string ⟨⟨[1,1,8,10]⟩⟩)) τ7),oM 9 τ1,oD 10 (.conv .i64 τ9),oD 11 (.callF 97 [Xcj,(.const (.int .i64 4))]),oD 12 (.bin .add τ8 Xb4),oM 4 XcH]
def k44_2:VC:=.seq k44_1 .ret
def k44_3:VC:=.seq k44_0 k44_2
def fn44:VFn:=⟨13,k44_3,[.tmp 4]⟩
def k13_0:VC:=.reg [oD 3 (.box τ1),oD 4 (.mv (.const (.string ⟨⟨[]⟩⟩))),oD 5 (.mv (.const (.int .i64 0)))]
def k13_1:VC:=.reg [oM 6 τ0,oD 7 (.mkFunc 64 [] [τ3]),oD 8 (.callF 63 [τ6,(.const (.int .i64 0)),τ7]),oE 9 0 τ8,oE 10 1 τ8,oM 4 τ9,oM 5 Xcj]
def k13_2:VC:=.seq k13_1 .ret
def k13_3:VC:=.seq k13_0 k13_2
def fn13:VFn:=⟨11,k13_3,[.tmp 4,.tmp 5]⟩
def k64_0:VC:=.reg [oD 2 (.box τ0),oD 3 (.mv (.const (.int .u32 0)))]
def k64_1:VC:=.reg [oD 4 (.fieldA 11 τ2),oD 5 (.load1 (.int .u32) τ4),oD 6 (.load1 (.int .u16) τ1),oD 7 (.callF 65 [τ5,τ6]),oM 3 τ7]
def k64_2:VC:=.seq k64_1 .ret
def k64_3:VC:=.seq k64_0 k64_2
def fn64:VFn:=⟨8,k64_3,[.tmp 3]⟩
def k65_0:VC:=.reg [oD 4 (.mv (.const (.int .u32 0)))]
def k65_1:VC:=.reg [oM 5 τ1,oD 6 (.conv .u32 τ5),oD 7 (.bin .shl τ6 (.const (.int .u64 16))),oM 8 τ0,oD 9 (.callF 68 [τ8]),oD 10 (.conv .u32 τ9),oD 11 (.bin .or τ7 Xcj),oM 4 Xb4]
def k65_2:VC:=.seq k65_1 .ret
def k65_3:VC:=.seq k65_0 k65_2
def fn65:VFn:=⟨12,k65_3,[.tmp 4]⟩
def k68_0:VC:=.reg [oD 2 (.mv (.const (.int .u16 0)))]
def k68_1:VC:=.reg [oM 3 τ0,oD 4 (.conv .u16 τ3),oM 2 τ4]
def k68_2:VC:=.seq k68_1 .ret
def k68_3:VC:=.seq k68_0 k68_2
def fn68:VFn:=⟨5,k68_3,[.tmp 2]⟩
def k63_0:VC:=.reg [oD 6 (.mv (.const (.string ⟨⟨[]⟩⟩))),oD 7 (.mv (.const (.int .i64 0)))]
def k63_1:VC:=.reg [oM 19 τ0,oD 20 (.callF 21 [Xdk]),oM 18 XdE,oE 21 0 Xdw,oE 22 1 Xdw,oD 8 (.alloc [(.int .i64 0),(.bool false),(.int .u64 0),(.int .u64 0),(.bool false),(.int .u64 0),(.int .u64 0),(.int .i64 0),(.int .i64 0),(.int .i64 0),(.bool false),(.int .u32 0),(.int .u32 0),(.bool false),(.string ⟨⟨[]⟩⟩),(.int .i64 0)]),oN (.store 16 τ8 XdX),oM 9 Xeh]
def k63_2:VC:=.reg [oM 24 τ9,oD 25 (.bin .neq Xek (.const (.int .i64 0))),oM 23 XeI]
def k63_3:VC:=.reg [oM 26 τ9,oD 6 (.mv (.const (.string ⟨⟨[]⟩⟩))),oM 7 XdY]
def k63_4:VC:=.seq k63_3 .ret
def k63_5:VC:=.reg [oD 28 (.fieldA 10 τ8),oD 29 (.load1 .bool XeD),oD 30 (.not XeG),oM 27 XeO]
def k63_6:VC:=.reg [oD 6 (.mv (.const (.string ⟨⟨[]⟩⟩))),oD 7 (.mv (.const (.int .i64 6)))]
def k63_7:VC:=.seq k63_6 .ret
def k63_8:VC:=.cond XeH k63_7 .skip
def k63_9:VC:=.seq k63_5 k63_8
def XUY:VC:=.cond Xep k63_4 k63_9
def X1z:VC:=.seq k63_2 XUY
def X4e:VC:=.block 0 X1z
def Yct:VC:=.reg [oM 32 τ0,oD 33 (.callF 22 [Xfj]),oM 31 XfE,oE 34 0 XeP,oE 35 1 XeP,oE 36 2 XeP,oM 10 XfH,oM 11 XfG,oM 12 XfF]
def X5i:VC:=.reg [oM 38 τ0,oM 39 Xcj,oD 40 (.bin .add Xgp (.const (.int .i64 20))),oM 41 Xb4,oD 42 (.sliceS Xgl (some Xg4) (some Xg7)),oD 43 (.callF 111 [Xg6]),oM 37 Xg5,oE 44 0 Xfm,oE 45 1 Xfm,oE 46 2 Xfm,oM 13 Xhv,oM 14 Xhw,oM 15 XhZ]
def YaY:VC:=.regD [oM 48 τ0,oM 49 Xcj,oD 50 (.sliceS Xh0 (some Xh9) none),oM 51 XcY,oD 52 (.bin .add (.const (.int .i64 20)) Xi5),oM 53 τ1,oD 54 (.bin .add Xjx XjE),oM 55 τ2,oD 56 (.loadN [(.int .i64),.bool,(.int .u64),(.int .u64),.bool,(.int .u64),(.int .u64),(.int .i64),(.int .i64),(.int .i64),.bool,(.int .u32),(.int .u32),.bool,.str,(.int .i64)] τ8),oD 57 (.callV XjT [XkA]),oD 58 (.conv .u64 Xj7),oD 59 (.callF 72 [Xkj,(.const (.int .i64 4))]),oD 60 (.callF 71 [Xiq,XjP,XkB,(.const (.int .i64 16))]),oM 47 XkV,oE 61 0 Xhu,oE 62 1 Xhu,oM 16 Xlq] [] [oM 17 Xl6]
def XXJ:VC:=.reg [oM 63 Xc0,oD 64 (.not Xm0)]
def XYV:VC:=.reg [oD 6 (.mv (.const (.string ⟨⟨[]⟩⟩))),oD 7 (.mv (.const (.int .i64 3)))]
def XYA:VC:=.seq XYV .ret
def XX8:VC:=.cond Xnc XYA .skip
def XYn:VC:=.seq XXJ XX8
def X9F:VC:=.reg [oM 65 τ0,oM 66 Xcj,oD 67 (.sliceS XnT none (some Xnr)),oM 68 Xc1,oD 69 (.bin .add XnI Xos),oM 6 XoR,oD 7 (.mv (.const (.int .i64 0)))]
def Ycq:VC:=.seq X9F .ret
def YbD:VC:=.seq XYn Ycq
def XTZ:VC:=.seq YaY YbD
def Ybk:VC:=.seq X5i XTZ
def X33:VC:=.seq Yct Ybk
def YcV:VC:=.seq X4e X33
def Yde:VC:=.seq k63_1 YcV
def Ycd:VC:=.seq k63_0 Yde
def fn63:VFn:=⟨70,Ycd,[.tmp 6,.tmp 7]⟩
def k71_0:VC:=.reg [oD 8 (.mv (.const (.string ⟨⟨[]⟩⟩))),oD 9 (.mv (.const (.bool false)))]
def k71_1:VC:=.reg [oM 17 τ1,oM 18 τ2,oD 19 (.lenS Xdw),oD 20 (.bin .add Xc0 Xdk),oM 10 XdE]
def k71_2:VC:=.reg [oM 22 τ1,oD 23 (.bin .lss Xeh (.const (.int .i64 0))),oM 24 Xep,oG 25 (.mv τ0) 24 false,oG 26 (.lenS XeI) 24 false,oG 27 (.mv τ2) 24 false,oG 28 (.lenS XeH) 24 false,oG 29 (.bin .sub XdY XeD) 24 false,oG 30 (.mv τ1) 24 false,oG 31 (.bin .lss XeG XeO) 24 false,oD 32 (.pick Xek (.const (.bool true)) XeP),oM 33 Xfj,oG 34 (.mv τ3) 33 false,oG 35 (.bin .lss XfH (.const (.int .i64 0))) 33 false,oD 36 (.pick XfE (.const (.bool true)) XfG),oM 37 XfF,oG 38 (.mv τ3) 37 false,oG 39 (.bin .rem Xgl (.const (.int .i64 2))) 37 false,oG 40 (.bin .eql Xgp (.const (.int .i64 1))) 37 false,oD 41 (.pick Xfm (.const (.bool true)) Xg4),oM 42 Xg7,oG 43 (.mv τ0) 42 false,oG 44 (.lenS Xg5) 42 false,oG 45 (.bin .sub Xhv (.const (.int .i64 2))) 42 false,oG 46 (.mv τ3) 42 false,oG 47 (.bin .lss Xhw XhZ) 42 false,oD 48 (.pick Xg6 (.const (.bool true)) Xhu),oM 21 Xh0]
def k71_3:VC:=.reg [oD 8 (.mv (.const (.string ⟨⟨[]⟩⟩))),oD 9 (.mv (.const (.bool false)))]
def k71_4:VC:=.seq k71_3 .ret
def k71_5:VC:=.reg [oM 50 τ2,oD 51 (.bin .eql Xiq (.const (.string ⟨⟨[]⟩⟩))),oM 49 Xi5]
def k71_6:VC:=.reg [oM 52 τ0,oM 8 Xjx,oD 9 (.mv (.const (.bool true)))]
def k71_7:VC:=.seq k71_6 .ret
def k71_8:VC:=.reg [oM 54 τ1,oM 55 τ3,oD 56 (.bin .add XjT (.const (.int .i64 2))),oD 57 (.bin .lss XjP XkA),oM 58 Xj7,oG 59 (.mv τ3) 58 true,oG 60 (.mv Xcj) 58 true,oG 61 (.bin .lss XkB XkV) 58 true,oD 62 (.pick Xkj Xlq (.const (.bool false))),oM 53 Xl6]
def k71_9:VC:=.reg [oD 8 (.mv (.const (.string ⟨⟨[]⟩⟩))),oD 9 (.mv (.const (.bool false)))]
def XWc:VC:=.seq k71_9 .ret
def Ybb:VC:=.cond XjE XWc .skip
def XUN:VC:=.seq k71_8 Ybb
def Ybz:VC:=.cond Xh9 k71_7 XUN
def YcL:VC:=.seq k71_5 Ybz
def XZ8:VC:=.cond XdX k71_4 YcL
def XYe:VC:=.seq k71_2 XZ8
def YcK:VC:=.block 0 XYe
def X2i:VC:=.regD [oM 63 τ0,oM 64 τ1,oD 65 (.sliceS Xm0 none (some Xnc)),oM 66 τ2,oD 67 (.bin .add XnT Xnr),oM 68 τ0,oM 69 Xcj,oD 70 (.sliceS Xos (some XoR) none)] [] [oD 71 (.bin .add XnI XpE),oM 11 XpO]
def XYi:VC:=.reg [oM 72 τ1,oD 73 (.bin .andNot Xpt (.const (.int .i64 1))),oM 74 Xcj,oD 75 (.bin .add Xr0 (.const (.int .i64 1))),oD 76 (.bin .andNot Xsx (.const (.int .i64 1))),oM 12 XqX,oM 13 Xwv]
def X55:VC:=.reg [oM 78 τ0,oM 79 τ3,oD 80 (.callF 70 [XwM,XAL,(.const (.int .i64 2))]),oM 77 XwH,oE 81 0 Xtl,oE 82 1 Xtl,oM 14 Xz4,oM 15 Xya]
def Yb6:VC:=.reg [oM 83 Xc7,oD 84 (.conv .i64 XwF),oM 85 τ0,oM 86 XcH,oM 87 XcM,oD 88 (.callF 120 [XNQ,XK0,XI9]),oM 89 Xb4,oM 90 XcH,oM 91 XcM,oD 92 (.callF 120 [XCF,XKI,XPe]),oD 93 (.callF 119 [XCC,XDa,XHu]),oM 16 XJ8]
def X3i:VC:=.reg [oM 94 Xb4,oM 95 τ3,oM 96 Xc1,oD 97 (.conv .u64 XHW),oD 98 (.callF 73 [XCr,XHH,(.const (.int .i64 2)),XNC]),oM 8 XXP,oD 9 (.mv (.const (.bool true)))]
def YaZ:VC:=.seq X3i .ret
def Ybl:VC:=.seq Yb6 YaZ
def XSE:VC:=.seq X55 Ybl
def Yaz:VC:=.seq XYi XSE
def XSA:VC:=.seq X2i Yaz
def Yah:VC:=.seq YcK XSA
def X0y:VC:=.seq k71_1 Yah
def XTN:VC:=.seq k71_0 X0y
def fn71:VFn:=⟨99,XTN,[.tmp 8,.tmp 9]⟩
def XTS:VC:=.reg [oD 6 (.mv (.const (.string ⟨⟨[]⟩⟩)))]
def Ydm:VC:=.reg [oM 7 τ2,oM 8 τ0,oD 9 (.lenS τ8),oD 10 (.bin .gtr τ7 τ9)]
def XSS:VC:=.reg [oM 11 τ0,oM 12 τ1,oD 13 (.sliceS Xb4 (some XcH) none),oD 14 (.bin .add XcM (.const (.string ⟨⟨[0]⟩⟩))),oM 6 Xc7]
def X13:VC:=.seq XSS .ret
def X1O:VC:=.cond Xcj X13 .skip
def Ya4:VC:=.seq Ydm X1O
def Ycv:VC:=.reg [oM 15 τ0,oM 16 τ1,oM 17 τ2,oD 18 (.sliceS XcY (some Xc1) (some Xc0)),oM 6 Xdw]
def X9A:VC:=.seq Ycv .ret
def XXc:VC:=.seq Ya4 X9A
def X0p:VC:=.seq XTS XXc
def XXo:VFn:=⟨19,X0p,[.tmp 6]⟩
def Ybg:VC:=.reg [oD 3 (.box τ0),oD 5 (.box τ2),oD 6 (.mv (.const (.int .i64 0)))]
def YaW:VC:=.reg [oM 11 τ1,oD 12 (.lenS Xb4),oD 13 (.load1 .str τ5),oD 14 (.lenS XcM),oD 15 (.bin .neq XcH Xc7),oM 16 XcY,oG 17 (.mv τ1) 16 false,oG 18 (.lenS Xc0) 16 false,oG 19 (.bin .rem Xdw (.const (.int .i64 2))) 16 false,oG 20 (.bin .gtr Xdk (.const (.int .i64 0))) 16 false,oD 21 (.pick Xc1 (.const (.bool true)) XdE)]
def YbQ:VC:=.reg [oD 22 (.load1 (.int .i64) τ3),oM 6 Xeh]
def XTT:VC:=.seq YbQ .ret
def X3d:VC:=.cond XdX XTT .skip
def YcW:VC:=.seq YaW X3d
def XUA:VC:=.reg [oD 7 (.alloc [(.int .i64 0)]),oN (.store 1 τ7 (.const (.int .i64 0)))]
def XZk:VC:=.reg [oM 23 τ1,oD 24 (.callF 170 [Xep])]
def X3w:VC:=.reg [oM 8 XeI]
def X1p:VC:=.reg [oD 27 (.load1 .str τ5),oD 28 (.load1 (.int .i64) τ7),oD 29 (.callF 70 [XeH,XeD,(.const (.int .i64 2))]),oM 26 XeG,oE 30 0 XdY,oE 31 1 XdY,oM 9 XeO,oM 10 XeP]
def XH6:VC:=.reg [oD 32 (.load1 (.int .i64) τ3),oM 33 τ8,oM 34 τ9,oD 35 (.conv .i64 XfH),oD 36 (.callF 171 [Xfj,XfE,XfG]),oN (.store 1 τ3 XfF)]
def XGr:VC:=.reg [oD 37 (.load1 (.int .i64) τ7),oD 38 (.bin .add Xfm (.const (.int .i64 2))),oN (.store 1 τ7 Xgl)]
def XJr:VC:=.seq XH6 XGr
def XPF:VC:=.seq X1p XJr
def XJx:VC:=.block 1 XPF
def XJK:VC:=.rangeF Xek [25] X3w XJx
def XIa:VC:=.block 0 XJK
def XK2:VC:=.seq XZk XIa
def XGM:VC:=.reg [oD 39 (.load1 (.int .i64) τ3),oM 6 Xgp]
def XDK:VC:=.seq XGM .ret
def XM9:VC:=.seq XK2 XDK
def XGH:VC:=.seq XUA XM9
def XIL:VC:=.seq YcW XGH
def XDB:VC:=.seq Ybg XIL
def X1q:VFn:=⟨40,XDB,[.tmp 6]⟩
def X3A:VC:=.reg [oD 6 (.mv (.const (.int .i64 0)))]
def XZc:VC:=.reg [oM 7 τ0,oM 8 τ1,oM 9 τ2,oD 10 (.buildSl 3 1 [(.int .i64 0),(.int .i64 0),(.int .i64 0)] [(0,1,τ7),(1,1,τ8),(2,1,τ9)]),oD 11 (.callF 198 [Xcj]),oD 12 (.not Xb4)]
def X5o:VC:=.reg [oD 6 (.mv (.const (.int .i64 0)))]
def Yat:VC:=.seq X5o .ret
def YbM:VC:=.cond XcH Yat .skip
def X19:VC:=.seq XZc YbM
def XUT:VC:=.reg [oM 13 τ0,oD 14 (.bin .sub (.const (.int .i64 65535)) XcM),oD 15 (.bin .add Xc7 (.const (.int .i64 65535))),oM 16 τ1,oD 17 (.bin .sub XcY Xc1),oM 18 τ2,oD 19 (.bin .add Xc0 Xdw),oD 20 (.callF 199 [Xdk]),oD 21 (.bin .sub (.const (.int .i64 65535)) XdE),oM 6 XdX]
def XXb:VC:=.seq XUT .ret
def X6u:VC:=.seq X19 XXb
def YbX:VC:=.seq X3A X6u
def XU5:VFn:=⟨22,YbX,[.tmp 6]⟩
def X6Q:VC:=.reg [oD 2 (.mv (.const (.bool false)))]
def X2s:VC:=.reg [oM 5 τ0,oD 6 (.lenL τ5),oD 7 (.mv (.const (.int .i64 0)))]
def XXu:VC:=.reg [oD 8 (.bin .lss τ7 τ6)]
def X53:VC:=.cond τ8 .skip (.exit 0)
def X4m:VC:=.reg [oD 9 (.idxAL 1 τ5 τ7),oD 10 (.load1 (.int .i64) τ9),oM 4 Xcj]
def X4N:VC:=.reg [oM 11 τ4,oD 12 (.bin .lss Xb4 (.const (.int .i64 0))),oM 13 XcH,oG 14 (.mv τ4) 13 false,oG 15 (.bin .gtr Xc7 (.const (.int .i64 65535))) 13 false,oD 16 (.pick XcM (.const (.bool true)) XcY)]
def Ydc:VC:=.reg [oD 2 (.mv (.const (.bool false)))]
def YcB:VC:=.seq Ydc .ret
def X0b:VC:=.cond Xc1 YcB .skip
def XZT:VC:=.seq X4N X0b
def XFM:VC:=.seq X4m XZT
def XRO:VC:=.block 1 XFM
def XIY:VC:=.reg [oD 17 (.bin .add τ7 (.const (.int .i64 1))),oM 7 Xc0]
def XMR:VC:=.seq XRO XIY
def XHn:VC:=.seq X53 XMR
def XJk:VC:=.seq XXu XHn
def XKP:VC:=.loop XJk
def XLw:VC:=.block 0 XKP
def XOD:VC:=.seq X2s XLw
def XRn:VC:=.reg [oD 2 (.mv (.const (.bool true)))]
def XRT:VC:=.seq XRn .ret
def XMl:VC:=.seq XOD XRT
def XJ2:VC:=.seq X6Q XMl
def XVF:VFn:=⟨18,XJ2,[.tmp 2]⟩
def k14_0:VC:=.reg [oD 4 (.mv (.const (.int .i64 0)))]
def k14_1:VC:=.reg [oD 5 (.mv (.const (.int .i64 0)))]
def k14_2:VC:=.reg [oD 6 (.mv (.const (.int .i64 0)))]
def k14_3:VC:=.reg [oM 7 τ6,oM 8 τ0,oD 9 (.lenS τ8),oD 10 (.bin .lss τ7 τ9),oM 11 Xcj,oG 12 (.mv τ6) 11 true,oG 13 (.mv τ1) 11 true,oG 14 (.lenS XcM) 11 true,oG 15 (.bin .lss XcH Xc7) 11 true,oD 16 (.pick Xb4 XcY (.const (.bool false)))]
def k14_4:VC:=.cond Xc1 .skip (.exit 0)
def k14_5:VC:=.seq k14_3 k14_4
def k14_6:VC:=.regD [oM 19 τ0,oM 20 τ6,oD 21 (.idxS Xdk XdE),oM 22 τ1,oM 23 τ6,oD 24 (.idxS Xeh Xep)] [] [oD 25 (.bin .neq XdX Xek)]
def k14_7:VC:=.reg [oM 26 τ5,oD 27 (.bin .add XdY (.const (.int .i64 1))),oM 5 XeH]
def k14_8:VC:=.cond XeI k14_7 .skip
def k14_9:VC:=.seq k14_6 k14_8
def X6t:VC:=.block 1 k14_9
def X9J:VC:=.reg [oM 17 τ6,oD 18 (.bin .add Xc0 (.const (.int .i64 1))),oM 6 Xdw]
def XZK:VC:=.seq X6t X9J
def XVZ:VC:=.seq k14_5 XZK
def X0I:VC:=.loop XVZ
def Ydf:VC:=.block 0 X0I
def X1S:VC:=.seq k14_2 Ydf
def X2k:VC:=.reg [oM 28 τ5,oM 4 XeD]
def X7n:VC:=.seq X2k .ret
def Yc1:VC:=.seq X1S X7n
def XSQ:VC:=.seq k14_1 Yc1
def X7S:VC:=.seq k14_0 XSQ
def fn14:VFn:=⟨29,X7S,[.tmp 4]⟩
def k15_0:VC:=.reg [oD 3 (.box τ1),oD 4 (.mv (.const (.string ⟨⟨[]⟩⟩))),oD 5 (.mv (.const (.int .i64 0)))]
def k15_1:VC:=.reg [oM 6 τ0,oD 7 (.mkFunc 66 [] [τ3]),oD 8 (.callF 63 [τ6,(.const (.int .i64 4)),τ7]),oE 9 0 τ8,oE 10 1 τ8,oM 4 τ9,oM 5 Xcj]
def k15_2:VC:=.seq k15_1 .ret
def k15_3:VC:=.seq k15_0 k15_2
def fn15:VFn:=⟨11,k15_3,[.tmp 4,.tmp 5]⟩
def k66_0:VC:=.reg [oD 2 (.box τ0),oD 3 (.mv (.const (.int .u32 0)))]
def k66_1:VC:=.regD [oD 4 (.load1 (.int .u32) τ1),oD 5 (.fieldA 12 τ2),oD 6 (.load1 (.int .u32) τ5),oD 7 (.callF 68 [τ6])] [(0,3)] [oD 8 (.callF 67 [τ4,τ7]),oM 3 τ8]
def k66_2:VC:=.seq k66_1 .ret
def k66_3:VC:=.seq k66_0 k66_2
def fn66:VFn:=⟨9,k66_3,[.tmp 3]⟩
def k67_0:VC:=.reg [oD 4 (.mv (.const (.int .u32 0)))]
def k67_1:VC:=.reg [oM 5 τ0,oM 6 τ0,oD 7 (.callF 68 [τ6]),oM 8 τ1,oD 9 (.bin .sub τ7 τ8),oD 10 (.conv .u32 τ9),oD 11 (.bin .sub τ5 Xcj),oM 4 Xb4]
def k67_2:VC:=.seq k67_1 .ret
def k67_3:VC:=.seq k67_0 k67_2
def fn67:VFn:=⟨12,k67_3,[.tmp 4]⟩
def k16_0:VC:=.reg [oD 4 (.mv (.const (.string ⟨⟨[]⟩⟩))),oD 5 (.mv (.const (.int .i64 0)))]
def k16_1:VC:=.reg [oM 19 τ0,oD 20 (.callF 21 [Xdk]),oM 18 XdE,oE 21 0 Xdw,oE 22 1 Xdw,oD 6 (.alloc [(.int .i64 0),(.bool false),(.int .u64 0),(.int .u64 0),(.bool false),(.int .u64 0),(.int .u64 0),(.int .i64 0),(.int .i64 0),(.int .i64 0),(.bool false),(.int .u32 0),(.int .u32 0),(.bool false),(.string ⟨⟨[]⟩⟩),(.int .i64 0)]),oN (.store 16 τ6 XdX),oM 7 Xeh]
def k16_2:VC:=.reg [oM 23 τ7,oD 24 (.bin .neq Xep (.const (.int .i64 0)))]
def k16_3:VC:=.reg [oM 25 τ7,oD 4 (.mv (.const (.string ⟨⟨[]⟩⟩))),oM 5 XeI]
def k16_4:VC:=.seq k16_3 .ret
def k16_5:VC:=.cond Xek k16_4 .skip
def k16_6:VC:=.seq k16_2 k16_5
def k16_7:VC:=.reg [oM 27 τ0,oD 28 (.callF 22 [XeH]),oM 26 XeD,oE 29 0 XdY,oE 30 1 XdY,oE 31 2 XdY,oM 8 XeG,oM 9 XeO,oM 10 XeP]
def k16_8:VC:=.reg [oM 33 τ0,oM 34 τ9,oD 35 (.sliceS XfE (some XfH) none),oD 36 (.callF 69 [XfG]),oM 32 XfF,oE 37 0 Xfj,oE 38 1 Xfj,oD 11 (.alloc [(.bool false),(.int .i64 0),(.int .u32 0),(.string ⟨⟨[]⟩⟩),(.string ⟨⟨[]⟩⟩),(.string ⟨⟨[]⟩⟩)]),oN (.store 6 Xb4 Xfm),oM 7 Xgl]
def k16_9:VC:=.reg [oD 40 (.fieldA 0 τ6),oD 41 (.fieldA 0 Xg4),oD 42 (.load1 (.int .i64) Xg7),oD 43 (.bin .neq Xg6 (.const (.int .i64 17))),oM 44 Xg5,oG 45 (.mv τ7) 44 false,oG 46 (.bin .neq Xhw (.const (.int .i64 0))) 44 false,oD 47 (.pick Xhv (.const (.bool true)) XhZ),oM 48 Xhu,oG 49 (.fieldA 0 Xb4) 48 false,oG 50 (.load1 .bool Xh9) 48 false,oG 51 (.not Xiq) 48 false,oD 52 (.pick Xh0 (.const (.bool true)) Xi5),oM 39 Xjx]
def XXQ:VC:=.reg [oD 4 (.mv (.const (.string ⟨⟨[]⟩⟩))),oD 5 (.mv (.const (.int .i64 6)))]
def X5f:VC:=.seq XXQ .ret
def X7p:VC:=.reg [oD 54 (.fieldA 4 Xb4),oD 55 (.load1 .str XjP),oD 56 (.lenS XjT),oD 57 (.bin .neq XkA (.const (.int .i64 8))),oM 53 Xj7]
def YcZ:VC:=.reg [oD 4 (.mv (.const (.string ⟨⟨[]⟩⟩))),oD 5 (.mv (.const (.int .i64 3)))]
def XYY:VC:=.seq YcZ .ret
def XWL:VC:=.cond XjE XYY .skip
def XVs:VC:=.seq X7p XWL
def X3Y:VC:=.cond Xgp X5f XVs
def X1d:VC:=.seq k16_9 X3Y
def XU1:VC:=.block 0 X1d
def X0D:VC:=.reg [oM 59 τ0,oM 60 τ8,oD 61 (.bin .add XkV (.const (.int .i64 6))),oD 62 (.callF 70 [XkB,Xlq,(.const (.int .i64 2))]),oM 58 Xl6,oE 63 0 Xkj,oE 64 1 Xkj,oM 12 Xm0,oM 13 Xnc]
def XT8:VC:=.regD [oM 66 τ0,oM 67 τ8,oD 68 (.sliceS Xnr (some XnI) none),oD 69 (.fieldA 3 Xb4),oD 70 (.load1 .str XoR),oD 71 (.lenS XpE),oD 72 (.bin .add (.const (.int .i64 15)) XpO),oM 73 τ1,oD 74 (.callF 72 [XqX,(.const (.int .i64 8))]),oD 75 (.callF 71 [Xos,Xpt,Xr0,(.const (.int .i64 6))]),oM 65 Xsx,oE 76 0 XnT,oE 77 1 XnT,oM 14 Xwv] [(4,8)] [oM 15 Xtl]
def XWG:VC:=.reg [oM 78 XcY,oD 79 (.not XwM)]
def XU2:VC:=.reg [oD 4 (.mv (.const (.string ⟨⟨[]⟩⟩))),oD 5 (.mv (.const (.int .i64 3)))]
def X14:VC:=.seq XU2 .ret
def XT7:VC:=.cond XAL X14 .skip
def X0Q:VC:=.seq XWG XT7
def X2R:VC:=.reg [oM 81 Xc7,oD 82 (.callF 70 [Xz4,(.const (.int .i64 6)),(.const (.int .i64 2))]),oM 80 Xya,oE 83 0 XwH,oE 84 1 XwH,oM 16 XwF,oM 17 XCC]
def XW2:VC:=.reg [oM 86 XcH,oD 87 (.bin .eql XK0 (.const (.int .u64 0))),oM 85 XI9]
def X2M:VC:=.reg [oD 16 (.mv (.const (.int .u64 0)))]
def X00:VC:=.reg [oM 89 Xc1,oD 90 (.bin .eql XCF (.const (.int .u64 0))),oM 88 XKI]
def X5j:VC:=.reg [oD 16 (.mv (.const (.int .u64 65535)))]
def X6n:VC:=.cond XDa X5j .skip
def XTq:VC:=.seq X00 X6n
def YbV:VC:=.cond XNQ X2M XTq
def YaU:VC:=.seq XW2 YbV
def X4R:VC:=.block 1 YaU
def X5r:VC:=.regD [oM 91 τ0,oM 92 τ8,oD 93 (.sliceS XPe none (some XHu)),oM 94 Xc7,oM 95 Xc1,oD 96 (.callF 73 [XCr,(.const (.int .i64 6)),(.const (.int .i64 2)),XHH])] [] [oD 97 (.bin .add XJ8 XHW),oM 4 XNC,oD 5 (.mv (.const (.int .i64 0)))]
def X41:VC:=.seq X5r .ret
def XUz:VC:=.seq X4R X41
def XUv:VC:=.seq X2R XUz
def X71:VC:=.seq X0Q XUv
def XXl:VC:=.seq XT8 X71
def X0A:VC:=.seq X0D XXl
def Ydu:VC:=.seq XU1 X0A
def XVS:VC:=.seq k16_8 Ydu
def X1h:VC:=.seq k16_7 XVS
def XUC:VC:=.seq k16_6 X1h
def X0G:VC:=.seq k16_1 XUC
def X5m:VC:=.seq k16_0 X0G
def fn16:VFn:=⟨98,X5m,[.tmp 4,.tmp 5]⟩
theorem XAa:(Tryz.prog.funcs[108]?).bind (XaG Tryz.prog)=some X0j:=by kernel_rfl
theorem Xxg:(Tryz.prog.funcs[129]?).bind (XaG Tryz.prog)=some XXM:=by kernel_rfl
theorem XNZ:(Tryz.prog.funcs[84]?).bind (XaG Tryz.prog)=some fn84:=by kernel_rfl
theorem Xyn:(Tryz.prog.funcs[141]?).bind (XaG Tryz.prog)=some X9W:=by kernel_rfl
theorem XMW:(Tryz.prog.funcs[98]?).bind (XaG Tryz.prog)=some fn98:=by kernel_rfl
theorem XyB:(Tryz.prog.funcs[143]?).bind (XaG Tryz.prog)=some X30:=by kernel_rfl
theorem Xxd:(Tryz.prog.funcs[167]?).bind (XaG Tryz.prog)=some X8E:=by kernel_rfl
theorem Xy2:(Tryz.prog.funcs[109]?).bind (XaG Tryz.prog)=some XUd:=by kernel_rfl
theorem XAp:(Tryz.prog.funcs[110]?).bind (XaG Tryz.prog)=some X4l:=by kernel_rfl
theorem XLG:(Tryz.prog.funcs[18]?).bind (XaG Tryz.prog)=some fn18:=by kernel_rfl
theorem XN0:(Tryz.prog.funcs[75]?).bind (XaG Tryz.prog)=some fn75:=by kernel_rfl
theorem XL3:(Tryz.prog.funcs[22]?).bind (XaG Tryz.prog)=some fn22:=by kernel_rfl
theorem XIb:(Tryz.prog.funcs[17]?).bind (XaG Tryz.prog)=some fn17:=by kernel_rfl
theorem XLH:(Tryz.prog.funcs[24]?).bind (XaG Tryz.prog)=some fn24:=by kernel_rfl
theorem XIl:(Tryz.prog.funcs[78]?).bind (XaG Tryz.prog)=some fn78:=by kernel_rfl
theorem XAo:(Tryz.prog.funcs[130]?).bind (XaG Tryz.prog)=some X4W:=by kernel_rfl
theorem XzY:(Tryz.prog.funcs[177]?).bind (XaG Tryz.prog)=some YbU:=by kernel_rfl
theorem XGa:(Tryz.prog.funcs[97]?).bind (XaG Tryz.prog)=some fn97:=by kernel_rfl
theorem XAd:(Tryz.prog.funcs[100]?).bind (XaG Tryz.prog)=some XSZ:=by kernel_rfl
theorem XFA:(Tryz.prog.funcs[99]?).bind (XaG Tryz.prog)=some fn99:=by kernel_rfl
theorem XFZ:(Tryz.prog.funcs[28]?).bind (XaG Tryz.prog)=some fn28:=by kernel_rfl
theorem XFH:(Tryz.prog.funcs[85]?).bind (XaG Tryz.prog)=some fn85:=by kernel_rfl
theorem XAr:(Tryz.prog.funcs[139]?).bind (XaG Tryz.prog)=some X3o:=by kernel_rfl
theorem XyV:(Tryz.prog.funcs[181]?).bind (XaG Tryz.prog)=some Ybf:=by kernel_rfl
theorem XyD:(Tryz.prog.funcs[140]?).bind (XaG Tryz.prog)=some X0f:=by kernel_rfl
theorem XQr:(Tryz.prog.funcs[86]?).bind (XaG Tryz.prog)=some fn86:=by kernel_rfl
theorem Xze:(Tryz.prog.funcs[142]?).bind (XaG Tryz.prog)=some XZ3:=by kernel_rfl
theorem XxH:(Tryz.prog.funcs[182]?).bind (XaG Tryz.prog)=some XXL:=by kernel_rfl
theorem Xyt:(Tryz.prog.funcs[183]?).bind (XaG Tryz.prog)=some X5E:=by kernel_rfl
theorem XP6:(Tryz.prog.funcs[25]?).bind (XaG Tryz.prog)=some fn25:=by kernel_rfl
theorem XN3:(Tryz.prog.funcs[79]?).bind (XaG Tryz.prog)=some fn79:=by kernel_rfl
theorem XzR:(Tryz.prog.funcs[131]?).bind (XaG Tryz.prog)=some X85:=by kernel_rfl
theorem XOo:(Tryz.prog.funcs[26]?).bind (XaG Tryz.prog)=some fn26:=by kernel_rfl
theorem XPZ:(Tryz.prog.funcs[80]?).bind (XaG Tryz.prog)=some fn80:=by kernel_rfl
theorem XyF:(Tryz.prog.funcs[134]?).bind (XaG Tryz.prog)=some X1U:=by kernel_rfl
theorem XSh:(Tryz.prog.funcs[3]?).bind (XaG Tryz.prog)=some fn3:=by kernel_rfl
theorem XFS:(Tryz.prog.funcs[11]?).bind (XaG Tryz.prog)=some fn11:=by kernel_rfl
theorem XJq:(Tryz.prog.funcs[44]?).bind (XaG Tryz.prog)=some fn44:=by kernel_rfl
theorem XEu:(Tryz.prog.funcs[13]?).bind (XaG Tryz.prog)=some fn13:=by kernel_rfl
theorem XKC:(Tryz.prog.funcs[64]?).bind (XaG Tryz.prog)=some fn64:=by kernel_rfl
theorem XKE:(Tryz.prog.funcs[65]?).bind (XaG Tryz.prog)=some fn65:=by kernel_rfl
theorem XRb:(Tryz.prog.funcs[68]?).bind (XaG Tryz.prog)=some fn68:=by kernel_rfl
theorem XM1:(Tryz.prog.funcs[63]?).bind (XaG Tryz.prog)=some fn63:=by kernel_rfl
theorem XJW:(Tryz.prog.funcs[71]?).bind (XaG Tryz.prog)=some fn71:=by kernel_rfl
theorem XxL:(Tryz.prog.funcs[120]?).bind (XaG Tryz.prog)=some XXo:=by kernel_rfl
theorem XBa:(Tryz.prog.funcs[119]?).bind (XaG Tryz.prog)=some X1q:=by kernel_rfl
theorem XwX:(Tryz.prog.funcs[171]?).bind (XaG Tryz.prog)=some XU5:=by kernel_rfl
theorem XzI:(Tryz.prog.funcs[198]?).bind (XaG Tryz.prog)=some XVF:=by kernel_rfl
theorem XL2:(Tryz.prog.funcs[14]?).bind (XaG Tryz.prog)=some fn14:=by kernel_rfl
theorem XOJ:(Tryz.prog.funcs[15]?).bind (XaG Tryz.prog)=some fn15:=by kernel_rfl
theorem XQm:(Tryz.prog.funcs[66]?).bind (XaG Tryz.prog)=some fn66:=by kernel_rfl
theorem XE3:(Tryz.prog.funcs[67]?).bind (XaG Tryz.prog)=some fn67:=by kernel_rfl
theorem XEh:(Tryz.prog.funcs[16]?).bind (XaG Tryz.prog)=some fn16:=by kernel_rfl
def tab:List (Nat×VFn):=[(4,fn4),(19,fn19),(20,fn20),(21,fn21),(76,fn76),(122,XVv),(172,Yb5),(200,X5t),(112,X3R),(113,X1k),(115,X5a),(114,X3a),(70,fn70),(146,X0l),(176,X9s),(170,XVP),(197,X3c),(199,X7b),(209,XSO),(210,XW0),(201,X3P),(123,YcU),(173,YaI),(125,XWr),(81,fn81),(136,X4t),(72,fn72),(138,X0s),(132,XVn),(178,XY2),(133,X8Q),(202,X05),(168,XY5),(169,XZX),(196,X38),(111,Yap),(124,XUj),(174,X5d),(69,fn69),(116,YdH),(117,X0B),(118,X7E),(23,fn23),(77,fn77),(126,YcE),(175,Ydx),(127,X6m),(128,Yba),(73,fn73),(27,fn27),(82,fn82),(135,XYm),(83,fn83),(137,XXF),(179,XV2),(180,X4Q),(12,fn12),(62,fn62),(107,X4Y),(165,Ybt),(74,fn74),(121,X1j),(147,XU7),(186,XVY),(185,XZf),(195,X68),(166,XWB),(108,X0j),(129,XXM),(84,fn84),(141,X9W),(98,fn98),(143,X30),(167,X8E),(109,XUd),(110,X4l),(18,fn18),(75,fn75),(22,fn22),(17,fn17),(24,fn24),(78,fn78),(130,X4W),(177,YbU),(97,fn97),(100,XSZ),(99,fn99),(28,fn28),(85,fn85),(139,X3o),(181,Ybf),(140,X0f),(86,fn86),(142,XZ3),(182,XXL),(183,X5E),(25,fn25),(79,fn79),(131,X85),(26,fn26),(80,fn80),(134,X1U),(3,fn3),(11,fn11),(44,fn44),(13,fn13),(64,fn64),(65,fn65),(68,fn68),(63,fn63),(71,fn71),(120,XXo),(119,X1q),(171,XU5),(198,XVF),(14,fn14),(15,fn15),(66,fn66),(67,fn67),(16,fn16)]
theorem Xao:XiG Tryz.prog (Xav tab):=XiG.XaW ⟨X2X,XJ7,XFl,XNt,XJ0,XwS,XBe,Xzg,XAv,Xxl,Xx9,Xzf,XOE,XA9,Xxx,XA6,XzH,XAb,XwU,XBb,XAf,Xxr,XAA,XzJ,XRZ,XA0,XDM,Xzs,XA5,XyU,XxB,XwN,XAm,Xw0,Xyu,Xzn,Xzw,Xyh,XHe,Xxe,XyM,XzQ,XK7,XJe,Xzx,Xx4,XAQ,XxV,XRN,XEo,XLm,Xxf,XOY,XwO,XxF,Xz6,XLV,XOP,XxZ,XxT,XMt,Xyg,XxE,XwV,XAi,Xw7,Xxq,XAa,Xxg,XNZ,Xyn,XMW,XyB,Xxd,Xy2,XAp,XLG,XN0,XL3,XIb,XLH,XIl,XAo,XzY,XGa,XAd,XFA,XFZ,XFH,XAr,XyV,XyD,XQr,Xze,XxH,Xyt,XP6,XN3,XzR,XOo,XPZ,XyF,XSh,XFS,XJq,XEu,XKC,XKE,XRb,XM1,XJW,XxL,XBa,XwX,XzI,XL2,XOJ,XQm,XE3,XEh,trivial⟩
end Go.Vm.Code
