import Derived.Test.YtiknkhbngadaeaaGreatNStampPacketb
namespace Go.Vm
open Go Go.RowKit
abbrev wI (k:IntKind) (n:Int):Int:=IntKind.wrap k n
abbrev XjA (k:IntKind) (a b:Int):Int:=IntKind.wrap k (BitVec.ofInt k.bits a &&& BitVec.ofInt k.bits b).toNat
abbrev Xsr (k:IntKind) (a b:Int):Int:=IntKind.wrap k (BitVec.ofInt k.bits a ||| BitVec.ofInt k.bits b).toNat
abbrev XiD (k:IntKind) (a b:Int):Int:=IntKind.wrap k (BitVec.ofInt k.bits a &&& ~~~ BitVec.ofInt k.bits b).toNat
def XaE {α:Type} (b:Bool) (x:Option α):Option α:=match b with|true=>x|false=>none
theorem XaE.elim {α:Type} {b:Bool} {x:Option α} {r:α} (h:XaE b x=some r):b=true∧x=some r:=by cases b;cases h;exact ⟨rfl,h⟩
theorem XaE.mk {α:Type} {b:Bool} {x:Option α} (h:b=true):XaE b x=x:=by subst h;rfl
theorem Xai.elim {α β:Type} {x:Option α} {F:α→Option β} {r:β} (h:x.bind F=some r):∃ a,x=some a∧F a=some r:=by cases x with|none=>cases h|some a=>exact ⟨a,rfl,h⟩
def FUEL:Nat:=2^64
def iter {σ ρ:Type} (f:σ→Option (Sum σ ρ)):Nat→σ→Option ρ
 | 0,_=>none
 | n+1,s=>match f s with
   | none=>none
   | some (.inl s')=>iter f n s'
   | some (.inr r)=>some r
theorem XbX {σ ρ:Type} {P:Program} {f base:Nat} {R:Value→Hp→Nat→Prop} {step:σ→Option (Sum σ ρ)} {head:σ→VM} {C:ρ→Prop}
 (h:∀ s o,step s=some o→Sum.elim (fun s'=>XaK P f base (head s') R) C o→XaK P f base (head s) R) :
 ∀ n s r,iter step n s=some r→C r→XaK P f base (head s) R
 | 0,_,_,e,_=>by cases e
 | n+1,s,r,e,hc=>by
   rw [iter] at e
   split at e
   ·cases e
   ·rename_i s' hs
    exact h s _ hs (XbX h n s' r e hc)
   ·rename_i r' hs
    cases e
    exact h s _ hs hc
def vI (k:IntKind) (xs:List Int):List Value:=xs.map (Value.int k)
def vB (xs:List Bool):List Value:=xs.map Value.bool
def vS (xs:List (List UInt8)):List Value:=xs.map fun s=>Value.string ⟨⟨s⟩⟩
def bI (l:List UInt8):List Int:=l.map fun b=>(b.toNat:Int)
def iB (xs:List Int):List UInt8:=xs.map fun n=>UInt8.ofNat n.toNat
@[simp] theorem vI_len (k:IntKind) (xs:List Int):(vI k xs).length=xs.length:=List.length_map _
@[simp] theorem vB_len (xs:List Bool):(vB xs).length=xs.length:=List.length_map _
@[simp] theorem vS_len (xs:List (List UInt8)):(vS xs).length=xs.length:=List.length_map _
@[simp] theorem bI_len (l:List UInt8):(bI l).length=l.length:=List.length_map _
@[simp] theorem iB_len (l:List Int):(iB l).length=l.length:=List.length_map _
theorem Xhs (k:IntKind) (xs:List Int):Xbt.flatL (vI k xs)=true:=XkU (fun _=>rfl) xs
theorem Xou (xs:List Bool):Xbt.flatL (vB xs)=true:=XkU (fun _=>rfl) xs
theorem XnX (xs:List (List UInt8)):Xbt.flatL (vS xs)=true:=XkU (fun _=>rfl) xs
theorem XhT (k:IntKind):∀ (xs:List Int),(vI k xs).all XfQ=true
 | []=>rfl
 | _::xs=>by simp only [vI,List.map_cons,List.all_cons,XfQ,Bool.true_and];exact XhT k xs
theorem XkI:∀ (xs:List Bool),(vB xs).all XfQ=true
 | []=>rfl
 | _::xs=>by simp only [vB,List.map_cons,List.all_cons,XfQ,Bool.true_and];exact XkI xs
theorem Xkv:∀ (xs:List (List UInt8)),(vS xs).all XfQ=true
 | []=>rfl
 | _::xs=>by simp only [vS,List.map_cons,List.all_cons,XfQ,Bool.true_and];exact Xkv xs
theorem Xf2 (l:List UInt8):ofBytes l=vI .u8 (bI l):=by simp [ofBytes,vI,bI,List.map_map]
theorem Xlf:∀ (xs:List Int),XeK (vI .u8 xs)=some (iB xs)
 | []=>rfl
 | x::xs=>by simp only [vI,List.map_cons,XeK];rw [show XeK (xs.map (Value.int .u8))=_ from Xlf xs];rfl
theorem XId (k:IntKind) (xs:List Int) (i:Nat) (x:Int):(vI k xs).set i (.int k x)=vI k (xs.set i x):=by simp [vI,List.map_set]
theorem Xlr (k:IntKind) (xs:List Int) (n:Nat):(vI k xs).drop n=vI k (xs.drop n):=by simp [vI,List.map_drop]
theorem Xlv (k:IntKind) (xs:List Int) (n:Nat):(vI k xs).take n=vI k (xs.take n):=by simp [vI,List.map_take]
theorem XnY (xs:List (List UInt8)) (n:Nat):(vS xs).drop n=vS (xs.drop n):=by simp [vS,List.map_drop]
theorem XoN (xs:List (List UInt8)) (n:Nat):(vS xs).take n=vS (xs.take n):=by simp [vS,List.map_take]
theorem XB5 (k:IntKind) (xs ys:List Int):vI k xs++vI k ys=vI k (xs++ys):=by simp [vI]
theorem br.h {α:Type} {b b':Bool} {X Y:Option α} {r:α} {p q:Prop} (h:cond b' X Y=some r) (e:b=b') (k1:b'=true→X=some r→p) (k2:b'=false→Y=some r→q):br b p q:=by
 subst e;cases b;exact k2 rfl h;exact k1 rfl h
theorem rd.I {k:IntKind} {xs:List Int} {o i:Nat} {x:Int} {K:Value→Prop} (hx:xs[i]?=some x) (e:o=i) (h:Xgq (.int k x) K):rd (vI k xs) o K:=by
 subst e;exact rd.intro (v:=.int k x) (by simp [vI,hx]) h
theorem rd.B {xs:List Bool} {o i:Nat} {x:Bool} {K:Value→Prop} (hx:xs[i]?=some x) (e:o=i) (h:Xgq (.bool x) K):rd (vB xs) o K:=by
 subst e;exact rd.intro (v:=.bool x) (by simp [vB,hx]) h
theorem rd.S {xs:List (List UInt8)} {o i:Nat} {x:List UInt8} {K:Value→Prop} (hx:xs[i]?=some x) (e:o=i) (h:Xgq (.string ⟨⟨x⟩⟩) K):rd (vS xs) o K:=by
 subst e;exact rd.intro (v:=.string ⟨⟨x⟩⟩) (by simp [vS,hx]) h
theorem XD7 {k:IntKind} {xs:List Int} {o i:Nat} {x:Int} (hb:decide (i<xs.length)=true) (e:o=i):(decide ((XaP (.int k x)).length=1∧o+1≤(vI k xs).length)&&(XaP (.int k x)).all XfQ)=true:=by
 subst e;have:=of_decide_eq_true hb;simp [XaP,Value.cells,XfQ];omega
theorem XJV {k:IntKind} {xs:List Int} {o i:Nat} {x:Int} {K:List Value→Prop} (e:o=i) (h:K (vI k (xs.set i x))):∃ cs',setAt (vI k xs) o (XaP (.int k x))=cs'∧K cs':=
 ⟨_,by subst e;exact XId k xs o x,h⟩
theorem XI4 {k:IntKind} {n:Nat} {z:Int} {K:List Value→Prop} (h:K (vI k (List.replicate n z))):∃ cs',(List.replicate n [Value.int k z]).flatten=cs'∧K cs':=
 ⟨_,by simp [vI,List.flatten_replicate_singleton],h⟩
theorem XGY {l:List UInt8} {K:List Value→Prop} (h:K (vI .u8 (bI l))):∃ cs',ofBytes l=cs'∧K cs':=⟨_,Xf2 l,h⟩
theorem XHF {xs:List Int} {o n:Nat} {K:List UInt8→Prop} (h:K (iB ((xs.drop o).take n))):∃ bs,XeK (((vI .u8 xs).drop o).take n)=some bs∧K bs:=
 ⟨_,by rw [Xlr,Xlv];exact Xlf _,h⟩
theorem XDB {l:List Value} {bs:List UInt8} {K:List UInt8→Prop} (e:XeK l=some bs) (h:K bs):∃ bs,XeK l=some bs∧K bs:=⟨_,e,h⟩
theorem XDI {k:IntKind} {new:List Value} {m:Nat} {ys:List Int} {K:List Value→Nat→Prop} (e:new=vI k ys) (em:m=ys.length) (h:K (vI k ys) ys.length):∃ cs' n',new=cs'∧m=n'∧K cs' n':=⟨_,_,e,em,h⟩
theorem XJU {k:IntKind} {new:List Value} {xs:List Int} {o c n m:Nat} {ys:List Int} {K:List Value→Nat→Prop} (e:new=vI k ys) (h0:o=0) (hc:c=xs.length) (hn:n+m=(xs++ys).length) (h:K (vI k (xs++ys)) (xs++ys).length) :
 ∃ cs' n',((vI k xs).drop o).take c++new=cs'∧n+m=n'∧K cs' n':=
 ⟨_,_,by subst h0;rw [List.drop_zero,List.take_of_length_le (by simp [hc]),e,XB5],hn,h⟩
def vT {α:Type} (f:α→List Value) (xs:List α):List Value:=xs.flatMap f
section
variable {α:Type} {f:α→List Value} {c:Nat}
theorem XfM (hf:∀ x,(f x).length=c) (xs:List α):(vT f xs).length=xs.length*c:=by
 induction xs with
 | nil=>simp [vT]
 | cons x xs ih=>
   have:vT f (x::xs)=f x++vT f xs:=rfl
   rw [this,List.length_append,hf,ih,List.length_cons,Nat.succ_mul];omega
theorem Xmz (hf:∀ x,Xbt.flatL (f x)=true) (xs:List α):Xbt.flatL (vT f xs)=true:=by
 have app:∀ a b:List Value,Xbt.flatL a=true→Xbt.flatL b=true→Xbt.flatL (a++b)=true:=by
  intro a b ha hb
  induction a with
  | nil=>exact hb
  | cons v a ih=>simp only [Xbt.flatL,Bool.and_eq_true,List.cons_append] at ha ⊢;exact ⟨ha.1,ih ha.2⟩
 induction xs with
 | nil=>rfl
 | cons x xs ih=>exact app _ _ (hf x) ih
theorem XlG (hf:∀ x,(f x).all XfQ=true) (xs:List α):(vT f xs).all XfQ=true:=by
 induction xs with
 | nil=>rfl
 | cons x xs ih=>have:vT f (x::xs)=f x++vT f xs:=rfl;rw [this,List.all_append,hf,ih];rfl
theorem XKz (xs ys:List α):vT f xs++vT f ys=vT f (xs++ys):=by simp [vT]
theorem Xek (hf:∀ x,(f x).length=c) (xs:List α) (n:Nat):(vT f xs).drop (n*c)=vT f (xs.drop n):=by
 induction xs generalizing n with
 | nil=>simp [vT]
 | cons x xs ih=>
   cases n with
   | zero=>simp
   | succ n=>
     have:vT f (x::xs)=f x++vT f xs:=rfl
     rw [this,List.drop_succ_cons,Nat.succ_mul,Nat.add_comm,List.drop_append,hf,List.drop_eq_nil_of_le (by rw [hf];omega),List.nil_append,show c+n*c - c=n*c by omega,ih]
theorem Xeh (hf:∀ x,(f x).length=c) (xs:List α) (n:Nat):(vT f xs).take (n*c)=vT f (xs.take n):=by
 induction xs generalizing n with
 | nil=>simp [vT]
 | cons x xs ih=>
   cases n with
   | zero=>simp [vT]
   | succ n=>
     have:vT f (x::xs)=f x++vT f xs:=rfl
     have h2:vT f ((x::xs).take (n+1))=f x++vT f (xs.take n):=rfl
     rw [this,h2,Nat.succ_mul,Nat.add_comm,List.take_append,hf,List.take_of_length_le (by rw [hf];omega),show c+n*c - c=n*c by omega,ih]
theorem XLu (hf:∀ x,(f x).length=c) {xs:List α} {i j:Nat} {x:α} (hx:xs[i]?=some x) (hj:j<c):(vT f xs)[i*c+j]?=(f x)[j]?:=by
 induction xs generalizing i with
 | nil=>simp at hx
 | cons y xs ih=>
   have:vT f (y::xs)=f y++vT f xs:=rfl
   rw [this]
   cases i with
   | zero=>
     simp at hx;subst hx
     rw [Nat.zero_mul,Nat.zero_add,List.getElem?_append_left (by rw [hf];exact hj)]
   | succ i=>
     rw [List.getElem?_append_right (by rw [hf,Nat.succ_mul];omega),hf,show (i+1)*c+j - c=i*c+j by rw [Nat.succ_mul];omega]
     exact ih (by simpa using hx)
theorem rd.T (hf:∀ x,(f x).length=c) {xs:List α} {o i j:Nat} {x:α} {v:Value} {K:Value→Prop} (hx:xs[i]?=some x) (e:o=i*c+j) (hj:j<c) (hv:(f x)[j]?=some v) (h:Xgq v K):rd (vT f xs) o K:=by
 subst e;exact rd.intro (by rw [XLu hf hx hj];exact hv) h
theorem XAn (hf:∀ x,(f x).length=c) {new:List Value} {xs:List α} {o k n m:Nat} {ys:List α} {K:List Value→Nat→Prop} (e:new=vT f ys) (h0:o=0) (hc:k=xs.length*c) (hn:n+m=(xs++ys).length) (h:K (vT f (xs++ys)) (xs++ys).length) :
 ∃ cs' n',((vT f xs).drop o).take k++new=cs'∧n+m=n'∧K cs' n':=
 ⟨_,_,by subst h0;rw [List.drop_zero,List.take_of_length_le (by rw [XfM hf,hc];omega),e,XKz],hn,h⟩
end
theorem Xaw {s:Xbv} {vals «as»:List Value} {os:List (Option Xbj)} {h h1 h2:Hp} {top n m t':Nat} {ws:List Wd} {r:Xcw} {v':Value} (e1:Xcy h 0 s.modes vals=some («as»,os)) (ew:XiA h s.modes vals=ws) {cw:List (Option (List Value))} (ec:XaH os=cw) (e2:s.run «as» cw=some r) (e3:apartB ws=true)
 (hn:r.new.length=n) (hm:XjG ws=m) (ht:top+n+m=t') (e4:Xcz h (Xs4 top n ws) ws r.wr=some h1) (e5:Xhq h1 (Xs4 top n ws) top r.new=some h2) (e6:Xdx (Xs4 top n ws) r.v=some v'):XgC s vals h top=some (v',XhV h2 (top+n) m,t'):=by
 subst hn hm ht ec
 simp only [XgC,e1,e2,ew,e3,e4,e5,e6]
theorem Xbg {h:Hp} {k:Nat}:Xcy h k [] []=some ([],[]):=rfl
theorem Xau {h:Hp} {k k':Nat} {m:Md} {ms:List Md} {v a:Value} {vs «as»:List Value} {os os':List (Option Xbj)} (e:XcW h k m v=some (a,os)) (hk:k+os.length=k') (t:Xcy h k' ms vs=some («as»,os')):Xcy h k (m::ms) (v::vs)=some (a::«as»,os++os'):=by
 subst hk
 simp only [Xcy,e,t]
theorem ra_sl {h:Hp} {k b o n m sz sz':Nat} {ob:Xbj} {cs cs':List Value} (ho:Xav h b=some ob) (hc:ob.cs=some cs) (hs:sz=sz') (en:n=m) (hle:o+n*sz≤cs.length) (e:(cs.drop o).take (n*sz)=cs') (hf:Xbt.flatL cs'=true) :
 XcW h k (.sl sz) (.slice (some ⟨b,o,none⟩) n sz')=some (.slice (some ⟨k,0,none⟩) m sz,[some (.row false cs')]):=by
 subst hs en e
 simp only [XcW,ho,hc,hle,hf,↓reduceIte]
theorem Xpa {h:Hp} {b o n i m sz kk:Nat} {k:IntKind} {own:Bool} {xs:List Int} (ho:Xav h b=some (.row own (vI k xs))) (hs:sz=1) (e0:o=i) (en:n=m) (hle:i+m≤xs.length):XcW h kk (.sl 1) (.slice (some ⟨b,o,none⟩) n sz)=some (.slice (some ⟨kk,0,none⟩) m 1,[some (.row false (vI k ((xs.drop i).take m)))]):=by
 subst hs e0 en
 exact ra_sl ho rfl rfl rfl (by simp;omega) (by rw [Xlr,Xlv,Nat.mul_one]) (Xhs _ _)
theorem Xob {h:Hp} {b o n sz kk:Nat} {k:IntKind} {own:Bool} {xs:List Int} (ho:Xav h b=some (.row own (vI k xs))) (hs:sz=1) (e0:o=0) (en:n=xs.length):XcW h kk (.sl 1) (.slice (some ⟨b,o,none⟩) n sz)=some (.slice (some ⟨kk,0,none⟩) xs.length 1,[some (.row false (vI k xs))]):=by
 have:=Xpa (kk:=kk) (i:=0) (m:=xs.length) ho hs e0 en (by omega)
 simpa using this
theorem XJq {h:Hp} {k:Nat} {ps:List Path} {bs:List PR} {v v' w:Value} {l:List (Option Xbj)} (e0:Xfh h v ps []=bs) (e1:Xdx (Xs9 k bs) v=some v') (e2:Xfz h (Xs9 k bs) (fun s=>Xj7 k s ps bs) 0 ps bs=some l) (e3:XrL v' (Xj7 k none ps bs)=w):XcW h k (.tr ps) v=some (w,l):=by
 subst e0 e3
 simp only [XcW,e1,e2]
theorem XAs {h:Hp} {s:Nat→Option Nat} {pat:Option Nat→List (Nat×Value)} {i:Nat}:Xfz h s pat i [] []=some []:=rfl
theorem XHj {h:Hp} {s:Nat→Option Nat} {pat:Option Nat→List (Nat×Value)} {i b:Nat} {p:Path} {ps:List Path} {bs:List PR} {l:List (Option Xbj)} {ob:Xbj} {cs cs' cs'':List Value} (e1:Xav h b=some ob) (e2:(cond (isW p.kind) ob.wcs ob.cs)=some cs) (e3:Xdx.renL s cs=some cs') (e4:Xm8 cs' (pat (some i))=cs'')
 (t:Xfz h s pat (i+1) ps bs=some l):Xfz h s pat i (p::ps) (.at b::bs)=some (some (mkObj p.kind cs'')::l):=by
 subst e4
 simp only [Xfz,e1,e2,e3,t]
def skipW:Wd→Bool
 | .no|.emp _|.win _ _ _ false|.blk _ false=>true
 | _=>false
theorem Xbe {h:Hp} {s:Nat→Option Nat}:Xcz h s [] []=some h:=rfl
theorem Xn1 {h h':Hp} {s:Nat→Option Nat} {x:Wd} {ws:List Wd} {c:Option (List Value)} {cs:List (Option (List Value))} (hx:skipW x=true) (t:Xcz h s ws cs=some h'):Xcz h s (x::ws) (c::cs)=some h':=by
 cases x with
 | win b o n w=>cases w<;>first|(simp only [Xcz];exact t)|cases hx
 | blk b w=>cases w<;>first|(simp only [Xcz];exact t)|cases hx
 | _=>simp only [Xcz];exact t
theorem XbF {h h':Hp} {s:Nat→Option Nat} {b off n:Nat} {ws:List Wd} {c c' x y:List Value} {cs:List (Option (List Value))} {ob ob':Xbj} (e1:Xav h b=some ob) (e2:ob.wcs=some x) (e3:Xdx.renL s c=some c') (e4:c'.length=n∧off+n≤x.length) (e5:setAt x off c'=y) (e6:ob.wr y=some ob') (t:Xcz (Xee h b ob') s ws cs=some h') :
 Xcz h s (.win b off n true::ws) (some c::cs)=some h':=by
 subst e5
 simp only [Xcz,e1,e2,e3,e6,if_pos e4];exact t
theorem XBG {h h':Hp} {s:Nat→Option Nat} {b:Nat} {ws:List Wd} {c c' x:List Value} {cs:List (Option (List Value))} {ob ob':Xbj} (e1:Xav h b=some ob) (e2:ob.wcs=some x) (e3:Xdx.renL s c=some c') (e6:ob.wr c'=some ob') (t:Xcz (Xee h b ob') s ws cs=some h') :
 Xcz h s (.blk b true::ws) (some c::cs)=some h':=by
 simp only [Xcz,e1,e2,e3,e6];exact t
theorem Xbc {h:Hp} {s:Nat→Option Nat} {top:Nat}:Xhq h s top []=some h:=rfl
theorem Xhw {h h':Hp} {s:Nat→Option Nat} {top:Nat} {c c':List Value} {cs:List (List Value)} (e:Xdx.renL s c=some c') (t:Xhq (Xee h top (.row true c')) s (top+1) cs=some h'):Xhq h s top (c::cs)=some h':=by
 simp only [Xhq,e];exact t
theorem rn_I {s:Nat→Option Nat} {k:IntKind} {xs:List Int}:Xdx.renL s (vI k xs)=some (vI k xs):=Xeo _ _ (Xhs _ _)
theorem Xqq {s:Nat→Option Nat} {α:Type} {f:α→List Value} (hfl:∀ x,Xbt.flatL (f x)=true) {xs:List α}:Xdx.renL s (vT f xs)=some (vT f xs):=Xeo _ _ (Xmz hfl _)
def XGt (n:Nat) (wr:List (Option (List Value))):List Nat→Prop
 | []=>True
 | j::js=>(n≤j∨wr[j]?=some none)∧XGt n wr js
theorem XrV {n:Nat} {wr:List (Option (List Value))}:∀ {js:List Nat},XGt n wr js→∀ j∈js,n≤j∨wr[j]?=some none
 | [],_,j,h=>by cases h
 | k::js,h,j,hj=>by
   rcases List.mem_cons.1 hj with rfl|hj
   ·exact h.1
   ·exact XrV h.2 j hj
theorem Res.of {n:Nat} {r:Xcw} {v':Value} {H':Hp} (js:List Nat) (e1:Xdx (XsE js n) r.v=some v') (e2:XqU H' (XsE js n) js r.new) (e3:js.Nodup) (e4:XGt n r.wr js) (e5:XwH H' (XsE js n) 0 r.wr):Res n r v' H':=
 ⟨⟨js,e1,e2,e3,XrV e4,e5⟩⟩
theorem Xiu {H:Hp} {j:Nat} {c:List Value} (h:Xav H j=some (.row true c)):Has H j c:=.inl h
theorem XbY {H:Hp} {j:Nat} {c:List Value} (h:Xav H j=some (.cells c)):Has H j c:=.inr (.inl h)
abbrev Dec:=List Value→List (Option (List Value))→Option Xcw
def dV {α:Type} (un:Value→Option α) (K:α→Dec):Dec:=fun vs cs=>match vs with
 | v::vs'=>match un v with
   | some x=>K x vs' cs
   | none=>none
 | []=>none
theorem XaX {α:Type} {un:Value→Option α} {K:α→Dec} {v:Value} {vs:List Value} {cs:List (Option (List Value))} {x:α} (h:un v=some x):dV un K (v::vs) cs=K x vs cs:=by simp only [dV,h]
theorem dV.elim {α:Type} {un:Value→Option α} {K:α→Dec} {vs:List Value} {cs:List (Option (List Value))} {r:Xcw} (h:dV un K vs cs=some r):∃ v vs' x,vs=v::vs'∧un v=some x∧K x vs' cs=some r:=by
 unfold dV at h
 split at h<;>try (cases h;done)
 split at h<;>try (cases h;done)
 exact ⟨_,_,_,rfl,by assumption,h⟩
def dSl {α:Type} (k sz:Nat) (un:List Value→Option (List α)) (K:List α→Dec):Dec:=fun vs cs=>match vs,cs with
 | .slice (some ⟨k',0,none⟩) n sz'::vs',some c::cs'=>match un c with
   | some xs=>if k'=k∧sz'=sz∧n=xs.length then K xs vs' cs' else none
   | none=>none
 | _,_=>none
theorem XvN {α:Type} {k sz:Nat} {un:List Value→Option (List α)} {K:List α→Dec} {vs:List Value} {c:List Value} {cs:List (Option (List Value))} {xs:List α} (h:un c=some xs):dSl k sz un K (.slice (some ⟨k,0,none⟩) xs.length sz::vs) (some c::cs)=K xs vs cs:=by simp [dSl,h]
theorem dSl.elim {α:Type} {k sz:Nat} {un:List Value→Option (List α)} {K:List α→Dec} {vs:List Value} {cs:List (Option (List Value))} {r:Xcw} (h:dSl k sz un K vs cs=some r):∃ c vs' cs' xs,vs=.slice (some ⟨k,0,none⟩) xs.length sz::vs'∧cs=some c::cs'∧un c=some xs∧K xs vs' cs'=some r:=by
 unfold dSl at h
 split at h<;>try (cases h;done)
 split at h<;>try (cases h;done)
 split at h<;>try (cases h;done)
 rename_i hc
 obtain ⟨rfl,rfl,rfl⟩:=hc
 exact ⟨_,_,_,_,rfl,rfl,by assumption,h⟩
def dTr {α:Type} (n:Nat) (un:Value→List (Option (List Value))→Option α) (K:α→Dec):Dec:=fun vs cs=>match vs with
 | v::vs'=>match un v (cs.take n) with
   | some x=>K x vs' (cs.drop n)
   | none=>none
 | []=>none
theorem XHm {α:Type} {n:Nat} {un:Value→List (Option (List Value))→Option α} {K:α→Dec} {v:Value} {vs:List Value} {cs cs1 cs2:List (Option (List Value))} {x:α} (h1:cs.take n=cs1) (h2:cs.drop n=cs2) (h:un v cs1=some x):dTr n un K (v::vs) cs=K x vs cs2:=by
 subst h1 h2;simp only [dTr,h]
theorem dTr.elim {α:Type} {n:Nat} {un:Value→List (Option (List Value))→Option α} {K:α→Dec} {vs:List Value} {cs:List (Option (List Value))} {r:Xcw} (h:dTr n un K vs cs=some r):∃ v vs' cs1 cs2 x,vs=v::vs'∧cs=cs1++cs2∧un v cs1=some x∧K x vs' cs2=some r:=by
 unfold dTr at h
 split at h<;>try (cases h;done)
 split at h<;>try (cases h;done)
 exact ⟨_,_,_,_,_,rfl,(List.take_append_drop n cs).symm,by assumption,h⟩
def dPt {α:Type} (k:Nat) (un:List Value→Option α) (K:α→Dec):Dec:=fun vs cs=>match vs,cs with
 | .pointer (some ⟨k',0,none⟩)::vs',some c::cs'=>match un c with
   | some x=>if k'=k then K x vs' cs' else none
   | none=>none
 | _,_=>none
theorem XkC {α:Type} {k:Nat} {un:List Value→Option α} {K:α→Dec} {vs:List Value} {c:List Value} {cs:List (Option (List Value))} {x:α} (h:un c=some x):dPt k un K (.pointer (some ⟨k,0,none⟩)::vs) (some c::cs)=K x vs cs:=by simp [dPt,h]
theorem dPt.elim {α:Type} {k:Nat} {un:List Value→Option α} {K:α→Dec} {vs:List Value} {cs:List (Option (List Value))} {r:Xcw} (h:dPt k un K vs cs=some r):∃ c vs' cs' x,vs=.pointer (some ⟨k,0,none⟩)::vs'∧cs=some c::cs'∧un c=some x∧K x vs' cs'=some r:=by
 unfold dPt at h
 split at h<;>try (cases h;done)
 split at h<;>try (cases h;done)
 split at h<;>try (cases h;done)
 rename_i hc
 subst hc
 exact ⟨_,_,_,_,rfl,rfl,by assumption,h⟩
def dNo:Nat→Dec→Dec
 | 0,K=>K
 | n+1,K=>fun vs cs=>match cs with
   | none::cs'=>dNo n K vs cs'
   | _=>none
theorem dNo.elim {K:Dec} {vs:List Value} {r:Xcw}:∀ {n:Nat} {cs:List (Option (List Value))},dNo n K vs cs=some r→∃ cs',cs=List.replicate n none++cs'∧K vs cs'=some r
 | 0,cs,h=>⟨cs,rfl,h⟩
 | n+1,cs,h=>by
   simp only [dNo] at h
   split at h<;>try (cases h;done)
   obtain ⟨cs',rfl,h2⟩:=dNo.elim h
   exact ⟨cs',rfl,h2⟩
def dNl (n:Nat) (K:Dec):Dec:=fun vs cs=>match vs with
 | .pointer none::vs'=>dNo n K vs' cs
 | _=>none
theorem dNl.elim {n:Nat} {K:Dec} {vs:List Value} {cs:List (Option (List Value))} {r:Xcw} (h:dNl n K vs cs=some r):∃ vs' cs',vs=.pointer none::vs'∧cs=List.replicate n none++cs'∧K vs' cs'=some r:=by
 unfold dNl at h
 split at h<;>try (cases h;done)
 obtain ⟨cs',rfl,h2⟩:=dNo.elim h
 exact ⟨_,cs',rfl,rfl,h2⟩
def Xdd (r:Option Xcw):Dec:=fun vs cs=>match vs,cs with
 | [],[]=>r
 | _,_=>none
theorem Xdd.elim {o:Option Xcw} {vs:List Value} {cs:List (Option (List Value))} {r:Xcw} (h:Xdd o vs cs=some r):vs=[]∧cs=[]∧o=some r:=by
 unfold Xdd at h
 split at h<;>try (cases h;done)
 exact ⟨rfl,rfl,h⟩
def orD (a b:Dec):Dec:=fun vs cs=>match a vs cs with
 | some r=>some r
 | none=>b vs cs
theorem orD.elim {a b:Dec} {vs:List Value} {cs:List (Option (List Value))} {r:Xcw} (h:orD a b vs cs=some r):a vs cs=some r∨b vs cs=some r:=by
 unfold orD at h
 split at h
 ·cases h;left;assumption
 ·exact .inr h
def ofG {α:Type} (o:Option α) (f:α→Xcw):Option Xcw:=match o with
 | some x=>some (f x)
 | none=>none
theorem Xa3 {α:Type} {o:Option α} {f:α→Xcw} {x:α} (h:o=some x):ofG o f=some (f x):=by subst h;rfl
theorem ofG.elim {α:Type} {o:Option α} {f:α→Xcw} {r:Xcw} (h:ofG o f=some r):∃ x,o=some x∧f x=r:=by
 cases o with
 | none=>cases h
 | some x=>exact ⟨x,rfl,by cases h;rfl⟩
def asS:Value→Option (List UInt8)|.string s=>some s.data.toList|_=>none
theorem XbM (v:Value) (x:List UInt8) (h:asS v=some x):v=.string ⟨⟨x⟩⟩:=by cases v<;>simp [asS] at h;subst h;rfl
theorem Xuv (k:IntKind) (xs:List Int):unL (asI k) (vI k xs)=some xs:=Xva (fun x=>by simp [asI]) xs
theorem XtL {k:IntKind} {cs:List Value} {xs:List Int} (h:unL (asI k) cs=some xs):cs=vI k xs:=XAJ (XbD k) h
end Go.Vm
namespace Go.Vm
open Go Go.RowKit
end Go.Vm
namespace Go.Vm
open Go Go.RowKit
theorem st_I {k:IntKind} {xs:List Int} {o i:Nat} {x:Int} {K:List Value→Prop} (hb:decide (i<xs.length)=true) (e:o=i) (h:K (vI k (xs.set i x))) :
 req (decide ((XaP (.int k x)).length=1∧o+1≤(vI k xs).length)&&(XaP (.int k x)).all XfQ) (∃ cs',setAt (vI k xs) o (XaP (.int k x))=cs'∧K cs'):=req.intro (XD7 hb e) (XJV e h)
end Go.Vm
namespace Go.Vm
theorem br.h2 {α:Type} {b b':Bool} {X Y:Option α} {r:α} {p q:Prop} (h:cond b' X Y=some r) (e:b=b') (k2:b'=false→Y=some r→q) (k1:b'=true→X=some r→p):br b p q:=br.h h e k1 k2
end Go.Vm
namespace Go.Vm
open Go Go.RowKit
theorem VR.ofNil {ρ:Ren} {s:Nat} {rv:Value} (h:VR ρ (.slice none 0 s) rv) (j sz:Nat):VR ρ (.slice (some ⟨j,0,none⟩) 0 sz) rv:=by
 cases h;exact .slice0 none
theorem XaK.nilT {P:Program} {f base fn nt s:Nat} {e:Env} {todo:List Xd5} {ds:List Nat} {ret:Bool} {rd:Option Nat} {up:List Xbh} {H:Hp} {top:Nat} {R:Value→Hp→Nat→Prop} (t sz:Nat)
 (h:XaK P f base ⟨⟨fn,nt,Xee e t (.slice (some ⟨top,0,none⟩) 0 sz),todo,ds,ret,rd⟩,up,Xee H top (.row true []),top+1⟩ R) (he:Xav e t=some (.slice none 0 s):=by rfl) :
 XaK P f base ⟨⟨fn,nt,e,todo,ds,ret,rd⟩,up,H,top⟩ R:=by
 refine ⟨fun w0 U ρ rf rfs w cs hr=>?_⟩
 have hx:=Ext.upd (l:=⟨0,0,0⟩) hr.heap.XlR
 have hcur:FrR P (upd ρ top ⟨0,0,0⟩) ⟨fn,nt,Xee e t (.slice (some ⟨top,0,none⟩) 0 sz),todo,ds,ret,rd⟩ rf:=
  { hr.cur.mono hx with
    env:=fun i v hv=>by
     rw [XaT] at hv
     split at hv
     ·rename_i hi;subst hi;cases hv
      obtain ⟨v',a,b⟩:=hr.cur.env t _ he
      exact ⟨v',a,(VR.ofNil b _ _).mono hx⟩
     ·exact (hr.cur.env.mono hx) i v hv }
 obtain ⟨ρ',rv,fr',w',v,H',top',h1,h2,h3,h4,h5,h6,h7⟩:=h.get w0 U _ rf rfs w cs ⟨hcur,hr.up.mono (fun _ _ x=>x.mono hx),XhM hr.heap⟩
 exact ⟨ρ',rv,fr',w',v,H',top',h1,h2,h3,h4,h5,fun i l hi hl=>h6 i l hi (hx _ _ hl),h7⟩
theorem XaK.nilC {P:Program} {f base s:Nat} {fr:Xbh} {up:List Xbh} {H:Hp} {top:Nat} {R:Value→Hp→Nat→Prop} (b i sz:Nat) {cs:List Value}
 (h:XaK P f base ⟨fr,up,Xee (Xee H b (.cells (cs.set i (.slice (some ⟨top,0,none⟩) 0 sz)))) top (.row true []),top+1⟩ R) (hb:Xav H b=some (.cells cs):=by rfl) (hi:cs[i]?=some (.slice none 0 s):=by rfl) :
 XaK P f base ⟨fr,up,H,top⟩ R:=by
 refine ⟨fun w0 U ρ rf rfs w cs' hr=>?_⟩
 have hx:=Ext.upd (l:=⟨0,0,0⟩) hr.heap.XlR
 have hp:HpR P w0 (.of U) ρ (Xee H b (.cells (cs.set i (.slice (some ⟨top,0,none⟩) 0 sz)))) top w:=
  { hr.heap with
    obj:=fun j o ho=>by
     rw [XaT] at ho
     split at ho
     ·rename_i hj;subst hj;cases ho
      obtain ⟨l,hl,hc,hw⟩:=hr.heap.obj b _ hb
      refine ⟨l,hl,?_,fun _=>hw rfl⟩
      obtain ⟨g1,g2,g3⟩:=(hc:Xa4 ρ w l true cs)
      refine ⟨by simpa using g1,fun k v hv=>?_,g3⟩
      rw [List.getElem?_set] at hv
      split at hv
      ·rename_i hk;subst hk
       split at hv
       ·cases hv
        obtain ⟨v',a,b'⟩:=g2 i _ hi
        exact ⟨v',a,VR.ofNil b' _ _⟩
       ·cases hv
      ·exact g2 k v hv
     ·exact hr.heap.obj j o ho
    dis:=fun j k oj ok lj lk hjk hj hk hlj hlk hw=>by
     have key:∀ j o,Xav (Xee H b (.cells (cs.set i (.slice (some ⟨top,0,none⟩) 0 sz)))) j=some o→∃ o',Xav H j=some o'∧(writable o=true→writable o'=true):=fun j o ho=>by
      rw [XaT] at ho
      split at ho
      ·rename_i hj;subst hj;exact ⟨_,hb,fun _=>rfl⟩
      ·exact ⟨o,ho,id⟩
     obtain ⟨oj',a1,a2⟩:=key j oj hj
     obtain ⟨ok',b1,_⟩:=key k ok hk
     exact hr.heap.dis j k oj' ok' lj lk hjk a1 b1 hlj hlk (a2 hw) }
 obtain ⟨ρ',rv,fr',w',v,H',top',h1,h2,h3,h4,h5,h6,h7⟩:=h.get w0 U _ rf rfs w cs' ⟨hr.cur.mono hx,hr.up.mono (fun _ _ x=>x.mono hx),XhM hp⟩
 exact ⟨ρ',rv,fr',w',v,H',top',h1,h2,h3,h4,h5,fun i l hi hl=>h6 i l hi (hx _ _ hl),h7⟩
mutual
inductive Nv (j:Nat):Value→Value→Prop
 | same (v):Nv j v v
 | nil (s sz):Nv j (.slice none 0 s) (.slice (some ⟨j,0,none⟩) 0 sz)
 | tup {a b:List Value} (h:NvL j a b):Nv j (.tuple ⟨a⟩) (.tuple ⟨b⟩)
 | agg {a b:List Value} (h:NvL j a b):Nv j (.agg ⟨a⟩) (.agg ⟨b⟩)
inductive NvL (j:Nat):List Value→List Value→Prop
 | nil:NvL j [] []
 | cons {v v':Value} {l l':List Value} (h:Nv j v v') (t:NvL j l l'):NvL j (v::l) (v'::l')
end
mutual
theorem Nv.vr {j:Nat} {ρ:Ren}:∀ {v v':Value},Nv j v v'→∀ {rv:Value},VR ρ v rv→VR ρ v' rv
 | _,_,.same v,_,h=>h
 | _,_,.nil s sz,_,h=>VR.ofNil h _ _
 | _,_,.tup hl,_,h=>by cases h with|tuple ht=>exact .tuple (NvL.vr hl ht)
 | _,_,.agg hl,_,h=>by cases h with|agg ht=>exact .agg (NvL.vr hl ht)
theorem NvL.vr {j:Nat} {ρ:Ren}:∀ {l l':List Value},NvL j l l'→∀ {rl:List Value},VRL ρ l rl→VRL ρ l' rl
 | _,_,.nil,_,h=>h
 | _,_,.cons hv ht,_,h=>by cases h with|cons a b=>exact .cons (Nv.vr hv a) (NvL.vr ht b)
end
end Go.Vm
namespace Go.Vm
theorem Xuc {A B C D:Prop} [Decidable (A∧B∧C∧D)] {p q:Bool} (a:A) (b:B) (c:C) (d:D) (e:p=true) (g:q=true):(decide (A∧B∧C∧D)&&p&&q)=true:=by
 rw [decide_eq_true ⟨a,b,c,d⟩,e,g];rfl
end Go.Vm
namespace Go.Vm
open Go Go.RowKit
def XqK (o:Xbj) (K:Xbj→Prop):Prop:=
 match o with
 | .cells cs=>XlI cs fun cs=>K (.cells cs)
 | .row own cs=>XlI cs fun cs=>K (.row own cs)
 | .ty t cs=>K (.ty t cs)
 | .siter s p=>K (.siter s p)
 | .loop l=>K (.loop l)
 | .marks=>K .marks
theorem XsU (o:Xbj) (K:Xbj→Prop):XqK o K=K o:=by
 cases o<;>simp only [XqK,Xi1]
def XjY (bs:List Nat) (h:Hp) (K:Hp→Prop):Prop:=
 match h with
 | []=>K []
 | (i,o)::l=>cond (XA5 i bs) (XqK o fun o=>XjY bs l fun l=>K ((i,o)::l)) (Xtl o fun o=>XjY bs l fun l=>K ((i,o)::l))
theorem Xld (bs:List Nat):∀ (h:Hp) (K:Hp→Prop),XjY bs h K=K h
 | [],K=>rfl
 | (i,o)::l,K=>by
   rw [XjY]
   cases XA5 i bs
   ·rw [cond_false,XpW,Xld bs l]
   ·rw [cond_true,XsU,Xld bs l]
theorem XaJ.Xbd {s:Xbv} {vals:List Value} {h:Hp} {top:Nat} {K:Value→Hp→Nat→Prop} {v:Value} {h':Hp} {top':Nat} (bs:List Nat) (e:XgC s vals h top=some (v,h',top')) (k:Xgq v fun v=>XjY bs h' fun h'=>K v h' top'):XaJ s vals h top K:=
 XaJ.intro e (by simpa only [XfF,Xld] using k)
end Go.Vm
namespace Go.Vm
open Go Go.RowKit
inductive Xtd:Value→Hp→Nat→Value→Hp→Nat→Prop
 | refl (v:Value) (H:Hp) (t:Nat):Xtd v H t v H t
 | val {v v' v2:Value} {H H2:Hp} {t t2:Nat} (h:Nv t v v') (k:Xtd v' (Xee H t (.row true [])) (t+1) v2 H2 t2):Xtd v H t v2 H2 t2
 | cell {v v2:Value} {H H2:Hp} {t t2 s:Nat} (b i sz:Nat) {cs:List Value} (hb:Xav H b=some (.cells cs)) (hi:cs[i]?=some (.slice none 0 s)) (k:Xtd v (Xee (Xee H b (.cells (cs.set i (.slice (some ⟨t,0,none⟩) 0 sz)))) t (.row true [])) (t+1) v2 H2 t2):Xtd v H t v2 H2 t2
theorem XFy {P:Program} {w0:World} {U:UG} {ρ:Ren} {H:Hp} {top s:Nat} {w:World} (h:HpR P w0 U ρ H top w) {b i:Nat} (sz:Nat) {cs:List Value} (hb:Xav H b=some (.cells cs)) (hi:cs[i]?=some (.slice none 0 s)):HpR P w0 U ρ (Xee H b (.cells (cs.set i (.slice (some ⟨top,0,none⟩) 0 sz)))) top w:=
 { h with
   obj:=fun j o ho=>by
    rw [XaT] at ho
    split at ho
    ·rename_i hj;subst hj;cases ho
     obtain ⟨l,hl,hc,hw⟩:=h.obj b _ hb
     refine ⟨l,hl,?_,fun _=>hw rfl⟩
     obtain ⟨g1,g2,g3⟩:=(hc:Xa4 ρ w l true cs)
     refine ⟨by simpa using g1,fun k v hv=>?_,g3⟩
     rw [List.getElem?_set] at hv
     split at hv
     ·rename_i hk;subst hk
      split at hv
      ·cases hv
       obtain ⟨v',a,b'⟩:=g2 i _ hi
       exact ⟨v',a,VR.ofNil b' _ _⟩
      ·cases hv
     ·exact g2 k v hv
    ·exact h.obj j o ho
   dis:=fun j k oj ok lj lk hjk hj hk hlj hlk hw=>by
    have key:∀ j o,Xav (Xee H b (.cells (cs.set i (.slice (some ⟨top,0,none⟩) 0 sz)))) j=some o→∃ o',Xav H j=some o'∧(writable o=true→writable o'=true):=fun j o ho=>by
     rw [XaT] at ho
     split at ho
     ·rename_i hj;subst hj;exact ⟨_,hb,fun _=>rfl⟩
     ·exact ⟨o,ho,id⟩
    obtain ⟨oj',a1,a2⟩:=key j oj hj
    obtain ⟨ok',b1,_⟩:=key k ok hk
    exact h.dis j k oj' ok' lj lk hjk a1 b1 hlj hlk (a2 hw) }
theorem Xtd.ok {P:Program} {w0:World} {U:Nat→Nat→Prop} {v v2 rv:Value} {H H2:Hp} {t t2:Nat} (k:Xtd v H t v2 H2 t2):∀ {ρ:Ren} {w:World},VR ρ v rv→HpR P w0 (.of U) ρ H t w→∃ ρ',Ext ρ ρ'∧VR ρ' v2 rv∧HpR P w0 (.of U) ρ' H2 t2 w:=by
 induction k with
 | refl=>intro ρ w h1 h2;exact ⟨ρ,Ext.refl ρ,h1,h2⟩
 | val h k ih=>
   intro ρ w h1 h2
   have hx:=Ext.upd (l:=⟨0,0,0⟩) h2.XlR
   obtain ⟨ρ',e1,e2,e3⟩:=ih ((h.vr h1).mono hx) (XhM h2)
   exact ⟨ρ',hx.trans e1,e2,e3⟩
 | cell b i sz hb hi k ih=>
   intro ρ w h1 h2
   have hx:=Ext.upd (l:=⟨0,0,0⟩) h2.XlR
   obtain ⟨ρ',e1,e2,e3⟩:=ih (h1.mono hx) (XhM (XFy h2 sz hb hi))
   exact ⟨ρ',hx.trans e1,e2,e3⟩
theorem XaK.nilW {P:Program} {f base:Nat} {vm:VM} {R:Value→Hp→Prop} (h:XaK P f base vm (fun v H t=>∃ v' H' t',Xtd v H t v' H' t'∧R v' H')):XaK P f base vm (fun v H _=>R v H):=by
 refine ⟨fun w0 U ρ rf rfs w cs hr=>?_⟩
 obtain ⟨ρ',rv,fr',w',v,H',top',h1,h2,h3,h4,h5,h6,v2,H2,t2,hk,h7⟩:=h.get w0 U ρ rf rfs w cs hr
 obtain ⟨ρ2,e1,e2,e3⟩:=hk.ok h4 h5
 exact ⟨ρ2,rv,fr',w',v2,H2,t2,h1,h2,h3,e2,e3,fun i l hi hl=>e1 _ _ (h6 i l hi hl),h7⟩
end Go.Vm
namespace Go.Vm
end Go.Vm
namespace Go.Vm
open Go Go.RowKit
@[simp] theorem XEt (l:List UInt8):(ofBytes l).length=l.length:=by simp [ofBytes]
theorem pk_us {xs:List Int} {n:Nat} {K:List UInt8→Prop} (h:K (iB xs)) (hn:xs.length≤n:=by first|exact Nat.le_refl _|omega|(simp;done)|(simp;omega)):∃ bs,XeK ((vI .u8 xs).take n)=some bs∧K bs:=
 ⟨_,by rw [List.take_of_length_le (by simpa using hn)];exact Xlf _,h⟩
theorem XHa {A B C D:Prop} [Decidable (A∧B∧C∧D)] (a:A) (b:B) (c:C) (d:D):decide (A∧B∧C∧D)=true:=decide_eq_true ⟨a,b,c,d⟩
theorem XyA {A B C D:Prop} [Decidable (A∧B∧C∧D)] (a:A) (b:B) (c:C) (d:D):decide (A∧B∧C∧D)=true:=decide_eq_true ⟨a,b,c,d⟩
theorem XC8 {A B C D E:Prop} [Decidable (A∧B∧C∧D∧E)] {p q:Bool} (a:A) (b:B) (c:C) (d:D) (e:E) (f:p=true) (g:q=true):(decide (A∧B∧C∧D∧E)&&p&&q)=true:=by
 rw [decide_eq_true ⟨a,b,c,d,e⟩,f,g];rfl
theorem XIE {new:List Value} {xs:List Int} {n m:Nat} {ys:List Int} {K:List Value→Nat→Prop} (e:new=vI .u8 ys) (hc:n=xs.length) (hn:n+m=(xs++ys).length) (h:K (vI .u8 (xs++ys)) (xs++ys).length) :
 ∃ cs' n',(vI .u8 xs).take n++new=cs'∧n+m=n'∧K cs' n':=
 ⟨_,_,by rw [List.take_of_length_le (by simp [hc]),e,XB5],hn,h⟩
def un1 {α:Type} (un:Value→Option α):List Value→Option α
 | [v]=>un v
 | _=>none
theorem XBq {α:Type} {un:Value→Option α} {g:α→Value} (h:∀ v x,un v=some x→v=g x) {cs:List Value} {x:α} (e:un1 un cs=some x):cs=[g x]:=by
 unfold un1 at e
 split at e
 ·rw [h _ _ e]
 ·cases e
theorem XLb {α:Type} {un:Value→Option α} {v:Value} {x:α} (h:un v=some x):un1 un [v]=some x:=h
theorem Xcv (k:IntKind) {n:Int}:asI k (.int k n)=some n:=by simp [asI]
theorem XcO {s:List UInt8}:asS (.string ⟨⟨s⟩⟩)=some s:=rfl
def XC7 (i:Nat) (a b:Dec):Dec:=fun vs cs=>match vs[i]? with
 | some (.pointer none)=>b vs cs
 | _=>a vs cs
theorem XC7.elim {i:Nat} {a b:Dec} {vs:List Value} {cs:List (Option (List Value))} {r:Xcw} (h:XC7 i a b vs cs=some r):a vs cs=some r∨b vs cs=some r:=by
 unfold XC7 at h
 split at h
 ·exact .inr h
 ·exact .inl h
theorem Xhe {H:Hp} {s:Nat→Option Nat}:XqU H s [] []:=trivial
theorem XsO {H:Hp} {s:Nat→Option Nat} {j:Nat} {js:List Nat} {c c':List Value} {cs:List (List Value)} (e:Xdx.renL s c=some c') (h:Has H j c') (t:XqU H s js cs):XqU H s (j::js) (c::cs):=⟨⟨_,e,h⟩,t⟩
theorem Xhf {n:Nat} {wr:List (Option (List Value))}:XGt n wr []:=trivial
theorem XsZ {n j:Nat} {wr:List (Option (List Value))} {js:List Nat} (h:n≤j) (t:XGt n wr js):XGt n wr (j::js):=⟨.inl h,t⟩
theorem Xhd {H:Hp} {s:Nat→Option Nat} {k:Nat}:XwH H s k []:=trivial
theorem XGB {H:Hp} {s:Nat→Option Nat} {k:Nat} {l:List (Option (List Value))} (t:XwH H s (k+1) l):XwH H s k (none::l):=t
theorem XlL {H:Hp} {s:Nat→Option Nat} {k:Nat} {c c':List Value} {l:List (Option (List Value))} (e:Xdx.renL s c=some c') (h:Has H k c') (t:XwH H s (k+1) l):XwH H s k (some c::l):=⟨⟨_,e,h⟩,t⟩
theorem Res.flat {n:Nat} {r:Xcw} {v':Value} {H':Hp} {b:Bool} (e:r.v=.bool b) (_:r.new=[]) (h:Res n r v' H'):v'=.bool b:=by
 obtain ⟨js,h1,h2,-⟩:=h.ex
 rw [e] at h1
 cases h1;rfl
theorem XaJ.q {s:Xbv} {vals:List Value} {h:Hp} {top:Nat} {K:Value→Hp→Nat→Prop} {r:Xcw} {v':Value} (e1:Xcy h 0 s.modes vals=some (vals,[])) (ew:XiA h s.modes vals=[]) (e2:s.run vals []=some r) (hn:r.new=[]) (hw:r.wr=[]) (e6:Xdx (Xs4 top 0 []) r.v=some v')
 (k:Xgq v' fun v=>XjY [] h fun h'=>K v h' top):XaJ s vals h top K:=by
 refine XaJ.Xbd [] (Xaw (n:=0) (m:=0) (t':=top) e1 ew rfl e2 rfl (by rw [hn];rfl) rfl rfl (by rw [hw];exact Xbe) (by rw [hn];exact Xbc) e6) k
theorem Xdw {α:Type} {o:Option α} {f:α→Xcw} {vs:List Value} {cs:List (Option (List Value))} {r:Xcw} (h:Xdd (ofG o f) vs cs=some r):vs=[]∧cs=[]∧∃ x,o=some x∧f x=r:=by
 obtain ⟨a,b,c⟩:=Xdd.elim h
 exact ⟨a,b,ofG.elim c⟩
theorem Res.z {n:Nat} {r:Xcw} {v':Value} {H':Hp} (e1:Xdx (XsE [] n) r.v=some v') (e2:r.new=[]) (e3:r.wr=[]):Res n r v' H':=
 Res.of [] e1 (by rw [e2];exact Xhe) (by decide) Xhf (by rw [e3];exact Xhd)
theorem XaJ.p {s:Xbv} {vals:List Value} {h:Hp} {top:Nat} {K:Value→Hp→Nat→Prop} {r:Xcw} {v':Value} (e2:s.run vals []=some r)
 (k:Xgq v' fun v=>XjY [] h fun h'=>K v h' top) (e1:Xcy h 0 s.modes vals=some (vals,[]):=by exact rfl) (ew:XiA h s.modes vals=[]:=by exact rfl) (hn:r.new=[]:=by exact rfl) (hw:r.wr=[]:=by exact rfl) (e6:Xdx (Xs4 top 0 []) r.v=some v':=by exact rfl):XaJ s vals h top K:=XaJ.q e1 ew e2 hn hw e6 k
theorem Res.y {n:Nat} {r:Xcw} {v':Value} {H':Hp} (e1:Xdx (XsE [] n) r.v=some v':=by exact rfl) (e2:r.new=[]:=by exact rfl) (e3:r.wr=[]:=by exact rfl):Res n r v' H':=Res.z e1 e2 e3
end Go.Vm
namespace Go.Vm
open Go Go.RowKit
section
variable {α:Type} {f:α→List Value} {c:Nat}
end
end Go.Vm
namespace Go.Vm
end Go.Vm
namespace Go.Vm
open Go
theorem XcC {n:Int} (h1:-9223372036854775808≤n) (h2:n<9223372036854775808):wI .i64 n=n:=by
 show IntKind.wrap .i64 n=n;rw [IntKind.wrap_i64];omega
theorem XpZ {n:Int} (h1:0≤n) (h2:n<18446744073709551616):wI .u64 n=n:=by
 show IntKind.wrap .u64 n=n
 simp only [IntKind.wrap,IntKind.bits,IntKind.signed];simp;omega
theorem Xpm {n:Int} (h1:0≤n) (h2:n<4294967296):wI .u32 n=n:=by
 show IntKind.wrap .u32 n=n
 simp only [IntKind.wrap,IntKind.bits,IntKind.signed];simp;omega
theorem wU8 {n:Int} (h1:0≤n) (h2:n<256):wI .u8 n=n:=by
 show IntKind.wrap .u8 n=n
 simp only [IntKind.wrap,IntKind.bits,IntKind.signed];simp;omega
theorem XEd (n:Int):wI .u32 n=n%4294967296:=by
 show IntKind.wrap .u32 n=_
 simp only [IntKind.wrap,IntKind.bits,IntKind.signed];simp
theorem XyE (n:Int):wI .u16 n=n%65536:=by
 show IntKind.wrap .u16 n=_
 simp only [IntKind.wrap,IntKind.bits,IntKind.signed];simp
theorem wU8m (n:Int):wI .u8 n=n%256:=by
 show IntKind.wrap .u8 n=_
 simp only [IntKind.wrap,IntKind.bits,IntKind.signed];simp
theorem XE0 {n:Nat} (h:n<18446744073709551616):(BitVec.ofInt 64 (n:Int)).toNat=n:=by
 rw [BitVec.toNat_ofInt];omega
theorem XGN {a b:Nat} (ha:a<9223372036854775808) (hb:b<9223372036854775808):XjA .i64 (a:Int) (b:Int)=((a &&& b:Nat):Int):=by
 have h:a &&& b≤a:=Nat.and_le_left
 show IntKind.wrap .i64 _=_
 rw [show IntKind.bits .i64=64 from rfl,BitVec.toNat_and,XE0 (by omega),XE0 (by omega)]
 exact XcC (by omega) (by omega)
theorem XKy {a b:Nat} (ha:a<9223372036854775808) (hb:b<9223372036854775808):Xsr .i64 (a:Int) (b:Int)=((a ||| b:Nat):Int):=by
 have h:a ||| b<2^63:=Nat.or_lt_two_pow (by omega) (by omega)
 show IntKind.wrap .i64 _=_
 rw [show IntKind.bits .i64=64 from rfl,BitVec.toNat_or,XE0 (by omega),XE0 (by omega)]
 exact XcC (by omega) (by omega)
theorem XJp {a b:Nat} (ha:a<18446744073709551616) (hb:b<18446744073709551616):Xsr .u64 (a:Int) (b:Int)=((a ||| b:Nat):Int):=by
 have h:a ||| b<2^64:=Nat.or_lt_two_pow (by omega) (by omega)
 show IntKind.wrap .u64 _=_
 rw [show IntKind.bits .u64=64 from rfl,BitVec.toNat_or,XE0 (by omega),XE0 (by omega)]
 exact XpZ (by omega) (by omega)
theorem XwV (a k:Nat):a &&& (2^k - 1)=a%2^k:=Nat.and_two_pow_sub_one_eq_mod a k
theorem XvP {a b k:Nat} (hb:b<2^k):(a*2^k) ||| b=a*2^k+b:=by
 rw [Nat.mul_comm];exact (Nat.two_pow_add_eq_or_of_lt hb a).symm
theorem Xg0 (k:Nat) {a m:Int} (hm:m=2^k - 1) (hk:k≤62) (h0:0≤a) (h1:a<9223372036854775808):XjA .i64 a m=a%2^k:=by
 obtain ⟨n,rfl⟩:=Int.eq_ofNat_of_zero_le h0
 have hp:2^k≤2^62:=Nat.pow_le_pow_right (by decide) hk
 have hp1:1≤2^k:=Nat.one_le_two_pow
 have:m=((2^k - 1:Nat):Int):=by rw [hm];push_cast [hp1];rfl
 rw [this,XGN (by omega) (by omega),XwV];push_cast;rfl
theorem Xnr (k:Nat) {a b:Int} (h0:0≤a) (h1:a*2^k<9223372036854775808) (hb0:0≤b) (hb:b<2^k) (hb1:b<9223372036854775808):Xsr .i64 (a*2^k) b=a*2^k+b:=by
 obtain ⟨n,rfl⟩:=Int.eq_ofNat_of_zero_le h0
 obtain ⟨m,rfl⟩:=Int.eq_ofNat_of_zero_le hb0
 have e:((n:Int)*2^k)=((n*2^k:Nat):Int):=by push_cast;rfl
 rw [e] at h1 ⊢
 rw [XKy (by omega) (by omega),XvP (by exact_mod_cast hb)];push_cast;rfl
theorem XsA (k:Nat) {a b:Int} (h0:0≤a) (h1:a*2^k<18446744073709551616) (hb0:0≤b) (hb:b<2^k) (hb1:b<18446744073709551616):Xsr .u64 (a*2^k) b=a*2^k+b:=by
 obtain ⟨n,rfl⟩:=Int.eq_ofNat_of_zero_le h0
 obtain ⟨m,rfl⟩:=Int.eq_ofNat_of_zero_le hb0
 have e:((n:Int)*2^k)=((n*2^k:Nat):Int):=by push_cast;rfl
 rw [e] at h1 ⊢
 rw [XJp (by omega) (by omega),XvP (by exact_mod_cast hb)];push_cast;rfl
theorem Xo1 (a:Int) (k:Nat):a.fdiv (2^k)=a/2^k:=Int.fdiv_eq_ediv_of_nonneg a (Int.le_of_lt (Int.pow_pos (by decide)))
theorem XaL {α:Type} {p:Prop} [Decidable p] {x:Option α} (h:p):XaE (decide p) x=x:=XaE.mk (decide_eq_true h)
theorem XaZ {α:Type} {p:Prop} [Decidable p] {x y:α} (h:p):cond (decide p) x y=x:=by rw [decide_eq_true h,cond_true]
theorem XaO {α:Type} {p:Prop} [Decidable p] {x y:α} (h:¬ p):cond (decide p) x y=y:=by rw [decide_eq_false h,cond_false]
theorem Xxh {α:Type} {p:Prop} [Decidable p] {x y:α}:cond (decide p) x y=if p then x else y:=by
 by_cases h:p<;>simp [h]
theorem iter_eq {σ ρ:Type} {step:σ→Option (Sum σ ρ)} (F:σ→ρ) (P:σ→Prop) (μ:σ→Nat)
 (h:∀ s,P s→step s=some (.inr (F s))∨∃ s',step s=some (.inl s')∧P s'∧μ s'<μ s∧F s'=F s):∀ n s,P s→μ s<n→iter step n s=some (F s)
 | 0,s,hp,hn=>by omega
 | n+1,s,hp,hn=>by
   rw [iter]
   rcases h s hp with e|⟨s',e,hp',hm,hf⟩
   ·rw [e]
   ·rw [e];exact hf▸iter_eq F P μ h n s' hp' (by omega)
theorem Xew:FUEL=18446744073709551616:=rfl
end Go.Vm
namespace Go.Vm.Code
open Go Go.Vm Go.Proofs
def τ0:Operand:=.tmp 0
def τ1:Operand:=.tmp 1
def τ2:Operand:=.tmp 2
def τ3:Operand:=.tmp 3
def τ4:Operand:=.tmp 4
def τ5:Operand:=.tmp 5
def τ6:Operand:=.tmp 6
def τ7:Operand:=.tmp 7
def τ8:Operand:=.tmp 8
def τ9:Operand:=.tmp 9
def Xb9:Operand:=.tmp 10
def Xb5:Operand:=.tmp 11
def XcP:Operand:=.tmp 12
def XcQ:Operand:=.tmp 13
def Xde:Operand:=.tmp 14
def Xdb:Operand:=.tmp 15
def Xdh:Operand:=.tmp 16
def Xda:Operand:=.tmp 17
def XdK:Operand:=.tmp 18
def Xdz:Operand:=.tmp 19
def Xd0:Operand:=.tmp 20
def Xd4:Operand:=.tmp 21
def Xeu:Operand:=.tmp 22
def XeH:Operand:=.tmp 23
def Xel:Operand:=.tmp 24
def XeM:Operand:=.tmp 25
def Xef:Operand:=.tmp 26
def XeJ:Operand:=.tmp 27
def XeC:Operand:=.tmp 28
def XeP:Operand:=.tmp 29
def Xfi:Operand:=.tmp 30
def Xfc:Operand:=.tmp 31
def Xfn:Operand:=.tmp 32
def Xfl:Operand:=.tmp 33
def Xfu:Operand:=.tmp 34
def Xfv:Operand:=.tmp 35
def XfI:Operand:=.tmp 36
def Xfk:Operand:=.tmp 37
def XgG:Operand:=.tmp 38
def XgD:Operand:=.tmp 39
def Xhj:Operand:=.tmp 40
def Xhg:Operand:=.tmp 41
def Xhh:Operand:=.tmp 42
def Xhn:Operand:=.tmp 43
def XhU:Operand:=.tmp 44
def XhB:Operand:=.tmp 45
def Xh6:Operand:=.tmp 46
def Xh1:Operand:=.tmp 47
def Xiz:Operand:=.tmp 48
def Xiy:Operand:=.tmp 49
def XiB:Operand:=.tmp 50
def XiC:Operand:=.tmp 51
def XjH:Operand:=.tmp 52
def XjL:Operand:=.tmp 53
def XkZ:Operand:=.tmp 54
def Xk2:Operand:=.tmp 55
def Xls:Operand:=.tmp 56
def Xks:Operand:=.tmp 57
def XkY:Operand:=.tmp 58
def Xlu:Operand:=.tmp 59
def XlS:Operand:=.tmp 60
def Xl7:Operand:=.tmp 61
def Xm9:Operand:=.tmp 62
def XoC:Operand:=.tmp 63
def Xn2:Operand:=.tmp 64
def XoQ:Operand:=.tmp 65
def XpY:Operand:=.tmp 66
def XoS:Operand:=.tmp 67
def XpR:Operand:=.tmp 68
def XoV:Operand:=.tmp 69
def Xrd:Operand:=.tmp 70
def XrA:Operand:=.tmp 71
def Xrb:Operand:=.tmp 72
def Xsk:Operand:=.tmp 73
def XuK:Operand:=.tmp 74
def XtG:Operand:=.tmp 75
def XwI:Operand:=.tmp 76
def XvM:Operand:=.tmp 77
def Xwp:Operand:=.tmp 78
def Xyx:Operand:=.tmp 79
def Xwx:Operand:=.tmp 80
def XxV:Operand:=.tmp 81
def Xzu:Operand:=.tmp 82
def XwK:Operand:=.tmp 83
def XBN:Operand:=.tmp 84
def XC4:Operand:=.tmp 85
def XCE:Operand:=.tmp 86
def XCb:Operand:=.tmp 87
def XFr:Operand:=.tmp 88
def XA2:Operand:=.tmp 89
def XEF:Operand:=.tmp 90
def XCj:Operand:=.tmp 91
def XFV:Operand:=.tmp 92
def XF6:Operand:=.tmp 93
def XDa:Operand:=.tmp 94
def XC6:Operand:=.tmp 95
def XES:Operand:=.tmp 96
def XGo:Operand:=.tmp 97
def τ98:Operand:=.tmp 98
def τ99:Operand:=.tmp 99
def XCD:Operand:=.tmp 100
def XFf:Operand:=.tmp 101
def XHM:Operand:=.tmp 102
def XHo:Operand:=.tmp 103
def XLA:Operand:=.tmp 104
def XKR:Operand:=.tmp 105
def XHr:Operand:=.tmp 106
def XGH:Operand:=.tmp 107
def XK3:Operand:=.tmp 108
def XG2:Operand:=.tmp 109
def XHL:Operand:=.tmp 110
def Xyq:Operand:=.tmp 111
def XI6:Operand:=.tmp 112
def XIw:Operand:=.tmp 113
def XIb:Operand:=.tmp 114
def XLe:Operand:=.tmp 115
def XJh:Operand:=.tmp 116
def XJC:Operand:=.tmp 117
def XKa:Operand:=.tmp 118
def XHX:Operand:=.tmp 119
def XJI:Operand:=.tmp 120
def XJF:Operand:=.tmp 121
def XHc:Operand:=.tmp 122
def XKF:Operand:=.tmp 123
def XGE:Operand:=.tmp 124
def XG0:Operand:=.tmp 125
def XIf:Operand:=.tmp 126
def XHk:Operand:=.tmp 127
def XKZ:Operand:=.tmp 128
def XJc:Operand:=.tmp 129
def XLs:Operand:=.tmp 130
def XHO:Operand:=.tmp 131
def XHK:Operand:=.tmp 132
def XJr:Operand:=.tmp 133
def XHx:Operand:=.tmp 134
def XGL:Operand:=.tmp 135
def XIZ:Operand:=.tmp 136
def XK9:Operand:=.tmp 137
def XKD:Operand:=.tmp 138
def XJv:Operand:=.tmp 139
def XIe:Operand:=.tmp 140
def XKb:Operand:=.tmp 141
def XFl:Operand:=.tmp 142
def XFv:Operand:=.tmp 143
def XIj:Operand:=.tmp 144
def XJy:Operand:=.tmp 145
def XHG:Operand:=.tmp 146
def XLl:Operand:=.tmp 147
def XHd:Operand:=.tmp 148
def XGZ:Operand:=.tmp 149
def XJ3:Operand:=.tmp 150
def XLv:Operand:=.tmp 151
def XH2:Operand:=.tmp 152
def XI3:Operand:=.tmp 153
def XIl:Operand:=.tmp 154
def XK1:Operand:=.tmp 155
def XEK:Operand:=.tmp 156
def XHN:Operand:=.tmp 157
def XKG:Operand:=.tmp 158
def XLc:Operand:=.tmp 159
def XHi:Operand:=.tmp 160
def XFM:Operand:=.tmp 161
def τ162:Operand:=.tmp 162
def τ163:Operand:=.tmp 163
def τ164:Operand:=.tmp 164
def τ165:Operand:=.tmp 165
def τ166:Operand:=.tmp 166
def τ167:Operand:=.tmp 167
def τ168:Operand:=.tmp 168
def τ169:Operand:=.tmp 169
def τ170:Operand:=.tmp 170
def τ171:Operand:=.tmp 171
def τ172:Operand:=.tmp 172
def τ173:Operand:=.tmp 173
def τ174:Operand:=.tmp 174
def τ175:Operand:=.tmp 175
def τ176:Operand:=.tmp 176
def τ177:Operand:=.tmp 177
def τ178:Operand:=.tmp 178
def τ179:Operand:=.tmp 179
def τ180:Operand:=.tmp 180
def τ181:Operand:=.tmp 181
def τ182:Operand:=.tmp 182
def τ183:Operand:=.tmp 183
def τ184:Operand:=.tmp 184
def τ185:Operand:=.tmp 185
def τ186:Operand:=.tmp 186
def τ187:Operand:=.tmp 187
def τ188:Operand:=.tmp 188
def τ189:Operand:=.tmp 189
def τ190:Operand:=.tmp 190
def τ191:Operand:=.tmp 191
def τ192:Operand:=.tmp 192
def τ193:Operand:=.tmp 193
def τ194:Operand:=.tmp 194
def τ195:Operand:=.tmp 195
def τ196:Operand:=.tmp 196
def XHg:Operand:=.tmp 197
def τ198:Operand:=.tmp 198
def τ199:Operand:=.tmp 199
def τ200:Operand:=.tmp 200
def τ201:Operand:=.tmp 201
def τ202:Operand:=.tmp 202
def τ203:Operand:=.tmp 203
def τ204:Operand:=.tmp 204
def τ205:Operand:=.tmp 205
def τ206:Operand:=.tmp 206
def τ207:Operand:=.tmp 207
def τ208:Operand:=.tmp 208
def τ209:Operand:=.tmp 209
def τ210:Operand:=.tmp 210
def τ211:Operand:=.tmp 211
def τ212:Operand:=.tmp 212
def τ213:Operand:=.tmp 213
def τ214:Operand:=.tmp 214
def τ215:Operand:=.tmp 215
def τ216:Operand:=.tmp 216
def τ217:Operand:=.tmp 217
def τ218:Operand:=.tmp 218
def τ219:Operand:=.tmp 219
def τ220:Operand:=.tmp 220
def τ221:Operand:=.tmp 221
def τ222:Operand:=.tmp 222
def τ223:Operand:=.tmp 223
def τ224:Operand:=.tmp 224
def τ225:Operand:=.tmp 225
def τ226:Operand:=.tmp 226
def τ227:Operand:=.tmp 227
def τ228:Operand:=.tmp 228
def oD (n:Nat) (o:VOp):XbZ:=⟨some n,o,none⟩
def oN (o:VOp):XbZ:=⟨none,o,none⟩
def oM (n:Nat) (x:Operand):XbZ:=⟨some n,.mv x,none⟩
def oG (n:Nat) (o:VOp) (j:Nat) (b:Bool):XbZ:=⟨some n,o,some (j,b)⟩
def oE (n i:Nat) (x:Operand):XbZ:=⟨some n,.extract i x,none⟩
def k3_20:VC:=.seq (.reg [oD 12 (.mv (.const (.bool false)))]) (.seq (.seq (.reg [oM 18 τ0,oD 19 (.lenS XdK),oD 20 (.bin .gtr Xdz (.const (.int .i64 1000))),oM 21 Xd0,oG 22 (.mv τ5) 21 false,oG 23 (.lenL Xeu) 21 false,oG 24 (.bin .gtr XeH (.const (.int .i64 20))) 21 false,oD 25 (.pick Xd4 (.const (.bool true)) Xel)]) (.cond XeM (.seq (.reg [oD 26 (.callF 5 []),oM 12 Xef]) .ret) .skip)) (.seq (.reg [oM 28 τ0,oM 29 τ1,oM 30 τ2,oD 31 (.callF 6 [XeC,XeP,Xfi]),oM 27 Xfc,oE 32 0 XeJ,oE 33 1 XeJ,oM 13 Xfn,oM 14 Xfl]) (.seq (.reg [oM 35 τ0,oM 36 τ1,oM 37 τ2,oD 38 (.callF 7 [Xfv,XfI,Xfk]),oM 34 XgG,oE 39 0 Xfu,oE 40 1 Xfu,oM 15 XgD,oM 16 Xhj]) (.seq (.reg [oM 41 τ3,oM 17 Xhg]) (.seq (.seq (.reg [oM 42 τ4,oD 43 (.bin .geq Xhh (.const (.int .i64 576))),oM 44 Xhn,oG 45 (.mv τ4) 44 true,oG 46 (.mv τ3) 44 true,oG 47 (.bin .lss XhB Xh6) 44 true,oD 48 (.pick XhU Xh1 (.const (.bool false)))]) (.cond Xiz (.reg [oM 49 τ4,oM 17 Xiy]) .skip)) (.seq (.reg [oM 50 τ1,oM 51 τ2,oD 52 (.callF 8 [XiB,XiC]),oM 53 τ1,oM 54 τ2,oD 55 (.callF 9 [XjL,XkZ]),oD 56 (.bin .eql XjH Xk2),oM 57 Xls,oG 58 (.mv τ0) 57 true,oG 59 (.mv τ1) 57 true,oG 60 (.mv τ2) 57 true,oG 61 (.callF 10 [XkY,Xlu,XlS]) 57 true,oG 62 (.mv τ0) 57 true,oG 63 (.lenS Xm9) 57 true,oG 64 (.mv τ1) 57 true,oG 65 (.mv τ2) 57 true,oG 66 (.callF 9 [Xn2,XoQ]) 57 true,oG 67 (.bin .leq XoC XpY) 57 true,oG 68 (.eqB false Xl7 XoS) 57 true,oD 69 (.pick Xks XpR (.const (.bool false))),oM 70 XoV,oG 71 (.mv XcQ) 70 true,oG 72 (.mv Xdb) 70 true,oG 73 (.bin .eql XrA Xrb) 70 true,oD 74 (.pick Xrd Xsk (.const (.bool false))),oM 75 XuK,oG 76 (.mv Xde) 75 true,oG 77 (.mv Xdh) 75 true,oG 78 (.bin .eql XwI XvM) 75 true,oD 79 (.pick XtG Xwp (.const (.bool false))),oM 80 Xyx,oG 81 (.mv τ3) 80 true,oG 82 (.mv τ4) 80 true,oG 83 (.callF 11 [XxV,Xzu]) 80 true,oG 84 (.mv Xda) 80 true,oG 85 (.bin .eql XwK XBN) 80 true,oD 86 (.pick Xwx XC4 (.const (.bool false))),oM 87 XCE,oG 88 (.mv τ5) 87 true,oG 89 (.callF 12 [XFr]) 87 true,oG 90 (.mv τ5) 87 true,oG 91 (.callF 13 [XEF]) 87 true,oG 92 (.bin .eql XA2 XCj) 87 true,oD 93 (.pick XCb XFV (.const (.bool false))),oM 94 XF6,oG 95 (.callF 5 []) 94 true,oD 96 (.pick XDa XC6 (.const (.bool false))),oM 12 XES]) .ret))))))
def fn3:VFn:=⟨97,k3_20,[.tmp 12]⟩
def k5_3:VC:=.seq (.reg [oD 0 (.mv (.const (.bool false)))]) (.seq (.reg [oD 1 (.callF 8 [(.const (.int .i64 1500)),(.const (.bool false))]),oD 2 (.bin .eql τ1 (.const (.int .i64 1454))),oM 3 τ2,oG 4 (.callF 8 [(.const (.int .i64 575)),(.const (.bool true))]) 3 true,oG 5 (.bin .eql τ4 (.const (.int .i64 0))) 3 true,oD 6 (.pick τ3 τ5 (.const (.bool false))),oM 7 τ6,oG 8 (.callF 11 [(.const (.int .i64 1500)),(.const (.int .i64 1400))]) 7 true,oG 9 (.bin .eql τ8 (.const (.int .i64 1400))) 7 true,oD 10 (.pick τ7 τ9 (.const (.bool false))),oM 11 Xb9,oG 12 (.callF 12 [(.const (.slice none 0 0))]) 11 true,oG 13 (.bin .eql XcP (.const (.int .i64 9000))) 11 true,oD 14 (.pick Xb5 XcQ (.const (.bool false))),oM 15 Xde,oG 16 (.callF 10 [(.const (.string ⟨⟨[]⟩⟩)),(.const (.int .i64 600)),(.const (.bool true))]) 15 true,oD 17 (.pick Xdb Xdh (.const (.bool false))),oM 0 Xda]) .ret)
def fn5:VFn:=⟨18,k5_3,[.tmp 0]⟩
def k8_9:VC:=.seq (.reg [oD 4 (.mv (.const (.int .i64 0)))]) (.seq (.seq (.reg [oM 5 τ0,oD 6 (.callF 23 [τ5]),oD 7 (.not τ6)]) (.cond τ7 (.seq (.reg [oD 4 (.mv (.const (.int .i64 0)))]) .ret) .skip)) (.seq (.reg [oM 8 τ0,oM 9 τ1,oD 10 (.callF 24 [τ9]),oD 11 (.bin .sub τ8 Xb9),oD 12 (.bin .sub Xb5 (.const (.int .i64 18))),oM 4 XcP]) .ret))
def fn8:VFn:=⟨13,k8_9,[.tmp 4]⟩
def k23_3:VC:=.seq (.reg [oD 2 (.mv (.const (.bool false)))]) (.seq (.reg [oM 3 τ0,oD 4 (.callF 28 [τ3,(.const (.int .i64 576)),(.const (.int .i64 9000))]),oM 2 τ4]) .ret)
def fn23:VFn:=⟨5,k23_3,[.tmp 2]⟩
def k28_3:VC:=.seq (.reg [oD 6 (.mv (.const (.bool false)))]) (.seq (.reg [oM 7 τ1,oM 8 τ0,oD 9 (.bin .leq τ7 τ8),oM 10 τ9,oG 11 (.mv τ0) 10 true,oG 12 (.mv τ2) 10 true,oG 13 (.bin .leq Xb5 XcP) 10 true,oD 14 (.pick Xb9 XcQ (.const (.bool false))),oM 6 Xde]) .ret)
def fn28:VFn:=⟨15,k28_3,[.tmp 6]⟩
def k24_9:VC:=.seq (.reg [oD 2 (.mv (.const (.int .i64 0)))]) (.seq (.seq (.reg [oM 3 τ0]) (.cond τ3 (.seq (.reg [oD 2 (.mv (.const (.int .i64 48)))]) .ret) .skip)) (.seq (.reg [oD 2 (.mv (.const (.int .i64 28)))]) .ret))
def fn24:VFn:=⟨4,k24_9,[.tmp 2]⟩
def k11_9:VC:=.seq (.reg [oD 4 (.mv (.const (.int .i64 0)))]) (.seq (.seq (.reg [oM 5 τ1,oM 6 τ0,oD 7 (.callF 28 [τ5,(.const (.int .i64 576)),τ6])]) (.cond τ7 (.seq (.reg [oM 8 τ1,oM 4 τ8]) .ret) .skip)) (.seq (.reg [oM 9 τ0,oM 4 τ9]) .ret))
def fn11:VFn:=⟨10,k11_9,[.tmp 4]⟩
def XKt:VC:=.seq (.reg [oD 2 (.mv (.const (.int .i64 0)))]) (.seq (.reg [oD 3 (.mv (.const (.int .i64 9000)))]) (.seq (.seq (.reg [oM 6 τ0,oD 7 (.lenL τ6),oD 8 (.mv (.const (.int .i64 0)))]) (.block 0 (.loop (.seq (.reg [oD 9 (.bin .lss τ8 τ7)]) (.seq (.cond τ9 .skip (.exit 0)) (.seq (.block 1 (.seq (.reg [oD 10 (.idxAL 1 τ6 τ8),oD 11 (.load1 (.int .i64) Xb9),oM 5 Xb5]) (.reg [oM 12 τ3,oM 13 τ5,oD 14 (.callF 11 [XcP,XcQ]),oM 3 Xde]))) (.reg [oD 15 (.bin .add τ8 (.const (.int .i64 1))),oM 8 Xdb]))))))) (.seq (.reg [oM 16 τ3,oM 2 Xdh]) .ret)))
def fn12:VFn:=⟨17,XKt,[.tmp 2]⟩
def k10_3:VC:=.seq (.reg [oD 6 (.mv (.const (.bool false)))]) (.seq (.reg [oM 7 τ0,oD 8 (.lenS τ7),oM 9 τ1,oM 10 τ2,oD 11 (.callF 8 [τ9,Xb9]),oD 12 (.bin .leq τ8 Xb5),oM 6 XcP]) .ret)
def fn10:VFn:=⟨13,k10_3,[.tmp 6]⟩
def k6_19:VC:=.regD [oM 32 τ1,oM 33 τ2,oD 34 (.callF 8 [Xfn,Xfl]),oM 35 τ0,oD 36 (.fieldA 1 Xb9),oD 37 (.fieldA 0 XfI),oD 38 (.load1 .bool Xfk),oD 39 (.callF 24 [XgG]),oD 40 (.sliceS Xfv none (some XgD)),oD 41 (.build [(.int .i64 0),(.int .i64 0),(.int .i64 0),(.string ⟨⟨[]⟩⟩)] [(0,1,(.const (.int .i64 2))),(1,1,(.const (.int .i64 4))),(2,1,Xfu),(3,1,Xhj)]),oD 11 (.alloc [(.int .i64 0),(.int .i64 0),(.int .i64 0),(.string ⟨⟨[]⟩⟩)])] [(2,6),(2,10),(6,10),(7,10)] [oN (.store 4 Xb5 Xhg)]
def k6_31:VC:=.seq (.reg [oD 6 (.mv (.const (.string ⟨⟨[]⟩⟩))),oD 7 (.mv (.const (.int .i64 0)))]) (.seq (.reg [oM 13 τ0,oD 14 (.callF 22 [XcQ]),oM 12 Xde,oE 15 0 XcP,oE 16 1 XcP,oD 8 (.alloc [(.int .i64 0),(.bool false),(.int .u64 0),(.int .u64 0),(.bool false),(.int .u64 0),(.int .u64 0),(.int .i64 0),(.int .i64 0),(.int .i64 0),(.bool false),(.int .u32 0),(.int .u32 0),(.bool false),(.string ⟨⟨[]⟩⟩),(.int .i64 0)]),oN (.store 16 τ8 Xdb),oM 9 Xdh]) (.seq (.block 0 (.seq (.reg [oM 18 τ9,oD 19 (.bin .neq XdK (.const (.int .i64 0))),oM 17 Xdz]) (.cond Xda (.seq (.reg [oM 20 τ9,oD 6 (.mv (.const (.string ⟨⟨[]⟩⟩))),oM 7 Xd0]) .ret) (.seq (.reg [oM 22 τ0,oM 23 τ1,oM 24 τ2,oD 25 (.callF 10 [Xeu,XeH,Xel]),oM 21 XeM]) (.cond Xd4 (.seq (.reg [oD 6 (.mv (.const (.string ⟨⟨[]⟩⟩))),oD 7 (.mv (.const (.int .i64 11)))]) .ret) (.seq (.reg [oM 27 τ1,oD 28 (.callF 23 [XeJ]),oD 29 (.not XeC),oM 26 XeP]) (.cond Xef (.seq (.reg [oD 6 (.mv (.const (.string ⟨⟨[]⟩⟩))),oD 7 (.mv (.const (.int .i64 1)))]) .ret) .skip))))))) (.seq (.reg [oD 30 (.fieldA 0 τ8),oD 31 (.loadN [(.int .i64),.bool,(.int .u64),(.int .u64),.bool,(.int .u64),(.int .u64),(.int .i64),(.int .i64)] Xfi),oD 10 (.alloc [(.int .i64 0),(.bool false),(.int .u64 0),(.int .u64 0),(.bool false),(.int .u64 0),(.int .u64 0),(.int .i64 0),(.int .i64 0)]),oN (.store 9 Xb9 Xfc)]) (.seq k6_19 (.seq (.seq (.reg [oD 42 (.fieldA 1 Xb9),oD 43 (.fieldA 0 Xhh),oD 44 (.load1 .bool Xhn)]) (.cond XhU (.reg [oD 45 (.fieldA 1 Xb5),oN (.store 1 XhB (.const (.int .i64 0)))]) .skip)) (.seq (.reg [oD 46 (.loadN [(.int .i64),(.int .i64),(.int .i64),.str] Xb5),oD 47 (.fieldA 4 Xb9),oD 48 (.loadN [.bool,(.int .u64),(.int .u64)] Xh1),oD 49 (.fieldA 1 Xb9),oD 50 (.loadN [.bool,(.int .u64),(.int .u64)] Xiy),oD 51 (.callF 25 [Xh6,Xiz,XiB]),oE 52 0 XiC,oE 53 1 XiC,oM 6 XjH,oM 7 XjL]) .ret))))))
def fn6:VFn:=⟨54,k6_31,[.tmp 6,.tmp 7]⟩
def XHW:VC:=.seq (.reg [oD 2 (.alloc [(.int .i64 0),(.bool false),(.int .u64 0),(.int .u64 0),(.bool false),(.int .u64 0),(.int .u64 0),(.int .i64 0),(.int .i64 0),(.int .i64 0),(.bool false),(.int .u32 0),(.int .u32 0),(.bool false),(.string ⟨⟨[]⟩⟩),(.int .i64 0)]),oD 3 (.mv (.const (.int .i64 0)))]) (.seq (.reg [oM 9 τ0,oD 10 (.callF 46 [τ9]),oM 8 Xb9,oE 11 0 τ8,oE 12 1 τ8,oE 13 2 τ8,oE 14 3 τ8,oD 4 (.alloc [(.int .i64 0),(.bool false),(.int .u64 0),(.int .u64 0),(.bool false),(.int .u64 0),(.int .u64 0),(.int .i64 0),(.int .i64 0),(.int .i64 0),(.bool false),(.int .u32 0),(.int .u32 0),(.bool false),(.string ⟨⟨[]⟩⟩),(.int .i64 0)]),oN (.store 16 τ4 Xb5),oM 5 XcP,oM 6 XcQ,oM 7 Xde]) (.seq (.reg [oD 15 (.loadN [(.int .i64),.bool,(.int .u64),(.int .u64),.bool,(.int .u64),(.int .u64),(.int .i64),(.int .i64),(.int .i64),.bool,(.int .u32),(.int .u32),.bool,.str,(.int .i64)] τ4),oM 16 τ7,oN (.store 16 τ2 Xdb),oM 3 Xdh]) .ret))
def fn22:VFn:=⟨17,XHW,[.cell 2 [(.int .i64),.bool,(.int .u64),(.int .u64),.bool,(.int .u64),(.int .u64),(.int .i64),(.int .i64),(.int .i64),.bool,(.int .u32),(.int .u32),.bool,.str,(.int .i64)] true,.tmp 3]⟩
def XG6:VC:=.regD [oD 58 (.loadN [(.int .i64),.bool,(.int .u64),(.int .u64),.bool,(.int .u64),(.int .u64),(.int .i64),(.int .i64),(.int .i64),.bool,(.int .u32),(.int .u32),.bool,.str,(.int .i64)] τ8),oD 59 (.fieldA 7 τ6),oD 60 (.load1 .str Xlu),oD 61 (.lenS XlS),oM 62 τ9,oN (.store 16 τ2 XkY),oM 3 Xl7] [(2,5)] [oM 4 Xm9,oD 5 (.mv (.const (.int .i64 0)))]
def Xz9:VC:=.seq (.reg [oD 2 (.alloc [(.int .i64 0),(.bool false),(.int .u64 0),(.int .u64 0),(.bool false),(.int .u64 0),(.int .u64 0),(.int .i64 0),(.int .i64 0),(.int .i64 0),(.bool false),(.int .u32 0),(.int .u32 0),(.bool false),(.string ⟨⟨[]⟩⟩),(.int .i64 0)]),oD 3 (.mv (.const (.int .i64 0))),oD 4 (.mv (.const (.int .i64 0))),oD 5 (.mv (.const (.int .i64 0)))]) (.seq (.block 0 (.seq (.reg [oM 11 τ0,oD 12 (.lenS Xb5),oD 13 (.bin .gtr XcP (.const (.int .i64 9000))),oM 10 XcQ]) (.cond Xb9 (.seq (.reg [oD 14 (.build [(.int .i64 0),(.bool false),(.int .u64 0),(.int .u64 0),(.bool false),(.int .u64 0),(.int .u64 0),(.int .i64 0),(.int .i64 0),(.int .i64 0),(.bool false),(.int .u32 0),(.int .u32 0),(.bool false),(.string ⟨⟨[]⟩⟩),(.int .i64 0)] []),oN (.store 16 τ2 Xde),oD 3 (.mv (.const (.int .i64 0))),oD 4 (.mv (.const (.int .i64 0))),oD 5 (.mv (.const (.int .i64 5)))]) .ret) (.seq (.reg [oM 16 τ0,oD 17 (.bin .eql Xdh (.const (.string ⟨⟨[]⟩⟩))),oM 15 Xda]) (.cond Xdb (.seq (.reg [oD 18 (.build [(.int .i64 0),(.bool false),(.int .u64 0),(.int .u64 0),(.bool false),(.int .u64 0),(.int .u64 0),(.int .i64 0),(.int .i64 0),(.int .i64 0),(.bool false),(.int .u32 0),(.int .u32 0),(.bool false),(.string ⟨⟨[]⟩⟩),(.int .i64 0)] []),oN (.store 16 τ2 XdK),oD 3 (.mv (.const (.int .i64 0))),oD 4 (.mv (.const (.int .i64 0))),oD 5 (.mv (.const (.int .i64 2)))]) .ret) .skip))))) (.seq (.reg [oM 20 τ0,oD 21 (.callF 71 [Xd0]),oM 19 Xd4,oE 22 0 Xdz,oE 23 1 Xdz,oD 6 (.alloc [(.bool false),(.int .u64 0),(.int .u64 0),(.bool false),(.int .u64 0),(.int .u64 0),(.int .i64 0),(.string ⟨⟨[]⟩⟩)]),oN (.store 8 τ6 Xeu),oM 7 XeH]) (.seq (.seq (.reg [oM 24 τ7,oD 25 (.bin .neq Xel (.const (.int .i64 0)))]) (.cond XeM (.seq (.reg [oD 26 (.build [(.int .i64 0),(.bool false),(.int .u64 0),(.int .u64 0),(.bool false),(.int .u64 0),(.int .u64 0),(.int .i64 0),(.int .i64 0),(.int .i64 0),(.bool false),(.int .u32 0),(.int .u32 0),(.bool false),(.string ⟨⟨[]⟩⟩),(.int .i64 0)] []),oM 27 τ7,oN (.store 16 τ2 Xef),oD 3 (.mv (.const (.int .i64 0))),oD 4 (.mv (.const (.int .i64 0))),oM 5 XeJ]) .ret) .skip)) (.seq (.reg [oM 28 τ0,oD 29 (.lenS XeC),oD 30 (.fieldA 6 τ6),oD 31 (.load1 (.int .i64) Xfi),oD 32 (.fieldA 0 τ6),oD 33 (.loadN [.bool,(.int .u64),(.int .u64)] Xfn),oD 34 (.fieldA 3 τ6),oD 35 (.loadN [.bool,(.int .u64),(.int .u64)] Xfu),oD 36 (.build [(.int .i64 0),(.bool false),(.int .u64 0),(.int .u64 0),(.bool false),(.int .u64 0),(.int .u64 0),(.int .i64 0),(.int .i64 0)] [(0,1,Xfc),(1,3,Xfl),(4,3,Xfv)]),oD 37 (.build [(.int .i64 0),(.bool false),(.int .u64 0),(.int .u64 0),(.bool false),(.int .u64 0),(.int .u64 0),(.int .i64 0),(.int .i64 0),(.int .i64 0),(.bool false),(.int .u32 0),(.int .u32 0),(.bool false),(.string ⟨⟨[]⟩⟩),(.int .i64 0)] [(15,1,XeP),(0,9,XfI)]),oD 8 (.alloc [(.int .i64 0),(.bool false),(.int .u64 0),(.int .u64 0),(.bool false),(.int .u64 0),(.int .u64 0),(.int .i64 0),(.int .i64 0),(.int .i64 0),(.bool false),(.int .u32 0),(.int .u32 0),(.bool false),(.string ⟨⟨[]⟩⟩),(.int .i64 0)]),oN (.store 16 τ8 Xfk)]) (.seq (.reg [oD 9 (.mv (.const (.int .i64 0)))]) (.seq (.seq (.reg [oD 38 (.fieldA 6 τ6),oD 39 (.load1 (.int .i64) XgG)]) (.block 1 (.seq (.reg [oD 41 (.bin .eql XgD (.const (.int .i64 6))),oM 40 Xhg]) (.cond Xhj (.reg [oD 43 (.loadN [.bool,(.int .u64),(.int .u64),.bool,(.int .u64),(.int .u64),(.int .i64),.str] τ6),oD 44 (.callF 72 [Xhn,τ8]),oM 42 XhU,oE 45 0 Xhh,oE 46 1 Xhh,oM 9 XhB,oM 7 Xh6]) (.seq (.reg [oD 48 (.bin .eql XgD (.const (.int .i64 17))),oM 47 Xiz]) (.cond Xh1 (.reg [oD 50 (.loadN [.bool,(.int .u64),(.int .u64),.bool,(.int .u64),(.int .u64),(.int .i64),.str] τ6),oD 51 (.callF 73 [XiB,τ8]),oM 49 XiC,oE 52 0 Xiy,oE 53 1 Xiy,oM 9 XjH,oM 7 XjL]) (.reg [oD 7 (.mv (.const (.int .i64 6)))]))))))) (.seq (.seq (.reg [oM 54 τ7,oD 55 (.bin .neq XkZ (.const (.int .i64 0)))]) (.cond Xk2 (.seq (.reg [oD 56 (.build [(.int .i64 0),(.bool false),(.int .u64 0),(.int .u64 0),(.bool false),(.int .u64 0),(.int .u64 0),(.int .i64 0),(.int .i64 0),(.int .i64 0),(.bool false),(.int .u32 0),(.int .u32 0),(.bool false),(.string ⟨⟨[]⟩⟩),(.int .i64 0)] []),oM 57 τ7,oN (.store 16 τ2 Xls),oD 3 (.mv (.const (.int .i64 0))),oD 4 (.mv (.const (.int .i64 0))),oM 5 Xks]) .ret) .skip)) (.seq XG6 .ret))))))))
def fn46:VFn:=⟨63,Xz9,[.cell 2 [(.int .i64),.bool,(.int .u64),(.int .u64),.bool,(.int .u64),(.int .u64),(.int .i64),(.int .i64),(.int .i64),.bool,(.int .u32),(.int .u32),.bool,.str,(.int .i64)] true,.tmp 3,.tmp 4,.tmp 5]⟩
def Xz5:VC:=.seq (.reg [oD 2 (.alloc [(.bool false),(.int .u64 0),(.int .u64 0),(.bool false),(.int .u64 0),(.int .u64 0),(.int .i64 0),(.string ⟨⟨[]⟩⟩)]),oD 3 (.mv (.const (.int .i64 0)))]) (.seq (.reg [oM 10 τ0,oD 11 (.callF 106 [Xb9]),oM 9 Xb5,oE 12 0 τ9,oE 13 1 τ9,oE 14 2 τ9,oM 4 XcP,oM 5 XcQ,oM 6 Xde]) (.seq (.seq (.reg [oM 15 τ6,oD 16 (.bin .neq Xdb (.const (.int .i64 0)))]) (.cond Xdh (.seq (.reg [oD 17 (.build [(.bool false),(.int .u64 0),(.int .u64 0),(.bool false),(.int .u64 0),(.int .u64 0),(.int .i64 0),(.string ⟨⟨[]⟩⟩)] []),oM 18 τ6,oN (.store 8 τ2 Xda),oM 3 XdK]) .ret) .skip)) (.seq (.seq (.reg [oM 19 τ4]) (.block 0 (.seq (.reg [oD 20 (.tassert 88 (.agg ⟨[(.int .i64 0),(.int .i64 0),(.bool false),(.int .i64 0),(.int .i64 0),(.bool false),(.int .u64 0),(.int .u64 0),(.bool false),(.int .u64 0),(.int .u64 0),(.string ⟨⟨[]⟩⟩)]⟩) Xdz),oE 21 1 Xd0,oE 22 0 Xd0]) (.cond Xd4 (.seq (.reg [oD 7 (.alloc [(.int .i64 0),(.int .i64 0),(.bool false),(.int .i64 0),(.int .i64 0),(.bool false),(.int .u64 0),(.int .u64 0),(.bool false),(.int .u64 0),(.int .u64 0),(.string ⟨⟨[]⟩⟩)]),oN (.store 12 τ7 Xeu)]) (.seq (.seq (.reg [oM 23 τ0,oD 24 (.lenS XeH),oD 25 (.fieldA 11 τ7),oD 26 (.load1 .str XeM),oD 27 (.lenS Xef),oD 28 (.bin .add (.const (.int .i64 20)) XeJ),oM 29 τ5,oD 30 (.lenS XeP),oD 31 (.bin .add XeC Xfi),oD 32 (.bin .neq Xel Xfc)]) (.cond Xfn (.seq (.reg [oD 33 (.build [(.bool false),(.int .u64 0),(.int .u64 0),(.bool false),(.int .u64 0),(.int .u64 0),(.int .i64 0),(.string ⟨⟨[]⟩⟩)] []),oN (.store 8 τ2 Xfl),oD 3 (.mv (.const (.int .i64 5)))]) .ret) .skip)) (.seq (.reg [oD 34 (.fieldA 5 τ7),oD 35 (.loadN [.bool,(.int .u64),(.int .u64)] Xfu),oD 36 (.fieldA 8 τ7),oD 37 (.loadN [.bool,(.int .u64),(.int .u64)] XfI),oD 38 (.fieldA 4 τ7),oD 39 (.load1 (.int .i64) XgG),oM 40 τ5,oD 41 (.build [(.bool false),(.int .u64 0),(.int .u64 0),(.bool false),(.int .u64 0),(.int .u64 0),(.int .i64 0),(.string ⟨⟨[]⟩⟩)] [(0,3,Xfv),(3,3,Xfk),(6,1,XgD),(7,1,Xhj)]),oN (.store 8 τ2 Xhg),oD 3 (.mv (.const (.int .i64 0)))]) .ret))) (.seq (.reg [oD 42 (.tassert 85 (.agg ⟨[(.int .i64 0),(.int .i64 0),(.int .i64 0),(.int .i64 0),(.bool false),(.int .u64 0),(.int .u64 0),(.bool false),(.int .u64 0),(.int .u64 0)]⟩) Xdz),oE 43 1 Xhh,oE 44 0 Xhh]) (.cond Xhn (.seq (.reg [oD 8 (.alloc [(.int .i64 0),(.int .i64 0),(.int .i64 0),(.int .i64 0),(.bool false),(.int .u64 0),(.int .u64 0),(.bool false),(.int .u64 0),(.int .u64 0)]),oN (.store 10 τ8 XhU)]) (.seq (.seq (.reg [oM 45 τ0,oD 46 (.lenS XhB),oM 47 τ5,oD 48 (.lenS Xh1),oD 49 (.bin .add (.const (.int .i64 40)) Xiz),oD 50 (.bin .neq Xh6 Xiy)]) (.cond XiB (.seq (.reg [oD 51 (.build [(.bool false),(.int .u64 0),(.int .u64 0),(.bool false),(.int .u64 0),(.int .u64 0),(.int .i64 0),(.string ⟨⟨[]⟩⟩)] []),oN (.store 8 τ2 XiC),oD 3 (.mv (.const (.int .i64 5)))]) .ret) .skip)) (.seq (.reg [oD 52 (.fieldA 4 τ8),oD 53 (.loadN [.bool,(.int .u64),(.int .u64)] XjH),oD 54 (.fieldA 7 τ8),oD 55 (.loadN [.bool,(.int .u64),(.int .u64)] XkZ),oD 56 (.fieldA 2 τ8),oD 57 (.load1 (.int .i64) Xls),oM 58 τ5,oD 59 (.build [(.bool false),(.int .u64 0),(.int .u64 0),(.bool false),(.int .u64 0),(.int .u64 0),(.int .i64 0),(.string ⟨⟨[]⟩⟩)] [(0,3,XjL),(3,3,Xk2),(6,1,Xks),(7,1,XkY)]),oN (.store 8 τ2 Xlu),oD 3 (.mv (.const (.int .i64 0)))]) .ret))) .skip)))))) (.seq (.reg [oD 60 (.build [(.bool false),(.int .u64 0),(.int .u64 0),(.bool false),(.int .u64 0),(.int .u64 0),(.int .i64 0),(.string ⟨⟨[]⟩⟩)] []),oN (.store 8 τ2 XlS),oD 3 (.mv (.const (.int .i64 3)))]) .ret))))
def fn71:VFn:=⟨61,Xz5,[.cell 2 [.bool,(.int .u64),(.int .u64),.bool,(.int .u64),(.int .u64),(.int .i64),.str] true,.tmp 3]⟩
def XEi:VC:=.seq (.reg [oM 2 (.const .nilIface),oD 3 (.mv (.const (.string ⟨⟨[]⟩⟩))),oD 4 (.mv (.const (.int .i64 0)))]) (.seq (.seq (.reg [oM 11 τ0,oD 12 (.idxS Xb5 (.const (.int .i64 0))),oD 13 (.bin .shr XcP (.const (.int .u64 4)))]) (.block 0 (.seq (.reg [oD 15 (.bin .eql XcQ (.const (.int .u8 4))),oM 14 Xdb]) (.cond Xde (.seq (.reg [oM 17 τ0,oD 18 (.callF 129 [Xda]),oM 16 XdK,oE 19 0 Xdh,oE 20 1 Xdh,oE 21 2 Xdh,oD 5 (.alloc [(.int .i64 0),(.int .i64 0),(.bool false),(.int .i64 0),(.int .i64 0),(.bool false),(.int .u64 0),(.int .u64 0),(.bool false),(.int .u64 0),(.int .u64 0),(.string ⟨⟨[]⟩⟩)]),oN (.store 12 τ5 Xdz),oM 6 Xd0,oM 7 Xd4]) (.seq (.reg [oD 22 (.loadN [(.int .i64),(.int .i64),.bool,(.int .i64),(.int .i64),.bool,(.int .u64),(.int .u64),.bool,(.int .u64),(.int .u64),.str] τ5),oD 23 (.iface 88 Xeu),oM 24 τ6,oM 25 τ7,oM 2 XeH,oM 3 Xel,oM 4 XeM]) .ret)) (.seq (.reg [oD 27 (.bin .eql XcQ (.const (.int .u8 6))),oM 26 XeJ]) (.cond Xef (.seq (.reg [oM 29 τ0,oD 30 (.callF 130 [XeP]),oM 28 Xfi,oE 31 0 XeC,oE 32 1 XeC,oE 33 2 XeC,oD 8 (.alloc [(.int .i64 0),(.int .i64 0),(.int .i64 0),(.int .i64 0),(.bool false),(.int .u64 0),(.int .u64 0),(.bool false),(.int .u64 0),(.int .u64 0)]),oN (.store 10 τ8 Xfc),oM 9 Xfn,oM 10 Xfl]) (.seq (.reg [oD 34 (.loadN [(.int .i64),(.int .i64),(.int .i64),(.int .i64),.bool,(.int .u64),(.int .u64),.bool,(.int .u64),(.int .u64)] τ8),oD 35 (.iface 85 Xfu),oM 36 τ9,oM 37 Xb9,oM 2 Xfv,oM 3 XfI,oM 4 Xfk]) .ret)) .skip)))))) (.seq (.reg [oM 2 (.const .nilIface),oD 3 (.mv (.const (.string ⟨⟨[]⟩⟩))),oD 4 (.mv (.const (.int .i64 3)))]) .ret))
def XLk:VFn:=⟨38,XEi,[.tmp 2,.tmp 3,.tmp 4]⟩
def XET:VC:=.regD [oD 72 (.fieldA 0 τ5),oD 73 (.load1 .oth Xrb),oD 74 (.callF 62 [Xsk,(.const (.int .i64 1))]),oD 75 (.fieldA 0 τ5),oD 76 (.load1 .oth XtG),oD 77 (.callF 62 [XwI,(.const (.int .i64 1))]),oD 78 (.fieldA 3 τ7)] [(2,4)] [oN (.store 1 Xwp XuK),oD 79 (.fieldA 4 τ7),oN (.store 1 Xyx XvM)]
def XCz:VC:=.regD [oD 83 (.loadN [.oth] τ5),oD 84 (.callF 134 [XwK]),oD 85 (.loadN [.oth] τ5),oD 86 (.callF 134 [XC4]),oD 87 (.fieldA 5 τ7)] [(1,2)] [oN (.store 3 XCb XBN),oD 88 (.fieldA 8 τ7),oN (.store 3 XFr XCE)]
def XFD:VC:=.regD [oD 95 (.loadN [(.int .i64),(.int .i64),.bool,(.int .i64),(.int .i64),.bool,(.int .u64),(.int .u64),.bool,(.int .u64),(.int .u64),.str] τ7),oD 96 (.fieldA 0 τ5),oD 97 (.load1 .oth XES),oM 98 τ9,oM 99 τ8,oD 100 (.bin .sub τ98 τ99),oD 101 (.callF 64 [XGo,XCD])] [(0,6)] [oN (.store 12 τ2 XC6),oM 3 XFf,oD 4 (.mv (.const (.int .i64 0)))]
def Xu3:VC:=.seq (.reg [oD 2 (.alloc [(.int .i64 0),(.int .i64 0),(.bool false),(.int .i64 0),(.int .i64 0),(.bool false),(.int .u64 0),(.int .u64 0),(.bool false),(.int .u64 0),(.int .u64 0),(.string ⟨⟨[]⟩⟩)]),oD 3 (.mv (.const (.string ⟨⟨[]⟩⟩))),oD 4 (.mv (.const (.int .i64 0)))]) (.seq (.seq (.reg [oM 11 τ0,oD 12 (.lenS Xb5),oD 13 (.bin .lss XcP (.const (.int .i64 20)))]) (.cond XcQ (.seq (.reg [oD 14 (.build [(.int .i64 0),(.int .i64 0),(.bool false),(.int .i64 0),(.int .i64 0),(.bool false),(.int .u64 0),(.int .u64 0),(.bool false),(.int .u64 0),(.int .u64 0),(.string ⟨⟨[]⟩⟩)] []),oN (.store 12 τ2 Xde),oD 3 (.mv (.const (.string ⟨⟨[]⟩⟩))),oD 4 (.mv (.const (.int .i64 2)))]) .ret) .skip)) (.seq (.reg [oM 15 τ0,oD 16 (.callF 61 [Xdb]),oD 17 (.build [(.pointer none)] [(0,1,Xdh)]),oD 5 (.alloc [(.pointer none)]),oN (.store 1 τ5 Xda)]) (.seq (.reg [oD 18 (.fieldA 0 τ5),oD 19 (.load1 .oth XdK),oD 20 (.callF 62 [Xdz,(.const (.int .i64 1))]),oM 6 Xd0]) (.seq (.reg [oD 21 (.fieldA 0 τ5),oD 22 (.load1 .oth Xd4),oD 23 (.callF 62 [Xeu,(.const (.int .i64 1))]),oD 24 (.build [(.int .i64 0),(.int .i64 0),(.bool false),(.int .i64 0),(.int .i64 0),(.bool false),(.int .u64 0),(.int .u64 0),(.bool false),(.int .u64 0),(.int .u64 0),(.string ⟨⟨[]⟩⟩)] [(0,1,XeH)]),oD 7 (.alloc [(.int .i64 0),(.int .i64 0),(.bool false),(.int .i64 0),(.int .i64 0),(.bool false),(.int .u64 0),(.int .u64 0),(.bool false),(.int .u64 0),(.int .u64 0),(.string ⟨⟨[]⟩⟩)]),oN (.store 12 τ7 Xel)]) (.seq (.reg [oM 25 τ6,oD 26 (.bin .and XeM (.const (.int .i64 15))),oD 27 (.bin .mul Xef (.const (.int .i64 4))),oD 28 (.fieldA 0 τ5),oD 29 (.load1 .oth XeC),oD 30 (.callF 62 [XeP,(.const (.int .i64 2))]),oM 8 XeJ,oM 9 Xfi]) (.seq (.block 0 (.seq (.reg [oM 32 τ6,oD 33 (.bin .shr Xfn (.const (.int .u64 4))),oD 34 (.bin .neq Xfl (.const (.int .i64 4))),oM 35 Xfu,oG 36 (.mv τ8) 35 false,oG 37 (.bin .lss XfI (.const (.int .i64 20))) 35 false,oD 38 (.pick Xfv (.const (.bool true)) Xfk),oM 39 XgG,oG 40 (.mv τ9) 39 false,oG 41 (.mv τ8) 39 false,oG 42 (.bin .lss Xhj Xhg) 39 false,oD 43 (.pick XgD (.const (.bool true)) Xhh),oM 31 Xhn]) (.cond Xfc (.seq (.reg [oD 44 (.build [(.int .i64 0),(.int .i64 0),(.bool false),(.int .i64 0),(.int .i64 0),(.bool false),(.int .u64 0),(.int .u64 0),(.bool false),(.int .u64 0),(.int .u64 0),(.string ⟨⟨[]⟩⟩)] []),oN (.store 12 τ2 XhU),oD 3 (.mv (.const (.string ⟨⟨[]⟩⟩))),oD 4 (.mv (.const (.int .i64 3)))]) .ret) (.seq (.reg [oM 46 τ9,oM 47 τ0,oD 48 (.lenS Xh1),oD 49 (.bin .gtr Xh6 Xiz),oM 45 Xiy]) (.cond XhB (.seq (.reg [oD 50 (.build [(.int .i64 0),(.int .i64 0),(.bool false),(.int .i64 0),(.int .i64 0),(.bool false),(.int .u64 0),(.int .u64 0),(.bool false),(.int .u64 0),(.int .u64 0),(.string ⟨⟨[]⟩⟩)] []),oN (.store 12 τ2 XiB),oD 3 (.mv (.const (.string ⟨⟨[]⟩⟩))),oD 4 (.mv (.const (.int .i64 2)))]) .ret) (.seq (.reg [oM 52 τ0,oM 53 τ8,oD 54 (.sliceS XjH none (some XjL)),oD 55 (.callF 131 [XkZ]),oD 56 (.not Xk2),oM 51 Xls]) (.cond XiC (.seq (.reg [oD 57 (.build [(.int .i64 0),(.int .i64 0),(.bool false),(.int .i64 0),(.int .i64 0),(.bool false),(.int .u64 0),(.int .u64 0),(.bool false),(.int .u64 0),(.int .u64 0),(.string ⟨⟨[]⟩⟩)] []),oN (.store 12 τ2 Xks),oD 3 (.mv (.const (.string ⟨⟨[]⟩⟩))),oD 4 (.mv (.const (.int .i64 4)))]) .ret) .skip))))))) (.seq (.reg [oD 58 (.fieldA 0 τ5),oD 59 (.load1 .oth XkY),oD 60 (.callF 62 [Xlu,(.const (.int .i64 2))]),oD 61 (.fieldA 1 τ7),oN (.store 1 Xl7 XlS)]) (.seq (.reg [oD 62 (.fieldA 0 τ5),oD 63 (.load1 .oth Xm9),oD 64 (.callF 62 [XoC,(.const (.int .i64 2))]),oM 10 Xn2]) (.seq (.seq (.reg [oM 65 Xb9,oD 66 (.bin .andNot XoQ (.const (.int .i64 16384))),oD 67 (.bin .neq XpY (.const (.int .i64 0)))]) (.cond XoS (.seq (.reg [oD 68 (.build [(.int .i64 0),(.int .i64 0),(.bool false),(.int .i64 0),(.int .i64 0),(.bool false),(.int .u64 0),(.int .u64 0),(.bool false),(.int .u64 0),(.int .u64 0),(.string ⟨⟨[]⟩⟩)] []),oN (.store 12 τ2 XpR),oD 3 (.mv (.const (.string ⟨⟨[]⟩⟩))),oD 4 (.mv (.const (.int .i64 7)))]) .ret) .skip)) (.seq (.reg [oM 69 Xb9,oD 70 (.bin .neq XoV (.const (.int .i64 0))),oD 71 (.fieldA 2 τ7),oN (.store 1 XrA Xrd)]) (.seq XET (.seq (.reg [oD 80 (.fieldA 0 τ5),oD 81 (.load1 .oth Xwx),oD 82 (.callF 62 [XxV,(.const (.int .i64 2))])]) (.seq XCz (.seq (.reg [oD 89 (.fieldA 0 τ5),oD 90 (.load1 .oth XA2),oM 91 τ8,oD 92 (.bin .sub XCj (.const (.int .i64 20))),oD 93 (.callF 64 [XEF,XFV]),oD 94 (.fieldA 11 τ7),oN (.store 1 XDa XF6)]) (.seq XFD .ret)))))))))))))))
def XH9:VFn:=⟨102,Xu3,[.cell 2 [(.int .i64),(.int .i64),.bool,(.int .i64),(.int .i64),.bool,(.int .u64),(.int .u64),.bool,(.int .u64),(.int .u64),.str] true,.tmp 3,.tmp 4]⟩
def XIX:VC:=.seq (.reg [oD 2 (.mv (.const (.pointer none)))]) (.seq (.reg [oM 3 τ0,oD 4 (.build [(.string ⟨⟨[]⟩⟩),(.bool false),(.bool false)] [(0,1,τ3),(1,1,(.const (.bool true)))]),oD 5 (.box τ4),oM 2 τ5]) .ret)
def fn61:VFn:=⟨6,XIX,[.tmp 2]⟩
def XAz:VC:=.seq (.reg [oD 4 (.mv (.const (.int .i64 0)))]) (.seq (.seq (.reg [oM 7 τ1,oD 8 (.bin .lss τ7 (.const (.int .i64 1))),oM 9 τ8,oG 10 (.mv τ1) 9 false,oG 11 (.bin .gtr Xb9 (.const (.int .i64 7))) 9 false,oD 12 (.pick τ9 (.const (.bool true)) Xb5)]) (.cond XcP (.reg [oD 1 (.mv (.const (.int .i64 (-1))))]) .skip)) (.seq (.reg [oM 14 τ0,oM 15 τ1,oD 16 (.callF 64 [Xde,Xdb]),oM 17 τ1,oD 18 (.callF 40 [Xdh,(.const (.int .i64 0)),Xda]),oM 13 XdK,oE 19 0 XcQ,oE 20 1 XcQ,oM 5 Xdz,oM 6 Xd0]) (.seq (.reg [oM 21 τ5,oD 22 (.conv .i64 Xd4),oM 4 Xeu]) .ret)))
def fn62:VFn:=⟨23,XAz,[.tmp 4]⟩
def Xzv:VC:=.seq (.reg [oD 4 (.mv (.const (.string ⟨⟨[]⟩⟩)))]) (.seq (.seq (.reg [oM 6 τ0,oD 7 (.callF 63 [τ6])]) (.cond τ7 (.seq (.reg [oD 4 (.mv (.const (.string ⟨⟨[]⟩⟩)))]) .ret) .skip)) (.seq (.seq (.reg [oM 8 τ1,oD 9 (.bin .lss τ8 (.const (.int .i64 0))),oM 10 τ9,oG 11 (.mv τ1) 10 false,oG 12 (.mv τ0) 10 false,oG 13 (.nilCheck XcP) 10 false,oG 14 (.fieldA 0 XcQ) 10 false,oG 15 (.load1 .str Xde) 10 false,oG 16 (.lenS Xdb) 10 false,oG 17 (.bin .gtr Xb5 Xdh) 10 false,oD 18 (.pick Xb9 (.const (.bool true)) Xda)]) (.cond XdK (.seq (.reg [oM 19 τ0,oD 20 (.nilCheck Xdz),oD 21 (.fieldA 2 Xd0),oN (.store 1 Xd4 (.const (.bool true)))]) (.seq (.reg [oD 4 (.mv (.const (.string ⟨⟨[]⟩⟩)))]) .ret)) .skip)) (.seq (.reg [oM 22 τ0,oD 23 (.nilCheck Xeu),oD 24 (.fieldA 0 XeH),oD 25 (.load1 .str Xel),oM 26 τ1,oD 27 (.sliceS XeM none (some Xef)),oM 5 XeJ]) (.seq (.reg [oM 28 τ0,oM 29 τ0,oD 30 (.nilCheck XeP),oD 31 (.fieldA 0 Xfi),oD 32 (.load1 .str Xfc),oM 33 τ1,oD 34 (.sliceS Xfn (some Xfl) none),oD 35 (.nilCheck XeC),oD 36 (.fieldA 0 Xfv),oN (.store 1 XfI Xfu)]) (.seq (.reg [oM 37 τ5,oM 4 Xfk]) .ret)))))
def fn64:VFn:=⟨38,Xzv,[.tmp 4]⟩
def XH4:VC:=.seq (.reg [oD 2 (.mv (.const (.bool false)))]) (.seq (.reg [oM 3 τ0,oD 4 (.isNil 0 false τ3),oM 5 τ4,oG 6 (.mv τ0) 5 false,oG 7 (.nilCheck τ6) 5 false,oG 8 (.fieldA 1 τ7) 5 false,oG 9 (.load1 .bool τ8) 5 false,oG 10 (.not τ9) 5 false,oD 11 (.pick τ5 (.const (.bool true)) Xb9),oM 12 Xb5,oG 13 (.mv τ0) 12 false,oG 14 (.nilCheck XcQ) 12 false,oG 15 (.fieldA 2 Xde) 12 false,oG 16 (.load1 .bool Xdb) 12 false,oD 17 (.pick XcP (.const (.bool true)) Xdh),oM 2 Xda]) .ret)
def fn63:VFn:=⟨18,XH4,[.tmp 2]⟩
def Xt0:VC:=.seq (.reg [oD 38 (.bin .lss Xfk XfI)]) (.seq (.cond XgG .skip (.exit 0)) (.seq (.block 1 (.seq (.reg [oD 39 (.idxAL 1 Xfv Xfk),oD 40 (.load1 (.int .u8) XgD),oM 10 Xhj]) (.reg [oM 41 τ8,oD 42 (.bin .shl Xhg (.const (.int .u64 8))),oM 43 Xb9,oD 44 (.conv .u64 Xhn),oD 45 (.bin .or Xhh XhU),oM 8 XhB]))) (.reg [oD 46 (.bin .add Xfk (.const (.int .i64 1))),oM 37 Xh6])))
def XAg:VC:=.seq (.reg [oM 47 τ8,oM 6 Xh1,oD 7 (.mv (.const (.bool true)))]) .ret
def XAm:VC:=.seq (.reg [oD 6 (.mv (.const (.int .u64 0))),oD 7 (.mv (.const (.bool false)))]) (.seq (.seq (.reg [oM 11 τ2,oD 12 (.bin .lss Xb5 (.const (.int .i64 1))),oM 13 XcP,oG 14 (.mv τ2) 13 false,oG 15 (.bin .gtr Xde (.const (.int .i64 8))) 13 false,oD 16 (.pick XcQ (.const (.bool true)) Xdb),oM 17 Xdh,oG 18 (.mv τ1) 17 false,oG 19 (.bin .lss XdK (.const (.int .i64 0))) 17 false,oD 20 (.pick Xda (.const (.bool true)) Xdz),oM 21 Xd0,oG 22 (.mv τ0) 21 false,oG 23 (.lenS Xeu) 21 false,oG 24 (.mv τ2) 21 false,oG 25 (.bin .sub XeH Xel) 21 false,oG 26 (.mv τ1) 21 false,oG 27 (.bin .lss XeM Xef) 21 false,oD 28 (.pick Xd4 (.const (.bool true)) XeJ)]) (.cond XeC (.seq (.reg [oD 6 (.mv (.const (.int .u64 0))),oD 7 (.mv (.const (.bool false)))]) .ret) .skip)) (.seq (.reg [oD 8 (.mv (.const (.int .u64 0)))]) (.seq (.seq (.reg [oM 29 τ0,oM 30 τ1,oM 31 τ1,oM 32 τ2,oD 33 (.bin .add Xfc Xfn),oD 34 (.sliceS XeP (some Xfi) (some Xfl)),oD 35 (.s2b Xfu),oD 36 (.lenL Xfv),oD 37 (.mv (.const (.int .i64 0)))]) (.block 0 (.loop Xt0))) XAg)))
def fn40:VFn:=⟨48,XAm,[.tmp 6,.tmp 7]⟩
def Xz8:VC:=.seq (.reg [oD 2 (.mv (.const (.bool false)))]) (.seq (.reg [oM 3 τ0,oD 4 (.callF 112 [τ3]),oD 5 (.bin .eql τ4 (.const (.int .i64 65535))),oM 2 τ5]) .ret)
def XLq:VFn:=⟨6,Xz8,[.tmp 2]⟩
def XzP:VC:=.reg [oM 4 τ7]
def XBA:VC:=.block 1 (.reg [oD 8 (.load1 (.int .i64) τ3),oM 9 τ4,oD 10 (.bin .add τ8 τ9),oD 11 (.callF 128 [Xb9]),oN (.store 1 τ3 Xb5)])
def XIu:VC:=.rangeF τ6 [7] XzP XBA
def XuC:VC:=.seq (.reg [oD 12 (.load1 (.int .i64) τ3),oM 2 XcP]) .ret
def XtS:VC:=.seq (.reg [oD 2 (.mv (.const (.int .i64 0)))]) (.seq (.reg [oD 3 (.alloc [(.int .i64 0)]),oN (.store 1 τ3 (.const (.int .i64 0)))]) (.seq (.seq (.reg [oM 5 τ0,oD 6 (.callF 104 [τ5])]) (.block 0 XIu)) XuC))
def XHE:VFn:=⟨13,XtS,[.tmp 2]⟩
def XJw:VC:=.seq (.reg [oD 1 (.box τ0),oM 2 (.const .nilFunc)]) (.seq (.reg [oD 3 (.mkFunc 126 [] [τ1]),oM 2 τ3]) .ret)
def XIJ:VFn:=⟨4,XJw,[.tmp 2]⟩
def Xme:VC:=.seq (.seq (.reg [oM 5 τ3,oD 6 (.load1 .str τ1),oD 7 (.lenS τ6),oD 8 (.bin .lss τ5 τ7)]) (.cond τ8 .skip (.exit 0))) (.seq (.block 1 (.seq (.reg [oD 11 (.load1 .str τ1),oM 12 τ3,oD 13 (.idxS Xb5 XcP),oD 14 (.conv .i64 XcQ),oD 15 (.bin .shl Xde (.const (.int .u64 8))),oM 4 Xdb]) (.seq (.seq (.reg [oM 16 τ3,oD 17 (.bin .add Xdh (.const (.int .i64 1))),oD 18 (.load1 .str τ1),oD 19 (.lenS XdK),oD 20 (.bin .lss Xda Xdz)]) (.cond Xd0 (.reg [oM 21 τ4,oD 22 (.load1 .str τ1),oM 23 τ3,oD 24 (.bin .add XeH (.const (.int .i64 1))),oD 25 (.idxS Xeu Xel),oD 26 (.conv .i64 XeM),oD 27 (.bin .or Xd4 Xef),oM 4 XeJ]) .skip)) (.seq (.reg [oM 28 τ0,oM 29 τ4,oD 30 (.callV XeC [XeP]),oD 31 (.not Xfi)]) (.cond Xfc .ret .skip))))) (.reg [oM 9 τ3,oD 10 (.bin .add τ9 (.const (.int .i64 2))),oM 3 Xb9]))
def XD6:VC:=.seq (.reg [oD 3 (.mv (.const (.int .i64 0)))]) (.block 0 (.loop Xme))
def XIM:VFn:=⟨32,XD6,[]⟩
def Xug:VC:=.seq (.seq (.reg [oM 3 τ0,oD 4 (.bin .gtr τ3 (.const (.int .i64 65535)))]) (.cond τ4 .skip (.exit 0))) (.block 1 (.reg [oM 5 τ0,oD 6 (.bin .and τ5 (.const (.int .i64 65535))),oM 7 τ0,oD 8 (.bin .shr τ7 (.const (.int .u64 16))),oD 9 (.bin .add τ6 τ8),oM 0 τ9]))
def Xvl:VC:=.seq (.reg [oM 10 τ0,oM 2 Xb9]) .ret
def Xt5:VC:=.seq (.reg [oD 2 (.mv (.const (.int .i64 0)))]) (.seq (.block 0 (.loop Xug)) Xvl)
def XIV:VFn:=⟨11,Xt5,[.tmp 2]⟩
def XAE:VC:=.seq (.reg [oD 1 (.box τ0),oD 2 (.alloc [(.bool false),(.int .u64 0),(.int .u64 0)])]) (.seq (.reg [oD 6 (.fieldA 0 τ1),oD 7 (.load1 .oth τ6),oD 8 (.callF 64 [τ7,(.const (.int .i64 4))]),oD 9 (.callF 135 [τ8]),oM 5 τ9,oE 10 0 τ5,oE 11 1 τ5,oD 3 (.alloc [(.bool false),(.int .u64 0),(.int .u64 0)]),oN (.store 3 τ3 Xb9),oM 4 Xb5]) (.seq (.reg [oD 12 (.loadN [.bool,(.int .u64),(.int .u64)] τ3),oN (.store 3 τ2 XcP)]) .ret))
def XI9:VFn:=⟨13,XAE,[.cell 2 [.bool,(.int .u64),(.int .u64)] true]⟩
def Xwe:VC:=.seq (.reg [oD 2 (.alloc [(.bool false),(.int .u64 0),(.int .u64 0)]),oD 3 (.mv (.const (.bool false)))]) (.seq (.seq (.reg [oM 7 τ0,oD 8 (.lenS τ7)]) (.block 0 (.seq (.reg [oD 10 (.bin .eql τ8 (.const (.int .i64 4))),oM 9 Xb9]) (.cond τ9 (.seq (.reg [oM 12 τ0,oD 13 (.callF 40 [XcP,(.const (.int .i64 0)),(.const (.int .i64 4))]),oM 11 XcQ,oE 14 0 Xb5,oE 15 1 Xb5,oM 4 Xde,oM 5 Xdb]) (.seq (.reg [oM 16 τ4,oD 17 (.build [(.bool false),(.int .u64 0),(.int .u64 0)] [(2,1,Xdh)]),oN (.store 3 τ2 Xda),oD 3 (.mv (.const (.bool true)))]) .ret)) (.seq (.reg [oD 19 (.bin .eql τ8 (.const (.int .i64 16))),oM 18 Xdz]) (.cond XdK (.seq (.reg [oD 20 (.build [(.bool false),(.int .u64 0),(.int .u64 0)] [(0,1,(.const (.bool true)))]),oD 6 (.alloc [(.bool false),(.int .u64 0),(.int .u64 0)]),oN (.store 3 τ6 Xd0)]) (.seq (.reg [oM 22 τ0,oD 23 (.callF 40 [Xeu,(.const (.int .i64 0)),(.const (.int .i64 8))]),oM 21 XeH,oE 24 0 Xd4,oE 25 1 Xd4,oD 26 (.fieldA 1 τ6),oN (.store 1 Xef Xel)]) (.seq (.reg [oM 28 τ0,oD 29 (.callF 40 [XeC,(.const (.int .i64 8)),(.const (.int .i64 8))]),oM 27 XeP,oE 30 0 XeJ,oE 31 1 XeJ,oD 32 (.fieldA 2 τ6),oN (.store 1 Xfn Xfi)]) (.seq (.reg [oD 33 (.loadN [.bool,(.int .u64),(.int .u64)] τ6),oN (.store 3 τ2 Xfl),oD 3 (.mv (.const (.bool true)))]) .ret)))) .skip)))))) (.seq (.reg [oD 34 (.build [(.bool false),(.int .u64 0),(.int .u64 0)] []),oN (.store 3 τ2 Xfu),oD 3 (.mv (.const (.bool false)))]) .ret))
def XKx:VFn:=⟨35,Xwe,[.cell 2 [.bool,(.int .u64),(.int .u64)] true,.tmp 3]⟩
def Xtt:VC:=.seq (.reg [oD 2 (.alloc [(.int .i64 0),(.int .i64 0),(.int .i64 0),(.int .i64 0),(.bool false),(.int .u64 0),(.int .u64 0),(.bool false),(.int .u64 0),(.int .u64 0)]),oD 3 (.mv (.const (.string ⟨⟨[]⟩⟩))),oD 4 (.mv (.const (.int .i64 0)))]) (.seq (.reg [oM 12 τ0,oD 13 (.callF 61 [XcP]),oM 5 XcQ]) (.seq (.reg [oM 14 τ5,oD 15 (.callF 62 [Xde,(.const (.int .i64 4))]),oM 16 τ5,oD 17 (.callF 62 [Xdh,(.const (.int .i64 2))]),oM 6 Xdb,oM 7 Xda]) (.seq (.reg [oM 18 τ6,oD 19 (.bin .shr XdK (.const (.int .u64 20))),oD 20 (.bin .and Xdz (.const (.int .i64 255))),oM 21 τ6,oD 22 (.bin .and Xd4 (.const (.int .i64 1048575))),oM 23 τ5,oD 24 (.callF 62 [XeH,(.const (.int .i64 1))]),oM 25 τ5,oD 26 (.callF 62 [XeM,(.const (.int .i64 1))]),oD 27 (.build [(.int .i64 0),(.int .i64 0),(.int .i64 0),(.int .i64 0),(.bool false),(.int .u64 0),(.int .u64 0),(.bool false),(.int .u64 0),(.int .u64 0)] [(0,1,Xd0),(1,1,Xeu),(2,1,Xel),(3,1,Xef)]),oD 8 (.alloc [(.int .i64 0),(.int .i64 0),(.int .i64 0),(.int .i64 0),(.bool false),(.int .u64 0),(.int .u64 0),(.bool false),(.int .u64 0),(.int .u64 0)]),oN (.store 10 τ8 XeJ)]) (.seq (.reg [oM 28 τ5,oD 29 (.callF 64 [XeC,(.const (.int .i64 16))]),oM 30 τ5,oD 31 (.callF 64 [Xfi,(.const (.int .i64 16))]),oM 9 XeP,oM 10 Xfc]) (.seq (.seq (.reg [oM 32 τ5,oD 33 (.callF 63 [Xfn])]) (.cond Xfl (.seq (.reg [oD 34 (.build [(.int .i64 0),(.int .i64 0),(.int .i64 0),(.int .i64 0),(.bool false),(.int .u64 0),(.int .u64 0),(.bool false),(.int .u64 0),(.int .u64 0)] []),oN (.store 10 τ2 Xfu),oD 3 (.mv (.const (.string ⟨⟨[]⟩⟩))),oD 4 (.mv (.const (.int .i64 2)))]) .ret) .skip)) (.seq (.seq (.reg [oM 35 τ6,oD 36 (.bin .shr Xfv (.const (.int .u64 28))),oD 37 (.bin .neq XfI (.const (.int .i64 6)))]) (.cond Xfk (.seq (.reg [oD 38 (.build [(.int .i64 0),(.int .i64 0),(.int .i64 0),(.int .i64 0),(.bool false),(.int .u64 0),(.int .u64 0),(.bool false),(.int .u64 0),(.int .u64 0)] []),oN (.store 10 τ2 XgG),oD 3 (.mv (.const (.string ⟨⟨[]⟩⟩))),oD 4 (.mv (.const (.int .i64 3)))]) .ret) .skip)) (.seq (.reg [oM 40 τ9,oD 41 (.callF 135 [Xhj]),oM 39 Xhg,oE 42 0 XgD,oE 43 1 XgD,oD 44 (.fieldA 4 τ8),oN (.store 3 XhU Xhh)]) (.seq (.reg [oM 46 Xb9,oD 47 (.callF 135 [Xh6]),oM 45 Xh1,oE 48 0 XhB,oE 49 1 XhB,oD 50 (.fieldA 7 τ8),oN (.store 3 XiB Xiz)]) (.seq (.reg [oM 51 τ5,oM 52 τ7,oD 53 (.callF 64 [XiC,XjH]),oM 11 XjL]) (.seq (.seq (.reg [oM 54 τ5,oD 55 (.callF 63 [XkZ])]) (.cond Xk2 (.seq (.reg [oD 56 (.build [(.int .i64 0),(.int .i64 0),(.int .i64 0),(.int .i64 0),(.bool false),(.int .u64 0),(.int .u64 0),(.bool false),(.int .u64 0),(.int .u64 0)] []),oN (.store 10 τ2 Xls),oD 3 (.mv (.const (.string ⟨⟨[]⟩⟩))),oD 4 (.mv (.const (.int .i64 2)))]) .ret) .skip)) (.seq (.reg [oD 57 (.loadN [(.int .i64),(.int .i64),(.int .i64),(.int .i64),.bool,(.int .u64),(.int .u64),.bool,(.int .u64),(.int .u64)] τ8),oM 58 Xb5,oN (.store 10 τ2 Xks),oM 3 XkY,oD 4 (.mv (.const (.int .i64 0)))]) .ret)))))))))))
def XK5:VFn:=⟨59,Xtt,[.cell 2 [(.int .i64),(.int .i64),(.int .i64),(.int .i64),.bool,(.int .u64),(.int .u64),.bool,(.int .u64),(.int .u64)] true,.tmp 3,.tmp 4]⟩
def k72_7:VC:=.regD [oM 26 τ1,oM 27 τ1,oM 28 τ1,oD 29 (.fieldA 0 τ6),oD 30 (.load1 (.int .i64) XeP),oD 31 (.fieldA 1 τ6),oD 32 (.load1 (.int .i64) Xfc),oD 33 (.fieldA 4 τ6),oD 34 (.load1 (.int .i64) Xfl),oD 35 (.nilCheck Xef),oD 36 (.fieldA 0 Xfv),oD 37 (.fieldA 7 XfI),oN (.store 1 Xfk Xfi),oD 38 (.nilCheck XeJ),oD 39 (.fieldA 0 XgG),oD 40 (.fieldA 8 XgD),oN (.store 1 Xhj Xfn)] [(6,12),(8,12),(8,16)] [oD 41 (.nilCheck XeC),oD 42 (.fieldA 9 Xhg),oN (.store 1 Xhh Xfu)]
def Xz4:VC:=.seq (.reg [oD 2 (.box τ0),oD 4 (.mv (.const (.int .i64 0))),oD 5 (.mv (.const (.int .i64 0)))]) (.seq (.reg [oD 13 (.fieldA 7 τ2),oD 14 (.load1 .str XcQ),oD 15 (.fieldA 0 τ2),oD 16 (.loadN [.bool,(.int .u64),(.int .u64)] Xdb),oD 17 (.fieldA 3 τ2),oD 18 (.loadN [.bool,(.int .u64),(.int .u64)] Xda),oD 19 (.callF 107 [Xde,Xdh,XdK]),oM 12 Xdz,oE 20 0 XcP,oE 21 1 XcP,oE 22 2 XcP,oD 6 (.alloc [(.int .i64 0),(.int .i64 0),(.int .u32 0),(.int .u32 0),(.int .i64 0),(.int .i64 0),(.int .i64 0),(.string ⟨⟨[]⟩⟩)]),oN (.store 8 τ6 Xd0),oM 7 Xd4,oM 8 Xeu]) (.seq (.seq (.reg [oM 23 τ8,oD 24 (.bin .neq XeH (.const (.int .i64 0)))]) (.cond Xel (.seq (.reg [oM 25 τ8,oD 4 (.mv (.const (.int .i64 0))),oM 5 XeM]) .ret) .skip)) (.seq k72_7 (.seq (.seq (.reg [oD 44 (.fieldA 7 τ6),oD 45 (.load1 .str XhU),oD 46 (.callF 60 [XhB]),oM 43 Xh6,oE 47 0 Xhn,oE 48 1 Xhn,oE 49 2 Xhn,oM 9 Xh1,oM 10 Xiz,oM 11 Xiy]) (.seq (.reg [oM 50 Xb5,oD 51 (.bin .geq XiB (.const (.int .i64 0)))]) (.cond XiC (.reg [oM 52 τ1,oM 53 τ1,oM 54 τ1,oM 55 τ9,oM 56 Xb9,oD 57 (.nilCheck XjH),oD 58 (.fieldA 10 Xks),oN (.store 1 XkY (.const (.bool true))),oD 59 (.nilCheck XjL),oD 60 (.fieldA 11 Xlu),oN (.store 1 XlS Xk2),oD 61 (.nilCheck XkZ),oD 62 (.fieldA 12 Xl7),oN (.store 1 Xm9 Xls)]) .skip))) (.seq (.reg [oM 63 τ7,oD 64 (.lenS XoC),oM 4 Xn2,oD 5 (.mv (.const (.int .i64 0)))]) .ret)))))
def fn72:VFn:=⟨65,Xz4,[.tmp 4,.tmp 5]⟩
def XGM:VC:=.regD [oM 20 τ0,oD 21 (.idxS Xd0 (.const (.int .i64 12))),oD 22 (.bin .shr Xd4 (.const (.int .u64 4))),oD 23 (.conv .i64 Xeu),oM 24 τ0,oD 25 (.idxS Xel (.const (.int .i64 12))),oD 26 (.bin .and XeM (.const (.int .u8 15))),oM 9 XeH] [] [oM 10 Xef]
def XF9:VC:=.regD [oD 72 (.loadN [(.int .i64),(.int .i64),(.int .u32),(.int .u32),(.int .i64),(.int .i64),(.int .i64),.str] XcQ),oM 73 τ0,oM 74 Xb5,oD 75 (.sliceS Xsk (some XuK) none),oN (.store 8 τ6 Xrb)] [] [oM 7 XtG,oD 8 (.mv (.const (.int .i64 0)))]
def XuD:VC:=.seq (.reg [oD 4 (.box τ1),oD 5 (.box τ2),oD 6 (.alloc [(.int .i64 0),(.int .i64 0),(.int .u32 0),(.int .u32 0),(.int .i64 0),(.int .i64 0),(.int .i64 0),(.string ⟨⟨[]⟩⟩)]),oD 7 (.mv (.const (.string ⟨⟨[]⟩⟩))),oD 8 (.mv (.const (.int .i64 0)))]) (.seq (.seq (.reg [oM 16 τ0,oD 17 (.lenS Xdh),oD 18 (.bin .lss Xda (.const (.int .i64 20)))]) (.cond XdK (.seq (.reg [oD 19 (.build [(.int .i64 0),(.int .i64 0),(.int .u32 0),(.int .u32 0),(.int .i64 0),(.int .i64 0),(.int .i64 0),(.string ⟨⟨[]⟩⟩)] []),oN (.store 8 τ6 Xdz),oD 7 (.mv (.const (.string ⟨⟨[]⟩⟩))),oD 8 (.mv (.const (.int .i64 2)))]) .ret) .skip)) (.seq XGM (.seq (.reg [oM 27 τ9,oD 28 (.bin .mul (.const (.int .i64 4)) XeJ),oM 11 XeC]) (.seq (.block 0 (.seq (.reg [oM 30 Xb5,oD 31 (.bin .lss Xfi (.const (.int .i64 20))),oM 32 Xfc,oG 33 (.mv Xb9) 32 false,oG 34 (.bin .neq Xfl (.const (.int .u8 0))) 32 false,oD 35 (.pick Xfn (.const (.bool true)) Xfu),oM 29 Xfv]) (.cond XeP (.seq (.reg [oD 36 (.build [(.int .i64 0),(.int .i64 0),(.int .u32 0),(.int .u32 0),(.int .i64 0),(.int .i64 0),(.int .i64 0),(.string ⟨⟨[]⟩⟩)] []),oN (.store 8 τ6 XfI),oD 7 (.mv (.const (.string ⟨⟨[]⟩⟩))),oD 8 (.mv (.const (.int .i64 3)))]) .ret) (.seq (.reg [oM 38 Xb5,oM 39 τ0,oD 40 (.lenS XgD),oD 41 (.bin .gtr XgG Xhj),oM 37 Xhg]) (.cond Xfk (.seq (.reg [oD 42 (.build [(.int .i64 0),(.int .i64 0),(.int .u32 0),(.int .u32 0),(.int .i64 0),(.int .i64 0),(.int .i64 0),(.string ⟨⟨[]⟩⟩)] []),oN (.store 8 τ6 Xhh),oD 7 (.mv (.const (.string ⟨⟨[]⟩⟩))),oD 8 (.mv (.const (.int .i64 2)))]) .ret) .skip))))) (.seq (.reg [oD 43 (.loadN [.bool,(.int .u64),(.int .u64)] τ4),oD 44 (.loadN [.bool,(.int .u64),(.int .u64)] τ5),oM 45 τ0,oD 46 (.lenS XhB),oD 47 (.callF 109 [Xhn,XhU,(.const (.int .i64 6)),Xh6]),oM 12 Xh1]) (.seq (.block 1 (.seq (.reg [oM 49 XcP,oD 50 (.bin .eql Xiy (.const (.string ⟨⟨[]⟩⟩))),oM 48 XiB]) (.cond Xiz (.seq (.reg [oD 51 (.build [(.int .i64 0),(.int .i64 0),(.int .u32 0),(.int .u32 0),(.int .i64 0),(.int .i64 0),(.int .i64 0),(.string ⟨⟨[]⟩⟩)] []),oN (.store 8 τ6 XiC),oD 7 (.mv (.const (.string ⟨⟨[]⟩⟩))),oD 8 (.mv (.const (.int .i64 1)))]) .ret) (.seq (.reg [oM 53 XcP,oM 54 τ0,oD 55 (.bin .add XjL XkZ),oD 56 (.callF 131 [Xk2]),oD 57 (.not Xls),oM 52 Xks]) (.cond XjH (.seq (.reg [oD 58 (.build [(.int .i64 0),(.int .i64 0),(.int .u32 0),(.int .u32 0),(.int .i64 0),(.int .i64 0),(.int .i64 0),(.string ⟨⟨[]⟩⟩)] []),oN (.store 8 τ6 XkY),oD 7 (.mv (.const (.string ⟨⟨[]⟩⟩))),oD 8 (.mv (.const (.int .i64 4)))]) .ret) .skip))))) (.seq (.reg [oM 59 τ0,oM 60 Xb5,oD 61 (.callF 132 [Xlu,XlS]),oD 13 (.alloc [(.int .i64 0),(.int .i64 0),(.int .u32 0),(.int .u32 0),(.int .i64 0),(.int .i64 0),(.int .i64 0),(.string ⟨⟨[]⟩⟩)]),oN (.store 8 XcQ Xl7)]) (.seq (.seq (.reg [oD 63 (.fieldA 7 XcQ),oD 64 (.load1 .str XoC),oD 65 (.callF 102 [Xn2]),oM 62 XoQ,oE 66 0 Xm9,oE 67 1 Xm9,oM 14 XpY,oM 15 XoS]) (.seq (.reg [oM 68 Xdb,oD 69 (.bin .neq XpR (.const (.int .i64 0)))]) (.cond XoV (.seq (.reg [oD 70 (.build [(.int .i64 0),(.int .i64 0),(.int .u32 0),(.int .u32 0),(.int .i64 0),(.int .i64 0),(.int .i64 0),(.string ⟨⟨[]⟩⟩)] []),oM 71 Xdb,oN (.store 8 τ6 Xrd),oD 7 (.mv (.const (.string ⟨⟨[]⟩⟩))),oM 8 XrA]) .ret) .skip))) (.seq XF9 .ret)))))))))
def XHV:VFn:=⟨76,XuD,[.cell 6 [(.int .i64),(.int .i64),(.int .u32),(.int .u32),(.int .i64),(.int .i64),(.int .i64),.str] true,.tmp 7,.tmp 8]⟩
def XJ9:VC:=.regD [oD 25 (.loadN [.bool,(.int .u64),(.int .u64)] τ4),oD 26 (.callF 80 [XeM]),oD 27 (.loadN [.bool,(.int .u64),(.int .u64)] τ5)] [(1,2)] [oD 28 (.callF 80 [XeJ]),oD 29 (.bin .add Xef XeC),oM 9 XeP]
def XuT:VC:=.seq (.reg [oD 4 (.box τ0),oD 5 (.box τ1),oD 8 (.mv (.const (.string ⟨⟨[]⟩⟩)))]) (.seq (.seq (.reg [oD 10 (.loadN [.bool,(.int .u64),(.int .u64)] τ4),oD 11 (.callF 113 [Xb9]),oD 12 (.not Xb5),oM 13 XcP,oG 14 (.loadN [.bool,(.int .u64),(.int .u64)] τ5) 13 false,oG 15 (.callF 113 [Xde]) 13 false,oG 16 (.not Xdb) 13 false,oD 17 (.pick XcQ (.const (.bool true)) Xdh),oM 18 Xda,oG 19 (.fieldA 0 τ4) 18 false,oG 20 (.load1 .bool Xdz) 18 false,oG 21 (.fieldA 0 τ5) 18 false,oG 22 (.load1 .bool Xd4) 18 false,oG 23 (.eqB true Xd0 Xeu) 18 false,oD 24 (.pick XdK (.const (.bool true)) XeH)]) (.cond Xel (.seq (.reg [oD 8 (.mv (.const (.string ⟨⟨[]⟩⟩)))]) .ret) .skip)) (.seq XJ9 (.seq (.seq (.reg [oD 30 (.fieldA 0 τ4),oD 31 (.load1 .bool Xfi)]) (.cond Xfc (.seq (.reg [oM 32 τ9,oM 33 τ3,oM 34 τ2,oD 35 (.buildSl 6 1 [(.int .i64 0),(.int .i64 0),(.int .i64 0),(.int .i64 0),(.int .i64 0),(.int .i64 0)] [(0,1,Xfl),(1,1,(.const (.int .i64 4))),(2,1,(.const (.int .i64 0))),(3,1,(.const (.int .i64 3))),(4,1,Xfu),(5,1,(.const (.int .i64 1)))]),oD 36 (.callF 82 [Xfv]),oD 37 (.bin .add Xfn XfI),oM 8 Xfk]) .ret) .skip)) (.seq (.reg [oM 38 τ9,oM 39 τ2,oM 40 τ3,oD 41 (.buildSl 6 1 [(.int .i64 0),(.int .i64 0),(.int .i64 0),(.int .i64 0),(.int .i64 0),(.int .i64 0)] [(0,1,(.const (.int .i64 0))),(1,1,(.const (.int .i64 1))),(2,1,XgD),(3,1,(.const (.int .i64 1))),(4,1,Xhj),(5,1,(.const (.int .i64 2)))]),oD 42 (.callF 82 [Xhg]),oD 43 (.bin .add XgG Xhh),oM 8 Xhn]) .ret))))
def XJY:VFn:=⟨44,XuT,[.tmp 8]⟩
def XzF:VC:=.seq (.reg [oD 1 (.box τ0),oD 2 (.mv (.const (.bool false)))]) (.seq (.reg [oD 3 (.fieldA 0 τ1),oD 4 (.load1 .bool τ3),oM 5 τ4,oG 6 (.fieldA 1 τ1) 5 false,oG 7 (.load1 (.int .u64) τ6) 5 false,oG 8 (.bin .eql τ7 (.const (.int .u64 0))) 5 false,oG 9 (.mv τ8) 5 false,oG 10 (.fieldA 2 τ1) 9 true,oG 11 (.load1 (.int .u64) Xb9) 9 true,oG 12 (.bin .lss Xb5 (.const (.int .u64 4294967296))) 9 true,oG 13 (.pick τ9 XcP (.const (.bool false))) 5 false,oD 14 (.pick τ5 (.const (.bool true)) XcQ),oM 2 Xde]) .ret)
def XLf:VFn:=⟨15,XzF,[.tmp 2]⟩
def k80_5:VC:=.regD [oD 10 (.fieldA 1 τ1),oD 11 (.load1 (.int .u64) Xb9),oD 12 (.callF 42 [Xb5,(.const (.int .i64 8))]),oD 13 (.fieldA 2 τ1),oD 14 (.load1 (.int .u64) XcQ)] [(2,4)] [oD 15 (.callF 42 [Xde,(.const (.int .i64 8))]),oD 16 (.bin .add XcP Xdb),oM 2 Xdh]
def XA7:VC:=.seq (.reg [oD 1 (.box τ0),oD 2 (.mv (.const (.string ⟨⟨[]⟩⟩)))]) (.seq (.block 0 (.seq (.reg [oD 4 (.loadN [.bool,(.int .u64),(.int .u64)] τ1),oD 5 (.callF 113 [τ4]),oD 6 (.not τ5),oM 3 τ6]) (.cond τ3 (.seq (.reg [oD 2 (.mv (.const (.string ⟨⟨[]⟩⟩)))]) .ret) (.seq (.reg [oD 8 (.fieldA 0 τ1),oD 9 (.load1 .bool τ8),oM 7 τ9]) (.cond τ7 (.seq k80_5 .ret) .skip))))) (.seq (.reg [oD 17 (.fieldA 2 τ1),oD 18 (.load1 (.int .u64) Xda),oD 19 (.callF 42 [XdK,(.const (.int .i64 4))]),oM 2 Xdz]) .ret))
def fn80:VFn:=⟨20,XA7,[.tmp 2]⟩
def Xvp:VC:=.seq (.reg [oD 18 (.bin .lss Xda Xdh)]) (.seq (.cond XdK .skip (.exit 0)) (.seq (.block 1 (.seq (.reg [oM 19 Xda,oM 6 Xdz]) (.reg [oM 20 τ5,oM 21 τ6,oM 22 τ0,oM 23 τ1,oD 24 (.bin .sub XeH (.const (.int .i64 1))),oM 25 τ6,oD 26 (.bin .sub Xel XeM),oD 27 (.bin .mul (.const (.int .i64 8)) Xef),oD 28 (.bin .shr Xeu XeJ),oD 29 (.conv .u8 XeC),oD 30 (.idxAL 1 Xd0 Xd4),oN (.store 1 Xfi XeP)]))) (.reg [oD 31 (.bin .add Xda (.const (.int .i64 1))),oM 17 Xfc])))
def XAk:VC:=.seq (.reg [oM 32 τ5,oD 33 (.b2s Xfn),oM 4 Xfl]) .ret
def XA0:VC:=.seq (.reg [oD 4 (.mv (.const (.string ⟨⟨[]⟩⟩)))]) (.seq (.seq (.reg [oM 7 τ1,oD 8 (.bin .lss τ7 (.const (.int .i64 1))),oM 9 τ8,oG 10 (.mv τ1) 9 false,oG 11 (.bin .gtr Xb9 (.const (.int .i64 8))) 9 false,oD 12 (.pick τ9 (.const (.bool true)) Xb5)]) (.cond XcP (.seq (.reg [oD 4 (.mv (.const (.string ⟨⟨[]⟩⟩)))]) .ret) .skip)) (.seq (.reg [oM 13 τ1,oD 14 (.mkSl 1 1 [(.int .u8 0)] XcQ XcQ),oM 5 Xde]) (.seq (.seq (.reg [oM 15 τ5,oD 16 (.lenL Xdb),oD 17 (.mv (.const (.int .i64 0)))]) (.block 0 (.loop Xvp))) XAk)))
def fn42:VFn:=⟨34,XA0,[.tmp 4]⟩
def k82_6:VC:=.regD [oM 12 τ0,oM 13 τ4,oD 14 (.idxAL 1 XcP XcQ),oD 15 (.load1 (.int .i64) Xde),oD 16 (.conv .u64 Xdb),oM 17 τ0,oM 18 τ4,oD 19 (.bin .add XdK (.const (.int .i64 1))),oD 20 (.idxAL 1 Xda Xdz),oD 21 (.load1 (.int .i64) Xd0)] [] [oD 22 (.callF 42 [Xdh,Xd4]),oD 23 (.callF 116 [τ3,Xeu])]
def Xto:VC:=.seq (.seq (.reg [oM 5 τ4,oD 6 (.bin .add τ5 (.const (.int .i64 1))),oM 7 τ0,oD 8 (.lenL τ7),oD 9 (.bin .lss τ6 τ8)]) (.cond τ9 .skip (.exit 0))) (.seq (.block 1 k82_6) (.reg [oM 10 τ4,oD 11 (.bin .add Xb9 (.const (.int .i64 2))),oM 4 Xb5]))
def XA8:VC:=.seq (.reg [oD 24 (.callF 117 [τ3]),oM 2 Xel]) .ret
def XBJ:VC:=.seq (.reg [oD 2 (.mv (.const (.string ⟨⟨[]⟩⟩)))]) (.seq (.reg [oD 3 (.allocB 184 5)]) (.seq (.seq (.reg [oD 4 (.mv (.const (.int .i64 0)))]) (.block 0 (.loop Xto))) XA8))
def fn82:VFn:=⟨25,XBJ,[.tmp 2]⟩
def XK6:VC:=.seq (.reg [oD 4 (.mv (.const (.int .i64 0))),oM 5 (.const .nilIface)]) (.seq (.reg [oM 6 τ0,oD 7 (.callF 133 [τ6])]) (.seq (.reg [oM 8 τ0,oM 9 τ0,oD 10 (.nilCheck τ9),oD 11 (.fieldA 1 Xb9),oD 12 (.load1 .oth Xb5),oM 13 τ1,oD 14 (.app 5 1 1 XcP XcQ),oD 15 (.nilCheck τ8),oD 16 (.fieldA 1 Xdb),oN (.store 1 Xdh Xde)]) (.seq (.reg [oM 17 τ1,oD 18 (.lenS Xda),oM 4 XdK,oM 5 (.const .nilIface)]) .ret)))
def XJN:VFn:=⟨19,XK6,[.tmp 4,.tmp 5]⟩
def XKC:VC:=.seq (.reg [oM 2 τ0,oD 3 (.nilCheck τ2),oD 4 (.fieldA 0 τ3),oD 5 (.load1 .oth τ4),oD 6 (.isNil 0 false τ5)]) (.cond τ6 (.reg [oM 7 τ0,oM 8 τ0,oD 9 (.toU τ8),oM 10 τ9,oD 11 (.ofU 184 2 Xb9),oD 12 (.nilCheck τ7),oD 13 (.fieldA 0 XcP),oN (.store 1 XcQ Xb5)]) (.seq (.reg [oM 14 τ0,oD 15 (.nilCheck Xde),oD 16 (.fieldA 0 Xdb),oD 17 (.load1 .oth Xdh),oM 18 τ0,oD 19 (.eqP true Xda XdK)]) (.cond Xdz .stuck .skip)))
def XLm:VFn:=⟨20,XKC,[]⟩
def XJD:VC:=.regD [oM 3 τ0,oD 4 (.nilCheck τ3),oD 5 (.fieldA 1 τ4),oD 6 (.load1 .oth τ5),oD 7 (.sdata τ6),oM 8 τ0,oD 9 (.nilCheck τ8),oD 10 (.fieldA 1 τ9),oD 11 (.load1 .oth Xb9),oD 12 (.lenL Xb5)] [] [oD 13 (.ustr 5 τ7 XcP),oM 2 XcQ]
def XLj:VC:=.seq (.reg [oD 2 (.mv (.const (.string ⟨⟨[]⟩⟩)))]) (.seq XJD .ret)
def XHD:VFn:=⟨14,XLj,[.tmp 2]⟩
def Xtq:VC:=.seq (.reg [oD 4 (.alloc [(.int .i64 0),(.int .i64 0),(.int .u32 0),(.int .u32 0),(.int .i64 0),(.int .i64 0),(.int .i64 0),(.string ⟨⟨[]⟩⟩)])]) (.seq (.reg [oM 7 τ0,oD 8 (.callF 61 [τ7]),oM 5 τ8]) (.seq (.reg [oM 9 τ5,oD 10 (.callF 62 [τ9,(.const (.int .i64 2))]),oM 11 τ5,oD 12 (.callF 62 [Xb5,(.const (.int .i64 2))]),oM 13 τ5,oD 14 (.callF 62 [XcQ,(.const (.int .i64 4))]),oD 15 (.conv .u32 Xde),oM 16 τ5,oD 17 (.callF 62 [Xdh,(.const (.int .i64 4))]),oD 18 (.conv .u32 Xda),oD 19 (.build [(.int .i64 0),(.int .i64 0),(.int .u32 0),(.int .u32 0),(.int .i64 0),(.int .i64 0),(.int .i64 0),(.string ⟨⟨[]⟩⟩)] [(0,1,Xb9),(1,1,XcP),(2,1,Xdb),(3,1,XdK)]),oD 6 (.alloc [(.int .i64 0),(.int .i64 0),(.int .u32 0),(.int .u32 0),(.int .i64 0),(.int .i64 0),(.int .i64 0),(.string ⟨⟨[]⟩⟩)]),oN (.store 8 τ6 Xdz)]) (.seq (.reg [oM 20 τ5,oD 21 (.callF 62 [Xd0,(.const (.int .i64 2))]),oD 22 (.bin .and Xd4 (.const (.int .i64 255))),oD 23 (.fieldA 4 τ6),oN (.store 1 XeH Xeu)]) (.seq (.reg [oM 24 τ5,oD 25 (.callF 62 [Xel,(.const (.int .i64 2))]),oD 26 (.fieldA 5 τ6),oN (.store 1 Xef XeM)]) (.seq (.reg [oM 27 τ5,oD 28 (.callF 62 [XeJ,(.const (.int .i64 2))])]) (.seq (.reg [oM 29 τ5,oD 30 (.callF 62 [XeP,(.const (.int .i64 2))]),oD 31 (.fieldA 6 τ6),oN (.store 1 Xfc Xfi)]) (.seq (.reg [oM 32 τ5,oM 33 τ1,oD 34 (.bin .sub Xfl (.const (.int .i64 20))),oD 35 (.callF 64 [Xfn,Xfu]),oD 36 (.fieldA 7 τ6),oN (.store 1 XfI Xfv)]) (.seq (.reg [oD 37 (.loadN [(.int .i64),(.int .i64),(.int .u32),(.int .u32),(.int .i64),(.int .i64),(.int .i64),.str] τ6),oN (.store 8 τ4 Xfk)]) .ret))))))))
def XLC:VFn:=⟨38,Xtq,[.cell 4 [(.int .i64),(.int .i64),(.int .u32),(.int .u32),(.int .i64),(.int .i64),(.int .i64),.str] true]⟩
def Xz0:VC:=.reg [oD 5 (.alloc [(.int .i64 0),(.string ⟨⟨[]⟩⟩),(.int .i64 0)]),oN (.store 3 τ5 τ8)]
def Xvy:VC:=.block 1 (.seq (.seq (.reg [oD 9 (.fieldA 2 τ5),oD 10 (.load1 (.int .i64) τ9),oD 11 (.bin .lss Xb9 (.const (.int .i64 0)))]) (.cond Xb5 (.seq (.reg [oN (.store 1 τ2 (.const (.slice none 0 0))),oN (.store 1 τ3 (.const (.int .i64 3)))]) .ret) .skip)) (.reg [oD 12 (.load1 .oth τ4),oD 13 (.fieldA 0 τ5),oD 14 (.loadN [(.int .i64),.str] XcQ),oD 15 (.buildSl 1 2 [(.int .i64 0),(.string ⟨⟨[]⟩⟩)] [(0,2,Xde)]),oD 16 (.app 161 2 24 XcP Xdb),oN (.store 1 τ4 Xdh)]))
def XCf:VC:=.rangeF τ7 [8] Xz0 Xvy
def Xvj:VC:=.seq (.reg [oD 17 (.load1 .oth τ4),oN (.store 1 τ2 Xda),oN (.store 1 τ3 (.const (.int .i64 0)))]) .ret
def Xtp:VC:=.seq (.reg [oD 2 (.alloc [(.slice none 0 0)]),oD 3 (.alloc [(.int .i64 0)])]) (.seq (.reg [oD 4 (.alloc [(.slice none 0 0)])]) (.seq (.seq (.reg [oM 6 τ0,oD 7 (.callF 103 [τ6])]) (.block 0 XCf)) Xvj))
def XHe:VFn:=⟨18,Xtp,[.cell 2 [.oth] false,.cell 3 [(.int .i64)] false]⟩
def XIn:VC:=.seq (.reg [oD 1 (.box τ0),oM 2 (.const .nilFunc)]) (.seq (.reg [oD 3 (.mkFunc 125 [] [τ1]),oM 2 τ3]) .ret)
def XGR:VFn:=⟨4,XIn,[.tmp 2]⟩
def XF2:VC:=.regD [oM 41 τ0,oD 42 (.load1 .str τ1),oM 43 τ3,oD 44 (.idxS Xhh Xhn),oD 45 (.conv .i64 XhU),oD 46 (.load1 .str τ1),oM 47 τ3,oD 48 (.bin .add Xh1 (.const (.int .i64 2))),oM 49 τ3,oM 50 τ4,oD 51 (.bin .add Xiy XiB),oD 52 (.sliceS Xh6 (some Xiz) (some XiC)),oD 53 (.build [(.int .i64 0),(.string ⟨⟨[]⟩⟩)] [(0,1,XhB),(1,1,XjH)]),oM 54 τ3,oD 55 (.bin .add XkZ (.const (.int .i64 2))),oD 56 (.build [(.int .i64 0),(.string ⟨⟨[]⟩⟩),(.int .i64 0)] [(0,2,XjL),(2,1,Xk2)])] [] [oD 57 (.callV Xhg [Xls]),oD 58 (.not Xks)]
def Xmf:VC:=.seq (.seq (.reg [oM 5 τ3,oD 6 (.load1 .str τ1),oD 7 (.lenS τ6),oD 8 (.bin .lss τ5 τ7)]) (.cond τ8 .skip (.exit 0))) (.block 1 (.seq (.seq (.reg [oD 9 (.load1 .str τ1),oM 10 τ3,oD 11 (.idxS τ9 Xb9)]) (.block 2 (.seq (.reg [oD 13 (.bin .eql Xb5 (.const (.int .u8 0))),oM 12 XcQ]) (.cond XcP .ret (.seq (.reg [oD 15 (.bin .eql Xb5 (.const (.int .u8 1))),oM 14 Xdb]) (.cond Xde (.seq (.reg [oM 16 τ3,oD 17 (.bin .add Xdh (.const (.int .i64 1))),oM 3 Xda]) (.exit 1)) .skip)))))) (.seq (.reg [oD 4 (.mv (.const (.int .i64 0)))]) (.seq (.seq (.reg [oM 18 τ3,oD 19 (.bin .add XdK (.const (.int .i64 1))),oD 20 (.load1 .str τ1),oD 21 (.lenS Xd0),oD 22 (.bin .lss Xdz Xd4)]) (.cond Xeu (.reg [oD 23 (.load1 .str τ1),oM 24 τ3,oD 25 (.bin .add Xel (.const (.int .i64 1))),oD 26 (.idxS XeH XeM),oD 27 (.conv .i64 Xef),oM 4 XeJ]) .skip)) (.seq (.seq (.reg [oM 28 τ4,oD 29 (.bin .lss XeC (.const (.int .i64 2))),oM 30 XeP,oG 31 (.mv τ4) 30 false,oG 32 (.load1 .str τ1) 30 false,oG 33 (.lenS Xfn) 30 false,oG 34 (.mv τ3) 30 false,oG 35 (.bin .sub Xfl Xfu) 30 false,oG 36 (.bin .gtr Xfc Xfv) 30 false,oD 37 (.pick Xfi (.const (.bool true)) XfI)]) (.cond Xfk (.seq (.reg [oM 38 τ0,oD 39 (.build [(.int .i64 0),(.string ⟨⟨[]⟩⟩),(.int .i64 0)] [(2,1,(.const (.int .i64 (-1))))]),oD 40 (.callV XgG [XgD])]) .ret) .skip)) (.seq (.seq XF2 (.cond XkY .ret .skip)) (.reg [oM 59 τ3,oM 60 τ4,oD 61 (.bin .add Xlu XlS),oM 3 Xl7])))))))
def XDn:VC:=.seq (.reg [oD 3 (.mv (.const (.int .i64 0)))]) (.block 0 (.loop Xmf))
def XI2:VFn:=⟨62,XDn,[]⟩
def XJi:VC:=.reg [oD 7 (.alloc [(.int .i64 0),(.string ⟨⟨[]⟩⟩),(.int .i64 0)]),oN (.store 3 τ7 Xdz)]
def XJ6:VC:=.regD [oM 39 τ8,oD 40 (.bin .shr XgD (.const (.int .u64 32))),oD 41 (.conv .u32 Xhj),oM 42 τ8,oD 43 (.conv .u32 Xhh),oD 44 (.fieldA 2 τ7),oD 45 (.load1 (.int .i64) XhU),oN (.store 1 τ2 Xhg),oN (.store 1 τ3 Xhn)] [(6,7),(6,8)] [oN (.store 1 τ4 XhB)]
def XB8:VC:=.block 1 (.seq (.seq (.reg [oD 20 (.fieldA 0 τ7),oD 21 (.fieldA 0 Xd0),oD 22 (.load1 (.int .i64) Xd4),oD 23 (.bin .neq Xeu (.const (.int .i64 8)))]) (.cond XeH (.exit 1) .skip)) (.seq (.seq (.reg [oD 25 (.fieldA 0 τ7),oD 26 (.fieldA 1 XeM),oD 27 (.load1 .str Xef),oD 28 (.callF 40 [XeJ,(.const (.int .i64 0)),(.const (.int .i64 8))]),oM 24 XeC,oE 29 0 Xel,oE 30 1 Xel,oM 8 XeP,oM 9 Xfi]) (.seq (.reg [oM 31 τ9,oM 32 Xfc,oG 33 (.fieldA 0 τ7) 32 true,oG 34 (.fieldA 1 Xfl) 32 true,oG 35 (.load1 .str Xfu) 32 true,oG 36 (.lenS Xfv) 32 true,oG 37 (.bin .eql XfI (.const (.int .i64 8))) 32 true,oD 38 (.pick Xfn Xfk (.const (.bool false)))]) (.cond XgG (.seq XJ6 .ret) .skip))) (.exit 0)))
def XHh:VC:=.rangeF XdK [19] XJi XB8
def XBP:VC:=.seq (.reg [oN (.store 1 τ2 (.const (.int .u32 0))),oN (.store 1 τ3 (.const (.int .u32 0))),oN (.store 1 τ4 (.const (.int .i64 (-1))))]) .ret
def XBz:VC:=.seq (.reg [oD 2 (.alloc [(.int .u32 0)]),oD 3 (.alloc [(.int .u32 0)]),oD 4 (.alloc [(.int .i64 0)])]) (.seq (.seq (.reg [oM 11 τ0,oD 12 (.callF 102 [Xb5]),oM 10 XcP,oE 13 0 Xb9,oE 14 1 Xb9,oM 5 XcQ,oM 6 Xde]) (.seq (.reg [oM 15 τ6,oD 16 (.bin .neq Xdb (.const (.int .i64 0)))]) (.cond Xdh (.seq (.reg [oN (.store 1 τ2 (.const (.int .u32 0))),oN (.store 1 τ3 (.const (.int .u32 0))),oN (.store 1 τ4 (.const (.int .i64 (-1))))]) .ret) .skip))) (.seq (.seq (.reg [oM 17 τ0,oD 18 (.callF 103 [Xda])]) (.block 0 XHh)) XBP))
def fn60:VFn:=⟨46,XBz,[.cell 2 [(.int .u32)] false,.cell 3 [(.int .u32)] false,.cell 4 [(.int .i64)] false]⟩
def XJd:VC:=.regD [oM 34 τ1,oM 35 τ1,oD 36 (.fieldA 0 τ6),oD 37 (.load1 (.int .i64) XfI),oD 38 (.fieldA 1 τ6),oD 39 (.load1 (.int .i64) XgG),oD 40 (.nilCheck Xfu),oD 41 (.fieldA 0 Xhj),oD 42 (.fieldA 7 Xhg),oN (.store 1 Xhh Xfk)] [(5,9)] [oD 43 (.nilCheck Xfv),oD 44 (.fieldA 0 Xhn),oD 45 (.fieldA 8 XhU),oN (.store 1 XhB XgD)]
def XKN:VC:=.regD [oM 53 τ1,oM 54 τ1,oD 55 (.fieldA 0 τ9),oD 56 (.load1 .bool Xk2),oD 57 (.fieldA 3 τ9),oD 58 (.load1 .str Xks),oD 59 (.nilCheck XjL),oD 60 (.fieldA 13 Xlu),oN (.store 1 XlS Xls)] [(5,8)] [oD 61 (.nilCheck XkZ),oD 62 (.fieldA 14 Xl7),oN (.store 1 Xm9 XkY)]
def Xzo:VC:=.seq (.reg [oD 2 (.box τ0),oD 4 (.mv (.const (.int .i64 0))),oD 5 (.mv (.const (.int .i64 0)))]) (.seq (.reg [oD 12 (.fieldA 7 τ2),oD 13 (.load1 .str XcP),oD 14 (.fieldA 0 τ2),oD 15 (.loadN [.bool,(.int .u64),(.int .u64)] Xde),oD 16 (.fieldA 3 τ2),oD 17 (.loadN [.bool,(.int .u64),(.int .u64)] Xdh),oD 18 (.callF 108 [XcQ,Xdb,Xda]),oM 11 XdK,oE 19 0 Xb5,oE 20 1 Xb5,oE 21 2 Xb5,oD 6 (.alloc [(.int .i64 0),(.int .i64 0)]),oN (.store 2 τ6 Xdz),oM 7 Xd0,oM 8 Xd4]) (.seq (.block 0 (.seq (.reg [oM 23 τ8,oD 24 (.bin .neq XeH (.const (.int .i64 0))),oM 22 Xel]) (.cond Xeu (.seq (.reg [oM 25 τ8,oD 4 (.mv (.const (.int .i64 0))),oM 5 XeM]) .ret) (.seq (.reg [oM 27 τ7,oD 28 (.lenS XeJ),oD 29 (.fieldA 7 τ2),oD 30 (.load1 .str XeP),oD 31 (.lenS Xfi),oD 32 (.bin .sub Xfc (.const (.int .i64 8))),oD 33 (.bin .neq XeC Xfn),oM 26 Xfl]) (.cond Xef (.seq (.reg [oD 4 (.mv (.const (.int .i64 0))),oD 5 (.mv (.const (.int .i64 5)))]) .ret) .skip))))) (.seq XJd (.seq (.seq (.reg [oM 47 τ7,oD 48 (.callF 39 [Xh1]),oM 46 Xiz,oE 49 0 Xh6,oE 50 1 Xh6,oD 9 (.alloc [(.bool false),(.int .i64 0),(.int .u32 0),(.string ⟨⟨[]⟩⟩),(.string ⟨⟨[]⟩⟩),(.string ⟨⟨[]⟩⟩)]),oN (.store 6 τ9 Xiy),oM 10 XiB]) (.seq (.reg [oM 51 Xb9,oD 52 (.bin .eql XiC (.const (.int .i64 0)))]) (.cond XjH XKN .skip))) (.seq (.reg [oM 63 τ7,oD 64 (.lenS XoC),oM 4 Xn2,oD 5 (.mv (.const (.int .i64 0)))]) .ret)))))
def fn73:VFn:=⟨65,Xzo,[.tmp 4,.tmp 5]⟩
def XFj:VC:=.regD [oD 66 (.loadN [(.int .i64),(.int .i64)] Xb9),oM 67 τ0,oM 68 Xb5,oD 69 (.sliceS XoS (some (.const (.int .i64 8))) (some XpR)),oN (.store 2 τ6 XpY)] [] [oM 7 XoV,oD 8 (.mv (.const (.int .i64 0)))]
def XuR:VC:=.seq (.reg [oD 4 (.box τ1),oD 5 (.box τ2),oD 6 (.alloc [(.int .i64 0),(.int .i64 0)]),oD 7 (.mv (.const (.string ⟨⟨[]⟩⟩))),oD 8 (.mv (.const (.int .i64 0)))]) (.seq (.reg [oM 14 τ0,oD 15 (.callF 61 [Xde]),oM 9 Xdb]) (.seq (.reg [oM 16 τ9,oD 17 (.callF 62 [Xdh,(.const (.int .i64 2))]),oM 18 τ9,oD 19 (.callF 62 [XdK,(.const (.int .i64 2))]),oD 20 (.build [(.int .i64 0),(.int .i64 0)] [(0,1,Xda),(1,1,Xdz)]),oD 10 (.alloc [(.int .i64 0),(.int .i64 0)]),oN (.store 2 Xb9 Xd0)]) (.seq (.reg [oM 21 τ9,oD 22 (.callF 62 [Xd4,(.const (.int .i64 2))]),oM 23 τ9,oD 24 (.callF 62 [XeH,(.const (.int .i64 2))]),oM 11 Xeu,oM 12 Xel]) (.seq (.block 0 (.seq (.reg [oM 26 τ9,oD 27 (.callF 63 [Xef]),oM 25 XeJ]) (.cond XeM (.seq (.reg [oD 28 (.build [(.int .i64 0),(.int .i64 0)] []),oN (.store 2 τ6 XeC),oD 7 (.mv (.const (.string ⟨⟨[]⟩⟩))),oD 8 (.mv (.const (.int .i64 2)))]) .ret) (.seq (.reg [oM 30 Xb5,oD 31 (.bin .lss Xfi (.const (.int .i64 8))),oM 29 Xfc]) (.cond XeP (.seq (.reg [oD 32 (.build [(.int .i64 0),(.int .i64 0)] []),oN (.store 2 τ6 Xfn),oD 7 (.mv (.const (.string ⟨⟨[]⟩⟩))),oD 8 (.mv (.const (.int .i64 3)))]) .ret) (.seq (.reg [oM 34 Xb5,oM 35 τ0,oD 36 (.lenS Xfv),oD 37 (.bin .gtr Xfu XfI),oM 33 Xfk]) (.cond Xfl (.seq (.reg [oD 38 (.build [(.int .i64 0),(.int .i64 0)] []),oN (.store 2 τ6 XgG),oD 7 (.mv (.const (.string ⟨⟨[]⟩⟩))),oD 8 (.mv (.const (.int .i64 2)))]) .ret) .skip))))))) (.seq (.reg [oD 39 (.loadN [.bool,(.int .u64),(.int .u64)] τ4),oD 40 (.loadN [.bool,(.int .u64),(.int .u64)] τ5),oM 41 Xb5,oD 42 (.callF 109 [XgD,Xhj,(.const (.int .i64 17)),Xhg]),oM 13 Xhh]) (.seq (.block 1 (.seq (.reg [oM 44 XcQ,oD 45 (.bin .eql XhU (.const (.string ⟨⟨[]⟩⟩))),oM 43 XhB]) (.cond Xhn (.seq (.reg [oD 46 (.build [(.int .i64 0),(.int .i64 0)] []),oN (.store 2 τ6 Xh6),oD 7 (.mv (.const (.string ⟨⟨[]⟩⟩))),oD 8 (.mv (.const (.int .i64 1)))]) .ret) (.seq (.seq (.reg [oM 48 XcP,oD 49 (.bin .eql Xiz (.const (.int .i64 0))),oM 50 Xiy,oG 51 (.fieldA 0 τ4) 50 true,oG 52 (.load1 .bool XiC) 50 true,oD 53 (.pick XiB XjH (.const (.bool false))),oM 47 XjL]) (.cond Xh1 .skip (.reg [oM 54 XcP,oD 55 (.bin .neq XkZ (.const (.int .i64 0))),oM 56 Xk2,oG 57 (.mv XcQ) 56 true,oG 58 (.mv τ0) 56 true,oG 59 (.mv Xb5) 56 true,oG 60 (.sliceS XkY none (some Xlu)) 56 true,oG 61 (.bin .add Xks XlS) 56 true,oG 62 (.callF 131 [Xl7]) 56 true,oG 63 (.not Xm9) 56 true,oD 64 (.pick Xls XoC (.const (.bool false))),oM 47 Xn2]))) (.cond Xh1 (.seq (.reg [oD 65 (.build [(.int .i64 0),(.int .i64 0)] []),oN (.store 2 τ6 XoQ),oD 7 (.mv (.const (.string ⟨⟨[]⟩⟩))),oD 8 (.mv (.const (.int .i64 4)))]) .ret) .skip))))) (.seq XFj .ret)))))))
def XKE:VFn:=⟨70,XuR,[.cell 6 [(.int .i64),(.int .i64)] true,.tmp 7,.tmp 8]⟩
def XAr:VC:=.seq (.reg [oD 2 (.alloc [(.bool false),(.int .i64 0),(.int .u32 0),(.string ⟨⟨[]⟩⟩),(.string ⟨⟨[]⟩⟩),(.string ⟨⟨[]⟩⟩)]),oD 3 (.mv (.const (.int .i64 0)))]) (.seq (.reg [oM 9 τ0,oD 10 (.callF 61 [τ9]),oM 4 Xb9]) (.seq (.reg [oM 11 τ4,oD 12 (.callF 62 [Xb5,(.const (.int .i64 1))]),oM 5 XcP]) (.seq (.block 0 (.seq (.reg [oM 14 τ4,oD 15 (.callF 63 [Xde]),oM 13 Xdb]) (.cond XcQ (.seq (.reg [oD 16 (.build [(.bool false),(.int .i64 0),(.int .u32 0),(.string ⟨⟨[]⟩⟩),(.string ⟨⟨[]⟩⟩),(.string ⟨⟨[]⟩⟩)] []),oN (.store 6 τ2 Xdh),oD 3 (.mv (.const (.int .i64 2)))]) .ret) (.seq (.reg [oM 18 τ5,oD 19 (.bin .and XdK (.const (.int .i64 64))),oD 20 (.bin .eql Xdz (.const (.int .i64 0))),oM 17 Xd0]) (.cond Xda (.seq (.reg [oD 21 (.build [(.bool false),(.int .i64 0),(.int .u32 0),(.string ⟨⟨[]⟩⟩),(.string ⟨⟨[]⟩⟩),(.string ⟨⟨[]⟩⟩)] []),oN (.store 6 τ2 Xd4),oD 3 (.mv (.const (.int .i64 3)))]) .ret) .skip))))) (.seq (.reg [oM 22 τ5,oD 23 (.bin .and Xeu (.const (.int .i64 128))),oD 24 (.bin .neq XeH (.const (.int .i64 0))),oM 25 τ5,oD 26 (.bin .and XeM (.const (.int .i64 63))),oD 27 (.build [(.bool false),(.int .i64 0),(.int .u32 0),(.string ⟨⟨[]⟩⟩),(.string ⟨⟨[]⟩⟩),(.string ⟨⟨[]⟩⟩)] [(0,1,Xel),(1,1,Xef)]),oD 6 (.alloc [(.bool false),(.int .i64 0),(.int .u32 0),(.string ⟨⟨[]⟩⟩),(.string ⟨⟨[]⟩⟩),(.string ⟨⟨[]⟩⟩)]),oN (.store 6 τ6 XeJ)]) (.seq (.seq (.reg [oD 28 (.fieldA 0 τ6),oD 29 (.load1 .bool XeC),oD 30 (.not XeP)]) (.cond Xfi (.seq (.reg [oM 31 τ4,oD 32 (.mkFunc 64 [Xfc] []),oM 7 Xfn]) (.seq (.seq (.reg [oM 33 τ7,oD 34 (.callV Xfl [(.const (.int .i64 8))]),oD 35 (.fieldA 3 τ6),oN (.store 1 Xfv Xfu)]) (.seq (.reg [oM 36 τ4,oD 37 (.callF 63 [XfI])]) (.cond Xfk (.seq (.reg [oD 38 (.build [(.bool false),(.int .i64 0),(.int .u32 0),(.string ⟨⟨[]⟩⟩),(.string ⟨⟨[]⟩⟩),(.string ⟨⟨[]⟩⟩)] []),oN (.store 6 τ2 XgG),oD 3 (.mv (.const (.int .i64 2)))]) .ret) .skip))) (.seq (.reg [oM 39 τ4,oD 40 (.callF 65 [XgD]),oD 41 (.fieldA 5 τ6),oN (.store 1 Xhg Xhj)]) (.seq (.reg [oD 42 (.loadN [.bool,(.int .i64),(.int .u32),.str,.str,.str] τ6),oN (.store 6 τ2 Xhh),oD 3 (.mv (.const (.int .i64 0)))]) .ret)))) .skip)) (.seq (.reg [oM 43 τ4,oD 44 (.callF 62 [Xhn,(.const (.int .i64 4))]),oD 45 (.conv .u32 XhU),oD 46 (.fieldA 2 τ6),oN (.store 1 Xh6 XhB)]) (.seq (.seq (.reg [oM 47 τ4,oD 48 (.fieldA 3 τ6),oD 49 (.fieldA 4 τ6),oD 50 (.buildSl 2 1 [(.pointer none),(.pointer none)] [(0,1,Xiz),(1,1,Xiy)]),oD 51 (.callF 66 [(.func 67),Xh1,XiB]),oM 8 XiC]) (.seq (.reg [oM 52 τ8,oD 53 (.bin .neq XjH (.const (.int .i64 0)))]) (.cond XjL (.seq (.reg [oD 54 (.build [(.bool false),(.int .i64 0),(.int .u32 0),(.string ⟨⟨[]⟩⟩),(.string ⟨⟨[]⟩⟩),(.string ⟨⟨[]⟩⟩)] []),oM 55 τ8,oN (.store 6 τ2 XkZ),oM 3 Xk2]) .ret) .skip))) (.seq (.reg [oM 56 τ4,oD 57 (.callF 65 [Xls]),oD 58 (.fieldA 5 τ6),oN (.store 1 XkY Xks)]) (.seq (.reg [oD 59 (.loadN [.bool,(.int .i64),(.int .u32),.str,.str,.str] τ6),oN (.store 6 τ2 Xlu),oD 3 (.mv (.const (.int .i64 0)))]) .ret)))))))))
def fn39:VFn:=⟨60,XAr,[.cell 2 [.bool,(.int .i64),(.int .u32),.str,.str,.str] true,.tmp 3]⟩
def XGI:VC:=.seq (.reg [oD 2 (.mv (.const (.string ⟨⟨[]⟩⟩)))]) (.seq (.seq (.reg [oM 3 τ0,oD 4 (.callF 63 [τ3])]) (.cond τ4 (.seq (.reg [oD 2 (.mv (.const (.string ⟨⟨[]⟩⟩)))]) .ret) .skip)) (.seq (.reg [oM 5 τ0,oM 6 τ0,oD 7 (.nilCheck τ6),oD 8 (.fieldA 0 τ7),oD 9 (.load1 .str τ8),oD 10 (.lenS τ9),oD 11 (.callF 64 [τ5,Xb9]),oM 2 Xb5]) .ret))
def fn65:VFn:=⟨12,XGI,[.tmp 2]⟩
def XHY:VC:=.seq (.reg [oD 6 (.mv (.const (.int .i64 0)))]) (.seq (.seq (.reg [oM 11 τ2,oD 12 (.lenL Xb5),oD 13 (.mv (.const (.int .i64 0)))]) (.block 0 (.loop (.seq (.reg [oD 14 (.bin .lss XcQ XcP)]) (.seq (.cond Xde .skip (.exit 0)) (.seq (.block 1 (.seq (.reg [oD 15 (.idxAL 1 Xb5 XcQ),oD 16 (.load1 .oth Xdb),oM 8 Xdh]) (.seq (.reg [oM 18 τ0,oM 19 τ1,oD 20 (.callV XdK [Xdz]),oM 17 Xd0,oE 21 0 Xda,oE 22 1 Xda,oM 9 Xd4,oM 10 Xeu]) (.seq (.seq (.reg [oM 23 Xb9,oD 24 (.bin .neq XeH (.const (.int .i64 0)))]) (.cond Xel (.seq (.reg [oM 25 Xb9,oM 6 XeM]) .ret) .skip)) (.reg [oM 26 τ8,oM 27 τ9,oD 28 (.nilCheck Xef),oN (.store 1 XeC XeJ)]))))) (.reg [oD 29 (.bin .add XcQ (.const (.int .i64 1))),oM 13 XeP]))))))) (.seq (.reg [oD 6 (.mv (.const (.int .i64 0)))]) .ret))
def fn66:VFn:=⟨30,XHY,[.tmp 6]⟩
def XAM:VC:=.seq (.reg [oD 2 (.mv (.const (.string ⟨⟨[]⟩⟩))),oD 3 (.mv (.const (.int .i64 0)))]) (.seq (.reg [oM 6 τ0,oD 7 (.callF 62 [τ6,(.const (.int .i64 1))]),oM 4 τ7]) (.seq (.seq (.reg [oM 8 τ0,oD 9 (.callF 63 [τ8]),oD 10 (.not τ9),oM 11 Xb9,oG 12 (.mv τ4) 11 true,oG 13 (.bin .gtr XcP (.const (.int .i64 20))) 11 true,oD 14 (.pick Xb5 XcQ (.const (.bool false)))]) (.cond Xde (.seq (.reg [oD 2 (.mv (.const (.string ⟨⟨[]⟩⟩))),oD 3 (.mv (.const (.int .i64 3)))]) .ret) .skip)) (.seq (.reg [oM 15 τ0,oM 16 τ4,oD 17 (.callF 64 [Xdb,Xdh]),oM 5 Xda]) (.seq (.seq (.reg [oM 18 τ0,oD 19 (.callF 63 [XdK])]) (.cond Xdz (.seq (.reg [oD 2 (.mv (.const (.string ⟨⟨[]⟩⟩))),oD 3 (.mv (.const (.int .i64 2)))]) .ret) .skip)) (.seq (.reg [oM 20 τ5,oM 2 Xd0,oD 3 (.mv (.const (.int .i64 0)))]) .ret)))))
def fn67:VFn:=⟨21,XAM,[.tmp 2,.tmp 3]⟩
def XHf:VC:=.seq (.reg [oD 3 (.box τ0),oD 4 (.box τ1),oD 5 (.box τ2),oD 6 (.mv (.const (.string ⟨⟨[]⟩⟩))),oD 7 (.mv (.const (.int .i64 0)))]) (.seq (.reg [oD 11 (.loadN [(.int .i64),(.int .i64),(.int .i64),.str] τ3),oD 12 (.loadN [.bool,(.int .u64),(.int .u64)] τ4),oD 13 (.loadN [.bool,(.int .u64),(.int .u64)] τ5),oD 14 (.callF 47 [Xb5,XcP,XcQ]),oM 10 Xde,oE 15 0 Xb9,oE 16 1 Xb9,oM 8 Xdb,oM 9 Xdh]) (.seq (.block 0 (.seq (.reg [oM 18 τ9,oD 19 (.bin .neq XdK (.const (.int .i64 0))),oM 17 Xdz]) (.cond Xda (.seq (.reg [oM 20 τ9,oD 6 (.mv (.const (.string ⟨⟨[]⟩⟩))),oM 7 Xd0]) .ret) (.seq (.reg [oD 22 (.fieldA 0 τ4),oD 23 (.load1 .bool Xeu),oM 21 XeH]) (.cond Xd4 (.seq (.reg [oD 24 (.loadN [.bool,(.int .u64),(.int .u64)] τ4),oD 25 (.loadN [.bool,(.int .u64),(.int .u64)] τ5),oD 26 (.build [(.int .i64 0),(.int .i64 0),(.int .i64 0),(.int .i64 0),(.bool false),(.int .u64 0),(.int .u64 0),(.bool false),(.int .u64 0),(.int .u64 0)] [(2,1,(.const (.int .i64 58))),(3,1,(.const (.int .i64 64))),(4,3,Xel),(7,3,XeM)]),oM 27 τ8,oD 28 (.callF 48 [Xef,XeJ]),oE 29 0 XeC,oE 30 1 XeC,oM 6 XeP,oM 7 Xfi]) .ret) .skip))))) (.seq (.reg [oD 31 (.loadN [.bool,(.int .u64),(.int .u64)] τ4),oD 32 (.loadN [.bool,(.int .u64),(.int .u64)] τ5),oD 33 (.build [(.int .i64 0),(.int .i64 0),(.bool false),(.int .i64 0),(.int .i64 0),(.bool false),(.int .u64 0),(.int .u64 0),(.bool false),(.int .u64 0),(.int .u64 0),(.string ⟨⟨[]⟩⟩)] [(2,1,(.const (.bool true))),(3,1,(.const (.int .i64 64))),(4,1,(.const (.int .i64 1))),(5,3,Xfc),(8,3,Xfn)]),oM 34 τ8,oD 35 (.callF 49 [Xfl,Xfu]),oE 36 0 Xfv,oE 37 1 Xfv,oM 6 XfI,oM 7 Xfk]) .ret)))
def fn25:VFn:=⟨38,XHf,[.tmp 6,.tmp 7]⟩
def k47_7:VC:=.regD [oD 31 (.callF 76 []),oD 32 (.fieldA 0 τ3),oD 33 (.load1 (.int .i64) Xfn),oD 34 (.idxVN 4 2 Xfc Xfl),oD 35 (.fieldA 0 τ4),oD 36 (.load1 .bool Xfv),oD 37 (.callF 77 [XfI])] [(0,2),(0,5),(2,6)] [oD 38 (.idxV1 2 Xfu Xfk),oM 10 XgG]
def k47_8:VC:=.regD [oM 39 Xb9,oD 40 (.conv .u64 XgD),oD 41 (.bin .shl Xhj (.const (.int .u64 8))),oD 42 (.fieldA 1 τ3),oD 43 (.load1 (.int .i64) Xhh),oD 44 (.conv .u64 Xhn),oD 45 (.bin .or Xhg XhU),oD 46 (.callF 42 [XhB,(.const (.int .i64 2))]),oD 47 (.fieldA 2 τ3),oD 48 (.load1 (.int .i64) Xh1),oD 49 (.conv .u64 Xiz),oD 50 (.callF 42 [Xiy,(.const (.int .i64 6))]),oD 51 (.bin .add Xh6 XiB),oD 52 (.fieldA 3 τ3),oD 53 (.load1 .str XjH)] [(7,9),(7,14),(11,14)] [oD 54 (.bin .add XiC XjL),oM 11 XkZ]
def XIh:VC:=.seq (.reg [oD 3 (.box τ0),oD 4 (.box τ1),oD 5 (.box τ2),oD 6 (.mv (.const (.string ⟨⟨[]⟩⟩))),oD 7 (.mv (.const (.int .i64 0)))]) (.seq (.reg [oD 13 (.loadN [.bool,(.int .u64),(.int .u64)] τ4),oD 14 (.loadN [.bool,(.int .u64),(.int .u64)] τ5),oD 15 (.fieldA 3 τ3),oD 16 (.load1 .str Xdb),oD 17 (.lenS Xdh),oD 18 (.bin .add (.const (.int .i64 8)) Xda),oD 19 (.callF 74 [XcQ,Xde,XdK]),oM 12 Xdz,oE 20 0 XcP,oE 21 1 XcP,oM 8 Xd0,oM 9 Xd4]) (.seq (.seq (.reg [oM 22 τ9,oD 23 (.not Xeu),oM 24 XeH,oG 25 (.loadN [(.int .i64),(.int .i64),(.int .i64),.str] τ3) 24 false,oG 26 (.fieldA 0 τ4) 24 false,oG 27 (.load1 .bool Xef) 24 false,oG 28 (.callF 75 [XeM,XeJ]) 24 false,oG 29 (.not XeC) 24 false,oD 30 (.pick Xel (.const (.bool true)) XeP)]) (.cond Xfi (.seq (.reg [oD 6 (.mv (.const (.string ⟨⟨[]⟩⟩))),oD 7 (.mv (.const (.int .i64 1)))]) .ret) .skip)) (.seq k47_7 (.seq k47_8 (.seq (.reg [oM 55 Xb5,oM 56 τ8,oM 57 Xb5,oD 58 (.bin .add Xls Xks),oD 59 (.callF 78 [XkY]),oD 60 (.conv .u64 Xlu),oD 61 (.callF 43 [Xk2,(.const (.int .i64 2)),(.const (.int .i64 2)),XlS]),oM 6 Xl7,oD 7 (.mv (.const (.int .i64 0)))]) .ret)))))
def fn47:VFn:=⟨62,XIh,[.tmp 6,.tmp 7]⟩
def XGG:VC:=.seq (.reg [oD 3 (.box τ0),oD 4 (.box τ1),oD 6 (.mv (.const (.string ⟨⟨[]⟩⟩))),oD 7 (.mv (.const (.bool false)))]) (.seq (.reg [oD 9 (.loadN [.bool,(.int .u64),(.int .u64)] τ3),oD 10 (.loadN [.bool,(.int .u64),(.int .u64)] τ4),oM 11 τ2,oD 12 (.callF 109 [τ9,Xb9,(.const (.int .i64 58)),Xb5]),oM 8 XcP]) (.seq (.seq (.reg [oM 13 τ8,oD 14 (.bin .eql XcQ (.const (.string ⟨⟨[]⟩⟩))),oM 15 Xde,oG 16 (.fieldA 0 τ3) 15 false,oG 17 (.load1 .bool Xdh) 15 false,oD 18 (.pick Xdb (.const (.bool true)) Xda)]) (.cond XdK (.seq (.reg [oM 19 τ8,oM 20 τ8,oD 21 (.bin .neq Xd0 (.const (.string ⟨⟨[]⟩⟩))),oM 6 Xdz,oM 7 Xd4]) .ret) .skip)) (.seq (.reg [oD 6 (.mv (.const (.string ⟨⟨[]⟩⟩))),oD 7 (.mv (.const (.bool true)))]) .ret)))
def fn74:VFn:=⟨22,XGG,[.tmp 6,.tmp 7]⟩
def k75_9:VC:=.seq (.reg [oD 2 (.box τ0),oD 4 (.mv (.const (.bool false)))]) (.seq (.seq (.reg [oD 5 (.fieldA 0 τ2),oD 6 (.load1 (.int .i64) τ5),oD 7 (.bin .lss τ6 (.const (.int .i64 1))),oM 8 τ7,oG 9 (.fieldA 0 τ2) 8 false,oG 10 (.load1 (.int .i64) τ9) 8 false,oG 11 (.bin .gtr Xb9 (.const (.int .i64 3))) 8 false,oD 12 (.pick τ8 (.const (.bool true)) Xb5),oM 13 XcP,oG 14 (.fieldA 1 τ2) 13 false,oG 15 (.load1 (.int .i64) Xde) 13 false,oG 16 (.callF 110 [Xdb,(.const (.int .i64 255))]) 13 false,oG 17 (.not Xdh) 13 false,oD 18 (.pick XcQ (.const (.bool true)) Xda),oM 19 XdK,oG 20 (.fieldA 2 τ2) 19 false,oG 21 (.load1 (.int .i64) Xd0) 19 false,oG 22 (.callF 110 [Xd4,(.const (.int .i64 65535))]) 19 false,oG 23 (.not Xeu) 19 false,oD 24 (.pick Xdz (.const (.bool true)) XeH),oM 25 Xel,oG 26 (.fieldA 3 τ2) 25 false,oG 27 (.load1 .str Xef) 25 false,oG 28 (.lenS XeJ) 25 false,oG 29 (.bin .gtr XeC (.const (.int .i64 1232))) 25 false,oD 30 (.pick XeM (.const (.bool true)) XeP)]) (.cond Xfi (.seq (.reg [oD 4 (.mv (.const (.bool false)))]) .ret) .skip)) (.seq (.reg [oD 31 (.fieldA 0 τ2),oD 32 (.load1 (.int .i64) Xfc),oD 33 (.fieldA 1 τ2),oD 34 (.load1 (.int .i64) Xfl),oM 35 τ1,oD 36 (.callF 111 [Xfn,Xfu,Xfv]),oM 37 XfI,oG 38 (.fieldA 0 τ2) 37 true,oG 39 (.load1 (.int .i64) XgG) 37 true,oG 40 (.bin .eql XgD (.const (.int .i64 2))) 37 true,oG 41 (.mv Xhj) 37 true,oG 42 (.fieldA 2 τ2) 41 false,oG 43 (.load1 (.int .i64) Xhh) 41 false,oG 44 (.bin .eql Xhn (.const (.int .i64 0))) 41 false,oG 45 (.pick Xhg (.const (.bool true)) XhU) 37 true,oD 46 (.pick Xfk XhB (.const (.bool false))),oM 4 Xh6]) .ret))
def fn75:VFn:=⟨47,k75_9,[.tmp 4]⟩
def XLn:VC:=.seq (.reg [oD 4 (.mv (.const (.bool false)))]) (.seq (.reg [oM 5 τ0,oD 6 (.bin .leq (.const (.int .i64 0)) τ5),oM 7 τ6,oG 8 (.mv τ0) 7 true,oG 9 (.mv τ1) 7 true,oG 10 (.bin .leq τ8 τ9) 7 true,oD 11 (.pick τ7 Xb9 (.const (.bool false))),oM 4 Xb5]) .ret)
def XIq:VFn:=⟨12,XLn,[.tmp 4]⟩
def XEj:VC:=.seq (.reg [oD 6 (.mv (.const (.bool false)))]) (.seq (.block 0 (.seq (.reg [oM 8 τ0,oD 9 (.bin .eql τ8 (.const (.int .i64 2))),oM 10 τ9,oG 11 (.mv τ2) 10 true,oD 12 (.pick Xb9 Xb5 (.const (.bool false))),oM 7 XcP]) (.cond τ7 (.seq (.reg [oM 13 τ1,oD 14 (.bin .eql XcQ (.const (.int .i64 0))),oM 6 Xde]) .ret) (.seq (.reg [oM 16 τ0,oD 17 (.bin .eql Xdh (.const (.int .i64 2))),oM 15 Xda]) (.cond Xdb (.seq (.reg [oM 18 τ1,oD 19 (.bin .eql XdK (.const (.int .i64 4))),oM 6 Xdz]) .ret) (.seq (.reg [oM 21 τ0,oD 22 (.bin .eql Xd4 (.const (.int .i64 1))),oM 23 Xeu,oG 24 (.mv τ2) 23 true,oG 25 (.not Xel) 23 true,oD 26 (.pick XeH XeM (.const (.bool false))),oM 20 Xef]) (.cond Xd0 (.seq (.reg [oM 27 τ1,oD 28 (.bin .neq XeJ (.const (.int .i64 4))),oM 6 XeC]) .ret) .skip))))))) (.seq (.reg [oD 6 (.mv (.const (.bool true)))]) .ret))
def XJJ:VFn:=⟨29,XEj,[.tmp 6]⟩
def k76_3:VC:=.seq (.reg [oD 0 (.alloc [(.int .i64 0),(.int .i64 0),(.int .i64 0),(.int .i64 0),(.int .i64 0),(.int .i64 0),(.int .i64 0),(.int .i64 0)])]) (.seq (.reg [oD 1 (.build [(.int .i64 0),(.int .i64 0)] [(0,1,(.const (.int .i64 (-1)))),(1,1,(.const (.int .i64 (-1))))]),oD 2 (.build [(.int .i64 0),(.int .i64 0)] [(0,1,(.const (.int .i64 3))),(1,1,(.const (.int .i64 1)))]),oD 3 (.build [(.int .i64 0),(.int .i64 0)] [(0,1,(.const (.int .i64 3))),(1,1,(.const (.int .i64 2)))]),oD 4 (.build [(.int .i64 0),(.int .i64 0)] [(0,1,(.const (.int .i64 11))),(1,1,(.const (.int .i64 3)))]),oD 5 (.build [(.int .i64 0),(.int .i64 0),(.int .i64 0),(.int .i64 0),(.int .i64 0),(.int .i64 0),(.int .i64 0),(.int .i64 0)] [(0,2,τ1),(2,2,τ2),(4,2,τ3),(6,2,τ4)]),oN (.store 8 τ0 τ5)]) .ret)
def fn76:VFn:=⟨6,k76_3,[.cell 0 [(.int .i64),(.int .i64),(.int .i64),(.int .i64),(.int .i64),(.int .i64),(.int .i64),(.int .i64)] true]⟩
def k77_9:VC:=.seq (.reg [oD 2 (.mv (.const (.int .i64 0)))]) (.seq (.seq (.reg [oM 3 τ0]) (.cond τ3 (.seq (.reg [oD 2 (.mv (.const (.int .i64 1)))]) .ret) .skip)) (.seq (.reg [oD 2 (.mv (.const (.int .i64 0)))]) .ret))
def fn77:VFn:=⟨4,k77_9,[.tmp 2]⟩
def k78_3:VC:=.seq (.reg [oD 2 (.mv (.const (.int .i64 0)))]) (.seq (.reg [oM 3 τ0,oD 4 (.callF 112 [τ3]),oD 5 (.bin .sub (.const (.int .i64 65535)) τ4),oM 2 τ5]) .ret)
def fn78:VFn:=⟨6,k78_3,[.tmp 2]⟩
def k43_7:VC:=.regD [oM 28 τ0,oM 29 τ1,oD 30 (.sliceS XeC none (some XeP)),oM 31 τ9,oD 32 (.bin .add Xfi Xfc),oM 33 τ0,oM 34 τ1,oM 35 τ2,oD 36 (.bin .add Xfu Xfv),oD 37 (.sliceS Xfl (some XfI) none)] [] [oD 38 (.bin .add Xfn Xfk),oM 8 XgG]
def XzB:VC:=.seq (.reg [oD 8 (.mv (.const (.string ⟨⟨[]⟩⟩)))]) (.seq (.reg [oM 10 τ3,oM 11 τ2,oD 12 (.callF 42 [Xb9,Xb5]),oM 9 XcP]) (.seq (.seq (.reg [oM 13 τ9,oD 14 (.bin .eql XcQ (.const (.string ⟨⟨[]⟩⟩))),oM 15 Xde,oG 16 (.mv τ1) 15 false,oG 17 (.bin .lss Xdh (.const (.int .i64 0))) 15 false,oD 18 (.pick Xdb (.const (.bool true)) Xda),oM 19 XdK,oG 20 (.mv τ0) 19 false,oG 21 (.lenS Xd0) 19 false,oG 22 (.mv τ2) 19 false,oG 23 (.bin .sub Xd4 Xeu) 19 false,oG 24 (.mv τ1) 19 false,oG 25 (.bin .lss XeH Xel) 19 false,oD 26 (.pick Xdz (.const (.bool true)) XeM)]) (.cond Xef (.seq (.reg [oM 27 τ0,oM 8 XeJ]) .ret) .skip)) (.seq k43_7 .ret)))
def fn43:VFn:=⟨39,XzB,[.tmp 8]⟩
def XHJ:VC:=.regD [oM 40 τ6,oM 41 τ7,oD 42 (.bin .add Xhj Xhg),oD 43 (.fieldA 4 τ2),oD 44 (.loadN [.bool,(.int .u64),(.int .u64)] Xhn),oD 45 (.callF 80 [XhU]),oD 46 (.bin .add Xhh XhB),oD 47 (.fieldA 7 τ2),oD 48 (.loadN [.bool,(.int .u64),(.int .u64)] Xh1),oD 49 (.callF 80 [Xiz]),oD 50 (.bin .add Xh6 Xiy),oM 51 τ1] [(5,8)] [oD 52 (.bin .add XiB XiC),oM 4 XjH,oD 5 (.mv (.const (.int .i64 0)))]
def XH3:VC:=.seq (.reg [oD 2 (.box τ0),oD 4 (.mv (.const (.string ⟨⟨[]⟩⟩))),oD 5 (.mv (.const (.int .i64 0)))]) (.seq (.block 0 (.seq (.reg [oD 9 (.loadN [(.int .i64),(.int .i64),(.int .i64),(.int .i64),.bool,(.int .u64),(.int .u64),.bool,(.int .u64),(.int .u64)] τ2),oD 10 (.callF 79 [τ9]),oD 11 (.not Xb9),oM 8 Xb5]) (.cond τ8 (.seq (.reg [oD 4 (.mv (.const (.string ⟨⟨[]⟩⟩))),oD 5 (.mv (.const (.int .i64 1)))]) .ret) (.seq (.reg [oM 13 τ1,oD 14 (.lenS XcQ),oD 15 (.bin .gtr Xde (.const (.int .i64 65535))),oM 12 Xdb]) (.cond XcP (.seq (.reg [oD 4 (.mv (.const (.string ⟨⟨[]⟩⟩))),oD 5 (.mv (.const (.int .i64 5)))]) .ret) .skip))))) (.seq (.reg [oD 16 (.fieldA 0 τ2),oD 17 (.load1 (.int .i64) Xdh),oD 18 (.conv .u64 Xda),oD 19 (.bin .shl XdK (.const (.int .u64 20))),oD 20 (.bin .or (.const (.int .u64 1610612736)) Xdz),oD 21 (.fieldA 1 τ2),oD 22 (.load1 (.int .i64) Xd4),oD 23 (.conv .u64 Xeu),oD 24 (.bin .or Xd0 XeH),oD 25 (.callF 42 [Xel,(.const (.int .i64 4))]),oM 6 XeM]) (.seq (.reg [oM 26 τ1,oD 27 (.lenS Xef),oD 28 (.conv .u64 XeJ),oD 29 (.bin .shl XeC (.const (.int .u64 16))),oD 30 (.fieldA 2 τ2),oD 31 (.load1 (.int .i64) Xfi),oD 32 (.conv .u64 Xfc),oD 33 (.bin .shl Xfn (.const (.int .u64 8))),oD 34 (.bin .or XeP Xfl),oD 35 (.fieldA 3 τ2),oD 36 (.load1 (.int .i64) Xfv),oD 37 (.conv .u64 XfI),oD 38 (.bin .or Xfu Xfk),oD 39 (.callF 42 [XgG,(.const (.int .i64 4))]),oM 7 XgD]) (.seq XHJ .ret))))
def fn48:VFn:=⟨53,XH3,[.tmp 4,.tmp 5]⟩
def XLy:VC:=.seq (.reg [oD 1 (.box τ0),oD 2 (.mv (.const (.bool false)))]) (.seq (.seq (.reg [oD 5 (.fieldA 0 τ1),oD 6 (.load1 (.int .i64) τ5),oD 7 (.build [(.int .i64 0),(.int .i64 0)] [(0,1,τ6),(1,1,(.const (.int .i64 255)))]),oD 8 (.fieldA 1 τ1),oD 9 (.load1 (.int .i64) τ8),oD 10 (.build [(.int .i64 0),(.int .i64 0)] [(0,1,τ9),(1,1,(.const (.int .i64 1048575)))]),oD 11 (.fieldA 2 τ1),oD 12 (.load1 (.int .i64) Xb5),oD 13 (.build [(.int .i64 0),(.int .i64 0)] [(0,1,XcP),(1,1,(.const (.int .i64 255)))]),oD 14 (.fieldA 3 τ1),oD 15 (.load1 (.int .i64) Xde),oD 16 (.build [(.int .i64 0),(.int .i64 0)] [(0,1,Xdb),(1,1,(.const (.int .i64 255)))]),oD 17 (.buildSl 4 2 [(.int .i64 0),(.int .i64 0),(.int .i64 0),(.int .i64 0),(.int .i64 0),(.int .i64 0),(.int .i64 0),(.int .i64 0)] [(0,2,τ7),(2,2,Xb9),(4,2,XcQ),(6,2,Xdh)]),oD 18 (.lenL Xda),oD 19 (.mv (.const (.int .i64 0)))]) (.block 0 (.loop (.seq (.reg [oD 20 (.bin .lss Xdz XdK)]) (.seq (.cond Xd0 .skip (.exit 0)) (.seq (.block 1 (.seq (.reg [oD 21 (.idxAL 2 Xda Xdz),oD 22 (.loadN [(.int .i64),(.int .i64)] Xd4),oD 4 (.alloc [(.int .i64 0),(.int .i64 0)]),oN (.store 2 τ4 Xeu)]) (.seq (.reg [oD 23 (.idxAA 2 1 τ4 (.const (.int .i64 0))),oD 24 (.load1 (.int .i64) XeH),oD 25 (.bin .lss Xel (.const (.int .i64 0))),oM 26 XeM,oG 27 (.idxAA 2 1 τ4 (.const (.int .i64 0))) 26 false,oG 28 (.load1 (.int .i64) XeJ) 26 false,oG 29 (.idxAA 2 1 τ4 (.const (.int .i64 1))) 26 false,oG 30 (.load1 (.int .i64) XeP) 26 false,oG 31 (.bin .gtr XeC Xfi) 26 false,oD 32 (.pick Xef (.const (.bool true)) Xfc)]) (.cond Xfn (.seq (.reg [oD 2 (.mv (.const (.bool false)))]) .ret) .skip)))) (.reg [oD 33 (.bin .add Xdz (.const (.int .i64 1))),oM 19 Xfl]))))))) (.seq (.reg [oD 34 (.fieldA 4 τ1),oD 35 (.fieldA 0 Xfu),oD 36 (.load1 .bool Xfv),oM 37 XfI,oG 38 (.fieldA 7 τ1) 37 true,oG 39 (.fieldA 0 XgG) 37 true,oG 40 (.load1 .bool XgD) 37 true,oD 41 (.pick Xfk Xhj (.const (.bool false))),oM 2 Xhg]) .ret))
def fn79:VFn:=⟨42,XLy,[.tmp 2]⟩
def XIa:VC:=.regD [oM 43 τ8,oD 44 (.fieldA 5 τ2),oD 45 (.loadN [.bool,(.int .u64),(.int .u64)] XhU),oD 46 (.callF 80 [XhB]),oD 47 (.fieldA 8 τ2),oD 48 (.loadN [.bool,(.int .u64),(.int .u64)] Xh1),oD 49 (.callF 80 [Xiz]),oD 50 (.bin .add Xh6 Xiy),oD 51 (.fieldA 11 τ2),oD 52 (.load1 .str XiC),oD 53 (.bin .add XiB XjH)] [(3,5),(3,9),(6,9)] [oD 54 (.bin .add Xhn XjL),oM 8 XkZ]
def XIt:VC:=.seq (.reg [oD 2 (.box τ0),oD 4 (.mv (.const (.string ⟨⟨[]⟩⟩))),oD 5 (.mv (.const (.int .i64 0)))]) (.seq (.reg [oD 9 (.fieldA 11 τ2),oD 10 (.load1 .str τ9),oD 11 (.lenS Xb9),oD 12 (.bin .add (.const (.int .i64 20)) Xb5),oM 6 XcP]) (.seq (.block 0 (.seq (.reg [oD 14 (.loadN [(.int .i64),(.int .i64),.bool,(.int .i64),(.int .i64),.bool,(.int .u64),(.int .u64),.bool,(.int .u64),(.int .u64),.str] τ2),oD 15 (.callF 81 [Xde]),oD 16 (.not Xdb),oM 13 Xdh]) (.cond XcQ (.seq (.reg [oD 4 (.mv (.const (.string ⟨⟨[]⟩⟩))),oD 5 (.mv (.const (.int .i64 1)))]) .ret) (.seq (.reg [oM 18 τ1,oD 19 (.lenS XdK),oM 20 τ6,oD 21 (.bin .sub (.const (.int .i64 65535)) Xd0),oD 22 (.bin .gtr Xdz Xd4),oM 17 Xeu]) (.cond Xda (.seq (.reg [oD 4 (.mv (.const (.string ⟨⟨[]⟩⟩))),oD 5 (.mv (.const (.int .i64 5)))]) .ret) .skip))))) (.seq (.reg [oD 7 (.mv (.const (.int .i64 0)))]) (.seq (.seq (.reg [oD 23 (.fieldA 2 τ2),oD 24 (.load1 .bool XeH)]) (.cond Xel (.reg [oD 7 (.mv (.const (.int .i64 64)))]) .skip)) (.seq (.reg [oM 25 τ6,oD 26 (.bin .quo XeM (.const (.int .i64 4))),oD 27 (.bin .or (.const (.int .i64 64)) Xef),oD 28 (.fieldA 0 τ2),oD 29 (.load1 (.int .i64) XeC),oM 30 τ6,oM 31 τ1,oD 32 (.lenS Xfc),oD 33 (.bin .add Xfi Xfn),oD 34 (.fieldA 1 τ2),oD 35 (.load1 (.int .i64) Xfu),oM 36 τ7,oD 37 (.fieldA 3 τ2),oD 38 (.load1 (.int .i64) Xfk),oD 39 (.fieldA 4 τ2),oD 40 (.load1 (.int .i64) XgD),oD 41 (.buildSl 18 1 [(.int .i64 0),(.int .i64 0),(.int .i64 0),(.int .i64 0),(.int .i64 0),(.int .i64 0),(.int .i64 0),(.int .i64 0),(.int .i64 0),(.int .i64 0),(.int .i64 0),(.int .i64 0),(.int .i64 0),(.int .i64 0),(.int .i64 0),(.int .i64 0),(.int .i64 0),(.int .i64 0)] [(0,1,XeJ),(1,1,(.const (.int .i64 1))),(2,1,XeP),(3,1,(.const (.int .i64 1))),(4,1,Xfl),(5,1,(.const (.int .i64 2))),(6,1,Xfv),(7,1,(.const (.int .i64 2))),(8,1,XfI),(9,1,(.const (.int .i64 1))),(10,1,(.const (.int .i64 0))),(11,1,(.const (.int .i64 1))),(12,1,XgG),(13,1,(.const (.int .i64 1))),(14,1,Xhj),(15,1,(.const (.int .i64 1))),(16,1,(.const (.int .i64 0))),(17,1,(.const (.int .i64 2)))]),oD 42 (.callF 82 [Xhg]),oM 8 Xhh]) (.seq XIa (.seq (.reg [oM 55 τ8,oM 56 τ8,oD 57 (.callF 78 [Xls]),oD 58 (.conv .u64 Xks),oD 59 (.callF 43 [Xk2,(.const (.int .i64 10)),(.const (.int .i64 2)),XkY]),oM 60 τ1,oD 61 (.bin .add Xlu XlS),oM 4 Xl7,oD 5 (.mv (.const (.int .i64 0)))]) .ret)))))))
def fn49:VFn:=⟨62,XIt,[.tmp 4,.tmp 5]⟩
def k81_9:VC:=.seq (.reg [oD 1 (.box τ0),oD 2 (.mv (.const (.bool false)))]) (.seq (.seq (.reg [oD 3 (.fieldA 0 τ1),oD 4 (.load1 (.int .i64) τ3),oD 5 (.callF 114 [τ4,(.const (.int .i64 255))]),oD 6 (.not τ5),oM 7 τ6,oG 8 (.fieldA 1 τ1) 7 false,oG 9 (.load1 (.int .i64) τ8) 7 false,oG 10 (.callF 114 [τ9,(.const (.int .i64 65535))]) 7 false,oG 11 (.not Xb9) 7 false,oD 12 (.pick τ7 (.const (.bool true)) Xb5),oM 13 XcP,oG 14 (.fieldA 3 τ1) 13 false,oG 15 (.load1 (.int .i64) Xde) 13 false,oG 16 (.callF 114 [Xdb,(.const (.int .i64 255))]) 13 false,oG 17 (.not Xdh) 13 false,oD 18 (.pick XcQ (.const (.bool true)) Xda),oM 19 XdK,oG 20 (.fieldA 4 τ1) 19 false,oG 21 (.load1 (.int .i64) Xd0) 19 false,oG 22 (.callF 114 [Xd4,(.const (.int .i64 255))]) 19 false,oG 23 (.not Xeu) 19 false,oD 24 (.pick Xdz (.const (.bool true)) XeH)]) (.cond Xel (.seq (.reg [oD 2 (.mv (.const (.bool false)))]) .ret) .skip)) (.seq (.reg [oD 25 (.fieldA 5 τ1),oD 26 (.loadN [.bool,(.int .u64),(.int .u64)] XeM),oD 27 (.callF 115 [Xef]),oM 28 XeJ,oG 29 (.fieldA 8 τ1) 28 true,oG 30 (.loadN [.bool,(.int .u64),(.int .u64)] XeP) 28 true,oG 31 (.callF 115 [Xfi]) 28 true,oD 32 (.pick XeC Xfc (.const (.bool false))),oM 33 Xfn,oG 34 (.fieldA 11 τ1) 33 true,oG 35 (.load1 .str Xfu) 33 true,oG 36 (.lenS Xfv) 33 true,oG 37 (.bin .rem XfI (.const (.int .i64 4))) 33 true,oG 38 (.bin .eql Xfk (.const (.int .i64 0))) 33 true,oD 39 (.pick Xfl XgG (.const (.bool false))),oM 40 XgD,oG 41 (.fieldA 11 τ1) 40 true,oG 42 (.load1 .str Xhg) 40 true,oG 43 (.lenS Xhh) 40 true,oG 44 (.bin .leq Xhn (.const (.int .i64 40))) 40 true,oD 45 (.pick Xhj XhU (.const (.bool false))),oM 2 XhB]) .ret))
def fn81:VFn:=⟨46,k81_9,[.tmp 2]⟩
def XH0:VC:=.seq (.reg [oD 4 (.mv (.const (.bool false)))]) (.seq (.reg [oM 5 τ0,oD 6 (.bin .leq (.const (.int .i64 0)) τ5),oM 7 τ6,oG 8 (.mv τ0) 7 true,oG 9 (.mv τ1) 7 true,oG 10 (.bin .leq τ8 τ9) 7 true,oD 11 (.pick τ7 Xb9 (.const (.bool false))),oM 4 Xb5]) .ret)
def XLL:VFn:=⟨12,XH0,[.tmp 4]⟩
def XJx:VC:=.seq (.reg [oD 1 (.box τ0),oD 2 (.mv (.const (.bool false)))]) (.seq (.reg [oD 3 (.fieldA 0 τ1),oD 4 (.load1 .bool τ3),oD 5 (.not τ4),oM 6 τ5,oG 7 (.loadN [.bool,(.int .u64),(.int .u64)] τ1) 6 true,oG 8 (.callF 113 [τ7]) 6 true,oD 9 (.pick τ6 τ8 (.const (.bool false))),oM 2 τ9]) .ret)
def XJW:VFn:=⟨10,XJx,[.tmp 2]⟩
def k7_17:VC:=.regD [oM 28 τ1,oM 29 τ2,oD 30 (.callF 9 [XeC,XeP]),oM 31 τ0,oD 32 (.sliceS Xfc none (some (.const (.int .i64 28)))),oD 33 (.build [(.int .i64 0),(.int .i64 0),(.int .i64 0),(.string ⟨⟨[]⟩⟩)] [(0,1,(.const (.int .i64 2))),(1,1,(.const (.int .i64 4))),(2,1,Xfi),(3,1,Xfn)]),oD 10 (.alloc [(.int .i64 0),(.int .i64 0),(.int .i64 0),(.string ⟨⟨[]⟩⟩)])] [(2,6)] [oN (.store 4 Xb9 Xfl)]
def k7_19:VC:=.regD [oM 38 τ1,oM 39 τ2,oD 40 (.callF 9 [XgG,XgD]),oM 41 τ0,oD 42 (.sliceS Xhg none (some (.const (.int .i64 48))))] [] [oD 43 (.build [(.int .i64 0),(.int .i64 0),(.int .i64 0),(.string ⟨⟨[]⟩⟩)] [(0,1,(.const (.int .i64 2))),(2,1,Xhj),(3,1,Xhh)]),oN (.store 4 Xb9 Xhn)]
def k7_30:VC:=.seq (.reg [oD 6 (.mv (.const (.string ⟨⟨[]⟩⟩))),oD 7 (.mv (.const (.int .i64 0)))]) (.seq (.reg [oM 12 τ0,oD 13 (.callF 15 [XcP]),oM 11 XcQ,oE 14 0 Xb5,oE 15 1 Xb5,oD 8 (.alloc [(.int .i64 0),(.bool false),(.int .u64 0),(.int .u64 0),(.bool false),(.int .u64 0),(.int .u64 0),(.int .i64 0),(.int .i64 0),(.int .i64 0),(.bool false),(.int .u32 0),(.int .u32 0),(.bool false),(.string ⟨⟨[]⟩⟩),(.int .i64 0)]),oN (.store 16 τ8 Xde),oM 9 Xdb]) (.seq (.seq (.reg [oM 16 τ9,oD 17 (.bin .neq Xdh (.const (.int .i64 0)))]) (.cond Xda (.seq (.reg [oM 18 τ9,oD 6 (.mv (.const (.string ⟨⟨[]⟩⟩))),oM 7 XdK]) .ret) .skip)) (.seq (.seq (.reg [oM 19 τ0,oD 20 (.lenS Xdz),oM 21 τ1,oM 22 τ2,oD 23 (.callF 9 [Xd4,Xeu]),oD 24 (.bin .leq Xd0 XeH)]) (.cond Xel (.seq (.reg [oD 6 (.mv (.const (.string ⟨⟨[]⟩⟩))),oD 7 (.mv (.const (.int .i64 11)))]) .ret) .skip)) (.seq (.seq (.reg [oM 25 τ1,oD 26 (.callF 26 [XeM]),oD 27 (.not Xef)]) (.cond XeJ (.seq (.reg [oD 6 (.mv (.const (.string ⟨⟨[]⟩⟩))),oD 7 (.mv (.const (.int .i64 1)))]) .ret) .skip)) (.seq k7_17 (.seq (.seq (.reg [oD 34 (.fieldA 0 τ8),oD 35 (.fieldA 1 Xfu),oD 36 (.fieldA 0 Xfv),oD 37 (.load1 .bool XfI)]) (.cond Xfk k7_19 .skip)) (.seq (.reg [oD 44 (.loadN [(.int .i64),(.int .i64),(.int .i64),.str] Xb9),oD 45 (.fieldA 0 τ8),oD 46 (.fieldA 4 XhB),oD 47 (.loadN [.bool,(.int .u64),(.int .u64)] Xh6),oD 48 (.fieldA 0 τ8),oD 49 (.fieldA 1 Xiz),oD 50 (.loadN [.bool,(.int .u64),(.int .u64)] Xiy),oD 51 (.callF 27 [XhU,Xh1,XiB]),oE 52 0 XiC,oE 53 1 XiC,oM 6 XjH,oM 7 XjL]) .ret)))))))
def fn7:VFn:=⟨54,k7_30,[.tmp 6,.tmp 7]⟩
def XJO:VC:=.seq (.reg [oD 2 (.alloc [(.int .i64 0),(.bool false),(.int .u64 0),(.int .u64 0),(.bool false),(.int .u64 0),(.int .u64 0),(.int .i64 0),(.int .i64 0),(.int .i64 0),(.bool false),(.int .u32 0),(.int .u32 0),(.bool false),(.string ⟨⟨[]⟩⟩),(.int .i64 0)]),oD 3 (.mv (.const (.int .i64 0)))]) (.seq (.reg [oM 9 τ0,oD 10 (.callF 31 [τ9]),oM 8 Xb9,oE 11 0 τ8,oE 12 1 τ8,oE 13 2 τ8,oE 14 3 τ8,oD 4 (.alloc [(.int .i64 0),(.bool false),(.int .u64 0),(.int .u64 0),(.bool false),(.int .u64 0),(.int .u64 0),(.int .i64 0),(.int .i64 0),(.int .i64 0),(.bool false),(.int .u32 0),(.int .u32 0),(.bool false),(.string ⟨⟨[]⟩⟩),(.int .i64 0)]),oN (.store 16 τ4 Xb5),oM 5 XcP,oM 6 XcQ,oM 7 Xde]) (.seq (.reg [oD 15 (.loadN [(.int .i64),.bool,(.int .u64),(.int .u64),.bool,(.int .u64),(.int .u64),(.int .i64),(.int .i64),(.int .i64),.bool,(.int .u32),(.int .u32),.bool,.str,(.int .i64)] τ4),oM 16 τ7,oN (.store 16 τ2 Xdb),oM 3 Xdh]) .ret))
def fn15:VFn:=⟨17,XJO,[.cell 2 [(.int .i64),.bool,(.int .u64),(.int .u64),.bool,(.int .u64),(.int .u64),(.int .i64),(.int .i64),(.int .i64),.bool,(.int .u32),(.int .u32),.bool,.str,(.int .i64)] true,.tmp 3]⟩
def XLo:VC:=.regD [oD 97 (.loadN [(.int .i64),.bool,(.int .u64),(.int .u64),.bool,(.int .u64),(.int .u64),(.int .i64),(.int .i64),(.int .i64),.bool,(.int .u32),(.int .u32),.bool,.str,(.int .i64)] τ8),oD 98 (.fieldA 7 τ6),oD 99 (.load1 (.int .i64) τ98),oD 100 (.fieldA 7 τ6),oD 101 (.load1 (.int .i64) XCD),oD 102 (.bin .add XFf (.const (.int .i64 20))),oD 103 (.fieldA 7 τ9),oD 104 (.load1 .str XHo),oD 105 (.lenS XLA),oD 106 (.bin .add XHM XKR),oN (.store 16 τ2 XGo),oM 3 τ99] [(2,10),(4,10),(7,10)] [oM 4 XHr,oD 5 (.mv (.const (.int .i64 0)))]
def XH8:VC:=.regD [oD 155 (.loadN [(.int .i64),.bool,(.int .u64),(.int .u64),.bool,(.int .u64),(.int .u64),(.int .i64),(.int .i64),(.int .i64),.bool,(.int .u32),(.int .u32),.bool,.str,(.int .i64)] τ8),oD 156 (.fieldA 7 τ6),oD 157 (.load1 (.int .i64) XEK),oD 158 (.fieldA 7 τ6),oD 159 (.load1 (.int .i64) XKG),oD 160 (.bin .add XLc (.const (.int .i64 8))),oN (.store 16 τ2 XK1),oM 3 XHN] [(2,6),(4,6)] [oM 4 XHi,oD 5 (.mv (.const (.int .i64 0)))]
def XAP:VC:=.seq (.reg [oD 2 (.alloc [(.int .i64 0),(.bool false),(.int .u64 0),(.int .u64 0),(.bool false),(.int .u64 0),(.int .u64 0),(.int .i64 0),(.int .i64 0),(.int .i64 0),(.bool false),(.int .u32 0),(.int .u32 0),(.bool false),(.string ⟨⟨[]⟩⟩),(.int .i64 0)]),oD 3 (.mv (.const (.int .i64 0))),oD 4 (.mv (.const (.int .i64 0))),oD 5 (.mv (.const (.int .i64 0)))]) (.seq (.seq (.reg [oM 18 τ0,oD 19 (.lenS XdK),oD 20 (.bin .gtr Xdz (.const (.int .i64 9000)))]) (.cond Xd0 (.seq (.reg [oD 21 (.build [(.int .i64 0),(.bool false),(.int .u64 0),(.int .u64 0),(.bool false),(.int .u64 0),(.int .u64 0),(.int .i64 0),(.int .i64 0),(.int .i64 0),(.bool false),(.int .u32 0),(.int .u32 0),(.bool false),(.string ⟨⟨[]⟩⟩),(.int .i64 0)] []),oN (.store 16 τ2 Xd4),oD 3 (.mv (.const (.int .i64 0))),oD 4 (.mv (.const (.int .i64 0))),oD 5 (.mv (.const (.int .i64 5)))]) .ret) .skip)) (.seq (.seq (.reg [oM 22 τ0,oD 23 (.bin .eql Xeu (.const (.string ⟨⟨[]⟩⟩)))]) (.cond XeH (.seq (.reg [oD 24 (.build [(.int .i64 0),(.bool false),(.int .u64 0),(.int .u64 0),(.bool false),(.int .u64 0),(.int .u64 0),(.int .i64 0),(.int .i64 0),(.int .i64 0),(.bool false),(.int .u32 0),(.int .u32 0),(.bool false),(.string ⟨⟨[]⟩⟩),(.int .i64 0)] []),oN (.store 16 τ2 Xel),oD 3 (.mv (.const (.int .i64 0))),oD 4 (.mv (.const (.int .i64 0))),oD 5 (.mv (.const (.int .i64 2)))]) .ret) .skip)) (.seq (.reg [oM 26 τ0,oD 27 (.callF 56 [Xef]),oM 25 XeJ,oE 28 0 XeM,oE 29 1 XeM,oD 6 (.alloc [(.bool false),(.int .u64 0),(.int .u64 0),(.bool false),(.int .u64 0),(.int .u64 0),(.int .i64 0),(.int .i64 0),(.string ⟨⟨[]⟩⟩)]),oN (.store 9 τ6 XeC),oM 7 XeP]) (.seq (.seq (.reg [oM 30 τ7,oD 31 (.bin .neq Xfi (.const (.int .i64 0)))]) (.cond Xfc (.seq (.reg [oD 32 (.build [(.int .i64 0),(.bool false),(.int .u64 0),(.int .u64 0),(.bool false),(.int .u64 0),(.int .u64 0),(.int .i64 0),(.int .i64 0),(.int .i64 0),(.bool false),(.int .u32 0),(.int .u32 0),(.bool false),(.string ⟨⟨[]⟩⟩),(.int .i64 0)] []),oM 33 τ7,oN (.store 16 τ2 Xfn),oD 3 (.mv (.const (.int .i64 0))),oD 4 (.mv (.const (.int .i64 0))),oM 5 Xfl]) .ret) .skip)) (.seq (.seq (.reg [oD 34 (.fieldA 7 τ6),oD 35 (.load1 (.int .i64) Xfu),oD 36 (.fieldA 8 τ6),oD 37 (.load1 .str XfI),oD 38 (.lenS Xfk),oD 39 (.bin .add Xfv XgG),oM 40 τ0,oD 41 (.lenS Xhj),oD 42 (.bin .neq XgD Xhg)]) (.cond Xhh (.seq (.reg [oD 43 (.build [(.int .i64 0),(.bool false),(.int .u64 0),(.int .u64 0),(.bool false),(.int .u64 0),(.int .u64 0),(.int .i64 0),(.int .i64 0),(.int .i64 0),(.bool false),(.int .u32 0),(.int .u32 0),(.bool false),(.string ⟨⟨[]⟩⟩),(.int .i64 0)] []),oN (.store 16 τ2 Xhn),oD 3 (.mv (.const (.int .i64 0))),oD 4 (.mv (.const (.int .i64 0))),oD 5 (.mv (.const (.int .i64 5)))]) .ret) .skip)) (.seq (.reg [oM 44 τ0,oD 45 (.lenS XhU),oD 46 (.fieldA 6 τ6),oD 47 (.load1 (.int .i64) Xh6),oD 48 (.fieldA 0 τ6),oD 49 (.loadN [.bool,(.int .u64),(.int .u64)] Xiz),oD 50 (.fieldA 3 τ6),oD 51 (.loadN [.bool,(.int .u64),(.int .u64)] XiB),oD 52 (.build [(.int .i64 0),(.bool false),(.int .u64 0),(.int .u64 0),(.bool false),(.int .u64 0),(.int .u64 0),(.int .i64 0),(.int .i64 0)] [(0,1,Xh1),(1,3,Xiy),(4,3,XiC)]),oD 53 (.build [(.int .i64 0),(.bool false),(.int .u64 0),(.int .u64 0),(.bool false),(.int .u64 0),(.int .u64 0),(.int .i64 0),(.int .i64 0),(.int .i64 0),(.bool false),(.int .u32 0),(.int .u32 0),(.bool false),(.string ⟨⟨[]⟩⟩),(.int .i64 0)] [(15,1,XhB),(0,9,XjH)]),oD 8 (.alloc [(.int .i64 0),(.bool false),(.int .u64 0),(.int .u64 0),(.bool false),(.int .u64 0),(.int .u64 0),(.int .i64 0),(.int .i64 0),(.int .i64 0),(.bool false),(.int .u32 0),(.int .u32 0),(.bool false),(.string ⟨⟨[]⟩⟩),(.int .i64 0)]),oN (.store 16 τ8 XjL)]) (.seq (.seq (.reg [oD 54 (.fieldA 6 τ6),oD 55 (.load1 (.int .i64) XkZ),oD 56 (.bin .eql Xk2 (.const (.int .i64 6)))]) (.cond Xls (.seq (.reg [oD 58 (.fieldA 8 τ6),oD 59 (.load1 .str XkY),oD 60 (.fieldA 0 τ6),oD 61 (.loadN [.bool,(.int .u64),(.int .u64)] XlS),oD 62 (.fieldA 3 τ6),oD 63 (.loadN [.bool,(.int .u64),(.int .u64)] Xm9),oD 64 (.callF 57 [Xlu,Xl7,XoC]),oM 57 Xn2,oE 65 0 Xks,oE 66 1 Xks,oE 67 2 Xks,oD 9 (.alloc [(.int .i64 0),(.int .i64 0),(.int .u32 0),(.int .u32 0),(.int .i64 0),(.int .i64 0),(.int .i64 0),(.string ⟨⟨[]⟩⟩)]),oN (.store 8 τ9 XoQ),oM 10 XpY,oM 11 XoS]) (.seq (.seq (.reg [oM 68 Xb5,oD 69 (.bin .neq XpR (.const (.int .i64 0)))]) (.cond XoV (.seq (.reg [oD 70 (.build [(.int .i64 0),(.bool false),(.int .u64 0),(.int .u64 0),(.bool false),(.int .u64 0),(.int .u64 0),(.int .i64 0),(.int .i64 0),(.int .i64 0),(.bool false),(.int .u32 0),(.int .u32 0),(.bool false),(.string ⟨⟨[]⟩⟩),(.int .i64 0)] []),oM 71 Xb5,oN (.store 16 τ2 Xrd),oD 3 (.mv (.const (.int .i64 0))),oD 4 (.mv (.const (.int .i64 0))),oM 5 XrA]) .ret) .skip)) (.seq (.reg [oD 72 (.fieldA 0 τ9),oD 73 (.load1 (.int .i64) Xrb),oD 74 (.fieldA 0 τ8),oD 75 (.fieldA 7 XuK),oN (.store 1 XtG Xsk)]) (.seq (.reg [oD 76 (.fieldA 1 τ9),oD 77 (.load1 (.int .i64) XwI),oD 78 (.fieldA 0 τ8),oD 79 (.fieldA 8 Xwp),oN (.store 1 Xyx XvM)]) (.seq (.reg [oD 80 (.fieldA 4 τ9),oD 81 (.load1 (.int .i64) Xwx),oD 82 (.fieldA 9 τ8),oN (.store 1 Xzu XxV)]) (.seq (.reg [oD 84 (.fieldA 7 τ9),oD 85 (.load1 .str XBN),oD 86 (.callF 58 [XC4]),oM 83 XCE,oE 87 0 XwK,oE 88 1 XwK,oE 89 2 XwK,oM 12 XCb,oM 13 XFr,oM 14 XA2]) (.seq (.seq (.reg [oM 90 Xde,oD 91 (.bin .geq XEF (.const (.int .i64 0)))]) (.cond XCj (.seq (.reg [oD 92 (.fieldA 10 τ8),oN (.store 1 XFV (.const (.bool true)))]) (.seq (.reg [oM 93 XcP,oD 94 (.fieldA 11 τ8),oN (.store 1 XDa XF6)]) (.reg [oM 95 XcQ,oD 96 (.fieldA 12 τ8),oN (.store 1 XES XC6)]))) .skip)) (.seq XLo .ret)))))))) .skip)) (.seq (.seq (.reg [oD 107 (.fieldA 6 τ6),oD 108 (.load1 (.int .i64) XGH),oD 109 (.bin .neq XK3 (.const (.int .i64 17)))]) (.cond XG2 (.seq (.reg [oD 110 (.build [(.int .i64 0),(.bool false),(.int .u64 0),(.int .u64 0),(.bool false),(.int .u64 0),(.int .u64 0),(.int .i64 0),(.int .i64 0),(.int .i64 0),(.bool false),(.int .u32 0),(.int .u32 0),(.bool false),(.string ⟨⟨[]⟩⟩),(.int .i64 0)] []),oN (.store 16 τ2 XHL),oD 3 (.mv (.const (.int .i64 0))),oD 4 (.mv (.const (.int .i64 0))),oD 5 (.mv (.const (.int .i64 6)))]) .ret) .skip)) (.seq (.reg [oD 112 (.fieldA 8 τ6),oD 113 (.load1 .str XI6),oD 114 (.fieldA 0 τ6),oD 115 (.loadN [.bool,(.int .u64),(.int .u64)] XIb),oD 116 (.fieldA 3 τ6),oD 117 (.loadN [.bool,(.int .u64),(.int .u64)] XJh),oD 118 (.callF 59 [XIw,XLe,XJC]),oM 111 XKa,oE 119 0 Xyq,oE 120 1 Xyq,oE 121 2 Xyq,oD 15 (.alloc [(.int .i64 0),(.int .i64 0)]),oN (.store 2 Xdb XHX),oM 16 XJI,oM 7 XJF]) (.seq (.seq (.reg [oM 122 τ7,oD 123 (.bin .neq XHc (.const (.int .i64 0)))]) (.cond XKF (.seq (.reg [oD 124 (.build [(.int .i64 0),(.bool false),(.int .u64 0),(.int .u64 0),(.bool false),(.int .u64 0),(.int .u64 0),(.int .i64 0),(.int .i64 0),(.int .i64 0),(.bool false),(.int .u32 0),(.int .u32 0),(.bool false),(.string ⟨⟨[]⟩⟩),(.int .i64 0)] []),oM 125 τ7,oN (.store 16 τ2 XGE),oD 3 (.mv (.const (.int .i64 0))),oD 4 (.mv (.const (.int .i64 0))),oM 5 XG0]) .ret) .skip)) (.seq (.seq (.reg [oM 126 Xdh,oD 127 (.lenS XIf),oD 128 (.bin .add XHk (.const (.int .i64 8))),oD 129 (.fieldA 8 τ6),oD 130 (.load1 .str XJc),oD 131 (.lenS XLs),oD 132 (.bin .neq XKZ XHO)]) (.cond XHK (.seq (.reg [oD 133 (.build [(.int .i64 0),(.bool false),(.int .u64 0),(.int .u64 0),(.bool false),(.int .u64 0),(.int .u64 0),(.int .i64 0),(.int .i64 0),(.int .i64 0),(.bool false),(.int .u32 0),(.int .u32 0),(.bool false),(.string ⟨⟨[]⟩⟩),(.int .i64 0)] []),oN (.store 16 τ2 XJr),oD 3 (.mv (.const (.int .i64 0))),oD 4 (.mv (.const (.int .i64 0))),oD 5 (.mv (.const (.int .i64 5)))]) .ret) .skip)) (.seq (.reg [oD 134 (.fieldA 0 Xdb),oD 135 (.load1 (.int .i64) XHx),oD 136 (.fieldA 0 τ8),oD 137 (.fieldA 7 XIZ),oN (.store 1 XK9 XGL)]) (.seq (.reg [oD 138 (.fieldA 1 Xdb),oD 139 (.load1 (.int .i64) XKD),oD 140 (.fieldA 0 τ8),oD 141 (.fieldA 8 XIe),oN (.store 1 XKb XJv)]) (.seq (.reg [oM 143 Xdh,oD 144 (.callF 21 [XFv]),oM 142 XIj,oE 145 0 XFl,oE 146 1 XFl,oD 17 (.alloc [(.bool false),(.int .i64 0),(.int .u32 0),(.string ⟨⟨[]⟩⟩),(.string ⟨⟨[]⟩⟩),(.string ⟨⟨[]⟩⟩)]),oN (.store 6 Xda XJy),oM 7 XHG]) (.seq (.seq (.reg [oM 147 τ7,oD 148 (.bin .eql XLl (.const (.int .i64 0)))]) (.cond XHd (.seq (.reg [oD 149 (.fieldA 0 Xda),oD 150 (.load1 .bool XGZ),oD 151 (.fieldA 13 τ8),oN (.store 1 XLv XJ3)]) (.reg [oD 152 (.fieldA 3 Xda),oD 153 (.load1 .str XH2),oD 154 (.fieldA 14 τ8),oN (.store 1 XIl XI3)])) .skip)) (.seq XH8 .ret))))))))))))))))
def fn31:VFn:=⟨161,XAP,[.cell 2 [(.int .i64),.bool,(.int .u64),(.int .u64),.bool,(.int .u64),(.int .u64),(.int .i64),(.int .i64),(.int .i64),.bool,(.int .u32),(.int .u32),.bool,.str,(.int .i64)] true,.tmp 3,.tmp 4,.tmp 5]⟩
def XAp:VC:=.seq (.reg [oD 2 (.alloc [(.bool false),(.int .u64 0),(.int .u64 0),(.bool false),(.int .u64 0),(.int .u64 0),(.int .i64 0),(.int .i64 0),(.string ⟨⟨[]⟩⟩)]),oD 3 (.mv (.const (.int .i64 0)))]) (.seq (.seq (.reg [oM 10 τ0,oD 11 (.idxS Xb9 (.const (.int .i64 0))),oD 12 (.bin .quo Xb5 (.const (.int .u8 16))),oD 13 (.bin .eql XcP (.const (.int .u8 4)))]) (.cond XcQ (.seq (.reg [oM 15 τ0,oD 16 (.callF 98 [Xdb]),oM 14 Xdh,oE 17 0 Xde,oE 18 1 Xde,oE 19 2 Xde,oD 4 (.alloc [(.int .i64 0),(.int .i64 0),(.bool false),(.int .i64 0),(.int .i64 0),(.bool false),(.int .u64 0),(.int .u64 0),(.bool false),(.int .u64 0),(.int .u64 0),(.string ⟨⟨[]⟩⟩)]),oN (.store 12 τ4 Xda),oM 5 XdK,oM 6 Xdz]) (.seq (.reg [oD 20 (.fieldA 5 τ4),oD 21 (.loadN [.bool,(.int .u64),(.int .u64)] Xd0),oD 22 (.fieldA 8 τ4),oD 23 (.loadN [.bool,(.int .u64),(.int .u64)] Xeu),oD 24 (.fieldA 4 τ4),oD 25 (.load1 (.int .i64) Xel),oD 26 (.fieldA 11 τ4),oD 27 (.load1 .str Xef),oD 28 (.lenS XeJ),oD 29 (.bin .add (.const (.int .i64 20)) XeC),oM 30 τ5,oD 31 (.build [(.bool false),(.int .u64 0),(.int .u64 0),(.bool false),(.int .u64 0),(.int .u64 0),(.int .i64 0),(.int .i64 0),(.string ⟨⟨[]⟩⟩)] [(0,3,Xd4),(3,3,XeH),(6,1,XeM),(7,1,XeP),(8,1,Xfi)]),oM 32 τ6,oN (.store 9 τ2 Xfc),oM 3 Xfn]) .ret)) .skip)) (.seq (.seq (.reg [oM 33 τ0,oD 34 (.idxS Xfl (.const (.int .i64 0))),oD 35 (.bin .quo Xfu (.const (.int .u8 16))),oD 36 (.bin .eql Xfv (.const (.int .u8 6)))]) (.cond XfI (.seq (.reg [oM 38 τ0,oD 39 (.callF 99 [XgG]),oM 37 XgD,oE 40 0 Xfk,oE 41 1 Xfk,oE 42 2 Xfk,oD 7 (.alloc [(.int .i64 0),(.int .i64 0),(.int .i64 0),(.int .i64 0),(.bool false),(.int .u64 0),(.int .u64 0),(.bool false),(.int .u64 0),(.int .u64 0)]),oN (.store 10 τ7 Xhj),oM 8 Xhg,oM 9 Xhh]) (.seq (.reg [oD 43 (.fieldA 4 τ7),oD 44 (.loadN [.bool,(.int .u64),(.int .u64)] Xhn),oD 45 (.fieldA 7 τ7),oD 46 (.loadN [.bool,(.int .u64),(.int .u64)] XhB),oD 47 (.fieldA 2 τ7),oD 48 (.load1 (.int .i64) Xh1),oM 49 τ8,oD 50 (.build [(.bool false),(.int .u64 0),(.int .u64 0),(.bool false),(.int .u64 0),(.int .u64 0),(.int .i64 0),(.int .i64 0),(.string ⟨⟨[]⟩⟩)] [(0,3,XhU),(3,3,Xh6),(6,1,Xiz),(7,1,(.const (.int .i64 40))),(8,1,Xiy)]),oM 51 τ9,oN (.store 9 τ2 XiB),oM 3 XiC]) .ret)) .skip)) (.seq (.reg [oD 52 (.build [(.bool false),(.int .u64 0),(.int .u64 0),(.bool false),(.int .u64 0),(.int .u64 0),(.int .i64 0),(.int .i64 0),(.string ⟨⟨[]⟩⟩)] []),oN (.store 9 τ2 XjH),oD 3 (.mv (.const (.int .i64 3)))]) .ret)))
def fn56:VFn:=⟨53,XAp,[.cell 2 [.bool,(.int .u64),(.int .u64),.bool,(.int .u64),(.int .u64),(.int .i64),(.int .i64),.str] true,.tmp 3]⟩
def k98_6:VC:=.regD [oM 15 τ0,oD 16 (.idxS Xdb (.const (.int .i64 0))),oD 17 (.bin .rem Xdh (.const (.int .u8 16))),oD 18 (.conv .i64 Xda),oD 19 (.bin .mul (.const (.int .i64 4)) XdK),oM 20 τ0,oD 21 (.callF 44 [Xd0,(.const (.int .i64 2)),(.const (.int .i64 2))])] [] [oM 5 Xdz,oM 6 Xd4]
def XJz:VC:=.regD [oM 73 τ0,oD 74 (.idxS Xsk (.const (.int .i64 1))),oD 75 (.conv .i64 XuK),oM 76 τ0,oD 77 (.callF 44 [XwI,(.const (.int .i64 4)),(.const (.int .i64 2))]),oM 78 τ0,oD 79 (.idxS Xwp (.const (.int .i64 6))),oD 80 (.bin .eql Xyx (.const (.int .u8 64))),oM 81 τ0,oD 82 (.idxS XxV (.const (.int .i64 8))),oD 83 (.conv .i64 Xzu),oM 84 τ0,oD 85 (.idxS XBN (.const (.int .i64 9))),oD 86 (.conv .i64 XC4),oD 87 (.loadN [.bool,(.int .u64),(.int .u64)] τ7),oD 88 (.loadN [.bool,(.int .u64),(.int .u64)] τ9),oM 89 τ0,oM 90 τ5,oD 91 (.sliceS XA2 (some (.const (.int .i64 20))) (some XEF)),oD 92 (.build [(.int .i64 0),(.int .i64 0),(.bool false),(.int .i64 0),(.int .i64 0),(.bool false),(.int .u64 0),(.int .u64 0),(.bool false),(.int .u64 0),(.int .u64 0),(.string ⟨⟨[]⟩⟩)] [(0,1,XtG),(1,1,XvM),(2,1,Xwx),(3,1,XwK),(4,1,XCE),(5,3,XCb),(8,3,XFr),(11,1,XCj)]),oM 93 τ0,oM 94 τ5,oM 95 τ6,oD 96 (.sliceS XF6 (some XDa) (some XC6)),oN (.store 12 τ2 XFV)] [(4,14),(4,15)] [oM 3 XES,oD 4 (.mv (.const (.int .i64 0)))]
def XBk:VC:=.seq (.reg [oD 2 (.alloc [(.int .i64 0),(.int .i64 0),(.bool false),(.int .i64 0),(.int .i64 0),(.bool false),(.int .u64 0),(.int .u64 0),(.bool false),(.int .u64 0),(.int .u64 0),(.string ⟨⟨[]⟩⟩)]),oD 3 (.mv (.const (.string ⟨⟨[]⟩⟩))),oD 4 (.mv (.const (.int .i64 0)))]) (.seq (.seq (.reg [oM 11 τ0,oD 12 (.lenS Xb5),oD 13 (.bin .lss XcP (.const (.int .i64 20)))]) (.cond XcQ (.seq (.reg [oD 14 (.build [(.int .i64 0),(.int .i64 0),(.bool false),(.int .i64 0),(.int .i64 0),(.bool false),(.int .u64 0),(.int .u64 0),(.bool false),(.int .u64 0),(.int .u64 0),(.string ⟨⟨[]⟩⟩)] []),oN (.store 12 τ2 Xde),oD 3 (.mv (.const (.string ⟨⟨[]⟩⟩))),oD 4 (.mv (.const (.int .i64 2)))]) .ret) .skip)) (.seq k98_6 (.seq (.seq (.reg [oM 22 τ0,oD 23 (.idxS Xeu (.const (.int .i64 0))),oD 24 (.bin .quo XeH (.const (.int .u8 16))),oD 25 (.bin .neq Xel (.const (.int .u8 4))),oM 26 XeM,oG 27 (.mv τ5) 26 false,oG 28 (.bin .lss XeJ (.const (.int .i64 20))) 26 false,oD 29 (.pick Xef (.const (.bool true)) XeC),oM 30 XeP,oG 31 (.mv τ6) 30 false,oG 32 (.mv τ5) 30 false,oG 33 (.bin .lss Xfc Xfn) 30 false,oD 34 (.pick Xfi (.const (.bool true)) Xfl)]) (.cond Xfu (.seq (.reg [oD 35 (.build [(.int .i64 0),(.int .i64 0),(.bool false),(.int .i64 0),(.int .i64 0),(.bool false),(.int .u64 0),(.int .u64 0),(.bool false),(.int .u64 0),(.int .u64 0),(.string ⟨⟨[]⟩⟩)] []),oN (.store 12 τ2 Xfv),oD 3 (.mv (.const (.string ⟨⟨[]⟩⟩))),oD 4 (.mv (.const (.int .i64 3)))]) .ret) .skip)) (.seq (.seq (.reg [oM 36 τ0,oD 37 (.lenS XfI),oM 38 τ6,oD 39 (.bin .lss Xfk XgG)]) (.cond XgD (.seq (.reg [oD 40 (.build [(.int .i64 0),(.int .i64 0),(.bool false),(.int .i64 0),(.int .i64 0),(.bool false),(.int .u64 0),(.int .u64 0),(.bool false),(.int .u64 0),(.int .u64 0),(.string ⟨⟨[]⟩⟩)] []),oN (.store 12 τ2 Xhj),oD 3 (.mv (.const (.string ⟨⟨[]⟩⟩))),oD 4 (.mv (.const (.int .i64 2)))]) .ret) .skip)) (.seq (.seq (.reg [oM 41 τ0,oM 42 τ5,oD 43 (.sliceS Xhg none (some Xhh)),oD 44 (.callF 100 [Xhn]),oD 45 (.bin .neq XhU (.const (.int .i64 65535)))]) (.cond XhB (.seq (.reg [oD 46 (.build [(.int .i64 0),(.int .i64 0),(.bool false),(.int .i64 0),(.int .i64 0),(.bool false),(.int .u64 0),(.int .u64 0),(.bool false),(.int .u64 0),(.int .u64 0),(.string ⟨⟨[]⟩⟩)] []),oN (.store 12 τ2 Xh6),oD 3 (.mv (.const (.string ⟨⟨[]⟩⟩))),oD 4 (.mv (.const (.int .i64 4)))]) .ret) .skip)) (.seq (.seq (.reg [oM 47 τ0,oD 48 (.idxS Xh1 (.const (.int .i64 6))),oD 49 (.bin .neq Xiz (.const (.int .u8 0))),oM 50 Xiy,oG 51 (.mv τ0) 50 true,oG 52 (.idxS XiC (.const (.int .i64 6))) 50 true,oG 53 (.bin .neq XjH (.const (.int .u8 64))) 50 true,oD 54 (.pick XiB XjL (.const (.bool false))),oM 55 XkZ,oG 56 (.mv τ0) 55 false,oG 57 (.idxS Xls (.const (.int .i64 7))) 55 false,oG 58 (.bin .neq Xks (.const (.int .u8 0))) 55 false,oD 59 (.pick Xk2 (.const (.bool true)) XkY)]) (.cond Xlu (.seq (.reg [oD 60 (.build [(.int .i64 0),(.int .i64 0),(.bool false),(.int .i64 0),(.int .i64 0),(.bool false),(.int .u64 0),(.int .u64 0),(.bool false),(.int .u64 0),(.int .u64 0),(.string ⟨⟨[]⟩⟩)] []),oN (.store 12 τ2 XlS),oD 3 (.mv (.const (.string ⟨⟨[]⟩⟩))),oD 4 (.mv (.const (.int .i64 7)))]) .ret) .skip)) (.seq (.reg [oM 62 τ0,oD 63 (.sliceS Xm9 (some (.const (.int .i64 12))) (some (.const (.int .i64 16)))),oD 64 (.callF 122 [XoC]),oM 61 Xn2,oE 65 0 Xl7,oE 66 1 Xl7,oD 7 (.alloc [(.bool false),(.int .u64 0),(.int .u64 0)]),oN (.store 3 τ7 XoQ),oM 8 XpY]) (.seq (.reg [oM 68 τ0,oD 69 (.sliceS XpR (some (.const (.int .i64 16))) (some (.const (.int .i64 20)))),oD 70 (.callF 122 [XoV]),oM 67 Xrd,oE 71 0 XoS,oE 72 1 XoS,oD 9 (.alloc [(.bool false),(.int .u64 0),(.int .u64 0)]),oN (.store 3 τ9 XrA),oM 10 Xrb]) (.seq XJz .ret)))))))))
def fn98:VFn:=⟨97,XBk,[.cell 2 [(.int .i64),(.int .i64),.bool,(.int .i64),(.int .i64),.bool,(.int .u64),(.int .u64),.bool,(.int .u64),(.int .u64),.str] true,.tmp 3,.tmp 4]⟩
def XJ7:VC:=.seq (.reg [oD 6 (.mv (.const (.int .i64 0)))]) (.seq (.reg [oM 10 τ0,oM 11 τ1,oM 12 τ2,oD 13 (.callF 70 [Xb9,Xb5,XcP]),oM 9 XcQ,oE 14 0 τ9,oE 15 1 τ9,oM 7 Xde,oM 8 Xdb]) (.seq (.reg [oM 16 τ7,oD 17 (.conv .i64 Xdh),oM 6 Xda]) .ret))
def fn44:VFn:=⟨18,XJ7,[.tmp 6]⟩
def Xu8:VC:=.seq (.seq (.reg [oM 34 τ9,oM 35 τ2,oD 36 (.bin .lss Xfu Xfv)]) (.cond XfI .skip (.exit 0))) (.seq (.block 1 (.reg [oM 39 τ8,oD 40 (.bin .mul XgD (.const (.int .u64 256))),oM 41 τ0,oM 42 τ1,oM 43 τ9,oD 44 (.bin .add Xhh Xhn),oD 45 (.idxS Xhg XhU),oD 46 (.conv .u64 XhB),oD 47 (.bin .add Xhj Xh6),oM 8 Xh1])) (.reg [oM 37 τ9,oD 38 (.bin .add Xfk (.const (.int .i64 1))),oM 9 XgG]))
def XBE:VC:=.seq (.reg [oM 48 τ8,oM 6 Xiz,oD 7 (.mv (.const (.bool true)))]) .ret
def Xzn:VC:=.seq (.reg [oD 6 (.mv (.const (.int .u64 0))),oD 7 (.mv (.const (.bool false)))]) (.seq (.seq (.reg [oM 10 τ2,oD 11 (.bin .lss Xb9 (.const (.int .i64 1))),oM 12 Xb5,oG 13 (.mv τ2) 12 false,oG 14 (.bin .gtr XcQ (.const (.int .i64 8))) 12 false,oD 15 (.pick XcP (.const (.bool true)) Xde),oM 16 Xdb,oG 17 (.mv τ1) 16 false,oG 18 (.bin .lss Xda (.const (.int .i64 0))) 16 false,oD 19 (.pick Xdh (.const (.bool true)) XdK),oM 20 Xdz,oG 21 (.mv τ1) 20 false,oG 22 (.mv τ0) 20 false,oG 23 (.lenS Xeu) 20 false,oG 24 (.bin .gtr Xd4 XeH) 20 false,oD 25 (.pick Xd0 (.const (.bool true)) Xel),oM 26 XeM,oG 27 (.mv τ2) 26 false,oG 28 (.mv τ0) 26 false,oG 29 (.lenS XeC) 26 false,oG 30 (.mv τ1) 26 false,oG 31 (.bin .sub XeP Xfi) 26 false,oG 32 (.bin .gtr XeJ Xfc) 26 false,oD 33 (.pick Xef (.const (.bool true)) Xfn)]) (.cond Xfl (.seq (.reg [oD 6 (.mv (.const (.int .u64 0))),oD 7 (.mv (.const (.bool false)))]) .ret) .skip)) (.seq (.reg [oD 8 (.mv (.const (.int .u64 0)))]) (.seq (.seq (.reg [oD 9 (.mv (.const (.int .i64 0)))]) (.block 0 (.loop Xu8))) XBE)))
def fn70:VFn:=⟨49,Xzn,[.tmp 6,.tmp 7]⟩
def XAa:VC:=.seq (.reg [oD 2 (.mv (.const (.int .i64 0)))]) (.seq (.reg [oM 3 τ0,oD 4 (.callF 124 [τ3]),oD 5 (.callF 123 [τ4]),oM 2 τ5]) .ret)
def XLI:VFn:=⟨6,XAa,[.tmp 2]⟩
def Xqm:VC:=.seq (.seq (.reg [oM 11 τ4,oM 12 τ0,oD 13 (.lenS XcP),oD 14 (.bin .lss Xb5 XcQ)]) (.cond Xde .skip (.exit 0))) (.seq (.block 1 (.reg [oM 17 τ3,oM 18 τ0,oM 19 τ4,oD 20 (.callF 44 [XdK,Xdz,(.const (.int .i64 2))]),oD 21 (.buildSl 1 1 [(.int .i64 0)] [(0,1,Xd0)]),oD 22 (.app 3 1 8 Xda Xd4),oM 3 Xeu])) (.reg [oM 15 τ4,oD 16 (.bin .add Xdb (.const (.int .i64 2))),oM 4 Xdh]))
def Xun:VC:=.seq (.reg [oM 23 τ3,oM 2 XeH]) .ret
def XvO:VC:=.seq (.reg [oD 2 (.mv (.const (.slice none 0 0)))]) (.seq (.seq (.reg [oM 5 τ0,oD 6 (.lenS τ5),oD 7 (.bin .rem τ6 (.const (.int .i64 2))),oD 8 (.bin .eql τ7 (.const (.int .i64 1)))]) (.cond τ8 (.reg [oM 9 τ0,oD 10 (.bin .add τ9 (.const (.string ⟨⟨[0]⟩⟩))),oM 0 Xb9]) .skip)) (.seq (.reg [oD 3 (.mv (.const (.slice none 0 0)))]) (.seq (.seq (.reg [oD 4 (.mv (.const (.int .i64 0)))]) (.block 0 (.loop Xqm))) Xun)))
def XIQ:VFn:=⟨24,XvO,[.tmp 2]⟩
def XqR:VC:=.seq (.seq (.reg [oM 5 τ4,oM 6 τ0,oD 7 (.lenL τ6),oD 8 (.bin .lss τ5 τ7)]) (.cond τ8 .skip (.exit 0))) (.seq (.block 1 (.reg [oM 11 τ3,oM 12 τ0,oM 13 τ4,oD 14 (.idxAL 1 XcP XcQ),oD 15 (.load1 (.int .i64) Xde),oD 16 (.bin .add Xb5 Xdb),oM 3 Xdh])) (.reg [oM 9 τ4,oD 10 (.bin .add τ9 (.const (.int .i64 1))),oM 4 Xb9]))
def Xqu:VC:=.seq (.seq (.reg [oM 17 τ3,oD 18 (.bin .gtr Xda (.const (.int .i64 65535)))]) (.cond XdK .skip (.exit 2))) (.block 3 (.reg [oM 19 τ3,oD 20 (.bin .rem Xdz (.const (.int .i64 65536))),oM 21 τ3,oD 22 (.bin .quo Xd4 (.const (.int .i64 65536))),oD 23 (.bin .add Xd0 Xeu),oM 3 XeH]))
def Xth:VC:=.seq (.reg [oM 24 τ3,oM 2 Xel]) .ret
def Xvc:VC:=.seq (.block 2 (.loop Xqu)) Xth
def Xvs:VC:=.seq (.reg [oD 2 (.mv (.const (.int .i64 0)))]) (.seq (.reg [oD 3 (.mv (.const (.int .i64 0)))]) (.seq (.seq (.reg [oD 4 (.mv (.const (.int .i64 0)))]) (.block 0 (.loop XqR))) Xvc))
def XKS:VFn:=⟨25,Xvs,[.tmp 2]⟩
def Xwm:VC:=.seq (.reg [oD 2 (.alloc [(.bool false),(.int .u64 0),(.int .u64 0)]),oD 3 (.mv (.const (.bool false)))]) (.seq (.seq (.reg [oM 10 τ0,oD 11 (.lenS Xb9),oD 12 (.bin .eql Xb5 (.const (.int .i64 4)))]) (.cond XcP (.seq (.reg [oM 14 τ0,oD 15 (.callF 70 [Xde,(.const (.int .i64 0)),(.const (.int .i64 4))]),oM 13 Xdb,oE 16 0 XcQ,oE 17 1 XcQ,oM 4 Xdh,oM 5 Xda]) (.seq (.reg [oM 18 τ4,oD 19 (.build [(.bool false),(.int .u64 0),(.int .u64 0)] [(2,1,XdK)]),oN (.store 3 τ2 Xdz),oD 3 (.mv (.const (.bool true)))]) .ret)) .skip)) (.seq (.seq (.reg [oM 20 τ0,oD 21 (.lenS Xd0),oD 22 (.bin .eql Xd4 (.const (.int .i64 16)))]) (.cond Xeu (.seq (.reg [oM 24 τ0,oD 25 (.callF 70 [Xel,(.const (.int .i64 0)),(.const (.int .i64 8))]),oM 23 XeM,oE 26 0 XeH,oE 27 1 XeH,oM 6 Xef,oM 7 XeJ]) (.seq (.reg [oM 29 τ0,oD 30 (.callF 70 [XeP,(.const (.int .i64 8)),(.const (.int .i64 8))]),oM 28 Xfi,oE 31 0 XeC,oE 32 1 XeC,oM 8 Xfc,oM 9 Xfn]) (.seq (.reg [oM 33 τ6,oM 34 τ8,oD 35 (.build [(.bool false),(.int .u64 0),(.int .u64 0)] [(0,1,(.const (.bool true))),(1,1,Xfl),(2,1,Xfu)]),oN (.store 3 τ2 Xfv),oD 3 (.mv (.const (.bool true)))]) .ret))) .skip)) (.seq (.reg [oD 36 (.build [(.bool false),(.int .u64 0),(.int .u64 0)] []),oN (.store 3 τ2 XfI),oD 3 (.mv (.const (.bool false)))]) .ret)))
def XKV:VFn:=⟨37,Xwm,[.cell 2 [.bool,(.int .u64),(.int .u64)] true,.tmp 3]⟩
def XKk:VC:=.regD [oM 41 τ5,oD 42 (.bin .quo Xhg (.const (.int .i64 1048576))),oD 43 (.bin .rem Xhh (.const (.int .i64 256))),oM 44 τ5,oD 45 (.bin .rem XhU (.const (.int .i64 1048576))),oM 46 τ0,oD 47 (.idxS Xh6 (.const (.int .i64 6))),oD 48 (.conv .i64 Xh1),oM 49 τ0,oD 50 (.idxS Xiy (.const (.int .i64 7))),oD 51 (.conv .i64 XiB),oD 52 (.loadN [.bool,(.int .u64),(.int .u64)] τ7),oD 53 (.loadN [.bool,(.int .u64),(.int .u64)] τ9),oD 54 (.build [(.int .i64 0),(.int .i64 0),(.int .i64 0),(.int .i64 0),(.bool false),(.int .u64 0),(.int .u64 0),(.bool false),(.int .u64 0),(.int .u64 0)] [(0,1,Xhn),(1,1,XhB),(2,1,Xiz),(3,1,XiC),(4,3,XjH),(7,3,XjL)]),oM 55 τ0,oM 56 τ6,oD 57 (.bin .add (.const (.int .i64 40)) Xls),oD 58 (.sliceS Xk2 (some (.const (.int .i64 40))) (some Xks)),oN (.store 10 τ2 XkZ)] [] [oM 3 XkY,oD 4 (.mv (.const (.int .i64 0)))]
def XAS:VC:=.seq (.reg [oD 2 (.alloc [(.int .i64 0),(.int .i64 0),(.int .i64 0),(.int .i64 0),(.bool false),(.int .u64 0),(.int .u64 0),(.bool false),(.int .u64 0),(.int .u64 0)]),oD 3 (.mv (.const (.string ⟨⟨[]⟩⟩))),oD 4 (.mv (.const (.int .i64 0)))]) (.seq (.seq (.reg [oM 11 τ0,oD 12 (.lenS Xb5),oD 13 (.bin .lss XcP (.const (.int .i64 40)))]) (.cond XcQ (.seq (.reg [oD 14 (.build [(.int .i64 0),(.int .i64 0),(.int .i64 0),(.int .i64 0),(.bool false),(.int .u64 0),(.int .u64 0),(.bool false),(.int .u64 0),(.int .u64 0)] []),oN (.store 10 τ2 Xde),oD 3 (.mv (.const (.string ⟨⟨[]⟩⟩))),oD 4 (.mv (.const (.int .i64 2)))]) .ret) .skip)) (.seq (.reg [oM 15 τ0,oD 16 (.callF 44 [Xdb,(.const (.int .i64 0)),(.const (.int .i64 4))]),oM 17 τ0,oD 18 (.callF 44 [Xda,(.const (.int .i64 4)),(.const (.int .i64 2))]),oM 5 Xdh,oM 6 XdK]) (.seq (.seq (.reg [oM 19 τ5,oD 20 (.bin .quo Xdz (.const (.int .i64 268435456))),oD 21 (.bin .neq Xd0 (.const (.int .i64 6)))]) (.cond Xd4 (.seq (.reg [oD 22 (.build [(.int .i64 0),(.int .i64 0),(.int .i64 0),(.int .i64 0),(.bool false),(.int .u64 0),(.int .u64 0),(.bool false),(.int .u64 0),(.int .u64 0)] []),oN (.store 10 τ2 Xeu),oD 3 (.mv (.const (.string ⟨⟨[]⟩⟩))),oD 4 (.mv (.const (.int .i64 3)))]) .ret) .skip)) (.seq (.seq (.reg [oM 23 τ0,oD 24 (.lenS XeH),oD 25 (.bin .sub Xel (.const (.int .i64 40))),oM 26 τ6,oD 27 (.bin .lss XeM Xef)]) (.cond XeJ (.seq (.reg [oD 28 (.build [(.int .i64 0),(.int .i64 0),(.int .i64 0),(.int .i64 0),(.bool false),(.int .u64 0),(.int .u64 0),(.bool false),(.int .u64 0),(.int .u64 0)] []),oN (.store 10 τ2 XeC),oD 3 (.mv (.const (.string ⟨⟨[]⟩⟩))),oD 4 (.mv (.const (.int .i64 2)))]) .ret) .skip)) (.seq (.reg [oM 30 τ0,oD 31 (.sliceS Xfi (some (.const (.int .i64 8))) (some (.const (.int .i64 24)))),oD 32 (.callF 122 [Xfc]),oM 29 Xfn,oE 33 0 XeP,oE 34 1 XeP,oD 7 (.alloc [(.bool false),(.int .u64 0),(.int .u64 0)]),oN (.store 3 τ7 Xfl),oM 8 Xfu]) (.seq (.reg [oM 36 τ0,oD 37 (.sliceS XfI (some (.const (.int .i64 24))) (some (.const (.int .i64 40)))),oD 38 (.callF 122 [Xfk]),oM 35 XgG,oE 39 0 Xfv,oE 40 1 Xfv,oD 9 (.alloc [(.bool false),(.int .u64 0),(.int .u64 0)]),oN (.store 3 τ9 XgD),oM 10 Xhj]) (.seq XKk .ret)))))))
def fn99:VFn:=⟨59,XAS,[.cell 2 [(.int .i64),(.int .i64),(.int .i64),(.int .i64),.bool,(.int .u64),(.int .u64),.bool,(.int .u64),(.int .u64)] true,.tmp 3,.tmp 4]⟩
theorem XKp:(Tryz.prog.funcs[3]?).bind (XaB Tryz.prog)=some fn3:=by kernel_rfl
theorem XHv:(Tryz.prog.funcs[5]?).bind (XaB Tryz.prog)=some fn5:=by kernel_rfl
theorem XJj:(Tryz.prog.funcs[8]?).bind (XaB Tryz.prog)=some fn8:=by kernel_rfl
theorem XEq:(Tryz.prog.funcs[23]?).bind (XaB Tryz.prog)=some fn23:=by kernel_rfl
theorem XDT:(Tryz.prog.funcs[28]?).bind (XaB Tryz.prog)=some fn28:=by kernel_rfl
theorem XDO:(Tryz.prog.funcs[24]?).bind (XaB Tryz.prog)=some fn24:=by kernel_rfl
theorem XFA:(Tryz.prog.funcs[11]?).bind (XaB Tryz.prog)=some fn11:=by kernel_rfl
theorem XCd:(Tryz.prog.funcs[12]?).bind (XaB Tryz.prog)=some fn12:=by kernel_rfl
theorem XFC:(Tryz.prog.funcs[10]?).bind (XaB Tryz.prog)=some fn10:=by kernel_rfl
theorem XK2:(Tryz.prog.funcs[6]?).bind (XaB Tryz.prog)=some fn6:=by kernel_rfl
theorem XDQ:(Tryz.prog.funcs[22]?).bind (XaB Tryz.prog)=some fn22:=by kernel_rfl
theorem XEm:(Tryz.prog.funcs[46]?).bind (XaB Tryz.prog)=some fn46:=by kernel_rfl
theorem XDV:(Tryz.prog.funcs[71]?).bind (XaB Tryz.prog)=some fn71:=by kernel_rfl
theorem Xxn:(Tryz.prog.funcs[106]?).bind (XaB Tryz.prog)=some XLk:=by kernel_rfl
theorem XyQ:(Tryz.prog.funcs[129]?).bind (XaB Tryz.prog)=some XH9:=by kernel_rfl
theorem XD2:(Tryz.prog.funcs[61]?).bind (XaB Tryz.prog)=some fn61:=by kernel_rfl
theorem XFO:(Tryz.prog.funcs[62]?).bind (XaB Tryz.prog)=some fn62:=by kernel_rfl
theorem XDX:(Tryz.prog.funcs[64]?).bind (XaB Tryz.prog)=some fn64:=by kernel_rfl
theorem XEp:(Tryz.prog.funcs[63]?).bind (XaB Tryz.prog)=some fn63:=by kernel_rfl
theorem XCv:(Tryz.prog.funcs[40]?).bind (XaB Tryz.prog)=some fn40:=by kernel_rfl
theorem Xyy:(Tryz.prog.funcs[131]?).bind (XaB Tryz.prog)=some XLq:=by kernel_rfl
theorem Xyh:(Tryz.prog.funcs[112]?).bind (XaB Tryz.prog)=some XHE:=by kernel_rfl
theorem Xx8:(Tryz.prog.funcs[104]?).bind (XaB Tryz.prog)=some XIJ:=by kernel_rfl
theorem XwW:(Tryz.prog.funcs[126]?).bind (XaB Tryz.prog)=some XIM:=by kernel_rfl
theorem Xys:(Tryz.prog.funcs[128]?).bind (XaB Tryz.prog)=some XIV:=by kernel_rfl
theorem XyR:(Tryz.prog.funcs[134]?).bind (XaB Tryz.prog)=some XI9:=by kernel_rfl
theorem Xxa:(Tryz.prog.funcs[135]?).bind (XaB Tryz.prog)=some XKx:=by kernel_rfl
theorem XxM:(Tryz.prog.funcs[130]?).bind (XaB Tryz.prog)=some XK5:=by kernel_rfl
theorem XFL:(Tryz.prog.funcs[72]?).bind (XaB Tryz.prog)=some fn72:=by kernel_rfl
theorem Xw5:(Tryz.prog.funcs[107]?).bind (XaB Tryz.prog)=some XHV:=by kernel_rfl
theorem XxF:(Tryz.prog.funcs[109]?).bind (XaB Tryz.prog)=some XJY:=by kernel_rfl
theorem Xw0:(Tryz.prog.funcs[113]?).bind (XaB Tryz.prog)=some XLf:=by kernel_rfl
theorem XFb:(Tryz.prog.funcs[80]?).bind (XaB Tryz.prog)=some fn80:=by kernel_rfl
theorem XC5:(Tryz.prog.funcs[42]?).bind (XaB Tryz.prog)=some fn42:=by kernel_rfl
theorem XFB:(Tryz.prog.funcs[82]?).bind (XaB Tryz.prog)=some fn82:=by kernel_rfl
theorem XwZ:(Tryz.prog.funcs[116]?).bind (XaB Tryz.prog)=some XJN:=by kernel_rfl
theorem Xze:(Tryz.prog.funcs[133]?).bind (XaB Tryz.prog)=some XLm:=by kernel_rfl
theorem XwQ:(Tryz.prog.funcs[117]?).bind (XaB Tryz.prog)=some XHD:=by kernel_rfl
theorem XxS:(Tryz.prog.funcs[132]?).bind (XaB Tryz.prog)=some XLC:=by kernel_rfl
theorem Xyb:(Tryz.prog.funcs[102]?).bind (XaB Tryz.prog)=some XHe:=by kernel_rfl
theorem Xy2:(Tryz.prog.funcs[103]?).bind (XaB Tryz.prog)=some XGR:=by kernel_rfl
theorem Xxi:(Tryz.prog.funcs[125]?).bind (XaB Tryz.prog)=some XI2:=by kernel_rfl
theorem XD8:(Tryz.prog.funcs[60]?).bind (XaB Tryz.prog)=some fn60:=by kernel_rfl
theorem XD4:(Tryz.prog.funcs[73]?).bind (XaB Tryz.prog)=some fn73:=by kernel_rfl
theorem XyK:(Tryz.prog.funcs[108]?).bind (XaB Tryz.prog)=some XKE:=by kernel_rfl
theorem XEW:(Tryz.prog.funcs[39]?).bind (XaB Tryz.prog)=some fn39:=by kernel_rfl
theorem XGd:(Tryz.prog.funcs[65]?).bind (XaB Tryz.prog)=some fn65:=by kernel_rfl
theorem XDz:(Tryz.prog.funcs[66]?).bind (XaB Tryz.prog)=some fn66:=by kernel_rfl
theorem XDM:(Tryz.prog.funcs[67]?).bind (XaB Tryz.prog)=some fn67:=by kernel_rfl
theorem XCo:(Tryz.prog.funcs[25]?).bind (XaB Tryz.prog)=some fn25:=by kernel_rfl
theorem XEI:(Tryz.prog.funcs[47]?).bind (XaB Tryz.prog)=some fn47:=by kernel_rfl
theorem XEh:(Tryz.prog.funcs[74]?).bind (XaB Tryz.prog)=some fn74:=by kernel_rfl
theorem XDH:(Tryz.prog.funcs[75]?).bind (XaB Tryz.prog)=some fn75:=by kernel_rfl
theorem Xyc:(Tryz.prog.funcs[110]?).bind (XaB Tryz.prog)=some XIq:=by kernel_rfl
theorem Xxx:(Tryz.prog.funcs[111]?).bind (XaB Tryz.prog)=some XJJ:=by kernel_rfl
theorem XEZ:(Tryz.prog.funcs[76]?).bind (XaB Tryz.prog)=some fn76:=by kernel_rfl
theorem XDv:(Tryz.prog.funcs[77]?).bind (XaB Tryz.prog)=some fn77:=by kernel_rfl
theorem XEH:(Tryz.prog.funcs[78]?).bind (XaB Tryz.prog)=some fn78:=by kernel_rfl
theorem XE2:(Tryz.prog.funcs[43]?).bind (XaB Tryz.prog)=some fn43:=by kernel_rfl
theorem XDR:(Tryz.prog.funcs[48]?).bind (XaB Tryz.prog)=some fn48:=by kernel_rfl
theorem XDw:(Tryz.prog.funcs[79]?).bind (XaB Tryz.prog)=some fn79:=by kernel_rfl
theorem XE6:(Tryz.prog.funcs[49]?).bind (XaB Tryz.prog)=some fn49:=by kernel_rfl
theorem XCZ:(Tryz.prog.funcs[81]?).bind (XaB Tryz.prog)=some fn81:=by kernel_rfl
theorem Xy3:(Tryz.prog.funcs[114]?).bind (XaB Tryz.prog)=some XLL:=by kernel_rfl
theorem Xzc:(Tryz.prog.funcs[115]?).bind (XaB Tryz.prog)=some XJW:=by kernel_rfl
theorem XG4:(Tryz.prog.funcs[7]?).bind (XaB Tryz.prog)=some fn7:=by kernel_rfl
theorem XCH:(Tryz.prog.funcs[15]?).bind (XaB Tryz.prog)=some fn15:=by kernel_rfl
theorem XFq:(Tryz.prog.funcs[31]?).bind (XaB Tryz.prog)=some fn31:=by kernel_rfl
theorem XEO:(Tryz.prog.funcs[56]?).bind (XaB Tryz.prog)=some fn56:=by kernel_rfl
theorem XD0:(Tryz.prog.funcs[98]?).bind (XaB Tryz.prog)=some fn98:=by kernel_rfl
theorem XEX:(Tryz.prog.funcs[44]?).bind (XaB Tryz.prog)=some fn44:=by kernel_rfl
theorem XCM:(Tryz.prog.funcs[70]?).bind (XaB Tryz.prog)=some fn70:=by kernel_rfl
theorem XxC:(Tryz.prog.funcs[100]?).bind (XaB Tryz.prog)=some XLI:=by kernel_rfl
theorem Xzi:(Tryz.prog.funcs[124]?).bind (XaB Tryz.prog)=some XIQ:=by kernel_rfl
theorem XyS:(Tryz.prog.funcs[123]?).bind (XaB Tryz.prog)=some XKS:=by kernel_rfl
theorem XxD:(Tryz.prog.funcs[122]?).bind (XaB Tryz.prog)=some XKV:=by kernel_rfl
theorem XDx:(Tryz.prog.funcs[99]?).bind (XaB Tryz.prog)=some fn99:=by kernel_rfl
def XIO:VC:=.regD [oM 61 τ0,oD 62 (.callF 44 [Xl7,(.const (.int .i64 0)),(.const (.int .i64 2))]),oM 63 τ0,oD 64 (.callF 44 [XoC,(.const (.int .i64 2)),(.const (.int .i64 2))]),oM 65 τ0,oD 66 (.callF 44 [XoQ,(.const (.int .i64 4)),(.const (.int .i64 4))]),oD 67 (.conv .u32 XpY),oM 68 τ0,oD 69 (.callF 44 [XpR,(.const (.int .i64 8)),(.const (.int .i64 4))]),oD 70 (.conv .u32 XoV),oM 71 τ0,oD 72 (.idxS XrA (.const (.int .i64 13))),oD 73 (.conv .i64 Xrb),oM 74 τ0,oD 75 (.callF 44 [XuK,(.const (.int .i64 14)),(.const (.int .i64 2))]),oM 76 τ0,oD 77 (.callF 44 [XwI,(.const (.int .i64 18)),(.const (.int .i64 2))]),oM 78 τ0,oM 79 τ9,oD 80 (.sliceS Xwp (some (.const (.int .i64 20))) (some Xyx)),oD 81 (.build [(.int .i64 0),(.int .i64 0),(.int .u32 0),(.int .u32 0),(.int .i64 0),(.int .i64 0),(.int .i64 0),(.string ⟨⟨[]⟩⟩)] [(0,1,Xm9),(1,1,Xn2),(2,1,XoS),(3,1,Xrd),(4,1,Xsk),(5,1,XtG),(6,1,XvM),(7,1,Xwx)]),oM 82 τ0,oM 83 τ9,oD 84 (.sliceS Xzu (some XwK) none),oN (.store 8 τ6 XxV)] [] [oM 7 XBN,oD 8 (.mv (.const (.int .i64 0)))]
def XBR:VC:=.seq (.reg [oD 4 (.box τ1),oD 5 (.box τ2),oD 6 (.alloc [(.int .i64 0),(.int .i64 0),(.int .u32 0),(.int .u32 0),(.int .i64 0),(.int .i64 0),(.int .i64 0),(.string ⟨⟨[]⟩⟩)]),oD 7 (.mv (.const (.string ⟨⟨[]⟩⟩))),oD 8 (.mv (.const (.int .i64 0)))]) (.seq (.seq (.reg [oM 13 τ0,oD 14 (.lenS XcQ),oD 15 (.bin .lss Xde (.const (.int .i64 20)))]) (.cond Xdb (.seq (.reg [oD 16 (.build [(.int .i64 0),(.int .i64 0),(.int .u32 0),(.int .u32 0),(.int .i64 0),(.int .i64 0),(.int .i64 0),(.string ⟨⟨[]⟩⟩)] []),oN (.store 8 τ6 Xdh),oD 7 (.mv (.const (.string ⟨⟨[]⟩⟩))),oD 8 (.mv (.const (.int .i64 2)))]) .ret) .skip)) (.seq (.reg [oM 17 τ0,oD 18 (.idxS Xda (.const (.int .i64 12))),oD 19 (.bin .quo XdK (.const (.int .u8 16))),oD 20 (.conv .i64 Xdz),oD 21 (.bin .mul (.const (.int .i64 4)) Xd0),oM 9 Xd4]) (.seq (.seq (.reg [oM 22 τ9,oD 23 (.bin .lss Xeu (.const (.int .i64 20))),oM 24 XeH,oG 25 (.mv τ0) 24 false,oG 26 (.idxS XeM (.const (.int .i64 12))) 24 false,oG 27 (.bin .rem Xef (.const (.int .u8 16))) 24 false,oG 28 (.bin .neq XeJ (.const (.int .u8 0))) 24 false,oD 29 (.pick Xel (.const (.bool true)) XeC)]) (.cond XeP (.seq (.reg [oD 30 (.build [(.int .i64 0),(.int .i64 0),(.int .u32 0),(.int .u32 0),(.int .i64 0),(.int .i64 0),(.int .i64 0),(.string ⟨⟨[]⟩⟩)] []),oN (.store 8 τ6 Xfi),oD 7 (.mv (.const (.string ⟨⟨[]⟩⟩))),oD 8 (.mv (.const (.int .i64 3)))]) .ret) .skip)) (.seq (.seq (.reg [oM 31 τ0,oD 32 (.lenS Xfc),oM 33 τ9,oD 34 (.bin .lss Xfn Xfl)]) (.cond Xfu (.seq (.reg [oD 35 (.build [(.int .i64 0),(.int .i64 0),(.int .u32 0),(.int .u32 0),(.int .i64 0),(.int .i64 0),(.int .i64 0),(.string ⟨⟨[]⟩⟩)] []),oN (.store 8 τ6 Xfv),oD 7 (.mv (.const (.string ⟨⟨[]⟩⟩))),oD 8 (.mv (.const (.int .i64 2)))]) .ret) .skip)) (.seq (.reg [oD 36 (.loadN [.bool,(.int .u64),(.int .u64)] τ4),oD 37 (.loadN [.bool,(.int .u64),(.int .u64)] τ5),oM 38 τ0,oD 39 (.lenS XgG),oD 40 (.callF 95 [XfI,Xfk,(.const (.int .i64 6)),XgD]),oM 10 Xhj]) (.seq (.seq (.reg [oM 41 Xb9,oD 42 (.bin .eql Xhg (.const (.string ⟨⟨[]⟩⟩)))]) (.cond Xhh (.seq (.reg [oD 43 (.build [(.int .i64 0),(.int .i64 0),(.int .u32 0),(.int .u32 0),(.int .i64 0),(.int .i64 0),(.int .i64 0),(.string ⟨⟨[]⟩⟩)] []),oN (.store 8 τ6 Xhn),oD 7 (.mv (.const (.string ⟨⟨[]⟩⟩))),oD 8 (.mv (.const (.int .i64 1)))]) .ret) .skip)) (.seq (.seq (.reg [oM 44 Xb9,oM 45 τ0,oD 46 (.bin .add XhU XhB),oD 47 (.callF 100 [Xh6]),oD 48 (.bin .neq Xh1 (.const (.int .i64 65535)))]) (.cond Xiz (.seq (.reg [oD 49 (.build [(.int .i64 0),(.int .i64 0),(.int .u32 0),(.int .u32 0),(.int .i64 0),(.int .i64 0),(.int .i64 0),(.string ⟨⟨[]⟩⟩)] []),oN (.store 8 τ6 Xiy),oD 7 (.mv (.const (.string ⟨⟨[]⟩⟩))),oD 8 (.mv (.const (.int .i64 4)))]) .ret) .skip)) (.seq (.reg [oM 51 τ0,oM 52 τ9,oD 53 (.sliceS XiC (some (.const (.int .i64 20))) (some XjH)),oD 54 (.callF 101 [XjL]),oM 50 XkZ,oE 55 0 XiB,oE 56 1 XiB,oM 11 Xk2,oM 12 Xls]) (.seq (.seq (.reg [oM 57 XcP,oD 58 (.bin .neq Xks (.const (.int .i64 0)))]) (.cond XkY (.seq (.reg [oD 59 (.build [(.int .i64 0),(.int .i64 0),(.int .u32 0),(.int .u32 0),(.int .i64 0),(.int .i64 0),(.int .i64 0),(.string ⟨⟨[]⟩⟩)] []),oM 60 XcP,oN (.store 8 τ6 Xlu),oD 7 (.mv (.const (.string ⟨⟨[]⟩⟩))),oM 8 XlS]) .ret) .skip)) (.seq XIO .ret))))))))))
def fn57:VFn:=⟨85,XBR,[.cell 6 [(.int .i64),(.int .i64),(.int .u32),(.int .u32),(.int .i64),(.int .i64),(.int .i64),.str] true,.tmp 7,.tmp 8]⟩
def k95_7:VC:=.regD [oD 26 (.loadN [.bool,(.int .u64),(.int .u64)] τ4),oD 27 (.callF 92 [Xef]),oD 28 (.loadN [.bool,(.int .u64),(.int .u64)] τ5),oD 29 (.callF 92 [XeC]),oD 30 (.bin .add XeJ XeP),oM 31 τ3,oD 32 (.callF 94 [Xfc,(.const (.int .i64 4))]),oD 33 (.bin .add Xfi Xfn),oD 34 (.callF 94 [(.const (.int .i64 0)),(.const (.int .i64 3))]),oD 35 (.bin .add Xfl Xfu),oM 36 τ2,oD 37 (.callF 94 [XfI,(.const (.int .i64 1))])] [(1,2)] [oD 38 (.bin .add Xfv Xfk),oM 8 XgG]
def XIx:VC:=.regD [oD 39 (.loadN [.bool,(.int .u64),(.int .u64)] τ4),oD 40 (.callF 92 [XgD]),oD 41 (.loadN [.bool,(.int .u64),(.int .u64)] τ5),oD 42 (.callF 92 [Xhg]),oD 43 (.bin .add Xhj Xhh),oD 44 (.callF 94 [(.const (.int .i64 0)),(.const (.int .i64 1))]),oD 45 (.bin .add Xhn XhU),oM 46 τ2,oD 47 (.callF 94 [Xh6,(.const (.int .i64 1))]),oD 48 (.bin .add XhB Xh1),oM 49 τ3,oD 50 (.callF 94 [Xiy,(.const (.int .i64 2))])] [(1,2)] [oD 51 (.bin .add Xiz XiB),oM 8 XiC]
def Xzm:VC:=.seq (.reg [oD 4 (.box τ0),oD 5 (.box τ1),oD 8 (.mv (.const (.string ⟨⟨[]⟩⟩)))]) (.seq (.seq (.reg [oD 9 (.loadN [.bool,(.int .u64),(.int .u64)] τ4),oD 10 (.callF 97 [τ9]),oD 11 (.not Xb9),oM 12 Xb5,oG 13 (.loadN [.bool,(.int .u64),(.int .u64)] τ5) 12 false,oG 14 (.callF 97 [XcQ]) 12 false,oG 15 (.not Xde) 12 false,oD 16 (.pick XcP (.const (.bool true)) Xdb),oM 17 Xdh,oG 18 (.fieldA 0 τ4) 17 false,oG 19 (.load1 .bool XdK) 17 false,oG 20 (.fieldA 0 τ5) 17 false,oG 21 (.load1 .bool Xd0) 17 false,oG 22 (.eqB true Xdz Xd4) 17 false,oD 23 (.pick Xda (.const (.bool true)) Xeu)]) (.cond XeH (.seq (.reg [oD 8 (.mv (.const (.string ⟨⟨[]⟩⟩)))]) .ret) .skip)) (.seq (.seq (.reg [oD 24 (.fieldA 0 τ4),oD 25 (.load1 .bool Xel)]) (.cond XeM (.seq k95_7 .ret) .skip)) (.seq XIx .ret)))
def fn95:VFn:=⟨52,Xzm,[.tmp 8]⟩
def XG3:VC:=.seq (.reg [oD 1 (.box τ0),oD 2 (.mv (.const (.bool false)))]) (.seq (.reg [oD 3 (.fieldA 0 τ1),oD 4 (.load1 .bool τ3),oM 5 τ4,oG 6 (.fieldA 1 τ1) 5 false,oG 7 (.load1 (.int .u64) τ6) 5 false,oG 8 (.bin .eql τ7 (.const (.int .u64 0))) 5 false,oG 9 (.mv τ8) 5 false,oG 10 (.fieldA 2 τ1) 9 true,oG 11 (.load1 (.int .u64) Xb9) 9 true,oG 12 (.bin .lss Xb5 (.const (.int .u64 4294967296))) 9 true,oG 13 (.pick τ9 XcP (.const (.bool false))) 5 false,oD 14 (.pick τ5 (.const (.bool true)) XcQ),oM 2 Xde]) .ret)
def fn97:VFn:=⟨15,XG3,[.tmp 2]⟩
def k92_7:VC:=.regD [oD 8 (.fieldA 1 τ1),oD 9 (.load1 (.int .u64) τ8),oD 10 (.callF 85 [τ9,(.const (.int .i64 8))]),oD 11 (.fieldA 2 τ1),oD 12 (.load1 (.int .u64) Xb5)] [(2,4)] [oD 13 (.callF 85 [XcP,(.const (.int .i64 8))]),oD 14 (.bin .add Xb9 XcQ),oM 2 Xde]
def Xz2:VC:=.seq (.reg [oD 1 (.box τ0),oD 2 (.mv (.const (.string ⟨⟨[]⟩⟩)))]) (.seq (.seq (.reg [oD 3 (.loadN [.bool,(.int .u64),(.int .u64)] τ1),oD 4 (.callF 97 [τ3]),oD 5 (.not τ4)]) (.cond τ5 (.seq (.reg [oD 2 (.mv (.const (.string ⟨⟨[]⟩⟩)))]) .ret) .skip)) (.seq (.seq (.reg [oD 6 (.fieldA 0 τ1),oD 7 (.load1 .bool τ6)]) (.cond τ7 (.seq k92_7 .ret) .skip)) (.seq (.reg [oD 15 (.fieldA 2 τ1),oD 16 (.load1 (.int .u64) Xdb),oD 17 (.callF 85 [Xdh,(.const (.int .i64 4))]),oM 2 Xda]) .ret)))
def fn92:VFn:=⟨18,Xz2,[.tmp 2]⟩
def XuU:VC:=.seq (.seq (.reg [oM 7 τ6,oM 8 τ1,oD 9 (.bin .lss τ7 τ8),oM 10 τ9,oG 11 (.mv τ1) 10 true,oG 12 (.bin .leq Xb5 (.const (.int .i64 8))) 10 true,oD 13 (.pick Xb9 XcP (.const (.bool false)))]) (.cond XcQ .skip (.exit 0))) (.seq (.block 1 (.seq (.reg [oM 16 τ0,oD 17 (.bin .rem Xdh (.const (.int .u64 256))),oD 18 (.conv .u8 Xda),oD 19 (.buildSl 1 1 [(.int .u8 0)] [(0,1,XdK)]),oD 20 (.b2s Xdz),oM 21 τ5,oD 22 (.bin .add Xd0 Xd4),oM 5 Xeu]) (.reg [oM 23 τ0,oD 24 (.bin .quo XeH (.const (.int .u64 256))),oM 0 Xel]))) (.reg [oM 14 τ6,oD 15 (.bin .add Xde (.const (.int .i64 1))),oM 6 Xdb]))
def XB4:VC:=.seq (.reg [oM 25 τ5,oM 4 XeM]) .ret
def XBn:VC:=.seq (.reg [oD 4 (.mv (.const (.string ⟨⟨[]⟩⟩)))]) (.seq (.reg [oD 5 (.mv (.const (.string ⟨⟨[]⟩⟩)))]) (.seq (.seq (.reg [oD 6 (.mv (.const (.int .i64 0)))]) (.block 0 (.loop XuU))) XB4))
def fn85:VFn:=⟨26,XBn,[.tmp 4]⟩
def XKJ:VC:=.seq (.reg [oD 4 (.mv (.const (.string ⟨⟨[]⟩⟩)))]) (.seq (.reg [oM 5 τ0,oD 6 (.conv .u64 τ5),oM 7 τ1,oD 8 (.callF 85 [τ6,τ7]),oM 4 τ8]) .ret)
def fn94:VFn:=⟨9,XKJ,[.tmp 4]⟩
def XGf:VC:=.regD [oM 52 τ4,oM 53 τ0,oM 54 τ5,oD 55 (.idxS XjL XkZ),oD 56 (.conv .i64 Xk2),oM 57 τ0,oM 58 τ5,oD 59 (.bin .add XkY (.const (.int .i64 2))),oM 60 τ5,oM 61 τ6,oD 62 (.bin .add XlS Xl7),oD 63 (.sliceS Xks (some Xlu) (some Xm9)),oM 64 τ5,oD 65 (.bin .add Xn2 (.const (.int .i64 2))),oD 66 (.build [(.int .i64 0),(.string ⟨⟨[]⟩⟩),(.int .i64 0)] [(0,1,Xls),(1,1,XoC),(2,1,XoQ)]),oD 67 (.buildSl 1 3 [(.int .i64 0),(.string ⟨⟨[]⟩⟩),(.int .i64 0)] [(0,3,XpY)])] [] [oD 68 (.app 153 3 32 XjH XoS),oM 4 XpR]
def XqO:VC:=.seq (.seq (.reg [oM 7 τ5,oM 8 τ0,oD 9 (.lenS τ8),oD 10 (.bin .lss τ7 τ9),oM 11 Xb9,oG 12 (.mv τ0) 11 true,oG 13 (.mv τ5) 11 true,oG 14 (.idxS XcP XcQ) 11 true,oG 15 (.bin .neq Xde (.const (.int .u8 0))) 11 true,oD 16 (.pick Xb5 Xdb (.const (.bool false)))]) (.cond Xdh .skip (.exit 0))) (.block 1 (.seq (.seq (.reg [oM 17 τ0,oM 18 τ5,oD 19 (.idxS Xda XdK),oD 20 (.bin .eql Xdz (.const (.int .u8 1)))]) (.cond Xd0 (.seq (.reg [oM 21 τ5,oD 22 (.bin .add Xd4 (.const (.int .i64 1))),oM 5 Xeu]) (.exit 1)) .skip)) (.seq (.seq (.reg [oM 23 τ5,oD 24 (.bin .add XeH (.const (.int .i64 1))),oM 25 τ0,oD 26 (.lenS XeM),oD 27 (.bin .geq Xel Xef),oM 28 XeJ,oG 29 (.mv τ0) 28 false,oG 30 (.mv τ5) 28 false,oG 31 (.bin .add Xfi (.const (.int .i64 1))) 28 false,oG 32 (.idxS XeP Xfc) 28 false,oG 33 (.bin .lss Xfn (.const (.int .u8 2))) 28 false,oD 34 (.pick XeC (.const (.bool true)) Xfl),oM 35 Xfu,oG 36 (.mv τ0) 35 false,oG 37 (.mv τ5) 35 false,oG 38 (.bin .add Xfk (.const (.int .i64 1))) 35 false,oG 39 (.idxS XfI XgG) 35 false,oG 40 (.conv .i64 XgD) 35 false,oG 41 (.mv τ0) 35 false,oG 42 (.lenS Xhg) 35 false,oG 43 (.mv τ5) 35 false,oG 44 (.bin .sub Xhh Xhn) 35 false,oG 45 (.bin .gtr Xhj XhU) 35 false,oD 46 (.pick Xfv (.const (.bool true)) XhB)]) (.cond Xh6 (.seq (.reg [oD 2 (.mv (.const (.slice none 0 0))),oD 3 (.mv (.const (.int .i64 3)))]) .ret) .skip)) (.seq (.reg [oM 47 τ0,oM 48 τ5,oD 49 (.bin .add Xiz (.const (.int .i64 1))),oD 50 (.idxS Xh1 Xiy),oD 51 (.conv .i64 XiB),oM 6 XiC]) (.seq XGf (.reg [oM 69 τ5,oM 70 τ6,oD 71 (.bin .add XoV Xrd),oM 5 XrA]))))))
def Xt9:VC:=.seq (.reg [oM 72 τ4,oM 2 Xrb,oD 3 (.mv (.const (.int .i64 0)))]) .ret
def Xvn:VC:=.seq (.reg [oD 2 (.mv (.const (.slice none 0 0))),oD 3 (.mv (.const (.int .i64 0)))]) (.seq (.reg [oD 4 (.mv (.const (.slice none 0 0)))]) (.seq (.seq (.reg [oD 5 (.mv (.const (.int .i64 0)))]) (.block 0 (.loop XqO))) Xt9))
def XKd:VFn:=⟨73,Xvn,[.tmp 2,.tmp 3]⟩
def XIU:VC:=.regD [oM 32 τ5,oM 33 τ7,oD 34 (.idxAL 3 Xfn Xfl),oD 35 (.fieldA 1 Xfu),oD 36 (.load1 .str Xfv),oD 37 (.callF 44 [XfI,(.const (.int .i64 0)),(.const (.int .i64 4))]),oD 38 (.conv .u32 Xfk),oM 39 τ5,oM 40 τ7,oD 41 (.idxAL 3 XgD Xhj),oD 42 (.fieldA 1 Xhg),oD 43 (.load1 .str Xhh),oD 44 (.callF 44 [Xhn,(.const (.int .i64 4)),(.const (.int .i64 4))]),oD 45 (.conv .u32 XhU),oM 46 τ5,oM 47 τ7,oD 48 (.idxAL 3 Xh6 Xh1),oD 49 (.fieldA 2 Xiz),oD 50 (.load1 (.int .i64) Xiy),oM 2 XgG,oM 3 XhB] [(5,11),(5,18),(12,18)] [oM 4 XiB]
def Xty:VC:=.seq (.seq (.reg [oM 13 τ7,oM 14 τ5,oD 15 (.lenL Xde),oD 16 (.bin .lss XcQ Xdb)]) (.cond Xdh .skip (.exit 0))) (.seq (.block 1 (.seq (.reg [oM 19 τ5,oM 20 τ7,oD 21 (.idxAL 3 Xdz Xd0),oD 22 (.fieldA 0 Xd4),oD 23 (.load1 (.int .i64) Xeu),oD 24 (.bin .eql XeH (.const (.int .i64 8)))]) (.cond Xel (.seq (.seq (.reg [oM 25 τ5,oM 26 τ7,oD 27 (.idxAL 3 XeM Xef),oD 28 (.fieldA 1 XeJ),oD 29 (.load1 .str XeC),oD 30 (.lenS XeP),oD 31 (.bin .neq Xfi (.const (.int .i64 8)))]) (.cond Xfc (.seq (.reg [oD 2 (.mv (.const (.int .u32 0))),oD 3 (.mv (.const (.int .u32 0))),oD 4 (.mv (.const (.int .i64 (-1))))]) .ret) .skip)) (.seq XIU .ret)) .skip))) (.reg [oM 17 τ7,oD 18 (.bin .add Xda (.const (.int .i64 1))),oM 7 XdK]))
def XBU:VC:=.seq (.reg [oD 2 (.mv (.const (.int .u32 0))),oD 3 (.mv (.const (.int .u32 0))),oD 4 (.mv (.const (.int .i64 (-1))))]) .ret
def XBm:VC:=.seq (.reg [oD 2 (.mv (.const (.int .u32 0))),oD 3 (.mv (.const (.int .u32 0))),oD 4 (.mv (.const (.int .i64 0)))]) (.seq (.reg [oM 9 τ0,oD 10 (.callF 101 [τ9]),oM 8 Xb9,oE 11 0 τ8,oE 12 1 τ8,oM 5 Xb5,oM 6 XcP]) (.seq (.seq (.reg [oD 7 (.mv (.const (.int .i64 0)))]) (.block 0 (.loop Xty))) XBU))
def fn58:VFn:=⟨51,XBm,[.tmp 2,.tmp 3,.tmp 4]⟩
def XJ5:VC:=.regD [oM 46 τ0,oD 47 (.callF 44 [Xh6,(.const (.int .i64 0)),(.const (.int .i64 2))]),oM 48 τ0,oD 49 (.callF 44 [Xiz,(.const (.int .i64 2)),(.const (.int .i64 2))]),oD 50 (.build [(.int .i64 0),(.int .i64 0)] [(0,1,Xh1),(1,1,Xiy)]),oM 51 τ0,oM 52 τ9,oD 53 (.sliceS XiC (some (.const (.int .i64 8))) (some XjH)),oN (.store 2 τ6 XiB)] [] [oM 7 XjL,oD 8 (.mv (.const (.int .i64 0)))]
def XzN:VC:=.seq (.reg [oD 4 (.box τ1),oD 5 (.box τ2),oD 6 (.alloc [(.int .i64 0),(.int .i64 0)]),oD 7 (.mv (.const (.string ⟨⟨[]⟩⟩))),oD 8 (.mv (.const (.int .i64 0)))]) (.seq (.seq (.reg [oM 11 τ0,oD 12 (.lenS Xb5),oD 13 (.bin .lss XcP (.const (.int .i64 8)))]) (.cond XcQ (.seq (.reg [oD 14 (.build [(.int .i64 0),(.int .i64 0)] []),oN (.store 2 τ6 Xde),oD 7 (.mv (.const (.string ⟨⟨[]⟩⟩))),oD 8 (.mv (.const (.int .i64 2)))]) .ret) .skip)) (.seq (.reg [oM 15 τ0,oD 16 (.callF 44 [Xdb,(.const (.int .i64 4)),(.const (.int .i64 2))]),oM 9 Xdh]) (.seq (.seq (.reg [oM 17 τ9,oD 18 (.bin .lss Xda (.const (.int .i64 8)))]) (.cond XdK (.seq (.reg [oD 19 (.build [(.int .i64 0),(.int .i64 0)] []),oN (.store 2 τ6 Xdz),oD 7 (.mv (.const (.string ⟨⟨[]⟩⟩))),oD 8 (.mv (.const (.int .i64 3)))]) .ret) .skip)) (.seq (.seq (.reg [oM 20 τ0,oD 21 (.lenS Xd0),oM 22 τ9,oD 23 (.bin .lss Xd4 Xeu)]) (.cond XeH (.seq (.reg [oD 24 (.build [(.int .i64 0),(.int .i64 0)] []),oN (.store 2 τ6 Xel),oD 7 (.mv (.const (.string ⟨⟨[]⟩⟩))),oD 8 (.mv (.const (.int .i64 2)))]) .ret) .skip)) (.seq (.reg [oD 25 (.loadN [.bool,(.int .u64),(.int .u64)] τ4),oD 26 (.loadN [.bool,(.int .u64),(.int .u64)] τ5),oM 27 τ9,oD 28 (.callF 95 [XeM,Xef,(.const (.int .i64 17)),XeJ]),oM 10 XeC]) (.seq (.seq (.reg [oM 29 Xb9,oD 30 (.bin .eql XeP (.const (.string ⟨⟨[]⟩⟩)))]) (.cond Xfi (.seq (.reg [oD 31 (.build [(.int .i64 0),(.int .i64 0)] []),oN (.store 2 τ6 Xfc),oD 7 (.mv (.const (.string ⟨⟨[]⟩⟩))),oD 8 (.mv (.const (.int .i64 1)))]) .ret) .skip)) (.seq (.seq (.reg [oM 32 τ0,oD 33 (.callF 44 [Xfn,(.const (.int .i64 6)),(.const (.int .i64 2))]),oD 34 (.bin .eql Xfl (.const (.int .i64 0)))]) (.cond Xfu (.seq (.reg [oD 35 (.fieldA 0 τ4),oD 36 (.load1 .bool Xfv)]) (.cond XfI (.seq (.reg [oD 37 (.build [(.int .i64 0),(.int .i64 0)] []),oN (.store 2 τ6 Xfk),oD 7 (.mv (.const (.string ⟨⟨[]⟩⟩))),oD 8 (.mv (.const (.int .i64 4)))]) .ret) .skip)) (.seq (.reg [oM 38 Xb9,oM 39 τ0,oM 40 τ9,oD 41 (.sliceS XgD none (some Xhj)),oD 42 (.bin .add XgG Xhg),oD 43 (.callF 100 [Xhh]),oD 44 (.bin .neq Xhn (.const (.int .i64 65535)))]) (.cond XhU (.seq (.reg [oD 45 (.build [(.int .i64 0),(.int .i64 0)] []),oN (.store 2 τ6 XhB),oD 7 (.mv (.const (.string ⟨⟨[]⟩⟩))),oD 8 (.mv (.const (.int .i64 4)))]) .ret) .skip)))) (.seq XJ5 .ret))))))))
def fn59:VFn:=⟨54,XzN,[.cell 6 [(.int .i64),(.int .i64)] true,.tmp 7,.tmp 8]⟩
def XKu:VC:=.regD [oM 19 τ0,oD 20 (.idxS Xdz (.const (.int .i64 0))),oD 21 (.bin .geq Xd0 (.const (.int .u8 128))),oM 22 τ0,oD 23 (.idxS Xeu (.const (.int .i64 0))),oD 24 (.bin .rem XeH (.const (.int .u8 64))),oD 25 (.conv .i64 Xel),oD 26 (.build [(.bool false),(.int .i64 0),(.int .u32 0),(.string ⟨⟨[]⟩⟩),(.string ⟨⟨[]⟩⟩),(.string ⟨⟨[]⟩⟩)] [(0,1,Xd4),(1,1,XeM)]),oD 4 (.alloc [(.bool false),(.int .i64 0),(.int .u32 0),(.string ⟨⟨[]⟩⟩),(.string ⟨⟨[]⟩⟩),(.string ⟨⟨[]⟩⟩)])] [] [oN (.store 6 τ4 Xef)]
def Xzx:VC:=.seq (.reg [oD 2 (.alloc [(.bool false),(.int .i64 0),(.int .u32 0),(.string ⟨⟨[]⟩⟩),(.string ⟨⟨[]⟩⟩),(.string ⟨⟨[]⟩⟩)]),oD 3 (.mv (.const (.int .i64 0)))]) (.seq (.seq (.reg [oM 10 τ0,oD 11 (.bin .eql Xb9 (.const (.string ⟨⟨[]⟩⟩)))]) (.cond Xb5 (.seq (.reg [oD 12 (.build [(.bool false),(.int .i64 0),(.int .u32 0),(.string ⟨⟨[]⟩⟩),(.string ⟨⟨[]⟩⟩),(.string ⟨⟨[]⟩⟩)] []),oN (.store 6 τ2 XcP),oD 3 (.mv (.const (.int .i64 2)))]) .ret) .skip)) (.seq (.seq (.reg [oM 13 τ0,oD 14 (.idxS XcQ (.const (.int .i64 0))),oD 15 (.bin .quo Xde (.const (.int .u8 64))),oD 16 (.bin .rem Xdb (.const (.int .u8 2))),oD 17 (.bin .eql Xdh (.const (.int .u8 0)))]) (.cond Xda (.seq (.reg [oD 18 (.build [(.bool false),(.int .i64 0),(.int .u32 0),(.string ⟨⟨[]⟩⟩),(.string ⟨⟨[]⟩⟩),(.string ⟨⟨[]⟩⟩)] []),oN (.store 6 τ2 XdK),oD 3 (.mv (.const (.int .i64 3)))]) .ret) .skip)) (.seq XKu (.seq (.seq (.reg [oD 27 (.fieldA 0 τ4),oD 28 (.load1 .bool XeJ),oD 29 (.not XeC)]) (.cond XeP (.seq (.seq (.reg [oM 30 τ0,oD 31 (.lenS Xfi),oD 32 (.bin .lss Xfc (.const (.int .i64 9)))]) (.cond Xfn (.seq (.reg [oD 33 (.build [(.bool false),(.int .i64 0),(.int .u32 0),(.string ⟨⟨[]⟩⟩),(.string ⟨⟨[]⟩⟩),(.string ⟨⟨[]⟩⟩)] []),oN (.store 6 τ2 Xfl),oD 3 (.mv (.const (.int .i64 2)))]) .ret) .skip)) (.seq (.reg [oM 34 τ0,oD 35 (.sliceS Xfu (some (.const (.int .i64 1))) (some (.const (.int .i64 9)))),oD 36 (.fieldA 3 τ4),oN (.store 1 XfI Xfv)]) (.seq (.reg [oM 37 τ0,oD 38 (.sliceS Xfk (some (.const (.int .i64 9))) none),oD 39 (.fieldA 5 τ4),oN (.store 1 XgD XgG)]) (.seq (.reg [oD 40 (.loadN [.bool,(.int .i64),(.int .u32),.str,.str,.str] τ4),oN (.store 6 τ2 Xhj),oD 3 (.mv (.const (.int .i64 0)))]) .ret)))) .skip)) (.seq (.seq (.reg [oM 41 τ0,oD 42 (.lenS Xhg),oD 43 (.bin .lss Xhh (.const (.int .i64 5)))]) (.cond Xhn (.seq (.reg [oD 44 (.build [(.bool false),(.int .i64 0),(.int .u32 0),(.string ⟨⟨[]⟩⟩),(.string ⟨⟨[]⟩⟩),(.string ⟨⟨[]⟩⟩)] []),oN (.store 6 τ2 XhU),oD 3 (.mv (.const (.int .i64 2)))]) .ret) .skip)) (.seq (.reg [oM 45 τ0,oD 46 (.callF 44 [XhB,(.const (.int .i64 1)),(.const (.int .i64 4))]),oD 47 (.conv .u32 Xh6),oD 48 (.fieldA 2 τ4),oN (.store 1 Xiz Xh1)]) (.seq (.reg [oM 50 τ0,oD 51 (.callF 45 [XiB,(.const (.int .i64 5))]),oM 49 XiC,oE 52 0 Xiy,oE 53 1 Xiy,oE 54 2 Xiy,oM 5 XjH,oM 6 XjL,oM 7 XkZ]) (.seq (.seq (.reg [oM 55 τ6,oD 56 (.bin .neq Xk2 (.const (.int .i64 0)))]) (.cond Xls (.seq (.reg [oD 57 (.build [(.bool false),(.int .i64 0),(.int .u32 0),(.string ⟨⟨[]⟩⟩),(.string ⟨⟨[]⟩⟩),(.string ⟨⟨[]⟩⟩)] []),oM 58 τ6,oN (.store 6 τ2 Xks),oM 3 XkY]) .ret) .skip)) (.seq (.reg [oM 60 τ0,oM 61 τ7,oD 62 (.callF 45 [XlS,Xl7]),oM 59 Xm9,oE 63 0 Xlu,oE 64 1 Xlu,oE 65 2 Xlu,oM 8 XoC,oM 6 Xn2,oM 9 XoQ]) (.seq (.seq (.reg [oM 66 τ6,oD 67 (.bin .neq XpY (.const (.int .i64 0)))]) (.cond XoS (.seq (.reg [oD 68 (.build [(.bool false),(.int .i64 0),(.int .u32 0),(.string ⟨⟨[]⟩⟩),(.string ⟨⟨[]⟩⟩),(.string ⟨⟨[]⟩⟩)] []),oM 69 τ6,oN (.store 6 τ2 XpR),oM 3 XoV]) .ret) .skip)) (.seq (.reg [oM 70 τ5,oD 71 (.fieldA 3 τ4),oN (.store 1 XrA Xrd)]) (.seq (.reg [oM 72 τ8,oD 73 (.fieldA 4 τ4),oN (.store 1 Xsk Xrb)]) (.seq (.reg [oM 74 τ0,oM 75 τ9,oD 76 (.sliceS XuK (some XtG) none),oD 77 (.fieldA 5 τ4),oN (.store 1 XvM XwI)]) (.seq (.reg [oD 78 (.loadN [.bool,(.int .i64),(.int .u32),.str,.str,.str] τ4),oN (.store 6 τ2 Xwp),oD 3 (.mv (.const (.int .i64 0)))]) .ret))))))))))))))
def fn21:VFn:=⟨79,Xzx,[.cell 2 [.bool,(.int .i64),(.int .u32),.str,.str,.str] true,.tmp 3]⟩
def XAL:VC:=.seq (.reg [oD 4 (.mv (.const (.string ⟨⟨[]⟩⟩))),oD 5 (.mv (.const (.int .i64 0))),oD 6 (.mv (.const (.int .i64 0)))]) (.seq (.seq (.reg [oM 8 τ1,oM 9 τ0,oD 10 (.lenS τ9),oD 11 (.bin .geq τ8 Xb9)]) (.cond Xb5 (.seq (.reg [oD 4 (.mv (.const (.string ⟨⟨[]⟩⟩))),oD 5 (.mv (.const (.int .i64 2))),oD 6 (.mv (.const (.int .i64 0)))]) .ret) .skip)) (.seq (.reg [oM 12 τ0,oM 13 τ1,oD 14 (.idxS XcP XcQ),oD 15 (.conv .i64 Xde),oM 7 Xdb]) (.seq (.seq (.reg [oM 16 τ7,oD 17 (.bin .gtr Xdh (.const (.int .i64 20)))]) (.cond Xda (.seq (.reg [oD 4 (.mv (.const (.string ⟨⟨[]⟩⟩))),oD 5 (.mv (.const (.int .i64 3))),oD 6 (.mv (.const (.int .i64 0)))]) .ret) .skip)) (.seq (.seq (.reg [oM 18 τ7,oM 19 τ0,oD 20 (.lenS Xdz),oM 21 τ1,oD 22 (.bin .sub Xd0 Xd4),oD 23 (.bin .sub Xeu (.const (.int .i64 1))),oD 24 (.bin .gtr XdK XeH)]) (.cond Xel (.seq (.reg [oD 4 (.mv (.const (.string ⟨⟨[]⟩⟩))),oD 5 (.mv (.const (.int .i64 2))),oD 6 (.mv (.const (.int .i64 0)))]) .ret) .skip)) (.seq (.reg [oM 25 τ0,oM 26 τ1,oD 27 (.bin .add Xef (.const (.int .i64 1))),oM 28 τ1,oD 29 (.bin .add XeC (.const (.int .i64 1))),oM 30 τ7,oD 31 (.bin .add XeP Xfi),oD 32 (.sliceS XeM (some XeJ) (some Xfc)),oM 33 τ1,oD 34 (.bin .add Xfl (.const (.int .i64 1))),oM 35 τ7,oD 36 (.bin .add Xfu Xfv),oM 4 Xfn,oD 5 (.mv (.const (.int .i64 0))),oM 6 XfI]) .ret)))))
def fn45:VFn:=⟨37,XAL,[.tmp 4,.tmp 5,.tmp 6]⟩
def k9_15:VC:=.seq (.reg [oD 4 (.mv (.const (.int .i64 0)))]) (.seq (.seq (.reg [oM 5 τ0,oD 6 (.callF 26 [τ5]),oD 7 (.not τ6)]) (.cond τ7 (.seq (.reg [oD 4 (.mv (.const (.int .i64 0)))]) .ret) .skip)) (.seq (.seq (.reg [oM 8 τ1]) (.cond τ8 (.seq (.reg [oM 9 τ0,oD 10 (.bin .sub τ9 (.const (.int .i64 48))),oD 11 (.bin .sub Xb9 (.const (.int .i64 18))),oM 4 Xb5]) .ret) .skip)) (.seq (.reg [oM 12 τ0,oD 13 (.bin .sub XcP (.const (.int .i64 28))),oD 14 (.bin .sub XcQ (.const (.int .i64 18))),oM 4 Xde]) .ret)))
def fn9:VFn:=⟨15,k9_15,[.tmp 4]⟩
def k26_3:VC:=.seq (.reg [oD 2 (.mv (.const (.bool false)))]) (.seq (.reg [oM 3 τ0,oD 4 (.bin .geq τ3 (.const (.int .i64 576))),oM 5 τ4,oG 6 (.mv τ0) 5 true,oG 7 (.bin .leq τ6 (.const (.int .i64 9000))) 5 true,oD 8 (.pick τ5 τ7 (.const (.bool false))),oM 2 τ8]) .ret)
def fn26:VFn:=⟨9,k26_3,[.tmp 2]⟩
def XIB:VC:=.seq (.reg [oD 3 (.box τ0),oD 4 (.box τ1),oD 5 (.box τ2),oD 6 (.mv (.const (.string ⟨⟨[]⟩⟩))),oD 7 (.mv (.const (.int .i64 0)))]) (.seq (.reg [oD 11 (.loadN [(.int .i64),(.int .i64),(.int .i64),.str] τ3),oD 12 (.loadN [.bool,(.int .u64),(.int .u64)] τ4),oD 13 (.loadN [.bool,(.int .u64),(.int .u64)] τ5),oD 14 (.callF 50 [Xb5,XcP,XcQ]),oM 10 Xde,oE 15 0 Xb9,oE 16 1 Xb9,oM 8 Xdb,oM 9 Xdh]) (.seq (.seq (.reg [oM 17 τ9,oD 18 (.bin .neq Xda (.const (.int .i64 0)))]) (.cond XdK (.seq (.reg [oM 19 τ9,oD 6 (.mv (.const (.string ⟨⟨[]⟩⟩))),oM 7 Xdz]) .ret) .skip)) (.seq (.seq (.reg [oD 20 (.fieldA 0 τ4),oD 21 (.load1 .bool Xd0)]) (.cond Xd4 (.seq (.reg [oD 22 (.loadN [.bool,(.int .u64),(.int .u64)] τ4),oD 23 (.loadN [.bool,(.int .u64),(.int .u64)] τ5),oD 24 (.build [(.int .i64 0),(.int .i64 0),(.int .i64 0),(.int .i64 0),(.bool false),(.int .u64 0),(.int .u64 0),(.bool false),(.int .u64 0),(.int .u64 0)] [(2,1,(.const (.int .i64 58))),(3,1,(.const (.int .i64 64))),(4,3,Xeu),(7,3,XeH)]),oM 25 τ8,oD 26 (.callF 51 [Xel,XeM]),oE 27 0 Xef,oE 28 1 Xef,oM 6 XeJ,oM 7 XeC]) .ret) .skip)) (.seq (.reg [oD 29 (.loadN [.bool,(.int .u64),(.int .u64)] τ4),oD 30 (.loadN [.bool,(.int .u64),(.int .u64)] τ5),oD 31 (.build [(.int .i64 0),(.int .i64 0),(.bool false),(.int .i64 0),(.int .i64 0),(.bool false),(.int .u64 0),(.int .u64 0),(.bool false),(.int .u64 0),(.int .u64 0),(.string ⟨⟨[]⟩⟩)] [(2,1,(.const (.bool true))),(3,1,(.const (.int .i64 64))),(4,1,(.const (.int .i64 1))),(5,3,XeP),(8,3,Xfi)]),oM 32 τ8,oD 33 (.callF 52 [Xfc,Xfn]),oE 34 0 Xfl,oE 35 1 Xfl,oM 6 Xfu,oM 7 Xfv]) .ret))))
def fn27:VFn:=⟨36,XIB,[.tmp 6,.tmp 7]⟩
def k50_6:VC:=.regD [oD 20 (.fieldA 0 τ4),oD 21 (.load1 .bool Xd0),oD 22 (.fieldA 0 τ3),oD 23 (.load1 (.int .i64) Xeu),oD 24 (.callF 86 [Xd4,XeH]),oD 25 (.conv .u64 Xel),oD 26 (.callF 85 [XeM,(.const (.int .i64 1))]),oD 27 (.fieldA 1 τ3),oD 28 (.load1 (.int .i64) XeJ),oD 29 (.conv .u64 XeC),oD 30 (.callF 85 [XeP,(.const (.int .i64 1))]),oD 31 (.bin .add Xef Xfi),oD 32 (.bin .add Xfc (.const (.string ⟨⟨[0,0,0,0]⟩⟩))),oD 33 (.fieldA 2 τ3),oD 34 (.load1 (.int .i64) Xfl),oD 35 (.conv .u64 Xfu),oD 36 (.callF 85 [Xfv,(.const (.int .i64 2))]),oD 37 (.bin .add Xfn XfI),oD 38 (.fieldA 3 τ3),oD 39 (.load1 .str XgG)] [(4,8),(4,14),(4,19),(6,8),(6,14),(6,19),(10,14),(10,19),(16,19)] [oD 40 (.bin .add Xfk XgD),oM 8 Xhj]
def XLt:VC:=.seq (.reg [oD 3 (.box τ0),oD 4 (.box τ1),oD 5 (.box τ2),oD 6 (.mv (.const (.string ⟨⟨[]⟩⟩))),oD 7 (.mv (.const (.int .i64 0)))]) (.seq (.seq (.reg [oD 9 (.loadN [.bool,(.int .u64),(.int .u64)] τ4),oD 10 (.loadN [.bool,(.int .u64),(.int .u64)] τ5),oD 11 (.callF 83 [τ9,Xb9]),oD 12 (.not Xb5),oM 13 XcP,oG 14 (.loadN [(.int .i64),(.int .i64),(.int .i64),.str] τ3) 13 false,oG 15 (.fieldA 0 τ4) 13 false,oG 16 (.load1 .bool Xdb) 13 false,oG 17 (.callF 84 [Xde,Xdh]) 13 false,oG 18 (.not Xda) 13 false,oD 19 (.pick XcQ (.const (.bool true)) XdK)]) (.cond Xdz (.seq (.reg [oD 6 (.mv (.const (.string ⟨⟨[]⟩⟩))),oD 7 (.mv (.const (.int .i64 1)))]) .ret) .skip)) (.seq k50_6 (.seq (.reg [oM 41 τ8,oD 42 (.loadN [.bool,(.int .u64),(.int .u64)] τ4),oD 43 (.loadN [.bool,(.int .u64),(.int .u64)] τ5),oM 44 τ8,oD 45 (.lenS XhU),oD 46 (.callF 89 [Xhh,Xhn,XhB]),oM 47 τ8,oD 48 (.bin .add Xh6 Xh1),oD 49 (.callF 88 [Xiz]),oD 50 (.conv .u64 Xiy),oD 51 (.callF 87 [Xhg,(.const (.int .i64 2)),(.const (.int .i64 2)),XiB]),oM 6 XiC,oD 7 (.mv (.const (.int .i64 0)))]) .ret)))
def fn50:VFn:=⟨52,XLt,[.tmp 6,.tmp 7]⟩
def k83_3:VC:=.seq (.reg [oD 2 (.box τ0),oD 3 (.box τ1),oD 4 (.mv (.const (.bool false)))]) (.seq (.reg [oD 5 (.loadN [.bool,(.int .u64),(.int .u64)] τ2),oD 6 (.loadN [.bool,(.int .u64),(.int .u64)] τ3),oD 7 (.callF 95 [τ5,τ6,(.const (.int .i64 1)),(.const (.int .i64 8))]),oD 8 (.bin .neq τ7 (.const (.string ⟨⟨[]⟩⟩))),oM 4 τ8]) .ret)
def fn83:VFn:=⟨9,k83_3,[.tmp 4]⟩
def XJ1:VC:=.seq (.reg [oD 2 (.box τ0),oD 4 (.mv (.const (.bool false)))]) (.seq (.seq (.reg [oD 5 (.fieldA 0 τ2),oD 6 (.load1 (.int .i64) τ5),oD 7 (.bin .lss τ6 (.const (.int .i64 1))),oM 8 τ7,oG 9 (.fieldA 0 τ2) 8 false,oG 10 (.load1 (.int .i64) τ9) 8 false,oG 11 (.bin .gtr Xb9 (.const (.int .i64 3))) 8 false,oD 12 (.pick τ8 (.const (.bool true)) Xb5),oM 13 XcP,oG 14 (.fieldA 1 τ2) 13 false,oG 15 (.load1 (.int .i64) Xde) 13 false,oG 16 (.bin .lss Xdb (.const (.int .i64 0))) 13 false,oD 17 (.pick XcQ (.const (.bool true)) Xdh),oM 18 Xda,oG 19 (.fieldA 1 τ2) 18 false,oG 20 (.load1 (.int .i64) Xdz) 18 false,oG 21 (.bin .gtr Xd0 (.const (.int .i64 255))) 18 false,oD 22 (.pick XdK (.const (.bool true)) Xd4),oM 23 Xeu,oG 24 (.fieldA 2 τ2) 23 false,oG 25 (.load1 (.int .i64) Xel) 23 false,oG 26 (.bin .lss XeM (.const (.int .i64 0))) 23 false,oD 27 (.pick XeH (.const (.bool true)) Xef),oM 28 XeJ,oG 29 (.fieldA 2 τ2) 28 false,oG 30 (.load1 (.int .i64) XeP) 28 false,oG 31 (.bin .gtr Xfi (.const (.int .i64 65535))) 28 false,oD 32 (.pick XeC (.const (.bool true)) Xfc),oM 33 Xfn,oG 34 (.fieldA 0 τ2) 33 false,oG 35 (.load1 (.int .i64) Xfu) 33 false,oG 36 (.bin .neq Xfv (.const (.int .i64 2))) 33 false,oG 37 (.mv XfI) 33 false,oG 38 (.fieldA 2 τ2) 37 true,oG 39 (.load1 (.int .i64) XgG) 37 true,oG 40 (.bin .neq XgD (.const (.int .i64 0))) 37 true,oG 41 (.pick Xfk Xhj (.const (.bool false))) 33 false,oD 42 (.pick Xfl (.const (.bool true)) Xhg),oM 43 Xhh,oG 44 (.fieldA 3 τ2) 43 false,oG 45 (.load1 .str XhU) 43 false,oG 46 (.lenS XhB) 43 false,oG 47 (.bin .gtr Xh6 (.const (.int .i64 1232))) 43 false,oD 48 (.pick Xhn (.const (.bool true)) Xh1)]) (.cond Xiz (.seq (.reg [oD 4 (.mv (.const (.bool false)))]) .ret) .skip)) (.seq (.seq (.reg [oM 49 τ1]) (.cond Xiy (.seq (.reg [oD 50 (.fieldA 0 τ2),oD 51 (.load1 (.int .i64) XiB),oD 52 (.bin .neq XiC (.const (.int .i64 2))),oM 53 XjH,oG 54 (.fieldA 1 τ2) 53 false,oG 55 (.load1 (.int .i64) XkZ) 53 false,oG 56 (.bin .eql Xk2 (.const (.int .i64 0))) 53 false,oD 57 (.pick XjL (.const (.bool true)) Xls),oM 4 Xks]) .ret) .skip)) (.seq (.reg [oD 58 (.fieldA 0 τ2),oD 59 (.load1 (.int .i64) XkY),oD 60 (.bin .eql Xlu (.const (.int .i64 3))),oM 61 XlS,oG 62 (.fieldA 0 τ2) 61 false,oG 63 (.load1 (.int .i64) Xm9) 61 false,oG 64 (.bin .eql XoC (.const (.int .i64 2))) 61 false,oG 65 (.fieldA 1 τ2) 61 false,oG 66 (.load1 (.int .i64) XoQ) 61 false,oG 67 (.bin .eql XpY (.const (.int .i64 4))) 61 false,oG 68 (.eqB false Xn2 XoS) 61 false,oD 69 (.pick Xl7 (.const (.bool true)) XpR),oM 4 XoV]) .ret)))
def fn84:VFn:=⟨70,XJ1,[.tmp 4]⟩
def XI0:VC:=.seq (.reg [oD 4 (.mv (.const (.int .i64 0)))]) (.seq (.seq (.reg [oM 5 τ0]) (.cond τ5 (.seq (.reg [oM 6 τ1,oM 4 τ6]) .ret) .skip)) (.seq (.seq (.reg [oM 7 τ1,oD 8 (.bin .eql τ7 (.const (.int .i64 3)))]) (.cond τ8 (.seq (.reg [oD 4 (.mv (.const (.int .i64 11)))]) .ret) .skip)) (.seq (.reg [oD 4 (.mv (.const (.int .i64 3)))]) .ret)))
def fn86:VFn:=⟨9,XI0,[.tmp 4]⟩
def k89_9:VC:=.seq (.reg [oD 3 (.box τ0),oD 4 (.box τ1),oD 6 (.mv (.const (.string ⟨⟨[]⟩⟩)))]) (.seq (.seq (.reg [oD 7 (.fieldA 0 τ3),oD 8 (.load1 .bool τ7)]) (.cond τ8 (.seq (.reg [oD 9 (.loadN [.bool,(.int .u64),(.int .u64)] τ3),oD 10 (.loadN [.bool,(.int .u64),(.int .u64)] τ4),oM 11 τ2,oD 12 (.callF 95 [τ9,Xb9,(.const (.int .i64 58)),Xb5]),oM 6 XcP]) .ret) .skip)) (.seq (.reg [oD 6 (.mv (.const (.string ⟨⟨[]⟩⟩)))]) .ret))
def fn89:VFn:=⟨13,k89_9,[.tmp 6]⟩
def XJZ:VC:=.seq (.reg [oD 2 (.mv (.const (.int .i64 0)))]) (.seq (.reg [oM 3 τ0,oD 4 (.callF 100 [τ3]),oD 5 (.bin .sub (.const (.int .i64 65535)) τ4),oM 2 τ5]) .ret)
def fn88:VFn:=⟨6,XJZ,[.tmp 2]⟩
def k87_7:VC:=.regD [oM 21 τ0,oM 22 τ1,oD 23 (.sliceS Xd4 none (some Xeu)),oM 24 τ3,oM 25 τ2,oD 26 (.callF 85 [Xel,XeM]),oD 27 (.bin .add XeH Xef),oM 28 τ0,oM 29 τ1,oM 30 τ2,oD 31 (.bin .add XeP Xfi),oD 32 (.sliceS XeC (some Xfc) none)] [] [oD 33 (.bin .add XeJ Xfn),oM 8 Xfl]
def XzQ:VC:=.seq (.reg [oD 8 (.mv (.const (.string ⟨⟨[]⟩⟩)))]) (.seq (.reg [oM 12 τ0,oM 13 τ1,oM 14 τ2,oD 15 (.callF 70 [XcP,XcQ,Xde]),oM 11 Xdb,oE 16 0 Xb5,oE 17 1 Xb5,oM 9 Xdh,oM 10 Xda]) (.seq (.seq (.reg [oM 18 Xb9,oD 19 (.not XdK)]) (.cond Xdz (.seq (.reg [oM 20 τ0,oM 8 Xd0]) .ret) .skip)) (.seq k87_7 .ret)))
def fn87:VFn:=⟨34,XzQ,[.tmp 8]⟩
def XJS:VC:=.regD [oD 12 (.fieldA 0 τ2),oD 13 (.load1 (.int .i64) XcP),oD 14 (.bin .mul XcQ (.const (.int .i64 1048576))),oD 15 (.bin .add (.const (.int .i64 1610612736)) Xde),oD 16 (.fieldA 1 τ2),oD 17 (.load1 (.int .i64) Xdh),oD 18 (.bin .add Xdb Xda),oD 19 (.callF 91 [XdK,(.const (.int .i64 4))]),oM 20 τ1,oD 21 (.lenS Xd0),oD 22 (.callF 91 [Xd4,(.const (.int .i64 2))]),oD 23 (.bin .add Xdz Xeu),oD 24 (.fieldA 2 τ2),oD 25 (.load1 (.int .i64) Xel),oD 26 (.callF 91 [XeM,(.const (.int .i64 1))]),oD 27 (.bin .add XeH Xef),oD 28 (.fieldA 3 τ2),oD 29 (.load1 (.int .i64) XeC),oD 30 (.callF 91 [XeP,(.const (.int .i64 1))]),oD 31 (.bin .add XeJ Xfi),oD 32 (.fieldA 4 τ2),oD 33 (.loadN [.bool,(.int .u64),(.int .u64)] Xfn),oD 34 (.callF 92 [Xfl]),oD 35 (.bin .add Xfc Xfu),oD 36 (.fieldA 7 τ2),oD 37 (.loadN [.bool,(.int .u64),(.int .u64)] XfI),oD 38 (.callF 92 [Xfk]),oD 39 (.bin .add Xfv XgG),oM 40 τ1] [(7,13),(7,17),(7,21),(7,25),(10,13),(10,17),(10,21),(10,25),(14,17),(14,21),(14,25),(18,21),(18,25),(22,25)] [oD 41 (.bin .add XgD Xhj),oM 4 Xhg,oD 5 (.mv (.const (.int .i64 0)))]
def XBi:VC:=.seq (.reg [oD 2 (.box τ0),oD 4 (.mv (.const (.string ⟨⟨[]⟩⟩))),oD 5 (.mv (.const (.int .i64 0)))]) (.seq (.seq (.reg [oD 6 (.loadN [(.int .i64),(.int .i64),(.int .i64),(.int .i64),.bool,(.int .u64),(.int .u64),.bool,(.int .u64),(.int .u64)] τ2),oD 7 (.callF 90 [τ6]),oD 8 (.not τ7)]) (.cond τ8 (.seq (.reg [oD 4 (.mv (.const (.string ⟨⟨[]⟩⟩))),oD 5 (.mv (.const (.int .i64 1)))]) .ret) .skip)) (.seq (.seq (.reg [oM 9 τ1,oD 10 (.lenS τ9),oD 11 (.bin .gtr Xb9 (.const (.int .i64 65535)))]) (.cond Xb5 (.seq (.reg [oD 4 (.mv (.const (.string ⟨⟨[]⟩⟩))),oD 5 (.mv (.const (.int .i64 5)))]) .ret) .skip)) (.seq XJS .ret)))
def fn51:VFn:=⟨42,XBi,[.tmp 4,.tmp 5]⟩
def XLK:VC:=.seq (.reg [oD 1 (.box τ0),oD 2 (.mv (.const (.bool false)))]) (.seq (.reg [oD 3 (.fieldA 0 τ1),oD 4 (.load1 (.int .i64) τ3),oD 5 (.callF 118 [τ4,(.const (.int .i64 255))]),oM 6 τ5,oG 7 (.fieldA 1 τ1) 6 true,oG 8 (.load1 (.int .i64) τ7) 6 true,oG 9 (.callF 118 [τ8,(.const (.int .i64 1048575))]) 6 true,oD 10 (.pick τ6 τ9 (.const (.bool false))),oM 11 Xb9,oG 12 (.fieldA 2 τ1) 11 true,oG 13 (.load1 (.int .i64) XcP) 11 true,oG 14 (.callF 118 [XcQ,(.const (.int .i64 255))]) 11 true,oD 15 (.pick Xb5 Xde (.const (.bool false))),oM 16 Xdb,oG 17 (.fieldA 3 τ1) 16 true,oG 18 (.load1 (.int .i64) Xda) 16 true,oG 19 (.callF 118 [XdK,(.const (.int .i64 255))]) 16 true,oD 20 (.pick Xdh Xdz (.const (.bool false))),oM 21 Xd0,oG 22 (.fieldA 4 τ1) 21 true,oG 23 (.fieldA 0 Xeu) 21 true,oG 24 (.load1 .bool XeH) 21 true,oD 25 (.pick Xd4 Xel (.const (.bool false))),oM 26 XeM,oG 27 (.fieldA 7 τ1) 26 true,oG 28 (.fieldA 0 XeJ) 26 true,oG 29 (.load1 .bool XeC) 26 true,oD 30 (.pick Xef XeP (.const (.bool false))),oM 2 Xfi]) .ret)
def fn90:VFn:=⟨31,XLK,[.tmp 2]⟩
def XBH:VC:=.seq (.reg [oD 4 (.mv (.const (.bool false)))]) (.seq (.reg [oM 5 τ0,oD 6 (.bin .geq τ5 (.const (.int .i64 0))),oM 7 τ6,oG 8 (.mv τ0) 7 true,oG 9 (.mv τ1) 7 true,oG 10 (.bin .leq τ8 τ9) 7 true,oD 11 (.pick τ7 Xb9 (.const (.bool false))),oM 4 Xb5]) .ret)
def XKf:VFn:=⟨12,XBH,[.tmp 4]⟩
def XH1:VC:=.seq (.reg [oD 4 (.mv (.const (.string ⟨⟨[]⟩⟩)))]) (.seq (.reg [oM 5 τ0,oD 6 (.conv .u64 τ5),oM 7 τ1,oD 8 (.callF 85 [τ6,τ7]),oM 4 τ8]) .ret)
def fn91:VFn:=⟨9,XH1,[.tmp 4]⟩
def XIS:VC:=.regD [oM 23 τ6,oD 24 (.bin .quo XeH (.const (.int .i64 4))),oD 25 (.bin .add (.const (.int .i64 64)) Xel),oD 26 (.callF 94 [XeM,(.const (.int .i64 1))]),oD 27 (.fieldA 0 τ2),oD 28 (.load1 (.int .i64) XeJ),oD 29 (.callF 94 [XeC,(.const (.int .i64 1))]),oD 30 (.bin .add Xef XeP),oM 31 τ6,oM 32 τ1,oD 33 (.lenS Xfn),oD 34 (.bin .add Xfc Xfl),oD 35 (.callF 94 [Xfu,(.const (.int .i64 2))]),oD 36 (.bin .add Xfi Xfv),oD 37 (.fieldA 1 τ2),oD 38 (.load1 (.int .i64) Xfk),oD 39 (.callF 94 [XgG,(.const (.int .i64 2))]),oD 40 (.bin .add XfI XgD),oM 41 τ7,oD 42 (.callF 94 [Xhg,(.const (.int .i64 1))]),oD 43 (.bin .add Xhj Xhh),oD 44 (.callF 94 [(.const (.int .i64 0)),(.const (.int .i64 1))]),oD 45 (.bin .add Xhn XhU),oD 46 (.fieldA 3 τ2),oD 47 (.load1 (.int .i64) Xh6),oD 48 (.callF 94 [Xh1,(.const (.int .i64 1))]),oD 49 (.bin .add XhB Xiz),oD 50 (.fieldA 4 τ2),oD 51 (.load1 (.int .i64) XiB),oD 52 (.callF 94 [XiC,(.const (.int .i64 1))]),oD 53 (.bin .add Xiy XjH),oD 54 (.callF 94 [(.const (.int .i64 0)),(.const (.int .i64 2))]),oD 55 (.bin .add XjL XkZ),oD 56 (.fieldA 5 τ2),oD 57 (.loadN [.bool,(.int .u64),(.int .u64)] Xls),oD 58 (.callF 92 [Xks]),oD 59 (.bin .add Xk2 XkY),oD 60 (.fieldA 8 τ2),oD 61 (.loadN [.bool,(.int .u64),(.int .u64)] XlS),oD 62 (.callF 92 [Xl7]),oD 63 (.bin .add Xlu Xm9),oD 64 (.fieldA 11 τ2),oD 65 (.load1 .str Xn2)] [(3,5),(3,15),(3,24),(3,28),(3,34),(3,38),(3,42),(6,15),(6,24),(6,28),(6,34),(6,38),(6,42),(12,15),(12,24),(12,28),(12,34),(12,38),(12,42),(16,24),(16,28),(16,34),(16,38),(16,42),(19,24),(19,28),(19,34),(19,38),(19,42),(21,24),(21,28),(21,34),(21,38),(21,42),(25,28),(25,34),(25,38),(25,42),(29,34),(29,38),(29,42),(31,34),(31,38),(31,42),(35,38),(35,42),(39,42)] [oD 66 (.bin .add XoC XoQ),oM 8 XpY]
def XzK:VC:=.seq (.reg [oD 2 (.box τ0),oD 4 (.mv (.const (.string ⟨⟨[]⟩⟩))),oD 5 (.mv (.const (.int .i64 0)))]) (.seq (.seq (.reg [oD 9 (.loadN [(.int .i64),(.int .i64),.bool,(.int .i64),(.int .i64),.bool,(.int .u64),(.int .u64),.bool,(.int .u64),(.int .u64),.str] τ2),oD 10 (.callF 93 [τ9]),oD 11 (.not Xb9)]) (.cond Xb5 (.seq (.reg [oD 4 (.mv (.const (.string ⟨⟨[]⟩⟩))),oD 5 (.mv (.const (.int .i64 1)))]) .ret) .skip)) (.seq (.reg [oD 12 (.fieldA 11 τ2),oD 13 (.load1 .str XcP),oD 14 (.lenS XcQ),oD 15 (.bin .add (.const (.int .i64 20)) Xde),oM 6 Xdb]) (.seq (.seq (.reg [oM 16 τ1,oD 17 (.lenS Xdh),oM 18 τ6,oD 19 (.bin .sub (.const (.int .i64 65535)) XdK),oD 20 (.bin .gtr Xda Xdz)]) (.cond Xd0 (.seq (.reg [oD 4 (.mv (.const (.string ⟨⟨[]⟩⟩))),oD 5 (.mv (.const (.int .i64 5)))]) .ret) .skip)) (.seq (.reg [oD 7 (.mv (.const (.int .i64 0)))]) (.seq (.seq (.reg [oD 21 (.fieldA 2 τ2),oD 22 (.load1 .bool Xd4)]) (.cond Xeu (.reg [oD 7 (.mv (.const (.int .i64 64)))]) .skip)) (.seq XIS (.seq (.reg [oM 67 τ8,oM 68 τ8,oD 69 (.callF 88 [XpR]),oD 70 (.conv .u64 XoV),oD 71 (.callF 87 [XoS,(.const (.int .i64 10)),(.const (.int .i64 2)),Xrd]),oM 72 τ1,oD 73 (.bin .add XrA Xrb),oM 4 Xsk,oD 5 (.mv (.const (.int .i64 0)))]) .ret)))))))
def fn52:VFn:=⟨74,XzK,[.tmp 4,.tmp 5]⟩
def XIN:VC:=.seq (.reg [oD 1 (.box τ0),oD 2 (.mv (.const (.bool false)))]) (.seq (.reg [oD 3 (.fieldA 0 τ1),oD 4 (.load1 (.int .i64) τ3),oD 5 (.callF 119 [τ4,(.const (.int .i64 255))]),oM 6 τ5,oG 7 (.fieldA 1 τ1) 6 true,oG 8 (.load1 (.int .i64) τ7) 6 true,oG 9 (.callF 119 [τ8,(.const (.int .i64 65535))]) 6 true,oD 10 (.pick τ6 τ9 (.const (.bool false))),oM 11 Xb9,oG 12 (.fieldA 3 τ1) 11 true,oG 13 (.load1 (.int .i64) XcP) 11 true,oG 14 (.callF 119 [XcQ,(.const (.int .i64 255))]) 11 true,oD 15 (.pick Xb5 Xde (.const (.bool false))),oM 16 Xdb,oG 17 (.fieldA 4 τ1) 16 true,oG 18 (.load1 (.int .i64) Xda) 16 true,oG 19 (.callF 119 [XdK,(.const (.int .i64 255))]) 16 true,oD 20 (.pick Xdh Xdz (.const (.bool false))),oM 21 Xd0,oG 22 (.fieldA 5 τ1) 21 true,oG 23 (.loadN [.bool,(.int .u64),(.int .u64)] Xeu) 21 true,oG 24 (.callF 120 [XeH]) 21 true,oD 25 (.pick Xd4 Xel (.const (.bool false))),oM 26 XeM,oG 27 (.fieldA 8 τ1) 26 true,oG 28 (.loadN [.bool,(.int .u64),(.int .u64)] XeJ) 26 true,oG 29 (.callF 120 [XeC]) 26 true,oD 30 (.pick Xef XeP (.const (.bool false))),oM 31 Xfi,oG 32 (.fieldA 11 τ1) 31 true,oG 33 (.load1 .str Xfn) 31 true,oG 34 (.lenS Xfl) 31 true,oG 35 (.bin .leq Xfu (.const (.int .i64 40))) 31 true,oD 36 (.pick Xfc Xfv (.const (.bool false))),oM 37 XfI,oG 38 (.fieldA 11 τ1) 37 true,oG 39 (.load1 .str XgG) 37 true,oG 40 (.lenS XgD) 37 true,oG 41 (.bin .rem Xhj (.const (.int .i64 4))) 37 true,oG 42 (.bin .eql Xhg (.const (.int .i64 0))) 37 true,oD 43 (.pick Xfk Xhh (.const (.bool false))),oM 2 Xhn]) .ret)
def fn93:VFn:=⟨44,XIN,[.tmp 2]⟩
def XAA:VC:=.seq (.reg [oD 4 (.mv (.const (.bool false)))]) (.seq (.reg [oM 5 τ0,oD 6 (.bin .geq τ5 (.const (.int .i64 0))),oM 7 τ6,oG 8 (.mv τ0) 7 true,oG 9 (.mv τ1) 7 true,oG 10 (.bin .leq τ8 τ9) 7 true,oD 11 (.pick τ7 Xb9 (.const (.bool false))),oM 4 Xb5]) .ret)
def XGF:VFn:=⟨12,XAA,[.tmp 4]⟩
def XzT:VC:=.seq (.reg [oD 1 (.box τ0),oD 2 (.mv (.const (.bool false)))]) (.seq (.reg [oD 3 (.loadN [.bool,(.int .u64),(.int .u64)] τ1),oD 4 (.callF 97 [τ3]),oM 5 τ4,oG 6 (.fieldA 0 τ1) 5 true,oG 7 (.load1 .bool τ6) 5 true,oG 8 (.not τ7) 5 true,oD 9 (.pick τ5 τ8 (.const (.bool false))),oM 2 τ9]) .ret)
def XJM:VFn:=⟨10,XzT,[.tmp 2]⟩
def XIC:VC:=.seq (.reg [oD 2 (.mv (.const (.int .i64 0)))]) (.seq (.reg [oD 3 (.mv (.const (.int .i64 9000)))]) (.seq (.seq (.reg [oD 4 (.mv (.const (.int .i64 0)))]) (.block 0 (.loop (.seq (.seq (.reg [oM 5 τ4,oM 6 τ0,oD 7 (.lenL τ6),oD 8 (.bin .lss τ5 τ7)]) (.cond τ8 .skip (.exit 0))) (.seq (.block 1 (.seq (.reg [oM 11 τ0,oM 12 τ4,oD 13 (.idxAL 1 Xb5 XcP),oD 14 (.load1 (.int .i64) XcQ),oD 15 (.callF 26 [Xde]),oM 16 Xdb,oG 17 (.mv τ0) 16 true,oG 18 (.mv τ4) 16 true,oG 19 (.idxAL 1 Xda XdK) 16 true,oG 20 (.load1 (.int .i64) Xdz) 16 true,oG 21 (.mv τ3) 16 true,oG 22 (.bin .lss Xd0 Xd4) 16 true,oD 23 (.pick Xdh Xeu (.const (.bool false)))]) (.cond XeH (.reg [oM 24 τ0,oM 25 τ4,oD 26 (.idxAL 1 Xel XeM),oD 27 (.load1 (.int .i64) Xef),oM 3 XeJ]) .skip))) (.reg [oM 9 τ4,oD 10 (.bin .add τ9 (.const (.int .i64 1))),oM 4 Xb9])))))) (.seq (.reg [oM 28 τ3,oM 2 XeC]) .ret)))
def fn13:VFn:=⟨29,XIC,[.tmp 2]⟩
def XCu:VC:=.seq (.seq (.reg [oM 204 XeP,oD 205 (.fieldA 4 Xef),oD 206 (.load1 .str τ205),oD 207 (.lenS τ206),oD 208 (.bin .lss τ204 τ207)]) (.cond τ208 .skip (.exit 0))) (.seq (.block 1 (.reg [oM 211 XeC,oD 212 (.bin .shl τ211 (.const (.int .u64 8))),oD 213 (.fieldA 4 Xef),oD 214 (.load1 .str τ213),oM 215 XeP,oD 216 (.idxS τ214 τ215),oD 217 (.conv .u64 τ216),oD 218 (.bin .add τ212 τ217),oM 28 τ218])) (.reg [oM 209 XeP,oD 210 (.bin .add τ209 (.const (.int .i64 1))),oM 29 τ210]))
def XHt:VC:=.seq (.reg [oM 219 XeJ,oD 220 (.bin .eql τ219 (.const (.int .i64 0))),oM 221 τ220,oG 222 (.mv XeC) 221 true,oG 223 (.mv τ3) 221 true,oG 224 (.bin .eql τ222 τ223) 221 true,oD 225 (.pick τ221 τ224 (.const (.bool false))),oM 226 τ225,oG 227 (.callF 14 []) 226 true,oD 228 (.pick τ226 τ227 (.const (.bool false))),oM 8 τ228]) .ret
def XLJ:VC:=.seq (.reg [oD 8 (.mv (.const (.bool false)))]) (.seq (.seq (.reg [oM 30 τ0,oD 31 (.lenS Xfi),oD 32 (.bin .gtr Xfc (.const (.int .i64 200)))]) (.cond Xfn (.seq (.reg [oD 33 (.callF 14 []),oM 8 Xfl]) .ret) .skip)) (.seq (.reg [oM 35 τ0,oD 36 (.callF 15 [Xfv]),oM 34 XfI,oE 37 0 Xfu,oE 38 1 Xfu,oD 9 (.alloc [(.int .i64 0),(.bool false),(.int .u64 0),(.int .u64 0),(.bool false),(.int .u64 0),(.int .u64 0),(.int .i64 0),(.int .i64 0),(.int .i64 0),(.bool false),(.int .u32 0),(.int .u32 0),(.bool false),(.string ⟨⟨[]⟩⟩),(.int .i64 0)]),oN (.store 16 τ9 Xfk),oM 10 XgG]) (.seq (.seq (.reg [oM 40 τ0,oM 41 τ1,oD 42 (.callF 16 [Xhj,Xhg]),oM 39 Xhh,oE 43 0 XgD,oE 44 1 XgD,oM 11 Xhn,oM 12 XhU]) (.seq (.reg [oM 45 XcP,oD 46 (.bin .eql XhB (.const (.int .i64 0)))]) (.cond Xh6 (.seq (.reg [oM 48 Xb5,oD 49 (.callF 15 [Xiz]),oM 47 Xiy,oE 50 0 Xh1,oE 51 1 Xh1,oD 13 (.alloc [(.int .i64 0),(.bool false),(.int .u64 0),(.int .u64 0),(.bool false),(.int .u64 0),(.int .u64 0),(.int .i64 0),(.int .i64 0),(.int .i64 0),(.bool false),(.int .u32 0),(.int .u32 0),(.bool false),(.string ⟨⟨[]⟩⟩),(.int .i64 0)]),oN (.store 16 XcQ XiB),oM 14 XiC]) (.seq (.seq (.reg [oM 52 Xb9,oD 53 (.bin .neq XjH (.const (.int .i64 0))),oM 54 XjL,oG 55 (.mv Xde) 54 false,oG 56 (.bin .neq Xk2 (.const (.int .i64 0))) 54 false,oD 57 (.pick XkZ (.const (.bool true)) Xls),oM 58 Xks,oG 59 (.fieldA 11 XcQ) 58 false,oG 60 (.load1 (.int .u32) Xlu) 58 false,oG 61 (.mv τ1) 58 false,oG 62 (.conv .u32 Xl7) 58 false,oG 63 (.bin .shl Xm9 (.const (.int .u64 16))) 58 false,oG 64 (.fieldA 11 τ9) 58 false,oG 65 (.load1 (.int .u32) Xn2) 58 false,oG 66 (.bin .rem XoQ (.const (.int .u32 65536))) 58 false,oG 67 (.bin .add XoC XpY) 58 false,oG 68 (.bin .neq XlS XoS) 58 false,oD 69 (.pick XkY (.const (.bool true)) XpR),oM 70 XoV,oG 71 (.mv Xb5) 70 false,oG 72 (.lenS XrA) 70 false,oG 73 (.mv τ0) 70 false,oG 74 (.lenS Xsk) 70 false,oG 75 (.bin .neq Xrb XuK) 70 false,oD 76 (.pick Xrd (.const (.bool true)) XtG),oM 77 XwI,oG 78 (.mv τ0) 77 false,oG 79 (.mv Xb5) 77 false,oG 80 (.callF 17 [Xwp,Xyx]) 77 false,oG 81 (.bin .gtr Xwx (.const (.int .i64 4))) 77 false,oD 82 (.pick XvM (.const (.bool true)) XxV)]) (.cond Xzu (.seq (.reg [oD 8 (.mv (.const (.bool false)))]) .ret) .skip)) (.seq (.reg [oD 83 (.fieldA 11 τ9),oD 84 (.load1 (.int .u32) XwK),oD 85 (.fieldA 11 XcQ),oN (.store 1 XC4 XBN)]) (.seq (.reg [oD 86 (.loadN [(.int .i64),.bool,(.int .u64),(.int .u64),.bool,(.int .u64),(.int .u64),(.int .i64),(.int .i64),(.int .i64),.bool,(.int .u32),(.int .u32),.bool,.str,(.int .i64)] XcQ),oD 87 (.loadN [(.int .i64),.bool,(.int .u64),(.int .u64),.bool,(.int .u64),(.int .u64),(.int .i64),(.int .i64),(.int .i64),.bool,(.int .u32),(.int .u32),.bool,.str,(.int .i64)] τ9),oD 88 (.eqAgg true [(0,(.int .i64)),(1,.bool),(2,(.int .u64)),(3,(.int .u64)),(4,.bool),(5,(.int .u64)),(6,(.int .u64)),(7,(.int .i64)),(8,(.int .i64)),(9,(.int .i64)),(10,.bool),(11,(.int .u32)),(12,(.int .u32)),(13,.bool),(14,.str),(15,(.int .i64))] XCE XCb)]) (.cond XFr (.seq (.reg [oD 8 (.mv (.const (.bool false)))]) .ret) .skip))))) .skip))) (.seq (.seq (.reg [oM 90 τ0,oM 91 τ2,oD 92 (.callF 18 [XEF,XCj]),oM 89 XFV,oE 93 0 XA2,oE 94 1 XA2,oM 15 XF6,oM 16 XDa]) (.seq (.reg [oM 95 Xdh,oD 96 (.bin .eql XC6 (.const (.int .i64 0)))]) (.cond XES (.seq (.reg [oM 98 Xdb,oD 99 (.callF 15 [τ98]),oM 97 τ99,oE 100 0 XGo,oE 101 1 XGo,oD 17 (.alloc [(.int .i64 0),(.bool false),(.int .u64 0),(.int .u64 0),(.bool false),(.int .u64 0),(.int .u64 0),(.int .i64 0),(.int .i64 0),(.int .i64 0),(.bool false),(.int .u32 0),(.int .u32 0),(.bool false),(.string ⟨⟨[]⟩⟩),(.int .i64 0)]),oN (.store 16 Xda XCD),oM 18 XFf]) (.seq (.seq (.reg [oM 102 Xb9,oD 103 (.bin .neq XHM (.const (.int .i64 0))),oM 104 XHo,oG 105 (.mv XdK) 104 false,oG 106 (.bin .neq XKR (.const (.int .i64 0))) 104 false,oD 107 (.pick XLA (.const (.bool true)) XHr),oM 108 XGH,oG 109 (.fieldA 12 Xda) 108 false,oG 110 (.load1 (.int .u32) XG2) 108 false,oG 111 (.bin .rem XHL (.const (.int .u32 65536))) 108 false,oG 112 (.fieldA 12 τ9) 108 false,oG 113 (.load1 (.int .u32) XI6) 108 false,oG 114 (.bin .rem XIw (.const (.int .u32 65536))) 108 false,oG 115 (.bin .neq Xyq XIb) 108 false,oD 116 (.pick XK3 (.const (.bool true)) XLe),oM 117 XJh,oG 118 (.mv τ2) 117 false,oG 119 (.fieldA 12 Xda) 117 false,oG 120 (.load1 (.int .u32) XHX) 117 false,oG 121 (.bin .sub XKa XJI) 117 false,oG 122 (.bin .geq XJF (.const (.int .u32 65536))) 117 false,oD 123 (.pick XJC (.const (.bool true)) XHc),oM 124 XKF,oG 125 (.mv Xdb) 124 false,oG 126 (.lenS XG0) 124 false,oG 127 (.mv τ0) 124 false,oG 128 (.lenS XHk) 124 false,oG 129 (.bin .neq XIf XKZ) 124 false,oD 130 (.pick XGE (.const (.bool true)) XJc),oM 131 XLs,oG 132 (.mv τ0) 131 false,oG 133 (.mv Xdb) 131 false,oG 134 (.callF 17 [XHK,XJr]) 131 false,oG 135 (.bin .gtr XHx (.const (.int .i64 4))) 131 false,oD 136 (.pick XHO (.const (.bool true)) XGL)]) (.cond XIZ (.seq (.reg [oD 8 (.mv (.const (.bool false)))]) .ret) .skip)) (.seq (.reg [oD 137 (.fieldA 12 τ9),oD 138 (.load1 (.int .u32) XK9),oD 139 (.fieldA 12 Xda),oN (.store 1 XJv XKD)]) (.seq (.reg [oD 140 (.loadN [(.int .i64),.bool,(.int .u64),(.int .u64),.bool,(.int .u64),(.int .u64),(.int .i64),(.int .i64),(.int .i64),.bool,(.int .u32),(.int .u32),.bool,.str,(.int .i64)] Xda),oD 141 (.loadN [(.int .i64),.bool,(.int .u64),(.int .u64),.bool,(.int .u64),(.int .u64),(.int .i64),(.int .i64),(.int .i64),.bool,(.int .u32),(.int .u32),.bool,.str,(.int .i64)] τ9),oD 142 (.eqAgg true [(0,(.int .i64)),(1,.bool),(2,(.int .u64)),(3,(.int .u64)),(4,.bool),(5,(.int .u64)),(6,(.int .u64)),(7,(.int .i64)),(8,(.int .i64)),(9,(.int .i64)),(10,.bool),(11,(.int .u32)),(12,(.int .u32)),(13,.bool),(14,.str),(15,(.int .i64))] XIe XKb)]) (.cond XFl (.seq (.reg [oD 8 (.mv (.const (.bool false)))]) .ret) .skip))))) .skip))) (.seq (.reg [oM 144 τ0,oM 145 τ3,oD 146 (.callF 19 [XIj,XJy]),oM 143 XHG,oE 147 0 XFv,oE 148 1 XFv,oM 19 XLl,oM 20 XHd]) (.seq (.seq (.reg [oM 149 Xd0,oD 150 (.bin .neq XGZ (.const (.int .i64 0)))]) (.cond XJ3 (.seq (.reg [oM 151 Xdz,oD 152 (.bin .eql XLv (.const (.string ⟨⟨[]⟩⟩))),oM 153 XH2,oG 154 (.callF 14 []) 153 true,oD 155 (.pick XI3 XIl (.const (.bool false))),oM 8 XK1]) .ret) .skip)) (.seq (.reg [oM 157 Xdz,oD 158 (.callF 15 [XHN]),oM 156 XKG,oE 159 0 XEK,oE 160 1 XEK,oD 21 (.alloc [(.int .i64 0),(.bool false),(.int .u64 0),(.int .u64 0),(.bool false),(.int .u64 0),(.int .u64 0),(.int .i64 0),(.int .i64 0),(.int .i64 0),(.bool false),(.int .u32 0),(.int .u32 0),(.bool false),(.string ⟨⟨[]⟩⟩),(.int .i64 0)]),oN (.store 16 Xd4 XLc),oM 22 XHi]) (.seq (.reg [oM 162 Xdz,oD 163 (.callF 20 [τ162]),oM 161 τ163,oE 164 0 XFM,oE 165 1 XFM,oE 166 2 XFM,oM 23 τ164,oM 24 τ165,oM 25 τ166]) (.seq (.seq (.reg [oM 167 Xb9,oD 168 (.bin .neq τ167 (.const (.int .i64 0))),oM 169 τ168,oG 170 (.mv Xeu) 169 false,oG 171 (.bin .neq τ170 (.const (.int .i64 0))) 169 false,oD 172 (.pick τ169 (.const (.bool true)) τ171),oM 173 τ172,oG 174 (.loadN [(.int .i64),.bool,(.int .u64),(.int .u64),.bool,(.int .u64),(.int .u64),(.int .i64),(.int .i64),(.int .i64),.bool,(.int .u32),(.int .u32),.bool,.str,(.int .i64)] Xd4) 173 false,oG 175 (.loadN [(.int .i64),.bool,(.int .u64),(.int .u64),.bool,(.int .u64),(.int .u64),(.int .i64),(.int .i64),(.int .i64),.bool,(.int .u32),(.int .u32),.bool,.str,(.int .i64)] τ9) 173 false,oG 176 (.eqAgg true [(0,(.int .i64)),(1,.bool),(2,(.int .u64)),(3,(.int .u64)),(4,.bool),(5,(.int .u64)),(6,(.int .u64)),(7,(.int .i64)),(8,(.int .i64)),(9,(.int .i64)),(10,.bool),(11,(.int .u32)),(12,(.int .u32)),(13,.bool),(14,.str),(15,(.int .i64))] τ174 τ175) 173 false,oD 177 (.pick τ173 (.const (.bool true)) τ176),oM 178 τ177,oG 179 (.mv Xdz) 178 false,oG 180 (.lenS τ179) 178 false,oG 181 (.mv τ0) 178 false,oG 182 (.lenS τ181) 178 false,oG 183 (.bin .neq τ180 τ182) 178 false,oD 184 (.pick τ178 (.const (.bool true)) τ183),oM 185 τ184,oG 186 (.mv τ0) 185 false,oG 187 (.mv Xdz) 185 false,oG 188 (.callF 17 [τ186,τ187]) 185 false,oG 189 (.bin .gtr τ188 (.const (.int .i64 10))) 185 false,oD 190 (.pick τ185 (.const (.bool true)) τ189),oM 191 τ190,oG 192 (.mv Xel) 191 false,oG 193 (.mv Xdz) 191 false,oG 194 (.lenS τ193) 191 false,oG 195 (.bin .gtr τ192 τ194) 191 false,oD 196 (.pick τ191 (.const (.bool true)) τ195)]) (.cond τ196 (.seq (.reg [oD 8 (.mv (.const (.bool false)))]) .ret) .skip)) (.seq (.reg [oM 198 Xdz,oM 199 Xel,oD 200 (.sliceS τ198 (some τ199) none),oD 201 (.callF 21 [τ200]),oM 197 τ201,oE 202 0 XHg,oE 203 1 XHg,oD 26 (.alloc [(.bool false),(.int .i64 0),(.int .u32 0),(.string ⟨⟨[]⟩⟩),(.string ⟨⟨[]⟩⟩),(.string ⟨⟨[]⟩⟩)]),oN (.store 6 Xef τ202),oM 27 τ203]) (.seq (.reg [oD 28 (.mv (.const (.int .u64 0)))]) (.seq (.seq (.reg [oD 29 (.mv (.const (.int .i64 0)))]) (.block 0 (.loop XCu))) XHt))))))))))))
def fn4:VFn:=⟨229,XLJ,[.tmp 8]⟩
def k14_3:VC:=.regD [oD 21 (.loadN [(.int .i64),.bool,(.int .u64),(.int .u64),.bool,(.int .u64),(.int .u64),(.int .i64),(.int .i64)] τ1),oD 22 (.callF 30 [(.const (.int .u32 74565)),(.const (.int .u32 7))]),oD 23 (.callF 29 [Xd4,(.const (.int .i64 16)),Xeu,(.const (.string ⟨⟨[]⟩⟩))]),oM 20 XeH,oE 24 0 Xd0,oE 25 1 Xd0,oM 4 Xel] [(0,1)] [oM 5 XeM]
def XBV:VC:=.seq (.reg [oD 0 (.mv (.const (.bool false)))]) (.seq (.reg [oD 12 (.build [(.bool false),(.int .u64 0),(.int .u64 0)] [(2,1,(.const (.int .u64 1)))]),oD 13 (.build [(.bool false),(.int .u64 0),(.int .u64 0)] [(2,1,(.const (.int .u64 2)))]),oD 14 (.build [(.int .i64 0),(.bool false),(.int .u64 0),(.int .u64 0),(.bool false),(.int .u64 0),(.int .u64 0),(.int .i64 0),(.int .i64 0)] [(0,1,(.const (.int .i64 6))),(1,3,XcP),(4,3,XcQ)]),oD 1 (.alloc [(.int .i64 0),(.bool false),(.int .u64 0),(.int .u64 0),(.bool false),(.int .u64 0),(.int .u64 0),(.int .i64 0),(.int .i64 0)]),oN (.store 9 τ1 Xde)]) (.seq (.reg [oD 16 (.loadN [(.int .i64),.bool,(.int .u64),(.int .u64),.bool,(.int .u64),(.int .u64),(.int .i64),(.int .i64)] τ1),oD 17 (.callF 29 [Xdh,(.const (.int .i64 16)),(.const (.string ⟨⟨[]⟩⟩)),(.const (.string ⟨⟨[]⟩⟩))]),oM 15 Xda,oE 18 0 Xdb,oE 19 1 Xdb,oM 2 XdK,oM 3 Xdz]) (.seq k14_3 (.seq (.reg [oM 27 τ2,oD 28 (.callF 16 [XeJ,(.const (.int .u16 1))]),oM 26 XeC,oE 29 0 Xef,oE 30 1 Xef,oM 6 XeP,oM 7 Xfi]) (.seq (.reg [oM 32 τ4,oD 33 (.callF 16 [Xfn,(.const (.int .u16 43981))]),oM 31 Xfl,oE 34 0 Xfc,oE 35 1 Xfc,oM 8 Xfu,oM 9 Xfv]) (.seq (.reg [oM 37 τ8,oD 38 (.callF 15 [Xfk]),oM 36 XgG,oE 39 0 XfI,oE 40 1 XfI,oD 10 (.alloc [(.int .i64 0),(.bool false),(.int .u64 0),(.int .u64 0),(.bool false),(.int .u64 0),(.int .u64 0),(.int .i64 0),(.int .i64 0),(.int .i64 0),(.bool false),(.int .u32 0),(.int .u32 0),(.bool false),(.string ⟨⟨[]⟩⟩),(.int .i64 0)]),oN (.store 16 Xb9 XgD),oM 11 Xhj]) (.seq (.reg [oM 41 τ7,oD 42 (.bin .eql Xhg (.const (.int .i64 6))),oM 43 Xhh,oG 44 (.mv τ9) 43 true,oG 45 (.bin .eql XhU (.const (.int .i64 0))) 43 true,oD 46 (.pick Xhn XhB (.const (.bool false))),oM 47 Xh6,oG 48 (.mv Xb5) 47 true,oG 49 (.bin .eql Xiz (.const (.int .i64 0))) 47 true,oD 50 (.pick Xh1 Xiy (.const (.bool false))),oM 51 XiB,oG 52 (.fieldA 11 Xb9) 51 true,oG 53 (.load1 (.int .u32) XjH) 51 true,oG 54 (.bin .eql XjL (.const (.int .u32 2882347845))) 51 true,oD 55 (.pick XiC XkZ (.const (.bool false))),oM 0 Xk2]) .ret)))))))
def fn14:VFn:=⟨56,XBV,[.tmp 0]⟩
def XBS:VC:=.seq (.reg [oD 4 (.box τ0),oD 8 (.mv (.const (.string ⟨⟨[]⟩⟩))),oD 9 (.mv (.const (.int .i64 0)))]) (.seq (.seq (.reg [oD 12 (.fieldA 0 τ4),oD 13 (.load1 (.int .i64) XcP),oD 14 (.bin .neq XcQ (.const (.int .i64 6)))]) (.cond Xde (.seq (.reg [oD 8 (.mv (.const (.string ⟨⟨[]⟩⟩))),oD 9 (.mv (.const (.int .i64 1)))]) .ret) .skip)) (.seq (.reg [oD 16 (.fieldA 7 τ4),oD 17 (.load1 (.int .i64) Xdh),oD 18 (.fieldA 8 τ4),oD 19 (.load1 (.int .i64) XdK),oM 20 τ1,oM 21 τ2,oD 22 (.build [(.int .i64 0),(.int .i64 0),(.int .u32 0),(.int .u32 0),(.int .i64 0),(.int .i64 0),(.int .i64 0),(.string ⟨⟨[]⟩⟩)] [(0,1,Xda),(1,1,Xdz),(4,1,Xd0),(5,1,(.const (.int .i64 65535))),(7,1,Xd4)]),oD 23 (.fieldA 1 τ4),oD 24 (.loadN [.bool,(.int .u64),(.int .u64)] XeH),oD 25 (.fieldA 4 τ4),oD 26 (.loadN [.bool,(.int .u64),(.int .u64)] XeM),oM 27 τ3,oD 28 (.callF 53 [Xeu,Xel,Xef,XeJ]),oM 15 XeC,oE 29 0 Xdb,oE 30 1 Xdb,oM 10 XeP,oM 11 Xfi]) (.seq (.seq (.reg [oM 31 Xb5,oD 32 (.bin .neq Xfc (.const (.int .i64 0)))]) (.cond Xfn (.seq (.reg [oM 33 Xb5,oD 8 (.mv (.const (.string ⟨⟨[]⟩⟩))),oM 9 Xfl]) .ret) .skip)) (.seq (.reg [oD 34 (.loadN [(.int .i64),.bool,(.int .u64),(.int .u64),.bool,(.int .u64),(.int .u64),(.int .i64),(.int .i64)] τ4),oM 35 Xb9,oD 36 (.callF 54 [Xfu,Xfv]),oE 37 0 XfI,oE 38 1 XfI,oM 8 Xfk,oM 9 XgG]) .ret))))
def fn29:VFn:=⟨39,XBS,[.tmp 8,.tmp 9]⟩
def XIs:VC:=.regD [oD 36 (.fieldA 0 τ4),oD 37 (.load1 (.int .i64) XfI),oD 38 (.callF 55 [Xfk,(.const (.int .i64 2))]),oD 39 (.fieldA 1 τ4),oD 40 (.load1 (.int .i64) XgD),oD 41 (.callF 55 [Xhj,(.const (.int .i64 2))]),oD 42 (.bin .add XgG Xhg),oD 43 (.fieldA 2 τ4),oD 44 (.load1 (.int .u32) Xhn),oD 45 (.conv .i64 XhU),oD 46 (.callF 55 [XhB,(.const (.int .i64 4))]),oD 47 (.bin .add Xhh Xh6),oD 48 (.fieldA 3 τ4),oD 49 (.load1 (.int .u32) Xiz),oD 50 (.conv .i64 Xiy),oD 51 (.callF 55 [XiB,(.const (.int .i64 4))]),oD 52 (.bin .add Xh1 XiC),oM 53 Xb9,oD 54 (.bin .mul (.const (.int .i64 4)) XjL),oD 55 (.callF 55 [XkZ,(.const (.int .i64 1))]),oD 56 (.bin .add XjH Xk2),oD 57 (.fieldA 4 τ4),oD 58 (.load1 (.int .i64) Xks),oD 59 (.callF 55 [XkY,(.const (.int .i64 1))]),oD 60 (.bin .add Xls Xlu),oD 61 (.fieldA 5 τ4),oD 62 (.load1 (.int .i64) Xl7),oD 63 (.callF 55 [Xm9,(.const (.int .i64 2))]),oD 64 (.bin .add XlS XoC),oD 65 (.callF 55 [(.const (.int .i64 0)),(.const (.int .i64 2))]),oD 66 (.bin .add Xn2 XoQ),oD 67 (.fieldA 6 τ4),oD 68 (.load1 (.int .i64) XoS),oD 69 (.callF 55 [XpR,(.const (.int .i64 2))]),oD 70 (.bin .add XpY XoV),oD 71 (.fieldA 7 τ4),oD 72 (.load1 .str XrA),oD 73 (.bin .add Xrd Xrb),oM 74 τ3] [(2,4),(2,8),(2,13),(2,22),(2,26),(2,32),(2,36),(5,8),(5,13),(5,22),(5,26),(5,32),(5,36),(10,13),(10,22),(10,26),(10,32),(10,36),(15,22),(15,26),(15,32),(15,36),(19,22),(19,26),(19,32),(19,36),(23,26),(23,32),(23,36),(27,32),(27,36),(29,32),(29,36),(33,36)] [oD 75 (.bin .add Xsk XuK),oM 12 XtG]
def XzD:VC:=.seq (.reg [oD 4 (.box τ0),oD 5 (.box τ1),oD 6 (.box τ2),oD 8 (.mv (.const (.string ⟨⟨[]⟩⟩))),oD 9 (.mv (.const (.int .i64 0)))]) (.seq (.reg [oD 13 (.fieldA 7 τ4),oD 14 (.load1 .str XcQ),oD 15 (.lenS Xde),oD 16 (.bin .add (.const (.int .i64 20)) Xdb),oM 10 Xdh]) (.seq (.reg [oD 17 (.loadN [.bool,(.int .u64),(.int .u64)] τ5),oD 18 (.loadN [.bool,(.int .u64),(.int .u64)] τ6),oM 19 Xb9,oM 20 τ3,oD 21 (.lenS Xd0),oD 22 (.bin .add Xdz Xd4),oD 23 (.callF 95 [Xda,XdK,(.const (.int .i64 6)),Xeu]),oM 11 XeH]) (.seq (.seq (.reg [oD 24 (.loadN [(.int .i64),(.int .i64),(.int .u32),(.int .u32),(.int .i64),(.int .i64),(.int .i64),.str] τ4),oD 25 (.callF 96 [Xel]),oD 26 (.not XeM),oM 27 Xef,oG 28 (.mv Xb5) 27 false,oG 29 (.bin .eql XeC (.const (.string ⟨⟨[]⟩⟩))) 27 false,oD 30 (.pick XeJ (.const (.bool true)) XeP)]) (.cond Xfi (.seq (.reg [oD 8 (.mv (.const (.string ⟨⟨[]⟩⟩))),oD 9 (.mv (.const (.int .i64 1)))]) .ret) .skip)) (.seq (.seq (.reg [oM 31 τ3,oD 32 (.lenS Xfc),oM 33 Xb9,oD 34 (.bin .sub (.const (.int .i64 65535)) Xfl),oD 35 (.bin .gtr Xfn Xfu)]) (.cond Xfv (.seq (.reg [oD 8 (.mv (.const (.string ⟨⟨[]⟩⟩))),oD 9 (.mv (.const (.int .i64 5)))]) .ret) .skip)) (.seq XIs (.seq (.reg [oM 76 XcP,oM 77 Xb5,oM 78 XcP,oD 79 (.bin .add XvM Xwp),oD 80 (.callF 88 [Xyx]),oD 81 (.conv .u64 Xwx),oD 82 (.callF 87 [XwI,(.const (.int .i64 16)),(.const (.int .i64 2)),XxV]),oM 8 Xzu,oD 9 (.mv (.const (.int .i64 0)))]) .ret))))))
def fn53:VFn:=⟨83,XzD,[.tmp 8,.tmp 9]⟩
def XIT:VC:=.seq (.reg [oD 1 (.box τ0),oD 2 (.mv (.const (.bool false)))]) (.seq (.reg [oD 3 (.fieldA 0 τ1),oD 4 (.load1 (.int .i64) τ3),oD 5 (.callF 121 [τ4,(.const (.int .i64 65535))]),oM 6 τ5,oG 7 (.fieldA 1 τ1) 6 true,oG 8 (.load1 (.int .i64) τ7) 6 true,oG 9 (.callF 121 [τ8,(.const (.int .i64 65535))]) 6 true,oD 10 (.pick τ6 τ9 (.const (.bool false))),oM 11 Xb9,oG 12 (.fieldA 4 τ1) 11 true,oG 13 (.load1 (.int .i64) XcP) 11 true,oG 14 (.callF 121 [XcQ,(.const (.int .i64 255))]) 11 true,oD 15 (.pick Xb5 Xde (.const (.bool false))),oM 16 Xdb,oG 17 (.fieldA 5 τ1) 16 true,oG 18 (.load1 (.int .i64) Xda) 16 true,oG 19 (.callF 121 [XdK,(.const (.int .i64 65535))]) 16 true,oD 20 (.pick Xdh Xdz (.const (.bool false))),oM 21 Xd0,oG 22 (.fieldA 6 τ1) 21 true,oG 23 (.load1 (.int .i64) Xeu) 21 true,oG 24 (.callF 121 [XeH,(.const (.int .i64 65535))]) 21 true,oD 25 (.pick Xd4 Xel (.const (.bool false))),oM 26 XeM,oG 27 (.fieldA 7 τ1) 26 true,oG 28 (.load1 .str XeJ) 26 true,oG 29 (.lenS XeC) 26 true,oG 30 (.bin .leq XeP (.const (.int .i64 40))) 26 true,oD 31 (.pick Xef Xfi (.const (.bool false))),oM 32 Xfc,oG 33 (.fieldA 7 τ1) 32 true,oG 34 (.load1 .str Xfl) 32 true,oG 35 (.lenS Xfu) 32 true,oG 36 (.bin .rem Xfv (.const (.int .i64 4))) 32 true,oG 37 (.bin .eql XfI (.const (.int .i64 0))) 32 true,oD 38 (.pick Xfn Xfk (.const (.bool false))),oM 2 XgG]) .ret)
def fn96:VFn:=⟨39,XIT,[.tmp 2]⟩
def XAy:VC:=.seq (.reg [oD 4 (.mv (.const (.bool false)))]) (.seq (.reg [oM 5 τ0,oD 6 (.bin .geq τ5 (.const (.int .i64 0))),oM 7 τ6,oG 8 (.mv τ0) 7 true,oG 9 (.mv τ1) 7 true,oG 10 (.bin .leq τ8 τ9) 7 true,oD 11 (.pick τ7 Xb9 (.const (.bool false))),oM 4 Xb5]) .ret)
def XKl:VFn:=⟨12,XAy,[.tmp 4]⟩
def XHl:VC:=.seq (.reg [oD 4 (.mv (.const (.string ⟨⟨[]⟩⟩)))]) (.seq (.reg [oM 5 τ0,oD 6 (.conv .u64 τ5),oM 7 τ1,oD 8 (.callF 85 [τ6,τ7]),oM 4 τ8]) .ret)
def fn55:VFn:=⟨9,XHl,[.tmp 4]⟩
def XAt:VC:=.seq (.reg [oD 2 (.box τ0),oD 4 (.mv (.const (.string ⟨⟨[]⟩⟩))),oD 5 (.mv (.const (.int .i64 0)))]) (.seq (.seq (.reg [oD 8 (.fieldA 1 τ2),oD 9 (.fieldA 0 τ8),oD 10 (.load1 .bool τ9),oD 11 (.fieldA 4 τ2),oD 12 (.fieldA 0 Xb5),oD 13 (.load1 .bool XcP),oD 14 (.eqB true Xb9 XcQ),oM 15 Xde,oG 16 (.fieldA 1 τ2) 15 false,oG 17 (.loadN [.bool,(.int .u64),(.int .u64)] Xdh) 15 false,oG 18 (.callF 97 [Xda]) 15 false,oG 19 (.not XdK) 15 false,oD 20 (.pick Xdb (.const (.bool true)) Xdz),oM 21 Xd0,oG 22 (.fieldA 4 τ2) 21 false,oG 23 (.loadN [.bool,(.int .u64),(.int .u64)] Xeu) 21 false,oG 24 (.callF 97 [XeH]) 21 false,oG 25 (.not Xel) 21 false,oD 26 (.pick Xd4 (.const (.bool true)) XeM),oM 27 Xef,oG 28 (.fieldA 0 τ2) 27 false,oG 29 (.load1 (.int .i64) XeC) 27 false,oG 30 (.bin .neq XeP (.const (.int .i64 6))) 27 false,oG 31 (.mv Xfi) 27 false,oG 32 (.fieldA 0 τ2) 31 true,oG 33 (.load1 (.int .i64) Xfn) 31 true,oG 34 (.bin .neq Xfl (.const (.int .i64 17))) 31 true,oG 35 (.pick Xfc Xfu (.const (.bool false))) 27 false,oD 36 (.pick XeJ (.const (.bool true)) Xfv)]) (.cond XfI (.seq (.reg [oD 4 (.mv (.const (.string ⟨⟨[]⟩⟩))),oD 5 (.mv (.const (.int .i64 1)))]) .ret) .skip)) (.seq (.reg [oD 38 (.fieldA 0 τ2),oD 39 (.load1 (.int .i64) XgG),oD 40 (.fieldA 1 τ2),oD 41 (.loadN [.bool,(.int .u64),(.int .u64)] Xhj),oD 42 (.fieldA 4 τ2),oD 43 (.loadN [.bool,(.int .u64),(.int .u64)] Xhh),oD 44 (.build [(.int .i64 0),(.int .i64 0),(.int .i64 0),(.int .i64 0),(.bool false),(.int .u64 0),(.int .u64 0),(.bool false),(.int .u64 0),(.int .u64 0)] [(2,1,XgD),(3,1,(.const (.int .i64 64))),(4,3,Xhg),(7,3,Xhn)]),oM 45 τ1,oD 46 (.callF 51 [XhU,XhB]),oM 37 Xh6,oE 47 0 Xfk,oE 48 1 Xfk,oM 6 Xh1,oM 7 Xiz]) (.seq (.seq (.reg [oD 49 (.fieldA 1 τ2),oD 50 (.fieldA 0 Xiy),oD 51 (.load1 .bool XiB),oD 52 (.not XiC)]) (.cond XjH (.reg [oD 54 (.fieldA 0 τ2),oD 55 (.load1 (.int .i64) XkZ),oD 56 (.fieldA 1 τ2),oD 57 (.loadN [.bool,(.int .u64),(.int .u64)] Xls),oD 58 (.fieldA 4 τ2),oD 59 (.loadN [.bool,(.int .u64),(.int .u64)] XkY),oD 60 (.build [(.int .i64 0),(.int .i64 0),(.bool false),(.int .i64 0),(.int .i64 0),(.bool false),(.int .u64 0),(.int .u64 0),(.bool false),(.int .u64 0),(.int .u64 0),(.string ⟨⟨[]⟩⟩)] [(2,1,(.const (.bool true))),(3,1,(.const (.int .i64 64))),(4,1,Xk2),(5,3,Xks),(8,3,Xlu)]),oM 61 τ1,oD 62 (.callF 52 [XlS,Xl7]),oM 53 Xm9,oE 63 0 XjL,oE 64 1 XjL,oM 6 XoC,oM 7 Xn2]) .skip)) (.seq (.seq (.reg [oM 65 τ7,oD 66 (.bin .eql XoQ (.const (.int .i64 0))),oM 67 XpY,oG 68 (.mv τ6) 67 true,oG 69 (.lenS XpR) 67 true,oG 70 (.bin .gtr XoV (.const (.int .i64 9000))) 67 true,oD 71 (.pick XoS Xrd (.const (.bool false)))]) (.cond XrA (.seq (.reg [oD 4 (.mv (.const (.string ⟨⟨[]⟩⟩))),oD 5 (.mv (.const (.int .i64 5)))]) .ret) .skip)) (.seq (.reg [oM 72 τ6,oM 73 τ7,oM 4 Xrb,oM 5 Xsk]) .ret)))))
def fn54:VFn:=⟨74,XAt,[.tmp 4,.tmp 5]⟩
def XIz:VC:=.seq (.reg [oD 4 (.mv (.const (.string ⟨⟨[]⟩⟩)))]) (.seq (.reg [oM 5 τ0,oD 6 (.conv .i64 τ5),oD 7 (.callF 55 [τ6,(.const (.int .i64 4))]),oD 8 (.bin .add (.const (.string ⟨⟨[1,1,8,10]⟩⟩)) τ7),oM 9 τ1,oD 10 (.conv .i64 τ9),oD 11 (.callF 55 [Xb9,(.const (.int .i64 4))]),oD 12 (.bin .add τ8 Xb5),oM 4 XcP]) .ret)
def fn30:VFn:=⟨13,XIz,[.tmp 4]⟩
def XJl:VC:=.seq (.reg [oD 3 (.box τ1),oD 4 (.mv (.const (.string ⟨⟨[]⟩⟩))),oD 5 (.mv (.const (.int .i64 0)))]) (.seq (.reg [oM 6 τ0,oD 7 (.mkFunc 33 [] [τ3]),oD 8 (.callF 32 [τ6,(.const (.int .i64 0)),τ7]),oE 9 0 τ8,oE 10 1 τ8,oM 4 τ9,oM 5 Xb9]) .ret)
def fn16:VFn:=⟨11,XJl,[.tmp 4,.tmp 5]⟩
def XJu:VC:=.seq (.reg [oD 2 (.box τ0),oD 3 (.mv (.const (.int .u32 0)))]) (.seq (.reg [oD 4 (.fieldA 11 τ2),oD 5 (.load1 (.int .u32) τ4),oD 6 (.load1 (.int .u16) τ1),oD 7 (.callF 34 [τ5,τ6]),oM 3 τ7]) .ret)
def fn33:VFn:=⟨8,XJu,[.tmp 3]⟩
def XIo:VC:=.seq (.reg [oD 4 (.mv (.const (.int .u32 0)))]) (.seq (.reg [oM 5 τ1,oD 6 (.conv .u32 τ5),oD 7 (.bin .shl τ6 (.const (.int .u64 16))),oM 8 τ0,oD 9 (.callF 37 [τ8]),oD 10 (.conv .u32 τ9),oD 11 (.bin .or τ7 Xb9),oM 4 Xb5]) .ret)
def fn34:VFn:=⟨12,XIo,[.tmp 4]⟩
def XIF:VC:=.seq (.reg [oD 2 (.mv (.const (.int .u16 0)))]) (.seq (.reg [oM 3 τ0,oD 4 (.conv .u16 τ3),oM 2 τ4]) .ret)
def fn37:VFn:=⟨5,XIF,[.tmp 2]⟩
def XGV:VC:=.regD [oM 48 τ0,oM 49 Xb9,oD 50 (.sliceS Xiz (some Xiy) none),oM 51 Xdb,oD 52 (.bin .add (.const (.int .i64 20)) XiC),oM 53 τ1,oD 54 (.bin .add XjH XjL),oM 55 τ2,oD 56 (.loadN [(.int .i64),.bool,(.int .u64),(.int .u64),.bool,(.int .u64),(.int .u64),(.int .i64),(.int .i64),(.int .i64),.bool,(.int .u32),(.int .u32),.bool,.str,(.int .i64)] τ8),oD 57 (.callV Xk2 [Xls]),oD 58 (.conv .u64 Xks),oD 59 (.callF 42 [XkY,(.const (.int .i64 4))]),oD 60 (.callF 41 [XiB,XkZ,Xlu,(.const (.int .i64 16))]),oM 47 XlS,oE 61 0 Xh1,oE 62 1 Xh1,oM 16 Xl7] [] [oM 17 Xm9]
def XGU:VC:=.seq (.reg [oD 6 (.mv (.const (.string ⟨⟨[]⟩⟩))),oD 7 (.mv (.const (.int .i64 0)))]) (.seq (.reg [oM 19 τ0,oD 20 (.callF 22 [Xdz]),oM 18 Xd0,oE 21 0 XdK,oE 22 1 XdK,oD 8 (.alloc [(.int .i64 0),(.bool false),(.int .u64 0),(.int .u64 0),(.bool false),(.int .u64 0),(.int .u64 0),(.int .i64 0),(.int .i64 0),(.int .i64 0),(.bool false),(.int .u32 0),(.int .u32 0),(.bool false),(.string ⟨⟨[]⟩⟩),(.int .i64 0)]),oN (.store 16 τ8 Xd4),oM 9 Xeu]) (.seq (.block 0 (.seq (.reg [oM 24 τ9,oD 25 (.bin .neq Xel (.const (.int .i64 0))),oM 23 XeM]) (.cond XeH (.seq (.reg [oM 26 τ9,oD 6 (.mv (.const (.string ⟨⟨[]⟩⟩))),oM 7 Xef]) .ret) (.seq (.reg [oD 28 (.fieldA 10 τ8),oD 29 (.load1 .bool XeC),oD 30 (.not XeP),oM 27 Xfi]) (.cond XeJ (.seq (.reg [oD 6 (.mv (.const (.string ⟨⟨[]⟩⟩))),oD 7 (.mv (.const (.int .i64 6)))]) .ret) .skip))))) (.seq (.reg [oM 32 τ0,oD 33 (.callF 38 [Xfn]),oM 31 Xfl,oE 34 0 Xfc,oE 35 1 Xfc,oE 36 2 Xfc,oM 10 Xfu,oM 11 Xfv,oM 12 XfI]) (.seq (.reg [oM 38 τ0,oM 39 Xb9,oD 40 (.bin .add XgD (.const (.int .i64 20))),oM 41 Xb5,oD 42 (.sliceS XgG (some Xhj) (some Xhg)),oD 43 (.callF 60 [Xhh]),oM 37 Xhn,oE 44 0 Xfk,oE 45 1 Xfk,oE 46 2 Xfk,oM 13 XhU,oM 14 XhB,oM 15 Xh6]) (.seq XGV (.seq (.seq (.reg [oM 63 Xda,oD 64 (.not XoC)]) (.cond Xn2 (.seq (.reg [oD 6 (.mv (.const (.string ⟨⟨[]⟩⟩))),oD 7 (.mv (.const (.int .i64 3)))]) .ret) .skip)) (.seq (.reg [oM 65 τ0,oM 66 Xb9,oD 67 (.sliceS XoQ none (some XpY)),oM 68 Xdh,oD 69 (.bin .add XoS XpR),oM 6 XoV,oD 7 (.mv (.const (.int .i64 0)))]) .ret)))))))
def fn32:VFn:=⟨70,XGU,[.tmp 6,.tmp 7]⟩
def XBl:VC:=.seq (.reg [oD 2 (.mv (.const (.int .i64 0))),oD 3 (.mv (.const (.int .i64 0))),oD 4 (.mv (.const (.int .i64 0)))]) (.seq (.reg [oM 10 τ0,oD 11 (.callF 46 [Xb9]),oM 9 Xb5,oE 12 0 τ9,oE 13 1 τ9,oE 14 2 τ9,oE 15 3 τ9,oD 5 (.alloc [(.int .i64 0),(.bool false),(.int .u64 0),(.int .u64 0),(.bool false),(.int .u64 0),(.int .u64 0),(.int .i64 0),(.int .i64 0),(.int .i64 0),(.bool false),(.int .u32 0),(.int .u32 0),(.bool false),(.string ⟨⟨[]⟩⟩),(.int .i64 0)]),oN (.store 16 τ5 XcP),oM 6 XcQ,oM 7 Xde,oM 8 Xdb]) (.seq (.seq (.reg [oM 16 τ8,oD 17 (.bin .neq Xdh (.const (.int .i64 0)))]) (.cond Xda (.seq (.reg [oM 18 τ8,oD 2 (.mv (.const (.int .i64 0))),oD 3 (.mv (.const (.int .i64 0))),oM 4 XdK]) .ret) .skip)) (.seq (.reg [oM 19 τ0,oD 20 (.lenS Xdz),oM 21 τ6,oD 22 (.bin .sub Xd0 Xd4),oM 23 τ0,oD 24 (.lenS XeH),oM 25 τ7,oD 26 (.bin .sub Xel XeM),oM 2 Xeu,oM 3 Xef,oD 4 (.mv (.const (.int .i64 0)))]) .ret)))
def fn38:VFn:=⟨27,XBl,[.tmp 2,.tmp 3,.tmp 4]⟩
def XHT:VC:=.regD [oM 63 τ0,oM 64 τ1,oD 65 (.sliceS XoC none (some Xn2)),oM 66 τ2,oD 67 (.bin .add XoQ XpY),oM 68 τ0,oM 69 Xb9,oD 70 (.sliceS XpR (some XoV) none)] [] [oD 71 (.bin .add XoS Xrd),oM 11 XrA]
def XAD:VC:=.seq (.reg [oD 8 (.mv (.const (.string ⟨⟨[]⟩⟩))),oD 9 (.mv (.const (.bool false)))]) (.seq (.reg [oM 17 τ1,oM 18 τ2,oD 19 (.lenS XdK),oD 20 (.bin .add Xda Xdz),oM 10 Xd0]) (.seq (.block 0 (.seq (.reg [oM 22 τ1,oD 23 (.bin .lss Xeu (.const (.int .i64 0))),oM 24 XeH,oG 25 (.mv τ0) 24 false,oG 26 (.lenS XeM) 24 false,oG 27 (.mv τ2) 24 false,oG 28 (.lenS XeJ) 24 false,oG 29 (.bin .sub Xef XeC) 24 false,oG 30 (.mv τ1) 24 false,oG 31 (.bin .lss XeP Xfi) 24 false,oD 32 (.pick Xel (.const (.bool true)) Xfc),oM 33 Xfn,oG 34 (.mv τ3) 33 false,oG 35 (.bin .lss Xfu (.const (.int .i64 0))) 33 false,oD 36 (.pick Xfl (.const (.bool true)) Xfv),oM 37 XfI,oG 38 (.mv τ3) 37 false,oG 39 (.bin .rem XgG (.const (.int .i64 2))) 37 false,oG 40 (.bin .eql XgD (.const (.int .i64 1))) 37 false,oD 41 (.pick Xfk (.const (.bool true)) Xhj),oM 42 Xhg,oG 43 (.mv τ0) 42 false,oG 44 (.lenS Xhn) 42 false,oG 45 (.bin .sub XhU (.const (.int .i64 2))) 42 false,oG 46 (.mv τ3) 42 false,oG 47 (.bin .lss XhB Xh6) 42 false,oD 48 (.pick Xhh (.const (.bool true)) Xh1),oM 21 Xiz]) (.cond Xd4 (.seq (.reg [oD 8 (.mv (.const (.string ⟨⟨[]⟩⟩))),oD 9 (.mv (.const (.bool false)))]) .ret) (.seq (.reg [oM 50 τ2,oD 51 (.bin .eql XiB (.const (.string ⟨⟨[]⟩⟩))),oM 49 XiC]) (.cond Xiy (.seq (.reg [oM 52 τ0,oM 8 XjH,oD 9 (.mv (.const (.bool true)))]) .ret) (.seq (.reg [oM 54 τ1,oM 55 τ3,oD 56 (.bin .add Xk2 (.const (.int .i64 2))),oD 57 (.bin .lss XkZ Xls),oM 58 Xks,oG 59 (.mv τ3) 58 true,oG 60 (.mv Xb9) 58 true,oG 61 (.bin .lss Xlu XlS) 58 true,oD 62 (.pick XkY Xl7 (.const (.bool false))),oM 53 Xm9]) (.cond XjL (.seq (.reg [oD 8 (.mv (.const (.string ⟨⟨[]⟩⟩))),oD 9 (.mv (.const (.bool false)))]) .ret) .skip))))))) (.seq XHT (.seq (.reg [oM 72 τ1,oD 73 (.bin .andNot Xrb (.const (.int .i64 1))),oM 74 Xb9,oD 75 (.bin .add XuK (.const (.int .i64 1))),oD 76 (.bin .andNot XtG (.const (.int .i64 1))),oM 12 Xsk,oM 13 XwI]) (.seq (.reg [oM 78 τ0,oM 79 τ3,oD 80 (.callF 40 [Xwp,Xyx,(.const (.int .i64 2))]),oM 77 Xwx,oE 81 0 XvM,oE 82 1 XvM,oM 14 XxV,oM 15 Xzu]) (.seq (.reg [oM 83 Xde,oD 84 (.conv .i64 XwK),oM 85 τ0,oM 86 XcP,oM 87 XcQ,oD 88 (.callF 69 [XC4,XCE,XCb]),oM 89 Xb5,oM 90 XcP,oM 91 XcQ,oD 92 (.callF 69 [XA2,XEF,XCj]),oD 93 (.callF 68 [XBN,XFr,XFV]),oM 16 XF6]) (.seq (.reg [oM 94 Xb5,oM 95 τ3,oM 96 Xdh,oD 97 (.conv .u64 XES),oD 98 (.callF 43 [XDa,XC6,(.const (.int .i64 2)),XGo]),oM 8 τ98,oD 9 (.mv (.const (.bool true)))]) .ret)))))))
def fn41:VFn:=⟨99,XAD,[.tmp 8,.tmp 9]⟩
def XII:VC:=.seq (.reg [oD 6 (.mv (.const (.string ⟨⟨[]⟩⟩)))]) (.seq (.seq (.reg [oM 7 τ2,oM 8 τ0,oD 9 (.lenS τ8),oD 10 (.bin .gtr τ7 τ9)]) (.cond Xb9 (.seq (.reg [oM 11 τ0,oM 12 τ1,oD 13 (.sliceS Xb5 (some XcP) none),oD 14 (.bin .add XcQ (.const (.string ⟨⟨[0]⟩⟩))),oM 6 Xde]) .ret) .skip)) (.seq (.reg [oM 15 τ0,oM 16 τ1,oM 17 τ2,oD 18 (.sliceS Xdb (some Xdh) (some Xda)),oM 6 XdK]) .ret))
def fn69:VFn:=⟨19,XII,[.tmp 6]⟩
def XIv:VC:=.reg [oM 8 XeM]
def XzZ:VC:=.block 1 (.seq (.reg [oD 27 (.load1 .str τ5),oD 28 (.load1 (.int .i64) τ7),oD 29 (.callF 40 [XeJ,XeC,(.const (.int .i64 2))]),oM 26 XeP,oE 30 0 Xef,oE 31 1 Xef,oM 9 Xfi,oM 10 Xfc]) (.seq (.reg [oD 32 (.load1 (.int .i64) τ3),oM 33 τ8,oM 34 τ9,oD 35 (.conv .i64 Xfu),oD 36 (.callF 105 [Xfn,Xfl,Xfv]),oN (.store 1 τ3 XfI)]) (.reg [oD 37 (.load1 (.int .i64) τ7),oD 38 (.bin .add Xfk (.const (.int .i64 2))),oN (.store 1 τ7 XgG)])))
def XHs:VC:=.rangeF Xel [25] XIv XzZ
def XzL:VC:=.seq (.reg [oD 39 (.load1 (.int .i64) τ3),oM 6 XgD]) .ret
def XBa:VC:=.seq (.reg [oD 3 (.box τ0),oD 5 (.box τ2),oD 6 (.mv (.const (.int .i64 0)))]) (.seq (.seq (.reg [oM 11 τ1,oD 12 (.lenS Xb5),oD 13 (.load1 .str τ5),oD 14 (.lenS XcQ),oD 15 (.bin .neq XcP Xde),oM 16 Xdb,oG 17 (.mv τ1) 16 false,oG 18 (.lenS Xda) 16 false,oG 19 (.bin .rem XdK (.const (.int .i64 2))) 16 false,oG 20 (.bin .gtr Xdz (.const (.int .i64 0))) 16 false,oD 21 (.pick Xdh (.const (.bool true)) Xd0)]) (.cond Xd4 (.seq (.reg [oD 22 (.load1 (.int .i64) τ3),oM 6 Xeu]) .ret) .skip)) (.seq (.reg [oD 7 (.alloc [(.int .i64 0)]),oN (.store 1 τ7 (.const (.int .i64 0)))]) (.seq (.seq (.reg [oM 23 τ1,oD 24 (.callF 104 [XeH])]) (.block 0 XHs)) XzL)))
def fn68:VFn:=⟨40,XBa,[.tmp 6]⟩
def XAH:VC:=.seq (.reg [oD 6 (.mv (.const (.int .i64 0)))]) (.seq (.seq (.reg [oM 7 τ0,oM 8 τ1,oM 9 τ2,oD 10 (.buildSl 3 1 [(.int .i64 0),(.int .i64 0),(.int .i64 0)] [(0,1,τ7),(1,1,τ8),(2,1,τ9)]),oD 11 (.callF 127 [Xb9]),oD 12 (.not Xb5)]) (.cond XcP (.seq (.reg [oD 6 (.mv (.const (.int .i64 0)))]) .ret) .skip)) (.seq (.reg [oM 13 τ0,oD 14 (.bin .sub (.const (.int .i64 65535)) XcQ),oD 15 (.bin .add Xde (.const (.int .i64 65535))),oM 16 τ1,oD 17 (.bin .sub Xdb Xdh),oM 18 τ2,oD 19 (.bin .add Xda XdK),oD 20 (.callF 128 [Xdz]),oD 21 (.bin .sub (.const (.int .i64 65535)) Xd0),oM 6 Xd4]) .ret))
def XJL:VFn:=⟨22,XAH,[.tmp 6]⟩
def XqA:VC:=.seq (.reg [oD 8 (.bin .lss τ7 τ6)]) (.seq (.cond τ8 .skip (.exit 0)) (.seq (.block 1 (.seq (.reg [oD 9 (.idxAL 1 τ5 τ7),oD 10 (.load1 (.int .i64) τ9),oM 4 Xb9]) (.seq (.reg [oM 11 τ4,oD 12 (.bin .lss Xb5 (.const (.int .i64 0))),oM 13 XcP,oG 14 (.mv τ4) 13 false,oG 15 (.bin .gtr Xde (.const (.int .i64 65535))) 13 false,oD 16 (.pick XcQ (.const (.bool true)) Xdb)]) (.cond Xdh (.seq (.reg [oD 2 (.mv (.const (.bool false)))]) .ret) .skip)))) (.reg [oD 17 (.bin .add τ7 (.const (.int .i64 1))),oM 7 Xda])))
def XuY:VC:=.seq (.reg [oD 2 (.mv (.const (.bool true)))]) .ret
def Xuk:VC:=.seq (.reg [oD 2 (.mv (.const (.bool false)))]) (.seq (.seq (.reg [oM 5 τ0,oD 6 (.lenL τ5),oD 7 (.mv (.const (.int .i64 0)))]) (.block 0 (.loop XqA))) XuY)
def XKY:VFn:=⟨18,Xuk,[.tmp 2]⟩
def k17_6:VC:=.regD [oM 19 τ0,oM 20 τ6,oD 21 (.idxS Xdz Xd0),oM 22 τ1,oM 23 τ6,oD 24 (.idxS Xeu XeH)] [] [oD 25 (.bin .neq Xd4 Xel)]
def Xuh:VC:=.seq (.seq (.reg [oM 7 τ6,oM 8 τ0,oD 9 (.lenS τ8),oD 10 (.bin .lss τ7 τ9),oM 11 Xb9,oG 12 (.mv τ6) 11 true,oG 13 (.mv τ1) 11 true,oG 14 (.lenS XcQ) 11 true,oG 15 (.bin .lss XcP Xde) 11 true,oD 16 (.pick Xb5 Xdb (.const (.bool false)))]) (.cond Xdh .skip (.exit 0))) (.seq (.block 1 (.seq k17_6 (.cond XeM (.reg [oM 26 τ5,oD 27 (.bin .add Xef (.const (.int .i64 1))),oM 5 XeJ]) .skip))) (.reg [oM 17 τ6,oD 18 (.bin .add Xda (.const (.int .i64 1))),oM 6 XdK]))
def XAu:VC:=.seq (.reg [oM 28 τ5,oM 4 XeC]) .ret
def XA3:VC:=.seq (.reg [oD 4 (.mv (.const (.int .i64 0)))]) (.seq (.reg [oD 5 (.mv (.const (.int .i64 0)))]) (.seq (.seq (.reg [oD 6 (.mv (.const (.int .i64 0)))]) (.block 0 (.loop Xuh))) XAu))
def fn17:VFn:=⟨29,XA3,[.tmp 4]⟩
def XID:VC:=.seq (.reg [oD 3 (.box τ1),oD 4 (.mv (.const (.string ⟨⟨[]⟩⟩))),oD 5 (.mv (.const (.int .i64 0)))]) (.seq (.reg [oM 6 τ0,oD 7 (.mkFunc 35 [] [τ3]),oD 8 (.callF 32 [τ6,(.const (.int .i64 4)),τ7]),oE 9 0 τ8,oE 10 1 τ8,oM 4 τ9,oM 5 Xb9]) .ret)
def fn18:VFn:=⟨11,XID,[.tmp 4,.tmp 5]⟩
def k35_1:VC:=.regD [oD 4 (.load1 (.int .u32) τ1),oD 5 (.fieldA 12 τ2),oD 6 (.load1 (.int .u32) τ5),oD 7 (.callF 37 [τ6])] [(0,3)] [oD 8 (.callF 36 [τ4,τ7]),oM 3 τ8]
def XKw:VC:=.seq (.reg [oD 2 (.box τ0),oD 3 (.mv (.const (.int .u32 0)))]) (.seq k35_1 .ret)
def fn35:VFn:=⟨9,XKw,[.tmp 3]⟩
def XHp:VC:=.seq (.reg [oD 4 (.mv (.const (.int .u32 0)))]) (.seq (.reg [oM 5 τ0,oM 6 τ0,oD 7 (.callF 37 [τ6]),oM 8 τ1,oD 9 (.bin .sub τ7 τ8),oD 10 (.conv .u32 τ9),oD 11 (.bin .sub τ5 Xb9),oM 4 Xb5]) .ret)
def fn36:VFn:=⟨12,XHp,[.tmp 4]⟩
def XLg:VC:=.regD [oM 66 τ0,oM 67 τ8,oD 68 (.sliceS XpY (some XoS) none),oD 69 (.fieldA 3 Xb5),oD 70 (.load1 .str XoV),oD 71 (.lenS Xrd),oD 72 (.bin .add (.const (.int .i64 15)) XrA),oM 73 τ1,oD 74 (.callF 42 [Xsk,(.const (.int .i64 8))]),oD 75 (.callF 41 [XpR,Xrb,XuK,(.const (.int .i64 6))]),oM 65 XtG,oE 76 0 XoQ,oE 77 1 XoQ,oM 14 XwI] [(4,8)] [oM 15 XvM]
def XKX:VC:=.regD [oM 91 τ0,oM 92 τ8,oD 93 (.sliceS XCj none (some XFV)),oM 94 Xde,oM 95 Xdh,oD 96 (.callF 43 [XDa,(.const (.int .i64 6)),(.const (.int .i64 2)),XC6])] [] [oD 97 (.bin .add XF6 XES),oM 4 XGo,oD 5 (.mv (.const (.int .i64 0)))]
def XA6:VC:=.seq (.reg [oD 4 (.mv (.const (.string ⟨⟨[]⟩⟩))),oD 5 (.mv (.const (.int .i64 0)))]) (.seq (.reg [oM 19 τ0,oD 20 (.callF 22 [Xdz]),oM 18 Xd0,oE 21 0 XdK,oE 22 1 XdK,oD 6 (.alloc [(.int .i64 0),(.bool false),(.int .u64 0),(.int .u64 0),(.bool false),(.int .u64 0),(.int .u64 0),(.int .i64 0),(.int .i64 0),(.int .i64 0),(.bool false),(.int .u32 0),(.int .u32 0),(.bool false),(.string ⟨⟨[]⟩⟩),(.int .i64 0)]),oN (.store 16 τ6 Xd4),oM 7 Xeu]) (.seq (.seq (.reg [oM 23 τ7,oD 24 (.bin .neq XeH (.const (.int .i64 0)))]) (.cond Xel (.seq (.reg [oM 25 τ7,oD 4 (.mv (.const (.string ⟨⟨[]⟩⟩))),oM 5 XeM]) .ret) .skip)) (.seq (.reg [oM 27 τ0,oD 28 (.callF 38 [XeJ]),oM 26 XeC,oE 29 0 Xef,oE 30 1 Xef,oE 31 2 Xef,oM 8 XeP,oM 9 Xfi,oM 10 Xfc]) (.seq (.reg [oM 33 τ0,oM 34 τ9,oD 35 (.sliceS Xfl (some Xfu) none),oD 36 (.callF 39 [Xfv]),oM 32 XfI,oE 37 0 Xfn,oE 38 1 Xfn,oD 11 (.alloc [(.bool false),(.int .i64 0),(.int .u32 0),(.string ⟨⟨[]⟩⟩),(.string ⟨⟨[]⟩⟩),(.string ⟨⟨[]⟩⟩)]),oN (.store 6 Xb5 Xfk),oM 7 XgG]) (.seq (.block 0 (.seq (.reg [oD 40 (.fieldA 0 τ6),oD 41 (.fieldA 0 Xhj),oD 42 (.load1 (.int .i64) Xhg),oD 43 (.bin .neq Xhh (.const (.int .i64 17))),oM 44 Xhn,oG 45 (.mv τ7) 44 false,oG 46 (.bin .neq XhB (.const (.int .i64 0))) 44 false,oD 47 (.pick XhU (.const (.bool true)) Xh6),oM 48 Xh1,oG 49 (.fieldA 0 Xb5) 48 false,oG 50 (.load1 .bool Xiy) 48 false,oG 51 (.not XiB) 48 false,oD 52 (.pick Xiz (.const (.bool true)) XiC),oM 39 XjH]) (.cond XgD (.seq (.reg [oD 4 (.mv (.const (.string ⟨⟨[]⟩⟩))),oD 5 (.mv (.const (.int .i64 6)))]) .ret) (.seq (.reg [oD 54 (.fieldA 4 Xb5),oD 55 (.load1 .str XkZ),oD 56 (.lenS Xk2),oD 57 (.bin .neq Xls (.const (.int .i64 8))),oM 53 Xks]) (.cond XjL (.seq (.reg [oD 4 (.mv (.const (.string ⟨⟨[]⟩⟩))),oD 5 (.mv (.const (.int .i64 3)))]) .ret) .skip))))) (.seq (.reg [oM 59 τ0,oM 60 τ8,oD 61 (.bin .add XlS (.const (.int .i64 6))),oD 62 (.callF 40 [Xlu,Xl7,(.const (.int .i64 2))]),oM 58 Xm9,oE 63 0 XkY,oE 64 1 XkY,oM 12 XoC,oM 13 Xn2]) (.seq XLg (.seq (.seq (.reg [oM 78 Xdb,oD 79 (.not Xwp)]) (.cond Xyx (.seq (.reg [oD 4 (.mv (.const (.string ⟨⟨[]⟩⟩))),oD 5 (.mv (.const (.int .i64 3)))]) .ret) .skip)) (.seq (.reg [oM 81 Xde,oD 82 (.callF 40 [XxV,(.const (.int .i64 6)),(.const (.int .i64 2))]),oM 80 Xzu,oE 83 0 Xwx,oE 84 1 Xwx,oM 16 XwK,oM 17 XBN]) (.seq (.block 1 (.seq (.reg [oM 86 XcP,oD 87 (.bin .eql XCE (.const (.int .u64 0))),oM 85 XCb]) (.cond XC4 (.reg [oD 16 (.mv (.const (.int .u64 0)))]) (.seq (.reg [oM 89 Xdh,oD 90 (.bin .eql XA2 (.const (.int .u64 0))),oM 88 XEF]) (.cond XFr (.reg [oD 16 (.mv (.const (.int .u64 65535)))]) .skip))))) (.seq XKX .ret)))))))))))
def fn19:VFn:=⟨98,XA6,[.tmp 4,.tmp 5]⟩
def XGK:VC:=.seq (.reg [oD 2 (.mv (.const (.int .i64 0))),oD 3 (.mv (.const (.int .i64 0))),oD 4 (.mv (.const (.int .i64 0)))]) (.seq (.reg [oM 10 τ0,oD 11 (.callF 31 [Xb9]),oM 9 Xb5,oE 12 0 τ9,oE 13 1 τ9,oE 14 2 τ9,oE 15 3 τ9,oD 5 (.alloc [(.int .i64 0),(.bool false),(.int .u64 0),(.int .u64 0),(.bool false),(.int .u64 0),(.int .u64 0),(.int .i64 0),(.int .i64 0),(.int .i64 0),(.bool false),(.int .u32 0),(.int .u32 0),(.bool false),(.string ⟨⟨[]⟩⟩),(.int .i64 0)]),oN (.store 16 τ5 XcP),oM 6 XcQ,oM 7 Xde,oM 8 Xdb]) (.seq (.reg [oM 16 τ6,oM 17 τ7,oM 18 τ8,oM 2 Xdh,oM 3 Xda,oM 4 XdK]) .ret))
def fn20:VFn:=⟨19,XGK,[.tmp 2,.tmp 3,.tmp 4]⟩
theorem XDD:(Tryz.prog.funcs[57]?).bind (XaB Tryz.prog)=some fn57:=by kernel_rfl
theorem XCe:(Tryz.prog.funcs[95]?).bind (XaB Tryz.prog)=some fn95:=by kernel_rfl
theorem XEl:(Tryz.prog.funcs[97]?).bind (XaB Tryz.prog)=some fn97:=by kernel_rfl
theorem XFT:(Tryz.prog.funcs[92]?).bind (XaB Tryz.prog)=some fn92:=by kernel_rfl
theorem XCk:(Tryz.prog.funcs[85]?).bind (XaB Tryz.prog)=some fn85:=by kernel_rfl
theorem XDF:(Tryz.prog.funcs[94]?).bind (XaB Tryz.prog)=some fn94:=by kernel_rfl
theorem XxJ:(Tryz.prog.funcs[101]?).bind (XaB Tryz.prog)=some XKd:=by kernel_rfl
theorem XFg:(Tryz.prog.funcs[58]?).bind (XaB Tryz.prog)=some fn58:=by kernel_rfl
theorem XEx:(Tryz.prog.funcs[59]?).bind (XaB Tryz.prog)=some fn59:=by kernel_rfl
theorem XFF:(Tryz.prog.funcs[21]?).bind (XaB Tryz.prog)=some fn21:=by kernel_rfl
theorem XDZ:(Tryz.prog.funcs[45]?).bind (XaB Tryz.prog)=some fn45:=by kernel_rfl
theorem XJm:(Tryz.prog.funcs[9]?).bind (XaB Tryz.prog)=some fn9:=by kernel_rfl
theorem XFe:(Tryz.prog.funcs[26]?).bind (XaB Tryz.prog)=some fn26:=by kernel_rfl
theorem XCA:(Tryz.prog.funcs[27]?).bind (XaB Tryz.prog)=some fn27:=by kernel_rfl
theorem XCO:(Tryz.prog.funcs[50]?).bind (XaB Tryz.prog)=some fn50:=by kernel_rfl
theorem XGe:(Tryz.prog.funcs[83]?).bind (XaB Tryz.prog)=some fn83:=by kernel_rfl
theorem XFR:(Tryz.prog.funcs[84]?).bind (XaB Tryz.prog)=some fn84:=by kernel_rfl
theorem XEQ:(Tryz.prog.funcs[86]?).bind (XaB Tryz.prog)=some fn86:=by kernel_rfl
theorem XEf:(Tryz.prog.funcs[89]?).bind (XaB Tryz.prog)=some fn89:=by kernel_rfl
theorem XCs:(Tryz.prog.funcs[88]?).bind (XaB Tryz.prog)=some fn88:=by kernel_rfl
theorem XFa:(Tryz.prog.funcs[87]?).bind (XaB Tryz.prog)=some fn87:=by kernel_rfl
theorem XCX:(Tryz.prog.funcs[51]?).bind (XaB Tryz.prog)=some fn51:=by kernel_rfl
theorem XFc:(Tryz.prog.funcs[90]?).bind (XaB Tryz.prog)=some fn90:=by kernel_rfl
theorem XyI:(Tryz.prog.funcs[118]?).bind (XaB Tryz.prog)=some XKf:=by kernel_rfl
theorem XDy:(Tryz.prog.funcs[91]?).bind (XaB Tryz.prog)=some fn91:=by kernel_rfl
theorem XFp:(Tryz.prog.funcs[52]?).bind (XaB Tryz.prog)=some fn52:=by kernel_rfl
theorem XDP:(Tryz.prog.funcs[93]?).bind (XaB Tryz.prog)=some fn93:=by kernel_rfl
theorem XxP:(Tryz.prog.funcs[119]?).bind (XaB Tryz.prog)=some XGF:=by kernel_rfl
theorem Xyr:(Tryz.prog.funcs[120]?).bind (XaB Tryz.prog)=some XJM:=by kernel_rfl
theorem XFS:(Tryz.prog.funcs[13]?).bind (XaB Tryz.prog)=some fn13:=by kernel_rfl
theorem XKK:(Tryz.prog.funcs[4]?).bind (XaB Tryz.prog)=some fn4:=by kernel_rfl
theorem XDp:(Tryz.prog.funcs[14]?).bind (XaB Tryz.prog)=some fn14:=by kernel_rfl
theorem XEk:(Tryz.prog.funcs[29]?).bind (XaB Tryz.prog)=some fn29:=by kernel_rfl
theorem XEr:(Tryz.prog.funcs[53]?).bind (XaB Tryz.prog)=some fn53:=by kernel_rfl
theorem XCN:(Tryz.prog.funcs[96]?).bind (XaB Tryz.prog)=some fn96:=by kernel_rfl
theorem Xx2:(Tryz.prog.funcs[121]?).bind (XaB Tryz.prog)=some XKl:=by kernel_rfl
theorem XCP:(Tryz.prog.funcs[55]?).bind (XaB Tryz.prog)=some fn55:=by kernel_rfl
theorem XDS:(Tryz.prog.funcs[54]?).bind (XaB Tryz.prog)=some fn54:=by kernel_rfl
theorem XCS:(Tryz.prog.funcs[30]?).bind (XaB Tryz.prog)=some fn30:=by kernel_rfl
theorem XFd:(Tryz.prog.funcs[16]?).bind (XaB Tryz.prog)=some fn16:=by kernel_rfl
theorem XDK:(Tryz.prog.funcs[33]?).bind (XaB Tryz.prog)=some fn33:=by kernel_rfl
theorem XCJ:(Tryz.prog.funcs[34]?).bind (XaB Tryz.prog)=some fn34:=by kernel_rfl
theorem XEv:(Tryz.prog.funcs[37]?).bind (XaB Tryz.prog)=some fn37:=by kernel_rfl
theorem XDr:(Tryz.prog.funcs[32]?).bind (XaB Tryz.prog)=some fn32:=by kernel_rfl
theorem XDY:(Tryz.prog.funcs[38]?).bind (XaB Tryz.prog)=some fn38:=by kernel_rfl
theorem XCB:(Tryz.prog.funcs[41]?).bind (XaB Tryz.prog)=some fn41:=by kernel_rfl
theorem XCU:(Tryz.prog.funcs[69]?).bind (XaB Tryz.prog)=some fn69:=by kernel_rfl
theorem XDs:(Tryz.prog.funcs[68]?).bind (XaB Tryz.prog)=some fn68:=by kernel_rfl
theorem XyH:(Tryz.prog.funcs[105]?).bind (XaB Tryz.prog)=some XJL:=by kernel_rfl
theorem XyO:(Tryz.prog.funcs[127]?).bind (XaB Tryz.prog)=some XKY:=by kernel_rfl
theorem XGc:(Tryz.prog.funcs[17]?).bind (XaB Tryz.prog)=some fn17:=by kernel_rfl
theorem XCh:(Tryz.prog.funcs[18]?).bind (XaB Tryz.prog)=some fn18:=by kernel_rfl
theorem XGk:(Tryz.prog.funcs[35]?).bind (XaB Tryz.prog)=some fn35:=by kernel_rfl
theorem XCL:(Tryz.prog.funcs[36]?).bind (XaB Tryz.prog)=some fn36:=by kernel_rfl
theorem XGg:(Tryz.prog.funcs[19]?).bind (XaB Tryz.prog)=some fn19:=by kernel_rfl
theorem XC1:(Tryz.prog.funcs[20]?).bind (XaB Tryz.prog)=some fn20:=by kernel_rfl
def tab:List (Nat×VFn):=[(3,fn3),(5,fn5),(8,fn8),(23,fn23),(28,fn28),(24,fn24),(11,fn11),(12,fn12),(10,fn10),(6,fn6),(22,fn22),(46,fn46),(71,fn71),(106,XLk),(129,XH9),(61,fn61),(62,fn62),(64,fn64),(63,fn63),(40,fn40),(131,XLq),(112,XHE),(104,XIJ),(126,XIM),(128,XIV),(134,XI9),(135,XKx),(130,XK5),(72,fn72),(107,XHV),(109,XJY),(113,XLf),(80,fn80),(42,fn42),(82,fn82),(116,XJN),(133,XLm),(117,XHD),(132,XLC),(102,XHe),(103,XGR),(125,XI2),(60,fn60),(73,fn73),(108,XKE),(39,fn39),(65,fn65),(66,fn66),(67,fn67),(25,fn25),(47,fn47),(74,fn74),(75,fn75),(110,XIq),(111,XJJ),(76,fn76),(77,fn77),(78,fn78),(43,fn43),(48,fn48),(79,fn79),(49,fn49),(81,fn81),(114,XLL),(115,XJW),(7,fn7),(15,fn15),(31,fn31),(56,fn56),(98,fn98),(44,fn44),(70,fn70),(100,XLI),(124,XIQ),(123,XKS),(122,XKV),(99,fn99),(57,fn57),(95,fn95),(97,fn97),(92,fn92),(85,fn85),(94,fn94),(101,XKd),(58,fn58),(59,fn59),(21,fn21),(45,fn45),(9,fn9),(26,fn26),(27,fn27),(50,fn50),(83,fn83),(84,fn84),(86,fn86),(89,fn89),(88,fn88),(87,fn87),(51,fn51),(90,fn90),(118,XKf),(91,fn91),(52,fn52),(93,fn93),(119,XGF),(120,XJM),(13,fn13),(4,fn4),(14,fn14),(29,fn29),(53,fn53),(96,fn96),(121,XKl),(55,fn55),(54,fn54),(30,fn30),(16,fn16),(33,fn33),(34,fn34),(37,fn37),(32,fn32),(38,fn38),(41,fn41),(69,fn69),(68,fn68),(105,XJL),(127,XKY),(17,fn17),(18,fn18),(35,fn35),(36,fn36),(19,fn19),(20,fn20)]
theorem Xan:Xi0 Tryz.prog (Xav tab):=Xi0.Xa1 ⟨XKp,XHv,XJj,XEq,XDT,XDO,XFA,XCd,XFC,XK2,XDQ,XEm,XDV,Xxn,XyQ,XD2,XFO,XDX,XEp,XCv,Xyy,Xyh,Xx8,XwW,Xys,XyR,Xxa,XxM,XFL,Xw5,XxF,Xw0,XFb,XC5,XFB,XwZ,Xze,XwQ,XxS,Xyb,Xy2,Xxi,XD8,XD4,XyK,XEW,XGd,XDz,XDM,XCo,XEI,XEh,XDH,Xyc,Xxx,XEZ,XDv,XEH,XE2,XDR,XDw,XE6,XCZ,Xy3,Xzc,XG4,XCH,XFq,XEO,XD0,XEX,XCM,XxC,Xzi,XyS,XxD,XDx,XDD,XCe,XEl,XFT,XCk,XDF,XxJ,XFg,XEx,XFF,XDZ,XJm,XFe,XCA,XCO,XGe,XFR,XEQ,XEf,XCs,XFa,XCX,XFc,XyI,XDy,XFp,XDP,XxP,Xyr,XFS,XKK,XDp,XEk,XEr,XCN,Xx2,XCP,XDS,XCS,XFd,XDK,XCJ,XEv,XDr,XDY,XCB,XCU,XDs,XyH,XyO,XGc,XCh,XGk,XCL,XGg,XC1,trivial⟩
end Go.Vm.Code
namespace Go.Vm.Code
open Go Go.Vm Go.Proofs
set_option maxRecDepth 100000
set_option maxHeartbeats 4000000
set_option linter.unusedVariables false
@[ext] structure Xab where
 V6:Bool
 Hi:Int
 Lo:Int
 deriving DecidableEq
@[ext] structure XaA where
 Proto:Int
 Src:Xab
 Dst:Xab
 SPort:Int
 DPort:Int
 deriving DecidableEq
@[ext] structure Xae where
 Tuple:XaA
 Flags:Int
 Stamped:Bool
 Val:Int
 Echo:Int
 Long:Bool
 CID:List UInt8
 Size:Int
 deriving DecidableEq
@[ext] structure Xap where
 src:Xab
 dst:Xab
 proto:Int
 body:List UInt8
 deriving DecidableEq
@[ext] structure Xak where
 Class:Int
 Mark:Int
 Whole:Bool
 TTL:Int
 Proto:Int
 Src:Xab
 Dst:Xab
 Options:List UInt8
 deriving DecidableEq
@[ext] structure Xaa where
 s:List UInt8
 made:Bool
 bad:Bool
 deriving DecidableEq
@[ext] structure Xbn where
 Reader:Xaa
 deriving DecidableEq
@[ext] structure Xao where
 Class:Int
 Label:Int
 Next:Int
 Hop:Int
 Src:Xab
 Dst:Xab
 deriving DecidableEq
@[ext] structure Xas where
 SPort:Int
 DPort:Int
 Seq:Int
 Ack:Int
 Flags:Int
 Window:Int
 Urgent:Int
 Options:List UInt8
 deriving DecidableEq
@[ext] structure XbJ where
 Kind:Int
 Data:List UInt8
 deriving DecidableEq
@[ext] structure XaV where
 SPort:Int
 DPort:Int
 deriving DecidableEq
@[ext] structure XaI where
 Long:Bool
 Bits:Int
 Version:Int
 DCID:List UInt8
 SCID:List UInt8
 Rest:List UInt8
 deriving DecidableEq
@[ext] structure Xei where
 Kind:Int
 Code:Int
 MTU:Int
 Quote:List UInt8
 deriving DecidableEq
@[ext] structure XfD where
 e0:Int
 e1:Int
 deriving DecidableEq
@[ext] structure XdR where
 e0:XfD
 e1:XfD
 e2:XfD
 e3:XfD
 deriving DecidableEq
@[ext] structure XbB where
 msg:List UInt8
 addr:Int
 deriving DecidableEq
@[ext] structure Xb6 where
 src:Xab
 dst:Xab
 proto:Int
 size:Int
 body:List UInt8
 deriving DecidableEq
@[ext] structure XbA where
 Kind:Int
 Data:List UInt8
 At:Int
 deriving DecidableEq
def Xex (x:Xab):List Value:=[.bool x.V6,.int .u64 x.Hi,.int .u64 x.Lo]
theorem Xik (x:Xab):(Xex x).length=3:=rfl
theorem Xgh (x:Xab):Xbt.flatL (Xex x)=true:=rfl
theorem Xdj (x:Xab):(Xex x).all XfQ=true:=rfl
@[simp] theorem Xwt (xs:List Xab):(vT Xex xs).length=xs.length*3:=XfM Xik xs
@[simp] theorem Xwz (xs:List Xab) (n:Nat):(vT Xex xs).take (n*3)=vT Xex (xs.take n):=Xeh Xik xs n
@[simp] theorem XwL (xs:List Xab) (n:Nat):(vT Xex xs).drop (n*3)=vT Xex (xs.drop n):=Xek Xik xs n
def Xk8:List Value→Option Xab
 | [.bool a1,.int .u64 a2,.int .u64 a3]=>some (Xab.mk a1 a2 a3)
 | _=>none
theorem XoD (cs:List Value) (x:Xab) (h:Xk8 cs=some x):cs=Xex x:=by
 unfold Xk8 at h;split at h
 ·cases h;rfl
 ·cases h
def XbN:Value→Option Xab
 | .agg ⟨cs⟩=>Xk8 cs
 | _=>none
theorem Xbp (v:Value) (x:Xab) (h:XbN v=some x):v=.agg ⟨Xex x⟩:=by
 unfold XbN at h;split at h
 ·rw [XoD _ _ h]
 ·cases h
theorem XbE (x:Xab):XbN (.agg ⟨Xex x⟩)=some x:=rfl
def XdC (x:XaA):List Value:=[.int .i64 x.Proto,.bool x.Src.V6,.int .u64 x.Src.Hi,.int .u64 x.Src.Lo,.bool x.Dst.V6,.int .u64 x.Dst.Hi,.int .u64 x.Dst.Lo,.int .i64 x.SPort,.int .i64 x.DPort]
theorem Xhz (x:XaA):(XdC x).length=9:=rfl
theorem Xfy (x:XaA):Xbt.flatL (XdC x)=true:=rfl
theorem XcZ (x:XaA):(XdC x).all XfQ=true:=rfl
@[simp] theorem Xwb (xs:List XaA):(vT XdC xs).length=xs.length*9:=XfM Xhz xs
@[simp] theorem XtE (xs:List XaA) (n:Nat):(vT XdC xs).take (n*9)=vT XdC (xs.take n):=Xeh Xhz xs n
@[simp] theorem Xu1 (xs:List XaA) (n:Nat):(vT XdC xs).drop (n*9)=vT XdC (xs.drop n):=Xek Xhz xs n
def Xj6:List Value→Option XaA
 | [.int .i64 a1,.bool a2,.int .u64 a3,.int .u64 a4,.bool a5,.int .u64 a6,.int .u64 a7,.int .i64 a8,.int .i64 a9]=>some (XaA.mk a1 (Xab.mk a2 a3 a4) (Xab.mk a5 a6 a7) a8 a9)
 | _=>none
theorem Xna (cs:List Value) (x:XaA) (h:Xj6 cs=some x):cs=XdC x:=by
 unfold Xj6 at h;split at h
 ·cases h;rfl
 ·cases h
def Xg3:Value→Option XaA
 | .agg ⟨cs⟩=>Xj6 cs
 | _=>none
theorem XjI (v:Value) (x:XaA) (h:Xg3 v=some x):v=.agg ⟨XdC x⟩:=by
 unfold Xg3 at h;split at h
 ·rw [Xna _ _ h]
 ·cases h
theorem XkA (x:XaA):Xg3 (.agg ⟨XdC x⟩)=some x:=rfl
def XcT (x:Xae):List Value:=[.int .i64 x.Tuple.Proto,.bool x.Tuple.Src.V6,.int .u64 x.Tuple.Src.Hi,.int .u64 x.Tuple.Src.Lo,.bool x.Tuple.Dst.V6,.int .u64 x.Tuple.Dst.Hi,.int .u64 x.Tuple.Dst.Lo,.int .i64 x.Tuple.SPort,.int .i64 x.Tuple.DPort,.int .i64 x.Flags,.bool x.Stamped,.int .u32 x.Val,.int .u32 x.Echo,.bool x.Long,.string ⟨⟨x.CID⟩⟩,.int .i64 x.Size]
theorem Xg1 (x:Xae):(XcT x).length=16:=rfl
theorem XeT (x:Xae):Xbt.flatL (XcT x)=true:=rfl
theorem XcI (x:Xae):(XcT x).all XfQ=true:=rfl
@[simp] theorem Xtc (xs:List Xae):(vT XcT xs).length=xs.length*16:=XfM Xg1 xs
@[simp] theorem Xtb (xs:List Xae) (n:Nat):(vT XcT xs).take (n*16)=vT XcT (xs.take n):=Xeh Xg1 xs n
@[simp] theorem Xs5 (xs:List Xae) (n:Nat):(vT XcT xs).drop (n*16)=vT XcT (xs.drop n):=Xek Xg1 xs n
def Xe5:List Value→Option Xae
 | [.int .i64 a1,.bool a2,.int .u64 a3,.int .u64 a4,.bool a5,.int .u64 a6,.int .u64 a7,.int .i64 a8,.int .i64 a9,.int .i64 a10,.bool a11,.int .u32 a12,.int .u32 a13,.bool a14,.string ⟨⟨a15⟩⟩,.int .i64 a16]=>some (Xae.mk (XaA.mk a1 (Xab.mk a2 a3 a4) (Xab.mk a5 a6 a7) a8 a9) a10 a11 a12 a13 a14 a15 a16)
 | _=>none
theorem Xg7 (cs:List Value) (x:Xae) (h:Xe5 cs=some x):cs=XcT x:=by
 unfold Xe5 at h;split at h
 ·cases h;rfl
 ·cases h
theorem XjU (x:Xae):Xe5 (XcT x)=some x:=rfl
def Xgt:Value→Option Xae
 | .agg ⟨cs⟩=>Xe5 cs
 | _=>none
theorem Xi8 (v:Value) (x:Xae) (h:Xgt v=some x):v=.agg ⟨XcT x⟩:=by
 unfold Xgt at h;split at h
 ·rw [Xg7 _ _ h]
 ·cases h
theorem XjK (x:Xae):Xgt (.agg ⟨XcT x⟩)=some x:=rfl
def Xcq (x:Xap):List Value:=[.bool x.src.V6,.int .u64 x.src.Hi,.int .u64 x.src.Lo,.bool x.dst.V6,.int .u64 x.dst.Hi,.int .u64 x.dst.Lo,.int .i64 x.proto,.string ⟨⟨x.body⟩⟩]
theorem XfW (x:Xap):(Xcq x).length=8:=rfl
theorem Xea (x:Xap):Xbt.flatL (Xcq x)=true:=rfl
theorem Xcb (x:Xap):(Xcq x).all XfQ=true:=rfl
@[simp] theorem Xr4 (xs:List Xap):(vT Xcq xs).length=xs.length*8:=XfM XfW xs
@[simp] theorem XrD (xs:List Xap) (n:Nat):(vT Xcq xs).take (n*8)=vT Xcq (xs.take n):=Xeh XfW xs n
@[simp] theorem XqY (xs:List Xap) (n:Nat):(vT Xcq xs).drop (n*8)=vT Xcq (xs.drop n):=Xek XfW xs n
def Xhv:List Value→Option Xap
 | [.bool a1,.int .u64 a2,.int .u64 a3,.bool a4,.int .u64 a5,.int .u64 a6,.int .i64 a7,.string ⟨⟨a8⟩⟩]=>some (Xap.mk (Xab.mk a1 a2 a3) (Xab.mk a4 a5 a6) a7 a8)
 | _=>none
theorem Xll (cs:List Value) (x:Xap) (h:Xhv cs=some x):cs=Xcq x:=by
 unfold Xhv at h;split at h
 ·cases h;rfl
 ·cases h
def XeN:Value→Option Xap
 | .agg ⟨cs⟩=>Xhv cs
 | _=>none
theorem XhF (v:Value) (x:Xap) (h:XeN v=some x):v=.agg ⟨Xcq x⟩:=by
 unfold XeN at h;split at h
 ·rw [Xll _ _ h]
 ·cases h
theorem Xiv (x:Xap):XeN (.agg ⟨Xcq x⟩)=some x:=rfl
def XcJ (x:Xak):List Value:=[.int .i64 x.Class,.int .i64 x.Mark,.bool x.Whole,.int .i64 x.TTL,.int .i64 x.Proto,.bool x.Src.V6,.int .u64 x.Src.Hi,.int .u64 x.Src.Lo,.bool x.Dst.V6,.int .u64 x.Dst.Hi,.int .u64 x.Dst.Lo,.string ⟨⟨x.Options⟩⟩]
theorem Xgy (x:Xak):(XcJ x).length=12:=rfl
theorem XeE (x:Xak):Xbt.flatL (XcJ x)=true:=rfl
theorem Xcx (x:Xak):(XcJ x).all XfQ=true:=rfl
@[simp] theorem XsQ (xs:List Xak):(vT XcJ xs).length=xs.length*12:=XfM Xgy xs
@[simp] theorem XsK (xs:List Xak) (n:Nat):(vT XcJ xs).take (n*12)=vT XcJ (xs.take n):=Xeh Xgy xs n
@[simp] theorem XsI (xs:List Xak) (n:Nat):(vT XcJ xs).drop (n*12)=vT XcJ (xs.drop n):=Xek Xgy xs n
def Xis:List Value→Option Xak
 | [.int .i64 a1,.int .i64 a2,.bool a3,.int .i64 a4,.int .i64 a5,.bool a6,.int .u64 a7,.int .u64 a8,.bool a9,.int .u64 a10,.int .u64 a11,.string ⟨⟨a12⟩⟩]=>some (Xak.mk a1 a2 a3 a4 a5 (Xab.mk a6 a7 a8) (Xab.mk a9 a10 a11) a12)
 | _=>none
theorem XlQ (cs:List Value) (x:Xak) (h:Xis cs=some x):cs=XcJ x:=by
 unfold Xis at h;split at h
 ·cases h;rfl
 ·cases h
def Xfw:Value→Option Xak
 | .agg ⟨cs⟩=>Xis cs
 | _=>none
theorem Xix (v:Value) (x:Xak) (h:Xfw v=some x):v=.agg ⟨XcJ x⟩:=by
 unfold Xfw at h;split at h
 ·rw [XlQ _ _ h]
 ·cases h
theorem XiS (x:Xak):Xfw (.agg ⟨XcJ x⟩)=some x:=rfl
def XcD (x:Xaa):List Value:=[.string ⟨⟨x.s⟩⟩,.bool x.made,.bool x.bad]
theorem XfZ (x:Xaa):(XcD x).length=3:=rfl
theorem Xeb (x:Xaa):Xbt.flatL (XcD x)=true:=rfl
theorem Xcd (x:Xaa):(XcD x).all XfQ=true:=rfl
@[simp] theorem Xr6 (xs:List Xaa):(vT XcD xs).length=xs.length*3:=XfM XfZ xs
@[simp] theorem Xr7 (xs:List Xaa) (n:Nat):(vT XcD xs).take (n*3)=vT XcD (xs.take n):=Xeh XfZ xs n
@[simp] theorem Xq5 (xs:List Xaa) (n:Nat):(vT XcD xs).drop (n*3)=vT XcD (xs.drop n):=Xek XfZ xs n
def XcE:List Value→Option Xaa
 | [.string ⟨⟨a1⟩⟩,.bool a2,.bool a3]=>some (Xaa.mk a1 a2 a3)
 | _=>none
theorem Xc3 (cs:List Value) (x:Xaa) (h:XcE cs=some x):cs=XcD x:=by
 unfold XcE at h;split at h
 ·cases h;rfl
 ·cases h
theorem XdU (x:Xaa):XcE (XcD x)=some x:=rfl
def Xc4 (x:Xao):List Value:=[.int .i64 x.Class,.int .i64 x.Label,.int .i64 x.Next,.int .i64 x.Hop,.bool x.Src.V6,.int .u64 x.Src.Hi,.int .u64 x.Src.Lo,.bool x.Dst.V6,.int .u64 x.Dst.Hi,.int .u64 x.Dst.Lo]
theorem Xg5 (x:Xao):(Xc4 x).length=10:=rfl
theorem XeR (x:Xao):Xbt.flatL (Xc4 x)=true:=rfl
theorem XcM (x:Xao):(Xc4 x).all XfQ=true:=rfl
@[simp] theorem Xta (xs:List Xao):(vT Xc4 xs).length=xs.length*10:=XfM Xg5 xs
@[simp] theorem Xs6 (xs:List Xao) (n:Nat):(vT Xc4 xs).take (n*10)=vT Xc4 (xs.take n):=Xeh Xg5 xs n
@[simp] theorem Xs7 (xs:List Xao) (n:Nat):(vT Xc4 xs).drop (n*10)=vT Xc4 (xs.drop n):=Xek Xg5 xs n
def XiO:List Value→Option Xao
 | [.int .i64 a1,.int .i64 a2,.int .i64 a3,.int .i64 a4,.bool a5,.int .u64 a6,.int .u64 a7,.bool a8,.int .u64 a9,.int .u64 a10]=>some (Xao.mk a1 a2 a3 a4 (Xab.mk a5 a6 a7) (Xab.mk a8 a9 a10))
 | _=>none
theorem Xmx (cs:List Value) (x:Xao) (h:XiO cs=some x):cs=Xc4 x:=by
 unfold XiO at h;split at h
 ·cases h;rfl
 ·cases h
def Xgl:Value→Option Xao
 | .agg ⟨cs⟩=>XiO cs
 | _=>none
theorem XiK (v:Value) (x:Xao) (h:Xgl v=some x):v=.agg ⟨Xc4 x⟩:=by
 unfold Xgl at h;split at h
 ·rw [Xmx _ _ h]
 ·cases h
theorem XjQ (x:Xao):Xgl (.agg ⟨Xc4 x⟩)=some x:=rfl
def Xes (x:Xas):List Value:=[.int .i64 x.SPort,.int .i64 x.DPort,.int .u32 x.Seq,.int .u32 x.Ack,.int .i64 x.Flags,.int .i64 x.Window,.int .i64 x.Urgent,.string ⟨⟨x.Options⟩⟩]
theorem Xid (x:Xas):(Xes x).length=8:=rfl
theorem Xgg (x:Xas):Xbt.flatL (Xes x)=true:=rfl
theorem Xdq (x:Xas):(Xes x).all XfQ=true:=rfl
@[simp] theorem Xwq (xs:List Xas):(vT Xes xs).length=xs.length*8:=XfM Xid xs
@[simp] theorem XwD (xs:List Xas) (n:Nat):(vT Xes xs).take (n*8)=vT Xes (xs.take n):=Xeh Xid xs n
@[simp] theorem XwB (xs:List Xas) (n:Nat):(vT Xes xs).drop (n*8)=vT Xes (xs.drop n):=Xek Xid xs n
def Xlo:List Value→Option Xas
 | [.int .i64 a1,.int .i64 a2,.int .u32 a3,.int .u32 a4,.int .i64 a5,.int .i64 a6,.int .i64 a7,.string ⟨⟨a8⟩⟩]=>some (Xas.mk a1 a2 a3 a4 a5 a6 a7 a8)
 | _=>none
theorem XoA (cs:List Value) (x:Xas) (h:Xlo cs=some x):cs=Xes x:=by
 unfold Xlo at h;split at h
 ·cases h;rfl
 ·cases h
def Xh2:Value→Option Xas
 | .agg ⟨cs⟩=>Xlo cs
 | _=>none
theorem Xkk (v:Value) (x:Xas) (h:Xh2 v=some x):v=.agg ⟨Xes x⟩:=by
 unfold Xh2 at h;split at h
 ·rw [XoA _ _ h]
 ·cases h
theorem XlJ (x:Xas):Xh2 (.agg ⟨Xes x⟩)=some x:=rfl
def Xgi (x:XbJ):List Value:=[.int .i64 x.Kind,.string ⟨⟨x.Data⟩⟩]
theorem Xho (x:XbJ):(Xgi x).length=2:=rfl
theorem Xb7 (x:XbJ):Xbt.flatL (Xgi x)=true:=rfl
theorem XdM (x:XbJ):(Xgi x).all XfQ=true:=rfl
@[simp] theorem Xyg (xs:List XbJ):(vT Xgi xs).length=xs.length*2:=XfM Xho xs
@[simp] theorem XyB (xs:List XbJ) (n:Nat):(vT Xgi xs).take (n*2)=vT Xgi (xs.take n):=Xeh Xho xs n
@[simp] theorem XxR (xs:List XbJ) (n:Nat):(vT Xgi xs).drop (n*2)=vT Xgi (xs.drop n):=Xek Xho xs n
def Xgr (x:XaV):List Value:=[.int .i64 x.SPort,.int .i64 x.DPort]
theorem Xif (x:XaV):(Xgr x).length=2:=rfl
theorem Xgk (x:XaV):Xbt.flatL (Xgr x)=true:=rfl
theorem Xds (x:XaV):(Xgr x).all XfQ=true:=rfl
@[simp] theorem XwA (xs:List XaV):(vT Xgr xs).length=xs.length*2:=XfM Xif xs
@[simp] theorem XwG (xs:List XaV) (n:Nat):(vT Xgr xs).take (n*2)=vT Xgr (xs.take n):=Xeh Xif xs n
@[simp] theorem Xwr (xs:List XaV) (n:Nat):(vT Xgr xs).drop (n*2)=vT Xgr (xs.drop n):=Xek Xif xs n
def Xe3 (x:XaI):List Value:=[.bool x.Long,.int .i64 x.Bits,.int .u32 x.Version,.string ⟨⟨x.DCID⟩⟩,.string ⟨⟨x.SCID⟩⟩,.string ⟨⟨x.Rest⟩⟩]
theorem Xhu (x:XaI):(Xe3 x).length=6:=rfl
theorem Xfs (x:XaI):Xbt.flatL (Xe3 x)=true:=rfl
theorem XcY (x:XaI):(Xe3 x).all XfQ=true:=rfl
@[simp] theorem Xu2 (xs:List XaI):(vT Xe3 xs).length=xs.length*6:=XfM Xhu xs
@[simp] theorem Xue (xs:List XaI) (n:Nat):(vT Xe3 xs).take (n*6)=vT Xe3 (xs.take n):=Xeh Xhu xs n
@[simp] theorem Xtk (xs:List XaI) (n:Nat):(vT Xe3 xs).drop (n*6)=vT Xe3 (xs.drop n):=Xek Xhu xs n
def Xdr (x:Xei):List Value:=[.int .i64 x.Kind,.int .i64 x.Code,.int .i64 x.MTU,.string ⟨⟨x.Quote⟩⟩]
theorem Xgb (x:Xei):(Xdr x).length=4:=rfl
theorem Xec (x:Xei):Xbt.flatL (Xdr x)=true:=rfl
theorem Xcf (x:Xei):(Xdr x).all XfQ=true:=rfl
@[simp] theorem Xrw (xs:List Xei):(vT Xdr xs).length=xs.length*4:=XfM Xgb xs
@[simp] theorem XrJ (xs:List Xei) (n:Nat):(vT Xdr xs).take (n*4)=vT Xdr (xs.take n):=Xeh Xgb xs n
@[simp] theorem XrZ (xs:List Xei) (n:Nat):(vT Xdr xs).drop (n*4)=vT Xdr (xs.drop n):=Xek Xgb xs n
def Xgv (x:XfD):List Value:=[.int .i64 x.e0,.int .i64 x.e1]
theorem Xin (x:XfD):(Xgv x).length=2:=rfl
theorem Xgf (x:XfD):Xbt.flatL (Xgv x)=true:=rfl
theorem Xdu (x:XfD):(Xgv x).all XfQ=true:=rfl
@[simp] theorem Xwv (xs:List XfD):(vT Xgv xs).length=xs.length*2:=XfM Xin xs
@[simp] theorem XwM (xs:List XfD) (n:Nat):(vT Xgv xs).take (n*2)=vT Xgv (xs.take n):=Xeh Xin xs n
@[simp] theorem Xws (xs:List XfD) (n:Nat):(vT Xgv xs).drop (n*2)=vT Xgv (xs.drop n):=Xek Xin xs n
def XcX (x:XdR):List Value:=[.int .i64 x.e0.e0,.int .i64 x.e0.e1,.int .i64 x.e1.e0,.int .i64 x.e1.e1,.int .i64 x.e2.e0,.int .i64 x.e2.e1,.int .i64 x.e3.e0,.int .i64 x.e3.e1]
theorem XfC (x:XdR):(XcX x).length=8:=rfl
theorem XdQ (x:XdR):Xbt.flatL (XcX x)=true:=rfl
theorem Xb1 (x:XdR):(XcX x).all XfQ=true:=rfl
@[simp] theorem Xqj (xs:List XdR):(vT XcX xs).length=xs.length*8:=XfM XfC xs
@[simp] theorem XqQ (xs:List XdR) (n:Nat):(vT XcX xs).take (n*8)=vT XcX (xs.take n):=Xeh XfC xs n
@[simp] theorem Xp3 (xs:List XdR) (n:Nat):(vT XcX xs).drop (n*8)=vT XcX (xs.drop n):=Xek XfC xs n
def Xbk (x:XbB):List Value:=[.string ⟨⟨x.msg⟩⟩,.int .u64 x.addr]
theorem XcB (x:XbB):(Xbk x).length=2:=rfl
theorem XbU (x:XbB):Xbt.flatL (Xbk x)=true:=rfl
theorem Xa7 (x:XbB):(Xbk x).all XfQ=true:=rfl
@[simp] theorem Xk1 (xs:List XbB):(vT Xbk xs).length=xs.length*2:=XfM XcB xs
@[simp] theorem Xk3 (xs:List XbB) (n:Nat):(vT Xbk xs).take (n*2)=vT Xbk (xs.take n):=Xeh XcB xs n
@[simp] theorem Xk0 (xs:List XbB) (n:Nat):(vT Xbk xs).drop (n*2)=vT Xbk (xs.drop n):=Xek XcB xs n
def Xgp (x:Xb6):List Value:=[.bool x.src.V6,.int .u64 x.src.Hi,.int .u64 x.src.Lo,.bool x.dst.V6,.int .u64 x.dst.Hi,.int .u64 x.dst.Lo,.int .i64 x.proto,.int .i64 x.size,.string ⟨⟨x.body⟩⟩]
theorem Xih (x:Xb6):(Xgp x).length=9:=rfl
theorem Xgd (x:Xb6):Xbt.flatL (Xgp x)=true:=rfl
theorem Xdv (x:Xb6):(Xgp x).all XfQ=true:=rfl
@[simp] theorem XwJ (xs:List Xb6):(vT Xgp xs).length=xs.length*9:=XfM Xih xs
@[simp] theorem XwE (xs:List Xb6) (n:Nat):(vT Xgp xs).take (n*9)=vT Xgp (xs.take n):=Xeh Xih xs n
@[simp] theorem Xwy (xs:List Xb6) (n:Nat):(vT Xgp xs).drop (n*9)=vT Xgp (xs.drop n):=Xek Xih xs n
def Xfr (x:XbA):List Value:=[.int .i64 x.Kind,.string ⟨⟨x.Data⟩⟩,.int .i64 x.At]
theorem Xdt (x:XbA):(Xfr x).length=3:=rfl
theorem Xcs (x:XbA):Xbt.flatL (Xfr x)=true:=rfl
theorem XdN (x:XbA):(Xfr x).all XfQ=true:=rfl
@[simp] theorem XxI (xs:List XbA):(vT Xfr xs).length=xs.length*3:=XfM Xdt xs
@[simp] theorem XxG (xs:List XbA) (n:Nat):(vT Xfr xs).take (n*3)=vT Xfr (xs.take n):=Xeh Xdt xs n
@[simp] theorem Xyz (xs:List XbA) (n:Nat):(vT Xfr xs).drop (n*3)=vT Xfr (xs.drop n):=Xek Xdt xs n
def Xfx (k:Nat):Value→List (Option (List Value))→Option Xbn
 | .agg ⟨[.pointer (some ⟨k0,0,none⟩)]⟩,[some c0]=>match XcE c0 with|some x0=>(if k0=k+0 then some (Xbn.mk x0) else none)|none=>none
 | _,_=>none
theorem XkT {k:Nat} {v:Value} {cs:List (Option (List Value))} {x:Xbn} (h:Xfx k v cs=some x):v=.agg ⟨[.pointer (some ⟨k+0,0,none⟩)]⟩∧cs=[some [.string ⟨⟨x.Reader.s⟩⟩,.bool x.Reader.made,.bool x.Reader.bad]]:=by
 unfold Xfx at h;split at h<;>try (cases h;done)
 split at h<;>try (cases h;done)
 rename_i x0 e0
 split at h<;>cases h
 rename_i hk
 subst hk
 obtain rfl:=Xc3 _ _ e0
 exact ⟨rfl,rfl⟩
theorem Xli (k:Nat) (x:Xbn):Xfx k (.agg ⟨[.pointer (some ⟨k+0,0,none⟩)]⟩) [some [.string ⟨⟨x.Reader.s⟩⟩,.bool x.Reader.made,.bool x.Reader.bad]]=some x:=by
 show (if k+0=k+0 then some x else none)=_
 simp
theorem Xjd {P:Program} {f base fn nt:Nat} {e e':Env} {todo todo':List Xd5} {ds ds':List Nat} {ret:Bool} {up up':List Xbh} {H H':Hp} {top top':Nat} {R:Value→Hp→Nat→Prop}
 (h:XaK P f base ⟨⟨fn,nt,e',todo',ds',ret,none⟩,up',H',top'⟩ R) (m:List (Nat×Nat)) (hc:Xwu base top' m=true) (he:reE (Xav m) e e':=by repeat' first|exact trivial|refine ⟨⟨_,rfl,rfl⟩,?_⟩|refine ⟨⟨_,_,rfl,rfl,.rowF (Xhs _ _) id⟩,?_⟩|refine ⟨⟨_,_,rfl,rfl,.rowF (XnX _) id⟩,?_⟩|refine ⟨⟨_,_,rfl,rfl,.rowF (Xou _) id⟩,?_⟩|refine ⟨⟨_,_,rfl,rfl,.rowF (Xmz (by first|exact Xgh|exact Xfy|exact XeT|exact Xea|exact XeE|exact Xeb|exact XeR|exact Xgg|exact Xb7|exact Xgk|exact Xfs|exact Xec|exact Xgf|exact XdQ|exact XbU|exact Xgd|exact Xcs) _) id⟩,?_⟩|refine ⟨⟨_,_,rfl,rfl,.tyF (Xhs _ _)⟩,?_⟩|refine ⟨⟨_,_,rfl,rfl,.ty rfl⟩,?_⟩|refine ⟨⟨_,_,rfl,rfl,.cells rfl⟩,?_⟩|refine ⟨⟨_,_,rfl,rfl,.row rfl id⟩,?_⟩|refine ⟨⟨_,_,rfl,rfl,.cr rfl⟩,?_⟩|refine ⟨⟨_,_,rfl,rfl,.rc rfl⟩,?_⟩|refine ⟨⟨_,_,rfl,rfl,.marks⟩,?_⟩|refine ⟨⟨_,_,rfl,rfl,.siter _ _⟩,?_⟩|refine ⟨⟨_,_,rfl,rfl,.loop rfl rfl rfl rfl (by repeat' first|exact trivial|refine ⟨rfl,?_⟩) rfl rfl rfl rfl⟩,?_⟩) (hH:reH (Xav m) H H':=by repeat' first|exact trivial|refine ⟨⟨_,rfl,rfl⟩,?_⟩|refine ⟨⟨_,_,rfl,rfl,.rowF (Xhs _ _) id⟩,?_⟩|refine ⟨⟨_,_,rfl,rfl,.rowF (XnX _) id⟩,?_⟩|refine ⟨⟨_,_,rfl,rfl,.rowF (Xou _) id⟩,?_⟩|refine ⟨⟨_,_,rfl,rfl,.rowF (Xmz (by first|exact Xgh|exact Xfy|exact XeT|exact Xea|exact XeE|exact Xeb|exact XeR|exact Xgg|exact Xb7|exact Xgk|exact Xfs|exact Xec|exact Xgf|exact XdQ|exact XbU|exact Xgd|exact Xcs) _) id⟩,?_⟩|refine ⟨⟨_,_,rfl,rfl,.tyF (Xhs _ _)⟩,?_⟩|refine ⟨⟨_,_,rfl,rfl,.ty rfl⟩,?_⟩|refine ⟨⟨_,_,rfl,rfl,.cells rfl⟩,?_⟩|refine ⟨⟨_,_,rfl,rfl,.row rfl id⟩,?_⟩|refine ⟨⟨_,_,rfl,rfl,.cr rfl⟩,?_⟩|refine ⟨⟨_,_,rfl,rfl,.rc rfl⟩,?_⟩|refine ⟨⟨_,_,rfl,rfl,.marks⟩,?_⟩|refine ⟨⟨_,_,rfl,rfl,.siter _ _⟩,?_⟩|refine ⟨⟨_,_,rfl,rfl,.loop rfl rfl rfl rfl (by repeat' first|exact trivial|refine ⟨rfl,?_⟩) rfl rfl rfl rfl⟩,?_⟩)
 (ht:Xyw (Xav m) todo'=some todo:=by rfl) (hd:Xy7 (Xav m) ds'=some ds:=by rfl) (hu:reU (Xav m) up up':=by trivial) :
 XaK P f base ⟨⟨fn,nt,e,todo,ds,ret,none⟩,up,H,top⟩ R:=XaK.re h m hc he hH ht hd hu
theorem Xs8 {P:Program} {f base fn nt:Nat} {e e':Env} {todo todo':List Xd5} {ds ds':List Nat} {ret:Bool} {up up':List Xbh} {H H':Hp} {top top':Nat} {R:Value→Hp→Nat→Prop}
 (h:XaK P f base ⟨⟨fn,nt,e',todo',ds',ret,none⟩,up',H',top'⟩ R) (m:List (Nat×Nat)) (hc:Xwu base top' m=true) (he:reE (Xav m) e e':=by repeat' first|exact trivial|refine ⟨⟨_,rfl,rfl⟩,?_⟩|refine ⟨⟨_,_,rfl,rfl,.rowF (Xhs _ _) id⟩,?_⟩|refine ⟨⟨_,_,rfl,rfl,.rowF (XnX _) id⟩,?_⟩|refine ⟨⟨_,_,rfl,rfl,.rowF (Xou _) id⟩,?_⟩|refine ⟨⟨_,_,rfl,rfl,.rowF (Xmz (by first|exact Xgh|exact Xfy|exact XeT|exact Xea|exact XeE|exact Xeb|exact XeR|exact Xgg|exact Xb7|exact Xgk|exact Xfs|exact Xec|exact Xgf|exact XdQ|exact XbU|exact Xgd|exact Xcs) _) id⟩,?_⟩|refine ⟨⟨_,_,rfl,rfl,.tyF (Xhs _ _)⟩,?_⟩|refine ⟨⟨_,_,rfl,rfl,.ty rfl⟩,?_⟩|refine ⟨⟨_,_,rfl,rfl,.cells rfl⟩,?_⟩|refine ⟨⟨_,_,rfl,rfl,.row rfl id⟩,?_⟩|refine ⟨⟨_,_,rfl,rfl,.cr rfl⟩,?_⟩|refine ⟨⟨_,_,rfl,rfl,.rc rfl⟩,?_⟩|refine ⟨⟨_,_,rfl,rfl,.marks⟩,?_⟩|refine ⟨⟨_,_,rfl,rfl,.siter _ _⟩,?_⟩|refine ⟨⟨_,_,rfl,rfl,.loop rfl rfl rfl rfl (by repeat' first|exact trivial|refine ⟨rfl,?_⟩) rfl rfl rfl rfl⟩,?_⟩) (hH:reH (Xav m) H H':=by repeat' first|exact trivial|refine ⟨⟨_,rfl,rfl⟩,?_⟩|refine ⟨⟨_,_,rfl,rfl,.rowF (Xhs _ _) id⟩,?_⟩|refine ⟨⟨_,_,rfl,rfl,.rowF (XnX _) id⟩,?_⟩|refine ⟨⟨_,_,rfl,rfl,.rowF (Xou _) id⟩,?_⟩|refine ⟨⟨_,_,rfl,rfl,.rowF (Xmz (by first|exact Xgh|exact Xfy|exact XeT|exact Xea|exact XeE|exact Xeb|exact XeR|exact Xgg|exact Xb7|exact Xgk|exact Xfs|exact Xec|exact Xgf|exact XdQ|exact XbU|exact Xgd|exact Xcs) _) id⟩,?_⟩|refine ⟨⟨_,_,rfl,rfl,.tyF (Xhs _ _)⟩,?_⟩|refine ⟨⟨_,_,rfl,rfl,.ty rfl⟩,?_⟩|refine ⟨⟨_,_,rfl,rfl,.cells rfl⟩,?_⟩|refine ⟨⟨_,_,rfl,rfl,.row rfl id⟩,?_⟩|refine ⟨⟨_,_,rfl,rfl,.cr rfl⟩,?_⟩|refine ⟨⟨_,_,rfl,rfl,.rc rfl⟩,?_⟩|refine ⟨⟨_,_,rfl,rfl,.marks⟩,?_⟩|refine ⟨⟨_,_,rfl,rfl,.siter _ _⟩,?_⟩|refine ⟨⟨_,_,rfl,rfl,.loop rfl rfl rfl rfl (by repeat' first|exact trivial|refine ⟨rfl,?_⟩) rfl rfl rfl rfl⟩,?_⟩)
 (ht:Xyw (Xav m) todo'=some todo:=by rfl) (hd:Xy7 (Xav m) ds'=some ds:=by rfl) (hu:reU (Xav m) up up':=by repeat' first|exact trivial|refine ⟨⟨rfl,rfl,rfl,rfl,rfl,?_,rfl,rfl⟩,?_⟩|refine ⟨⟨_,rfl,rfl⟩,?_⟩) :
 XaK P f base ⟨⟨fn,nt,e,todo,ds,ret,none⟩,up,H,top⟩ R:=XaK.re h m hc he hH ht hd hu
def XfB (n1:Int):Option (Sum Int Int):=
 cond (decide (n1>65535))
  (
  let t:=wI .i64 ((XjA .i64 n1 65535)+(n1.fdiv (2^16)))
  some (.inl t))
  (
  some (.inr (n1)))
def XfY (n:Int):Option Int:=
 iter (fun st=>XfB st) FUEL n
def XsF (x:Int):Xcw:=⟨.int .i64 x,[],[]⟩
def r128 (g:Int→Option Int):Dec:=dV (asI .i64) fun (y0:Int)=>Xdd (ofG (g y0) XsF)
theorem XJT {g:Int→Option Int} {y0:Int} {x:Int} (hx:g y0=some x):r128 g [.int .i64 y0] []=some (XsF x):=(XaX (Xcv _)).trans (Xa3 hx)
def XK0 (g:Int→Option Int):Xbv:=⟨[.v],r128 g⟩
theorem Xqw {g:Int→Option Int} {y0:Int} {x:Int} (hx:g y0=some x):(XK0 g).run [.int .i64 y0] []=some (XsF x):=XJT hx
abbrev XqP:List (Nat×Xbv):=[]
def Xi4 (n1:Int):VM:=
 ⟨⟨128,11,[(0,.int .i64 n1)],[.code Xug,.inLoop Xug,.inBlock 0,.code Xvl],[],false,none⟩,[],[],0⟩
theorem Xup (hS:Xah Tryz.prog (Xav (XqP))) (res:Int):∀ fuel (st:Int) (o:Int),iter (fun st=>XfB st) fuel st=some o→(o=res) →
 XaK Tryz.prog 128 0 (Xi4 st) (fun v H _=>Res 0 (XsF res) v H):=by
 intro fuel st o h hc
 refine XbX (head:=fun st=>Xi4 st) (C:=fun o=>(o=res)) ?_ fuel st o h hc
 clear h hc o st fuel
 intro n1 o h hc
 replace h:XfB n1=some o:=h
 show XaK Tryz.prog 128 0 (Xi4 n1) (fun v H _=>Res 0 (XsF res) v H)
 unfold XfB at h
 refine Xbi Xan hS true 3000 ?_
 conv=>whnf
 refine br.h2 h (by rfl) ?_ ?_
 ·clear h;intro hb h;conv=>whnf
  all_goals (cases h;cases hc;exact Res.y)
 clear h;intro hb h;conv=>whnf
 let t:Int:=wI .i64 ((XjA .i64 n1 65535)+(n1.fdiv (2^16)))
 cases h;simp only [Sum.elim_inl,Xi4] at hc
 exact Xjd hc [] rfl
theorem XyC (hS:Xah Tryz.prog (Xav (XqP))) (n:Int) (res:Int) (h:XfY n=some res) :
 XaK Tryz.prog 128 0 ⟨⟨128,11,[(0,.int .i64 n)],[.code Xt5],[],false,none⟩,[],[],0⟩ (fun v H _=>Res 0 (XsF res) v H):=by
 unfold XfY at h
 refine Xbi Xan hS true 3000 ?_
 conv=>whnf
 have hl:=Xup hS res _ _ _ h rfl;simp only [Xi4] at hl
 exact Xjd hl [] rfl
theorem ok128 (hS:Xah Tryz.prog (Xav (XqP))):Xar Tryz.prog 128 (XK0 (XfY)):=by
 refine Xar.Xax Xan (fun ar os r ha hr=>?_) ⟨Tryz.f128,rfl,by decide,rfl⟩
 replace hr:r128 (XfY) ar (XaH os)=some r:=hr
 unfold r128 at hr
 generalize hc:XaH os=C at hr
 obtain ⟨v0,l1,y0,rfl,e0,hr⟩:=dV.elim hr;obtain rfl:=XbD _ _ _ e0
 obtain ⟨rfl,rfl,x,h,rfl⟩:=Xdw hr
 obtain rfl:=Xat hc
 exact ⟨_,rfl,XyC hS _ x h⟩
def XaW:Int→Option Int:=XfY
theorem Xwl:Xar Tryz.prog 128 (XK0 XaW):=ok128 (Xah.Xa1 trivial)
def XeY (XaW:Int→Option Int) (s:List UInt8) (xat:Int) (n:Int):Option (Sum (Int×Int) Int):=
 cond (decide (xat<(s.length:Int)))
  (
  XaE (decide (0≤xat)) <|
  (s[xat.toNat]?).bind fun (b:UInt8)=>
  let t:=wI .i64 ((wI .i64 (b.toNat:Int))*2^8)
  let t1:=decide ((wI .i64 (xat+1))<(s.length:Int))
  cond (t1)
   (
   XaE (decide (0≤(wI .i64 (xat+1)))) <|
   (s[(wI .i64 (xat+1)).toNat]?).bind fun (b1:UInt8)=>
   let t2:=wI .i64 (n+(Xsr .i64 t (wI .i64 (b1.toNat:Int))))
   (XaW t2).bind fun f=>
   some (.inl (wI .i64 (xat+2),f)))
   (
   (XaW (wI .i64 (n+t))).bind fun f1=>
   some (.inl (wI .i64 (xat+2),f1))))
  (
  some (.inr (n)))
def XgQ (XaW:Int→Option Int) (s:List UInt8):Option Int:=
 iter (fun st=>XeY XaW s st.1 st.2) FUEL (0,0)
def Xsa (x:Int):Xcw:=⟨.int .i64 x,[],[]⟩
def r112 (g:(List UInt8)→Option Int):Dec:=dV asS fun (y0:List UInt8)=>Xdd (ofG (g y0) Xsa)
theorem XJB {g:(List UInt8)→Option Int} {y0:List UInt8} {x:Int} (hx:g y0=some x):r112 g [.string ⟨⟨y0⟩⟩] []=some (Xsa x):=(XaX (XcO)).trans (Xa3 hx)
def s112 (g:(List UInt8)→Option Int):Xbv:=⟨[.v],r112 g⟩
theorem XDt {g:(List UInt8)→Option Int} {y0:List UInt8} {x:Int} (hx:g y0=some x):(s112 g).run [.string ⟨⟨y0⟩⟩] []=some (Xsa x):=XJB hx
abbrev Xqz (XaW:Int→Option Int):List (Nat×Xbv):=[(128,XK0 XaW)]
def XhD (s:List UInt8) (xat:Int) (n:Int):VM:=
 ⟨⟨126,32,[(0,.func (.yield 3) #[] #[]),(1,.pointer (some ⟨1,0,none⟩)),(3,.int .i64 xat)],[.code Xme,.inLoop Xme,.inBlock 0],[],false,none⟩,[⟨112,13,[(3,.pointer (some ⟨0,0,none⟩))],[.inRangeFunc 3,.inBlock 0,.code XuC],[2],false,none⟩],[(0,.cells [.int .i64 n]),(1,.cells [.string ⟨⟨s⟩⟩]),(2,.marks),(3,.loop ⟨.ready,none,112,13,[(3,.pointer (some ⟨0,0,none⟩))],[7],XzP,XBA,2⟩)],4⟩
theorem Xwo (XaW:Int→Option Int) (hS:Xah Tryz.prog (Xav (Xqz XaW))) (s:List UInt8) (res:Int):∀ fuel (st:Int×Int) (o:Int),iter (fun st=>XeY XaW s st.1 st.2) fuel st=some o→(o=res) →
 XaK Tryz.prog 112 0 (XhD s st.1 st.2) (fun v H _=>Res 0 (Xsa res) v H):=by
 intro fuel st o h hc
 refine XbX (head:=fun st=>XhD s st.1 st.2) (C:=fun o=>(o=res)) ?_ fuel st o h hc
 clear h hc o st fuel
 intro st o h hc
 obtain ⟨xat,n⟩:=st
 replace h:XeY XaW s xat n=some o:=h
 show XaK Tryz.prog 112 0 (XhD s xat n) (fun v H _=>Res 0 (Xsa res) v H)
 unfold XeY at h
 refine Xbi Xan hS true 3000 ?_
 conv=>whnf
 refine br.h2 h (by rfl) ?_ ?_
 ·clear h;intro hb h;conv=>whnf
  all_goals (cases h;cases hc;exact Res.y)
 clear h;intro hb h;conv=>whnf
 replace h:=XaE.elim h;obtain ⟨hb,h⟩:=h
 try (refine req.intro hb ?_;conv=>whnf)
 replace h:=Xai.elim h;obtain ⟨b,hy,h⟩:=h
 refine rdS.intro hy ?_
 conv=>whnf
 let t:Int:=wI .i64 ((wI .i64 (b.toNat:Int))*2^8)
 let t1:Bool:=decide ((wI .i64 (xat+1))<(s.length:Int))
 refine br.h2 h (by rfl) ?_ ?_
 ·clear h;intro hb h;conv=>whnf
  replace h:=Xai.elim h;obtain ⟨f1,hy,h⟩:=h
  refine XaJ.p (Xqw hy) ?_
  conv=>whnf
  cases h;simp only [Sum.elim_inl,XhD] at hc
  exact Xs8 hc [(0,0),(1,1),(2,2),(3,3)] rfl
 clear h;intro hb h;conv=>whnf
 replace h:=XaE.elim h;obtain ⟨hb,h⟩:=h
 try (refine req.intro hb ?_;conv=>whnf)
 replace h:=Xai.elim h;obtain ⟨b1,hy,h⟩:=h
 refine rdS.intro hy ?_
 conv=>whnf
 let t2:Int:=wI .i64 (n+(Xsr .i64 t (wI .i64 (b1.toNat:Int))))
 replace h:=Xai.elim h;obtain ⟨f,hy,h⟩:=h
 refine XaJ.p (Xqw hy) ?_
 conv=>whnf
 cases h;simp only [Sum.elim_inl,XhD] at hc
 exact Xs8 hc [(0,0),(1,1),(2,2),(3,3)] rfl
theorem Xxj (XaW:Int→Option Int) (hS:Xah Tryz.prog (Xav (Xqz XaW))) (s:List UInt8) (res:Int) (h:XgQ XaW s=some res) :
 XaK Tryz.prog 112 0 ⟨⟨112,13,[(0,.string ⟨⟨s⟩⟩)],[.code XtS],[],false,none⟩,[],[],0⟩ (fun v H _=>Res 0 (Xsa res) v H):=by
 unfold XgQ at h
 refine Xbi Xan hS true 3000 ?_
 conv=>whnf
 have hl:=Xwo XaW hS _ res _ _ _ h rfl;simp only [XhD] at hl
 exact Xs8 hl [(0,0),(1,1),(2,2),(3,3)] rfl
theorem ok112 (XaW:Int→Option Int) (hS:Xah Tryz.prog (Xav (Xqz XaW))):Xar Tryz.prog 112 (s112 (XgQ XaW)):=by
 refine Xar.Xax Xan (fun ar os r ha hr=>?_) ⟨Tryz.f112,rfl,by decide,rfl⟩
 replace hr:r112 (XgQ XaW) ar (XaH os)=some r:=hr
 unfold r112 at hr
 generalize hc:XaH os=C at hr
 obtain ⟨v0,l1,y0,rfl,e0,hr⟩:=dV.elim hr;obtain rfl:=XbM _ _ e0
 obtain ⟨rfl,rfl,x,h,rfl⟩:=Xdw hr
 obtain rfl:=Xat hc
 exact ⟨_,rfl,Xxj XaW hS _ x h⟩
def XcH:(List UInt8)→Option Int:=XgQ XaW
theorem XDq:Xar Tryz.prog 112 (s112 XcH):=ok112 XaW (Xah.Xa1 ⟨Xwl,trivial⟩)
end Go.Vm.Code
