import Derived.Test.YtiknkhbngadaeaaGreatNMtuTellsb
namespace Go.Vm
open Go Go.RowKit
abbrev wI (k:IntKind) (n:Int):Int:=IntKind.wrap k n
abbrev XjJ (k:IntKind) (a b:Int):Int:=IntKind.wrap k (BitVec.ofInt k.bits a &&& BitVec.ofInt k.bits b).toNat
abbrev Xkl (k:IntKind) (a b:Int):Int:=IntKind.wrap k (BitVec.ofInt k.bits a ||| BitVec.ofInt k.bits b).toNat
abbrev Xyp (k:IntKind) (a b:Int):Int:=IntKind.wrap k (BitVec.ofInt k.bits a &&& ~~~ BitVec.ofInt k.bits b).toNat
def XaK {α:Type} (b:Bool) (x:Option α):Option α:=match b with|true=>x|false=>none
theorem XaK.elim {α:Type} {b:Bool} {x:Option α} {r:α} (h:XaK b x=some r):b=true∧x=some r:=by cases b;cases h;exact ⟨rfl,h⟩
theorem XaK.mk {α:Type} {b:Bool} {x:Option α} (h:b=true):XaK b x=x:=by subst h;rfl
theorem Xak.elim {α β:Type} {x:Option α} {F:α→Option β} {r:β} (h:x.bind F=some r):∃ a,x=some a∧F a=some r:=by cases x with|none=>cases h|some a=>exact ⟨a,rfl,h⟩
def FUEL:Nat:=2^64
def iter {σ ρ:Type} (f:σ→Option (Sum σ ρ)):Nat→σ→Option ρ
 | 0,_=>none
 | n+1,s=>match f s with
   | none=>none
   | some (.inl s')=>iter f n s'
   | some (.inr r)=>some r
theorem Xch {σ ρ:Type} {P:Program} {f base:Nat} {R:Value→Hp→Nat→Prop} {step:σ→Option (Sum σ ρ)} {head:σ→VM} {C:ρ→Prop}
 (h:∀ s o,step s=some o→Sum.elim (fun s'=>XaD P f base (head s') R) C o→XaD P f base (head s) R) :
 ∀ n s r,iter step n s=some r→C r→XaD P f base (head s) R
 | 0,_,_,e,_=>by cases e
 | n+1,s,r,e,hc=>by
   rw [iter] at e
   split at e
   ·cases e
   ·rename_i s' hs
    exact h s _ hs (Xch h n s' r e hc)
   ·rename_i r' hs
    cases e
    exact h s _ hs hc
def vI (k:IntKind) (xs:List Int):List Value:=xs.map (Value.int k)
def vB (xs:List Bool):List Value:=xs.map Value.bool
def vS (xs:List (List UInt8)):List Value:=xs.map fun s=>Value.string ⟨⟨s⟩⟩
def bI (l:List UInt8):List Int:=l.map fun b=>(b.toNat:Int)
def iB (xs:List Int):List UInt8:=xs.map fun n=>UInt8.ofNat n.toNat
@[simp] theorem vI_len (k:IntKind) (xs:List Int):(vI k xs).length=xs.length:=List.length_map _
@[simp] theorem vB_len (xs:List Bool):(vB xs).length=xs.length:=List.length_map _
@[simp] theorem vS_len (xs:List (List UInt8)):(vS xs).length=xs.length:=List.length_map _
@[simp] theorem bI_len (l:List UInt8):(bI l).length=l.length:=List.length_map _
@[simp] theorem iB_len (l:List Int):(iB l).length=l.length:=List.length_map _
theorem XhE (k:IntKind) (xs:List Int):Xbx.flatL (vI k xs)=true:=Xky (fun _=>rfl) xs
theorem Xow (xs:List Bool):Xbx.flatL (vB xs)=true:=Xky (fun _=>rfl) xs
theorem XnU (xs:List (List UInt8)):Xbx.flatL (vS xs)=true:=Xky (fun _=>rfl) xs
theorem Xh8 (k:IntKind):∀ (xs:List Int),(vI k xs).all XfX=true
 | []=>rfl
 | _::xs=>by simp only [vI,List.map_cons,List.all_cons,XfX,Bool.true_and];exact Xh8 k xs
theorem Xku:∀ (xs:List Bool),(vB xs).all XfX=true
 | []=>rfl
 | _::xs=>by simp only [vB,List.map_cons,List.all_cons,XfX,Bool.true_and];exact Xku xs
theorem XkT:∀ (xs:List (List UInt8)),(vS xs).all XfX=true
 | []=>rfl
 | _::xs=>by simp only [vS,List.map_cons,List.all_cons,XfX,Bool.true_and];exact XkT xs
theorem Xf7 (l:List UInt8):ofBytes l=vI .u8 (bI l):=by simp [ofBytes,vI,bI,List.map_map]
theorem Xlz:∀ (xs:List Int),XeU (vI .u8 xs)=some (iB xs)
 | []=>rfl
 | x::xs=>by simp only [vI,List.map_cons,XeU];rw [show XeU (xs.map (Value.int .u8))=_ from Xlz xs];rfl
theorem X0C (k:IntKind) (xs:List Int) (i:Nat) (x:Int):(vI k xs).set i (.int k x)=vI k (xs.set i x):=by simp [vI,List.map_set]
theorem Xlj (k:IntKind) (xs:List Int) (n:Nat):(vI k xs).drop n=vI k (xs.drop n):=by simp [vI,List.map_drop]
theorem Xll (k:IntKind) (xs:List Int) (n:Nat):(vI k xs).take n=vI k (xs.take n):=by simp [vI,List.map_take]
theorem Xof (xs:List (List UInt8)) (n:Nat):(vS xs).drop n=vS (xs.drop n):=by simp [vS,List.map_drop]
theorem Xn6 (xs:List (List UInt8)) (n:Nat):(vS xs).take n=vS (xs.take n):=by simp [vS,List.map_take]
theorem XAz (k:IntKind) (xs ys:List Int):vI k xs++vI k ys=vI k (xs++ys):=by simp [vI]
theorem br.h {α:Type} {b b':Bool} {X Y:Option α} {r:α} {p q:Prop} (h:cond b' X Y=some r) (e:b=b') (k1:b'=true→X=some r→p) (k2:b'=false→Y=some r→q):br b p q:=by
 subst e;cases b;exact k2 rfl h;exact k1 rfl h
theorem rd.I {k:IntKind} {xs:List Int} {o i:Nat} {x:Int} {K:Value→Prop} (hx:xs[i]?=some x) (e:o=i) (h:XgG (.int k x) K):rd (vI k xs) o K:=by
 subst e;exact rd.intro (v:=.int k x) (by simp [vI,hx]) h
theorem rd.B {xs:List Bool} {o i:Nat} {x:Bool} {K:Value→Prop} (hx:xs[i]?=some x) (e:o=i) (h:XgG (.bool x) K):rd (vB xs) o K:=by
 subst e;exact rd.intro (v:=.bool x) (by simp [vB,hx]) h
theorem rd.S {xs:List (List UInt8)} {o i:Nat} {x:List UInt8} {K:Value→Prop} (hx:xs[i]?=some x) (e:o=i) (h:XgG (.string ⟨⟨x⟩⟩) K):rd (vS xs) o K:=by
 subst e;exact rd.intro (v:=.string ⟨⟨x⟩⟩) (by simp [vS,hx]) h
theorem XDe {k:IntKind} {xs:List Int} {o i:Nat} {x:Int} (hb:decide (i<xs.length)=true) (e:o=i):(decide ((XaP (.int k x)).length=1∧o+1≤(vI k xs).length)&&(XaP (.int k x)).all XfX)=true:=by
 subst e;have:=of_decide_eq_true hb;simp [XaP,Value.cells,XfX];omega
theorem XMQ {k:IntKind} {xs:List Int} {o i:Nat} {x:Int} {K:List Value→Prop} (e:o=i) (h:K (vI k (xs.set i x))):∃ cs',setAt (vI k xs) o (XaP (.int k x))=cs'∧K cs':=
 ⟨_,by subst e;exact X0C k xs o x,h⟩
theorem X7h {k:IntKind} {n:Nat} {z:Int} {K:List Value→Prop} (h:K (vI k (List.replicate n z))):∃ cs',(List.replicate n [Value.int k z]).flatten=cs'∧K cs':=
 ⟨_,by simp [vI,List.flatten_replicate_singleton],h⟩
theorem XNN {l:List UInt8} {K:List Value→Prop} (h:K (vI .u8 (bI l))):∃ cs',ofBytes l=cs'∧K cs':=⟨_,Xf7 l,h⟩
theorem XNX {xs:List Int} {o n:Nat} {K:List UInt8→Prop} (h:K (iB ((xs.drop o).take n))):∃ bs,XeU (((vI .u8 xs).drop o).take n)=some bs∧K bs:=
 ⟨_,by rw [Xlj,Xll];exact Xlz _,h⟩
theorem XIM {l:List Value} {bs:List UInt8} {K:List UInt8→Prop} (e:XeU l=some bs) (h:K bs):∃ bs,XeU l=some bs∧K bs:=⟨_,e,h⟩
theorem XFu {k:IntKind} {new:List Value} {m:Nat} {ys:List Int} {K:List Value→Nat→Prop} (e:new=vI k ys) (em:m=ys.length) (h:K (vI k ys) ys.length):∃ cs' n',new=cs'∧m=n'∧K cs' n':=⟨_,_,e,em,h⟩
theorem X7C {k:IntKind} {new:List Value} {xs:List Int} {o c n m:Nat} {ys:List Int} {K:List Value→Nat→Prop} (e:new=vI k ys) (h0:o=0) (hc:c=xs.length) (hn:n+m=(xs++ys).length) (h:K (vI k (xs++ys)) (xs++ys).length) :
 ∃ cs' n',((vI k xs).drop o).take c++new=cs'∧n+m=n'∧K cs' n':=
 ⟨_,_,by subst h0;rw [List.drop_zero,List.take_of_length_le (by simp [hc]),e,XAz],hn,h⟩
def vT {α:Type} (f:α→List Value) (xs:List α):List Value:=xs.flatMap f
section
variable {α:Type} {f:α→List Value} {c:Nat}
theorem XfG (hf:∀ x,(f x).length=c) (xs:List α):(vT f xs).length=xs.length*c:=by
 induction xs with
 | nil=>simp [vT]
 | cons x xs ih=>
   have:vT f (x::xs)=f x++vT f xs:=rfl
   rw [this,List.length_append,hf,ih,List.length_cons,Nat.succ_mul];omega
theorem Xmy (hf:∀ x,Xbx.flatL (f x)=true) (xs:List α):Xbx.flatL (vT f xs)=true:=by
 have app:∀ a b:List Value,Xbx.flatL a=true→Xbx.flatL b=true→Xbx.flatL (a++b)=true:=by
  intro a b ha hb
  induction a with
  | nil=>exact hb
  | cons v a ih=>simp only [Xbx.flatL,Bool.and_eq_true,List.cons_append] at ha ⊢;exact ⟨ha.1,ih ha.2⟩
 induction xs with
 | nil=>rfl
 | cons x xs ih=>exact app _ _ (hf x) ih
theorem XlM (hf:∀ x,(f x).all XfX=true) (xs:List α):(vT f xs).all XfX=true:=by
 induction xs with
 | nil=>rfl
 | cons x xs ih=>have:vT f (x::xs)=f x++vT f xs:=rfl;rw [this,List.all_append,hf,ih];rfl
theorem XXV (xs ys:List α):vT f xs++vT f ys=vT f (xs++ys):=by simp [vT]
theorem XeK (hf:∀ x,(f x).length=c) (xs:List α) (n:Nat):(vT f xs).drop (n*c)=vT f (xs.drop n):=by
 induction xs generalizing n with
 | nil=>simp [vT]
 | cons x xs ih=>
   cases n with
   | zero=>simp
   | succ n=>
     have:vT f (x::xs)=f x++vT f xs:=rfl
     rw [this,List.drop_succ_cons,Nat.succ_mul,Nat.add_comm,List.drop_append,hf,List.drop_eq_nil_of_le (by rw [hf];omega),List.nil_append,show c+n*c - c=n*c by omega,ih]
theorem XeD (hf:∀ x,(f x).length=c) (xs:List α) (n:Nat):(vT f xs).take (n*c)=vT f (xs.take n):=by
 induction xs generalizing n with
 | nil=>simp [vT]
 | cons x xs ih=>
   cases n with
   | zero=>simp [vT]
   | succ n=>
     have:vT f (x::xs)=f x++vT f xs:=rfl
     have h2:vT f ((x::xs).take (n+1))=f x++vT f (xs.take n):=rfl
     rw [this,h2,Nat.succ_mul,Nat.add_comm,List.take_append,hf,List.take_of_length_le (by rw [hf];omega),show c+n*c - c=n*c by omega,ih]
theorem XAR (hf:∀ x,(f x).length=c) {xs:List α} {i j:Nat} {x:α} (hx:xs[i]?=some x) (hj:j<c):(vT f xs)[i*c+j]?=(f x)[j]?:=by
 induction xs generalizing i with
 | nil=>simp at hx
 | cons y xs ih=>
   have:vT f (y::xs)=f y++vT f xs:=rfl
   rw [this]
   cases i with
   | zero=>
     simp at hx;subst hx
     rw [Nat.zero_mul,Nat.zero_add,List.getElem?_append_left (by rw [hf];exact hj)]
   | succ i=>
     rw [List.getElem?_append_right (by rw [hf,Nat.succ_mul];omega),hf,show (i+1)*c+j - c=i*c+j by rw [Nat.succ_mul];omega]
     exact ih (by simpa using hx)
theorem rd.T (hf:∀ x,(f x).length=c) {xs:List α} {o i j:Nat} {x:α} {v:Value} {K:Value→Prop} (hx:xs[i]?=some x) (e:o=i*c+j) (hj:j<c) (hv:(f x)[j]?=some v) (h:XgG v K):rd (vT f xs) o K:=by
 subst e;exact rd.intro (by rw [XAR hf hx hj];exact hv) h
theorem XAI {cs:List Value}:∀ {l:List Value} {o:Nat} {K:List Value→Prop},(∀ (j:Nat) v,l[j]?=some v→cs[o+j]?=some v)→K l→rdN cs o l.length K
 | [],o,K,_,h=>h
 | v::l,o,K,hc,h=>by
   rw [List.length_cons,rdN]
   refine rd.intro (by simpa using hc 0 v rfl) ?_
   rw [Xe3]
   exact XAI (l:=l) (fun j u hj=>by rw [show o+1+j=o+(j+1) by omega];exact hc (j+1) u (by simpa using hj)) h
theorem ld_T (hf:∀ x,(f x).length=c) {xs:List α} {o i n:Nat} {x:α} {K:List Value→Prop} (hx:xs[i]?=some x) (e:o=i*c) (hn:n=c) (h:Xj1 (f x) K):req (decide (o+n≤(vT f xs).length)) (rdN (vT f xs) o n K):=by
 subst e hn
 have hlt:i<xs.length:=(List.getElem?_eq_some_iff.1 hx).1
 refine req.intro ?_ ?_
 ·rw [XfG hf,decide_eq_true_eq]
  have:=Nat.mul_le_mul_right n (show i+1≤xs.length by omega)
  rw [Nat.succ_mul] at this;exact this
 ·rw [Xic] at h
  have:=XAI (cs:=vT f xs) (l:=f x) (o:=i*n) (K:=K) (fun j v hj=>by
   have hj':j<n:=by rw [←hf x];exact (List.getElem?_eq_some_iff.1 hj).1
   rw [XAR hf hx hj'];exact hj) h
  rwa [hf] at this
theorem XzK (hf:∀ x,(f x).length=c) {new:List Value} {xs:List α} {o k n m:Nat} {ys:List α} {K:List Value→Nat→Prop} (e:new=vT f ys) (h0:o=0) (hc:k=xs.length*c) (hn:n+m=(xs++ys).length) (h:K (vT f (xs++ys)) (xs++ys).length) :
 ∃ cs' n',((vT f xs).drop o).take k++new=cs'∧n+m=n'∧K cs' n':=
 ⟨_,_,by subst h0;rw [List.drop_zero,List.take_of_length_le (by rw [XfG hf,hc];omega),e,XXV],hn,h⟩
end
theorem Xat {s:Xbp} {vals «as»:List Value} {os:List (Option Xbk)} {h h1 h2:Hp} {top n m t':Nat} {ws:List Wd} {r:Xco} {v':Value} (e1:XcH h 0 s.modes vals=some («as»,os)) (ew:XiS h s.modes vals=ws) {cw:List (Option (List Value))} (ec:XaA os=cw) (e2:s.run «as» cw=some r) (e3:apartB ws=true)
 (hn:r.new.length=n) (hm:XjN ws=m) (ht:top+n+m=t') (e4:XcF h (XuV top n ws) ws r.wr=some h1) (e5:Xhv h1 (XuV top n ws) top r.new=some h2) (e6:XdN (XuV top n ws) r.v=some v'):XgF s vals h top=some (v',Xik h2 (top+n) m,t'):=by
 subst hn hm ht ec
 simp only [XgF,e1,e2,ew,e3,e4,e5,e6]
theorem Xbd {h:Hp} {k:Nat}:XcH h k [] []=some ([],[]):=rfl
theorem Xas {h:Hp} {k k':Nat} {m:Md} {ms:List Md} {v a:Value} {vs «as»:List Value} {os os':List (Option Xbk)} (e:Xc8 h k m v=some (a,os)) (hk:k+os.length=k') (t:XcH h k' ms vs=some («as»,os')):XcH h k (m::ms) (v::vs)=some (a::«as»,os++os'):=by
 subst hk
 simp only [XcH,e,t]
theorem ra_sl {h:Hp} {k b o n m sz sz':Nat} {ob:Xbk} {cs cs':List Value} (ho:Xar h b=some ob) (hc:ob.cs=some cs) (hs:sz=sz') (en:n=m) (hle:o+n*sz≤cs.length) (e:(cs.drop o).take (n*sz)=cs') (hf:Xbx.flatL cs'=true) :
 Xc8 h k (.sl sz) (.slice (some ⟨b,o,none⟩) n sz')=some (.slice (some ⟨k,0,none⟩) m sz,[some (.row false cs')]):=by
 subst hs en e
 simp only [Xc8,ho,hc,hle,hf,↓reduceIte]
theorem XiN {h:Hp} {b o n i m sz kk:Nat} {k:IntKind} {own:Bool} {xs:List Int} (ho:Xar h b=some (.row own (vI k xs))) (hs:sz=1) (e0:o=i) (en:n=m) (hle:i+m≤xs.length):Xc8 h kk (.sl 1) (.slice (some ⟨b,o,none⟩) n sz)=some (.slice (some ⟨kk,0,none⟩) m 1,[some (.row false (vI k ((xs.drop i).take m)))]):=by
 subst hs e0 en
 exact ra_sl ho rfl rfl rfl (by simp;omega) (by rw [Xlj,Xll,Nat.mul_one]) (XhE _ _)
theorem Xhj {h:Hp} {b o n sz kk:Nat} {k:IntKind} {own:Bool} {xs:List Int} (ho:Xar h b=some (.row own (vI k xs))) (hs:sz=1) (e0:o=0) (en:n=xs.length):Xc8 h kk (.sl 1) (.slice (some ⟨b,o,none⟩) n sz)=some (.slice (some ⟨kk,0,none⟩) xs.length 1,[some (.row false (vI k xs))]):=by
 have:=XiN (kk:=kk) (i:=0) (m:=xs.length) ho hs e0 en (by omega)
 simpa using this
theorem XVw {h:Hp} {k:Nat} {ps:List Path} {bs:List PR} {v v' w:Value} {l:List (Option Xbk)} (e0:Xfy h v ps []=bs) (e1:XdN (XsQ k bs) v=some v') (e2:XfP h (XsQ k bs) (fun s=>Xkh k s ps bs) 0 ps bs=some l) (e3:XrT v' (Xkh k none ps bs)=w):Xc8 h k (.tr ps) v=some (w,l):=by
 subst e0 e3
 simp only [Xc8,e1,e2]
theorem XA6 {h:Hp} {s:Nat→Option Nat} {pat:Option Nat→List (Nat×Value)} {i:Nat}:XfP h s pat i [] []=some []:=rfl
theorem XWq {h:Hp} {s:Nat→Option Nat} {pat:Option Nat→List (Nat×Value)} {i b:Nat} {p:Path} {ps:List Path} {bs:List PR} {l:List (Option Xbk)} {ob:Xbk} {cs cs' cs'':List Value} (e1:Xar h b=some ob) (e2:(cond (isW p.kind) ob.wcs ob.cs)=some cs) (e3:XdN.renL s cs=some cs') (e4:XmZ cs' (pat (some i))=cs'')
 (t:XfP h s pat (i+1) ps bs=some l):XfP h s pat i (p::ps) (.at b::bs)=some (some (mkObj p.kind cs'')::l):=by
 subst e4
 simp only [XfP,e1,e2,e3,t]
def skipW:Wd→Bool
 | .no|.emp _|.win _ _ _ false|.blk _ false=>true
 | _=>false
theorem Xbc {h:Hp} {s:Nat→Option Nat}:XcF h s [] []=some h:=rfl
theorem XgE {h h':Hp} {s:Nat→Option Nat} {x:Wd} {ws:List Wd} {c:Option (List Value)} {cs:List (Option (List Value))} (hx:skipW x=true) (t:XcF h s ws cs=some h'):XcF h s (x::ws) (c::cs)=some h':=by
 cases x with
 | win b o n w=>cases w<;>first|(simp only [XcF];exact t)|cases hx
 | blk b w=>cases w<;>first|(simp only [XcF];exact t)|cases hx
 | _=>simp only [XcF];exact t
theorem XbK {h h':Hp} {s:Nat→Option Nat} {b off n:Nat} {ws:List Wd} {c c' x y:List Value} {cs:List (Option (List Value))} {ob ob':Xbk} (e1:Xar h b=some ob) (e2:ob.wcs=some x) (e3:XdN.renL s c=some c') (e4:c'.length=n∧off+n≤x.length) (e5:setAt x off c'=y) (e6:ob.wr y=some ob') (t:XcF (Xeo h b ob') s ws cs=some h') :
 XcF h s (.win b off n true::ws) (some c::cs)=some h':=by
 subst e5
 simp only [XcF,e1,e2,e3,e6,if_pos e4];exact t
theorem XA2 {h h':Hp} {s:Nat→Option Nat} {b:Nat} {ws:List Wd} {c c' x:List Value} {cs:List (Option (List Value))} {ob ob':Xbk} (e1:Xar h b=some ob) (e2:ob.wcs=some x) (e3:XdN.renL s c=some c') (e6:ob.wr c'=some ob') (t:XcF (Xeo h b ob') s ws cs=some h') :
 XcF h s (.blk b true::ws) (some c::cs)=some h':=by
 simp only [XcF,e1,e2,e3,e6];exact t
theorem Xba {h:Hp} {s:Nat→Option Nat} {top:Nat}:Xhv h s top []=some h:=rfl
theorem XhH {h h':Hp} {s:Nat→Option Nat} {top:Nat} {c c':List Value} {cs:List (List Value)} (e:XdN.renL s c=some c') (t:Xhv (Xeo h top (.row true c')) s (top+1) cs=some h'):Xhv h s top (c::cs)=some h':=by
 simp only [Xhv,e];exact t
theorem rn_I {s:Nat→Option Nat} {k:IntKind} {xs:List Int}:XdN.renL s (vI k xs)=some (vI k xs):=Xev _ _ (XhE _ _)
theorem XqD {s:Nat→Option Nat} {α:Type} {f:α→List Value} (hfl:∀ x,Xbx.flatL (f x)=true) {xs:List α}:XdN.renL s (vT f xs)=some (vT f xs):=Xev _ _ (Xmy hfl _)
def XLt (n:Nat) (wr:List (Option (List Value))):List Nat→Prop
 | []=>True
 | j::js=>(n≤j∨wr[j]?=some none)∧XLt n wr js
theorem XrA {n:Nat} {wr:List (Option (List Value))}:∀ {js:List Nat},XLt n wr js→∀ j∈js,n≤j∨wr[j]?=some none
 | [],_,j,h=>by cases h
 | k::js,h,j,hj=>by
   rcases List.mem_cons.1 hj with rfl|hj
   ·exact h.1
   ·exact XrA h.2 j hj
theorem Res.of {n:Nat} {r:Xco} {v':Value} {H':Hp} (js:List Nat) (e1:XdN (XsK js n) r.v=some v') (e2:XpV H' (XsK js n) js r.new) (e3:js.Nodup) (e4:XLt n r.wr js) (e5:Xwh H' (XsK js n) 0 r.wr):Res n r v' H':=
 ⟨⟨js,e1,e2,e3,XrA e4,e5⟩⟩
theorem XiO {H:Hp} {j:Nat} {c:List Value} (h:Xar H j=some (.row true c)):Has H j c:=.inl h
theorem Xcb {H:Hp} {j:Nat} {c:List Value} (h:Xar H j=some (.cells c)):Has H j c:=.inr (.inl h)
abbrev Dec:=List Value→List (Option (List Value))→Option Xco
def dV {α:Type} (un:Value→Option α) (K:α→Dec):Dec:=fun vs cs=>match vs with
 | v::vs'=>match un v with
   | some x=>K x vs' cs
   | none=>none
 | []=>none
theorem XaS {α:Type} {un:Value→Option α} {K:α→Dec} {v:Value} {vs:List Value} {cs:List (Option (List Value))} {x:α} (h:un v=some x):dV un K (v::vs) cs=K x vs cs:=by simp only [dV,h]
theorem dV.elim {α:Type} {un:Value→Option α} {K:α→Dec} {vs:List Value} {cs:List (Option (List Value))} {r:Xco} (h:dV un K vs cs=some r):∃ v vs' x,vs=v::vs'∧un v=some x∧K x vs' cs=some r:=by
 unfold dV at h
 split at h<;>try (cases h;done)
 split at h<;>try (cases h;done)
 exact ⟨_,_,_,rfl,by assumption,h⟩
def dSl {α:Type} (k sz:Nat) (un:List Value→Option (List α)) (K:List α→Dec):Dec:=fun vs cs=>match vs,cs with
 | .slice (some ⟨k',0,none⟩) n sz'::vs',some c::cs'=>match un c with
   | some xs=>if k'=k∧sz'=sz∧n=xs.length then K xs vs' cs' else none
   | none=>none
 | _,_=>none
theorem Xro {α:Type} {k sz:Nat} {un:List Value→Option (List α)} {K:List α→Dec} {vs:List Value} {c:List Value} {cs:List (Option (List Value))} {xs:List α} (h:un c=some xs):dSl k sz un K (.slice (some ⟨k,0,none⟩) xs.length sz::vs) (some c::cs)=K xs vs cs:=by simp [dSl,h]
theorem dSl.elim {α:Type} {k sz:Nat} {un:List Value→Option (List α)} {K:List α→Dec} {vs:List Value} {cs:List (Option (List Value))} {r:Xco} (h:dSl k sz un K vs cs=some r):∃ c vs' cs' xs,vs=.slice (some ⟨k,0,none⟩) xs.length sz::vs'∧cs=some c::cs'∧un c=some xs∧K xs vs' cs'=some r:=by
 unfold dSl at h
 split at h<;>try (cases h;done)
 split at h<;>try (cases h;done)
 split at h<;>try (cases h;done)
 rename_i hc
 obtain ⟨rfl,rfl,rfl⟩:=hc
 exact ⟨_,_,_,_,rfl,rfl,by assumption,h⟩
def dTr {α:Type} (n:Nat) (un:Value→List (Option (List Value))→Option α) (K:α→Dec):Dec:=fun vs cs=>match vs with
 | v::vs'=>match un v (cs.take n) with
   | some x=>K x vs' (cs.drop n)
   | none=>none
 | []=>none
theorem XQV {α:Type} {n:Nat} {un:Value→List (Option (List Value))→Option α} {K:α→Dec} {v:Value} {vs:List Value} {cs cs1 cs2:List (Option (List Value))} {x:α} (h1:cs.take n=cs1) (h2:cs.drop n=cs2) (h:un v cs1=some x):dTr n un K (v::vs) cs=K x vs cs2:=by
 subst h1 h2;simp only [dTr,h]
theorem dTr.elim {α:Type} {n:Nat} {un:Value→List (Option (List Value))→Option α} {K:α→Dec} {vs:List Value} {cs:List (Option (List Value))} {r:Xco} (h:dTr n un K vs cs=some r):∃ v vs' cs1 cs2 x,vs=v::vs'∧cs=cs1++cs2∧un v cs1=some x∧K x vs' cs2=some r:=by
 unfold dTr at h
 split at h<;>try (cases h;done)
 split at h<;>try (cases h;done)
 exact ⟨_,_,_,_,_,rfl,(List.take_append_drop n cs).symm,by assumption,h⟩
def dPt {α:Type} (k:Nat) (un:List Value→Option α) (K:α→Dec):Dec:=fun vs cs=>match vs,cs with
 | .pointer (some ⟨k',0,none⟩)::vs',some c::cs'=>match un c with
   | some x=>if k'=k then K x vs' cs' else none
   | none=>none
 | _,_=>none
theorem Xmd {α:Type} {k:Nat} {un:List Value→Option α} {K:α→Dec} {vs:List Value} {c:List Value} {cs:List (Option (List Value))} {x:α} (h:un c=some x):dPt k un K (.pointer (some ⟨k,0,none⟩)::vs) (some c::cs)=K x vs cs:=by simp [dPt,h]
theorem dPt.elim {α:Type} {k:Nat} {un:List Value→Option α} {K:α→Dec} {vs:List Value} {cs:List (Option (List Value))} {r:Xco} (h:dPt k un K vs cs=some r):∃ c vs' cs' x,vs=.pointer (some ⟨k,0,none⟩)::vs'∧cs=some c::cs'∧un c=some x∧K x vs' cs'=some r:=by
 unfold dPt at h
 split at h<;>try (cases h;done)
 split at h<;>try (cases h;done)
 split at h<;>try (cases h;done)
 rename_i hc
 subst hc
 exact ⟨_,_,_,_,rfl,rfl,by assumption,h⟩
def dNo:Nat→Dec→Dec
 | 0,K=>K
 | n+1,K=>fun vs cs=>match cs with
   | none::cs'=>dNo n K vs cs'
   | _=>none
theorem dNo.elim {K:Dec} {vs:List Value} {r:Xco}:∀ {n:Nat} {cs:List (Option (List Value))},dNo n K vs cs=some r→∃ cs',cs=List.replicate n none++cs'∧K vs cs'=some r
 | 0,cs,h=>⟨cs,rfl,h⟩
 | n+1,cs,h=>by
   simp only [dNo] at h
   split at h<;>try (cases h;done)
   obtain ⟨cs',rfl,h2⟩:=dNo.elim h
   exact ⟨cs',rfl,h2⟩
def dNl (n:Nat) (K:Dec):Dec:=fun vs cs=>match vs with
 | .pointer none::vs'=>dNo n K vs' cs
 | _=>none
theorem dNl.elim {n:Nat} {K:Dec} {vs:List Value} {cs:List (Option (List Value))} {r:Xco} (h:dNl n K vs cs=some r):∃ vs' cs',vs=.pointer none::vs'∧cs=List.replicate n none++cs'∧K vs' cs'=some r:=by
 unfold dNl at h
 split at h<;>try (cases h;done)
 obtain ⟨cs',rfl,h2⟩:=dNo.elim h
 exact ⟨_,cs',rfl,rfl,h2⟩
def Xc5 (r:Option Xco):Dec:=fun vs cs=>match vs,cs with
 | [],[]=>r
 | _,_=>none
theorem Xc5.elim {o:Option Xco} {vs:List Value} {cs:List (Option (List Value))} {r:Xco} (h:Xc5 o vs cs=some r):vs=[]∧cs=[]∧o=some r:=by
 unfold Xc5 at h
 split at h<;>try (cases h;done)
 exact ⟨rfl,rfl,h⟩
def orD (a b:Dec):Dec:=fun vs cs=>match a vs cs with
 | some r=>some r
 | none=>b vs cs
theorem orD.elim {a b:Dec} {vs:List Value} {cs:List (Option (List Value))} {r:Xco} (h:orD a b vs cs=some r):a vs cs=some r∨b vs cs=some r:=by
 unfold orD at h
 split at h
 ·cases h;left;assumption
 ·exact .inr h
def ofG {α:Type} (o:Option α) (f:α→Xco):Option Xco:=match o with
 | some x=>some (f x)
 | none=>none
theorem XaZ {α:Type} {o:Option α} {f:α→Xco} {x:α} (h:o=some x):ofG o f=some (f x):=by subst h;rfl
theorem ofG.elim {α:Type} {o:Option α} {f:α→Xco} {r:Xco} (h:ofG o f=some r):∃ x,o=some x∧f x=r:=by
 cases o with
 | none=>cases h
 | some x=>exact ⟨x,rfl,by cases h;rfl⟩
def asS:Value→Option (List UInt8)|.string s=>some s.data.toList|_=>none
theorem Xb8 (v:Value) (x:List UInt8) (h:asS v=some x):v=.string ⟨⟨x⟩⟩:=by cases v<;>simp [asS] at h;subst h;rfl
theorem XqV (k:IntKind) (xs:List Int):unL (asI k) (vI k xs)=some xs:=Xuv (fun x=>by simp [asI]) xs
theorem Xrs {k:IntKind} {cs:List Value} {xs:List Int} (h:unL (asI k) cs=some xs):cs=vI k xs:=XA9 (XbP k) h
end Go.Vm
namespace Go.Vm
open Go Go.RowKit
end Go.Vm
namespace Go.Vm
open Go Go.RowKit
theorem st_I {k:IntKind} {xs:List Int} {o i:Nat} {x:Int} {K:List Value→Prop} (hb:decide (i<xs.length)=true) (e:o=i) (h:K (vI k (xs.set i x))) :
 req (decide ((XaP (.int k x)).length=1∧o+1≤(vI k xs).length)&&(XaP (.int k x)).all XfX) (∃ cs',setAt (vI k xs) o (XaP (.int k x))=cs'∧K cs'):=req.intro (XDe hb e) (XMQ e h)
end Go.Vm
namespace Go.Vm
theorem br.h2 {α:Type} {b b':Bool} {X Y:Option α} {r:α} {p q:Prop} (h:cond b' X Y=some r) (e:b=b') (k2:b'=false→Y=some r→q) (k1:b'=true→X=some r→p):br b p q:=br.h h e k1 k2
end Go.Vm
namespace Go.Vm
open Go Go.RowKit
theorem VR.ofNil {ρ:Ren} {s:Nat} {rv:Value} (h:VR ρ (.slice none 0 s) rv) (j sz:Nat):VR ρ (.slice (some ⟨j,0,none⟩) 0 sz) rv:=by
 cases h;exact .slice0 none
theorem XaD.nilT {P:Program} {f base fn nt s:Nat} {e:Env} {todo:List Xei} {ds:List Nat} {ret:Bool} {rd:Option Nat} {up:List Xbi} {H:Hp} {top:Nat} {R:Value→Hp→Nat→Prop} (t sz:Nat)
 (h:XaD P f base ⟨⟨fn,nt,Xeo e t (.slice (some ⟨top,0,none⟩) 0 sz),todo,ds,ret,rd⟩,up,Xeo H top (.row true []),top+1⟩ R) (he:Xar e t=some (.slice none 0 s):=by rfl) :
 XaD P f base ⟨⟨fn,nt,e,todo,ds,ret,rd⟩,up,H,top⟩ R:=by
 refine ⟨fun w0 U ρ rf rfs w cs hr=>?_⟩
 have hx:=Ext.upd (l:=⟨0,0,0⟩) hr.heap.XlP
 have hcur:FrR P (upd ρ top ⟨0,0,0⟩) ⟨fn,nt,Xeo e t (.slice (some ⟨top,0,none⟩) 0 sz),todo,ds,ret,rd⟩ rf:=
  { hr.cur.mono hx with
    env:=fun i v hv=>by
     rw [XaT] at hv
     split at hv
     ·rename_i hi;subst hi;cases hv
      obtain ⟨v',a,b⟩:=hr.cur.env t _ he
      exact ⟨v',a,(VR.ofNil b _ _).mono hx⟩
     ·exact (hr.cur.env.mono hx) i v hv }
 obtain ⟨ρ',rv,fr',w',v,H',top',h1,h2,h3,h4,h5,h6,h7⟩:=h.get w0 U _ rf rfs w cs ⟨hcur,hr.up.mono (fun _ _ x=>x.mono hx),Xif hr.heap⟩
 exact ⟨ρ',rv,fr',w',v,H',top',h1,h2,h3,h4,h5,fun i l hi hl=>h6 i l hi (hx _ _ hl),h7⟩
theorem XaD.nilC {P:Program} {f base s:Nat} {fr:Xbi} {up:List Xbi} {H:Hp} {top:Nat} {R:Value→Hp→Nat→Prop} (b i sz:Nat) {cs:List Value}
 (h:XaD P f base ⟨fr,up,Xeo (Xeo H b (.cells (cs.set i (.slice (some ⟨top,0,none⟩) 0 sz)))) top (.row true []),top+1⟩ R) (hb:Xar H b=some (.cells cs):=by rfl) (hi:cs[i]?=some (.slice none 0 s):=by rfl) :
 XaD P f base ⟨fr,up,H,top⟩ R:=by
 refine ⟨fun w0 U ρ rf rfs w cs' hr=>?_⟩
 have hx:=Ext.upd (l:=⟨0,0,0⟩) hr.heap.XlP
 have hp:HpR P w0 (.of U) ρ (Xeo H b (.cells (cs.set i (.slice (some ⟨top,0,none⟩) 0 sz)))) top w:=
  { hr.heap with
    obj:=fun j o ho=>by
     rw [XaT] at ho
     split at ho
     ·rename_i hj;subst hj;cases ho
      obtain ⟨l,hl,hc,hw⟩:=hr.heap.obj b _ hb
      refine ⟨l,hl,?_,fun _=>hw rfl⟩
      obtain ⟨g1,g2,g3⟩:=(hc:Xa5 ρ w l true cs)
      refine ⟨by simpa using g1,fun k v hv=>?_,g3⟩
      rw [List.getElem?_set] at hv
      split at hv
      ·rename_i hk;subst hk
       split at hv
       ·cases hv
        obtain ⟨v',a,b'⟩:=g2 i _ hi
        exact ⟨v',a,VR.ofNil b' _ _⟩
       ·cases hv
      ·exact g2 k v hv
     ·exact hr.heap.obj j o ho
    dis:=fun j k oj ok lj lk hjk hj hk hlj hlk hw=>by
     have key:∀ j o,Xar (Xeo H b (.cells (cs.set i (.slice (some ⟨top,0,none⟩) 0 sz)))) j=some o→∃ o',Xar H j=some o'∧(writable o=true→writable o'=true):=fun j o ho=>by
      rw [XaT] at ho
      split at ho
      ·rename_i hj;subst hj;exact ⟨_,hb,fun _=>rfl⟩
      ·exact ⟨o,ho,id⟩
     obtain ⟨oj',a1,a2⟩:=key j oj hj
     obtain ⟨ok',b1,_⟩:=key k ok hk
     exact hr.heap.dis j k oj' ok' lj lk hjk a1 b1 hlj hlk (a2 hw) }
 obtain ⟨ρ',rv,fr',w',v,H',top',h1,h2,h3,h4,h5,h6,h7⟩:=h.get w0 U _ rf rfs w cs' ⟨hr.cur.mono hx,hr.up.mono (fun _ _ x=>x.mono hx),Xif hp⟩
 exact ⟨ρ',rv,fr',w',v,H',top',h1,h2,h3,h4,h5,fun i l hi hl=>h6 i l hi (hx _ _ hl),h7⟩
mutual
inductive Nv (j:Nat):Value→Value→Prop
 | same (v):Nv j v v
 | nil (s sz):Nv j (.slice none 0 s) (.slice (some ⟨j,0,none⟩) 0 sz)
 | tup {a b:List Value} (h:NvL j a b):Nv j (.tuple ⟨a⟩) (.tuple ⟨b⟩)
 | agg {a b:List Value} (h:NvL j a b):Nv j (.agg ⟨a⟩) (.agg ⟨b⟩)
inductive NvL (j:Nat):List Value→List Value→Prop
 | nil:NvL j [] []
 | cons {v v':Value} {l l':List Value} (h:Nv j v v') (t:NvL j l l'):NvL j (v::l) (v'::l')
end
mutual
theorem Nv.vr {j:Nat} {ρ:Ren}:∀ {v v':Value},Nv j v v'→∀ {rv:Value},VR ρ v rv→VR ρ v' rv
 | _,_,.same v,_,h=>h
 | _,_,.nil s sz,_,h=>VR.ofNil h _ _
 | _,_,.tup hl,_,h=>by cases h with|tuple ht=>exact .tuple (NvL.vr hl ht)
 | _,_,.agg hl,_,h=>by cases h with|agg ht=>exact .agg (NvL.vr hl ht)
theorem NvL.vr {j:Nat} {ρ:Ren}:∀ {l l':List Value},NvL j l l'→∀ {rl:List Value},VRL ρ l rl→VRL ρ l' rl
 | _,_,.nil,_,h=>h
 | _,_,.cons hv ht,_,h=>by cases h with|cons a b=>exact .cons (Nv.vr hv a) (NvL.vr ht b)
end
end Go.Vm
namespace Go.Vm
theorem Xu6 {A B C D:Prop} [Decidable (A∧B∧C∧D)] {p q:Bool} (a:A) (b:B) (c:C) (d:D) (e:p=true) (g:q=true):(decide (A∧B∧C∧D)&&p&&q)=true:=by
 rw [decide_eq_true ⟨a,b,c,d⟩,e,g];rfl
end Go.Vm
namespace Go.Vm
open Go Go.RowKit
def XpP (o:Xbk) (K:Xbk→Prop):Prop:=
 match o with
 | .cells cs=>Xj1 cs fun cs=>K (.cells cs)
 | .row own cs=>Xj1 cs fun cs=>K (.row own cs)
 | .ty t cs=>K (.ty t cs)
 | .siter s p=>K (.siter s p)
 | .loop l=>K (.loop l)
 | .marks=>K .marks
theorem XrX (o:Xbk) (K:Xbk→Prop):XpP o K=K o:=by
 cases o<;>simp only [XpP,Xic]
def Xly (bs:List Nat) (h:Hp) (K:Hp→Prop):Prop:=
 match h with
 | []=>K []
 | (i,o)::l=>cond (XA8 i bs) (XpP o fun o=>Xly bs l fun l=>K ((i,o)::l)) (Xvv o fun o=>Xly bs l fun l=>K ((i,o)::l))
theorem Xlw (bs:List Nat):∀ (h:Hp) (K:Hp→Prop),Xly bs h K=K h
 | [],K=>rfl
 | (i,o)::l,K=>by
   rw [Xly]
   cases XA8 i bs
   ·rw [cond_false,Xpu,Xlw bs l]
   ·rw [cond_true,XrX,Xlw bs l]
theorem XaH.Xbb {s:Xbp} {vals:List Value} {h:Hp} {top:Nat} {K:Value→Hp→Nat→Prop} {v:Value} {h':Hp} {top':Nat} (bs:List Nat) (e:XgF s vals h top=some (v,h',top')) (k:XgG v fun v=>Xly bs h' fun h'=>K v h' top'):XaH s vals h top K:=
 XaH.intro e (by simpa only [Xe3,Xlw] using k)
end Go.Vm
namespace Go.Vm
open Go Go.RowKit
inductive XsM:Value→Hp→Nat→Value→Hp→Nat→Prop
 | refl (v:Value) (H:Hp) (t:Nat):XsM v H t v H t
 | val {v v' v2:Value} {H H2:Hp} {t t2:Nat} (h:Nv t v v') (k:XsM v' (Xeo H t (.row true [])) (t+1) v2 H2 t2):XsM v H t v2 H2 t2
 | cell {v v2:Value} {H H2:Hp} {t t2 s:Nat} (b i sz:Nat) {cs:List Value} (hb:Xar H b=some (.cells cs)) (hi:cs[i]?=some (.slice none 0 s)) (k:XsM v (Xeo (Xeo H b (.cells (cs.set i (.slice (some ⟨t,0,none⟩) 0 sz)))) t (.row true [])) (t+1) v2 H2 t2):XsM v H t v2 H2 t2
theorem XCr {P:Program} {w0:World} {U:UG} {ρ:Ren} {H:Hp} {top s:Nat} {w:World} (h:HpR P w0 U ρ H top w) {b i:Nat} (sz:Nat) {cs:List Value} (hb:Xar H b=some (.cells cs)) (hi:cs[i]?=some (.slice none 0 s)):HpR P w0 U ρ (Xeo H b (.cells (cs.set i (.slice (some ⟨top,0,none⟩) 0 sz)))) top w:=
 { h with
   obj:=fun j o ho=>by
    rw [XaT] at ho
    split at ho
    ·rename_i hj;subst hj;cases ho
     obtain ⟨l,hl,hc,hw⟩:=h.obj b _ hb
     refine ⟨l,hl,?_,fun _=>hw rfl⟩
     obtain ⟨g1,g2,g3⟩:=(hc:Xa5 ρ w l true cs)
     refine ⟨by simpa using g1,fun k v hv=>?_,g3⟩
     rw [List.getElem?_set] at hv
     split at hv
     ·rename_i hk;subst hk
      split at hv
      ·cases hv
       obtain ⟨v',a,b'⟩:=g2 i _ hi
       exact ⟨v',a,VR.ofNil b' _ _⟩
      ·cases hv
     ·exact g2 k v hv
    ·exact h.obj j o ho
   dis:=fun j k oj ok lj lk hjk hj hk hlj hlk hw=>by
    have key:∀ j o,Xar (Xeo H b (.cells (cs.set i (.slice (some ⟨top,0,none⟩) 0 sz)))) j=some o→∃ o',Xar H j=some o'∧(writable o=true→writable o'=true):=fun j o ho=>by
     rw [XaT] at ho
     split at ho
     ·rename_i hj;subst hj;exact ⟨_,hb,fun _=>rfl⟩
     ·exact ⟨o,ho,id⟩
    obtain ⟨oj',a1,a2⟩:=key j oj hj
    obtain ⟨ok',b1,_⟩:=key k ok hk
    exact h.dis j k oj' ok' lj lk hjk a1 b1 hlj hlk (a2 hw) }
theorem XsM.ok {P:Program} {w0:World} {U:Nat→Nat→Prop} {v v2 rv:Value} {H H2:Hp} {t t2:Nat} (k:XsM v H t v2 H2 t2):∀ {ρ:Ren} {w:World},VR ρ v rv→HpR P w0 (.of U) ρ H t w→∃ ρ',Ext ρ ρ'∧VR ρ' v2 rv∧HpR P w0 (.of U) ρ' H2 t2 w:=by
 induction k with
 | refl=>intro ρ w h1 h2;exact ⟨ρ,Ext.refl ρ,h1,h2⟩
 | val h k ih=>
   intro ρ w h1 h2
   have hx:=Ext.upd (l:=⟨0,0,0⟩) h2.XlP
   obtain ⟨ρ',e1,e2,e3⟩:=ih ((h.vr h1).mono hx) (Xif h2)
   exact ⟨ρ',hx.trans e1,e2,e3⟩
 | cell b i sz hb hi k ih=>
   intro ρ w h1 h2
   have hx:=Ext.upd (l:=⟨0,0,0⟩) h2.XlP
   obtain ⟨ρ',e1,e2,e3⟩:=ih (h1.mono hx) (Xif (XCr h2 sz hb hi))
   exact ⟨ρ',hx.trans e1,e2,e3⟩
theorem XaD.nilW {P:Program} {f base:Nat} {vm:VM} {R:Value→Hp→Prop} (h:XaD P f base vm (fun v H t=>∃ v' H' t',XsM v H t v' H' t'∧R v' H')):XaD P f base vm (fun v H _=>R v H):=by
 refine ⟨fun w0 U ρ rf rfs w cs hr=>?_⟩
 obtain ⟨ρ',rv,fr',w',v,H',top',h1,h2,h3,h4,h5,h6,v2,H2,t2,hk,h7⟩:=h.get w0 U ρ rf rfs w cs hr
 obtain ⟨ρ2,e1,e2,e3⟩:=hk.ok h4 h5
 exact ⟨ρ2,rv,fr',w',v2,H2,t2,h1,h2,h3,e2,e3,fun i l hi hl=>e1 _ _ (h6 i l hi hl),h7⟩
end Go.Vm
namespace Go.Vm
end Go.Vm
namespace Go.Vm
open Go Go.RowKit
@[simp] theorem XCE (l:List UInt8):(ofBytes l).length=l.length:=by simp [ofBytes]
theorem ix_T {α:Type} {f:α→List Value} {c:Nat} {xs:List α} {i:Int} {n sz:Nat} {x:α} {K:List Value→Prop} (hf:∀ x,(f x).length=c) (hb:decide (0≤i∧i<(n:Int))=true) (hx:xs[i.toNat]?=some x) (hn:n=xs.length) (hs:sz=c) (h:Xj1 (f x) K) :
 req (decide (0≤i∧i<(n:Int)∧i.toNat*sz+sz≤(vT f xs).length)) (rdN (vT f xs) (i.toNat*sz) sz K):=by
 subst hn hs
 have h0:=of_decide_eq_true hb
 have:=(ld_T hf hx rfl rfl h).elim
 exact req.intro (decide_eq_true ⟨h0.1,h0.2,of_decide_eq_true this.1⟩) this.2
theorem pk_us {xs:List Int} {n:Nat} {K:List UInt8→Prop} (h:K (iB xs)) (hn:xs.length≤n:=by first|exact Nat.le_refl _|omega|(simp;done)|(simp;omega)):∃ bs,XeU ((vI .u8 xs).take n)=some bs∧K bs:=
 ⟨_,by rw [List.take_of_length_le (by simpa using hn)];exact Xlz _,h⟩
theorem XMV {A B C D:Prop} [Decidable (A∧B∧C∧D)] (a:A) (b:B) (c:C) (d:D):decide (A∧B∧C∧D)=true:=decide_eq_true ⟨a,b,c,d⟩
theorem XwE {A B C D:Prop} [Decidable (A∧B∧C∧D)] (a:A) (b:B) (c:C) (d:D):decide (A∧B∧C∧D)=true:=decide_eq_true ⟨a,b,c,d⟩
theorem XJJ {A B C D E:Prop} [Decidable (A∧B∧C∧D∧E)] {p q:Bool} (a:A) (b:B) (c:C) (d:D) (e:E) (f:p=true) (g:q=true):(decide (A∧B∧C∧D∧E)&&p&&q)=true:=by
 rw [decide_eq_true ⟨a,b,c,d,e⟩,f,g];rfl
theorem XRO {new:List Value} {xs:List Int} {n m:Nat} {ys:List Int} {K:List Value→Nat→Prop} (e:new=vI .u8 ys) (hc:n=xs.length) (hn:n+m=(xs++ys).length) (h:K (vI .u8 (xs++ys)) (xs++ys).length) :
 ∃ cs' n',(vI .u8 xs).take n++new=cs'∧n+m=n'∧K cs' n':=
 ⟨_,_,by rw [List.take_of_length_le (by simp [hc]),e,XAz],hn,h⟩
theorem XmA {b:Bool}:asB (.bool b)=some b:=rfl
theorem XcI (k:IntKind) {n:Int}:asI k (.int k n)=some n:=by simp [asI]
theorem XdL {s:List UInt8}:asS (.string ⟨⟨s⟩⟩)=some s:=rfl
def XHg (i:Nat) (a b:Dec):Dec:=fun vs cs=>match vs[i]? with
 | some (.pointer none)=>b vs cs
 | _=>a vs cs
theorem XHg.elim {i:Nat} {a b:Dec} {vs:List Value} {cs:List (Option (List Value))} {r:Xco} (h:XHg i a b vs cs=some r):a vs cs=some r∨b vs cs=some r:=by
 unfold XHg at h
 split at h
 ·exact .inr h
 ·exact .inl h
theorem XeY {H:Hp} {s:Nat→Option Nat}:XpV H s [] []:=trivial
theorem Xsq {H:Hp} {s:Nat→Option Nat} {j:Nat} {js:List Nat} {c c':List Value} {cs:List (List Value)} (e:XdN.renL s c=some c') (h:Has H j c') (t:XpV H s js cs):XpV H s (j::js) (c::cs):=⟨⟨_,e,h⟩,t⟩
theorem XeZ {n:Nat} {wr:List (Option (List Value))}:XLt n wr []:=trivial
theorem Xsp {n j:Nat} {wr:List (Option (List Value))} {js:List Nat} (h:n≤j) (t:XLt n wr js):XLt n wr (j::js):=⟨.inl h,t⟩
theorem XeX {H:Hp} {s:Nat→Option Nat} {k:Nat}:Xwh H s k []:=trivial
theorem XkV {H:Hp} {s:Nat→Option Nat} {k:Nat} {l:List (Option (List Value))} (t:Xwh H s (k+1) l):Xwh H s k (none::l):=t
theorem XlZ {H:Hp} {s:Nat→Option Nat} {k:Nat} {c c':List Value} {l:List (Option (List Value))} (e:XdN.renL s c=some c') (h:Has H k c') (t:Xwh H s (k+1) l):Xwh H s k (some c::l):=⟨⟨_,e,h⟩,t⟩
theorem Res.flat {n:Nat} {r:Xco} {v':Value} {H':Hp} {b:Bool} (e:r.v=.bool b) (_:r.new=[]) (h:Res n r v' H'):v'=.bool b:=by
 obtain ⟨js,h1,h2,-⟩:=h.ex
 rw [e] at h1
 cases h1;rfl
theorem XaH.q {s:Xbp} {vals:List Value} {h:Hp} {top:Nat} {K:Value→Hp→Nat→Prop} {r:Xco} {v':Value} (e1:XcH h 0 s.modes vals=some (vals,[])) (ew:XiS h s.modes vals=[]) (e2:s.run vals []=some r) (hn:r.new=[]) (hw:r.wr=[]) (e6:XdN (XuV top 0 []) r.v=some v')
 (k:XgG v' fun v=>Xly [] h fun h'=>K v h' top):XaH s vals h top K:=by
 refine XaH.Xbb [] (Xat (n:=0) (m:=0) (t':=top) e1 ew rfl e2 rfl (by rw [hn];rfl) rfl rfl (by rw [hw];exact Xbc) (by rw [hn];exact Xba) e6) k
theorem Xdg {α:Type} {o:Option α} {f:α→Xco} {vs:List Value} {cs:List (Option (List Value))} {r:Xco} (h:Xc5 (ofG o f) vs cs=some r):vs=[]∧cs=[]∧∃ x,o=some x∧f x=r:=by
 obtain ⟨a,b,c⟩:=Xc5.elim h
 exact ⟨a,b,ofG.elim c⟩
theorem Res.z {n:Nat} {r:Xco} {v':Value} {H':Hp} (e1:XdN (XsK [] n) r.v=some v') (e2:r.new=[]) (e3:r.wr=[]):Res n r v' H':=
 Res.of [] e1 (by rw [e2];exact XeY) (by decide) XeZ (by rw [e3];exact XeX)
end Go.Vm
namespace Go.Vm
open Go Go.RowKit
section
variable {α:Type} {f:α→List Value} {c:Nat}
end
end Go.Vm
namespace Go.Vm
end Go.Vm
namespace Go.Vm
open Go
theorem XcC {n:Int} (h1:-9223372036854775808≤n) (h2:n<9223372036854775808):wI .i64 n=n:=by
 show IntKind.wrap .i64 n=n;rw [IntKind.wrap_i64];omega
theorem XhB {n:Int} (h1:0≤n) (h2:n<18446744073709551616):wI .u64 n=n:=by
 show IntKind.wrap .u64 n=n
 simp only [IntKind.wrap,IntKind.bits,IntKind.signed];simp;omega
theorem XyC {n:Int} (h1:0≤n) (h2:n<4294967296):wI .u32 n=n:=by
 show IntKind.wrap .u32 n=n
 simp only [IntKind.wrap,IntKind.bits,IntKind.signed];simp;omega
theorem wU8 {n:Int} (h1:0≤n) (h2:n<256):wI .u8 n=n:=by
 show IntKind.wrap .u8 n=n
 simp only [IntKind.wrap,IntKind.bits,IntKind.signed];simp;omega
theorem wU64m (n:Int):wI .u64 n=n%18446744073709551616:=by
 show IntKind.wrap .u64 n=_
 simp only [IntKind.wrap,IntKind.bits,IntKind.signed];simp
theorem wU32m (n:Int):wI .u32 n=n%4294967296:=by
 show IntKind.wrap .u32 n=_
 simp only [IntKind.wrap,IntKind.bits,IntKind.signed];simp
theorem wU8m (n:Int):wI .u8 n=n%256:=by
 show IntKind.wrap .u8 n=_
 simp only [IntKind.wrap,IntKind.bits,IntKind.signed];simp
theorem XFP {n:Nat} (h:n<18446744073709551616):(BitVec.ofInt 64 (n:Int)).toNat=n:=by
 rw [BitVec.toNat_ofInt];omega
theorem X3h {a b:Nat} (ha:a<9223372036854775808) (hb:b<9223372036854775808):XjJ .i64 (a:Int) (b:Int)=((a &&& b:Nat):Int):=by
 have h:a &&& b≤a:=Nat.and_le_left
 show IntKind.wrap .i64 _=_
 rw [show IntKind.bits .i64=64 from rfl,BitVec.toNat_and,XFP (by omega),XFP (by omega)]
 exact XcC (by omega) (by omega)
theorem XTy {a b:Nat} (ha:a<9223372036854775808) (hb:b<9223372036854775808):Xkl .i64 (a:Int) (b:Int)=((a ||| b:Nat):Int):=by
 have h:a ||| b<2^63:=Nat.or_lt_two_pow (by omega) (by omega)
 show IntKind.wrap .i64 _=_
 rw [show IntKind.bits .i64=64 from rfl,BitVec.toNat_or,XFP (by omega),XFP (by omega)]
 exact XcC (by omega) (by omega)
theorem XUe {a b:Nat} (ha:a<18446744073709551616) (hb:b<18446744073709551616):Xkl .u64 (a:Int) (b:Int)=((a ||| b:Nat):Int):=by
 have h:a ||| b<2^64:=Nat.or_lt_two_pow (by omega) (by omega)
 show IntKind.wrap .u64 _=_
 rw [show IntKind.bits .u64=64 from rfl,BitVec.toNat_or,XFP (by omega),XFP (by omega)]
 exact XhB (by omega) (by omega)
theorem XyI (a k:Nat):a &&& (2^k - 1)=a%2^k:=Nat.and_two_pow_sub_one_eq_mod a k
theorem XzE {a b k:Nat} (hb:b<2^k):(a*2^k) ||| b=a*2^k+b:=by
 rw [Nat.mul_comm];exact (Nat.two_pow_add_eq_or_of_lt hb a).symm
theorem Xhm (k:Nat) {a m:Int} (hm:m=2^k - 1) (hk:k≤62) (h0:0≤a) (h1:a<9223372036854775808):XjJ .i64 a m=a%2^k:=by
 obtain ⟨n,rfl⟩:=Int.eq_ofNat_of_zero_le h0
 have hp:2^k≤2^62:=Nat.pow_le_pow_right (by decide) hk
 have hp1:1≤2^k:=Nat.one_le_two_pow
 have:m=((2^k - 1:Nat):Int):=by rw [hm];push_cast [hp1];rfl
 rw [this,X3h (by omega) (by omega),XyI];push_cast;rfl
theorem Xm7 (k:Nat) {a b:Int} (h0:0≤a) (h1:a*2^k<9223372036854775808) (hb0:0≤b) (hb:b<2^k) (hb1:b<9223372036854775808):Xkl .i64 (a*2^k) b=a*2^k+b:=by
 obtain ⟨n,rfl⟩:=Int.eq_ofNat_of_zero_le h0
 obtain ⟨m,rfl⟩:=Int.eq_ofNat_of_zero_le hb0
 have e:((n:Int)*2^k)=((n*2^k:Nat):Int):=by push_cast;rfl
 rw [e] at h1 ⊢
 rw [XTy (by omega) (by omega),XzE (by exact_mod_cast hb)];push_cast;rfl
theorem Xg8 (k:Nat) {a b:Int} (h0:0≤a) (h1:a*2^k<18446744073709551616) (hb0:0≤b) (hb:b<2^k) (hb1:b<18446744073709551616):Xkl .u64 (a*2^k) b=a*2^k+b:=by
 obtain ⟨n,rfl⟩:=Int.eq_ofNat_of_zero_le h0
 obtain ⟨m,rfl⟩:=Int.eq_ofNat_of_zero_le hb0
 have e:((n:Int)*2^k)=((n*2^k:Nat):Int):=by push_cast;rfl
 rw [e] at h1 ⊢
 rw [XUe (by omega) (by omega),XzE (by exact_mod_cast hb)];push_cast;rfl
theorem XoP (a:Int) (k:Nat):a.fdiv (2^k)=a/2^k:=Int.fdiv_eq_ediv_of_nonneg a (Int.le_of_lt (Int.pow_pos (by decide)))
theorem Xaz {α:Type} {p:Prop} [Decidable p] {x:Option α} (h:p):XaK (decide p) x=x:=XaK.mk (decide_eq_true h)
theorem XaV {α:Type} {p:Prop} [Decidable p] {x y:α} (h:p):cond (decide p) x y=x:=by rw [decide_eq_true h,cond_true]
theorem XaM {α:Type} {p:Prop} [Decidable p] {x y:α} (h:¬ p):cond (decide p) x y=y:=by rw [decide_eq_false h,cond_false]
theorem XiC {α:Type} {p:Prop} [Decidable p] {x y:α}:cond (decide p) x y=if p then x else y:=by
 by_cases h:p<;>simp [h]
theorem iter_eq {σ ρ:Type} {step:σ→Option (Sum σ ρ)} (F:σ→ρ) (P:σ→Prop) (μ:σ→Nat)
 (h:∀ s,P s→step s=some (.inr (F s))∨∃ s',step s=some (.inl s')∧P s'∧μ s'<μ s∧F s'=F s):∀ n s,P s→μ s<n→iter step n s=some (F s)
 | 0,s,hp,hn=>by omega
 | n+1,s,hp,hn=>by
   rw [iter]
   rcases h s hp with e|⟨s',e,hp',hm,hf⟩
   ·rw [e]
   ·rw [e];exact hf▸iter_eq F P μ h n s' hp' (by omega)
theorem XeT:FUEL=18446744073709551616:=rfl
end Go.Vm
namespace Go.Vm.Code
open Go Go.Vm Go.Proofs
def τ0:Operand:=.tmp 0
def τ1:Operand:=.tmp 1
def τ2:Operand:=.tmp 2
def τ3:Operand:=.tmp 3
def τ4:Operand:=.tmp 4
def τ5:Operand:=.tmp 5
def τ6:Operand:=.tmp 6
def τ7:Operand:=.tmp 7
def τ8:Operand:=.tmp 8
def τ9:Operand:=.tmp 9
def Xcd:Operand:=.tmp 10
def Xb7:Operand:=.tmp 11
def XcZ:Operand:=.tmp 12
def Xc0:Operand:=.tmp 13
def Xdo:Operand:=.tmp 14
def Xdm:Operand:=.tmp 15
def Xdp:Operand:=.tmp 16
def Xdn:Operand:=.tmp 17
def XdW:Operand:=.tmp 18
def XdM:Operand:=.tmp 19
def Xea:Operand:=.tmp 20
def Xeh:Operand:=.tmp 21
def XeF:Operand:=.tmp 22
def XeO:Operand:=.tmp 23
def XeB:Operand:=.tmp 24
def XeW:Operand:=.tmp 25
def Xeq:Operand:=.tmp 26
def XeV:Operand:=.tmp 27
def XeP:Operand:=.tmp 28
def Xe4:Operand:=.tmp 29
def Xfz:Operand:=.tmp 30
def Xfv:Operand:=.tmp 31
def XfB:Operand:=.tmp 32
def XfC:Operand:=.tmp 33
def XfE:Operand:=.tmp 34
def XfJ:Operand:=.tmp 35
def XfV:Operand:=.tmp 36
def XfA:Operand:=.tmp 37
def XgL:Operand:=.tmp 38
def XgH:Operand:=.tmp 39
def Xhx:Operand:=.tmp 40
def Xht:Operand:=.tmp 41
def Xhs:Operand:=.tmp 42
def Xhz:Operand:=.tmp 43
def Xh4:Operand:=.tmp 44
def XhP:Operand:=.tmp 45
def Xin:Operand:=.tmp 46
def Xh7:Operand:=.tmp 47
def XiP:Operand:=.tmp 48
def XiL:Operand:=.tmp 49
def XiR:Operand:=.tmp 50
def XiQ:Operand:=.tmp 51
def XjM:Operand:=.tmp 52
def XjZ:Operand:=.tmp 53
def Xk1:Operand:=.tmp 54
def XkZ:Operand:=.tmp 55
def Xk7:Operand:=.tmp 56
def XkP:Operand:=.tmp 57
def XkW:Operand:=.tmp 58
def Xlf:Operand:=.tmp 59
def XlW:Operand:=.tmp 60
def Xl9:Operand:=.tmp 61
def XmV:Operand:=.tmp 62
def Xox:Operand:=.tmp 63
def Xoh:Operand:=.tmp 64
def XoD:Operand:=.tmp 65
def XoJ:Operand:=.tmp 66
def XoF:Operand:=.tmp 67
def Xo6:Operand:=.tmp 68
def XoS:Operand:=.tmp 69
def XqW:Operand:=.tmp 70
def Xrk:Operand:=.tmp 71
def Xrb:Operand:=.tmp 72
def XsD:Operand:=.tmp 73
def Xtu:Operand:=.tmp 74
def Xs2:Operand:=.tmp 75
def Xwf:Operand:=.tmp 76
def Xuj:Operand:=.tmp 77
def Xv5:Operand:=.tmp 78
def XxI:Operand:=.tmp 79
def XvY:Operand:=.tmp 80
def Xyd:Operand:=.tmp 81
def XBF:Operand:=.tmp 82
def XvW:Operand:=.tmp 83
def Xzu:Operand:=.tmp 84
def XCC:Operand:=.tmp 85
def XGk:Operand:=.tmp 86
def XF8:Operand:=.tmp 87
def XJu:Operand:=.tmp 88
def XzO:Operand:=.tmp 89
def XDi:Operand:=.tmp 90
def XKT:Operand:=.tmp 91
def XDH:Operand:=.tmp 92
def XFH:Operand:=.tmp 93
def XIA:Operand:=.tmp 94
def XKu:Operand:=.tmp 95
def XCd:Operand:=.tmp 96
def XLp:Operand:=.tmp 97
def τ98:Operand:=.tmp 98
def τ99:Operand:=.tmp 99
def XKf:Operand:=.tmp 100
def XEZ:Operand:=.tmp 101
def XOw:Operand:=.tmp 102
def X2y:Operand:=.tmp 103
def X24:Operand:=.tmp 104
def XSC:Operand:=.tmp 105
def XZN:Operand:=.tmp 106
def XSS:Operand:=.tmp 107
def XZe:Operand:=.tmp 108
def XZa:Operand:=.tmp 109
def XNP:Operand:=.tmp 110
def XwT:Operand:=.tmp 111
def XW1:Operand:=.tmp 112
def XNY:Operand:=.tmp 113
def X2c:Operand:=.tmp 114
def XNG:Operand:=.tmp 115
def X5S:Operand:=.tmp 116
def X4V:Operand:=.tmp 117
def X3E:Operand:=.tmp 118
def XQ3:Operand:=.tmp 119
def XV3:Operand:=.tmp 120
def X2J:Operand:=.tmp 121
def XYn:Operand:=.tmp 122
def X53:Operand:=.tmp 123
def XOg:Operand:=.tmp 124
def X7A:Operand:=.tmp 125
def XZn:Operand:=.tmp 126
def XMX:Operand:=.tmp 127
def X5q:Operand:=.tmp 128
def XYC:Operand:=.tmp 129
def XWW:Operand:=.tmp 130
def X7n:Operand:=.tmp 131
def X0H:Operand:=.tmp 132
def X3x:Operand:=.tmp 133
def XX6:Operand:=.tmp 134
def XPx:Operand:=.tmp 135
def XLM:Operand:=.tmp 136
def XW8:Operand:=.tmp 137
def XZP:Operand:=.tmp 138
def X6g:Operand:=.tmp 139
def XWK:Operand:=.tmp 140
def XPU:Operand:=.tmp 141
def XDx:Operand:=.tmp 142
def XC9:Operand:=.tmp 143
def X56:Operand:=.tmp 144
def XXE:Operand:=.tmp 145
def XMl:Operand:=.tmp 146
def X2o:Operand:=.tmp 147
def X31:Operand:=.tmp 148
def XNK:Operand:=.tmp 149
def X2S:Operand:=.tmp 150
def X0i:Operand:=.tmp 151
def XP3:Operand:=.tmp 152
def XMw:Operand:=.tmp 153
def XQD:Operand:=.tmp 154
def X2z:Operand:=.tmp 155
def XGd:Operand:=.tmp 156
def X7w:Operand:=.tmp 157
def X4n:Operand:=.tmp 158
def XTH:Operand:=.tmp 159
def X43:Operand:=.tmp 160
def XKD:Operand:=.tmp 161
def τ162:Operand:=.tmp 162
def τ163:Operand:=.tmp 163
def τ164:Operand:=.tmp 164
def τ165:Operand:=.tmp 165
def τ166:Operand:=.tmp 166
def τ167:Operand:=.tmp 167
def τ168:Operand:=.tmp 168
def τ169:Operand:=.tmp 169
def τ170:Operand:=.tmp 170
def τ171:Operand:=.tmp 171
def τ172:Operand:=.tmp 172
def τ173:Operand:=.tmp 173
def τ174:Operand:=.tmp 174
def τ175:Operand:=.tmp 175
def τ176:Operand:=.tmp 176
def τ177:Operand:=.tmp 177
def τ178:Operand:=.tmp 178
def τ179:Operand:=.tmp 179
def τ180:Operand:=.tmp 180
def τ181:Operand:=.tmp 181
def τ182:Operand:=.tmp 182
def τ183:Operand:=.tmp 183
def τ184:Operand:=.tmp 184
def τ185:Operand:=.tmp 185
def τ186:Operand:=.tmp 186
def τ187:Operand:=.tmp 187
def τ188:Operand:=.tmp 188
def τ189:Operand:=.tmp 189
def τ190:Operand:=.tmp 190
def τ191:Operand:=.tmp 191
def τ192:Operand:=.tmp 192
def τ193:Operand:=.tmp 193
def τ194:Operand:=.tmp 194
def τ195:Operand:=.tmp 195
def τ196:Operand:=.tmp 196
def XXc:Operand:=.tmp 197
def τ198:Operand:=.tmp 198
def τ199:Operand:=.tmp 199
def τ200:Operand:=.tmp 200
def τ201:Operand:=.tmp 201
def τ202:Operand:=.tmp 202
def τ203:Operand:=.tmp 203
def τ204:Operand:=.tmp 204
def τ205:Operand:=.tmp 205
def τ206:Operand:=.tmp 206
def τ207:Operand:=.tmp 207
def τ208:Operand:=.tmp 208
def τ209:Operand:=.tmp 209
def τ210:Operand:=.tmp 210
def τ211:Operand:=.tmp 211
def τ212:Operand:=.tmp 212
def τ213:Operand:=.tmp 213
def τ214:Operand:=.tmp 214
def τ215:Operand:=.tmp 215
def τ216:Operand:=.tmp 216
def τ217:Operand:=.tmp 217
def τ218:Operand:=.tmp 218
def τ219:Operand:=.tmp 219
def τ220:Operand:=.tmp 220
def τ221:Operand:=.tmp 221
def τ222:Operand:=.tmp 222
def τ223:Operand:=.tmp 223
def τ224:Operand:=.tmp 224
def τ225:Operand:=.tmp 225
def τ226:Operand:=.tmp 226
def τ227:Operand:=.tmp 227
def τ228:Operand:=.tmp 228
def oD (n:Nat) (o:VOp):Xb2:=⟨some n,o,none⟩
def oN (o:VOp):Xb2:=⟨none,o,none⟩
def oM (n:Nat) (x:Operand):Xb2:=⟨some n,.mv x,none⟩
def oG (n:Nat) (o:VOp) (j:Nat) (b:Bool):Xb2:=⟨some n,o,some (j,b)⟩
def oE (n i:Nat) (x:Operand):Xb2:=⟨some n,.extract i x,none⟩
def k3_0:VC:=.reg [oD 12 (.mv (.const (.bool false)))]
def k3_1:VC:=.reg [oM 18 τ0,oD 19 (.lenS XdW),oD 20 (.bin .gtr XdM (.const (.int .i64 1000))),oM 21 Xea,oG 22 (.mv τ5) 21 false,oG 23 (.lenL XeF) 21 false,oG 24 (.bin .gtr XeO (.const (.int .i64 20))) 21 false,oD 25 (.pick Xeh (.const (.bool true)) XeB)]
def k3_2:VC:=.reg [oD 26 (.callF 5 []),oM 12 Xeq]
def k3_3:VC:=.seq k3_2 .ret
def k3_4:VC:=.cond XeW k3_3 .skip
def k3_5:VC:=.seq k3_1 k3_4
def k3_6:VC:=.reg [oM 28 τ0,oM 29 τ1,oM 30 τ2,oD 31 (.callF 6 [XeP,Xe4,Xfz]),oM 27 Xfv,oE 32 0 XeV,oE 33 1 XeV,oM 13 XfB,oM 14 XfC]
def k3_7:VC:=.reg [oM 35 τ0,oM 36 τ1,oM 37 τ2,oD 38 (.callF 7 [XfJ,XfV,XfA]),oM 34 XgL,oE 39 0 XfE,oE 40 1 XfE,oM 15 XgH,oM 16 Xhx]
def k3_8:VC:=.reg [oM 41 τ3,oM 17 Xht]
def k3_9:VC:=.reg [oM 42 τ4,oD 43 (.bin .geq Xhs (.const (.int .i64 576))),oM 44 Xhz,oG 45 (.mv τ4) 44 true,oG 46 (.mv τ3) 44 true,oG 47 (.bin .lss XhP Xin) 44 true,oD 48 (.pick Xh4 Xh7 (.const (.bool false)))]
def k3_10:VC:=.reg [oM 49 τ4,oM 17 XiL]
def k3_11:VC:=.cond XiP k3_10 .skip
def k3_12:VC:=.seq k3_9 k3_11
def k3_13:VC:=.reg [oM 50 τ1,oM 51 τ2,oD 52 (.callF 8 [XiR,XiQ]),oM 53 τ1,oM 54 τ2,oD 55 (.callF 9 [XjZ,Xk1]),oD 56 (.bin .eql XjM XkZ),oM 57 Xk7,oG 58 (.mv τ0) 57 true,oG 59 (.mv τ1) 57 true,oG 60 (.mv τ2) 57 true,oG 61 (.callF 10 [XkW,Xlf,XlW]) 57 true,oG 62 (.mv τ0) 57 true,oG 63 (.lenS XmV) 57 true,oG 64 (.mv τ1) 57 true,oG 65 (.mv τ2) 57 true,oG 66 (.callF 9 [Xoh,XoD]) 57 true,oG 67 (.bin .leq Xox XoJ) 57 true,oG 68 (.eqB false Xl9 XoF) 57 true,oD 69 (.pick XkP Xo6 (.const (.bool false))),oM 70 XoS,oG 71 (.mv Xc0) 70 true,oG 72 (.mv Xdm) 70 true,oG 73 (.bin .eql Xrk Xrb) 70 true,oD 74 (.pick XqW XsD (.const (.bool false))),oM 75 Xtu,oG 76 (.mv Xdo) 75 true,oG 77 (.mv Xdp) 75 true,oG 78 (.bin .eql Xwf Xuj) 75 true,oD 79 (.pick Xs2 Xv5 (.const (.bool false))),oM 80 XxI,oG 81 (.mv τ3) 80 true,oG 82 (.mv τ4) 80 true,oG 83 (.callF 11 [Xyd,XBF]) 80 true,oG 84 (.mv Xdn) 80 true,oG 85 (.bin .eql XvW Xzu) 80 true,oD 86 (.pick XvY XCC (.const (.bool false))),oM 87 XGk,oG 88 (.mv τ5) 87 true,oG 89 (.callF 12 [XJu]) 87 true,oG 90 (.mv τ5) 87 true,oG 91 (.callF 13 [XDi]) 87 true,oG 92 (.bin .eql XzO XKT) 87 true,oD 93 (.pick XF8 XDH (.const (.bool false))),oM 94 XFH,oG 95 (.callF 5 []) 94 true,oD 96 (.pick XIA XKu (.const (.bool false))),oM 12 XCd]
def k3_14:VC:=.seq k3_13 .ret
def k3_15:VC:=.seq k3_12 k3_14
def k3_16:VC:=.seq k3_8 k3_15
def k3_17:VC:=.seq k3_7 k3_16
def k3_18:VC:=.seq k3_6 k3_17
def k3_19:VC:=.seq k3_5 k3_18
def X7i:VC:=.seq k3_0 k3_19
def fn3:VFn:=⟨97,X7i,[.tmp 12]⟩
def k5_0:VC:=.reg [oD 0 (.mv (.const (.bool false)))]
def k5_1:VC:=.reg [oD 1 (.callF 8 [(.const (.int .i64 1500)),(.const (.bool false))]),oD 2 (.bin .eql τ1 (.const (.int .i64 1454))),oM 3 τ2,oG 4 (.callF 8 [(.const (.int .i64 575)),(.const (.bool true))]) 3 true,oG 5 (.bin .eql τ4 (.const (.int .i64 0))) 3 true,oD 6 (.pick τ3 τ5 (.const (.bool false))),oM 7 τ6,oG 8 (.callF 11 [(.const (.int .i64 1500)),(.const (.int .i64 1400))]) 7 true,oG 9 (.bin .eql τ8 (.const (.int .i64 1400))) 7 true,oD 10 (.pick τ7 τ9 (.const (.bool false))),oM 11 Xcd,oG 12 (.callF 12 [(.const (.slice none 0 0))]) 11 true,oG 13 (.bin .eql XcZ (.const (.int .i64 9000))) 11 true,oD 14 (.pick Xb7 Xc0 (.const (.bool false))),oM 15 Xdo,oG 16 (.callF 10 [(.const (.string ⟨⟨[]⟩⟩)),(.const (.int .i64 600)),(.const (.bool true))]) 15 true,oD 17 (.pick Xdm Xdp (.const (.bool false))),oM 0 Xdn]
def k5_2:VC:=.seq k5_1 .ret
def k5_3:VC:=.seq k5_0 k5_2
def fn5:VFn:=⟨18,k5_3,[.tmp 0]⟩
def k8_0:VC:=.reg [oD 4 (.mv (.const (.int .i64 0)))]
def k8_1:VC:=.reg [oM 5 τ0,oD 6 (.callF 23 [τ5]),oD 7 (.not τ6)]
def k8_2:VC:=.reg [oD 4 (.mv (.const (.int .i64 0)))]
def k8_3:VC:=.seq k8_2 .ret
def k8_4:VC:=.cond τ7 k8_3 .skip
def k8_5:VC:=.seq k8_1 k8_4
def k8_6:VC:=.reg [oM 8 τ0,oM 9 τ1,oD 10 (.callF 24 [τ9]),oD 11 (.bin .sub τ8 Xcd),oD 12 (.bin .sub Xb7 (.const (.int .i64 18))),oM 4 XcZ]
def k8_7:VC:=.seq k8_6 .ret
def k8_8:VC:=.seq k8_5 k8_7
def k8_9:VC:=.seq k8_0 k8_8
def fn8:VFn:=⟨13,k8_9,[.tmp 4]⟩
def k23_0:VC:=.reg [oD 2 (.mv (.const (.bool false)))]
def k23_1:VC:=.reg [oM 3 τ0,oD 4 (.callF 28 [τ3,(.const (.int .i64 576)),(.const (.int .i64 9000))]),oM 2 τ4]
def k23_2:VC:=.seq k23_1 .ret
def X2d:VC:=.seq k23_0 k23_2
def fn23:VFn:=⟨5,X2d,[.tmp 2]⟩
def k28_0:VC:=.reg [oD 6 (.mv (.const (.bool false)))]
def k28_1:VC:=.reg [oM 7 τ1,oM 8 τ0,oD 9 (.bin .leq τ7 τ8),oM 10 τ9,oG 11 (.mv τ0) 10 true,oG 12 (.mv τ2) 10 true,oG 13 (.bin .leq Xb7 XcZ) 10 true,oD 14 (.pick Xcd Xc0 (.const (.bool false))),oM 6 Xdo]
def k28_2:VC:=.seq k28_1 .ret
def XQu:VC:=.seq k28_0 k28_2
def fn28:VFn:=⟨15,XQu,[.tmp 6]⟩
def k24_0:VC:=.reg [oD 2 (.mv (.const (.int .i64 0)))]
def k24_1:VC:=.reg [oM 3 τ0]
def k24_2:VC:=.reg [oD 2 (.mv (.const (.int .i64 48)))]
def k24_3:VC:=.seq k24_2 .ret
def k24_4:VC:=.cond τ3 k24_3 .skip
def k24_5:VC:=.seq k24_1 k24_4
def k24_6:VC:=.reg [oD 2 (.mv (.const (.int .i64 28)))]
def k24_7:VC:=.seq k24_6 .ret
def k24_8:VC:=.seq k24_5 k24_7
def XUK:VC:=.seq k24_0 k24_8
def fn24:VFn:=⟨4,XUK,[.tmp 2]⟩
def k11_0:VC:=.reg [oD 4 (.mv (.const (.int .i64 0)))]
def k11_1:VC:=.reg [oM 5 τ1,oM 6 τ0,oD 7 (.callF 28 [τ5,(.const (.int .i64 576)),τ6])]
def k11_2:VC:=.reg [oM 8 τ1,oM 4 τ8]
def k11_3:VC:=.seq k11_2 .ret
def k11_4:VC:=.cond τ7 k11_3 .skip
def k11_5:VC:=.seq k11_1 k11_4
def k11_6:VC:=.reg [oM 9 τ0,oM 4 τ9]
def k11_7:VC:=.seq k11_6 .ret
def k11_8:VC:=.seq k11_5 k11_7
def XRA:VC:=.seq k11_0 k11_8
def fn11:VFn:=⟨10,XRA,[.tmp 4]⟩
def k12_0:VC:=.reg [oD 2 (.mv (.const (.int .i64 0)))]
def k12_1:VC:=.reg [oD 3 (.mv (.const (.int .i64 9000)))]
def k12_2:VC:=.reg [oM 6 τ0,oD 7 (.lenL τ6),oD 8 (.mv (.const (.int .i64 0)))]
def k12_3:VC:=.reg [oD 9 (.bin .lss τ8 τ7)]
def k12_4:VC:=.cond τ9 .skip (.exit 0)
def k12_5:VC:=.reg [oD 10 (.idxAL 1 τ6 τ8),oD 11 (.load1 (.int .i64) Xcd),oM 5 Xb7]
def k12_6:VC:=.reg [oM 12 τ3,oM 13 τ5,oD 14 (.callF 11 [XcZ,Xc0]),oM 3 Xdo]
def k12_7:VC:=.seq k12_5 k12_6
def k12_8:VC:=.block 1 k12_7
def k12_9:VC:=.reg [oD 15 (.bin .add τ8 (.const (.int .i64 1))),oM 8 Xdm]
def XST:VC:=.seq k12_8 k12_9
def XNI:VC:=.seq k12_4 XST
def Xun:VC:=.seq k12_3 XNI
def XOe:VC:=.loop Xun
def XX3:VC:=.block 0 XOe
def XSB:VC:=.seq k12_2 XX3
def XRo:VC:=.reg [oM 16 τ3,oM 2 Xdp]
def XBU:VC:=.seq XRo .ret
def X60:VC:=.seq XSB XBU
def XW6:VC:=.seq k12_1 X60
def XAO:VC:=.seq k12_0 XW6
def fn12:VFn:=⟨17,XAO,[.tmp 2]⟩
def k10_0:VC:=.reg [oD 6 (.mv (.const (.bool false)))]
def k10_1:VC:=.reg [oM 7 τ0,oD 8 (.lenS τ7),oM 9 τ1,oM 10 τ2,oD 11 (.callF 8 [τ9,Xcd]),oD 12 (.bin .leq τ8 Xb7),oM 6 XcZ]
def k10_2:VC:=.seq k10_1 .ret
def X2u:VC:=.seq k10_0 k10_2
def fn10:VFn:=⟨13,X2u,[.tmp 6]⟩
def k6_0:VC:=.reg [oD 6 (.mv (.const (.string ⟨⟨[]⟩⟩))),oD 7 (.mv (.const (.int .i64 0)))]
def k6_1:VC:=.reg [oM 13 τ0,oD 14 (.callF 22 [Xc0]),oM 12 Xdo,oE 15 0 XcZ,oE 16 1 XcZ,oD 8 (.alloc [(.int .i64 0),(.bool false),(.int .u64 0),(.int .u64 0),(.bool false),(.int .u64 0),(.int .u64 0),(.int .i64 0),(.int .i64 0),(.int .i64 0),(.bool false),(.int .u32 0),(.int .u32 0),(.bool false),(.string ⟨⟨[]⟩⟩),(.int .i64 0)]),oN (.store 16 τ8 Xdm),oM 9 Xdp]
def k6_2:VC:=.reg [oM 18 τ9,oD 19 (.bin .neq XdW (.const (.int .i64 0))),oM 17 XdM]
def k6_3:VC:=.reg [oM 20 τ9,oD 6 (.mv (.const (.string ⟨⟨[]⟩⟩))),oM 7 Xea]
def k6_4:VC:=.seq k6_3 .ret
def k6_5:VC:=.reg [oM 22 τ0,oM 23 τ1,oM 24 τ2,oD 25 (.callF 10 [XeF,XeO,XeB]),oM 21 XeW]
def k6_6:VC:=.reg [oD 6 (.mv (.const (.string ⟨⟨[]⟩⟩))),oD 7 (.mv (.const (.int .i64 11)))]
def k6_7:VC:=.seq k6_6 .ret
def k6_8:VC:=.reg [oM 27 τ1,oD 28 (.callF 23 [XeV]),oD 29 (.not XeP),oM 26 Xe4]
def k6_9:VC:=.reg [oD 6 (.mv (.const (.string ⟨⟨[]⟩⟩))),oD 7 (.mv (.const (.int .i64 1)))]
def k6_10:VC:=.seq k6_9 .ret
def k6_11:VC:=.cond Xeq k6_10 .skip
def k6_12:VC:=.seq k6_8 k6_11
def k6_13:VC:=.cond Xeh k6_7 k6_12
def k6_14:VC:=.seq k6_5 k6_13
def k6_15:VC:=.cond Xdn k6_4 k6_14
def k6_16:VC:=.seq k6_2 k6_15
def k6_17:VC:=.block 0 k6_16
def k6_18:VC:=.reg [oD 30 (.fieldA 0 τ8),oD 31 (.loadN [(.int .i64),.bool,(.int .u64),(.int .u64),.bool,(.int .u64),(.int .u64),(.int .i64),(.int .i64)] Xfz),oD 10 (.alloc [(.int .i64 0),(.bool false),(.int .u64 0),(.int .u64 0),(.bool false),(.int .u64 0),(.int .u64 0),(.int .i64 0),(.int .i64 0)]),oN (.store 9 Xcd Xfv)]
def k6_19:VC:=.regD [oM 32 τ1,oM 33 τ2,oD 34 (.callF 8 [XfB,XfC]),oM 35 τ0,oD 36 (.fieldA 1 Xcd),oD 37 (.fieldA 0 XfV),oD 38 (.load1 .bool XfA),oD 39 (.callF 24 [XgL]),oD 40 (.sliceS XfJ none (some XgH)),oD 41 (.build [(.int .i64 0),(.int .i64 0),(.int .i64 0),(.string ⟨⟨[]⟩⟩)] [(0,1,(.const (.int .i64 2))),(1,1,(.const (.int .i64 4))),(2,1,XfE),(3,1,Xhx)]),oD 11 (.alloc [(.int .i64 0),(.int .i64 0),(.int .i64 0),(.string ⟨⟨[]⟩⟩)])] [(2,6),(2,10),(6,10),(7,10)] [oN (.store 4 Xb7 Xht)]
def k6_20:VC:=.reg [oD 42 (.fieldA 1 Xcd),oD 43 (.fieldA 0 Xhs),oD 44 (.load1 .bool Xhz)]
def k6_21:VC:=.reg [oD 45 (.fieldA 1 Xb7),oN (.store 1 XhP (.const (.int .i64 0)))]
def k6_22:VC:=.cond Xh4 k6_21 .skip
def k6_23:VC:=.seq k6_20 k6_22
def k6_24:VC:=.reg [oD 46 (.loadN [(.int .i64),(.int .i64),(.int .i64),.str] Xb7),oD 47 (.fieldA 4 Xcd),oD 48 (.loadN [.bool,(.int .u64),(.int .u64)] Xh7),oD 49 (.fieldA 1 Xcd),oD 50 (.loadN [.bool,(.int .u64),(.int .u64)] XiL),oD 51 (.callF 25 [Xin,XiP,XiR]),oE 52 0 XiQ,oE 53 1 XiQ,oM 6 XjM,oM 7 XjZ]
def k6_25:VC:=.seq k6_24 .ret
def k6_26:VC:=.seq k6_23 k6_25
def k6_27:VC:=.seq k6_19 k6_26
def k6_28:VC:=.seq k6_18 k6_27
def k6_29:VC:=.seq k6_17 k6_28
def k6_30:VC:=.seq k6_1 k6_29
def XU2:VC:=.seq k6_0 k6_30
def fn6:VFn:=⟨54,XU2,[.tmp 6,.tmp 7]⟩
def k22_0:VC:=.reg [oD 2 (.alloc [(.int .i64 0),(.bool false),(.int .u64 0),(.int .u64 0),(.bool false),(.int .u64 0),(.int .u64 0),(.int .i64 0),(.int .i64 0),(.int .i64 0),(.bool false),(.int .u32 0),(.int .u32 0),(.bool false),(.string ⟨⟨[]⟩⟩),(.int .i64 0)]),oD 3 (.mv (.const (.int .i64 0)))]
def k22_1:VC:=.reg [oM 9 τ0,oD 10 (.callF 46 [τ9]),oM 8 Xcd,oE 11 0 τ8,oE 12 1 τ8,oE 13 2 τ8,oE 14 3 τ8,oD 4 (.alloc [(.int .i64 0),(.bool false),(.int .u64 0),(.int .u64 0),(.bool false),(.int .u64 0),(.int .u64 0),(.int .i64 0),(.int .i64 0),(.int .i64 0),(.bool false),(.int .u32 0),(.int .u32 0),(.bool false),(.string ⟨⟨[]⟩⟩),(.int .i64 0)]),oN (.store 16 τ4 Xb7),oM 5 XcZ,oM 6 Xc0,oM 7 Xdo]
def k22_2:VC:=.reg [oD 15 (.loadN [(.int .i64),.bool,(.int .u64),(.int .u64),.bool,(.int .u64),(.int .u64),(.int .i64),(.int .i64),(.int .i64),.bool,(.int .u32),(.int .u32),.bool,.str,(.int .i64)] τ4),oM 16 τ7,oN (.store 16 τ2 Xdm),oM 3 Xdp]
def k22_3:VC:=.seq k22_2 .ret
def k22_4:VC:=.seq k22_1 k22_3
def XSw:VC:=.seq k22_0 k22_4
def fn22:VFn:=⟨17,XSw,[.cell 2 [(.int .i64),.bool,(.int .u64),(.int .u64),.bool,(.int .u64),(.int .u64),(.int .i64),(.int .i64),(.int .i64),.bool,(.int .u32),(.int .u32),.bool,.str,(.int .i64)] true,.tmp 3]⟩
def k46_0:VC:=.reg [oD 2 (.alloc [(.int .i64 0),(.bool false),(.int .u64 0),(.int .u64 0),(.bool false),(.int .u64 0),(.int .u64 0),(.int .i64 0),(.int .i64 0),(.int .i64 0),(.bool false),(.int .u32 0),(.int .u32 0),(.bool false),(.string ⟨⟨[]⟩⟩),(.int .i64 0)]),oD 3 (.mv (.const (.int .i64 0))),oD 4 (.mv (.const (.int .i64 0))),oD 5 (.mv (.const (.int .i64 0)))]
def k46_1:VC:=.reg [oM 11 τ0,oD 12 (.lenS Xb7),oD 13 (.bin .gtr XcZ (.const (.int .i64 9000))),oM 10 Xc0]
def k46_2:VC:=.reg [oD 14 (.build [(.int .i64 0),(.bool false),(.int .u64 0),(.int .u64 0),(.bool false),(.int .u64 0),(.int .u64 0),(.int .i64 0),(.int .i64 0),(.int .i64 0),(.bool false),(.int .u32 0),(.int .u32 0),(.bool false),(.string ⟨⟨[]⟩⟩),(.int .i64 0)] []),oN (.store 16 τ2 Xdo),oD 3 (.mv (.const (.int .i64 0))),oD 4 (.mv (.const (.int .i64 0))),oD 5 (.mv (.const (.int .i64 5)))]
def k46_3:VC:=.seq k46_2 .ret
def k46_4:VC:=.reg [oM 16 τ0,oD 17 (.bin .eql Xdp (.const (.string ⟨⟨[]⟩⟩))),oM 15 Xdn]
def k46_5:VC:=.reg [oD 18 (.build [(.int .i64 0),(.bool false),(.int .u64 0),(.int .u64 0),(.bool false),(.int .u64 0),(.int .u64 0),(.int .i64 0),(.int .i64 0),(.int .i64 0),(.bool false),(.int .u32 0),(.int .u32 0),(.bool false),(.string ⟨⟨[]⟩⟩),(.int .i64 0)] []),oN (.store 16 τ2 XdW),oD 3 (.mv (.const (.int .i64 0))),oD 4 (.mv (.const (.int .i64 0))),oD 5 (.mv (.const (.int .i64 2)))]
def k46_6:VC:=.seq k46_5 .ret
def k46_7:VC:=.cond Xdm k46_6 .skip
def k46_8:VC:=.seq k46_4 k46_7
def k46_9:VC:=.cond Xcd k46_3 k46_8
def XVp:VC:=.seq k46_1 k46_9
def XUZ:VC:=.block 0 XVp
def XOE:VC:=.reg [oM 20 τ0,oD 21 (.callF 71 [Xea]),oM 19 Xeh,oE 22 0 XdM,oE 23 1 XdM,oD 6 (.alloc [(.bool false),(.int .u64 0),(.int .u64 0),(.bool false),(.int .u64 0),(.int .u64 0),(.int .i64 0),(.string ⟨⟨[]⟩⟩)]),oN (.store 8 τ6 XeF),oM 7 XeO]
def XQk:VC:=.reg [oM 24 τ7,oD 25 (.bin .neq XeB (.const (.int .i64 0)))]
def X40:VC:=.reg [oD 26 (.build [(.int .i64 0),(.bool false),(.int .u64 0),(.int .u64 0),(.bool false),(.int .u64 0),(.int .u64 0),(.int .i64 0),(.int .i64 0),(.int .i64 0),(.bool false),(.int .u32 0),(.int .u32 0),(.bool false),(.string ⟨⟨[]⟩⟩),(.int .i64 0)] []),oM 27 τ7,oN (.store 16 τ2 Xeq),oD 3 (.mv (.const (.int .i64 0))),oD 4 (.mv (.const (.int .i64 0))),oM 5 XeV]
def XQb:VC:=.seq X40 .ret
def XOT:VC:=.cond XeW XQb .skip
def X4m:VC:=.seq XQk XOT
def X7f:VC:=.reg [oM 28 τ0,oD 29 (.lenS XeP),oD 30 (.fieldA 6 τ6),oD 31 (.load1 (.int .i64) Xfz),oD 32 (.fieldA 0 τ6),oD 33 (.loadN [.bool,(.int .u64),(.int .u64)] XfB),oD 34 (.fieldA 3 τ6),oD 35 (.loadN [.bool,(.int .u64),(.int .u64)] XfE),oD 36 (.build [(.int .i64 0),(.bool false),(.int .u64 0),(.int .u64 0),(.bool false),(.int .u64 0),(.int .u64 0),(.int .i64 0),(.int .i64 0)] [(0,1,Xfv),(1,3,XfC),(4,3,XfJ)]),oD 37 (.build [(.int .i64 0),(.bool false),(.int .u64 0),(.int .u64 0),(.bool false),(.int .u64 0),(.int .u64 0),(.int .i64 0),(.int .i64 0),(.int .i64 0),(.bool false),(.int .u32 0),(.int .u32 0),(.bool false),(.string ⟨⟨[]⟩⟩),(.int .i64 0)] [(15,1,Xe4),(0,9,XfV)]),oD 8 (.alloc [(.int .i64 0),(.bool false),(.int .u64 0),(.int .u64 0),(.bool false),(.int .u64 0),(.int .u64 0),(.int .i64 0),(.int .i64 0),(.int .i64 0),(.bool false),(.int .u32 0),(.int .u32 0),(.bool false),(.string ⟨⟨[]⟩⟩),(.int .i64 0)]),oN (.store 16 τ8 XfA)]
def XN8:VC:=.reg [oD 9 (.mv (.const (.int .i64 0)))]
def XOM:VC:=.reg [oD 38 (.fieldA 6 τ6),oD 39 (.load1 (.int .i64) XgL)]
def X1W:VC:=.reg [oD 41 (.bin .eql XgH (.const (.int .i64 6))),oM 40 Xht]
def XNM:VC:=.reg [oD 43 (.loadN [.bool,(.int .u64),(.int .u64),.bool,(.int .u64),(.int .u64),(.int .i64),.str] τ6),oD 44 (.callF 72 [Xhz,τ8]),oM 42 Xh4,oE 45 0 Xhs,oE 46 1 Xhs,oM 9 XhP,oM 7 Xin]
def X2F:VC:=.reg [oD 48 (.bin .eql XgH (.const (.int .i64 17))),oM 47 XiP]
def XUB:VC:=.reg [oD 50 (.loadN [.bool,(.int .u64),(.int .u64),.bool,(.int .u64),(.int .u64),(.int .i64),.str] τ6),oD 51 (.callF 73 [XiR,τ8]),oM 49 XiQ,oE 52 0 XiL,oE 53 1 XiL,oM 9 XjM,oM 7 XjZ]
def X0t:VC:=.reg [oD 7 (.mv (.const (.int .i64 6)))]
def XUj:VC:=.cond Xh7 XUB X0t
def X4j:VC:=.seq X2F XUj
def XPS:VC:=.cond Xhx XNM X4j
def XVR:VC:=.seq X1W XPS
def XZD:VC:=.block 1 XVR
def XRV:VC:=.seq XOM XZD
def XUY:VC:=.reg [oM 54 τ7,oD 55 (.bin .neq Xk1 (.const (.int .i64 0)))]
def XSH:VC:=.reg [oD 56 (.build [(.int .i64 0),(.bool false),(.int .u64 0),(.int .u64 0),(.bool false),(.int .u64 0),(.int .u64 0),(.int .i64 0),(.int .i64 0),(.int .i64 0),(.bool false),(.int .u32 0),(.int .u32 0),(.bool false),(.string ⟨⟨[]⟩⟩),(.int .i64 0)] []),oM 57 τ7,oN (.store 16 τ2 Xk7),oD 3 (.mv (.const (.int .i64 0))),oD 4 (.mv (.const (.int .i64 0))),oM 5 XkP]
def XNt:VC:=.seq XSH .ret
def X5Z:VC:=.cond XkZ XNt .skip
def XOv:VC:=.seq XUY X5Z
def X2P:VC:=.regD [oD 58 (.loadN [(.int .i64),.bool,(.int .u64),(.int .u64),.bool,(.int .u64),(.int .u64),(.int .i64),(.int .i64),(.int .i64),.bool,(.int .u32),(.int .u32),.bool,.str,(.int .i64)] τ8),oD 59 (.fieldA 7 τ6),oD 60 (.load1 .str Xlf),oD 61 (.lenS XlW),oM 62 τ9,oN (.store 16 τ2 XkW),oM 3 Xl9] [(2,5)] [oM 4 XmV,oD 5 (.mv (.const (.int .i64 0)))]
def XVj:VC:=.seq X2P .ret
def X3U:VC:=.seq XOv XVj
def XYU:VC:=.seq XRV X3U
def X5j:VC:=.seq XN8 XYU
def X0d:VC:=.seq X7f X5j
def XS8:VC:=.seq X4m X0d
def XWH:VC:=.seq XOE XS8
def X4D:VC:=.seq XUZ XWH
def XBy:VC:=.seq k46_0 X4D
def fn46:VFn:=⟨63,XBy,[.cell 2 [(.int .i64),.bool,(.int .u64),(.int .u64),.bool,(.int .u64),(.int .u64),(.int .i64),(.int .i64),(.int .i64),.bool,(.int .u32),(.int .u32),.bool,.str,(.int .i64)] true,.tmp 3,.tmp 4,.tmp 5]⟩
def k71_0:VC:=.reg [oD 2 (.alloc [(.bool false),(.int .u64 0),(.int .u64 0),(.bool false),(.int .u64 0),(.int .u64 0),(.int .i64 0),(.string ⟨⟨[]⟩⟩)]),oD 3 (.mv (.const (.int .i64 0)))]
def k71_1:VC:=.reg [oM 10 τ0,oD 11 (.callF 106 [Xcd]),oM 9 Xb7,oE 12 0 τ9,oE 13 1 τ9,oE 14 2 τ9,oM 4 XcZ,oM 5 Xc0,oM 6 Xdo]
def k71_2:VC:=.reg [oM 15 τ6,oD 16 (.bin .neq Xdm (.const (.int .i64 0)))]
def k71_3:VC:=.reg [oD 17 (.build [(.bool false),(.int .u64 0),(.int .u64 0),(.bool false),(.int .u64 0),(.int .u64 0),(.int .i64 0),(.string ⟨⟨[]⟩⟩)] []),oM 18 τ6,oN (.store 8 τ2 Xdn),oM 3 XdW]
def k71_4:VC:=.seq k71_3 .ret
def k71_5:VC:=.cond Xdp k71_4 .skip
def k71_6:VC:=.seq k71_2 k71_5
def k71_7:VC:=.reg [oM 19 τ4]
def k71_8:VC:=.reg [oD 20 (.tassert 88 (.agg ⟨[(.int .i64 0),(.int .i64 0),(.bool false),(.int .i64 0),(.int .i64 0),(.bool false),(.int .u64 0),(.int .u64 0),(.bool false),(.int .u64 0),(.int .u64 0),(.string ⟨⟨[]⟩⟩)]⟩) XdM),oE 21 1 Xea,oE 22 0 Xea]
def k71_9:VC:=.reg [oD 7 (.alloc [(.int .i64 0),(.int .i64 0),(.bool false),(.int .i64 0),(.int .i64 0),(.bool false),(.int .u64 0),(.int .u64 0),(.bool false),(.int .u64 0),(.int .u64 0),(.string ⟨⟨[]⟩⟩)]),oN (.store 12 τ7 XeF)]
def XPQ:VC:=.reg [oM 23 τ0,oD 24 (.lenS XeO),oD 25 (.fieldA 11 τ7),oD 26 (.load1 .str XeW),oD 27 (.lenS Xeq),oD 28 (.bin .add (.const (.int .i64 20)) XeV),oM 29 τ5,oD 30 (.lenS Xe4),oD 31 (.bin .add XeP Xfz),oD 32 (.bin .neq XeB Xfv)]
def XPD:VC:=.reg [oD 33 (.build [(.bool false),(.int .u64 0),(.int .u64 0),(.bool false),(.int .u64 0),(.int .u64 0),(.int .i64 0),(.string ⟨⟨[]⟩⟩)] []),oN (.store 8 τ2 XfC),oD 3 (.mv (.const (.int .i64 5)))]
def XPV:VC:=.seq XPD .ret
def XVP:VC:=.cond XfB XPV .skip
def XVD:VC:=.seq XPQ XVP
def XSN:VC:=.reg [oD 34 (.fieldA 5 τ7),oD 35 (.loadN [.bool,(.int .u64),(.int .u64)] XfE),oD 36 (.fieldA 8 τ7),oD 37 (.loadN [.bool,(.int .u64),(.int .u64)] XfV),oD 38 (.fieldA 4 τ7),oD 39 (.load1 (.int .i64) XgL),oM 40 τ5,oD 41 (.build [(.bool false),(.int .u64 0),(.int .u64 0),(.bool false),(.int .u64 0),(.int .u64 0),(.int .i64 0),(.string ⟨⟨[]⟩⟩)] [(0,3,XfJ),(3,3,XfA),(6,1,XgH),(7,1,Xhx)]),oN (.store 8 τ2 Xht),oD 3 (.mv (.const (.int .i64 0)))]
def X6v:VC:=.seq XSN .ret
def XOf:VC:=.seq XVD X6v
def XVS:VC:=.seq k71_9 XOf
def XOJ:VC:=.reg [oD 42 (.tassert 85 (.agg ⟨[(.int .i64 0),(.int .i64 0),(.int .i64 0),(.int .i64 0),(.bool false),(.int .u64 0),(.int .u64 0),(.bool false),(.int .u64 0),(.int .u64 0)]⟩) XdM),oE 43 1 Xhs,oE 44 0 Xhs]
def X3j:VC:=.reg [oD 8 (.alloc [(.int .i64 0),(.int .i64 0),(.int .i64 0),(.int .i64 0),(.bool false),(.int .u64 0),(.int .u64 0),(.bool false),(.int .u64 0),(.int .u64 0)]),oN (.store 10 τ8 Xh4)]
def XOK:VC:=.reg [oM 45 τ0,oD 46 (.lenS XhP),oM 47 τ5,oD 48 (.lenS Xh7),oD 49 (.bin .add (.const (.int .i64 40)) XiP),oD 50 (.bin .neq Xin XiL)]
def XMq:VC:=.reg [oD 51 (.build [(.bool false),(.int .u64 0),(.int .u64 0),(.bool false),(.int .u64 0),(.int .u64 0),(.int .i64 0),(.string ⟨⟨[]⟩⟩)] []),oN (.store 8 τ2 XiQ),oD 3 (.mv (.const (.int .i64 5)))]
def XYD:VC:=.seq XMq .ret
def X1a:VC:=.cond XiR XYD .skip
def X1A:VC:=.seq XOK X1a
def X0D:VC:=.reg [oD 52 (.fieldA 4 τ8),oD 53 (.loadN [.bool,(.int .u64),(.int .u64)] XjM),oD 54 (.fieldA 7 τ8),oD 55 (.loadN [.bool,(.int .u64),(.int .u64)] Xk1),oD 56 (.fieldA 2 τ8),oD 57 (.load1 (.int .i64) Xk7),oM 58 τ5,oD 59 (.build [(.bool false),(.int .u64 0),(.int .u64 0),(.bool false),(.int .u64 0),(.int .u64 0),(.int .i64 0),(.string ⟨⟨[]⟩⟩)] [(0,3,XjZ),(3,3,XkZ),(6,1,XkP),(7,1,XkW)]),oN (.store 8 τ2 Xlf),oD 3 (.mv (.const (.int .i64 0)))]
def XZY:VC:=.seq X0D .ret
def X7m:VC:=.seq X1A XZY
def XP8:VC:=.seq X3j X7m
def X4P:VC:=.cond Xhz XP8 .skip
def X2B:VC:=.seq XOJ X4P
def XQO:VC:=.cond Xeh XVS X2B
def X5G:VC:=.seq k71_8 XQO
def XZb:VC:=.block 0 X5G
def X21:VC:=.seq k71_7 XZb
def X0r:VC:=.reg [oD 60 (.build [(.bool false),(.int .u64 0),(.int .u64 0),(.bool false),(.int .u64 0),(.int .u64 0),(.int .i64 0),(.string ⟨⟨[]⟩⟩)] []),oN (.store 8 τ2 XlW),oD 3 (.mv (.const (.int .i64 3)))]
def XXa:VC:=.seq X0r .ret
def XSo:VC:=.seq X21 XXa
def XZj:VC:=.seq k71_6 XSo
def XZ0:VC:=.seq k71_1 XZj
def Xz7:VC:=.seq k71_0 XZ0
def fn71:VFn:=⟨61,Xz7,[.cell 2 [.bool,(.int .u64),(.int .u64),.bool,(.int .u64),(.int .u64),(.int .i64),.str] true,.tmp 3]⟩
def XNT:VC:=.reg [oM 2 (.const .nilIface),oD 3 (.mv (.const (.string ⟨⟨[]⟩⟩))),oD 4 (.mv (.const (.int .i64 0)))]
def XQt:VC:=.reg [oM 11 τ0,oD 12 (.idxS Xb7 (.const (.int .i64 0))),oD 13 (.bin .shr XcZ (.const (.int .u64 4)))]
def XT5:VC:=.reg [oD 15 (.bin .eql Xc0 (.const (.int .u8 4))),oM 14 Xdm]
def XL6:VC:=.reg [oM 17 τ0,oD 18 (.callF 129 [Xdn]),oM 16 XdW,oE 19 0 Xdp,oE 20 1 Xdp,oE 21 2 Xdp,oD 5 (.alloc [(.int .i64 0),(.int .i64 0),(.bool false),(.int .i64 0),(.int .i64 0),(.bool false),(.int .u64 0),(.int .u64 0),(.bool false),(.int .u64 0),(.int .u64 0),(.string ⟨⟨[]⟩⟩)]),oN (.store 12 τ5 XdM),oM 6 Xea,oM 7 Xeh]
def X2L:VC:=.reg [oD 22 (.loadN [(.int .i64),(.int .i64),.bool,(.int .i64),(.int .i64),.bool,(.int .u64),(.int .u64),.bool,(.int .u64),(.int .u64),.str] τ5),oD 23 (.iface 88 XeF),oM 24 τ6,oM 25 τ7,oM 2 XeO,oM 3 XeB,oM 4 XeW]
def XTF:VC:=.seq X2L .ret
def XSv:VC:=.seq XL6 XTF
def X7r:VC:=.reg [oD 27 (.bin .eql Xc0 (.const (.int .u8 6))),oM 26 XeV]
def XTq:VC:=.reg [oM 29 τ0,oD 30 (.callF 130 [Xe4]),oM 28 Xfz,oE 31 0 XeP,oE 32 1 XeP,oE 33 2 XeP,oD 8 (.alloc [(.int .i64 0),(.int .i64 0),(.int .i64 0),(.int .i64 0),(.bool false),(.int .u64 0),(.int .u64 0),(.bool false),(.int .u64 0),(.int .u64 0)]),oN (.store 10 τ8 Xfv),oM 9 XfB,oM 10 XfC]
def X1Q:VC:=.reg [oD 34 (.loadN [(.int .i64),(.int .i64),(.int .i64),(.int .i64),.bool,(.int .u64),(.int .u64),.bool,(.int .u64),(.int .u64)] τ8),oD 35 (.iface 85 XfE),oM 36 τ9,oM 37 Xcd,oM 2 XfJ,oM 3 XfV,oM 4 XfA]
def XIk:VC:=.seq X1Q .ret
def XEu:VC:=.seq XTq XIk
def XEI:VC:=.cond Xeq XEu .skip
def XI5:VC:=.seq X7r XEI
def XEC:VC:=.cond Xdo XSv XI5
def XDF:VC:=.seq XT5 XEC
def XEG:VC:=.block 0 XDF
def XCR:VC:=.seq XQt XEG
def XKa:VC:=.reg [oM 2 (.const .nilIface),oD 3 (.mv (.const (.string ⟨⟨[]⟩⟩))),oD 4 (.mv (.const (.int .i64 3)))]
def XFe:VC:=.seq XKa .ret
def XK1:VC:=.seq XCR XFe
def XEp:VC:=.seq XNT XK1
def XTu:VFn:=⟨38,XEp,[.tmp 2,.tmp 3,.tmp 4]⟩
def X6f:VC:=.reg [oD 2 (.alloc [(.int .i64 0),(.int .i64 0),(.bool false),(.int .i64 0),(.int .i64 0),(.bool false),(.int .u64 0),(.int .u64 0),(.bool false),(.int .u64 0),(.int .u64 0),(.string ⟨⟨[]⟩⟩)]),oD 3 (.mv (.const (.string ⟨⟨[]⟩⟩))),oD 4 (.mv (.const (.int .i64 0)))]
def XSl:VC:=.reg [oM 11 τ0,oD 12 (.lenS Xb7),oD 13 (.bin .lss XcZ (.const (.int .i64 20)))]
def XWd:VC:=.reg [oD 14 (.build [(.int .i64 0),(.int .i64 0),(.bool false),(.int .i64 0),(.int .i64 0),(.bool false),(.int .u64 0),(.int .u64 0),(.bool false),(.int .u64 0),(.int .u64 0),(.string ⟨⟨[]⟩⟩)] []),oN (.store 12 τ2 Xdo),oD 3 (.mv (.const (.string ⟨⟨[]⟩⟩))),oD 4 (.mv (.const (.int .i64 2)))]
def XM8:VC:=.seq XWd .ret
def XT7:VC:=.cond Xc0 XM8 .skip
def XZW:VC:=.seq XSl XT7
def XL3:VC:=.reg [oM 15 τ0,oD 16 (.callF 61 [Xdm]),oD 17 (.build [(.pointer none)] [(0,1,Xdp)]),oD 5 (.alloc [(.pointer none)]),oN (.store 1 τ5 Xdn)]
def XZl:VC:=.reg [oD 18 (.fieldA 0 τ5),oD 19 (.load1 .oth XdW),oD 20 (.callF 62 [XdM,(.const (.int .i64 1))]),oM 6 Xea]
def XTT:VC:=.reg [oD 21 (.fieldA 0 τ5),oD 22 (.load1 .oth Xeh),oD 23 (.callF 62 [XeF,(.const (.int .i64 1))]),oD 24 (.build [(.int .i64 0),(.int .i64 0),(.bool false),(.int .i64 0),(.int .i64 0),(.bool false),(.int .u64 0),(.int .u64 0),(.bool false),(.int .u64 0),(.int .u64 0),(.string ⟨⟨[]⟩⟩)] [(0,1,XeO)]),oD 7 (.alloc [(.int .i64 0),(.int .i64 0),(.bool false),(.int .i64 0),(.int .i64 0),(.bool false),(.int .u64 0),(.int .u64 0),(.bool false),(.int .u64 0),(.int .u64 0),(.string ⟨⟨[]⟩⟩)]),oN (.store 12 τ7 XeB)]
def XN3:VC:=.reg [oM 25 τ6,oD 26 (.bin .and XeW (.const (.int .i64 15))),oD 27 (.bin .mul Xeq (.const (.int .i64 4))),oD 28 (.fieldA 0 τ5),oD 29 (.load1 .oth XeP),oD 30 (.callF 62 [Xe4,(.const (.int .i64 2))]),oM 8 XeV,oM 9 Xfz]
def XDr:VC:=.reg [oM 32 τ6,oD 33 (.bin .shr XfB (.const (.int .u64 4))),oD 34 (.bin .neq XfC (.const (.int .i64 4))),oM 35 XfE,oG 36 (.mv τ8) 35 false,oG 37 (.bin .lss XfV (.const (.int .i64 20))) 35 false,oD 38 (.pick XfJ (.const (.bool true)) XfA),oM 39 XgL,oG 40 (.mv τ9) 39 false,oG 41 (.mv τ8) 39 false,oG 42 (.bin .lss Xhx Xht) 39 false,oD 43 (.pick XgH (.const (.bool true)) Xhs),oM 31 Xhz]
def XD6:VC:=.reg [oD 44 (.build [(.int .i64 0),(.int .i64 0),(.bool false),(.int .i64 0),(.int .i64 0),(.bool false),(.int .u64 0),(.int .u64 0),(.bool false),(.int .u64 0),(.int .u64 0),(.string ⟨⟨[]⟩⟩)] []),oN (.store 12 τ2 Xh4),oD 3 (.mv (.const (.string ⟨⟨[]⟩⟩))),oD 4 (.mv (.const (.int .i64 3)))]
def XJE:VC:=.seq XD6 .ret
def XE6:VC:=.reg [oM 46 τ9,oM 47 τ0,oD 48 (.lenS Xh7),oD 49 (.bin .gtr Xin XiP),oM 45 XiL]
def XEh:VC:=.reg [oD 50 (.build [(.int .i64 0),(.int .i64 0),(.bool false),(.int .i64 0),(.int .i64 0),(.bool false),(.int .u64 0),(.int .u64 0),(.bool false),(.int .u64 0),(.int .u64 0),(.string ⟨⟨[]⟩⟩)] []),oN (.store 12 τ2 XiR),oD 3 (.mv (.const (.string ⟨⟨[]⟩⟩))),oD 4 (.mv (.const (.int .i64 2)))]
def XKI:VC:=.seq XEh .ret
def XHZ:VC:=.reg [oM 52 τ0,oM 53 τ8,oD 54 (.sliceS XjM none (some XjZ)),oD 55 (.callF 131 [Xk1]),oD 56 (.not XkZ),oM 51 Xk7]
def XCi:VC:=.reg [oD 57 (.build [(.int .i64 0),(.int .i64 0),(.bool false),(.int .i64 0),(.int .i64 0),(.bool false),(.int .u64 0),(.int .u64 0),(.bool false),(.int .u64 0),(.int .u64 0),(.string ⟨⟨[]⟩⟩)] []),oN (.store 12 τ2 XkP),oD 3 (.mv (.const (.string ⟨⟨[]⟩⟩))),oD 4 (.mv (.const (.int .i64 4)))]
def XFO:VC:=.seq XCi .ret
def XIy:VC:=.cond XiQ XFO .skip
def XCO:VC:=.seq XHZ XIy
def XC0:VC:=.cond XhP XKI XCO
def XIi:VC:=.seq XE6 XC0
def XHc:VC:=.cond Xfv XJE XIi
def XG0:VC:=.seq XDr XHc
def XF0:VC:=.block 0 XG0
def XGX:VC:=.reg [oD 58 (.fieldA 0 τ5),oD 59 (.load1 .oth XkW),oD 60 (.callF 62 [Xlf,(.const (.int .i64 2))]),oD 61 (.fieldA 1 τ7),oN (.store 1 Xl9 XlW)]
def XIq:VC:=.reg [oD 62 (.fieldA 0 τ5),oD 63 (.load1 .oth XmV),oD 64 (.callF 62 [Xox,(.const (.int .i64 2))]),oM 10 Xoh]
def XCz:VC:=.reg [oM 65 Xcd,oD 66 (.bin .andNot XoD (.const (.int .i64 16384))),oD 67 (.bin .neq XoJ (.const (.int .i64 0)))]
def XFp:VC:=.reg [oD 68 (.build [(.int .i64 0),(.int .i64 0),(.bool false),(.int .i64 0),(.int .i64 0),(.bool false),(.int .u64 0),(.int .u64 0),(.bool false),(.int .u64 0),(.int .u64 0),(.string ⟨⟨[]⟩⟩)] []),oN (.store 12 τ2 Xo6),oD 3 (.mv (.const (.string ⟨⟨[]⟩⟩))),oD 4 (.mv (.const (.int .i64 7)))]
def XK7:VC:=.seq XFp .ret
def XCG:VC:=.cond XoF XK7 .skip
def XJH:VC:=.seq XCz XCG
def XHA:VC:=.reg [oM 69 Xcd,oD 70 (.bin .neq XoS (.const (.int .i64 0))),oD 71 (.fieldA 2 τ7),oN (.store 1 Xrk XqW)]
def XGs:VC:=.regD [oD 72 (.fieldA 0 τ5),oD 73 (.load1 .oth Xrb),oD 74 (.callF 62 [XsD,(.const (.int .i64 1))]),oD 75 (.fieldA 0 τ5),oD 76 (.load1 .oth Xs2),oD 77 (.callF 62 [Xwf,(.const (.int .i64 1))]),oD 78 (.fieldA 3 τ7)] [(2,4)] [oN (.store 1 Xv5 Xtu),oD 79 (.fieldA 4 τ7),oN (.store 1 XxI Xuj)]
def XCh:VC:=.reg [oD 80 (.fieldA 0 τ5),oD 81 (.load1 .oth XvY),oD 82 (.callF 62 [Xyd,(.const (.int .i64 2))])]
def XG8:VC:=.regD [oD 83 (.loadN [.oth] τ5),oD 84 (.callF 134 [XvW]),oD 85 (.loadN [.oth] τ5),oD 86 (.callF 134 [XCC]),oD 87 (.fieldA 5 τ7)] [(1,2)] [oN (.store 3 XF8 Xzu),oD 88 (.fieldA 8 τ7),oN (.store 3 XJu XGk)]
def XKV:VC:=.reg [oD 89 (.fieldA 0 τ5),oD 90 (.load1 .oth XzO),oM 91 τ8,oD 92 (.bin .sub XKT (.const (.int .i64 20))),oD 93 (.callF 64 [XDi,XDH]),oD 94 (.fieldA 11 τ7),oN (.store 1 XIA XFH)]
def XK4:VC:=.regD [oD 95 (.loadN [(.int .i64),(.int .i64),.bool,(.int .i64),(.int .i64),.bool,(.int .u64),(.int .u64),.bool,(.int .u64),(.int .u64),.str] τ7),oD 96 (.fieldA 0 τ5),oD 97 (.load1 .oth XCd),oM 98 τ9,oM 99 τ8,oD 100 (.bin .sub τ98 τ99),oD 101 (.callF 64 [XLp,XKf])] [(0,6)] [oN (.store 12 τ2 XKu),oM 3 XEZ,oD 4 (.mv (.const (.int .i64 0)))]
def XC7:VC:=.seq XK4 .ret
def XDc:VC:=.seq XKV XC7
def XJN:VC:=.seq XG8 XDc
def XIl:VC:=.seq XCh XJN
def XES:VC:=.seq XGs XIl
def XDT:VC:=.seq XHA XES
def XKy:VC:=.seq XJH XDT
def XKx:VC:=.seq XIq XKy
def XKZ:VC:=.seq XGX XKx
def XHw:VC:=.seq XF0 XKZ
def XJ7:VC:=.seq XN3 XHw
def XFf:VC:=.seq XTT XJ7
def XFQ:VC:=.seq XZl XFf
def XCS:VC:=.seq XL3 XFQ
def XKz:VC:=.seq XZW XCS
def Xue:VC:=.seq X6f XKz
def XVH:VFn:=⟨102,Xue,[.cell 2 [(.int .i64),(.int .i64),.bool,(.int .i64),(.int .i64),.bool,(.int .u64),(.int .u64),.bool,(.int .u64),(.int .u64),.str] true,.tmp 3,.tmp 4]⟩
def k61_0:VC:=.reg [oD 2 (.mv (.const (.pointer none)))]
def k61_1:VC:=.reg [oM 3 τ0,oD 4 (.build [(.string ⟨⟨[]⟩⟩),(.bool false),(.bool false)] [(0,1,τ3),(1,1,(.const (.bool true)))]),oD 5 (.box τ4),oM 2 τ5]
def k61_2:VC:=.seq k61_1 .ret
def XZK:VC:=.seq k61_0 k61_2
def fn61:VFn:=⟨6,XZK,[.tmp 2]⟩
def k62_0:VC:=.reg [oD 4 (.mv (.const (.int .i64 0)))]
def k62_1:VC:=.reg [oM 7 τ1,oD 8 (.bin .lss τ7 (.const (.int .i64 1))),oM 9 τ8,oG 10 (.mv τ1) 9 false,oG 11 (.bin .gtr Xcd (.const (.int .i64 7))) 9 false,oD 12 (.pick τ9 (.const (.bool true)) Xb7)]
def k62_2:VC:=.reg [oD 1 (.mv (.const (.int .i64 (-1))))]
def k62_3:VC:=.cond XcZ k62_2 .skip
def k62_4:VC:=.seq k62_1 k62_3
def k62_5:VC:=.reg [oM 14 τ0,oM 15 τ1,oD 16 (.callF 64 [Xdo,Xdm]),oM 17 τ1,oD 18 (.callF 40 [Xdp,(.const (.int .i64 0)),Xdn]),oM 13 XdW,oE 19 0 Xc0,oE 20 1 Xc0,oM 5 XdM,oM 6 Xea]
def k62_6:VC:=.reg [oM 21 τ5,oD 22 (.conv .i64 Xeh),oM 4 XeF]
def k62_7:VC:=.seq k62_6 .ret
def k62_8:VC:=.seq k62_5 k62_7
def k62_9:VC:=.seq k62_4 k62_8
def XBG:VC:=.seq k62_0 k62_9
def fn62:VFn:=⟨23,XBG,[.tmp 4]⟩
def k64_0:VC:=.reg [oD 4 (.mv (.const (.string ⟨⟨[]⟩⟩)))]
def k64_1:VC:=.reg [oM 6 τ0,oD 7 (.callF 63 [τ6])]
def k64_2:VC:=.reg [oD 4 (.mv (.const (.string ⟨⟨[]⟩⟩)))]
def k64_3:VC:=.seq k64_2 .ret
def k64_4:VC:=.cond τ7 k64_3 .skip
def k64_5:VC:=.seq k64_1 k64_4
def k64_6:VC:=.reg [oM 8 τ1,oD 9 (.bin .lss τ8 (.const (.int .i64 0))),oM 10 τ9,oG 11 (.mv τ1) 10 false,oG 12 (.mv τ0) 10 false,oG 13 (.nilCheck XcZ) 10 false,oG 14 (.fieldA 0 Xc0) 10 false,oG 15 (.load1 .str Xdo) 10 false,oG 16 (.lenS Xdm) 10 false,oG 17 (.bin .gtr Xb7 Xdp) 10 false,oD 18 (.pick Xcd (.const (.bool true)) Xdn)]
def k64_7:VC:=.reg [oM 19 τ0,oD 20 (.nilCheck XdM),oD 21 (.fieldA 2 Xea),oN (.store 1 Xeh (.const (.bool true)))]
def k64_8:VC:=.reg [oD 4 (.mv (.const (.string ⟨⟨[]⟩⟩)))]
def k64_9:VC:=.seq k64_8 .ret
def X6X:VC:=.seq k64_7 k64_9
def X1H:VC:=.cond XdW X6X .skip
def X2H:VC:=.seq k64_6 X1H
def XYf:VC:=.reg [oM 22 τ0,oD 23 (.nilCheck XeF),oD 24 (.fieldA 0 XeO),oD 25 (.load1 .str XeB),oM 26 τ1,oD 27 (.sliceS XeW none (some Xeq)),oM 5 XeV]
def XQF:VC:=.reg [oM 28 τ0,oM 29 τ0,oD 30 (.nilCheck Xe4),oD 31 (.fieldA 0 Xfz),oD 32 (.load1 .str Xfv),oM 33 τ1,oD 34 (.sliceS XfB (some XfC) none),oD 35 (.nilCheck XeP),oD 36 (.fieldA 0 XfJ),oN (.store 1 XfV XfE)]
def X6u:VC:=.reg [oM 37 τ5,oM 4 XfA]
def X2C:VC:=.seq X6u .ret
def XMO:VC:=.seq XQF X2C
def X4L:VC:=.seq XYf XMO
def XYO:VC:=.seq X2H X4L
def X3I:VC:=.seq k64_5 XYO
def XBe:VC:=.seq k64_0 X3I
def fn64:VFn:=⟨38,XBe,[.tmp 4]⟩
def k63_0:VC:=.reg [oD 2 (.mv (.const (.bool false)))]
def k63_1:VC:=.reg [oM 3 τ0,oD 4 (.isNil 0 false τ3),oM 5 τ4,oG 6 (.mv τ0) 5 false,oG 7 (.nilCheck τ6) 5 false,oG 8 (.fieldA 1 τ7) 5 false,oG 9 (.load1 .bool τ8) 5 false,oG 10 (.not τ9) 5 false,oD 11 (.pick τ5 (.const (.bool true)) Xcd),oM 12 Xb7,oG 13 (.mv τ0) 12 false,oG 14 (.nilCheck Xc0) 12 false,oG 15 (.fieldA 2 Xdo) 12 false,oG 16 (.load1 .bool Xdm) 12 false,oD 17 (.pick XcZ (.const (.bool true)) Xdp),oM 2 Xdn]
def k63_2:VC:=.seq k63_1 .ret
def XNV:VC:=.seq k63_0 k63_2
def fn63:VFn:=⟨18,XNV,[.tmp 2]⟩
def k40_0:VC:=.reg [oD 6 (.mv (.const (.int .u64 0))),oD 7 (.mv (.const (.bool false)))]
def k40_1:VC:=.reg [oM 11 τ2,oD 12 (.bin .lss Xb7 (.const (.int .i64 1))),oM 13 XcZ,oG 14 (.mv τ2) 13 false,oG 15 (.bin .gtr Xdo (.const (.int .i64 8))) 13 false,oD 16 (.pick Xc0 (.const (.bool true)) Xdm),oM 17 Xdp,oG 18 (.mv τ1) 17 false,oG 19 (.bin .lss XdW (.const (.int .i64 0))) 17 false,oD 20 (.pick Xdn (.const (.bool true)) XdM),oM 21 Xea,oG 22 (.mv τ0) 21 false,oG 23 (.lenS XeF) 21 false,oG 24 (.mv τ2) 21 false,oG 25 (.bin .sub XeO XeB) 21 false,oG 26 (.mv τ1) 21 false,oG 27 (.bin .lss XeW Xeq) 21 false,oD 28 (.pick Xeh (.const (.bool true)) XeV)]
def k40_2:VC:=.reg [oD 6 (.mv (.const (.int .u64 0))),oD 7 (.mv (.const (.bool false)))]
def k40_3:VC:=.seq k40_2 .ret
def k40_4:VC:=.cond XeP k40_3 .skip
def k40_5:VC:=.seq k40_1 k40_4
def k40_6:VC:=.reg [oD 8 (.mv (.const (.int .u64 0)))]
def k40_7:VC:=.reg [oM 29 τ0,oM 30 τ1,oM 31 τ1,oM 32 τ2,oD 33 (.bin .add Xfv XfB),oD 34 (.sliceS Xe4 (some Xfz) (some XfC)),oD 35 (.s2b XfE),oD 36 (.lenL XfJ),oD 37 (.mv (.const (.int .i64 0)))]
def k40_8:VC:=.reg [oD 38 (.bin .lss XfA XfV)]
def k40_9:VC:=.cond XgL .skip (.exit 0)
def XYM:VC:=.reg [oD 39 (.idxAL 1 XfJ XfA),oD 40 (.load1 (.int .u8) XgH),oM 10 Xhx]
def XWc:VC:=.reg [oM 41 τ8,oD 42 (.bin .shl Xht (.const (.int .u64 8))),oM 43 Xcd,oD 44 (.conv .u64 Xhz),oD 45 (.bin .or Xhs Xh4),oM 8 XhP]
def XNn:VC:=.seq XYM XWc
def X3t:VC:=.block 1 XNn
def X3g:VC:=.reg [oD 46 (.bin .add XfA (.const (.int .i64 1))),oM 37 Xin]
def XUu:VC:=.seq X3t X3g
def X1k:VC:=.seq k40_9 XUu
def XvV:VC:=.seq k40_8 X1k
def X58:VC:=.loop XvV
def XY4:VC:=.block 0 X58
def X3q:VC:=.seq k40_7 XY4
def X2K:VC:=.reg [oM 47 τ8,oM 6 Xh7,oD 7 (.mv (.const (.bool true)))]
def XBK:VC:=.seq X2K .ret
def XNb:VC:=.seq X3q XBK
def X0v:VC:=.seq k40_6 XNb
def XZq:VC:=.seq k40_5 X0v
def XAg:VC:=.seq k40_0 XZq
def fn40:VFn:=⟨48,XAg,[.tmp 6,.tmp 7]⟩
def XTW:VC:=.reg [oD 2 (.mv (.const (.bool false)))]
def XTD:VC:=.reg [oM 3 τ0,oD 4 (.callF 112 [τ3]),oD 5 (.bin .eql τ4 (.const (.int .i64 65535))),oM 2 τ5]
def X6T:VC:=.seq XTD .ret
def XBt:VC:=.seq XTW X6T
def XSY:VFn:=⟨6,XBt,[.tmp 2]⟩
def XWw:VC:=.reg [oD 2 (.mv (.const (.int .i64 0)))]
def XRP:VC:=.reg [oD 3 (.alloc [(.int .i64 0)]),oN (.store 1 τ3 (.const (.int .i64 0)))]
def X1m:VC:=.reg [oM 5 τ0,oD 6 (.callF 104 [τ5])]
def Xzv:VC:=.reg [oM 4 τ7]
def X2A:VC:=.reg [oD 8 (.load1 (.int .i64) τ3),oM 9 τ4,oD 10 (.bin .add τ8 τ9),oD 11 (.callF 128 [Xcd]),oN (.store 1 τ3 Xb7)]
def XAA:VC:=.block 1 X2A
def XQQ:VC:=.rangeF τ6 [7] Xzv XAA
def XOj:VC:=.block 0 XQQ
def XTx:VC:=.seq X1m XOj
def XMI:VC:=.reg [oD 12 (.load1 (.int .i64) τ3),oM 2 XcZ]
def Xs8:VC:=.seq XMI .ret
def XGU:VC:=.seq XTx Xs8
def XE5:VC:=.seq XRP XGU
def Xtx:VC:=.seq XWw XE5
def X7c:VFn:=⟨13,Xtx,[.tmp 2]⟩
def XT1:VC:=.reg [oD 1 (.box τ0),oM 2 (.const .nilFunc)]
def XTl:VC:=.reg [oD 3 (.mkFunc 126 [] [τ1]),oM 2 τ3]
def XRc:VC:=.seq XTl .ret
def XMi:VC:=.seq XT1 XRc
def X0w:VFn:=⟨4,XMi,[.tmp 2]⟩
def XTJ:VC:=.reg [oD 3 (.mv (.const (.int .i64 0)))]
def XTv:VC:=.reg [oM 5 τ3,oD 6 (.load1 .str τ1),oD 7 (.lenS τ6),oD 8 (.bin .lss τ5 τ7)]
def XVV:VC:=.cond τ8 .skip (.exit 0)
def XO1:VC:=.seq XTv XVV
def X1U:VC:=.reg [oD 11 (.load1 .str τ1),oM 12 τ3,oD 13 (.idxS Xb7 XcZ),oD 14 (.conv .i64 Xc0),oD 15 (.bin .shl Xdo (.const (.int .u64 8))),oM 4 Xdm]
def XOW:VC:=.reg [oM 16 τ3,oD 17 (.bin .add Xdp (.const (.int .i64 1))),oD 18 (.load1 .str τ1),oD 19 (.lenS XdW),oD 20 (.bin .lss Xdn XdM)]
def XRU:VC:=.reg [oM 21 τ4,oD 22 (.load1 .str τ1),oM 23 τ3,oD 24 (.bin .add XeO (.const (.int .i64 1))),oD 25 (.idxS XeF XeB),oD 26 (.conv .i64 XeW),oD 27 (.bin .or Xeh Xeq),oM 4 XeV]
def XWk:VC:=.cond Xea XRU .skip
def X3R:VC:=.seq XOW XWk
def XL1:VC:=.reg [oM 28 τ0,oM 29 τ4,oD 30 (.callV XeP [Xe4]),oD 31 (.not Xfz)]
def XEm:VC:=.cond Xfv .ret .skip
def XCw:VC:=.seq XL1 XEm
def XI2:VC:=.seq X3R XCw
def XC3:VC:=.seq X1U XI2
def XIS:VC:=.block 1 XC3
def XKY:VC:=.reg [oM 9 τ3,oD 10 (.bin .add τ9 (.const (.int .i64 2))),oM 3 Xcd]
def XDA:VC:=.seq XIS XKY
def XqE:VC:=.seq XO1 XDA
def XFD:VC:=.loop XqE
def XEz:VC:=.block 0 XFD
def XHD:VC:=.seq XTJ XEz
def X2i:VFn:=⟨32,XHD,[]⟩
def X7J:VC:=.reg [oD 2 (.mv (.const (.int .i64 0)))]
def XXC:VC:=.reg [oM 3 τ0,oD 4 (.bin .gtr τ3 (.const (.int .i64 65535)))]
def XXA:VC:=.cond τ4 .skip (.exit 0)
def X1J:VC:=.seq XXC XXA
def XY5:VC:=.reg [oM 5 τ0,oD 6 (.bin .and τ5 (.const (.int .i64 65535))),oM 7 τ0,oD 8 (.bin .shr τ7 (.const (.int .u64 16))),oD 9 (.bin .add τ6 τ8),oM 0 τ9]
def XQA:VC:=.block 1 XY5
def XtT:VC:=.seq X1J XQA
def X04:VC:=.loop XtT
def XZh:VC:=.block 0 X04
def XQy:VC:=.reg [oM 10 τ0,oM 2 Xcd]
def XtO:VC:=.seq XQy .ret
def XF3:VC:=.seq XZh XtO
def Xuy:VC:=.seq X7J XF3
def X33:VFn:=⟨11,Xuy,[.tmp 2]⟩
def XXz:VC:=.reg [oD 1 (.box τ0),oD 2 (.alloc [(.bool false),(.int .u64 0),(.int .u64 0)])]
def X6C:VC:=.reg [oD 6 (.fieldA 0 τ1),oD 7 (.load1 .oth τ6),oD 8 (.callF 64 [τ7,(.const (.int .i64 4))]),oD 9 (.callF 135 [τ8]),oM 5 τ9,oE 10 0 τ5,oE 11 1 τ5,oD 3 (.alloc [(.bool false),(.int .u64 0),(.int .u64 0)]),oN (.store 3 τ3 Xcd),oM 4 Xb7]
def X7M:VC:=.reg [oD 12 (.loadN [.bool,(.int .u64),(.int .u64)] τ3),oN (.store 3 τ2 XcZ)]
def XR2:VC:=.seq X7M .ret
def XTS:VC:=.seq X6C XR2
def XAL:VC:=.seq XXz XTS
def X4w:VFn:=⟨13,XAL,[.cell 2 [.bool,(.int .u64),(.int .u64)] true]⟩
def X0B:VC:=.reg [oD 2 (.alloc [(.bool false),(.int .u64 0),(.int .u64 0)]),oD 3 (.mv (.const (.bool false)))]
def X4U:VC:=.reg [oM 7 τ0,oD 8 (.lenS τ7)]
def X3F:VC:=.reg [oD 10 (.bin .eql τ8 (.const (.int .i64 4))),oM 9 Xcd]
def X2q:VC:=.reg [oM 12 τ0,oD 13 (.callF 40 [XcZ,(.const (.int .i64 0)),(.const (.int .i64 4))]),oM 11 Xc0,oE 14 0 Xb7,oE 15 1 Xb7,oM 4 Xdo,oM 5 Xdm]
def XZ5:VC:=.reg [oM 16 τ4,oD 17 (.build [(.bool false),(.int .u64 0),(.int .u64 0)] [(2,1,Xdp)]),oN (.store 3 τ2 Xdn),oD 3 (.mv (.const (.bool true)))]
def XPr:VC:=.seq XZ5 .ret
def X0K:VC:=.seq X2q XPr
def XT2:VC:=.reg [oD 19 (.bin .eql τ8 (.const (.int .i64 16))),oM 18 XdM]
def XUI:VC:=.reg [oD 20 (.build [(.bool false),(.int .u64 0),(.int .u64 0)] [(0,1,(.const (.bool true)))]),oD 6 (.alloc [(.bool false),(.int .u64 0),(.int .u64 0)]),oN (.store 3 τ6 Xea)]
def X6L:VC:=.reg [oM 22 τ0,oD 23 (.callF 40 [XeF,(.const (.int .i64 0)),(.const (.int .i64 8))]),oM 21 XeO,oE 24 0 Xeh,oE 25 1 Xeh,oD 26 (.fieldA 1 τ6),oN (.store 1 Xeq XeB)]
def XJM:VC:=.reg [oM 28 τ0,oD 29 (.callF 40 [XeP,(.const (.int .i64 8)),(.const (.int .i64 8))]),oM 27 Xe4,oE 30 0 XeV,oE 31 1 XeV,oD 32 (.fieldA 2 τ6),oN (.store 1 XfB Xfz)]
def XIa:VC:=.reg [oD 33 (.loadN [.bool,(.int .u64),(.int .u64)] τ6),oN (.store 3 τ2 XfC),oD 3 (.mv (.const (.bool true)))]
def XJO:VC:=.seq XIa .ret
def XCL:VC:=.seq XJM XJO
def XKg:VC:=.seq X6L XCL
def XKb:VC:=.seq XUI XKg
def XE8:VC:=.cond XdW XKb .skip
def XFI:VC:=.seq XT2 XE8
def XI6:VC:=.cond τ9 X0K XFI
def XJI:VC:=.seq X3F XI6
def XEj:VC:=.block 0 XJI
def XCa:VC:=.seq X4U XEj
def XJt:VC:=.reg [oD 34 (.build [(.bool false),(.int .u64 0),(.int .u64 0)] []),oN (.store 3 τ2 XfE),oD 3 (.mv (.const (.bool false)))]
def XJY:VC:=.seq XJt .ret
def XCN:VC:=.seq XCa XJY
def XvD:VC:=.seq X0B XCN
def X4f:VFn:=⟨35,XvD,[.cell 2 [.bool,(.int .u64),(.int .u64)] true,.tmp 3]⟩
def X0U:VC:=.reg [oD 2 (.alloc [(.int .i64 0),(.int .i64 0),(.int .i64 0),(.int .i64 0),(.bool false),(.int .u64 0),(.int .u64 0),(.bool false),(.int .u64 0),(.int .u64 0)]),oD 3 (.mv (.const (.string ⟨⟨[]⟩⟩))),oD 4 (.mv (.const (.int .i64 0)))]
def XPj:VC:=.reg [oM 12 τ0,oD 13 (.callF 61 [XcZ]),oM 5 Xc0]
def X0W:VC:=.reg [oM 14 τ5,oD 15 (.callF 62 [Xdo,(.const (.int .i64 4))]),oM 16 τ5,oD 17 (.callF 62 [Xdp,(.const (.int .i64 2))]),oM 6 Xdm,oM 7 Xdn]
def X0T:VC:=.reg [oM 18 τ6,oD 19 (.bin .shr XdW (.const (.int .u64 20))),oD 20 (.bin .and XdM (.const (.int .i64 255))),oM 21 τ6,oD 22 (.bin .and Xeh (.const (.int .i64 1048575))),oM 23 τ5,oD 24 (.callF 62 [XeO,(.const (.int .i64 1))]),oM 25 τ5,oD 26 (.callF 62 [XeW,(.const (.int .i64 1))]),oD 27 (.build [(.int .i64 0),(.int .i64 0),(.int .i64 0),(.int .i64 0),(.bool false),(.int .u64 0),(.int .u64 0),(.bool false),(.int .u64 0),(.int .u64 0)] [(0,1,Xea),(1,1,XeF),(2,1,XeB),(3,1,Xeq)]),oD 8 (.alloc [(.int .i64 0),(.int .i64 0),(.int .i64 0),(.int .i64 0),(.bool false),(.int .u64 0),(.int .u64 0),(.bool false),(.int .u64 0),(.int .u64 0)]),oN (.store 10 τ8 XeV)]
def XVW:VC:=.reg [oM 28 τ5,oD 29 (.callF 64 [XeP,(.const (.int .i64 16))]),oM 30 τ5,oD 31 (.callF 64 [Xfz,(.const (.int .i64 16))]),oM 9 Xe4,oM 10 Xfv]
def X4z:VC:=.reg [oM 32 τ5,oD 33 (.callF 63 [XfB])]
def X6Y:VC:=.reg [oD 34 (.build [(.int .i64 0),(.int .i64 0),(.int .i64 0),(.int .i64 0),(.bool false),(.int .u64 0),(.int .u64 0),(.bool false),(.int .u64 0),(.int .u64 0)] []),oN (.store 10 τ2 XfE),oD 3 (.mv (.const (.string ⟨⟨[]⟩⟩))),oD 4 (.mv (.const (.int .i64 2)))]
def XTR:VC:=.seq X6Y .ret
def XUq:VC:=.cond XfC XTR .skip
def X6Z:VC:=.seq X4z XUq
def XEs:VC:=.reg [oM 35 τ6,oD 36 (.bin .shr XfJ (.const (.int .u64 28))),oD 37 (.bin .neq XfV (.const (.int .i64 6)))]
def XKl:VC:=.reg [oD 38 (.build [(.int .i64 0),(.int .i64 0),(.int .i64 0),(.int .i64 0),(.bool false),(.int .u64 0),(.int .u64 0),(.bool false),(.int .u64 0),(.int .u64 0)] []),oN (.store 10 τ2 XgL),oD 3 (.mv (.const (.string ⟨⟨[]⟩⟩))),oD 4 (.mv (.const (.int .i64 3)))]
def XJi:VC:=.seq XKl .ret
def XK8:VC:=.cond XfA XJi .skip
def XKC:VC:=.seq XEs XK8
def XFh:VC:=.reg [oM 40 τ9,oD 41 (.callF 135 [Xhx]),oM 39 Xht,oE 42 0 XgH,oE 43 1 XgH,oD 44 (.fieldA 4 τ8),oN (.store 3 Xh4 Xhs)]
def XHj:VC:=.reg [oM 46 Xcd,oD 47 (.callF 135 [Xin]),oM 45 Xh7,oE 48 0 XhP,oE 49 1 XhP,oD 50 (.fieldA 7 τ8),oN (.store 3 XiR XiP)]
def XJc:VC:=.reg [oM 51 τ5,oM 52 τ7,oD 53 (.callF 64 [XiQ,XjM]),oM 11 XjZ]
def XEH:VC:=.reg [oM 54 τ5,oD 55 (.callF 63 [Xk1])]
def XJf:VC:=.reg [oD 56 (.build [(.int .i64 0),(.int .i64 0),(.int .i64 0),(.int .i64 0),(.bool false),(.int .u64 0),(.int .u64 0),(.bool false),(.int .u64 0),(.int .u64 0)] []),oN (.store 10 τ2 Xk7),oD 3 (.mv (.const (.string ⟨⟨[]⟩⟩))),oD 4 (.mv (.const (.int .i64 2)))]
def XDJ:VC:=.seq XJf .ret
def XKc:VC:=.cond XkZ XDJ .skip
def XHf:VC:=.seq XEH XKc
def XGA:VC:=.reg [oD 57 (.loadN [(.int .i64),(.int .i64),(.int .i64),(.int .i64),.bool,(.int .u64),(.int .u64),.bool,(.int .u64),(.int .u64)] τ8),oM 58 Xb7,oN (.store 10 τ2 XkP),oM 3 XkW,oD 4 (.mv (.const (.int .i64 0)))]
def XC8:VC:=.seq XGA .ret
def XFx:VC:=.seq XHf XC8
def XJG:VC:=.seq XJc XFx
def XDZ:VC:=.seq XHj XJG
def XHC:VC:=.seq XFh XDZ
def XGP:VC:=.seq XKC XHC
def XCs:VC:=.seq X6Z XGP
def XFr:VC:=.seq XVW XCs
def XHP:VC:=.seq X0T XFr
def XFR:VC:=.seq X0W XHP
def XHs:VC:=.seq XPj XFR
def Xt7:VC:=.seq X0U XHs
def XUV:VFn:=⟨59,Xt7,[.cell 2 [(.int .i64),(.int .i64),(.int .i64),(.int .i64),.bool,(.int .u64),(.int .u64),.bool,(.int .u64),(.int .u64)] true,.tmp 3,.tmp 4]⟩
def k72_0:VC:=.reg [oD 2 (.box τ0),oD 4 (.mv (.const (.int .i64 0))),oD 5 (.mv (.const (.int .i64 0)))]
def k72_1:VC:=.reg [oD 13 (.fieldA 7 τ2),oD 14 (.load1 .str Xc0),oD 15 (.fieldA 0 τ2),oD 16 (.loadN [.bool,(.int .u64),(.int .u64)] Xdm),oD 17 (.fieldA 3 τ2),oD 18 (.loadN [.bool,(.int .u64),(.int .u64)] Xdn),oD 19 (.callF 107 [Xdo,Xdp,XdW]),oM 12 XdM,oE 20 0 XcZ,oE 21 1 XcZ,oE 22 2 XcZ,oD 6 (.alloc [(.int .i64 0),(.int .i64 0),(.int .u32 0),(.int .u32 0),(.int .i64 0),(.int .i64 0),(.int .i64 0),(.string ⟨⟨[]⟩⟩)]),oN (.store 8 τ6 Xea),oM 7 Xeh,oM 8 XeF]
def k72_2:VC:=.reg [oM 23 τ8,oD 24 (.bin .neq XeO (.const (.int .i64 0)))]
def k72_3:VC:=.reg [oM 25 τ8,oD 4 (.mv (.const (.int .i64 0))),oM 5 XeW]
def k72_4:VC:=.seq k72_3 .ret
def k72_5:VC:=.cond XeB k72_4 .skip
def k72_6:VC:=.seq k72_2 k72_5
def k72_7:VC:=.regD [oM 26 τ1,oM 27 τ1,oM 28 τ1,oD 29 (.fieldA 0 τ6),oD 30 (.load1 (.int .i64) Xe4),oD 31 (.fieldA 1 τ6),oD 32 (.load1 (.int .i64) Xfv),oD 33 (.fieldA 4 τ6),oD 34 (.load1 (.int .i64) XfC),oD 35 (.nilCheck Xeq),oD 36 (.fieldA 0 XfJ),oD 37 (.fieldA 7 XfV),oN (.store 1 XfA Xfz),oD 38 (.nilCheck XeV),oD 39 (.fieldA 0 XgL),oD 40 (.fieldA 8 XgH),oN (.store 1 Xhx XfB)] [(6,12),(8,12),(8,16)] [oD 41 (.nilCheck XeP),oD 42 (.fieldA 9 Xht),oN (.store 1 Xhs XfE)]
def k72_8:VC:=.reg [oD 44 (.fieldA 7 τ6),oD 45 (.load1 .str Xh4),oD 46 (.callF 60 [XhP]),oM 43 Xin,oE 47 0 Xhz,oE 48 1 Xhz,oE 49 2 Xhz,oM 9 Xh7,oM 10 XiP,oM 11 XiL]
def k72_9:VC:=.reg [oM 50 Xb7,oD 51 (.bin .geq XiR (.const (.int .i64 0)))]
def XSg:VC:=.reg [oM 52 τ1,oM 53 τ1,oM 54 τ1,oM 55 τ9,oM 56 Xcd,oD 57 (.nilCheck XjM),oD 58 (.fieldA 10 XkP),oN (.store 1 XkW (.const (.bool true))),oD 59 (.nilCheck XjZ),oD 60 (.fieldA 11 Xlf),oN (.store 1 XlW XkZ),oD 61 (.nilCheck Xk1),oD 62 (.fieldA 12 Xl9),oN (.store 1 XmV Xk7)]
def XMN:VC:=.cond XiQ XSg .skip
def XRt:VC:=.seq k72_9 XMN
def XRg:VC:=.seq k72_8 XRt
def XOa:VC:=.reg [oM 63 τ7,oD 64 (.lenS Xox),oM 4 Xoh,oD 5 (.mv (.const (.int .i64 0)))]
def XT0:VC:=.seq XOa .ret
def XRv:VC:=.seq XRg XT0
def XYl:VC:=.seq k72_7 XRv
def XM9:VC:=.seq k72_6 XYl
def XPB:VC:=.seq k72_1 XM9
def XA5:VC:=.seq k72_0 XPB
def fn72:VFn:=⟨65,XA5,[.tmp 4,.tmp 5]⟩
def XZ9:VC:=.reg [oD 4 (.box τ1),oD 5 (.box τ2),oD 6 (.alloc [(.int .i64 0),(.int .i64 0),(.int .u32 0),(.int .u32 0),(.int .i64 0),(.int .i64 0),(.int .i64 0),(.string ⟨⟨[]⟩⟩)]),oD 7 (.mv (.const (.string ⟨⟨[]⟩⟩))),oD 8 (.mv (.const (.int .i64 0)))]
def X4R:VC:=.reg [oM 16 τ0,oD 17 (.lenS Xdp),oD 18 (.bin .lss Xdn (.const (.int .i64 20)))]
def XLO:VC:=.reg [oD 19 (.build [(.int .i64 0),(.int .i64 0),(.int .u32 0),(.int .u32 0),(.int .i64 0),(.int .i64 0),(.int .i64 0),(.string ⟨⟨[]⟩⟩)] []),oN (.store 8 τ6 XdM),oD 7 (.mv (.const (.string ⟨⟨[]⟩⟩))),oD 8 (.mv (.const (.int .i64 2)))]
def XQI:VC:=.seq XLO .ret
def XMd:VC:=.cond XdW XQI .skip
def XSn:VC:=.seq X4R XMd
def XSc:VC:=.regD [oM 20 τ0,oD 21 (.idxS Xea (.const (.int .i64 12))),oD 22 (.bin .shr Xeh (.const (.int .u64 4))),oD 23 (.conv .i64 XeF),oM 24 τ0,oD 25 (.idxS XeB (.const (.int .i64 12))),oD 26 (.bin .and XeW (.const (.int .u8 15))),oM 9 XeO] [] [oM 10 Xeq]
def XVr:VC:=.reg [oM 27 τ9,oD 28 (.bin .mul (.const (.int .i64 4)) XeV),oM 11 XeP]
def XP1:VC:=.reg [oM 30 Xb7,oD 31 (.bin .lss Xfz (.const (.int .i64 20))),oM 32 Xfv,oG 33 (.mv Xcd) 32 false,oG 34 (.bin .neq XfC (.const (.int .u8 0))) 32 false,oD 35 (.pick XfB (.const (.bool true)) XfE),oM 29 XfJ]
def XYN:VC:=.reg [oD 36 (.build [(.int .i64 0),(.int .i64 0),(.int .u32 0),(.int .u32 0),(.int .i64 0),(.int .i64 0),(.int .i64 0),(.string ⟨⟨[]⟩⟩)] []),oN (.store 8 τ6 XfV),oD 7 (.mv (.const (.string ⟨⟨[]⟩⟩))),oD 8 (.mv (.const (.int .i64 3)))]
def XKK:VC:=.seq XYN .ret
def XEf:VC:=.reg [oM 38 Xb7,oM 39 τ0,oD 40 (.lenS XgH),oD 41 (.bin .gtr XgL Xhx),oM 37 Xht]
def XDU:VC:=.reg [oD 42 (.build [(.int .i64 0),(.int .i64 0),(.int .u32 0),(.int .u32 0),(.int .i64 0),(.int .i64 0),(.int .i64 0),(.string ⟨⟨[]⟩⟩)] []),oN (.store 8 τ6 Xhs),oD 7 (.mv (.const (.string ⟨⟨[]⟩⟩))),oD 8 (.mv (.const (.int .i64 2)))]
def XD8:VC:=.seq XDU .ret
def XEr:VC:=.cond XfA XD8 .skip
def XIj:VC:=.seq XEf XEr
def XGg:VC:=.cond Xe4 XKK XIj
def XB6:VC:=.seq XP1 XGg
def XD4:VC:=.block 0 XB6
def XFB:VC:=.reg [oD 43 (.loadN [.bool,(.int .u64),(.int .u64)] τ4),oD 44 (.loadN [.bool,(.int .u64),(.int .u64)] τ5),oM 45 τ0,oD 46 (.lenS XhP),oD 47 (.callF 109 [Xhz,Xh4,(.const (.int .i64 6)),Xin]),oM 12 Xh7]
def XHb:VC:=.reg [oM 49 XcZ,oD 50 (.bin .eql XiL (.const (.string ⟨⟨[]⟩⟩))),oM 48 XiR]
def XEO:VC:=.reg [oD 51 (.build [(.int .i64 0),(.int .i64 0),(.int .u32 0),(.int .u32 0),(.int .i64 0),(.int .i64 0),(.int .i64 0),(.string ⟨⟨[]⟩⟩)] []),oN (.store 8 τ6 XiQ),oD 7 (.mv (.const (.string ⟨⟨[]⟩⟩))),oD 8 (.mv (.const (.int .i64 1)))]
def XC2:VC:=.seq XEO .ret
def XJz:VC:=.reg [oM 53 XcZ,oM 54 τ0,oD 55 (.bin .add XjZ Xk1),oD 56 (.callF 131 [XkZ]),oD 57 (.not Xk7),oM 52 XkP]
def XF5:VC:=.reg [oD 58 (.build [(.int .i64 0),(.int .i64 0),(.int .u32 0),(.int .u32 0),(.int .i64 0),(.int .i64 0),(.int .i64 0),(.string ⟨⟨[]⟩⟩)] []),oN (.store 8 τ6 XkW),oD 7 (.mv (.const (.string ⟨⟨[]⟩⟩))),oD 8 (.mv (.const (.int .i64 4)))]
def XEq:VC:=.seq XF5 .ret
def XJn:VC:=.cond XjM XEq .skip
def XHI:VC:=.seq XJz XJn
def XEK:VC:=.cond XiP XC2 XHI
def XGJ:VC:=.seq XHb XEK
def XFZ:VC:=.block 1 XGJ
def XD3:VC:=.reg [oM 59 τ0,oM 60 Xb7,oD 61 (.callF 132 [Xlf,XlW]),oD 13 (.alloc [(.int .i64 0),(.int .i64 0),(.int .u32 0),(.int .u32 0),(.int .i64 0),(.int .i64 0),(.int .i64 0),(.string ⟨⟨[]⟩⟩)]),oN (.store 8 Xc0 Xl9)]
def XIv:VC:=.reg [oD 63 (.fieldA 7 Xc0),oD 64 (.load1 .str Xox),oD 65 (.callF 102 [Xoh]),oM 62 XoD,oE 66 0 XmV,oE 67 1 XmV,oM 14 XoJ,oM 15 XoF]
def XIL:VC:=.reg [oM 68 Xdm,oD 69 (.bin .neq Xo6 (.const (.int .i64 0)))]
def XDQ:VC:=.reg [oD 70 (.build [(.int .i64 0),(.int .i64 0),(.int .u32 0),(.int .u32 0),(.int .i64 0),(.int .i64 0),(.int .i64 0),(.string ⟨⟨[]⟩⟩)] []),oM 71 Xdm,oN (.store 8 τ6 XqW),oD 7 (.mv (.const (.string ⟨⟨[]⟩⟩))),oM 8 Xrk]
def XIP:VC:=.seq XDQ .ret
def XCF:VC:=.cond XoS XIP .skip
def XB9:VC:=.seq XIL XCF
def XIB:VC:=.seq XIv XB9
def XKs:VC:=.regD [oD 72 (.loadN [(.int .i64),(.int .i64),(.int .u32),(.int .u32),(.int .i64),(.int .i64),(.int .i64),.str] Xc0),oM 73 τ0,oM 74 Xb7,oD 75 (.sliceS XsD (some Xtu) none),oN (.store 8 τ6 Xrb)] [] [oM 7 Xs2,oD 8 (.mv (.const (.int .i64 0)))]
def XFG:VC:=.seq XKs .ret
def XJ6:VC:=.seq XIB XFG
def XH1:VC:=.seq XD3 XJ6
def XE3:VC:=.seq XFZ XH1
def XD2:VC:=.seq XFB XE3
def XE9:VC:=.seq XD4 XD2
def XDf:VC:=.seq XVr XE9
def XFv:VC:=.seq XSc XDf
def XCg:VC:=.seq XSn XFv
def XsS:VC:=.seq XZ9 XCg
def XZU:VFn:=⟨76,XsS,[.cell 6 [(.int .i64),(.int .i64),(.int .u32),(.int .u32),(.int .i64),(.int .i64),(.int .i64),.str] true,.tmp 7,.tmp 8]⟩
def XO0:VC:=.reg [oD 4 (.box τ0),oD 5 (.box τ1),oD 8 (.mv (.const (.string ⟨⟨[]⟩⟩)))]
def X0E:VC:=.reg [oD 10 (.loadN [.bool,(.int .u64),(.int .u64)] τ4),oD 11 (.callF 113 [Xcd]),oD 12 (.not Xb7),oM 13 XcZ,oG 14 (.loadN [.bool,(.int .u64),(.int .u64)] τ5) 13 false,oG 15 (.callF 113 [Xdo]) 13 false,oG 16 (.not Xdm) 13 false,oD 17 (.pick Xc0 (.const (.bool true)) Xdp),oM 18 Xdn,oG 19 (.fieldA 0 τ4) 18 false,oG 20 (.load1 .bool XdM) 18 false,oG 21 (.fieldA 0 τ5) 18 false,oG 22 (.load1 .bool Xeh) 18 false,oG 23 (.eqB true Xea XeF) 18 false,oD 24 (.pick XdW (.const (.bool true)) XeO)]
def X0u:VC:=.reg [oD 8 (.mv (.const (.string ⟨⟨[]⟩⟩)))]
def XPO:VC:=.seq X0u .ret
def XZS:VC:=.cond XeB XPO .skip
def XR3:VC:=.seq X0E XZS
def XSU:VC:=.regD [oD 25 (.loadN [.bool,(.int .u64),(.int .u64)] τ4),oD 26 (.callF 80 [XeW]),oD 27 (.loadN [.bool,(.int .u64),(.int .u64)] τ5)] [(1,2)] [oD 28 (.callF 80 [XeV]),oD 29 (.bin .add Xeq XeP),oM 9 Xe4]
def XUp:VC:=.reg [oD 30 (.fieldA 0 τ4),oD 31 (.load1 .bool Xfz)]
def XRi:VC:=.reg [oM 32 τ9,oM 33 τ3,oM 34 τ2,oD 35 (.buildSl 6 1 [(.int .i64 0),(.int .i64 0),(.int .i64 0),(.int .i64 0),(.int .i64 0),(.int .i64 0)] [(0,1,XfC),(1,1,(.const (.int .i64 4))),(2,1,(.const (.int .i64 0))),(3,1,(.const (.int .i64 3))),(4,1,XfE),(5,1,(.const (.int .i64 1)))]),oD 36 (.callF 82 [XfJ]),oD 37 (.bin .add XfB XfV),oM 8 XfA]
def X1Z:VC:=.seq XRi .ret
def XLe:VC:=.cond Xfv X1Z .skip
def XCm:VC:=.seq XUp XLe
def XLa:VC:=.reg [oM 38 τ9,oM 39 τ2,oM 40 τ3,oD 41 (.buildSl 6 1 [(.int .i64 0),(.int .i64 0),(.int .i64 0),(.int .i64 0),(.int .i64 0),(.int .i64 0)] [(0,1,(.const (.int .i64 0))),(1,1,(.const (.int .i64 1))),(2,1,XgH),(3,1,(.const (.int .i64 1))),(4,1,Xhx),(5,1,(.const (.int .i64 2)))]),oD 42 (.callF 82 [Xht]),oD 43 (.bin .add XgL Xhs),oM 8 Xhz]
def XFo:VC:=.seq XLa .ret
def XDm:VC:=.seq XCm XFo
def XJv:VC:=.seq XSU XDm
def XD7:VC:=.seq XR3 XJv
def Xum:VC:=.seq XO0 XD7
def XSG:VFn:=⟨44,Xum,[.tmp 8]⟩
def X6b:VC:=.reg [oD 1 (.box τ0),oD 2 (.mv (.const (.bool false)))]
def XYu:VC:=.reg [oD 3 (.fieldA 0 τ1),oD 4 (.load1 .bool τ3),oM 5 τ4,oG 6 (.fieldA 1 τ1) 5 false,oG 7 (.load1 (.int .u64) τ6) 5 false,oG 8 (.bin .eql τ7 (.const (.int .u64 0))) 5 false,oG 9 (.mv τ8) 5 false,oG 10 (.fieldA 2 τ1) 9 true,oG 11 (.load1 (.int .u64) Xcd) 9 true,oG 12 (.bin .lss Xb7 (.const (.int .u64 4294967296))) 9 true,oG 13 (.pick τ9 XcZ (.const (.bool false))) 5 false,oD 14 (.pick τ5 (.const (.bool true)) Xc0),oM 2 Xdo]
def XSD:VC:=.seq XYu .ret
def XAr:VC:=.seq X6b XSD
def XUD:VFn:=⟨15,XAr,[.tmp 2]⟩
def k80_0:VC:=.reg [oD 1 (.box τ0),oD 2 (.mv (.const (.string ⟨⟨[]⟩⟩)))]
def k80_1:VC:=.reg [oD 4 (.loadN [.bool,(.int .u64),(.int .u64)] τ1),oD 5 (.callF 113 [τ4]),oD 6 (.not τ5),oM 3 τ6]
def k80_2:VC:=.reg [oD 2 (.mv (.const (.string ⟨⟨[]⟩⟩)))]
def k80_3:VC:=.seq k80_2 .ret
def k80_4:VC:=.reg [oD 8 (.fieldA 0 τ1),oD 9 (.load1 .bool τ8),oM 7 τ9]
def k80_5:VC:=.regD [oD 10 (.fieldA 1 τ1),oD 11 (.load1 (.int .u64) Xcd),oD 12 (.callF 42 [Xb7,(.const (.int .i64 8))]),oD 13 (.fieldA 2 τ1),oD 14 (.load1 (.int .u64) Xc0)] [(2,4)] [oD 15 (.callF 42 [Xdo,(.const (.int .i64 8))]),oD 16 (.bin .add XcZ Xdm),oM 2 Xdp]
def k80_6:VC:=.seq k80_5 .ret
def k80_7:VC:=.cond τ7 k80_6 .skip
def k80_8:VC:=.seq k80_4 k80_7
def k80_9:VC:=.cond τ3 k80_3 k80_8
def X5P:VC:=.seq k80_1 k80_9
def X4O:VC:=.block 0 X5P
def X0L:VC:=.reg [oD 17 (.fieldA 2 τ1),oD 18 (.load1 (.int .u64) Xdn),oD 19 (.callF 42 [XdW,(.const (.int .i64 4))]),oM 2 XdM]
def X4G:VC:=.seq X0L .ret
def XTg:VC:=.seq X4O X4G
def XBP:VC:=.seq k80_0 XTg
def fn80:VFn:=⟨20,XBP,[.tmp 2]⟩
def k42_0:VC:=.reg [oD 4 (.mv (.const (.string ⟨⟨[]⟩⟩)))]
def k42_1:VC:=.reg [oM 7 τ1,oD 8 (.bin .lss τ7 (.const (.int .i64 1))),oM 9 τ8,oG 10 (.mv τ1) 9 false,oG 11 (.bin .gtr Xcd (.const (.int .i64 8))) 9 false,oD 12 (.pick τ9 (.const (.bool true)) Xb7)]
def k42_2:VC:=.reg [oD 4 (.mv (.const (.string ⟨⟨[]⟩⟩)))]
def k42_3:VC:=.seq k42_2 .ret
def k42_4:VC:=.cond XcZ k42_3 .skip
def k42_5:VC:=.seq k42_1 k42_4
def k42_6:VC:=.reg [oM 13 τ1,oD 14 (.mkSl 1 1 [(.int .u8 0)] Xc0 Xc0),oM 5 Xdo]
def k42_7:VC:=.reg [oM 15 τ5,oD 16 (.lenL Xdm),oD 17 (.mv (.const (.int .i64 0)))]
def k42_8:VC:=.reg [oD 18 (.bin .lss Xdn Xdp)]
def k42_9:VC:=.cond XdW .skip (.exit 0)
def XMU:VC:=.reg [oM 19 Xdn,oM 6 XdM]
def X4y:VC:=.reg [oM 20 τ5,oM 21 τ6,oM 22 τ0,oM 23 τ1,oD 24 (.bin .sub XeO (.const (.int .i64 1))),oM 25 τ6,oD 26 (.bin .sub XeB XeW),oD 27 (.bin .mul (.const (.int .i64 8)) Xeq),oD 28 (.bin .shr XeF XeV),oD 29 (.conv .u8 XeP),oD 30 (.idxAL 1 Xea Xeh),oN (.store 1 Xfz Xe4)]
def X3Y:VC:=.seq XMU X4y
def X3O:VC:=.block 1 X3Y
def XPi:VC:=.reg [oD 31 (.bin .add Xdn (.const (.int .i64 1))),oM 17 Xfv]
def X13:VC:=.seq X3O XPi
def XNO:VC:=.seq k42_9 X13
def Xux:VC:=.seq k42_8 XNO
def X4i:VC:=.loop Xux
def XUG:VC:=.block 0 X4i
def X51:VC:=.seq k42_7 XUG
def XUi:VC:=.reg [oM 32 τ5,oD 33 (.b2s XfB),oM 4 XfC]
def Xzh:VC:=.seq XUi .ret
def X4e:VC:=.seq X51 Xzh
def XTf:VC:=.seq k42_6 X4e
def XRQ:VC:=.seq k42_5 XTf
def XzR:VC:=.seq k42_0 XRQ
def fn42:VFn:=⟨34,XzR,[.tmp 4]⟩
def k82_0:VC:=.reg [oD 2 (.mv (.const (.string ⟨⟨[]⟩⟩)))]
def k82_1:VC:=.reg [oD 3 (.allocB 184 5)]
def k82_2:VC:=.reg [oD 4 (.mv (.const (.int .i64 0)))]
def k82_3:VC:=.reg [oM 5 τ4,oD 6 (.bin .add τ5 (.const (.int .i64 1))),oM 7 τ0,oD 8 (.lenL τ7),oD 9 (.bin .lss τ6 τ8)]
def k82_4:VC:=.cond τ9 .skip (.exit 0)
def k82_5:VC:=.seq k82_3 k82_4
def k82_6:VC:=.regD [oM 12 τ0,oM 13 τ4,oD 14 (.idxAL 1 XcZ Xc0),oD 15 (.load1 (.int .i64) Xdo),oD 16 (.conv .u64 Xdm),oM 17 τ0,oM 18 τ4,oD 19 (.bin .add XdW (.const (.int .i64 1))),oD 20 (.idxAL 1 Xdn XdM),oD 21 (.load1 (.int .i64) Xea)] [] [oD 22 (.callF 42 [Xdp,Xeh]),oD 23 (.callF 116 [τ3,XeF])]
def k82_7:VC:=.block 1 k82_6
def k82_8:VC:=.reg [oM 10 τ4,oD 11 (.bin .add Xcd (.const (.int .i64 2))),oM 4 Xb7]
def k82_9:VC:=.seq k82_7 k82_8
def XtC:VC:=.seq k82_5 k82_9
def XVZ:VC:=.loop XtC
def X1l:VC:=.block 0 XVZ
def XPI:VC:=.seq k82_2 X1l
def X0p:VC:=.reg [oD 24 (.callF 117 [τ3]),oM 2 XeB]
def XzI:VC:=.seq X0p .ret
def XYI:VC:=.seq XPI XzI
def XXr:VC:=.seq k82_1 XYI
def XzH:VC:=.seq k82_0 XXr
def fn82:VFn:=⟨25,XzH,[.tmp 2]⟩
def XR5:VC:=.reg [oD 4 (.mv (.const (.int .i64 0))),oM 5 (.const .nilIface)]
def XNk:VC:=.reg [oM 6 τ0,oD 7 (.callF 133 [τ6])]
def X5w:VC:=.reg [oM 8 τ0,oM 9 τ0,oD 10 (.nilCheck τ9),oD 11 (.fieldA 1 Xcd),oD 12 (.load1 .oth Xb7),oM 13 τ1,oD 14 (.app 5 1 1 XcZ Xc0),oD 15 (.nilCheck τ8),oD 16 (.fieldA 1 Xdm),oN (.store 1 Xdp Xdo)]
def XYY:VC:=.reg [oM 17 τ1,oD 18 (.lenS Xdn),oM 4 XdW,oM 5 (.const .nilIface)]
def XZk:VC:=.seq XYY .ret
def XSJ:VC:=.seq X5w XZk
def X1P:VC:=.seq XNk XSJ
def XNc:VC:=.seq XR5 X1P
def XY8:VFn:=⟨19,XNc,[.tmp 4,.tmp 5]⟩
def XXt:VC:=.reg [oM 2 τ0,oD 3 (.nilCheck τ2),oD 4 (.fieldA 0 τ3),oD 5 (.load1 .oth τ4),oD 6 (.isNil 0 false τ5)]
def X6r:VC:=.reg [oM 7 τ0,oM 8 τ0,oD 9 (.toU τ8),oM 10 τ9,oD 11 (.ofU 184 2 Xcd),oD 12 (.nilCheck τ7),oD 13 (.fieldA 0 XcZ),oN (.store 1 Xc0 Xb7)]
def X5X:VC:=.reg [oM 14 τ0,oD 15 (.nilCheck Xdo),oD 16 (.fieldA 0 Xdm),oD 17 (.load1 .oth Xdp),oM 18 τ0,oD 19 (.eqP true Xdn XdW)]
def XLQ:VC:=.cond XdM .stuck .skip
def XVy:VC:=.seq X5X XLQ
def XMa:VC:=.cond τ6 X6r XVy
def XLU:VC:=.seq XXt XMa
def X5W:VFn:=⟨20,XLU,[]⟩
def X1p:VC:=.reg [oD 2 (.mv (.const (.string ⟨⟨[]⟩⟩)))]
def XPW:VC:=.regD [oM 3 τ0,oD 4 (.nilCheck τ3),oD 5 (.fieldA 1 τ4),oD 6 (.load1 .oth τ5),oD 7 (.sdata τ6),oM 8 τ0,oD 9 (.nilCheck τ8),oD 10 (.fieldA 1 τ9),oD 11 (.load1 .oth Xcd),oD 12 (.lenL Xb7)] [] [oD 13 (.ustr 5 τ7 XcZ),oM 2 Xc0]
def XZ7:VC:=.seq XPW .ret
def X6I:VC:=.seq X1p XZ7
def XMR:VFn:=⟨14,X6I,[.tmp 2]⟩
def X5m:VC:=.reg [oD 4 (.alloc [(.int .i64 0),(.int .i64 0),(.int .u32 0),(.int .u32 0),(.int .i64 0),(.int .i64 0),(.int .i64 0),(.string ⟨⟨[]⟩⟩)])]
def X1n:VC:=.reg [oM 7 τ0,oD 8 (.callF 61 [τ7]),oM 5 τ8]
def XQ0:VC:=.reg [oM 9 τ5,oD 10 (.callF 62 [τ9,(.const (.int .i64 2))]),oM 11 τ5,oD 12 (.callF 62 [Xb7,(.const (.int .i64 2))]),oM 13 τ5,oD 14 (.callF 62 [Xc0,(.const (.int .i64 4))]),oD 15 (.conv .u32 Xdo),oM 16 τ5,oD 17 (.callF 62 [Xdp,(.const (.int .i64 4))]),oD 18 (.conv .u32 Xdn),oD 19 (.build [(.int .i64 0),(.int .i64 0),(.int .u32 0),(.int .u32 0),(.int .i64 0),(.int .i64 0),(.int .i64 0),(.string ⟨⟨[]⟩⟩)] [(0,1,Xcd),(1,1,XcZ),(2,1,Xdm),(3,1,XdW)]),oD 6 (.alloc [(.int .i64 0),(.int .i64 0),(.int .u32 0),(.int .u32 0),(.int .i64 0),(.int .i64 0),(.int .i64 0),(.string ⟨⟨[]⟩⟩)]),oN (.store 8 τ6 XdM)]
def X69:VC:=.reg [oM 20 τ5,oD 21 (.callF 62 [Xea,(.const (.int .i64 2))]),oD 22 (.bin .and Xeh (.const (.int .i64 255))),oD 23 (.fieldA 4 τ6),oN (.store 1 XeO XeF)]
def XVd:VC:=.reg [oM 24 τ5,oD 25 (.callF 62 [XeB,(.const (.int .i64 2))]),oD 26 (.fieldA 5 τ6),oN (.store 1 Xeq XeW)]
def XZu:VC:=.reg [oM 27 τ5,oD 28 (.callF 62 [XeV,(.const (.int .i64 2))])]
def XPM:VC:=.reg [oM 29 τ5,oD 30 (.callF 62 [Xe4,(.const (.int .i64 2))]),oD 31 (.fieldA 6 τ6),oN (.store 1 Xfv Xfz)]
def XZ1:VC:=.reg [oM 32 τ5,oM 33 τ1,oD 34 (.bin .sub XfC (.const (.int .i64 20))),oD 35 (.callF 64 [XfB,XfE]),oD 36 (.fieldA 7 τ6),oN (.store 1 XfV XfJ)]
def XZf:VC:=.reg [oD 37 (.loadN [(.int .i64),(.int .i64),(.int .u32),(.int .u32),(.int .i64),(.int .i64),(.int .i64),.str] τ6),oN (.store 8 τ4 XfA)]
def XRT:VC:=.seq XZf .ret
def XG6:VC:=.seq XZ1 XRT
def XCY:VC:=.seq XPM XG6
def XCk:VC:=.seq XZu XCY
def XFV:VC:=.seq XVd XCk
def XHo:VC:=.seq X69 XFV
def XCU:VC:=.seq XQ0 XHo
def XGT:VC:=.seq X1n XCU
def XuY:VC:=.seq X5m XGT
def XMr:VFn:=⟨38,XuY,[.cell 4 [(.int .i64),(.int .i64),(.int .u32),(.int .u32),(.int .i64),(.int .i64),(.int .i64),.str] true]⟩
def XV2:VC:=.reg [oD 2 (.alloc [(.slice none 0 0)]),oD 3 (.alloc [(.int .i64 0)])]
def X0y:VC:=.reg [oD 4 (.alloc [(.slice none 0 0)])]
def X39:VC:=.reg [oM 6 τ0,oD 7 (.callF 103 [τ6])]
def Xz0:VC:=.reg [oD 5 (.alloc [(.int .i64 0),(.string ⟨⟨[]⟩⟩),(.int .i64 0)]),oN (.store 3 τ5 τ8)]
def XXH:VC:=.reg [oD 9 (.fieldA 2 τ5),oD 10 (.load1 (.int .i64) τ9),oD 11 (.bin .lss Xcd (.const (.int .i64 0)))]
def XSA:VC:=.reg [oN (.store 1 τ2 (.const (.slice none 0 0))),oN (.store 1 τ3 (.const (.int .i64 3)))]
def XRX:VC:=.seq XSA .ret
def XPF:VC:=.cond Xb7 XRX .skip
def XS4:VC:=.seq XXH XPF
def XYS:VC:=.reg [oD 12 (.load1 .oth τ4),oD 13 (.fieldA 0 τ5),oD 14 (.loadN [(.int .i64),.str] Xc0),oD 15 (.buildSl 1 2 [(.int .i64 0),(.string ⟨⟨[]⟩⟩)] [(0,2,Xdo)]),oD 16 (.app 161 2 24 XcZ Xdm),oN (.store 1 τ4 Xdp)]
def XDo:VC:=.seq XS4 XYS
def XuG:VC:=.block 1 XDo
def XK6:VC:=.rangeF τ7 [8] Xz0 XuG
def XDy:VC:=.block 0 XK6
def XF9:VC:=.seq X39 XDy
def XJy:VC:=.reg [oD 17 (.load1 .oth τ4),oN (.store 1 τ2 Xdn),oN (.store 1 τ3 (.const (.int .i64 0)))]
def XtJ:VC:=.seq XJy .ret
def XKE:VC:=.seq XF9 XtJ
def XIf:VC:=.seq X0y XKE
def XuN:VC:=.seq XV2 XIf
def XXO:VFn:=⟨18,XuN,[.cell 2 [.oth] false,.cell 3 [(.int .i64)] false]⟩
def X5Q:VC:=.reg [oD 1 (.box τ0),oM 2 (.const .nilFunc)]
def X0c:VC:=.reg [oD 3 (.mkFunc 125 [] [τ1]),oM 2 τ3]
def XSX:VC:=.seq X0c .ret
def XY7:VC:=.seq X5Q XSX
def X3r:VFn:=⟨4,XY7,[.tmp 2]⟩
def XRJ:VC:=.reg [oD 3 (.mv (.const (.int .i64 0)))]
def XTn:VC:=.reg [oM 5 τ3,oD 6 (.load1 .str τ1),oD 7 (.lenS τ6),oD 8 (.bin .lss τ5 τ7)]
def X6s:VC:=.cond τ8 .skip (.exit 0)
def XWR:VC:=.seq XTn X6s
def XPC:VC:=.reg [oD 9 (.load1 .str τ1),oM 10 τ3,oD 11 (.idxS τ9 Xcd)]
def X1y:VC:=.reg [oD 13 (.bin .eql Xb7 (.const (.int .u8 0))),oM 12 Xc0]
def XL8:VC:=.reg [oD 15 (.bin .eql Xb7 (.const (.int .u8 1))),oM 14 Xdm]
def X0g:VC:=.reg [oM 16 τ3,oD 17 (.bin .add Xdp (.const (.int .i64 1))),oM 3 Xdn]
def X1h:VC:=.seq X0g (.exit 1)
def X62:VC:=.cond Xdo X1h .skip
def XIK:VC:=.seq XL8 X62
def XKF:VC:=.cond XcZ .ret XIK
def XHS:VC:=.seq X1y XKF
def XH5:VC:=.block 2 XHS
def XGM:VC:=.seq XPC XH5
def XKj:VC:=.reg [oD 4 (.mv (.const (.int .i64 0)))]
def XE4:VC:=.reg [oM 18 τ3,oD 19 (.bin .add XdW (.const (.int .i64 1))),oD 20 (.load1 .str τ1),oD 21 (.lenS Xea),oD 22 (.bin .lss XdM Xeh)]
def XIZ:VC:=.reg [oD 23 (.load1 .str τ1),oM 24 τ3,oD 25 (.bin .add XeB (.const (.int .i64 1))),oD 26 (.idxS XeO XeW),oD 27 (.conv .i64 Xeq),oM 4 XeV]
def XDd:VC:=.cond XeF XIZ .skip
def XHa:VC:=.seq XE4 XDd
def XDa:VC:=.reg [oM 28 τ4,oD 29 (.bin .lss XeP (.const (.int .i64 2))),oM 30 Xe4,oG 31 (.mv τ4) 30 false,oG 32 (.load1 .str τ1) 30 false,oG 33 (.lenS XfB) 30 false,oG 34 (.mv τ3) 30 false,oG 35 (.bin .sub XfC XfE) 30 false,oG 36 (.bin .gtr Xfv XfJ) 30 false,oD 37 (.pick Xfz (.const (.bool true)) XfV)]
def XEa:VC:=.reg [oM 38 τ0,oD 39 (.build [(.int .i64 0),(.string ⟨⟨[]⟩⟩),(.int .i64 0)] [(2,1,(.const (.int .i64 (-1))))]),oD 40 (.callV XgL [XgH])]
def XJW:VC:=.seq XEa .ret
def XIE:VC:=.cond XfA XJW .skip
def XDp:VC:=.seq XDa XIE
def XEb:VC:=.regD [oM 41 τ0,oD 42 (.load1 .str τ1),oM 43 τ3,oD 44 (.idxS Xhs Xhz),oD 45 (.conv .i64 Xh4),oD 46 (.load1 .str τ1),oM 47 τ3,oD 48 (.bin .add Xh7 (.const (.int .i64 2))),oM 49 τ3,oM 50 τ4,oD 51 (.bin .add XiL XiR),oD 52 (.sliceS Xin (some XiP) (some XiQ)),oD 53 (.build [(.int .i64 0),(.string ⟨⟨[]⟩⟩)] [(0,1,XhP),(1,1,XjM)]),oM 54 τ3,oD 55 (.bin .add Xk1 (.const (.int .i64 2))),oD 56 (.build [(.int .i64 0),(.string ⟨⟨[]⟩⟩),(.int .i64 0)] [(0,2,XjZ),(2,1,XkZ)])] [] [oD 57 (.callV Xht [Xk7]),oD 58 (.not XkP)]
def XD1:VC:=.cond XkW .ret .skip
def XJh:VC:=.seq XEb XD1
def XEd:VC:=.reg [oM 59 τ3,oM 60 τ4,oD 61 (.bin .add Xlf XlW),oM 3 Xl9]
def XEt:VC:=.seq XJh XEd
def XH6:VC:=.seq XDp XEt
def XEx:VC:=.seq XHa XH6
def XFK:VC:=.seq XKj XEx
def XDB:VC:=.seq XGM XFK
def XKn:VC:=.block 1 XDB
def Xmb:VC:=.seq XWR XKn
def XEN:VC:=.loop Xmb
def XKW:VC:=.block 0 XEN
def XGe:VC:=.seq XRJ XKW
def X3G:VFn:=⟨62,XGe,[]⟩
def k60_0:VC:=.reg [oD 2 (.alloc [(.int .u32 0)]),oD 3 (.alloc [(.int .u32 0)]),oD 4 (.alloc [(.int .i64 0)])]
def k60_1:VC:=.reg [oM 11 τ0,oD 12 (.callF 102 [Xb7]),oM 10 XcZ,oE 13 0 Xcd,oE 14 1 Xcd,oM 5 Xc0,oM 6 Xdo]
def k60_2:VC:=.reg [oM 15 τ6,oD 16 (.bin .neq Xdm (.const (.int .i64 0)))]
def k60_3:VC:=.reg [oN (.store 1 τ2 (.const (.int .u32 0))),oN (.store 1 τ3 (.const (.int .u32 0))),oN (.store 1 τ4 (.const (.int .i64 (-1))))]
def k60_4:VC:=.seq k60_3 .ret
def k60_5:VC:=.cond Xdp k60_4 .skip
def k60_6:VC:=.seq k60_2 k60_5
def k60_7:VC:=.seq k60_1 k60_6
def k60_8:VC:=.reg [oM 17 τ0,oD 18 (.callF 103 [Xdn])]
def X0Y:VC:=.reg [oD 7 (.alloc [(.int .i64 0),(.string ⟨⟨[]⟩⟩),(.int .i64 0)]),oN (.store 3 τ7 XdM)]
def XP6:VC:=.reg [oD 20 (.fieldA 0 τ7),oD 21 (.fieldA 0 Xea),oD 22 (.load1 (.int .i64) Xeh),oD 23 (.bin .neq XeF (.const (.int .i64 8)))]
def X3e:VC:=.cond XeO (.exit 1) .skip
def X5H:VC:=.seq XP6 X3e
def XXG:VC:=.reg [oD 25 (.fieldA 0 τ7),oD 26 (.fieldA 1 XeW),oD 27 (.load1 .str Xeq),oD 28 (.callF 40 [XeV,(.const (.int .i64 0)),(.const (.int .i64 8))]),oM 24 XeP,oE 29 0 XeB,oE 30 1 XeB,oM 8 Xe4,oM 9 Xfz]
def X6x:VC:=.reg [oM 31 τ9,oM 32 Xfv,oG 33 (.fieldA 0 τ7) 32 true,oG 34 (.fieldA 1 XfC) 32 true,oG 35 (.load1 .str XfE) 32 true,oG 36 (.lenS XfJ) 32 true,oG 37 (.bin .eql XfV (.const (.int .i64 8))) 32 true,oD 38 (.pick XfB XfA (.const (.bool false)))]
def X2I:VC:=.regD [oM 39 τ8,oD 40 (.bin .shr XgH (.const (.int .u64 32))),oD 41 (.conv .u32 Xhx),oM 42 τ8,oD 43 (.conv .u32 Xhs),oD 44 (.fieldA 2 τ7),oD 45 (.load1 (.int .i64) Xh4),oN (.store 1 τ2 Xht),oN (.store 1 τ3 Xhz)] [(6,7),(6,8)] [oN (.store 1 τ4 XhP)]
def XQx:VC:=.seq X2I .ret
def XUl:VC:=.cond XgL XQx .skip
def XRk:VC:=.seq X6x XUl
def X30:VC:=.seq XXG XRk
def XTG:VC:=.seq X30 (.exit 0)
def XVc:VC:=.seq X5H XTG
def XBi:VC:=.block 1 XVc
def X3s:VC:=.rangeF XdW [19] X0Y XBi
def XR7:VC:=.block 0 X3s
def XZI:VC:=.seq k60_8 XR7
def X3a:VC:=.reg [oN (.store 1 τ2 (.const (.int .u32 0))),oN (.store 1 τ3 (.const (.int .u32 0))),oN (.store 1 τ4 (.const (.int .i64 (-1))))]
def XzM:VC:=.seq X3a .ret
def X6h:VC:=.seq XZI XzM
def X7I:VC:=.seq k60_7 X6h
def XAN:VC:=.seq k60_0 X7I
def fn60:VFn:=⟨46,XAN,[.cell 2 [(.int .u32)] false,.cell 3 [(.int .u32)] false,.cell 4 [(.int .i64)] false]⟩
def k73_0:VC:=.reg [oD 2 (.box τ0),oD 4 (.mv (.const (.int .i64 0))),oD 5 (.mv (.const (.int .i64 0)))]
def k73_1:VC:=.reg [oD 12 (.fieldA 7 τ2),oD 13 (.load1 .str XcZ),oD 14 (.fieldA 0 τ2),oD 15 (.loadN [.bool,(.int .u64),(.int .u64)] Xdo),oD 16 (.fieldA 3 τ2),oD 17 (.loadN [.bool,(.int .u64),(.int .u64)] Xdp),oD 18 (.callF 108 [Xc0,Xdm,Xdn]),oM 11 XdW,oE 19 0 Xb7,oE 20 1 Xb7,oE 21 2 Xb7,oD 6 (.alloc [(.int .i64 0),(.int .i64 0)]),oN (.store 2 τ6 XdM),oM 7 Xea,oM 8 Xeh]
def k73_2:VC:=.reg [oM 23 τ8,oD 24 (.bin .neq XeO (.const (.int .i64 0))),oM 22 XeB]
def k73_3:VC:=.reg [oM 25 τ8,oD 4 (.mv (.const (.int .i64 0))),oM 5 XeW]
def k73_4:VC:=.seq k73_3 .ret
def k73_5:VC:=.reg [oM 27 τ7,oD 28 (.lenS XeV),oD 29 (.fieldA 7 τ2),oD 30 (.load1 .str Xe4),oD 31 (.lenS Xfz),oD 32 (.bin .sub Xfv (.const (.int .i64 8))),oD 33 (.bin .neq XeP XfB),oM 26 XfC]
def k73_6:VC:=.reg [oD 4 (.mv (.const (.int .i64 0))),oD 5 (.mv (.const (.int .i64 5)))]
def k73_7:VC:=.seq k73_6 .ret
def k73_8:VC:=.cond Xeq k73_7 .skip
def k73_9:VC:=.seq k73_5 k73_8
def X4S:VC:=.cond XeF k73_4 k73_9
def XUC:VC:=.seq k73_2 X4S
def X66:VC:=.block 0 XUC
def XZC:VC:=.regD [oM 34 τ1,oM 35 τ1,oD 36 (.fieldA 0 τ6),oD 37 (.load1 (.int .i64) XfV),oD 38 (.fieldA 1 τ6),oD 39 (.load1 (.int .i64) XgL),oD 40 (.nilCheck XfE),oD 41 (.fieldA 0 Xhx),oD 42 (.fieldA 7 Xht),oN (.store 1 Xhs XfA)] [(5,9)] [oD 43 (.nilCheck XfJ),oD 44 (.fieldA 0 Xhz),oD 45 (.fieldA 8 Xh4),oN (.store 1 XhP XgH)]
def X2j:VC:=.reg [oM 47 τ7,oD 48 (.callF 39 [Xh7]),oM 46 XiP,oE 49 0 Xin,oE 50 1 Xin,oD 9 (.alloc [(.bool false),(.int .i64 0),(.int .u32 0),(.string ⟨⟨[]⟩⟩),(.string ⟨⟨[]⟩⟩),(.string ⟨⟨[]⟩⟩)]),oN (.store 6 τ9 XiL),oM 10 XiR]
def XX5:VC:=.reg [oM 51 Xcd,oD 52 (.bin .eql XiQ (.const (.int .i64 0)))]
def XL0:VC:=.regD [oM 53 τ1,oM 54 τ1,oD 55 (.fieldA 0 τ9),oD 56 (.load1 .bool XkZ),oD 57 (.fieldA 3 τ9),oD 58 (.load1 .str XkP),oD 59 (.nilCheck XjZ),oD 60 (.fieldA 13 Xlf),oN (.store 1 XlW Xk7)] [(5,8)] [oD 61 (.nilCheck Xk1),oD 62 (.fieldA 14 Xl9),oN (.store 1 XmV XkW)]
def XOH:VC:=.cond XjM XL0 .skip
def X3C:VC:=.seq XX5 XOH
def XZo:VC:=.seq X2j X3C
def X5v:VC:=.reg [oM 63 τ7,oD 64 (.lenS Xox),oM 4 Xoh,oD 5 (.mv (.const (.int .i64 0)))]
def XXd:VC:=.seq X5v .ret
def X0O:VC:=.seq XZo XXd
def X1T:VC:=.seq XZC X0O
def XYa:VC:=.seq X66 X1T
def X4o:VC:=.seq k73_1 XYa
def XAk:VC:=.seq k73_0 X4o
def fn73:VFn:=⟨65,XAk,[.tmp 4,.tmp 5]⟩
def XOO:VC:=.reg [oD 4 (.box τ1),oD 5 (.box τ2),oD 6 (.alloc [(.int .i64 0),(.int .i64 0)]),oD 7 (.mv (.const (.string ⟨⟨[]⟩⟩))),oD 8 (.mv (.const (.int .i64 0)))]
def XMT:VC:=.reg [oM 14 τ0,oD 15 (.callF 61 [Xdo]),oM 9 Xdm]
def XSO:VC:=.reg [oM 16 τ9,oD 17 (.callF 62 [Xdp,(.const (.int .i64 2))]),oM 18 τ9,oD 19 (.callF 62 [XdW,(.const (.int .i64 2))]),oD 20 (.build [(.int .i64 0),(.int .i64 0)] [(0,1,Xdn),(1,1,XdM)]),oD 10 (.alloc [(.int .i64 0),(.int .i64 0)]),oN (.store 2 Xcd Xea)]
def X4t:VC:=.reg [oM 21 τ9,oD 22 (.callF 62 [Xeh,(.const (.int .i64 2))]),oM 23 τ9,oD 24 (.callF 62 [XeO,(.const (.int .i64 2))]),oM 11 XeF,oM 12 XeB]
def XRq:VC:=.reg [oM 26 τ9,oD 27 (.callF 63 [Xeq]),oM 25 XeV]
def XQs:VC:=.reg [oD 28 (.build [(.int .i64 0),(.int .i64 0)] []),oN (.store 2 τ6 XeP),oD 7 (.mv (.const (.string ⟨⟨[]⟩⟩))),oD 8 (.mv (.const (.int .i64 2)))]
def X7D:VC:=.seq XQs .ret
def XRe:VC:=.reg [oM 30 Xb7,oD 31 (.bin .lss Xfz (.const (.int .i64 8))),oM 29 Xfv]
def XWT:VC:=.reg [oD 32 (.build [(.int .i64 0),(.int .i64 0)] []),oN (.store 2 τ6 XfB),oD 7 (.mv (.const (.string ⟨⟨[]⟩⟩))),oD 8 (.mv (.const (.int .i64 3)))]
def X7F:VC:=.seq XWT .ret
def XI9:VC:=.reg [oM 34 Xb7,oM 35 τ0,oD 36 (.lenS XfJ),oD 37 (.bin .gtr XfE XfV),oM 33 XfA]
def XK0:VC:=.reg [oD 38 (.build [(.int .i64 0),(.int .i64 0)] []),oN (.store 2 τ6 XgL),oD 7 (.mv (.const (.string ⟨⟨[]⟩⟩))),oD 8 (.mv (.const (.int .i64 2)))]
def XG9:VC:=.seq XK0 .ret
def XK9:VC:=.cond XfC XG9 .skip
def XJV:VC:=.seq XI9 XK9
def XFy:VC:=.cond Xe4 X7F XJV
def XEQ:VC:=.seq XRe XFy
def XCe:VC:=.cond XeW X7D XEQ
def XKt:VC:=.seq XRq XCe
def XDS:VC:=.block 0 XKt
def XKH:VC:=.reg [oD 39 (.loadN [.bool,(.int .u64),(.int .u64)] τ4),oD 40 (.loadN [.bool,(.int .u64),(.int .u64)] τ5),oM 41 Xb7,oD 42 (.callF 109 [XgH,Xhx,(.const (.int .i64 17)),Xht]),oM 13 Xhs]
def XJT:VC:=.reg [oM 44 Xc0,oD 45 (.bin .eql Xh4 (.const (.string ⟨⟨[]⟩⟩))),oM 43 XhP]
def XE1:VC:=.reg [oD 46 (.build [(.int .i64 0),(.int .i64 0)] []),oN (.store 2 τ6 Xin),oD 7 (.mv (.const (.string ⟨⟨[]⟩⟩))),oD 8 (.mv (.const (.int .i64 1)))]
def XDh:VC:=.seq XE1 .ret
def XEk:VC:=.reg [oM 48 XcZ,oD 49 (.bin .eql XiP (.const (.int .i64 0))),oM 50 XiL,oG 51 (.fieldA 0 τ4) 50 true,oG 52 (.load1 .bool XiQ) 50 true,oD 53 (.pick XiR XjM (.const (.bool false))),oM 47 XjZ]
def XHz:VC:=.reg [oM 54 XcZ,oD 55 (.bin .neq Xk1 (.const (.int .i64 0))),oM 56 XkZ,oG 57 (.mv Xc0) 56 true,oG 58 (.mv τ0) 56 true,oG 59 (.mv Xb7) 56 true,oG 60 (.sliceS XkW none (some Xlf)) 56 true,oG 61 (.bin .add XkP XlW) 56 true,oG 62 (.callF 131 [Xl9]) 56 true,oG 63 (.not XmV) 56 true,oD 64 (.pick Xk7 Xox (.const (.bool false))),oM 47 Xoh]
def XCy:VC:=.cond Xh7 .skip XHz
def XFl:VC:=.seq XEk XCy
def XET:VC:=.reg [oD 65 (.build [(.int .i64 0),(.int .i64 0)] []),oN (.store 2 τ6 XoD),oD 7 (.mv (.const (.string ⟨⟨[]⟩⟩))),oD 8 (.mv (.const (.int .i64 4)))]
def XEE:VC:=.seq XET .ret
def XGn:VC:=.cond Xh7 XEE .skip
def XCb:VC:=.seq XFl XGn
def XJx:VC:=.cond Xhz XDh XCb
def XHT:VC:=.seq XJT XJx
def XFm:VC:=.block 1 XHT
def XI7:VC:=.regD [oD 66 (.loadN [(.int .i64),(.int .i64)] Xcd),oM 67 τ0,oM 68 Xb7,oD 69 (.sliceS XoF (some (.const (.int .i64 8))) (some Xo6)),oN (.store 2 τ6 XoJ)] [] [oM 7 XoS,oD 8 (.mv (.const (.int .i64 0)))]
def XCJ:VC:=.seq XI7 .ret
def XIx:VC:=.seq XFm XCJ
def XLd:VC:=.seq XKH XIx
def XIp:VC:=.seq XDS XLd
def XJq:VC:=.seq X4t XIp
def XFz:VC:=.seq XSO XJq
def XGf:VC:=.seq XMT XFz
def Xvd:VC:=.seq XOO XGf
def XRF:VFn:=⟨70,Xvd,[.cell 6 [(.int .i64),(.int .i64)] true,.tmp 7,.tmp 8]⟩
def k39_0:VC:=.reg [oD 2 (.alloc [(.bool false),(.int .i64 0),(.int .u32 0),(.string ⟨⟨[]⟩⟩),(.string ⟨⟨[]⟩⟩),(.string ⟨⟨[]⟩⟩)]),oD 3 (.mv (.const (.int .i64 0)))]
def k39_1:VC:=.reg [oM 9 τ0,oD 10 (.callF 61 [τ9]),oM 4 Xcd]
def k39_2:VC:=.reg [oM 11 τ4,oD 12 (.callF 62 [Xb7,(.const (.int .i64 1))]),oM 5 XcZ]
def k39_3:VC:=.reg [oM 14 τ4,oD 15 (.callF 63 [Xdo]),oM 13 Xdm]
def k39_4:VC:=.reg [oD 16 (.build [(.bool false),(.int .i64 0),(.int .u32 0),(.string ⟨⟨[]⟩⟩),(.string ⟨⟨[]⟩⟩),(.string ⟨⟨[]⟩⟩)] []),oN (.store 6 τ2 Xdp),oD 3 (.mv (.const (.int .i64 2)))]
def k39_5:VC:=.seq k39_4 .ret
def k39_6:VC:=.reg [oM 18 τ5,oD 19 (.bin .and XdW (.const (.int .i64 64))),oD 20 (.bin .eql XdM (.const (.int .i64 0))),oM 17 Xea]
def k39_7:VC:=.reg [oD 21 (.build [(.bool false),(.int .i64 0),(.int .u32 0),(.string ⟨⟨[]⟩⟩),(.string ⟨⟨[]⟩⟩),(.string ⟨⟨[]⟩⟩)] []),oN (.store 6 τ2 Xeh),oD 3 (.mv (.const (.int .i64 3)))]
def k39_8:VC:=.seq k39_7 .ret
def k39_9:VC:=.cond Xdn k39_8 .skip
def X1M:VC:=.seq k39_6 k39_9
def XPu:VC:=.cond Xc0 k39_5 X1M
def X3k:VC:=.seq k39_3 XPu
def XRW:VC:=.block 0 X3k
def XPw:VC:=.reg [oM 22 τ5,oD 23 (.bin .and XeF (.const (.int .i64 128))),oD 24 (.bin .neq XeO (.const (.int .i64 0))),oM 25 τ5,oD 26 (.bin .and XeW (.const (.int .i64 63))),oD 27 (.build [(.bool false),(.int .i64 0),(.int .u32 0),(.string ⟨⟨[]⟩⟩),(.string ⟨⟨[]⟩⟩),(.string ⟨⟨[]⟩⟩)] [(0,1,XeB),(1,1,Xeq)]),oD 6 (.alloc [(.bool false),(.int .i64 0),(.int .u32 0),(.string ⟨⟨[]⟩⟩),(.string ⟨⟨[]⟩⟩),(.string ⟨⟨[]⟩⟩)]),oN (.store 6 τ6 XeV)]
def XVO:VC:=.reg [oD 28 (.fieldA 0 τ6),oD 29 (.load1 .bool XeP),oD 30 (.not Xe4)]
def X5g:VC:=.reg [oM 31 τ4,oD 32 (.mkFunc 64 [Xfv] []),oM 7 XfB]
def XNH:VC:=.reg [oM 33 τ7,oD 34 (.callV XfC [(.const (.int .i64 8))]),oD 35 (.fieldA 3 τ6),oN (.store 1 XfJ XfE)]
def X0l:VC:=.reg [oM 36 τ4,oD 37 (.callF 63 [XfV])]
def XWm:VC:=.reg [oD 38 (.build [(.bool false),(.int .i64 0),(.int .u32 0),(.string ⟨⟨[]⟩⟩),(.string ⟨⟨[]⟩⟩),(.string ⟨⟨[]⟩⟩)] []),oN (.store 6 τ2 XgL),oD 3 (.mv (.const (.int .i64 2)))]
def X5d:VC:=.seq XWm .ret
def X5F:VC:=.cond XfA X5d .skip
def X1g:VC:=.seq X0l X5F
def X1B:VC:=.seq XNH X1g
def X2a:VC:=.reg [oM 39 τ4,oD 40 (.callF 65 [XgH]),oD 41 (.fieldA 5 τ6),oN (.store 1 Xht Xhx)]
def XUf:VC:=.reg [oD 42 (.loadN [.bool,(.int .i64),(.int .u32),.str,.str,.str] τ6),oN (.store 6 τ2 Xhs),oD 3 (.mv (.const (.int .i64 0)))]
def XMp:VC:=.seq XUf .ret
def XP9:VC:=.seq X2a XMp
def XW5:VC:=.seq X1B XP9
def XNB:VC:=.seq X5g XW5
def X7l:VC:=.cond Xfz XNB .skip
def XQz:VC:=.seq XVO X7l
def X3B:VC:=.reg [oM 43 τ4,oD 44 (.callF 62 [Xhz,(.const (.int .i64 4))]),oD 45 (.conv .u32 Xh4),oD 46 (.fieldA 2 τ6),oN (.store 1 Xin XhP)]
def XSQ:VC:=.reg [oM 47 τ4,oD 48 (.fieldA 3 τ6),oD 49 (.fieldA 4 τ6),oD 50 (.buildSl 2 1 [(.pointer none),(.pointer none)] [(0,1,XiP),(1,1,XiL)]),oD 51 (.callF 66 [(.func 67),Xh7,XiR]),oM 8 XiQ]
def XUH:VC:=.reg [oM 52 τ8,oD 53 (.bin .neq XjM (.const (.int .i64 0)))]
def XWD:VC:=.reg [oD 54 (.build [(.bool false),(.int .i64 0),(.int .u32 0),(.string ⟨⟨[]⟩⟩),(.string ⟨⟨[]⟩⟩),(.string ⟨⟨[]⟩⟩)] []),oM 55 τ8,oN (.store 6 τ2 Xk1),oM 3 XkZ]
def XMb:VC:=.seq XWD .ret
def XN7:VC:=.cond XjZ XMb .skip
def XTm:VC:=.seq XUH XN7
def XYc:VC:=.seq XSQ XTm
def XXb:VC:=.reg [oM 56 τ4,oD 57 (.callF 65 [Xk7]),oD 58 (.fieldA 5 τ6),oN (.store 1 XkW XkP)]
def XTi:VC:=.reg [oD 59 (.loadN [.bool,(.int .i64),(.int .u32),.str,.str,.str] τ6),oN (.store 6 τ2 Xlf),oD 3 (.mv (.const (.int .i64 0)))]
def X6U:VC:=.seq XTi .ret
def X1R:VC:=.seq XXb X6U
def XQR:VC:=.seq XYc X1R
def X4s:VC:=.seq X3B XQR
def XQJ:VC:=.seq XQz X4s
def XTA:VC:=.seq XPw XQJ
def X2h:VC:=.seq XRW XTA
def XLK:VC:=.seq k39_2 X2h
def XUc:VC:=.seq k39_1 XLK
def Xz5:VC:=.seq k39_0 XUc
def fn39:VFn:=⟨60,Xz5,[.cell 2 [.bool,(.int .i64),(.int .u32),.str,.str,.str] true,.tmp 3]⟩
def k65_0:VC:=.reg [oD 2 (.mv (.const (.string ⟨⟨[]⟩⟩)))]
def k65_1:VC:=.reg [oM 3 τ0,oD 4 (.callF 63 [τ3])]
def k65_2:VC:=.reg [oD 2 (.mv (.const (.string ⟨⟨[]⟩⟩)))]
def k65_3:VC:=.seq k65_2 .ret
def k65_4:VC:=.cond τ4 k65_3 .skip
def k65_5:VC:=.seq k65_1 k65_4
def k65_6:VC:=.reg [oM 5 τ0,oM 6 τ0,oD 7 (.nilCheck τ6),oD 8 (.fieldA 0 τ7),oD 9 (.load1 .str τ8),oD 10 (.lenS τ9),oD 11 (.callF 64 [τ5,Xcd]),oM 2 Xb7]
def k65_7:VC:=.seq k65_6 .ret
def k65_8:VC:=.seq k65_5 k65_7
def XZ8:VC:=.seq k65_0 k65_8
def fn65:VFn:=⟨12,XZ8,[.tmp 2]⟩
def k66_0:VC:=.reg [oD 6 (.mv (.const (.int .i64 0)))]
def k66_1:VC:=.reg [oM 11 τ2,oD 12 (.lenL Xb7),oD 13 (.mv (.const (.int .i64 0)))]
def k66_2:VC:=.reg [oD 14 (.bin .lss Xc0 XcZ)]
def k66_3:VC:=.cond Xdo .skip (.exit 0)
def k66_4:VC:=.reg [oD 15 (.idxAL 1 Xb7 Xc0),oD 16 (.load1 .oth Xdm),oM 8 Xdp]
def k66_5:VC:=.reg [oM 18 τ0,oM 19 τ1,oD 20 (.callV XdW [XdM]),oM 17 Xea,oE 21 0 Xdn,oE 22 1 Xdn,oM 9 Xeh,oM 10 XeF]
def k66_6:VC:=.reg [oM 23 Xcd,oD 24 (.bin .neq XeO (.const (.int .i64 0)))]
def k66_7:VC:=.reg [oM 25 Xcd,oM 6 XeW]
def k66_8:VC:=.seq k66_7 .ret
def k66_9:VC:=.cond XeB k66_8 .skip
def XUo:VC:=.seq k66_6 k66_9
def X34:VC:=.reg [oM 26 τ8,oM 27 τ9,oD 28 (.nilCheck Xeq),oN (.store 1 XeP XeV)]
def XXL:VC:=.seq XUo X34
def X1K:VC:=.seq k66_5 XXL
def XXs:VC:=.seq k66_4 X1K
def XTk:VC:=.block 1 XXs
def X5I:VC:=.reg [oD 29 (.bin .add Xc0 (.const (.int .i64 1))),oM 13 Xe4]
def X5T:VC:=.seq XTk X5I
def XNa:VC:=.seq k66_3 X5T
def XO8:VC:=.seq k66_2 XNa
def XR4:VC:=.loop XO8
def XMj:VC:=.block 0 XR4
def X3y:VC:=.seq k66_1 XMj
def XXe:VC:=.reg [oD 6 (.mv (.const (.int .i64 0)))]
def XSk:VC:=.seq XXe .ret
def XY6:VC:=.seq X3y XSk
def X05:VC:=.seq k66_0 XY6
def fn66:VFn:=⟨30,X05,[.tmp 6]⟩
def k67_0:VC:=.reg [oD 2 (.mv (.const (.string ⟨⟨[]⟩⟩))),oD 3 (.mv (.const (.int .i64 0)))]
def k67_1:VC:=.reg [oM 6 τ0,oD 7 (.callF 62 [τ6,(.const (.int .i64 1))]),oM 4 τ7]
def k67_2:VC:=.reg [oM 8 τ0,oD 9 (.callF 63 [τ8]),oD 10 (.not τ9),oM 11 Xcd,oG 12 (.mv τ4) 11 true,oG 13 (.bin .gtr XcZ (.const (.int .i64 20))) 11 true,oD 14 (.pick Xb7 Xc0 (.const (.bool false)))]
def k67_3:VC:=.reg [oD 2 (.mv (.const (.string ⟨⟨[]⟩⟩))),oD 3 (.mv (.const (.int .i64 3)))]
def k67_4:VC:=.seq k67_3 .ret
def k67_5:VC:=.cond Xdo k67_4 .skip
def k67_6:VC:=.seq k67_2 k67_5
def k67_7:VC:=.reg [oM 15 τ0,oM 16 τ4,oD 17 (.callF 64 [Xdm,Xdp]),oM 5 Xdn]
def k67_8:VC:=.reg [oM 18 τ0,oD 19 (.callF 63 [XdW])]
def k67_9:VC:=.reg [oD 2 (.mv (.const (.string ⟨⟨[]⟩⟩))),oD 3 (.mv (.const (.int .i64 2)))]
def X3u:VC:=.seq k67_9 .ret
def X6c:VC:=.cond XdM X3u .skip
def X7K:VC:=.seq k67_8 X6c
def XRj:VC:=.reg [oM 20 τ5,oM 2 Xea,oD 3 (.mv (.const (.int .i64 0)))]
def X2Y:VC:=.seq XRj .ret
def XUL:VC:=.seq X7K X2Y
def XMF:VC:=.seq k67_7 XUL
def X35:VC:=.seq k67_6 XMF
def XUT:VC:=.seq k67_1 X35
def XBq:VC:=.seq k67_0 XUT
def fn67:VFn:=⟨21,XBq,[.tmp 2,.tmp 3]⟩
def k25_0:VC:=.reg [oD 3 (.box τ0),oD 4 (.box τ1),oD 5 (.box τ2),oD 6 (.mv (.const (.string ⟨⟨[]⟩⟩))),oD 7 (.mv (.const (.int .i64 0)))]
def k25_1:VC:=.reg [oD 11 (.loadN [(.int .i64),(.int .i64),(.int .i64),.str] τ3),oD 12 (.loadN [.bool,(.int .u64),(.int .u64)] τ4),oD 13 (.loadN [.bool,(.int .u64),(.int .u64)] τ5),oD 14 (.callF 47 [Xb7,XcZ,Xc0]),oM 10 Xdo,oE 15 0 Xcd,oE 16 1 Xcd,oM 8 Xdm,oM 9 Xdp]
def k25_2:VC:=.reg [oM 18 τ9,oD 19 (.bin .neq XdW (.const (.int .i64 0))),oM 17 XdM]
def k25_3:VC:=.reg [oM 20 τ9,oD 6 (.mv (.const (.string ⟨⟨[]⟩⟩))),oM 7 Xea]
def k25_4:VC:=.seq k25_3 .ret
def k25_5:VC:=.reg [oD 22 (.fieldA 0 τ4),oD 23 (.load1 .bool XeF),oM 21 XeO]
def k25_6:VC:=.reg [oD 24 (.loadN [.bool,(.int .u64),(.int .u64)] τ4),oD 25 (.loadN [.bool,(.int .u64),(.int .u64)] τ5),oD 26 (.build [(.int .i64 0),(.int .i64 0),(.int .i64 0),(.int .i64 0),(.bool false),(.int .u64 0),(.int .u64 0),(.bool false),(.int .u64 0),(.int .u64 0)] [(2,1,(.const (.int .i64 58))),(3,1,(.const (.int .i64 64))),(4,3,XeB),(7,3,XeW)]),oM 27 τ8,oD 28 (.callF 48 [Xeq,XeV]),oE 29 0 XeP,oE 30 1 XeP,oM 6 Xe4,oM 7 Xfz]
def k25_7:VC:=.seq k25_6 .ret
def k25_8:VC:=.cond Xeh k25_7 .skip
def k25_9:VC:=.seq k25_5 k25_8
def XZQ:VC:=.cond Xdn k25_4 k25_9
def XQw:VC:=.seq k25_2 XZQ
def XTc:VC:=.block 0 XQw
def X5n:VC:=.reg [oD 31 (.loadN [.bool,(.int .u64),(.int .u64)] τ4),oD 32 (.loadN [.bool,(.int .u64),(.int .u64)] τ5),oD 33 (.build [(.int .i64 0),(.int .i64 0),(.bool false),(.int .i64 0),(.int .i64 0),(.bool false),(.int .u64 0),(.int .u64 0),(.bool false),(.int .u64 0),(.int .u64 0),(.string ⟨⟨[]⟩⟩)] [(2,1,(.const (.bool true))),(3,1,(.const (.int .i64 64))),(4,1,(.const (.int .i64 1))),(5,3,Xfv),(8,3,XfB)]),oM 34 τ8,oD 35 (.callF 49 [XfC,XfE]),oE 36 0 XfJ,oE 37 1 XfJ,oM 6 XfV,oM 7 XfA]
def XYi:VC:=.seq X5n .ret
def XOG:VC:=.seq XTc XYi
def XVa:VC:=.seq k25_1 XOG
def Xza:VC:=.seq k25_0 XVa
def fn25:VFn:=⟨38,Xza,[.tmp 6,.tmp 7]⟩
def k47_0:VC:=.reg [oD 3 (.box τ0),oD 4 (.box τ1),oD 5 (.box τ2),oD 6 (.mv (.const (.string ⟨⟨[]⟩⟩))),oD 7 (.mv (.const (.int .i64 0)))]
def k47_1:VC:=.reg [oD 13 (.loadN [.bool,(.int .u64),(.int .u64)] τ4),oD 14 (.loadN [.bool,(.int .u64),(.int .u64)] τ5),oD 15 (.fieldA 3 τ3),oD 16 (.load1 .str Xdm),oD 17 (.lenS Xdp),oD 18 (.bin .add (.const (.int .i64 8)) Xdn),oD 19 (.callF 74 [Xc0,Xdo,XdW]),oM 12 XdM,oE 20 0 XcZ,oE 21 1 XcZ,oM 8 Xea,oM 9 Xeh]
def k47_2:VC:=.reg [oM 22 τ9,oD 23 (.not XeF),oM 24 XeO,oG 25 (.loadN [(.int .i64),(.int .i64),(.int .i64),.str] τ3) 24 false,oG 26 (.fieldA 0 τ4) 24 false,oG 27 (.load1 .bool Xeq) 24 false,oG 28 (.callF 75 [XeW,XeV]) 24 false,oG 29 (.not XeP) 24 false,oD 30 (.pick XeB (.const (.bool true)) Xe4)]
def k47_3:VC:=.reg [oD 6 (.mv (.const (.string ⟨⟨[]⟩⟩))),oD 7 (.mv (.const (.int .i64 1)))]
def k47_4:VC:=.seq k47_3 .ret
def k47_5:VC:=.cond Xfz k47_4 .skip
def k47_6:VC:=.seq k47_2 k47_5
def k47_7:VC:=.regD [oD 31 (.callF 76 []),oD 32 (.fieldA 0 τ3),oD 33 (.load1 (.int .i64) XfB),oD 34 (.idxVN 4 2 Xfv XfC),oD 35 (.fieldA 0 τ4),oD 36 (.load1 .bool XfJ),oD 37 (.callF 77 [XfV])] [(0,2),(0,5),(2,6)] [oD 38 (.idxV1 2 XfE XfA),oM 10 XgL]
def k47_8:VC:=.regD [oM 39 Xcd,oD 40 (.conv .u64 XgH),oD 41 (.bin .shl Xhx (.const (.int .u64 8))),oD 42 (.fieldA 1 τ3),oD 43 (.load1 (.int .i64) Xhs),oD 44 (.conv .u64 Xhz),oD 45 (.bin .or Xht Xh4),oD 46 (.callF 42 [XhP,(.const (.int .i64 2))]),oD 47 (.fieldA 2 τ3),oD 48 (.load1 (.int .i64) Xh7),oD 49 (.conv .u64 XiP),oD 50 (.callF 42 [XiL,(.const (.int .i64 6))]),oD 51 (.bin .add Xin XiR),oD 52 (.fieldA 3 τ3),oD 53 (.load1 .str XjM)] [(7,9),(7,14),(11,14)] [oD 54 (.bin .add XiQ XjZ),oM 11 Xk1]
def k47_9:VC:=.reg [oM 55 Xb7,oM 56 τ8,oM 57 Xb7,oD 58 (.bin .add Xk7 XkP),oD 59 (.callF 78 [XkW]),oD 60 (.conv .u64 Xlf),oD 61 (.callF 43 [XkZ,(.const (.int .i64 2)),(.const (.int .i64 2)),XlW]),oM 6 Xl9,oD 7 (.mv (.const (.int .i64 0)))]
def X6M:VC:=.seq k47_9 .ret
def XUv:VC:=.seq k47_8 X6M
def X4g:VC:=.seq k47_7 XUv
def XYe:VC:=.seq k47_6 X4g
def XUJ:VC:=.seq k47_1 XYe
def Xzf:VC:=.seq k47_0 XUJ
def fn47:VFn:=⟨62,Xzf,[.tmp 6,.tmp 7]⟩
def k74_0:VC:=.reg [oD 3 (.box τ0),oD 4 (.box τ1),oD 6 (.mv (.const (.string ⟨⟨[]⟩⟩))),oD 7 (.mv (.const (.bool false)))]
def k74_1:VC:=.reg [oD 9 (.loadN [.bool,(.int .u64),(.int .u64)] τ3),oD 10 (.loadN [.bool,(.int .u64),(.int .u64)] τ4),oM 11 τ2,oD 12 (.callF 109 [τ9,Xcd,(.const (.int .i64 58)),Xb7]),oM 8 XcZ]
def k74_2:VC:=.reg [oM 13 τ8,oD 14 (.bin .eql Xc0 (.const (.string ⟨⟨[]⟩⟩))),oM 15 Xdo,oG 16 (.fieldA 0 τ3) 15 false,oG 17 (.load1 .bool Xdp) 15 false,oD 18 (.pick Xdm (.const (.bool true)) Xdn)]
def k74_3:VC:=.reg [oM 19 τ8,oM 20 τ8,oD 21 (.bin .neq Xea (.const (.string ⟨⟨[]⟩⟩))),oM 6 XdM,oM 7 Xeh]
def k74_4:VC:=.seq k74_3 .ret
def k74_5:VC:=.cond XdW k74_4 .skip
def k74_6:VC:=.seq k74_2 k74_5
def k74_7:VC:=.reg [oD 6 (.mv (.const (.string ⟨⟨[]⟩⟩))),oD 7 (.mv (.const (.bool true)))]
def k74_8:VC:=.seq k74_7 .ret
def k74_9:VC:=.seq k74_6 k74_8
def X3w:VC:=.seq k74_1 k74_9
def XAj:VC:=.seq k74_0 X3w
def fn74:VFn:=⟨22,XAj,[.tmp 6,.tmp 7]⟩
def k75_0:VC:=.reg [oD 2 (.box τ0),oD 4 (.mv (.const (.bool false)))]
def k75_1:VC:=.reg [oD 5 (.fieldA 0 τ2),oD 6 (.load1 (.int .i64) τ5),oD 7 (.bin .lss τ6 (.const (.int .i64 1))),oM 8 τ7,oG 9 (.fieldA 0 τ2) 8 false,oG 10 (.load1 (.int .i64) τ9) 8 false,oG 11 (.bin .gtr Xcd (.const (.int .i64 3))) 8 false,oD 12 (.pick τ8 (.const (.bool true)) Xb7),oM 13 XcZ,oG 14 (.fieldA 1 τ2) 13 false,oG 15 (.load1 (.int .i64) Xdo) 13 false,oG 16 (.callF 110 [Xdm,(.const (.int .i64 255))]) 13 false,oG 17 (.not Xdp) 13 false,oD 18 (.pick Xc0 (.const (.bool true)) Xdn),oM 19 XdW,oG 20 (.fieldA 2 τ2) 19 false,oG 21 (.load1 (.int .i64) Xea) 19 false,oG 22 (.callF 110 [Xeh,(.const (.int .i64 65535))]) 19 false,oG 23 (.not XeF) 19 false,oD 24 (.pick XdM (.const (.bool true)) XeO),oM 25 XeB,oG 26 (.fieldA 3 τ2) 25 false,oG 27 (.load1 .str Xeq) 25 false,oG 28 (.lenS XeV) 25 false,oG 29 (.bin .gtr XeP (.const (.int .i64 1232))) 25 false,oD 30 (.pick XeW (.const (.bool true)) Xe4)]
def k75_2:VC:=.reg [oD 4 (.mv (.const (.bool false)))]
def k75_3:VC:=.seq k75_2 .ret
def k75_4:VC:=.cond Xfz k75_3 .skip
def k75_5:VC:=.seq k75_1 k75_4
def k75_6:VC:=.reg [oD 31 (.fieldA 0 τ2),oD 32 (.load1 (.int .i64) Xfv),oD 33 (.fieldA 1 τ2),oD 34 (.load1 (.int .i64) XfC),oM 35 τ1,oD 36 (.callF 111 [XfB,XfE,XfJ]),oM 37 XfV,oG 38 (.fieldA 0 τ2) 37 true,oG 39 (.load1 (.int .i64) XgL) 37 true,oG 40 (.bin .eql XgH (.const (.int .i64 2))) 37 true,oG 41 (.mv Xhx) 37 true,oG 42 (.fieldA 2 τ2) 41 false,oG 43 (.load1 (.int .i64) Xhs) 41 false,oG 44 (.bin .eql Xhz (.const (.int .i64 0))) 41 false,oG 45 (.pick Xht (.const (.bool true)) Xh4) 37 true,oD 46 (.pick XfA XhP (.const (.bool false))),oM 4 Xin]
def k75_7:VC:=.seq k75_6 .ret
def k75_8:VC:=.seq k75_5 k75_7
def X0j:VC:=.seq k75_0 k75_8
def fn75:VFn:=⟨47,X0j,[.tmp 4]⟩
def XZR:VC:=.reg [oD 4 (.mv (.const (.bool false)))]
def XWB:VC:=.reg [oM 5 τ0,oD 6 (.bin .leq (.const (.int .i64 0)) τ5),oM 7 τ6,oG 8 (.mv τ0) 7 true,oG 9 (.mv τ1) 7 true,oG 10 (.bin .leq τ8 τ9) 7 true,oD 11 (.pick τ7 Xcd (.const (.bool false))),oM 4 Xb7]
def XQ7:VC:=.seq XWB .ret
def Xz3:VC:=.seq XZR XQ7
def XM0:VFn:=⟨12,Xz3,[.tmp 4]⟩
def X5u:VC:=.reg [oD 6 (.mv (.const (.bool false)))]
def X2w:VC:=.reg [oM 8 τ0,oD 9 (.bin .eql τ8 (.const (.int .i64 2))),oM 10 τ9,oG 11 (.mv τ2) 10 true,oD 12 (.pick Xcd Xb7 (.const (.bool false))),oM 7 XcZ]
def XZO:VC:=.reg [oM 13 τ1,oD 14 (.bin .eql Xc0 (.const (.int .i64 0))),oM 6 Xdo]
def X2G:VC:=.seq XZO .ret
def XPG:VC:=.reg [oM 16 τ0,oD 17 (.bin .eql Xdp (.const (.int .i64 2))),oM 15 Xdn]
def XWo:VC:=.reg [oM 18 τ1,oD 19 (.bin .eql XdW (.const (.int .i64 4))),oM 6 XdM]
def X1S:VC:=.seq XWo .ret
def X2b:VC:=.reg [oM 21 τ0,oD 22 (.bin .eql Xeh (.const (.int .i64 1))),oM 23 XeF,oG 24 (.mv τ2) 23 true,oG 25 (.not XeB) 23 true,oD 26 (.pick XeO XeW (.const (.bool false))),oM 20 Xeq]
def X2l:VC:=.reg [oM 27 τ1,oD 28 (.bin .neq XeV (.const (.int .i64 4))),oM 6 XeP]
def XPJ:VC:=.seq X2l .ret
def XEV:VC:=.cond Xea XPJ .skip
def XGj:VC:=.seq X2b XEV
def XJA:VC:=.cond Xdm X1S XGj
def XId:VC:=.seq XPG XJA
def XJa:VC:=.cond τ7 X2G XId
def XFE:VC:=.seq X2w XJa
def XJr:VC:=.block 0 XFE
def XC6:VC:=.reg [oD 6 (.mv (.const (.bool true)))]
def XDs:VC:=.seq XC6 .ret
def XFY:VC:=.seq XJr XDs
def XuI:VC:=.seq X5u XFY
def XZp:VFn:=⟨29,XuI,[.tmp 6]⟩
def k76_0:VC:=.reg [oD 0 (.alloc [(.int .i64 0),(.int .i64 0),(.int .i64 0),(.int .i64 0),(.int .i64 0),(.int .i64 0),(.int .i64 0),(.int .i64 0)])]
def k76_1:VC:=.reg [oD 1 (.build [(.int .i64 0),(.int .i64 0)] [(0,1,(.const (.int .i64 (-1)))),(1,1,(.const (.int .i64 (-1))))]),oD 2 (.build [(.int .i64 0),(.int .i64 0)] [(0,1,(.const (.int .i64 3))),(1,1,(.const (.int .i64 1)))]),oD 3 (.build [(.int .i64 0),(.int .i64 0)] [(0,1,(.const (.int .i64 3))),(1,1,(.const (.int .i64 2)))]),oD 4 (.build [(.int .i64 0),(.int .i64 0)] [(0,1,(.const (.int .i64 11))),(1,1,(.const (.int .i64 3)))]),oD 5 (.build [(.int .i64 0),(.int .i64 0),(.int .i64 0),(.int .i64 0),(.int .i64 0),(.int .i64 0),(.int .i64 0),(.int .i64 0)] [(0,2,τ1),(2,2,τ2),(4,2,τ3),(6,2,τ4)]),oN (.store 8 τ0 τ5)]
def k76_2:VC:=.seq k76_1 .ret
def XMv:VC:=.seq k76_0 k76_2
def fn76:VFn:=⟨6,XMv,[.cell 0 [(.int .i64),(.int .i64),(.int .i64),(.int .i64),(.int .i64),(.int .i64),(.int .i64),(.int .i64)] true]⟩
def k77_0:VC:=.reg [oD 2 (.mv (.const (.int .i64 0)))]
def k77_1:VC:=.reg [oM 3 τ0]
def k77_2:VC:=.reg [oD 2 (.mv (.const (.int .i64 1)))]
def k77_3:VC:=.seq k77_2 .ret
def k77_4:VC:=.cond τ3 k77_3 .skip
def k77_5:VC:=.seq k77_1 k77_4
def k77_6:VC:=.reg [oD 2 (.mv (.const (.int .i64 0)))]
def k77_7:VC:=.seq k77_6 .ret
def k77_8:VC:=.seq k77_5 k77_7
def X0X:VC:=.seq k77_0 k77_8
def fn77:VFn:=⟨4,X0X,[.tmp 2]⟩
def k78_0:VC:=.reg [oD 2 (.mv (.const (.int .i64 0)))]
def k78_1:VC:=.reg [oM 3 τ0,oD 4 (.callF 112 [τ3]),oD 5 (.bin .sub (.const (.int .i64 65535)) τ4),oM 2 τ5]
def k78_2:VC:=.seq k78_1 .ret
def X4Z:VC:=.seq k78_0 k78_2
def fn78:VFn:=⟨6,X4Z,[.tmp 2]⟩
def k43_0:VC:=.reg [oD 8 (.mv (.const (.string ⟨⟨[]⟩⟩)))]
def k43_1:VC:=.reg [oM 10 τ3,oM 11 τ2,oD 12 (.callF 42 [Xcd,Xb7]),oM 9 XcZ]
def k43_2:VC:=.reg [oM 13 τ9,oD 14 (.bin .eql Xc0 (.const (.string ⟨⟨[]⟩⟩))),oM 15 Xdo,oG 16 (.mv τ1) 15 false,oG 17 (.bin .lss Xdp (.const (.int .i64 0))) 15 false,oD 18 (.pick Xdm (.const (.bool true)) Xdn),oM 19 XdW,oG 20 (.mv τ0) 19 false,oG 21 (.lenS Xea) 19 false,oG 22 (.mv τ2) 19 false,oG 23 (.bin .sub Xeh XeF) 19 false,oG 24 (.mv τ1) 19 false,oG 25 (.bin .lss XeO XeB) 19 false,oD 26 (.pick XdM (.const (.bool true)) XeW)]
def k43_3:VC:=.reg [oM 27 τ0,oM 8 XeV]
def k43_4:VC:=.seq k43_3 .ret
def k43_5:VC:=.cond Xeq k43_4 .skip
def k43_6:VC:=.seq k43_2 k43_5
def k43_7:VC:=.regD [oM 28 τ0,oM 29 τ1,oD 30 (.sliceS XeP none (some Xe4)),oM 31 τ9,oD 32 (.bin .add Xfz Xfv),oM 33 τ0,oM 34 τ1,oM 35 τ2,oD 36 (.bin .add XfE XfJ),oD 37 (.sliceS XfC (some XfV) none)] [] [oD 38 (.bin .add XfB XfA),oM 8 XgL]
def k43_8:VC:=.seq k43_7 .ret
def k43_9:VC:=.seq k43_6 k43_8
def X3W:VC:=.seq k43_1 k43_9
def XAv:VC:=.seq k43_0 X3W
def fn43:VFn:=⟨39,XAv,[.tmp 8]⟩
def k48_0:VC:=.reg [oD 2 (.box τ0),oD 4 (.mv (.const (.string ⟨⟨[]⟩⟩))),oD 5 (.mv (.const (.int .i64 0)))]
def k48_1:VC:=.reg [oD 9 (.loadN [(.int .i64),(.int .i64),(.int .i64),(.int .i64),.bool,(.int .u64),(.int .u64),.bool,(.int .u64),(.int .u64)] τ2),oD 10 (.callF 79 [τ9]),oD 11 (.not Xcd),oM 8 Xb7]
def k48_2:VC:=.reg [oD 4 (.mv (.const (.string ⟨⟨[]⟩⟩))),oD 5 (.mv (.const (.int .i64 1)))]
def k48_3:VC:=.seq k48_2 .ret
def k48_4:VC:=.reg [oM 13 τ1,oD 14 (.lenS Xc0),oD 15 (.bin .gtr Xdo (.const (.int .i64 65535))),oM 12 Xdm]
def k48_5:VC:=.reg [oD 4 (.mv (.const (.string ⟨⟨[]⟩⟩))),oD 5 (.mv (.const (.int .i64 5)))]
def k48_6:VC:=.seq k48_5 .ret
def k48_7:VC:=.cond XcZ k48_6 .skip
def k48_8:VC:=.seq k48_4 k48_7
def k48_9:VC:=.cond τ8 k48_3 k48_8
def XNu:VC:=.seq k48_1 k48_9
def XZA:VC:=.block 0 XNu
def XQa:VC:=.reg [oD 16 (.fieldA 0 τ2),oD 17 (.load1 (.int .i64) Xdp),oD 18 (.conv .u64 Xdn),oD 19 (.bin .shl XdW (.const (.int .u64 20))),oD 20 (.bin .or (.const (.int .u64 1610612736)) XdM),oD 21 (.fieldA 1 τ2),oD 22 (.load1 (.int .i64) Xeh),oD 23 (.conv .u64 XeF),oD 24 (.bin .or Xea XeO),oD 25 (.callF 42 [XeB,(.const (.int .i64 4))]),oM 6 XeW]
def XW0:VC:=.reg [oM 26 τ1,oD 27 (.lenS Xeq),oD 28 (.conv .u64 XeV),oD 29 (.bin .shl XeP (.const (.int .u64 16))),oD 30 (.fieldA 2 τ2),oD 31 (.load1 (.int .i64) Xfz),oD 32 (.conv .u64 Xfv),oD 33 (.bin .shl XfB (.const (.int .u64 8))),oD 34 (.bin .or Xe4 XfC),oD 35 (.fieldA 3 τ2),oD 36 (.load1 (.int .i64) XfJ),oD 37 (.conv .u64 XfV),oD 38 (.bin .or XfE XfA),oD 39 (.callF 42 [XgL,(.const (.int .i64 4))]),oM 7 XgH]
def XWl:VC:=.regD [oM 40 τ6,oM 41 τ7,oD 42 (.bin .add Xhx Xht),oD 43 (.fieldA 4 τ2),oD 44 (.loadN [.bool,(.int .u64),(.int .u64)] Xhz),oD 45 (.callF 80 [Xh4]),oD 46 (.bin .add Xhs XhP),oD 47 (.fieldA 7 τ2),oD 48 (.loadN [.bool,(.int .u64),(.int .u64)] Xh7),oD 49 (.callF 80 [XiP]),oD 50 (.bin .add Xin XiL),oM 51 τ1] [(5,8)] [oD 52 (.bin .add XiR XiQ),oM 4 XjM,oD 5 (.mv (.const (.int .i64 0)))]
def X6V:VC:=.seq XWl .ret
def XLH:VC:=.seq XW0 X6V
def XOd:VC:=.seq XQa XLH
def X48:VC:=.seq XZA XOd
def Xz1:VC:=.seq k48_0 X48
def fn48:VFn:=⟨53,Xz1,[.tmp 4,.tmp 5]⟩
def k79_0:VC:=.reg [oD 1 (.box τ0),oD 2 (.mv (.const (.bool false)))]
def k79_1:VC:=.reg [oD 5 (.fieldA 0 τ1),oD 6 (.load1 (.int .i64) τ5),oD 7 (.build [(.int .i64 0),(.int .i64 0)] [(0,1,τ6),(1,1,(.const (.int .i64 255)))]),oD 8 (.fieldA 1 τ1),oD 9 (.load1 (.int .i64) τ8),oD 10 (.build [(.int .i64 0),(.int .i64 0)] [(0,1,τ9),(1,1,(.const (.int .i64 1048575)))]),oD 11 (.fieldA 2 τ1),oD 12 (.load1 (.int .i64) Xb7),oD 13 (.build [(.int .i64 0),(.int .i64 0)] [(0,1,XcZ),(1,1,(.const (.int .i64 255)))]),oD 14 (.fieldA 3 τ1),oD 15 (.load1 (.int .i64) Xdo),oD 16 (.build [(.int .i64 0),(.int .i64 0)] [(0,1,Xdm),(1,1,(.const (.int .i64 255)))]),oD 17 (.buildSl 4 2 [(.int .i64 0),(.int .i64 0),(.int .i64 0),(.int .i64 0),(.int .i64 0),(.int .i64 0),(.int .i64 0),(.int .i64 0)] [(0,2,τ7),(2,2,Xcd),(4,2,Xc0),(6,2,Xdp)]),oD 18 (.lenL Xdn),oD 19 (.mv (.const (.int .i64 0)))]
def k79_2:VC:=.reg [oD 20 (.bin .lss XdM XdW)]
def k79_3:VC:=.cond Xea .skip (.exit 0)
def k79_4:VC:=.reg [oD 21 (.idxAL 2 Xdn XdM),oD 22 (.loadN [(.int .i64),(.int .i64)] Xeh),oD 4 (.alloc [(.int .i64 0),(.int .i64 0)]),oN (.store 2 τ4 XeF)]
def k79_5:VC:=.reg [oD 23 (.idxAA 2 1 τ4 (.const (.int .i64 0))),oD 24 (.load1 (.int .i64) XeO),oD 25 (.bin .lss XeB (.const (.int .i64 0))),oM 26 XeW,oG 27 (.idxAA 2 1 τ4 (.const (.int .i64 0))) 26 false,oG 28 (.load1 (.int .i64) XeV) 26 false,oG 29 (.idxAA 2 1 τ4 (.const (.int .i64 1))) 26 false,oG 30 (.load1 (.int .i64) Xe4) 26 false,oG 31 (.bin .gtr XeP Xfz) 26 false,oD 32 (.pick Xeq (.const (.bool true)) Xfv)]
def k79_6:VC:=.reg [oD 2 (.mv (.const (.bool false)))]
def k79_7:VC:=.seq k79_6 .ret
def k79_8:VC:=.cond XfB k79_7 .skip
def k79_9:VC:=.seq k79_5 k79_8
def XRK:VC:=.seq k79_4 k79_9
def XXN:VC:=.block 1 XRK
def XTj:VC:=.reg [oD 33 (.bin .add XdM (.const (.int .i64 1))),oM 19 XfC]
def X4v:VC:=.seq XXN XTj
def XSF:VC:=.seq k79_3 X4v
def XYm:VC:=.seq k79_2 XSF
def X0a:VC:=.loop XYm
def X2f:VC:=.block 0 X0a
def XZ3:VC:=.seq k79_1 X2f
def X28:VC:=.reg [oD 34 (.fieldA 4 τ1),oD 35 (.fieldA 0 XfE),oD 36 (.load1 .bool XfJ),oM 37 XfV,oG 38 (.fieldA 7 τ1) 37 true,oG 39 (.fieldA 0 XgL) 37 true,oG 40 (.load1 .bool XgH) 37 true,oD 41 (.pick XfA Xhx (.const (.bool false))),oM 2 Xht]
def XYo:VC:=.seq X28 .ret
def X10:VC:=.seq XZ3 XYo
def XBf:VC:=.seq k79_0 X10
def fn79:VFn:=⟨42,XBf,[.tmp 2]⟩
def k49_0:VC:=.reg [oD 2 (.box τ0),oD 4 (.mv (.const (.string ⟨⟨[]⟩⟩))),oD 5 (.mv (.const (.int .i64 0)))]
def k49_1:VC:=.reg [oD 9 (.fieldA 11 τ2),oD 10 (.load1 .str τ9),oD 11 (.lenS Xcd),oD 12 (.bin .add (.const (.int .i64 20)) Xb7),oM 6 XcZ]
def k49_2:VC:=.reg [oD 14 (.loadN [(.int .i64),(.int .i64),.bool,(.int .i64),(.int .i64),.bool,(.int .u64),(.int .u64),.bool,(.int .u64),(.int .u64),.str] τ2),oD 15 (.callF 81 [Xdo]),oD 16 (.not Xdm),oM 13 Xdp]
def k49_3:VC:=.reg [oD 4 (.mv (.const (.string ⟨⟨[]⟩⟩))),oD 5 (.mv (.const (.int .i64 1)))]
def k49_4:VC:=.seq k49_3 .ret
def k49_5:VC:=.reg [oM 18 τ1,oD 19 (.lenS XdW),oM 20 τ6,oD 21 (.bin .sub (.const (.int .i64 65535)) Xea),oD 22 (.bin .gtr XdM Xeh),oM 17 XeF]
def k49_6:VC:=.reg [oD 4 (.mv (.const (.string ⟨⟨[]⟩⟩))),oD 5 (.mv (.const (.int .i64 5)))]
def k49_7:VC:=.seq k49_6 .ret
def k49_8:VC:=.cond Xdn k49_7 .skip
def k49_9:VC:=.seq k49_5 k49_8
def X29:VC:=.cond Xc0 k49_4 k49_9
def XMu:VC:=.seq k49_2 X29
def XS5:VC:=.block 0 XMu
def X09:VC:=.reg [oD 7 (.mv (.const (.int .i64 0)))]
def X46:VC:=.reg [oD 23 (.fieldA 2 τ2),oD 24 (.load1 .bool XeO)]
def XUO:VC:=.reg [oD 7 (.mv (.const (.int .i64 64)))]
def XP7:VC:=.cond XeB XUO .skip
def XPt:VC:=.seq X46 XP7
def XNE:VC:=.reg [oM 25 τ6,oD 26 (.bin .quo XeW (.const (.int .i64 4))),oD 27 (.bin .or (.const (.int .i64 64)) Xeq),oD 28 (.fieldA 0 τ2),oD 29 (.load1 (.int .i64) XeP),oM 30 τ6,oM 31 τ1,oD 32 (.lenS Xfv),oD 33 (.bin .add Xfz XfB),oD 34 (.fieldA 1 τ2),oD 35 (.load1 (.int .i64) XfE),oM 36 τ7,oD 37 (.fieldA 3 τ2),oD 38 (.load1 (.int .i64) XfA),oD 39 (.fieldA 4 τ2),oD 40 (.load1 (.int .i64) XgH),oD 41 (.buildSl 18 1 [(.int .i64 0),(.int .i64 0),(.int .i64 0),(.int .i64 0),(.int .i64 0),(.int .i64 0),(.int .i64 0),(.int .i64 0),(.int .i64 0),(.int .i64 0),(.int .i64 0),(.int .i64 0),(.int .i64 0),(.int .i64 0),(.int .i64 0),(.int .i64 0),(.int .i64 0),(.int .i64 0)] [(0,1,XeV),(1,1,(.const (.int .i64 1))),(2,1,Xe4),(3,1,(.const (.int .i64 1))),(4,1,XfC),(5,1,(.const (.int .i64 2))),(6,1,XfJ),(7,1,(.const (.int .i64 2))),(8,1,XfV),(9,1,(.const (.int .i64 1))),(10,1,(.const (.int .i64 0))),(11,1,(.const (.int .i64 1))),(12,1,XgL),(13,1,(.const (.int .i64 1))),(14,1,Xhx),(15,1,(.const (.int .i64 1))),(16,1,(.const (.int .i64 0))),(17,1,(.const (.int .i64 2)))]),oD 42 (.callF 82 [Xht]),oM 8 Xhs]
def XO7:VC:=.regD [oM 43 τ8,oD 44 (.fieldA 5 τ2),oD 45 (.loadN [.bool,(.int .u64),(.int .u64)] Xh4),oD 46 (.callF 80 [XhP]),oD 47 (.fieldA 8 τ2),oD 48 (.loadN [.bool,(.int .u64),(.int .u64)] Xh7),oD 49 (.callF 80 [XiP]),oD 50 (.bin .add Xin XiL),oD 51 (.fieldA 11 τ2),oD 52 (.load1 .str XiQ),oD 53 (.bin .add XiR XjM)] [(3,5),(3,9),(6,9)] [oD 54 (.bin .add Xhz XjZ),oM 8 Xk1]
def XRC:VC:=.reg [oM 55 τ8,oM 56 τ8,oD 57 (.callF 78 [Xk7]),oD 58 (.conv .u64 XkP),oD 59 (.callF 43 [XkZ,(.const (.int .i64 10)),(.const (.int .i64 2)),XkW]),oM 60 τ1,oD 61 (.bin .add Xlf XlW),oM 4 Xl9,oD 5 (.mv (.const (.int .i64 0)))]
def XYA:VC:=.seq XRC .ret
def XXk:VC:=.seq XO7 XYA
def X1w:VC:=.seq XNE XXk
def XQo:VC:=.seq XPt X1w
def XMc:VC:=.seq X09 XQo
def XZF:VC:=.seq XS5 XMc
def XQ4:VC:=.seq k49_1 XZF
def XAe:VC:=.seq k49_0 XQ4
def fn49:VFn:=⟨62,XAe,[.tmp 4,.tmp 5]⟩
def k81_0:VC:=.reg [oD 1 (.box τ0),oD 2 (.mv (.const (.bool false)))]
def k81_1:VC:=.reg [oD 3 (.fieldA 0 τ1),oD 4 (.load1 (.int .i64) τ3),oD 5 (.callF 114 [τ4,(.const (.int .i64 255))]),oD 6 (.not τ5),oM 7 τ6,oG 8 (.fieldA 1 τ1) 7 false,oG 9 (.load1 (.int .i64) τ8) 7 false,oG 10 (.callF 114 [τ9,(.const (.int .i64 65535))]) 7 false,oG 11 (.not Xcd) 7 false,oD 12 (.pick τ7 (.const (.bool true)) Xb7),oM 13 XcZ,oG 14 (.fieldA 3 τ1) 13 false,oG 15 (.load1 (.int .i64) Xdo) 13 false,oG 16 (.callF 114 [Xdm,(.const (.int .i64 255))]) 13 false,oG 17 (.not Xdp) 13 false,oD 18 (.pick Xc0 (.const (.bool true)) Xdn),oM 19 XdW,oG 20 (.fieldA 4 τ1) 19 false,oG 21 (.load1 (.int .i64) Xea) 19 false,oG 22 (.callF 114 [Xeh,(.const (.int .i64 255))]) 19 false,oG 23 (.not XeF) 19 false,oD 24 (.pick XdM (.const (.bool true)) XeO)]
def k81_2:VC:=.reg [oD 2 (.mv (.const (.bool false)))]
def k81_3:VC:=.seq k81_2 .ret
def k81_4:VC:=.cond XeB k81_3 .skip
def k81_5:VC:=.seq k81_1 k81_4
def k81_6:VC:=.reg [oD 25 (.fieldA 5 τ1),oD 26 (.loadN [.bool,(.int .u64),(.int .u64)] XeW),oD 27 (.callF 115 [Xeq]),oM 28 XeV,oG 29 (.fieldA 8 τ1) 28 true,oG 30 (.loadN [.bool,(.int .u64),(.int .u64)] Xe4) 28 true,oG 31 (.callF 115 [Xfz]) 28 true,oD 32 (.pick XeP Xfv (.const (.bool false))),oM 33 XfB,oG 34 (.fieldA 11 τ1) 33 true,oG 35 (.load1 .str XfE) 33 true,oG 36 (.lenS XfJ) 33 true,oG 37 (.bin .rem XfV (.const (.int .i64 4))) 33 true,oG 38 (.bin .eql XfA (.const (.int .i64 0))) 33 true,oD 39 (.pick XfC XgL (.const (.bool false))),oM 40 XgH,oG 41 (.fieldA 11 τ1) 40 true,oG 42 (.load1 .str Xht) 40 true,oG 43 (.lenS Xhs) 40 true,oG 44 (.bin .leq Xhz (.const (.int .i64 40))) 40 true,oD 45 (.pick Xhx Xh4 (.const (.bool false))),oM 2 XhP]
def k81_7:VC:=.seq k81_6 .ret
def k81_8:VC:=.seq k81_5 k81_7
def XSW:VC:=.seq k81_0 k81_8
def fn81:VFn:=⟨46,XSW,[.tmp 2]⟩
def X14:VC:=.reg [oD 4 (.mv (.const (.bool false)))]
def XZM:VC:=.reg [oM 5 τ0,oD 6 (.bin .leq (.const (.int .i64 0)) τ5),oM 7 τ6,oG 8 (.mv τ0) 7 true,oG 9 (.mv τ1) 7 true,oG 10 (.bin .leq τ8 τ9) 7 true,oD 11 (.pick τ7 Xcd (.const (.bool false))),oM 4 Xb7]
def XRD:VC:=.seq XZM .ret
def Xz8:VC:=.seq X14 XRD
def XPY:VFn:=⟨12,Xz8,[.tmp 4]⟩
def XSq:VC:=.reg [oD 1 (.box τ0),oD 2 (.mv (.const (.bool false)))]
def XYK:VC:=.reg [oD 3 (.fieldA 0 τ1),oD 4 (.load1 .bool τ3),oD 5 (.not τ4),oM 6 τ5,oG 7 (.loadN [.bool,(.int .u64),(.int .u64)] τ1) 6 true,oG 8 (.callF 113 [τ7]) 6 true,oD 9 (.pick τ6 τ8 (.const (.bool false))),oM 2 τ9]
def XNA:VC:=.seq XYK .ret
def XBn:VC:=.seq XSq XNA
def XQC:VFn:=⟨10,XBn,[.tmp 2]⟩
def k7_0:VC:=.reg [oD 6 (.mv (.const (.string ⟨⟨[]⟩⟩))),oD 7 (.mv (.const (.int .i64 0)))]
def k7_1:VC:=.reg [oM 12 τ0,oD 13 (.callF 15 [XcZ]),oM 11 Xc0,oE 14 0 Xb7,oE 15 1 Xb7,oD 8 (.alloc [(.int .i64 0),(.bool false),(.int .u64 0),(.int .u64 0),(.bool false),(.int .u64 0),(.int .u64 0),(.int .i64 0),(.int .i64 0),(.int .i64 0),(.bool false),(.int .u32 0),(.int .u32 0),(.bool false),(.string ⟨⟨[]⟩⟩),(.int .i64 0)]),oN (.store 16 τ8 Xdo),oM 9 Xdm]
def k7_2:VC:=.reg [oM 16 τ9,oD 17 (.bin .neq Xdp (.const (.int .i64 0)))]
def k7_3:VC:=.reg [oM 18 τ9,oD 6 (.mv (.const (.string ⟨⟨[]⟩⟩))),oM 7 XdW]
def k7_4:VC:=.seq k7_3 .ret
def k7_5:VC:=.cond Xdn k7_4 .skip
def k7_6:VC:=.seq k7_2 k7_5
def k7_7:VC:=.reg [oM 19 τ0,oD 20 (.lenS XdM),oM 21 τ1,oM 22 τ2,oD 23 (.callF 9 [Xeh,XeF]),oD 24 (.bin .leq Xea XeO)]
def k7_8:VC:=.reg [oD 6 (.mv (.const (.string ⟨⟨[]⟩⟩))),oD 7 (.mv (.const (.int .i64 11)))]
def k7_9:VC:=.seq k7_8 .ret
def k7_10:VC:=.cond XeB k7_9 .skip
def k7_11:VC:=.seq k7_7 k7_10
def k7_12:VC:=.reg [oM 25 τ1,oD 26 (.callF 26 [XeW]),oD 27 (.not Xeq)]
def k7_13:VC:=.reg [oD 6 (.mv (.const (.string ⟨⟨[]⟩⟩))),oD 7 (.mv (.const (.int .i64 1)))]
def k7_14:VC:=.seq k7_13 .ret
def k7_15:VC:=.cond XeV k7_14 .skip
def k7_16:VC:=.seq k7_12 k7_15
def k7_17:VC:=.regD [oM 28 τ1,oM 29 τ2,oD 30 (.callF 9 [XeP,Xe4]),oM 31 τ0,oD 32 (.sliceS Xfv none (some (.const (.int .i64 28)))),oD 33 (.build [(.int .i64 0),(.int .i64 0),(.int .i64 0),(.string ⟨⟨[]⟩⟩)] [(0,1,(.const (.int .i64 2))),(1,1,(.const (.int .i64 4))),(2,1,Xfz),(3,1,XfB)]),oD 10 (.alloc [(.int .i64 0),(.int .i64 0),(.int .i64 0),(.string ⟨⟨[]⟩⟩)])] [(2,6)] [oN (.store 4 Xcd XfC)]
def k7_18:VC:=.reg [oD 34 (.fieldA 0 τ8),oD 35 (.fieldA 1 XfE),oD 36 (.fieldA 0 XfJ),oD 37 (.load1 .bool XfV)]
def k7_19:VC:=.regD [oM 38 τ1,oM 39 τ2,oD 40 (.callF 9 [XgL,XgH]),oM 41 τ0,oD 42 (.sliceS Xht none (some (.const (.int .i64 48))))] [] [oD 43 (.build [(.int .i64 0),(.int .i64 0),(.int .i64 0),(.string ⟨⟨[]⟩⟩)] [(0,1,(.const (.int .i64 2))),(2,1,Xhx),(3,1,Xhs)]),oN (.store 4 Xcd Xhz)]
def k7_20:VC:=.cond XfA k7_19 .skip
def k7_21:VC:=.seq k7_18 k7_20
def k7_22:VC:=.reg [oD 44 (.loadN [(.int .i64),(.int .i64),(.int .i64),.str] Xcd),oD 45 (.fieldA 0 τ8),oD 46 (.fieldA 4 XhP),oD 47 (.loadN [.bool,(.int .u64),(.int .u64)] Xin),oD 48 (.fieldA 0 τ8),oD 49 (.fieldA 1 XiP),oD 50 (.loadN [.bool,(.int .u64),(.int .u64)] XiL),oD 51 (.callF 27 [Xh4,Xh7,XiR]),oE 52 0 XiQ,oE 53 1 XiQ,oM 6 XjM,oM 7 XjZ]
def k7_23:VC:=.seq k7_22 .ret
def k7_24:VC:=.seq k7_21 k7_23
def k7_25:VC:=.seq k7_17 k7_24
def k7_26:VC:=.seq k7_16 k7_25
def k7_27:VC:=.seq k7_11 k7_26
def k7_28:VC:=.seq k7_6 k7_27
def k7_29:VC:=.seq k7_1 k7_28
def XR9:VC:=.seq k7_0 k7_29
def fn7:VFn:=⟨54,XR9,[.tmp 6,.tmp 7]⟩
def k15_0:VC:=.reg [oD 2 (.alloc [(.int .i64 0),(.bool false),(.int .u64 0),(.int .u64 0),(.bool false),(.int .u64 0),(.int .u64 0),(.int .i64 0),(.int .i64 0),(.int .i64 0),(.bool false),(.int .u32 0),(.int .u32 0),(.bool false),(.string ⟨⟨[]⟩⟩),(.int .i64 0)]),oD 3 (.mv (.const (.int .i64 0)))]
def k15_1:VC:=.reg [oM 9 τ0,oD 10 (.callF 31 [τ9]),oM 8 Xcd,oE 11 0 τ8,oE 12 1 τ8,oE 13 2 τ8,oE 14 3 τ8,oD 4 (.alloc [(.int .i64 0),(.bool false),(.int .u64 0),(.int .u64 0),(.bool false),(.int .u64 0),(.int .u64 0),(.int .i64 0),(.int .i64 0),(.int .i64 0),(.bool false),(.int .u32 0),(.int .u32 0),(.bool false),(.string ⟨⟨[]⟩⟩),(.int .i64 0)]),oN (.store 16 τ4 Xb7),oM 5 XcZ,oM 6 Xc0,oM 7 Xdo]
def k15_2:VC:=.reg [oD 15 (.loadN [(.int .i64),.bool,(.int .u64),(.int .u64),.bool,(.int .u64),(.int .u64),(.int .i64),(.int .i64),(.int .i64),.bool,(.int .u32),(.int .u32),.bool,.str,(.int .i64)] τ4),oM 16 τ7,oN (.store 16 τ2 Xdm),oM 3 Xdp]
def k15_3:VC:=.seq k15_2 .ret
def k15_4:VC:=.seq k15_1 k15_3
def XPp:VC:=.seq k15_0 k15_4
def fn15:VFn:=⟨17,XPp,[.cell 2 [(.int .i64),.bool,(.int .u64),(.int .u64),.bool,(.int .u64),(.int .u64),(.int .i64),(.int .i64),(.int .i64),.bool,(.int .u32),(.int .u32),.bool,.str,(.int .i64)] true,.tmp 3]⟩
def k31_0:VC:=.reg [oD 2 (.alloc [(.int .i64 0),(.bool false),(.int .u64 0),(.int .u64 0),(.bool false),(.int .u64 0),(.int .u64 0),(.int .i64 0),(.int .i64 0),(.int .i64 0),(.bool false),(.int .u32 0),(.int .u32 0),(.bool false),(.string ⟨⟨[]⟩⟩),(.int .i64 0)]),oD 3 (.mv (.const (.int .i64 0))),oD 4 (.mv (.const (.int .i64 0))),oD 5 (.mv (.const (.int .i64 0)))]
def k31_1:VC:=.reg [oM 18 τ0,oD 19 (.lenS XdW),oD 20 (.bin .gtr XdM (.const (.int .i64 9000)))]
def k31_2:VC:=.reg [oD 21 (.build [(.int .i64 0),(.bool false),(.int .u64 0),(.int .u64 0),(.bool false),(.int .u64 0),(.int .u64 0),(.int .i64 0),(.int .i64 0),(.int .i64 0),(.bool false),(.int .u32 0),(.int .u32 0),(.bool false),(.string ⟨⟨[]⟩⟩),(.int .i64 0)] []),oN (.store 16 τ2 Xeh),oD 3 (.mv (.const (.int .i64 0))),oD 4 (.mv (.const (.int .i64 0))),oD 5 (.mv (.const (.int .i64 5)))]
def k31_3:VC:=.seq k31_2 .ret
def k31_4:VC:=.cond Xea k31_3 .skip
def k31_5:VC:=.seq k31_1 k31_4
def k31_6:VC:=.reg [oM 22 τ0,oD 23 (.bin .eql XeF (.const (.string ⟨⟨[]⟩⟩)))]
def k31_7:VC:=.reg [oD 24 (.build [(.int .i64 0),(.bool false),(.int .u64 0),(.int .u64 0),(.bool false),(.int .u64 0),(.int .u64 0),(.int .i64 0),(.int .i64 0),(.int .i64 0),(.bool false),(.int .u32 0),(.int .u32 0),(.bool false),(.string ⟨⟨[]⟩⟩),(.int .i64 0)] []),oN (.store 16 τ2 XeB),oD 3 (.mv (.const (.int .i64 0))),oD 4 (.mv (.const (.int .i64 0))),oD 5 (.mv (.const (.int .i64 2)))]
def k31_8:VC:=.seq k31_7 .ret
def k31_9:VC:=.cond XeO k31_8 .skip
def XYt:VC:=.seq k31_6 k31_9
def XRp:VC:=.reg [oM 26 τ0,oD 27 (.callF 56 [Xeq]),oM 25 XeV,oE 28 0 XeW,oE 29 1 XeW,oD 6 (.alloc [(.bool false),(.int .u64 0),(.int .u64 0),(.bool false),(.int .u64 0),(.int .u64 0),(.int .i64 0),(.int .i64 0),(.string ⟨⟨[]⟩⟩)]),oN (.store 9 τ6 XeP),oM 7 Xe4]
def XV7:VC:=.reg [oM 30 τ7,oD 31 (.bin .neq Xfz (.const (.int .i64 0)))]
def XZi:VC:=.reg [oD 32 (.build [(.int .i64 0),(.bool false),(.int .u64 0),(.int .u64 0),(.bool false),(.int .u64 0),(.int .u64 0),(.int .i64 0),(.int .i64 0),(.int .i64 0),(.bool false),(.int .u32 0),(.int .u32 0),(.bool false),(.string ⟨⟨[]⟩⟩),(.int .i64 0)] []),oM 33 τ7,oN (.store 16 τ2 XfB),oD 3 (.mv (.const (.int .i64 0))),oD 4 (.mv (.const (.int .i64 0))),oM 5 XfC]
def XS3:VC:=.seq XZi .ret
def X7t:VC:=.cond Xfv XS3 .skip
def XNy:VC:=.seq XV7 X7t
def X6o:VC:=.reg [oD 34 (.fieldA 7 τ6),oD 35 (.load1 (.int .i64) XfE),oD 36 (.fieldA 8 τ6),oD 37 (.load1 .str XfV),oD 38 (.lenS XfA),oD 39 (.bin .add XfJ XgL),oM 40 τ0,oD 41 (.lenS Xhx),oD 42 (.bin .neq XgH Xht)]
def XPv:VC:=.reg [oD 43 (.build [(.int .i64 0),(.bool false),(.int .u64 0),(.int .u64 0),(.bool false),(.int .u64 0),(.int .u64 0),(.int .i64 0),(.int .i64 0),(.int .i64 0),(.bool false),(.int .u32 0),(.int .u32 0),(.bool false),(.string ⟨⟨[]⟩⟩),(.int .i64 0)] []),oN (.store 16 τ2 Xhz),oD 3 (.mv (.const (.int .i64 0))),oD 4 (.mv (.const (.int .i64 0))),oD 5 (.mv (.const (.int .i64 5)))]
def XMM:VC:=.seq XPv .ret
def XZJ:VC:=.cond Xhs XMM .skip
def XSr:VC:=.seq X6o XZJ
def XTU:VC:=.reg [oM 44 τ0,oD 45 (.lenS Xh4),oD 46 (.fieldA 6 τ6),oD 47 (.load1 (.int .i64) Xin),oD 48 (.fieldA 0 τ6),oD 49 (.loadN [.bool,(.int .u64),(.int .u64)] XiP),oD 50 (.fieldA 3 τ6),oD 51 (.loadN [.bool,(.int .u64),(.int .u64)] XiR),oD 52 (.build [(.int .i64 0),(.bool false),(.int .u64 0),(.int .u64 0),(.bool false),(.int .u64 0),(.int .u64 0),(.int .i64 0),(.int .i64 0)] [(0,1,Xh7),(1,3,XiL),(4,3,XiQ)]),oD 53 (.build [(.int .i64 0),(.bool false),(.int .u64 0),(.int .u64 0),(.bool false),(.int .u64 0),(.int .u64 0),(.int .i64 0),(.int .i64 0),(.int .i64 0),(.bool false),(.int .u32 0),(.int .u32 0),(.bool false),(.string ⟨⟨[]⟩⟩),(.int .i64 0)] [(15,1,XhP),(0,9,XjM)]),oD 8 (.alloc [(.int .i64 0),(.bool false),(.int .u64 0),(.int .u64 0),(.bool false),(.int .u64 0),(.int .u64 0),(.int .i64 0),(.int .i64 0),(.int .i64 0),(.bool false),(.int .u32 0),(.int .u32 0),(.bool false),(.string ⟨⟨[]⟩⟩),(.int .i64 0)]),oN (.store 16 τ8 XjZ)]
def XWM:VC:=.reg [oD 54 (.fieldA 6 τ6),oD 55 (.load1 (.int .i64) Xk1),oD 56 (.bin .eql XkZ (.const (.int .i64 6)))]
def X6z:VC:=.reg [oD 58 (.fieldA 8 τ6),oD 59 (.load1 .str XkW),oD 60 (.fieldA 0 τ6),oD 61 (.loadN [.bool,(.int .u64),(.int .u64)] XlW),oD 62 (.fieldA 3 τ6),oD 63 (.loadN [.bool,(.int .u64),(.int .u64)] XmV),oD 64 (.callF 57 [Xlf,Xl9,Xox]),oM 57 Xoh,oE 65 0 XkP,oE 66 1 XkP,oE 67 2 XkP,oD 9 (.alloc [(.int .i64 0),(.int .i64 0),(.int .u32 0),(.int .u32 0),(.int .i64 0),(.int .i64 0),(.int .i64 0),(.string ⟨⟨[]⟩⟩)]),oN (.store 8 τ9 XoD),oM 10 XoJ,oM 11 XoF]
def XWF:VC:=.reg [oM 68 Xb7,oD 69 (.bin .neq Xo6 (.const (.int .i64 0)))]
def XXM:VC:=.reg [oD 70 (.build [(.int .i64 0),(.bool false),(.int .u64 0),(.int .u64 0),(.bool false),(.int .u64 0),(.int .u64 0),(.int .i64 0),(.int .i64 0),(.int .i64 0),(.bool false),(.int .u32 0),(.int .u32 0),(.bool false),(.string ⟨⟨[]⟩⟩),(.int .i64 0)] []),oM 71 Xb7,oN (.store 16 τ2 XqW),oD 3 (.mv (.const (.int .i64 0))),oD 4 (.mv (.const (.int .i64 0))),oM 5 Xrk]
def XP2:VC:=.seq XXM .ret
def X4x:VC:=.cond XoS XP2 .skip
def X0J:VC:=.seq XWF X4x
def X2t:VC:=.reg [oD 72 (.fieldA 0 τ9),oD 73 (.load1 (.int .i64) Xrb),oD 74 (.fieldA 0 τ8),oD 75 (.fieldA 7 Xtu),oN (.store 1 Xs2 XsD)]
def XOZ:VC:=.reg [oD 76 (.fieldA 1 τ9),oD 77 (.load1 (.int .i64) Xwf),oD 78 (.fieldA 0 τ8),oD 79 (.fieldA 8 Xv5),oN (.store 1 XxI Xuj)]
def XMP:VC:=.reg [oD 80 (.fieldA 4 τ9),oD 81 (.load1 (.int .i64) XvY),oD 82 (.fieldA 9 τ8),oN (.store 1 XBF Xyd)]
def XRN:VC:=.reg [oD 84 (.fieldA 7 τ9),oD 85 (.load1 .str Xzu),oD 86 (.callF 58 [XCC]),oM 83 XGk,oE 87 0 XvW,oE 88 1 XvW,oE 89 2 XvW,oM 12 XF8,oM 13 XJu,oM 14 XzO]
def X3T:VC:=.reg [oM 90 Xdo,oD 91 (.bin .geq XDi (.const (.int .i64 0)))]
def XQe:VC:=.reg [oD 92 (.fieldA 10 τ8),oN (.store 1 XDH (.const (.bool true)))]
def XUS:VC:=.reg [oM 93 XcZ,oD 94 (.fieldA 11 τ8),oN (.store 1 XIA XFH)]
def XXP:VC:=.reg [oM 95 Xc0,oD 96 (.fieldA 12 τ8),oN (.store 1 XCd XKu)]
def X0k:VC:=.seq XUS XXP
def XSK:VC:=.seq XQe X0k
def XNi:VC:=.cond XKT XSK .skip
def XOV:VC:=.seq X3T XNi
def XWg:VC:=.regD [oD 97 (.loadN [(.int .i64),.bool,(.int .u64),(.int .u64),.bool,(.int .u64),(.int .u64),(.int .i64),(.int .i64),(.int .i64),.bool,(.int .u32),(.int .u32),.bool,.str,(.int .i64)] τ8),oD 98 (.fieldA 7 τ6),oD 99 (.load1 (.int .i64) τ98),oD 100 (.fieldA 7 τ6),oD 101 (.load1 (.int .i64) XKf),oD 102 (.bin .add XEZ (.const (.int .i64 20))),oD 103 (.fieldA 7 τ9),oD 104 (.load1 .str X2y),oD 105 (.lenS X24),oD 106 (.bin .add XOw XSC),oN (.store 16 τ2 XLp),oM 3 τ99] [(2,10),(4,10),(7,10)] [oM 4 XZN,oD 5 (.mv (.const (.int .i64 0)))]
def X5O:VC:=.seq XWg .ret
def XLF:VC:=.seq XOV X5O
def XZV:VC:=.seq XRN XLF
def XTw:VC:=.seq XMP XZV
def XUX:VC:=.seq XOZ XTw
def XZB:VC:=.seq X2t XUX
def X4h:VC:=.seq X0J XZB
def X5D:VC:=.seq X6z X4h
def X5R:VC:=.cond Xk7 X5D .skip
def X5N:VC:=.seq XWM X5R
def XTK:VC:=.reg [oD 107 (.fieldA 6 τ6),oD 108 (.load1 (.int .i64) XSS),oD 109 (.bin .neq XZe (.const (.int .i64 17)))]
def XNv:VC:=.reg [oD 110 (.build [(.int .i64 0),(.bool false),(.int .u64 0),(.int .u64 0),(.bool false),(.int .u64 0),(.int .u64 0),(.int .i64 0),(.int .i64 0),(.int .i64 0),(.bool false),(.int .u32 0),(.int .u32 0),(.bool false),(.string ⟨⟨[]⟩⟩),(.int .i64 0)] []),oN (.store 16 τ2 XNP),oD 3 (.mv (.const (.int .i64 0))),oD 4 (.mv (.const (.int .i64 0))),oD 5 (.mv (.const (.int .i64 6)))]
def XMJ:VC:=.seq XNv .ret
def XTB:VC:=.cond XZa XMJ .skip
def XPX:VC:=.seq XTK XTB
def XVh:VC:=.reg [oD 112 (.fieldA 8 τ6),oD 113 (.load1 .str XW1),oD 114 (.fieldA 0 τ6),oD 115 (.loadN [.bool,(.int .u64),(.int .u64)] X2c),oD 116 (.fieldA 3 τ6),oD 117 (.loadN [.bool,(.int .u64),(.int .u64)] X5S),oD 118 (.callF 59 [XNY,XNG,X4V]),oM 111 X3E,oE 119 0 XwT,oE 120 1 XwT,oE 121 2 XwT,oD 15 (.alloc [(.int .i64 0),(.int .i64 0)]),oN (.store 2 Xdm XQ3),oM 16 XV3,oM 7 X2J]
def X0N:VC:=.reg [oM 122 τ7,oD 123 (.bin .neq XYn (.const (.int .i64 0)))]
def X3l:VC:=.reg [oD 124 (.build [(.int .i64 0),(.bool false),(.int .u64 0),(.int .u64 0),(.bool false),(.int .u64 0),(.int .u64 0),(.int .i64 0),(.int .i64 0),(.int .i64 0),(.bool false),(.int .u32 0),(.int .u32 0),(.bool false),(.string ⟨⟨[]⟩⟩),(.int .i64 0)] []),oM 125 τ7,oN (.store 16 τ2 XOg),oD 3 (.mv (.const (.int .i64 0))),oD 4 (.mv (.const (.int .i64 0))),oM 5 X7A]
def XRZ:VC:=.seq X3l .ret
def X6W:VC:=.cond X53 XRZ .skip
def XZg:VC:=.seq X0N X6W
def X2E:VC:=.reg [oM 126 Xdp,oD 127 (.lenS XZn),oD 128 (.bin .add XMX (.const (.int .i64 8))),oD 129 (.fieldA 8 τ6),oD 130 (.load1 .str XYC),oD 131 (.lenS XWW),oD 132 (.bin .neq X5q X7n)]
def XXh:VC:=.reg [oD 133 (.build [(.int .i64 0),(.bool false),(.int .u64 0),(.int .u64 0),(.bool false),(.int .u64 0),(.int .u64 0),(.int .i64 0),(.int .i64 0),(.int .i64 0),(.bool false),(.int .u32 0),(.int .u32 0),(.bool false),(.string ⟨⟨[]⟩⟩),(.int .i64 0)] []),oN (.store 16 τ2 X3x),oD 3 (.mv (.const (.int .i64 0))),oD 4 (.mv (.const (.int .i64 0))),oD 5 (.mv (.const (.int .i64 5)))]
def X6p:VC:=.seq XXh .ret
def XOQ:VC:=.cond X0H X6p .skip
def X7y:VC:=.seq X2E XOQ
def XWO:VC:=.reg [oD 134 (.fieldA 0 Xdm),oD 135 (.load1 (.int .i64) XX6),oD 136 (.fieldA 0 τ8),oD 137 (.fieldA 7 XLM),oN (.store 1 XW8 XPx)]
def XMm:VC:=.reg [oD 138 (.fieldA 1 Xdm),oD 139 (.load1 (.int .i64) XZP),oD 140 (.fieldA 0 τ8),oD 141 (.fieldA 8 XWK),oN (.store 1 XPU X6g)]
def X2N:VC:=.reg [oM 143 Xdp,oD 144 (.callF 21 [XC9]),oM 142 X56,oE 145 0 XDx,oE 146 1 XDx,oD 17 (.alloc [(.bool false),(.int .i64 0),(.int .u32 0),(.string ⟨⟨[]⟩⟩),(.string ⟨⟨[]⟩⟩),(.string ⟨⟨[]⟩⟩)]),oN (.store 6 Xdn XXE),oM 7 XMl]
def X64:VC:=.reg [oM 147 τ7,oD 148 (.bin .eql X2o (.const (.int .i64 0)))]
def XSR:VC:=.reg [oD 149 (.fieldA 0 Xdn),oD 150 (.load1 .bool XNK),oD 151 (.fieldA 13 τ8),oN (.store 1 X0i X2S)]
def X25:VC:=.reg [oD 152 (.fieldA 3 Xdn),oD 153 (.load1 .str XP3),oD 154 (.fieldA 14 τ8),oN (.store 1 XQD XMw)]
def XSy:VC:=.seq XSR X25
def X3M:VC:=.cond X31 XSy .skip
def XPR:VC:=.seq X64 X3M
def X6E:VC:=.regD [oD 155 (.loadN [(.int .i64),.bool,(.int .u64),(.int .u64),.bool,(.int .u64),(.int .u64),(.int .i64),(.int .i64),(.int .i64),.bool,(.int .u32),(.int .u32),.bool,.str,(.int .i64)] τ8),oD 156 (.fieldA 7 τ6),oD 157 (.load1 (.int .i64) XGd),oD 158 (.fieldA 7 τ6),oD 159 (.load1 (.int .i64) X4n),oD 160 (.bin .add XTH (.const (.int .i64 8))),oN (.store 16 τ2 X2z),oM 3 X7w] [(2,6),(4,6)] [oM 4 X43,oD 5 (.mv (.const (.int .i64 0)))]
def X3p:VC:=.seq X6E .ret
def X4H:VC:=.seq XPR X3p
def X3H:VC:=.seq X2N X4H
def XLZ:VC:=.seq XMm X3H
def XNl:VC:=.seq XWO XLZ
def X2M:VC:=.seq X7y XNl
def XLE:VC:=.seq XZg X2M
def XSV:VC:=.seq XVh XLE
def XSz:VC:=.seq XPX XSV
def XX9:VC:=.seq X5N XSz
def X1O:VC:=.seq XTU XX9
def XTZ:VC:=.seq XSr X1O
def XRL:VC:=.seq XNy XTZ
def X4l:VC:=.seq XRp XRL
def X6N:VC:=.seq XYt X4l
def XOU:VC:=.seq k31_5 X6N
def XzU:VC:=.seq k31_0 XOU
def fn31:VFn:=⟨161,XzU,[.cell 2 [(.int .i64),.bool,(.int .u64),(.int .u64),.bool,(.int .u64),(.int .u64),(.int .i64),(.int .i64),(.int .i64),.bool,(.int .u32),(.int .u32),.bool,.str,(.int .i64)] true,.tmp 3,.tmp 4,.tmp 5]⟩
def k56_0:VC:=.reg [oD 2 (.alloc [(.bool false),(.int .u64 0),(.int .u64 0),(.bool false),(.int .u64 0),(.int .u64 0),(.int .i64 0),(.int .i64 0),(.string ⟨⟨[]⟩⟩)]),oD 3 (.mv (.const (.int .i64 0)))]
def k56_1:VC:=.reg [oM 10 τ0,oD 11 (.idxS Xcd (.const (.int .i64 0))),oD 12 (.bin .quo Xb7 (.const (.int .u8 16))),oD 13 (.bin .eql XcZ (.const (.int .u8 4)))]
def k56_2:VC:=.reg [oM 15 τ0,oD 16 (.callF 98 [Xdm]),oM 14 Xdp,oE 17 0 Xdo,oE 18 1 Xdo,oE 19 2 Xdo,oD 4 (.alloc [(.int .i64 0),(.int .i64 0),(.bool false),(.int .i64 0),(.int .i64 0),(.bool false),(.int .u64 0),(.int .u64 0),(.bool false),(.int .u64 0),(.int .u64 0),(.string ⟨⟨[]⟩⟩)]),oN (.store 12 τ4 Xdn),oM 5 XdW,oM 6 XdM]
def k56_3:VC:=.reg [oD 20 (.fieldA 5 τ4),oD 21 (.loadN [.bool,(.int .u64),(.int .u64)] Xea),oD 22 (.fieldA 8 τ4),oD 23 (.loadN [.bool,(.int .u64),(.int .u64)] XeF),oD 24 (.fieldA 4 τ4),oD 25 (.load1 (.int .i64) XeB),oD 26 (.fieldA 11 τ4),oD 27 (.load1 .str Xeq),oD 28 (.lenS XeV),oD 29 (.bin .add (.const (.int .i64 20)) XeP),oM 30 τ5,oD 31 (.build [(.bool false),(.int .u64 0),(.int .u64 0),(.bool false),(.int .u64 0),(.int .u64 0),(.int .i64 0),(.int .i64 0),(.string ⟨⟨[]⟩⟩)] [(0,3,Xeh),(3,3,XeO),(6,1,XeW),(7,1,Xe4),(8,1,Xfz)]),oM 32 τ6,oN (.store 9 τ2 Xfv),oM 3 XfB]
def k56_4:VC:=.seq k56_3 .ret
def k56_5:VC:=.seq k56_2 k56_4
def k56_6:VC:=.cond Xc0 k56_5 .skip
def k56_7:VC:=.seq k56_1 k56_6
def k56_8:VC:=.reg [oM 33 τ0,oD 34 (.idxS XfC (.const (.int .i64 0))),oD 35 (.bin .quo XfE (.const (.int .u8 16))),oD 36 (.bin .eql XfJ (.const (.int .u8 6)))]
def k56_9:VC:=.reg [oM 38 τ0,oD 39 (.callF 99 [XgL]),oM 37 XgH,oE 40 0 XfA,oE 41 1 XfA,oE 42 2 XfA,oD 7 (.alloc [(.int .i64 0),(.int .i64 0),(.int .i64 0),(.int .i64 0),(.bool false),(.int .u64 0),(.int .u64 0),(.bool false),(.int .u64 0),(.int .u64 0)]),oN (.store 10 τ7 Xhx),oM 8 Xht,oM 9 Xhs]
def XZs:VC:=.reg [oD 43 (.fieldA 4 τ7),oD 44 (.loadN [.bool,(.int .u64),(.int .u64)] Xhz),oD 45 (.fieldA 7 τ7),oD 46 (.loadN [.bool,(.int .u64),(.int .u64)] XhP),oD 47 (.fieldA 2 τ7),oD 48 (.load1 (.int .i64) Xh7),oM 49 τ8,oD 50 (.build [(.bool false),(.int .u64 0),(.int .u64 0),(.bool false),(.int .u64 0),(.int .u64 0),(.int .i64 0),(.int .i64 0),(.string ⟨⟨[]⟩⟩)] [(0,3,Xh4),(3,3,Xin),(6,1,XiP),(7,1,(.const (.int .i64 40))),(8,1,XiL)]),oM 51 τ9,oN (.store 9 τ2 XiR),oM 3 XiQ]
def X4W:VC:=.seq XZs .ret
def X1I:VC:=.seq k56_9 X4W
def XVB:VC:=.cond XfV X1I .skip
def X1L:VC:=.seq k56_8 XVB
def X2v:VC:=.reg [oD 52 (.build [(.bool false),(.int .u64 0),(.int .u64 0),(.bool false),(.int .u64 0),(.int .u64 0),(.int .i64 0),(.int .i64 0),(.string ⟨⟨[]⟩⟩)] []),oN (.store 9 τ2 XjM),oD 3 (.mv (.const (.int .i64 3)))]
def XNh:VC:=.seq X2v .ret
def XM3:VC:=.seq X1L XNh
def XT9:VC:=.seq k56_7 XM3
def XAH:VC:=.seq k56_0 XT9
def fn56:VFn:=⟨53,XAH,[.cell 2 [.bool,(.int .u64),(.int .u64),.bool,(.int .u64),(.int .u64),(.int .i64),(.int .i64),.str] true,.tmp 3]⟩
def k98_0:VC:=.reg [oD 2 (.alloc [(.int .i64 0),(.int .i64 0),(.bool false),(.int .i64 0),(.int .i64 0),(.bool false),(.int .u64 0),(.int .u64 0),(.bool false),(.int .u64 0),(.int .u64 0),(.string ⟨⟨[]⟩⟩)]),oD 3 (.mv (.const (.string ⟨⟨[]⟩⟩))),oD 4 (.mv (.const (.int .i64 0)))]
def k98_1:VC:=.reg [oM 11 τ0,oD 12 (.lenS Xb7),oD 13 (.bin .lss XcZ (.const (.int .i64 20)))]
def k98_2:VC:=.reg [oD 14 (.build [(.int .i64 0),(.int .i64 0),(.bool false),(.int .i64 0),(.int .i64 0),(.bool false),(.int .u64 0),(.int .u64 0),(.bool false),(.int .u64 0),(.int .u64 0),(.string ⟨⟨[]⟩⟩)] []),oN (.store 12 τ2 Xdo),oD 3 (.mv (.const (.string ⟨⟨[]⟩⟩))),oD 4 (.mv (.const (.int .i64 2)))]
def k98_3:VC:=.seq k98_2 .ret
def k98_4:VC:=.cond Xc0 k98_3 .skip
def k98_5:VC:=.seq k98_1 k98_4
def k98_6:VC:=.regD [oM 15 τ0,oD 16 (.idxS Xdm (.const (.int .i64 0))),oD 17 (.bin .rem Xdp (.const (.int .u8 16))),oD 18 (.conv .i64 Xdn),oD 19 (.bin .mul (.const (.int .i64 4)) XdW),oM 20 τ0,oD 21 (.callF 44 [Xea,(.const (.int .i64 2)),(.const (.int .i64 2))])] [] [oM 5 XdM,oM 6 Xeh]
def k98_7:VC:=.reg [oM 22 τ0,oD 23 (.idxS XeF (.const (.int .i64 0))),oD 24 (.bin .quo XeO (.const (.int .u8 16))),oD 25 (.bin .neq XeB (.const (.int .u8 4))),oM 26 XeW,oG 27 (.mv τ5) 26 false,oG 28 (.bin .lss XeV (.const (.int .i64 20))) 26 false,oD 29 (.pick Xeq (.const (.bool true)) XeP),oM 30 Xe4,oG 31 (.mv τ6) 30 false,oG 32 (.mv τ5) 30 false,oG 33 (.bin .lss Xfv XfB) 30 false,oD 34 (.pick Xfz (.const (.bool true)) XfC)]
def k98_8:VC:=.reg [oD 35 (.build [(.int .i64 0),(.int .i64 0),(.bool false),(.int .i64 0),(.int .i64 0),(.bool false),(.int .u64 0),(.int .u64 0),(.bool false),(.int .u64 0),(.int .u64 0),(.string ⟨⟨[]⟩⟩)] []),oN (.store 12 τ2 XfJ),oD 3 (.mv (.const (.string ⟨⟨[]⟩⟩))),oD 4 (.mv (.const (.int .i64 3)))]
def k98_9:VC:=.seq k98_8 .ret
def X5f:VC:=.cond XfE k98_9 .skip
def XQW:VC:=.seq k98_7 X5f
def X5i:VC:=.reg [oM 36 τ0,oD 37 (.lenS XfV),oM 38 τ6,oD 39 (.bin .lss XfA XgL)]
def X3o:VC:=.reg [oD 40 (.build [(.int .i64 0),(.int .i64 0),(.bool false),(.int .i64 0),(.int .i64 0),(.bool false),(.int .u64 0),(.int .u64 0),(.bool false),(.int .u64 0),(.int .u64 0),(.string ⟨⟨[]⟩⟩)] []),oN (.store 12 τ2 Xhx),oD 3 (.mv (.const (.string ⟨⟨[]⟩⟩))),oD 4 (.mv (.const (.int .i64 2)))]
def X1v:VC:=.seq X3o .ret
def XN6:VC:=.cond XgH X1v .skip
def XPz:VC:=.seq X5i XN6
def XZ6:VC:=.reg [oM 41 τ0,oM 42 τ5,oD 43 (.sliceS Xht none (some Xhs)),oD 44 (.callF 100 [Xhz]),oD 45 (.bin .neq Xh4 (.const (.int .i64 65535)))]
def XOY:VC:=.reg [oD 46 (.build [(.int .i64 0),(.int .i64 0),(.bool false),(.int .i64 0),(.int .i64 0),(.bool false),(.int .u64 0),(.int .u64 0),(.bool false),(.int .u64 0),(.int .u64 0),(.string ⟨⟨[]⟩⟩)] []),oN (.store 12 τ2 Xin),oD 3 (.mv (.const (.string ⟨⟨[]⟩⟩))),oD 4 (.mv (.const (.int .i64 4)))]
def XTX:VC:=.seq XOY .ret
def XMh:VC:=.cond XhP XTX .skip
def X5Y:VC:=.seq XZ6 XMh
def XRh:VC:=.reg [oM 47 τ0,oD 48 (.idxS Xh7 (.const (.int .i64 6))),oD 49 (.bin .neq XiP (.const (.int .u8 0))),oM 50 XiL,oG 51 (.mv τ0) 50 true,oG 52 (.idxS XiQ (.const (.int .i64 6))) 50 true,oG 53 (.bin .neq XjM (.const (.int .u8 64))) 50 true,oD 54 (.pick XiR XjZ (.const (.bool false))),oM 55 Xk1,oG 56 (.mv τ0) 55 false,oG 57 (.idxS Xk7 (.const (.int .i64 7))) 55 false,oG 58 (.bin .neq XkP (.const (.int .u8 0))) 55 false,oD 59 (.pick XkZ (.const (.bool true)) XkW)]
def XRb:VC:=.reg [oD 60 (.build [(.int .i64 0),(.int .i64 0),(.bool false),(.int .i64 0),(.int .i64 0),(.bool false),(.int .u64 0),(.int .u64 0),(.bool false),(.int .u64 0),(.int .u64 0),(.string ⟨⟨[]⟩⟩)] []),oN (.store 12 τ2 XlW),oD 3 (.mv (.const (.string ⟨⟨[]⟩⟩))),oD 4 (.mv (.const (.int .i64 7)))]
def XXF:VC:=.seq XRb .ret
def XQX:VC:=.cond Xlf XXF .skip
def XOs:VC:=.seq XRh XQX
def XL5:VC:=.reg [oM 62 τ0,oD 63 (.sliceS XmV (some (.const (.int .i64 12))) (some (.const (.int .i64 16)))),oD 64 (.callF 122 [Xox]),oM 61 Xoh,oE 65 0 Xl9,oE 66 1 Xl9,oD 7 (.alloc [(.bool false),(.int .u64 0),(.int .u64 0)]),oN (.store 3 τ7 XoD),oM 8 XoJ]
def XUA:VC:=.reg [oM 68 τ0,oD 69 (.sliceS Xo6 (some (.const (.int .i64 16))) (some (.const (.int .i64 20)))),oD 70 (.callF 122 [XoS]),oM 67 XqW,oE 71 0 XoF,oE 72 1 XoF,oD 9 (.alloc [(.bool false),(.int .u64 0),(.int .u64 0)]),oN (.store 3 τ9 Xrk),oM 10 Xrb]
def XWe:VC:=.regD [oM 73 τ0,oD 74 (.idxS XsD (.const (.int .i64 1))),oD 75 (.conv .i64 Xtu),oM 76 τ0,oD 77 (.callF 44 [Xwf,(.const (.int .i64 4)),(.const (.int .i64 2))]),oM 78 τ0,oD 79 (.idxS Xv5 (.const (.int .i64 6))),oD 80 (.bin .eql XxI (.const (.int .u8 64))),oM 81 τ0,oD 82 (.idxS Xyd (.const (.int .i64 8))),oD 83 (.conv .i64 XBF),oM 84 τ0,oD 85 (.idxS Xzu (.const (.int .i64 9))),oD 86 (.conv .i64 XCC),oD 87 (.loadN [.bool,(.int .u64),(.int .u64)] τ7),oD 88 (.loadN [.bool,(.int .u64),(.int .u64)] τ9),oM 89 τ0,oM 90 τ5,oD 91 (.sliceS XzO (some (.const (.int .i64 20))) (some XDi)),oD 92 (.build [(.int .i64 0),(.int .i64 0),(.bool false),(.int .i64 0),(.int .i64 0),(.bool false),(.int .u64 0),(.int .u64 0),(.bool false),(.int .u64 0),(.int .u64 0),(.string ⟨⟨[]⟩⟩)] [(0,1,Xs2),(1,1,Xuj),(2,1,XvY),(3,1,XvW),(4,1,XGk),(5,3,XF8),(8,3,XJu),(11,1,XKT)]),oM 93 τ0,oM 94 τ5,oM 95 τ6,oD 96 (.sliceS XFH (some XIA) (some XKu)),oN (.store 12 τ2 XDH)] [(4,14),(4,15)] [oM 3 XCd,oD 4 (.mv (.const (.int .i64 0)))]
def X44:VC:=.seq XWe .ret
def X4r:VC:=.seq XUA X44
def XQG:VC:=.seq XL5 X4r
def X5h:VC:=.seq XOs XQG
def XOx:VC:=.seq X5Y X5h
def XUP:VC:=.seq XPz XOx
def XQp:VC:=.seq XQW XUP
def XTr:VC:=.seq k98_6 XQp
def XL4:VC:=.seq k98_5 XTr
def XzQ:VC:=.seq k98_0 XL4
def fn98:VFn:=⟨97,XzQ,[.cell 2 [(.int .i64),(.int .i64),.bool,(.int .i64),(.int .i64),.bool,(.int .u64),(.int .u64),.bool,(.int .u64),(.int .u64),.str] true,.tmp 3,.tmp 4]⟩
def k44_0:VC:=.reg [oD 6 (.mv (.const (.int .i64 0)))]
def k44_1:VC:=.reg [oM 10 τ0,oM 11 τ1,oM 12 τ2,oD 13 (.callF 70 [Xcd,Xb7,XcZ]),oM 9 Xc0,oE 14 0 τ9,oE 15 1 τ9,oM 7 Xdo,oM 8 Xdm]
def k44_2:VC:=.reg [oM 16 τ7,oD 17 (.conv .i64 Xdp),oM 6 Xdn]
def k44_3:VC:=.seq k44_2 .ret
def k44_4:VC:=.seq k44_1 k44_3
def XWs:VC:=.seq k44_0 k44_4
def fn44:VFn:=⟨18,XWs,[.tmp 6]⟩
def k70_0:VC:=.reg [oD 6 (.mv (.const (.int .u64 0))),oD 7 (.mv (.const (.bool false)))]
def k70_1:VC:=.reg [oM 10 τ2,oD 11 (.bin .lss Xcd (.const (.int .i64 1))),oM 12 Xb7,oG 13 (.mv τ2) 12 false,oG 14 (.bin .gtr Xc0 (.const (.int .i64 8))) 12 false,oD 15 (.pick XcZ (.const (.bool true)) Xdo),oM 16 Xdm,oG 17 (.mv τ1) 16 false,oG 18 (.bin .lss Xdn (.const (.int .i64 0))) 16 false,oD 19 (.pick Xdp (.const (.bool true)) XdW),oM 20 XdM,oG 21 (.mv τ1) 20 false,oG 22 (.mv τ0) 20 false,oG 23 (.lenS XeF) 20 false,oG 24 (.bin .gtr Xeh XeO) 20 false,oD 25 (.pick Xea (.const (.bool true)) XeB),oM 26 XeW,oG 27 (.mv τ2) 26 false,oG 28 (.mv τ0) 26 false,oG 29 (.lenS XeP) 26 false,oG 30 (.mv τ1) 26 false,oG 31 (.bin .sub Xe4 Xfz) 26 false,oG 32 (.bin .gtr XeV Xfv) 26 false,oD 33 (.pick Xeq (.const (.bool true)) XfB)]
def k70_2:VC:=.reg [oD 6 (.mv (.const (.int .u64 0))),oD 7 (.mv (.const (.bool false)))]
def k70_3:VC:=.seq k70_2 .ret
def k70_4:VC:=.cond XfC k70_3 .skip
def k70_5:VC:=.seq k70_1 k70_4
def k70_6:VC:=.reg [oD 8 (.mv (.const (.int .u64 0)))]
def k70_7:VC:=.reg [oD 9 (.mv (.const (.int .i64 0)))]
def k70_8:VC:=.reg [oM 34 τ9,oM 35 τ2,oD 36 (.bin .lss XfE XfJ)]
def k70_9:VC:=.cond XfV .skip (.exit 0)
def X63:VC:=.seq k70_8 k70_9
def XY9:VC:=.reg [oM 39 τ8,oD 40 (.bin .mul XgH (.const (.int .u64 256))),oM 41 τ0,oM 42 τ1,oM 43 τ9,oD 44 (.bin .add Xhs Xhz),oD 45 (.idxS Xht Xh4),oD 46 (.conv .u64 XhP),oD 47 (.bin .add Xhx Xin),oM 8 Xh7]
def XUs:VC:=.block 1 XY9
def XWi:VC:=.reg [oM 37 τ9,oD 38 (.bin .add XfA (.const (.int .i64 1))),oM 9 XgL]
def X03:VC:=.seq XUs XWi
def Xs0:VC:=.seq X63 X03
def XYr:VC:=.loop Xs0
def XV9:VC:=.block 0 XYr
def XQ1:VC:=.seq k70_7 XV9
def XSI:VC:=.reg [oM 48 τ8,oM 6 XiP,oD 7 (.mv (.const (.bool true)))]
def XBA:VC:=.seq XSI .ret
def XV0:VC:=.seq XQ1 XBA
def XPd:VC:=.seq k70_6 XV0
def XYd:VC:=.seq k70_5 XPd
def XAh:VC:=.seq k70_0 XYd
def fn70:VFn:=⟨49,XAh,[.tmp 6,.tmp 7]⟩
def XTd:VC:=.reg [oD 2 (.mv (.const (.int .i64 0)))]
def X3J:VC:=.reg [oM 3 τ0,oD 4 (.callF 124 [τ3]),oD 5 (.callF 123 [τ4]),oM 2 τ5]
def X4N:VC:=.seq X3J .ret
def XAl:VC:=.seq XTd X4N
def XYg:VFn:=⟨6,XAl,[.tmp 2]⟩
def XNo:VC:=.reg [oD 2 (.mv (.const (.slice none 0 0)))]
def XPP:VC:=.reg [oM 5 τ0,oD 6 (.lenS τ5),oD 7 (.bin .rem τ6 (.const (.int .i64 2))),oD 8 (.bin .eql τ7 (.const (.int .i64 1)))]
def X7q:VC:=.reg [oM 9 τ0,oD 10 (.bin .add τ9 (.const (.string ⟨⟨[0]⟩⟩))),oM 0 Xcd]
def XWX:VC:=.cond τ8 X7q .skip
def XSf:VC:=.seq XPP XWX
def X4T:VC:=.reg [oD 3 (.mv (.const (.slice none 0 0)))]
def X3f:VC:=.reg [oD 4 (.mv (.const (.int .i64 0)))]
def X2x:VC:=.reg [oM 11 τ4,oM 12 τ0,oD 13 (.lenS XcZ),oD 14 (.bin .lss Xb7 Xc0)]
def X0n:VC:=.cond Xdo .skip (.exit 0)
def XS7:VC:=.seq X2x X0n
def XH7:VC:=.reg [oM 17 τ3,oM 18 τ0,oM 19 τ4,oD 20 (.callF 44 [XdW,XdM,(.const (.int .i64 2))]),oD 21 (.buildSl 1 1 [(.int .i64 0)] [(0,1,Xea)]),oD 22 (.app 3 1 8 Xdn Xeh),oM 3 XeF]
def XK5:VC:=.block 1 XH7
def XDn:VC:=.reg [oM 15 τ4,oD 16 (.bin .add Xdm (.const (.int .i64 2))),oM 4 Xdp]
def XHk:VC:=.seq XK5 XDn
def Xqd:VC:=.seq XS7 XHk
def XFL:VC:=.loop Xqd
def XDM:VC:=.block 0 XFL
def XCZ:VC:=.seq X3f XDM
def XG5:VC:=.reg [oM 23 τ3,oM 2 XeO]
def XvB:VC:=.seq XG5 .ret
def XDW:VC:=.seq XCZ XvB
def XCX:VC:=.seq X4T XDW
def XKG:VC:=.seq XSf XCX
def XvF:VC:=.seq XNo XKG
def X3S:VFn:=⟨24,XvF,[.tmp 2]⟩
def XSu:VC:=.reg [oD 2 (.mv (.const (.int .i64 0)))]
def XXT:VC:=.reg [oD 3 (.mv (.const (.int .i64 0)))]
def XVs:VC:=.reg [oD 4 (.mv (.const (.int .i64 0)))]
def XSx:VC:=.reg [oM 5 τ4,oM 6 τ0,oD 7 (.lenL τ6),oD 8 (.bin .lss τ5 τ7)]
def XVC:VC:=.cond τ8 .skip (.exit 0)
def XRS:VC:=.seq XSx XVC
def XOk:VC:=.reg [oM 11 τ3,oM 12 τ0,oM 13 τ4,oD 14 (.idxAL 1 XcZ Xc0),oD 15 (.load1 (.int .i64) Xdo),oD 16 (.bin .add Xb7 Xdm),oM 3 Xdp]
def XR1:VC:=.block 1 XOk
def XZy:VC:=.reg [oM 9 τ4,oD 10 (.bin .add τ9 (.const (.int .i64 1))),oM 4 Xcd]
def X54:VC:=.seq XR1 XZy
def XpT:VC:=.seq XRS X54
def XEn:VC:=.loop XpT
def XH3:VC:=.block 0 XEn
def XJ5:VC:=.seq XVs XH3
def XI8:VC:=.reg [oM 17 τ3,oD 18 (.bin .gtr Xdn (.const (.int .i64 65535)))]
def XFt:VC:=.cond XdW .skip (.exit 2)
def XHU:VC:=.seq XI8 XFt
def XKS:VC:=.reg [oM 19 τ3,oD 20 (.bin .rem XdM (.const (.int .i64 65536))),oM 21 τ3,oD 22 (.bin .quo Xeh (.const (.int .i64 65536))),oD 23 (.bin .add Xea XeF),oM 3 XeO]
def XCv:VC:=.block 3 XKS
def Xp6:VC:=.seq XHU XCv
def XDD:VC:=.loop Xp6
def XKh:VC:=.block 2 XDD
def XCn:VC:=.reg [oM 24 τ3,oM 2 XeB]
def XuH:VC:=.seq XCn .ret
def Xuh:VC:=.seq XKh XuH
def XLi:VC:=.seq XJ5 Xuh
def XIQ:VC:=.seq XXT XLi
def Xvi:VC:=.seq XSu XIQ
def XM5:VFn:=⟨25,Xvi,[.tmp 2]⟩
def XZd:VC:=.reg [oD 2 (.alloc [(.bool false),(.int .u64 0),(.int .u64 0)]),oD 3 (.mv (.const (.bool false)))]
def X3L:VC:=.reg [oM 10 τ0,oD 11 (.lenS Xcd),oD 12 (.bin .eql Xb7 (.const (.int .i64 4)))]
def X6w:VC:=.reg [oM 14 τ0,oD 15 (.callF 70 [Xdo,(.const (.int .i64 0)),(.const (.int .i64 4))]),oM 13 Xdm,oE 16 0 Xc0,oE 17 1 Xc0,oM 4 Xdp,oM 5 Xdn]
def X0P:VC:=.reg [oM 18 τ4,oD 19 (.build [(.bool false),(.int .u64 0),(.int .u64 0)] [(2,1,XdW)]),oN (.store 3 τ2 XdM),oD 3 (.mv (.const (.bool true)))]
def X0z:VC:=.seq X0P .ret
def XNj:VC:=.seq X6w X0z
def XYz:VC:=.cond XcZ XNj .skip
def XRr:VC:=.seq X3L XYz
def XVA:VC:=.reg [oM 20 τ0,oD 21 (.lenS Xea),oD 22 (.bin .eql Xeh (.const (.int .i64 16)))]
def XR6:VC:=.reg [oM 24 τ0,oD 25 (.callF 70 [XeB,(.const (.int .i64 0)),(.const (.int .i64 8))]),oM 23 XeW,oE 26 0 XeO,oE 27 1 XeO,oM 6 Xeq,oM 7 XeV]
def XKA:VC:=.reg [oM 29 τ0,oD 30 (.callF 70 [Xe4,(.const (.int .i64 8)),(.const (.int .i64 8))]),oM 28 Xfz,oE 31 0 XeP,oE 32 1 XeP,oM 8 Xfv,oM 9 XfB]
def XEU:VC:=.reg [oM 33 τ6,oM 34 τ8,oD 35 (.build [(.bool false),(.int .u64 0),(.int .u64 0)] [(0,1,(.const (.bool true))),(1,1,XfC),(2,1,XfE)]),oN (.store 3 τ2 XfJ),oD 3 (.mv (.const (.bool true)))]
def XDG:VC:=.seq XEU .ret
def XKo:VC:=.seq XKA XDG
def XJZ:VC:=.seq XR6 XKo
def XLj:VC:=.cond XeF XJZ .skip
def XIG:VC:=.seq XVA XLj
def XGO:VC:=.reg [oD 36 (.build [(.bool false),(.int .u64 0),(.int .u64 0)] []),oN (.store 3 τ2 XfV),oD 3 (.mv (.const (.bool false)))]
def XDE:VC:=.seq XGO .ret
def XEi:VC:=.seq XIG XDE
def XJb:VC:=.seq XRr XEi
def XtB:VC:=.seq XZd XJb
def XYR:VFn:=⟨37,XtB,[.cell 2 [.bool,(.int .u64),(.int .u64)] true,.tmp 3]⟩
def k99_0:VC:=.reg [oD 2 (.alloc [(.int .i64 0),(.int .i64 0),(.int .i64 0),(.int .i64 0),(.bool false),(.int .u64 0),(.int .u64 0),(.bool false),(.int .u64 0),(.int .u64 0)]),oD 3 (.mv (.const (.string ⟨⟨[]⟩⟩))),oD 4 (.mv (.const (.int .i64 0)))]
def k99_1:VC:=.reg [oM 11 τ0,oD 12 (.lenS Xb7),oD 13 (.bin .lss XcZ (.const (.int .i64 40)))]
def k99_2:VC:=.reg [oD 14 (.build [(.int .i64 0),(.int .i64 0),(.int .i64 0),(.int .i64 0),(.bool false),(.int .u64 0),(.int .u64 0),(.bool false),(.int .u64 0),(.int .u64 0)] []),oN (.store 10 τ2 Xdo),oD 3 (.mv (.const (.string ⟨⟨[]⟩⟩))),oD 4 (.mv (.const (.int .i64 2)))]
def k99_3:VC:=.seq k99_2 .ret
def k99_4:VC:=.cond Xc0 k99_3 .skip
def k99_5:VC:=.seq k99_1 k99_4
def k99_6:VC:=.reg [oM 15 τ0,oD 16 (.callF 44 [Xdm,(.const (.int .i64 0)),(.const (.int .i64 4))]),oM 17 τ0,oD 18 (.callF 44 [Xdn,(.const (.int .i64 4)),(.const (.int .i64 2))]),oM 5 Xdp,oM 6 XdW]
def k99_7:VC:=.reg [oM 19 τ5,oD 20 (.bin .quo XdM (.const (.int .i64 268435456))),oD 21 (.bin .neq Xea (.const (.int .i64 6)))]
def k99_8:VC:=.reg [oD 22 (.build [(.int .i64 0),(.int .i64 0),(.int .i64 0),(.int .i64 0),(.bool false),(.int .u64 0),(.int .u64 0),(.bool false),(.int .u64 0),(.int .u64 0)] []),oN (.store 10 τ2 XeF),oD 3 (.mv (.const (.string ⟨⟨[]⟩⟩))),oD 4 (.mv (.const (.int .i64 3)))]
def k99_9:VC:=.seq k99_8 .ret
def XPh:VC:=.cond Xeh k99_9 .skip
def XUW:VC:=.seq k99_7 XPh
def XSp:VC:=.reg [oM 23 τ0,oD 24 (.lenS XeO),oD 25 (.bin .sub XeB (.const (.int .i64 40))),oM 26 τ6,oD 27 (.bin .lss XeW Xeq)]
def XLI:VC:=.reg [oD 28 (.build [(.int .i64 0),(.int .i64 0),(.int .i64 0),(.int .i64 0),(.bool false),(.int .u64 0),(.int .u64 0),(.bool false),(.int .u64 0),(.int .u64 0)] []),oN (.store 10 τ2 XeP),oD 3 (.mv (.const (.string ⟨⟨[]⟩⟩))),oD 4 (.mv (.const (.int .i64 2)))]
def XQH:VC:=.seq XLI .ret
def XPH:VC:=.cond XeV XQH .skip
def X06:VC:=.seq XSp XPH
def X1j:VC:=.reg [oM 30 τ0,oD 31 (.sliceS Xfz (some (.const (.int .i64 8))) (some (.const (.int .i64 24)))),oD 32 (.callF 122 [Xfv]),oM 29 XfB,oE 33 0 Xe4,oE 34 1 Xe4,oD 7 (.alloc [(.bool false),(.int .u64 0),(.int .u64 0)]),oN (.store 3 τ7 XfC),oM 8 XfE]
def XOz:VC:=.reg [oM 36 τ0,oD 37 (.sliceS XfV (some (.const (.int .i64 24))) (some (.const (.int .i64 40)))),oD 38 (.callF 122 [XfA]),oM 35 XgL,oE 39 0 XfJ,oE 40 1 XfJ,oD 9 (.alloc [(.bool false),(.int .u64 0),(.int .u64 0)]),oN (.store 3 τ9 XgH),oM 10 Xhx]
def XVG:VC:=.regD [oM 41 τ5,oD 42 (.bin .quo Xht (.const (.int .i64 1048576))),oD 43 (.bin .rem Xhs (.const (.int .i64 256))),oM 44 τ5,oD 45 (.bin .rem Xh4 (.const (.int .i64 1048576))),oM 46 τ0,oD 47 (.idxS Xin (.const (.int .i64 6))),oD 48 (.conv .i64 Xh7),oM 49 τ0,oD 50 (.idxS XiL (.const (.int .i64 7))),oD 51 (.conv .i64 XiR),oD 52 (.loadN [.bool,(.int .u64),(.int .u64)] τ7),oD 53 (.loadN [.bool,(.int .u64),(.int .u64)] τ9),oD 54 (.build [(.int .i64 0),(.int .i64 0),(.int .i64 0),(.int .i64 0),(.bool false),(.int .u64 0),(.int .u64 0),(.bool false),(.int .u64 0),(.int .u64 0)] [(0,1,Xhz),(1,1,XhP),(2,1,XiP),(3,1,XiQ),(4,3,XjM),(7,3,XjZ)]),oM 55 τ0,oM 56 τ6,oD 57 (.bin .add (.const (.int .i64 40)) Xk7),oD 58 (.sliceS XkZ (some (.const (.int .i64 40))) (some XkP)),oN (.store 10 τ2 Xk1)] [] [oM 3 XkW,oD 4 (.mv (.const (.int .i64 0)))]
def XX4:VC:=.seq XVG .ret
def XO5:VC:=.seq XOz XX4
def X3Z:VC:=.seq X1j XO5
def X59:VC:=.seq X06 X3Z
def X7p:VC:=.seq XUW X59
def X01:VC:=.seq k99_6 X7p
def XLG:VC:=.seq k99_5 X01
def XzD:VC:=.seq k99_0 XLG
def fn99:VFn:=⟨59,XzD,[.cell 2 [(.int .i64),(.int .i64),(.int .i64),(.int .i64),.bool,(.int .u64),(.int .u64),.bool,(.int .u64),(.int .u64)] true,.tmp 3,.tmp 4]⟩
theorem X4a:(Tryz.prog.funcs[3]?).bind (Xay Tryz.prog)=some fn3:=by kernel_rfl
theorem XQL:(Tryz.prog.funcs[5]?).bind (Xay Tryz.prog)=some fn5:=by kernel_rfl
theorem X2D:(Tryz.prog.funcs[8]?).bind (Xay Tryz.prog)=some fn8:=by kernel_rfl
theorem XFk:(Tryz.prog.funcs[23]?).bind (Xay Tryz.prog)=some fn23:=by kernel_rfl
theorem XHx:(Tryz.prog.funcs[28]?).bind (Xay Tryz.prog)=some fn28:=by kernel_rfl
theorem XJU:(Tryz.prog.funcs[24]?).bind (Xay Tryz.prog)=some fn24:=by kernel_rfl
theorem XHn:(Tryz.prog.funcs[11]?).bind (Xay Tryz.prog)=some fn11:=by kernel_rfl
theorem XJw:(Tryz.prog.funcs[12]?).bind (Xay Tryz.prog)=some fn12:=by kernel_rfl
theorem XDY:(Tryz.prog.funcs[10]?).bind (Xay Tryz.prog)=some fn10:=by kernel_rfl
theorem X1E:(Tryz.prog.funcs[6]?).bind (Xay Tryz.prog)=some fn6:=by kernel_rfl
theorem XKp:(Tryz.prog.funcs[22]?).bind (Xay Tryz.prog)=some fn22:=by kernel_rfl
theorem XEo:(Tryz.prog.funcs[46]?).bind (Xay Tryz.prog)=some fn46:=by kernel_rfl
theorem XCW:(Tryz.prog.funcs[71]?).bind (Xay Tryz.prog)=some fn71:=by kernel_rfl
theorem XxS:(Tryz.prog.funcs[106]?).bind (Xay Tryz.prog)=some XTu:=by kernel_rfl
theorem Xyc:(Tryz.prog.funcs[129]?).bind (Xay Tryz.prog)=some XVH:=by kernel_rfl
theorem XHu:(Tryz.prog.funcs[61]?).bind (Xay Tryz.prog)=some fn61:=by kernel_rfl
theorem XKm:(Tryz.prog.funcs[62]?).bind (Xay Tryz.prog)=some fn62:=by kernel_rfl
theorem XGi:(Tryz.prog.funcs[64]?).bind (Xay Tryz.prog)=some fn64:=by kernel_rfl
theorem XJ3:(Tryz.prog.funcs[63]?).bind (Xay Tryz.prog)=some fn63:=by kernel_rfl
theorem XB4:(Tryz.prog.funcs[40]?).bind (Xay Tryz.prog)=some fn40:=by kernel_rfl
theorem XxK:(Tryz.prog.funcs[131]?).bind (Xay Tryz.prog)=some XSY:=by kernel_rfl
theorem XyE:(Tryz.prog.funcs[112]?).bind (Xay Tryz.prog)=some X7c:=by kernel_rfl
theorem XwK:(Tryz.prog.funcs[104]?).bind (Xay Tryz.prog)=some X0w:=by kernel_rfl
theorem Xy0:(Tryz.prog.funcs[126]?).bind (Xay Tryz.prog)=some X2i:=by kernel_rfl
theorem Xys:(Tryz.prog.funcs[128]?).bind (Xay Tryz.prog)=some X33:=by kernel_rfl
theorem Xwq:(Tryz.prog.funcs[134]?).bind (Xay Tryz.prog)=some X4w:=by kernel_rfl
theorem Xwm:(Tryz.prog.funcs[135]?).bind (Xay Tryz.prog)=some X4f:=by kernel_rfl
theorem XxX:(Tryz.prog.funcs[130]?).bind (Xay Tryz.prog)=some XUV:=by kernel_rfl
theorem XK2:(Tryz.prog.funcs[72]?).bind (Xay Tryz.prog)=some fn72:=by kernel_rfl
theorem Xyt:(Tryz.prog.funcs[107]?).bind (Xay Tryz.prog)=some XZU:=by kernel_rfl
theorem XxR:(Tryz.prog.funcs[109]?).bind (Xay Tryz.prog)=some XSG:=by kernel_rfl
theorem Xx2:(Tryz.prog.funcs[113]?).bind (Xay Tryz.prog)=some XUD:=by kernel_rfl
theorem XJg:(Tryz.prog.funcs[80]?).bind (Xay Tryz.prog)=some fn80:=by kernel_rfl
theorem XGl:(Tryz.prog.funcs[42]?).bind (Xay Tryz.prog)=some fn42:=by kernel_rfl
theorem XH8:(Tryz.prog.funcs[82]?).bind (Xay Tryz.prog)=some fn82:=by kernel_rfl
theorem Xwy:(Tryz.prog.funcs[116]?).bind (Xay Tryz.prog)=some XY8:=by kernel_rfl
theorem XwP:(Tryz.prog.funcs[133]?).bind (Xay Tryz.prog)=some X5W:=by kernel_rfl
theorem Xyu:(Tryz.prog.funcs[117]?).bind (Xay Tryz.prog)=some XMR:=by kernel_rfl
theorem XxZ:(Tryz.prog.funcs[132]?).bind (Xay Tryz.prog)=some XMr:=by kernel_rfl
theorem XyJ:(Tryz.prog.funcs[102]?).bind (Xay Tryz.prog)=some XXO:=by kernel_rfl
theorem Xxn:(Tryz.prog.funcs[103]?).bind (Xay Tryz.prog)=some X3r:=by kernel_rfl
theorem Xx3:(Tryz.prog.funcs[125]?).bind (Xay Tryz.prog)=some X3G:=by kernel_rfl
theorem XFM:(Tryz.prog.funcs[60]?).bind (Xay Tryz.prog)=some fn60:=by kernel_rfl
theorem XI3:(Tryz.prog.funcs[73]?).bind (Xay Tryz.prog)=some fn73:=by kernel_rfl
theorem Xxk:(Tryz.prog.funcs[108]?).bind (Xay Tryz.prog)=some XRF:=by kernel_rfl
theorem XFJ:(Tryz.prog.funcs[39]?).bind (Xay Tryz.prog)=some fn39:=by kernel_rfl
theorem XCq:(Tryz.prog.funcs[65]?).bind (Xay Tryz.prog)=some fn65:=by kernel_rfl
theorem XHB:(Tryz.prog.funcs[66]?).bind (Xay Tryz.prog)=some fn66:=by kernel_rfl
theorem XJP:(Tryz.prog.funcs[67]?).bind (Xay Tryz.prog)=some fn67:=by kernel_rfl
theorem XIu:(Tryz.prog.funcs[25]?).bind (Xay Tryz.prog)=some fn25:=by kernel_rfl
theorem XKe:(Tryz.prog.funcs[47]?).bind (Xay Tryz.prog)=some fn47:=by kernel_rfl
theorem XHq:(Tryz.prog.funcs[74]?).bind (Xay Tryz.prog)=some fn74:=by kernel_rfl
theorem XGL:(Tryz.prog.funcs[75]?).bind (Xay Tryz.prog)=some fn75:=by kernel_rfl
theorem Xwz:(Tryz.prog.funcs[110]?).bind (Xay Tryz.prog)=some XM0:=by kernel_rfl
theorem XxF:(Tryz.prog.funcs[111]?).bind (Xay Tryz.prog)=some XZp:=by kernel_rfl
theorem XID:(Tryz.prog.funcs[76]?).bind (Xay Tryz.prog)=some fn76:=by kernel_rfl
theorem XHO:(Tryz.prog.funcs[77]?).bind (Xay Tryz.prog)=some fn77:=by kernel_rfl
theorem XCc:(Tryz.prog.funcs[78]?).bind (Xay Tryz.prog)=some fn78:=by kernel_rfl
theorem XHp:(Tryz.prog.funcs[43]?).bind (Xay Tryz.prog)=some fn43:=by kernel_rfl
theorem XIT:(Tryz.prog.funcs[48]?).bind (Xay Tryz.prog)=some fn48:=by kernel_rfl
theorem XFU:(Tryz.prog.funcs[79]?).bind (Xay Tryz.prog)=some fn79:=by kernel_rfl
theorem XEg:(Tryz.prog.funcs[49]?).bind (Xay Tryz.prog)=some fn49:=by kernel_rfl
theorem XG7:(Tryz.prog.funcs[81]?).bind (Xay Tryz.prog)=some fn81:=by kernel_rfl
theorem Xyk:(Tryz.prog.funcs[114]?).bind (Xay Tryz.prog)=some XPY:=by kernel_rfl
theorem Xxa:(Tryz.prog.funcs[115]?).bind (Xay Tryz.prog)=some XQC:=by kernel_rfl
theorem XXZ:(Tryz.prog.funcs[7]?).bind (Xay Tryz.prog)=some fn7:=by kernel_rfl
theorem XEc:(Tryz.prog.funcs[15]?).bind (Xay Tryz.prog)=some fn15:=by kernel_rfl
theorem XJQ:(Tryz.prog.funcs[31]?).bind (Xay Tryz.prog)=some fn31:=by kernel_rfl
theorem XJ1:(Tryz.prog.funcs[56]?).bind (Xay Tryz.prog)=some fn56:=by kernel_rfl
theorem XFF:(Tryz.prog.funcs[98]?).bind (Xay Tryz.prog)=some fn98:=by kernel_rfl
theorem XGp:(Tryz.prog.funcs[44]?).bind (Xay Tryz.prog)=some fn44:=by kernel_rfl
theorem XFW:(Tryz.prog.funcs[70]?).bind (Xay Tryz.prog)=some fn70:=by kernel_rfl
theorem Xyg:(Tryz.prog.funcs[100]?).bind (Xay Tryz.prog)=some XYg:=by kernel_rfl
theorem Xxh:(Tryz.prog.funcs[124]?).bind (Xay Tryz.prog)=some X3S:=by kernel_rfl
theorem XwM:(Tryz.prog.funcs[123]?).bind (Xay Tryz.prog)=some XM5:=by kernel_rfl
theorem XyX:(Tryz.prog.funcs[122]?).bind (Xay Tryz.prog)=some XYR:=by kernel_rfl
theorem XCu:(Tryz.prog.funcs[99]?).bind (Xay Tryz.prog)=some fn99:=by kernel_rfl
end Go.Vm.Code
