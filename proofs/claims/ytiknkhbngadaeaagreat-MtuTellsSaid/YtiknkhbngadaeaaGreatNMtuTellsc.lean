import Derived.Test.YtiknkhbngadaeaaGreatNMtuTellsb
namespace Go.Vm
open Go Go.RowKit
abbrev wI (k:IntKind) (n:Int):Int:=IntKind.wrap k n
abbrev XjC (k:IntKind) (a b:Int):Int:=IntKind.wrap k (BitVec.ofInt k.bits a &&& BitVec.ofInt k.bits b).toNat
abbrev Xkl (k:IntKind) (a b:Int):Int:=IntKind.wrap k (BitVec.ofInt k.bits a ||| BitVec.ofInt k.bits b).toNat
abbrev Xwp (k:IntKind) (a b:Int):Int:=IntKind.wrap k (BitVec.ofInt k.bits a &&& ~~~ BitVec.ofInt k.bits b).toNat
def XaK {α:Type} (b:Bool) (x:Option α):Option α:=match b with|true=>x|false=>none
theorem XaK.elim {α:Type} {b:Bool} {x:Option α} {r:α} (h:XaK b x=some r):b=true∧x=some r:=by cases b;cases h;exact ⟨rfl,h⟩
theorem XaK.mk {α:Type} {b:Bool} {x:Option α} (h:b=true):XaK b x=x:=by subst h;rfl
theorem Xak.elim {α β:Type} {x:Option α} {F:α→Option β} {r:β} (h:x.bind F=some r):∃ a,x=some a∧F a=some r:=by cases x with|none=>cases h|some a=>exact ⟨a,rfl,h⟩
def FUEL:Nat:=2^64
def iter {σ ρ:Type} (f:σ→Option (Sum σ ρ)):Nat→σ→Option ρ
 | 0,_=>none
 | n+1,s=>match f s with
   | none=>none
   | some (.inl s')=>iter f n s'
   | some (.inr r)=>some r
theorem Xcm {σ ρ:Type} {P:Program} {f base:Nat} {R:Value→Hp→Nat→Prop} {step:σ→Option (Sum σ ρ)} {head:σ→VM} {C:ρ→Prop}
 (h:∀ s o,step s=some o→Sum.elim (fun s'=>XaD P f base (head s') R) C o→XaD P f base (head s) R) :
 ∀ n s r,iter step n s=some r→C r→XaD P f base (head s) R
 | 0,_,_,e,_=>by cases e
 | n+1,s,r,e,hc=>by
   rw [iter] at e
   split at e
   ·cases e
   ·rename_i s' hs
    exact h s _ hs (Xcm h n s' r e hc)
   ·rename_i r' hs
    cases e
    exact h s _ hs hc
def vI (k:IntKind) (xs:List Int):List Value:=xs.map (Value.int k)
def vB (xs:List Bool):List Value:=xs.map Value.bool
def vS (xs:List (List UInt8)):List Value:=xs.map fun s=>Value.string ⟨⟨s⟩⟩
def bI (l:List UInt8):List Int:=l.map fun b=>(b.toNat:Int)
def iB (xs:List Int):List UInt8:=xs.map fun n=>UInt8.ofNat n.toNat
@[simp] theorem vI_len (k:IntKind) (xs:List Int):(vI k xs).length=xs.length:=List.length_map _
@[simp] theorem vB_len (xs:List Bool):(vB xs).length=xs.length:=List.length_map _
@[simp] theorem vS_len (xs:List (List UInt8)):(vS xs).length=xs.length:=List.length_map _
@[simp] theorem bI_len (l:List UInt8):(bI l).length=l.length:=List.length_map _
@[simp] theorem iB_len (l:List Int):(iB l).length=l.length:=List.length_map _
theorem XhN (k:IntKind) (xs:List Int):Xbx.flatL (vI k xs)=true:=XkJ (fun _=>rfl) xs
theorem XnV (xs:List Bool):Xbx.flatL (vB xs)=true:=XkJ (fun _=>rfl) xs
theorem Xn5 (xs:List (List UInt8)):Xbx.flatL (vS xs)=true:=XkJ (fun _=>rfl) xs
theorem Xh5 (k:IntKind):∀ (xs:List Int),(vI k xs).all Xge=true
 | []=>rfl
 | _::xs=>by simp only [vI,List.map_cons,List.all_cons,Xge,Bool.true_and];exact Xh5 k xs
theorem XkI:∀ (xs:List Bool),(vB xs).all Xge=true
 | []=>rfl
 | _::xs=>by simp only [vB,List.map_cons,List.all_cons,Xge,Bool.true_and];exact XkI xs
theorem XkF:∀ (xs:List (List UInt8)),(vS xs).all Xge=true
 | []=>rfl
 | _::xs=>by simp only [vS,List.map_cons,List.all_cons,Xge,Bool.true_and];exact XkF xs
theorem Xgd (l:List UInt8):ofBytes l=vI .u8 (bI l):=by simp [ofBytes,vI,bI,List.map_map]
theorem Xlx:∀ (xs:List Int),XeU (vI .u8 xs)=some (iB xs)
 | []=>rfl
 | x::xs=>by simp only [vI,List.map_cons,XeU];rw [show XeU (xs.map (Value.int .u8))=_ from Xlx xs];rfl
theorem X5B (k:IntKind) (xs:List Int) (i:Nat) (x:Int):(vI k xs).set i (.int k x)=vI k (xs.set i x):=by simp [vI,List.map_set]
theorem Xlj (k:IntKind) (xs:List Int) (n:Nat):(vI k xs).drop n=vI k (xs.drop n):=by simp [vI,List.map_drop]
theorem Xlb (k:IntKind) (xs:List Int) (n:Nat):(vI k xs).take n=vI k (xs.take n):=by simp [vI,List.map_take]
theorem XnT (xs:List (List UInt8)) (n:Nat):(vS xs).drop n=vS (xs.drop n):=by simp [vS,List.map_drop]
theorem Xn7 (xs:List (List UInt8)) (n:Nat):(vS xs).take n=vS (xs.take n):=by simp [vS,List.map_take]
theorem XzA (k:IntKind) (xs ys:List Int):vI k xs++vI k ys=vI k (xs++ys):=by simp [vI]
theorem br.h {α:Type} {b b':Bool} {X Y:Option α} {r:α} {p q:Prop} (h:cond b' X Y=some r) (e:b=b') (k1:b'=true→X=some r→p) (k2:b'=false→Y=some r→q):br b p q:=by
 subst e;cases b;exact k2 rfl h;exact k1 rfl h
theorem rd.I {k:IntKind} {xs:List Int} {o i:Nat} {x:Int} {K:Value→Prop} (hx:xs[i]?=some x) (e:o=i) (h:XgG (.int k x) K):rd (vI k xs) o K:=by
 subst e;exact rd.intro (v:=.int k x) (by simp [vI,hx]) h
theorem rd.B {xs:List Bool} {o i:Nat} {x:Bool} {K:Value→Prop} (hx:xs[i]?=some x) (e:o=i) (h:XgG (.bool x) K):rd (vB xs) o K:=by
 subst e;exact rd.intro (v:=.bool x) (by simp [vB,hx]) h
theorem rd.S {xs:List (List UInt8)} {o i:Nat} {x:List UInt8} {K:Value→Prop} (hx:xs[i]?=some x) (e:o=i) (h:XgG (.string ⟨⟨x⟩⟩) K):rd (vS xs) o K:=by
 subst e;exact rd.intro (v:=.string ⟨⟨x⟩⟩) (by simp [vS,hx]) h
theorem XJW {k:IntKind} {xs:List Int} {o i:Nat} {x:Int} (hb:decide (i<xs.length)=true) (e:o=i):(decide ((XaO (.int k x)).length=1∧o+1≤(vI k xs).length)&&(XaO (.int k x)).all Xge)=true:=by
 subst e;have:=of_decide_eq_true hb;simp [XaO,Value.cells,Xge];omega
theorem XZs {k:IntKind} {xs:List Int} {o i:Nat} {x:Int} {K:List Value→Prop} (e:o=i) (h:K (vI k (xs.set i x))):∃ cs',setAt (vI k xs) o (XaO (.int k x))=cs'∧K cs':=
 ⟨_,by subst e;exact X5B k xs o x,h⟩
theorem XXc {k:IntKind} {n:Nat} {z:Int} {K:List Value→Prop} (h:K (vI k (List.replicate n z))):∃ cs',(List.replicate n [Value.int k z]).flatten=cs'∧K cs':=
 ⟨_,by simp [vI,List.flatten_replicate_singleton],h⟩
theorem XOZ {l:List UInt8} {K:List Value→Prop} (h:K (vI .u8 (bI l))):∃ cs',ofBytes l=cs'∧K cs':=⟨_,Xgd l,h⟩
theorem X6c {xs:List Int} {o n:Nat} {K:List UInt8→Prop} (h:K (iB ((xs.drop o).take n))):∃ bs,XeU (((vI .u8 xs).drop o).take n)=some bs∧K bs:=
 ⟨_,by rw [Xlj,Xlb];exact Xlx _,h⟩
theorem XKx {l:List Value} {bs:List UInt8} {K:List UInt8→Prop} (e:XeU l=some bs) (h:K bs):∃ bs,XeU l=some bs∧K bs:=⟨_,e,h⟩
theorem XIh {k:IntKind} {new:List Value} {m:Nat} {ys:List Int} {K:List Value→Nat→Prop} (e:new=vI k ys) (em:m=ys.length) (h:K (vI k ys) ys.length):∃ cs' n',new=cs'∧m=n'∧K cs' n':=⟨_,_,e,em,h⟩
theorem X4G {k:IntKind} {new:List Value} {xs:List Int} {o c n m:Nat} {ys:List Int} {K:List Value→Nat→Prop} (e:new=vI k ys) (h0:o=0) (hc:c=xs.length) (hn:n+m=(xs++ys).length) (h:K (vI k (xs++ys)) (xs++ys).length) :
 ∃ cs' n',((vI k xs).drop o).take c++new=cs'∧n+m=n'∧K cs' n':=
 ⟨_,_,by subst h0;rw [List.drop_zero,List.take_of_length_le (by simp [hc]),e,XzA],hn,h⟩
def vT {α:Type} (f:α→List Value) (xs:List α):List Value:=xs.flatMap f
section
variable {α:Type} {f:α→List Value} {c:Nat}
theorem XfJ (hf:∀ x,(f x).length=c) (xs:List α):(vT f xs).length=xs.length*c:=by
 induction xs with
 | nil=>simp [vT]
 | cons x xs ih=>
   have:vT f (x::xs)=f x++vT f xs:=rfl
   rw [this,List.length_append,hf,ih,List.length_cons,Nat.succ_mul];omega
theorem Xml (hf:∀ x,Xbx.flatL (f x)=true) (xs:List α):Xbx.flatL (vT f xs)=true:=by
 have app:∀ a b:List Value,Xbx.flatL a=true→Xbx.flatL b=true→Xbx.flatL (a++b)=true:=by
  intro a b ha hb
  induction a with
  | nil=>exact hb
  | cons v a ih=>simp only [Xbx.flatL,Bool.and_eq_true,List.cons_append] at ha ⊢;exact ⟨ha.1,ih ha.2⟩
 induction xs with
 | nil=>rfl
 | cons x xs ih=>exact app _ _ (hf x) ih
theorem XlD (hf:∀ x,(f x).all Xge=true) (xs:List α):(vT f xs).all Xge=true:=by
 induction xs with
 | nil=>rfl
 | cons x xs ih=>have:vT f (x::xs)=f x++vT f xs:=rfl;rw [this,List.all_append,hf,ih];rfl
theorem XTV (xs ys:List α):vT f xs++vT f ys=vT f (xs++ys):=by simp [vT]
theorem XeF (hf:∀ x,(f x).length=c) (xs:List α) (n:Nat):(vT f xs).drop (n*c)=vT f (xs.drop n):=by
 induction xs generalizing n with
 | nil=>simp [vT]
 | cons x xs ih=>
   cases n with
   | zero=>simp
   | succ n=>
     have:vT f (x::xs)=f x++vT f xs:=rfl
     rw [this,List.drop_succ_cons,Nat.succ_mul,Nat.add_comm,List.drop_append,hf,List.drop_eq_nil_of_le (by rw [hf];omega),List.nil_append,show c+n*c - c=n*c by omega,ih]
theorem XeK (hf:∀ x,(f x).length=c) (xs:List α) (n:Nat):(vT f xs).take (n*c)=vT f (xs.take n):=by
 induction xs generalizing n with
 | nil=>simp [vT]
 | cons x xs ih=>
   cases n with
   | zero=>simp [vT]
   | succ n=>
     have:vT f (x::xs)=f x++vT f xs:=rfl
     have h2:vT f ((x::xs).take (n+1))=f x++vT f (xs.take n):=rfl
     rw [this,h2,Nat.succ_mul,Nat.add_comm,List.take_append,hf,List.take_of_length_le (by rw [hf];omega),show c+n*c - c=n*c by omega,ih]
theorem XBD (hf:∀ x,(f x).length=c) {xs:List α} {i j:Nat} {x:α} (hx:xs[i]?=some x) (hj:j<c):(vT f xs)[i*c+j]?=(f x)[j]?:=by
 induction xs generalizing i with
 | nil=>simp at hx
 | cons y xs ih=>
   have:vT f (y::xs)=f y++vT f xs:=rfl
   rw [this]
   cases i with
   | zero=>
     simp at hx;subst hx
     rw [Nat.zero_mul,Nat.zero_add,List.getElem?_append_left (by rw [hf];exact hj)]
   | succ i=>
     rw [List.getElem?_append_right (by rw [hf,Nat.succ_mul];omega),hf,show (i+1)*c+j - c=i*c+j by rw [Nat.succ_mul];omega]
     exact ih (by simpa using hx)
theorem rd.T (hf:∀ x,(f x).length=c) {xs:List α} {o i j:Nat} {x:α} {v:Value} {K:Value→Prop} (hx:xs[i]?=some x) (e:o=i*c+j) (hj:j<c) (hv:(f x)[j]?=some v) (h:XgG v K):rd (vT f xs) o K:=by
 subst e;exact rd.intro (by rw [XBD hf hx hj];exact hv) h
theorem XAa {cs:List Value}:∀ {l:List Value} {o:Nat} {K:List Value→Prop},(∀ (j:Nat) v,l[j]?=some v→cs[o+j]?=some v)→K l→rdN cs o l.length K
 | [],o,K,_,h=>h
 | v::l,o,K,hc,h=>by
   rw [List.length_cons,rdN]
   refine rd.intro (by simpa using hc 0 v rfl) ?_
   rw [Xe0]
   exact XAa (l:=l) (fun j u hj=>by rw [show o+1+j=o+(j+1) by omega];exact hc (j+1) u (by simpa using hj)) h
theorem ld_T (hf:∀ x,(f x).length=c) {xs:List α} {o i n:Nat} {x:α} {K:List Value→Prop} (hx:xs[i]?=some x) (e:o=i*c) (hn:n=c) (h:XjW (f x) K):req (decide (o+n≤(vT f xs).length)) (rdN (vT f xs) o n K):=by
 subst e hn
 have hlt:i<xs.length:=(List.getElem?_eq_some_iff.1 hx).1
 refine req.intro ?_ ?_
 ·rw [XfJ hf,decide_eq_true_eq]
  have:=Nat.mul_le_mul_right n (show i+1≤xs.length by omega)
  rw [Nat.succ_mul] at this;exact this
 ·rw [Xh8] at h
  have:=XAa (cs:=vT f xs) (l:=f x) (o:=i*n) (K:=K) (fun j v hj=>by
   have hj':j<n:=by rw [←hf x];exact (List.getElem?_eq_some_iff.1 hj).1
   rw [XBD hf hx hj'];exact hj) h
  rwa [hf] at this
theorem XBU (hf:∀ x,(f x).length=c) {new:List Value} {xs:List α} {o k n m:Nat} {ys:List α} {K:List Value→Nat→Prop} (e:new=vT f ys) (h0:o=0) (hc:k=xs.length*c) (hn:n+m=(xs++ys).length) (h:K (vT f (xs++ys)) (xs++ys).length) :
 ∃ cs' n',((vT f xs).drop o).take k++new=cs'∧n+m=n'∧K cs' n':=
 ⟨_,_,by subst h0;rw [List.drop_zero,List.take_of_length_le (by rw [XfJ hf,hc];omega),e,XTV],hn,h⟩
end
theorem Xat {s:Xbp} {vals aqs:List Value} {os:List (Option Xbk)} {h h1 h2:Hp} {top n m t':Nat} {ws:List Wd} {r:Xco} {v':Value} (e1:XcK h 0 s.modes vals=some (aqs,os)) (ew:XiS h s.modes vals=ws) {cw:List (Option (List Value))} (ec:XaA os=cw) (e2:s.run aqs cw=some r) (e3:apartB ws=true)
 (hn:r.new.length=n) (hm:XjM ws=m) (ht:top+n+m=t') (e4:XcE h (Xtt top n ws) ws r.wr=some h1) (e5:XhB h1 (Xtt top n ws) top r.new=some h2) (e6:XdN (Xtt top n ws) r.v=some v'):XgF s vals h top=some (v',Xii h2 (top+n) m,t'):=by
 subst hn hm ht ec
 simp only [XgF,e1,e2,ew,e3,e4,e5,e6]
theorem Xbd {h:Hp} {k:Nat}:XcK h k [] []=some ([],[]):=rfl
theorem Xas {h:Hp} {k k':Nat} {m:Md} {ms:List Md} {v a:Value} {vs aqs:List Value} {os os':List (Option Xbk)} (e:Xc8 h k m v=some (a,os)) (hk:k+os.length=k') (t:XcK h k' ms vs=some (aqs,os')):XcK h k (m::ms) (v::vs)=some (a::aqs,os++os'):=by
 subst hk
 simp only [XcK,e,t]
theorem ra_sl {h:Hp} {k b o n m sz sz':Nat} {ob:Xbk} {cs cs':List Value} (ho:Xar h b=some ob) (hc:ob.cs=some cs) (hs:sz=sz') (en:n=m) (hle:o+n*sz≤cs.length) (e:(cs.drop o).take (n*sz)=cs') (hf:Xbx.flatL cs'=true) :
 Xc8 h k (.sl sz) (.slice (some ⟨b,o,none⟩) n sz')=some (.slice (some ⟨k,0,none⟩) m sz,[some (.row false cs')]):=by
 subst hs en e
 simp only [Xc8,ho,hc,hle,hf,↓reduceIte]
theorem XiL {h:Hp} {b o n i m sz kk:Nat} {k:IntKind} {own:Bool} {xs:List Int} (ho:Xar h b=some (.row own (vI k xs))) (hs:sz=1) (e0:o=i) (en:n=m) (hle:i+m≤xs.length):Xc8 h kk (.sl 1) (.slice (some ⟨b,o,none⟩) n sz)=some (.slice (some ⟨kk,0,none⟩) m 1,[some (.row false (vI k ((xs.drop i).take m)))]):=by
 subst hs e0 en
 exact ra_sl ho rfl rfl rfl (by simp;omega) (by rw [Xlj,Xlb,Nat.mul_one]) (XhN _ _)
theorem Xhl {h:Hp} {b o n sz kk:Nat} {k:IntKind} {own:Bool} {xs:List Int} (ho:Xar h b=some (.row own (vI k xs))) (hs:sz=1) (e0:o=0) (en:n=xs.length):Xc8 h kk (.sl 1) (.slice (some ⟨b,o,none⟩) n sz)=some (.slice (some ⟨kk,0,none⟩) xs.length 1,[some (.row false (vI k xs))]):=by
 have:=XiL (kk:=kk) (i:=0) (m:=xs.length) ho hs e0 en (by omega)
 simpa using this
theorem X45 {h:Hp} {k:Nat} {ps:List Path} {bs:List PR} {v v' w:Value} {l:List (Option Xbk)} (e0:Xfz h v ps []=bs) (e1:XdN (XsQ k bs) v=some v') (e2:XfF h (XsQ k bs) (fun s=>Xj7 k s ps bs) 0 ps bs=some l) (e3:Xra v' (Xj7 k none ps bs)=w):Xc8 h k (.tr ps) v=some (w,l):=by
 subst e0 e3
 simp only [Xc8,e1,e2]
theorem XAD {h:Hp} {s:Nat→Option Nat} {pat:Option Nat→List (Nat×Value)} {i:Nat}:XfF h s pat i [] []=some []:=rfl
theorem XUC {h:Hp} {s:Nat→Option Nat} {pat:Option Nat→List (Nat×Value)} {i b:Nat} {p:Path} {ps:List Path} {bs:List PR} {l:List (Option Xbk)} {ob:Xbk} {cs cs' cs'':List Value} (e1:Xar h b=some ob) (e2:(cond (isW p.kind) ob.wcs ob.cs)=some cs) (e3:XdN.renL s cs=some cs') (e4:XmW cs' (pat (some i))=cs'')
 (t:XfF h s pat (i+1) ps bs=some l):XfF h s pat i (p::ps) (.hit b::bs)=some (some (mkObj p.kind cs'')::l):=by
 subst e4
 simp only [XfF,e1,e2,e3,t]
def skipW:Wd→Bool
 | .no|.emp _|.win _ _ _ false|.blk _ false=>true
 | _=>false
theorem Xbc {h:Hp} {s:Nat→Option Nat}:XcE h s [] []=some h:=rfl
theorem XgA {h h':Hp} {s:Nat→Option Nat} {x:Wd} {ws:List Wd} {c:Option (List Value)} {cs:List (Option (List Value))} (hx:skipW x=true) (t:XcE h s ws cs=some h'):XcE h s (x::ws) (c::cs)=some h':=by
 cases x with
 | win b o n w=>cases w<;>first|(simp only [XcE];exact t)|cases hx
 | blk b w=>cases w<;>first|(simp only [XcE];exact t)|cases hx
 | _=>simp only [XcE];exact t
theorem XbK {h h':Hp} {s:Nat→Option Nat} {b off n:Nat} {ws:List Wd} {c c' x y:List Value} {cs:List (Option (List Value))} {ob ob':Xbk} (e1:Xar h b=some ob) (e2:ob.wcs=some x) (e3:XdN.renL s c=some c') (e4:c'.length=n∧off+n≤x.length) (e5:setAt x off c'=y) (e6:ob.wr y=some ob') (t:XcE (Xeq h b ob') s ws cs=some h') :
 XcE h s (.win b off n true::ws) (some c::cs)=some h':=by
 subst e5
 simp only [XcE,e1,e2,e3,e6,if_pos e4];exact t
theorem XBB {h h':Hp} {s:Nat→Option Nat} {b:Nat} {ws:List Wd} {c c' x:List Value} {cs:List (Option (List Value))} {ob ob':Xbk} (e1:Xar h b=some ob) (e2:ob.wcs=some x) (e3:XdN.renL s c=some c') (e6:ob.wr c'=some ob') (t:XcE (Xeq h b ob') s ws cs=some h') :
 XcE h s (.blk b true::ws) (some c::cs)=some h':=by
 simp only [XcE,e1,e2,e3,e6];exact t
theorem Xbb {h:Hp} {s:Nat→Option Nat} {top:Nat}:XhB h s top []=some h:=rfl
theorem XhO {h h':Hp} {s:Nat→Option Nat} {top:Nat} {c c':List Value} {cs:List (List Value)} (e:XdN.renL s c=some c') (t:XhB (Xeq h top (.row true c')) s (top+1) cs=some h'):XhB h s top (c::cs)=some h':=by
 simp only [XhB,e];exact t
theorem rn_I {s:Nat→Option Nat} {k:IntKind} {xs:List Int}:XdN.renL s (vI k xs)=some (vI k xs):=Xer _ _ (XhN _ _)
theorem XpV {s:Nat→Option Nat} {α:Type} {f:α→List Value} (hfl:∀ x,Xbx.flatL (f x)=true) {xs:List α}:XdN.renL s (vT f xs)=some (vT f xs):=Xer _ _ (Xml hfl _)
def XLq (n:Nat) (wr:List (Option (List Value))):List Nat→Prop
 | []=>True
 | j::js=>(n≤j∨wr[j]?=some none)∧XLq n wr js
theorem XqI {n:Nat} {wr:List (Option (List Value))}:∀ {js:List Nat},XLq n wr js→∀ j∈js,n≤j∨wr[j]?=some none
 | [],_,j,h=>by cases h
 | k::js,h,j,hj=>by
   rcases List.mem_cons.1 hj with rfl|hj
   ·exact h.1
   ·exact XqI h.2 j hj
theorem Res.of {n:Nat} {r:Xco} {v':Value} {H':Hp} (js:List Nat) (e1:XdN (XsH js n) r.v=some v') (e2:Xqn H' (XsH js n) js r.new) (e3:js.Nodup) (e4:XLq n r.wr js) (e5:Xv5 H' (XsH js n) 0 r.wr):Res n r v' H':=
 ⟨⟨js,e1,e2,e3,XqI e4,e5⟩⟩
theorem XiN {H:Hp} {j:Nat} {c:List Value} (h:Xar H j=some (.row true c)):Has H j c:=.inl h
theorem Xca {H:Hp} {j:Nat} {c:List Value} (h:Xar H j=some (.cells c)):Has H j c:=.inr (.inl h)
abbrev Dec:=List Value→List (Option (List Value))→Option Xco
def dV {α:Type} (un:Value→Option α) (K:α→Dec):Dec:=fun vs cs=>match vs with
 | v::vs'=>match un v with
   | some x=>K x vs' cs
   | none=>none
 | []=>none
theorem XaS {α:Type} {un:Value→Option α} {K:α→Dec} {v:Value} {vs:List Value} {cs:List (Option (List Value))} {x:α} (h:un v=some x):dV un K (v::vs) cs=K x vs cs:=by simp only [dV,h]
theorem dV.elim {α:Type} {un:Value→Option α} {K:α→Dec} {vs:List Value} {cs:List (Option (List Value))} {r:Xco} (h:dV un K vs cs=some r):∃ v vs' x,vs=v::vs'∧un v=some x∧K x vs' cs=some r:=by
 unfold dV at h
 split at h<;>try (cases h;done)
 split at h<;>try (cases h;done)
 exact ⟨_,_,_,rfl,by assumption,h⟩
def dSl {α:Type} (k sz:Nat) (un:List Value→Option (List α)) (K:List α→Dec):Dec:=fun vs cs=>match vs,cs with
 | .slice (some ⟨k',0,none⟩) n sz'::vs',some c::cs'=>match un c with
   | some xs=>if k'=k∧sz'=sz∧n=xs.length then K xs vs' cs' else none
   | none=>none
 | _,_=>none
theorem XrN {α:Type} {k sz:Nat} {un:List Value→Option (List α)} {K:List α→Dec} {vs:List Value} {c:List Value} {cs:List (Option (List Value))} {xs:List α} (h:un c=some xs):dSl k sz un K (.slice (some ⟨k,0,none⟩) xs.length sz::vs) (some c::cs)=K xs vs cs:=by simp [dSl,h]
theorem dSl.elim {α:Type} {k sz:Nat} {un:List Value→Option (List α)} {K:List α→Dec} {vs:List Value} {cs:List (Option (List Value))} {r:Xco} (h:dSl k sz un K vs cs=some r):∃ c vs' cs' xs,vs=.slice (some ⟨k,0,none⟩) xs.length sz::vs'∧cs=some c::cs'∧un c=some xs∧K xs vs' cs'=some r:=by
 unfold dSl at h
 split at h<;>try (cases h;done)
 split at h<;>try (cases h;done)
 split at h<;>try (cases h;done)
 rename_i hc
 obtain ⟨rfl,rfl,rfl⟩:=hc
 exact ⟨_,_,_,_,rfl,rfl,by assumption,h⟩
def dTr {α:Type} (n:Nat) (un:Value→List (Option (List Value))→Option α) (K:α→Dec):Dec:=fun vs cs=>match vs with
 | v::vs'=>match un v (cs.take n) with
   | some x=>K x vs' (cs.drop n)
   | none=>none
 | []=>none
theorem XNZ {α:Type} {n:Nat} {un:Value→List (Option (List Value))→Option α} {K:α→Dec} {v:Value} {vs:List Value} {cs cs1 cs2:List (Option (List Value))} {x:α} (h1:cs.take n=cs1) (h2:cs.drop n=cs2) (h:un v cs1=some x):dTr n un K (v::vs) cs=K x vs cs2:=by
 subst h1 h2;simp only [dTr,h]
theorem dTr.elim {α:Type} {n:Nat} {un:Value→List (Option (List Value))→Option α} {K:α→Dec} {vs:List Value} {cs:List (Option (List Value))} {r:Xco} (h:dTr n un K vs cs=some r):∃ v vs' cs1 cs2 x,vs=v::vs'∧cs=cs1++cs2∧un v cs1=some x∧K x vs' cs2=some r:=by
 unfold dTr at h
 split at h<;>try (cases h;done)
 split at h<;>try (cases h;done)
 exact ⟨_,_,_,_,_,rfl,(List.take_append_drop n cs).symm,by assumption,h⟩
def dPt {α:Type} (k:Nat) (un:List Value→Option α) (K:α→Dec):Dec:=fun vs cs=>match vs,cs with
 | .pointer (some ⟨k',0,none⟩)::vs',some c::cs'=>match un c with
   | some x=>if k'=k then K x vs' cs' else none
   | none=>none
 | _,_=>none
theorem XmG {α:Type} {k:Nat} {un:List Value→Option α} {K:α→Dec} {vs:List Value} {c:List Value} {cs:List (Option (List Value))} {x:α} (h:un c=some x):dPt k un K (.pointer (some ⟨k,0,none⟩)::vs) (some c::cs)=K x vs cs:=by simp [dPt,h]
theorem dPt.elim {α:Type} {k:Nat} {un:List Value→Option α} {K:α→Dec} {vs:List Value} {cs:List (Option (List Value))} {r:Xco} (h:dPt k un K vs cs=some r):∃ c vs' cs' x,vs=.pointer (some ⟨k,0,none⟩)::vs'∧cs=some c::cs'∧un c=some x∧K x vs' cs'=some r:=by
 unfold dPt at h
 split at h<;>try (cases h;done)
 split at h<;>try (cases h;done)
 split at h<;>try (cases h;done)
 rename_i hc
 subst hc
 exact ⟨_,_,_,_,rfl,rfl,by assumption,h⟩
def dNo:Nat→Dec→Dec
 | 0,K=>K
 | n+1,K=>fun vs cs=>match cs with
   | none::cs'=>dNo n K vs cs'
   | _=>none
theorem dNo.elim {K:Dec} {vs:List Value} {r:Xco}:∀ {n:Nat} {cs:List (Option (List Value))},dNo n K vs cs=some r→∃ cs',cs=List.replicate n none++cs'∧K vs cs'=some r
 | 0,cs,h=>⟨cs,rfl,h⟩
 | n+1,cs,h=>by
   simp only [dNo] at h
   split at h<;>try (cases h;done)
   obtain ⟨cs',rfl,h2⟩:=dNo.elim h
   exact ⟨cs',rfl,h2⟩
def dNl (n:Nat) (K:Dec):Dec:=fun vs cs=>match vs with
 | .pointer none::vs'=>dNo n K vs' cs
 | _=>none
theorem dNl.elim {n:Nat} {K:Dec} {vs:List Value} {cs:List (Option (List Value))} {r:Xco} (h:dNl n K vs cs=some r):∃ vs' cs',vs=.pointer none::vs'∧cs=List.replicate n none++cs'∧K vs' cs'=some r:=by
 unfold dNl at h
 split at h<;>try (cases h;done)
 obtain ⟨cs',rfl,h2⟩:=dNo.elim h
 exact ⟨_,cs',rfl,rfl,h2⟩
def Xc4 (r:Option Xco):Dec:=fun vs cs=>match vs,cs with
 | [],[]=>r
 | _,_=>none
theorem Xc4.elim {o:Option Xco} {vs:List Value} {cs:List (Option (List Value))} {r:Xco} (h:Xc4 o vs cs=some r):vs=[]∧cs=[]∧o=some r:=by
 unfold Xc4 at h
 split at h<;>try (cases h;done)
 exact ⟨rfl,rfl,h⟩
def orD (a b:Dec):Dec:=fun vs cs=>match a vs cs with
 | some r=>some r
 | none=>b vs cs
theorem orD.elim {a b:Dec} {vs:List Value} {cs:List (Option (List Value))} {r:Xco} (h:orD a b vs cs=some r):a vs cs=some r∨b vs cs=some r:=by
 unfold orD at h
 split at h
 ·cases h;left;assumption
 ·exact .inr h
def ofG {α:Type} (o:Option α) (f:α→Xco):Option Xco:=match o with
 | some x=>some (f x)
 | none=>none
theorem XaZ {α:Type} {o:Option α} {f:α→Xco} {x:α} (h:o=some x):ofG o f=some (f x):=by subst h;rfl
theorem ofG.elim {α:Type} {o:Option α} {f:α→Xco} {r:Xco} (h:ofG o f=some r):∃ x,o=some x∧f x=r:=by
 cases o with
 | none=>cases h
 | some x=>exact ⟨x,rfl,by cases h;rfl⟩
def asS:Value→Option (List UInt8)|.string s=>some s.data.toList|_=>none
theorem Xb7 (v:Value) (x:List UInt8) (h:asS v=some x):v=.string ⟨⟨x⟩⟩:=by cases v<;>simp [asS] at h;subst h;rfl
theorem XqR (k:IntKind) (xs:List Int):unL (asI k) (vI k xs)=some xs:=XtA (fun x=>by simp [asI]) xs
theorem Xrs {k:IntKind} {cs:List Value} {xs:List Int} (h:unL (asI k) cs=some xs):cs=vI k xs:=XB0 (XbO k) h
end Go.Vm
namespace Go.Vm
open Go Go.RowKit
end Go.Vm
namespace Go.Vm
open Go Go.RowKit
theorem st_I {k:IntKind} {xs:List Int} {o i:Nat} {x:Int} {K:List Value→Prop} (hb:decide (i<xs.length)=true) (e:o=i) (h:K (vI k (xs.set i x))) :
 req (decide ((XaO (.int k x)).length=1∧o+1≤(vI k xs).length)&&(XaO (.int k x)).all Xge) (∃ cs',setAt (vI k xs) o (XaO (.int k x))=cs'∧K cs'):=req.intro (XJW hb e) (XZs e h)
end Go.Vm
namespace Go.Vm
theorem br.h2 {α:Type} {b b':Bool} {X Y:Option α} {r:α} {p q:Prop} (h:cond b' X Y=some r) (e:b=b') (k2:b'=false→Y=some r→q) (k1:b'=true→X=some r→p):br b p q:=br.h h e k1 k2
end Go.Vm
namespace Go.Vm
open Go Go.RowKit
theorem VR.ofNil {ρ:Ren} {s:Nat} {rv:Value} (h:VR ρ (.slice none 0 s) rv) (j sz:Nat):VR ρ (.slice (some ⟨j,0,none⟩) 0 sz) rv:=by
 cases h;exact .slice0 none
theorem XaD.nilT {P:Program} {f base fn nt s:Nat} {e:Env} {todo:List Xeh} {ds:List Nat} {ret:Bool} {rd:Option Nat} {up:List Xbi} {H:Hp} {top:Nat} {R:Value→Hp→Nat→Prop} (t sz:Nat)
 (h:XaD P f base ⟨⟨fn,nt,Xeq e t (.slice (some ⟨top,0,none⟩) 0 sz),todo,ds,ret,rd⟩,up,Xeq H top (.row true []),top+1⟩ R) (he:Xar e t=some (.slice none 0 s):=by rfl) :
 XaD P f base ⟨⟨fn,nt,e,todo,ds,ret,rd⟩,up,H,top⟩ R:=by
 refine ⟨fun w0 U ρ rf rfs w cs hr=>?_⟩
 have hx:=Ext.upd (l:=⟨0,0,0⟩) hr.heap.XlP
 have hcur:FrR P (upd ρ top ⟨0,0,0⟩) ⟨fn,nt,Xeq e t (.slice (some ⟨top,0,none⟩) 0 sz),todo,ds,ret,rd⟩ rf:=
  { hr.cur.mono hx with
    env:=fun i v hv=>by
     rw [XaT] at hv
     split at hv
     ·rename_i hi;subst hi;cases hv
      obtain ⟨v',a,b⟩:=hr.cur.env t _ he
      exact ⟨v',a,(VR.ofNil b _ _).mono hx⟩
     ·exact (hr.cur.env.mono hx) i v hv }
 obtain ⟨ρ',rv,fr',w',v,H',top',h1,h2,h3,h4,h5,h6,h7⟩:=h.get w0 U _ rf rfs w cs ⟨hcur,hr.up.mono (fun _ _ x=>x.mono hx),XhX hr.heap⟩
 exact ⟨ρ',rv,fr',w',v,H',top',h1,h2,h3,h4,h5,fun i l hi hl=>h6 i l hi (hx _ _ hl),h7⟩
theorem XaD.nilC {P:Program} {f base s:Nat} {fr:Xbi} {up:List Xbi} {H:Hp} {top:Nat} {R:Value→Hp→Nat→Prop} (b i sz:Nat) {cs:List Value}
 (h:XaD P f base ⟨fr,up,Xeq (Xeq H b (.cells (cs.set i (.slice (some ⟨top,0,none⟩) 0 sz)))) top (.row true []),top+1⟩ R) (hb:Xar H b=some (.cells cs):=by rfl) (hi:cs[i]?=some (.slice none 0 s):=by rfl) :
 XaD P f base ⟨fr,up,H,top⟩ R:=by
 refine ⟨fun w0 U ρ rf rfs w cs' hr=>?_⟩
 have hx:=Ext.upd (l:=⟨0,0,0⟩) hr.heap.XlP
 have hp:HpR P w0 (.of U) ρ (Xeq H b (.cells (cs.set i (.slice (some ⟨top,0,none⟩) 0 sz)))) top w:=
  { hr.heap with
    obj:=fun j o ho=>by
     rw [XaT] at ho
     split at ho
     ·rename_i hj;subst hj;cases ho
      obtain ⟨l,hl,hc,hw⟩:=hr.heap.obj b _ hb
      refine ⟨l,hl,?_,fun _=>hw rfl⟩
      obtain ⟨g1,g2,g3⟩:=(hc:Xa4 ρ w l true cs)
      refine ⟨by simpa using g1,fun k v hv=>?_,g3⟩
      rw [List.getElem?_set] at hv
      split at hv
      ·rename_i hk;subst hk
       split at hv
       ·cases hv
        obtain ⟨v',a,b'⟩:=g2 i _ hi
        exact ⟨v',a,VR.ofNil b' _ _⟩
       ·cases hv
      ·exact g2 k v hv
     ·exact hr.heap.obj j o ho
    dis:=fun j k oj ok lj lk hjk hj hk hlj hlk hw=>by
     have key:∀ j o,Xar (Xeq H b (.cells (cs.set i (.slice (some ⟨top,0,none⟩) 0 sz)))) j=some o→∃ o',Xar H j=some o'∧(writable o=true→writable o'=true):=fun j o ho=>by
      rw [XaT] at ho
      split at ho
      ·rename_i hj;subst hj;exact ⟨_,hb,fun _=>rfl⟩
      ·exact ⟨o,ho,id⟩
     obtain ⟨oj',a1,a2⟩:=key j oj hj
     obtain ⟨ok',b1,_⟩:=key k ok hk
     exact hr.heap.dis j k oj' ok' lj lk hjk a1 b1 hlj hlk (a2 hw) }
 obtain ⟨ρ',rv,fr',w',v,H',top',h1,h2,h3,h4,h5,h6,h7⟩:=h.get w0 U _ rf rfs w cs' ⟨hr.cur.mono hx,hr.up.mono (fun _ _ x=>x.mono hx),XhX hp⟩
 exact ⟨ρ',rv,fr',w',v,H',top',h1,h2,h3,h4,h5,fun i l hi hl=>h6 i l hi (hx _ _ hl),h7⟩
mutual
inductive Nv (j:Nat):Value→Value→Prop
 | same (v):Nv j v v
 | nil (s sz):Nv j (.slice none 0 s) (.slice (some ⟨j,0,none⟩) 0 sz)
 | tup {a b:List Value} (h:NvL j a b):Nv j (.tuple ⟨a⟩) (.tuple ⟨b⟩)
 | agg {a b:List Value} (h:NvL j a b):Nv j (.agg ⟨a⟩) (.agg ⟨b⟩)
inductive NvL (j:Nat):List Value→List Value→Prop
 | nil:NvL j [] []
 | cons {v v':Value} {l l':List Value} (h:Nv j v v') (t:NvL j l l'):NvL j (v::l) (v'::l')
end
mutual
theorem Nv.vr {j:Nat} {ρ:Ren}:∀ {v v':Value},Nv j v v'→∀ {rv:Value},VR ρ v rv→VR ρ v' rv
 | _,_,.same v,_,h=>h
 | _,_,.nil s sz,_,h=>VR.ofNil h _ _
 | _,_,.tup hl,_,h=>by cases h with|tuple ht=>exact .tuple (NvL.vr hl ht)
 | _,_,.agg hl,_,h=>by cases h with|agg ht=>exact .agg (NvL.vr hl ht)
theorem NvL.vr {j:Nat} {ρ:Ren}:∀ {l l':List Value},NvL j l l'→∀ {rl:List Value},VRL ρ l rl→VRL ρ l' rl
 | _,_,.nil,_,h=>h
 | _,_,.cons hv ht,_,h=>by cases h with|cons a b=>exact .cons (Nv.vr hv a) (NvL.vr ht b)
end
end Go.Vm
namespace Go.Vm
theorem XvN {A B C D:Prop} [Decidable (A∧B∧C∧D)] {p q:Bool} (a:A) (b:B) (c:C) (d:D) (e:p=true) (g:q=true):(decide (A∧B∧C∧D)&&p&&q)=true:=by
 rw [decide_eq_true ⟨a,b,c,d⟩,e,g];rfl
end Go.Vm
namespace Go.Vm
open Go Go.RowKit
def XpK (o:Xbk) (K:Xbk→Prop):Prop:=
 match o with
 | .cells cs=>XjW cs fun cs=>K (.cells cs)
 | .row own cs=>XjW cs fun cs=>K (.row own cs)
 | .ty t cs=>K (.ty t cs)
 | .siter s p=>K (.siter s p)
 | .loop l=>K (.loop l)
 | .marks=>K .marks
theorem Xsy (o:Xbk) (K:Xbk→Prop):XpK o K=K o:=by
 cases o<;>simp only [XpK,Xh8]
def Xlr (bs:List Nat) (h:Hp) (K:Hp→Prop):Prop:=
 match h with
 | []=>K []
 | (i,o)::l=>cond (XzK i bs) (XpK o fun o=>Xlr bs l fun l=>K ((i,o)::l)) (XtE o fun o=>Xlr bs l fun l=>K ((i,o)::l))
theorem Xlf (bs:List Nat):∀ (h:Hp) (K:Hp→Prop),Xlr bs h K=K h
 | [],K=>rfl
 | (i,o)::l,K=>by
   rw [Xlr]
   cases XzK i bs
   ·rw [cond_false,Xpk,Xlf bs l]
   ·rw [cond_true,Xsy,Xlf bs l]
theorem XaG.Xba {s:Xbp} {vals:List Value} {h:Hp} {top:Nat} {K:Value→Hp→Nat→Prop} {v:Value} {h':Hp} {top':Nat} (bs:List Nat) (e:XgF s vals h top=some (v,h',top')) (k:XgG v fun v=>Xlr bs h' fun h'=>K v h' top'):XaG s vals h top K:=
 XaG.intro e (by simpa only [Xe0,Xlf] using k)
end Go.Vm
namespace Go.Vm
open Go Go.RowKit
inductive XsI:Value→Hp→Nat→Value→Hp→Nat→Prop
 | refl (v:Value) (H:Hp) (t:Nat):XsI v H t v H t
 | val {v v' v2:Value} {H H2:Hp} {t t2:Nat} (h:Nv t v v') (k:XsI v' (Xeq H t (.row true [])) (t+1) v2 H2 t2):XsI v H t v2 H2 t2
 | cell {v v2:Value} {H H2:Hp} {t t2 s:Nat} (b i sz:Nat) {cs:List Value} (hb:Xar H b=some (.cells cs)) (hi:cs[i]?=some (.slice none 0 s)) (k:XsI v (Xeq (Xeq H b (.cells (cs.set i (.slice (some ⟨t,0,none⟩) 0 sz)))) t (.row true [])) (t+1) v2 H2 t2):XsI v H t v2 H2 t2
theorem XJN {P:Program} {w0:World} {U:UG} {ρ:Ren} {H:Hp} {top s:Nat} {w:World} (h:HpR P w0 U ρ H top w) {b i:Nat} (sz:Nat) {cs:List Value} (hb:Xar H b=some (.cells cs)) (hi:cs[i]?=some (.slice none 0 s)):HpR P w0 U ρ (Xeq H b (.cells (cs.set i (.slice (some ⟨top,0,none⟩) 0 sz)))) top w:=
 { h with
   obj:=fun j o ho=>by
    rw [XaT] at ho
    split at ho
    ·rename_i hj;subst hj;cases ho
     obtain ⟨l,hl,hc,hw⟩:=h.obj b _ hb
     refine ⟨l,hl,?_,fun _=>hw rfl⟩
     obtain ⟨g1,g2,g3⟩:=(hc:Xa4 ρ w l true cs)
     refine ⟨by simpa using g1,fun k v hv=>?_,g3⟩
     rw [List.getElem?_set] at hv
     split at hv
     ·rename_i hk;subst hk
      split at hv
      ·cases hv
       obtain ⟨v',a,b'⟩:=g2 i _ hi
       exact ⟨v',a,VR.ofNil b' _ _⟩
      ·cases hv
     ·exact g2 k v hv
    ·exact h.obj j o ho
   dis:=fun j k oj ok lj lk hjk hj hk hlj hlk hw=>by
    have key:∀ j o,Xar (Xeq H b (.cells (cs.set i (.slice (some ⟨top,0,none⟩) 0 sz)))) j=some o→∃ o',Xar H j=some o'∧(writable o=true→writable o'=true):=fun j o ho=>by
     rw [XaT] at ho
     split at ho
     ·rename_i hj;subst hj;exact ⟨_,hb,fun _=>rfl⟩
     ·exact ⟨o,ho,id⟩
    obtain ⟨oj',a1,a2⟩:=key j oj hj
    obtain ⟨ok',b1,_⟩:=key k ok hk
    exact h.dis j k oj' ok' lj lk hjk a1 b1 hlj hlk (a2 hw) }
theorem XsI.ok {P:Program} {w0:World} {U:Nat→Nat→Prop} {v v2 rv:Value} {H H2:Hp} {t t2:Nat} (k:XsI v H t v2 H2 t2):∀ {ρ:Ren} {w:World},VR ρ v rv→HpR P w0 (.of U) ρ H t w→∃ ρ',Ext ρ ρ'∧VR ρ' v2 rv∧HpR P w0 (.of U) ρ' H2 t2 w:=by
 induction k with
 | refl=>intro ρ w h1 h2;exact ⟨ρ,Ext.refl ρ,h1,h2⟩
 | val h k ih=>
   intro ρ w h1 h2
   have hx:=Ext.upd (l:=⟨0,0,0⟩) h2.XlP
   obtain ⟨ρ',e1,e2,e3⟩:=ih ((h.vr h1).mono hx) (XhX h2)
   exact ⟨ρ',hx.trans e1,e2,e3⟩
 | cell b i sz hb hi k ih=>
   intro ρ w h1 h2
   have hx:=Ext.upd (l:=⟨0,0,0⟩) h2.XlP
   obtain ⟨ρ',e1,e2,e3⟩:=ih (h1.mono hx) (XhX (XJN h2 sz hb hi))
   exact ⟨ρ',hx.trans e1,e2,e3⟩
theorem XaD.nilW {P:Program} {f base:Nat} {vm:VM} {R:Value→Hp→Prop} (h:XaD P f base vm (fun v H t=>∃ v' H' t',XsI v H t v' H' t'∧R v' H')):XaD P f base vm (fun v H _=>R v H):=by
 refine ⟨fun w0 U ρ rf rfs w cs hr=>?_⟩
 obtain ⟨ρ',rv,fr',w',v,H',top',h1,h2,h3,h4,h5,h6,v2,H2,t2,hk,h7⟩:=h.get w0 U ρ rf rfs w cs hr
 obtain ⟨ρ2,e1,e2,e3⟩:=hk.ok h4 h5
 exact ⟨ρ2,rv,fr',w',v2,H2,t2,h1,h2,h3,e2,e3,fun i l hi hl=>e1 _ _ (h6 i l hi hl),h7⟩
end Go.Vm
namespace Go.Vm
end Go.Vm
namespace Go.Vm
open Go Go.RowKit
@[simp] theorem XHr (l:List UInt8):(ofBytes l).length=l.length:=by simp [ofBytes]
theorem ix_T {α:Type} {f:α→List Value} {c:Nat} {xs:List α} {i:Int} {n sz:Nat} {x:α} {K:List Value→Prop} (hf:∀ x,(f x).length=c) (hb:decide (0≤i∧i<(n:Int))=true) (hx:xs[i.toNat]?=some x) (hn:n=xs.length) (hs:sz=c) (h:XjW (f x) K) :
 req (decide (0≤i∧i<(n:Int)∧i.toNat*sz+sz≤(vT f xs).length)) (rdN (vT f xs) (i.toNat*sz) sz K):=by
 subst hn hs
 have h0:=of_decide_eq_true hb
 have:=(ld_T hf hx rfl rfl h).elim
 exact req.intro (decide_eq_true ⟨h0.1,h0.2,of_decide_eq_true this.1⟩) this.2
theorem pk_us {xs:List Int} {n:Nat} {K:List UInt8→Prop} (h:K (iB xs)) (hn:xs.length≤n:=by first|exact Nat.le_refl _|omega|(simp;done)|(simp;omega)):∃ bs,XeU ((vI .u8 xs).take n)=some bs∧K bs:=
 ⟨_,by rw [List.take_of_length_le (by simpa using hn)];exact Xlx _,h⟩
theorem XRn {A B C D:Prop} [Decidable (A∧B∧C∧D)] (a:A) (b:B) (c:C) (d:D):decide (A∧B∧C∧D)=true:=decide_eq_true ⟨a,b,c,d⟩
theorem XyS {A B C D:Prop} [Decidable (A∧B∧C∧D)] (a:A) (b:B) (c:C) (d:D):decide (A∧B∧C∧D)=true:=decide_eq_true ⟨a,b,c,d⟩
theorem XEV {A B C D E:Prop} [Decidable (A∧B∧C∧D∧E)] {p q:Bool} (a:A) (b:B) (c:C) (d:D) (e:E) (f:p=true) (g:q=true):(decide (A∧B∧C∧D∧E)&&p&&q)=true:=by
 rw [decide_eq_true ⟨a,b,c,d,e⟩,f,g];rfl
theorem XXo {new:List Value} {xs:List Int} {n m:Nat} {ys:List Int} {K:List Value→Nat→Prop} (e:new=vI .u8 ys) (hc:n=xs.length) (hn:n+m=(xs++ys).length) (h:K (vI .u8 (xs++ys)) (xs++ys).length) :
 ∃ cs' n',(vI .u8 xs).take n++new=cs'∧n+m=n'∧K cs' n':=
 ⟨_,_,by rw [List.take_of_length_le (by simp [hc]),e,XzA],hn,h⟩
theorem Xmz {b:Bool}:asB (.bool b)=some b:=rfl
theorem XcI (k:IntKind) {n:Int}:asI k (.int k n)=some n:=by simp [asI]
theorem XdJ {s:List UInt8}:asS (.string ⟨⟨s⟩⟩)=some s:=rfl
def XEx (i:Nat) (a b:Dec):Dec:=fun vs cs=>match vs[i]? with
 | some (.pointer none)=>b vs cs
 | _=>a vs cs
theorem XEx.elim {i:Nat} {a b:Dec} {vs:List Value} {cs:List (Option (List Value))} {r:Xco} (h:XEx i a b vs cs=some r):a vs cs=some r∨b vs cs=some r:=by
 unfold XEx at h
 split at h
 ·exact .inr h
 ·exact .inl h
theorem XeZ {H:Hp} {s:Nat→Option Nat}:Xqn H s [] []:=trivial
theorem Xr2 {H:Hp} {s:Nat→Option Nat} {j:Nat} {js:List Nat} {c c':List Value} {cs:List (List Value)} (e:XdN.renL s c=some c') (h:Has H j c') (t:Xqn H s js cs):Xqn H s (j::js) (c::cs):=⟨⟨_,e,h⟩,t⟩
theorem XeW {n:Nat} {wr:List (Option (List Value))}:XLq n wr []:=trivial
theorem XsB {n j:Nat} {wr:List (Option (List Value))} {js:List Nat} (h:n≤j) (t:XLq n wr js):XLq n wr (j::js):=⟨.inl h,t⟩
theorem XeY {H:Hp} {s:Nat→Option Nat} {k:Nat}:Xv5 H s k []:=trivial
theorem XkX {H:Hp} {s:Nat→Option Nat} {k:Nat} {l:List (Option (List Value))} (t:Xv5 H s (k+1) l):Xv5 H s k (none::l):=t
theorem XlX {H:Hp} {s:Nat→Option Nat} {k:Nat} {c c':List Value} {l:List (Option (List Value))} (e:XdN.renL s c=some c') (h:Has H k c') (t:Xv5 H s (k+1) l):Xv5 H s k (some c::l):=⟨⟨_,e,h⟩,t⟩
theorem Res.flat {n:Nat} {r:Xco} {v':Value} {H':Hp} {b:Bool} (e:r.v=.bool b) (_:r.new=[]) (h:Res n r v' H'):v'=.bool b:=by
 obtain ⟨js,h1,h2,-⟩:=h.ex
 rw [e] at h1
 cases h1;rfl
theorem XaG.q {s:Xbp} {vals:List Value} {h:Hp} {top:Nat} {K:Value→Hp→Nat→Prop} {r:Xco} {v':Value} (e1:XcK h 0 s.modes vals=some (vals,[])) (ew:XiS h s.modes vals=[]) (e2:s.run vals []=some r) (hn:r.new=[]) (hw:r.wr=[]) (e6:XdN (Xtt top 0 []) r.v=some v')
 (k:XgG v' fun v=>Xlr [] h fun h'=>K v h' top):XaG s vals h top K:=by
 refine XaG.Xba [] (Xat (n:=0) (m:=0) (t':=top) e1 ew rfl e2 rfl (by rw [hn];rfl) rfl rfl (by rw [hw];exact Xbc) (by rw [hn];exact Xbb) e6) k
theorem Xdf {α:Type} {o:Option α} {f:α→Xco} {vs:List Value} {cs:List (Option (List Value))} {r:Xco} (h:Xc4 (ofG o f) vs cs=some r):vs=[]∧cs=[]∧∃ x,o=some x∧f x=r:=by
 obtain ⟨a,b,c⟩:=Xc4.elim h
 exact ⟨a,b,ofG.elim c⟩
theorem Res.z {n:Nat} {r:Xco} {v':Value} {H':Hp} (e1:XdN (XsH [] n) r.v=some v') (e2:r.new=[]) (e3:r.wr=[]):Res n r v' H':=
 Res.of [] e1 (by rw [e2];exact XeZ) (by decide) XeW (by rw [e3];exact XeY)
end Go.Vm
namespace Go.Vm
open Go Go.RowKit
section
variable {α:Type} {f:α→List Value} {c:Nat}
end
end Go.Vm
namespace Go.Vm
end Go.Vm
namespace Go.Vm
open Go
theorem XcC {n:Int} (h1:-9223372036854775808≤n) (h2:n<9223372036854775808):wI .i64 n=n:=by
 show IntKind.wrap .i64 n=n;rw [IntKind.wrap_i64];omega
theorem Xhv {n:Int} (h1:0≤n) (h2:n<18446744073709551616):wI .u64 n=n:=by
 show IntKind.wrap .u64 n=n
 simp only [IntKind.wrap,IntKind.bits,IntKind.signed];simp;omega
theorem XwG {n:Int} (h1:0≤n) (h2:n<4294967296):wI .u32 n=n:=by
 show IntKind.wrap .u32 n=n
 simp only [IntKind.wrap,IntKind.bits,IntKind.signed];simp;omega
theorem wU8 {n:Int} (h1:0≤n) (h2:n<256):wI .u8 n=n:=by
 show IntKind.wrap .u8 n=n
 simp only [IntKind.wrap,IntKind.bits,IntKind.signed];simp;omega
theorem wU64m (n:Int):wI .u64 n=n%18446744073709551616:=by
 show IntKind.wrap .u64 n=_
 simp only [IntKind.wrap,IntKind.bits,IntKind.signed];simp
theorem wU32m (n:Int):wI .u32 n=n%4294967296:=by
 show IntKind.wrap .u32 n=_
 simp only [IntKind.wrap,IntKind.bits,IntKind.signed];simp
theorem wU8m (n:Int):wI .u8 n=n%256:=by
 show IntKind.wrap .u8 n=_
 simp only [IntKind.wrap,IntKind.bits,IntKind.signed];simp
theorem XHI {n:Nat} (h:n<18446744073709551616):(BitVec.ofInt 64 (n:Int)).toNat=n:=by
 rw [BitVec.toNat_ofInt];omega
theorem X3K {a b:Nat} (ha:a<9223372036854775808) (hb:b<9223372036854775808):XjC .i64 (a:Int) (b:Int)=((a &&& b:Nat):Int):=by
 have h:a &&& b≤a:=Nat.and_le_left
 show IntKind.wrap .i64 _=_
 rw [show IntKind.bits .i64=64 from rfl,BitVec.toNat_and,XHI (by omega),XHI (by omega)]
 exact XcC (by omega) (by omega)
theorem X4O {a b:Nat} (ha:a<9223372036854775808) (hb:b<9223372036854775808):Xkl .i64 (a:Int) (b:Int)=((a ||| b:Nat):Int):=by
 have h:a ||| b<2^63:=Nat.or_lt_two_pow (by omega) (by omega)
 show IntKind.wrap .i64 _=_
 rw [show IntKind.bits .i64=64 from rfl,BitVec.toNat_or,XHI (by omega),XHI (by omega)]
 exact XcC (by omega) (by omega)
theorem X32 {a b:Nat} (ha:a<18446744073709551616) (hb:b<18446744073709551616):Xkl .u64 (a:Int) (b:Int)=((a ||| b:Nat):Int):=by
 have h:a ||| b<2^64:=Nat.or_lt_two_pow (by omega) (by omega)
 show IntKind.wrap .u64 _=_
 rw [show IntKind.bits .u64=64 from rfl,BitVec.toNat_or,XHI (by omega),XHI (by omega)]
 exact Xhv (by omega) (by omega)
theorem Xxj (a k:Nat):a &&& (2^k - 1)=a%2^k:=Nat.and_two_pow_sub_one_eq_mod a k
theorem XzX {a b k:Nat} (hb:b<2^k):(a*2^k) ||| b=a*2^k+b:=by
 rw [Nat.mul_comm];exact (Nat.two_pow_add_eq_or_of_lt hb a).symm
theorem Xho (k:Nat) {a m:Int} (hm:m=2^k - 1) (hk:k≤62) (h0:0≤a) (h1:a<9223372036854775808):XjC .i64 a m=a%2^k:=by
 obtain ⟨n,rfl⟩:=Int.eq_ofNat_of_zero_le h0
 have hp:2^k≤2^62:=Nat.pow_le_pow_right (by decide) hk
 have hp1:1≤2^k:=Nat.one_le_two_pow
 have:m=((2^k - 1:Nat):Int):=by rw [hm];push_cast [hp1];rfl
 rw [this,X3K (by omega) (by omega),Xxj];push_cast;rfl
theorem Xm7 (k:Nat) {a b:Int} (h0:0≤a) (h1:a*2^k<9223372036854775808) (hb0:0≤b) (hb:b<2^k) (hb1:b<9223372036854775808):Xkl .i64 (a*2^k) b=a*2^k+b:=by
 obtain ⟨n,rfl⟩:=Int.eq_ofNat_of_zero_le h0
 obtain ⟨m,rfl⟩:=Int.eq_ofNat_of_zero_le hb0
 have e:((n:Int)*2^k)=((n*2^k:Nat):Int):=by push_cast;rfl
 rw [e] at h1 ⊢
 rw [X4O (by omega) (by omega),XzX (by exact_mod_cast hb)];push_cast;rfl
theorem Xhe (k:Nat) {a b:Int} (h0:0≤a) (h1:a*2^k<18446744073709551616) (hb0:0≤b) (hb:b<2^k) (hb1:b<18446744073709551616):Xkl .u64 (a*2^k) b=a*2^k+b:=by
 obtain ⟨n,rfl⟩:=Int.eq_ofNat_of_zero_le h0
 obtain ⟨m,rfl⟩:=Int.eq_ofNat_of_zero_le hb0
 have e:((n:Int)*2^k)=((n*2^k:Nat):Int):=by push_cast;rfl
 rw [e] at h1 ⊢
 rw [X32 (by omega) (by omega),XzX (by exact_mod_cast hb)];push_cast;rfl
theorem XoJ (a:Int) (k:Nat):a.fdiv (2^k)=a/2^k:=Int.fdiv_eq_ediv_of_nonneg a (Int.le_of_lt (Int.pow_pos (by decide)))
theorem Xaz {α:Type} {p:Prop} [Decidable p] {x:Option α} (h:p):XaK (decide p) x=x:=XaK.mk (decide_eq_true h)
theorem XaV {α:Type} {p:Prop} [Decidable p] {x y:α} (h:p):cond (decide p) x y=x:=by rw [decide_eq_true h,cond_true]
theorem XaM {α:Type} {p:Prop} [Decidable p] {x y:α} (h:¬ p):cond (decide p) x y=y:=by rw [decide_eq_false h,cond_false]
theorem Xiy {α:Type} {p:Prop} [Decidable p] {x y:α}:cond (decide p) x y=if p then x else y:=by
 by_cases h:p<;>simp [h]
theorem iter_eq {σ ρ:Type} {step:σ→Option (Sum σ ρ)} (F:σ→ρ) (P:σ→Prop) (μ:σ→Nat)
 (h:∀ s,P s→step s=some (.inr (F s))∨∃ s',step s=some (.inl s')∧P s'∧μ s'<μ s∧F s'=F s):∀ n s,P s→μ s<n→iter step n s=some (F s)
 | 0,s,hp,hn=>by omega
 | n+1,s,hp,hn=>by
   rw [iter]
   rcases h s hp with e|⟨s',e,hp',hm,hf⟩
   ·rw [e]
   ·rw [e];exact hf▸iter_eq F P μ h n s' hp' (by omega)
theorem XeV:FUEL=18446744073709551616:=rfl
end Go.Vm
namespace Go.Vm.Code
open Go Go.Vm Go.Proofs
def τ0:Operand:=.tmp 0
def τ1:Operand:=.tmp 1
def τ2:Operand:=.tmp 2
def τ3:Operand:=.tmp 3
def τ4:Operand:=.tmp 4
def τ5:Operand:=.tmp 5
def τ6:Operand:=.tmp 6
def τ7:Operand:=.tmp 7
def τ8:Operand:=.tmp 8
def τ9:Operand:=.tmp 9
def Xcd:Operand:=.tmp 10
def Xb8:Operand:=.tmp 11
def XcZ:Operand:=.tmp 12
def Xc2:Operand:=.tmp 13
def Xdo:Operand:=.tmp 14
def Xdl:Operand:=.tmp 15
def Xdp:Operand:=.tmp 16
def Xdm:Operand:=.tmp 17
def XdW:Operand:=.tmp 18
def XdM:Operand:=.tmp 19
def Xea:Operand:=.tmp 20
def Xei:Operand:=.tmp 21
def XeN:Operand:=.tmp 22
def XeR:Operand:=.tmp 23
def Xex:Operand:=.tmp 24
def XeX:Operand:=.tmp 25
def Xep:Operand:=.tmp 26
def XeT:Operand:=.tmp 27
def XeO:Operand:=.tmp 28
def Xe1:Operand:=.tmp 29
def Xfy:Operand:=.tmp 30
def Xfw:Operand:=.tmp 31
def XfC:Operand:=.tmp 32
def XfA:Operand:=.tmp 33
def XfK:Operand:=.tmp 34
def XfU:Operand:=.tmp 35
def XfV:Operand:=.tmp 36
def XfB:Operand:=.tmp 37
def XgM:Operand:=.tmp 38
def XgK:Operand:=.tmp 39
def Xhu:Operand:=.tmp 40
def Xhs:Operand:=.tmp 41
def Xht:Operand:=.tmp 42
def XhC:Operand:=.tmp 43
def Xim:Operand:=.tmp 44
def XhP:Operand:=.tmp 45
def Xin:Operand:=.tmp 46
def XhS:Operand:=.tmp 47
def XiP:Operand:=.tmp 48
def XiO:Operand:=.tmp 49
def XiR:Operand:=.tmp 50
def XiQ:Operand:=.tmp 51
def XjN:Operand:=.tmp 52
def XjO:Operand:=.tmp 53
def XkV:Operand:=.tmp 54
def Xk3:Operand:=.tmp 55
def Xlp:Operand:=.tmp 56
def XkK:Operand:=.tmp 57
def XkW:Operand:=.tmp 58
def Xk8:Operand:=.tmp 59
def Xl4:Operand:=.tmp 60
def Xl7:Operand:=.tmp 61
def XmX:Operand:=.tmp 62
def Xow:Operand:=.tmp 63
def Xn3:Operand:=.tmp 64
def XoH:Operand:=.tmp 65
def Xo1:Operand:=.tmp 66
def XoE:Operand:=.tmp 67
def XpF:Operand:=.tmp 68
def Xpj:Operand:=.tmp 69
def Xq8:Operand:=.tmp 70
def Xq3:Operand:=.tmp 71
def Xq1:Operand:=.tmp 72
def Xr9:Operand:=.tmp 73
def XtP:Operand:=.tmp 74
def XtI:Operand:=.tmp 75
def XvY:Operand:=.tmp 76
def XuG:Operand:=.tmp 77
def Xv3:Operand:=.tmp 78
def XwR:Operand:=.tmp 79
def Xv0:Operand:=.tmp 80
def XxB:Operand:=.tmp 81
def XAG:Operand:=.tmp 82
def Xv1:Operand:=.tmp 83
def Xzp:Operand:=.tmp 84
def XDX:Operand:=.tmp 85
def XG7:Operand:=.tmp 86
def XDb:Operand:=.tmp 87
def XI6:Operand:=.tmp 88
def XBr:Operand:=.tmp 89
def XIe:Operand:=.tmp 90
def XCg:Operand:=.tmp 91
def XEL:Operand:=.tmp 92
def XGb:Operand:=.tmp 93
def XDB:Operand:=.tmp 94
def XGg:Operand:=.tmp 95
def XCM:Operand:=.tmp 96
def XLk:Operand:=.tmp 97
def τ98:Operand:=.tmp 98
def τ99:Operand:=.tmp 99
def XKX:Operand:=.tmp 100
def XEy:Operand:=.tmp 101
def XLK:Operand:=.tmp 102
def XLN:Operand:=.tmp 103
def X27:Operand:=.tmp 104
def XQB:Operand:=.tmp 105
def XXi:Operand:=.tmp 106
def XOc:Operand:=.tmp 107
def XMA:Operand:=.tmp 108
def XNH:Operand:=.tmp 109
def XNS:Operand:=.tmp 110
def Xx8:Operand:=.tmp 111
def X57:Operand:=.tmp 112
def XL2:Operand:=.tmp 113
def XQZ:Operand:=.tmp 114
def XL5:Operand:=.tmp 115
def XOv:Operand:=.tmp 116
def X0x:Operand:=.tmp 117
def XXI:Operand:=.tmp 118
def X0i:Operand:=.tmp 119
def XZ0:Operand:=.tmp 120
def XZn:Operand:=.tmp 121
def X1G:Operand:=.tmp 122
def X6Z:Operand:=.tmp 123
def XMb:Operand:=.tmp 124
def XLZ:Operand:=.tmp 125
def XZG:Operand:=.tmp 126
def XMq:Operand:=.tmp 127
def X4q:Operand:=.tmp 128
def XSo:Operand:=.tmp 129
def X35:Operand:=.tmp 130
def XRN:Operand:=.tmp 131
def XSv:Operand:=.tmp 132
def XM3:Operand:=.tmp 133
def XWO:Operand:=.tmp 134
def X49:Operand:=.tmp 135
def X1t:Operand:=.tmp 136
def XVQ:Operand:=.tmp 137
def XWS:Operand:=.tmp 138
def XPt:Operand:=.tmp 139
def XUY:Operand:=.tmp 140
def XYT:Operand:=.tmp 141
def XDY:Operand:=.tmp 142
def XIP:Operand:=.tmp 143
def XTB:Operand:=.tmp 144
def X0K:Operand:=.tmp 145
def XXO:Operand:=.tmp 146
def XSq:Operand:=.tmp 147
def XYr:Operand:=.tmp 148
def XPX:Operand:=.tmp 149
def XUV:Operand:=.tmp 150
def X5Z:Operand:=.tmp 151
def XZE:Operand:=.tmp 152
def XMm:Operand:=.tmp 153
def X44:Operand:=.tmp 154
def XXx:Operand:=.tmp 155
def XEl:Operand:=.tmp 156
def XTg:Operand:=.tmp 157
def XQe:Operand:=.tmp 158
def XMf:Operand:=.tmp 159
def XQT:Operand:=.tmp 160
def XLi:Operand:=.tmp 161
def τ162:Operand:=.tmp 162
def τ163:Operand:=.tmp 163
def τ164:Operand:=.tmp 164
def τ165:Operand:=.tmp 165
def τ166:Operand:=.tmp 166
def τ167:Operand:=.tmp 167
def τ168:Operand:=.tmp 168
def τ169:Operand:=.tmp 169
def τ170:Operand:=.tmp 170
def τ171:Operand:=.tmp 171
def τ172:Operand:=.tmp 172
def τ173:Operand:=.tmp 173
def τ174:Operand:=.tmp 174
def τ175:Operand:=.tmp 175
def τ176:Operand:=.tmp 176
def τ177:Operand:=.tmp 177
def τ178:Operand:=.tmp 178
def τ179:Operand:=.tmp 179
def τ180:Operand:=.tmp 180
def τ181:Operand:=.tmp 181
def τ182:Operand:=.tmp 182
def τ183:Operand:=.tmp 183
def τ184:Operand:=.tmp 184
def τ185:Operand:=.tmp 185
def τ186:Operand:=.tmp 186
def τ187:Operand:=.tmp 187
def τ188:Operand:=.tmp 188
def τ189:Operand:=.tmp 189
def τ190:Operand:=.tmp 190
def τ191:Operand:=.tmp 191
def τ192:Operand:=.tmp 192
def τ193:Operand:=.tmp 193
def τ194:Operand:=.tmp 194
def τ195:Operand:=.tmp 195
def τ196:Operand:=.tmp 196
def XS7:Operand:=.tmp 197
def τ198:Operand:=.tmp 198
def τ199:Operand:=.tmp 199
def τ200:Operand:=.tmp 200
def τ201:Operand:=.tmp 201
def τ202:Operand:=.tmp 202
def τ203:Operand:=.tmp 203
def τ204:Operand:=.tmp 204
def τ205:Operand:=.tmp 205
def τ206:Operand:=.tmp 206
def τ207:Operand:=.tmp 207
def τ208:Operand:=.tmp 208
def τ209:Operand:=.tmp 209
def τ210:Operand:=.tmp 210
def τ211:Operand:=.tmp 211
def τ212:Operand:=.tmp 212
def τ213:Operand:=.tmp 213
def τ214:Operand:=.tmp 214
def τ215:Operand:=.tmp 215
def τ216:Operand:=.tmp 216
def τ217:Operand:=.tmp 217
def τ218:Operand:=.tmp 218
def τ219:Operand:=.tmp 219
def τ220:Operand:=.tmp 220
def τ221:Operand:=.tmp 221
def τ222:Operand:=.tmp 222
def τ223:Operand:=.tmp 223
def τ224:Operand:=.tmp 224
def τ225:Operand:=.tmp 225
def τ226:Operand:=.tmp 226
def τ227:Operand:=.tmp 227
def τ228:Operand:=.tmp 228
def oD (n:Nat) (o:VOp):Xb2:=⟨some n,o,none⟩
def oN (o:VOp):Xb2:=⟨none,o,none⟩
def oM (n:Nat) (x:Operand):Xb2:=⟨some n,.mv x,none⟩
def oG (n:Nat) (o:VOp) (j:Nat) (b:Bool):Xb2:=⟨some n,o,some (j,b)⟩
def oE (n i:Nat) (x:Operand):Xb2:=⟨some n,.extract i x,none⟩
def k3_0:VC:=.reg [oD 12 (.mv (.const (.bool false)))]
def k3_1:VC:=.reg [oM 18 τ0,oD 19 (.lenS XdW),oD 20 (.bin .gtr XdM (.const (.int .i64 1000))),oM 21 Xea,oG 22 (.mv τ5) 21 false,oG 23 (.lenL XeN) 21 false,oG 24 (.bin .gtr XeR (.const (.int .i64 20))) 21 false,oD 25 (.pick Xei (.const (.bool true)) Xex)]
def k3_2:VC:=.reg [oD 26 (.callF 5 []),oM 12 Xep]
def k3_3:VC:=.seq k3_2 .ret
def k3_4:VC:=.cond XeX k3_3 .skip
def k3_5:VC:=.seq k3_1 k3_4
def k3_6:VC:=.reg [oM 28 τ0,oM 29 τ1,oM 30 τ2,oD 31 (.callF 6 [XeO,Xe1,Xfy]),oM 27 Xfw,oE 32 0 XeT,oE 33 1 XeT,oM 13 XfC,oM 14 XfA]
def k3_7:VC:=.reg [oM 35 τ0,oM 36 τ1,oM 37 τ2,oD 38 (.callF 7 [XfU,XfV,XfB]),oM 34 XgM,oE 39 0 XfK,oE 40 1 XfK,oM 15 XgK,oM 16 Xhu]
def k3_8:VC:=.reg [oM 41 τ3,oM 17 Xhs]
def k3_9:VC:=.reg [oM 42 τ4,oD 43 (.bin .geq Xht (.const (.int .i64 576))),oM 44 XhC,oG 45 (.mv τ4) 44 true,oG 46 (.mv τ3) 44 true,oG 47 (.bin .lss XhP Xin) 44 true,oD 48 (.pick Xim XhS (.const (.bool false)))]
def k3_10:VC:=.reg [oM 49 τ4,oM 17 XiO]
def k3_11:VC:=.cond XiP k3_10 .skip
def k3_12:VC:=.seq k3_9 k3_11
def k3_13:VC:=.reg [oM 50 τ1,oM 51 τ2,oD 52 (.callF 8 [XiR,XiQ]),oM 53 τ1,oM 54 τ2,oD 55 (.callF 9 [XjO,XkV]),oD 56 (.bin .eql XjN Xk3),oM 57 Xlp,oG 58 (.mv τ0) 57 true,oG 59 (.mv τ1) 57 true,oG 60 (.mv τ2) 57 true,oG 61 (.callF 10 [XkW,Xk8,Xl4]) 57 true,oG 62 (.mv τ0) 57 true,oG 63 (.lenS XmX) 57 true,oG 64 (.mv τ1) 57 true,oG 65 (.mv τ2) 57 true,oG 66 (.callF 9 [Xn3,XoH]) 57 true,oG 67 (.bin .leq Xow Xo1) 57 true,oG 68 (.eqB false Xl7 XoE) 57 true,oD 69 (.pick XkK XpF (.const (.bool false))),oM 70 Xpj,oG 71 (.mv Xc2) 70 true,oG 72 (.mv Xdl) 70 true,oG 73 (.bin .eql Xq3 Xq1) 70 true,oD 74 (.pick Xq8 Xr9 (.const (.bool false))),oM 75 XtP,oG 76 (.mv Xdo) 75 true,oG 77 (.mv Xdp) 75 true,oG 78 (.bin .eql XvY XuG) 75 true,oD 79 (.pick XtI Xv3 (.const (.bool false))),oM 80 XwR,oG 81 (.mv τ3) 80 true,oG 82 (.mv τ4) 80 true,oG 83 (.callF 11 [XxB,XAG]) 80 true,oG 84 (.mv Xdm) 80 true,oG 85 (.bin .eql Xv1 Xzp) 80 true,oD 86 (.pick Xv0 XDX (.const (.bool false))),oM 87 XG7,oG 88 (.mv τ5) 87 true,oG 89 (.callF 12 [XI6]) 87 true,oG 90 (.mv τ5) 87 true,oG 91 (.callF 13 [XIe]) 87 true,oG 92 (.bin .eql XBr XCg) 87 true,oD 93 (.pick XDb XEL (.const (.bool false))),oM 94 XGb,oG 95 (.callF 5 []) 94 true,oD 96 (.pick XDB XGg (.const (.bool false))),oM 12 XCM]
def k3_14:VC:=.seq k3_13 .ret
def k3_15:VC:=.seq k3_12 k3_14
def k3_16:VC:=.seq k3_8 k3_15
def k3_17:VC:=.seq k3_7 k3_16
def k3_18:VC:=.seq k3_6 k3_17
def k3_19:VC:=.seq k3_5 k3_18
def X3O:VC:=.seq k3_0 k3_19
def fn3:VFn:=⟨97,X3O,[.tmp 12]⟩
def k5_0:VC:=.reg [oD 0 (.mv (.const (.bool false)))]
def k5_1:VC:=.reg [oD 1 (.callF 8 [(.const (.int .i64 1500)),(.const (.bool false))]),oD 2 (.bin .eql τ1 (.const (.int .i64 1454))),oM 3 τ2,oG 4 (.callF 8 [(.const (.int .i64 575)),(.const (.bool true))]) 3 true,oG 5 (.bin .eql τ4 (.const (.int .i64 0))) 3 true,oD 6 (.pick τ3 τ5 (.const (.bool false))),oM 7 τ6,oG 8 (.callF 11 [(.const (.int .i64 1500)),(.const (.int .i64 1400))]) 7 true,oG 9 (.bin .eql τ8 (.const (.int .i64 1400))) 7 true,oD 10 (.pick τ7 τ9 (.const (.bool false))),oM 11 Xcd,oG 12 (.callF 12 [(.const (.slice none 0 0))]) 11 true,oG 13 (.bin .eql XcZ (.const (.int .i64 9000))) 11 true,oD 14 (.pick Xb8 Xc2 (.const (.bool false))),oM 15 Xdo,oG 16 (.callF 10 [(.const (.string ⟨⟨[]⟩⟩)),(.const (.int .i64 600)),(.const (.bool true))]) 15 true,oD 17 (.pick Xdl Xdp (.const (.bool false))),oM 0 Xdm]
def k5_2:VC:=.seq k5_1 .ret
def k5_3:VC:=.seq k5_0 k5_2
def fn5:VFn:=⟨18,k5_3,[.tmp 0]⟩
def k8_0:VC:=.reg [oD 4 (.mv (.const (.int .i64 0)))]
def k8_1:VC:=.reg [oM 5 τ0,oD 6 (.callF 23 [τ5]),oD 7 (.not τ6)]
def k8_2:VC:=.reg [oD 4 (.mv (.const (.int .i64 0)))]
def k8_3:VC:=.seq k8_2 .ret
def k8_4:VC:=.cond τ7 k8_3 .skip
def k8_5:VC:=.seq k8_1 k8_4
def k8_6:VC:=.reg [oM 8 τ0,oM 9 τ1,oD 10 (.callF 24 [τ9]),oD 11 (.bin .sub τ8 Xcd),oD 12 (.bin .sub Xb8 (.const (.int .i64 18))),oM 4 XcZ]
def k8_7:VC:=.seq k8_6 .ret
def k8_8:VC:=.seq k8_5 k8_7
def k8_9:VC:=.seq k8_0 k8_8
def fn8:VFn:=⟨13,k8_9,[.tmp 4]⟩
def k23_0:VC:=.reg [oD 2 (.mv (.const (.bool false)))]
def k23_1:VC:=.reg [oM 3 τ0,oD 4 (.callF 28 [τ3,(.const (.int .i64 576)),(.const (.int .i64 9000))]),oM 2 τ4]
def k23_2:VC:=.seq k23_1 .ret
def XO6:VC:=.seq k23_0 k23_2
def fn23:VFn:=⟨5,XO6,[.tmp 2]⟩
def k28_0:VC:=.reg [oD 6 (.mv (.const (.bool false)))]
def k28_1:VC:=.reg [oM 7 τ1,oM 8 τ0,oD 9 (.bin .leq τ7 τ8),oM 10 τ9,oG 11 (.mv τ0) 10 true,oG 12 (.mv τ2) 10 true,oG 13 (.bin .leq Xb8 XcZ) 10 true,oD 14 (.pick Xcd Xc2 (.const (.bool false))),oM 6 Xdo]
def k28_2:VC:=.seq k28_1 .ret
def X48:VC:=.seq k28_0 k28_2
def fn28:VFn:=⟨15,X48,[.tmp 6]⟩
def k24_0:VC:=.reg [oD 2 (.mv (.const (.int .i64 0)))]
def k24_1:VC:=.reg [oM 3 τ0]
def k24_2:VC:=.reg [oD 2 (.mv (.const (.int .i64 48)))]
def k24_3:VC:=.seq k24_2 .ret
def k24_4:VC:=.cond τ3 k24_3 .skip
def k24_5:VC:=.seq k24_1 k24_4
def k24_6:VC:=.reg [oD 2 (.mv (.const (.int .i64 28)))]
def k24_7:VC:=.seq k24_6 .ret
def k24_8:VC:=.seq k24_5 k24_7
def XXP:VC:=.seq k24_0 k24_8
def fn24:VFn:=⟨4,XXP,[.tmp 2]⟩
def k11_0:VC:=.reg [oD 4 (.mv (.const (.int .i64 0)))]
def k11_1:VC:=.reg [oM 5 τ1,oM 6 τ0,oD 7 (.callF 28 [τ5,(.const (.int .i64 576)),τ6])]
def k11_2:VC:=.reg [oM 8 τ1,oM 4 τ8]
def k11_3:VC:=.seq k11_2 .ret
def k11_4:VC:=.cond τ7 k11_3 .skip
def k11_5:VC:=.seq k11_1 k11_4
def k11_6:VC:=.reg [oM 9 τ0,oM 4 τ9]
def k11_7:VC:=.seq k11_6 .ret
def k11_8:VC:=.seq k11_5 k11_7
def XPm:VC:=.seq k11_0 k11_8
def fn11:VFn:=⟨10,XPm,[.tmp 4]⟩
def k12_0:VC:=.reg [oD 2 (.mv (.const (.int .i64 0)))]
def k12_1:VC:=.reg [oD 3 (.mv (.const (.int .i64 9000)))]
def k12_2:VC:=.reg [oM 6 τ0,oD 7 (.lenL τ6),oD 8 (.mv (.const (.int .i64 0)))]
def k12_3:VC:=.reg [oD 9 (.bin .lss τ8 τ7)]
def k12_4:VC:=.cond τ9 .skip (.exit 0)
def k12_5:VC:=.reg [oD 10 (.idxAL 1 τ6 τ8),oD 11 (.load1 (.int .i64) Xcd),oM 5 Xb8]
def k12_6:VC:=.reg [oM 12 τ3,oM 13 τ5,oD 14 (.callF 11 [XcZ,Xc2]),oM 3 Xdo]
def k12_7:VC:=.seq k12_5 k12_6
def k12_8:VC:=.block 1 k12_7
def k12_9:VC:=.reg [oD 15 (.bin .add τ8 (.const (.int .i64 1))),oM 8 Xdl]
def X0Q:VC:=.seq k12_8 k12_9
def XP3:VC:=.seq k12_4 X0Q
def Xs5:VC:=.seq k12_3 XP3
def XXL:VC:=.loop Xs5
def X5Q:VC:=.block 0 XXL
def XWy:VC:=.seq k12_2 X5Q
def XXW:VC:=.reg [oM 16 τ3,oM 2 Xdp]
def XBT:VC:=.seq XXW .ret
def XZI:VC:=.seq XWy XBT
def XTy:VC:=.seq k12_1 XZI
def XB3:VC:=.seq k12_0 XTy
def fn12:VFn:=⟨17,XB3,[.tmp 2]⟩
def k10_0:VC:=.reg [oD 6 (.mv (.const (.bool false)))]
def k10_1:VC:=.reg [oM 7 τ0,oD 8 (.lenS τ7),oM 9 τ1,oM 10 τ2,oD 11 (.callF 8 [τ9,Xcd]),oD 12 (.bin .leq τ8 Xb8),oM 6 XcZ]
def k10_2:VC:=.seq k10_1 .ret
def X3q:VC:=.seq k10_0 k10_2
def fn10:VFn:=⟨13,X3q,[.tmp 6]⟩
def k6_0:VC:=.reg [oD 6 (.mv (.const (.string ⟨⟨[]⟩⟩))),oD 7 (.mv (.const (.int .i64 0)))]
def k6_1:VC:=.reg [oM 13 τ0,oD 14 (.callF 22 [Xc2]),oM 12 Xdo,oE 15 0 XcZ,oE 16 1 XcZ,oD 8 (.alloc [(.int .i64 0),(.bool false),(.int .u64 0),(.int .u64 0),(.bool false),(.int .u64 0),(.int .u64 0),(.int .i64 0),(.int .i64 0),(.int .i64 0),(.bool false),(.int .u32 0),(.int .u32 0),(.bool false),(.string ⟨⟨[]⟩⟩),(.int .i64 0)]),oN (.store 16 τ8 Xdl),oM 9 Xdp]
def k6_2:VC:=.reg [oM 18 τ9,oD 19 (.bin .neq XdW (.const (.int .i64 0))),oM 17 XdM]
def k6_3:VC:=.reg [oM 20 τ9,oD 6 (.mv (.const (.string ⟨⟨[]⟩⟩))),oM 7 Xea]
def k6_4:VC:=.seq k6_3 .ret
def k6_5:VC:=.reg [oM 22 τ0,oM 23 τ1,oM 24 τ2,oD 25 (.callF 10 [XeN,XeR,Xex]),oM 21 XeX]
def k6_6:VC:=.reg [oD 6 (.mv (.const (.string ⟨⟨[]⟩⟩))),oD 7 (.mv (.const (.int .i64 11)))]
def k6_7:VC:=.seq k6_6 .ret
def k6_8:VC:=.reg [oM 27 τ1,oD 28 (.callF 23 [XeT]),oD 29 (.not XeO),oM 26 Xe1]
def k6_9:VC:=.reg [oD 6 (.mv (.const (.string ⟨⟨[]⟩⟩))),oD 7 (.mv (.const (.int .i64 1)))]
def k6_10:VC:=.seq k6_9 .ret
def k6_11:VC:=.cond Xep k6_10 .skip
def k6_12:VC:=.seq k6_8 k6_11
def k6_13:VC:=.cond Xei k6_7 k6_12
def k6_14:VC:=.seq k6_5 k6_13
def k6_15:VC:=.cond Xdm k6_4 k6_14
def k6_16:VC:=.seq k6_2 k6_15
def k6_17:VC:=.block 0 k6_16
def k6_18:VC:=.reg [oD 30 (.fieldA 0 τ8),oD 31 (.loadN [(.int .i64),.bool,(.int .u64),(.int .u64),.bool,(.int .u64),(.int .u64),(.int .i64),(.int .i64)] Xfy),oD 10 (.alloc [(.int .i64 0),(.bool false),(.int .u64 0),(.int .u64 0),(.bool false),(.int .u64 0),(.int .u64 0),(.int .i64 0),(.int .i64 0)]),oN (.store 9 Xcd Xfw)]
def k6_19:VC:=.regD [oM 32 τ1,oM 33 τ2,oD 34 (.callF 8 [XfC,XfA]),oM 35 τ0,oD 36 (.fieldA 1 Xcd),oD 37 (.fieldA 0 XfV),oD 38 (.load1 .bool XfB),oD 39 (.callF 24 [XgM]),oD 40 (.sliceS XfU none (some XgK)),oD 41 (.build [(.int .i64 0),(.int .i64 0),(.int .i64 0),(.string ⟨⟨[]⟩⟩)] [(0,1,(.const (.int .i64 2))),(1,1,(.const (.int .i64 4))),(2,1,XfK),(3,1,Xhu)]),oD 11 (.alloc [(.int .i64 0),(.int .i64 0),(.int .i64 0),(.string ⟨⟨[]⟩⟩)])] [(2,6),(2,10),(6,10),(7,10)] [oN (.store 4 Xb8 Xhs)]
def k6_20:VC:=.reg [oD 42 (.fieldA 1 Xcd),oD 43 (.fieldA 0 Xht),oD 44 (.load1 .bool XhC)]
def k6_21:VC:=.reg [oD 45 (.fieldA 1 Xb8),oN (.store 1 XhP (.const (.int .i64 0)))]
def k6_22:VC:=.cond Xim k6_21 .skip
def k6_23:VC:=.seq k6_20 k6_22
def k6_24:VC:=.reg [oD 46 (.loadN [(.int .i64),(.int .i64),(.int .i64),.str] Xb8),oD 47 (.fieldA 4 Xcd),oD 48 (.loadN [.bool,(.int .u64),(.int .u64)] XhS),oD 49 (.fieldA 1 Xcd),oD 50 (.loadN [.bool,(.int .u64),(.int .u64)] XiO),oD 51 (.callF 25 [Xin,XiP,XiR]),oE 52 0 XiQ,oE 53 1 XiQ,oM 6 XjN,oM 7 XjO]
def k6_25:VC:=.seq k6_24 .ret
def k6_26:VC:=.seq k6_23 k6_25
def k6_27:VC:=.seq k6_19 k6_26
def k6_28:VC:=.seq k6_18 k6_27
def k6_29:VC:=.seq k6_17 k6_28
def k6_30:VC:=.seq k6_1 k6_29
def X1z:VC:=.seq k6_0 k6_30
def fn6:VFn:=⟨54,X1z,[.tmp 6,.tmp 7]⟩
def k22_0:VC:=.reg [oD 2 (.alloc [(.int .i64 0),(.bool false),(.int .u64 0),(.int .u64 0),(.bool false),(.int .u64 0),(.int .u64 0),(.int .i64 0),(.int .i64 0),(.int .i64 0),(.bool false),(.int .u32 0),(.int .u32 0),(.bool false),(.string ⟨⟨[]⟩⟩),(.int .i64 0)]),oD 3 (.mv (.const (.int .i64 0)))]
def k22_1:VC:=.reg [oM 9 τ0,oD 10 (.callF 46 [τ9]),oM 8 Xcd,oE 11 0 τ8,oE 12 1 τ8,oE 13 2 τ8,oE 14 3 τ8,oD 4 (.alloc [(.int .i64 0),(.bool false),(.int .u64 0),(.int .u64 0),(.bool false),(.int .u64 0),(.int .u64 0),(.int .i64 0),(.int .i64 0),(.int .i64 0),(.bool false),(.int .u32 0),(.int .u32 0),(.bool false),(.string ⟨⟨[]⟩⟩),(.int .i64 0)]),oN (.store 16 τ4 Xb8),oM 5 XcZ,oM 6 Xc2,oM 7 Xdo]
def k22_2:VC:=.reg [oD 15 (.loadN [(.int .i64),.bool,(.int .u64),(.int .u64),.bool,(.int .u64),(.int .u64),(.int .i64),(.int .i64),(.int .i64),.bool,(.int .u32),(.int .u32),.bool,.str,(.int .i64)] τ4),oM 16 τ7,oN (.store 16 τ2 Xdl),oM 3 Xdp]
def k22_3:VC:=.seq k22_2 .ret
def k22_4:VC:=.seq k22_1 k22_3
def XTc:VC:=.seq k22_0 k22_4
def fn22:VFn:=⟨17,XTc,[.cell 2 [(.int .i64),.bool,(.int .u64),(.int .u64),.bool,(.int .u64),(.int .u64),(.int .i64),(.int .i64),(.int .i64),.bool,(.int .u32),(.int .u32),.bool,.str,(.int .i64)] true,.tmp 3]⟩
def k46_0:VC:=.reg [oD 2 (.alloc [(.int .i64 0),(.bool false),(.int .u64 0),(.int .u64 0),(.bool false),(.int .u64 0),(.int .u64 0),(.int .i64 0),(.int .i64 0),(.int .i64 0),(.bool false),(.int .u32 0),(.int .u32 0),(.bool false),(.string ⟨⟨[]⟩⟩),(.int .i64 0)]),oD 3 (.mv (.const (.int .i64 0))),oD 4 (.mv (.const (.int .i64 0))),oD 5 (.mv (.const (.int .i64 0)))]
def k46_1:VC:=.reg [oM 11 τ0,oD 12 (.lenS Xb8),oD 13 (.bin .gtr XcZ (.const (.int .i64 9000))),oM 10 Xc2]
def k46_2:VC:=.reg [oD 14 (.build [(.int .i64 0),(.bool false),(.int .u64 0),(.int .u64 0),(.bool false),(.int .u64 0),(.int .u64 0),(.int .i64 0),(.int .i64 0),(.int .i64 0),(.bool false),(.int .u32 0),(.int .u32 0),(.bool false),(.string ⟨⟨[]⟩⟩),(.int .i64 0)] []),oN (.store 16 τ2 Xdo),oD 3 (.mv (.const (.int .i64 0))),oD 4 (.mv (.const (.int .i64 0))),oD 5 (.mv (.const (.int .i64 5)))]
def k46_3:VC:=.seq k46_2 .ret
def k46_4:VC:=.reg [oM 16 τ0,oD 17 (.bin .eql Xdp (.const (.string ⟨⟨[]⟩⟩))),oM 15 Xdm]
def k46_5:VC:=.reg [oD 18 (.build [(.int .i64 0),(.bool false),(.int .u64 0),(.int .u64 0),(.bool false),(.int .u64 0),(.int .u64 0),(.int .i64 0),(.int .i64 0),(.int .i64 0),(.bool false),(.int .u32 0),(.int .u32 0),(.bool false),(.string ⟨⟨[]⟩⟩),(.int .i64 0)] []),oN (.store 16 τ2 XdW),oD 3 (.mv (.const (.int .i64 0))),oD 4 (.mv (.const (.int .i64 0))),oD 5 (.mv (.const (.int .i64 2)))]
def k46_6:VC:=.seq k46_5 .ret
def k46_7:VC:=.cond Xdl k46_6 .skip
def k46_8:VC:=.seq k46_4 k46_7
def k46_9:VC:=.cond Xcd k46_3 k46_8
def X10:VC:=.seq k46_1 k46_9
def XRm:VC:=.block 0 X10
def XQz:VC:=.reg [oM 20 τ0,oD 21 (.callF 71 [Xea]),oM 19 Xei,oE 22 0 XdM,oE 23 1 XdM,oD 6 (.alloc [(.bool false),(.int .u64 0),(.int .u64 0),(.bool false),(.int .u64 0),(.int .u64 0),(.int .i64 0),(.string ⟨⟨[]⟩⟩)]),oN (.store 8 τ6 XeN),oM 7 XeR]
def XNY:VC:=.reg [oM 24 τ7,oD 25 (.bin .neq Xex (.const (.int .i64 0)))]
def X1P:VC:=.reg [oD 26 (.build [(.int .i64 0),(.bool false),(.int .u64 0),(.int .u64 0),(.bool false),(.int .u64 0),(.int .u64 0),(.int .i64 0),(.int .i64 0),(.int .i64 0),(.bool false),(.int .u32 0),(.int .u32 0),(.bool false),(.string ⟨⟨[]⟩⟩),(.int .i64 0)] []),oM 27 τ7,oN (.store 16 τ2 Xep),oD 3 (.mv (.const (.int .i64 0))),oD 4 (.mv (.const (.int .i64 0))),oM 5 XeT]
def XTq:VC:=.seq X1P .ret
def X4j:VC:=.cond XeX XTq .skip
def XQo:VC:=.seq XNY X4j
def X7x:VC:=.reg [oM 28 τ0,oD 29 (.lenS XeO),oD 30 (.fieldA 6 τ6),oD 31 (.load1 (.int .i64) Xfy),oD 32 (.fieldA 0 τ6),oD 33 (.loadN [.bool,(.int .u64),(.int .u64)] XfC),oD 34 (.fieldA 3 τ6),oD 35 (.loadN [.bool,(.int .u64),(.int .u64)] XfK),oD 36 (.build [(.int .i64 0),(.bool false),(.int .u64 0),(.int .u64 0),(.bool false),(.int .u64 0),(.int .u64 0),(.int .i64 0),(.int .i64 0)] [(0,1,Xfw),(1,3,XfA),(4,3,XfU)]),oD 37 (.build [(.int .i64 0),(.bool false),(.int .u64 0),(.int .u64 0),(.bool false),(.int .u64 0),(.int .u64 0),(.int .i64 0),(.int .i64 0),(.int .i64 0),(.bool false),(.int .u32 0),(.int .u32 0),(.bool false),(.string ⟨⟨[]⟩⟩),(.int .i64 0)] [(15,1,Xe1),(0,9,XfV)]),oD 8 (.alloc [(.int .i64 0),(.bool false),(.int .u64 0),(.int .u64 0),(.bool false),(.int .u64 0),(.int .u64 0),(.int .i64 0),(.int .i64 0),(.int .i64 0),(.bool false),(.int .u32 0),(.int .u32 0),(.bool false),(.string ⟨⟨[]⟩⟩),(.int .i64 0)]),oN (.store 16 τ8 XfB)]
def X4Z:VC:=.reg [oD 9 (.mv (.const (.int .i64 0)))]
def XVZ:VC:=.reg [oD 38 (.fieldA 6 τ6),oD 39 (.load1 (.int .i64) XgM)]
def XVe:VC:=.reg [oD 41 (.bin .eql XgK (.const (.int .i64 6))),oM 40 Xhs]
def XT8:VC:=.reg [oD 43 (.loadN [.bool,(.int .u64),(.int .u64),.bool,(.int .u64),(.int .u64),(.int .i64),.str] τ6),oD 44 (.callF 72 [XhC,τ8]),oM 42 Xim,oE 45 0 Xht,oE 46 1 Xht,oM 9 XhP,oM 7 Xin]
def X5f:VC:=.reg [oD 48 (.bin .eql XgK (.const (.int .i64 17))),oM 47 XiP]
def X4T:VC:=.reg [oD 50 (.loadN [.bool,(.int .u64),(.int .u64),.bool,(.int .u64),(.int .u64),(.int .i64),.str] τ6),oD 51 (.callF 73 [XiR,τ8]),oM 49 XiQ,oE 52 0 XiO,oE 53 1 XiO,oM 9 XjN,oM 7 XjO]
def XZ4:VC:=.reg [oD 7 (.mv (.const (.int .i64 6)))]
def XOl:VC:=.cond XhS X4T XZ4
def X1L:VC:=.seq X5f XOl
def XZg:VC:=.cond Xhu XT8 X1L
def X4P:VC:=.seq XVe XZg
def XTf:VC:=.block 1 X4P
def X1p:VC:=.seq XVZ XTf
def X2j:VC:=.reg [oM 54 τ7,oD 55 (.bin .neq XkV (.const (.int .i64 0)))]
def XTv:VC:=.reg [oD 56 (.build [(.int .i64 0),(.bool false),(.int .u64 0),(.int .u64 0),(.bool false),(.int .u64 0),(.int .u64 0),(.int .i64 0),(.int .i64 0),(.int .i64 0),(.bool false),(.int .u32 0),(.int .u32 0),(.bool false),(.string ⟨⟨[]⟩⟩),(.int .i64 0)] []),oM 57 τ7,oN (.store 16 τ2 Xlp),oD 3 (.mv (.const (.int .i64 0))),oD 4 (.mv (.const (.int .i64 0))),oM 5 XkK]
def X0D:VC:=.seq XTv .ret
def XRf:VC:=.cond Xk3 X0D .skip
def X6J:VC:=.seq X2j XRf
def XOJ:VC:=.regD [oD 58 (.loadN [(.int .i64),.bool,(.int .u64),(.int .u64),.bool,(.int .u64),(.int .u64),(.int .i64),(.int .i64),(.int .i64),.bool,(.int .u32),(.int .u32),.bool,.str,(.int .i64)] τ8),oD 59 (.fieldA 7 τ6),oD 60 (.load1 .str Xk8),oD 61 (.lenS Xl4),oM 62 τ9,oN (.store 16 τ2 XkW),oM 3 Xl7] [(2,5)] [oM 4 XmX,oD 5 (.mv (.const (.int .i64 0)))]
def XMs:VC:=.seq XOJ .ret
def X5T:VC:=.seq X6J XMs
def XWd:VC:=.seq X1p X5T
def X2x:VC:=.seq X4Z XWd
def XMw:VC:=.seq X7x X2x
def XWE:VC:=.seq XQo XMw
def X5h:VC:=.seq XQz XWE
def XQd:VC:=.seq XRm X5h
def XAK:VC:=.seq k46_0 XQd
def fn46:VFn:=⟨63,XAK,[.cell 2 [(.int .i64),.bool,(.int .u64),(.int .u64),.bool,(.int .u64),(.int .u64),(.int .i64),(.int .i64),(.int .i64),.bool,(.int .u32),(.int .u32),.bool,.str,(.int .i64)] true,.tmp 3,.tmp 4,.tmp 5]⟩
def k71_0:VC:=.reg [oD 2 (.alloc [(.bool false),(.int .u64 0),(.int .u64 0),(.bool false),(.int .u64 0),(.int .u64 0),(.int .i64 0),(.string ⟨⟨[]⟩⟩)]),oD 3 (.mv (.const (.int .i64 0)))]
def k71_1:VC:=.reg [oM 10 τ0,oD 11 (.callF 106 [Xcd]),oM 9 Xb8,oE 12 0 τ9,oE 13 1 τ9,oE 14 2 τ9,oM 4 XcZ,oM 5 Xc2,oM 6 Xdo]
def k71_2:VC:=.reg [oM 15 τ6,oD 16 (.bin .neq Xdl (.const (.int .i64 0)))]
def k71_3:VC:=.reg [oD 17 (.build [(.bool false),(.int .u64 0),(.int .u64 0),(.bool false),(.int .u64 0),(.int .u64 0),(.int .i64 0),(.string ⟨⟨[]⟩⟩)] []),oM 18 τ6,oN (.store 8 τ2 Xdm),oM 3 XdW]
def k71_4:VC:=.seq k71_3 .ret
def k71_5:VC:=.cond Xdp k71_4 .skip
def k71_6:VC:=.seq k71_2 k71_5
def k71_7:VC:=.reg [oM 19 τ4]
def k71_8:VC:=.reg [oD 20 (.tassert 88 (.agg ⟨[(.int .i64 0),(.int .i64 0),(.bool false),(.int .i64 0),(.int .i64 0),(.bool false),(.int .u64 0),(.int .u64 0),(.bool false),(.int .u64 0),(.int .u64 0),(.string ⟨⟨[]⟩⟩)]⟩) XdM),oE 21 1 Xea,oE 22 0 Xea]
def k71_9:VC:=.reg [oD 7 (.alloc [(.int .i64 0),(.int .i64 0),(.bool false),(.int .i64 0),(.int .i64 0),(.bool false),(.int .u64 0),(.int .u64 0),(.bool false),(.int .u64 0),(.int .u64 0),(.string ⟨⟨[]⟩⟩)]),oN (.store 12 τ7 XeN)]
def X2L:VC:=.reg [oM 23 τ0,oD 24 (.lenS XeR),oD 25 (.fieldA 11 τ7),oD 26 (.load1 .str XeX),oD 27 (.lenS Xep),oD 28 (.bin .add (.const (.int .i64 20)) XeT),oM 29 τ5,oD 30 (.lenS Xe1),oD 31 (.bin .add XeO Xfy),oD 32 (.bin .neq Xex Xfw)]
def X1K:VC:=.reg [oD 33 (.build [(.bool false),(.int .u64 0),(.int .u64 0),(.bool false),(.int .u64 0),(.int .u64 0),(.int .i64 0),(.string ⟨⟨[]⟩⟩)] []),oN (.store 8 τ2 XfA),oD 3 (.mv (.const (.int .i64 5)))]
def XWW:VC:=.seq X1K .ret
def XSe:VC:=.cond XfC XWW .skip
def XOS:VC:=.seq X2L XSe
def X2u:VC:=.reg [oD 34 (.fieldA 5 τ7),oD 35 (.loadN [.bool,(.int .u64),(.int .u64)] XfK),oD 36 (.fieldA 8 τ7),oD 37 (.loadN [.bool,(.int .u64),(.int .u64)] XfV),oD 38 (.fieldA 4 τ7),oD 39 (.load1 (.int .i64) XgM),oM 40 τ5,oD 41 (.build [(.bool false),(.int .u64 0),(.int .u64 0),(.bool false),(.int .u64 0),(.int .u64 0),(.int .i64 0),(.string ⟨⟨[]⟩⟩)] [(0,3,XfU),(3,3,XfB),(6,1,XgK),(7,1,Xhu)]),oN (.store 8 τ2 Xhs),oD 3 (.mv (.const (.int .i64 0)))]
def X0o:VC:=.seq X2u .ret
def XOk:VC:=.seq XOS X0o
def XVS:VC:=.seq k71_9 XOk
def XZF:VC:=.reg [oD 42 (.tassert 85 (.agg ⟨[(.int .i64 0),(.int .i64 0),(.int .i64 0),(.int .i64 0),(.bool false),(.int .u64 0),(.int .u64 0),(.bool false),(.int .u64 0),(.int .u64 0)]⟩) XdM),oE 43 1 Xht,oE 44 0 Xht]
def XUp:VC:=.reg [oD 8 (.alloc [(.int .i64 0),(.int .i64 0),(.int .i64 0),(.int .i64 0),(.bool false),(.int .u64 0),(.int .u64 0),(.bool false),(.int .u64 0),(.int .u64 0)]),oN (.store 10 τ8 Xim)]
def X07:VC:=.reg [oM 45 τ0,oD 46 (.lenS XhP),oM 47 τ5,oD 48 (.lenS XhS),oD 49 (.bin .add (.const (.int .i64 40)) XiP),oD 50 (.bin .neq Xin XiO)]
def XUu:VC:=.reg [oD 51 (.build [(.bool false),(.int .u64 0),(.int .u64 0),(.bool false),(.int .u64 0),(.int .u64 0),(.int .i64 0),(.string ⟨⟨[]⟩⟩)] []),oN (.store 8 τ2 XiQ),oD 3 (.mv (.const (.int .i64 5)))]
def X4m:VC:=.seq XUu .ret
def XMD:VC:=.cond XiR X4m .skip
def XSN:VC:=.seq X07 XMD
def XSZ:VC:=.reg [oD 52 (.fieldA 4 τ8),oD 53 (.loadN [.bool,(.int .u64),(.int .u64)] XjN),oD 54 (.fieldA 7 τ8),oD 55 (.loadN [.bool,(.int .u64),(.int .u64)] XkV),oD 56 (.fieldA 2 τ8),oD 57 (.load1 (.int .i64) Xlp),oM 58 τ5,oD 59 (.build [(.bool false),(.int .u64 0),(.int .u64 0),(.bool false),(.int .u64 0),(.int .u64 0),(.int .i64 0),(.string ⟨⟨[]⟩⟩)] [(0,3,XjO),(3,3,Xk3),(6,1,XkK),(7,1,XkW)]),oN (.store 8 τ2 Xk8),oD 3 (.mv (.const (.int .i64 0)))]
def XPv:VC:=.seq XSZ .ret
def X1q:VC:=.seq XSN XPv
def X29:VC:=.seq XUp X1q
def XVB:VC:=.cond XhC X29 .skip
def XZQ:VC:=.seq XZF XVB
def XU8:VC:=.cond Xei XVS XZQ
def XO4:VC:=.seq k71_8 XU8
def X3t:VC:=.block 0 XO4
def X7E:VC:=.seq k71_7 X3t
def X3N:VC:=.reg [oD 60 (.build [(.bool false),(.int .u64 0),(.int .u64 0),(.bool false),(.int .u64 0),(.int .u64 0),(.int .i64 0),(.string ⟨⟨[]⟩⟩)] []),oN (.store 8 τ2 Xl4),oD 3 (.mv (.const (.int .i64 3)))]
def X4I:VC:=.seq X3N .ret
def XS8:VC:=.seq X7E X4I
def XNz:VC:=.seq k71_6 XS8
def XRR:VC:=.seq k71_1 XNz
def Xy9:VC:=.seq k71_0 XRR
def fn71:VFn:=⟨61,Xy9,[.cell 2 [.bool,(.int .u64),(.int .u64),.bool,(.int .u64),(.int .u64),(.int .i64),.str] true,.tmp 3]⟩
def XRk:VC:=.reg [oM 2 (.const .nilIface),oD 3 (.mv (.const (.string ⟨⟨[]⟩⟩))),oD 4 (.mv (.const (.int .i64 0)))]
def XXZ:VC:=.reg [oM 11 τ0,oD 12 (.idxS Xb8 (.const (.int .i64 0))),oD 13 (.bin .shr XcZ (.const (.int .u64 4)))]
def X5I:VC:=.reg [oD 15 (.bin .eql Xc2 (.const (.int .u8 4))),oM 14 Xdl]
def X1a:VC:=.reg [oM 17 τ0,oD 18 (.callF 129 [Xdm]),oM 16 XdW,oE 19 0 Xdp,oE 20 1 Xdp,oE 21 2 Xdp,oD 5 (.alloc [(.int .i64 0),(.int .i64 0),(.bool false),(.int .i64 0),(.int .i64 0),(.bool false),(.int .u64 0),(.int .u64 0),(.bool false),(.int .u64 0),(.int .u64 0),(.string ⟨⟨[]⟩⟩)]),oN (.store 12 τ5 XdM),oM 6 Xea,oM 7 Xei]
def X3m:VC:=.reg [oD 22 (.loadN [(.int .i64),(.int .i64),.bool,(.int .i64),(.int .i64),.bool,(.int .u64),(.int .u64),.bool,(.int .u64),(.int .u64),.str] τ5),oD 23 (.iface 88 XeN),oM 24 τ6,oM 25 τ7,oM 2 XeR,oM 3 Xex,oM 4 XeX]
def XX2:VC:=.seq X3m .ret
def XMI:VC:=.seq X1a XX2
def XMn:VC:=.reg [oD 27 (.bin .eql Xc2 (.const (.int .u8 6))),oM 26 XeT]
def XUE:VC:=.reg [oM 29 τ0,oD 30 (.callF 130 [Xe1]),oM 28 Xfy,oE 31 0 XeO,oE 32 1 XeO,oE 33 2 XeO,oD 8 (.alloc [(.int .i64 0),(.int .i64 0),(.int .i64 0),(.int .i64 0),(.bool false),(.int .u64 0),(.int .u64 0),(.bool false),(.int .u64 0),(.int .u64 0)]),oN (.store 10 τ8 Xfw),oM 9 XfC,oM 10 XfA]
def XYa:VC:=.reg [oD 34 (.loadN [(.int .i64),(.int .i64),(.int .i64),(.int .i64),.bool,(.int .u64),(.int .u64),.bool,(.int .u64),(.int .u64)] τ8),oD 35 (.iface 85 XfK),oM 36 τ9,oM 37 Xcd,oM 2 XfU,oM 3 XfV,oM 4 XfB]
def XIJ:VC:=.seq XYa .ret
def XIY:VC:=.seq XUE XIJ
def XJM:VC:=.cond Xep XIY .skip
def XFc:VC:=.seq XMn XJM
def XJP:VC:=.cond Xdo XMI XFc
def XJF:VC:=.seq X5I XJP
def XKv:VC:=.block 0 XJF
def XFj:VC:=.seq XXZ XKv
def XLa:VC:=.reg [oM 2 (.const .nilIface),oD 3 (.mv (.const (.string ⟨⟨[]⟩⟩))),oD 4 (.mv (.const (.int .i64 3)))]
def XIv:VC:=.seq XLa .ret
def XE3:VC:=.seq XFj XIv
def XG6:VC:=.seq XRk XE3
def XZ1:VFn:=⟨38,XG6,[.tmp 2,.tmp 3,.tmp 4]⟩
def XZl:VC:=.reg [oD 2 (.alloc [(.int .i64 0),(.int .i64 0),(.bool false),(.int .i64 0),(.int .i64 0),(.bool false),(.int .u64 0),(.int .u64 0),(.bool false),(.int .u64 0),(.int .u64 0),(.string ⟨⟨[]⟩⟩)]),oD 3 (.mv (.const (.string ⟨⟨[]⟩⟩))),oD 4 (.mv (.const (.int .i64 0)))]
def X1D:VC:=.reg [oM 11 τ0,oD 12 (.lenS Xb8),oD 13 (.bin .lss XcZ (.const (.int .i64 20)))]
def XSQ:VC:=.reg [oD 14 (.build [(.int .i64 0),(.int .i64 0),(.bool false),(.int .i64 0),(.int .i64 0),(.bool false),(.int .u64 0),(.int .u64 0),(.bool false),(.int .u64 0),(.int .u64 0),(.string ⟨⟨[]⟩⟩)] []),oN (.store 12 τ2 Xdo),oD 3 (.mv (.const (.string ⟨⟨[]⟩⟩))),oD 4 (.mv (.const (.int .i64 2)))]
def XME:VC:=.seq XSQ .ret
def X6Q:VC:=.cond Xc2 XME .skip
def XN1:VC:=.seq X1D X6Q
def X7g:VC:=.reg [oM 15 τ0,oD 16 (.callF 61 [Xdl]),oD 17 (.build [(.pointer none)] [(0,1,Xdp)]),oD 5 (.alloc [(.pointer none)]),oN (.store 1 τ5 Xdm)]
def XUB:VC:=.reg [oD 18 (.fieldA 0 τ5),oD 19 (.load1 .oth XdW),oD 20 (.callF 62 [XdM,(.const (.int .i64 1))]),oM 6 Xea]
def X3y:VC:=.reg [oD 21 (.fieldA 0 τ5),oD 22 (.load1 .oth Xei),oD 23 (.callF 62 [XeN,(.const (.int .i64 1))]),oD 24 (.build [(.int .i64 0),(.int .i64 0),(.bool false),(.int .i64 0),(.int .i64 0),(.bool false),(.int .u64 0),(.int .u64 0),(.bool false),(.int .u64 0),(.int .u64 0),(.string ⟨⟨[]⟩⟩)] [(0,1,XeR)]),oD 7 (.alloc [(.int .i64 0),(.int .i64 0),(.bool false),(.int .i64 0),(.int .i64 0),(.bool false),(.int .u64 0),(.int .u64 0),(.bool false),(.int .u64 0),(.int .u64 0),(.string ⟨⟨[]⟩⟩)]),oN (.store 12 τ7 Xex)]
def XZC:VC:=.reg [oM 25 τ6,oD 26 (.bin .and XeX (.const (.int .i64 15))),oD 27 (.bin .mul Xep (.const (.int .i64 4))),oD 28 (.fieldA 0 τ5),oD 29 (.load1 .oth XeO),oD 30 (.callF 62 [Xe1,(.const (.int .i64 2))]),oM 8 XeT,oM 9 Xfy]
def XKF:VC:=.reg [oM 32 τ6,oD 33 (.bin .shr XfC (.const (.int .u64 4))),oD 34 (.bin .neq XfA (.const (.int .i64 4))),oM 35 XfK,oG 36 (.mv τ8) 35 false,oG 37 (.bin .lss XfV (.const (.int .i64 20))) 35 false,oD 38 (.pick XfU (.const (.bool true)) XfB),oM 39 XgM,oG 40 (.mv τ9) 39 false,oG 41 (.mv τ8) 39 false,oG 42 (.bin .lss Xhu Xhs) 39 false,oD 43 (.pick XgK (.const (.bool true)) Xht),oM 31 XhC]
def XGR:VC:=.reg [oD 44 (.build [(.int .i64 0),(.int .i64 0),(.bool false),(.int .i64 0),(.int .i64 0),(.bool false),(.int .u64 0),(.int .u64 0),(.bool false),(.int .u64 0),(.int .u64 0),(.string ⟨⟨[]⟩⟩)] []),oN (.store 12 τ2 Xim),oD 3 (.mv (.const (.string ⟨⟨[]⟩⟩))),oD 4 (.mv (.const (.int .i64 3)))]
def XJZ:VC:=.seq XGR .ret
def XEU:VC:=.reg [oM 46 τ9,oM 47 τ0,oD 48 (.lenS XhS),oD 49 (.bin .gtr Xin XiP),oM 45 XiO]
def XKt:VC:=.reg [oD 50 (.build [(.int .i64 0),(.int .i64 0),(.bool false),(.int .i64 0),(.int .i64 0),(.bool false),(.int .u64 0),(.int .u64 0),(.bool false),(.int .u64 0),(.int .u64 0),(.string ⟨⟨[]⟩⟩)] []),oN (.store 12 τ2 XiR),oD 3 (.mv (.const (.string ⟨⟨[]⟩⟩))),oD 4 (.mv (.const (.int .i64 2)))]
def XJf:VC:=.seq XKt .ret
def XCQ:VC:=.reg [oM 52 τ0,oM 53 τ8,oD 54 (.sliceS XjN none (some XjO)),oD 55 (.callF 131 [XkV]),oD 56 (.not Xk3),oM 51 Xlp]
def XI0:VC:=.reg [oD 57 (.build [(.int .i64 0),(.int .i64 0),(.bool false),(.int .i64 0),(.int .i64 0),(.bool false),(.int .u64 0),(.int .u64 0),(.bool false),(.int .u64 0),(.int .u64 0),(.string ⟨⟨[]⟩⟩)] []),oN (.store 12 τ2 XkK),oD 3 (.mv (.const (.string ⟨⟨[]⟩⟩))),oD 4 (.mv (.const (.int .i64 4)))]
def XD7:VC:=.seq XI0 .ret
def XDZ:VC:=.cond XiQ XD7 .skip
def XKw:VC:=.seq XCQ XDZ
def XJU:VC:=.cond XhP XJf XKw
def XHc:VC:=.seq XEU XJU
def XCD:VC:=.cond Xfw XJZ XHc
def XD2:VC:=.seq XKF XCD
def XFd:VC:=.block 0 XD2
def XIj:VC:=.reg [oD 58 (.fieldA 0 τ5),oD 59 (.load1 .oth XkW),oD 60 (.callF 62 [Xk8,(.const (.int .i64 2))]),oD 61 (.fieldA 1 τ7),oN (.store 1 Xl7 Xl4)]
def XFf:VC:=.reg [oD 62 (.fieldA 0 τ5),oD 63 (.load1 .oth XmX),oD 64 (.callF 62 [Xow,(.const (.int .i64 2))]),oM 10 Xn3]
def XHZ:VC:=.reg [oM 65 Xcd,oD 66 (.bin .andNot XoH (.const (.int .i64 16384))),oD 67 (.bin .neq Xo1 (.const (.int .i64 0)))]
def XFH:VC:=.reg [oD 68 (.build [(.int .i64 0),(.int .i64 0),(.bool false),(.int .i64 0),(.int .i64 0),(.bool false),(.int .u64 0),(.int .u64 0),(.bool false),(.int .u64 0),(.int .u64 0),(.string ⟨⟨[]⟩⟩)] []),oN (.store 12 τ2 XpF),oD 3 (.mv (.const (.string ⟨⟨[]⟩⟩))),oD 4 (.mv (.const (.int .i64 7)))]
def XI7:VC:=.seq XFH .ret
def XDD:VC:=.cond XoE XI7 .skip
def XCR:VC:=.seq XHZ XDD
def XIy:VC:=.reg [oM 69 Xcd,oD 70 (.bin .neq Xpj (.const (.int .i64 0))),oD 71 (.fieldA 2 τ7),oN (.store 1 Xq3 Xq8)]
def XIK:VC:=.regD [oD 72 (.fieldA 0 τ5),oD 73 (.load1 .oth Xq1),oD 74 (.callF 62 [Xr9,(.const (.int .i64 1))]),oD 75 (.fieldA 0 τ5),oD 76 (.load1 .oth XtI),oD 77 (.callF 62 [XvY,(.const (.int .i64 1))]),oD 78 (.fieldA 3 τ7)] [(2,4)] [oN (.store 1 Xv3 XtP),oD 79 (.fieldA 4 τ7),oN (.store 1 XwR XuG)]
def XES:VC:=.reg [oD 80 (.fieldA 0 τ5),oD 81 (.load1 .oth Xv0),oD 82 (.callF 62 [XxB,(.const (.int .i64 2))])]
def XIT:VC:=.regD [oD 83 (.loadN [.oth] τ5),oD 84 (.callF 134 [Xv1]),oD 85 (.loadN [.oth] τ5),oD 86 (.callF 134 [XDX]),oD 87 (.fieldA 5 τ7)] [(1,2)] [oN (.store 3 XDb Xzp),oD 88 (.fieldA 8 τ7),oN (.store 3 XI6 XG7)]
def XEi:VC:=.reg [oD 89 (.fieldA 0 τ5),oD 90 (.load1 .oth XBr),oM 91 τ8,oD 92 (.bin .sub XCg (.const (.int .i64 20))),oD 93 (.callF 64 [XIe,XEL]),oD 94 (.fieldA 11 τ7),oN (.store 1 XDB XGb)]
def XHJ:VC:=.regD [oD 95 (.loadN [(.int .i64),(.int .i64),.bool,(.int .i64),(.int .i64),.bool,(.int .u64),(.int .u64),.bool,(.int .u64),(.int .u64),.str] τ7),oD 96 (.fieldA 0 τ5),oD 97 (.load1 .oth XCM),oM 98 τ9,oM 99 τ8,oD 100 (.bin .sub τ98 τ99),oD 101 (.callF 64 [XLk,XKX])] [(0,6)] [oN (.store 12 τ2 XGg),oM 3 XEy,oD 4 (.mv (.const (.int .i64 0)))]
def XDF:VC:=.seq XHJ .ret
def XEW:VC:=.seq XEi XDF
def XGF:VC:=.seq XIT XEW
def XDP:VC:=.seq XES XGF
def XJG:VC:=.seq XIK XDP
def XGL:VC:=.seq XIy XJG
def XIz:VC:=.seq XCR XGL
def XIp:VC:=.seq XFf XIz
def XEb:VC:=.seq XIj XIp
def XHv:VC:=.seq XFd XEb
def XFZ:VC:=.seq XZC XHv
def XDo:VC:=.seq X3y XFZ
def XDW:VC:=.seq XUB XDo
def XIb:VC:=.seq X7g XDW
def XFt:VC:=.seq XN1 XIb
def Xue:VC:=.seq XZl XFt
def XYJ:VFn:=⟨102,Xue,[.cell 2 [(.int .i64),(.int .i64),.bool,(.int .i64),(.int .i64),.bool,(.int .u64),(.int .u64),.bool,(.int .u64),(.int .u64),.str] true,.tmp 3,.tmp 4]⟩
def k61_0:VC:=.reg [oD 2 (.mv (.const (.pointer none)))]
def k61_1:VC:=.reg [oM 3 τ0,oD 4 (.build [(.string ⟨⟨[]⟩⟩),(.bool false),(.bool false)] [(0,1,τ3),(1,1,(.const (.bool true)))]),oD 5 (.box τ4),oM 2 τ5]
def k61_2:VC:=.seq k61_1 .ret
def XXQ:VC:=.seq k61_0 k61_2
def fn61:VFn:=⟨6,XXQ,[.tmp 2]⟩
def k62_0:VC:=.reg [oD 4 (.mv (.const (.int .i64 0)))]
def k62_1:VC:=.reg [oM 7 τ1,oD 8 (.bin .lss τ7 (.const (.int .i64 1))),oM 9 τ8,oG 10 (.mv τ1) 9 false,oG 11 (.bin .gtr Xcd (.const (.int .i64 7))) 9 false,oD 12 (.pick τ9 (.const (.bool true)) Xb8)]
def k62_2:VC:=.reg [oD 1 (.mv (.const (.int .i64 (-1))))]
def k62_3:VC:=.cond XcZ k62_2 .skip
def k62_4:VC:=.seq k62_1 k62_3
def k62_5:VC:=.reg [oM 14 τ0,oM 15 τ1,oD 16 (.callF 64 [Xdo,Xdl]),oM 17 τ1,oD 18 (.callF 40 [Xdp,(.const (.int .i64 0)),Xdm]),oM 13 XdW,oE 19 0 Xc2,oE 20 1 Xc2,oM 5 XdM,oM 6 Xea]
def k62_6:VC:=.reg [oM 21 τ5,oD 22 (.conv .i64 Xei),oM 4 XeN]
def k62_7:VC:=.seq k62_6 .ret
def k62_8:VC:=.seq k62_5 k62_7
def k62_9:VC:=.seq k62_4 k62_8
def Xzk:VC:=.seq k62_0 k62_9
def fn62:VFn:=⟨23,Xzk,[.tmp 4]⟩
def k64_0:VC:=.reg [oD 4 (.mv (.const (.string ⟨⟨[]⟩⟩)))]
def k64_1:VC:=.reg [oM 6 τ0,oD 7 (.callF 63 [τ6])]
def k64_2:VC:=.reg [oD 4 (.mv (.const (.string ⟨⟨[]⟩⟩)))]
def k64_3:VC:=.seq k64_2 .ret
def k64_4:VC:=.cond τ7 k64_3 .skip
def k64_5:VC:=.seq k64_1 k64_4
def k64_6:VC:=.reg [oM 8 τ1,oD 9 (.bin .lss τ8 (.const (.int .i64 0))),oM 10 τ9,oG 11 (.mv τ1) 10 false,oG 12 (.mv τ0) 10 false,oG 13 (.nilCheck XcZ) 10 false,oG 14 (.fieldA 0 Xc2) 10 false,oG 15 (.load1 .str Xdo) 10 false,oG 16 (.lenS Xdl) 10 false,oG 17 (.bin .gtr Xb8 Xdp) 10 false,oD 18 (.pick Xcd (.const (.bool true)) Xdm)]
def k64_7:VC:=.reg [oM 19 τ0,oD 20 (.nilCheck XdM),oD 21 (.fieldA 2 Xea),oN (.store 1 Xei (.const (.bool true)))]
def k64_8:VC:=.reg [oD 4 (.mv (.const (.string ⟨⟨[]⟩⟩)))]
def k64_9:VC:=.seq k64_8 .ret
def XVv:VC:=.seq k64_7 k64_9
def XQh:VC:=.cond XdW XVv .skip
def XOF:VC:=.seq k64_6 XQh
def XUO:VC:=.reg [oM 22 τ0,oD 23 (.nilCheck XeN),oD 24 (.fieldA 0 XeR),oD 25 (.load1 .str Xex),oM 26 τ1,oD 27 (.sliceS XeX none (some Xep)),oM 5 XeT]
def XTY:VC:=.reg [oM 28 τ0,oM 29 τ0,oD 30 (.nilCheck Xe1),oD 31 (.fieldA 0 Xfy),oD 32 (.load1 .str Xfw),oM 33 τ1,oD 34 (.sliceS XfC (some XfA) none),oD 35 (.nilCheck XeO),oD 36 (.fieldA 0 XfU),oN (.store 1 XfV XfK)]
def XSM:VC:=.reg [oM 37 τ5,oM 4 XfB]
def X0k:VC:=.seq XSM .ret
def X4M:VC:=.seq XTY X0k
def XNO:VC:=.seq XUO X4M
def XPV:VC:=.seq XOF XNO
def X19:VC:=.seq k64_5 XPV
def Xzw:VC:=.seq k64_0 X19
def fn64:VFn:=⟨38,Xzw,[.tmp 4]⟩
def k63_0:VC:=.reg [oD 2 (.mv (.const (.bool false)))]
def k63_1:VC:=.reg [oM 3 τ0,oD 4 (.isNil 0 false τ3),oM 5 τ4,oG 6 (.mv τ0) 5 false,oG 7 (.nilCheck τ6) 5 false,oG 8 (.fieldA 1 τ7) 5 false,oG 9 (.load1 .bool τ8) 5 false,oG 10 (.not τ9) 5 false,oD 11 (.pick τ5 (.const (.bool true)) Xcd),oM 12 Xb8,oG 13 (.mv τ0) 12 false,oG 14 (.nilCheck Xc2) 12 false,oG 15 (.fieldA 2 Xdo) 12 false,oG 16 (.load1 .bool Xdl) 12 false,oD 17 (.pick XcZ (.const (.bool true)) Xdp),oM 2 Xdm]
def k63_2:VC:=.seq k63_1 .ret
def X6j:VC:=.seq k63_0 k63_2
def fn63:VFn:=⟨18,X6j,[.tmp 2]⟩
def k40_0:VC:=.reg [oD 6 (.mv (.const (.int .u64 0))),oD 7 (.mv (.const (.bool false)))]
def k40_1:VC:=.reg [oM 11 τ2,oD 12 (.bin .lss Xb8 (.const (.int .i64 1))),oM 13 XcZ,oG 14 (.mv τ2) 13 false,oG 15 (.bin .gtr Xdo (.const (.int .i64 8))) 13 false,oD 16 (.pick Xc2 (.const (.bool true)) Xdl),oM 17 Xdp,oG 18 (.mv τ1) 17 false,oG 19 (.bin .lss XdW (.const (.int .i64 0))) 17 false,oD 20 (.pick Xdm (.const (.bool true)) XdM),oM 21 Xea,oG 22 (.mv τ0) 21 false,oG 23 (.lenS XeN) 21 false,oG 24 (.mv τ2) 21 false,oG 25 (.bin .sub XeR Xex) 21 false,oG 26 (.mv τ1) 21 false,oG 27 (.bin .lss XeX Xep) 21 false,oD 28 (.pick Xei (.const (.bool true)) XeT)]
def k40_2:VC:=.reg [oD 6 (.mv (.const (.int .u64 0))),oD 7 (.mv (.const (.bool false)))]
def k40_3:VC:=.seq k40_2 .ret
def k40_4:VC:=.cond XeO k40_3 .skip
def k40_5:VC:=.seq k40_1 k40_4
def k40_6:VC:=.reg [oD 8 (.mv (.const (.int .u64 0)))]
def k40_7:VC:=.reg [oM 29 τ0,oM 30 τ1,oM 31 τ1,oM 32 τ2,oD 33 (.bin .add Xfw XfC),oD 34 (.sliceS Xe1 (some Xfy) (some XfA)),oD 35 (.s2b XfK),oD 36 (.lenL XfU),oD 37 (.mv (.const (.int .i64 0)))]
def k40_8:VC:=.reg [oD 38 (.bin .lss XfB XfV)]
def k40_9:VC:=.cond XgM .skip (.exit 0)
def XZY:VC:=.reg [oD 39 (.idxAL 1 XfU XfB),oD 40 (.load1 (.int .u8) XgK),oM 10 Xhu]
def XWw:VC:=.reg [oM 41 τ8,oD 42 (.bin .shl Xhs (.const (.int .u64 8))),oM 43 Xcd,oD 44 (.conv .u64 XhC),oD 45 (.bin .or Xht Xim),oM 8 XhP]
def XMc:VC:=.seq XZY XWw
def XY6:VC:=.block 1 XMc
def XRY:VC:=.reg [oD 46 (.bin .add XfB (.const (.int .i64 1))),oM 37 Xin]
def X2v:VC:=.seq XY6 XRY
def X1u:VC:=.seq k40_9 X2v
def Xta:VC:=.seq k40_8 X1u
def XZh:VC:=.loop Xta
def XQ0:VC:=.block 0 XZh
def X4W:VC:=.seq k40_7 XQ0
def XSB:VC:=.reg [oM 47 τ8,oM 6 XhS,oD 7 (.mv (.const (.bool true)))]
def XAi:VC:=.seq XSB .ret
def XOj:VC:=.seq X4W XAi
def XQ5:VC:=.seq k40_6 XOj
def X5S:VC:=.seq k40_5 XQ5
def Xzy:VC:=.seq k40_0 X5S
def fn40:VFn:=⟨48,Xzy,[.tmp 6,.tmp 7]⟩
def XOs:VC:=.reg [oD 2 (.mv (.const (.bool false)))]
def XTm:VC:=.reg [oM 3 τ0,oD 4 (.callF 112 [τ3]),oD 5 (.bin .eql τ4 (.const (.int .i64 65535))),oM 2 τ5]
def XLS:VC:=.seq XTm .ret
def XzH:VC:=.seq XOs XLS
def XYt:VFn:=⟨6,XzH,[.tmp 2]⟩
def XYm:VC:=.reg [oD 2 (.mv (.const (.int .i64 0)))]
def X3n:VC:=.reg [oD 3 (.alloc [(.int .i64 0)]),oN (.store 1 τ3 (.const (.int .i64 0)))]
def X7A:VC:=.reg [oM 5 τ0,oD 6 (.callF 104 [τ5])]
def Xzq:VC:=.reg [oM 4 τ7]
def XZp:VC:=.reg [oD 8 (.load1 (.int .i64) τ3),oM 9 τ4,oD 10 (.bin .add τ8 τ9),oD 11 (.callF 128 [Xcd]),oN (.store 1 τ3 Xb8)]
def XBx:VC:=.block 1 XZp
def X6L:VC:=.rangeF τ6 [7] Xzq XBx
def XUt:VC:=.block 0 X6L
def XYB:VC:=.seq X7A XUt
def XNG:VC:=.reg [oD 12 (.load1 (.int .i64) τ3),oM 2 XcZ]
def XuF:VC:=.seq XNG .ret
def XKW:VC:=.seq XYB XuF
def XIt:VC:=.seq X3n XKW
def XuL:VC:=.seq XYm XIt
def X22:VFn:=⟨13,XuL,[.tmp 2]⟩
def XZt:VC:=.reg [oD 1 (.box τ0),oM 2 (.const .nilFunc)]
def XXA:VC:=.reg [oD 3 (.mkFunc 126 [] [τ1]),oM 2 τ3]
def XP2:VC:=.seq XXA .ret
def XNL:VC:=.seq XZt XP2
def X6O:VFn:=⟨4,XNL,[.tmp 2]⟩
def XRu:VC:=.reg [oD 3 (.mv (.const (.int .i64 0)))]
def XZ7:VC:=.reg [oM 5 τ3,oD 6 (.load1 .str τ1),oD 7 (.lenS τ6),oD 8 (.bin .lss τ5 τ7)]
def XYy:VC:=.cond τ8 .skip (.exit 0)
def X4t:VC:=.seq XZ7 XYy
def XUm:VC:=.reg [oD 11 (.load1 .str τ1),oM 12 τ3,oD 13 (.idxS Xb8 XcZ),oD 14 (.conv .i64 Xc2),oD 15 (.bin .shl Xdo (.const (.int .u64 8))),oM 4 Xdl]
def XS4:VC:=.reg [oM 16 τ3,oD 17 (.bin .add Xdp (.const (.int .i64 1))),oD 18 (.load1 .str τ1),oD 19 (.lenS XdW),oD 20 (.bin .lss Xdm XdM)]
def XXM:VC:=.reg [oM 21 τ4,oD 22 (.load1 .str τ1),oM 23 τ3,oD 24 (.bin .add XeR (.const (.int .i64 1))),oD 25 (.idxS XeN Xex),oD 26 (.conv .i64 XeX),oD 27 (.bin .or Xei Xep),oM 4 XeT]
def X2h:VC:=.cond Xea XXM .skip
def XQ3:VC:=.seq XS4 X2h
def XYq:VC:=.reg [oM 28 τ0,oM 29 τ4,oD 30 (.callV XeO [Xe1]),oD 31 (.not Xfy)]
def XJH:VC:=.cond Xfw .ret .skip
def XHD:VC:=.seq XYq XJH
def XGa:VC:=.seq XQ3 XHD
def XKO:VC:=.seq XUm XGa
def XKc:VC:=.block 1 XKO
def XKl:VC:=.reg [oM 9 τ3,oD 10 (.bin .add τ9 (.const (.int .i64 2))),oM 3 Xcd]
def XGZ:VC:=.seq XKc XKl
def Xqk:VC:=.seq X4t XGZ
def XIW:VC:=.loop Xqk
def XHe:VC:=.block 0 XIW
def XGX:VC:=.seq XRu XHe
def XUJ:VFn:=⟨32,XGX,[]⟩
def XSV:VC:=.reg [oD 2 (.mv (.const (.int .i64 0)))]
def X3k:VC:=.reg [oM 3 τ0,oD 4 (.bin .gtr τ3 (.const (.int .i64 65535)))]
def X3i:VC:=.cond τ4 .skip (.exit 0)
def XN3:VC:=.seq X3k X3i
def XLC:VC:=.reg [oM 5 τ0,oD 6 (.bin .and τ5 (.const (.int .i64 65535))),oM 7 τ0,oD 8 (.bin .shr τ7 (.const (.int .u64 16))),oD 9 (.bin .add τ6 τ8),oM 0 τ9]
def XUP:VC:=.block 1 XLC
def Xuy:VC:=.seq XN3 XUP
def XSk:VC:=.loop Xuy
def XXE:VC:=.block 0 XSk
def XPR:VC:=.reg [oM 10 τ0,oM 2 Xcd]
def Xti:VC:=.seq XPR .ret
def XCd:VC:=.seq XXE Xti
def Xtq:VC:=.seq XSV XCd
def XWj:VFn:=⟨11,Xtq,[.tmp 2]⟩
def X7L:VC:=.reg [oD 1 (.box τ0),oD 2 (.alloc [(.bool false),(.int .u64 0),(.int .u64 0)])]
def X0C:VC:=.reg [oD 6 (.fieldA 0 τ1),oD 7 (.load1 .oth τ6),oD 8 (.callF 64 [τ7,(.const (.int .i64 4))]),oD 9 (.callF 135 [τ8]),oM 5 τ9,oE 10 0 τ5,oE 11 1 τ5,oD 3 (.alloc [(.bool false),(.int .u64 0),(.int .u64 0)]),oN (.store 3 τ3 Xcd),oM 4 Xb8]
def XQw:VC:=.reg [oD 12 (.loadN [.bool,(.int .u64),(.int .u64)] τ3),oN (.store 3 τ2 XcZ)]
def XXj:VC:=.seq XQw .ret
def XTN:VC:=.seq X0C XXj
def XBy:VC:=.seq X7L XTN
def XSd:VFn:=⟨13,XBy,[.cell 2 [.bool,(.int .u64),(.int .u64)] true]⟩
def XLY:VC:=.reg [oD 2 (.alloc [(.bool false),(.int .u64 0),(.int .u64 0)]),oD 3 (.mv (.const (.bool false)))]
def XPz:VC:=.reg [oM 7 τ0,oD 8 (.lenS τ7)]
def X6n:VC:=.reg [oD 10 (.bin .eql τ8 (.const (.int .i64 4))),oM 9 Xcd]
def XSR:VC:=.reg [oM 12 τ0,oD 13 (.callF 40 [XcZ,(.const (.int .i64 0)),(.const (.int .i64 4))]),oM 11 Xc2,oE 14 0 Xb8,oE 15 1 Xb8,oM 4 Xdo,oM 5 Xdl]
def X2p:VC:=.reg [oM 16 τ4,oD 17 (.build [(.bool false),(.int .u64 0),(.int .u64 0)] [(2,1,Xdp)]),oN (.store 3 τ2 Xdm),oD 3 (.mv (.const (.bool true)))]
def XYH:VC:=.seq X2p .ret
def XWf:VC:=.seq XSR XYH
def XNq:VC:=.reg [oD 19 (.bin .eql τ8 (.const (.int .i64 16))),oM 18 XdM]
def XOb:VC:=.reg [oD 20 (.build [(.bool false),(.int .u64 0),(.int .u64 0)] [(0,1,(.const (.bool true)))]),oD 6 (.alloc [(.bool false),(.int .u64 0),(.int .u64 0)]),oN (.store 3 τ6 Xea)]
def X7K:VC:=.reg [oM 22 τ0,oD 23 (.callF 40 [XeN,(.const (.int .i64 0)),(.const (.int .i64 8))]),oM 21 XeR,oE 24 0 Xei,oE 25 1 Xei,oD 26 (.fieldA 1 τ6),oN (.store 1 Xep Xex)]
def XEa:VC:=.reg [oM 28 τ0,oD 29 (.callF 40 [XeO,(.const (.int .i64 8)),(.const (.int .i64 8))]),oM 27 Xe1,oE 30 0 XeT,oE 31 1 XeT,oD 32 (.fieldA 2 τ6),oN (.store 1 XfC Xfy)]
def XJy:VC:=.reg [oD 33 (.loadN [.bool,(.int .u64),(.int .u64)] τ6),oN (.store 3 τ2 XfA),oD 3 (.mv (.const (.bool true)))]
def XEg:VC:=.seq XJy .ret
def XJc:VC:=.seq XEa XEg
def XCl:VC:=.seq X7K XJc
def XCb:VC:=.seq XOb XCl
def XCx:VC:=.cond XdW XCb .skip
def XC7:VC:=.seq XNq XCx
def XCu:VC:=.cond τ9 XWf XC7
def XFR:VC:=.seq X6n XCu
def XJL:VC:=.block 0 XFR
def XF6:VC:=.seq XPz XJL
def XD0:VC:=.reg [oD 34 (.build [(.bool false),(.int .u64 0),(.int .u64 0)] []),oN (.store 3 τ2 XfK),oD 3 (.mv (.const (.bool false)))]
def XFQ:VC:=.seq XD0 .ret
def XJd:VC:=.seq XF6 XFQ
def Xt5:VC:=.seq XLY XJd
def XU1:VFn:=⟨35,Xt5,[.cell 2 [.bool,(.int .u64),(.int .u64)] true,.tmp 3]⟩
def X7s:VC:=.reg [oD 2 (.alloc [(.int .i64 0),(.int .i64 0),(.int .i64 0),(.int .i64 0),(.bool false),(.int .u64 0),(.int .u64 0),(.bool false),(.int .u64 0),(.int .u64 0)]),oD 3 (.mv (.const (.string ⟨⟨[]⟩⟩))),oD 4 (.mv (.const (.int .i64 0)))]
def XMW:VC:=.reg [oM 12 τ0,oD 13 (.callF 61 [XcZ]),oM 5 Xc2]
def X2I:VC:=.reg [oM 14 τ5,oD 15 (.callF 62 [Xdo,(.const (.int .i64 4))]),oM 16 τ5,oD 17 (.callF 62 [Xdp,(.const (.int .i64 2))]),oM 6 Xdl,oM 7 Xdm]
def XO8:VC:=.reg [oM 18 τ6,oD 19 (.bin .shr XdW (.const (.int .u64 20))),oD 20 (.bin .and XdM (.const (.int .i64 255))),oM 21 τ6,oD 22 (.bin .and Xei (.const (.int .i64 1048575))),oM 23 τ5,oD 24 (.callF 62 [XeR,(.const (.int .i64 1))]),oM 25 τ5,oD 26 (.callF 62 [XeX,(.const (.int .i64 1))]),oD 27 (.build [(.int .i64 0),(.int .i64 0),(.int .i64 0),(.int .i64 0),(.bool false),(.int .u64 0),(.int .u64 0),(.bool false),(.int .u64 0),(.int .u64 0)] [(0,1,Xea),(1,1,XeN),(2,1,Xex),(3,1,Xep)]),oD 8 (.alloc [(.int .i64 0),(.int .i64 0),(.int .i64 0),(.int .i64 0),(.bool false),(.int .u64 0),(.int .u64 0),(.bool false),(.int .u64 0),(.int .u64 0)]),oN (.store 10 τ8 XeT)]
def X1i:VC:=.reg [oM 28 τ5,oD 29 (.callF 64 [XeO,(.const (.int .i64 16))]),oM 30 τ5,oD 31 (.callF 64 [Xfy,(.const (.int .i64 16))]),oM 9 Xe1,oM 10 Xfw]
def X2U:VC:=.reg [oM 32 τ5,oD 33 (.callF 63 [XfC])]
def XRr:VC:=.reg [oD 34 (.build [(.int .i64 0),(.int .i64 0),(.int .i64 0),(.int .i64 0),(.bool false),(.int .u64 0),(.int .u64 0),(.bool false),(.int .u64 0),(.int .u64 0)] []),oN (.store 10 τ2 XfK),oD 3 (.mv (.const (.string ⟨⟨[]⟩⟩))),oD 4 (.mv (.const (.int .i64 2)))]
def XYX:VC:=.seq XRr .ret
def XUQ:VC:=.cond XfA XYX .skip
def X69:VC:=.seq X2U XUQ
def XEZ:VC:=.reg [oM 35 τ6,oD 36 (.bin .shr XfU (.const (.int .u64 28))),oD 37 (.bin .neq XfV (.const (.int .i64 6)))]
def XEn:VC:=.reg [oD 38 (.build [(.int .i64 0),(.int .i64 0),(.int .i64 0),(.int .i64 0),(.bool false),(.int .u64 0),(.int .u64 0),(.bool false),(.int .u64 0),(.int .u64 0)] []),oN (.store 10 τ2 XgM),oD 3 (.mv (.const (.string ⟨⟨[]⟩⟩))),oD 4 (.mv (.const (.int .i64 3)))]
def XFC:VC:=.seq XEn .ret
def XCS:VC:=.cond XfB XFC .skip
def XE9:VC:=.seq XEZ XCS
def XDi:VC:=.reg [oM 40 τ9,oD 41 (.callF 135 [Xhu]),oM 39 Xhs,oE 42 0 XgK,oE 43 1 XgK,oD 44 (.fieldA 4 τ8),oN (.store 3 Xim Xht)]
def XI5:VC:=.reg [oM 46 Xcd,oD 47 (.callF 135 [Xin]),oM 45 XhS,oE 48 0 XhP,oE 49 1 XhP,oD 50 (.fieldA 7 τ8),oN (.store 3 XiR XiP)]
def XHa:VC:=.reg [oM 51 τ5,oM 52 τ7,oD 53 (.callF 64 [XiQ,XjN]),oM 11 XjO]
def XIE:VC:=.reg [oM 54 τ5,oD 55 (.callF 63 [XkV])]
def XDa:VC:=.reg [oD 56 (.build [(.int .i64 0),(.int .i64 0),(.int .i64 0),(.int .i64 0),(.bool false),(.int .u64 0),(.int .u64 0),(.bool false),(.int .u64 0),(.int .u64 0)] []),oN (.store 10 τ2 Xlp),oD 3 (.mv (.const (.string ⟨⟨[]⟩⟩))),oD 4 (.mv (.const (.int .i64 2)))]
def XKA:VC:=.seq XDa .ret
def XB5:VC:=.cond Xk3 XKA .skip
def XKN:VC:=.seq XIE XB5
def XH5:VC:=.reg [oD 57 (.loadN [(.int .i64),(.int .i64),(.int .i64),(.int .i64),.bool,(.int .u64),(.int .u64),.bool,(.int .u64),(.int .u64)] τ8),oM 58 Xb8,oN (.store 10 τ2 XkK),oM 3 XkW,oD 4 (.mv (.const (.int .i64 0)))]
def XGA:VC:=.seq XH5 .ret
def XGk:VC:=.seq XKN XGA
def XFX:VC:=.seq XHa XGk
def XDc:VC:=.seq XI5 XFX
def XDT:VC:=.seq XDi XDc
def XD1:VC:=.seq XE9 XDT
def XCT:VC:=.seq X69 XD1
def XEO:VC:=.seq X1i XCT
def XIZ:VC:=.seq XO8 XEO
def XFV:VC:=.seq X2I XIZ
def XCi:VC:=.seq XMW XFV
def Xtg:VC:=.seq X7s XCi
def XPO:VFn:=⟨59,Xtg,[.cell 2 [(.int .i64),(.int .i64),(.int .i64),(.int .i64),.bool,(.int .u64),(.int .u64),.bool,(.int .u64),(.int .u64)] true,.tmp 3,.tmp 4]⟩
def k72_0:VC:=.reg [oD 2 (.box τ0),oD 4 (.mv (.const (.int .i64 0))),oD 5 (.mv (.const (.int .i64 0)))]
def k72_1:VC:=.reg [oD 13 (.fieldA 7 τ2),oD 14 (.load1 .str Xc2),oD 15 (.fieldA 0 τ2),oD 16 (.loadN [.bool,(.int .u64),(.int .u64)] Xdl),oD 17 (.fieldA 3 τ2),oD 18 (.loadN [.bool,(.int .u64),(.int .u64)] Xdm),oD 19 (.callF 107 [Xdo,Xdp,XdW]),oM 12 XdM,oE 20 0 XcZ,oE 21 1 XcZ,oE 22 2 XcZ,oD 6 (.alloc [(.int .i64 0),(.int .i64 0),(.int .u32 0),(.int .u32 0),(.int .i64 0),(.int .i64 0),(.int .i64 0),(.string ⟨⟨[]⟩⟩)]),oN (.store 8 τ6 Xea),oM 7 Xei,oM 8 XeN]
def k72_2:VC:=.reg [oM 23 τ8,oD 24 (.bin .neq XeR (.const (.int .i64 0)))]
def k72_3:VC:=.reg [oM 25 τ8,oD 4 (.mv (.const (.int .i64 0))),oM 5 XeX]
def k72_4:VC:=.seq k72_3 .ret
def k72_5:VC:=.cond Xex k72_4 .skip
def k72_6:VC:=.seq k72_2 k72_5
def k72_7:VC:=.regD [oM 26 τ1,oM 27 τ1,oM 28 τ1,oD 29 (.fieldA 0 τ6),oD 30 (.load1 (.int .i64) Xe1),oD 31 (.fieldA 1 τ6),oD 32 (.load1 (.int .i64) Xfw),oD 33 (.fieldA 4 τ6),oD 34 (.load1 (.int .i64) XfA),oD 35 (.nilCheck Xep),oD 36 (.fieldA 0 XfU),oD 37 (.fieldA 7 XfV),oN (.store 1 XfB Xfy),oD 38 (.nilCheck XeT),oD 39 (.fieldA 0 XgM),oD 40 (.fieldA 8 XgK),oN (.store 1 Xhu XfC)] [(6,12),(8,12),(8,16)] [oD 41 (.nilCheck XeO),oD 42 (.fieldA 9 Xhs),oN (.store 1 Xht XfK)]
def k72_8:VC:=.reg [oD 44 (.fieldA 7 τ6),oD 45 (.load1 .str Xim),oD 46 (.callF 60 [XhP]),oM 43 Xin,oE 47 0 XhC,oE 48 1 XhC,oE 49 2 XhC,oM 9 XhS,oM 10 XiP,oM 11 XiO]
def k72_9:VC:=.reg [oM 50 Xb8,oD 51 (.bin .geq XiR (.const (.int .i64 0)))]
def X5p:VC:=.reg [oM 52 τ1,oM 53 τ1,oM 54 τ1,oM 55 τ9,oM 56 Xcd,oD 57 (.nilCheck XjN),oD 58 (.fieldA 10 XkK),oN (.store 1 XkW (.const (.bool true))),oD 59 (.nilCheck XjO),oD 60 (.fieldA 11 Xk8),oN (.store 1 Xl4 Xk3),oD 61 (.nilCheck XkV),oD 62 (.fieldA 12 Xl7),oN (.store 1 XmX Xlp)]
def XRb:VC:=.cond XiQ X5p .skip
def XLV:VC:=.seq k72_9 XRb
def XTj:VC:=.seq k72_8 XLV
def XVs:VC:=.reg [oM 63 τ7,oD 64 (.lenS Xow),oM 4 Xn3,oD 5 (.mv (.const (.int .i64 0)))]
def X6K:VC:=.seq XVs .ret
def XTz:VC:=.seq XTj X6K
def X14:VC:=.seq k72_7 XTz
def XYY:VC:=.seq k72_6 X14
def XRo:VC:=.seq k72_1 XYY
def Xz1:VC:=.seq k72_0 XRo
def fn72:VFn:=⟨65,Xz1,[.tmp 4,.tmp 5]⟩
def XQq:VC:=.reg [oD 4 (.box τ1),oD 5 (.box τ2),oD 6 (.alloc [(.int .i64 0),(.int .i64 0),(.int .u32 0),(.int .u32 0),(.int .i64 0),(.int .i64 0),(.int .i64 0),(.string ⟨⟨[]⟩⟩)]),oD 7 (.mv (.const (.string ⟨⟨[]⟩⟩))),oD 8 (.mv (.const (.int .i64 0)))]
def X56:VC:=.reg [oM 16 τ0,oD 17 (.lenS Xdp),oD 18 (.bin .lss Xdm (.const (.int .i64 20)))]
def X1v:VC:=.reg [oD 19 (.build [(.int .i64 0),(.int .i64 0),(.int .u32 0),(.int .u32 0),(.int .i64 0),(.int .i64 0),(.int .i64 0),(.string ⟨⟨[]⟩⟩)] []),oN (.store 8 τ6 XdM),oD 7 (.mv (.const (.string ⟨⟨[]⟩⟩))),oD 8 (.mv (.const (.int .i64 2)))]
def XQa:VC:=.seq X1v .ret
def X5L:VC:=.cond XdW XQa .skip
def X02:VC:=.seq X56 X5L
def XSW:VC:=.regD [oM 20 τ0,oD 21 (.idxS Xea (.const (.int .i64 12))),oD 22 (.bin .shr Xei (.const (.int .u64 4))),oD 23 (.conv .i64 XeN),oM 24 τ0,oD 25 (.idxS Xex (.const (.int .i64 12))),oD 26 (.bin .and XeX (.const (.int .u8 15))),oM 9 XeR] [] [oM 10 Xep]
def XUX:VC:=.reg [oM 27 τ9,oD 28 (.bin .mul (.const (.int .i64 4)) XeT),oM 11 XeO]
def XTK:VC:=.reg [oM 30 Xb8,oD 31 (.bin .lss Xfy (.const (.int .i64 20))),oM 32 Xfw,oG 33 (.mv Xcd) 32 false,oG 34 (.bin .neq XfA (.const (.int .u8 0))) 32 false,oD 35 (.pick XfC (.const (.bool true)) XfK),oM 29 XfU]
def XWD:VC:=.reg [oD 36 (.build [(.int .i64 0),(.int .i64 0),(.int .u32 0),(.int .u32 0),(.int .i64 0),(.int .i64 0),(.int .i64 0),(.string ⟨⟨[]⟩⟩)] []),oN (.store 8 τ6 XfV),oD 7 (.mv (.const (.string ⟨⟨[]⟩⟩))),oD 8 (.mv (.const (.int .i64 3)))]
def XDl:VC:=.seq XWD .ret
def XEM:VC:=.reg [oM 38 Xb8,oM 39 τ0,oD 40 (.lenS XgK),oD 41 (.bin .gtr XgM Xhu),oM 37 Xhs]
def XGD:VC:=.reg [oD 42 (.build [(.int .i64 0),(.int .i64 0),(.int .u32 0),(.int .u32 0),(.int .i64 0),(.int .i64 0),(.int .i64 0),(.string ⟨⟨[]⟩⟩)] []),oN (.store 8 τ6 Xht),oD 7 (.mv (.const (.string ⟨⟨[]⟩⟩))),oD 8 (.mv (.const (.int .i64 2)))]
def XHL:VC:=.seq XGD .ret
def XEh:VC:=.cond XfB XHL .skip
def XGQ:VC:=.seq XEM XEh
def XDI:VC:=.cond Xe1 XDl XGQ
def XFl:VC:=.seq XTK XDI
def XDU:VC:=.block 0 XFl
def XIf:VC:=.reg [oD 43 (.loadN [.bool,(.int .u64),(.int .u64)] τ4),oD 44 (.loadN [.bool,(.int .u64),(.int .u64)] τ5),oM 45 τ0,oD 46 (.lenS XhP),oD 47 (.callF 109 [XhC,Xim,(.const (.int .i64 6)),Xin]),oM 12 XhS]
def XJp:VC:=.reg [oM 49 XcZ,oD 50 (.bin .eql XiO (.const (.string ⟨⟨[]⟩⟩))),oM 48 XiR]
def XGo:VC:=.reg [oD 51 (.build [(.int .i64 0),(.int .i64 0),(.int .u32 0),(.int .u32 0),(.int .i64 0),(.int .i64 0),(.int .i64 0),(.string ⟨⟨[]⟩⟩)] []),oN (.store 8 τ6 XiQ),oD 7 (.mv (.const (.string ⟨⟨[]⟩⟩))),oD 8 (.mv (.const (.int .i64 1)))]
def XF9:VC:=.seq XGo .ret
def XFL:VC:=.reg [oM 53 XcZ,oM 54 τ0,oD 55 (.bin .add XjO XkV),oD 56 (.callF 131 [Xk3]),oD 57 (.not Xlp),oM 52 XkK]
def XK3:VC:=.reg [oD 58 (.build [(.int .i64 0),(.int .i64 0),(.int .u32 0),(.int .u32 0),(.int .i64 0),(.int .i64 0),(.int .i64 0),(.string ⟨⟨[]⟩⟩)] []),oN (.store 8 τ6 XkW),oD 7 (.mv (.const (.string ⟨⟨[]⟩⟩))),oD 8 (.mv (.const (.int .i64 4)))]
def XGc:VC:=.seq XK3 .ret
def XF4:VC:=.cond XjN XGc .skip
def XIc:VC:=.seq XFL XF4
def XKG:VC:=.cond XiP XF9 XIc
def XC0:VC:=.seq XJp XKG
def XKp:VC:=.block 1 XC0
def XI2:VC:=.reg [oM 59 τ0,oM 60 Xb8,oD 61 (.callF 132 [Xk8,Xl4]),oD 13 (.alloc [(.int .i64 0),(.int .i64 0),(.int .u32 0),(.int .u32 0),(.int .i64 0),(.int .i64 0),(.int .i64 0),(.string ⟨⟨[]⟩⟩)]),oN (.store 8 Xc2 Xl7)]
def XGz:VC:=.reg [oD 63 (.fieldA 7 Xc2),oD 64 (.load1 .str Xow),oD 65 (.callF 102 [Xn3]),oM 62 XoH,oE 66 0 XmX,oE 67 1 XmX,oM 14 Xo1,oM 15 XoE]
def XE2:VC:=.reg [oM 68 Xdl,oD 69 (.bin .neq XpF (.const (.int .i64 0)))]
def XD9:VC:=.reg [oD 70 (.build [(.int .i64 0),(.int .i64 0),(.int .u32 0),(.int .u32 0),(.int .i64 0),(.int .i64 0),(.int .i64 0),(.string ⟨⟨[]⟩⟩)] []),oM 71 Xdl,oN (.store 8 τ6 Xq8),oD 7 (.mv (.const (.string ⟨⟨[]⟩⟩))),oM 8 Xq3]
def XDQ:VC:=.seq XD9 .ret
def XDN:VC:=.cond Xpj XDQ .skip
def XE1:VC:=.seq XE2 XDN
def XEd:VC:=.seq XGz XE1
def XE0:VC:=.regD [oD 72 (.loadN [(.int .i64),(.int .i64),(.int .u32),(.int .u32),(.int .i64),(.int .i64),(.int .i64),.str] Xc2),oM 73 τ0,oM 74 Xb8,oD 75 (.sliceS Xr9 (some XtP) none),oN (.store 8 τ6 Xq1)] [] [oM 7 XtI,oD 8 (.mv (.const (.int .i64 0)))]
def XCJ:VC:=.seq XE0 .ret
def XJE:VC:=.seq XEd XCJ
def XEC:VC:=.seq XI2 XJE
def XEw:VC:=.seq XKp XEC
def XFi:VC:=.seq XIf XEw
def XJC:VC:=.seq XDU XFi
def XEQ:VC:=.seq XUX XJC
def XHu:VC:=.seq XSW XEQ
def XHh:VC:=.seq X02 XHu
def Xuz:VC:=.seq XQq XHh
def XQK:VFn:=⟨76,Xuz,[.cell 6 [(.int .i64),(.int .i64),(.int .u32),(.int .u32),(.int .i64),(.int .i64),(.int .i64),.str] true,.tmp 7,.tmp 8]⟩
def X4r:VC:=.reg [oD 4 (.box τ0),oD 5 (.box τ1),oD 8 (.mv (.const (.string ⟨⟨[]⟩⟩)))]
def XMi:VC:=.reg [oD 10 (.loadN [.bool,(.int .u64),(.int .u64)] τ4),oD 11 (.callF 113 [Xcd]),oD 12 (.not Xb8),oM 13 XcZ,oG 14 (.loadN [.bool,(.int .u64),(.int .u64)] τ5) 13 false,oG 15 (.callF 113 [Xdo]) 13 false,oG 16 (.not Xdl) 13 false,oD 17 (.pick Xc2 (.const (.bool true)) Xdp),oM 18 Xdm,oG 19 (.fieldA 0 τ4) 18 false,oG 20 (.load1 .bool XdM) 18 false,oG 21 (.fieldA 0 τ5) 18 false,oG 22 (.load1 .bool Xei) 18 false,oG 23 (.eqB true Xea XeN) 18 false,oD 24 (.pick XdW (.const (.bool true)) XeR)]
def XWT:VC:=.reg [oD 8 (.mv (.const (.string ⟨⟨[]⟩⟩)))]
def XZc:VC:=.seq XWT .ret
def XR6:VC:=.cond Xex XZc .skip
def XYv:VC:=.seq XMi XR6
def XRw:VC:=.regD [oD 25 (.loadN [.bool,(.int .u64),(.int .u64)] τ4),oD 26 (.callF 80 [XeX]),oD 27 (.loadN [.bool,(.int .u64),(.int .u64)] τ5)] [(1,2)] [oD 28 (.callF 80 [XeT]),oD 29 (.bin .add Xep XeO),oM 9 Xe1]
def X3E:VC:=.reg [oD 30 (.fieldA 0 τ4),oD 31 (.load1 .bool Xfy)]
def X1h:VC:=.reg [oM 32 τ9,oM 33 τ3,oM 34 τ2,oD 35 (.buildSl 6 1 [(.int .i64 0),(.int .i64 0),(.int .i64 0),(.int .i64 0),(.int .i64 0),(.int .i64 0)] [(0,1,XfA),(1,1,(.const (.int .i64 4))),(2,1,(.const (.int .i64 0))),(3,1,(.const (.int .i64 3))),(4,1,XfK),(5,1,(.const (.int .i64 1)))]),oD 36 (.callF 82 [XfU]),oD 37 (.bin .add XfC XfV),oM 8 XfB]
def X6A:VC:=.seq X1h .ret
def XDe:VC:=.cond Xfw X6A .skip
def XKn:VC:=.seq X3E XDe
def XLh:VC:=.reg [oM 38 τ9,oM 39 τ2,oM 40 τ3,oD 41 (.buildSl 6 1 [(.int .i64 0),(.int .i64 0),(.int .i64 0),(.int .i64 0),(.int .i64 0),(.int .i64 0)] [(0,1,(.const (.int .i64 0))),(1,1,(.const (.int .i64 1))),(2,1,XgK),(3,1,(.const (.int .i64 1))),(4,1,Xhu),(5,1,(.const (.int .i64 2)))]),oD 42 (.callF 82 [Xhs]),oD 43 (.bin .add XgM Xht),oM 8 XhC]
def XJl:VC:=.seq XLh .ret
def XGN:VC:=.seq XKn XJl
def XH4:VC:=.seq XRw XGN
def XG8:VC:=.seq XYv XH4
def Xvc:VC:=.seq X4r XG8
def XNI:VFn:=⟨44,Xvc,[.tmp 8]⟩
def X6a:VC:=.reg [oD 1 (.box τ0),oD 2 (.mv (.const (.bool false)))]
def XX7:VC:=.reg [oD 3 (.fieldA 0 τ1),oD 4 (.load1 .bool τ3),oM 5 τ4,oG 6 (.fieldA 1 τ1) 5 false,oG 7 (.load1 (.int .u64) τ6) 5 false,oG 8 (.bin .eql τ7 (.const (.int .u64 0))) 5 false,oG 9 (.mv τ8) 5 false,oG 10 (.fieldA 2 τ1) 9 true,oG 11 (.load1 (.int .u64) Xcd) 9 true,oG 12 (.bin .lss Xb8 (.const (.int .u64 4294967296))) 9 true,oG 13 (.pick τ9 XcZ (.const (.bool false))) 5 false,oD 14 (.pick τ5 (.const (.bool true)) Xc2),oM 2 Xdo]
def X5q:VC:=.seq XX7 .ret
def Xzm:VC:=.seq X6a X5q
def XR4:VFn:=⟨15,Xzm,[.tmp 2]⟩
def k80_0:VC:=.reg [oD 1 (.box τ0),oD 2 (.mv (.const (.string ⟨⟨[]⟩⟩)))]
def k80_1:VC:=.reg [oD 4 (.loadN [.bool,(.int .u64),(.int .u64)] τ1),oD 5 (.callF 113 [τ4]),oD 6 (.not τ5),oM 3 τ6]
def k80_2:VC:=.reg [oD 2 (.mv (.const (.string ⟨⟨[]⟩⟩)))]
def k80_3:VC:=.seq k80_2 .ret
def k80_4:VC:=.reg [oD 8 (.fieldA 0 τ1),oD 9 (.load1 .bool τ8),oM 7 τ9]
def k80_5:VC:=.regD [oD 10 (.fieldA 1 τ1),oD 11 (.load1 (.int .u64) Xcd),oD 12 (.callF 42 [Xb8,(.const (.int .i64 8))]),oD 13 (.fieldA 2 τ1),oD 14 (.load1 (.int .u64) Xc2)] [(2,4)] [oD 15 (.callF 42 [Xdo,(.const (.int .i64 8))]),oD 16 (.bin .add XcZ Xdl),oM 2 Xdp]
def k80_6:VC:=.seq k80_5 .ret
def k80_7:VC:=.cond τ7 k80_6 .skip
def k80_8:VC:=.seq k80_4 k80_7
def k80_9:VC:=.cond τ3 k80_3 k80_8
def XUz:VC:=.seq k80_1 k80_9
def XVN:VC:=.block 0 XUz
def X2a:VC:=.reg [oD 17 (.fieldA 2 τ1),oD 18 (.load1 (.int .u64) Xdm),oD 19 (.callF 42 [XdW,(.const (.int .i64 4))]),oM 2 XdM]
def XYh:VC:=.seq X2a .ret
def X2k:VC:=.seq XVN XYh
def XAM:VC:=.seq k80_0 X2k
def fn80:VFn:=⟨20,XAM,[.tmp 2]⟩
def k42_0:VC:=.reg [oD 4 (.mv (.const (.string ⟨⟨[]⟩⟩)))]
def k42_1:VC:=.reg [oM 7 τ1,oD 8 (.bin .lss τ7 (.const (.int .i64 1))),oM 9 τ8,oG 10 (.mv τ1) 9 false,oG 11 (.bin .gtr Xcd (.const (.int .i64 8))) 9 false,oD 12 (.pick τ9 (.const (.bool true)) Xb8)]
def k42_2:VC:=.reg [oD 4 (.mv (.const (.string ⟨⟨[]⟩⟩)))]
def k42_3:VC:=.seq k42_2 .ret
def k42_4:VC:=.cond XcZ k42_3 .skip
def k42_5:VC:=.seq k42_1 k42_4
def k42_6:VC:=.reg [oM 13 τ1,oD 14 (.mkSl 1 1 [(.int .u8 0)] Xc2 Xc2),oM 5 Xdo]
def k42_7:VC:=.reg [oM 15 τ5,oD 16 (.lenL Xdl),oD 17 (.mv (.const (.int .i64 0)))]
def k42_8:VC:=.reg [oD 18 (.bin .lss Xdm Xdp)]
def k42_9:VC:=.cond XdW .skip (.exit 0)
def X3U:VC:=.reg [oM 19 Xdm,oM 6 XdM]
def X0z:VC:=.reg [oM 20 τ5,oM 21 τ6,oM 22 τ0,oM 23 τ1,oD 24 (.bin .sub XeR (.const (.int .i64 1))),oM 25 τ6,oD 26 (.bin .sub Xex XeX),oD 27 (.bin .mul (.const (.int .i64 8)) Xep),oD 28 (.bin .shr XeN XeT),oD 29 (.conv .u8 XeO),oD 30 (.idxAL 1 Xea Xei),oN (.store 1 Xfy Xe1)]
def XS2:VC:=.seq X3U X0z
def XZK:VC:=.block 1 XS2
def XQF:VC:=.reg [oD 31 (.bin .add Xdm (.const (.int .i64 1))),oM 17 Xfw]
def X0X:VC:=.seq XZK XQF
def XNi:VC:=.seq k42_9 X0X
def Xtd:VC:=.seq k42_8 XNi
def XLG:VC:=.loop Xtd
def X7F:VC:=.block 0 XLG
def XTn:VC:=.seq k42_7 X7F
def XT7:VC:=.reg [oM 32 τ5,oD 33 (.b2s XfC),oM 4 XfA]
def XAz:VC:=.seq XT7 .ret
def XLX:VC:=.seq XTn XAz
def XOM:VC:=.seq k42_6 XLX
def XMr:VC:=.seq k42_5 XOM
def XBd:VC:=.seq k42_0 XMr
def fn42:VFn:=⟨34,XBd,[.tmp 4]⟩
def k82_0:VC:=.reg [oD 2 (.mv (.const (.string ⟨⟨[]⟩⟩)))]
def k82_1:VC:=.reg [oD 3 (.allocB 184 5)]
def k82_2:VC:=.reg [oD 4 (.mv (.const (.int .i64 0)))]
def k82_3:VC:=.reg [oM 5 τ4,oD 6 (.bin .add τ5 (.const (.int .i64 1))),oM 7 τ0,oD 8 (.lenL τ7),oD 9 (.bin .lss τ6 τ8)]
def k82_4:VC:=.cond τ9 .skip (.exit 0)
def k82_5:VC:=.seq k82_3 k82_4
def k82_6:VC:=.regD [oM 12 τ0,oM 13 τ4,oD 14 (.idxAL 1 XcZ Xc2),oD 15 (.load1 (.int .i64) Xdo),oD 16 (.conv .u64 Xdl),oM 17 τ0,oM 18 τ4,oD 19 (.bin .add XdW (.const (.int .i64 1))),oD 20 (.idxAL 1 Xdm XdM),oD 21 (.load1 (.int .i64) Xea)] [] [oD 22 (.callF 42 [Xdp,Xei]),oD 23 (.callF 116 [τ3,XeN])]
def k82_7:VC:=.block 1 k82_6
def k82_8:VC:=.reg [oM 10 τ4,oD 11 (.bin .add Xcd (.const (.int .i64 2))),oM 4 Xb8]
def k82_9:VC:=.seq k82_7 k82_8
def Xu6:VC:=.seq k82_5 k82_9
def X2s:VC:=.loop Xu6
def X2W:VC:=.block 0 X2s
def XNP:VC:=.seq k82_2 X2W
def X1S:VC:=.reg [oD 24 (.callF 117 [τ3]),oM 2 Xex]
def Xzt:VC:=.seq X1S .ret
def XL6:VC:=.seq XNP Xzt
def XYW:VC:=.seq k82_1 XL6
def XBl:VC:=.seq k82_0 XYW
def fn82:VFn:=⟨25,XBl,[.tmp 2]⟩
def XVJ:VC:=.reg [oD 4 (.mv (.const (.int .i64 0))),oM 5 (.const .nilIface)]
def XQv:VC:=.reg [oM 6 τ0,oD 7 (.callF 133 [τ6])]
def XXR:VC:=.reg [oM 8 τ0,oM 9 τ0,oD 10 (.nilCheck τ9),oD 11 (.fieldA 1 Xcd),oD 12 (.load1 .oth Xb8),oM 13 τ1,oD 14 (.app 5 1 1 XcZ Xc2),oD 15 (.nilCheck τ8),oD 16 (.fieldA 1 Xdl),oN (.store 1 Xdp Xdo)]
def XVw:VC:=.reg [oM 17 τ1,oD 18 (.lenS Xdm),oM 4 XdW,oM 5 (.const .nilIface)]
def XM4:VC:=.seq XVw .ret
def XUj:VC:=.seq XXR XM4
def X7q:VC:=.seq XQv XUj
def XOq:VC:=.seq XVJ X7q
def XU0:VFn:=⟨19,XOq,[.tmp 4,.tmp 5]⟩
def XQn:VC:=.reg [oM 2 τ0,oD 3 (.nilCheck τ2),oD 4 (.fieldA 0 τ3),oD 5 (.load1 .oth τ4),oD 6 (.isNil 0 false τ5)]
def X1E:VC:=.reg [oM 7 τ0,oM 8 τ0,oD 9 (.toU τ8),oM 10 τ9,oD 11 (.ofU 184 2 Xcd),oD 12 (.nilCheck τ7),oD 13 (.fieldA 0 XcZ),oN (.store 1 Xc2 Xb8)]
def XMQ:VC:=.reg [oM 14 τ0,oD 15 (.nilCheck Xdo),oD 16 (.fieldA 0 Xdl),oD 17 (.load1 .oth Xdp),oM 18 τ0,oD 19 (.eqP true Xdm XdW)]
def X6V:VC:=.cond XdM .stuck .skip
def X1l:VC:=.seq XMQ X6V
def XVn:VC:=.cond τ6 X1E X1l
def X4p:VC:=.seq XQn XVn
def XTx:VFn:=⟨20,X4p,[]⟩
def X5K:VC:=.reg [oD 2 (.mv (.const (.string ⟨⟨[]⟩⟩)))]
def XRv:VC:=.regD [oM 3 τ0,oD 4 (.nilCheck τ3),oD 5 (.fieldA 1 τ4),oD 6 (.load1 .oth τ5),oD 7 (.sdata τ6),oM 8 τ0,oD 9 (.nilCheck τ8),oD 10 (.fieldA 1 τ9),oD 11 (.load1 .oth Xcd),oD 12 (.lenL Xb8)] [] [oD 13 (.ustr 5 τ7 XcZ),oM 2 Xc2]
def X0q:VC:=.seq XRv .ret
def X5s:VC:=.seq X5K X0q
def X0h:VFn:=⟨14,X5s,[.tmp 2]⟩
def XT4:VC:=.reg [oD 4 (.alloc [(.int .i64 0),(.int .i64 0),(.int .u32 0),(.int .u32 0),(.int .i64 0),(.int .i64 0),(.int .i64 0),(.string ⟨⟨[]⟩⟩)])]
def XWm:VC:=.reg [oM 7 τ0,oD 8 (.callF 61 [τ7]),oM 5 τ8]
def XRM:VC:=.reg [oM 9 τ5,oD 10 (.callF 62 [τ9,(.const (.int .i64 2))]),oM 11 τ5,oD 12 (.callF 62 [Xb8,(.const (.int .i64 2))]),oM 13 τ5,oD 14 (.callF 62 [Xc2,(.const (.int .i64 4))]),oD 15 (.conv .u32 Xdo),oM 16 τ5,oD 17 (.callF 62 [Xdp,(.const (.int .i64 4))]),oD 18 (.conv .u32 Xdm),oD 19 (.build [(.int .i64 0),(.int .i64 0),(.int .u32 0),(.int .u32 0),(.int .i64 0),(.int .i64 0),(.int .i64 0),(.string ⟨⟨[]⟩⟩)] [(0,1,Xcd),(1,1,XcZ),(2,1,Xdl),(3,1,XdW)]),oD 6 (.alloc [(.int .i64 0),(.int .i64 0),(.int .u32 0),(.int .u32 0),(.int .i64 0),(.int .i64 0),(.int .i64 0),(.string ⟨⟨[]⟩⟩)]),oN (.store 8 τ6 XdM)]
def XQl:VC:=.reg [oM 20 τ5,oD 21 (.callF 62 [Xea,(.const (.int .i64 2))]),oD 22 (.bin .and Xei (.const (.int .i64 255))),oD 23 (.fieldA 4 τ6),oN (.store 1 XeR XeN)]
def XOW:VC:=.reg [oM 24 τ5,oD 25 (.callF 62 [Xex,(.const (.int .i64 2))]),oD 26 (.fieldA 5 τ6),oN (.store 1 Xep XeX)]
def X1M:VC:=.reg [oM 27 τ5,oD 28 (.callF 62 [XeT,(.const (.int .i64 2))])]
def XXB:VC:=.reg [oM 29 τ5,oD 30 (.callF 62 [Xe1,(.const (.int .i64 2))]),oD 31 (.fieldA 6 τ6),oN (.store 1 Xfw Xfy)]
def XU6:VC:=.reg [oM 32 τ5,oM 33 τ1,oD 34 (.bin .sub XfA (.const (.int .i64 20))),oD 35 (.callF 64 [XfC,XfK]),oD 36 (.fieldA 7 τ6),oN (.store 1 XfV XfU)]
def XM9:VC:=.reg [oD 37 (.loadN [(.int .i64),(.int .i64),(.int .u32),(.int .u32),(.int .i64),(.int .i64),(.int .i64),.str] τ6),oN (.store 8 τ4 XfB)]
def X2Z:VC:=.seq XM9 .ret
def XJD:VC:=.seq XU6 X2Z
def XCK:VC:=.seq XXB XJD
def XIl:VC:=.seq X1M XCK
def XCc:VC:=.seq XOW XIl
def XDk:VC:=.seq XQl XCc
def XJB:VC:=.seq XRM XDk
def XGW:VC:=.seq XWm XJB
def XuD:VC:=.seq XT4 XGW
def XZu:VFn:=⟨38,XuD,[.cell 4 [(.int .i64),(.int .i64),(.int .u32),(.int .u32),(.int .i64),(.int .i64),(.int .i64),.str] true]⟩
def X4k:VC:=.reg [oD 2 (.alloc [(.slice none 0 0)]),oD 3 (.alloc [(.int .i64 0)])]
def XRx:VC:=.reg [oD 4 (.alloc [(.slice none 0 0)])]
def XPu:VC:=.reg [oM 6 τ0,oD 7 (.callF 103 [τ6])]
def Xzc:VC:=.reg [oD 5 (.alloc [(.int .i64 0),(.string ⟨⟨[]⟩⟩),(.int .i64 0)]),oN (.store 3 τ5 τ8)]
def XZd:VC:=.reg [oD 9 (.fieldA 2 τ5),oD 10 (.load1 (.int .i64) τ9),oD 11 (.bin .lss Xcd (.const (.int .i64 0)))]
def XXK:VC:=.reg [oN (.store 1 τ2 (.const (.slice none 0 0))),oN (.store 1 τ3 (.const (.int .i64 3)))]
def XO1:VC:=.seq XXK .ret
def XOx:VC:=.cond Xb8 XO1 .skip
def X5Y:VC:=.seq XZd XOx
def XPD:VC:=.reg [oD 12 (.load1 .oth τ4),oD 13 (.fieldA 0 τ5),oD 14 (.loadN [(.int .i64),.str] Xc2),oD 15 (.buildSl 1 2 [(.int .i64 0),(.string ⟨⟨[]⟩⟩)] [(0,2,Xdo)]),oD 16 (.app 161 2 24 XcZ Xdl),oN (.store 1 τ4 Xdp)]
def XKz:VC:=.seq X5Y XPD
def Xvw:VC:=.block 1 XKz
def XEr:VC:=.rangeF τ7 [8] Xzc Xvw
def XKL:VC:=.block 0 XEr
def XGw:VC:=.seq XPu XKL
def XHg:VC:=.reg [oD 17 (.load1 .oth τ4),oN (.store 1 τ2 Xdm),oN (.store 1 τ3 (.const (.int .i64 0)))]
def Xtl:VC:=.seq XHg .ret
def XE7:VC:=.seq XGw Xtl
def XJa:VC:=.seq XRx XE7
def Xt9:VC:=.seq X4k XJa
def X1j:VFn:=⟨18,Xt9,[.cell 2 [.oth] false,.cell 3 [(.int .i64)] false]⟩
def XSD:VC:=.reg [oD 1 (.box τ0),oM 2 (.const .nilFunc)]
def XUe:VC:=.reg [oD 3 (.mkFunc 125 [] [τ1]),oM 2 τ3]
def XMH:VC:=.seq XUe .ret
def XPK:VC:=.seq XSD XMH
def XRS:VFn:=⟨4,XPK,[.tmp 2]⟩
def XPH:VC:=.reg [oD 3 (.mv (.const (.int .i64 0)))]
def XV4:VC:=.reg [oM 5 τ3,oD 6 (.load1 .str τ1),oD 7 (.lenS τ6),oD 8 (.bin .lss τ5 τ7)]
def XOe:VC:=.cond τ8 .skip (.exit 0)
def XTp:VC:=.seq XV4 XOe
def XVM:VC:=.reg [oD 9 (.load1 .str τ1),oM 10 τ3,oD 11 (.idxS τ9 Xcd)]
def X5A:VC:=.reg [oD 13 (.bin .eql Xb8 (.const (.int .u8 0))),oM 12 Xc2]
def XY1:VC:=.reg [oD 15 (.bin .eql Xb8 (.const (.int .u8 1))),oM 14 Xdl]
def XVK:VC:=.reg [oM 16 τ3,oD 17 (.bin .add Xdp (.const (.int .i64 1))),oM 3 Xdm]
def XXJ:VC:=.seq XVK (.exit 1)
def XXs:VC:=.cond Xdo XXJ .skip
def XEI:VC:=.seq XY1 XXs
def XDE:VC:=.cond XcZ .ret XEI
def XE4:VC:=.seq X5A XDE
def XCU:VC:=.block 2 XE4
def XB8:VC:=.seq XVM XCU
def XKa:VC:=.reg [oD 4 (.mv (.const (.int .i64 0)))]
def XGE:VC:=.reg [oM 18 τ3,oD 19 (.bin .add XdW (.const (.int .i64 1))),oD 20 (.load1 .str τ1),oD 21 (.lenS Xea),oD 22 (.bin .lss XdM Xei)]
def XJ1:VC:=.reg [oD 23 (.load1 .str τ1),oM 24 τ3,oD 25 (.bin .add Xex (.const (.int .i64 1))),oD 26 (.idxS XeR XeX),oD 27 (.conv .i64 Xep),oM 4 XeT]
def XFW:VC:=.cond XeN XJ1 .skip
def XHs:VC:=.seq XGE XFW
def XCp:VC:=.reg [oM 28 τ4,oD 29 (.bin .lss XeO (.const (.int .i64 2))),oM 30 Xe1,oG 31 (.mv τ4) 30 false,oG 32 (.load1 .str τ1) 30 false,oG 33 (.lenS XfC) 30 false,oG 34 (.mv τ3) 30 false,oG 35 (.bin .sub XfA XfK) 30 false,oG 36 (.bin .gtr Xfw XfU) 30 false,oD 37 (.pick Xfy (.const (.bool true)) XfV)]
def XIi:VC:=.reg [oM 38 τ0,oD 39 (.build [(.int .i64 0),(.string ⟨⟨[]⟩⟩),(.int .i64 0)] [(2,1,(.const (.int .i64 (-1))))]),oD 40 (.callV XgM [XgK])]
def XFy:VC:=.seq XIi .ret
def XHW:VC:=.cond XfB XFy .skip
def XCm:VC:=.seq XCp XHW
def XH8:VC:=.regD [oM 41 τ0,oD 42 (.load1 .str τ1),oM 43 τ3,oD 44 (.idxS Xht XhC),oD 45 (.conv .i64 Xim),oD 46 (.load1 .str τ1),oM 47 τ3,oD 48 (.bin .add XhS (.const (.int .i64 2))),oM 49 τ3,oM 50 τ4,oD 51 (.bin .add XiO XiR),oD 52 (.sliceS Xin (some XiP) (some XiQ)),oD 53 (.build [(.int .i64 0),(.string ⟨⟨[]⟩⟩)] [(0,1,XhP),(1,1,XjN)]),oM 54 τ3,oD 55 (.bin .add XkV (.const (.int .i64 2))),oD 56 (.build [(.int .i64 0),(.string ⟨⟨[]⟩⟩),(.int .i64 0)] [(0,2,XjO),(2,1,Xk3)])] [] [oD 57 (.callV Xhs [Xlp]),oD 58 (.not XkK)]
def XCE:VC:=.cond XkW .ret .skip
def XG2:VC:=.seq XH8 XCE
def XJj:VC:=.reg [oM 59 τ3,oM 60 τ4,oD 61 (.bin .add Xk8 Xl4),oM 3 Xl7]
def XKo:VC:=.seq XG2 XJj
def XIH:VC:=.seq XCm XKo
def XDO:VC:=.seq XHs XIH
def XB7:VC:=.seq XKa XDO
def XCX:VC:=.seq XB8 XB7
def XJk:VC:=.block 1 XCX
def Xmo:VC:=.seq XTp XJk
def XHU:VC:=.loop Xmo
def XCt:VC:=.block 0 XHU
def XJ9:VC:=.seq XPH XCt
def XQk:VFn:=⟨62,XJ9,[]⟩
def k60_0:VC:=.reg [oD 2 (.alloc [(.int .u32 0)]),oD 3 (.alloc [(.int .u32 0)]),oD 4 (.alloc [(.int .i64 0)])]
def k60_1:VC:=.reg [oM 11 τ0,oD 12 (.callF 102 [Xb8]),oM 10 XcZ,oE 13 0 Xcd,oE 14 1 Xcd,oM 5 Xc2,oM 6 Xdo]
def k60_2:VC:=.reg [oM 15 τ6,oD 16 (.bin .neq Xdl (.const (.int .i64 0)))]
def k60_3:VC:=.reg [oN (.store 1 τ2 (.const (.int .u32 0))),oN (.store 1 τ3 (.const (.int .u32 0))),oN (.store 1 τ4 (.const (.int .i64 (-1))))]
def k60_4:VC:=.seq k60_3 .ret
def k60_5:VC:=.cond Xdp k60_4 .skip
def k60_6:VC:=.seq k60_2 k60_5
def k60_7:VC:=.seq k60_1 k60_6
def k60_8:VC:=.reg [oM 17 τ0,oD 18 (.callF 103 [Xdm])]
def XPF:VC:=.reg [oD 7 (.alloc [(.int .i64 0),(.string ⟨⟨[]⟩⟩),(.int .i64 0)]),oN (.store 3 τ7 XdM)]
def X63:VC:=.reg [oD 20 (.fieldA 0 τ7),oD 21 (.fieldA 0 Xea),oD 22 (.load1 (.int .i64) Xei),oD 23 (.bin .neq XeN (.const (.int .i64 8)))]
def X2Q:VC:=.cond XeR (.exit 1) .skip
def X2b:VC:=.seq X63 X2Q
def XUA:VC:=.reg [oD 25 (.fieldA 0 τ7),oD 26 (.fieldA 1 XeX),oD 27 (.load1 .str Xep),oD 28 (.callF 40 [XeT,(.const (.int .i64 0)),(.const (.int .i64 8))]),oM 24 XeO,oE 29 0 Xex,oE 30 1 Xex,oM 8 Xe1,oM 9 Xfy]
def X7H:VC:=.reg [oM 31 τ9,oM 32 Xfw,oG 33 (.fieldA 0 τ7) 32 true,oG 34 (.fieldA 1 XfA) 32 true,oG 35 (.load1 .str XfK) 32 true,oG 36 (.lenS XfU) 32 true,oG 37 (.bin .eql XfV (.const (.int .i64 8))) 32 true,oD 38 (.pick XfC XfB (.const (.bool false)))]
def X1J:VC:=.regD [oM 39 τ8,oD 40 (.bin .shr XgK (.const (.int .u64 32))),oD 41 (.conv .u32 Xhu),oM 42 τ8,oD 43 (.conv .u32 Xht),oD 44 (.fieldA 2 τ7),oD 45 (.load1 (.int .i64) Xim),oN (.store 1 τ2 Xhs),oN (.store 1 τ3 XhC)] [(6,7),(6,8)] [oN (.store 1 τ4 XhP)]
def X0l:VC:=.seq X1J .ret
def X41:VC:=.cond XgM X0l .skip
def XXF:VC:=.seq X7H X41
def XYI:VC:=.seq XUA XXF
def XMd:VC:=.seq XYI (.exit 0)
def XOt:VC:=.seq X2b XMd
def XAn:VC:=.block 1 XOt
def X0a:VC:=.rangeF XdW [19] XPF XAn
def X62:VC:=.block 0 X0a
def XXa:VC:=.seq k60_8 X62
def XSC:VC:=.reg [oN (.store 1 τ2 (.const (.int .u32 0))),oN (.store 1 τ3 (.const (.int .u32 0))),oN (.store 1 τ4 (.const (.int .i64 (-1))))]
def Xz2:VC:=.seq XSC .ret
def X5M:VC:=.seq XXa Xz2
def XQS:VC:=.seq k60_7 X5M
def XAY:VC:=.seq k60_0 XQS
def fn60:VFn:=⟨46,XAY,[.cell 2 [(.int .u32)] false,.cell 3 [(.int .u32)] false,.cell 4 [(.int .i64)] false]⟩
def k73_0:VC:=.reg [oD 2 (.box τ0),oD 4 (.mv (.const (.int .i64 0))),oD 5 (.mv (.const (.int .i64 0)))]
def k73_1:VC:=.reg [oD 12 (.fieldA 7 τ2),oD 13 (.load1 .str XcZ),oD 14 (.fieldA 0 τ2),oD 15 (.loadN [.bool,(.int .u64),(.int .u64)] Xdo),oD 16 (.fieldA 3 τ2),oD 17 (.loadN [.bool,(.int .u64),(.int .u64)] Xdp),oD 18 (.callF 108 [Xc2,Xdl,Xdm]),oM 11 XdW,oE 19 0 Xb8,oE 20 1 Xb8,oE 21 2 Xb8,oD 6 (.alloc [(.int .i64 0),(.int .i64 0)]),oN (.store 2 τ6 XdM),oM 7 Xea,oM 8 Xei]
def k73_2:VC:=.reg [oM 23 τ8,oD 24 (.bin .neq XeR (.const (.int .i64 0))),oM 22 Xex]
def k73_3:VC:=.reg [oM 25 τ8,oD 4 (.mv (.const (.int .i64 0))),oM 5 XeX]
def k73_4:VC:=.seq k73_3 .ret
def k73_5:VC:=.reg [oM 27 τ7,oD 28 (.lenS XeT),oD 29 (.fieldA 7 τ2),oD 30 (.load1 .str Xe1),oD 31 (.lenS Xfy),oD 32 (.bin .sub Xfw (.const (.int .i64 8))),oD 33 (.bin .neq XeO XfC),oM 26 XfA]
def k73_6:VC:=.reg [oD 4 (.mv (.const (.int .i64 0))),oD 5 (.mv (.const (.int .i64 5)))]
def k73_7:VC:=.seq k73_6 .ret
def k73_8:VC:=.cond Xep k73_7 .skip
def k73_9:VC:=.seq k73_5 k73_8
def XWU:VC:=.cond XeN k73_4 k73_9
def X0s:VC:=.seq k73_2 XWU
def XWr:VC:=.block 0 X0s
def XNp:VC:=.regD [oM 34 τ1,oM 35 τ1,oD 36 (.fieldA 0 τ6),oD 37 (.load1 (.int .i64) XfV),oD 38 (.fieldA 1 τ6),oD 39 (.load1 (.int .i64) XgM),oD 40 (.nilCheck XfK),oD 41 (.fieldA 0 Xhu),oD 42 (.fieldA 7 Xhs),oN (.store 1 Xht XfB)] [(5,9)] [oD 43 (.nilCheck XfU),oD 44 (.fieldA 0 XhC),oD 45 (.fieldA 8 Xim),oN (.store 1 XhP XgK)]
def X2D:VC:=.reg [oM 47 τ7,oD 48 (.callF 39 [XhS]),oM 46 XiP,oE 49 0 Xin,oE 50 1 Xin,oD 9 (.alloc [(.bool false),(.int .i64 0),(.int .u32 0),(.string ⟨⟨[]⟩⟩),(.string ⟨⟨[]⟩⟩),(.string ⟨⟨[]⟩⟩)]),oN (.store 6 τ9 XiO),oM 10 XiR]
def XWs:VC:=.reg [oM 51 Xcd,oD 52 (.bin .eql XiQ (.const (.int .i64 0)))]
def XQ9:VC:=.regD [oM 53 τ1,oM 54 τ1,oD 55 (.fieldA 0 τ9),oD 56 (.load1 .bool Xk3),oD 57 (.fieldA 3 τ9),oD 58 (.load1 .str XkK),oD 59 (.nilCheck XjO),oD 60 (.fieldA 13 Xk8),oN (.store 1 Xl4 Xlp)] [(5,8)] [oD 61 (.nilCheck XkV),oD 62 (.fieldA 14 Xl7),oN (.store 1 XmX XkW)]
def XRd:VC:=.cond XjN XQ9 .skip
def X5X:VC:=.seq XWs XRd
def XVj:VC:=.seq X2D X5X
def XWz:VC:=.reg [oM 63 τ7,oD 64 (.lenS Xow),oM 4 Xn3,oD 5 (.mv (.const (.int .i64 0)))]
def X1x:VC:=.seq XWz .ret
def X2B:VC:=.seq XVj X1x
def X3Z:VC:=.seq XNp X2B
def X3B:VC:=.seq XWr X3Z
def X5r:VC:=.seq k73_1 X3B
def XAH:VC:=.seq k73_0 X5r
def fn73:VFn:=⟨65,XAH,[.tmp 4,.tmp 5]⟩
def X0Z:VC:=.reg [oD 4 (.box τ1),oD 5 (.box τ2),oD 6 (.alloc [(.int .i64 0),(.int .i64 0)]),oD 7 (.mv (.const (.string ⟨⟨[]⟩⟩))),oD 8 (.mv (.const (.int .i64 0)))]
def XQC:VC:=.reg [oM 14 τ0,oD 15 (.callF 61 [Xdo]),oM 9 Xdl]
def X12:VC:=.reg [oM 16 τ9,oD 17 (.callF 62 [Xdp,(.const (.int .i64 2))]),oM 18 τ9,oD 19 (.callF 62 [XdW,(.const (.int .i64 2))]),oD 20 (.build [(.int .i64 0),(.int .i64 0)] [(0,1,Xdm),(1,1,XdM)]),oD 10 (.alloc [(.int .i64 0),(.int .i64 0)]),oN (.store 2 Xcd Xea)]
def XMJ:VC:=.reg [oM 21 τ9,oD 22 (.callF 62 [Xei,(.const (.int .i64 2))]),oM 23 τ9,oD 24 (.callF 62 [XeR,(.const (.int .i64 2))]),oM 11 XeN,oM 12 Xex]
def XV0:VC:=.reg [oM 26 τ9,oD 27 (.callF 63 [Xep]),oM 25 XeT]
def X4S:VC:=.reg [oD 28 (.build [(.int .i64 0),(.int .i64 0)] []),oN (.store 2 τ6 XeO),oD 7 (.mv (.const (.string ⟨⟨[]⟩⟩))),oD 8 (.mv (.const (.int .i64 2)))]
def XYM:VC:=.seq X4S .ret
def XYi:VC:=.reg [oM 30 Xb8,oD 31 (.bin .lss Xfy (.const (.int .i64 8))),oM 29 Xfw]
def X6M:VC:=.reg [oD 32 (.build [(.int .i64 0),(.int .i64 0)] []),oN (.store 2 τ6 XfC),oD 7 (.mv (.const (.string ⟨⟨[]⟩⟩))),oD 8 (.mv (.const (.int .i64 3)))]
def XTR:VC:=.seq X6M .ret
def XDJ:VC:=.reg [oM 34 Xb8,oM 35 τ0,oD 36 (.lenS XfU),oD 37 (.bin .gtr XfK XfV),oM 33 XfB]
def XJ2:VC:=.reg [oD 38 (.build [(.int .i64 0),(.int .i64 0)] []),oN (.store 2 τ6 XgM),oD 7 (.mv (.const (.string ⟨⟨[]⟩⟩))),oD 8 (.mv (.const (.int .i64 2)))]
def XHN:VC:=.seq XJ2 .ret
def XEX:VC:=.cond XfA XHN .skip
def XJY:VC:=.seq XDJ XEX
def XJw:VC:=.cond Xe1 XTR XJY
def XKH:VC:=.seq XYi XJw
def XKJ:VC:=.cond XeX XYM XKH
def XIL:VC:=.seq XV0 XKJ
def XEu:VC:=.block 0 XIL
def XK1:VC:=.reg [oD 39 (.loadN [.bool,(.int .u64),(.int .u64)] τ4),oD 40 (.loadN [.bool,(.int .u64),(.int .u64)] τ5),oM 41 Xb8,oD 42 (.callF 109 [XgK,Xhu,(.const (.int .i64 17)),Xhs]),oM 13 Xht]
def XC9:VC:=.reg [oM 44 Xc2,oD 45 (.bin .eql Xim (.const (.string ⟨⟨[]⟩⟩))),oM 43 XhP]
def XJe:VC:=.reg [oD 46 (.build [(.int .i64 0),(.int .i64 0)] []),oN (.store 2 τ6 Xin),oD 7 (.mv (.const (.string ⟨⟨[]⟩⟩))),oD 8 (.mv (.const (.int .i64 1)))]
def XIX:VC:=.seq XJe .ret
def XC6:VC:=.reg [oM 48 XcZ,oD 49 (.bin .eql XiP (.const (.int .i64 0))),oM 50 XiO,oG 51 (.fieldA 0 τ4) 50 true,oG 52 (.load1 .bool XiQ) 50 true,oD 53 (.pick XiR XjN (.const (.bool false))),oM 47 XjO]
def XH0:VC:=.reg [oM 54 XcZ,oD 55 (.bin .neq XkV (.const (.int .i64 0))),oM 56 Xk3,oG 57 (.mv Xc2) 56 true,oG 58 (.mv τ0) 56 true,oG 59 (.mv Xb8) 56 true,oG 60 (.sliceS XkW none (some Xk8)) 56 true,oG 61 (.bin .add XkK Xl4) 56 true,oG 62 (.callF 131 [Xl7]) 56 true,oG 63 (.not XmX) 56 true,oD 64 (.pick Xlp Xow (.const (.bool false))),oM 47 Xn3]
def XDh:VC:=.cond XhS .skip XH0
def XKR:VC:=.seq XC6 XDh
def XGn:VC:=.reg [oD 65 (.build [(.int .i64 0),(.int .i64 0)] []),oN (.store 2 τ6 XoH),oD 7 (.mv (.const (.string ⟨⟨[]⟩⟩))),oD 8 (.mv (.const (.int .i64 4)))]
def XGx:VC:=.seq XGn .ret
def XHC:VC:=.cond XhS XGx .skip
def XHm:VC:=.seq XKR XHC
def XK5:VC:=.cond XhC XIX XHm
def XKg:VC:=.seq XC9 XK5
def XFT:VC:=.block 1 XKg
def XGS:VC:=.regD [oD 66 (.loadN [(.int .i64),(.int .i64)] Xcd),oM 67 τ0,oM 68 Xb8,oD 69 (.sliceS XoE (some (.const (.int .i64 8))) (some XpF)),oN (.store 2 τ6 Xo1)] [] [oM 7 Xpj,oD 8 (.mv (.const (.int .i64 0)))]
def XKs:VC:=.seq XGS .ret
def XHx:VC:=.seq XFT XKs
def XIr:VC:=.seq XK1 XHx
def XIs:VC:=.seq XEu XIr
def XGI:VC:=.seq XMJ XIs
def XKe:VC:=.seq X12 XGI
def XKq:VC:=.seq XQC XKe
def Xu5:VC:=.seq X0Z XKq
def XVr:VFn:=⟨70,Xu5,[.cell 6 [(.int .i64),(.int .i64)] true,.tmp 7,.tmp 8]⟩
def k39_0:VC:=.reg [oD 2 (.alloc [(.bool false),(.int .i64 0),(.int .u32 0),(.string ⟨⟨[]⟩⟩),(.string ⟨⟨[]⟩⟩),(.string ⟨⟨[]⟩⟩)]),oD 3 (.mv (.const (.int .i64 0)))]
def k39_1:VC:=.reg [oM 9 τ0,oD 10 (.callF 61 [τ9]),oM 4 Xcd]
def k39_2:VC:=.reg [oM 11 τ4,oD 12 (.callF 62 [Xb8,(.const (.int .i64 1))]),oM 5 XcZ]
def k39_3:VC:=.reg [oM 14 τ4,oD 15 (.callF 63 [Xdo]),oM 13 Xdl]
def k39_4:VC:=.reg [oD 16 (.build [(.bool false),(.int .i64 0),(.int .u32 0),(.string ⟨⟨[]⟩⟩),(.string ⟨⟨[]⟩⟩),(.string ⟨⟨[]⟩⟩)] []),oN (.store 6 τ2 Xdp),oD 3 (.mv (.const (.int .i64 2)))]
def k39_5:VC:=.seq k39_4 .ret
def k39_6:VC:=.reg [oM 18 τ5,oD 19 (.bin .and XdW (.const (.int .i64 64))),oD 20 (.bin .eql XdM (.const (.int .i64 0))),oM 17 Xea]
def k39_7:VC:=.reg [oD 21 (.build [(.bool false),(.int .i64 0),(.int .u32 0),(.string ⟨⟨[]⟩⟩),(.string ⟨⟨[]⟩⟩),(.string ⟨⟨[]⟩⟩)] []),oN (.store 6 τ2 Xei),oD 3 (.mv (.const (.int .i64 3)))]
def k39_8:VC:=.seq k39_7 .ret
def k39_9:VC:=.cond Xdm k39_8 .skip
def X38:VC:=.seq k39_6 k39_9
def XLT:VC:=.cond Xc2 k39_5 X38
def XOP:VC:=.seq k39_3 XLT
def XZJ:VC:=.block 0 XOP
def XUr:VC:=.reg [oM 22 τ5,oD 23 (.bin .and XeN (.const (.int .i64 128))),oD 24 (.bin .neq XeR (.const (.int .i64 0))),oM 25 τ5,oD 26 (.bin .and XeX (.const (.int .i64 63))),oD 27 (.build [(.bool false),(.int .i64 0),(.int .u32 0),(.string ⟨⟨[]⟩⟩),(.string ⟨⟨[]⟩⟩),(.string ⟨⟨[]⟩⟩)] [(0,1,Xex),(1,1,Xep)]),oD 6 (.alloc [(.bool false),(.int .i64 0),(.int .u32 0),(.string ⟨⟨[]⟩⟩),(.string ⟨⟨[]⟩⟩),(.string ⟨⟨[]⟩⟩)]),oN (.store 6 τ6 XeT)]
def X4n:VC:=.reg [oD 28 (.fieldA 0 τ6),oD 29 (.load1 .bool XeO),oD 30 (.not Xe1)]
def XSE:VC:=.reg [oM 31 τ4,oD 32 (.mkFunc 64 [Xfw] []),oM 7 XfC]
def X2e:VC:=.reg [oM 33 τ7,oD 34 (.callV XfA [(.const (.int .i64 8))]),oD 35 (.fieldA 3 τ6),oN (.store 1 XfU XfK)]
def X7w:VC:=.reg [oM 36 τ4,oD 37 (.callF 63 [XfV])]
def XOE:VC:=.reg [oD 38 (.build [(.bool false),(.int .i64 0),(.int .u32 0),(.string ⟨⟨[]⟩⟩),(.string ⟨⟨[]⟩⟩),(.string ⟨⟨[]⟩⟩)] []),oN (.store 6 τ2 XgM),oD 3 (.mv (.const (.int .i64 2)))]
def XLW:VC:=.seq XOE .ret
def XP5:VC:=.cond XfB XLW .skip
def X7c:VC:=.seq X7w XP5
def XR7:VC:=.seq X2e X7c
def XNo:VC:=.reg [oM 39 τ4,oD 40 (.callF 65 [XgK]),oD 41 (.fieldA 5 τ6),oN (.store 1 Xhs Xhu)]
def XS5:VC:=.reg [oD 42 (.loadN [.bool,(.int .i64),(.int .u32),.str,.str,.str] τ6),oN (.store 6 τ2 Xht),oD 3 (.mv (.const (.int .i64 0)))]
def XZa:VC:=.seq XS5 .ret
def XVH:VC:=.seq XNo XZa
def X21:VC:=.seq XR7 XVH
def X6G:VC:=.seq XSE X21
def X6D:VC:=.cond Xfy X6G .skip
def XP8:VC:=.seq X4n X6D
def XYu:VC:=.reg [oM 43 τ4,oD 44 (.callF 62 [XhC,(.const (.int .i64 4))]),oD 45 (.conv .u32 Xim),oD 46 (.fieldA 2 τ6),oN (.store 1 Xin XhP)]
def XZW:VC:=.reg [oM 47 τ4,oD 48 (.fieldA 3 τ6),oD 49 (.fieldA 4 τ6),oD 50 (.buildSl 2 1 [(.pointer none),(.pointer none)] [(0,1,XiP),(1,1,XiO)]),oD 51 (.callF 66 [(.func 67),XhS,XiR]),oM 8 XiQ]
def XYN:VC:=.reg [oM 52 τ8,oD 53 (.bin .neq XjN (.const (.int .i64 0)))]
def X09:VC:=.reg [oD 54 (.build [(.bool false),(.int .i64 0),(.int .u32 0),(.string ⟨⟨[]⟩⟩),(.string ⟨⟨[]⟩⟩),(.string ⟨⟨[]⟩⟩)] []),oM 55 τ8,oN (.store 6 τ2 XkV),oM 3 Xk3]
def XL8:VC:=.seq X09 .ret
def X2T:VC:=.cond XjO XL8 .skip
def X7r:VC:=.seq XYN X2T
def XW2:VC:=.seq XZW X7r
def XZH:VC:=.reg [oM 56 τ4,oD 57 (.callF 65 [Xlp]),oD 58 (.fieldA 5 τ6),oN (.store 1 XkW XkK)]
def X5O:VC:=.reg [oD 59 (.loadN [.bool,(.int .i64),(.int .u32),.str,.str,.str] τ6),oN (.store 6 τ2 Xk8),oD 3 (.mv (.const (.int .i64 0)))]
def XZm:VC:=.seq X5O .ret
def XSa:VC:=.seq XZH XZm
def X7j:VC:=.seq XW2 XSa
def X16:VC:=.seq XYu X7j
def XOi:VC:=.seq XP8 X16
def X0d:VC:=.seq XUr XOi
def XV9:VC:=.seq XZJ X0d
def X4F:VC:=.seq k39_2 XV9
def XOK:VC:=.seq k39_1 X4F
def XAg:VC:=.seq k39_0 XOK
def fn39:VFn:=⟨60,XAg,[.cell 2 [.bool,(.int .i64),(.int .u32),.str,.str,.str] true,.tmp 3]⟩
def k65_0:VC:=.reg [oD 2 (.mv (.const (.string ⟨⟨[]⟩⟩)))]
def k65_1:VC:=.reg [oM 3 τ0,oD 4 (.callF 63 [τ3])]
def k65_2:VC:=.reg [oD 2 (.mv (.const (.string ⟨⟨[]⟩⟩)))]
def k65_3:VC:=.seq k65_2 .ret
def k65_4:VC:=.cond τ4 k65_3 .skip
def k65_5:VC:=.seq k65_1 k65_4
def k65_6:VC:=.reg [oM 5 τ0,oM 6 τ0,oD 7 (.nilCheck τ6),oD 8 (.fieldA 0 τ7),oD 9 (.load1 .str τ8),oD 10 (.lenS τ9),oD 11 (.callF 64 [τ5,Xcd]),oM 2 Xb8]
def k65_7:VC:=.seq k65_6 .ret
def k65_8:VC:=.seq k65_5 k65_7
def XUw:VC:=.seq k65_0 k65_8
def fn65:VFn:=⟨12,XUw,[.tmp 2]⟩
def k66_0:VC:=.reg [oD 6 (.mv (.const (.int .i64 0)))]
def k66_1:VC:=.reg [oM 11 τ2,oD 12 (.lenL Xb8),oD 13 (.mv (.const (.int .i64 0)))]
def k66_2:VC:=.reg [oD 14 (.bin .lss Xc2 XcZ)]
def k66_3:VC:=.cond Xdo .skip (.exit 0)
def k66_4:VC:=.reg [oD 15 (.idxAL 1 Xb8 Xc2),oD 16 (.load1 .oth Xdl),oM 8 Xdp]
def k66_5:VC:=.reg [oM 18 τ0,oM 19 τ1,oD 20 (.callV XdW [XdM]),oM 17 Xea,oE 21 0 Xdm,oE 22 1 Xdm,oM 9 Xei,oM 10 XeN]
def k66_6:VC:=.reg [oM 23 Xcd,oD 24 (.bin .neq XeR (.const (.int .i64 0)))]
def k66_7:VC:=.reg [oM 25 Xcd,oM 6 XeX]
def k66_8:VC:=.seq k66_7 .ret
def k66_9:VC:=.cond Xex k66_8 .skip
def X7m:VC:=.seq k66_6 k66_9
def XYn:VC:=.reg [oM 26 τ8,oM 27 τ9,oD 28 (.nilCheck Xep),oN (.store 1 XeO XeT)]
def XPY:VC:=.seq X7m XYn
def XMz:VC:=.seq k66_5 XPY
def XVE:VC:=.seq k66_4 XMz
def XW8:VC:=.block 1 XVE
def X6w:VC:=.reg [oD 29 (.bin .add Xc2 (.const (.int .i64 1))),oM 13 Xe1]
def XTM:VC:=.seq XW8 X6w
def XTs:VC:=.seq k66_3 XTM
def XZ3:VC:=.seq k66_2 XTs
def XPS:VC:=.loop XZ3
def X6X:VC:=.block 0 XPS
def XNl:VC:=.seq k66_1 X6X
def XTo:VC:=.reg [oD 6 (.mv (.const (.int .i64 0)))]
def XNN:VC:=.seq XTo .ret
def XSP:VC:=.seq XNl XNN
def XRl:VC:=.seq k66_0 XSP
def fn66:VFn:=⟨30,XRl,[.tmp 6]⟩
def k67_0:VC:=.reg [oD 2 (.mv (.const (.string ⟨⟨[]⟩⟩))),oD 3 (.mv (.const (.int .i64 0)))]
def k67_1:VC:=.reg [oM 6 τ0,oD 7 (.callF 62 [τ6,(.const (.int .i64 1))]),oM 4 τ7]
def k67_2:VC:=.reg [oM 8 τ0,oD 9 (.callF 63 [τ8]),oD 10 (.not τ9),oM 11 Xcd,oG 12 (.mv τ4) 11 true,oG 13 (.bin .gtr XcZ (.const (.int .i64 20))) 11 true,oD 14 (.pick Xb8 Xc2 (.const (.bool false)))]
def k67_3:VC:=.reg [oD 2 (.mv (.const (.string ⟨⟨[]⟩⟩))),oD 3 (.mv (.const (.int .i64 3)))]
def k67_4:VC:=.seq k67_3 .ret
def k67_5:VC:=.cond Xdo k67_4 .skip
def k67_6:VC:=.seq k67_2 k67_5
def k67_7:VC:=.reg [oM 15 τ0,oM 16 τ4,oD 17 (.callF 64 [Xdl,Xdp]),oM 5 Xdm]
def k67_8:VC:=.reg [oM 18 τ0,oD 19 (.callF 63 [XdW])]
def k67_9:VC:=.reg [oD 2 (.mv (.const (.string ⟨⟨[]⟩⟩))),oD 3 (.mv (.const (.int .i64 2)))]
def X4N:VC:=.seq k67_9 .ret
def XT5:VC:=.cond XdM X4N .skip
def X6k:VC:=.seq k67_8 XT5
def XXg:VC:=.reg [oM 20 τ5,oM 2 Xea,oD 3 (.mv (.const (.int .i64 0)))]
def XPL:VC:=.seq XXg .ret
def XLP:VC:=.seq X6k XPL
def XUh:VC:=.seq k67_7 XLP
def XYp:VC:=.seq k67_6 XUh
def XNg:VC:=.seq k67_1 XYp
def XBY:VC:=.seq k67_0 XNg
def fn67:VFn:=⟨21,XBY,[.tmp 2,.tmp 3]⟩
def k25_0:VC:=.reg [oD 3 (.box τ0),oD 4 (.box τ1),oD 5 (.box τ2),oD 6 (.mv (.const (.string ⟨⟨[]⟩⟩))),oD 7 (.mv (.const (.int .i64 0)))]
def k25_1:VC:=.reg [oD 11 (.loadN [(.int .i64),(.int .i64),(.int .i64),.str] τ3),oD 12 (.loadN [.bool,(.int .u64),(.int .u64)] τ4),oD 13 (.loadN [.bool,(.int .u64),(.int .u64)] τ5),oD 14 (.callF 47 [Xb8,XcZ,Xc2]),oM 10 Xdo,oE 15 0 Xcd,oE 16 1 Xcd,oM 8 Xdl,oM 9 Xdp]
def k25_2:VC:=.reg [oM 18 τ9,oD 19 (.bin .neq XdW (.const (.int .i64 0))),oM 17 XdM]
def k25_3:VC:=.reg [oM 20 τ9,oD 6 (.mv (.const (.string ⟨⟨[]⟩⟩))),oM 7 Xea]
def k25_4:VC:=.seq k25_3 .ret
def k25_5:VC:=.reg [oD 22 (.fieldA 0 τ4),oD 23 (.load1 .bool XeN),oM 21 XeR]
def k25_6:VC:=.reg [oD 24 (.loadN [.bool,(.int .u64),(.int .u64)] τ4),oD 25 (.loadN [.bool,(.int .u64),(.int .u64)] τ5),oD 26 (.build [(.int .i64 0),(.int .i64 0),(.int .i64 0),(.int .i64 0),(.bool false),(.int .u64 0),(.int .u64 0),(.bool false),(.int .u64 0),(.int .u64 0)] [(2,1,(.const (.int .i64 58))),(3,1,(.const (.int .i64 64))),(4,3,Xex),(7,3,XeX)]),oM 27 τ8,oD 28 (.callF 48 [Xep,XeT]),oE 29 0 XeO,oE 30 1 XeO,oM 6 Xe1,oM 7 Xfy]
def k25_7:VC:=.seq k25_6 .ret
def k25_8:VC:=.cond Xei k25_7 .skip
def k25_9:VC:=.seq k25_5 k25_8
def XNj:VC:=.cond Xdm k25_4 k25_9
def XW1:VC:=.seq k25_2 XNj
def XXb:VC:=.block 0 XW1
def XUR:VC:=.reg [oD 31 (.loadN [.bool,(.int .u64),(.int .u64)] τ4),oD 32 (.loadN [.bool,(.int .u64),(.int .u64)] τ5),oD 33 (.build [(.int .i64 0),(.int .i64 0),(.bool false),(.int .i64 0),(.int .i64 0),(.bool false),(.int .u64 0),(.int .u64 0),(.bool false),(.int .u64 0),(.int .u64 0),(.string ⟨⟨[]⟩⟩)] [(2,1,(.const (.bool true))),(3,1,(.const (.int .i64 64))),(4,1,(.const (.int .i64 1))),(5,3,Xfw),(8,3,XfC)]),oM 34 τ8,oD 35 (.callF 49 [XfA,XfK]),oE 36 0 XfU,oE 37 1 XfU,oM 6 XfV,oM 7 XfB]
def X2A:VC:=.seq XUR .ret
def XRe:VC:=.seq XXb X2A
def X0W:VC:=.seq k25_1 XRe
def XBL:VC:=.seq k25_0 X0W
def fn25:VFn:=⟨38,XBL,[.tmp 6,.tmp 7]⟩
def k47_0:VC:=.reg [oD 3 (.box τ0),oD 4 (.box τ1),oD 5 (.box τ2),oD 6 (.mv (.const (.string ⟨⟨[]⟩⟩))),oD 7 (.mv (.const (.int .i64 0)))]
def k47_1:VC:=.reg [oD 13 (.loadN [.bool,(.int .u64),(.int .u64)] τ4),oD 14 (.loadN [.bool,(.int .u64),(.int .u64)] τ5),oD 15 (.fieldA 3 τ3),oD 16 (.load1 .str Xdl),oD 17 (.lenS Xdp),oD 18 (.bin .add (.const (.int .i64 8)) Xdm),oD 19 (.callF 74 [Xc2,Xdo,XdW]),oM 12 XdM,oE 20 0 XcZ,oE 21 1 XcZ,oM 8 Xea,oM 9 Xei]
def k47_2:VC:=.reg [oM 22 τ9,oD 23 (.not XeN),oM 24 XeR,oG 25 (.loadN [(.int .i64),(.int .i64),(.int .i64),.str] τ3) 24 false,oG 26 (.fieldA 0 τ4) 24 false,oG 27 (.load1 .bool Xep) 24 false,oG 28 (.callF 75 [XeX,XeT]) 24 false,oG 29 (.not XeO) 24 false,oD 30 (.pick Xex (.const (.bool true)) Xe1)]
def k47_3:VC:=.reg [oD 6 (.mv (.const (.string ⟨⟨[]⟩⟩))),oD 7 (.mv (.const (.int .i64 1)))]
def k47_4:VC:=.seq k47_3 .ret
def k47_5:VC:=.cond Xfy k47_4 .skip
def k47_6:VC:=.seq k47_2 k47_5
def k47_7:VC:=.regD [oD 31 (.callF 76 []),oD 32 (.fieldA 0 τ3),oD 33 (.load1 (.int .i64) XfC),oD 34 (.idxVN 4 2 Xfw XfA),oD 35 (.fieldA 0 τ4),oD 36 (.load1 .bool XfU),oD 37 (.callF 77 [XfV])] [(0,2),(0,5),(2,6)] [oD 38 (.idxV1 2 XfK XfB),oM 10 XgM]
def k47_8:VC:=.regD [oM 39 Xcd,oD 40 (.conv .u64 XgK),oD 41 (.bin .shl Xhu (.const (.int .u64 8))),oD 42 (.fieldA 1 τ3),oD 43 (.load1 (.int .i64) Xht),oD 44 (.conv .u64 XhC),oD 45 (.bin .or Xhs Xim),oD 46 (.callF 42 [XhP,(.const (.int .i64 2))]),oD 47 (.fieldA 2 τ3),oD 48 (.load1 (.int .i64) XhS),oD 49 (.conv .u64 XiP),oD 50 (.callF 42 [XiO,(.const (.int .i64 6))]),oD 51 (.bin .add Xin XiR),oD 52 (.fieldA 3 τ3),oD 53 (.load1 .str XjN)] [(7,9),(7,14),(11,14)] [oD 54 (.bin .add XiQ XjO),oM 11 XkV]
def k47_9:VC:=.reg [oM 55 Xb8,oM 56 τ8,oM 57 Xb8,oD 58 (.bin .add Xlp XkK),oD 59 (.callF 78 [XkW]),oD 60 (.conv .u64 Xk8),oD 61 (.callF 43 [Xk3,(.const (.int .i64 2)),(.const (.int .i64 2)),Xl4]),oM 6 Xl7,oD 7 (.mv (.const (.int .i64 0)))]
def X4a:VC:=.seq k47_9 .ret
def XWH:VC:=.seq k47_8 X4a
def XX1:VC:=.seq k47_7 XWH
def XMo:VC:=.seq k47_6 XX1
def XPC:VC:=.seq k47_1 XMo
def XBJ:VC:=.seq k47_0 XPC
def fn47:VFn:=⟨62,XBJ,[.tmp 6,.tmp 7]⟩
def k74_0:VC:=.reg [oD 3 (.box τ0),oD 4 (.box τ1),oD 6 (.mv (.const (.string ⟨⟨[]⟩⟩))),oD 7 (.mv (.const (.bool false)))]
def k74_1:VC:=.reg [oD 9 (.loadN [.bool,(.int .u64),(.int .u64)] τ3),oD 10 (.loadN [.bool,(.int .u64),(.int .u64)] τ4),oM 11 τ2,oD 12 (.callF 109 [τ9,Xcd,(.const (.int .i64 58)),Xb8]),oM 8 XcZ]
def k74_2:VC:=.reg [oM 13 τ8,oD 14 (.bin .eql Xc2 (.const (.string ⟨⟨[]⟩⟩))),oM 15 Xdo,oG 16 (.fieldA 0 τ3) 15 false,oG 17 (.load1 .bool Xdp) 15 false,oD 18 (.pick Xdl (.const (.bool true)) Xdm)]
def k74_3:VC:=.reg [oM 19 τ8,oM 20 τ8,oD 21 (.bin .neq Xea (.const (.string ⟨⟨[]⟩⟩))),oM 6 XdM,oM 7 Xei]
def k74_4:VC:=.seq k74_3 .ret
def k74_5:VC:=.cond XdW k74_4 .skip
def k74_6:VC:=.seq k74_2 k74_5
def k74_7:VC:=.reg [oD 6 (.mv (.const (.string ⟨⟨[]⟩⟩))),oD 7 (.mv (.const (.bool true)))]
def k74_8:VC:=.seq k74_7 .ret
def k74_9:VC:=.seq k74_6 k74_8
def XOm:VC:=.seq k74_1 k74_9
def XBj:VC:=.seq k74_0 XOm
def fn74:VFn:=⟨22,XBj,[.tmp 6,.tmp 7]⟩
def k75_0:VC:=.reg [oD 2 (.box τ0),oD 4 (.mv (.const (.bool false)))]
def k75_1:VC:=.reg [oD 5 (.fieldA 0 τ2),oD 6 (.load1 (.int .i64) τ5),oD 7 (.bin .lss τ6 (.const (.int .i64 1))),oM 8 τ7,oG 9 (.fieldA 0 τ2) 8 false,oG 10 (.load1 (.int .i64) τ9) 8 false,oG 11 (.bin .gtr Xcd (.const (.int .i64 3))) 8 false,oD 12 (.pick τ8 (.const (.bool true)) Xb8),oM 13 XcZ,oG 14 (.fieldA 1 τ2) 13 false,oG 15 (.load1 (.int .i64) Xdo) 13 false,oG 16 (.callF 110 [Xdl,(.const (.int .i64 255))]) 13 false,oG 17 (.not Xdp) 13 false,oD 18 (.pick Xc2 (.const (.bool true)) Xdm),oM 19 XdW,oG 20 (.fieldA 2 τ2) 19 false,oG 21 (.load1 (.int .i64) Xea) 19 false,oG 22 (.callF 110 [Xei,(.const (.int .i64 65535))]) 19 false,oG 23 (.not XeN) 19 false,oD 24 (.pick XdM (.const (.bool true)) XeR),oM 25 Xex,oG 26 (.fieldA 3 τ2) 25 false,oG 27 (.load1 .str Xep) 25 false,oG 28 (.lenS XeT) 25 false,oG 29 (.bin .gtr XeO (.const (.int .i64 1232))) 25 false,oD 30 (.pick XeX (.const (.bool true)) Xe1)]
def k75_2:VC:=.reg [oD 4 (.mv (.const (.bool false)))]
def k75_3:VC:=.seq k75_2 .ret
def k75_4:VC:=.cond Xfy k75_3 .skip
def k75_5:VC:=.seq k75_1 k75_4
def k75_6:VC:=.reg [oD 31 (.fieldA 0 τ2),oD 32 (.load1 (.int .i64) Xfw),oD 33 (.fieldA 1 τ2),oD 34 (.load1 (.int .i64) XfA),oM 35 τ1,oD 36 (.callF 111 [XfC,XfK,XfU]),oM 37 XfV,oG 38 (.fieldA 0 τ2) 37 true,oG 39 (.load1 (.int .i64) XgM) 37 true,oG 40 (.bin .eql XgK (.const (.int .i64 2))) 37 true,oG 41 (.mv Xhu) 37 true,oG 42 (.fieldA 2 τ2) 41 false,oG 43 (.load1 (.int .i64) Xht) 41 false,oG 44 (.bin .eql XhC (.const (.int .i64 0))) 41 false,oG 45 (.pick Xhs (.const (.bool true)) Xim) 37 true,oD 46 (.pick XfB XhP (.const (.bool false))),oM 4 Xin]
def k75_7:VC:=.seq k75_6 .ret
def k75_8:VC:=.seq k75_5 k75_7
def XS0:VC:=.seq k75_0 k75_8
def fn75:VFn:=⟨47,XS0,[.tmp 4]⟩
def XLL:VC:=.reg [oD 4 (.mv (.const (.bool false)))]
def XTe:VC:=.reg [oM 5 τ0,oD 6 (.bin .leq (.const (.int .i64 0)) τ5),oM 7 τ6,oG 8 (.mv τ0) 7 true,oG 9 (.mv τ1) 7 true,oG 10 (.bin .leq τ8 τ9) 7 true,oD 11 (.pick τ7 Xcd (.const (.bool false))),oM 4 Xb8]
def XZq:VC:=.seq XTe .ret
def Xy7:VC:=.seq XLL XZq
def XPr:VFn:=⟨12,Xy7,[.tmp 4]⟩
def X1F:VC:=.reg [oD 6 (.mv (.const (.bool false)))]
def XMx:VC:=.reg [oM 8 τ0,oD 9 (.bin .eql τ8 (.const (.int .i64 2))),oM 10 τ9,oG 11 (.mv τ2) 10 true,oD 12 (.pick Xcd Xb8 (.const (.bool false))),oM 7 XcZ]
def XOA:VC:=.reg [oM 13 τ1,oD 14 (.bin .eql Xc2 (.const (.int .i64 0))),oM 6 Xdo]
def X54:VC:=.seq XOA .ret
def XWL:VC:=.reg [oM 16 τ0,oD 17 (.bin .eql Xdp (.const (.int .i64 2))),oM 15 Xdm]
def XZS:VC:=.reg [oM 18 τ1,oD 19 (.bin .eql XdW (.const (.int .i64 4))),oM 6 XdM]
def XQA:VC:=.seq XZS .ret
def X1d:VC:=.reg [oM 21 τ0,oD 22 (.bin .eql Xei (.const (.int .i64 1))),oM 23 XeN,oG 24 (.mv τ2) 23 true,oG 25 (.not Xex) 23 true,oD 26 (.pick XeR XeX (.const (.bool false))),oM 20 Xep]
def X31:VC:=.reg [oM 27 τ1,oD 28 (.bin .neq XeT (.const (.int .i64 4))),oM 6 XeO]
def XPy:VC:=.seq X31 .ret
def XCG:VC:=.cond Xea XPy .skip
def XGO:VC:=.seq X1d XCG
def XFh:VC:=.cond Xdl XQA XGO
def XCB:VC:=.seq XWL XFh
def XJ6:VC:=.cond τ7 X54 XCB
def XHA:VC:=.seq XMx XJ6
def XGr:VC:=.block 0 XHA
def XFU:VC:=.reg [oD 6 (.mv (.const (.bool true)))]
def XDG:VC:=.seq XFU .ret
def XIm:VC:=.seq XGr XDG
def Xus:VC:=.seq X1F XIm
def XY9:VFn:=⟨29,Xus,[.tmp 6]⟩
def k76_0:VC:=.reg [oD 0 (.alloc [(.int .i64 0),(.int .i64 0),(.int .i64 0),(.int .i64 0),(.int .i64 0),(.int .i64 0),(.int .i64 0),(.int .i64 0)])]
def k76_1:VC:=.reg [oD 1 (.build [(.int .i64 0),(.int .i64 0)] [(0,1,(.const (.int .i64 (-1)))),(1,1,(.const (.int .i64 (-1))))]),oD 2 (.build [(.int .i64 0),(.int .i64 0)] [(0,1,(.const (.int .i64 3))),(1,1,(.const (.int .i64 1)))]),oD 3 (.build [(.int .i64 0),(.int .i64 0)] [(0,1,(.const (.int .i64 3))),(1,1,(.const (.int .i64 2)))]),oD 4 (.build [(.int .i64 0),(.int .i64 0)] [(0,1,(.const (.int .i64 11))),(1,1,(.const (.int .i64 3)))]),oD 5 (.build [(.int .i64 0),(.int .i64 0),(.int .i64 0),(.int .i64 0),(.int .i64 0),(.int .i64 0),(.int .i64 0),(.int .i64 0)] [(0,2,τ1),(2,2,τ2),(4,2,τ3),(6,2,τ4)]),oN (.store 8 τ0 τ5)]
def k76_2:VC:=.seq k76_1 .ret
def XZ8:VC:=.seq k76_0 k76_2
def fn76:VFn:=⟨6,XZ8,[.cell 0 [(.int .i64),(.int .i64),(.int .i64),(.int .i64),(.int .i64),(.int .i64),(.int .i64),(.int .i64)] true]⟩
def k77_0:VC:=.reg [oD 2 (.mv (.const (.int .i64 0)))]
def k77_1:VC:=.reg [oM 3 τ0]
def k77_2:VC:=.reg [oD 2 (.mv (.const (.int .i64 1)))]
def k77_3:VC:=.seq k77_2 .ret
def k77_4:VC:=.cond τ3 k77_3 .skip
def k77_5:VC:=.seq k77_1 k77_4
def k77_6:VC:=.reg [oD 2 (.mv (.const (.int .i64 0)))]
def k77_7:VC:=.seq k77_6 .ret
def k77_8:VC:=.seq k77_5 k77_7
def XRA:VC:=.seq k77_0 k77_8
def fn77:VFn:=⟨4,XRA,[.tmp 2]⟩
def k78_0:VC:=.reg [oD 2 (.mv (.const (.int .i64 0)))]
def k78_1:VC:=.reg [oM 3 τ0,oD 4 (.callF 112 [τ3]),oD 5 (.bin .sub (.const (.int .i64 65535)) τ4),oM 2 τ5]
def k78_2:VC:=.seq k78_1 .ret
def XN0:VC:=.seq k78_0 k78_2
def fn78:VFn:=⟨6,XN0,[.tmp 2]⟩
def k43_0:VC:=.reg [oD 8 (.mv (.const (.string ⟨⟨[]⟩⟩)))]
def k43_1:VC:=.reg [oM 10 τ3,oM 11 τ2,oD 12 (.callF 42 [Xcd,Xb8]),oM 9 XcZ]
def k43_2:VC:=.reg [oM 13 τ9,oD 14 (.bin .eql Xc2 (.const (.string ⟨⟨[]⟩⟩))),oM 15 Xdo,oG 16 (.mv τ1) 15 false,oG 17 (.bin .lss Xdp (.const (.int .i64 0))) 15 false,oD 18 (.pick Xdl (.const (.bool true)) Xdm),oM 19 XdW,oG 20 (.mv τ0) 19 false,oG 21 (.lenS Xea) 19 false,oG 22 (.mv τ2) 19 false,oG 23 (.bin .sub Xei XeN) 19 false,oG 24 (.mv τ1) 19 false,oG 25 (.bin .lss XeR Xex) 19 false,oD 26 (.pick XdM (.const (.bool true)) XeX)]
def k43_3:VC:=.reg [oM 27 τ0,oM 8 XeT]
def k43_4:VC:=.seq k43_3 .ret
def k43_5:VC:=.cond Xep k43_4 .skip
def k43_6:VC:=.seq k43_2 k43_5
def k43_7:VC:=.regD [oM 28 τ0,oM 29 τ1,oD 30 (.sliceS XeO none (some Xe1)),oM 31 τ9,oD 32 (.bin .add Xfy Xfw),oM 33 τ0,oM 34 τ1,oM 35 τ2,oD 36 (.bin .add XfK XfU),oD 37 (.sliceS XfA (some XfV) none)] [] [oD 38 (.bin .add XfC XfB),oM 8 XgM]
def k43_8:VC:=.seq k43_7 .ret
def k43_9:VC:=.seq k43_6 k43_8
def XO7:VC:=.seq k43_1 k43_9
def Xzf:VC:=.seq k43_0 XO7
def fn43:VFn:=⟨39,Xzf,[.tmp 8]⟩
def k48_0:VC:=.reg [oD 2 (.box τ0),oD 4 (.mv (.const (.string ⟨⟨[]⟩⟩))),oD 5 (.mv (.const (.int .i64 0)))]
def k48_1:VC:=.reg [oD 9 (.loadN [(.int .i64),(.int .i64),(.int .i64),(.int .i64),.bool,(.int .u64),(.int .u64),.bool,(.int .u64),(.int .u64)] τ2),oD 10 (.callF 79 [τ9]),oD 11 (.not Xcd),oM 8 Xb8]
def k48_2:VC:=.reg [oD 4 (.mv (.const (.string ⟨⟨[]⟩⟩))),oD 5 (.mv (.const (.int .i64 1)))]
def k48_3:VC:=.seq k48_2 .ret
def k48_4:VC:=.reg [oM 13 τ1,oD 14 (.lenS Xc2),oD 15 (.bin .gtr Xdo (.const (.int .i64 65535))),oM 12 Xdl]
def k48_5:VC:=.reg [oD 4 (.mv (.const (.string ⟨⟨[]⟩⟩))),oD 5 (.mv (.const (.int .i64 5)))]
def k48_6:VC:=.seq k48_5 .ret
def k48_7:VC:=.cond XcZ k48_6 .skip
def k48_8:VC:=.seq k48_4 k48_7
def k48_9:VC:=.cond τ8 k48_3 k48_8
def X4u:VC:=.seq k48_1 k48_9
def XP7:VC:=.block 0 X4u
def XWp:VC:=.reg [oD 16 (.fieldA 0 τ2),oD 17 (.load1 (.int .i64) Xdp),oD 18 (.conv .u64 Xdm),oD 19 (.bin .shl XdW (.const (.int .u64 20))),oD 20 (.bin .or (.const (.int .u64 1610612736)) XdM),oD 21 (.fieldA 1 τ2),oD 22 (.load1 (.int .i64) Xei),oD 23 (.conv .u64 XeN),oD 24 (.bin .or Xea XeR),oD 25 (.callF 42 [Xex,(.const (.int .i64 4))]),oM 6 XeX]
def XNy:VC:=.reg [oM 26 τ1,oD 27 (.lenS Xep),oD 28 (.conv .u64 XeT),oD 29 (.bin .shl XeO (.const (.int .u64 16))),oD 30 (.fieldA 2 τ2),oD 31 (.load1 (.int .i64) Xfy),oD 32 (.conv .u64 Xfw),oD 33 (.bin .shl XfC (.const (.int .u64 8))),oD 34 (.bin .or Xe1 XfA),oD 35 (.fieldA 3 τ2),oD 36 (.load1 (.int .i64) XfU),oD 37 (.conv .u64 XfV),oD 38 (.bin .or XfK XfB),oD 39 (.callF 42 [XgM,(.const (.int .i64 4))]),oM 7 XgK]
def XUW:VC:=.regD [oM 40 τ6,oM 41 τ7,oD 42 (.bin .add Xhu Xhs),oD 43 (.fieldA 4 τ2),oD 44 (.loadN [.bool,(.int .u64),(.int .u64)] XhC),oD 45 (.callF 80 [Xim]),oD 46 (.bin .add Xht XhP),oD 47 (.fieldA 7 τ2),oD 48 (.loadN [.bool,(.int .u64),(.int .u64)] XhS),oD 49 (.callF 80 [XiP]),oD 50 (.bin .add Xin XiO),oM 51 τ1] [(5,8)] [oD 52 (.bin .add XiR XiQ),oM 4 XjN,oD 5 (.mv (.const (.int .i64 0)))]
def X1B:VC:=.seq XUW .ret
def XYE:VC:=.seq XNy X1B
def XZL:VC:=.seq XWp XYE
def XR3:VC:=.seq XP7 XZL
def XBv:VC:=.seq k48_0 XR3
def fn48:VFn:=⟨53,XBv,[.tmp 4,.tmp 5]⟩
def k79_0:VC:=.reg [oD 1 (.box τ0),oD 2 (.mv (.const (.bool false)))]
def k79_1:VC:=.reg [oD 5 (.fieldA 0 τ1),oD 6 (.load1 (.int .i64) τ5),oD 7 (.build [(.int .i64 0),(.int .i64 0)] [(0,1,τ6),(1,1,(.const (.int .i64 255)))]),oD 8 (.fieldA 1 τ1),oD 9 (.load1 (.int .i64) τ8),oD 10 (.build [(.int .i64 0),(.int .i64 0)] [(0,1,τ9),(1,1,(.const (.int .i64 1048575)))]),oD 11 (.fieldA 2 τ1),oD 12 (.load1 (.int .i64) Xb8),oD 13 (.build [(.int .i64 0),(.int .i64 0)] [(0,1,XcZ),(1,1,(.const (.int .i64 255)))]),oD 14 (.fieldA 3 τ1),oD 15 (.load1 (.int .i64) Xdo),oD 16 (.build [(.int .i64 0),(.int .i64 0)] [(0,1,Xdl),(1,1,(.const (.int .i64 255)))]),oD 17 (.buildSl 4 2 [(.int .i64 0),(.int .i64 0),(.int .i64 0),(.int .i64 0),(.int .i64 0),(.int .i64 0),(.int .i64 0),(.int .i64 0)] [(0,2,τ7),(2,2,Xcd),(4,2,Xc2),(6,2,Xdp)]),oD 18 (.lenL Xdm),oD 19 (.mv (.const (.int .i64 0)))]
def k79_2:VC:=.reg [oD 20 (.bin .lss XdM XdW)]
def k79_3:VC:=.cond Xea .skip (.exit 0)
def k79_4:VC:=.reg [oD 21 (.idxAL 2 Xdm XdM),oD 22 (.loadN [(.int .i64),(.int .i64)] Xei),oD 4 (.alloc [(.int .i64 0),(.int .i64 0)]),oN (.store 2 τ4 XeN)]
def k79_5:VC:=.reg [oD 23 (.idxAA 2 1 τ4 (.const (.int .i64 0))),oD 24 (.load1 (.int .i64) XeR),oD 25 (.bin .lss Xex (.const (.int .i64 0))),oM 26 XeX,oG 27 (.idxAA 2 1 τ4 (.const (.int .i64 0))) 26 false,oG 28 (.load1 (.int .i64) XeT) 26 false,oG 29 (.idxAA 2 1 τ4 (.const (.int .i64 1))) 26 false,oG 30 (.load1 (.int .i64) Xe1) 26 false,oG 31 (.bin .gtr XeO Xfy) 26 false,oD 32 (.pick Xep (.const (.bool true)) Xfw)]
def k79_6:VC:=.reg [oD 2 (.mv (.const (.bool false)))]
def k79_7:VC:=.seq k79_6 .ret
def k79_8:VC:=.cond XfC k79_7 .skip
def k79_9:VC:=.seq k79_5 k79_8
def X4v:VC:=.seq k79_4 k79_9
def XXw:VC:=.block 1 X4v
def X2Y:VC:=.reg [oD 33 (.bin .add XdM (.const (.int .i64 1))),oM 19 XfA]
def XXk:VC:=.seq XXw X2Y
def XMK:VC:=.seq k79_3 XXk
def X03:VC:=.seq k79_2 XMK
def XTE:VC:=.loop X03
def XNd:VC:=.block 0 XTE
def XWl:VC:=.seq k79_1 XNd
def XSS:VC:=.reg [oD 34 (.fieldA 4 τ1),oD 35 (.fieldA 0 XfK),oD 36 (.load1 .bool XfU),oM 37 XfV,oG 38 (.fieldA 7 τ1) 37 true,oG 39 (.fieldA 0 XgM) 37 true,oG 40 (.load1 .bool XgK) 37 true,oD 41 (.pick XfB Xhu (.const (.bool false))),oM 2 Xhs]
def X1V:VC:=.seq XSS .ret
def X58:VC:=.seq XWl X1V
def XAd:VC:=.seq k79_0 X58
def fn79:VFn:=⟨42,XAd,[.tmp 2]⟩
def k49_0:VC:=.reg [oD 2 (.box τ0),oD 4 (.mv (.const (.string ⟨⟨[]⟩⟩))),oD 5 (.mv (.const (.int .i64 0)))]
def k49_1:VC:=.reg [oD 9 (.fieldA 11 τ2),oD 10 (.load1 .str τ9),oD 11 (.lenS Xcd),oD 12 (.bin .add (.const (.int .i64 20)) Xb8),oM 6 XcZ]
def k49_2:VC:=.reg [oD 14 (.loadN [(.int .i64),(.int .i64),.bool,(.int .i64),(.int .i64),.bool,(.int .u64),(.int .u64),.bool,(.int .u64),(.int .u64),.str] τ2),oD 15 (.callF 81 [Xdo]),oD 16 (.not Xdl),oM 13 Xdp]
def k49_3:VC:=.reg [oD 4 (.mv (.const (.string ⟨⟨[]⟩⟩))),oD 5 (.mv (.const (.int .i64 1)))]
def k49_4:VC:=.seq k49_3 .ret
def k49_5:VC:=.reg [oM 18 τ1,oD 19 (.lenS XdW),oM 20 τ6,oD 21 (.bin .sub (.const (.int .i64 65535)) Xea),oD 22 (.bin .gtr XdM Xei),oM 17 XeN]
def k49_6:VC:=.reg [oD 4 (.mv (.const (.string ⟨⟨[]⟩⟩))),oD 5 (.mv (.const (.int .i64 5)))]
def k49_7:VC:=.seq k49_6 .ret
def k49_8:VC:=.cond Xdm k49_7 .skip
def k49_9:VC:=.seq k49_5 k49_8
def XTJ:VC:=.cond Xc2 k49_4 k49_9
def XQJ:VC:=.seq k49_2 XTJ
def X7l:VC:=.block 0 XQJ
def X2E:VC:=.reg [oD 7 (.mv (.const (.int .i64 0)))]
def X4w:VC:=.reg [oD 23 (.fieldA 2 τ2),oD 24 (.load1 .bool XeR)]
def XU4:VC:=.reg [oD 7 (.mv (.const (.int .i64 64)))]
def XNr:VC:=.cond Xex XU4 .skip
def XRZ:VC:=.seq X4w XNr
def XWe:VC:=.reg [oM 25 τ6,oD 26 (.bin .quo XeX (.const (.int .i64 4))),oD 27 (.bin .or (.const (.int .i64 64)) Xep),oD 28 (.fieldA 0 τ2),oD 29 (.load1 (.int .i64) XeO),oM 30 τ6,oM 31 τ1,oD 32 (.lenS Xfw),oD 33 (.bin .add Xfy XfC),oD 34 (.fieldA 1 τ2),oD 35 (.load1 (.int .i64) XfK),oM 36 τ7,oD 37 (.fieldA 3 τ2),oD 38 (.load1 (.int .i64) XfB),oD 39 (.fieldA 4 τ2),oD 40 (.load1 (.int .i64) XgK),oD 41 (.buildSl 18 1 [(.int .i64 0),(.int .i64 0),(.int .i64 0),(.int .i64 0),(.int .i64 0),(.int .i64 0),(.int .i64 0),(.int .i64 0),(.int .i64 0),(.int .i64 0),(.int .i64 0),(.int .i64 0),(.int .i64 0),(.int .i64 0),(.int .i64 0),(.int .i64 0),(.int .i64 0),(.int .i64 0)] [(0,1,XeT),(1,1,(.const (.int .i64 1))),(2,1,Xe1),(3,1,(.const (.int .i64 1))),(4,1,XfA),(5,1,(.const (.int .i64 2))),(6,1,XfU),(7,1,(.const (.int .i64 2))),(8,1,XfV),(9,1,(.const (.int .i64 1))),(10,1,(.const (.int .i64 0))),(11,1,(.const (.int .i64 1))),(12,1,XgM),(13,1,(.const (.int .i64 1))),(14,1,Xhu),(15,1,(.const (.int .i64 1))),(16,1,(.const (.int .i64 0))),(17,1,(.const (.int .i64 2)))]),oD 42 (.callF 82 [Xhs]),oM 8 Xht]
def XL0:VC:=.regD [oM 43 τ8,oD 44 (.fieldA 5 τ2),oD 45 (.loadN [.bool,(.int .u64),(.int .u64)] Xim),oD 46 (.callF 80 [XhP]),oD 47 (.fieldA 8 τ2),oD 48 (.loadN [.bool,(.int .u64),(.int .u64)] XhS),oD 49 (.callF 80 [XiP]),oD 50 (.bin .add Xin XiO),oD 51 (.fieldA 11 τ2),oD 52 (.load1 .str XiQ),oD 53 (.bin .add XiR XjN)] [(3,5),(3,9),(6,9)] [oD 54 (.bin .add XhC XjO),oM 8 XkV]
def X0T:VC:=.reg [oM 55 τ8,oM 56 τ8,oD 57 (.callF 78 [Xlp]),oD 58 (.conv .u64 XkK),oD 59 (.callF 43 [Xk3,(.const (.int .i64 10)),(.const (.int .i64 2)),XkW]),oM 60 τ1,oD 61 (.bin .add Xk8 Xl4),oM 4 Xl7,oD 5 (.mv (.const (.int .i64 0)))]
def XPi:VC:=.seq X0T .ret
def XYs:VC:=.seq XL0 XPi
def XTQ:VC:=.seq XWe XYs
def XVP:VC:=.seq XRZ XTQ
def XVI:VC:=.seq X2E XVP
def XWc:VC:=.seq X7l XVI
def X7o:VC:=.seq k49_1 XWc
def XBO:VC:=.seq k49_0 X7o
def fn49:VFn:=⟨62,XBO,[.tmp 4,.tmp 5]⟩
def k81_0:VC:=.reg [oD 1 (.box τ0),oD 2 (.mv (.const (.bool false)))]
def k81_1:VC:=.reg [oD 3 (.fieldA 0 τ1),oD 4 (.load1 (.int .i64) τ3),oD 5 (.callF 114 [τ4,(.const (.int .i64 255))]),oD 6 (.not τ5),oM 7 τ6,oG 8 (.fieldA 1 τ1) 7 false,oG 9 (.load1 (.int .i64) τ8) 7 false,oG 10 (.callF 114 [τ9,(.const (.int .i64 65535))]) 7 false,oG 11 (.not Xcd) 7 false,oD 12 (.pick τ7 (.const (.bool true)) Xb8),oM 13 XcZ,oG 14 (.fieldA 3 τ1) 13 false,oG 15 (.load1 (.int .i64) Xdo) 13 false,oG 16 (.callF 114 [Xdl,(.const (.int .i64 255))]) 13 false,oG 17 (.not Xdp) 13 false,oD 18 (.pick Xc2 (.const (.bool true)) Xdm),oM 19 XdW,oG 20 (.fieldA 4 τ1) 19 false,oG 21 (.load1 (.int .i64) Xea) 19 false,oG 22 (.callF 114 [Xei,(.const (.int .i64 255))]) 19 false,oG 23 (.not XeN) 19 false,oD 24 (.pick XdM (.const (.bool true)) XeR)]
def k81_2:VC:=.reg [oD 2 (.mv (.const (.bool false)))]
def k81_3:VC:=.seq k81_2 .ret
def k81_4:VC:=.cond Xex k81_3 .skip
def k81_5:VC:=.seq k81_1 k81_4
def k81_6:VC:=.reg [oD 25 (.fieldA 5 τ1),oD 26 (.loadN [.bool,(.int .u64),(.int .u64)] XeX),oD 27 (.callF 115 [Xep]),oM 28 XeT,oG 29 (.fieldA 8 τ1) 28 true,oG 30 (.loadN [.bool,(.int .u64),(.int .u64)] Xe1) 28 true,oG 31 (.callF 115 [Xfy]) 28 true,oD 32 (.pick XeO Xfw (.const (.bool false))),oM 33 XfC,oG 34 (.fieldA 11 τ1) 33 true,oG 35 (.load1 .str XfK) 33 true,oG 36 (.lenS XfU) 33 true,oG 37 (.bin .rem XfV (.const (.int .i64 4))) 33 true,oG 38 (.bin .eql XfB (.const (.int .i64 0))) 33 true,oD 39 (.pick XfA XgM (.const (.bool false))),oM 40 XgK,oG 41 (.fieldA 11 τ1) 40 true,oG 42 (.load1 .str Xhs) 40 true,oG 43 (.lenS Xht) 40 true,oG 44 (.bin .leq XhC (.const (.int .i64 40))) 40 true,oD 45 (.pick Xhu Xim (.const (.bool false))),oM 2 XhP]
def k81_7:VC:=.seq k81_6 .ret
def k81_8:VC:=.seq k81_5 k81_7
def XWb:VC:=.seq k81_0 k81_8
def fn81:VFn:=⟨46,XWb,[.tmp 2]⟩
def XSY:VC:=.reg [oD 4 (.mv (.const (.bool false)))]
def XOC:VC:=.reg [oM 5 τ0,oD 6 (.bin .leq (.const (.int .i64 0)) τ5),oM 7 τ6,oG 8 (.mv τ0) 7 true,oG 9 (.mv τ1) 7 true,oG 10 (.bin .leq τ8 τ9) 7 true,oD 11 (.pick τ7 Xcd (.const (.bool false))),oM 4 Xb8]
def X1N:VC:=.seq XOC .ret
def Xze:VC:=.seq XSY X1N
def X26:VFn:=⟨12,Xze,[.tmp 4]⟩
def X4R:VC:=.reg [oD 1 (.box τ0),oD 2 (.mv (.const (.bool false)))]
def XXY:VC:=.reg [oD 3 (.fieldA 0 τ1),oD 4 (.load1 .bool τ3),oD 5 (.not τ4),oM 6 τ5,oG 7 (.loadN [.bool,(.int .u64),(.int .u64)] τ1) 6 true,oG 8 (.callF 113 [τ7]) 6 true,oD 9 (.pick τ6 τ8 (.const (.bool false))),oM 2 τ9]
def XLM:VC:=.seq XXY .ret
def XAy:VC:=.seq X4R XLM
def X47:VFn:=⟨10,XAy,[.tmp 2]⟩
def k7_0:VC:=.reg [oD 6 (.mv (.const (.string ⟨⟨[]⟩⟩))),oD 7 (.mv (.const (.int .i64 0)))]
def k7_1:VC:=.reg [oM 12 τ0,oD 13 (.callF 15 [XcZ]),oM 11 Xc2,oE 14 0 Xb8,oE 15 1 Xb8,oD 8 (.alloc [(.int .i64 0),(.bool false),(.int .u64 0),(.int .u64 0),(.bool false),(.int .u64 0),(.int .u64 0),(.int .i64 0),(.int .i64 0),(.int .i64 0),(.bool false),(.int .u32 0),(.int .u32 0),(.bool false),(.string ⟨⟨[]⟩⟩),(.int .i64 0)]),oN (.store 16 τ8 Xdo),oM 9 Xdl]
def k7_2:VC:=.reg [oM 16 τ9,oD 17 (.bin .neq Xdp (.const (.int .i64 0)))]
def k7_3:VC:=.reg [oM 18 τ9,oD 6 (.mv (.const (.string ⟨⟨[]⟩⟩))),oM 7 XdW]
def k7_4:VC:=.seq k7_3 .ret
def k7_5:VC:=.cond Xdm k7_4 .skip
def k7_6:VC:=.seq k7_2 k7_5
def k7_7:VC:=.reg [oM 19 τ0,oD 20 (.lenS XdM),oM 21 τ1,oM 22 τ2,oD 23 (.callF 9 [Xei,XeN]),oD 24 (.bin .leq Xea XeR)]
def k7_8:VC:=.reg [oD 6 (.mv (.const (.string ⟨⟨[]⟩⟩))),oD 7 (.mv (.const (.int .i64 11)))]
def k7_9:VC:=.seq k7_8 .ret
def k7_10:VC:=.cond Xex k7_9 .skip
def k7_11:VC:=.seq k7_7 k7_10
def k7_12:VC:=.reg [oM 25 τ1,oD 26 (.callF 26 [XeX]),oD 27 (.not Xep)]
def k7_13:VC:=.reg [oD 6 (.mv (.const (.string ⟨⟨[]⟩⟩))),oD 7 (.mv (.const (.int .i64 1)))]
def k7_14:VC:=.seq k7_13 .ret
def k7_15:VC:=.cond XeT k7_14 .skip
def k7_16:VC:=.seq k7_12 k7_15
def k7_17:VC:=.regD [oM 28 τ1,oM 29 τ2,oD 30 (.callF 9 [XeO,Xe1]),oM 31 τ0,oD 32 (.sliceS Xfw none (some (.const (.int .i64 28)))),oD 33 (.build [(.int .i64 0),(.int .i64 0),(.int .i64 0),(.string ⟨⟨[]⟩⟩)] [(0,1,(.const (.int .i64 2))),(1,1,(.const (.int .i64 4))),(2,1,Xfy),(3,1,XfC)]),oD 10 (.alloc [(.int .i64 0),(.int .i64 0),(.int .i64 0),(.string ⟨⟨[]⟩⟩)])] [(2,6)] [oN (.store 4 Xcd XfA)]
def k7_18:VC:=.reg [oD 34 (.fieldA 0 τ8),oD 35 (.fieldA 1 XfK),oD 36 (.fieldA 0 XfU),oD 37 (.load1 .bool XfV)]
def k7_19:VC:=.regD [oM 38 τ1,oM 39 τ2,oD 40 (.callF 9 [XgM,XgK]),oM 41 τ0,oD 42 (.sliceS Xhs none (some (.const (.int .i64 48))))] [] [oD 43 (.build [(.int .i64 0),(.int .i64 0),(.int .i64 0),(.string ⟨⟨[]⟩⟩)] [(0,1,(.const (.int .i64 2))),(2,1,Xhu),(3,1,Xht)]),oN (.store 4 Xcd XhC)]
def k7_20:VC:=.cond XfB k7_19 .skip
def k7_21:VC:=.seq k7_18 k7_20
def k7_22:VC:=.reg [oD 44 (.loadN [(.int .i64),(.int .i64),(.int .i64),.str] Xcd),oD 45 (.fieldA 0 τ8),oD 46 (.fieldA 4 XhP),oD 47 (.loadN [.bool,(.int .u64),(.int .u64)] Xin),oD 48 (.fieldA 0 τ8),oD 49 (.fieldA 1 XiP),oD 50 (.loadN [.bool,(.int .u64),(.int .u64)] XiO),oD 51 (.callF 27 [Xim,XhS,XiR]),oE 52 0 XiQ,oE 53 1 XiQ,oM 6 XjN,oM 7 XjO]
def k7_23:VC:=.seq k7_22 .ret
def k7_24:VC:=.seq k7_21 k7_23
def k7_25:VC:=.seq k7_17 k7_24
def k7_26:VC:=.seq k7_16 k7_25
def k7_27:VC:=.seq k7_11 k7_26
def k7_28:VC:=.seq k7_6 k7_27
def k7_29:VC:=.seq k7_1 k7_28
def XSr:VC:=.seq k7_0 k7_29
def fn7:VFn:=⟨54,XSr,[.tmp 6,.tmp 7]⟩
def k15_0:VC:=.reg [oD 2 (.alloc [(.int .i64 0),(.bool false),(.int .u64 0),(.int .u64 0),(.bool false),(.int .u64 0),(.int .u64 0),(.int .i64 0),(.int .i64 0),(.int .i64 0),(.bool false),(.int .u32 0),(.int .u32 0),(.bool false),(.string ⟨⟨[]⟩⟩),(.int .i64 0)]),oD 3 (.mv (.const (.int .i64 0)))]
def k15_1:VC:=.reg [oM 9 τ0,oD 10 (.callF 31 [τ9]),oM 8 Xcd,oE 11 0 τ8,oE 12 1 τ8,oE 13 2 τ8,oE 14 3 τ8,oD 4 (.alloc [(.int .i64 0),(.bool false),(.int .u64 0),(.int .u64 0),(.bool false),(.int .u64 0),(.int .u64 0),(.int .i64 0),(.int .i64 0),(.int .i64 0),(.bool false),(.int .u32 0),(.int .u32 0),(.bool false),(.string ⟨⟨[]⟩⟩),(.int .i64 0)]),oN (.store 16 τ4 Xb8),oM 5 XcZ,oM 6 Xc2,oM 7 Xdo]
def k15_2:VC:=.reg [oD 15 (.loadN [(.int .i64),.bool,(.int .u64),(.int .u64),.bool,(.int .u64),(.int .u64),(.int .i64),(.int .i64),(.int .i64),.bool,(.int .u32),(.int .u32),.bool,.str,(.int .i64)] τ4),oM 16 τ7,oN (.store 16 τ2 Xdl),oM 3 Xdp]
def k15_3:VC:=.seq k15_2 .ret
def k15_4:VC:=.seq k15_1 k15_3
def XMl:VC:=.seq k15_0 k15_4
def fn15:VFn:=⟨17,XMl,[.cell 2 [(.int .i64),.bool,(.int .u64),(.int .u64),.bool,(.int .u64),(.int .u64),(.int .i64),(.int .i64),(.int .i64),.bool,(.int .u32),(.int .u32),.bool,.str,(.int .i64)] true,.tmp 3]⟩
def k31_0:VC:=.reg [oD 2 (.alloc [(.int .i64 0),(.bool false),(.int .u64 0),(.int .u64 0),(.bool false),(.int .u64 0),(.int .u64 0),(.int .i64 0),(.int .i64 0),(.int .i64 0),(.bool false),(.int .u32 0),(.int .u32 0),(.bool false),(.string ⟨⟨[]⟩⟩),(.int .i64 0)]),oD 3 (.mv (.const (.int .i64 0))),oD 4 (.mv (.const (.int .i64 0))),oD 5 (.mv (.const (.int .i64 0)))]
def k31_1:VC:=.reg [oM 18 τ0,oD 19 (.lenS XdW),oD 20 (.bin .gtr XdM (.const (.int .i64 9000)))]
def k31_2:VC:=.reg [oD 21 (.build [(.int .i64 0),(.bool false),(.int .u64 0),(.int .u64 0),(.bool false),(.int .u64 0),(.int .u64 0),(.int .i64 0),(.int .i64 0),(.int .i64 0),(.bool false),(.int .u32 0),(.int .u32 0),(.bool false),(.string ⟨⟨[]⟩⟩),(.int .i64 0)] []),oN (.store 16 τ2 Xei),oD 3 (.mv (.const (.int .i64 0))),oD 4 (.mv (.const (.int .i64 0))),oD 5 (.mv (.const (.int .i64 5)))]
def k31_3:VC:=.seq k31_2 .ret
def k31_4:VC:=.cond Xea k31_3 .skip
def k31_5:VC:=.seq k31_1 k31_4
def k31_6:VC:=.reg [oM 22 τ0,oD 23 (.bin .eql XeN (.const (.string ⟨⟨[]⟩⟩)))]
def k31_7:VC:=.reg [oD 24 (.build [(.int .i64 0),(.bool false),(.int .u64 0),(.int .u64 0),(.bool false),(.int .u64 0),(.int .u64 0),(.int .i64 0),(.int .i64 0),(.int .i64 0),(.bool false),(.int .u32 0),(.int .u32 0),(.bool false),(.string ⟨⟨[]⟩⟩),(.int .i64 0)] []),oN (.store 16 τ2 Xex),oD 3 (.mv (.const (.int .i64 0))),oD 4 (.mv (.const (.int .i64 0))),oD 5 (.mv (.const (.int .i64 2)))]
def k31_8:VC:=.seq k31_7 .ret
def k31_9:VC:=.cond XeR k31_8 .skip
def X1y:VC:=.seq k31_6 k31_9
def XPQ:VC:=.reg [oM 26 τ0,oD 27 (.callF 56 [Xep]),oM 25 XeT,oE 28 0 XeX,oE 29 1 XeX,oD 6 (.alloc [(.bool false),(.int .u64 0),(.int .u64 0),(.bool false),(.int .u64 0),(.int .u64 0),(.int .i64 0),(.int .i64 0),(.string ⟨⟨[]⟩⟩)]),oN (.store 9 τ6 XeO),oM 7 Xe1]
def XWk:VC:=.reg [oM 30 τ7,oD 31 (.bin .neq Xfy (.const (.int .i64 0)))]
def XZz:VC:=.reg [oD 32 (.build [(.int .i64 0),(.bool false),(.int .u64 0),(.int .u64 0),(.bool false),(.int .u64 0),(.int .u64 0),(.int .i64 0),(.int .i64 0),(.int .i64 0),(.bool false),(.int .u32 0),(.int .u32 0),(.bool false),(.string ⟨⟨[]⟩⟩),(.int .i64 0)] []),oM 33 τ7,oN (.store 16 τ2 XfC),oD 3 (.mv (.const (.int .i64 0))),oD 4 (.mv (.const (.int .i64 0))),oM 5 XfA]
def XYw:VC:=.seq XZz .ret
def X6v:VC:=.cond Xfw XYw .skip
def XOV:VC:=.seq XWk X6v
def X4V:VC:=.reg [oD 34 (.fieldA 7 τ6),oD 35 (.load1 (.int .i64) XfK),oD 36 (.fieldA 8 τ6),oD 37 (.load1 .str XfV),oD 38 (.lenS XfB),oD 39 (.bin .add XfU XgM),oM 40 τ0,oD 41 (.lenS Xhu),oD 42 (.bin .neq XgK Xhs)]
def X4c:VC:=.reg [oD 43 (.build [(.int .i64 0),(.bool false),(.int .u64 0),(.int .u64 0),(.bool false),(.int .u64 0),(.int .u64 0),(.int .i64 0),(.int .i64 0),(.int .i64 0),(.bool false),(.int .u32 0),(.int .u32 0),(.bool false),(.string ⟨⟨[]⟩⟩),(.int .i64 0)] []),oN (.store 16 τ2 XhC),oD 3 (.mv (.const (.int .i64 0))),oD 4 (.mv (.const (.int .i64 0))),oD 5 (.mv (.const (.int .i64 5)))]
def XZR:VC:=.seq X4c .ret
def X5o:VC:=.cond Xht XZR .skip
def X1s:VC:=.seq X4V X5o
def XYG:VC:=.reg [oM 44 τ0,oD 45 (.lenS Xim),oD 46 (.fieldA 6 τ6),oD 47 (.load1 (.int .i64) Xin),oD 48 (.fieldA 0 τ6),oD 49 (.loadN [.bool,(.int .u64),(.int .u64)] XiP),oD 50 (.fieldA 3 τ6),oD 51 (.loadN [.bool,(.int .u64),(.int .u64)] XiR),oD 52 (.build [(.int .i64 0),(.bool false),(.int .u64 0),(.int .u64 0),(.bool false),(.int .u64 0),(.int .u64 0),(.int .i64 0),(.int .i64 0)] [(0,1,XhS),(1,3,XiO),(4,3,XiQ)]),oD 53 (.build [(.int .i64 0),(.bool false),(.int .u64 0),(.int .u64 0),(.bool false),(.int .u64 0),(.int .u64 0),(.int .i64 0),(.int .i64 0),(.int .i64 0),(.bool false),(.int .u32 0),(.int .u32 0),(.bool false),(.string ⟨⟨[]⟩⟩),(.int .i64 0)] [(15,1,XhP),(0,9,XjN)]),oD 8 (.alloc [(.int .i64 0),(.bool false),(.int .u64 0),(.int .u64 0),(.bool false),(.int .u64 0),(.int .u64 0),(.int .i64 0),(.int .i64 0),(.int .i64 0),(.bool false),(.int .u32 0),(.int .u32 0),(.bool false),(.string ⟨⟨[]⟩⟩),(.int .i64 0)]),oN (.store 16 τ8 XjO)]
def XT3:VC:=.reg [oD 54 (.fieldA 6 τ6),oD 55 (.load1 (.int .i64) XkV),oD 56 (.bin .eql Xk3 (.const (.int .i64 6)))]
def XNs:VC:=.reg [oD 58 (.fieldA 8 τ6),oD 59 (.load1 .str XkW),oD 60 (.fieldA 0 τ6),oD 61 (.loadN [.bool,(.int .u64),(.int .u64)] Xl4),oD 62 (.fieldA 3 τ6),oD 63 (.loadN [.bool,(.int .u64),(.int .u64)] XmX),oD 64 (.callF 57 [Xk8,Xl7,Xow]),oM 57 Xn3,oE 65 0 XkK,oE 66 1 XkK,oE 67 2 XkK,oD 9 (.alloc [(.int .i64 0),(.int .i64 0),(.int .u32 0),(.int .u32 0),(.int .i64 0),(.int .i64 0),(.int .i64 0),(.string ⟨⟨[]⟩⟩)]),oN (.store 8 τ9 XoH),oM 10 Xo1,oM 11 XoE]
def X6f:VC:=.reg [oM 68 Xb8,oD 69 (.bin .neq XpF (.const (.int .i64 0)))]
def X3j:VC:=.reg [oD 70 (.build [(.int .i64 0),(.bool false),(.int .u64 0),(.int .u64 0),(.bool false),(.int .u64 0),(.int .u64 0),(.int .i64 0),(.int .i64 0),(.int .i64 0),(.bool false),(.int .u32 0),(.int .u32 0),(.bool false),(.string ⟨⟨[]⟩⟩),(.int .i64 0)] []),oM 71 Xb8,oN (.store 16 τ2 Xq8),oD 3 (.mv (.const (.int .i64 0))),oD 4 (.mv (.const (.int .i64 0))),oM 5 Xq3]
def XRB:VC:=.seq X3j .ret
def XOQ:VC:=.cond Xpj XRB .skip
def XVW:VC:=.seq X6f XOQ
def XN4:VC:=.reg [oD 72 (.fieldA 0 τ9),oD 73 (.load1 (.int .i64) Xq1),oD 74 (.fieldA 0 τ8),oD 75 (.fieldA 7 XtP),oN (.store 1 XtI Xr9)]
def X0c:VC:=.reg [oD 76 (.fieldA 1 τ9),oD 77 (.load1 (.int .i64) XvY),oD 78 (.fieldA 0 τ8),oD 79 (.fieldA 8 Xv3),oN (.store 1 XwR XuG)]
def XSX:VC:=.reg [oD 80 (.fieldA 4 τ9),oD 81 (.load1 (.int .i64) Xv0),oD 82 (.fieldA 9 τ8),oN (.store 1 XAG XxB)]
def X5j:VC:=.reg [oD 84 (.fieldA 7 τ9),oD 85 (.load1 .str Xzp),oD 86 (.callF 58 [XDX]),oM 83 XG7,oE 87 0 Xv1,oE 88 1 Xv1,oE 89 2 Xv1,oM 12 XDb,oM 13 XI6,oM 14 XBr]
def XQc:VC:=.reg [oM 90 Xdo,oD 91 (.bin .geq XIe (.const (.int .i64 0)))]
def X4A:VC:=.reg [oD 92 (.fieldA 10 τ8),oN (.store 1 XEL (.const (.bool true)))]
def X1R:VC:=.reg [oM 93 XcZ,oD 94 (.fieldA 11 τ8),oN (.store 1 XDB XGb)]
def XPh:VC:=.reg [oM 95 Xc2,oD 96 (.fieldA 12 τ8),oN (.store 1 XCM XGg)]
def X01:VC:=.seq X1R XPh
def XQ2:VC:=.seq X4A X01
def X4x:VC:=.cond XCg XQ2 .skip
def X1k:VC:=.seq XQc X4x
def XOu:VC:=.regD [oD 97 (.loadN [(.int .i64),.bool,(.int .u64),(.int .u64),.bool,(.int .u64),(.int .u64),(.int .i64),(.int .i64),(.int .i64),.bool,(.int .u32),(.int .u32),.bool,.str,(.int .i64)] τ8),oD 98 (.fieldA 7 τ6),oD 99 (.load1 (.int .i64) τ98),oD 100 (.fieldA 7 τ6),oD 101 (.load1 (.int .i64) XKX),oD 102 (.bin .add XEy (.const (.int .i64 20))),oD 103 (.fieldA 7 τ9),oD 104 (.load1 .str XLN),oD 105 (.lenS X27),oD 106 (.bin .add XLK XQB),oN (.store 16 τ2 XLk),oM 3 τ99] [(2,10),(4,10),(7,10)] [oM 4 XXi,oD 5 (.mv (.const (.int .i64 0)))]
def XR9:VC:=.seq XOu .ret
def XW6:VC:=.seq X1k XR9
def X3V:VC:=.seq X5j XW6
def XPG:VC:=.seq XSX X3V
def XRt:VC:=.seq X0c XPG
def XVg:VC:=.seq XN4 XRt
def XWP:VC:=.seq XVW XVg
def XUI:VC:=.seq XNs XWP
def XVz:VC:=.cond Xlp XUI .skip
def XZy:VC:=.seq XT3 XVz
def XUN:VC:=.reg [oD 107 (.fieldA 6 τ6),oD 108 (.load1 (.int .i64) XOc),oD 109 (.bin .neq XMA (.const (.int .i64 17)))]
def XO5:VC:=.reg [oD 110 (.build [(.int .i64 0),(.bool false),(.int .u64 0),(.int .u64 0),(.bool false),(.int .u64 0),(.int .u64 0),(.int .i64 0),(.int .i64 0),(.int .i64 0),(.bool false),(.int .u32 0),(.int .u32 0),(.bool false),(.string ⟨⟨[]⟩⟩),(.int .i64 0)] []),oN (.store 16 τ2 XNS),oD 3 (.mv (.const (.int .i64 0))),oD 4 (.mv (.const (.int .i64 0))),oD 5 (.mv (.const (.int .i64 6)))]
def X3l:VC:=.seq XO5 .ret
def XXu:VC:=.cond XNH X3l .skip
def X3g:VC:=.seq XUN XXu
def XRW:VC:=.reg [oD 112 (.fieldA 8 τ6),oD 113 (.load1 .str X57),oD 114 (.fieldA 0 τ6),oD 115 (.loadN [.bool,(.int .u64),(.int .u64)] XQZ),oD 116 (.fieldA 3 τ6),oD 117 (.loadN [.bool,(.int .u64),(.int .u64)] XOv),oD 118 (.callF 59 [XL2,XL5,X0x]),oM 111 XXI,oE 119 0 Xx8,oE 120 1 Xx8,oE 121 2 Xx8,oD 15 (.alloc [(.int .i64 0),(.int .i64 0)]),oN (.store 2 Xdl X0i),oM 16 XZ0,oM 7 XZn]
def XOh:VC:=.reg [oM 122 τ7,oD 123 (.bin .neq X1G (.const (.int .i64 0)))]
def XQp:VC:=.reg [oD 124 (.build [(.int .i64 0),(.bool false),(.int .u64 0),(.int .u64 0),(.bool false),(.int .u64 0),(.int .u64 0),(.int .i64 0),(.int .i64 0),(.int .i64 0),(.bool false),(.int .u32 0),(.int .u32 0),(.bool false),(.string ⟨⟨[]⟩⟩),(.int .i64 0)] []),oM 125 τ7,oN (.store 16 τ2 XMb),oD 3 (.mv (.const (.int .i64 0))),oD 4 (.mv (.const (.int .i64 0))),oM 5 XLZ]
def X4y:VC:=.seq XQp .ret
def XVY:VC:=.cond X6Z X4y .skip
def XXm:VC:=.seq XOh XVY
def XNw:VC:=.reg [oM 126 Xdp,oD 127 (.lenS XZG),oD 128 (.bin .add XMq (.const (.int .i64 8))),oD 129 (.fieldA 8 τ6),oD 130 (.load1 .str XSo),oD 131 (.lenS X35),oD 132 (.bin .neq X4q XRN)]
def XXN:VC:=.reg [oD 133 (.build [(.int .i64 0),(.bool false),(.int .u64 0),(.int .u64 0),(.bool false),(.int .u64 0),(.int .u64 0),(.int .i64 0),(.int .i64 0),(.int .i64 0),(.bool false),(.int .u32 0),(.int .u32 0),(.bool false),(.string ⟨⟨[]⟩⟩),(.int .i64 0)] []),oN (.store 16 τ2 XM3),oD 3 (.mv (.const (.int .i64 0))),oD 4 (.mv (.const (.int .i64 0))),oD 5 (.mv (.const (.int .i64 5)))]
def XPe:VC:=.seq XXN .ret
def XMk:VC:=.cond XSv XPe .skip
def X0E:VC:=.seq XNw XMk
def X1C:VC:=.reg [oD 134 (.fieldA 0 Xdl),oD 135 (.load1 (.int .i64) XWO),oD 136 (.fieldA 0 τ8),oD 137 (.fieldA 7 X1t),oN (.store 1 XVQ X49)]
def XRU:VC:=.reg [oD 138 (.fieldA 1 Xdl),oD 139 (.load1 (.int .i64) XWS),oD 140 (.fieldA 0 τ8),oD 141 (.fieldA 8 XUY),oN (.store 1 XYT XPt)]
def XPj:VC:=.reg [oM 143 Xdp,oD 144 (.callF 21 [XIP]),oM 142 XTB,oE 145 0 XDY,oE 146 1 XDY,oD 17 (.alloc [(.bool false),(.int .i64 0),(.int .u32 0),(.string ⟨⟨[]⟩⟩),(.string ⟨⟨[]⟩⟩),(.string ⟨⟨[]⟩⟩)]),oN (.store 6 Xdm X0K),oM 7 XXO]
def XZb:VC:=.reg [oM 147 τ7,oD 148 (.bin .eql XSq (.const (.int .i64 0)))]
def X6B:VC:=.reg [oD 149 (.fieldA 0 Xdm),oD 150 (.load1 .bool XPX),oD 151 (.fieldA 13 τ8),oN (.store 1 X5Z XUV)]
def XZj:VC:=.reg [oD 152 (.fieldA 3 Xdm),oD 153 (.load1 .str XZE),oD 154 (.fieldA 14 τ8),oN (.store 1 X44 XMm)]
def XNQ:VC:=.seq X6B XZj
def XN7:VC:=.cond XYr XNQ .skip
def XXv:VC:=.seq XZb XN7
def X3P:VC:=.regD [oD 155 (.loadN [(.int .i64),.bool,(.int .u64),(.int .u64),.bool,(.int .u64),(.int .u64),(.int .i64),(.int .i64),(.int .i64),.bool,(.int .u32),(.int .u32),.bool,.str,(.int .i64)] τ8),oD 156 (.fieldA 7 τ6),oD 157 (.load1 (.int .i64) XEl),oD 158 (.fieldA 7 τ6),oD 159 (.load1 (.int .i64) XQe),oD 160 (.bin .add XMf (.const (.int .i64 8))),oN (.store 16 τ2 XXx),oM 3 XTg] [(2,6),(4,6)] [oM 4 XQT,oD 5 (.mv (.const (.int .i64 0)))]
def X0O:VC:=.seq X3P .ret
def XZ5:VC:=.seq XXv X0O
def XVV:VC:=.seq XPj XZ5
def X2X:VC:=.seq XRU XVV
def X0f:VC:=.seq X1C X2X
def XUy:VC:=.seq X0E X0f
def XPd:VC:=.seq XXm XUy
def XT2:VC:=.seq XRW XPd
def XWA:VC:=.seq X3g XT2
def XTI:VC:=.seq XZy XWA
def XRQ:VC:=.seq XYG XTI
def X7D:VC:=.seq X1s XRQ
def X4J:VC:=.seq XOV X7D
def XMP:VC:=.seq XPQ X4J
def X5d:VC:=.seq X1y XMP
def XQf:VC:=.seq k31_5 X5d
def XA8:VC:=.seq k31_0 XQf
def fn31:VFn:=⟨161,XA8,[.cell 2 [(.int .i64),.bool,(.int .u64),(.int .u64),.bool,(.int .u64),(.int .u64),(.int .i64),(.int .i64),(.int .i64),.bool,(.int .u32),(.int .u32),.bool,.str,(.int .i64)] true,.tmp 3,.tmp 4,.tmp 5]⟩
def k56_0:VC:=.reg [oD 2 (.alloc [(.bool false),(.int .u64 0),(.int .u64 0),(.bool false),(.int .u64 0),(.int .u64 0),(.int .i64 0),(.int .i64 0),(.string ⟨⟨[]⟩⟩)]),oD 3 (.mv (.const (.int .i64 0)))]
def k56_1:VC:=.reg [oM 10 τ0,oD 11 (.idxS Xcd (.const (.int .i64 0))),oD 12 (.bin .quo Xb8 (.const (.int .u8 16))),oD 13 (.bin .eql XcZ (.const (.int .u8 4)))]
def k56_2:VC:=.reg [oM 15 τ0,oD 16 (.callF 98 [Xdl]),oM 14 Xdp,oE 17 0 Xdo,oE 18 1 Xdo,oE 19 2 Xdo,oD 4 (.alloc [(.int .i64 0),(.int .i64 0),(.bool false),(.int .i64 0),(.int .i64 0),(.bool false),(.int .u64 0),(.int .u64 0),(.bool false),(.int .u64 0),(.int .u64 0),(.string ⟨⟨[]⟩⟩)]),oN (.store 12 τ4 Xdm),oM 5 XdW,oM 6 XdM]
def k56_3:VC:=.reg [oD 20 (.fieldA 5 τ4),oD 21 (.loadN [.bool,(.int .u64),(.int .u64)] Xea),oD 22 (.fieldA 8 τ4),oD 23 (.loadN [.bool,(.int .u64),(.int .u64)] XeN),oD 24 (.fieldA 4 τ4),oD 25 (.load1 (.int .i64) Xex),oD 26 (.fieldA 11 τ4),oD 27 (.load1 .str Xep),oD 28 (.lenS XeT),oD 29 (.bin .add (.const (.int .i64 20)) XeO),oM 30 τ5,oD 31 (.build [(.bool false),(.int .u64 0),(.int .u64 0),(.bool false),(.int .u64 0),(.int .u64 0),(.int .i64 0),(.int .i64 0),(.string ⟨⟨[]⟩⟩)] [(0,3,Xei),(3,3,XeR),(6,1,XeX),(7,1,Xe1),(8,1,Xfy)]),oM 32 τ6,oN (.store 9 τ2 Xfw),oM 3 XfC]
def k56_4:VC:=.seq k56_3 .ret
def k56_5:VC:=.seq k56_2 k56_4
def k56_6:VC:=.cond Xc2 k56_5 .skip
def k56_7:VC:=.seq k56_1 k56_6
def k56_8:VC:=.reg [oM 33 τ0,oD 34 (.idxS XfA (.const (.int .i64 0))),oD 35 (.bin .quo XfK (.const (.int .u8 16))),oD 36 (.bin .eql XfU (.const (.int .u8 6)))]
def k56_9:VC:=.reg [oM 38 τ0,oD 39 (.callF 99 [XgM]),oM 37 XgK,oE 40 0 XfB,oE 41 1 XfB,oE 42 2 XfB,oD 7 (.alloc [(.int .i64 0),(.int .i64 0),(.int .i64 0),(.int .i64 0),(.bool false),(.int .u64 0),(.int .u64 0),(.bool false),(.int .u64 0),(.int .u64 0)]),oN (.store 10 τ7 Xhu),oM 8 Xhs,oM 9 Xht]
def XOy:VC:=.reg [oD 43 (.fieldA 4 τ7),oD 44 (.loadN [.bool,(.int .u64),(.int .u64)] XhC),oD 45 (.fieldA 7 τ7),oD 46 (.loadN [.bool,(.int .u64),(.int .u64)] XhP),oD 47 (.fieldA 2 τ7),oD 48 (.load1 (.int .i64) XhS),oM 49 τ8,oD 50 (.build [(.bool false),(.int .u64 0),(.int .u64 0),(.bool false),(.int .u64 0),(.int .u64 0),(.int .i64 0),(.int .i64 0),(.string ⟨⟨[]⟩⟩)] [(0,3,Xim),(3,3,Xin),(6,1,XiP),(7,1,(.const (.int .i64 40))),(8,1,XiO)]),oM 51 τ9,oN (.store 9 τ2 XiR),oM 3 XiQ]
def X5b:VC:=.seq XOy .ret
def X6E:VC:=.seq k56_9 X5b
def XSJ:VC:=.cond XfV X6E .skip
def XON:VC:=.seq k56_8 XSJ
def XTt:VC:=.reg [oD 52 (.build [(.bool false),(.int .u64 0),(.int .u64 0),(.bool false),(.int .u64 0),(.int .u64 0),(.int .i64 0),(.int .i64 0),(.string ⟨⟨[]⟩⟩)] []),oN (.store 9 τ2 XjN),oD 3 (.mv (.const (.int .i64 3)))]
def XTX:VC:=.seq XTt .ret
def X7e:VC:=.seq XON XTX
def XYC:VC:=.seq k56_7 X7e
def Xzi:VC:=.seq k56_0 XYC
def fn56:VFn:=⟨53,Xzi,[.cell 2 [.bool,(.int .u64),(.int .u64),.bool,(.int .u64),(.int .u64),(.int .i64),(.int .i64),.str] true,.tmp 3]⟩
def k98_0:VC:=.reg [oD 2 (.alloc [(.int .i64 0),(.int .i64 0),(.bool false),(.int .i64 0),(.int .i64 0),(.bool false),(.int .u64 0),(.int .u64 0),(.bool false),(.int .u64 0),(.int .u64 0),(.string ⟨⟨[]⟩⟩)]),oD 3 (.mv (.const (.string ⟨⟨[]⟩⟩))),oD 4 (.mv (.const (.int .i64 0)))]
def k98_1:VC:=.reg [oM 11 τ0,oD 12 (.lenS Xb8),oD 13 (.bin .lss XcZ (.const (.int .i64 20)))]
def k98_2:VC:=.reg [oD 14 (.build [(.int .i64 0),(.int .i64 0),(.bool false),(.int .i64 0),(.int .i64 0),(.bool false),(.int .u64 0),(.int .u64 0),(.bool false),(.int .u64 0),(.int .u64 0),(.string ⟨⟨[]⟩⟩)] []),oN (.store 12 τ2 Xdo),oD 3 (.mv (.const (.string ⟨⟨[]⟩⟩))),oD 4 (.mv (.const (.int .i64 2)))]
def k98_3:VC:=.seq k98_2 .ret
def k98_4:VC:=.cond Xc2 k98_3 .skip
def k98_5:VC:=.seq k98_1 k98_4
def k98_6:VC:=.regD [oM 15 τ0,oD 16 (.idxS Xdl (.const (.int .i64 0))),oD 17 (.bin .rem Xdp (.const (.int .u8 16))),oD 18 (.conv .i64 Xdm),oD 19 (.bin .mul (.const (.int .i64 4)) XdW),oM 20 τ0,oD 21 (.callF 44 [Xea,(.const (.int .i64 2)),(.const (.int .i64 2))])] [] [oM 5 XdM,oM 6 Xei]
def k98_7:VC:=.reg [oM 22 τ0,oD 23 (.idxS XeN (.const (.int .i64 0))),oD 24 (.bin .quo XeR (.const (.int .u8 16))),oD 25 (.bin .neq Xex (.const (.int .u8 4))),oM 26 XeX,oG 27 (.mv τ5) 26 false,oG 28 (.bin .lss XeT (.const (.int .i64 20))) 26 false,oD 29 (.pick Xep (.const (.bool true)) XeO),oM 30 Xe1,oG 31 (.mv τ6) 30 false,oG 32 (.mv τ5) 30 false,oG 33 (.bin .lss Xfw XfC) 30 false,oD 34 (.pick Xfy (.const (.bool true)) XfA)]
def k98_8:VC:=.reg [oD 35 (.build [(.int .i64 0),(.int .i64 0),(.bool false),(.int .i64 0),(.int .i64 0),(.bool false),(.int .u64 0),(.int .u64 0),(.bool false),(.int .u64 0),(.int .u64 0),(.string ⟨⟨[]⟩⟩)] []),oN (.store 12 τ2 XfU),oD 3 (.mv (.const (.string ⟨⟨[]⟩⟩))),oD 4 (.mv (.const (.int .i64 3)))]
def k98_9:VC:=.seq k98_8 .ret
def XSi:VC:=.cond XfK k98_9 .skip
def X2m:VC:=.seq k98_7 XSi
def XSH:VC:=.reg [oM 36 τ0,oD 37 (.lenS XfV),oM 38 τ6,oD 39 (.bin .lss XfB XgM)]
def X6S:VC:=.reg [oD 40 (.build [(.int .i64 0),(.int .i64 0),(.bool false),(.int .i64 0),(.int .i64 0),(.bool false),(.int .u64 0),(.int .u64 0),(.bool false),(.int .u64 0),(.int .u64 0),(.string ⟨⟨[]⟩⟩)] []),oN (.store 12 τ2 Xhu),oD 3 (.mv (.const (.string ⟨⟨[]⟩⟩))),oD 4 (.mv (.const (.int .i64 2)))]
def XNA:VC:=.seq X6S .ret
def XPb:VC:=.cond XgK XNA .skip
def XQu:VC:=.seq XSH XPb
def XUs:VC:=.reg [oM 41 τ0,oM 42 τ5,oD 43 (.sliceS Xhs none (some Xht)),oD 44 (.callF 100 [XhC]),oD 45 (.bin .neq Xim (.const (.int .i64 65535)))]
def XO2:VC:=.reg [oD 46 (.build [(.int .i64 0),(.int .i64 0),(.bool false),(.int .i64 0),(.int .i64 0),(.bool false),(.int .u64 0),(.int .u64 0),(.bool false),(.int .u64 0),(.int .u64 0),(.string ⟨⟨[]⟩⟩)] []),oN (.store 12 τ2 Xin),oD 3 (.mv (.const (.string ⟨⟨[]⟩⟩))),oD 4 (.mv (.const (.int .i64 4)))]
def XSp:VC:=.seq XO2 .ret
def XQm:VC:=.cond XhP XSp .skip
def X2i:VC:=.seq XUs XQm
def XRc:VC:=.reg [oM 47 τ0,oD 48 (.idxS XhS (.const (.int .i64 6))),oD 49 (.bin .neq XiP (.const (.int .u8 0))),oM 50 XiO,oG 51 (.mv τ0) 50 true,oG 52 (.idxS XiQ (.const (.int .i64 6))) 50 true,oG 53 (.bin .neq XjN (.const (.int .u8 64))) 50 true,oD 54 (.pick XiR XjO (.const (.bool false))),oM 55 XkV,oG 56 (.mv τ0) 55 false,oG 57 (.idxS Xlp (.const (.int .i64 7))) 55 false,oG 58 (.bin .neq XkK (.const (.int .u8 0))) 55 false,oD 59 (.pick Xk3 (.const (.bool true)) XkW)]
def X2t:VC:=.reg [oD 60 (.build [(.int .i64 0),(.int .i64 0),(.bool false),(.int .i64 0),(.int .i64 0),(.bool false),(.int .u64 0),(.int .u64 0),(.bool false),(.int .u64 0),(.int .u64 0),(.string ⟨⟨[]⟩⟩)] []),oN (.store 12 τ2 Xl4),oD 3 (.mv (.const (.string ⟨⟨[]⟩⟩))),oD 4 (.mv (.const (.int .i64 7)))]
def XPI:VC:=.seq X2t .ret
def XY8:VC:=.cond Xk8 XPI .skip
def XZM:VC:=.seq XRc XY8
def XWF:VC:=.reg [oM 62 τ0,oD 63 (.sliceS XmX (some (.const (.int .i64 12))) (some (.const (.int .i64 16)))),oD 64 (.callF 122 [Xow]),oM 61 Xn3,oE 65 0 Xl7,oE 66 1 Xl7,oD 7 (.alloc [(.bool false),(.int .u64 0),(.int .u64 0)]),oN (.store 3 τ7 XoH),oM 8 Xo1]
def XLQ:VC:=.reg [oM 68 τ0,oD 69 (.sliceS XpF (some (.const (.int .i64 16))) (some (.const (.int .i64 20)))),oD 70 (.callF 122 [Xpj]),oM 67 Xq8,oE 71 0 XoE,oE 72 1 XoE,oD 9 (.alloc [(.bool false),(.int .u64 0),(.int .u64 0)]),oN (.store 3 τ9 Xq3),oM 10 Xq1]
def XZw:VC:=.regD [oM 73 τ0,oD 74 (.idxS Xr9 (.const (.int .i64 1))),oD 75 (.conv .i64 XtP),oM 76 τ0,oD 77 (.callF 44 [XvY,(.const (.int .i64 4)),(.const (.int .i64 2))]),oM 78 τ0,oD 79 (.idxS Xv3 (.const (.int .i64 6))),oD 80 (.bin .eql XwR (.const (.int .u8 64))),oM 81 τ0,oD 82 (.idxS XxB (.const (.int .i64 8))),oD 83 (.conv .i64 XAG),oM 84 τ0,oD 85 (.idxS Xzp (.const (.int .i64 9))),oD 86 (.conv .i64 XDX),oD 87 (.loadN [.bool,(.int .u64),(.int .u64)] τ7),oD 88 (.loadN [.bool,(.int .u64),(.int .u64)] τ9),oM 89 τ0,oM 90 τ5,oD 91 (.sliceS XBr (some (.const (.int .i64 20))) (some XIe)),oD 92 (.build [(.int .i64 0),(.int .i64 0),(.bool false),(.int .i64 0),(.int .i64 0),(.bool false),(.int .u64 0),(.int .u64 0),(.bool false),(.int .u64 0),(.int .u64 0),(.string ⟨⟨[]⟩⟩)] [(0,1,XtI),(1,1,XuG),(2,1,Xv0),(3,1,Xv1),(4,1,XG7),(5,3,XDb),(8,3,XI6),(11,1,XCg)]),oM 93 τ0,oM 94 τ5,oM 95 τ6,oD 96 (.sliceS XGb (some XDB) (some XGg)),oN (.store 12 τ2 XEL)] [(4,14),(4,15)] [oM 3 XCM,oD 4 (.mv (.const (.int .i64 0)))]
def XV2:VC:=.seq XZw .ret
def XW0:VC:=.seq XLQ XV2
def XMR:VC:=.seq XWF XW0
def XUf:VC:=.seq XZM XMR
def XYO:VC:=.seq X2i XUf
def XU3:VC:=.seq XQu XYO
def X68:VC:=.seq X2m XU3
def XNK:VC:=.seq k98_6 X68
def XVX:VC:=.seq k98_5 XNK
def Xz5:VC:=.seq k98_0 XVX
def fn98:VFn:=⟨97,Xz5,[.cell 2 [(.int .i64),(.int .i64),.bool,(.int .i64),(.int .i64),.bool,(.int .u64),(.int .u64),.bool,(.int .u64),(.int .u64),.str] true,.tmp 3,.tmp 4]⟩
def k44_0:VC:=.reg [oD 6 (.mv (.const (.int .i64 0)))]
def k44_1:VC:=.reg [oM 10 τ0,oM 11 τ1,oM 12 τ2,oD 13 (.callF 70 [Xcd,Xb8,XcZ]),oM 9 Xc2,oE 14 0 τ9,oE 15 1 τ9,oM 7 Xdo,oM 8 Xdl]
def k44_2:VC:=.reg [oM 16 τ7,oD 17 (.conv .i64 Xdp),oM 6 Xdm]
def k44_3:VC:=.seq k44_2 .ret
def k44_4:VC:=.seq k44_1 k44_3
def XQr:VC:=.seq k44_0 k44_4
def fn44:VFn:=⟨18,XQr,[.tmp 6]⟩
def k70_0:VC:=.reg [oD 6 (.mv (.const (.int .u64 0))),oD 7 (.mv (.const (.bool false)))]
def k70_1:VC:=.reg [oM 10 τ2,oD 11 (.bin .lss Xcd (.const (.int .i64 1))),oM 12 Xb8,oG 13 (.mv τ2) 12 false,oG 14 (.bin .gtr Xc2 (.const (.int .i64 8))) 12 false,oD 15 (.pick XcZ (.const (.bool true)) Xdo),oM 16 Xdl,oG 17 (.mv τ1) 16 false,oG 18 (.bin .lss Xdm (.const (.int .i64 0))) 16 false,oD 19 (.pick Xdp (.const (.bool true)) XdW),oM 20 XdM,oG 21 (.mv τ1) 20 false,oG 22 (.mv τ0) 20 false,oG 23 (.lenS XeN) 20 false,oG 24 (.bin .gtr Xei XeR) 20 false,oD 25 (.pick Xea (.const (.bool true)) Xex),oM 26 XeX,oG 27 (.mv τ2) 26 false,oG 28 (.mv τ0) 26 false,oG 29 (.lenS XeO) 26 false,oG 30 (.mv τ1) 26 false,oG 31 (.bin .sub Xe1 Xfy) 26 false,oG 32 (.bin .gtr XeT Xfw) 26 false,oD 33 (.pick Xep (.const (.bool true)) XfC)]
def k70_2:VC:=.reg [oD 6 (.mv (.const (.int .u64 0))),oD 7 (.mv (.const (.bool false)))]
def k70_3:VC:=.seq k70_2 .ret
def k70_4:VC:=.cond XfA k70_3 .skip
def k70_5:VC:=.seq k70_1 k70_4
def k70_6:VC:=.reg [oD 8 (.mv (.const (.int .u64 0)))]
def k70_7:VC:=.reg [oD 9 (.mv (.const (.int .i64 0)))]
def k70_8:VC:=.reg [oM 34 τ9,oM 35 τ2,oD 36 (.bin .lss XfK XfU)]
def k70_9:VC:=.cond XfV .skip (.exit 0)
def XVq:VC:=.seq k70_8 k70_9
def X1f:VC:=.reg [oM 39 τ8,oD 40 (.bin .mul XgK (.const (.int .u64 256))),oM 41 τ0,oM 42 τ1,oM 43 τ9,oD 44 (.bin .add Xht XhC),oD 45 (.idxS Xhs Xim),oD 46 (.conv .u64 XhP),oD 47 (.bin .add Xhu Xin),oM 8 XhS]
def XQi:VC:=.block 1 X1f
def X53:VC:=.reg [oM 37 τ9,oD 38 (.bin .add XfB (.const (.int .i64 1))),oM 9 XgM]
def XNa:VC:=.seq XQi X53
def Xt1:VC:=.seq XVq XNa
def XNU:VC:=.loop Xt1
def XYc:VC:=.block 0 XNU
def XR0:VC:=.seq k70_7 XYc
def XMG:VC:=.reg [oM 48 τ8,oM 6 XiP,oD 7 (.mv (.const (.bool true)))]
def XzJ:VC:=.seq XMG .ret
def XUx:VC:=.seq XR0 XzJ
def X06:VC:=.seq k70_6 XUx
def X28:VC:=.seq k70_5 X06
def XAF:VC:=.seq k70_0 X28
def fn70:VFn:=⟨49,XAF,[.tmp 6,.tmp 7]⟩
def XQ1:VC:=.reg [oD 2 (.mv (.const (.int .i64 0)))]
def X3W:VC:=.reg [oM 3 τ0,oD 4 (.callF 124 [τ3]),oD 5 (.callF 123 [τ4]),oM 2 τ5]
def X3p:VC:=.seq X3W .ret
def XAW:VC:=.seq XQ1 X3p
def X1Q:VFn:=⟨6,XAW,[.tmp 2]⟩
def XQx:VC:=.reg [oD 2 (.mv (.const (.slice none 0 0)))]
def X0w:VC:=.reg [oM 5 τ0,oD 6 (.lenS τ5),oD 7 (.bin .rem τ6 (.const (.int .i64 2))),oD 8 (.bin .eql τ7 (.const (.int .i64 1)))]
def X3x:VC:=.reg [oM 9 τ0,oD 10 (.bin .add τ9 (.const (.string ⟨⟨[0]⟩⟩))),oM 0 Xcd]
def X5l:VC:=.cond τ8 X3x .skip
def XPp:VC:=.seq X0w X5l
def XMF:VC:=.reg [oD 3 (.mv (.const (.slice none 0 0)))]
def X7M:VC:=.reg [oD 4 (.mv (.const (.int .i64 0)))]
def XSt:VC:=.reg [oM 11 τ4,oM 12 τ0,oD 13 (.lenS XcZ),oD 14 (.bin .lss Xb8 Xc2)]
def XWt:VC:=.cond Xdo .skip (.exit 0)
def X5i:VC:=.seq XSt XWt
def XKk:VC:=.reg [oM 17 τ3,oM 18 τ0,oM 19 τ4,oD 20 (.callF 44 [XdW,XdM,(.const (.int .i64 2))]),oD 21 (.buildSl 1 1 [(.int .i64 0)] [(0,1,Xea)]),oD 22 (.app 3 1 8 Xdm Xei),oM 3 XeN]
def XIO:VC:=.block 1 XKk
def XFu:VC:=.reg [oM 15 τ4,oD 16 (.bin .add Xdl (.const (.int .i64 2))),oM 4 Xdp]
def XHi:VC:=.seq XIO XFu
def Xqr:VC:=.seq X5i XHi
def XK8:VC:=.loop Xqr
def XEE:VC:=.block 0 XK8
def XJo:VC:=.seq X7M XEE
def XIx:VC:=.reg [oM 23 τ3,oM 2 XeR]
def XtM:VC:=.seq XIx .ret
def XJg:VC:=.seq XJo XtM
def XHn:VC:=.seq XMF XJg
def XK6:VC:=.seq XPp XHn
def XvR:VC:=.seq XQx XK6
def X0b:VFn:=⟨24,XvR,[.tmp 2]⟩
def X1w:VC:=.reg [oD 2 (.mv (.const (.int .i64 0)))]
def XSl:VC:=.reg [oD 3 (.mv (.const (.int .i64 0)))]
def XU5:VC:=.reg [oD 4 (.mv (.const (.int .i64 0)))]
def X6C:VC:=.reg [oM 5 τ4,oM 6 τ0,oD 7 (.lenL τ6),oD 8 (.bin .lss τ5 τ7)]
def XYQ:VC:=.cond τ8 .skip (.exit 0)
def XO0:VC:=.seq X6C XYQ
def XUS:VC:=.reg [oM 11 τ3,oM 12 τ0,oM 13 τ4,oD 14 (.idxAL 1 XcZ Xc2),oD 15 (.load1 (.int .i64) Xdo),oD 16 (.bin .add Xb8 Xdl),oM 3 Xdp]
def XXG:VC:=.block 1 XUS
def XXe:VC:=.reg [oM 9 τ4,oD 10 (.bin .add τ9 (.const (.int .i64 1))),oM 4 Xcd]
def X6H:VC:=.seq XXG XXe
def Xp3:VC:=.seq XO0 X6H
def XEH:VC:=.loop Xp3
def XIq:VC:=.block 0 XEH
def XHX:VC:=.seq XU5 XIq
def XIF:VC:=.reg [oM 17 τ3,oD 18 (.bin .gtr Xdm (.const (.int .i64 65535)))]
def XJi:VC:=.cond XdW .skip (.exit 2)
def XI9:VC:=.seq XIF XJi
def XFM:VC:=.reg [oM 19 τ3,oD 20 (.bin .rem XdM (.const (.int .i64 65536))),oM 21 τ3,oD 22 (.bin .quo Xei (.const (.int .i64 65536))),oD 23 (.bin .add Xea XeN),oM 3 XeR]
def XGy:VC:=.block 3 XFM
def XpL:VC:=.seq XI9 XGy
def XFs:VC:=.loop XpL
def XHf:VC:=.block 2 XFs
def XEk:VC:=.reg [oM 24 τ3,oM 2 Xex]
def Xtb:VC:=.seq XEk .ret
def Xuj:VC:=.seq XHf Xtb
def XCI:VC:=.seq XHX Xuj
def XFJ:VC:=.seq XSl XCI
def Xvm:VC:=.seq X1w XFJ
def XN5:VFn:=⟨25,Xvm,[.tmp 2]⟩
def XVm:VC:=.reg [oD 2 (.alloc [(.bool false),(.int .u64 0),(.int .u64 0)]),oD 3 (.mv (.const (.bool false)))]
def X1g:VC:=.reg [oM 10 τ0,oD 11 (.lenS Xcd),oD 12 (.bin .eql Xb8 (.const (.int .i64 4)))]
def XYd:VC:=.reg [oM 14 τ0,oD 15 (.callF 70 [Xdo,(.const (.int .i64 0)),(.const (.int .i64 4))]),oM 13 Xdl,oE 16 0 Xc2,oE 17 1 Xc2,oM 4 Xdp,oM 5 Xdm]
def XVD:VC:=.reg [oM 18 τ4,oD 19 (.build [(.bool false),(.int .u64 0),(.int .u64 0)] [(2,1,XdW)]),oN (.store 3 τ2 XdM),oD 3 (.mv (.const (.bool true)))]
def X30:VC:=.seq XVD .ret
def X2f:VC:=.seq XYd X30
def XQP:VC:=.cond XcZ X2f .skip
def X3r:VC:=.seq X1g XQP
def XXD:VC:=.reg [oM 20 τ0,oD 21 (.lenS Xea),oD 22 (.bin .eql Xei (.const (.int .i64 16)))]
def XUd:VC:=.reg [oM 24 τ0,oD 25 (.callF 70 [Xex,(.const (.int .i64 0)),(.const (.int .i64 8))]),oM 23 XeX,oE 26 0 XeR,oE 27 1 XeR,oM 6 Xep,oM 7 XeT]
def XII:VC:=.reg [oM 29 τ0,oD 30 (.callF 70 [Xe1,(.const (.int .i64 8)),(.const (.int .i64 8))]),oM 28 Xfy,oE 31 0 XeO,oE 32 1 XeO,oM 8 Xfw,oM 9 XfC]
def XKj:VC:=.reg [oM 33 τ6,oM 34 τ8,oD 35 (.build [(.bool false),(.int .u64 0),(.int .u64 0)] [(0,1,(.const (.bool true))),(1,1,XfA),(2,1,XfK)]),oN (.store 3 τ2 XfU),oD 3 (.mv (.const (.bool true)))]
def XHz:VC:=.seq XKj .ret
def XED:VC:=.seq XII XHz
def XEJ:VC:=.seq XUd XED
def XKM:VC:=.cond XeN XEJ .skip
def XJx:VC:=.seq XXD XKM
def XD8:VC:=.reg [oD 36 (.build [(.bool false),(.int .u64 0),(.int .u64 0)] []),oN (.store 3 τ2 XfV),oD 3 (.mv (.const (.bool false)))]
def XF5:VC:=.seq XD8 .ret
def XIB:VC:=.seq XJx XF5
def XFO:VC:=.seq X3r XIB
def Xuf:VC:=.seq XVm XFO
def X7B:VFn:=⟨37,Xuf,[.cell 2 [.bool,(.int .u64),(.int .u64)] true,.tmp 3]⟩
def k99_0:VC:=.reg [oD 2 (.alloc [(.int .i64 0),(.int .i64 0),(.int .i64 0),(.int .i64 0),(.bool false),(.int .u64 0),(.int .u64 0),(.bool false),(.int .u64 0),(.int .u64 0)]),oD 3 (.mv (.const (.string ⟨⟨[]⟩⟩))),oD 4 (.mv (.const (.int .i64 0)))]
def k99_1:VC:=.reg [oM 11 τ0,oD 12 (.lenS Xb8),oD 13 (.bin .lss XcZ (.const (.int .i64 40)))]
def k99_2:VC:=.reg [oD 14 (.build [(.int .i64 0),(.int .i64 0),(.int .i64 0),(.int .i64 0),(.bool false),(.int .u64 0),(.int .u64 0),(.bool false),(.int .u64 0),(.int .u64 0)] []),oN (.store 10 τ2 Xdo),oD 3 (.mv (.const (.string ⟨⟨[]⟩⟩))),oD 4 (.mv (.const (.int .i64 2)))]
def k99_3:VC:=.seq k99_2 .ret
def k99_4:VC:=.cond Xc2 k99_3 .skip
def k99_5:VC:=.seq k99_1 k99_4
def k99_6:VC:=.reg [oM 15 τ0,oD 16 (.callF 44 [Xdl,(.const (.int .i64 0)),(.const (.int .i64 4))]),oM 17 τ0,oD 18 (.callF 44 [Xdm,(.const (.int .i64 4)),(.const (.int .i64 2))]),oM 5 Xdp,oM 6 XdW]
def k99_7:VC:=.reg [oM 19 τ5,oD 20 (.bin .quo XdM (.const (.int .i64 268435456))),oD 21 (.bin .neq Xea (.const (.int .i64 6)))]
def k99_8:VC:=.reg [oD 22 (.build [(.int .i64 0),(.int .i64 0),(.int .i64 0),(.int .i64 0),(.bool false),(.int .u64 0),(.int .u64 0),(.bool false),(.int .u64 0),(.int .u64 0)] []),oN (.store 10 τ2 XeN),oD 3 (.mv (.const (.string ⟨⟨[]⟩⟩))),oD 4 (.mv (.const (.int .i64 3)))]
def k99_9:VC:=.seq k99_8 .ret
def X6h:VC:=.cond Xei k99_9 .skip
def X0B:VC:=.seq k99_7 X6h
def X5G:VC:=.reg [oM 23 τ0,oD 24 (.lenS XeR),oD 25 (.bin .sub Xex (.const (.int .i64 40))),oM 26 τ6,oD 27 (.bin .lss XeX Xep)]
def XX8:VC:=.reg [oD 28 (.build [(.int .i64 0),(.int .i64 0),(.int .i64 0),(.int .i64 0),(.bool false),(.int .u64 0),(.int .u64 0),(.bool false),(.int .u64 0),(.int .u64 0)] []),oN (.store 10 τ2 XeO),oD 3 (.mv (.const (.string ⟨⟨[]⟩⟩))),oD 4 (.mv (.const (.int .i64 2)))]
def XM7:VC:=.seq XX8 .ret
def XZO:VC:=.cond XeT XM7 .skip
def XRz:VC:=.seq X5G XZO
def X4g:VC:=.reg [oM 30 τ0,oD 31 (.sliceS Xfy (some (.const (.int .i64 8))) (some (.const (.int .i64 24)))),oD 32 (.callF 122 [Xfw]),oM 29 XfC,oE 33 0 Xe1,oE 34 1 Xe1,oD 7 (.alloc [(.bool false),(.int .u64 0),(.int .u64 0)]),oN (.store 3 τ7 XfA),oM 8 XfK]
def X3Q:VC:=.reg [oM 36 τ0,oD 37 (.sliceS XfV (some (.const (.int .i64 24))) (some (.const (.int .i64 40)))),oD 38 (.callF 122 [XfB]),oM 35 XgM,oE 39 0 XfU,oE 40 1 XfU,oD 9 (.alloc [(.bool false),(.int .u64 0),(.int .u64 0)]),oN (.store 3 τ9 XgK),oM 10 Xhu]
def X5F:VC:=.regD [oM 41 τ5,oD 42 (.bin .quo Xhs (.const (.int .i64 1048576))),oD 43 (.bin .rem Xht (.const (.int .i64 256))),oM 44 τ5,oD 45 (.bin .rem Xim (.const (.int .i64 1048576))),oM 46 τ0,oD 47 (.idxS Xin (.const (.int .i64 6))),oD 48 (.conv .i64 XhS),oM 49 τ0,oD 50 (.idxS XiO (.const (.int .i64 7))),oD 51 (.conv .i64 XiR),oD 52 (.loadN [.bool,(.int .u64),(.int .u64)] τ7),oD 53 (.loadN [.bool,(.int .u64),(.int .u64)] τ9),oD 54 (.build [(.int .i64 0),(.int .i64 0),(.int .i64 0),(.int .i64 0),(.bool false),(.int .u64 0),(.int .u64 0),(.bool false),(.int .u64 0),(.int .u64 0)] [(0,1,XhC),(1,1,XhP),(2,1,XiP),(3,1,XiQ),(4,3,XjN),(7,3,XjO)]),oM 55 τ0,oM 56 τ6,oD 57 (.bin .add (.const (.int .i64 40)) Xlp),oD 58 (.sliceS Xk3 (some (.const (.int .i64 40))) (some XkK)),oN (.store 10 τ2 XkV)] [] [oM 3 XkW,oD 4 (.mv (.const (.int .i64 0)))]
def XXn:VC:=.seq X5F .ret
def XP4:VC:=.seq X3Q XXn
def X2H:VC:=.seq X4g XP4
def XRH:VC:=.seq XRz X2H
def XPU:VC:=.seq X0B XRH
def XOG:VC:=.seq k99_6 XPU
def XQY:VC:=.seq k99_5 XOG
def Xzg:VC:=.seq k99_0 XQY
def fn99:VFn:=⟨59,Xzg,[.cell 2 [(.int .i64),(.int .i64),(.int .i64),(.int .i64),.bool,(.int .u64),(.int .u64),.bool,(.int .u64),(.int .u64)] true,.tmp 3,.tmp 4]⟩
theorem XVp:(Tryz.prog.funcs[3]?).bind (Xay Tryz.prog)=some fn3:=by kernel_rfl
theorem XLJ:(Tryz.prog.funcs[5]?).bind (Xay Tryz.prog)=some fn5:=by kernel_rfl
theorem XYj:(Tryz.prog.funcs[8]?).bind (Xay Tryz.prog)=some fn8:=by kernel_rfl
theorem XDd:(Tryz.prog.funcs[23]?).bind (Xay Tryz.prog)=some fn23:=by kernel_rfl
theorem XF1:(Tryz.prog.funcs[28]?).bind (Xay Tryz.prog)=some fn28:=by kernel_rfl
theorem XHE:(Tryz.prog.funcs[24]?).bind (Xay Tryz.prog)=some fn24:=by kernel_rfl
theorem XHB:(Tryz.prog.funcs[11]?).bind (Xay Tryz.prog)=some fn11:=by kernel_rfl
theorem XJz:(Tryz.prog.funcs[12]?).bind (Xay Tryz.prog)=some fn12:=by kernel_rfl
theorem XK9:(Tryz.prog.funcs[10]?).bind (Xay Tryz.prog)=some fn10:=by kernel_rfl
theorem XS3:(Tryz.prog.funcs[6]?).bind (Xay Tryz.prog)=some fn6:=by kernel_rfl
theorem XJt:(Tryz.prog.funcs[22]?).bind (Xay Tryz.prog)=some fn22:=by kernel_rfl
theorem XKd:(Tryz.prog.funcs[46]?).bind (Xay Tryz.prog)=some fn46:=by kernel_rfl
theorem XCk:(Tryz.prog.funcs[71]?).bind (Xay Tryz.prog)=some fn71:=by kernel_rfl
theorem Xyw:(Tryz.prog.funcs[106]?).bind (Xay Tryz.prog)=some XZ1:=by kernel_rfl
theorem Xxy:(Tryz.prog.funcs[129]?).bind (Xay Tryz.prog)=some XYJ:=by kernel_rfl
theorem XI4:(Tryz.prog.funcs[61]?).bind (Xay Tryz.prog)=some fn61:=by kernel_rfl
theorem XFP:(Tryz.prog.funcs[62]?).bind (Xay Tryz.prog)=some fn62:=by kernel_rfl
theorem XEB:(Tryz.prog.funcs[64]?).bind (Xay Tryz.prog)=some fn64:=by kernel_rfl
theorem XDp:(Tryz.prog.funcs[63]?).bind (Xay Tryz.prog)=some fn63:=by kernel_rfl
theorem XDt:(Tryz.prog.funcs[40]?).bind (Xay Tryz.prog)=some fn40:=by kernel_rfl
theorem Xw0:(Tryz.prog.funcs[131]?).bind (Xay Tryz.prog)=some XYt:=by kernel_rfl
theorem Xy1:(Tryz.prog.funcs[112]?).bind (Xay Tryz.prog)=some X22:=by kernel_rfl
theorem XwC:(Tryz.prog.funcs[104]?).bind (Xay Tryz.prog)=some X6O:=by kernel_rfl
theorem XwZ:(Tryz.prog.funcs[126]?).bind (Xay Tryz.prog)=some XUJ:=by kernel_rfl
theorem Xy6:(Tryz.prog.funcs[128]?).bind (Xay Tryz.prog)=some XWj:=by kernel_rfl
theorem Xxk:(Tryz.prog.funcs[134]?).bind (Xay Tryz.prog)=some XSd:=by kernel_rfl
theorem Xxq:(Tryz.prog.funcs[135]?).bind (Xay Tryz.prog)=some XU1:=by kernel_rfl
theorem XwQ:(Tryz.prog.funcs[130]?).bind (Xay Tryz.prog)=some XPO:=by kernel_rfl
theorem XFF:(Tryz.prog.funcs[72]?).bind (Xay Tryz.prog)=some fn72:=by kernel_rfl
theorem XxX:(Tryz.prog.funcs[107]?).bind (Xay Tryz.prog)=some XQK:=by kernel_rfl
theorem XxW:(Tryz.prog.funcs[109]?).bind (Xay Tryz.prog)=some XNI:=by kernel_rfl
theorem XxO:(Tryz.prog.funcs[113]?).bind (Xay Tryz.prog)=some XR4:=by kernel_rfl
theorem XLf:(Tryz.prog.funcs[80]?).bind (Xay Tryz.prog)=some fn80:=by kernel_rfl
theorem XKC:(Tryz.prog.funcs[42]?).bind (Xay Tryz.prog)=some fn42:=by kernel_rfl
theorem XGV:(Tryz.prog.funcs[82]?).bind (Xay Tryz.prog)=some fn82:=by kernel_rfl
theorem Xxv:(Tryz.prog.funcs[116]?).bind (Xay Tryz.prog)=some XU0:=by kernel_rfl
theorem Xxx:(Tryz.prog.funcs[133]?).bind (Xay Tryz.prog)=some XTx:=by kernel_rfl
theorem Xwv:(Tryz.prog.funcs[117]?).bind (Xay Tryz.prog)=some X0h:=by kernel_rfl
theorem Xye:(Tryz.prog.funcs[132]?).bind (Xay Tryz.prog)=some XZu:=by kernel_rfl
theorem XyD:(Tryz.prog.funcs[102]?).bind (Xay Tryz.prog)=some X1j:=by kernel_rfl
theorem XxH:(Tryz.prog.funcs[103]?).bind (Xay Tryz.prog)=some XRS:=by kernel_rfl
theorem Xxn:(Tryz.prog.funcs[125]?).bind (Xay Tryz.prog)=some XQk:=by kernel_rfl
theorem XE6:(Tryz.prog.funcs[60]?).bind (Xay Tryz.prog)=some fn60:=by kernel_rfl
theorem XC1:(Tryz.prog.funcs[73]?).bind (Xay Tryz.prog)=some fn73:=by kernel_rfl
theorem XxU:(Tryz.prog.funcs[108]?).bind (Xay Tryz.prog)=some XVr:=by kernel_rfl
theorem XH3:(Tryz.prog.funcs[39]?).bind (Xay Tryz.prog)=some fn39:=by kernel_rfl
theorem XFp:(Tryz.prog.funcs[65]?).bind (Xay Tryz.prog)=some fn65:=by kernel_rfl
theorem XK0:(Tryz.prog.funcs[66]?).bind (Xay Tryz.prog)=some fn66:=by kernel_rfl
theorem XIu:(Tryz.prog.funcs[67]?).bind (Xay Tryz.prog)=some fn67:=by kernel_rfl
theorem XJ7:(Tryz.prog.funcs[25]?).bind (Xay Tryz.prog)=some fn25:=by kernel_rfl
theorem XI1:(Tryz.prog.funcs[47]?).bind (Xay Tryz.prog)=some fn47:=by kernel_rfl
theorem XKD:(Tryz.prog.funcs[74]?).bind (Xay Tryz.prog)=some fn74:=by kernel_rfl
theorem XDm:(Tryz.prog.funcs[75]?).bind (Xay Tryz.prog)=some fn75:=by kernel_rfl
theorem Xwn:(Tryz.prog.funcs[110]?).bind (Xay Tryz.prog)=some XPr:=by kernel_rfl
theorem XxA:(Tryz.prog.funcs[111]?).bind (Xay Tryz.prog)=some XY9:=by kernel_rfl
theorem XEG:(Tryz.prog.funcs[76]?).bind (Xay Tryz.prog)=some fn76:=by kernel_rfl
theorem XD6:(Tryz.prog.funcs[77]?).bind (Xay Tryz.prog)=some fn77:=by kernel_rfl
theorem XD5:(Tryz.prog.funcs[78]?).bind (Xay Tryz.prog)=some fn78:=by kernel_rfl
theorem XCe:(Tryz.prog.funcs[43]?).bind (Xay Tryz.prog)=some fn43:=by kernel_rfl
theorem XCz:(Tryz.prog.funcs[48]?).bind (Xay Tryz.prog)=some fn48:=by kernel_rfl
theorem XHk:(Tryz.prog.funcs[79]?).bind (Xay Tryz.prog)=some fn79:=by kernel_rfl
theorem XJm:(Tryz.prog.funcs[49]?).bind (Xay Tryz.prog)=some fn49:=by kernel_rfl
theorem XJS:(Tryz.prog.funcs[81]?).bind (Xay Tryz.prog)=some fn81:=by kernel_rfl
theorem Xxb:(Tryz.prog.funcs[114]?).bind (Xay Tryz.prog)=some X26:=by kernel_rfl
theorem Xys:(Tryz.prog.funcs[115]?).bind (Xay Tryz.prog)=some X47:=by kernel_rfl
theorem X40:(Tryz.prog.funcs[7]?).bind (Xay Tryz.prog)=some fn7:=by kernel_rfl
theorem XHw:(Tryz.prog.funcs[15]?).bind (Xay Tryz.prog)=some fn15:=by kernel_rfl
theorem XFY:(Tryz.prog.funcs[31]?).bind (Xay Tryz.prog)=some fn31:=by kernel_rfl
theorem XCC:(Tryz.prog.funcs[56]?).bind (Xay Tryz.prog)=some fn56:=by kernel_rfl
theorem XHt:(Tryz.prog.funcs[98]?).bind (Xay Tryz.prog)=some fn98:=by kernel_rfl
theorem XKZ:(Tryz.prog.funcs[44]?).bind (Xay Tryz.prog)=some fn44:=by kernel_rfl
theorem XK2:(Tryz.prog.funcs[70]?).bind (Xay Tryz.prog)=some fn70:=by kernel_rfl
theorem Xw4:(Tryz.prog.funcs[100]?).bind (Xay Tryz.prog)=some X1Q:=by kernel_rfl
theorem Xxl:(Tryz.prog.funcs[124]?).bind (Xay Tryz.prog)=some X0b:=by kernel_rfl
theorem XyM:(Tryz.prog.funcs[123]?).bind (Xay Tryz.prog)=some XN5:=by kernel_rfl
theorem Xyc:(Tryz.prog.funcs[122]?).bind (Xay Tryz.prog)=some X7B:=by kernel_rfl
theorem XDA:(Tryz.prog.funcs[99]?).bind (Xay Tryz.prog)=some fn99:=by kernel_rfl
end Go.Vm.Code
