import Derived.Test.YtddaijhjflfdmaaGreatNClientNamesb
namespace Go.Vm
open Go Go.RowKit
abbrev wI (k:IntKind) (n:Int):Int:=IntKind.wrap k n
abbrev Xnr (k:IntKind) (a b:Int):Int:=IntKind.wrap k (BitVec.ofInt k.bits a &&& BitVec.ofInt k.bits b).toNat
abbrev Xlg (k:IntKind) (a b:Int):Int:=IntKind.wrap k (BitVec.ofInt k.bits a ||| BitVec.ofInt k.bits b).toNat
abbrev XDx (k:IntKind) (a b:Int):Int:=IntKind.wrap k (BitVec.ofInt k.bits a &&& ~~~ BitVec.ofInt k.bits b).toNat
def Xbh {α:Type} (b:Bool) (x:Option α):Option α:=match b with|true=>x|false=>none
theorem Xbh.elim {α:Type} {b:Bool} {x:Option α} {r:α} (h:Xbh b x=some r):b=true∧x=some r:=by cases b;cases h;exact ⟨rfl,h⟩
theorem Xbh.mk {α:Type} {b:Bool} {x:Option α} (h:b=true):Xbh b x=x:=by subst h;rfl
theorem Xdg.elim {α β:Type} {x:Option α} {F:α→Option β} {r:β} (h:x.bind F=some r):∃ a,x=some a∧F a=some r:=by cases x with|none=>cases h|some a=>exact ⟨a,rfl,h⟩
def FUEL:Nat:=2^64
def iter {σ ρ:Type} (f:σ→Option (Sum σ ρ)):Nat→σ→Option ρ
 | 0,_=>none
 | n+1,s=>match f s with
   | none=>none
   | some (.inl s')=>iter f n s'
   | some (.inr r)=>some r
theorem Xde {σ ρ:Type} {P:Program} {f base:Nat} {R:Value→Hp→Nat→Prop} {step:σ→Option (Sum σ ρ)} {head:σ→VM} {C:ρ→Prop}
 (h:∀ s o,step s=some o→Sum.elim (fun s'=>XaG P f base (head s') R) C o→XaG P f base (head s) R) :
 ∀ n s r,iter step n s=some r→C r→XaG P f base (head s) R
 | 0,_,_,e,_=>by cases e
 | n+1,s,r,e,hc=>by
   rw [iter] at e
   split at e
   ·cases e
   ·rename_i s' hs
    exact h s _ hs (Xde h n s' r e hc)
   ·rename_i r' hs
    cases e
    exact h s _ hs hc
def vI (k:IntKind) (xs:List Int):List Value:=xs.map (Value.int k)
def vB (xs:List Bool):List Value:=xs.map Value.bool
def vS (xs:List (List UInt8)):List Value:=xs.map fun s=>Value.string ⟨⟨s⟩⟩
def bI (l:List UInt8):List Int:=l.map fun b=>(b.toNat:Int)
def iB (xs:List Int):List UInt8:=xs.map fun n=>UInt8.ofNat n.toNat
@[simp] theorem vI_len (k:IntKind) (xs:List Int):(vI k xs).length=xs.length:=List.length_map _
@[simp] theorem vB_len (xs:List Bool):(vB xs).length=xs.length:=List.length_map _
@[simp] theorem vS_len (xs:List (List UInt8)):(vS xs).length=xs.length:=List.length_map _
@[simp] theorem XI7 (l:List UInt8):(bI l).length=l.length:=List.length_map _
@[simp] theorem iB_len (l:List Int):(iB l).length=l.length:=List.length_map _
theorem Xj8 (k:IntKind) (xs:List Int):Xbm.flatL (vI k xs)=true:=XnB (fun _=>rfl) xs
theorem Xn9 (xs:List Bool):Xbm.flatL (vB xs)=true:=XnB (fun _=>rfl) xs
theorem Xol (xs:List (List UInt8)):Xbm.flatL (vS xs)=true:=XnB (fun _=>rfl) xs
theorem Xh3 (k:IntKind):∀ (xs:List Int),(vI k xs).all Xij=true
 | []=>rfl
 | _::xs=>by simp only [vI,List.map_cons,List.all_cons,Xij,Bool.true_and];exact Xh3 k xs
theorem Xku:∀ (xs:List Bool),(vB xs).all Xij=true
 | []=>rfl
 | _::xs=>by simp only [vB,List.map_cons,List.all_cons,Xij,Bool.true_and];exact Xku xs
theorem Xkf:∀ (xs:List (List UInt8)),(vS xs).all Xij=true
 | []=>rfl
 | _::xs=>by simp only [vS,List.map_cons,List.all_cons,Xij,Bool.true_and];exact Xkf xs
theorem Xe7 (l:List UInt8):ofBytes l=vI .u8 (bI l):=by simp [ofBytes,vI,bI,List.map_map]
theorem Xok:∀ (xs:List Int),Xg7 (vI .u8 xs)=some (iB xs)
 | []=>rfl
 | x::xs=>by simp only [vI,List.map_cons,Xg7];rw [show Xg7 (xs.map (Value.int .u8))=_ from Xok xs];rfl
theorem XWk (k:IntKind) (xs:List Int) (i:Nat) (x:Int):(vI k xs).set i (.int k x)=vI k (xs.set i x):=by simp [vI,List.map_set]
theorem Xly (k:IntKind) (xs:List Int) (n:Nat):(vI k xs).drop n=vI k (xs.drop n):=by simp [vI,List.map_drop]
theorem Xlk (k:IntKind) (xs:List Int) (n:Nat):(vI k xs).take n=vI k (xs.take n):=by simp [vI,List.map_take]
theorem XNt (xs:List Bool) (n:Nat):(vB xs).drop n=vB (xs.drop n):=by simp [vB,List.map_drop]
theorem XN6 (xs:List Bool) (n:Nat):(vB xs).take n=vB (xs.take n):=by simp [vB,List.map_take]
theorem XmQ (xs:List (List UInt8)) (n:Nat):(vS xs).drop n=vS (xs.drop n):=by simp [vS,List.map_drop]
theorem XmW (xs:List (List UInt8)) (n:Nat):(vS xs).take n=vS (xs.take n):=by simp [vS,List.map_take]
theorem XIq (k:IntKind) (xs ys:List Int):vI k xs++vI k ys=vI k (xs++ys):=by simp [vI]
theorem br.h {α:Type} {b b':Bool} {X Y:Option α} {r:α} {p q:Prop} (h:cond b' X Y=some r) (e:b=b') (k1:b'=true→X=some r→p) (k2:b'=false→Y=some r→q):br b p q:=by
 subst e;cases b;exact k2 rfl h;exact k1 rfl h
theorem rd.I {k:IntKind} {xs:List Int} {o i:Nat} {x:Int} {K:Value→Prop} (hx:xs[i]?=some x) (e:o=i) (h:Xil (.int k x) K):rd (vI k xs) o K:=by
 subst e;exact rd.intro (v:=.int k x) (by simp [vI,hx]) h
theorem rd.B {xs:List Bool} {o i:Nat} {x:Bool} {K:Value→Prop} (hx:xs[i]?=some x) (e:o=i) (h:Xil (.bool x) K):rd (vB xs) o K:=by
 subst e;exact rd.intro (v:=.bool x) (by simp [vB,hx]) h
theorem rd.S {xs:List (List UInt8)} {o i:Nat} {x:List UInt8} {K:Value→Prop} (hx:xs[i]?=some x) (e:o=i) (h:Xil (.string ⟨⟨x⟩⟩) K):rd (vS xs) o K:=by
 subst e;exact rd.intro (v:=.string ⟨⟨x⟩⟩) (by simp [vS,hx]) h
theorem XLr {k:IntKind} {xs:List Int} {o i:Nat} {x:Int} (hb:decide (i<xs.length)=true) (e:o=i):(decide ((XaX (.int k x)).length=1∧o+1≤(vI k xs).length)&&(XaX (.int k x)).all Xij)=true:=by
 subst e;have:=of_decide_eq_true hb;simp [XaX,Value.cells,Xij];omega
theorem XUA {k:IntKind} {xs:List Int} {o i:Nat} {x:Int} {K:List Value→Prop} (e:o=i) (h:K (vI k (xs.set i x))):∃ cs',setAt (vI k xs) o (XaX (.int k x))=cs'∧K cs':=
 ⟨_,by subst e;exact XWk k xs o x,h⟩
theorem XQQ {k:IntKind} {n:Nat} {z:Int} {K:List Value→Prop} (h:K (vI k (List.replicate n z))):∃ cs',(List.replicate n [Value.int k z]).flatten=cs'∧K cs':=
 ⟨_,by simp [vI,List.flatten_replicate_singleton],h⟩
theorem XWi {l:List UInt8} {K:List Value→Prop} (h:K (vI .u8 (bI l))):∃ cs',ofBytes l=cs'∧K cs':=⟨_,Xe7 l,h⟩
theorem XUn {xs:List Int} {o n:Nat} {K:List UInt8→Prop} (h:K (iB ((xs.drop o).take n))):∃ bs,Xg7 (((vI .u8 xs).drop o).take n)=some bs∧K bs:=
 ⟨_,by rw [Xly,Xlk];exact Xok _,h⟩
theorem XPE {l:List Value} {bs:List UInt8} {K:List UInt8→Prop} (e:Xg7 l=some bs) (h:K bs):∃ bs,Xg7 l=some bs∧K bs:=⟨_,e,h⟩
theorem XzP {k:IntKind} {new:List Value} {m:Nat} {ys:List Int} {K:List Value→Nat→Prop} (e:new=vI k ys) (em:m=ys.length) (h:K (vI k ys) ys.length):∃ cs' n',new=cs'∧m=n'∧K cs' n':=⟨_,_,e,em,h⟩
theorem XSW {k:IntKind} {new:List Value} {xs:List Int} {o c n m:Nat} {ys:List Int} {K:List Value→Nat→Prop} (e:new=vI k ys) (h0:o=0) (hc:c=xs.length) (hn:n+m=(xs++ys).length) (h:K (vI k (xs++ys)) (xs++ys).length) :
 ∃ cs' n',((vI k xs).drop o).take c++new=cs'∧n+m=n'∧K cs' n':=
 ⟨_,_,by subst h0;rw [List.drop_zero,List.take_of_length_le (by simp [hc]),e,XIq],hn,h⟩
def vT {α:Type} (f:α→List Value) (xs:List α):List Value:=xs.flatMap f
section
variable {α:Type} {f:α→List Value} {c:Nat}
theorem Xia (hf:∀ x,(f x).length=c) (xs:List α):(vT f xs).length=xs.length*c:=by
 induction xs with
 | nil=>simp [vT]
 | cons x xs ih=>
   have:vT f (x::xs)=f x++vT f xs:=rfl
   rw [this,List.length_append,hf,ih,List.length_cons,Nat.succ_mul];omega
theorem XnV (hf:∀ x,Xbm.flatL (f x)=true) (xs:List α):Xbm.flatL (vT f xs)=true:=by
 have app:∀ a b:List Value,Xbm.flatL a=true→Xbm.flatL b=true→Xbm.flatL (a++b)=true:=by
  intro a b ha hb
  induction a with
  | nil=>exact hb
  | cons v a ih=>simp only [Xbm.flatL,Bool.and_eq_true,List.cons_append] at ha ⊢;exact ⟨ha.1,ih ha.2⟩
 induction xs with
 | nil=>rfl
 | cons x xs ih=>exact app _ _ (hf x) ih
theorem Xk5 (hf:∀ x,(f x).all Xij=true) (xs:List α):(vT f xs).all Xij=true:=by
 induction xs with
 | nil=>rfl
 | cons x xs ih=>have:vT f (x::xs)=f x++vT f xs:=rfl;rw [this,List.all_append,hf,ih];rfl
theorem XRK (xs ys:List α):vT f xs++vT f ys=vT f (xs++ys):=by simp [vT]
theorem Xgm (hf:∀ x,(f x).length=c) (xs:List α) (n:Nat):(vT f xs).drop (n*c)=vT f (xs.drop n):=by
 induction xs generalizing n with
 | nil=>simp [vT]
 | cons x xs ih=>
   cases n with
   | zero=>simp
   | succ n=>
     have:vT f (x::xs)=f x++vT f xs:=rfl
     rw [this,List.drop_succ_cons,Nat.succ_mul,Nat.add_comm,List.drop_append,hf,List.drop_eq_nil_of_le (by rw [hf];omega),List.nil_append,show c+n*c - c=n*c by omega,ih]
theorem Xgl (hf:∀ x,(f x).length=c) (xs:List α) (n:Nat):(vT f xs).take (n*c)=vT f (xs.take n):=by
 induction xs generalizing n with
 | nil=>simp [vT]
 | cons x xs ih=>
   cases n with
   | zero=>simp [vT]
   | succ n=>
     have:vT f (x::xs)=f x++vT f xs:=rfl
     have h2:vT f ((x::xs).take (n+1))=f x++vT f (xs.take n):=rfl
     rw [this,h2,Nat.succ_mul,Nat.add_comm,List.take_append,hf,List.take_of_length_le (by rw [hf];omega),show c+n*c - c=n*c by omega,ih]
theorem XQ6 (hf:∀ x,(f x).length=c) {xs:List α} {i j:Nat} {x:α} (hx:xs[i]?=some x) (hj:j<c):(vT f xs)[i*c+j]?=(f x)[j]?:=by
 induction xs generalizing i with
 | nil=>simp at hx
 | cons y xs ih=>
   have:vT f (y::xs)=f y++vT f xs:=rfl
   rw [this]
   cases i with
   | zero=>
     simp at hx;subst hx
     rw [Nat.zero_mul,Nat.zero_add,List.getElem?_append_left (by rw [hf];exact hj)]
   | succ i=>
     rw [List.getElem?_append_right (by rw [hf,Nat.succ_mul];omega),hf,show (i+1)*c+j - c=i*c+j by rw [Nat.succ_mul];omega]
     exact ih (by simpa using hx)
theorem rd.T (hf:∀ x,(f x).length=c) {xs:List α} {o i j:Nat} {x:α} {v:Value} {K:Value→Prop} (hx:xs[i]?=some x) (e:o=i*c+j) (hj:j<c) (hv:(f x)[j]?=some v) (h:Xil v K):rd (vT f xs) o K:=by
 subst e;exact rd.intro (by rw [XQ6 hf hx hj];exact hv) h
theorem XHX (hf:∀ x,(f x).length=c) {new:List Value} {xs:List α} {o k n m:Nat} {ys:List α} {K:List Value→Nat→Prop} (e:new=vT f ys) (h0:o=0) (hc:k=xs.length*c) (hn:n+m=(xs++ys).length) (h:K (vT f (xs++ys)) (xs++ys).length) :
 ∃ cs' n',((vT f xs).drop o).take k++new=cs'∧n+m=n'∧K cs' n':=
 ⟨_,_,by subst h0;rw [List.drop_zero,List.take_of_length_le (by rw [Xia hf,hc];omega),e,XRK],hn,h⟩
def unT (sz:Nat) (un:List Value→Option α):Nat→List Value→Option (List α)
 | 0,[]=>some []
 | 0,_::_=>none
 | _+1,[]=>some []
 | n+1,v::cs=>match un ((v::cs).take sz) with
   | some x=>match unT sz un n ((v::cs).drop sz) with
     | some xs=>some (x::xs)
     | none=>none
   | none=>none
theorem Xik {un:List Value→Option α} (hu:∀ cs x,un cs=some x→cs=f x):∀ {n:Nat} {cs:List Value} {xs:List α},unT c un n cs=some xs→cs=vT f xs
 | 0,[],xs,h=>by simp only [unT,Option.some.injEq] at h;subst h;rfl
 | 0,_::_,xs,h=>by simp [unT] at h
 | n+1,[],xs,h=>by simp only [unT,Option.some.injEq] at h;subst h;rfl
 | n+1,v::cs,xs,h=>by
   simp only [unT] at h
   split at h<;>try (cases h;done)
   rename_i x hx
   split at h<;>cases h
   rename_i ys hys
   have e1:=hu _ _ hx
   have e2:=Xik hu hys
   have:vT f (x::ys)=f x++vT f ys:=rfl
   rw [this,←e1,←e2,List.take_append_drop]
end
theorem Xtr {s:XbE} {vals aqs:List Value} {os:List (Option XbO)} {h h1 h2:Hp} {top n m t':Nat} {ws:List Wd} {r:XcU} {v':Value} (e1:Xdj h 0 s.modes vals=some (aqs,os)) (ew:XkH h s.modes vals=ws) {cw:List (Option (List Value))} (ec:Xk6 os=cw) (e2:s.run aqs cw=some r) (e3:apartB ws=true)
 (hn:r.new.length=n) (hm:Xlu ws=m) (ht:top+n+m=t') (e4:XdF h (XuH top n ws) ws r.wr=some h1) (e5:Xi8 h1 (XuH top n ws) top r.new=some h2) (e6:Xe0 (XuH top n ws) r.v=some v'):Xi0 s vals h top=some (v',Xjy h2 (top+n) m,t'):=by
 subst hn hm ht ec
 simp only [Xi0,e1,e2,ew,e3,e4,e5,e6]
theorem XQ1 {h:Hp} {k:Nat}:Xdj h k [] []=some ([],[]):=rfl
theorem XMh {h:Hp} {k k':Nat} {m:Md} {ms:List Md} {v a:Value} {vs aqs:List Value} {os os':List (Option XbO)} (e:XcY h k m v=some (a,os)) (hk:k+os.length=k') (t:Xdj h k' ms vs=some (aqs,os')):Xdj h k (m::ms) (v::vs)=some (a::aqs,os++os'):=by
 subst hk
 simp only [Xdj,e,t]
theorem XDa {h:Hp} {k b o n m sz sz':Nat} {ob:XbO} {cs cs':List Value} (ho:XaD h b=some ob) (hc:ob.cs=some cs) (hs:sz=sz') (en:n=m) (hle:o+n*sz≤cs.length) (e:(cs.drop o).take (n*sz)=cs') (hf:Xbm.flatL cs'=true) :
 XcY h k (.sl sz) (.slice (some ⟨b,o,none⟩) n sz')=some (.slice (some ⟨k,0,none⟩) m sz,[some (.row false cs')]):=by
 subst hs en e
 simp only [XcY,ho,hc,hle,hf,↓reduceIte]
theorem XHY {h:Hp} {b o n i m sz kk:Nat} {k:IntKind} {own:Bool} {xs:List Int} (ho:XaD h b=some (.row own (vI k xs))) (hs:sz=1) (e0:o=i) (en:n=m) (hle:i+m≤xs.length):XcY h kk (.sl 1) (.slice (some ⟨b,o,none⟩) n sz)=some (.slice (some ⟨kk,0,none⟩) m 1,[some (.row false (vI k ((xs.drop i).take m)))]):=by
 subst hs e0 en
 exact XDa ho rfl rfl rfl (by simp;omega) (by rw [Xly,Xlk,Nat.mul_one]) (Xj8 _ _)
theorem XH8 {h:Hp} {b o n i m sz kk:Nat} {own:Bool} {xs:List (List UInt8)} (ho:XaD h b=some (.row own (vS xs))) (hs:sz=1) (e0:o=i) (en:n=m) (hle:i+m≤xs.length):XcY h kk (.sl 1) (.slice (some ⟨b,o,none⟩) n sz)=some (.slice (some ⟨kk,0,none⟩) m 1,[some (.row false (vS ((xs.drop i).take m)))]):=by
 subst hs e0 en
 exact XDa ho rfl rfl rfl (by simp;omega) (by rw [XmQ,XmW,Nat.mul_one]) (Xol _)
theorem XJl {h:Hp} {b o n i m sz kk:Nat} {own:Bool} {xs:List Bool} (ho:XaD h b=some (.row own (vB xs))) (hs:sz=1) (e0:o=i) (en:n=m) (hle:i+m≤xs.length):XcY h kk (.sl 1) (.slice (some ⟨b,o,none⟩) n sz)=some (.slice (some ⟨kk,0,none⟩) m 1,[some (.row false (vB ((xs.drop i).take m)))]):=by
 subst hs e0 en
 exact XDa ho rfl rfl rfl (by simp;omega) (by rw [XNt,XN6,Nat.mul_one]) (Xn9 _)
theorem XKG {h:Hp} {b o n sz kk:Nat} {k:IntKind} {own:Bool} {xs:List Int} (ho:XaD h b=some (.row own (vI k xs))) (hs:sz=1) (e0:o=0) (en:n=xs.length):XcY h kk (.sl 1) (.slice (some ⟨b,o,none⟩) n sz)=some (.slice (some ⟨kk,0,none⟩) xs.length 1,[some (.row false (vI k xs))]):=by
 have:=XHY (kk:=kk) (i:=0) (m:=xs.length) ho hs e0 en (by omega)
 simpa using this
theorem XPQ {h:Hp} {b o n sz kk:Nat} {own:Bool} {xs:List (List UInt8)} (ho:XaD h b=some (.row own (vS xs))) (hs:sz=1) (e0:o=0) (en:n=xs.length):XcY h kk (.sl 1) (.slice (some ⟨b,o,none⟩) n sz)=some (.slice (some ⟨kk,0,none⟩) xs.length 1,[some (.row false (vS xs))]):=by
 have:=XH8 (kk:=kk) (i:=0) (m:=xs.length) ho hs e0 en (by omega)
 simpa using this
theorem XLc {h:Hp} {b o n sz kk:Nat} {own:Bool} {xs:List Bool} (ho:XaD h b=some (.row own (vB xs))) (hs:sz=1) (e0:o=0) (en:n=xs.length):XcY h kk (.sl 1) (.slice (some ⟨b,o,none⟩) n sz)=some (.slice (some ⟨kk,0,none⟩) xs.length 1,[some (.row false (vB xs))]):=by
 have:=XJl (kk:=kk) (i:=0) (m:=xs.length) ho hs e0 en (by omega)
 simpa using this
theorem Xim {α:Type} {f:α→List Value} {c:Nat} (hf:∀ x,(f x).length=c) (hfl:∀ x,Xbm.flatL (f x)=true) {h:Hp} {b o n i m sz kk:Nat} {own:Bool} {xs:List α} (ho:XaD h b=some (.row own (vT f xs))) (hs:sz=c) (e0:o=i*c) (en:n=m) (hle:i+m≤xs.length):XcY h kk (.sl c) (.slice (some ⟨b,o,none⟩) n sz)=some (.slice (some ⟨kk,0,none⟩) m c,[some (.row false (vT f ((xs.drop i).take m)))]):=by
 subst hs e0 en
 refine XDa ho rfl rfl rfl ?_ (by rw [Xgm hf,Xgl hf]) (XnV hfl _)
 rw [Xia hf,←Nat.add_mul];exact Nat.mul_le_mul_right _ hle
theorem Xgz {α:Type} {f:α→List Value} {c:Nat} (hf:∀ x,(f x).length=c) (hfl:∀ x,Xbm.flatL (f x)=true) {h:Hp} {b o n sz kk:Nat} {own:Bool} {xs:List α} (ho:XaD h b=some (.row own (vT f xs))) (hs:sz=c) (e0:o=0) (en:n=xs.length):XcY h kk (.sl c) (.slice (some ⟨b,o,none⟩) n sz)=some (.slice (some ⟨kk,0,none⟩) xs.length c,[some (.row false (vT f xs))]):=by
 have:=Xim hf hfl (kk:=kk) (i:=0) (m:=xs.length) ho hs (by simpa using e0) en (by omega)
 simpa using this
theorem ra_tr {h:Hp} {k:Nat} {ps:List Path} {bs:List PR} {v v' w:Value} {l:List (Option XbO)} (e0:XhV h v ps []=bs) (e1:Xe0 (Xxn k bs) v=some v') (e2:Xgy h (Xxn k bs) (fun s=>Xm0 k s ps bs) 0 ps bs=some l) (e3:Xvk v' (Xm0 k none ps bs)=w):XcY h k (.tr ps) v=some (w,l):=by
 subst e0 e3
 simp only [XcY,e1,e2]
theorem XRR {h:Hp} {s:Nat→Option Nat} {pat:Option Nat→List (Nat×Value)} {i:Nat}:Xgy h s pat i [] []=some []:=rfl
theorem vp_no {h:Hp} {s:Nat→Option Nat} {pat:Option Nat→List (Nat×Value)} {i:Nat} {p:Path} {ps:List Path} {bs:List PR} {l:List (Option XbO)} (t:Xgy h s pat (i+1) ps bs=some l):Xgy h s pat i (p::ps) (.no::bs)=some (none::l):=by
 simp only [Xgy,t]
theorem XVa {h:Hp} {s:Nat→Option Nat} {pat:Option Nat→List (Nat×Value)} {i z:Nat} {p:Path} {ps:List Path} {bs:List PR} {l:List (Option XbO)} (t:Xgy h s pat (i+1) ps bs=some l):Xgy h s pat i (p::ps) (.nil z::bs)=some (some (mkObj p.kind [])::l):=by
 simp only [Xgy,t]
theorem vp_at {h:Hp} {s:Nat→Option Nat} {pat:Option Nat→List (Nat×Value)} {i b:Nat} {p:Path} {ps:List Path} {bs:List PR} {l:List (Option XbO)} {ob:XbO} {cs cs' cs'':List Value} (e1:XaD h b=some ob) (e2:(cond (isW p.kind) ob.wcs ob.cs)=some cs) (e3:Xe0.renL s cs=some cs') (e4:Xqs cs' (pat (some i))=cs'')
 (t:Xgy h s pat (i+1) ps bs=some l):Xgy h s pat i (p::ps) (.hit b::bs)=some (some (mkObj p.kind cs'')::l):=by
 subst e4
 simp only [Xgy,e1,e2,e3,t]
def skipW:Wd→Bool
 | .no|.emp _|.win _ _ _ false|.blk _ false=>true
 | _=>false
theorem XJc {h:Hp} {s:Nat→Option Nat}:XdF h s [] []=some h:=rfl
theorem XQc {h h':Hp} {s:Nat→Option Nat} {x:Wd} {ws:List Wd} {c:Option (List Value)} {cs:List (Option (List Value))} (hx:skipW x=true) (t:XdF h s ws cs=some h'):XdF h s (x::ws) (c::cs)=some h':=by
 cases x with
 | win b o n w=>cases w<;>first|(simp only [XdF];exact t)|cases hx
 | blk b w=>cases w<;>first|(simp only [XdF];exact t)|cases hx
 | _=>simp only [XdF];exact t
theorem XIz {h h':Hp} {s:Nat→Option Nat} {b off n:Nat} {ws:List Wd} {c c' x y:List Value} {cs:List (Option (List Value))} {ob ob':XbO} (e1:XaD h b=some ob) (e2:ob.wcs=some x) (e3:Xe0.renL s c=some c') (e4:c'.length=n∧off+n≤x.length) (e5:setAt x off c'=y) (e6:ob.wr y=some ob') (t:XdF (Xgp h b ob') s ws cs=some h') :
 XdF h s (.win b off n true::ws) (some c::cs)=some h':=by
 subst e5
 simp only [XdF,e1,e2,e3,e6,if_pos e4];exact t
theorem XRj {h h':Hp} {s:Nat→Option Nat} {b:Nat} {ws:List Wd} {c c' x:List Value} {cs:List (Option (List Value))} {ob ob':XbO} (e1:XaD h b=some ob) (e2:ob.wcs=some x) (e3:Xe0.renL s c=some c') (e6:ob.wr c'=some ob') (t:XdF (Xgp h b ob') s ws cs=some h') :
 XdF h s (.blk b true::ws) (some c::cs)=some h':=by
 simp only [XdF,e1,e2,e3,e6];exact t
theorem XR0 {h h':Hp} {s:Nat→Option Nat} {b:Nat} {ws:List Wd} {cs:List (Option (List Value))} (t:XdF (XoP h b) s ws cs=some h'):XdF h s (.blk b true::ws) (none::cs)=some h':=by
 simp only [XdF];exact t
theorem XIa {h:Hp} {s:Nat→Option Nat} {top:Nat}:Xi8 h s top []=some h:=rfl
theorem XO6 {h h':Hp} {s:Nat→Option Nat} {top:Nat} {c c':List Value} {cs:List (List Value)} (e:Xe0.renL s c=some c') (t:Xi8 (Xgp h top (.row true c')) s (top+1) cs=some h'):Xi8 h s top (c::cs)=some h':=by
 simp only [Xi8,e];exact t
theorem XuN {s:Nat→Option Nat} {k:IntKind} {xs:List Int}:Xe0.renL s (vI k xs)=some (vI k xs):=Xco _ _ (Xj8 _ _)
theorem XuB {s:Nat→Option Nat} {xs:List Bool}:Xe0.renL s (vB xs)=some (vB xs):=Xco _ _ (Xn9 _)
theorem Xub {s:Nat→Option Nat} {xs:List (List UInt8)}:Xe0.renL s (vS xs)=some (vS xs):=Xco _ _ (Xol _)
theorem Xbo {s:Nat→Option Nat} {α:Type} {f:α→List Value} (hfl:∀ x,Xbm.flatL (f x)=true) {xs:List α}:Xe0.renL s (vT f xs)=some (vT f xs):=Xco _ _ (XnV hfl _)
def XJf (n:Nat) (wr:List (Option (List Value))):List Nat→Prop
 | []=>True
 | j::js=>(n≤j∨wr[j]?=some none)∧XJf n wr js
theorem XvI {n:Nat} {wr:List (Option (List Value))}:∀ {js:List Nat},XJf n wr js→∀ j∈js,n≤j∨wr[j]?=some none
 | [],_,j,h=>by cases h
 | k::js,h,j,hj=>by
   rcases List.mem_cons.1 hj with rfl|hj
   ·exact h.1
   ·exact XvI h.2 j hj
theorem Res.of {n:Nat} {r:XcU} {v':Value} {H':Hp} (js:List Nat) (e1:Xe0 (Xxb js n) r.v=some v') (e2:Xt6 H' (Xxb js n) js r.new) (e3:js.Nodup) (e4:XJf n r.wr js) (e5:XBT H' (Xxb js n) 0 r.wr):Res n r v' H':=
 ⟨⟨js,e1,e2,e3,XvI e4,e5⟩⟩
theorem Xhg {H:Hp} {j:Nat} {c:List Value} (h:XaD H j=some (.row true c)):Has H j c:=.inl h
theorem XiM {H:Hp} {j:Nat} {c:List Value} (h:XaD H j=some (.cells c)):Has H j c:=.inr (.inl h)
abbrev Dec:=List Value→List (Option (List Value))→Option XcU
def dV {α:Type} (un:Value→Option α) (K:α→Dec):Dec:=fun vs cs=>match vs with
 | v::vs'=>match un v with
   | some x=>K x vs' cs
   | none=>none
 | []=>none
theorem XaS {α:Type} {un:Value→Option α} {K:α→Dec} {v:Value} {vs:List Value} {cs:List (Option (List Value))} {x:α} (h:un v=some x):dV un K (v::vs) cs=K x vs cs:=by simp only [dV,h]
theorem dV.elim {α:Type} {un:Value→Option α} {K:α→Dec} {vs:List Value} {cs:List (Option (List Value))} {r:XcU} (h:dV un K vs cs=some r):∃ v vs' x,vs=v::vs'∧un v=some x∧K x vs' cs=some r:=by
 unfold dV at h
 split at h<;>try (cases h;done)
 split at h<;>try (cases h;done)
 exact ⟨_,_,_,rfl,by assumption,h⟩
def dSl {α:Type} (k sz:Nat) (un:List Value→Option (List α)) (K:List α→Dec):Dec:=fun vs cs=>match vs,cs with
 | .slice (some ⟨k',0,none⟩) n sz'::vs',some c::cs'=>match un c with
   | some xs=>if k'=k∧sz'=sz∧n=xs.length then K xs vs' cs' else none
   | none=>none
 | _,_=>none
theorem Xwb {α:Type} {k sz:Nat} {un:List Value→Option (List α)} {K:List α→Dec} {vs:List Value} {c:List Value} {cs:List (Option (List Value))} {xs:List α} (h:un c=some xs):dSl k sz un K (.slice (some ⟨k,0,none⟩) xs.length sz::vs) (some c::cs)=K xs vs cs:=by simp [dSl,h]
theorem dSl.elim {α:Type} {k sz:Nat} {un:List Value→Option (List α)} {K:List α→Dec} {vs:List Value} {cs:List (Option (List Value))} {r:XcU} (h:dSl k sz un K vs cs=some r):∃ c vs' cs' xs,vs=.slice (some ⟨k,0,none⟩) xs.length sz::vs'∧cs=some c::cs'∧un c=some xs∧K xs vs' cs'=some r:=by
 unfold dSl at h
 split at h<;>try (cases h;done)
 split at h<;>try (cases h;done)
 split at h<;>try (cases h;done)
 rename_i hc
 obtain ⟨rfl,rfl,rfl⟩:=hc
 exact ⟨_,_,_,_,rfl,rfl,by assumption,h⟩
def dTr {α:Type} (n:Nat) (un:Value→List (Option (List Value))→Option α) (K:α→Dec):Dec:=fun vs cs=>match vs with
 | v::vs'=>match un v (cs.take n) with
   | some x=>K x vs' (cs.drop n)
   | none=>none
 | []=>none
theorem XRX {α:Type} {n:Nat} {un:Value→List (Option (List Value))→Option α} {K:α→Dec} {v:Value} {vs:List Value} {cs cs1 cs2:List (Option (List Value))} {x:α} (h1:cs.take n=cs1) (h2:cs.drop n=cs2) (h:un v cs1=some x):dTr n un K (v::vs) cs=K x vs cs2:=by
 subst h1 h2;simp only [dTr,h]
theorem dTr.elim {α:Type} {n:Nat} {un:Value→List (Option (List Value))→Option α} {K:α→Dec} {vs:List Value} {cs:List (Option (List Value))} {r:XcU} (h:dTr n un K vs cs=some r):∃ v vs' cs1 cs2 x,vs=v::vs'∧cs=cs1++cs2∧un v cs1=some x∧K x vs' cs2=some r:=by
 unfold dTr at h
 split at h<;>try (cases h;done)
 split at h<;>try (cases h;done)
 exact ⟨_,_,_,_,_,rfl,(List.take_append_drop n cs).symm,by assumption,h⟩
def dPt {α:Type} (k:Nat) (un:List Value→Option α) (K:α→Dec):Dec:=fun vs cs=>match vs,cs with
 | .pointer (some ⟨k',0,none⟩)::vs',some c::cs'=>match un c with
   | some x=>if k'=k then K x vs' cs' else none
   | none=>none
 | _,_=>none
theorem Xie {α:Type} {k:Nat} {un:List Value→Option α} {K:α→Dec} {vs:List Value} {c:List Value} {cs:List (Option (List Value))} {x:α} (h:un c=some x):dPt k un K (.pointer (some ⟨k,0,none⟩)::vs) (some c::cs)=K x vs cs:=by simp [dPt,h]
theorem dPt.elim {α:Type} {k:Nat} {un:List Value→Option α} {K:α→Dec} {vs:List Value} {cs:List (Option (List Value))} {r:XcU} (h:dPt k un K vs cs=some r):∃ c vs' cs' x,vs=.pointer (some ⟨k,0,none⟩)::vs'∧cs=some c::cs'∧un c=some x∧K x vs' cs'=some r:=by
 unfold dPt at h
 split at h<;>try (cases h;done)
 split at h<;>try (cases h;done)
 split at h<;>try (cases h;done)
 rename_i hc
 subst hc
 exact ⟨_,_,_,_,rfl,rfl,by assumption,h⟩
def dNo:Nat→Dec→Dec
 | 0,K=>K
 | n+1,K=>fun vs cs=>match cs with
   | none::cs'=>dNo n K vs cs'
   | _=>none
theorem dNo.elim {K:Dec} {vs:List Value} {r:XcU}:∀ {n:Nat} {cs:List (Option (List Value))},dNo n K vs cs=some r→∃ cs',cs=List.replicate n none++cs'∧K vs cs'=some r
 | 0,cs,h=>⟨cs,rfl,h⟩
 | n+1,cs,h=>by
   simp only [dNo] at h
   split at h<;>try (cases h;done)
   obtain ⟨cs',rfl,h2⟩:=dNo.elim h
   exact ⟨cs',rfl,h2⟩
def dNl (n:Nat) (K:Dec):Dec:=fun vs cs=>match vs with
 | .pointer none::vs'=>dNo n K vs' cs
 | _=>none
theorem dNl.elim {n:Nat} {K:Dec} {vs:List Value} {cs:List (Option (List Value))} {r:XcU} (h:dNl n K vs cs=some r):∃ vs' cs',vs=.pointer none::vs'∧cs=List.replicate n none++cs'∧K vs' cs'=some r:=by
 unfold dNl at h
 split at h<;>try (cases h;done)
 obtain ⟨cs',rfl,h2⟩:=dNo.elim h
 exact ⟨_,cs',rfl,rfl,h2⟩
def XdX (r:Option XcU):Dec:=fun vs cs=>match vs,cs with
 | [],[]=>r
 | _,_=>none
theorem XdX.elim {o:Option XcU} {vs:List Value} {cs:List (Option (List Value))} {r:XcU} (h:XdX o vs cs=some r):vs=[]∧cs=[]∧o=some r:=by
 unfold XdX at h
 split at h<;>try (cases h;done)
 exact ⟨rfl,rfl,h⟩
def orD (a b:Dec):Dec:=fun vs cs=>match a vs cs with
 | some r=>some r
 | none=>b vs cs
theorem orD.elim {a b:Dec} {vs:List Value} {cs:List (Option (List Value))} {r:XcU} (h:orD a b vs cs=some r):a vs cs=some r∨b vs cs=some r:=by
 unfold orD at h
 split at h
 ·cases h;left;assumption
 ·exact .inr h
def ofG {α:Type} (o:Option α) (f:α→XcU):Option XcU:=match o with
 | some x=>some (f x)
 | none=>none
theorem XaQ {α:Type} {o:Option α} {f:α→XcU} {x:α} (h:o=some x):ofG o f=some (f x):=by subst h;rfl
theorem ofG.elim {α:Type} {o:Option α} {f:α→XcU} {r:XcU} (h:ofG o f=some r):∃ x,o=some x∧f x=r:=by
 cases o with
 | none=>cases h
 | some x=>exact ⟨x,rfl,by cases h;rfl⟩
def asS:Value→Option (List UInt8)|.string s=>some s.data.toList|_=>none
theorem XvM (v:Value) (x:List UInt8) (h:asS v=some x):v=.string ⟨⟨x⟩⟩:=by cases v<;>simp [asS] at h;subst h;rfl
theorem XvV (k:IntKind) (xs:List Int):unL (asI k) (vI k xs)=some xs:=XAk (fun x=>by simp [asI]) xs
theorem XVT {k:IntKind} {cs:List Value} {xs:List Int} (h:unL (asI k) cs=some xs):cs=vI k xs:=Xvv (XvA k) h
theorem XUh {cs:List Value} {xs:List Bool} (h:unL asB cs=some xs):cs=vB xs:=Xvv XAZ h
theorem XUD {cs:List Value} {xs:List (List UInt8)} (h:unL asS cs=some xs):cs=vS xs:=Xvv (g:=fun s=>Value.string ⟨⟨s⟩⟩) XvM h
end Go.Vm
namespace Go.Vm
open Go Go.RowKit
end Go.Vm
namespace Go.Vm
open Go Go.RowKit
theorem st_I {k:IntKind} {xs:List Int} {o i:Nat} {x:Int} {K:List Value→Prop} (hb:decide (i<xs.length)=true) (e:o=i) (h:K (vI k (xs.set i x))) :
 req (decide ((XaX (.int k x)).length=1∧o+1≤(vI k xs).length)&&(XaX (.int k x)).all Xij) (∃ cs',setAt (vI k xs) o (XaX (.int k x))=cs'∧K cs'):=req.intro (XLr hb e) (XUA e h)
end Go.Vm
namespace Go.Vm
theorem br.h2 {α:Type} {b b':Bool} {X Y:Option α} {r:α} {p q:Prop} (h:cond b' X Y=some r) (e:b=b') (k2:b'=false→Y=some r→q) (k1:b'=true→X=some r→p):br b p q:=br.h h e k1 k2
end Go.Vm
namespace Go.Vm
open Go Go.RowKit
theorem VR.ofNil {ρ:Ren} {s:Nat} {rv:Value} (h:VR ρ (.slice none 0 s) rv) (j sz:Nat):VR ρ (.slice (some ⟨j,0,none⟩) 0 sz) rv:=by
 cases h;exact .slice0 none
theorem XaG.nilT {P:Program} {f base fn nt s:Nat} {e:Env} {todo:List Xgo} {ds:List Nat} {ret:Bool} {rd:Option Nat} {up:List XbQ} {H:Hp} {top:Nat} {R:Value→Hp→Nat→Prop} (t sz:Nat)
 (h:XaG P f base ⟨⟨fn,nt,Xgp e t (.slice (some ⟨top,0,none⟩) 0 sz),todo,ds,ret,rd⟩,up,Xgp H top (.row true []),top+1⟩ R) (he:XaD e t=some (.slice none 0 s):=by rfl) :
 XaG P f base ⟨⟨fn,nt,e,todo,ds,ret,rd⟩,up,H,top⟩ R:=by
 refine ⟨fun w0 U ρ rf rfs w cs hr=>?_⟩
 have hx:=Ext.upd (l:=⟨0,0,0⟩) hr.heap.XoV
 have hcur:FrR P (upd ρ top ⟨0,0,0⟩) ⟨fn,nt,Xgp e t (.slice (some ⟨top,0,none⟩) 0 sz),todo,ds,ret,rd⟩ rf:=
  { hr.cur.mono hx with
    env:=fun i v hv=>by
     rw [Xa1] at hv
     split at hv
     ·rename_i hi;subst hi;cases hv
      obtain ⟨v',a,b⟩:=hr.cur.env t _ he
      exact ⟨v',a,(VR.ofNil b _ _).mono hx⟩
     ·exact (hr.cur.env.mono hx) i v hv }
 obtain ⟨ρ',rv,fr',w',v,H',top',h1,h2,h3,h4,h5,h6,h7⟩:=h.get w0 U _ rf rfs w cs ⟨hcur,hr.up.mono (fun _ _ x=>x.mono hx),Xkg hr.heap⟩
 exact ⟨ρ',rv,fr',w',v,H',top',h1,h2,h3,h4,h5,fun i l hi hl=>h6 i l hi (hx _ _ hl),h7⟩
theorem XaG.nilC {P:Program} {f base s:Nat} {fr:XbQ} {up:List XbQ} {H:Hp} {top:Nat} {R:Value→Hp→Nat→Prop} (b i sz:Nat) {cs:List Value}
 (h:XaG P f base ⟨fr,up,Xgp (Xgp H b (.cells (cs.set i (.slice (some ⟨top,0,none⟩) 0 sz)))) top (.row true []),top+1⟩ R) (hb:XaD H b=some (.cells cs):=by rfl) (hi:cs[i]?=some (.slice none 0 s):=by rfl) :
 XaG P f base ⟨fr,up,H,top⟩ R:=by
 refine ⟨fun w0 U ρ rf rfs w cs' hr=>?_⟩
 have hx:=Ext.upd (l:=⟨0,0,0⟩) hr.heap.XoV
 have hp:HpR P w0 (.of U) ρ (Xgp H b (.cells (cs.set i (.slice (some ⟨top,0,none⟩) 0 sz)))) top w:=
  { hr.heap with
    obj:=fun j o ho=>by
     rw [Xa1] at ho
     split at ho
     ·rename_i hj;subst hj;cases ho
      obtain ⟨l,hl,hc,hw⟩:=hr.heap.obj b _ hb
      refine ⟨l,hl,?_,fun _=>hw rfl⟩
      obtain ⟨g1,g2,g3⟩:=(hc:Xbt ρ w l true cs)
      refine ⟨by simpa using g1,fun k v hv=>?_,g3⟩
      rw [List.getElem?_set] at hv
      split at hv
      ·rename_i hk;subst hk
       split at hv
       ·cases hv
        obtain ⟨v',a,b'⟩:=g2 i _ hi
        exact ⟨v',a,VR.ofNil b' _ _⟩
       ·cases hv
      ·exact g2 k v hv
     ·exact hr.heap.obj j o ho
    dis:=fun j k oj ok lj lk hjk hj hk hlj hlk hw=>by
     have key:∀ j o,XaD (Xgp H b (.cells (cs.set i (.slice (some ⟨top,0,none⟩) 0 sz)))) j=some o→∃ o',XaD H j=some o'∧(writable o=true→writable o'=true):=fun j o ho=>by
      rw [Xa1] at ho
      split at ho
      ·rename_i hj;subst hj;exact ⟨_,hb,fun _=>rfl⟩
      ·exact ⟨o,ho,id⟩
     obtain ⟨oj',a1,a2⟩:=key j oj hj
     obtain ⟨ok',b1,_⟩:=key k ok hk
     exact hr.heap.dis j k oj' ok' lj lk hjk a1 b1 hlj hlk (a2 hw) }
 obtain ⟨ρ',rv,fr',w',v,H',top',h1,h2,h3,h4,h5,h6,h7⟩:=h.get w0 U _ rf rfs w cs' ⟨hr.cur.mono hx,hr.up.mono (fun _ _ x=>x.mono hx),Xkg hp⟩
 exact ⟨ρ',rv,fr',w',v,H',top',h1,h2,h3,h4,h5,fun i l hi hl=>h6 i l hi (hx _ _ hl),h7⟩
mutual
inductive Nv (j:Nat):Value→Value→Prop
 | same (v):Nv j v v
 | nil (s sz):Nv j (.slice none 0 s) (.slice (some ⟨j,0,none⟩) 0 sz)
 | tup {a b:List Value} (h:NvL j a b):Nv j (.tuple ⟨a⟩) (.tuple ⟨b⟩)
 | agg {a b:List Value} (h:NvL j a b):Nv j (.agg ⟨a⟩) (.agg ⟨b⟩)
inductive NvL (j:Nat):List Value→List Value→Prop
 | nil:NvL j [] []
 | cons {v v':Value} {l l':List Value} (h:Nv j v v') (t:NvL j l l'):NvL j (v::l) (v'::l')
end
mutual
theorem Nv.vr {j:Nat} {ρ:Ren}:∀ {v v':Value},Nv j v v'→∀ {rv:Value},VR ρ v rv→VR ρ v' rv
 | _,_,.same v,_,h=>h
 | _,_,.nil s sz,_,h=>VR.ofNil h _ _
 | _,_,.tup hl,_,h=>by cases h with|tuple ht=>exact .tuple (NvL.vr hl ht)
 | _,_,.agg hl,_,h=>by cases h with|agg ht=>exact .agg (NvL.vr hl ht)
theorem NvL.vr {j:Nat} {ρ:Ren}:∀ {l l':List Value},NvL j l l'→∀ {rl:List Value},VRL ρ l rl→VRL ρ l' rl
 | _,_,.nil,_,h=>h
 | _,_,.cons hv ht,_,h=>by cases h with|cons a b=>exact .cons (Nv.vr hv a) (NvL.vr ht b)
end
end Go.Vm
namespace Go.Vm
theorem XzB {A B C D:Prop} [Decidable (A∧B∧C∧D)] {p q:Bool} (a:A) (b:B) (c:C) (d:D) (e:p=true) (g:q=true):(decide (A∧B∧C∧D)&&p&&q)=true:=by
 rw [decide_eq_true ⟨a,b,c,d⟩,e,g];rfl
end Go.Vm
namespace Go.Vm
open Go Go.RowKit
def XuW (o:XbO) (K:XbO→Prop):Prop:=
 match o with
 | .cells cs=>XoR cs fun cs=>K (.cells cs)
 | .row own cs=>XoR cs fun cs=>K (.row own cs)
 | .ty t cs=>K (.ty t cs)
 | .siter s p=>K (.siter s p)
 | .loop l=>K (.loop l)
 | .marks=>K .marks
theorem XwC (o:XbO) (K:XbO→Prop):XuW o K=K o:=by
 cases o<;>simp only [XuW,XlI]
def XlP (bs:List Nat) (h:Hp) (K:Hp→Prop):Prop:=
 match h with
 | []=>K []
 | (i,o)::l=>cond (XJx i bs) (XuW o fun o=>XlP bs l fun l=>K ((i,o)::l)) (XAX o fun o=>XlP bs l fun l=>K ((i,o)::l))
theorem Xoi (bs:List Nat):∀ (h:Hp) (K:Hp→Prop),XlP bs h K=K h
 | [],K=>rfl
 | (i,o)::l,K=>by
   rw [XlP]
   cases XJx i bs
   ·rw [cond_false,XtO,Xoi bs l]
   ·rw [cond_true,XwC,Xoi bs l]
theorem Xg9.XHW {s:XbE} {vals:List Value} {h:Hp} {top:Nat} {K:Value→Hp→Nat→Prop} {v:Value} {h':Hp} {top':Nat} (bs:List Nat) (e:Xi0 s vals h top=some (v,h',top')) (k:Xil v fun v=>XlP bs h' fun h'=>K v h' top'):Xg9 s vals h top K:=
 Xg9.intro e (by simpa only [Xh0,Xoi] using k)
end Go.Vm
namespace Go.Vm
open Go Go.RowKit
inductive Xxx:Value→Hp→Nat→Value→Hp→Nat→Prop
 | refl (v:Value) (H:Hp) (t:Nat):Xxx v H t v H t
 | val {v v' v2:Value} {H H2:Hp} {t t2:Nat} (h:Nv t v v') (k:Xxx v' (Xgp H t (.row true [])) (t+1) v2 H2 t2):Xxx v H t v2 H2 t2
 | cell {v v2:Value} {H H2:Hp} {t t2 s:Nat} (b i sz:Nat) {cs:List Value} (hb:XaD H b=some (.cells cs)) (hi:cs[i]?=some (.slice none 0 s)) (k:Xxx v (Xgp (Xgp H b (.cells (cs.set i (.slice (some ⟨t,0,none⟩) 0 sz)))) t (.row true [])) (t+1) v2 H2 t2):Xxx v H t v2 H2 t2
theorem XNp {P:Program} {w0:World} {U:UG} {ρ:Ren} {H:Hp} {top s:Nat} {w:World} (h:HpR P w0 U ρ H top w) {b i:Nat} (sz:Nat) {cs:List Value} (hb:XaD H b=some (.cells cs)) (hi:cs[i]?=some (.slice none 0 s)):HpR P w0 U ρ (Xgp H b (.cells (cs.set i (.slice (some ⟨top,0,none⟩) 0 sz)))) top w:=
 { h with
   obj:=fun j o ho=>by
    rw [Xa1] at ho
    split at ho
    ·rename_i hj;subst hj;cases ho
     obtain ⟨l,hl,hc,hw⟩:=h.obj b _ hb
     refine ⟨l,hl,?_,fun _=>hw rfl⟩
     obtain ⟨g1,g2,g3⟩:=(hc:Xbt ρ w l true cs)
     refine ⟨by simpa using g1,fun k v hv=>?_,g3⟩
     rw [List.getElem?_set] at hv
     split at hv
     ·rename_i hk;subst hk
      split at hv
      ·cases hv
       obtain ⟨v',a,b'⟩:=g2 i _ hi
       exact ⟨v',a,VR.ofNil b' _ _⟩
      ·cases hv
     ·exact g2 k v hv
    ·exact h.obj j o ho
   dis:=fun j k oj ok lj lk hjk hj hk hlj hlk hw=>by
    have key:∀ j o,XaD (Xgp H b (.cells (cs.set i (.slice (some ⟨top,0,none⟩) 0 sz)))) j=some o→∃ o',XaD H j=some o'∧(writable o=true→writable o'=true):=fun j o ho=>by
     rw [Xa1] at ho
     split at ho
     ·rename_i hj;subst hj;exact ⟨_,hb,fun _=>rfl⟩
     ·exact ⟨o,ho,id⟩
    obtain ⟨oj',a1,a2⟩:=key j oj hj
    obtain ⟨ok',b1,_⟩:=key k ok hk
    exact h.dis j k oj' ok' lj lk hjk a1 b1 hlj hlk (a2 hw) }
theorem Xxx.ok {P:Program} {w0:World} {U:Nat→Nat→Prop} {v v2 rv:Value} {H H2:Hp} {t t2:Nat} (k:Xxx v H t v2 H2 t2):∀ {ρ:Ren} {w:World},VR ρ v rv→HpR P w0 (.of U) ρ H t w→∃ ρ',Ext ρ ρ'∧VR ρ' v2 rv∧HpR P w0 (.of U) ρ' H2 t2 w:=by
 induction k with
 | refl=>intro ρ w h1 h2;exact ⟨ρ,Ext.refl ρ,h1,h2⟩
 | val h k ih=>
   intro ρ w h1 h2
   have hx:=Ext.upd (l:=⟨0,0,0⟩) h2.XoV
   obtain ⟨ρ',e1,e2,e3⟩:=ih ((h.vr h1).mono hx) (Xkg h2)
   exact ⟨ρ',hx.trans e1,e2,e3⟩
 | cell b i sz hb hi k ih=>
   intro ρ w h1 h2
   have hx:=Ext.upd (l:=⟨0,0,0⟩) h2.XoV
   obtain ⟨ρ',e1,e2,e3⟩:=ih (h1.mono hx) (Xkg (XNp h2 sz hb hi))
   exact ⟨ρ',hx.trans e1,e2,e3⟩
theorem XaG.nilW {P:Program} {f base:Nat} {vm:VM} {R:Value→Hp→Prop} (h:XaG P f base vm (fun v H t=>∃ v' H' t',Xxx v H t v' H' t'∧R v' H')):XaG P f base vm (fun v H _=>R v H):=by
 refine ⟨fun w0 U ρ rf rfs w cs hr=>?_⟩
 obtain ⟨ρ',rv,fr',w',v,H',top',h1,h2,h3,h4,h5,h6,v2,H2,t2,hk,h7⟩:=h.get w0 U ρ rf rfs w cs hr
 obtain ⟨ρ2,e1,e2,e3⟩:=hk.ok h4 h5
 exact ⟨ρ2,rv,fr',w',v2,H2,t2,h1,h2,h3,e2,e3,fun i l hi hl=>e1 _ _ (h6 i l hi hl),h7⟩
end Go.Vm
namespace Go.Vm
theorem vS_of (xs:List ByteArray):xs.map Value.string=vS (xs.map fun s=>s.data.toList):=by simp [vS,List.map_map,Function.comp_def]
end Go.Vm
namespace Go.Vm
open Go Go.RowKit
@[simp] theorem XNx (l:List UInt8):(ofBytes l).length=l.length:=by simp [ofBytes]
theorem XV9 {xs:List Int} {n:Nat} {K:List UInt8→Prop} (h:K (iB xs)) (hn:xs.length≤n:=by first|exact Nat.le_refl _|omega|(simp;done)|(simp;omega)):∃ bs,Xg7 ((vI .u8 xs).take n)=some bs∧K bs:=
 ⟨_,by rw [List.take_of_length_le (by simpa using hn)];exact Xok _,h⟩
theorem XIM {A B C D:Prop} [Decidable (A∧B∧C∧D)] (a:A) (b:B) (c:C) (d:D):decide (A∧B∧C∧D)=true:=decide_eq_true ⟨a,b,c,d⟩
theorem Xu8 {A B C D:Prop} [Decidable (A∧B∧C∧D)] (a:A) (b:B) (c:C) (d:D):decide (A∧B∧C∧D)=true:=decide_eq_true ⟨a,b,c,d⟩
theorem Xup {A B C D E:Prop} [Decidable (A∧B∧C∧D∧E)] {p q:Bool} (a:A) (b:B) (c:C) (d:D) (e:E) (f:p=true) (g:q=true):(decide (A∧B∧C∧D∧E)&&p&&q)=true:=by
 rw [decide_eq_true ⟨a,b,c,d,e⟩,f,g];rfl
theorem XAP {new:List Value} {xs:List Int} {n m:Nat} {ys:List Int} {K:List Value→Nat→Prop} (e:new=vI .u8 ys) (hc:n=xs.length) (hn:n+m=(xs++ys).length) (h:K (vI .u8 (xs++ys)) (xs++ys).length) :
 ∃ cs' n',(vI .u8 xs).take n++new=cs'∧n+m=n'∧K cs' n':=
 ⟨_,_,by rw [List.take_of_length_le (by simp [hc]),e,XIq],hn,h⟩
def un1 {α:Type} (un:Value→Option α):List Value→Option α
 | [v]=>un v
 | _=>none
theorem Xzd {α:Type} {un:Value→Option α} {g:α→Value} (h:∀ v x,un v=some x→v=g x) {cs:List Value} {x:α} (e:un1 un cs=some x):cs=[g x]:=by
 unfold un1 at e
 split at e
 ·rw [h _ _ e]
 ·cases e
theorem XeL (k:IntKind) {n:Int}:asI k (.int k n)=some n:=by simp [asI]
theorem Xd4 {s:List UInt8}:asS (.string ⟨⟨s⟩⟩)=some s:=rfl
def fvV:Option Nat→Value
 | none=>.nilFunc
 | some n=>.func (.func n) ⟨[]⟩ ⟨[]⟩
def asF:Value→Option (Option Nat)
 | .nilFunc=>some none
 | .func (.func n) ⟨[]⟩ ⟨[]⟩=>some (some n)
 | _=>none
theorem Xpy (v:Value) (x:Option Nat) (h:asF v=some x):v=fvV x:=by
 unfold asF at h;split at h
 ·cases h;rfl
 ·cases h;rfl
 ·cases h
theorem asF_c {x:Option Nat}:asF (fvV x)=some x:=by cases x<;>rfl
theorem XdS (x:Option Nat):Xbm (fvV x)=true:=by cases x<;>rfl
theorem XAV (x:Option Nat):Xij (fvV x)=true:=by cases x<;>rfl
theorem XIu {h:Hp} {k b o n:Nat} {ob:XbO} {cs cs':List Value} (ho:XaD h b=some ob) (hc:ob.wcs=some cs) (hle:o+n≤cs.length) (e:(cs.drop o).take n=cs') (hf:Xbm.flatL cs'=true) :
 XcY h k (.pt n) (.pointer (some ⟨b,o,none⟩))=some (.pointer (some ⟨k,0,none⟩),[some (.cells cs')]):=by
 subst e
 simp only [XcY,ho,hc,hle,hf,↓reduceIte]
theorem fsp {α:Type} {x:Option Nat} {A:Option α} {B:Nat→Option α} {res:α} {G:Prop} (h:x.elim A B=some res) (t:x=none→A=some res→G) (f:∀ n,x=some n→B n=some res→G):G:=by
 cases x with
 | none=>exact t rfl h
 | some n=>exact f n rfl h
theorem fcase {α:Type} {x c:Nat} {A B:Option α} {res:α} {G:Prop} (h:cond (x==c) A B=some res) (t:x=c→A=some res→G) (f:B=some res→G):G:=by
 cases hx:(x==c)
 ·rw [hx] at h;exact f h
 ·rw [hx] at h;exact t (eq_of_beq hx) h
theorem XC3 {K:Dec} {vs:List Value} {cs:List (Option (List Value))}:dNl 1 K (.pointer none::vs) (none::cs)=K vs cs:=rfl
def XsB (i:Nat) (a b:Dec):Dec:=fun vs cs=>match vs[i]? with
 | some (.pointer none)=>b vs cs
 | _=>a vs cs
theorem XsB.elim {i:Nat} {a b:Dec} {vs:List Value} {cs:List (Option (List Value))} {r:XcU} (h:XsB i a b vs cs=some r):a vs cs=some r∨b vs cs=some r:=by
 unfold XsB at h
 split at h
 ·exact .inr h
 ·exact .inl h
theorem Xta {H:Hp} {s:Nat→Option Nat}:Xt6 H s [] []:=trivial
theorem XtS {H:Hp} {s:Nat→Option Nat} {j:Nat} {js:List Nat} {c c':List Value} {cs:List (List Value)} (e:Xe0.renL s c=some c') (h:Has H j c') (t:Xt6 H s js cs):Xt6 H s (j::js) (c::cs):=⟨⟨_,e,h⟩,t⟩
theorem Xtg {n:Nat} {wr:List (Option (List Value))}:XJf n wr []:=trivial
theorem XtR {n j:Nat} {wr:List (Option (List Value))} {js:List Nat} (h:n≤j) (t:XJf n wr js):XJf n wr (j::js):=⟨.inl h,t⟩
theorem XWs {n j:Nat} {wr:List (Option (List Value))} {js:List Nat} (h:wr[j]?=some none) (t:XJf n wr js):XJf n wr (j::js):=⟨.inr h,t⟩
theorem Xtk {H:Hp} {s:Nat→Option Nat} {k:Nat}:XBT H s k []:=trivial
theorem XVw {H:Hp} {s:Nat→Option Nat} {k:Nat} {l:List (Option (List Value))} (t:XBT H s (k+1) l):XBT H s k (none::l):=t
theorem XSc {H:Hp} {s:Nat→Option Nat} {k:Nat} {c c':List Value} {l:List (Option (List Value))} (e:Xe0.renL s c=some c') (h:Has H k c') (t:XBT H s (k+1) l):XBT H s k (some c::l):=⟨⟨_,e,h⟩,t⟩
theorem Res.flat {n:Nat} {r:XcU} {v':Value} {H':Hp} {b:Bool} (e:r.v=.bool b) (_:r.new=[]) (h:Res n r v' H'):v'=.bool b:=by
 obtain ⟨js,h1,h2,-⟩:=h.ex
 rw [e] at h1
 cases h1;rfl
theorem Xg9.q {s:XbE} {vals:List Value} {h:Hp} {top:Nat} {K:Value→Hp→Nat→Prop} {r:XcU} {v':Value} (e1:Xdj h 0 s.modes vals=some (vals,[])) (ew:XkH h s.modes vals=[]) (e2:s.run vals []=some r) (hn:r.new=[]) (hw:r.wr=[]) (e6:Xe0 (XuH top 0 []) r.v=some v')
 (k:Xil v' fun v=>XlP [] h fun h'=>K v h' top):Xg9 s vals h top K:=by
 refine Xg9.XHW [] (Xtr (n:=0) (m:=0) (t':=top) e1 ew rfl e2 rfl (by rw [hn];rfl) rfl rfl (by rw [hw];exact XJc) (by rw [hn];exact XIa) e6) k
theorem dFin {α:Type} {o:Option α} {f:α→XcU} {vs:List Value} {cs:List (Option (List Value))} {r:XcU} (h:XdX (ofG o f) vs cs=some r):vs=[]∧cs=[]∧∃ x,o=some x∧f x=r:=by
 obtain ⟨a,b,c⟩:=XdX.elim h
 exact ⟨a,b,ofG.elim c⟩
theorem Res.z {n:Nat} {r:XcU} {v':Value} {H':Hp} (e1:Xe0 (Xxb [] n) r.v=some v') (e2:r.new=[]) (e3:r.wr=[]):Res n r v' H':=
 Res.of [] e1 (by rw [e2];exact Xta) (by decide) Xtg (by rw [e3];exact Xtk)
theorem Xg9.p {s:XbE} {vals:List Value} {h:Hp} {top:Nat} {K:Value→Hp→Nat→Prop} {r:XcU} {v':Value} (e2:s.run vals []=some r)
 (k:Xil v' fun v=>XlP [] h fun h'=>K v h' top) (e1:Xdj h 0 s.modes vals=some (vals,[]):=by exact rfl) (ew:XkH h s.modes vals=[]:=by exact rfl) (hn:r.new=[]:=by exact rfl) (hw:r.wr=[]:=by exact rfl) (e6:Xe0 (XuH top 0 []) r.v=some v':=by exact rfl):Xg9 s vals h top K:=Xg9.q e1 ew e2 hn hw e6 k
theorem Res.y {n:Nat} {r:XcU} {v':Value} {H':Hp} (e1:Xe0 (Xxb [] n) r.v=some v':=by exact rfl) (e2:r.new=[]:=by exact rfl) (e3:r.wr=[]:=by exact rfl):Res n r v' H':=Res.z e1 e2 e3
end Go.Vm
namespace Go.Vm
open Go Go.RowKit
section
variable {α:Type} {f:α→List Value} {c:Nat}
end
end Go.Vm
namespace Go.Vm
end Go.Vm
namespace Go.Vm
open Go
theorem XdT {n:Int} (h1:-9223372036854775808≤n) (h2:n<9223372036854775808):wI .i64 n=n:=by
 show IntKind.wrap .i64 n=n;rw [IntKind.wrap_i64];omega
theorem XfY {n:Int} (h1:0≤n) (h2:n<18446744073709551616):wI .u64 n=n:=by
 show IntKind.wrap .u64 n=n
 simp only [IntKind.wrap,IntKind.bits,IntKind.signed];simp;omega
theorem XDt {n:Int} (h1:0≤n) (h2:n<4294967296):wI .u32 n=n:=by
 show IntKind.wrap .u32 n=n
 simp only [IntKind.wrap,IntKind.bits,IntKind.signed];simp;omega
theorem wU8 {n:Int} (h1:0≤n) (h2:n<256):wI .u8 n=n:=by
 show IntKind.wrap .u8 n=n
 simp only [IntKind.wrap,IntKind.bits,IntKind.signed];simp;omega
theorem wU64m (n:Int):wI .u64 n=n%18446744073709551616:=by
 show IntKind.wrap .u64 n=_
 simp only [IntKind.wrap,IntKind.bits,IntKind.signed];simp
theorem wU32m (n:Int):wI .u32 n=n%4294967296:=by
 show IntKind.wrap .u32 n=_
 simp only [IntKind.wrap,IntKind.bits,IntKind.signed];simp
theorem wU8m (n:Int):wI .u8 n=n%256:=by
 show IntKind.wrap .u8 n=_
 simp only [IntKind.wrap,IntKind.bits,IntKind.signed];simp
theorem XK8 {n:Nat} (h:n<18446744073709551616):(BitVec.ofInt 64 (n:Int)).toNat=n:=by
 rw [BitVec.toNat_ofInt];omega
theorem XSC {a b:Nat} (ha:a<9223372036854775808) (hb:b<9223372036854775808):Xnr .i64 (a:Int) (b:Int)=((a &&& b:Nat):Int):=by
 have h:a &&& b≤a:=Nat.and_le_left
 show IntKind.wrap .i64 _=_
 rw [show IntKind.bits .i64=64 from rfl,BitVec.toNat_and,XK8 (by omega),XK8 (by omega)]
 exact XdT (by omega) (by omega)
theorem XWq {a b:Nat} (ha:a<9223372036854775808) (hb:b<9223372036854775808):Xlg .i64 (a:Int) (b:Int)=((a ||| b:Nat):Int):=by
 have h:a ||| b<2^63:=Nat.or_lt_two_pow (by omega) (by omega)
 show IntKind.wrap .i64 _=_
 rw [show IntKind.bits .i64=64 from rfl,BitVec.toNat_or,XK8 (by omega),XK8 (by omega)]
 exact XdT (by omega) (by omega)
theorem XV1 {a b:Nat} (ha:a<18446744073709551616) (hb:b<18446744073709551616):Xlg .u64 (a:Int) (b:Int)=((a ||| b:Nat):Int):=by
 have h:a ||| b<2^64:=Nat.or_lt_two_pow (by omega) (by omega)
 show IntKind.wrap .u64 _=_
 rw [show IntKind.bits .u64=64 from rfl,BitVec.toNat_or,XK8 (by omega),XK8 (by omega)]
 exact XfY (by omega) (by omega)
theorem XDp (a k:Nat):a &&& (2^k - 1)=a%2^k:=Nat.and_two_pow_sub_one_eq_mod a k
theorem XH6 {a b k:Nat} (hb:b<2^k):(a*2^k) ||| b=a*2^k+b:=by
 rw [Nat.mul_comm];exact (Nat.two_pow_add_eq_or_of_lt hb a).symm
theorem Xjv (k:Nat) {a m:Int} (hm:m=2^k - 1) (hk:k≤62) (h0:0≤a) (h1:a<9223372036854775808):Xnr .i64 a m=a%2^k:=by
 obtain ⟨n,rfl⟩:=Int.eq_ofNat_of_zero_le h0
 have hp:2^k≤2^62:=Nat.pow_le_pow_right (by decide) hk
 have hp1:1≤2^k:=Nat.one_le_two_pow
 have:m=((2^k - 1:Nat):Int):=by rw [hm];push_cast [hp1];rfl
 rw [this,XSC (by omega) (by omega),XDp];push_cast;rfl
theorem Xrk (k:Nat) {a b:Int} (h0:0≤a) (h1:a*2^k<9223372036854775808) (hb0:0≤b) (hb:b<2^k) (hb1:b<9223372036854775808):Xlg .i64 (a*2^k) b=a*2^k+b:=by
 obtain ⟨n,rfl⟩:=Int.eq_ofNat_of_zero_le h0
 obtain ⟨m,rfl⟩:=Int.eq_ofNat_of_zero_le hb0
 have e:((n:Int)*2^k)=((n*2^k:Nat):Int):=by push_cast;rfl
 rw [e] at h1 ⊢
 rw [XWq (by omega) (by omega),XH6 (by exact_mod_cast hb)];push_cast;rfl
theorem XgW (k:Nat) {a b:Int} (h0:0≤a) (h1:a*2^k<18446744073709551616) (hb0:0≤b) (hb:b<2^k) (hb1:b<18446744073709551616):Xlg .u64 (a*2^k) b=a*2^k+b:=by
 obtain ⟨n,rfl⟩:=Int.eq_ofNat_of_zero_le h0
 obtain ⟨m,rfl⟩:=Int.eq_ofNat_of_zero_le hb0
 have e:((n:Int)*2^k)=((n*2^k:Nat):Int):=by push_cast;rfl
 rw [e] at h1 ⊢
 rw [XV1 (by omega) (by omega),XH6 (by exact_mod_cast hb)];push_cast;rfl
theorem XsS (a:Int) (k:Nat):a.fdiv (2^k)=a/2^k:=Int.fdiv_eq_ediv_of_nonneg a (Int.le_of_lt (Int.pow_pos (by decide)))
theorem Xar {α:Type} {p:Prop} [Decidable p] {x:Option α} (h:p):Xbh (decide p) x=x:=Xbh.mk (decide_eq_true h)
theorem XaP {α:Type} {p:Prop} [Decidable p] {x y:α} (h:p):cond (decide p) x y=x:=by rw [decide_eq_true h,cond_true]
theorem XaK {α:Type} {p:Prop} [Decidable p] {x y:α} (h:¬ p):cond (decide p) x y=y:=by rw [decide_eq_false h,cond_false]
theorem XrA {α:Type} {p:Prop} [Decidable p] {x y:α}:cond (decide p) x y=if p then x else y:=by
 by_cases h:p<;>simp [h]
theorem iter_eq {σ ρ:Type} {step:σ→Option (Sum σ ρ)} (F:σ→ρ) (P:σ→Prop) (μ:σ→Nat)
 (h:∀ s,P s→step s=some (.inr (F s))∨∃ s',step s=some (.inl s')∧P s'∧μ s'<μ s∧F s'=F s):∀ n s,P s→μ s<n→iter step n s=some (F s)
 | 0,s,hp,hn=>by omega
 | n+1,s,hp,hn=>by
   rw [iter]
   rcases h s hp with e|⟨s',e,hp',hm,hf⟩
   ·rw [e]
   ·rw [e];exact hf▸iter_eq F P μ h n s' hp' (by omega)
theorem XgM:FUEL=18446744073709551616:=rfl
end Go.Vm
namespace Go.Vm.Code
open Go Go.Vm Go.Proofs
def τ0:Operand:=.tmp 0
def τ1:Operand:=.tmp 1
def τ2:Operand:=.tmp 2
def τ3:Operand:=.tmp 3
def τ4:Operand:=.tmp 4
def τ5:Operand:=.tmp 5
def τ6:Operand:=.tmp 6
def τ7:Operand:=.tmp 7
def τ8:Operand:=.tmp 8
def τ9:Operand:=.tmp 9
def XcT:Operand:=.tmp 10
def XcS:Operand:=.tmp 11
def Xdr:Operand:=.tmp 12
def XdU:Operand:=.tmp 13
def Xet:Operand:=.tmp 14
def Xem:Operand:=.tmp 15
def XeC:Operand:=.tmp 16
def Xen:Operand:=.tmp 17
def XeQ:Operand:=.tmp 18
def XeM:Operand:=.tmp 19
def Xe4:Operand:=.tmp 20
def Xfw:Operand:=.tmp 21
def Xfv:Operand:=.tmp 22
def Xfs:Operand:=.tmp 23
def XfN:Operand:=.tmp 24
def Xgd:Operand:=.tmp 25
def Xge:Operand:=.tmp 26
def Xgn:Operand:=.tmp 27
def Xgi:Operand:=.tmp 28
def Xgf:Operand:=.tmp 29
def Xgw:Operand:=.tmp 30
def XgO:Operand:=.tmp 31
def Xg5:Operand:=.tmp 32
def Xha:Operand:=.tmp 33
def Xhb:Operand:=.tmp 34
def Xhq:Operand:=.tmp 35
def XhU:Operand:=.tmp 36
def XhT:Operand:=.tmp 37
def Xii:Operand:=.tmp 38
def XiX:Operand:=.tmp 39
def Xi4:Operand:=.tmp 40
def Xjg:Operand:=.tmp 41
def XiU:Operand:=.tmp 42
def Xi3:Operand:=.tmp 43
def XjY:Operand:=.tmp 44
def XjM:Operand:=.tmp 45
def Xke:Operand:=.tmp 46
def Xkb:Operand:=.tmp 47
def Xkd:Operand:=.tmp 48
def Xkc:Operand:=.tmp 49
def XkJ:Operand:=.tmp 50
def Xla:Operand:=.tmp 51
def Xk8:Operand:=.tmp 52
def Xmo:Operand:=.tmp 53
def Xm6:Operand:=.tmp 54
def Xmv:Operand:=.tmp 55
def Xm5:Operand:=.tmp 56
def XmR:Operand:=.tmp 57
def XmY:Operand:=.tmp 58
def Xnn:Operand:=.tmp 59
def Xn5:Operand:=.tmp 60
def Xon:Operand:=.tmp 61
def XoU:Operand:=.tmp 62
def Xqr:Operand:=.tmp 63
def Xqq:Operand:=.tmp 64
def Xq4:Operand:=.tmp 65
def XqY:Operand:=.tmp 66
def Xqy:Operand:=.tmp 67
def Xqw:Operand:=.tmp 68
def Xsf:Operand:=.tmp 69
def Xsw:Operand:=.tmp 70
def XsA:Operand:=.tmp 71
def Xsx:Operand:=.tmp 72
def XtQ:Operand:=.tmp 73
def Xvo:Operand:=.tmp 74
def Xwh:Operand:=.tmp 75
def Xxk:Operand:=.tmp 76
def Xxv:Operand:=.tmp 77
def Xxu:Operand:=.tmp 78
def Xyk:Operand:=.tmp 79
def Xyz:Operand:=.tmp 80
def XBO:Operand:=.tmp 81
def XF0:Operand:=.tmp 82
def XBG:Operand:=.tmp 83
def XIF:Operand:=.tmp 84
def XJu:Operand:=.tmp 85
def XPM:Operand:=.tmp 86
def XOn:Operand:=.tmp 87
def XN4:Operand:=.tmp 88
def XJQ:Operand:=.tmp 89
def XKo:Operand:=.tmp 90
def XO9:Operand:=.tmp 91
def XNL:Operand:=.tmp 92
def XKe:Operand:=.tmp 93
def XNn:Operand:=.tmp 94
def XJ5:Operand:=.tmp 95
def XPU:Operand:=.tmp 96
def XJa:Operand:=.tmp 97
def XQl:Operand:=.tmp 98
def XQj:Operand:=.tmp 99
def Xws:Operand:=.tmp 100
def Xw1:Operand:=.tmp 101
def XxI:Operand:=.tmp 102
def Xxh:Operand:=.tmp 103
def XBs:Operand:=.tmp 104
def Xys:Operand:=.tmp 105
def XBv:Operand:=.tmp 106
def XBp:Operand:=.tmp 107
def XyL:Operand:=.tmp 108
def Xzx:Operand:=.tmp 109
def XDr:Operand:=.tmp 110
def Xug:Operand:=.tmp 111
def XBh:Operand:=.tmp 112
def XBm:Operand:=.tmp 113
def XwV:Operand:=.tmp 114
def Xzm:Operand:=.tmp 115
def XAj:Operand:=.tmp 116
def XxW:Operand:=.tmp 117
def XBd:Operand:=.tmp 118
def XA3:Operand:=.tmp 119
def Xy0:Operand:=.tmp 120
def Xyl:Operand:=.tmp 121
def XxC:Operand:=.tmp 122
def XDm:Operand:=.tmp 123
def Xxz:Operand:=.tmp 124
def XDX:Operand:=.tmp 125
def XF2:Operand:=.tmp 126
def XES:Operand:=.tmp 127
def XCb:Operand:=.tmp 128
def XEm:Operand:=.tmp 129
def XCU:Operand:=.tmp 130
def XFT:Operand:=.tmp 131
def XCL:Operand:=.tmp 132
def XFP:Operand:=.tmp 133
def XEZ:Operand:=.tmp 134
def XHE:Operand:=.tmp 135
def XHd:Operand:=.tmp 136
def XyW:Operand:=.tmp 137
def XLG:Operand:=.tmp 138
def XKj:Operand:=.tmp 139
def XKO:Operand:=.tmp 140
def XOv:Operand:=.tmp 141
def XGV:Operand:=.tmp 142
def XPD:Operand:=.tmp 143
def XPN:Operand:=.tmp 144
def XNU:Operand:=.tmp 145
def XOd:Operand:=.tmp 146
def XOx:Operand:=.tmp 147
def XMx:Operand:=.tmp 148
def XKH:Operand:=.tmp 149
def XJN:Operand:=.tmp 150
def XPp:Operand:=.tmp 151
def XNb:Operand:=.tmp 152
def XPu:Operand:=.tmp 153
def XPs:Operand:=.tmp 154
def XM8:Operand:=.tmp 155
def XLp:Operand:=.tmp 156
def XUc:Operand:=.tmp 157
def XWr:Operand:=.tmp 158
def XU3:Operand:=.tmp 159
def XQy:Operand:=.tmp 160
def τ161:Operand:=.tmp 161
def τ162:Operand:=.tmp 162
def τ163:Operand:=.tmp 163
def τ164:Operand:=.tmp 164
def τ165:Operand:=.tmp 165
def τ166:Operand:=.tmp 166
def τ167:Operand:=.tmp 167
def τ168:Operand:=.tmp 168
def τ169:Operand:=.tmp 169
def τ170:Operand:=.tmp 170
def τ171:Operand:=.tmp 171
def τ172:Operand:=.tmp 172
def τ173:Operand:=.tmp 173
def τ174:Operand:=.tmp 174
def τ175:Operand:=.tmp 175
def τ176:Operand:=.tmp 176
def τ177:Operand:=.tmp 177
def τ178:Operand:=.tmp 178
def τ179:Operand:=.tmp 179
def τ180:Operand:=.tmp 180
def τ181:Operand:=.tmp 181
def τ182:Operand:=.tmp 182
def τ183:Operand:=.tmp 183
def τ184:Operand:=.tmp 184
def τ185:Operand:=.tmp 185
def τ186:Operand:=.tmp 186
def τ187:Operand:=.tmp 187
def oD (n:Nat) (o:VOp):Xdf:=⟨some n,o,none⟩
def oN (o:VOp):Xdf:=⟨none,o,none⟩
def oM (n:Nat) (x:Operand):Xdf:=⟨some n,.mv x,none⟩
def oG (n:Nat) (o:VOp) (j:Nat) (b:Bool):Xdf:=⟨some n,o,some (j,b)⟩
def oE (n i:Nat) (x:Operand):Xdf:=⟨some n,.extract i x,none⟩
def k6_25:VC:=.regD [oM 83 τ5,oM 84 τ1,oM 85 τ8,oD 86 (.idxAL 4 XIF XJu),oD 87 (.fieldA 1 XPM),oD 88 (.load1 (.int .i64) XOn),oM 89 τ1,oM 90 τ8,oD 91 (.idxAL 4 XJQ XKo),oD 92 (.fieldA 2 XO9),oD 93 (.load1 .str XNL),oD 94 (.callF 37 [XBG,XN4,XKe]),oM 82 XNn,oE 95 0 XF0,oE 96 1 XF0,oM 9 XJ5] [] [oM 10 XPU]
def k6_26:VC:=.regD [oM 98 τ7,oM 99 τ1,oM 100 τ8,oD 101 (.idxAL 4 XQj Xws),oD 102 (.fieldA 1 Xw1),oD 103 (.load1 (.int .i64) XxI),oM 104 τ1,oM 105 τ8,oD 106 (.idxAL 4 XBs Xys),oD 107 (.fieldA 2 XBv),oD 108 (.load1 .str XBp),oD 109 (.callF 38 [XQl,Xxh,XyL]),oM 97 Xzx,oE 110 0 XJa,oE 111 1 XJa,oM 11 XDr] [] [oM 12 Xug]
def k6_35:VC:=.regD [oM 122 τ5,oM 123 τ1,oM 124 τ8,oD 125 (.idxAL 4 XDm Xxz),oD 126 (.fieldA 2 XDX),oD 127 (.load1 .str XF2),oD 128 (.callF 39 [XxC,XES]),oM 129 τ7,oM 130 τ1,oM 131 τ8,oD 132 (.idxAL 4 XCU XFT),oD 133 (.fieldA 2 XCL),oD 134 (.load1 .str XFP)] [(6,12)] [oD 135 (.callF 40 [XEm,XEZ]),oD 136 (.bin .neq XCb XHE)]
def k6_41:VC:=.regD [oM 60 τ7,oM 61 τ7,oD 62 (.nilCheck Xon),oD 63 (.fieldA 9 XoU),oD 64 (.load1 (.int .u32) Xqr),oM 65 τ1,oM 66 τ8,oD 67 (.idxAL 4 Xq4 XqY),oD 68 (.fieldA 3 Xqy),oD 69 (.load1 (.int .u32) Xqw),oD 70 (.bin .add Xqq Xsf)] [] [oD 71 (.nilCheck Xn5),oD 72 (.fieldA 9 XsA),oN (.store 1 Xsx Xsw)]
def k6_73:VC:=.seq (.reg [oD 2 (.box τ0),oD 4 (.mv (.const (.bool false)))]) (.seq (.seq (.reg [oM 15 τ1,oD 16 (.callF 31 [Xem]),oD 17 (.not XeC)]) (.cond Xen (.seq (.reg [oD 18 (.callF 32 []),oM 4 XeQ]) .ret) .skip)) (.seq (.reg [oD 20 (.loadN [(.int .i64),.bool,(.int .u64),(.int .u64),.bool,(.int .u64),(.int .u64),(.int .i64),(.int .i64)] τ2),oD 21 (.callF 33 [Xe4]),oM 19 Xfw,oE 22 0 XeM,oE 23 1 XeM,oM 5 Xfv,oM 6 Xfs]) (.seq (.reg [oD 24 (.loadN [(.int .i64),.bool,(.int .u64),(.int .u64),.bool,(.int .u64),(.int .u64),(.int .i64),(.int .i64)] τ2),oD 25 (.callF 34 [XfN]),oM 7 Xgd]) (.seq (.seq (.reg [oM 26 τ5,oD 27 (.isNil 0 false Xge),oM 28 τ7,oD 29 (.isNil 0 false Xgi),oD 30 (.eqB true Xgn Xgf),oM 31 Xgw,oG 32 (.mv τ6) 31 false,oG 33 (.bin .eql Xg5 (.const (.int .i64 0))) 31 false,oG 34 (.mv τ7) 31 false,oG 35 (.isNil 0 true Xhb) 31 false,oG 36 (.eqB true Xha Xhq) 31 false,oD 37 (.pick XgO (.const (.bool true)) XhU)]) (.cond XhT (.seq (.reg [oD 4 (.mv (.const (.bool false)))]) .ret) .skip)) (.seq (.seq (.reg [oD 8 (.mv (.const (.int .i64 0)))]) (.block 0 (.loop (.seq (.seq (.reg [oM 38 τ8,oM 39 τ1,oD 40 (.lenL XiX),oD 41 (.bin .lss Xii Xi4),oM 42 Xjg,oG 43 (.mv τ7) 42 true,oG 44 (.isNil 0 true Xi3) 42 true,oD 45 (.pick XiU XjY (.const (.bool false)))]) (.cond XjM .skip (.exit 0))) (.seq (.block 1 (.seq (.seq (.reg [oM 48 τ1,oM 49 τ8,oD 50 (.idxAL 4 Xkd Xkc),oD 51 (.fieldA 0 XkJ),oD 52 (.load1 (.int .i64) Xla)]) (.block 2 (.seq (.reg [oD 74 (.bin .eql Xk8 (.const (.int .i64 0))),oM 73 Xvo]) (.cond XtQ (.seq (.reg [oM 75 τ5,oD 76 (.callF 35 [Xwh]),oM 77 τ7,oD 78 (.callF 36 [Xxv]),oD 79 (.bin .neq Xxk Xxu)]) (.cond Xyk (.seq (.reg [oD 4 (.mv (.const (.bool false)))]) .ret) .skip)) (.seq (.reg [oD 81 (.bin .eql Xk8 (.const (.int .i64 1))),oM 80 XBO]) (.cond Xyz (.seq k6_25 (.seq k6_26 (.seq (.reg [oM 112 τ9,oM 113 XcS,oD 114 (.bin .neq XBh XBm),oM 115 XwV,oG 116 (.mv XcT) 115 false,oG 117 (.mv Xdr) 115 false,oG 118 (.bin .neq XAj XxW) 115 false,oD 119 (.pick Xzm (.const (.bool true)) XBd)]) (.cond XA3 (.seq (.reg [oD 4 (.mv (.const (.bool false)))]) .ret) .skip)))) (.seq (.reg [oD 121 (.bin .eql Xk8 (.const (.int .i64 2))),oM 120 Xyl]) (.cond Xy0 (.seq k6_35 (.cond XHd (.seq (.reg [oD 4 (.mv (.const (.bool false)))]) .ret) .skip)) (.seq (.reg [oM 53 τ5,oM 54 τ1,oM 55 τ8,oD 56 (.idxAL 4 Xm6 Xmv),oD 57 (.fieldA 3 Xm5),oD 58 (.load1 (.int .u32) XmR),oD 59 (.callF 41 [Xmo,XmY])]) k6_41))))))))) (.seq (.reg [oM 138 τ5,oD 139 (.callF 42 [XLG]),oM 137 XKj,oE 140 0 XyW,oE 141 1 XyW,oM 13 XKO,oM 14 XOv]) (.seq (.reg [oM 142 XdU,oM 143 τ7,oD 144 (.nilCheck XPD),oD 145 (.fieldA 10 XPN),oD 146 (.load1 (.int .u32) XNU),oD 147 (.bin .neq XGV XOd),oM 148 XOx,oG 149 (.mv Xet) 148 false,oG 150 (.mv τ7) 148 false,oG 151 (.nilCheck XJN) 148 false,oG 152 (.fieldA 11 XPp) 148 false,oG 153 (.load1 .str XNb) 148 false,oG 154 (.bin .neq XKH XPu) 148 false,oD 155 (.pick XMx (.const (.bool true)) XPs)]) (.cond XM8 (.seq (.reg [oD 4 (.mv (.const (.bool false)))]) .ret) .skip))))) (.reg [oM 46 τ8,oD 47 (.bin .add Xke (.const (.int .i64 1))),oM 8 Xkb])))))) (.seq (.reg [oD 156 (.callF 32 []),oM 4 XLp]) .ret))))))
def fn6:VFn:=⟨157,k6_73,[.tmp 4]⟩
def XRf:VC:=.seq (.reg [oD 2 (.mv (.const (.bool false)))]) (.seq (.seq (.reg [oD 3 (.mv (.const (.int .i64 0)))]) (.block 0 (.loop (.seq (.seq (.reg [oM 4 τ3,oM 5 τ0,oD 6 (.lenL τ5),oD 7 (.bin .lss τ4 τ6),oM 8 τ7,oG 9 (.mv τ3) 8 true,oG 10 (.bin .lss τ9 (.const (.int .i64 30))) 8 true,oD 11 (.pick τ8 XcT (.const (.bool false)))]) (.cond XcS .skip (.exit 0))) (.seq (.block 1 (.seq (.reg [oM 14 τ0,oM 15 τ3,oD 16 (.idxAL 4 Xet Xem),oD 17 (.fieldA 2 XeC),oD 18 (.load1 .str Xen),oD 19 (.lenS XeQ),oD 20 (.bin .gtr XeM (.const (.int .i64 300)))]) (.cond Xe4 (.seq (.reg [oD 2 (.mv (.const (.bool false)))]) .ret) .skip))) (.reg [oM 12 τ3,oD 13 (.bin .add Xdr (.const (.int .i64 1))),oM 3 XdU])))))) (.seq (.reg [oM 21 τ0,oD 22 (.lenL Xfw),oD 23 (.bin .leq Xfv (.const (.int .i64 30))),oM 2 Xfs]) .ret))
def fn31:VFn:=⟨24,XRf,[.tmp 2]⟩
def XH7:VC:=.seq (.reg [oD 0 (.mv (.const (.bool false)))]) (.seq (.reg [oD 14 (.build [(.int .i64 0),(.bool false),(.int .u64 0),(.int .u64 0),(.bool false),(.int .u64 0),(.int .u64 0),(.int .i64 0),(.int .i64 0)] [(0,1,(.const (.int .i64 6)))]),oD 15 (.callF 33 [Xet]),oM 13 Xem,oE 16 0 XdU,oE 17 1 XdU,oM 1 XeC,oM 2 Xen]) (.seq (.reg [oM 19 τ1,oD 20 (.callF 35 [XeM]),oD 21 (.callF 28 [Xe4]),oM 18 Xfw,oE 22 0 XeQ,oE 23 1 XeQ,oD 3 (.alloc [(.int .i64 0),(.bool false),(.int .u64 0),(.int .u64 0),(.bool false),(.int .u64 0),(.int .u64 0),(.int .i64 0),(.int .i64 0),(.int .i64 0),(.bool false),(.int .u32 0),(.int .u32 0),(.bool false),(.string ⟨⟨[]⟩⟩),(.int .i64 0)]),oN (.store 16 τ3 Xfv),oM 4 Xfs]) (.seq (.reg [oD 25 (.build [(.int .i64 0),(.bool false),(.int .u64 0),(.int .u64 0),(.bool false),(.int .u64 0),(.int .u64 0),(.int .i64 0),(.int .i64 0)] [(0,1,(.const (.int .i64 7)))]),oD 26 (.callF 33 [Xgd]),oM 24 Xge,oE 27 0 XfN,oE 28 1 XfN,oM 5 Xgn,oM 6 Xgi]) (.seq (.reg [oD 7 (.mv (.const (.pointer none)))]) (.seq (.reg [oD 29 (.build [(.int .i64 0),(.bool false),(.int .u64 0),(.int .u64 0),(.bool false),(.int .u64 0),(.int .u64 0),(.int .i64 0),(.int .i64 0),.nilFunc,.nilFunc,.nilFunc,(.int .u32 0),(.int .u32 0),(.string ⟨⟨[]⟩⟩)] []),oD 30 (.box Xgf),oM 8 Xgw]) (.seq (.reg [oM 31 τ7,oD 32 (.callF 41 [XgO,(.const (.int .u32 1))])]) (.seq (.reg [oM 33 τ8,oD 34 (.callF 41 [Xha,(.const (.int .u32 1))])]) (.seq (.reg [oM 36 τ7,oD 37 (.callF 37 [XhU,(.const (.int .i64 0)),(.const (.string ⟨⟨[]⟩⟩))]),oM 35 XhT,oE 38 0 Xhq,oE 39 1 Xhq,oM 9 Xii,oM 10 XiX]) (.seq (.reg [oM 41 τ8,oD 42 (.callF 42 [Xjg]),oM 40 XiU,oE 43 0 Xi4,oE 44 1 Xi4,oM 11 Xi3,oM 12 XjY]) (.seq (.reg [oM 45 τ2,oD 46 (.bin .eql XjM (.const (.int .i64 0))),oM 47 Xke,oG 48 (.mv τ4) 47 true,oG 49 (.bin .eql Xkd (.const (.int .i64 0))) 47 true,oD 50 (.pick Xkb Xkc (.const (.bool false))),oM 51 XkJ,oG 52 (.fieldA 9 τ3) 51 true,oG 53 (.load1 (.int .i64) Xk8) 51 true,oG 54 (.bin .eql Xmo (.const (.int .i64 2))) 51 true,oD 55 (.pick Xla Xm6 (.const (.bool false))),oM 56 Xmv,oG 57 (.mv τ6) 56 true,oG 58 (.bin .eql XmR (.const (.int .i64 1))) 56 true,oD 59 (.pick Xm5 XmY (.const (.bool false))),oM 60 Xnn,oG 61 (.mv XcT) 60 true,oG 62 (.bin .eql Xon (.const (.int .i64 1))) 60 true,oD 63 (.pick Xn5 XoU (.const (.bool false))),oM 64 Xqr,oG 65 (.mv τ8) 64 true,oG 66 (.callF 39 [Xq4,(.const (.string ⟨⟨[]⟩⟩))]) 64 true,oG 67 (.bin .eql XqY (.const (.int .i64 1))) 64 true,oD 68 (.pick Xqq Xqy (.const (.bool false))),oM 69 Xqw,oG 70 (.mv τ7) 69 true,oG 71 (.callF 35 [Xsw]) 69 true,oG 72 (.bin .eql XsA (.const (.string ⟨⟨[]⟩⟩))) 69 true,oD 73 (.pick Xsf Xsx (.const (.bool false))),oM 74 XtQ,oG 75 (.mv XcS) 74 true,oG 76 (.bin .eql Xwh (.const (.int .u32 0))) 74 true,oD 77 (.pick Xvo Xxk (.const (.bool false))),oM 78 Xxv,oG 79 (.mv Xdr) 78 true,oG 80 (.bin .eql Xyk (.const (.string ⟨⟨[]⟩⟩))) 78 true,oD 81 (.pick Xxu Xyz (.const (.bool false))),oM 0 XBO]) .ret))))))))))
def fn32:VFn:=⟨82,XH7,[.tmp 0]⟩
def k33_6:VC:=.regD [oD 8 (.loadN [(.int .i64),.bool,(.int .u64),(.int .u64),.bool,(.int .u64),(.int .u64),(.int .i64),(.int .i64)] τ1),oD 9 (.callF 68 [(.const (.string ⟨⟨[0]⟩⟩)),(.const (.int .i64 8))])] [(0,1)] [oD 10 (.build [(.int .i64 0),(.bool false),(.int .u64 0),(.int .u64 0),(.bool false),(.int .u64 0),(.int .u64 0),(.int .i64 0),(.int .i64 0),.nilFunc,.nilFunc,.nilFunc,(.int .u32 0),(.int .u32 0),(.string ⟨⟨[]⟩⟩)] [(0,9,τ8),(12,1,(.const (.int .u32 1))),(14,1,τ9)]),oD 11 (.box XcT),oM 4 XcS]
def XSN:VC:=.seq (.reg [oD 1 (.box τ0),oD 2 (.mv (.const (.pointer none))),oD 3 (.mv (.const (.int .i64 0)))]) (.seq (.seq (.reg [oD 5 (.loadN [(.int .i64),.bool,(.int .u64),(.int .u64),.bool,(.int .u64),(.int .u64),(.int .i64),(.int .i64)] τ1),oD 6 (.callF 67 [τ5]),oD 7 (.not τ6)]) (.cond τ7 (.seq (.reg [oD 2 (.mv (.const (.pointer none))),oD 3 (.mv (.const (.int .i64 1)))]) .ret) .skip)) (.seq k33_6 (.seq (.seq (.reg [oD 12 (.fieldA 0 τ1),oD 13 (.load1 (.int .i64) Xdr)]) (.block 0 (.seq (.reg [oD 15 (.bin .eql XdU (.const (.int .i64 6))),oM 14 Xem]) (.cond Xet (.reg [oM 16 τ4,oD 17 (.callF 69 []),oD 18 (.nilCheck XeC),oD 19 (.fieldA 9 XeQ),oN (.store 3 XeM Xen)]) (.seq (.reg [oD 21 (.bin .eql XdU (.const (.int .i64 17))),oM 20 Xfw]) (.cond Xe4 (.reg [oM 22 τ4,oD 23 (.callF 70 []),oD 24 (.nilCheck Xfv),oD 25 (.fieldA 9 XfN),oN (.store 3 Xgd Xfs)]) (.seq (.reg [oD 2 (.mv (.const (.pointer none))),oD 3 (.mv (.const (.int .i64 1)))]) .ret))))))) (.seq (.reg [oM 26 τ4,oM 2 Xge,oD 3 (.mv (.const (.int .i64 0)))]) .ret))))
def fn33:VFn:=⟨27,XSN,[.tmp 2,.tmp 3]⟩
def XUQ:VC:=.seq (.reg [oD 1 (.box τ0),oD 2 (.mv (.const (.bool false)))]) (.seq (.reg [oD 3 (.fieldA 0 τ1),oD 4 (.load1 (.int .i64) τ3),oD 5 (.buildSl 1 1 [(.int .i64 0)] [(0,1,τ4)]),oD 6 (.callF 109 [(.const (.int .i64 255)),τ5]),oM 7 τ6,oG 8 (.fieldA 7 τ1) 7 true,oG 9 (.load1 (.int .i64) τ8) 7 true,oG 10 (.fieldA 8 τ1) 7 true,oG 11 (.load1 (.int .i64) XcT) 7 true,oG 12 (.buildSl 2 1 [(.int .i64 0),(.int .i64 0)] [(0,1,τ9),(1,1,XcS)]) 7 true,oG 13 (.callF 109 [(.const (.int .i64 65535)),Xdr]) 7 true,oD 14 (.pick τ7 XdU (.const (.bool false))),oM 15 Xet,oG 16 (.fieldA 1 τ1) 15 true,oG 17 (.loadN [.bool,(.int .u64),(.int .u64)] XeC) 15 true,oG 18 (.callF 110 [Xen]) 15 true,oD 19 (.pick Xem XeQ (.const (.bool false))),oM 20 XeM,oG 21 (.fieldA 4 τ1) 20 true,oG 22 (.loadN [.bool,(.int .u64),(.int .u64)] Xfw) 20 true,oG 23 (.callF 110 [Xfv]) 20 true,oD 24 (.pick Xe4 Xfs (.const (.bool false))),oM 25 XfN,oG 26 (.fieldA 1 τ1) 25 true,oG 27 (.fieldA 0 Xge) 25 true,oG 28 (.load1 .bool Xgn) 25 true,oG 29 (.fieldA 4 τ1) 25 true,oG 30 (.fieldA 0 Xgf) 25 true,oG 31 (.load1 .bool Xgw) 25 true,oG 32 (.eqB false Xgi XgO) 25 true,oD 33 (.pick Xgd Xg5 (.const (.bool false))),oM 2 Xha]) .ret)
def fn67:VFn:=⟨34,XUQ,[.tmp 2]⟩
def Xuu:VC:=.seq (.reg [oD 10 (.bin .lss τ9 τ8)]) (.seq (.cond XcT .skip (.exit 0)) (.seq (.block 1 (.seq (.reg [oD 11 (.idxAL 1 τ7 τ9),oD 12 (.load1 (.int .i64) XcS),oM 6 Xdr]) (.seq (.reg [oM 13 τ6,oD 14 (.bin .lss XdU (.const (.int .i64 0))),oM 15 Xet,oG 16 (.mv τ6) 15 false,oG 17 (.mv τ0) 15 false,oG 18 (.bin .gtr XeC Xen) 15 false,oD 19 (.pick Xem (.const (.bool true)) XeQ)]) (.cond XeM (.seq (.reg [oD 4 (.mv (.const (.bool false)))]) .ret) .skip)))) (.reg [oD 20 (.bin .add τ9 (.const (.int .i64 1))),oM 9 Xe4])))
def Xyw:VC:=.seq (.reg [oD 4 (.mv (.const (.bool true)))]) .ret
def XxT:VC:=.seq (.reg [oD 4 (.mv (.const (.bool false)))]) (.seq (.seq (.reg [oM 7 τ1,oD 8 (.lenL τ7),oD 9 (.mv (.const (.int .i64 0)))]) (.block 0 (.loop Xuu))) Xyw)
def XSA:VFn:=⟨21,XxT,[.tmp 4]⟩
def XJi:VC:=.seq (.reg [oD 1 (.box τ0),oD 2 (.mv (.const (.bool false)))]) (.seq (.reg [oD 3 (.fieldA 0 τ1),oD 4 (.load1 .bool τ3),oM 5 τ4,oG 6 (.fieldA 1 τ1) 5 false,oG 7 (.load1 (.int .u64) τ6) 5 false,oG 8 (.bin .eql τ7 (.const (.int .u64 0))) 5 false,oG 9 (.mv τ8) 5 false,oG 10 (.fieldA 2 τ1) 9 true,oG 11 (.load1 (.int .u64) XcT) 9 true,oG 12 (.bin .lss XcS (.const (.int .u64 4294967296))) 9 true,oG 13 (.pick τ9 Xdr (.const (.bool false))) 5 false,oD 14 (.pick τ5 (.const (.bool true)) XdU),oM 2 Xet]) .ret)
def XWE:VFn:=⟨15,XJi,[.tmp 2]⟩
def XOK:VC:=.seq (.reg [oD 4 (.mv (.const (.string ⟨⟨[]⟩⟩)))]) (.seq (.seq (.reg [oM 11 τ1]) (.block 0 (.seq (.reg [oD 13 (.bin .eql XcS (.const (.int .i64 0))),oM 12 XdU]) (.cond Xdr (.seq (.reg [oD 4 (.mv (.const (.string ⟨⟨[]⟩⟩)))]) .ret) (.seq (.reg [oD 15 (.bin .eql XcS (.const (.int .i64 1))),oM 14 Xem]) (.cond Xet (.seq (.reg [oM 16 τ0,oM 4 XeC]) .ret) .skip)))))) (.seq (.seq (.reg [oM 17 τ1,oD 18 (.bin .lss Xen (.const (.int .i64 0)))]) (.cond XeQ .stuck .skip)) (.seq (.reg [oM 21 τ0,oD 22 (.lenS Xfw),oD 23 (.conv .u64 Xfv),oM 24 τ1,oD 25 (.conv .u64 XfN),oD 26 (.callF 111 [Xfs,Xgd]),oM 20 Xge,oE 27 0 Xe4,oE 28 1 Xe4,oM 5 Xgn,oM 6 Xgi]) (.seq (.seq (.reg [oM 29 τ5,oD 30 (.bin .gtr Xgf (.const (.int .u64 0))),oM 31 Xgw,oG 32 (.mv τ6) 31 false,oG 33 (.bin .gtr Xg5 (.const (.int .u64 9223372036854775807))) 31 false,oD 34 (.pick XgO (.const (.bool true)) Xha)]) (.cond Xhb .stuck .skip)) (.seq (.reg [oM 36 τ6,oD 37 (.conv .i64 XhU),oM 7 XhT]) (.seq (.seq (.reg [oM 38 τ0,oD 39 (.lenS Xii),oD 40 (.bin .eql XiX (.const (.int .i64 0)))]) (.cond Xi4 (.seq (.reg [oD 4 (.mv (.const (.string ⟨⟨[]⟩⟩)))]) .ret) .skip)) (.seq (.seq (.reg [oM 41 τ0,oD 42 (.idxS Xjg (.const (.int .i64 0)))]) (.block 1 (.seq (.seq (.reg [oD 44 (.bin .eql XiU (.const (.int .u8 32))),oM 43 XjY]) (.cond Xi3 .skip (.seq (.reg [oD 45 (.bin .eql XiU (.const (.int .u8 45))),oM 43 XjM]) (.cond Xi3 .skip (.seq (.reg [oD 46 (.bin .eql XiU (.const (.int .u8 48))),oM 43 Xke]) (.cond Xi3 .skip (.seq (.reg [oD 47 (.bin .eql XiU (.const (.int .u8 61))),oM 43 Xkb]) (.cond Xi3 .skip (.reg [oD 48 (.bin .eql XiU (.const (.int .u8 9))),oM 43 Xkd]))))))))) (.cond Xi3 (.block 2 (.seq (.reg [oM 50 τ7,oD 51 (.bin .leq XkJ (.const (.int .i64 128))),oM 52 Xla,oG 53 (.mv τ0) 52 true,oG 54 (.callF 112 [(.const (.string ⟨⟨[32,32,32,32,32,32,32,32,32,32,32,32,32,32,32,32,32,32,32,32,32,32,32,32,32,32,32,32,32,32,32,32,32,32,32,32,32,32,32,32,32,32,32,32,32,32,32,32,32,32,32,32,32,32,32,32,32,32,32,32,32,32,32,32,32,32,32,32,32,32,32,32,32,32,32,32,32,32,32,32,32,32,32,32,32,32,32,32,32,32,32,32,32,32,32,32,32,32,32,32,32,32,32,32,32,32,32,32,32,32,32,32,32,32,32,32,32,32,32,32,32,32,32,32,32,32,32,32]⟩⟩)),Xmo]) 52 true,oD 55 (.pick Xk8 Xm6 (.const (.bool false))),oM 49 Xmv]) (.cond Xkc (.seq (.reg [oM 56 τ7,oD 57 (.sliceS (.const (.string ⟨⟨[32,32,32,32,32,32,32,32,32,32,32,32,32,32,32,32,32,32,32,32,32,32,32,32,32,32,32,32,32,32,32,32,32,32,32,32,32,32,32,32,32,32,32,32,32,32,32,32,32,32,32,32,32,32,32,32,32,32,32,32,32,32,32,32,32,32,32,32,32,32,32,32,32,32,32,32,32,32,32,32,32,32,32,32,32,32,32,32,32,32,32,32,32,32,32,32,32,32,32,32,32,32,32,32,32,32,32,32,32,32,32,32,32,32,32,32,32,32,32,32,32,32,32,32,32,32,32,32]⟩⟩)) none (some Xm5)),oM 4 XmR]) .ret) (.seq (.reg [oM 59 τ7,oD 60 (.bin .leq Xnn (.const (.int .i64 128))),oM 61 Xn5,oG 62 (.mv τ0) 61 true,oG 63 (.callF 112 [(.const (.string ⟨⟨[45,45,45,45,45,45,45,45,45,45,45,45,45,45,45,45,45,45,45,45,45,45,45,45,45,45,45,45,45,45,45,45,45,45,45,45,45,45,45,45,45,45,45,45,45,45,45,45,45,45,45,45,45,45,45,45,45,45,45,45,45,45,45,45,45,45,45,45,45,45,45,45,45,45,45,45,45,45,45,45,45,45,45,45,45,45,45,45,45,45,45,45,45,45,45,45,45,45,45,45,45,45,45,45,45,45,45,45,45,45,45,45,45,45,45,45,45,45,45,45,45,45,45,45,45,45,45,45]⟩⟩)),XoU]) 61 true,oD 64 (.pick Xon Xqr (.const (.bool false))),oM 58 Xqq]) (.cond XmY (.seq (.reg [oM 65 τ7,oD 66 (.sliceS (.const (.string ⟨⟨[45,45,45,45,45,45,45,45,45,45,45,45,45,45,45,45,45,45,45,45,45,45,45,45,45,45,45,45,45,45,45,45,45,45,45,45,45,45,45,45,45,45,45,45,45,45,45,45,45,45,45,45,45,45,45,45,45,45,45,45,45,45,45,45,45,45,45,45,45,45,45,45,45,45,45,45,45,45,45,45,45,45,45,45,45,45,45,45,45,45,45,45,45,45,45,45,45,45,45,45,45,45,45,45,45,45,45,45,45,45,45,45,45,45,45,45,45,45,45,45,45,45,45,45,45,45,45,45]⟩⟩)) none (some Xq4)),oM 4 XqY]) .ret) (.seq (.reg [oM 68 τ7,oD 69 (.bin .leq Xqw (.const (.int .i64 64))),oM 70 Xsf,oG 71 (.mv τ0) 70 true,oG 72 (.callF 112 [(.const (.string ⟨⟨[48,48,48,48,48,48,48,48,48,48,48,48,48,48,48,48,48,48,48,48,48,48,48,48,48,48,48,48,48,48,48,48,48,48,48,48,48,48,48,48,48,48,48,48,48,48,48,48,48,48,48,48,48,48,48,48,48,48,48,48,48,48,48,48]⟩⟩)),XsA]) 70 true,oD 73 (.pick Xsw Xsx (.const (.bool false))),oM 67 XtQ]) (.cond Xqy (.seq (.reg [oM 74 τ7,oD 75 (.sliceS (.const (.string ⟨⟨[48,48,48,48,48,48,48,48,48,48,48,48,48,48,48,48,48,48,48,48,48,48,48,48,48,48,48,48,48,48,48,48,48,48,48,48,48,48,48,48,48,48,48,48,48,48,48,48,48,48,48,48,48,48,48,48,48,48,48,48,48,48,48,48]⟩⟩)) none (some Xvo)),oM 4 Xwh]) .ret) (.seq (.reg [oM 77 τ7,oD 78 (.bin .leq Xxv (.const (.int .i64 128))),oM 79 Xxu,oG 80 (.mv τ0) 79 true,oG 81 (.callF 112 [(.const (.string ⟨⟨[61,61,61,61,61,61,61,61,61,61,61,61,61,61,61,61,61,61,61,61,61,61,61,61,61,61,61,61,61,61,61,61,61,61,61,61,61,61,61,61,61,61,61,61,61,61,61,61,61,61,61,61,61,61,61,61,61,61,61,61,61,61,61,61,61,61,61,61,61,61,61,61,61,61,61,61,61,61,61,61,61,61,61,61,61,61,61,61,61,61,61,61,61,61,61,61,61,61,61,61,61,61,61,61,61,61,61,61,61,61,61,61,61,61,61,61,61,61,61,61,61,61,61,61,61,61,61,61]⟩⟩)),Xyz]) 79 true,oD 82 (.pick Xyk XBO (.const (.bool false))),oM 76 XF0]) (.cond Xxk (.seq (.reg [oM 83 τ7,oD 84 (.sliceS (.const (.string ⟨⟨[61,61,61,61,61,61,61,61,61,61,61,61,61,61,61,61,61,61,61,61,61,61,61,61,61,61,61,61,61,61,61,61,61,61,61,61,61,61,61,61,61,61,61,61,61,61,61,61,61,61,61,61,61,61,61,61,61,61,61,61,61,61,61,61,61,61,61,61,61,61,61,61,61,61,61,61,61,61,61,61,61,61,61,61,61,61,61,61,61,61,61,61,61,61,61,61,61,61,61,61,61,61,61,61,61,61,61,61,61,61,61,61,61,61,61,61,61,61,61,61,61,61,61,61,61,61,61,61]⟩⟩)) none (some XBG)),oM 4 XIF]) .ret) (.seq (.reg [oM 86 τ7,oD 87 (.bin .leq XPM (.const (.int .i64 64))),oM 88 XOn,oG 89 (.mv τ0) 88 true,oG 90 (.callF 112 [(.const (.string ⟨⟨[9,9,9,9,9,9,9,9,9,9,9,9,9,9,9,9,9,9,9,9,9,9,9,9,9,9,9,9,9,9,9,9,9,9,9,9,9,9,9,9,9,9,9,9,9,9,9,9,9,9,9,9,9,9,9,9,9,9,9,9,9,9,9,9]⟩⟩)),XJQ]) 88 true,oD 91 (.pick XN4 XKo (.const (.bool false))),oM 85 XO9]) (.cond XJu (.seq (.reg [oM 92 τ7,oD 93 (.sliceS (.const (.string ⟨⟨[9,9,9,9,9,9,9,9,9,9,9,9,9,9,9,9,9,9,9,9,9,9,9,9,9,9,9,9,9,9,9,9,9,9,9,9,9,9,9,9,9,9,9,9,9,9,9,9,9,9,9,9,9,9,9,9,9,9,9,9,9,9,9,9]⟩⟩)) none (some XNL)),oM 4 XKe]) .ret) .skip))))))))))) .skip)))) (.seq (.reg [oM 94 τ7,oM 8 XNn]) (.seq (.seq (.reg [oM 95 τ7,oD 96 (.bin .gtr XJ5 (.const (.int .i64 8192)))]) (.cond XPU (.seq (.reg [oM 97 τ0,oD 98 (.lenS XJa),oD 99 (.bin .quo (.const (.int .i64 8192)) XQl),oM 100 τ0,oD 101 (.lenS Xws),oD 102 (.bin .mul XQj Xw1),oM 8 XxI]) (.seq (.reg [oM 103 τ8,oD 104 (.bin .eql Xxh (.const (.int .i64 0)))]) (.cond XBs (.reg [oM 105 τ0,oD 106 (.lenS Xys),oM 8 XBv]) .skip))) .skip)) (.seq (.reg [oD 9 (.allocB 171 5)]) (.seq (.reg [oM 107 τ7,oD 108 (.callF 113 [τ9,XBp])]) (.seq (.reg [oM 109 τ0,oD 110 (.callF 114 [τ9,Xzx])]) (.seq (.block 3 (.loop (.seq (.seq (.reg [oD 111 (.callF 115 [τ9]),oM 112 τ7,oD 113 (.bin .lss Xug XBh)]) (.cond XBm .skip (.exit 3))) (.block 4 (.seq (.reg [oM 114 τ7,oD 115 (.callF 115 [τ9]),oD 116 (.bin .sub XwV Xzm),oD 117 (.callF 115 [τ9]),oM 118 τ8,oD 119 (.minmax false [XAj,XxW,XBd]),oM 10 XA3]) (.reg [oD 120 (.callF 116 [τ9]),oM 121 XcT,oD 122 (.sliceS Xy0 none (some Xyl)),oD 123 (.callF 114 [τ9,XxC])])))))) (.seq (.reg [oD 124 (.callF 116 [τ9]),oM 4 Xxz]) .ret))))))))))))))
def fn68:VFn:=⟨125,XOK,[.tmp 4]⟩
def XKZ:VC:=.seq (.reg [oD 4 (.mv (.const (.int .u64 0))),oD 5 (.mv (.const (.int .u64 0)))]) (.seq (.cond (.const (.bool false)) (.seq (.reg [oM 11 τ0,oD 12 (.conv .u32 XcS),oM 13 τ1,oD 14 (.conv .u32 XdU),oD 15 (.callF 155 [Xdr,Xet]),oM 10 Xem,oE 16 0 XcT,oE 17 1 XcT,oM 6 XeC,oM 7 Xen]) (.seq (.reg [oM 18 τ6,oD 19 (.conv .u64 XeQ),oM 20 τ7,oD 21 (.conv .u64 Xe4),oM 4 XeM,oM 5 Xfw]) .ret)) .skip) (.seq (.reg [oM 23 τ0,oM 24 τ1,oD 25 (.callF 156 [Xfs,XfN]),oM 22 Xgd,oE 26 0 Xfv,oE 27 1 Xfv,oM 8 Xge,oM 9 Xgn]) (.seq (.reg [oM 28 τ8,oM 29 τ9,oM 4 Xgi,oM 5 Xgf]) .ret)))
def XSE:VFn:=⟨30,XKZ,[.tmp 4,.tmp 5]⟩
def XQZ:VC:=.seq (.reg [oD 4 (.mv (.const (.int .u32 0))),oD 5 (.mv (.const (.int .u32 0)))]) (.seq (.reg [oM 7 τ0,oD 8 (.conv .u64 τ7),oM 9 τ1,oD 10 (.conv .u64 τ9),oD 11 (.bin .mul τ8 XcT),oM 6 XcS]) (.seq (.reg [oM 12 τ6,oD 13 (.bin .shr Xdr (.const (.int .u64 32))),oD 14 (.conv .u32 XdU),oM 15 τ6,oD 16 (.conv .u32 Xem),oM 4 Xet,oM 5 XeC]) .ret))
def XSF:VFn:=⟨17,XQZ,[.tmp 4,.tmp 5]⟩
def XOu:VC:=.seq (.reg [oD 4 (.mv (.const (.int .u64 0))),oD 5 (.mv (.const (.int .u64 0)))]) (.seq (.reg [oM 14 τ0,oD 15 (.bin .and Xet (.const (.int .u64 4294967295))),oM 6 Xem]) (.seq (.reg [oM 16 τ0,oD 17 (.bin .shr XeC (.const (.int .u64 32))),oM 7 Xen]) (.seq (.reg [oM 18 τ1,oD 19 (.bin .and XeQ (.const (.int .u64 4294967295))),oM 8 XeM]) (.seq (.reg [oM 20 τ1,oD 21 (.bin .shr Xe4 (.const (.int .u64 32))),oM 9 Xfw]) (.seq (.reg [oM 22 τ6,oM 23 τ8,oD 24 (.bin .mul Xfv Xfs),oM 10 XfN]) (.seq (.reg [oM 25 τ7,oM 26 τ8,oD 27 (.bin .mul Xgd Xge),oM 28 XcT,oD 29 (.bin .shr Xgi (.const (.int .u64 32))),oD 30 (.bin .add Xgn Xgf),oM 11 Xgw]) (.seq (.reg [oM 31 XcS,oD 32 (.bin .and XgO (.const (.int .u64 4294967295))),oM 12 Xg5]) (.seq (.reg [oM 33 XcS,oD 34 (.bin .shr Xha (.const (.int .u64 32))),oM 13 Xhb]) (.seq (.reg [oM 35 Xdr,oM 36 τ6,oM 37 τ9,oD 38 (.bin .mul XhU XhT),oD 39 (.bin .add Xhq Xii),oM 12 XiX]) (.seq (.reg [oM 40 τ7,oM 41 τ9,oD 42 (.bin .mul Xi4 Xjg),oM 43 XdU,oD 44 (.bin .add XiU Xi3),oM 45 Xdr,oD 46 (.bin .shr XjM (.const (.int .u64 32))),oD 47 (.bin .add XjY Xke),oM 4 Xkb]) (.seq (.reg [oM 48 τ0,oM 49 τ1,oD 50 (.bin .mul Xkd Xkc),oM 5 XkJ]) .ret)))))))))))
def XSj:VFn:=⟨51,XOu,[.tmp 4,.tmp 5]⟩
def XRx:VC:=.seq (.reg [oD 4 (.mv (.const (.bool false)))]) (.seq (.reg [oM 5 τ0,oM 6 τ1,oD 7 (.callF 157 [τ5,τ6]),oM 4 τ7]) .ret)
def XQL:VFn:=⟨8,XRx,[.tmp 4]⟩
def XVd:VC:=.seq (.reg [oD 4 (.mv (.const (.bool false)))]) (.seq (.reg [oM 5 τ0,oD 6 (.lenS τ5),oM 7 τ1,oD 8 (.lenS τ7),oD 9 (.bin .geq τ6 τ8),oM 10 τ9,oG 11 (.mv τ0) 10 true,oG 12 (.mv τ1) 10 true,oG 13 (.lenS Xdr) 10 true,oG 14 (.sliceS XcS none (some XdU)) 10 true,oG 15 (.mv τ1) 10 true,oG 16 (.bin .eql Xet Xem) 10 true,oD 17 (.pick XcT XeC (.const (.bool false))),oM 4 Xen]) .ret)
def XUM:VFn:=⟨18,XVd,[.tmp 4]⟩
def XVS:VC:=.seq (.reg [oM 4 τ0,oD 5 (.callF 158 [τ4])]) (.seq (.seq (.reg [oM 6 τ1,oD 7 (.bin .lss τ6 (.const (.int .i64 0)))]) (.cond τ7 .stuck .skip)) (.seq .stuck (.cond Xfw (.reg [oM 22 τ0,oM 23 τ1,oD 24 (.callF 159 [Xfv,Xfs])]) .skip)))
def XUK:VFn:=⟨25,XVS,[]⟩
def XQq:VC:=.seq (.reg [oM 2 τ0,oD 3 (.nilCheck τ2),oD 4 (.fieldA 0 τ3),oD 5 (.load1 .oth τ4),oD 6 (.isNil 0 false τ5)]) (.cond τ6 (.reg [oM 7 τ0,oM 8 τ0,oD 9 (.toU τ8),oM 10 τ9,oD 11 (.ofU 171 2 XcT),oD 12 (.nilCheck τ7),oD 13 (.fieldA 0 Xdr),oN (.store 1 XdU XcS)]) (.seq (.reg [oM 14 τ0,oD 15 (.nilCheck Xet),oD 16 (.fieldA 0 Xem),oD 17 (.load1 .oth XeC),oM 18 τ0,oD 19 (.eqP true Xen XeQ)]) (.cond XeM .stuck .skip)))
def XUO:VFn:=⟨20,XQq,[]⟩
def XTR:VC:=.seq .stuck (.seq .stuck (.reg [oM 26 τ0,oM 27 τ4,oD 28 (.nilCheck Xge),oD 29 (.fieldA 1 Xgi),oN (.store 1 Xgf Xgn)]))
def XSP:VFn:=⟨30,XTR,[]⟩
def XQX:VC:=.seq (.reg [oD 4 (.mv (.const (.int .i64 0))),oM 5 (.const .nilIface)]) (.seq (.reg [oM 6 τ0,oD 7 (.callF 158 [τ6])]) (.seq (.reg [oM 8 τ0,oM 9 τ0,oD 10 (.nilCheck τ9),oD 11 (.fieldA 1 XcT),oD 12 (.load1 .oth XcS),oM 13 τ1,oD 14 (.app 5 1 1 Xdr XdU),oD 15 (.nilCheck τ8),oD 16 (.fieldA 1 Xem),oN (.store 1 XeC Xet)]) (.seq (.reg [oM 17 τ1,oD 18 (.lenS Xen),oM 4 XeQ,oM 5 (.const .nilIface)]) .ret)))
def XRG:VFn:=⟨19,XQX,[.tmp 4,.tmp 5]⟩
def XUv:VC:=.seq (.reg [oD 2 (.mv (.const (.int .i64 0)))]) (.seq (.reg [oM 3 τ0,oD 4 (.nilCheck τ3),oD 5 (.fieldA 1 τ4),oD 6 (.load1 .oth τ5),oD 7 (.lenL τ6),oM 2 τ7]) .ret)
def XU7:VFn:=⟨8,XUv,[.tmp 2]⟩
def XRi:VC:=.regD [oM 3 τ0,oD 4 (.nilCheck τ3),oD 5 (.fieldA 1 τ4),oD 6 (.load1 .oth τ5),oD 7 (.sdata τ6),oM 8 τ0,oD 9 (.nilCheck τ8),oD 10 (.fieldA 1 τ9),oD 11 (.load1 .oth XcT),oD 12 (.lenL XcS)] [] [oD 13 (.ustr 5 τ7 Xdr),oM 2 XdU]
def XUY:VC:=.seq (.reg [oD 2 (.mv (.const (.string ⟨⟨[]⟩⟩)))]) (.seq XRi .ret)
def XSz:VFn:=⟨14,XUY,[.tmp 2]⟩
def k69_3:VC:=.seq (.reg [oD 0 (.alloc [.nilFunc,.nilFunc,.nilFunc])]) (.seq (.reg [oD 1 (.build [.nilFunc,.nilFunc,.nilFunc] [(0,1,(.func 117)),(1,1,(.func 120)),(2,1,(.func 121))]),oN (.store 3 τ0 τ1)]) .ret)
def fn69:VFn:=⟨2,k69_3,[.cell 0 [.oth,.oth,.oth] true]⟩
def XR7:VC:=.regD [oM 4 τ0,oD 5 (.nilCheck τ4),oD 6 (.fieldA 0 τ5),oD 7 (.loadN [(.int .i64),.bool,(.int .u64),(.int .u64),.bool,(.int .u64),(.int .u64),(.int .i64),(.int .i64)] τ6),oM 8 τ0,oD 9 (.nilCheck τ8),oD 10 (.fieldA 12 τ9),oD 11 (.load1 (.int .u32) XcT),oD 12 (.callF 119 [XcS,(.const (.int .u32 0))]),oD 13 (.callF 118 [τ7,(.const (.int .i64 2)),Xdr,(.const (.string ⟨⟨[]⟩⟩))]),oE 14 0 XdU,oE 15 1 XdU] [(3,8)] [oM 2 Xet,oM 3 Xem]
def XIs:VC:=.seq (.reg [oD 2 (.mv (.const (.string ⟨⟨[]⟩⟩))),oD 3 (.mv (.const (.int .i64 0)))]) (.seq XR7 .ret)
def XVN:VFn:=⟨16,XIs,[.tmp 2,.tmp 3]⟩
def XIB:VC:=.seq (.reg [oD 4 (.mv (.const (.string ⟨⟨[]⟩⟩)))]) (.seq (.reg [oD 5 (.callF 97 [(.const (.int .u64 16844810)),(.const (.int .i64 4))]),oM 6 τ0,oD 7 (.conv .u64 τ6),oD 8 (.bin .shl τ7 (.const (.int .u64 32))),oM 9 τ1,oD 10 (.conv .u64 τ9),oD 11 (.bin .or τ8 XcT),oD 12 (.callF 97 [XcS,(.const (.int .i64 8))]),oD 13 (.bin .add τ5 Xdr),oM 4 XdU]) .ret)
def XWu:VFn:=⟨14,XIB,[.tmp 4]⟩
def XxK:VC:=.seq (.reg [oD 18 (.bin .lss Xen XeC)]) (.seq (.cond XeQ .skip (.exit 0)) (.seq (.block 1 (.seq (.reg [oM 19 Xen,oM 6 XeM]) (.reg [oM 20 τ5,oM 21 τ6,oM 22 τ0,oM 23 τ1,oD 24 (.bin .sub Xfs (.const (.int .i64 1))),oM 25 τ6,oD 26 (.bin .sub XfN Xgd),oD 27 (.bin .mul (.const (.int .i64 8)) Xge),oD 28 (.bin .shr Xfv Xgn),oD 29 (.conv .u8 Xgi),oD 30 (.idxAL 1 Xe4 Xfw),oN (.store 1 Xgw Xgf)]))) (.reg [oD 31 (.bin .add Xen (.const (.int .i64 1))),oM 17 XgO])))
def XI6:VC:=.seq (.reg [oM 32 τ5,oD 33 (.b2s Xg5),oM 4 Xha]) .ret
def XH1:VC:=.seq (.reg [oD 4 (.mv (.const (.string ⟨⟨[]⟩⟩)))]) (.seq (.seq (.reg [oM 7 τ1,oD 8 (.bin .lss τ7 (.const (.int .i64 1))),oM 9 τ8,oG 10 (.mv τ1) 9 false,oG 11 (.bin .gtr XcT (.const (.int .i64 8))) 9 false,oD 12 (.pick τ9 (.const (.bool true)) XcS)]) (.cond Xdr (.seq (.reg [oD 4 (.mv (.const (.string ⟨⟨[]⟩⟩)))]) .ret) .skip)) (.seq (.reg [oM 13 τ1,oD 14 (.mkSl 1 1 [(.int .u8 0)] XdU XdU),oM 5 Xet]) (.seq (.seq (.reg [oM 15 τ5,oD 16 (.lenL Xem),oD 17 (.mv (.const (.int .i64 0)))]) (.block 0 (.loop XxK))) XI6)))
def fn97:VFn:=⟨34,XH1,[.tmp 4]⟩
def XyJ:VC:=.seq (.reg [oD 4 (.box τ0),oD 8 (.mv (.const (.string ⟨⟨[]⟩⟩))),oD 9 (.mv (.const (.int .i64 0)))]) (.seq (.seq (.reg [oD 13 (.fieldA 0 τ4),oD 14 (.load1 (.int .i64) XdU),oD 15 (.bin .neq Xet (.const (.int .i64 6)))]) (.cond Xem (.seq (.reg [oD 8 (.mv (.const (.string ⟨⟨[]⟩⟩))),oD 9 (.mv (.const (.int .i64 1)))]) .ret) .skip)) (.seq (.reg [oD 16 (.fieldA 7 τ4),oD 17 (.load1 (.int .i64) XeC),oD 18 (.fieldA 8 τ4),oD 19 (.load1 (.int .i64) XeQ),oM 20 τ1,oM 21 τ2,oD 22 (.build [(.int .i64 0),(.int .i64 0),(.int .u32 0),(.int .u32 0),(.int .i64 0),(.int .i64 0),(.int .i64 0),(.string ⟨⟨[]⟩⟩)] [(0,1,Xen),(1,1,XeM),(4,1,Xe4),(5,1,(.const (.int .i64 65535))),(7,1,Xfw)]),oD 10 (.alloc [(.int .i64 0),(.int .i64 0),(.int .u32 0),(.int .u32 0),(.int .i64 0),(.int .i64 0),(.int .i64 0),(.string ⟨⟨[]⟩⟩)]),oN (.store 8 XcT Xfv)]) (.seq (.reg [oD 24 (.loadN [(.int .i64),(.int .i64),(.int .u32),(.int .u32),(.int .i64),(.int .i64),(.int .i64),.str] XcT),oD 25 (.fieldA 1 τ4),oD 26 (.loadN [.bool,(.int .u64),(.int .u64)] Xgd),oD 27 (.fieldA 4 τ4),oD 28 (.loadN [.bool,(.int .u64),(.int .u64)] Xgn),oM 29 τ3,oD 30 (.callF 160 [XfN,Xge,Xgi,Xgf]),oM 23 Xgw,oE 31 0 Xfs,oE 32 1 Xfs,oM 11 XgO,oM 12 Xg5]) (.seq (.seq (.reg [oM 33 Xdr,oD 34 (.bin .neq Xha (.const (.int .i64 0)))]) (.cond Xhb (.seq (.reg [oM 35 Xdr,oD 8 (.mv (.const (.string ⟨⟨[]⟩⟩))),oM 9 Xhq]) .ret) .skip)) (.seq (.reg [oD 36 (.loadN [(.int .i64),.bool,(.int .u64),(.int .u64),.bool,(.int .u64),(.int .u64),(.int .i64),(.int .i64)] τ4),oM 37 XcS,oD 38 (.callF 161 [XhU,XhT]),oE 39 0 Xii,oE 40 1 Xii,oM 8 XiX,oM 9 Xi4]) .ret)))))
def XUf:VFn:=⟨41,XyJ,[.tmp 8,.tmp 9]⟩
def XyT:VC:=.seq (.reg [oD 4 (.box τ0),oD 5 (.box τ1),oD 6 (.box τ2),oD 8 (.mv (.const (.string ⟨⟨[]⟩⟩))),oD 9 (.mv (.const (.int .i64 0)))]) (.seq (.reg [oD 13 (.fieldA 7 τ4),oD 14 (.load1 .str XdU),oD 15 (.lenS Xet),oD 16 (.bin .add (.const (.int .i64 20)) Xem),oM 10 XeC]) (.seq (.reg [oD 17 (.loadN [.bool,(.int .u64),(.int .u64)] τ5),oD 18 (.loadN [.bool,(.int .u64),(.int .u64)] τ6),oM 19 XcT,oM 20 τ3,oD 21 (.lenS Xe4),oD 22 (.bin .add XeM Xfw),oD 23 (.callF 180 [Xen,XeQ,(.const (.int .i64 6)),Xfv]),oM 11 Xfs]) (.seq (.block 0 (.seq (.reg [oD 25 (.loadN [(.int .i64),(.int .i64),(.int .u32),(.int .u32),(.int .i64),(.int .i64),(.int .i64),.str] τ4),oD 26 (.callF 181 [Xgd]),oD 27 (.not Xge),oM 28 Xgn,oG 29 (.mv XcS) 28 false,oG 30 (.bin .eql Xgf (.const (.string ⟨⟨[]⟩⟩))) 28 false,oD 31 (.pick Xgi (.const (.bool true)) Xgw),oM 24 XgO]) (.cond XfN (.seq (.reg [oD 8 (.mv (.const (.string ⟨⟨[]⟩⟩))),oD 9 (.mv (.const (.int .i64 1)))]) .ret) (.seq (.reg [oM 33 τ3,oD 34 (.lenS Xha),oM 35 XcT,oD 36 (.bin .sub (.const (.int .i64 65535)) Xhq),oD 37 (.bin .gtr Xhb XhU),oM 32 XhT]) (.cond Xg5 (.seq (.reg [oD 8 (.mv (.const (.string ⟨⟨[]⟩⟩))),oD 9 (.mv (.const (.int .i64 5)))]) .ret) .skip))))) (.seq (.reg [oD 38 (.loadN [(.int .i64),(.int .i64),(.int .u32),(.int .u32),(.int .i64),(.int .i64),(.int .i64),.str] τ4),oD 39 (.callF 182 [Xii]),oM 40 τ3,oD 41 (.bin .add XiX Xi4),oM 12 Xjg]) (.seq (.reg [oM 42 Xdr,oM 43 XcS,oM 44 Xdr,oD 45 (.bin .add Xi3 XjY),oD 46 (.callF 183 [XjM]),oD 47 (.conv .u64 Xke),oD 48 (.callF 98 [XiU,(.const (.int .i64 16)),(.const (.int .i64 2)),Xkb]),oM 8 Xkd,oD 9 (.mv (.const (.int .i64 0)))]) .ret)))))
def XRT:VFn:=⟨49,XyT,[.tmp 8,.tmp 9]⟩
def XVW:VC:=.regD [oD 25 (.loadN [.bool,(.int .u64),(.int .u64)] τ4),oD 26 (.callF 195 [Xgd]),oD 27 (.loadN [.bool,(.int .u64),(.int .u64)] τ5)] [(1,2)] [oD 28 (.callF 195 [Xgn]),oD 29 (.bin .add Xge Xgi),oM 9 Xgf]
def Xzn:VC:=.seq (.reg [oD 4 (.box τ0),oD 5 (.box τ1),oD 8 (.mv (.const (.string ⟨⟨[]⟩⟩)))]) (.seq (.seq (.reg [oD 10 (.loadN [.bool,(.int .u64),(.int .u64)] τ4),oD 11 (.callF 110 [XcT]),oD 12 (.not XcS),oM 13 Xdr,oG 14 (.loadN [.bool,(.int .u64),(.int .u64)] τ5) 13 false,oG 15 (.callF 110 [Xet]) 13 false,oG 16 (.not Xem) 13 false,oD 17 (.pick XdU (.const (.bool true)) XeC),oM 18 Xen,oG 19 (.fieldA 0 τ4) 18 false,oG 20 (.load1 .bool XeM) 18 false,oG 21 (.fieldA 0 τ5) 18 false,oG 22 (.load1 .bool Xfw) 18 false,oG 23 (.eqB true Xe4 Xfv) 18 false,oD 24 (.pick XeQ (.const (.bool true)) Xfs)]) (.cond XfN (.seq (.reg [oD 8 (.mv (.const (.string ⟨⟨[]⟩⟩)))]) .ret) .skip)) (.seq XVW (.seq (.seq (.reg [oD 30 (.fieldA 0 τ4),oD 31 (.load1 .bool Xgw)]) (.cond XgO (.seq (.reg [oM 32 τ9,oM 33 τ3,oM 34 τ2,oD 35 (.buildSl 6 1 [(.int .i64 0),(.int .i64 0),(.int .i64 0),(.int .i64 0),(.int .i64 0),(.int .i64 0)] [(0,1,Xha),(1,1,(.const (.int .i64 4))),(2,1,(.const (.int .i64 0))),(3,1,(.const (.int .i64 3))),(4,1,Xhb),(5,1,(.const (.int .i64 1)))]),oD 36 (.callF 196 [Xhq]),oD 37 (.bin .add Xg5 XhU),oM 8 XhT]) .ret) .skip)) (.seq (.reg [oM 38 τ9,oM 39 τ2,oM 40 τ3,oD 41 (.buildSl 6 1 [(.int .i64 0),(.int .i64 0),(.int .i64 0),(.int .i64 0),(.int .i64 0),(.int .i64 0)] [(0,1,(.const (.int .i64 0))),(1,1,(.const (.int .i64 1))),(2,1,XiX),(3,1,(.const (.int .i64 1))),(4,1,Xi4),(5,1,(.const (.int .i64 2)))]),oD 42 (.callF 196 [Xjg]),oD 43 (.bin .add Xii XiU),oM 8 Xi3]) .ret))))
def XWa:VFn:=⟨44,Xzn,[.tmp 8]⟩
def XSm:VC:=.regD [oD 10 (.fieldA 1 τ1),oD 11 (.load1 (.int .u64) XcT),oD 12 (.callF 97 [XcS,(.const (.int .i64 8))]),oD 13 (.fieldA 2 τ1),oD 14 (.load1 (.int .u64) XdU)] [(2,4)] [oD 15 (.callF 97 [Xet,(.const (.int .i64 8))]),oD 16 (.bin .add Xdr Xem),oM 2 XeC]
def Xzy:VC:=.seq (.reg [oD 1 (.box τ0),oD 2 (.mv (.const (.string ⟨⟨[]⟩⟩)))]) (.seq (.block 0 (.seq (.reg [oD 4 (.loadN [.bool,(.int .u64),(.int .u64)] τ1),oD 5 (.callF 110 [τ4]),oD 6 (.not τ5),oM 3 τ6]) (.cond τ3 (.seq (.reg [oD 2 (.mv (.const (.string ⟨⟨[]⟩⟩)))]) .ret) (.seq (.reg [oD 8 (.fieldA 0 τ1),oD 9 (.load1 .bool τ8),oM 7 τ9]) (.cond τ7 (.seq XSm .ret) .skip))))) (.seq (.reg [oD 17 (.fieldA 2 τ1),oD 18 (.load1 (.int .u64) Xen),oD 19 (.callF 97 [XeQ,(.const (.int .i64 4))]),oM 2 XeM]) .ret))
def XTB:VFn:=⟨20,Xzy,[.tmp 2]⟩
def XTz:VC:=.regD [oM 12 τ0,oM 13 τ4,oD 14 (.idxAL 1 Xdr XdU),oD 15 (.load1 (.int .i64) Xet),oD 16 (.conv .u64 Xem),oM 17 τ0,oM 18 τ4,oD 19 (.bin .add XeQ (.const (.int .i64 1))),oD 20 (.idxAL 1 Xen XeM),oD 21 (.load1 (.int .i64) Xe4)] [] [oD 22 (.callF 97 [XeC,Xfw]),oD 23 (.callF 114 [τ3,Xfv])]
def Xui:VC:=.seq (.seq (.reg [oM 5 τ4,oD 6 (.bin .add τ5 (.const (.int .i64 1))),oM 7 τ0,oD 8 (.lenL τ7),oD 9 (.bin .lss τ6 τ8)]) (.cond τ9 .skip (.exit 0))) (.seq (.block 1 XTz) (.reg [oM 10 τ4,oD 11 (.bin .add XcT (.const (.int .i64 2))),oM 4 XcS]))
def Xyg:VC:=.seq (.reg [oD 24 (.callF 116 [τ3]),oM 2 XfN]) .ret
def XAc:VC:=.seq (.reg [oD 2 (.mv (.const (.string ⟨⟨[]⟩⟩)))]) (.seq (.reg [oD 3 (.allocB 171 5)]) (.seq (.seq (.reg [oD 4 (.mv (.const (.int .i64 0)))]) (.block 0 (.loop Xui))) Xyg))
def XWl:VFn:=⟨25,XAc,[.tmp 2]⟩
def XIw:VC:=.seq (.reg [oD 1 (.box τ0),oD 2 (.mv (.const (.bool false)))]) (.seq (.reg [oD 3 (.fieldA 0 τ1),oD 4 (.load1 (.int .i64) τ3),oD 5 (.fieldA 1 τ1),oD 6 (.load1 (.int .i64) τ5),oD 7 (.fieldA 5 τ1),oD 8 (.load1 (.int .i64) τ7),oD 9 (.fieldA 6 τ1),oD 10 (.load1 (.int .i64) τ9),oD 11 (.buildSl 4 1 [(.int .i64 0),(.int .i64 0),(.int .i64 0),(.int .i64 0)] [(0,1,τ4),(1,1,τ6),(2,1,τ8),(3,1,XcT)]),oD 12 (.callF 197 [(.const (.int .i64 65535)),XcS]),oM 13 Xdr,oG 14 (.fieldA 4 τ1) 13 true,oG 15 (.load1 (.int .i64) Xet) 13 true,oG 16 (.buildSl 1 1 [(.int .i64 0)] [(0,1,Xem)]) 13 true,oG 17 (.callF 197 [(.const (.int .i64 255)),XeC]) 13 true,oD 18 (.pick XdU Xen (.const (.bool false))),oM 19 XeQ,oG 20 (.fieldA 7 τ1) 19 true,oG 21 (.load1 .str Xe4) 19 true,oG 22 (.lenS Xfw) 19 true,oG 23 (.bin .rem Xfv (.const (.int .i64 4))) 19 true,oG 24 (.bin .eql Xfs (.const (.int .i64 0))) 19 true,oD 25 (.pick XeM XfN (.const (.bool false))),oM 26 Xgd,oG 27 (.fieldA 7 τ1) 26 true,oG 28 (.load1 .str Xgn) 26 true,oG 29 (.lenS Xgi) 26 true,oG 30 (.bin .leq Xgf (.const (.int .i64 40))) 26 true,oD 31 (.pick Xge Xgw (.const (.bool false))),oM 2 XgO]) .ret)
def XVt:VFn:=⟨32,XIw,[.tmp 2]⟩
def XuY:VC:=.seq (.reg [oD 10 (.bin .lss τ9 τ8)]) (.seq (.cond XcT .skip (.exit 0)) (.seq (.block 1 (.seq (.reg [oD 11 (.idxAL 1 τ7 τ9),oD 12 (.load1 (.int .i64) XcS),oM 6 Xdr]) (.seq (.reg [oM 13 τ6,oD 14 (.bin .lss XdU (.const (.int .i64 0))),oM 15 Xet,oG 16 (.mv τ6) 15 false,oG 17 (.mv τ0) 15 false,oG 18 (.bin .gtr XeC Xen) 15 false,oD 19 (.pick Xem (.const (.bool true)) XeQ)]) (.cond XeM (.seq (.reg [oD 4 (.mv (.const (.bool false)))]) .ret) .skip)))) (.reg [oD 20 (.bin .add τ9 (.const (.int .i64 1))),oM 9 Xe4])))
def XBr:VC:=.seq (.reg [oD 4 (.mv (.const (.bool true)))]) .ret
def Xzb:VC:=.seq (.reg [oD 4 (.mv (.const (.bool false)))]) (.seq (.seq (.reg [oM 7 τ1,oD 8 (.lenL τ7),oD 9 (.mv (.const (.int .i64 0)))]) (.block 0 (.loop XuY))) XBr)
def XQU:VFn:=⟨21,Xzb,[.tmp 4]⟩
def XV7:VC:=.regD [oM 31 τ3,oD 32 (.bin .shl XgO (.const (.int .u64 12))),oD 33 (.fieldA 4 τ1),oD 34 (.load1 (.int .i64) Xha),oD 35 (.conv .u64 Xhb),oD 36 (.bin .or Xg5 Xhq),oD 37 (.callF 97 [XhU,(.const (.int .i64 2))]),oD 38 (.fieldA 5 τ1),oD 39 (.load1 (.int .i64) Xii),oD 40 (.conv .u64 XiX)] [(6,8)] [oD 41 (.callF 97 [Xi4,(.const (.int .i64 2))]),oD 42 (.bin .add XhT Xjg),oM 6 XiU]
def XQx:VC:=.regD [oM 43 τ4,oM 44 τ5,oD 45 (.bin .add Xi3 XjY),oM 46 τ6,oD 47 (.bin .add XjM Xke),oD 48 (.fieldA 6 τ1),oD 49 (.load1 (.int .i64) Xkd),oD 50 (.conv .u64 Xkc),oD 51 (.callF 97 [XkJ,(.const (.int .i64 4))]),oD 52 (.bin .add Xkb Xla),oD 53 (.fieldA 7 τ1),oD 54 (.load1 .str Xmo)] [(8,11)] [oD 55 (.bin .add Xk8 Xm6),oM 2 Xmv]
def Xz6:VC:=.seq (.reg [oD 1 (.box τ0),oD 2 (.mv (.const (.string ⟨⟨[]⟩⟩)))]) (.seq (.reg [oD 7 (.fieldA 7 τ1),oD 8 (.load1 .str τ7),oD 9 (.lenS τ8),oD 10 (.bin .add (.const (.int .i64 20)) τ9),oD 11 (.conv .u64 XcT),oD 12 (.bin .quo XcS (.const (.int .u64 4))),oM 3 Xdr]) (.seq (.reg [oD 13 (.fieldA 0 τ1),oD 14 (.load1 (.int .i64) XdU),oD 15 (.conv .u64 Xet),oD 16 (.bin .shl Xem (.const (.int .u64 16))),oD 17 (.fieldA 1 τ1),oD 18 (.load1 (.int .i64) Xen),oD 19 (.conv .u64 XeQ),oD 20 (.bin .or XeC XeM),oD 21 (.callF 97 [Xe4,(.const (.int .i64 4))]),oM 4 Xfw]) (.seq (.reg [oD 22 (.fieldA 2 τ1),oD 23 (.load1 (.int .u32) Xfv),oD 24 (.conv .u64 Xfs),oD 25 (.bin .shl XfN (.const (.int .u64 32))),oD 26 (.fieldA 3 τ1),oD 27 (.load1 (.int .u32) Xge),oD 28 (.conv .u64 Xgn),oD 29 (.bin .or Xgd Xgi),oD 30 (.callF 97 [Xgf,(.const (.int .i64 8))]),oM 5 Xgw]) (.seq XV7 (.seq XQx .ret)))))
def XTA:VFn:=⟨56,Xz6,[.tmp 2]⟩
def XIk:VC:=.seq (.reg [oD 2 (.mv (.const (.int .i64 0)))]) (.seq (.reg [oM 3 τ0,oD 4 (.callF 130 [τ3]),oD 5 (.bin .sub (.const (.int .i64 65535)) τ4),oM 2 τ5]) .ret)
def XTV:VFn:=⟨6,XIk,[.tmp 2]⟩
def XIg:VC:=.reg [oM 4 τ7]
def XHT:VC:=.block 1 (.reg [oD 8 (.load1 (.int .i64) τ3),oM 9 τ4,oD 10 (.bin .add τ8 τ9),oD 11 (.callF 165 [XcT]),oN (.store 1 τ3 XcS)])
def XUE:VC:=.rangeF τ6 [7] XIg XHT
def XxX:VC:=.seq (.reg [oD 12 (.load1 (.int .i64) τ3),oM 2 Xdr]) .ret
def Xy8:VC:=.seq (.reg [oD 2 (.mv (.const (.int .i64 0)))]) (.seq (.reg [oD 3 (.alloc [(.int .i64 0)]),oN (.store 1 τ3 (.const (.int .i64 0)))]) (.seq (.seq (.reg [oM 5 τ0,oD 6 (.callF 164 [τ5])]) (.block 0 XUE)) XxX))
def XUB:VFn:=⟨13,Xy8,[.tmp 2]⟩
def XWv:VC:=.seq (.reg [oD 1 (.box τ0),oM 2 (.const .nilFunc)]) (.seq (.reg [oD 3 (.mkFunc 189 [] [τ1]),oM 2 τ3]) .ret)
def XV8:VFn:=⟨4,XWv,[.tmp 2]⟩
def XtV:VC:=.seq (.seq (.reg [oM 5 τ3,oD 6 (.load1 .str τ1),oD 7 (.lenS τ6),oD 8 (.bin .lss τ5 τ7)]) (.cond τ8 .skip (.exit 0))) (.seq (.block 1 (.seq (.reg [oD 11 (.load1 .str τ1),oM 12 τ3,oD 13 (.idxS XcS Xdr),oD 14 (.conv .i64 XdU),oD 15 (.bin .shl Xet (.const (.int .u64 8))),oM 4 Xem]) (.seq (.seq (.reg [oM 16 τ3,oD 17 (.bin .add XeC (.const (.int .i64 1))),oD 18 (.load1 .str τ1),oD 19 (.lenS XeQ),oD 20 (.bin .lss Xen XeM)]) (.cond Xe4 (.reg [oM 21 τ4,oD 22 (.load1 .str τ1),oM 23 τ3,oD 24 (.bin .add Xfs (.const (.int .i64 1))),oD 25 (.idxS Xfv XfN),oD 26 (.conv .i64 Xgd),oD 27 (.bin .or Xfw Xge),oM 4 Xgn]) .skip)) (.seq (.reg [oM 28 τ0,oM 29 τ4,oD 30 (.callV Xgi [Xgf]),oD 31 (.not Xgw)]) (.cond XgO .ret .skip))))) (.reg [oM 9 τ3,oD 10 (.bin .add τ9 (.const (.int .i64 2))),oM 3 XcT]))
def XOb:VC:=.seq (.reg [oD 3 (.mv (.const (.int .i64 0)))]) (.block 0 (.loop XtV))
def XQS:VFn:=⟨32,XOb,[]⟩
def XzH:VC:=.seq (.seq (.reg [oM 3 τ0,oD 4 (.bin .gtr τ3 (.const (.int .i64 65535)))]) (.cond τ4 .skip (.exit 0))) (.block 1 (.reg [oM 5 τ0,oD 6 (.bin .and τ5 (.const (.int .i64 65535))),oM 7 τ0,oD 8 (.bin .shr τ7 (.const (.int .u64 16))),oD 9 (.bin .add τ6 τ8),oM 0 τ9]))
def Xyi:VC:=.seq (.reg [oM 10 τ0,oM 2 XcT]) .ret
def Xz0:VC:=.seq (.reg [oD 2 (.mv (.const (.int .i64 0)))]) (.seq (.block 0 (.loop XzH)) Xyi)
def XSS:VFn:=⟨11,Xz0,[.tmp 2]⟩
def k98_7:VC:=.regD [oM 28 τ0,oM 29 τ1,oD 30 (.sliceS Xgi none (some Xgf)),oM 31 τ9,oD 32 (.bin .add Xgw XgO),oM 33 τ0,oM 34 τ1,oM 35 τ2,oD 36 (.bin .add Xhb Xhq),oD 37 (.sliceS Xha (some XhU) none)] [] [oD 38 (.bin .add Xg5 XhT),oM 8 Xii]
def XIy:VC:=.seq (.reg [oD 8 (.mv (.const (.string ⟨⟨[]⟩⟩)))]) (.seq (.reg [oM 10 τ3,oM 11 τ2,oD 12 (.callF 97 [XcT,XcS]),oM 9 Xdr]) (.seq (.seq (.reg [oM 13 τ9,oD 14 (.bin .eql XdU (.const (.string ⟨⟨[]⟩⟩))),oM 15 Xet,oG 16 (.mv τ1) 15 false,oG 17 (.bin .lss XeC (.const (.int .i64 0))) 15 false,oD 18 (.pick Xem (.const (.bool true)) Xen),oM 19 XeQ,oG 20 (.mv τ0) 19 false,oG 21 (.lenS Xe4) 19 false,oG 22 (.mv τ2) 19 false,oG 23 (.bin .sub Xfw Xfv) 19 false,oG 24 (.mv τ1) 19 false,oG 25 (.bin .lss Xfs XfN) 19 false,oD 26 (.pick XeM (.const (.bool true)) Xgd)]) (.cond Xge (.seq (.reg [oM 27 τ0,oM 8 Xgn]) .ret) .skip)) (.seq k98_7 .ret)))
def fn98:VFn:=⟨39,XIy,[.tmp 8]⟩
def XBo:VC:=.seq (.reg [oD 2 (.box τ0),oD 4 (.mv (.const (.string ⟨⟨[]⟩⟩))),oD 5 (.mv (.const (.int .i64 0)))]) (.seq (.reg [oD 9 (.fieldA 0 τ2),oD 10 (.load1 (.int .i64) τ9),oD 11 (.bin .eql XcT (.const (.int .i64 6))),oM 12 XcS,oG 13 (.fieldA 0 τ2) 12 false,oG 14 (.load1 (.int .i64) XdU) 12 false,oG 15 (.bin .eql Xet (.const (.int .i64 17))) 12 false,oD 16 (.pick Xdr (.const (.bool true)) Xem),oM 6 XeC]) (.seq (.seq (.reg [oM 17 τ6,oD 18 (.not Xen),oM 19 XeQ,oG 20 (.fieldA 1 τ2) 19 false,oG 21 (.fieldA 0 Xe4) 19 false,oG 22 (.load1 .bool Xfw) 19 false,oG 23 (.fieldA 4 τ2) 19 false,oG 24 (.fieldA 0 Xfs) 19 false,oG 25 (.load1 .bool XfN) 19 false,oG 26 (.eqB true Xfv Xgd) 19 false,oD 27 (.pick XeM (.const (.bool true)) Xge),oM 28 Xgn,oG 29 (.fieldA 1 τ2) 28 false,oG 30 (.loadN [.bool,(.int .u64),(.int .u64)] Xgf) 28 false,oG 31 (.callF 110 [Xgw]) 28 false,oG 32 (.not XgO) 28 false,oD 33 (.pick Xgi (.const (.bool true)) Xg5),oM 34 Xha,oG 35 (.fieldA 4 τ2) 34 false,oG 36 (.loadN [.bool,(.int .u64),(.int .u64)] Xhq) 34 false,oG 37 (.callF 110 [XhU]) 34 false,oG 38 (.not XhT) 34 false,oD 39 (.pick Xhb (.const (.bool true)) Xii)]) (.cond XiX (.seq (.reg [oD 4 (.mv (.const (.string ⟨⟨[]⟩⟩))),oD 5 (.mv (.const (.int .i64 1)))]) .ret) .skip)) (.seq (.reg [oD 7 (.mv (.const (.string ⟨⟨[]⟩⟩)))]) (.seq (.reg [oD 8 (.mv (.const (.int .i64 0)))]) (.seq (.seq (.reg [oD 40 (.fieldA 1 τ2),oD 41 (.fieldA 0 Xi4),oD 42 (.load1 .bool Xjg)]) (.cond XiU (.reg [oD 44 (.fieldA 0 τ2),oD 45 (.load1 (.int .i64) XjY),oD 46 (.fieldA 1 τ2),oD 47 (.loadN [.bool,(.int .u64),(.int .u64)] Xke),oD 48 (.fieldA 4 τ2),oD 49 (.loadN [.bool,(.int .u64),(.int .u64)] Xkd),oD 50 (.build [(.int .i64 0),(.int .i64 0),(.int .i64 0),(.int .i64 0),(.bool false),(.int .u64 0),(.int .u64 0),(.bool false),(.int .u64 0),(.int .u64 0)] [(2,1,XjM),(3,1,(.const (.int .i64 64))),(4,3,Xkb),(7,3,Xkc)]),oM 51 τ1,oD 52 (.callF 184 [XkJ,Xla]),oM 43 Xk8,oE 53 0 Xi3,oE 54 1 Xi3,oM 7 Xmo,oM 8 Xm6]) (.reg [oD 56 (.fieldA 0 τ2),oD 57 (.load1 (.int .i64) Xm5),oD 58 (.fieldA 1 τ2),oD 59 (.loadN [.bool,(.int .u64),(.int .u64)] XmY),oD 60 (.fieldA 4 τ2),oD 61 (.loadN [.bool,(.int .u64),(.int .u64)] Xn5),oD 62 (.build [(.int .i64 0),(.int .i64 0),(.bool false),(.int .i64 0),(.int .i64 0),(.bool false),(.int .u64 0),(.int .u64 0),(.bool false),(.int .u64 0),(.int .u64 0),(.string ⟨⟨[]⟩⟩)] [(2,1,(.const (.bool true))),(3,1,(.const (.int .i64 64))),(4,1,XmR),(5,3,Xnn),(8,3,Xon)]),oM 63 τ1,oD 64 (.callF 185 [XoU,Xqr]),oM 55 Xqq,oE 65 0 Xmv,oE 66 1 Xmv,oM 7 Xq4,oM 8 XqY]))) (.seq (.seq (.reg [oM 67 τ8,oD 68 (.bin .eql Xqy (.const (.int .i64 0))),oM 69 Xqw,oG 70 (.mv τ7) 69 true,oG 71 (.lenS Xsw) 69 true,oG 72 (.bin .gtr XsA (.const (.int .i64 9000))) 69 true,oD 73 (.pick Xsf Xsx (.const (.bool false)))]) (.cond XtQ (.seq (.reg [oD 4 (.mv (.const (.string ⟨⟨[]⟩⟩))),oD 5 (.mv (.const (.int .i64 5)))]) .ret) .skip)) (.seq (.reg [oM 74 τ7,oM 75 τ8,oM 4 Xvo,oM 5 Xwh]) .ret)))))))
def XR4:VFn:=⟨76,XBo,[.tmp 4,.tmp 5]⟩
def XLP:VC:=.regD [oM 40 τ6,oM 41 τ7,oD 42 (.bin .add Xi4 Xjg),oD 43 (.fieldA 4 τ2),oD 44 (.loadN [.bool,(.int .u64),(.int .u64)] Xi3),oD 45 (.callF 195 [XjY]),oD 46 (.bin .add XiU XjM),oD 47 (.fieldA 7 τ2),oD 48 (.loadN [.bool,(.int .u64),(.int .u64)] Xkb),oD 49 (.callF 195 [Xkd]),oD 50 (.bin .add Xke Xkc),oM 51 τ1] [(5,8)] [oD 52 (.bin .add XkJ Xla),oM 4 Xk8,oD 5 (.mv (.const (.int .i64 0)))]
def Xz9:VC:=.seq (.reg [oD 2 (.box τ0),oD 4 (.mv (.const (.string ⟨⟨[]⟩⟩))),oD 5 (.mv (.const (.int .i64 0)))]) (.seq (.block 0 (.seq (.reg [oD 9 (.loadN [(.int .i64),(.int .i64),(.int .i64),(.int .i64),.bool,(.int .u64),(.int .u64),.bool,(.int .u64),(.int .u64)] τ2),oD 10 (.callF 198 [τ9]),oD 11 (.not XcT),oM 8 XcS]) (.cond τ8 (.seq (.reg [oD 4 (.mv (.const (.string ⟨⟨[]⟩⟩))),oD 5 (.mv (.const (.int .i64 1)))]) .ret) (.seq (.reg [oM 13 τ1,oD 14 (.lenS XdU),oD 15 (.bin .gtr Xet (.const (.int .i64 65535))),oM 12 Xem]) (.cond Xdr (.seq (.reg [oD 4 (.mv (.const (.string ⟨⟨[]⟩⟩))),oD 5 (.mv (.const (.int .i64 5)))]) .ret) .skip))))) (.seq (.reg [oD 16 (.fieldA 0 τ2),oD 17 (.load1 (.int .i64) XeC),oD 18 (.conv .u64 Xen),oD 19 (.bin .shl XeQ (.const (.int .u64 20))),oD 20 (.bin .or (.const (.int .u64 1610612736)) XeM),oD 21 (.fieldA 1 τ2),oD 22 (.load1 (.int .i64) Xfw),oD 23 (.conv .u64 Xfv),oD 24 (.bin .or Xe4 Xfs),oD 25 (.callF 97 [XfN,(.const (.int .i64 4))]),oM 6 Xgd]) (.seq (.reg [oM 26 τ1,oD 27 (.lenS Xge),oD 28 (.conv .u64 Xgn),oD 29 (.bin .shl Xgi (.const (.int .u64 16))),oD 30 (.fieldA 2 τ2),oD 31 (.load1 (.int .i64) Xgw),oD 32 (.conv .u64 XgO),oD 33 (.bin .shl Xg5 (.const (.int .u64 8))),oD 34 (.bin .or Xgf Xha),oD 35 (.fieldA 3 τ2),oD 36 (.load1 (.int .i64) Xhq),oD 37 (.conv .u64 XhU),oD 38 (.bin .or Xhb XhT),oD 39 (.callF 97 [Xii,(.const (.int .i64 4))]),oM 7 XiX]) (.seq XLP .ret))))
def XRp:VFn:=⟨53,Xz9,[.tmp 4,.tmp 5]⟩
def XzS:VC:=.seq (.reg [oD 1 (.box τ0),oD 2 (.mv (.const (.bool false)))]) (.seq (.seq (.reg [oD 5 (.fieldA 0 τ1),oD 6 (.load1 (.int .i64) τ5),oD 7 (.build [(.int .i64 0),(.int .i64 0)] [(0,1,τ6),(1,1,(.const (.int .i64 255)))]),oD 8 (.fieldA 1 τ1),oD 9 (.load1 (.int .i64) τ8),oD 10 (.build [(.int .i64 0),(.int .i64 0)] [(0,1,τ9),(1,1,(.const (.int .i64 1048575)))]),oD 11 (.fieldA 2 τ1),oD 12 (.load1 (.int .i64) XcS),oD 13 (.build [(.int .i64 0),(.int .i64 0)] [(0,1,Xdr),(1,1,(.const (.int .i64 255)))]),oD 14 (.fieldA 3 τ1),oD 15 (.load1 (.int .i64) Xet),oD 16 (.build [(.int .i64 0),(.int .i64 0)] [(0,1,Xem),(1,1,(.const (.int .i64 255)))]),oD 17 (.buildSl 4 2 [(.int .i64 0),(.int .i64 0),(.int .i64 0),(.int .i64 0),(.int .i64 0),(.int .i64 0),(.int .i64 0),(.int .i64 0)] [(0,2,τ7),(2,2,XcT),(4,2,XdU),(6,2,XeC)]),oD 18 (.lenL Xen),oD 19 (.mv (.const (.int .i64 0)))]) (.block 0 (.loop (.seq (.reg [oD 20 (.bin .lss XeM XeQ)]) (.seq (.cond Xe4 .skip (.exit 0)) (.seq (.block 1 (.seq (.reg [oD 21 (.idxAL 2 Xen XeM),oD 22 (.loadN [(.int .i64),(.int .i64)] Xfw),oD 4 (.alloc [(.int .i64 0),(.int .i64 0)]),oN (.store 2 τ4 Xfv)]) (.seq (.reg [oD 23 (.idxAA 2 1 τ4 (.const (.int .i64 0))),oD 24 (.load1 (.int .i64) Xfs),oD 25 (.bin .lss XfN (.const (.int .i64 0))),oM 26 Xgd,oG 27 (.idxAA 2 1 τ4 (.const (.int .i64 0))) 26 false,oG 28 (.load1 (.int .i64) Xgn) 26 false,oG 29 (.idxAA 2 1 τ4 (.const (.int .i64 1))) 26 false,oG 30 (.load1 (.int .i64) Xgf) 26 false,oG 31 (.bin .gtr Xgi Xgw) 26 false,oD 32 (.pick Xge (.const (.bool true)) XgO)]) (.cond Xg5 (.seq (.reg [oD 2 (.mv (.const (.bool false)))]) .ret) .skip)))) (.reg [oD 33 (.bin .add XeM (.const (.int .i64 1))),oM 19 Xha]))))))) (.seq (.reg [oD 34 (.fieldA 4 τ1),oD 35 (.fieldA 0 Xhb),oD 36 (.load1 .bool Xhq),oM 37 XhU,oG 38 (.fieldA 7 τ1) 37 true,oG 39 (.fieldA 0 Xii) 37 true,oG 40 (.load1 .bool XiX) 37 true,oD 41 (.pick XhT Xi4 (.const (.bool false))),oM 2 Xjg]) .ret))
def XS0:VFn:=⟨42,XzS,[.tmp 2]⟩
def XOW:VC:=.regD [oM 43 τ8,oD 44 (.fieldA 5 τ2),oD 45 (.loadN [.bool,(.int .u64),(.int .u64)] XjY),oD 46 (.callF 195 [XjM]),oD 47 (.fieldA 8 τ2),oD 48 (.loadN [.bool,(.int .u64),(.int .u64)] Xkb),oD 49 (.callF 195 [Xkd]),oD 50 (.bin .add Xke Xkc),oD 51 (.fieldA 11 τ2),oD 52 (.load1 .str Xla),oD 53 (.bin .add XkJ Xk8)] [(3,5),(3,9),(6,9)] [oD 54 (.bin .add Xi3 Xmo),oM 8 Xm6]
def XAY:VC:=.seq (.reg [oD 2 (.box τ0),oD 4 (.mv (.const (.string ⟨⟨[]⟩⟩))),oD 5 (.mv (.const (.int .i64 0)))]) (.seq (.reg [oD 9 (.fieldA 11 τ2),oD 10 (.load1 .str τ9),oD 11 (.lenS XcT),oD 12 (.bin .add (.const (.int .i64 20)) XcS),oM 6 Xdr]) (.seq (.block 0 (.seq (.reg [oD 14 (.loadN [(.int .i64),(.int .i64),.bool,(.int .i64),(.int .i64),.bool,(.int .u64),(.int .u64),.bool,(.int .u64),(.int .u64),.str] τ2),oD 15 (.callF 199 [Xet]),oD 16 (.not Xem),oM 13 XeC]) (.cond XdU (.seq (.reg [oD 4 (.mv (.const (.string ⟨⟨[]⟩⟩))),oD 5 (.mv (.const (.int .i64 1)))]) .ret) (.seq (.reg [oM 18 τ1,oD 19 (.lenS XeQ),oM 20 τ6,oD 21 (.bin .sub (.const (.int .i64 65535)) Xe4),oD 22 (.bin .gtr XeM Xfw),oM 17 Xfv]) (.cond Xen (.seq (.reg [oD 4 (.mv (.const (.string ⟨⟨[]⟩⟩))),oD 5 (.mv (.const (.int .i64 5)))]) .ret) .skip))))) (.seq (.reg [oD 7 (.mv (.const (.int .i64 0)))]) (.seq (.seq (.reg [oD 23 (.fieldA 2 τ2),oD 24 (.load1 .bool Xfs)]) (.cond XfN (.reg [oD 7 (.mv (.const (.int .i64 64)))]) .skip)) (.seq (.reg [oM 25 τ6,oD 26 (.bin .quo Xgd (.const (.int .i64 4))),oD 27 (.bin .or (.const (.int .i64 64)) Xge),oD 28 (.fieldA 0 τ2),oD 29 (.load1 (.int .i64) Xgi),oM 30 τ6,oM 31 τ1,oD 32 (.lenS XgO),oD 33 (.bin .add Xgw Xg5),oD 34 (.fieldA 1 τ2),oD 35 (.load1 (.int .i64) Xhb),oM 36 τ7,oD 37 (.fieldA 3 τ2),oD 38 (.load1 (.int .i64) XhT),oD 39 (.fieldA 4 τ2),oD 40 (.load1 (.int .i64) XiX),oD 41 (.buildSl 18 1 [(.int .i64 0),(.int .i64 0),(.int .i64 0),(.int .i64 0),(.int .i64 0),(.int .i64 0),(.int .i64 0),(.int .i64 0),(.int .i64 0),(.int .i64 0),(.int .i64 0),(.int .i64 0),(.int .i64 0),(.int .i64 0),(.int .i64 0),(.int .i64 0),(.int .i64 0),(.int .i64 0)] [(0,1,Xgn),(1,1,(.const (.int .i64 1))),(2,1,Xgf),(3,1,(.const (.int .i64 1))),(4,1,Xha),(5,1,(.const (.int .i64 2))),(6,1,Xhq),(7,1,(.const (.int .i64 2))),(8,1,XhU),(9,1,(.const (.int .i64 1))),(10,1,(.const (.int .i64 0))),(11,1,(.const (.int .i64 1))),(12,1,Xii),(13,1,(.const (.int .i64 1))),(14,1,Xi4),(15,1,(.const (.int .i64 1))),(16,1,(.const (.int .i64 0))),(17,1,(.const (.int .i64 2)))]),oD 42 (.callF 196 [Xjg]),oM 8 XiU]) (.seq XOW (.seq (.reg [oM 55 τ8,oM 56 τ8,oD 57 (.callF 183 [Xm5]),oD 58 (.conv .u64 XmR),oD 59 (.callF 98 [Xmv,(.const (.int .i64 10)),(.const (.int .i64 2)),XmY]),oM 60 τ1,oD 61 (.bin .add Xnn Xn5),oM 4 Xon,oD 5 (.mv (.const (.int .i64 0)))]) .ret)))))))
def XR3:VFn:=⟨62,XAY,[.tmp 4,.tmp 5]⟩
def XJq:VC:=.seq (.reg [oD 1 (.box τ0),oD 2 (.mv (.const (.bool false)))]) (.seq (.seq (.reg [oD 3 (.fieldA 0 τ1),oD 4 (.load1 (.int .i64) τ3),oD 5 (.callF 203 [τ4,(.const (.int .i64 255))]),oD 6 (.not τ5),oM 7 τ6,oG 8 (.fieldA 1 τ1) 7 false,oG 9 (.load1 (.int .i64) τ8) 7 false,oG 10 (.callF 203 [τ9,(.const (.int .i64 65535))]) 7 false,oG 11 (.not XcT) 7 false,oD 12 (.pick τ7 (.const (.bool true)) XcS),oM 13 Xdr,oG 14 (.fieldA 3 τ1) 13 false,oG 15 (.load1 (.int .i64) Xet) 13 false,oG 16 (.callF 203 [Xem,(.const (.int .i64 255))]) 13 false,oG 17 (.not XeC) 13 false,oD 18 (.pick XdU (.const (.bool true)) Xen),oM 19 XeQ,oG 20 (.fieldA 4 τ1) 19 false,oG 21 (.load1 (.int .i64) Xe4) 19 false,oG 22 (.callF 203 [Xfw,(.const (.int .i64 255))]) 19 false,oG 23 (.not Xfv) 19 false,oD 24 (.pick XeM (.const (.bool true)) Xfs)]) (.cond XfN (.seq (.reg [oD 2 (.mv (.const (.bool false)))]) .ret) .skip)) (.seq (.reg [oD 25 (.fieldA 5 τ1),oD 26 (.loadN [.bool,(.int .u64),(.int .u64)] Xgd),oD 27 (.callF 204 [Xge]),oM 28 Xgn,oG 29 (.fieldA 8 τ1) 28 true,oG 30 (.loadN [.bool,(.int .u64),(.int .u64)] Xgf) 28 true,oG 31 (.callF 204 [Xgw]) 28 true,oD 32 (.pick Xgi XgO (.const (.bool false))),oM 33 Xg5,oG 34 (.fieldA 11 τ1) 33 true,oG 35 (.load1 .str Xhb) 33 true,oG 36 (.lenS Xhq) 33 true,oG 37 (.bin .rem XhU (.const (.int .i64 4))) 33 true,oG 38 (.bin .eql XhT (.const (.int .i64 0))) 33 true,oD 39 (.pick Xha Xii (.const (.bool false))),oM 40 XiX,oG 41 (.fieldA 11 τ1) 40 true,oG 42 (.load1 .str Xjg) 40 true,oG 43 (.lenS XiU) 40 true,oG 44 (.bin .leq Xi3 (.const (.int .i64 40))) 40 true,oD 45 (.pick Xi4 XjY (.const (.bool false))),oM 2 XjM]) .ret))
def XVb:VFn:=⟨46,XJq,[.tmp 2]⟩
def XIi:VC:=.seq (.reg [oD 4 (.mv (.const (.bool false)))]) (.seq (.reg [oM 5 τ0,oD 6 (.bin .leq (.const (.int .i64 0)) τ5),oM 7 τ6,oG 8 (.mv τ0) 7 true,oG 9 (.mv τ1) 7 true,oG 10 (.bin .leq τ8 τ9) 7 true,oD 11 (.pick τ7 XcT (.const (.bool false))),oM 4 XcS]) .ret)
def XU1:VFn:=⟨12,XIi,[.tmp 4]⟩
def XIL:VC:=.seq (.reg [oD 1 (.box τ0),oD 2 (.mv (.const (.bool false)))]) (.seq (.reg [oD 3 (.fieldA 0 τ1),oD 4 (.load1 .bool τ3),oD 5 (.not τ4),oM 6 τ5,oG 7 (.loadN [.bool,(.int .u64),(.int .u64)] τ1) 6 true,oG 8 (.callF 110 [τ7]) 6 true,oD 9 (.pick τ6 τ8 (.const (.bool false))),oM 2 τ9]) .ret)
def XVR:VFn:=⟨10,XIL,[.tmp 2]⟩
def XQu:VC:=.regD [oM 8 τ0,oD 9 (.nilCheck τ8),oD 10 (.fieldA 0 τ9),oD 11 (.loadN [(.int .i64),.bool,(.int .u64),(.int .u64),.bool,(.int .u64),(.int .u64),(.int .i64),(.int .i64)] XcT),oM 12 τ1,oM 13 τ0,oD 14 (.nilCheck XdU),oD 15 (.fieldA 12 Xet),oD 16 (.load1 (.int .u32) Xem),oM 17 τ0,oD 18 (.nilCheck Xen),oD 19 (.fieldA 13 XeQ),oD 20 (.load1 (.int .u32) XeM),oD 21 (.callF 119 [XeC,Xe4]),oM 22 τ2,oD 23 (.callF 118 [XcS,Xdr,Xfw,Xfv]),oE 24 0 Xfs,oE 25 1 Xfs] [(3,13)] [oM 6 XfN,oM 7 Xgd]
def XIG:VC:=.seq (.reg [oD 6 (.mv (.const (.string ⟨⟨[]⟩⟩))),oD 7 (.mv (.const (.int .i64 0)))]) (.seq XQu .ret)
def XTa:VFn:=⟨26,XIG,[.tmp 6,.tmp 7]⟩
def XHN:VC:=.seq (.reg [oD 5 (.box τ2)]) (.seq (.reg [oD 6 (.fieldA 10 τ5),oD 7 (.load1 .bool τ6)]) (.cond τ7 (.reg [oM 8 τ0,oD 9 (.fieldA 11 τ5),oD 10 (.load1 (.int .u32) τ9),oD 11 (.nilCheck τ8),oD 12 (.fieldA 13 XcS),oN (.store 1 Xdr XcT)]) .skip))
def XT2:VFn:=⟨13,XHN,[]⟩
def k70_3:VC:=.seq (.reg [oD 0 (.alloc [.nilFunc,.nilFunc,.nilFunc])]) (.seq (.reg [oD 1 (.build [.nilFunc,.nilFunc,.nilFunc] [(0,1,(.func 122)),(1,1,(.func 124)),(2,1,(.func 125))]),oN (.store 3 τ0 τ1)]) .ret)
def fn70:VFn:=⟨2,k70_3,[.cell 0 [.oth,.oth,.oth] true]⟩
def XVe:VC:=.regD [oM 4 τ0,oD 5 (.nilCheck τ4),oD 6 (.fieldA 0 τ5),oD 7 (.loadN [(.int .i64),.bool,(.int .u64),(.int .u64),.bool,(.int .u64),(.int .u64),(.int .i64),(.int .i64)] τ6),oD 8 (.callF 68 [(.const (.string ⟨⟨[0]⟩⟩)),(.const (.int .i64 8))]),oD 9 (.build [(.bool false),(.int .i64 0),(.int .u32 0),(.string ⟨⟨[]⟩⟩),(.string ⟨⟨[]⟩⟩),(.string ⟨⟨[]⟩⟩)] [(0,1,(.const (.bool true))),(2,1,(.const (.int .u32 1))),(3,1,τ8),(4,1,(.const (.string ⟨⟨[0,0]⟩⟩)))]),oD 10 (.callF 123 [τ7,τ9]),oE 11 0 XcT,oE 12 1 XcT] [(3,4)] [oM 2 XcS,oM 3 Xdr]
def XJw:VC:=.seq (.reg [oD 2 (.mv (.const (.string ⟨⟨[]⟩⟩))),oD 3 (.mv (.const (.int .i64 0)))]) (.seq XVe .ret)
def XQD:VFn:=⟨13,XJw,[.tmp 2,.tmp 3]⟩
def XyH:VC:=.seq (.reg [oD 2 (.box τ0),oD 3 (.box τ1),oD 4 (.mv (.const (.string ⟨⟨[]⟩⟩))),oD 5 (.mv (.const (.int .i64 0)))]) (.seq (.reg [oD 9 (.loadN [.bool,(.int .i64),(.int .u32),.str,.str,.str] τ3),oD 10 (.callF 162 [τ9]),oM 8 XcT,oE 11 0 τ8,oE 12 1 τ8,oM 6 XcS,oM 7 Xdr]) (.seq (.seq (.reg [oM 13 τ7,oD 14 (.bin .neq XdU (.const (.int .i64 0)))]) (.cond Xet (.seq (.reg [oM 15 τ7,oD 4 (.mv (.const (.string ⟨⟨[]⟩⟩))),oM 5 Xem]) .ret) .skip)) (.seq (.reg [oD 16 (.loadN [(.int .i64),.bool,(.int .u64),(.int .u64),.bool,(.int .u64),(.int .u64),(.int .i64),(.int .i64)] τ2),oM 17 τ6,oD 18 (.callF 163 [XeC,Xen]),oE 19 0 XeQ,oE 20 1 XeQ,oM 4 XeM,oM 5 Xe4]) .ret)))
def XVD:VFn:=⟨21,XyH,[.tmp 4,.tmp 5]⟩
def XSb:VC:=.regD [oD 11 (.fieldA 1 τ1),oD 12 (.load1 (.int .i64) XcS),oD 13 (.bin .or (.const (.int .i64 192)) Xdr),oD 14 (.conv .u64 XdU),oD 15 (.callF 97 [Xet,(.const (.int .i64 1))]),oD 16 (.fieldA 2 τ1),oD 17 (.load1 (.int .u32) XeC),oD 18 (.conv .u64 Xen),oD 19 (.callF 97 [XeQ,(.const (.int .i64 4))]),oD 20 (.bin .add Xem XeM),oD 21 (.fieldA 3 τ1),oD 22 (.load1 .str Xfw),oD 23 (.callF 187 [Xfv]),oD 24 (.bin .add Xe4 Xfs),oD 25 (.fieldA 4 τ1),oD 26 (.load1 .str Xgd),oD 27 (.callF 187 [Xge]),oD 28 (.bin .add XfN Xgn),oD 29 (.fieldA 5 τ1),oD 30 (.load1 .str Xgf)] [(4,6),(4,11),(4,15),(4,19),(8,11),(8,15),(8,19),(12,15),(12,19),(16,19)] [oD 31 (.bin .add Xgi Xgw),oM 2 XgO,oD 3 (.mv (.const (.int .i64 0)))]
def XJ7:VC:=.regD [oD 32 (.fieldA 1 τ1),oD 33 (.load1 (.int .i64) Xg5),oD 34 (.bin .or (.const (.int .i64 64)) Xha),oD 35 (.conv .u64 Xhb),oD 36 (.callF 97 [Xhq,(.const (.int .i64 1))]),oD 37 (.fieldA 3 τ1),oD 38 (.load1 .str XhT),oD 39 (.bin .add XhU Xii),oD 40 (.fieldA 5 τ1),oD 41 (.load1 .str Xi4)] [(4,6),(4,9)] [oD 42 (.bin .add XiX Xjg),oM 2 XiU,oD 3 (.mv (.const (.int .i64 0)))]
def XyZ:VC:=.seq (.reg [oD 1 (.box τ0),oD 2 (.mv (.const (.string ⟨⟨[]⟩⟩))),oD 3 (.mv (.const (.int .i64 0)))]) (.seq (.block 0 (.seq (.reg [oD 5 (.loadN [.bool,(.int .i64),(.int .u32),.str,.str,.str] τ1),oD 6 (.callF 186 [τ5]),oD 7 (.not τ6),oM 4 τ7]) (.cond τ4 (.seq (.reg [oD 2 (.mv (.const (.string ⟨⟨[]⟩⟩))),oD 3 (.mv (.const (.int .i64 1)))]) .ret) (.seq (.reg [oD 9 (.fieldA 0 τ1),oD 10 (.load1 .bool τ9),oM 8 XcT]) (.cond τ8 (.seq XSb .ret) .skip))))) (.seq XJ7 .ret))
def XQH:VFn:=⟨43,XyZ,[.tmp 2,.tmp 3]⟩
def XxA:VC:=.seq (.reg [oD 1 (.box τ0),oD 2 (.mv (.const (.bool false)))]) (.seq (.seq (.reg [oD 3 (.fieldA 1 τ1),oD 4 (.load1 (.int .i64) τ3),oD 5 (.bin .lss τ4 (.const (.int .i64 0))),oM 6 τ5,oG 7 (.fieldA 1 τ1) 6 false,oG 8 (.load1 (.int .i64) τ7) 6 false,oG 9 (.bin .geq τ8 (.const (.int .i64 64))) 6 false,oD 10 (.pick τ6 (.const (.bool true)) τ9)]) (.cond XcT (.seq (.reg [oD 2 (.mv (.const (.bool false)))]) .ret) .skip)) (.seq (.seq (.reg [oD 11 (.fieldA 0 τ1),oD 12 (.load1 .bool XcS)]) (.cond Xdr (.seq (.reg [oD 13 (.fieldA 3 τ1),oD 14 (.load1 .str XdU),oD 15 (.lenS Xet),oD 16 (.fieldA 4 τ1),oD 17 (.load1 .str XeC),oD 18 (.lenS Xen),oD 19 (.minmax true [Xem,XeQ]),oD 20 (.bin .leq XeM (.const (.int .i64 20))),oM 2 Xe4]) .ret) .skip)) (.seq (.reg [oD 21 (.fieldA 3 τ1),oD 22 (.load1 .str Xfw),oD 23 (.lenS Xfv),oD 24 (.bin .eql Xfs (.const (.int .i64 8))),oM 25 XfN,oG 26 (.fieldA 4 τ1) 25 true,oG 27 (.load1 .str Xge) 25 true,oG 28 (.bin .eql Xgn (.const (.string ⟨⟨[]⟩⟩))) 25 true,oD 29 (.pick Xgd Xgi (.const (.bool false))),oM 30 Xgf,oG 31 (.fieldA 2 τ1) 30 true,oG 32 (.load1 (.int .u32) XgO) 30 true,oG 33 (.bin .eql Xg5 (.const (.int .u32 0))) 30 true,oD 34 (.pick Xgw Xha (.const (.bool false))),oM 2 Xhb]) .ret)))
def XSu:VFn:=⟨35,XxA,[.tmp 2]⟩
def XHP:VC:=.seq (.reg [oD 2 (.mv (.const (.string ⟨⟨[]⟩⟩)))]) (.seq (.reg [oM 3 τ0,oD 4 (.lenS τ3),oD 5 (.conv .u64 τ4),oD 6 (.callF 97 [τ5,(.const (.int .i64 1))]),oM 7 τ0,oD 8 (.bin .add τ6 τ7),oM 2 τ8]) .ret)
def XRZ:VFn:=⟨9,XHP,[.tmp 2]⟩
def XyE:VC:=.seq (.reg [oD 2 (.box τ0),oD 4 (.mv (.const (.string ⟨⟨[]⟩⟩))),oD 5 (.mv (.const (.int .i64 0)))]) (.seq (.seq (.reg [oD 8 (.fieldA 0 τ2),oD 9 (.load1 (.int .i64) τ8),oD 10 (.bin .neq τ9 (.const (.int .i64 17)))]) (.cond XcT (.seq (.reg [oD 4 (.mv (.const (.string ⟨⟨[]⟩⟩))),oD 5 (.mv (.const (.int .i64 1)))]) .ret) .skip)) (.seq (.reg [oD 12 (.fieldA 7 τ2),oD 13 (.load1 (.int .i64) Xdr),oD 14 (.fieldA 8 τ2),oD 15 (.load1 (.int .i64) Xet),oD 16 (.build [(.int .i64 0),(.int .i64 0)] [(0,1,XdU),(1,1,Xem)]),oD 17 (.fieldA 1 τ2),oD 18 (.loadN [.bool,(.int .u64),(.int .u64)] Xen),oD 19 (.fieldA 4 τ2),oD 20 (.loadN [.bool,(.int .u64),(.int .u64)] XeM),oM 21 τ1,oD 22 (.callF 188 [XeC,XeQ,Xe4,Xfw]),oM 11 Xfv,oE 23 0 XcS,oE 24 1 XcS,oM 6 Xfs,oM 7 XfN]) (.seq (.seq (.reg [oM 25 τ7,oD 26 (.bin .neq Xgd (.const (.int .i64 0)))]) (.cond Xge (.seq (.reg [oM 27 τ7,oD 4 (.mv (.const (.string ⟨⟨[]⟩⟩))),oM 5 Xgn]) .ret) .skip)) (.seq (.reg [oD 28 (.loadN [(.int .i64),.bool,(.int .u64),(.int .u64),.bool,(.int .u64),(.int .u64),(.int .i64),(.int .i64)] τ2),oM 29 τ6,oD 30 (.callF 161 [Xgi,Xgf]),oE 31 0 Xgw,oE 32 1 Xgw,oM 4 XgO,oM 5 Xg5]) .ret))))
def XVs:VFn:=⟨33,XyE,[.tmp 4,.tmp 5]⟩
def Xuv:VC:=.seq (.reg [oD 49 (.bin .lss Xkd (.const (.int .i64 4)))]) (.seq (.cond Xkc .skip (.exit 1)) (.seq (.block 2 (.seq (.reg [oD 50 (.idxV1 4 Xkb Xkd),oM 14 XkJ]) (.reg [oM 51 Xet,oD 52 (.conv .u64 Xla),oD 53 (.callF 97 [Xk8,(.const (.int .i64 2))]),oD 54 (.callF 114 [Xdr,Xmo])]))) (.reg [oD 55 (.bin .add Xkd (.const (.int .i64 1))),oM 48 Xmv])))
def Xyv:VC:=.seq (.reg [oM 56 τ3,oD 57 (.callF 114 [Xdr,Xm5])]) (.seq (.reg [oD 58 (.callF 116 [Xdr]),oM 15 XmY]) (.seq (.reg [oM 59 XcS,oM 60 Xem,oD 61 (.bin .add Xnn Xn5),oD 62 (.callF 183 [Xon]),oM 16 XoU]) (.seq (.seq (.reg [oM 63 XeC,oD 64 (.bin .eql Xqr (.const (.int .i64 0)))]) (.cond Xqq (.reg [oD 16 (.mv (.const (.int .i64 65535)))]) .skip)) (.seq (.reg [oM 65 Xem,oM 66 XeC,oD 67 (.conv .u64 XqY),oD 68 (.callF 98 [Xq4,(.const (.int .i64 6)),(.const (.int .i64 2)),Xqy]),oM 8 Xqw,oD 9 (.mv (.const (.int .i64 0)))]) .ret))))
def XAL:VC:=.seq (.reg [oD 4 (.box τ0),oD 5 (.box τ1),oD 6 (.box τ2),oD 8 (.mv (.const (.string ⟨⟨[]⟩⟩))),oD 9 (.mv (.const (.int .i64 0)))]) (.seq (.reg [oM 17 τ3,oD 18 (.lenS Xen),oD 19 (.bin .add (.const (.int .i64 8)) XeQ),oM 10 XeM]) (.seq (.reg [oD 20 (.loadN [.bool,(.int .u64),(.int .u64)] τ5),oD 21 (.loadN [.bool,(.int .u64),(.int .u64)] τ6),oM 22 XcT,oD 23 (.callF 180 [Xe4,Xfw,(.const (.int .i64 17)),Xfv]),oM 11 Xfs]) (.seq (.block 0 (.seq (.reg [oD 25 (.fieldA 0 τ4),oD 26 (.load1 (.int .i64) Xgd),oD 27 (.callF 200 [Xge]),oD 28 (.not Xgn),oM 29 Xgi,oG 30 (.fieldA 1 τ4) 29 false,oG 31 (.load1 (.int .i64) Xgw) 29 false,oG 32 (.callF 200 [XgO]) 29 false,oG 33 (.not Xg5) 29 false,oD 34 (.pick Xgf (.const (.bool true)) Xha),oM 35 Xhb,oG 36 (.mv XcS) 35 false,oG 37 (.bin .eql XhU (.const (.string ⟨⟨[]⟩⟩))) 35 false,oD 38 (.pick Xhq (.const (.bool true)) XhT),oM 24 Xii]) (.cond XfN (.seq (.reg [oD 8 (.mv (.const (.string ⟨⟨[]⟩⟩))),oD 9 (.mv (.const (.int .i64 1)))]) .ret) (.seq (.reg [oM 40 XcT,oD 41 (.bin .gtr Xi4 (.const (.int .i64 65535))),oM 39 Xjg]) (.cond XiX (.seq (.reg [oD 8 (.mv (.const (.string ⟨⟨[]⟩⟩))),oD 9 (.mv (.const (.int .i64 5)))]) .ret) .skip))))) (.seq (.reg [oD 12 (.allocB 171 5)]) (.seq (.seq (.reg [oD 42 (.fieldA 0 τ4),oD 43 (.load1 (.int .i64) XiU),oD 44 (.fieldA 1 τ4),oD 45 (.load1 (.int .i64) XjY),oM 46 XcT,oD 47 (.build [(.int .i64 0),(.int .i64 0),(.int .i64 0),(.int .i64 0)] [(0,1,Xi3),(1,1,XjM),(2,1,Xke),(3,1,(.const (.int .i64 0)))]),oD 48 (.mv (.const (.int .i64 0)))]) (.block 1 (.loop Xuv))) Xyv)))))
def XUW:VFn:=⟨69,XAL,[.tmp 8,.tmp 9]⟩
def XI2:VC:=.seq (.reg [oD 2 (.mv (.const (.bool false)))]) (.seq (.reg [oM 3 τ0,oD 4 (.bin .leq (.const (.int .i64 0)) τ3),oM 5 τ4,oG 6 (.mv τ0) 5 true,oG 7 (.bin .leq τ6 (.const (.int .i64 65535))) 5 true,oD 8 (.pick τ5 τ7 (.const (.bool false))),oM 2 τ8]) .ret)
def XQR:VFn:=⟨9,XI2,[.tmp 2]⟩
def XTo:VC:=.regD [oM 8 τ0,oD 9 (.nilCheck τ8),oD 10 (.fieldA 0 τ9),oD 11 (.loadN [(.int .i64),.bool,(.int .u64),(.int .u64),.bool,(.int .u64),(.int .u64),(.int .i64),(.int .i64)] XcT),oM 12 τ0,oD 13 (.nilCheck Xdr),oD 14 (.fieldA 14 XdU),oD 15 (.load1 .str Xet),oM 16 τ2,oD 17 (.build [(.bool false),(.int .i64 0),(.int .u32 0),(.string ⟨⟨[]⟩⟩),(.string ⟨⟨[]⟩⟩),(.string ⟨⟨[]⟩⟩)] [(3,1,Xem),(5,1,XeC)]),oD 18 (.callF 123 [XcS,Xen]),oE 19 0 XeQ,oE 20 1 XeQ] [] [oM 6 XeM,oM 7 Xe4]
def XI9:VC:=.seq (.reg [oD 6 (.mv (.const (.string ⟨⟨[]⟩⟩))),oD 7 (.mv (.const (.int .i64 0)))]) (.seq XTo .ret)
def XQp:VFn:=⟨21,XI9,[.tmp 6,.tmp 7]⟩
def XJA:VC:=.seq (.reg [oD 5 (.box τ2)]) (.seq (.reg [oM 12 τ1,oD 13 (.callF 93 [Xdr]),oM 11 XdU,oE 14 0 XcS,oE 15 1 XcS,oE 16 2 XcS,oM 6 Xet,oM 7 Xem,oM 8 XeC]) (.seq (.reg [oM 18 τ1,oM 19 τ7,oD 20 (.sliceS XeQ (some XeM) none),oD 21 (.callF 94 [Xe4]),oM 17 Xfw,oE 22 0 Xen,oE 23 1 Xen,oD 9 (.alloc [(.bool false),(.int .i64 0),(.int .u32 0),(.string ⟨⟨[]⟩⟩),(.string ⟨⟨[]⟩⟩),(.string ⟨⟨[]⟩⟩)]),oN (.store 6 τ9 Xfv),oM 10 Xfs]) (.seq (.reg [oM 24 XcT,oD 25 (.bin .eql XfN (.const (.int .i64 0))),oM 26 Xgd,oG 27 (.fieldA 0 τ9) 26 true,oG 28 (.load1 .bool Xgn) 26 true,oD 29 (.pick Xge Xgi (.const (.bool false))),oM 30 Xgf,oG 31 (.fieldA 4 τ9) 30 true,oG 32 (.load1 .str XgO) 30 true,oG 33 (.lenS Xg5) 30 true,oG 34 (.bin .eql Xha (.const (.int .i64 8))) 30 true,oD 35 (.pick Xgw Xhb (.const (.bool false)))]) (.cond Xhq (.reg [oM 36 τ0,oD 37 (.fieldA 4 τ9),oD 38 (.load1 .str XhT),oD 39 (.nilCheck XhU),oD 40 (.fieldA 14 XiX),oN (.store 1 Xi4 Xii)]) .skip))))
def XQF:VFn:=⟨41,XJA,[]⟩
def XIb:VC:=.seq (.reg [oD 2 (.mv (.const (.int .i64 0))),oD 3 (.mv (.const (.int .i64 0))),oD 4 (.mv (.const (.int .i64 0)))]) (.seq (.reg [oM 10 τ0,oD 11 (.callF 81 [XcT]),oM 9 XcS,oE 12 0 τ9,oE 13 1 τ9,oE 14 2 τ9,oE 15 3 τ9,oD 5 (.alloc [(.int .i64 0),(.bool false),(.int .u64 0),(.int .u64 0),(.bool false),(.int .u64 0),(.int .u64 0),(.int .i64 0),(.int .i64 0),(.int .i64 0),(.bool false),(.int .u32 0),(.int .u32 0),(.bool false),(.string ⟨⟨[]⟩⟩),(.int .i64 0)]),oN (.store 16 τ5 Xdr),oM 6 XdU,oM 7 Xet,oM 8 Xem]) (.seq (.seq (.reg [oM 16 τ8,oD 17 (.bin .neq XeC (.const (.int .i64 0)))]) (.cond Xen (.seq (.reg [oM 18 τ8,oD 2 (.mv (.const (.int .i64 0))),oD 3 (.mv (.const (.int .i64 0))),oM 4 XeQ]) .ret) .skip)) (.seq (.reg [oM 19 τ0,oD 20 (.lenS XeM),oM 21 τ6,oD 22 (.bin .sub Xe4 Xfw),oM 23 τ0,oD 24 (.lenS Xfs),oM 25 τ7,oD 26 (.bin .sub XfN Xgd),oM 2 Xfv,oM 3 Xge,oD 4 (.mv (.const (.int .i64 0)))]) .ret)))
def fn93:VFn:=⟨27,XIb,[.tmp 2,.tmp 3,.tmp 4]⟩
def XUN:VC:=.regD [oD 58 (.loadN [(.int .i64),.bool,(.int .u64),(.int .u64),.bool,(.int .u64),(.int .u64),(.int .i64),(.int .i64),(.int .i64),.bool,(.int .u32),(.int .u32),.bool,.str,(.int .i64)] τ8),oD 59 (.fieldA 7 τ6),oD 60 (.load1 .str Xnn),oD 61 (.lenS Xn5),oM 62 τ9,oN (.store 16 τ2 XmY),oM 3 Xon] [(2,5)] [oM 4 XoU,oD 5 (.mv (.const (.int .i64 0)))]
def XIO:VC:=.seq (.reg [oD 2 (.alloc [(.int .i64 0),(.bool false),(.int .u64 0),(.int .u64 0),(.bool false),(.int .u64 0),(.int .u64 0),(.int .i64 0),(.int .i64 0),(.int .i64 0),(.bool false),(.int .u32 0),(.int .u32 0),(.bool false),(.string ⟨⟨[]⟩⟩),(.int .i64 0)]),oD 3 (.mv (.const (.int .i64 0))),oD 4 (.mv (.const (.int .i64 0))),oD 5 (.mv (.const (.int .i64 0)))]) (.seq (.block 0 (.seq (.reg [oM 11 τ0,oD 12 (.lenS XcS),oD 13 (.bin .gtr Xdr (.const (.int .i64 9000))),oM 10 XdU]) (.cond XcT (.seq (.reg [oD 14 (.build [(.int .i64 0),(.bool false),(.int .u64 0),(.int .u64 0),(.bool false),(.int .u64 0),(.int .u64 0),(.int .i64 0),(.int .i64 0),(.int .i64 0),(.bool false),(.int .u32 0),(.int .u32 0),(.bool false),(.string ⟨⟨[]⟩⟩),(.int .i64 0)] []),oN (.store 16 τ2 Xet),oD 3 (.mv (.const (.int .i64 0))),oD 4 (.mv (.const (.int .i64 0))),oD 5 (.mv (.const (.int .i64 5)))]) .ret) (.seq (.reg [oM 16 τ0,oD 17 (.bin .eql XeC (.const (.string ⟨⟨[]⟩⟩))),oM 15 Xen]) (.cond Xem (.seq (.reg [oD 18 (.build [(.int .i64 0),(.bool false),(.int .u64 0),(.int .u64 0),(.bool false),(.int .u64 0),(.int .u64 0),(.int .i64 0),(.int .i64 0),(.int .i64 0),(.bool false),(.int .u32 0),(.int .u32 0),(.bool false),(.string ⟨⟨[]⟩⟩),(.int .i64 0)] []),oN (.store 16 τ2 XeQ),oD 3 (.mv (.const (.int .i64 0))),oD 4 (.mv (.const (.int .i64 0))),oD 5 (.mv (.const (.int .i64 2)))]) .ret) .skip))))) (.seq (.reg [oM 20 τ0,oD 21 (.callF 131 [Xe4]),oM 19 Xfw,oE 22 0 XeM,oE 23 1 XeM,oD 6 (.alloc [(.bool false),(.int .u64 0),(.int .u64 0),(.bool false),(.int .u64 0),(.int .u64 0),(.int .i64 0),(.string ⟨⟨[]⟩⟩)]),oN (.store 8 τ6 Xfv),oM 7 Xfs]) (.seq (.seq (.reg [oM 24 τ7,oD 25 (.bin .neq XfN (.const (.int .i64 0)))]) (.cond Xgd (.seq (.reg [oD 26 (.build [(.int .i64 0),(.bool false),(.int .u64 0),(.int .u64 0),(.bool false),(.int .u64 0),(.int .u64 0),(.int .i64 0),(.int .i64 0),(.int .i64 0),(.bool false),(.int .u32 0),(.int .u32 0),(.bool false),(.string ⟨⟨[]⟩⟩),(.int .i64 0)] []),oM 27 τ7,oN (.store 16 τ2 Xge),oD 3 (.mv (.const (.int .i64 0))),oD 4 (.mv (.const (.int .i64 0))),oM 5 Xgn]) .ret) .skip)) (.seq (.reg [oM 28 τ0,oD 29 (.lenS Xgi),oD 30 (.fieldA 6 τ6),oD 31 (.load1 (.int .i64) Xgw),oD 32 (.fieldA 0 τ6),oD 33 (.loadN [.bool,(.int .u64),(.int .u64)] Xg5),oD 34 (.fieldA 3 τ6),oD 35 (.loadN [.bool,(.int .u64),(.int .u64)] Xhb),oD 36 (.build [(.int .i64 0),(.bool false),(.int .u64 0),(.int .u64 0),(.bool false),(.int .u64 0),(.int .u64 0),(.int .i64 0),(.int .i64 0)] [(0,1,XgO),(1,3,Xha),(4,3,Xhq)]),oD 37 (.build [(.int .i64 0),(.bool false),(.int .u64 0),(.int .u64 0),(.bool false),(.int .u64 0),(.int .u64 0),(.int .i64 0),(.int .i64 0),(.int .i64 0),(.bool false),(.int .u32 0),(.int .u32 0),(.bool false),(.string ⟨⟨[]⟩⟩),(.int .i64 0)] [(15,1,Xgf),(0,9,XhU)]),oD 8 (.alloc [(.int .i64 0),(.bool false),(.int .u64 0),(.int .u64 0),(.bool false),(.int .u64 0),(.int .u64 0),(.int .i64 0),(.int .i64 0),(.int .i64 0),(.bool false),(.int .u32 0),(.int .u32 0),(.bool false),(.string ⟨⟨[]⟩⟩),(.int .i64 0)]),oN (.store 16 τ8 XhT)]) (.seq (.reg [oD 9 (.mv (.const (.int .i64 0)))]) (.seq (.seq (.reg [oD 38 (.fieldA 6 τ6),oD 39 (.load1 (.int .i64) Xii)]) (.block 1 (.seq (.reg [oD 41 (.bin .eql XiX (.const (.int .i64 6))),oM 40 Xjg]) (.cond Xi4 (.reg [oD 43 (.loadN [.bool,(.int .u64),(.int .u64),.bool,(.int .u64),(.int .u64),(.int .i64),.str] τ6),oD 44 (.callF 132 [Xi3,τ8]),oM 42 XjY,oE 45 0 XiU,oE 46 1 XiU,oM 9 XjM,oM 7 Xke]) (.seq (.reg [oD 48 (.bin .eql XiX (.const (.int .i64 17))),oM 47 Xkd]) (.cond Xkb (.reg [oD 50 (.loadN [.bool,(.int .u64),(.int .u64),.bool,(.int .u64),(.int .u64),(.int .i64),.str] τ6),oD 51 (.callF 133 [XkJ,τ8]),oM 49 Xla,oE 52 0 Xkc,oE 53 1 Xkc,oM 9 Xk8,oM 7 Xmo]) (.reg [oD 7 (.mv (.const (.int .i64 6)))]))))))) (.seq (.seq (.reg [oM 54 τ7,oD 55 (.bin .neq Xm6 (.const (.int .i64 0)))]) (.cond Xmv (.seq (.reg [oD 56 (.build [(.int .i64 0),(.bool false),(.int .u64 0),(.int .u64 0),(.bool false),(.int .u64 0),(.int .u64 0),(.int .i64 0),(.int .i64 0),(.int .i64 0),(.bool false),(.int .u32 0),(.int .u32 0),(.bool false),(.string ⟨⟨[]⟩⟩),(.int .i64 0)] []),oM 57 τ7,oN (.store 16 τ2 Xm5),oD 3 (.mv (.const (.int .i64 0))),oD 4 (.mv (.const (.int .i64 0))),oM 5 XmR]) .ret) .skip)) (.seq XUN .ret))))))))
def fn81:VFn:=⟨63,XIO,[.cell 2 [(.int .i64),.bool,(.int .u64),(.int .u64),.bool,(.int .u64),(.int .u64),(.int .i64),(.int .i64),(.int .i64),.bool,(.int .u32),(.int .u32),.bool,.str,(.int .i64)] true,.tmp 3,.tmp 4,.tmp 5]⟩
def XyM:VC:=.seq (.reg [oD 2 (.alloc [(.bool false),(.int .u64 0),(.int .u64 0),(.bool false),(.int .u64 0),(.int .u64 0),(.int .i64 0),(.string ⟨⟨[]⟩⟩)]),oD 3 (.mv (.const (.int .i64 0)))]) (.seq (.reg [oM 10 τ0,oD 11 (.callF 166 [XcT]),oM 9 XcS,oE 12 0 τ9,oE 13 1 τ9,oE 14 2 τ9,oM 4 Xdr,oM 5 XdU,oM 6 Xet]) (.seq (.seq (.reg [oM 15 τ6,oD 16 (.bin .neq Xem (.const (.int .i64 0)))]) (.cond XeC (.seq (.reg [oD 17 (.build [(.bool false),(.int .u64 0),(.int .u64 0),(.bool false),(.int .u64 0),(.int .u64 0),(.int .i64 0),(.string ⟨⟨[]⟩⟩)] []),oM 18 τ6,oN (.store 8 τ2 Xen),oM 3 XeQ]) .ret) .skip)) (.seq (.seq (.reg [oM 19 τ4]) (.block 0 (.seq (.reg [oD 20 (.tassert 227 (.agg ⟨[(.int .i64 0),(.int .i64 0),(.bool false),(.int .i64 0),(.int .i64 0),(.bool false),(.int .u64 0),(.int .u64 0),(.bool false),(.int .u64 0),(.int .u64 0),(.string ⟨⟨[]⟩⟩)]⟩) XeM),oE 21 1 Xe4,oE 22 0 Xe4]) (.cond Xfw (.seq (.reg [oD 7 (.alloc [(.int .i64 0),(.int .i64 0),(.bool false),(.int .i64 0),(.int .i64 0),(.bool false),(.int .u64 0),(.int .u64 0),(.bool false),(.int .u64 0),(.int .u64 0),(.string ⟨⟨[]⟩⟩)]),oN (.store 12 τ7 Xfv)]) (.seq (.seq (.reg [oM 23 τ0,oD 24 (.lenS Xfs),oD 25 (.fieldA 11 τ7),oD 26 (.load1 .str Xgd),oD 27 (.lenS Xge),oD 28 (.bin .add (.const (.int .i64 20)) Xgn),oM 29 τ5,oD 30 (.lenS Xgf),oD 31 (.bin .add Xgi Xgw),oD 32 (.bin .neq XfN XgO)]) (.cond Xg5 (.seq (.reg [oD 33 (.build [(.bool false),(.int .u64 0),(.int .u64 0),(.bool false),(.int .u64 0),(.int .u64 0),(.int .i64 0),(.string ⟨⟨[]⟩⟩)] []),oN (.store 8 τ2 Xha),oD 3 (.mv (.const (.int .i64 5)))]) .ret) .skip)) (.seq (.reg [oD 34 (.fieldA 5 τ7),oD 35 (.loadN [.bool,(.int .u64),(.int .u64)] Xhb),oD 36 (.fieldA 8 τ7),oD 37 (.loadN [.bool,(.int .u64),(.int .u64)] XhU),oD 38 (.fieldA 4 τ7),oD 39 (.load1 (.int .i64) Xii),oM 40 τ5,oD 41 (.build [(.bool false),(.int .u64 0),(.int .u64 0),(.bool false),(.int .u64 0),(.int .u64 0),(.int .i64 0),(.string ⟨⟨[]⟩⟩)] [(0,3,Xhq),(3,3,XhT),(6,1,XiX),(7,1,Xi4)]),oN (.store 8 τ2 Xjg),oD 3 (.mv (.const (.int .i64 0)))]) .ret))) (.seq (.reg [oD 42 (.tassert 228 (.agg ⟨[(.int .i64 0),(.int .i64 0),(.int .i64 0),(.int .i64 0),(.bool false),(.int .u64 0),(.int .u64 0),(.bool false),(.int .u64 0),(.int .u64 0)]⟩) XeM),oE 43 1 XiU,oE 44 0 XiU]) (.cond Xi3 (.seq (.reg [oD 8 (.alloc [(.int .i64 0),(.int .i64 0),(.int .i64 0),(.int .i64 0),(.bool false),(.int .u64 0),(.int .u64 0),(.bool false),(.int .u64 0),(.int .u64 0)]),oN (.store 10 τ8 XjY)]) (.seq (.seq (.reg [oM 45 τ0,oD 46 (.lenS XjM),oM 47 τ5,oD 48 (.lenS Xkb),oD 49 (.bin .add (.const (.int .i64 40)) Xkd),oD 50 (.bin .neq Xke Xkc)]) (.cond XkJ (.seq (.reg [oD 51 (.build [(.bool false),(.int .u64 0),(.int .u64 0),(.bool false),(.int .u64 0),(.int .u64 0),(.int .i64 0),(.string ⟨⟨[]⟩⟩)] []),oN (.store 8 τ2 Xla),oD 3 (.mv (.const (.int .i64 5)))]) .ret) .skip)) (.seq (.reg [oD 52 (.fieldA 4 τ8),oD 53 (.loadN [.bool,(.int .u64),(.int .u64)] Xk8),oD 54 (.fieldA 7 τ8),oD 55 (.loadN [.bool,(.int .u64),(.int .u64)] Xm6),oD 56 (.fieldA 2 τ8),oD 57 (.load1 (.int .i64) Xm5),oM 58 τ5,oD 59 (.build [(.bool false),(.int .u64 0),(.int .u64 0),(.bool false),(.int .u64 0),(.int .u64 0),(.int .i64 0),(.string ⟨⟨[]⟩⟩)] [(0,3,Xmo),(3,3,Xmv),(6,1,XmR),(7,1,XmY)]),oN (.store 8 τ2 Xnn),oD 3 (.mv (.const (.int .i64 0)))]) .ret))) .skip)))))) (.seq (.reg [oD 60 (.build [(.bool false),(.int .u64 0),(.int .u64 0),(.bool false),(.int .u64 0),(.int .u64 0),(.int .i64 0),(.string ⟨⟨[]⟩⟩)] []),oN (.store 8 τ2 Xn5),oD 3 (.mv (.const (.int .i64 3)))]) .ret))))
def XUw:VFn:=⟨61,XyM,[.cell 2 [.bool,(.int .u64),(.int .u64),.bool,(.int .u64),(.int .u64),(.int .i64),.str] true,.tmp 3]⟩
def XMt:VC:=.seq (.reg [oM 2 (.const .nilIface),oD 3 (.mv (.const (.string ⟨⟨[]⟩⟩))),oD 4 (.mv (.const (.int .i64 0)))]) (.seq (.seq (.reg [oM 11 τ0,oD 12 (.idxS XcS (.const (.int .i64 0))),oD 13 (.bin .shr Xdr (.const (.int .u64 4)))]) (.block 0 (.seq (.reg [oD 15 (.bin .eql XdU (.const (.int .u8 4))),oM 14 Xem]) (.cond Xet (.seq (.reg [oM 17 τ0,oD 18 (.callF 190 [Xen]),oM 16 XeQ,oE 19 0 XeC,oE 20 1 XeC,oE 21 2 XeC,oD 5 (.alloc [(.int .i64 0),(.int .i64 0),(.bool false),(.int .i64 0),(.int .i64 0),(.bool false),(.int .u64 0),(.int .u64 0),(.bool false),(.int .u64 0),(.int .u64 0),(.string ⟨⟨[]⟩⟩)]),oN (.store 12 τ5 XeM),oM 6 Xe4,oM 7 Xfw]) (.seq (.reg [oD 22 (.loadN [(.int .i64),(.int .i64),.bool,(.int .i64),(.int .i64),.bool,(.int .u64),(.int .u64),.bool,(.int .u64),(.int .u64),.str] τ5),oD 23 (.iface 227 Xfv),oM 24 τ6,oM 25 τ7,oM 2 Xfs,oM 3 XfN,oM 4 Xgd]) .ret)) (.seq (.reg [oD 27 (.bin .eql XdU (.const (.int .u8 6))),oM 26 Xgn]) (.cond Xge (.seq (.reg [oM 29 τ0,oD 30 (.callF 191 [Xgf]),oM 28 Xgw,oE 31 0 Xgi,oE 32 1 Xgi,oE 33 2 Xgi,oD 8 (.alloc [(.int .i64 0),(.int .i64 0),(.int .i64 0),(.int .i64 0),(.bool false),(.int .u64 0),(.int .u64 0),(.bool false),(.int .u64 0),(.int .u64 0)]),oN (.store 10 τ8 XgO),oM 9 Xg5,oM 10 Xha]) (.seq (.reg [oD 34 (.loadN [(.int .i64),(.int .i64),(.int .i64),(.int .i64),.bool,(.int .u64),(.int .u64),.bool,(.int .u64),(.int .u64)] τ8),oD 35 (.iface 228 Xhb),oM 36 τ9,oM 37 XcT,oM 2 Xhq,oM 3 XhU,oM 4 XhT]) .ret)) .skip)))))) (.seq (.reg [oM 2 (.const .nilIface),oD 3 (.mv (.const (.string ⟨⟨[]⟩⟩))),oD 4 (.mv (.const (.int .i64 3)))]) .ret))
def XRk:VFn:=⟨38,XMt,[.tmp 2,.tmp 3,.tmp 4]⟩
def XLu:VC:=.regD [oD 72 (.fieldA 0 τ5),oD 73 (.load1 .oth Xsx),oD 74 (.callF 78 [XtQ,(.const (.int .i64 1))]),oD 75 (.fieldA 0 τ5),oD 76 (.load1 .oth Xwh),oD 77 (.callF 78 [Xxk,(.const (.int .i64 1))]),oD 78 (.fieldA 3 τ7)] [(2,4)] [oN (.store 1 Xxu Xvo),oD 79 (.fieldA 4 τ7),oN (.store 1 Xyk Xxv)]
def XMY:VC:=.regD [oD 83 (.loadN [.oth] τ5),oD 84 (.callF 201 [XBG]),oD 85 (.loadN [.oth] τ5),oD 86 (.callF 201 [XJu]),oD 87 (.fieldA 5 τ7)] [(1,2)] [oN (.store 3 XOn XIF),oD 88 (.fieldA 8 τ7),oN (.store 3 XN4 XPM)]
def XPy:VC:=.regD [oD 95 (.loadN [(.int .i64),(.int .i64),.bool,(.int .i64),(.int .i64),.bool,(.int .u64),(.int .u64),.bool,(.int .u64),(.int .u64),.str] τ7),oD 96 (.fieldA 0 τ5),oD 97 (.load1 .oth XPU),oM 98 τ9,oM 99 τ8,oD 100 (.bin .sub XQl XQj),oD 101 (.callF 129 [XJa,Xws])] [(0,6)] [oN (.store 12 τ2 XJ5),oM 3 Xw1,oD 4 (.mv (.const (.int .i64 0)))]
def Xy6:VC:=.seq (.reg [oD 2 (.alloc [(.int .i64 0),(.int .i64 0),(.bool false),(.int .i64 0),(.int .i64 0),(.bool false),(.int .u64 0),(.int .u64 0),(.bool false),(.int .u64 0),(.int .u64 0),(.string ⟨⟨[]⟩⟩)]),oD 3 (.mv (.const (.string ⟨⟨[]⟩⟩))),oD 4 (.mv (.const (.int .i64 0)))]) (.seq (.seq (.reg [oM 11 τ0,oD 12 (.lenS XcS),oD 13 (.bin .lss Xdr (.const (.int .i64 20)))]) (.cond XdU (.seq (.reg [oD 14 (.build [(.int .i64 0),(.int .i64 0),(.bool false),(.int .i64 0),(.int .i64 0),(.bool false),(.int .u64 0),(.int .u64 0),(.bool false),(.int .u64 0),(.int .u64 0),(.string ⟨⟨[]⟩⟩)] []),oN (.store 12 τ2 Xet),oD 3 (.mv (.const (.string ⟨⟨[]⟩⟩))),oD 4 (.mv (.const (.int .i64 2)))]) .ret) .skip)) (.seq (.reg [oM 15 τ0,oD 16 (.callF 77 [Xem]),oD 17 (.build [(.pointer none)] [(0,1,XeC)]),oD 5 (.alloc [(.pointer none)]),oN (.store 1 τ5 Xen)]) (.seq (.reg [oD 18 (.fieldA 0 τ5),oD 19 (.load1 .oth XeQ),oD 20 (.callF 78 [XeM,(.const (.int .i64 1))]),oM 6 Xe4]) (.seq (.reg [oD 21 (.fieldA 0 τ5),oD 22 (.load1 .oth Xfw),oD 23 (.callF 78 [Xfv,(.const (.int .i64 1))]),oD 24 (.build [(.int .i64 0),(.int .i64 0),(.bool false),(.int .i64 0),(.int .i64 0),(.bool false),(.int .u64 0),(.int .u64 0),(.bool false),(.int .u64 0),(.int .u64 0),(.string ⟨⟨[]⟩⟩)] [(0,1,Xfs)]),oD 7 (.alloc [(.int .i64 0),(.int .i64 0),(.bool false),(.int .i64 0),(.int .i64 0),(.bool false),(.int .u64 0),(.int .u64 0),(.bool false),(.int .u64 0),(.int .u64 0),(.string ⟨⟨[]⟩⟩)]),oN (.store 12 τ7 XfN)]) (.seq (.reg [oM 25 τ6,oD 26 (.bin .and Xgd (.const (.int .i64 15))),oD 27 (.bin .mul Xge (.const (.int .i64 4))),oD 28 (.fieldA 0 τ5),oD 29 (.load1 .oth Xgi),oD 30 (.callF 78 [Xgf,(.const (.int .i64 2))]),oM 8 Xgn,oM 9 Xgw]) (.seq (.block 0 (.seq (.reg [oM 32 τ6,oD 33 (.bin .shr Xg5 (.const (.int .u64 4))),oD 34 (.bin .neq Xha (.const (.int .i64 4))),oM 35 Xhb,oG 36 (.mv τ8) 35 false,oG 37 (.bin .lss XhU (.const (.int .i64 20))) 35 false,oD 38 (.pick Xhq (.const (.bool true)) XhT),oM 39 Xii,oG 40 (.mv τ9) 39 false,oG 41 (.mv τ8) 39 false,oG 42 (.bin .lss Xi4 Xjg) 39 false,oD 43 (.pick XiX (.const (.bool true)) XiU),oM 31 Xi3]) (.cond XgO (.seq (.reg [oD 44 (.build [(.int .i64 0),(.int .i64 0),(.bool false),(.int .i64 0),(.int .i64 0),(.bool false),(.int .u64 0),(.int .u64 0),(.bool false),(.int .u64 0),(.int .u64 0),(.string ⟨⟨[]⟩⟩)] []),oN (.store 12 τ2 XjY),oD 3 (.mv (.const (.string ⟨⟨[]⟩⟩))),oD 4 (.mv (.const (.int .i64 3)))]) .ret) (.seq (.reg [oM 46 τ9,oM 47 τ0,oD 48 (.lenS Xkb),oD 49 (.bin .gtr Xke Xkd),oM 45 Xkc]) (.cond XjM (.seq (.reg [oD 50 (.build [(.int .i64 0),(.int .i64 0),(.bool false),(.int .i64 0),(.int .i64 0),(.bool false),(.int .u64 0),(.int .u64 0),(.bool false),(.int .u64 0),(.int .u64 0),(.string ⟨⟨[]⟩⟩)] []),oN (.store 12 τ2 XkJ),oD 3 (.mv (.const (.string ⟨⟨[]⟩⟩))),oD 4 (.mv (.const (.int .i64 2)))]) .ret) (.seq (.reg [oM 52 τ0,oM 53 τ8,oD 54 (.sliceS Xk8 none (some Xmo)),oD 55 (.callF 80 [Xm6]),oD 56 (.not Xmv),oM 51 Xm5]) (.cond Xla (.seq (.reg [oD 57 (.build [(.int .i64 0),(.int .i64 0),(.bool false),(.int .i64 0),(.int .i64 0),(.bool false),(.int .u64 0),(.int .u64 0),(.bool false),(.int .u64 0),(.int .u64 0),(.string ⟨⟨[]⟩⟩)] []),oN (.store 12 τ2 XmR),oD 3 (.mv (.const (.string ⟨⟨[]⟩⟩))),oD 4 (.mv (.const (.int .i64 4)))]) .ret) .skip))))))) (.seq (.reg [oD 58 (.fieldA 0 τ5),oD 59 (.load1 .oth XmY),oD 60 (.callF 78 [Xnn,(.const (.int .i64 2))]),oD 61 (.fieldA 1 τ7),oN (.store 1 Xon Xn5)]) (.seq (.reg [oD 62 (.fieldA 0 τ5),oD 63 (.load1 .oth XoU),oD 64 (.callF 78 [Xqr,(.const (.int .i64 2))]),oM 10 Xqq]) (.seq (.seq (.reg [oM 65 XcT,oD 66 (.bin .andNot Xq4 (.const (.int .i64 16384))),oD 67 (.bin .neq XqY (.const (.int .i64 0)))]) (.cond Xqy (.seq (.reg [oD 68 (.build [(.int .i64 0),(.int .i64 0),(.bool false),(.int .i64 0),(.int .i64 0),(.bool false),(.int .u64 0),(.int .u64 0),(.bool false),(.int .u64 0),(.int .u64 0),(.string ⟨⟨[]⟩⟩)] []),oN (.store 12 τ2 Xqw),oD 3 (.mv (.const (.string ⟨⟨[]⟩⟩))),oD 4 (.mv (.const (.int .i64 7)))]) .ret) .skip)) (.seq (.reg [oM 69 XcT,oD 70 (.bin .neq Xsf (.const (.int .i64 0))),oD 71 (.fieldA 2 τ7),oN (.store 1 XsA Xsw)]) (.seq XLu (.seq (.reg [oD 80 (.fieldA 0 τ5),oD 81 (.load1 .oth Xyz),oD 82 (.callF 78 [XBO,(.const (.int .i64 2))])]) (.seq XMY (.seq (.reg [oD 89 (.fieldA 0 τ5),oD 90 (.load1 .oth XJQ),oM 91 τ8,oD 92 (.bin .sub XO9 (.const (.int .i64 20))),oD 93 (.callF 129 [XKo,XNL]),oD 94 (.fieldA 11 τ7),oN (.store 1 XNn XKe)]) (.seq XPy .ret)))))))))))))))
def XRA:VFn:=⟨102,Xy6,[.cell 2 [(.int .i64),(.int .i64),.bool,(.int .i64),(.int .i64),.bool,(.int .u64),(.int .u64),.bool,(.int .u64),(.int .u64),.str] true,.tmp 3,.tmp 4]⟩
def XUX:VC:=.seq (.reg [oD 2 (.mv (.const (.pointer none)))]) (.seq (.reg [oM 3 τ0,oD 4 (.build [(.string ⟨⟨[]⟩⟩),(.bool false),(.bool false)] [(0,1,τ3),(1,1,(.const (.bool true)))]),oD 5 (.box τ4),oM 2 τ5]) .ret)
def fn77:VFn:=⟨6,XUX,[.tmp 2]⟩
def XIZ:VC:=.seq (.reg [oD 4 (.mv (.const (.int .i64 0)))]) (.seq (.seq (.reg [oM 7 τ1,oD 8 (.bin .lss τ7 (.const (.int .i64 1))),oM 9 τ8,oG 10 (.mv τ1) 9 false,oG 11 (.bin .gtr XcT (.const (.int .i64 7))) 9 false,oD 12 (.pick τ9 (.const (.bool true)) XcS)]) (.cond Xdr (.reg [oD 1 (.mv (.const (.int .i64 (-1))))]) .skip)) (.seq (.reg [oM 14 τ0,oM 15 τ1,oD 16 (.callF 129 [Xet,Xem]),oM 17 τ1,oD 18 (.callF 95 [XeC,(.const (.int .i64 0)),Xen]),oM 13 XeQ,oE 19 0 XdU,oE 20 1 XdU,oM 5 XeM,oM 6 Xe4]) (.seq (.reg [oM 21 τ5,oD 22 (.conv .i64 Xfw),oM 4 Xfv]) .ret)))
def fn78:VFn:=⟨23,XIZ,[.tmp 4]⟩
def XzN:VC:=.seq (.reg [oD 4 (.mv (.const (.string ⟨⟨[]⟩⟩)))]) (.seq (.seq (.reg [oM 6 τ0,oD 7 (.callF 138 [τ6])]) (.cond τ7 (.seq (.reg [oD 4 (.mv (.const (.string ⟨⟨[]⟩⟩)))]) .ret) .skip)) (.seq (.seq (.reg [oM 8 τ1,oD 9 (.bin .lss τ8 (.const (.int .i64 0))),oM 10 τ9,oG 11 (.mv τ1) 10 false,oG 12 (.mv τ0) 10 false,oG 13 (.nilCheck Xdr) 10 false,oG 14 (.fieldA 0 XdU) 10 false,oG 15 (.load1 .str Xet) 10 false,oG 16 (.lenS Xem) 10 false,oG 17 (.bin .gtr XcS XeC) 10 false,oD 18 (.pick XcT (.const (.bool true)) Xen)]) (.cond XeQ (.seq (.reg [oM 19 τ0,oD 20 (.nilCheck XeM),oD 21 (.fieldA 2 Xe4),oN (.store 1 Xfw (.const (.bool true)))]) (.seq (.reg [oD 4 (.mv (.const (.string ⟨⟨[]⟩⟩)))]) .ret)) .skip)) (.seq (.reg [oM 22 τ0,oD 23 (.nilCheck Xfv),oD 24 (.fieldA 0 Xfs),oD 25 (.load1 .str XfN),oM 26 τ1,oD 27 (.sliceS Xgd none (some Xge)),oM 5 Xgn]) (.seq (.reg [oM 28 τ0,oM 29 τ0,oD 30 (.nilCheck Xgf),oD 31 (.fieldA 0 Xgw),oD 32 (.load1 .str XgO),oM 33 τ1,oD 34 (.sliceS Xg5 (some Xha) none),oD 35 (.nilCheck Xgi),oD 36 (.fieldA 0 Xhq),oN (.store 1 XhU Xhb)]) (.seq (.reg [oM 37 τ5,oM 4 XhT]) .ret)))))
def XU2:VFn:=⟨38,XzN,[.tmp 4]⟩
def XIY:VC:=.seq (.reg [oD 2 (.mv (.const (.bool false)))]) (.seq (.reg [oM 3 τ0,oD 4 (.isNil 0 false τ3),oM 5 τ4,oG 6 (.mv τ0) 5 false,oG 7 (.nilCheck τ6) 5 false,oG 8 (.fieldA 1 τ7) 5 false,oG 9 (.load1 .bool τ8) 5 false,oG 10 (.not τ9) 5 false,oD 11 (.pick τ5 (.const (.bool true)) XcT),oM 12 XcS,oG 13 (.mv τ0) 12 false,oG 14 (.nilCheck XdU) 12 false,oG 15 (.fieldA 2 Xet) 12 false,oG 16 (.load1 .bool Xem) 12 false,oD 17 (.pick Xdr (.const (.bool true)) XeC),oM 2 Xen]) .ret)
def XTe:VFn:=⟨18,XIY,[.tmp 2]⟩
def Xyc:VC:=.seq (.reg [oD 38 (.bin .lss XhT XhU)]) (.seq (.cond Xii .skip (.exit 0)) (.seq (.block 1 (.seq (.reg [oD 39 (.idxAL 1 Xhq XhT),oD 40 (.load1 (.int .u8) XiX),oM 10 Xi4]) (.reg [oM 41 τ8,oD 42 (.bin .shl Xjg (.const (.int .u64 8))),oM 43 XcT,oD 44 (.conv .u64 Xi3),oD 45 (.bin .or XiU XjY),oM 8 XjM]))) (.reg [oD 46 (.bin .add XhT (.const (.int .i64 1))),oM 37 Xke])))
def XJo:VC:=.seq (.reg [oM 47 τ8,oM 6 Xkb,oD 7 (.mv (.const (.bool true)))]) .ret
def XIr:VC:=.seq (.reg [oD 6 (.mv (.const (.int .u64 0))),oD 7 (.mv (.const (.bool false)))]) (.seq (.seq (.reg [oM 11 τ2,oD 12 (.bin .lss XcS (.const (.int .i64 1))),oM 13 Xdr,oG 14 (.mv τ2) 13 false,oG 15 (.bin .gtr Xet (.const (.int .i64 8))) 13 false,oD 16 (.pick XdU (.const (.bool true)) Xem),oM 17 XeC,oG 18 (.mv τ1) 17 false,oG 19 (.bin .lss XeQ (.const (.int .i64 0))) 17 false,oD 20 (.pick Xen (.const (.bool true)) XeM),oM 21 Xe4,oG 22 (.mv τ0) 21 false,oG 23 (.lenS Xfv) 21 false,oG 24 (.mv τ2) 21 false,oG 25 (.bin .sub Xfs XfN) 21 false,oG 26 (.mv τ1) 21 false,oG 27 (.bin .lss Xgd Xge) 21 false,oD 28 (.pick Xfw (.const (.bool true)) Xgn)]) (.cond Xgi (.seq (.reg [oD 6 (.mv (.const (.int .u64 0))),oD 7 (.mv (.const (.bool false)))]) .ret) .skip)) (.seq (.reg [oD 8 (.mv (.const (.int .u64 0)))]) (.seq (.seq (.reg [oM 29 τ0,oM 30 τ1,oM 31 τ1,oM 32 τ2,oD 33 (.bin .add XgO Xg5),oD 34 (.sliceS Xgf (some Xgw) (some Xha)),oD 35 (.s2b Xhb),oD 36 (.lenL Xhq),oD 37 (.mv (.const (.int .i64 0)))]) (.block 0 (.loop Xyc))) XJo)))
def fn95:VFn:=⟨48,XIr,[.tmp 6,.tmp 7]⟩
def XVh:VC:=.seq (.reg [oD 2 (.mv (.const (.bool false)))]) (.seq (.reg [oM 3 τ0,oD 4 (.callF 130 [τ3]),oD 5 (.bin .eql τ4 (.const (.int .i64 65535))),oM 2 τ5]) .ret)
def fn80:VFn:=⟨6,XVh,[.tmp 2]⟩
def XHL:VC:=.seq (.reg [oD 1 (.box τ0),oD 2 (.alloc [(.bool false),(.int .u64 0),(.int .u64 0)])]) (.seq (.reg [oD 6 (.fieldA 0 τ1),oD 7 (.load1 .oth τ6),oD 8 (.callF 129 [τ7,(.const (.int .i64 4))]),oD 9 (.callF 202 [τ8]),oM 5 τ9,oE 10 0 τ5,oE 11 1 τ5,oD 3 (.alloc [(.bool false),(.int .u64 0),(.int .u64 0)]),oN (.store 3 τ3 XcT),oM 4 XcS]) (.seq (.reg [oD 12 (.loadN [.bool,(.int .u64),(.int .u64)] τ3),oN (.store 3 τ2 Xdr)]) .ret))
def XRd:VFn:=⟨13,XHL,[.cell 2 [.bool,(.int .u64),(.int .u64)] true]⟩
def XBi:VC:=.seq (.reg [oD 2 (.alloc [(.bool false),(.int .u64 0),(.int .u64 0)]),oD 3 (.mv (.const (.bool false)))]) (.seq (.seq (.reg [oM 7 τ0,oD 8 (.lenS τ7)]) (.block 0 (.seq (.reg [oD 10 (.bin .eql τ8 (.const (.int .i64 4))),oM 9 XcT]) (.cond τ9 (.seq (.reg [oM 12 τ0,oD 13 (.callF 95 [Xdr,(.const (.int .i64 0)),(.const (.int .i64 4))]),oM 11 XdU,oE 14 0 XcS,oE 15 1 XcS,oM 4 Xet,oM 5 Xem]) (.seq (.reg [oM 16 τ4,oD 17 (.build [(.bool false),(.int .u64 0),(.int .u64 0)] [(2,1,XeC)]),oN (.store 3 τ2 Xen),oD 3 (.mv (.const (.bool true)))]) .ret)) (.seq (.reg [oD 19 (.bin .eql τ8 (.const (.int .i64 16))),oM 18 XeM]) (.cond XeQ (.seq (.reg [oD 20 (.build [(.bool false),(.int .u64 0),(.int .u64 0)] [(0,1,(.const (.bool true)))]),oD 6 (.alloc [(.bool false),(.int .u64 0),(.int .u64 0)]),oN (.store 3 τ6 Xe4)]) (.seq (.reg [oM 22 τ0,oD 23 (.callF 95 [Xfv,(.const (.int .i64 0)),(.const (.int .i64 8))]),oM 21 Xfs,oE 24 0 Xfw,oE 25 1 Xfw,oD 26 (.fieldA 1 τ6),oN (.store 1 Xge XfN)]) (.seq (.reg [oM 28 τ0,oD 29 (.callF 95 [Xgi,(.const (.int .i64 8)),(.const (.int .i64 8))]),oM 27 Xgf,oE 30 0 Xgn,oE 31 1 Xgn,oD 32 (.fieldA 2 τ6),oN (.store 1 Xg5 Xgw)]) (.seq (.reg [oD 33 (.loadN [.bool,(.int .u64),(.int .u64)] τ6),oN (.store 3 τ2 Xha),oD 3 (.mv (.const (.bool true)))]) .ret)))) .skip)))))) (.seq (.reg [oD 34 (.build [(.bool false),(.int .u64 0),(.int .u64 0)] []),oN (.store 3 τ2 Xhb),oD 3 (.mv (.const (.bool false)))]) .ret))
def XUF:VFn:=⟨35,XBi,[.cell 2 [.bool,(.int .u64),(.int .u64)] true,.tmp 3]⟩
def XzK:VC:=.seq (.reg [oD 2 (.alloc [(.int .i64 0),(.int .i64 0),(.int .i64 0),(.int .i64 0),(.bool false),(.int .u64 0),(.int .u64 0),(.bool false),(.int .u64 0),(.int .u64 0)]),oD 3 (.mv (.const (.string ⟨⟨[]⟩⟩))),oD 4 (.mv (.const (.int .i64 0)))]) (.seq (.reg [oM 12 τ0,oD 13 (.callF 77 [Xdr]),oM 5 XdU]) (.seq (.reg [oM 14 τ5,oD 15 (.callF 78 [Xet,(.const (.int .i64 4))]),oM 16 τ5,oD 17 (.callF 78 [XeC,(.const (.int .i64 2))]),oM 6 Xem,oM 7 Xen]) (.seq (.reg [oM 18 τ6,oD 19 (.bin .shr XeQ (.const (.int .u64 20))),oD 20 (.bin .and XeM (.const (.int .i64 255))),oM 21 τ6,oD 22 (.bin .and Xfw (.const (.int .i64 1048575))),oM 23 τ5,oD 24 (.callF 78 [Xfs,(.const (.int .i64 1))]),oM 25 τ5,oD 26 (.callF 78 [Xgd,(.const (.int .i64 1))]),oD 27 (.build [(.int .i64 0),(.int .i64 0),(.int .i64 0),(.int .i64 0),(.bool false),(.int .u64 0),(.int .u64 0),(.bool false),(.int .u64 0),(.int .u64 0)] [(0,1,Xe4),(1,1,Xfv),(2,1,XfN),(3,1,Xge)]),oD 8 (.alloc [(.int .i64 0),(.int .i64 0),(.int .i64 0),(.int .i64 0),(.bool false),(.int .u64 0),(.int .u64 0),(.bool false),(.int .u64 0),(.int .u64 0)]),oN (.store 10 τ8 Xgn)]) (.seq (.reg [oM 28 τ5,oD 29 (.callF 129 [Xgi,(.const (.int .i64 16))]),oM 30 τ5,oD 31 (.callF 129 [Xgw,(.const (.int .i64 16))]),oM 9 Xgf,oM 10 XgO]) (.seq (.seq (.reg [oM 32 τ5,oD 33 (.callF 138 [Xg5])]) (.cond Xha (.seq (.reg [oD 34 (.build [(.int .i64 0),(.int .i64 0),(.int .i64 0),(.int .i64 0),(.bool false),(.int .u64 0),(.int .u64 0),(.bool false),(.int .u64 0),(.int .u64 0)] []),oN (.store 10 τ2 Xhb),oD 3 (.mv (.const (.string ⟨⟨[]⟩⟩))),oD 4 (.mv (.const (.int .i64 2)))]) .ret) .skip)) (.seq (.seq (.reg [oM 35 τ6,oD 36 (.bin .shr Xhq (.const (.int .u64 28))),oD 37 (.bin .neq XhU (.const (.int .i64 6)))]) (.cond XhT (.seq (.reg [oD 38 (.build [(.int .i64 0),(.int .i64 0),(.int .i64 0),(.int .i64 0),(.bool false),(.int .u64 0),(.int .u64 0),(.bool false),(.int .u64 0),(.int .u64 0)] []),oN (.store 10 τ2 Xii),oD 3 (.mv (.const (.string ⟨⟨[]⟩⟩))),oD 4 (.mv (.const (.int .i64 3)))]) .ret) .skip)) (.seq (.reg [oM 40 τ9,oD 41 (.callF 202 [Xi4]),oM 39 Xjg,oE 42 0 XiX,oE 43 1 XiX,oD 44 (.fieldA 4 τ8),oN (.store 3 XjY XiU)]) (.seq (.reg [oM 46 XcT,oD 47 (.callF 202 [Xke]),oM 45 Xkb,oE 48 0 XjM,oE 49 1 XjM,oD 50 (.fieldA 7 τ8),oN (.store 3 XkJ Xkd)]) (.seq (.reg [oM 51 τ5,oM 52 τ7,oD 53 (.callF 129 [Xla,Xk8]),oM 11 Xmo]) (.seq (.seq (.reg [oM 54 τ5,oD 55 (.callF 138 [Xm6])]) (.cond Xmv (.seq (.reg [oD 56 (.build [(.int .i64 0),(.int .i64 0),(.int .i64 0),(.int .i64 0),(.bool false),(.int .u64 0),(.int .u64 0),(.bool false),(.int .u64 0),(.int .u64 0)] []),oN (.store 10 τ2 Xm5),oD 3 (.mv (.const (.string ⟨⟨[]⟩⟩))),oD 4 (.mv (.const (.int .i64 2)))]) .ret) .skip)) (.seq (.reg [oD 57 (.loadN [(.int .i64),(.int .i64),(.int .i64),(.int .i64),.bool,(.int .u64),(.int .u64),.bool,(.int .u64),(.int .u64)] τ8),oM 58 XcS,oN (.store 10 τ2 XmR),oM 3 XmY,oD 4 (.mv (.const (.int .i64 0)))]) .ret)))))))))))
def XVB:VFn:=⟨59,XzK,[.cell 2 [(.int .i64),(.int .i64),(.int .i64),(.int .i64),.bool,(.int .u64),(.int .u64),.bool,(.int .u64),(.int .u64)] true,.tmp 3,.tmp 4]⟩
def XQ7:VC:=.regD [oM 26 τ1,oM 27 τ1,oM 28 τ1,oD 29 (.fieldA 0 τ6),oD 30 (.load1 (.int .i64) Xgf),oD 31 (.fieldA 1 τ6),oD 32 (.load1 (.int .i64) XgO),oD 33 (.fieldA 4 τ6),oD 34 (.load1 (.int .i64) Xha),oD 35 (.nilCheck Xge),oD 36 (.fieldA 0 Xhq),oD 37 (.fieldA 7 XhU),oN (.store 1 XhT Xgw),oD 38 (.nilCheck Xgn),oD 39 (.fieldA 0 Xii),oD 40 (.fieldA 8 XiX),oN (.store 1 Xi4 Xg5)] [(6,12),(8,12),(8,16)] [oD 41 (.nilCheck Xgi),oD 42 (.fieldA 9 Xjg),oN (.store 1 XiU Xhb)]
def Xz7:VC:=.seq (.reg [oD 2 (.box τ0),oD 4 (.mv (.const (.int .i64 0))),oD 5 (.mv (.const (.int .i64 0)))]) (.seq (.reg [oD 13 (.fieldA 7 τ2),oD 14 (.load1 .str XdU),oD 15 (.fieldA 0 τ2),oD 16 (.loadN [.bool,(.int .u64),(.int .u64)] Xem),oD 17 (.fieldA 3 τ2),oD 18 (.loadN [.bool,(.int .u64),(.int .u64)] Xen),oD 19 (.callF 167 [Xet,XeC,XeQ]),oM 12 XeM,oE 20 0 Xdr,oE 21 1 Xdr,oE 22 2 Xdr,oD 6 (.alloc [(.int .i64 0),(.int .i64 0),(.int .u32 0),(.int .u32 0),(.int .i64 0),(.int .i64 0),(.int .i64 0),(.string ⟨⟨[]⟩⟩)]),oN (.store 8 τ6 Xe4),oM 7 Xfw,oM 8 Xfv]) (.seq (.seq (.reg [oM 23 τ8,oD 24 (.bin .neq Xfs (.const (.int .i64 0)))]) (.cond XfN (.seq (.reg [oM 25 τ8,oD 4 (.mv (.const (.int .i64 0))),oM 5 Xgd]) .ret) .skip)) (.seq XQ7 (.seq (.seq (.reg [oD 44 (.fieldA 7 τ6),oD 45 (.load1 .str XjY),oD 46 (.callF 134 [XjM]),oM 43 Xke,oE 47 0 Xi3,oE 48 1 Xi3,oE 49 2 Xi3,oM 9 Xkb,oM 10 Xkd,oM 11 Xkc]) (.seq (.reg [oM 50 XcS,oD 51 (.bin .geq XkJ (.const (.int .i64 0)))]) (.cond Xla (.reg [oM 52 τ1,oM 53 τ1,oM 54 τ1,oM 55 τ9,oM 56 XcT,oD 57 (.nilCheck Xk8),oD 58 (.fieldA 10 XmR),oN (.store 1 XmY (.const (.bool true))),oD 59 (.nilCheck Xmo),oD 60 (.fieldA 11 Xnn),oN (.store 1 Xn5 Xmv),oD 61 (.nilCheck Xm6),oD 62 (.fieldA 12 Xon),oN (.store 1 XoU Xm5)]) .skip))) (.seq (.reg [oM 63 τ7,oD 64 (.lenS Xqr),oM 4 Xqq,oD 5 (.mv (.const (.int .i64 0)))]) .ret)))))
def XUg:VFn:=⟨65,Xz7,[.tmp 4,.tmp 5]⟩
def XR1:VC:=.regD [oM 20 τ0,oD 21 (.idxS Xe4 (.const (.int .i64 12))),oD 22 (.bin .shr Xfw (.const (.int .u64 4))),oD 23 (.conv .i64 Xfv),oM 24 τ0,oD 25 (.idxS XfN (.const (.int .i64 12))),oD 26 (.bin .and Xgd (.const (.int .u8 15))),oM 9 Xfs] [] [oM 10 Xge]
def XLS:VC:=.regD [oD 72 (.loadN [(.int .i64),(.int .i64),(.int .u32),(.int .u32),(.int .i64),(.int .i64),(.int .i64),.str] XdU),oM 73 τ0,oM 74 XcS,oD 75 (.sliceS XtQ (some Xvo) none),oN (.store 8 τ6 Xsx)] [] [oM 7 Xwh,oD 8 (.mv (.const (.int .i64 0)))]
def XzY:VC:=.seq (.reg [oD 4 (.box τ1),oD 5 (.box τ2),oD 6 (.alloc [(.int .i64 0),(.int .i64 0),(.int .u32 0),(.int .u32 0),(.int .i64 0),(.int .i64 0),(.int .i64 0),(.string ⟨⟨[]⟩⟩)]),oD 7 (.mv (.const (.string ⟨⟨[]⟩⟩))),oD 8 (.mv (.const (.int .i64 0)))]) (.seq (.seq (.reg [oM 16 τ0,oD 17 (.lenS XeC),oD 18 (.bin .lss Xen (.const (.int .i64 20)))]) (.cond XeQ (.seq (.reg [oD 19 (.build [(.int .i64 0),(.int .i64 0),(.int .u32 0),(.int .u32 0),(.int .i64 0),(.int .i64 0),(.int .i64 0),(.string ⟨⟨[]⟩⟩)] []),oN (.store 8 τ6 XeM),oD 7 (.mv (.const (.string ⟨⟨[]⟩⟩))),oD 8 (.mv (.const (.int .i64 2)))]) .ret) .skip)) (.seq XR1 (.seq (.reg [oM 27 τ9,oD 28 (.bin .mul (.const (.int .i64 4)) Xgn),oM 11 Xgi]) (.seq (.block 0 (.seq (.reg [oM 30 XcS,oD 31 (.bin .lss Xgw (.const (.int .i64 20))),oM 32 XgO,oG 33 (.mv XcT) 32 false,oG 34 (.bin .neq Xha (.const (.int .u8 0))) 32 false,oD 35 (.pick Xg5 (.const (.bool true)) Xhb),oM 29 Xhq]) (.cond Xgf (.seq (.reg [oD 36 (.build [(.int .i64 0),(.int .i64 0),(.int .u32 0),(.int .u32 0),(.int .i64 0),(.int .i64 0),(.int .i64 0),(.string ⟨⟨[]⟩⟩)] []),oN (.store 8 τ6 XhU),oD 7 (.mv (.const (.string ⟨⟨[]⟩⟩))),oD 8 (.mv (.const (.int .i64 3)))]) .ret) (.seq (.reg [oM 38 XcS,oM 39 τ0,oD 40 (.lenS XiX),oD 41 (.bin .gtr Xii Xi4),oM 37 Xjg]) (.cond XhT (.seq (.reg [oD 42 (.build [(.int .i64 0),(.int .i64 0),(.int .u32 0),(.int .u32 0),(.int .i64 0),(.int .i64 0),(.int .i64 0),(.string ⟨⟨[]⟩⟩)] []),oN (.store 8 τ6 XiU),oD 7 (.mv (.const (.string ⟨⟨[]⟩⟩))),oD 8 (.mv (.const (.int .i64 2)))]) .ret) .skip))))) (.seq (.reg [oD 43 (.loadN [.bool,(.int .u64),(.int .u64)] τ4),oD 44 (.loadN [.bool,(.int .u64),(.int .u64)] τ5),oM 45 τ0,oD 46 (.lenS XjM),oD 47 (.callF 180 [Xi3,XjY,(.const (.int .i64 6)),Xke]),oM 12 Xkb]) (.seq (.block 1 (.seq (.reg [oM 49 Xdr,oD 50 (.bin .eql Xkc (.const (.string ⟨⟨[]⟩⟩))),oM 48 XkJ]) (.cond Xkd (.seq (.reg [oD 51 (.build [(.int .i64 0),(.int .i64 0),(.int .u32 0),(.int .u32 0),(.int .i64 0),(.int .i64 0),(.int .i64 0),(.string ⟨⟨[]⟩⟩)] []),oN (.store 8 τ6 Xla),oD 7 (.mv (.const (.string ⟨⟨[]⟩⟩))),oD 8 (.mv (.const (.int .i64 1)))]) .ret) (.seq (.reg [oM 53 Xdr,oM 54 τ0,oD 55 (.bin .add Xmo Xm6),oD 56 (.callF 80 [Xmv]),oD 57 (.not Xm5),oM 52 XmR]) (.cond Xk8 (.seq (.reg [oD 58 (.build [(.int .i64 0),(.int .i64 0),(.int .u32 0),(.int .u32 0),(.int .i64 0),(.int .i64 0),(.int .i64 0),(.string ⟨⟨[]⟩⟩)] []),oN (.store 8 τ6 XmY),oD 7 (.mv (.const (.string ⟨⟨[]⟩⟩))),oD 8 (.mv (.const (.int .i64 4)))]) .ret) .skip))))) (.seq (.reg [oM 59 τ0,oM 60 XcS,oD 61 (.callF 192 [Xnn,Xn5]),oD 13 (.alloc [(.int .i64 0),(.int .i64 0),(.int .u32 0),(.int .u32 0),(.int .i64 0),(.int .i64 0),(.int .i64 0),(.string ⟨⟨[]⟩⟩)]),oN (.store 8 XdU Xon)]) (.seq (.seq (.reg [oD 63 (.fieldA 7 XdU),oD 64 (.load1 .str Xqr),oD 65 (.callF 169 [Xqq]),oM 62 Xq4,oE 66 0 XoU,oE 67 1 XoU,oM 14 XqY,oM 15 Xqy]) (.seq (.reg [oM 68 Xem,oD 69 (.bin .neq Xqw (.const (.int .i64 0)))]) (.cond Xsf (.seq (.reg [oD 70 (.build [(.int .i64 0),(.int .i64 0),(.int .u32 0),(.int .u32 0),(.int .i64 0),(.int .i64 0),(.int .i64 0),(.string ⟨⟨[]⟩⟩)] []),oM 71 Xem,oN (.store 8 τ6 Xsw),oD 7 (.mv (.const (.string ⟨⟨[]⟩⟩))),oM 8 XsA]) .ret) .skip))) (.seq XLS .ret)))))))))
def XTq:VFn:=⟨76,XzY,[.cell 6 [(.int .i64),(.int .i64),(.int .u32),(.int .u32),(.int .i64),(.int .i64),(.int .i64),.str] true,.tmp 7,.tmp 8]⟩
def XyG:VC:=.seq (.reg [oD 4 (.alloc [(.int .i64 0),(.int .i64 0),(.int .u32 0),(.int .u32 0),(.int .i64 0),(.int .i64 0),(.int .i64 0),(.string ⟨⟨[]⟩⟩)])]) (.seq (.reg [oM 7 τ0,oD 8 (.callF 77 [τ7]),oM 5 τ8]) (.seq (.reg [oM 9 τ5,oD 10 (.callF 78 [τ9,(.const (.int .i64 2))]),oM 11 τ5,oD 12 (.callF 78 [XcS,(.const (.int .i64 2))]),oM 13 τ5,oD 14 (.callF 78 [XdU,(.const (.int .i64 4))]),oD 15 (.conv .u32 Xet),oM 16 τ5,oD 17 (.callF 78 [XeC,(.const (.int .i64 4))]),oD 18 (.conv .u32 Xen),oD 19 (.build [(.int .i64 0),(.int .i64 0),(.int .u32 0),(.int .u32 0),(.int .i64 0),(.int .i64 0),(.int .i64 0),(.string ⟨⟨[]⟩⟩)] [(0,1,XcT),(1,1,Xdr),(2,1,Xem),(3,1,XeQ)]),oD 6 (.alloc [(.int .i64 0),(.int .i64 0),(.int .u32 0),(.int .u32 0),(.int .i64 0),(.int .i64 0),(.int .i64 0),(.string ⟨⟨[]⟩⟩)]),oN (.store 8 τ6 XeM)]) (.seq (.reg [oM 20 τ5,oD 21 (.callF 78 [Xe4,(.const (.int .i64 2))]),oD 22 (.bin .and Xfw (.const (.int .i64 255))),oD 23 (.fieldA 4 τ6),oN (.store 1 Xfs Xfv)]) (.seq (.reg [oM 24 τ5,oD 25 (.callF 78 [XfN,(.const (.int .i64 2))]),oD 26 (.fieldA 5 τ6),oN (.store 1 Xge Xgd)]) (.seq (.reg [oM 27 τ5,oD 28 (.callF 78 [Xgn,(.const (.int .i64 2))])]) (.seq (.reg [oM 29 τ5,oD 30 (.callF 78 [Xgf,(.const (.int .i64 2))]),oD 31 (.fieldA 6 τ6),oN (.store 1 XgO Xgw)]) (.seq (.reg [oM 32 τ5,oM 33 τ1,oD 34 (.bin .sub Xha (.const (.int .i64 20))),oD 35 (.callF 129 [Xg5,Xhb]),oD 36 (.fieldA 7 τ6),oN (.store 1 XhU Xhq)]) (.seq (.reg [oD 37 (.loadN [(.int .i64),(.int .i64),(.int .u32),(.int .u32),(.int .i64),(.int .i64),(.int .i64),.str] τ6),oN (.store 8 τ4 XhT)]) .ret))))))))
def XUt:VFn:=⟨38,XyG,[.cell 4 [(.int .i64),(.int .i64),(.int .u32),(.int .u32),(.int .i64),(.int .i64),(.int .i64),.str] true]⟩
def XIR:VC:=.reg [oD 5 (.alloc [(.int .i64 0),(.string ⟨⟨[]⟩⟩),(.int .i64 0)]),oN (.store 3 τ5 τ8)]
def Xx7:VC:=.block 1 (.seq (.seq (.reg [oD 9 (.fieldA 2 τ5),oD 10 (.load1 (.int .i64) τ9),oD 11 (.bin .lss XcT (.const (.int .i64 0)))]) (.cond XcS (.seq (.reg [oN (.store 1 τ2 (.const (.slice none 0 0))),oN (.store 1 τ3 (.const (.int .i64 3)))]) .ret) .skip)) (.reg [oD 12 (.load1 .oth τ4),oD 13 (.fieldA 0 τ5),oD 14 (.loadN [(.int .i64),.str] XdU),oD 15 (.buildSl 1 2 [(.int .i64 0),(.string ⟨⟨[]⟩⟩)] [(0,2,Xet)]),oD 16 (.app 241 2 24 Xdr Xem),oN (.store 1 τ4 XeC)]))
def XLI:VC:=.rangeF τ7 [8] XIR Xx7
def Xz5:VC:=.seq (.reg [oD 17 (.load1 .oth τ4),oN (.store 1 τ2 Xen),oN (.store 1 τ3 (.const (.int .i64 0)))]) .ret
def XyU:VC:=.seq (.reg [oD 2 (.alloc [(.slice none 0 0)]),oD 3 (.alloc [(.int .i64 0)])]) (.seq (.reg [oD 4 (.alloc [(.slice none 0 0)])]) (.seq (.seq (.reg [oM 6 τ0,oD 7 (.callF 170 [τ6])]) (.block 0 XLI)) Xz5))
def XWC:VFn:=⟨18,XyU,[.cell 2 [.oth] false,.cell 3 [(.int .i64)] false]⟩
def XTO:VC:=.seq (.reg [oD 1 (.box τ0),oM 2 (.const .nilFunc)]) (.seq (.reg [oD 3 (.mkFunc 193 [] [τ1]),oM 2 τ3]) .ret)
def XR9:VFn:=⟨4,XTO,[.tmp 2]⟩
def XOL:VC:=.regD [oM 41 τ0,oD 42 (.load1 .str τ1),oM 43 τ3,oD 44 (.idxS XiU Xi3),oD 45 (.conv .i64 XjY),oD 46 (.load1 .str τ1),oM 47 τ3,oD 48 (.bin .add Xkb (.const (.int .i64 2))),oM 49 τ3,oM 50 τ4,oD 51 (.bin .add Xkc XkJ),oD 52 (.sliceS Xke (some Xkd) (some Xla)),oD 53 (.build [(.int .i64 0),(.string ⟨⟨[]⟩⟩)] [(0,1,XjM),(1,1,Xk8)]),oM 54 τ3,oD 55 (.bin .add Xm6 (.const (.int .i64 2))),oD 56 (.build [(.int .i64 0),(.string ⟨⟨[]⟩⟩),(.int .i64 0)] [(0,2,Xmo),(2,1,Xmv)])] [] [oD 57 (.callV Xjg [Xm5]),oD 58 (.not XmR)]
def XpT:VC:=.seq (.seq (.reg [oM 5 τ3,oD 6 (.load1 .str τ1),oD 7 (.lenS τ6),oD 8 (.bin .lss τ5 τ7)]) (.cond τ8 .skip (.exit 0))) (.block 1 (.seq (.seq (.reg [oD 9 (.load1 .str τ1),oM 10 τ3,oD 11 (.idxS τ9 XcT)]) (.block 2 (.seq (.reg [oD 13 (.bin .eql XcS (.const (.int .u8 0))),oM 12 XdU]) (.cond Xdr .ret (.seq (.reg [oD 15 (.bin .eql XcS (.const (.int .u8 1))),oM 14 Xem]) (.cond Xet (.seq (.reg [oM 16 τ3,oD 17 (.bin .add XeC (.const (.int .i64 1))),oM 3 Xen]) (.exit 1)) .skip)))))) (.seq (.reg [oD 4 (.mv (.const (.int .i64 0)))]) (.seq (.seq (.reg [oM 18 τ3,oD 19 (.bin .add XeQ (.const (.int .i64 1))),oD 20 (.load1 .str τ1),oD 21 (.lenS Xe4),oD 22 (.bin .lss XeM Xfw)]) (.cond Xfv (.reg [oD 23 (.load1 .str τ1),oM 24 τ3,oD 25 (.bin .add XfN (.const (.int .i64 1))),oD 26 (.idxS Xfs Xgd),oD 27 (.conv .i64 Xge),oM 4 Xgn]) .skip)) (.seq (.seq (.reg [oM 28 τ4,oD 29 (.bin .lss Xgi (.const (.int .i64 2))),oM 30 Xgf,oG 31 (.mv τ4) 30 false,oG 32 (.load1 .str τ1) 30 false,oG 33 (.lenS Xg5) 30 false,oG 34 (.mv τ3) 30 false,oG 35 (.bin .sub Xha Xhb) 30 false,oG 36 (.bin .gtr XgO Xhq) 30 false,oD 37 (.pick Xgw (.const (.bool true)) XhU)]) (.cond XhT (.seq (.reg [oM 38 τ0,oD 39 (.build [(.int .i64 0),(.string ⟨⟨[]⟩⟩),(.int .i64 0)] [(2,1,(.const (.int .i64 (-1))))]),oD 40 (.callV Xii [XiX])]) .ret) .skip)) (.seq (.seq XOL (.cond XmY .ret .skip)) (.reg [oM 59 τ3,oM 60 τ4,oD 61 (.bin .add Xnn Xn5),oM 3 Xon])))))))
def XOM:VC:=.seq (.reg [oD 3 (.mv (.const (.int .i64 0)))]) (.block 0 (.loop XpT))
def XVC:VFn:=⟨62,XOM,[]⟩
def XIh:VC:=.reg [oD 7 (.alloc [(.int .i64 0),(.string ⟨⟨[]⟩⟩),(.int .i64 0)]),oN (.store 3 τ7 XeM)]
def XNs:VC:=.regD [oM 39 τ8,oD 40 (.bin .shr XiX (.const (.int .u64 32))),oD 41 (.conv .u32 Xi4),oM 42 τ8,oD 43 (.conv .u32 XiU),oD 44 (.fieldA 2 τ7),oD 45 (.load1 (.int .i64) XjY),oN (.store 1 τ2 Xjg),oN (.store 1 τ3 Xi3)] [(6,7),(6,8)] [oN (.store 1 τ4 XjM)]
def XAf:VC:=.block 1 (.seq (.seq (.reg [oD 20 (.fieldA 0 τ7),oD 21 (.fieldA 0 Xe4),oD 22 (.load1 (.int .i64) Xfw),oD 23 (.bin .neq Xfv (.const (.int .i64 8)))]) (.cond Xfs (.exit 1) .skip)) (.seq (.seq (.reg [oD 25 (.fieldA 0 τ7),oD 26 (.fieldA 1 Xgd),oD 27 (.load1 .str Xge),oD 28 (.callF 95 [Xgn,(.const (.int .i64 0)),(.const (.int .i64 8))]),oM 24 Xgi,oE 29 0 XfN,oE 30 1 XfN,oM 8 Xgf,oM 9 Xgw]) (.seq (.reg [oM 31 τ9,oM 32 XgO,oG 33 (.fieldA 0 τ7) 32 true,oG 34 (.fieldA 1 Xha) 32 true,oG 35 (.load1 .str Xhb) 32 true,oG 36 (.lenS Xhq) 32 true,oG 37 (.bin .eql XhU (.const (.int .i64 8))) 32 true,oD 38 (.pick Xg5 XhT (.const (.bool false)))]) (.cond Xii (.seq XNs .ret) .skip))) (.exit 0)))
def XKX:VC:=.rangeF XeQ [19] XIh XAf
def XBc:VC:=.seq (.reg [oN (.store 1 τ2 (.const (.int .u32 0))),oN (.store 1 τ3 (.const (.int .u32 0))),oN (.store 1 τ4 (.const (.int .i64 (-1))))]) .ret
def XAq:VC:=.seq (.reg [oD 2 (.alloc [(.int .u32 0)]),oD 3 (.alloc [(.int .u32 0)]),oD 4 (.alloc [(.int .i64 0)])]) (.seq (.seq (.reg [oM 11 τ0,oD 12 (.callF 169 [XcS]),oM 10 Xdr,oE 13 0 XcT,oE 14 1 XcT,oM 5 XdU,oM 6 Xet]) (.seq (.reg [oM 15 τ6,oD 16 (.bin .neq Xem (.const (.int .i64 0)))]) (.cond XeC (.seq (.reg [oN (.store 1 τ2 (.const (.int .u32 0))),oN (.store 1 τ3 (.const (.int .u32 0))),oN (.store 1 τ4 (.const (.int .i64 (-1))))]) .ret) .skip))) (.seq (.seq (.reg [oM 17 τ0,oD 18 (.callF 170 [Xen])]) (.block 0 XKX)) XBc))
def XWt:VFn:=⟨46,XAq,[.cell 2 [(.int .u32)] false,.cell 3 [(.int .u32)] false,.cell 4 [(.int .i64)] false]⟩
def XPO:VC:=.regD [oM 34 τ1,oM 35 τ1,oD 36 (.fieldA 0 τ6),oD 37 (.load1 (.int .i64) XhU),oD 38 (.fieldA 1 τ6),oD 39 (.load1 (.int .i64) Xii),oD 40 (.nilCheck Xhb),oD 41 (.fieldA 0 Xi4),oD 42 (.fieldA 7 Xjg),oN (.store 1 XiU XhT)] [(5,9)] [oD 43 (.nilCheck Xhq),oD 44 (.fieldA 0 Xi3),oD 45 (.fieldA 8 XjY),oN (.store 1 XjM XiX)]
def XKq:VC:=.regD [oM 53 τ1,oM 54 τ1,oD 55 (.fieldA 0 τ9),oD 56 (.load1 .bool Xmv),oD 57 (.fieldA 3 τ9),oD 58 (.load1 .str XmR),oD 59 (.nilCheck Xmo),oD 60 (.fieldA 13 Xnn),oN (.store 1 Xn5 Xm5)] [(5,8)] [oD 61 (.nilCheck Xm6),oD 62 (.fieldA 14 Xon),oN (.store 1 XoU XmY)]
def Xx1:VC:=.seq (.reg [oD 2 (.box τ0),oD 4 (.mv (.const (.int .i64 0))),oD 5 (.mv (.const (.int .i64 0)))]) (.seq (.reg [oD 12 (.fieldA 7 τ2),oD 13 (.load1 .str Xdr),oD 14 (.fieldA 0 τ2),oD 15 (.loadN [.bool,(.int .u64),(.int .u64)] Xet),oD 16 (.fieldA 3 τ2),oD 17 (.loadN [.bool,(.int .u64),(.int .u64)] XeC),oD 18 (.callF 168 [XdU,Xem,Xen]),oM 11 XeQ,oE 19 0 XcS,oE 20 1 XcS,oE 21 2 XcS,oD 6 (.alloc [(.int .i64 0),(.int .i64 0)]),oN (.store 2 τ6 XeM),oM 7 Xe4,oM 8 Xfw]) (.seq (.block 0 (.seq (.reg [oM 23 τ8,oD 24 (.bin .neq Xfs (.const (.int .i64 0))),oM 22 XfN]) (.cond Xfv (.seq (.reg [oM 25 τ8,oD 4 (.mv (.const (.int .i64 0))),oM 5 Xgd]) .ret) (.seq (.reg [oM 27 τ7,oD 28 (.lenS Xgn),oD 29 (.fieldA 7 τ2),oD 30 (.load1 .str Xgf),oD 31 (.lenS Xgw),oD 32 (.bin .sub XgO (.const (.int .i64 8))),oD 33 (.bin .neq Xgi Xg5),oM 26 Xha]) (.cond Xge (.seq (.reg [oD 4 (.mv (.const (.int .i64 0))),oD 5 (.mv (.const (.int .i64 5)))]) .ret) .skip))))) (.seq XPO (.seq (.seq (.reg [oM 47 τ7,oD 48 (.callF 94 [Xkb]),oM 46 Xkd,oE 49 0 Xke,oE 50 1 Xke,oD 9 (.alloc [(.bool false),(.int .i64 0),(.int .u32 0),(.string ⟨⟨[]⟩⟩),(.string ⟨⟨[]⟩⟩),(.string ⟨⟨[]⟩⟩)]),oN (.store 6 τ9 Xkc),oM 10 XkJ]) (.seq (.reg [oM 51 XcT,oD 52 (.bin .eql Xla (.const (.int .i64 0)))]) (.cond Xk8 XKq .skip))) (.seq (.reg [oM 63 τ7,oD 64 (.lenS Xqr),oM 4 Xqq,oD 5 (.mv (.const (.int .i64 0)))]) .ret)))))
def XSx:VFn:=⟨65,Xx1,[.tmp 4,.tmp 5]⟩
def XN0:VC:=.regD [oD 66 (.loadN [(.int .i64),(.int .i64)] XcT),oM 67 τ0,oM 68 XcS,oD 69 (.sliceS Xqy (some (.const (.int .i64 8))) (some Xqw)),oN (.store 2 τ6 XqY)] [] [oM 7 Xsf,oD 8 (.mv (.const (.int .i64 0)))]
def XyB:VC:=.seq (.reg [oD 4 (.box τ1),oD 5 (.box τ2),oD 6 (.alloc [(.int .i64 0),(.int .i64 0)]),oD 7 (.mv (.const (.string ⟨⟨[]⟩⟩))),oD 8 (.mv (.const (.int .i64 0)))]) (.seq (.reg [oM 14 τ0,oD 15 (.callF 77 [Xet]),oM 9 Xem]) (.seq (.reg [oM 16 τ9,oD 17 (.callF 78 [XeC,(.const (.int .i64 2))]),oM 18 τ9,oD 19 (.callF 78 [XeQ,(.const (.int .i64 2))]),oD 20 (.build [(.int .i64 0),(.int .i64 0)] [(0,1,Xen),(1,1,XeM)]),oD 10 (.alloc [(.int .i64 0),(.int .i64 0)]),oN (.store 2 XcT Xe4)]) (.seq (.reg [oM 21 τ9,oD 22 (.callF 78 [Xfw,(.const (.int .i64 2))]),oM 23 τ9,oD 24 (.callF 78 [Xfs,(.const (.int .i64 2))]),oM 11 Xfv,oM 12 XfN]) (.seq (.block 0 (.seq (.reg [oM 26 τ9,oD 27 (.callF 138 [Xge]),oM 25 Xgn]) (.cond Xgd (.seq (.reg [oD 28 (.build [(.int .i64 0),(.int .i64 0)] []),oN (.store 2 τ6 Xgi),oD 7 (.mv (.const (.string ⟨⟨[]⟩⟩))),oD 8 (.mv (.const (.int .i64 2)))]) .ret) (.seq (.reg [oM 30 XcS,oD 31 (.bin .lss Xgw (.const (.int .i64 8))),oM 29 XgO]) (.cond Xgf (.seq (.reg [oD 32 (.build [(.int .i64 0),(.int .i64 0)] []),oN (.store 2 τ6 Xg5),oD 7 (.mv (.const (.string ⟨⟨[]⟩⟩))),oD 8 (.mv (.const (.int .i64 3)))]) .ret) (.seq (.reg [oM 34 XcS,oM 35 τ0,oD 36 (.lenS Xhq),oD 37 (.bin .gtr Xhb XhU),oM 33 XhT]) (.cond Xha (.seq (.reg [oD 38 (.build [(.int .i64 0),(.int .i64 0)] []),oN (.store 2 τ6 Xii),oD 7 (.mv (.const (.string ⟨⟨[]⟩⟩))),oD 8 (.mv (.const (.int .i64 2)))]) .ret) .skip))))))) (.seq (.reg [oD 39 (.loadN [.bool,(.int .u64),(.int .u64)] τ4),oD 40 (.loadN [.bool,(.int .u64),(.int .u64)] τ5),oM 41 XcS,oD 42 (.callF 180 [XiX,Xi4,(.const (.int .i64 17)),Xjg]),oM 13 XiU]) (.seq (.block 1 (.seq (.reg [oM 44 XdU,oD 45 (.bin .eql XjY (.const (.string ⟨⟨[]⟩⟩))),oM 43 XjM]) (.cond Xi3 (.seq (.reg [oD 46 (.build [(.int .i64 0),(.int .i64 0)] []),oN (.store 2 τ6 Xke),oD 7 (.mv (.const (.string ⟨⟨[]⟩⟩))),oD 8 (.mv (.const (.int .i64 1)))]) .ret) (.seq (.seq (.reg [oM 48 Xdr,oD 49 (.bin .eql Xkd (.const (.int .i64 0))),oM 50 Xkc,oG 51 (.fieldA 0 τ4) 50 true,oG 52 (.load1 .bool Xla) 50 true,oD 53 (.pick XkJ Xk8 (.const (.bool false))),oM 47 Xmo]) (.cond Xkb .skip (.reg [oM 54 Xdr,oD 55 (.bin .neq Xm6 (.const (.int .i64 0))),oM 56 Xmv,oG 57 (.mv XdU) 56 true,oG 58 (.mv τ0) 56 true,oG 59 (.mv XcS) 56 true,oG 60 (.sliceS XmY none (some Xnn)) 56 true,oG 61 (.bin .add XmR Xn5) 56 true,oG 62 (.callF 80 [Xon]) 56 true,oG 63 (.not XoU) 56 true,oD 64 (.pick Xm5 Xqr (.const (.bool false))),oM 47 Xqq]))) (.cond Xkb (.seq (.reg [oD 65 (.build [(.int .i64 0),(.int .i64 0)] []),oN (.store 2 τ6 Xq4),oD 7 (.mv (.const (.string ⟨⟨[]⟩⟩))),oD 8 (.mv (.const (.int .i64 4)))]) .ret) .skip))))) (.seq XN0 .ret)))))))
def XRL:VFn:=⟨70,XyB,[.cell 6 [(.int .i64),(.int .i64)] true,.tmp 7,.tmp 8]⟩
def XI4:VC:=.seq (.reg [oD 2 (.alloc [(.bool false),(.int .i64 0),(.int .u32 0),(.string ⟨⟨[]⟩⟩),(.string ⟨⟨[]⟩⟩),(.string ⟨⟨[]⟩⟩)]),oD 3 (.mv (.const (.int .i64 0)))]) (.seq (.reg [oM 9 τ0,oD 10 (.callF 77 [τ9]),oM 4 XcT]) (.seq (.reg [oM 11 τ4,oD 12 (.callF 78 [XcS,(.const (.int .i64 1))]),oM 5 Xdr]) (.seq (.block 0 (.seq (.reg [oM 14 τ4,oD 15 (.callF 138 [Xet]),oM 13 Xem]) (.cond XdU (.seq (.reg [oD 16 (.build [(.bool false),(.int .i64 0),(.int .u32 0),(.string ⟨⟨[]⟩⟩),(.string ⟨⟨[]⟩⟩),(.string ⟨⟨[]⟩⟩)] []),oN (.store 6 τ2 XeC),oD 3 (.mv (.const (.int .i64 2)))]) .ret) (.seq (.reg [oM 18 τ5,oD 19 (.bin .and XeQ (.const (.int .i64 64))),oD 20 (.bin .eql XeM (.const (.int .i64 0))),oM 17 Xe4]) (.cond Xen (.seq (.reg [oD 21 (.build [(.bool false),(.int .i64 0),(.int .u32 0),(.string ⟨⟨[]⟩⟩),(.string ⟨⟨[]⟩⟩),(.string ⟨⟨[]⟩⟩)] []),oN (.store 6 τ2 Xfw),oD 3 (.mv (.const (.int .i64 3)))]) .ret) .skip))))) (.seq (.reg [oM 22 τ5,oD 23 (.bin .and Xfv (.const (.int .i64 128))),oD 24 (.bin .neq Xfs (.const (.int .i64 0))),oM 25 τ5,oD 26 (.bin .and Xgd (.const (.int .i64 63))),oD 27 (.build [(.bool false),(.int .i64 0),(.int .u32 0),(.string ⟨⟨[]⟩⟩),(.string ⟨⟨[]⟩⟩),(.string ⟨⟨[]⟩⟩)] [(0,1,XfN),(1,1,Xge)]),oD 6 (.alloc [(.bool false),(.int .i64 0),(.int .u32 0),(.string ⟨⟨[]⟩⟩),(.string ⟨⟨[]⟩⟩),(.string ⟨⟨[]⟩⟩)]),oN (.store 6 τ6 Xgn)]) (.seq (.seq (.reg [oD 28 (.fieldA 0 τ6),oD 29 (.load1 .bool Xgi),oD 30 (.not Xgf)]) (.cond Xgw (.seq (.reg [oM 31 τ4,oD 32 (.mkFunc 129 [XgO] []),oM 7 Xg5]) (.seq (.seq (.reg [oM 33 τ7,oD 34 (.callV Xha [(.const (.int .i64 8))]),oD 35 (.fieldA 3 τ6),oN (.store 1 Xhq Xhb)]) (.seq (.reg [oM 36 τ4,oD 37 (.callF 138 [XhU])]) (.cond XhT (.seq (.reg [oD 38 (.build [(.bool false),(.int .i64 0),(.int .u32 0),(.string ⟨⟨[]⟩⟩),(.string ⟨⟨[]⟩⟩),(.string ⟨⟨[]⟩⟩)] []),oN (.store 6 τ2 Xii),oD 3 (.mv (.const (.int .i64 2)))]) .ret) .skip))) (.seq (.reg [oM 39 τ4,oD 40 (.callF 139 [XiX]),oD 41 (.fieldA 5 τ6),oN (.store 1 Xjg Xi4)]) (.seq (.reg [oD 42 (.loadN [.bool,(.int .i64),(.int .u32),.str,.str,.str] τ6),oN (.store 6 τ2 XiU),oD 3 (.mv (.const (.int .i64 0)))]) .ret)))) .skip)) (.seq (.reg [oM 43 τ4,oD 44 (.callF 78 [Xi3,(.const (.int .i64 4))]),oD 45 (.conv .u32 XjY),oD 46 (.fieldA 2 τ6),oN (.store 1 Xke XjM)]) (.seq (.seq (.reg [oM 47 τ4,oD 48 (.fieldA 3 τ6),oD 49 (.fieldA 4 τ6),oD 50 (.buildSl 2 1 [(.pointer none),(.pointer none)] [(0,1,Xkd),(1,1,Xkc)]),oD 51 (.callF 140 [(.func 141),Xkb,XkJ]),oM 8 Xla]) (.seq (.reg [oM 52 τ8,oD 53 (.bin .neq Xk8 (.const (.int .i64 0)))]) (.cond Xmo (.seq (.reg [oD 54 (.build [(.bool false),(.int .i64 0),(.int .u32 0),(.string ⟨⟨[]⟩⟩),(.string ⟨⟨[]⟩⟩),(.string ⟨⟨[]⟩⟩)] []),oM 55 τ8,oN (.store 6 τ2 Xm6),oM 3 Xmv]) .ret) .skip))) (.seq (.reg [oM 56 τ4,oD 57 (.callF 139 [Xm5]),oD 58 (.fieldA 5 τ6),oN (.store 1 XmY XmR)]) (.seq (.reg [oD 59 (.loadN [.bool,(.int .i64),(.int .u32),.str,.str,.str] τ6),oN (.store 6 τ2 Xnn),oD 3 (.mv (.const (.int .i64 0)))]) .ret)))))))))
def fn94:VFn:=⟨60,XI4,[.cell 2 [.bool,(.int .i64),(.int .u32),.str,.str,.str] true,.tmp 3]⟩
def XIH:VC:=.seq (.reg [oD 2 (.mv (.const (.string ⟨⟨[]⟩⟩)))]) (.seq (.seq (.reg [oM 3 τ0,oD 4 (.callF 138 [τ3])]) (.cond τ4 (.seq (.reg [oD 2 (.mv (.const (.string ⟨⟨[]⟩⟩)))]) .ret) .skip)) (.seq (.reg [oM 5 τ0,oM 6 τ0,oD 7 (.nilCheck τ6),oD 8 (.fieldA 0 τ7),oD 9 (.load1 .str τ8),oD 10 (.lenS τ9),oD 11 (.callF 129 [τ5,XcT]),oM 2 XcS]) .ret))
def XTP:VFn:=⟨12,XIH,[.tmp 2]⟩
def XKM:VC:=.seq (.reg [oD 6 (.mv (.const (.int .i64 0)))]) (.seq (.seq (.reg [oM 11 τ2,oD 12 (.lenL XcS),oD 13 (.mv (.const (.int .i64 0)))]) (.block 0 (.loop (.seq (.reg [oD 14 (.bin .lss XdU Xdr)]) (.seq (.cond Xet .skip (.exit 0)) (.seq (.block 1 (.seq (.reg [oD 15 (.idxAL 1 XcS XdU),oD 16 (.load1 .oth Xem),oM 8 XeC]) (.seq (.reg [oM 18 τ0,oM 19 τ1,oD 20 (.callV XeQ [XeM]),oM 17 Xe4,oE 21 0 Xen,oE 22 1 Xen,oM 9 Xfw,oM 10 Xfv]) (.seq (.seq (.reg [oM 23 XcT,oD 24 (.bin .neq Xfs (.const (.int .i64 0)))]) (.cond XfN (.seq (.reg [oM 25 XcT,oM 6 Xgd]) .ret) .skip)) (.reg [oM 26 τ8,oM 27 τ9,oD 28 (.nilCheck Xge),oN (.store 1 Xgi Xgn)]))))) (.reg [oD 29 (.bin .add XdU (.const (.int .i64 1))),oM 13 Xgf]))))))) (.seq (.reg [oD 6 (.mv (.const (.int .i64 0)))]) .ret))
def XUm:VFn:=⟨30,XKM,[.tmp 6]⟩
theorem XS7:(Tryz.prog.funcs[6]?).bind (XaA Tryz.prog)=some fn6:=by kernel_rfl
theorem XK1:(Tryz.prog.funcs[31]?).bind (XaA Tryz.prog)=some fn31:=by kernel_rfl
theorem XKn:(Tryz.prog.funcs[32]?).bind (XaA Tryz.prog)=some fn32:=by kernel_rfl
theorem XP6:(Tryz.prog.funcs[33]?).bind (XaA Tryz.prog)=some fn33:=by kernel_rfl
theorem XKA:(Tryz.prog.funcs[67]?).bind (XaA Tryz.prog)=some fn67:=by kernel_rfl
theorem XHm:(Tryz.prog.funcs[109]?).bind (XaA Tryz.prog)=some XSA:=by kernel_rfl
theorem XE7:(Tryz.prog.funcs[110]?).bind (XaA Tryz.prog)=some XWE:=by kernel_rfl
theorem XNv:(Tryz.prog.funcs[68]?).bind (XaA Tryz.prog)=some fn68:=by kernel_rfl
theorem XEh:(Tryz.prog.funcs[111]?).bind (XaA Tryz.prog)=some XSE:=by kernel_rfl
theorem XEj:(Tryz.prog.funcs[155]?).bind (XaA Tryz.prog)=some XSF:=by kernel_rfl
theorem XCM:(Tryz.prog.funcs[156]?).bind (XaA Tryz.prog)=some XSj:=by kernel_rfl
theorem XEM:(Tryz.prog.funcs[112]?).bind (XaA Tryz.prog)=some XQL:=by kernel_rfl
theorem XFm:(Tryz.prog.funcs[157]?).bind (XaA Tryz.prog)=some XUM:=by kernel_rfl
theorem XF5:(Tryz.prog.funcs[113]?).bind (XaA Tryz.prog)=some XUK:=by kernel_rfl
theorem XHH:(Tryz.prog.funcs[158]?).bind (XaA Tryz.prog)=some XUO:=by kernel_rfl
theorem XHh:(Tryz.prog.funcs[159]?).bind (XaA Tryz.prog)=some XSP:=by kernel_rfl
theorem XCj:(Tryz.prog.funcs[114]?).bind (XaA Tryz.prog)=some XRG:=by kernel_rfl
theorem XGj:(Tryz.prog.funcs[115]?).bind (XaA Tryz.prog)=some XU7:=by kernel_rfl
theorem XE6:(Tryz.prog.funcs[116]?).bind (XaA Tryz.prog)=some XSz:=by kernel_rfl
theorem XMI:(Tryz.prog.funcs[69]?).bind (XaA Tryz.prog)=some fn69:=by kernel_rfl
theorem XDT:(Tryz.prog.funcs[117]?).bind (XaA Tryz.prog)=some XVN:=by kernel_rfl
theorem XCG:(Tryz.prog.funcs[119]?).bind (XaA Tryz.prog)=some XWu:=by kernel_rfl
theorem XMX:(Tryz.prog.funcs[97]?).bind (XaA Tryz.prog)=some fn97:=by kernel_rfl
theorem XGM:(Tryz.prog.funcs[118]?).bind (XaA Tryz.prog)=some XUf:=by kernel_rfl
theorem XCx:(Tryz.prog.funcs[160]?).bind (XaA Tryz.prog)=some XRT:=by kernel_rfl
theorem XCs:(Tryz.prog.funcs[180]?).bind (XaA Tryz.prog)=some XWa:=by kernel_rfl
theorem XGT:(Tryz.prog.funcs[195]?).bind (XaA Tryz.prog)=some XTB:=by kernel_rfl
theorem XFy:(Tryz.prog.funcs[196]?).bind (XaA Tryz.prog)=some XWl:=by kernel_rfl
theorem XEE:(Tryz.prog.funcs[181]?).bind (XaA Tryz.prog)=some XVt:=by kernel_rfl
theorem XCn:(Tryz.prog.funcs[197]?).bind (XaA Tryz.prog)=some XQU:=by kernel_rfl
theorem XB2:(Tryz.prog.funcs[182]?).bind (XaA Tryz.prog)=some XTA:=by kernel_rfl
theorem XHi:(Tryz.prog.funcs[183]?).bind (XaA Tryz.prog)=some XTV:=by kernel_rfl
theorem XHz:(Tryz.prog.funcs[130]?).bind (XaA Tryz.prog)=some XUB:=by kernel_rfl
theorem XFb:(Tryz.prog.funcs[164]?).bind (XaA Tryz.prog)=some XV8:=by kernel_rfl
theorem XEr:(Tryz.prog.funcs[189]?).bind (XaA Tryz.prog)=some XQS:=by kernel_rfl
theorem XEn:(Tryz.prog.funcs[165]?).bind (XaA Tryz.prog)=some XSS:=by kernel_rfl
theorem XMJ:(Tryz.prog.funcs[98]?).bind (XaA Tryz.prog)=some fn98:=by kernel_rfl
theorem XDY:(Tryz.prog.funcs[161]?).bind (XaA Tryz.prog)=some XR4:=by kernel_rfl
theorem XEp:(Tryz.prog.funcs[184]?).bind (XaA Tryz.prog)=some XRp:=by kernel_rfl
theorem XGC:(Tryz.prog.funcs[198]?).bind (XaA Tryz.prog)=some XS0:=by kernel_rfl
theorem XFV:(Tryz.prog.funcs[185]?).bind (XaA Tryz.prog)=some XR3:=by kernel_rfl
theorem XHw:(Tryz.prog.funcs[199]?).bind (XaA Tryz.prog)=some XVb:=by kernel_rfl
theorem XHu:(Tryz.prog.funcs[203]?).bind (XaA Tryz.prog)=some XU1:=by kernel_rfl
theorem XEl:(Tryz.prog.funcs[204]?).bind (XaA Tryz.prog)=some XVR:=by kernel_rfl
theorem XGA:(Tryz.prog.funcs[120]?).bind (XaA Tryz.prog)=some XTa:=by kernel_rfl
theorem XHf:(Tryz.prog.funcs[121]?).bind (XaA Tryz.prog)=some XT2:=by kernel_rfl
theorem XKd:(Tryz.prog.funcs[70]?).bind (XaA Tryz.prog)=some fn70:=by kernel_rfl
theorem XFS:(Tryz.prog.funcs[122]?).bind (XaA Tryz.prog)=some XQD:=by kernel_rfl
theorem XCl:(Tryz.prog.funcs[123]?).bind (XaA Tryz.prog)=some XVD:=by kernel_rfl
theorem XFh:(Tryz.prog.funcs[162]?).bind (XaA Tryz.prog)=some XQH:=by kernel_rfl
theorem XDB:(Tryz.prog.funcs[186]?).bind (XaA Tryz.prog)=some XSu:=by kernel_rfl
theorem XDd:(Tryz.prog.funcs[187]?).bind (XaA Tryz.prog)=some XRZ:=by kernel_rfl
theorem XEW:(Tryz.prog.funcs[163]?).bind (XaA Tryz.prog)=some XVs:=by kernel_rfl
theorem XG6:(Tryz.prog.funcs[188]?).bind (XaA Tryz.prog)=some XUW:=by kernel_rfl
theorem XB4:(Tryz.prog.funcs[200]?).bind (XaA Tryz.prog)=some XQR:=by kernel_rfl
theorem XEv:(Tryz.prog.funcs[124]?).bind (XaA Tryz.prog)=some XQp:=by kernel_rfl
theorem XGp:(Tryz.prog.funcs[125]?).bind (XaA Tryz.prog)=some XQF:=by kernel_rfl
theorem XLw:(Tryz.prog.funcs[93]?).bind (XaA Tryz.prog)=some fn93:=by kernel_rfl
theorem XOz:(Tryz.prog.funcs[81]?).bind (XaA Tryz.prog)=some fn81:=by kernel_rfl
theorem XF3:(Tryz.prog.funcs[131]?).bind (XaA Tryz.prog)=some XUw:=by kernel_rfl
theorem XF4:(Tryz.prog.funcs[166]?).bind (XaA Tryz.prog)=some XRk:=by kernel_rfl
theorem XCH:(Tryz.prog.funcs[190]?).bind (XaA Tryz.prog)=some XRA:=by kernel_rfl
theorem XLv:(Tryz.prog.funcs[77]?).bind (XaA Tryz.prog)=some fn77:=by kernel_rfl
theorem XOo:(Tryz.prog.funcs[78]?).bind (XaA Tryz.prog)=some fn78:=by kernel_rfl
theorem XFB:(Tryz.prog.funcs[129]?).bind (XaA Tryz.prog)=some XU2:=by kernel_rfl
theorem XEx:(Tryz.prog.funcs[138]?).bind (XaA Tryz.prog)=some XTe:=by kernel_rfl
theorem XM2:(Tryz.prog.funcs[95]?).bind (XaA Tryz.prog)=some fn95:=by kernel_rfl
theorem XLD:(Tryz.prog.funcs[80]?).bind (XaA Tryz.prog)=some fn80:=by kernel_rfl
theorem XEe:(Tryz.prog.funcs[201]?).bind (XaA Tryz.prog)=some XRd:=by kernel_rfl
theorem XCr:(Tryz.prog.funcs[202]?).bind (XaA Tryz.prog)=some XUF:=by kernel_rfl
theorem XCB:(Tryz.prog.funcs[191]?).bind (XaA Tryz.prog)=some XVB:=by kernel_rfl
theorem XCi:(Tryz.prog.funcs[132]?).bind (XaA Tryz.prog)=some XUg:=by kernel_rfl
theorem XB6:(Tryz.prog.funcs[167]?).bind (XaA Tryz.prog)=some XTq:=by kernel_rfl
theorem XHI:(Tryz.prog.funcs[192]?).bind (XaA Tryz.prog)=some XUt:=by kernel_rfl
theorem XCe:(Tryz.prog.funcs[169]?).bind (XaA Tryz.prog)=some XWC:=by kernel_rfl
theorem XCp:(Tryz.prog.funcs[170]?).bind (XaA Tryz.prog)=some XR9:=by kernel_rfl
theorem XDM:(Tryz.prog.funcs[193]?).bind (XaA Tryz.prog)=some XVC:=by kernel_rfl
theorem XFl:(Tryz.prog.funcs[134]?).bind (XaA Tryz.prog)=some XWt:=by kernel_rfl
theorem XG2:(Tryz.prog.funcs[133]?).bind (XaA Tryz.prog)=some XSx:=by kernel_rfl
theorem XDS:(Tryz.prog.funcs[168]?).bind (XaA Tryz.prog)=some XRL:=by kernel_rfl
theorem XMT:(Tryz.prog.funcs[94]?).bind (XaA Tryz.prog)=some fn94:=by kernel_rfl
theorem XFw:(Tryz.prog.funcs[139]?).bind (XaA Tryz.prog)=some XTP:=by kernel_rfl
theorem XCT:(Tryz.prog.funcs[140]?).bind (XaA Tryz.prog)=some XUm:=by kernel_rfl
def XAW:VC:=.seq (.reg [oD 2 (.mv (.const (.string ⟨⟨[]⟩⟩))),oD 3 (.mv (.const (.int .i64 0)))]) (.seq (.reg [oM 6 τ0,oD 7 (.callF 78 [τ6,(.const (.int .i64 1))]),oM 4 τ7]) (.seq (.seq (.reg [oM 8 τ0,oD 9 (.callF 138 [τ8]),oD 10 (.not τ9),oM 11 XcT,oG 12 (.mv τ4) 11 true,oG 13 (.bin .gtr Xdr (.const (.int .i64 20))) 11 true,oD 14 (.pick XcS XdU (.const (.bool false)))]) (.cond Xet (.seq (.reg [oD 2 (.mv (.const (.string ⟨⟨[]⟩⟩))),oD 3 (.mv (.const (.int .i64 3)))]) .ret) .skip)) (.seq (.reg [oM 15 τ0,oM 16 τ4,oD 17 (.callF 129 [Xem,XeC]),oM 5 Xen]) (.seq (.seq (.reg [oM 18 τ0,oD 19 (.callF 138 [XeQ])]) (.cond XeM (.seq (.reg [oD 2 (.mv (.const (.string ⟨⟨[]⟩⟩))),oD 3 (.mv (.const (.int .i64 2)))]) .ret) .skip)) (.seq (.reg [oM 20 τ5,oM 2 Xe4,oD 3 (.mv (.const (.int .i64 0)))]) .ret)))))
def XRE:VFn:=⟨21,XAW,[.tmp 2,.tmp 3]⟩
def XA4:VC:=.seq (.reg [oD 2 (.mv (.const (.string ⟨⟨[]⟩⟩)))]) (.seq (.seq (.reg [oM 5 τ0,oD 6 (.callF 72 [τ5]),oD 7 (.not τ6)]) (.cond τ7 (.seq (.reg [oD 2 (.mv (.const (.string ⟨⟨[]⟩⟩)))]) .ret) .skip)) (.seq (.reg [oM 9 τ0,oD 10 (.nilCheck τ9),oD 11 (.fieldA 9 XcT),oD 12 (.fieldA 0 XcS),oD 13 (.load1 .oth Xdr),oM 14 τ0,oD 15 (.callV XdU [Xet]),oM 8 Xem,oE 16 0 τ8,oE 17 1 τ8,oM 3 XeC,oM 4 Xen]) (.seq (.reg [oM 18 τ3,oM 2 XeQ]) .ret)))
def fn35:VFn:=⟨19,XA4,[.tmp 2]⟩
def XMc:VC:=.seq (.reg [oD 2 (.mv (.const (.bool false)))]) (.seq (.reg [oM 3 τ0,oD 4 (.isNil 0 true τ3),oM 5 τ4,oG 6 (.mv τ0) 5 true,oG 7 (.nilCheck τ6) 5 true,oG 8 (.fieldA 9 τ7) 5 true,oG 9 (.fieldA 1 τ8) 5 true,oG 10 (.load1 .oth τ9) 5 true,oG 11 (.isNil 2 true XcT) 5 true,oD 12 (.pick τ5 XcS (.const (.bool false))),oM 2 Xdr]) .ret)
def fn72:VFn:=⟨13,XMc,[.tmp 2]⟩
def XSw:VC:=.seq (.reg [oD 2 (.alloc [(.int .i64 0),(.bool false),(.int .u64 0),(.int .u64 0),(.bool false),(.int .u64 0),(.int .u64 0),(.int .i64 0),(.int .i64 0),(.int .i64 0),(.bool false),(.int .u32 0),(.int .u32 0),(.bool false),(.string ⟨⟨[]⟩⟩),(.int .i64 0)]),oD 3 (.mv (.const (.int .i64 0)))]) (.seq (.reg [oM 9 τ0,oD 10 (.callF 66 [τ9]),oM 8 XcT,oE 11 0 τ8,oE 12 1 τ8,oE 13 2 τ8,oE 14 3 τ8,oD 4 (.alloc [(.int .i64 0),(.bool false),(.int .u64 0),(.int .u64 0),(.bool false),(.int .u64 0),(.int .u64 0),(.int .i64 0),(.int .i64 0),(.int .i64 0),(.bool false),(.int .u32 0),(.int .u32 0),(.bool false),(.string ⟨⟨[]⟩⟩),(.int .i64 0)]),oN (.store 16 τ4 XcS),oM 5 Xdr,oM 6 XdU,oM 7 Xet]) (.seq (.reg [oD 15 (.loadN [(.int .i64),.bool,(.int .u64),(.int .u64),.bool,(.int .u64),(.int .u64),(.int .i64),(.int .i64),(.int .i64),.bool,(.int .u32),(.int .u32),.bool,.str,(.int .i64)] τ4),oM 16 τ7,oN (.store 16 τ2 Xem),oM 3 XeC]) .ret))
def fn28:VFn:=⟨17,XSw,[.cell 2 [(.int .i64),.bool,(.int .u64),(.int .u64),.bool,(.int .u64),(.int .u64),(.int .i64),(.int .i64),(.int .i64),.bool,(.int .u32),(.int .u32),.bool,.str,(.int .i64)] true,.tmp 3]⟩
def XUb:VC:=.regD [oD 97 (.loadN [(.int .i64),.bool,(.int .u64),(.int .u64),.bool,(.int .u64),(.int .u64),(.int .i64),(.int .i64),(.int .i64),.bool,(.int .u32),(.int .u32),.bool,.str,(.int .i64)] τ8),oD 98 (.fieldA 7 τ6),oD 99 (.load1 (.int .i64) XQl),oD 100 (.fieldA 7 τ6),oD 101 (.load1 (.int .i64) Xws),oD 102 (.bin .add Xw1 (.const (.int .i64 20))),oD 103 (.fieldA 7 τ9),oD 104 (.load1 .str Xxh),oD 105 (.lenS XBs),oD 106 (.bin .add XxI Xys),oN (.store 16 τ2 XJa),oM 3 XQj] [(2,10),(4,10),(7,10)] [oM 4 XBv,oD 5 (.mv (.const (.int .i64 0)))]
def XS5:VC:=.regD [oD 155 (.loadN [(.int .i64),.bool,(.int .u64),(.int .u64),.bool,(.int .u64),(.int .u64),(.int .i64),(.int .i64),(.int .i64),.bool,(.int .u32),(.int .u32),.bool,.str,(.int .i64)] τ8),oD 156 (.fieldA 7 τ6),oD 157 (.load1 (.int .i64) XLp),oD 158 (.fieldA 7 τ6),oD 159 (.load1 (.int .i64) XWr),oD 160 (.bin .add XU3 (.const (.int .i64 8))),oN (.store 16 τ2 XM8),oM 3 XUc] [(2,6),(4,6)] [oM 4 XQy,oD 5 (.mv (.const (.int .i64 0)))]
def XIl:VC:=.seq (.reg [oD 2 (.alloc [(.int .i64 0),(.bool false),(.int .u64 0),(.int .u64 0),(.bool false),(.int .u64 0),(.int .u64 0),(.int .i64 0),(.int .i64 0),(.int .i64 0),(.bool false),(.int .u32 0),(.int .u32 0),(.bool false),(.string ⟨⟨[]⟩⟩),(.int .i64 0)]),oD 3 (.mv (.const (.int .i64 0))),oD 4 (.mv (.const (.int .i64 0))),oD 5 (.mv (.const (.int .i64 0)))]) (.seq (.seq (.reg [oM 18 τ0,oD 19 (.lenS XeQ),oD 20 (.bin .gtr XeM (.const (.int .i64 9000)))]) (.cond Xe4 (.seq (.reg [oD 21 (.build [(.int .i64 0),(.bool false),(.int .u64 0),(.int .u64 0),(.bool false),(.int .u64 0),(.int .u64 0),(.int .i64 0),(.int .i64 0),(.int .i64 0),(.bool false),(.int .u32 0),(.int .u32 0),(.bool false),(.string ⟨⟨[]⟩⟩),(.int .i64 0)] []),oN (.store 16 τ2 Xfw),oD 3 (.mv (.const (.int .i64 0))),oD 4 (.mv (.const (.int .i64 0))),oD 5 (.mv (.const (.int .i64 5)))]) .ret) .skip)) (.seq (.seq (.reg [oM 22 τ0,oD 23 (.bin .eql Xfv (.const (.string ⟨⟨[]⟩⟩)))]) (.cond Xfs (.seq (.reg [oD 24 (.build [(.int .i64 0),(.bool false),(.int .u64 0),(.int .u64 0),(.bool false),(.int .u64 0),(.int .u64 0),(.int .i64 0),(.int .i64 0),(.int .i64 0),(.bool false),(.int .u32 0),(.int .u32 0),(.bool false),(.string ⟨⟨[]⟩⟩),(.int .i64 0)] []),oN (.store 16 τ2 XfN),oD 3 (.mv (.const (.int .i64 0))),oD 4 (.mv (.const (.int .i64 0))),oD 5 (.mv (.const (.int .i64 2)))]) .ret) .skip)) (.seq (.reg [oM 26 τ0,oD 27 (.callF 105 [Xge]),oM 25 Xgn,oE 28 0 Xgd,oE 29 1 Xgd,oD 6 (.alloc [(.bool false),(.int .u64 0),(.int .u64 0),(.bool false),(.int .u64 0),(.int .u64 0),(.int .i64 0),(.int .i64 0),(.string ⟨⟨[]⟩⟩)]),oN (.store 9 τ6 Xgi),oM 7 Xgf]) (.seq (.seq (.reg [oM 30 τ7,oD 31 (.bin .neq Xgw (.const (.int .i64 0)))]) (.cond XgO (.seq (.reg [oD 32 (.build [(.int .i64 0),(.bool false),(.int .u64 0),(.int .u64 0),(.bool false),(.int .u64 0),(.int .u64 0),(.int .i64 0),(.int .i64 0),(.int .i64 0),(.bool false),(.int .u32 0),(.int .u32 0),(.bool false),(.string ⟨⟨[]⟩⟩),(.int .i64 0)] []),oM 33 τ7,oN (.store 16 τ2 Xg5),oD 3 (.mv (.const (.int .i64 0))),oD 4 (.mv (.const (.int .i64 0))),oM 5 Xha]) .ret) .skip)) (.seq (.seq (.reg [oD 34 (.fieldA 7 τ6),oD 35 (.load1 (.int .i64) Xhb),oD 36 (.fieldA 8 τ6),oD 37 (.load1 .str XhU),oD 38 (.lenS XhT),oD 39 (.bin .add Xhq Xii),oM 40 τ0,oD 41 (.lenS Xi4),oD 42 (.bin .neq XiX Xjg)]) (.cond XiU (.seq (.reg [oD 43 (.build [(.int .i64 0),(.bool false),(.int .u64 0),(.int .u64 0),(.bool false),(.int .u64 0),(.int .u64 0),(.int .i64 0),(.int .i64 0),(.int .i64 0),(.bool false),(.int .u32 0),(.int .u32 0),(.bool false),(.string ⟨⟨[]⟩⟩),(.int .i64 0)] []),oN (.store 16 τ2 Xi3),oD 3 (.mv (.const (.int .i64 0))),oD 4 (.mv (.const (.int .i64 0))),oD 5 (.mv (.const (.int .i64 5)))]) .ret) .skip)) (.seq (.reg [oM 44 τ0,oD 45 (.lenS XjY),oD 46 (.fieldA 6 τ6),oD 47 (.load1 (.int .i64) Xke),oD 48 (.fieldA 0 τ6),oD 49 (.loadN [.bool,(.int .u64),(.int .u64)] Xkd),oD 50 (.fieldA 3 τ6),oD 51 (.loadN [.bool,(.int .u64),(.int .u64)] XkJ),oD 52 (.build [(.int .i64 0),(.bool false),(.int .u64 0),(.int .u64 0),(.bool false),(.int .u64 0),(.int .u64 0),(.int .i64 0),(.int .i64 0)] [(0,1,Xkb),(1,3,Xkc),(4,3,Xla)]),oD 53 (.build [(.int .i64 0),(.bool false),(.int .u64 0),(.int .u64 0),(.bool false),(.int .u64 0),(.int .u64 0),(.int .i64 0),(.int .i64 0),(.int .i64 0),(.bool false),(.int .u32 0),(.int .u32 0),(.bool false),(.string ⟨⟨[]⟩⟩),(.int .i64 0)] [(15,1,XjM),(0,9,Xk8)]),oD 8 (.alloc [(.int .i64 0),(.bool false),(.int .u64 0),(.int .u64 0),(.bool false),(.int .u64 0),(.int .u64 0),(.int .i64 0),(.int .i64 0),(.int .i64 0),(.bool false),(.int .u32 0),(.int .u32 0),(.bool false),(.string ⟨⟨[]⟩⟩),(.int .i64 0)]),oN (.store 16 τ8 Xmo)]) (.seq (.seq (.reg [oD 54 (.fieldA 6 τ6),oD 55 (.load1 (.int .i64) Xm6),oD 56 (.bin .eql Xmv (.const (.int .i64 6)))]) (.cond Xm5 (.seq (.reg [oD 58 (.fieldA 8 τ6),oD 59 (.load1 .str XmY),oD 60 (.fieldA 0 τ6),oD 61 (.loadN [.bool,(.int .u64),(.int .u64)] Xn5),oD 62 (.fieldA 3 τ6),oD 63 (.loadN [.bool,(.int .u64),(.int .u64)] XoU),oD 64 (.callF 106 [Xnn,Xon,Xqr]),oM 57 Xqq,oE 65 0 XmR,oE 66 1 XmR,oE 67 2 XmR,oD 9 (.alloc [(.int .i64 0),(.int .i64 0),(.int .u32 0),(.int .u32 0),(.int .i64 0),(.int .i64 0),(.int .i64 0),(.string ⟨⟨[]⟩⟩)]),oN (.store 8 τ9 Xq4),oM 10 XqY,oM 11 Xqy]) (.seq (.seq (.reg [oM 68 XcS,oD 69 (.bin .neq Xqw (.const (.int .i64 0)))]) (.cond Xsf (.seq (.reg [oD 70 (.build [(.int .i64 0),(.bool false),(.int .u64 0),(.int .u64 0),(.bool false),(.int .u64 0),(.int .u64 0),(.int .i64 0),(.int .i64 0),(.int .i64 0),(.bool false),(.int .u32 0),(.int .u32 0),(.bool false),(.string ⟨⟨[]⟩⟩),(.int .i64 0)] []),oM 71 XcS,oN (.store 16 τ2 Xsw),oD 3 (.mv (.const (.int .i64 0))),oD 4 (.mv (.const (.int .i64 0))),oM 5 XsA]) .ret) .skip)) (.seq (.reg [oD 72 (.fieldA 0 τ9),oD 73 (.load1 (.int .i64) Xsx),oD 74 (.fieldA 0 τ8),oD 75 (.fieldA 7 Xvo),oN (.store 1 Xwh XtQ)]) (.seq (.reg [oD 76 (.fieldA 1 τ9),oD 77 (.load1 (.int .i64) Xxk),oD 78 (.fieldA 0 τ8),oD 79 (.fieldA 8 Xxu),oN (.store 1 Xyk Xxv)]) (.seq (.reg [oD 80 (.fieldA 4 τ9),oD 81 (.load1 (.int .i64) Xyz),oD 82 (.fieldA 9 τ8),oN (.store 1 XF0 XBO)]) (.seq (.reg [oD 84 (.fieldA 7 τ9),oD 85 (.load1 .str XIF),oD 86 (.callF 107 [XJu]),oM 83 XPM,oE 87 0 XBG,oE 88 1 XBG,oE 89 2 XBG,oM 12 XOn,oM 13 XN4,oM 14 XJQ]) (.seq (.seq (.reg [oM 90 Xet,oD 91 (.bin .geq XKo (.const (.int .i64 0)))]) (.cond XO9 (.seq (.reg [oD 92 (.fieldA 10 τ8),oN (.store 1 XNL (.const (.bool true)))]) (.seq (.reg [oM 93 Xdr,oD 94 (.fieldA 11 τ8),oN (.store 1 XNn XKe)]) (.reg [oM 95 XdU,oD 96 (.fieldA 12 τ8),oN (.store 1 XPU XJ5)]))) .skip)) (.seq XUb .ret)))))))) .skip)) (.seq (.seq (.reg [oD 107 (.fieldA 6 τ6),oD 108 (.load1 (.int .i64) XBp),oD 109 (.bin .neq XyL (.const (.int .i64 17)))]) (.cond Xzx (.seq (.reg [oD 110 (.build [(.int .i64 0),(.bool false),(.int .u64 0),(.int .u64 0),(.bool false),(.int .u64 0),(.int .u64 0),(.int .i64 0),(.int .i64 0),(.int .i64 0),(.bool false),(.int .u32 0),(.int .u32 0),(.bool false),(.string ⟨⟨[]⟩⟩),(.int .i64 0)] []),oN (.store 16 τ2 XDr),oD 3 (.mv (.const (.int .i64 0))),oD 4 (.mv (.const (.int .i64 0))),oD 5 (.mv (.const (.int .i64 6)))]) .ret) .skip)) (.seq (.reg [oD 112 (.fieldA 8 τ6),oD 113 (.load1 .str XBh),oD 114 (.fieldA 0 τ6),oD 115 (.loadN [.bool,(.int .u64),(.int .u64)] XwV),oD 116 (.fieldA 3 τ6),oD 117 (.loadN [.bool,(.int .u64),(.int .u64)] XAj),oD 118 (.callF 108 [XBm,Xzm,XxW]),oM 111 XBd,oE 119 0 Xug,oE 120 1 Xug,oE 121 2 Xug,oD 15 (.alloc [(.int .i64 0),(.int .i64 0)]),oN (.store 2 Xem XA3),oM 16 Xy0,oM 7 Xyl]) (.seq (.seq (.reg [oM 122 τ7,oD 123 (.bin .neq XxC (.const (.int .i64 0)))]) (.cond XDm (.seq (.reg [oD 124 (.build [(.int .i64 0),(.bool false),(.int .u64 0),(.int .u64 0),(.bool false),(.int .u64 0),(.int .u64 0),(.int .i64 0),(.int .i64 0),(.int .i64 0),(.bool false),(.int .u32 0),(.int .u32 0),(.bool false),(.string ⟨⟨[]⟩⟩),(.int .i64 0)] []),oM 125 τ7,oN (.store 16 τ2 Xxz),oD 3 (.mv (.const (.int .i64 0))),oD 4 (.mv (.const (.int .i64 0))),oM 5 XDX]) .ret) .skip)) (.seq (.seq (.reg [oM 126 XeC,oD 127 (.lenS XF2),oD 128 (.bin .add XES (.const (.int .i64 8))),oD 129 (.fieldA 8 τ6),oD 130 (.load1 .str XEm),oD 131 (.lenS XCU),oD 132 (.bin .neq XCb XFT)]) (.cond XCL (.seq (.reg [oD 133 (.build [(.int .i64 0),(.bool false),(.int .u64 0),(.int .u64 0),(.bool false),(.int .u64 0),(.int .u64 0),(.int .i64 0),(.int .i64 0),(.int .i64 0),(.bool false),(.int .u32 0),(.int .u32 0),(.bool false),(.string ⟨⟨[]⟩⟩),(.int .i64 0)] []),oN (.store 16 τ2 XFP),oD 3 (.mv (.const (.int .i64 0))),oD 4 (.mv (.const (.int .i64 0))),oD 5 (.mv (.const (.int .i64 5)))]) .ret) .skip)) (.seq (.reg [oD 134 (.fieldA 0 Xem),oD 135 (.load1 (.int .i64) XEZ),oD 136 (.fieldA 0 τ8),oD 137 (.fieldA 7 XHd),oN (.store 1 XyW XHE)]) (.seq (.reg [oD 138 (.fieldA 1 Xem),oD 139 (.load1 (.int .i64) XLG),oD 140 (.fieldA 0 τ8),oD 141 (.fieldA 8 XKO),oN (.store 1 XOv XKj)]) (.seq (.reg [oM 143 XeC,oD 144 (.callF 74 [XPD]),oM 142 XPN,oE 145 0 XGV,oE 146 1 XGV,oD 17 (.alloc [(.bool false),(.int .i64 0),(.int .u32 0),(.string ⟨⟨[]⟩⟩),(.string ⟨⟨[]⟩⟩),(.string ⟨⟨[]⟩⟩)]),oN (.store 6 Xen XNU),oM 7 XOd]) (.seq (.seq (.reg [oM 147 τ7,oD 148 (.bin .eql XOx (.const (.int .i64 0)))]) (.cond XMx (.seq (.reg [oD 149 (.fieldA 0 Xen),oD 150 (.load1 .bool XKH),oD 151 (.fieldA 13 τ8),oN (.store 1 XPp XJN)]) (.reg [oD 152 (.fieldA 3 Xen),oD 153 (.load1 .str XNb),oD 154 (.fieldA 14 τ8),oN (.store 1 XPs XPu)])) .skip)) (.seq XS5 .ret))))))))))))))))
def fn66:VFn:=⟨161,XIl,[.cell 2 [(.int .i64),.bool,(.int .u64),(.int .u64),.bool,(.int .u64),(.int .u64),(.int .i64),(.int .i64),(.int .i64),.bool,(.int .u32),(.int .u32),.bool,.str,(.int .i64)] true,.tmp 3,.tmp 4,.tmp 5]⟩
def XBl:VC:=.seq (.reg [oD 2 (.alloc [(.bool false),(.int .u64 0),(.int .u64 0),(.bool false),(.int .u64 0),(.int .u64 0),(.int .i64 0),(.int .i64 0),(.string ⟨⟨[]⟩⟩)]),oD 3 (.mv (.const (.int .i64 0)))]) (.seq (.seq (.reg [oM 10 τ0,oD 11 (.idxS XcT (.const (.int .i64 0))),oD 12 (.bin .quo XcS (.const (.int .u8 16))),oD 13 (.bin .eql Xdr (.const (.int .u8 4)))]) (.cond XdU (.seq (.reg [oM 15 τ0,oD 16 (.callF 152 [Xem]),oM 14 XeC,oE 17 0 Xet,oE 18 1 Xet,oE 19 2 Xet,oD 4 (.alloc [(.int .i64 0),(.int .i64 0),(.bool false),(.int .i64 0),(.int .i64 0),(.bool false),(.int .u64 0),(.int .u64 0),(.bool false),(.int .u64 0),(.int .u64 0),(.string ⟨⟨[]⟩⟩)]),oN (.store 12 τ4 Xen),oM 5 XeQ,oM 6 XeM]) (.seq (.reg [oD 20 (.fieldA 5 τ4),oD 21 (.loadN [.bool,(.int .u64),(.int .u64)] Xe4),oD 22 (.fieldA 8 τ4),oD 23 (.loadN [.bool,(.int .u64),(.int .u64)] Xfv),oD 24 (.fieldA 4 τ4),oD 25 (.load1 (.int .i64) XfN),oD 26 (.fieldA 11 τ4),oD 27 (.load1 .str Xge),oD 28 (.lenS Xgn),oD 29 (.bin .add (.const (.int .i64 20)) Xgi),oM 30 τ5,oD 31 (.build [(.bool false),(.int .u64 0),(.int .u64 0),(.bool false),(.int .u64 0),(.int .u64 0),(.int .i64 0),(.int .i64 0),(.string ⟨⟨[]⟩⟩)] [(0,3,Xfw),(3,3,Xfs),(6,1,Xgd),(7,1,Xgf),(8,1,Xgw)]),oM 32 τ6,oN (.store 9 τ2 XgO),oM 3 Xg5]) .ret)) .skip)) (.seq (.seq (.reg [oM 33 τ0,oD 34 (.idxS Xha (.const (.int .i64 0))),oD 35 (.bin .quo Xhb (.const (.int .u8 16))),oD 36 (.bin .eql Xhq (.const (.int .u8 6)))]) (.cond XhU (.seq (.reg [oM 38 τ0,oD 39 (.callF 153 [Xii]),oM 37 XiX,oE 40 0 XhT,oE 41 1 XhT,oE 42 2 XhT,oD 7 (.alloc [(.int .i64 0),(.int .i64 0),(.int .i64 0),(.int .i64 0),(.bool false),(.int .u64 0),(.int .u64 0),(.bool false),(.int .u64 0),(.int .u64 0)]),oN (.store 10 τ7 Xi4),oM 8 Xjg,oM 9 XiU]) (.seq (.reg [oD 43 (.fieldA 4 τ7),oD 44 (.loadN [.bool,(.int .u64),(.int .u64)] Xi3),oD 45 (.fieldA 7 τ7),oD 46 (.loadN [.bool,(.int .u64),(.int .u64)] XjM),oD 47 (.fieldA 2 τ7),oD 48 (.load1 (.int .i64) Xkb),oM 49 τ8,oD 50 (.build [(.bool false),(.int .u64 0),(.int .u64 0),(.bool false),(.int .u64 0),(.int .u64 0),(.int .i64 0),(.int .i64 0),(.string ⟨⟨[]⟩⟩)] [(0,3,XjY),(3,3,Xke),(6,1,Xkd),(7,1,(.const (.int .i64 40))),(8,1,Xkc)]),oM 51 τ9,oN (.store 9 τ2 XkJ),oM 3 Xla]) .ret)) .skip)) (.seq (.reg [oD 52 (.build [(.bool false),(.int .u64 0),(.int .u64 0),(.bool false),(.int .u64 0),(.int .u64 0),(.int .i64 0),(.int .i64 0),(.string ⟨⟨[]⟩⟩)] []),oN (.store 9 τ2 Xk8),oD 3 (.mv (.const (.int .i64 3)))]) .ret)))
def XU6:VFn:=⟨53,XBl,[.cell 2 [.bool,(.int .u64),(.int .u64),.bool,(.int .u64),(.int .u64),(.int .i64),(.int .i64),.str] true,.tmp 3]⟩
def XQW:VC:=.regD [oM 15 τ0,oD 16 (.idxS Xem (.const (.int .i64 0))),oD 17 (.bin .rem XeC (.const (.int .u8 16))),oD 18 (.conv .i64 Xen),oD 19 (.bin .mul (.const (.int .i64 4)) XeQ),oM 20 τ0,oD 21 (.callF 88 [Xe4,(.const (.int .i64 2)),(.const (.int .i64 2))])] [] [oM 5 XeM,oM 6 Xfw]
def XPm:VC:=.regD [oM 73 τ0,oD 74 (.idxS XtQ (.const (.int .i64 1))),oD 75 (.conv .i64 Xvo),oM 76 τ0,oD 77 (.callF 88 [Xxk,(.const (.int .i64 4)),(.const (.int .i64 2))]),oM 78 τ0,oD 79 (.idxS Xxu (.const (.int .i64 6))),oD 80 (.bin .eql Xyk (.const (.int .u8 64))),oM 81 τ0,oD 82 (.idxS XBO (.const (.int .i64 8))),oD 83 (.conv .i64 XF0),oM 84 τ0,oD 85 (.idxS XIF (.const (.int .i64 9))),oD 86 (.conv .i64 XJu),oD 87 (.loadN [.bool,(.int .u64),(.int .u64)] τ7),oD 88 (.loadN [.bool,(.int .u64),(.int .u64)] τ9),oM 89 τ0,oM 90 τ5,oD 91 (.sliceS XJQ (some (.const (.int .i64 20))) (some XKo)),oD 92 (.build [(.int .i64 0),(.int .i64 0),(.bool false),(.int .i64 0),(.int .i64 0),(.bool false),(.int .u64 0),(.int .u64 0),(.bool false),(.int .u64 0),(.int .u64 0),(.string ⟨⟨[]⟩⟩)] [(0,1,Xwh),(1,1,Xxv),(2,1,Xyz),(3,1,XBG),(4,1,XPM),(5,3,XOn),(8,3,XN4),(11,1,XO9)]),oM 93 τ0,oM 94 τ5,oM 95 τ6,oD 96 (.sliceS XKe (some XNn) (some XJ5)),oN (.store 12 τ2 XNL)] [(4,14),(4,15)] [oM 3 XPU,oD 4 (.mv (.const (.int .i64 0)))]
def XAB:VC:=.seq (.reg [oD 2 (.alloc [(.int .i64 0),(.int .i64 0),(.bool false),(.int .i64 0),(.int .i64 0),(.bool false),(.int .u64 0),(.int .u64 0),(.bool false),(.int .u64 0),(.int .u64 0),(.string ⟨⟨[]⟩⟩)]),oD 3 (.mv (.const (.string ⟨⟨[]⟩⟩))),oD 4 (.mv (.const (.int .i64 0)))]) (.seq (.seq (.reg [oM 11 τ0,oD 12 (.lenS XcS),oD 13 (.bin .lss Xdr (.const (.int .i64 20)))]) (.cond XdU (.seq (.reg [oD 14 (.build [(.int .i64 0),(.int .i64 0),(.bool false),(.int .i64 0),(.int .i64 0),(.bool false),(.int .u64 0),(.int .u64 0),(.bool false),(.int .u64 0),(.int .u64 0),(.string ⟨⟨[]⟩⟩)] []),oN (.store 12 τ2 Xet),oD 3 (.mv (.const (.string ⟨⟨[]⟩⟩))),oD 4 (.mv (.const (.int .i64 2)))]) .ret) .skip)) (.seq XQW (.seq (.seq (.reg [oM 22 τ0,oD 23 (.idxS Xfv (.const (.int .i64 0))),oD 24 (.bin .quo Xfs (.const (.int .u8 16))),oD 25 (.bin .neq XfN (.const (.int .u8 4))),oM 26 Xgd,oG 27 (.mv τ5) 26 false,oG 28 (.bin .lss Xgn (.const (.int .i64 20))) 26 false,oD 29 (.pick Xge (.const (.bool true)) Xgi),oM 30 Xgf,oG 31 (.mv τ6) 30 false,oG 32 (.mv τ5) 30 false,oG 33 (.bin .lss XgO Xg5) 30 false,oD 34 (.pick Xgw (.const (.bool true)) Xha)]) (.cond Xhb (.seq (.reg [oD 35 (.build [(.int .i64 0),(.int .i64 0),(.bool false),(.int .i64 0),(.int .i64 0),(.bool false),(.int .u64 0),(.int .u64 0),(.bool false),(.int .u64 0),(.int .u64 0),(.string ⟨⟨[]⟩⟩)] []),oN (.store 12 τ2 Xhq),oD 3 (.mv (.const (.string ⟨⟨[]⟩⟩))),oD 4 (.mv (.const (.int .i64 3)))]) .ret) .skip)) (.seq (.seq (.reg [oM 36 τ0,oD 37 (.lenS XhU),oM 38 τ6,oD 39 (.bin .lss XhT Xii)]) (.cond XiX (.seq (.reg [oD 40 (.build [(.int .i64 0),(.int .i64 0),(.bool false),(.int .i64 0),(.int .i64 0),(.bool false),(.int .u64 0),(.int .u64 0),(.bool false),(.int .u64 0),(.int .u64 0),(.string ⟨⟨[]⟩⟩)] []),oN (.store 12 τ2 Xi4),oD 3 (.mv (.const (.string ⟨⟨[]⟩⟩))),oD 4 (.mv (.const (.int .i64 2)))]) .ret) .skip)) (.seq (.seq (.reg [oM 41 τ0,oM 42 τ5,oD 43 (.sliceS Xjg none (some XiU)),oD 44 (.callF 86 [Xi3]),oD 45 (.bin .neq XjY (.const (.int .i64 65535)))]) (.cond XjM (.seq (.reg [oD 46 (.build [(.int .i64 0),(.int .i64 0),(.bool false),(.int .i64 0),(.int .i64 0),(.bool false),(.int .u64 0),(.int .u64 0),(.bool false),(.int .u64 0),(.int .u64 0),(.string ⟨⟨[]⟩⟩)] []),oN (.store 12 τ2 Xke),oD 3 (.mv (.const (.string ⟨⟨[]⟩⟩))),oD 4 (.mv (.const (.int .i64 4)))]) .ret) .skip)) (.seq (.seq (.reg [oM 47 τ0,oD 48 (.idxS Xkb (.const (.int .i64 6))),oD 49 (.bin .neq Xkd (.const (.int .u8 0))),oM 50 Xkc,oG 51 (.mv τ0) 50 true,oG 52 (.idxS Xla (.const (.int .i64 6))) 50 true,oG 53 (.bin .neq Xk8 (.const (.int .u8 64))) 50 true,oD 54 (.pick XkJ Xmo (.const (.bool false))),oM 55 Xm6,oG 56 (.mv τ0) 55 false,oG 57 (.idxS Xm5 (.const (.int .i64 7))) 55 false,oG 58 (.bin .neq XmR (.const (.int .u8 0))) 55 false,oD 59 (.pick Xmv (.const (.bool true)) XmY)]) (.cond Xnn (.seq (.reg [oD 60 (.build [(.int .i64 0),(.int .i64 0),(.bool false),(.int .i64 0),(.int .i64 0),(.bool false),(.int .u64 0),(.int .u64 0),(.bool false),(.int .u64 0),(.int .u64 0),(.string ⟨⟨[]⟩⟩)] []),oN (.store 12 τ2 Xn5),oD 3 (.mv (.const (.string ⟨⟨[]⟩⟩))),oD 4 (.mv (.const (.int .i64 7)))]) .ret) .skip)) (.seq (.reg [oM 62 τ0,oD 63 (.sliceS XoU (some (.const (.int .i64 12))) (some (.const (.int .i64 16)))),oD 64 (.callF 177 [Xqr]),oM 61 Xqq,oE 65 0 Xon,oE 66 1 Xon,oD 7 (.alloc [(.bool false),(.int .u64 0),(.int .u64 0)]),oN (.store 3 τ7 Xq4),oM 8 XqY]) (.seq (.reg [oM 68 τ0,oD 69 (.sliceS Xqw (some (.const (.int .i64 16))) (some (.const (.int .i64 20)))),oD 70 (.callF 177 [Xsf]),oM 67 Xsw,oE 71 0 Xqy,oE 72 1 Xqy,oD 9 (.alloc [(.bool false),(.int .u64 0),(.int .u64 0)]),oN (.store 3 τ9 XsA),oM 10 Xsx]) (.seq XPm .ret)))))))))
def XSJ:VFn:=⟨97,XAB,[.cell 2 [(.int .i64),(.int .i64),.bool,(.int .i64),(.int .i64),.bool,(.int .u64),(.int .u64),.bool,(.int .u64),(.int .u64),.str] true,.tmp 3,.tmp 4]⟩
def XT1:VC:=.seq (.reg [oD 6 (.mv (.const (.int .i64 0)))]) (.seq (.reg [oM 10 τ0,oM 11 τ1,oM 12 τ2,oD 13 (.callF 87 [XcT,XcS,Xdr]),oM 9 XdU,oE 14 0 τ9,oE 15 1 τ9,oM 7 Xet,oM 8 Xem]) (.seq (.reg [oM 16 τ7,oD 17 (.conv .i64 XeC),oM 6 Xen]) .ret))
def fn88:VFn:=⟨18,XT1,[.tmp 6]⟩
def XzT:VC:=.seq (.seq (.reg [oM 34 τ9,oM 35 τ2,oD 36 (.bin .lss Xhb Xhq)]) (.cond XhU .skip (.exit 0))) (.seq (.block 1 (.reg [oM 39 τ8,oD 40 (.bin .mul XiX (.const (.int .u64 256))),oM 41 τ0,oM 42 τ1,oM 43 τ9,oD 44 (.bin .add XiU Xi3),oD 45 (.idxS Xjg XjY),oD 46 (.conv .u64 XjM),oD 47 (.bin .add Xi4 Xke),oM 8 Xkb])) (.reg [oM 37 τ9,oD 38 (.bin .add XhT (.const (.int .i64 1))),oM 9 Xii]))
def XHS:VC:=.seq (.reg [oM 48 τ8,oM 6 Xkd,oD 7 (.mv (.const (.bool true)))]) .ret
def XJg:VC:=.seq (.reg [oD 6 (.mv (.const (.int .u64 0))),oD 7 (.mv (.const (.bool false)))]) (.seq (.seq (.reg [oM 10 τ2,oD 11 (.bin .lss XcT (.const (.int .i64 1))),oM 12 XcS,oG 13 (.mv τ2) 12 false,oG 14 (.bin .gtr XdU (.const (.int .i64 8))) 12 false,oD 15 (.pick Xdr (.const (.bool true)) Xet),oM 16 Xem,oG 17 (.mv τ1) 16 false,oG 18 (.bin .lss Xen (.const (.int .i64 0))) 16 false,oD 19 (.pick XeC (.const (.bool true)) XeQ),oM 20 XeM,oG 21 (.mv τ1) 20 false,oG 22 (.mv τ0) 20 false,oG 23 (.lenS Xfv) 20 false,oG 24 (.bin .gtr Xfw Xfs) 20 false,oD 25 (.pick Xe4 (.const (.bool true)) XfN),oM 26 Xgd,oG 27 (.mv τ2) 26 false,oG 28 (.mv τ0) 26 false,oG 29 (.lenS Xgi) 26 false,oG 30 (.mv τ1) 26 false,oG 31 (.bin .sub Xgf Xgw) 26 false,oG 32 (.bin .gtr Xgn XgO) 26 false,oD 33 (.pick Xge (.const (.bool true)) Xg5)]) (.cond Xha (.seq (.reg [oD 6 (.mv (.const (.int .u64 0))),oD 7 (.mv (.const (.bool false)))]) .ret) .skip)) (.seq (.reg [oD 8 (.mv (.const (.int .u64 0)))]) (.seq (.seq (.reg [oD 9 (.mv (.const (.int .i64 0)))]) (.block 0 (.loop XzT))) XHS)))
def fn87:VFn:=⟨49,XJg,[.tmp 6,.tmp 7]⟩
def XWp:VC:=.seq (.reg [oD 2 (.mv (.const (.int .i64 0)))]) (.seq (.reg [oM 3 τ0,oD 4 (.callF 136 [τ3]),oD 5 (.callF 135 [τ4]),oM 2 τ5]) .ret)
def fn86:VFn:=⟨6,XWp,[.tmp 2]⟩
def Xt3:VC:=.seq (.seq (.reg [oM 11 τ4,oM 12 τ0,oD 13 (.lenS Xdr),oD 14 (.bin .lss XcS XdU)]) (.cond Xet .skip (.exit 0))) (.seq (.block 1 (.reg [oM 17 τ3,oM 18 τ0,oM 19 τ4,oD 20 (.callF 88 [XeQ,XeM,(.const (.int .i64 2))]),oD 21 (.buildSl 1 1 [(.int .i64 0)] [(0,1,Xe4)]),oD 22 (.app 3 1 8 Xen Xfw),oM 3 Xfv])) (.reg [oM 15 τ4,oD 16 (.bin .add Xem (.const (.int .i64 2))),oM 4 XeC]))
def Xyr:VC:=.seq (.reg [oM 23 τ3,oM 2 Xfs]) .ret
def Xzh:VC:=.seq (.reg [oD 2 (.mv (.const (.slice none 0 0)))]) (.seq (.seq (.reg [oM 5 τ0,oD 6 (.lenS τ5),oD 7 (.bin .rem τ6 (.const (.int .i64 2))),oD 8 (.bin .eql τ7 (.const (.int .i64 1)))]) (.cond τ8 (.reg [oM 9 τ0,oD 10 (.bin .add τ9 (.const (.string ⟨⟨[0]⟩⟩))),oM 0 XcT]) .skip)) (.seq (.reg [oD 3 (.mv (.const (.slice none 0 0)))]) (.seq (.seq (.reg [oD 4 (.mv (.const (.int .i64 0)))]) (.block 0 (.loop Xt3))) Xyr)))
def XSy:VFn:=⟨24,Xzh,[.tmp 2]⟩
def Xus:VC:=.seq (.seq (.reg [oM 5 τ4,oM 6 τ0,oD 7 (.lenL τ6),oD 8 (.bin .lss τ5 τ7)]) (.cond τ8 .skip (.exit 0))) (.seq (.block 1 (.reg [oM 11 τ3,oM 12 τ0,oM 13 τ4,oD 14 (.idxAL 1 Xdr XdU),oD 15 (.load1 (.int .i64) Xet),oD 16 (.bin .add XcS Xem),oM 3 XeC])) (.reg [oM 9 τ4,oD 10 (.bin .add τ9 (.const (.int .i64 1))),oM 4 XcT]))
def XtY:VC:=.seq (.seq (.reg [oM 17 τ3,oD 18 (.bin .gtr Xen (.const (.int .i64 65535)))]) (.cond XeQ .skip (.exit 2))) (.block 3 (.reg [oM 19 τ3,oD 20 (.bin .rem XeM (.const (.int .i64 65536))),oM 21 τ3,oD 22 (.bin .quo Xfw (.const (.int .i64 65536))),oD 23 (.bin .add Xe4 Xfv),oM 3 Xfs]))
def Xzo:VC:=.seq (.reg [oM 24 τ3,oM 2 XfN]) .ret
def XyI:VC:=.seq (.block 2 (.loop XtY)) Xzo
def XAl:VC:=.seq (.reg [oD 2 (.mv (.const (.int .i64 0)))]) (.seq (.reg [oD 3 (.mv (.const (.int .i64 0)))]) (.seq (.seq (.reg [oD 4 (.mv (.const (.int .i64 0)))]) (.block 0 (.loop Xus))) XyI))
def XTp:VFn:=⟨25,XAl,[.tmp 2]⟩
def XAJ:VC:=.seq (.reg [oD 2 (.alloc [(.bool false),(.int .u64 0),(.int .u64 0)]),oD 3 (.mv (.const (.bool false)))]) (.seq (.seq (.reg [oM 10 τ0,oD 11 (.lenS XcT),oD 12 (.bin .eql XcS (.const (.int .i64 4)))]) (.cond Xdr (.seq (.reg [oM 14 τ0,oD 15 (.callF 87 [Xet,(.const (.int .i64 0)),(.const (.int .i64 4))]),oM 13 Xem,oE 16 0 XdU,oE 17 1 XdU,oM 4 XeC,oM 5 Xen]) (.seq (.reg [oM 18 τ4,oD 19 (.build [(.bool false),(.int .u64 0),(.int .u64 0)] [(2,1,XeQ)]),oN (.store 3 τ2 XeM),oD 3 (.mv (.const (.bool true)))]) .ret)) .skip)) (.seq (.seq (.reg [oM 20 τ0,oD 21 (.lenS Xe4),oD 22 (.bin .eql Xfw (.const (.int .i64 16)))]) (.cond Xfv (.seq (.reg [oM 24 τ0,oD 25 (.callF 87 [XfN,(.const (.int .i64 0)),(.const (.int .i64 8))]),oM 23 Xgd,oE 26 0 Xfs,oE 27 1 Xfs,oM 6 Xge,oM 7 Xgn]) (.seq (.reg [oM 29 τ0,oD 30 (.callF 87 [Xgf,(.const (.int .i64 8)),(.const (.int .i64 8))]),oM 28 Xgw,oE 31 0 Xgi,oE 32 1 Xgi,oM 8 XgO,oM 9 Xg5]) (.seq (.reg [oM 33 τ6,oM 34 τ8,oD 35 (.build [(.bool false),(.int .u64 0),(.int .u64 0)] [(0,1,(.const (.bool true))),(1,1,Xha),(2,1,Xhb)]),oN (.store 3 τ2 Xhq),oD 3 (.mv (.const (.bool true)))]) .ret))) .skip)) (.seq (.reg [oD 36 (.build [(.bool false),(.int .u64 0),(.int .u64 0)] []),oN (.store 3 τ2 XhU),oD 3 (.mv (.const (.bool false)))]) .ret)))
def XUi:VFn:=⟨37,XAJ,[.cell 2 [.bool,(.int .u64),(.int .u64)] true,.tmp 3]⟩
def XOj:VC:=.regD [oM 41 τ5,oD 42 (.bin .quo Xjg (.const (.int .i64 1048576))),oD 43 (.bin .rem XiU (.const (.int .i64 256))),oM 44 τ5,oD 45 (.bin .rem XjY (.const (.int .i64 1048576))),oM 46 τ0,oD 47 (.idxS Xke (.const (.int .i64 6))),oD 48 (.conv .i64 Xkb),oM 49 τ0,oD 50 (.idxS Xkc (.const (.int .i64 7))),oD 51 (.conv .i64 XkJ),oD 52 (.loadN [.bool,(.int .u64),(.int .u64)] τ7),oD 53 (.loadN [.bool,(.int .u64),(.int .u64)] τ9),oD 54 (.build [(.int .i64 0),(.int .i64 0),(.int .i64 0),(.int .i64 0),(.bool false),(.int .u64 0),(.int .u64 0),(.bool false),(.int .u64 0),(.int .u64 0)] [(0,1,Xi3),(1,1,XjM),(2,1,Xkd),(3,1,Xla),(4,3,Xk8),(7,3,Xmo)]),oM 55 τ0,oM 56 τ6,oD 57 (.bin .add (.const (.int .i64 40)) Xm5),oD 58 (.sliceS Xmv (some (.const (.int .i64 40))) (some XmR)),oN (.store 10 τ2 Xm6)] [] [oM 3 XmY,oD 4 (.mv (.const (.int .i64 0)))]
def XBf:VC:=.seq (.reg [oD 2 (.alloc [(.int .i64 0),(.int .i64 0),(.int .i64 0),(.int .i64 0),(.bool false),(.int .u64 0),(.int .u64 0),(.bool false),(.int .u64 0),(.int .u64 0)]),oD 3 (.mv (.const (.string ⟨⟨[]⟩⟩))),oD 4 (.mv (.const (.int .i64 0)))]) (.seq (.seq (.reg [oM 11 τ0,oD 12 (.lenS XcS),oD 13 (.bin .lss Xdr (.const (.int .i64 40)))]) (.cond XdU (.seq (.reg [oD 14 (.build [(.int .i64 0),(.int .i64 0),(.int .i64 0),(.int .i64 0),(.bool false),(.int .u64 0),(.int .u64 0),(.bool false),(.int .u64 0),(.int .u64 0)] []),oN (.store 10 τ2 Xet),oD 3 (.mv (.const (.string ⟨⟨[]⟩⟩))),oD 4 (.mv (.const (.int .i64 2)))]) .ret) .skip)) (.seq (.reg [oM 15 τ0,oD 16 (.callF 88 [Xem,(.const (.int .i64 0)),(.const (.int .i64 4))]),oM 17 τ0,oD 18 (.callF 88 [Xen,(.const (.int .i64 4)),(.const (.int .i64 2))]),oM 5 XeC,oM 6 XeQ]) (.seq (.seq (.reg [oM 19 τ5,oD 20 (.bin .quo XeM (.const (.int .i64 268435456))),oD 21 (.bin .neq Xe4 (.const (.int .i64 6)))]) (.cond Xfw (.seq (.reg [oD 22 (.build [(.int .i64 0),(.int .i64 0),(.int .i64 0),(.int .i64 0),(.bool false),(.int .u64 0),(.int .u64 0),(.bool false),(.int .u64 0),(.int .u64 0)] []),oN (.store 10 τ2 Xfv),oD 3 (.mv (.const (.string ⟨⟨[]⟩⟩))),oD 4 (.mv (.const (.int .i64 3)))]) .ret) .skip)) (.seq (.seq (.reg [oM 23 τ0,oD 24 (.lenS Xfs),oD 25 (.bin .sub XfN (.const (.int .i64 40))),oM 26 τ6,oD 27 (.bin .lss Xgd Xge)]) (.cond Xgn (.seq (.reg [oD 28 (.build [(.int .i64 0),(.int .i64 0),(.int .i64 0),(.int .i64 0),(.bool false),(.int .u64 0),(.int .u64 0),(.bool false),(.int .u64 0),(.int .u64 0)] []),oN (.store 10 τ2 Xgi),oD 3 (.mv (.const (.string ⟨⟨[]⟩⟩))),oD 4 (.mv (.const (.int .i64 2)))]) .ret) .skip)) (.seq (.reg [oM 30 τ0,oD 31 (.sliceS Xgw (some (.const (.int .i64 8))) (some (.const (.int .i64 24)))),oD 32 (.callF 177 [XgO]),oM 29 Xg5,oE 33 0 Xgf,oE 34 1 Xgf,oD 7 (.alloc [(.bool false),(.int .u64 0),(.int .u64 0)]),oN (.store 3 τ7 Xha),oM 8 Xhb]) (.seq (.reg [oM 36 τ0,oD 37 (.sliceS XhU (some (.const (.int .i64 24))) (some (.const (.int .i64 40)))),oD 38 (.callF 177 [XhT]),oM 35 Xii,oE 39 0 Xhq,oE 40 1 Xhq,oD 9 (.alloc [(.bool false),(.int .u64 0),(.int .u64 0)]),oN (.store 3 τ9 XiX),oM 10 Xi4]) (.seq XOj .ret)))))))
def XT6:VFn:=⟨59,XBf,[.cell 2 [(.int .i64),(.int .i64),(.int .i64),(.int .i64),.bool,(.int .u64),(.int .u64),.bool,(.int .u64),(.int .u64)] true,.tmp 3,.tmp 4]⟩
def XKb:VC:=.regD [oM 61 τ0,oD 62 (.callF 88 [Xon,(.const (.int .i64 0)),(.const (.int .i64 2))]),oM 63 τ0,oD 64 (.callF 88 [Xqr,(.const (.int .i64 2)),(.const (.int .i64 2))]),oM 65 τ0,oD 66 (.callF 88 [Xq4,(.const (.int .i64 4)),(.const (.int .i64 4))]),oD 67 (.conv .u32 XqY),oM 68 τ0,oD 69 (.callF 88 [Xqw,(.const (.int .i64 8)),(.const (.int .i64 4))]),oD 70 (.conv .u32 Xsf),oM 71 τ0,oD 72 (.idxS XsA (.const (.int .i64 13))),oD 73 (.conv .i64 Xsx),oM 74 τ0,oD 75 (.callF 88 [Xvo,(.const (.int .i64 14)),(.const (.int .i64 2))]),oM 76 τ0,oD 77 (.callF 88 [Xxk,(.const (.int .i64 18)),(.const (.int .i64 2))]),oM 78 τ0,oM 79 τ9,oD 80 (.sliceS Xxu (some (.const (.int .i64 20))) (some Xyk)),oD 81 (.build [(.int .i64 0),(.int .i64 0),(.int .u32 0),(.int .u32 0),(.int .i64 0),(.int .i64 0),(.int .i64 0),(.string ⟨⟨[]⟩⟩)] [(0,1,XoU),(1,1,Xqq),(2,1,Xqy),(3,1,Xsw),(4,1,XtQ),(5,1,Xwh),(6,1,Xxv),(7,1,Xyz)]),oM 82 τ0,oM 83 τ9,oD 84 (.sliceS XF0 (some XBG) none),oN (.store 8 τ6 XBO)] [] [oM 7 XIF,oD 8 (.mv (.const (.int .i64 0)))]
def Xye:VC:=.seq (.reg [oD 4 (.box τ1),oD 5 (.box τ2),oD 6 (.alloc [(.int .i64 0),(.int .i64 0),(.int .u32 0),(.int .u32 0),(.int .i64 0),(.int .i64 0),(.int .i64 0),(.string ⟨⟨[]⟩⟩)]),oD 7 (.mv (.const (.string ⟨⟨[]⟩⟩))),oD 8 (.mv (.const (.int .i64 0)))]) (.seq (.seq (.reg [oM 13 τ0,oD 14 (.lenS XdU),oD 15 (.bin .lss Xet (.const (.int .i64 20)))]) (.cond Xem (.seq (.reg [oD 16 (.build [(.int .i64 0),(.int .i64 0),(.int .u32 0),(.int .u32 0),(.int .i64 0),(.int .i64 0),(.int .i64 0),(.string ⟨⟨[]⟩⟩)] []),oN (.store 8 τ6 XeC),oD 7 (.mv (.const (.string ⟨⟨[]⟩⟩))),oD 8 (.mv (.const (.int .i64 2)))]) .ret) .skip)) (.seq (.reg [oM 17 τ0,oD 18 (.idxS Xen (.const (.int .i64 12))),oD 19 (.bin .quo XeQ (.const (.int .u8 16))),oD 20 (.conv .i64 XeM),oD 21 (.bin .mul (.const (.int .i64 4)) Xe4),oM 9 Xfw]) (.seq (.seq (.reg [oM 22 τ9,oD 23 (.bin .lss Xfv (.const (.int .i64 20))),oM 24 Xfs,oG 25 (.mv τ0) 24 false,oG 26 (.idxS Xgd (.const (.int .i64 12))) 24 false,oG 27 (.bin .rem Xge (.const (.int .u8 16))) 24 false,oG 28 (.bin .neq Xgn (.const (.int .u8 0))) 24 false,oD 29 (.pick XfN (.const (.bool true)) Xgi)]) (.cond Xgf (.seq (.reg [oD 30 (.build [(.int .i64 0),(.int .i64 0),(.int .u32 0),(.int .u32 0),(.int .i64 0),(.int .i64 0),(.int .i64 0),(.string ⟨⟨[]⟩⟩)] []),oN (.store 8 τ6 Xgw),oD 7 (.mv (.const (.string ⟨⟨[]⟩⟩))),oD 8 (.mv (.const (.int .i64 3)))]) .ret) .skip)) (.seq (.seq (.reg [oM 31 τ0,oD 32 (.lenS XgO),oM 33 τ9,oD 34 (.bin .lss Xg5 Xha)]) (.cond Xhb (.seq (.reg [oD 35 (.build [(.int .i64 0),(.int .i64 0),(.int .u32 0),(.int .u32 0),(.int .i64 0),(.int .i64 0),(.int .i64 0),(.string ⟨⟨[]⟩⟩)] []),oN (.store 8 τ6 Xhq),oD 7 (.mv (.const (.string ⟨⟨[]⟩⟩))),oD 8 (.mv (.const (.int .i64 2)))]) .ret) .skip)) (.seq (.reg [oD 36 (.loadN [.bool,(.int .u64),(.int .u64)] τ4),oD 37 (.loadN [.bool,(.int .u64),(.int .u64)] τ5),oM 38 τ0,oD 39 (.lenS Xii),oD 40 (.callF 101 [XhU,XhT,(.const (.int .i64 6)),XiX]),oM 10 Xi4]) (.seq (.seq (.reg [oM 41 XcT,oD 42 (.bin .eql Xjg (.const (.string ⟨⟨[]⟩⟩)))]) (.cond XiU (.seq (.reg [oD 43 (.build [(.int .i64 0),(.int .i64 0),(.int .u32 0),(.int .u32 0),(.int .i64 0),(.int .i64 0),(.int .i64 0),(.string ⟨⟨[]⟩⟩)] []),oN (.store 8 τ6 Xi3),oD 7 (.mv (.const (.string ⟨⟨[]⟩⟩))),oD 8 (.mv (.const (.int .i64 1)))]) .ret) .skip)) (.seq (.seq (.reg [oM 44 XcT,oM 45 τ0,oD 46 (.bin .add XjY XjM),oD 47 (.callF 86 [Xke]),oD 48 (.bin .neq Xkb (.const (.int .i64 65535)))]) (.cond Xkd (.seq (.reg [oD 49 (.build [(.int .i64 0),(.int .i64 0),(.int .u32 0),(.int .u32 0),(.int .i64 0),(.int .i64 0),(.int .i64 0),(.string ⟨⟨[]⟩⟩)] []),oN (.store 8 τ6 Xkc),oD 7 (.mv (.const (.string ⟨⟨[]⟩⟩))),oD 8 (.mv (.const (.int .i64 4)))]) .ret) .skip)) (.seq (.reg [oM 51 τ0,oM 52 τ9,oD 53 (.sliceS Xla (some (.const (.int .i64 20))) (some Xk8)),oD 54 (.callF 154 [Xmo]),oM 50 Xm6,oE 55 0 XkJ,oE 56 1 XkJ,oM 11 Xmv,oM 12 Xm5]) (.seq (.seq (.reg [oM 57 Xdr,oD 58 (.bin .neq XmR (.const (.int .i64 0)))]) (.cond XmY (.seq (.reg [oD 59 (.build [(.int .i64 0),(.int .i64 0),(.int .u32 0),(.int .u32 0),(.int .i64 0),(.int .i64 0),(.int .i64 0),(.string ⟨⟨[]⟩⟩)] []),oM 60 Xdr,oN (.store 8 τ6 Xnn),oD 7 (.mv (.const (.string ⟨⟨[]⟩⟩))),oM 8 Xn5]) .ret) .skip)) (.seq XKb .ret))))))))))
def XRc:VFn:=⟨85,Xye,[.cell 6 [(.int .i64),(.int .i64),(.int .u32),(.int .u32),(.int .i64),(.int .i64),(.int .i64),.str] true,.tmp 7,.tmp 8]⟩
def XSU:VC:=.regD [oD 26 (.loadN [.bool,(.int .u64),(.int .u64)] τ4),oD 27 (.callF 146 [Xge]),oD 28 (.loadN [.bool,(.int .u64),(.int .u64)] τ5),oD 29 (.callF 146 [Xgi]),oD 30 (.bin .add Xgn Xgf),oM 31 τ3,oD 32 (.callF 147 [XgO,(.const (.int .i64 4))]),oD 33 (.bin .add Xgw Xg5),oD 34 (.callF 147 [(.const (.int .i64 0)),(.const (.int .i64 3))]),oD 35 (.bin .add Xha Xhb),oM 36 τ2,oD 37 (.callF 147 [XhU,(.const (.int .i64 1))])] [(1,2)] [oD 38 (.bin .add Xhq XhT),oM 8 Xii]
def XKk:VC:=.regD [oD 39 (.loadN [.bool,(.int .u64),(.int .u64)] τ4),oD 40 (.callF 146 [XiX]),oD 41 (.loadN [.bool,(.int .u64),(.int .u64)] τ5),oD 42 (.callF 146 [Xjg]),oD 43 (.bin .add Xi4 XiU),oD 44 (.callF 147 [(.const (.int .i64 0)),(.const (.int .i64 1))]),oD 45 (.bin .add Xi3 XjY),oM 46 τ2,oD 47 (.callF 147 [Xke,(.const (.int .i64 1))]),oD 48 (.bin .add XjM Xkb),oM 49 τ3,oD 50 (.callF 147 [Xkc,(.const (.int .i64 2))])] [(1,2)] [oD 51 (.bin .add Xkd XkJ),oM 8 Xla]
def XAR:VC:=.seq (.reg [oD 4 (.box τ0),oD 5 (.box τ1),oD 8 (.mv (.const (.string ⟨⟨[]⟩⟩)))]) (.seq (.seq (.reg [oD 9 (.loadN [.bool,(.int .u64),(.int .u64)] τ4),oD 10 (.callF 59 [τ9]),oD 11 (.not XcT),oM 12 XcS,oG 13 (.loadN [.bool,(.int .u64),(.int .u64)] τ5) 12 false,oG 14 (.callF 59 [XdU]) 12 false,oG 15 (.not Xet) 12 false,oD 16 (.pick Xdr (.const (.bool true)) Xem),oM 17 XeC,oG 18 (.fieldA 0 τ4) 17 false,oG 19 (.load1 .bool XeQ) 17 false,oG 20 (.fieldA 0 τ5) 17 false,oG 21 (.load1 .bool Xe4) 17 false,oG 22 (.eqB true XeM Xfw) 17 false,oD 23 (.pick Xen (.const (.bool true)) Xfv)]) (.cond Xfs (.seq (.reg [oD 8 (.mv (.const (.string ⟨⟨[]⟩⟩)))]) .ret) .skip)) (.seq (.seq (.reg [oD 24 (.fieldA 0 τ4),oD 25 (.load1 .bool XfN)]) (.cond Xgd (.seq XSU .ret) .skip)) (.seq XKk .ret)))
def XT7:VFn:=⟨52,XAR,[.tmp 8]⟩
def XWg:VC:=.seq (.reg [oD 1 (.box τ0),oD 2 (.mv (.const (.bool false)))]) (.seq (.reg [oD 3 (.fieldA 0 τ1),oD 4 (.load1 .bool τ3),oM 5 τ4,oG 6 (.fieldA 1 τ1) 5 false,oG 7 (.load1 (.int .u64) τ6) 5 false,oG 8 (.bin .eql τ7 (.const (.int .u64 0))) 5 false,oG 9 (.mv τ8) 5 false,oG 10 (.fieldA 2 τ1) 9 true,oG 11 (.load1 (.int .u64) XcT) 9 true,oG 12 (.bin .lss XcS (.const (.int .u64 4294967296))) 9 true,oG 13 (.pick τ9 Xdr (.const (.bool false))) 5 false,oD 14 (.pick τ5 (.const (.bool true)) XdU),oM 2 Xet]) .ret)
def fn59:VFn:=⟨15,XWg,[.tmp 2]⟩
def XQV:VC:=.regD [oD 8 (.fieldA 1 τ1),oD 9 (.load1 (.int .u64) τ8),oD 10 (.callF 63 [τ9,(.const (.int .i64 8))]),oD 11 (.fieldA 2 τ1),oD 12 (.load1 (.int .u64) XcS)] [(2,4)] [oD 13 (.callF 63 [Xdr,(.const (.int .i64 8))]),oD 14 (.bin .add XcT XdU),oM 2 Xet]
def Xyd:VC:=.seq (.reg [oD 1 (.box τ0),oD 2 (.mv (.const (.string ⟨⟨[]⟩⟩)))]) (.seq (.seq (.reg [oD 3 (.loadN [.bool,(.int .u64),(.int .u64)] τ1),oD 4 (.callF 59 [τ3]),oD 5 (.not τ4)]) (.cond τ5 (.seq (.reg [oD 2 (.mv (.const (.string ⟨⟨[]⟩⟩)))]) .ret) .skip)) (.seq (.seq (.reg [oD 6 (.fieldA 0 τ1),oD 7 (.load1 .bool τ6)]) (.cond τ7 (.seq XQV .ret) .skip)) (.seq (.reg [oD 15 (.fieldA 2 τ1),oD 16 (.load1 (.int .u64) Xem),oD 17 (.callF 63 [XeC,(.const (.int .i64 4))]),oM 2 Xen]) .ret)))
def XSe:VFn:=⟨18,Xyd,[.tmp 2]⟩
def Xzg:VC:=.seq (.seq (.reg [oM 7 τ6,oM 8 τ1,oD 9 (.bin .lss τ7 τ8),oM 10 τ9,oG 11 (.mv τ1) 10 true,oG 12 (.bin .leq XcS (.const (.int .i64 8))) 10 true,oD 13 (.pick XcT Xdr (.const (.bool false)))]) (.cond XdU .skip (.exit 0))) (.seq (.block 1 (.seq (.reg [oM 16 τ0,oD 17 (.bin .rem XeC (.const (.int .u64 256))),oD 18 (.conv .u8 Xen),oD 19 (.buildSl 1 1 [(.int .u8 0)] [(0,1,XeQ)]),oD 20 (.b2s XeM),oM 21 τ5,oD 22 (.bin .add Xe4 Xfw),oM 5 Xfv]) (.reg [oM 23 τ0,oD 24 (.bin .quo Xfs (.const (.int .u64 256))),oM 0 XfN]))) (.reg [oM 14 τ6,oD 15 (.bin .add Xet (.const (.int .i64 1))),oM 6 Xem]))
def XH5:VC:=.seq (.reg [oM 25 τ5,oM 4 Xgd]) .ret
def XII:VC:=.seq (.reg [oD 4 (.mv (.const (.string ⟨⟨[]⟩⟩)))]) (.seq (.reg [oD 5 (.mv (.const (.string ⟨⟨[]⟩⟩)))]) (.seq (.seq (.reg [oD 6 (.mv (.const (.int .i64 0)))]) (.block 0 (.loop Xzg))) XH5))
def fn63:VFn:=⟨26,XII,[.tmp 4]⟩
def XJv:VC:=.seq (.reg [oD 4 (.mv (.const (.string ⟨⟨[]⟩⟩)))]) (.seq (.reg [oM 5 τ0,oD 6 (.conv .u64 τ5),oM 7 τ1,oD 8 (.callF 63 [τ6,τ7]),oM 4 τ8]) .ret)
def XSg:VFn:=⟨9,XJv,[.tmp 4]⟩
def XKI:VC:=.regD [oM 52 τ4,oM 53 τ0,oM 54 τ5,oD 55 (.idxS Xmo Xm6),oD 56 (.conv .i64 Xmv),oM 57 τ0,oM 58 τ5,oD 59 (.bin .add XmY (.const (.int .i64 2))),oM 60 τ5,oM 61 τ6,oD 62 (.bin .add Xn5 Xon),oD 63 (.sliceS XmR (some Xnn) (some XoU)),oM 64 τ5,oD 65 (.bin .add Xqq (.const (.int .i64 2))),oD 66 (.build [(.int .i64 0),(.string ⟨⟨[]⟩⟩),(.int .i64 0)] [(0,1,Xm5),(1,1,Xqr),(2,1,Xq4)]),oD 67 (.buildSl 1 3 [(.int .i64 0),(.string ⟨⟨[]⟩⟩),(.int .i64 0)] [(0,3,XqY)])] [] [oD 68 (.app 213 3 32 Xk8 Xqy),oM 4 Xqw]
def Xuj:VC:=.seq (.seq (.reg [oM 7 τ5,oM 8 τ0,oD 9 (.lenS τ8),oD 10 (.bin .lss τ7 τ9),oM 11 XcT,oG 12 (.mv τ0) 11 true,oG 13 (.mv τ5) 11 true,oG 14 (.idxS Xdr XdU) 11 true,oG 15 (.bin .neq Xet (.const (.int .u8 0))) 11 true,oD 16 (.pick XcS Xem (.const (.bool false)))]) (.cond XeC .skip (.exit 0))) (.block 1 (.seq (.seq (.reg [oM 17 τ0,oM 18 τ5,oD 19 (.idxS Xen XeQ),oD 20 (.bin .eql XeM (.const (.int .u8 1)))]) (.cond Xe4 (.seq (.reg [oM 21 τ5,oD 22 (.bin .add Xfw (.const (.int .i64 1))),oM 5 Xfv]) (.exit 1)) .skip)) (.seq (.seq (.reg [oM 23 τ5,oD 24 (.bin .add Xfs (.const (.int .i64 1))),oM 25 τ0,oD 26 (.lenS Xgd),oD 27 (.bin .geq XfN Xge),oM 28 Xgn,oG 29 (.mv τ0) 28 false,oG 30 (.mv τ5) 28 false,oG 31 (.bin .add Xgw (.const (.int .i64 1))) 28 false,oG 32 (.idxS Xgf XgO) 28 false,oG 33 (.bin .lss Xg5 (.const (.int .u8 2))) 28 false,oD 34 (.pick Xgi (.const (.bool true)) Xha),oM 35 Xhb,oG 36 (.mv τ0) 35 false,oG 37 (.mv τ5) 35 false,oG 38 (.bin .add XhT (.const (.int .i64 1))) 35 false,oG 39 (.idxS XhU Xii) 35 false,oG 40 (.conv .i64 XiX) 35 false,oG 41 (.mv τ0) 35 false,oG 42 (.lenS Xjg) 35 false,oG 43 (.mv τ5) 35 false,oG 44 (.bin .sub XiU Xi3) 35 false,oG 45 (.bin .gtr Xi4 XjY) 35 false,oD 46 (.pick Xhq (.const (.bool true)) XjM)]) (.cond Xke (.seq (.reg [oD 2 (.mv (.const (.slice none 0 0))),oD 3 (.mv (.const (.int .i64 3)))]) .ret) .skip)) (.seq (.reg [oM 47 τ0,oM 48 τ5,oD 49 (.bin .add Xkd (.const (.int .i64 1))),oD 50 (.idxS Xkb Xkc),oD 51 (.conv .i64 XkJ),oM 6 Xla]) (.seq XKI (.reg [oM 69 τ5,oM 70 τ6,oD 71 (.bin .add Xsf Xsw),oM 5 XsA]))))))
def XzW:VC:=.seq (.reg [oM 72 τ4,oM 2 Xsx,oD 3 (.mv (.const (.int .i64 0)))]) .ret
def XBC:VC:=.seq (.reg [oD 2 (.mv (.const (.slice none 0 0))),oD 3 (.mv (.const (.int .i64 0)))]) (.seq (.reg [oD 4 (.mv (.const (.slice none 0 0)))]) (.seq (.seq (.reg [oD 5 (.mv (.const (.int .i64 0)))]) (.block 0 (.loop Xuj))) XzW))
def XSO:VFn:=⟨73,XBC,[.tmp 2,.tmp 3]⟩
def XOS:VC:=.regD [oM 32 τ5,oM 33 τ7,oD 34 (.idxAL 3 Xg5 Xha),oD 35 (.fieldA 1 Xhb),oD 36 (.load1 .str Xhq),oD 37 (.callF 88 [XhU,(.const (.int .i64 0)),(.const (.int .i64 4))]),oD 38 (.conv .u32 XhT),oM 39 τ5,oM 40 τ7,oD 41 (.idxAL 3 XiX Xi4),oD 42 (.fieldA 1 Xjg),oD 43 (.load1 .str XiU),oD 44 (.callF 88 [Xi3,(.const (.int .i64 4)),(.const (.int .i64 4))]),oD 45 (.conv .u32 XjY),oM 46 τ5,oM 47 τ7,oD 48 (.idxAL 3 Xke Xkb),oD 49 (.fieldA 2 Xkd),oD 50 (.load1 (.int .i64) Xkc),oM 2 Xii,oM 3 XjM] [(5,11),(5,18),(12,18)] [oM 4 XkJ]
def XuC:VC:=.seq (.seq (.reg [oM 13 τ7,oM 14 τ5,oD 15 (.lenL Xet),oD 16 (.bin .lss XdU Xem)]) (.cond XeC .skip (.exit 0))) (.seq (.block 1 (.seq (.reg [oM 19 τ5,oM 20 τ7,oD 21 (.idxAL 3 XeM Xe4),oD 22 (.fieldA 0 Xfw),oD 23 (.load1 (.int .i64) Xfv),oD 24 (.bin .eql Xfs (.const (.int .i64 8)))]) (.cond XfN (.seq (.seq (.reg [oM 25 τ5,oM 26 τ7,oD 27 (.idxAL 3 Xgd Xge),oD 28 (.fieldA 1 Xgn),oD 29 (.load1 .str Xgi),oD 30 (.lenS Xgf),oD 31 (.bin .neq Xgw (.const (.int .i64 8)))]) (.cond XgO (.seq (.reg [oD 2 (.mv (.const (.int .u32 0))),oD 3 (.mv (.const (.int .u32 0))),oD 4 (.mv (.const (.int .i64 (-1))))]) .ret) .skip)) (.seq XOS .ret)) .skip))) (.reg [oM 17 τ7,oD 18 (.bin .add Xen (.const (.int .i64 1))),oM 7 XeQ]))
def Xy9:VC:=.seq (.reg [oD 2 (.mv (.const (.int .u32 0))),oD 3 (.mv (.const (.int .u32 0))),oD 4 (.mv (.const (.int .i64 (-1))))]) .ret
def XBj:VC:=.seq (.reg [oD 2 (.mv (.const (.int .u32 0))),oD 3 (.mv (.const (.int .u32 0))),oD 4 (.mv (.const (.int .i64 0)))]) (.seq (.reg [oM 9 τ0,oD 10 (.callF 154 [τ9]),oM 8 XcT,oE 11 0 τ8,oE 12 1 τ8,oM 5 XcS,oM 6 Xdr]) (.seq (.seq (.reg [oD 7 (.mv (.const (.int .i64 0)))]) (.block 0 (.loop XuC))) Xy9))
def XUd:VFn:=⟨51,XBj,[.tmp 2,.tmp 3,.tmp 4]⟩
def XJK:VC:=.regD [oM 46 τ0,oD 47 (.callF 88 [Xke,(.const (.int .i64 0)),(.const (.int .i64 2))]),oM 48 τ0,oD 49 (.callF 88 [Xkd,(.const (.int .i64 2)),(.const (.int .i64 2))]),oD 50 (.build [(.int .i64 0),(.int .i64 0)] [(0,1,Xkb),(1,1,Xkc)]),oM 51 τ0,oM 52 τ9,oD 53 (.sliceS Xla (some (.const (.int .i64 8))) (some Xk8)),oN (.store 2 τ6 XkJ)] [] [oM 7 Xmo,oD 8 (.mv (.const (.int .i64 0)))]
def XyD:VC:=.seq (.reg [oD 4 (.box τ1),oD 5 (.box τ2),oD 6 (.alloc [(.int .i64 0),(.int .i64 0)]),oD 7 (.mv (.const (.string ⟨⟨[]⟩⟩))),oD 8 (.mv (.const (.int .i64 0)))]) (.seq (.seq (.reg [oM 11 τ0,oD 12 (.lenS XcS),oD 13 (.bin .lss Xdr (.const (.int .i64 8)))]) (.cond XdU (.seq (.reg [oD 14 (.build [(.int .i64 0),(.int .i64 0)] []),oN (.store 2 τ6 Xet),oD 7 (.mv (.const (.string ⟨⟨[]⟩⟩))),oD 8 (.mv (.const (.int .i64 2)))]) .ret) .skip)) (.seq (.reg [oM 15 τ0,oD 16 (.callF 88 [Xem,(.const (.int .i64 4)),(.const (.int .i64 2))]),oM 9 XeC]) (.seq (.seq (.reg [oM 17 τ9,oD 18 (.bin .lss Xen (.const (.int .i64 8)))]) (.cond XeQ (.seq (.reg [oD 19 (.build [(.int .i64 0),(.int .i64 0)] []),oN (.store 2 τ6 XeM),oD 7 (.mv (.const (.string ⟨⟨[]⟩⟩))),oD 8 (.mv (.const (.int .i64 3)))]) .ret) .skip)) (.seq (.seq (.reg [oM 20 τ0,oD 21 (.lenS Xe4),oM 22 τ9,oD 23 (.bin .lss Xfw Xfv)]) (.cond Xfs (.seq (.reg [oD 24 (.build [(.int .i64 0),(.int .i64 0)] []),oN (.store 2 τ6 XfN),oD 7 (.mv (.const (.string ⟨⟨[]⟩⟩))),oD 8 (.mv (.const (.int .i64 2)))]) .ret) .skip)) (.seq (.reg [oD 25 (.loadN [.bool,(.int .u64),(.int .u64)] τ4),oD 26 (.loadN [.bool,(.int .u64),(.int .u64)] τ5),oM 27 τ9,oD 28 (.callF 101 [Xgd,Xge,(.const (.int .i64 17)),Xgn]),oM 10 Xgi]) (.seq (.seq (.reg [oM 29 XcT,oD 30 (.bin .eql Xgf (.const (.string ⟨⟨[]⟩⟩)))]) (.cond Xgw (.seq (.reg [oD 31 (.build [(.int .i64 0),(.int .i64 0)] []),oN (.store 2 τ6 XgO),oD 7 (.mv (.const (.string ⟨⟨[]⟩⟩))),oD 8 (.mv (.const (.int .i64 1)))]) .ret) .skip)) (.seq (.seq (.reg [oM 32 τ0,oD 33 (.callF 88 [Xg5,(.const (.int .i64 6)),(.const (.int .i64 2))]),oD 34 (.bin .eql Xha (.const (.int .i64 0)))]) (.cond Xhb (.seq (.reg [oD 35 (.fieldA 0 τ4),oD 36 (.load1 .bool Xhq)]) (.cond XhU (.seq (.reg [oD 37 (.build [(.int .i64 0),(.int .i64 0)] []),oN (.store 2 τ6 XhT),oD 7 (.mv (.const (.string ⟨⟨[]⟩⟩))),oD 8 (.mv (.const (.int .i64 4)))]) .ret) .skip)) (.seq (.reg [oM 38 XcT,oM 39 τ0,oM 40 τ9,oD 41 (.sliceS XiX none (some Xi4)),oD 42 (.bin .add Xii Xjg),oD 43 (.callF 86 [XiU]),oD 44 (.bin .neq Xi3 (.const (.int .i64 65535)))]) (.cond XjY (.seq (.reg [oD 45 (.build [(.int .i64 0),(.int .i64 0)] []),oN (.store 2 τ6 XjM),oD 7 (.mv (.const (.string ⟨⟨[]⟩⟩))),oD 8 (.mv (.const (.int .i64 4)))]) .ret) .skip)))) (.seq XJK .ret))))))))
def XWw:VFn:=⟨54,XyD,[.cell 6 [(.int .i64),(.int .i64)] true,.tmp 7,.tmp 8]⟩
def XRl:VC:=.regD [oM 19 τ0,oD 20 (.idxS XeM (.const (.int .i64 0))),oD 21 (.bin .geq Xe4 (.const (.int .u8 128))),oM 22 τ0,oD 23 (.idxS Xfv (.const (.int .i64 0))),oD 24 (.bin .rem Xfs (.const (.int .u8 64))),oD 25 (.conv .i64 XfN),oD 26 (.build [(.bool false),(.int .i64 0),(.int .u32 0),(.string ⟨⟨[]⟩⟩),(.string ⟨⟨[]⟩⟩),(.string ⟨⟨[]⟩⟩)] [(0,1,Xfw),(1,1,Xgd)]),oD 4 (.alloc [(.bool false),(.int .i64 0),(.int .u32 0),(.string ⟨⟨[]⟩⟩),(.string ⟨⟨[]⟩⟩),(.string ⟨⟨[]⟩⟩)])] [] [oN (.store 6 τ4 Xge)]
def XIN:VC:=.seq (.reg [oD 2 (.alloc [(.bool false),(.int .i64 0),(.int .u32 0),(.string ⟨⟨[]⟩⟩),(.string ⟨⟨[]⟩⟩),(.string ⟨⟨[]⟩⟩)]),oD 3 (.mv (.const (.int .i64 0)))]) (.seq (.seq (.reg [oM 10 τ0,oD 11 (.bin .eql XcT (.const (.string ⟨⟨[]⟩⟩)))]) (.cond XcS (.seq (.reg [oD 12 (.build [(.bool false),(.int .i64 0),(.int .u32 0),(.string ⟨⟨[]⟩⟩),(.string ⟨⟨[]⟩⟩),(.string ⟨⟨[]⟩⟩)] []),oN (.store 6 τ2 Xdr),oD 3 (.mv (.const (.int .i64 2)))]) .ret) .skip)) (.seq (.seq (.reg [oM 13 τ0,oD 14 (.idxS XdU (.const (.int .i64 0))),oD 15 (.bin .quo Xet (.const (.int .u8 64))),oD 16 (.bin .rem Xem (.const (.int .u8 2))),oD 17 (.bin .eql XeC (.const (.int .u8 0)))]) (.cond Xen (.seq (.reg [oD 18 (.build [(.bool false),(.int .i64 0),(.int .u32 0),(.string ⟨⟨[]⟩⟩),(.string ⟨⟨[]⟩⟩),(.string ⟨⟨[]⟩⟩)] []),oN (.store 6 τ2 XeQ),oD 3 (.mv (.const (.int .i64 3)))]) .ret) .skip)) (.seq XRl (.seq (.seq (.reg [oD 27 (.fieldA 0 τ4),oD 28 (.load1 .bool Xgn),oD 29 (.not Xgi)]) (.cond Xgf (.seq (.seq (.reg [oM 30 τ0,oD 31 (.lenS Xgw),oD 32 (.bin .lss XgO (.const (.int .i64 9)))]) (.cond Xg5 (.seq (.reg [oD 33 (.build [(.bool false),(.int .i64 0),(.int .u32 0),(.string ⟨⟨[]⟩⟩),(.string ⟨⟨[]⟩⟩),(.string ⟨⟨[]⟩⟩)] []),oN (.store 6 τ2 Xha),oD 3 (.mv (.const (.int .i64 2)))]) .ret) .skip)) (.seq (.reg [oM 34 τ0,oD 35 (.sliceS Xhb (some (.const (.int .i64 1))) (some (.const (.int .i64 9)))),oD 36 (.fieldA 3 τ4),oN (.store 1 XhU Xhq)]) (.seq (.reg [oM 37 τ0,oD 38 (.sliceS XhT (some (.const (.int .i64 9))) none),oD 39 (.fieldA 5 τ4),oN (.store 1 XiX Xii)]) (.seq (.reg [oD 40 (.loadN [.bool,(.int .i64),(.int .u32),.str,.str,.str] τ4),oN (.store 6 τ2 Xi4),oD 3 (.mv (.const (.int .i64 0)))]) .ret)))) .skip)) (.seq (.seq (.reg [oM 41 τ0,oD 42 (.lenS Xjg),oD 43 (.bin .lss XiU (.const (.int .i64 5)))]) (.cond Xi3 (.seq (.reg [oD 44 (.build [(.bool false),(.int .i64 0),(.int .u32 0),(.string ⟨⟨[]⟩⟩),(.string ⟨⟨[]⟩⟩),(.string ⟨⟨[]⟩⟩)] []),oN (.store 6 τ2 XjY),oD 3 (.mv (.const (.int .i64 2)))]) .ret) .skip)) (.seq (.reg [oM 45 τ0,oD 46 (.callF 88 [XjM,(.const (.int .i64 1)),(.const (.int .i64 4))]),oD 47 (.conv .u32 Xke),oD 48 (.fieldA 2 τ4),oN (.store 1 Xkd Xkb)]) (.seq (.reg [oM 50 τ0,oD 51 (.callF 126 [XkJ,(.const (.int .i64 5))]),oM 49 Xla,oE 52 0 Xkc,oE 53 1 Xkc,oE 54 2 Xkc,oM 5 Xk8,oM 6 Xmo,oM 7 Xm6]) (.seq (.seq (.reg [oM 55 τ6,oD 56 (.bin .neq Xmv (.const (.int .i64 0)))]) (.cond Xm5 (.seq (.reg [oD 57 (.build [(.bool false),(.int .i64 0),(.int .u32 0),(.string ⟨⟨[]⟩⟩),(.string ⟨⟨[]⟩⟩),(.string ⟨⟨[]⟩⟩)] []),oM 58 τ6,oN (.store 6 τ2 XmR),oM 3 XmY]) .ret) .skip)) (.seq (.reg [oM 60 τ0,oM 61 τ7,oD 62 (.callF 126 [Xn5,Xon]),oM 59 XoU,oE 63 0 Xnn,oE 64 1 Xnn,oE 65 2 Xnn,oM 8 Xqr,oM 6 Xqq,oM 9 Xq4]) (.seq (.seq (.reg [oM 66 τ6,oD 67 (.bin .neq XqY (.const (.int .i64 0)))]) (.cond Xqy (.seq (.reg [oD 68 (.build [(.bool false),(.int .i64 0),(.int .u32 0),(.string ⟨⟨[]⟩⟩),(.string ⟨⟨[]⟩⟩),(.string ⟨⟨[]⟩⟩)] []),oM 69 τ6,oN (.store 6 τ2 Xqw),oM 3 Xsf]) .ret) .skip)) (.seq (.reg [oM 70 τ5,oD 71 (.fieldA 3 τ4),oN (.store 1 XsA Xsw)]) (.seq (.reg [oM 72 τ8,oD 73 (.fieldA 4 τ4),oN (.store 1 XtQ Xsx)]) (.seq (.reg [oM 74 τ0,oM 75 τ9,oD 76 (.sliceS Xvo (some Xwh) none),oD 77 (.fieldA 5 τ4),oN (.store 1 Xxv Xxk)]) (.seq (.reg [oD 78 (.loadN [.bool,(.int .i64),(.int .u32),.str,.str,.str] τ4),oN (.store 6 τ2 Xxu),oD 3 (.mv (.const (.int .i64 0)))]) .ret))))))))))))))
def fn74:VFn:=⟨79,XIN,[.cell 2 [.bool,(.int .i64),(.int .u32),.str,.str,.str] true,.tmp 3]⟩
def Xy5:VC:=.seq (.reg [oD 4 (.mv (.const (.string ⟨⟨[]⟩⟩))),oD 5 (.mv (.const (.int .i64 0))),oD 6 (.mv (.const (.int .i64 0)))]) (.seq (.seq (.reg [oM 8 τ1,oM 9 τ0,oD 10 (.lenS τ9),oD 11 (.bin .geq τ8 XcT)]) (.cond XcS (.seq (.reg [oD 4 (.mv (.const (.string ⟨⟨[]⟩⟩))),oD 5 (.mv (.const (.int .i64 2))),oD 6 (.mv (.const (.int .i64 0)))]) .ret) .skip)) (.seq (.reg [oM 12 τ0,oM 13 τ1,oD 14 (.idxS Xdr XdU),oD 15 (.conv .i64 Xet),oM 7 Xem]) (.seq (.seq (.reg [oM 16 τ7,oD 17 (.bin .gtr XeC (.const (.int .i64 20)))]) (.cond Xen (.seq (.reg [oD 4 (.mv (.const (.string ⟨⟨[]⟩⟩))),oD 5 (.mv (.const (.int .i64 3))),oD 6 (.mv (.const (.int .i64 0)))]) .ret) .skip)) (.seq (.seq (.reg [oM 18 τ7,oM 19 τ0,oD 20 (.lenS XeM),oM 21 τ1,oD 22 (.bin .sub Xe4 Xfw),oD 23 (.bin .sub Xfv (.const (.int .i64 1))),oD 24 (.bin .gtr XeQ Xfs)]) (.cond XfN (.seq (.reg [oD 4 (.mv (.const (.string ⟨⟨[]⟩⟩))),oD 5 (.mv (.const (.int .i64 2))),oD 6 (.mv (.const (.int .i64 0)))]) .ret) .skip)) (.seq (.reg [oM 25 τ0,oM 26 τ1,oD 27 (.bin .add Xge (.const (.int .i64 1))),oM 28 τ1,oD 29 (.bin .add Xgi (.const (.int .i64 1))),oM 30 τ7,oD 31 (.bin .add Xgf Xgw),oD 32 (.sliceS Xgd (some Xgn) (some XgO)),oM 33 τ1,oD 34 (.bin .add Xha (.const (.int .i64 1))),oM 35 τ7,oD 36 (.bin .add Xhb Xhq),oM 4 Xg5,oD 5 (.mv (.const (.int .i64 0))),oM 6 XhU]) .ret)))))
def XVP:VFn:=⟨37,Xy5,[.tmp 4,.tmp 5,.tmp 6]⟩
def XOr:VC:=.seq (.reg [oM 4 τ0,oD 5 (.callF 72 [τ4])]) (.cond τ5 (.reg [oM 6 τ0,oD 7 (.nilCheck τ6),oD 8 (.fieldA 12 τ7),oD 9 (.load1 (.int .u32) τ8),oM 10 τ1,oD 11 (.bin .add τ9 XcT),oD 12 (.nilCheck τ6),oD 13 (.fieldA 12 Xdr),oN (.store 1 XdU XcS)]) .skip)
def fn41:VFn:=⟨14,XOr,[]⟩
def XMo:VC:=.seq (.reg [oD 6 (.mv (.const (.string ⟨⟨[]⟩⟩))),oD 7 (.mv (.const (.int .i64 0)))]) (.seq (.seq (.reg [oM 8 τ0,oD 9 (.callF 72 [τ8]),oD 10 (.not τ9)]) (.cond XcT (.seq (.reg [oD 6 (.mv (.const (.string ⟨⟨[]⟩⟩))),oD 7 (.mv (.const (.int .i64 1)))]) .ret) .skip)) (.seq (.reg [oM 11 τ0,oD 12 (.nilCheck XcS),oD 13 (.fieldA 9 Xdr),oD 14 (.fieldA 1 XdU),oD 15 (.load1 .oth Xet),oM 16 τ0,oM 17 τ1,oM 18 τ2,oD 19 (.callV Xem [XeC,Xen,XeQ]),oE 20 0 XeM,oE 21 1 XeM,oM 6 Xe4,oM 7 Xfw]) .ret))
def fn37:VFn:=⟨22,XMo,[.tmp 6,.tmp 7]⟩
def k42_6:VC:=.regD [oM 7 τ0,oD 8 (.nilCheck τ7),oD 9 (.fieldA 13 τ8),oD 10 (.load1 (.int .u32) τ9),oM 11 τ0,oD 12 (.nilCheck XcS),oD 13 (.fieldA 14 Xdr),oD 14 (.load1 .str XdU),oM 2 XcT] [] [oM 3 Xet]
def XT0:VC:=.seq (.reg [oD 2 (.mv (.const (.int .u32 0))),oD 3 (.mv (.const (.string ⟨⟨[]⟩⟩)))]) (.seq (.seq (.reg [oM 4 τ0,oD 5 (.callF 72 [τ4]),oD 6 (.not τ5)]) (.cond τ6 (.seq (.reg [oD 2 (.mv (.const (.int .u32 0))),oD 3 (.mv (.const (.string ⟨⟨[]⟩⟩)))]) .ret) .skip)) (.seq k42_6 .ret))
def fn42:VFn:=⟨15,XT0,[.tmp 2,.tmp 3]⟩
def XUj:VC:=.regD [oD 20 (.fieldA 0 τ5),oD 21 (.loadN [(.int .i64),.bool,(.int .u64),(.int .u64),.bool,(.int .u64),(.int .u64),(.int .i64),(.int .i64)] Xe4),oM 22 τ0,oD 23 (.nilCheck Xfv),oD 24 (.fieldA 0 Xfs),oD 25 (.loadN [(.int .i64),.bool,(.int .u64),(.int .u64),.bool,(.int .u64),(.int .u64),(.int .i64),(.int .i64)] XfN),oD 26 (.callF 53 [Xgd])] [(1,6)] [oD 27 (.eqAgg true [(0,(.int .i64)),(1,.bool),(2,(.int .u64)),(3,(.int .u64)),(4,.bool),(5,(.int .u64)),(6,(.int .u64)),(7,(.int .i64)),(8,(.int .i64))] Xfw Xge),oM 19 Xgn]
def XRC:VC:=.regD [oM 28 τ0,oD 29 (.nilCheck Xgi),oD 30 (.fieldA 9 Xgf),oD 31 (.fieldA 2 Xgw),oD 32 (.load1 .oth XgO),oM 33 τ0,oM 34 τ1,oD 35 (.loadN [(.int .i64),.bool,(.int .u64),(.int .u64),.bool,(.int .u64),(.int .u64),(.int .i64),(.int .i64),(.int .i64),.bool,(.int .u32),(.int .u32),.bool,.str,(.int .i64)] τ5)] [] [oD 36 (.callV Xg5 [Xha,Xhb,Xhq])]
def XIS:VC:=.seq (.reg [oD 4 (.mv (.const (.int .i64 0)))]) (.seq (.seq (.reg [oM 7 τ0,oD 8 (.callF 72 [τ7]),oD 9 (.not τ8)]) (.cond τ9 (.seq (.reg [oD 4 (.mv (.const (.int .i64 1)))]) .ret) .skip)) (.seq (.reg [oM 11 τ1,oD 12 (.callF 47 [XcS]),oM 10 Xdr,oE 13 0 XcT,oE 14 1 XcT,oD 5 (.alloc [(.int .i64 0),(.bool false),(.int .u64 0),(.int .u64 0),(.bool false),(.int .u64 0),(.int .u64 0),(.int .i64 0),(.int .i64 0),(.int .i64 0),(.bool false),(.int .u32 0),(.int .u32 0),(.bool false),(.string ⟨⟨[]⟩⟩),(.int .i64 0)]),oN (.store 16 τ5 XdU),oM 6 Xet]) (.seq (.block 0 (.seq (.reg [oM 16 τ6,oD 17 (.bin .neq XeC (.const (.int .i64 0))),oM 15 Xen]) (.cond Xem (.seq (.reg [oM 18 τ6,oM 4 XeQ]) .ret) (.seq XUj (.cond XeM (.seq (.reg [oD 4 (.mv (.const (.int .i64 16)))]) .ret) .skip))))) (.seq XRC (.seq (.reg [oD 4 (.mv (.const (.int .i64 0)))]) .ret)))))
def fn39:VFn:=⟨37,XIS,[.tmp 4]⟩
def XSB:VC:=.seq (.reg [oD 2 (.alloc [(.int .i64 0),(.bool false),(.int .u64 0),(.int .u64 0),(.bool false),(.int .u64 0),(.int .u64 0),(.int .i64 0),(.int .i64 0),(.int .i64 0),(.bool false),(.int .u32 0),(.int .u32 0),(.bool false),(.string ⟨⟨[]⟩⟩),(.int .i64 0)]),oD 3 (.mv (.const (.int .i64 0)))]) (.seq (.reg [oM 9 τ0,oD 10 (.callF 81 [τ9]),oM 8 XcT,oE 11 0 τ8,oE 12 1 τ8,oE 13 2 τ8,oE 14 3 τ8,oD 4 (.alloc [(.int .i64 0),(.bool false),(.int .u64 0),(.int .u64 0),(.bool false),(.int .u64 0),(.int .u64 0),(.int .i64 0),(.int .i64 0),(.int .i64 0),(.bool false),(.int .u32 0),(.int .u32 0),(.bool false),(.string ⟨⟨[]⟩⟩),(.int .i64 0)]),oN (.store 16 τ4 XcS),oM 5 Xdr,oM 6 XdU,oM 7 Xet]) (.seq (.reg [oD 15 (.loadN [(.int .i64),.bool,(.int .u64),(.int .u64),.bool,(.int .u64),(.int .u64),(.int .i64),(.int .i64),(.int .i64),.bool,(.int .u32),(.int .u32),.bool,.str,(.int .i64)] τ4),oM 16 τ7,oN (.store 16 τ2 Xem),oM 3 XeC]) .ret))
def fn47:VFn:=⟨17,XSB,[.cell 2 [(.int .i64),.bool,(.int .u64),(.int .u64),.bool,(.int .u64),(.int .u64),(.int .i64),(.int .i64),(.int .i64),.bool,(.int .u32),(.int .u32),.bool,.str,(.int .i64)] true,.tmp 3]⟩
def XSR:VC:=.seq (.reg [oD 1 (.box τ0),oD 2 (.alloc [(.int .i64 0),(.bool false),(.int .u64 0),(.int .u64 0),(.bool false),(.int .u64 0),(.int .u64 0),(.int .i64 0),(.int .i64 0)])]) (.seq (.reg [oD 3 (.fieldA 4 τ1),oD 4 (.loadN [.bool,(.int .u64),(.int .u64)] τ3),oD 5 (.fieldA 1 τ1),oD 6 (.loadN [.bool,(.int .u64),(.int .u64)] τ5),oD 7 (.fieldA 8 τ1),oD 8 (.load1 (.int .i64) τ7),oD 9 (.fieldA 7 τ1),oD 10 (.load1 (.int .i64) τ9),oD 11 (.fieldA 1 τ1),oN (.store 3 XcS τ4),oD 12 (.fieldA 4 τ1),oN (.store 3 Xdr τ6),oD 13 (.fieldA 7 τ1),oN (.store 1 XdU τ8),oD 14 (.fieldA 8 τ1),oN (.store 1 Xet XcT)]) (.seq (.reg [oD 15 (.loadN [(.int .i64),.bool,(.int .u64),(.int .u64),.bool,(.int .u64),(.int .u64),(.int .i64),(.int .i64)] τ1),oN (.store 9 τ2 Xem)]) .ret))
def fn53:VFn:=⟨16,XSR,[.cell 2 [(.int .i64),.bool,(.int .u64),(.int .u64),.bool,(.int .u64),(.int .u64),(.int .i64),(.int .i64)] true]⟩
def k34_6:VC:=.regD [oD 16 (.loadN [(.int .i64),.bool,(.int .u64),(.int .u64),.bool,(.int .u64),(.int .u64),(.int .i64),(.int .i64)] τ1),oD 17 (.callF 71 [])] [(0,1)] [oD 18 (.build [(.int .i64 0),(.bool false),(.int .u64 0),(.int .u64 0),(.bool false),(.int .u64 0),(.int .u64 0),(.int .i64 0),(.int .i64 0),(.int .u32 0),(.int .u32 0),(.string ⟨⟨[]⟩⟩)] [(0,9,XeC),(9,1,(.const (.int .u32 1))),(11,1,Xen)]),oD 19 (.box XeQ),oM 2 XeM]
def k34_9:VC:=.seq (.reg [oD 1 (.box τ0),oD 2 (.mv (.const (.pointer none)))]) (.seq (.seq (.reg [oD 3 (.loadN [(.int .i64),.bool,(.int .u64),(.int .u64),.bool,(.int .u64),(.int .u64),(.int .i64),(.int .i64)] τ1),oD 4 (.callF 23 [τ3]),oD 5 (.not τ4),oM 6 τ5,oG 7 (.fieldA 0 τ1) 6 false,oG 8 (.load1 (.int .i64) τ7) 6 false,oG 9 (.bin .neq τ8 (.const (.int .i64 6))) 6 false,oG 10 (.mv τ9) 6 false,oG 11 (.fieldA 0 τ1) 10 true,oG 12 (.load1 (.int .i64) XcS) 10 true,oG 13 (.bin .neq Xdr (.const (.int .i64 17))) 10 true,oG 14 (.pick XcT XdU (.const (.bool false))) 6 false,oD 15 (.pick τ6 (.const (.bool true)) Xet)]) (.cond Xem (.seq (.reg [oD 2 (.mv (.const (.pointer none)))]) .ret) .skip)) (.seq k34_6 .ret))
def fn34:VFn:=⟨20,k34_9,[.tmp 2]⟩
def XTN:VC:=.seq (.reg [oD 1 (.box τ0),oD 2 (.mv (.const (.bool false)))]) (.seq (.reg [oD 3 (.fieldA 0 τ1),oD 4 (.load1 (.int .i64) τ3),oD 5 (.callF 58 [τ4,(.const (.int .i64 255))]),oM 6 τ5,oG 7 (.fieldA 1 τ1) 6 true,oG 8 (.loadN [.bool,(.int .u64),(.int .u64)] τ7) 6 true,oG 9 (.callF 59 [τ8]) 6 true,oD 10 (.pick τ6 τ9 (.const (.bool false))),oM 11 XcT,oG 12 (.fieldA 4 τ1) 11 true,oG 13 (.loadN [.bool,(.int .u64),(.int .u64)] Xdr) 11 true,oG 14 (.callF 59 [XdU]) 11 true,oD 15 (.pick XcS Xet (.const (.bool false))),oM 16 Xem,oG 17 (.fieldA 1 τ1) 16 true,oG 18 (.fieldA 0 Xen) 16 true,oG 19 (.load1 .bool XeQ) 16 true,oG 20 (.fieldA 4 τ1) 16 true,oG 21 (.fieldA 0 Xe4) 16 true,oG 22 (.load1 .bool Xfw) 16 true,oG 23 (.eqB false XeM Xfv) 16 true,oD 24 (.pick XeC Xfs (.const (.bool false))),oM 25 XfN,oG 26 (.fieldA 7 τ1) 25 true,oG 27 (.load1 (.int .i64) Xge) 25 true,oG 28 (.callF 58 [Xgn,(.const (.int .i64 65535))]) 25 true,oD 29 (.pick Xgd Xgi (.const (.bool false))),oM 30 Xgf,oG 31 (.fieldA 8 τ1) 30 true,oG 32 (.load1 (.int .i64) XgO) 30 true,oG 33 (.callF 58 [Xg5,(.const (.int .i64 65535))]) 30 true,oD 34 (.pick Xgw Xha (.const (.bool false))),oM 2 Xhb]) .ret)
def fn23:VFn:=⟨35,XTN,[.tmp 2]⟩
def XVc:VC:=.seq (.reg [oD 4 (.mv (.const (.bool false)))]) (.seq (.reg [oM 5 τ0,oD 6 (.bin .geq τ5 (.const (.int .i64 0))),oM 7 τ6,oG 8 (.mv τ0) 7 true,oG 9 (.mv τ1) 7 true,oG 10 (.bin .leq τ8 τ9) 7 true,oD 11 (.pick τ7 XcT (.const (.bool false))),oM 4 XcS]) .ret)
def fn58:VFn:=⟨12,XVc,[.tmp 4]⟩
def k71_3:VC:=.seq (.reg [oD 0 (.mv (.const (.string ⟨⟨[]⟩⟩)))]) (.seq (.reg [oD 0 (.mv (.const (.string ⟨⟨[0,0,0,0,0,0,0,0]⟩⟩)))]) .ret)
def fn71:VFn:=⟨1,k71_3,[.tmp 0]⟩
def k36_2:VC:=.regD [oM 16 τ0,oD 17 (.nilCheck XeC),oD 18 (.fieldA 0 Xen),oD 19 (.loadN [(.int .i64),.bool,(.int .u64),(.int .u64),.bool,(.int .u64),(.int .u64),(.int .i64),(.int .i64)] XeQ),oM 20 τ0,oD 21 (.nilCheck Xe4),oD 22 (.fieldA 9 Xfw),oD 23 (.load1 (.int .u32) Xfv),oD 24 (.callF 25 [Xfs,(.const (.int .u32 0))]),oD 25 (.callF 24 [XeM,(.const (.int .i64 2)),XfN,(.const (.string ⟨⟨[]⟩⟩))]),oM 15 Xgd,oE 26 0 Xem,oE 27 1 Xem,oM 3 Xge] [(3,8)] [oM 4 Xgn]
def XQr:VC:=.seq (.reg [oD 2 (.mv (.const (.string ⟨⟨[]⟩⟩)))]) (.seq (.seq (.reg [oM 9 τ0,oD 10 (.nilCheck τ9),oD 11 (.fieldA 0 XcT),oD 12 (.fieldA 0 XcS),oD 13 (.load1 (.int .i64) Xdr),oD 14 (.bin .eql XdU (.const (.int .i64 6)))]) (.cond Xet (.seq k36_2 (.seq (.reg [oM 28 τ3,oM 2 Xgi]) .ret)) .skip)) (.seq (.reg [oD 30 (.callF 71 []),oD 31 (.build [(.bool false),(.int .i64 0),(.int .u32 0),(.string ⟨⟨[]⟩⟩),(.string ⟨⟨[]⟩⟩),(.string ⟨⟨[]⟩⟩)] [(0,1,(.const (.bool true))),(2,1,(.const (.int .u32 1))),(3,1,Xgw),(4,1,(.const (.string ⟨⟨[0,0]⟩⟩)))]),oD 32 (.callF 43 [XgO]),oM 29 Xg5,oE 33 0 Xgf,oE 34 1 Xgf,oM 5 Xha,oM 6 Xhb]) (.seq (.reg [oM 36 τ0,oD 37 (.nilCheck XhU),oD 38 (.fieldA 0 XhT),oD 39 (.loadN [(.int .i64),.bool,(.int .u64),(.int .u64),.bool,(.int .u64),(.int .u64),(.int .i64),(.int .i64)] Xii),oM 40 τ5,oD 41 (.callF 44 [XiX,Xi4]),oM 35 Xjg,oE 42 0 Xhq,oE 43 1 Xhq,oM 7 XiU,oM 8 Xi3]) (.seq (.reg [oM 44 τ7,oM 2 XjY]) .ret))))
def fn36:VFn:=⟨45,XQr,[.tmp 2]⟩
def k25_3:VC:=.seq (.reg [oD 4 (.mv (.const (.string ⟨⟨[]⟩⟩)))]) (.seq (.reg [oM 5 τ0,oD 6 (.conv .i64 τ5),oD 7 (.callF 62 [τ6,(.const (.int .i64 4))]),oD 8 (.bin .add (.const (.string ⟨⟨[1,1,8,10]⟩⟩)) τ7),oM 9 τ1,oD 10 (.conv .i64 τ9),oD 11 (.callF 62 [XcT,(.const (.int .i64 4))]),oD 12 (.bin .add τ8 XcS),oM 4 Xdr]) .ret)
def fn25:VFn:=⟨13,k25_3,[.tmp 4]⟩
def k62_3:VC:=.seq (.reg [oD 4 (.mv (.const (.string ⟨⟨[]⟩⟩)))]) (.seq (.reg [oM 5 τ0,oD 6 (.conv .u64 τ5),oM 7 τ1,oD 8 (.callF 63 [τ6,τ7]),oM 4 τ8]) .ret)
def fn62:VFn:=⟨9,k62_3,[.tmp 4]⟩
def XR5:VC:=.seq (.reg [oD 4 (.box τ0),oD 8 (.mv (.const (.string ⟨⟨[]⟩⟩))),oD 9 (.mv (.const (.int .i64 0)))]) (.seq (.seq (.reg [oD 12 (.fieldA 0 τ4),oD 13 (.load1 (.int .i64) Xdr),oD 14 (.bin .neq XdU (.const (.int .i64 6)))]) (.cond Xet (.seq (.reg [oD 8 (.mv (.const (.string ⟨⟨[]⟩⟩))),oD 9 (.mv (.const (.int .i64 1)))]) .ret) .skip)) (.seq (.reg [oD 16 (.fieldA 7 τ4),oD 17 (.load1 (.int .i64) XeC),oD 18 (.fieldA 8 τ4),oD 19 (.load1 (.int .i64) XeQ),oM 20 τ1,oM 21 τ2,oD 22 (.build [(.int .i64 0),(.int .i64 0),(.int .u32 0),(.int .u32 0),(.int .i64 0),(.int .i64 0),(.int .i64 0),(.string ⟨⟨[]⟩⟩)] [(0,1,Xen),(1,1,XeM),(4,1,Xe4),(5,1,(.const (.int .i64 65535))),(7,1,Xfw)]),oD 23 (.fieldA 1 τ4),oD 24 (.loadN [.bool,(.int .u64),(.int .u64)] Xfs),oD 25 (.fieldA 4 τ4),oD 26 (.loadN [.bool,(.int .u64),(.int .u64)] Xgd),oM 27 τ3,oD 28 (.callF 60 [Xfv,XfN,Xge,Xgn]),oM 15 Xgi,oE 29 0 Xem,oE 30 1 Xem,oM 10 Xgf,oM 11 Xgw]) (.seq (.seq (.reg [oM 31 XcS,oD 32 (.bin .neq XgO (.const (.int .i64 0)))]) (.cond Xg5 (.seq (.reg [oM 33 XcS,oD 8 (.mv (.const (.string ⟨⟨[]⟩⟩))),oM 9 Xha]) .ret) .skip)) (.seq (.reg [oD 34 (.loadN [(.int .i64),.bool,(.int .u64),(.int .u64),.bool,(.int .u64),(.int .u64),(.int .i64),(.int .i64)] τ4),oM 35 XcT,oD 36 (.callF 61 [Xhb,Xhq]),oE 37 0 XhU,oE 38 1 XhU,oM 8 XhT,oM 9 Xii]) .ret))))
def fn24:VFn:=⟨39,XR5,[.tmp 8,.tmp 9]⟩
def XTj:VC:=.regD [oD 36 (.fieldA 0 τ4),oD 37 (.load1 (.int .i64) XhU),oD 38 (.callF 62 [XhT,(.const (.int .i64 2))]),oD 39 (.fieldA 1 τ4),oD 40 (.load1 (.int .i64) XiX),oD 41 (.callF 62 [Xi4,(.const (.int .i64 2))]),oD 42 (.bin .add Xii Xjg),oD 43 (.fieldA 2 τ4),oD 44 (.load1 (.int .u32) Xi3),oD 45 (.conv .i64 XjY),oD 46 (.callF 62 [XjM,(.const (.int .i64 4))]),oD 47 (.bin .add XiU Xke),oD 48 (.fieldA 3 τ4),oD 49 (.load1 (.int .u32) Xkd),oD 50 (.conv .i64 Xkc),oD 51 (.callF 62 [XkJ,(.const (.int .i64 4))]),oD 52 (.bin .add Xkb Xla),oM 53 XcT,oD 54 (.bin .mul (.const (.int .i64 4)) Xmo),oD 55 (.callF 62 [Xm6,(.const (.int .i64 1))]),oD 56 (.bin .add Xk8 Xmv),oD 57 (.fieldA 4 τ4),oD 58 (.load1 (.int .i64) XmR),oD 59 (.callF 62 [XmY,(.const (.int .i64 1))]),oD 60 (.bin .add Xm5 Xnn),oD 61 (.fieldA 5 τ4),oD 62 (.load1 (.int .i64) Xon),oD 63 (.callF 62 [XoU,(.const (.int .i64 2))]),oD 64 (.bin .add Xn5 Xqr),oD 65 (.callF 62 [(.const (.int .i64 0)),(.const (.int .i64 2))]),oD 66 (.bin .add Xqq Xq4),oD 67 (.fieldA 6 τ4),oD 68 (.load1 (.int .i64) Xqy),oD 69 (.callF 62 [Xqw,(.const (.int .i64 2))]),oD 70 (.bin .add XqY Xsf),oD 71 (.fieldA 7 τ4),oD 72 (.load1 .str XsA),oD 73 (.bin .add Xsw Xsx),oM 74 τ3] [(2,4),(2,8),(2,13),(2,22),(2,26),(2,32),(2,36),(5,8),(5,13),(5,22),(5,26),(5,32),(5,36),(10,13),(10,22),(10,26),(10,32),(10,36),(15,22),(15,26),(15,32),(15,36),(19,22),(19,26),(19,32),(19,36),(23,26),(23,32),(23,36),(27,32),(27,36),(29,32),(29,36),(33,36)] [oD 75 (.bin .add XtQ Xvo),oM 12 Xwh]
def XSh:VC:=.seq (.reg [oD 4 (.box τ0),oD 5 (.box τ1),oD 6 (.box τ2),oD 8 (.mv (.const (.string ⟨⟨[]⟩⟩))),oD 9 (.mv (.const (.int .i64 0)))]) (.seq (.reg [oD 13 (.fieldA 7 τ4),oD 14 (.load1 .str XdU),oD 15 (.lenS Xet),oD 16 (.bin .add (.const (.int .i64 20)) Xem),oM 10 XeC]) (.seq (.reg [oD 17 (.loadN [.bool,(.int .u64),(.int .u64)] τ5),oD 18 (.loadN [.bool,(.int .u64),(.int .u64)] τ6),oM 19 XcT,oM 20 τ3,oD 21 (.lenS Xe4),oD 22 (.bin .add XeM Xfw),oD 23 (.callF 101 [Xen,XeQ,(.const (.int .i64 6)),Xfv]),oM 11 Xfs]) (.seq (.seq (.reg [oD 24 (.loadN [(.int .i64),(.int .i64),(.int .u32),(.int .u32),(.int .i64),(.int .i64),(.int .i64),.str] τ4),oD 25 (.callF 102 [XfN]),oD 26 (.not Xgd),oM 27 Xge,oG 28 (.mv XcS) 27 false,oG 29 (.bin .eql Xgi (.const (.string ⟨⟨[]⟩⟩))) 27 false,oD 30 (.pick Xgn (.const (.bool true)) Xgf)]) (.cond Xgw (.seq (.reg [oD 8 (.mv (.const (.string ⟨⟨[]⟩⟩))),oD 9 (.mv (.const (.int .i64 1)))]) .ret) .skip)) (.seq (.seq (.reg [oM 31 τ3,oD 32 (.lenS XgO),oM 33 XcT,oD 34 (.bin .sub (.const (.int .i64 65535)) Xha),oD 35 (.bin .gtr Xg5 Xhb)]) (.cond Xhq (.seq (.reg [oD 8 (.mv (.const (.string ⟨⟨[]⟩⟩))),oD 9 (.mv (.const (.int .i64 5)))]) .ret) .skip)) (.seq XTj (.seq (.reg [oM 76 Xdr,oM 77 XcS,oM 78 Xdr,oD 79 (.bin .add Xxv Xxu),oD 80 (.callF 65 [Xyk]),oD 81 (.conv .u64 Xyz),oD 82 (.callF 64 [Xxk,(.const (.int .i64 16)),(.const (.int .i64 2)),XBO]),oM 8 XF0,oD 9 (.mv (.const (.int .i64 0)))]) .ret))))))
def fn60:VFn:=⟨83,XSh,[.tmp 8,.tmp 9]⟩
def XVH:VC:=.seq (.reg [oD 1 (.box τ0),oD 2 (.mv (.const (.bool false)))]) (.seq (.reg [oD 3 (.fieldA 0 τ1),oD 4 (.load1 (.int .i64) τ3),oD 5 (.callF 148 [τ4,(.const (.int .i64 65535))]),oM 6 τ5,oG 7 (.fieldA 1 τ1) 6 true,oG 8 (.load1 (.int .i64) τ7) 6 true,oG 9 (.callF 148 [τ8,(.const (.int .i64 65535))]) 6 true,oD 10 (.pick τ6 τ9 (.const (.bool false))),oM 11 XcT,oG 12 (.fieldA 4 τ1) 11 true,oG 13 (.load1 (.int .i64) Xdr) 11 true,oG 14 (.callF 148 [XdU,(.const (.int .i64 255))]) 11 true,oD 15 (.pick XcS Xet (.const (.bool false))),oM 16 Xem,oG 17 (.fieldA 5 τ1) 16 true,oG 18 (.load1 (.int .i64) Xen) 16 true,oG 19 (.callF 148 [XeQ,(.const (.int .i64 65535))]) 16 true,oD 20 (.pick XeC XeM (.const (.bool false))),oM 21 Xe4,oG 22 (.fieldA 6 τ1) 21 true,oG 23 (.load1 (.int .i64) Xfv) 21 true,oG 24 (.callF 148 [Xfs,(.const (.int .i64 65535))]) 21 true,oD 25 (.pick Xfw XfN (.const (.bool false))),oM 26 Xgd,oG 27 (.fieldA 7 τ1) 26 true,oG 28 (.load1 .str Xgn) 26 true,oG 29 (.lenS Xgi) 26 true,oG 30 (.bin .leq Xgf (.const (.int .i64 40))) 26 true,oD 31 (.pick Xge Xgw (.const (.bool false))),oM 32 XgO,oG 33 (.fieldA 7 τ1) 32 true,oG 34 (.load1 .str Xha) 32 true,oG 35 (.lenS Xhb) 32 true,oG 36 (.bin .rem Xhq (.const (.int .i64 4))) 32 true,oG 37 (.bin .eql XhU (.const (.int .i64 0))) 32 true,oD 38 (.pick Xg5 XhT (.const (.bool false))),oM 2 Xii]) .ret)
def XSl:VFn:=⟨39,XVH,[.tmp 2]⟩
def XTv:VC:=.seq (.reg [oD 4 (.mv (.const (.bool false)))]) (.seq (.reg [oM 5 τ0,oD 6 (.bin .geq τ5 (.const (.int .i64 0))),oM 7 τ6,oG 8 (.mv τ0) 7 true,oG 9 (.mv τ1) 7 true,oG 10 (.bin .leq τ8 τ9) 7 true,oD 11 (.pick τ7 XcT (.const (.bool false))),oM 4 XcS]) .ret)
def XS1:VFn:=⟨12,XTv,[.tmp 4]⟩
def XVM:VC:=.seq (.reg [oD 2 (.mv (.const (.int .i64 0)))]) (.seq (.reg [oM 3 τ0,oD 4 (.callF 86 [τ3]),oD 5 (.bin .sub (.const (.int .i64 65535)) τ4),oM 2 τ5]) .ret)
def fn65:VFn:=⟨6,XVM,[.tmp 2]⟩
def k64_7:VC:=.regD [oM 21 τ0,oM 22 τ1,oD 23 (.sliceS Xfw none (some Xfv)),oM 24 τ3,oM 25 τ2,oD 26 (.callF 63 [XfN,Xgd]),oD 27 (.bin .add Xfs Xge),oM 28 τ0,oM 29 τ1,oM 30 τ2,oD 31 (.bin .add Xgf Xgw),oD 32 (.sliceS Xgi (some XgO) none)] [] [oD 33 (.bin .add Xgn Xg5),oM 8 Xha]
def XJk:VC:=.seq (.reg [oD 8 (.mv (.const (.string ⟨⟨[]⟩⟩)))]) (.seq (.reg [oM 12 τ0,oM 13 τ1,oM 14 τ2,oD 15 (.callF 87 [Xdr,XdU,Xet]),oM 11 Xem,oE 16 0 XcS,oE 17 1 XcS,oM 9 XeC,oM 10 Xen]) (.seq (.seq (.reg [oM 18 XcT,oD 19 (.not XeQ)]) (.cond XeM (.seq (.reg [oM 20 τ0,oM 8 Xe4]) .ret) .skip)) (.seq k64_7 .ret)))
def fn64:VFn:=⟨34,XJk,[.tmp 8]⟩
def XHR:VC:=.seq (.reg [oD 2 (.box τ0),oD 4 (.mv (.const (.string ⟨⟨[]⟩⟩))),oD 5 (.mv (.const (.int .i64 0)))]) (.seq (.seq (.reg [oD 8 (.fieldA 1 τ2),oD 9 (.fieldA 0 τ8),oD 10 (.load1 .bool τ9),oD 11 (.fieldA 4 τ2),oD 12 (.fieldA 0 XcS),oD 13 (.load1 .bool Xdr),oD 14 (.eqB true XcT XdU),oM 15 Xet,oG 16 (.fieldA 1 τ2) 15 false,oG 17 (.loadN [.bool,(.int .u64),(.int .u64)] XeC) 15 false,oG 18 (.callF 59 [Xen]) 15 false,oG 19 (.not XeQ) 15 false,oD 20 (.pick Xem (.const (.bool true)) XeM),oM 21 Xe4,oG 22 (.fieldA 4 τ2) 21 false,oG 23 (.loadN [.bool,(.int .u64),(.int .u64)] Xfv) 21 false,oG 24 (.callF 59 [Xfs]) 21 false,oG 25 (.not XfN) 21 false,oD 26 (.pick Xfw (.const (.bool true)) Xgd),oM 27 Xge,oG 28 (.fieldA 0 τ2) 27 false,oG 29 (.load1 (.int .i64) Xgi) 27 false,oG 30 (.bin .neq Xgf (.const (.int .i64 6))) 27 false,oG 31 (.mv Xgw) 27 false,oG 32 (.fieldA 0 τ2) 31 true,oG 33 (.load1 (.int .i64) Xg5) 31 true,oG 34 (.bin .neq Xha (.const (.int .i64 17))) 31 true,oG 35 (.pick XgO Xhb (.const (.bool false))) 27 false,oD 36 (.pick Xgn (.const (.bool true)) Xhq)]) (.cond XhU (.seq (.reg [oD 4 (.mv (.const (.string ⟨⟨[]⟩⟩))),oD 5 (.mv (.const (.int .i64 1)))]) .ret) .skip)) (.seq (.reg [oD 38 (.fieldA 0 τ2),oD 39 (.load1 (.int .i64) Xii),oD 40 (.fieldA 1 τ2),oD 41 (.loadN [.bool,(.int .u64),(.int .u64)] Xi4),oD 42 (.fieldA 4 τ2),oD 43 (.loadN [.bool,(.int .u64),(.int .u64)] XiU),oD 44 (.build [(.int .i64 0),(.int .i64 0),(.int .i64 0),(.int .i64 0),(.bool false),(.int .u64 0),(.int .u64 0),(.bool false),(.int .u64 0),(.int .u64 0)] [(2,1,XiX),(3,1,(.const (.int .i64 64))),(4,3,Xjg),(7,3,Xi3)]),oM 45 τ1,oD 46 (.callF 103 [XjY,XjM]),oM 37 Xke,oE 47 0 XhT,oE 48 1 XhT,oM 6 Xkb,oM 7 Xkd]) (.seq (.seq (.reg [oD 49 (.fieldA 1 τ2),oD 50 (.fieldA 0 Xkc),oD 51 (.load1 .bool XkJ),oD 52 (.not Xla)]) (.cond Xk8 (.reg [oD 54 (.fieldA 0 τ2),oD 55 (.load1 (.int .i64) Xm6),oD 56 (.fieldA 1 τ2),oD 57 (.loadN [.bool,(.int .u64),(.int .u64)] Xm5),oD 58 (.fieldA 4 τ2),oD 59 (.loadN [.bool,(.int .u64),(.int .u64)] XmY),oD 60 (.build [(.int .i64 0),(.int .i64 0),(.bool false),(.int .i64 0),(.int .i64 0),(.bool false),(.int .u64 0),(.int .u64 0),(.bool false),(.int .u64 0),(.int .u64 0),(.string ⟨⟨[]⟩⟩)] [(2,1,(.const (.bool true))),(3,1,(.const (.int .i64 64))),(4,1,Xmv),(5,3,XmR),(8,3,Xnn)]),oM 61 τ1,oD 62 (.callF 104 [Xn5,Xon]),oM 53 XoU,oE 63 0 Xmo,oE 64 1 Xmo,oM 6 Xqr,oM 7 Xqq]) .skip)) (.seq (.seq (.reg [oM 65 τ7,oD 66 (.bin .eql Xq4 (.const (.int .i64 0))),oM 67 XqY,oG 68 (.mv τ6) 67 true,oG 69 (.lenS Xqw) 67 true,oG 70 (.bin .gtr Xsf (.const (.int .i64 9000))) 67 true,oD 71 (.pick Xqy Xsw (.const (.bool false)))]) (.cond XsA (.seq (.reg [oD 4 (.mv (.const (.string ⟨⟨[]⟩⟩))),oD 5 (.mv (.const (.int .i64 5)))]) .ret) .skip)) (.seq (.reg [oM 72 τ6,oM 73 τ7,oM 4 Xsx,oM 5 XtQ]) .ret)))))
def fn61:VFn:=⟨74,XHR,[.tmp 4,.tmp 5]⟩
def XLa:VC:=.regD [oD 12 (.fieldA 0 τ2),oD 13 (.load1 (.int .i64) Xdr),oD 14 (.bin .mul XdU (.const (.int .i64 1048576))),oD 15 (.bin .add (.const (.int .i64 1610612736)) Xet),oD 16 (.fieldA 1 τ2),oD 17 (.load1 (.int .i64) XeC),oD 18 (.bin .add Xem Xen),oD 19 (.callF 150 [XeQ,(.const (.int .i64 4))]),oM 20 τ1,oD 21 (.lenS Xe4),oD 22 (.callF 150 [Xfw,(.const (.int .i64 2))]),oD 23 (.bin .add XeM Xfv),oD 24 (.fieldA 2 τ2),oD 25 (.load1 (.int .i64) XfN),oD 26 (.callF 150 [Xgd,(.const (.int .i64 1))]),oD 27 (.bin .add Xfs Xge),oD 28 (.fieldA 3 τ2),oD 29 (.load1 (.int .i64) Xgi),oD 30 (.callF 150 [Xgf,(.const (.int .i64 1))]),oD 31 (.bin .add Xgn Xgw),oD 32 (.fieldA 4 τ2),oD 33 (.loadN [.bool,(.int .u64),(.int .u64)] Xg5),oD 34 (.callF 146 [Xha]),oD 35 (.bin .add XgO Xhb),oD 36 (.fieldA 7 τ2),oD 37 (.loadN [.bool,(.int .u64),(.int .u64)] XhU),oD 38 (.callF 146 [XhT]),oD 39 (.bin .add Xhq Xii),oM 40 τ1] [(7,13),(7,17),(7,21),(7,25),(10,13),(10,17),(10,21),(10,25),(14,17),(14,21),(14,25),(18,21),(18,25),(22,25)] [oD 41 (.bin .add XiX Xi4),oM 4 Xjg,oD 5 (.mv (.const (.int .i64 0)))]
def XxV:VC:=.seq (.reg [oD 2 (.box τ0),oD 4 (.mv (.const (.string ⟨⟨[]⟩⟩))),oD 5 (.mv (.const (.int .i64 0)))]) (.seq (.seq (.reg [oD 6 (.loadN [(.int .i64),(.int .i64),(.int .i64),(.int .i64),.bool,(.int .u64),(.int .u64),.bool,(.int .u64),(.int .u64)] τ2),oD 7 (.callF 149 [τ6]),oD 8 (.not τ7)]) (.cond τ8 (.seq (.reg [oD 4 (.mv (.const (.string ⟨⟨[]⟩⟩))),oD 5 (.mv (.const (.int .i64 1)))]) .ret) .skip)) (.seq (.seq (.reg [oM 9 τ1,oD 10 (.lenS τ9),oD 11 (.bin .gtr XcT (.const (.int .i64 65535)))]) (.cond XcS (.seq (.reg [oD 4 (.mv (.const (.string ⟨⟨[]⟩⟩))),oD 5 (.mv (.const (.int .i64 5)))]) .ret) .skip)) (.seq XLa .ret)))
def XVm:VFn:=⟨42,XxV,[.tmp 4,.tmp 5]⟩
def XI5:VC:=.seq (.reg [oD 1 (.box τ0),oD 2 (.mv (.const (.bool false)))]) (.seq (.reg [oD 3 (.fieldA 0 τ1),oD 4 (.load1 (.int .i64) τ3),oD 5 (.callF 174 [τ4,(.const (.int .i64 255))]),oM 6 τ5,oG 7 (.fieldA 1 τ1) 6 true,oG 8 (.load1 (.int .i64) τ7) 6 true,oG 9 (.callF 174 [τ8,(.const (.int .i64 1048575))]) 6 true,oD 10 (.pick τ6 τ9 (.const (.bool false))),oM 11 XcT,oG 12 (.fieldA 2 τ1) 11 true,oG 13 (.load1 (.int .i64) Xdr) 11 true,oG 14 (.callF 174 [XdU,(.const (.int .i64 255))]) 11 true,oD 15 (.pick XcS Xet (.const (.bool false))),oM 16 Xem,oG 17 (.fieldA 3 τ1) 16 true,oG 18 (.load1 (.int .i64) Xen) 16 true,oG 19 (.callF 174 [XeQ,(.const (.int .i64 255))]) 16 true,oD 20 (.pick XeC XeM (.const (.bool false))),oM 21 Xe4,oG 22 (.fieldA 4 τ1) 21 true,oG 23 (.fieldA 0 Xfv) 21 true,oG 24 (.load1 .bool Xfs) 21 true,oD 25 (.pick Xfw XfN (.const (.bool false))),oM 26 Xgd,oG 27 (.fieldA 7 τ1) 26 true,oG 28 (.fieldA 0 Xgn) 26 true,oG 29 (.load1 .bool Xgi) 26 true,oD 30 (.pick Xge Xgf (.const (.bool false))),oM 2 Xgw]) .ret)
def XR8:VFn:=⟨31,XI5,[.tmp 2]⟩
def XJt:VC:=.seq (.reg [oD 4 (.mv (.const (.bool false)))]) (.seq (.reg [oM 5 τ0,oD 6 (.bin .geq τ5 (.const (.int .i64 0))),oM 7 τ6,oG 8 (.mv τ0) 7 true,oG 9 (.mv τ1) 7 true,oG 10 (.bin .leq τ8 τ9) 7 true,oD 11 (.pick τ7 XcT (.const (.bool false))),oM 4 XcS]) .ret)
def XVG:VFn:=⟨12,XJt,[.tmp 4]⟩
def XJd:VC:=.seq (.reg [oD 4 (.mv (.const (.string ⟨⟨[]⟩⟩)))]) (.seq (.reg [oM 5 τ0,oD 6 (.conv .u64 τ5),oM 7 τ1,oD 8 (.callF 63 [τ6,τ7]),oM 4 τ8]) .ret)
def XTW:VFn:=⟨9,XJd,[.tmp 4]⟩
def XJU:VC:=.regD [oM 23 τ6,oD 24 (.bin .quo Xfs (.const (.int .i64 4))),oD 25 (.bin .add (.const (.int .i64 64)) XfN),oD 26 (.callF 147 [Xgd,(.const (.int .i64 1))]),oD 27 (.fieldA 0 τ2),oD 28 (.load1 (.int .i64) Xgn),oD 29 (.callF 147 [Xgi,(.const (.int .i64 1))]),oD 30 (.bin .add Xge Xgf),oM 31 τ6,oM 32 τ1,oD 33 (.lenS Xg5),oD 34 (.bin .add XgO Xha),oD 35 (.callF 147 [Xhb,(.const (.int .i64 2))]),oD 36 (.bin .add Xgw Xhq),oD 37 (.fieldA 1 τ2),oD 38 (.load1 (.int .i64) XhT),oD 39 (.callF 147 [Xii,(.const (.int .i64 2))]),oD 40 (.bin .add XhU XiX),oM 41 τ7,oD 42 (.callF 147 [Xjg,(.const (.int .i64 1))]),oD 43 (.bin .add Xi4 XiU),oD 44 (.callF 147 [(.const (.int .i64 0)),(.const (.int .i64 1))]),oD 45 (.bin .add Xi3 XjY),oD 46 (.fieldA 3 τ2),oD 47 (.load1 (.int .i64) Xke),oD 48 (.callF 147 [Xkb,(.const (.int .i64 1))]),oD 49 (.bin .add XjM Xkd),oD 50 (.fieldA 4 τ2),oD 51 (.load1 (.int .i64) XkJ),oD 52 (.callF 147 [Xla,(.const (.int .i64 1))]),oD 53 (.bin .add Xkc Xk8),oD 54 (.callF 147 [(.const (.int .i64 0)),(.const (.int .i64 2))]),oD 55 (.bin .add Xmo Xm6),oD 56 (.fieldA 5 τ2),oD 57 (.loadN [.bool,(.int .u64),(.int .u64)] Xm5),oD 58 (.callF 146 [XmR]),oD 59 (.bin .add Xmv XmY),oD 60 (.fieldA 8 τ2),oD 61 (.loadN [.bool,(.int .u64),(.int .u64)] Xn5),oD 62 (.callF 146 [Xon]),oD 63 (.bin .add Xnn XoU),oD 64 (.fieldA 11 τ2),oD 65 (.load1 .str Xqq)] [(3,5),(3,15),(3,24),(3,28),(3,34),(3,38),(3,42),(6,15),(6,24),(6,28),(6,34),(6,38),(6,42),(12,15),(12,24),(12,28),(12,34),(12,38),(12,42),(16,24),(16,28),(16,34),(16,38),(16,42),(19,24),(19,28),(19,34),(19,38),(19,42),(21,24),(21,28),(21,34),(21,38),(21,42),(25,28),(25,34),(25,38),(25,42),(29,34),(29,38),(29,42),(31,34),(31,38),(31,42),(35,38),(35,42),(39,42)] [oD 66 (.bin .add Xqr Xq4),oM 8 XqY]
def XAe:VC:=.seq (.reg [oD 2 (.box τ0),oD 4 (.mv (.const (.string ⟨⟨[]⟩⟩))),oD 5 (.mv (.const (.int .i64 0)))]) (.seq (.seq (.reg [oD 9 (.loadN [(.int .i64),(.int .i64),.bool,(.int .i64),(.int .i64),.bool,(.int .u64),(.int .u64),.bool,(.int .u64),(.int .u64),.str] τ2),oD 10 (.callF 151 [τ9]),oD 11 (.not XcT)]) (.cond XcS (.seq (.reg [oD 4 (.mv (.const (.string ⟨⟨[]⟩⟩))),oD 5 (.mv (.const (.int .i64 1)))]) .ret) .skip)) (.seq (.reg [oD 12 (.fieldA 11 τ2),oD 13 (.load1 .str Xdr),oD 14 (.lenS XdU),oD 15 (.bin .add (.const (.int .i64 20)) Xet),oM 6 Xem]) (.seq (.seq (.reg [oM 16 τ1,oD 17 (.lenS XeC),oM 18 τ6,oD 19 (.bin .sub (.const (.int .i64 65535)) XeQ),oD 20 (.bin .gtr Xen XeM)]) (.cond Xe4 (.seq (.reg [oD 4 (.mv (.const (.string ⟨⟨[]⟩⟩))),oD 5 (.mv (.const (.int .i64 5)))]) .ret) .skip)) (.seq (.reg [oD 7 (.mv (.const (.int .i64 0)))]) (.seq (.seq (.reg [oD 21 (.fieldA 2 τ2),oD 22 (.load1 .bool Xfw)]) (.cond Xfv (.reg [oD 7 (.mv (.const (.int .i64 64)))]) .skip)) (.seq XJU (.seq (.reg [oM 67 τ8,oM 68 τ8,oD 69 (.callF 65 [Xqw]),oD 70 (.conv .u64 Xsf),oD 71 (.callF 64 [Xqy,(.const (.int .i64 10)),(.const (.int .i64 2)),Xsw]),oM 72 τ1,oD 73 (.bin .add XsA Xsx),oM 4 XtQ,oD 5 (.mv (.const (.int .i64 0)))]) .ret)))))))
def XRw:VFn:=⟨74,XAe,[.tmp 4,.tmp 5]⟩
def XIo:VC:=.seq (.reg [oD 1 (.box τ0),oD 2 (.mv (.const (.bool false)))]) (.seq (.reg [oD 3 (.fieldA 0 τ1),oD 4 (.load1 (.int .i64) τ3),oD 5 (.callF 175 [τ4,(.const (.int .i64 255))]),oM 6 τ5,oG 7 (.fieldA 1 τ1) 6 true,oG 8 (.load1 (.int .i64) τ7) 6 true,oG 9 (.callF 175 [τ8,(.const (.int .i64 65535))]) 6 true,oD 10 (.pick τ6 τ9 (.const (.bool false))),oM 11 XcT,oG 12 (.fieldA 3 τ1) 11 true,oG 13 (.load1 (.int .i64) Xdr) 11 true,oG 14 (.callF 175 [XdU,(.const (.int .i64 255))]) 11 true,oD 15 (.pick XcS Xet (.const (.bool false))),oM 16 Xem,oG 17 (.fieldA 4 τ1) 16 true,oG 18 (.load1 (.int .i64) Xen) 16 true,oG 19 (.callF 175 [XeQ,(.const (.int .i64 255))]) 16 true,oD 20 (.pick XeC XeM (.const (.bool false))),oM 21 Xe4,oG 22 (.fieldA 5 τ1) 21 true,oG 23 (.loadN [.bool,(.int .u64),(.int .u64)] Xfv) 21 true,oG 24 (.callF 176 [Xfs]) 21 true,oD 25 (.pick Xfw XfN (.const (.bool false))),oM 26 Xgd,oG 27 (.fieldA 8 τ1) 26 true,oG 28 (.loadN [.bool,(.int .u64),(.int .u64)] Xgn) 26 true,oG 29 (.callF 176 [Xgi]) 26 true,oD 30 (.pick Xge Xgf (.const (.bool false))),oM 31 Xgw,oG 32 (.fieldA 11 τ1) 31 true,oG 33 (.load1 .str Xg5) 31 true,oG 34 (.lenS Xha) 31 true,oG 35 (.bin .leq Xhb (.const (.int .i64 40))) 31 true,oD 36 (.pick XgO Xhq (.const (.bool false))),oM 37 XhU,oG 38 (.fieldA 11 τ1) 37 true,oG 39 (.load1 .str Xii) 37 true,oG 40 (.lenS XiX) 37 true,oG 41 (.bin .rem Xi4 (.const (.int .i64 4))) 37 true,oG 42 (.bin .eql Xjg (.const (.int .i64 0))) 37 true,oD 43 (.pick XhT XiU (.const (.bool false))),oM 2 Xi3]) .ret)
def XRB:VFn:=⟨44,XIo,[.tmp 2]⟩
def XHZ:VC:=.seq (.reg [oD 4 (.mv (.const (.bool false)))]) (.seq (.reg [oM 5 τ0,oD 6 (.bin .geq τ5 (.const (.int .i64 0))),oM 7 τ6,oG 8 (.mv τ0) 7 true,oG 9 (.mv τ1) 7 true,oG 10 (.bin .leq τ8 τ9) 7 true,oD 11 (.pick τ7 XcT (.const (.bool false))),oM 4 XcS]) .ret)
def XWd:VFn:=⟨12,XHZ,[.tmp 4]⟩
def XIE:VC:=.seq (.reg [oD 1 (.box τ0),oD 2 (.mv (.const (.bool false)))]) (.seq (.reg [oD 3 (.loadN [.bool,(.int .u64),(.int .u64)] τ1),oD 4 (.callF 59 [τ3]),oM 5 τ4,oG 6 (.fieldA 0 τ1) 5 true,oG 7 (.load1 .bool τ6) 5 true,oG 8 (.not τ7) 5 true,oD 9 (.pick τ5 τ8 (.const (.bool false))),oM 2 τ9]) .ret)
def XVA:VFn:=⟨10,XIE,[.tmp 2]⟩
def XRJ:VC:=.regD [oD 24 (.fieldA 1 τ1),oD 25 (.load1 (.int .i64) XfN),oD 26 (.bin .add (.const (.int .i64 192)) Xgd),oD 27 (.conv .u64 Xge),oD 28 (.callF 63 [Xgn,(.const (.int .i64 1))]),oD 29 (.fieldA 2 τ1),oD 30 (.load1 (.int .u32) Xgf),oD 31 (.conv .u64 Xgw),oD 32 (.callF 63 [XgO,(.const (.int .i64 4))]),oD 33 (.bin .add Xgi Xg5),oD 34 (.fieldA 3 τ1),oD 35 (.load1 .str Xhb),oD 36 (.lenS Xhq),oD 37 (.conv .u64 XhU),oD 38 (.callF 63 [XhT,(.const (.int .i64 1))]),oD 39 (.bin .add Xha Xii),oD 40 (.fieldA 3 τ1),oD 41 (.load1 .str Xi4),oD 42 (.bin .add XiX Xjg),oD 43 (.fieldA 4 τ1),oD 44 (.load1 .str Xi3),oD 45 (.lenS XjY),oD 46 (.conv .u64 XjM),oD 47 (.callF 63 [Xke,(.const (.int .i64 1))]),oD 48 (.bin .add XiU Xkb),oD 49 (.fieldA 4 τ1),oD 50 (.load1 .str Xkc),oD 51 (.bin .add Xkd XkJ),oD 52 (.fieldA 5 τ1),oD 53 (.load1 .str Xk8)] [(4,6),(4,11),(4,17),(4,20),(4,26),(4,29),(8,11),(8,17),(8,20),(8,26),(8,29),(14,17),(14,20),(14,26),(14,29),(17,23),(23,26),(23,29)] [oD 54 (.bin .add Xla Xmo),oM 2 Xm6,oD 3 (.mv (.const (.int .i64 0)))]
def XTk:VC:=.regD [oD 69 (.fieldA 1 τ1),oD 70 (.load1 (.int .i64) Xsf),oD 71 (.bin .add (.const (.int .i64 64)) Xsw),oD 72 (.conv .u64 XsA),oD 73 (.callF 63 [Xsx,(.const (.int .i64 1))]),oD 74 (.fieldA 3 τ1),oD 75 (.load1 .str Xvo),oD 76 (.bin .add XtQ Xwh),oD 77 (.fieldA 5 τ1),oD 78 (.load1 .str Xxv)] [(4,6),(4,9)] [oD 79 (.bin .add Xxk Xxu),oM 2 Xyk,oD 3 (.mv (.const (.int .i64 0)))]
def XIW:VC:=.seq (.reg [oD 1 (.box τ0),oD 2 (.mv (.const (.string ⟨⟨[]⟩⟩))),oD 3 (.mv (.const (.int .i64 0)))]) (.seq (.seq (.reg [oD 4 (.fieldA 1 τ1),oD 5 (.load1 (.int .i64) τ4),oD 6 (.bin .lss τ5 (.const (.int .i64 0))),oM 7 τ6,oG 8 (.fieldA 1 τ1) 7 false,oG 9 (.load1 (.int .i64) τ8) 7 false,oG 10 (.bin .gtr τ9 (.const (.int .i64 63))) 7 false,oD 11 (.pick τ7 (.const (.bool true)) XcT)]) (.cond XcS (.seq (.reg [oD 2 (.mv (.const (.string ⟨⟨[]⟩⟩))),oD 3 (.mv (.const (.int .i64 1)))]) .ret) .skip)) (.seq (.seq (.reg [oD 12 (.fieldA 0 τ1),oD 13 (.load1 .bool Xdr)]) (.cond XdU (.seq (.seq (.reg [oD 14 (.fieldA 3 τ1),oD 15 (.load1 .str Xet),oD 16 (.lenS Xem),oD 17 (.bin .gtr XeC (.const (.int .i64 20))),oM 18 Xen,oG 19 (.fieldA 4 τ1) 18 false,oG 20 (.load1 .str XeM) 18 false,oG 21 (.lenS Xe4) 18 false,oG 22 (.bin .gtr Xfw (.const (.int .i64 20))) 18 false,oD 23 (.pick XeQ (.const (.bool true)) Xfv)]) (.cond Xfs (.seq (.reg [oD 2 (.mv (.const (.string ⟨⟨[]⟩⟩))),oD 3 (.mv (.const (.int .i64 1)))]) .ret) .skip)) (.seq XRJ .ret)) .skip)) (.seq (.seq (.reg [oD 55 (.fieldA 3 τ1),oD 56 (.load1 .str Xmv),oD 57 (.lenS Xm5),oD 58 (.bin .neq XmR (.const (.int .i64 8))),oM 59 XmY,oG 60 (.fieldA 4 τ1) 59 false,oG 61 (.load1 .str Xn5) 59 false,oG 62 (.bin .neq Xon (.const (.string ⟨⟨[]⟩⟩))) 59 false,oD 63 (.pick Xnn (.const (.bool true)) XoU),oM 64 Xqr,oG 65 (.fieldA 2 τ1) 64 false,oG 66 (.load1 (.int .u32) Xq4) 64 false,oG 67 (.bin .neq XqY (.const (.int .u32 0))) 64 false,oD 68 (.pick Xqq (.const (.bool true)) Xqy)]) (.cond Xqw (.seq (.reg [oD 2 (.mv (.const (.string ⟨⟨[]⟩⟩))),oD 3 (.mv (.const (.int .i64 1)))]) .ret) .skip)) (.seq XTk .ret))))
def fn43:VFn:=⟨80,XIW,[.tmp 2,.tmp 3]⟩
def XIJ:VC:=.seq (.reg [oD 2 (.box τ0),oD 4 (.mv (.const (.string ⟨⟨[]⟩⟩))),oD 5 (.mv (.const (.int .i64 0)))]) (.seq (.seq (.reg [oD 8 (.fieldA 0 τ2),oD 9 (.load1 (.int .i64) τ8),oD 10 (.bin .neq τ9 (.const (.int .i64 17)))]) (.cond XcT (.seq (.reg [oD 4 (.mv (.const (.string ⟨⟨[]⟩⟩))),oD 5 (.mv (.const (.int .i64 1)))]) .ret) .skip)) (.seq (.reg [oD 12 (.fieldA 7 τ2),oD 13 (.load1 (.int .i64) Xdr),oD 14 (.fieldA 8 τ2),oD 15 (.load1 (.int .i64) Xet),oD 16 (.build [(.int .i64 0),(.int .i64 0)] [(0,1,XdU),(1,1,Xem)]),oD 17 (.fieldA 1 τ2),oD 18 (.loadN [.bool,(.int .u64),(.int .u64)] Xen),oD 19 (.fieldA 4 τ2),oD 20 (.loadN [.bool,(.int .u64),(.int .u64)] XeM),oM 21 τ1,oD 22 (.callF 75 [XeC,XeQ,Xe4,Xfw]),oM 11 Xfv,oE 23 0 XcS,oE 24 1 XcS,oM 6 Xfs,oM 7 XfN]) (.seq (.seq (.reg [oM 25 τ7,oD 26 (.bin .neq Xgd (.const (.int .i64 0)))]) (.cond Xge (.seq (.reg [oM 27 τ7,oD 4 (.mv (.const (.string ⟨⟨[]⟩⟩))),oM 5 Xgn]) .ret) .skip)) (.seq (.reg [oD 28 (.loadN [(.int .i64),.bool,(.int .u64),(.int .u64),.bool,(.int .u64),(.int .u64),(.int .i64),(.int .i64)] τ2),oM 29 τ6,oD 30 (.callF 61 [Xgi,Xgf]),oE 31 0 Xgw,oE 32 1 Xgw,oM 4 XgO,oM 5 Xg5]) .ret))))
def fn44:VFn:=⟨33,XIJ,[.tmp 4,.tmp 5]⟩
def XRO:VC:=.regD [oD 37 (.fieldA 0 τ4),oD 38 (.load1 (.int .i64) XhT),oD 39 (.conv .u64 Xii),oD 40 (.callF 63 [XiX,(.const (.int .i64 2))]),oD 41 (.fieldA 1 τ4),oD 42 (.load1 (.int .i64) Xjg),oD 43 (.conv .u64 XiU),oD 44 (.callF 63 [Xi3,(.const (.int .i64 2))]),oD 45 (.bin .add Xi4 XjY),oM 46 XcT,oD 47 (.conv .u64 Xke),oD 48 (.callF 63 [Xkb,(.const (.int .i64 2))]),oD 49 (.bin .add XjM Xkd),oD 50 (.bin .add Xkc (.const (.string ⟨⟨[0,0]⟩⟩))),oM 51 τ3] [(3,5)] [oD 52 (.bin .add XkJ Xla),oM 12 Xk8]
def XId:VC:=.seq (.reg [oD 4 (.box τ0),oD 5 (.box τ1),oD 6 (.box τ2),oD 8 (.mv (.const (.string ⟨⟨[]⟩⟩))),oD 9 (.mv (.const (.int .i64 0)))]) (.seq (.reg [oM 14 τ3,oD 15 (.lenS Xet),oD 16 (.bin .add (.const (.int .i64 8)) Xem),oM 10 XeC]) (.seq (.reg [oD 17 (.loadN [.bool,(.int .u64),(.int .u64)] τ5),oD 18 (.loadN [.bool,(.int .u64),(.int .u64)] τ6),oM 19 XcT,oD 20 (.callF 101 [Xen,XeQ,(.const (.int .i64 17)),XeM]),oM 11 Xe4]) (.seq (.seq (.reg [oD 21 (.fieldA 0 τ4),oD 22 (.load1 (.int .i64) Xfw),oD 23 (.callF 127 [Xfv]),oD 24 (.not Xfs),oM 25 XfN,oG 26 (.fieldA 1 τ4) 25 false,oG 27 (.load1 (.int .i64) Xge) 25 false,oG 28 (.callF 127 [Xgn]) 25 false,oG 29 (.not Xgi) 25 false,oD 30 (.pick Xgd (.const (.bool true)) Xgf),oM 31 Xgw,oG 32 (.mv XcS) 31 false,oG 33 (.bin .eql Xg5 (.const (.string ⟨⟨[]⟩⟩))) 31 false,oD 34 (.pick XgO (.const (.bool true)) Xha)]) (.cond Xhb (.seq (.reg [oD 8 (.mv (.const (.string ⟨⟨[]⟩⟩))),oD 9 (.mv (.const (.int .i64 1)))]) .ret) .skip)) (.seq (.seq (.reg [oM 35 XcT,oD 36 (.bin .gtr Xhq (.const (.int .i64 65535)))]) (.cond XhU (.seq (.reg [oD 8 (.mv (.const (.string ⟨⟨[]⟩⟩))),oD 9 (.mv (.const (.int .i64 5)))]) .ret) .skip)) (.seq XRO (.seq (.reg [oM 53 XcS,oM 54 Xdr,oD 55 (.bin .add Xmo Xm6),oD 56 (.callF 65 [Xmv]),oM 13 Xm5]) (.seq (.seq (.reg [oM 57 XdU,oD 58 (.bin .eql XmR (.const (.int .i64 0)))]) (.cond XmY (.reg [oD 13 (.mv (.const (.int .i64 65535)))]) .skip)) (.seq (.reg [oM 59 Xdr,oM 60 XdU,oD 61 (.conv .u64 Xn5),oD 62 (.callF 64 [Xnn,(.const (.int .i64 6)),(.const (.int .i64 2)),Xon]),oM 8 XoU,oD 9 (.mv (.const (.int .i64 0)))]) .ret))))))))
def fn75:VFn:=⟨63,XId,[.tmp 8,.tmp 9]⟩
def XJb:VC:=.seq (.reg [oD 2 (.mv (.const (.bool false)))]) (.seq (.reg [oM 3 τ0,oD 4 (.bin .geq τ3 (.const (.int .i64 0))),oM 5 τ4,oG 6 (.mv τ0) 5 true,oG 7 (.bin .leq τ6 (.const (.int .i64 65535))) 5 true,oD 8 (.pick τ5 τ7 (.const (.bool false))),oM 2 τ8]) .ret)
def XRS:VFn:=⟨9,XJb,[.tmp 2]⟩
def k38_2:VC:=.regD [oM 16 τ0,oD 17 (.nilCheck XeC),oD 18 (.fieldA 0 Xen),oD 19 (.loadN [(.int .i64),.bool,(.int .u64),(.int .u64),.bool,(.int .u64),(.int .u64),(.int .i64),(.int .i64)] XeQ),oM 20 τ1,oM 21 τ0,oD 22 (.nilCheck Xfw),oD 23 (.fieldA 9 Xfv),oD 24 (.load1 (.int .u32) Xfs),oM 25 τ0,oD 26 (.nilCheck Xgd),oD 27 (.fieldA 10 Xge),oD 28 (.load1 (.int .u32) Xgn),oD 29 (.callF 25 [XfN,Xgi]),oM 30 τ2,oD 31 (.callF 24 [XeM,Xe4,Xgf,Xgw]),oE 32 0 XgO,oE 33 1 XgO] [(3,13)] [oM 6 Xg5,oM 7 Xha]
def XUU:VC:=.seq (.reg [oD 6 (.mv (.const (.string ⟨⟨[]⟩⟩))),oD 7 (.mv (.const (.int .i64 0)))]) (.seq (.seq (.reg [oM 10 τ0,oD 11 (.nilCheck XcT),oD 12 (.fieldA 0 XcS),oD 13 (.fieldA 0 Xdr),oD 14 (.load1 (.int .i64) XdU),oD 15 (.bin .eql Xet (.const (.int .i64 6)))]) (.cond Xem (.seq k38_2 .ret) .skip)) (.seq (.reg [oM 35 τ0,oD 36 (.nilCheck Xhq),oD 37 (.fieldA 11 XhU),oD 38 (.load1 .str XhT),oM 39 τ2,oD 40 (.build [(.bool false),(.int .i64 0),(.int .u32 0),(.string ⟨⟨[]⟩⟩),(.string ⟨⟨[]⟩⟩),(.string ⟨⟨[]⟩⟩)] [(3,1,Xii),(5,1,XiX)]),oD 41 (.callF 43 [Xi4]),oM 34 Xjg,oE 42 0 Xhb,oE 43 1 Xhb,oM 8 XiU,oM 9 Xi3]) (.seq (.reg [oM 44 τ0,oD 45 (.nilCheck XjY),oD 46 (.fieldA 0 XjM),oD 47 (.loadN [(.int .i64),.bool,(.int .u64),(.int .u64),.bool,(.int .u64),(.int .u64),(.int .i64),(.int .i64)] Xke),oM 48 τ8,oD 49 (.callF 44 [Xkb,Xkd]),oE 50 0 Xkc,oE 51 1 Xkc,oM 6 XkJ,oM 7 Xla]) .ret)))
def fn38:VFn:=⟨52,XUU,[.tmp 6,.tmp 7]⟩
def k40_7:VC:=.regD [oD 19 (.fieldA 0 τ5),oD 20 (.loadN [(.int .i64),.bool,(.int .u64),(.int .u64),.bool,(.int .u64),(.int .u64),(.int .i64),(.int .i64)] XeM),oM 21 τ0,oD 22 (.nilCheck Xfw),oD 23 (.fieldA 0 Xfv),oD 24 (.loadN [(.int .i64),.bool,(.int .u64),(.int .u64),.bool,(.int .u64),(.int .u64),(.int .i64),(.int .i64)] Xfs),oD 25 (.callF 27 [XfN])] [(1,6)] [oD 26 (.eqAgg true [(0,(.int .i64)),(1,.bool),(2,(.int .u64)),(3,(.int .u64)),(4,.bool),(5,(.int .u64)),(6,(.int .u64)),(7,(.int .i64)),(8,(.int .i64))] Xe4 Xgd)]
def XRz:VC:=.seq (.reg [oD 4 (.mv (.const (.int .i64 0)))]) (.seq (.reg [oM 12 τ1,oD 13 (.callF 28 [Xdr]),oM 11 XdU,oE 14 0 XcS,oE 15 1 XcS,oD 5 (.alloc [(.int .i64 0),(.bool false),(.int .u64 0),(.int .u64 0),(.bool false),(.int .u64 0),(.int .u64 0),(.int .i64 0),(.int .i64 0),(.int .i64 0),(.bool false),(.int .u32 0),(.int .u32 0),(.bool false),(.string ⟨⟨[]⟩⟩),(.int .i64 0)]),oN (.store 16 τ5 Xet),oM 6 Xem]) (.seq (.seq (.reg [oM 16 τ6,oD 17 (.bin .neq XeC (.const (.int .i64 0)))]) (.cond Xen (.seq (.reg [oM 18 τ6,oM 4 XeQ]) .ret) .skip)) (.seq (.seq k40_7 (.cond Xge (.seq (.reg [oD 4 (.mv (.const (.int .i64 16)))]) .ret) .skip)) (.seq (.seq (.reg [oD 27 (.fieldA 10 τ5),oD 28 (.load1 .bool Xgn)]) (.cond Xgi (.reg [oM 29 τ0,oD 30 (.fieldA 11 τ5),oD 31 (.load1 (.int .u32) Xgw),oD 32 (.nilCheck Xgf),oD 33 (.fieldA 10 Xg5),oN (.store 1 Xha XgO)]) .skip)) (.seq (.reg [oM 35 τ1,oD 36 (.callF 73 [Xhq]),oM 34 XhU,oE 37 0 Xhb,oE 38 1 Xhb,oE 39 2 Xhb,oM 7 XhT,oM 8 Xii,oM 9 XiX]) (.seq (.reg [oM 41 τ1,oM 42 τ8,oD 43 (.sliceS Xjg (some XiU) none),oD 44 (.callF 74 [Xi3]),oM 40 XjY,oE 45 0 Xi4,oE 46 1 Xi4,oD 10 (.alloc [(.bool false),(.int .i64 0),(.int .u32 0),(.string ⟨⟨[]⟩⟩),(.string ⟨⟨[]⟩⟩),(.string ⟨⟨[]⟩⟩)]),oN (.store 6 XcT XjM),oM 6 Xke]) (.seq (.seq (.reg [oM 47 τ0,oD 48 (.nilCheck Xkb),oD 49 (.fieldA 0 Xkd),oD 50 (.fieldA 0 Xkc),oD 51 (.load1 (.int .i64) XkJ),oD 52 (.bin .eql Xla (.const (.int .i64 17))),oM 53 Xk8,oG 54 (.mv τ6) 53 true,oG 55 (.bin .eql Xm6 (.const (.int .i64 0))) 53 true,oD 56 (.pick Xmo Xmv (.const (.bool false))),oM 57 Xm5,oG 58 (.fieldA 0 XcT) 57 true,oG 59 (.load1 .bool XmY) 57 true,oD 60 (.pick XmR Xnn (.const (.bool false))),oM 61 Xn5,oG 62 (.fieldA 4 XcT) 61 true,oG 63 (.load1 .str XoU) 61 true,oG 64 (.lenS Xqr) 61 true,oG 65 (.bin .eql Xqq (.const (.int .i64 8))) 61 true,oD 66 (.pick Xon Xq4 (.const (.bool false)))]) (.cond XqY (.reg [oM 67 τ0,oD 68 (.fieldA 4 XcT),oD 69 (.load1 .str Xqw),oD 70 (.nilCheck Xqy),oD 71 (.fieldA 11 Xsw),oN (.store 1 XsA Xsf)]) .skip)) (.seq (.reg [oD 4 (.mv (.const (.int .i64 0)))]) .ret))))))))
def fn40:VFn:=⟨72,XRz,[.tmp 4]⟩
def XRm:VC:=.seq (.reg [oD 1 (.box τ0),oD 2 (.alloc [(.int .i64 0),(.bool false),(.int .u64 0),(.int .u64 0),(.bool false),(.int .u64 0),(.int .u64 0),(.int .i64 0),(.int .i64 0)])]) (.seq (.reg [oD 3 (.fieldA 0 τ1),oD 4 (.load1 (.int .i64) τ3),oD 5 (.fieldA 4 τ1),oD 6 (.loadN [.bool,(.int .u64),(.int .u64)] τ5),oD 7 (.fieldA 1 τ1),oD 8 (.loadN [.bool,(.int .u64),(.int .u64)] τ7),oD 9 (.fieldA 8 τ1),oD 10 (.load1 (.int .i64) τ9),oD 11 (.fieldA 7 τ1),oD 12 (.load1 (.int .i64) XcS),oD 13 (.build [(.int .i64 0),(.bool false),(.int .u64 0),(.int .u64 0),(.bool false),(.int .u64 0),(.int .u64 0),(.int .i64 0),(.int .i64 0)] [(0,1,τ4),(1,3,τ6),(4,3,τ8),(7,1,XcT),(8,1,Xdr)]),oN (.store 9 τ2 XdU)]) .ret)
def fn27:VFn:=⟨14,XRm,[.cell 2 [(.int .i64),.bool,(.int .u64),(.int .u64),.bool,(.int .u64),(.int .u64),(.int .i64),(.int .i64)] true]⟩
def k73_5:VC:=.seq (.reg [oD 2 (.mv (.const (.int .i64 0))),oD 3 (.mv (.const (.int .i64 0))),oD 4 (.mv (.const (.int .i64 0)))]) (.seq (.reg [oM 10 τ0,oD 11 (.callF 66 [XcT]),oM 9 XcS,oE 12 0 τ9,oE 13 1 τ9,oE 14 2 τ9,oE 15 3 τ9,oD 5 (.alloc [(.int .i64 0),(.bool false),(.int .u64 0),(.int .u64 0),(.bool false),(.int .u64 0),(.int .u64 0),(.int .i64 0),(.int .i64 0),(.int .i64 0),(.bool false),(.int .u32 0),(.int .u32 0),(.bool false),(.string ⟨⟨[]⟩⟩),(.int .i64 0)]),oN (.store 16 τ5 Xdr),oM 6 XdU,oM 7 Xet,oM 8 Xem]) (.seq (.reg [oM 16 τ6,oM 17 τ7,oM 18 τ8,oM 2 XeC,oM 3 Xen,oM 4 XeQ]) .ret))
def fn73:VFn:=⟨19,k73_5,[.tmp 2,.tmp 3,.tmp 4]⟩
def k7_18:VC:=.regD [oD 50 (.loadN [(.int .i64),.bool,(.int .u64),(.int .u64),.bool,(.int .u64),(.int .u64),(.int .i64),(.int .i64)] τ4),oD 51 (.callF 27 [XkJ]),oM 52 τ1,oM 53 Xdr,oD 54 (.idxAL 1 Xk8 Xmo),oD 55 (.load1 (.int .u32) Xm6),oD 56 (.callF 25 [Xmv,(.const (.int .u32 9))]),oD 57 (.callF 24 [Xla,(.const (.int .i64 16)),Xm5,(.const (.string ⟨⟨[]⟩⟩))]),oM 49 XmR,oE 58 0 Xkc,oE 59 1 Xkc,oM 13 XmY] [(1,5)] [oM 14 Xnn]
def k7_48:VC:=.seq (.reg [oD 4 (.box τ0),oD 8 (.mv (.const (.bool false)))]) (.seq (.reg [oD 21 (.fieldA 0 τ4),oN (.store 1 Xfw (.const (.int .i64 6)))]) (.seq (.seq (.reg [oD 22 (.loadN [(.int .i64),.bool,(.int .u64),(.int .u64),.bool,(.int .u64),(.int .u64),(.int .i64),(.int .i64)] τ4),oD 23 (.callF 23 [Xfv]),oD 24 (.not Xfs),oM 25 XfN,oG 26 (.mv τ1) 25 false,oG 27 (.lenL Xge) 25 false,oG 28 (.bin .gtr Xgn (.const (.int .i64 10))) 25 false,oD 29 (.pick Xgd (.const (.bool true)) Xgi),oM 30 Xgf,oG 31 (.mv τ3) 30 false,oG 32 (.lenS XgO) 30 false,oG 33 (.bin .gtr Xg5 (.const (.int .i64 100))) 30 false,oD 34 (.pick Xgw (.const (.bool true)) Xha)]) (.cond Xhb (.seq (.reg [oD 35 (.callF 32 []),oM 8 Xhq]) .ret) .skip)) (.seq (.reg [oD 37 (.loadN [(.int .i64),.bool,(.int .u64),(.int .u64),.bool,(.int .u64),(.int .u64),(.int .i64),(.int .i64)] τ4),oD 38 (.callF 33 [XhT]),oM 36 Xii,oE 39 0 XhU,oE 40 1 XhU,oM 9 XiX,oM 10 Xi4]) (.seq (.seq (.reg [oM 41 XcT,oD 42 (.bin .neq Xjg (.const (.int .i64 0)))]) (.cond XiU (.seq (.reg [oD 8 (.mv (.const (.bool false)))]) .ret) .skip)) (.seq (.reg [oD 11 (.mv (.const (.int .u32 0)))]) (.seq (.seq (.reg [oD 12 (.mv (.const (.int .i64 0)))]) (.block 0 (.loop (.seq (.seq (.reg [oM 43 Xdr,oM 44 τ1,oD 45 (.lenL XjY),oD 46 (.bin .lss Xi3 XjM)]) (.cond Xke .skip (.exit 0))) (.seq (.block 1 (.seq k7_18 (.seq (.seq (.reg [oM 60 Xet,oD 61 (.bin .neq Xn5 (.const (.int .i64 0))),oM 62 Xon,oG 63 (.mv τ9) 62 false,oG 64 (.mv XdU) 62 false,oG 65 (.callF 39 [Xqr,Xqq]) 62 false,oG 66 (.bin .neq Xq4 (.const (.int .i64 0))) 62 false,oD 67 (.pick XoU (.const (.bool true)) XqY)]) (.cond Xqy (.seq (.reg [oD 8 (.mv (.const (.bool false)))]) .ret) .skip)) (.reg [oM 68 τ1,oM 69 Xdr,oD 70 (.idxAL 1 Xqw Xsf),oD 71 (.load1 (.int .u32) Xsw),oM 11 XsA])))) (.reg [oM 47 Xdr,oD 48 (.bin .add Xkb (.const (.int .i64 1))),oM 12 Xkd])))))) (.seq (.reg [oM 73 τ9,oM 74 τ2,oD 75 (.conv .i64 Xvo),oM 76 τ3,oD 77 (.callF 37 [XtQ,Xwh,Xxk]),oM 72 Xxv,oE 78 0 Xsx,oE 79 1 Xsx,oM 15 Xxu,oM 16 Xyk]) (.seq (.reg [oM 81 Xem,oD 82 (.callF 28 [XBO]),oM 80 XF0,oE 83 0 Xyz,oE 84 1 Xyz,oD 17 (.alloc [(.int .i64 0),(.bool false),(.int .u64 0),(.int .u64 0),(.bool false),(.int .u64 0),(.int .u64 0),(.int .i64 0),(.int .i64 0),(.int .i64 0),(.bool false),(.int .u32 0),(.int .u32 0),(.bool false),(.string ⟨⟨[]⟩⟩),(.int .i64 0)]),oN (.store 16 Xen XBG),oM 18 XIF]) (.seq (.reg [oM 86 τ9,oD 87 (.callF 35 [XPM]),oD 88 (.callF 28 [XOn]),oM 85 XN4,oE 89 0 XJu,oE 90 1 XJu,oD 19 (.alloc [(.int .i64 0),(.bool false),(.int .u64 0),(.int .u64 0),(.bool false),(.int .u64 0),(.int .u64 0),(.int .i64 0),(.int .i64 0),(.int .i64 0),(.bool false),(.int .u32 0),(.int .u32 0),(.bool false),(.string ⟨⟨[]⟩⟩),(.int .i64 0)]),oN (.store 16 XeM XJQ),oM 20 XKo]) (.seq (.reg [oM 91 XeC,oD 92 (.bin .eql XO9 (.const (.int .i64 0))),oM 93 XNL,oG 94 (.mv XeQ) 93 true,oG 95 (.bin .eql XNn (.const (.int .i64 0))) 93 true,oD 96 (.pick XKe XJ5 (.const (.bool false))),oM 97 XPU,oG 98 (.fieldA 0 Xen) 97 true,oG 99 (.loadN [(.int .i64),.bool,(.int .u64),(.int .u64),.bool,(.int .u64),(.int .u64),(.int .i64),(.int .i64)] XQl) 97 true,oG 100 (.loadN [(.int .i64),.bool,(.int .u64),(.int .u64),.bool,(.int .u64),(.int .u64),(.int .i64),(.int .i64)] τ4) 97 true,oG 101 (.eqAgg false [(0,(.int .i64)),(1,.bool),(2,(.int .u64)),(3,(.int .u64)),(4,.bool),(5,(.int .u64)),(6,(.int .u64)),(7,(.int .i64)),(8,(.int .i64))] XQj Xws) 97 true,oD 102 (.pick XJa Xw1 (.const (.bool false))),oM 103 XxI,oG 104 (.fieldA 12 Xen) 103 true,oG 105 (.load1 (.int .u32) XBs) 103 true,oG 106 (.mv XcS) 103 true,oG 107 (.bin .eql Xys XBv) 103 true,oD 108 (.pick Xxh XBp (.const (.bool false))),oM 109 XyL,oG 110 (.fieldA 9 Xen) 109 true,oG 111 (.load1 (.int .i64) XDr) 109 true,oG 112 (.mv τ2) 109 true,oG 113 (.conv .i64 XBh) 109 true,oG 114 (.bin .eql Xug XBm) 109 true,oD 115 (.pick Xzx XwV (.const (.bool false))),oM 116 Xzm,oG 117 (.mv Xe4) 116 true,oG 118 (.bin .eql XxW (.const (.int .i64 0))) 116 true,oD 119 (.pick XAj XBd (.const (.bool false))),oM 120 XA3,oG 121 (.fieldA 9 XeM) 120 true,oG 122 (.load1 (.int .i64) Xyl) 120 true,oG 123 (.bin .eql XxC (.const (.int .i64 2))) 120 true,oD 124 (.pick Xy0 XDm (.const (.bool false))),oM 125 Xxz,oG 126 (.fieldA 0 XeM) 125 true,oG 127 (.loadN [(.int .i64),.bool,(.int .u64),(.int .u64),.bool,(.int .u64),(.int .u64),(.int .i64),(.int .i64)] XF2) 125 true,oG 128 (.loadN [(.int .i64),.bool,(.int .u64),(.int .u64),.bool,(.int .u64),(.int .u64),(.int .i64),(.int .i64)] τ4) 125 true,oG 129 (.eqAgg false [(0,(.int .i64)),(1,.bool),(2,(.int .u64)),(3,(.int .u64)),(4,.bool),(5,(.int .u64)),(6,(.int .u64)),(7,(.int .i64)),(8,(.int .i64))] XES XCb) 125 true,oD 130 (.pick XDX XEm (.const (.bool false))),oM 131 XCU,oG 132 (.fieldA 10 XeM) 131 true,oG 133 (.load1 .bool XCL) 131 true,oD 134 (.pick XFT XFP (.const (.bool false))),oM 135 XEZ,oG 136 (.callF 32 []) 135 true,oD 137 (.pick XHE XHd (.const (.bool false))),oM 8 XyW]) .ret))))))))))
def fn7:VFn:=⟨138,k7_48,[.tmp 8]⟩
def XLt:VC:=.seq (.seq (.reg [oM 45 XcT,oM 46 τ1,oD 47 (.lenL Xke),oD 48 (.bin .lss XjM Xkb)]) (.cond Xkd .skip (.exit 0))) (.seq (.block 1 (.seq (.seq (.reg [oM 51 τ1,oM 52 XcT,oD 53 (.idxAL 1 Xla Xk8),oD 54 (.load1 .str Xmo),oD 55 (.lenS Xm6),oD 56 (.bin .gtr Xmv (.const (.int .i64 20)))]) (.cond Xm5 (.seq (.reg [oD 57 (.callF 32 []),oM 6 XmR]) .ret) .skip)) (.seq (.reg [oM 59 τ1,oM 60 XcT,oD 61 (.idxAL 1 Xnn Xn5),oD 62 (.load1 .str Xon),oM 63 τ2,oD 64 (.build [(.bool false),(.int .i64 0),(.int .u32 0),(.string ⟨⟨[]⟩⟩),(.string ⟨⟨[]⟩⟩),(.string ⟨⟨[]⟩⟩)] [(0,1,(.const (.bool true))),(2,1,(.const (.int .u32 1))),(3,1,(.const (.string ⟨⟨[97,98]⟩⟩))),(4,1,XoU),(5,1,Xqr)]),oD 65 (.callF 43 [Xqq]),oM 58 Xq4,oE 66 0 XmY,oE 67 1 XmY,oM 11 XqY,oM 12 Xqy]) (.seq (.reg [oD 69 (.loadN [(.int .i64),.bool,(.int .u64),(.int .u64),.bool,(.int .u64),(.int .u64),(.int .i64),(.int .i64)] τ3),oD 70 (.callF 27 [Xsf]),oM 71 XcS,oD 72 (.callF 44 [Xsw,XsA]),oM 68 Xsx,oE 73 0 Xqw,oE 74 1 Xqw,oM 13 XtQ,oM 14 Xvo]) (.seq (.seq (.reg [oM 75 Xdr,oD 76 (.bin .neq Xwh (.const (.int .i64 0))),oM 77 Xxk,oG 78 (.mv Xet) 77 false,oG 79 (.bin .neq Xxu (.const (.int .i64 0))) 77 false,oD 80 (.pick Xxv (.const (.bool true)) Xyk),oM 81 Xyz,oG 82 (.mv τ7) 81 false,oG 83 (.mv XdU) 81 false,oG 84 (.callF 39 [XF0,XBG]) 81 false,oG 85 (.bin .neq XIF (.const (.int .i64 0))) 81 false,oD 86 (.pick XBO (.const (.bool true)) XJu)]) (.cond XPM (.seq (.reg [oD 6 (.mv (.const (.bool false)))]) .ret) .skip)) (.seq (.reg [oM 87 τ1,oM 88 XcT,oD 89 (.idxAL 1 XOn XN4),oD 90 (.load1 .str XJQ),oD 91 (.lenS XKo),oD 92 (.bin .eql XO9 (.const (.int .i64 8)))]) (.cond XNL (.reg [oM 93 τ1,oM 94 XcT,oD 95 (.idxAL 1 XKe XNn),oD 96 (.load1 .str XJ5),oM 9 XPU]) .skip))))))) (.reg [oM 49 XcT,oD 50 (.bin .add Xkc (.const (.int .i64 1))),oM 10 XkJ]))
def XVf:VC:=.seq (.reg [oM 98 τ7,oM 99 τ2,oD 100 (.callF 37 [XQl,(.const (.int .i64 0)),XQj]),oM 97 Xws,oE 101 0 XJa,oE 102 1 XJa,oM 15 Xw1,oM 16 XxI]) (.seq (.reg [oM 104 Xem,oD 105 (.callF 28 [XBs]),oM 103 Xys,oE 106 0 Xxh,oE 107 1 Xxh,oD 17 (.alloc [(.int .i64 0),(.bool false),(.int .u64 0),(.int .u64 0),(.bool false),(.int .u64 0),(.int .u64 0),(.int .i64 0),(.int .i64 0),(.int .i64 0),(.bool false),(.int .u32 0),(.int .u32 0),(.bool false),(.string ⟨⟨[]⟩⟩),(.int .i64 0)]),oN (.store 16 Xen XBv),oM 18 XBp]) (.seq (.reg [oM 109 τ7,oD 110 (.callF 35 [Xzx]),oD 111 (.callF 28 [XDr]),oM 108 Xug,oE 112 0 XyL,oE 113 1 XyL,oD 19 (.alloc [(.int .i64 0),(.bool false),(.int .u64 0),(.int .u64 0),(.bool false),(.int .u64 0),(.int .u64 0),(.int .i64 0),(.int .i64 0),(.int .i64 0),(.bool false),(.int .u32 0),(.int .u32 0),(.bool false),(.string ⟨⟨[]⟩⟩),(.int .i64 0)]),oN (.store 16 XeM XBh),oM 20 XBm]) (.seq (.reg [oM 115 τ7,oD 116 (.callF 42 [Xzm]),oM 114 XAj,oE 117 0 XwV,oE 118 1 XwV,oM 21 XxW,oM 22 XBd]) (.seq (.reg [oM 119 XeC,oD 120 (.bin .eql XA3 (.const (.int .i64 0))),oM 121 Xy0,oG 122 (.mv XeQ) 121 true,oG 123 (.bin .eql XxC (.const (.int .i64 0))) 121 true,oD 124 (.pick Xyl XDm (.const (.bool false))),oM 125 Xxz,oG 126 (.fieldA 0 Xen) 125 true,oG 127 (.loadN [(.int .i64),.bool,(.int .u64),(.int .u64),.bool,(.int .u64),(.int .u64),(.int .i64),(.int .i64)] XF2) 125 true,oG 128 (.loadN [(.int .i64),.bool,(.int .u64),(.int .u64),.bool,(.int .u64),(.int .u64),(.int .i64),(.int .i64)] τ3) 125 true,oG 129 (.eqAgg false [(0,(.int .i64)),(1,.bool),(2,(.int .u64)),(3,(.int .u64)),(4,.bool),(5,(.int .u64)),(6,(.int .u64)),(7,(.int .i64)),(8,(.int .i64))] XES XCb) 125 true,oD 130 (.pick XDX XEm (.const (.bool false))),oM 131 XCU,oG 132 (.fieldA 13 Xen) 131 true,oG 133 (.load1 .bool XCL) 131 true,oG 134 (.not XFP) 131 true,oD 135 (.pick XFT XEZ (.const (.bool false))),oM 136 XHE,oG 137 (.fieldA 14 Xen) 136 true,oG 138 (.load1 .str XyW) 136 true,oG 139 (.mv τ9) 136 true,oG 140 (.bin .eql XLG XKj) 136 true,oD 141 (.pick XHd XKO (.const (.bool false))),oM 142 XOv,oG 143 (.mv Xfv) 142 true,oG 144 (.mv τ9) 142 true,oG 145 (.bin .eql XPD XPN) 142 true,oD 146 (.pick XGV XNU (.const (.bool false))),oM 147 XOd,oG 148 (.mv Xem) 147 true,oG 149 (.lenS XMx) 147 true,oG 150 (.mv τ2) 147 true,oG 151 (.lenS XJN) 147 true,oG 152 (.bin .geq XKH XPp) 147 true,oD 153 (.pick XOx XNb (.const (.bool false))),oM 154 XPu,oG 155 (.mv Xem) 154 true,oG 156 (.mv Xem) 154 true,oG 157 (.lenS XLp) 154 true,oG 158 (.mv τ2) 154 true,oG 159 (.lenS XWr) 154 true,oG 160 (.bin .sub XUc XU3) 154 true,oG 161 (.sliceS XM8 (some XQy) none) 154 true,oG 162 (.mv τ2) 154 true,oG 163 (.bin .eql τ161 τ162) 154 true,oD 164 (.pick XPs τ163 (.const (.bool false))),oM 165 τ164,oG 166 (.mv Xe4) 165 true,oG 167 (.bin .eql τ166 (.const (.int .i64 0))) 165 true,oD 168 (.pick τ165 τ167 (.const (.bool false))),oM 169 τ168,oG 170 (.fieldA 13 XeM) 169 true,oG 171 (.load1 .bool τ170) 169 true,oD 172 (.pick τ169 τ171 (.const (.bool false))),oM 173 τ172,oG 174 (.fieldA 0 XeM) 173 true,oG 175 (.loadN [(.int .i64),.bool,(.int .u64),(.int .u64),.bool,(.int .u64),(.int .u64),(.int .i64),(.int .i64)] τ174) 173 true,oG 176 (.loadN [(.int .i64),.bool,(.int .u64),(.int .u64),.bool,(.int .u64),(.int .u64),(.int .i64),(.int .i64)] τ3) 173 true,oG 177 (.eqAgg false [(0,(.int .i64)),(1,.bool),(2,(.int .u64)),(3,(.int .u64)),(4,.bool),(5,(.int .u64)),(6,(.int .u64)),(7,(.int .i64)),(8,(.int .i64))] τ175 τ176) 173 true,oD 178 (.pick τ173 τ177 (.const (.bool false))),oM 179 τ178,oG 180 (.fieldA 14 XeM) 179 true,oG 181 (.load1 .str τ180) 179 true,oG 182 (.lenS τ181) 179 true,oG 183 (.bin .eql τ182 (.const (.int .i64 8))) 179 true,oD 184 (.pick τ179 τ183 (.const (.bool false))),oM 185 τ184,oG 186 (.callF 32 []) 185 true,oD 187 (.pick τ185 τ186 (.const (.bool false))),oM 6 τ187]) .ret))))
def XT9:VC:=.seq (.reg [oD 3 (.box τ0),oD 6 (.mv (.const (.bool false)))]) (.seq (.reg [oD 23 (.fieldA 0 τ3),oN (.store 1 Xfs (.const (.int .i64 17)))]) (.seq (.seq (.reg [oD 24 (.loadN [(.int .i64),.bool,(.int .u64),(.int .u64),.bool,(.int .u64),(.int .u64),(.int .i64),(.int .i64)] τ3),oD 25 (.callF 23 [XfN]),oD 26 (.not Xgd),oM 27 Xge,oG 28 (.mv τ1) 27 false,oG 29 (.lenL Xgi) 27 false,oG 30 (.bin .gtr Xgf (.const (.int .i64 10))) 27 false,oD 31 (.pick Xgn (.const (.bool true)) Xgw),oM 32 XgO,oG 33 (.mv τ2) 32 false,oG 34 (.lenS Xha) 32 false,oG 35 (.bin .gtr Xhb (.const (.int .i64 100))) 32 false,oD 36 (.pick Xg5 (.const (.bool true)) Xhq)]) (.cond XhU (.seq (.reg [oD 37 (.callF 32 []),oM 6 XhT]) .ret) .skip)) (.seq (.reg [oD 39 (.loadN [(.int .i64),.bool,(.int .u64),(.int .u64),.bool,(.int .u64),(.int .u64),(.int .i64),(.int .i64)] τ3),oD 40 (.callF 33 [XiX]),oM 38 Xi4,oE 41 0 Xii,oE 42 1 Xii,oM 7 Xjg,oM 8 XiU]) (.seq (.seq (.reg [oM 43 τ8,oD 44 (.bin .neq Xi3 (.const (.int .i64 0)))]) (.cond XjY (.seq (.reg [oD 6 (.mv (.const (.bool false)))]) .ret) .skip)) (.seq (.reg [oD 9 (.mv (.const (.string ⟨⟨[0,0,0,0,0,0,0,0]⟩⟩)))]) (.seq (.seq (.reg [oD 10 (.mv (.const (.int .i64 0)))]) (.block 0 (.loop XLt))) XVf))))))
def fn8:VFn:=⟨188,XT9,[.tmp 6]⟩
theorem XHD:(Tryz.prog.funcs[141]?).bind (XaA Tryz.prog)=some XRE:=by kernel_rfl
theorem XMk:(Tryz.prog.funcs[35]?).bind (XaA Tryz.prog)=some fn35:=by kernel_rfl
theorem XMq:(Tryz.prog.funcs[72]?).bind (XaA Tryz.prog)=some fn72:=by kernel_rfl
theorem XLQ:(Tryz.prog.funcs[28]?).bind (XaA Tryz.prog)=some fn28:=by kernel_rfl
theorem XKi:(Tryz.prog.funcs[66]?).bind (XaA Tryz.prog)=some fn66:=by kernel_rfl
theorem XHC:(Tryz.prog.funcs[105]?).bind (XaA Tryz.prog)=some XU6:=by kernel_rfl
theorem XGL:(Tryz.prog.funcs[152]?).bind (XaA Tryz.prog)=some XSJ:=by kernel_rfl
theorem XOZ:(Tryz.prog.funcs[88]?).bind (XaA Tryz.prog)=some fn88:=by kernel_rfl
theorem XK3:(Tryz.prog.funcs[87]?).bind (XaA Tryz.prog)=some fn87:=by kernel_rfl
theorem XME:(Tryz.prog.funcs[86]?).bind (XaA Tryz.prog)=some fn86:=by kernel_rfl
theorem XEP:(Tryz.prog.funcs[136]?).bind (XaA Tryz.prog)=some XSy:=by kernel_rfl
theorem XGO:(Tryz.prog.funcs[135]?).bind (XaA Tryz.prog)=some XTp:=by kernel_rfl
theorem XFD:(Tryz.prog.funcs[177]?).bind (XaA Tryz.prog)=some XUi:=by kernel_rfl
theorem XHF:(Tryz.prog.funcs[153]?).bind (XaA Tryz.prog)=some XT6:=by kernel_rfl
theorem XDq:(Tryz.prog.funcs[106]?).bind (XaA Tryz.prog)=some XRc:=by kernel_rfl
theorem XEI:(Tryz.prog.funcs[101]?).bind (XaA Tryz.prog)=some XT7:=by kernel_rfl
theorem XPF:(Tryz.prog.funcs[59]?).bind (XaA Tryz.prog)=some fn59:=by kernel_rfl
theorem XFg:(Tryz.prog.funcs[146]?).bind (XaA Tryz.prog)=some XSe:=by kernel_rfl
theorem XOG:(Tryz.prog.funcs[63]?).bind (XaA Tryz.prog)=some fn63:=by kernel_rfl
theorem XDh:(Tryz.prog.funcs[147]?).bind (XaA Tryz.prog)=some XSg:=by kernel_rfl
theorem XDU:(Tryz.prog.funcs[154]?).bind (XaA Tryz.prog)=some XSO:=by kernel_rfl
theorem XEf:(Tryz.prog.funcs[107]?).bind (XaA Tryz.prog)=some XUd:=by kernel_rfl
theorem XGQ:(Tryz.prog.funcs[108]?).bind (XaA Tryz.prog)=some XWw:=by kernel_rfl
theorem XOP:(Tryz.prog.funcs[74]?).bind (XaA Tryz.prog)=some fn74:=by kernel_rfl
theorem XDk:(Tryz.prog.funcs[126]?).bind (XaA Tryz.prog)=some XVP:=by kernel_rfl
theorem XJX:(Tryz.prog.funcs[41]?).bind (XaA Tryz.prog)=some fn41:=by kernel_rfl
theorem XMB:(Tryz.prog.funcs[37]?).bind (XaA Tryz.prog)=some fn37:=by kernel_rfl
theorem XPS:(Tryz.prog.funcs[42]?).bind (XaA Tryz.prog)=some fn42:=by kernel_rfl
theorem XMp:(Tryz.prog.funcs[39]?).bind (XaA Tryz.prog)=some fn39:=by kernel_rfl
theorem XNg:(Tryz.prog.funcs[47]?).bind (XaA Tryz.prog)=some fn47:=by kernel_rfl
theorem XPI:(Tryz.prog.funcs[53]?).bind (XaA Tryz.prog)=some fn53:=by kernel_rfl
theorem XKJ:(Tryz.prog.funcs[34]?).bind (XaA Tryz.prog)=some fn34:=by kernel_rfl
theorem XOQ:(Tryz.prog.funcs[23]?).bind (XaA Tryz.prog)=some fn23:=by kernel_rfl
theorem XMV:(Tryz.prog.funcs[58]?).bind (XaA Tryz.prog)=some fn58:=by kernel_rfl
theorem XL0:(Tryz.prog.funcs[71]?).bind (XaA Tryz.prog)=some fn71:=by kernel_rfl
theorem XQe:(Tryz.prog.funcs[36]?).bind (XaA Tryz.prog)=some fn36:=by kernel_rfl
theorem XO4:(Tryz.prog.funcs[25]?).bind (XaA Tryz.prog)=some fn25:=by kernel_rfl
theorem XNl:(Tryz.prog.funcs[62]?).bind (XaA Tryz.prog)=some fn62:=by kernel_rfl
theorem XPw:(Tryz.prog.funcs[24]?).bind (XaA Tryz.prog)=some fn24:=by kernel_rfl
theorem XLU:(Tryz.prog.funcs[60]?).bind (XaA Tryz.prog)=some fn60:=by kernel_rfl
theorem XED:(Tryz.prog.funcs[102]?).bind (XaA Tryz.prog)=some XSl:=by kernel_rfl
theorem XG4:(Tryz.prog.funcs[148]?).bind (XaA Tryz.prog)=some XS1:=by kernel_rfl
theorem XLh:(Tryz.prog.funcs[65]?).bind (XaA Tryz.prog)=some fn65:=by kernel_rfl
theorem XKL:(Tryz.prog.funcs[64]?).bind (XaA Tryz.prog)=some fn64:=by kernel_rfl
theorem XMy:(Tryz.prog.funcs[61]?).bind (XaA Tryz.prog)=some fn61:=by kernel_rfl
theorem XC4:(Tryz.prog.funcs[103]?).bind (XaA Tryz.prog)=some XVm:=by kernel_rfl
theorem XCv:(Tryz.prog.funcs[149]?).bind (XaA Tryz.prog)=some XR8:=by kernel_rfl
theorem XFn:(Tryz.prog.funcs[174]?).bind (XaA Tryz.prog)=some XVG:=by kernel_rfl
theorem XDv:(Tryz.prog.funcs[150]?).bind (XaA Tryz.prog)=some XTW:=by kernel_rfl
theorem XGu:(Tryz.prog.funcs[104]?).bind (XaA Tryz.prog)=some XRw:=by kernel_rfl
theorem XCz:(Tryz.prog.funcs[151]?).bind (XaA Tryz.prog)=some XRB:=by kernel_rfl
theorem XF7:(Tryz.prog.funcs[175]?).bind (XaA Tryz.prog)=some XWd:=by kernel_rfl
theorem XCg:(Tryz.prog.funcs[176]?).bind (XaA Tryz.prog)=some XVA:=by kernel_rfl
theorem XQd:(Tryz.prog.funcs[43]?).bind (XaA Tryz.prog)=some fn43:=by kernel_rfl
theorem XM0:(Tryz.prog.funcs[44]?).bind (XaA Tryz.prog)=some fn44:=by kernel_rfl
theorem XMf:(Tryz.prog.funcs[75]?).bind (XaA Tryz.prog)=some fn75:=by kernel_rfl
theorem XFx:(Tryz.prog.funcs[127]?).bind (XaA Tryz.prog)=some XRS:=by kernel_rfl
theorem XK7:(Tryz.prog.funcs[38]?).bind (XaA Tryz.prog)=some fn38:=by kernel_rfl
theorem XP7:(Tryz.prog.funcs[40]?).bind (XaA Tryz.prog)=some fn40:=by kernel_rfl
theorem XNk:(Tryz.prog.funcs[27]?).bind (XaA Tryz.prog)=some fn27:=by kernel_rfl
theorem XMM:(Tryz.prog.funcs[73]?).bind (XaA Tryz.prog)=some fn73:=by kernel_rfl
theorem XTy:(Tryz.prog.funcs[7]?).bind (XaA Tryz.prog)=some fn7:=by kernel_rfl
theorem XTt:(Tryz.prog.funcs[8]?).bind (XaA Tryz.prog)=some fn8:=by kernel_rfl
def tab:List (Nat×VFn):=[(6,fn6),(31,fn31),(32,fn32),(33,fn33),(67,fn67),(109,XSA),(110,XWE),(68,fn68),(111,XSE),(155,XSF),(156,XSj),(112,XQL),(157,XUM),(113,XUK),(158,XUO),(159,XSP),(114,XRG),(115,XU7),(116,XSz),(69,fn69),(117,XVN),(119,XWu),(97,fn97),(118,XUf),(160,XRT),(180,XWa),(195,XTB),(196,XWl),(181,XVt),(197,XQU),(182,XTA),(183,XTV),(130,XUB),(164,XV8),(189,XQS),(165,XSS),(98,fn98),(161,XR4),(184,XRp),(198,XS0),(185,XR3),(199,XVb),(203,XU1),(204,XVR),(120,XTa),(121,XT2),(70,fn70),(122,XQD),(123,XVD),(162,XQH),(186,XSu),(187,XRZ),(163,XVs),(188,XUW),(200,XQR),(124,XQp),(125,XQF),(93,fn93),(81,fn81),(131,XUw),(166,XRk),(190,XRA),(77,fn77),(78,fn78),(129,XU2),(138,XTe),(95,fn95),(80,fn80),(201,XRd),(202,XUF),(191,XVB),(132,XUg),(167,XTq),(192,XUt),(169,XWC),(170,XR9),(193,XVC),(134,XWt),(133,XSx),(168,XRL),(94,fn94),(139,XTP),(140,XUm),(141,XRE),(35,fn35),(72,fn72),(28,fn28),(66,fn66),(105,XU6),(152,XSJ),(88,fn88),(87,fn87),(86,fn86),(136,XSy),(135,XTp),(177,XUi),(153,XT6),(106,XRc),(101,XT7),(59,fn59),(146,XSe),(63,fn63),(147,XSg),(154,XSO),(107,XUd),(108,XWw),(74,fn74),(126,XVP),(41,fn41),(37,fn37),(42,fn42),(39,fn39),(47,fn47),(53,fn53),(34,fn34),(23,fn23),(58,fn58),(71,fn71),(36,fn36),(25,fn25),(62,fn62),(24,fn24),(60,fn60),(102,XSl),(148,XS1),(65,fn65),(64,fn64),(61,fn61),(103,XVm),(149,XR8),(174,XVG),(150,XTW),(104,XRw),(151,XRB),(175,XWd),(176,XVA),(43,fn43),(44,fn44),(75,fn75),(127,XRS),(38,fn38),(40,fn40),(27,fn27),(73,fn73),(7,fn7),(8,fn8)]
theorem XaE:Xlx Tryz.prog (XaD tab):=Xlx.XaM ⟨XS7,XK1,XKn,XP6,XKA,XHm,XE7,XNv,XEh,XEj,XCM,XEM,XFm,XF5,XHH,XHh,XCj,XGj,XE6,XMI,XDT,XCG,XMX,XGM,XCx,XCs,XGT,XFy,XEE,XCn,XB2,XHi,XHz,XFb,XEr,XEn,XMJ,XDY,XEp,XGC,XFV,XHw,XHu,XEl,XGA,XHf,XKd,XFS,XCl,XFh,XDB,XDd,XEW,XG6,XB4,XEv,XGp,XLw,XOz,XF3,XF4,XCH,XLv,XOo,XFB,XEx,XM2,XLD,XEe,XCr,XCB,XCi,XB6,XHI,XCe,XCp,XDM,XFl,XG2,XDS,XMT,XFw,XCT,XHD,XMk,XMq,XLQ,XKi,XHC,XGL,XOZ,XK3,XME,XEP,XGO,XFD,XHF,XDq,XEI,XPF,XFg,XOG,XDh,XDU,XEf,XGQ,XOP,XDk,XJX,XMB,XPS,XMp,XNg,XPI,XKJ,XOQ,XMV,XL0,XQe,XO4,XNl,XPw,XLU,XED,XG4,XLh,XKL,XMy,XC4,XCv,XFn,XDv,XGu,XCz,XF7,XCg,XQd,XM0,XMf,XFx,XK7,XP7,XNk,XMM,XTy,XTt,trivial⟩
end Go.Vm.Code
