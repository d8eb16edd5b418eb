import Derived.Test.YtddaijhjflfdmaaGreatNClientEchoesb
namespace Go.Vm
open Go Go.RowKit
abbrev wI (k:IntKind) (n:Int):Int:=IntKind.wrap k n
abbrev XnS (k:IntKind) (a b:Int):Int:=IntKind.wrap k (BitVec.ofInt k.bits a &&& BitVec.ofInt k.bits b).toNat
abbrev XlO (k:IntKind) (a b:Int):Int:=IntKind.wrap k (BitVec.ofInt k.bits a ||| BitVec.ofInt k.bits b).toNat
abbrev XB9 (k:IntKind) (a b:Int):Int:=IntKind.wrap k (BitVec.ofInt k.bits a &&& ~~~ BitVec.ofInt k.bits b).toNat
def Xbn {α:Type} (b:Bool) (x:Option α):Option α:=match b with|true=>x|false=>none
theorem Xbn.elim {α:Type} {b:Bool} {x:Option α} {r:α} (h:Xbn b x=some r):b=true∧x=some r:=by cases b;cases h;exact ⟨rfl,h⟩
theorem Xbn.mk {α:Type} {b:Bool} {x:Option α} (h:b=true):Xbn b x=x:=by subst h;rfl
theorem Xdy.elim {α β:Type} {x:Option α} {F:α→Option β} {r:β} (h:x.bind F=some r):∃ a,x=some a∧F a=some r:=by cases x with|none=>cases h|some a=>exact ⟨a,rfl,h⟩
def FUEL:Nat:=2^64
def iter {σ ρ:Type} (f:σ→Option (Sum σ ρ)):Nat→σ→Option ρ
 | 0,_=>none
 | n+1,s=>match f s with
   | none=>none
   | some (.inl s')=>iter f n s'
   | some (.inr r)=>some r
theorem Xdh {σ ρ:Type} {P:Program} {f base:Nat} {R:Value→Hp→Nat→Prop} {step:σ→Option (Sum σ ρ)} {head:σ→VM} {C:ρ→Prop}
 (h:∀ s o,step s=some o→Sum.elim (fun s'=>XaF P f base (head s') R) C o→XaF P f base (head s) R) :
 ∀ n s r,iter step n s=some r→C r→XaF P f base (head s) R
 | 0,_,_,e,_=>by cases e
 | n+1,s,r,e,hc=>by
   rw [iter] at e
   split at e
   ·cases e
   ·rename_i s' hs
    exact h s _ hs (Xdh h n s' r e hc)
   ·rename_i r' hs
    cases e
    exact h s _ hs hc
def vI (k:IntKind) (xs:List Int):List Value:=xs.map (Value.int k)
def vB (xs:List Bool):List Value:=xs.map Value.bool
def vS (xs:List (List UInt8)):List Value:=xs.map fun s=>Value.string ⟨⟨s⟩⟩
def bI (l:List UInt8):List Int:=l.map fun b=>(b.toNat:Int)
def iB (xs:List Int):List UInt8:=xs.map fun n=>UInt8.ofNat n.toNat
@[simp] theorem vI_len (k:IntKind) (xs:List Int):(vI k xs).length=xs.length:=List.length_map _
@[simp] theorem vB_len (xs:List Bool):(vB xs).length=xs.length:=List.length_map _
@[simp] theorem vS_len (xs:List (List UInt8)):(vS xs).length=xs.length:=List.length_map _
@[simp] theorem XI5 (l:List UInt8):(bI l).length=l.length:=List.length_map _
@[simp] theorem iB_len (l:List Int):(iB l).length=l.length:=List.length_map _
theorem Xj4 (k:IntKind) (xs:List Int):Xbk.flatL (vI k xs)=true:=Xnt (fun _=>rfl) xs
theorem XnX (xs:List Bool):Xbk.flatL (vB xs)=true:=Xnt (fun _=>rfl) xs
theorem Xol (xs:List (List UInt8)):Xbk.flatL (vS xs)=true:=Xnt (fun _=>rfl) xs
theorem Xif (k:IntKind):∀ (xs:List Int),(vI k xs).all Xil=true
 | []=>rfl
 | _::xs=>by simp only [vI,List.map_cons,List.all_cons,Xil,Bool.true_and];exact Xif k xs
theorem Xkq:∀ (xs:List Bool),(vB xs).all Xil=true
 | []=>rfl
 | _::xs=>by simp only [vB,List.map_cons,List.all_cons,Xil,Bool.true_and];exact Xkq xs
theorem Xkt:∀ (xs:List (List UInt8)),(vS xs).all Xil=true
 | []=>rfl
 | _::xs=>by simp only [vS,List.map_cons,List.all_cons,Xil,Bool.true_and];exact Xkt xs
theorem Xe7 (l:List UInt8):ofBytes l=vI .u8 (bI l):=by simp [ofBytes,vI,bI,List.map_map]
theorem Xos:∀ (xs:List Int),Xg6 (vI .u8 xs)=some (iB xs)
 | []=>rfl
 | x::xs=>by simp only [vI,List.map_cons,Xg6];rw [show Xg6 (xs.map (Value.int .u8))=_ from Xos xs];rfl
theorem XUe (k:IntKind) (xs:List Int) (i:Nat) (x:Int):(vI k xs).set i (.int k x)=vI k (xs.set i x):=by simp [vI,List.map_set]
theorem XlR (k:IntKind) (xs:List Int) (n:Nat):(vI k xs).drop n=vI k (xs.drop n):=by simp [vI,List.map_drop]
theorem Xlu (k:IntKind) (xs:List Int) (n:Nat):(vI k xs).take n=vI k (xs.take n):=by simp [vI,List.map_take]
theorem XNH (xs:List Bool) (n:Nat):(vB xs).drop n=vB (xs.drop n):=by simp [vB,List.map_drop]
theorem XJI (xs:List Bool) (n:Nat):(vB xs).take n=vB (xs.take n):=by simp [vB,List.map_take]
theorem XmW (xs:List (List UInt8)) (n:Nat):(vS xs).drop n=vS (xs.drop n):=by simp [vS,List.map_drop]
theorem XmR (xs:List (List UInt8)) (n:Nat):(vS xs).take n=vS (xs.take n):=by simp [vS,List.map_take]
theorem XIn (k:IntKind) (xs ys:List Int):vI k xs++vI k ys=vI k (xs++ys):=by simp [vI]
theorem br.h {α:Type} {b b':Bool} {X Y:Option α} {r:α} {p q:Prop} (h:cond b' X Y=some r) (e:b=b') (k1:b'=true→X=some r→p) (k2:b'=false→Y=some r→q):br b p q:=by
 subst e;cases b;exact k2 rfl h;exact k1 rfl h
theorem rd.I {k:IntKind} {xs:List Int} {o i:Nat} {x:Int} {K:Value→Prop} (hx:xs[i]?=some x) (e:o=i) (h:Xim (.int k x) K):rd (vI k xs) o K:=by
 subst e;exact rd.intro (v:=.int k x) (by simp [vI,hx]) h
theorem rd.B {xs:List Bool} {o i:Nat} {x:Bool} {K:Value→Prop} (hx:xs[i]?=some x) (e:o=i) (h:Xim (.bool x) K):rd (vB xs) o K:=by
 subst e;exact rd.intro (v:=.bool x) (by simp [vB,hx]) h
theorem rd.S {xs:List (List UInt8)} {o i:Nat} {x:List UInt8} {K:Value→Prop} (hx:xs[i]?=some x) (e:o=i) (h:Xim (.string ⟨⟨x⟩⟩) K):rd (vS xs) o K:=by
 subst e;exact rd.intro (v:=.string ⟨⟨x⟩⟩) (by simp [vS,hx]) h
theorem XO9 {k:IntKind} {xs:List Int} {o i:Nat} {x:Int} (hb:decide (i<xs.length)=true) (e:o=i):(decide ((XaV (.int k x)).length=1∧o+1≤(vI k xs).length)&&(XaV (.int k x)).all Xil)=true:=by
 subst e;have:=of_decide_eq_true hb;simp [XaV,Value.cells,Xil];omega
theorem XQU {k:IntKind} {xs:List Int} {o i:Nat} {x:Int} {K:List Value→Prop} (e:o=i) (h:K (vI k (xs.set i x))):∃ cs',setAt (vI k xs) o (XaV (.int k x))=cs'∧K cs':=
 ⟨_,by subst e;exact XUe k xs o x,h⟩
theorem XRl {k:IntKind} {n:Nat} {z:Int} {K:List Value→Prop} (h:K (vI k (List.replicate n z))):∃ cs',(List.replicate n [Value.int k z]).flatten=cs'∧K cs':=
 ⟨_,by simp [vI,List.flatten_replicate_singleton],h⟩
theorem XSA {l:List UInt8} {K:List Value→Prop} (h:K (vI .u8 (bI l))):∃ cs',ofBytes l=cs'∧K cs':=⟨_,Xe7 l,h⟩
theorem XWC {xs:List Int} {o n:Nat} {K:List UInt8→Prop} (h:K (iB ((xs.drop o).take n))):∃ bs,Xg6 (((vI .u8 xs).drop o).take n)=some bs∧K bs:=
 ⟨_,by rw [XlR,Xlu];exact Xos _,h⟩
theorem XK0 {l:List Value} {bs:List UInt8} {K:List UInt8→Prop} (e:Xg6 l=some bs) (h:K bs):∃ bs,Xg6 l=some bs∧K bs:=⟨_,e,h⟩
theorem Xz5 {k:IntKind} {new:List Value} {m:Nat} {ys:List Int} {K:List Value→Nat→Prop} (e:new=vI k ys) (em:m=ys.length) (h:K (vI k ys) ys.length):∃ cs' n',new=cs'∧m=n'∧K cs' n':=⟨_,_,e,em,h⟩
theorem XTq {k:IntKind} {new:List Value} {xs:List Int} {o c n m:Nat} {ys:List Int} {K:List Value→Nat→Prop} (e:new=vI k ys) (h0:o=0) (hc:c=xs.length) (hn:n+m=(xs++ys).length) (h:K (vI k (xs++ys)) (xs++ys).length) :
 ∃ cs' n',((vI k xs).drop o).take c++new=cs'∧n+m=n'∧K cs' n':=
 ⟨_,_,by subst h0;rw [List.drop_zero,List.take_of_length_le (by simp [hc]),e,XIn],hn,h⟩
def vT {α:Type} (f:α→List Value) (xs:List α):List Value:=xs.flatMap f
section
variable {α:Type} {f:α→List Value} {c:Nat}
theorem Xig (hf:∀ x,(f x).length=c) (xs:List α):(vT f xs).length=xs.length*c:=by
 induction xs with
 | nil=>simp [vT]
 | cons x xs ih=>
   have:vT f (x::xs)=f x++vT f xs:=rfl
   rw [this,List.length_append,hf,ih,List.length_cons,Nat.succ_mul];omega
theorem Xog (hf:∀ x,Xbk.flatL (f x)=true) (xs:List α):Xbk.flatL (vT f xs)=true:=by
 have app:∀ a b:List Value,Xbk.flatL a=true→Xbk.flatL b=true→Xbk.flatL (a++b)=true:=by
  intro a b ha hb
  induction a with
  | nil=>exact hb
  | cons v a ih=>simp only [Xbk.flatL,Bool.and_eq_true,List.cons_append] at ha ⊢;exact ⟨ha.1,ih ha.2⟩
 induction xs with
 | nil=>rfl
 | cons x xs ih=>exact app _ _ (hf x) ih
theorem Xk3 (hf:∀ x,(f x).all Xil=true) (xs:List α):(vT f xs).all Xil=true:=by
 induction xs with
 | nil=>rfl
 | cons x xs ih=>have:vT f (x::xs)=f x++vT f xs:=rfl;rw [this,List.all_append,hf,ih];rfl
theorem XUQ (xs ys:List α):vT f xs++vT f ys=vT f (xs++ys):=by simp [vT]
theorem Xgp (hf:∀ x,(f x).length=c) (xs:List α) (n:Nat):(vT f xs).drop (n*c)=vT f (xs.drop n):=by
 induction xs generalizing n with
 | nil=>simp [vT]
 | cons x xs ih=>
   cases n with
   | zero=>simp
   | succ n=>
     have:vT f (x::xs)=f x++vT f xs:=rfl
     rw [this,List.drop_succ_cons,Nat.succ_mul,Nat.add_comm,List.drop_append,hf,List.drop_eq_nil_of_le (by rw [hf];omega),List.nil_append,show c+n*c - c=n*c by omega,ih]
theorem Xgq (hf:∀ x,(f x).length=c) (xs:List α) (n:Nat):(vT f xs).take (n*c)=vT f (xs.take n):=by
 induction xs generalizing n with
 | nil=>simp [vT]
 | cons x xs ih=>
   cases n with
   | zero=>simp [vT]
   | succ n=>
     have:vT f (x::xs)=f x++vT f xs:=rfl
     have h2:vT f ((x::xs).take (n+1))=f x++vT f (xs.take n):=rfl
     rw [this,h2,Nat.succ_mul,Nat.add_comm,List.take_append,hf,List.take_of_length_le (by rw [hf];omega),show c+n*c - c=n*c by omega,ih]
theorem XSJ (hf:∀ x,(f x).length=c) {xs:List α} {i j:Nat} {x:α} (hx:xs[i]?=some x) (hj:j<c):(vT f xs)[i*c+j]?=(f x)[j]?:=by
 induction xs generalizing i with
 | nil=>simp at hx
 | cons y xs ih=>
   have:vT f (y::xs)=f y++vT f xs:=rfl
   rw [this]
   cases i with
   | zero=>
     simp at hx;subst hx
     rw [Nat.zero_mul,Nat.zero_add,List.getElem?_append_left (by rw [hf];exact hj)]
   | succ i=>
     rw [List.getElem?_append_right (by rw [hf,Nat.succ_mul];omega),hf,show (i+1)*c+j - c=i*c+j by rw [Nat.succ_mul];omega]
     exact ih (by simpa using hx)
theorem rd.T (hf:∀ x,(f x).length=c) {xs:List α} {o i j:Nat} {x:α} {v:Value} {K:Value→Prop} (hx:xs[i]?=some x) (e:o=i*c+j) (hj:j<c) (hv:(f x)[j]?=some v) (h:Xim v K):rd (vT f xs) o K:=by
 subst e;exact rd.intro (by rw [XSJ hf hx hj];exact hv) h
theorem XJe (hf:∀ x,(f x).length=c) {new:List Value} {xs:List α} {o k n m:Nat} {ys:List α} {K:List Value→Nat→Prop} (e:new=vT f ys) (h0:o=0) (hc:k=xs.length*c) (hn:n+m=(xs++ys).length) (h:K (vT f (xs++ys)) (xs++ys).length) :
 ∃ cs' n',((vT f xs).drop o).take k++new=cs'∧n+m=n'∧K cs' n':=
 ⟨_,_,by subst h0;rw [List.drop_zero,List.take_of_length_le (by rw [Xig hf,hc];omega),e,XUQ],hn,h⟩
def unT (sz:Nat) (un:List Value→Option α):Nat→List Value→Option (List α)
 | 0,[]=>some []
 | 0,_::_=>none
 | _+1,[]=>some []
 | n+1,v::cs=>match un ((v::cs).take sz) with
   | some x=>match unT sz un n ((v::cs).drop sz) with
     | some xs=>some (x::xs)
     | none=>none
   | none=>none
theorem Xik {un:List Value→Option α} (hu:∀ cs x,un cs=some x→cs=f x):∀ {n:Nat} {cs:List Value} {xs:List α},unT c un n cs=some xs→cs=vT f xs
 | 0,[],xs,h=>by simp only [unT,Option.some.injEq] at h;subst h;rfl
 | 0,_::_,xs,h=>by simp [unT] at h
 | n+1,[],xs,h=>by simp only [unT,Option.some.injEq] at h;subst h;rfl
 | n+1,v::cs,xs,h=>by
   simp only [unT] at h
   split at h<;>try (cases h;done)
   rename_i x hx
   split at h<;>cases h
   rename_i ys hys
   have e1:=hu _ _ hx
   have e2:=Xik hu hys
   have:vT f (x::ys)=f x++vT f ys:=rfl
   rw [this,←e1,←e2,List.take_append_drop]
end
theorem XsY {s:XbC} {vals aqs:List Value} {os:List (Option XbL)} {h h1 h2:Hp} {top n m t':Nat} {ws:List Wd} {r:XcU} {v':Value} (e1:Xdr h 0 s.modes vals=some (aqs,os)) (ew:XkR h s.modes vals=ws) {cw:List (Option (List Value))} (ec:Xk8 os=cw) (e2:s.run aqs cw=some r) (e3:apartB ws=true)
 (hn:r.new.length=n) (hm:Xlx ws=m) (ht:top+n+m=t') (e4:XdN h (Xuo top n ws) ws r.wr=some h1) (e5:Xjd h1 (Xuo top n ws) top r.new=some h2) (e6:Xe3 (Xuo top n ws) r.v=some v'):Xi3 s vals h top=some (v',Xjv h2 (top+n) m,t'):=by
 subst hn hm ht ec
 simp only [Xi3,e1,e2,ew,e3,e4,e5,e6]
theorem XSh {h:Hp} {k:Nat}:Xdr h k [] []=some ([],[]):=rfl
theorem XKj {h:Hp} {k k':Nat} {m:Md} {ms:List Md} {v a:Value} {vs aqs:List Value} {os os':List (Option XbL)} (e:Xc0 h k m v=some (a,os)) (hk:k+os.length=k') (t:Xdr h k' ms vs=some (aqs,os')):Xdr h k (m::ms) (v::vs)=some (a::aqs,os++os'):=by
 subst hk
 simp only [Xdr,e,t]
theorem XB8 {h:Hp} {k b o n m sz sz':Nat} {ob:XbL} {cs cs':List Value} (ho:XaD h b=some ob) (hc:ob.cs=some cs) (hs:sz=sz') (en:n=m) (hle:o+n*sz≤cs.length) (e:(cs.drop o).take (n*sz)=cs') (hf:Xbk.flatL cs'=true) :
 Xc0 h k (.sl sz) (.slice (some ⟨b,o,none⟩) n sz')=some (.slice (some ⟨k,0,none⟩) m sz,[some (.row false cs')]):=by
 subst hs en e
 simp only [Xc0,ho,hc,hle,hf,↓reduceIte]
theorem XIY {h:Hp} {b o n i m sz kk:Nat} {k:IntKind} {own:Bool} {xs:List Int} (ho:XaD h b=some (.row own (vI k xs))) (hs:sz=1) (e0:o=i) (en:n=m) (hle:i+m≤xs.length):Xc0 h kk (.sl 1) (.slice (some ⟨b,o,none⟩) n sz)=some (.slice (some ⟨kk,0,none⟩) m 1,[some (.row false (vI k ((xs.drop i).take m)))]):=by
 subst hs e0 en
 exact XB8 ho rfl rfl rfl (by simp;omega) (by rw [XlR,Xlu,Nat.mul_one]) (Xj4 _ _)
theorem XHW {h:Hp} {b o n i m sz kk:Nat} {own:Bool} {xs:List (List UInt8)} (ho:XaD h b=some (.row own (vS xs))) (hs:sz=1) (e0:o=i) (en:n=m) (hle:i+m≤xs.length):Xc0 h kk (.sl 1) (.slice (some ⟨b,o,none⟩) n sz)=some (.slice (some ⟨kk,0,none⟩) m 1,[some (.row false (vS ((xs.drop i).take m)))]):=by
 subst hs e0 en
 exact XB8 ho rfl rfl rfl (by simp;omega) (by rw [XmW,XmR,Nat.mul_one]) (Xol _)
theorem XJy {h:Hp} {b o n i m sz kk:Nat} {own:Bool} {xs:List Bool} (ho:XaD h b=some (.row own (vB xs))) (hs:sz=1) (e0:o=i) (en:n=m) (hle:i+m≤xs.length):Xc0 h kk (.sl 1) (.slice (some ⟨b,o,none⟩) n sz)=some (.slice (some ⟨kk,0,none⟩) m 1,[some (.row false (vB ((xs.drop i).take m)))]):=by
 subst hs e0 en
 exact XB8 ho rfl rfl rfl (by simp;omega) (by rw [XNH,XJI,Nat.mul_one]) (XnX _)
theorem XO8 {h:Hp} {b o n sz kk:Nat} {k:IntKind} {own:Bool} {xs:List Int} (ho:XaD h b=some (.row own (vI k xs))) (hs:sz=1) (e0:o=0) (en:n=xs.length):Xc0 h kk (.sl 1) (.slice (some ⟨b,o,none⟩) n sz)=some (.slice (some ⟨kk,0,none⟩) xs.length 1,[some (.row false (vI k xs))]):=by
 have:=XIY (kk:=kk) (i:=0) (m:=xs.length) ho hs e0 en (by omega)
 simpa using this
theorem XNm {h:Hp} {b o n sz kk:Nat} {own:Bool} {xs:List (List UInt8)} (ho:XaD h b=some (.row own (vS xs))) (hs:sz=1) (e0:o=0) (en:n=xs.length):Xc0 h kk (.sl 1) (.slice (some ⟨b,o,none⟩) n sz)=some (.slice (some ⟨kk,0,none⟩) xs.length 1,[some (.row false (vS xs))]):=by
 have:=XHW (kk:=kk) (i:=0) (m:=xs.length) ho hs e0 en (by omega)
 simpa using this
theorem XMn {h:Hp} {b o n sz kk:Nat} {own:Bool} {xs:List Bool} (ho:XaD h b=some (.row own (vB xs))) (hs:sz=1) (e0:o=0) (en:n=xs.length):Xc0 h kk (.sl 1) (.slice (some ⟨b,o,none⟩) n sz)=some (.slice (some ⟨kk,0,none⟩) xs.length 1,[some (.row false (vB xs))]):=by
 have:=XJy (kk:=kk) (i:=0) (m:=xs.length) ho hs e0 en (by omega)
 simpa using this
theorem Xij {α:Type} {f:α→List Value} {c:Nat} (hf:∀ x,(f x).length=c) (hfl:∀ x,Xbk.flatL (f x)=true) {h:Hp} {b o n i m sz kk:Nat} {own:Bool} {xs:List α} (ho:XaD h b=some (.row own (vT f xs))) (hs:sz=c) (e0:o=i*c) (en:n=m) (hle:i+m≤xs.length):Xc0 h kk (.sl c) (.slice (some ⟨b,o,none⟩) n sz)=some (.slice (some ⟨kk,0,none⟩) m c,[some (.row false (vT f ((xs.drop i).take m)))]):=by
 subst hs e0 en
 refine XB8 ho rfl rfl rfl ?_ (by rw [Xgp hf,Xgq hf]) (Xog hfl _)
 rw [Xig hf,←Nat.add_mul];exact Nat.mul_le_mul_right _ hle
theorem XgK {α:Type} {f:α→List Value} {c:Nat} (hf:∀ x,(f x).length=c) (hfl:∀ x,Xbk.flatL (f x)=true) {h:Hp} {b o n sz kk:Nat} {own:Bool} {xs:List α} (ho:XaD h b=some (.row own (vT f xs))) (hs:sz=c) (e0:o=0) (en:n=xs.length):Xc0 h kk (.sl c) (.slice (some ⟨b,o,none⟩) n sz)=some (.slice (some ⟨kk,0,none⟩) xs.length c,[some (.row false (vT f xs))]):=by
 have:=Xij hf hfl (kk:=kk) (i:=0) (m:=xs.length) ho hs (by simpa using e0) en (by omega)
 simpa using this
theorem ra_tr {h:Hp} {k:Nat} {ps:List Path} {bs:List PR} {v v' w:Value} {l:List (Option XbL)} (e0:XhV h v ps []=bs) (e1:Xe3 (Xxj k bs) v=some v') (e2:Xhc h (Xxj k bs) (fun s=>XmY k s ps bs) 0 ps bs=some l) (e3:XvM v' (XmY k none ps bs)=w):Xc0 h k (.tr ps) v=some (w,l):=by
 subst e0 e3
 simp only [Xc0,e1,e2]
theorem XRm {h:Hp} {s:Nat→Option Nat} {pat:Option Nat→List (Nat×Value)} {i:Nat}:Xhc h s pat i [] []=some []:=rfl
theorem XRs {h:Hp} {s:Nat→Option Nat} {pat:Option Nat→List (Nat×Value)} {i z:Nat} {p:Path} {ps:List Path} {bs:List PR} {l:List (Option XbL)} (t:Xhc h s pat (i+1) ps bs=some l):Xhc h s pat i (p::ps) (.nil z::bs)=some (some (mkObj p.kind [])::l):=by
 simp only [Xhc,t]
theorem vp_at {h:Hp} {s:Nat→Option Nat} {pat:Option Nat→List (Nat×Value)} {i b:Nat} {p:Path} {ps:List Path} {bs:List PR} {l:List (Option XbL)} {ob:XbL} {cs cs' cs'':List Value} (e1:XaD h b=some ob) (e2:(cond (isW p.kind) ob.wcs ob.cs)=some cs) (e3:Xe3.renL s cs=some cs') (e4:Xqy cs' (pat (some i))=cs'')
 (t:Xhc h s pat (i+1) ps bs=some l):Xhc h s pat i (p::ps) (.hit b::bs)=some (some (mkObj p.kind cs'')::l):=by
 subst e4
 simp only [Xhc,e1,e2,e3,t]
def skipW:Wd→Bool
 | .no|.emp _|.win _ _ _ false|.blk _ false=>true
 | _=>false
theorem XI2 {h:Hp} {s:Nat→Option Nat}:XdN h s [] []=some h:=rfl
theorem XLc {h h':Hp} {s:Nat→Option Nat} {x:Wd} {ws:List Wd} {c:Option (List Value)} {cs:List (Option (List Value))} (hx:skipW x=true) (t:XdN h s ws cs=some h'):XdN h s (x::ws) (c::cs)=some h':=by
 cases x with
 | win b o n w=>cases w<;>first|(simp only [XdN];exact t)|cases hx
 | blk b w=>cases w<;>first|(simp only [XdN];exact t)|cases hx
 | _=>simp only [XdN];exact t
theorem XH9 {h h':Hp} {s:Nat→Option Nat} {b off n:Nat} {ws:List Wd} {c c' x y:List Value} {cs:List (Option (List Value))} {ob ob':XbL} (e1:XaD h b=some ob) (e2:ob.wcs=some x) (e3:Xe3.renL s c=some c') (e4:c'.length=n∧off+n≤x.length) (e5:setAt x off c'=y) (e6:ob.wr y=some ob') (t:XdN (Xgx h b ob') s ws cs=some h') :
 XdN h s (.win b off n true::ws) (some c::cs)=some h':=by
 subst e5
 simp only [XdN,e1,e2,e3,e6,if_pos e4];exact t
theorem XRZ {h h':Hp} {s:Nat→Option Nat} {b:Nat} {ws:List Wd} {c c' x:List Value} {cs:List (Option (List Value))} {ob ob':XbL} (e1:XaD h b=some ob) (e2:ob.wcs=some x) (e3:Xe3.renL s c=some c') (e6:ob.wr c'=some ob') (t:XdN (Xgx h b ob') s ws cs=some h') :
 XdN h s (.blk b true::ws) (some c::cs)=some h':=by
 simp only [XdN,e1,e2,e3,e6];exact t
theorem XU8 {h h':Hp} {s:Nat→Option Nat} {b:Nat} {ws:List Wd} {cs:List (Option (List Value))} (t:XdN (XoP h b) s ws cs=some h'):XdN h s (.blk b true::ws) (none::cs)=some h':=by
 simp only [XdN];exact t
theorem XJz {h:Hp} {s:Nat→Option Nat} {top:Nat}:Xjd h s top []=some h:=rfl
theorem XLR {h h':Hp} {s:Nat→Option Nat} {top:Nat} {c c':List Value} {cs:List (List Value)} (e:Xe3.renL s c=some c') (t:Xjd (Xgx h top (.row true c')) s (top+1) cs=some h'):Xjd h s top (c::cs)=some h':=by
 simp only [Xjd,e];exact t
theorem XuO {s:Nat→Option Nat} {k:IntKind} {xs:List Int}:Xe3.renL s (vI k xs)=some (vI k xs):=Xcn _ _ (Xj4 _ _)
theorem Xt6 {s:Nat→Option Nat} {xs:List Bool}:Xe3.renL s (vB xs)=some (vB xs):=Xcn _ _ (XnX _)
theorem XuE {s:Nat→Option Nat} {xs:List (List UInt8)}:Xe3.renL s (vS xs)=some (vS xs):=Xcn _ _ (Xol _)
theorem Xbl {s:Nat→Option Nat} {α:Type} {f:α→List Value} (hfl:∀ x,Xbk.flatL (f x)=true) {xs:List α}:Xe3.renL s (vT f xs)=some (vT f xs):=Xcn _ _ (Xog hfl _)
def XHY (n:Nat) (wr:List (Option (List Value))):List Nat→Prop
 | []=>True
 | j::js=>(n≤j∨wr[j]?=some none)∧XHY n wr js
theorem Xu3 {n:Nat} {wr:List (Option (List Value))}:∀ {js:List Nat},XHY n wr js→∀ j∈js,n≤j∨wr[j]?=some none
 | [],_,j,h=>by cases h
 | k::js,h,j,hj=>by
   rcases List.mem_cons.1 hj with rfl|hj
   ·exact h.1
   ·exact Xu3 h.2 j hj
theorem Res.of {n:Nat} {r:XcU} {v':Value} {H':Hp} (js:List Nat) (e1:Xe3 (Xwh js n) r.v=some v') (e2:XuV H' (Xwh js n) js r.new) (e3:js.Nodup) (e4:XHY n r.wr js) (e5:XBP H' (Xwh js n) 0 r.wr):Res n r v' H':=
 ⟨⟨js,e1,e2,e3,Xu3 e4,e5⟩⟩
theorem Xhb {H:Hp} {j:Nat} {c:List Value} (h:XaD H j=some (.row true c)):Has H j c:=.inl h
theorem XiL {H:Hp} {j:Nat} {c:List Value} (h:XaD H j=some (.cells c)):Has H j c:=.inr (.inl h)
abbrev Dec:=List Value→List (Option (List Value))→Option XcU
def dV {α:Type} (un:Value→Option α) (K:α→Dec):Dec:=fun vs cs=>match vs with
 | v::vs'=>match un v with
   | some x=>K x vs' cs
   | none=>none
 | []=>none
theorem XaO {α:Type} {un:Value→Option α} {K:α→Dec} {v:Value} {vs:List Value} {cs:List (Option (List Value))} {x:α} (h:un v=some x):dV un K (v::vs) cs=K x vs cs:=by simp only [dV,h]
theorem dV.elim {α:Type} {un:Value→Option α} {K:α→Dec} {vs:List Value} {cs:List (Option (List Value))} {r:XcU} (h:dV un K vs cs=some r):∃ v vs' x,vs=v::vs'∧un v=some x∧K x vs' cs=some r:=by
 unfold dV at h
 split at h<;>try (cases h;done)
 split at h<;>try (cases h;done)
 exact ⟨_,_,_,rfl,by assumption,h⟩
def dSl {α:Type} (k sz:Nat) (un:List Value→Option (List α)) (K:List α→Dec):Dec:=fun vs cs=>match vs,cs with
 | .slice (some ⟨k',0,none⟩) n sz'::vs',some c::cs'=>match un c with
   | some xs=>if k'=k∧sz'=sz∧n=xs.length then K xs vs' cs' else none
   | none=>none
 | _,_=>none
theorem Xv7 {α:Type} {k sz:Nat} {un:List Value→Option (List α)} {K:List α→Dec} {vs:List Value} {c:List Value} {cs:List (Option (List Value))} {xs:List α} (h:un c=some xs):dSl k sz un K (.slice (some ⟨k,0,none⟩) xs.length sz::vs) (some c::cs)=K xs vs cs:=by simp [dSl,h]
theorem dSl.elim {α:Type} {k sz:Nat} {un:List Value→Option (List α)} {K:List α→Dec} {vs:List Value} {cs:List (Option (List Value))} {r:XcU} (h:dSl k sz un K vs cs=some r):∃ c vs' cs' xs,vs=.slice (some ⟨k,0,none⟩) xs.length sz::vs'∧cs=some c::cs'∧un c=some xs∧K xs vs' cs'=some r:=by
 unfold dSl at h
 split at h<;>try (cases h;done)
 split at h<;>try (cases h;done)
 split at h<;>try (cases h;done)
 rename_i hc
 obtain ⟨rfl,rfl,rfl⟩:=hc
 exact ⟨_,_,_,_,rfl,rfl,by assumption,h⟩
def dTr {α:Type} (n:Nat) (un:Value→List (Option (List Value))→Option α) (K:α→Dec):Dec:=fun vs cs=>match vs with
 | v::vs'=>match un v (cs.take n) with
   | some x=>K x vs' (cs.drop n)
   | none=>none
 | []=>none
theorem XQ7 {α:Type} {n:Nat} {un:Value→List (Option (List Value))→Option α} {K:α→Dec} {v:Value} {vs:List Value} {cs cs1 cs2:List (Option (List Value))} {x:α} (h1:cs.take n=cs1) (h2:cs.drop n=cs2) (h:un v cs1=some x):dTr n un K (v::vs) cs=K x vs cs2:=by
 subst h1 h2;simp only [dTr,h]
theorem dTr.elim {α:Type} {n:Nat} {un:Value→List (Option (List Value))→Option α} {K:α→Dec} {vs:List Value} {cs:List (Option (List Value))} {r:XcU} (h:dTr n un K vs cs=some r):∃ v vs' cs1 cs2 x,vs=v::vs'∧cs=cs1++cs2∧un v cs1=some x∧K x vs' cs2=some r:=by
 unfold dTr at h
 split at h<;>try (cases h;done)
 split at h<;>try (cases h;done)
 exact ⟨_,_,_,_,_,rfl,(List.take_append_drop n cs).symm,by assumption,h⟩
def dPt {α:Type} (k:Nat) (un:List Value→Option α) (K:α→Dec):Dec:=fun vs cs=>match vs,cs with
 | .pointer (some ⟨k',0,none⟩)::vs',some c::cs'=>match un c with
   | some x=>if k'=k then K x vs' cs' else none
   | none=>none
 | _,_=>none
theorem Xh1 {α:Type} {k:Nat} {un:List Value→Option α} {K:α→Dec} {vs:List Value} {c:List Value} {cs:List (Option (List Value))} {x:α} (h:un c=some x):dPt k un K (.pointer (some ⟨k,0,none⟩)::vs) (some c::cs)=K x vs cs:=by simp [dPt,h]
theorem dPt.elim {α:Type} {k:Nat} {un:List Value→Option α} {K:α→Dec} {vs:List Value} {cs:List (Option (List Value))} {r:XcU} (h:dPt k un K vs cs=some r):∃ c vs' cs' x,vs=.pointer (some ⟨k,0,none⟩)::vs'∧cs=some c::cs'∧un c=some x∧K x vs' cs'=some r:=by
 unfold dPt at h
 split at h<;>try (cases h;done)
 split at h<;>try (cases h;done)
 split at h<;>try (cases h;done)
 rename_i hc
 subst hc
 exact ⟨_,_,_,_,rfl,rfl,by assumption,h⟩
def dNo:Nat→Dec→Dec
 | 0,K=>K
 | n+1,K=>fun vs cs=>match cs with
   | none::cs'=>dNo n K vs cs'
   | _=>none
theorem dNo.elim {K:Dec} {vs:List Value} {r:XcU}:∀ {n:Nat} {cs:List (Option (List Value))},dNo n K vs cs=some r→∃ cs',cs=List.replicate n none++cs'∧K vs cs'=some r
 | 0,cs,h=>⟨cs,rfl,h⟩
 | n+1,cs,h=>by
   simp only [dNo] at h
   split at h<;>try (cases h;done)
   obtain ⟨cs',rfl,h2⟩:=dNo.elim h
   exact ⟨cs',rfl,h2⟩
def dNl (n:Nat) (K:Dec):Dec:=fun vs cs=>match vs with
 | .pointer none::vs'=>dNo n K vs' cs
 | _=>none
theorem dNl.elim {n:Nat} {K:Dec} {vs:List Value} {cs:List (Option (List Value))} {r:XcU} (h:dNl n K vs cs=some r):∃ vs' cs',vs=.pointer none::vs'∧cs=List.replicate n none++cs'∧K vs' cs'=some r:=by
 unfold dNl at h
 split at h<;>try (cases h;done)
 obtain ⟨cs',rfl,h2⟩:=dNo.elim h
 exact ⟨_,cs',rfl,rfl,h2⟩
def Xd2 (r:Option XcU):Dec:=fun vs cs=>match vs,cs with
 | [],[]=>r
 | _,_=>none
theorem Xd2.elim {o:Option XcU} {vs:List Value} {cs:List (Option (List Value))} {r:XcU} (h:Xd2 o vs cs=some r):vs=[]∧cs=[]∧o=some r:=by
 unfold Xd2 at h
 split at h<;>try (cases h;done)
 exact ⟨rfl,rfl,h⟩
def orD (a b:Dec):Dec:=fun vs cs=>match a vs cs with
 | some r=>some r
 | none=>b vs cs
theorem orD.elim {a b:Dec} {vs:List Value} {cs:List (Option (List Value))} {r:XcU} (h:orD a b vs cs=some r):a vs cs=some r∨b vs cs=some r:=by
 unfold orD at h
 split at h
 ·cases h;left;assumption
 ·exact .inr h
def ofG {α:Type} (o:Option α) (f:α→XcU):Option XcU:=match o with
 | some x=>some (f x)
 | none=>none
theorem XaN {α:Type} {o:Option α} {f:α→XcU} {x:α} (h:o=some x):ofG o f=some (f x):=by subst h;rfl
theorem ofG.elim {α:Type} {o:Option α} {f:α→XcU} {r:XcU} (h:ofG o f=some r):∃ x,o=some x∧f x=r:=by
 cases o with
 | none=>cases h
 | some x=>exact ⟨x,rfl,by cases h;rfl⟩
def asS:Value→Option (List UInt8)|.string s=>some s.data.toList|_=>none
theorem XvZ (v:Value) (x:List UInt8) (h:asS v=some x):v=.string ⟨⟨x⟩⟩:=by cases v<;>simp [asS] at h;subst h;rfl
theorem XvN (k:IntKind) (xs:List Int):unL (asI k) (vI k xs)=some xs:=XBo (fun x=>by simp [asI]) xs
theorem XS2 {k:IntKind} {cs:List Value} {xs:List Int} (h:unL (asI k) cs=some xs):cs=vI k xs:=XvL (Xwb k) h
theorem XWm {cs:List Value} {xs:List Bool} (h:unL asB cs=some xs):cs=vB xs:=XvL XAq h
theorem XVX {cs:List Value} {xs:List (List UInt8)} (h:unL asS cs=some xs):cs=vS xs:=XvL (g:=fun s=>Value.string ⟨⟨s⟩⟩) XvZ h
end Go.Vm
namespace Go.Vm
open Go Go.RowKit
end Go.Vm
namespace Go.Vm
open Go Go.RowKit
theorem st_I {k:IntKind} {xs:List Int} {o i:Nat} {x:Int} {K:List Value→Prop} (hb:decide (i<xs.length)=true) (e:o=i) (h:K (vI k (xs.set i x))) :
 req (decide ((XaV (.int k x)).length=1∧o+1≤(vI k xs).length)&&(XaV (.int k x)).all Xil) (∃ cs',setAt (vI k xs) o (XaV (.int k x))=cs'∧K cs'):=req.intro (XO9 hb e) (XQU e h)
end Go.Vm
namespace Go.Vm
theorem br.h2 {α:Type} {b b':Bool} {X Y:Option α} {r:α} {p q:Prop} (h:cond b' X Y=some r) (e:b=b') (k2:b'=false→Y=some r→q) (k1:b'=true→X=some r→p):br b p q:=br.h h e k1 k2
end Go.Vm
namespace Go.Vm
open Go Go.RowKit
theorem VR.ofNil {ρ:Ren} {s:Nat} {rv:Value} (h:VR ρ (.slice none 0 s) rv) (j sz:Nat):VR ρ (.slice (some ⟨j,0,none⟩) 0 sz) rv:=by
 cases h;exact .slice0 none
theorem XaF.nilT {P:Program} {f base fn nt s:Nat} {e:Env} {todo:List Xgo} {ds:List Nat} {ret:Bool} {rd:Option Nat} {up:List XbN} {H:Hp} {top:Nat} {R:Value→Hp→Nat→Prop} (t sz:Nat)
 (h:XaF P f base ⟨⟨fn,nt,Xgx e t (.slice (some ⟨top,0,none⟩) 0 sz),todo,ds,ret,rd⟩,up,Xgx H top (.row true []),top+1⟩ R) (he:XaD e t=some (.slice none 0 s):=by rfl) :
 XaF P f base ⟨⟨fn,nt,e,todo,ds,ret,rd⟩,up,H,top⟩ R:=by
 refine ⟨fun w0 U ρ rf rfs w cs hr=>?_⟩
 have hx:=Ext.upd (l:=⟨0,0,0⟩) hr.heap.XoQ
 have hcur:FrR P (upd ρ top ⟨0,0,0⟩) ⟨fn,nt,Xgx e t (.slice (some ⟨top,0,none⟩) 0 sz),todo,ds,ret,rd⟩ rf:=
  { hr.cur.mono hx with
    env:=fun i v hv=>by
     rw [Xa0] at hv
     split at hv
     ·rename_i hi;subst hi;cases hv
      obtain ⟨v',a,b⟩:=hr.cur.env t _ he
      exact ⟨v',a,(VR.ofNil b _ _).mono hx⟩
     ·exact (hr.cur.env.mono hx) i v hv }
 obtain ⟨ρ',rv,fr',w',v,H',top',h1,h2,h3,h4,h5,h6,h7⟩:=h.get w0 U _ rf rfs w cs ⟨hcur,hr.up.mono (fun _ _ x=>x.mono hx),Xkw hr.heap⟩
 exact ⟨ρ',rv,fr',w',v,H',top',h1,h2,h3,h4,h5,fun i l hi hl=>h6 i l hi (hx _ _ hl),h7⟩
theorem XaF.nilC {P:Program} {f base s:Nat} {fr:XbN} {up:List XbN} {H:Hp} {top:Nat} {R:Value→Hp→Nat→Prop} (b i sz:Nat) {cs:List Value}
 (h:XaF P f base ⟨fr,up,Xgx (Xgx H b (.cells (cs.set i (.slice (some ⟨top,0,none⟩) 0 sz)))) top (.row true []),top+1⟩ R) (hb:XaD H b=some (.cells cs):=by rfl) (hi:cs[i]?=some (.slice none 0 s):=by rfl) :
 XaF P f base ⟨fr,up,H,top⟩ R:=by
 refine ⟨fun w0 U ρ rf rfs w cs' hr=>?_⟩
 have hx:=Ext.upd (l:=⟨0,0,0⟩) hr.heap.XoQ
 have hp:HpR P w0 (.of U) ρ (Xgx H b (.cells (cs.set i (.slice (some ⟨top,0,none⟩) 0 sz)))) top w:=
  { hr.heap with
    obj:=fun j o ho=>by
     rw [Xa0] at ho
     split at ho
     ·rename_i hj;subst hj;cases ho
      obtain ⟨l,hl,hc,hw⟩:=hr.heap.obj b _ hb
      refine ⟨l,hl,?_,fun _=>hw rfl⟩
      obtain ⟨g1,g2,g3⟩:=(hc:Xbs ρ w l true cs)
      refine ⟨by simpa using g1,fun k v hv=>?_,g3⟩
      rw [List.getElem?_set] at hv
      split at hv
      ·rename_i hk;subst hk
       split at hv
       ·cases hv
        obtain ⟨v',a,b'⟩:=g2 i _ hi
        exact ⟨v',a,VR.ofNil b' _ _⟩
       ·cases hv
      ·exact g2 k v hv
     ·exact hr.heap.obj j o ho
    dis:=fun j k oj ok lj lk hjk hj hk hlj hlk hw=>by
     have key:∀ j o,XaD (Xgx H b (.cells (cs.set i (.slice (some ⟨top,0,none⟩) 0 sz)))) j=some o→∃ o',XaD H j=some o'∧(writable o=true→writable o'=true):=fun j o ho=>by
      rw [Xa0] at ho
      split at ho
      ·rename_i hj;subst hj;exact ⟨_,hb,fun _=>rfl⟩
      ·exact ⟨o,ho,id⟩
     obtain ⟨oj',a1,a2⟩:=key j oj hj
     obtain ⟨ok',b1,_⟩:=key k ok hk
     exact hr.heap.dis j k oj' ok' lj lk hjk a1 b1 hlj hlk (a2 hw) }
 obtain ⟨ρ',rv,fr',w',v,H',top',h1,h2,h3,h4,h5,h6,h7⟩:=h.get w0 U _ rf rfs w cs' ⟨hr.cur.mono hx,hr.up.mono (fun _ _ x=>x.mono hx),Xkw hp⟩
 exact ⟨ρ',rv,fr',w',v,H',top',h1,h2,h3,h4,h5,fun i l hi hl=>h6 i l hi (hx _ _ hl),h7⟩
mutual
inductive Nv (j:Nat):Value→Value→Prop
 | same (v):Nv j v v
 | nil (s sz):Nv j (.slice none 0 s) (.slice (some ⟨j,0,none⟩) 0 sz)
 | tup {a b:List Value} (h:NvL j a b):Nv j (.tuple ⟨a⟩) (.tuple ⟨b⟩)
 | agg {a b:List Value} (h:NvL j a b):Nv j (.agg ⟨a⟩) (.agg ⟨b⟩)
inductive NvL (j:Nat):List Value→List Value→Prop
 | nil:NvL j [] []
 | cons {v v':Value} {l l':List Value} (h:Nv j v v') (t:NvL j l l'):NvL j (v::l) (v'::l')
end
mutual
theorem Nv.vr {j:Nat} {ρ:Ren}:∀ {v v':Value},Nv j v v'→∀ {rv:Value},VR ρ v rv→VR ρ v' rv
 | _,_,.same v,_,h=>h
 | _,_,.nil s sz,_,h=>VR.ofNil h _ _
 | _,_,.tup hl,_,h=>by cases h with|tuple ht=>exact .tuple (NvL.vr hl ht)
 | _,_,.agg hl,_,h=>by cases h with|agg ht=>exact .agg (NvL.vr hl ht)
theorem NvL.vr {j:Nat} {ρ:Ren}:∀ {l l':List Value},NvL j l l'→∀ {rl:List Value},VRL ρ l rl→VRL ρ l' rl
 | _,_,.nil,_,h=>h
 | _,_,.cons hv ht,_,h=>by cases h with|cons a b=>exact .cons (Nv.vr hv a) (NvL.vr ht b)
end
end Go.Vm
namespace Go.Vm
theorem XAB {A B C D:Prop} [Decidable (A∧B∧C∧D)] {p q:Bool} (a:A) (b:B) (c:C) (d:D) (e:p=true) (g:q=true):(decide (A∧B∧C∧D)&&p&&q)=true:=by
 rw [decide_eq_true ⟨a,b,c,d⟩,e,g];rfl
end Go.Vm
namespace Go.Vm
open Go Go.RowKit
def Xul (o:XbL) (K:XbL→Prop):Prop:=
 match o with
 | .cells cs=>XoN cs fun cs=>K (.cells cs)
 | .row own cs=>XoN cs fun cs=>K (.row own cs)
 | .ty t cs=>K (.ty t cs)
 | .siter s p=>K (.siter s p)
 | .loop l=>K (.loop l)
 | .marks=>K .marks
theorem XwI (o:XbL) (K:XbL→Prop):Xul o K=K o:=by
 cases o<;>simp only [Xul,XlV]
def Xlh (bs:List Nat) (h:Hp) (K:Hp→Prop):Prop:=
 match h with
 | []=>K []
 | (i,o)::l=>cond (XIX i bs) (Xul o fun o=>Xlh bs l fun l=>K ((i,o)::l)) (XBe o fun o=>Xlh bs l fun l=>K ((i,o)::l))
theorem Xob (bs:List Nat):∀ (h:Hp) (K:Hp→Prop),Xlh bs h K=K h
 | [],K=>rfl
 | (i,o)::l,K=>by
   rw [Xlh]
   cases XIX i bs
   ·rw [cond_false,Xtw,Xob bs l]
   ·rw [cond_true,XwI,Xob bs l]
theorem Xg8.XId {s:XbC} {vals:List Value} {h:Hp} {top:Nat} {K:Value→Hp→Nat→Prop} {v:Value} {h':Hp} {top':Nat} (bs:List Nat) (e:Xi3 s vals h top=some (v,h',top')) (k:Xim v fun v=>Xlh bs h' fun h'=>K v h' top'):Xg8 s vals h top K:=
 Xg8.intro e (by simpa only [Xie,Xob] using k)
end Go.Vm
namespace Go.Vm
open Go Go.RowKit
inductive Xxp:Value→Hp→Nat→Value→Hp→Nat→Prop
 | refl (v:Value) (H:Hp) (t:Nat):Xxp v H t v H t
 | val {v v' v2:Value} {H H2:Hp} {t t2:Nat} (h:Nv t v v') (k:Xxp v' (Xgx H t (.row true [])) (t+1) v2 H2 t2):Xxp v H t v2 H2 t2
 | cell {v v2:Value} {H H2:Hp} {t t2 s:Nat} (b i sz:Nat) {cs:List Value} (hb:XaD H b=some (.cells cs)) (hi:cs[i]?=some (.slice none 0 s)) (k:Xxp v (Xgx (Xgx H b (.cells (cs.set i (.slice (some ⟨t,0,none⟩) 0 sz)))) t (.row true [])) (t+1) v2 H2 t2):Xxp v H t v2 H2 t2
theorem XNP {P:Program} {w0:World} {U:UG} {ρ:Ren} {H:Hp} {top s:Nat} {w:World} (h:HpR P w0 U ρ H top w) {b i:Nat} (sz:Nat) {cs:List Value} (hb:XaD H b=some (.cells cs)) (hi:cs[i]?=some (.slice none 0 s)):HpR P w0 U ρ (Xgx H b (.cells (cs.set i (.slice (some ⟨top,0,none⟩) 0 sz)))) top w:=
 { h with
   obj:=fun j o ho=>by
    rw [Xa0] at ho
    split at ho
    ·rename_i hj;subst hj;cases ho
     obtain ⟨l,hl,hc,hw⟩:=h.obj b _ hb
     refine ⟨l,hl,?_,fun _=>hw rfl⟩
     obtain ⟨g1,g2,g3⟩:=(hc:Xbs ρ w l true cs)
     refine ⟨by simpa using g1,fun k v hv=>?_,g3⟩
     rw [List.getElem?_set] at hv
     split at hv
     ·rename_i hk;subst hk
      split at hv
      ·cases hv
       obtain ⟨v',a,b'⟩:=g2 i _ hi
       exact ⟨v',a,VR.ofNil b' _ _⟩
      ·cases hv
     ·exact g2 k v hv
    ·exact h.obj j o ho
   dis:=fun j k oj ok lj lk hjk hj hk hlj hlk hw=>by
    have key:∀ j o,XaD (Xgx H b (.cells (cs.set i (.slice (some ⟨top,0,none⟩) 0 sz)))) j=some o→∃ o',XaD H j=some o'∧(writable o=true→writable o'=true):=fun j o ho=>by
     rw [Xa0] at ho
     split at ho
     ·rename_i hj;subst hj;exact ⟨_,hb,fun _=>rfl⟩
     ·exact ⟨o,ho,id⟩
    obtain ⟨oj',a1,a2⟩:=key j oj hj
    obtain ⟨ok',b1,_⟩:=key k ok hk
    exact h.dis j k oj' ok' lj lk hjk a1 b1 hlj hlk (a2 hw) }
theorem Xxp.ok {P:Program} {w0:World} {U:Nat→Nat→Prop} {v v2 rv:Value} {H H2:Hp} {t t2:Nat} (k:Xxp v H t v2 H2 t2):∀ {ρ:Ren} {w:World},VR ρ v rv→HpR P w0 (.of U) ρ H t w→∃ ρ',Ext ρ ρ'∧VR ρ' v2 rv∧HpR P w0 (.of U) ρ' H2 t2 w:=by
 induction k with
 | refl=>intro ρ w h1 h2;exact ⟨ρ,Ext.refl ρ,h1,h2⟩
 | val h k ih=>
   intro ρ w h1 h2
   have hx:=Ext.upd (l:=⟨0,0,0⟩) h2.XoQ
   obtain ⟨ρ',e1,e2,e3⟩:=ih ((h.vr h1).mono hx) (Xkw h2)
   exact ⟨ρ',hx.trans e1,e2,e3⟩
 | cell b i sz hb hi k ih=>
   intro ρ w h1 h2
   have hx:=Ext.upd (l:=⟨0,0,0⟩) h2.XoQ
   obtain ⟨ρ',e1,e2,e3⟩:=ih (h1.mono hx) (Xkw (XNP h2 sz hb hi))
   exact ⟨ρ',hx.trans e1,e2,e3⟩
theorem XaF.nilW {P:Program} {f base:Nat} {vm:VM} {R:Value→Hp→Prop} (h:XaF P f base vm (fun v H t=>∃ v' H' t',Xxp v H t v' H' t'∧R v' H')):XaF P f base vm (fun v H _=>R v H):=by
 refine ⟨fun w0 U ρ rf rfs w cs hr=>?_⟩
 obtain ⟨ρ',rv,fr',w',v,H',top',h1,h2,h3,h4,h5,h6,v2,H2,t2,hk,h7⟩:=h.get w0 U ρ rf rfs w cs hr
 obtain ⟨ρ2,e1,e2,e3⟩:=hk.ok h4 h5
 exact ⟨ρ2,rv,fr',w',v2,H2,t2,h1,h2,h3,e2,e3,fun i l hi hl=>e1 _ _ (h6 i l hi hl),h7⟩
end Go.Vm
namespace Go.Vm
end Go.Vm
namespace Go.Vm
open Go Go.RowKit
@[simp] theorem XNv (l:List UInt8):(ofBytes l).length=l.length:=by simp [ofBytes]
theorem XVu {xs:List Int} {n:Nat} {K:List UInt8→Prop} (h:K (iB xs)) (hn:xs.length≤n:=by first|exact Nat.le_refl _|omega|(simp;done)|(simp;omega)):∃ bs,Xg6 ((vI .u8 xs).take n)=some bs∧K bs:=
 ⟨_,by rw [List.take_of_length_le (by simpa using hn)];exact Xos _,h⟩
theorem XJw {A B C D:Prop} [Decidable (A∧B∧C∧D)] (a:A) (b:B) (c:C) (d:D):decide (A∧B∧C∧D)=true:=decide_eq_true ⟨a,b,c,d⟩
theorem Xvi {A B C D:Prop} [Decidable (A∧B∧C∧D)] (a:A) (b:B) (c:C) (d:D):decide (A∧B∧C∧D)=true:=decide_eq_true ⟨a,b,c,d⟩
theorem XtW {A B C D E:Prop} [Decidable (A∧B∧C∧D∧E)] {p q:Bool} (a:A) (b:B) (c:C) (d:D) (e:E) (f:p=true) (g:q=true):(decide (A∧B∧C∧D∧E)&&p&&q)=true:=by
 rw [decide_eq_true ⟨a,b,c,d,e⟩,f,g];rfl
theorem XyR {new:List Value} {xs:List Int} {n m:Nat} {ys:List Int} {K:List Value→Nat→Prop} (e:new=vI .u8 ys) (hc:n=xs.length) (hn:n+m=(xs++ys).length) (h:K (vI .u8 (xs++ys)) (xs++ys).length) :
 ∃ cs' n',(vI .u8 xs).take n++new=cs'∧n+m=n'∧K cs' n':=
 ⟨_,_,by rw [List.take_of_length_le (by simp [hc]),e,XIn],hn,h⟩
def un1 {α:Type} (un:Value→Option α):List Value→Option α
 | [v]=>un v
 | _=>none
theorem XAp {α:Type} {un:Value→Option α} {g:α→Value} (h:∀ v x,un v=some x→v=g x) {cs:List Value} {x:α} (e:un1 un cs=some x):cs=[g x]:=by
 unfold un1 at e
 split at e
 ·rw [h _ _ e]
 ·cases e
theorem Xen (k:IntKind) {n:Int}:asI k (.int k n)=some n:=by simp [asI]
theorem Xd3 {s:List UInt8}:asS (.string ⟨⟨s⟩⟩)=some s:=rfl
def fvV:Option Nat→Value
 | none=>.nilFunc
 | some n=>.func (.func n) ⟨[]⟩ ⟨[]⟩
def asF:Value→Option (Option Nat)
 | .nilFunc=>some none
 | .func (.func n) ⟨[]⟩ ⟨[]⟩=>some (some n)
 | _=>none
theorem Xp9 (v:Value) (x:Option Nat) (h:asF v=some x):v=fvV x:=by
 unfold asF at h;split at h
 ·cases h;rfl
 ·cases h;rfl
 ·cases h
theorem asF_c {x:Option Nat}:asF (fvV x)=some x:=by cases x<;>rfl
theorem XdW (x:Option Nat):Xbk (fvV x)=true:=by cases x<;>rfl
theorem Xy7 (x:Option Nat):Xil (fvV x)=true:=by cases x<;>rfl
theorem XHQ {h:Hp} {k b o n:Nat} {ob:XbL} {cs cs':List Value} (ho:XaD h b=some ob) (hc:ob.wcs=some cs) (hle:o+n≤cs.length) (e:(cs.drop o).take n=cs') (hf:Xbk.flatL cs'=true) :
 Xc0 h k (.pt n) (.pointer (some ⟨b,o,none⟩))=some (.pointer (some ⟨k,0,none⟩),[some (.cells cs')]):=by
 subst e
 simp only [Xc0,ho,hc,hle,hf,↓reduceIte]
theorem fsp {α:Type} {x:Option Nat} {A:Option α} {B:Nat→Option α} {res:α} {G:Prop} (h:x.elim A B=some res) (t:x=none→A=some res→G) (f:∀ n,x=some n→B n=some res→G):G:=by
 cases x with
 | none=>exact t rfl h
 | some n=>exact f n rfl h
theorem fcase {α:Type} {x c:Nat} {A B:Option α} {res:α} {G:Prop} (h:cond (x==c) A B=some res) (t:x=c→A=some res→G) (f:B=some res→G):G:=by
 cases hx:(x==c)
 ·rw [hx] at h;exact f h
 ·rw [hx] at h;exact t (eq_of_beq hx) h
theorem XCS {K:Dec} {vs:List Value} {cs:List (Option (List Value))}:dNl 1 K (.pointer none::vs) (none::cs)=K vs cs:=rfl
def XsL (i:Nat) (a b:Dec):Dec:=fun vs cs=>match vs[i]? with
 | some (.pointer none)=>b vs cs
 | _=>a vs cs
theorem XsL.elim {i:Nat} {a b:Dec} {vs:List Value} {cs:List (Option (List Value))} {r:XcU} (h:XsL i a b vs cs=some r):a vs cs=some r∨b vs cs=some r:=by
 unfold XsL at h
 split at h
 ·exact .inr h
 ·exact .inl h
theorem Xtg {H:Hp} {s:Nat→Option Nat}:XuV H s [] []:=trivial
theorem XtO {H:Hp} {s:Nat→Option Nat} {j:Nat} {js:List Nat} {c c':List Value} {cs:List (List Value)} (e:Xe3.renL s c=some c') (h:Has H j c') (t:XuV H s js cs):XuV H s (j::js) (c::cs):=⟨⟨_,e,h⟩,t⟩
theorem Xs0 {n:Nat} {wr:List (Option (List Value))}:XHY n wr []:=trivial
theorem XtN {n j:Nat} {wr:List (Option (List Value))} {js:List Nat} (h:n≤j) (t:XHY n wr js):XHY n wr (j::js):=⟨.inl h,t⟩
theorem XUv {n j:Nat} {wr:List (Option (List Value))} {js:List Nat} (h:wr[j]?=some none) (t:XHY n wr js):XHY n wr (j::js):=⟨.inr h,t⟩
theorem XsS {H:Hp} {s:Nat→Option Nat} {k:Nat}:XBP H s k []:=trivial
theorem XS8 {H:Hp} {s:Nat→Option Nat} {k:Nat} {l:List (Option (List Value))} (t:XBP H s (k+1) l):XBP H s k (none::l):=t
theorem XS7 {H:Hp} {s:Nat→Option Nat} {k:Nat} {c c':List Value} {l:List (Option (List Value))} (e:Xe3.renL s c=some c') (h:Has H k c') (t:XBP H s (k+1) l):XBP H s k (some c::l):=⟨⟨_,e,h⟩,t⟩
theorem Res.flat {n:Nat} {r:XcU} {v':Value} {H':Hp} {b:Bool} (e:r.v=.bool b) (_:r.new=[]) (h:Res n r v' H'):v'=.bool b:=by
 obtain ⟨js,h1,h2,-⟩:=h.ex
 rw [e] at h1
 cases h1;rfl
theorem Xg8.q {s:XbC} {vals:List Value} {h:Hp} {top:Nat} {K:Value→Hp→Nat→Prop} {r:XcU} {v':Value} (e1:Xdr h 0 s.modes vals=some (vals,[])) (ew:XkR h s.modes vals=[]) (e2:s.run vals []=some r) (hn:r.new=[]) (hw:r.wr=[]) (e6:Xe3 (Xuo top 0 []) r.v=some v')
 (k:Xim v' fun v=>Xlh [] h fun h'=>K v h' top):Xg8 s vals h top K:=by
 refine Xg8.XId [] (XsY (n:=0) (m:=0) (t':=top) e1 ew rfl e2 rfl (by rw [hn];rfl) rfl rfl (by rw [hw];exact XI2) (by rw [hn];exact XJz) e6) k
theorem dFin {α:Type} {o:Option α} {f:α→XcU} {vs:List Value} {cs:List (Option (List Value))} {r:XcU} (h:Xd2 (ofG o f) vs cs=some r):vs=[]∧cs=[]∧∃ x,o=some x∧f x=r:=by
 obtain ⟨a,b,c⟩:=Xd2.elim h
 exact ⟨a,b,ofG.elim c⟩
theorem Res.z {n:Nat} {r:XcU} {v':Value} {H':Hp} (e1:Xe3 (Xwh [] n) r.v=some v') (e2:r.new=[]) (e3:r.wr=[]):Res n r v' H':=
 Res.of [] e1 (by rw [e2];exact Xtg) (by decide) Xs0 (by rw [e3];exact XsS)
theorem Xg8.p {s:XbC} {vals:List Value} {h:Hp} {top:Nat} {K:Value→Hp→Nat→Prop} {r:XcU} {v':Value} (e2:s.run vals []=some r)
 (k:Xim v' fun v=>Xlh [] h fun h'=>K v h' top) (e1:Xdr h 0 s.modes vals=some (vals,[]):=by exact rfl) (ew:XkR h s.modes vals=[]:=by exact rfl) (hn:r.new=[]:=by exact rfl) (hw:r.wr=[]:=by exact rfl) (e6:Xe3 (Xuo top 0 []) r.v=some v':=by exact rfl):Xg8 s vals h top K:=Xg8.q e1 ew e2 hn hw e6 k
theorem Res.y {n:Nat} {r:XcU} {v':Value} {H':Hp} (e1:Xe3 (Xwh [] n) r.v=some v':=by exact rfl) (e2:r.new=[]:=by exact rfl) (e3:r.wr=[]:=by exact rfl):Res n r v' H':=Res.z e1 e2 e3
end Go.Vm
namespace Go.Vm
open Go Go.RowKit
section
variable {α:Type} {f:α→List Value} {c:Nat}
end
end Go.Vm
namespace Go.Vm
end Go.Vm
namespace Go.Vm
open Go
theorem XdY {n:Int} (h1:-9223372036854775808≤n) (h2:n<9223372036854775808):wI .i64 n=n:=by
 show IntKind.wrap .i64 n=n;rw [IntKind.wrap_i64];omega
theorem Xf7 {n:Int} (h1:0≤n) (h2:n<18446744073709551616):wI .u64 n=n:=by
 show IntKind.wrap .u64 n=n
 simp only [IntKind.wrap,IntKind.bits,IntKind.signed];simp;omega
theorem XFS {n:Int} (h1:0≤n) (h2:n<4294967296):wI .u32 n=n:=by
 show IntKind.wrap .u32 n=n
 simp only [IntKind.wrap,IntKind.bits,IntKind.signed];simp;omega
theorem wU8 {n:Int} (h1:0≤n) (h2:n<256):wI .u8 n=n:=by
 show IntKind.wrap .u8 n=n
 simp only [IntKind.wrap,IntKind.bits,IntKind.signed];simp;omega
theorem wU64m (n:Int):wI .u64 n=n%18446744073709551616:=by
 show IntKind.wrap .u64 n=_
 simp only [IntKind.wrap,IntKind.bits,IntKind.signed];simp
theorem wU32m (n:Int):wI .u32 n=n%4294967296:=by
 show IntKind.wrap .u32 n=_
 simp only [IntKind.wrap,IntKind.bits,IntKind.signed];simp
theorem wU8m (n:Int):wI .u8 n=n%256:=by
 show IntKind.wrap .u8 n=_
 simp only [IntKind.wrap,IntKind.bits,IntKind.signed];simp
theorem XPo {n:Nat} (h:n<18446744073709551616):(BitVec.ofInt 64 (n:Int)).toNat=n:=by
 rw [BitVec.toNat_ofInt];omega
theorem XQ8 {a b:Nat} (ha:a<9223372036854775808) (hb:b<9223372036854775808):XnS .i64 (a:Int) (b:Int)=((a &&& b:Nat):Int):=by
 have h:a &&& b≤a:=Nat.and_le_left
 show IntKind.wrap .i64 _=_
 rw [show IntKind.bits .i64=64 from rfl,BitVec.toNat_and,XPo (by omega),XPo (by omega)]
 exact XdY (by omega) (by omega)
theorem XRK {a b:Nat} (ha:a<9223372036854775808) (hb:b<9223372036854775808):XlO .i64 (a:Int) (b:Int)=((a ||| b:Nat):Int):=by
 have h:a ||| b<2^63:=Nat.or_lt_two_pow (by omega) (by omega)
 show IntKind.wrap .i64 _=_
 rw [show IntKind.bits .i64=64 from rfl,BitVec.toNat_or,XPo (by omega),XPo (by omega)]
 exact XdY (by omega) (by omega)
theorem XQ3 {a b:Nat} (ha:a<18446744073709551616) (hb:b<18446744073709551616):XlO .u64 (a:Int) (b:Int)=((a ||| b:Nat):Int):=by
 have h:a ||| b<2^64:=Nat.or_lt_two_pow (by omega) (by omega)
 show IntKind.wrap .u64 _=_
 rw [show IntKind.bits .u64=64 from rfl,BitVec.toNat_or,XPo (by omega),XPo (by omega)]
 exact Xf7 (by omega) (by omega)
theorem XF7 (a k:Nat):a &&& (2^k - 1)=a%2^k:=Nat.and_two_pow_sub_one_eq_mod a k
theorem XIK {a b k:Nat} (hb:b<2^k):(a*2^k) ||| b=a*2^k+b:=by
 rw [Nat.mul_comm];exact (Nat.two_pow_add_eq_or_of_lt hb a).symm
theorem Xju (k:Nat) {a m:Int} (hm:m=2^k - 1) (hk:k≤62) (h0:0≤a) (h1:a<9223372036854775808):XnS .i64 a m=a%2^k:=by
 obtain ⟨n,rfl⟩:=Int.eq_ofNat_of_zero_le h0
 have hp:2^k≤2^62:=Nat.pow_le_pow_right (by decide) hk
 have hp1:1≤2^k:=Nat.one_le_two_pow
 have:m=((2^k - 1:Nat):Int):=by rw [hm];push_cast [hp1];rfl
 rw [this,XQ8 (by omega) (by omega),XF7];push_cast;rfl
theorem XqI (k:Nat) {a b:Int} (h0:0≤a) (h1:a*2^k<9223372036854775808) (hb0:0≤b) (hb:b<2^k) (hb1:b<9223372036854775808):XlO .i64 (a*2^k) b=a*2^k+b:=by
 obtain ⟨n,rfl⟩:=Int.eq_ofNat_of_zero_le h0
 obtain ⟨m,rfl⟩:=Int.eq_ofNat_of_zero_le hb0
 have e:((n:Int)*2^k)=((n*2^k:Nat):Int):=by push_cast;rfl
 rw [e] at h1 ⊢
 rw [XRK (by omega) (by omega),XIK (by exact_mod_cast hb)];push_cast;rfl
theorem XgT (k:Nat) {a b:Int} (h0:0≤a) (h1:a*2^k<18446744073709551616) (hb0:0≤b) (hb:b<2^k) (hb1:b<18446744073709551616):XlO .u64 (a*2^k) b=a*2^k+b:=by
 obtain ⟨n,rfl⟩:=Int.eq_ofNat_of_zero_le h0
 obtain ⟨m,rfl⟩:=Int.eq_ofNat_of_zero_le hb0
 have e:((n:Int)*2^k)=((n*2^k:Nat):Int):=by push_cast;rfl
 rw [e] at h1 ⊢
 rw [XQ3 (by omega) (by omega),XIK (by exact_mod_cast hb)];push_cast;rfl
theorem Xtq (a:Int) (k:Nat):a.fdiv (2^k)=a/2^k:=Int.fdiv_eq_ediv_of_nonneg a (Int.le_of_lt (Int.pow_pos (by decide)))
theorem Xat {α:Type} {p:Prop} [Decidable p] {x:Option α} (h:p):Xbn (decide p) x=x:=Xbn.mk (decide_eq_true h)
theorem XaP {α:Type} {p:Prop} [Decidable p] {x y:α} (h:p):cond (decide p) x y=x:=by rw [decide_eq_true h,cond_true]
theorem XaI {α:Type} {p:Prop} [Decidable p] {x y:α} (h:¬ p):cond (decide p) x y=y:=by rw [decide_eq_false h,cond_false]
theorem XrQ {α:Type} {p:Prop} [Decidable p] {x y:α}:cond (decide p) x y=if p then x else y:=by
 by_cases h:p<;>simp [h]
theorem iter_eq {σ ρ:Type} {step:σ→Option (Sum σ ρ)} (F:σ→ρ) (P:σ→Prop) (μ:σ→Nat)
 (h:∀ s,P s→step s=some (.inr (F s))∨∃ s',step s=some (.inl s')∧P s'∧μ s'<μ s∧F s'=F s):∀ n s,P s→μ s<n→iter step n s=some (F s)
 | 0,s,hp,hn=>by omega
 | n+1,s,hp,hn=>by
   rw [iter]
   rcases h s hp with e|⟨s',e,hp',hm,hf⟩
   ·rw [e]
   ·rw [e];exact hf▸iter_eq F P μ h n s' hp' (by omega)
theorem XgO:FUEL=18446744073709551616:=rfl
end Go.Vm
namespace Go.Vm.Code
open Go Go.Vm Go.Proofs
def τ0:Operand:=.tmp 0
def τ1:Operand:=.tmp 1
def τ2:Operand:=.tmp 2
def τ3:Operand:=.tmp 3
def τ4:Operand:=.tmp 4
def τ5:Operand:=.tmp 5
def τ6:Operand:=.tmp 6
def τ7:Operand:=.tmp 7
def τ8:Operand:=.tmp 8
def τ9:Operand:=.tmp 9
def XcV:Operand:=.tmp 10
def XcT:Operand:=.tmp 11
def Xdu:Operand:=.tmp 12
def Xd0:Operand:=.tmp 13
def Xey:Operand:=.tmp 14
def Xep:Operand:=.tmp 15
def XeG:Operand:=.tmp 16
def Xer:Operand:=.tmp 17
def XeT:Operand:=.tmp 18
def XeP:Operand:=.tmp 19
def Xe8:Operand:=.tmp 20
def Xfw:Operand:=.tmp 21
def Xfs:Operand:=.tmp 22
def Xfu:Operand:=.tmp 23
def XfS:Operand:=.tmp 24
def Xgf:Operand:=.tmp 25
def Xgm:Operand:=.tmp 26
def Xgr:Operand:=.tmp 27
def Xgk:Operand:=.tmp 28
def Xgj:Operand:=.tmp 29
def XgA:Operand:=.tmp 30
def XgP:Operand:=.tmp 31
def Xg4:Operand:=.tmp 32
def Xg9:Operand:=.tmp 33
def Xhe:Operand:=.tmp 34
def Xhq:Operand:=.tmp 35
def XhU:Operand:=.tmp 36
def XhQ:Operand:=.tmp 37
def Xii:Operand:=.tmp 38
def XiV:Operand:=.tmp 39
def Xi5:Operand:=.tmp 40
def Xjk:Operand:=.tmp 41
def XiS:Operand:=.tmp 42
def Xi6:Operand:=.tmp 43
def XjM:Operand:=.tmp 44
def XjL:Operand:=.tmp 45
def Xkc:Operand:=.tmp 46
def Xka:Operand:=.tmp 47
def Xkd:Operand:=.tmp 48
def Xke:Operand:=.tmp 49
def XkP:Operand:=.tmp 50
def Xla:Operand:=.tmp 51
def Xlc:Operand:=.tmp 52
def Xmp:Operand:=.tmp 53
def Xm5:Operand:=.tmp 54
def XmG:Operand:=.tmp 55
def Xm3:Operand:=.tmp 56
def XmT:Operand:=.tmp 57
def XmS:Operand:=.tmp 58
def Xny:Operand:=.tmp 59
def Xoo:Operand:=.tmp 60
def Xn6:Operand:=.tmp 61
def XoS:Operand:=.tmp 62
def Xqr:Operand:=.tmp 63
def Xqq:Operand:=.tmp 64
def XqZ:Operand:=.tmp 65
def XqT:Operand:=.tmp 66
def Xqx:Operand:=.tmp 67
def Xqs:Operand:=.tmp 68
def XrI:Operand:=.tmp 69
def Xsr:Operand:=.tmp 70
def Xsw:Operand:=.tmp 71
def Xsv:Operand:=.tmp 72
def XtM:Operand:=.tmp 73
def Xva:Operand:=.tmp 74
def Xvj:Operand:=.tmp 75
def Xxh:Operand:=.tmp 76
def Xxo:Operand:=.tmp 77
def Xxr:Operand:=.tmp 78
def Xyc:Operand:=.tmp 79
def XyU:Operand:=.tmp 80
def XBK:Operand:=.tmp 81
def XCI:Operand:=.tmp 82
def XBM:Operand:=.tmp 83
def XID:Operand:=.tmp 84
def XI7:Operand:=.tmp 85
def XMc:Operand:=.tmp 86
def XPP:Operand:=.tmp 87
def XL4:Operand:=.tmp 88
def XO5:Operand:=.tmp 89
def XOg:Operand:=.tmp 90
def XNN:Operand:=.tmp 91
def XNE:Operand:=.tmp 92
def XKO:Operand:=.tmp 93
def XND:Operand:=.tmp 94
def XOW:Operand:=.tmp 95
def XP7:Operand:=.tmp 96
def XI4:Operand:=.tmp 97
def XQj:Operand:=.tmp 98
def XQi:Operand:=.tmp 99
def XwY:Operand:=.tmp 100
def Xwl:Operand:=.tmp 101
def XA7:Operand:=.tmp 102
def Xxb:Operand:=.tmp 103
def Xz3:Operand:=.tmp 104
def XA6:Operand:=.tmp 105
def XxQ:Operand:=.tmp 106
def Xx5:Operand:=.tmp 107
def XxG:Operand:=.tmp 108
def XyX:Operand:=.tmp 109
def XEP:Operand:=.tmp 110
def Xuu:Operand:=.tmp 111
def Xy6:Operand:=.tmp 112
def Xx7:Operand:=.tmp 113
def Xw7:Operand:=.tmp 114
def XBy:Operand:=.tmp 115
def XBA:Operand:=.tmp 116
def XxM:Operand:=.tmp 117
def XxX:Operand:=.tmp 118
def XA1:Operand:=.tmp 119
def XzN:Operand:=.tmp 120
def XzF:Operand:=.tmp 121
def XyG:Operand:=.tmp 122
def XFg:Operand:=.tmp 123
def XBl:Operand:=.tmp 124
def XFb:Operand:=.tmp 125
def XEZ:Operand:=.tmp 126
def XES:Operand:=.tmp 127
def XCX:Operand:=.tmp 128
def XGk:Operand:=.tmp 129
def XEf:Operand:=.tmp 130
def XFz:Operand:=.tmp 131
def XGG:Operand:=.tmp 132
def XEJ:Operand:=.tmp 133
def XCe:Operand:=.tmp 134
def XGD:Operand:=.tmp 135
def XGu:Operand:=.tmp 136
def XAc:Operand:=.tmp 137
def XLH:Operand:=.tmp 138
def XOr:Operand:=.tmp 139
def XMd:Operand:=.tmp 140
def XJD:Operand:=.tmp 141
def XCL:Operand:=.tmp 142
def XLX:Operand:=.tmp 143
def XPj:Operand:=.tmp 144
def XOJ:Operand:=.tmp 145
def XPK:Operand:=.tmp 146
def XLM:Operand:=.tmp 147
def XJW:Operand:=.tmp 148
def XNn:Operand:=.tmp 149
def XQa:Operand:=.tmp 150
def XLW:Operand:=.tmp 151
def XOe:Operand:=.tmp 152
def XMD:Operand:=.tmp 153
def XMz:Operand:=.tmp 154
def XOt:Operand:=.tmp 155
def XLV:Operand:=.tmp 156
def XUN:Operand:=.tmp 157
def XWr:Operand:=.tmp 158
def XVb:Operand:=.tmp 159
def XS9:Operand:=.tmp 160
def τ161:Operand:=.tmp 161
def τ162:Operand:=.tmp 162
def τ163:Operand:=.tmp 163
def τ164:Operand:=.tmp 164
def τ165:Operand:=.tmp 165
def τ166:Operand:=.tmp 166
def τ167:Operand:=.tmp 167
def τ168:Operand:=.tmp 168
def τ169:Operand:=.tmp 169
def τ170:Operand:=.tmp 170
def τ171:Operand:=.tmp 171
def τ172:Operand:=.tmp 172
def τ173:Operand:=.tmp 173
def τ174:Operand:=.tmp 174
def τ175:Operand:=.tmp 175
def τ176:Operand:=.tmp 176
def τ177:Operand:=.tmp 177
def τ178:Operand:=.tmp 178
def τ179:Operand:=.tmp 179
def τ180:Operand:=.tmp 180
def τ181:Operand:=.tmp 181
def τ182:Operand:=.tmp 182
def τ183:Operand:=.tmp 183
def τ184:Operand:=.tmp 184
def τ185:Operand:=.tmp 185
def τ186:Operand:=.tmp 186
def τ187:Operand:=.tmp 187
def oD (n:Nat) (o:VOp):Xdj:=⟨some n,o,none⟩
def oN (o:VOp):Xdj:=⟨none,o,none⟩
def oM (n:Nat) (x:Operand):Xdj:=⟨some n,.mv x,none⟩
def oG (n:Nat) (o:VOp) (j:Nat) (b:Bool):Xdj:=⟨some n,o,some (j,b)⟩
def oE (n i:Nat) (x:Operand):Xdj:=⟨some n,.extract i x,none⟩
def k6_25:VC:=.regD [oM 83 τ5,oM 84 τ1,oM 85 τ8,oD 86 (.idxAL 4 XID XI7),oD 87 (.fieldA 1 XMc),oD 88 (.load1 (.int .i64) XPP),oM 89 τ1,oM 90 τ8,oD 91 (.idxAL 4 XO5 XOg),oD 92 (.fieldA 2 XNN),oD 93 (.load1 .str XNE),oD 94 (.callF 37 [XBM,XL4,XKO]),oM 82 XND,oE 95 0 XCI,oE 96 1 XCI,oM 9 XOW] [] [oM 10 XP7]
def k6_26:VC:=.regD [oM 98 τ7,oM 99 τ1,oM 100 τ8,oD 101 (.idxAL 4 XQi XwY),oD 102 (.fieldA 1 Xwl),oD 103 (.load1 (.int .i64) XA7),oM 104 τ1,oM 105 τ8,oD 106 (.idxAL 4 Xz3 XA6),oD 107 (.fieldA 2 XxQ),oD 108 (.load1 .str Xx5),oD 109 (.callF 38 [XQj,Xxb,XxG]),oM 97 XyX,oE 110 0 XI4,oE 111 1 XI4,oM 11 XEP] [] [oM 12 Xuu]
def k6_35:VC:=.regD [oM 122 τ5,oM 123 τ1,oM 124 τ8,oD 125 (.idxAL 4 XFg XBl),oD 126 (.fieldA 2 XFb),oD 127 (.load1 .str XEZ),oD 128 (.callF 39 [XyG,XES]),oM 129 τ7,oM 130 τ1,oM 131 τ8,oD 132 (.idxAL 4 XEf XFz),oD 133 (.fieldA 2 XGG),oD 134 (.load1 .str XEJ)] [(6,12)] [oD 135 (.callF 40 [XGk,XCe]),oD 136 (.bin .neq XCX XGD)]
def k6_41:VC:=.regD [oM 60 τ7,oM 61 τ7,oD 62 (.nilCheck Xn6),oD 63 (.fieldA 9 XoS),oD 64 (.load1 (.int .u32) Xqr),oM 65 τ1,oM 66 τ8,oD 67 (.idxAL 4 XqZ XqT),oD 68 (.fieldA 3 Xqx),oD 69 (.load1 (.int .u32) Xqs),oD 70 (.bin .add Xqq XrI)] [] [oD 71 (.nilCheck Xoo),oD 72 (.fieldA 9 Xsw),oN (.store 1 Xsv Xsr)]
def k6_73:VC:=.seq (.reg [oD 2 (.box τ0),oD 4 (.mv (.const (.bool false)))]) (.seq (.seq (.reg [oM 15 τ1,oD 16 (.callF 31 [Xep]),oD 17 (.not XeG)]) (.cond Xer (.seq (.reg [oD 18 (.callF 32 []),oM 4 XeT]) .ret) .skip)) (.seq (.reg [oD 20 (.loadN [(.int .i64),.bool,(.int .u64),(.int .u64),.bool,(.int .u64),(.int .u64),(.int .i64),(.int .i64)] τ2),oD 21 (.callF 33 [Xe8]),oM 19 Xfw,oE 22 0 XeP,oE 23 1 XeP,oM 5 Xfs,oM 6 Xfu]) (.seq (.reg [oD 24 (.loadN [(.int .i64),.bool,(.int .u64),(.int .u64),.bool,(.int .u64),(.int .u64),(.int .i64),(.int .i64)] τ2),oD 25 (.callF 34 [XfS]),oM 7 Xgf]) (.seq (.seq (.reg [oM 26 τ5,oD 27 (.isNil 0 false Xgm),oM 28 τ7,oD 29 (.isNil 0 false Xgk),oD 30 (.eqB true Xgr Xgj),oM 31 XgA,oG 32 (.mv τ6) 31 false,oG 33 (.bin .eql Xg4 (.const (.int .i64 0))) 31 false,oG 34 (.mv τ7) 31 false,oG 35 (.isNil 0 true Xhe) 31 false,oG 36 (.eqB true Xg9 Xhq) 31 false,oD 37 (.pick XgP (.const (.bool true)) XhU)]) (.cond XhQ (.seq (.reg [oD 4 (.mv (.const (.bool false)))]) .ret) .skip)) (.seq (.seq (.reg [oD 8 (.mv (.const (.int .i64 0)))]) (.block 0 (.loop (.seq (.seq (.reg [oM 38 τ8,oM 39 τ1,oD 40 (.lenL XiV),oD 41 (.bin .lss Xii Xi5),oM 42 Xjk,oG 43 (.mv τ7) 42 true,oG 44 (.isNil 0 true Xi6) 42 true,oD 45 (.pick XiS XjM (.const (.bool false)))]) (.cond XjL .skip (.exit 0))) (.seq (.block 1 (.seq (.seq (.reg [oM 48 τ1,oM 49 τ8,oD 50 (.idxAL 4 Xkd Xke),oD 51 (.fieldA 0 XkP),oD 52 (.load1 (.int .i64) Xla)]) (.block 2 (.seq (.reg [oD 74 (.bin .eql Xlc (.const (.int .i64 0))),oM 73 Xva]) (.cond XtM (.seq (.reg [oM 75 τ5,oD 76 (.callF 35 [Xvj]),oM 77 τ7,oD 78 (.callF 36 [Xxo]),oD 79 (.bin .neq Xxh Xxr)]) (.cond Xyc (.seq (.reg [oD 4 (.mv (.const (.bool false)))]) .ret) .skip)) (.seq (.reg [oD 81 (.bin .eql Xlc (.const (.int .i64 1))),oM 80 XBK]) (.cond XyU (.seq k6_25 (.seq k6_26 (.seq (.reg [oM 112 τ9,oM 113 XcT,oD 114 (.bin .neq Xy6 Xx7),oM 115 Xw7,oG 116 (.mv XcV) 115 false,oG 117 (.mv Xdu) 115 false,oG 118 (.bin .neq XBA XxM) 115 false,oD 119 (.pick XBy (.const (.bool true)) XxX)]) (.cond XA1 (.seq (.reg [oD 4 (.mv (.const (.bool false)))]) .ret) .skip)))) (.seq (.reg [oD 121 (.bin .eql Xlc (.const (.int .i64 2))),oM 120 XzF]) (.cond XzN (.seq k6_35 (.cond XGu (.seq (.reg [oD 4 (.mv (.const (.bool false)))]) .ret) .skip)) (.seq (.reg [oM 53 τ5,oM 54 τ1,oM 55 τ8,oD 56 (.idxAL 4 Xm5 XmG),oD 57 (.fieldA 3 Xm3),oD 58 (.load1 (.int .u32) XmT),oD 59 (.callF 41 [Xmp,XmS])]) k6_41))))))))) (.seq (.reg [oM 138 τ5,oD 139 (.callF 42 [XLH]),oM 137 XOr,oE 140 0 XAc,oE 141 1 XAc,oM 13 XMd,oM 14 XJD]) (.seq (.reg [oM 142 Xd0,oM 143 τ7,oD 144 (.nilCheck XLX),oD 145 (.fieldA 10 XPj),oD 146 (.load1 (.int .u32) XOJ),oD 147 (.bin .neq XCL XPK),oM 148 XLM,oG 149 (.mv Xey) 148 false,oG 150 (.mv τ7) 148 false,oG 151 (.nilCheck XQa) 148 false,oG 152 (.fieldA 11 XLW) 148 false,oG 153 (.load1 .str XOe) 148 false,oG 154 (.bin .neq XNn XMD) 148 false,oD 155 (.pick XJW (.const (.bool true)) XMz)]) (.cond XOt (.seq (.reg [oD 4 (.mv (.const (.bool false)))]) .ret) .skip))))) (.reg [oM 46 τ8,oD 47 (.bin .add Xkc (.const (.int .i64 1))),oM 8 Xka])))))) (.seq (.reg [oD 156 (.callF 32 []),oM 4 XLV]) .ret))))))
def fn6:VFn:=⟨157,k6_73,[.tmp 4]⟩
def XSP:VC:=.seq (.reg [oD 2 (.mv (.const (.bool false)))]) (.seq (.seq (.reg [oD 3 (.mv (.const (.int .i64 0)))]) (.block 0 (.loop (.seq (.seq (.reg [oM 4 τ3,oM 5 τ0,oD 6 (.lenL τ5),oD 7 (.bin .lss τ4 τ6),oM 8 τ7,oG 9 (.mv τ3) 8 true,oG 10 (.bin .lss τ9 (.const (.int .i64 30))) 8 true,oD 11 (.pick τ8 XcV (.const (.bool false)))]) (.cond XcT .skip (.exit 0))) (.seq (.block 1 (.seq (.reg [oM 14 τ0,oM 15 τ3,oD 16 (.idxAL 4 Xey Xep),oD 17 (.fieldA 2 XeG),oD 18 (.load1 .str Xer),oD 19 (.lenS XeT),oD 20 (.bin .gtr XeP (.const (.int .i64 300)))]) (.cond Xe8 (.seq (.reg [oD 2 (.mv (.const (.bool false)))]) .ret) .skip))) (.reg [oM 12 τ3,oD 13 (.bin .add Xdu (.const (.int .i64 1))),oM 3 Xd0])))))) (.seq (.reg [oM 21 τ0,oD 22 (.lenL Xfw),oD 23 (.bin .leq Xfs (.const (.int .i64 30))),oM 2 Xfu]) .ret))
def fn31:VFn:=⟨24,XSP,[.tmp 2]⟩
def XI9:VC:=.seq (.reg [oD 0 (.mv (.const (.bool false)))]) (.seq (.reg [oD 14 (.build [(.int .i64 0),(.bool false),(.int .u64 0),(.int .u64 0),(.bool false),(.int .u64 0),(.int .u64 0),(.int .i64 0),(.int .i64 0)] [(0,1,(.const (.int .i64 6)))]),oD 15 (.callF 33 [Xey]),oM 13 Xep,oE 16 0 Xd0,oE 17 1 Xd0,oM 1 XeG,oM 2 Xer]) (.seq (.reg [oM 19 τ1,oD 20 (.callF 35 [XeP]),oD 21 (.callF 28 [Xe8]),oM 18 Xfw,oE 22 0 XeT,oE 23 1 XeT,oD 3 (.alloc [(.int .i64 0),(.bool false),(.int .u64 0),(.int .u64 0),(.bool false),(.int .u64 0),(.int .u64 0),(.int .i64 0),(.int .i64 0),(.int .i64 0),(.bool false),(.int .u32 0),(.int .u32 0),(.bool false),(.string ⟨⟨[]⟩⟩),(.int .i64 0)]),oN (.store 16 τ3 Xfs),oM 4 Xfu]) (.seq (.reg [oD 25 (.build [(.int .i64 0),(.bool false),(.int .u64 0),(.int .u64 0),(.bool false),(.int .u64 0),(.int .u64 0),(.int .i64 0),(.int .i64 0)] [(0,1,(.const (.int .i64 7)))]),oD 26 (.callF 33 [Xgf]),oM 24 Xgm,oE 27 0 XfS,oE 28 1 XfS,oM 5 Xgr,oM 6 Xgk]) (.seq (.reg [oD 7 (.mv (.const (.pointer none)))]) (.seq (.reg [oD 29 (.build [(.int .i64 0),(.bool false),(.int .u64 0),(.int .u64 0),(.bool false),(.int .u64 0),(.int .u64 0),(.int .i64 0),(.int .i64 0),.nilFunc,.nilFunc,.nilFunc,(.int .u32 0),(.int .u32 0),(.string ⟨⟨[]⟩⟩)] []),oD 30 (.box Xgj),oM 8 XgA]) (.seq (.reg [oM 31 τ7,oD 32 (.callF 41 [XgP,(.const (.int .u32 1))])]) (.seq (.reg [oM 33 τ8,oD 34 (.callF 41 [Xg9,(.const (.int .u32 1))])]) (.seq (.reg [oM 36 τ7,oD 37 (.callF 37 [XhU,(.const (.int .i64 0)),(.const (.string ⟨⟨[]⟩⟩))]),oM 35 XhQ,oE 38 0 Xhq,oE 39 1 Xhq,oM 9 Xii,oM 10 XiV]) (.seq (.reg [oM 41 τ8,oD 42 (.callF 42 [Xjk]),oM 40 XiS,oE 43 0 Xi5,oE 44 1 Xi5,oM 11 Xi6,oM 12 XjM]) (.seq (.reg [oM 45 τ2,oD 46 (.bin .eql XjL (.const (.int .i64 0))),oM 47 Xkc,oG 48 (.mv τ4) 47 true,oG 49 (.bin .eql Xkd (.const (.int .i64 0))) 47 true,oD 50 (.pick Xka Xke (.const (.bool false))),oM 51 XkP,oG 52 (.fieldA 9 τ3) 51 true,oG 53 (.load1 (.int .i64) Xlc) 51 true,oG 54 (.bin .eql Xmp (.const (.int .i64 2))) 51 true,oD 55 (.pick Xla Xm5 (.const (.bool false))),oM 56 XmG,oG 57 (.mv τ6) 56 true,oG 58 (.bin .eql XmT (.const (.int .i64 1))) 56 true,oD 59 (.pick Xm3 XmS (.const (.bool false))),oM 60 Xny,oG 61 (.mv XcV) 60 true,oG 62 (.bin .eql Xn6 (.const (.int .i64 1))) 60 true,oD 63 (.pick Xoo XoS (.const (.bool false))),oM 64 Xqr,oG 65 (.mv τ8) 64 true,oG 66 (.callF 39 [XqZ,(.const (.string ⟨⟨[]⟩⟩))]) 64 true,oG 67 (.bin .eql XqT (.const (.int .i64 1))) 64 true,oD 68 (.pick Xqq Xqx (.const (.bool false))),oM 69 Xqs,oG 70 (.mv τ7) 69 true,oG 71 (.callF 35 [Xsr]) 69 true,oG 72 (.bin .eql Xsw (.const (.string ⟨⟨[]⟩⟩))) 69 true,oD 73 (.pick XrI Xsv (.const (.bool false))),oM 74 XtM,oG 75 (.mv XcT) 74 true,oG 76 (.bin .eql Xvj (.const (.int .u32 0))) 74 true,oD 77 (.pick Xva Xxh (.const (.bool false))),oM 78 Xxo,oG 79 (.mv Xdu) 78 true,oG 80 (.bin .eql Xyc (.const (.string ⟨⟨[]⟩⟩))) 78 true,oD 81 (.pick Xxr XyU (.const (.bool false))),oM 0 XBK]) .ret))))))))))
def fn32:VFn:=⟨82,XI9,[.tmp 0]⟩
def k33_6:VC:=.regD [oD 8 (.loadN [(.int .i64),.bool,(.int .u64),(.int .u64),.bool,(.int .u64),(.int .u64),(.int .i64),(.int .i64)] τ1),oD 9 (.callF 68 [(.const (.string ⟨⟨[0]⟩⟩)),(.const (.int .i64 8))])] [(0,1)] [oD 10 (.build [(.int .i64 0),(.bool false),(.int .u64 0),(.int .u64 0),(.bool false),(.int .u64 0),(.int .u64 0),(.int .i64 0),(.int .i64 0),.nilFunc,.nilFunc,.nilFunc,(.int .u32 0),(.int .u32 0),(.string ⟨⟨[]⟩⟩)] [(0,9,τ8),(12,1,(.const (.int .u32 1))),(14,1,τ9)]),oD 11 (.box XcV),oM 4 XcT]
def XUB:VC:=.seq (.reg [oD 1 (.box τ0),oD 2 (.mv (.const (.pointer none))),oD 3 (.mv (.const (.int .i64 0)))]) (.seq (.seq (.reg [oD 5 (.loadN [(.int .i64),.bool,(.int .u64),(.int .u64),.bool,(.int .u64),(.int .u64),(.int .i64),(.int .i64)] τ1),oD 6 (.callF 67 [τ5]),oD 7 (.not τ6)]) (.cond τ7 (.seq (.reg [oD 2 (.mv (.const (.pointer none))),oD 3 (.mv (.const (.int .i64 1)))]) .ret) .skip)) (.seq k33_6 (.seq (.seq (.reg [oD 12 (.fieldA 0 τ1),oD 13 (.load1 (.int .i64) Xdu)]) (.block 0 (.seq (.reg [oD 15 (.bin .eql Xd0 (.const (.int .i64 6))),oM 14 Xep]) (.cond Xey (.reg [oM 16 τ4,oD 17 (.callF 69 []),oD 18 (.nilCheck XeG),oD 19 (.fieldA 9 XeT),oN (.store 3 XeP Xer)]) (.seq (.reg [oD 21 (.bin .eql Xd0 (.const (.int .i64 17))),oM 20 Xfw]) (.cond Xe8 (.reg [oM 22 τ4,oD 23 (.callF 70 []),oD 24 (.nilCheck Xfs),oD 25 (.fieldA 9 XfS),oN (.store 3 Xgf Xfu)]) (.seq (.reg [oD 2 (.mv (.const (.pointer none))),oD 3 (.mv (.const (.int .i64 1)))]) .ret))))))) (.seq (.reg [oM 26 τ4,oM 2 Xgm,oD 3 (.mv (.const (.int .i64 0)))]) .ret))))
def fn33:VFn:=⟨27,XUB,[.tmp 2,.tmp 3]⟩
def XT4:VC:=.seq (.reg [oD 1 (.box τ0),oD 2 (.mv (.const (.bool false)))]) (.seq (.reg [oD 3 (.fieldA 0 τ1),oD 4 (.load1 (.int .i64) τ3),oD 5 (.buildSl 1 1 [(.int .i64 0)] [(0,1,τ4)]),oD 6 (.callF 109 [(.const (.int .i64 255)),τ5]),oM 7 τ6,oG 8 (.fieldA 7 τ1) 7 true,oG 9 (.load1 (.int .i64) τ8) 7 true,oG 10 (.fieldA 8 τ1) 7 true,oG 11 (.load1 (.int .i64) XcV) 7 true,oG 12 (.buildSl 2 1 [(.int .i64 0),(.int .i64 0)] [(0,1,τ9),(1,1,XcT)]) 7 true,oG 13 (.callF 109 [(.const (.int .i64 65535)),Xdu]) 7 true,oD 14 (.pick τ7 Xd0 (.const (.bool false))),oM 15 Xey,oG 16 (.fieldA 1 τ1) 15 true,oG 17 (.loadN [.bool,(.int .u64),(.int .u64)] XeG) 15 true,oG 18 (.callF 110 [Xer]) 15 true,oD 19 (.pick Xep XeT (.const (.bool false))),oM 20 XeP,oG 21 (.fieldA 4 τ1) 20 true,oG 22 (.loadN [.bool,(.int .u64),(.int .u64)] Xfw) 20 true,oG 23 (.callF 110 [Xfs]) 20 true,oD 24 (.pick Xe8 Xfu (.const (.bool false))),oM 25 XfS,oG 26 (.fieldA 1 τ1) 25 true,oG 27 (.fieldA 0 Xgm) 25 true,oG 28 (.load1 .bool Xgr) 25 true,oG 29 (.fieldA 4 τ1) 25 true,oG 30 (.fieldA 0 Xgj) 25 true,oG 31 (.load1 .bool XgA) 25 true,oG 32 (.eqB false Xgk XgP) 25 true,oD 33 (.pick Xgf Xg4 (.const (.bool false))),oM 2 Xg9]) .ret)
def fn67:VFn:=⟨34,XT4,[.tmp 2]⟩
def XuI:VC:=.seq (.reg [oD 10 (.bin .lss τ9 τ8)]) (.seq (.cond XcV .skip (.exit 0)) (.seq (.block 1 (.seq (.reg [oD 11 (.idxAL 1 τ7 τ9),oD 12 (.load1 (.int .i64) XcT),oM 6 Xdu]) (.seq (.reg [oM 13 τ6,oD 14 (.bin .lss Xd0 (.const (.int .i64 0))),oM 15 Xey,oG 16 (.mv τ6) 15 false,oG 17 (.mv τ0) 15 false,oG 18 (.bin .gtr XeG Xer) 15 false,oD 19 (.pick Xep (.const (.bool true)) XeT)]) (.cond XeP (.seq (.reg [oD 4 (.mv (.const (.bool false)))]) .ret) .skip)))) (.reg [oD 20 (.bin .add τ9 (.const (.int .i64 1))),oM 9 Xe8])))
def XyB:VC:=.seq (.reg [oD 4 (.mv (.const (.bool true)))]) .ret
def XAl:VC:=.seq (.reg [oD 4 (.mv (.const (.bool false)))]) (.seq (.seq (.reg [oM 7 τ1,oD 8 (.lenL τ7),oD 9 (.mv (.const (.int .i64 0)))]) (.block 0 (.loop XuI))) XyB)
def XRq:VFn:=⟨21,XAl,[.tmp 4]⟩
def XIg:VC:=.seq (.reg [oD 1 (.box τ0),oD 2 (.mv (.const (.bool false)))]) (.seq (.reg [oD 3 (.fieldA 0 τ1),oD 4 (.load1 .bool τ3),oM 5 τ4,oG 6 (.fieldA 1 τ1) 5 false,oG 7 (.load1 (.int .u64) τ6) 5 false,oG 8 (.bin .eql τ7 (.const (.int .u64 0))) 5 false,oG 9 (.mv τ8) 5 false,oG 10 (.fieldA 2 τ1) 9 true,oG 11 (.load1 (.int .u64) XcV) 9 true,oG 12 (.bin .lss XcT (.const (.int .u64 4294967296))) 9 true,oG 13 (.pick τ9 Xdu (.const (.bool false))) 5 false,oD 14 (.pick τ5 (.const (.bool true)) Xd0),oM 2 Xey]) .ret)
def XVn:VFn:=⟨15,XIg,[.tmp 2]⟩
def XKY:VC:=.seq (.reg [oD 4 (.mv (.const (.string ⟨⟨[]⟩⟩)))]) (.seq (.seq (.reg [oM 11 τ1]) (.block 0 (.seq (.reg [oD 13 (.bin .eql XcT (.const (.int .i64 0))),oM 12 Xd0]) (.cond Xdu (.seq (.reg [oD 4 (.mv (.const (.string ⟨⟨[]⟩⟩)))]) .ret) (.seq (.reg [oD 15 (.bin .eql XcT (.const (.int .i64 1))),oM 14 Xep]) (.cond Xey (.seq (.reg [oM 16 τ0,oM 4 XeG]) .ret) .skip)))))) (.seq (.seq (.reg [oM 17 τ1,oD 18 (.bin .lss Xer (.const (.int .i64 0)))]) (.cond XeT .stuck .skip)) (.seq (.reg [oM 21 τ0,oD 22 (.lenS Xfw),oD 23 (.conv .u64 Xfs),oM 24 τ1,oD 25 (.conv .u64 XfS),oD 26 (.callF 111 [Xfu,Xgf]),oM 20 Xgm,oE 27 0 Xe8,oE 28 1 Xe8,oM 5 Xgr,oM 6 Xgk]) (.seq (.seq (.reg [oM 29 τ5,oD 30 (.bin .gtr Xgj (.const (.int .u64 0))),oM 31 XgA,oG 32 (.mv τ6) 31 false,oG 33 (.bin .gtr Xg4 (.const (.int .u64 9223372036854775807))) 31 false,oD 34 (.pick XgP (.const (.bool true)) Xg9)]) (.cond Xhe .stuck .skip)) (.seq (.reg [oM 36 τ6,oD 37 (.conv .i64 XhU),oM 7 XhQ]) (.seq (.seq (.reg [oM 38 τ0,oD 39 (.lenS Xii),oD 40 (.bin .eql XiV (.const (.int .i64 0)))]) (.cond Xi5 (.seq (.reg [oD 4 (.mv (.const (.string ⟨⟨[]⟩⟩)))]) .ret) .skip)) (.seq (.seq (.reg [oM 41 τ0,oD 42 (.idxS Xjk (.const (.int .i64 0)))]) (.block 1 (.seq (.seq (.reg [oD 44 (.bin .eql XiS (.const (.int .u8 32))),oM 43 XjM]) (.cond Xi6 .skip (.seq (.reg [oD 45 (.bin .eql XiS (.const (.int .u8 45))),oM 43 XjL]) (.cond Xi6 .skip (.seq (.reg [oD 46 (.bin .eql XiS (.const (.int .u8 48))),oM 43 Xkc]) (.cond Xi6 .skip (.seq (.reg [oD 47 (.bin .eql XiS (.const (.int .u8 61))),oM 43 Xka]) (.cond Xi6 .skip (.reg [oD 48 (.bin .eql XiS (.const (.int .u8 9))),oM 43 Xkd]))))))))) (.cond Xi6 (.block 2 (.seq (.reg [oM 50 τ7,oD 51 (.bin .leq XkP (.const (.int .i64 128))),oM 52 Xla,oG 53 (.mv τ0) 52 true,oG 54 (.callF 112 [(.const (.string ⟨⟨[32,32,32,32,32,32,32,32,32,32,32,32,32,32,32,32,32,32,32,32,32,32,32,32,32,32,32,32,32,32,32,32,32,32,32,32,32,32,32,32,32,32,32,32,32,32,32,32,32,32,32,32,32,32,32,32,32,32,32,32,32,32,32,32,32,32,32,32,32,32,32,32,32,32,32,32,32,32,32,32,32,32,32,32,32,32,32,32,32,32,32,32,32,32,32,32,32,32,32,32,32,32,32,32,32,32,32,32,32,32,32,32,32,32,32,32,32,32,32,32,32,32,32,32,32,32,32,32]⟩⟩)),Xmp]) 52 true,oD 55 (.pick Xlc Xm5 (.const (.bool false))),oM 49 XmG]) (.cond Xke (.seq (.reg [oM 56 τ7,oD 57 (.sliceS (.const (.string ⟨⟨[32,32,32,32,32,32,32,32,32,32,32,32,32,32,32,32,32,32,32,32,32,32,32,32,32,32,32,32,32,32,32,32,32,32,32,32,32,32,32,32,32,32,32,32,32,32,32,32,32,32,32,32,32,32,32,32,32,32,32,32,32,32,32,32,32,32,32,32,32,32,32,32,32,32,32,32,32,32,32,32,32,32,32,32,32,32,32,32,32,32,32,32,32,32,32,32,32,32,32,32,32,32,32,32,32,32,32,32,32,32,32,32,32,32,32,32,32,32,32,32,32,32,32,32,32,32,32,32]⟩⟩)) none (some Xm3)),oM 4 XmT]) .ret) (.seq (.reg [oM 59 τ7,oD 60 (.bin .leq Xny (.const (.int .i64 128))),oM 61 Xoo,oG 62 (.mv τ0) 61 true,oG 63 (.callF 112 [(.const (.string ⟨⟨[45,45,45,45,45,45,45,45,45,45,45,45,45,45,45,45,45,45,45,45,45,45,45,45,45,45,45,45,45,45,45,45,45,45,45,45,45,45,45,45,45,45,45,45,45,45,45,45,45,45,45,45,45,45,45,45,45,45,45,45,45,45,45,45,45,45,45,45,45,45,45,45,45,45,45,45,45,45,45,45,45,45,45,45,45,45,45,45,45,45,45,45,45,45,45,45,45,45,45,45,45,45,45,45,45,45,45,45,45,45,45,45,45,45,45,45,45,45,45,45,45,45,45,45,45,45,45,45]⟩⟩)),XoS]) 61 true,oD 64 (.pick Xn6 Xqr (.const (.bool false))),oM 58 Xqq]) (.cond XmS (.seq (.reg [oM 65 τ7,oD 66 (.sliceS (.const (.string ⟨⟨[45,45,45,45,45,45,45,45,45,45,45,45,45,45,45,45,45,45,45,45,45,45,45,45,45,45,45,45,45,45,45,45,45,45,45,45,45,45,45,45,45,45,45,45,45,45,45,45,45,45,45,45,45,45,45,45,45,45,45,45,45,45,45,45,45,45,45,45,45,45,45,45,45,45,45,45,45,45,45,45,45,45,45,45,45,45,45,45,45,45,45,45,45,45,45,45,45,45,45,45,45,45,45,45,45,45,45,45,45,45,45,45,45,45,45,45,45,45,45,45,45,45,45,45,45,45,45,45]⟩⟩)) none (some XqZ)),oM 4 XqT]) .ret) (.seq (.reg [oM 68 τ7,oD 69 (.bin .leq Xqs (.const (.int .i64 64))),oM 70 XrI,oG 71 (.mv τ0) 70 true,oG 72 (.callF 112 [(.const (.string ⟨⟨[48,48,48,48,48,48,48,48,48,48,48,48,48,48,48,48,48,48,48,48,48,48,48,48,48,48,48,48,48,48,48,48,48,48,48,48,48,48,48,48,48,48,48,48,48,48,48,48,48,48,48,48,48,48,48,48,48,48,48,48,48,48,48,48]⟩⟩)),Xsw]) 70 true,oD 73 (.pick Xsr Xsv (.const (.bool false))),oM 67 XtM]) (.cond Xqx (.seq (.reg [oM 74 τ7,oD 75 (.sliceS (.const (.string ⟨⟨[48,48,48,48,48,48,48,48,48,48,48,48,48,48,48,48,48,48,48,48,48,48,48,48,48,48,48,48,48,48,48,48,48,48,48,48,48,48,48,48,48,48,48,48,48,48,48,48,48,48,48,48,48,48,48,48,48,48,48,48,48,48,48,48]⟩⟩)) none (some Xva)),oM 4 Xvj]) .ret) (.seq (.reg [oM 77 τ7,oD 78 (.bin .leq Xxo (.const (.int .i64 128))),oM 79 Xxr,oG 80 (.mv τ0) 79 true,oG 81 (.callF 112 [(.const (.string ⟨⟨[61,61,61,61,61,61,61,61,61,61,61,61,61,61,61,61,61,61,61,61,61,61,61,61,61,61,61,61,61,61,61,61,61,61,61,61,61,61,61,61,61,61,61,61,61,61,61,61,61,61,61,61,61,61,61,61,61,61,61,61,61,61,61,61,61,61,61,61,61,61,61,61,61,61,61,61,61,61,61,61,61,61,61,61,61,61,61,61,61,61,61,61,61,61,61,61,61,61,61,61,61,61,61,61,61,61,61,61,61,61,61,61,61,61,61,61,61,61,61,61,61,61,61,61,61,61,61,61]⟩⟩)),XyU]) 79 true,oD 82 (.pick Xyc XBK (.const (.bool false))),oM 76 XCI]) (.cond Xxh (.seq (.reg [oM 83 τ7,oD 84 (.sliceS (.const (.string ⟨⟨[61,61,61,61,61,61,61,61,61,61,61,61,61,61,61,61,61,61,61,61,61,61,61,61,61,61,61,61,61,61,61,61,61,61,61,61,61,61,61,61,61,61,61,61,61,61,61,61,61,61,61,61,61,61,61,61,61,61,61,61,61,61,61,61,61,61,61,61,61,61,61,61,61,61,61,61,61,61,61,61,61,61,61,61,61,61,61,61,61,61,61,61,61,61,61,61,61,61,61,61,61,61,61,61,61,61,61,61,61,61,61,61,61,61,61,61,61,61,61,61,61,61,61,61,61,61,61,61]⟩⟩)) none (some XBM)),oM 4 XID]) .ret) (.seq (.reg [oM 86 τ7,oD 87 (.bin .leq XMc (.const (.int .i64 64))),oM 88 XPP,oG 89 (.mv τ0) 88 true,oG 90 (.callF 112 [(.const (.string ⟨⟨[9,9,9,9,9,9,9,9,9,9,9,9,9,9,9,9,9,9,9,9,9,9,9,9,9,9,9,9,9,9,9,9,9,9,9,9,9,9,9,9,9,9,9,9,9,9,9,9,9,9,9,9,9,9,9,9,9,9,9,9,9,9,9,9]⟩⟩)),XO5]) 88 true,oD 91 (.pick XL4 XOg (.const (.bool false))),oM 85 XNN]) (.cond XI7 (.seq (.reg [oM 92 τ7,oD 93 (.sliceS (.const (.string ⟨⟨[9,9,9,9,9,9,9,9,9,9,9,9,9,9,9,9,9,9,9,9,9,9,9,9,9,9,9,9,9,9,9,9,9,9,9,9,9,9,9,9,9,9,9,9,9,9,9,9,9,9,9,9,9,9,9,9,9,9,9,9,9,9,9,9]⟩⟩)) none (some XNE)),oM 4 XKO]) .ret) .skip))))))))))) .skip)))) (.seq (.reg [oM 94 τ7,oM 8 XND]) (.seq (.seq (.reg [oM 95 τ7,oD 96 (.bin .gtr XOW (.const (.int .i64 8192)))]) (.cond XP7 (.seq (.reg [oM 97 τ0,oD 98 (.lenS XI4),oD 99 (.bin .quo (.const (.int .i64 8192)) XQj),oM 100 τ0,oD 101 (.lenS XwY),oD 102 (.bin .mul XQi Xwl),oM 8 XA7]) (.seq (.reg [oM 103 τ8,oD 104 (.bin .eql Xxb (.const (.int .i64 0)))]) (.cond Xz3 (.reg [oM 105 τ0,oD 106 (.lenS XA6),oM 8 XxQ]) .skip))) .skip)) (.seq (.reg [oD 9 (.allocB 171 5)]) (.seq (.reg [oM 107 τ7,oD 108 (.callF 113 [τ9,Xx5])]) (.seq (.reg [oM 109 τ0,oD 110 (.callF 114 [τ9,XyX])]) (.seq (.block 3 (.loop (.seq (.seq (.reg [oD 111 (.callF 115 [τ9]),oM 112 τ7,oD 113 (.bin .lss Xuu Xy6)]) (.cond Xx7 .skip (.exit 3))) (.block 4 (.seq (.reg [oM 114 τ7,oD 115 (.callF 115 [τ9]),oD 116 (.bin .sub Xw7 XBy),oD 117 (.callF 115 [τ9]),oM 118 τ8,oD 119 (.minmax false [XBA,XxM,XxX]),oM 10 XA1]) (.reg [oD 120 (.callF 116 [τ9]),oM 121 XcV,oD 122 (.sliceS XzN none (some XzF)),oD 123 (.callF 114 [τ9,XyG])])))))) (.seq (.reg [oD 124 (.callF 116 [τ9]),oM 4 XBl]) .ret))))))))))))))
def fn68:VFn:=⟨125,XKY,[.tmp 4]⟩
def XKh:VC:=.seq (.reg [oD 4 (.mv (.const (.int .u64 0))),oD 5 (.mv (.const (.int .u64 0)))]) (.seq (.cond (.const (.bool false)) (.seq (.reg [oM 11 τ0,oD 12 (.conv .u32 XcT),oM 13 τ1,oD 14 (.conv .u32 Xd0),oD 15 (.callF 155 [Xdu,Xey]),oM 10 Xep,oE 16 0 XcV,oE 17 1 XcV,oM 6 XeG,oM 7 Xer]) (.seq (.reg [oM 18 τ6,oD 19 (.conv .u64 XeT),oM 20 τ7,oD 21 (.conv .u64 Xe8),oM 4 XeP,oM 5 Xfw]) .ret)) .skip) (.seq (.reg [oM 23 τ0,oM 24 τ1,oD 25 (.callF 156 [Xfu,XfS]),oM 22 Xgf,oE 26 0 Xfs,oE 27 1 Xfs,oM 8 Xgm,oM 9 Xgr]) (.seq (.reg [oM 28 τ8,oM 29 τ9,oM 4 Xgk,oM 5 Xgj]) .ret)))
def XTG:VFn:=⟨30,XKh,[.tmp 4,.tmp 5]⟩
def XRB:VC:=.seq (.reg [oD 4 (.mv (.const (.int .u32 0))),oD 5 (.mv (.const (.int .u32 0)))]) (.seq (.reg [oM 7 τ0,oD 8 (.conv .u64 τ7),oM 9 τ1,oD 10 (.conv .u64 τ9),oD 11 (.bin .mul τ8 XcV),oM 6 XcT]) (.seq (.reg [oM 12 τ6,oD 13 (.bin .shr Xdu (.const (.int .u64 32))),oD 14 (.conv .u32 Xd0),oM 15 τ6,oD 16 (.conv .u32 Xep),oM 4 Xey,oM 5 XeG]) .ret))
def XQE:VFn:=⟨17,XRB,[.tmp 4,.tmp 5]⟩
def XOG:VC:=.seq (.reg [oD 4 (.mv (.const (.int .u64 0))),oD 5 (.mv (.const (.int .u64 0)))]) (.seq (.reg [oM 14 τ0,oD 15 (.bin .and Xey (.const (.int .u64 4294967295))),oM 6 Xep]) (.seq (.reg [oM 16 τ0,oD 17 (.bin .shr XeG (.const (.int .u64 32))),oM 7 Xer]) (.seq (.reg [oM 18 τ1,oD 19 (.bin .and XeT (.const (.int .u64 4294967295))),oM 8 XeP]) (.seq (.reg [oM 20 τ1,oD 21 (.bin .shr Xe8 (.const (.int .u64 32))),oM 9 Xfw]) (.seq (.reg [oM 22 τ6,oM 23 τ8,oD 24 (.bin .mul Xfs Xfu),oM 10 XfS]) (.seq (.reg [oM 25 τ7,oM 26 τ8,oD 27 (.bin .mul Xgf Xgm),oM 28 XcV,oD 29 (.bin .shr Xgk (.const (.int .u64 32))),oD 30 (.bin .add Xgr Xgj),oM 11 XgA]) (.seq (.reg [oM 31 XcT,oD 32 (.bin .and XgP (.const (.int .u64 4294967295))),oM 12 Xg4]) (.seq (.reg [oM 33 XcT,oD 34 (.bin .shr Xg9 (.const (.int .u64 32))),oM 13 Xhe]) (.seq (.reg [oM 35 Xdu,oM 36 τ6,oM 37 τ9,oD 38 (.bin .mul XhU XhQ),oD 39 (.bin .add Xhq Xii),oM 12 XiV]) (.seq (.reg [oM 40 τ7,oM 41 τ9,oD 42 (.bin .mul Xi5 Xjk),oM 43 Xd0,oD 44 (.bin .add XiS Xi6),oM 45 Xdu,oD 46 (.bin .shr XjL (.const (.int .u64 32))),oD 47 (.bin .add XjM Xkc),oM 4 Xka]) (.seq (.reg [oM 48 τ0,oM 49 τ1,oD 50 (.bin .mul Xkd Xke),oM 5 XkP]) .ret)))))))))))
def XVP:VFn:=⟨51,XOG,[.tmp 4,.tmp 5]⟩
def XRa:VC:=.seq (.reg [oD 4 (.mv (.const (.bool false)))]) (.seq (.reg [oM 5 τ0,oM 6 τ1,oD 7 (.callF 157 [τ5,τ6]),oM 4 τ7]) .ret)
def XSX:VFn:=⟨8,XRa,[.tmp 4]⟩
def XS5:VC:=.seq (.reg [oD 4 (.mv (.const (.bool false)))]) (.seq (.reg [oM 5 τ0,oD 6 (.lenS τ5),oM 7 τ1,oD 8 (.lenS τ7),oD 9 (.bin .geq τ6 τ8),oM 10 τ9,oG 11 (.mv τ0) 10 true,oG 12 (.mv τ1) 10 true,oG 13 (.lenS Xdu) 10 true,oG 14 (.sliceS XcT none (some Xd0)) 10 true,oG 15 (.mv τ1) 10 true,oG 16 (.bin .eql Xey Xep) 10 true,oD 17 (.pick XcV XeG (.const (.bool false))),oM 4 Xer]) .ret)
def XWc:VFn:=⟨18,XS5,[.tmp 4]⟩
def XQP:VC:=.seq (.reg [oM 4 τ0,oD 5 (.callF 158 [τ4])]) (.seq (.seq (.reg [oM 6 τ1,oD 7 (.bin .lss τ6 (.const (.int .i64 0)))]) (.cond τ7 .stuck .skip)) (.seq .stuck (.cond Xfw (.reg [oM 22 τ0,oM 23 τ1,oD 24 (.callF 159 [Xfs,Xfu])]) .skip)))
def XRx:VFn:=⟨25,XQP,[]⟩
def XVs:VC:=.seq (.reg [oM 2 τ0,oD 3 (.nilCheck τ2),oD 4 (.fieldA 0 τ3),oD 5 (.load1 .oth τ4),oD 6 (.isNil 0 false τ5)]) (.cond τ6 (.reg [oM 7 τ0,oM 8 τ0,oD 9 (.toU τ8),oM 10 τ9,oD 11 (.ofU 171 2 XcV),oD 12 (.nilCheck τ7),oD 13 (.fieldA 0 Xdu),oN (.store 1 Xd0 XcT)]) (.seq (.reg [oM 14 τ0,oD 15 (.nilCheck Xey),oD 16 (.fieldA 0 Xep),oD 17 (.load1 .oth XeG),oM 18 τ0,oD 19 (.eqP true Xer XeT)]) (.cond XeP .stuck .skip)))
def XWA:VFn:=⟨20,XVs,[]⟩
def XRc:VC:=.seq .stuck (.seq .stuck (.reg [oM 26 τ0,oM 27 τ4,oD 28 (.nilCheck Xgm),oD 29 (.fieldA 1 Xgk),oN (.store 1 Xgj Xgr)]))
def XSV:VFn:=⟨30,XRc,[]⟩
def XTw:VC:=.seq (.reg [oD 4 (.mv (.const (.int .i64 0))),oM 5 (.const .nilIface)]) (.seq (.reg [oM 6 τ0,oD 7 (.callF 158 [τ6])]) (.seq (.reg [oM 8 τ0,oM 9 τ0,oD 10 (.nilCheck τ9),oD 11 (.fieldA 1 XcV),oD 12 (.load1 .oth XcT),oM 13 τ1,oD 14 (.app 5 1 1 Xdu Xd0),oD 15 (.nilCheck τ8),oD 16 (.fieldA 1 Xep),oN (.store 1 XeG Xey)]) (.seq (.reg [oM 17 τ1,oD 18 (.lenS Xer),oM 4 XeT,oM 5 (.const .nilIface)]) .ret)))
def XTN:VFn:=⟨19,XTw,[.tmp 4,.tmp 5]⟩
def XSy:VC:=.seq (.reg [oD 2 (.mv (.const (.int .i64 0)))]) (.seq (.reg [oM 3 τ0,oD 4 (.nilCheck τ3),oD 5 (.fieldA 1 τ4),oD 6 (.load1 .oth τ5),oD 7 (.lenL τ6),oM 2 τ7]) .ret)
def XR0:VFn:=⟨8,XSy,[.tmp 2]⟩
def XRJ:VC:=.regD [oM 3 τ0,oD 4 (.nilCheck τ3),oD 5 (.fieldA 1 τ4),oD 6 (.load1 .oth τ5),oD 7 (.sdata τ6),oM 8 τ0,oD 9 (.nilCheck τ8),oD 10 (.fieldA 1 τ9),oD 11 (.load1 .oth XcV),oD 12 (.lenL XcT)] [] [oD 13 (.ustr 5 τ7 Xdu),oM 2 Xd0]
def XTh:VC:=.seq (.reg [oD 2 (.mv (.const (.string ⟨⟨[]⟩⟩)))]) (.seq XRJ .ret)
def XWB:VFn:=⟨14,XTh,[.tmp 2]⟩
def k69_3:VC:=.seq (.reg [oD 0 (.alloc [.nilFunc,.nilFunc,.nilFunc])]) (.seq (.reg [oD 1 (.build [.nilFunc,.nilFunc,.nilFunc] [(0,1,(.func 117)),(1,1,(.func 120)),(2,1,(.func 121))]),oN (.store 3 τ0 τ1)]) .ret)
def fn69:VFn:=⟨2,k69_3,[.cell 0 [.oth,.oth,.oth] true]⟩
def XS6:VC:=.regD [oM 4 τ0,oD 5 (.nilCheck τ4),oD 6 (.fieldA 0 τ5),oD 7 (.loadN [(.int .i64),.bool,(.int .u64),(.int .u64),.bool,(.int .u64),(.int .u64),(.int .i64),(.int .i64)] τ6),oM 8 τ0,oD 9 (.nilCheck τ8),oD 10 (.fieldA 12 τ9),oD 11 (.load1 (.int .u32) XcV),oD 12 (.callF 119 [XcT,(.const (.int .u32 0))]),oD 13 (.callF 118 [τ7,(.const (.int .i64 2)),Xdu,(.const (.string ⟨⟨[]⟩⟩))]),oE 14 0 Xd0,oE 15 1 Xd0] [(3,8)] [oM 2 Xey,oM 3 Xep]
def XIx:VC:=.seq (.reg [oD 2 (.mv (.const (.string ⟨⟨[]⟩⟩))),oD 3 (.mv (.const (.int .i64 0)))]) (.seq XS6 .ret)
def XQB:VFn:=⟨16,XIx,[.tmp 2,.tmp 3]⟩
def XIT:VC:=.seq (.reg [oD 4 (.mv (.const (.string ⟨⟨[]⟩⟩)))]) (.seq (.reg [oD 5 (.callF 97 [(.const (.int .u64 16844810)),(.const (.int .i64 4))]),oM 6 τ0,oD 7 (.conv .u64 τ6),oD 8 (.bin .shl τ7 (.const (.int .u64 32))),oM 9 τ1,oD 10 (.conv .u64 τ9),oD 11 (.bin .or τ8 XcV),oD 12 (.callF 97 [XcT,(.const (.int .i64 8))]),oD 13 (.bin .add τ5 Xdu),oM 4 Xd0]) .ret)
def XSx:VFn:=⟨14,XIT,[.tmp 4]⟩
def Xza:VC:=.seq (.reg [oD 18 (.bin .lss Xer XeG)]) (.seq (.cond XeT .skip (.exit 0)) (.seq (.block 1 (.seq (.reg [oM 19 Xer,oM 6 XeP]) (.reg [oM 20 τ5,oM 21 τ6,oM 22 τ0,oM 23 τ1,oD 24 (.bin .sub Xfu (.const (.int .i64 1))),oM 25 τ6,oD 26 (.bin .sub XfS Xgf),oD 27 (.bin .mul (.const (.int .i64 8)) Xgm),oD 28 (.bin .shr Xfs Xgr),oD 29 (.conv .u8 Xgk),oD 30 (.idxAL 1 Xe8 Xfw),oN (.store 1 XgA Xgj)]))) (.reg [oD 31 (.bin .add Xer (.const (.int .i64 1))),oM 17 XgP])))
def XIo:VC:=.seq (.reg [oM 32 τ5,oD 33 (.b2s Xg4),oM 4 Xg9]) .ret
def XIF:VC:=.seq (.reg [oD 4 (.mv (.const (.string ⟨⟨[]⟩⟩)))]) (.seq (.seq (.reg [oM 7 τ1,oD 8 (.bin .lss τ7 (.const (.int .i64 1))),oM 9 τ8,oG 10 (.mv τ1) 9 false,oG 11 (.bin .gtr XcV (.const (.int .i64 8))) 9 false,oD 12 (.pick τ9 (.const (.bool true)) XcT)]) (.cond Xdu (.seq (.reg [oD 4 (.mv (.const (.string ⟨⟨[]⟩⟩)))]) .ret) .skip)) (.seq (.reg [oM 13 τ1,oD 14 (.mkSl 1 1 [(.int .u8 0)] Xd0 Xd0),oM 5 Xey]) (.seq (.seq (.reg [oM 15 τ5,oD 16 (.lenL Xep),oD 17 (.mv (.const (.int .i64 0)))]) (.block 0 (.loop Xza))) XIo)))
def fn97:VFn:=⟨34,XIF,[.tmp 4]⟩
def Xzu:VC:=.seq (.reg [oD 4 (.box τ0),oD 8 (.mv (.const (.string ⟨⟨[]⟩⟩))),oD 9 (.mv (.const (.int .i64 0)))]) (.seq (.seq (.reg [oD 13 (.fieldA 0 τ4),oD 14 (.load1 (.int .i64) Xd0),oD 15 (.bin .neq Xey (.const (.int .i64 6)))]) (.cond Xep (.seq (.reg [oD 8 (.mv (.const (.string ⟨⟨[]⟩⟩))),oD 9 (.mv (.const (.int .i64 1)))]) .ret) .skip)) (.seq (.reg [oD 16 (.fieldA 7 τ4),oD 17 (.load1 (.int .i64) XeG),oD 18 (.fieldA 8 τ4),oD 19 (.load1 (.int .i64) XeT),oM 20 τ1,oM 21 τ2,oD 22 (.build [(.int .i64 0),(.int .i64 0),(.int .u32 0),(.int .u32 0),(.int .i64 0),(.int .i64 0),(.int .i64 0),(.string ⟨⟨[]⟩⟩)] [(0,1,Xer),(1,1,XeP),(4,1,Xe8),(5,1,(.const (.int .i64 65535))),(7,1,Xfw)]),oD 10 (.alloc [(.int .i64 0),(.int .i64 0),(.int .u32 0),(.int .u32 0),(.int .i64 0),(.int .i64 0),(.int .i64 0),(.string ⟨⟨[]⟩⟩)]),oN (.store 8 XcV Xfs)]) (.seq (.reg [oD 24 (.loadN [(.int .i64),(.int .i64),(.int .u32),(.int .u32),(.int .i64),(.int .i64),(.int .i64),.str] XcV),oD 25 (.fieldA 1 τ4),oD 26 (.loadN [.bool,(.int .u64),(.int .u64)] Xgf),oD 27 (.fieldA 4 τ4),oD 28 (.loadN [.bool,(.int .u64),(.int .u64)] Xgr),oM 29 τ3,oD 30 (.callF 160 [XfS,Xgm,Xgk,Xgj]),oM 23 XgA,oE 31 0 Xfu,oE 32 1 Xfu,oM 11 XgP,oM 12 Xg4]) (.seq (.seq (.reg [oM 33 Xdu,oD 34 (.bin .neq Xg9 (.const (.int .i64 0)))]) (.cond Xhe (.seq (.reg [oM 35 Xdu,oD 8 (.mv (.const (.string ⟨⟨[]⟩⟩))),oM 9 Xhq]) .ret) .skip)) (.seq (.reg [oD 36 (.loadN [(.int .i64),.bool,(.int .u64),(.int .u64),.bool,(.int .u64),(.int .u64),(.int .i64),(.int .i64)] τ4),oM 37 XcT,oD 38 (.callF 161 [XhU,XhQ]),oE 39 0 Xii,oE 40 1 Xii,oM 8 XiV,oM 9 Xi5]) .ret)))))
def XVz:VFn:=⟨41,Xzu,[.tmp 8,.tmp 9]⟩
def XAz:VC:=.seq (.reg [oD 4 (.box τ0),oD 5 (.box τ1),oD 6 (.box τ2),oD 8 (.mv (.const (.string ⟨⟨[]⟩⟩))),oD 9 (.mv (.const (.int .i64 0)))]) (.seq (.reg [oD 13 (.fieldA 7 τ4),oD 14 (.load1 .str Xd0),oD 15 (.lenS Xey),oD 16 (.bin .add (.const (.int .i64 20)) Xep),oM 10 XeG]) (.seq (.reg [oD 17 (.loadN [.bool,(.int .u64),(.int .u64)] τ5),oD 18 (.loadN [.bool,(.int .u64),(.int .u64)] τ6),oM 19 XcV,oM 20 τ3,oD 21 (.lenS Xe8),oD 22 (.bin .add XeP Xfw),oD 23 (.callF 180 [Xer,XeT,(.const (.int .i64 6)),Xfs]),oM 11 Xfu]) (.seq (.block 0 (.seq (.reg [oD 25 (.loadN [(.int .i64),(.int .i64),(.int .u32),(.int .u32),(.int .i64),(.int .i64),(.int .i64),.str] τ4),oD 26 (.callF 181 [Xgf]),oD 27 (.not Xgm),oM 28 Xgr,oG 29 (.mv XcT) 28 false,oG 30 (.bin .eql Xgj (.const (.string ⟨⟨[]⟩⟩))) 28 false,oD 31 (.pick Xgk (.const (.bool true)) XgA),oM 24 XgP]) (.cond XfS (.seq (.reg [oD 8 (.mv (.const (.string ⟨⟨[]⟩⟩))),oD 9 (.mv (.const (.int .i64 1)))]) .ret) (.seq (.reg [oM 33 τ3,oD 34 (.lenS Xg9),oM 35 XcV,oD 36 (.bin .sub (.const (.int .i64 65535)) Xhq),oD 37 (.bin .gtr Xhe XhU),oM 32 XhQ]) (.cond Xg4 (.seq (.reg [oD 8 (.mv (.const (.string ⟨⟨[]⟩⟩))),oD 9 (.mv (.const (.int .i64 5)))]) .ret) .skip))))) (.seq (.reg [oD 38 (.loadN [(.int .i64),(.int .i64),(.int .u32),(.int .u32),(.int .i64),(.int .i64),(.int .i64),.str] τ4),oD 39 (.callF 182 [Xii]),oM 40 τ3,oD 41 (.bin .add XiV Xi5),oM 12 Xjk]) (.seq (.reg [oM 42 Xdu,oM 43 XcT,oM 44 Xdu,oD 45 (.bin .add Xi6 XjM),oD 46 (.callF 183 [XjL]),oD 47 (.conv .u64 Xkc),oD 48 (.callF 98 [XiS,(.const (.int .i64 16)),(.const (.int .i64 2)),Xka]),oM 8 Xkd,oD 9 (.mv (.const (.int .i64 0)))]) .ret)))))
def XQA:VFn:=⟨49,XAz,[.tmp 8,.tmp 9]⟩
def XU9:VC:=.regD [oD 25 (.loadN [.bool,(.int .u64),(.int .u64)] τ4),oD 26 (.callF 195 [Xgf]),oD 27 (.loadN [.bool,(.int .u64),(.int .u64)] τ5)] [(1,2)] [oD 28 (.callF 195 [Xgr]),oD 29 (.bin .add Xgm Xgk),oM 9 Xgj]
def Xzb:VC:=.seq (.reg [oD 4 (.box τ0),oD 5 (.box τ1),oD 8 (.mv (.const (.string ⟨⟨[]⟩⟩)))]) (.seq (.seq (.reg [oD 10 (.loadN [.bool,(.int .u64),(.int .u64)] τ4),oD 11 (.callF 110 [XcV]),oD 12 (.not XcT),oM 13 Xdu,oG 14 (.loadN [.bool,(.int .u64),(.int .u64)] τ5) 13 false,oG 15 (.callF 110 [Xey]) 13 false,oG 16 (.not Xep) 13 false,oD 17 (.pick Xd0 (.const (.bool true)) XeG),oM 18 Xer,oG 19 (.fieldA 0 τ4) 18 false,oG 20 (.load1 .bool XeP) 18 false,oG 21 (.fieldA 0 τ5) 18 false,oG 22 (.load1 .bool Xfw) 18 false,oG 23 (.eqB true Xe8 Xfs) 18 false,oD 24 (.pick XeT (.const (.bool true)) Xfu)]) (.cond XfS (.seq (.reg [oD 8 (.mv (.const (.string ⟨⟨[]⟩⟩)))]) .ret) .skip)) (.seq XU9 (.seq (.seq (.reg [oD 30 (.fieldA 0 τ4),oD 31 (.load1 .bool XgA)]) (.cond XgP (.seq (.reg [oM 32 τ9,oM 33 τ3,oM 34 τ2,oD 35 (.buildSl 6 1 [(.int .i64 0),(.int .i64 0),(.int .i64 0),(.int .i64 0),(.int .i64 0),(.int .i64 0)] [(0,1,Xg9),(1,1,(.const (.int .i64 4))),(2,1,(.const (.int .i64 0))),(3,1,(.const (.int .i64 3))),(4,1,Xhe),(5,1,(.const (.int .i64 1)))]),oD 36 (.callF 196 [Xhq]),oD 37 (.bin .add Xg4 XhU),oM 8 XhQ]) .ret) .skip)) (.seq (.reg [oM 38 τ9,oM 39 τ2,oM 40 τ3,oD 41 (.buildSl 6 1 [(.int .i64 0),(.int .i64 0),(.int .i64 0),(.int .i64 0),(.int .i64 0),(.int .i64 0)] [(0,1,(.const (.int .i64 0))),(1,1,(.const (.int .i64 1))),(2,1,XiV),(3,1,(.const (.int .i64 1))),(4,1,Xi5),(5,1,(.const (.int .i64 2)))]),oD 42 (.callF 196 [Xjk]),oD 43 (.bin .add Xii XiS),oM 8 Xi6]) .ret))))
def XTX:VFn:=⟨44,Xzb,[.tmp 8]⟩
def XQT:VC:=.regD [oD 10 (.fieldA 1 τ1),oD 11 (.load1 (.int .u64) XcV),oD 12 (.callF 97 [XcT,(.const (.int .i64 8))]),oD 13 (.fieldA 2 τ1),oD 14 (.load1 (.int .u64) Xd0)] [(2,4)] [oD 15 (.callF 97 [Xey,(.const (.int .i64 8))]),oD 16 (.bin .add Xdu Xep),oM 2 XeG]
def Xxu:VC:=.seq (.reg [oD 1 (.box τ0),oD 2 (.mv (.const (.string ⟨⟨[]⟩⟩)))]) (.seq (.block 0 (.seq (.reg [oD 4 (.loadN [.bool,(.int .u64),(.int .u64)] τ1),oD 5 (.callF 110 [τ4]),oD 6 (.not τ5),oM 3 τ6]) (.cond τ3 (.seq (.reg [oD 2 (.mv (.const (.string ⟨⟨[]⟩⟩)))]) .ret) (.seq (.reg [oD 8 (.fieldA 0 τ1),oD 9 (.load1 .bool τ8),oM 7 τ9]) (.cond τ7 (.seq XQT .ret) .skip))))) (.seq (.reg [oD 17 (.fieldA 2 τ1),oD 18 (.load1 (.int .u64) Xer),oD 19 (.callF 97 [XeT,(.const (.int .i64 4))]),oM 2 XeP]) .ret))
def XTB:VFn:=⟨20,Xxu,[.tmp 2]⟩
def XTQ:VC:=.regD [oM 12 τ0,oM 13 τ4,oD 14 (.idxAL 1 Xdu Xd0),oD 15 (.load1 (.int .i64) Xey),oD 16 (.conv .u64 Xep),oM 17 τ0,oM 18 τ4,oD 19 (.bin .add XeT (.const (.int .i64 1))),oD 20 (.idxAL 1 Xer XeP),oD 21 (.load1 (.int .i64) Xe8)] [] [oD 22 (.callF 97 [XeG,Xfw]),oD 23 (.callF 114 [τ3,Xfs])]
def XuQ:VC:=.seq (.seq (.reg [oM 5 τ4,oD 6 (.bin .add τ5 (.const (.int .i64 1))),oM 7 τ0,oD 8 (.lenL τ7),oD 9 (.bin .lss τ6 τ8)]) (.cond τ9 .skip (.exit 0))) (.seq (.block 1 XTQ) (.reg [oM 10 τ4,oD 11 (.bin .add XcV (.const (.int .i64 2))),oM 4 XcT]))
def XAg:VC:=.seq (.reg [oD 24 (.callF 116 [τ3]),oM 2 XfS]) .ret
def XAZ:VC:=.seq (.reg [oD 2 (.mv (.const (.string ⟨⟨[]⟩⟩)))]) (.seq (.reg [oD 3 (.allocB 171 5)]) (.seq (.seq (.reg [oD 4 (.mv (.const (.int .i64 0)))]) (.block 0 (.loop XuQ))) XAg))
def XVK:VFn:=⟨25,XAZ,[.tmp 2]⟩
def XJv:VC:=.seq (.reg [oD 1 (.box τ0),oD 2 (.mv (.const (.bool false)))]) (.seq (.reg [oD 3 (.fieldA 0 τ1),oD 4 (.load1 (.int .i64) τ3),oD 5 (.fieldA 1 τ1),oD 6 (.load1 (.int .i64) τ5),oD 7 (.fieldA 5 τ1),oD 8 (.load1 (.int .i64) τ7),oD 9 (.fieldA 6 τ1),oD 10 (.load1 (.int .i64) τ9),oD 11 (.buildSl 4 1 [(.int .i64 0),(.int .i64 0),(.int .i64 0),(.int .i64 0)] [(0,1,τ4),(1,1,τ6),(2,1,τ8),(3,1,XcV)]),oD 12 (.callF 197 [(.const (.int .i64 65535)),XcT]),oM 13 Xdu,oG 14 (.fieldA 4 τ1) 13 true,oG 15 (.load1 (.int .i64) Xey) 13 true,oG 16 (.buildSl 1 1 [(.int .i64 0)] [(0,1,Xep)]) 13 true,oG 17 (.callF 197 [(.const (.int .i64 255)),XeG]) 13 true,oD 18 (.pick Xd0 Xer (.const (.bool false))),oM 19 XeT,oG 20 (.fieldA 7 τ1) 19 true,oG 21 (.load1 .str Xe8) 19 true,oG 22 (.lenS Xfw) 19 true,oG 23 (.bin .rem Xfs (.const (.int .i64 4))) 19 true,oG 24 (.bin .eql Xfu (.const (.int .i64 0))) 19 true,oD 25 (.pick XeP XfS (.const (.bool false))),oM 26 Xgf,oG 27 (.fieldA 7 τ1) 26 true,oG 28 (.load1 .str Xgr) 26 true,oG 29 (.lenS Xgk) 26 true,oG 30 (.bin .leq Xgj (.const (.int .i64 40))) 26 true,oD 31 (.pick Xgm XgA (.const (.bool false))),oM 2 XgP]) .ret)
def XUo:VFn:=⟨32,XJv,[.tmp 2]⟩
def Xua:VC:=.seq (.reg [oD 10 (.bin .lss τ9 τ8)]) (.seq (.cond XcV .skip (.exit 0)) (.seq (.block 1 (.seq (.reg [oD 11 (.idxAL 1 τ7 τ9),oD 12 (.load1 (.int .i64) XcT),oM 6 Xdu]) (.seq (.reg [oM 13 τ6,oD 14 (.bin .lss Xd0 (.const (.int .i64 0))),oM 15 Xey,oG 16 (.mv τ6) 15 false,oG 17 (.mv τ0) 15 false,oG 18 (.bin .gtr XeG Xer) 15 false,oD 19 (.pick Xep (.const (.bool true)) XeT)]) (.cond XeP (.seq (.reg [oD 4 (.mv (.const (.bool false)))]) .ret) .skip)))) (.reg [oD 20 (.bin .add τ9 (.const (.int .i64 1))),oM 9 Xe8])))
def Xz7:VC:=.seq (.reg [oD 4 (.mv (.const (.bool true)))]) .ret
def Xyn:VC:=.seq (.reg [oD 4 (.mv (.const (.bool false)))]) (.seq (.seq (.reg [oM 7 τ1,oD 8 (.lenL τ7),oD 9 (.mv (.const (.int .i64 0)))]) (.block 0 (.loop Xua))) Xz7)
def XU6:VFn:=⟨21,Xyn,[.tmp 4]⟩
def XU0:VC:=.regD [oM 31 τ3,oD 32 (.bin .shl XgP (.const (.int .u64 12))),oD 33 (.fieldA 4 τ1),oD 34 (.load1 (.int .i64) Xg9),oD 35 (.conv .u64 Xhe),oD 36 (.bin .or Xg4 Xhq),oD 37 (.callF 97 [XhU,(.const (.int .i64 2))]),oD 38 (.fieldA 5 τ1),oD 39 (.load1 (.int .i64) Xii),oD 40 (.conv .u64 XiV)] [(6,8)] [oD 41 (.callF 97 [Xi5,(.const (.int .i64 2))]),oD 42 (.bin .add XhQ Xjk),oM 6 XiS]
def XVk:VC:=.regD [oM 43 τ4,oM 44 τ5,oD 45 (.bin .add Xi6 XjM),oM 46 τ6,oD 47 (.bin .add XjL Xkc),oD 48 (.fieldA 6 τ1),oD 49 (.load1 (.int .i64) Xkd),oD 50 (.conv .u64 Xke),oD 51 (.callF 97 [XkP,(.const (.int .i64 4))]),oD 52 (.bin .add Xka Xla),oD 53 (.fieldA 7 τ1),oD 54 (.load1 .str Xmp)] [(8,11)] [oD 55 (.bin .add Xlc Xm5),oM 2 XmG]
def Xyg:VC:=.seq (.reg [oD 1 (.box τ0),oD 2 (.mv (.const (.string ⟨⟨[]⟩⟩)))]) (.seq (.reg [oD 7 (.fieldA 7 τ1),oD 8 (.load1 .str τ7),oD 9 (.lenS τ8),oD 10 (.bin .add (.const (.int .i64 20)) τ9),oD 11 (.conv .u64 XcV),oD 12 (.bin .quo XcT (.const (.int .u64 4))),oM 3 Xdu]) (.seq (.reg [oD 13 (.fieldA 0 τ1),oD 14 (.load1 (.int .i64) Xd0),oD 15 (.conv .u64 Xey),oD 16 (.bin .shl Xep (.const (.int .u64 16))),oD 17 (.fieldA 1 τ1),oD 18 (.load1 (.int .i64) Xer),oD 19 (.conv .u64 XeT),oD 20 (.bin .or XeG XeP),oD 21 (.callF 97 [Xe8,(.const (.int .i64 4))]),oM 4 Xfw]) (.seq (.reg [oD 22 (.fieldA 2 τ1),oD 23 (.load1 (.int .u32) Xfs),oD 24 (.conv .u64 Xfu),oD 25 (.bin .shl XfS (.const (.int .u64 32))),oD 26 (.fieldA 3 τ1),oD 27 (.load1 (.int .u32) Xgm),oD 28 (.conv .u64 Xgr),oD 29 (.bin .or Xgf Xgk),oD 30 (.callF 97 [Xgj,(.const (.int .i64 8))]),oM 5 XgA]) (.seq XU0 (.seq XVk .ret)))))
def XRW:VFn:=⟨56,Xyg,[.tmp 2]⟩
def XH2:VC:=.seq (.reg [oD 2 (.mv (.const (.int .i64 0)))]) (.seq (.reg [oM 3 τ0,oD 4 (.callF 130 [τ3]),oD 5 (.bin .sub (.const (.int .i64 65535)) τ4),oM 2 τ5]) .ret)
def XVU:VFn:=⟨6,XH2,[.tmp 2]⟩
def XH6:VC:=.reg [oM 4 τ7]
def XIV:VC:=.block 1 (.reg [oD 8 (.load1 (.int .i64) τ3),oM 9 τ4,oD 10 (.bin .add τ8 τ9),oD 11 (.callF 165 [XcV]),oN (.store 1 τ3 XcT)])
def XUm:VC:=.rangeF τ6 [7] XH6 XIV
def Xx9:VC:=.seq (.reg [oD 12 (.load1 (.int .i64) τ3),oM 2 Xdu]) .ret
def XBv:VC:=.seq (.reg [oD 2 (.mv (.const (.int .i64 0)))]) (.seq (.reg [oD 3 (.alloc [(.int .i64 0)]),oN (.store 1 τ3 (.const (.int .i64 0)))]) (.seq (.seq (.reg [oM 5 τ0,oD 6 (.callF 164 [τ5])]) (.block 0 XUm)) Xx9))
def XQH:VFn:=⟨13,XBv,[.tmp 2]⟩
def XVr:VC:=.seq (.reg [oD 1 (.box τ0),oM 2 (.const .nilFunc)]) (.seq (.reg [oD 3 (.mkFunc 189 [] [τ1]),oM 2 τ3]) .ret)
def XSH:VFn:=⟨4,XVr,[.tmp 2]⟩
def XuG:VC:=.seq (.seq (.reg [oM 5 τ3,oD 6 (.load1 .str τ1),oD 7 (.lenS τ6),oD 8 (.bin .lss τ5 τ7)]) (.cond τ8 .skip (.exit 0))) (.seq (.block 1 (.seq (.reg [oD 11 (.load1 .str τ1),oM 12 τ3,oD 13 (.idxS XcT Xdu),oD 14 (.conv .i64 Xd0),oD 15 (.bin .shl Xey (.const (.int .u64 8))),oM 4 Xep]) (.seq (.seq (.reg [oM 16 τ3,oD 17 (.bin .add XeG (.const (.int .i64 1))),oD 18 (.load1 .str τ1),oD 19 (.lenS XeT),oD 20 (.bin .lss Xer XeP)]) (.cond Xe8 (.reg [oM 21 τ4,oD 22 (.load1 .str τ1),oM 23 τ3,oD 24 (.bin .add Xfu (.const (.int .i64 1))),oD 25 (.idxS Xfs XfS),oD 26 (.conv .i64 Xgf),oD 27 (.bin .or Xfw Xgm),oM 4 Xgr]) .skip)) (.seq (.reg [oM 28 τ0,oM 29 τ4,oD 30 (.callV Xgk [Xgj]),oD 31 (.not XgA)]) (.cond XgP .ret .skip))))) (.reg [oM 9 τ3,oD 10 (.bin .add τ9 (.const (.int .i64 2))),oM 3 XcV]))
def XMo:VC:=.seq (.reg [oD 3 (.mv (.const (.int .i64 0)))]) (.block 0 (.loop XuG))
def XUA:VFn:=⟨32,XMo,[]⟩
def XyQ:VC:=.seq (.seq (.reg [oM 3 τ0,oD 4 (.bin .gtr τ3 (.const (.int .i64 65535)))]) (.cond τ4 .skip (.exit 0))) (.block 1 (.reg [oM 5 τ0,oD 6 (.bin .and τ5 (.const (.int .i64 65535))),oM 7 τ0,oD 8 (.bin .shr τ7 (.const (.int .u64 16))),oD 9 (.bin .add τ6 τ8),oM 0 τ9]))
def XAw:VC:=.seq (.reg [oM 10 τ0,oM 2 XcV]) .ret
def XAt:VC:=.seq (.reg [oD 2 (.mv (.const (.int .i64 0)))]) (.seq (.block 0 (.loop XyQ)) XAw)
def XWu:VFn:=⟨11,XAt,[.tmp 2]⟩
def k98_7:VC:=.regD [oM 28 τ0,oM 29 τ1,oD 30 (.sliceS Xgk none (some Xgj)),oM 31 τ9,oD 32 (.bin .add XgA XgP),oM 33 τ0,oM 34 τ1,oM 35 τ2,oD 36 (.bin .add Xhe Xhq),oD 37 (.sliceS Xg9 (some XhU) none)] [] [oD 38 (.bin .add Xg4 XhQ),oM 8 Xii]
def XJd:VC:=.seq (.reg [oD 8 (.mv (.const (.string ⟨⟨[]⟩⟩)))]) (.seq (.reg [oM 10 τ3,oM 11 τ2,oD 12 (.callF 97 [XcV,XcT]),oM 9 Xdu]) (.seq (.seq (.reg [oM 13 τ9,oD 14 (.bin .eql Xd0 (.const (.string ⟨⟨[]⟩⟩))),oM 15 Xey,oG 16 (.mv τ1) 15 false,oG 17 (.bin .lss XeG (.const (.int .i64 0))) 15 false,oD 18 (.pick Xep (.const (.bool true)) Xer),oM 19 XeT,oG 20 (.mv τ0) 19 false,oG 21 (.lenS Xe8) 19 false,oG 22 (.mv τ2) 19 false,oG 23 (.bin .sub Xfw Xfs) 19 false,oG 24 (.mv τ1) 19 false,oG 25 (.bin .lss Xfu XfS) 19 false,oD 26 (.pick XeP (.const (.bool true)) Xgf)]) (.cond Xgm (.seq (.reg [oM 27 τ0,oM 8 Xgr]) .ret) .skip)) (.seq k98_7 .ret)))
def fn98:VFn:=⟨39,XJd,[.tmp 8]⟩
def Xze:VC:=.seq (.reg [oD 2 (.box τ0),oD 4 (.mv (.const (.string ⟨⟨[]⟩⟩))),oD 5 (.mv (.const (.int .i64 0)))]) (.seq (.reg [oD 9 (.fieldA 0 τ2),oD 10 (.load1 (.int .i64) τ9),oD 11 (.bin .eql XcV (.const (.int .i64 6))),oM 12 XcT,oG 13 (.fieldA 0 τ2) 12 false,oG 14 (.load1 (.int .i64) Xd0) 12 false,oG 15 (.bin .eql Xey (.const (.int .i64 17))) 12 false,oD 16 (.pick Xdu (.const (.bool true)) Xep),oM 6 XeG]) (.seq (.seq (.reg [oM 17 τ6,oD 18 (.not Xer),oM 19 XeT,oG 20 (.fieldA 1 τ2) 19 false,oG 21 (.fieldA 0 Xe8) 19 false,oG 22 (.load1 .bool Xfw) 19 false,oG 23 (.fieldA 4 τ2) 19 false,oG 24 (.fieldA 0 Xfu) 19 false,oG 25 (.load1 .bool XfS) 19 false,oG 26 (.eqB true Xfs Xgf) 19 false,oD 27 (.pick XeP (.const (.bool true)) Xgm),oM 28 Xgr,oG 29 (.fieldA 1 τ2) 28 false,oG 30 (.loadN [.bool,(.int .u64),(.int .u64)] Xgj) 28 false,oG 31 (.callF 110 [XgA]) 28 false,oG 32 (.not XgP) 28 false,oD 33 (.pick Xgk (.const (.bool true)) Xg4),oM 34 Xg9,oG 35 (.fieldA 4 τ2) 34 false,oG 36 (.loadN [.bool,(.int .u64),(.int .u64)] Xhq) 34 false,oG 37 (.callF 110 [XhU]) 34 false,oG 38 (.not XhQ) 34 false,oD 39 (.pick Xhe (.const (.bool true)) Xii)]) (.cond XiV (.seq (.reg [oD 4 (.mv (.const (.string ⟨⟨[]⟩⟩))),oD 5 (.mv (.const (.int .i64 1)))]) .ret) .skip)) (.seq (.reg [oD 7 (.mv (.const (.string ⟨⟨[]⟩⟩)))]) (.seq (.reg [oD 8 (.mv (.const (.int .i64 0)))]) (.seq (.seq (.reg [oD 40 (.fieldA 1 τ2),oD 41 (.fieldA 0 Xi5),oD 42 (.load1 .bool Xjk)]) (.cond XiS (.reg [oD 44 (.fieldA 0 τ2),oD 45 (.load1 (.int .i64) XjM),oD 46 (.fieldA 1 τ2),oD 47 (.loadN [.bool,(.int .u64),(.int .u64)] Xkc),oD 48 (.fieldA 4 τ2),oD 49 (.loadN [.bool,(.int .u64),(.int .u64)] Xkd),oD 50 (.build [(.int .i64 0),(.int .i64 0),(.int .i64 0),(.int .i64 0),(.bool false),(.int .u64 0),(.int .u64 0),(.bool false),(.int .u64 0),(.int .u64 0)] [(2,1,XjL),(3,1,(.const (.int .i64 64))),(4,3,Xka),(7,3,Xke)]),oM 51 τ1,oD 52 (.callF 184 [XkP,Xla]),oM 43 Xlc,oE 53 0 Xi6,oE 54 1 Xi6,oM 7 Xmp,oM 8 Xm5]) (.reg [oD 56 (.fieldA 0 τ2),oD 57 (.load1 (.int .i64) Xm3),oD 58 (.fieldA 1 τ2),oD 59 (.loadN [.bool,(.int .u64),(.int .u64)] XmS),oD 60 (.fieldA 4 τ2),oD 61 (.loadN [.bool,(.int .u64),(.int .u64)] Xoo),oD 62 (.build [(.int .i64 0),(.int .i64 0),(.bool false),(.int .i64 0),(.int .i64 0),(.bool false),(.int .u64 0),(.int .u64 0),(.bool false),(.int .u64 0),(.int .u64 0),(.string ⟨⟨[]⟩⟩)] [(2,1,(.const (.bool true))),(3,1,(.const (.int .i64 64))),(4,1,XmT),(5,3,Xny),(8,3,Xn6)]),oM 63 τ1,oD 64 (.callF 185 [XoS,Xqr]),oM 55 Xqq,oE 65 0 XmG,oE 66 1 XmG,oM 7 XqZ,oM 8 XqT]))) (.seq (.seq (.reg [oM 67 τ8,oD 68 (.bin .eql Xqx (.const (.int .i64 0))),oM 69 Xqs,oG 70 (.mv τ7) 69 true,oG 71 (.lenS Xsr) 69 true,oG 72 (.bin .gtr Xsw (.const (.int .i64 9000))) 69 true,oD 73 (.pick XrI Xsv (.const (.bool false)))]) (.cond XtM (.seq (.reg [oD 4 (.mv (.const (.string ⟨⟨[]⟩⟩))),oD 5 (.mv (.const (.int .i64 5)))]) .ret) .skip)) (.seq (.reg [oM 74 τ7,oM 75 τ8,oM 4 Xva,oM 5 Xvj]) .ret)))))))
def XTo:VFn:=⟨76,Xze,[.tmp 4,.tmp 5]⟩
def XKB:VC:=.regD [oM 40 τ6,oM 41 τ7,oD 42 (.bin .add Xi5 Xjk),oD 43 (.fieldA 4 τ2),oD 44 (.loadN [.bool,(.int .u64),(.int .u64)] Xi6),oD 45 (.callF 195 [XjM]),oD 46 (.bin .add XiS XjL),oD 47 (.fieldA 7 τ2),oD 48 (.loadN [.bool,(.int .u64),(.int .u64)] Xka),oD 49 (.callF 195 [Xkd]),oD 50 (.bin .add Xkc Xke),oM 51 τ1] [(5,8)] [oD 52 (.bin .add XkP Xla),oM 4 Xlc,oD 5 (.mv (.const (.int .i64 0)))]
def XBt:VC:=.seq (.reg [oD 2 (.box τ0),oD 4 (.mv (.const (.string ⟨⟨[]⟩⟩))),oD 5 (.mv (.const (.int .i64 0)))]) (.seq (.block 0 (.seq (.reg [oD 9 (.loadN [(.int .i64),(.int .i64),(.int .i64),(.int .i64),.bool,(.int .u64),(.int .u64),.bool,(.int .u64),(.int .u64)] τ2),oD 10 (.callF 198 [τ9]),oD 11 (.not XcV),oM 8 XcT]) (.cond τ8 (.seq (.reg [oD 4 (.mv (.const (.string ⟨⟨[]⟩⟩))),oD 5 (.mv (.const (.int .i64 1)))]) .ret) (.seq (.reg [oM 13 τ1,oD 14 (.lenS Xd0),oD 15 (.bin .gtr Xey (.const (.int .i64 65535))),oM 12 Xep]) (.cond Xdu (.seq (.reg [oD 4 (.mv (.const (.string ⟨⟨[]⟩⟩))),oD 5 (.mv (.const (.int .i64 5)))]) .ret) .skip))))) (.seq (.reg [oD 16 (.fieldA 0 τ2),oD 17 (.load1 (.int .i64) XeG),oD 18 (.conv .u64 Xer),oD 19 (.bin .shl XeT (.const (.int .u64 20))),oD 20 (.bin .or (.const (.int .u64 1610612736)) XeP),oD 21 (.fieldA 1 τ2),oD 22 (.load1 (.int .i64) Xfw),oD 23 (.conv .u64 Xfs),oD 24 (.bin .or Xe8 Xfu),oD 25 (.callF 97 [XfS,(.const (.int .i64 4))]),oM 6 Xgf]) (.seq (.reg [oM 26 τ1,oD 27 (.lenS Xgm),oD 28 (.conv .u64 Xgr),oD 29 (.bin .shl Xgk (.const (.int .u64 16))),oD 30 (.fieldA 2 τ2),oD 31 (.load1 (.int .i64) XgA),oD 32 (.conv .u64 XgP),oD 33 (.bin .shl Xg4 (.const (.int .u64 8))),oD 34 (.bin .or Xgj Xg9),oD 35 (.fieldA 3 τ2),oD 36 (.load1 (.int .i64) Xhq),oD 37 (.conv .u64 XhU),oD 38 (.bin .or Xhe XhQ),oD 39 (.callF 97 [Xii,(.const (.int .i64 4))]),oM 7 XiV]) (.seq XKB .ret))))
def XSm:VFn:=⟨53,XBt,[.tmp 4,.tmp 5]⟩
def Xx6:VC:=.seq (.reg [oD 1 (.box τ0),oD 2 (.mv (.const (.bool false)))]) (.seq (.seq (.reg [oD 5 (.fieldA 0 τ1),oD 6 (.load1 (.int .i64) τ5),oD 7 (.build [(.int .i64 0),(.int .i64 0)] [(0,1,τ6),(1,1,(.const (.int .i64 255)))]),oD 8 (.fieldA 1 τ1),oD 9 (.load1 (.int .i64) τ8),oD 10 (.build [(.int .i64 0),(.int .i64 0)] [(0,1,τ9),(1,1,(.const (.int .i64 1048575)))]),oD 11 (.fieldA 2 τ1),oD 12 (.load1 (.int .i64) XcT),oD 13 (.build [(.int .i64 0),(.int .i64 0)] [(0,1,Xdu),(1,1,(.const (.int .i64 255)))]),oD 14 (.fieldA 3 τ1),oD 15 (.load1 (.int .i64) Xey),oD 16 (.build [(.int .i64 0),(.int .i64 0)] [(0,1,Xep),(1,1,(.const (.int .i64 255)))]),oD 17 (.buildSl 4 2 [(.int .i64 0),(.int .i64 0),(.int .i64 0),(.int .i64 0),(.int .i64 0),(.int .i64 0),(.int .i64 0),(.int .i64 0)] [(0,2,τ7),(2,2,XcV),(4,2,Xd0),(6,2,XeG)]),oD 18 (.lenL Xer),oD 19 (.mv (.const (.int .i64 0)))]) (.block 0 (.loop (.seq (.reg [oD 20 (.bin .lss XeP XeT)]) (.seq (.cond Xe8 .skip (.exit 0)) (.seq (.block 1 (.seq (.reg [oD 21 (.idxAL 2 Xer XeP),oD 22 (.loadN [(.int .i64),(.int .i64)] Xfw),oD 4 (.alloc [(.int .i64 0),(.int .i64 0)]),oN (.store 2 τ4 Xfs)]) (.seq (.reg [oD 23 (.idxAA 2 1 τ4 (.const (.int .i64 0))),oD 24 (.load1 (.int .i64) Xfu),oD 25 (.bin .lss XfS (.const (.int .i64 0))),oM 26 Xgf,oG 27 (.idxAA 2 1 τ4 (.const (.int .i64 0))) 26 false,oG 28 (.load1 (.int .i64) Xgr) 26 false,oG 29 (.idxAA 2 1 τ4 (.const (.int .i64 1))) 26 false,oG 30 (.load1 (.int .i64) Xgj) 26 false,oG 31 (.bin .gtr Xgk XgA) 26 false,oD 32 (.pick Xgm (.const (.bool true)) XgP)]) (.cond Xg4 (.seq (.reg [oD 2 (.mv (.const (.bool false)))]) .ret) .skip)))) (.reg [oD 33 (.bin .add XeP (.const (.int .i64 1))),oM 19 Xg9]))))))) (.seq (.reg [oD 34 (.fieldA 4 τ1),oD 35 (.fieldA 0 Xhe),oD 36 (.load1 .bool Xhq),oM 37 XhU,oG 38 (.fieldA 7 τ1) 37 true,oG 39 (.fieldA 0 Xii) 37 true,oG 40 (.load1 .bool XiV) 37 true,oD 41 (.pick XhQ Xi5 (.const (.bool false))),oM 2 Xjk]) .ret))
def XVR:VFn:=⟨42,Xx6,[.tmp 2]⟩
def XPr:VC:=.regD [oM 43 τ8,oD 44 (.fieldA 5 τ2),oD 45 (.loadN [.bool,(.int .u64),(.int .u64)] XjM),oD 46 (.callF 195 [XjL]),oD 47 (.fieldA 8 τ2),oD 48 (.loadN [.bool,(.int .u64),(.int .u64)] Xka),oD 49 (.callF 195 [Xkd]),oD 50 (.bin .add Xkc Xke),oD 51 (.fieldA 11 τ2),oD 52 (.load1 .str Xla),oD 53 (.bin .add XkP Xlc)] [(3,5),(3,9),(6,9)] [oD 54 (.bin .add Xi6 Xmp),oM 8 Xm5]
def XBa:VC:=.seq (.reg [oD 2 (.box τ0),oD 4 (.mv (.const (.string ⟨⟨[]⟩⟩))),oD 5 (.mv (.const (.int .i64 0)))]) (.seq (.reg [oD 9 (.fieldA 11 τ2),oD 10 (.load1 .str τ9),oD 11 (.lenS XcV),oD 12 (.bin .add (.const (.int .i64 20)) XcT),oM 6 Xdu]) (.seq (.block 0 (.seq (.reg [oD 14 (.loadN [(.int .i64),(.int .i64),.bool,(.int .i64),(.int .i64),.bool,(.int .u64),(.int .u64),.bool,(.int .u64),(.int .u64),.str] τ2),oD 15 (.callF 199 [Xey]),oD 16 (.not Xep),oM 13 XeG]) (.cond Xd0 (.seq (.reg [oD 4 (.mv (.const (.string ⟨⟨[]⟩⟩))),oD 5 (.mv (.const (.int .i64 1)))]) .ret) (.seq (.reg [oM 18 τ1,oD 19 (.lenS XeT),oM 20 τ6,oD 21 (.bin .sub (.const (.int .i64 65535)) Xe8),oD 22 (.bin .gtr XeP Xfw),oM 17 Xfs]) (.cond Xer (.seq (.reg [oD 4 (.mv (.const (.string ⟨⟨[]⟩⟩))),oD 5 (.mv (.const (.int .i64 5)))]) .ret) .skip))))) (.seq (.reg [oD 7 (.mv (.const (.int .i64 0)))]) (.seq (.seq (.reg [oD 23 (.fieldA 2 τ2),oD 24 (.load1 .bool Xfu)]) (.cond XfS (.reg [oD 7 (.mv (.const (.int .i64 64)))]) .skip)) (.seq (.reg [oM 25 τ6,oD 26 (.bin .quo Xgf (.const (.int .i64 4))),oD 27 (.bin .or (.const (.int .i64 64)) Xgm),oD 28 (.fieldA 0 τ2),oD 29 (.load1 (.int .i64) Xgk),oM 30 τ6,oM 31 τ1,oD 32 (.lenS XgP),oD 33 (.bin .add XgA Xg4),oD 34 (.fieldA 1 τ2),oD 35 (.load1 (.int .i64) Xhe),oM 36 τ7,oD 37 (.fieldA 3 τ2),oD 38 (.load1 (.int .i64) XhQ),oD 39 (.fieldA 4 τ2),oD 40 (.load1 (.int .i64) XiV),oD 41 (.buildSl 18 1 [(.int .i64 0),(.int .i64 0),(.int .i64 0),(.int .i64 0),(.int .i64 0),(.int .i64 0),(.int .i64 0),(.int .i64 0),(.int .i64 0),(.int .i64 0),(.int .i64 0),(.int .i64 0),(.int .i64 0),(.int .i64 0),(.int .i64 0),(.int .i64 0),(.int .i64 0),(.int .i64 0)] [(0,1,Xgr),(1,1,(.const (.int .i64 1))),(2,1,Xgj),(3,1,(.const (.int .i64 1))),(4,1,Xg9),(5,1,(.const (.int .i64 2))),(6,1,Xhq),(7,1,(.const (.int .i64 2))),(8,1,XhU),(9,1,(.const (.int .i64 1))),(10,1,(.const (.int .i64 0))),(11,1,(.const (.int .i64 1))),(12,1,Xii),(13,1,(.const (.int .i64 1))),(14,1,Xi5),(15,1,(.const (.int .i64 1))),(16,1,(.const (.int .i64 0))),(17,1,(.const (.int .i64 2)))]),oD 42 (.callF 196 [Xjk]),oM 8 XiS]) (.seq XPr (.seq (.reg [oM 55 τ8,oM 56 τ8,oD 57 (.callF 183 [Xm3]),oD 58 (.conv .u64 XmT),oD 59 (.callF 98 [XmG,(.const (.int .i64 10)),(.const (.int .i64 2)),XmS]),oM 60 τ1,oD 61 (.bin .add Xny Xoo),oM 4 Xn6,oD 5 (.mv (.const (.int .i64 0)))]) .ret)))))))
def XR8:VFn:=⟨62,XBa,[.tmp 4,.tmp 5]⟩
def XH5:VC:=.seq (.reg [oD 1 (.box τ0),oD 2 (.mv (.const (.bool false)))]) (.seq (.seq (.reg [oD 3 (.fieldA 0 τ1),oD 4 (.load1 (.int .i64) τ3),oD 5 (.callF 203 [τ4,(.const (.int .i64 255))]),oD 6 (.not τ5),oM 7 τ6,oG 8 (.fieldA 1 τ1) 7 false,oG 9 (.load1 (.int .i64) τ8) 7 false,oG 10 (.callF 203 [τ9,(.const (.int .i64 65535))]) 7 false,oG 11 (.not XcV) 7 false,oD 12 (.pick τ7 (.const (.bool true)) XcT),oM 13 Xdu,oG 14 (.fieldA 3 τ1) 13 false,oG 15 (.load1 (.int .i64) Xey) 13 false,oG 16 (.callF 203 [Xep,(.const (.int .i64 255))]) 13 false,oG 17 (.not XeG) 13 false,oD 18 (.pick Xd0 (.const (.bool true)) Xer),oM 19 XeT,oG 20 (.fieldA 4 τ1) 19 false,oG 21 (.load1 (.int .i64) Xe8) 19 false,oG 22 (.callF 203 [Xfw,(.const (.int .i64 255))]) 19 false,oG 23 (.not Xfs) 19 false,oD 24 (.pick XeP (.const (.bool true)) Xfu)]) (.cond XfS (.seq (.reg [oD 2 (.mv (.const (.bool false)))]) .ret) .skip)) (.seq (.reg [oD 25 (.fieldA 5 τ1),oD 26 (.loadN [.bool,(.int .u64),(.int .u64)] Xgf),oD 27 (.callF 204 [Xgm]),oM 28 Xgr,oG 29 (.fieldA 8 τ1) 28 true,oG 30 (.loadN [.bool,(.int .u64),(.int .u64)] Xgj) 28 true,oG 31 (.callF 204 [XgA]) 28 true,oD 32 (.pick Xgk XgP (.const (.bool false))),oM 33 Xg4,oG 34 (.fieldA 11 τ1) 33 true,oG 35 (.load1 .str Xhe) 33 true,oG 36 (.lenS Xhq) 33 true,oG 37 (.bin .rem XhU (.const (.int .i64 4))) 33 true,oG 38 (.bin .eql XhQ (.const (.int .i64 0))) 33 true,oD 39 (.pick Xg9 Xii (.const (.bool false))),oM 40 XiV,oG 41 (.fieldA 11 τ1) 40 true,oG 42 (.load1 .str Xjk) 40 true,oG 43 (.lenS XiS) 40 true,oG 44 (.bin .leq Xi6 (.const (.int .i64 40))) 40 true,oD 45 (.pick Xi5 XjM (.const (.bool false))),oM 2 XjL]) .ret))
def XSR:VFn:=⟨46,XH5,[.tmp 2]⟩
def XIa:VC:=.seq (.reg [oD 4 (.mv (.const (.bool false)))]) (.seq (.reg [oM 5 τ0,oD 6 (.bin .leq (.const (.int .i64 0)) τ5),oM 7 τ6,oG 8 (.mv τ0) 7 true,oG 9 (.mv τ1) 7 true,oG 10 (.bin .leq τ8 τ9) 7 true,oD 11 (.pick τ7 XcV (.const (.bool false))),oM 4 XcT]) .ret)
def XSZ:VFn:=⟨12,XIa,[.tmp 4]⟩
def XJc:VC:=.seq (.reg [oD 1 (.box τ0),oD 2 (.mv (.const (.bool false)))]) (.seq (.reg [oD 3 (.fieldA 0 τ1),oD 4 (.load1 .bool τ3),oD 5 (.not τ4),oM 6 τ5,oG 7 (.loadN [.bool,(.int .u64),(.int .u64)] τ1) 6 true,oG 8 (.callF 110 [τ7]) 6 true,oD 9 (.pick τ6 τ8 (.const (.bool false))),oM 2 τ9]) .ret)
def XUX:VFn:=⟨10,XJc,[.tmp 2]⟩
def XTK:VC:=.regD [oM 8 τ0,oD 9 (.nilCheck τ8),oD 10 (.fieldA 0 τ9),oD 11 (.loadN [(.int .i64),.bool,(.int .u64),(.int .u64),.bool,(.int .u64),(.int .u64),(.int .i64),(.int .i64)] XcV),oM 12 τ1,oM 13 τ0,oD 14 (.nilCheck Xd0),oD 15 (.fieldA 12 Xey),oD 16 (.load1 (.int .u32) Xep),oM 17 τ0,oD 18 (.nilCheck Xer),oD 19 (.fieldA 13 XeT),oD 20 (.load1 (.int .u32) XeP),oD 21 (.callF 119 [XeG,Xe8]),oM 22 τ2,oD 23 (.callF 118 [XcT,Xdu,Xfw,Xfs]),oE 24 0 Xfu,oE 25 1 Xfu] [(3,13)] [oM 6 XfS,oM 7 Xgf]
def XIp:VC:=.seq (.reg [oD 6 (.mv (.const (.string ⟨⟨[]⟩⟩))),oD 7 (.mv (.const (.int .i64 0)))]) (.seq XTK .ret)
def XVc:VFn:=⟨26,XIp,[.tmp 6,.tmp 7]⟩
def XIu:VC:=.seq (.reg [oD 5 (.box τ2)]) (.seq (.reg [oD 6 (.fieldA 10 τ5),oD 7 (.load1 .bool τ6)]) (.cond τ7 (.reg [oM 8 τ0,oD 9 (.fieldA 11 τ5),oD 10 (.load1 (.int .u32) τ9),oD 11 (.nilCheck τ8),oD 12 (.fieldA 13 XcT),oN (.store 1 Xdu XcV)]) .skip))
def XUM:VFn:=⟨13,XIu,[]⟩
def k70_3:VC:=.seq (.reg [oD 0 (.alloc [.nilFunc,.nilFunc,.nilFunc])]) (.seq (.reg [oD 1 (.build [.nilFunc,.nilFunc,.nilFunc] [(0,1,(.func 122)),(1,1,(.func 124)),(2,1,(.func 125))]),oN (.store 3 τ0 τ1)]) .ret)
def fn70:VFn:=⟨2,k70_3,[.cell 0 [.oth,.oth,.oth] true]⟩
def XSS:VC:=.regD [oM 4 τ0,oD 5 (.nilCheck τ4),oD 6 (.fieldA 0 τ5),oD 7 (.loadN [(.int .i64),.bool,(.int .u64),(.int .u64),.bool,(.int .u64),(.int .u64),(.int .i64),(.int .i64)] τ6),oD 8 (.callF 68 [(.const (.string ⟨⟨[0]⟩⟩)),(.const (.int .i64 8))]),oD 9 (.build [(.bool false),(.int .i64 0),(.int .u32 0),(.string ⟨⟨[]⟩⟩),(.string ⟨⟨[]⟩⟩),(.string ⟨⟨[]⟩⟩)] [(0,1,(.const (.bool true))),(2,1,(.const (.int .u32 1))),(3,1,τ8),(4,1,(.const (.string ⟨⟨[0,0]⟩⟩)))]),oD 10 (.callF 123 [τ7,τ9]),oE 11 0 XcV,oE 12 1 XcV] [(3,4)] [oM 2 XcT,oM 3 Xdu]
def XIt:VC:=.seq (.reg [oD 2 (.mv (.const (.string ⟨⟨[]⟩⟩))),oD 3 (.mv (.const (.int .i64 0)))]) (.seq XSS .ret)
def XRR:VFn:=⟨13,XIt,[.tmp 2,.tmp 3]⟩
def XBq:VC:=.seq (.reg [oD 2 (.box τ0),oD 3 (.box τ1),oD 4 (.mv (.const (.string ⟨⟨[]⟩⟩))),oD 5 (.mv (.const (.int .i64 0)))]) (.seq (.reg [oD 9 (.loadN [.bool,(.int .i64),(.int .u32),.str,.str,.str] τ3),oD 10 (.callF 162 [τ9]),oM 8 XcV,oE 11 0 τ8,oE 12 1 τ8,oM 6 XcT,oM 7 Xdu]) (.seq (.seq (.reg [oM 13 τ7,oD 14 (.bin .neq Xd0 (.const (.int .i64 0)))]) (.cond Xey (.seq (.reg [oM 15 τ7,oD 4 (.mv (.const (.string ⟨⟨[]⟩⟩))),oM 5 Xep]) .ret) .skip)) (.seq (.reg [oD 16 (.loadN [(.int .i64),.bool,(.int .u64),(.int .u64),.bool,(.int .u64),(.int .u64),(.int .i64),(.int .i64)] τ2),oM 17 τ6,oD 18 (.callF 163 [XeG,Xer]),oE 19 0 XeT,oE 20 1 XeT,oM 4 XeP,oM 5 Xe8]) .ret)))
def XQr:VFn:=⟨21,XBq,[.tmp 4,.tmp 5]⟩
def XUy:VC:=.regD [oD 11 (.fieldA 1 τ1),oD 12 (.load1 (.int .i64) XcT),oD 13 (.bin .or (.const (.int .i64 192)) Xdu),oD 14 (.conv .u64 Xd0),oD 15 (.callF 97 [Xey,(.const (.int .i64 1))]),oD 16 (.fieldA 2 τ1),oD 17 (.load1 (.int .u32) XeG),oD 18 (.conv .u64 Xer),oD 19 (.callF 97 [XeT,(.const (.int .i64 4))]),oD 20 (.bin .add Xep XeP),oD 21 (.fieldA 3 τ1),oD 22 (.load1 .str Xfw),oD 23 (.callF 187 [Xfs]),oD 24 (.bin .add Xe8 Xfu),oD 25 (.fieldA 4 τ1),oD 26 (.load1 .str Xgf),oD 27 (.callF 187 [Xgm]),oD 28 (.bin .add XfS Xgr),oD 29 (.fieldA 5 τ1),oD 30 (.load1 .str Xgj)] [(4,6),(4,11),(4,15),(4,19),(8,11),(8,15),(8,19),(12,15),(12,19),(16,19)] [oD 31 (.bin .add Xgk XgA),oM 2 XgP,oD 3 (.mv (.const (.int .i64 0)))]
def XMs:VC:=.regD [oD 32 (.fieldA 1 τ1),oD 33 (.load1 (.int .i64) Xg4),oD 34 (.bin .or (.const (.int .i64 64)) Xg9),oD 35 (.conv .u64 Xhe),oD 36 (.callF 97 [Xhq,(.const (.int .i64 1))]),oD 37 (.fieldA 3 τ1),oD 38 (.load1 .str XhQ),oD 39 (.bin .add XhU Xii),oD 40 (.fieldA 5 τ1),oD 41 (.load1 .str Xi5)] [(4,6),(4,9)] [oD 42 (.bin .add XiV Xjk),oM 2 XiS,oD 3 (.mv (.const (.int .i64 0)))]
def XBs:VC:=.seq (.reg [oD 1 (.box τ0),oD 2 (.mv (.const (.string ⟨⟨[]⟩⟩))),oD 3 (.mv (.const (.int .i64 0)))]) (.seq (.block 0 (.seq (.reg [oD 5 (.loadN [.bool,(.int .i64),(.int .u32),.str,.str,.str] τ1),oD 6 (.callF 186 [τ5]),oD 7 (.not τ6),oM 4 τ7]) (.cond τ4 (.seq (.reg [oD 2 (.mv (.const (.string ⟨⟨[]⟩⟩))),oD 3 (.mv (.const (.int .i64 1)))]) .ret) (.seq (.reg [oD 9 (.fieldA 0 τ1),oD 10 (.load1 .bool τ9),oM 8 XcV]) (.cond τ8 (.seq XUy .ret) .skip))))) (.seq XMs .ret))
def XSG:VFn:=⟨43,XBs,[.tmp 2,.tmp 3]⟩
def XyP:VC:=.seq (.reg [oD 1 (.box τ0),oD 2 (.mv (.const (.bool false)))]) (.seq (.seq (.reg [oD 3 (.fieldA 1 τ1),oD 4 (.load1 (.int .i64) τ3),oD 5 (.bin .lss τ4 (.const (.int .i64 0))),oM 6 τ5,oG 7 (.fieldA 1 τ1) 6 false,oG 8 (.load1 (.int .i64) τ7) 6 false,oG 9 (.bin .geq τ8 (.const (.int .i64 64))) 6 false,oD 10 (.pick τ6 (.const (.bool true)) τ9)]) (.cond XcV (.seq (.reg [oD 2 (.mv (.const (.bool false)))]) .ret) .skip)) (.seq (.seq (.reg [oD 11 (.fieldA 0 τ1),oD 12 (.load1 .bool XcT)]) (.cond Xdu (.seq (.reg [oD 13 (.fieldA 3 τ1),oD 14 (.load1 .str Xd0),oD 15 (.lenS Xey),oD 16 (.fieldA 4 τ1),oD 17 (.load1 .str XeG),oD 18 (.lenS Xer),oD 19 (.minmax true [Xep,XeT]),oD 20 (.bin .leq XeP (.const (.int .i64 20))),oM 2 Xe8]) .ret) .skip)) (.seq (.reg [oD 21 (.fieldA 3 τ1),oD 22 (.load1 .str Xfw),oD 23 (.lenS Xfs),oD 24 (.bin .eql Xfu (.const (.int .i64 8))),oM 25 XfS,oG 26 (.fieldA 4 τ1) 25 true,oG 27 (.load1 .str Xgm) 25 true,oG 28 (.bin .eql Xgr (.const (.string ⟨⟨[]⟩⟩))) 25 true,oD 29 (.pick Xgf Xgk (.const (.bool false))),oM 30 Xgj,oG 31 (.fieldA 2 τ1) 30 true,oG 32 (.load1 (.int .u32) XgP) 30 true,oG 33 (.bin .eql Xg4 (.const (.int .u32 0))) 30 true,oD 34 (.pick XgA Xg9 (.const (.bool false))),oM 2 Xhe]) .ret)))
def XUc:VFn:=⟨35,XyP,[.tmp 2]⟩
def XI3:VC:=.seq (.reg [oD 2 (.mv (.const (.string ⟨⟨[]⟩⟩)))]) (.seq (.reg [oM 3 τ0,oD 4 (.lenS τ3),oD 5 (.conv .u64 τ4),oD 6 (.callF 97 [τ5,(.const (.int .i64 1))]),oM 7 τ0,oD 8 (.bin .add τ6 τ7),oM 2 τ8]) .ret)
def XQ5:VFn:=⟨9,XI3,[.tmp 2]⟩
def Xyl:VC:=.seq (.reg [oD 2 (.box τ0),oD 4 (.mv (.const (.string ⟨⟨[]⟩⟩))),oD 5 (.mv (.const (.int .i64 0)))]) (.seq (.seq (.reg [oD 8 (.fieldA 0 τ2),oD 9 (.load1 (.int .i64) τ8),oD 10 (.bin .neq τ9 (.const (.int .i64 17)))]) (.cond XcV (.seq (.reg [oD 4 (.mv (.const (.string ⟨⟨[]⟩⟩))),oD 5 (.mv (.const (.int .i64 1)))]) .ret) .skip)) (.seq (.reg [oD 12 (.fieldA 7 τ2),oD 13 (.load1 (.int .i64) Xdu),oD 14 (.fieldA 8 τ2),oD 15 (.load1 (.int .i64) Xey),oD 16 (.build [(.int .i64 0),(.int .i64 0)] [(0,1,Xd0),(1,1,Xep)]),oD 17 (.fieldA 1 τ2),oD 18 (.loadN [.bool,(.int .u64),(.int .u64)] Xer),oD 19 (.fieldA 4 τ2),oD 20 (.loadN [.bool,(.int .u64),(.int .u64)] XeP),oM 21 τ1,oD 22 (.callF 188 [XeG,XeT,Xe8,Xfw]),oM 11 Xfs,oE 23 0 XcT,oE 24 1 XcT,oM 6 Xfu,oM 7 XfS]) (.seq (.seq (.reg [oM 25 τ7,oD 26 (.bin .neq Xgf (.const (.int .i64 0)))]) (.cond Xgm (.seq (.reg [oM 27 τ7,oD 4 (.mv (.const (.string ⟨⟨[]⟩⟩))),oM 5 Xgr]) .ret) .skip)) (.seq (.reg [oD 28 (.loadN [(.int .i64),.bool,(.int .u64),(.int .u64),.bool,(.int .u64),(.int .u64),(.int .i64),(.int .i64)] τ2),oM 29 τ6,oD 30 (.callF 161 [Xgk,Xgj]),oE 31 0 XgA,oE 32 1 XgA,oM 4 XgP,oM 5 Xg4]) .ret))))
def XV2:VFn:=⟨33,Xyl,[.tmp 4,.tmp 5]⟩
def XtU:VC:=.seq (.reg [oD 49 (.bin .lss Xkd (.const (.int .i64 4)))]) (.seq (.cond Xke .skip (.exit 1)) (.seq (.block 2 (.seq (.reg [oD 50 (.idxV1 4 Xka Xkd),oM 14 XkP]) (.reg [oM 51 Xey,oD 52 (.conv .u64 Xla),oD 53 (.callF 97 [Xlc,(.const (.int .i64 2))]),oD 54 (.callF 114 [Xdu,Xmp])]))) (.reg [oD 55 (.bin .add Xkd (.const (.int .i64 1))),oM 48 XmG])))
def Xzi:VC:=.seq (.reg [oM 56 τ3,oD 57 (.callF 114 [Xdu,Xm3])]) (.seq (.reg [oD 58 (.callF 116 [Xdu]),oM 15 XmS]) (.seq (.reg [oM 59 XcT,oM 60 Xep,oD 61 (.bin .add Xny Xoo),oD 62 (.callF 183 [Xn6]),oM 16 XoS]) (.seq (.seq (.reg [oM 63 XeG,oD 64 (.bin .eql Xqr (.const (.int .i64 0)))]) (.cond Xqq (.reg [oD 16 (.mv (.const (.int .i64 65535)))]) .skip)) (.seq (.reg [oM 65 Xep,oM 66 XeG,oD 67 (.conv .u64 XqT),oD 68 (.callF 98 [XqZ,(.const (.int .i64 6)),(.const (.int .i64 2)),Xqx]),oM 8 Xqs,oD 9 (.mv (.const (.int .i64 0)))]) .ret))))
def Xy3:VC:=.seq (.reg [oD 4 (.box τ0),oD 5 (.box τ1),oD 6 (.box τ2),oD 8 (.mv (.const (.string ⟨⟨[]⟩⟩))),oD 9 (.mv (.const (.int .i64 0)))]) (.seq (.reg [oM 17 τ3,oD 18 (.lenS Xer),oD 19 (.bin .add (.const (.int .i64 8)) XeT),oM 10 XeP]) (.seq (.reg [oD 20 (.loadN [.bool,(.int .u64),(.int .u64)] τ5),oD 21 (.loadN [.bool,(.int .u64),(.int .u64)] τ6),oM 22 XcV,oD 23 (.callF 180 [Xe8,Xfw,(.const (.int .i64 17)),Xfs]),oM 11 Xfu]) (.seq (.block 0 (.seq (.reg [oD 25 (.fieldA 0 τ4),oD 26 (.load1 (.int .i64) Xgf),oD 27 (.callF 200 [Xgm]),oD 28 (.not Xgr),oM 29 Xgk,oG 30 (.fieldA 1 τ4) 29 false,oG 31 (.load1 (.int .i64) XgA) 29 false,oG 32 (.callF 200 [XgP]) 29 false,oG 33 (.not Xg4) 29 false,oD 34 (.pick Xgj (.const (.bool true)) Xg9),oM 35 Xhe,oG 36 (.mv XcT) 35 false,oG 37 (.bin .eql XhU (.const (.string ⟨⟨[]⟩⟩))) 35 false,oD 38 (.pick Xhq (.const (.bool true)) XhQ),oM 24 Xii]) (.cond XfS (.seq (.reg [oD 8 (.mv (.const (.string ⟨⟨[]⟩⟩))),oD 9 (.mv (.const (.int .i64 1)))]) .ret) (.seq (.reg [oM 40 XcV,oD 41 (.bin .gtr Xi5 (.const (.int .i64 65535))),oM 39 Xjk]) (.cond XiV (.seq (.reg [oD 8 (.mv (.const (.string ⟨⟨[]⟩⟩))),oD 9 (.mv (.const (.int .i64 5)))]) .ret) .skip))))) (.seq (.reg [oD 12 (.allocB 171 5)]) (.seq (.seq (.reg [oD 42 (.fieldA 0 τ4),oD 43 (.load1 (.int .i64) XiS),oD 44 (.fieldA 1 τ4),oD 45 (.load1 (.int .i64) XjM),oM 46 XcV,oD 47 (.build [(.int .i64 0),(.int .i64 0),(.int .i64 0),(.int .i64 0)] [(0,1,Xi6),(1,1,XjL),(2,1,Xkc),(3,1,(.const (.int .i64 0)))]),oD 48 (.mv (.const (.int .i64 0)))]) (.block 1 (.loop XtU))) Xzi)))))
def XT1:VFn:=⟨69,Xy3,[.tmp 8,.tmp 9]⟩
def XIP:VC:=.seq (.reg [oD 2 (.mv (.const (.bool false)))]) (.seq (.reg [oM 3 τ0,oD 4 (.bin .leq (.const (.int .i64 0)) τ3),oM 5 τ4,oG 6 (.mv τ0) 5 true,oG 7 (.bin .leq τ6 (.const (.int .i64 65535))) 5 true,oD 8 (.pick τ5 τ7 (.const (.bool false))),oM 2 τ8]) .ret)
def XUt:VFn:=⟨9,XIP,[.tmp 2]⟩
def XUR:VC:=.regD [oM 8 τ0,oD 9 (.nilCheck τ8),oD 10 (.fieldA 0 τ9),oD 11 (.loadN [(.int .i64),.bool,(.int .u64),(.int .u64),.bool,(.int .u64),(.int .u64),(.int .i64),(.int .i64)] XcV),oM 12 τ0,oD 13 (.nilCheck Xdu),oD 14 (.fieldA 14 Xd0),oD 15 (.load1 .str Xey),oM 16 τ2,oD 17 (.build [(.bool false),(.int .i64 0),(.int .u32 0),(.string ⟨⟨[]⟩⟩),(.string ⟨⟨[]⟩⟩),(.string ⟨⟨[]⟩⟩)] [(3,1,Xep),(5,1,XeG)]),oD 18 (.callF 123 [XcT,Xer]),oE 19 0 XeT,oE 20 1 XeT] [] [oM 6 XeP,oM 7 Xe8]
def XJf:VC:=.seq (.reg [oD 6 (.mv (.const (.string ⟨⟨[]⟩⟩))),oD 7 (.mv (.const (.int .i64 0)))]) (.seq XUR .ret)
def XWL:VFn:=⟨21,XJf,[.tmp 6,.tmp 7]⟩
def XI8:VC:=.seq (.reg [oD 5 (.box τ2)]) (.seq (.reg [oM 12 τ1,oD 13 (.callF 93 [Xdu]),oM 11 Xd0,oE 14 0 XcT,oE 15 1 XcT,oE 16 2 XcT,oM 6 Xey,oM 7 Xep,oM 8 XeG]) (.seq (.reg [oM 18 τ1,oM 19 τ7,oD 20 (.sliceS XeT (some XeP) none),oD 21 (.callF 94 [Xe8]),oM 17 Xfw,oE 22 0 Xer,oE 23 1 Xer,oD 9 (.alloc [(.bool false),(.int .i64 0),(.int .u32 0),(.string ⟨⟨[]⟩⟩),(.string ⟨⟨[]⟩⟩),(.string ⟨⟨[]⟩⟩)]),oN (.store 6 τ9 Xfs),oM 10 Xfu]) (.seq (.reg [oM 24 XcV,oD 25 (.bin .eql XfS (.const (.int .i64 0))),oM 26 Xgf,oG 27 (.fieldA 0 τ9) 26 true,oG 28 (.load1 .bool Xgr) 26 true,oD 29 (.pick Xgm Xgk (.const (.bool false))),oM 30 Xgj,oG 31 (.fieldA 4 τ9) 30 true,oG 32 (.load1 .str XgP) 30 true,oG 33 (.lenS Xg4) 30 true,oG 34 (.bin .eql Xg9 (.const (.int .i64 8))) 30 true,oD 35 (.pick XgA Xhe (.const (.bool false)))]) (.cond Xhq (.reg [oM 36 τ0,oD 37 (.fieldA 4 τ9),oD 38 (.load1 .str XhQ),oD 39 (.nilCheck XhU),oD 40 (.fieldA 14 XiV),oN (.store 1 Xi5 Xii)]) .skip))))
def XRS:VFn:=⟨41,XI8,[]⟩
def XHZ:VC:=.seq (.reg [oD 2 (.mv (.const (.int .i64 0))),oD 3 (.mv (.const (.int .i64 0))),oD 4 (.mv (.const (.int .i64 0)))]) (.seq (.reg [oM 10 τ0,oD 11 (.callF 81 [XcV]),oM 9 XcT,oE 12 0 τ9,oE 13 1 τ9,oE 14 2 τ9,oE 15 3 τ9,oD 5 (.alloc [(.int .i64 0),(.bool false),(.int .u64 0),(.int .u64 0),(.bool false),(.int .u64 0),(.int .u64 0),(.int .i64 0),(.int .i64 0),(.int .i64 0),(.bool false),(.int .u32 0),(.int .u32 0),(.bool false),(.string ⟨⟨[]⟩⟩),(.int .i64 0)]),oN (.store 16 τ5 Xdu),oM 6 Xd0,oM 7 Xey,oM 8 Xep]) (.seq (.seq (.reg [oM 16 τ8,oD 17 (.bin .neq XeG (.const (.int .i64 0)))]) (.cond Xer (.seq (.reg [oM 18 τ8,oD 2 (.mv (.const (.int .i64 0))),oD 3 (.mv (.const (.int .i64 0))),oM 4 XeT]) .ret) .skip)) (.seq (.reg [oM 19 τ0,oD 20 (.lenS XeP),oM 21 τ6,oD 22 (.bin .sub Xe8 Xfw),oM 23 τ0,oD 24 (.lenS Xfu),oM 25 τ7,oD 26 (.bin .sub XfS Xgf),oM 2 Xfs,oM 3 Xgm,oD 4 (.mv (.const (.int .i64 0)))]) .ret)))
def fn93:VFn:=⟨27,XHZ,[.tmp 2,.tmp 3,.tmp 4]⟩
def XUr:VC:=.regD [oD 58 (.loadN [(.int .i64),.bool,(.int .u64),(.int .u64),.bool,(.int .u64),(.int .u64),(.int .i64),(.int .i64),(.int .i64),.bool,(.int .u32),(.int .u32),.bool,.str,(.int .i64)] τ8),oD 59 (.fieldA 7 τ6),oD 60 (.load1 .str Xny),oD 61 (.lenS Xoo),oM 62 τ9,oN (.store 16 τ2 XmS),oM 3 Xn6] [(2,5)] [oM 4 XoS,oD 5 (.mv (.const (.int .i64 0)))]
def XJj:VC:=.seq (.reg [oD 2 (.alloc [(.int .i64 0),(.bool false),(.int .u64 0),(.int .u64 0),(.bool false),(.int .u64 0),(.int .u64 0),(.int .i64 0),(.int .i64 0),(.int .i64 0),(.bool false),(.int .u32 0),(.int .u32 0),(.bool false),(.string ⟨⟨[]⟩⟩),(.int .i64 0)]),oD 3 (.mv (.const (.int .i64 0))),oD 4 (.mv (.const (.int .i64 0))),oD 5 (.mv (.const (.int .i64 0)))]) (.seq (.block 0 (.seq (.reg [oM 11 τ0,oD 12 (.lenS XcT),oD 13 (.bin .gtr Xdu (.const (.int .i64 9000))),oM 10 Xd0]) (.cond XcV (.seq (.reg [oD 14 (.build [(.int .i64 0),(.bool false),(.int .u64 0),(.int .u64 0),(.bool false),(.int .u64 0),(.int .u64 0),(.int .i64 0),(.int .i64 0),(.int .i64 0),(.bool false),(.int .u32 0),(.int .u32 0),(.bool false),(.string ⟨⟨[]⟩⟩),(.int .i64 0)] []),oN (.store 16 τ2 Xey),oD 3 (.mv (.const (.int .i64 0))),oD 4 (.mv (.const (.int .i64 0))),oD 5 (.mv (.const (.int .i64 5)))]) .ret) (.seq (.reg [oM 16 τ0,oD 17 (.bin .eql XeG (.const (.string ⟨⟨[]⟩⟩))),oM 15 Xer]) (.cond Xep (.seq (.reg [oD 18 (.build [(.int .i64 0),(.bool false),(.int .u64 0),(.int .u64 0),(.bool false),(.int .u64 0),(.int .u64 0),(.int .i64 0),(.int .i64 0),(.int .i64 0),(.bool false),(.int .u32 0),(.int .u32 0),(.bool false),(.string ⟨⟨[]⟩⟩),(.int .i64 0)] []),oN (.store 16 τ2 XeT),oD 3 (.mv (.const (.int .i64 0))),oD 4 (.mv (.const (.int .i64 0))),oD 5 (.mv (.const (.int .i64 2)))]) .ret) .skip))))) (.seq (.reg [oM 20 τ0,oD 21 (.callF 131 [Xe8]),oM 19 Xfw,oE 22 0 XeP,oE 23 1 XeP,oD 6 (.alloc [(.bool false),(.int .u64 0),(.int .u64 0),(.bool false),(.int .u64 0),(.int .u64 0),(.int .i64 0),(.string ⟨⟨[]⟩⟩)]),oN (.store 8 τ6 Xfs),oM 7 Xfu]) (.seq (.seq (.reg [oM 24 τ7,oD 25 (.bin .neq XfS (.const (.int .i64 0)))]) (.cond Xgf (.seq (.reg [oD 26 (.build [(.int .i64 0),(.bool false),(.int .u64 0),(.int .u64 0),(.bool false),(.int .u64 0),(.int .u64 0),(.int .i64 0),(.int .i64 0),(.int .i64 0),(.bool false),(.int .u32 0),(.int .u32 0),(.bool false),(.string ⟨⟨[]⟩⟩),(.int .i64 0)] []),oM 27 τ7,oN (.store 16 τ2 Xgm),oD 3 (.mv (.const (.int .i64 0))),oD 4 (.mv (.const (.int .i64 0))),oM 5 Xgr]) .ret) .skip)) (.seq (.reg [oM 28 τ0,oD 29 (.lenS Xgk),oD 30 (.fieldA 6 τ6),oD 31 (.load1 (.int .i64) XgA),oD 32 (.fieldA 0 τ6),oD 33 (.loadN [.bool,(.int .u64),(.int .u64)] Xg4),oD 34 (.fieldA 3 τ6),oD 35 (.loadN [.bool,(.int .u64),(.int .u64)] Xhe),oD 36 (.build [(.int .i64 0),(.bool false),(.int .u64 0),(.int .u64 0),(.bool false),(.int .u64 0),(.int .u64 0),(.int .i64 0),(.int .i64 0)] [(0,1,XgP),(1,3,Xg9),(4,3,Xhq)]),oD 37 (.build [(.int .i64 0),(.bool false),(.int .u64 0),(.int .u64 0),(.bool false),(.int .u64 0),(.int .u64 0),(.int .i64 0),(.int .i64 0),(.int .i64 0),(.bool false),(.int .u32 0),(.int .u32 0),(.bool false),(.string ⟨⟨[]⟩⟩),(.int .i64 0)] [(15,1,Xgj),(0,9,XhU)]),oD 8 (.alloc [(.int .i64 0),(.bool false),(.int .u64 0),(.int .u64 0),(.bool false),(.int .u64 0),(.int .u64 0),(.int .i64 0),(.int .i64 0),(.int .i64 0),(.bool false),(.int .u32 0),(.int .u32 0),(.bool false),(.string ⟨⟨[]⟩⟩),(.int .i64 0)]),oN (.store 16 τ8 XhQ)]) (.seq (.reg [oD 9 (.mv (.const (.int .i64 0)))]) (.seq (.seq (.reg [oD 38 (.fieldA 6 τ6),oD 39 (.load1 (.int .i64) Xii)]) (.block 1 (.seq (.reg [oD 41 (.bin .eql XiV (.const (.int .i64 6))),oM 40 Xjk]) (.cond Xi5 (.reg [oD 43 (.loadN [.bool,(.int .u64),(.int .u64),.bool,(.int .u64),(.int .u64),(.int .i64),.str] τ6),oD 44 (.callF 132 [Xi6,τ8]),oM 42 XjM,oE 45 0 XiS,oE 46 1 XiS,oM 9 XjL,oM 7 Xkc]) (.seq (.reg [oD 48 (.bin .eql XiV (.const (.int .i64 17))),oM 47 Xkd]) (.cond Xka (.reg [oD 50 (.loadN [.bool,(.int .u64),(.int .u64),.bool,(.int .u64),(.int .u64),(.int .i64),.str] τ6),oD 51 (.callF 133 [XkP,τ8]),oM 49 Xla,oE 52 0 Xke,oE 53 1 Xke,oM 9 Xlc,oM 7 Xmp]) (.reg [oD 7 (.mv (.const (.int .i64 6)))]))))))) (.seq (.seq (.reg [oM 54 τ7,oD 55 (.bin .neq Xm5 (.const (.int .i64 0)))]) (.cond XmG (.seq (.reg [oD 56 (.build [(.int .i64 0),(.bool false),(.int .u64 0),(.int .u64 0),(.bool false),(.int .u64 0),(.int .u64 0),(.int .i64 0),(.int .i64 0),(.int .i64 0),(.bool false),(.int .u32 0),(.int .u32 0),(.bool false),(.string ⟨⟨[]⟩⟩),(.int .i64 0)] []),oM 57 τ7,oN (.store 16 τ2 Xm3),oD 3 (.mv (.const (.int .i64 0))),oD 4 (.mv (.const (.int .i64 0))),oM 5 XmT]) .ret) .skip)) (.seq XUr .ret))))))))
def fn81:VFn:=⟨63,XJj,[.cell 2 [(.int .i64),.bool,(.int .u64),(.int .u64),.bool,(.int .u64),(.int .u64),(.int .i64),(.int .i64),(.int .i64),.bool,(.int .u32),(.int .u32),.bool,.str,(.int .i64)] true,.tmp 3,.tmp 4,.tmp 5]⟩
def XxP:VC:=.seq (.reg [oD 2 (.alloc [(.bool false),(.int .u64 0),(.int .u64 0),(.bool false),(.int .u64 0),(.int .u64 0),(.int .i64 0),(.string ⟨⟨[]⟩⟩)]),oD 3 (.mv (.const (.int .i64 0)))]) (.seq (.reg [oM 10 τ0,oD 11 (.callF 166 [XcV]),oM 9 XcT,oE 12 0 τ9,oE 13 1 τ9,oE 14 2 τ9,oM 4 Xdu,oM 5 Xd0,oM 6 Xey]) (.seq (.seq (.reg [oM 15 τ6,oD 16 (.bin .neq Xep (.const (.int .i64 0)))]) (.cond XeG (.seq (.reg [oD 17 (.build [(.bool false),(.int .u64 0),(.int .u64 0),(.bool false),(.int .u64 0),(.int .u64 0),(.int .i64 0),(.string ⟨⟨[]⟩⟩)] []),oM 18 τ6,oN (.store 8 τ2 Xer),oM 3 XeT]) .ret) .skip)) (.seq (.seq (.reg [oM 19 τ4]) (.block 0 (.seq (.reg [oD 20 (.tassert 227 (.agg ⟨[(.int .i64 0),(.int .i64 0),(.bool false),(.int .i64 0),(.int .i64 0),(.bool false),(.int .u64 0),(.int .u64 0),(.bool false),(.int .u64 0),(.int .u64 0),(.string ⟨⟨[]⟩⟩)]⟩) XeP),oE 21 1 Xe8,oE 22 0 Xe8]) (.cond Xfw (.seq (.reg [oD 7 (.alloc [(.int .i64 0),(.int .i64 0),(.bool false),(.int .i64 0),(.int .i64 0),(.bool false),(.int .u64 0),(.int .u64 0),(.bool false),(.int .u64 0),(.int .u64 0),(.string ⟨⟨[]⟩⟩)]),oN (.store 12 τ7 Xfs)]) (.seq (.seq (.reg [oM 23 τ0,oD 24 (.lenS Xfu),oD 25 (.fieldA 11 τ7),oD 26 (.load1 .str Xgf),oD 27 (.lenS Xgm),oD 28 (.bin .add (.const (.int .i64 20)) Xgr),oM 29 τ5,oD 30 (.lenS Xgj),oD 31 (.bin .add Xgk XgA),oD 32 (.bin .neq XfS XgP)]) (.cond Xg4 (.seq (.reg [oD 33 (.build [(.bool false),(.int .u64 0),(.int .u64 0),(.bool false),(.int .u64 0),(.int .u64 0),(.int .i64 0),(.string ⟨⟨[]⟩⟩)] []),oN (.store 8 τ2 Xg9),oD 3 (.mv (.const (.int .i64 5)))]) .ret) .skip)) (.seq (.reg [oD 34 (.fieldA 5 τ7),oD 35 (.loadN [.bool,(.int .u64),(.int .u64)] Xhe),oD 36 (.fieldA 8 τ7),oD 37 (.loadN [.bool,(.int .u64),(.int .u64)] XhU),oD 38 (.fieldA 4 τ7),oD 39 (.load1 (.int .i64) Xii),oM 40 τ5,oD 41 (.build [(.bool false),(.int .u64 0),(.int .u64 0),(.bool false),(.int .u64 0),(.int .u64 0),(.int .i64 0),(.string ⟨⟨[]⟩⟩)] [(0,3,Xhq),(3,3,XhQ),(6,1,XiV),(7,1,Xi5)]),oN (.store 8 τ2 Xjk),oD 3 (.mv (.const (.int .i64 0)))]) .ret))) (.seq (.reg [oD 42 (.tassert 228 (.agg ⟨[(.int .i64 0),(.int .i64 0),(.int .i64 0),(.int .i64 0),(.bool false),(.int .u64 0),(.int .u64 0),(.bool false),(.int .u64 0),(.int .u64 0)]⟩) XeP),oE 43 1 XiS,oE 44 0 XiS]) (.cond Xi6 (.seq (.reg [oD 8 (.alloc [(.int .i64 0),(.int .i64 0),(.int .i64 0),(.int .i64 0),(.bool false),(.int .u64 0),(.int .u64 0),(.bool false),(.int .u64 0),(.int .u64 0)]),oN (.store 10 τ8 XjM)]) (.seq (.seq (.reg [oM 45 τ0,oD 46 (.lenS XjL),oM 47 τ5,oD 48 (.lenS Xka),oD 49 (.bin .add (.const (.int .i64 40)) Xkd),oD 50 (.bin .neq Xkc Xke)]) (.cond XkP (.seq (.reg [oD 51 (.build [(.bool false),(.int .u64 0),(.int .u64 0),(.bool false),(.int .u64 0),(.int .u64 0),(.int .i64 0),(.string ⟨⟨[]⟩⟩)] []),oN (.store 8 τ2 Xla),oD 3 (.mv (.const (.int .i64 5)))]) .ret) .skip)) (.seq (.reg [oD 52 (.fieldA 4 τ8),oD 53 (.loadN [.bool,(.int .u64),(.int .u64)] Xlc),oD 54 (.fieldA 7 τ8),oD 55 (.loadN [.bool,(.int .u64),(.int .u64)] Xm5),oD 56 (.fieldA 2 τ8),oD 57 (.load1 (.int .i64) Xm3),oM 58 τ5,oD 59 (.build [(.bool false),(.int .u64 0),(.int .u64 0),(.bool false),(.int .u64 0),(.int .u64 0),(.int .i64 0),(.string ⟨⟨[]⟩⟩)] [(0,3,Xmp),(3,3,XmG),(6,1,XmT),(7,1,XmS)]),oN (.store 8 τ2 Xny),oD 3 (.mv (.const (.int .i64 0)))]) .ret))) .skip)))))) (.seq (.reg [oD 60 (.build [(.bool false),(.int .u64 0),(.int .u64 0),(.bool false),(.int .u64 0),(.int .u64 0),(.int .i64 0),(.string ⟨⟨[]⟩⟩)] []),oN (.store 8 τ2 Xoo),oD 3 (.mv (.const (.int .i64 3)))]) .ret))))
def XSa:VFn:=⟨61,XxP,[.cell 2 [.bool,(.int .u64),(.int .u64),.bool,(.int .u64),(.int .u64),(.int .i64),.str] true,.tmp 3]⟩
def XNr:VC:=.seq (.reg [oM 2 (.const .nilIface),oD 3 (.mv (.const (.string ⟨⟨[]⟩⟩))),oD 4 (.mv (.const (.int .i64 0)))]) (.seq (.seq (.reg [oM 11 τ0,oD 12 (.idxS XcT (.const (.int .i64 0))),oD 13 (.bin .shr Xdu (.const (.int .u64 4)))]) (.block 0 (.seq (.reg [oD 15 (.bin .eql Xd0 (.const (.int .u8 4))),oM 14 Xep]) (.cond Xey (.seq (.reg [oM 17 τ0,oD 18 (.callF 190 [Xer]),oM 16 XeT,oE 19 0 XeG,oE 20 1 XeG,oE 21 2 XeG,oD 5 (.alloc [(.int .i64 0),(.int .i64 0),(.bool false),(.int .i64 0),(.int .i64 0),(.bool false),(.int .u64 0),(.int .u64 0),(.bool false),(.int .u64 0),(.int .u64 0),(.string ⟨⟨[]⟩⟩)]),oN (.store 12 τ5 XeP),oM 6 Xe8,oM 7 Xfw]) (.seq (.reg [oD 22 (.loadN [(.int .i64),(.int .i64),.bool,(.int .i64),(.int .i64),.bool,(.int .u64),(.int .u64),.bool,(.int .u64),(.int .u64),.str] τ5),oD 23 (.iface 227 Xfs),oM 24 τ6,oM 25 τ7,oM 2 Xfu,oM 3 XfS,oM 4 Xgf]) .ret)) (.seq (.reg [oD 27 (.bin .eql Xd0 (.const (.int .u8 6))),oM 26 Xgr]) (.cond Xgm (.seq (.reg [oM 29 τ0,oD 30 (.callF 191 [Xgj]),oM 28 XgA,oE 31 0 Xgk,oE 32 1 Xgk,oE 33 2 Xgk,oD 8 (.alloc [(.int .i64 0),(.int .i64 0),(.int .i64 0),(.int .i64 0),(.bool false),(.int .u64 0),(.int .u64 0),(.bool false),(.int .u64 0),(.int .u64 0)]),oN (.store 10 τ8 XgP),oM 9 Xg4,oM 10 Xg9]) (.seq (.reg [oD 34 (.loadN [(.int .i64),(.int .i64),(.int .i64),(.int .i64),.bool,(.int .u64),(.int .u64),.bool,(.int .u64),(.int .u64)] τ8),oD 35 (.iface 228 Xhe),oM 36 τ9,oM 37 XcV,oM 2 Xhq,oM 3 XhU,oM 4 XhQ]) .ret)) .skip)))))) (.seq (.reg [oM 2 (.const .nilIface),oD 3 (.mv (.const (.string ⟨⟨[]⟩⟩))),oD 4 (.mv (.const (.int .i64 3)))]) .ret))
def XUT:VFn:=⟨38,XNr,[.tmp 2,.tmp 3,.tmp 4]⟩
def XKW:VC:=.regD [oD 72 (.fieldA 0 τ5),oD 73 (.load1 .oth Xsv),oD 74 (.callF 78 [XtM,(.const (.int .i64 1))]),oD 75 (.fieldA 0 τ5),oD 76 (.load1 .oth Xvj),oD 77 (.callF 78 [Xxh,(.const (.int .i64 1))]),oD 78 (.fieldA 3 τ7)] [(2,4)] [oN (.store 1 Xxr Xva),oD 79 (.fieldA 4 τ7),oN (.store 1 Xyc Xxo)]
def XMK:VC:=.regD [oD 83 (.loadN [.oth] τ5),oD 84 (.callF 201 [XBM]),oD 85 (.loadN [.oth] τ5),oD 86 (.callF 201 [XI7]),oD 87 (.fieldA 5 τ7)] [(1,2)] [oN (.store 3 XPP XID),oD 88 (.fieldA 8 τ7),oN (.store 3 XL4 XMc)]
def XLa:VC:=.regD [oD 95 (.loadN [(.int .i64),(.int .i64),.bool,(.int .i64),(.int .i64),.bool,(.int .u64),(.int .u64),.bool,(.int .u64),(.int .u64),.str] τ7),oD 96 (.fieldA 0 τ5),oD 97 (.load1 .oth XP7),oM 98 τ9,oM 99 τ8,oD 100 (.bin .sub XQj XQi),oD 101 (.callF 129 [XI4,XwY])] [(0,6)] [oN (.store 12 τ2 XOW),oM 3 Xwl,oD 4 (.mv (.const (.int .i64 0)))]
def Xxx:VC:=.seq (.reg [oD 2 (.alloc [(.int .i64 0),(.int .i64 0),(.bool false),(.int .i64 0),(.int .i64 0),(.bool false),(.int .u64 0),(.int .u64 0),(.bool false),(.int .u64 0),(.int .u64 0),(.string ⟨⟨[]⟩⟩)]),oD 3 (.mv (.const (.string ⟨⟨[]⟩⟩))),oD 4 (.mv (.const (.int .i64 0)))]) (.seq (.seq (.reg [oM 11 τ0,oD 12 (.lenS XcT),oD 13 (.bin .lss Xdu (.const (.int .i64 20)))]) (.cond Xd0 (.seq (.reg [oD 14 (.build [(.int .i64 0),(.int .i64 0),(.bool false),(.int .i64 0),(.int .i64 0),(.bool false),(.int .u64 0),(.int .u64 0),(.bool false),(.int .u64 0),(.int .u64 0),(.string ⟨⟨[]⟩⟩)] []),oN (.store 12 τ2 Xey),oD 3 (.mv (.const (.string ⟨⟨[]⟩⟩))),oD 4 (.mv (.const (.int .i64 2)))]) .ret) .skip)) (.seq (.reg [oM 15 τ0,oD 16 (.callF 77 [Xep]),oD 17 (.build [(.pointer none)] [(0,1,XeG)]),oD 5 (.alloc [(.pointer none)]),oN (.store 1 τ5 Xer)]) (.seq (.reg [oD 18 (.fieldA 0 τ5),oD 19 (.load1 .oth XeT),oD 20 (.callF 78 [XeP,(.const (.int .i64 1))]),oM 6 Xe8]) (.seq (.reg [oD 21 (.fieldA 0 τ5),oD 22 (.load1 .oth Xfw),oD 23 (.callF 78 [Xfs,(.const (.int .i64 1))]),oD 24 (.build [(.int .i64 0),(.int .i64 0),(.bool false),(.int .i64 0),(.int .i64 0),(.bool false),(.int .u64 0),(.int .u64 0),(.bool false),(.int .u64 0),(.int .u64 0),(.string ⟨⟨[]⟩⟩)] [(0,1,Xfu)]),oD 7 (.alloc [(.int .i64 0),(.int .i64 0),(.bool false),(.int .i64 0),(.int .i64 0),(.bool false),(.int .u64 0),(.int .u64 0),(.bool false),(.int .u64 0),(.int .u64 0),(.string ⟨⟨[]⟩⟩)]),oN (.store 12 τ7 XfS)]) (.seq (.reg [oM 25 τ6,oD 26 (.bin .and Xgf (.const (.int .i64 15))),oD 27 (.bin .mul Xgm (.const (.int .i64 4))),oD 28 (.fieldA 0 τ5),oD 29 (.load1 .oth Xgk),oD 30 (.callF 78 [Xgj,(.const (.int .i64 2))]),oM 8 Xgr,oM 9 XgA]) (.seq (.block 0 (.seq (.reg [oM 32 τ6,oD 33 (.bin .shr Xg4 (.const (.int .u64 4))),oD 34 (.bin .neq Xg9 (.const (.int .i64 4))),oM 35 Xhe,oG 36 (.mv τ8) 35 false,oG 37 (.bin .lss XhU (.const (.int .i64 20))) 35 false,oD 38 (.pick Xhq (.const (.bool true)) XhQ),oM 39 Xii,oG 40 (.mv τ9) 39 false,oG 41 (.mv τ8) 39 false,oG 42 (.bin .lss Xi5 Xjk) 39 false,oD 43 (.pick XiV (.const (.bool true)) XiS),oM 31 Xi6]) (.cond XgP (.seq (.reg [oD 44 (.build [(.int .i64 0),(.int .i64 0),(.bool false),(.int .i64 0),(.int .i64 0),(.bool false),(.int .u64 0),(.int .u64 0),(.bool false),(.int .u64 0),(.int .u64 0),(.string ⟨⟨[]⟩⟩)] []),oN (.store 12 τ2 XjM),oD 3 (.mv (.const (.string ⟨⟨[]⟩⟩))),oD 4 (.mv (.const (.int .i64 3)))]) .ret) (.seq (.reg [oM 46 τ9,oM 47 τ0,oD 48 (.lenS Xka),oD 49 (.bin .gtr Xkc Xkd),oM 45 Xke]) (.cond XjL (.seq (.reg [oD 50 (.build [(.int .i64 0),(.int .i64 0),(.bool false),(.int .i64 0),(.int .i64 0),(.bool false),(.int .u64 0),(.int .u64 0),(.bool false),(.int .u64 0),(.int .u64 0),(.string ⟨⟨[]⟩⟩)] []),oN (.store 12 τ2 XkP),oD 3 (.mv (.const (.string ⟨⟨[]⟩⟩))),oD 4 (.mv (.const (.int .i64 2)))]) .ret) (.seq (.reg [oM 52 τ0,oM 53 τ8,oD 54 (.sliceS Xlc none (some Xmp)),oD 55 (.callF 80 [Xm5]),oD 56 (.not XmG),oM 51 Xm3]) (.cond Xla (.seq (.reg [oD 57 (.build [(.int .i64 0),(.int .i64 0),(.bool false),(.int .i64 0),(.int .i64 0),(.bool false),(.int .u64 0),(.int .u64 0),(.bool false),(.int .u64 0),(.int .u64 0),(.string ⟨⟨[]⟩⟩)] []),oN (.store 12 τ2 XmT),oD 3 (.mv (.const (.string ⟨⟨[]⟩⟩))),oD 4 (.mv (.const (.int .i64 4)))]) .ret) .skip))))))) (.seq (.reg [oD 58 (.fieldA 0 τ5),oD 59 (.load1 .oth XmS),oD 60 (.callF 78 [Xny,(.const (.int .i64 2))]),oD 61 (.fieldA 1 τ7),oN (.store 1 Xn6 Xoo)]) (.seq (.reg [oD 62 (.fieldA 0 τ5),oD 63 (.load1 .oth XoS),oD 64 (.callF 78 [Xqr,(.const (.int .i64 2))]),oM 10 Xqq]) (.seq (.seq (.reg [oM 65 XcV,oD 66 (.bin .andNot XqZ (.const (.int .i64 16384))),oD 67 (.bin .neq XqT (.const (.int .i64 0)))]) (.cond Xqx (.seq (.reg [oD 68 (.build [(.int .i64 0),(.int .i64 0),(.bool false),(.int .i64 0),(.int .i64 0),(.bool false),(.int .u64 0),(.int .u64 0),(.bool false),(.int .u64 0),(.int .u64 0),(.string ⟨⟨[]⟩⟩)] []),oN (.store 12 τ2 Xqs),oD 3 (.mv (.const (.string ⟨⟨[]⟩⟩))),oD 4 (.mv (.const (.int .i64 7)))]) .ret) .skip)) (.seq (.reg [oM 69 XcV,oD 70 (.bin .neq XrI (.const (.int .i64 0))),oD 71 (.fieldA 2 τ7),oN (.store 1 Xsw Xsr)]) (.seq XKW (.seq (.reg [oD 80 (.fieldA 0 τ5),oD 81 (.load1 .oth XyU),oD 82 (.callF 78 [XBK,(.const (.int .i64 2))])]) (.seq XMK (.seq (.reg [oD 89 (.fieldA 0 τ5),oD 90 (.load1 .oth XO5),oM 91 τ8,oD 92 (.bin .sub XNN (.const (.int .i64 20))),oD 93 (.callF 129 [XOg,XNE]),oD 94 (.fieldA 11 τ7),oN (.store 1 XND XKO)]) (.seq XLa .ret)))))))))))))))
def XQM:VFn:=⟨102,Xxx,[.cell 2 [(.int .i64),(.int .i64),.bool,(.int .i64),(.int .i64),.bool,(.int .u64),(.int .u64),.bool,(.int .u64),(.int .u64),.str] true,.tmp 3,.tmp 4]⟩
def XTW:VC:=.seq (.reg [oD 2 (.mv (.const (.pointer none)))]) (.seq (.reg [oM 3 τ0,oD 4 (.build [(.string ⟨⟨[]⟩⟩),(.bool false),(.bool false)] [(0,1,τ3),(1,1,(.const (.bool true)))]),oD 5 (.box τ4),oM 2 τ5]) .ret)
def fn77:VFn:=⟨6,XTW,[.tmp 2]⟩
def XHM:VC:=.seq (.reg [oD 4 (.mv (.const (.int .i64 0)))]) (.seq (.seq (.reg [oM 7 τ1,oD 8 (.bin .lss τ7 (.const (.int .i64 1))),oM 9 τ8,oG 10 (.mv τ1) 9 false,oG 11 (.bin .gtr XcV (.const (.int .i64 7))) 9 false,oD 12 (.pick τ9 (.const (.bool true)) XcT)]) (.cond Xdu (.reg [oD 1 (.mv (.const (.int .i64 (-1))))]) .skip)) (.seq (.reg [oM 14 τ0,oM 15 τ1,oD 16 (.callF 129 [Xey,Xep]),oM 17 τ1,oD 18 (.callF 95 [XeG,(.const (.int .i64 0)),Xer]),oM 13 XeT,oE 19 0 Xd0,oE 20 1 Xd0,oM 5 XeP,oM 6 Xe8]) (.seq (.reg [oM 21 τ5,oD 22 (.conv .i64 Xfw),oM 4 Xfs]) .ret)))
def fn78:VFn:=⟨23,XHM,[.tmp 4]⟩
def XzW:VC:=.seq (.reg [oD 4 (.mv (.const (.string ⟨⟨[]⟩⟩)))]) (.seq (.seq (.reg [oM 6 τ0,oD 7 (.callF 138 [τ6])]) (.cond τ7 (.seq (.reg [oD 4 (.mv (.const (.string ⟨⟨[]⟩⟩)))]) .ret) .skip)) (.seq (.seq (.reg [oM 8 τ1,oD 9 (.bin .lss τ8 (.const (.int .i64 0))),oM 10 τ9,oG 11 (.mv τ1) 10 false,oG 12 (.mv τ0) 10 false,oG 13 (.nilCheck Xdu) 10 false,oG 14 (.fieldA 0 Xd0) 10 false,oG 15 (.load1 .str Xey) 10 false,oG 16 (.lenS Xep) 10 false,oG 17 (.bin .gtr XcT XeG) 10 false,oD 18 (.pick XcV (.const (.bool true)) Xer)]) (.cond XeT (.seq (.reg [oM 19 τ0,oD 20 (.nilCheck XeP),oD 21 (.fieldA 2 Xe8),oN (.store 1 Xfw (.const (.bool true)))]) (.seq (.reg [oD 4 (.mv (.const (.string ⟨⟨[]⟩⟩)))]) .ret)) .skip)) (.seq (.reg [oM 22 τ0,oD 23 (.nilCheck Xfs),oD 24 (.fieldA 0 Xfu),oD 25 (.load1 .str XfS),oM 26 τ1,oD 27 (.sliceS Xgf none (some Xgm)),oM 5 Xgr]) (.seq (.reg [oM 28 τ0,oM 29 τ0,oD 30 (.nilCheck Xgj),oD 31 (.fieldA 0 XgA),oD 32 (.load1 .str XgP),oM 33 τ1,oD 34 (.sliceS Xg4 (some Xg9) none),oD 35 (.nilCheck Xgk),oD 36 (.fieldA 0 Xhq),oN (.store 1 XhU Xhe)]) (.seq (.reg [oM 37 τ5,oM 4 XhQ]) .ret)))))
def XWn:VFn:=⟨38,XzW,[.tmp 4]⟩
def XJB:VC:=.seq (.reg [oD 2 (.mv (.const (.bool false)))]) (.seq (.reg [oM 3 τ0,oD 4 (.isNil 0 false τ3),oM 5 τ4,oG 6 (.mv τ0) 5 false,oG 7 (.nilCheck τ6) 5 false,oG 8 (.fieldA 1 τ7) 5 false,oG 9 (.load1 .bool τ8) 5 false,oG 10 (.not τ9) 5 false,oD 11 (.pick τ5 (.const (.bool true)) XcV),oM 12 XcT,oG 13 (.mv τ0) 12 false,oG 14 (.nilCheck Xd0) 12 false,oG 15 (.fieldA 2 Xey) 12 false,oG 16 (.load1 .bool Xep) 12 false,oD 17 (.pick Xdu (.const (.bool true)) XeG),oM 2 Xer]) .ret)
def XSw:VFn:=⟨18,XJB,[.tmp 2]⟩
def Xz2:VC:=.seq (.reg [oD 38 (.bin .lss XhQ XhU)]) (.seq (.cond Xii .skip (.exit 0)) (.seq (.block 1 (.seq (.reg [oD 39 (.idxAL 1 Xhq XhQ),oD 40 (.load1 (.int .u8) XiV),oM 10 Xi5]) (.reg [oM 41 τ8,oD 42 (.bin .shl Xjk (.const (.int .u64 8))),oM 43 XcV,oD 44 (.conv .u64 Xi6),oD 45 (.bin .or XiS XjM),oM 8 XjL]))) (.reg [oD 46 (.bin .add XhQ (.const (.int .i64 1))),oM 37 Xkc])))
def XIA:VC:=.seq (.reg [oM 47 τ8,oM 6 Xka,oD 7 (.mv (.const (.bool true)))]) .ret
def XJu:VC:=.seq (.reg [oD 6 (.mv (.const (.int .u64 0))),oD 7 (.mv (.const (.bool false)))]) (.seq (.seq (.reg [oM 11 τ2,oD 12 (.bin .lss XcT (.const (.int .i64 1))),oM 13 Xdu,oG 14 (.mv τ2) 13 false,oG 15 (.bin .gtr Xey (.const (.int .i64 8))) 13 false,oD 16 (.pick Xd0 (.const (.bool true)) Xep),oM 17 XeG,oG 18 (.mv τ1) 17 false,oG 19 (.bin .lss XeT (.const (.int .i64 0))) 17 false,oD 20 (.pick Xer (.const (.bool true)) XeP),oM 21 Xe8,oG 22 (.mv τ0) 21 false,oG 23 (.lenS Xfs) 21 false,oG 24 (.mv τ2) 21 false,oG 25 (.bin .sub Xfu XfS) 21 false,oG 26 (.mv τ1) 21 false,oG 27 (.bin .lss Xgf Xgm) 21 false,oD 28 (.pick Xfw (.const (.bool true)) Xgr)]) (.cond Xgk (.seq (.reg [oD 6 (.mv (.const (.int .u64 0))),oD 7 (.mv (.const (.bool false)))]) .ret) .skip)) (.seq (.reg [oD 8 (.mv (.const (.int .u64 0)))]) (.seq (.seq (.reg [oM 29 τ0,oM 30 τ1,oM 31 τ1,oM 32 τ2,oD 33 (.bin .add XgP Xg4),oD 34 (.sliceS Xgj (some XgA) (some Xg9)),oD 35 (.s2b Xhe),oD 36 (.lenL Xhq),oD 37 (.mv (.const (.int .i64 0)))]) (.block 0 (.loop Xz2))) XIA)))
def fn95:VFn:=⟨48,XJu,[.tmp 6,.tmp 7]⟩
def XTy:VC:=.seq (.reg [oD 2 (.mv (.const (.bool false)))]) (.seq (.reg [oM 3 τ0,oD 4 (.callF 130 [τ3]),oD 5 (.bin .eql τ4 (.const (.int .i64 65535))),oM 2 τ5]) .ret)
def fn80:VFn:=⟨6,XTy,[.tmp 2]⟩
def XIL:VC:=.seq (.reg [oD 1 (.box τ0),oD 2 (.alloc [(.bool false),(.int .u64 0),(.int .u64 0)])]) (.seq (.reg [oD 6 (.fieldA 0 τ1),oD 7 (.load1 .oth τ6),oD 8 (.callF 129 [τ7,(.const (.int .i64 4))]),oD 9 (.callF 202 [τ8]),oM 5 τ9,oE 10 0 τ5,oE 11 1 τ5,oD 3 (.alloc [(.bool false),(.int .u64 0),(.int .u64 0)]),oN (.store 3 τ3 XcV),oM 4 XcT]) (.seq (.reg [oD 12 (.loadN [.bool,(.int .u64),(.int .u64)] τ3),oN (.store 3 τ2 Xdu)]) .ret))
def XSF:VFn:=⟨13,XIL,[.cell 2 [.bool,(.int .u64),(.int .u64)] true]⟩
def Xxv:VC:=.seq (.reg [oD 2 (.alloc [(.bool false),(.int .u64 0),(.int .u64 0)]),oD 3 (.mv (.const (.bool false)))]) (.seq (.seq (.reg [oM 7 τ0,oD 8 (.lenS τ7)]) (.block 0 (.seq (.reg [oD 10 (.bin .eql τ8 (.const (.int .i64 4))),oM 9 XcV]) (.cond τ9 (.seq (.reg [oM 12 τ0,oD 13 (.callF 95 [Xdu,(.const (.int .i64 0)),(.const (.int .i64 4))]),oM 11 Xd0,oE 14 0 XcT,oE 15 1 XcT,oM 4 Xey,oM 5 Xep]) (.seq (.reg [oM 16 τ4,oD 17 (.build [(.bool false),(.int .u64 0),(.int .u64 0)] [(2,1,XeG)]),oN (.store 3 τ2 Xer),oD 3 (.mv (.const (.bool true)))]) .ret)) (.seq (.reg [oD 19 (.bin .eql τ8 (.const (.int .i64 16))),oM 18 XeP]) (.cond XeT (.seq (.reg [oD 20 (.build [(.bool false),(.int .u64 0),(.int .u64 0)] [(0,1,(.const (.bool true)))]),oD 6 (.alloc [(.bool false),(.int .u64 0),(.int .u64 0)]),oN (.store 3 τ6 Xe8)]) (.seq (.reg [oM 22 τ0,oD 23 (.callF 95 [Xfs,(.const (.int .i64 0)),(.const (.int .i64 8))]),oM 21 Xfu,oE 24 0 Xfw,oE 25 1 Xfw,oD 26 (.fieldA 1 τ6),oN (.store 1 Xgm XfS)]) (.seq (.reg [oM 28 τ0,oD 29 (.callF 95 [Xgk,(.const (.int .i64 8)),(.const (.int .i64 8))]),oM 27 Xgj,oE 30 0 Xgr,oE 31 1 Xgr,oD 32 (.fieldA 2 τ6),oN (.store 1 Xg4 XgA)]) (.seq (.reg [oD 33 (.loadN [.bool,(.int .u64),(.int .u64)] τ6),oN (.store 3 τ2 Xg9),oD 3 (.mv (.const (.bool true)))]) .ret)))) .skip)))))) (.seq (.reg [oD 34 (.build [(.bool false),(.int .u64 0),(.int .u64 0)] []),oN (.store 3 τ2 Xhe),oD 3 (.mv (.const (.bool false)))]) .ret))
def XSY:VFn:=⟨35,Xxv,[.cell 2 [.bool,(.int .u64),(.int .u64)] true,.tmp 3]⟩
def Xx2:VC:=.seq (.reg [oD 2 (.alloc [(.int .i64 0),(.int .i64 0),(.int .i64 0),(.int .i64 0),(.bool false),(.int .u64 0),(.int .u64 0),(.bool false),(.int .u64 0),(.int .u64 0)]),oD 3 (.mv (.const (.string ⟨⟨[]⟩⟩))),oD 4 (.mv (.const (.int .i64 0)))]) (.seq (.reg [oM 12 τ0,oD 13 (.callF 77 [Xdu]),oM 5 Xd0]) (.seq (.reg [oM 14 τ5,oD 15 (.callF 78 [Xey,(.const (.int .i64 4))]),oM 16 τ5,oD 17 (.callF 78 [XeG,(.const (.int .i64 2))]),oM 6 Xep,oM 7 Xer]) (.seq (.reg [oM 18 τ6,oD 19 (.bin .shr XeT (.const (.int .u64 20))),oD 20 (.bin .and XeP (.const (.int .i64 255))),oM 21 τ6,oD 22 (.bin .and Xfw (.const (.int .i64 1048575))),oM 23 τ5,oD 24 (.callF 78 [Xfu,(.const (.int .i64 1))]),oM 25 τ5,oD 26 (.callF 78 [Xgf,(.const (.int .i64 1))]),oD 27 (.build [(.int .i64 0),(.int .i64 0),(.int .i64 0),(.int .i64 0),(.bool false),(.int .u64 0),(.int .u64 0),(.bool false),(.int .u64 0),(.int .u64 0)] [(0,1,Xe8),(1,1,Xfs),(2,1,XfS),(3,1,Xgm)]),oD 8 (.alloc [(.int .i64 0),(.int .i64 0),(.int .i64 0),(.int .i64 0),(.bool false),(.int .u64 0),(.int .u64 0),(.bool false),(.int .u64 0),(.int .u64 0)]),oN (.store 10 τ8 Xgr)]) (.seq (.reg [oM 28 τ5,oD 29 (.callF 129 [Xgk,(.const (.int .i64 16))]),oM 30 τ5,oD 31 (.callF 129 [XgA,(.const (.int .i64 16))]),oM 9 Xgj,oM 10 XgP]) (.seq (.seq (.reg [oM 32 τ5,oD 33 (.callF 138 [Xg4])]) (.cond Xg9 (.seq (.reg [oD 34 (.build [(.int .i64 0),(.int .i64 0),(.int .i64 0),(.int .i64 0),(.bool false),(.int .u64 0),(.int .u64 0),(.bool false),(.int .u64 0),(.int .u64 0)] []),oN (.store 10 τ2 Xhe),oD 3 (.mv (.const (.string ⟨⟨[]⟩⟩))),oD 4 (.mv (.const (.int .i64 2)))]) .ret) .skip)) (.seq (.seq (.reg [oM 35 τ6,oD 36 (.bin .shr Xhq (.const (.int .u64 28))),oD 37 (.bin .neq XhU (.const (.int .i64 6)))]) (.cond XhQ (.seq (.reg [oD 38 (.build [(.int .i64 0),(.int .i64 0),(.int .i64 0),(.int .i64 0),(.bool false),(.int .u64 0),(.int .u64 0),(.bool false),(.int .u64 0),(.int .u64 0)] []),oN (.store 10 τ2 Xii),oD 3 (.mv (.const (.string ⟨⟨[]⟩⟩))),oD 4 (.mv (.const (.int .i64 3)))]) .ret) .skip)) (.seq (.reg [oM 40 τ9,oD 41 (.callF 202 [Xi5]),oM 39 Xjk,oE 42 0 XiV,oE 43 1 XiV,oD 44 (.fieldA 4 τ8),oN (.store 3 XjM XiS)]) (.seq (.reg [oM 46 XcV,oD 47 (.callF 202 [Xkc]),oM 45 Xka,oE 48 0 XjL,oE 49 1 XjL,oD 50 (.fieldA 7 τ8),oN (.store 3 XkP Xkd)]) (.seq (.reg [oM 51 τ5,oM 52 τ7,oD 53 (.callF 129 [Xla,Xlc]),oM 11 Xmp]) (.seq (.seq (.reg [oM 54 τ5,oD 55 (.callF 138 [Xm5])]) (.cond XmG (.seq (.reg [oD 56 (.build [(.int .i64 0),(.int .i64 0),(.int .i64 0),(.int .i64 0),(.bool false),(.int .u64 0),(.int .u64 0),(.bool false),(.int .u64 0),(.int .u64 0)] []),oN (.store 10 τ2 Xm3),oD 3 (.mv (.const (.string ⟨⟨[]⟩⟩))),oD 4 (.mv (.const (.int .i64 2)))]) .ret) .skip)) (.seq (.reg [oD 57 (.loadN [(.int .i64),(.int .i64),(.int .i64),(.int .i64),.bool,(.int .u64),(.int .u64),.bool,(.int .u64),(.int .u64)] τ8),oM 58 XcT,oN (.store 10 τ2 XmT),oM 3 XmS,oD 4 (.mv (.const (.int .i64 0)))]) .ret)))))))))))
def XTI:VFn:=⟨59,Xx2,[.cell 2 [(.int .i64),(.int .i64),(.int .i64),(.int .i64),.bool,(.int .u64),(.int .u64),.bool,(.int .u64),(.int .u64)] true,.tmp 3,.tmp 4]⟩
def XUf:VC:=.regD [oM 26 τ1,oM 27 τ1,oM 28 τ1,oD 29 (.fieldA 0 τ6),oD 30 (.load1 (.int .i64) Xgj),oD 31 (.fieldA 1 τ6),oD 32 (.load1 (.int .i64) XgP),oD 33 (.fieldA 4 τ6),oD 34 (.load1 (.int .i64) Xg9),oD 35 (.nilCheck Xgm),oD 36 (.fieldA 0 Xhq),oD 37 (.fieldA 7 XhU),oN (.store 1 XhQ XgA),oD 38 (.nilCheck Xgr),oD 39 (.fieldA 0 Xii),oD 40 (.fieldA 8 XiV),oN (.store 1 Xi5 Xg4)] [(6,12),(8,12),(8,16)] [oD 41 (.nilCheck Xgk),oD 42 (.fieldA 9 Xjk),oN (.store 1 XiS Xhe)]
def XAm:VC:=.seq (.reg [oD 2 (.box τ0),oD 4 (.mv (.const (.int .i64 0))),oD 5 (.mv (.const (.int .i64 0)))]) (.seq (.reg [oD 13 (.fieldA 7 τ2),oD 14 (.load1 .str Xd0),oD 15 (.fieldA 0 τ2),oD 16 (.loadN [.bool,(.int .u64),(.int .u64)] Xep),oD 17 (.fieldA 3 τ2),oD 18 (.loadN [.bool,(.int .u64),(.int .u64)] Xer),oD 19 (.callF 167 [Xey,XeG,XeT]),oM 12 XeP,oE 20 0 Xdu,oE 21 1 Xdu,oE 22 2 Xdu,oD 6 (.alloc [(.int .i64 0),(.int .i64 0),(.int .u32 0),(.int .u32 0),(.int .i64 0),(.int .i64 0),(.int .i64 0),(.string ⟨⟨[]⟩⟩)]),oN (.store 8 τ6 Xe8),oM 7 Xfw,oM 8 Xfs]) (.seq (.seq (.reg [oM 23 τ8,oD 24 (.bin .neq Xfu (.const (.int .i64 0)))]) (.cond XfS (.seq (.reg [oM 25 τ8,oD 4 (.mv (.const (.int .i64 0))),oM 5 Xgf]) .ret) .skip)) (.seq XUf (.seq (.seq (.reg [oD 44 (.fieldA 7 τ6),oD 45 (.load1 .str XjM),oD 46 (.callF 134 [XjL]),oM 43 Xkc,oE 47 0 Xi6,oE 48 1 Xi6,oE 49 2 Xi6,oM 9 Xka,oM 10 Xkd,oM 11 Xke]) (.seq (.reg [oM 50 XcT,oD 51 (.bin .geq XkP (.const (.int .i64 0)))]) (.cond Xla (.reg [oM 52 τ1,oM 53 τ1,oM 54 τ1,oM 55 τ9,oM 56 XcV,oD 57 (.nilCheck Xlc),oD 58 (.fieldA 10 XmT),oN (.store 1 XmS (.const (.bool true))),oD 59 (.nilCheck Xmp),oD 60 (.fieldA 11 Xny),oN (.store 1 Xoo XmG),oD 61 (.nilCheck Xm5),oD 62 (.fieldA 12 Xn6),oN (.store 1 XoS Xm3)]) .skip))) (.seq (.reg [oM 63 τ7,oD 64 (.lenS Xqr),oM 4 Xqq,oD 5 (.mv (.const (.int .i64 0)))]) .ret)))))
def XTd:VFn:=⟨65,XAm,[.tmp 4,.tmp 5]⟩
def XRX:VC:=.regD [oM 20 τ0,oD 21 (.idxS Xe8 (.const (.int .i64 12))),oD 22 (.bin .shr Xfw (.const (.int .u64 4))),oD 23 (.conv .i64 Xfs),oM 24 τ0,oD 25 (.idxS XfS (.const (.int .i64 12))),oD 26 (.bin .and Xgf (.const (.int .u8 15))),oM 9 Xfu] [] [oM 10 Xgm]
def XLO:VC:=.regD [oD 72 (.loadN [(.int .i64),(.int .i64),(.int .u32),(.int .u32),(.int .i64),(.int .i64),(.int .i64),.str] Xd0),oM 73 τ0,oM 74 XcT,oD 75 (.sliceS XtM (some Xva) none),oN (.store 8 τ6 Xsv)] [] [oM 7 Xvj,oD 8 (.mv (.const (.int .i64 0)))]
def XA8:VC:=.seq (.reg [oD 4 (.box τ1),oD 5 (.box τ2),oD 6 (.alloc [(.int .i64 0),(.int .i64 0),(.int .u32 0),(.int .u32 0),(.int .i64 0),(.int .i64 0),(.int .i64 0),(.string ⟨⟨[]⟩⟩)]),oD 7 (.mv (.const (.string ⟨⟨[]⟩⟩))),oD 8 (.mv (.const (.int .i64 0)))]) (.seq (.seq (.reg [oM 16 τ0,oD 17 (.lenS XeG),oD 18 (.bin .lss Xer (.const (.int .i64 20)))]) (.cond XeT (.seq (.reg [oD 19 (.build [(.int .i64 0),(.int .i64 0),(.int .u32 0),(.int .u32 0),(.int .i64 0),(.int .i64 0),(.int .i64 0),(.string ⟨⟨[]⟩⟩)] []),oN (.store 8 τ6 XeP),oD 7 (.mv (.const (.string ⟨⟨[]⟩⟩))),oD 8 (.mv (.const (.int .i64 2)))]) .ret) .skip)) (.seq XRX (.seq (.reg [oM 27 τ9,oD 28 (.bin .mul (.const (.int .i64 4)) Xgr),oM 11 Xgk]) (.seq (.block 0 (.seq (.reg [oM 30 XcT,oD 31 (.bin .lss XgA (.const (.int .i64 20))),oM 32 XgP,oG 33 (.mv XcV) 32 false,oG 34 (.bin .neq Xg9 (.const (.int .u8 0))) 32 false,oD 35 (.pick Xg4 (.const (.bool true)) Xhe),oM 29 Xhq]) (.cond Xgj (.seq (.reg [oD 36 (.build [(.int .i64 0),(.int .i64 0),(.int .u32 0),(.int .u32 0),(.int .i64 0),(.int .i64 0),(.int .i64 0),(.string ⟨⟨[]⟩⟩)] []),oN (.store 8 τ6 XhU),oD 7 (.mv (.const (.string ⟨⟨[]⟩⟩))),oD 8 (.mv (.const (.int .i64 3)))]) .ret) (.seq (.reg [oM 38 XcT,oM 39 τ0,oD 40 (.lenS XiV),oD 41 (.bin .gtr Xii Xi5),oM 37 Xjk]) (.cond XhQ (.seq (.reg [oD 42 (.build [(.int .i64 0),(.int .i64 0),(.int .u32 0),(.int .u32 0),(.int .i64 0),(.int .i64 0),(.int .i64 0),(.string ⟨⟨[]⟩⟩)] []),oN (.store 8 τ6 XiS),oD 7 (.mv (.const (.string ⟨⟨[]⟩⟩))),oD 8 (.mv (.const (.int .i64 2)))]) .ret) .skip))))) (.seq (.reg [oD 43 (.loadN [.bool,(.int .u64),(.int .u64)] τ4),oD 44 (.loadN [.bool,(.int .u64),(.int .u64)] τ5),oM 45 τ0,oD 46 (.lenS XjL),oD 47 (.callF 180 [Xi6,XjM,(.const (.int .i64 6)),Xkc]),oM 12 Xka]) (.seq (.block 1 (.seq (.reg [oM 49 Xdu,oD 50 (.bin .eql Xke (.const (.string ⟨⟨[]⟩⟩))),oM 48 XkP]) (.cond Xkd (.seq (.reg [oD 51 (.build [(.int .i64 0),(.int .i64 0),(.int .u32 0),(.int .u32 0),(.int .i64 0),(.int .i64 0),(.int .i64 0),(.string ⟨⟨[]⟩⟩)] []),oN (.store 8 τ6 Xla),oD 7 (.mv (.const (.string ⟨⟨[]⟩⟩))),oD 8 (.mv (.const (.int .i64 1)))]) .ret) (.seq (.reg [oM 53 Xdu,oM 54 τ0,oD 55 (.bin .add Xmp Xm5),oD 56 (.callF 80 [XmG]),oD 57 (.not Xm3),oM 52 XmT]) (.cond Xlc (.seq (.reg [oD 58 (.build [(.int .i64 0),(.int .i64 0),(.int .u32 0),(.int .u32 0),(.int .i64 0),(.int .i64 0),(.int .i64 0),(.string ⟨⟨[]⟩⟩)] []),oN (.store 8 τ6 XmS),oD 7 (.mv (.const (.string ⟨⟨[]⟩⟩))),oD 8 (.mv (.const (.int .i64 4)))]) .ret) .skip))))) (.seq (.reg [oM 59 τ0,oM 60 XcT,oD 61 (.callF 192 [Xny,Xoo]),oD 13 (.alloc [(.int .i64 0),(.int .i64 0),(.int .u32 0),(.int .u32 0),(.int .i64 0),(.int .i64 0),(.int .i64 0),(.string ⟨⟨[]⟩⟩)]),oN (.store 8 Xd0 Xn6)]) (.seq (.seq (.reg [oD 63 (.fieldA 7 Xd0),oD 64 (.load1 .str Xqr),oD 65 (.callF 169 [Xqq]),oM 62 XqZ,oE 66 0 XoS,oE 67 1 XoS,oM 14 XqT,oM 15 Xqx]) (.seq (.reg [oM 68 Xep,oD 69 (.bin .neq Xqs (.const (.int .i64 0)))]) (.cond XrI (.seq (.reg [oD 70 (.build [(.int .i64 0),(.int .i64 0),(.int .u32 0),(.int .u32 0),(.int .i64 0),(.int .i64 0),(.int .i64 0),(.string ⟨⟨[]⟩⟩)] []),oM 71 Xep,oN (.store 8 τ6 Xsr),oD 7 (.mv (.const (.string ⟨⟨[]⟩⟩))),oM 8 Xsw]) .ret) .skip))) (.seq XLO .ret)))))))))
def XRP:VFn:=⟨76,XA8,[.cell 6 [(.int .i64),(.int .i64),(.int .u32),(.int .u32),(.int .i64),(.int .i64),(.int .i64),.str] true,.tmp 7,.tmp 8]⟩
def XBi:VC:=.seq (.reg [oD 4 (.alloc [(.int .i64 0),(.int .i64 0),(.int .u32 0),(.int .u32 0),(.int .i64 0),(.int .i64 0),(.int .i64 0),(.string ⟨⟨[]⟩⟩)])]) (.seq (.reg [oM 7 τ0,oD 8 (.callF 77 [τ7]),oM 5 τ8]) (.seq (.reg [oM 9 τ5,oD 10 (.callF 78 [τ9,(.const (.int .i64 2))]),oM 11 τ5,oD 12 (.callF 78 [XcT,(.const (.int .i64 2))]),oM 13 τ5,oD 14 (.callF 78 [Xd0,(.const (.int .i64 4))]),oD 15 (.conv .u32 Xey),oM 16 τ5,oD 17 (.callF 78 [XeG,(.const (.int .i64 4))]),oD 18 (.conv .u32 Xer),oD 19 (.build [(.int .i64 0),(.int .i64 0),(.int .u32 0),(.int .u32 0),(.int .i64 0),(.int .i64 0),(.int .i64 0),(.string ⟨⟨[]⟩⟩)] [(0,1,XcV),(1,1,Xdu),(2,1,Xep),(3,1,XeT)]),oD 6 (.alloc [(.int .i64 0),(.int .i64 0),(.int .u32 0),(.int .u32 0),(.int .i64 0),(.int .i64 0),(.int .i64 0),(.string ⟨⟨[]⟩⟩)]),oN (.store 8 τ6 XeP)]) (.seq (.reg [oM 20 τ5,oD 21 (.callF 78 [Xe8,(.const (.int .i64 2))]),oD 22 (.bin .and Xfw (.const (.int .i64 255))),oD 23 (.fieldA 4 τ6),oN (.store 1 Xfu Xfs)]) (.seq (.reg [oM 24 τ5,oD 25 (.callF 78 [XfS,(.const (.int .i64 2))]),oD 26 (.fieldA 5 τ6),oN (.store 1 Xgm Xgf)]) (.seq (.reg [oM 27 τ5,oD 28 (.callF 78 [Xgr,(.const (.int .i64 2))])]) (.seq (.reg [oM 29 τ5,oD 30 (.callF 78 [Xgj,(.const (.int .i64 2))]),oD 31 (.fieldA 6 τ6),oN (.store 1 XgP XgA)]) (.seq (.reg [oM 32 τ5,oM 33 τ1,oD 34 (.bin .sub Xg9 (.const (.int .i64 20))),oD 35 (.callF 129 [Xg4,Xhe]),oD 36 (.fieldA 7 τ6),oN (.store 1 XhU Xhq)]) (.seq (.reg [oD 37 (.loadN [(.int .i64),(.int .i64),(.int .u32),(.int .u32),(.int .i64),(.int .i64),(.int .i64),.str] τ6),oN (.store 8 τ4 XhQ)]) .ret))))))))
def XUJ:VFn:=⟨38,XBi,[.cell 4 [(.int .i64),(.int .i64),(.int .u32),(.int .u32),(.int .i64),(.int .i64),(.int .i64),.str] true]⟩
def XIy:VC:=.reg [oD 5 (.alloc [(.int .i64 0),(.string ⟨⟨[]⟩⟩),(.int .i64 0)]),oN (.store 3 τ5 τ8)]
def Xx4:VC:=.block 1 (.seq (.seq (.reg [oD 9 (.fieldA 2 τ5),oD 10 (.load1 (.int .i64) τ9),oD 11 (.bin .lss XcV (.const (.int .i64 0)))]) (.cond XcT (.seq (.reg [oN (.store 1 τ2 (.const (.slice none 0 0))),oN (.store 1 τ3 (.const (.int .i64 3)))]) .ret) .skip)) (.reg [oD 12 (.load1 .oth τ4),oD 13 (.fieldA 0 τ5),oD 14 (.loadN [(.int .i64),.str] Xd0),oD 15 (.buildSl 1 2 [(.int .i64 0),(.string ⟨⟨[]⟩⟩)] [(0,2,Xey)]),oD 16 (.app 241 2 24 Xdu Xep),oN (.store 1 τ4 XeG)]))
def XM9:VC:=.rangeF τ7 [8] XIy Xx4
def Xym:VC:=.seq (.reg [oD 17 (.load1 .oth τ4),oN (.store 1 τ2 Xer),oN (.store 1 τ3 (.const (.int .i64 0)))]) .ret
def Xyw:VC:=.seq (.reg [oD 2 (.alloc [(.slice none 0 0)]),oD 3 (.alloc [(.int .i64 0)])]) (.seq (.reg [oD 4 (.alloc [(.slice none 0 0)])]) (.seq (.seq (.reg [oM 6 τ0,oD 7 (.callF 170 [τ6])]) (.block 0 XM9)) Xym))
def XVB:VFn:=⟨18,Xyw,[.cell 2 [.oth] false,.cell 3 [(.int .i64)] false]⟩
def XRb:VC:=.seq (.reg [oD 1 (.box τ0),oM 2 (.const .nilFunc)]) (.seq (.reg [oD 3 (.mkFunc 193 [] [τ1]),oM 2 τ3]) .ret)
def XQK:VFn:=⟨4,XRb,[.tmp 2]⟩
def XPV:VC:=.regD [oM 41 τ0,oD 42 (.load1 .str τ1),oM 43 τ3,oD 44 (.idxS XiS Xi6),oD 45 (.conv .i64 XjM),oD 46 (.load1 .str τ1),oM 47 τ3,oD 48 (.bin .add Xka (.const (.int .i64 2))),oM 49 τ3,oM 50 τ4,oD 51 (.bin .add Xke XkP),oD 52 (.sliceS Xkc (some Xkd) (some Xla)),oD 53 (.build [(.int .i64 0),(.string ⟨⟨[]⟩⟩)] [(0,1,XjL),(1,1,Xlc)]),oM 54 τ3,oD 55 (.bin .add Xm5 (.const (.int .i64 2))),oD 56 (.build [(.int .i64 0),(.string ⟨⟨[]⟩⟩),(.int .i64 0)] [(0,2,Xmp),(2,1,XmG)])] [] [oD 57 (.callV Xjk [Xm3]),oD 58 (.not XmT)]
def XpU:VC:=.seq (.seq (.reg [oM 5 τ3,oD 6 (.load1 .str τ1),oD 7 (.lenS τ6),oD 8 (.bin .lss τ5 τ7)]) (.cond τ8 .skip (.exit 0))) (.block 1 (.seq (.seq (.reg [oD 9 (.load1 .str τ1),oM 10 τ3,oD 11 (.idxS τ9 XcV)]) (.block 2 (.seq (.reg [oD 13 (.bin .eql XcT (.const (.int .u8 0))),oM 12 Xd0]) (.cond Xdu .ret (.seq (.reg [oD 15 (.bin .eql XcT (.const (.int .u8 1))),oM 14 Xep]) (.cond Xey (.seq (.reg [oM 16 τ3,oD 17 (.bin .add XeG (.const (.int .i64 1))),oM 3 Xer]) (.exit 1)) .skip)))))) (.seq (.reg [oD 4 (.mv (.const (.int .i64 0)))]) (.seq (.seq (.reg [oM 18 τ3,oD 19 (.bin .add XeT (.const (.int .i64 1))),oD 20 (.load1 .str τ1),oD 21 (.lenS Xe8),oD 22 (.bin .lss XeP Xfw)]) (.cond Xfs (.reg [oD 23 (.load1 .str τ1),oM 24 τ3,oD 25 (.bin .add XfS (.const (.int .i64 1))),oD 26 (.idxS Xfu Xgf),oD 27 (.conv .i64 Xgm),oM 4 Xgr]) .skip)) (.seq (.seq (.reg [oM 28 τ4,oD 29 (.bin .lss Xgk (.const (.int .i64 2))),oM 30 Xgj,oG 31 (.mv τ4) 30 false,oG 32 (.load1 .str τ1) 30 false,oG 33 (.lenS Xg4) 30 false,oG 34 (.mv τ3) 30 false,oG 35 (.bin .sub Xg9 Xhe) 30 false,oG 36 (.bin .gtr XgP Xhq) 30 false,oD 37 (.pick XgA (.const (.bool true)) XhU)]) (.cond XhQ (.seq (.reg [oM 38 τ0,oD 39 (.build [(.int .i64 0),(.string ⟨⟨[]⟩⟩),(.int .i64 0)] [(2,1,(.const (.int .i64 (-1))))]),oD 40 (.callV Xii [XiV])]) .ret) .skip)) (.seq (.seq XPV (.cond XmS .ret .skip)) (.reg [oM 59 τ3,oM 60 τ4,oD 61 (.bin .add Xny Xoo),oM 3 Xn6])))))))
def XP0:VC:=.seq (.reg [oD 3 (.mv (.const (.int .i64 0)))]) (.block 0 (.loop XpU))
def XRi:VFn:=⟨62,XP0,[]⟩
def XI1:VC:=.reg [oD 7 (.alloc [(.int .i64 0),(.string ⟨⟨[]⟩⟩),(.int .i64 0)]),oN (.store 3 τ7 XeP)]
def XOn:VC:=.regD [oM 39 τ8,oD 40 (.bin .shr XiV (.const (.int .u64 32))),oD 41 (.conv .u32 Xi5),oM 42 τ8,oD 43 (.conv .u32 XiS),oD 44 (.fieldA 2 τ7),oD 45 (.load1 (.int .i64) XjM),oN (.store 1 τ2 Xjk),oN (.store 1 τ3 Xi6)] [(6,7),(6,8)] [oN (.store 1 τ4 XjL)]
def XzC:VC:=.block 1 (.seq (.seq (.reg [oD 20 (.fieldA 0 τ7),oD 21 (.fieldA 0 Xe8),oD 22 (.load1 (.int .i64) Xfw),oD 23 (.bin .neq Xfs (.const (.int .i64 8)))]) (.cond Xfu (.exit 1) .skip)) (.seq (.seq (.reg [oD 25 (.fieldA 0 τ7),oD 26 (.fieldA 1 Xgf),oD 27 (.load1 .str Xgm),oD 28 (.callF 95 [Xgr,(.const (.int .i64 0)),(.const (.int .i64 8))]),oM 24 Xgk,oE 29 0 XfS,oE 30 1 XfS,oM 8 Xgj,oM 9 XgA]) (.seq (.reg [oM 31 τ9,oM 32 XgP,oG 33 (.fieldA 0 τ7) 32 true,oG 34 (.fieldA 1 Xg9) 32 true,oG 35 (.load1 .str Xhe) 32 true,oG 36 (.lenS Xhq) 32 true,oG 37 (.bin .eql XhU (.const (.int .i64 8))) 32 true,oD 38 (.pick Xg4 XhQ (.const (.bool false)))]) (.cond Xii (.seq XOn .ret) .skip))) (.exit 0)))
def XLT:VC:=.rangeF XeT [19] XI1 XzC
def XxS:VC:=.seq (.reg [oN (.store 1 τ2 (.const (.int .u32 0))),oN (.store 1 τ3 (.const (.int .u32 0))),oN (.store 1 τ4 (.const (.int .i64 (-1))))]) .ret
def XAW:VC:=.seq (.reg [oD 2 (.alloc [(.int .u32 0)]),oD 3 (.alloc [(.int .u32 0)]),oD 4 (.alloc [(.int .i64 0)])]) (.seq (.seq (.reg [oM 11 τ0,oD 12 (.callF 169 [XcT]),oM 10 Xdu,oE 13 0 XcV,oE 14 1 XcV,oM 5 Xd0,oM 6 Xey]) (.seq (.reg [oM 15 τ6,oD 16 (.bin .neq Xep (.const (.int .i64 0)))]) (.cond XeG (.seq (.reg [oN (.store 1 τ2 (.const (.int .u32 0))),oN (.store 1 τ3 (.const (.int .u32 0))),oN (.store 1 τ4 (.const (.int .i64 (-1))))]) .ret) .skip))) (.seq (.seq (.reg [oM 17 τ0,oD 18 (.callF 170 [Xer])]) (.block 0 XLT)) XxS))
def XWl:VFn:=⟨46,XAW,[.cell 2 [(.int .u32)] false,.cell 3 [(.int .u32)] false,.cell 4 [(.int .i64)] false]⟩
def XNR:VC:=.regD [oM 34 τ1,oM 35 τ1,oD 36 (.fieldA 0 τ6),oD 37 (.load1 (.int .i64) XhU),oD 38 (.fieldA 1 τ6),oD 39 (.load1 (.int .i64) Xii),oD 40 (.nilCheck Xhe),oD 41 (.fieldA 0 Xi5),oD 42 (.fieldA 7 Xjk),oN (.store 1 XiS XhQ)] [(5,9)] [oD 43 (.nilCheck Xhq),oD 44 (.fieldA 0 Xi6),oD 45 (.fieldA 8 XjM),oN (.store 1 XjL XiV)]
def XOi:VC:=.regD [oM 53 τ1,oM 54 τ1,oD 55 (.fieldA 0 τ9),oD 56 (.load1 .bool XmG),oD 57 (.fieldA 3 τ9),oD 58 (.load1 .str XmT),oD 59 (.nilCheck Xmp),oD 60 (.fieldA 13 Xny),oN (.store 1 Xoo Xm3)] [(5,8)] [oD 61 (.nilCheck Xm5),oD 62 (.fieldA 14 Xn6),oN (.store 1 XoS XmS)]
def Xyf:VC:=.seq (.reg [oD 2 (.box τ0),oD 4 (.mv (.const (.int .i64 0))),oD 5 (.mv (.const (.int .i64 0)))]) (.seq (.reg [oD 12 (.fieldA 7 τ2),oD 13 (.load1 .str Xdu),oD 14 (.fieldA 0 τ2),oD 15 (.loadN [.bool,(.int .u64),(.int .u64)] Xey),oD 16 (.fieldA 3 τ2),oD 17 (.loadN [.bool,(.int .u64),(.int .u64)] XeG),oD 18 (.callF 168 [Xd0,Xep,Xer]),oM 11 XeT,oE 19 0 XcT,oE 20 1 XcT,oE 21 2 XcT,oD 6 (.alloc [(.int .i64 0),(.int .i64 0)]),oN (.store 2 τ6 XeP),oM 7 Xe8,oM 8 Xfw]) (.seq (.block 0 (.seq (.reg [oM 23 τ8,oD 24 (.bin .neq Xfu (.const (.int .i64 0))),oM 22 XfS]) (.cond Xfs (.seq (.reg [oM 25 τ8,oD 4 (.mv (.const (.int .i64 0))),oM 5 Xgf]) .ret) (.seq (.reg [oM 27 τ7,oD 28 (.lenS Xgr),oD 29 (.fieldA 7 τ2),oD 30 (.load1 .str Xgj),oD 31 (.lenS XgA),oD 32 (.bin .sub XgP (.const (.int .i64 8))),oD 33 (.bin .neq Xgk Xg4),oM 26 Xg9]) (.cond Xgm (.seq (.reg [oD 4 (.mv (.const (.int .i64 0))),oD 5 (.mv (.const (.int .i64 5)))]) .ret) .skip))))) (.seq XNR (.seq (.seq (.reg [oM 47 τ7,oD 48 (.callF 94 [Xka]),oM 46 Xkd,oE 49 0 Xkc,oE 50 1 Xkc,oD 9 (.alloc [(.bool false),(.int .i64 0),(.int .u32 0),(.string ⟨⟨[]⟩⟩),(.string ⟨⟨[]⟩⟩),(.string ⟨⟨[]⟩⟩)]),oN (.store 6 τ9 Xke),oM 10 XkP]) (.seq (.reg [oM 51 XcV,oD 52 (.bin .eql Xla (.const (.int .i64 0)))]) (.cond Xlc XOi .skip))) (.seq (.reg [oM 63 τ7,oD 64 (.lenS Xqr),oM 4 Xqq,oD 5 (.mv (.const (.int .i64 0)))]) .ret)))))
def XRF:VFn:=⟨65,Xyf,[.tmp 4,.tmp 5]⟩
def XOC:VC:=.regD [oD 66 (.loadN [(.int .i64),(.int .i64)] XcV),oM 67 τ0,oM 68 XcT,oD 69 (.sliceS Xqx (some (.const (.int .i64 8))) (some Xqs)),oN (.store 2 τ6 XqT)] [] [oM 7 XrI,oD 8 (.mv (.const (.int .i64 0)))]
def XxY:VC:=.seq (.reg [oD 4 (.box τ1),oD 5 (.box τ2),oD 6 (.alloc [(.int .i64 0),(.int .i64 0)]),oD 7 (.mv (.const (.string ⟨⟨[]⟩⟩))),oD 8 (.mv (.const (.int .i64 0)))]) (.seq (.reg [oM 14 τ0,oD 15 (.callF 77 [Xey]),oM 9 Xep]) (.seq (.reg [oM 16 τ9,oD 17 (.callF 78 [XeG,(.const (.int .i64 2))]),oM 18 τ9,oD 19 (.callF 78 [XeT,(.const (.int .i64 2))]),oD 20 (.build [(.int .i64 0),(.int .i64 0)] [(0,1,Xer),(1,1,XeP)]),oD 10 (.alloc [(.int .i64 0),(.int .i64 0)]),oN (.store 2 XcV Xe8)]) (.seq (.reg [oM 21 τ9,oD 22 (.callF 78 [Xfw,(.const (.int .i64 2))]),oM 23 τ9,oD 24 (.callF 78 [Xfu,(.const (.int .i64 2))]),oM 11 Xfs,oM 12 XfS]) (.seq (.block 0 (.seq (.reg [oM 26 τ9,oD 27 (.callF 138 [Xgm]),oM 25 Xgr]) (.cond Xgf (.seq (.reg [oD 28 (.build [(.int .i64 0),(.int .i64 0)] []),oN (.store 2 τ6 Xgk),oD 7 (.mv (.const (.string ⟨⟨[]⟩⟩))),oD 8 (.mv (.const (.int .i64 2)))]) .ret) (.seq (.reg [oM 30 XcT,oD 31 (.bin .lss XgA (.const (.int .i64 8))),oM 29 XgP]) (.cond Xgj (.seq (.reg [oD 32 (.build [(.int .i64 0),(.int .i64 0)] []),oN (.store 2 τ6 Xg4),oD 7 (.mv (.const (.string ⟨⟨[]⟩⟩))),oD 8 (.mv (.const (.int .i64 3)))]) .ret) (.seq (.reg [oM 34 XcT,oM 35 τ0,oD 36 (.lenS Xhq),oD 37 (.bin .gtr Xhe XhU),oM 33 XhQ]) (.cond Xg9 (.seq (.reg [oD 38 (.build [(.int .i64 0),(.int .i64 0)] []),oN (.store 2 τ6 Xii),oD 7 (.mv (.const (.string ⟨⟨[]⟩⟩))),oD 8 (.mv (.const (.int .i64 2)))]) .ret) .skip))))))) (.seq (.reg [oD 39 (.loadN [.bool,(.int .u64),(.int .u64)] τ4),oD 40 (.loadN [.bool,(.int .u64),(.int .u64)] τ5),oM 41 XcT,oD 42 (.callF 180 [XiV,Xi5,(.const (.int .i64 17)),Xjk]),oM 13 XiS]) (.seq (.block 1 (.seq (.reg [oM 44 Xd0,oD 45 (.bin .eql XjM (.const (.string ⟨⟨[]⟩⟩))),oM 43 XjL]) (.cond Xi6 (.seq (.reg [oD 46 (.build [(.int .i64 0),(.int .i64 0)] []),oN (.store 2 τ6 Xkc),oD 7 (.mv (.const (.string ⟨⟨[]⟩⟩))),oD 8 (.mv (.const (.int .i64 1)))]) .ret) (.seq (.seq (.reg [oM 48 Xdu,oD 49 (.bin .eql Xkd (.const (.int .i64 0))),oM 50 Xke,oG 51 (.fieldA 0 τ4) 50 true,oG 52 (.load1 .bool Xla) 50 true,oD 53 (.pick XkP Xlc (.const (.bool false))),oM 47 Xmp]) (.cond Xka .skip (.reg [oM 54 Xdu,oD 55 (.bin .neq Xm5 (.const (.int .i64 0))),oM 56 XmG,oG 57 (.mv Xd0) 56 true,oG 58 (.mv τ0) 56 true,oG 59 (.mv XcT) 56 true,oG 60 (.sliceS XmS none (some Xny)) 56 true,oG 61 (.bin .add XmT Xoo) 56 true,oG 62 (.callF 80 [Xn6]) 56 true,oG 63 (.not XoS) 56 true,oD 64 (.pick Xm3 Xqr (.const (.bool false))),oM 47 Xqq]))) (.cond Xka (.seq (.reg [oD 65 (.build [(.int .i64 0),(.int .i64 0)] []),oN (.store 2 τ6 XqZ),oD 7 (.mv (.const (.string ⟨⟨[]⟩⟩))),oD 8 (.mv (.const (.int .i64 4)))]) .ret) .skip))))) (.seq XOC .ret)))))))
def XSE:VFn:=⟨70,XxY,[.cell 6 [(.int .i64),(.int .i64)] true,.tmp 7,.tmp 8]⟩
def XJn:VC:=.seq (.reg [oD 2 (.alloc [(.bool false),(.int .i64 0),(.int .u32 0),(.string ⟨⟨[]⟩⟩),(.string ⟨⟨[]⟩⟩),(.string ⟨⟨[]⟩⟩)]),oD 3 (.mv (.const (.int .i64 0)))]) (.seq (.reg [oM 9 τ0,oD 10 (.callF 77 [τ9]),oM 4 XcV]) (.seq (.reg [oM 11 τ4,oD 12 (.callF 78 [XcT,(.const (.int .i64 1))]),oM 5 Xdu]) (.seq (.block 0 (.seq (.reg [oM 14 τ4,oD 15 (.callF 138 [Xey]),oM 13 Xep]) (.cond Xd0 (.seq (.reg [oD 16 (.build [(.bool false),(.int .i64 0),(.int .u32 0),(.string ⟨⟨[]⟩⟩),(.string ⟨⟨[]⟩⟩),(.string ⟨⟨[]⟩⟩)] []),oN (.store 6 τ2 XeG),oD 3 (.mv (.const (.int .i64 2)))]) .ret) (.seq (.reg [oM 18 τ5,oD 19 (.bin .and XeT (.const (.int .i64 64))),oD 20 (.bin .eql XeP (.const (.int .i64 0))),oM 17 Xe8]) (.cond Xer (.seq (.reg [oD 21 (.build [(.bool false),(.int .i64 0),(.int .u32 0),(.string ⟨⟨[]⟩⟩),(.string ⟨⟨[]⟩⟩),(.string ⟨⟨[]⟩⟩)] []),oN (.store 6 τ2 Xfw),oD 3 (.mv (.const (.int .i64 3)))]) .ret) .skip))))) (.seq (.reg [oM 22 τ5,oD 23 (.bin .and Xfs (.const (.int .i64 128))),oD 24 (.bin .neq Xfu (.const (.int .i64 0))),oM 25 τ5,oD 26 (.bin .and Xgf (.const (.int .i64 63))),oD 27 (.build [(.bool false),(.int .i64 0),(.int .u32 0),(.string ⟨⟨[]⟩⟩),(.string ⟨⟨[]⟩⟩),(.string ⟨⟨[]⟩⟩)] [(0,1,XfS),(1,1,Xgm)]),oD 6 (.alloc [(.bool false),(.int .i64 0),(.int .u32 0),(.string ⟨⟨[]⟩⟩),(.string ⟨⟨[]⟩⟩),(.string ⟨⟨[]⟩⟩)]),oN (.store 6 τ6 Xgr)]) (.seq (.seq (.reg [oD 28 (.fieldA 0 τ6),oD 29 (.load1 .bool Xgk),oD 30 (.not Xgj)]) (.cond XgA (.seq (.reg [oM 31 τ4,oD 32 (.mkFunc 129 [XgP] []),oM 7 Xg4]) (.seq (.seq (.reg [oM 33 τ7,oD 34 (.callV Xg9 [(.const (.int .i64 8))]),oD 35 (.fieldA 3 τ6),oN (.store 1 Xhq Xhe)]) (.seq (.reg [oM 36 τ4,oD 37 (.callF 138 [XhU])]) (.cond XhQ (.seq (.reg [oD 38 (.build [(.bool false),(.int .i64 0),(.int .u32 0),(.string ⟨⟨[]⟩⟩),(.string ⟨⟨[]⟩⟩),(.string ⟨⟨[]⟩⟩)] []),oN (.store 6 τ2 Xii),oD 3 (.mv (.const (.int .i64 2)))]) .ret) .skip))) (.seq (.reg [oM 39 τ4,oD 40 (.callF 139 [XiV]),oD 41 (.fieldA 5 τ6),oN (.store 1 Xjk Xi5)]) (.seq (.reg [oD 42 (.loadN [.bool,(.int .i64),(.int .u32),.str,.str,.str] τ6),oN (.store 6 τ2 XiS),oD 3 (.mv (.const (.int .i64 0)))]) .ret)))) .skip)) (.seq (.reg [oM 43 τ4,oD 44 (.callF 78 [Xi6,(.const (.int .i64 4))]),oD 45 (.conv .u32 XjM),oD 46 (.fieldA 2 τ6),oN (.store 1 Xkc XjL)]) (.seq (.seq (.reg [oM 47 τ4,oD 48 (.fieldA 3 τ6),oD 49 (.fieldA 4 τ6),oD 50 (.buildSl 2 1 [(.pointer none),(.pointer none)] [(0,1,Xkd),(1,1,Xke)]),oD 51 (.callF 140 [(.func 141),Xka,XkP]),oM 8 Xla]) (.seq (.reg [oM 52 τ8,oD 53 (.bin .neq Xlc (.const (.int .i64 0)))]) (.cond Xmp (.seq (.reg [oD 54 (.build [(.bool false),(.int .i64 0),(.int .u32 0),(.string ⟨⟨[]⟩⟩),(.string ⟨⟨[]⟩⟩),(.string ⟨⟨[]⟩⟩)] []),oM 55 τ8,oN (.store 6 τ2 Xm5),oM 3 XmG]) .ret) .skip))) (.seq (.reg [oM 56 τ4,oD 57 (.callF 139 [Xm3]),oD 58 (.fieldA 5 τ6),oN (.store 1 XmS XmT)]) (.seq (.reg [oD 59 (.loadN [.bool,(.int .i64),(.int .u32),.str,.str,.str] τ6),oN (.store 6 τ2 Xny),oD 3 (.mv (.const (.int .i64 0)))]) .ret)))))))))
def fn94:VFn:=⟨60,XJn,[.cell 2 [.bool,(.int .i64),(.int .u32),.str,.str,.str] true,.tmp 3]⟩
def XHS:VC:=.seq (.reg [oD 2 (.mv (.const (.string ⟨⟨[]⟩⟩)))]) (.seq (.seq (.reg [oM 3 τ0,oD 4 (.callF 138 [τ3])]) (.cond τ4 (.seq (.reg [oD 2 (.mv (.const (.string ⟨⟨[]⟩⟩)))]) .ret) .skip)) (.seq (.reg [oM 5 τ0,oM 6 τ0,oD 7 (.nilCheck τ6),oD 8 (.fieldA 0 τ7),oD 9 (.load1 .str τ8),oD 10 (.lenS τ9),oD 11 (.callF 129 [τ5,XcV]),oM 2 XcT]) .ret))
def XRz:VFn:=⟨12,XHS,[.tmp 2]⟩
def XPe:VC:=.seq (.reg [oD 6 (.mv (.const (.int .i64 0)))]) (.seq (.seq (.reg [oM 11 τ2,oD 12 (.lenL XcT),oD 13 (.mv (.const (.int .i64 0)))]) (.block 0 (.loop (.seq (.reg [oD 14 (.bin .lss Xd0 Xdu)]) (.seq (.cond Xey .skip (.exit 0)) (.seq (.block 1 (.seq (.reg [oD 15 (.idxAL 1 XcT Xd0),oD 16 (.load1 .oth Xep),oM 8 XeG]) (.seq (.reg [oM 18 τ0,oM 19 τ1,oD 20 (.callV XeT [XeP]),oM 17 Xe8,oE 21 0 Xer,oE 22 1 Xer,oM 9 Xfw,oM 10 Xfs]) (.seq (.seq (.reg [oM 23 XcV,oD 24 (.bin .neq Xfu (.const (.int .i64 0)))]) (.cond XfS (.seq (.reg [oM 25 XcV,oM 6 Xgf]) .ret) .skip)) (.reg [oM 26 τ8,oM 27 τ9,oD 28 (.nilCheck Xgm),oN (.store 1 Xgk Xgr)]))))) (.reg [oD 29 (.bin .add Xd0 (.const (.int .i64 1))),oM 13 Xgj]))))))) (.seq (.reg [oD 6 (.mv (.const (.int .i64 0)))]) .ret))
def XSd:VFn:=⟨30,XPe,[.tmp 6]⟩
theorem XVZ:(Tryz.prog.funcs[6]?).bind (Xaz Tryz.prog)=some fn6:=by kernel_rfl
theorem XKN:(Tryz.prog.funcs[31]?).bind (Xaz Tryz.prog)=some fn31:=by kernel_rfl
theorem XKc:(Tryz.prog.funcs[32]?).bind (Xaz Tryz.prog)=some fn32:=by kernel_rfl
theorem XNA:(Tryz.prog.funcs[33]?).bind (Xaz Tryz.prog)=some fn33:=by kernel_rfl
theorem XPy:(Tryz.prog.funcs[67]?).bind (Xaz Tryz.prog)=some fn67:=by kernel_rfl
theorem XFX:(Tryz.prog.funcs[109]?).bind (Xaz Tryz.prog)=some XRq:=by kernel_rfl
theorem XDe:(Tryz.prog.funcs[110]?).bind (Xaz Tryz.prog)=some XVn:=by kernel_rfl
theorem XOq:(Tryz.prog.funcs[68]?).bind (Xaz Tryz.prog)=some fn68:=by kernel_rfl
theorem XGm:(Tryz.prog.funcs[111]?).bind (Xaz Tryz.prog)=some XTG:=by kernel_rfl
theorem XC2:(Tryz.prog.funcs[155]?).bind (Xaz Tryz.prog)=some XQE:=by kernel_rfl
theorem XB3:(Tryz.prog.funcs[156]?).bind (Xaz Tryz.prog)=some XVP:=by kernel_rfl
theorem XE5:(Tryz.prog.funcs[112]?).bind (Xaz Tryz.prog)=some XSX:=by kernel_rfl
theorem XEO:(Tryz.prog.funcs[157]?).bind (Xaz Tryz.prog)=some XWc:=by kernel_rfl
theorem XE0:(Tryz.prog.funcs[113]?).bind (Xaz Tryz.prog)=some XRx:=by kernel_rfl
theorem XEi:(Tryz.prog.funcs[158]?).bind (Xaz Tryz.prog)=some XWA:=by kernel_rfl
theorem XDO:(Tryz.prog.funcs[159]?).bind (Xaz Tryz.prog)=some XSV:=by kernel_rfl
theorem XC7:(Tryz.prog.funcs[114]?).bind (Xaz Tryz.prog)=some XTN:=by kernel_rfl
theorem XFA:(Tryz.prog.funcs[115]?).bind (Xaz Tryz.prog)=some XR0:=by kernel_rfl
theorem XDI:(Tryz.prog.funcs[116]?).bind (Xaz Tryz.prog)=some XWB:=by kernel_rfl
theorem XL5:(Tryz.prog.funcs[69]?).bind (Xaz Tryz.prog)=some fn69:=by kernel_rfl
theorem XDl:(Tryz.prog.funcs[117]?).bind (Xaz Tryz.prog)=some XQB:=by kernel_rfl
theorem XF9:(Tryz.prog.funcs[119]?).bind (Xaz Tryz.prog)=some XSx:=by kernel_rfl
theorem XL6:(Tryz.prog.funcs[97]?).bind (Xaz Tryz.prog)=some fn97:=by kernel_rfl
theorem XF6:(Tryz.prog.funcs[118]?).bind (Xaz Tryz.prog)=some XVz:=by kernel_rfl
theorem XFO:(Tryz.prog.funcs[160]?).bind (Xaz Tryz.prog)=some XQA:=by kernel_rfl
theorem XD2:(Tryz.prog.funcs[180]?).bind (Xaz Tryz.prog)=some XTX:=by kernel_rfl
theorem XD6:(Tryz.prog.funcs[195]?).bind (Xaz Tryz.prog)=some XTB:=by kernel_rfl
theorem XEN:(Tryz.prog.funcs[196]?).bind (Xaz Tryz.prog)=some XVK:=by kernel_rfl
theorem XCT:(Tryz.prog.funcs[181]?).bind (Xaz Tryz.prog)=some XUo:=by kernel_rfl
theorem XDW:(Tryz.prog.funcs[197]?).bind (Xaz Tryz.prog)=some XU6:=by kernel_rfl
theorem XFj:(Tryz.prog.funcs[182]?).bind (Xaz Tryz.prog)=some XRW:=by kernel_rfl
theorem XF4:(Tryz.prog.funcs[183]?).bind (Xaz Tryz.prog)=some XVU:=by kernel_rfl
theorem XFa:(Tryz.prog.funcs[130]?).bind (Xaz Tryz.prog)=some XQH:=by kernel_rfl
theorem XCd:(Tryz.prog.funcs[164]?).bind (Xaz Tryz.prog)=some XSH:=by kernel_rfl
theorem XFt:(Tryz.prog.funcs[189]?).bind (Xaz Tryz.prog)=some XUA:=by kernel_rfl
theorem XG6:(Tryz.prog.funcs[165]?).bind (Xaz Tryz.prog)=some XWu:=by kernel_rfl
theorem XNl:(Tryz.prog.funcs[98]?).bind (Xaz Tryz.prog)=some fn98:=by kernel_rfl
theorem XDi:(Tryz.prog.funcs[161]?).bind (Xaz Tryz.prog)=some XTo:=by kernel_rfl
theorem XFd:(Tryz.prog.funcs[184]?).bind (Xaz Tryz.prog)=some XSm:=by kernel_rfl
theorem XGW:(Tryz.prog.funcs[198]?).bind (Xaz Tryz.prog)=some XVR:=by kernel_rfl
theorem XER:(Tryz.prog.funcs[185]?).bind (Xaz Tryz.prog)=some XR8:=by kernel_rfl
theorem XGA:(Tryz.prog.funcs[199]?).bind (Xaz Tryz.prog)=some XSR:=by kernel_rfl
theorem XE6:(Tryz.prog.funcs[203]?).bind (Xaz Tryz.prog)=some XSZ:=by kernel_rfl
theorem XDL:(Tryz.prog.funcs[204]?).bind (Xaz Tryz.prog)=some XUX:=by kernel_rfl
theorem XCt:(Tryz.prog.funcs[120]?).bind (Xaz Tryz.prog)=some XVc:=by kernel_rfl
theorem XDy:(Tryz.prog.funcs[121]?).bind (Xaz Tryz.prog)=some XUM:=by kernel_rfl
theorem XJH:(Tryz.prog.funcs[70]?).bind (Xaz Tryz.prog)=some fn70:=by kernel_rfl
theorem XDD:(Tryz.prog.funcs[122]?).bind (Xaz Tryz.prog)=some XRR:=by kernel_rfl
theorem XFw:(Tryz.prog.funcs[123]?).bind (Xaz Tryz.prog)=some XQr:=by kernel_rfl
theorem XF2:(Tryz.prog.funcs[162]?).bind (Xaz Tryz.prog)=some XSG:=by kernel_rfl
theorem XHC:(Tryz.prog.funcs[186]?).bind (Xaz Tryz.prog)=some XUc:=by kernel_rfl
theorem XGR:(Tryz.prog.funcs[187]?).bind (Xaz Tryz.prog)=some XQ5:=by kernel_rfl
theorem XCw:(Tryz.prog.funcs[163]?).bind (Xaz Tryz.prog)=some XV2:=by kernel_rfl
theorem XGZ:(Tryz.prog.funcs[188]?).bind (Xaz Tryz.prog)=some XT1:=by kernel_rfl
theorem XCh:(Tryz.prog.funcs[200]?).bind (Xaz Tryz.prog)=some XUt:=by kernel_rfl
theorem XGV:(Tryz.prog.funcs[124]?).bind (Xaz Tryz.prog)=some XWL:=by kernel_rfl
theorem XDB:(Tryz.prog.funcs[125]?).bind (Xaz Tryz.prog)=some XRS:=by kernel_rfl
theorem XMu:(Tryz.prog.funcs[93]?).bind (Xaz Tryz.prog)=some fn93:=by kernel_rfl
theorem XN0:(Tryz.prog.funcs[81]?).bind (Xaz Tryz.prog)=some fn81:=by kernel_rfl
theorem XDM:(Tryz.prog.funcs[131]?).bind (Xaz Tryz.prog)=some XSa:=by kernel_rfl
theorem XGN:(Tryz.prog.funcs[166]?).bind (Xaz Tryz.prog)=some XUT:=by kernel_rfl
theorem XCF:(Tryz.prog.funcs[190]?).bind (Xaz Tryz.prog)=some XQM:=by kernel_rfl
theorem XMx:(Tryz.prog.funcs[77]?).bind (Xaz Tryz.prog)=some fn77:=by kernel_rfl
theorem XKo:(Tryz.prog.funcs[78]?).bind (Xaz Tryz.prog)=some fn78:=by kernel_rfl
theorem XGr:(Tryz.prog.funcs[129]?).bind (Xaz Tryz.prog)=some XWn:=by kernel_rfl
theorem XDz:(Tryz.prog.funcs[138]?).bind (Xaz Tryz.prog)=some XSw:=by kernel_rfl
theorem XLb:(Tryz.prog.funcs[95]?).bind (Xaz Tryz.prog)=some fn95:=by kernel_rfl
theorem XJL:(Tryz.prog.funcs[80]?).bind (Xaz Tryz.prog)=some fn80:=by kernel_rfl
theorem XGb:(Tryz.prog.funcs[201]?).bind (Xaz Tryz.prog)=some XSF:=by kernel_rfl
theorem XGQ:(Tryz.prog.funcs[202]?).bind (Xaz Tryz.prog)=some XSY:=by kernel_rfl
theorem XHb:(Tryz.prog.funcs[191]?).bind (Xaz Tryz.prog)=some XTI:=by kernel_rfl
theorem XDP:(Tryz.prog.funcs[132]?).bind (Xaz Tryz.prog)=some XTd:=by kernel_rfl
theorem XEv:(Tryz.prog.funcs[167]?).bind (Xaz Tryz.prog)=some XRP:=by kernel_rfl
theorem XB5:(Tryz.prog.funcs[192]?).bind (Xaz Tryz.prog)=some XUJ:=by kernel_rfl
theorem XFo:(Tryz.prog.funcs[169]?).bind (Xaz Tryz.prog)=some XVB:=by kernel_rfl
theorem XD0:(Tryz.prog.funcs[170]?).bind (Xaz Tryz.prog)=some XQK:=by kernel_rfl
theorem XCz:(Tryz.prog.funcs[193]?).bind (Xaz Tryz.prog)=some XRi:=by kernel_rfl
theorem XHB:(Tryz.prog.funcs[134]?).bind (Xaz Tryz.prog)=some XWl:=by kernel_rfl
theorem XCN:(Tryz.prog.funcs[133]?).bind (Xaz Tryz.prog)=some XRF:=by kernel_rfl
theorem XB7:(Tryz.prog.funcs[168]?).bind (Xaz Tryz.prog)=some XSE:=by kernel_rfl
theorem XJ4:(Tryz.prog.funcs[94]?).bind (Xaz Tryz.prog)=some fn94:=by kernel_rfl
theorem XFm:(Tryz.prog.funcs[139]?).bind (Xaz Tryz.prog)=some XRz:=by kernel_rfl
theorem XDk:(Tryz.prog.funcs[140]?).bind (Xaz Tryz.prog)=some XSd:=by kernel_rfl
def XA2:VC:=.seq (.reg [oD 2 (.mv (.const (.string ⟨⟨[]⟩⟩))),oD 3 (.mv (.const (.int .i64 0)))]) (.seq (.reg [oM 6 τ0,oD 7 (.callF 78 [τ6,(.const (.int .i64 1))]),oM 4 τ7]) (.seq (.seq (.reg [oM 8 τ0,oD 9 (.callF 138 [τ8]),oD 10 (.not τ9),oM 11 XcV,oG 12 (.mv τ4) 11 true,oG 13 (.bin .gtr Xdu (.const (.int .i64 20))) 11 true,oD 14 (.pick XcT Xd0 (.const (.bool false)))]) (.cond Xey (.seq (.reg [oD 2 (.mv (.const (.string ⟨⟨[]⟩⟩))),oD 3 (.mv (.const (.int .i64 3)))]) .ret) .skip)) (.seq (.reg [oM 15 τ0,oM 16 τ4,oD 17 (.callF 129 [Xep,XeG]),oM 5 Xer]) (.seq (.seq (.reg [oM 18 τ0,oD 19 (.callF 138 [XeT])]) (.cond XeP (.seq (.reg [oD 2 (.mv (.const (.string ⟨⟨[]⟩⟩))),oD 3 (.mv (.const (.int .i64 2)))]) .ret) .skip)) (.seq (.reg [oM 20 τ5,oM 2 Xe8,oD 3 (.mv (.const (.int .i64 0)))]) .ret)))))
def XQQ:VFn:=⟨21,XA2,[.tmp 2,.tmp 3]⟩
def XyO:VC:=.seq (.reg [oD 2 (.mv (.const (.string ⟨⟨[]⟩⟩)))]) (.seq (.seq (.reg [oM 5 τ0,oD 6 (.callF 72 [τ5]),oD 7 (.not τ6)]) (.cond τ7 (.seq (.reg [oD 2 (.mv (.const (.string ⟨⟨[]⟩⟩)))]) .ret) .skip)) (.seq (.reg [oM 9 τ0,oD 10 (.nilCheck τ9),oD 11 (.fieldA 9 XcV),oD 12 (.fieldA 0 XcT),oD 13 (.load1 .oth Xdu),oM 14 τ0,oD 15 (.callV Xd0 [Xey]),oM 8 Xep,oE 16 0 τ8,oE 17 1 τ8,oM 3 XeG,oM 4 Xer]) (.seq (.reg [oM 18 τ3,oM 2 XeT]) .ret)))
def fn35:VFn:=⟨19,XyO,[.tmp 2]⟩
def XLP:VC:=.seq (.reg [oD 2 (.mv (.const (.bool false)))]) (.seq (.reg [oM 3 τ0,oD 4 (.isNil 0 true τ3),oM 5 τ4,oG 6 (.mv τ0) 5 true,oG 7 (.nilCheck τ6) 5 true,oG 8 (.fieldA 9 τ7) 5 true,oG 9 (.fieldA 1 τ8) 5 true,oG 10 (.load1 .oth τ9) 5 true,oG 11 (.isNil 2 true XcV) 5 true,oD 12 (.pick τ5 XcT (.const (.bool false))),oM 2 Xdu]) .ret)
def fn72:VFn:=⟨13,XLP,[.tmp 2]⟩
def XVW:VC:=.seq (.reg [oD 2 (.alloc [(.int .i64 0),(.bool false),(.int .u64 0),(.int .u64 0),(.bool false),(.int .u64 0),(.int .u64 0),(.int .i64 0),(.int .i64 0),(.int .i64 0),(.bool false),(.int .u32 0),(.int .u32 0),(.bool false),(.string ⟨⟨[]⟩⟩),(.int .i64 0)]),oD 3 (.mv (.const (.int .i64 0)))]) (.seq (.reg [oM 9 τ0,oD 10 (.callF 66 [τ9]),oM 8 XcV,oE 11 0 τ8,oE 12 1 τ8,oE 13 2 τ8,oE 14 3 τ8,oD 4 (.alloc [(.int .i64 0),(.bool false),(.int .u64 0),(.int .u64 0),(.bool false),(.int .u64 0),(.int .u64 0),(.int .i64 0),(.int .i64 0),(.int .i64 0),(.bool false),(.int .u32 0),(.int .u32 0),(.bool false),(.string ⟨⟨[]⟩⟩),(.int .i64 0)]),oN (.store 16 τ4 XcT),oM 5 Xdu,oM 6 Xd0,oM 7 Xey]) (.seq (.reg [oD 15 (.loadN [(.int .i64),.bool,(.int .u64),(.int .u64),.bool,(.int .u64),(.int .u64),(.int .i64),(.int .i64),(.int .i64),.bool,(.int .u32),(.int .u32),.bool,.str,(.int .i64)] τ4),oM 16 τ7,oN (.store 16 τ2 Xep),oM 3 XeG]) .ret))
def fn28:VFn:=⟨17,XVW,[.cell 2 [(.int .i64),.bool,(.int .u64),(.int .u64),.bool,(.int .u64),(.int .u64),(.int .i64),(.int .i64),(.int .i64),.bool,(.int .u32),(.int .u32),.bool,.str,(.int .i64)] true,.tmp 3]⟩
def XVD:VC:=.regD [oD 97 (.loadN [(.int .i64),.bool,(.int .u64),(.int .u64),.bool,(.int .u64),(.int .u64),(.int .i64),(.int .i64),(.int .i64),.bool,(.int .u32),(.int .u32),.bool,.str,(.int .i64)] τ8),oD 98 (.fieldA 7 τ6),oD 99 (.load1 (.int .i64) XQj),oD 100 (.fieldA 7 τ6),oD 101 (.load1 (.int .i64) XwY),oD 102 (.bin .add Xwl (.const (.int .i64 20))),oD 103 (.fieldA 7 τ9),oD 104 (.load1 .str Xxb),oD 105 (.lenS Xz3),oD 106 (.bin .add XA7 XA6),oN (.store 16 τ2 XI4),oM 3 XQi] [(2,10),(4,10),(7,10)] [oM 4 XxQ,oD 5 (.mv (.const (.int .i64 0)))]
def XUw:VC:=.regD [oD 155 (.loadN [(.int .i64),.bool,(.int .u64),(.int .u64),.bool,(.int .u64),(.int .u64),(.int .i64),(.int .i64),(.int .i64),.bool,(.int .u32),(.int .u32),.bool,.str,(.int .i64)] τ8),oD 156 (.fieldA 7 τ6),oD 157 (.load1 (.int .i64) XLV),oD 158 (.fieldA 7 τ6),oD 159 (.load1 (.int .i64) XWr),oD 160 (.bin .add XVb (.const (.int .i64 8))),oN (.store 16 τ2 XOt),oM 3 XUN] [(2,6),(4,6)] [oM 4 XS9,oD 5 (.mv (.const (.int .i64 0)))]
def XIH:VC:=.seq (.reg [oD 2 (.alloc [(.int .i64 0),(.bool false),(.int .u64 0),(.int .u64 0),(.bool false),(.int .u64 0),(.int .u64 0),(.int .i64 0),(.int .i64 0),(.int .i64 0),(.bool false),(.int .u32 0),(.int .u32 0),(.bool false),(.string ⟨⟨[]⟩⟩),(.int .i64 0)]),oD 3 (.mv (.const (.int .i64 0))),oD 4 (.mv (.const (.int .i64 0))),oD 5 (.mv (.const (.int .i64 0)))]) (.seq (.seq (.reg [oM 18 τ0,oD 19 (.lenS XeT),oD 20 (.bin .gtr XeP (.const (.int .i64 9000)))]) (.cond Xe8 (.seq (.reg [oD 21 (.build [(.int .i64 0),(.bool false),(.int .u64 0),(.int .u64 0),(.bool false),(.int .u64 0),(.int .u64 0),(.int .i64 0),(.int .i64 0),(.int .i64 0),(.bool false),(.int .u32 0),(.int .u32 0),(.bool false),(.string ⟨⟨[]⟩⟩),(.int .i64 0)] []),oN (.store 16 τ2 Xfw),oD 3 (.mv (.const (.int .i64 0))),oD 4 (.mv (.const (.int .i64 0))),oD 5 (.mv (.const (.int .i64 5)))]) .ret) .skip)) (.seq (.seq (.reg [oM 22 τ0,oD 23 (.bin .eql Xfs (.const (.string ⟨⟨[]⟩⟩)))]) (.cond Xfu (.seq (.reg [oD 24 (.build [(.int .i64 0),(.bool false),(.int .u64 0),(.int .u64 0),(.bool false),(.int .u64 0),(.int .u64 0),(.int .i64 0),(.int .i64 0),(.int .i64 0),(.bool false),(.int .u32 0),(.int .u32 0),(.bool false),(.string ⟨⟨[]⟩⟩),(.int .i64 0)] []),oN (.store 16 τ2 XfS),oD 3 (.mv (.const (.int .i64 0))),oD 4 (.mv (.const (.int .i64 0))),oD 5 (.mv (.const (.int .i64 2)))]) .ret) .skip)) (.seq (.reg [oM 26 τ0,oD 27 (.callF 105 [Xgm]),oM 25 Xgr,oE 28 0 Xgf,oE 29 1 Xgf,oD 6 (.alloc [(.bool false),(.int .u64 0),(.int .u64 0),(.bool false),(.int .u64 0),(.int .u64 0),(.int .i64 0),(.int .i64 0),(.string ⟨⟨[]⟩⟩)]),oN (.store 9 τ6 Xgk),oM 7 Xgj]) (.seq (.seq (.reg [oM 30 τ7,oD 31 (.bin .neq XgA (.const (.int .i64 0)))]) (.cond XgP (.seq (.reg [oD 32 (.build [(.int .i64 0),(.bool false),(.int .u64 0),(.int .u64 0),(.bool false),(.int .u64 0),(.int .u64 0),(.int .i64 0),(.int .i64 0),(.int .i64 0),(.bool false),(.int .u32 0),(.int .u32 0),(.bool false),(.string ⟨⟨[]⟩⟩),(.int .i64 0)] []),oM 33 τ7,oN (.store 16 τ2 Xg4),oD 3 (.mv (.const (.int .i64 0))),oD 4 (.mv (.const (.int .i64 0))),oM 5 Xg9]) .ret) .skip)) (.seq (.seq (.reg [oD 34 (.fieldA 7 τ6),oD 35 (.load1 (.int .i64) Xhe),oD 36 (.fieldA 8 τ6),oD 37 (.load1 .str XhU),oD 38 (.lenS XhQ),oD 39 (.bin .add Xhq Xii),oM 40 τ0,oD 41 (.lenS Xi5),oD 42 (.bin .neq XiV Xjk)]) (.cond XiS (.seq (.reg [oD 43 (.build [(.int .i64 0),(.bool false),(.int .u64 0),(.int .u64 0),(.bool false),(.int .u64 0),(.int .u64 0),(.int .i64 0),(.int .i64 0),(.int .i64 0),(.bool false),(.int .u32 0),(.int .u32 0),(.bool false),(.string ⟨⟨[]⟩⟩),(.int .i64 0)] []),oN (.store 16 τ2 Xi6),oD 3 (.mv (.const (.int .i64 0))),oD 4 (.mv (.const (.int .i64 0))),oD 5 (.mv (.const (.int .i64 5)))]) .ret) .skip)) (.seq (.reg [oM 44 τ0,oD 45 (.lenS XjM),oD 46 (.fieldA 6 τ6),oD 47 (.load1 (.int .i64) Xkc),oD 48 (.fieldA 0 τ6),oD 49 (.loadN [.bool,(.int .u64),(.int .u64)] Xkd),oD 50 (.fieldA 3 τ6),oD 51 (.loadN [.bool,(.int .u64),(.int .u64)] XkP),oD 52 (.build [(.int .i64 0),(.bool false),(.int .u64 0),(.int .u64 0),(.bool false),(.int .u64 0),(.int .u64 0),(.int .i64 0),(.int .i64 0)] [(0,1,Xka),(1,3,Xke),(4,3,Xla)]),oD 53 (.build [(.int .i64 0),(.bool false),(.int .u64 0),(.int .u64 0),(.bool false),(.int .u64 0),(.int .u64 0),(.int .i64 0),(.int .i64 0),(.int .i64 0),(.bool false),(.int .u32 0),(.int .u32 0),(.bool false),(.string ⟨⟨[]⟩⟩),(.int .i64 0)] [(15,1,XjL),(0,9,Xlc)]),oD 8 (.alloc [(.int .i64 0),(.bool false),(.int .u64 0),(.int .u64 0),(.bool false),(.int .u64 0),(.int .u64 0),(.int .i64 0),(.int .i64 0),(.int .i64 0),(.bool false),(.int .u32 0),(.int .u32 0),(.bool false),(.string ⟨⟨[]⟩⟩),(.int .i64 0)]),oN (.store 16 τ8 Xmp)]) (.seq (.seq (.reg [oD 54 (.fieldA 6 τ6),oD 55 (.load1 (.int .i64) Xm5),oD 56 (.bin .eql XmG (.const (.int .i64 6)))]) (.cond Xm3 (.seq (.reg [oD 58 (.fieldA 8 τ6),oD 59 (.load1 .str XmS),oD 60 (.fieldA 0 τ6),oD 61 (.loadN [.bool,(.int .u64),(.int .u64)] Xoo),oD 62 (.fieldA 3 τ6),oD 63 (.loadN [.bool,(.int .u64),(.int .u64)] XoS),oD 64 (.callF 106 [Xny,Xn6,Xqr]),oM 57 Xqq,oE 65 0 XmT,oE 66 1 XmT,oE 67 2 XmT,oD 9 (.alloc [(.int .i64 0),(.int .i64 0),(.int .u32 0),(.int .u32 0),(.int .i64 0),(.int .i64 0),(.int .i64 0),(.string ⟨⟨[]⟩⟩)]),oN (.store 8 τ9 XqZ),oM 10 XqT,oM 11 Xqx]) (.seq (.seq (.reg [oM 68 XcT,oD 69 (.bin .neq Xqs (.const (.int .i64 0)))]) (.cond XrI (.seq (.reg [oD 70 (.build [(.int .i64 0),(.bool false),(.int .u64 0),(.int .u64 0),(.bool false),(.int .u64 0),(.int .u64 0),(.int .i64 0),(.int .i64 0),(.int .i64 0),(.bool false),(.int .u32 0),(.int .u32 0),(.bool false),(.string ⟨⟨[]⟩⟩),(.int .i64 0)] []),oM 71 XcT,oN (.store 16 τ2 Xsr),oD 3 (.mv (.const (.int .i64 0))),oD 4 (.mv (.const (.int .i64 0))),oM 5 Xsw]) .ret) .skip)) (.seq (.reg [oD 72 (.fieldA 0 τ9),oD 73 (.load1 (.int .i64) Xsv),oD 74 (.fieldA 0 τ8),oD 75 (.fieldA 7 Xva),oN (.store 1 Xvj XtM)]) (.seq (.reg [oD 76 (.fieldA 1 τ9),oD 77 (.load1 (.int .i64) Xxh),oD 78 (.fieldA 0 τ8),oD 79 (.fieldA 8 Xxr),oN (.store 1 Xyc Xxo)]) (.seq (.reg [oD 80 (.fieldA 4 τ9),oD 81 (.load1 (.int .i64) XyU),oD 82 (.fieldA 9 τ8),oN (.store 1 XCI XBK)]) (.seq (.reg [oD 84 (.fieldA 7 τ9),oD 85 (.load1 .str XID),oD 86 (.callF 107 [XI7]),oM 83 XMc,oE 87 0 XBM,oE 88 1 XBM,oE 89 2 XBM,oM 12 XPP,oM 13 XL4,oM 14 XO5]) (.seq (.seq (.reg [oM 90 Xey,oD 91 (.bin .geq XOg (.const (.int .i64 0)))]) (.cond XNN (.seq (.reg [oD 92 (.fieldA 10 τ8),oN (.store 1 XNE (.const (.bool true)))]) (.seq (.reg [oM 93 Xdu,oD 94 (.fieldA 11 τ8),oN (.store 1 XND XKO)]) (.reg [oM 95 Xd0,oD 96 (.fieldA 12 τ8),oN (.store 1 XP7 XOW)]))) .skip)) (.seq XVD .ret)))))))) .skip)) (.seq (.seq (.reg [oD 107 (.fieldA 6 τ6),oD 108 (.load1 (.int .i64) Xx5),oD 109 (.bin .neq XxG (.const (.int .i64 17)))]) (.cond XyX (.seq (.reg [oD 110 (.build [(.int .i64 0),(.bool false),(.int .u64 0),(.int .u64 0),(.bool false),(.int .u64 0),(.int .u64 0),(.int .i64 0),(.int .i64 0),(.int .i64 0),(.bool false),(.int .u32 0),(.int .u32 0),(.bool false),(.string ⟨⟨[]⟩⟩),(.int .i64 0)] []),oN (.store 16 τ2 XEP),oD 3 (.mv (.const (.int .i64 0))),oD 4 (.mv (.const (.int .i64 0))),oD 5 (.mv (.const (.int .i64 6)))]) .ret) .skip)) (.seq (.reg [oD 112 (.fieldA 8 τ6),oD 113 (.load1 .str Xy6),oD 114 (.fieldA 0 τ6),oD 115 (.loadN [.bool,(.int .u64),(.int .u64)] Xw7),oD 116 (.fieldA 3 τ6),oD 117 (.loadN [.bool,(.int .u64),(.int .u64)] XBA),oD 118 (.callF 108 [Xx7,XBy,XxM]),oM 111 XxX,oE 119 0 Xuu,oE 120 1 Xuu,oE 121 2 Xuu,oD 15 (.alloc [(.int .i64 0),(.int .i64 0)]),oN (.store 2 Xep XA1),oM 16 XzN,oM 7 XzF]) (.seq (.seq (.reg [oM 122 τ7,oD 123 (.bin .neq XyG (.const (.int .i64 0)))]) (.cond XFg (.seq (.reg [oD 124 (.build [(.int .i64 0),(.bool false),(.int .u64 0),(.int .u64 0),(.bool false),(.int .u64 0),(.int .u64 0),(.int .i64 0),(.int .i64 0),(.int .i64 0),(.bool false),(.int .u32 0),(.int .u32 0),(.bool false),(.string ⟨⟨[]⟩⟩),(.int .i64 0)] []),oM 125 τ7,oN (.store 16 τ2 XBl),oD 3 (.mv (.const (.int .i64 0))),oD 4 (.mv (.const (.int .i64 0))),oM 5 XFb]) .ret) .skip)) (.seq (.seq (.reg [oM 126 XeG,oD 127 (.lenS XEZ),oD 128 (.bin .add XES (.const (.int .i64 8))),oD 129 (.fieldA 8 τ6),oD 130 (.load1 .str XGk),oD 131 (.lenS XEf),oD 132 (.bin .neq XCX XFz)]) (.cond XGG (.seq (.reg [oD 133 (.build [(.int .i64 0),(.bool false),(.int .u64 0),(.int .u64 0),(.bool false),(.int .u64 0),(.int .u64 0),(.int .i64 0),(.int .i64 0),(.int .i64 0),(.bool false),(.int .u32 0),(.int .u32 0),(.bool false),(.string ⟨⟨[]⟩⟩),(.int .i64 0)] []),oN (.store 16 τ2 XEJ),oD 3 (.mv (.const (.int .i64 0))),oD 4 (.mv (.const (.int .i64 0))),oD 5 (.mv (.const (.int .i64 5)))]) .ret) .skip)) (.seq (.reg [oD 134 (.fieldA 0 Xep),oD 135 (.load1 (.int .i64) XCe),oD 136 (.fieldA 0 τ8),oD 137 (.fieldA 7 XGu),oN (.store 1 XAc XGD)]) (.seq (.reg [oD 138 (.fieldA 1 Xep),oD 139 (.load1 (.int .i64) XLH),oD 140 (.fieldA 0 τ8),oD 141 (.fieldA 8 XMd),oN (.store 1 XJD XOr)]) (.seq (.reg [oM 143 XeG,oD 144 (.callF 74 [XLX]),oM 142 XPj,oE 145 0 XCL,oE 146 1 XCL,oD 17 (.alloc [(.bool false),(.int .i64 0),(.int .u32 0),(.string ⟨⟨[]⟩⟩),(.string ⟨⟨[]⟩⟩),(.string ⟨⟨[]⟩⟩)]),oN (.store 6 Xer XOJ),oM 7 XPK]) (.seq (.seq (.reg [oM 147 τ7,oD 148 (.bin .eql XLM (.const (.int .i64 0)))]) (.cond XJW (.seq (.reg [oD 149 (.fieldA 0 Xer),oD 150 (.load1 .bool XNn),oD 151 (.fieldA 13 τ8),oN (.store 1 XLW XQa)]) (.reg [oD 152 (.fieldA 3 Xer),oD 153 (.load1 .str XOe),oD 154 (.fieldA 14 τ8),oN (.store 1 XMz XMD)])) .skip)) (.seq XUw .ret))))))))))))))))
def fn66:VFn:=⟨161,XIH,[.cell 2 [(.int .i64),.bool,(.int .u64),(.int .u64),.bool,(.int .u64),(.int .u64),(.int .i64),(.int .i64),(.int .i64),.bool,(.int .u32),(.int .u32),.bool,.str,(.int .i64)] true,.tmp 3,.tmp 4,.tmp 5]⟩
def Xyk:VC:=.seq (.reg [oD 2 (.alloc [(.bool false),(.int .u64 0),(.int .u64 0),(.bool false),(.int .u64 0),(.int .u64 0),(.int .i64 0),(.int .i64 0),(.string ⟨⟨[]⟩⟩)]),oD 3 (.mv (.const (.int .i64 0)))]) (.seq (.seq (.reg [oM 10 τ0,oD 11 (.idxS XcV (.const (.int .i64 0))),oD 12 (.bin .quo XcT (.const (.int .u8 16))),oD 13 (.bin .eql Xdu (.const (.int .u8 4)))]) (.cond Xd0 (.seq (.reg [oM 15 τ0,oD 16 (.callF 152 [Xep]),oM 14 XeG,oE 17 0 Xey,oE 18 1 Xey,oE 19 2 Xey,oD 4 (.alloc [(.int .i64 0),(.int .i64 0),(.bool false),(.int .i64 0),(.int .i64 0),(.bool false),(.int .u64 0),(.int .u64 0),(.bool false),(.int .u64 0),(.int .u64 0),(.string ⟨⟨[]⟩⟩)]),oN (.store 12 τ4 Xer),oM 5 XeT,oM 6 XeP]) (.seq (.reg [oD 20 (.fieldA 5 τ4),oD 21 (.loadN [.bool,(.int .u64),(.int .u64)] Xe8),oD 22 (.fieldA 8 τ4),oD 23 (.loadN [.bool,(.int .u64),(.int .u64)] Xfs),oD 24 (.fieldA 4 τ4),oD 25 (.load1 (.int .i64) XfS),oD 26 (.fieldA 11 τ4),oD 27 (.load1 .str Xgm),oD 28 (.lenS Xgr),oD 29 (.bin .add (.const (.int .i64 20)) Xgk),oM 30 τ5,oD 31 (.build [(.bool false),(.int .u64 0),(.int .u64 0),(.bool false),(.int .u64 0),(.int .u64 0),(.int .i64 0),(.int .i64 0),(.string ⟨⟨[]⟩⟩)] [(0,3,Xfw),(3,3,Xfu),(6,1,Xgf),(7,1,Xgj),(8,1,XgA)]),oM 32 τ6,oN (.store 9 τ2 XgP),oM 3 Xg4]) .ret)) .skip)) (.seq (.seq (.reg [oM 33 τ0,oD 34 (.idxS Xg9 (.const (.int .i64 0))),oD 35 (.bin .quo Xhe (.const (.int .u8 16))),oD 36 (.bin .eql Xhq (.const (.int .u8 6)))]) (.cond XhU (.seq (.reg [oM 38 τ0,oD 39 (.callF 153 [Xii]),oM 37 XiV,oE 40 0 XhQ,oE 41 1 XhQ,oE 42 2 XhQ,oD 7 (.alloc [(.int .i64 0),(.int .i64 0),(.int .i64 0),(.int .i64 0),(.bool false),(.int .u64 0),(.int .u64 0),(.bool false),(.int .u64 0),(.int .u64 0)]),oN (.store 10 τ7 Xi5),oM 8 Xjk,oM 9 XiS]) (.seq (.reg [oD 43 (.fieldA 4 τ7),oD 44 (.loadN [.bool,(.int .u64),(.int .u64)] Xi6),oD 45 (.fieldA 7 τ7),oD 46 (.loadN [.bool,(.int .u64),(.int .u64)] XjL),oD 47 (.fieldA 2 τ7),oD 48 (.load1 (.int .i64) Xka),oM 49 τ8,oD 50 (.build [(.bool false),(.int .u64 0),(.int .u64 0),(.bool false),(.int .u64 0),(.int .u64 0),(.int .i64 0),(.int .i64 0),(.string ⟨⟨[]⟩⟩)] [(0,3,XjM),(3,3,Xkc),(6,1,Xkd),(7,1,(.const (.int .i64 40))),(8,1,Xke)]),oM 51 τ9,oN (.store 9 τ2 XkP),oM 3 Xla]) .ret)) .skip)) (.seq (.reg [oD 52 (.build [(.bool false),(.int .u64 0),(.int .u64 0),(.bool false),(.int .u64 0),(.int .u64 0),(.int .i64 0),(.int .i64 0),(.string ⟨⟨[]⟩⟩)] []),oN (.store 9 τ2 Xlc),oD 3 (.mv (.const (.int .i64 3)))]) .ret)))
def XT8:VFn:=⟨53,Xyk,[.cell 2 [.bool,(.int .u64),(.int .u64),.bool,(.int .u64),(.int .u64),(.int .i64),(.int .i64),.str] true,.tmp 3]⟩
def XSc:VC:=.regD [oM 15 τ0,oD 16 (.idxS Xep (.const (.int .i64 0))),oD 17 (.bin .rem XeG (.const (.int .u8 16))),oD 18 (.conv .i64 Xer),oD 19 (.bin .mul (.const (.int .i64 4)) XeT),oM 20 τ0,oD 21 (.callF 88 [Xe8,(.const (.int .i64 2)),(.const (.int .i64 2))])] [] [oM 5 XeP,oM 6 Xfw]
def XK6:VC:=.regD [oM 73 τ0,oD 74 (.idxS XtM (.const (.int .i64 1))),oD 75 (.conv .i64 Xva),oM 76 τ0,oD 77 (.callF 88 [Xxh,(.const (.int .i64 4)),(.const (.int .i64 2))]),oM 78 τ0,oD 79 (.idxS Xxr (.const (.int .i64 6))),oD 80 (.bin .eql Xyc (.const (.int .u8 64))),oM 81 τ0,oD 82 (.idxS XBK (.const (.int .i64 8))),oD 83 (.conv .i64 XCI),oM 84 τ0,oD 85 (.idxS XID (.const (.int .i64 9))),oD 86 (.conv .i64 XI7),oD 87 (.loadN [.bool,(.int .u64),(.int .u64)] τ7),oD 88 (.loadN [.bool,(.int .u64),(.int .u64)] τ9),oM 89 τ0,oM 90 τ5,oD 91 (.sliceS XO5 (some (.const (.int .i64 20))) (some XOg)),oD 92 (.build [(.int .i64 0),(.int .i64 0),(.bool false),(.int .i64 0),(.int .i64 0),(.bool false),(.int .u64 0),(.int .u64 0),(.bool false),(.int .u64 0),(.int .u64 0),(.string ⟨⟨[]⟩⟩)] [(0,1,Xvj),(1,1,Xxo),(2,1,XyU),(3,1,XBM),(4,1,XMc),(5,3,XPP),(8,3,XL4),(11,1,XNN)]),oM 93 τ0,oM 94 τ5,oM 95 τ6,oD 96 (.sliceS XKO (some XND) (some XOW)),oN (.store 12 τ2 XNE)] [(4,14),(4,15)] [oM 3 XP7,oD 4 (.mv (.const (.int .i64 0)))]
def Xzv:VC:=.seq (.reg [oD 2 (.alloc [(.int .i64 0),(.int .i64 0),(.bool false),(.int .i64 0),(.int .i64 0),(.bool false),(.int .u64 0),(.int .u64 0),(.bool false),(.int .u64 0),(.int .u64 0),(.string ⟨⟨[]⟩⟩)]),oD 3 (.mv (.const (.string ⟨⟨[]⟩⟩))),oD 4 (.mv (.const (.int .i64 0)))]) (.seq (.seq (.reg [oM 11 τ0,oD 12 (.lenS XcT),oD 13 (.bin .lss Xdu (.const (.int .i64 20)))]) (.cond Xd0 (.seq (.reg [oD 14 (.build [(.int .i64 0),(.int .i64 0),(.bool false),(.int .i64 0),(.int .i64 0),(.bool false),(.int .u64 0),(.int .u64 0),(.bool false),(.int .u64 0),(.int .u64 0),(.string ⟨⟨[]⟩⟩)] []),oN (.store 12 τ2 Xey),oD 3 (.mv (.const (.string ⟨⟨[]⟩⟩))),oD 4 (.mv (.const (.int .i64 2)))]) .ret) .skip)) (.seq XSc (.seq (.seq (.reg [oM 22 τ0,oD 23 (.idxS Xfs (.const (.int .i64 0))),oD 24 (.bin .quo Xfu (.const (.int .u8 16))),oD 25 (.bin .neq XfS (.const (.int .u8 4))),oM 26 Xgf,oG 27 (.mv τ5) 26 false,oG 28 (.bin .lss Xgr (.const (.int .i64 20))) 26 false,oD 29 (.pick Xgm (.const (.bool true)) Xgk),oM 30 Xgj,oG 31 (.mv τ6) 30 false,oG 32 (.mv τ5) 30 false,oG 33 (.bin .lss XgP Xg4) 30 false,oD 34 (.pick XgA (.const (.bool true)) Xg9)]) (.cond Xhe (.seq (.reg [oD 35 (.build [(.int .i64 0),(.int .i64 0),(.bool false),(.int .i64 0),(.int .i64 0),(.bool false),(.int .u64 0),(.int .u64 0),(.bool false),(.int .u64 0),(.int .u64 0),(.string ⟨⟨[]⟩⟩)] []),oN (.store 12 τ2 Xhq),oD 3 (.mv (.const (.string ⟨⟨[]⟩⟩))),oD 4 (.mv (.const (.int .i64 3)))]) .ret) .skip)) (.seq (.seq (.reg [oM 36 τ0,oD 37 (.lenS XhU),oM 38 τ6,oD 39 (.bin .lss XhQ Xii)]) (.cond XiV (.seq (.reg [oD 40 (.build [(.int .i64 0),(.int .i64 0),(.bool false),(.int .i64 0),(.int .i64 0),(.bool false),(.int .u64 0),(.int .u64 0),(.bool false),(.int .u64 0),(.int .u64 0),(.string ⟨⟨[]⟩⟩)] []),oN (.store 12 τ2 Xi5),oD 3 (.mv (.const (.string ⟨⟨[]⟩⟩))),oD 4 (.mv (.const (.int .i64 2)))]) .ret) .skip)) (.seq (.seq (.reg [oM 41 τ0,oM 42 τ5,oD 43 (.sliceS Xjk none (some XiS)),oD 44 (.callF 86 [Xi6]),oD 45 (.bin .neq XjM (.const (.int .i64 65535)))]) (.cond XjL (.seq (.reg [oD 46 (.build [(.int .i64 0),(.int .i64 0),(.bool false),(.int .i64 0),(.int .i64 0),(.bool false),(.int .u64 0),(.int .u64 0),(.bool false),(.int .u64 0),(.int .u64 0),(.string ⟨⟨[]⟩⟩)] []),oN (.store 12 τ2 Xkc),oD 3 (.mv (.const (.string ⟨⟨[]⟩⟩))),oD 4 (.mv (.const (.int .i64 4)))]) .ret) .skip)) (.seq (.seq (.reg [oM 47 τ0,oD 48 (.idxS Xka (.const (.int .i64 6))),oD 49 (.bin .neq Xkd (.const (.int .u8 0))),oM 50 Xke,oG 51 (.mv τ0) 50 true,oG 52 (.idxS Xla (.const (.int .i64 6))) 50 true,oG 53 (.bin .neq Xlc (.const (.int .u8 64))) 50 true,oD 54 (.pick XkP Xmp (.const (.bool false))),oM 55 Xm5,oG 56 (.mv τ0) 55 false,oG 57 (.idxS Xm3 (.const (.int .i64 7))) 55 false,oG 58 (.bin .neq XmT (.const (.int .u8 0))) 55 false,oD 59 (.pick XmG (.const (.bool true)) XmS)]) (.cond Xny (.seq (.reg [oD 60 (.build [(.int .i64 0),(.int .i64 0),(.bool false),(.int .i64 0),(.int .i64 0),(.bool false),(.int .u64 0),(.int .u64 0),(.bool false),(.int .u64 0),(.int .u64 0),(.string ⟨⟨[]⟩⟩)] []),oN (.store 12 τ2 Xoo),oD 3 (.mv (.const (.string ⟨⟨[]⟩⟩))),oD 4 (.mv (.const (.int .i64 7)))]) .ret) .skip)) (.seq (.reg [oM 62 τ0,oD 63 (.sliceS XoS (some (.const (.int .i64 12))) (some (.const (.int .i64 16)))),oD 64 (.callF 177 [Xqr]),oM 61 Xqq,oE 65 0 Xn6,oE 66 1 Xn6,oD 7 (.alloc [(.bool false),(.int .u64 0),(.int .u64 0)]),oN (.store 3 τ7 XqZ),oM 8 XqT]) (.seq (.reg [oM 68 τ0,oD 69 (.sliceS Xqs (some (.const (.int .i64 16))) (some (.const (.int .i64 20)))),oD 70 (.callF 177 [XrI]),oM 67 Xsr,oE 71 0 Xqx,oE 72 1 Xqx,oD 9 (.alloc [(.bool false),(.int .u64 0),(.int .u64 0)]),oN (.store 3 τ9 Xsw),oM 10 Xsv]) (.seq XK6 .ret)))))))))
def XTf:VFn:=⟨97,Xzv,[.cell 2 [(.int .i64),(.int .i64),.bool,(.int .i64),(.int .i64),.bool,(.int .u64),(.int .u64),.bool,(.int .u64),(.int .u64),.str] true,.tmp 3,.tmp 4]⟩
def XUI:VC:=.seq (.reg [oD 6 (.mv (.const (.int .i64 0)))]) (.seq (.reg [oM 10 τ0,oM 11 τ1,oM 12 τ2,oD 13 (.callF 87 [XcV,XcT,Xdu]),oM 9 Xd0,oE 14 0 τ9,oE 15 1 τ9,oM 7 Xey,oM 8 Xep]) (.seq (.reg [oM 16 τ7,oD 17 (.conv .i64 XeG),oM 6 Xer]) .ret))
def fn88:VFn:=⟨18,XUI,[.tmp 6]⟩
def Xzp:VC:=.seq (.seq (.reg [oM 34 τ9,oM 35 τ2,oD 36 (.bin .lss Xhe Xhq)]) (.cond XhU .skip (.exit 0))) (.seq (.block 1 (.reg [oM 39 τ8,oD 40 (.bin .mul XiV (.const (.int .u64 256))),oM 41 τ0,oM 42 τ1,oM 43 τ9,oD 44 (.bin .add XiS Xi6),oD 45 (.idxS Xjk XjM),oD 46 (.conv .u64 XjL),oD 47 (.bin .add Xi5 Xkc),oM 8 Xka])) (.reg [oM 37 τ9,oD 38 (.bin .add XhQ (.const (.int .i64 1))),oM 9 Xii]))
def XHO:VC:=.seq (.reg [oM 48 τ8,oM 6 Xkd,oD 7 (.mv (.const (.bool true)))]) .ret
def XJr:VC:=.seq (.reg [oD 6 (.mv (.const (.int .u64 0))),oD 7 (.mv (.const (.bool false)))]) (.seq (.seq (.reg [oM 10 τ2,oD 11 (.bin .lss XcV (.const (.int .i64 1))),oM 12 XcT,oG 13 (.mv τ2) 12 false,oG 14 (.bin .gtr Xd0 (.const (.int .i64 8))) 12 false,oD 15 (.pick Xdu (.const (.bool true)) Xey),oM 16 Xep,oG 17 (.mv τ1) 16 false,oG 18 (.bin .lss Xer (.const (.int .i64 0))) 16 false,oD 19 (.pick XeG (.const (.bool true)) XeT),oM 20 XeP,oG 21 (.mv τ1) 20 false,oG 22 (.mv τ0) 20 false,oG 23 (.lenS Xfs) 20 false,oG 24 (.bin .gtr Xfw Xfu) 20 false,oD 25 (.pick Xe8 (.const (.bool true)) XfS),oM 26 Xgf,oG 27 (.mv τ2) 26 false,oG 28 (.mv τ0) 26 false,oG 29 (.lenS Xgk) 26 false,oG 30 (.mv τ1) 26 false,oG 31 (.bin .sub Xgj XgA) 26 false,oG 32 (.bin .gtr Xgr XgP) 26 false,oD 33 (.pick Xgm (.const (.bool true)) Xg4)]) (.cond Xg9 (.seq (.reg [oD 6 (.mv (.const (.int .u64 0))),oD 7 (.mv (.const (.bool false)))]) .ret) .skip)) (.seq (.reg [oD 8 (.mv (.const (.int .u64 0)))]) (.seq (.seq (.reg [oD 9 (.mv (.const (.int .i64 0)))]) (.block 0 (.loop Xzp))) XHO)))
def fn87:VFn:=⟨49,XJr,[.tmp 6,.tmp 7]⟩
def XWj:VC:=.seq (.reg [oD 2 (.mv (.const (.int .i64 0)))]) (.seq (.reg [oM 3 τ0,oD 4 (.callF 136 [τ3]),oD 5 (.callF 135 [τ4]),oM 2 τ5]) .ret)
def fn86:VFn:=⟨6,XWj,[.tmp 2]⟩
def Xt3:VC:=.seq (.seq (.reg [oM 11 τ4,oM 12 τ0,oD 13 (.lenS Xdu),oD 14 (.bin .lss XcT Xd0)]) (.cond Xey .skip (.exit 0))) (.seq (.block 1 (.reg [oM 17 τ3,oM 18 τ0,oM 19 τ4,oD 20 (.callF 88 [XeT,XeP,(.const (.int .i64 2))]),oD 21 (.buildSl 1 1 [(.int .i64 0)] [(0,1,Xe8)]),oD 22 (.app 3 1 8 Xer Xfw),oM 3 Xfs])) (.reg [oM 15 τ4,oD 16 (.bin .add Xep (.const (.int .i64 2))),oM 4 XeG]))
def XzU:VC:=.seq (.reg [oM 23 τ3,oM 2 Xfu]) .ret
def XAu:VC:=.seq (.reg [oD 2 (.mv (.const (.slice none 0 0)))]) (.seq (.seq (.reg [oM 5 τ0,oD 6 (.lenS τ5),oD 7 (.bin .rem τ6 (.const (.int .i64 2))),oD 8 (.bin .eql τ7 (.const (.int .i64 1)))]) (.cond τ8 (.reg [oM 9 τ0,oD 10 (.bin .add τ9 (.const (.string ⟨⟨[0]⟩⟩))),oM 0 XcV]) .skip)) (.seq (.reg [oD 3 (.mv (.const (.slice none 0 0)))]) (.seq (.seq (.reg [oD 4 (.mv (.const (.int .i64 0)))]) (.block 0 (.loop Xt3))) XzU)))
def XQV:VFn:=⟨24,XAu,[.tmp 2]⟩
def Xud:VC:=.seq (.seq (.reg [oM 5 τ4,oM 6 τ0,oD 7 (.lenL τ6),oD 8 (.bin .lss τ5 τ7)]) (.cond τ8 .skip (.exit 0))) (.seq (.block 1 (.reg [oM 11 τ3,oM 12 τ0,oM 13 τ4,oD 14 (.idxAL 1 Xdu Xd0),oD 15 (.load1 (.int .i64) Xey),oD 16 (.bin .add XcT Xep),oM 3 XeG])) (.reg [oM 9 τ4,oD 10 (.bin .add τ9 (.const (.int .i64 1))),oM 4 XcV]))
def Xum:VC:=.seq (.seq (.reg [oM 17 τ3,oD 18 (.bin .gtr Xer (.const (.int .i64 65535)))]) (.cond XeT .skip (.exit 2))) (.block 3 (.reg [oM 19 τ3,oD 20 (.bin .rem XeP (.const (.int .i64 65536))),oM 21 τ3,oD 22 (.bin .quo Xfw (.const (.int .i64 65536))),oD 23 (.bin .add Xe8 Xfs),oM 3 Xfu]))
def XzJ:VC:=.seq (.reg [oM 24 τ3,oM 2 XfS]) .ret
def XAU:VC:=.seq (.block 2 (.loop Xum)) XzJ
def XxF:VC:=.seq (.reg [oD 2 (.mv (.const (.int .i64 0)))]) (.seq (.reg [oD 3 (.mv (.const (.int .i64 0)))]) (.seq (.seq (.reg [oD 4 (.mv (.const (.int .i64 0)))]) (.block 0 (.loop Xud))) XAU))
def XTt:VFn:=⟨25,XxF,[.tmp 2]⟩
def Xx8:VC:=.seq (.reg [oD 2 (.alloc [(.bool false),(.int .u64 0),(.int .u64 0)]),oD 3 (.mv (.const (.bool false)))]) (.seq (.seq (.reg [oM 10 τ0,oD 11 (.lenS XcV),oD 12 (.bin .eql XcT (.const (.int .i64 4)))]) (.cond Xdu (.seq (.reg [oM 14 τ0,oD 15 (.callF 87 [Xey,(.const (.int .i64 0)),(.const (.int .i64 4))]),oM 13 Xep,oE 16 0 Xd0,oE 17 1 Xd0,oM 4 XeG,oM 5 Xer]) (.seq (.reg [oM 18 τ4,oD 19 (.build [(.bool false),(.int .u64 0),(.int .u64 0)] [(2,1,XeT)]),oN (.store 3 τ2 XeP),oD 3 (.mv (.const (.bool true)))]) .ret)) .skip)) (.seq (.seq (.reg [oM 20 τ0,oD 21 (.lenS Xe8),oD 22 (.bin .eql Xfw (.const (.int .i64 16)))]) (.cond Xfs (.seq (.reg [oM 24 τ0,oD 25 (.callF 87 [XfS,(.const (.int .i64 0)),(.const (.int .i64 8))]),oM 23 Xgf,oE 26 0 Xfu,oE 27 1 Xfu,oM 6 Xgm,oM 7 Xgr]) (.seq (.reg [oM 29 τ0,oD 30 (.callF 87 [Xgj,(.const (.int .i64 8)),(.const (.int .i64 8))]),oM 28 XgA,oE 31 0 Xgk,oE 32 1 Xgk,oM 8 XgP,oM 9 Xg4]) (.seq (.reg [oM 33 τ6,oM 34 τ8,oD 35 (.build [(.bool false),(.int .u64 0),(.int .u64 0)] [(0,1,(.const (.bool true))),(1,1,Xg9),(2,1,Xhe)]),oN (.store 3 τ2 Xhq),oD 3 (.mv (.const (.bool true)))]) .ret))) .skip)) (.seq (.reg [oD 36 (.build [(.bool false),(.int .u64 0),(.int .u64 0)] []),oN (.store 3 τ2 XhU),oD 3 (.mv (.const (.bool false)))]) .ret)))
def XTx:VFn:=⟨37,Xx8,[.cell 2 [.bool,(.int .u64),(.int .u64)] true,.tmp 3]⟩
def XMY:VC:=.regD [oM 41 τ5,oD 42 (.bin .quo Xjk (.const (.int .i64 1048576))),oD 43 (.bin .rem XiS (.const (.int .i64 256))),oM 44 τ5,oD 45 (.bin .rem XjM (.const (.int .i64 1048576))),oM 46 τ0,oD 47 (.idxS Xkc (.const (.int .i64 6))),oD 48 (.conv .i64 Xka),oM 49 τ0,oD 50 (.idxS Xke (.const (.int .i64 7))),oD 51 (.conv .i64 XkP),oD 52 (.loadN [.bool,(.int .u64),(.int .u64)] τ7),oD 53 (.loadN [.bool,(.int .u64),(.int .u64)] τ9),oD 54 (.build [(.int .i64 0),(.int .i64 0),(.int .i64 0),(.int .i64 0),(.bool false),(.int .u64 0),(.int .u64 0),(.bool false),(.int .u64 0),(.int .u64 0)] [(0,1,Xi6),(1,1,XjL),(2,1,Xkd),(3,1,Xla),(4,3,Xlc),(7,3,Xmp)]),oM 55 τ0,oM 56 τ6,oD 57 (.bin .add (.const (.int .i64 40)) Xm3),oD 58 (.sliceS XmG (some (.const (.int .i64 40))) (some XmT)),oN (.store 10 τ2 Xm5)] [] [oM 3 XmS,oD 4 (.mv (.const (.int .i64 0)))]
def XAF:VC:=.seq (.reg [oD 2 (.alloc [(.int .i64 0),(.int .i64 0),(.int .i64 0),(.int .i64 0),(.bool false),(.int .u64 0),(.int .u64 0),(.bool false),(.int .u64 0),(.int .u64 0)]),oD 3 (.mv (.const (.string ⟨⟨[]⟩⟩))),oD 4 (.mv (.const (.int .i64 0)))]) (.seq (.seq (.reg [oM 11 τ0,oD 12 (.lenS XcT),oD 13 (.bin .lss Xdu (.const (.int .i64 40)))]) (.cond Xd0 (.seq (.reg [oD 14 (.build [(.int .i64 0),(.int .i64 0),(.int .i64 0),(.int .i64 0),(.bool false),(.int .u64 0),(.int .u64 0),(.bool false),(.int .u64 0),(.int .u64 0)] []),oN (.store 10 τ2 Xey),oD 3 (.mv (.const (.string ⟨⟨[]⟩⟩))),oD 4 (.mv (.const (.int .i64 2)))]) .ret) .skip)) (.seq (.reg [oM 15 τ0,oD 16 (.callF 88 [Xep,(.const (.int .i64 0)),(.const (.int .i64 4))]),oM 17 τ0,oD 18 (.callF 88 [Xer,(.const (.int .i64 4)),(.const (.int .i64 2))]),oM 5 XeG,oM 6 XeT]) (.seq (.seq (.reg [oM 19 τ5,oD 20 (.bin .quo XeP (.const (.int .i64 268435456))),oD 21 (.bin .neq Xe8 (.const (.int .i64 6)))]) (.cond Xfw (.seq (.reg [oD 22 (.build [(.int .i64 0),(.int .i64 0),(.int .i64 0),(.int .i64 0),(.bool false),(.int .u64 0),(.int .u64 0),(.bool false),(.int .u64 0),(.int .u64 0)] []),oN (.store 10 τ2 Xfs),oD 3 (.mv (.const (.string ⟨⟨[]⟩⟩))),oD 4 (.mv (.const (.int .i64 3)))]) .ret) .skip)) (.seq (.seq (.reg [oM 23 τ0,oD 24 (.lenS Xfu),oD 25 (.bin .sub XfS (.const (.int .i64 40))),oM 26 τ6,oD 27 (.bin .lss Xgf Xgm)]) (.cond Xgr (.seq (.reg [oD 28 (.build [(.int .i64 0),(.int .i64 0),(.int .i64 0),(.int .i64 0),(.bool false),(.int .u64 0),(.int .u64 0),(.bool false),(.int .u64 0),(.int .u64 0)] []),oN (.store 10 τ2 Xgk),oD 3 (.mv (.const (.string ⟨⟨[]⟩⟩))),oD 4 (.mv (.const (.int .i64 2)))]) .ret) .skip)) (.seq (.reg [oM 30 τ0,oD 31 (.sliceS XgA (some (.const (.int .i64 8))) (some (.const (.int .i64 24)))),oD 32 (.callF 177 [XgP]),oM 29 Xg4,oE 33 0 Xgj,oE 34 1 Xgj,oD 7 (.alloc [(.bool false),(.int .u64 0),(.int .u64 0)]),oN (.store 3 τ7 Xg9),oM 8 Xhe]) (.seq (.reg [oM 36 τ0,oD 37 (.sliceS XhU (some (.const (.int .i64 24))) (some (.const (.int .i64 40)))),oD 38 (.callF 177 [XhQ]),oM 35 Xii,oE 39 0 Xhq,oE 40 1 Xhq,oD 9 (.alloc [(.bool false),(.int .u64 0),(.int .u64 0)]),oN (.store 3 τ9 XiV),oM 10 Xi5]) (.seq XMY .ret)))))))
def XTg:VFn:=⟨59,XAF,[.cell 2 [(.int .i64),(.int .i64),(.int .i64),(.int .i64),.bool,(.int .u64),(.int .u64),.bool,(.int .u64),(.int .u64)] true,.tmp 3,.tmp 4]⟩
def XLQ:VC:=.regD [oM 61 τ0,oD 62 (.callF 88 [Xn6,(.const (.int .i64 0)),(.const (.int .i64 2))]),oM 63 τ0,oD 64 (.callF 88 [Xqr,(.const (.int .i64 2)),(.const (.int .i64 2))]),oM 65 τ0,oD 66 (.callF 88 [XqZ,(.const (.int .i64 4)),(.const (.int .i64 4))]),oD 67 (.conv .u32 XqT),oM 68 τ0,oD 69 (.callF 88 [Xqs,(.const (.int .i64 8)),(.const (.int .i64 4))]),oD 70 (.conv .u32 XrI),oM 71 τ0,oD 72 (.idxS Xsw (.const (.int .i64 13))),oD 73 (.conv .i64 Xsv),oM 74 τ0,oD 75 (.callF 88 [Xva,(.const (.int .i64 14)),(.const (.int .i64 2))]),oM 76 τ0,oD 77 (.callF 88 [Xxh,(.const (.int .i64 18)),(.const (.int .i64 2))]),oM 78 τ0,oM 79 τ9,oD 80 (.sliceS Xxr (some (.const (.int .i64 20))) (some Xyc)),oD 81 (.build [(.int .i64 0),(.int .i64 0),(.int .u32 0),(.int .u32 0),(.int .i64 0),(.int .i64 0),(.int .i64 0),(.string ⟨⟨[]⟩⟩)] [(0,1,XoS),(1,1,Xqq),(2,1,Xqx),(3,1,Xsr),(4,1,XtM),(5,1,Xvj),(6,1,Xxo),(7,1,XyU)]),oM 82 τ0,oM 83 τ9,oD 84 (.sliceS XCI (some XBM) none),oN (.store 8 τ6 XBK)] [] [oM 7 XID,oD 8 (.mv (.const (.int .i64 0)))]
def Xyq:VC:=.seq (.reg [oD 4 (.box τ1),oD 5 (.box τ2),oD 6 (.alloc [(.int .i64 0),(.int .i64 0),(.int .u32 0),(.int .u32 0),(.int .i64 0),(.int .i64 0),(.int .i64 0),(.string ⟨⟨[]⟩⟩)]),oD 7 (.mv (.const (.string ⟨⟨[]⟩⟩))),oD 8 (.mv (.const (.int .i64 0)))]) (.seq (.seq (.reg [oM 13 τ0,oD 14 (.lenS Xd0),oD 15 (.bin .lss Xey (.const (.int .i64 20)))]) (.cond Xep (.seq (.reg [oD 16 (.build [(.int .i64 0),(.int .i64 0),(.int .u32 0),(.int .u32 0),(.int .i64 0),(.int .i64 0),(.int .i64 0),(.string ⟨⟨[]⟩⟩)] []),oN (.store 8 τ6 XeG),oD 7 (.mv (.const (.string ⟨⟨[]⟩⟩))),oD 8 (.mv (.const (.int .i64 2)))]) .ret) .skip)) (.seq (.reg [oM 17 τ0,oD 18 (.idxS Xer (.const (.int .i64 12))),oD 19 (.bin .quo XeT (.const (.int .u8 16))),oD 20 (.conv .i64 XeP),oD 21 (.bin .mul (.const (.int .i64 4)) Xe8),oM 9 Xfw]) (.seq (.seq (.reg [oM 22 τ9,oD 23 (.bin .lss Xfs (.const (.int .i64 20))),oM 24 Xfu,oG 25 (.mv τ0) 24 false,oG 26 (.idxS Xgf (.const (.int .i64 12))) 24 false,oG 27 (.bin .rem Xgm (.const (.int .u8 16))) 24 false,oG 28 (.bin .neq Xgr (.const (.int .u8 0))) 24 false,oD 29 (.pick XfS (.const (.bool true)) Xgk)]) (.cond Xgj (.seq (.reg [oD 30 (.build [(.int .i64 0),(.int .i64 0),(.int .u32 0),(.int .u32 0),(.int .i64 0),(.int .i64 0),(.int .i64 0),(.string ⟨⟨[]⟩⟩)] []),oN (.store 8 τ6 XgA),oD 7 (.mv (.const (.string ⟨⟨[]⟩⟩))),oD 8 (.mv (.const (.int .i64 3)))]) .ret) .skip)) (.seq (.seq (.reg [oM 31 τ0,oD 32 (.lenS XgP),oM 33 τ9,oD 34 (.bin .lss Xg4 Xg9)]) (.cond Xhe (.seq (.reg [oD 35 (.build [(.int .i64 0),(.int .i64 0),(.int .u32 0),(.int .u32 0),(.int .i64 0),(.int .i64 0),(.int .i64 0),(.string ⟨⟨[]⟩⟩)] []),oN (.store 8 τ6 Xhq),oD 7 (.mv (.const (.string ⟨⟨[]⟩⟩))),oD 8 (.mv (.const (.int .i64 2)))]) .ret) .skip)) (.seq (.reg [oD 36 (.loadN [.bool,(.int .u64),(.int .u64)] τ4),oD 37 (.loadN [.bool,(.int .u64),(.int .u64)] τ5),oM 38 τ0,oD 39 (.lenS Xii),oD 40 (.callF 101 [XhU,XhQ,(.const (.int .i64 6)),XiV]),oM 10 Xi5]) (.seq (.seq (.reg [oM 41 XcV,oD 42 (.bin .eql Xjk (.const (.string ⟨⟨[]⟩⟩)))]) (.cond XiS (.seq (.reg [oD 43 (.build [(.int .i64 0),(.int .i64 0),(.int .u32 0),(.int .u32 0),(.int .i64 0),(.int .i64 0),(.int .i64 0),(.string ⟨⟨[]⟩⟩)] []),oN (.store 8 τ6 Xi6),oD 7 (.mv (.const (.string ⟨⟨[]⟩⟩))),oD 8 (.mv (.const (.int .i64 1)))]) .ret) .skip)) (.seq (.seq (.reg [oM 44 XcV,oM 45 τ0,oD 46 (.bin .add XjM XjL),oD 47 (.callF 86 [Xkc]),oD 48 (.bin .neq Xka (.const (.int .i64 65535)))]) (.cond Xkd (.seq (.reg [oD 49 (.build [(.int .i64 0),(.int .i64 0),(.int .u32 0),(.int .u32 0),(.int .i64 0),(.int .i64 0),(.int .i64 0),(.string ⟨⟨[]⟩⟩)] []),oN (.store 8 τ6 Xke),oD 7 (.mv (.const (.string ⟨⟨[]⟩⟩))),oD 8 (.mv (.const (.int .i64 4)))]) .ret) .skip)) (.seq (.reg [oM 51 τ0,oM 52 τ9,oD 53 (.sliceS Xla (some (.const (.int .i64 20))) (some Xlc)),oD 54 (.callF 154 [Xmp]),oM 50 Xm5,oE 55 0 XkP,oE 56 1 XkP,oM 11 XmG,oM 12 Xm3]) (.seq (.seq (.reg [oM 57 Xdu,oD 58 (.bin .neq XmT (.const (.int .i64 0)))]) (.cond XmS (.seq (.reg [oD 59 (.build [(.int .i64 0),(.int .i64 0),(.int .u32 0),(.int .u32 0),(.int .i64 0),(.int .i64 0),(.int .i64 0),(.string ⟨⟨[]⟩⟩)] []),oM 60 Xdu,oN (.store 8 τ6 Xny),oD 7 (.mv (.const (.string ⟨⟨[]⟩⟩))),oM 8 Xoo]) .ret) .skip)) (.seq XLQ .ret))))))))))
def XQF:VFn:=⟨85,Xyq,[.cell 6 [(.int .i64),(.int .i64),(.int .u32),(.int .u32),(.int .i64),(.int .i64),(.int .i64),.str] true,.tmp 7,.tmp 8]⟩
def XVq:VC:=.regD [oD 26 (.loadN [.bool,(.int .u64),(.int .u64)] τ4),oD 27 (.callF 146 [Xgm]),oD 28 (.loadN [.bool,(.int .u64),(.int .u64)] τ5),oD 29 (.callF 146 [Xgk]),oD 30 (.bin .add Xgr Xgj),oM 31 τ3,oD 32 (.callF 147 [XgP,(.const (.int .i64 4))]),oD 33 (.bin .add XgA Xg4),oD 34 (.callF 147 [(.const (.int .i64 0)),(.const (.int .i64 3))]),oD 35 (.bin .add Xg9 Xhe),oM 36 τ2,oD 37 (.callF 147 [XhU,(.const (.int .i64 1))])] [(1,2)] [oD 38 (.bin .add Xhq XhQ),oM 8 Xii]
def XPf:VC:=.regD [oD 39 (.loadN [.bool,(.int .u64),(.int .u64)] τ4),oD 40 (.callF 146 [XiV]),oD 41 (.loadN [.bool,(.int .u64),(.int .u64)] τ5),oD 42 (.callF 146 [Xjk]),oD 43 (.bin .add Xi5 XiS),oD 44 (.callF 147 [(.const (.int .i64 0)),(.const (.int .i64 1))]),oD 45 (.bin .add Xi6 XjM),oM 46 τ2,oD 47 (.callF 147 [Xkc,(.const (.int .i64 1))]),oD 48 (.bin .add XjL Xka),oM 49 τ3,oD 50 (.callF 147 [Xke,(.const (.int .i64 2))])] [(1,2)] [oD 51 (.bin .add Xkd XkP),oM 8 Xla]
def XyY:VC:=.seq (.reg [oD 4 (.box τ0),oD 5 (.box τ1),oD 8 (.mv (.const (.string ⟨⟨[]⟩⟩)))]) (.seq (.seq (.reg [oD 9 (.loadN [.bool,(.int .u64),(.int .u64)] τ4),oD 10 (.callF 59 [τ9]),oD 11 (.not XcV),oM 12 XcT,oG 13 (.loadN [.bool,(.int .u64),(.int .u64)] τ5) 12 false,oG 14 (.callF 59 [Xd0]) 12 false,oG 15 (.not Xey) 12 false,oD 16 (.pick Xdu (.const (.bool true)) Xep),oM 17 XeG,oG 18 (.fieldA 0 τ4) 17 false,oG 19 (.load1 .bool XeT) 17 false,oG 20 (.fieldA 0 τ5) 17 false,oG 21 (.load1 .bool Xe8) 17 false,oG 22 (.eqB true XeP Xfw) 17 false,oD 23 (.pick Xer (.const (.bool true)) Xfs)]) (.cond Xfu (.seq (.reg [oD 8 (.mv (.const (.string ⟨⟨[]⟩⟩)))]) .ret) .skip)) (.seq (.seq (.reg [oD 24 (.fieldA 0 τ4),oD 25 (.load1 .bool XfS)]) (.cond Xgf (.seq XVq .ret) .skip)) (.seq XPf .ret)))
def XUG:VFn:=⟨52,XyY,[.tmp 8]⟩
def XUV:VC:=.seq (.reg [oD 1 (.box τ0),oD 2 (.mv (.const (.bool false)))]) (.seq (.reg [oD 3 (.fieldA 0 τ1),oD 4 (.load1 .bool τ3),oM 5 τ4,oG 6 (.fieldA 1 τ1) 5 false,oG 7 (.load1 (.int .u64) τ6) 5 false,oG 8 (.bin .eql τ7 (.const (.int .u64 0))) 5 false,oG 9 (.mv τ8) 5 false,oG 10 (.fieldA 2 τ1) 9 true,oG 11 (.load1 (.int .u64) XcV) 9 true,oG 12 (.bin .lss XcT (.const (.int .u64 4294967296))) 9 true,oG 13 (.pick τ9 Xdu (.const (.bool false))) 5 false,oD 14 (.pick τ5 (.const (.bool true)) Xd0),oM 2 Xey]) .ret)
def fn59:VFn:=⟨15,XUV,[.tmp 2]⟩
def XTH:VC:=.regD [oD 8 (.fieldA 1 τ1),oD 9 (.load1 (.int .u64) τ8),oD 10 (.callF 63 [τ9,(.const (.int .i64 8))]),oD 11 (.fieldA 2 τ1),oD 12 (.load1 (.int .u64) XcT)] [(2,4)] [oD 13 (.callF 63 [Xdu,(.const (.int .i64 8))]),oD 14 (.bin .add XcV Xd0),oM 2 Xey]
def XAh:VC:=.seq (.reg [oD 1 (.box τ0),oD 2 (.mv (.const (.string ⟨⟨[]⟩⟩)))]) (.seq (.seq (.reg [oD 3 (.loadN [.bool,(.int .u64),(.int .u64)] τ1),oD 4 (.callF 59 [τ3]),oD 5 (.not τ4)]) (.cond τ5 (.seq (.reg [oD 2 (.mv (.const (.string ⟨⟨[]⟩⟩)))]) .ret) .skip)) (.seq (.seq (.reg [oD 6 (.fieldA 0 τ1),oD 7 (.load1 .bool τ6)]) (.cond τ7 (.seq XTH .ret) .skip)) (.seq (.reg [oD 15 (.fieldA 2 τ1),oD 16 (.load1 (.int .u64) Xep),oD 17 (.callF 63 [XeG,(.const (.int .i64 4))]),oM 2 Xer]) .ret)))
def XT9:VFn:=⟨18,XAh,[.tmp 2]⟩
def XyF:VC:=.seq (.seq (.reg [oM 7 τ6,oM 8 τ1,oD 9 (.bin .lss τ7 τ8),oM 10 τ9,oG 11 (.mv τ1) 10 true,oG 12 (.bin .leq XcT (.const (.int .i64 8))) 10 true,oD 13 (.pick XcV Xdu (.const (.bool false)))]) (.cond Xd0 .skip (.exit 0))) (.seq (.block 1 (.seq (.reg [oM 16 τ0,oD 17 (.bin .rem XeG (.const (.int .u64 256))),oD 18 (.conv .u8 Xer),oD 19 (.buildSl 1 1 [(.int .u8 0)] [(0,1,XeT)]),oD 20 (.b2s XeP),oM 21 τ5,oD 22 (.bin .add Xe8 Xfw),oM 5 Xfs]) (.reg [oM 23 τ0,oD 24 (.bin .quo Xfu (.const (.int .u64 256))),oM 0 XfS]))) (.reg [oM 14 τ6,oD 15 (.bin .add Xey (.const (.int .i64 1))),oM 6 Xep]))
def XJq:VC:=.seq (.reg [oM 25 τ5,oM 4 Xgf]) .ret
def XIs:VC:=.seq (.reg [oD 4 (.mv (.const (.string ⟨⟨[]⟩⟩)))]) (.seq (.reg [oD 5 (.mv (.const (.string ⟨⟨[]⟩⟩)))]) (.seq (.seq (.reg [oD 6 (.mv (.const (.int .i64 0)))]) (.block 0 (.loop XyF))) XJq))
def fn63:VFn:=⟨26,XIs,[.tmp 4]⟩
def XJo:VC:=.seq (.reg [oD 4 (.mv (.const (.string ⟨⟨[]⟩⟩)))]) (.seq (.reg [oM 5 τ0,oD 6 (.conv .u64 τ5),oM 7 τ1,oD 8 (.callF 63 [τ6,τ7]),oM 4 τ8]) .ret)
def XUW:VFn:=⟨9,XJo,[.tmp 4]⟩
def XOp:VC:=.regD [oM 52 τ4,oM 53 τ0,oM 54 τ5,oD 55 (.idxS Xmp Xm5),oD 56 (.conv .i64 XmG),oM 57 τ0,oM 58 τ5,oD 59 (.bin .add XmS (.const (.int .i64 2))),oM 60 τ5,oM 61 τ6,oD 62 (.bin .add Xoo Xn6),oD 63 (.sliceS XmT (some Xny) (some XoS)),oM 64 τ5,oD 65 (.bin .add Xqq (.const (.int .i64 2))),oD 66 (.build [(.int .i64 0),(.string ⟨⟨[]⟩⟩),(.int .i64 0)] [(0,1,Xm3),(1,1,Xqr),(2,1,XqZ)]),oD 67 (.buildSl 1 3 [(.int .i64 0),(.string ⟨⟨[]⟩⟩),(.int .i64 0)] [(0,3,XqT)])] [] [oD 68 (.app 213 3 32 Xlc Xqx),oM 4 Xqs]
def Xus:VC:=.seq (.seq (.reg [oM 7 τ5,oM 8 τ0,oD 9 (.lenS τ8),oD 10 (.bin .lss τ7 τ9),oM 11 XcV,oG 12 (.mv τ0) 11 true,oG 13 (.mv τ5) 11 true,oG 14 (.idxS Xdu Xd0) 11 true,oG 15 (.bin .neq Xey (.const (.int .u8 0))) 11 true,oD 16 (.pick XcT Xep (.const (.bool false)))]) (.cond XeG .skip (.exit 0))) (.block 1 (.seq (.seq (.reg [oM 17 τ0,oM 18 τ5,oD 19 (.idxS Xer XeT),oD 20 (.bin .eql XeP (.const (.int .u8 1)))]) (.cond Xe8 (.seq (.reg [oM 21 τ5,oD 22 (.bin .add Xfw (.const (.int .i64 1))),oM 5 Xfs]) (.exit 1)) .skip)) (.seq (.seq (.reg [oM 23 τ5,oD 24 (.bin .add Xfu (.const (.int .i64 1))),oM 25 τ0,oD 26 (.lenS Xgf),oD 27 (.bin .geq XfS Xgm),oM 28 Xgr,oG 29 (.mv τ0) 28 false,oG 30 (.mv τ5) 28 false,oG 31 (.bin .add XgA (.const (.int .i64 1))) 28 false,oG 32 (.idxS Xgj XgP) 28 false,oG 33 (.bin .lss Xg4 (.const (.int .u8 2))) 28 false,oD 34 (.pick Xgk (.const (.bool true)) Xg9),oM 35 Xhe,oG 36 (.mv τ0) 35 false,oG 37 (.mv τ5) 35 false,oG 38 (.bin .add XhQ (.const (.int .i64 1))) 35 false,oG 39 (.idxS XhU Xii) 35 false,oG 40 (.conv .i64 XiV) 35 false,oG 41 (.mv τ0) 35 false,oG 42 (.lenS Xjk) 35 false,oG 43 (.mv τ5) 35 false,oG 44 (.bin .sub XiS Xi6) 35 false,oG 45 (.bin .gtr Xi5 XjM) 35 false,oD 46 (.pick Xhq (.const (.bool true)) XjL)]) (.cond Xkc (.seq (.reg [oD 2 (.mv (.const (.slice none 0 0))),oD 3 (.mv (.const (.int .i64 3)))]) .ret) .skip)) (.seq (.reg [oM 47 τ0,oM 48 τ5,oD 49 (.bin .add Xkd (.const (.int .i64 1))),oD 50 (.idxS Xka Xke),oD 51 (.conv .i64 XkP),oM 6 Xla]) (.seq XOp (.reg [oM 69 τ5,oM 70 τ6,oD 71 (.bin .add XrI Xsr),oM 5 Xsw]))))))
def Xy4:VC:=.seq (.reg [oM 72 τ4,oM 2 Xsv,oD 3 (.mv (.const (.int .i64 0)))]) .ret
def XzG:VC:=.seq (.reg [oD 2 (.mv (.const (.slice none 0 0))),oD 3 (.mv (.const (.int .i64 0)))]) (.seq (.reg [oD 4 (.mv (.const (.slice none 0 0)))]) (.seq (.seq (.reg [oD 5 (.mv (.const (.int .i64 0)))]) (.block 0 (.loop Xus))) Xy4))
def XVe:VFn:=⟨73,XzG,[.tmp 2,.tmp 3]⟩
def XNe:VC:=.regD [oM 32 τ5,oM 33 τ7,oD 34 (.idxAL 3 Xg4 Xg9),oD 35 (.fieldA 1 Xhe),oD 36 (.load1 .str Xhq),oD 37 (.callF 88 [XhU,(.const (.int .i64 0)),(.const (.int .i64 4))]),oD 38 (.conv .u32 XhQ),oM 39 τ5,oM 40 τ7,oD 41 (.idxAL 3 XiV Xi5),oD 42 (.fieldA 1 Xjk),oD 43 (.load1 .str XiS),oD 44 (.callF 88 [Xi6,(.const (.int .i64 4)),(.const (.int .i64 4))]),oD 45 (.conv .u32 XjM),oM 46 τ5,oM 47 τ7,oD 48 (.idxAL 3 Xkc Xka),oD 49 (.fieldA 2 Xkd),oD 50 (.load1 (.int .i64) Xke),oM 2 Xii,oM 3 XjL] [(5,11),(5,18),(12,18)] [oM 4 XkP]
def XtZ:VC:=.seq (.seq (.reg [oM 13 τ7,oM 14 τ5,oD 15 (.lenL Xey),oD 16 (.bin .lss Xd0 Xep)]) (.cond XeG .skip (.exit 0))) (.seq (.block 1 (.seq (.reg [oM 19 τ5,oM 20 τ7,oD 21 (.idxAL 3 XeP Xe8),oD 22 (.fieldA 0 Xfw),oD 23 (.load1 (.int .i64) Xfs),oD 24 (.bin .eql Xfu (.const (.int .i64 8)))]) (.cond XfS (.seq (.seq (.reg [oM 25 τ5,oM 26 τ7,oD 27 (.idxAL 3 Xgf Xgm),oD 28 (.fieldA 1 Xgr),oD 29 (.load1 .str Xgk),oD 30 (.lenS Xgj),oD 31 (.bin .neq XgA (.const (.int .i64 8)))]) (.cond XgP (.seq (.reg [oD 2 (.mv (.const (.int .u32 0))),oD 3 (.mv (.const (.int .u32 0))),oD 4 (.mv (.const (.int .i64 (-1))))]) .ret) .skip)) (.seq XNe .ret)) .skip))) (.reg [oM 17 τ7,oD 18 (.bin .add Xer (.const (.int .i64 1))),oM 7 XeT]))
def XAA:VC:=.seq (.reg [oD 2 (.mv (.const (.int .u32 0))),oD 3 (.mv (.const (.int .u32 0))),oD 4 (.mv (.const (.int .i64 (-1))))]) .ret
def Xyj:VC:=.seq (.reg [oD 2 (.mv (.const (.int .u32 0))),oD 3 (.mv (.const (.int .u32 0))),oD 4 (.mv (.const (.int .i64 0)))]) (.seq (.reg [oM 9 τ0,oD 10 (.callF 154 [τ9]),oM 8 XcV,oE 11 0 τ8,oE 12 1 τ8,oM 5 XcT,oM 6 Xdu]) (.seq (.seq (.reg [oD 7 (.mv (.const (.int .i64 0)))]) (.block 0 (.loop XtZ))) XAA))
def XRM:VFn:=⟨51,Xyj,[.tmp 2,.tmp 3,.tmp 4]⟩
def XK3:VC:=.regD [oM 46 τ0,oD 47 (.callF 88 [Xkc,(.const (.int .i64 0)),(.const (.int .i64 2))]),oM 48 τ0,oD 49 (.callF 88 [Xkd,(.const (.int .i64 2)),(.const (.int .i64 2))]),oD 50 (.build [(.int .i64 0),(.int .i64 0)] [(0,1,Xka),(1,1,Xke)]),oM 51 τ0,oM 52 τ9,oD 53 (.sliceS Xla (some (.const (.int .i64 8))) (some Xlc)),oN (.store 2 τ6 XkP)] [] [oM 7 Xmp,oD 8 (.mv (.const (.int .i64 0)))]
def XBr:VC:=.seq (.reg [oD 4 (.box τ1),oD 5 (.box τ2),oD 6 (.alloc [(.int .i64 0),(.int .i64 0)]),oD 7 (.mv (.const (.string ⟨⟨[]⟩⟩))),oD 8 (.mv (.const (.int .i64 0)))]) (.seq (.seq (.reg [oM 11 τ0,oD 12 (.lenS XcT),oD 13 (.bin .lss Xdu (.const (.int .i64 8)))]) (.cond Xd0 (.seq (.reg [oD 14 (.build [(.int .i64 0),(.int .i64 0)] []),oN (.store 2 τ6 Xey),oD 7 (.mv (.const (.string ⟨⟨[]⟩⟩))),oD 8 (.mv (.const (.int .i64 2)))]) .ret) .skip)) (.seq (.reg [oM 15 τ0,oD 16 (.callF 88 [Xep,(.const (.int .i64 4)),(.const (.int .i64 2))]),oM 9 XeG]) (.seq (.seq (.reg [oM 17 τ9,oD 18 (.bin .lss Xer (.const (.int .i64 8)))]) (.cond XeT (.seq (.reg [oD 19 (.build [(.int .i64 0),(.int .i64 0)] []),oN (.store 2 τ6 XeP),oD 7 (.mv (.const (.string ⟨⟨[]⟩⟩))),oD 8 (.mv (.const (.int .i64 3)))]) .ret) .skip)) (.seq (.seq (.reg [oM 20 τ0,oD 21 (.lenS Xe8),oM 22 τ9,oD 23 (.bin .lss Xfw Xfs)]) (.cond Xfu (.seq (.reg [oD 24 (.build [(.int .i64 0),(.int .i64 0)] []),oN (.store 2 τ6 XfS),oD 7 (.mv (.const (.string ⟨⟨[]⟩⟩))),oD 8 (.mv (.const (.int .i64 2)))]) .ret) .skip)) (.seq (.reg [oD 25 (.loadN [.bool,(.int .u64),(.int .u64)] τ4),oD 26 (.loadN [.bool,(.int .u64),(.int .u64)] τ5),oM 27 τ9,oD 28 (.callF 101 [Xgf,Xgm,(.const (.int .i64 17)),Xgr]),oM 10 Xgk]) (.seq (.seq (.reg [oM 29 XcV,oD 30 (.bin .eql Xgj (.const (.string ⟨⟨[]⟩⟩)))]) (.cond XgA (.seq (.reg [oD 31 (.build [(.int .i64 0),(.int .i64 0)] []),oN (.store 2 τ6 XgP),oD 7 (.mv (.const (.string ⟨⟨[]⟩⟩))),oD 8 (.mv (.const (.int .i64 1)))]) .ret) .skip)) (.seq (.seq (.reg [oM 32 τ0,oD 33 (.callF 88 [Xg4,(.const (.int .i64 6)),(.const (.int .i64 2))]),oD 34 (.bin .eql Xg9 (.const (.int .i64 0)))]) (.cond Xhe (.seq (.reg [oD 35 (.fieldA 0 τ4),oD 36 (.load1 .bool Xhq)]) (.cond XhU (.seq (.reg [oD 37 (.build [(.int .i64 0),(.int .i64 0)] []),oN (.store 2 τ6 XhQ),oD 7 (.mv (.const (.string ⟨⟨[]⟩⟩))),oD 8 (.mv (.const (.int .i64 4)))]) .ret) .skip)) (.seq (.reg [oM 38 XcV,oM 39 τ0,oM 40 τ9,oD 41 (.sliceS XiV none (some Xi5)),oD 42 (.bin .add Xii Xjk),oD 43 (.callF 86 [XiS]),oD 44 (.bin .neq Xi6 (.const (.int .i64 65535)))]) (.cond XjM (.seq (.reg [oD 45 (.build [(.int .i64 0),(.int .i64 0)] []),oN (.store 2 τ6 XjL),oD 7 (.mv (.const (.string ⟨⟨[]⟩⟩))),oD 8 (.mv (.const (.int .i64 4)))]) .ret) .skip)))) (.seq XK3 .ret))))))))
def XWz:VFn:=⟨54,XBr,[.cell 6 [(.int .i64),(.int .i64)] true,.tmp 7,.tmp 8]⟩
def XTM:VC:=.regD [oM 19 τ0,oD 20 (.idxS XeP (.const (.int .i64 0))),oD 21 (.bin .geq Xe8 (.const (.int .u8 128))),oM 22 τ0,oD 23 (.idxS Xfs (.const (.int .i64 0))),oD 24 (.bin .rem Xfu (.const (.int .u8 64))),oD 25 (.conv .i64 XfS),oD 26 (.build [(.bool false),(.int .i64 0),(.int .u32 0),(.string ⟨⟨[]⟩⟩),(.string ⟨⟨[]⟩⟩),(.string ⟨⟨[]⟩⟩)] [(0,1,Xfw),(1,1,Xgf)]),oD 4 (.alloc [(.bool false),(.int .i64 0),(.int .u32 0),(.string ⟨⟨[]⟩⟩),(.string ⟨⟨[]⟩⟩),(.string ⟨⟨[]⟩⟩)])] [] [oN (.store 6 τ4 Xgm)]
def XIc:VC:=.seq (.reg [oD 2 (.alloc [(.bool false),(.int .i64 0),(.int .u32 0),(.string ⟨⟨[]⟩⟩),(.string ⟨⟨[]⟩⟩),(.string ⟨⟨[]⟩⟩)]),oD 3 (.mv (.const (.int .i64 0)))]) (.seq (.seq (.reg [oM 10 τ0,oD 11 (.bin .eql XcV (.const (.string ⟨⟨[]⟩⟩)))]) (.cond XcT (.seq (.reg [oD 12 (.build [(.bool false),(.int .i64 0),(.int .u32 0),(.string ⟨⟨[]⟩⟩),(.string ⟨⟨[]⟩⟩),(.string ⟨⟨[]⟩⟩)] []),oN (.store 6 τ2 Xdu),oD 3 (.mv (.const (.int .i64 2)))]) .ret) .skip)) (.seq (.seq (.reg [oM 13 τ0,oD 14 (.idxS Xd0 (.const (.int .i64 0))),oD 15 (.bin .quo Xey (.const (.int .u8 64))),oD 16 (.bin .rem Xep (.const (.int .u8 2))),oD 17 (.bin .eql XeG (.const (.int .u8 0)))]) (.cond Xer (.seq (.reg [oD 18 (.build [(.bool false),(.int .i64 0),(.int .u32 0),(.string ⟨⟨[]⟩⟩),(.string ⟨⟨[]⟩⟩),(.string ⟨⟨[]⟩⟩)] []),oN (.store 6 τ2 XeT),oD 3 (.mv (.const (.int .i64 3)))]) .ret) .skip)) (.seq XTM (.seq (.seq (.reg [oD 27 (.fieldA 0 τ4),oD 28 (.load1 .bool Xgr),oD 29 (.not Xgk)]) (.cond Xgj (.seq (.seq (.reg [oM 30 τ0,oD 31 (.lenS XgA),oD 32 (.bin .lss XgP (.const (.int .i64 9)))]) (.cond Xg4 (.seq (.reg [oD 33 (.build [(.bool false),(.int .i64 0),(.int .u32 0),(.string ⟨⟨[]⟩⟩),(.string ⟨⟨[]⟩⟩),(.string ⟨⟨[]⟩⟩)] []),oN (.store 6 τ2 Xg9),oD 3 (.mv (.const (.int .i64 2)))]) .ret) .skip)) (.seq (.reg [oM 34 τ0,oD 35 (.sliceS Xhe (some (.const (.int .i64 1))) (some (.const (.int .i64 9)))),oD 36 (.fieldA 3 τ4),oN (.store 1 XhU Xhq)]) (.seq (.reg [oM 37 τ0,oD 38 (.sliceS XhQ (some (.const (.int .i64 9))) none),oD 39 (.fieldA 5 τ4),oN (.store 1 XiV Xii)]) (.seq (.reg [oD 40 (.loadN [.bool,(.int .i64),(.int .u32),.str,.str,.str] τ4),oN (.store 6 τ2 Xi5),oD 3 (.mv (.const (.int .i64 0)))]) .ret)))) .skip)) (.seq (.seq (.reg [oM 41 τ0,oD 42 (.lenS Xjk),oD 43 (.bin .lss XiS (.const (.int .i64 5)))]) (.cond Xi6 (.seq (.reg [oD 44 (.build [(.bool false),(.int .i64 0),(.int .u32 0),(.string ⟨⟨[]⟩⟩),(.string ⟨⟨[]⟩⟩),(.string ⟨⟨[]⟩⟩)] []),oN (.store 6 τ2 XjM),oD 3 (.mv (.const (.int .i64 2)))]) .ret) .skip)) (.seq (.reg [oM 45 τ0,oD 46 (.callF 88 [XjL,(.const (.int .i64 1)),(.const (.int .i64 4))]),oD 47 (.conv .u32 Xkc),oD 48 (.fieldA 2 τ4),oN (.store 1 Xkd Xka)]) (.seq (.reg [oM 50 τ0,oD 51 (.callF 126 [XkP,(.const (.int .i64 5))]),oM 49 Xla,oE 52 0 Xke,oE 53 1 Xke,oE 54 2 Xke,oM 5 Xlc,oM 6 Xmp,oM 7 Xm5]) (.seq (.seq (.reg [oM 55 τ6,oD 56 (.bin .neq XmG (.const (.int .i64 0)))]) (.cond Xm3 (.seq (.reg [oD 57 (.build [(.bool false),(.int .i64 0),(.int .u32 0),(.string ⟨⟨[]⟩⟩),(.string ⟨⟨[]⟩⟩),(.string ⟨⟨[]⟩⟩)] []),oM 58 τ6,oN (.store 6 τ2 XmT),oM 3 XmS]) .ret) .skip)) (.seq (.reg [oM 60 τ0,oM 61 τ7,oD 62 (.callF 126 [Xoo,Xn6]),oM 59 XoS,oE 63 0 Xny,oE 64 1 Xny,oE 65 2 Xny,oM 8 Xqr,oM 6 Xqq,oM 9 XqZ]) (.seq (.seq (.reg [oM 66 τ6,oD 67 (.bin .neq XqT (.const (.int .i64 0)))]) (.cond Xqx (.seq (.reg [oD 68 (.build [(.bool false),(.int .i64 0),(.int .u32 0),(.string ⟨⟨[]⟩⟩),(.string ⟨⟨[]⟩⟩),(.string ⟨⟨[]⟩⟩)] []),oM 69 τ6,oN (.store 6 τ2 Xqs),oM 3 XrI]) .ret) .skip)) (.seq (.reg [oM 70 τ5,oD 71 (.fieldA 3 τ4),oN (.store 1 Xsw Xsr)]) (.seq (.reg [oM 72 τ8,oD 73 (.fieldA 4 τ4),oN (.store 1 XtM Xsv)]) (.seq (.reg [oM 74 τ0,oM 75 τ9,oD 76 (.sliceS Xva (some Xvj) none),oD 77 (.fieldA 5 τ4),oN (.store 1 Xxo Xxh)]) (.seq (.reg [oD 78 (.loadN [.bool,(.int .i64),(.int .u32),.str,.str,.str] τ4),oN (.store 6 τ2 Xxr),oD 3 (.mv (.const (.int .i64 0)))]) .ret))))))))))))))
def fn74:VFn:=⟨79,XIc,[.cell 2 [.bool,(.int .i64),(.int .u32),.str,.str,.str] true,.tmp 3]⟩
def XAO:VC:=.seq (.reg [oD 4 (.mv (.const (.string ⟨⟨[]⟩⟩))),oD 5 (.mv (.const (.int .i64 0))),oD 6 (.mv (.const (.int .i64 0)))]) (.seq (.seq (.reg [oM 8 τ1,oM 9 τ0,oD 10 (.lenS τ9),oD 11 (.bin .geq τ8 XcV)]) (.cond XcT (.seq (.reg [oD 4 (.mv (.const (.string ⟨⟨[]⟩⟩))),oD 5 (.mv (.const (.int .i64 2))),oD 6 (.mv (.const (.int .i64 0)))]) .ret) .skip)) (.seq (.reg [oM 12 τ0,oM 13 τ1,oD 14 (.idxS Xdu Xd0),oD 15 (.conv .i64 Xey),oM 7 Xep]) (.seq (.seq (.reg [oM 16 τ7,oD 17 (.bin .gtr XeG (.const (.int .i64 20)))]) (.cond Xer (.seq (.reg [oD 4 (.mv (.const (.string ⟨⟨[]⟩⟩))),oD 5 (.mv (.const (.int .i64 3))),oD 6 (.mv (.const (.int .i64 0)))]) .ret) .skip)) (.seq (.seq (.reg [oM 18 τ7,oM 19 τ0,oD 20 (.lenS XeP),oM 21 τ1,oD 22 (.bin .sub Xe8 Xfw),oD 23 (.bin .sub Xfs (.const (.int .i64 1))),oD 24 (.bin .gtr XeT Xfu)]) (.cond XfS (.seq (.reg [oD 4 (.mv (.const (.string ⟨⟨[]⟩⟩))),oD 5 (.mv (.const (.int .i64 2))),oD 6 (.mv (.const (.int .i64 0)))]) .ret) .skip)) (.seq (.reg [oM 25 τ0,oM 26 τ1,oD 27 (.bin .add Xgm (.const (.int .i64 1))),oM 28 τ1,oD 29 (.bin .add Xgk (.const (.int .i64 1))),oM 30 τ7,oD 31 (.bin .add Xgj XgA),oD 32 (.sliceS Xgf (some Xgr) (some XgP)),oM 33 τ1,oD 34 (.bin .add Xg9 (.const (.int .i64 1))),oM 35 τ7,oD 36 (.bin .add Xhe Xhq),oM 4 Xg4,oD 5 (.mv (.const (.int .i64 0))),oM 6 XhU]) .ret)))))
def XWg:VFn:=⟨37,XAO,[.tmp 4,.tmp 5,.tmp 6]⟩
def XN3:VC:=.seq (.reg [oM 4 τ0,oD 5 (.callF 72 [τ4])]) (.cond τ5 (.reg [oM 6 τ0,oD 7 (.nilCheck τ6),oD 8 (.fieldA 12 τ7),oD 9 (.load1 (.int .u32) τ8),oM 10 τ1,oD 11 (.bin .add τ9 XcV),oD 12 (.nilCheck τ6),oD 13 (.fieldA 12 Xdu),oN (.store 1 Xd0 XcT)]) .skip)
def fn41:VFn:=⟨14,XN3,[]⟩
def XOX:VC:=.seq (.reg [oD 6 (.mv (.const (.string ⟨⟨[]⟩⟩))),oD 7 (.mv (.const (.int .i64 0)))]) (.seq (.seq (.reg [oM 8 τ0,oD 9 (.callF 72 [τ8]),oD 10 (.not τ9)]) (.cond XcV (.seq (.reg [oD 6 (.mv (.const (.string ⟨⟨[]⟩⟩))),oD 7 (.mv (.const (.int .i64 1)))]) .ret) .skip)) (.seq (.reg [oM 11 τ0,oD 12 (.nilCheck XcT),oD 13 (.fieldA 9 Xdu),oD 14 (.fieldA 1 Xd0),oD 15 (.load1 .oth Xey),oM 16 τ0,oM 17 τ1,oM 18 τ2,oD 19 (.callV Xep [XeG,Xer,XeT]),oE 20 0 XeP,oE 21 1 XeP,oM 6 Xe8,oM 7 Xfw]) .ret))
def fn37:VFn:=⟨22,XOX,[.tmp 6,.tmp 7]⟩
def k42_6:VC:=.regD [oM 7 τ0,oD 8 (.nilCheck τ7),oD 9 (.fieldA 13 τ8),oD 10 (.load1 (.int .u32) τ9),oM 11 τ0,oD 12 (.nilCheck XcT),oD 13 (.fieldA 14 Xdu),oD 14 (.load1 .str Xd0),oM 2 XcV] [] [oM 3 Xey]
def XR2:VC:=.seq (.reg [oD 2 (.mv (.const (.int .u32 0))),oD 3 (.mv (.const (.string ⟨⟨[]⟩⟩)))]) (.seq (.seq (.reg [oM 4 τ0,oD 5 (.callF 72 [τ4]),oD 6 (.not τ5)]) (.cond τ6 (.seq (.reg [oD 2 (.mv (.const (.int .u32 0))),oD 3 (.mv (.const (.string ⟨⟨[]⟩⟩)))]) .ret) .skip)) (.seq k42_6 .ret))
def fn42:VFn:=⟨15,XR2,[.tmp 2,.tmp 3]⟩
def XUd:VC:=.regD [oD 20 (.fieldA 0 τ5),oD 21 (.loadN [(.int .i64),.bool,(.int .u64),(.int .u64),.bool,(.int .u64),(.int .u64),(.int .i64),(.int .i64)] Xe8),oM 22 τ0,oD 23 (.nilCheck Xfs),oD 24 (.fieldA 0 Xfu),oD 25 (.loadN [(.int .i64),.bool,(.int .u64),(.int .u64),.bool,(.int .u64),(.int .u64),(.int .i64),(.int .i64)] XfS),oD 26 (.callF 53 [Xgf])] [(1,6)] [oD 27 (.eqAgg true [(0,(.int .i64)),(1,.bool),(2,(.int .u64)),(3,(.int .u64)),(4,.bool),(5,(.int .u64)),(6,(.int .u64)),(7,(.int .i64)),(8,(.int .i64))] Xfw Xgm),oM 19 Xgr]
def XSC:VC:=.regD [oM 28 τ0,oD 29 (.nilCheck Xgk),oD 30 (.fieldA 9 Xgj),oD 31 (.fieldA 2 XgA),oD 32 (.load1 .oth XgP),oM 33 τ0,oM 34 τ1,oD 35 (.loadN [(.int .i64),.bool,(.int .u64),(.int .u64),.bool,(.int .u64),(.int .u64),(.int .i64),(.int .i64),(.int .i64),.bool,(.int .u32),(.int .u32),.bool,.str,(.int .i64)] τ5)] [] [oD 36 (.callV Xg4 [Xg9,Xhe,Xhq])]
def XIk:VC:=.seq (.reg [oD 4 (.mv (.const (.int .i64 0)))]) (.seq (.seq (.reg [oM 7 τ0,oD 8 (.callF 72 [τ7]),oD 9 (.not τ8)]) (.cond τ9 (.seq (.reg [oD 4 (.mv (.const (.int .i64 1)))]) .ret) .skip)) (.seq (.reg [oM 11 τ1,oD 12 (.callF 47 [XcT]),oM 10 Xdu,oE 13 0 XcV,oE 14 1 XcV,oD 5 (.alloc [(.int .i64 0),(.bool false),(.int .u64 0),(.int .u64 0),(.bool false),(.int .u64 0),(.int .u64 0),(.int .i64 0),(.int .i64 0),(.int .i64 0),(.bool false),(.int .u32 0),(.int .u32 0),(.bool false),(.string ⟨⟨[]⟩⟩),(.int .i64 0)]),oN (.store 16 τ5 Xd0),oM 6 Xey]) (.seq (.block 0 (.seq (.reg [oM 16 τ6,oD 17 (.bin .neq XeG (.const (.int .i64 0))),oM 15 Xer]) (.cond Xep (.seq (.reg [oM 18 τ6,oM 4 XeT]) .ret) (.seq XUd (.cond XeP (.seq (.reg [oD 4 (.mv (.const (.int .i64 16)))]) .ret) .skip))))) (.seq XSC (.seq (.reg [oD 4 (.mv (.const (.int .i64 0)))]) .ret)))))
def fn39:VFn:=⟨37,XIk,[.tmp 4]⟩
def XUi:VC:=.seq (.reg [oD 2 (.alloc [(.int .i64 0),(.bool false),(.int .u64 0),(.int .u64 0),(.bool false),(.int .u64 0),(.int .u64 0),(.int .i64 0),(.int .i64 0),(.int .i64 0),(.bool false),(.int .u32 0),(.int .u32 0),(.bool false),(.string ⟨⟨[]⟩⟩),(.int .i64 0)]),oD 3 (.mv (.const (.int .i64 0)))]) (.seq (.reg [oM 9 τ0,oD 10 (.callF 81 [τ9]),oM 8 XcV,oE 11 0 τ8,oE 12 1 τ8,oE 13 2 τ8,oE 14 3 τ8,oD 4 (.alloc [(.int .i64 0),(.bool false),(.int .u64 0),(.int .u64 0),(.bool false),(.int .u64 0),(.int .u64 0),(.int .i64 0),(.int .i64 0),(.int .i64 0),(.bool false),(.int .u32 0),(.int .u32 0),(.bool false),(.string ⟨⟨[]⟩⟩),(.int .i64 0)]),oN (.store 16 τ4 XcT),oM 5 Xdu,oM 6 Xd0,oM 7 Xey]) (.seq (.reg [oD 15 (.loadN [(.int .i64),.bool,(.int .u64),(.int .u64),.bool,(.int .u64),(.int .u64),(.int .i64),(.int .i64),(.int .i64),.bool,(.int .u32),(.int .u32),.bool,.str,(.int .i64)] τ4),oM 16 τ7,oN (.store 16 τ2 Xep),oM 3 XeG]) .ret))
def fn47:VFn:=⟨17,XUi,[.cell 2 [(.int .i64),.bool,(.int .u64),(.int .u64),.bool,(.int .u64),(.int .u64),(.int .i64),(.int .i64),(.int .i64),.bool,(.int .u32),(.int .u32),.bool,.str,(.int .i64)] true,.tmp 3]⟩
def XUY:VC:=.seq (.reg [oD 1 (.box τ0),oD 2 (.alloc [(.int .i64 0),(.bool false),(.int .u64 0),(.int .u64 0),(.bool false),(.int .u64 0),(.int .u64 0),(.int .i64 0),(.int .i64 0)])]) (.seq (.reg [oD 3 (.fieldA 4 τ1),oD 4 (.loadN [.bool,(.int .u64),(.int .u64)] τ3),oD 5 (.fieldA 1 τ1),oD 6 (.loadN [.bool,(.int .u64),(.int .u64)] τ5),oD 7 (.fieldA 8 τ1),oD 8 (.load1 (.int .i64) τ7),oD 9 (.fieldA 7 τ1),oD 10 (.load1 (.int .i64) τ9),oD 11 (.fieldA 1 τ1),oN (.store 3 XcT τ4),oD 12 (.fieldA 4 τ1),oN (.store 3 Xdu τ6),oD 13 (.fieldA 7 τ1),oN (.store 1 Xd0 τ8),oD 14 (.fieldA 8 τ1),oN (.store 1 Xey XcV)]) (.seq (.reg [oD 15 (.loadN [(.int .i64),.bool,(.int .u64),(.int .u64),.bool,(.int .u64),(.int .u64),(.int .i64),(.int .i64)] τ1),oN (.store 9 τ2 Xep)]) .ret))
def fn53:VFn:=⟨16,XUY,[.cell 2 [(.int .i64),.bool,(.int .u64),(.int .u64),.bool,(.int .u64),(.int .u64),(.int .i64),(.int .i64)] true]⟩
def k34_6:VC:=.regD [oD 16 (.loadN [(.int .i64),.bool,(.int .u64),(.int .u64),.bool,(.int .u64),(.int .u64),(.int .i64),(.int .i64)] τ1),oD 17 (.callF 71 [])] [(0,1)] [oD 18 (.build [(.int .i64 0),(.bool false),(.int .u64 0),(.int .u64 0),(.bool false),(.int .u64 0),(.int .u64 0),(.int .i64 0),(.int .i64 0),(.int .u32 0),(.int .u32 0),(.string ⟨⟨[]⟩⟩)] [(0,9,XeG),(9,1,(.const (.int .u32 1))),(11,1,Xer)]),oD 19 (.box XeT),oM 2 XeP]
def k34_9:VC:=.seq (.reg [oD 1 (.box τ0),oD 2 (.mv (.const (.pointer none)))]) (.seq (.seq (.reg [oD 3 (.loadN [(.int .i64),.bool,(.int .u64),(.int .u64),.bool,(.int .u64),(.int .u64),(.int .i64),(.int .i64)] τ1),oD 4 (.callF 23 [τ3]),oD 5 (.not τ4),oM 6 τ5,oG 7 (.fieldA 0 τ1) 6 false,oG 8 (.load1 (.int .i64) τ7) 6 false,oG 9 (.bin .neq τ8 (.const (.int .i64 6))) 6 false,oG 10 (.mv τ9) 6 false,oG 11 (.fieldA 0 τ1) 10 true,oG 12 (.load1 (.int .i64) XcT) 10 true,oG 13 (.bin .neq Xdu (.const (.int .i64 17))) 10 true,oG 14 (.pick XcV Xd0 (.const (.bool false))) 6 false,oD 15 (.pick τ6 (.const (.bool true)) Xey)]) (.cond Xep (.seq (.reg [oD 2 (.mv (.const (.pointer none)))]) .ret) .skip)) (.seq k34_6 .ret))
def fn34:VFn:=⟨20,k34_9,[.tmp 2]⟩
def XS3:VC:=.seq (.reg [oD 1 (.box τ0),oD 2 (.mv (.const (.bool false)))]) (.seq (.reg [oD 3 (.fieldA 0 τ1),oD 4 (.load1 (.int .i64) τ3),oD 5 (.callF 58 [τ4,(.const (.int .i64 255))]),oM 6 τ5,oG 7 (.fieldA 1 τ1) 6 true,oG 8 (.loadN [.bool,(.int .u64),(.int .u64)] τ7) 6 true,oG 9 (.callF 59 [τ8]) 6 true,oD 10 (.pick τ6 τ9 (.const (.bool false))),oM 11 XcV,oG 12 (.fieldA 4 τ1) 11 true,oG 13 (.loadN [.bool,(.int .u64),(.int .u64)] Xdu) 11 true,oG 14 (.callF 59 [Xd0]) 11 true,oD 15 (.pick XcT Xey (.const (.bool false))),oM 16 Xep,oG 17 (.fieldA 1 τ1) 16 true,oG 18 (.fieldA 0 Xer) 16 true,oG 19 (.load1 .bool XeT) 16 true,oG 20 (.fieldA 4 τ1) 16 true,oG 21 (.fieldA 0 Xe8) 16 true,oG 22 (.load1 .bool Xfw) 16 true,oG 23 (.eqB false XeP Xfs) 16 true,oD 24 (.pick XeG Xfu (.const (.bool false))),oM 25 XfS,oG 26 (.fieldA 7 τ1) 25 true,oG 27 (.load1 (.int .i64) Xgm) 25 true,oG 28 (.callF 58 [Xgr,(.const (.int .i64 65535))]) 25 true,oD 29 (.pick Xgf Xgk (.const (.bool false))),oM 30 Xgj,oG 31 (.fieldA 8 τ1) 30 true,oG 32 (.load1 (.int .i64) XgP) 30 true,oG 33 (.callF 58 [Xg4,(.const (.int .i64 65535))]) 30 true,oD 34 (.pick XgA Xg9 (.const (.bool false))),oM 2 Xhe]) .ret)
def fn23:VFn:=⟨35,XS3,[.tmp 2]⟩
def XTz:VC:=.seq (.reg [oD 4 (.mv (.const (.bool false)))]) (.seq (.reg [oM 5 τ0,oD 6 (.bin .geq τ5 (.const (.int .i64 0))),oM 7 τ6,oG 8 (.mv τ0) 7 true,oG 9 (.mv τ1) 7 true,oG 10 (.bin .leq τ8 τ9) 7 true,oD 11 (.pick τ7 XcV (.const (.bool false))),oM 4 XcT]) .ret)
def fn58:VFn:=⟨12,XTz,[.tmp 4]⟩
def k71_3:VC:=.seq (.reg [oD 0 (.mv (.const (.string ⟨⟨[]⟩⟩)))]) (.seq (.reg [oD 0 (.mv (.const (.string ⟨⟨[0,0,0,0,0,0,0,0]⟩⟩)))]) .ret)
def fn71:VFn:=⟨1,k71_3,[.tmp 0]⟩
def k36_2:VC:=.regD [oM 16 τ0,oD 17 (.nilCheck XeG),oD 18 (.fieldA 0 Xer),oD 19 (.loadN [(.int .i64),.bool,(.int .u64),(.int .u64),.bool,(.int .u64),(.int .u64),(.int .i64),(.int .i64)] XeT),oM 20 τ0,oD 21 (.nilCheck Xe8),oD 22 (.fieldA 9 Xfw),oD 23 (.load1 (.int .u32) Xfs),oD 24 (.callF 25 [Xfu,(.const (.int .u32 0))]),oD 25 (.callF 24 [XeP,(.const (.int .i64 2)),XfS,(.const (.string ⟨⟨[]⟩⟩))]),oM 15 Xgf,oE 26 0 Xep,oE 27 1 Xep,oM 3 Xgm] [(3,8)] [oM 4 Xgr]
def XSB:VC:=.seq (.reg [oD 2 (.mv (.const (.string ⟨⟨[]⟩⟩)))]) (.seq (.seq (.reg [oM 9 τ0,oD 10 (.nilCheck τ9),oD 11 (.fieldA 0 XcV),oD 12 (.fieldA 0 XcT),oD 13 (.load1 (.int .i64) Xdu),oD 14 (.bin .eql Xd0 (.const (.int .i64 6)))]) (.cond Xey (.seq k36_2 (.seq (.reg [oM 28 τ3,oM 2 Xgk]) .ret)) .skip)) (.seq (.reg [oD 30 (.callF 71 []),oD 31 (.build [(.bool false),(.int .i64 0),(.int .u32 0),(.string ⟨⟨[]⟩⟩),(.string ⟨⟨[]⟩⟩),(.string ⟨⟨[]⟩⟩)] [(0,1,(.const (.bool true))),(2,1,(.const (.int .u32 1))),(3,1,XgA),(4,1,(.const (.string ⟨⟨[0,0]⟩⟩)))]),oD 32 (.callF 43 [XgP]),oM 29 Xg4,oE 33 0 Xgj,oE 34 1 Xgj,oM 5 Xg9,oM 6 Xhe]) (.seq (.reg [oM 36 τ0,oD 37 (.nilCheck XhU),oD 38 (.fieldA 0 XhQ),oD 39 (.loadN [(.int .i64),.bool,(.int .u64),(.int .u64),.bool,(.int .u64),(.int .u64),(.int .i64),(.int .i64)] Xii),oM 40 τ5,oD 41 (.callF 44 [XiV,Xi5]),oM 35 Xjk,oE 42 0 Xhq,oE 43 1 Xhq,oM 7 XiS,oM 8 Xi6]) (.seq (.reg [oM 44 τ7,oM 2 XjM]) .ret))))
def fn36:VFn:=⟨45,XSB,[.tmp 2]⟩
def XRp:VC:=.seq (.reg [oD 4 (.mv (.const (.string ⟨⟨[]⟩⟩)))]) (.seq (.reg [oM 5 τ0,oD 6 (.conv .i64 τ5),oD 7 (.callF 62 [τ6,(.const (.int .i64 4))]),oD 8 (.bin .add (.const (.string ⟨⟨[1,1,8,10]⟩⟩)) τ7),oM 9 τ1,oD 10 (.conv .i64 τ9),oD 11 (.callF 62 [XcV,(.const (.int .i64 4))]),oD 12 (.bin .add τ8 XcT),oM 4 Xdu]) .ret)
def fn25:VFn:=⟨13,XRp,[.tmp 4]⟩
def XTu:VC:=.seq (.reg [oD 4 (.mv (.const (.string ⟨⟨[]⟩⟩)))]) (.seq (.reg [oM 5 τ0,oD 6 (.conv .u64 τ5),oM 7 τ1,oD 8 (.callF 63 [τ6,τ7]),oM 4 τ8]) .ret)
def fn62:VFn:=⟨9,XTu,[.tmp 4]⟩
def XH8:VC:=.seq (.reg [oD 4 (.box τ0),oD 8 (.mv (.const (.string ⟨⟨[]⟩⟩))),oD 9 (.mv (.const (.int .i64 0)))]) (.seq (.seq (.reg [oD 12 (.fieldA 0 τ4),oD 13 (.load1 (.int .i64) Xdu),oD 14 (.bin .neq Xd0 (.const (.int .i64 6)))]) (.cond Xey (.seq (.reg [oD 8 (.mv (.const (.string ⟨⟨[]⟩⟩))),oD 9 (.mv (.const (.int .i64 1)))]) .ret) .skip)) (.seq (.reg [oD 16 (.fieldA 7 τ4),oD 17 (.load1 (.int .i64) XeG),oD 18 (.fieldA 8 τ4),oD 19 (.load1 (.int .i64) XeT),oM 20 τ1,oM 21 τ2,oD 22 (.build [(.int .i64 0),(.int .i64 0),(.int .u32 0),(.int .u32 0),(.int .i64 0),(.int .i64 0),(.int .i64 0),(.string ⟨⟨[]⟩⟩)] [(0,1,Xer),(1,1,XeP),(4,1,Xe8),(5,1,(.const (.int .i64 65535))),(7,1,Xfw)]),oD 23 (.fieldA 1 τ4),oD 24 (.loadN [.bool,(.int .u64),(.int .u64)] Xfu),oD 25 (.fieldA 4 τ4),oD 26 (.loadN [.bool,(.int .u64),(.int .u64)] Xgf),oM 27 τ3,oD 28 (.callF 60 [Xfs,XfS,Xgm,Xgr]),oM 15 Xgk,oE 29 0 Xep,oE 30 1 Xep,oM 10 Xgj,oM 11 XgA]) (.seq (.seq (.reg [oM 31 XcT,oD 32 (.bin .neq XgP (.const (.int .i64 0)))]) (.cond Xg4 (.seq (.reg [oM 33 XcT,oD 8 (.mv (.const (.string ⟨⟨[]⟩⟩))),oM 9 Xg9]) .ret) .skip)) (.seq (.reg [oD 34 (.loadN [(.int .i64),.bool,(.int .u64),(.int .u64),.bool,(.int .u64),(.int .u64),(.int .i64),(.int .i64)] τ4),oM 35 XcV,oD 36 (.callF 61 [Xhe,Xhq]),oE 37 0 XhU,oE 38 1 XhU,oM 8 XhQ,oM 9 Xii]) .ret))))
def fn24:VFn:=⟨39,XH8,[.tmp 8,.tmp 9]⟩
def XQG:VC:=.regD [oD 36 (.fieldA 0 τ4),oD 37 (.load1 (.int .i64) XhU),oD 38 (.callF 62 [XhQ,(.const (.int .i64 2))]),oD 39 (.fieldA 1 τ4),oD 40 (.load1 (.int .i64) XiV),oD 41 (.callF 62 [Xi5,(.const (.int .i64 2))]),oD 42 (.bin .add Xii Xjk),oD 43 (.fieldA 2 τ4),oD 44 (.load1 (.int .u32) Xi6),oD 45 (.conv .i64 XjM),oD 46 (.callF 62 [XjL,(.const (.int .i64 4))]),oD 47 (.bin .add XiS Xkc),oD 48 (.fieldA 3 τ4),oD 49 (.load1 (.int .u32) Xkd),oD 50 (.conv .i64 Xke),oD 51 (.callF 62 [XkP,(.const (.int .i64 4))]),oD 52 (.bin .add Xka Xla),oM 53 XcV,oD 54 (.bin .mul (.const (.int .i64 4)) Xmp),oD 55 (.callF 62 [Xm5,(.const (.int .i64 1))]),oD 56 (.bin .add Xlc XmG),oD 57 (.fieldA 4 τ4),oD 58 (.load1 (.int .i64) XmT),oD 59 (.callF 62 [XmS,(.const (.int .i64 1))]),oD 60 (.bin .add Xm3 Xny),oD 61 (.fieldA 5 τ4),oD 62 (.load1 (.int .i64) Xn6),oD 63 (.callF 62 [XoS,(.const (.int .i64 2))]),oD 64 (.bin .add Xoo Xqr),oD 65 (.callF 62 [(.const (.int .i64 0)),(.const (.int .i64 2))]),oD 66 (.bin .add Xqq XqZ),oD 67 (.fieldA 6 τ4),oD 68 (.load1 (.int .i64) Xqx),oD 69 (.callF 62 [Xqs,(.const (.int .i64 2))]),oD 70 (.bin .add XqT XrI),oD 71 (.fieldA 7 τ4),oD 72 (.load1 .str Xsw),oD 73 (.bin .add Xsr Xsv),oM 74 τ3] [(2,4),(2,8),(2,13),(2,22),(2,26),(2,32),(2,36),(5,8),(5,13),(5,22),(5,26),(5,32),(5,36),(10,13),(10,22),(10,26),(10,32),(10,36),(15,22),(15,26),(15,32),(15,36),(19,22),(19,26),(19,32),(19,36),(23,26),(23,32),(23,36),(27,32),(27,36),(29,32),(29,36),(33,36)] [oD 75 (.bin .add XtM Xva),oM 12 Xvj]
def XHK:VC:=.seq (.reg [oD 4 (.box τ0),oD 5 (.box τ1),oD 6 (.box τ2),oD 8 (.mv (.const (.string ⟨⟨[]⟩⟩))),oD 9 (.mv (.const (.int .i64 0)))]) (.seq (.reg [oD 13 (.fieldA 7 τ4),oD 14 (.load1 .str Xd0),oD 15 (.lenS Xey),oD 16 (.bin .add (.const (.int .i64 20)) Xep),oM 10 XeG]) (.seq (.reg [oD 17 (.loadN [.bool,(.int .u64),(.int .u64)] τ5),oD 18 (.loadN [.bool,(.int .u64),(.int .u64)] τ6),oM 19 XcV,oM 20 τ3,oD 21 (.lenS Xe8),oD 22 (.bin .add XeP Xfw),oD 23 (.callF 101 [Xer,XeT,(.const (.int .i64 6)),Xfs]),oM 11 Xfu]) (.seq (.seq (.reg [oD 24 (.loadN [(.int .i64),(.int .i64),(.int .u32),(.int .u32),(.int .i64),(.int .i64),(.int .i64),.str] τ4),oD 25 (.callF 102 [XfS]),oD 26 (.not Xgf),oM 27 Xgm,oG 28 (.mv XcT) 27 false,oG 29 (.bin .eql Xgk (.const (.string ⟨⟨[]⟩⟩))) 27 false,oD 30 (.pick Xgr (.const (.bool true)) Xgj)]) (.cond XgA (.seq (.reg [oD 8 (.mv (.const (.string ⟨⟨[]⟩⟩))),oD 9 (.mv (.const (.int .i64 1)))]) .ret) .skip)) (.seq (.seq (.reg [oM 31 τ3,oD 32 (.lenS XgP),oM 33 XcV,oD 34 (.bin .sub (.const (.int .i64 65535)) Xg9),oD 35 (.bin .gtr Xg4 Xhe)]) (.cond Xhq (.seq (.reg [oD 8 (.mv (.const (.string ⟨⟨[]⟩⟩))),oD 9 (.mv (.const (.int .i64 5)))]) .ret) .skip)) (.seq XQG (.seq (.reg [oM 76 Xdu,oM 77 XcT,oM 78 Xdu,oD 79 (.bin .add Xxo Xxr),oD 80 (.callF 65 [Xyc]),oD 81 (.conv .u64 XyU),oD 82 (.callF 64 [Xxh,(.const (.int .i64 16)),(.const (.int .i64 2)),XBK]),oM 8 XCI,oD 9 (.mv (.const (.int .i64 0)))]) .ret))))))
def fn60:VFn:=⟨83,XHK,[.tmp 8,.tmp 9]⟩
def XIi:VC:=.seq (.reg [oD 1 (.box τ0),oD 2 (.mv (.const (.bool false)))]) (.seq (.reg [oD 3 (.fieldA 0 τ1),oD 4 (.load1 (.int .i64) τ3),oD 5 (.callF 148 [τ4,(.const (.int .i64 65535))]),oM 6 τ5,oG 7 (.fieldA 1 τ1) 6 true,oG 8 (.load1 (.int .i64) τ7) 6 true,oG 9 (.callF 148 [τ8,(.const (.int .i64 65535))]) 6 true,oD 10 (.pick τ6 τ9 (.const (.bool false))),oM 11 XcV,oG 12 (.fieldA 4 τ1) 11 true,oG 13 (.load1 (.int .i64) Xdu) 11 true,oG 14 (.callF 148 [Xd0,(.const (.int .i64 255))]) 11 true,oD 15 (.pick XcT Xey (.const (.bool false))),oM 16 Xep,oG 17 (.fieldA 5 τ1) 16 true,oG 18 (.load1 (.int .i64) Xer) 16 true,oG 19 (.callF 148 [XeT,(.const (.int .i64 65535))]) 16 true,oD 20 (.pick XeG XeP (.const (.bool false))),oM 21 Xe8,oG 22 (.fieldA 6 τ1) 21 true,oG 23 (.load1 (.int .i64) Xfs) 21 true,oG 24 (.callF 148 [Xfu,(.const (.int .i64 65535))]) 21 true,oD 25 (.pick Xfw XfS (.const (.bool false))),oM 26 Xgf,oG 27 (.fieldA 7 τ1) 26 true,oG 28 (.load1 .str Xgr) 26 true,oG 29 (.lenS Xgk) 26 true,oG 30 (.bin .leq Xgj (.const (.int .i64 40))) 26 true,oD 31 (.pick Xgm XgA (.const (.bool false))),oM 32 XgP,oG 33 (.fieldA 7 τ1) 32 true,oG 34 (.load1 .str Xg9) 32 true,oG 35 (.lenS Xhe) 32 true,oG 36 (.bin .rem Xhq (.const (.int .i64 4))) 32 true,oG 37 (.bin .eql XhU (.const (.int .i64 0))) 32 true,oD 38 (.pick Xg4 XhQ (.const (.bool false))),oM 2 Xii]) .ret)
def XV5:VFn:=⟨39,XIi,[.tmp 2]⟩
def XJp:VC:=.seq (.reg [oD 4 (.mv (.const (.bool false)))]) (.seq (.reg [oM 5 τ0,oD 6 (.bin .geq τ5 (.const (.int .i64 0))),oM 7 τ6,oG 8 (.mv τ0) 7 true,oG 9 (.mv τ1) 7 true,oG 10 (.bin .leq τ8 τ9) 7 true,oD 11 (.pick τ7 XcV (.const (.bool false))),oM 4 XcT]) .ret)
def XVi:VFn:=⟨12,XJp,[.tmp 4]⟩
def XSs:VC:=.seq (.reg [oD 2 (.mv (.const (.int .i64 0)))]) (.seq (.reg [oM 3 τ0,oD 4 (.callF 86 [τ3]),oD 5 (.bin .sub (.const (.int .i64 65535)) τ4),oM 2 τ5]) .ret)
def fn65:VFn:=⟨6,XSs,[.tmp 2]⟩
def k64_7:VC:=.regD [oM 21 τ0,oM 22 τ1,oD 23 (.sliceS Xfw none (some Xfs)),oM 24 τ3,oM 25 τ2,oD 26 (.callF 63 [XfS,Xgf]),oD 27 (.bin .add Xfu Xgm),oM 28 τ0,oM 29 τ1,oM 30 τ2,oD 31 (.bin .add Xgj XgA),oD 32 (.sliceS Xgk (some XgP) none)] [] [oD 33 (.bin .add Xgr Xg4),oM 8 Xg9]
def XIU:VC:=.seq (.reg [oD 8 (.mv (.const (.string ⟨⟨[]⟩⟩)))]) (.seq (.reg [oM 12 τ0,oM 13 τ1,oM 14 τ2,oD 15 (.callF 87 [Xdu,Xd0,Xey]),oM 11 Xep,oE 16 0 XcT,oE 17 1 XcT,oM 9 XeG,oM 10 Xer]) (.seq (.seq (.reg [oM 18 XcV,oD 19 (.not XeT)]) (.cond XeP (.seq (.reg [oM 20 τ0,oM 8 Xe8]) .ret) .skip)) (.seq k64_7 .ret)))
def fn64:VFn:=⟨34,XIU,[.tmp 8]⟩
def XIz:VC:=.seq (.reg [oD 2 (.box τ0),oD 4 (.mv (.const (.string ⟨⟨[]⟩⟩))),oD 5 (.mv (.const (.int .i64 0)))]) (.seq (.seq (.reg [oD 8 (.fieldA 1 τ2),oD 9 (.fieldA 0 τ8),oD 10 (.load1 .bool τ9),oD 11 (.fieldA 4 τ2),oD 12 (.fieldA 0 XcT),oD 13 (.load1 .bool Xdu),oD 14 (.eqB true XcV Xd0),oM 15 Xey,oG 16 (.fieldA 1 τ2) 15 false,oG 17 (.loadN [.bool,(.int .u64),(.int .u64)] XeG) 15 false,oG 18 (.callF 59 [Xer]) 15 false,oG 19 (.not XeT) 15 false,oD 20 (.pick Xep (.const (.bool true)) XeP),oM 21 Xe8,oG 22 (.fieldA 4 τ2) 21 false,oG 23 (.loadN [.bool,(.int .u64),(.int .u64)] Xfs) 21 false,oG 24 (.callF 59 [Xfu]) 21 false,oG 25 (.not XfS) 21 false,oD 26 (.pick Xfw (.const (.bool true)) Xgf),oM 27 Xgm,oG 28 (.fieldA 0 τ2) 27 false,oG 29 (.load1 (.int .i64) Xgk) 27 false,oG 30 (.bin .neq Xgj (.const (.int .i64 6))) 27 false,oG 31 (.mv XgA) 27 false,oG 32 (.fieldA 0 τ2) 31 true,oG 33 (.load1 (.int .i64) Xg4) 31 true,oG 34 (.bin .neq Xg9 (.const (.int .i64 17))) 31 true,oG 35 (.pick XgP Xhe (.const (.bool false))) 27 false,oD 36 (.pick Xgr (.const (.bool true)) Xhq)]) (.cond XhU (.seq (.reg [oD 4 (.mv (.const (.string ⟨⟨[]⟩⟩))),oD 5 (.mv (.const (.int .i64 1)))]) .ret) .skip)) (.seq (.reg [oD 38 (.fieldA 0 τ2),oD 39 (.load1 (.int .i64) Xii),oD 40 (.fieldA 1 τ2),oD 41 (.loadN [.bool,(.int .u64),(.int .u64)] Xi5),oD 42 (.fieldA 4 τ2),oD 43 (.loadN [.bool,(.int .u64),(.int .u64)] XiS),oD 44 (.build [(.int .i64 0),(.int .i64 0),(.int .i64 0),(.int .i64 0),(.bool false),(.int .u64 0),(.int .u64 0),(.bool false),(.int .u64 0),(.int .u64 0)] [(2,1,XiV),(3,1,(.const (.int .i64 64))),(4,3,Xjk),(7,3,Xi6)]),oM 45 τ1,oD 46 (.callF 103 [XjM,XjL]),oM 37 Xkc,oE 47 0 XhQ,oE 48 1 XhQ,oM 6 Xka,oM 7 Xkd]) (.seq (.seq (.reg [oD 49 (.fieldA 1 τ2),oD 50 (.fieldA 0 Xke),oD 51 (.load1 .bool XkP),oD 52 (.not Xla)]) (.cond Xlc (.reg [oD 54 (.fieldA 0 τ2),oD 55 (.load1 (.int .i64) Xm5),oD 56 (.fieldA 1 τ2),oD 57 (.loadN [.bool,(.int .u64),(.int .u64)] Xm3),oD 58 (.fieldA 4 τ2),oD 59 (.loadN [.bool,(.int .u64),(.int .u64)] XmS),oD 60 (.build [(.int .i64 0),(.int .i64 0),(.bool false),(.int .i64 0),(.int .i64 0),(.bool false),(.int .u64 0),(.int .u64 0),(.bool false),(.int .u64 0),(.int .u64 0),(.string ⟨⟨[]⟩⟩)] [(2,1,(.const (.bool true))),(3,1,(.const (.int .i64 64))),(4,1,XmG),(5,3,XmT),(8,3,Xny)]),oM 61 τ1,oD 62 (.callF 104 [Xoo,Xn6]),oM 53 XoS,oE 63 0 Xmp,oE 64 1 Xmp,oM 6 Xqr,oM 7 Xqq]) .skip)) (.seq (.seq (.reg [oM 65 τ7,oD 66 (.bin .eql XqZ (.const (.int .i64 0))),oM 67 XqT,oG 68 (.mv τ6) 67 true,oG 69 (.lenS Xqs) 67 true,oG 70 (.bin .gtr XrI (.const (.int .i64 9000))) 67 true,oD 71 (.pick Xqx Xsr (.const (.bool false)))]) (.cond Xsw (.seq (.reg [oD 4 (.mv (.const (.string ⟨⟨[]⟩⟩))),oD 5 (.mv (.const (.int .i64 5)))]) .ret) .skip)) (.seq (.reg [oM 72 τ6,oM 73 τ7,oM 4 Xsv,oM 5 XtM]) .ret)))))
def fn61:VFn:=⟨74,XIz,[.tmp 4,.tmp 5]⟩
def XJM:VC:=.regD [oD 12 (.fieldA 0 τ2),oD 13 (.load1 (.int .i64) Xdu),oD 14 (.bin .mul Xd0 (.const (.int .i64 1048576))),oD 15 (.bin .add (.const (.int .i64 1610612736)) Xey),oD 16 (.fieldA 1 τ2),oD 17 (.load1 (.int .i64) XeG),oD 18 (.bin .add Xep Xer),oD 19 (.callF 150 [XeT,(.const (.int .i64 4))]),oM 20 τ1,oD 21 (.lenS Xe8),oD 22 (.callF 150 [Xfw,(.const (.int .i64 2))]),oD 23 (.bin .add XeP Xfs),oD 24 (.fieldA 2 τ2),oD 25 (.load1 (.int .i64) XfS),oD 26 (.callF 150 [Xgf,(.const (.int .i64 1))]),oD 27 (.bin .add Xfu Xgm),oD 28 (.fieldA 3 τ2),oD 29 (.load1 (.int .i64) Xgk),oD 30 (.callF 150 [Xgj,(.const (.int .i64 1))]),oD 31 (.bin .add Xgr XgA),oD 32 (.fieldA 4 τ2),oD 33 (.loadN [.bool,(.int .u64),(.int .u64)] Xg4),oD 34 (.callF 146 [Xg9]),oD 35 (.bin .add XgP Xhe),oD 36 (.fieldA 7 τ2),oD 37 (.loadN [.bool,(.int .u64),(.int .u64)] XhU),oD 38 (.callF 146 [XhQ]),oD 39 (.bin .add Xhq Xii),oM 40 τ1] [(7,13),(7,17),(7,21),(7,25),(10,13),(10,17),(10,21),(10,25),(14,17),(14,21),(14,25),(18,21),(18,25),(22,25)] [oD 41 (.bin .add XiV Xi5),oM 4 Xjk,oD 5 (.mv (.const (.int .i64 0)))]
def XxH:VC:=.seq (.reg [oD 2 (.box τ0),oD 4 (.mv (.const (.string ⟨⟨[]⟩⟩))),oD 5 (.mv (.const (.int .i64 0)))]) (.seq (.seq (.reg [oD 6 (.loadN [(.int .i64),(.int .i64),(.int .i64),(.int .i64),.bool,(.int .u64),(.int .u64),.bool,(.int .u64),(.int .u64)] τ2),oD 7 (.callF 149 [τ6]),oD 8 (.not τ7)]) (.cond τ8 (.seq (.reg [oD 4 (.mv (.const (.string ⟨⟨[]⟩⟩))),oD 5 (.mv (.const (.int .i64 1)))]) .ret) .skip)) (.seq (.seq (.reg [oM 9 τ1,oD 10 (.lenS τ9),oD 11 (.bin .gtr XcV (.const (.int .i64 65535)))]) (.cond XcT (.seq (.reg [oD 4 (.mv (.const (.string ⟨⟨[]⟩⟩))),oD 5 (.mv (.const (.int .i64 5)))]) .ret) .skip)) (.seq XJM .ret)))
def XVE:VFn:=⟨42,XxH,[.tmp 4,.tmp 5]⟩
def XIM:VC:=.seq (.reg [oD 1 (.box τ0),oD 2 (.mv (.const (.bool false)))]) (.seq (.reg [oD 3 (.fieldA 0 τ1),oD 4 (.load1 (.int .i64) τ3),oD 5 (.callF 174 [τ4,(.const (.int .i64 255))]),oM 6 τ5,oG 7 (.fieldA 1 τ1) 6 true,oG 8 (.load1 (.int .i64) τ7) 6 true,oG 9 (.callF 174 [τ8,(.const (.int .i64 1048575))]) 6 true,oD 10 (.pick τ6 τ9 (.const (.bool false))),oM 11 XcV,oG 12 (.fieldA 2 τ1) 11 true,oG 13 (.load1 (.int .i64) Xdu) 11 true,oG 14 (.callF 174 [Xd0,(.const (.int .i64 255))]) 11 true,oD 15 (.pick XcT Xey (.const (.bool false))),oM 16 Xep,oG 17 (.fieldA 3 τ1) 16 true,oG 18 (.load1 (.int .i64) Xer) 16 true,oG 19 (.callF 174 [XeT,(.const (.int .i64 255))]) 16 true,oD 20 (.pick XeG XeP (.const (.bool false))),oM 21 Xe8,oG 22 (.fieldA 4 τ1) 21 true,oG 23 (.fieldA 0 Xfs) 21 true,oG 24 (.load1 .bool Xfu) 21 true,oD 25 (.pick Xfw XfS (.const (.bool false))),oM 26 Xgf,oG 27 (.fieldA 7 τ1) 26 true,oG 28 (.fieldA 0 Xgr) 26 true,oG 29 (.load1 .bool Xgk) 26 true,oD 30 (.pick Xgm Xgj (.const (.bool false))),oM 2 XgA]) .ret)
def XTj:VFn:=⟨31,XIM,[.tmp 2]⟩
def XHT:VC:=.seq (.reg [oD 4 (.mv (.const (.bool false)))]) (.seq (.reg [oM 5 τ0,oD 6 (.bin .geq τ5 (.const (.int .i64 0))),oM 7 τ6,oG 8 (.mv τ0) 7 true,oG 9 (.mv τ1) 7 true,oG 10 (.bin .leq τ8 τ9) 7 true,oD 11 (.pick τ7 XcV (.const (.bool false))),oM 4 XcT]) .ret)
def XQ6:VFn:=⟨12,XHT,[.tmp 4]⟩
def XJm:VC:=.seq (.reg [oD 4 (.mv (.const (.string ⟨⟨[]⟩⟩)))]) (.seq (.reg [oM 5 τ0,oD 6 (.conv .u64 τ5),oM 7 τ1,oD 8 (.callF 63 [τ6,τ7]),oM 4 τ8]) .ret)
def XVt:VFn:=⟨9,XJm,[.tmp 4]⟩
def XMB:VC:=.regD [oM 23 τ6,oD 24 (.bin .quo Xfu (.const (.int .i64 4))),oD 25 (.bin .add (.const (.int .i64 64)) XfS),oD 26 (.callF 147 [Xgf,(.const (.int .i64 1))]),oD 27 (.fieldA 0 τ2),oD 28 (.load1 (.int .i64) Xgr),oD 29 (.callF 147 [Xgk,(.const (.int .i64 1))]),oD 30 (.bin .add Xgm Xgj),oM 31 τ6,oM 32 τ1,oD 33 (.lenS Xg4),oD 34 (.bin .add XgP Xg9),oD 35 (.callF 147 [Xhe,(.const (.int .i64 2))]),oD 36 (.bin .add XgA Xhq),oD 37 (.fieldA 1 τ2),oD 38 (.load1 (.int .i64) XhQ),oD 39 (.callF 147 [Xii,(.const (.int .i64 2))]),oD 40 (.bin .add XhU XiV),oM 41 τ7,oD 42 (.callF 147 [Xjk,(.const (.int .i64 1))]),oD 43 (.bin .add Xi5 XiS),oD 44 (.callF 147 [(.const (.int .i64 0)),(.const (.int .i64 1))]),oD 45 (.bin .add Xi6 XjM),oD 46 (.fieldA 3 τ2),oD 47 (.load1 (.int .i64) Xkc),oD 48 (.callF 147 [Xka,(.const (.int .i64 1))]),oD 49 (.bin .add XjL Xkd),oD 50 (.fieldA 4 τ2),oD 51 (.load1 (.int .i64) XkP),oD 52 (.callF 147 [Xla,(.const (.int .i64 1))]),oD 53 (.bin .add Xke Xlc),oD 54 (.callF 147 [(.const (.int .i64 0)),(.const (.int .i64 2))]),oD 55 (.bin .add Xmp Xm5),oD 56 (.fieldA 5 τ2),oD 57 (.loadN [.bool,(.int .u64),(.int .u64)] Xm3),oD 58 (.callF 146 [XmT]),oD 59 (.bin .add XmG XmS),oD 60 (.fieldA 8 τ2),oD 61 (.loadN [.bool,(.int .u64),(.int .u64)] Xoo),oD 62 (.callF 146 [Xn6]),oD 63 (.bin .add Xny XoS),oD 64 (.fieldA 11 τ2),oD 65 (.load1 .str Xqq)] [(3,5),(3,15),(3,24),(3,28),(3,34),(3,38),(3,42),(6,15),(6,24),(6,28),(6,34),(6,38),(6,42),(12,15),(12,24),(12,28),(12,34),(12,38),(12,42),(16,24),(16,28),(16,34),(16,38),(16,42),(19,24),(19,28),(19,34),(19,38),(19,42),(21,24),(21,28),(21,34),(21,38),(21,42),(25,28),(25,34),(25,38),(25,42),(29,34),(29,38),(29,42),(31,34),(31,38),(31,42),(35,38),(35,42),(39,42)] [oD 66 (.bin .add Xqr XqZ),oM 8 XqT]
def Xye:VC:=.seq (.reg [oD 2 (.box τ0),oD 4 (.mv (.const (.string ⟨⟨[]⟩⟩))),oD 5 (.mv (.const (.int .i64 0)))]) (.seq (.seq (.reg [oD 9 (.loadN [(.int .i64),(.int .i64),.bool,(.int .i64),(.int .i64),.bool,(.int .u64),(.int .u64),.bool,(.int .u64),(.int .u64),.str] τ2),oD 10 (.callF 151 [τ9]),oD 11 (.not XcV)]) (.cond XcT (.seq (.reg [oD 4 (.mv (.const (.string ⟨⟨[]⟩⟩))),oD 5 (.mv (.const (.int .i64 1)))]) .ret) .skip)) (.seq (.reg [oD 12 (.fieldA 11 τ2),oD 13 (.load1 .str Xdu),oD 14 (.lenS Xd0),oD 15 (.bin .add (.const (.int .i64 20)) Xey),oM 6 Xep]) (.seq (.seq (.reg [oM 16 τ1,oD 17 (.lenS XeG),oM 18 τ6,oD 19 (.bin .sub (.const (.int .i64 65535)) XeT),oD 20 (.bin .gtr Xer XeP)]) (.cond Xe8 (.seq (.reg [oD 4 (.mv (.const (.string ⟨⟨[]⟩⟩))),oD 5 (.mv (.const (.int .i64 5)))]) .ret) .skip)) (.seq (.reg [oD 7 (.mv (.const (.int .i64 0)))]) (.seq (.seq (.reg [oD 21 (.fieldA 2 τ2),oD 22 (.load1 .bool Xfw)]) (.cond Xfs (.reg [oD 7 (.mv (.const (.int .i64 64)))]) .skip)) (.seq XMB (.seq (.reg [oM 67 τ8,oM 68 τ8,oD 69 (.callF 65 [Xqs]),oD 70 (.conv .u64 XrI),oD 71 (.callF 64 [Xqx,(.const (.int .i64 10)),(.const (.int .i64 2)),Xsr]),oM 72 τ1,oD 73 (.bin .add Xsw Xsv),oM 4 XtM,oD 5 (.mv (.const (.int .i64 0)))]) .ret)))))))
def XVm:VFn:=⟨74,Xye,[.tmp 4,.tmp 5]⟩
def XIO:VC:=.seq (.reg [oD 1 (.box τ0),oD 2 (.mv (.const (.bool false)))]) (.seq (.reg [oD 3 (.fieldA 0 τ1),oD 4 (.load1 (.int .i64) τ3),oD 5 (.callF 175 [τ4,(.const (.int .i64 255))]),oM 6 τ5,oG 7 (.fieldA 1 τ1) 6 true,oG 8 (.load1 (.int .i64) τ7) 6 true,oG 9 (.callF 175 [τ8,(.const (.int .i64 65535))]) 6 true,oD 10 (.pick τ6 τ9 (.const (.bool false))),oM 11 XcV,oG 12 (.fieldA 3 τ1) 11 true,oG 13 (.load1 (.int .i64) Xdu) 11 true,oG 14 (.callF 175 [Xd0,(.const (.int .i64 255))]) 11 true,oD 15 (.pick XcT Xey (.const (.bool false))),oM 16 Xep,oG 17 (.fieldA 4 τ1) 16 true,oG 18 (.load1 (.int .i64) Xer) 16 true,oG 19 (.callF 175 [XeT,(.const (.int .i64 255))]) 16 true,oD 20 (.pick XeG XeP (.const (.bool false))),oM 21 Xe8,oG 22 (.fieldA 5 τ1) 21 true,oG 23 (.loadN [.bool,(.int .u64),(.int .u64)] Xfs) 21 true,oG 24 (.callF 176 [Xfu]) 21 true,oD 25 (.pick Xfw XfS (.const (.bool false))),oM 26 Xgf,oG 27 (.fieldA 8 τ1) 26 true,oG 28 (.loadN [.bool,(.int .u64),(.int .u64)] Xgr) 26 true,oG 29 (.callF 176 [Xgk]) 26 true,oD 30 (.pick Xgm Xgj (.const (.bool false))),oM 31 XgA,oG 32 (.fieldA 11 τ1) 31 true,oG 33 (.load1 .str Xg4) 31 true,oG 34 (.lenS Xg9) 31 true,oG 35 (.bin .leq Xhe (.const (.int .i64 40))) 31 true,oD 36 (.pick XgP Xhq (.const (.bool false))),oM 37 XhU,oG 38 (.fieldA 11 τ1) 37 true,oG 39 (.load1 .str Xii) 37 true,oG 40 (.lenS XiV) 37 true,oG 41 (.bin .rem Xi5 (.const (.int .i64 4))) 37 true,oG 42 (.bin .eql Xjk (.const (.int .i64 0))) 37 true,oD 43 (.pick XhQ XiS (.const (.bool false))),oM 2 Xi6]) .ret)
def XVS:VFn:=⟨44,XIO,[.tmp 2]⟩
def XJx:VC:=.seq (.reg [oD 4 (.mv (.const (.bool false)))]) (.seq (.reg [oM 5 τ0,oD 6 (.bin .geq τ5 (.const (.int .i64 0))),oM 7 τ6,oG 8 (.mv τ0) 7 true,oG 9 (.mv τ1) 7 true,oG 10 (.bin .leq τ8 τ9) 7 true,oD 11 (.pick τ7 XcV (.const (.bool false))),oM 4 XcT]) .ret)
def XTv:VFn:=⟨12,XJx,[.tmp 4]⟩
def XJl:VC:=.seq (.reg [oD 1 (.box τ0),oD 2 (.mv (.const (.bool false)))]) (.seq (.reg [oD 3 (.loadN [.bool,(.int .u64),(.int .u64)] τ1),oD 4 (.callF 59 [τ3]),oM 5 τ4,oG 6 (.fieldA 0 τ1) 5 true,oG 7 (.load1 .bool τ6) 5 true,oG 8 (.not τ7) 5 true,oD 9 (.pick τ5 τ8 (.const (.bool false))),oM 2 τ9]) .ret)
def XVV:VFn:=⟨10,XJl,[.tmp 2]⟩
def XSb:VC:=.regD [oD 24 (.fieldA 1 τ1),oD 25 (.load1 (.int .i64) XfS),oD 26 (.bin .add (.const (.int .i64 192)) Xgf),oD 27 (.conv .u64 Xgm),oD 28 (.callF 63 [Xgr,(.const (.int .i64 1))]),oD 29 (.fieldA 2 τ1),oD 30 (.load1 (.int .u32) Xgj),oD 31 (.conv .u64 XgA),oD 32 (.callF 63 [XgP,(.const (.int .i64 4))]),oD 33 (.bin .add Xgk Xg4),oD 34 (.fieldA 3 τ1),oD 35 (.load1 .str Xhe),oD 36 (.lenS Xhq),oD 37 (.conv .u64 XhU),oD 38 (.callF 63 [XhQ,(.const (.int .i64 1))]),oD 39 (.bin .add Xg9 Xii),oD 40 (.fieldA 3 τ1),oD 41 (.load1 .str Xi5),oD 42 (.bin .add XiV Xjk),oD 43 (.fieldA 4 τ1),oD 44 (.load1 .str Xi6),oD 45 (.lenS XjM),oD 46 (.conv .u64 XjL),oD 47 (.callF 63 [Xkc,(.const (.int .i64 1))]),oD 48 (.bin .add XiS Xka),oD 49 (.fieldA 4 τ1),oD 50 (.load1 .str Xke),oD 51 (.bin .add Xkd XkP),oD 52 (.fieldA 5 τ1),oD 53 (.load1 .str Xlc)] [(4,6),(4,11),(4,17),(4,20),(4,26),(4,29),(8,11),(8,17),(8,20),(8,26),(8,29),(14,17),(14,20),(14,26),(14,29),(17,23),(23,26),(23,29)] [oD 54 (.bin .add Xla Xmp),oM 2 Xm5,oD 3 (.mv (.const (.int .i64 0)))]
def XSg:VC:=.regD [oD 69 (.fieldA 1 τ1),oD 70 (.load1 (.int .i64) XrI),oD 71 (.bin .add (.const (.int .i64 64)) Xsr),oD 72 (.conv .u64 Xsw),oD 73 (.callF 63 [Xsv,(.const (.int .i64 1))]),oD 74 (.fieldA 3 τ1),oD 75 (.load1 .str Xva),oD 76 (.bin .add XtM Xvj),oD 77 (.fieldA 5 τ1),oD 78 (.load1 .str Xxo)] [(4,6),(4,9)] [oD 79 (.bin .add Xxh Xxr),oM 2 Xyc,oD 3 (.mv (.const (.int .i64 0)))]
def XTT:VC:=.seq (.reg [oD 1 (.box τ0),oD 2 (.mv (.const (.string ⟨⟨[]⟩⟩))),oD 3 (.mv (.const (.int .i64 0)))]) (.seq (.seq (.reg [oD 4 (.fieldA 1 τ1),oD 5 (.load1 (.int .i64) τ4),oD 6 (.bin .lss τ5 (.const (.int .i64 0))),oM 7 τ6,oG 8 (.fieldA 1 τ1) 7 false,oG 9 (.load1 (.int .i64) τ8) 7 false,oG 10 (.bin .gtr τ9 (.const (.int .i64 63))) 7 false,oD 11 (.pick τ7 (.const (.bool true)) XcV)]) (.cond XcT (.seq (.reg [oD 2 (.mv (.const (.string ⟨⟨[]⟩⟩))),oD 3 (.mv (.const (.int .i64 1)))]) .ret) .skip)) (.seq (.seq (.reg [oD 12 (.fieldA 0 τ1),oD 13 (.load1 .bool Xdu)]) (.cond Xd0 (.seq (.seq (.reg [oD 14 (.fieldA 3 τ1),oD 15 (.load1 .str Xey),oD 16 (.lenS Xep),oD 17 (.bin .gtr XeG (.const (.int .i64 20))),oM 18 Xer,oG 19 (.fieldA 4 τ1) 18 false,oG 20 (.load1 .str XeP) 18 false,oG 21 (.lenS Xe8) 18 false,oG 22 (.bin .gtr Xfw (.const (.int .i64 20))) 18 false,oD 23 (.pick XeT (.const (.bool true)) Xfs)]) (.cond Xfu (.seq (.reg [oD 2 (.mv (.const (.string ⟨⟨[]⟩⟩))),oD 3 (.mv (.const (.int .i64 1)))]) .ret) .skip)) (.seq XSb .ret)) .skip)) (.seq (.seq (.reg [oD 55 (.fieldA 3 τ1),oD 56 (.load1 .str XmG),oD 57 (.lenS Xm3),oD 58 (.bin .neq XmT (.const (.int .i64 8))),oM 59 XmS,oG 60 (.fieldA 4 τ1) 59 false,oG 61 (.load1 .str Xoo) 59 false,oG 62 (.bin .neq Xn6 (.const (.string ⟨⟨[]⟩⟩))) 59 false,oD 63 (.pick Xny (.const (.bool true)) XoS),oM 64 Xqr,oG 65 (.fieldA 2 τ1) 64 false,oG 66 (.load1 (.int .u32) XqZ) 64 false,oG 67 (.bin .neq XqT (.const (.int .u32 0))) 64 false,oD 68 (.pick Xqq (.const (.bool true)) Xqx)]) (.cond Xqs (.seq (.reg [oD 2 (.mv (.const (.string ⟨⟨[]⟩⟩))),oD 3 (.mv (.const (.int .i64 1)))]) .ret) .skip)) (.seq XSg .ret))))
def fn43:VFn:=⟨80,XTT,[.tmp 2,.tmp 3]⟩
def XWe:VC:=.seq (.reg [oD 2 (.box τ0),oD 4 (.mv (.const (.string ⟨⟨[]⟩⟩))),oD 5 (.mv (.const (.int .i64 0)))]) (.seq (.seq (.reg [oD 8 (.fieldA 0 τ2),oD 9 (.load1 (.int .i64) τ8),oD 10 (.bin .neq τ9 (.const (.int .i64 17)))]) (.cond XcV (.seq (.reg [oD 4 (.mv (.const (.string ⟨⟨[]⟩⟩))),oD 5 (.mv (.const (.int .i64 1)))]) .ret) .skip)) (.seq (.reg [oD 12 (.fieldA 7 τ2),oD 13 (.load1 (.int .i64) Xdu),oD 14 (.fieldA 8 τ2),oD 15 (.load1 (.int .i64) Xey),oD 16 (.build [(.int .i64 0),(.int .i64 0)] [(0,1,Xd0),(1,1,Xep)]),oD 17 (.fieldA 1 τ2),oD 18 (.loadN [.bool,(.int .u64),(.int .u64)] Xer),oD 19 (.fieldA 4 τ2),oD 20 (.loadN [.bool,(.int .u64),(.int .u64)] XeP),oM 21 τ1,oD 22 (.callF 75 [XeG,XeT,Xe8,Xfw]),oM 11 Xfs,oE 23 0 XcT,oE 24 1 XcT,oM 6 Xfu,oM 7 XfS]) (.seq (.seq (.reg [oM 25 τ7,oD 26 (.bin .neq Xgf (.const (.int .i64 0)))]) (.cond Xgm (.seq (.reg [oM 27 τ7,oD 4 (.mv (.const (.string ⟨⟨[]⟩⟩))),oM 5 Xgr]) .ret) .skip)) (.seq (.reg [oD 28 (.loadN [(.int .i64),.bool,(.int .u64),(.int .u64),.bool,(.int .u64),(.int .u64),(.int .i64),(.int .i64)] τ2),oM 29 τ6,oD 30 (.callF 61 [Xgk,Xgj]),oE 31 0 XgA,oE 32 1 XgA,oM 4 XgP,oM 5 Xg4]) .ret))))
def fn44:VFn:=⟨33,XWe,[.tmp 4,.tmp 5]⟩
def XSn:VC:=.regD [oD 37 (.fieldA 0 τ4),oD 38 (.load1 (.int .i64) XhQ),oD 39 (.conv .u64 Xii),oD 40 (.callF 63 [XiV,(.const (.int .i64 2))]),oD 41 (.fieldA 1 τ4),oD 42 (.load1 (.int .i64) Xjk),oD 43 (.conv .u64 XiS),oD 44 (.callF 63 [Xi6,(.const (.int .i64 2))]),oD 45 (.bin .add Xi5 XjM),oM 46 XcV,oD 47 (.conv .u64 Xkc),oD 48 (.callF 63 [Xka,(.const (.int .i64 2))]),oD 49 (.bin .add XjL Xkd),oD 50 (.bin .add Xke (.const (.string ⟨⟨[0,0]⟩⟩))),oM 51 τ3] [(3,5)] [oD 52 (.bin .add XkP Xla),oM 12 Xlc]
def XUz:VC:=.seq (.reg [oD 4 (.box τ0),oD 5 (.box τ1),oD 6 (.box τ2),oD 8 (.mv (.const (.string ⟨⟨[]⟩⟩))),oD 9 (.mv (.const (.int .i64 0)))]) (.seq (.reg [oM 14 τ3,oD 15 (.lenS Xey),oD 16 (.bin .add (.const (.int .i64 8)) Xep),oM 10 XeG]) (.seq (.reg [oD 17 (.loadN [.bool,(.int .u64),(.int .u64)] τ5),oD 18 (.loadN [.bool,(.int .u64),(.int .u64)] τ6),oM 19 XcV,oD 20 (.callF 101 [Xer,XeT,(.const (.int .i64 17)),XeP]),oM 11 Xe8]) (.seq (.seq (.reg [oD 21 (.fieldA 0 τ4),oD 22 (.load1 (.int .i64) Xfw),oD 23 (.callF 127 [Xfs]),oD 24 (.not Xfu),oM 25 XfS,oG 26 (.fieldA 1 τ4) 25 false,oG 27 (.load1 (.int .i64) Xgm) 25 false,oG 28 (.callF 127 [Xgr]) 25 false,oG 29 (.not Xgk) 25 false,oD 30 (.pick Xgf (.const (.bool true)) Xgj),oM 31 XgA,oG 32 (.mv XcT) 31 false,oG 33 (.bin .eql Xg4 (.const (.string ⟨⟨[]⟩⟩))) 31 false,oD 34 (.pick XgP (.const (.bool true)) Xg9)]) (.cond Xhe (.seq (.reg [oD 8 (.mv (.const (.string ⟨⟨[]⟩⟩))),oD 9 (.mv (.const (.int .i64 1)))]) .ret) .skip)) (.seq (.seq (.reg [oM 35 XcV,oD 36 (.bin .gtr Xhq (.const (.int .i64 65535)))]) (.cond XhU (.seq (.reg [oD 8 (.mv (.const (.string ⟨⟨[]⟩⟩))),oD 9 (.mv (.const (.int .i64 5)))]) .ret) .skip)) (.seq XSn (.seq (.reg [oM 53 XcT,oM 54 Xdu,oD 55 (.bin .add Xmp Xm5),oD 56 (.callF 65 [XmG]),oM 13 Xm3]) (.seq (.seq (.reg [oM 57 Xd0,oD 58 (.bin .eql XmT (.const (.int .i64 0)))]) (.cond XmS (.reg [oD 13 (.mv (.const (.int .i64 65535)))]) .skip)) (.seq (.reg [oM 59 Xdu,oM 60 Xd0,oD 61 (.conv .u64 Xoo),oD 62 (.callF 64 [Xny,(.const (.int .i64 6)),(.const (.int .i64 2)),Xn6]),oM 8 XoS,oD 9 (.mv (.const (.int .i64 0)))]) .ret))))))))
def fn75:VFn:=⟨63,XUz,[.tmp 8,.tmp 9]⟩
def XT7:VC:=.seq (.reg [oD 2 (.mv (.const (.bool false)))]) (.seq (.reg [oM 3 τ0,oD 4 (.bin .geq τ3 (.const (.int .i64 0))),oM 5 τ4,oG 6 (.mv τ0) 5 true,oG 7 (.bin .leq τ6 (.const (.int .i64 65535))) 5 true,oD 8 (.pick τ5 τ7 (.const (.bool false))),oM 2 τ8]) .ret)
def XUC:VFn:=⟨9,XT7,[.tmp 2]⟩
def k38_2:VC:=.regD [oM 16 τ0,oD 17 (.nilCheck XeG),oD 18 (.fieldA 0 Xer),oD 19 (.loadN [(.int .i64),.bool,(.int .u64),(.int .u64),.bool,(.int .u64),(.int .u64),(.int .i64),(.int .i64)] XeT),oM 20 τ1,oM 21 τ0,oD 22 (.nilCheck Xfw),oD 23 (.fieldA 9 Xfs),oD 24 (.load1 (.int .u32) Xfu),oM 25 τ0,oD 26 (.nilCheck Xgf),oD 27 (.fieldA 10 Xgm),oD 28 (.load1 (.int .u32) Xgr),oD 29 (.callF 25 [XfS,Xgk]),oM 30 τ2,oD 31 (.callF 24 [XeP,Xe8,Xgj,XgA]),oE 32 0 XgP,oE 33 1 XgP] [(3,13)] [oM 6 Xg4,oM 7 Xg9]
def XTe:VC:=.seq (.reg [oD 6 (.mv (.const (.string ⟨⟨[]⟩⟩))),oD 7 (.mv (.const (.int .i64 0)))]) (.seq (.seq (.reg [oM 10 τ0,oD 11 (.nilCheck XcV),oD 12 (.fieldA 0 XcT),oD 13 (.fieldA 0 Xdu),oD 14 (.load1 (.int .i64) Xd0),oD 15 (.bin .eql Xey (.const (.int .i64 6)))]) (.cond Xep (.seq k38_2 .ret) .skip)) (.seq (.reg [oM 35 τ0,oD 36 (.nilCheck Xhq),oD 37 (.fieldA 11 XhU),oD 38 (.load1 .str XhQ),oM 39 τ2,oD 40 (.build [(.bool false),(.int .i64 0),(.int .u32 0),(.string ⟨⟨[]⟩⟩),(.string ⟨⟨[]⟩⟩),(.string ⟨⟨[]⟩⟩)] [(3,1,Xii),(5,1,XiV)]),oD 41 (.callF 43 [Xi5]),oM 34 Xjk,oE 42 0 Xhe,oE 43 1 Xhe,oM 8 XiS,oM 9 Xi6]) (.seq (.reg [oM 44 τ0,oD 45 (.nilCheck XjM),oD 46 (.fieldA 0 XjL),oD 47 (.loadN [(.int .i64),.bool,(.int .u64),(.int .u64),.bool,(.int .u64),(.int .u64),(.int .i64),(.int .i64)] Xkc),oM 48 τ8,oD 49 (.callF 44 [Xka,Xkd]),oE 50 0 Xke,oE 51 1 Xke,oM 6 XkP,oM 7 Xla]) .ret)))
def fn38:VFn:=⟨52,XTe,[.tmp 6,.tmp 7]⟩
def k40_7:VC:=.regD [oD 19 (.fieldA 0 τ5),oD 20 (.loadN [(.int .i64),.bool,(.int .u64),(.int .u64),.bool,(.int .u64),(.int .u64),(.int .i64),(.int .i64)] XeP),oM 21 τ0,oD 22 (.nilCheck Xfw),oD 23 (.fieldA 0 Xfs),oD 24 (.loadN [(.int .i64),.bool,(.int .u64),(.int .u64),.bool,(.int .u64),(.int .u64),(.int .i64),(.int .i64)] Xfu),oD 25 (.callF 27 [XfS])] [(1,6)] [oD 26 (.eqAgg true [(0,(.int .i64)),(1,.bool),(2,(.int .u64)),(3,(.int .u64)),(4,.bool),(5,(.int .u64)),(6,(.int .u64)),(7,(.int .i64)),(8,(.int .i64))] Xe8 Xgf)]
def XSK:VC:=.seq (.reg [oD 4 (.mv (.const (.int .i64 0)))]) (.seq (.reg [oM 12 τ1,oD 13 (.callF 28 [Xdu]),oM 11 Xd0,oE 14 0 XcT,oE 15 1 XcT,oD 5 (.alloc [(.int .i64 0),(.bool false),(.int .u64 0),(.int .u64 0),(.bool false),(.int .u64 0),(.int .u64 0),(.int .i64 0),(.int .i64 0),(.int .i64 0),(.bool false),(.int .u32 0),(.int .u32 0),(.bool false),(.string ⟨⟨[]⟩⟩),(.int .i64 0)]),oN (.store 16 τ5 Xey),oM 6 Xep]) (.seq (.seq (.reg [oM 16 τ6,oD 17 (.bin .neq XeG (.const (.int .i64 0)))]) (.cond Xer (.seq (.reg [oM 18 τ6,oM 4 XeT]) .ret) .skip)) (.seq (.seq k40_7 (.cond Xgm (.seq (.reg [oD 4 (.mv (.const (.int .i64 16)))]) .ret) .skip)) (.seq (.seq (.reg [oD 27 (.fieldA 10 τ5),oD 28 (.load1 .bool Xgr)]) (.cond Xgk (.reg [oM 29 τ0,oD 30 (.fieldA 11 τ5),oD 31 (.load1 (.int .u32) XgA),oD 32 (.nilCheck Xgj),oD 33 (.fieldA 10 Xg4),oN (.store 1 Xg9 XgP)]) .skip)) (.seq (.reg [oM 35 τ1,oD 36 (.callF 73 [Xhq]),oM 34 XhU,oE 37 0 Xhe,oE 38 1 Xhe,oE 39 2 Xhe,oM 7 XhQ,oM 8 Xii,oM 9 XiV]) (.seq (.reg [oM 41 τ1,oM 42 τ8,oD 43 (.sliceS Xjk (some XiS) none),oD 44 (.callF 74 [Xi6]),oM 40 XjM,oE 45 0 Xi5,oE 46 1 Xi5,oD 10 (.alloc [(.bool false),(.int .i64 0),(.int .u32 0),(.string ⟨⟨[]⟩⟩),(.string ⟨⟨[]⟩⟩),(.string ⟨⟨[]⟩⟩)]),oN (.store 6 XcV XjL),oM 6 Xkc]) (.seq (.seq (.reg [oM 47 τ0,oD 48 (.nilCheck Xka),oD 49 (.fieldA 0 Xkd),oD 50 (.fieldA 0 Xke),oD 51 (.load1 (.int .i64) XkP),oD 52 (.bin .eql Xla (.const (.int .i64 17))),oM 53 Xlc,oG 54 (.mv τ6) 53 true,oG 55 (.bin .eql Xm5 (.const (.int .i64 0))) 53 true,oD 56 (.pick Xmp XmG (.const (.bool false))),oM 57 Xm3,oG 58 (.fieldA 0 XcV) 57 true,oG 59 (.load1 .bool XmS) 57 true,oD 60 (.pick XmT Xny (.const (.bool false))),oM 61 Xoo,oG 62 (.fieldA 4 XcV) 61 true,oG 63 (.load1 .str XoS) 61 true,oG 64 (.lenS Xqr) 61 true,oG 65 (.bin .eql Xqq (.const (.int .i64 8))) 61 true,oD 66 (.pick Xn6 XqZ (.const (.bool false)))]) (.cond XqT (.reg [oM 67 τ0,oD 68 (.fieldA 4 XcV),oD 69 (.load1 .str Xqs),oD 70 (.nilCheck Xqx),oD 71 (.fieldA 11 Xsr),oN (.store 1 Xsw XrI)]) .skip)) (.seq (.reg [oD 4 (.mv (.const (.int .i64 0)))]) .ret))))))))
def fn40:VFn:=⟨72,XSK,[.tmp 4]⟩
def XSu:VC:=.seq (.reg [oD 1 (.box τ0),oD 2 (.alloc [(.int .i64 0),(.bool false),(.int .u64 0),(.int .u64 0),(.bool false),(.int .u64 0),(.int .u64 0),(.int .i64 0),(.int .i64 0)])]) (.seq (.reg [oD 3 (.fieldA 0 τ1),oD 4 (.load1 (.int .i64) τ3),oD 5 (.fieldA 4 τ1),oD 6 (.loadN [.bool,(.int .u64),(.int .u64)] τ5),oD 7 (.fieldA 1 τ1),oD 8 (.loadN [.bool,(.int .u64),(.int .u64)] τ7),oD 9 (.fieldA 8 τ1),oD 10 (.load1 (.int .i64) τ9),oD 11 (.fieldA 7 τ1),oD 12 (.load1 (.int .i64) XcT),oD 13 (.build [(.int .i64 0),(.bool false),(.int .u64 0),(.int .u64 0),(.bool false),(.int .u64 0),(.int .u64 0),(.int .i64 0),(.int .i64 0)] [(0,1,τ4),(1,3,τ6),(4,3,τ8),(7,1,XcV),(8,1,Xdu)]),oN (.store 9 τ2 Xd0)]) .ret)
def fn27:VFn:=⟨14,XSu,[.cell 2 [(.int .i64),.bool,(.int .u64),(.int .u64),.bool,(.int .u64),(.int .u64),(.int .i64),(.int .i64)] true]⟩
def k73_5:VC:=.seq (.reg [oD 2 (.mv (.const (.int .i64 0))),oD 3 (.mv (.const (.int .i64 0))),oD 4 (.mv (.const (.int .i64 0)))]) (.seq (.reg [oM 10 τ0,oD 11 (.callF 66 [XcV]),oM 9 XcT,oE 12 0 τ9,oE 13 1 τ9,oE 14 2 τ9,oE 15 3 τ9,oD 5 (.alloc [(.int .i64 0),(.bool false),(.int .u64 0),(.int .u64 0),(.bool false),(.int .u64 0),(.int .u64 0),(.int .i64 0),(.int .i64 0),(.int .i64 0),(.bool false),(.int .u32 0),(.int .u32 0),(.bool false),(.string ⟨⟨[]⟩⟩),(.int .i64 0)]),oN (.store 16 τ5 Xdu),oM 6 Xd0,oM 7 Xey,oM 8 Xep]) (.seq (.reg [oM 16 τ6,oM 17 τ7,oM 18 τ8,oM 2 XeG,oM 3 Xer,oM 4 XeT]) .ret))
def fn73:VFn:=⟨19,k73_5,[.tmp 2,.tmp 3,.tmp 4]⟩
def k7_18:VC:=.regD [oD 50 (.loadN [(.int .i64),.bool,(.int .u64),(.int .u64),.bool,(.int .u64),(.int .u64),(.int .i64),(.int .i64)] τ4),oD 51 (.callF 27 [XkP]),oM 52 τ1,oM 53 Xdu,oD 54 (.idxAL 1 Xlc Xmp),oD 55 (.load1 (.int .u32) Xm5),oD 56 (.callF 25 [XmG,(.const (.int .u32 9))]),oD 57 (.callF 24 [Xla,(.const (.int .i64 16)),Xm3,(.const (.string ⟨⟨[]⟩⟩))]),oM 49 XmT,oE 58 0 Xke,oE 59 1 Xke,oM 13 XmS] [(1,5)] [oM 14 Xny]
def XKQ:VC:=.seq (.seq (.reg [oM 43 Xdu,oM 44 τ1,oD 45 (.lenL XjM),oD 46 (.bin .lss Xi6 XjL)]) (.cond Xkc .skip (.exit 0))) (.seq (.block 1 (.seq k7_18 (.seq (.seq (.reg [oM 60 Xey,oD 61 (.bin .neq Xoo (.const (.int .i64 0))),oM 62 Xn6,oG 63 (.mv τ9) 62 false,oG 64 (.mv Xd0) 62 false,oG 65 (.callF 39 [Xqr,Xqq]) 62 false,oG 66 (.bin .neq XqZ (.const (.int .i64 0))) 62 false,oD 67 (.pick XoS (.const (.bool true)) XqT)]) (.cond Xqx (.seq (.reg [oD 8 (.mv (.const (.bool false)))]) .ret) .skip)) (.reg [oM 68 τ1,oM 69 Xdu,oD 70 (.idxAL 1 Xqs XrI),oD 71 (.load1 (.int .u32) Xsr),oM 11 Xsw])))) (.reg [oM 47 Xdu,oD 48 (.bin .add Xka (.const (.int .i64 1))),oM 12 Xkd]))
def XWd:VC:=.seq (.reg [oM 73 τ9,oM 74 τ2,oD 75 (.conv .i64 Xva),oM 76 τ3,oD 77 (.callF 37 [XtM,Xvj,Xxh]),oM 72 Xxo,oE 78 0 Xsv,oE 79 1 Xsv,oM 15 Xxr,oM 16 Xyc]) (.seq (.reg [oM 81 Xep,oD 82 (.callF 28 [XBK]),oM 80 XCI,oE 83 0 XyU,oE 84 1 XyU,oD 17 (.alloc [(.int .i64 0),(.bool false),(.int .u64 0),(.int .u64 0),(.bool false),(.int .u64 0),(.int .u64 0),(.int .i64 0),(.int .i64 0),(.int .i64 0),(.bool false),(.int .u32 0),(.int .u32 0),(.bool false),(.string ⟨⟨[]⟩⟩),(.int .i64 0)]),oN (.store 16 Xer XBM),oM 18 XID]) (.seq (.reg [oM 86 τ9,oD 87 (.callF 35 [XMc]),oD 88 (.callF 28 [XPP]),oM 85 XL4,oE 89 0 XI7,oE 90 1 XI7,oD 19 (.alloc [(.int .i64 0),(.bool false),(.int .u64 0),(.int .u64 0),(.bool false),(.int .u64 0),(.int .u64 0),(.int .i64 0),(.int .i64 0),(.int .i64 0),(.bool false),(.int .u32 0),(.int .u32 0),(.bool false),(.string ⟨⟨[]⟩⟩),(.int .i64 0)]),oN (.store 16 XeP XO5),oM 20 XOg]) (.seq (.reg [oM 91 XeG,oD 92 (.bin .eql XNN (.const (.int .i64 0))),oM 93 XNE,oG 94 (.mv XeT) 93 true,oG 95 (.bin .eql XND (.const (.int .i64 0))) 93 true,oD 96 (.pick XKO XOW (.const (.bool false))),oM 97 XP7,oG 98 (.fieldA 0 Xer) 97 true,oG 99 (.loadN [(.int .i64),.bool,(.int .u64),(.int .u64),.bool,(.int .u64),(.int .u64),(.int .i64),(.int .i64)] XQj) 97 true,oG 100 (.loadN [(.int .i64),.bool,(.int .u64),(.int .u64),.bool,(.int .u64),(.int .u64),(.int .i64),(.int .i64)] τ4) 97 true,oG 101 (.eqAgg false [(0,(.int .i64)),(1,.bool),(2,(.int .u64)),(3,(.int .u64)),(4,.bool),(5,(.int .u64)),(6,(.int .u64)),(7,(.int .i64)),(8,(.int .i64))] XQi XwY) 97 true,oD 102 (.pick XI4 Xwl (.const (.bool false))),oM 103 XA7,oG 104 (.fieldA 12 Xer) 103 true,oG 105 (.load1 (.int .u32) Xz3) 103 true,oG 106 (.mv XcT) 103 true,oG 107 (.bin .eql XA6 XxQ) 103 true,oD 108 (.pick Xxb Xx5 (.const (.bool false))),oM 109 XxG,oG 110 (.fieldA 9 Xer) 109 true,oG 111 (.load1 (.int .i64) XEP) 109 true,oG 112 (.mv τ2) 109 true,oG 113 (.conv .i64 Xy6) 109 true,oG 114 (.bin .eql Xuu Xx7) 109 true,oD 115 (.pick XyX Xw7 (.const (.bool false))),oM 116 XBy,oG 117 (.mv Xe8) 116 true,oG 118 (.bin .eql XxM (.const (.int .i64 0))) 116 true,oD 119 (.pick XBA XxX (.const (.bool false))),oM 120 XA1,oG 121 (.fieldA 9 XeP) 120 true,oG 122 (.load1 (.int .i64) XzF) 120 true,oG 123 (.bin .eql XyG (.const (.int .i64 2))) 120 true,oD 124 (.pick XzN XFg (.const (.bool false))),oM 125 XBl,oG 126 (.fieldA 0 XeP) 125 true,oG 127 (.loadN [(.int .i64),.bool,(.int .u64),(.int .u64),.bool,(.int .u64),(.int .u64),(.int .i64),(.int .i64)] XEZ) 125 true,oG 128 (.loadN [(.int .i64),.bool,(.int .u64),(.int .u64),.bool,(.int .u64),(.int .u64),(.int .i64),(.int .i64)] τ4) 125 true,oG 129 (.eqAgg false [(0,(.int .i64)),(1,.bool),(2,(.int .u64)),(3,(.int .u64)),(4,.bool),(5,(.int .u64)),(6,(.int .u64)),(7,(.int .i64)),(8,(.int .i64))] XES XCX) 125 true,oD 130 (.pick XFb XGk (.const (.bool false))),oM 131 XEf,oG 132 (.fieldA 10 XeP) 131 true,oG 133 (.load1 .bool XGG) 131 true,oD 134 (.pick XFz XEJ (.const (.bool false))),oM 135 XCe,oG 136 (.callF 32 []) 135 true,oD 137 (.pick XGD XGu (.const (.bool false))),oM 8 XAc]) .ret)))
def XRC:VC:=.seq (.reg [oD 4 (.box τ0),oD 8 (.mv (.const (.bool false)))]) (.seq (.reg [oD 21 (.fieldA 0 τ4),oN (.store 1 Xfw (.const (.int .i64 6)))]) (.seq (.seq (.reg [oD 22 (.loadN [(.int .i64),.bool,(.int .u64),(.int .u64),.bool,(.int .u64),(.int .u64),(.int .i64),(.int .i64)] τ4),oD 23 (.callF 23 [Xfs]),oD 24 (.not Xfu),oM 25 XfS,oG 26 (.mv τ1) 25 false,oG 27 (.lenL Xgm) 25 false,oG 28 (.bin .gtr Xgr (.const (.int .i64 10))) 25 false,oD 29 (.pick Xgf (.const (.bool true)) Xgk),oM 30 Xgj,oG 31 (.mv τ3) 30 false,oG 32 (.lenS XgP) 30 false,oG 33 (.bin .gtr Xg4 (.const (.int .i64 100))) 30 false,oD 34 (.pick XgA (.const (.bool true)) Xg9)]) (.cond Xhe (.seq (.reg [oD 35 (.callF 32 []),oM 8 Xhq]) .ret) .skip)) (.seq (.reg [oD 37 (.loadN [(.int .i64),.bool,(.int .u64),(.int .u64),.bool,(.int .u64),(.int .u64),(.int .i64),(.int .i64)] τ4),oD 38 (.callF 33 [XhQ]),oM 36 Xii,oE 39 0 XhU,oE 40 1 XhU,oM 9 XiV,oM 10 Xi5]) (.seq (.seq (.reg [oM 41 XcV,oD 42 (.bin .neq Xjk (.const (.int .i64 0)))]) (.cond XiS (.seq (.reg [oD 8 (.mv (.const (.bool false)))]) .ret) .skip)) (.seq (.reg [oD 11 (.mv (.const (.int .u32 0)))]) (.seq (.seq (.reg [oD 12 (.mv (.const (.int .i64 0)))]) (.block 0 (.loop XKQ))) XWd))))))
def fn7:VFn:=⟨138,XRC,[.tmp 8]⟩
def k8_61:VC:=.seq (.reg [oD 3 (.box τ0),oD 6 (.mv (.const (.bool false)))]) (.seq (.reg [oD 23 (.fieldA 0 τ3),oN (.store 1 Xfu (.const (.int .i64 17)))]) (.seq (.seq (.reg [oD 24 (.loadN [(.int .i64),.bool,(.int .u64),(.int .u64),.bool,(.int .u64),(.int .u64),(.int .i64),(.int .i64)] τ3),oD 25 (.callF 23 [XfS]),oD 26 (.not Xgf),oM 27 Xgm,oG 28 (.mv τ1) 27 false,oG 29 (.lenL Xgk) 27 false,oG 30 (.bin .gtr Xgj (.const (.int .i64 10))) 27 false,oD 31 (.pick Xgr (.const (.bool true)) XgA),oM 32 XgP,oG 33 (.mv τ2) 32 false,oG 34 (.lenS Xg9) 32 false,oG 35 (.bin .gtr Xhe (.const (.int .i64 100))) 32 false,oD 36 (.pick Xg4 (.const (.bool true)) Xhq)]) (.cond XhU (.seq (.reg [oD 37 (.callF 32 []),oM 6 XhQ]) .ret) .skip)) (.seq (.reg [oD 39 (.loadN [(.int .i64),.bool,(.int .u64),(.int .u64),.bool,(.int .u64),(.int .u64),(.int .i64),(.int .i64)] τ3),oD 40 (.callF 33 [XiV]),oM 38 Xi5,oE 41 0 Xii,oE 42 1 Xii,oM 7 Xjk,oM 8 XiS]) (.seq (.seq (.reg [oM 43 τ8,oD 44 (.bin .neq Xi6 (.const (.int .i64 0)))]) (.cond XjM (.seq (.reg [oD 6 (.mv (.const (.bool false)))]) .ret) .skip)) (.seq (.reg [oD 9 (.mv (.const (.string ⟨⟨[0,0,0,0,0,0,0,0]⟩⟩)))]) (.seq (.seq (.reg [oD 10 (.mv (.const (.int .i64 0)))]) (.block 0 (.loop (.seq (.seq (.reg [oM 45 XcV,oM 46 τ1,oD 47 (.lenL Xkc),oD 48 (.bin .lss XjL Xka)]) (.cond Xkd .skip (.exit 0))) (.seq (.block 1 (.seq (.seq (.reg [oM 51 τ1,oM 52 XcV,oD 53 (.idxAL 1 Xla Xlc),oD 54 (.load1 .str Xmp),oD 55 (.lenS Xm5),oD 56 (.bin .gtr XmG (.const (.int .i64 20)))]) (.cond Xm3 (.seq (.reg [oD 57 (.callF 32 []),oM 6 XmT]) .ret) .skip)) (.seq (.reg [oM 59 τ1,oM 60 XcV,oD 61 (.idxAL 1 Xny Xoo),oD 62 (.load1 .str Xn6),oM 63 τ2,oD 64 (.build [(.bool false),(.int .i64 0),(.int .u32 0),(.string ⟨⟨[]⟩⟩),(.string ⟨⟨[]⟩⟩),(.string ⟨⟨[]⟩⟩)] [(0,1,(.const (.bool true))),(2,1,(.const (.int .u32 1))),(3,1,(.const (.string ⟨⟨[97,98]⟩⟩))),(4,1,XoS),(5,1,Xqr)]),oD 65 (.callF 43 [Xqq]),oM 58 XqZ,oE 66 0 XmS,oE 67 1 XmS,oM 11 XqT,oM 12 Xqx]) (.seq (.reg [oD 69 (.loadN [(.int .i64),.bool,(.int .u64),(.int .u64),.bool,(.int .u64),(.int .u64),(.int .i64),(.int .i64)] τ3),oD 70 (.callF 27 [XrI]),oM 71 XcT,oD 72 (.callF 44 [Xsr,Xsw]),oM 68 Xsv,oE 73 0 Xqs,oE 74 1 Xqs,oM 13 XtM,oM 14 Xva]) (.seq (.seq (.reg [oM 75 Xdu,oD 76 (.bin .neq Xvj (.const (.int .i64 0))),oM 77 Xxh,oG 78 (.mv Xey) 77 false,oG 79 (.bin .neq Xxr (.const (.int .i64 0))) 77 false,oD 80 (.pick Xxo (.const (.bool true)) Xyc),oM 81 XyU,oG 82 (.mv τ7) 81 false,oG 83 (.mv Xd0) 81 false,oG 84 (.callF 39 [XCI,XBM]) 81 false,oG 85 (.bin .neq XID (.const (.int .i64 0))) 81 false,oD 86 (.pick XBK (.const (.bool true)) XI7)]) (.cond XMc (.seq (.reg [oD 6 (.mv (.const (.bool false)))]) .ret) .skip)) (.seq (.reg [oM 87 τ1,oM 88 XcV,oD 89 (.idxAL 1 XPP XL4),oD 90 (.load1 .str XO5),oD 91 (.lenS XOg),oD 92 (.bin .eql XNN (.const (.int .i64 8)))]) (.cond XNE (.reg [oM 93 τ1,oM 94 XcV,oD 95 (.idxAL 1 XKO XND),oD 96 (.load1 .str XOW),oM 9 XP7]) .skip))))))) (.reg [oM 49 XcV,oD 50 (.bin .add Xke (.const (.int .i64 1))),oM 10 XkP])))))) (.seq (.reg [oM 98 τ7,oM 99 τ2,oD 100 (.callF 37 [XQj,(.const (.int .i64 0)),XQi]),oM 97 XwY,oE 101 0 XI4,oE 102 1 XI4,oM 15 Xwl,oM 16 XA7]) (.seq (.reg [oM 104 Xep,oD 105 (.callF 28 [Xz3]),oM 103 XA6,oE 106 0 Xxb,oE 107 1 Xxb,oD 17 (.alloc [(.int .i64 0),(.bool false),(.int .u64 0),(.int .u64 0),(.bool false),(.int .u64 0),(.int .u64 0),(.int .i64 0),(.int .i64 0),(.int .i64 0),(.bool false),(.int .u32 0),(.int .u32 0),(.bool false),(.string ⟨⟨[]⟩⟩),(.int .i64 0)]),oN (.store 16 Xer XxQ),oM 18 Xx5]) (.seq (.reg [oM 109 τ7,oD 110 (.callF 35 [XyX]),oD 111 (.callF 28 [XEP]),oM 108 Xuu,oE 112 0 XxG,oE 113 1 XxG,oD 19 (.alloc [(.int .i64 0),(.bool false),(.int .u64 0),(.int .u64 0),(.bool false),(.int .u64 0),(.int .u64 0),(.int .i64 0),(.int .i64 0),(.int .i64 0),(.bool false),(.int .u32 0),(.int .u32 0),(.bool false),(.string ⟨⟨[]⟩⟩),(.int .i64 0)]),oN (.store 16 XeP Xy6),oM 20 Xx7]) (.seq (.reg [oM 115 τ7,oD 116 (.callF 42 [XBy]),oM 114 XBA,oE 117 0 Xw7,oE 118 1 Xw7,oM 21 XxM,oM 22 XxX]) (.seq (.reg [oM 119 XeG,oD 120 (.bin .eql XA1 (.const (.int .i64 0))),oM 121 XzN,oG 122 (.mv XeT) 121 true,oG 123 (.bin .eql XyG (.const (.int .i64 0))) 121 true,oD 124 (.pick XzF XFg (.const (.bool false))),oM 125 XBl,oG 126 (.fieldA 0 Xer) 125 true,oG 127 (.loadN [(.int .i64),.bool,(.int .u64),(.int .u64),.bool,(.int .u64),(.int .u64),(.int .i64),(.int .i64)] XEZ) 125 true,oG 128 (.loadN [(.int .i64),.bool,(.int .u64),(.int .u64),.bool,(.int .u64),(.int .u64),(.int .i64),(.int .i64)] τ3) 125 true,oG 129 (.eqAgg false [(0,(.int .i64)),(1,.bool),(2,(.int .u64)),(3,(.int .u64)),(4,.bool),(5,(.int .u64)),(6,(.int .u64)),(7,(.int .i64)),(8,(.int .i64))] XES XCX) 125 true,oD 130 (.pick XFb XGk (.const (.bool false))),oM 131 XEf,oG 132 (.fieldA 13 Xer) 131 true,oG 133 (.load1 .bool XGG) 131 true,oG 134 (.not XEJ) 131 true,oD 135 (.pick XFz XCe (.const (.bool false))),oM 136 XGD,oG 137 (.fieldA 14 Xer) 136 true,oG 138 (.load1 .str XAc) 136 true,oG 139 (.mv τ9) 136 true,oG 140 (.bin .eql XLH XOr) 136 true,oD 141 (.pick XGu XMd (.const (.bool false))),oM 142 XJD,oG 143 (.mv Xfs) 142 true,oG 144 (.mv τ9) 142 true,oG 145 (.bin .eql XLX XPj) 142 true,oD 146 (.pick XCL XOJ (.const (.bool false))),oM 147 XPK,oG 148 (.mv Xep) 147 true,oG 149 (.lenS XJW) 147 true,oG 150 (.mv τ2) 147 true,oG 151 (.lenS XQa) 147 true,oG 152 (.bin .geq XNn XLW) 147 true,oD 153 (.pick XLM XOe (.const (.bool false))),oM 154 XMD,oG 155 (.mv Xep) 154 true,oG 156 (.mv Xep) 154 true,oG 157 (.lenS XLV) 154 true,oG 158 (.mv τ2) 154 true,oG 159 (.lenS XWr) 154 true,oG 160 (.bin .sub XUN XVb) 154 true,oG 161 (.sliceS XOt (some XS9) none) 154 true,oG 162 (.mv τ2) 154 true,oG 163 (.bin .eql τ161 τ162) 154 true,oD 164 (.pick XMz τ163 (.const (.bool false))),oM 165 τ164,oG 166 (.mv Xe8) 165 true,oG 167 (.bin .eql τ166 (.const (.int .i64 0))) 165 true,oD 168 (.pick τ165 τ167 (.const (.bool false))),oM 169 τ168,oG 170 (.fieldA 13 XeP) 169 true,oG 171 (.load1 .bool τ170) 169 true,oD 172 (.pick τ169 τ171 (.const (.bool false))),oM 173 τ172,oG 174 (.fieldA 0 XeP) 173 true,oG 175 (.loadN [(.int .i64),.bool,(.int .u64),(.int .u64),.bool,(.int .u64),(.int .u64),(.int .i64),(.int .i64)] τ174) 173 true,oG 176 (.loadN [(.int .i64),.bool,(.int .u64),(.int .u64),.bool,(.int .u64),(.int .u64),(.int .i64),(.int .i64)] τ3) 173 true,oG 177 (.eqAgg false [(0,(.int .i64)),(1,.bool),(2,(.int .u64)),(3,(.int .u64)),(4,.bool),(5,(.int .u64)),(6,(.int .u64)),(7,(.int .i64)),(8,(.int .i64))] τ175 τ176) 173 true,oD 178 (.pick τ173 τ177 (.const (.bool false))),oM 179 τ178,oG 180 (.fieldA 14 XeP) 179 true,oG 181 (.load1 .str τ180) 179 true,oG 182 (.lenS τ181) 179 true,oG 183 (.bin .eql τ182 (.const (.int .i64 8))) 179 true,oD 184 (.pick τ179 τ183 (.const (.bool false))),oM 185 τ184,oG 186 (.callF 32 []) 185 true,oD 187 (.pick τ185 τ186 (.const (.bool false))),oM 6 τ187]) .ret)))))))))))
def fn8:VFn:=⟨188,k8_61,[.tmp 6]⟩
theorem XG5:(Tryz.prog.funcs[141]?).bind (Xaz Tryz.prog)=some XQQ:=by kernel_rfl
theorem XNI:(Tryz.prog.funcs[35]?).bind (Xaz Tryz.prog)=some fn35:=by kernel_rfl
theorem XLA:(Tryz.prog.funcs[72]?).bind (Xaz Tryz.prog)=some fn72:=by kernel_rfl
theorem XJN:(Tryz.prog.funcs[28]?).bind (Xaz Tryz.prog)=some fn28:=by kernel_rfl
theorem XLf:(Tryz.prog.funcs[66]?).bind (Xaz Tryz.prog)=some fn66:=by kernel_rfl
theorem XFR:(Tryz.prog.funcs[105]?).bind (Xaz Tryz.prog)=some XT8:=by kernel_rfl
theorem XHq:(Tryz.prog.funcs[152]?).bind (Xaz Tryz.prog)=some XTf:=by kernel_rfl
theorem XMN:(Tryz.prog.funcs[88]?).bind (Xaz Tryz.prog)=some fn88:=by kernel_rfl
theorem XON:(Tryz.prog.funcs[87]?).bind (Xaz Tryz.prog)=some fn87:=by kernel_rfl
theorem XLY:(Tryz.prog.funcs[86]?).bind (Xaz Tryz.prog)=some fn86:=by kernel_rfl
theorem XGU:(Tryz.prog.funcs[136]?).bind (Xaz Tryz.prog)=some XQV:=by kernel_rfl
theorem XCp:(Tryz.prog.funcs[135]?).bind (Xaz Tryz.prog)=some XTt:=by kernel_rfl
theorem XFN:(Tryz.prog.funcs[177]?).bind (Xaz Tryz.prog)=some XTx:=by kernel_rfl
theorem XEI:(Tryz.prog.funcs[153]?).bind (Xaz Tryz.prog)=some XTg:=by kernel_rfl
theorem XGw:(Tryz.prog.funcs[106]?).bind (Xaz Tryz.prog)=some XQF:=by kernel_rfl
theorem XEl:(Tryz.prog.funcs[101]?).bind (Xaz Tryz.prog)=some XUG:=by kernel_rfl
theorem XOZ:(Tryz.prog.funcs[59]?).bind (Xaz Tryz.prog)=some fn59:=by kernel_rfl
theorem XHE:(Tryz.prog.funcs[146]?).bind (Xaz Tryz.prog)=some XT9:=by kernel_rfl
theorem XLl:(Tryz.prog.funcs[63]?).bind (Xaz Tryz.prog)=some fn63:=by kernel_rfl
theorem XHw:(Tryz.prog.funcs[147]?).bind (Xaz Tryz.prog)=some XUW:=by kernel_rfl
theorem XFk:(Tryz.prog.funcs[154]?).bind (Xaz Tryz.prog)=some XVe:=by kernel_rfl
theorem XHg:(Tryz.prog.funcs[107]?).bind (Xaz Tryz.prog)=some XRM:=by kernel_rfl
theorem XFu:(Tryz.prog.funcs[108]?).bind (Xaz Tryz.prog)=some XWz:=by kernel_rfl
theorem XMS:(Tryz.prog.funcs[74]?).bind (Xaz Tryz.prog)=some fn74:=by kernel_rfl
theorem XHH:(Tryz.prog.funcs[126]?).bind (Xaz Tryz.prog)=some XWg:=by kernel_rfl
theorem XPX:(Tryz.prog.funcs[41]?).bind (Xaz Tryz.prog)=some fn41:=by kernel_rfl
theorem XMA:(Tryz.prog.funcs[37]?).bind (Xaz Tryz.prog)=some fn37:=by kernel_rfl
theorem XOw:(Tryz.prog.funcs[42]?).bind (Xaz Tryz.prog)=some fn42:=by kernel_rfl
theorem XNZ:(Tryz.prog.funcs[39]?).bind (Xaz Tryz.prog)=some fn39:=by kernel_rfl
theorem XPt:(Tryz.prog.funcs[47]?).bind (Xaz Tryz.prog)=some fn47:=by kernel_rfl
theorem XN2:(Tryz.prog.funcs[53]?).bind (Xaz Tryz.prog)=some fn53:=by kernel_rfl
theorem XNK:(Tryz.prog.funcs[34]?).bind (Xaz Tryz.prog)=some fn34:=by kernel_rfl
theorem XMI:(Tryz.prog.funcs[23]?).bind (Xaz Tryz.prog)=some fn23:=by kernel_rfl
theorem XKr:(Tryz.prog.funcs[58]?).bind (Xaz Tryz.prog)=some fn58:=by kernel_rfl
theorem XJY:(Tryz.prog.funcs[71]?).bind (Xaz Tryz.prog)=some fn71:=by kernel_rfl
theorem XOy:(Tryz.prog.funcs[36]?).bind (Xaz Tryz.prog)=some fn36:=by kernel_rfl
theorem XMC:(Tryz.prog.funcs[25]?).bind (Xaz Tryz.prog)=some fn25:=by kernel_rfl
theorem XNu:(Tryz.prog.funcs[62]?).bind (Xaz Tryz.prog)=some fn62:=by kernel_rfl
theorem XNW:(Tryz.prog.funcs[24]?).bind (Xaz Tryz.prog)=some fn24:=by kernel_rfl
theorem XKx:(Tryz.prog.funcs[60]?).bind (Xaz Tryz.prog)=some fn60:=by kernel_rfl
theorem XHr:(Tryz.prog.funcs[102]?).bind (Xaz Tryz.prog)=some XV5:=by kernel_rfl
theorem XDX:(Tryz.prog.funcs[148]?).bind (Xaz Tryz.prog)=some XVi:=by kernel_rfl
theorem XO4:(Tryz.prog.funcs[65]?).bind (Xaz Tryz.prog)=some fn65:=by kernel_rfl
theorem XPE:(Tryz.prog.funcs[64]?).bind (Xaz Tryz.prog)=some fn64:=by kernel_rfl
theorem XKy:(Tryz.prog.funcs[61]?).bind (Xaz Tryz.prog)=some fn61:=by kernel_rfl
theorem XEE:(Tryz.prog.funcs[103]?).bind (Xaz Tryz.prog)=some XVE:=by kernel_rfl
theorem XDf:(Tryz.prog.funcs[149]?).bind (Xaz Tryz.prog)=some XTj:=by kernel_rfl
theorem XDn:(Tryz.prog.funcs[174]?).bind (Xaz Tryz.prog)=some XQ6:=by kernel_rfl
theorem XED:(Tryz.prog.funcs[150]?).bind (Xaz Tryz.prog)=some XVt:=by kernel_rfl
theorem XDu:(Tryz.prog.funcs[104]?).bind (Xaz Tryz.prog)=some XVm:=by kernel_rfl
theorem XC3:(Tryz.prog.funcs[151]?).bind (Xaz Tryz.prog)=some XVS:=by kernel_rfl
theorem XC9:(Tryz.prog.funcs[175]?).bind (Xaz Tryz.prog)=some XTv:=by kernel_rfl
theorem XCY:(Tryz.prog.funcs[176]?).bind (Xaz Tryz.prog)=some XVV:=by kernel_rfl
theorem XPa:(Tryz.prog.funcs[43]?).bind (Xaz Tryz.prog)=some fn43:=by kernel_rfl
theorem XOI:(Tryz.prog.funcs[44]?).bind (Xaz Tryz.prog)=some fn44:=by kernel_rfl
theorem XKp:(Tryz.prog.funcs[75]?).bind (Xaz Tryz.prog)=some fn75:=by kernel_rfl
theorem XFJ:(Tryz.prog.funcs[127]?).bind (Xaz Tryz.prog)=some XUC:=by kernel_rfl
theorem XMR:(Tryz.prog.funcs[38]?).bind (Xaz Tryz.prog)=some fn38:=by kernel_rfl
theorem XM6:(Tryz.prog.funcs[40]?).bind (Xaz Tryz.prog)=some fn40:=by kernel_rfl
theorem XNx:(Tryz.prog.funcs[27]?).bind (Xaz Tryz.prog)=some fn27:=by kernel_rfl
theorem XM1:(Tryz.prog.funcs[73]?).bind (Xaz Tryz.prog)=some fn73:=by kernel_rfl
theorem XUh:(Tryz.prog.funcs[7]?).bind (Xaz Tryz.prog)=some fn7:=by kernel_rfl
theorem XU1:(Tryz.prog.funcs[8]?).bind (Xaz Tryz.prog)=some fn8:=by kernel_rfl
def tab:List (Nat×VFn):=[(6,fn6),(31,fn31),(32,fn32),(33,fn33),(67,fn67),(109,XRq),(110,XVn),(68,fn68),(111,XTG),(155,XQE),(156,XVP),(112,XSX),(157,XWc),(113,XRx),(158,XWA),(159,XSV),(114,XTN),(115,XR0),(116,XWB),(69,fn69),(117,XQB),(119,XSx),(97,fn97),(118,XVz),(160,XQA),(180,XTX),(195,XTB),(196,XVK),(181,XUo),(197,XU6),(182,XRW),(183,XVU),(130,XQH),(164,XSH),(189,XUA),(165,XWu),(98,fn98),(161,XTo),(184,XSm),(198,XVR),(185,XR8),(199,XSR),(203,XSZ),(204,XUX),(120,XVc),(121,XUM),(70,fn70),(122,XRR),(123,XQr),(162,XSG),(186,XUc),(187,XQ5),(163,XV2),(188,XT1),(200,XUt),(124,XWL),(125,XRS),(93,fn93),(81,fn81),(131,XSa),(166,XUT),(190,XQM),(77,fn77),(78,fn78),(129,XWn),(138,XSw),(95,fn95),(80,fn80),(201,XSF),(202,XSY),(191,XTI),(132,XTd),(167,XRP),(192,XUJ),(169,XVB),(170,XQK),(193,XRi),(134,XWl),(133,XRF),(168,XSE),(94,fn94),(139,XRz),(140,XSd),(141,XQQ),(35,fn35),(72,fn72),(28,fn28),(66,fn66),(105,XT8),(152,XTf),(88,fn88),(87,fn87),(86,fn86),(136,XQV),(135,XTt),(177,XTx),(153,XTg),(106,XQF),(101,XUG),(59,fn59),(146,XT9),(63,fn63),(147,XUW),(154,XVe),(107,XRM),(108,XWz),(74,fn74),(126,XWg),(41,fn41),(37,fn37),(42,fn42),(39,fn39),(47,fn47),(53,fn53),(34,fn34),(23,fn23),(58,fn58),(71,fn71),(36,fn36),(25,fn25),(62,fn62),(24,fn24),(60,fn60),(102,XV5),(148,XVi),(65,fn65),(64,fn64),(61,fn61),(103,XVE),(149,XTj),(174,XQ6),(150,XVt),(104,XVm),(151,XVS),(175,XTv),(176,XVV),(43,fn43),(44,fn44),(75,fn75),(127,XUC),(38,fn38),(40,fn40),(27,fn27),(73,fn73),(7,fn7),(8,fn8)]
theorem XaC:XlT Tryz.prog (XaD tab):=XlT.XaJ ⟨XVZ,XKN,XKc,XNA,XPy,XFX,XDe,XOq,XGm,XC2,XB3,XE5,XEO,XE0,XEi,XDO,XC7,XFA,XDI,XL5,XDl,XF9,XL6,XF6,XFO,XD2,XD6,XEN,XCT,XDW,XFj,XF4,XFa,XCd,XFt,XG6,XNl,XDi,XFd,XGW,XER,XGA,XE6,XDL,XCt,XDy,XJH,XDD,XFw,XF2,XHC,XGR,XCw,XGZ,XCh,XGV,XDB,XMu,XN0,XDM,XGN,XCF,XMx,XKo,XGr,XDz,XLb,XJL,XGb,XGQ,XHb,XDP,XEv,XB5,XFo,XD0,XCz,XHB,XCN,XB7,XJ4,XFm,XDk,XG5,XNI,XLA,XJN,XLf,XFR,XHq,XMN,XON,XLY,XGU,XCp,XFN,XEI,XGw,XEl,XOZ,XHE,XLl,XHw,XFk,XHg,XFu,XMS,XHH,XPX,XMA,XOw,XNZ,XPt,XN2,XNK,XMI,XKr,XJY,XOy,XMC,XNu,XNW,XKx,XHr,XDX,XO4,XPE,XKy,XEE,XDf,XDn,XED,XDu,XC3,XC9,XCY,XPa,XOI,XKp,XFJ,XMR,XM6,XNx,XM1,XUh,XU1,trivial⟩
end Go.Vm.Code
