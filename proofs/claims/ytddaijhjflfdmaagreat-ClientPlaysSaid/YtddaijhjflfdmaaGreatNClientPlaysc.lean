import Derived.Test.YtddaijhjflfdmaaGreatNClientPlaysb
namespace Go.Vm
open Go Go.RowKit
abbrev wI (k:IntKind) (n:Int):Int:=IntKind.wrap k n
abbrev XnT (k:IntKind) (a b:Int):Int:=IntKind.wrap k (BitVec.ofInt k.bits a &&& BitVec.ofInt k.bits b).toNat
abbrev XlD (k:IntKind) (a b:Int):Int:=IntKind.wrap k (BitVec.ofInt k.bits a ||| BitVec.ofInt k.bits b).toNat
abbrev XEu (k:IntKind) (a b:Int):Int:=IntKind.wrap k (BitVec.ofInt k.bits a &&& ~~~ BitVec.ofInt k.bits b).toNat
def Xbn {α:Type} (b:Bool) (x:Option α):Option α:=match b with|true=>x|false=>none
theorem Xbn.elim {α:Type} {b:Bool} {x:Option α} {r:α} (h:Xbn b x=some r):b=true∧x=some r:=by cases b;cases h;exact ⟨rfl,h⟩
theorem Xbn.mk {α:Type} {b:Bool} {x:Option α} (h:b=true):Xbn b x=x:=by subst h;rfl
theorem XcR.elim {α β:Type} {x:Option α} {F:α→Option β} {r:β} (h:x.bind F=some r):∃ a,x=some a∧F a=some r:=by cases x with|none=>cases h|some a=>exact ⟨a,rfl,h⟩
def FUEL:Nat:=2^64
def iter {σ ρ:Type} (f:σ→Option (Sum σ ρ)):Nat→σ→Option ρ
 | 0,_=>none
 | n+1,s=>match f s with
   | none=>none
   | some (.inl s')=>iter f n s'
   | some (.inr r)=>some r
theorem XcX {σ ρ:Type} {P:Program} {f base:Nat} {R:Value→Hp→Nat→Prop} {step:σ→Option (Sum σ ρ)} {head:σ→VM} {C:ρ→Prop}
 (h:∀ s o,step s=some o→Sum.elim (fun s'=>XaJ P f base (head s') R) C o→XaJ P f base (head s) R) :
 ∀ n s r,iter step n s=some r→C r→XaJ P f base (head s) R
 | 0,_,_,e,_=>by cases e
 | n+1,s,r,e,hc=>by
   rw [iter] at e
   split at e
   ·cases e
   ·rename_i s' hs
    exact h s _ hs (XcX h n s' r e hc)
   ·rename_i r' hs
    cases e
    exact h s _ hs hc
def vI (k:IntKind) (xs:List Int):List Value:=xs.map (Value.int k)
def vB (xs:List Bool):List Value:=xs.map Value.bool
def vS (xs:List (List UInt8)):List Value:=xs.map fun s=>Value.string ⟨⟨s⟩⟩
def bI (l:List UInt8):List Int:=l.map fun b=>(b.toNat:Int)
def iB (xs:List Int):List UInt8:=xs.map fun n=>UInt8.ofNat n.toNat
@[simp] theorem vI_len (k:IntKind) (xs:List Int):(vI k xs).length=xs.length:=List.length_map _
@[simp] theorem vB_len (xs:List Bool):(vB xs).length=xs.length:=List.length_map _
@[simp] theorem vS_len (xs:List (List UInt8)):(vS xs).length=xs.length:=List.length_map _
@[simp] theorem XIE (l:List UInt8):(bI l).length=l.length:=List.length_map _
@[simp] theorem iB_len (l:List Int):(iB l).length=l.length:=List.length_map _
theorem Xku (k:IntKind) (xs:List Int):Xbt.flatL (vI k xs)=true:=Xnw (fun _=>rfl) xs
theorem Xn5 (xs:List Bool):Xbt.flatL (vB xs)=true:=Xnw (fun _=>rfl) xs
theorem Xn3 (xs:List (List UInt8)):Xbt.flatL (vS xs)=true:=Xnw (fun _=>rfl) xs
theorem Xip (k:IntKind):∀ (xs:List Int),(vI k xs).all XiF=true
 | []=>rfl
 | _::xs=>by simp only [vI,List.map_cons,List.all_cons,XiF,Bool.true_and];exact Xip k xs
theorem XkQ:∀ (xs:List Bool),(vB xs).all XiF=true
 | []=>rfl
 | _::xs=>by simp only [vB,List.map_cons,List.all_cons,XiF,Bool.true_and];exact XkQ xs
theorem XkF:∀ (xs:List (List UInt8)),(vS xs).all XiF=true
 | []=>rfl
 | _::xs=>by simp only [vS,List.map_cons,List.all_cons,XiF,Bool.true_and];exact XkF xs
theorem Xfu (l:List UInt8):ofBytes l=vI .u8 (bI l):=by simp [ofBytes,vI,bI,List.map_map]
theorem Xod:∀ (xs:List Int),Xho (vI .u8 xs)=some (iB xs)
 | []=>rfl
 | x::xs=>by simp only [vI,List.map_cons,Xho];rw [show Xho (xs.map (Value.int .u8))=_ from Xod xs];rfl
theorem XR4 (k:IntKind) (xs:List Int) (i:Nat) (x:Int):(vI k xs).set i (.int k x)=vI k (xs.set i x):=by simp [vI,List.map_set]
theorem XlT (k:IntKind) (xs:List Int) (n:Nat):(vI k xs).drop n=vI k (xs.drop n):=by simp [vI,List.map_drop]
theorem XlG (k:IntKind) (xs:List Int) (n:Nat):(vI k xs).take n=vI k (xs.take n):=by simp [vI,List.map_take]
theorem XOA (xs:List Bool) (n:Nat):(vB xs).drop n=vB (xs.drop n):=by simp [vB,List.map_drop]
theorem XJ2 (xs:List Bool) (n:Nat):(vB xs).take n=vB (xs.take n):=by simp [vB,List.map_take]
theorem Xm2 (xs:List (List UInt8)) (n:Nat):(vS xs).drop n=vS (xs.drop n):=by simp [vS,List.map_drop]
theorem Xm9 (xs:List (List UInt8)) (n:Nat):(vS xs).take n=vS (xs.take n):=by simp [vS,List.map_take]
theorem XIL (k:IntKind) (xs ys:List Int):vI k xs++vI k ys=vI k (xs++ys):=by simp [vI]
theorem br.h {α:Type} {b b':Bool} {X Y:Option α} {r:α} {p q:Prop} (h:cond b' X Y=some r) (e:b=b') (k1:b'=true→X=some r→p) (k2:b'=false→Y=some r→q):br b p q:=by
 subst e;cases b;exact k2 rfl h;exact k1 rfl h
theorem rd.I {k:IntKind} {xs:List Int} {o i:Nat} {x:Int} {K:Value→Prop} (hx:xs[i]?=some x) (e:o=i) (h:XiE (.int k x) K):rd (vI k xs) o K:=by
 subst e;exact rd.intro (v:=.int k x) (by simp [vI,hx]) h
theorem rd.B {xs:List Bool} {o i:Nat} {x:Bool} {K:Value→Prop} (hx:xs[i]?=some x) (e:o=i) (h:XiE (.bool x) K):rd (vB xs) o K:=by
 subst e;exact rd.intro (v:=.bool x) (by simp [vB,hx]) h
theorem rd.S {xs:List (List UInt8)} {o i:Nat} {x:List UInt8} {K:Value→Prop} (hx:xs[i]?=some x) (e:o=i) (h:XiE (.string ⟨⟨x⟩⟩) K):rd (vS xs) o K:=by
 subst e;exact rd.intro (v:=.string ⟨⟨x⟩⟩) (by simp [vS,hx]) h
theorem XNW {k:IntKind} {xs:List Int} {o i:Nat} {x:Int} (hb:decide (i<xs.length)=true) (e:o=i):(decide ((Xa6 (.int k x)).length=1∧o+1≤(vI k xs).length)&&(Xa6 (.int k x)).all XiF)=true:=by
 subst e;have:=of_decide_eq_true hb;simp [Xa6,Value.cells,XiF];omega
theorem XWD {k:IntKind} {xs:List Int} {o i:Nat} {x:Int} {K:List Value→Prop} (e:o=i) (h:K (vI k (xs.set i x))):∃ cs',setAt (vI k xs) o (Xa6 (.int k x))=cs'∧K cs':=
 ⟨_,by subst e;exact XR4 k xs o x,h⟩
theorem XSR {k:IntKind} {n:Nat} {z:Int} {K:List Value→Prop} (h:K (vI k (List.replicate n z))):∃ cs',(List.replicate n [Value.int k z]).flatten=cs'∧K cs':=
 ⟨_,by simp [vI,List.flatten_replicate_singleton],h⟩
theorem XUu {l:List UInt8} {K:List Value→Prop} (h:K (vI .u8 (bI l))):∃ cs',ofBytes l=cs'∧K cs':=⟨_,Xfu l,h⟩
theorem XTF {xs:List Int} {o n:Nat} {K:List UInt8→Prop} (h:K (iB ((xs.drop o).take n))):∃ bs,Xho (((vI .u8 xs).drop o).take n)=some bs∧K bs:=
 ⟨_,by rw [XlT,XlG];exact Xod _,h⟩
theorem XLP {l:List Value} {bs:List UInt8} {K:List UInt8→Prop} (e:Xho l=some bs) (h:K bs):∃ bs,Xho l=some bs∧K bs:=⟨_,e,h⟩
theorem XxG {k:IntKind} {new:List Value} {m:Nat} {ys:List Int} {K:List Value→Nat→Prop} (e:new=vI k ys) (em:m=ys.length) (h:K (vI k ys) ys.length):∃ cs' n',new=cs'∧m=n'∧K cs' n':=⟨_,_,e,em,h⟩
theorem XSJ {k:IntKind} {new:List Value} {xs:List Int} {o c n m:Nat} {ys:List Int} {K:List Value→Nat→Prop} (e:new=vI k ys) (h0:o=0) (hc:c=xs.length) (hn:n+m=(xs++ys).length) (h:K (vI k (xs++ys)) (xs++ys).length) :
 ∃ cs' n',((vI k xs).drop o).take c++new=cs'∧n+m=n'∧K cs' n':=
 ⟨_,_,by subst h0;rw [List.drop_zero,List.take_of_length_le (by simp [hc]),e,XIL],hn,h⟩
def vT {α:Type} (f:α→List Value) (xs:List α):List Value:=xs.flatMap f
section
variable {α:Type} {f:α→List Value} {c:Nat}
theorem Xhn (hf:∀ x,(f x).length=c) (xs:List α):(vT f xs).length=xs.length*c:=by
 induction xs with
 | nil=>simp [vT]
 | cons x xs ih=>
   have:vT f (x::xs)=f x++vT f xs:=rfl
   rw [this,List.length_append,hf,ih,List.length_cons,Nat.succ_mul];omega
theorem Xoc (hf:∀ x,Xbt.flatL (f x)=true) (xs:List α):Xbt.flatL (vT f xs)=true:=by
 have app:∀ a b:List Value,Xbt.flatL a=true→Xbt.flatL b=true→Xbt.flatL (a++b)=true:=by
  intro a b ha hb
  induction a with
  | nil=>exact hb
  | cons v a ih=>simp only [Xbt.flatL,Bool.and_eq_true,List.cons_append] at ha ⊢;exact ⟨ha.1,ih ha.2⟩
 induction xs with
 | nil=>rfl
 | cons x xs ih=>exact app _ _ (hf x) ih
theorem Xlp (hf:∀ x,(f x).all XiF=true) (xs:List α):(vT f xs).all XiF=true:=by
 induction xs with
 | nil=>rfl
 | cons x xs ih=>have:vT f (x::xs)=f x++vT f xs:=rfl;rw [this,List.all_append,hf,ih];rfl
theorem XUp (xs ys:List α):vT f xs++vT f ys=vT f (xs++ys):=by simp [vT]
theorem Xgs (hf:∀ x,(f x).length=c) (xs:List α) (n:Nat):(vT f xs).drop (n*c)=vT f (xs.drop n):=by
 induction xs generalizing n with
 | nil=>simp [vT]
 | cons x xs ih=>
   cases n with
   | zero=>simp
   | succ n=>
     have:vT f (x::xs)=f x++vT f xs:=rfl
     rw [this,List.drop_succ_cons,Nat.succ_mul,Nat.add_comm,List.drop_append,hf,List.drop_eq_nil_of_le (by rw [hf];omega),List.nil_append,show c+n*c - c=n*c by omega,ih]
theorem Xgo (hf:∀ x,(f x).length=c) (xs:List α) (n:Nat):(vT f xs).take (n*c)=vT f (xs.take n):=by
 induction xs generalizing n with
 | nil=>simp [vT]
 | cons x xs ih=>
   cases n with
   | zero=>simp [vT]
   | succ n=>
     have:vT f (x::xs)=f x++vT f xs:=rfl
     have h2:vT f ((x::xs).take (n+1))=f x++vT f (xs.take n):=rfl
     rw [this,h2,Nat.succ_mul,Nat.add_comm,List.take_append,hf,List.take_of_length_le (by rw [hf];omega),show c+n*c - c=n*c by omega,ih]
theorem XJU (hf:∀ x,(f x).length=c) {xs:List α} {i j:Nat} {x:α} (hx:xs[i]?=some x) (hj:j<c):(vT f xs)[i*c+j]?=(f x)[j]?:=by
 induction xs generalizing i with
 | nil=>simp at hx
 | cons y xs ih=>
   have:vT f (y::xs)=f y++vT f xs:=rfl
   rw [this]
   cases i with
   | zero=>
     simp at hx;subst hx
     rw [Nat.zero_mul,Nat.zero_add,List.getElem?_append_left (by rw [hf];exact hj)]
   | succ i=>
     rw [List.getElem?_append_right (by rw [hf,Nat.succ_mul];omega),hf,show (i+1)*c+j - c=i*c+j by rw [Nat.succ_mul];omega]
     exact ih (by simpa using hx)
theorem rd.T (hf:∀ x,(f x).length=c) {xs:List α} {o i j:Nat} {x:α} {v:Value} {K:Value→Prop} (hx:xs[i]?=some x) (e:o=i*c+j) (hj:j<c) (hv:(f x)[j]?=some v) (h:XiE v K):rd (vT f xs) o K:=by
 subst e;exact rd.intro (by rw [XJU hf hx hj];exact hv) h
theorem XJw (hf:∀ x,(f x).length=c) {new:List Value} {xs:List α} {o k n m:Nat} {ys:List α} {K:List Value→Nat→Prop} (e:new=vT f ys) (h0:o=0) (hc:k=xs.length*c) (hn:n+m=(xs++ys).length) (h:K (vT f (xs++ys)) (xs++ys).length) :
 ∃ cs' n',((vT f xs).drop o).take k++new=cs'∧n+m=n'∧K cs' n':=
 ⟨_,_,by subst h0;rw [List.drop_zero,List.take_of_length_le (by rw [Xhn hf,hc];omega),e,XUp],hn,h⟩
def unT (sz:Nat) (un:List Value→Option α):Nat→List Value→Option (List α)
 | 0,[]=>some []
 | 0,_::_=>none
 | _+1,[]=>some []
 | n+1,v::cs=>match un ((v::cs).take sz) with
   | some x=>match unT sz un n ((v::cs).drop sz) with
     | some xs=>some (x::xs)
     | none=>none
   | none=>none
theorem XH1 {un:List Value→Option α} (hf:∀ x,(f x).length=c) (h0:0<c) (hu:∀ x,un (f x)=some x):∀ (xs:List α) (n:Nat),xs.length≤n→unT c un n (vT f xs)=some xs
 | [],0,_=>rfl
 | [],n+1,_=>rfl
 | x::xs,0,h=>by simp at h
 | x::xs,n+1,h=>by
   have e:vT f (x::xs)=f x++vT f xs:=rfl
   obtain ⟨v,l,hv⟩:∃ v l,vT f (x::xs)=v::l:=by
    cases hx:f x with
    | nil=>have:=hf x;rw [hx] at this;simp at this;omega
    | cons v l=>exact ⟨v,l++vT f xs,by rw [e,hx];rfl⟩
   rw [hv,unT,←hv,e,List.take_append_of_le_length (by rw [hf];exact Nat.le_refl _),List.take_of_length_le (by rw [hf];exact Nat.le_refl _),hu,List.drop_append,hf,List.drop_eq_nil_of_le (by rw [hf];exact Nat.le_refl _),Nat.sub_self,List.drop_zero,List.nil_append,XH1 hf h0 hu xs n (by simpa using h)]
theorem XiD {un:List Value→Option α} (hu:∀ cs x,un cs=some x→cs=f x):∀ {n:Nat} {cs:List Value} {xs:List α},unT c un n cs=some xs→cs=vT f xs
 | 0,[],xs,h=>by simp only [unT,Option.some.injEq] at h;subst h;rfl
 | 0,_::_,xs,h=>by simp [unT] at h
 | n+1,[],xs,h=>by simp only [unT,Option.some.injEq] at h;subst h;rfl
 | n+1,v::cs,xs,h=>by
   simp only [unT] at h
   split at h<;>try (cases h;done)
   rename_i x hx
   split at h<;>cases h
   rename_i ys hys
   have e1:=hu _ _ hx
   have e2:=XiD hu hys
   have:vT f (x::ys)=f x++vT f ys:=rfl
   rw [this,←e1,←e2,List.take_append_drop]
def unR (sz:Nat) (un:List Value→Option α) (cs:List Value):Option (List α):=unT sz un cs.length cs
theorem XWs {un:List Value→Option α} (hf:∀ x,(f x).length=c) (h0:0<c) (hu:∀ x,un (f x)=some x) (xs:List α):unR c un (vT f xs)=some xs:=
 XH1 hf h0 hu xs _ (by rw [Xhn hf];exact Nat.le_mul_of_pos_right _ h0)
end
theorem XsO {s:Xbz} {vals aqs:List Value} {os:List (Option XbY)} {h h1 h2:Hp} {top n m t':Nat} {ws:List Wd} {r:XcS} {v':Value} (e1:XdF h 0 s.modes vals=some (aqs,os)) (ew:Xlg h s.modes vals=ws) {cw:List (Option (List Value))} (ec:Xlq os=cw) (e2:s.run aqs cw=some r) (e3:apartB ws=true)
 (hn:r.new.length=n) (hm:Xl0 ws=m) (ht:top+n+m=t') (e4:Xd5 h (Xub top n ws) ws r.wr=some h1) (e5:Xjy h1 (Xub top n ws) top r.new=some h2) (e6:Xfq (Xub top n ws) r.v=some v'):Xjk s vals h top=some (v',XjU h2 (top+n) m,t'):=by
 subst hn hm ht ec
 simp only [Xjk,e1,e2,ew,e3,e4,e5,e6]
theorem XTG {h:Hp} {k:Nat}:XdF h k [] []=some ([],[]):=rfl
theorem XKC {h:Hp} {k k':Nat} {m:Md} {ms:List Md} {v a:Value} {vs aqs:List Value} {os os':List (Option XbY)} (e:Xdi h k m v=some (a,os)) (hk:k+os.length=k') (t:XdF h k' ms vs=some (aqs,os')):XdF h k (m::ms) (v::vs)=some (a::aqs,os++os'):=by
 subst hk
 simp only [XdF,e,t]
theorem XHj {h:Hp} {k b o n m sz sz':Nat} {ob:XbY} {cs cs':List Value} (ho:XaI h b=some ob) (hc:ob.cs=some cs) (hs:sz=sz') (en:n=m) (hle:o+n*sz≤cs.length) (e:(cs.drop o).take (n*sz)=cs') (hf:Xbt.flatL cs'=true) :
 Xdi h k (.sl sz) (.slice (some ⟨b,o,none⟩) n sz')=some (.slice (some ⟨k,0,none⟩) m sz,[some (.row false cs')]):=by
 subst hs en e
 simp only [Xdi,ho,hc,hle,hf,↓reduceIte]
theorem XIb {h:Hp} {b o n i m sz kk:Nat} {k:IntKind} {own:Bool} {xs:List Int} (ho:XaI h b=some (.row own (vI k xs))) (hs:sz=1) (e0:o=i) (en:n=m) (hle:i+m≤xs.length):Xdi h kk (.sl 1) (.slice (some ⟨b,o,none⟩) n sz)=some (.slice (some ⟨kk,0,none⟩) m 1,[some (.row false (vI k ((xs.drop i).take m)))]):=by
 subst hs e0 en
 exact XHj ho rfl rfl rfl (by simp;omega) (by rw [XlT,XlG,Nat.mul_one]) (Xku _ _)
theorem XHU {h:Hp} {b o n i m sz kk:Nat} {own:Bool} {xs:List (List UInt8)} (ho:XaI h b=some (.row own (vS xs))) (hs:sz=1) (e0:o=i) (en:n=m) (hle:i+m≤xs.length):Xdi h kk (.sl 1) (.slice (some ⟨b,o,none⟩) n sz)=some (.slice (some ⟨kk,0,none⟩) m 1,[some (.row false (vS ((xs.drop i).take m)))]):=by
 subst hs e0 en
 exact XHj ho rfl rfl rfl (by simp;omega) (by rw [Xm2,Xm9,Nat.mul_one]) (Xn3 _)
theorem XIe {h:Hp} {b o n i m sz kk:Nat} {own:Bool} {xs:List Bool} (ho:XaI h b=some (.row own (vB xs))) (hs:sz=1) (e0:o=i) (en:n=m) (hle:i+m≤xs.length):Xdi h kk (.sl 1) (.slice (some ⟨b,o,none⟩) n sz)=some (.slice (some ⟨kk,0,none⟩) m 1,[some (.row false (vB ((xs.drop i).take m)))]):=by
 subst hs e0 en
 exact XHj ho rfl rfl rfl (by simp;omega) (by rw [XOA,XJ2,Nat.mul_one]) (Xn5 _)
theorem XMy {h:Hp} {b o n sz kk:Nat} {k:IntKind} {own:Bool} {xs:List Int} (ho:XaI h b=some (.row own (vI k xs))) (hs:sz=1) (e0:o=0) (en:n=xs.length):Xdi h kk (.sl 1) (.slice (some ⟨b,o,none⟩) n sz)=some (.slice (some ⟨kk,0,none⟩) xs.length 1,[some (.row false (vI k xs))]):=by
 have:=XIb (kk:=kk) (i:=0) (m:=xs.length) ho hs e0 en (by omega)
 simpa using this
theorem XOj {h:Hp} {b o n sz kk:Nat} {own:Bool} {xs:List (List UInt8)} (ho:XaI h b=some (.row own (vS xs))) (hs:sz=1) (e0:o=0) (en:n=xs.length):Xdi h kk (.sl 1) (.slice (some ⟨b,o,none⟩) n sz)=some (.slice (some ⟨kk,0,none⟩) xs.length 1,[some (.row false (vS xs))]):=by
 have:=XHU (kk:=kk) (i:=0) (m:=xs.length) ho hs e0 en (by omega)
 simpa using this
theorem XMH {h:Hp} {b o n sz kk:Nat} {own:Bool} {xs:List Bool} (ho:XaI h b=some (.row own (vB xs))) (hs:sz=1) (e0:o=0) (en:n=xs.length):Xdi h kk (.sl 1) (.slice (some ⟨b,o,none⟩) n sz)=some (.slice (some ⟨kk,0,none⟩) xs.length 1,[some (.row false (vB xs))]):=by
 have:=XIe (kk:=kk) (i:=0) (m:=xs.length) ho hs e0 en (by omega)
 simpa using this
theorem XiC {α:Type} {f:α→List Value} {c:Nat} (hf:∀ x,(f x).length=c) (hfl:∀ x,Xbt.flatL (f x)=true) {h:Hp} {b o n i m sz kk:Nat} {own:Bool} {xs:List α} (ho:XaI h b=some (.row own (vT f xs))) (hs:sz=c) (e0:o=i*c) (en:n=m) (hle:i+m≤xs.length):Xdi h kk (.sl c) (.slice (some ⟨b,o,none⟩) n sz)=some (.slice (some ⟨kk,0,none⟩) m c,[some (.row false (vT f ((xs.drop i).take m)))]):=by
 subst hs e0 en
 refine XHj ho rfl rfl rfl ?_ (by rw [Xgs hf,Xgo hf]) (Xoc hfl _)
 rw [Xhn hf,←Nat.add_mul];exact Nat.mul_le_mul_right _ hle
theorem Xg6 {α:Type} {f:α→List Value} {c:Nat} (hf:∀ x,(f x).length=c) (hfl:∀ x,Xbt.flatL (f x)=true) {h:Hp} {b o n sz kk:Nat} {own:Bool} {xs:List α} (ho:XaI h b=some (.row own (vT f xs))) (hs:sz=c) (e0:o=0) (en:n=xs.length):Xdi h kk (.sl c) (.slice (some ⟨b,o,none⟩) n sz)=some (.slice (some ⟨kk,0,none⟩) xs.length c,[some (.row false (vT f xs))]):=by
 have:=XiC hf hfl (kk:=kk) (i:=0) (m:=xs.length) ho hs (by simpa using e0) en (by omega)
 simpa using this
theorem ra_tr {h:Hp} {k:Nat} {ps:List Path} {bs:List PR} {v v' w:Value} {l:List (Option XbY)} (e0:Xid h v ps []=bs) (e1:Xfq (Xxd k bs) v=some v') (e2:Xhx h (Xxd k bs) (fun s=>XmZ k s ps bs) 0 ps bs=some l) (e3:XuW v' (XmZ k none ps bs)=w):Xdi h k (.tr ps) v=some (w,l):=by
 subst e0 e3
 simp only [Xdi,e1,e2]
theorem XS1 {h:Hp} {s:Nat→Option Nat} {pat:Option Nat→List (Nat×Value)} {i:Nat}:Xhx h s pat i [] []=some []:=rfl
theorem XU4 {h:Hp} {s:Nat→Option Nat} {pat:Option Nat→List (Nat×Value)} {i z:Nat} {p:Path} {ps:List Path} {bs:List PR} {l:List (Option XbY)} (t:Xhx h s pat (i+1) ps bs=some l):Xhx h s pat i (p::ps) (.nil z::bs)=some (some (mkObj p.kind [])::l):=by
 simp only [Xhx,t]
theorem vp_at {h:Hp} {s:Nat→Option Nat} {pat:Option Nat→List (Nat×Value)} {i b:Nat} {p:Path} {ps:List Path} {bs:List PR} {l:List (Option XbY)} {ob:XbY} {cs cs' cs'':List Value} (e1:XaI h b=some ob) (e2:(cond (isW p.kind) ob.wcs ob.cs)=some cs) (e3:Xfq.renL s cs=some cs') (e4:Xqw cs' (pat (some i))=cs'')
 (t:Xhx h s pat (i+1) ps bs=some l):Xhx h s pat i (p::ps) (.hit b::bs)=some (some (mkObj p.kind cs'')::l):=by
 subst e4
 simp only [Xhx,e1,e2,e3,t]
def skipW:Wd→Bool
 | .no|.emp _|.win _ _ _ false|.blk _ false=>true
 | _=>false
theorem XIX {h:Hp} {s:Nat→Option Nat}:Xd5 h s [] []=some h:=rfl
theorem XPe {h h':Hp} {s:Nat→Option Nat} {x:Wd} {ws:List Wd} {c:Option (List Value)} {cs:List (Option (List Value))} (hx:skipW x=true) (t:Xd5 h s ws cs=some h'):Xd5 h s (x::ws) (c::cs)=some h':=by
 cases x with
 | win b o n w=>cases w<;>first|(simp only [Xd5];exact t)|cases hx
 | blk b w=>cases w<;>first|(simp only [Xd5];exact t)|cases hx
 | _=>simp only [Xd5];exact t
theorem XHY {h h':Hp} {s:Nat→Option Nat} {b off n:Nat} {ws:List Wd} {c c' x y:List Value} {cs:List (Option (List Value))} {ob ob':XbY} (e1:XaI h b=some ob) (e2:ob.wcs=some x) (e3:Xfq.renL s c=some c') (e4:c'.length=n∧off+n≤x.length) (e5:setAt x off c'=y) (e6:ob.wr y=some ob') (t:Xd5 (XgN h b ob') s ws cs=some h') :
 Xd5 h s (.win b off n true::ws) (some c::cs)=some h':=by
 subst e5
 simp only [Xd5,e1,e2,e3,e6,if_pos e4];exact t
theorem XRF {h h':Hp} {s:Nat→Option Nat} {b:Nat} {ws:List Wd} {c c' x:List Value} {cs:List (Option (List Value))} {ob ob':XbY} (e1:XaI h b=some ob) (e2:ob.wcs=some x) (e3:Xfq.renL s c=some c') (e6:ob.wr c'=some ob') (t:Xd5 (XgN h b ob') s ws cs=some h') :
 Xd5 h s (.blk b true::ws) (some c::cs)=some h':=by
 simp only [Xd5,e1,e2,e3,e6];exact t
theorem XRH {h h':Hp} {s:Nat→Option Nat} {b:Nat} {ws:List Wd} {cs:List (Option (List Value))} (t:Xd5 (XoG h b) s ws cs=some h'):Xd5 h s (.blk b true::ws) (none::cs)=some h':=by
 simp only [Xd5];exact t
theorem XHT {h:Hp} {s:Nat→Option Nat} {top:Nat}:Xjy h s top []=some h:=rfl
theorem XLB {h h':Hp} {s:Nat→Option Nat} {top:Nat} {c c':List Value} {cs:List (List Value)} (e:Xfq.renL s c=some c') (t:Xjy (XgN h top (.row true c')) s (top+1) cs=some h'):Xjy h s top (c::cs)=some h':=by
 simp only [Xjy,e];exact t
theorem XtT {s:Nat→Option Nat} {k:IntKind} {xs:List Int}:Xfq.renL s (vI k xs)=some (vI k xs):=Xcz _ _ (Xku _ _)
theorem Xuh {s:Nat→Option Nat} {xs:List Bool}:Xfq.renL s (vB xs)=some (vB xs):=Xcz _ _ (Xn5 _)
theorem XuL {s:Nat→Option Nat} {xs:List (List UInt8)}:Xfq.renL s (vS xs)=some (vS xs):=Xcz _ _ (Xn3 _)
theorem XbA {s:Nat→Option Nat} {α:Type} {f:α→List Value} (hfl:∀ x,Xbt.flatL (f x)=true) {xs:List α}:Xfq.renL s (vT f xs)=some (vT f xs):=Xcz _ _ (Xoc hfl _)
def XIm (n:Nat) (wr:List (Option (List Value))):List Nat→Prop
 | []=>True
 | j::js=>(n≤j∨wr[j]?=some none)∧XIm n wr js
theorem Xu2 {n:Nat} {wr:List (Option (List Value))}:∀ {js:List Nat},XIm n wr js→∀ j∈js,n≤j∨wr[j]?=some none
 | [],_,j,h=>by cases h
 | k::js,h,j,hj=>by
   rcases List.mem_cons.1 hj with rfl|hj
   ·exact h.1
   ·exact Xu2 h.2 j hj
theorem Res.of {n:Nat} {r:XcS} {v':Value} {H':Hp} (js:List Nat) (e1:Xfq (Xwl js n) r.v=some v') (e2:XtZ H' (Xwl js n) js r.new) (e3:js.Nodup) (e4:XIm n r.wr js) (e5:XBO H' (Xwl js n) 0 r.wr):Res n r v' H':=
 ⟨⟨js,e1,e2,e3,Xu2 e4,e5⟩⟩
theorem Xht {H:Hp} {j:Nat} {c:List Value} (h:XaI H j=some (.row true c)):Has H j c:=.inl h
theorem Xi7 {H:Hp} {j:Nat} {c:List Value} (h:XaI H j=some (.cells c)):Has H j c:=.inr (.inl h)
abbrev Dec:=List Value→List (Option (List Value))→Option XcS
def dV {α:Type} (un:Value→Option α) (K:α→Dec):Dec:=fun vs cs=>match vs with
 | v::vs'=>match un v with
   | some x=>K x vs' cs
   | none=>none
 | []=>none
theorem XaP {α:Type} {un:Value→Option α} {K:α→Dec} {v:Value} {vs:List Value} {cs:List (Option (List Value))} {x:α} (h:un v=some x):dV un K (v::vs) cs=K x vs cs:=by simp only [dV,h]
theorem dV.elim {α:Type} {un:Value→Option α} {K:α→Dec} {vs:List Value} {cs:List (Option (List Value))} {r:XcS} (h:dV un K vs cs=some r):∃ v vs' x,vs=v::vs'∧un v=some x∧K x vs' cs=some r:=by
 unfold dV at h
 split at h<;>try (cases h;done)
 split at h<;>try (cases h;done)
 exact ⟨_,_,_,rfl,by assumption,h⟩
def dSl {α:Type} (k sz:Nat) (un:List Value→Option (List α)) (K:List α→Dec):Dec:=fun vs cs=>match vs,cs with
 | .slice (some ⟨k',0,none⟩) n sz'::vs',some c::cs'=>match un c with
   | some xs=>if k'=k∧sz'=sz∧n=xs.length then K xs vs' cs' else none
   | none=>none
 | _,_=>none
theorem XsB {α:Type} {k sz:Nat} {un:List Value→Option (List α)} {K:List α→Dec} {vs:List Value} {c:List Value} {cs:List (Option (List Value))} {xs:List α} (h:un c=some xs):dSl k sz un K (.slice (some ⟨k,0,none⟩) xs.length sz::vs) (some c::cs)=K xs vs cs:=by simp [dSl,h]
theorem dSl.elim {α:Type} {k sz:Nat} {un:List Value→Option (List α)} {K:List α→Dec} {vs:List Value} {cs:List (Option (List Value))} {r:XcS} (h:dSl k sz un K vs cs=some r):∃ c vs' cs' xs,vs=.slice (some ⟨k,0,none⟩) xs.length sz::vs'∧cs=some c::cs'∧un c=some xs∧K xs vs' cs'=some r:=by
 unfold dSl at h
 split at h<;>try (cases h;done)
 split at h<;>try (cases h;done)
 split at h<;>try (cases h;done)
 rename_i hc
 obtain ⟨rfl,rfl,rfl⟩:=hc
 exact ⟨_,_,_,_,rfl,rfl,by assumption,h⟩
def dTr {α:Type} (n:Nat) (un:Value→List (Option (List Value))→Option α) (K:α→Dec):Dec:=fun vs cs=>match vs with
 | v::vs'=>match un v (cs.take n) with
   | some x=>K x vs' (cs.drop n)
   | none=>none
 | []=>none
theorem XRf {α:Type} {n:Nat} {un:Value→List (Option (List Value))→Option α} {K:α→Dec} {v:Value} {vs:List Value} {cs cs1 cs2:List (Option (List Value))} {x:α} (h1:cs.take n=cs1) (h2:cs.drop n=cs2) (h:un v cs1=some x):dTr n un K (v::vs) cs=K x vs cs2:=by
 subst h1 h2;simp only [dTr,h]
theorem dTr.elim {α:Type} {n:Nat} {un:Value→List (Option (List Value))→Option α} {K:α→Dec} {vs:List Value} {cs:List (Option (List Value))} {r:XcS} (h:dTr n un K vs cs=some r):∃ v vs' cs1 cs2 x,vs=v::vs'∧cs=cs1++cs2∧un v cs1=some x∧K x vs' cs2=some r:=by
 unfold dTr at h
 split at h<;>try (cases h;done)
 split at h<;>try (cases h;done)
 exact ⟨_,_,_,_,_,rfl,(List.take_append_drop n cs).symm,by assumption,h⟩
def dPt {α:Type} (k:Nat) (un:List Value→Option α) (K:α→Dec):Dec:=fun vs cs=>match vs,cs with
 | .pointer (some ⟨k',0,none⟩)::vs',some c::cs'=>match un c with
   | some x=>if k'=k then K x vs' cs' else none
   | none=>none
 | _,_=>none
theorem Xhm {α:Type} {k:Nat} {un:List Value→Option α} {K:α→Dec} {vs:List Value} {c:List Value} {cs:List (Option (List Value))} {x:α} (h:un c=some x):dPt k un K (.pointer (some ⟨k,0,none⟩)::vs) (some c::cs)=K x vs cs:=by simp [dPt,h]
theorem dPt.elim {α:Type} {k:Nat} {un:List Value→Option α} {K:α→Dec} {vs:List Value} {cs:List (Option (List Value))} {r:XcS} (h:dPt k un K vs cs=some r):∃ c vs' cs' x,vs=.pointer (some ⟨k,0,none⟩)::vs'∧cs=some c::cs'∧un c=some x∧K x vs' cs'=some r:=by
 unfold dPt at h
 split at h<;>try (cases h;done)
 split at h<;>try (cases h;done)
 split at h<;>try (cases h;done)
 rename_i hc
 subst hc
 exact ⟨_,_,_,_,rfl,rfl,by assumption,h⟩
def dNo:Nat→Dec→Dec
 | 0,K=>K
 | n+1,K=>fun vs cs=>match cs with
   | none::cs'=>dNo n K vs cs'
   | _=>none
theorem dNo.elim {K:Dec} {vs:List Value} {r:XcS}:∀ {n:Nat} {cs:List (Option (List Value))},dNo n K vs cs=some r→∃ cs',cs=List.replicate n none++cs'∧K vs cs'=some r
 | 0,cs,h=>⟨cs,rfl,h⟩
 | n+1,cs,h=>by
   simp only [dNo] at h
   split at h<;>try (cases h;done)
   obtain ⟨cs',rfl,h2⟩:=dNo.elim h
   exact ⟨cs',rfl,h2⟩
def dNl (n:Nat) (K:Dec):Dec:=fun vs cs=>match vs with
 | .pointer none::vs'=>dNo n K vs' cs
 | _=>none
theorem dNl.elim {n:Nat} {K:Dec} {vs:List Value} {cs:List (Option (List Value))} {r:XcS} (h:dNl n K vs cs=some r):∃ vs' cs',vs=.pointer none::vs'∧cs=List.replicate n none++cs'∧K vs' cs'=some r:=by
 unfold dNl at h
 split at h<;>try (cases h;done)
 obtain ⟨cs',rfl,h2⟩:=dNo.elim h
 exact ⟨_,cs',rfl,rfl,h2⟩
def XdJ (r:Option XcS):Dec:=fun vs cs=>match vs,cs with
 | [],[]=>r
 | _,_=>none
theorem XdJ.elim {o:Option XcS} {vs:List Value} {cs:List (Option (List Value))} {r:XcS} (h:XdJ o vs cs=some r):vs=[]∧cs=[]∧o=some r:=by
 unfold XdJ at h
 split at h<;>try (cases h;done)
 exact ⟨rfl,rfl,h⟩
def orD (a b:Dec):Dec:=fun vs cs=>match a vs cs with
 | some r=>some r
 | none=>b vs cs
theorem orD.elim {a b:Dec} {vs:List Value} {cs:List (Option (List Value))} {r:XcS} (h:orD a b vs cs=some r):a vs cs=some r∨b vs cs=some r:=by
 unfold orD at h
 split at h
 ·cases h;left;assumption
 ·exact .inr h
def ofG {α:Type} (o:Option α) (f:α→XcS):Option XcS:=match o with
 | some x=>some (f x)
 | none=>none
theorem XaN {α:Type} {o:Option α} {f:α→XcS} {x:α} (h:o=some x):ofG o f=some (f x):=by subst h;rfl
theorem ofG.elim {α:Type} {o:Option α} {f:α→XcS} {r:XcS} (h:ofG o f=some r):∃ x,o=some x∧f x=r:=by
 cases o with
 | none=>cases h
 | some x=>exact ⟨x,rfl,by cases h;rfl⟩
def asS:Value→Option (List UInt8)|.string s=>some s.data.toList|_=>none
theorem Xvf (v:Value) (x:List UInt8) (h:asS v=some x):v=.string ⟨⟨x⟩⟩:=by cases v<;>simp [asS] at h;subst h;rfl
theorem Xvt (k:IntKind) (xs:List Int):unL (asI k) (vI k xs)=some xs:=XBm (fun x=>by simp [asI]) xs
theorem XRN {k:IntKind} {cs:List Value} {xs:List Int} (h:unL (asI k) cs=some xs):cs=vI k xs:=XvD (XvS k) h
theorem XVq {cs:List Value} {xs:List Bool} (h:unL asB cs=some xs):cs=vB xs:=XvD XAW h
theorem XTD {cs:List Value} {xs:List (List UInt8)} (h:unL asS cs=some xs):cs=vS xs:=XvD (g:=fun s=>Value.string ⟨⟨s⟩⟩) Xvf h
end Go.Vm
namespace Go.Vm
open Go Go.RowKit
end Go.Vm
namespace Go.Vm
open Go Go.RowKit
theorem st_I {k:IntKind} {xs:List Int} {o i:Nat} {x:Int} {K:List Value→Prop} (hb:decide (i<xs.length)=true) (e:o=i) (h:K (vI k (xs.set i x))) :
 req (decide ((Xa6 (.int k x)).length=1∧o+1≤(vI k xs).length)&&(Xa6 (.int k x)).all XiF) (∃ cs',setAt (vI k xs) o (Xa6 (.int k x))=cs'∧K cs'):=req.intro (XNW hb e) (XWD e h)
end Go.Vm
namespace Go.Vm
theorem br.h2 {α:Type} {b b':Bool} {X Y:Option α} {r:α} {p q:Prop} (h:cond b' X Y=some r) (e:b=b') (k2:b'=false→Y=some r→q) (k1:b'=true→X=some r→p):br b p q:=br.h h e k1 k2
end Go.Vm
namespace Go.Vm
open Go Go.RowKit
theorem VR.ofNil {ρ:Ren} {s:Nat} {rv:Value} (h:VR ρ (.slice none 0 s) rv) (j sz:Nat):VR ρ (.slice (some ⟨j,0,none⟩) 0 sz) rv:=by
 cases h;exact .slice0 none
theorem XaJ.nilT {P:Program} {f base fn nt s:Nat} {e:Env} {todo:List XgK} {ds:List Nat} {ret:Bool} {rd:Option Nat} {up:List Xb0} {H:Hp} {top:Nat} {R:Value→Hp→Nat→Prop} (t sz:Nat)
 (h:XaJ P f base ⟨⟨fn,nt,XgN e t (.slice (some ⟨top,0,none⟩) 0 sz),todo,ds,ret,rd⟩,up,XgN H top (.row true []),top+1⟩ R) (he:XaI e t=some (.slice none 0 s):=by rfl) :
 XaJ P f base ⟨⟨fn,nt,e,todo,ds,ret,rd⟩,up,H,top⟩ R:=by
 refine ⟨fun w0 U ρ rf rfs w cs hr=>?_⟩
 have hx:=Ext.upd (l:=⟨0,0,0⟩) hr.heap.XoR
 have hcur:FrR P (upd ρ top ⟨0,0,0⟩) ⟨fn,nt,XgN e t (.slice (some ⟨top,0,none⟩) 0 sz),todo,ds,ret,rd⟩ rf:=
  { hr.cur.mono hx with
    env:=fun i v hv=>by
     rw [Xa9] at hv
     split at hv
     ·rename_i hi;subst hi;cases hv
      obtain ⟨v',a,b⟩:=hr.cur.env t _ he
      exact ⟨v',a,(VR.ofNil b _ _).mono hx⟩
     ·exact (hr.cur.env.mono hx) i v hv }
 obtain ⟨ρ',rv,fr',w',v,H',top',h1,h2,h3,h4,h5,h6,h7⟩:=h.get w0 U _ rf rfs w cs ⟨hcur,hr.up.mono (fun _ _ x=>x.mono hx),XkL hr.heap⟩
 exact ⟨ρ',rv,fr',w',v,H',top',h1,h2,h3,h4,h5,fun i l hi hl=>h6 i l hi (hx _ _ hl),h7⟩
theorem XaJ.nilC {P:Program} {f base s:Nat} {fr:Xb0} {up:List Xb0} {H:Hp} {top:Nat} {R:Value→Hp→Nat→Prop} (b i sz:Nat) {cs:List Value}
 (h:XaJ P f base ⟨fr,up,XgN (XgN H b (.cells (cs.set i (.slice (some ⟨top,0,none⟩) 0 sz)))) top (.row true []),top+1⟩ R) (hb:XaI H b=some (.cells cs):=by rfl) (hi:cs[i]?=some (.slice none 0 s):=by rfl) :
 XaJ P f base ⟨fr,up,H,top⟩ R:=by
 refine ⟨fun w0 U ρ rf rfs w cs' hr=>?_⟩
 have hx:=Ext.upd (l:=⟨0,0,0⟩) hr.heap.XoR
 have hp:HpR P w0 (.of U) ρ (XgN H b (.cells (cs.set i (.slice (some ⟨top,0,none⟩) 0 sz)))) top w:=
  { hr.heap with
    obj:=fun j o ho=>by
     rw [Xa9] at ho
     split at ho
     ·rename_i hj;subst hj;cases ho
      obtain ⟨l,hl,hc,hw⟩:=hr.heap.obj b _ hb
      refine ⟨l,hl,?_,fun _=>hw rfl⟩
      obtain ⟨g1,g2,g3⟩:=(hc:XbF ρ w l true cs)
      refine ⟨by simpa using g1,fun k v hv=>?_,g3⟩
      rw [List.getElem?_set] at hv
      split at hv
      ·rename_i hk;subst hk
       split at hv
       ·cases hv
        obtain ⟨v',a,b'⟩:=g2 i _ hi
        exact ⟨v',a,VR.ofNil b' _ _⟩
       ·cases hv
      ·exact g2 k v hv
     ·exact hr.heap.obj j o ho
    dis:=fun j k oj ok lj lk hjk hj hk hlj hlk hw=>by
     have key:∀ j o,XaI (XgN H b (.cells (cs.set i (.slice (some ⟨top,0,none⟩) 0 sz)))) j=some o→∃ o',XaI H j=some o'∧(writable o=true→writable o'=true):=fun j o ho=>by
      rw [Xa9] at ho
      split at ho
      ·rename_i hj;subst hj;exact ⟨_,hb,fun _=>rfl⟩
      ·exact ⟨o,ho,id⟩
     obtain ⟨oj',a1,a2⟩:=key j oj hj
     obtain ⟨ok',b1,_⟩:=key k ok hk
     exact hr.heap.dis j k oj' ok' lj lk hjk a1 b1 hlj hlk (a2 hw) }
 obtain ⟨ρ',rv,fr',w',v,H',top',h1,h2,h3,h4,h5,h6,h7⟩:=h.get w0 U _ rf rfs w cs' ⟨hr.cur.mono hx,hr.up.mono (fun _ _ x=>x.mono hx),XkL hp⟩
 exact ⟨ρ',rv,fr',w',v,H',top',h1,h2,h3,h4,h5,fun i l hi hl=>h6 i l hi (hx _ _ hl),h7⟩
mutual
inductive Nv (j:Nat):Value→Value→Prop
 | same (v):Nv j v v
 | nil (s sz):Nv j (.slice none 0 s) (.slice (some ⟨j,0,none⟩) 0 sz)
 | tup {a b:List Value} (h:NvL j a b):Nv j (.tuple ⟨a⟩) (.tuple ⟨b⟩)
 | agg {a b:List Value} (h:NvL j a b):Nv j (.agg ⟨a⟩) (.agg ⟨b⟩)
inductive NvL (j:Nat):List Value→List Value→Prop
 | nil:NvL j [] []
 | cons {v v':Value} {l l':List Value} (h:Nv j v v') (t:NvL j l l'):NvL j (v::l) (v'::l')
end
mutual
theorem Nv.vr {j:Nat} {ρ:Ren}:∀ {v v':Value},Nv j v v'→∀ {rv:Value},VR ρ v rv→VR ρ v' rv
 | _,_,.same v,_,h=>h
 | _,_,.nil s sz,_,h=>VR.ofNil h _ _
 | _,_,.tup hl,_,h=>by cases h with|tuple ht=>exact .tuple (NvL.vr hl ht)
 | _,_,.agg hl,_,h=>by cases h with|agg ht=>exact .agg (NvL.vr hl ht)
theorem NvL.vr {j:Nat} {ρ:Ren}:∀ {l l':List Value},NvL j l l'→∀ {rl:List Value},VRL ρ l rl→VRL ρ l' rl
 | _,_,.nil,_,h=>h
 | _,_,.cons hv ht,_,h=>by cases h with|cons a b=>exact .cons (Nv.vr hv a) (NvL.vr ht b)
end
end Go.Vm
namespace Go.Vm
theorem XAu {A B C D:Prop} [Decidable (A∧B∧C∧D)] {p q:Bool} (a:A) (b:B) (c:C) (d:D) (e:p=true) (g:q=true):(decide (A∧B∧C∧D)&&p&&q)=true:=by
 rw [decide_eq_true ⟨a,b,c,d⟩,e,g];rfl
end Go.Vm
namespace Go.Vm
open Go Go.RowKit
def XtV (o:XbY) (K:XbY→Prop):Prop:=
 match o with
 | .cells cs=>XoP cs fun cs=>K (.cells cs)
 | .row own cs=>XoP cs fun cs=>K (.row own cs)
 | .ty t cs=>K (.ty t cs)
 | .siter s p=>K (.siter s p)
 | .loop l=>K (.loop l)
 | .marks=>K .marks
theorem Xwo (o:XbY) (K:XbY→Prop):XtV o K=K o:=by
 cases o<;>simp only [XtV,Xlz]
def XlH (bs:List Nat) (h:Hp) (K:Hp→Prop):Prop:=
 match h with
 | []=>K []
 | (i,o)::l=>cond (XJS i bs) (XtV o fun o=>XlH bs l fun l=>K ((i,o)::l)) (XBx o fun o=>XlH bs l fun l=>K ((i,o)::l))
theorem Xov (bs:List Nat):∀ (h:Hp) (K:Hp→Prop),XlH bs h K=K h
 | [],K=>rfl
 | (i,o)::l,K=>by
   rw [XlH]
   cases XJS i bs
   ·rw [cond_false,XsF,Xov bs l]
   ·rw [cond_true,Xwo,Xov bs l]
theorem Xgw.XJE {s:Xbz} {vals:List Value} {h:Hp} {top:Nat} {K:Value→Hp→Nat→Prop} {v:Value} {h':Hp} {top':Nat} (bs:List Nat) (e:Xjk s vals h top=some (v,h',top')) (k:XiE v fun v=>XlH bs h' fun h'=>K v h' top'):Xgw s vals h top K:=
 Xgw.intro e (by simpa only [Xiz,Xov] using k)
end Go.Vm
namespace Go.Vm
open Go Go.RowKit
inductive Xxa:Value→Hp→Nat→Value→Hp→Nat→Prop
 | refl (v:Value) (H:Hp) (t:Nat):Xxa v H t v H t
 | val {v v' v2:Value} {H H2:Hp} {t t2:Nat} (h:Nv t v v') (k:Xxa v' (XgN H t (.row true [])) (t+1) v2 H2 t2):Xxa v H t v2 H2 t2
 | cell {v v2:Value} {H H2:Hp} {t t2 s:Nat} (b i sz:Nat) {cs:List Value} (hb:XaI H b=some (.cells cs)) (hi:cs[i]?=some (.slice none 0 s)) (k:Xxa v (XgN (XgN H b (.cells (cs.set i (.slice (some ⟨t,0,none⟩) 0 sz)))) t (.row true [])) (t+1) v2 H2 t2):Xxa v H t v2 H2 t2
theorem XLi {P:Program} {w0:World} {U:UG} {ρ:Ren} {H:Hp} {top s:Nat} {w:World} (h:HpR P w0 U ρ H top w) {b i:Nat} (sz:Nat) {cs:List Value} (hb:XaI H b=some (.cells cs)) (hi:cs[i]?=some (.slice none 0 s)):HpR P w0 U ρ (XgN H b (.cells (cs.set i (.slice (some ⟨top,0,none⟩) 0 sz)))) top w:=
 { h with
   obj:=fun j o ho=>by
    rw [Xa9] at ho
    split at ho
    ·rename_i hj;subst hj;cases ho
     obtain ⟨l,hl,hc,hw⟩:=h.obj b _ hb
     refine ⟨l,hl,?_,fun _=>hw rfl⟩
     obtain ⟨g1,g2,g3⟩:=(hc:XbF ρ w l true cs)
     refine ⟨by simpa using g1,fun k v hv=>?_,g3⟩
     rw [List.getElem?_set] at hv
     split at hv
     ·rename_i hk;subst hk
      split at hv
      ·cases hv
       obtain ⟨v',a,b'⟩:=g2 i _ hi
       exact ⟨v',a,VR.ofNil b' _ _⟩
      ·cases hv
     ·exact g2 k v hv
    ·exact h.obj j o ho
   dis:=fun j k oj ok lj lk hjk hj hk hlj hlk hw=>by
    have key:∀ j o,XaI (XgN H b (.cells (cs.set i (.slice (some ⟨top,0,none⟩) 0 sz)))) j=some o→∃ o',XaI H j=some o'∧(writable o=true→writable o'=true):=fun j o ho=>by
     rw [Xa9] at ho
     split at ho
     ·rename_i hj;subst hj;exact ⟨_,hb,fun _=>rfl⟩
     ·exact ⟨o,ho,id⟩
    obtain ⟨oj',a1,a2⟩:=key j oj hj
    obtain ⟨ok',b1,_⟩:=key k ok hk
    exact h.dis j k oj' ok' lj lk hjk a1 b1 hlj hlk (a2 hw) }
theorem Xxa.ok {P:Program} {w0:World} {U:Nat→Nat→Prop} {v v2 rv:Value} {H H2:Hp} {t t2:Nat} (k:Xxa v H t v2 H2 t2):∀ {ρ:Ren} {w:World},VR ρ v rv→HpR P w0 (.of U) ρ H t w→∃ ρ',Ext ρ ρ'∧VR ρ' v2 rv∧HpR P w0 (.of U) ρ' H2 t2 w:=by
 induction k with
 | refl=>intro ρ w h1 h2;exact ⟨ρ,Ext.refl ρ,h1,h2⟩
 | val h k ih=>
   intro ρ w h1 h2
   have hx:=Ext.upd (l:=⟨0,0,0⟩) h2.XoR
   obtain ⟨ρ',e1,e2,e3⟩:=ih ((h.vr h1).mono hx) (XkL h2)
   exact ⟨ρ',hx.trans e1,e2,e3⟩
 | cell b i sz hb hi k ih=>
   intro ρ w h1 h2
   have hx:=Ext.upd (l:=⟨0,0,0⟩) h2.XoR
   obtain ⟨ρ',e1,e2,e3⟩:=ih (h1.mono hx) (XkL (XLi h2 sz hb hi))
   exact ⟨ρ',hx.trans e1,e2,e3⟩
theorem XaJ.nilW {P:Program} {f base:Nat} {vm:VM} {R:Value→Hp→Prop} (h:XaJ P f base vm (fun v H t=>∃ v' H' t',Xxa v H t v' H' t'∧R v' H')):XaJ P f base vm (fun v H _=>R v H):=by
 refine ⟨fun w0 U ρ rf rfs w cs hr=>?_⟩
 obtain ⟨ρ',rv,fr',w',v,H',top',h1,h2,h3,h4,h5,h6,v2,H2,t2,hk,h7⟩:=h.get w0 U ρ rf rfs w cs hr
 obtain ⟨ρ2,e1,e2,e3⟩:=hk.ok h4 h5
 exact ⟨ρ2,rv,fr',w',v2,H2,t2,h1,h2,h3,e2,e3,fun i l hi hl=>e1 _ _ (h6 i l hi hl),h7⟩
end Go.Vm
namespace Go.Vm
end Go.Vm
namespace Go.Vm
open Go Go.RowKit
@[simp] theorem XLW (l:List UInt8):(ofBytes l).length=l.length:=by simp [ofBytes]
theorem XUn {xs:List Int} {n:Nat} {K:List UInt8→Prop} (h:K (iB xs)) (hn:xs.length≤n:=by first|exact Nat.le_refl _|omega|(simp;done)|(simp;omega)):∃ bs,Xho ((vI .u8 xs).take n)=some bs∧K bs:=
 ⟨_,by rw [List.take_of_length_le (by simpa using hn)];exact Xod _,h⟩
theorem XIU {A B C D:Prop} [Decidable (A∧B∧C∧D)] (a:A) (b:B) (c:C) (d:D):decide (A∧B∧C∧D)=true:=decide_eq_true ⟨a,b,c,d⟩
theorem Xv7 {A B C D:Prop} [Decidable (A∧B∧C∧D)] (a:A) (b:B) (c:C) (d:D):decide (A∧B∧C∧D)=true:=decide_eq_true ⟨a,b,c,d⟩
theorem Xt7 {A B C D E:Prop} [Decidable (A∧B∧C∧D∧E)] {p q:Bool} (a:A) (b:B) (c:C) (d:D) (e:E) (f:p=true) (g:q=true):(decide (A∧B∧C∧D∧E)&&p&&q)=true:=by
 rw [decide_eq_true ⟨a,b,c,d,e⟩,f,g];rfl
theorem XxW {new:List Value} {xs:List Int} {n m:Nat} {ys:List Int} {K:List Value→Nat→Prop} (e:new=vI .u8 ys) (hc:n=xs.length) (hn:n+m=(xs++ys).length) (h:K (vI .u8 (xs++ys)) (xs++ys).length) :
 ∃ cs' n',(vI .u8 xs).take n++new=cs'∧n+m=n'∧K cs' n':=
 ⟨_,_,by rw [List.take_of_length_le (by simp [hc]),e,XIL],hn,h⟩
def un1 {α:Type} (un:Value→Option α):List Value→Option α
 | [v]=>un v
 | _=>none
theorem Xxo {α:Type} {un:Value→Option α} {g:α→Value} (h:∀ v x,un v=some x→v=g x) {cs:List Value} {x:α} (e:un1 un cs=some x):cs=[g x]:=by
 unfold un1 at e
 split at e
 ·rw [h _ _ e]
 ·cases e
theorem Xen (k:IntKind) {n:Int}:asI k (.int k n)=some n:=by simp [asI]
theorem XdL {s:List UInt8}:asS (.string ⟨⟨s⟩⟩)=some s:=rfl
def fvV:Option Nat→Value
 | none=>.nilFunc
 | some n=>.func (.func n) ⟨[]⟩ ⟨[]⟩
def asF:Value→Option (Option Nat)
 | .nilFunc=>some none
 | .func (.func n) ⟨[]⟩ ⟨[]⟩=>some (some n)
 | _=>none
theorem Xqc (v:Value) (x:Option Nat) (h:asF v=some x):v=fvV x:=by
 unfold asF at h;split at h
 ·cases h;rfl
 ·cases h;rfl
 ·cases h
theorem asF_c {x:Option Nat}:asF (fvV x)=some x:=by cases x<;>rfl
theorem Xee (x:Option Nat):Xbt (fvV x)=true:=by cases x<;>rfl
theorem XBk (x:Option Nat):XiF (fvV x)=true:=by cases x<;>rfl
theorem XIp {h:Hp} {k b o n:Nat} {ob:XbY} {cs cs':List Value} (ho:XaI h b=some ob) (hc:ob.wcs=some cs) (hle:o+n≤cs.length) (e:(cs.drop o).take n=cs') (hf:Xbt.flatL cs'=true) :
 Xdi h k (.pt n) (.pointer (some ⟨b,o,none⟩))=some (.pointer (some ⟨k,0,none⟩),[some (.cells cs')]):=by
 subst e
 simp only [Xdi,ho,hc,hle,hf,↓reduceIte]
theorem fsp {α:Type} {x:Option Nat} {A:Option α} {B:Nat→Option α} {res:α} {G:Prop} (h:x.elim A B=some res) (t:x=none→A=some res→G) (f:∀ n,x=some n→B n=some res→G):G:=by
 cases x with
 | none=>exact t rfl h
 | some n=>exact f n rfl h
theorem fcase {α:Type} {x c:Nat} {A B:Option α} {res:α} {G:Prop} (h:cond (x==c) A B=some res) (t:x=c→A=some res→G) (f:B=some res→G):G:=by
 cases hx:(x==c)
 ·rw [hx] at h;exact f h
 ·rw [hx] at h;exact t (eq_of_beq hx) h
theorem XGK {K:Dec} {vs:List Value} {cs:List (Option (List Value))}:dNl 1 K (.pointer none::vs) (none::cs)=K vs cs:=rfl
def XsQ (i:Nat) (a b:Dec):Dec:=fun vs cs=>match vs[i]? with
 | some (.pointer none)=>b vs cs
 | _=>a vs cs
theorem XsQ.elim {i:Nat} {a b:Dec} {vs:List Value} {cs:List (Option (List Value))} {r:XcS} (h:XsQ i a b vs cs=some r):a vs cs=some r∨b vs cs=some r:=by
 unfold XsQ at h
 split at h
 ·exact .inr h
 ·exact .inl h
theorem Xtb {H:Hp} {s:Nat→Option Nat}:XtZ H s [] []:=trivial
theorem XtI {H:Hp} {s:Nat→Option Nat} {j:Nat} {js:List Nat} {c c':List Value} {cs:List (List Value)} (e:Xfq.renL s c=some c') (h:Has H j c') (t:XtZ H s js cs):XtZ H s (j::js) (c::cs):=⟨⟨_,e,h⟩,t⟩
theorem Xtq {n:Nat} {wr:List (Option (List Value))}:XIm n wr []:=trivial
theorem XtF {n j:Nat} {wr:List (Option (List Value))} {js:List Nat} (h:n≤j) (t:XIm n wr js):XIm n wr (j::js):=⟨.inl h,t⟩
theorem XUl {n j:Nat} {wr:List (Option (List Value))} {js:List Nat} (h:wr[j]?=some none) (t:XIm n wr js):XIm n wr (j::js):=⟨.inr h,t⟩
theorem Xsw {H:Hp} {s:Nat→Option Nat} {k:Nat}:XBO H s k []:=trivial
theorem XTL {H:Hp} {s:Nat→Option Nat} {k:Nat} {l:List (Option (List Value))} (t:XBO H s (k+1) l):XBO H s k (none::l):=t
theorem XTH {H:Hp} {s:Nat→Option Nat} {k:Nat} {c c':List Value} {l:List (Option (List Value))} (e:Xfq.renL s c=some c') (h:Has H k c') (t:XBO H s (k+1) l):XBO H s k (some c::l):=⟨⟨_,e,h⟩,t⟩
theorem Res.flat {n:Nat} {r:XcS} {v':Value} {H':Hp} {b:Bool} (e:r.v=.bool b) (_:r.new=[]) (h:Res n r v' H'):v'=.bool b:=by
 obtain ⟨js,h1,h2,-⟩:=h.ex
 rw [e] at h1
 cases h1;rfl
theorem Xgw.q {s:Xbz} {vals:List Value} {h:Hp} {top:Nat} {K:Value→Hp→Nat→Prop} {r:XcS} {v':Value} (e1:XdF h 0 s.modes vals=some (vals,[])) (ew:Xlg h s.modes vals=[]) (e2:s.run vals []=some r) (hn:r.new=[]) (hw:r.wr=[]) (e6:Xfq (Xub top 0 []) r.v=some v')
 (k:XiE v' fun v=>XlH [] h fun h'=>K v h' top):Xgw s vals h top K:=by
 refine Xgw.XJE [] (XsO (n:=0) (m:=0) (t':=top) e1 ew rfl e2 rfl (by rw [hn];rfl) rfl rfl (by rw [hw];exact XIX) (by rw [hn];exact XHT) e6) k
theorem dFin {α:Type} {o:Option α} {f:α→XcS} {vs:List Value} {cs:List (Option (List Value))} {r:XcS} (h:XdJ (ofG o f) vs cs=some r):vs=[]∧cs=[]∧∃ x,o=some x∧f x=r:=by
 obtain ⟨a,b,c⟩:=XdJ.elim h
 exact ⟨a,b,ofG.elim c⟩
theorem Res.z {n:Nat} {r:XcS} {v':Value} {H':Hp} (e1:Xfq (Xwl [] n) r.v=some v') (e2:r.new=[]) (e3:r.wr=[]):Res n r v' H':=
 Res.of [] e1 (by rw [e2];exact Xtb) (by decide) Xtq (by rw [e3];exact Xsw)
theorem Xgw.p {s:Xbz} {vals:List Value} {h:Hp} {top:Nat} {K:Value→Hp→Nat→Prop} {r:XcS} {v':Value} (e2:s.run vals []=some r)
 (k:XiE v' fun v=>XlH [] h fun h'=>K v h' top) (e1:XdF h 0 s.modes vals=some (vals,[]):=by exact rfl) (ew:Xlg h s.modes vals=[]:=by exact rfl) (hn:r.new=[]:=by exact rfl) (hw:r.wr=[]:=by exact rfl) (e6:Xfq (Xub top 0 []) r.v=some v':=by exact rfl):Xgw s vals h top K:=Xgw.q e1 ew e2 hn hw e6 k
theorem Res.y {n:Nat} {r:XcS} {v':Value} {H':Hp} (e1:Xfq (Xwl [] n) r.v=some v':=by exact rfl) (e2:r.new=[]:=by exact rfl) (e3:r.wr=[]:=by exact rfl):Res n r v' H':=Res.z e1 e2 e3
end Go.Vm
namespace Go.Vm
open Go Go.RowKit
section
variable {α:Type} {f:α→List Value} {c:Nat}
end
end Go.Vm
namespace Go.Vm
end Go.Vm
namespace Go.Vm
open Go Go.RowKit Go.WideShapes
section
variable {H:Type} {enc:TypeId×Value→H} {P:Program} {w:World} {base:Nat} {held:Bool}
theorem Xek.XQ8:∀ {ks:List SK} {cs:List Value},Xek ks cs→∀ v∈cs,Xbt v=true
 | [],[],_,v,hv=>by cases hv
 | [],_::_,h,_,_=>h.elim
 | _::_,[],h,_,_=>h.elim
 | k::ks,c::cs,h,v,hv=>by
   rcases List.mem_cons.1 hv with rfl|hv
   ·exact XoC.flat h.1
   ·exact Xek.XQ8 h.2 v hv
def RowN (w:World) (ks:List SK) (a:Option Addr) (len cap:Nat) (zs:List Value):Prop:=
 (a=none∧len=0∧cap=0∧zs=[])∨∃ x,a=some x∧len≤cap∧cap≤maxLen∧zs.length=cap*ks.length∧(∀ (i:Nat) v,zs[i]?=some v→w.cell? (x.add i)=some v)∧∀ i,i<cap→Xek ks ((zs.drop (i*ks.length)).take ks.length)
theorem XUe {r:Reach} {b0 n:Nat} {t e:TypeId} {ks:List SK} {v:Value} {d:DataW H} {ps:List MemPlace} (ht:P.underlying t=some (.slice e)) (hc:P.cellsOf e=ks.length) (hk:XwD P n e=some ks) (hval:Value.okWide P w r b0 t v)
 (hd:DataW.Trod enc P w base (fun _=>true) held t v d ps):∃ a len cap zs,v=.slice a len cap∧RowN w ks a len cap zs:=by
 obtain ⟨a,len,cap,rfl⟩:=okWide_slice ht hval
 obtain ⟨fuel,hf⟩:=hd
 rcases Go.Deep.open_slice ht hf with ⟨h0,_⟩|⟨x,l,c,m,n',D,Pl,hcs,hb,hl,hm,hmm,_,hx⟩
 ·simp [Value.cells] at h0
  obtain ⟨rfl,rfl,rfl⟩:=h0
  exact ⟨_,_,_,[],rfl,.inl ⟨rfl,rfl,rfl,rfl⟩⟩
 ·simp [Value.cells] at hcs
  obtain ⟨rfl,rfl,rfl⟩:=hcs
  simp only [if_true] at hmm
  subst hmm
  obtain ⟨CS,hCS⟩:=Go.Deep.choose_lt (α:=List Value) (p:=fun i cs=>w.cells? base (x.add (i*P.cellsOf e)) (P.cellsOf e)=some cs∧DataW.trod enc P w base (fun _=>true) held n' e cs=some (D i,Pl i)) hx
  rw [hc] at hCS
  have hlen:∀ i,i<m→(CS i).length=ks.length:=fun i hi=>(World.cells?_some (hCS i hi).1).2.1
  refine ⟨_,_,_,vT (fun i=>if i<m then CS i else List.replicate ks.length (.bool false)) (List.range m),rfl,.inr ⟨x,rfl,hl,hm,?_,?_,?_⟩⟩
  all_goals
   have hF:∀ i,(if i<m then CS i else List.replicate ks.length (.bool false)).length=ks.length:=fun i=>by
    split
    ·rename_i hi;exact hlen i hi
    ·simp
  ·rw [Xhn hF,List.length_range]
  ·intro k v ev
   have hk0:k<m*ks.length:=by
    rcases Nat.lt_or_ge k (m*ks.length) with h|h
    ·exact h
    ·rw [List.getElem?_eq_none (by rw [Xhn hF,List.length_range];exact h)] at ev;cases ev
   have hpos:0<ks.length:=by
    rcases Nat.eq_zero_or_pos ks.length with h|h
    ·rw [h] at hk0;omega
    ·exact h
   have hi:k/ks.length<m:=(Nat.div_lt_iff_lt_mul hpos).2 hk0
   have hj:k%ks.length<ks.length:=Nat.mod_lt _ hpos
   have e1:k/ks.length*ks.length+k%ks.length=k:=by rw [Nat.mul_comm];exact Nat.div_add_mod k ks.length
   have e2:=XJU hF (xs:=List.range m) (i:=k/ks.length) (j:=k%ks.length) (x:=k/ks.length) (List.getElem?_range hi) hj
   rw [e1,if_pos hi] at e2
   rw [e2] at ev
   have h3:=(World.cells?_some (hCS _ hi).1).2.2 (k%ks.length) hj
   rw [Go.Deep.add_add,e1] at h3
   rw [h3];exact ev
  ·intro i hi
   rw [Xgs hF]
   have e1:=Xgo hF ((List.range m).drop i) 1
   rw [Nat.one_mul] at e1
   rw [e1]
   have e2:((List.range m).drop i).take 1=[i]:=by
    rw [List.drop_eq_getElem_cons (by simpa using hi)]
    simp
   rw [e2]
   show Xek ks ((if i<m then CS i else List.replicate ks.length (.bool false))++[])
   rw [List.append_nil,if_pos hi]
   exact Xqg hk (hCS i hi).2
theorem XRj.rowN {ks:List SK} {w:World} {a:Option Addr} {len cap:Nat} {zs:List Value} (h:RowN w ks a len cap zs) (hpos:0<ks.length):XRj w (.sl ks.length) (.sl len (zs.take (len*ks.length))) (.slice a len cap)∧(zs.take (len*ks.length)).length=len*ks.length∧(∀ i,i<len→Xek ks (((zs.take (len*ks.length)).drop (i*ks.length)).take ks.length))∧len≤maxLen:=by
 rcases h with ⟨rfl,rfl,rfl,rfl⟩|⟨x,rfl,hl,hm,hz,hc,ho⟩
 ·exact ⟨.inl ⟨⟨_,rfl⟩,rfl,by simp⟩,by simp,fun i hi=>absurd hi (Nat.not_lt_zero _),by simp [maxLen]⟩
 ·have hmul:len*ks.length≤cap*ks.length:=Nat.mul_le_mul_right _ hl
  have hcell:∀ i,i<len→Xek ks (((zs.take (len*ks.length)).drop (i*ks.length)).take ks.length):=fun i hi=>by
   have h1:=ho i (by omega)
   have h2:(i+1)*ks.length≤len*ks.length:=Nat.mul_le_mul_right _ (by omega)
   rw [Nat.succ_mul] at h2
   rw [List.drop_take,List.take_take,Nat.min_eq_left (by omega)]
   exact h1
  refine ⟨?_,by rw [List.length_take];omega,hcell,by omega⟩
  rcases Nat.eq_zero_or_pos cap with h0|h0
  ·subst h0
   obtain rfl:len=0:=by omega
   exact .inl ⟨⟨_,rfl⟩,rfl,by simp⟩
  ·have hcap:0<cap*ks.length:=Nat.mul_pos h0 hpos
   have hs:x.spot=none:=by
    have:=hc 0 zs[0] (List.getElem?_eq_getElem (by omega))
    cases hx:x.spot with
    | none=>rfl
    | some q=>
      simp only [Addr.add,↓reduceIte,World.cell?] at this
      split at this
      ·simp [hx] at this
      ·cases this
   obtain ⟨b,o,q⟩:=x
   simp only at hs
   subst hs
   have hadd:∀ i,(⟨b,o,none⟩:Addr).add i=⟨b,o+i,none⟩:=fun i=>by
    unfold Addr.add;split
    ·rename_i e;subst e;rfl
    ·rfl
   have hflat:∀ (i:Nat) v,zs[i]?=some v→Xbt v=true:=fun i v e=>by
    have hi:i<cap*ks.length:=by
     rcases Nat.lt_or_ge i (cap*ks.length) with h|h
     ·exact h
     ·rw [List.getElem?_eq_none (by omega)] at e;cases e
    have hq:i/ks.length<cap:=(Nat.div_lt_iff_lt_mul hpos).2 hi
    have hj:i%ks.length<ks.length:=Nat.mod_lt _ hpos
    have e1:i/ks.length*ks.length+i%ks.length=i:=by rw [Nat.mul_comm];exact Nat.div_add_mod i ks.length
    refine Xek.XQ8 (ho _ hq) v (List.mem_of_getElem? (i:=i%ks.length) ?_)
    rw [List.getElem?_take_of_lt hj,List.getElem?_drop,e1];exact e
   refine .inr ⟨b,o,cap,rfl,hl,fun ρ=>⟨by rw [List.length_take];simp only;omega,fun i v e=>?_,fun i hi=>?_⟩⟩
   ·have hi:i<len*ks.length:=by
     rcases Nat.lt_or_ge i (len*ks.length) with h|h
     ·exact h
     ·rw [List.getElem?_eq_none (by rw [List.length_take];omega)] at e;cases e
    rw [List.getElem?_take_of_lt hi] at e
    have h1:=hc i v e
    rw [hadd] at h1
    exact ⟨v,h1,VR.flat ρ v (hflat i v e)⟩
   ·have hi':i<zs.length:=by simp only at hi;omega
    have h1:=hc i zs[i] (List.getElem?_eq_getElem hi')
    rw [hadd] at h1
    exact ⟨by simp [h1],fun e=>by cases e⟩
end
theorem XNS {α:Type} {ks:List SK} {c:α→List Value} {ok:α→Prop} (hc:∀ cs,Xek ks cs→∃ x,cs=c x∧ok x):∀ (len:Nat) (zs:List Value),zs.length=len*ks.length→(∀ i,i<len→Xek ks ((zs.drop (i*ks.length)).take ks.length))→∃ xs:List α,zs=vT c xs∧xs.length=len∧∀ x∈xs,ok x
 | 0,zs,hl,_=>⟨[],by rw [Nat.zero_mul] at hl;rw [List.eq_nil_of_length_eq_zero hl];rfl,rfl,fun _ h=>by cases h⟩
 | len+1,zs,hl,h=>by
   have h0:=h 0 (by omega)
   rw [Nat.zero_mul,List.drop_zero] at h0
   obtain ⟨x,hx,ox⟩:=hc _ h0
   obtain ⟨xs,h1,h2,h3⟩:=XNS hc len (zs.drop ks.length) (by rw [List.length_drop,hl,Nat.succ_mul];omega) (fun i hi=>by
    have:=h (i+1) (by omega)
    rw [List.drop_drop,show ks.length+i*ks.length=(i+1)*ks.length by rw [Nat.succ_mul,Nat.add_comm]];exact this)
   refine ⟨x::xs,?_,by simp [h2],fun y hy=>?_⟩
   ·have:vT c (x::xs)=c x++vT c xs:=rfl
    rw [this,←hx,←h1,List.take_append_drop]
   ·rcases List.mem_cons.1 hy with rfl|hy
    ·exact ox
    ·exact h3 y hy
end Go.Vm
namespace Go.Vm
open Go
theorem Xed {n:Int} (h1:-9223372036854775808≤n) (h2:n<9223372036854775808):wI .i64 n=n:=by
 show IntKind.wrap .i64 n=n;rw [IntKind.wrap_i64];omega
theorem Xgt {n:Int} (h1:0≤n) (h2:n<18446744073709551616):wI .u64 n=n:=by
 show IntKind.wrap .u64 n=n
 simp only [IntKind.wrap,IntKind.bits,IntKind.signed];simp;omega
theorem XEn {n:Int} (h1:0≤n) (h2:n<4294967296):wI .u32 n=n:=by
 show IntKind.wrap .u32 n=n
 simp only [IntKind.wrap,IntKind.bits,IntKind.signed];simp;omega
theorem wU8 {n:Int} (h1:0≤n) (h2:n<256):wI .u8 n=n:=by
 show IntKind.wrap .u8 n=n
 simp only [IntKind.wrap,IntKind.bits,IntKind.signed];simp;omega
theorem wU64m (n:Int):wI .u64 n=n%18446744073709551616:=by
 show IntKind.wrap .u64 n=_
 simp only [IntKind.wrap,IntKind.bits,IntKind.signed];simp
theorem wU32m (n:Int):wI .u32 n=n%4294967296:=by
 show IntKind.wrap .u32 n=_
 simp only [IntKind.wrap,IntKind.bits,IntKind.signed];simp
theorem wU8m (n:Int):wI .u8 n=n%256:=by
 show IntKind.wrap .u8 n=_
 simp only [IntKind.wrap,IntKind.bits,IntKind.signed];simp
theorem XKE {n:Nat} (h:n<18446744073709551616):(BitVec.ofInt 64 (n:Int)).toNat=n:=by
 rw [BitVec.toNat_ofInt];omega
theorem XQ3 {a b:Nat} (ha:a<9223372036854775808) (hb:b<9223372036854775808):XnT .i64 (a:Int) (b:Int)=((a &&& b:Nat):Int):=by
 have h:a &&& b≤a:=Nat.and_le_left
 show IntKind.wrap .i64 _=_
 rw [show IntKind.bits .i64=64 from rfl,BitVec.toNat_and,XKE (by omega),XKE (by omega)]
 exact Xed (by omega) (by omega)
theorem XVS {a b:Nat} (ha:a<9223372036854775808) (hb:b<9223372036854775808):XlD .i64 (a:Int) (b:Int)=((a ||| b:Nat):Int):=by
 have h:a ||| b<2^63:=Nat.or_lt_two_pow (by omega) (by omega)
 show IntKind.wrap .i64 _=_
 rw [show IntKind.bits .i64=64 from rfl,BitVec.toNat_or,XKE (by omega),XKE (by omega)]
 exact Xed (by omega) (by omega)
theorem XVl {a b:Nat} (ha:a<18446744073709551616) (hb:b<18446744073709551616):XlD .u64 (a:Int) (b:Int)=((a ||| b:Nat):Int):=by
 have h:a ||| b<2^64:=Nat.or_lt_two_pow (by omega) (by omega)
 show IntKind.wrap .u64 _=_
 rw [show IntKind.bits .u64=64 from rfl,BitVec.toNat_or,XKE (by omega),XKE (by omega)]
 exact Xgt (by omega) (by omega)
theorem XCP (a k:Nat):a &&& (2^k - 1)=a%2^k:=Nat.and_two_pow_sub_one_eq_mod a k
theorem XIi {a b k:Nat} (hb:b<2^k):(a*2^k) ||| b=a*2^k+b:=by
 rw [Nat.mul_comm];exact (Nat.two_pow_add_eq_or_of_lt hb a).symm
theorem XjW (k:Nat) {a m:Int} (hm:m=2^k - 1) (hk:k≤62) (h0:0≤a) (h1:a<9223372036854775808):XnT .i64 a m=a%2^k:=by
 obtain ⟨n,rfl⟩:=Int.eq_ofNat_of_zero_le h0
 have hp:2^k≤2^62:=Nat.pow_le_pow_right (by decide) hk
 have hp1:1≤2^k:=Nat.one_le_two_pow
 have:m=((2^k - 1:Nat):Int):=by rw [hm];push_cast [hp1];rfl
 rw [this,XQ3 (by omega) (by omega),XCP];push_cast;rfl
theorem Xra (k:Nat) {a b:Int} (h0:0≤a) (h1:a*2^k<9223372036854775808) (hb0:0≤b) (hb:b<2^k) (hb1:b<9223372036854775808):XlD .i64 (a*2^k) b=a*2^k+b:=by
 obtain ⟨n,rfl⟩:=Int.eq_ofNat_of_zero_le h0
 obtain ⟨m,rfl⟩:=Int.eq_ofNat_of_zero_le hb0
 have e:((n:Int)*2^k)=((n*2^k:Nat):Int):=by push_cast;rfl
 rw [e] at h1 ⊢
 rw [XVS (by omega) (by omega),XIi (by exact_mod_cast hb)];push_cast;rfl
theorem Xhc (k:Nat) {a b:Int} (h0:0≤a) (h1:a*2^k<18446744073709551616) (hb0:0≤b) (hb:b<2^k) (hb1:b<18446744073709551616):XlD .u64 (a*2^k) b=a*2^k+b:=by
 obtain ⟨n,rfl⟩:=Int.eq_ofNat_of_zero_le h0
 obtain ⟨m,rfl⟩:=Int.eq_ofNat_of_zero_le hb0
 have e:((n:Int)*2^k)=((n*2^k:Nat):Int):=by push_cast;rfl
 rw [e] at h1 ⊢
 rw [XVl (by omega) (by omega),XIi (by exact_mod_cast hb)];push_cast;rfl
theorem Xs8 (a:Int) (k:Nat):a.fdiv (2^k)=a/2^k:=Int.fdiv_eq_ediv_of_nonneg a (Int.le_of_lt (Int.pow_pos (by decide)))
theorem XaA {α:Type} {p:Prop} [Decidable p] {x:Option α} (h:p):Xbn (decide p) x=x:=Xbn.mk (decide_eq_true h)
theorem XaW {α:Type} {p:Prop} [Decidable p] {x y:α} (h:p):cond (decide p) x y=x:=by rw [decide_eq_true h,cond_true]
theorem XaO {α:Type} {p:Prop} [Decidable p] {x y:α} (h:¬ p):cond (decide p) x y=y:=by rw [decide_eq_false h,cond_false]
theorem Xr2 {α:Type} {p:Prop} [Decidable p] {x y:α}:cond (decide p) x y=if p then x else y:=by
 by_cases h:p<;>simp [h]
theorem iter_eq {σ ρ:Type} {step:σ→Option (Sum σ ρ)} (F:σ→ρ) (P:σ→Prop) (μ:σ→Nat)
 (h:∀ s,P s→step s=some (.inr (F s))∨∃ s',step s=some (.inl s')∧P s'∧μ s'<μ s∧F s'=F s):∀ n s,P s→μ s<n→iter step n s=some (F s)
 | 0,s,hp,hn=>by omega
 | n+1,s,hp,hn=>by
   rw [iter]
   rcases h s hp with e|⟨s',e,hp',hm,hf⟩
   ·rw [e]
   ·rw [e];exact hf▸iter_eq F P μ h n s' hp' (by omega)
theorem Xgx:FUEL=18446744073709551616:=rfl
end Go.Vm
namespace Go.Vm.Code
open Go Go.Vm Go.Proofs
def τ0:Operand:=.tmp 0
def τ1:Operand:=.tmp 1
def τ2:Operand:=.tmp 2
def τ3:Operand:=.tmp 3
def τ4:Operand:=.tmp 4
def τ5:Operand:=.tmp 5
def τ6:Operand:=.tmp 6
def τ7:Operand:=.tmp 7
def τ8:Operand:=.tmp 8
def τ9:Operand:=.tmp 9
def Xda:Operand:=.tmp 10
def Xc8:Operand:=.tmp 11
def XdK:Operand:=.tmp 12
def Xef:Operand:=.tmp 13
def XeN:Operand:=.tmp 14
def XeG:Operand:=.tmp 15
def XeW:Operand:=.tmp 16
def XeI:Operand:=.tmp 17
def Xfg:Operand:=.tmp 18
def Xe5:Operand:=.tmp 19
def Xfv:Operand:=.tmp 20
def XfM:Operand:=.tmp 21
def XfP:Operand:=.tmp 22
def XfO:Operand:=.tmp 23
def Xgb:Operand:=.tmp 24
def Xgz:Operand:=.tmp 25
def XgE:Operand:=.tmp 26
def XgH:Operand:=.tmp 27
def XgC:Operand:=.tmp 28
def XgF:Operand:=.tmp 29
def XgR:Operand:=.tmp 30
def Xg7:Operand:=.tmp 31
def Xhp:Operand:=.tmp 32
def Xhr:Operand:=.tmp 33
def Xhu:Operand:=.tmp 34
def XhG:Operand:=.tmp 35
def Xie:Operand:=.tmp 36
def Xib:Operand:=.tmp 37
def XiB:Operand:=.tmp 38
def Xjc:Operand:=.tmp 39
def Xjr:Operand:=.tmp 40
def XjD:Operand:=.tmp 41
def Xje:Operand:=.tmp 42
def Xjs:Operand:=.tmp 43
def Xkm:Operand:=.tmp 44
def Xkl:Operand:=.tmp 45
def XkD:Operand:=.tmp 46
def XkC:Operand:=.tmp 47
def XkB:Operand:=.tmp 48
def XkA:Operand:=.tmp 49
def Xlj:Operand:=.tmp 50
def Xlr:Operand:=.tmp 51
def Xls:Operand:=.tmp 52
def XmB:Operand:=.tmp 53
def Xne:Operand:=.tmp 54
def XmO:Operand:=.tmp 55
def Xnd:Operand:=.tmp 56
def XmT:Operand:=.tmp 57
def XmU:Operand:=.tmp 58
def Xno:Operand:=.tmp 59
def Xoi:Operand:=.tmp 60
def Xoj:Operand:=.tmp 61
def XoS:Operand:=.tmp 62
def Xqq:Operand:=.tmp 63
def Xqr:Operand:=.tmp 64
def Xrb:Operand:=.tmp 65
def XqE:Operand:=.tmp 66
def Xqu:Operand:=.tmp 67
def XqA:Operand:=.tmp 68
def Xr8:Operand:=.tmp 69
def Xsr:Operand:=.tmp 70
def Xsq:Operand:=.tmp 71
def Xsm:Operand:=.tmp 72
def XtH:Operand:=.tmp 73
def Xvj:Operand:=.tmp 74
def XuX:Operand:=.tmp 75
def Xxj:Operand:=.tmp 76
def Xw9:Operand:=.tmp 77
def Xxb:Operand:=.tmp 78
def XxT:Operand:=.tmp 79
def XxY:Operand:=.tmp 80
def XBS:Operand:=.tmp 81
def XCp:Operand:=.tmp 82
def XBM:Operand:=.tmp 83
def XJi:Operand:=.tmp 84
def XHN:Operand:=.tmp 85
def XOQ:Operand:=.tmp 86
def XNn:Operand:=.tmp 87
def XJ3:Operand:=.tmp 88
def XKO:Operand:=.tmp 89
def XPK:Operand:=.tmp 90
def XOi:Operand:=.tmp 91
def XMJ:Operand:=.tmp 92
def XPY:Operand:=.tmp 93
def XQv:Operand:=.tmp 94
def XPx:Operand:=.tmp 95
def XK5:Operand:=.tmp 96
def XJu:Operand:=.tmp 97
def XQG:Operand:=.tmp 98
def XQI:Operand:=.tmp 99
def XwV:Operand:=.tmp 100
def Xwp:Operand:=.tmp 101
def XAM:Operand:=.tmp 102
def XwI:Operand:=.tmp 103
def Xzd:Operand:=.tmp 104
def Xzk:Operand:=.tmp 105
def Xzp:Operand:=.tmp 106
def XyV:Operand:=.tmp 107
def XxC:Operand:=.tmp 108
def XBj:Operand:=.tmp 109
def XEs:Operand:=.tmp 110
def Xt0:Operand:=.tmp 111
def XAR:Operand:=.tmp 112
def XyS:Operand:=.tmp 113
def Xwy:Operand:=.tmp 114
def XxZ:Operand:=.tmp 115
def XyY:Operand:=.tmp 116
def Xyo:Operand:=.tmp 117
def XAN:Operand:=.tmp 118
def Xz0:Operand:=.tmp 119
def XBp:Operand:=.tmp 120
def Xy6:Operand:=.tmp 121
def Xyv:Operand:=.tmp 122
def XFW:Operand:=.tmp 123
def XyN:Operand:=.tmp 124
def XE8:Operand:=.tmp 125
def XEJ:Operand:=.tmp 126
def XDg:Operand:=.tmp 127
def XCH:Operand:=.tmp 128
def XB5:Operand:=.tmp 129
def XCn:Operand:=.tmp 130
def XHr:Operand:=.tmp 131
def XCO:Operand:=.tmp 132
def XFF:Operand:=.tmp 133
def XDN:Operand:=.tmp 134
def XGZ:Operand:=.tmp 135
def XFA:Operand:=.tmp 136
def Xyu:Operand:=.tmp 137
def XOd:Operand:=.tmp 138
def XMV:Operand:=.tmp 139
def XOY:Operand:=.tmp 140
def XL9:Operand:=.tmp 141
def XDd:Operand:=.tmp 142
def XNY:Operand:=.tmp 143
def XOw:Operand:=.tmp 144
def XOJ:Operand:=.tmp 145
def XLq:Operand:=.tmp 146
def XN4:Operand:=.tmp 147
def XLH:Operand:=.tmp 148
def XNq:Operand:=.tmp 149
def XLL:Operand:=.tmp 150
def XMo:Operand:=.tmp 151
def XNJ:Operand:=.tmp 152
def XLs:Operand:=.tmp 153
def XKT:Operand:=.tmp 154
def XKw:Operand:=.tmp 155
def XNg:Operand:=.tmp 156
def XSN:Operand:=.tmp 157
def XQ5:Operand:=.tmp 158
def XRG:Operand:=.tmp 159
def XUC:Operand:=.tmp 160
def τ161:Operand:=.tmp 161
def τ162:Operand:=.tmp 162
def τ163:Operand:=.tmp 163
def τ164:Operand:=.tmp 164
def τ165:Operand:=.tmp 165
def τ166:Operand:=.tmp 166
def τ167:Operand:=.tmp 167
def τ168:Operand:=.tmp 168
def τ169:Operand:=.tmp 169
def τ170:Operand:=.tmp 170
def τ171:Operand:=.tmp 171
def τ172:Operand:=.tmp 172
def τ173:Operand:=.tmp 173
def τ174:Operand:=.tmp 174
def τ175:Operand:=.tmp 175
def τ176:Operand:=.tmp 176
def τ177:Operand:=.tmp 177
def τ178:Operand:=.tmp 178
def τ179:Operand:=.tmp 179
def τ180:Operand:=.tmp 180
def τ181:Operand:=.tmp 181
def τ182:Operand:=.tmp 182
def τ183:Operand:=.tmp 183
def τ184:Operand:=.tmp 184
def τ185:Operand:=.tmp 185
def τ186:Operand:=.tmp 186
def τ187:Operand:=.tmp 187
def oD (n:Nat) (o:VOp):XdA:=⟨some n,o,none⟩
def oN (o:VOp):XdA:=⟨none,o,none⟩
def oM (n:Nat) (x:Operand):XdA:=⟨some n,.mv x,none⟩
def oG (n:Nat) (o:VOp) (j:Nat) (b:Bool):XdA:=⟨some n,o,some (j,b)⟩
def oE (n i:Nat) (x:Operand):XdA:=⟨some n,.extract i x,none⟩
def k6_25:VC:=.regD [oM 83 τ5,oM 84 τ1,oM 85 τ8,oD 86 (.idxAL 4 XJi XHN),oD 87 (.fieldA 1 XOQ),oD 88 (.load1 (.int .i64) XNn),oM 89 τ1,oM 90 τ8,oD 91 (.idxAL 4 XKO XPK),oD 92 (.fieldA 2 XOi),oD 93 (.load1 .str XMJ),oD 94 (.callF 37 [XBM,XJ3,XPY]),oM 82 XQv,oE 95 0 XCp,oE 96 1 XCp,oM 9 XPx] [] [oM 10 XK5]
def k6_26:VC:=.regD [oM 98 τ7,oM 99 τ1,oM 100 τ8,oD 101 (.idxAL 4 XQI XwV),oD 102 (.fieldA 1 Xwp),oD 103 (.load1 (.int .i64) XAM),oM 104 τ1,oM 105 τ8,oD 106 (.idxAL 4 Xzd Xzk),oD 107 (.fieldA 2 Xzp),oD 108 (.load1 .str XyV),oD 109 (.callF 38 [XQG,XwI,XxC]),oM 97 XBj,oE 110 0 XJu,oE 111 1 XJu,oM 11 XEs] [] [oM 12 Xt0]
def k6_35:VC:=.regD [oM 122 τ5,oM 123 τ1,oM 124 τ8,oD 125 (.idxAL 4 XFW XyN),oD 126 (.fieldA 2 XE8),oD 127 (.load1 .str XEJ),oD 128 (.callF 39 [Xyv,XDg]),oM 129 τ7,oM 130 τ1,oM 131 τ8,oD 132 (.idxAL 4 XCn XHr),oD 133 (.fieldA 2 XCO),oD 134 (.load1 .str XFF)] [(6,12)] [oD 135 (.callF 40 [XB5,XDN]),oD 136 (.bin .neq XCH XGZ)]
def k6_41:VC:=.regD [oM 60 τ7,oM 61 τ7,oD 62 (.nilCheck Xoj),oD 63 (.fieldA 9 XoS),oD 64 (.load1 (.int .u32) Xqq),oM 65 τ1,oM 66 τ8,oD 67 (.idxAL 4 Xrb XqE),oD 68 (.fieldA 3 Xqu),oD 69 (.load1 (.int .u32) XqA),oD 70 (.bin .add Xqr Xr8)] [] [oD 71 (.nilCheck Xoi),oD 72 (.fieldA 9 Xsq),oN (.store 1 Xsm Xsr)]
def Xya:VC:=.seq (.seq (.reg [oM 38 τ8,oM 39 τ1,oD 40 (.lenL Xjc),oD 41 (.bin .lss XiB Xjr),oM 42 XjD,oG 43 (.mv τ7) 42 true,oG 44 (.isNil 0 true Xjs) 42 true,oD 45 (.pick Xje Xkm (.const (.bool false)))]) (.cond Xkl .skip (.exit 0))) (.seq (.block 1 (.seq (.seq (.reg [oM 48 τ1,oM 49 τ8,oD 50 (.idxAL 4 XkB XkA),oD 51 (.fieldA 0 Xlj),oD 52 (.load1 (.int .i64) Xlr)]) (.block 2 (.seq (.reg [oD 74 (.bin .eql Xls (.const (.int .i64 0))),oM 73 Xvj]) (.cond XtH (.seq (.reg [oM 75 τ5,oD 76 (.callF 35 [XuX]),oM 77 τ7,oD 78 (.callF 36 [Xw9]),oD 79 (.bin .neq Xxj Xxb)]) (.cond XxT (.seq (.reg [oD 4 (.mv (.const (.bool false)))]) .ret) .skip)) (.seq (.reg [oD 81 (.bin .eql Xls (.const (.int .i64 1))),oM 80 XBS]) (.cond XxY (.seq k6_25 (.seq k6_26 (.seq (.reg [oM 112 τ9,oM 113 Xc8,oD 114 (.bin .neq XAR XyS),oM 115 Xwy,oG 116 (.mv Xda) 115 false,oG 117 (.mv XdK) 115 false,oG 118 (.bin .neq XyY Xyo) 115 false,oD 119 (.pick XxZ (.const (.bool true)) XAN)]) (.cond Xz0 (.seq (.reg [oD 4 (.mv (.const (.bool false)))]) .ret) .skip)))) (.seq (.reg [oD 121 (.bin .eql Xls (.const (.int .i64 2))),oM 120 Xy6]) (.cond XBp (.seq k6_35 (.cond XFA (.seq (.reg [oD 4 (.mv (.const (.bool false)))]) .ret) .skip)) (.seq (.reg [oM 53 τ5,oM 54 τ1,oM 55 τ8,oD 56 (.idxAL 4 Xne XmO),oD 57 (.fieldA 3 Xnd),oD 58 (.load1 (.int .u32) XmT),oD 59 (.callF 41 [XmB,XmU])]) k6_41))))))))) (.seq (.reg [oM 138 τ5,oD 139 (.callF 42 [XOd]),oM 137 XMV,oE 140 0 Xyu,oE 141 1 Xyu,oM 13 XOY,oM 14 XL9]) (.seq (.reg [oM 142 Xef,oM 143 τ7,oD 144 (.nilCheck XNY),oD 145 (.fieldA 10 XOw),oD 146 (.load1 (.int .u32) XOJ),oD 147 (.bin .neq XDd XLq),oM 148 XN4,oG 149 (.mv XeN) 148 false,oG 150 (.mv τ7) 148 false,oG 151 (.nilCheck XLL) 148 false,oG 152 (.fieldA 11 XMo) 148 false,oG 153 (.load1 .str XNJ) 148 false,oG 154 (.bin .neq XNq XLs) 148 false,oD 155 (.pick XLH (.const (.bool true)) XKT)]) (.cond XKw (.seq (.reg [oD 4 (.mv (.const (.bool false)))]) .ret) .skip))))) (.reg [oM 46 τ8,oD 47 (.bin .add XkD (.const (.int .i64 1))),oM 8 XkC]))
def XQD:VC:=.seq (.reg [oD 156 (.callF 32 []),oM 4 XNg]) .ret
def XVP:VC:=.seq (.reg [oD 2 (.box τ0),oD 4 (.mv (.const (.bool false)))]) (.seq (.seq (.reg [oM 15 τ1,oD 16 (.callF 31 [XeG]),oD 17 (.not XeW)]) (.cond XeI (.seq (.reg [oD 18 (.callF 32 []),oM 4 Xfg]) .ret) .skip)) (.seq (.reg [oD 20 (.loadN [(.int .i64),.bool,(.int .u64),(.int .u64),.bool,(.int .u64),(.int .u64),(.int .i64),(.int .i64)] τ2),oD 21 (.callF 33 [Xfv]),oM 19 XfM,oE 22 0 Xe5,oE 23 1 Xe5,oM 5 XfP,oM 6 XfO]) (.seq (.reg [oD 24 (.loadN [(.int .i64),.bool,(.int .u64),(.int .u64),.bool,(.int .u64),(.int .u64),(.int .i64),(.int .i64)] τ2),oD 25 (.callF 34 [Xgb]),oM 7 Xgz]) (.seq (.seq (.reg [oM 26 τ5,oD 27 (.isNil 0 false XgE),oM 28 τ7,oD 29 (.isNil 0 false XgC),oD 30 (.eqB true XgH XgF),oM 31 XgR,oG 32 (.mv τ6) 31 false,oG 33 (.bin .eql Xhp (.const (.int .i64 0))) 31 false,oG 34 (.mv τ7) 31 false,oG 35 (.isNil 0 true Xhu) 31 false,oG 36 (.eqB true Xhr XhG) 31 false,oD 37 (.pick Xg7 (.const (.bool true)) Xie)]) (.cond Xib (.seq (.reg [oD 4 (.mv (.const (.bool false)))]) .ret) .skip)) (.seq (.seq (.reg [oD 8 (.mv (.const (.int .i64 0)))]) (.block 0 (.loop Xya))) XQD)))))
def fn6:VFn:=⟨157,XVP,[.tmp 4]⟩
def Xxr:VC:=.seq (.seq (.reg [oM 4 τ3,oM 5 τ0,oD 6 (.lenL τ5),oD 7 (.bin .lss τ4 τ6),oM 8 τ7,oG 9 (.mv τ3) 8 true,oG 10 (.bin .lss τ9 (.const (.int .i64 30))) 8 true,oD 11 (.pick τ8 Xda (.const (.bool false)))]) (.cond Xc8 .skip (.exit 0))) (.seq (.block 1 (.seq (.reg [oM 14 τ0,oM 15 τ3,oD 16 (.idxAL 4 XeN XeG),oD 17 (.fieldA 2 XeW),oD 18 (.load1 .str XeI),oD 19 (.lenS Xfg),oD 20 (.bin .gtr Xe5 (.const (.int .i64 300)))]) (.cond Xfv (.seq (.reg [oD 2 (.mv (.const (.bool false)))]) .ret) .skip))) (.reg [oM 12 τ3,oD 13 (.bin .add XdK (.const (.int .i64 1))),oM 3 Xef]))
def XIS:VC:=.seq (.reg [oM 21 τ0,oD 22 (.lenL XfM),oD 23 (.bin .leq XfP (.const (.int .i64 30))),oM 2 XfO]) .ret
def XIK:VC:=.seq (.reg [oD 2 (.mv (.const (.bool false)))]) (.seq (.seq (.reg [oD 3 (.mv (.const (.int .i64 0)))]) (.block 0 (.loop Xxr))) XIS)
def fn31:VFn:=⟨24,XIK,[.tmp 2]⟩
def XIr:VC:=.seq (.reg [oD 0 (.mv (.const (.bool false)))]) (.seq (.reg [oD 14 (.build [(.int .i64 0),(.bool false),(.int .u64 0),(.int .u64 0),(.bool false),(.int .u64 0),(.int .u64 0),(.int .i64 0),(.int .i64 0)] [(0,1,(.const (.int .i64 6)))]),oD 15 (.callF 33 [XeN]),oM 13 XeG,oE 16 0 Xef,oE 17 1 Xef,oM 1 XeW,oM 2 XeI]) (.seq (.reg [oM 19 τ1,oD 20 (.callF 35 [Xe5]),oD 21 (.callF 28 [Xfv]),oM 18 XfM,oE 22 0 Xfg,oE 23 1 Xfg,oD 3 (.alloc [(.int .i64 0),(.bool false),(.int .u64 0),(.int .u64 0),(.bool false),(.int .u64 0),(.int .u64 0),(.int .i64 0),(.int .i64 0),(.int .i64 0),(.bool false),(.int .u32 0),(.int .u32 0),(.bool false),(.string ⟨⟨[]⟩⟩),(.int .i64 0)]),oN (.store 16 τ3 XfP),oM 4 XfO]) (.seq (.reg [oD 25 (.build [(.int .i64 0),(.bool false),(.int .u64 0),(.int .u64 0),(.bool false),(.int .u64 0),(.int .u64 0),(.int .i64 0),(.int .i64 0)] [(0,1,(.const (.int .i64 7)))]),oD 26 (.callF 33 [Xgz]),oM 24 XgE,oE 27 0 Xgb,oE 28 1 Xgb,oM 5 XgH,oM 6 XgC]) (.seq (.reg [oD 7 (.mv (.const (.pointer none)))]) (.seq (.reg [oD 29 (.build [(.int .i64 0),(.bool false),(.int .u64 0),(.int .u64 0),(.bool false),(.int .u64 0),(.int .u64 0),(.int .i64 0),(.int .i64 0),.nilFunc,.nilFunc,.nilFunc,(.int .u32 0),(.int .u32 0),(.string ⟨⟨[]⟩⟩)] []),oD 30 (.box XgF),oM 8 XgR]) (.seq (.reg [oM 31 τ7,oD 32 (.callF 41 [Xg7,(.const (.int .u32 1))])]) (.seq (.reg [oM 33 τ8,oD 34 (.callF 41 [Xhr,(.const (.int .u32 1))])]) (.seq (.reg [oM 36 τ7,oD 37 (.callF 37 [Xie,(.const (.int .i64 0)),(.const (.string ⟨⟨[]⟩⟩))]),oM 35 Xib,oE 38 0 XhG,oE 39 1 XhG,oM 9 XiB,oM 10 Xjc]) (.seq (.reg [oM 41 τ8,oD 42 (.callF 42 [XjD]),oM 40 Xje,oE 43 0 Xjr,oE 44 1 Xjr,oM 11 Xjs,oM 12 Xkm]) (.seq (.reg [oM 45 τ2,oD 46 (.bin .eql Xkl (.const (.int .i64 0))),oM 47 XkD,oG 48 (.mv τ4) 47 true,oG 49 (.bin .eql XkB (.const (.int .i64 0))) 47 true,oD 50 (.pick XkC XkA (.const (.bool false))),oM 51 Xlj,oG 52 (.fieldA 9 τ3) 51 true,oG 53 (.load1 (.int .i64) Xls) 51 true,oG 54 (.bin .eql XmB (.const (.int .i64 2))) 51 true,oD 55 (.pick Xlr Xne (.const (.bool false))),oM 56 XmO,oG 57 (.mv τ6) 56 true,oG 58 (.bin .eql XmT (.const (.int .i64 1))) 56 true,oD 59 (.pick Xnd XmU (.const (.bool false))),oM 60 Xno,oG 61 (.mv Xda) 60 true,oG 62 (.bin .eql Xoj (.const (.int .i64 1))) 60 true,oD 63 (.pick Xoi XoS (.const (.bool false))),oM 64 Xqq,oG 65 (.mv τ8) 64 true,oG 66 (.callF 39 [Xrb,(.const (.string ⟨⟨[]⟩⟩))]) 64 true,oG 67 (.bin .eql XqE (.const (.int .i64 1))) 64 true,oD 68 (.pick Xqr Xqu (.const (.bool false))),oM 69 XqA,oG 70 (.mv τ7) 69 true,oG 71 (.callF 35 [Xsr]) 69 true,oG 72 (.bin .eql Xsq (.const (.string ⟨⟨[]⟩⟩))) 69 true,oD 73 (.pick Xr8 Xsm (.const (.bool false))),oM 74 XtH,oG 75 (.mv Xc8) 74 true,oG 76 (.bin .eql XuX (.const (.int .u32 0))) 74 true,oD 77 (.pick Xvj Xxj (.const (.bool false))),oM 78 Xw9,oG 79 (.mv XdK) 78 true,oG 80 (.bin .eql XxT (.const (.string ⟨⟨[]⟩⟩))) 78 true,oD 81 (.pick Xxb XxY (.const (.bool false))),oM 0 XBS]) .ret))))))))))
def fn32:VFn:=⟨82,XIr,[.tmp 0]⟩
def k33_6:VC:=.regD [oD 8 (.loadN [(.int .i64),.bool,(.int .u64),(.int .u64),.bool,(.int .u64),(.int .u64),(.int .i64),(.int .i64)] τ1),oD 9 (.callF 68 [(.const (.string ⟨⟨[0]⟩⟩)),(.const (.int .i64 8))])] [(0,1)] [oD 10 (.build [(.int .i64 0),(.bool false),(.int .u64 0),(.int .u64 0),(.bool false),(.int .u64 0),(.int .u64 0),(.int .i64 0),(.int .i64 0),.nilFunc,.nilFunc,.nilFunc,(.int .u32 0),(.int .u32 0),(.string ⟨⟨[]⟩⟩)] [(0,9,τ8),(12,1,(.const (.int .u32 1))),(14,1,τ9)]),oD 11 (.box Xda),oM 4 Xc8]
def XQ0:VC:=.seq (.reg [oD 1 (.box τ0),oD 2 (.mv (.const (.pointer none))),oD 3 (.mv (.const (.int .i64 0)))]) (.seq (.seq (.reg [oD 5 (.loadN [(.int .i64),.bool,(.int .u64),(.int .u64),.bool,(.int .u64),(.int .u64),(.int .i64),(.int .i64)] τ1),oD 6 (.callF 67 [τ5]),oD 7 (.not τ6)]) (.cond τ7 (.seq (.reg [oD 2 (.mv (.const (.pointer none))),oD 3 (.mv (.const (.int .i64 1)))]) .ret) .skip)) (.seq k33_6 (.seq (.seq (.reg [oD 12 (.fieldA 0 τ1),oD 13 (.load1 (.int .i64) XdK)]) (.block 0 (.seq (.reg [oD 15 (.bin .eql Xef (.const (.int .i64 6))),oM 14 XeG]) (.cond XeN (.reg [oM 16 τ4,oD 17 (.callF 69 []),oD 18 (.nilCheck XeW),oD 19 (.fieldA 9 Xfg),oN (.store 3 Xe5 XeI)]) (.seq (.reg [oD 21 (.bin .eql Xef (.const (.int .i64 17))),oM 20 XfM]) (.cond Xfv (.reg [oM 22 τ4,oD 23 (.callF 70 []),oD 24 (.nilCheck XfP),oD 25 (.fieldA 9 Xgb),oN (.store 3 Xgz XfO)]) (.seq (.reg [oD 2 (.mv (.const (.pointer none))),oD 3 (.mv (.const (.int .i64 1)))]) .ret))))))) (.seq (.reg [oM 26 τ4,oM 2 XgE,oD 3 (.mv (.const (.int .i64 0)))]) .ret))))
def fn33:VFn:=⟨27,XQ0,[.tmp 2,.tmp 3]⟩
def XTM:VC:=.seq (.reg [oD 1 (.box τ0),oD 2 (.mv (.const (.bool false)))]) (.seq (.reg [oD 3 (.fieldA 0 τ1),oD 4 (.load1 (.int .i64) τ3),oD 5 (.buildSl 1 1 [(.int .i64 0)] [(0,1,τ4)]),oD 6 (.callF 109 [(.const (.int .i64 255)),τ5]),oM 7 τ6,oG 8 (.fieldA 7 τ1) 7 true,oG 9 (.load1 (.int .i64) τ8) 7 true,oG 10 (.fieldA 8 τ1) 7 true,oG 11 (.load1 (.int .i64) Xda) 7 true,oG 12 (.buildSl 2 1 [(.int .i64 0),(.int .i64 0)] [(0,1,τ9),(1,1,Xc8)]) 7 true,oG 13 (.callF 109 [(.const (.int .i64 65535)),XdK]) 7 true,oD 14 (.pick τ7 Xef (.const (.bool false))),oM 15 XeN,oG 16 (.fieldA 1 τ1) 15 true,oG 17 (.loadN [.bool,(.int .u64),(.int .u64)] XeW) 15 true,oG 18 (.callF 110 [XeI]) 15 true,oD 19 (.pick XeG Xfg (.const (.bool false))),oM 20 Xe5,oG 21 (.fieldA 4 τ1) 20 true,oG 22 (.loadN [.bool,(.int .u64),(.int .u64)] XfM) 20 true,oG 23 (.callF 110 [XfP]) 20 true,oD 24 (.pick Xfv XfO (.const (.bool false))),oM 25 Xgb,oG 26 (.fieldA 1 τ1) 25 true,oG 27 (.fieldA 0 XgE) 25 true,oG 28 (.load1 .bool XgH) 25 true,oG 29 (.fieldA 4 τ1) 25 true,oG 30 (.fieldA 0 XgF) 25 true,oG 31 (.load1 .bool XgR) 25 true,oG 32 (.eqB false XgC Xg7) 25 true,oD 33 (.pick Xgz Xhp (.const (.bool false))),oM 2 Xhr]) .ret)
def fn67:VFn:=⟨34,XTM,[.tmp 2]⟩
def XuM:VC:=.seq (.reg [oD 10 (.bin .lss τ9 τ8)]) (.seq (.cond Xda .skip (.exit 0)) (.seq (.block 1 (.seq (.reg [oD 11 (.idxAL 1 τ7 τ9),oD 12 (.load1 (.int .i64) Xc8),oM 6 XdK]) (.seq (.reg [oM 13 τ6,oD 14 (.bin .lss Xef (.const (.int .i64 0))),oM 15 XeN,oG 16 (.mv τ6) 15 false,oG 17 (.mv τ0) 15 false,oG 18 (.bin .gtr XeW XeI) 15 false,oD 19 (.pick XeG (.const (.bool true)) Xfg)]) (.cond Xe5 (.seq (.reg [oD 4 (.mv (.const (.bool false)))]) .ret) .skip)))) (.reg [oD 20 (.bin .add τ9 (.const (.int .i64 1))),oM 9 Xfv])))
def XAe:VC:=.seq (.reg [oD 4 (.mv (.const (.bool true)))]) .ret
def XyW:VC:=.seq (.reg [oD 4 (.mv (.const (.bool false)))]) (.seq (.seq (.reg [oM 7 τ1,oD 8 (.lenL τ7),oD 9 (.mv (.const (.int .i64 0)))]) (.block 0 (.loop XuM))) XAe)
def XVu:VFn:=⟨21,XyW,[.tmp 4]⟩
def XHS:VC:=.seq (.reg [oD 1 (.box τ0),oD 2 (.mv (.const (.bool false)))]) (.seq (.reg [oD 3 (.fieldA 0 τ1),oD 4 (.load1 .bool τ3),oM 5 τ4,oG 6 (.fieldA 1 τ1) 5 false,oG 7 (.load1 (.int .u64) τ6) 5 false,oG 8 (.bin .eql τ7 (.const (.int .u64 0))) 5 false,oG 9 (.mv τ8) 5 false,oG 10 (.fieldA 2 τ1) 9 true,oG 11 (.load1 (.int .u64) Xda) 9 true,oG 12 (.bin .lss Xc8 (.const (.int .u64 4294967296))) 9 true,oG 13 (.pick τ9 XdK (.const (.bool false))) 5 false,oD 14 (.pick τ5 (.const (.bool true)) Xef),oM 2 XeN]) .ret)
def XWf:VFn:=⟨15,XHS,[.tmp 2]⟩
def XJ7:VC:=.seq (.reg [oD 4 (.mv (.const (.string ⟨⟨[]⟩⟩)))]) (.seq (.seq (.reg [oM 11 τ1]) (.block 0 (.seq (.reg [oD 13 (.bin .eql Xc8 (.const (.int .i64 0))),oM 12 Xef]) (.cond XdK (.seq (.reg [oD 4 (.mv (.const (.string ⟨⟨[]⟩⟩)))]) .ret) (.seq (.reg [oD 15 (.bin .eql Xc8 (.const (.int .i64 1))),oM 14 XeG]) (.cond XeN (.seq (.reg [oM 16 τ0,oM 4 XeW]) .ret) .skip)))))) (.seq (.seq (.reg [oM 17 τ1,oD 18 (.bin .lss XeI (.const (.int .i64 0)))]) (.cond Xfg .stuck .skip)) (.seq (.reg [oM 21 τ0,oD 22 (.lenS XfM),oD 23 (.conv .u64 XfP),oM 24 τ1,oD 25 (.conv .u64 Xgb),oD 26 (.callF 111 [XfO,Xgz]),oM 20 XgE,oE 27 0 Xfv,oE 28 1 Xfv,oM 5 XgH,oM 6 XgC]) (.seq (.seq (.reg [oM 29 τ5,oD 30 (.bin .gtr XgF (.const (.int .u64 0))),oM 31 XgR,oG 32 (.mv τ6) 31 false,oG 33 (.bin .gtr Xhp (.const (.int .u64 9223372036854775807))) 31 false,oD 34 (.pick Xg7 (.const (.bool true)) Xhr)]) (.cond Xhu .stuck .skip)) (.seq (.reg [oM 36 τ6,oD 37 (.conv .i64 Xie),oM 7 Xib]) (.seq (.seq (.reg [oM 38 τ0,oD 39 (.lenS XiB),oD 40 (.bin .eql Xjc (.const (.int .i64 0)))]) (.cond Xjr (.seq (.reg [oD 4 (.mv (.const (.string ⟨⟨[]⟩⟩)))]) .ret) .skip)) (.seq (.seq (.reg [oM 41 τ0,oD 42 (.idxS XjD (.const (.int .i64 0)))]) (.block 1 (.seq (.seq (.reg [oD 44 (.bin .eql Xje (.const (.int .u8 32))),oM 43 Xkm]) (.cond Xjs .skip (.seq (.reg [oD 45 (.bin .eql Xje (.const (.int .u8 45))),oM 43 Xkl]) (.cond Xjs .skip (.seq (.reg [oD 46 (.bin .eql Xje (.const (.int .u8 48))),oM 43 XkD]) (.cond Xjs .skip (.seq (.reg [oD 47 (.bin .eql Xje (.const (.int .u8 61))),oM 43 XkC]) (.cond Xjs .skip (.reg [oD 48 (.bin .eql Xje (.const (.int .u8 9))),oM 43 XkB]))))))))) (.cond Xjs (.block 2 (.seq (.reg [oM 50 τ7,oD 51 (.bin .leq Xlj (.const (.int .i64 128))),oM 52 Xlr,oG 53 (.mv τ0) 52 true,oG 54 (.callF 112 [(.const (.string ⟨⟨[32,32,32,32,32,32,32,32,32,32,32,32,32,32,32,32,32,32,32,32,32,32,32,32,32,32,32,32,32,32,32,32,32,32,32,32,32,32,32,32,32,32,32,32,32,32,32,32,32,32,32,32,32,32,32,32,32,32,32,32,32,32,32,32,32,32,32,32,32,32,32,32,32,32,32,32,32,32,32,32,32,32,32,32,32,32,32,32,32,32,32,32,32,32,32,32,32,32,32,32,32,32,32,32,32,32,32,32,32,32,32,32,32,32,32,32,32,32,32,32,32,32,32,32,32,32,32,32]⟩⟩)),XmB]) 52 true,oD 55 (.pick Xls Xne (.const (.bool false))),oM 49 XmO]) (.cond XkA (.seq (.reg [oM 56 τ7,oD 57 (.sliceS (.const (.string ⟨⟨[32,32,32,32,32,32,32,32,32,32,32,32,32,32,32,32,32,32,32,32,32,32,32,32,32,32,32,32,32,32,32,32,32,32,32,32,32,32,32,32,32,32,32,32,32,32,32,32,32,32,32,32,32,32,32,32,32,32,32,32,32,32,32,32,32,32,32,32,32,32,32,32,32,32,32,32,32,32,32,32,32,32,32,32,32,32,32,32,32,32,32,32,32,32,32,32,32,32,32,32,32,32,32,32,32,32,32,32,32,32,32,32,32,32,32,32,32,32,32,32,32,32,32,32,32,32,32,32]⟩⟩)) none (some Xnd)),oM 4 XmT]) .ret) (.seq (.reg [oM 59 τ7,oD 60 (.bin .leq Xno (.const (.int .i64 128))),oM 61 Xoi,oG 62 (.mv τ0) 61 true,oG 63 (.callF 112 [(.const (.string ⟨⟨[45,45,45,45,45,45,45,45,45,45,45,45,45,45,45,45,45,45,45,45,45,45,45,45,45,45,45,45,45,45,45,45,45,45,45,45,45,45,45,45,45,45,45,45,45,45,45,45,45,45,45,45,45,45,45,45,45,45,45,45,45,45,45,45,45,45,45,45,45,45,45,45,45,45,45,45,45,45,45,45,45,45,45,45,45,45,45,45,45,45,45,45,45,45,45,45,45,45,45,45,45,45,45,45,45,45,45,45,45,45,45,45,45,45,45,45,45,45,45,45,45,45,45,45,45,45,45,45]⟩⟩)),XoS]) 61 true,oD 64 (.pick Xoj Xqq (.const (.bool false))),oM 58 Xqr]) (.cond XmU (.seq (.reg [oM 65 τ7,oD 66 (.sliceS (.const (.string ⟨⟨[45,45,45,45,45,45,45,45,45,45,45,45,45,45,45,45,45,45,45,45,45,45,45,45,45,45,45,45,45,45,45,45,45,45,45,45,45,45,45,45,45,45,45,45,45,45,45,45,45,45,45,45,45,45,45,45,45,45,45,45,45,45,45,45,45,45,45,45,45,45,45,45,45,45,45,45,45,45,45,45,45,45,45,45,45,45,45,45,45,45,45,45,45,45,45,45,45,45,45,45,45,45,45,45,45,45,45,45,45,45,45,45,45,45,45,45,45,45,45,45,45,45,45,45,45,45,45,45]⟩⟩)) none (some Xrb)),oM 4 XqE]) .ret) (.seq (.reg [oM 68 τ7,oD 69 (.bin .leq XqA (.const (.int .i64 64))),oM 70 Xr8,oG 71 (.mv τ0) 70 true,oG 72 (.callF 112 [(.const (.string ⟨⟨[48,48,48,48,48,48,48,48,48,48,48,48,48,48,48,48,48,48,48,48,48,48,48,48,48,48,48,48,48,48,48,48,48,48,48,48,48,48,48,48,48,48,48,48,48,48,48,48,48,48,48,48,48,48,48,48,48,48,48,48,48,48,48,48]⟩⟩)),Xsq]) 70 true,oD 73 (.pick Xsr Xsm (.const (.bool false))),oM 67 XtH]) (.cond Xqu (.seq (.reg [oM 74 τ7,oD 75 (.sliceS (.const (.string ⟨⟨[48,48,48,48,48,48,48,48,48,48,48,48,48,48,48,48,48,48,48,48,48,48,48,48,48,48,48,48,48,48,48,48,48,48,48,48,48,48,48,48,48,48,48,48,48,48,48,48,48,48,48,48,48,48,48,48,48,48,48,48,48,48,48,48]⟩⟩)) none (some Xvj)),oM 4 XuX]) .ret) (.seq (.reg [oM 77 τ7,oD 78 (.bin .leq Xw9 (.const (.int .i64 128))),oM 79 Xxb,oG 80 (.mv τ0) 79 true,oG 81 (.callF 112 [(.const (.string ⟨⟨[61,61,61,61,61,61,61,61,61,61,61,61,61,61,61,61,61,61,61,61,61,61,61,61,61,61,61,61,61,61,61,61,61,61,61,61,61,61,61,61,61,61,61,61,61,61,61,61,61,61,61,61,61,61,61,61,61,61,61,61,61,61,61,61,61,61,61,61,61,61,61,61,61,61,61,61,61,61,61,61,61,61,61,61,61,61,61,61,61,61,61,61,61,61,61,61,61,61,61,61,61,61,61,61,61,61,61,61,61,61,61,61,61,61,61,61,61,61,61,61,61,61,61,61,61,61,61,61]⟩⟩)),XxY]) 79 true,oD 82 (.pick XxT XBS (.const (.bool false))),oM 76 XCp]) (.cond Xxj (.seq (.reg [oM 83 τ7,oD 84 (.sliceS (.const (.string ⟨⟨[61,61,61,61,61,61,61,61,61,61,61,61,61,61,61,61,61,61,61,61,61,61,61,61,61,61,61,61,61,61,61,61,61,61,61,61,61,61,61,61,61,61,61,61,61,61,61,61,61,61,61,61,61,61,61,61,61,61,61,61,61,61,61,61,61,61,61,61,61,61,61,61,61,61,61,61,61,61,61,61,61,61,61,61,61,61,61,61,61,61,61,61,61,61,61,61,61,61,61,61,61,61,61,61,61,61,61,61,61,61,61,61,61,61,61,61,61,61,61,61,61,61,61,61,61,61,61,61]⟩⟩)) none (some XBM)),oM 4 XJi]) .ret) (.seq (.reg [oM 86 τ7,oD 87 (.bin .leq XOQ (.const (.int .i64 64))),oM 88 XNn,oG 89 (.mv τ0) 88 true,oG 90 (.callF 112 [(.const (.string ⟨⟨[9,9,9,9,9,9,9,9,9,9,9,9,9,9,9,9,9,9,9,9,9,9,9,9,9,9,9,9,9,9,9,9,9,9,9,9,9,9,9,9,9,9,9,9,9,9,9,9,9,9,9,9,9,9,9,9,9,9,9,9,9,9,9,9]⟩⟩)),XKO]) 88 true,oD 91 (.pick XJ3 XPK (.const (.bool false))),oM 85 XOi]) (.cond XHN (.seq (.reg [oM 92 τ7,oD 93 (.sliceS (.const (.string ⟨⟨[9,9,9,9,9,9,9,9,9,9,9,9,9,9,9,9,9,9,9,9,9,9,9,9,9,9,9,9,9,9,9,9,9,9,9,9,9,9,9,9,9,9,9,9,9,9,9,9,9,9,9,9,9,9,9,9,9,9,9,9,9,9,9,9]⟩⟩)) none (some XMJ)),oM 4 XPY]) .ret) .skip))))))))))) .skip)))) (.seq (.reg [oM 94 τ7,oM 8 XQv]) (.seq (.seq (.reg [oM 95 τ7,oD 96 (.bin .gtr XPx (.const (.int .i64 8192)))]) (.cond XK5 (.seq (.reg [oM 97 τ0,oD 98 (.lenS XJu),oD 99 (.bin .quo (.const (.int .i64 8192)) XQG),oM 100 τ0,oD 101 (.lenS XwV),oD 102 (.bin .mul XQI Xwp),oM 8 XAM]) (.seq (.reg [oM 103 τ8,oD 104 (.bin .eql XwI (.const (.int .i64 0)))]) (.cond Xzd (.reg [oM 105 τ0,oD 106 (.lenS Xzk),oM 8 Xzp]) .skip))) .skip)) (.seq (.reg [oD 9 (.allocB 171 5)]) (.seq (.reg [oM 107 τ7,oD 108 (.callF 113 [τ9,XyV])]) (.seq (.reg [oM 109 τ0,oD 110 (.callF 114 [τ9,XBj])]) (.seq (.block 3 (.loop (.seq (.seq (.reg [oD 111 (.callF 115 [τ9]),oM 112 τ7,oD 113 (.bin .lss Xt0 XAR)]) (.cond XyS .skip (.exit 3))) (.block 4 (.seq (.reg [oM 114 τ7,oD 115 (.callF 115 [τ9]),oD 116 (.bin .sub Xwy XxZ),oD 117 (.callF 115 [τ9]),oM 118 τ8,oD 119 (.minmax false [XyY,Xyo,XAN]),oM 10 Xz0]) (.reg [oD 120 (.callF 116 [τ9]),oM 121 Xda,oD 122 (.sliceS XBp none (some Xy6)),oD 123 (.callF 114 [τ9,Xyv])])))))) (.seq (.reg [oD 124 (.callF 116 [τ9]),oM 4 XyN]) .ret))))))))))))))
def fn68:VFn:=⟨125,XJ7,[.tmp 4]⟩
def XKe:VC:=.seq (.reg [oD 4 (.mv (.const (.int .u64 0))),oD 5 (.mv (.const (.int .u64 0)))]) (.seq (.cond (.const (.bool false)) (.seq (.reg [oM 11 τ0,oD 12 (.conv .u32 Xc8),oM 13 τ1,oD 14 (.conv .u32 Xef),oD 15 (.callF 155 [XdK,XeN]),oM 10 XeG,oE 16 0 Xda,oE 17 1 Xda,oM 6 XeW,oM 7 XeI]) (.seq (.reg [oM 18 τ6,oD 19 (.conv .u64 Xfg),oM 20 τ7,oD 21 (.conv .u64 Xfv),oM 4 Xe5,oM 5 XfM]) .ret)) .skip) (.seq (.reg [oM 23 τ0,oM 24 τ1,oD 25 (.callF 156 [XfO,Xgb]),oM 22 Xgz,oE 26 0 XfP,oE 27 1 XfP,oM 8 XgE,oM 9 XgH]) (.seq (.reg [oM 28 τ8,oM 29 τ9,oM 4 XgC,oM 5 XgF]) .ret)))
def XUq:VFn:=⟨30,XKe,[.tmp 4,.tmp 5]⟩
def XTa:VC:=.seq (.reg [oD 4 (.mv (.const (.int .u32 0))),oD 5 (.mv (.const (.int .u32 0)))]) (.seq (.reg [oM 7 τ0,oD 8 (.conv .u64 τ7),oM 9 τ1,oD 10 (.conv .u64 τ9),oD 11 (.bin .mul τ8 Xda),oM 6 Xc8]) (.seq (.reg [oM 12 τ6,oD 13 (.bin .shr XdK (.const (.int .u64 32))),oD 14 (.conv .u32 Xef),oM 15 τ6,oD 16 (.conv .u32 XeG),oM 4 XeN,oM 5 XeW]) .ret))
def XTu:VFn:=⟨17,XTa,[.tmp 4,.tmp 5]⟩
def XKP:VC:=.seq (.reg [oD 4 (.mv (.const (.int .u64 0))),oD 5 (.mv (.const (.int .u64 0)))]) (.seq (.reg [oM 14 τ0,oD 15 (.bin .and XeN (.const (.int .u64 4294967295))),oM 6 XeG]) (.seq (.reg [oM 16 τ0,oD 17 (.bin .shr XeW (.const (.int .u64 32))),oM 7 XeI]) (.seq (.reg [oM 18 τ1,oD 19 (.bin .and Xfg (.const (.int .u64 4294967295))),oM 8 Xe5]) (.seq (.reg [oM 20 τ1,oD 21 (.bin .shr Xfv (.const (.int .u64 32))),oM 9 XfM]) (.seq (.reg [oM 22 τ6,oM 23 τ8,oD 24 (.bin .mul XfP XfO),oM 10 Xgb]) (.seq (.reg [oM 25 τ7,oM 26 τ8,oD 27 (.bin .mul Xgz XgE),oM 28 Xda,oD 29 (.bin .shr XgC (.const (.int .u64 32))),oD 30 (.bin .add XgH XgF),oM 11 XgR]) (.seq (.reg [oM 31 Xc8,oD 32 (.bin .and Xg7 (.const (.int .u64 4294967295))),oM 12 Xhp]) (.seq (.reg [oM 33 Xc8,oD 34 (.bin .shr Xhr (.const (.int .u64 32))),oM 13 Xhu]) (.seq (.reg [oM 35 XdK,oM 36 τ6,oM 37 τ9,oD 38 (.bin .mul Xie Xib),oD 39 (.bin .add XhG XiB),oM 12 Xjc]) (.seq (.reg [oM 40 τ7,oM 41 τ9,oD 42 (.bin .mul Xjr XjD),oM 43 Xef,oD 44 (.bin .add Xje Xjs),oM 45 XdK,oD 46 (.bin .shr Xkl (.const (.int .u64 32))),oD 47 (.bin .add Xkm XkD),oM 4 XkC]) (.seq (.reg [oM 48 τ0,oM 49 τ1,oD 50 (.bin .mul XkB XkA),oM 5 Xlj]) .ret)))))))))))
def XS9:VFn:=⟨51,XKP,[.tmp 4,.tmp 5]⟩
def XTc:VC:=.seq (.reg [oD 4 (.mv (.const (.bool false)))]) (.seq (.reg [oM 5 τ0,oM 6 τ1,oD 7 (.callF 157 [τ5,τ6]),oM 4 τ7]) .ret)
def XRI:VFn:=⟨8,XTc,[.tmp 4]⟩
def XUj:VC:=.seq (.reg [oD 4 (.mv (.const (.bool false)))]) (.seq (.reg [oM 5 τ0,oD 6 (.lenS τ5),oM 7 τ1,oD 8 (.lenS τ7),oD 9 (.bin .geq τ6 τ8),oM 10 τ9,oG 11 (.mv τ0) 10 true,oG 12 (.mv τ1) 10 true,oG 13 (.lenS XdK) 10 true,oG 14 (.sliceS Xc8 none (some Xef)) 10 true,oG 15 (.mv τ1) 10 true,oG 16 (.bin .eql XeN XeG) 10 true,oD 17 (.pick Xda XeW (.const (.bool false))),oM 4 XeI]) .ret)
def XTR:VFn:=⟨18,XUj,[.tmp 4]⟩
def XWU:VC:=.seq (.reg [oM 4 τ0,oD 5 (.callF 158 [τ4])]) (.seq (.seq (.reg [oM 6 τ1,oD 7 (.bin .lss τ6 (.const (.int .i64 0)))]) (.cond τ7 .stuck .skip)) (.seq .stuck (.cond XfM (.reg [oM 22 τ0,oM 23 τ1,oD 24 (.callF 159 [XfP,XfO])]) .skip)))
def XRx:VFn:=⟨25,XWU,[]⟩
def XWP:VC:=.seq (.reg [oM 2 τ0,oD 3 (.nilCheck τ2),oD 4 (.fieldA 0 τ3),oD 5 (.load1 .oth τ4),oD 6 (.isNil 0 false τ5)]) (.cond τ6 (.reg [oM 7 τ0,oM 8 τ0,oD 9 (.toU τ8),oM 10 τ9,oD 11 (.ofU 171 2 Xda),oD 12 (.nilCheck τ7),oD 13 (.fieldA 0 XdK),oN (.store 1 Xef Xc8)]) (.seq (.reg [oM 14 τ0,oD 15 (.nilCheck XeN),oD 16 (.fieldA 0 XeG),oD 17 (.load1 .oth XeW),oM 18 τ0,oD 19 (.eqP true XeI Xfg)]) (.cond Xe5 .stuck .skip)))
def XQ6:VFn:=⟨20,XWP,[]⟩
def XSM:VC:=.seq .stuck (.seq .stuck (.reg [oM 26 τ0,oM 27 τ4,oD 28 (.nilCheck XgE),oD 29 (.fieldA 1 XgC),oN (.store 1 XgF XgH)]))
def XUQ:VFn:=⟨30,XSM,[]⟩
def XWn:VC:=.seq (.reg [oD 4 (.mv (.const (.int .i64 0))),oM 5 (.const .nilIface)]) (.seq (.reg [oM 6 τ0,oD 7 (.callF 158 [τ6])]) (.seq (.reg [oM 8 τ0,oM 9 τ0,oD 10 (.nilCheck τ9),oD 11 (.fieldA 1 Xda),oD 12 (.load1 .oth Xc8),oM 13 τ1,oD 14 (.app 5 1 1 XdK Xef),oD 15 (.nilCheck τ8),oD 16 (.fieldA 1 XeG),oN (.store 1 XeW XeN)]) (.seq (.reg [oM 17 τ1,oD 18 (.lenS XeI),oM 4 Xfg,oM 5 (.const .nilIface)]) .ret)))
def XT9:VFn:=⟨19,XWn,[.tmp 4,.tmp 5]⟩
def XW2:VC:=.seq (.reg [oD 2 (.mv (.const (.int .i64 0)))]) (.seq (.reg [oM 3 τ0,oD 4 (.nilCheck τ3),oD 5 (.fieldA 1 τ4),oD 6 (.load1 .oth τ5),oD 7 (.lenL τ6),oM 2 τ7]) .ret)
def XVL:VFn:=⟨8,XW2,[.tmp 2]⟩
def XWA:VC:=.regD [oM 3 τ0,oD 4 (.nilCheck τ3),oD 5 (.fieldA 1 τ4),oD 6 (.load1 .oth τ5),oD 7 (.sdata τ6),oM 8 τ0,oD 9 (.nilCheck τ8),oD 10 (.fieldA 1 τ9),oD 11 (.load1 .oth Xda),oD 12 (.lenL Xc8)] [] [oD 13 (.ustr 5 τ7 XdK),oM 2 Xef]
def XRu:VC:=.seq (.reg [oD 2 (.mv (.const (.string ⟨⟨[]⟩⟩)))]) (.seq XWA .ret)
def XVX:VFn:=⟨14,XRu,[.tmp 2]⟩
def k69_3:VC:=.seq (.reg [oD 0 (.alloc [.nilFunc,.nilFunc,.nilFunc])]) (.seq (.reg [oD 1 (.build [.nilFunc,.nilFunc,.nilFunc] [(0,1,(.func 117)),(1,1,(.func 120)),(2,1,(.func 121))]),oN (.store 3 τ0 τ1)]) .ret)
def fn69:VFn:=⟨2,k69_3,[.cell 0 [.oth,.oth,.oth] true]⟩
def XTj:VC:=.regD [oM 4 τ0,oD 5 (.nilCheck τ4),oD 6 (.fieldA 0 τ5),oD 7 (.loadN [(.int .i64),.bool,(.int .u64),(.int .u64),.bool,(.int .u64),(.int .u64),(.int .i64),(.int .i64)] τ6),oM 8 τ0,oD 9 (.nilCheck τ8),oD 10 (.fieldA 12 τ9),oD 11 (.load1 (.int .u32) Xda),oD 12 (.callF 119 [Xc8,(.const (.int .u32 0))]),oD 13 (.callF 118 [τ7,(.const (.int .i64 2)),XdK,(.const (.string ⟨⟨[]⟩⟩))]),oE 14 0 Xef,oE 15 1 Xef] [(3,8)] [oM 2 XeN,oM 3 XeG]
def XJz:VC:=.seq (.reg [oD 2 (.mv (.const (.string ⟨⟨[]⟩⟩))),oD 3 (.mv (.const (.int .i64 0)))]) (.seq XTj .ret)
def XSe:VFn:=⟨16,XJz,[.tmp 2,.tmp 3]⟩
def XI1:VC:=.seq (.reg [oD 4 (.mv (.const (.string ⟨⟨[]⟩⟩)))]) (.seq (.reg [oD 5 (.callF 97 [(.const (.int .u64 16844810)),(.const (.int .i64 4))]),oM 6 τ0,oD 7 (.conv .u64 τ6),oD 8 (.bin .shl τ7 (.const (.int .u64 32))),oM 9 τ1,oD 10 (.conv .u64 τ9),oD 11 (.bin .or τ8 Xda),oD 12 (.callF 97 [Xc8,(.const (.int .i64 8))]),oD 13 (.bin .add τ5 XdK),oM 4 Xef]) .ret)
def XU2:VFn:=⟨14,XI1,[.tmp 4]⟩
def Xyr:VC:=.seq (.reg [oD 18 (.bin .lss XeI XeW)]) (.seq (.cond Xfg .skip (.exit 0)) (.seq (.block 1 (.seq (.reg [oM 19 XeI,oM 6 Xe5]) (.reg [oM 20 τ5,oM 21 τ6,oM 22 τ0,oM 23 τ1,oD 24 (.bin .sub XfO (.const (.int .i64 1))),oM 25 τ6,oD 26 (.bin .sub Xgb Xgz),oD 27 (.bin .mul (.const (.int .i64 8)) XgE),oD 28 (.bin .shr XfP XgH),oD 29 (.conv .u8 XgC),oD 30 (.idxAL 1 Xfv XfM),oN (.store 1 XgR XgF)]))) (.reg [oD 31 (.bin .add XeI (.const (.int .i64 1))),oM 17 Xg7])))
def XJP:VC:=.seq (.reg [oM 32 τ5,oD 33 (.b2s Xhp),oM 4 Xhr]) .ret
def XJf:VC:=.seq (.reg [oD 4 (.mv (.const (.string ⟨⟨[]⟩⟩)))]) (.seq (.seq (.reg [oM 7 τ1,oD 8 (.bin .lss τ7 (.const (.int .i64 1))),oM 9 τ8,oG 10 (.mv τ1) 9 false,oG 11 (.bin .gtr Xda (.const (.int .i64 8))) 9 false,oD 12 (.pick τ9 (.const (.bool true)) Xc8)]) (.cond XdK (.seq (.reg [oD 4 (.mv (.const (.string ⟨⟨[]⟩⟩)))]) .ret) .skip)) (.seq (.reg [oM 13 τ1,oD 14 (.mkSl 1 1 [(.int .u8 0)] Xef Xef),oM 5 XeN]) (.seq (.seq (.reg [oM 15 τ5,oD 16 (.lenL XeG),oD 17 (.mv (.const (.int .i64 0)))]) (.block 0 (.loop Xyr))) XJP)))
def fn97:VFn:=⟨34,XJf,[.tmp 4]⟩
def Xxy:VC:=.seq (.reg [oD 4 (.box τ0),oD 8 (.mv (.const (.string ⟨⟨[]⟩⟩))),oD 9 (.mv (.const (.int .i64 0)))]) (.seq (.seq (.reg [oD 13 (.fieldA 0 τ4),oD 14 (.load1 (.int .i64) Xef),oD 15 (.bin .neq XeN (.const (.int .i64 6)))]) (.cond XeG (.seq (.reg [oD 8 (.mv (.const (.string ⟨⟨[]⟩⟩))),oD 9 (.mv (.const (.int .i64 1)))]) .ret) .skip)) (.seq (.reg [oD 16 (.fieldA 7 τ4),oD 17 (.load1 (.int .i64) XeW),oD 18 (.fieldA 8 τ4),oD 19 (.load1 (.int .i64) Xfg),oM 20 τ1,oM 21 τ2,oD 22 (.build [(.int .i64 0),(.int .i64 0),(.int .u32 0),(.int .u32 0),(.int .i64 0),(.int .i64 0),(.int .i64 0),(.string ⟨⟨[]⟩⟩)] [(0,1,XeI),(1,1,Xe5),(4,1,Xfv),(5,1,(.const (.int .i64 65535))),(7,1,XfM)]),oD 10 (.alloc [(.int .i64 0),(.int .i64 0),(.int .u32 0),(.int .u32 0),(.int .i64 0),(.int .i64 0),(.int .i64 0),(.string ⟨⟨[]⟩⟩)]),oN (.store 8 Xda XfP)]) (.seq (.reg [oD 24 (.loadN [(.int .i64),(.int .i64),(.int .u32),(.int .u32),(.int .i64),(.int .i64),(.int .i64),.str] Xda),oD 25 (.fieldA 1 τ4),oD 26 (.loadN [.bool,(.int .u64),(.int .u64)] Xgz),oD 27 (.fieldA 4 τ4),oD 28 (.loadN [.bool,(.int .u64),(.int .u64)] XgH),oM 29 τ3,oD 30 (.callF 160 [Xgb,XgE,XgC,XgF]),oM 23 XgR,oE 31 0 XfO,oE 32 1 XfO,oM 11 Xg7,oM 12 Xhp]) (.seq (.seq (.reg [oM 33 XdK,oD 34 (.bin .neq Xhr (.const (.int .i64 0)))]) (.cond Xhu (.seq (.reg [oM 35 XdK,oD 8 (.mv (.const (.string ⟨⟨[]⟩⟩))),oM 9 XhG]) .ret) .skip)) (.seq (.reg [oD 36 (.loadN [(.int .i64),.bool,(.int .u64),(.int .u64),.bool,(.int .u64),(.int .u64),(.int .i64),(.int .i64)] τ4),oM 37 Xc8,oD 38 (.callF 161 [Xie,Xib]),oE 39 0 XiB,oE 40 1 XiB,oM 8 Xjc,oM 9 Xjr]) .ret)))))
def XSC:VFn:=⟨41,Xxy,[.tmp 8,.tmp 9]⟩
def XyF:VC:=.seq (.reg [oD 4 (.box τ0),oD 5 (.box τ1),oD 6 (.box τ2),oD 8 (.mv (.const (.string ⟨⟨[]⟩⟩))),oD 9 (.mv (.const (.int .i64 0)))]) (.seq (.reg [oD 13 (.fieldA 7 τ4),oD 14 (.load1 .str Xef),oD 15 (.lenS XeN),oD 16 (.bin .add (.const (.int .i64 20)) XeG),oM 10 XeW]) (.seq (.reg [oD 17 (.loadN [.bool,(.int .u64),(.int .u64)] τ5),oD 18 (.loadN [.bool,(.int .u64),(.int .u64)] τ6),oM 19 Xda,oM 20 τ3,oD 21 (.lenS Xfv),oD 22 (.bin .add Xe5 XfM),oD 23 (.callF 180 [XeI,Xfg,(.const (.int .i64 6)),XfP]),oM 11 XfO]) (.seq (.block 0 (.seq (.reg [oD 25 (.loadN [(.int .i64),(.int .i64),(.int .u32),(.int .u32),(.int .i64),(.int .i64),(.int .i64),.str] τ4),oD 26 (.callF 181 [Xgz]),oD 27 (.not XgE),oM 28 XgH,oG 29 (.mv Xc8) 28 false,oG 30 (.bin .eql XgF (.const (.string ⟨⟨[]⟩⟩))) 28 false,oD 31 (.pick XgC (.const (.bool true)) XgR),oM 24 Xg7]) (.cond Xgb (.seq (.reg [oD 8 (.mv (.const (.string ⟨⟨[]⟩⟩))),oD 9 (.mv (.const (.int .i64 1)))]) .ret) (.seq (.reg [oM 33 τ3,oD 34 (.lenS Xhr),oM 35 Xda,oD 36 (.bin .sub (.const (.int .i64 65535)) XhG),oD 37 (.bin .gtr Xhu Xie),oM 32 Xib]) (.cond Xhp (.seq (.reg [oD 8 (.mv (.const (.string ⟨⟨[]⟩⟩))),oD 9 (.mv (.const (.int .i64 5)))]) .ret) .skip))))) (.seq (.reg [oD 38 (.loadN [(.int .i64),(.int .i64),(.int .u32),(.int .u32),(.int .i64),(.int .i64),(.int .i64),.str] τ4),oD 39 (.callF 182 [XiB]),oM 40 τ3,oD 41 (.bin .add Xjc Xjr),oM 12 XjD]) (.seq (.reg [oM 42 XdK,oM 43 Xc8,oM 44 XdK,oD 45 (.bin .add Xjs Xkm),oD 46 (.callF 183 [Xkl]),oD 47 (.conv .u64 XkD),oD 48 (.callF 98 [Xje,(.const (.int .i64 16)),(.const (.int .i64 2)),XkC]),oM 8 XkB,oD 9 (.mv (.const (.int .i64 0)))]) .ret)))))
def XVE:VFn:=⟨49,XyF,[.tmp 8,.tmp 9]⟩
def XWa:VC:=.regD [oD 25 (.loadN [.bool,(.int .u64),(.int .u64)] τ4),oD 26 (.callF 195 [Xgz]),oD 27 (.loadN [.bool,(.int .u64),(.int .u64)] τ5)] [(1,2)] [oD 28 (.callF 195 [XgH]),oD 29 (.bin .add XgE XgC),oM 9 XgF]
def XA6:VC:=.seq (.reg [oD 4 (.box τ0),oD 5 (.box τ1),oD 8 (.mv (.const (.string ⟨⟨[]⟩⟩)))]) (.seq (.seq (.reg [oD 10 (.loadN [.bool,(.int .u64),(.int .u64)] τ4),oD 11 (.callF 110 [Xda]),oD 12 (.not Xc8),oM 13 XdK,oG 14 (.loadN [.bool,(.int .u64),(.int .u64)] τ5) 13 false,oG 15 (.callF 110 [XeN]) 13 false,oG 16 (.not XeG) 13 false,oD 17 (.pick Xef (.const (.bool true)) XeW),oM 18 XeI,oG 19 (.fieldA 0 τ4) 18 false,oG 20 (.load1 .bool Xe5) 18 false,oG 21 (.fieldA 0 τ5) 18 false,oG 22 (.load1 .bool XfM) 18 false,oG 23 (.eqB true Xfv XfP) 18 false,oD 24 (.pick Xfg (.const (.bool true)) XfO)]) (.cond Xgb (.seq (.reg [oD 8 (.mv (.const (.string ⟨⟨[]⟩⟩)))]) .ret) .skip)) (.seq XWa (.seq (.seq (.reg [oD 30 (.fieldA 0 τ4),oD 31 (.load1 .bool XgR)]) (.cond Xg7 (.seq (.reg [oM 32 τ9,oM 33 τ3,oM 34 τ2,oD 35 (.buildSl 6 1 [(.int .i64 0),(.int .i64 0),(.int .i64 0),(.int .i64 0),(.int .i64 0),(.int .i64 0)] [(0,1,Xhr),(1,1,(.const (.int .i64 4))),(2,1,(.const (.int .i64 0))),(3,1,(.const (.int .i64 3))),(4,1,Xhu),(5,1,(.const (.int .i64 1)))]),oD 36 (.callF 196 [XhG]),oD 37 (.bin .add Xhp Xie),oM 8 Xib]) .ret) .skip)) (.seq (.reg [oM 38 τ9,oM 39 τ2,oM 40 τ3,oD 41 (.buildSl 6 1 [(.int .i64 0),(.int .i64 0),(.int .i64 0),(.int .i64 0),(.int .i64 0),(.int .i64 0)] [(0,1,(.const (.int .i64 0))),(1,1,(.const (.int .i64 1))),(2,1,Xjc),(3,1,(.const (.int .i64 1))),(4,1,Xjr),(5,1,(.const (.int .i64 2)))]),oD 42 (.callF 196 [XjD]),oD 43 (.bin .add XiB Xje),oM 8 Xjs]) .ret))))
def XUV:VFn:=⟨44,XA6,[.tmp 8]⟩
def XRz:VC:=.regD [oD 10 (.fieldA 1 τ1),oD 11 (.load1 (.int .u64) Xda),oD 12 (.callF 97 [Xc8,(.const (.int .i64 8))]),oD 13 (.fieldA 2 τ1),oD 14 (.load1 (.int .u64) Xef)] [(2,4)] [oD 15 (.callF 97 [XeN,(.const (.int .i64 8))]),oD 16 (.bin .add XdK XeG),oM 2 XeW]
def XyI:VC:=.seq (.reg [oD 1 (.box τ0),oD 2 (.mv (.const (.string ⟨⟨[]⟩⟩)))]) (.seq (.block 0 (.seq (.reg [oD 4 (.loadN [.bool,(.int .u64),(.int .u64)] τ1),oD 5 (.callF 110 [τ4]),oD 6 (.not τ5),oM 3 τ6]) (.cond τ3 (.seq (.reg [oD 2 (.mv (.const (.string ⟨⟨[]⟩⟩)))]) .ret) (.seq (.reg [oD 8 (.fieldA 0 τ1),oD 9 (.load1 .bool τ8),oM 7 τ9]) (.cond τ7 (.seq XRz .ret) .skip))))) (.seq (.reg [oD 17 (.fieldA 2 τ1),oD 18 (.load1 (.int .u64) XeI),oD 19 (.callF 97 [Xfg,(.const (.int .i64 4))]),oM 2 Xe5]) .ret))
def XRv:VFn:=⟨20,XyI,[.tmp 2]⟩
def XWO:VC:=.regD [oM 12 τ0,oM 13 τ4,oD 14 (.idxAL 1 XdK Xef),oD 15 (.load1 (.int .i64) XeN),oD 16 (.conv .u64 XeG),oM 17 τ0,oM 18 τ4,oD 19 (.bin .add Xfg (.const (.int .i64 1))),oD 20 (.idxAL 1 XeI Xe5),oD 21 (.load1 (.int .i64) Xfv)] [] [oD 22 (.callF 97 [XeW,XfM]),oD 23 (.callF 114 [τ3,XfP])]
def XtM:VC:=.seq (.seq (.reg [oM 5 τ4,oD 6 (.bin .add τ5 (.const (.int .i64 1))),oM 7 τ0,oD 8 (.lenL τ7),oD 9 (.bin .lss τ6 τ8)]) (.cond τ9 .skip (.exit 0))) (.seq (.block 1 XWO) (.reg [oM 10 τ4,oD 11 (.bin .add Xda (.const (.int .i64 2))),oM 4 Xc8]))
def XBs:VC:=.seq (.reg [oD 24 (.callF 116 [τ3]),oM 2 Xgb]) .ret
def XyC:VC:=.seq (.reg [oD 2 (.mv (.const (.string ⟨⟨[]⟩⟩)))]) (.seq (.reg [oD 3 (.allocB 171 5)]) (.seq (.seq (.reg [oD 4 (.mv (.const (.int .i64 0)))]) (.block 0 (.loop XtM))) XBs))
def XRX:VFn:=⟨25,XyC,[.tmp 2]⟩
def XHL:VC:=.seq (.reg [oD 1 (.box τ0),oD 2 (.mv (.const (.bool false)))]) (.seq (.reg [oD 3 (.fieldA 0 τ1),oD 4 (.load1 (.int .i64) τ3),oD 5 (.fieldA 1 τ1),oD 6 (.load1 (.int .i64) τ5),oD 7 (.fieldA 5 τ1),oD 8 (.load1 (.int .i64) τ7),oD 9 (.fieldA 6 τ1),oD 10 (.load1 (.int .i64) τ9),oD 11 (.buildSl 4 1 [(.int .i64 0),(.int .i64 0),(.int .i64 0),(.int .i64 0)] [(0,1,τ4),(1,1,τ6),(2,1,τ8),(3,1,Xda)]),oD 12 (.callF 197 [(.const (.int .i64 65535)),Xc8]),oM 13 XdK,oG 14 (.fieldA 4 τ1) 13 true,oG 15 (.load1 (.int .i64) XeN) 13 true,oG 16 (.buildSl 1 1 [(.int .i64 0)] [(0,1,XeG)]) 13 true,oG 17 (.callF 197 [(.const (.int .i64 255)),XeW]) 13 true,oD 18 (.pick Xef XeI (.const (.bool false))),oM 19 Xfg,oG 20 (.fieldA 7 τ1) 19 true,oG 21 (.load1 .str Xfv) 19 true,oG 22 (.lenS XfM) 19 true,oG 23 (.bin .rem XfP (.const (.int .i64 4))) 19 true,oG 24 (.bin .eql XfO (.const (.int .i64 0))) 19 true,oD 25 (.pick Xe5 Xgb (.const (.bool false))),oM 26 Xgz,oG 27 (.fieldA 7 τ1) 26 true,oG 28 (.load1 .str XgH) 26 true,oG 29 (.lenS XgC) 26 true,oG 30 (.bin .leq XgF (.const (.int .i64 40))) 26 true,oD 31 (.pick XgE XgR (.const (.bool false))),oM 2 Xg7]) .ret)
def XV4:VFn:=⟨32,XHL,[.tmp 2]⟩
def XtK:VC:=.seq (.reg [oD 10 (.bin .lss τ9 τ8)]) (.seq (.cond Xda .skip (.exit 0)) (.seq (.block 1 (.seq (.reg [oD 11 (.idxAL 1 τ7 τ9),oD 12 (.load1 (.int .i64) Xc8),oM 6 XdK]) (.seq (.reg [oM 13 τ6,oD 14 (.bin .lss Xef (.const (.int .i64 0))),oM 15 XeN,oG 16 (.mv τ6) 15 false,oG 17 (.mv τ0) 15 false,oG 18 (.bin .gtr XeW XeI) 15 false,oD 19 (.pick XeG (.const (.bool true)) Xfg)]) (.cond Xe5 (.seq (.reg [oD 4 (.mv (.const (.bool false)))]) .ret) .skip)))) (.reg [oD 20 (.bin .add τ9 (.const (.int .i64 1))),oM 9 Xfv])))
def XxM:VC:=.seq (.reg [oD 4 (.mv (.const (.bool true)))]) .ret
def XyB:VC:=.seq (.reg [oD 4 (.mv (.const (.bool false)))]) (.seq (.seq (.reg [oM 7 τ1,oD 8 (.lenL τ7),oD 9 (.mv (.const (.int .i64 0)))]) (.block 0 (.loop XtK))) XxM)
def XRV:VFn:=⟨21,XyB,[.tmp 4]⟩
def XVb:VC:=.regD [oM 31 τ3,oD 32 (.bin .shl Xg7 (.const (.int .u64 12))),oD 33 (.fieldA 4 τ1),oD 34 (.load1 (.int .i64) Xhr),oD 35 (.conv .u64 Xhu),oD 36 (.bin .or Xhp XhG),oD 37 (.callF 97 [Xie,(.const (.int .i64 2))]),oD 38 (.fieldA 5 τ1),oD 39 (.load1 (.int .i64) XiB),oD 40 (.conv .u64 Xjc)] [(6,8)] [oD 41 (.callF 97 [Xjr,(.const (.int .i64 2))]),oD 42 (.bin .add Xib XjD),oM 6 Xje]
def XWv:VC:=.regD [oM 43 τ4,oM 44 τ5,oD 45 (.bin .add Xjs Xkm),oM 46 τ6,oD 47 (.bin .add Xkl XkD),oD 48 (.fieldA 6 τ1),oD 49 (.load1 (.int .i64) XkB),oD 50 (.conv .u64 XkA),oD 51 (.callF 97 [Xlj,(.const (.int .i64 4))]),oD 52 (.bin .add XkC Xlr),oD 53 (.fieldA 7 τ1),oD 54 (.load1 .str XmB)] [(8,11)] [oD 55 (.bin .add Xls Xne),oM 2 XmO]
def Xzy:VC:=.seq (.reg [oD 1 (.box τ0),oD 2 (.mv (.const (.string ⟨⟨[]⟩⟩)))]) (.seq (.reg [oD 7 (.fieldA 7 τ1),oD 8 (.load1 .str τ7),oD 9 (.lenS τ8),oD 10 (.bin .add (.const (.int .i64 20)) τ9),oD 11 (.conv .u64 Xda),oD 12 (.bin .quo Xc8 (.const (.int .u64 4))),oM 3 XdK]) (.seq (.reg [oD 13 (.fieldA 0 τ1),oD 14 (.load1 (.int .i64) Xef),oD 15 (.conv .u64 XeN),oD 16 (.bin .shl XeG (.const (.int .u64 16))),oD 17 (.fieldA 1 τ1),oD 18 (.load1 (.int .i64) XeI),oD 19 (.conv .u64 Xfg),oD 20 (.bin .or XeW Xe5),oD 21 (.callF 97 [Xfv,(.const (.int .i64 4))]),oM 4 XfM]) (.seq (.reg [oD 22 (.fieldA 2 τ1),oD 23 (.load1 (.int .u32) XfP),oD 24 (.conv .u64 XfO),oD 25 (.bin .shl Xgb (.const (.int .u64 32))),oD 26 (.fieldA 3 τ1),oD 27 (.load1 (.int .u32) XgE),oD 28 (.conv .u64 XgH),oD 29 (.bin .or Xgz XgC),oD 30 (.callF 97 [XgF,(.const (.int .i64 8))]),oM 5 XgR]) (.seq XVb (.seq XWv .ret)))))
def XW6:VFn:=⟨56,Xzy,[.tmp 2]⟩
def XJs:VC:=.seq (.reg [oD 2 (.mv (.const (.int .i64 0)))]) (.seq (.reg [oM 3 τ0,oD 4 (.callF 130 [τ3]),oD 5 (.bin .sub (.const (.int .i64 65535)) τ4),oM 2 τ5]) .ret)
def XUy:VFn:=⟨6,XJs,[.tmp 2]⟩
def XJA:VC:=.reg [oM 4 τ7]
def XJN:VC:=.block 1 (.reg [oD 8 (.load1 (.int .i64) τ3),oM 9 τ4,oD 10 (.bin .add τ8 τ9),oD 11 (.callF 165 [Xda]),oN (.store 1 τ3 Xc8)])
def XSh:VC:=.rangeF τ6 [7] XJA XJN
def XAp:VC:=.seq (.reg [oD 12 (.load1 (.int .i64) τ3),oM 2 XdK]) .ret
def XBd:VC:=.seq (.reg [oD 2 (.mv (.const (.int .i64 0)))]) (.seq (.reg [oD 3 (.alloc [(.int .i64 0)]),oN (.store 1 τ3 (.const (.int .i64 0)))]) (.seq (.seq (.reg [oM 5 τ0,oD 6 (.callF 164 [τ5])]) (.block 0 XSh)) XAp))
def XUU:VFn:=⟨13,XBd,[.tmp 2]⟩
def XW1:VC:=.seq (.reg [oD 1 (.box τ0),oM 2 (.const .nilFunc)]) (.seq (.reg [oD 3 (.mkFunc 189 [] [τ1]),oM 2 τ3]) .ret)
def XWS:VFn:=⟨4,XW1,[.tmp 2]⟩
def Xuv:VC:=.seq (.seq (.reg [oM 5 τ3,oD 6 (.load1 .str τ1),oD 7 (.lenS τ6),oD 8 (.bin .lss τ5 τ7)]) (.cond τ8 .skip (.exit 0))) (.seq (.block 1 (.seq (.reg [oD 11 (.load1 .str τ1),oM 12 τ3,oD 13 (.idxS Xc8 XdK),oD 14 (.conv .i64 Xef),oD 15 (.bin .shl XeN (.const (.int .u64 8))),oM 4 XeG]) (.seq (.seq (.reg [oM 16 τ3,oD 17 (.bin .add XeW (.const (.int .i64 1))),oD 18 (.load1 .str τ1),oD 19 (.lenS Xfg),oD 20 (.bin .lss XeI Xe5)]) (.cond Xfv (.reg [oM 21 τ4,oD 22 (.load1 .str τ1),oM 23 τ3,oD 24 (.bin .add XfO (.const (.int .i64 1))),oD 25 (.idxS XfP Xgb),oD 26 (.conv .i64 Xgz),oD 27 (.bin .or XfM XgE),oM 4 XgH]) .skip)) (.seq (.reg [oM 28 τ0,oM 29 τ4,oD 30 (.callV XgC [XgF]),oD 31 (.not XgR)]) (.cond Xg7 .ret .skip))))) (.reg [oM 9 τ3,oD 10 (.bin .add τ9 (.const (.int .i64 2))),oM 3 Xda]))
def XMx:VC:=.seq (.reg [oD 3 (.mv (.const (.int .i64 0)))]) (.block 0 (.loop Xuv))
def XR3:VFn:=⟨32,XMx,[]⟩
def XAl:VC:=.seq (.seq (.reg [oM 3 τ0,oD 4 (.bin .gtr τ3 (.const (.int .i64 65535)))]) (.cond τ4 .skip (.exit 0))) (.block 1 (.reg [oM 5 τ0,oD 6 (.bin .and τ5 (.const (.int .i64 65535))),oM 7 τ0,oD 8 (.bin .shr τ7 (.const (.int .u64 16))),oD 9 (.bin .add τ6 τ8),oM 0 τ9]))
def XAn:VC:=.seq (.reg [oM 10 τ0,oM 2 Xda]) .ret
def Xyn:VC:=.seq (.reg [oD 2 (.mv (.const (.int .i64 0)))]) (.seq (.block 0 (.loop XAl)) XAn)
def XS5:VFn:=⟨11,Xyn,[.tmp 2]⟩
def k98_7:VC:=.regD [oM 28 τ0,oM 29 τ1,oD 30 (.sliceS XgC none (some XgF)),oM 31 τ9,oD 32 (.bin .add XgR Xg7),oM 33 τ0,oM 34 τ1,oM 35 τ2,oD 36 (.bin .add Xhu XhG),oD 37 (.sliceS Xhr (some Xie) none)] [] [oD 38 (.bin .add Xhp Xib),oM 8 XiB]
def XIs:VC:=.seq (.reg [oD 8 (.mv (.const (.string ⟨⟨[]⟩⟩)))]) (.seq (.reg [oM 10 τ3,oM 11 τ2,oD 12 (.callF 97 [Xda,Xc8]),oM 9 XdK]) (.seq (.seq (.reg [oM 13 τ9,oD 14 (.bin .eql Xef (.const (.string ⟨⟨[]⟩⟩))),oM 15 XeN,oG 16 (.mv τ1) 15 false,oG 17 (.bin .lss XeW (.const (.int .i64 0))) 15 false,oD 18 (.pick XeG (.const (.bool true)) XeI),oM 19 Xfg,oG 20 (.mv τ0) 19 false,oG 21 (.lenS Xfv) 19 false,oG 22 (.mv τ2) 19 false,oG 23 (.bin .sub XfM XfP) 19 false,oG 24 (.mv τ1) 19 false,oG 25 (.bin .lss XfO Xgb) 19 false,oD 26 (.pick Xe5 (.const (.bool true)) Xgz)]) (.cond XgE (.seq (.reg [oM 27 τ0,oM 8 XgH]) .ret) .skip)) (.seq k98_7 .ret)))
def fn98:VFn:=⟨39,XIs,[.tmp 8]⟩
def XAi:VC:=.seq (.reg [oD 2 (.box τ0),oD 4 (.mv (.const (.string ⟨⟨[]⟩⟩))),oD 5 (.mv (.const (.int .i64 0)))]) (.seq (.reg [oD 9 (.fieldA 0 τ2),oD 10 (.load1 (.int .i64) τ9),oD 11 (.bin .eql Xda (.const (.int .i64 6))),oM 12 Xc8,oG 13 (.fieldA 0 τ2) 12 false,oG 14 (.load1 (.int .i64) Xef) 12 false,oG 15 (.bin .eql XeN (.const (.int .i64 17))) 12 false,oD 16 (.pick XdK (.const (.bool true)) XeG),oM 6 XeW]) (.seq (.seq (.reg [oM 17 τ6,oD 18 (.not XeI),oM 19 Xfg,oG 20 (.fieldA 1 τ2) 19 false,oG 21 (.fieldA 0 Xfv) 19 false,oG 22 (.load1 .bool XfM) 19 false,oG 23 (.fieldA 4 τ2) 19 false,oG 24 (.fieldA 0 XfO) 19 false,oG 25 (.load1 .bool Xgb) 19 false,oG 26 (.eqB true XfP Xgz) 19 false,oD 27 (.pick Xe5 (.const (.bool true)) XgE),oM 28 XgH,oG 29 (.fieldA 1 τ2) 28 false,oG 30 (.loadN [.bool,(.int .u64),(.int .u64)] XgF) 28 false,oG 31 (.callF 110 [XgR]) 28 false,oG 32 (.not Xg7) 28 false,oD 33 (.pick XgC (.const (.bool true)) Xhp),oM 34 Xhr,oG 35 (.fieldA 4 τ2) 34 false,oG 36 (.loadN [.bool,(.int .u64),(.int .u64)] XhG) 34 false,oG 37 (.callF 110 [Xie]) 34 false,oG 38 (.not Xib) 34 false,oD 39 (.pick Xhu (.const (.bool true)) XiB)]) (.cond Xjc (.seq (.reg [oD 4 (.mv (.const (.string ⟨⟨[]⟩⟩))),oD 5 (.mv (.const (.int .i64 1)))]) .ret) .skip)) (.seq (.reg [oD 7 (.mv (.const (.string ⟨⟨[]⟩⟩)))]) (.seq (.reg [oD 8 (.mv (.const (.int .i64 0)))]) (.seq (.seq (.reg [oD 40 (.fieldA 1 τ2),oD 41 (.fieldA 0 Xjr),oD 42 (.load1 .bool XjD)]) (.cond Xje (.reg [oD 44 (.fieldA 0 τ2),oD 45 (.load1 (.int .i64) Xkm),oD 46 (.fieldA 1 τ2),oD 47 (.loadN [.bool,(.int .u64),(.int .u64)] XkD),oD 48 (.fieldA 4 τ2),oD 49 (.loadN [.bool,(.int .u64),(.int .u64)] XkB),oD 50 (.build [(.int .i64 0),(.int .i64 0),(.int .i64 0),(.int .i64 0),(.bool false),(.int .u64 0),(.int .u64 0),(.bool false),(.int .u64 0),(.int .u64 0)] [(2,1,Xkl),(3,1,(.const (.int .i64 64))),(4,3,XkC),(7,3,XkA)]),oM 51 τ1,oD 52 (.callF 184 [Xlj,Xlr]),oM 43 Xls,oE 53 0 Xjs,oE 54 1 Xjs,oM 7 XmB,oM 8 Xne]) (.reg [oD 56 (.fieldA 0 τ2),oD 57 (.load1 (.int .i64) Xnd),oD 58 (.fieldA 1 τ2),oD 59 (.loadN [.bool,(.int .u64),(.int .u64)] XmU),oD 60 (.fieldA 4 τ2),oD 61 (.loadN [.bool,(.int .u64),(.int .u64)] Xoi),oD 62 (.build [(.int .i64 0),(.int .i64 0),(.bool false),(.int .i64 0),(.int .i64 0),(.bool false),(.int .u64 0),(.int .u64 0),(.bool false),(.int .u64 0),(.int .u64 0),(.string ⟨⟨[]⟩⟩)] [(2,1,(.const (.bool true))),(3,1,(.const (.int .i64 64))),(4,1,XmT),(5,3,Xno),(8,3,Xoj)]),oM 63 τ1,oD 64 (.callF 185 [XoS,Xqq]),oM 55 Xqr,oE 65 0 XmO,oE 66 1 XmO,oM 7 Xrb,oM 8 XqE]))) (.seq (.seq (.reg [oM 67 τ8,oD 68 (.bin .eql Xqu (.const (.int .i64 0))),oM 69 XqA,oG 70 (.mv τ7) 69 true,oG 71 (.lenS Xsr) 69 true,oG 72 (.bin .gtr Xsq (.const (.int .i64 9000))) 69 true,oD 73 (.pick Xr8 Xsm (.const (.bool false)))]) (.cond XtH (.seq (.reg [oD 4 (.mv (.const (.string ⟨⟨[]⟩⟩))),oD 5 (.mv (.const (.int .i64 5)))]) .ret) .skip)) (.seq (.reg [oM 74 τ7,oM 75 τ8,oM 4 Xvj,oM 5 XuX]) .ret)))))))
def XTV:VFn:=⟨76,XAi,[.tmp 4,.tmp 5]⟩
def XM1:VC:=.regD [oM 40 τ6,oM 41 τ7,oD 42 (.bin .add Xjr XjD),oD 43 (.fieldA 4 τ2),oD 44 (.loadN [.bool,(.int .u64),(.int .u64)] Xjs),oD 45 (.callF 195 [Xkm]),oD 46 (.bin .add Xje Xkl),oD 47 (.fieldA 7 τ2),oD 48 (.loadN [.bool,(.int .u64),(.int .u64)] XkC),oD 49 (.callF 195 [XkB]),oD 50 (.bin .add XkD XkA),oM 51 τ1] [(5,8)] [oD 52 (.bin .add Xlj Xlr),oM 4 Xls,oD 5 (.mv (.const (.int .i64 0)))]
def XxP:VC:=.seq (.reg [oD 2 (.box τ0),oD 4 (.mv (.const (.string ⟨⟨[]⟩⟩))),oD 5 (.mv (.const (.int .i64 0)))]) (.seq (.block 0 (.seq (.reg [oD 9 (.loadN [(.int .i64),(.int .i64),(.int .i64),(.int .i64),.bool,(.int .u64),(.int .u64),.bool,(.int .u64),(.int .u64)] τ2),oD 10 (.callF 198 [τ9]),oD 11 (.not Xda),oM 8 Xc8]) (.cond τ8 (.seq (.reg [oD 4 (.mv (.const (.string ⟨⟨[]⟩⟩))),oD 5 (.mv (.const (.int .i64 1)))]) .ret) (.seq (.reg [oM 13 τ1,oD 14 (.lenS Xef),oD 15 (.bin .gtr XeN (.const (.int .i64 65535))),oM 12 XeG]) (.cond XdK (.seq (.reg [oD 4 (.mv (.const (.string ⟨⟨[]⟩⟩))),oD 5 (.mv (.const (.int .i64 5)))]) .ret) .skip))))) (.seq (.reg [oD 16 (.fieldA 0 τ2),oD 17 (.load1 (.int .i64) XeW),oD 18 (.conv .u64 XeI),oD 19 (.bin .shl Xfg (.const (.int .u64 20))),oD 20 (.bin .or (.const (.int .u64 1610612736)) Xe5),oD 21 (.fieldA 1 τ2),oD 22 (.load1 (.int .i64) XfM),oD 23 (.conv .u64 XfP),oD 24 (.bin .or Xfv XfO),oD 25 (.callF 97 [Xgb,(.const (.int .i64 4))]),oM 6 Xgz]) (.seq (.reg [oM 26 τ1,oD 27 (.lenS XgE),oD 28 (.conv .u64 XgH),oD 29 (.bin .shl XgC (.const (.int .u64 16))),oD 30 (.fieldA 2 τ2),oD 31 (.load1 (.int .i64) XgR),oD 32 (.conv .u64 Xg7),oD 33 (.bin .shl Xhp (.const (.int .u64 8))),oD 34 (.bin .or XgF Xhr),oD 35 (.fieldA 3 τ2),oD 36 (.load1 (.int .i64) XhG),oD 37 (.conv .u64 Xie),oD 38 (.bin .or Xhu Xib),oD 39 (.callF 97 [XiB,(.const (.int .i64 4))]),oM 7 Xjc]) (.seq XM1 .ret))))
def XUw:VFn:=⟨53,XxP,[.tmp 4,.tmp 5]⟩
def Xzx:VC:=.seq (.reg [oD 1 (.box τ0),oD 2 (.mv (.const (.bool false)))]) (.seq (.seq (.reg [oD 5 (.fieldA 0 τ1),oD 6 (.load1 (.int .i64) τ5),oD 7 (.build [(.int .i64 0),(.int .i64 0)] [(0,1,τ6),(1,1,(.const (.int .i64 255)))]),oD 8 (.fieldA 1 τ1),oD 9 (.load1 (.int .i64) τ8),oD 10 (.build [(.int .i64 0),(.int .i64 0)] [(0,1,τ9),(1,1,(.const (.int .i64 1048575)))]),oD 11 (.fieldA 2 τ1),oD 12 (.load1 (.int .i64) Xc8),oD 13 (.build [(.int .i64 0),(.int .i64 0)] [(0,1,XdK),(1,1,(.const (.int .i64 255)))]),oD 14 (.fieldA 3 τ1),oD 15 (.load1 (.int .i64) XeN),oD 16 (.build [(.int .i64 0),(.int .i64 0)] [(0,1,XeG),(1,1,(.const (.int .i64 255)))]),oD 17 (.buildSl 4 2 [(.int .i64 0),(.int .i64 0),(.int .i64 0),(.int .i64 0),(.int .i64 0),(.int .i64 0),(.int .i64 0),(.int .i64 0)] [(0,2,τ7),(2,2,Xda),(4,2,Xef),(6,2,XeW)]),oD 18 (.lenL XeI),oD 19 (.mv (.const (.int .i64 0)))]) (.block 0 (.loop (.seq (.reg [oD 20 (.bin .lss Xe5 Xfg)]) (.seq (.cond Xfv .skip (.exit 0)) (.seq (.block 1 (.seq (.reg [oD 21 (.idxAL 2 XeI Xe5),oD 22 (.loadN [(.int .i64),(.int .i64)] XfM),oD 4 (.alloc [(.int .i64 0),(.int .i64 0)]),oN (.store 2 τ4 XfP)]) (.seq (.reg [oD 23 (.idxAA 2 1 τ4 (.const (.int .i64 0))),oD 24 (.load1 (.int .i64) XfO),oD 25 (.bin .lss Xgb (.const (.int .i64 0))),oM 26 Xgz,oG 27 (.idxAA 2 1 τ4 (.const (.int .i64 0))) 26 false,oG 28 (.load1 (.int .i64) XgH) 26 false,oG 29 (.idxAA 2 1 τ4 (.const (.int .i64 1))) 26 false,oG 30 (.load1 (.int .i64) XgF) 26 false,oG 31 (.bin .gtr XgC XgR) 26 false,oD 32 (.pick XgE (.const (.bool true)) Xg7)]) (.cond Xhp (.seq (.reg [oD 2 (.mv (.const (.bool false)))]) .ret) .skip)))) (.reg [oD 33 (.bin .add Xe5 (.const (.int .i64 1))),oM 19 Xhr]))))))) (.seq (.reg [oD 34 (.fieldA 4 τ1),oD 35 (.fieldA 0 Xhu),oD 36 (.load1 .bool XhG),oM 37 Xie,oG 38 (.fieldA 7 τ1) 37 true,oG 39 (.fieldA 0 XiB) 37 true,oG 40 (.load1 .bool Xjc) 37 true,oD 41 (.pick Xib Xjr (.const (.bool false))),oM 2 XjD]) .ret))
def XSQ:VFn:=⟨42,Xzx,[.tmp 2]⟩
def XK8:VC:=.regD [oM 43 τ8,oD 44 (.fieldA 5 τ2),oD 45 (.loadN [.bool,(.int .u64),(.int .u64)] Xkm),oD 46 (.callF 195 [Xkl]),oD 47 (.fieldA 8 τ2),oD 48 (.loadN [.bool,(.int .u64),(.int .u64)] XkC),oD 49 (.callF 195 [XkB]),oD 50 (.bin .add XkD XkA),oD 51 (.fieldA 11 τ2),oD 52 (.load1 .str Xlr),oD 53 (.bin .add Xlj Xls)] [(3,5),(3,9),(6,9)] [oD 54 (.bin .add Xjs XmB),oM 8 Xne]
def XxI:VC:=.seq (.reg [oD 2 (.box τ0),oD 4 (.mv (.const (.string ⟨⟨[]⟩⟩))),oD 5 (.mv (.const (.int .i64 0)))]) (.seq (.reg [oD 9 (.fieldA 11 τ2),oD 10 (.load1 .str τ9),oD 11 (.lenS Xda),oD 12 (.bin .add (.const (.int .i64 20)) Xc8),oM 6 XdK]) (.seq (.block 0 (.seq (.reg [oD 14 (.loadN [(.int .i64),(.int .i64),.bool,(.int .i64),(.int .i64),.bool,(.int .u64),(.int .u64),.bool,(.int .u64),(.int .u64),.str] τ2),oD 15 (.callF 199 [XeN]),oD 16 (.not XeG),oM 13 XeW]) (.cond Xef (.seq (.reg [oD 4 (.mv (.const (.string ⟨⟨[]⟩⟩))),oD 5 (.mv (.const (.int .i64 1)))]) .ret) (.seq (.reg [oM 18 τ1,oD 19 (.lenS Xfg),oM 20 τ6,oD 21 (.bin .sub (.const (.int .i64 65535)) Xfv),oD 22 (.bin .gtr Xe5 XfM),oM 17 XfP]) (.cond XeI (.seq (.reg [oD 4 (.mv (.const (.string ⟨⟨[]⟩⟩))),oD 5 (.mv (.const (.int .i64 5)))]) .ret) .skip))))) (.seq (.reg [oD 7 (.mv (.const (.int .i64 0)))]) (.seq (.seq (.reg [oD 23 (.fieldA 2 τ2),oD 24 (.load1 .bool XfO)]) (.cond Xgb (.reg [oD 7 (.mv (.const (.int .i64 64)))]) .skip)) (.seq (.reg [oM 25 τ6,oD 26 (.bin .quo Xgz (.const (.int .i64 4))),oD 27 (.bin .or (.const (.int .i64 64)) XgE),oD 28 (.fieldA 0 τ2),oD 29 (.load1 (.int .i64) XgC),oM 30 τ6,oM 31 τ1,oD 32 (.lenS Xg7),oD 33 (.bin .add XgR Xhp),oD 34 (.fieldA 1 τ2),oD 35 (.load1 (.int .i64) Xhu),oM 36 τ7,oD 37 (.fieldA 3 τ2),oD 38 (.load1 (.int .i64) Xib),oD 39 (.fieldA 4 τ2),oD 40 (.load1 (.int .i64) Xjc),oD 41 (.buildSl 18 1 [(.int .i64 0),(.int .i64 0),(.int .i64 0),(.int .i64 0),(.int .i64 0),(.int .i64 0),(.int .i64 0),(.int .i64 0),(.int .i64 0),(.int .i64 0),(.int .i64 0),(.int .i64 0),(.int .i64 0),(.int .i64 0),(.int .i64 0),(.int .i64 0),(.int .i64 0),(.int .i64 0)] [(0,1,XgH),(1,1,(.const (.int .i64 1))),(2,1,XgF),(3,1,(.const (.int .i64 1))),(4,1,Xhr),(5,1,(.const (.int .i64 2))),(6,1,XhG),(7,1,(.const (.int .i64 2))),(8,1,Xie),(9,1,(.const (.int .i64 1))),(10,1,(.const (.int .i64 0))),(11,1,(.const (.int .i64 1))),(12,1,XiB),(13,1,(.const (.int .i64 1))),(14,1,Xjr),(15,1,(.const (.int .i64 1))),(16,1,(.const (.int .i64 0))),(17,1,(.const (.int .i64 2)))]),oD 42 (.callF 196 [XjD]),oM 8 Xje]) (.seq XK8 (.seq (.reg [oM 55 τ8,oM 56 τ8,oD 57 (.callF 183 [Xnd]),oD 58 (.conv .u64 XmT),oD 59 (.callF 98 [XmO,(.const (.int .i64 10)),(.const (.int .i64 2)),XmU]),oM 60 τ1,oD 61 (.bin .add Xno Xoi),oM 4 Xoj,oD 5 (.mv (.const (.int .i64 0)))]) .ret)))))))
def XTl:VFn:=⟨62,XxI,[.tmp 4,.tmp 5]⟩
def XJF:VC:=.seq (.reg [oD 1 (.box τ0),oD 2 (.mv (.const (.bool false)))]) (.seq (.seq (.reg [oD 3 (.fieldA 0 τ1),oD 4 (.load1 (.int .i64) τ3),oD 5 (.callF 203 [τ4,(.const (.int .i64 255))]),oD 6 (.not τ5),oM 7 τ6,oG 8 (.fieldA 1 τ1) 7 false,oG 9 (.load1 (.int .i64) τ8) 7 false,oG 10 (.callF 203 [τ9,(.const (.int .i64 65535))]) 7 false,oG 11 (.not Xda) 7 false,oD 12 (.pick τ7 (.const (.bool true)) Xc8),oM 13 XdK,oG 14 (.fieldA 3 τ1) 13 false,oG 15 (.load1 (.int .i64) XeN) 13 false,oG 16 (.callF 203 [XeG,(.const (.int .i64 255))]) 13 false,oG 17 (.not XeW) 13 false,oD 18 (.pick Xef (.const (.bool true)) XeI),oM 19 Xfg,oG 20 (.fieldA 4 τ1) 19 false,oG 21 (.load1 (.int .i64) Xfv) 19 false,oG 22 (.callF 203 [XfM,(.const (.int .i64 255))]) 19 false,oG 23 (.not XfP) 19 false,oD 24 (.pick Xe5 (.const (.bool true)) XfO)]) (.cond Xgb (.seq (.reg [oD 2 (.mv (.const (.bool false)))]) .ret) .skip)) (.seq (.reg [oD 25 (.fieldA 5 τ1),oD 26 (.loadN [.bool,(.int .u64),(.int .u64)] Xgz),oD 27 (.callF 204 [XgE]),oM 28 XgH,oG 29 (.fieldA 8 τ1) 28 true,oG 30 (.loadN [.bool,(.int .u64),(.int .u64)] XgF) 28 true,oG 31 (.callF 204 [XgR]) 28 true,oD 32 (.pick XgC Xg7 (.const (.bool false))),oM 33 Xhp,oG 34 (.fieldA 11 τ1) 33 true,oG 35 (.load1 .str Xhu) 33 true,oG 36 (.lenS XhG) 33 true,oG 37 (.bin .rem Xie (.const (.int .i64 4))) 33 true,oG 38 (.bin .eql Xib (.const (.int .i64 0))) 33 true,oD 39 (.pick Xhr XiB (.const (.bool false))),oM 40 Xjc,oG 41 (.fieldA 11 τ1) 40 true,oG 42 (.load1 .str XjD) 40 true,oG 43 (.lenS Xje) 40 true,oG 44 (.bin .leq Xjs (.const (.int .i64 40))) 40 true,oD 45 (.pick Xjr Xkm (.const (.bool false))),oM 2 Xkl]) .ret))
def XUJ:VFn:=⟨46,XJF,[.tmp 2]⟩
def XJC:VC:=.seq (.reg [oD 4 (.mv (.const (.bool false)))]) (.seq (.reg [oM 5 τ0,oD 6 (.bin .leq (.const (.int .i64 0)) τ5),oM 7 τ6,oG 8 (.mv τ0) 7 true,oG 9 (.mv τ1) 7 true,oG 10 (.bin .leq τ8 τ9) 7 true,oD 11 (.pick τ7 Xda (.const (.bool false))),oM 4 Xc8]) .ret)
def XTK:VFn:=⟨12,XJC,[.tmp 4]⟩
def XH5:VC:=.seq (.reg [oD 1 (.box τ0),oD 2 (.mv (.const (.bool false)))]) (.seq (.reg [oD 3 (.fieldA 0 τ1),oD 4 (.load1 .bool τ3),oD 5 (.not τ4),oM 6 τ5,oG 7 (.loadN [.bool,(.int .u64),(.int .u64)] τ1) 6 true,oG 8 (.callF 110 [τ7]) 6 true,oD 9 (.pick τ6 τ8 (.const (.bool false))),oM 2 τ9]) .ret)
def XRl:VFn:=⟨10,XH5,[.tmp 2]⟩
def XSo:VC:=.regD [oM 8 τ0,oD 9 (.nilCheck τ8),oD 10 (.fieldA 0 τ9),oD 11 (.loadN [(.int .i64),.bool,(.int .u64),(.int .u64),.bool,(.int .u64),(.int .u64),(.int .i64),(.int .i64)] Xda),oM 12 τ1,oM 13 τ0,oD 14 (.nilCheck Xef),oD 15 (.fieldA 12 XeN),oD 16 (.load1 (.int .u32) XeG),oM 17 τ0,oD 18 (.nilCheck XeI),oD 19 (.fieldA 13 Xfg),oD 20 (.load1 (.int .u32) Xe5),oD 21 (.callF 119 [XeW,Xfv]),oM 22 τ2,oD 23 (.callF 118 [Xc8,XdK,XfM,XfP]),oE 24 0 XfO,oE 25 1 XfO] [(3,13)] [oM 6 Xgb,oM 7 Xgz]
def XJt:VC:=.seq (.reg [oD 6 (.mv (.const (.string ⟨⟨[]⟩⟩))),oD 7 (.mv (.const (.int .i64 0)))]) (.seq XSo .ret)
def XSd:VFn:=⟨26,XJt,[.tmp 6,.tmp 7]⟩
def XHI:VC:=.seq (.reg [oD 5 (.box τ2)]) (.seq (.reg [oD 6 (.fieldA 10 τ5),oD 7 (.load1 .bool τ6)]) (.cond τ7 (.reg [oM 8 τ0,oD 9 (.fieldA 11 τ5),oD 10 (.load1 (.int .u32) τ9),oD 11 (.nilCheck τ8),oD 12 (.fieldA 13 Xc8),oN (.store 1 XdK Xda)]) .skip))
def XSV:VFn:=⟨13,XHI,[]⟩
def k70_3:VC:=.seq (.reg [oD 0 (.alloc [.nilFunc,.nilFunc,.nilFunc])]) (.seq (.reg [oD 1 (.build [.nilFunc,.nilFunc,.nilFunc] [(0,1,(.func 122)),(1,1,(.func 124)),(2,1,(.func 125))]),oN (.store 3 τ0 τ1)]) .ret)
def fn70:VFn:=⟨2,k70_3,[.cell 0 [.oth,.oth,.oth] true]⟩
def XS7:VC:=.regD [oM 4 τ0,oD 5 (.nilCheck τ4),oD 6 (.fieldA 0 τ5),oD 7 (.loadN [(.int .i64),.bool,(.int .u64),(.int .u64),.bool,(.int .u64),(.int .u64),(.int .i64),(.int .i64)] τ6),oD 8 (.callF 68 [(.const (.string ⟨⟨[0]⟩⟩)),(.const (.int .i64 8))]),oD 9 (.build [(.bool false),(.int .i64 0),(.int .u32 0),(.string ⟨⟨[]⟩⟩),(.string ⟨⟨[]⟩⟩),(.string ⟨⟨[]⟩⟩)] [(0,1,(.const (.bool true))),(2,1,(.const (.int .u32 1))),(3,1,τ8),(4,1,(.const (.string ⟨⟨[0,0]⟩⟩)))]),oD 10 (.callF 123 [τ7,τ9]),oE 11 0 Xda,oE 12 1 Xda] [(3,4)] [oM 2 Xc8,oM 3 XdK]
def XI4:VC:=.seq (.reg [oD 2 (.mv (.const (.string ⟨⟨[]⟩⟩))),oD 3 (.mv (.const (.int .i64 0)))]) (.seq XS7 .ret)
def XRZ:VFn:=⟨13,XI4,[.tmp 2,.tmp 3]⟩
def XyQ:VC:=.seq (.reg [oD 2 (.box τ0),oD 3 (.box τ1),oD 4 (.mv (.const (.string ⟨⟨[]⟩⟩))),oD 5 (.mv (.const (.int .i64 0)))]) (.seq (.reg [oD 9 (.loadN [.bool,(.int .i64),(.int .u32),.str,.str,.str] τ3),oD 10 (.callF 162 [τ9]),oM 8 Xda,oE 11 0 τ8,oE 12 1 τ8,oM 6 Xc8,oM 7 XdK]) (.seq (.seq (.reg [oM 13 τ7,oD 14 (.bin .neq Xef (.const (.int .i64 0)))]) (.cond XeN (.seq (.reg [oM 15 τ7,oD 4 (.mv (.const (.string ⟨⟨[]⟩⟩))),oM 5 XeG]) .ret) .skip)) (.seq (.reg [oD 16 (.loadN [(.int .i64),.bool,(.int .u64),(.int .u64),.bool,(.int .u64),(.int .u64),(.int .i64),(.int .i64)] τ2),oM 17 τ6,oD 18 (.callF 163 [XeW,XeI]),oE 19 0 Xfg,oE 20 1 Xfg,oM 4 Xe5,oM 5 Xfv]) .ret)))
def XWE:VFn:=⟨21,XyQ,[.tmp 4,.tmp 5]⟩
def XTB:VC:=.regD [oD 11 (.fieldA 1 τ1),oD 12 (.load1 (.int .i64) Xc8),oD 13 (.bin .or (.const (.int .i64 192)) XdK),oD 14 (.conv .u64 Xef),oD 15 (.callF 97 [XeN,(.const (.int .i64 1))]),oD 16 (.fieldA 2 τ1),oD 17 (.load1 (.int .u32) XeW),oD 18 (.conv .u64 XeI),oD 19 (.callF 97 [Xfg,(.const (.int .i64 4))]),oD 20 (.bin .add XeG Xe5),oD 21 (.fieldA 3 τ1),oD 22 (.load1 .str XfM),oD 23 (.callF 187 [XfP]),oD 24 (.bin .add Xfv XfO),oD 25 (.fieldA 4 τ1),oD 26 (.load1 .str Xgz),oD 27 (.callF 187 [XgE]),oD 28 (.bin .add Xgb XgH),oD 29 (.fieldA 5 τ1),oD 30 (.load1 .str XgF)] [(4,6),(4,11),(4,15),(4,19),(8,11),(8,15),(8,19),(12,15),(12,19),(16,19)] [oD 31 (.bin .add XgC XgR),oM 2 Xg7,oD 3 (.mv (.const (.int .i64 0)))]
def XMW:VC:=.regD [oD 32 (.fieldA 1 τ1),oD 33 (.load1 (.int .i64) Xhp),oD 34 (.bin .or (.const (.int .i64 64)) Xhr),oD 35 (.conv .u64 Xhu),oD 36 (.callF 97 [XhG,(.const (.int .i64 1))]),oD 37 (.fieldA 3 τ1),oD 38 (.load1 .str Xib),oD 39 (.bin .add Xie XiB),oD 40 (.fieldA 5 τ1),oD 41 (.load1 .str Xjr)] [(4,6),(4,9)] [oD 42 (.bin .add Xjc XjD),oM 2 Xje,oD 3 (.mv (.const (.int .i64 0)))]
def Xx4:VC:=.seq (.reg [oD 1 (.box τ0),oD 2 (.mv (.const (.string ⟨⟨[]⟩⟩))),oD 3 (.mv (.const (.int .i64 0)))]) (.seq (.block 0 (.seq (.reg [oD 5 (.loadN [.bool,(.int .i64),(.int .u32),.str,.str,.str] τ1),oD 6 (.callF 186 [τ5]),oD 7 (.not τ6),oM 4 τ7]) (.cond τ4 (.seq (.reg [oD 2 (.mv (.const (.string ⟨⟨[]⟩⟩))),oD 3 (.mv (.const (.int .i64 1)))]) .ret) (.seq (.reg [oD 9 (.fieldA 0 τ1),oD 10 (.load1 .bool τ9),oM 8 Xda]) (.cond τ8 (.seq XTB .ret) .skip))))) (.seq XMW .ret))
def XVx:VFn:=⟨43,Xx4,[.tmp 2,.tmp 3]⟩
def Xx5:VC:=.seq (.reg [oD 1 (.box τ0),oD 2 (.mv (.const (.bool false)))]) (.seq (.seq (.reg [oD 3 (.fieldA 1 τ1),oD 4 (.load1 (.int .i64) τ3),oD 5 (.bin .lss τ4 (.const (.int .i64 0))),oM 6 τ5,oG 7 (.fieldA 1 τ1) 6 false,oG 8 (.load1 (.int .i64) τ7) 6 false,oG 9 (.bin .geq τ8 (.const (.int .i64 64))) 6 false,oD 10 (.pick τ6 (.const (.bool true)) τ9)]) (.cond Xda (.seq (.reg [oD 2 (.mv (.const (.bool false)))]) .ret) .skip)) (.seq (.seq (.reg [oD 11 (.fieldA 0 τ1),oD 12 (.load1 .bool Xc8)]) (.cond XdK (.seq (.reg [oD 13 (.fieldA 3 τ1),oD 14 (.load1 .str Xef),oD 15 (.lenS XeN),oD 16 (.fieldA 4 τ1),oD 17 (.load1 .str XeW),oD 18 (.lenS XeI),oD 19 (.minmax true [XeG,Xfg]),oD 20 (.bin .leq Xe5 (.const (.int .i64 20))),oM 2 Xfv]) .ret) .skip)) (.seq (.reg [oD 21 (.fieldA 3 τ1),oD 22 (.load1 .str XfM),oD 23 (.lenS XfP),oD 24 (.bin .eql XfO (.const (.int .i64 8))),oM 25 Xgb,oG 26 (.fieldA 4 τ1) 25 true,oG 27 (.load1 .str XgE) 25 true,oG 28 (.bin .eql XgH (.const (.string ⟨⟨[]⟩⟩))) 25 true,oD 29 (.pick Xgz XgC (.const (.bool false))),oM 30 XgF,oG 31 (.fieldA 2 τ1) 30 true,oG 32 (.load1 (.int .u32) Xg7) 30 true,oG 33 (.bin .eql Xhp (.const (.int .u32 0))) 30 true,oD 34 (.pick XgR Xhr (.const (.bool false))),oM 2 Xhu]) .ret)))
def XUm:VFn:=⟨35,Xx5,[.tmp 2]⟩
def XJq:VC:=.seq (.reg [oD 2 (.mv (.const (.string ⟨⟨[]⟩⟩)))]) (.seq (.reg [oM 3 τ0,oD 4 (.lenS τ3),oD 5 (.conv .u64 τ4),oD 6 (.callF 97 [τ5,(.const (.int .i64 1))]),oM 7 τ0,oD 8 (.bin .add τ6 τ7),oM 2 τ8]) .ret)
def XSu:VFn:=⟨9,XJq,[.tmp 2]⟩
def XyK:VC:=.seq (.reg [oD 2 (.box τ0),oD 4 (.mv (.const (.string ⟨⟨[]⟩⟩))),oD 5 (.mv (.const (.int .i64 0)))]) (.seq (.seq (.reg [oD 8 (.fieldA 0 τ2),oD 9 (.load1 (.int .i64) τ8),oD 10 (.bin .neq τ9 (.const (.int .i64 17)))]) (.cond Xda (.seq (.reg [oD 4 (.mv (.const (.string ⟨⟨[]⟩⟩))),oD 5 (.mv (.const (.int .i64 1)))]) .ret) .skip)) (.seq (.reg [oD 12 (.fieldA 7 τ2),oD 13 (.load1 (.int .i64) XdK),oD 14 (.fieldA 8 τ2),oD 15 (.load1 (.int .i64) XeN),oD 16 (.build [(.int .i64 0),(.int .i64 0)] [(0,1,Xef),(1,1,XeG)]),oD 17 (.fieldA 1 τ2),oD 18 (.loadN [.bool,(.int .u64),(.int .u64)] XeI),oD 19 (.fieldA 4 τ2),oD 20 (.loadN [.bool,(.int .u64),(.int .u64)] Xe5),oM 21 τ1,oD 22 (.callF 188 [XeW,Xfg,Xfv,XfM]),oM 11 XfP,oE 23 0 Xc8,oE 24 1 Xc8,oM 6 XfO,oM 7 Xgb]) (.seq (.seq (.reg [oM 25 τ7,oD 26 (.bin .neq Xgz (.const (.int .i64 0)))]) (.cond XgE (.seq (.reg [oM 27 τ7,oD 4 (.mv (.const (.string ⟨⟨[]⟩⟩))),oM 5 XgH]) .ret) .skip)) (.seq (.reg [oD 28 (.loadN [(.int .i64),.bool,(.int .u64),(.int .u64),.bool,(.int .u64),(.int .u64),(.int .i64),(.int .i64)] τ2),oM 29 τ6,oD 30 (.callF 161 [XgC,XgF]),oE 31 0 XgR,oE 32 1 XgR,oM 4 Xg7,oM 5 Xhp]) .ret))))
def XUW:VFn:=⟨33,XyK,[.tmp 4,.tmp 5]⟩
def XtP:VC:=.seq (.reg [oD 49 (.bin .lss XkB (.const (.int .i64 4)))]) (.seq (.cond XkA .skip (.exit 1)) (.seq (.block 2 (.seq (.reg [oD 50 (.idxV1 4 XkC XkB),oM 14 Xlj]) (.reg [oM 51 XeN,oD 52 (.conv .u64 Xlr),oD 53 (.callF 97 [Xls,(.const (.int .i64 2))]),oD 54 (.callF 114 [XdK,XmB])]))) (.reg [oD 55 (.bin .add XkB (.const (.int .i64 1))),oM 48 XmO])))
def XxO:VC:=.seq (.reg [oM 56 τ3,oD 57 (.callF 114 [XdK,Xnd])]) (.seq (.reg [oD 58 (.callF 116 [XdK]),oM 15 XmU]) (.seq (.reg [oM 59 Xc8,oM 60 XeG,oD 61 (.bin .add Xno Xoi),oD 62 (.callF 183 [Xoj]),oM 16 XoS]) (.seq (.seq (.reg [oM 63 XeW,oD 64 (.bin .eql Xqq (.const (.int .i64 0)))]) (.cond Xqr (.reg [oD 16 (.mv (.const (.int .i64 65535)))]) .skip)) (.seq (.reg [oM 65 XeG,oM 66 XeW,oD 67 (.conv .u64 XqE),oD 68 (.callF 98 [Xrb,(.const (.int .i64 6)),(.const (.int .i64 2)),Xqu]),oM 8 XqA,oD 9 (.mv (.const (.int .i64 0)))]) .ret))))
def XBa:VC:=.seq (.reg [oD 4 (.box τ0),oD 5 (.box τ1),oD 6 (.box τ2),oD 8 (.mv (.const (.string ⟨⟨[]⟩⟩))),oD 9 (.mv (.const (.int .i64 0)))]) (.seq (.reg [oM 17 τ3,oD 18 (.lenS XeI),oD 19 (.bin .add (.const (.int .i64 8)) Xfg),oM 10 Xe5]) (.seq (.reg [oD 20 (.loadN [.bool,(.int .u64),(.int .u64)] τ5),oD 21 (.loadN [.bool,(.int .u64),(.int .u64)] τ6),oM 22 Xda,oD 23 (.callF 180 [Xfv,XfM,(.const (.int .i64 17)),XfP]),oM 11 XfO]) (.seq (.block 0 (.seq (.reg [oD 25 (.fieldA 0 τ4),oD 26 (.load1 (.int .i64) Xgz),oD 27 (.callF 200 [XgE]),oD 28 (.not XgH),oM 29 XgC,oG 30 (.fieldA 1 τ4) 29 false,oG 31 (.load1 (.int .i64) XgR) 29 false,oG 32 (.callF 200 [Xg7]) 29 false,oG 33 (.not Xhp) 29 false,oD 34 (.pick XgF (.const (.bool true)) Xhr),oM 35 Xhu,oG 36 (.mv Xc8) 35 false,oG 37 (.bin .eql Xie (.const (.string ⟨⟨[]⟩⟩))) 35 false,oD 38 (.pick XhG (.const (.bool true)) Xib),oM 24 XiB]) (.cond Xgb (.seq (.reg [oD 8 (.mv (.const (.string ⟨⟨[]⟩⟩))),oD 9 (.mv (.const (.int .i64 1)))]) .ret) (.seq (.reg [oM 40 Xda,oD 41 (.bin .gtr Xjr (.const (.int .i64 65535))),oM 39 XjD]) (.cond Xjc (.seq (.reg [oD 8 (.mv (.const (.string ⟨⟨[]⟩⟩))),oD 9 (.mv (.const (.int .i64 5)))]) .ret) .skip))))) (.seq (.reg [oD 12 (.allocB 171 5)]) (.seq (.seq (.reg [oD 42 (.fieldA 0 τ4),oD 43 (.load1 (.int .i64) Xje),oD 44 (.fieldA 1 τ4),oD 45 (.load1 (.int .i64) Xkm),oM 46 Xda,oD 47 (.build [(.int .i64 0),(.int .i64 0),(.int .i64 0),(.int .i64 0)] [(0,1,Xjs),(1,1,Xkl),(2,1,XkD),(3,1,(.const (.int .i64 0)))]),oD 48 (.mv (.const (.int .i64 0)))]) (.block 1 (.loop XtP))) XxO)))))
def XVp:VFn:=⟨69,XBa,[.tmp 8,.tmp 9]⟩
def XJM:VC:=.seq (.reg [oD 2 (.mv (.const (.bool false)))]) (.seq (.reg [oM 3 τ0,oD 4 (.bin .leq (.const (.int .i64 0)) τ3),oM 5 τ4,oG 6 (.mv τ0) 5 true,oG 7 (.bin .leq τ6 (.const (.int .i64 65535))) 5 true,oD 8 (.pick τ5 τ7 (.const (.bool false))),oM 2 τ8]) .ret)
def XSX:VFn:=⟨9,XJM,[.tmp 2]⟩
def XUX:VC:=.regD [oM 8 τ0,oD 9 (.nilCheck τ8),oD 10 (.fieldA 0 τ9),oD 11 (.loadN [(.int .i64),.bool,(.int .u64),(.int .u64),.bool,(.int .u64),(.int .u64),(.int .i64),(.int .i64)] Xda),oM 12 τ0,oD 13 (.nilCheck XdK),oD 14 (.fieldA 14 Xef),oD 15 (.load1 .str XeN),oM 16 τ2,oD 17 (.build [(.bool false),(.int .i64 0),(.int .u32 0),(.string ⟨⟨[]⟩⟩),(.string ⟨⟨[]⟩⟩),(.string ⟨⟨[]⟩⟩)] [(3,1,XeG),(5,1,XeW)]),oD 18 (.callF 123 [Xc8,XeI]),oE 19 0 Xfg,oE 20 1 Xfg] [] [oM 6 Xe5,oM 7 Xfv]
def XIz:VC:=.seq (.reg [oD 6 (.mv (.const (.string ⟨⟨[]⟩⟩))),oD 7 (.mv (.const (.int .i64 0)))]) (.seq XUX .ret)
def XW9:VFn:=⟨21,XIz,[.tmp 6,.tmp 7]⟩
def XJB:VC:=.seq (.reg [oD 5 (.box τ2)]) (.seq (.reg [oM 12 τ1,oD 13 (.callF 93 [XdK]),oM 11 Xef,oE 14 0 Xc8,oE 15 1 Xc8,oE 16 2 Xc8,oM 6 XeN,oM 7 XeG,oM 8 XeW]) (.seq (.reg [oM 18 τ1,oM 19 τ7,oD 20 (.sliceS Xfg (some Xe5) none),oD 21 (.callF 94 [Xfv]),oM 17 XfM,oE 22 0 XeI,oE 23 1 XeI,oD 9 (.alloc [(.bool false),(.int .i64 0),(.int .u32 0),(.string ⟨⟨[]⟩⟩),(.string ⟨⟨[]⟩⟩),(.string ⟨⟨[]⟩⟩)]),oN (.store 6 τ9 XfP),oM 10 XfO]) (.seq (.reg [oM 24 Xda,oD 25 (.bin .eql Xgb (.const (.int .i64 0))),oM 26 Xgz,oG 27 (.fieldA 0 τ9) 26 true,oG 28 (.load1 .bool XgH) 26 true,oD 29 (.pick XgE XgC (.const (.bool false))),oM 30 XgF,oG 31 (.fieldA 4 τ9) 30 true,oG 32 (.load1 .str Xg7) 30 true,oG 33 (.lenS Xhp) 30 true,oG 34 (.bin .eql Xhr (.const (.int .i64 8))) 30 true,oD 35 (.pick XgR Xhu (.const (.bool false)))]) (.cond XhG (.reg [oM 36 τ0,oD 37 (.fieldA 4 τ9),oD 38 (.load1 .str Xib),oD 39 (.nilCheck Xie),oD 40 (.fieldA 14 Xjc),oN (.store 1 Xjr XiB)]) .skip))))
def XUb:VFn:=⟨41,XJB,[]⟩
def XIc:VC:=.seq (.reg [oD 2 (.mv (.const (.int .i64 0))),oD 3 (.mv (.const (.int .i64 0))),oD 4 (.mv (.const (.int .i64 0)))]) (.seq (.reg [oM 10 τ0,oD 11 (.callF 81 [Xda]),oM 9 Xc8,oE 12 0 τ9,oE 13 1 τ9,oE 14 2 τ9,oE 15 3 τ9,oD 5 (.alloc [(.int .i64 0),(.bool false),(.int .u64 0),(.int .u64 0),(.bool false),(.int .u64 0),(.int .u64 0),(.int .i64 0),(.int .i64 0),(.int .i64 0),(.bool false),(.int .u32 0),(.int .u32 0),(.bool false),(.string ⟨⟨[]⟩⟩),(.int .i64 0)]),oN (.store 16 τ5 XdK),oM 6 Xef,oM 7 XeN,oM 8 XeG]) (.seq (.seq (.reg [oM 16 τ8,oD 17 (.bin .neq XeW (.const (.int .i64 0)))]) (.cond XeI (.seq (.reg [oM 18 τ8,oD 2 (.mv (.const (.int .i64 0))),oD 3 (.mv (.const (.int .i64 0))),oM 4 Xfg]) .ret) .skip)) (.seq (.reg [oM 19 τ0,oD 20 (.lenS Xe5),oM 21 τ6,oD 22 (.bin .sub Xfv XfM),oM 23 τ0,oD 24 (.lenS XfO),oM 25 τ7,oD 26 (.bin .sub Xgb Xgz),oM 2 XfP,oM 3 XgE,oD 4 (.mv (.const (.int .i64 0)))]) .ret)))
def fn93:VFn:=⟨27,XIc,[.tmp 2,.tmp 3,.tmp 4]⟩
def XRJ:VC:=.regD [oD 58 (.loadN [(.int .i64),.bool,(.int .u64),(.int .u64),.bool,(.int .u64),(.int .u64),(.int .i64),(.int .i64),(.int .i64),.bool,(.int .u32),(.int .u32),.bool,.str,(.int .i64)] τ8),oD 59 (.fieldA 7 τ6),oD 60 (.load1 .str Xno),oD 61 (.lenS Xoi),oM 62 τ9,oN (.store 16 τ2 XmU),oM 3 Xoj] [(2,5)] [oM 4 XoS,oD 5 (.mv (.const (.int .i64 0)))]
def XH2:VC:=.seq (.reg [oD 2 (.alloc [(.int .i64 0),(.bool false),(.int .u64 0),(.int .u64 0),(.bool false),(.int .u64 0),(.int .u64 0),(.int .i64 0),(.int .i64 0),(.int .i64 0),(.bool false),(.int .u32 0),(.int .u32 0),(.bool false),(.string ⟨⟨[]⟩⟩),(.int .i64 0)]),oD 3 (.mv (.const (.int .i64 0))),oD 4 (.mv (.const (.int .i64 0))),oD 5 (.mv (.const (.int .i64 0)))]) (.seq (.block 0 (.seq (.reg [oM 11 τ0,oD 12 (.lenS Xc8),oD 13 (.bin .gtr XdK (.const (.int .i64 9000))),oM 10 Xef]) (.cond Xda (.seq (.reg [oD 14 (.build [(.int .i64 0),(.bool false),(.int .u64 0),(.int .u64 0),(.bool false),(.int .u64 0),(.int .u64 0),(.int .i64 0),(.int .i64 0),(.int .i64 0),(.bool false),(.int .u32 0),(.int .u32 0),(.bool false),(.string ⟨⟨[]⟩⟩),(.int .i64 0)] []),oN (.store 16 τ2 XeN),oD 3 (.mv (.const (.int .i64 0))),oD 4 (.mv (.const (.int .i64 0))),oD 5 (.mv (.const (.int .i64 5)))]) .ret) (.seq (.reg [oM 16 τ0,oD 17 (.bin .eql XeW (.const (.string ⟨⟨[]⟩⟩))),oM 15 XeI]) (.cond XeG (.seq (.reg [oD 18 (.build [(.int .i64 0),(.bool false),(.int .u64 0),(.int .u64 0),(.bool false),(.int .u64 0),(.int .u64 0),(.int .i64 0),(.int .i64 0),(.int .i64 0),(.bool false),(.int .u32 0),(.int .u32 0),(.bool false),(.string ⟨⟨[]⟩⟩),(.int .i64 0)] []),oN (.store 16 τ2 Xfg),oD 3 (.mv (.const (.int .i64 0))),oD 4 (.mv (.const (.int .i64 0))),oD 5 (.mv (.const (.int .i64 2)))]) .ret) .skip))))) (.seq (.reg [oM 20 τ0,oD 21 (.callF 131 [Xfv]),oM 19 XfM,oE 22 0 Xe5,oE 23 1 Xe5,oD 6 (.alloc [(.bool false),(.int .u64 0),(.int .u64 0),(.bool false),(.int .u64 0),(.int .u64 0),(.int .i64 0),(.string ⟨⟨[]⟩⟩)]),oN (.store 8 τ6 XfP),oM 7 XfO]) (.seq (.seq (.reg [oM 24 τ7,oD 25 (.bin .neq Xgb (.const (.int .i64 0)))]) (.cond Xgz (.seq (.reg [oD 26 (.build [(.int .i64 0),(.bool false),(.int .u64 0),(.int .u64 0),(.bool false),(.int .u64 0),(.int .u64 0),(.int .i64 0),(.int .i64 0),(.int .i64 0),(.bool false),(.int .u32 0),(.int .u32 0),(.bool false),(.string ⟨⟨[]⟩⟩),(.int .i64 0)] []),oM 27 τ7,oN (.store 16 τ2 XgE),oD 3 (.mv (.const (.int .i64 0))),oD 4 (.mv (.const (.int .i64 0))),oM 5 XgH]) .ret) .skip)) (.seq (.reg [oM 28 τ0,oD 29 (.lenS XgC),oD 30 (.fieldA 6 τ6),oD 31 (.load1 (.int .i64) XgR),oD 32 (.fieldA 0 τ6),oD 33 (.loadN [.bool,(.int .u64),(.int .u64)] Xhp),oD 34 (.fieldA 3 τ6),oD 35 (.loadN [.bool,(.int .u64),(.int .u64)] Xhu),oD 36 (.build [(.int .i64 0),(.bool false),(.int .u64 0),(.int .u64 0),(.bool false),(.int .u64 0),(.int .u64 0),(.int .i64 0),(.int .i64 0)] [(0,1,Xg7),(1,3,Xhr),(4,3,XhG)]),oD 37 (.build [(.int .i64 0),(.bool false),(.int .u64 0),(.int .u64 0),(.bool false),(.int .u64 0),(.int .u64 0),(.int .i64 0),(.int .i64 0),(.int .i64 0),(.bool false),(.int .u32 0),(.int .u32 0),(.bool false),(.string ⟨⟨[]⟩⟩),(.int .i64 0)] [(15,1,XgF),(0,9,Xie)]),oD 8 (.alloc [(.int .i64 0),(.bool false),(.int .u64 0),(.int .u64 0),(.bool false),(.int .u64 0),(.int .u64 0),(.int .i64 0),(.int .i64 0),(.int .i64 0),(.bool false),(.int .u32 0),(.int .u32 0),(.bool false),(.string ⟨⟨[]⟩⟩),(.int .i64 0)]),oN (.store 16 τ8 Xib)]) (.seq (.reg [oD 9 (.mv (.const (.int .i64 0)))]) (.seq (.seq (.reg [oD 38 (.fieldA 6 τ6),oD 39 (.load1 (.int .i64) XiB)]) (.block 1 (.seq (.reg [oD 41 (.bin .eql Xjc (.const (.int .i64 6))),oM 40 XjD]) (.cond Xjr (.reg [oD 43 (.loadN [.bool,(.int .u64),(.int .u64),.bool,(.int .u64),(.int .u64),(.int .i64),.str] τ6),oD 44 (.callF 132 [Xjs,τ8]),oM 42 Xkm,oE 45 0 Xje,oE 46 1 Xje,oM 9 Xkl,oM 7 XkD]) (.seq (.reg [oD 48 (.bin .eql Xjc (.const (.int .i64 17))),oM 47 XkB]) (.cond XkC (.reg [oD 50 (.loadN [.bool,(.int .u64),(.int .u64),.bool,(.int .u64),(.int .u64),(.int .i64),.str] τ6),oD 51 (.callF 133 [Xlj,τ8]),oM 49 Xlr,oE 52 0 XkA,oE 53 1 XkA,oM 9 Xls,oM 7 XmB]) (.reg [oD 7 (.mv (.const (.int .i64 6)))]))))))) (.seq (.seq (.reg [oM 54 τ7,oD 55 (.bin .neq Xne (.const (.int .i64 0)))]) (.cond XmO (.seq (.reg [oD 56 (.build [(.int .i64 0),(.bool false),(.int .u64 0),(.int .u64 0),(.bool false),(.int .u64 0),(.int .u64 0),(.int .i64 0),(.int .i64 0),(.int .i64 0),(.bool false),(.int .u32 0),(.int .u32 0),(.bool false),(.string ⟨⟨[]⟩⟩),(.int .i64 0)] []),oM 57 τ7,oN (.store 16 τ2 Xnd),oD 3 (.mv (.const (.int .i64 0))),oD 4 (.mv (.const (.int .i64 0))),oM 5 XmT]) .ret) .skip)) (.seq XRJ .ret))))))))
def fn81:VFn:=⟨63,XH2,[.cell 2 [(.int .i64),.bool,(.int .u64),(.int .u64),.bool,(.int .u64),(.int .u64),(.int .i64),(.int .i64),(.int .i64),.bool,(.int .u32),(.int .u32),.bool,.str,(.int .i64)] true,.tmp 3,.tmp 4,.tmp 5]⟩
def XAL:VC:=.seq (.reg [oD 2 (.alloc [(.bool false),(.int .u64 0),(.int .u64 0),(.bool false),(.int .u64 0),(.int .u64 0),(.int .i64 0),(.string ⟨⟨[]⟩⟩)]),oD 3 (.mv (.const (.int .i64 0)))]) (.seq (.reg [oM 10 τ0,oD 11 (.callF 166 [Xda]),oM 9 Xc8,oE 12 0 τ9,oE 13 1 τ9,oE 14 2 τ9,oM 4 XdK,oM 5 Xef,oM 6 XeN]) (.seq (.seq (.reg [oM 15 τ6,oD 16 (.bin .neq XeG (.const (.int .i64 0)))]) (.cond XeW (.seq (.reg [oD 17 (.build [(.bool false),(.int .u64 0),(.int .u64 0),(.bool false),(.int .u64 0),(.int .u64 0),(.int .i64 0),(.string ⟨⟨[]⟩⟩)] []),oM 18 τ6,oN (.store 8 τ2 XeI),oM 3 Xfg]) .ret) .skip)) (.seq (.seq (.reg [oM 19 τ4]) (.block 0 (.seq (.reg [oD 20 (.tassert 227 (.agg ⟨[(.int .i64 0),(.int .i64 0),(.bool false),(.int .i64 0),(.int .i64 0),(.bool false),(.int .u64 0),(.int .u64 0),(.bool false),(.int .u64 0),(.int .u64 0),(.string ⟨⟨[]⟩⟩)]⟩) Xe5),oE 21 1 Xfv,oE 22 0 Xfv]) (.cond XfM (.seq (.reg [oD 7 (.alloc [(.int .i64 0),(.int .i64 0),(.bool false),(.int .i64 0),(.int .i64 0),(.bool false),(.int .u64 0),(.int .u64 0),(.bool false),(.int .u64 0),(.int .u64 0),(.string ⟨⟨[]⟩⟩)]),oN (.store 12 τ7 XfP)]) (.seq (.seq (.reg [oM 23 τ0,oD 24 (.lenS XfO),oD 25 (.fieldA 11 τ7),oD 26 (.load1 .str Xgz),oD 27 (.lenS XgE),oD 28 (.bin .add (.const (.int .i64 20)) XgH),oM 29 τ5,oD 30 (.lenS XgF),oD 31 (.bin .add XgC XgR),oD 32 (.bin .neq Xgb Xg7)]) (.cond Xhp (.seq (.reg [oD 33 (.build [(.bool false),(.int .u64 0),(.int .u64 0),(.bool false),(.int .u64 0),(.int .u64 0),(.int .i64 0),(.string ⟨⟨[]⟩⟩)] []),oN (.store 8 τ2 Xhr),oD 3 (.mv (.const (.int .i64 5)))]) .ret) .skip)) (.seq (.reg [oD 34 (.fieldA 5 τ7),oD 35 (.loadN [.bool,(.int .u64),(.int .u64)] Xhu),oD 36 (.fieldA 8 τ7),oD 37 (.loadN [.bool,(.int .u64),(.int .u64)] Xie),oD 38 (.fieldA 4 τ7),oD 39 (.load1 (.int .i64) XiB),oM 40 τ5,oD 41 (.build [(.bool false),(.int .u64 0),(.int .u64 0),(.bool false),(.int .u64 0),(.int .u64 0),(.int .i64 0),(.string ⟨⟨[]⟩⟩)] [(0,3,XhG),(3,3,Xib),(6,1,Xjc),(7,1,Xjr)]),oN (.store 8 τ2 XjD),oD 3 (.mv (.const (.int .i64 0)))]) .ret))) (.seq (.reg [oD 42 (.tassert 228 (.agg ⟨[(.int .i64 0),(.int .i64 0),(.int .i64 0),(.int .i64 0),(.bool false),(.int .u64 0),(.int .u64 0),(.bool false),(.int .u64 0),(.int .u64 0)]⟩) Xe5),oE 43 1 Xje,oE 44 0 Xje]) (.cond Xjs (.seq (.reg [oD 8 (.alloc [(.int .i64 0),(.int .i64 0),(.int .i64 0),(.int .i64 0),(.bool false),(.int .u64 0),(.int .u64 0),(.bool false),(.int .u64 0),(.int .u64 0)]),oN (.store 10 τ8 Xkm)]) (.seq (.seq (.reg [oM 45 τ0,oD 46 (.lenS Xkl),oM 47 τ5,oD 48 (.lenS XkC),oD 49 (.bin .add (.const (.int .i64 40)) XkB),oD 50 (.bin .neq XkD XkA)]) (.cond Xlj (.seq (.reg [oD 51 (.build [(.bool false),(.int .u64 0),(.int .u64 0),(.bool false),(.int .u64 0),(.int .u64 0),(.int .i64 0),(.string ⟨⟨[]⟩⟩)] []),oN (.store 8 τ2 Xlr),oD 3 (.mv (.const (.int .i64 5)))]) .ret) .skip)) (.seq (.reg [oD 52 (.fieldA 4 τ8),oD 53 (.loadN [.bool,(.int .u64),(.int .u64)] Xls),oD 54 (.fieldA 7 τ8),oD 55 (.loadN [.bool,(.int .u64),(.int .u64)] Xne),oD 56 (.fieldA 2 τ8),oD 57 (.load1 (.int .i64) Xnd),oM 58 τ5,oD 59 (.build [(.bool false),(.int .u64 0),(.int .u64 0),(.bool false),(.int .u64 0),(.int .u64 0),(.int .i64 0),(.string ⟨⟨[]⟩⟩)] [(0,3,XmB),(3,3,XmO),(6,1,XmT),(7,1,XmU)]),oN (.store 8 τ2 Xno),oD 3 (.mv (.const (.int .i64 0)))]) .ret))) .skip)))))) (.seq (.reg [oD 60 (.build [(.bool false),(.int .u64 0),(.int .u64 0),(.bool false),(.int .u64 0),(.int .u64 0),(.int .i64 0),(.string ⟨⟨[]⟩⟩)] []),oN (.store 8 τ2 Xoi),oD 3 (.mv (.const (.int .i64 3)))]) .ret))))
def XSp:VFn:=⟨61,XAL,[.cell 2 [.bool,(.int .u64),(.int .u64),.bool,(.int .u64),(.int .u64),(.int .i64),.str] true,.tmp 3]⟩
def XL1:VC:=.seq (.reg [oM 2 (.const .nilIface),oD 3 (.mv (.const (.string ⟨⟨[]⟩⟩))),oD 4 (.mv (.const (.int .i64 0)))]) (.seq (.seq (.reg [oM 11 τ0,oD 12 (.idxS Xc8 (.const (.int .i64 0))),oD 13 (.bin .shr XdK (.const (.int .u64 4)))]) (.block 0 (.seq (.reg [oD 15 (.bin .eql Xef (.const (.int .u8 4))),oM 14 XeG]) (.cond XeN (.seq (.reg [oM 17 τ0,oD 18 (.callF 190 [XeI]),oM 16 Xfg,oE 19 0 XeW,oE 20 1 XeW,oE 21 2 XeW,oD 5 (.alloc [(.int .i64 0),(.int .i64 0),(.bool false),(.int .i64 0),(.int .i64 0),(.bool false),(.int .u64 0),(.int .u64 0),(.bool false),(.int .u64 0),(.int .u64 0),(.string ⟨⟨[]⟩⟩)]),oN (.store 12 τ5 Xe5),oM 6 Xfv,oM 7 XfM]) (.seq (.reg [oD 22 (.loadN [(.int .i64),(.int .i64),.bool,(.int .i64),(.int .i64),.bool,(.int .u64),(.int .u64),.bool,(.int .u64),(.int .u64),.str] τ5),oD 23 (.iface 227 XfP),oM 24 τ6,oM 25 τ7,oM 2 XfO,oM 3 Xgb,oM 4 Xgz]) .ret)) (.seq (.reg [oD 27 (.bin .eql Xef (.const (.int .u8 6))),oM 26 XgH]) (.cond XgE (.seq (.reg [oM 29 τ0,oD 30 (.callF 191 [XgF]),oM 28 XgR,oE 31 0 XgC,oE 32 1 XgC,oE 33 2 XgC,oD 8 (.alloc [(.int .i64 0),(.int .i64 0),(.int .i64 0),(.int .i64 0),(.bool false),(.int .u64 0),(.int .u64 0),(.bool false),(.int .u64 0),(.int .u64 0)]),oN (.store 10 τ8 Xg7),oM 9 Xhp,oM 10 Xhr]) (.seq (.reg [oD 34 (.loadN [(.int .i64),(.int .i64),(.int .i64),(.int .i64),.bool,(.int .u64),(.int .u64),.bool,(.int .u64),(.int .u64)] τ8),oD 35 (.iface 228 Xhu),oM 36 τ9,oM 37 Xda,oM 2 XhG,oM 3 Xie,oM 4 Xib]) .ret)) .skip)))))) (.seq (.reg [oM 2 (.const .nilIface),oD 3 (.mv (.const (.string ⟨⟨[]⟩⟩))),oD 4 (.mv (.const (.int .i64 3)))]) .ret))
def XRC:VFn:=⟨38,XL1,[.tmp 2,.tmp 3,.tmp 4]⟩
def XJ1:VC:=.regD [oD 72 (.fieldA 0 τ5),oD 73 (.load1 .oth Xsm),oD 74 (.callF 78 [XtH,(.const (.int .i64 1))]),oD 75 (.fieldA 0 τ5),oD 76 (.load1 .oth XuX),oD 77 (.callF 78 [Xxj,(.const (.int .i64 1))]),oD 78 (.fieldA 3 τ7)] [(2,4)] [oN (.store 1 Xxb Xvj),oD 79 (.fieldA 4 τ7),oN (.store 1 XxT Xw9)]
def XPU:VC:=.regD [oD 83 (.loadN [.oth] τ5),oD 84 (.callF 201 [XBM]),oD 85 (.loadN [.oth] τ5),oD 86 (.callF 201 [XHN]),oD 87 (.fieldA 5 τ7)] [(1,2)] [oN (.store 3 XNn XJi),oD 88 (.fieldA 8 τ7),oN (.store 3 XJ3 XOQ)]
def XPd:VC:=.regD [oD 95 (.loadN [(.int .i64),(.int .i64),.bool,(.int .i64),(.int .i64),.bool,(.int .u64),(.int .u64),.bool,(.int .u64),(.int .u64),.str] τ7),oD 96 (.fieldA 0 τ5),oD 97 (.load1 .oth XK5),oM 98 τ9,oM 99 τ8,oD 100 (.bin .sub XQG XQI),oD 101 (.callF 129 [XJu,XwV])] [(0,6)] [oN (.store 12 τ2 XPx),oM 3 Xwp,oD 4 (.mv (.const (.int .i64 0)))]
def XyJ:VC:=.seq (.reg [oD 2 (.alloc [(.int .i64 0),(.int .i64 0),(.bool false),(.int .i64 0),(.int .i64 0),(.bool false),(.int .u64 0),(.int .u64 0),(.bool false),(.int .u64 0),(.int .u64 0),(.string ⟨⟨[]⟩⟩)]),oD 3 (.mv (.const (.string ⟨⟨[]⟩⟩))),oD 4 (.mv (.const (.int .i64 0)))]) (.seq (.seq (.reg [oM 11 τ0,oD 12 (.lenS Xc8),oD 13 (.bin .lss XdK (.const (.int .i64 20)))]) (.cond Xef (.seq (.reg [oD 14 (.build [(.int .i64 0),(.int .i64 0),(.bool false),(.int .i64 0),(.int .i64 0),(.bool false),(.int .u64 0),(.int .u64 0),(.bool false),(.int .u64 0),(.int .u64 0),(.string ⟨⟨[]⟩⟩)] []),oN (.store 12 τ2 XeN),oD 3 (.mv (.const (.string ⟨⟨[]⟩⟩))),oD 4 (.mv (.const (.int .i64 2)))]) .ret) .skip)) (.seq (.reg [oM 15 τ0,oD 16 (.callF 77 [XeG]),oD 17 (.build [(.pointer none)] [(0,1,XeW)]),oD 5 (.alloc [(.pointer none)]),oN (.store 1 τ5 XeI)]) (.seq (.reg [oD 18 (.fieldA 0 τ5),oD 19 (.load1 .oth Xfg),oD 20 (.callF 78 [Xe5,(.const (.int .i64 1))]),oM 6 Xfv]) (.seq (.reg [oD 21 (.fieldA 0 τ5),oD 22 (.load1 .oth XfM),oD 23 (.callF 78 [XfP,(.const (.int .i64 1))]),oD 24 (.build [(.int .i64 0),(.int .i64 0),(.bool false),(.int .i64 0),(.int .i64 0),(.bool false),(.int .u64 0),(.int .u64 0),(.bool false),(.int .u64 0),(.int .u64 0),(.string ⟨⟨[]⟩⟩)] [(0,1,XfO)]),oD 7 (.alloc [(.int .i64 0),(.int .i64 0),(.bool false),(.int .i64 0),(.int .i64 0),(.bool false),(.int .u64 0),(.int .u64 0),(.bool false),(.int .u64 0),(.int .u64 0),(.string ⟨⟨[]⟩⟩)]),oN (.store 12 τ7 Xgb)]) (.seq (.reg [oM 25 τ6,oD 26 (.bin .and Xgz (.const (.int .i64 15))),oD 27 (.bin .mul XgE (.const (.int .i64 4))),oD 28 (.fieldA 0 τ5),oD 29 (.load1 .oth XgC),oD 30 (.callF 78 [XgF,(.const (.int .i64 2))]),oM 8 XgH,oM 9 XgR]) (.seq (.block 0 (.seq (.reg [oM 32 τ6,oD 33 (.bin .shr Xhp (.const (.int .u64 4))),oD 34 (.bin .neq Xhr (.const (.int .i64 4))),oM 35 Xhu,oG 36 (.mv τ8) 35 false,oG 37 (.bin .lss Xie (.const (.int .i64 20))) 35 false,oD 38 (.pick XhG (.const (.bool true)) Xib),oM 39 XiB,oG 40 (.mv τ9) 39 false,oG 41 (.mv τ8) 39 false,oG 42 (.bin .lss Xjr XjD) 39 false,oD 43 (.pick Xjc (.const (.bool true)) Xje),oM 31 Xjs]) (.cond Xg7 (.seq (.reg [oD 44 (.build [(.int .i64 0),(.int .i64 0),(.bool false),(.int .i64 0),(.int .i64 0),(.bool false),(.int .u64 0),(.int .u64 0),(.bool false),(.int .u64 0),(.int .u64 0),(.string ⟨⟨[]⟩⟩)] []),oN (.store 12 τ2 Xkm),oD 3 (.mv (.const (.string ⟨⟨[]⟩⟩))),oD 4 (.mv (.const (.int .i64 3)))]) .ret) (.seq (.reg [oM 46 τ9,oM 47 τ0,oD 48 (.lenS XkC),oD 49 (.bin .gtr XkD XkB),oM 45 XkA]) (.cond Xkl (.seq (.reg [oD 50 (.build [(.int .i64 0),(.int .i64 0),(.bool false),(.int .i64 0),(.int .i64 0),(.bool false),(.int .u64 0),(.int .u64 0),(.bool false),(.int .u64 0),(.int .u64 0),(.string ⟨⟨[]⟩⟩)] []),oN (.store 12 τ2 Xlj),oD 3 (.mv (.const (.string ⟨⟨[]⟩⟩))),oD 4 (.mv (.const (.int .i64 2)))]) .ret) (.seq (.reg [oM 52 τ0,oM 53 τ8,oD 54 (.sliceS Xls none (some XmB)),oD 55 (.callF 80 [Xne]),oD 56 (.not XmO),oM 51 Xnd]) (.cond Xlr (.seq (.reg [oD 57 (.build [(.int .i64 0),(.int .i64 0),(.bool false),(.int .i64 0),(.int .i64 0),(.bool false),(.int .u64 0),(.int .u64 0),(.bool false),(.int .u64 0),(.int .u64 0),(.string ⟨⟨[]⟩⟩)] []),oN (.store 12 τ2 XmT),oD 3 (.mv (.const (.string ⟨⟨[]⟩⟩))),oD 4 (.mv (.const (.int .i64 4)))]) .ret) .skip))))))) (.seq (.reg [oD 58 (.fieldA 0 τ5),oD 59 (.load1 .oth XmU),oD 60 (.callF 78 [Xno,(.const (.int .i64 2))]),oD 61 (.fieldA 1 τ7),oN (.store 1 Xoj Xoi)]) (.seq (.reg [oD 62 (.fieldA 0 τ5),oD 63 (.load1 .oth XoS),oD 64 (.callF 78 [Xqq,(.const (.int .i64 2))]),oM 10 Xqr]) (.seq (.seq (.reg [oM 65 Xda,oD 66 (.bin .andNot Xrb (.const (.int .i64 16384))),oD 67 (.bin .neq XqE (.const (.int .i64 0)))]) (.cond Xqu (.seq (.reg [oD 68 (.build [(.int .i64 0),(.int .i64 0),(.bool false),(.int .i64 0),(.int .i64 0),(.bool false),(.int .u64 0),(.int .u64 0),(.bool false),(.int .u64 0),(.int .u64 0),(.string ⟨⟨[]⟩⟩)] []),oN (.store 12 τ2 XqA),oD 3 (.mv (.const (.string ⟨⟨[]⟩⟩))),oD 4 (.mv (.const (.int .i64 7)))]) .ret) .skip)) (.seq (.reg [oM 69 Xda,oD 70 (.bin .neq Xr8 (.const (.int .i64 0))),oD 71 (.fieldA 2 τ7),oN (.store 1 Xsq Xsr)]) (.seq XJ1 (.seq (.reg [oD 80 (.fieldA 0 τ5),oD 81 (.load1 .oth XxY),oD 82 (.callF 78 [XBS,(.const (.int .i64 2))])]) (.seq XPU (.seq (.reg [oD 89 (.fieldA 0 τ5),oD 90 (.load1 .oth XKO),oM 91 τ8,oD 92 (.bin .sub XOi (.const (.int .i64 20))),oD 93 (.callF 129 [XPK,XMJ]),oD 94 (.fieldA 11 τ7),oN (.store 1 XQv XPY)]) (.seq XPd .ret)))))))))))))))
def XTw:VFn:=⟨102,XyJ,[.cell 2 [(.int .i64),(.int .i64),.bool,(.int .i64),(.int .i64),.bool,(.int .u64),(.int .u64),.bool,(.int .u64),(.int .u64),.str] true,.tmp 3,.tmp 4]⟩
def XTX:VC:=.seq (.reg [oD 2 (.mv (.const (.pointer none)))]) (.seq (.reg [oM 3 τ0,oD 4 (.build [(.string ⟨⟨[]⟩⟩),(.bool false),(.bool false)] [(0,1,τ3),(1,1,(.const (.bool true)))]),oD 5 (.box τ4),oM 2 τ5]) .ret)
def fn77:VFn:=⟨6,XTX,[.tmp 2]⟩
def XIj:VC:=.seq (.reg [oD 4 (.mv (.const (.int .i64 0)))]) (.seq (.seq (.reg [oM 7 τ1,oD 8 (.bin .lss τ7 (.const (.int .i64 1))),oM 9 τ8,oG 10 (.mv τ1) 9 false,oG 11 (.bin .gtr Xda (.const (.int .i64 7))) 9 false,oD 12 (.pick τ9 (.const (.bool true)) Xc8)]) (.cond XdK (.reg [oD 1 (.mv (.const (.int .i64 (-1))))]) .skip)) (.seq (.reg [oM 14 τ0,oM 15 τ1,oD 16 (.callF 129 [XeN,XeG]),oM 17 τ1,oD 18 (.callF 95 [XeW,(.const (.int .i64 0)),XeI]),oM 13 Xfg,oE 19 0 Xef,oE 20 1 Xef,oM 5 Xe5,oM 6 Xfv]) (.seq (.reg [oM 21 τ5,oD 22 (.conv .i64 XfM),oM 4 XfP]) .ret)))
def fn78:VFn:=⟨23,XIj,[.tmp 4]⟩
def XxJ:VC:=.seq (.reg [oD 4 (.mv (.const (.string ⟨⟨[]⟩⟩)))]) (.seq (.seq (.reg [oM 6 τ0,oD 7 (.callF 138 [τ6])]) (.cond τ7 (.seq (.reg [oD 4 (.mv (.const (.string ⟨⟨[]⟩⟩)))]) .ret) .skip)) (.seq (.seq (.reg [oM 8 τ1,oD 9 (.bin .lss τ8 (.const (.int .i64 0))),oM 10 τ9,oG 11 (.mv τ1) 10 false,oG 12 (.mv τ0) 10 false,oG 13 (.nilCheck XdK) 10 false,oG 14 (.fieldA 0 Xef) 10 false,oG 15 (.load1 .str XeN) 10 false,oG 16 (.lenS XeG) 10 false,oG 17 (.bin .gtr Xc8 XeW) 10 false,oD 18 (.pick Xda (.const (.bool true)) XeI)]) (.cond Xfg (.seq (.reg [oM 19 τ0,oD 20 (.nilCheck Xe5),oD 21 (.fieldA 2 Xfv),oN (.store 1 XfM (.const (.bool true)))]) (.seq (.reg [oD 4 (.mv (.const (.string ⟨⟨[]⟩⟩)))]) .ret)) .skip)) (.seq (.reg [oM 22 τ0,oD 23 (.nilCheck XfP),oD 24 (.fieldA 0 XfO),oD 25 (.load1 .str Xgb),oM 26 τ1,oD 27 (.sliceS Xgz none (some XgE)),oM 5 XgH]) (.seq (.reg [oM 28 τ0,oM 29 τ0,oD 30 (.nilCheck XgF),oD 31 (.fieldA 0 XgR),oD 32 (.load1 .str Xg7),oM 33 τ1,oD 34 (.sliceS Xhp (some Xhr) none),oD 35 (.nilCheck XgC),oD 36 (.fieldA 0 XhG),oN (.store 1 Xie Xhu)]) (.seq (.reg [oM 37 τ5,oM 4 Xib]) .ret)))))
def XRh:VFn:=⟨38,XxJ,[.tmp 4]⟩
def XH8:VC:=.seq (.reg [oD 2 (.mv (.const (.bool false)))]) (.seq (.reg [oM 3 τ0,oD 4 (.isNil 0 false τ3),oM 5 τ4,oG 6 (.mv τ0) 5 false,oG 7 (.nilCheck τ6) 5 false,oG 8 (.fieldA 1 τ7) 5 false,oG 9 (.load1 .bool τ8) 5 false,oG 10 (.not τ9) 5 false,oD 11 (.pick τ5 (.const (.bool true)) Xda),oM 12 Xc8,oG 13 (.mv τ0) 12 false,oG 14 (.nilCheck Xef) 12 false,oG 15 (.fieldA 2 XeN) 12 false,oG 16 (.load1 .bool XeG) 12 false,oD 17 (.pick XdK (.const (.bool true)) XeW),oM 2 XeI]) .ret)
def XT7:VFn:=⟨18,XH8,[.tmp 2]⟩
def Xzt:VC:=.seq (.reg [oD 38 (.bin .lss Xib Xie)]) (.seq (.cond XiB .skip (.exit 0)) (.seq (.block 1 (.seq (.reg [oD 39 (.idxAL 1 XhG Xib),oD 40 (.load1 (.int .u8) Xjc),oM 10 Xjr]) (.reg [oM 41 τ8,oD 42 (.bin .shl XjD (.const (.int .u64 8))),oM 43 Xda,oD 44 (.conv .u64 Xjs),oD 45 (.bin .or Xje Xkm),oM 8 Xkl]))) (.reg [oD 46 (.bin .add Xib (.const (.int .i64 1))),oM 37 XkD])))
def XH9:VC:=.seq (.reg [oM 47 τ8,oM 6 XkC,oD 7 (.mv (.const (.bool true)))]) .ret
def XHX:VC:=.seq (.reg [oD 6 (.mv (.const (.int .u64 0))),oD 7 (.mv (.const (.bool false)))]) (.seq (.seq (.reg [oM 11 τ2,oD 12 (.bin .lss Xc8 (.const (.int .i64 1))),oM 13 XdK,oG 14 (.mv τ2) 13 false,oG 15 (.bin .gtr XeN (.const (.int .i64 8))) 13 false,oD 16 (.pick Xef (.const (.bool true)) XeG),oM 17 XeW,oG 18 (.mv τ1) 17 false,oG 19 (.bin .lss Xfg (.const (.int .i64 0))) 17 false,oD 20 (.pick XeI (.const (.bool true)) Xe5),oM 21 Xfv,oG 22 (.mv τ0) 21 false,oG 23 (.lenS XfP) 21 false,oG 24 (.mv τ2) 21 false,oG 25 (.bin .sub XfO Xgb) 21 false,oG 26 (.mv τ1) 21 false,oG 27 (.bin .lss Xgz XgE) 21 false,oD 28 (.pick XfM (.const (.bool true)) XgH)]) (.cond XgC (.seq (.reg [oD 6 (.mv (.const (.int .u64 0))),oD 7 (.mv (.const (.bool false)))]) .ret) .skip)) (.seq (.reg [oD 8 (.mv (.const (.int .u64 0)))]) (.seq (.seq (.reg [oM 29 τ0,oM 30 τ1,oM 31 τ1,oM 32 τ2,oD 33 (.bin .add Xg7 Xhp),oD 34 (.sliceS XgF (some XgR) (some Xhr)),oD 35 (.s2b Xhu),oD 36 (.lenL XhG),oD 37 (.mv (.const (.int .i64 0)))]) (.block 0 (.loop Xzt))) XH9)))
def fn95:VFn:=⟨48,XHX,[.tmp 6,.tmp 7]⟩
def XRr:VC:=.seq (.reg [oD 2 (.mv (.const (.bool false)))]) (.seq (.reg [oM 3 τ0,oD 4 (.callF 130 [τ3]),oD 5 (.bin .eql τ4 (.const (.int .i64 65535))),oM 2 τ5]) .ret)
def fn80:VFn:=⟨6,XRr,[.tmp 2]⟩
def XH7:VC:=.seq (.reg [oD 1 (.box τ0),oD 2 (.alloc [(.bool false),(.int .u64 0),(.int .u64 0)])]) (.seq (.reg [oD 6 (.fieldA 0 τ1),oD 7 (.load1 .oth τ6),oD 8 (.callF 129 [τ7,(.const (.int .i64 4))]),oD 9 (.callF 202 [τ8]),oM 5 τ9,oE 10 0 τ5,oE 11 1 τ5,oD 3 (.alloc [(.bool false),(.int .u64 0),(.int .u64 0)]),oN (.store 3 τ3 Xda),oM 4 Xc8]) (.seq (.reg [oD 12 (.loadN [.bool,(.int .u64),(.int .u64)] τ3),oN (.store 3 τ2 XdK)]) .ret))
def XS3:VFn:=⟨13,XH7,[.cell 2 [.bool,(.int .u64),(.int .u64)] true]⟩
def XAf:VC:=.seq (.reg [oD 2 (.alloc [(.bool false),(.int .u64 0),(.int .u64 0)]),oD 3 (.mv (.const (.bool false)))]) (.seq (.seq (.reg [oM 7 τ0,oD 8 (.lenS τ7)]) (.block 0 (.seq (.reg [oD 10 (.bin .eql τ8 (.const (.int .i64 4))),oM 9 Xda]) (.cond τ9 (.seq (.reg [oM 12 τ0,oD 13 (.callF 95 [XdK,(.const (.int .i64 0)),(.const (.int .i64 4))]),oM 11 Xef,oE 14 0 Xc8,oE 15 1 Xc8,oM 4 XeN,oM 5 XeG]) (.seq (.reg [oM 16 τ4,oD 17 (.build [(.bool false),(.int .u64 0),(.int .u64 0)] [(2,1,XeW)]),oN (.store 3 τ2 XeI),oD 3 (.mv (.const (.bool true)))]) .ret)) (.seq (.reg [oD 19 (.bin .eql τ8 (.const (.int .i64 16))),oM 18 Xe5]) (.cond Xfg (.seq (.reg [oD 20 (.build [(.bool false),(.int .u64 0),(.int .u64 0)] [(0,1,(.const (.bool true)))]),oD 6 (.alloc [(.bool false),(.int .u64 0),(.int .u64 0)]),oN (.store 3 τ6 Xfv)]) (.seq (.reg [oM 22 τ0,oD 23 (.callF 95 [XfP,(.const (.int .i64 0)),(.const (.int .i64 8))]),oM 21 XfO,oE 24 0 XfM,oE 25 1 XfM,oD 26 (.fieldA 1 τ6),oN (.store 1 XgE Xgb)]) (.seq (.reg [oM 28 τ0,oD 29 (.callF 95 [XgC,(.const (.int .i64 8)),(.const (.int .i64 8))]),oM 27 XgF,oE 30 0 XgH,oE 31 1 XgH,oD 32 (.fieldA 2 τ6),oN (.store 1 Xhp XgR)]) (.seq (.reg [oD 33 (.loadN [.bool,(.int .u64),(.int .u64)] τ6),oN (.store 3 τ2 Xhr),oD 3 (.mv (.const (.bool true)))]) .ret)))) .skip)))))) (.seq (.reg [oD 34 (.build [(.bool false),(.int .u64 0),(.int .u64 0)] []),oN (.store 3 τ2 Xhu),oD 3 (.mv (.const (.bool false)))]) .ret))
def XRa:VFn:=⟨35,XAf,[.cell 2 [.bool,(.int .u64),(.int .u64)] true,.tmp 3]⟩
def XAq:VC:=.seq (.reg [oD 2 (.alloc [(.int .i64 0),(.int .i64 0),(.int .i64 0),(.int .i64 0),(.bool false),(.int .u64 0),(.int .u64 0),(.bool false),(.int .u64 0),(.int .u64 0)]),oD 3 (.mv (.const (.string ⟨⟨[]⟩⟩))),oD 4 (.mv (.const (.int .i64 0)))]) (.seq (.reg [oM 12 τ0,oD 13 (.callF 77 [XdK]),oM 5 Xef]) (.seq (.reg [oM 14 τ5,oD 15 (.callF 78 [XeN,(.const (.int .i64 4))]),oM 16 τ5,oD 17 (.callF 78 [XeW,(.const (.int .i64 2))]),oM 6 XeG,oM 7 XeI]) (.seq (.reg [oM 18 τ6,oD 19 (.bin .shr Xfg (.const (.int .u64 20))),oD 20 (.bin .and Xe5 (.const (.int .i64 255))),oM 21 τ6,oD 22 (.bin .and XfM (.const (.int .i64 1048575))),oM 23 τ5,oD 24 (.callF 78 [XfO,(.const (.int .i64 1))]),oM 25 τ5,oD 26 (.callF 78 [Xgz,(.const (.int .i64 1))]),oD 27 (.build [(.int .i64 0),(.int .i64 0),(.int .i64 0),(.int .i64 0),(.bool false),(.int .u64 0),(.int .u64 0),(.bool false),(.int .u64 0),(.int .u64 0)] [(0,1,Xfv),(1,1,XfP),(2,1,Xgb),(3,1,XgE)]),oD 8 (.alloc [(.int .i64 0),(.int .i64 0),(.int .i64 0),(.int .i64 0),(.bool false),(.int .u64 0),(.int .u64 0),(.bool false),(.int .u64 0),(.int .u64 0)]),oN (.store 10 τ8 XgH)]) (.seq (.reg [oM 28 τ5,oD 29 (.callF 129 [XgC,(.const (.int .i64 16))]),oM 30 τ5,oD 31 (.callF 129 [XgR,(.const (.int .i64 16))]),oM 9 XgF,oM 10 Xg7]) (.seq (.seq (.reg [oM 32 τ5,oD 33 (.callF 138 [Xhp])]) (.cond Xhr (.seq (.reg [oD 34 (.build [(.int .i64 0),(.int .i64 0),(.int .i64 0),(.int .i64 0),(.bool false),(.int .u64 0),(.int .u64 0),(.bool false),(.int .u64 0),(.int .u64 0)] []),oN (.store 10 τ2 Xhu),oD 3 (.mv (.const (.string ⟨⟨[]⟩⟩))),oD 4 (.mv (.const (.int .i64 2)))]) .ret) .skip)) (.seq (.seq (.reg [oM 35 τ6,oD 36 (.bin .shr XhG (.const (.int .u64 28))),oD 37 (.bin .neq Xie (.const (.int .i64 6)))]) (.cond Xib (.seq (.reg [oD 38 (.build [(.int .i64 0),(.int .i64 0),(.int .i64 0),(.int .i64 0),(.bool false),(.int .u64 0),(.int .u64 0),(.bool false),(.int .u64 0),(.int .u64 0)] []),oN (.store 10 τ2 XiB),oD 3 (.mv (.const (.string ⟨⟨[]⟩⟩))),oD 4 (.mv (.const (.int .i64 3)))]) .ret) .skip)) (.seq (.reg [oM 40 τ9,oD 41 (.callF 202 [Xjr]),oM 39 XjD,oE 42 0 Xjc,oE 43 1 Xjc,oD 44 (.fieldA 4 τ8),oN (.store 3 Xkm Xje)]) (.seq (.reg [oM 46 Xda,oD 47 (.callF 202 [XkD]),oM 45 XkC,oE 48 0 Xkl,oE 49 1 Xkl,oD 50 (.fieldA 7 τ8),oN (.store 3 Xlj XkB)]) (.seq (.reg [oM 51 τ5,oM 52 τ7,oD 53 (.callF 129 [Xlr,Xls]),oM 11 XmB]) (.seq (.seq (.reg [oM 54 τ5,oD 55 (.callF 138 [Xne])]) (.cond XmO (.seq (.reg [oD 56 (.build [(.int .i64 0),(.int .i64 0),(.int .i64 0),(.int .i64 0),(.bool false),(.int .u64 0),(.int .u64 0),(.bool false),(.int .u64 0),(.int .u64 0)] []),oN (.store 10 τ2 Xnd),oD 3 (.mv (.const (.string ⟨⟨[]⟩⟩))),oD 4 (.mv (.const (.int .i64 2)))]) .ret) .skip)) (.seq (.reg [oD 57 (.loadN [(.int .i64),(.int .i64),(.int .i64),(.int .i64),.bool,(.int .u64),(.int .u64),.bool,(.int .u64),(.int .u64)] τ8),oM 58 Xc8,oN (.store 10 τ2 XmT),oM 3 XmU,oD 4 (.mv (.const (.int .i64 0)))]) .ret)))))))))))
def XR5:VFn:=⟨59,XAq,[.cell 2 [(.int .i64),(.int .i64),(.int .i64),(.int .i64),.bool,(.int .u64),(.int .u64),.bool,(.int .u64),(.int .u64)] true,.tmp 3,.tmp 4]⟩
def XWY:VC:=.regD [oM 26 τ1,oM 27 τ1,oM 28 τ1,oD 29 (.fieldA 0 τ6),oD 30 (.load1 (.int .i64) XgF),oD 31 (.fieldA 1 τ6),oD 32 (.load1 (.int .i64) Xg7),oD 33 (.fieldA 4 τ6),oD 34 (.load1 (.int .i64) Xhr),oD 35 (.nilCheck XgE),oD 36 (.fieldA 0 XhG),oD 37 (.fieldA 7 Xie),oN (.store 1 Xib XgR),oD 38 (.nilCheck XgH),oD 39 (.fieldA 0 XiB),oD 40 (.fieldA 8 Xjc),oN (.store 1 Xjr Xhp)] [(6,12),(8,12),(8,16)] [oD 41 (.nilCheck XgC),oD 42 (.fieldA 9 XjD),oN (.store 1 Xje Xhu)]
def Xym:VC:=.seq (.reg [oD 2 (.box τ0),oD 4 (.mv (.const (.int .i64 0))),oD 5 (.mv (.const (.int .i64 0)))]) (.seq (.reg [oD 13 (.fieldA 7 τ2),oD 14 (.load1 .str Xef),oD 15 (.fieldA 0 τ2),oD 16 (.loadN [.bool,(.int .u64),(.int .u64)] XeG),oD 17 (.fieldA 3 τ2),oD 18 (.loadN [.bool,(.int .u64),(.int .u64)] XeI),oD 19 (.callF 167 [XeN,XeW,Xfg]),oM 12 Xe5,oE 20 0 XdK,oE 21 1 XdK,oE 22 2 XdK,oD 6 (.alloc [(.int .i64 0),(.int .i64 0),(.int .u32 0),(.int .u32 0),(.int .i64 0),(.int .i64 0),(.int .i64 0),(.string ⟨⟨[]⟩⟩)]),oN (.store 8 τ6 Xfv),oM 7 XfM,oM 8 XfP]) (.seq (.seq (.reg [oM 23 τ8,oD 24 (.bin .neq XfO (.const (.int .i64 0)))]) (.cond Xgb (.seq (.reg [oM 25 τ8,oD 4 (.mv (.const (.int .i64 0))),oM 5 Xgz]) .ret) .skip)) (.seq XWY (.seq (.seq (.reg [oD 44 (.fieldA 7 τ6),oD 45 (.load1 .str Xkm),oD 46 (.callF 134 [Xkl]),oM 43 XkD,oE 47 0 Xjs,oE 48 1 Xjs,oE 49 2 Xjs,oM 9 XkC,oM 10 XkB,oM 11 XkA]) (.seq (.reg [oM 50 Xc8,oD 51 (.bin .geq Xlj (.const (.int .i64 0)))]) (.cond Xlr (.reg [oM 52 τ1,oM 53 τ1,oM 54 τ1,oM 55 τ9,oM 56 Xda,oD 57 (.nilCheck Xls),oD 58 (.fieldA 10 XmT),oN (.store 1 XmU (.const (.bool true))),oD 59 (.nilCheck XmB),oD 60 (.fieldA 11 Xno),oN (.store 1 Xoi XmO),oD 61 (.nilCheck Xne),oD 62 (.fieldA 12 Xoj),oN (.store 1 XoS Xnd)]) .skip))) (.seq (.reg [oM 63 τ7,oD 64 (.lenS Xqq),oM 4 Xqr,oD 5 (.mv (.const (.int .i64 0)))]) .ret)))))
def XVJ:VFn:=⟨65,Xym,[.tmp 4,.tmp 5]⟩
def XTA:VC:=.regD [oM 20 τ0,oD 21 (.idxS Xfv (.const (.int .i64 12))),oD 22 (.bin .shr XfM (.const (.int .u64 4))),oD 23 (.conv .i64 XfP),oM 24 τ0,oD 25 (.idxS Xgb (.const (.int .i64 12))),oD 26 (.bin .and Xgz (.const (.int .u8 15))),oM 9 XfO] [] [oM 10 XgE]
def XNl:VC:=.regD [oD 72 (.loadN [(.int .i64),(.int .i64),(.int .u32),(.int .u32),(.int .i64),(.int .i64),(.int .i64),.str] Xef),oM 73 τ0,oM 74 Xc8,oD 75 (.sliceS XtH (some Xvj) none),oN (.store 8 τ6 Xsm)] [] [oM 7 XuX,oD 8 (.mv (.const (.int .i64 0)))]
def Xy7:VC:=.seq (.reg [oD 4 (.box τ1),oD 5 (.box τ2),oD 6 (.alloc [(.int .i64 0),(.int .i64 0),(.int .u32 0),(.int .u32 0),(.int .i64 0),(.int .i64 0),(.int .i64 0),(.string ⟨⟨[]⟩⟩)]),oD 7 (.mv (.const (.string ⟨⟨[]⟩⟩))),oD 8 (.mv (.const (.int .i64 0)))]) (.seq (.seq (.reg [oM 16 τ0,oD 17 (.lenS XeW),oD 18 (.bin .lss XeI (.const (.int .i64 20)))]) (.cond Xfg (.seq (.reg [oD 19 (.build [(.int .i64 0),(.int .i64 0),(.int .u32 0),(.int .u32 0),(.int .i64 0),(.int .i64 0),(.int .i64 0),(.string ⟨⟨[]⟩⟩)] []),oN (.store 8 τ6 Xe5),oD 7 (.mv (.const (.string ⟨⟨[]⟩⟩))),oD 8 (.mv (.const (.int .i64 2)))]) .ret) .skip)) (.seq XTA (.seq (.reg [oM 27 τ9,oD 28 (.bin .mul (.const (.int .i64 4)) XgH),oM 11 XgC]) (.seq (.block 0 (.seq (.reg [oM 30 Xc8,oD 31 (.bin .lss XgR (.const (.int .i64 20))),oM 32 Xg7,oG 33 (.mv Xda) 32 false,oG 34 (.bin .neq Xhr (.const (.int .u8 0))) 32 false,oD 35 (.pick Xhp (.const (.bool true)) Xhu),oM 29 XhG]) (.cond XgF (.seq (.reg [oD 36 (.build [(.int .i64 0),(.int .i64 0),(.int .u32 0),(.int .u32 0),(.int .i64 0),(.int .i64 0),(.int .i64 0),(.string ⟨⟨[]⟩⟩)] []),oN (.store 8 τ6 Xie),oD 7 (.mv (.const (.string ⟨⟨[]⟩⟩))),oD 8 (.mv (.const (.int .i64 3)))]) .ret) (.seq (.reg [oM 38 Xc8,oM 39 τ0,oD 40 (.lenS Xjc),oD 41 (.bin .gtr XiB Xjr),oM 37 XjD]) (.cond Xib (.seq (.reg [oD 42 (.build [(.int .i64 0),(.int .i64 0),(.int .u32 0),(.int .u32 0),(.int .i64 0),(.int .i64 0),(.int .i64 0),(.string ⟨⟨[]⟩⟩)] []),oN (.store 8 τ6 Xje),oD 7 (.mv (.const (.string ⟨⟨[]⟩⟩))),oD 8 (.mv (.const (.int .i64 2)))]) .ret) .skip))))) (.seq (.reg [oD 43 (.loadN [.bool,(.int .u64),(.int .u64)] τ4),oD 44 (.loadN [.bool,(.int .u64),(.int .u64)] τ5),oM 45 τ0,oD 46 (.lenS Xkl),oD 47 (.callF 180 [Xjs,Xkm,(.const (.int .i64 6)),XkD]),oM 12 XkC]) (.seq (.block 1 (.seq (.reg [oM 49 XdK,oD 50 (.bin .eql XkA (.const (.string ⟨⟨[]⟩⟩))),oM 48 Xlj]) (.cond XkB (.seq (.reg [oD 51 (.build [(.int .i64 0),(.int .i64 0),(.int .u32 0),(.int .u32 0),(.int .i64 0),(.int .i64 0),(.int .i64 0),(.string ⟨⟨[]⟩⟩)] []),oN (.store 8 τ6 Xlr),oD 7 (.mv (.const (.string ⟨⟨[]⟩⟩))),oD 8 (.mv (.const (.int .i64 1)))]) .ret) (.seq (.reg [oM 53 XdK,oM 54 τ0,oD 55 (.bin .add XmB Xne),oD 56 (.callF 80 [XmO]),oD 57 (.not Xnd),oM 52 XmT]) (.cond Xls (.seq (.reg [oD 58 (.build [(.int .i64 0),(.int .i64 0),(.int .u32 0),(.int .u32 0),(.int .i64 0),(.int .i64 0),(.int .i64 0),(.string ⟨⟨[]⟩⟩)] []),oN (.store 8 τ6 XmU),oD 7 (.mv (.const (.string ⟨⟨[]⟩⟩))),oD 8 (.mv (.const (.int .i64 4)))]) .ret) .skip))))) (.seq (.reg [oM 59 τ0,oM 60 Xc8,oD 61 (.callF 192 [Xno,Xoi]),oD 13 (.alloc [(.int .i64 0),(.int .i64 0),(.int .u32 0),(.int .u32 0),(.int .i64 0),(.int .i64 0),(.int .i64 0),(.string ⟨⟨[]⟩⟩)]),oN (.store 8 Xef Xoj)]) (.seq (.seq (.reg [oD 63 (.fieldA 7 Xef),oD 64 (.load1 .str Xqq),oD 65 (.callF 169 [Xqr]),oM 62 Xrb,oE 66 0 XoS,oE 67 1 XoS,oM 14 XqE,oM 15 Xqu]) (.seq (.reg [oM 68 XeG,oD 69 (.bin .neq XqA (.const (.int .i64 0)))]) (.cond Xr8 (.seq (.reg [oD 70 (.build [(.int .i64 0),(.int .i64 0),(.int .u32 0),(.int .u32 0),(.int .i64 0),(.int .i64 0),(.int .i64 0),(.string ⟨⟨[]⟩⟩)] []),oM 71 XeG,oN (.store 8 τ6 Xsr),oD 7 (.mv (.const (.string ⟨⟨[]⟩⟩))),oM 8 Xsq]) .ret) .skip))) (.seq XNl .ret)))))))))
def XT5:VFn:=⟨76,Xy7,[.cell 6 [(.int .i64),(.int .i64),(.int .u32),(.int .u32),(.int .i64),(.int .i64),(.int .i64),.str] true,.tmp 7,.tmp 8]⟩
def XAd:VC:=.seq (.reg [oD 4 (.alloc [(.int .i64 0),(.int .i64 0),(.int .u32 0),(.int .u32 0),(.int .i64 0),(.int .i64 0),(.int .i64 0),(.string ⟨⟨[]⟩⟩)])]) (.seq (.reg [oM 7 τ0,oD 8 (.callF 77 [τ7]),oM 5 τ8]) (.seq (.reg [oM 9 τ5,oD 10 (.callF 78 [τ9,(.const (.int .i64 2))]),oM 11 τ5,oD 12 (.callF 78 [Xc8,(.const (.int .i64 2))]),oM 13 τ5,oD 14 (.callF 78 [Xef,(.const (.int .i64 4))]),oD 15 (.conv .u32 XeN),oM 16 τ5,oD 17 (.callF 78 [XeW,(.const (.int .i64 4))]),oD 18 (.conv .u32 XeI),oD 19 (.build [(.int .i64 0),(.int .i64 0),(.int .u32 0),(.int .u32 0),(.int .i64 0),(.int .i64 0),(.int .i64 0),(.string ⟨⟨[]⟩⟩)] [(0,1,Xda),(1,1,XdK),(2,1,XeG),(3,1,Xfg)]),oD 6 (.alloc [(.int .i64 0),(.int .i64 0),(.int .u32 0),(.int .u32 0),(.int .i64 0),(.int .i64 0),(.int .i64 0),(.string ⟨⟨[]⟩⟩)]),oN (.store 8 τ6 Xe5)]) (.seq (.reg [oM 20 τ5,oD 21 (.callF 78 [Xfv,(.const (.int .i64 2))]),oD 22 (.bin .and XfM (.const (.int .i64 255))),oD 23 (.fieldA 4 τ6),oN (.store 1 XfO XfP)]) (.seq (.reg [oM 24 τ5,oD 25 (.callF 78 [Xgb,(.const (.int .i64 2))]),oD 26 (.fieldA 5 τ6),oN (.store 1 XgE Xgz)]) (.seq (.reg [oM 27 τ5,oD 28 (.callF 78 [XgH,(.const (.int .i64 2))])]) (.seq (.reg [oM 29 τ5,oD 30 (.callF 78 [XgF,(.const (.int .i64 2))]),oD 31 (.fieldA 6 τ6),oN (.store 1 Xg7 XgR)]) (.seq (.reg [oM 32 τ5,oM 33 τ1,oD 34 (.bin .sub Xhr (.const (.int .i64 20))),oD 35 (.callF 129 [Xhp,Xhu]),oD 36 (.fieldA 7 τ6),oN (.store 1 Xie XhG)]) (.seq (.reg [oD 37 (.loadN [(.int .i64),(.int .i64),(.int .u32),(.int .u32),(.int .i64),(.int .i64),(.int .i64),.str] τ6),oN (.store 8 τ4 Xib)]) .ret))))))))
def XWB:VFn:=⟨38,XAd,[.cell 4 [(.int .i64),(.int .i64),(.int .u32),(.int .u32),(.int .i64),(.int .i64),(.int .i64),.str] true]⟩
def XIk:VC:=.reg [oD 5 (.alloc [(.int .i64 0),(.string ⟨⟨[]⟩⟩),(.int .i64 0)]),oN (.store 3 τ5 τ8)]
def XxR:VC:=.block 1 (.seq (.seq (.reg [oD 9 (.fieldA 2 τ5),oD 10 (.load1 (.int .i64) τ9),oD 11 (.bin .lss Xda (.const (.int .i64 0)))]) (.cond Xc8 (.seq (.reg [oN (.store 1 τ2 (.const (.slice none 0 0))),oN (.store 1 τ3 (.const (.int .i64 3)))]) .ret) .skip)) (.reg [oD 12 (.load1 .oth τ4),oD 13 (.fieldA 0 τ5),oD 14 (.loadN [(.int .i64),.str] Xef),oD 15 (.buildSl 1 2 [(.int .i64 0),(.string ⟨⟨[]⟩⟩)] [(0,2,XeN)]),oD 16 (.app 241 2 24 XdK XeG),oN (.store 1 τ4 XeW)]))
def XLf:VC:=.rangeF τ7 [8] XIk XxR
def Xzf:VC:=.seq (.reg [oD 17 (.load1 .oth τ4),oN (.store 1 τ2 XeI),oN (.store 1 τ3 (.const (.int .i64 0)))]) .ret
def XzL:VC:=.seq (.reg [oD 2 (.alloc [(.slice none 0 0)]),oD 3 (.alloc [(.int .i64 0)])]) (.seq (.reg [oD 4 (.alloc [(.slice none 0 0)])]) (.seq (.seq (.reg [oM 6 τ0,oD 7 (.callF 170 [τ6])]) (.block 0 XLf)) Xzf))
def XVr:VFn:=⟨18,XzL,[.cell 2 [.oth] false,.cell 3 [(.int .i64)] false]⟩
def XTQ:VC:=.seq (.reg [oD 1 (.box τ0),oM 2 (.const .nilFunc)]) (.seq (.reg [oD 3 (.mkFunc 193 [] [τ1]),oM 2 τ3]) .ret)
def XUG:VFn:=⟨4,XTQ,[.tmp 2]⟩
def XNv:VC:=.regD [oM 41 τ0,oD 42 (.load1 .str τ1),oM 43 τ3,oD 44 (.idxS Xje Xjs),oD 45 (.conv .i64 Xkm),oD 46 (.load1 .str τ1),oM 47 τ3,oD 48 (.bin .add XkC (.const (.int .i64 2))),oM 49 τ3,oM 50 τ4,oD 51 (.bin .add XkA Xlj),oD 52 (.sliceS XkD (some XkB) (some Xlr)),oD 53 (.build [(.int .i64 0),(.string ⟨⟨[]⟩⟩)] [(0,1,Xkl),(1,1,Xls)]),oM 54 τ3,oD 55 (.bin .add Xne (.const (.int .i64 2))),oD 56 (.build [(.int .i64 0),(.string ⟨⟨[]⟩⟩),(.int .i64 0)] [(0,2,XmB),(2,1,XmO)])] [] [oD 57 (.callV XjD [Xnd]),oD 58 (.not XmT)]
def Xqb:VC:=.seq (.seq (.reg [oM 5 τ3,oD 6 (.load1 .str τ1),oD 7 (.lenS τ6),oD 8 (.bin .lss τ5 τ7)]) (.cond τ8 .skip (.exit 0))) (.block 1 (.seq (.seq (.reg [oD 9 (.load1 .str τ1),oM 10 τ3,oD 11 (.idxS τ9 Xda)]) (.block 2 (.seq (.reg [oD 13 (.bin .eql Xc8 (.const (.int .u8 0))),oM 12 Xef]) (.cond XdK .ret (.seq (.reg [oD 15 (.bin .eql Xc8 (.const (.int .u8 1))),oM 14 XeG]) (.cond XeN (.seq (.reg [oM 16 τ3,oD 17 (.bin .add XeW (.const (.int .i64 1))),oM 3 XeI]) (.exit 1)) .skip)))))) (.seq (.reg [oD 4 (.mv (.const (.int .i64 0)))]) (.seq (.seq (.reg [oM 18 τ3,oD 19 (.bin .add Xfg (.const (.int .i64 1))),oD 20 (.load1 .str τ1),oD 21 (.lenS Xfv),oD 22 (.bin .lss Xe5 XfM)]) (.cond XfP (.reg [oD 23 (.load1 .str τ1),oM 24 τ3,oD 25 (.bin .add Xgb (.const (.int .i64 1))),oD 26 (.idxS XfO Xgz),oD 27 (.conv .i64 XgE),oM 4 XgH]) .skip)) (.seq (.seq (.reg [oM 28 τ4,oD 29 (.bin .lss XgC (.const (.int .i64 2))),oM 30 XgF,oG 31 (.mv τ4) 30 false,oG 32 (.load1 .str τ1) 30 false,oG 33 (.lenS Xhp) 30 false,oG 34 (.mv τ3) 30 false,oG 35 (.bin .sub Xhr Xhu) 30 false,oG 36 (.bin .gtr Xg7 XhG) 30 false,oD 37 (.pick XgR (.const (.bool true)) Xie)]) (.cond Xib (.seq (.reg [oM 38 τ0,oD 39 (.build [(.int .i64 0),(.string ⟨⟨[]⟩⟩),(.int .i64 0)] [(2,1,(.const (.int .i64 (-1))))]),oD 40 (.callV XiB [Xjc])]) .ret) .skip)) (.seq (.seq XNv (.cond XmU .ret .skip)) (.reg [oM 59 τ3,oM 60 τ4,oD 61 (.bin .add Xno Xoi),oM 3 Xoj])))))))
def XMC:VC:=.seq (.reg [oD 3 (.mv (.const (.int .i64 0)))]) (.block 0 (.loop Xqb))
def XWk:VFn:=⟨62,XMC,[]⟩
def XIH:VC:=.reg [oD 7 (.alloc [(.int .i64 0),(.string ⟨⟨[]⟩⟩),(.int .i64 0)]),oN (.store 3 τ7 Xe5)]
def XQj:VC:=.regD [oM 39 τ8,oD 40 (.bin .shr Xjc (.const (.int .u64 32))),oD 41 (.conv .u32 Xjr),oM 42 τ8,oD 43 (.conv .u32 Xje),oD 44 (.fieldA 2 τ7),oD 45 (.load1 (.int .i64) Xkm),oN (.store 1 τ2 XjD),oN (.store 1 τ3 Xjs)] [(6,7),(6,8)] [oN (.store 1 τ4 Xkl)]
def Xzl:VC:=.block 1 (.seq (.seq (.reg [oD 20 (.fieldA 0 τ7),oD 21 (.fieldA 0 Xfv),oD 22 (.load1 (.int .i64) XfM),oD 23 (.bin .neq XfP (.const (.int .i64 8)))]) (.cond XfO (.exit 1) .skip)) (.seq (.seq (.reg [oD 25 (.fieldA 0 τ7),oD 26 (.fieldA 1 Xgz),oD 27 (.load1 .str XgE),oD 28 (.callF 95 [XgH,(.const (.int .i64 0)),(.const (.int .i64 8))]),oM 24 XgC,oE 29 0 Xgb,oE 30 1 Xgb,oM 8 XgF,oM 9 XgR]) (.seq (.reg [oM 31 τ9,oM 32 Xg7,oG 33 (.fieldA 0 τ7) 32 true,oG 34 (.fieldA 1 Xhr) 32 true,oG 35 (.load1 .str Xhu) 32 true,oG 36 (.lenS XhG) 32 true,oG 37 (.bin .eql Xie (.const (.int .i64 8))) 32 true,oD 38 (.pick Xhp Xib (.const (.bool false)))]) (.cond XiB (.seq XQj .ret) .skip))) (.exit 0)))
def XOG:VC:=.rangeF Xfg [19] XIH Xzl
def XyA:VC:=.seq (.reg [oN (.store 1 τ2 (.const (.int .u32 0))),oN (.store 1 τ3 (.const (.int .u32 0))),oN (.store 1 τ4 (.const (.int .i64 (-1))))]) .ret
def XBo:VC:=.seq (.reg [oD 2 (.alloc [(.int .u32 0)]),oD 3 (.alloc [(.int .u32 0)]),oD 4 (.alloc [(.int .i64 0)])]) (.seq (.seq (.reg [oM 11 τ0,oD 12 (.callF 169 [Xc8]),oM 10 XdK,oE 13 0 Xda,oE 14 1 Xda,oM 5 Xef,oM 6 XeN]) (.seq (.reg [oM 15 τ6,oD 16 (.bin .neq XeG (.const (.int .i64 0)))]) (.cond XeW (.seq (.reg [oN (.store 1 τ2 (.const (.int .u32 0))),oN (.store 1 τ3 (.const (.int .u32 0))),oN (.store 1 τ4 (.const (.int .i64 (-1))))]) .ret) .skip))) (.seq (.seq (.reg [oM 17 τ0,oD 18 (.callF 170 [XeI])]) (.block 0 XOG)) XyA))
def XVe:VFn:=⟨46,XBo,[.cell 2 [(.int .u32)] false,.cell 3 [(.int .u32)] false,.cell 4 [(.int .i64)] false]⟩
def XKS:VC:=.regD [oM 34 τ1,oM 35 τ1,oD 36 (.fieldA 0 τ6),oD 37 (.load1 (.int .i64) Xie),oD 38 (.fieldA 1 τ6),oD 39 (.load1 (.int .i64) XiB),oD 40 (.nilCheck Xhu),oD 41 (.fieldA 0 Xjr),oD 42 (.fieldA 7 XjD),oN (.store 1 Xje Xib)] [(5,9)] [oD 43 (.nilCheck XhG),oD 44 (.fieldA 0 Xjs),oD 45 (.fieldA 8 Xkm),oN (.store 1 Xkl Xjc)]
def XOH:VC:=.regD [oM 53 τ1,oM 54 τ1,oD 55 (.fieldA 0 τ9),oD 56 (.load1 .bool XmO),oD 57 (.fieldA 3 τ9),oD 58 (.load1 .str XmT),oD 59 (.nilCheck XmB),oD 60 (.fieldA 13 Xno),oN (.store 1 Xoi Xnd)] [(5,8)] [oD 61 (.nilCheck Xne),oD 62 (.fieldA 14 Xoj),oN (.store 1 XoS XmU)]
def Xz6:VC:=.seq (.reg [oD 2 (.box τ0),oD 4 (.mv (.const (.int .i64 0))),oD 5 (.mv (.const (.int .i64 0)))]) (.seq (.reg [oD 12 (.fieldA 7 τ2),oD 13 (.load1 .str XdK),oD 14 (.fieldA 0 τ2),oD 15 (.loadN [.bool,(.int .u64),(.int .u64)] XeN),oD 16 (.fieldA 3 τ2),oD 17 (.loadN [.bool,(.int .u64),(.int .u64)] XeW),oD 18 (.callF 168 [Xef,XeG,XeI]),oM 11 Xfg,oE 19 0 Xc8,oE 20 1 Xc8,oE 21 2 Xc8,oD 6 (.alloc [(.int .i64 0),(.int .i64 0)]),oN (.store 2 τ6 Xe5),oM 7 Xfv,oM 8 XfM]) (.seq (.block 0 (.seq (.reg [oM 23 τ8,oD 24 (.bin .neq XfO (.const (.int .i64 0))),oM 22 Xgb]) (.cond XfP (.seq (.reg [oM 25 τ8,oD 4 (.mv (.const (.int .i64 0))),oM 5 Xgz]) .ret) (.seq (.reg [oM 27 τ7,oD 28 (.lenS XgH),oD 29 (.fieldA 7 τ2),oD 30 (.load1 .str XgF),oD 31 (.lenS XgR),oD 32 (.bin .sub Xg7 (.const (.int .i64 8))),oD 33 (.bin .neq XgC Xhp),oM 26 Xhr]) (.cond XgE (.seq (.reg [oD 4 (.mv (.const (.int .i64 0))),oD 5 (.mv (.const (.int .i64 5)))]) .ret) .skip))))) (.seq XKS (.seq (.seq (.reg [oM 47 τ7,oD 48 (.callF 94 [XkC]),oM 46 XkB,oE 49 0 XkD,oE 50 1 XkD,oD 9 (.alloc [(.bool false),(.int .i64 0),(.int .u32 0),(.string ⟨⟨[]⟩⟩),(.string ⟨⟨[]⟩⟩),(.string ⟨⟨[]⟩⟩)]),oN (.store 6 τ9 XkA),oM 10 Xlj]) (.seq (.reg [oM 51 Xda,oD 52 (.bin .eql Xlr (.const (.int .i64 0)))]) (.cond Xls XOH .skip))) (.seq (.reg [oM 63 τ7,oD 64 (.lenS Xqq),oM 4 Xqr,oD 5 (.mv (.const (.int .i64 0)))]) .ret)))))
def XQW:VFn:=⟨65,Xz6,[.tmp 4,.tmp 5]⟩
def XP7:VC:=.regD [oD 66 (.loadN [(.int .i64),(.int .i64)] Xda),oM 67 τ0,oM 68 Xc8,oD 69 (.sliceS Xqu (some (.const (.int .i64 8))) (some XqA)),oN (.store 2 τ6 XqE)] [] [oM 7 Xr8,oD 8 (.mv (.const (.int .i64 0)))]
def XBv:VC:=.seq (.reg [oD 4 (.box τ1),oD 5 (.box τ2),oD 6 (.alloc [(.int .i64 0),(.int .i64 0)]),oD 7 (.mv (.const (.string ⟨⟨[]⟩⟩))),oD 8 (.mv (.const (.int .i64 0)))]) (.seq (.reg [oM 14 τ0,oD 15 (.callF 77 [XeN]),oM 9 XeG]) (.seq (.reg [oM 16 τ9,oD 17 (.callF 78 [XeW,(.const (.int .i64 2))]),oM 18 τ9,oD 19 (.callF 78 [Xfg,(.const (.int .i64 2))]),oD 20 (.build [(.int .i64 0),(.int .i64 0)] [(0,1,XeI),(1,1,Xe5)]),oD 10 (.alloc [(.int .i64 0),(.int .i64 0)]),oN (.store 2 Xda Xfv)]) (.seq (.reg [oM 21 τ9,oD 22 (.callF 78 [XfM,(.const (.int .i64 2))]),oM 23 τ9,oD 24 (.callF 78 [XfO,(.const (.int .i64 2))]),oM 11 XfP,oM 12 Xgb]) (.seq (.block 0 (.seq (.reg [oM 26 τ9,oD 27 (.callF 138 [XgE]),oM 25 XgH]) (.cond Xgz (.seq (.reg [oD 28 (.build [(.int .i64 0),(.int .i64 0)] []),oN (.store 2 τ6 XgC),oD 7 (.mv (.const (.string ⟨⟨[]⟩⟩))),oD 8 (.mv (.const (.int .i64 2)))]) .ret) (.seq (.reg [oM 30 Xc8,oD 31 (.bin .lss XgR (.const (.int .i64 8))),oM 29 Xg7]) (.cond XgF (.seq (.reg [oD 32 (.build [(.int .i64 0),(.int .i64 0)] []),oN (.store 2 τ6 Xhp),oD 7 (.mv (.const (.string ⟨⟨[]⟩⟩))),oD 8 (.mv (.const (.int .i64 3)))]) .ret) (.seq (.reg [oM 34 Xc8,oM 35 τ0,oD 36 (.lenS XhG),oD 37 (.bin .gtr Xhu Xie),oM 33 Xib]) (.cond Xhr (.seq (.reg [oD 38 (.build [(.int .i64 0),(.int .i64 0)] []),oN (.store 2 τ6 XiB),oD 7 (.mv (.const (.string ⟨⟨[]⟩⟩))),oD 8 (.mv (.const (.int .i64 2)))]) .ret) .skip))))))) (.seq (.reg [oD 39 (.loadN [.bool,(.int .u64),(.int .u64)] τ4),oD 40 (.loadN [.bool,(.int .u64),(.int .u64)] τ5),oM 41 Xc8,oD 42 (.callF 180 [Xjc,Xjr,(.const (.int .i64 17)),XjD]),oM 13 Xje]) (.seq (.block 1 (.seq (.reg [oM 44 Xef,oD 45 (.bin .eql Xkm (.const (.string ⟨⟨[]⟩⟩))),oM 43 Xkl]) (.cond Xjs (.seq (.reg [oD 46 (.build [(.int .i64 0),(.int .i64 0)] []),oN (.store 2 τ6 XkD),oD 7 (.mv (.const (.string ⟨⟨[]⟩⟩))),oD 8 (.mv (.const (.int .i64 1)))]) .ret) (.seq (.seq (.reg [oM 48 XdK,oD 49 (.bin .eql XkB (.const (.int .i64 0))),oM 50 XkA,oG 51 (.fieldA 0 τ4) 50 true,oG 52 (.load1 .bool Xlr) 50 true,oD 53 (.pick Xlj Xls (.const (.bool false))),oM 47 XmB]) (.cond XkC .skip (.reg [oM 54 XdK,oD 55 (.bin .neq Xne (.const (.int .i64 0))),oM 56 XmO,oG 57 (.mv Xef) 56 true,oG 58 (.mv τ0) 56 true,oG 59 (.mv Xc8) 56 true,oG 60 (.sliceS XmU none (some Xno)) 56 true,oG 61 (.bin .add XmT Xoi) 56 true,oG 62 (.callF 80 [Xoj]) 56 true,oG 63 (.not XoS) 56 true,oD 64 (.pick Xnd Xqq (.const (.bool false))),oM 47 Xqr]))) (.cond XkC (.seq (.reg [oD 65 (.build [(.int .i64 0),(.int .i64 0)] []),oN (.store 2 τ6 Xrb),oD 7 (.mv (.const (.string ⟨⟨[]⟩⟩))),oD 8 (.mv (.const (.int .i64 4)))]) .ret) .skip))))) (.seq XP7 .ret)))))))
def XV8:VFn:=⟨70,XBv,[.cell 6 [(.int .i64),(.int .i64)] true,.tmp 7,.tmp 8]⟩
def XIP:VC:=.seq (.reg [oD 2 (.alloc [(.bool false),(.int .i64 0),(.int .u32 0),(.string ⟨⟨[]⟩⟩),(.string ⟨⟨[]⟩⟩),(.string ⟨⟨[]⟩⟩)]),oD 3 (.mv (.const (.int .i64 0)))]) (.seq (.reg [oM 9 τ0,oD 10 (.callF 77 [τ9]),oM 4 Xda]) (.seq (.reg [oM 11 τ4,oD 12 (.callF 78 [Xc8,(.const (.int .i64 1))]),oM 5 XdK]) (.seq (.block 0 (.seq (.reg [oM 14 τ4,oD 15 (.callF 138 [XeN]),oM 13 XeG]) (.cond Xef (.seq (.reg [oD 16 (.build [(.bool false),(.int .i64 0),(.int .u32 0),(.string ⟨⟨[]⟩⟩),(.string ⟨⟨[]⟩⟩),(.string ⟨⟨[]⟩⟩)] []),oN (.store 6 τ2 XeW),oD 3 (.mv (.const (.int .i64 2)))]) .ret) (.seq (.reg [oM 18 τ5,oD 19 (.bin .and Xfg (.const (.int .i64 64))),oD 20 (.bin .eql Xe5 (.const (.int .i64 0))),oM 17 Xfv]) (.cond XeI (.seq (.reg [oD 21 (.build [(.bool false),(.int .i64 0),(.int .u32 0),(.string ⟨⟨[]⟩⟩),(.string ⟨⟨[]⟩⟩),(.string ⟨⟨[]⟩⟩)] []),oN (.store 6 τ2 XfM),oD 3 (.mv (.const (.int .i64 3)))]) .ret) .skip))))) (.seq (.reg [oM 22 τ5,oD 23 (.bin .and XfP (.const (.int .i64 128))),oD 24 (.bin .neq XfO (.const (.int .i64 0))),oM 25 τ5,oD 26 (.bin .and Xgz (.const (.int .i64 63))),oD 27 (.build [(.bool false),(.int .i64 0),(.int .u32 0),(.string ⟨⟨[]⟩⟩),(.string ⟨⟨[]⟩⟩),(.string ⟨⟨[]⟩⟩)] [(0,1,Xgb),(1,1,XgE)]),oD 6 (.alloc [(.bool false),(.int .i64 0),(.int .u32 0),(.string ⟨⟨[]⟩⟩),(.string ⟨⟨[]⟩⟩),(.string ⟨⟨[]⟩⟩)]),oN (.store 6 τ6 XgH)]) (.seq (.seq (.reg [oD 28 (.fieldA 0 τ6),oD 29 (.load1 .bool XgC),oD 30 (.not XgF)]) (.cond XgR (.seq (.reg [oM 31 τ4,oD 32 (.mkFunc 129 [Xg7] []),oM 7 Xhp]) (.seq (.seq (.reg [oM 33 τ7,oD 34 (.callV Xhr [(.const (.int .i64 8))]),oD 35 (.fieldA 3 τ6),oN (.store 1 XhG Xhu)]) (.seq (.reg [oM 36 τ4,oD 37 (.callF 138 [Xie])]) (.cond Xib (.seq (.reg [oD 38 (.build [(.bool false),(.int .i64 0),(.int .u32 0),(.string ⟨⟨[]⟩⟩),(.string ⟨⟨[]⟩⟩),(.string ⟨⟨[]⟩⟩)] []),oN (.store 6 τ2 XiB),oD 3 (.mv (.const (.int .i64 2)))]) .ret) .skip))) (.seq (.reg [oM 39 τ4,oD 40 (.callF 139 [Xjc]),oD 41 (.fieldA 5 τ6),oN (.store 1 XjD Xjr)]) (.seq (.reg [oD 42 (.loadN [.bool,(.int .i64),(.int .u32),.str,.str,.str] τ6),oN (.store 6 τ2 Xje),oD 3 (.mv (.const (.int .i64 0)))]) .ret)))) .skip)) (.seq (.reg [oM 43 τ4,oD 44 (.callF 78 [Xjs,(.const (.int .i64 4))]),oD 45 (.conv .u32 Xkm),oD 46 (.fieldA 2 τ6),oN (.store 1 XkD Xkl)]) (.seq (.seq (.reg [oM 47 τ4,oD 48 (.fieldA 3 τ6),oD 49 (.fieldA 4 τ6),oD 50 (.buildSl 2 1 [(.pointer none),(.pointer none)] [(0,1,XkB),(1,1,XkA)]),oD 51 (.callF 140 [(.func 141),XkC,Xlj]),oM 8 Xlr]) (.seq (.reg [oM 52 τ8,oD 53 (.bin .neq Xls (.const (.int .i64 0)))]) (.cond XmB (.seq (.reg [oD 54 (.build [(.bool false),(.int .i64 0),(.int .u32 0),(.string ⟨⟨[]⟩⟩),(.string ⟨⟨[]⟩⟩),(.string ⟨⟨[]⟩⟩)] []),oM 55 τ8,oN (.store 6 τ2 Xne),oM 3 XmO]) .ret) .skip))) (.seq (.reg [oM 56 τ4,oD 57 (.callF 139 [Xnd]),oD 58 (.fieldA 5 τ6),oN (.store 1 XmU XmT)]) (.seq (.reg [oD 59 (.loadN [.bool,(.int .i64),(.int .u32),.str,.str,.str] τ6),oN (.store 6 τ2 Xno),oD 3 (.mv (.const (.int .i64 0)))]) .ret)))))))))
def fn94:VFn:=⟨60,XIP,[.cell 2 [.bool,(.int .i64),(.int .u32),.str,.str,.str] true,.tmp 3]⟩
def XIf:VC:=.seq (.reg [oD 2 (.mv (.const (.string ⟨⟨[]⟩⟩)))]) (.seq (.seq (.reg [oM 3 τ0,oD 4 (.callF 138 [τ3])]) (.cond τ4 (.seq (.reg [oD 2 (.mv (.const (.string ⟨⟨[]⟩⟩)))]) .ret) .skip)) (.seq (.reg [oM 5 τ0,oM 6 τ0,oD 7 (.nilCheck τ6),oD 8 (.fieldA 0 τ7),oD 9 (.load1 .str τ8),oD 10 (.lenS τ9),oD 11 (.callF 129 [τ5,Xda]),oM 2 Xc8]) .ret))
def XWZ:VFn:=⟨12,XIf,[.tmp 2]⟩
def XQC:VC:=.seq (.reg [oD 6 (.mv (.const (.int .i64 0)))]) (.seq (.seq (.reg [oM 11 τ2,oD 12 (.lenL Xc8),oD 13 (.mv (.const (.int .i64 0)))]) (.block 0 (.loop (.seq (.reg [oD 14 (.bin .lss Xef XdK)]) (.seq (.cond XeN .skip (.exit 0)) (.seq (.block 1 (.seq (.reg [oD 15 (.idxAL 1 Xc8 Xef),oD 16 (.load1 .oth XeG),oM 8 XeW]) (.seq (.reg [oM 18 τ0,oM 19 τ1,oD 20 (.callV Xfg [Xe5]),oM 17 Xfv,oE 21 0 XeI,oE 22 1 XeI,oM 9 XfM,oM 10 XfP]) (.seq (.seq (.reg [oM 23 Xda,oD 24 (.bin .neq XfO (.const (.int .i64 0)))]) (.cond Xgb (.seq (.reg [oM 25 Xda,oM 6 Xgz]) .ret) .skip)) (.reg [oM 26 τ8,oM 27 τ9,oD 28 (.nilCheck XgE),oN (.store 1 XgC XgH)]))))) (.reg [oD 29 (.bin .add Xef (.const (.int .i64 1))),oM 13 XgF]))))))) (.seq (.reg [oD 6 (.mv (.const (.int .i64 0)))]) .ret))
def XVn:VFn:=⟨30,XQC,[.tmp 6]⟩
theorem XRo:(Tryz.prog.funcs[6]?).bind (XaF Tryz.prog)=some fn6:=by kernel_rfl
theorem XLy:(Tryz.prog.funcs[31]?).bind (XaF Tryz.prog)=some fn31:=by kernel_rfl
theorem XQA:(Tryz.prog.funcs[32]?).bind (XaF Tryz.prog)=some fn32:=by kernel_rfl
theorem XMv:(Tryz.prog.funcs[33]?).bind (XaF Tryz.prog)=some fn33:=by kernel_rfl
theorem XNO:(Tryz.prog.funcs[67]?).bind (XaF Tryz.prog)=some fn67:=by kernel_rfl
theorem XGl:(Tryz.prog.funcs[109]?).bind (XaF Tryz.prog)=some XVu:=by kernel_rfl
theorem XEp:(Tryz.prog.funcs[110]?).bind (XaF Tryz.prog)=some XWf:=by kernel_rfl
theorem XLt:(Tryz.prog.funcs[68]?).bind (XaF Tryz.prog)=some fn68:=by kernel_rfl
theorem XF0:(Tryz.prog.funcs[111]?).bind (XaF Tryz.prog)=some XUq:=by kernel_rfl
theorem XGO:(Tryz.prog.funcs[155]?).bind (XaF Tryz.prog)=some XTu:=by kernel_rfl
theorem XF8:(Tryz.prog.funcs[156]?).bind (XaF Tryz.prog)=some XS9:=by kernel_rfl
theorem XCj:(Tryz.prog.funcs[112]?).bind (XaF Tryz.prog)=some XRI:=by kernel_rfl
theorem XEe:(Tryz.prog.funcs[157]?).bind (XaF Tryz.prog)=some XTR:=by kernel_rfl
theorem XGR:(Tryz.prog.funcs[113]?).bind (XaF Tryz.prog)=some XRx:=by kernel_rfl
theorem XF5:(Tryz.prog.funcs[158]?).bind (XaF Tryz.prog)=some XQ6:=by kernel_rfl
theorem XDY:(Tryz.prog.funcs[159]?).bind (XaF Tryz.prog)=some XUQ:=by kernel_rfl
theorem XCw:(Tryz.prog.funcs[114]?).bind (XaF Tryz.prog)=some XT9:=by kernel_rfl
theorem XDM:(Tryz.prog.funcs[115]?).bind (XaF Tryz.prog)=some XVL:=by kernel_rfl
theorem XCg:(Tryz.prog.funcs[116]?).bind (XaF Tryz.prog)=some XVX:=by kernel_rfl
theorem XJ5:(Tryz.prog.funcs[69]?).bind (XaF Tryz.prog)=some fn69:=by kernel_rfl
theorem XCv:(Tryz.prog.funcs[117]?).bind (XaF Tryz.prog)=some XSe:=by kernel_rfl
theorem XFJ:(Tryz.prog.funcs[119]?).bind (XaF Tryz.prog)=some XU2:=by kernel_rfl
theorem XKI:(Tryz.prog.funcs[97]?).bind (XaF Tryz.prog)=some fn97:=by kernel_rfl
theorem XHf:(Tryz.prog.funcs[118]?).bind (XaF Tryz.prog)=some XSC:=by kernel_rfl
theorem XD3:(Tryz.prog.funcs[160]?).bind (XaF Tryz.prog)=some XVE:=by kernel_rfl
theorem XCM:(Tryz.prog.funcs[180]?).bind (XaF Tryz.prog)=some XUV:=by kernel_rfl
theorem XGo:(Tryz.prog.funcs[195]?).bind (XaF Tryz.prog)=some XRv:=by kernel_rfl
theorem XDP:(Tryz.prog.funcs[196]?).bind (XaF Tryz.prog)=some XRX:=by kernel_rfl
theorem XDn:(Tryz.prog.funcs[181]?).bind (XaF Tryz.prog)=some XV4:=by kernel_rfl
theorem XFB:(Tryz.prog.funcs[197]?).bind (XaF Tryz.prog)=some XRV:=by kernel_rfl
theorem XE4:(Tryz.prog.funcs[182]?).bind (XaF Tryz.prog)=some XW6:=by kernel_rfl
theorem XDS:(Tryz.prog.funcs[183]?).bind (XaF Tryz.prog)=some XUy:=by kernel_rfl
theorem XCb:(Tryz.prog.funcs[130]?).bind (XaF Tryz.prog)=some XUU:=by kernel_rfl
theorem XEB:(Tryz.prog.funcs[164]?).bind (XaF Tryz.prog)=some XWS:=by kernel_rfl
theorem XFi:(Tryz.prog.funcs[189]?).bind (XaF Tryz.prog)=some XR3:=by kernel_rfl
theorem XC0:(Tryz.prog.funcs[165]?).bind (XaF Tryz.prog)=some XS5:=by kernel_rfl
theorem XPZ:(Tryz.prog.funcs[98]?).bind (XaF Tryz.prog)=some fn98:=by kernel_rfl
theorem XHw:(Tryz.prog.funcs[161]?).bind (XaF Tryz.prog)=some XTV:=by kernel_rfl
theorem XGN:(Tryz.prog.funcs[184]?).bind (XaF Tryz.prog)=some XUw:=by kernel_rfl
theorem XGU:(Tryz.prog.funcs[198]?).bind (XaF Tryz.prog)=some XSQ:=by kernel_rfl
theorem XDu:(Tryz.prog.funcs[185]?).bind (XaF Tryz.prog)=some XTl:=by kernel_rfl
theorem XHE:(Tryz.prog.funcs[199]?).bind (XaF Tryz.prog)=some XUJ:=by kernel_rfl
theorem XEr:(Tryz.prog.funcs[203]?).bind (XaF Tryz.prog)=some XTK:=by kernel_rfl
theorem XDo:(Tryz.prog.funcs[204]?).bind (XaF Tryz.prog)=some XRl:=by kernel_rfl
theorem XEh:(Tryz.prog.funcs[120]?).bind (XaF Tryz.prog)=some XSd:=by kernel_rfl
theorem XCC:(Tryz.prog.funcs[121]?).bind (XaF Tryz.prog)=some XSV:=by kernel_rfl
theorem XKG:(Tryz.prog.funcs[70]?).bind (XaF Tryz.prog)=some fn70:=by kernel_rfl
theorem XFt:(Tryz.prog.funcs[122]?).bind (XaF Tryz.prog)=some XRZ:=by kernel_rfl
theorem XHz:(Tryz.prog.funcs[123]?).bind (XaF Tryz.prog)=some XWE:=by kernel_rfl
theorem XHn:(Tryz.prog.funcs[162]?).bind (XaF Tryz.prog)=some XVx:=by kernel_rfl
theorem XEX:(Tryz.prog.funcs[186]?).bind (XaF Tryz.prog)=some XUm:=by kernel_rfl
theorem XG2:(Tryz.prog.funcs[187]?).bind (XaF Tryz.prog)=some XSu:=by kernel_rfl
theorem XHe:(Tryz.prog.funcs[163]?).bind (XaF Tryz.prog)=some XUW:=by kernel_rfl
theorem XEV:(Tryz.prog.funcs[188]?).bind (XaF Tryz.prog)=some XVp:=by kernel_rfl
theorem XDq:(Tryz.prog.funcs[200]?).bind (XaF Tryz.prog)=some XSX:=by kernel_rfl
theorem XBZ:(Tryz.prog.funcs[124]?).bind (XaF Tryz.prog)=some XW9:=by kernel_rfl
theorem XF6:(Tryz.prog.funcs[125]?).bind (XaF Tryz.prog)=some XUb:=by kernel_rfl
theorem XMA:(Tryz.prog.funcs[93]?).bind (XaF Tryz.prog)=some fn93:=by kernel_rfl
theorem XOF:(Tryz.prog.funcs[81]?).bind (XaF Tryz.prog)=some fn81:=by kernel_rfl
theorem XGc:(Tryz.prog.funcs[131]?).bind (XaF Tryz.prog)=some XSp:=by kernel_rfl
theorem XFN:(Tryz.prog.funcs[166]?).bind (XaF Tryz.prog)=some XRC:=by kernel_rfl
theorem XHb:(Tryz.prog.funcs[190]?).bind (XaF Tryz.prog)=some XTw:=by kernel_rfl
theorem XLg:(Tryz.prog.funcs[77]?).bind (XaF Tryz.prog)=some fn77:=by kernel_rfl
theorem XK7:(Tryz.prog.funcs[78]?).bind (XaF Tryz.prog)=some fn78:=by kernel_rfl
theorem XDU:(Tryz.prog.funcs[129]?).bind (XaF Tryz.prog)=some XRh:=by kernel_rfl
theorem XEY:(Tryz.prog.funcs[138]?).bind (XaF Tryz.prog)=some XT7:=by kernel_rfl
theorem XKc:(Tryz.prog.funcs[95]?).bind (XaF Tryz.prog)=some fn95:=by kernel_rfl
theorem XKK:(Tryz.prog.funcs[80]?).bind (XaF Tryz.prog)=some fn80:=by kernel_rfl
theorem XEk:(Tryz.prog.funcs[201]?).bind (XaF Tryz.prog)=some XS3:=by kernel_rfl
theorem XFu:(Tryz.prog.funcs[202]?).bind (XaF Tryz.prog)=some XRa:=by kernel_rfl
theorem XDa:(Tryz.prog.funcs[191]?).bind (XaF Tryz.prog)=some XR5:=by kernel_rfl
theorem XG8:(Tryz.prog.funcs[132]?).bind (XaF Tryz.prog)=some XVJ:=by kernel_rfl
theorem XHi:(Tryz.prog.funcs[167]?).bind (XaF Tryz.prog)=some XT5:=by kernel_rfl
theorem XC9:(Tryz.prog.funcs[192]?).bind (XaF Tryz.prog)=some XWB:=by kernel_rfl
theorem XHt:(Tryz.prog.funcs[169]?).bind (XaF Tryz.prog)=some XVr:=by kernel_rfl
theorem XCT:(Tryz.prog.funcs[170]?).bind (XaF Tryz.prog)=some XUG:=by kernel_rfl
theorem XDO:(Tryz.prog.funcs[193]?).bind (XaF Tryz.prog)=some XWk:=by kernel_rfl
theorem XFh:(Tryz.prog.funcs[134]?).bind (XaF Tryz.prog)=some XVe:=by kernel_rfl
theorem XGm:(Tryz.prog.funcs[133]?).bind (XaF Tryz.prog)=some XQW:=by kernel_rfl
theorem XCB:(Tryz.prog.funcs[168]?).bind (XaF Tryz.prog)=some XV8:=by kernel_rfl
theorem XND:(Tryz.prog.funcs[94]?).bind (XaF Tryz.prog)=some fn94:=by kernel_rfl
theorem XGQ:(Tryz.prog.funcs[139]?).bind (XaF Tryz.prog)=some XWZ:=by kernel_rfl
theorem XGT:(Tryz.prog.funcs[140]?).bind (XaF Tryz.prog)=some XVn:=by kernel_rfl
end Go.Vm.Code
